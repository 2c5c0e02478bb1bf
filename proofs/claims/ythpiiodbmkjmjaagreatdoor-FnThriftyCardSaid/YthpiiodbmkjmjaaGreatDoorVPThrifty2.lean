/-
  Contracts of functions that the law of FnThrifty reaches, part 2.
-/
import Derived.Test.YthpiiodbmkjmjaaGreatDoorVPThrifty1
namespace Go.Proofs.YthpiiodbmkjmjaaGreatDoor.fnThrifty
open Go.Proofs.YthpiiodbmkjmjaaGreatDoor
open Go.D Go.Proofs.Tryz
set_option maxRecDepth 100000
set_option maxHeartbeats 2000000
set_option linter.defProp false
set_option linter.unusedVariables false
set_option linter.unusedSimpArgs false
def AkG:=Ali.a A1<|Fct.p (KP [0,1,4,5,7,8] [9,16]) (λ⟨l,u,_⟩=>lv [(2,Av l u)]) Ali.2 func137 (by
 rintro⟨(l:List au),(u:aK),_⟩ hp;refine ho (lpx (Av l u) ((0:Int),()) λ(y1:B_) bk1=>.br (decide (y1.1<(l.length:Int))) (.ob (inB y1.1 l.length)<|.cl Fm (l.getD y1.1.toNat default,u.1,()) λz2=>.br (z2.1) (.lf A1 (y1.1,())) (.re (l)<|.re (enc Ty.addr u.1)<|.re (Value.int IntKind.i64 (l.length:Int))<|.bk (bk1 (w1 y1.1,())))) (.lf A1 ((-1:Int),()))) ?_;refine Am ?_ λ(y1:B_) i1=>Aa (λh2=>Ab ?_ λ_=>Ae trivial λ_=>Aa (λh4=>lfY ?_) λh4=>Ai<|Ai<|Ai<|AR ?_) (λh2=>lfY ?_)<;>(try simp only[std,Nat.reduceAdd] at *)<;>(try have hp2:=hp.2)<;>(try have hp1:=hp.1)<;>(first|trivial|omega|grind[FS,A_,HO,G_,F_,maxLen,fidx]))
def AjV:=AkG.a C7<|Fct.o [0,3,4] AkG.2 func51 (by
 rintro⟨(l:List au),(a:D_),_⟩ hp;exact hg (.cl A1 (l,(a,()),()) λ(z2:B_)=>.lf C7 (z2.1,())) (@findGuess.eq_1))
abbrev GZ:Fct:=⟨[.v (.sl .guess)],[.sl .guess],λ(x:dz)=>x.1.length<=4194304,λ(x:dz)=>(x.1,())⟩
def AlH:=AjV.a GZ<|Fct.o [0,2] AjV.2 func114 (by
 rintro⟨(l:List au),_⟩ hp;exact hq (.ap (0+List.length l) 104<|.lf GZ ([]++l,())))
def addGuess (l:List au) (a:D_) (x:R_):List au×Bool:=if 0<=findGuess l a\/6<=countIf (λg=>!g.used) l then(l,false) else(l++[⟨a,x,false⟩],true)
abbrev EF:Fct:=⟨[.v (.sl .guess),.v (.el .addr),.v (.el .bd)],[.sl .guess,.el .bool],λ(x:fV)=>x.1.length<=4194304,λ(x:fV)=>((addGuess x.1 x.2.1 x.2.2.1).1,(addGuess x.1 x.2.1 x.2.2.1).2,())⟩
def AlP:=AlH.a EF<|Fct.o (KP [0,4,5,6,7,8] [20]) AlH.2 func170 (by
 rintro⟨(l:List au),(a:D_),(x:R_),_⟩ hp;exact hg (.ap (0+List.length l) 104<|.cl C7 (l,a,()) λ(z2:B_)=>.br (decide (z2.1>=0)) (.lf EF ([]++l,false,())) (.cl Hz (l,()) λ(z3:B_)=>.br (decide (z3.1>=6)) (.lf EF ([]++l,false,())) (.ap (([]++l).length+[(⟨a,x,false⟩:au)].length) 104<|.lf EF ([]++l++[(⟨a,x,false⟩:au)],true,())))) (@addGuess.eq_1))
def Alp:=AlP.a EF<|Fct.o (KP [0,4,5,6,7,8] [19]) AlP.2 func59 (by
 rintro⟨(l:List au),(a:D_),(x:R_),_⟩ hp;exact hg (.cl GZ (l,()) λz2=>.cl C7 (l,a,()) λ(z3:B_)=>.br (decide (z3.1>=0)) (.lf EF (z2.1,false,())) (.cl Hz (l,()) λ(z4:B_)=>.br (decide (z4.1>=6)) (.lf EF (z2.1,false,())) (.ap (z2.1.length+[(⟨a,x,false⟩:au)].length) 104<|.lf EF (z2.1++[(⟨a,x,false⟩:au)],true,())))) (@addGuess.eq_1))
def useGuess (l:List au) (a:D_):List au×R_×Bool:=if findGuess l a<0 then(l,notFound,false) else(l.modify (findGuess l a).toNat λg=>{ g with used:=true },(l.getD (findGuess l a).toNat default).bd,true)
abbrev GW:Fct:=⟨[.v (.sl .guess),.v (.el .addr)],[.sl .guess,.el .bd,.el .bool],λ(x:eR)=>x.1.length<=4194304,λ(x:eR)=>((useGuess x.1 x.2.1).1,(useGuess x.1 x.2.1).2.1,(useGuess x.1 x.2.1).2.2,())⟩
def AjL:=Alp.a GW<|Fct.o (KP [0,3,4,5,6,7,8] [16]) Alp.2 func68 (by
 rintro⟨(l:List au),(a:D_),_⟩ hp;exact hg (.ap (0+List.length l) 104<|.cl C7 (l,a,()) λ(z2:B_)=>.br (decide (z2.1<0)) (.cl DB () λz3=>.lf GW ([]++l,z3.1,false,())) (.ix z2.1 (([]++l).length)<|.lt (List au) (([]++l).modify z2.1.toNat λz=>(⟨z.to,z.bd,true⟩:au)) λz4=>.ob (0<=z2.1/\z2.1<(↑(List.length l):Int))<|.lf GW (z4,(List.getD l z2.1.toNat default).bd,true,()))) (an_ @useGuess.eq_1<|an_ @findGuess.eq_1<|(DI (λg:au=>decide (g.to=a)) l 0 o_)))
def AkD:=AjL.a GW<|Fct.o (KP [0,3,4,5,6,7,8] [15]) AjL.2 func44 (by
 rintro⟨(l:List au),(a:D_),_⟩ hp;exact hg (.cl GZ (l,()) λz2=>.cl C7 (l,a,()) λ(z3:B_)=>.br (decide (z3.1<0)) (.cl DB () λz4=>.lf GW (z2.1,z4.1,false,())) (.ix z3.1 z2.1.length<|.lt (List au) (z2.1.modify z3.1.toNat λz=>(⟨z.to,z.bd,true⟩:au)) λz5=>.ob (0<=z3.1/\z3.1<(↑(List.length l):Int))<|.lf GW (z5,(List.getD l z3.1.toNat default).bd,true,()))) (an_ @useGuess.eq_1<|an_ @findGuess.eq_1<|(DI (λg:au=>decide (g.to=a)) l 0 o_)))
def Agf {b:List Int} (h:Sh.good (.sl .u8) b):∀ j,j<b.length->0<=b.getD j default/\b.getD j default<=255:=by
 intro j hj;have h1:=(Abj (t:=.u8) h hj) (.val (.int .u8 (b.getD j default))) (by simp[Sh.fc,enc]);simp only[KE,Lit.wf,Z_,aH] at h1;exact h1
def Ahc {α:Type} (f:α->Nat) (l:List α):szL f l=(l.map λx=>f x+1).sum:=by
 induction l with
 | nil=>rfl
 | cons x l ih=>
  have h3:szL f (x::l)=f x+1+szL f l:=by simp only[szL,bZ,List.sum_cons,aw];omega
  simp_all
def OO (b:UInt8) (s:ByteArray):szL Af (spl b s)=s.size+1:=by
 rw[Ahc,<-Br,<-Vw b (toL s)];unfold spl;rw[ek];congr 1
abbrev Fi:Fct:=⟨[.v (.el .str),.v (.el .u8)],[.sl .str],λ(x:ai)=>x.1.size<=1099511627776/\0<=x.2.1/\x.2.1<=255,λ(x:ai)=>(spl (UInt8.ofNat x.2.1.toNat) x.1,())⟩
def NP {s:ByteArray} {i:Nat} {b:Int} (h0:0<=b) (h1:b<=255):((s.data.getD i 0).toNat:Int)=b↔s.data.getD i 0=UInt8.ofNat b.toNat:=by
 constructor
 ·intro h;apply UInt8.toNat_inj.1;rw[UInt8.toNat_ofNat'];omega
 ·intro h;rw[h,UInt8.toNat_ofNat'];omega
abbrev FI (s:ByteArray) (b:Int):LInv:=⟨[⟨.s,5,true,.sl .str⟩,⟨.s,6,true,.el .int⟩,⟨.s,7,true,.el .int⟩],λ_ (x:dA)=>0<=x.2.2.1/\x.2.2.1<=s.size+1/\0<=x.2.1/\x.2.1<=x.2.2.1/\x.1.length<=x.2.2.1/\x.1++Mx (UInt8.ofNat b.toNat) s x.2.1.toNat x.2.2.1.toNat=spl (UInt8.ofNat b.toNat) s,λ(x:dA)=>(s.size+1-x.2.2.1).toNat⟩
def AjY:=AkD.a Fi<|Fct.p (KP [0,1,4,5,6,7] [12,25]) (λ⟨s,b,_⟩=>lv [(4,FI s b)]) AkD.2 func338 (by
 rintro⟨(s:ByteArray),(b:Int),_⟩ hp;refine ho (let L_:=Value.int IntKind.u8 b;let H_:=(s.size:Int);lpx (FI s b) ([],((0:Int),((0:Int),()))) λ(y1:dA) bk1=>let E_:Out:=.ob (0<=y1.2.1/\y1.2.1<=y1.2.2.1/\y1.2.2.1<=H_)<|.ap (y1.1.length+[s.extract y1.2.1.toNat y1.2.2.1.toNat].length) 16<|.re (Value.string s)<|.re L_<|.bk (bk1 (y1.1++[s.extract y1.2.1.toNat y1.2.2.1.toNat],(w1 y1.2.2.1,(w1 y1.2.2.1,()))));.br (decide (y1.2.2.1<=H_)) (.br (y1.2.2.1==H_) E_ (.ob (0<=y1.2.2.1/\y1.2.2.1<H_)<|.br ((↑(s.data.getD y1.2.2.1.toNat 0).toNat:Int)==b) E_ (.re (Value.string s)<|.re L_<|.bk (bk1 (y1.1,(y1.2.1,(w1 y1.2.2.1,()))))))) (.lf Fi (y1.1,()))) ?_;refine Am ?_ λ(y1:dA) i1=>Aa (λh2=>Aa (λh3=>Ab ?_ λ_=>Ed ?_ λ_=>Ai<|Ai<|AR ?_) λh3=>Ab ?_ λ_=>Aa (λh8=>Ab ?_ λ_=>Ed ?_ λ_=>Ai<|Ai<|AR ?_) λh8=>Ai<|Ai<|AR ?_) (λh2=>lfY ?_)<;>obtain⟨hp1,hp2,hp3⟩:=hp<;>(try obtain⟨a1,a2,a3,a4,a5,a6⟩:=i1)<;>(try obtain⟨a1,a2,a3,a4,a5,a6⟩:=i2)<;>(try obtain⟨a1,a2,a3,a4,a5,a6⟩:=i3)<;>(try simp only[std,Nat.reduceAdd,al,aw,aJ,NP hp2 hp3] at *)<;>(try simp(disch:=omega) only[FS,A_] at *)<;>(first|trivial|omega|exact⟨o_,o_,o_,o_,o_,W9 _ _⟩|skip)<;>(first|(refine⟨⟨o_,o_,o_,o_,o_,?_⟩,o_⟩;rw[XW _ o_] at a6;rw[Ss _ o_,cF];exact a6)|(refine⟨⟨o_,o_,o_,o_,o_,?_⟩,o_⟩;rw[YO o_ ‹_›] at a6;rw[bB];exact a6)|(refine⟨⟨o_,o_,o_,o_,o_,?_⟩,o_⟩;rw[XT o_ o_ ‹_›] at a6;exact a6)|(rw[Ss _ o_,cF] at a6;exact a6)|skip))
def polCand (s:ByteArray):aN:=⟨true,(spl 32 ((spl 59 s).getD 0 default)).drop 1,(spl 32 ((spl 59 s).getD 1 default)).drop 1,(spl 32 ((spl 59 s).getD 2 default)).drop 1,if 3<(spl 59 s).length/\6<((spl 59 s).getD 3 default).size then((spl 59 s).getD 3 default).extract 6 ((spl 59 s).getD 3 default).size else⟨#[]⟩⟩
def parsePolicy (s:ByteArray):aN×Bool:=if s=⟨#[]⟩ then(default,true) else if 3<=(spl 59 s).length/\formatPolicy (polCand s)=s then(polCand s,true) else(default,false)
def Ew (b:UInt8) (s:ByteArray) (k:Nat):((spl b s).getD k default).size<=s.size:=by
 by_cases h:k<(spl b s).length
 ·exact KX (AH h)
 ·rw[cd,List.getElem?_eq_none o_];exact Nat.zero_le _
def Sl {s n:ByteArray} (hn:n.size<=s.size):AQ ⟨true,(spl 32 ((spl 59 s).getD 0 default)).drop 1,(spl 32 ((spl 59 s).getD 1 default)).drop 1,(spl 32 ((spl 59 s).getD 2 default)).drop 1,n⟩<=4*(s.size+1):=by
 have h0:=Ew 59 s 0;have h1:=Ew 59 s 1;have h2:=Ew 59 s 2;have d0:=Re Af (spl 32 ((spl 59 s).getD 0 default)) 1;have d1:=Re Af (spl 32 ((spl 59 s).getD 1 default)) 1;have d2:=Re Af (spl 32 ((spl 59 s).getD 2 default)) 1;rw[OO] at d0 d1 d2;simp only[AQ];omega
abbrev Ch:Fct:=⟨[.v (.el .str)],[.el .bj,.el .bool],λ(x:K_)=>x.1.size<=200000000,λ(x:K_)=>((parsePolicy x.1).1,(parsePolicy x.1).2,())⟩
def Akz:=AjY.a Ch<|Fct.o (KP [0,2,3,4,5] [7,13,40,49]) AjY.2 func256 (by
 rintro⟨(s:ByteArray),_⟩ hp;refine ho (let aM:=({ data := #[]:ByteArray });let H_:Out:=.leaf (.tup [(true,[vb (false),.nl,.nl,.nl,vs aM]),(false,[vb (false)])]) [] [];.br (ByteArray.toList s=={ data := #[]:ByteArray }.toList) (.leaf (.tup [(true,[vb (false),.nl,.nl,.nl,vs aM]),(false,[vb (true)])]) [] []) (.ob (Fi.pre (s,(59:Int),()))<|.lt bP (Fi.fn (s,(59:Int),())) λz2=>let bQ:=(3:Nat)<z2.fst.length;let aj:=(z2.fst.length:Int);let aF:=(0:Int)<=(3:Int)/\(3:Int)<aj;let U_:=z2.fst.getD (3:Nat) default;.br (decide (aj<(3:Int))) H_ (.ob ((0:Int)<=(0:Int)/\(0:Int)<aj)<|.ob ((0:Nat)<z2.fst.length)<|.ob (Fi.pre (z2.fst.getD (0:Nat) default,(32:Int),()))<|.lt bP (Fi.fn (z2.fst.getD (0:Nat) default,(32:Int),())) λz3=>let L_:=z3.fst.length-(1:Nat);let aC:=(1:Nat)+L_<=z3.fst.length;.ob ((0:Int)<=(1:Int)/\(1:Int)<=(z3.fst.length:Int))<|.ob ((0:Int)<=(1:Int)/\(1:Int)<aj)<|.ob ((1:Nat)<z2.fst.length)<|.ob (Fi.pre (z2.fst.getD (1:Nat) default,(32:Int),()))<|.lt bP (Fi.fn (z2.fst.getD (1:Nat) default,(32:Int),())) λz4=>let M_:=z4.fst.length-(1:Nat);let aU:=(1:Nat)+M_<=z4.fst.length;.ob ((0:Int)<=(1:Int)/\(1:Int)<=(z4.fst.length:Int))<|.ob ((0:Int)<=(2:Int)/\(2:Int)<aj)<|.ob ((2:Nat)<z2.fst.length)<|.ob (Fi.pre (z2.fst.getD (2:Nat) default,(32:Int),()))<|.lt bP (Fi.fn (z2.fst.getD (2:Nat) default,(32:Int),())) λz5=>let Q_:=z5.fst.length-(1:Nat);let bL:=(1:Nat)+Q_<=z5.fst.length;let E_:Out:=.ob aC<|.ob aU<|.ob bL<|.ob (AN.pre ({ set_:=true,bp:=cut z3.fst (1:Nat) L_,styles:=cut z4.fst (1:Nat) M_,images:=cut z5.fst (1:Nat) Q_,nonce:={ data := #[]:ByteArray }:aN },()))<|.lt K_ (AN.fn ({ set_:=true,bp:=cut z3.fst (1:Nat) L_,styles:=cut z4.fst (1:Nat) M_,images:=cut z5.fst (1:Nat) Q_,nonce:={ data := #[]:ByteArray }:aN },())) λz7=>.br (!z7.fst.toList==ByteArray.toList s) H_ (.ob aC<|.ob aU<|.ob bL<|.leaf (mkR Ch.rs (⟨true,cut z3.fst (1:Nat) L_,cut z4.fst (1:Nat) M_,cut z5.fst (1:Nat) Q_,{ data := #[]:ByteArray }⟩,true,())) [] []);.ob ((0:Int)<=(1:Int)/\(1:Int)<=(z5.fst.length:Int))<|.br (decide (aj>(3:Int))) (.ob aF<|.ob bQ<|.br (decide ((U_.size:Int)>(6:Int))) (.ob aF<|.ob bQ<|.ob ((0:Int)<=(6:Int)/\(6:Int)<=(U_.size:Int))<|.ob aC<|.ob aU<|.ob bL<|.ob (AN.pre ({ set_:=true,bp:=cut z3.fst (1:Nat) L_,styles:=cut z4.fst (1:Nat) M_,images:=cut z5.fst (1:Nat) Q_,nonce:=U_.extract (6:Nat) U_.size:aN },()))<|.lt K_ (AN.fn ({ set_:=true,bp:=cut z3.fst (1:Nat) L_,styles:=cut z4.fst (1:Nat) M_,images:=cut z5.fst (1:Nat) Q_,nonce:=U_.extract (6:Nat) U_.size:aN },())) λz6=>.br (!z6.fst.toList==ByteArray.toList s) H_ (.ob aC<|.ob aU<|.ob bL<|.leaf (mkR Ch.rs (⟨true,cut z3.fst (1:Nat) L_,cut z4.fst (1:Nat) M_,cut z5.fst (1:Nat) Q_,U_.extract (6:Nat) U_.size⟩,true,())) [] [])) E_) E_))) ?_;refine Aa (λh1=>Fct.leafZ (default,true,()) (by repeat' first|exact rfl|exact trivial|refine And.intro ?_ ?_) ?_) λh1=>Ab ?_ λ_=>DS (Aa (λh3=>Fct.leafZ (default,false,()) (by repeat' first|exact rfl|exact trivial|refine And.intro ?_ ?_) ?_) λh3=>Ab ?_ λ_=>Ab ?_ λ_=>Ab ?_ λ_=>DS (Ab ?_ λ_=>Ab ?_ λ_=>Ab ?_ λ_=>Ab ?_ λ_=>DS (Ab ?_ λ_=>Ab ?_ λ_=>Ab ?_ λ_=>Ab ?_ λ_=>DS (Ab ?_ λ_=>Aa (λh16=>Ab ?_ λ_=>Ab ?_ λ_=>Aa (λh19=>Ab ?_ λ_=>Ab ?_ λ_=>Ab ?_ λ_=>Ab ?_ λ_=>Ab ?_ λ_=>Ab ?_ λ_=>Ab ?_ λ_=>DS (Aa (λh27=>Fct.leafZ (default,false,()) (by repeat' first|exact rfl|exact trivial|refine And.intro ?_ ?_) ?_) λh27=>Ab ?_ λ_=>Ab ?_ λ_=>Ab ?_ λ_=>Fct.leafY ?_)) λh19=>Ab ?_ λ_=>Ab ?_ λ_=>Ab ?_ λ_=>Ab ?_ λ_=>DS (Aa (λh35=>Fct.leafZ (default,false,()) (by repeat' first|exact rfl|exact trivial|refine And.intro ?_ ?_) ?_) λh35=>Ab ?_ λ_=>Ab ?_ λ_=>Ab ?_ λ_=>Fct.leafY ?_)) λh16=>Ab ?_ λ_=>Ab ?_ λ_=>Ab ?_ λ_=>Ab ?_ λ_=>DS (Aa (λh43=>Fct.leafZ (default,false,()) (by repeat' first|exact rfl|exact trivial|refine And.intro ?_ ?_) ?_) λh43=>Ab ?_ λ_=>Ab ?_ λ_=>Ab ?_ λ_=>Fct.leafY ?_)))));all_goals
  try simp only[Kj] at *
  try simp only[std,Nat.reduceAdd,cY] at *
  try simp only[show UInt8.ofNat (Int.toNat 59)=59 from rfl,show UInt8.ofNat (Int.toNat 32)=32 from rfl] at *
 all_goals (have g0:=Ew 59 s 0;have g1:=Ew 59 s 1;have g2:=Ew 59 s 2;have g3:=Ew 59 s 3;have k0:=DU 32 ((spl 59 s).getD 0 default);have k1:=DU 32 ((spl 59 s).getD 1 default);have k2:=DU 32 ((spl 59 s).getD 2 default))<;>(first|trivial|omega|(with_reducible refine bT (Sl (Nat.zero_le _)) ?_;omega)|(with_reducible refine bT (Sl ?_) ?_;(rw[cH];omega);omega)|skip)<;>(first|(simp only[parsePolicy];rw[I_ ‹_›];exact⟨rfl,rfl⟩)|(simp only[parsePolicy];rw[J_ ‹_›,J_ o_];exact⟨rfl,rfl⟩)|(simp only[parsePolicy,polCand];grind)|skip))
def isResponse (x:R_):Bool:=inRange x.status 100 599&&(inRange x.kind 1 5&&(decide (x.body.size<=400)&&(inRange x.age 0 1000&&(parsePolicy x.bj).2)))
abbrev AJ:Fct:=⟨[.v (.el .bd)],[.el .bool],λ(x:aP)=>x.1.bj.size<=200000000,λ(x:aP)=>(isResponse x.1,())⟩
def Ak0:=Akz.a AJ<|Fct.o [1,2,4] Akz.2 func158 (by
 rintro⟨(x:R_),_⟩ hp;exact hg (.cl Ch (x.bj,()) λz2=>.cl Au (x.status,(100:Int),(599:Int),()) λz3=>.br (z3.1) (.cl Au (x.kind,(1:Int),(5:Int),()) λz4=>.br (z4.1) (.br (decide ((x.body.size:Int)<=400)) (.cl Au (x.age,(0:Int),(1000:Int),()) λz5=>.br (z5.1) (.lf AJ (z2.2.1,())) (.lf AJ (false,()))) (.lf AJ (false,()))) (.lf AJ (false,()))) (.lf AJ (false,()))) (@isResponse.eq_1))
def entOk (all:List bU):List bU->Int->Bool
 | [],_=>true
 | e::l,i=>isName e.top&&(isName e.to.host&&isName e.to.path)&&isResponse e.bd&&decide (e.bd.status=200)&&decide (fidx (λx=>decide (x.top=e.top)&&decide (x.to=e.to)) all 0=i)&&entOk all l (i+1)
theorem dj {all l:List bU} {i:Nat} {k:Int} (h:i<l.length):entOk all (l.drop i) k=(isName (l.getD i default).top&&(isName (l.getD i default).to.host&&isName (l.getD i default).to.path)&&isResponse (l.getD i default).bd&&decide ((l.getD i default).bd.status=200)&&decide (fidx (λx=>decide (x.top=(l.getD i default).top)&&decide (x.to=(l.getD i default).to)) all 0=k)&&entOk all (l.drop (i+1)) (k+1)):=by rw[HO h];rfl
theorem cL {all l:List bU} {i:Nat} {k:Int} (h:l.length<=i):entOk all (l.drop i) k=true:=by rw[bR h];rfl
def isCache (c:bv):Bool:=entOk c.bg c.bg 0&&decide (c.bg.length<=100)
abbrev Eg:Fct:=⟨[.v (.el .cache)],[.el .bool],λ(x:cz)=>szCache x.1<=200000000,λ(x:cz)=>(isCache x.1,())⟩
def OD {l:List bU} {i:Nat} (h:i<l.length):AY (l.getD i default)+l.length<=szL AY l:=C6 AY h
abbrev CP (c:bv):LInv:=⟨[⟨.s,3,true,.el .int⟩,⟨.b,1,false,.el .cache⟩],λ(z x:dB)=>(0<=x.1/\x.1<=c.bg.length/\entOk c.bg (c.bg.drop x.1.toNat) x.1=entOk c.bg c.bg 0)/\x.2.1=z.2.1,λ(x:dB)=>c.bg.length-x.1.toNat⟩
def AnO:=Ak0.a Eg<|Fct.p (KP [1,2,3,4] [9,48]) (λ⟨c,_⟩=>lv [(2,CP c)]) Ak0.2 func257 (by
 rintro⟨(c:bv),_⟩ hp;refine ho (let H_:Out:=.lf Eg (false,());lpx (CP c) ((0:Int),(c,())) λ(y1:dB) bk1=>let L_:=(y1.2.1.bg.length:Int);let E_:=y1.2.1.bg.getD y1.1.toNat default;.br (decide (y1.1<L_)) (.ob (inB y1.1 y1.2.1.bg.length)<|.cl Bv (E_.top,()) λz2=>.br (!z2.1) H_ (.cl DH (E_.to,()) λz3=>.br (!z3.1) H_ (.cl AJ (E_.bd,()) λz4=>.br (!z4.1) H_ (.br (E_.bd.status != 200) H_ (.cl Ee (y1.2.1,E_.top,E_.to,()) λ(z5:B_)=>.br (z5.1 != y1.1) H_ (.bk (bk1 (w1 y1.1,(y1.2.1,()))))))))) (.lf Eg (decide (L_<=100),()))) ?_;repeat' (guard_target =~ Out.holds _ _;first|refine Am (li:=CP c) ?_ λ(y1:dB) i1=>?_|refine lfY ?_|refine Aa (λ_=>?_) λ_=>?_|refine Ae ?_ λ_=>?_|refine Ab ?_ λ_=>?_|refine AR ?_)
 all_goals (have hl:=Ac AY c.bg;have hg:∀ i,i<c.bg.length->(c.bg.getD i default).top.size<=200000000/\(c.bg.getD i default).to.host.size<=200000000/\(c.bg.getD i default).to.path.size<=200000000/\(c.bg.getD i default).bd.bj.size<=200000000:=λi h=>by have:=OD h;have hp2:szCache c<=200000000:=hp;simp only[AY,szCache,szAddr,Ad] at *;omega)<;>(try simp only[std,Nat.reduceAdd,isCache,szCache,dj,cL] at *)<;>(try simp(disch:=omega) only[FS,A_] at *)<;>(try simp(disch:=omega) only[I_,J_])<;>(first|trivial|omega|grind[FS,A_,HO,G_,F_,maxLen,isCache,szCache,dj,cL]))
def Adg:Go.Proofs.Lays.n101 Tryz.prog laysCmp_r:=by repeat' first|kernel_rfl|constructor|intro _
def AnU:=AnO.a I3<|Afi (Go.Proofs.Any.strings_TrimPrefix Adg)
def Z3:Go.Proofs.Lays.n146 Tryz.prog laysCmp_r:=by repeat' first|kernel_rfl|constructor|intro _
def AnQ:=AnU.a Hy<|AdB λs sep w h hs h1=>by obtain⟨m,hm⟩:=N9 (zero := #[.int .i64 0]) (t:=3) (g:=laysCmp_r.g 1) h (fx k_) k_ rfl k_ k_ Tryz.underlying3;exact Go.Proofs.Any.strings_Split Z3 k_ s sep m w hs hm h1
def VF:Go.Proofs.Lays.n156 Tryz.prog laysCmp_r:=by repeat' first|kernel_rfl|constructor|intro _
def Sk:Go.Proofs.Builder.Extra Tryz.prog laysCmp_r:=⟨⟨k_,k_⟩,k_,λ_=>k_,λ_=>k_,λ_=>k_,k_,k_,k_,by decide⟩
def Amc:=AnQ.a RL<|AgH (λ_ _=>trivial) (Go.Proofs.Any.strings_Join_none VF Sk) (Go.Proofs.Any.strings_Join VF Sk)
def PY (sep x:List UInt8):∀ l:List (List UInt8),RT sep (x::l)=x++(l.map (sep++·)).flatten
 | []=>by simp[RT]
 | y::l=>by rw[RT,PY sep y l,bZ,List.flatten_cons];simp
def MJ:∀ (l:List ByteArray) (w:ByteArray),toL (words9 w l)=toL w++(l.map λx=>32::toL x).flatten
 | [],w=>by simp[words9]
 | x::l,w=>by rw[words9,MJ l,C2,C2,bZ,List.flatten_cons];simp[toL]
def Uq (w:ByteArray) (l:List ByteArray):MF (w::l) ⟨#[32]⟩=words9 w l:=by
 unfold MF;rw[<-Cg (words9 w l),MJ,bZ,PY,ek];congr 2
def Als:=Amc.a AN<|Fct.o (KP [1,2,3] [11,33]) Amc.2 func299 (by
 rintro⟨(p:aN),_⟩ hp;refine ho (let Q_:=(⟨#[]⟩:ByteArray);let M_:=(⟨#[32]⟩:ByteArray);let L_:Out:=.lf AN (Q_,());let H_:=(⟨#[59,110,111,110,99,101,32]⟩:ByteArray);let E_:=(⟨#[59]⟩:ByteArray);.cl Cp (p,()) λz2=>.br (!z2.1) L_ (.br (!p.set_) L_ (.ap (1+p.bp.length) 16<|.cl RL ([(⟨#[115,99,114,105,112,116]⟩:ByteArray)]++p.bp,M_,()) λz3=>.ob (sameSize z3.1 E_)<|.ap (1+p.styles.length) 16<|.cl RL ([(⟨#[115,116,121,108,101]⟩:ByteArray)]++p.styles,M_,()) λz4=>.ob (sameSize (z3.1++E_) z4.1)<|.ob (sameSize (z3.1++E_++z4.1) E_)<|.ap (1+p.images.length) 16<|.cl RL ([(⟨#[105,109,103]⟩:ByteArray)]++p.images,M_,()) λz5=>.ob (sameSize (z3.1++E_++z4.1++E_) z5.1)<|.br (!p.nonce.toList==Q_.toList) (.ob (sameSize H_ p.nonce)<|.ob (sameSize (z3.1++E_++z4.1++E_++z5.1) (H_++p.nonce))<|.lf AN (z3.1++E_++z4.1++E_++z5.1++(H_++p.nonce),())) (.lf AN (z3.1++E_++z4.1++E_++z5.1,()))))) ?_;repeat' (guard_target =~ Out.holds _ _;first|refine lfY ?_|refine Aa (λ_=>?_) λ_=>?_|refine Ae ?_ λ_=>?_|refine Ab ?_ λ_=>?_|refine Ed ?_ λ_=>?_)
 all_goals (try simp only[RL,std,Nat.reduceAdd,List.singleton_append,Uq] at *)<;>(first|trivial|omega|skip)<;>(try have hA:isPolicy p=true:=‹_›;have hB:p.set_=true:=‹_›;obtain⟨a1,a2,a3,a4,a5,a6,a7⟩:=FK hA hB)<;>(try have b1:=FQ (w:=⟨#[115,99,114,105,112,116]⟩) a1 a2 (by decide))<;>(try have b2:=FQ (w:=⟨#[115,116,121,108,101]⟩) a3 a4 (by decide))<;>(try have b3:=FQ (w:=⟨#[105,109,103]⟩) a5 a6 (by decide))<;>(try simp only[RL,std,Nat.reduceAdd,formatPolicy,sameSize,aQ,ByteArray.append_assoc] at *)<;>(try simp(disch:=omega) only[FS,A_] at *)<;>(try simp(disch:=omega) only[I_,J_])<;>(first|trivial|omega|grind[FS,A_,HO,G_,F_,maxLen,formatPolicy,sameSize,ByteArray.size_append,ByteArray.append_assoc]))
def AfY {b:UInt8} (hb:nameByte b=false) {s:ByteArray} (h:isName s=true):b∉toL s:=by
 intro hm;simp only[isName,Z_,allB,bM] at h;rw[h.1 b hm] at hb;cases hb
def OX {b:UInt8} (hb:nameByte b=false) (h32:b≠32) {l:List ByteArray} {w:ByteArray} (hl:l.all isName=true) (hw:b∉toL w):b∉toL (words9 w l):=by
 rw[MJ];simp only[aR,not_or,List.mem_flatten,eu,not_exists,not_and];refine⟨hw,?_⟩;rintro _ ⟨x,hx,rfl⟩ hm;rcases cp.1 hm with rfl|hm
 ·exact h32 rfl
 ·exact AfY hb (bM.1 hl x hx) hm
def R9 {b:UInt8} (hb:valByte b=false) {s:ByteArray} (h:isValue s=true):b∉toL s:=by
 intro hm;simp only[isValue,Z_,allB,bM] at h;rw[h.1 b hm] at hb;cases hb
def YE {b:UInt8} {s:ByteArray} (h:b∉toL s):spl b s=[s]:=by
 unfold spl;rw[Jv h];simp[Cg]
def Lw {b:UInt8} {s t:ByteArray} (h:b∉toL s):spl b (s++⟨#[b]⟩++t)=s::spl b t:=by
 unfold spl;rw[C2,C2,show toL ⟨#[b]⟩=[b] from rfl,bB,List.singleton_append,HV _ h,bZ,Cg]
def X8 {q:aN} (hp:isPolicy q=true) (hs:q.set_=true):(q.nonce=⟨#[]⟩/\(spl 59 (formatPolicy q)).length=3)\/(q.nonce≠⟨#[]⟩/\(spl 59 (formatPolicy q)).length=4/\(spl 59 (formatPolicy q)).getD 3 default=⟨#[110,111,110,99,101,32]⟩++q.nonce):=by
 obtain⟨a1,a2,a3,a4,a5,a6,a7⟩:=FK hp hs;have b1:=OX (b:=59) rfl (by decide) a1 (w:=⟨#[115,99,114,105,112,116]⟩) (by decide);have b2:=OX (b:=59) rfl (by decide) a3 (w:=⟨#[115,116,121,108,101]⟩) (by decide);have b3:=OX (b:=59) rfl (by decide) a5 (w:=⟨#[105,109,103]⟩) (by decide);by_cases hn:q.nonce=⟨#[]⟩
 ·refine .inl ⟨hn,?_⟩;have e:formatPolicy q=words9 ⟨#[115,99,114,105,112,116]⟩ q.bp++⟨#[59]⟩++(words9 ⟨#[115,116,121,108,101]⟩ q.styles++⟨#[59]⟩++words9 ⟨#[105,109,103]⟩ q.images):=by unfold formatPolicy;rw[I_ (by simp[hp,hs]),I_ hn];simp only[ByteArray.append_assoc]
  rw[e,Lw b1,Lw b2,YE b3];rfl
 ·refine .inr ⟨hn,?_⟩;have hv:isValue q.nonce=true:=by simp only[isPolicy,hs,aS,Z_,eD,aH] at hp;simp_all
  have b4:(59:UInt8)∉toL (⟨#[110,111,110,99,101,32]⟩++q.nonce):=by rw[C2,aR,not_or];exact⟨by decide,R9 rfl hv⟩
  have e:formatPolicy q=words9 ⟨#[115,99,114,105,112,116]⟩ q.bp++⟨#[59]⟩++(words9 ⟨#[115,116,121,108,101]⟩ q.styles++⟨#[59]⟩++(words9 ⟨#[105,109,103]⟩ q.images++⟨#[59]⟩++(⟨#[110,111,110,99,101,32]⟩++q.nonce))):=by
   unfold formatPolicy;rw[I_ (by simp[hp,hs]),J_ hn];have:(⟨#[59,110,111,110,99,101,32]⟩:ByteArray)=⟨#[59]⟩++⟨#[110,111,110,99,101,32]⟩:=by decide
   rw[this];simp only[ByteArray.append_assoc]
  rw[e,Lw b1,Lw b2,Lw b3,YE b4];exact⟨rfl,rfl⟩
def polCandI (s:ByteArray):aN:={ polCand s with nonce:=if 3<(spl 59 s).length then SO ((spl 59 s).getD 3 default) ⟨#[110,111,110,99,101,32]⟩ else⟨#[]⟩}
def ZF {q:aN} {s:ByteArray} (h:formatPolicy q=s) (hs:s≠⟨#[]⟩):isPolicy q=true/\q.set_=true:=by
 unfold formatPolicy at h;grind
def Y2 (n:ByteArray):SO (⟨#[110,111,110,99,101,32]⟩++n) ⟨#[110,111,110,99,101,32]⟩=n:=by
 rfl
def Ab9 (n:ByteArray):(⟨#[110,111,110,99,101,32]⟩++n:ByteArray).extract 6 (⟨#[110,111,110,99,101,32]⟩++n:ByteArray).size=n:=by
 rw[<-Cg (ByteArray.extract _ _ _),A4,C2,ct (by rw[al,Br,Br,aQ];exact aa _)];rfl
def Zx {s:ByteArray} (hs:s≠⟨#[]⟩):(formatPolicy (polCandI s)=s↔formatPolicy (polCand s)=s)/\(formatPolicy (polCand s)=s->polCandI s=polCand s):=by
 have key:∀ q:aN,formatPolicy q=s->(3<(spl 59 s).length->q.nonce=SO ((spl 59 s).getD 3 default) ⟨#[110,111,110,99,101,32]⟩/\q.nonce=(if 3<(spl 59 s).length/\6<((spl 59 s).getD 3 default).size then((spl 59 s).getD 3 default).extract 6 ((spl 59 s).getD 3 default).size else⟨#[]⟩)):=by
  intro q hq hl;obtain⟨h1,h2⟩:=ZF hq hs;rcases X8 h1 h2 with⟨_,h3⟩|⟨h3,h4,h5⟩
  ·rw[hq] at h3;omega
  ·rw[hq] at h4 h5;rw[h5,Y2];refine⟨rfl,?_⟩;have hsz:0<q.nonce.size:=by
    rcases Nat.eq_zero_or_pos q.nonce.size with h|h
    ·exact absurd (ByteArray.ext (Array.eq_empty_of_size_eq_zero h)) h3
    ·exact h
   rw[I_ ⟨hl,by rw[aQ,show ByteArray.size ⟨#[110,111,110,99,101,32]⟩=6 from rfl];omega⟩,Ab9]
 have same:(formatPolicy (polCandI s)=s\/formatPolicy (polCand s)=s)->polCandI s=polCand s:=by
  intro h;by_cases hl:3<(spl 59 s).length
  ·have hn:(polCandI s).nonce=(polCand s).nonce:=by
    have e1:(polCandI s).nonce=SO ((spl 59 s).getD 3 default) ⟨#[110,111,110,99,101,32]⟩:=by simp only[polCandI];rw[I_ hl]
    rcases h with h|h
    ·exact(key _ h hl).2
    ·simp_all
   have e:polCandI s={ polCand s with nonce:=(polCandI s).nonce }:=rfl;rw[e,hn]
  ·have e:polCandI s={ polCand s with nonce:=(polCandI s).nonce }:=rfl;have h1:(polCandI s).nonce=⟨#[]⟩:=by simp only[polCandI];rw[J_ hl]
   have h2:(polCand s).nonce=⟨#[]⟩:=by simp only[polCand];rw[J_ λhh=>hl hh.1]
   rw[e,h1,<-h2]
 grind
def Agm {s:ByteArray} (h1:s≠⟨#[]⟩) (h3:3<=(spl 59 s).length) {q:aN} (hq:q=polCandI s):(formatPolicy q≠s->parsePolicy s=(default,false))/\(formatPolicy q=s->parsePolicy s=(q,true)):=by
 subst hq;have hc:=Zx h1;unfold parsePolicy;simp_all
def Ag1 {s:ByteArray} (h:3<(spl 59 s).length):(⟨true,(spl 32 ((spl 59 s).getD 0 default)).drop 1,(spl 32 ((spl 59 s).getD 1 default)).drop 1,(spl 32 ((spl 59 s).getD 2 default)).drop 1,SO ((spl 59 s).getD 3 default) ⟨#[110,111,110,99,101,32]⟩⟩:aN)=polCandI s:=by
 unfold polCandI polCand;rw[I_ h]
def AgC {s:ByteArray} (h:¬ 3<(spl 59 s).length):(⟨true,(spl 32 ((spl 59 s).getD 0 default)).drop 1,(spl 32 ((spl 59 s).getD 1 default)).drop 1,(spl 32 ((spl 59 s).getD 2 default)).drop 1,⟨#[]⟩⟩:aN)=polCandI s:=by
 unfold polCandI polCand;rw[J_ h]
def XH (s p:ByteArray):(SO s p).size<=s.size:=by
 unfold SO Go.Lib.trimPrefix;rw[show ∀ l:List UInt8,ByteArray.size ⟨l.toArray⟩=l.length from λl=>by simp[ByteArray.size]];split
 ·simp
 ·exact aa _
def Anb:=Als.a Ch<|Fct.o [0,2,3,4,5,6,7,9,15,18,19,39,48,1000009,1000015,1000019,1000039,1000048,64000516,200000019] Als.2 func191 (by
 rintro⟨(s:ByteArray),_⟩ hp;refine ho (let aU:=(⟨#[32]⟩:ByteArray);let aC:=(0:Int)<=(2:Int)/\(2:Int)<(3:Int);let aj:=(0:Int)<=(1:Int)/\(1:Int)<(3:Int);let U_:=(0:Int)<=(0:Int)/\(0:Int)<(3:Int);let Q_:=(⟨#[]⟩:ByteArray);let E_:Out:=.leaf (.tup [(true,[vb (false),.nl,.nl,.nl,vs (Q_)]),(false,[vb (false)])]) [] [];.br (ByteArray.toList s==Q_.toList) (.leaf (.tup [(true,[vb (false),.nl,.nl,.nl,vs (Q_)]),(false,[vb (true)])]) [] []) (.cl Hy (s,(⟨#[59]⟩:ByteArray),()) λz2=>let M_:=(z2.1.length:Int);.br (decide (M_<3)) E_ (.ob ((0:Int)<=(0:Int)/\(0:Int)<M_)<|.ob (0<z2.1.length)<|.cl Hy (z2.1.getD 0 default,aU,()) λz3=>let bL:=z3.1.length-1;.ob ((0:Int)<=(1:Int)/\(1:Int)<=(z3.1.length:Int))<|.ob U_<|.ob (1+bL<=z3.1.length)<|.ob ((0:Int)<=(1:Int)/\(1:Int)<M_)<|.ob (1<z2.1.length)<|.cl Hy (z2.1.getD 1 default,aU,()) λz4=>let aF:=z4.1.length-1;.ob ((0:Int)<=(1:Int)/\(1:Int)<=(z4.1.length:Int))<|.ob aj<|.ob (1+aF<=z4.1.length)<|.ob ((0:Int)<=(2:Int)/\(2:Int)<M_)<|.ob (2<z2.1.length)<|.cl Hy (z2.1.getD 2 default,aU,()) λz5=>let aM:=z5.1.length-1;let H_:=(⟨true,cut z3.1 1 bL,cut z4.1 1 aF,cut z5.1 1 aM,Q_⟩:aN);.ob ((0:Int)<=(1:Int)/\(1:Int)<=(z5.1.length:Int))<|.ob aC<|.ob (1+aM<=z5.1.length)<|.ob U_<|.ob aj<|.ob aC<|.br (decide (M_>3)) (.ob ((0:Int)<=(3:Int)/\(3:Int)<M_)<|.ob (3<z2.1.length)<|.cl I3 (z2.1.getD 3 default,(⟨#[110,111,110,99,101,32]⟩:ByteArray),()) λz6=>let L_:=(⟨true,cut z3.1 1 bL,cut z4.1 1 aF,cut z5.1 1 aM,z6.1⟩:aN);.cl AN (L_,()) λz7=>.br (!z7.1.toList==ByteArray.toList s) E_ (.cl Fh (L_,()) λz8=>.lf Ch (z8.1,true,()))) (.cl AN (H_,()) λz9=>.br (!z9.1.toList==ByteArray.toList s) E_ (.cl Fh (H_,()) λz10=>.lf Ch (z10.1,true,())))))) ?_;refine Aa (λh1=>Fct.leafZ (default,true,()) (by repeat' first|exact rfl|exact trivial|refine And.intro ?_ ?_) ?_) λh1=>Ae ?_ λ_=>Aa (λh3=>Fct.leafZ (default,false,()) (by repeat' first|exact rfl|exact trivial|refine And.intro ?_ ?_) ?_) λh3=>Ab ?_ λ_=>Ab ?_ λ_=>Ae ?_ λ_=>Ab ?_ λ_=>Ab ?_ λ_=>Ab ?_ λ_=>Ab ?_ λ_=>Ab ?_ λ_=>Ae ?_ λ_=>Ab ?_ λ_=>Ab ?_ λ_=>Ab ?_ λ_=>Ab ?_ λ_=>Ab ?_ λ_=>Ae ?_ λ_=>Ab ?_ λ_=>Ab ?_ λ_=>Ab ?_ λ_=>Ab ?_ λ_=>Ab ?_ λ_=>Ab ?_ λ_=>Aa (λh25=>Ab ?_ λ_=>Ab ?_ λ_=>Ae trivial λ_=>Ae ?_ λ_=>Aa (λh29=>Fct.leafZ (default,false,()) (by repeat' first|exact rfl|exact trivial|refine And.intro ?_ ?_) ?_) λh29=>Ae ?_ λ_=>lfY ?_) λh25=>Ae ?_ λ_=>Aa (λh32=>Fct.leafZ (default,false,()) (by repeat' first|exact rfl|exact trivial|refine And.intro ?_ ?_) ?_) λh32=>Ae ?_ λ_=>lfY ?_;all_goals
  try simp only[Kj] at *
  try simp only[Hy,I3,std,Nat.reduceAdd,cY] at *
  try simp only[show(ByteArray.mk #[59]).data.getD 0 0=59 from rfl,show(ByteArray.mk #[32]).data.getD 0 0=32 from rfl,show(ByteArray.mk #[59]).size=1 from rfl,show(ByteArray.mk #[32]).size=1 from rfl] at *
 all_goals (have g0:=Ew 59 s 0;have g1:=Ew 59 s 1;have g2:=Ew 59 s 2;have g3:=Ew 59 s 3;have k0:=DU 32 ((spl 59 s).getD 0 default);have k1:=DU 32 ((spl 59 s).getD 1 default);have k2:=DU 32 ((spl 59 s).getD 2 default);have tz:=XH ((spl 59 s).getD 3 default) ⟨#[110,111,110,99,101,32]⟩)<;>(first|trivial|omega|(with_reducible refine bT (Sl (Nat.zero_le _)) ?_;omega)|(with_reducible refine bT (Sl ?_) ?_;omega;omega)|skip)<;>(first|(simp only[parsePolicy];rw[I_ ‹_›];exact⟨rfl,rfl⟩)|(simp only[parsePolicy];rw[J_ ‹_›,J_ o_];exact⟨rfl,rfl⟩)|skip)<;>(first|(have hq:=Ag1 (s:=s) o_)|(have hq:=AgC (s:=s) o_))<;>obtain⟨p1,p2⟩:=Agm ‹_› o_ hq<;>(first|(rw[p1 ‹_›];exact⟨rfl,rfl⟩)|(rw[p2 ‹_›];exact⟨rfl,rfl⟩)))
def Am2:=Anb.a AJ<|Fct.o [1,2,4] Anb.2 func127 (by
 rintro⟨(x:R_),_⟩ hp;exact hg (.cl Ch (x.bj,()) λz2=>.br (z2.2.1) (.cl Au (x.status,(100:Int),(599:Int),()) λz3=>.br (z3.1) (.cl Au (x.kind,(1:Int),(5:Int),()) λz4=>.br (z4.1) (.br (decide ((x.body.size:Int)<=400)) (.cl Au (x.age,(0:Int),(1000:Int),()) λz5=>.lf AJ (z5.1,())) (.lf AJ (false,()))) (.lf AJ (false,()))) (.lf AJ (false,()))) (.lf AJ (false,()))) (@isResponse.eq_1))
abbrev EP (c:bv):LInv:=⟨[⟨.s,8,true,.el .int⟩,⟨.b,1,false,.el .cache⟩],λ(z x:dB)=>(0<=x.1/\x.1<=c.bg.length/\entOk c.bg (c.bg.drop x.1.toNat) x.1=entOk c.bg c.bg 0)/\x.2.1=z.2.1,λ(x:dB)=>c.bg.length-x.1.toNat⟩
def Ajt:=Am2.a Eg<|Fct.p (KP [1,2,3,4,6,7,8] [9,44]) (λ⟨c,_⟩=>lv [(2,EP c)]) Am2.2 func223 (by
 rintro⟨(c:bv),_⟩ hp;exact hg (let M_:=(c.bg.length:Int);let L_:=EP c;let H_:Out:=.lf Eg (false,());.lq (Int×bv×PUnit) L_.inv L_.m ((0:Int),(c,())) λy1 bk1=>let E_:=c.bg.getD y1.1.toNat default;.br (decide (y1.1<M_)) (.ob (inB y1.1 c.bg.length)<|.cl Bv (E_.top,()) λz2=>.br (!z2.1) H_ (.cl DH (E_.to,()) λz3=>.br (!z3.1) H_ (.cl AJ (E_.bd,()) λz4=>.br (!z4.1) H_ (.br (E_.bd.status != 200) H_ (.cl Ee (y1.2.1,E_.top,E_.to,()) λ(z5:B_)=>.br (z5.1 != y1.1) H_ (.re (c.bg)<|.re (Value.int IntKind.i64 M_)<|.bk (bk1 (w1 y1.1,(y1.2.1,()))))))))) (.lf Eg (decide ((y1.2.1.bg.length:Int)<=100),()))) (an_ @isCache.eq_1<|an_ @szCache.eq_1<|an_ @dj<|an_ @cL<|an_ (Ac AY c.bg)<|(λi h=>by have:=OD h;have hp2:szCache c<=200000000:=hp;simp only[AY,szCache,szAddr,Ad] at *;omega:∀ i,i<c.bg.length->(c.bg.getD i default).top.size<=200000000/\(c.bg.getD i default).to.host.size<=200000000/\(c.bg.getD i default).to.path.size<=200000000/\(c.bg.getD i default).bd.bj.size<=200000000)))
def Ag {α:Type} (f:α->Nat) (x:α) (l:List α):szL f (x::l)=f x+1+szL f l:=by simp only[szL,bZ,List.sum_cons,aw];omega
def Ek {α:Type} (f:α->Nat) (l:List α) (x:α):szL f (l++[x])=szL f l+(f x+1):=by
 induction l with
 | nil=>rw[fi,Ag];simp[szL]
 | cons y l ih=>rw[dp,Ag,Ag,ih];omega
def Uf {α:Type} (f:α->Nat) (e:α):∀ (l:List α) (i:Nat),szL f (l.modify i λ_=>e)<=szL f l+(f e+1)
 | [],i=>by cases i<;>simp[List.modify,szL]
 | y::l,0=>by rw[List.modify_zero_cons,Ag,Ag];omega
 | y::l,i+1=>by rw[List.modify_succ_cons,Ag,Ag];have:=Uf f e l i;omega
def Jn {α:Type} (f:α->Nat) {t:α}:∀ {l:List α},t∈l->f t+1<=szL f l
 | [],h=>by cases h
 | x::l,h=>by
  rw[Ag];rcases cp.1 h with rfl|h
  ·omega
  ·have:=Jn f h;omega
def putEntry (c:bv) (e:bU) (i:Int):bv:=if 0<=i then⟨c.bg.modify i.toNat λ_=>e⟩ else⟨c.bg++[e]⟩
def entry (t:ByteArray) (a:D_) (x:R_) (now:Int):bU:=⟨t,a,x,IntKind.i64.wrap (now+x.age)⟩
def storeEntry (c:bv) (t:ByteArray) (a:D_) (x:R_) (now:Int):bv :=
 if x.age≠0/\inRange now 0 999999999000=true/\isCache c=true/\isCache (putEntry c (entry t a x now) (fidx (λe=>decide (e.top=t)&&decide (e.to=a)) c.bg 0))=true then putEntry c (entry t a x now) (fidx (λe=>decide (e.top=t)&&decide (e.to=a)) c.bg 0) else c
def JS {all:List bU}:∀ {l:List bU} {k:Int},entOk all l k=true->∀ e∈l,isResponse e.bd=true
 | [],_,_,e,he=>by cases he
 | y::l,k,h,e,he=>by
  simp only[entOk,Z_] at h;rcases cp.1 he with rfl|he
  ·exact h.1.1.1.2
  ·exact JS h.2 e he
def V6 {c:bv} {e:bU} {i:Int} (hi:i<c.bg.length) (h:isCache (putEntry c e i)=true):isResponse e.bd=true:=by
 unfold isCache at h;rw[Z_] at h;refine JS h.1 e ?_;unfold putEntry;split
 ·rw[List.mem_iff_getElem?];exact⟨i.toNat,by rw[List.getElem?_modify_eq,aX o_];rfl⟩
 ·simp
abbrev B5:Fct:=⟨[.v (.el .cache),.v (.el .str),.v (.el .addr),.v (.el .bd),.v (.el .int)],[.el .cache],λ(x:fW)=>szCache x.1<=100000000/\x.2.1.size<=10000000/\szAddr x.2.2.1<=10000000/\Ad x.2.2.2.1<=10000000,λ(x:fW)=>(storeEntry x.1 x.2.1 x.2.2.1 x.2.2.2.1 x.2.2.2.2.1,())⟩
def Aj5:=Ajt.a B5<|Fct.o (KP [1,4,5,7,8,10,11,12,13] [33,48,62]) Ajt.2 func159 (by
 rintro⟨(c:bv),(t:ByteArray),(a:D_),(x:R_),(now:Int),_⟩ hp;refine ho (let L_:Out:=.cl DE (c,()) λz9=>.lf B5 (z9.1,());let E_:=(⟨t,a,x,wr (now+x.age)⟩:bU);.cl DE (c,()) λz2=>let H_:Out:=.lf B5 (z2.1,());.br (x.age==0) H_ (.cl Au (now,(0:Int),(999999999000:Int),()) λz3=>.br (!z3.1) H_ (.cl AJ (x,()) λz4=>.br (!z4.1) H_ (.cl Eg (c,()) λz5=>.br (!z5.1) H_ (.cl Ee (c,t,a,()) λ(z6:B_)=>.br (decide (z6.1>=0)) (.ix z6.1 z2.1.bg.length<|.lt (List bU) (z2.1.bg.modify z6.1.toNat λz=>E_) λz7=>.cl Eg ((⟨z7⟩:bv),()) λz8=>.br (!z8.1) L_ (.lf B5 (⟨z7⟩,()))) (.ap (z2.1.bg.length+[E_].length) 120<|.cl Eg ((⟨z2.1.bg++[E_]⟩:bv),()) λz10=>.br (!z10.1) L_ (.lf B5 (⟨z2.1.bg++[E_]⟩,())))))))) ?_;repeat' first|(guard_target =~ Out.holds _ _;first|refine lfY ?_|refine Aa (λ_=>?_) λ_=>?_|refine Ae ?_ λ_=>?_|refine DS ?_|refine Ed ?_ λ_=>?_|refine Ei ?_ λ_ _=>?_)|exact trivial
 all_goals
  have hi:=DI (λe:bU=>decide (e.top=t)&&decide (e.to=a)) c.bg 0 o_;have hr:=λ(i:Int) (h:i<c.bg.length)=>V6 (c:=c) (e:=entry t a x now) h
  have hm:=λi=>Uf AY (entry t a x now) c.bg i
  have hs:=Ek AY c.bg (entry t a x now);have hz:AY (entry t a x now)<=40000000:=by have hp2:szCache c<=100000000/\t.size<=10000000/\szAddr a<=10000000/\Ad x<=10000000:=hp;simp only[AY,entry];omega
  have hq:x.bj.size<=10000000:=by have hp2:szCache c<=100000000/\t.size<=10000000/\szAddr a<=10000000/\Ad x<=10000000:=hp;simp only[Ad] at hp2;omega
  have hn:=Ac AY c.bg;try simp only[std,Nat.reduceAdd,storeEntry,putEntry,entry,szCache] at *
  try simp(disch:=omega) only[FS,A_] at *
  try simp(disch:=omega) only[I_,J_]
 all_goals first|trivial|omega|grind[FS,A_,F_,maxLen,storeEntry,putEntry,entry,szCache])
def Ana:=Aj5.a B5<|Fct.o (KP [1,4,5,7,8,10,11,12,13] [29,58]) Aj5.2 func128 (by
 rintro⟨(c:bv),(t:ByteArray),(a:D_),(x:R_),(now:Int),_⟩ hp;refine ho (let H_:=(⟨t,a,x,wr (now+x.age)⟩:bU);let E_:Out:=.cl DE (c,()) λz5=>.lf B5 (z5.1,());.cl DE (c,()) λz2=>.cl Ee (c,t,a,()) λ(z3:B_)=>.br (decide (z3.1>=0)) (.ix z3.1 z2.1.bg.length<|.lt (List bU) (z2.1.bg.modify z3.1.toNat λz=>H_) λz4=>.br (x.age==0) E_ (.cl Au (now,(0:Int),(999999999000:Int),()) λz6=>.br (!z6.1) E_ (.cl Eg (c,()) λz8=>.br (!z8.1) E_ (.cl Eg ((⟨z4⟩:bv),()) λz10=>.br (!z10.1) E_ (.lf B5 (⟨z4⟩,())))))) (.ap (z2.1.bg.length+[H_].length) 120<|.br (x.age==0) E_ (.cl Au (now,(0:Int),(999999999000:Int),()) λz13=>.br (!z13.1) E_ (.cl Eg (c,()) λz15=>.br (!z15.1) E_ (.cl Eg ((⟨z2.1.bg++[H_]⟩:bv),()) λz17=>.br (!z17.1) E_ (.lf B5 (⟨z2.1.bg++[H_]⟩,()))))))) ?_;repeat' first|(guard_target =~ Out.holds _ _;first|refine lfY ?_|refine Aa (λ_=>?_) λ_=>?_|refine Ae ?_ λ_=>?_|refine DS ?_|refine Ed ?_ λ_=>?_|refine Ei ?_ λ_ _=>?_)|exact trivial
 all_goals
  have hi:=DI (λe:bU=>decide (e.top=t)&&decide (e.to=a)) c.bg 0 o_;have hr:=λ(i:Int) (h:i<c.bg.length)=>V6 (c:=c) (e:=entry t a x now) h
  have hm:=λi=>Uf AY (entry t a x now) c.bg i
  have hs:=Ek AY c.bg (entry t a x now);have hz:AY (entry t a x now)<=40000000:=by have hp2:szCache c<=100000000/\t.size<=10000000/\szAddr a<=10000000/\Ad x<=10000000:=hp;simp only[AY,entry];omega
  have hq:x.bj.size<=10000000:=by have hp2:szCache c<=100000000/\t.size<=10000000/\szAddr a<=10000000/\Ad x<=10000000:=hp;simp only[Ad] at hp2;omega
  have hn:=Ac AY c.bg;try simp only[std,Nat.reduceAdd,storeEntry,putEntry,entry,szCache] at *
  try simp(disch:=omega) only[FS,A_] at *
  try simp(disch:=omega) only[I_,J_]
 all_goals first|trivial|omega|grind[FS,A_,F_,maxLen,storeEntry,putEntry,entry,szCache])
def keepAnswer (n:az) (t:ByteArray) (a:D_) (x:R_):az:=if(lookUp n.cache t a n.now).isSome=false/\isResponse x=true/\x.status=200 then{ n with cache:=storeEntry n.cache t a x n.now } else n
abbrev AX:Fct:=⟨[.v (.el .net),.v (.el .str),.v (.el .addr),.v (.el .bd)],[.el .net],λ(x:fX)=>szNet x.1<=10000000000/\szCache x.1.cache<=90000000/\x.2.1.size<=10000000/\szAddr x.2.2.1<=10000000/\Ad x.2.2.2.1<=10000000,λ(x:fX)=>(keepAnswer x.1 x.2.1 x.2.2.1 x.2.2.2.1,())⟩
def AjK:=Ana.a AX<|Fct.o (KP [1,4,6,7,8,9,11] [34]) Ana.2 func69 (by
 rintro⟨(n:az),(t:ByteArray),(a:D_),(x:R_),_⟩ hp;refine ho (.cl GF (n,()) λz2=>.cl Ib (n.cache,t,a,n.now,()) λz3=>.br (!z3.2.1) (.cl AJ (x,()) λz4=>.br (z4.1) (.br (x.status==200) (.cl B5 (n.cache,t,a,x,n.now,()) λz5=>.lf AX (⟨z2.1.servers,z5.1,z2.1.log,z2.1.now⟩,())) (.lf AX (z2.1,()))) (.lf AX (z2.1,()))) (.lf AX (z2.1,()))) ?_;repeat' (guard_target =~ Out.holds _ _;first|refine lfY ?_|refine Aa (λ_=>?_) λ_=>?_|refine Ae ?_ λ_=>?_)
 all_goals (have hn:=Ac AY n.cache.bg;have hc:szCache n.cache=szL AY n.cache.bg:=rfl;have hq:x.bj.size<=10000000:=by have hp2:szNet n<=10000000000/\szCache n.cache<=90000000/\t.size<=10000000/\szAddr a<=10000000/\Ad x<=10000000:=hp;simp only[Ad] at hp2;omega)<;>(try simp only[std,Nat.reduceAdd,keepAnswer] at *)<;>(try simp(disch:=omega) only[FS,A_] at *)<;>(try simp(disch:=omega) only[I_,J_])<;>(first|trivial|omega|grind[FS,A_,HO,G_,F_,maxLen,keepAnswer]))
def Amx:=AjK.a AX<|Fct.o (KP [1,4,6,7,8,9,11] [34]) AjK.2 func45 (by
 rintro⟨(n:az),(t:ByteArray),(a:D_),(x:R_),_⟩ hp;refine ho (.cl GF (n,()) λz2=>.cl Ib (n.cache,t,a,n.now,()) λz3=>.cl AJ (x,()) λz4=>.br (z4.1) (.br (x.status==200) (.br (!z3.2.1) (.cl B5 (z2.1.cache,t,a,x,n.now,()) λz5=>.lf AX (⟨z2.1.servers,z5.1,z2.1.log,z2.1.now⟩,())) (.lf AX (z2.1,()))) (.lf AX (z2.1,()))) (.lf AX (z2.1,()))) ?_;repeat' (guard_target =~ Out.holds _ _;first|refine lfY ?_|refine Aa (λ_=>?_) λ_=>?_|refine Ae ?_ λ_=>?_)
 all_goals (have hn:=Ac AY n.cache.bg;have hc:szCache n.cache=szL AY n.cache.bg:=rfl;have hq:x.bj.size<=10000000:=by have hp2:szNet n<=10000000000/\szCache n.cache<=90000000/\t.size<=10000000/\szAddr a<=10000000/\Ad x<=10000000:=hp;simp only[Ad] at hp2;omega)<;>(try simp only[std,Nat.reduceAdd,keepAnswer] at *)<;>(try simp(disch:=omega) only[FS,A_] at *)<;>(try simp(disch:=omega) only[I_,J_])<;>(first|trivial|omega|grind[FS,A_,HO,G_,F_,maxLen,keepAnswer]))
def logSent (n:az) (t:ByteArray) (a:D_) (g:Bool):az:=if n.log.length<400 then{ n with log:=n.log++[⟨t,a,g⟩]} else n
def fetchNow (n:az) (t:ByteArray) (a:D_) (g:Bool):az×R_ :=
 if(isName a.host&&isName a.path)=false then(n,notFound)
 else if(lookUp n.cache t a n.now).isSome then(n,(lookUp n.cache t a n.now).getD notFound)
 else(if g then logSent n t a g else keepAnswer (logSent n t a g) t a (answerTo n.servers a),answerTo n.servers a)
def Lu (l:List ax) (a:D_):Ad (answerTo l a)<=szL An l:=by
 unfold answerTo;split
 ·exact Nat.zero_le _
 split
 ·exact Nat.zero_le _
 ·rename_i h1 h2;have h3:=DI (λs:ax=>decide (s.host=a.host)) l 0 o_;have h4:=C6 An (l:=l) (i:=(fidx (λs=>decide (s.host=a.host)) l 0).toNat) o_;have h5:=DI (λf:cC=>decide (f.path=a.path)) (l.getD (fidx (λs=>decide (s.host=a.host)) l 0).toNat default).files 0 o_;have h6:=C6 Is (l:=(l.getD (fidx (λs=>decide (s.host=a.host)) l 0).toNat default).files) (i:=(fidx (λf:cC=>decide (f.path=a.path)) (l.getD (fidx (λs=>decide (s.host=a.host)) l 0).toNat default).files 0).toNat) o_;simp only[An,Is] at h4 h6;omega
abbrev Bj:Fct:=⟨[.v (.el .net),.v (.el .str),.v (.el .addr),.v (.el .bool)],[.el .net,.el .bd],λ(x:fY)=>szNet x.1<=9000000000/\szCache x.1.cache<=90000000/\szL An x.1.servers<=10000000/\x.2.1.size<=10000000/\szAddr x.2.2.1<=10000000,λ(x:fY)=>((fetchNow x.1 x.2.1 x.2.2.1 x.2.2.2.1).1,(fetchNow x.1 x.2.1 x.2.2.1 x.2.2.2.1).2,())⟩
def AmJ:=Amx.a Bj<|Fct.o (KP [1,3,4,6,8,9,10,11,12,13] [18,31,41,52]) Amx.2 func71 (by
 rintro⟨(n:az),(t:ByteArray),(a:D_),(g:Bool),_⟩ hp;refine ho (let H_:=(⟨t,a,g⟩:bN);.cl GF (n,()) λz2=>.cl DH (a,()) λz3=>.br (!z3.1) (.cl DB () λz4=>.lf Bj (z2.1,z4.1,())) (.cl Ib (n.cache,t,a,n.now,()) λz5=>let L_:Out:=.lf Bj (z2.1,z5.1,());.br (z5.2.1) (.lp (Bool) (True) (λx=>True) λy6=>.br (y6) L_ L_) (.cl FU (n.servers,a,()) λz6=>let U_:Out:=.lf Bj (z2.1,z6.1,());let E_:Out:=.lf Bj ({z2.1 with log:=z2.1.log++[H_]},z6.1,());.br (decide ((n.log.length:Int)<400)) (.ap (z2.1.log.length+[H_].length) 56<|.br (!g) (.cl AX (({z2.1 with log:=z2.1.log++[H_]}:az),t,a,z6.1,()) λz7=>let M_:Out:=.lf Bj (z7.1,z6.1,());.lp (Bool) (True) (λx=>True) λy13=>.br (y13) M_ M_) (.lp (Bool) (True) (λx=>True) λy15=>.br (y15) E_ E_)) (.br (!g) (.cl AX (z2.1,t,a,z6.1,()) λz8=>let Q_:Out:=.lf Bj (z8.1,z6.1,());.lp (Bool) (True) (λx=>True) λy19=>.br (y19) Q_ Q_) (.lp (Bool) (True) (λx=>True) λy21=>.br (y21) U_ U_))))) ?_;refine Ae ?_ λ_=>(Ae ?_ λ_=>Aa (λh3=>Ae trivial λ_=>lfY ?_) λh3=>Ae ?_ λ_=>Aa (λh5=>KW trivial λy6 i6=>Aa (λh7=>lfY ?_) λh7=>lfY ?_) λh5=>Ae ?_ λ_=>Aa (λh9=>Ed ?_ λ_=>Aa (λh11=>Ae ?_ λ_=>KW trivial λy13 i13=>Aa (λh14=>lfY ?_) λh14=>lfY ?_) λh11=>KW trivial λy15 i15=>Aa (λh16=>lfY ?_) λh16=>lfY ?_) λh9=>Aa (λh17=>Ae ?_ λ_=>KW trivial λy19 i19=>Aa (λh20=>lfY ?_) λh20=>lfY ?_) λh17=>KW trivial λy21 i21=>Aa (λh22=>lfY ?_) λh22=>lfY ?_)<;>(have hn:=Ac AY n.cache.bg;have hc:szCache n.cache=szL AY n.cache.bg:=rfl;have ha:=Lu n.servers a;have hs:=Ek Ge n.log ⟨t,a,g⟩;have hs2:Ge ⟨t,a,g⟩=t.size+szAddr a:=rfl;have hd:a.host.size<=szAddr a/\a.path.size<=szAddr a:=⟨cw _ _,Nat.le_add_left _ _⟩;have hl:=Ac Ge n.log;try simp only[std,Nat.reduceAdd,fetchNow,logSent,szNet] at *)<;>(try simp(disch:=omega) only[FS,A_] at *)<;>(try simp(disch:=omega) only[I_,J_])<;>(first|trivial|omega|grind[FS,A_,HO,G_,F_,maxLen,fetchNow,logSent,szNet]))
def Anl:=AmJ.a Bj<|Fct.o (KP [1,3,4,6,8,9,10,11,12,13] [18,31,41,52]) AmJ.2 func47 (by
 rintro⟨(n:az),(t:ByteArray),(a:D_),(g:Bool),_⟩ hp;refine ho (let H_:=(⟨t,a,g⟩:bN);.cl GF (n,()) λz2=>.cl DH (a,()) λz3=>.br (!z3.1) (.cl DB () λz4=>.lf Bj (z2.1,z4.1,())) (.cl Ib (n.cache,t,a,n.now,()) λz5=>let L_:Out:=.lf Bj (z2.1,z5.1,());.br (z5.2.1) (.lp (Bool) (True) (λx=>True) λy6=>.br (y6) L_ L_) (.cl FU (n.servers,a,()) λz6=>let U_:Out:=.lf Bj (z2.1,z6.1,());let E_:Out:=.lf Bj ({z2.1 with log:=z2.1.log++[H_]},z6.1,());.br (decide ((z2.1.log.length:Int)<400)) (.ap (z2.1.log.length+[H_].length) 56<|.br (!g) (.cl AX (({z2.1 with log:=z2.1.log++[H_]}:az),t,a,z6.1,()) λz7=>let M_:Out:=.lf Bj (z7.1,z6.1,());.lp (Bool) (True) (λx=>True) λy13=>.br (y13) M_ M_) (.lp (Bool) (True) (λx=>True) λy15=>.br (y15) E_ E_)) (.br (!g) (.cl AX (z2.1,t,a,z6.1,()) λz8=>let Q_:Out:=.lf Bj (z8.1,z6.1,());.lp (Bool) (True) (λx=>True) λy19=>.br (y19) Q_ Q_) (.lp (Bool) (True) (λx=>True) λy21=>.br (y21) U_ U_))))) ?_;refine Ae ?_ λ_=>(Ae ?_ λ_=>Aa (λh3=>Ae trivial λ_=>lfY ?_) λh3=>Ae ?_ λ_=>Aa (λh5=>KW trivial λy6 i6=>Aa (λh7=>lfY ?_) λh7=>lfY ?_) λh5=>Ae ?_ λ_=>Aa (λh9=>Ed ?_ λ_=>Aa (λh11=>Ae ?_ λ_=>KW trivial λy13 i13=>Aa (λh14=>lfY ?_) λh14=>lfY ?_) λh11=>KW trivial λy15 i15=>Aa (λh16=>lfY ?_) λh16=>lfY ?_) λh9=>Aa (λh17=>Ae ?_ λ_=>KW trivial λy19 i19=>Aa (λh20=>lfY ?_) λh20=>lfY ?_) λh17=>KW trivial λy21 i21=>Aa (λh22=>lfY ?_) λh22=>lfY ?_)<;>(have hn:=Ac AY n.cache.bg;have hc:szCache n.cache=szL AY n.cache.bg:=rfl;have ha:=Lu n.servers a;have hs:=Ek Ge n.log ⟨t,a,g⟩;have hs2:Ge ⟨t,a,g⟩=t.size+szAddr a:=rfl;have hd:a.host.size<=szAddr a/\a.path.size<=szAddr a:=⟨cw _ _,Nat.le_add_left _ _⟩;have hl:=Ac Ge n.log;try simp only[std,Nat.reduceAdd,fetchNow,logSent,szNet] at *)<;>(try simp(disch:=omega) only[FS,A_] at *)<;>(try simp(disch:=omega) only[I_,J_])<;>(first|trivial|omega|grind[FS,A_,HO,G_,F_,maxLen,fetchNow,logSent,szNet]))
def newBuilder:af:=⟨[⟨⟨#[112,97,103,101]⟩,⟨#[]⟩,-1,[]⟩],[0]⟩
abbrev Gr:Fct:=⟨[],[rE .ba],λ_=>True,λ_=>(newBuilder,())⟩
def Amu:=Anl.a Gr<|Fct.o [0] Anl.2 func305 (by
 rintro⟨_⟩ hp;exact hg (.lf Gr (⟨[(⟨(⟨#[112,97,103,101]⟩:ByteArray),(⟨#[]⟩:ByteArray),(-1:Int),[]⟩:cO)],[(0:Int)]⟩,())) (@newBuilder.eq_1))
def AlL:=Amu.a Gr<|Fct.o [0] Amu.2 func192 (by
 rintro⟨_⟩ hp;refine ho (.lf Gr (⟨[(⟨(⟨#[112,97,103,101]⟩:ByteArray),(⟨#[]⟩:ByteArray),(-1:Int),[]⟩:cO)],[(0:Int)]⟩,())) ?_;refine lfY ?_;all_goals
  try simp only[std,Nat.reduceAdd,newBuilder] at *
  try simp(disch:=omega) only[FS,A_] at *
  try simp(disch:=omega) only[I_,J_]
 all_goals first|trivial|omega|grind[FS,A_,HO,G_,F_,maxLen,newBuilder])
def newPage (a:D_) (x:R_):C_×Bool:=if(isName a.host&&isName a.path)=true/\isResponse x=true/\x.status=200/\x.kind=1 then(⟨a,(parsePolicy x.bj).1,default,[],false,newBuilder,[],[],[],0,0,0,0,[],[],false⟩,true) else(default,false)
abbrev Rd:Fct:=⟨[.v (.el .addr),.v (.el .bd)],[.el .page,.el .bool],λ(x:D_×R_×Unit)=>x.2.1.bj.size<=200000000/\szAddr x.1<=10000000,λ(x:D_×R_×Unit)=>((newPage x.1 x.2.1).1,(newPage x.1 x.2.1).2,())⟩
def Amk:=AlL.a Rd<|Fct.o (KP [2,3,4,5,6,7] [35]) AlL.2 func198 (by
 rintro⟨(a:D_),(x:R_),_⟩ hp;refine ho (let H_:=(⟨#[]⟩:ByteArray);let E_:Out:=.leaf (.tup [(true,[vs H_,vs H_,vb (false),.nl,.nl,.nl,vs H_,vs H_,.nl,vb (false),.nl,.nl,.nl,.nl,.nl,vi ((0:Int)),vi ((0:Int)),vi ((0:Int)),vi ((0:Int)),.nl,.nl,vb (false)]),(false,[vb (false)])]) [] [];.cl Ch (x.bj,()) λz2=>.cl DH (a,()) λz3=>.br (!z3.1) E_ (.cl AJ (x,()) λz4=>.br (!z4.1) E_ (.br (!z2.2.1) E_ (.br (x.status != 200) E_ (.br (x.kind != 1) E_ (.cl Gr () λz5=>.leaf (.tup [(true,[vs (a.host),vs (a.path),vb (z2.1.set_),.l Ty.str (z2.1.bp),.l Ty.str (z2.1.styles),.l Ty.str (z2.1.images),vs (z2.1.nonce),vs H_,.nl,vb (false),.l Ty.node (z5.1.bi),.l Ty.int (z5.1.bl),.nl,.nl,.nl,vi ((0:Int)),vi ((0:Int)),vi ((0:Int)),vi ((0:Int)),.nl,.nl,vb (false)]),(false,[vb (true)])]) [] [])))))) ?_;refine Do ?_ λo1 z2 ez2=>(Do ?_ λo2 z3 ez3=>Aa (λh3=>Fct.leafZ (default,false,()) (by repeat' first|exact rfl|exact trivial|refine And.intro ?_ ?_) ?_) λh3=>Do ?_ λo4 z4 ez4=>Aa (λh5=>Fct.leafZ (default,false,()) (by repeat' first|exact rfl|exact trivial|refine And.intro ?_ ?_) ?_) λh5=>Aa (λh6=>Fct.leafZ (default,false,()) (by repeat' first|exact rfl|exact trivial|refine And.intro ?_ ?_) ?_) λh6=>Aa (λh7=>Fct.leafZ (default,false,()) (by repeat' first|exact rfl|exact trivial|refine And.intro ?_ ?_) ?_) λh7=>Aa (λh8=>Fct.leafZ (default,false,()) (by repeat' first|exact rfl|exact trivial|refine And.intro ?_ ?_) ?_) λh8=>Do trivial λ_ z5 ez5=>Fct.leafZ (⟨a,z2.fst,default,[],false,z5.fst,[],[],[],(0:Int),(0:Int),(0:Int),(0:Int),[],[],false⟩,true,()) (by repeat' first|exact rfl|exact trivial|refine And.intro ?_ ?_) ?_)<;>subst_vars<;>(have hd:a.host.size<=szAddr a/\a.path.size<=szAddr a:=⟨cw _ _,Nat.le_add_left _ _⟩;try simp only[std,Nat.reduceAdd,newPage,isResponse] at *)<;>(try simp(disch:=omega) only[FS,A_] at *)<;>(try simp(disch:=omega) only[I_,J_])<;>(first|trivial|omega|grind[FS,A_,HO,G_,F_,maxLen,newPage,isResponse]))
def AmK:=Amk.a Rd<|Fct.o (KP [2,3,4,5,6] [25]) Amk.2 func96 (by
 rintro⟨(a:D_),(x:R_),_⟩ hp;refine ho (let H_:=(⟨#[]⟩:ByteArray);let E_:Out:=.leaf (.tup [(true,[vs H_,vs H_,vb (false),.nl,.nl,.nl,vs H_,vs H_,.nl,vb (false),.nl,.nl,.nl,.nl,.nl,vi ((0:Int)),vi ((0:Int)),vi ((0:Int)),vi ((0:Int)),.nl,.nl,vb (false)]),(false,[vb (false)])]) [] [];.cl DH (a,()) λz2=>.br (!z2.1) E_ (.cl AJ (x,()) λz3=>.br (!z3.1) E_ (.br (x.status != 200) E_ (.br (x.kind != 1) E_ (.cl Ch (x.bj,()) λz4=>.cl Gr () λz5=>.leaf (.tup [(true,[vs (a.host),vs (a.path),vb (z4.1.set_),.l Ty.str (z4.1.bp),.l Ty.str (z4.1.styles),.l Ty.str (z4.1.images),vs (z4.1.nonce),vs H_,.nl,vb (false),.l Ty.node (z5.1.bi),.l Ty.int (z5.1.bl),.nl,.nl,.nl,vi ((0:Int)),vi ((0:Int)),vi ((0:Int)),vi ((0:Int)),.nl,.nl,vb (false)]),(false,[vb (true)])]) [] []))))) ?_;refine Do ?_ λo1 z2 ez2=>(Aa (λh2=>Fct.leafZ (default,false,()) (by repeat' first|exact rfl|exact trivial|refine And.intro ?_ ?_) ?_) λh2=>Do ?_ λo3 z3 ez3=>Aa (λh4=>Fct.leafZ (default,false,()) (by repeat' first|exact rfl|exact trivial|refine And.intro ?_ ?_) ?_) λh4=>Aa (λh5=>Fct.leafZ (default,false,()) (by repeat' first|exact rfl|exact trivial|refine And.intro ?_ ?_) ?_) λh5=>Aa (λh6=>Fct.leafZ (default,false,()) (by repeat' first|exact rfl|exact trivial|refine And.intro ?_ ?_) ?_) λh6=>Do ?_ λo7 z4 ez4=>Do trivial λ_ z5 ez5=>Fct.leafZ (⟨a,z4.fst,default,[],false,z5.fst,[],[],[],(0:Int),(0:Int),(0:Int),(0:Int),[],[],false⟩,true,()) (by repeat' first|exact rfl|exact trivial|refine And.intro ?_ ?_) ?_)<;>subst_vars<;>(have hd:a.host.size<=szAddr a/\a.path.size<=szAddr a:=⟨cw _ _,Nat.le_add_left _ _⟩;try simp only[std,Nat.reduceAdd,newPage,isResponse] at *)<;>(try simp(disch:=omega) only[FS,A_] at *)<;>(try simp(disch:=omega) only[I_,J_])<;>(first|trivial|omega|grind[FS,A_,HO,G_,F_,maxLen,newPage,isResponse]))
def startLoad (n:az) (a:D_) (cs:List Int):N_×Bool:=if(newPage a (fetchNow n a.host a false).2).2 then(⟨(fetchNow n a.host a false).1,(newPage a (fetchNow n a.host a false).2).1,cutText (fetchNow n a.host a false).2.body cs,[],[]⟩,true) else(⟨(fetchNow n a.host a false).1,default,[],[],[]⟩,false)
def ZD {c:bv} {t:ByteArray} {a:D_} {now:Int} {x:R_} (h:lookUp c t a now=some x):Ad x<=szCache c:=by
 unfold lookUp at h;obtain⟨e,he,rfl⟩:=Option.map_eq_some_iff.1 h;obtain⟨i,hi,rfl⟩:=List.mem_iff_getElem.1 (List.mem_of_find?_eq_some he);have:=C6 AY (l:=c.bg) (i:=i) hi;rw[cd,aX hi] at this;simp only[Option.getD_some,AY] at this;simp only[szCache];omega
def Adc (n:az) (t:ByteArray) (a:D_) (g:Bool):Ad (fetchNow n t a g).2<=szNet n:=by
 unfold fetchNow;split
 ·exact Nat.zero_le _
 split
 ·rename_i h;obtain⟨x,hx⟩:=Option.isSome_iff_exists.1 h;have:=ZD hx;rw[hx];simp only[Option.getD_some,szNet];omega
 ·have:=Lu n.servers a;simp only[szNet];omega
abbrev Ho:Fct:=⟨[.v (.el .net),.v (.el .addr),.v (.sl .int)],[.el .loader,.el .bool],λ(x:fZ)=>szNet x.1<=1048576/\szAddr x.2.1<=1048576/\x.2.2.1.length<=1048576,λ(x:fZ)=>((startLoad x.1 x.2.1 x.2.2.1).1,(startLoad x.1 x.2.1 x.2.2.1).2,())⟩
theorem q2 (n:az) (a:D_) (cs:List Int) (hp:Ho.pre (n,a,cs,())):Out.holds (Ho.ctr (n,a,cs,())).post (.cl Bj (n,a.host,a,false,()) λz2=>.cl Rd (a,z2.2.1,()) λz3=>.br (!z3.2.1) (.leaf (.tup [(true,[.l Ty.server (z2.1.servers),.l Ty.entry (z2.1.cache.bg),.l Ty.sent (z2.1.log),vi (z2.1.now),vs ((⟨#[]⟩:ByteArray)),vs ((⟨#[]⟩:ByteArray)),vb (false),.nl,.nl,.nl,vs ((⟨#[]⟩:ByteArray)),vs ((⟨#[]⟩:ByteArray)),.nl,vb (false),.nl,.nl,.nl,.nl,.nl,vi ((0:Int)),vi ((0:Int)),vi ((0:Int)),vi ((0:Int)),.nl,.nl,vb (false),.nl,.nl,.nl]),(false,[vb (false)])]) [] []) (.cl LD (z2.2.1.body,cs,()) λz4=>.leaf (.tup [(true,[.l Ty.server (z2.1.servers),.l Ty.entry (z2.1.cache.bg),.l Ty.sent (z2.1.log),vi (z2.1.now),vs (z3.1.addr.host),vs (z3.1.addr.path),vb (z3.1.bj.set_),.l Ty.str (z3.1.bj.bp),.l Ty.str (z3.1.bj.styles),.l Ty.str (z3.1.bj.images),vs (z3.1.bj.nonce),vs (z3.1.tok.rest),.l Ty.token (z3.1.bn),vb (z3.1.ended),.l Ty.node (z3.1.ba.bi),.l Ty.int (z3.1.ba.bl),.l Ty.slot (z3.1.bf),.l Ty.module (z3.1.bh),.l Ty.addr (z3.1.bg),vi (z3.1.block),vi (z3.1.inline),vi (z3.1.bm),vi (z3.1.bq),.l Ty.addr (z3.1.ran),.l Ty.str (z3.1.log),vb (z3.1.loaded),.l Ty.str (z4.1),.nl,.nl]),(false,[vb (true)])]) [] [])):=by
 refine Do ?_ λo1 z2 ez2=>(Do ?_ λo2 z3 ez3=>Aa (λh3=>Fct.leafZ (⟨z2.fst,default,[],[],[]⟩,false,()) (by repeat' first|exact rfl|exact trivial|refine And.intro ?_ ?_) ?_) λh3=>Do ?_ λo4 z4 ez4=>Fct.leafZ (⟨z2.fst,z3.fst,z4.fst,[],[]⟩,true,()) (by repeat' first|exact rfl|exact trivial|refine And.intro ?_ ?_) ?_)<;>subst_vars<;>(have hf:=Adc n a.host a false;have hd:a.host.size<=szAddr a/\a.path.size<=szAddr a:=⟨cw _ _,Nat.le_add_left _ _⟩;have he:(fetchNow n a.host a false).2.body.size<=Ad (fetchNow n a.host a false).2/\(fetchNow n a.host a false).2.bj.size<=Ad (fetchNow n a.host a false).2:=⟨cw _ _,Nat.le_add_left _ _⟩;try simp only[std,Nat.reduceAdd,startLoad,szNet] at *)<;>(try simp(disch:=omega) only[FS,A_] at *)<;>(try simp(disch:=omega) only[I_,J_])<;>(first|trivial|omega|grind[FS,A_,HO,G_,F_,maxLen,startLoad,szNet])
def AlK:=AmK.a Ho<|Fct.o (KP [2,3,4,6,7,8,9,10,11,12] [30]) AmK.2 func109 (by
 rintro⟨(n:az),(a:D_),(cs:List Int),_⟩ hp;exact ho _ (q2 n a cs hp))
def Aj6:=AlK.a Ho<|Fct.o (KP [2,3,4,6,7,8,9,10,11] [27]) AlK.2 func19 (by
 rintro⟨(n:az),(a:D_),(cs:List Int),_⟩ hp;exact ho _ (q2 n a cs hp))
def OP (s:ByteArray) (cs:List Int):∀ (f:Nat) (i a:Int),∀ x∈cutGo s cs f i a,Af x<=s.size
 | 0,i,a,x,h=>by
  simp only[cutGo,List.mem_singleton] at h;subst h;simp only[Af,cH];omega
 | f+1,i,a,x,h=>by
  simp only[cutGo] at h;split at h
  ·rcases cp.1 h with rfl|h
   ·simp only[Af,cH];omega
   ·exact OP s cs f _ _ x h
  ·exact OP s cs f _ _ x h
def XO (s:ByteArray) (cs:List Int):szL Af (cutText s cs)<=(s.size+1)*8 :=
 bT (Ae5 λx hx=>OP s cs _ _ _ x hx) (Nat.mul_le_mul_left _ (Us s cs))
def Ad6 (s:ByteArray):AQ (parsePolicy s).1<=4*(s.size+1):=by
 unfold parsePolicy;split
 ·have:AQ (default:aN)=0:=by decide
  simp only[this];exact Nat.zero_le _
 split
 ·unfold polCand;exact Sl (by
   split
   ·rw[cH];have:=Ew 59 s 3;omega
   ·exact Nat.zero_le _)
 ·have:AQ (default:aN)=0:=by decide
  simp only[this];exact Nat.zero_le _
def digestOf (b:ByteArray):Int:=hashI (151::bti (AS b) (AS b)) 11
def MT (b:ByteArray) (i:Nat):0<=(AS b).getD i default/\(AS b).getD i default<=255:=by
 unfold AS;rw[cd,cE];cases h:b.data.toList[i]? with
 | none=>exact⟨Int.le_refl _,by decide⟩
 | some x=>have:=x.toNat_lt;simp only[aY,Option.getD_some];omega
def IX (b:ByteArray):(AS b).length=b.size:=by rw[AS,eh];rfl
def Ti (b:ByteArray):List.map (λb:UInt8=>(b.toNat:Int)) b.data.toList=AS b:=rfl
def AhA {b:ByteArray} (hb:b.size<=1000000000) (i:Nat) : -9223372036854775808<=(151::bti (AS b) (AS b)).getD i default/\(151::bti (AS b) (AS b)).getD i default<=9223372036854775807:=by
 match i with
 | 0=>
  simp
 | 1=>
  show -9223372036854775808<=((AS b).length:Int)/\((AS b).length:Int)<=9223372036854775807;rw[IX];omega
 | i+2=>
  have:=MT b i;show -9223372036854775808<=(AS b).getD i default/\(AS b).getD i default<=9223372036854775807;omega
def AgO (b:ByteArray):(151::bti (AS b) (AS b)).length=b.size+2:=by simp[bti,IX]
abbrev Ir:Fct:=⟨[.v (.el .str)],[.el .int],λ(x:K_)=>x.1.size<=1000000000,λ(x:K_)=>(digestOf x.1,())⟩
theorem q3 (b:ByteArray) (hp:Ir.pre (b,())):Out.holds (Ir.ctr (b,())).post (.cl GR (List.map (λb=>(b.toNat:Int)) b.data.toList,()) λ(z2:W_)=>.ap (1+z2.1.length) 8<|.cl ZL ([(151:Int)]++z2.1,()) λ(z3:B_)=>.lf Ir (z3.1,())):=by
 refine Ae ?_ λ_=>(Ed ?_ λ_=>Ae ?_ λ_=>lfY ?_)<;>(have h1:=MT b;have h2:=IX b;have h3:=AgO b;have h4:=AhA (show b.size<=1000000000 from hp);try simp only[std,Nat.reduceAdd,Ti,digestOf,List.singleton_append] at *)<;>(first|trivial|omega|exact⟨o_,λi _=>h1 i⟩|exact⟨o_,λi _=>h4 i⟩|skip)
def Akr:=Aj6.a Ir<|Fct.o [0,2] Aj6.2 func403 (by
 rintro⟨(b:ByteArray),_⟩ hp;exact ho _ (q3 b hp))
def AlA:=Akr.a Ir<|Fct.o [0,2] Akr.2 func385 (by
 rintro⟨(b:ByteArray),_⟩ hp;exact ho _ (q3 b hp))
def O6:∀ (l:List Int) (d:Int),0<=d->d<2147483647->0<=hashI l d/\hashI l d<2147483647
 | [],d,h0,h1=>⟨h0,h1⟩
 | x::l,d,h0,h1=>by have hm:=Mb x;have ht:=Mf (x:=d*1000003+modM x 2147483647+13) o_;exact O6 l _ ht.1 ht.2
def Tg (b:ByteArray):0<=digestOf b/\digestOf b<2147483647:=O6 _ 11 (by decide) (by decide)
abbrev Dc:Fct:=⟨[.v (.el .str),.v (.el .str)],[.el .bool],λ(x:cA)=>x.1.size<=1000000000,λ(x:cA)=>(decide (x.2.1=⟨#[]⟩)||decide (x.2.1=Kt (digestOf x.1)),())⟩
theorem q17 (b:ByteArray) (v:ByteArray) (hp:Dc.pre (b,v,())):Out.holds (Dc.ctr (b,v,())).post (.br (ByteArray.toList v==(⟨#[]⟩:ByteArray).toList) (.lf Dc (true,())) (.cl Ir (b,()) λ(z2:B_)=>.cl A2 (z2.1,()) λz3=>.lf Dc (ByteArray.toList v==z3.1.toList,()))):=hz (((Tg b)))
def AlU:=AlA.a Dc<|Fct.o [0,1,4] AlA.2 func353 (by
 rintro⟨(b:ByteArray),(v:ByteArray),_⟩ hp;exact ho _ (q17 b v hp))
def Anm:=AlU.a Dc<|Fct.o [0,1,4] AlU.2 func326 (by
 rintro⟨(b:ByteArray),(v:ByteArray),_⟩ hp;exact ho _ (q17 b v hp))
def checkResponse (p:aN) (r:ar) (x:R_):Int:=if checkRequest p r≠1 then 2 else if isResponse x=false\/x.status≠200 then 3 else if(decide (x.kind=r.kind)||decide (r.kind=5/\x.kind=2))=false then 4 else if r.from_≠r.to.host/\x.shares=false/\(r.kind=5\/r.digest≠⟨#[]⟩) then 5 else if(decide (r.digest=⟨#[]⟩)||decide (r.digest=Kt (digestOf x.body)))=false then 6 else 1
def Jb {p:aN} {r:ar} (h:checkRequest p r≠1):checkRequest p r=2:=by
 unfold checkRequest at *;split<;>simp_all
abbrev Ap:Fct:=⟨[.v (.el .bj),.v (.el .request),.v (.el .bd)],[.el .int],λ(x:eS)=>AQ x.1<=1099511627776/\BE x.2.1<=1099511627776/\x.2.2.1.bj.size<=200000000/\x.2.2.1.body.size<=1000000000,λ(x:eS)=>(checkResponse x.1 x.2.1 x.2.2.1,())⟩
def AmQ:=Anm.a Ap<|Fct.o (KP [3,4,5,6] [7,12,21,27,49]) Anm.2 func260 (by
 rintro⟨(p:aN),(r:ar),(x:R_),_⟩ hp;exact hg (let L_:Out:=.lf Ap ((5:Int),());let H_:Out:=.lf Ap ((3:Int),());let E_:Out:=.cl Dc (x.body,r.digest,()) λz5=>.br (!z5.1) (.lf Ap ((6:Int),())) (.lf Ap ((1:Int),()));.cl Ay (p,r,()) λ(z2:B_)=>.br (z2.1 != 1) (.lf Ap ((2:Int),())) (.cl AJ (x,()) λz3=>.br (!z3.1) H_ (.br (x.status != 200) H_ (.cl EE (x,r.kind,()) λz4=>.br (!z4.1) (.lf Ap ((4:Int),())) (.br (!r.from_.toList==r.to.host.toList) (.br (!x.shares) (.br (r.kind==5) L_ (.br (!r.digest.toList==(⟨#[]⟩:ByteArray).toList) L_ E_)) E_) E_))))) (an_ @checkResponse.eq_1<|(λh=>Jb (p:=p) (r:=r) h)))
def Aj9:=AmQ.a Ap<|Fct.o (KP [3,4,5,6] [7,15,24,30,52]) AmQ.2 func225 (by
 rintro⟨(p:aN),(r:ar),(x:R_),_⟩ hp;exact hg (let L_:Out:=.lf Ap ((5:Int),());let H_:Out:=.lf Ap ((3:Int),());let E_:Out:=.cl Dc (x.body,r.digest,()) λz6=>.br (!z6.1) (.lf Ap ((6:Int),())) (.lf Ap ((1:Int),()));.cl Ay (p,r,()) λ(z2:B_)=>.br (z2.1 != 1) (.cl Ay (p,r,()) λ(z3:B_)=>.lf Ap (z3.1,())) (.cl AJ (x,()) λz4=>.br (!z4.1) H_ (.br (x.status != 200) H_ (.cl EE (x,r.kind,()) λz5=>.br (!z5.1) (.lf Ap ((4:Int),())) (.br (!r.from_.toList==r.to.host.toList) (.br (!x.shares) (.br (r.kind==5) L_ (.br (!r.digest.toList==(⟨#[]⟩:ByteArray).toList) L_ E_)) E_) E_))))) (an_ @checkResponse.eq_1<|(λh=>Jb (p:=p) (r:=r) h)))
def usable (p:aN) (r:ar) (x:R_):ByteArray×Bool:=if checkResponse p r x=1 then(x.body,true) else(⟨#[]⟩,false)
abbrev CL:Fct:=⟨[.v (.el .bj),.v (.el .request),.v (.el .bd)],[.el .str,.el .bool],λ(x:eS)=>AQ x.1<=1099511627776/\BE x.2.1<=1099511627776/\x.2.2.1.bj.size<=200000000/\x.2.2.1.body.size<=1000000000,λ(x:eS)=>((usable x.1 x.2.1 x.2.2.1).1,(usable x.1 x.2.1 x.2.2.1).2,())⟩
def AkB:=Aj9.a CL<|Fct.o (KP [3,4,5,6,7] [12]) Aj9.2 func261 (by
 rintro⟨(p:aN),(r:ar),(x:R_),_⟩ hp;exact hg (.cl Ap (p,r,x,()) λ(z2:B_)=>.br (z2.1 != 1) (.lf CL ((⟨#[]⟩:ByteArray),false,())) (.lf CL (x.body,true,()))) (@usable.eq_1))
def Aky:=AkB.a CL<|Fct.o (KP [3,4,5,6,7] [12]) AkB.2 func226 (by
 rintro⟨(p:aN),(r:ar),(x:R_),_⟩ hp;exact hg (.cl Ap (p,r,x,()) λ(z2:B_)=>.br (z2.1 != 1) (.lf CL ((⟨#[]⟩:ByteArray),false,())) (.lf CL (x.body,true,()))) (@usable.eq_1))
def kindOf (m:Int):Int:=if m=1 then 4 else if m=2 then 3 else if m=3\/m=4 then 2 else 0
abbrev BF:Fct:=⟨[.v (.el .int)],[.el .int],λ(x:B_)=>True,λ(x:B_)=>(kindOf x.1,())⟩
theorem q18 (m:Int) (hp:BF.pre (m,())):Out.holds (BF.ctr (m,())).post (.br (m==1) (.lf BF ((4:Int),())) (.br (m==2) (.lf BF ((3:Int),())) (.br (m==3) (.br (m==3) (.lf BF ((2:Int),())) (.lf BF ((0:Int),()))) (.br (m==4) (.lf BF ((2:Int),())) (.lf BF ((0:Int),())))))):=hz ((@kindOf.eq_1))
def Amv:=Aky.a BF<|Fct.o (KP [0,2,3,8] [4,6]) Aky.2 func254 (by
 rintro⟨(m:Int),_⟩ hp;exact ho _ (q18 m hp))
def AmN:=Amv.a BF<|Fct.o (KP [0,2,3,8] [4,6]) Amv.2 func218 (by
 rintro⟨(m:Int),_⟩ hp;exact ho _ (q18 m hp))
def slotRequest (p:C_) (k:Int):ar:=if 0<=k/\k<p.bf.length then⟨kindOf (p.bf.getD k.toNat default).mode,(p.bf.getD k.toNat default).to,p.addr.host,(p.bf.getD k.toNat default).digest⟩ else default
abbrev Bs:Fct:=⟨[.v (.el .page),.v (.el .int)],[.el .request],λ(x:bH)=>x.1.bf.length<=1000000000000/\-9223372036854775808<=x.2.1/\x.2.1<=9223372036854775807,λ(x:bH)=>(slotRequest x.1 x.2.1,())⟩
def AlV:=AmN.a Bs<|Fct.o (KP [1,2,4,5] [12]) AmN.2 func152 (by
 rintro⟨(p:C_),(k:Int),_⟩ hp;exact hg (.cl Au (k,(0:Int),wr ((p.bf.length:Int)-(1:Int)),()) λz2=>.br (!z2.1) (.lf Bs (default,())) (.ob (inB k p.bf.length)<|.cl BF ((p.bf.getD (Int.toNat k) default).mode,()) λ(z3:B_)=>.lf Bs (⟨z3.1,(p.bf.getD (Int.toNat k) default).to,p.addr.host,(p.bf.getD (Int.toNat k) default).digest⟩,()))) (an_ @slotRequest.eq_1<|@inRange.eq_1))
def Ak9:=AlV.a Bs<|Fct.o (KP [1,2,4,5] [14]) AlV.2 func121 (by
 rintro⟨(p:C_),(k:Int),_⟩ hp;exact hg (.br (decide (k<0)) (.lf Bs (default,())) (.br (decide (k>=(p.bf.length:Int))) (.lf Bs (default,())) (.ob (inB k p.bf.length)<|.cl BF ((p.bf.getD (Int.toNat k) default).mode,()) λ(z2:B_)=>.lf Bs (⟨z2.1,(p.bf.getD (Int.toNat k) default).to,p.addr.host,(p.bf.getD (Int.toNat k) default).digest⟩,())))) (an_ @slotRequest.eq_1<|@inRange.eq_1))
def modRequest (p:C_) (k:Int):ar:=if 0<=k/\k<p.bh.length then⟨5,(p.bh.getD k.toNat default).to,p.addr.host,⟨#[]⟩⟩ else default
abbrev Bo:Fct:=⟨[.v (.el .page),.v (.el .int)],[.el .request],λ(x:bH)=>x.1.bh.length<=2000000000000/\-9223372036854775808<=x.2.1/\x.2.1<=9223372036854775807,λ(x:bH)=>(modRequest x.1 x.2.1,())⟩
def Ake:=Ak9.a Bo<|Fct.o (KP [1,2,4] [11]) Ak9.2 func154 (by
 rintro⟨(p:C_),(k:Int),_⟩ hp;exact hg (.cl Au (k,(0:Int),wr ((p.bh.length:Int)-(1:Int)),()) λz2=>.br (!z2.1) (.lf Bo (default,())) (.ob (inB k p.bh.length)<|.lf Bo (⟨(5:Int),(p.bh.getD (Int.toNat k) default).to,p.addr.host,(⟨#[]⟩:ByteArray)⟩,()))) (an_ @modRequest.eq_1<|@inRange.eq_1))
def An6:=Ake.a Bo<|Fct.o (KP [1,2,4] [13]) Ake.2 func123 (by
 rintro⟨(p:C_),(k:Int),_⟩ hp;exact hg (.br (decide (k<0)) (.lf Bo (default,())) (.br (decide (k>=(p.bh.length:Int))) (.lf Bo (default,())) (.ob (inB k p.bh.length)<|.lf Bo (⟨(5:Int),(p.bh.getD (Int.toNat k) default).to,p.addr.host,(⟨#[]⟩:ByteArray)⟩,())))) (an_ @modRequest.eq_1<|@inRange.eq_1))
def addrOf (s b:ByteArray):D_:=match G7 47 (toL s) with
 | some (p,q)=>⟨ofL p,ofL q⟩
 | none=>⟨b,s⟩
def parseAddr (s b:ByteArray):D_×Bool:=if isName (addrOf s b).host&&isName (addrOf s b).path then(addrOf s b,true) else(default,false)
def XC {s b:ByteArray} {i:Nat} (h:i<s.size) (hb:s.data.getD i 0=47) (hn:47∉(toL s).take i):addrOf s b=⟨s.extract 0 i,s.extract (i+1) s.size⟩:=by
 unfold addrOf;rw[Abh h hb hn];have e1:ofL ((toL s).take i)=s.extract 0 i:=by rw[<-Cg (s.extract 0 i),A4,dt]
 have e2:ofL ((toL s).drop (i+1))=s.extract (i+1) s.size:=by rw[<-Cg (s.extract (i+1) s.size),A4,ct (by rw[Br];exact aa _)]
 simp only[e1,e2]
def Yj {s b:ByteArray} {i:Nat} (h:s.size<=i) (hn:47∉(toL s).take i):addrOf s b=⟨b,s⟩:=by
 rw[ct (by rw[Br];exact h)] at hn;unfold addrOf;rw[Of hn]
def Qy {b:UInt8}:∀ {l p q:List UInt8},G7 b l=some (p,q)->p.length<=l.length/\q.length<=l.length
 | [],p,q,h=>by cases h
 | x::l,p,q,h=>by
  rw[G7] at h;split at h
  ·simp_all
  ·obtain⟨r,hr,he⟩:=Option.map_eq_some_iff.1 h;simp only[bW] at he;obtain⟨rfl,rfl⟩:=he;have:=Qy (p:=r.1) (q:=r.2) hr;grind
def Lp (s b:ByteArray):(addrOf s b).host.size<=s.size+b.size/\(addrOf s b).path.size<=s.size:=by
 unfold addrOf;cases h:G7 47 (toL s) with
 | none=>exact⟨by simp only;omega,aa _⟩
 | some r=>
  have:=Qy (p:=r.1) (q:=r.2) h;rw[Br] at this;simp only[HW];omega
def Lj (b:ByteArray):parseAddr ⟨#[]⟩ b=(default,false):=by
 unfold parseAddr;have:addrOf ⟨#[]⟩ b=⟨b,⟨#[]⟩⟩:=rfl;rw[this,J_];rw[show isName ⟨#[]⟩=false from rfl,Bool.and_false];decide
def X1 (s b:ByteArray):addrOf s b=if(Hl 47 s).2.2 then⟨(Hl 47 s).1,(Hl 47 s).2.1⟩ else⟨b,s⟩:=by
 unfold addrOf Hl;grind
abbrev AK:Fct:=⟨[.v (.el .str),.v (.el .str)],[.el .addr,.el .bool],λ(x:cA)=>x.1.size<=4000000000/\x.2.1.size<=4000000000,λ(x:cA)=>((parseAddr x.1 x.2.1).1,(parseAddr x.1 x.2.1).2,())⟩
def AgX:Go.Proofs.Lays.n145 Tryz.prog laysCmp_r:=by repeat' first|kernel_rfl|constructor|intro _
def AlQ:=An6.a Ab5<|Ahu λs sep w h hs=>by obtain⟨m,hm⟩:=N9 (zero := #[.int .i64 0]) (t:=3) (g:=laysCmp_r.g 1) h (fx k_) k_ rfl k_ k_ Tryz.underlying3;exact Go.Proofs.Any.strings_Cut AgX s sep m w hs hm
def AeL {s:ByteArray} {i:Nat}:((s.data.getD i 0).toNat:Int)=47↔s.data.getD i 0=47:=NP (b:=47) o_ o_
abbrev Dw (s:ByteArray) (b:ByteArray):LInv:=⟨[⟨.b,6,true,.el .addr⟩,⟨.s,7,true,.el .int⟩,⟨.b,4,true,.el .addr⟩],λ(z x:eT)=>(0<=x.2.1/\x.2.1<=s.size/\x.1=⟨b,s⟩/\47∉(toL s).take x.2.1.toNat)/\x.2.2.1=z.2.2.1,λ(x:eT)=>s.size-x.2.1.toNat⟩
def AjX:=AlQ.a AK<|Fct.p (KP [0,1,4,5,6,7] [14,20,31]) (λ⟨s,b,_⟩=>lv [(3,Dw s b)]) AlQ.2 func355 (by
 rintro⟨(s:ByteArray),(b:ByteArray),_⟩ hp;refine ho (lpx (Dw s b) ((⟨b,s⟩:D_),((0:Int),(default,()))) λ(y1:eT) bk1=>.br (decide (y1.2.1<(s.size:Int))) (.ob (0<=y1.2.1/\y1.2.1<(s.size:Int))<|.br ((↑(s.data.getD y1.2.1.toNat 0).toNat:Int)==47) (.ob (0<=y1.2.1/\y1.2.1<=(s.size:Int))<|.ob (0<=w1 y1.2.1/\w1 y1.2.1<=(s.size:Int))<|.cl DH ((⟨s.extract 0 y1.2.1.toNat,s.extract (w1 y1.2.1).toNat s.size⟩:D_),()) λz2=>.br (!z2.1) (.lf AK (default,false,())) (.lf AK (⟨s.extract 0 y1.2.1.toNat,s.extract (w1 y1.2.1).toNat s.size⟩,true,()))) (.re (Value.string s)<|.re (Value.string b)<|.bk (bk1 (y1.1,(w1 y1.2.1,(y1.2.2.1,())))))) (.cl DH (y1.1,()) λz3=>.br (!z3.1) (.lf AK (default,false,())) (.lf AK (y1.1,true,())))) ?_;refine Am ?_ λ(y1:eT) i1=>Aa (λh2=>Ab ?_ λ_=>Aa (λh4=>Ab ?_ λ_=>Ab ?_ λ_=>Ae ?_ λ_=>Aa (λh8=>lfY ?_) λh8=>lfY ?_) λh4=>Ai<|Ai<|AR ?_) (λh2=>Ae ?_ λ_=>Aa (λh11=>lfY ?_) λh11=>lfY ?_)<;>have hz:=Lp s b<;>(try obtain⟨⟨a1,a2,a3,a4⟩,a5⟩:=i1)<;>(try simp only[std,Nat.reduceAdd,parseAddr,AeL] at *)<;>(try simp(disch:=omega) only[FS,A_] at *)<;>(try simp(disch:=omega) only[I_,J_])<;>(try have e:=XC (b:=b) (show y1.2.1.toNat<s.size from o_) h4 a4;simp only[e] at *)<;>(try have t:=Aau (show y1.2.1.toNat<s.size from o_) h4 a4)<;>(try have e:=Yj (b:=b) (show s.size<=y1.2.1.toNat from o_) a4;simp only[e] at *)<;>(first|trivial|omega|grind[ByteArray.size_extract]))
def findAttr (l:List cf) (n:ByteArray):Option ByteArray:=(l.find? λa=>decide (a.name=n)).map (·.value)
abbrev Al:Fct:=⟨[.v (.sl .attr),.v (.el .str)],[.el .str,.el .bool],λ(x:ga)=>x.1.length<=1000000000000,λ(x:ga)=>((findAttr x.1 x.2.1).getD ⟨#[]⟩,(findAttr x.1 x.2.1).isSome,())⟩
abbrev Cu (l:(List cf)) (n:ByteArray):LInv:=⟨[⟨.s,6,true,.el .int⟩],λ_ (x:B_)=>0<=x.1/\x.1<=l.length/\findAttr (l.drop x.1.toNat) n=findAttr l n,λ(x:B_)=>l.length-x.1.toNat⟩
def AkL:=AjX.a Al<|Fct.p (KP [0,1,4,5,6] [10,19]) (λ⟨l,n,_⟩=>lv [(2,Cu l n)]) AjX.2 func340 (by
 rintro⟨(l:List cf),(n:ByteArray),_⟩ hp;exact hg (.lq (Int×PUnit) (Cu l n).inv (Cu l n).m ((0:Int),()) λy1 bk1=>.br (decide (y1.1<(l.length:Int))) (.ob (inB y1.1 l.length)<|.br ((l.getD y1.1.toNat default).name.toList==n.toList) (.ob (inB y1.1 l.length)<|.lf Al ((l.getD y1.1.toNat default).value,true,())) (.re (l)<|.re (Value.string n)<|.bk (bk1 (w1 y1.1,())))) (.lf Al ((⟨#[]⟩:ByteArray),false,()))) (@findAttr.eq_1))
abbrev Gv:Fct:=⟨[.v (.el .attr),.p (.el .str)],[.el .bool],λ(x:cf×ByteArray×Unit)=>True,λ(x:cf×ByteArray×Unit)=>(decide (x.1.name=x.2.1),())⟩
def Ama:=AkL.a Gv<|Fct.o [1,2,3] AkL.2 func374 (by
 rintro⟨(a:cf),(n:ByteArray),_⟩ hp;exact hq (.lf Gv (a.name.toList==ByteArray.toList n,())))
abbrev A7:Fct:=⟨[aL .attr,.c 374 [.el .str]],[rI],λx=>x.1.length<=1000000000000000000/\∀ c,Gv.pre (c,x.2.1),λx=>(fidx (λc=>(Gv.fn (c,x.2.1)).1) x.1 0,())⟩
abbrev AC (l:(List cf)) (u:(ByteArray×Unit)):LInv:=⟨[⟨.s,8,true,.el .int⟩],λ_ (x:B_)=>0<=x.1/\x.1<=l.length/\fidx (λc=>(Gv.fn (c,u)).1) l 0=fidx (λc=>(Gv.fn (c,u)).1) (l.drop x.1.toNat) x.1,λ(x:B_)=>l.length-x.1.toNat⟩
def Ajy:=Ama.a A7<|Fct.p (KP [0,1,4,5,7,8] [9,16]) (λ⟨l,u,_⟩=>lv [(2,AC l u)]) Ama.2 func373 (by
 rintro⟨(l:List cf),(u:K_),_⟩ hp;refine ho (lpx (AC l u) ((0:Int),()) λ(y1:B_) bk1=>.br (decide (y1.1<(l.length:Int))) (.ob (inB y1.1 l.length)<|.cl Gv (l.getD y1.1.toNat default,u.1,()) λz2=>.br (z2.1) (.lf A7 (y1.1,())) (.re (l)<|.re (enc Ty.str u.1)<|.re (Value.int IntKind.i64 (l.length:Int))<|.bk (bk1 (w1 y1.1,())))) (.lf A7 ((-1:Int),()))) ?_;refine Am ?_ λ(y1:B_) i1=>Aa (λh2=>Ab ?_ λ_=>Ae trivial λ_=>Aa (λh4=>lfY ?_) λh4=>Ai<|Ai<|Ai<|AR ?_) (λh2=>lfY ?_)<;>(try simp only[std,Nat.reduceAdd] at *)<;>(try have hp2:=hp.2)<;>(try have hp1:=hp.1)<;>(first|trivial|omega|grind[FS,A_,HO,G_,F_,maxLen,fidx]))
def Anw:=Ajy.a Al<|Fct.o (KP [0,3,4,5,6] [11]) Ajy.2 func311 (by
 rintro⟨(l:List cf),(n:ByteArray),_⟩ hp;exact hg (.cl A7 (l,(n,()),()) λ(z2:B_)=>.br (decide (z2.1<0)) (.lf Al ((⟨#[]⟩:ByteArray),false,())) (.ob (0<=z2.1/\z2.1<(↑(List.length l):Int))<|.lf Al ((List.getD l z2.1.toNat default).value,true,()))) (an_ @findAttr.eq_1<|an_ (DI (λa:cf=>decide (a.name=n)) l 0 o_)<|(NK (λa:cf=>decide (a.name=n)) l 0 o_)))
def Akv:=Anw.a AK<|Fct.o (KP [0,1,4,5,6,7,8,9] [19,25]) Anw.2 func327 (by
 rintro⟨(s:ByteArray),(b:ByteArray),_⟩ hp;refine ho (.cl Ab5 (s,(⟨#[47]⟩:ByteArray),()) λz2=>.br (z2.2.2.1) (.cl DH ((⟨z2.1,z2.2.1⟩:D_),()) λz3=>.br (!z3.1) (.lf AK (default,false,())) (.lf AK (⟨z2.1,z2.2.1⟩,true,()))) (.cl DH ((⟨b,s⟩:D_),()) λz4=>.br (!z4.1) (.lf AK (default,false,())) (.lf AK (⟨b,s⟩,true,())))) ?_;repeat' (guard_target =~ Out.holds _ _;first|refine lfY ?_|refine Aa (λ_=>?_) λ_=>?_|refine Ae ?_ λ_=>?_)
 all_goals (have hz:=Lp s b;have hc:=X1 s b;try simp only[Ab5,std,Nat.reduceAdd,parseAddr] at *)<;>(try simp only[show(ByteArray.mk #[47]).data.getD 0 0=47 from rfl,show(ByteArray.mk #[47]).size=1 from rfl] at *)<;>(first|trivial|omega|grind))
def scanKind (t:ao):Int:=if t.kind≠1 then 0 else if t.name=⟨#[115,99,114,105,112,116]⟩ then(if(findAttr t.bo ⟨#[107,105,110,100]⟩).getD ⟨#[]⟩=⟨#[109,111,100,117,108,101]⟩ then 5 else 2) else if t.name=⟨#[108,105,110,107]⟩ then 3 else if t.name=⟨#[105,109,103]⟩ then 4 else 0
def scanTo (t:ao):ByteArray:=if t.name=⟨#[108,105,110,107]⟩ then(findAttr t.bo ⟨#[104,114,101,102]⟩).getD ⟨#[]⟩ else(findAttr t.bo ⟨#[115,114,99]⟩).getD ⟨#[]⟩
def scanToken (t:ao) (b:ByteArray):ar×Bool:=if scanKind t≠0/\(parseAddr (scanTo t) b).2=true then(⟨scanKind t,(parseAddr (scanTo t) b).1,b,if scanKind t=5 then⟨#[]⟩ else(findAttr t.bo ⟨#[100,105,103,101,115,116]⟩).getD ⟨#[]⟩⟩,true) else(default,false)
def AV (l:List cf) (n:ByteArray):((findAttr l n).getD ⟨#[]⟩).size<=szL BW l:=by
 unfold findAttr;cases h:l.find? λa=>decide (a.name=n) with
 | none=>exact Nat.zero_le _
 | some a=>
  obtain⟨i,hi,he⟩:=List.mem_iff_getElem.1 (List.mem_of_find?_eq_some h);have:=C6 BW (l:=l) (i:=i) hi;rw[cd,aX hi,he] at this;simp only[aY,Option.getD_some,BW] at *;omega
def Ok {l:List cf} {n:ByteArray} (h:(findAttr l n).isSome=false):(findAttr l n).getD ⟨#[]⟩=⟨#[]⟩:=by
 simp_all
abbrev AP:Fct:=⟨[.v (.el .token),.v (.el .str)],[.el .request,.el .bool],λ(x:gd)=>szToken x.1<=100000000/\x.2.1.size<=100000000,λ(x:gd)=>((scanToken x.1 x.2.1).1,(scanToken x.1 x.2.1).2,())⟩
def AlO:=Akv.a AP<|Fct.o (KP [1,2,4,5,6,7,8,10,12,13] [17,22,34,36,41,60,66]) Akv.2 func268 (by
 rintro⟨(t:ao),(b:ByteArray),_⟩ hp;refine ho (let M_:=(⟨#[]⟩:ByteArray);let L_:=(⟨#[115,114,99]⟩:ByteArray);let H_:=(⟨#[100,105,103,101,115,116]⟩:ByteArray);let E_:Out:=.lf AP (default,false,());.br (t.kind != 1) E_ (.br (t.name.toList==(⟨#[115,99,114,105,112,116]⟩:ByteArray).toList) (.cl Al (t.bo,(⟨#[107,105,110,100]⟩:ByteArray),()) λz2=>.br (z2.1.toList==(⟨#[109,111,100,117,108,101]⟩:ByteArray).toList) (.cl Al (t.bo,L_,()) λz3=>.cl AK (z3.1,b,()) λz4=>.br (!z4.2.1) E_ (.br ((5:Int) != (5:Int)) (.cl Al (t.bo,H_,()) λz5=>.lf AP (⟨(5:Int),z4.1,b,z5.1⟩,true,())) (.lf AP (⟨(5:Int),z4.1,b,M_⟩,true,())))) (.cl Al (t.bo,L_,()) λz6=>.cl AK (z6.1,b,()) λz7=>.br (!z7.2.1) E_ (.br ((2:Int) != (5:Int)) (.cl Al (t.bo,H_,()) λz8=>.lf AP (⟨(2:Int),z7.1,b,z8.1⟩,true,())) (.lf AP (⟨(2:Int),z7.1,b,M_⟩,true,()))))) (.br (t.name.toList==(⟨#[108,105,110,107]⟩:ByteArray).toList) (.cl Al (t.bo,(⟨#[104,114,101,102]⟩:ByteArray),()) λz9=>.cl AK (z9.1,b,()) λz10=>.br (!z10.2.1) E_ (.br ((3:Int) != (5:Int)) (.cl Al (t.bo,H_,()) λz11=>.lf AP (⟨(3:Int),z10.1,b,z11.1⟩,true,())) (.lf AP (⟨(3:Int),z10.1,b,M_⟩,true,())))) (.br (t.name.toList==(⟨#[105,109,103]⟩:ByteArray).toList) (.cl Al (t.bo,L_,()) λz12=>.cl AK (z12.1,b,()) λz13=>.br (!z13.2.1) E_ (.br ((4:Int) != (5:Int)) (.cl Al (t.bo,H_,()) λz14=>.lf AP (⟨(4:Int),z13.1,b,z14.1⟩,true,())) (.lf AP (⟨(4:Int),z13.1,b,M_⟩,true,())))) E_)))) ?_;refine Aa (λh1=>lfY ?_) λh1=>Aa (λh2=>Do ?_ λo3 z2 ez2=>Aa (λh4=>Do ?_ λo5 z3 ez3=>Do ?_ λo6 z4 ez4=>Aa (λh7=>lfY ?_) λh7=>Aa (λh8=>Do ?_ λo9 z5 ez5=>lfY ?_) λh8=>lfY ?_) λh4=>Do ?_ λo10 z6 ez6=>Do ?_ λo11 z7 ez7=>Aa (λh12=>lfY ?_) λh12=>Aa (λh13=>Do ?_ λo14 z8 ez8=>lfY ?_) λh13=>lfY ?_) λh2=>Aa (λh15=>Do ?_ λo16 z9 ez9=>Do ?_ λo17 z10 ez10=>Aa (λh18=>lfY ?_) λh18=>Aa (λh19=>Do ?_ λo20 z11 ez11=>lfY ?_) λh19=>lfY ?_) λh15=>Aa (λh21=>Do ?_ λo22 z12 ez12=>Do ?_ λo23 z13 ez13=>Aa (λh24=>lfY ?_) λh24=>Aa (λh25=>Do ?_ λo26 z14 ez14=>lfY ?_) λh25=>lfY ?_) λh21=>lfY ?_;all_goals subst_vars
 all_goals (have hl:=Ac BW t.bo;have hs:=AV t.bo;have hn:=λn=>Ok (l:=t.bo) (n:=n))<;>(have hp0:=Lj b;try simp only[std,Nat.reduceAdd,scanToken,scanKind,scanTo,szToken] at *)<;>(try simp(disch:=omega) only[FS,A_] at *)<;>(try simp(disch:=omega) only[I_,J_])<;>(first|trivial|omega|grind[FS,A_,HO,G_,F_,maxLen,scanToken,scanKind,scanTo,szToken]))
def AlN:=AlO.a AP<|Fct.o (KP [1,2,4,5,6,7,8,10,11,12,13,14] [15,20,31,32,36,62,69]) AlO.2 func233 (by
 rintro⟨(t:ao),(b:ByteArray),_⟩ hp;refine ho (let M_:=(⟨#[]⟩:ByteArray);let L_:=(⟨#[115,114,99]⟩:ByteArray);let H_:=(⟨#[100,105,103,101,115,116]⟩:ByteArray);let E_:Out:=.lf AP (default,false,());.br (t.kind != 1) E_ (.br (t.name.toList==(⟨#[115,99,114,105,112,116]⟩:ByteArray).toList) (.cl Al (t.bo,(⟨#[107,105,110,100]⟩:ByteArray),()) λz2=>.br (z2.1.toList==(⟨#[109,111,100,117,108,101]⟩:ByteArray).toList) (.cl Al (t.bo,L_,()) λz3=>.cl AK (z3.1,b,()) λz4=>.br ((5:Int)==(0:Int)) E_ (.br (!z3.2.1) E_ (.br (!z4.2.1) E_ (.br ((5:Int) != (5:Int)) (.cl Al (t.bo,H_,()) λz5=>.lf AP (⟨(5:Int),z4.1,b,z5.1⟩,true,())) (.lf AP (⟨(5:Int),z4.1,b,M_⟩,true,())))))) (.cl Al (t.bo,L_,()) λz6=>.cl AK (z6.1,b,()) λz7=>.br ((2:Int)==(0:Int)) E_ (.br (!z6.2.1) E_ (.br (!z7.2.1) E_ (.br ((2:Int) != (5:Int)) (.cl Al (t.bo,H_,()) λz8=>.lf AP (⟨(2:Int),z7.1,b,z8.1⟩,true,())) (.lf AP (⟨(2:Int),z7.1,b,M_⟩,true,()))))))) (.br (t.name.toList==(⟨#[108,105,110,107]⟩:ByteArray).toList) (.cl Al (t.bo,(⟨#[104,114,101,102]⟩:ByteArray),()) λz9=>.cl AK (z9.1,b,()) λz10=>.br ((3:Int)==(0:Int)) E_ (.br (!z9.2.1) E_ (.br (!z10.2.1) E_ (.br ((3:Int) != (5:Int)) (.cl Al (t.bo,H_,()) λz11=>.lf AP (⟨(3:Int),z10.1,b,z11.1⟩,true,())) (.lf AP (⟨(3:Int),z10.1,b,M_⟩,true,())))))) (.br (t.name.toList==(⟨#[105,109,103]⟩:ByteArray).toList) (.cl Al (t.bo,L_,()) λz12=>.cl AK (z12.1,b,()) λz13=>.br ((4:Int)==(0:Int)) E_ (.br (!z12.2.1) E_ (.br (!z13.2.1) E_ (.br ((4:Int) != (5:Int)) (.cl Al (t.bo,H_,()) λz14=>.lf AP (⟨(4:Int),z13.1,b,z14.1⟩,true,())) (.lf AP (⟨(4:Int),z13.1,b,M_⟩,true,())))))) (.cl Al (t.bo,L_,()) λz15=>.cl AK (z15.1,b,()) λz16=>.br ((0:Int)==(0:Int)) E_ (.br (!z15.2.1) E_ (.br (!z16.2.1) E_ (.br ((0:Int) != (5:Int)) (.cl Al (t.bo,H_,()) λz17=>.lf AP (⟨(0:Int),z16.1,b,z17.1⟩,true,())) (.lf AP (⟨(0:Int),z16.1,b,M_⟩,true,())))))))))) ?_;refine Aa (λh1=>lfY ?_) λh1=>Aa (λh2=>Do ?_ λo3 z2 ez2=>Aa (λh4=>Do ?_ λo5 z3 ez3=>Do ?_ λo6 z4 ez4=>Aa (λh7=>lfY ?_) λh7=>Aa (λh8=>lfY ?_) λh8=>Aa (λh9=>lfY ?_) λh9=>Aa (λh10=>Do ?_ λo11 z5 ez5=>lfY ?_) λh10=>lfY ?_) λh4=>Do ?_ λo12 z6 ez6=>Do ?_ λo13 z7 ez7=>Aa (λh14=>lfY ?_) λh14=>Aa (λh15=>lfY ?_) λh15=>Aa (λh16=>lfY ?_) λh16=>Aa (λh17=>Do ?_ λo18 z8 ez8=>lfY ?_) λh17=>lfY ?_) λh2=>Aa (λh19=>Do ?_ λo20 z9 ez9=>Do ?_ λo21 z10 ez10=>Aa (λh22=>lfY ?_) λh22=>Aa (λh23=>lfY ?_) λh23=>Aa (λh24=>lfY ?_) λh24=>Aa (λh25=>Do ?_ λo26 z11 ez11=>lfY ?_) λh25=>lfY ?_) λh19=>Aa (λh27=>Do ?_ λo28 z12 ez12=>Do ?_ λo29 z13 ez13=>Aa (λh30=>lfY ?_) λh30=>Aa (λh31=>lfY ?_) λh31=>Aa (λh32=>lfY ?_) λh32=>Aa (λh33=>Do ?_ λo34 z14 ez14=>lfY ?_) λh33=>lfY ?_) λh27=>Do ?_ λo35 z15 ez15=>Do ?_ λo36 z16 ez16=>Aa (λh37=>lfY ?_) λh37=>Aa (λh38=>lfY ?_) λh38=>Aa (λh39=>lfY ?_) λh39=>Aa (λh40=>Do ?_ λo41 z17 ez17=>lfY ?_) λh40=>lfY ?_;all_goals subst_vars
 all_goals (have hl:=Ac BW t.bo;have hs:=AV t.bo;have hn:=λn=>Ok (l:=t.bo) (n:=n))<;>(have hp0:=Lj b;try simp only[std,Nat.reduceAdd,scanToken,scanKind,scanTo,szToken] at *)<;>(try simp(disch:=omega) only[FS,A_] at *)<;>(try simp(disch:=omega) only[I_,J_])<;>(first|trivial|omega|grind[FS,A_,HO,G_,F_,maxLen,scanToken,scanKind,scanTo,szToken]))
def scanTokens (b:ByteArray):List ao->List ar
 | []=>[]
 | t::l=>if(scanToken t b).2 then(scanToken t b).1::scanTokens b l else scanTokens b l
def LI {b:ByteArray} {l:List ao} {i:Nat} (h:i<l.length):scanTokens b (l.drop i)=if(scanToken (l.getD i default) b).2 then(scanToken (l.getD i default) b).1::scanTokens b (l.drop (i+1)) else scanTokens b (l.drop (i+1)):=by rw[HO h];rfl
def Ku {b:ByteArray} {l:List ao} {i:Nat} (h:l.length<=i):scanTokens b (l.drop i)=[]:=by rw[bR h];rfl
def GH (b:ByteArray):∀ l:List ao,(scanTokens b l).length<=l.length
 | []=>aa _
 | t::l=>by have:=GH b l;simp only[scanTokens];split<;>simp only[aw]<;>omega
abbrev GA:Fct:=⟨[.v (.sl .token),.v (.el .str)],[.sl .request],λ(x:gf)=>szL szToken x.1<=1000000000000/\(∀ t,t∈x.1->szToken t<=10000000)/\x.2.1.size<=10000000,λ(x:gf)=>(scanTokens x.2.1 x.1,())⟩
abbrev BP (l:(List ao)) (b:ByteArray):LInv:=⟨[⟨.s,5,true,.sl .request⟩,⟨.s,6,true,.el .int⟩],λ_ (x:cP)=>0<=x.2.1/\x.2.1<=l.length/\x.1.length<=x.2.1/\x.1++scanTokens b (l.drop x.2.1.toNat)=scanTokens b l,λ(x:cP)=>l.length-x.2.1.toNat⟩
def AlR:=AlN.a GA<|Fct.p (KP [0,1,4,5,6,7,8] [13,25]) (λ⟨l,b,_⟩=>lv [(3,BP l b)]) AlN.2 func164 (by
 rintro⟨(l:List ao),(b:ByteArray),_⟩ hp;exact hg (.lq (List ar×Int×PUnit) (BP l b).inv (BP l b).m ([],((0:Int),())) λy1 bk1=>.br (decide (y1.2.1<(l.length:Int))) (.ob (inB y1.2.1 l.length)<|.cl AP (l.getD y1.2.1.toNat default,b,()) λz2=>.br (z2.2.1) (.ap (y1.1.length+[z2.1].length) 72<|.re (l)<|.re (Value.string b)<|.bk (bk1 (y1.1++[z2.1],(w1 y1.2.1,())))) (.re (l)<|.re (Value.string b)<|.bk (bk1 (y1.1,(w1 y1.2.1,()))))) (.lf GA (y1.1,()))) (an_ @LI<|an_ @Ku<|an_ @bB.{0}<|an_ @List.singleton_append.{0}<|an_ @al.{0}<|an_ @ed.{0}<|an_ (Ac szToken l)<|(λi h=>hp.2.1 _ (AH h):∀ i,i<l.length->szToken (l.getD i default)<=10000000)))
abbrev BO (l:(List ao)) (b:ByteArray):LInv:=⟨[⟨.s,5,true,.sl .request⟩,⟨.s,13,true,.el .int⟩],λ_ (x:cP)=>0<=x.2.1/\x.2.1<=l.length/\x.1.length<=x.2.1/\x.1++scanTokens b (l.drop x.2.1.toNat)=scanTokens b l,λ(x:cP)=>l.length-x.2.1.toNat⟩
def Ak8:=AlR.a GA<|Fct.p (KP [0,1,4,5,7,8,9,11,12,13] [14,23]) (λ⟨l,b,_⟩=>lv [(3,BO l b)]) AlR.2 func133 (by
 rintro⟨(l:List ao),(b:ByteArray),_⟩ hp;exact hg (.lq (List ar×Int×PUnit) (BO l b).inv (BO l b).m ([],((0:Int),())) λy1 bk1=>.br (decide (y1.2.1<(l.length:Int))) (.ob (inB y1.2.1 l.length)<|.cl AP (l.getD y1.2.1.toNat default,b,()) λz2=>.br (z2.2.1) (.ap (y1.1.length+[z2.1].length) 72<|.re (l)<|.re (Value.string b)<|.re (l)<|.re (Value.int IntKind.i64 (l.length:Int))<|.bk (bk1 (y1.1++[z2.1],(w1 y1.2.1,())))) (.re (l)<|.re (Value.string b)<|.re (l)<|.re (Value.int IntKind.i64 (l.length:Int))<|.bk (bk1 (y1.1,(w1 y1.2.1,()))))) (.lf GA (y1.1,()))) (an_ @LI<|an_ @Ku<|an_ @bB.{0}<|an_ @List.singleton_append.{0}<|an_ @al.{0}<|an_ @ed.{0}<|an_ (Ac szToken l)<|(λi h=>hp.2.1 _ (AH h):∀ i,i<l.length->szToken (l.getD i default)<=10000000)))
def canGuess (r:ar):Bool:=isRequest r&&(decide (r.kind≠1)&&decide (r.to.host=r.from_))
abbrev ER:Fct:=⟨[.v (.el .request)],[.el .bool],λ(x:eM)=>BE x.1<=1099511627776,λ(x:eM)=>(canGuess x.1,())⟩
def Anu:=Ak8.a ER<|Fct.o [1,2] Ak8.2 func165 (by
 rintro⟨(r:ar),_⟩ hp;exact hg (.cl Cx (r,()) λz2=>.br (z2.1) (.br (r.kind != 1) (.lf ER (r.to.host.toList==r.from_.toList,())) (.lf ER (false,()))) (.lf ER (false,()))) (@canGuess.eq_1))
def Al1:=Anu.a ER<|Fct.o [1,2] Anu.2 func134 (by
 rintro⟨(r:ar),_⟩ hp;exact hg (.cl Cx (r,()) λz2=>.br (z2.1) (.br (r.kind != 1) (.lf ER (r.to.host.toList==r.from_.toList,())) (.lf ER (false,()))) (.lf ER (false,()))) (@canGuess.eq_1))
def guessOk (p:C_) (out:List D_) (r:ar):Bool:=canGuess r&&(decide (checkRequest p.bj r=1)&&(!isAsked p r.to && !out.any λc=>decide (c=r.to)))
def guessL (p:C_):List ar->List D_->List D_
 | [],out=>out
 | r::l,out=>if guessOk p out r then guessL p l (out++[r.to]) else guessL p l out
def Tz {p:C_} {l:List ar} {i:Nat} {out:List D_} (h:i<l.length):guessL p (l.drop i) out=if guessOk p out (l.getD i default) then guessL p (l.drop (i+1)) (out++[(l.getD i default).to]) else guessL p (l.drop (i+1)) out:=by rw[HO h];rfl
def P4 {p:C_} {l:List ar} {i:Nat} {out:List D_} (h:l.length<=i):guessL p (l.drop i) out=out:=by rw[bR h];rfl
def guessesOf (p:C_):List D_:=guessL p (scanTokens p.addr.host p.bn) []
def ME {p:C_}:∀ {l:List ar} {out:List D_},(∀ a∈out,isName a.host=true/\isName a.path=true)->∀ a∈guessL p l out,isName a.host=true/\isName a.path=true
 | [],out,h=>h
 | r::l,out,h=>by
  rw[guessL];split
  ·rename_i hg;refine ME λa ha=>?_
   rcases aR.1 ha with ha|ha
   ·exact h a ha
   ·simp only[List.mem_singleton] at ha;subst ha;simp only[guessOk,canGuess,isRequest,Z_] at hg;simp_all
  ·exact ME h
def Zf (t:ao):(scanTo t).size<=szToken t:=by
 unfold scanTo;have h1:=AV t.bo ⟨#[104,114,101,102]⟩;have h2:=AV t.bo ⟨#[115,114,99]⟩;have h3:szL BW t.bo<=szToken t:=by simp only[szToken];omega
 split<;>omega
def Tj (t:ao) (b:ByteArray):BE (scanToken t b).1<=3*szToken t+2*b.size:=by
 unfold scanToken;split
 ·have h1:=Lp (scanTo t) b;have h2:=Zf t;have h3:=AV t.bo ⟨#[100,105,103,101,115,116]⟩;have h4:szL BW t.bo<=szToken t:=by simp only[szToken];omega
  have h5:szAddr (parseAddr (scanTo t) b).1<=2*szToken t+b.size:=by
   unfold parseAddr;split
   ·simp only[szAddr];omega
   ·exact Nat.zero_le _
  have h6:ByteArray.size ⟨#[]⟩=0:=rfl;simp only[BE];split<;>omega
 ·exact Nat.zero_le _
def Ia (b:ByteArray) {B:Nat}:∀ {l:List ao},(∀ t,t∈l->szToken t<=B)->∀ r∈scanTokens b l,BE r<=3*B+2*b.size
 | [],_,r,hr=>by cases hr
 | t::l,h,r,hr=>by
  have ih:=Ia b (l:=l) λx hx=>h x (cJ _ hx)
  have h1:=Tj t b;have h2:=h t cZ;simp only[scanTokens] at hr;grind
abbrev Hp:Fct:=⟨[.v (.el .page)],[.sl .addr],λ(x:ak)=>Aj x.1<=1000000000000/\(∀ t,t∈x.1.bn->szToken t<=10000000)/\x.1.addr.host.size<=10000000,λ(x:ak)=>(guessesOf x.1,())⟩
abbrev Dz (p:C_):LInv:=⟨[⟨.s,3,true,.sl .addr⟩,⟨.s,5,true,.el .int⟩,⟨.b,1,false,.el .page⟩,⟨.s,4,true,.sl .request⟩],λ(z x:eU)=>((0<=x.2.1/\x.2.1<=(scanTokens p.addr.host p.bn).length/\x.1.length<=x.2.1/\guessL p ((scanTokens p.addr.host p.bn).drop x.2.1.toNat) x.1=guessesOf p)/\x.2.2.1=z.2.2.1)/\x.2.2.2.1=z.2.2.2.1,λ(x:eU)=>(scanTokens p.addr.host p.bn).length-x.2.1.toNat⟩
def AkX:=Al1.a Hp<|Fct.p (KP [1,2,3,4,5,6] [17,51]) (λ⟨p,_⟩=>lv [(4,Dz p)]) Al1.2 func75 (by
 rintro⟨(p:C_),_⟩ hp;exact hg (let L_:=Dz p;.cl GA (p.bn,p.addr.host,()) λz2=>.lq (List D_×Int×C_×List ar×PUnit) L_.inv L_.m ([],((0:Int),(p,(z2.1,())))) λy2 bk2=>let H_:=y2.2.2.2.1.getD y2.2.1.toNat default;let E_:Out:=.bk (bk2 (y2.1,(w1 y2.2.1,(y2.2.2.1,(y2.2.2.2.1,())))));.br (decide (y2.2.1<(y2.2.2.2.1.length:Int))) (.ix y2.2.1 y2.2.2.2.1.length<|.ix y2.2.1 y2.2.2.2.1.length<|.cl ER (y2.2.2.2.1.getD y2.2.1.toNat default,()) λz3=>.br (z3.1) (.ix y2.2.1 y2.2.2.2.1.length<|.cl Ay (y2.2.2.1.bj,y2.2.2.2.1.getD y2.2.1.toNat default,()) λ(z4:B_)=>.br (z4.1==1) (.cl He (y2.2.2.1,H_.to,()) λz5=>.br (!z5.1) (.cl Fc (y2.1,H_.to,()) λz6=>.br (!z6.1) (.ap (y2.1.length+[H_.to].length) 32<|.bk (bk2 (y2.1++[H_.to],(w1 y2.2.1,(y2.2.2.1,(y2.2.2.2.1,())))))) E_) E_) E_) E_) (.lf Hp (y2.1,()))) (an_ @Tz<|an_ @P4<|an_ @guessOk.eq_1<|an_ @guessesOf.eq_1<|an_ @al.{0}<|an_ @ed.{0}<|an_ (by simp only[Aj,szAddr];omega:szL szToken p.bn<=Aj p/\szL AO p.bf<=Aj p/\szL AF p.bh<=Aj p/\p.addr.host.size<=Aj p/\AQ p.bj<=Aj p)<|an_ (Ac szToken p.bn)<|an_ (Ac AO p.bf)<|an_ (Ac AF p.bh)<|an_ (GH p.addr.host p.bn)<|(λi h=>by have hq:∀ t,t∈p.bn->szToken t<=10000000:=hp.2.1;have:=Ia p.addr.host hq _ (AH (i:=i) h);have hp2:p.addr.host.size<=10000000:=hp.2.2;omega:∀ i,i<(scanTokens p.addr.host p.bn).length->BE ((scanTokens p.addr.host p.bn).getD i default)<=100000000)))
abbrev Dp (p:C_):LInv:=⟨[⟨.s,3,true,.sl .addr⟩,⟨.s,14,true,.el .int⟩,⟨.b,1,false,.el .page⟩,⟨.s,12,true,.sl .request⟩],λ(z x:eU)=>((0<=x.2.1/\x.2.1<=(scanTokens p.addr.host p.bn).length/\x.1.length<=x.2.1/\guessL p ((scanTokens p.addr.host p.bn).drop x.2.1.toNat) x.1=guessesOf p)/\x.2.2.1=z.2.2.1)/\x.2.2.2.1=z.2.2.2.1,λ(x:eU)=>(scanTokens p.addr.host p.bn).length-x.2.1.toNat⟩
def AmF:=AkX.a Hp<|Fct.p (KP [1,2,3,5,12,13,14] [15,40]) (λ⟨p,_⟩=>lv [(3,Dp p)]) AkX.2 func50 (by
 rintro⟨(p:C_),_⟩ hp;exact hg (let M_:=Dp p;.cl GA (p.bn,p.addr.host,()) λz2=>let Q_:=(z2.1.length:Int);let L_:=Value.int IntKind.i64 Q_;.lq (List D_×Int×C_×List ar×PUnit) M_.inv M_.m ([],((0:Int),(p,(z2.1,())))) λy2 bk2=>let H_:=y2.2.2.2.1.getD y2.2.1.toNat default;let E_:Out:=.re L_<|.bk (bk2 (y2.1,(w1 y2.2.1,(y2.2.2.1,(y2.2.2.2.1,())))));.br (decide (y2.2.1<Q_)) (.ix y2.2.1 y2.2.2.2.1.length<|.cl ER (y2.2.2.2.1.getD y2.2.1.toNat default,()) λz3=>.br (z3.1) (.cl Ay (y2.2.2.1.bj,y2.2.2.2.1.getD y2.2.1.toNat default,()) λ(z4:B_)=>.br (z4.1==1) (.cl He (y2.2.2.1,H_.to,()) λz5=>.br (!z5.1) (.cl Fc (y2.1,H_.to,()) λz6=>.br (!z6.1) (.ap (y2.1.length+[H_.to].length) 32<|.re L_<|.bk (bk2 (y2.1++[H_.to],(w1 y2.2.1,(y2.2.2.1,(y2.2.2.2.1,())))))) E_) E_) E_) E_) (.lf Hp (y2.1,()))) (an_ @Tz<|an_ @P4<|an_ @guessOk.eq_1<|an_ @guessesOf.eq_1<|an_ @al.{0}<|an_ @ed.{0}<|an_ (by simp only[Aj,szAddr];omega:szL szToken p.bn<=Aj p/\szL AO p.bf<=Aj p/\szL AF p.bh<=Aj p/\p.addr.host.size<=Aj p/\AQ p.bj<=Aj p)<|an_ (Ac szToken p.bn)<|an_ (Ac AO p.bf)<|an_ (Ac AF p.bh)<|an_ (GH p.addr.host p.bn)<|(λi h=>by have hq:∀ t,t∈p.bn->szToken t<=10000000:=hp.2.1;have:=Ia p.addr.host hq _ (AH (i:=i) h);have hp2:p.addr.host.size<=10000000:=hp.2.2;omega:∀ i,i<(scanTokens p.addr.host p.bn).length->BE ((scanTokens p.addr.host p.bn).getD i default)<=100000000)))
abbrev A9:Fct:=⟨[.v (.el .loader)],[.el .loader],λ(x:aD)=>szNet x.1.net<=68719476736/\Aj x.1.page<=1099511627776/\x.1.parts.length<=1000000000/\x.1.conns.length<=1048576/\x.1.guesses.length<=4194304,λ(x:aD)=>(x.1,())⟩
def Aly:=AmF.a A9<|Fct.o [1,2] AmF.2 func60 (by
 rintro⟨(l:N_),_⟩ hp;exact hq (.cl GF (l.net,()) λz2=>.cl AA (l.page,()) λz3=>.ap l.parts.length 16<|.ap l.conns.length 112<|.ap l.guesses.length 104<|.lf A9 (⟨z2.1,z3.1,l.parts,l.conns,l.guesses⟩,())))
def AlG:=Aly.a A9<|Fct.o [1,2] Aly.2 func37 (by
 rintro⟨(l:N_),_⟩ hp;exact hq (.cl GF (l.net,()) λz2=>.cl AA (l.page,()) λz3=>.ap l.parts.length 16<|.cl Hr (l.conns,()) λz4=>.cl GZ (l.guesses,()) λz5=>.lf A9 (⟨z2.1,z3.1,l.parts,z4.1,z5.1⟩,())))
def nextGuess (l:N_):List D_->N_×Bool
 | []=>(l,false)
 | a::r=>if 0<=findGuess l.guesses a\/0<=findConn a l.conns 0 then nextGuess l r else(⟨(fetchNow l.net l.page.addr.host a true).1,l.page,l.parts,(openConn l.conns a (fetchNow l.net l.page.addr.host a true).2 true).1,l.guesses⟩,true)
theorem bE {l:N_} {m:List D_} {i:Nat} (h:i<m.length):nextGuess l (m.drop i)=if 0<=findGuess l.guesses (m.getD i default)\/0<=findConn (m.getD i default) l.conns 0 then nextGuess l (m.drop (i+1)) else(⟨(fetchNow l.net l.page.addr.host (m.getD i default) true).1,l.page,l.parts,(openConn l.conns (m.getD i default) (fetchNow l.net l.page.addr.host (m.getD i default) true).2 true).1,l.guesses⟩,true):=by rw[HO h];rfl
theorem aW {l:N_} {m:List D_} {i:Nat} (h:m.length<=i):nextGuess l (m.drop i)=(l,false):=by rw[bR h];rfl
def guessNext (l:N_):N_×Bool:=if 3<=l.conns.length\/6<=(countIf (λg:au=>!g.used) l.guesses:Int)+(countGuess l.conns:Int) then(l,false) else nextGuess l (guessesOf l.page)
def HX {p:C_} {i:Nat} (h:i<(guessesOf p).length):szAddr ((guessesOf p).getD i default)<=16:=by
 have:=ME (p:=p) (l:=scanTokens p.addr.host p.bn) (out:=[]) (by simp) _ (AH (i:=i) h);have h1:=Bx this.1;have h2:=Bx this.2;simp only[szAddr];simp only[guessesOf];omega
def MB {p:C_}:∀ {l:List ar} {out:List D_},(guessL p l out).length<=out.length+l.length
 | [],out=>aa _
 | r::l,out=>by
  rw[guessL];split
  ·have:=MB (p:=p) (l:=l) (out:=out++[r.to]);simp only[al,aw,aJ] at *;omega
  ·have:=MB (p:=p) (l:=l) (out:=out);simp only[aw];omega
def LC (p:C_):(guessesOf p).length<=Aj p:=by
 have h1:=MB (p:=p) (l:=scanTokens p.addr.host p.bn) (out:=[]);have h2:=GH p.addr.host p.bn;have h3:=Ac szToken p.bn;simp only[guessesOf,Aj,aJ] at *;omega
def okNt (n:az):Prop:=szNet n<=8000000000/\szCache n.cache<=80000000/\szL An n.servers<=1048576/\∀ e,e∈n.cache.bg->Ad e.bd<=1048576
def Xn {c:bv} {t:ByteArray} {a:D_} {n:Int} {x:R_} (h:lookUp c t a n=some x) (B:Nat) (hc:∀ e,e∈c.bg->Ad e.bd<=B):Ad x<=B:=by
 unfold lookUp at h;obtain⟨e,he,rfl⟩:=Option.map_eq_some_iff.1 h;grind
def Fy {n:az} {t:ByteArray} {a:D_} {g:Bool} (h:okNt n):Ad (fetchNow n t a g).2<=1048576:=by
 obtain⟨h1,h2,h3,h4⟩:=h;unfold fetchNow;split
 ·exact(show Ad notFound<=1048576 by decide)
 ·split
  ·cases hq:lookUp n.cache t a n.now with
   | none=>exact(show Ad notFound<=1048576 by decide)
   | some x=>exact Xn hq _ h4
  ·exact bT (Lu _ _) h3
def okGN (l:N_):Prop:=okNt l.net/\(Aj l.page<=1000000000000/\(∀ t,t∈l.page.bn->szToken t<=10000000)/\l.page.addr.host.size<=10000000)/\l.parts.length<=1000000000/\l.conns.length<=1048576/\l.guesses.length<=4194304
abbrev CZ:Fct:=⟨[.v (.el .loader)],[.el .loader,.el .bool],λ(x:aD)=>okGN x.1,λ(x:aD)=>((guessNext x.1).1,(guessNext x.1).2,())⟩
abbrev BY (l:N_):LInv:=⟨[⟨.s,6,true,.el .int⟩,⟨.b,1,false,.el .loader⟩,⟨.b,2,true,.el .loader⟩,⟨.b,4,true,.el .loader⟩,⟨.s,5,true,.sl .addr⟩],λ(z x:cR)=>((((0<=x.1/\x.1<=(guessesOf l.page).length/\nextGuess l ((guessesOf l.page).drop x.1.toNat)=nextGuess l (guessesOf l.page))/\x.2.1=z.2.1)/\x.2.2.1=z.2.2.1)/\x.2.2.2.1=z.2.2.2.1)/\x.2.2.2.2.1=z.2.2.2.2.1,λ(x:cR)=>(guessesOf l.page).length-x.1.toNat⟩
def AjZ:=AlG.a CZ<|Fct.p (KP [1,2,3,4,5,6,7,8,9] [25,33,51]) (λ⟨l,_⟩=>lv [(6,BY l)]) AlG.2 func13 (by
 rintro⟨(l:N_),_⟩ hp;refine ho (.cl A9 (l,()) λz2=>.br (decide ((l.conns.length:Int)>=3)) (.lf CZ (z2.1,false,())) (.cl Hz (l.guesses,()) λ(z3:B_)=>.cl NX (l.conns,()) λ(z4:B_)=>.br (decide (wr (z3.1+z4.1)>=6)) (.lf CZ (z2.1,false,())) (.cl Hp (l.page,()) λz5=>lpx (BY l) ((0:Int),(l,(default,(z2.1,(z5.1,()))))) λ(y7:cR) bk7=>.br (decide (y7.1<(y7.2.2.2.2.1.length:Int))) (.ix y7.1 y7.2.2.2.2.1.length<|.cl C7 (y7.2.1.guesses,y7.2.2.2.2.1.getD y7.1.toNat default,()) λ(z6:B_)=>.br (decide (z6.1>=0)) (.bk (bk7 (w1 y7.1,(y7.2.1,(y7.2.2.1,(y7.2.2.2.1,(y7.2.2.2.2.1,()))))))) (.cl QE (y7.2.1.conns,y7.2.2.2.2.1.getD y7.1.toNat default,()) λ(z7:B_)=>.br (decide (z7.1>=0)) (.bk (bk7 (w1 y7.1,(y7.2.1,(y7.2.2.1,(y7.2.2.2.1,(y7.2.2.2.2.1,()))))))) (.cl Bj (y7.2.1.net,y7.2.1.page.addr.host,y7.2.2.2.2.1.getD y7.1.toNat default,true,()) λz8=>.cl Ng (y7.2.1.conns,y7.2.2.2.2.1.getD y7.1.toNat default,z8.2.1,true,()) λz9=>.lf CZ (⟨z8.1,y7.2.2.2.1.page,y7.2.2.2.1.parts,z9.1,y7.2.2.2.1.guesses⟩,true,())))) (.lf CZ (y7.2.2.2.1,false,()))))) ?_;repeat' (guard_target =~ Out.holds _ _;first|refine Am (li:=BY l) ?_ λ(y7:cR) i7=>?_|refine lfY ?_|refine Aa (λ_=>?_) λ_=>?_|refine Ae ?_ λ_=>?_|refine AR ?_|refine Ei ?_ λ_ _=>?_)
 all_goals obtain⟨z0,⟨z4,z5,z6⟩,z7,z8,z9⟩:=(show okGN l from hp)<;>have hf:=λa=>Fy (t:=l.page.addr.host) (a:=a) (g:=true) z0<;>obtain⟨z1,z2,z3,_⟩:=z0<;>have hb2:∀ x:R_,x.body.size<=Ad x:=λx=>cw _ _<;>have hn:=λ{i:Nat} (h:i<(guessesOf l.page).length)=>HX (p:=l.page) h<;>(have hc:=O_ (λg:au=>!g.used) l.guesses;have hc2:=IF l.conns;have hgl:=LC l.page)<;>(try obtain⟨⟨⟨⟨⟨a1,a2,a3⟩,a4⟩,a5⟩,a6⟩,a7⟩:=i7;simp only[a4,a5,a6,a7] at *)<;>(try simp only[std,Nat.reduceAdd,guessNext,bE,aW] at *)<;>(try simp(disch:=omega) only[FS,A_] at *)<;>(try simp(disch:=omega) only[I_,J_])<;>(first|trivial|omega|grind[FS,A_,F_,maxLen,guessNext,bE,aW]))
abbrev BZ (l:N_):LInv:=⟨[⟨.s,30,true,.el .int⟩,⟨.b,1,false,.el .loader⟩,⟨.b,2,true,.el .loader⟩,⟨.b,4,true,.el .loader⟩,⟨.s,28,true,.sl .addr⟩],λ(z x:cR)=>((((0<=x.1/\x.1<=(guessesOf l.page).length/\nextGuess l ((guessesOf l.page).drop x.1.toNat)=nextGuess l (guessesOf l.page))/\x.2.1=z.2.1)/\x.2.2.1=z.2.2.1)/\x.2.2.2.1=z.2.2.2.1)/\x.2.2.2.2.1=z.2.2.2.2.1,λ(x:cR)=>(guessesOf l.page).length-x.1.toNat⟩
def Al6:=AjZ.a CZ<|Fct.p (KP [1,2,3,4,6,7,8,28,29,30] [24,31,45]) (λ⟨l,_⟩=>lv [(5,BZ l)]) AjZ.2 func9 (by
 rintro⟨(l:N_),_⟩ hp;refine ho (.cl A9 (l,()) λz2=>let H_:Out:=.lf CZ (z2.1,false,());.br (decide ((l.conns.length:Int)>=3)) H_ (.cl Hz (l.guesses,()) λ(z3:B_)=>.cl NX (l.conns,()) λ(z4:B_)=>.br (decide (wr (z3.1+z4.1)>=6)) H_ (.cl Hp (l.page,()) λz5=>let L_:=(z5.1.length:Int);lpx (BZ l) ((0:Int),(l,(default,(z2.1,(z5.1,()))))) λ(y7:cR) bk7=>let E_:Out:=.re (Value.int IntKind.i64 L_)<|.bk (bk7 (w1 y7.1,(y7.2.1,(y7.2.2.1,(y7.2.2.2.1,(y7.2.2.2.2.1,()))))));.br (decide (y7.1<L_)) (.ix y7.1 y7.2.2.2.2.1.length<|.cl C7 (y7.2.1.guesses,y7.2.2.2.2.1.getD y7.1.toNat default,()) λ(z6:B_)=>.br (decide (z6.1>=0)) E_ (.cl QE (y7.2.1.conns,y7.2.2.2.2.1.getD y7.1.toNat default,()) λ(z7:B_)=>.br (decide (z7.1>=0)) E_ (.cl Bj (y7.2.2.2.1.net,y7.2.1.page.addr.host,y7.2.2.2.2.1.getD y7.1.toNat default,true,()) λz8=>.cl Ng (y7.2.2.2.1.conns,y7.2.2.2.2.1.getD y7.1.toNat default,z8.2.1,true,()) λz9=>.lf CZ ({y7.2.2.2.1 with net:=z8.1,conns:=z9.1},true,())))) (.lf CZ (y7.2.2.2.1,false,()))))) ?_;repeat' (guard_target =~ Out.holds _ _;first|refine Am (li:=BZ l) ?_ λ(y7:cR) i7=>?_|refine lfY ?_|refine Aa (λ_=>?_) λ_=>?_|refine Ae ?_ λ_=>?_|refine AR ?_|refine Ai ?_|refine Ei ?_ λ_ _=>?_)
 all_goals obtain⟨z0,⟨z4,z5,z6⟩,z7,z8,z9⟩:=(show okGN l from hp)<;>have hf:=λa=>Fy (t:=l.page.addr.host) (a:=a) (g:=true) z0<;>obtain⟨z1,z2,z3,_⟩:=z0<;>have hb2:∀ x:R_,x.body.size<=Ad x:=λx=>cw _ _<;>have hn:=λ{i:Nat} (h:i<(guessesOf l.page).length)=>HX (p:=l.page) h<;>(have hc:=O_ (λg:au=>!g.used) l.guesses;have hc2:=IF l.conns;have hgl:=LC l.page)<;>(try obtain⟨⟨⟨⟨⟨a1,a2,a3⟩,a4⟩,a5⟩,a6⟩,a7⟩:=i7;simp only[a4,a5,a6,a7] at *)<;>(try simp only[std,Nat.reduceAdd,guessNext,bE,aW] at *)<;>(try simp(disch:=omega) only[FS,A_] at *)<;>(try simp(disch:=omega) only[I_,J_])<;>(first|trivial|omega|grind[FS,A_,F_,maxLen,guessNext,bE,aW]))
def tagAttrs:List ByteArray->List cf->Option (List cf)
 | [],acc=>some acc
 | w::l,acc=>match G7 61 (toL w) with
  | none=>none
  | some r=>if isName (ofL r.1)&&(isValue (ofL r.2)&&(findAttr acc (ofL r.1)).isNone) then tagAttrs l (acc++[⟨ofL r.1,ofL r.2⟩]) else none
def tagFin (n:ByteArray):Option (List cf)->ao×Bool
 | none=>(default,false)
 | some ats=>if isName n=true/\ats.length<=4 then(⟨1,n,ats,⟨#[]⟩⟩,true) else(default,false)
def tagOf (s:ByteArray):ao×Bool :=
 if 60<s.size then(default,false)
 else if 0<s.size/\s.data.getD 0 0=47 then(if isName (s.extract 1 s.size) then(⟨2,s.extract 1 s.size,[],⟨#[]⟩⟩,true) else(default,false))
 else tagFin ((spl 32 s).getD 0 default) (tagAttrs ((spl 32 s).drop 1) [])
def Vz {s:ByteArray} (h:s.size<=60) (hn:¬ (0<s.size/\s.data.getD 0 0=47)) (ha:tagAttrs ((spl 32 s).drop 1) []=none):tagOf s=(default,false):=by
 unfold tagOf;rw[J_ o_,J_ hn,ha];rfl
def Q3 {s:ByteArray} {ats:List cf} (h:s.size<=60) (hn:¬ (0<s.size/\s.data.getD 0 0=47)) (ha:tagAttrs ((spl 32 s).drop 1) []=some ats):tagOf s=if isName ((spl 32 s).getD 0 default)=true/\ats.length<=4 then(⟨1,(spl 32 s).getD 0 default,ats,⟨#[]⟩⟩,true) else(default,false):=by
 unfold tagOf;rw[J_ o_,J_ hn,ha];rfl
def Io {s:ByteArray}:(60<s.size->tagOf s=(default,false))/\(s.size<=60->0<s.size->s.data.getD 0 0=47->tagOf s=if isName (s.extract 1 s.size) then(⟨2,s.extract 1 s.size,[],⟨#[]⟩⟩,true) else(default,false)):=by
 unfold tagOf;grind
def Aeg (b:UInt8):∀ l:List UInt8,Nn b l=match G7 b l with|none=>[l]|some (p,q)=>p::Nn b q:=by
 intro l
 induction l with
 | nil=>rfl
 | cons x l ih=>
  rw[FN,G7];by_cases hx:x=b
  ·simp_all
  ·rw[J_ hx,J_ hx,ih];cases G7 b l with
   | none=>rfl
   | some r=>rfl
def I6 (b:UInt8) (s:ByteArray):spl b s=match G7 b (toL s) with|none=>[s]|some (p,q)=>ofL p::spl b (ofL q):=by
 unfold spl;rw[Aeg];cases G7 b (toL s) with
 | none=>simp[Cg]
 | some r=>simp[Mc]
def No {b:UInt8}:∀ {l p q:List UInt8},G7 b l=some (p,q)->b∈l
 | [],p,q,h=>by cases h
 | x::l,p,q,h=>by
  rw[G7] at h;split at h
  ·simp_all
  ·obtain⟨r,hr,_⟩:=Option.map_eq_some_iff.1 h;exact cJ _ (No (p:=r.1) (q:=r.2) hr)
def Adp (w:ByteArray):((spl 61 w).length=2/\isName ((spl 61 w).getD 0 default)=true/\isValue ((spl 61 w).getD 1 default)=true)↔∃ r,G7 61 (toL w)=some r/\isName (ofL r.1)=true/\isValue (ofL r.2)=true/\(spl 61 w).getD 0 default=ofL r.1/\(spl 61 w).getD 1 default=ofL r.2:=by
 rw[I6];cases h:G7 61 (toL w) with
 | none=>simp
 | some r=>
  obtain⟨p,q⟩:=r;simp only[aw,P_];constructor
  ·rintro⟨h1,h2,h3⟩;have hq:(spl 61 (ofL q))=[ofL q]:=by
    rw[I6] at h1 ⊢;cases hc:G7 61 (toL (ofL q)) with
    | none=>rfl
    | some r2=>
     rw[hc] at h1;have:=(DU 61 (ofL r2.2)).1;simp_all
   simp_all
  ·rintro⟨r,rfl,h2,h3,h4,h5⟩;have hq:(spl 61 (ofL q))=[ofL q]:=by
    rw[I6];cases hc:G7 61 (toL (ofL q)) with
    | none=>rfl
    | some r2=>exact absurd (No (p:=r2.1) (q:=r2.2) hc) (R9 rfl h3)
   simp_all
def M5:∀ {l:List ByteArray} {acc ats:List cf},tagAttrs l acc=some ats->ats.length=acc.length+l.length
 | [],acc,ats,h=>by simp only[tagAttrs,P_] at h;subst h;simp
 | w::l,acc,ats,h=>by
  simp only[tagAttrs] at h;split at h
  ·cases h
  ·split at h
   ·have:=M5 h;grind
   ·cases h
def OF {l:List ByteArray} {i:Nat} {acc:List cf} (h:i<l.length):tagAttrs (l.drop i) acc=(match G7 61 (toL (l.getD i default)) with|none=>none|some r=>if isName (ofL r.1)&&(isValue (ofL r.2)&&(findAttr acc (ofL r.1)).isNone) then tagAttrs (l.drop (i+1)) (acc++[⟨ofL r.1,ofL r.2⟩]) else none):=by rw[HO h];rfl
def Jx {l:List ByteArray} {i:Nat} {acc:List cf} (h:l.length<=i):tagAttrs (l.drop i) acc=some acc:=by rw[bR h];rfl
abbrev P9:Fct:=⟨[.v (.el .str)],[.el .token,.el .bool],λ(x:K_)=>x.1.size<=100000000,λ(x:K_)=>((tagOf x.1).1,(tagOf x.1).2,())⟩
def Ai4 {s:ByteArray} {i:Nat} {b:Nat} (hb:b<=255):((s.data.getD i 0).toNat:Int)=b↔s.data.getD i 0=UInt8.ofNat b:=NP (b:=b) o_ o_
def Aaq {l:List ByteArray} {i:Nat} {acc:List cf} (h:i<l.length):tagAttrs (l.drop i) acc=if(spl 61 (l.getD i default)).length=2/\isName ((spl 61 (l.getD i default)).getD 0 default)=true/\isValue ((spl 61 (l.getD i default)).getD 1 default)=true/\(findAttr acc ((spl 61 (l.getD i default)).getD 0 default)).isSome=false then tagAttrs (l.drop (i+1)) (acc++[⟨(spl 61 (l.getD i default)).getD 0 default,(spl 61 (l.getD i default)).getD 1 default⟩]) else none:=by
 rw[OF h];generalize l.getD i default=w;by_cases hw:(spl 61 w).length=2/\isName ((spl 61 w).getD 0 default)=true/\isValue ((spl 61 w).getD 1 default)=true
 ·obtain⟨r,h1,h2,h3,h4,h5⟩:=(Adp w).1 hw;simp_all
 ·rw[J_ λhh=>hw ⟨hh.1,hh.2.1,hh.2.2.1⟩];cases hc:G7 61 (toL w) with
  | none=>rfl
  | some r=>
   simp only;rw[J_];intro hh;simp only[Z_] at hh;refine hw ?_;have hq:spl 61 (ofL r.2)=[ofL r.2]:=by
    rw[I6];cases hc2:G7 61 (toL (ofL r.2)) with
    | none=>rfl
    | some r2=>exact absurd (No (p:=r2.1) (q:=r2.2) hc2) (R9 rfl hh.2.1)
   rw[I6,hc];simp_all
abbrev Ga (s:ByteArray):LInv:=⟨[⟨.b,5,true,.el .token⟩,⟨.s,6,true,.el .int⟩,⟨.b,2,true,.el .token⟩,⟨.s,4,true,.sl .str⟩],λ(z x:cG)=>((1<=x.2.1/\x.2.1<=(spl 32 s).length/\x.1.bo.length+1<=x.2.1/\x.1=⟨1,(spl 32 s).getD 0 default,x.1.bo,⟨#[]⟩⟩/\tagAttrs ((spl 32 s).drop x.2.1.toNat) x.1.bo=tagAttrs ((spl 32 s).drop 1) [])/\x.2.2.1=z.2.2.1)/\x.2.2.2.1=z.2.2.2.1,λ(x:cG)=>(spl 32 s).length-x.2.1.toNat⟩
def Amm:=Al6.a P9<|Fct.p (KP [0,2,3,4,5,6,7,9] [12,21,25,39,63,74,97]) (λ⟨s,_⟩=>lv [(10,Ga s)]) Al6.2 func244 (by
 rintro⟨(s:ByteArray),_⟩ hp;refine ho (let aC:=(s.size:Int);let U_:=(0:Int)<=(1:Int)/\(1:Int)<=aC;let Q_:=(⟨#[]⟩:ByteArray);let H_:Out:=.leaf (.tup [(true,[vi ((0:Int)),vs (Q_),.nl,vs (Q_)]),(false,[vb (false)])]) [] [];let E_:Out:=.cl Fi (s,(32:Int),()) λz3=>.ob ((0:Int)<=(0:Int)/\(0:Int)<(z3.1.length:Int))<|.ob (0<z3.1.length)<|lpx (Ga s) ((⟨(1:Int),z3.1.getD 0 default,[],Q_⟩:ao),((1:Int),(default,(z3.1,())))) λ(y12:cG) bk12=>.br (decide (y12.2.1<(y12.2.2.2.1.length:Int))) (.ix y12.2.1 y12.2.2.2.1.length<|.cl Fi (y12.2.2.2.1.getD y12.2.1.toNat default,(61:Int),()) λz4=>let bL:=0<z4.1.length;let aU:=(z4.1.length:Int);let aj:=(⟨z4.1.getD 0 default,z4.1.getD 1 default⟩:cf);let M_:=(0:Int)<=(1:Int)/\(1:Int)<aU;let L_:=(0:Int)<=(0:Int)/\(0:Int)<aU;.br (aU != 2) H_ (.ob L_<|.ob bL<|.cl Bv (z4.1.getD 0 default,()) λz5=>.br (!z5.1) H_ (.ob M_<|.ob (1<z4.1.length)<|.cl GE (z4.1.getD 1 default,()) λz6=>.br (!z6.1) H_ (.ob L_<|.ob bL<|.cl Al (y12.1.bo,z4.1.getD 0 default,()) λz7=>.br (z7.2.1) H_ (.ob L_<|.ob bL<|.ob M_<|.ob (1<z4.1.length)<|.ap (y12.1.bo.length+[aj].length) 32<|.re (Value.string s)<|.bk (bk12 (({y12.1 with bo:=y12.1.bo++[aj]}:ao),(w1 y12.2.1,(y12.2.2.1,(y12.2.2.2.1,())))))))))) (.cl Bv (y12.1.name,()) λz8=>.br (!z8.1) H_ (.br (decide ((y12.1.bo.length:Int)>4)) H_ (.lf P9 (y12.1,true,()))));.br (decide (aC>60)) H_ (.br (decide (aC>0)) (.ob ((0:Int)<=(0:Int)/\(0:Int)<aC)<|.br ((↑(s.data.getD 0 0).toNat:Int)==47) (.ob U_<|.cl Bv (s.extract 1 s.size,()) λz2=>.br (!z2.1) H_ (.ob U_<|.leaf (.tup [(true,[vi ((2:Int)),vs (s.extract 1 s.size),.nl,vs (Q_)]),(false,[vb (true)])]) [] [])) E_) E_)) ?_;refine Aa (λh1=>Fct.leafZ (default,false,()) (by repeat' first|exact rfl|exact trivial|refine And.intro ?_ ?_) ?_) λh1=>Aa (λh2=>Ab ?_ λ_=>Aa (λh4=>Ab ?_ λ_=>Ae ?_ λ_=>Aa (λh7=>Fct.leafZ (default,false,()) (by repeat' first|exact rfl|exact trivial|refine And.intro ?_ ?_) ?_) λh7=>Ab ?_ λ_=>Fct.leafZ (⟨(2:Int),s.extract (1:Nat) s.size,[],{ data := #[]:ByteArray }⟩,true,()) (by repeat' first|exact rfl|exact trivial|refine And.intro ?_ ?_) ?_) λh4=>Ae ?_ λ_=>Ab ?_ λ_=>Ab ?_ λ_=>Am ?_ λ(y12:cG) i12=>Aa (λh13=>Ei ?_ λo14 o15=>Ae ?_ λ_=>Aa (λh17=>Fct.leafZ (default,false,()) (by repeat' first|exact rfl|exact trivial|refine And.intro ?_ ?_) ?_) λh17=>Ab ?_ λ_=>Ab ?_ λ_=>Ae ?_ λ_=>Aa (λh21=>Fct.leafZ (default,false,()) (by repeat' first|exact rfl|exact trivial|refine And.intro ?_ ?_) ?_) λh21=>Ab ?_ λ_=>Ab ?_ λ_=>Ae ?_ λ_=>Aa (λh25=>Fct.leafZ (default,false,()) (by repeat' first|exact rfl|exact trivial|refine And.intro ?_ ?_) ?_) λh25=>Ab ?_ λ_=>Ab ?_ λ_=>Ae ?_ λ_=>Aa (λh29=>Fct.leafZ (default,false,()) (by repeat' first|exact rfl|exact trivial|refine And.intro ?_ ?_) ?_) λh29=>Ab ?_ λ_=>Ab ?_ λ_=>Ab ?_ λ_=>Ab ?_ λ_=>Ed ?_ λ_=>Ai<|AR ?_) λh13=>Ae ?_ λ_=>Aa (λh37=>Fct.leafZ (default,false,()) (by repeat' first|exact rfl|exact trivial|refine And.intro ?_ ?_) ?_) λh37=>Aa (λh38=>Fct.leafZ (default,false,()) (by repeat' first|exact rfl|exact trivial|refine And.intro ?_ ?_) ?_) λh38=>lfY ?_) λh2=>Ae ?_ λ_=>Ab ?_ λ_=>Ab ?_ λ_=>Am ?_ λ(y42:cG) i42=>Aa (λh43=>Ei ?_ λo44 o45=>Ae ?_ λ_=>Aa (λh47=>Fct.leafZ (default,false,()) (by repeat' first|exact rfl|exact trivial|refine And.intro ?_ ?_) ?_) λh47=>Ab ?_ λ_=>Ab ?_ λ_=>Ae ?_ λ_=>Aa (λh51=>Fct.leafZ (default,false,()) (by repeat' first|exact rfl|exact trivial|refine And.intro ?_ ?_) ?_) λh51=>Ab ?_ λ_=>Ab ?_ λ_=>Ae ?_ λ_=>Aa (λh55=>Fct.leafZ (default,false,()) (by repeat' first|exact rfl|exact trivial|refine And.intro ?_ ?_) ?_) λh55=>Ab ?_ λ_=>Ab ?_ λ_=>Ae ?_ λ_=>Aa (λh59=>Fct.leafZ (default,false,()) (by repeat' first|exact rfl|exact trivial|refine And.intro ?_ ?_) ?_) λh59=>Ab ?_ λ_=>Ab ?_ λ_=>Ab ?_ λ_=>Ab ?_ λ_=>Ed ?_ λ_=>Ai<|AR ?_) λh43=>Ae ?_ λ_=>Aa (λh67=>Fct.leafZ (default,false,()) (by repeat' first|exact rfl|exact trivial|refine And.intro ?_ ?_) ?_) λh67=>Aa (λh68=>Fct.leafZ (default,false,()) (by repeat' first|exact rfl|exact trivial|refine And.intro ?_ ?_) ?_) λh68=>lfY ?_;all_goals
  try simp only[std,Nat.reduceAdd] at *
  try simp only[show UInt8.ofNat (Int.toNat 32)=32 from rfl,show UInt8.ofNat (Int.toNat 61)=61 from rfl,AeL] at *
 all_goals (have hk:=DU 32 s;have hm:∀ i,i<(spl 32 s).length->((spl 32 s).getD i default).size<=s.size:=λi h=>KX (AH h))<;>(have hx:(s.extract 1 s.size).size<=s.size:=by rw[cH];omega)<;>(try obtain⟨⟨⟨a1,a2,a3,a4,a5⟩,a6⟩,a7⟩:=i12)<;>(try obtain⟨⟨⟨a1,a2,a3,a4,a5⟩,a6⟩,a7⟩:=i42)<;>(try simp only[a7] at *)<;>(first|trivial|omega|skip)<;>(try have hn:¬ (0<s.size/\s.data.getD 0 0=47):=by intro hh;first|(exact absurd hh.2 ‹_›)|omega)<;>(try have hg:y12.1.name=(spl 32 s).getD 0 default:=congrArg ao.name a4)<;>(try have hg:y42.1.name=(spl 32 s).getD 0 default:=congrArg ao.name a4)<;>(try have h0:=hm 0 o_)<;>(try have hw:=hm y12.2.1.toNat o_)<;>(try have hw0:=Ew 61 ((spl 32 s).getD y12.2.1.toNat default) 0)<;>(try have hw1:=Ew 61 ((spl 32 s).getD y12.2.1.toNat default) 1)<;>(first|(rw[Io.1 o_];exact⟨rfl,rfl⟩)|(rw[Io.2 o_ o_ ‹_›,J_ (by rw[show isName _=false from ‹_›];decide)];exact⟨rfl,rfl⟩)|(rw[Io.2 o_ o_ ‹_›,I_ ‹_›];exact⟨rfl,rfl⟩)|(rw[hg];omega)|omega|skip)<;>(first|exact⟨o_,o_,by simp,trivial,rfl⟩|exact⟨o_,o_,o_⟩|skip)<;>(first|(rw[Aaq o_,J_ (by rintro⟨c1,c2,c3,c4⟩;first|omega|exact absurd (c2.symm.trans (show isName _=false from ‹_›)) (by decide)|exact absurd (c3.symm.trans (show isValue _=false from ‹_›)) (by decide)|exact absurd (c4.symm.trans (show Option.isSome _=true from ‹_›)) (by decide))] at a5;rw[Vz o_ hn a5.symm];exact⟨rfl,rfl⟩)|skip)<;>(first|(rw[Jx o_] at a5;rw[Q3 o_ hn a5.symm,J_ (by rintro⟨c1,c2⟩;rw[<-hg] at c1;first|omega|exact absurd (c1.symm.trans (show isName _=false from ‹_›)) (by decide))];exact⟨rfl,rfl⟩)|(rw[Jx o_] at a5;rw[Q3 o_ hn a5.symm,I_ ⟨by rw[<-hg];assumption,o_⟩];exact⟨a4,rfl⟩)|skip)<;>rw[Aaq o_,I_ (by exact⟨o_,‹_›,‹_›,‹_›⟩)] at a5<;>rw[Ah o_,A_ o_]<;>refine⟨⟨⟨⟨o_,o_,by rw[al];simp only[aw,aJ];omega,?_,a5⟩,a6⟩,trivial⟩,o_⟩<;>rw[a4])
def idxB (b:UInt8) (s:ByteArray):Nat:=(toL s).findIdx λx=>x==b
def G6 (b:UInt8) (s:ByteArray):idxB b s<=s.size:=by
 have:=List.findIdx_le_length (xs:=toL s) (p:=λx=>x==b);rw[Br] at this;exact this
def AdZ {b:UInt8} {s:ByteArray} {i:Nat} (h:i<s.size) (hb:s.data.getD i 0=b) (hn:b∉(toL s).take i):idxB b s=i:=by
 have e:toL s=(toL s).take i++b::(toL s).drop (i+1):=by rw[<-hb,<-Ka h,eg]
 have hl:((toL s).take i).length=i:=by rw[bS,Br];omega
 unfold idxB;grind
def Adx {b:UInt8} {s:ByteArray} {i:Nat} (h:s.size<=i) (hn:b∉(toL s).take i):idxB b s=s.size:=by
 rw[ct (by rw[Br];exact h)] at hn;unfold idxB;rw[List.findIdx_eq_length_of_false λx hx=>by
  have:x≠b:=λe=>hn (e▸hx)
  simpa using this]
 rfl
abbrev MK:Fct:=⟨[.v (.el .str),.v (.el .u8)],[.el .int],λ(x:ai)=>x.1.size<=1000000000000/\0<=x.2.1/\x.2.1<=255,λ(x:ai)=>((idxB (UInt8.ofNat x.2.1.toNat) x.1:Int),())⟩
abbrev Fw (s:ByteArray) (b:Int):LInv:=⟨[⟨.s,5,true,.el .int⟩],λ_ (x:B_)=>0<=x.1/\x.1<=s.size/\UInt8.ofNat b.toNat∉(toL s).take x.1.toNat,λ(x:B_)=>s.size-x.1.toNat⟩
def AlM:=Amm.a MK<|Fct.p (KP [0,1,4,5] [9,16]) (λ⟨s,b,_⟩=>lv [(2,Fw s b)]) Amm.2 func243 (by
 rintro⟨(s:ByteArray),(b:Int),_⟩ hp;refine ho (lpx (Fw s b) ((0:Int),()) λ(y1:B_) bk1=>.br (decide (y1.1<(s.size:Int))) (.ob (0<=y1.1/\y1.1<(s.size:Int))<|.br ((↑(s.data.getD y1.1.toNat 0).toNat:Int)==b) (.lf MK (y1.1,())) (.re (Value.string s)<|.re (Value.int IntKind.u8 b)<|.bk (bk1 (w1 y1.1,())))) (.lf MK ((s.size:Int),()))) ?_;refine Am ?_ λ(y1:B_) i1=>Aa (λh2=>Ab ?_ λ_=>Aa (λh4=>lfY ?_) λh4=>Ai<|Ai<|AR ?_) (λh2=>lfY ?_)<;>obtain⟨hp1,hp2,hp3⟩:=hp<;>(try obtain⟨a1,a2,a3⟩:=i1)<;>(try simp only[std,Nat.reduceAdd,NP hp2 hp3] at *)<;>(try simp(disch:=omega) only[FS,A_] at *)<;>(try simp(disch:=omega) only[I_,J_])<;>(try have e:=AdZ (show y1.1.toNat<s.size from o_) h4 a3)<;>(try have t:=Aau (show y1.1.toNat<s.size from o_) h4 a3)<;>(try have e:=Adx (show s.size<=y1.1.toNat from o_) a3)<;>(first|trivial|omega|grind))
def feed:Nat->ByteArray->List ao×ByteArray
 | 0,x=>([],x)
 | f+1,x=>
  if 0<idxB 60 x/\idxB 60 x<x.size then(⟨3,⟨#[]⟩,[],x.extract 0 (idxB 60 x)⟩::(feed f (x.extract (idxB 60 x) x.size)).1,(feed f (x.extract (idxB 60 x) x.size)).2)
  else if idxB 60 x≠0\/idxB 62 x=x.size then([],x)
  else(if(tagOf (x.extract 1 (idxB 62 x))).2 then(tagOf (x.extract 1 (idxB 62 x))).1::(feed f (x.extract (idxB 62 x+1) x.size)).1 else(feed f (x.extract (idxB 62 x+1) x.size)).1,(feed f (x.extract (idxB 62 x+1) x.size)).2)
def LA:∀ (f g:Nat) (x:ByteArray),x.size<f->x.size<g->feed f x=feed g x
 | 0,_,x,h,_=>o_
 | _,0,x,_,h=>o_
 | f+1,g+1,x,h1,h2=>by
  have hl:=G6 62 x;simp only[feed];split
  ·rename_i hc;rw[LA f g (x.extract (idxB 60 x) x.size) (by rw[cH];omega) (by rw[cH];omega)]
  ·split
   ·rfl
   ·rename_i hc;rw[LA f g (x.extract (idxB 62 x+1) x.size) (by rw[cH];omega) (by rw[cH];omega)]
def feedAll (x:ByteArray):List ao×ByteArray:=feed (x.size+1) x
def SI {x:ByteArray} (h:0<idxB 60 x) (h2:idxB 60 x<x.size):feedAll x=(⟨3,⟨#[]⟩,[],x.extract 0 (idxB 60 x)⟩::(feedAll (x.extract (idxB 60 x) x.size)).1,(feedAll (x.extract (idxB 60 x) x.size)).2):=by
 have e:feed x.size (x.extract (idxB 60 x) x.size)=feedAll (x.extract (idxB 60 x) x.size):=LA _ _ _ (by rw[cH];omega) o_;show feed (x.size+1) x=_;rw[feed,I_ ⟨h,h2⟩,e]
def OJ {x:ByteArray} (h:¬ (0<idxB 60 x/\idxB 60 x<x.size)) (h2:idxB 60 x≠0\/idxB 62 x=x.size):feedAll x=([],x):=by
 show feed (x.size+1) x=_;rw[feed,J_ h,I_ h2]
def V5 {x:ByteArray} (h:idxB 60 x=0) (h2:idxB 62 x<x.size):feedAll x=(if(tagOf (x.extract 1 (idxB 62 x))).2 then(tagOf (x.extract 1 (idxB 62 x))).1::(feedAll (x.extract (idxB 62 x+1) x.size)).1 else(feedAll (x.extract (idxB 62 x+1) x.size)).1,(feedAll (x.extract (idxB 62 x+1) x.size)).2):=by
 have e:feed x.size (x.extract (idxB 62 x+1) x.size)=feedAll (x.extract (idxB 62 x+1) x.size):=LA _ _ _ (by rw[cH];omega) o_;show feed (x.size+1) x=_;rw[feed,J_ o_,J_ o_,e]
def UR {x:ByteArray} (h:idxB 60 x=0) (h2:idxB 62 x<x.size):1<=idxB 62 x:=by
 unfold idxB at *
 have hl:(toL x).length=x.size:=rfl;cases hx:toL x with
 | nil=>rw[hx] at hl;simp only[aJ] at hl;omega
 | cons c l=>
  grind
abbrev Ip:Fct:=⟨[.v (.el .tokenizer),.v (.el .str)],[.sl .token,.el .tokenizer],λ(x:gg)=>x.1.rest.size<=50000000/\x.2.1.size<=50000000,λ(x:gg)=>((feedAll (x.1.rest++x.2.1)).1,⟨(feedAll (x.1.rest++x.2.1)).2⟩,())⟩
abbrev Cq (t:dv) (s:ByteArray):LInv:=⟨[⟨.s,6,true,.sl .token⟩,⟨.s,7,true,.el .str⟩,⟨.b,5,true,.el .tokenizer⟩],λ(z x:eV)=>(x.1.length+x.2.1.size<=(t.rest++s).size/\x.1++(feedAll x.2.1).1=(feedAll (t.rest++s)).1/\(feedAll x.2.1).2=(feedAll (t.rest++s)).2)/\x.2.2.1=z.2.2.1,λ(x:eV)=>x.2.1.size⟩
def AmT:=AlM.a Ip<|Fct.p (KP [1,2,4,5,6,7,8,9,10,11] [26,46,57]) (λ⟨t,s,_⟩=>lv [(3,Cq t s)]) AlM.2 func146 (by
 rintro⟨(t:dv),(s:ByteArray),_⟩ hp;refine ho (let U_:=Value.string s;.ob (sameSize t.rest s)<|lpx (Cq t s) ([],(t.rest++s,(default,()))) λ(y2:eV) bk2=>let M_:Out:=.lf Ip (y2.1,⟨y2.2.1⟩,());let H_:=(y2.2.1.size:Int);.cl MK (y2.2.1,(60:Int),()) λ(z2:B_)=>let aj:=0<=z2.1/\z2.1<=H_;let L_:=(⟨(3:Int),(⟨#[]⟩:ByteArray),[],y2.2.1.extract 0 z2.1.toNat⟩:ao);let E_:Out:=.cl MK (y2.2.1,(62:Int),()) λ(z3:B_)=>let Q_:=0<=w1 z3.1/\w1 z3.1<=H_;.br (z2.1 != 0) M_ (.br (z3.1==H_) M_ (.ob ((0:Int)<=(1:Int)/\1<=z3.1/\z3.1<=H_)<|.cl P9 (y2.2.1.extract 1 z3.1.toNat,()) λz4=>.br (z4.2.1) (.ob (IA (y2.1.length+[z4.1].length) 64)<|.ob Q_<|.re U_<|.bk (bk2 (y2.1++[z4.1],(y2.2.1.extract (w1 z3.1).toNat y2.2.1.size,(y2.2.2.1,()))))) (.ob Q_<|.re U_<|.bk (bk2 (y2.1,(y2.2.1.extract (w1 z3.1).toNat y2.2.1.size,(y2.2.2.1,())))))));.br (decide (z2.1>0)) (.br (decide (z2.1<H_)) (.ob aj<|.ob (IA (y2.1.length+[L_].length) 64)<|.ob aj<|.re U_<|.bk (bk2 (y2.1++[L_],(y2.2.1.extract z2.1.toNat y2.2.1.size,(y2.2.2.1,()))))) E_) E_) ?_;repeat' (guard_target =~ Out.holds _ _;first|refine Am (li:=Cq t s) ?_ λ(y2:eV) i2=>?_|refine lfY ?_|refine Aa (λ_=>?_) λ_=>?_|refine Ae ?_ λ_=>?_|refine Ab ?_ λ_=>?_|refine AR ?_|refine Ai ?_)
 all_goals (try obtain⟨⟨a1,a2,a3⟩,a4⟩:=i2)<;>(try simp only[std,Nat.reduceAdd] at *)<;>(try simp(disch:=omega) only[FS,A_] at *)<;>(try simp(disch:=omega) only[I_,J_])<;>(try simp only[show UInt8.ofNat (Int.toNat 60)=60 from rfl,show UInt8.ofNat (Int.toNat 62)=62 from rfl,fw,aQ] at *)<;>(try have k1:=G6 60 y2.2.1)<;>(try have k2:=G6 62 y2.2.1)<;>(try have k3:=UR (x:=y2.2.1))<;>(try have k4:∀ a b,(y2.2.1.extract a b).size<=y2.2.1.size:=λa b=>by rw[cH];omega)<;>(try simp(disch:=omega) only[FS] at *)<;>(first|trivial|omega|(unfold sameSize;omega)|(have:=k4 1 (idxB 62 y2.2.1);omega)|skip)<;>(first|exact⟨Int.natCast_nonneg _,Int.ofNat_le.2 k1⟩|skip)<;>(try simp only[aH,ca] at *)<;>(first|omega|exact⟨o_,o_⟩|exact⟨o_,o_,o_⟩|skip)<;>(have k5:∀ a,(y2.2.1.extract a y2.2.1.size).size=y2.2.1.size-a:=λa=>by rw[cH];omega)<;>(first|(rw[OJ (x:=y2.2.1) o_ o_] at a2 a3;rw[cF] at a2;exact⟨a2,by rw[<-a3]⟩)|skip)<;>(first|rw[SI (x:=y2.2.1) o_ o_] at a2 a3|(rw[V5 (x:=y2.2.1) o_ o_] at a2 a3;first|rw[I_ ‹_›] at a2|rw[J_ (by rw[show Prod.snd _=false from ‹_›];decide)] at a2))<;>(try simp only[Ah (show -9223372036854775808<=((idxB 62 y2.2.1:Nat):Int)+1/\((idxB 62 y2.2.1:Nat):Int)+1<=9223372036854775807 from o_),show(((idxB 62 y2.2.1:Nat):Int)+1).toNat=idxB 62 y2.2.1+1 from o_] at *)<;>refine⟨⟨⟨?_,?_,a3⟩,a4⟩,?_⟩<;>(first|(rw[k5];simp only[al,aw,aJ];omega)|(rw[k5];omega)|exact a2|(rw[bB];exact a2)|skip))
def O1 {α:Type} [Inhabited α] (f:α->Nat) {l:List α} {i:Nat} (h:i<l.length):szL f (l.drop i)=f (l.getD i default)+1+szL f (l.drop (i+1)):=by rw[HO h,Ag]
def OL {b:UInt8}:∀ {l p q:List UInt8},G7 b l=some (p,q)->p.length+q.length+1=l.length
 | [],p,q,h=>by cases h
 | x::l,p,q,h=>by
  rw[G7] at h;split at h
  ·simp_all
  ·obtain⟨r,hr,he⟩:=Option.map_eq_some_iff.1 h;have:=OL (p:=r.1) (q:=r.2) hr;grind
def OA:∀ {l:List ByteArray} {acc ats:List cf},tagAttrs l acc=some ats->szL BW ats<=szL BW acc+szL Af l
 | [],acc,ats,h=>by simp only[tagAttrs,P_] at h;subst h;omega
 | w::l,acc,ats,h=>by
  simp only[tagAttrs] at h;split at h
  ·cases h
  ·rename_i r hr;split at h
   ·have h1:=OA h;have h2:=OL (p:=r.1) (q:=r.2) hr;rw[Ek] at h1;rw[Ag,Af];rw[Br] at h2;simp only[BW,HW] at h1;omega
   ·cases h
def Acx (s:ByteArray):szToken (tagOf s).1<=s.size:=by
 have h0:szToken default=0:=by decide
 unfold tagOf;split
 ·simp only[h0];omega
 ·split
  ·split
   ·simp only[szToken,szL,cH,List.map_nil,List.sum_nil,aJ,show ByteArray.size ⟨#[]⟩=0 from rfl];omega
   ·simp only[h0];omega
  ·have hs:=OO 32 s;have hp:=(DU 32 s).1;cases ht:tagAttrs ((spl 32 s).drop 1) [] with
   | none=>simp only[tagFin,h0];omega
   | some ats=>
    have h1:=OA ht;have h2:=O1 Af (l:=spl 32 s) (i:=0) hp;rw[dt,cx] at h2;have h3:szL BW []=0:=rfl;simp only[tagFin];simp only[Af] at h2;split
    ·simp only[szToken,show ByteArray.size ⟨#[]⟩=0 from rfl];omega
    ·simp only[h0];omega
def Ahr {b:UInt8} {x:ByteArray} (h:idxB b x<x.size):idxB b (x.extract (idxB b x) x.size)=0:=by
 have hl:idxB b x<(toL x).length:=h;have hg:=List.findIdx_getElem (w:=hl);unfold idxB at *
 rw[A4,ct (by rw[Br];exact aa _),List.drop_eq_getElem_cons hl,List.findIdx_cons,hg];rfl
def AcH:∀ (f:Nat) (x:ByteArray),szL szToken (feed f x).1+(feed f x).2.size<=x.size+(if idxB 60 x=0 then 0 else 1):=by
 intro f
 induction f with
 | zero=>intro x;have:szL szToken []=0:=rfl;simp only[feed];omega
 | succ f ih=>
  intro x;have hl:=G6 62 x;have h3:szL BW []=0:=rfl;have h4:szL szToken []=0:=rfl;simp only[feed];split
  ·rename_i hc;have:=ih (x.extract (idxB 60 x) x.size);have hz:idxB 60 (x.extract (idxB 60 x) x.size)=0:=Ahr hc.2;rw[Ag];rw[I_ hz] at this;rw[J_ o_];simp only[szToken,cH,show ByteArray.size ⟨#[]⟩=0 from rfl,h3] at *
   omega
  ·split
   ·simp_all
   ·rename_i hc;have:=ih (x.extract (idxB 62 x+1) x.size);have ht:=Acx (x.extract 1 (idxB 62 x));have ho:=UR (x:=x) o_ o_;rw[cH] at this ht;rw[I_ (show idxB 60 x=0 from o_)];have h5:szL szToken (feed f (x.extract (idxB 62 x+1) x.size)).1+(feed f (x.extract (idxB 62 x+1) x.size)).2.size<=x.size-(idxB 62 x+1)+1:=by split at this<;>omega
    split
    ·simp only[Ag];omega
    ·dsimp only;omega
def endText (r:ByteArray):List ao:=if r=⟨#[]⟩\/r.data.getD 0 0=60 then[] else[⟨3,⟨#[]⟩,[],r⟩]
def PE (r:ByteArray):szL szToken (endText r)<=r.size+1:=by
 unfold endText;have h3:szL BW []=0:=rfl;have h4:szL szToken []=0:=rfl;split
 ·omega
 ·rw[Ag];simp only[szToken,h3,h4,show ByteArray.size ⟨#[]⟩=0 from rfl];omega
def Aid {s:ByteArray} {i:Nat}:((s.data.getD i 0).toNat:Int)=60↔s.data.getD i 0=60:=Ai4 (b:=60) o_
def Acf {s:ByteArray} (h:¬ s=⟨#[]⟩):0<s.size:=by
 rcases Nat.eq_zero_or_pos s.size with h0|h0
 ·exact absurd (ByteArray.ext (Array.eq_empty_of_size_eq_zero h0)) h
 ·exact h0
abbrev Hi:Fct:=⟨[.v (.el .tokenizer)],[.sl .token],λ(x:dv×Unit)=>x.1.rest.size<=1000000000000,λ(x:dv×Unit)=>(endText x.1.rest,())⟩
theorem q4 (t:dv) (hp:Hi.pre (t,())):Out.holds (Hi.ctr (t,())).post (.br (t.rest.toList==(⟨#[]⟩:ByteArray).toList) (.lf Hi ([],())) (.ob ((0:Int)<=(0:Int)/\(0:Int)<(t.rest.size:Int))<|.br ((↑(t.rest.data.getD 0 0).toNat:Int)==60) (.lf Hi ([],())) (.lf Hi ([(⟨(3:Int),(⟨#[]⟩:ByteArray),[],t.rest⟩:ao)],())))):=by
 refine Aa (λh1=>lfY ?_) λh1=>Ab ?_ λ_=>Aa (λh3=>lfY ?_) λh3=>lfY ?_;all_goals try simp only[std,Nat.reduceAdd,endText,Aid] at *
 all_goals have hz:=@Acf t.rest<;>(first|trivial|omega|(have:=hz ‹_›;omega)|rw[I_ (by first|exact .inl ‹_›|exact .inr ‹_›)]|rw[J_ (by rintro(h|h)<;>contradiction)])
def AkP:=AmT.a Hi<|Fct.o (KP [1,2] [11]) AmT.2 func147 (by
 rintro⟨(t:dv),_⟩ hp;exact ho _ (q4 t hp))
def AjB:=AkP.a Hi<|Fct.o (KP [1,2] [11]) AkP.2 func116 (by
 rintro⟨(t:dv),_⟩ hp;exact ho _ (q4 t hp))
def Od (r:ByteArray):(endText r).length<=1:=by unfold endText;split<;>simp
theorem dE:(default:dv).rest=⟨#[]⟩/\(∀ s:ByteArray,(⟨#[]⟩:ByteArray)++s=s)/\ByteArray.size ⟨#[]⟩=0:=⟨rfl,λs=>ByteArray.ext (by simp),rfl⟩
def tokensOf (s:ByteArray):List ao:=(feedAll s).1++endText (feedAll s).2
def MM (x:ByteArray):szL szToken (feedAll x).1+(feedAll x).2.size<=x.size+1:=by
 have:=AcH (x.size+1) x;unfold feedAll;grind
def Ol (x:ByteArray):(feedAll x).1.length+(feedAll x).2.size<=x.size+1:=by
 have:=MM x;have:=Ac szToken (feedAll x).1;omega
abbrev HM:Fct:=⟨[.v (.el .str)],[.sl .token],λ(x:K_)=>x.1.size<=10000000,λ(x:K_)=>(tokensOf x.1,())⟩
theorem q5 (s:ByteArray) (hp:HM.pre (s,())):Out.holds (HM.ctr (s,())).post (.cl Ip (default,s,()) λz2=>.cl Hi (z2.2.1,()) λz3=>.ob (IA (z2.1.length+z3.1.length) 64)<|.lf HM (z2.1++z3.1,())):=by
 refine Ae ?_ λ_=>(Ae ?_ λ_=>Ab ?_ λ_=>lfY ?_)<;>(have hz:=Ol s;have he:=Od (feedAll s).2;try simp only[std,Nat.reduceAdd,tokensOf,dE] at *)<;>(try simp(disch:=omega) only[FS,A_] at *)<;>(try simp(disch:=omega) only[I_,J_])<;>(first|trivial|omega|grind[FS,A_,HO,G_,F_,maxLen,tokensOf,dE])
def Ant:=AjB.a HM<|Fct.o [0,2,3,4] AjB.2 func344 (by
 rintro⟨(s:ByteArray),_⟩ hp;exact ho _ (q5 s hp))
def arriveText (p:C_) (s:ByteArray):C_:=if p.ended=true then p else{ p with bn:=p.bn++(feedAll (p.tok.rest++s)).1,tok:=⟨(feedAll (p.tok.rest++s)).2⟩}
abbrev D4:Fct:=⟨[.v (.el .page),.v (.el .str)],[.el .page],λ(x:cS)=>Aj x.1<=1000000000000/\x.1.tok.rest.size<=10000000/\x.2.1.size<=10000000,λ(x:cS)=>(arriveText x.1 x.2.1,())⟩
theorem q6 (p:C_) (s:ByteArray) (hp:D4.pre (p,s,())):Out.holds (D4.ctr (p,s,())).post (.cl AA (p,()) λz2=>.br (p.ended) (.lf D4 (z2.1,())) (.cl Ip (p.tok,s,()) λz3=>.ob (IA (z2.1.bn.length+z3.1.length) 64)<|.lf D4 ({z2.1 with tok:=z3.2.1,bn:=z2.1.bn++z3.1},()))):=by
 refine Ae ?_ λ_=>(Aa (λh2=>lfY ?_) λh2=>Ae ?_ λ_=>Ab ?_ λ_=>lfY ?_)<;>(have hz:=Ol (p.tok.rest++s);have hl2:=Ac szToken p.bn;have hq:szL szToken p.bn+p.tok.rest.size<=Aj p:=by simp only[Aj,Gp];omega)<;>rw[aQ] at hz<;>(try simp only[std,Nat.reduceAdd,arriveText] at *)<;>(try simp(disch:=omega) only[FS,A_] at *)<;>(try simp(disch:=omega) only[I_,J_])<;>(first|trivial|omega|grind[FS,A_,HO,G_,F_,maxLen,arriveText])
def AjI:=Ant.a D4<|Fct.o (KP [1,2,4,5,6,7] [11]) Ant.2 func61 (by
 rintro⟨(p:C_),(s:ByteArray),_⟩ hp;exact ho _ (q6 p s hp))
def endPage (p:C_):C_:=if p.ended=true then p else{ p with bn:=p.bn++endText p.tok.rest,tok:=default,ended:=true }
abbrev HU:Fct:=⟨[.v (.el .page)],[.el .page],λ(x:ak)=>Aj x.1<=1000000000000,λ(x:ak)=>(endPage x.1,())⟩
theorem q19 (p:C_) (hp:HU.pre (p,())):Out.holds (HU.ctr (p,())).post (.cl AA (p,()) λz2=>.br (p.ended) (.lf HU (z2.1,())) (.cl Hi (p.tok,()) λz3=>.ob (IA (z2.1.bn.length+z3.1.length) 64)<|.lf HU ({z2.1 with tok:=default,bn:=z2.1.bn++z3.1,ended:=true},()))):=hz ((an_ @endPage.eq_1<|an_ (Od p.tok.rest)<|an_ (Ac szToken p.bn)<|(by simp only[Aj,Gp];omega:szL szToken p.bn+p.tok.rest.size<=Aj p)))
def Aln:=AjI.a HU<|Fct.o (KP [1,2,3] [7]) AjI.2 func62 (by
 rintro⟨(p:C_),_⟩ hp;exact ho _ (q19 p hp))
def Alv:=Aln.a HU<|Fct.o (KP [1,2,3] [7]) Aln.2 func39 (by
 rintro⟨(p:C_),_⟩ hp;exact ho _ (q19 p hp))
def stylesReady (l:List ay):Bool:=l.all λs=>!(decide (s.mode=2) && !s.done)
def Se {l:List ay} {i:Nat} (h:i<l.length):stylesReady (l.drop i)=(!(decide ((l.getD i default).mode=2) && !(l.getD i default).done)&&stylesReady (l.drop (i+1))):=by rw[HO h];rfl
def PS {l:List ay} {i:Nat} (h:l.length<=i):stylesReady (l.drop i)=true:=by rw[bR h];rfl
abbrev Bc:Fct:=⟨[.v (.el .page)],[.el .bool],λ(x:ak)=>x.1.bf.length<=1000000000000,λ(x:ak)=>(stylesReady x.1.bf,())⟩
abbrev BB (p:C_):LInv:=⟨[⟨.s,3,true,.el .int⟩,⟨.b,1,false,.el .page⟩],λ(z x:Int×C_×Unit)=>(0<=x.1/\x.1<=p.bf.length/\stylesReady (p.bf.drop x.1.toNat)=stylesReady p.bf)/\x.2.1=z.2.1,λ(x:Int×C_×Unit)=>p.bf.length-x.1.toNat⟩
def Ano:=Alv.a Bc<|Fct.p (KP [1,2,3] [8,26]) (λ⟨p,_⟩=>lv [(2,BB p)]) Alv.2 func245 (by
 rintro⟨(p:C_),_⟩ hp;exact hg (.lq (Int×C_×PUnit) (BB p).inv (BB p).m ((0:Int),(p,())) λy1 bk1=>.br (decide (y1.1<(y1.2.1.bf.length:Int))) (.ob (inB y1.1 y1.2.1.bf.length)<|.br ((y1.2.1.bf.getD y1.1.toNat default).mode==2) (.ob (inB y1.1 y1.2.1.bf.length)<|.br (!(y1.2.1.bf.getD y1.1.toNat default).done) (.lf Bc (false,())) (.bk (bk1 (w1 y1.1,(y1.2.1,()))))) (.bk (bk1 (w1 y1.1,(y1.2.1,()))))) (.lf Bc (true,()))) (an_ @Se<|@PS))
abbrev BC (p:C_):LInv:=⟨[⟨.s,8,true,.el .int⟩],λ_ (x:B_)=>0<=x.1/\x.1<=p.bf.length/\stylesReady (p.bf.drop x.1.toNat)=stylesReady p.bf,λ(x:B_)=>p.bf.length-x.1.toNat⟩
def Ajs:=Ano.a Bc<|Fct.p (KP [1,2,4,6,7,8] [9,19]) (λ⟨p,_⟩=>lv [(2,BC p)]) Ano.2 func208 (by
 rintro⟨(p:C_),_⟩ hp;exact hg (.lq (Int×PUnit) (BC p).inv (BC p).m ((0:Int),()) λy1 bk1=>.br (decide (y1.1<(p.bf.length:Int))) (.ob (inB y1.1 p.bf.length)<|.br ((p.bf.getD y1.1.toNat default).mode==2) (.br (!(p.bf.getD y1.1.toNat default).done) (.lf Bc (false,())) (.re (p.bf)<|.re (Value.int IntKind.i64 (p.bf.length:Int))<|.bk (bk1 (w1 y1.1,())))) (.re (p.bf)<|.re (Value.int IntKind.i64 (p.bf.length:Int))<|.bk (bk1 (w1 y1.1,())))) (.lf Bc (true,()))) (an_ @Se<|@PS))
def textOf (n:Int):List cO->ByteArray->ByteArray
 | [],s=>s
 | x::l,s=>textOf n l (if x.parent=n/\x.name=⟨#[]⟩ then s++x.text else s)
def SH {n:Int} {l:List cO} {i:Nat} {s:ByteArray} (h:i<l.length):textOf n (l.drop i) s=textOf n (l.drop (i+1)) (if(l.getD i default).parent=n/\(l.getD i default).name=⟨#[]⟩ then s++(l.getD i default).text else s):=by rw[HO h];rfl
def PA {n:Int} {l:List cO} {i:Nat} {s:ByteArray} (h:l.length<=i):textOf n (l.drop i) s=s:=by rw[bR h];rfl
abbrev LU:Fct:=⟨[.v (.el .ba),.v (.el .int)],[.el .str],λ(x:dC)=>szBuilder x.1<=1000000000000,λ(x:dC)=>(textOf x.2.1 x.1.bi ⟨#[]⟩,())⟩
abbrev F4 (b:af) (n:Int):LInv:=⟨[⟨.s,5,true,.el .str⟩,⟨.s,6,true,.el .int⟩,⟨.b,2,false,.el .ba⟩],λ(z x:gh)=>(0<=x.2.1/\x.2.1<=b.bi.length/\x.1.size+szL AM (b.bi.drop x.2.1.toNat)<=szL AM b.bi/\textOf n (b.bi.drop x.2.1.toNat) x.1=textOf n b.bi ⟨#[]⟩)/\x.2.2.1=z.2.2.1,λ(x:gh)=>b.bi.length-x.2.1.toNat⟩
def AkU:=Ajs.a LU<|Fct.p (KP [1,2,4,5,6] [11,30]) (λ⟨b,n,_⟩=>lv [(3,F4 b n)]) Ajs.2 func247 (by
 rintro⟨(b:af),(n:Int),_⟩ hp;exact hg (let U_:=Value.int IntKind.i64 n;let Q_:=F4 b n;let M_:=(⟨#[]⟩:ByteArray);.lq (ByteArray×Int×af×PUnit) Q_.inv Q_.m (M_,((0:Int),(b,()))) λy1 bk1=>let L_:=inB y1.2.1 y1.2.2.1.bi.length;let H_:=y1.2.2.1.bi.getD y1.2.1.toNat default;let E_:Out:=.re U_<|.re (Value.string M_)<|.bk (bk1 (y1.1,(w1 y1.2.1,(y1.2.2.1,()))));.br (decide (y1.2.1<(y1.2.2.1.bi.length:Int))) (.ob L_<|.br (H_.parent==n) (.ob L_<|.br (H_.name.toList==M_.toList) (.ob L_<|.ob (sameSize y1.1 H_.text)<|.re U_<|.re (Value.string M_)<|.bk (bk1 (y1.1++H_.text,(w1 y1.2.1,(y1.2.2.1,()))))) E_) E_) (.lf LU (y1.1,()))) (an_ @SH<|an_ @PA<|an_ @sameSize.eq_1<|an_ @aQ<|an_ @AM.eq_1<|an_ (Ac AM b.bi)<|an_ (by simp only[szBuilder];omega:szL AM b.bi<=szBuilder b)<|(λi h=>O1 AM h:∀ i,i<b.bi.length->szL AM (b.bi.drop i)=AM (b.bi.getD i default)+1+szL AM (b.bi.drop (i+1)))))
abbrev FO (b:af) (n:Int):LInv:=⟨[⟨.s,5,true,.el .str⟩,⟨.s,11,true,.el .int⟩],λ_ (x:ai)=>0<=x.2.1/\x.2.1<=b.bi.length/\x.1.size+szL AM (b.bi.drop x.2.1.toNat)<=szL AM b.bi/\textOf n (b.bi.drop x.2.1.toNat) x.1=textOf n b.bi ⟨#[]⟩,λ(x:ai)=>b.bi.length-x.2.1.toNat⟩
def Am4:=AkU.a LU<|Fct.p (KP [1,2,4,5,7,9,10,11] [12,23]) (λ⟨b,n,_⟩=>lv [(3,FO b n)]) AkU.2 func210 (by
 rintro⟨(b:af),(n:Int),_⟩ hp;exact hg (let aj:=Value.int IntKind.i64 n;let U_:=(b.bi.length:Int);let Q_:=FO b n;let M_:=Value.int IntKind.i64 U_;let L_:=(⟨#[]⟩:ByteArray);.lq (ByteArray×Int×PUnit) Q_.inv Q_.m (L_,((0:Int),())) λy1 bk1=>let H_:=b.bi.getD y1.2.1.toNat default;let E_:Out:=.re aj<|.re (Value.string L_)<|.re (b.bi)<|.re M_<|.bk (bk1 (y1.1,(w1 y1.2.1,())));.br (decide (y1.2.1<U_)) (.ob (inB y1.2.1 b.bi.length)<|.br (H_.parent==n) (.br (H_.name.toList==L_.toList) (.ob (sameSize y1.1 H_.text)<|.re aj<|.re (Value.string L_)<|.re (b.bi)<|.re M_<|.bk (bk1 (y1.1++H_.text,(w1 y1.2.1,())))) E_) E_) (.lf LU (y1.1,()))) (an_ @SH<|an_ @PA<|an_ @sameSize.eq_1<|an_ @aQ<|an_ @AM.eq_1<|an_ (Ac AM b.bi)<|an_ (by simp only[szBuilder];omega:szL AM b.bi<=szBuilder b)<|(λi h=>O1 AM h:∀ i,i<b.bi.length->szL AM (b.bi.drop i)=AM (b.bi.getD i default)+1+szL AM (b.bi.drop (i+1)))))
def countName (n:ByteArray) (l:List cO):Int:=countIf (λx=>decide (x.name=n)) l
abbrev DG:Fct:=⟨[.v (.el .ba),.v (.el .str)],[.el .int],λ(x:eW)=>x.1.bi.length<=1000000000000,λ(x:eW)=>(countName x.2.1 x.1.bi,())⟩
abbrev B7 (b:af) (n:ByteArray):LInv:=⟨[⟨.s,5,true,.el .int⟩,⟨.s,6,true,.el .int⟩,⟨.b,2,false,.el .ba⟩],λ(z x_:gi)=>(0<=x_.2.1/\x_.2.1<=b.bi.length/\0<=x_.1/\x_.1<=x_.2.1/\x_.1+countIf (λx=>decide (x.name=n)) (b.bi.drop x_.2.1.toNat)=countName n b.bi)/\x_.2.2.1=z.2.2.1,λ(x_:gi)=>b.bi.length-x_.2.1.toNat⟩
def Alt:=Am4.a DG<|Fct.p (KP [1,2,4,5,6] [11,21]) (λ⟨b,n,_⟩=>lv [(3,B7 b n)]) Am4.2 func425 (by
 rintro⟨(b:af),(n:ByteArray),_⟩ hp;exact hg (.lq (Int×Int×af×PUnit) (B7 b n).inv (B7 b n).m ((0:Int),((0:Int),(b,()))) λy1 bk1=>.br (decide (y1.2.1<(y1.2.2.1.bi.length:Int))) (.ob (inB y1.2.1 y1.2.2.1.bi.length)<|.br ((y1.2.2.1.bi.getD y1.2.1.toNat default).name.toList==n.toList) (.re (Value.string n)<|.re (Value.int IntKind.i64 (0:Int))<|.bk (bk1 (w1 y1.1,(w1 y1.2.1,(y1.2.2.1,()))))) (.re (Value.string n)<|.re (Value.int IntKind.i64 (0:Int))<|.bk (bk1 (y1.1,(w1 y1.2.1,(y1.2.2.1,())))))) (.lf DG (y1.1,()))) (an_ @countName.eq_1<|an_ @countIf.eq_1<|an_ @countIf.eq_2<|@O_))
abbrev B0 (b:af) (n:ByteArray):LInv:=⟨[⟨.s,5,true,.el .int⟩,⟨.s,11,true,.el .int⟩],λ_ (x_:ah)=>0<=x_.2.1/\x_.2.1<=b.bi.length/\0<=x_.1/\x_.1<=x_.2.1/\x_.1+countIf (λx=>decide (x.name=n)) (b.bi.drop x_.2.1.toNat)=countName n b.bi,λ(x_:ah)=>b.bi.length-x_.2.1.toNat⟩
def AnM:=Alt.a DG<|Fct.p (KP [1,2,4,5,7,9,10,11] [12,18]) (λ⟨b,n,_⟩=>lv [(3,B0 b n)]) Alt.2 func440 (by
 rintro⟨(b:af),(n:ByteArray),_⟩ hp;exact hg (.lq (Int×Int×PUnit) (B0 b n).inv (B0 b n).m ((0:Int),((0:Int),())) λy1 bk1=>.br (decide (y1.2.1<(b.bi.length:Int))) (.ob (inB y1.2.1 b.bi.length)<|.br ((b.bi.getD y1.2.1.toNat default).name.toList==n.toList) (.re (Value.string n)<|.re (Value.int IntKind.i64 (0:Int))<|.re (b.bi)<|.re (Value.int IntKind.i64 (b.bi.length:Int))<|.bk (bk1 (w1 y1.1,(w1 y1.2.1,())))) (.re (Value.string n)<|.re (Value.int IntKind.i64 (0:Int))<|.re (b.bi)<|.re (Value.int IntKind.i64 (b.bi.length:Int))<|.bk (bk1 (y1.1,(w1 y1.2.1,()))))) (.lf DG (y1.1,()))) (an_ @countName.eq_1<|an_ @countIf.eq_1<|an_ @countIf.eq_2<|@O_))
def colR (n:ByteArray) (rs:List dw) (z:Int):Nat->Int
 | 0=>z
 | m+1=>if(rs.getD m default).name=n then(rs.getD m default).color else colR n rs z m
def colS (n:ByteArray) (l:List bu):Nat->Int
 | 0=>0
 | m+1=>colR n (l.getD m default).rules (colS n l m) (l.getD m default).rules.length
def colorOf (l:List bu) (n:ByteArray):Int:=colS n l l.length
def Q9 {n:ByteArray} {rs:List dw} {z k:Int} (h:0<=k):colR n rs z (k+1).toNat=if(rs.getD k.toNat default).name=n then(rs.getD k.toNat default).color else colR n rs z k.toNat:=by
 rw[show(k+1).toNat=k.toNat+1 from o_];rfl
def Q6 {n:ByteArray} {l:List bu} {k:Int} (h:0<=k):colS n l (k+1).toNat=colR n (l.getD k.toNat default).rules (colS n l k.toNat) (l.getD k.toNat default).rules.length:=by
 rw[show(k+1).toNat=k.toNat+1 from o_];rfl
def Wx {n:ByteArray} {rs:List dw} {z k:Int} (h:k<0):colR n rs z (k+1).toNat=z:=by
 rw[show(k+1).toNat=0 from o_];rfl
def WU {n:ByteArray} {l:List bu} {k:Int} (h:k<0):colS n l (k+1).toNat=0:=by
 rw[show(k+1).toNat=0 from o_];rfl
def V2 {n:ByteArray} {l:List bu}:colS n l ((l.length:Int)-1+1).toNat=colorOf l n:=by
 rw[show((l.length:Int)-1+1).toNat=l.length from o_];rfl
def Nu {n:ByteArray} {rs:List dw} {z:Int}:colR n rs z ((rs.length:Int)-1+1).toNat=colR n rs z rs.length:=by
 simp
abbrev Fg:Fct:=⟨[.v (.sl .sheet),.v (.el .str)],[.el .int],λ(x:gj)=>szL DJ x.1<=1000000000000,λ(x:gj)=>(colorOf x.1 x.2.1,())⟩
abbrev EU (l:(List bu)) (n:ByteArray):LInv:=⟨[⟨.s,5,true,.el .int⟩],λ_ (x:B_)=>-1<=x.1/\x.1<l.length/\colS n l (x.1+1).toNat=colorOf l n,λ(x:B_)=>(x.1+1).toNat⟩
abbrev EX (l:(List bu)) (n:ByteArray):LInv:=⟨[⟨.s,6,true,.el .int⟩,⟨.s,5,true,.el .int⟩],λ(z x:ah)=>x.2.1=z.2.1/\0<=x.2.1/\x.2.1<l.length/\-1<=x.1/\x.1<(l.getD x.2.1.toNat default).rules.length/\colR n (l.getD x.2.1.toNat default).rules (colS n l x.2.1.toNat) (x.1+1).toNat=colorOf l n,λ(x:ah)=>(x.1+1).toNat⟩
def Ale:=AnM.a Fg<|Fct.p (KP [0,1,4,5,6] [11,22,35]) (λ⟨l,n,_⟩=>λ|2=>some (EU l n)|5=>some (EX l n)|_=>none) AnM.2 func426 (by
 rintro⟨(l:List bu),(n:ByteArray),_⟩ hp;refine ho (lpx (EU l n) (wr ((l.length:Int)-(1:Int)),()) λ(y1:B_) bk1=>.br (decide (y1.1>=0)) (.ob (inB y1.1 l.length)<|lpx (EX l n) (wr ((↑(l.getD y1.1.toNat default).rules.length:Int)-(1:Int)),(y1.1,())) λ(y4:ah) bk4=>let M_:=inB y4.2.1 l.length;let E_:=l.getD y4.2.1.toNat default;let L_:=E_.rules.getD y4.1.toNat default;let H_:=0<=y4.1/\y4.1<(E_.rules.length:Int);.br (decide (y4.1>=0)) (.ob M_<|.ob H_<|.br (L_.name.toList==n.toList) (.ob M_<|.ob H_<|.lf Fg (L_.color,())) (.re (l)<|.re (Value.string n)<|.bk (bk4 (wr (y4.1-(1:Int)),(y4.2.1,()))))) (.re (l)<|.re (Value.string n)<|.bk (bk1 (wr (y4.2.1-(1:Int)),())))) (.lf Fg ((0:Int),()))) ?_;refine Am ?_ λ(y1:B_) i1=>Aa (λh2=>Ab ?_ λ_=>Am ?_ λ(y4:ah) i4=>Aa (λh5=>Ab ?_ λ_=>Ab ?_ λ_=>Aa (λh8=>Ab ?_ λ_=>Ab ?_ λ_=>lfY ?_) λh8=>Ai<|Ai<|AR ?_) λh5=>Ai<|Ai<|AR ?_) (λh2=>lfY ?_)<;>(have hl:=Ac DJ l;have hx:∀ i,i<l.length->(l.getD i default).rules.length<=1000000000000:=λi h=>by have:=C6 DJ (l:=l) h;have h2:=Ac OE (l.getD i default).rules;have h3:szL DJ l<=1000000000000:=hp;simp only[DJ] at this;omega)<;>(try simp only[std,Nat.reduceAdd] at *)<;>(first|trivial|omega|(rw[Ah o_];exact⟨o_,o_,V2⟩)|(obtain⟨a1,a2,a3⟩:=i1))<;>(first|trivial|omega|(have:=hx y1.1.toNat o_;rw[Ah o_];first|exact⟨o_,o_,o_,o_,o_,by rw[Nu,<-Q6 o_];exact a3⟩|exact⟨o_,o_,o_,o_,by rw[Nu,<-Q6 o_];exact a3⟩)|(rw[WU o_] at a3;exact a3)|(obtain⟨b0,b1,b2,b3,b4,b5⟩:=i4))<;>(first|(have:=hx y4.2.1.toNat o_)|skip)<;>(first|(rw[Q9 o_,I_ ‹_›] at b5;exact b5)|(rw[Q9 o_,J_ ‹_›] at b5;rw[Ah o_,show(y4.1-1+1).toNat=y4.1.toNat from o_];exact⟨⟨o_,o_,o_,o_,o_,b5⟩,o_⟩)|(rw[Wx o_] at b5;rw[Ah o_,show(y4.2.1-1+1).toNat=y4.2.1.toNat from o_];exact⟨⟨o_,o_,b5⟩,o_⟩)|omega|skip))
abbrev EB (l:(List bu)) (n:ByteArray):LInv:=⟨[⟨.s,5,true,.el .int⟩],λ_ (x:B_)=>-1<=x.1/\x.1<l.length/\colS n l (x.1+1).toNat=colorOf l n,λ(x:B_)=>(x.1+1).toNat⟩
abbrev Ey (l:(List bu)) (n:ByteArray):LInv:=⟨[⟨.s,6,true,.el .int⟩,⟨.s,5,true,.el .int⟩],λ(z x:ah)=>x.2.1=z.2.1/\0<=x.2.1/\x.2.1<l.length/\-1<=x.1/\x.1<(l.getD x.2.1.toNat default).rules.length/\colR n (l.getD x.2.1.toNat default).rules (colS n l x.2.1.toNat) (x.1+1).toNat=colorOf l n,λ(x:ah)=>(x.1+1).toNat⟩
def Ann:=Ale.a Fg<|Fct.p (KP [0,1,4,5,6] [11,22,35]) (λ⟨l,n,_⟩=>λ|2=>some (EB l n)|5=>some (Ey l n)|_=>none) Ale.2 func441 (by
 rintro⟨(l:List bu),(n:ByteArray),_⟩ hp;refine ho (lpx (EB l n) (wr ((l.length:Int)-(1:Int)),()) λ(y1:B_) bk1=>.br (decide (y1.1>=0)) (.ob (inB y1.1 l.length)<|lpx (Ey l n) (wr ((↑(l.getD y1.1.toNat default).rules.length:Int)-(1:Int)),(y1.1,())) λ(y4:ah) bk4=>let M_:=inB y4.2.1 l.length;let E_:=l.getD y4.2.1.toNat default;let L_:=E_.rules.getD y4.1.toNat default;let H_:=0<=y4.1/\y4.1<(E_.rules.length:Int);.br (decide (y4.1>=0)) (.ob M_<|.ob H_<|.br (L_.name.toList==n.toList) (.ob M_<|.ob H_<|.lf Fg (L_.color,())) (.re (l)<|.re (Value.string n)<|.bk (bk4 (wr (y4.1-(1:Int)),(y4.2.1,()))))) (.re (l)<|.re (Value.string n)<|.bk (bk1 (wr (y4.2.1-(1:Int)),())))) (.lf Fg ((0:Int),()))) ?_;refine Am ?_ λ(y1:B_) i1=>Aa (λh2=>Ab ?_ λ_=>Am ?_ λ(y4:ah) i4=>Aa (λh5=>Ab ?_ λ_=>Ab ?_ λ_=>Aa (λh8=>Ab ?_ λ_=>Ab ?_ λ_=>lfY ?_) λh8=>Ai<|Ai<|AR ?_) λh5=>Ai<|Ai<|AR ?_) (λh2=>lfY ?_)<;>(have hl:=Ac DJ l;have hx:∀ i,i<l.length->(l.getD i default).rules.length<=1000000000000:=λi h=>by have:=C6 DJ (l:=l) h;have h2:=Ac OE (l.getD i default).rules;have h3:szL DJ l<=1000000000000:=hp;simp only[DJ] at this;omega)<;>(try simp only[std,Nat.reduceAdd] at *)<;>(first|trivial|omega|(rw[Ah o_];exact⟨o_,o_,V2⟩)|(obtain⟨a1,a2,a3⟩:=i1))<;>(first|trivial|omega|(have:=hx y1.1.toNat o_;rw[Ah o_];first|exact⟨o_,o_,o_,o_,o_,by rw[Nu,<-Q6 o_];exact a3⟩|exact⟨o_,o_,o_,o_,by rw[Nu,<-Q6 o_];exact a3⟩)|(rw[WU o_] at a3;exact a3)|(obtain⟨b0,b1,b2,b3,b4,b5⟩:=i4))<;>(first|(have:=hx y4.2.1.toNat o_)|skip)<;>(first|(rw[Q9 o_,I_ ‹_›] at b5;exact b5)|(rw[Q9 o_,J_ ‹_›] at b5;rw[Ah o_,show(y4.1-1+1).toNat=y4.1.toNat from o_];exact⟨⟨o_,o_,o_,o_,o_,b5⟩,o_⟩)|(rw[Wx o_] at b5;rw[Ah o_,show(y4.2.1-1+1).toNat=y4.2.1.toNat from o_];exact⟨⟨o_,o_,b5⟩,o_⟩)|omega|skip))
def words8:List ByteArray:=[⟨#[]⟩,⟨#[119,114,105,116,101,32]⟩,⟨#[97,100,100,32]⟩,⟨#[99,111,117,110,116,32]⟩,⟨#[108,111,111,107,32]⟩,⟨#[115,97,121,32]⟩]
abbrev Ud:Fct:=⟨[],[.sl .str],λ(x:Unit)=>True,λ(x:Unit)=>(words8,())⟩
def AjT:=Ann.a Ud<|Fct.o [0] Ann.2 func423 (by
 rintro⟨_⟩ hp;exact hg (.lf Ud ([(⟨#[]⟩:ByteArray),(⟨#[119,114,105,116,101,32]⟩:ByteArray),(⟨#[97,100,100,32]⟩:ByteArray),(⟨#[99,111,117,110,116,32]⟩:ByteArray),(⟨#[108,111,111,107,32]⟩:ByteArray),(⟨#[115,97,121,32]⟩:ByteArray)],())) (@words8.eq_1))
def line8L (s:ByteArray):List ByteArray->Int->bI×Bool
 | [],_=>(default,false)
 | w::l,op=>if w.size<=s.size/\s.extract 0 w.size=w then(⟨op,s.extract w.size s.size⟩,if op=1\/op=5 then decide (s.size-w.size<=60) else isName (s.extract w.size s.size)) else line8L s l (op+1)
def AaJ {s:ByteArray} {l:List ByteArray} {i:Nat} {k:Int} (h:i<l.length):line8L s (l.drop i) k=if(l.getD i default).size<=s.size/\s.extract 0 (l.getD i default).size=l.getD i default then(⟨k,s.extract (l.getD i default).size s.size⟩,if k=1\/k=5 then decide (s.size-(l.getD i default).size<=60) else isName (s.extract (l.getD i default).size s.size)) else line8L s (l.drop (i+1)) (k+1):=by rw[HO h];rfl
def XJ {s:ByteArray} {l:List ByteArray} {i:Nat} {k:Int} (h:l.length<=i):line8L s (l.drop i) k=(default,false):=by rw[bR h];rfl
def line8 (s:ByteArray):bI×Bool:=line8L s (words8.drop 1) 1
def Mv:words8.length=6:=rfl
abbrev Qk:Fct:=⟨[.v (.el .str)],[.el .line,.el .bool],λ(x:K_)=>x.1.size<=1000000000000,λ(x:K_)=>((line8 x.1).1,(line8 x.1).2,())⟩
abbrev Gb (s:ByteArray):LInv:=⟨[⟨.s,5,true,.el .int⟩,⟨.b,2,true,.el .line⟩,⟨.s,4,true,.sl .str⟩],λ(z x:eX)=>((1<=x.1/\x.1<=6/\line8L s (words8.drop x.1.toNat) x.1=line8 s)/\x.2.1=z.2.1)/\x.2.2.1=z.2.2.1,λ(x:eX)=>(6-x.1).toNat⟩
def AnD:=AjT.a Qk<|Fct.p (KP [0,2,3,4,5,6,7,8] [13,32]) (λ⟨s,_⟩=>lv [(3,Gb s)]) AjT.2 func393 (by
 rintro⟨(s:ByteArray),_⟩ hp;refine ho (.cl Ud () λz2=>lpx (Gb s) ((1:Int),(default,(z2.1,()))) λ(y1:eX) bk1=>let bL:=y1.2.2.1.getD y1.1.toNat default;let U_:Out:=.re (Value.string s)<|.bk (bk1 (w1 y1.1,(y1.2.1,(y1.2.2.1,()))));let E_:=(bL.size:Int);let aU:=(0:Int)<=E_/\E_<=(s.size:Int);let aC:=decide ((↑(s.extract E_.toNat s.size).size:Int)<=60);let aj:Out:=.lf Qk (⟨y1.1,s.extract E_.toNat s.size⟩,true,());let Q_:Out:=.lf Qk (⟨y1.1,s.extract E_.toNat s.size⟩,false,());let M_:Out:=.cl Bv (s.extract E_.toNat s.size,()) λz3=>.lf Qk (⟨y1.1,s.extract E_.toNat s.size⟩,z3.1,());let aF:Out:=.br (!y1.1==5) M_ Q_;let L_:Out:=.br aC aj (.br (!true) M_ Q_);let H_:Out:=.br (y1.1==5) (.br aC aj aF) aF;.br (decide (y1.1<(y1.2.2.1.length:Int))) (.ix y1.1 y1.2.2.1.length<|.br (decide ((s.size:Int)>=E_)) (.ob aU<|.br ((s.extract 0 E_.toNat).toList==bL.toList) (.ob aU<|.br (y1.1==1) (.lp (Bool) (True) (λx=>True) λy10=>.br (y10) (.lp (Bool) (True) (λx=>True) λy12=>.br (y12) L_ L_) L_) (.lp (Bool) (True) (λx=>True) λy23=>.br (y23) (.lp (Bool) (True) (λx=>True) λy25=>.br (y25) H_ H_) H_)) U_) U_) (.lf Qk (default,false,()))) ?_;refine Ae trivial λ_=>(Am ?_ λ(y1:eX) i1=>Aa (λh2=>Ei ?_ λo3 o4=>Aa (λh5=>Ab ?_ λ_=>Aa (λh7=>Ab ?_ λ_=>Aa (λh9=>KW trivial λy10 i10=>Aa (λh11=>KW trivial λy12 i12=>Aa (λh13=>Aa (λh14=>lfY ?_) λh14=>Aa (λh15=>Ae ?_ λ_=>lfY ?_) λh15=>lfY ?_) λh13=>Aa (λh17=>lfY ?_) λh17=>Aa (λh18=>Ae ?_ λ_=>lfY ?_) λh18=>lfY ?_) λh11=>Aa (λh20=>lfY ?_) λh20=>Aa (λh21=>Ae ?_ λ_=>lfY ?_) λh21=>lfY ?_) λh9=>KW trivial λy23 i23=>Aa (λh24=>KW trivial λy25 i25=>Aa (λh26=>Aa (λh27=>Aa (λh28=>lfY ?_) λh28=>Aa (λh29=>Ae ?_ λ_=>lfY ?_) λh29=>lfY ?_) λh27=>Aa (λh31=>Ae ?_ λ_=>lfY ?_) λh31=>lfY ?_) λh26=>Aa (λh33=>Aa (λh34=>lfY ?_) λh34=>Aa (λh35=>Ae ?_ λ_=>lfY ?_) λh35=>lfY ?_) λh33=>Aa (λh37=>Ae ?_ λ_=>lfY ?_) λh37=>lfY ?_) λh24=>Aa (λh39=>Aa (λh40=>lfY ?_) λh40=>Aa (λh41=>Ae ?_ λ_=>lfY ?_) λh41=>lfY ?_) λh39=>Aa (λh43=>Ae ?_ λ_=>lfY ?_) λh43=>lfY ?_) λh7=>Ai<|AR ?_) λh5=>Ai<|AR ?_) λh2=>lfY ?_)<;>(have k2:∀ a,(s.extract a s.size).size=s.size-a:=λa=>by rw[cH];omega)<;>(try simp only[std,Nat.reduceAdd] at *)<;>(first|exact⟨o_,o_,rfl⟩|(obtain⟨⟨⟨a1,a2,a3⟩,a4⟩,a5⟩:=i1;simp only[a5,Mv,fw,k2] at *))<;>(first|trivial|omega|skip)<;>(try have e:=AaJ (s:=s) (l:=words8) (i:=y1.1.toNat) (k:=y1.1) (by rw[Mv];omega);rw[a3] at e)<;>(first|(rw[J_ (by rintro⟨q1,q2⟩;first|omega|exact absurd q2 ‹_›)] at e;rw[Ah o_,show(y1.1+1).toNat=y1.1.toNat+1 from o_];exact⟨⟨⟨⟨o_,o_,e.symm⟩,a4⟩,trivial⟩,o_⟩)|skip)<;>(try have e:=XJ (s:=s) (l:=words8) (i:=y1.1.toNat) (k:=y1.1) (by rw[Mv];omega);rw[a3] at e;rw[e];exact⟨by first|assumption|rfl,rfl⟩)<;>rw[I_ (by exact⟨o_,‹_›⟩)] at e<;>(rw[e];refine⟨rfl,?_⟩)<;>(first|rw[I_ o_]|rw[J_ o_])<;>(first|rfl|(rw[ee o_])|(rw[decide_eq_false o_])))
def lines8 (l:List ByteArray):List bI:=l.map λw=>(line8 w).1
def allOk8 (l:List ByteArray):Bool:=l.all λw=>(line8 w).2
def parseScript (s:ByteArray):List bI×Bool:=if s=⟨#[]⟩ then([],true) else if(spl 59 s).length<=6/\allOk8 (spl 59 s)=true then(lines8 (spl 59 s),true) else([],false)
abbrev Be:Fct:=⟨[.v (.el .str)],[.sl .line,.el .bool],λ(x:K_)=>x.1.size<=4200000000,λ(x:K_)=>((parseScript x.1).1,(parseScript x.1).2,())⟩
def OY {l:List ByteArray} {i:Nat} (h:i<l.length):lines8 (l.take (i+1))=lines8 (l.take i)++[(line8 (l.getD i default)).1]/\allOk8 (l.take (i+1))=(allOk8 (l.take i)&&(line8 (l.getD i default)).2):=by
 rw[S_ h];exact⟨by simp[lines8],by simp[allOk8]⟩
def SV {l:List ByteArray} {i:Nat} (h:i<l.length) (h2:(line8 (l.getD i default)).2=false):allOk8 l=false:=by
 unfold allOk8;grind
abbrev CJ (s:ByteArray):LInv:=⟨[⟨.s,4,true,.sl .line⟩,⟨.s,6,true,.el .int⟩,⟨.s,5,true,.sl .str⟩],λ(z x:cT)=>(0<=x.2.1/\x.2.1<=(spl 59 s).length/\(x.2.1=0\/(spl 59 s).length<=6)/\x.1=lines8 ((spl 59 s).take x.2.1.toNat)/\allOk8 ((spl 59 s).take x.2.1.toNat)=true)/\x.2.2.1=z.2.2.1,λ(x:cT)=>(spl 59 s).length-x.2.1.toNat⟩
def An5:=AnD.a Be<|Fct.p (KP [0,2,3,4,5,6,7,8] [11,18,35]) (λ⟨s,_⟩=>lv [(6,CJ s)]) AnD.2 func341 (by
 rintro⟨(s:ByteArray),_⟩ hp;refine ho (.br (s.toList==(⟨#[]⟩:ByteArray).toList) (.lf Be ([],true,())) (.cl Fi (s,(59:Int),()) λz2=>lpx (CJ s) ([],((0:Int),(z2.1,()))) λ(y3:cT) bk3=>.br (decide (y3.2.1<(y3.2.2.1.length:Int))) (.ix y3.2.1 y3.2.2.1.length<|.cl Qk (y3.2.2.1.getD y3.2.1.toNat default,()) λz3=>.br (!z3.2.1) (.lf Be ([],false,())) (.br (decide ((y3.2.2.1.length:Int)>6)) (.lf Be ([],false,())) (.ap (y3.1.length+[z3.1].length) 24<|.re (Value.string s)<|.bk (bk3 (y3.1++[z3.1],(w1 y3.2.1,(y3.2.2.1,()))))))) (.lf Be (y3.1,true,())))) ?_;refine Aa (λh1=>lfY ?_) λh1=>Ae ?_ λ_=>Am ?_ λ(y3:cT) i3=>Aa (λh4=>Ei ?_ λo5 o6=>Ae ?_ λ_=>Aa (λh8=>lfY ?_) λh8=>Aa (λh9=>lfY ?_) λh9=>Ed ?_ λ_=>Ai<|AR ?_) λh4=>lfY ?_;all_goals
  have hk:=DU 59 s;have hm:∀ i,i<(spl 59 s).length->((spl 59 s).getD i default).size<=s.size:=λi h=>KX (AH h)
  have hp1:s.size<=4200000000:=hp;try simp only[std,Nat.reduceAdd,show UInt8.ofNat (Int.toNat 59)=59 from rfl] at *
 all_goals (first|trivial|omega|(unfold parseScript;rw[I_ ‹_›];exact⟨rfl,rfl⟩)|exact⟨o_,o_,.inl (by trivial),rfl,rfl⟩|exact⟨o_,by decide,by decide⟩|(obtain⟨⟨a1,a2,a3,a4,a5⟩,a6⟩:=i3;simp only[a6] at *))<;>(try have hl:y3.1.length<=(spl 59 s).length:=by rw[a4,lines8,eh,bS];omega)<;>(first|trivial|omega|(have:=hm y3.2.1.toNat o_;omega)|skip)<;>(first|(unfold parseScript;rw[J_ ‹_›,J_ (by rintro⟨q1,q2⟩;rw[SV (i:=y3.2.1.toNat) o_ ‹_›] at q2;cases q2)];exact⟨rfl,rfl⟩)|(unfold parseScript;rw[J_ ‹_›,J_ o_];exact⟨rfl,rfl⟩)|skip)<;>(first|(rw[ct (l:=spl 59 s) (i:=y3.2.1.toNat) o_] at a4 a5;unfold parseScript;rw[J_ ‹_›,I_ (by exact⟨o_,a5⟩)];exact⟨a4,rfl⟩)|skip)<;>(first|(have e:=OY (l:=spl 59 s) (i:=y3.2.1.toNat) o_;rw[Ah o_,show(y3.2.1+1).toNat=y3.2.1.toNat+1 from o_];refine⟨⟨⟨o_,o_,.inr o_,by rw[e.1,a4],by rw[e.2,a5];assumption⟩,by first|assumption|trivial⟩,o_⟩)|skip))
def mk8 (x:UInt8):UInt8:=if x=91 then 60 else if x=93 then 62 else x
def markup (s:ByteArray):ByteArray:=ofL ((toL s).map mk8)
abbrev enc8 (x:UInt8):Value:=.int .u8 (x.toNat:Int)
abbrev Ou:Fct:=⟨[aT],[rT],λx=>x.1.size<=1000000000000,λx=>(markup x.1,())⟩
open Go.RowKit Go.Lib Go.Sort in
def OG (w:World) (e:TypeId) (s:ByteArray):Holds enc8 (bytesWorld w e s) w.heap.size 0 s.data:=by
 intro j hj;have hn:=bytesWorld_at_new w e s;refine⟨?_,?_⟩
 ·simp only[World.cell?,cx,hn];have:(Lib.bytesCells w e s)[j]? = some (.int .u8 s.data[j].toNat):=by unfold Lib.bytesCells;grind
  grind
 ·have h2:j<(bytesCells w e s).size:=by unfold Lib.bytesCells;rw[Array.size_append,Array.size_map];omega
  simp[World.frozen?,hn];omega
open Go.RowKit Go.Lib Go.Sort in
def JY {s:ByteArray} {dk:Array UInt8} {i:Nat} {y:UInt8} (hi:i<s.size) (hs:dk.size=s.data.size) (hd:∀ t,t<s.size->dk[t]! = if t<i then mk8 s.data[t]! else s.data[t]!) (hy:y=mk8 s.data[i]!) :
 (dk.setIfInBounds i y).size=s.data.size/\∀ t,t<s.size->(dk.setIfInBounds i y)[t]! = if t<i+1 then mk8 s.data[t]! else s.data[t]!:=by
 have hsz:s.data.size=s.size:=rfl;refine⟨by rw[Array.size_setIfInBounds];exact hs,λt ht=>?_⟩;by_cases h:t=i
 ·subst h;rw[getElem!_set_same _ _ _ o_,I_ o_,hy]
 ·rw[getElem!_pos _ t (by rw[Array.size_setIfInBounds];omega),Array.getElem_setIfInBounds o_,J_ λe=>h e.symm,<-getElem!_pos dk t o_,hd t ht];by_cases h2:t<i
  ·rw[I_ h2,I_ o_]
  ·rw[J_ h2,J_ o_]
open Go.RowKit Go.Lib Go.Sort in
def Wi {s:ByteArray} {dk:Array UInt8} {i:Nat} (hi:i<s.size) (hs:dk.size=s.data.size) (hd:∀ t,t<s.size->dk[t]! = if t<i then mk8 s.data[t]! else s.data[t]!) (hy:s.data[i]! = mk8 s.data[i]!) :
 ∀ t,t<s.size->dk[t]! = if t<i+1 then mk8 s.data[t]! else s.data[t]!:=by
 intro t ht;rw[hd t ht];by_cases h:t=i
 ·subst h;rw[J_ (Nat.lt_irrefl _),I_ o_,<-hy]
 ·by_cases h2:t<i
  ·rw[I_ h2,I_ o_]
  ·rw[J_ h2,J_ o_]
def AhU {x:UInt8} (h:((x.toNat:Int)==91)=true):60=mk8 x:=by
 have:x=91:=by apply UInt8.toNat_inj.1;have:=da.1 h;exact Int.ofNat.inj this
 subst this;rfl
def Ah4 {x:UInt8} (h:((x.toNat:Int)==91)=false) (h2:((x.toNat:Int)==93)=true):62=mk8 x:=by
 have:x=93:=by apply UInt8.toNat_inj.1;have:=da.1 h2;exact Int.ofNat.inj this
 subst this;rfl
def Aiq {x:UInt8} (h:((x.toNat:Int)==91)=false) (h2:((x.toNat:Int)==93)=false):x=mk8 x:=by
 unfold mk8;rw[J_ (by rintro rfl;cases h),J_ (by rintro rfl;cases h2)]
open Go.RowKit Go.Lib Go.Sort in
def U9 (s:ByteArray) (hs1:s.size<=1000000000000) (w:World):Calls Tryz.prog 424 #[.string s] w λe w'=>e=.returned (.string (markup s))/\∃ dk,dk.size=s.data.size/\w'=putRow enc8 (bytesWorld w 5 s) w.heap.size 0 dk:=by
 have hcv:=λ(w:World)=>Lib.run_convert_string_bytes w 9 22 5 s Tryz.underlying9 Tryz.underlying22 Tryz.underlying5
 have hH:=OG w 5 s;have hsz:s.data.size=s.size:=rfl
 go_enter func424,Tryz.ntmps424
 go_wp2
 generalize hW1:bytesWorld w 5 s=W1 at *
 go_loopw [4] (λvi wr=>∃ (i:Nat) (dk:Array UInt8),vi=.int .i64 i/\i<=s.size/\dk.size=s.data.size/\wr=putRow enc8 W1 w.heap.size 0 dk/\(∀ t,t<s.size->dk[t]! = if t<i then mk8 s.data[t]! else s.data[t]!)) (λvi _=>s.size+1-(RowKit.intOf vi).toNat)
 case atStart=>exact⟨0,s.data,rfl,o_,rfl,(putRow_self _ _ _ _ _ hH).symm,λt ht=>by rw[J_ o_]⟩
 case round=>
  obtain⟨i,dk,rfl,hi,hsk,hw,hd⟩:=hrel;by_cases h1:i<s.size
  ·have hcd:=cell?_putRow enc8 W1 w.heap.size 0 s.data dk hH hsk i o_;have hfz:wr.frozen? ⟨w.heap.size,0+i,none⟩=false:=by rw[hw,frozen?_putRow];exact(hH i o_).2
   rw[<-hw,cx] at hcd;rw[cx] at hfz;have hxi:=hd i h1;rw[J_ (Nat.lt_irrefl _)] at hxi;rw[hxi] at hcd;generalize hx:s.data[i]! = x at *
   dsimp only[enc8] at hcd;have hst:=λy=>putRow_set enc8 W1 w.heap.size 0 dk i y o_
   rw[cx] at hst;have hW:Hid (wr=putRow enc8 W1 w.heap.size 0 dk):=hw;have hD:Hid (∀ t,t<s.size->dk[t]! = if t<i then mk8 s.data[t]! else s.data[t]!):=hd;have hS:Hid (∀ y,(putRow enc8 W1 w.heap.size 0 dk).setCell ⟨w.heap.size,i,none⟩ (enc8 y)=putRow enc8 W1 w.heap.size 0 (dk.setIfInBounds i y)):=hst;clear hw hd hst hH hxi
   go_wp2
   case roundEnd=>
    exact⟨⟨i+1,dk.setIfInBounds i 60,rfl,h1,(JY h1 hsk hD.out (by rw[hx];exact AhU ‹_›)).1,by rw[hW.out];exact hS.out 60,(JY h1 hsk hD.out (by rw[hx];exact AhU ‹_›)).2⟩,by simp only[RowKit.intOf];omega⟩
   case roundEnd=>
    exact⟨⟨i+1,dk.setIfInBounds i 62,rfl,h1,(JY h1 hsk hD.out (by rw[hx];exact Ah4 ‹_› ‹_›)).1,by rw[hW.out];exact hS.out 62,(JY h1 hsk hD.out (by rw[hx];exact Ah4 ‹_› ‹_›)).2⟩,by simp only[RowKit.intOf];omega⟩
   case roundEnd=>
    exact⟨⟨i+1,dk,rfl,h1,hsk,hW.out,Wi h1 hsk hD.out (by rw[hx];exact Aiq ‹_› ‹_›)⟩,by simp only[RowKit.intOf];omega⟩
  ·have hie:i=s.size:=o_
   subst hie;have hback:=run_convert_bytes_back (P:=Tryz.prog) wr 22 9 5 ⟨w.heap.size,0,none⟩ (grownCap w s.size 0 5) dk.toList Tryz.underlying22 Tryz.underlying5 Tryz.underlying9 (λj hj=>by
    have hj2:j<dk.size:=by simpa using hj
    have:=cell?_putRow enc8 W1 w.heap.size 0 s.data dk hH hsk j hj2;rw[<-hw] at this;rw[Addr.add_lit,this];simp[getElem!_pos dk j hj2])
   have hl:dk.toList.length=s.size:=by simpa using hsk
   rw[hl,hw] at hback;have hfin:markup s=⟨dk.toList.toArray⟩:=by
    unfold markup ofL;congr 2;apply List.ext_getElem (by simp[Br,hl]);intro k h2 h3;have hk:k<s.size:=o_
    have:=hd k hk;rw[I_ hk,getElem!_pos dk k o_,getElem!_pos s.data k hk] at this;simp[toL,this]
   have hfin:Hid _:=hfin;have hw:Hid _:=hw
   go_wp2
   go_ret
   exact⟨by rw[hfin.out];simp,dk,hsk,by rw[hW1];first|done|exact hw.out⟩
open Go.RowKit Go.Lib Go.Sort in
def Xa (w:World) (e:TypeId) (s:ByteArray) (f:Array Value->Array Value):mapBlock (bytesWorld w e s) w.heap.size f=grow (w.drewN 1) #[onCells f (.cells (bytesCells w e s) e ((bytesCells w e s).size,(bytesCells w e s).size+1))]:=by
 have hn:=bytesWorld_at_new w e s;have hz:=bytesWorld_size w e s;have ho:=bytesWorld_at_old w e s;have hh:(bytesWorld w e s).heap.modify w.heap.size (onCells f)=w.heap ++ #[onCells f (.cells (bytesCells w e s) e ((bytesCells w e s).size,(bytesCells w e s).size+1))]:=by grind
 unfold mapBlock grow;rw[hh];rfl
open Go.RowKit Go.Lib Go.Sort in
def Z9:Ou.ok Tryz.prog 424 :=
 WB rfl rfl λx hx w ow hB=>(U9 x.1 hx w).mono λe w' ⟨a,dk,hs,b⟩=>⟨a,1,_,b.trans (Xa w 5 x.1 _)⟩
def Anc:=An5.a Ou<|Z9
def runLine (b:af) (l:List bu) (x:bI):af×ByteArray×ByteArray :=
 if x.op=1 then(b,markup x.text,⟨#[]⟩)
 else if x.op=2 then((if 1<=b.bi.length/\b.bi.length<=39/\isName x.text=true then⟨b.bi++[⟨x.text,⟨#[]⟩,0,[]⟩],b.bl⟩ else b),⟨#[]⟩,⟨#[]⟩)
 else if x.op=3 then(b,⟨#[]⟩,⟨#[99,111,117,110,116,32]⟩++x.text++⟨#[32]⟩++Kt (countName x.text b.bi))
 else if x.op=4 then(b,⟨#[]⟩,⟨#[108,111,111,107,32]⟩++x.text++⟨#[32]⟩++Kt (colorOf l x.text))
 else if x.op=5 then(b,⟨#[]⟩,⟨#[115,97,121,32]⟩++x.text)
 else(b,⟨#[]⟩,⟨#[]⟩)
def okSheets (l:List bu):Prop:=∀ s,s∈l->∀ r,r∈s.rules->-9223372036854775808<=r.color/\r.color<=9223372036854775807
def AaL {n:ByteArray} {rs:List dw} {z:Int} (hz : -9223372036854775808<=z/\z<=9223372036854775807) (h:∀ r,r∈rs->-9223372036854775808<=r.color/\r.color<=9223372036854775807):∀ m,m<=rs.length->-9223372036854775808<=colR n rs z m/\colR n rs z m<=9223372036854775807
 | 0,_=>hz
 | m+1,hm=>by
  rw[colR];split
  ·grind
  ·exact AaL hz h m o_
def AaA {n:ByteArray} {l:List bu} (h:okSheets l):∀ m,m<=l.length->-9223372036854775808<=colS n l m/\colS n l m<=9223372036854775807
 | 0,_=>by rw[colS];decide
 | m+1,hm=>by rw[colS];exact AaL (AaA h m o_) (h _ (AH o_)) _ (aa _)
def PJ {l:List bu} (h:okSheets l) (n:ByteArray) : -9223372036854775808<=colorOf l n/\colorOf l n<=9223372036854775807:=AaA h _ (aa _)
def M2 (n:ByteArray) (l:List cO):0<=countName n l/\countName n l<=l.length:=by unfold countName;have:=O_ (λx:cO=>decide (x.name=n)) l;omega
abbrev Bl:Fct:=⟨[.v (.el .ba),.v (.sl .sheet),.v (.el .line)],[.el .ba,.el .str,.el .str],λ(x:gk)=>szBuilder x.1<=100000000000/\szL DJ x.2.1<=100000000000/\x.2.2.1.text.size<=1000000000/\okSheets x.2.1,λ(x:gk)=>((runLine x.1 x.2.1 x.2.2.1).1,(runLine x.1 x.2.1 x.2.2.1).2.1,(runLine x.1 x.2.1 x.2.2.1).2.2,())⟩
theorem q7 (b:af) (l:List bu) (x:bI) (hp:Bl.pre (b,l,x,())):Out.holds (Bl.ctr (b,l,x,())).post (let Q_:=(⟨#[115,97,121,32]⟩:ByteArray);let M_:=(⟨#[]⟩:ByteArray);let L_:=(⟨#[32]⟩:ByteArray);let H_:=(⟨#[108,111,111,107,32]⟩:ByteArray);let E_:=(⟨#[99,111,117,110,116,32]⟩:ByteArray);.cl Cl (b,()) λz2=>let U_:Out:=.lf Bl (z2.1,M_,M_,());.br (x.op==1) (.cl Ou (x.text,()) λz3=>.lf Bl (z2.1,z3.1,M_,())) (.br (x.op==2) (.cl Au ((b.bi.length:Int),(1:Int),(39:Int),()) λz4=>.br (z4.1) (.cl Bv (x.text,()) λz5=>.br (z5.1) (.ob (IA (z2.1.bi.length+[(⟨x.text,M_,(0:Int),[]⟩:cO)].length) 64)<|.lf Bl (⟨z2.1.bi++[(⟨x.text,M_,(0:Int),[]⟩:cO)],z2.1.bl⟩,M_,M_,())) U_) U_) (.br (x.op==3) (.lp (Bool) (True) (λx=>True) λy10=>.br (y10) (.lp (Bool) (True) (λx=>True) λy12=>.br (y12) (.lp (Bool) (True) (λx=>True) λy14=>.br (y14) (.lp (Bool) (True) (λx=>True) λy16=>.br (y16) (.lp (Bool) (True) (λx=>True) λy18=>.br (y18) (.ob (sameSize E_ x.text)<|.ob (sameSize (E_++x.text) L_)<|.cl DG (b,x.text,()) λ(z6:B_)=>.cl A2 (z6.1,()) λz7=>.ob (sameSize (E_++x.text++L_) z7.1)<|.lf Bl (z2.1,M_,E_++x.text++L_++z7.1,())) (.ob (sameSize E_ x.text)<|.ob (sameSize (E_++x.text) L_)<|.cl DG (b,x.text,()) λ(z8:B_)=>.cl A2 (z8.1,()) λz9=>.ob (sameSize (E_++x.text++L_) z9.1)<|.lf Bl (z2.1,M_,E_++x.text++L_++z9.1,()))) (.ob (sameSize E_ x.text)<|.cl DG (b,x.text,()) λ(z10:B_)=>.cl A2 (z10.1,()) λz11=>.ob (sameSize (E_++x.text) L_)<|.ob (sameSize (E_++x.text++L_) z11.1)<|.lf Bl (z2.1,M_,E_++x.text++L_++z11.1,()))) (.cl DG (b,x.text,()) λ(z12:B_)=>.cl A2 (z12.1,()) λz13=>.ob (sameSize E_ x.text)<|.ob (sameSize (E_++x.text) L_)<|.ob (sameSize (E_++x.text++L_) z13.1)<|.lf Bl (z2.1,M_,E_++x.text++L_++z13.1,()))) (.cl DG (b,x.text,()) λ(z14:B_)=>.cl A2 (z14.1,()) λz15=>.ob (sameSize E_ x.text)<|.ob (sameSize (E_++x.text) L_)<|.ob (sameSize (E_++x.text++L_) z15.1)<|.lf Bl (z2.1,M_,E_++x.text++L_++z15.1,()))) (.cl DG (b,x.text,()) λ(z16:B_)=>.cl A2 (z16.1,()) λz17=>.ob (sameSize E_ x.text)<|.ob (sameSize (E_++x.text) L_)<|.ob (sameSize (E_++x.text++L_) z17.1)<|.lf Bl (z2.1,M_,E_++x.text++L_++z17.1,()))) (.br (x.op==4) (.lp (Bool) (True) (λx=>True) λy51=>.br (y51) (.lp (Bool) (True) (λx=>True) λy53=>.br (y53) (.lp (Bool) (True) (λx=>True) λy55=>.br (y55) (.lp (Bool) (True) (λx=>True) λy57=>.br (y57) (.lp (Bool) (True) (λx=>True) λy59=>.br (y59) (.ob (sameSize H_ x.text)<|.ob (sameSize (H_++x.text) L_)<|.cl Fg (l,x.text,()) λ(z18:B_)=>.cl A2 (z18.1,()) λz19=>.ob (sameSize (H_++x.text++L_) z19.1)<|.lf Bl (z2.1,M_,H_++x.text++L_++z19.1,())) (.ob (sameSize H_ x.text)<|.ob (sameSize (H_++x.text) L_)<|.cl Fg (l,x.text,()) λ(z20:B_)=>.cl A2 (z20.1,()) λz21=>.ob (sameSize (H_++x.text++L_) z21.1)<|.lf Bl (z2.1,M_,H_++x.text++L_++z21.1,()))) (.ob (sameSize H_ x.text)<|.cl Fg (l,x.text,()) λ(z22:B_)=>.cl A2 (z22.1,()) λz23=>.ob (sameSize (H_++x.text) L_)<|.ob (sameSize (H_++x.text++L_) z23.1)<|.lf Bl (z2.1,M_,H_++x.text++L_++z23.1,()))) (.cl Fg (l,x.text,()) λ(z24:B_)=>.cl A2 (z24.1,()) λz25=>.ob (sameSize H_ x.text)<|.ob (sameSize (H_++x.text) L_)<|.ob (sameSize (H_++x.text++L_) z25.1)<|.lf Bl (z2.1,M_,H_++x.text++L_++z25.1,()))) (.cl Fg (l,x.text,()) λ(z26:B_)=>.cl A2 (z26.1,()) λz27=>.ob (sameSize H_ x.text)<|.ob (sameSize (H_++x.text) L_)<|.ob (sameSize (H_++x.text++L_) z27.1)<|.lf Bl (z2.1,M_,H_++x.text++L_++z27.1,()))) (.cl Fg (l,x.text,()) λ(z28:B_)=>.cl A2 (z28.1,()) λz29=>.ob (sameSize H_ x.text)<|.ob (sameSize (H_++x.text) L_)<|.ob (sameSize (H_++x.text++L_) z29.1)<|.lf Bl (z2.1,M_,H_++x.text++L_++z29.1,()))) (.br (x.op==5) (.lp (Bool) (True) (λx=>True) λy92=>.br (y92) (.lp (Bool) (True) (λx=>True) λy94=>.br (y94) (.lp (Bool) (True) (λx=>True) λy96=>.br (y96) (.ob (sameSize Q_ x.text)<|.lf Bl (z2.1,M_,Q_++x.text,())) (.ob (sameSize Q_ x.text)<|.lf Bl (z2.1,M_,Q_++x.text,()))) (.ob (sameSize Q_ x.text)<|.lf Bl (z2.1,M_,Q_++x.text,()))) (.ob (sameSize Q_ x.text)<|.lf Bl (z2.1,M_,Q_++x.text,()))) U_))))):=by
 refine Ae ?_ λ_=>(Aa (λh2=>Ae ?_ λ_=>lfY ?_) λh2=>Aa (λh4=>Ae trivial λ_=>Aa (λh5=>Ae ?_ λ_=>Aa (λh7=>Ab ?_ λ_=>lfY ?_) λh7=>lfY ?_) λh5=>lfY ?_) λh4=>Aa (λh9=>KW trivial λy10 i10=>Aa (λh11=>KW trivial λy12 i12=>Aa (λh13=>KW trivial λy14 i14=>Aa (λh15=>KW trivial λy16 i16=>Aa (λh17=>KW trivial λy18 i18=>Aa (λh19=>Ab ?_ λ_=>Ab ?_ λ_=>Ae ?_ λ_=>Ae ?_ λ_=>Ab ?_ λ_=>lfY ?_) λh19=>Ab ?_ λ_=>Ab ?_ λ_=>Ae ?_ λ_=>Ae ?_ λ_=>Ab ?_ λ_=>lfY ?_) λh17=>Ab ?_ λ_=>Ae ?_ λ_=>Ae ?_ λ_=>Ab ?_ λ_=>Ab ?_ λ_=>lfY ?_) λh15=>Ae ?_ λ_=>Ae ?_ λ_=>Ab ?_ λ_=>Ab ?_ λ_=>Ab ?_ λ_=>lfY ?_) λh13=>Ae ?_ λ_=>Ae ?_ λ_=>Ab ?_ λ_=>Ab ?_ λ_=>Ab ?_ λ_=>lfY ?_) λh11=>Ae ?_ λ_=>Ae ?_ λ_=>Ab ?_ λ_=>Ab ?_ λ_=>Ab ?_ λ_=>lfY ?_) λh9=>Aa (λh50=>KW trivial λy51 i51=>Aa (λh52=>KW trivial λy53 i53=>Aa (λh54=>KW trivial λy55 i55=>Aa (λh56=>KW trivial λy57 i57=>Aa (λh58=>KW trivial λy59 i59=>Aa (λh60=>Ab ?_ λ_=>Ab ?_ λ_=>Ae ?_ λ_=>Ae ?_ λ_=>Ab ?_ λ_=>lfY ?_) λh60=>Ab ?_ λ_=>Ab ?_ λ_=>Ae ?_ λ_=>Ae ?_ λ_=>Ab ?_ λ_=>lfY ?_) λh58=>Ab ?_ λ_=>Ae ?_ λ_=>Ae ?_ λ_=>Ab ?_ λ_=>Ab ?_ λ_=>lfY ?_) λh56=>Ae ?_ λ_=>Ae ?_ λ_=>Ab ?_ λ_=>Ab ?_ λ_=>Ab ?_ λ_=>lfY ?_) λh54=>Ae ?_ λ_=>Ae ?_ λ_=>Ab ?_ λ_=>Ab ?_ λ_=>Ab ?_ λ_=>lfY ?_) λh52=>Ae ?_ λ_=>Ae ?_ λ_=>Ab ?_ λ_=>Ab ?_ λ_=>Ab ?_ λ_=>lfY ?_) λh50=>Aa (λh91=>KW trivial λy92 i92=>Aa (λh93=>KW trivial λy94 i94=>Aa (λh95=>KW trivial λy96 i96=>Aa (λh97=>Ab ?_ λ_=>lfY ?_) λh97=>Ab ?_ λ_=>lfY ?_) λh95=>Ab ?_ λ_=>lfY ?_) λh93=>Ab ?_ λ_=>lfY ?_) λh91=>lfY ?_)<;>(have hl:=Ac AM b.bi;have hb:szL AM b.bi<=szBuilder b:=by simp only[szBuilder];omega)<;>(have hc:=M2 x.text b.bi;have hx:=PJ hp.2.2.2 x.text;have hf:=λ(n:Int) (h0 : -9223372036854775808<=n) (h1:n<=9223372036854775807)=>NZ h0 h1)<;>(try simp only[std,Nat.reduceAdd,runLine,inRange,sameSize,aQ] at *)<;>(try simp(disch:=omega) only[FS,A_] at *)<;>(try simp(disch:=omega) only[I_,J_])<;>(first|trivial|omega|grind[FS,A_,HO,G_,F_,maxLen,runLine,inRange,sameSize,ByteArray.size_append])
def Anp:=Anc.a Bl<|Fct.o (KP [1,3,5,6,7,8,9,13] [14,20,30,40,53,66]) Anc.2 func394 (by
 rintro⟨(b:af),(l:List bu),(x:bI),_⟩ hp;exact ho _ (q7 b l x hp))
def runLines (l:List bu):List bI->af->ByteArray->List ByteArray->af×ByteArray×List ByteArray
 | [],b,w,g=>(b,w,g)
 | x::r,b,w,g=>runLines l r (runLine b l x).1 (w++(runLine b l x).2.1) (if(runLine b l x).2.2=⟨#[]⟩ then g else g++[(runLine b l x).2.2])
theorem bK {l:List bu} {r:List bI} {i:Nat} {b:af} {w:ByteArray} {g:List ByteArray} (h:i<r.length):runLines l (r.drop i) b w g=runLines l (r.drop (i+1)) (runLine b l (r.getD i default)).1 (w++(runLine b l (r.getD i default)).2.1) (if(runLine b l (r.getD i default)).2.2=⟨#[]⟩ then g else g++[(runLine b l (r.getD i default)).2.2]):=by rw[HO h];rfl
theorem bF {l:List bu} {r:List bI} {i:Nat} {b:af} {w:ByteArray} {g:List ByteArray} (h:r.length<=i):runLines l (r.drop i) b w g=(b,w,g):=by rw[bR h];rfl
def LZ (b:af) (l:List bu) (x:bI):szBuilder (runLine b l x).1<=szBuilder b+x.text.size+1/\(runLine b l x).2.1.size<=x.text.size:=by
 have h0:ByteArray.size ⟨#[]⟩=0:=rfl;have h1:(markup x.text).size=x.text.size:=by unfold markup;rw[HW,eh,Br]
 have h3:szL BW []=0:=rfl;unfold runLine;repeat' split
 all_goals simp only[h0,h1,szBuilder,Ek,AM,h3]<;>omega
def runScript (b:af) (l:List bu) (r:List bI):af×ByteArray×List ByteArray:=runLines l r b ⟨#[]⟩ []
abbrev Gu:Fct:=⟨[.v (.el .ba),.v (.sl .sheet),.v (.sl .line)],[.el .ba,.el .str,.sl .str],λ(x:gm)=>szBuilder x.1<=50000000000/\szL DJ x.2.1<=100000000000/\szL CH x.2.2.1<=1000000000/\okSheets x.2.1,λ(x:gm)=>((runScript x.1 x.2.1 x.2.2.1).1,(runScript x.1 x.2.1 x.2.2.1).2.1,(runScript x.1 x.2.1 x.2.2.1).2.2,())⟩
abbrev Dy (b:af) (l:(List bu)) (r:(List bI)):LInv:=⟨[⟨.b,9,true,.el .ba⟩,⟨.s,10,true,.el .str⟩,⟨.s,11,true,.sl .str⟩,⟨.s,12,true,.el .int⟩,⟨.b,6,true,.el .ba⟩],λ(z x:cU)=>(0<=x.2.2.2.1/\x.2.2.2.1<=r.length/\szBuilder x.1+szL CH (r.drop x.2.2.2.1.toNat)<=szBuilder b+szL CH r/\x.2.1.size+szL CH (r.drop x.2.2.2.1.toNat)<=szL CH r/\x.2.2.1.length<=x.2.2.2.1/\runLines l (r.drop x.2.2.2.1.toNat) x.1 x.2.1 x.2.2.1=runScript b l r)/\x.2.2.2.2.1=z.2.2.2.2.1,λ(x:cU)=>r.length-x.2.2.2.1.toNat⟩
def AlW:=Anp.a Gu<|Fct.p (KP [1,2,3,6,7,8,9,10,11,12,13,14,15] [22,41]) (λ⟨b,l,r,_⟩=>lv [(5,Dy b l r)]) Anp.2 func342 (by
 rintro⟨(b:af),(l:List bu),(r:List bI),_⟩ hp;refine ho (.cl Cl (b,()) λz2=>lpx (Dy b l r) (z2.1,((⟨#[]⟩:ByteArray),([],((0:Int),(default,()))))) λ(y2:cU) bk2=>.br (decide (y2.2.2.2.1<(r.length:Int))) (.ob (inB y2.2.2.2.1 r.length)<|.cl Bl (y2.1,l,r.getD y2.2.2.2.1.toNat default,()) λz3=>.ob (sameSize y2.2.1 z3.2.1)<|.br (!z3.2.2.1.toList==(⟨#[]⟩:ByteArray).toList) (.ap (y2.2.2.1.length+[z3.2.2.1].length) 16<|.re (l)<|.re (r)<|.re (Value.string (⟨#[]⟩:ByteArray))<|.bk (bk2 (z3.1,(y2.2.1++z3.2.1,(y2.2.2.1++[z3.2.2.1],(w1 y2.2.2.2.1,(y2.2.2.2.2.1,()))))))) (.re (l)<|.re (r)<|.re (Value.string (⟨#[]⟩:ByteArray))<|.bk (bk2 (z3.1,(y2.2.1++z3.2.1,(y2.2.2.1,(w1 y2.2.2.2.1,(y2.2.2.2.2.1,())))))))) (.lf Gu (y2.1,y2.2.1,y2.2.2.1,()))) ?_;refine Ae ?_ λ_=>(Am ?_ λ(y2:cU) i2=>Aa (λh3=>Ab ?_ λ_=>Ae ?_ λ_=>Ab ?_ λ_=>Aa (λh7=>Ed ?_ λ_=>Ai<|Ai<|Ai<|AR ?_) λh7=>Ai<|Ai<|Ai<|AR ?_) λh3=>lfY ?_)<;>(have hr:=Ac CH r;have hx:∀ i,i<r.length->szL CH (r.drop i)=(r.getD i default).text.size+1+szL CH (r.drop (i+1)):=λi h=>O1 CH h)<;>have hs:=λbb x=>LZ bb l x<;>(have hrs:runLines l r b ⟨#[]⟩ []=runScript b l r:=rfl;try simp only[std,Nat.reduceAdd,bK,bF,sameSize,aQ] at *)<;>(try simp(disch:=omega) only[FS,A_] at *)<;>(try simp(disch:=omega) only[I_,J_])<;>(first|trivial|omega|grind[FS,A_,HO,G_,F_,maxLen,bK,bF,sameSize,ByteArray.size_append]))
def decV:List UInt8->Int->Int
 | [],n=>n
 | x::l,n=>decV l (10*n+((x.toNat:Int)-48))
def digit (x:UInt8):Bool:=decide (48<=(x.toNat:Int)/\(x.toNat:Int)<=57)
def parseInt (s:ByteArray):Int×Bool:=if 1<=s.size/\s.size<=13/\(toL s).all digit=true/\decV (toL s) 0<=1000000000000/\Kt (decV (toL s) 0)=s then(decV (toL s) 0,true) else(0,false)
abbrev HH:Fct:=⟨[.v (.el .str)],[.el .int,.el .bool],λ(x:K_)=>x.1.size<=1000000000000,λ(x:K_)=>((parseInt x.1).1,(parseInt x.1).2,())⟩
def Ny {s:ByteArray} {i:Nat} (h:i<s.size):(toL s).take (i+1)=(toL s).take i++[s.data.getD i 0]:=by
 have h2:i<s.data.size:=h;have e:s.data.getD i 0=s.data[i]:=by unfold Array.getD;rw[dif_pos h2];rfl
 rw[List.take_succ_eq_append_getElem (by rw[Br];exact h),e];rfl
def NB:∀ (l:List UInt8) (x:UInt8) (n:Int),decV (l++[x]) n=10*decV l n+((x.toNat:Int)-48)
 | [],x,n=>rfl
 | y::l,x,n=>by rw[dp,decV,decV,NB l]
def Ajd:∀ i:Nat,i<=13->(10:Int) ^ i<=10000000000000:=λi h=>(by decide:∀ i:Fin 14,(10:Int) ^ i.val<=10000000000000) ⟨i,o_⟩
def AbX {s:ByteArray} {i:Nat} (h:i<s.size) (hd:digit (s.data.getD i 0)=false):(toL s).all digit=false:=by
 rw[List.all_eq_false];refine⟨s.data.getD i 0,?_,by rw[hd];decide⟩;have:=gu (l:=toL s) (i:=i+1) (a:=s.data.getD i 0) (by rw[Ny h];simp);exact this
def KG {s:ByteArray} (h:¬ (1<=s.size/\s.size<=13/\(toL s).all digit=true/\decV (toL s) 0<=1000000000000/\Kt (decV (toL s) 0)=s)):0=(parseInt s).1/\false=(parseInt s).2:=by
 unfold parseInt;rw[J_ h];exact⟨rfl,rfl⟩
def SB {s:ByteArray} (h:1<=s.size/\s.size<=13/\(toL s).all digit=true/\decV (toL s) 0<=1000000000000/\Kt (decV (toL s) 0)=s):decV (toL s) 0=(parseInt s).1/\true=(parseInt s).2:=by
 unfold parseInt;rw[I_ h];exact⟨rfl,rfl⟩
def u8_in (x:UInt8):IntKind.i64.wrap (x.toNat:Int)=x.toNat/\(x.toNat:Int)<=255:=by
 have:=x.toNat_lt;exact⟨FS o_ o_,o_⟩
def Aal {x:UInt8} (h:48<=(x.toNat:Int)):IntKind.i64.wrap (IntKind.u8.wrap ((x.toNat:Int)-48))=(x.toNat:Int)-48:=by
 have:=x.toNat_lt;have e:IntKind.u8.wrap ((x.toNat:Int)-48)=(x.toNat:Int)-48:=by show((x.toNat:Int)-48) % 256=_;omega
 rw[e];exact FS o_ o_
abbrev DV (s:ByteArray):LInv:=⟨[⟨.s,4,true,.el .int⟩,⟨.s,5,true,.el .int⟩],λ_ (x:ah)=>0<=x.2.1/\x.2.1<=s.size/\0<=x.1/\x.1<10 ^ x.2.1.toNat/\((toL s).take x.2.1.toNat).all digit=true/\x.1=decV ((toL s).take x.2.1.toNat) 0,λ(x:ah)=>s.size-x.2.1.toNat⟩
def AmD:=AlW.a HH<|Fct.p (KP [0,2,3,4,5] [9,13,21,37]) (λ⟨s,_⟩=>lv [(5,DV s)]) AlW.2 func427 (by
 rintro⟨(s:ByteArray),_⟩ hp;refine ho (let H_:=(s.size:Int);let E_:Out:=.lf HH ((0:Int),false,());.cl Au (H_,(1:Int),(13:Int),()) λz2=>.br (!z2.1) E_ (lpx (DV s) ((0:Int),((0:Int),())) λ(y2:ah) bk2=>let M_:=0<=y2.2.1/\y2.2.1<H_;let L_:=(↑(s.data.getD y2.2.1.toNat 0).toNat:Int);.br (decide (y2.2.1<H_)) (.ob M_<|.cl Au (wr L_,(48:Int),(57:Int),()) λz3=>.br (!z3.1) E_ (.ob M_<|.re (Value.string s)<|.bk (bk2 (wr (wr ((10:Int)*y2.1)+wr (IntKind.u8.wrap (L_-(48:Int)))),(w1 y2.2.1,()))))) (.br (decide (y2.1>1000000000000)) E_ (.cl A2 (y2.1,()) λz4=>.br (!z4.1.toList==s.toList) E_ (.lf HH (y2.1,true,())))))) ?_;refine Ae trivial λ_=>(Aa (λh1=>lfY ?_) λh1=>Am ?_ λ(y2:ah) i2=>Aa (λh3=>Ab ?_ λ_=>Ae trivial λ_=>Aa (λh5=>lfY ?_) λh5=>Ab ?_ λ_=>Ai<|AR ?_) λh3=>Aa (λh8=>lfY ?_) λh8=>Ae ?_ λ_=>Aa (λh10=>lfY ?_) λh10=>lfY ?_)<;>(try simp only[std,Nat.reduceAdd,inRange,u8_in] at *)<;>(try simp only[Z_,ep,aH,ca] at *)<;>(first|(refine KG ?_;omega)|exact⟨o_,o_,o_,by decide,rfl,rfl⟩|(obtain⟨a1,a2,a3,a4,a5,a6⟩:=i2;have hq:=Ajd y2.2.1.toNat o_))<;>(first|omega|skip)<;>(try rw[ct (l:=toL s) (i:=y2.2.1.toNat) (by rw[Br];omega)] at a5 a6)<;>(first|(rw[<-a6];exact⟨o_,o_⟩)|(refine KG ?_;rintro⟨q1,q2,q3,q4,q5⟩;rw[<-a6] at *;first|omega|contradiction)|(rw[a6];exact SB ⟨o_,o_,a5,o_,by rw[<-a6];assumption⟩)|skip)<;>(first|(refine KG ?_;rintro⟨q1,q2,q3,q4,q5⟩;rw[AbX (i:=y2.2.1.toNat) o_ (by unfold digit;simp only[ca];omega)] at q3;cases q3)|skip)<;>rw[Aal o_,Ah (n:=10*y2.1) o_,Ah (n:=y2.2.1+1) o_,Ah o_,show(y2.2.1+1).toNat=y2.2.1.toNat+1 from o_,Ny o_,List.all_append,NB,Int.pow_succ]<;>refine⟨⟨o_,o_,o_,o_,?_,by rw[<-a6]⟩,o_⟩<;>(rw[a5];simp only[List.all_cons,List.all_nil,digit,Bool.and_true,Bool.true_and,aH];omega))
def Ze {b:UInt8}:∀ {l:List UInt8},G7 b l=none->b∉l
 | [],_,h=>by cases h
 | x::l,hc,h=>by
  rw[G7] at hc;split at hc
  ·cases hc
  ·rename_i hx;rcases cp.1 h with e|h
   ·exact hx e.symm
   ·exact Ze (Option.map_eq_none_iff.1 hc) h
def ruleOf (w:ByteArray):Option dw:=match G7 58 (toL w) with
 | none=>none
 | some r=>if isName (ofL r.1)=true/\(parseInt (ofL r.2)).2=true/\1<=(parseInt (ofL r.2)).1/\(parseInt (ofL r.2)).1<=999 then some ⟨ofL r.1,(parseInt (ofL r.2)).1⟩ else none
def parseRules:List ByteArray->List dw->List dw
 | [],acc=>acc
 | w::l,acc=>parseRules l (if acc.length<8 then acc++(ruleOf w).toList else acc)
def Lh {l:List ByteArray} {i:Nat} {acc:List dw} (h:i<l.length):parseRules (l.drop i) acc=parseRules (l.drop (i+1)) (if acc.length<8 then acc++(ruleOf (l.getD i default)).toList else acc):=by rw[HO h];rfl
def Ks {l:List ByteArray} {i:Nat} {acc:List dw} (h:l.length<=i):parseRules (l.drop i) acc=acc:=by rw[bR h];rfl
def JD:∀ {l:List ByteArray} {acc:List dw},¬ acc.length<8->parseRules l acc=acc
 | [],_,_=>rfl
 | w::l,acc,h=>by rw[parseRules,J_ h];exact JD h
def AdE (w:ByteArray):ruleOf w=if(spl 58 w).length=2/\isName ((spl 58 w).getD 0 default)=true/\(parseInt ((spl 58 w).getD 1 default)).2=true/\1<=(parseInt ((spl 58 w).getD 1 default)).1/\(parseInt ((spl 58 w).getD 1 default)).1<=999 then some ⟨(spl 58 w).getD 0 default,(parseInt ((spl 58 w).getD 1 default)).1⟩ else none:=by
 unfold ruleOf;rw[I6];cases h:G7 58 (toL w) with
 | none=>simp
 | some r=>
  obtain⟨p,q⟩:=r;simp only[aw];by_cases hq:(58:UInt8)∈q
  ·have hd:(parseInt (ofL q)).2=false:=by unfold parseInt;rw[J_];rintro⟨q1,q2,q3,_⟩;rw[Mc,bM] at q3;have:=q3 58 hq;cases this
   have hl:(spl 58 (ofL q)).length≠1:=by
    intro hl;rw[I6,Mc] at hl;cases hc:G7 58 q with
    | none=>exact Ze hc hq
    | some r2=>
     rw[hc] at hl;have:=(DU 58 (ofL r2.2)).1;simp_all
   simp_all
  ·have hs:spl 58 (ofL q)=[ofL q]:=by
    rw[I6,Mc];cases hc:G7 58 q with
    | none=>rfl
    | some r2=>exact absurd (No (p:=r2.1) (q:=r2.2) hc) hq
   rw[hs];simp
def parseSheet (s:ByteArray):bu:=⟨parseRules (spl 59 s) []⟩
abbrev GC:Fct:=⟨[.v (.el .str)],[.el .sheet],λ(x:K_)=>x.1.size<=4200000000,λ(x:K_)=>(parseSheet x.1,())⟩
abbrev CW (s:ByteArray):LInv:=⟨[⟨.b,3,true,.el .sheet⟩,⟨.s,5,true,.el .int⟩,⟨.b,2,true,.el .sheet⟩,⟨.s,4,true,.sl .str⟩],λ(z x:cV)=>((0<=x.2.1/\x.2.1<=(spl 59 s).length/\x.1.rules.length<=8/\parseRules ((spl 59 s).drop x.2.1.toNat) x.1.rules=parseRules (spl 59 s) [])/\x.2.2.1=z.2.2.1)/\x.2.2.2.1=z.2.2.2.1,λ(x:cV)=>(spl 59 s).length-x.2.1.toNat⟩
def Alr:=AmD.a GC<|Fct.p (KP [0,2,3,4,5,6,7,8] [21,38,50]) (λ⟨s,_⟩=>lv [(4,CW s)]) AmD.2 func395 (by
 rintro⟨(s:ByteArray),_⟩ hp;refine ho (.cl Fi (s,(59:Int),()) λz2=>lpx (CW s) (default,((0:Int),(default,(z2.1,())))) λ(y2:cV) bk2=>let Q_:Out:=.lf GC (y2.1,());let E_:Out:=.re (Value.string s)<|.bk (bk2 (y2.1,(w1 y2.2.1,(y2.2.2.1,(y2.2.2.2.1,())))));.br (decide (y2.2.1<(y2.2.2.2.1.length:Int))) (.br (decide ((y2.1.rules.length:Int)<8)) (.ix y2.2.1 y2.2.2.2.1.length<|.cl Fi (y2.2.2.2.1.getD y2.2.1.toNat default,(58:Int),()) λz3=>let L_:=(z3.1.length:Int);let H_:=(0:Int)<=(0:Int)/\(0:Int)<L_;.br (L_ != 2) E_ (.ob H_<|.ob (0<z3.1.length)<|.cl Bv (z3.1.getD 0 default,()) λz4=>.br (!z4.1) E_ (.ob ((0:Int)<=(1:Int)/\(1:Int)<L_)<|.ob (1<z3.1.length)<|.cl HH (z3.1.getD 1 default,()) λ(z5:Int×Bool×PUnit)=>let M_:=(⟨z3.1.getD 0 default,z5.1⟩:dw);.br (z5.2.1) (.cl Au (z5.1,(1:Int),(999:Int),()) λz6=>.br (z6.1) (.ob H_<|.ob (0<z3.1.length)<|.ap (y2.1.rules.length+[M_].length) 24<|.re (Value.string s)<|.bk (bk2 ((⟨y2.1.rules++[M_]⟩:bu),(w1 y2.2.1,(y2.2.2.1,(y2.2.2.2.1,())))))) E_) E_))) Q_) Q_) ?_;refine Ae ?_ λ_=>(Am ?_ λ(y2:cV) i2=>Aa (λh3=>Aa (λh4=>Ei ?_ λo5 o6=>Ae ?_ λ_=>Aa (λh8=>Ai<|AR ?_) λh8=>Ab ?_ λ_=>Ab ?_ λ_=>Ae ?_ λ_=>Aa (λh13=>Ai<|AR ?_) λh13=>Ab ?_ λ_=>Ab ?_ λ_=>Ae ?_ λ_=>Aa (λh18=>Ae trivial λ_=>Aa (λh19=>Ab ?_ λ_=>Ab ?_ λ_=>Ed ?_ λ_=>Ai<|AR ?_) λh19=>Ai<|AR ?_) λh18=>Ai<|AR ?_) λh4=>lfY ?_) λh3=>lfY ?_)<;>(have hk:=DU 59 s;have hm:∀ i,i<(spl 59 s).length->((spl 59 s).getD i default).size<=s.size:=λi h=>KX (AH h))<;>(have hp1:s.size<=4200000000:=hp;try simp only[std,Nat.reduceAdd,inRange,show UInt8.ofNat (Int.toNat 59)=59 from rfl,show UInt8.ofNat (Int.toNat 58)=58 from rfl] at *)<;>(first|trivial|omega|exact⟨o_,by decide,by decide⟩|exact⟨o_,o_,by decide,rfl⟩|(obtain⟨⟨⟨a1,a2,a3,a4⟩,a5⟩,a6⟩:=i2;simp only[a6,Z_,ep,aH,ca] at *))<;>(try have hw:=hm y2.2.1.toNat o_)<;>(try have hw0:=Ew 58 ((spl 59 s).getD y2.2.1.toNat default) 0)<;>(try have hw1:=Ew 58 ((spl 59 s).getD y2.2.1.toNat default) 1)<;>(first|trivial|omega|exact⟨o_,by decide,by decide⟩|exact⟨o_,o_⟩|skip)<;>(first|(rw[Ks o_] at a4;show y2.1=parseSheet s;unfold parseSheet;rw[<-a4])|(rw[JD o_] at a4;show y2.1=parseSheet s;unfold parseSheet;rw[<-a4])|skip)<;>have e:=Lh (l:=spl 59 s) (i:=y2.2.1.toNat) (acc:=y2.1.rules) o_<;>rw[a4,I_ o_,AdE] at e<;>rw[Ah o_,show(y2.2.1+1).toNat=y2.2.1.toNat+1 from o_]<;>(first|(rw[J_ (by rintro⟨q1,q2,q3,q4,q5⟩;first|omega|exact absurd (q2.symm.trans (show isName _=false from ‹_›)) (by decide)|exact absurd (q3.symm.trans (show Prod.snd _=false from ‹_›)) (by decide)),Option.toList_none,cF] at e;exact⟨⟨⟨⟨o_,o_,o_,e.symm⟩,‹_›⟩,trivial⟩,o_⟩)|(rw[I_ (by exact⟨o_,‹_›,‹_›,o_,o_⟩),Option.toList_some] at e;exact⟨⟨⟨⟨o_,o_,by rw[al];simp only[aw,aJ];omega,e.symm⟩,‹_›⟩,trivial⟩,o_⟩)|skip))
def openIdx {α:Type} (f:α->Bool):List α->Int->List Int
 | [],_=>[]
 | x::l,k=>if f x then k::openIdx f l (k+1) else openIdx f l (k+1)
theorem ae {α:Type} [Inhabited α] {f:α->Bool} {l:List α} {i:Nat} {k:Int} (h:i<l.length):openIdx f (l.drop i) k=if f (l.getD i default) then k::openIdx f (l.drop (i+1)) (k+1) else openIdx f (l.drop (i+1)) (k+1):=by rw[HO h];rfl
theorem X_ {α:Type} {f:α->Bool} {l:List α} {i:Nat} {k:Int} (h:l.length<=i):openIdx f (l.drop i) k=[]:=by rw[bR h];rfl
def Hq {α:Type} (f:α->Bool):∀ (l:List α) (k:Int) (x:Int),x∈openIdx f l k->k<=x/\x<k+l.length
 | [],k,x,h=>by cases h
 | a::l,k,x,h=>by rw[openIdx] at h;have ih:=Hq f l (k+1) x;grind
def Dn {α:Type} (f:α->Bool):∀ (l:List α) (k:Int),(openIdx f l k).length<=l.length
 | [],k=>aa _
 | a::l,k=>by have:=Dn f l (k+1);rw[openIdx];grind
def openSlots (p:C_):List Int:=openIdx (λs=>!s.done) p.bf 0
def openMods (p:C_):List Int:=openIdx (λm=>!m.done) p.bh 0
abbrev FF:Fct:=⟨[.v (.el .page)],[.sl .int],λ(x:ak)=>x.1.bf.length<=1000000000000,λ(x:ak)=>(openSlots x.1,())⟩
abbrev Dv (p:C_):LInv:=⟨[⟨.s,3,true,.sl .int⟩,⟨.s,4,true,.el .int⟩,⟨.b,1,false,.el .page⟩],λ(z x:bY)=>(0<=x.2.1/\x.2.1<=p.bf.length/\x.1.length<=x.2.1/\x.1++openIdx (λs=>!s.done) (p.bf.drop x.2.1.toNat) x.2.1=openSlots p)/\x.2.2.1=z.2.2.1,λ(x:bY)=>p.bf.length-x.2.1.toNat⟩
def Ajq:=Alr.a FF<|Fct.p (KP [1,2,3,4] [10,19]) (λ⟨p,_⟩=>lv [(3,Dv p)]) Alr.2 func151 (by
 rintro⟨(p:C_),_⟩ hp;refine ho (lpx (Dv p) ([],((0:Int),(p,()))) λ(y1:bY) bk1=>.br (decide (y1.2.1<(y1.2.2.1.bf.length:Int))) (.ob (inB y1.2.1 y1.2.2.1.bf.length)<|.br (!(y1.2.2.1.bf.getD y1.2.1.toNat default).done) (.ap (y1.1.length+[y1.2.1].length) 8<|.bk (bk1 (y1.1++[y1.2.1],(w1 y1.2.1,(y1.2.2.1,()))))) (.bk (bk1 (y1.1,(w1 y1.2.1,(y1.2.2.1,())))))) (.lf FF (y1.1,()))) ?_;refine Am ?_ λ(y1:bY) i1=>Aa (λh2=>Ab ?_ λ_=>Aa (λh4=>Ed ?_ λ_=>AR ?_) λh4=>AR ?_) (λh2=>lfY ?_)<;>(have h0:openIdx (λs:ay=>!s.done) (p.bf.drop 0) 0=openSlots p:=rfl;try simp only[std,Nat.reduceAdd,ae,X_,al,aw,aJ,bB] at *)<;>(try simp(disch:=omega) only[FS,A_] at *)<;>(try simp(disch:=omega) only[I_,J_])<;>(first|trivial|omega|grind[FS,A_,HO,G_,F_,maxLen,ae,X_,List.length_append,List.length_cons,List.length_nil,List.append_assoc]))
abbrev Ds (p:C_):LInv:=⟨[⟨.s,3,true,.sl .int⟩,⟨.s,10,true,.el .int⟩],λ_ (x:an)=>0<=x.2.1/\x.2.1<=p.bf.length/\x.1.length<=x.2.1/\x.1++openIdx (λs=>!s.done) (p.bf.drop x.2.1.toNat) x.2.1=openSlots p,λ(x:an)=>p.bf.length-x.2.1.toNat⟩
def AmB:=Ajq.a FF<|Fct.p (KP [1,2,3,4,5,8,9,10] [11,17]) (λ⟨p,_⟩=>lv [(3,Ds p)]) Ajq.2 func120 (by
 rintro⟨(p:C_),_⟩ hp;refine ho (lpx (Ds p) ([],((0:Int),())) λ(y1:an) bk1=>.br (decide (y1.2.1<(p.bf.length:Int))) (.ob (inB y1.2.1 p.bf.length)<|.br (!(p.bf.getD y1.2.1.toNat default).done) (.ap (y1.1.length+[y1.2.1].length) 8<|.re (p.bf)<|.re (Value.int IntKind.i64 (p.bf.length:Int))<|.bk (bk1 (y1.1++[y1.2.1],(w1 y1.2.1,())))) (.re (p.bf)<|.re (Value.int IntKind.i64 (p.bf.length:Int))<|.bk (bk1 (y1.1,(w1 y1.2.1,()))))) (.lf FF (y1.1,()))) ?_;refine Am ?_ λ(y1:an) i1=>Aa (λh2=>Ab ?_ λ_=>Aa (λh4=>Ed ?_ λ_=>Ai<|Ai<|AR ?_) λh4=>Ai<|Ai<|AR ?_) (λh2=>lfY ?_)<;>(have h0:openIdx (λs:ay=>!s.done) (p.bf.drop 0) 0=openSlots p:=rfl;try simp only[std,Nat.reduceAdd,ae,X_,al,aw,aJ,bB] at *)<;>(try simp(disch:=omega) only[FS,A_] at *)<;>(try simp(disch:=omega) only[I_,J_])<;>(first|trivial|omega|grind[FS,A_,HO,G_,F_,maxLen,ae,X_,List.length_append,List.length_cons,List.length_nil,List.append_assoc]))
abbrev GY:Fct:=⟨[.v (.el .page)],[.sl .int],λ(x:ak)=>x.1.bh.length<=1000000000000,λ(x:ak)=>(openMods x.1,())⟩
abbrev D0 (p:C_):LInv:=⟨[⟨.s,3,true,.sl .int⟩,⟨.s,4,true,.el .int⟩,⟨.b,1,false,.el .page⟩],λ(z x:bY)=>(0<=x.2.1/\x.2.1<=p.bh.length/\x.1.length<=x.2.1/\x.1++openIdx (λm=>!m.done) (p.bh.drop x.2.1.toNat) x.2.1=openMods p)/\x.2.2.1=z.2.2.1,λ(x:bY)=>p.bh.length-x.2.1.toNat⟩
end Go.Proofs.YthpiiodbmkjmjaaGreatDoor.fnThrifty
