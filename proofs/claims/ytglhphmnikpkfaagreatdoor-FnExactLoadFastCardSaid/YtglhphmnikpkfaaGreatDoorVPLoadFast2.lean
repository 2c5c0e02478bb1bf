/-
  Contracts of functions that the law of FnExactLoadFast reaches, part 2.
-/
import Derived.Test.YtglhphmnikpkfaaGreatDoorVPLoadFast1
namespace Go.Proofs.YtglhphmnikpkfaaGreatDoor.fnExactLoadFast
open Go.Proofs.YtglhphmnikpkfaaGreatDoor
open Go.D Go.Proofs.Tryz
set_option maxRecDepth 100000
set_option maxHeartbeats 2000000
set_option linter.defProp false
set_option linter.unusedVariables false
set_option linter.unusedSimpArgs false
def Akg:=Anj.a Dp<|Fct.o (KP [0,3,4,5,6,7,8] [15]) Anj.2 func229 (by
 rintro⟨(l:List Sp_),(a:Sb_),_⟩ hp;refine ho (.cl fCopyGuesses (l,()) λz2=>.cl fFindGuess (l,a,()) λ(z3:Int×PUnit)=>.br (decide (z3.1<0)) (.cl fNotFound () λz4=>.lf Dp (z2.1,z4.1,false,())) (.ob (inB z3.1 z2.1.length)<|.ob (z3.1.toNat<z2.1.length)<|.lt (List Sp_) (z2.1.modify z3.1.toNat λz=>(⟨z.to,z.bd,true⟩:Sp_)) λz5=>.ob (0<=z3.1/\z3.1<(↑(List.length l):Int))<|.lf Dp (z5,(List.getD l z3.1.toNat default).bd,true,()))) ?_;refine Ae ?_ λ_=>(Ae ?_ λ_=>(Ab (λh3=>Ae trivial λ_=>(lfY ?_)) (λh3=>Aa ?_ λ_=>Aa ?_ λ_=>DU (Aa ?_ λ_=>lfY ?_))))
 all_goals
  have hf:=EY (λg:Sp_=>decide (g.to=a)) l 0 o_;try simp only[fCopyGuesses,fFindGuess,fNotFound,Dp,std,Nat.reduceAdd,useGuess,findGuess] at *
  try simp(disch:=omega) only[wrapId',toNat1] at *
  try simp(disch:=omega) only[Qa1,Qa3]
 all_goals first|trivial|omega|grind[wrapId',toNat1,drop_cons,drop_end,good_len,maxLen,useGuess,findGuess,fFindGuess,fCopyGuesses,fNotFound])
def AgS {α:Type} (f:α->Nat) (l:List α):szL f l=(l.map λx=>f x+1).sum:=by
 induction l with
 | nil=>rfl
 | cons x l ih=>
  have h3:szL f (x::l)=f x+1+szL f l:=by simp only[szL,Qc7,List.sum_cons,Qa6];omega
  simp_all
def L2 (b:UInt8) (s:ByteArray):szL Af (spl b s)=s.size+1:=by
 rw[AgS,<-BQ,<-UX b (toL s)];unfold spl;rw[Qg1];congr 1
def Df:Fct:=⟨[.v (.el .str),.v (.el .u8)],[.sl .str],λ(x_:ByteArray×Int×Unit)=>x_.1.size<=1099511627776/\0<=x_.2.1/\x_.2.1<=255,λ(x_:ByteArray×Int×Unit)=>(spl (UInt8.ofNat x_.2.1.toNat) x_.1,())⟩
def MB {s:ByteArray} {i:Nat} {b:Int} (h0:0<=b) (h1:b<=255):((s.data.getD i 0).toNat:Int)=b↔s.data.getD i 0=UInt8.ofNat b.toNat:=by
 constructor
 ·intro h;apply UInt8.toNat_inj.1;rw[UInt8.toNat_ofNat'];omega
 ·intro h;rw[h,UInt8.toNat_ofNat'];omega
abbrev CC (s:ByteArray) (b:Int):LInv:=⟨[⟨.s,5,true,.sl .str⟩,⟨.s,6,true,.el .int⟩,⟨.s,7,true,.el .int⟩],λ_ (x_:(List ByteArray)×Int×Int×Unit)=>0<=x_.2.2.1/\x_.2.2.1<=s.size+1/\0<=x_.2.1/\x_.2.1<=x_.2.2.1/\x_.1.length<=x_.2.2.1/\x_.1++KA (UInt8.ofNat b.toNat) s x_.2.1.toNat x_.2.2.1.toNat=spl (UInt8.ofNat b.toNat) s,λ(x_:(List ByteArray)×Int×Int×Unit)=>(s.size+1-x_.2.2.1).toNat⟩
def Alo:=Akg.a Df<|Fct.p (KP [0,1,4,5,6,7] [12,25]) (λ⟨s,b,_⟩=>lv [(4,CC s b)]) Akg.2 func143 (by
 rintro⟨(s:ByteArray),(b:Int),_⟩ hp;refine ho (let q3_:=Value.string s=Value.string s;let q2_:=(s.size:Int);let q1_:=Value.int IntKind.u8 b=Value.int IntKind.u8 b;lpx (CC s b) ([],((0:Int),((0:Int),()))) λ(y1:List ByteArray×Int×Int×PUnit) bk1=>let q0_:Out:=.ob (0<=y1.2.1/\y1.2.1<=y1.2.2.1/\y1.2.2.1<=q2_)<|.ob (True)<|.ob (Br (y1.1.length+[s.extract y1.2.1.toNat y1.2.2.1.toNat].length) 16)<|.ob q3_<|.ob q1_<|.ob (bk1 (y1.1++[s.extract y1.2.1.toNat y1.2.2.1.toNat],(w1 y1.2.2.1,(w1 y1.2.2.1,()))))<|.ok;.br (decide (y1.2.2.1<=q2_)) (.br (y1.2.2.1==q2_) q0_ (.ob (0<=y1.2.2.1/\y1.2.2.1<q2_)<|.br ((↑(s.data.getD y1.2.2.1.toNat 0).toNat:Int)==b) q0_ (.ob q3_<|.ob q1_<|.ob (bk1 (y1.1,(y1.2.1,(w1 y1.2.2.1,()))))<|.ok))) (.lf Df (y1.1,()))) ?_;repeat' first|(guard_target =~ Out.holds _ _;first|refine Ai (li:=CC s b) ?_ λ(y1:List ByteArray×Int×Int×PUnit) i1=>?_|refine lfY ?_|refine Ab (λ_=>?_) λ_=>?_|refine Aa ?_ λ_=>?_)|exact trivial
 all_goals obtain⟨hp1,hp2,hp3⟩:=hp
 all_goals
  try obtain⟨a1,a2,a3,a4,a5,a6⟩:=i1
  try obtain⟨a1,a2,a3,a4,a5,a6⟩:=i2
  try obtain⟨a1,a2,a3,a4,a5,a6⟩:=i3
  try simp only[CC,Df,std,Nat.reduceAdd,Qa4,Qa6,Qb7,MB hp2 hp3] at *
  try simp(disch:=omega) only[wrapId',toNat1] at *
 all_goals first|trivial|omega|exact⟨o_,o_,o_,o_,o_,VA _ _⟩|skip
 all_goals first|(refine⟨⟨o_,o_,o_,o_,o_,?_⟩,o_⟩;rw[VS _ o_] at a6;rw[Rk _ o_,Qd3];exact a6)|(refine⟨⟨o_,o_,o_,o_,o_,?_⟩,o_⟩;rw[Yh o_ ‹_›] at a6;rw[Qb4];exact a6)|(refine⟨⟨o_,o_,o_,o_,o_,?_⟩,o_⟩;rw[WC o_ o_ ‹_›] at a6;exact a6)|(rw[Rk _ o_,Qd3] at a6;exact a6)|skip)
def polCand (s:ByteArray):Si_:=⟨true,(spl 32 ((spl 59 s).getD 0 default)).drop 1,(spl 32 ((spl 59 s).getD 1 default)).drop 1,(spl 32 ((spl 59 s).getD 2 default)).drop 1,if 3<(spl 59 s).length/\6<((spl 59 s).getD 3 default).size then((spl 59 s).getD 3 default).extract 6 ((spl 59 s).getD 3 default).size else⟨#[]⟩⟩
def parsePolicy (s:ByteArray):Si_×Bool:=if s=⟨#[]⟩ then(default,true) else if 3<=(spl 59 s).length/\formatPolicy (polCand s)=s then(polCand s,true) else(default,false)
def Em (b:UInt8) (s:ByteArray) (k:Nat):((spl b s).getD k default).size<=s.size:=by
 by_cases h:k<(spl b s).length
 ·exact IY (A7 h)
 ·rw[Qb2,List.getElem?_eq_none o_];exact Nat.zero_le _
def Ro {s n:ByteArray} (hn:n.size<=s.size):szPolicy ⟨true,(spl 32 ((spl 59 s).getD 0 default)).drop 1,(spl 32 ((spl 59 s).getD 1 default)).drop 1,(spl 32 ((spl 59 s).getD 2 default)).drop 1,n⟩<=4*(s.size+1):=by
 have h0:=Em 59 s 0;have h1:=Em 59 s 1;have h2:=Em 59 s 2;have d0:=PT Af (spl 32 ((spl 59 s).getD 0 default)) 1;have d1:=PT Af (spl 32 ((spl 59 s).getD 1 default)) 1;have d2:=PT Af (spl 32 ((spl 59 s).getD 2 default)) 1;rw[L2] at d0 d1 d2;simp only[szPolicy];omega
def fParsePolicy:Fct:=⟨[.v (.el .str)],[.el .bj,.el .bool],λ(x_:ByteArray×Unit)=>x_.1.size<=200000000,λ(x_:ByteArray×Unit)=>((parsePolicy x_.1).1,(parsePolicy x_.1).2,())⟩
def AkG:=Alo.a fParsePolicy<|Fct.o (KP [0,2,3,4,5] [7,13,40,49]) Alo.2 func104 (by
 rintro⟨(s:ByteArray),_⟩ hp;refine ho (let q11_:=({ data := #[]:ByteArray });let q1_:Out:=.leaf (.tup [(true,[vb (false),.nl,.nl,.nl,vs q11_]),(false,[vb (false)])]) [] [];.br (ByteArray.toList s=={ data := #[]:ByteArray }.toList) (.leaf (.tup [(true,[vb (false),.nl,.nl,.nl,vs q11_]),(false,[vb (true)])]) [] []) (.ob (Df.pre (s,(59:Int),()))<|.lt (List ByteArray×PUnit) (Df.fn (s,(59:Int),())) λz2=>let q12_:=(3:Nat)<z2.fst.length;let q6_:=(z2.fst.length:Int);let q10_:=(0:Int)<=(3:Int)/\(3:Int)<q6_;let q5_:=z2.fst.getD (3:Nat) default;.br (decide (q6_<(3:Int))) q1_ (.ob ((0:Int)<=(0:Int)/\(0:Int)<q6_)<|.ob ((0:Nat)<z2.fst.length)<|.ob (Df.pre (z2.fst.getD (0:Nat) default,(32:Int),()))<|.lt (List ByteArray×PUnit) (Df.fn (z2.fst.getD (0:Nat) default,(32:Int),())) λz3=>let q2_:=z3.fst.length-(1:Nat);let q7_:=(1:Nat)+q2_<=z3.fst.length;.ob ((0:Int)<=(1:Int)/\(1:Int)<=(z3.fst.length:Int))<|.ob ((0:Int)<=(1:Int)/\(1:Int)<q6_)<|.ob ((1:Nat)<z2.fst.length)<|.ob (Df.pre (z2.fst.getD (1:Nat) default,(32:Int),()))<|.lt (List ByteArray×PUnit) (Df.fn (z2.fst.getD (1:Nat) default,(32:Int),())) λz4=>let q3_:=z4.fst.length-(1:Nat);let q8_:=(1:Nat)+q3_<=z4.fst.length;.ob ((0:Int)<=(1:Int)/\(1:Int)<=(z4.fst.length:Int))<|.ob ((0:Int)<=(2:Int)/\(2:Int)<q6_)<|.ob ((2:Nat)<z2.fst.length)<|.ob (Df.pre (z2.fst.getD (2:Nat) default,(32:Int),()))<|.lt (List ByteArray×PUnit) (Df.fn (z2.fst.getD (2:Nat) default,(32:Int),())) λz5=>let q4_:=z5.fst.length-(1:Nat);let q9_:=(1:Nat)+q4_<=z5.fst.length;let q0_:Out:=.ob q7_<|.ob q8_<|.ob q9_<|.ob (AH.pre ({ set_:=true,bp:=cut z3.fst (1:Nat) q2_,styles:=cut z4.fst (1:Nat) q3_,images:=cut z5.fst (1:Nat) q4_,nonce:={ data := #[]:ByteArray }:Si_ },()))<|.lt (ByteArray×PUnit) (AH.fn ({ set_:=true,bp:=cut z3.fst (1:Nat) q2_,styles:=cut z4.fst (1:Nat) q3_,images:=cut z5.fst (1:Nat) q4_,nonce:={ data := #[]:ByteArray }:Si_ },())) λz7=>.br (!z7.fst.toList==ByteArray.toList s) q1_ (.ob q7_<|.ob q8_<|.ob q9_<|.leaf (mkR fParsePolicy.rs (⟨true,cut z3.fst (1:Nat) q2_,cut z4.fst (1:Nat) q3_,cut z5.fst (1:Nat) q4_,{ data := #[]:ByteArray }⟩,true,())) [] []);.ob ((0:Int)<=(1:Int)/\(1:Int)<=(z5.fst.length:Int))<|.br (decide (q6_>(3:Int))) (.ob q10_<|.ob q12_<|.br (decide ((q5_.size:Int)>(6:Int))) (.ob q10_<|.ob q12_<|.ob ((0:Int)<=(6:Int)/\(6:Int)<=(q5_.size:Int))<|.ob q7_<|.ob q8_<|.ob q9_<|.ob (AH.pre ({ set_:=true,bp:=cut z3.fst (1:Nat) q2_,styles:=cut z4.fst (1:Nat) q3_,images:=cut z5.fst (1:Nat) q4_,nonce:=q5_.extract (6:Nat) q5_.size:Si_ },()))<|.lt (ByteArray×PUnit) (AH.fn ({ set_:=true,bp:=cut z3.fst (1:Nat) q2_,styles:=cut z4.fst (1:Nat) q3_,images:=cut z5.fst (1:Nat) q4_,nonce:=q5_.extract (6:Nat) q5_.size:Si_ },())) λz6=>.br (!z6.fst.toList==ByteArray.toList s) q1_ (.ob q7_<|.ob q8_<|.ob q9_<|.leaf (mkR fParsePolicy.rs (⟨true,cut z3.fst (1:Nat) q2_,cut z4.fst (1:Nat) q3_,cut z5.fst (1:Nat) q4_,q5_.extract (6:Nat) q5_.size⟩,true,())) [] [])) q0_) q0_))) ?_;refine Ab (λh1=>Fct.leafZ (default,true,()) (by repeat' first|exact rfl|exact trivial|refine And.intro ?_ ?_) ?_) (λh1=>Aa ?_ λ_=>DU (Ab (λh3=>Fct.leafZ (default,false,()) (by repeat' first|exact rfl|exact trivial|refine And.intro ?_ ?_) ?_) (λh3=>Aa ?_ λ_=>Aa ?_ λ_=>Aa ?_ λ_=>DU (Aa ?_ λ_=>Aa ?_ λ_=>Aa ?_ λ_=>Aa ?_ λ_=>DU (Aa ?_ λ_=>Aa ?_ λ_=>Aa ?_ λ_=>Aa ?_ λ_=>DU (Aa ?_ λ_=>Ab (λh16=>Aa ?_ λ_=>Aa ?_ λ_=>Ab (λh19=>Aa ?_ λ_=>Aa ?_ λ_=>Aa ?_ λ_=>Aa ?_ λ_=>Aa ?_ λ_=>Aa ?_ λ_=>Aa ?_ λ_=>DU (Ab (λh27=>Fct.leafZ (default,false,()) (by repeat' first|exact rfl|exact trivial|refine And.intro ?_ ?_) ?_) (λh27=>Aa ?_ λ_=>Aa ?_ λ_=>Aa ?_ λ_=>Fct.leafY ?_))) (λh19=>Aa ?_ λ_=>Aa ?_ λ_=>Aa ?_ λ_=>Aa ?_ λ_=>DU (Ab (λh35=>Fct.leafZ (default,false,()) (by repeat' first|exact rfl|exact trivial|refine And.intro ?_ ?_) ?_) (λh35=>Aa ?_ λ_=>Aa ?_ λ_=>Aa ?_ λ_=>Fct.leafY ?_)))) (λh16=>Aa ?_ λ_=>Aa ?_ λ_=>Aa ?_ λ_=>Aa ?_ λ_=>DU (Ab (λh43=>Fct.leafZ (default,false,()) (by repeat' first|exact rfl|exact trivial|refine And.intro ?_ ?_) ?_) (λh43=>Aa ?_ λ_=>Aa ?_ λ_=>Aa ?_ λ_=>Fct.leafY ?_)))))))));all_goals
  try simp only[Hv] at *
  try simp only[AH,fParsePolicy,Df,std,Nat.reduceAdd,Zw] at *
  try simp only[show UInt8.ofNat (Int.toNat 59)=59 from rfl,show UInt8.ofNat (Int.toNat 32)=32 from rfl] at *
 all_goals
  have g0:=Em 59 s 0;have g1:=Em 59 s 1;have g2:=Em 59 s 2;have g3:=Em 59 s 3;have k0:=Eh 32 ((spl 59 s).getD 0 default);have k1:=Eh 32 ((spl 59 s).getD 1 default);have k2:=Eh 32 ((spl 59 s).getD 2 default)
 all_goals first|trivial|omega|(with_reducible refine Qd8 (Ro (Nat.zero_le _)) ?_;omega)|(with_reducible refine Qd8 (Ro ?_) ?_;(rw[Qc1];omega);omega)|skip
 all_goals first|(simp only[parsePolicy];rw[Qa1 ‹_›];exact⟨rfl,rfl⟩)|(simp only[parsePolicy];rw[Qa3 ‹_›,Qa3 o_];exact⟨rfl,rfl⟩)|(simp only[parsePolicy,polCand];grind)|skip)
def isResponse (x:Sd_):Bool:=inRange x.status 100 599&&(inRange x.kind 1 5&&(decide (x.body.size<=400)&&(inRange x.age 0 1000&&(parsePolicy x.bj).2)))
def fIsResponse:Fct:=⟨[.v (.el .bd)],[.el .bool],λ(x_:Sd_×Unit)=>x_.1.bj.size<=200000000,λ(x_:Sd_×Unit)=>(isResponse x_.1,())⟩
def AlW:=AkG.a fIsResponse<|Fct.o [1,2,4] AkG.2 func105 (by
 rintro⟨(x:Sd_),_⟩ hp;refine ho (.cl fParsePolicy (x.bj,()) λz2=>.cl fInRange (x.status,(100:Int),(599:Int),()) λz3=>.br (z3.1) (.cl fInRange (x.kind,(1:Int),(5:Int),()) λz4=>.br (z4.1) (.br (decide ((x.body.size:Int)<=400)) (.cl fInRange (x.age,(0:Int),(1000:Int),()) λz5=>.br (z5.1) (.lf fIsResponse (z2.2.1,())) (.lf fIsResponse (false,()))) (.lf fIsResponse (false,()))) (.lf fIsResponse (false,()))) (.lf fIsResponse (false,()))) ?_;repeat' first|(guard_target =~ Out.holds _ _;first|refine lfY ?_|refine Ab (λ_=>?_) λ_=>?_|refine Ae ?_ λ_=>?_)|exact trivial
 all_goals
  try simp only[fInRange,fIsResponse,fParsePolicy,std,Nat.reduceAdd,isResponse] at *
  try simp(disch:=omega) only[wrapId',toNat1] at *
  try simp(disch:=omega) only[Qa1,Qa3]
 all_goals first|trivial|omega|grind[wrapId',toNat1,drop_cons,drop_end,good_len,maxLen,isResponse,fParsePolicy,fInRange])
def entOk (all:List Sq_):List Sq_->Int->Bool
 | [],_=>true
 | e::l,i=>isName e.top&&(isName e.to.host&&isName e.to.path)&&isResponse e.bd&&decide (e.bd.status=200)&&decide (fidx (λx=>decide (x.top=e.top)&&decide (x.to=e.to)) all 0=i)&&entOk all l (i+1)
theorem entOk_at {all l:List Sq_} {i:Nat} {k:Int} (h:i<l.length):entOk all (l.drop i) k=(isName (l.getD i default).top&&(isName (l.getD i default).to.host&&isName (l.getD i default).to.path)&&isResponse (l.getD i default).bd&&decide ((l.getD i default).bd.status=200)&&decide (fidx (λx=>decide (x.top=(l.getD i default).top)&&decide (x.to=(l.getD i default).to)) all 0=k)&&entOk all (l.drop (i+1)) (k+1)):=by rw[drop_cons h];rfl
theorem entOk_end {all l:List Sq_} {i:Nat} {k:Int} (h:l.length<=i):entOk all (l.drop i) k=true:=by rw[Qb1 h];rfl
def isCache (c:Sl_):Bool:=entOk c.bg c.bg 0&&decide (c.bg.length<=100)
def fIsCache:Fct:=⟨[.v (.el .cache)],[.el .bool],λ(x_:Sl_×Unit)=>szCache x_.1<=200000000,λ(x_:Sl_×Unit)=>(isCache x_.1,())⟩
def Mz {l:List Sq_} {i:Nat} (h:i<l.length):AM (l.getD i default)+l.length<=szL AM l:=DZ AM h
abbrev Cx (c:Sl_):LInv:=⟨[⟨.s,3,true,.el .int⟩,⟨.b,1,false,.el .cache⟩],λ(z_ x_:Int×Sl_×Unit)=>(0<=x_.1/\x_.1<=c.bg.length/\entOk c.bg (c.bg.drop x_.1.toNat) x_.1=entOk c.bg c.bg 0)/\x_.2.1=z_.2.1,λ(x_:Int×Sl_×Unit)=>c.bg.length-x_.1.toNat⟩
def AnV:=AlW.a fIsCache<|Fct.p (KP [1,2,3,4] [9,48]) (λ⟨c,_⟩=>lv [(2,Cx c)]) AlW.2 func178 (by
 rintro⟨(c:Sl_),_⟩ hp;refine ho (let q1_:Out:=.lf fIsCache (false,());lpx (Cx c) ((0:Int),(c,())) λ(y1:Int×Sl_×PUnit) bk1=>let q2_:=(y1.2.1.bg.length:Int);let q0_:=y1.2.1.bg.getD y1.1.toNat default;.br (decide (y1.1<q2_)) (.ob (inB y1.1 y1.2.1.bg.length)<|.cl fIsName (q0_.top,()) λz2=>.br (!z2.1) q1_ (.cl fIsAddr (q0_.to,()) λz3=>.br (!z3.1) q1_ (.cl fIsResponse (q0_.bd,()) λz4=>.br (!z4.1) q1_ (.br (q0_.bd.status != 200) q1_ (.cl fFindEntry (y1.2.1,q0_.top,q0_.to,()) λ(z5:Int×PUnit)=>.br (z5.1 != y1.1) q1_ (.ob (bk1 (w1 y1.1,(y1.2.1,())))<|.ok)))))) (.lf fIsCache (decide (q2_<=100),()))) ?_;repeat' first|(guard_target =~ Out.holds _ _;first|refine Ai (li:=Cx c) ?_ λ(y1:Int×Sl_×PUnit) i1=>?_|refine lfY ?_|refine Ab (λ_=>?_) λ_=>?_|refine Ae ?_ λ_=>?_|refine Aa ?_ λ_=>?_)|exact trivial
 all_goals
  have hl:=Ac AM c.bg;have hg:∀ i,i<c.bg.length->(c.bg.getD i default).top.size<=200000000/\(c.bg.getD i default).to.host.size<=200000000/\(c.bg.getD i default).to.path.size<=200000000/\(c.bg.getD i default).bd.bj.size<=200000000:=λi h=>by have:=Mz h;have hp2:szCache c<=200000000:=hp;simp only[AM,szCache,szAddr,Ad] at *;omega
  try simp only[Cx,fFindEntry,fIsAddr,fIsCache,fIsName,fIsResponse,std,Nat.reduceAdd,isCache,szCache,entOk_at,entOk_end] at *
  try simp(disch:=omega) only[wrapId',toNat1] at *
  try simp(disch:=omega) only[Qa1,Qa3]
 all_goals first|trivial|omega|grind[wrapId',toNat1,drop_cons,drop_end,good_len,maxLen,isCache,fIsName,fIsAddr,fIsResponse,fFindEntry,szCache,entOk_at,entOk_end])
def AcW:Go.Proofs.Lays.n101 Tryz.prog laysCmp_r:=by repeat' first|kernel_rfl|constructor|intro _
def AnY:=AnV.a FJ<|Agn (Go.Proofs.Any.strings_TrimPrefix AcW)
def Yp:Go.Proofs.Lays.n146 Tryz.prog laysCmp_r:=by repeat' first|kernel_rfl|constructor|intro _
def AnM:=AnY.a EG<|Ac0 λs sep w h hs h1=>by obtain⟨m,hm⟩:=LC (zero := #[.int .i64 0]) (t:=3) (g:=laysCmp_r.g 1) h (Qg3 k_) k_ rfl k_ k_ Tryz.underlying3;exact Go.Proofs.Any.strings_Split Yp k_ s sep m w hs hm h1
def Uj:Go.Proofs.Lays.n156 Tryz.prog laysCmp_r:=by repeat' first|kernel_rfl|constructor|intro _
def Rl:Go.Proofs.Builder.Extra Tryz.prog laysCmp_r:=⟨⟨k_,k_⟩,k_,λ_=>k_,λ_=>k_,λ_=>k_,k_,k_,k_,by decide⟩
def Amt:=AnM.a L6<|Ae4 (λ_ _=>trivial) (Go.Proofs.Any.strings_Join_none Uj Rl) (Go.Proofs.Any.strings_Join Uj Rl)
def NX (sep x:List UInt8):∀ l:List (List UInt8),PF sep (x::l)=x++(l.map (sep++·)).flatten
 | []=>by simp[PF]
 | y::l=>by rw[PF,NX sep y l,Qc7,List.flatten_cons];simp
def JV:∀ (l:List ByteArray) (w:ByteArray),toL (words9 w l)=toL w++(l.map λx=>32::toL x).flatten
 | [],w=>by simp[words9]
 | x::l,w=>by rw[words9,JV l,Fb,Fb,Qc7,List.flatten_cons];simp[toL]
def Tz (w:ByteArray) (l:List ByteArray):KC (w::l) ⟨#[32]⟩=words9 w l:=by
 unfold KC;rw[<-DW (words9 w l),JV,Qc7,NX,Qg1];congr 2
def Akm:=Amt.a AH<|Fct.o (KP [1,2,3] [11,33]) Amt.2 func165 (by
 rintro⟨(p:Si_),_⟩ hp;refine ho (let q4_:=(⟨#[]⟩:ByteArray);let q3_:=(⟨#[32]⟩:ByteArray);let q2_:Out:=.lf AH (q4_,());let q1_:=(⟨#[59,110,111,110,99,101,32]⟩:ByteArray);let q0_:=(⟨#[59]⟩:ByteArray);.cl BM (p,()) λz2=>.br (!z2.1) q2_ (.br (!p.set_) q2_ (.ob (True)<|.ob (Br (1+p.bp.length) 16)<|.cl L6 ([(⟨#[115,99,114,105,112,116]⟩:ByteArray)]++p.bp,q3_,()) λz3=>.ob (sameSize z3.1 q0_)<|.ob (True)<|.ob (Br (1+p.styles.length) 16)<|.cl L6 ([(⟨#[115,116,121,108,101]⟩:ByteArray)]++p.styles,q3_,()) λz4=>.ob (sameSize (z3.1++q0_) z4.1)<|.ob (sameSize (z3.1++q0_++z4.1) q0_)<|.ob (True)<|.ob (Br (1+p.images.length) 16)<|.cl L6 ([(⟨#[105,109,103]⟩:ByteArray)]++p.images,q3_,()) λz5=>.ob (sameSize (z3.1++q0_++z4.1++q0_) z5.1)<|.br (!p.nonce.toList==q4_.toList) (.ob (sameSize q1_ p.nonce)<|.ob (sameSize (z3.1++q0_++z4.1++q0_++z5.1) (q1_++p.nonce))<|.lf AH (z3.1++q0_++z4.1++q0_++z5.1++(q1_++p.nonce),())) (.lf AH (z3.1++q0_++z4.1++q0_++z5.1,()))))) ?_;repeat' first|(guard_target =~ Out.holds _ _;first|refine lfY ?_|refine Ab (λ_=>?_) λ_=>?_|refine Ae ?_ λ_=>?_|refine Aa ?_ λ_=>?_)|exact trivial
 all_goals try simp only[AH,BM,L6,std,Nat.reduceAdd,List.singleton_append,Tz] at *
 all_goals first|trivial|omega|skip
 all_goals try (have hA:isPolicy p=true:=‹_›;have hB:p.set_=true:=‹_›;obtain⟨a1,a2,a3,a4,a5,a6,a7⟩:=F9 hA hB)
 all_goals
  try have b1:=GA (w:=⟨#[115,99,114,105,112,116]⟩) a1 a2 (by decide)
  try have b2:=GA (w:=⟨#[115,116,121,108,101]⟩) a3 a4 (by decide)
  try have b3:=GA (w:=⟨#[105,109,103]⟩) a5 a6 (by decide)
  try simp only[AH,BM,L6,std,Nat.reduceAdd,formatPolicy,sameSize,Qb3,ByteArray.append_assoc] at *
  try simp(disch:=omega) only[wrapId',toNat1] at *
  try simp(disch:=omega) only[Qa1,Qa3]
 all_goals first|trivial|omega|grind[wrapId',toNat1,drop_cons,drop_end,good_len,maxLen,formatPolicy,sameSize,ByteArray.size_append,ByteArray.append_assoc])
def Aga {b:UInt8} (hb:nameByte b=false) {s:ByteArray} (h:isName s=true):b∉toL s:=by
 intro hm;simp only[isName,Qa2,allB,Qc5] at h;rw[h.1 b hm] at hb;cases hb
def M7 {b:UInt8} (hb:nameByte b=false) (h32:b≠32) {l:List ByteArray} {w:ByteArray} (hl:l.all isName=true) (hw:b∉toL w):b∉toL (words9 w l):=by
 rw[JV];simp only[Qb8,not_or,List.mem_flatten,Qg6,not_exists,not_and];refine⟨hw,?_⟩;rintro _ ⟨x,hx,rfl⟩ hm;rcases Qd6.1 hm with rfl|hm
 ·exact h32 rfl
 ·exact Aga hb (Qc5.1 hl x hx) hm
def Pr {b:UInt8} (hb:valByte b=false) {s:ByteArray} (h:isValue s=true):b∉toL s:=by
 intro hm;simp only[isValue,Qa2,allB,Qc5] at h;rw[h.1 b hm] at hb;cases hb
def XJ {b:UInt8} {s:ByteArray} (h:b∉toL s):spl b s=[s]:=by
 unfold spl;rw[Q9 h];simp[DW]
def JL {b:UInt8} {s t:ByteArray} (h:b∉toL s):spl b (s++⟨#[b]⟩++t)=s::spl b t:=by
 unfold spl;rw[Fb,Fb,show toL ⟨#[b]⟩=[b] from rfl,Qb4,List.singleton_append,TS _ h,Qc7,DW]
def Ve {q:Si_} (hp:isPolicy q=true) (hs:q.set_=true):(q.nonce=⟨#[]⟩/\(spl 59 (formatPolicy q)).length=3)\/(q.nonce≠⟨#[]⟩/\(spl 59 (formatPolicy q)).length=4/\(spl 59 (formatPolicy q)).getD 3 default=⟨#[110,111,110,99,101,32]⟩++q.nonce):=by
 obtain⟨a1,a2,a3,a4,a5,a6,a7⟩:=F9 hp hs;have b1:=M7 (b:=59) rfl (by decide) a1 (w:=⟨#[115,99,114,105,112,116]⟩) (by decide);have b2:=M7 (b:=59) rfl (by decide) a3 (w:=⟨#[115,116,121,108,101]⟩) (by decide);have b3:=M7 (b:=59) rfl (by decide) a5 (w:=⟨#[105,109,103]⟩) (by decide);by_cases hn:q.nonce=⟨#[]⟩
 ·refine .inl ⟨hn,?_⟩;have e:formatPolicy q=words9 ⟨#[115,99,114,105,112,116]⟩ q.bp++⟨#[59]⟩++(words9 ⟨#[115,116,121,108,101]⟩ q.styles++⟨#[59]⟩++words9 ⟨#[105,109,103]⟩ q.images):=by unfold formatPolicy;rw[Qa1 (by simp[hp,hs]),Qa1 hn];simp only[ByteArray.append_assoc]
  rw[e,JL b1,JL b2,XJ b3];rfl
 ·refine .inr ⟨hn,?_⟩;have hv:isValue q.nonce=true:=by simp only[isPolicy,hs,Qf0,Qa2,Qf9,Qa9] at hp;simp_all
  have b4:(59:UInt8)∉toL (⟨#[110,111,110,99,101,32]⟩++q.nonce):=by rw[Fb,Qb8,not_or];exact⟨by decide,Pr rfl hv⟩
  have e:formatPolicy q=words9 ⟨#[115,99,114,105,112,116]⟩ q.bp++⟨#[59]⟩++(words9 ⟨#[115,116,121,108,101]⟩ q.styles++⟨#[59]⟩++(words9 ⟨#[105,109,103]⟩ q.images++⟨#[59]⟩++(⟨#[110,111,110,99,101,32]⟩++q.nonce))):=by
   unfold formatPolicy;rw[Qa1 (by simp[hp,hs]),Qa3 hn];have:(⟨#[59,110,111,110,99,101,32]⟩:ByteArray)=⟨#[59]⟩++⟨#[110,111,110,99,101,32]⟩:=by decide
   rw[this];simp only[ByteArray.append_assoc]
  rw[e,JL b1,JL b2,JL b3,XJ b4];exact⟨rfl,rfl⟩
def polCandI (s:ByteArray):Si_:={ polCand s with nonce:=if 3<(spl 59 s).length then RN ((spl 59 s).getD 3 default) ⟨#[110,111,110,99,101,32]⟩ else⟨#[]⟩}
def Aaz {q:Si_} {s:ByteArray} (h:formatPolicy q=s) (hs:s≠⟨#[]⟩):isPolicy q=true/\q.set_=true:=by
 unfold formatPolicy at h;grind
def YW (n:ByteArray):RN (⟨#[110,111,110,99,101,32]⟩++n) ⟨#[110,111,110,99,101,32]⟩=n:=by
 rfl
def Acf (n:ByteArray):(⟨#[110,111,110,99,101,32]⟩++n:ByteArray).extract 6 (⟨#[110,111,110,99,101,32]⟩++n:ByteArray).size=n:=by
 rw[<-DW (ByteArray.extract _ _ _),Bo,Fb,Qb0 (by rw[Qa4,BQ,BQ,Qb3];exact Qa7 _)];rfl
def Zj {s:ByteArray} (hs:s≠⟨#[]⟩):(formatPolicy (polCandI s)=s↔formatPolicy (polCand s)=s)/\(formatPolicy (polCand s)=s->polCandI s=polCand s):=by
 have key:∀ q:Si_,formatPolicy q=s->(3<(spl 59 s).length->q.nonce=RN ((spl 59 s).getD 3 default) ⟨#[110,111,110,99,101,32]⟩/\q.nonce=(if 3<(spl 59 s).length/\6<((spl 59 s).getD 3 default).size then((spl 59 s).getD 3 default).extract 6 ((spl 59 s).getD 3 default).size else⟨#[]⟩)):=by
  intro q hq hl;obtain⟨h1,h2⟩:=Aaz hq hs;rcases Ve h1 h2 with⟨_,h3⟩|⟨h3,h4,h5⟩
  ·rw[hq] at h3;omega
  ·rw[hq] at h4 h5;rw[h5,YW];refine⟨rfl,?_⟩;have hsz:0<q.nonce.size:=by
    rcases Nat.eq_zero_or_pos q.nonce.size with h|h
    ·exact absurd (ByteArray.ext (Array.eq_empty_of_size_eq_zero h)) h3
    ·exact h
   rw[Qa1 ⟨hl,by rw[Qb3,show ByteArray.size ⟨#[110,111,110,99,101,32]⟩=6 from rfl];omega⟩,Acf]
 have same:(formatPolicy (polCandI s)=s\/formatPolicy (polCand s)=s)->polCandI s=polCand s:=by
  intro h;by_cases hl:3<(spl 59 s).length
  ·have hn:(polCandI s).nonce=(polCand s).nonce:=by
    have e1:(polCandI s).nonce=RN ((spl 59 s).getD 3 default) ⟨#[110,111,110,99,101,32]⟩:=by simp only[polCandI];rw[Qa1 hl]
    rcases h with h|h
    ·exact(key _ h hl).2
    ·simp_all
   have e:polCandI s={ polCand s with nonce:=(polCandI s).nonce }:=rfl;rw[e,hn]
  ·have e:polCandI s={ polCand s with nonce:=(polCandI s).nonce }:=rfl;have h1:(polCandI s).nonce=⟨#[]⟩:=by simp only[polCandI];rw[Qa3 hl]
   have h2:(polCand s).nonce=⟨#[]⟩:=by simp only[polCand];rw[Qa3 (λhh=>hl hh.1)]
   rw[e,h1,<-h2]
 grind
def AeK {s:ByteArray} (h1:s≠⟨#[]⟩) (h3:3<=(spl 59 s).length) {q:Si_} (hq:q=polCandI s):(formatPolicy q≠s->parsePolicy s=(default,false))/\(formatPolicy q=s->parsePolicy s=(q,true)):=by
 subst hq;have hc:=Zj h1;unfold parsePolicy;simp_all
def Afj {s:ByteArray} (h:3<(spl 59 s).length):(⟨true,(spl 32 ((spl 59 s).getD 0 default)).drop 1,(spl 32 ((spl 59 s).getD 1 default)).drop 1,(spl 32 ((spl 59 s).getD 2 default)).drop 1,RN ((spl 59 s).getD 3 default) ⟨#[110,111,110,99,101,32]⟩⟩:Si_)=polCandI s:=by
 unfold polCandI polCand;rw[Qa1 h]
def Aeo {s:ByteArray} (h:¬ 3<(spl 59 s).length):(⟨true,(spl 32 ((spl 59 s).getD 0 default)).drop 1,(spl 32 ((spl 59 s).getD 1 default)).drop 1,(spl 32 ((spl 59 s).getD 2 default)).drop 1,⟨#[]⟩⟩:Si_)=polCandI s:=by
 unfold polCandI polCand;rw[Qa3 h]
def WN (s p:ByteArray):(RN s p).size<=s.size:=by
 unfold RN Go.Lib.trimPrefix;rw[show ∀ l:List UInt8,ByteArray.size ⟨l.toArray⟩=l.length from λl=>by simp[ByteArray.size]];split
 ·simp
 ·exact Qa7 _
def Amb:=Akm.a fParsePolicy<|Fct.o [0,2,3,4,5,6,7,9,15,18,19,39,48,1000009,1000015,1000019,1000039,1000048,64000516,200000019] Akm.2 func121 (by
 rintro⟨(s:ByteArray),_⟩ hp;refine ho (let q8_:=(⟨#[32]⟩:ByteArray);let q7_:=(0:Int)<=(2:Int)/\(2:Int)<(3:Int);let q6_:=(0:Int)<=(1:Int)/\(1:Int)<(3:Int);let q5_:=(0:Int)<=(0:Int)/\(0:Int)<(3:Int);let q4_:=(⟨#[]⟩:ByteArray);let q0_:Out:=.leaf (.tup [(true,[vb (false),.nl,.nl,.nl,vs (q4_)]),(false,[vb (false)])]) [] [];.br (ByteArray.toList s==q4_.toList) (.leaf (.tup [(true,[vb (false),.nl,.nl,.nl,vs (q4_)]),(false,[vb (true)])]) [] []) (.cl EG (s,(⟨#[59]⟩:ByteArray),()) λz2=>let q3_:=(z2.1.length:Int);.br (decide (q3_<3)) q0_ (.ob ((0:Int)<=(0:Int)/\(0:Int)<q3_)<|.ob (0<z2.1.length)<|.cl EG (z2.1.getD 0 default,q8_,()) λz3=>let q9_:=z3.1.length-1;.ob ((0:Int)<=(1:Int)/\(1:Int)<=(z3.1.length:Int))<|.ob q5_<|.ob (1+q9_<=z3.1.length)<|.ob ((0:Int)<=(1:Int)/\(1:Int)<q3_)<|.ob (1<z2.1.length)<|.cl EG (z2.1.getD 1 default,q8_,()) λz4=>let q10_:=z4.1.length-1;.ob ((0:Int)<=(1:Int)/\(1:Int)<=(z4.1.length:Int))<|.ob q6_<|.ob (1+q10_<=z4.1.length)<|.ob ((0:Int)<=(2:Int)/\(2:Int)<q3_)<|.ob (2<z2.1.length)<|.cl EG (z2.1.getD 2 default,q8_,()) λz5=>let q11_:=z5.1.length-1;let q1_:=(⟨true,cut z3.1 1 q9_,cut z4.1 1 q10_,cut z5.1 1 q11_,q4_⟩:Si_);.ob ((0:Int)<=(1:Int)/\(1:Int)<=(z5.1.length:Int))<|.ob q7_<|.ob (1+q11_<=z5.1.length)<|.ob q5_<|.ob q6_<|.ob q7_<|.br (decide (q3_>3)) (.ob ((0:Int)<=(3:Int)/\(3:Int)<q3_)<|.ob (3<z2.1.length)<|.cl FJ (z2.1.getD 3 default,(⟨#[110,111,110,99,101,32]⟩:ByteArray),()) λz6=>let q2_:=(⟨true,cut z3.1 1 q9_,cut z4.1 1 q10_,cut z5.1 1 q11_,z6.1⟩:Si_);.cl AH (q2_,()) λz7=>.br (!z7.1.toList==ByteArray.toList s) q0_ (.cl fCopyPolicy (q2_,()) λz8=>.lf fParsePolicy (z8.1,true,()))) (.cl AH (q1_,()) λz9=>.br (!z9.1.toList==ByteArray.toList s) q0_ (.cl fCopyPolicy (q1_,()) λz10=>.lf fParsePolicy (z10.1,true,())))))) ?_;refine Ab (λh1=>Fct.leafZ (default,true,()) (by repeat' first|exact rfl|exact trivial|refine And.intro ?_ ?_) ?_) (λh1=>Ae ?_ λ_=>(Ab (λh3=>Fct.leafZ (default,false,()) (by repeat' first|exact rfl|exact trivial|refine And.intro ?_ ?_) ?_) (λh3=>Aa ?_ λ_=>Aa ?_ λ_=>Ae ?_ λ_=>(Aa ?_ λ_=>Aa ?_ λ_=>Aa ?_ λ_=>Aa ?_ λ_=>Aa ?_ λ_=>Ae ?_ λ_=>(Aa ?_ λ_=>Aa ?_ λ_=>Aa ?_ λ_=>Aa ?_ λ_=>Aa ?_ λ_=>Ae ?_ λ_=>(Aa ?_ λ_=>Aa ?_ λ_=>Aa ?_ λ_=>Aa ?_ λ_=>Aa ?_ λ_=>Aa ?_ λ_=>Ab (λh25=>Aa ?_ λ_=>Aa ?_ λ_=>Ae trivial λ_=>(Ae ?_ λ_=>(Ab (λh29=>Fct.leafZ (default,false,()) (by repeat' first|exact rfl|exact trivial|refine And.intro ?_ ?_) ?_) (λh29=>Ae ?_ λ_=>(lfY ?_))))) (λh25=>Ae ?_ λ_=>(Ab (λh32=>Fct.leafZ (default,false,()) (by repeat' first|exact rfl|exact trivial|refine And.intro ?_ ?_) ?_) (λh32=>Ae ?_ λ_=>(lfY ?_))))))))));all_goals
  try simp only[Hv] at *
  try simp only[fCopyPolicy,AH,fParsePolicy,EG,FJ,std,Nat.reduceAdd,Zw] at *
  try simp only[show(ByteArray.mk #[59]).data.getD 0 0=59 from rfl,show(ByteArray.mk #[32]).data.getD 0 0=32 from rfl,show(ByteArray.mk #[59]).size=1 from rfl,show(ByteArray.mk #[32]).size=1 from rfl] at *
 all_goals
  have g0:=Em 59 s 0;have g1:=Em 59 s 1;have g2:=Em 59 s 2;have g3:=Em 59 s 3;have k0:=Eh 32 ((spl 59 s).getD 0 default);have k1:=Eh 32 ((spl 59 s).getD 1 default);have k2:=Eh 32 ((spl 59 s).getD 2 default);have tz:=WN ((spl 59 s).getD 3 default) ⟨#[110,111,110,99,101,32]⟩
 all_goals first|trivial|omega|(with_reducible refine Qd8 (Ro (Nat.zero_le _)) ?_;omega)|(with_reducible refine Qd8 (Ro ?_) ?_;omega;omega)|skip
 all_goals first|(simp only[parsePolicy];rw[Qa1 ‹_›];exact⟨rfl,rfl⟩)|(simp only[parsePolicy];rw[Qa3 ‹_›,Qa3 o_];exact⟨rfl,rfl⟩)|skip
 all_goals first|(have hq:=Afj (s:=s) o_)|(have hq:=Aeo (s:=s) o_)
 all_goals obtain⟨p1,p2⟩:=AeK ‹_› o_ hq
 all_goals first|(rw[p1 ‹_›];exact⟨rfl,rfl⟩)|(rw[p2 ‹_›];exact⟨rfl,rfl⟩))
def Ai7:=Amb.a fIsResponse<|Fct.o [1,2,4] Amb.2 func120 (by
 rintro⟨(x:Sd_),_⟩ hp;refine ho (.cl fParsePolicy (x.bj,()) λz2=>.br (z2.2.1) (.cl fInRange (x.status,(100:Int),(599:Int),()) λz3=>.br (z3.1) (.cl fInRange (x.kind,(1:Int),(5:Int),()) λz4=>.br (z4.1) (.br (decide ((x.body.size:Int)<=400)) (.cl fInRange (x.age,(0:Int),(1000:Int),()) λz5=>.lf fIsResponse (z5.1,())) (.lf fIsResponse (false,()))) (.lf fIsResponse (false,()))) (.lf fIsResponse (false,()))) (.lf fIsResponse (false,()))) ?_;repeat' first|(guard_target =~ Out.holds _ _;first|refine lfY ?_|refine Ab (λ_=>?_) λ_=>?_|refine Ae ?_ λ_=>?_)|exact trivial
 all_goals
  try simp only[fInRange,fIsResponse,fParsePolicy,std,Nat.reduceAdd,isResponse] at *
  try simp(disch:=omega) only[wrapId',toNat1] at *
  try simp(disch:=omega) only[Qa1,Qa3]
 all_goals first|trivial|omega|grind[wrapId',toNat1,drop_cons,drop_end,good_len,maxLen,isResponse,fParsePolicy,fInRange])
abbrev Cw (c:Sl_):LInv:=⟨[⟨.s,8,true,.el .int⟩,⟨.b,1,false,.el .cache⟩],λ(z_ x_:Int×Sl_×Unit)=>(0<=x_.1/\x_.1<=c.bg.length/\entOk c.bg (c.bg.drop x_.1.toNat) x_.1=entOk c.bg c.bg 0)/\x_.2.1=z_.2.1,λ(x_:Int×Sl_×Unit)=>c.bg.length-x_.1.toNat⟩
def Amh:=Ai7.a fIsCache<|Fct.p (KP [1,2,3,4,6,7,8] [9,44]) (λ⟨c,_⟩=>lv [(2,Cw c)]) Ai7.2 func206 (by
 rintro⟨(c:Sl_),_⟩ hp;refine ho (let q2_:=(c.bg.length:Int);let q1_:Out:=.lf fIsCache (false,());lpx (Cw c) ((0:Int),(c,())) λ(y1:Int×Sl_×PUnit) bk1=>let q0_:=c.bg.getD y1.1.toNat default;.br (decide (y1.1<q2_)) (.ob (inB y1.1 c.bg.length)<|.cl fIsName (q0_.top,()) λz2=>.br (!z2.1) q1_ (.cl fIsAddr (q0_.to,()) λz3=>.br (!z3.1) q1_ (.cl fIsResponse (q0_.bd,()) λz4=>.br (!z4.1) q1_ (.br (q0_.bd.status != 200) q1_ (.cl fFindEntry (y1.2.1,q0_.top,q0_.to,()) λ(z5:Int×PUnit)=>.br (z5.1 != y1.1) q1_ (.ob (c.bg=c.bg)<|.ob (Value.int IntKind.i64 q2_=Value.int IntKind.i64 q2_)<|.ob (bk1 (w1 y1.1,(y1.2.1,())))<|.ok)))))) (.lf fIsCache (decide ((y1.2.1.bg.length:Int)<=100),()))) ?_;repeat' first|(guard_target =~ Out.holds _ _;first|refine Ai (li:=Cw c) ?_ λ(y1:Int×Sl_×PUnit) i1=>?_|refine lfY ?_|refine Ab (λ_=>?_) λ_=>?_|refine Ae ?_ λ_=>?_|refine Aa ?_ λ_=>?_)|exact trivial
 all_goals
  have hl:=Ac AM c.bg;have hg:∀ i,i<c.bg.length->(c.bg.getD i default).top.size<=200000000/\(c.bg.getD i default).to.host.size<=200000000/\(c.bg.getD i default).to.path.size<=200000000/\(c.bg.getD i default).bd.bj.size<=200000000:=λi h=>by have:=Mz h;have hp2:szCache c<=200000000:=hp;simp only[AM,szCache,szAddr,Ad] at *;omega
  try simp only[Cw,fFindEntry,fIsAddr,fIsCache,fIsName,fIsResponse,std,Nat.reduceAdd,isCache,szCache,entOk_at,entOk_end] at *
  try simp(disch:=omega) only[wrapId',toNat1] at *
  try simp(disch:=omega) only[Qa1,Qa3]
 all_goals first|trivial|omega|grind[wrapId',toNat1,drop_cons,drop_end,good_len,maxLen,isCache,fIsName,fIsAddr,fIsResponse,fFindEntry,szCache,entOk_at,entOk_end])
def Av {α:Type} (f:α->Nat) (x:α) (l:List α):szL f (x::l)=f x+1+szL f l:=by simp only[szL,Qc7,List.sum_cons,Qa6];omega
def Fi {α:Type} (f:α->Nat) (l:List α) (x:α):szL f (l++[x])=szL f l+(f x+1):=by
 induction l with
 | nil=>rw[Qf8,Av];simp[szL]
 | cons y l ih=>rw[Qe6,Av,Av,ih];omega
def SP {α:Type} (f:α->Nat) (e:α):∀ (l:List α) (i:Nat),szL f (l.modify i λ_=>e)<=szL f l+(f e+1)
 | [],i=>by cases i<;>simp[List.modify,szL]
 | y::l,0=>by rw[List.modify_zero_cons,Av,Av];omega
 | y::l,i+1=>by rw[List.modify_succ_cons,Av,Av];have:=SP f e l i;omega
def HS {α:Type} (f:α->Nat) {t:α}:∀ {l:List α},t∈l->f t+1<=szL f l
 | [],h=>by cases h
 | x::l,h=>by
  rw[Av];rcases Qd6.1 h with rfl|h
  ·omega
  ·have:=HS f h;omega
def putEntry (c:Sl_) (e:Sq_) (i:Int):Sl_:=if 0<=i then⟨c.bg.modify i.toNat λ_=>e⟩ else⟨c.bg++[e]⟩
def entry (t:ByteArray) (a:Sb_) (x:Sd_) (now:Int):Sq_:=⟨t,a,x,IntKind.i64.wrap (now+x.age)⟩
def storeEntry (c:Sl_) (t:ByteArray) (a:Sb_) (x:Sd_) (now:Int):Sl_ :=
 if x.age≠0/\inRange now 0 999999999000=true/\isCache c=true/\isCache (putEntry c (entry t a x now) (fidx (λe=>decide (e.top=t)&&decide (e.to=a)) c.bg 0))=true then putEntry c (entry t a x now) (fidx (λe=>decide (e.top=t)&&decide (e.to=a)) c.bg 0) else c
def J9 {all:List Sq_}:∀ {l:List Sq_} {k:Int},entOk all l k=true->∀ e∈l,isResponse e.bd=true
 | [],_,_,e,he=>by cases he
 | y::l,k,h,e,he=>by
  simp only[entOk,Qa2] at h;rcases Qd6.1 he with rfl|he
  ·exact h.1.1.1.2
  ·exact J9 h.2 e he
def UC {c:Sl_} {e:Sq_} {i:Int} (hi:i<c.bg.length) (h:isCache (putEntry c e i)=true):isResponse e.bd=true:=by
 unfold isCache at h;rw[Qa2] at h;refine J9 h.1 e ?_;unfold putEntry;split
 ·rw[List.mem_iff_getElem?];exact⟨i.toNat,by rw[List.getElem?_modify_eq,Qa5 o_];rfl⟩
 ·simp
def fStoreEntry:Fct:=⟨[.v (.el .cache),.v (.el .str),.v (.el .addr),.v (.el .bd),.v (.el .int)],[.el .cache],λ(x_:Sl_×ByteArray×Sb_×Sd_×Int×Unit)=>szCache x_.1<=100000000/\x_.2.1.size<=10000000/\szAddr x_.2.2.1<=10000000/\Ad x_.2.2.2.1<=10000000,λ(x_:Sl_×ByteArray×Sb_×Sd_×Int×Unit)=>(storeEntry x_.1 x_.2.1 x_.2.2.1 x_.2.2.2.1 x_.2.2.2.2.1,())⟩
def AjU:=Amh.a fStoreEntry<|Fct.o (KP [1,4,5,7,8,10,11,12,13] [33,48,62]) Amh.2 func142 (by
 rintro⟨(c:Sl_),(t:ByteArray),(a:Sb_),(x:Sd_),(now:Int),_⟩ hp;refine ho (let q2_:Out:=.cl fCopyCache (c,()) λz9=>.lf fStoreEntry (z9.1,());let q0_:=(⟨t,a,x,wr (now+x.age)⟩:Sq_);.cl fCopyCache (c,()) λz2=>let q1_:Out:=.lf fStoreEntry (z2.1,());.br (x.age==0) q1_ (.cl fInRange (now,(0:Int),(999999999000:Int),()) λz3=>.br (!z3.1) q1_ (.cl fIsResponse (x,()) λz4=>.br (!z4.1) q1_ (.cl fIsCache (c,()) λz5=>.br (!z5.1) q1_ (.cl fFindEntry (c,t,a,()) λ(z6:Int×PUnit)=>.br (decide (z6.1>=0)) (.ob (inB z6.1 z2.1.bg.length)<|.ob (z6.1.toNat<z2.1.bg.length)<|.lt (List Sq_) (z2.1.bg.modify z6.1.toNat λz=>q0_) λz7=>.cl fIsCache ((⟨z7⟩:Sl_),()) λz8=>.br (!z8.1) q2_ (.lf fStoreEntry (⟨z7⟩,()))) (.ob (True)<|.ob (Br (z2.1.bg.length+[q0_].length) 120)<|.cl fIsCache ((⟨z2.1.bg++[q0_]⟩:Sl_),()) λz10=>.br (!z10.1) q2_ (.lf fStoreEntry (⟨z2.1.bg++[q0_]⟩,())))))))) ?_;repeat' first|(guard_target =~ Out.holds _ _;first|refine lfY ?_|refine Ab (λ_=>?_) λ_=>?_|refine Ae ?_ λ_=>?_|refine Aa ?_ λ_=>?_|refine DU ?_)|exact trivial
 all_goals
  have hi:=EY (λe:Sq_=>decide (e.top=t)&&decide (e.to=a)) c.bg 0 o_;have hr:=λ(i:Int) (h:i<c.bg.length)=>UC (c:=c) (e:=entry t a x now) h
  have hm:=λi=>SP AM (entry t a x now) c.bg i
  have hs:=Fi AM c.bg (entry t a x now);have hz:AM (entry t a x now)<=40000000:=by have hp2:szCache c<=100000000/\t.size<=10000000/\szAddr a<=10000000/\Ad x<=10000000:=hp;simp only[AM,entry];omega
  have hq:x.bj.size<=10000000:=by have hp2:szCache c<=100000000/\t.size<=10000000/\szAddr a<=10000000/\Ad x<=10000000:=hp;simp only[Ad] at hp2;omega
  have hn:=Ac AM c.bg;try simp only[fCopyCache,fFindEntry,fInRange,fIsCache,fIsResponse,fStoreEntry,std,Nat.reduceAdd,storeEntry,putEntry,entry,szCache] at *
  try simp(disch:=omega) only[wrapId',toNat1] at *
  try simp(disch:=omega) only[Qa1,Qa3]
 all_goals first|trivial|omega|grind[wrapId',toNat1,good_len,maxLen,storeEntry,putEntry,entry,szCache,fIsCache,fIsResponse,fInRange,fFindEntry,fCopyCache])
def Anf:=AjU.a fStoreEntry<|Fct.o (KP [1,4,5,7,8,10,11,12,13] [29,58]) AjU.2 func162 (by
 rintro⟨(c:Sl_),(t:ByteArray),(a:Sb_),(x:Sd_),(now:Int),_⟩ hp;refine ho (let q1_:=(⟨t,a,x,wr (now+x.age)⟩:Sq_);let q0_:Out:=.cl fCopyCache (c,()) λz5=>.lf fStoreEntry (z5.1,());.cl fCopyCache (c,()) λz2=>.cl fFindEntry (c,t,a,()) λ(z3:Int×PUnit)=>.br (decide (z3.1>=0)) (.ob (inB z3.1 z2.1.bg.length)<|.ob (z3.1.toNat<z2.1.bg.length)<|.lt (List Sq_) (z2.1.bg.modify z3.1.toNat λz=>q1_) λz4=>.br (x.age==0) q0_ (.cl fInRange (now,(0:Int),(999999999000:Int),()) λz6=>.br (!z6.1) q0_ (.cl fIsCache (c,()) λz8=>.br (!z8.1) q0_ (.cl fIsCache ((⟨z4⟩:Sl_),()) λz10=>.br (!z10.1) q0_ (.lf fStoreEntry (⟨z4⟩,())))))) (.ob (True)<|.ob (Br (z2.1.bg.length+[q1_].length) 120)<|.br (x.age==0) q0_ (.cl fInRange (now,(0:Int),(999999999000:Int),()) λz13=>.br (!z13.1) q0_ (.cl fIsCache (c,()) λz15=>.br (!z15.1) q0_ (.cl fIsCache ((⟨z2.1.bg++[q1_]⟩:Sl_),()) λz17=>.br (!z17.1) q0_ (.lf fStoreEntry (⟨z2.1.bg++[q1_]⟩,()))))))) ?_;repeat' first|(guard_target =~ Out.holds _ _;first|refine lfY ?_|refine Ab (λ_=>?_) λ_=>?_|refine Ae ?_ λ_=>?_|refine Aa ?_ λ_=>?_|refine DU ?_)|exact trivial
 all_goals
  have hi:=EY (λe:Sq_=>decide (e.top=t)&&decide (e.to=a)) c.bg 0 o_;have hr:=λ(i:Int) (h:i<c.bg.length)=>UC (c:=c) (e:=entry t a x now) h
  have hm:=λi=>SP AM (entry t a x now) c.bg i
  have hs:=Fi AM c.bg (entry t a x now);have hz:AM (entry t a x now)<=40000000:=by have hp2:szCache c<=100000000/\t.size<=10000000/\szAddr a<=10000000/\Ad x<=10000000:=hp;simp only[AM,entry];omega
  have hq:x.bj.size<=10000000:=by have hp2:szCache c<=100000000/\t.size<=10000000/\szAddr a<=10000000/\Ad x<=10000000:=hp;simp only[Ad] at hp2;omega
  have hn:=Ac AM c.bg;try simp only[fCopyCache,fFindEntry,fInRange,fIsCache,fStoreEntry,std,Nat.reduceAdd,storeEntry,putEntry,entry,szCache,fIsResponse] at *
  try simp(disch:=omega) only[wrapId',toNat1] at *
  try simp(disch:=omega) only[Qa1,Qa3]
 all_goals first|trivial|omega|grind[wrapId',toNat1,good_len,maxLen,storeEntry,putEntry,entry,szCache,fIsCache,fIsResponse,fInRange,fFindEntry,fCopyCache])
def keepAnswer (n:Ss_) (t:ByteArray) (a:Sb_) (x:Sd_):Ss_:=if(lookUp n.cache t a n.now).isSome=false/\isResponse x=true/\x.status=200 then{ n with cache:=storeEntry n.cache t a x n.now } else n
def fKeepAnswer:Fct:=⟨[.v (.el .net),.v (.el .str),.v (.el .addr),.v (.el .bd)],[.el .net],λ(x_:Ss_×ByteArray×Sb_×Sd_×Unit)=>szNet x_.1<=10000000000/\szCache x_.1.cache<=90000000/\x_.2.1.size<=10000000/\szAddr x_.2.2.1<=10000000/\Ad x_.2.2.2.1<=10000000,λ(x_:Ss_×ByteArray×Sb_×Sd_×Unit)=>(keepAnswer x_.1 x_.2.1 x_.2.2.1 x_.2.2.2.1,())⟩
def Al1:=Anf.a fKeepAnswer<|Fct.o (KP [1,4,6,7,8,9,11] [34]) Anf.2 func103 (by
 rintro⟨(n:Ss_),(t:ByteArray),(a:Sb_),(x:Sd_),_⟩ hp;refine ho (.cl fCopyNet (n,()) λz2=>.cl fLookUp (n.cache,t,a,n.now,()) λz3=>.br (!z3.2.1) (.cl fIsResponse (x,()) λz4=>.br (z4.1) (.br (x.status==200) (.cl fStoreEntry (n.cache,t,a,x,n.now,()) λz5=>.lf fKeepAnswer (⟨z2.1.servers,z5.1,z2.1.log,z2.1.now⟩,())) (.lf fKeepAnswer (z2.1,()))) (.lf fKeepAnswer (z2.1,()))) (.lf fKeepAnswer (z2.1,()))) ?_;repeat' (guard_target =~ Out.holds _ _;first|refine lfY ?_|refine Ab (λ_=>?_) λ_=>?_|refine Ae ?_ λ_=>?_)
 all_goals
  have hn:=Ac AM n.cache.bg;have hc:szCache n.cache=szL AM n.cache.bg:=rfl;have hq:x.bj.size<=10000000:=by have hp2:szNet n<=10000000000/\szCache n.cache<=90000000/\t.size<=10000000/\szAddr a<=10000000/\Ad x<=10000000:=hp;simp only[Ad] at hp2;omega
  try simp only[fCopyNet,fIsResponse,fKeepAnswer,fLookUp,fStoreEntry,std,Nat.reduceAdd,keepAnswer] at *
  try simp(disch:=omega) only[wrapId',toNat1] at *
  try simp(disch:=omega) only[Qa1,Qa3]
 all_goals first|trivial|omega|grind[wrapId',toNat1,drop_cons,drop_end,good_len,maxLen,keepAnswer,fCopyNet,fLookUp,fIsResponse,fStoreEntry])
def AmU:=Al1.a fKeepAnswer<|Fct.o (KP [1,4,6,7,8,9,11] [34]) Al1.2 func119 (by
 rintro⟨(n:Ss_),(t:ByteArray),(a:Sb_),(x:Sd_),_⟩ hp;refine ho (.cl fCopyNet (n,()) λz2=>.cl fLookUp (n.cache,t,a,n.now,()) λz3=>.cl fIsResponse (x,()) λz4=>.br (z4.1) (.br (x.status==200) (.br (!z3.2.1) (.cl fStoreEntry (z2.1.cache,t,a,x,n.now,()) λz5=>.lf fKeepAnswer (⟨z2.1.servers,z5.1,z2.1.log,z2.1.now⟩,())) (.lf fKeepAnswer (z2.1,()))) (.lf fKeepAnswer (z2.1,()))) (.lf fKeepAnswer (z2.1,()))) ?_;repeat' (guard_target =~ Out.holds _ _;first|refine lfY ?_|refine Ab (λ_=>?_) λ_=>?_|refine Ae ?_ λ_=>?_)
 all_goals
  have hn:=Ac AM n.cache.bg;have hc:szCache n.cache=szL AM n.cache.bg:=rfl;have hq:x.bj.size<=10000000:=by have hp2:szNet n<=10000000000/\szCache n.cache<=90000000/\t.size<=10000000/\szAddr a<=10000000/\Ad x<=10000000:=hp;simp only[Ad] at hp2;omega
  try simp only[fCopyNet,fIsResponse,fKeepAnswer,fLookUp,fStoreEntry,std,Nat.reduceAdd,keepAnswer] at *
  try simp(disch:=omega) only[wrapId',toNat1] at *
  try simp(disch:=omega) only[Qa1,Qa3]
 all_goals first|trivial|omega|grind[wrapId',toNat1,drop_cons,drop_end,good_len,maxLen,keepAnswer,fCopyNet,fLookUp,fIsResponse,fStoreEntry])
def logSent (n:Ss_) (t:ByteArray) (a:Sb_) (g:Bool):Ss_:=if n.log.length<400 then{ n with log:=n.log++[⟨t,a,g⟩]} else n
def fetchNow (n:Ss_) (t:ByteArray) (a:Sb_) (g:Bool):Ss_×Sd_ :=
 if(isName a.host&&isName a.path)=false then(n,notFound)
 else if(lookUp n.cache t a n.now).isSome then(n,(lookUp n.cache t a n.now).getD notFound)
 else(if g then logSent n t a g else keepAnswer (logSent n t a g) t a (answerTo n.servers a),answerTo n.servers a)
def Jw (l:List Sk_) (a:Sb_):Ad (answerTo l a)<=szL A1 l:=by
 unfold answerTo;split
 ·exact Nat.zero_le _
 split
 ·exact Nat.zero_le _
 ·rename_i h1 h2;have h3:=EY (λs:Sk_=>decide (s.host=a.host)) l 0 o_;have h4:=DZ A1 (l:=l) (i:=(fidx (λs=>decide (s.host=a.host)) l 0).toNat) o_;have h5:=EY (λf:Sv_=>decide (f.path=a.path)) (l.getD (fidx (λs=>decide (s.host=a.host)) l 0).toNat default).files 0 o_;have h6:=DZ EJ (l:=(l.getD (fidx (λs=>decide (s.host=a.host)) l 0).toNat default).files) (i:=(fidx (λf:Sv_=>decide (f.path=a.path)) (l.getD (fidx (λs=>decide (s.host=a.host)) l 0).toNat default).files 0).toNat) o_;simp only[A1,EJ] at h4 h6;omega
def fFetchNow:Fct:=⟨[.v (.el .net),.v (.el .str),.v (.el .addr),.v (.el .bool)],[.el .net,.el .bd],λ(x_:Ss_×ByteArray×Sb_×Bool×Unit)=>szNet x_.1<=9000000000/\szCache x_.1.cache<=90000000/\szL A1 x_.1.servers<=10000000/\x_.2.1.size<=10000000/\szAddr x_.2.2.1<=10000000,λ(x_:Ss_×ByteArray×Sb_×Bool×Unit)=>((fetchNow x_.1 x_.2.1 x_.2.2.1 x_.2.2.2.1).1,(fetchNow x_.1 x_.2.1 x_.2.2.1 x_.2.2.2.1).2,())⟩
def Ama:=AmU.a fFetchNow<|Fct.o (KP [1,3,4,6,8,9,10,11,12,13] [18,31,41,52]) AmU.2 func64 (by
 rintro⟨(n:Ss_),(t:ByteArray),(a:Sb_),(g:Bool),_⟩ hp;refine ho (let q1_:=(⟨t,a,g⟩:Sw_);.cl fCopyNet (n,()) λz2=>.cl fIsAddr (a,()) λz3=>.br (!z3.1) (.cl fNotFound () λz4=>.lf fFetchNow (z2.1,z4.1,())) (.cl fLookUp (n.cache,t,a,n.now,()) λz5=>let q2_:Out:=.lf fFetchNow (z2.1,z5.1,());.br (z5.2.1) (.lp (Bool) (True) (λx=>True) λy6=>.br (y6) q2_ q2_) (.cl fAnswerTo (n.servers,a,()) λz6=>let q5_:Out:=.lf fFetchNow (z2.1,z6.1,());let q0_:Out:=.lf fFetchNow ({z2.1 with log:=z2.1.log++[q1_]},z6.1,());.br (decide ((n.log.length:Int)<400)) (.ob (True)<|.ob (Br (z2.1.log.length+[q1_].length) 56)<|.br (!g) (.cl fKeepAnswer (({z2.1 with log:=z2.1.log++[q1_]}:Ss_),t,a,z6.1,()) λz7=>let q3_:Out:=.lf fFetchNow (z7.1,z6.1,());.lp (Bool) (True) (λx=>True) λy13=>.br (y13) q3_ q3_) (.lp (Bool) (True) (λx=>True) λy15=>.br (y15) q0_ q0_)) (.br (!g) (.cl fKeepAnswer (z2.1,t,a,z6.1,()) λz8=>let q4_:Out:=.lf fFetchNow (z8.1,z6.1,());.lp (Bool) (True) (λx=>True) λy19=>.br (y19) q4_ q4_) (.lp (Bool) (True) (λx=>True) λy21=>.br (y21) q5_ q5_))))) ?_;refine Ae ?_ λ_=>(Ae ?_ λ_=>(Ab (λh3=>Ae trivial λ_=>(lfY ?_)) (λh3=>Ae ?_ λ_=>(Ab (λh5=>JB trivial λy6 i6=>Ab (λh7=>lfY ?_) (λh7=>lfY ?_)) (λh5=>Ae ?_ λ_=>(Ab (λh9=>Aa trivial λ_=>Aa ?_ λ_=>Ab (λh11=>Ae ?_ λ_=>(JB trivial λy13 i13=>Ab (λh14=>lfY ?_) (λh14=>lfY ?_))) (λh11=>JB trivial λy15 i15=>Ab (λh16=>lfY ?_) (λh16=>lfY ?_))) (λh9=>Ab (λh17=>Ae ?_ λ_=>(JB trivial λy19 i19=>Ab (λh20=>lfY ?_) (λh20=>lfY ?_))) (λh17=>JB trivial λy21 i21=>Ab (λh22=>lfY ?_) (λh22=>lfY ?_)))))))))
 all_goals
  have hn:=Ac AM n.cache.bg;have hc:szCache n.cache=szL AM n.cache.bg:=rfl;have ha:=Jw n.servers a;have hs:=Fi DO n.log ⟨t,a,g⟩;have hs2:DO ⟨t,a,g⟩=t.size+szAddr a:=rfl;have hd:a.host.size<=szAddr a/\a.path.size<=szAddr a:=⟨Qc6 _ _,Nat.le_add_left _ _⟩;have hl:=Ac DO n.log;try simp only[fAnswerTo,fCopyNet,fFetchNow,fIsAddr,fKeepAnswer,fLookUp,fNotFound,std,Nat.reduceAdd,fetchNow,logSent,szNet] at *
  try simp(disch:=omega) only[wrapId',toNat1] at *
  try simp(disch:=omega) only[Qa1,Qa3]
 all_goals first|trivial|omega|grind[wrapId',toNat1,drop_cons,drop_end,good_len,maxLen,fetchNow,logSent,szNet,fCopyNet,fLookUp,fIsAddr,fKeepAnswer,fAnswerTo,fNotFound])
def Ajz:=Ama.a fFetchNow<|Fct.o (KP [1,3,4,6,8,9,10,11,12,13] [18,31,41,52]) Ama.2 func73 (by
 rintro⟨(n:Ss_),(t:ByteArray),(a:Sb_),(g:Bool),_⟩ hp;refine ho (let q1_:=(⟨t,a,g⟩:Sw_);.cl fCopyNet (n,()) λz2=>.cl fIsAddr (a,()) λz3=>.br (!z3.1) (.cl fNotFound () λz4=>.lf fFetchNow (z2.1,z4.1,())) (.cl fLookUp (n.cache,t,a,n.now,()) λz5=>let q2_:Out:=.lf fFetchNow (z2.1,z5.1,());.br (z5.2.1) (.lp (Bool) (True) (λx=>True) λy6=>.br (y6) q2_ q2_) (.cl fAnswerTo (n.servers,a,()) λz6=>let q5_:Out:=.lf fFetchNow (z2.1,z6.1,());let q0_:Out:=.lf fFetchNow ({z2.1 with log:=z2.1.log++[q1_]},z6.1,());.br (decide ((z2.1.log.length:Int)<400)) (.ob (True)<|.ob (Br (z2.1.log.length+[q1_].length) 56)<|.br (!g) (.cl fKeepAnswer (({z2.1 with log:=z2.1.log++[q1_]}:Ss_),t,a,z6.1,()) λz7=>let q3_:Out:=.lf fFetchNow (z7.1,z6.1,());.lp (Bool) (True) (λx=>True) λy13=>.br (y13) q3_ q3_) (.lp (Bool) (True) (λx=>True) λy15=>.br (y15) q0_ q0_)) (.br (!g) (.cl fKeepAnswer (z2.1,t,a,z6.1,()) λz8=>let q4_:Out:=.lf fFetchNow (z8.1,z6.1,());.lp (Bool) (True) (λx=>True) λy19=>.br (y19) q4_ q4_) (.lp (Bool) (True) (λx=>True) λy21=>.br (y21) q5_ q5_))))) ?_;refine Ae ?_ λ_=>(Ae ?_ λ_=>(Ab (λh3=>Ae trivial λ_=>(lfY ?_)) (λh3=>Ae ?_ λ_=>(Ab (λh5=>JB trivial λy6 i6=>Ab (λh7=>lfY ?_) (λh7=>lfY ?_)) (λh5=>Ae ?_ λ_=>(Ab (λh9=>Aa trivial λ_=>Aa ?_ λ_=>Ab (λh11=>Ae ?_ λ_=>(JB trivial λy13 i13=>Ab (λh14=>lfY ?_) (λh14=>lfY ?_))) (λh11=>JB trivial λy15 i15=>Ab (λh16=>lfY ?_) (λh16=>lfY ?_))) (λh9=>Ab (λh17=>Ae ?_ λ_=>(JB trivial λy19 i19=>Ab (λh20=>lfY ?_) (λh20=>lfY ?_))) (λh17=>JB trivial λy21 i21=>Ab (λh22=>lfY ?_) (λh22=>lfY ?_)))))))))
 all_goals
  have hn:=Ac AM n.cache.bg;have hc:szCache n.cache=szL AM n.cache.bg:=rfl;have ha:=Jw n.servers a;have hs:=Fi DO n.log ⟨t,a,g⟩;have hs2:DO ⟨t,a,g⟩=t.size+szAddr a:=rfl;have hd:a.host.size<=szAddr a/\a.path.size<=szAddr a:=⟨Qc6 _ _,Nat.le_add_left _ _⟩;have hl:=Ac DO n.log;try simp only[fAnswerTo,fCopyNet,fFetchNow,fIsAddr,fKeepAnswer,fLookUp,fNotFound,std,Nat.reduceAdd,fetchNow,logSent,szNet] at *
  try simp(disch:=omega) only[wrapId',toNat1] at *
  try simp(disch:=omega) only[Qa1,Qa3]
 all_goals first|trivial|omega|grind[wrapId',toNat1,drop_cons,drop_end,good_len,maxLen,fetchNow,logSent,szNet,fCopyNet,fLookUp,fIsAddr,fKeepAnswer,fAnswerTo,fNotFound])
def newBuilder:Se_:=⟨[⟨⟨#[112,97,103,101]⟩,⟨#[]⟩,-1,[]⟩],[0]⟩
def fNewBuilder:Fct:=⟨[],[rE .ba],λ_=>True,λ_=>(newBuilder,())⟩
def Alf:=Ajz.a fNewBuilder<|Fct.o [0] Ajz.2 func106 (by
 rintro⟨_⟩ hp;refine ho (.lf fNewBuilder (⟨[(⟨(⟨#[112,97,103,101]⟩:ByteArray),(⟨#[]⟩:ByteArray),(-1:Int),[]⟩:Su_)],[(0:Int)]⟩,())) ?_;refine lfY ?_;all_goals
  try simp only[fNewBuilder,std,Nat.reduceAdd,newBuilder] at *
  try simp(disch:=omega) only[wrapId',toNat1] at *
  try simp(disch:=omega) only[Qa1,Qa3]
 all_goals first|trivial|omega|grind[wrapId',toNat1,drop_cons,drop_end,good_len,maxLen,newBuilder])
def Alx:=Alf.a fNewBuilder<|Fct.o [0] Alf.2 func122 (by
 rintro⟨_⟩ hp;refine ho (.lf fNewBuilder (⟨[(⟨(⟨#[112,97,103,101]⟩:ByteArray),(⟨#[]⟩:ByteArray),(-1:Int),[]⟩:Su_)],[(0:Int)]⟩,())) ?_;refine lfY ?_;all_goals
  try simp only[fNewBuilder,std,Nat.reduceAdd,newBuilder] at *
  try simp(disch:=omega) only[wrapId',toNat1] at *
  try simp(disch:=omega) only[Qa1,Qa3]
 all_goals first|trivial|omega|grind[wrapId',toNat1,drop_cons,drop_end,good_len,maxLen,newBuilder])
def newPage (a:Sb_) (x:Sd_):Sa_×Bool:=if(isName a.host&&isName a.path)=true/\isResponse x=true/\x.status=200/\x.kind=1 then(⟨a,(parsePolicy x.bj).1,default,[],false,newBuilder,[],[],[],0,0,0,0,[],[],false⟩,true) else(default,false)
def fNewPage:Fct:=⟨[.v (.el .addr),.v (.el .bd)],[.el .page,.el .bool],λ(x_:Sb_×Sd_×Unit)=>x_.2.1.bj.size<=200000000/\szAddr x_.1<=10000000,λ(x_:Sb_×Sd_×Unit)=>((newPage x_.1 x_.2.1).1,(newPage x_.1 x_.2.1).2,())⟩
def AjC:=Alx.a fNewPage<|Fct.o (KP [2,3,4,5,6,7] [35]) Alx.2 func65 (by
 rintro⟨(a:Sb_),(x:Sd_),_⟩ hp;refine ho (let q1_:=(⟨#[]⟩:ByteArray);let q0_:Out:=.leaf (.tup [(true,[vs q1_,vs q1_,vb (false),.nl,.nl,.nl,vs q1_,vs q1_,.nl,vb (false),.nl,.nl,.nl,.nl,.nl,vi ((0:Int)),vi ((0:Int)),vi ((0:Int)),vi ((0:Int)),.nl,.nl,vb (false)]),(false,[vb (false)])]) [] [];.cl fParsePolicy (x.bj,()) λz2=>.cl fIsAddr (a,()) λz3=>.br (!z3.1) q0_ (.cl fIsResponse (x,()) λz4=>.br (!z4.1) q0_ (.br (!z2.2.1) q0_ (.br (x.status != 200) q0_ (.br (x.kind != 1) q0_ (.cl fNewBuilder () λz5=>.leaf (.tup [(true,[vs (a.host),vs (a.path),vb (z2.1.set_),.l Ty.str (z2.1.bp),.l Ty.str (z2.1.styles),.l Ty.str (z2.1.images),vs (z2.1.nonce),vs q1_,.nl,vb (false),.l Ty.node (z5.1.bi),.l Ty.int (z5.1.bl),.nl,.nl,.nl,vi ((0:Int)),vi ((0:Int)),vi ((0:Int)),vi ((0:Int)),.nl,.nl,vb (false)]),(false,[vb (true)])]) [] [])))))) ?_;refine DP ?_ λo1 z2 ez2=>(DP ?_ λo2 z3 ez3=>(Ab (λh3=>Fct.leafZ (default,false,()) (by repeat' first|exact rfl|exact trivial|refine And.intro ?_ ?_) ?_) (λh3=>DP ?_ λo4 z4 ez4=>(Ab (λh5=>Fct.leafZ (default,false,()) (by repeat' first|exact rfl|exact trivial|refine And.intro ?_ ?_) ?_) (λh5=>Ab (λh6=>Fct.leafZ (default,false,()) (by repeat' first|exact rfl|exact trivial|refine And.intro ?_ ?_) ?_) (λh6=>Ab (λh7=>Fct.leafZ (default,false,()) (by repeat' first|exact rfl|exact trivial|refine And.intro ?_ ?_) ?_) (λh7=>Ab (λh8=>Fct.leafZ (default,false,()) (by repeat' first|exact rfl|exact trivial|refine And.intro ?_ ?_) ?_) (λh8=>DP trivial λ_ z5 ez5=>(Fct.leafZ (⟨a,z2.fst,default,[],false,z5.fst,[],[],[],(0:Int),(0:Int),(0:Int),(0:Int),[],[],false⟩,true,()) (by repeat' first|exact rfl|exact trivial|refine And.intro ?_ ?_) ?_)))))))))
 all_goals subst_vars
 all_goals
  have hd:a.host.size<=szAddr a/\a.path.size<=szAddr a:=⟨Qc6 _ _,Nat.le_add_left _ _⟩;try simp only[fIsAddr,fIsResponse,fNewBuilder,fNewPage,fParsePolicy,std,Nat.reduceAdd,newPage,isResponse] at *
  try simp(disch:=omega) only[wrapId',toNat1] at *
  try simp(disch:=omega) only[Qa1,Qa3]
 all_goals first|trivial|omega|grind[wrapId',toNat1,drop_cons,drop_end,good_len,maxLen,newPage,isResponse,fIsAddr,fIsResponse,fParsePolicy,fNewBuilder])
def Alc:=AjC.a fNewPage<|Fct.o (KP [2,3,4,5,6] [25]) AjC.2 func74 (by
 rintro⟨(a:Sb_),(x:Sd_),_⟩ hp;refine ho (let q1_:=(⟨#[]⟩:ByteArray);let q0_:Out:=.leaf (.tup [(true,[vs q1_,vs q1_,vb (false),.nl,.nl,.nl,vs q1_,vs q1_,.nl,vb (false),.nl,.nl,.nl,.nl,.nl,vi ((0:Int)),vi ((0:Int)),vi ((0:Int)),vi ((0:Int)),.nl,.nl,vb (false)]),(false,[vb (false)])]) [] [];.cl fIsAddr (a,()) λz2=>.br (!z2.1) q0_ (.cl fIsResponse (x,()) λz3=>.br (!z3.1) q0_ (.br (x.status != 200) q0_ (.br (x.kind != 1) q0_ (.cl fParsePolicy (x.bj,()) λz4=>.cl fNewBuilder () λz5=>.leaf (.tup [(true,[vs (a.host),vs (a.path),vb (z4.1.set_),.l Ty.str (z4.1.bp),.l Ty.str (z4.1.styles),.l Ty.str (z4.1.images),vs (z4.1.nonce),vs q1_,.nl,vb (false),.l Ty.node (z5.1.bi),.l Ty.int (z5.1.bl),.nl,.nl,.nl,vi ((0:Int)),vi ((0:Int)),vi ((0:Int)),vi ((0:Int)),.nl,.nl,vb (false)]),(false,[vb (true)])]) [] []))))) ?_;refine DP ?_ λo1 z2 ez2=>(Ab (λh2=>Fct.leafZ (default,false,()) (by repeat' first|exact rfl|exact trivial|refine And.intro ?_ ?_) ?_) (λh2=>DP ?_ λo3 z3 ez3=>(Ab (λh4=>Fct.leafZ (default,false,()) (by repeat' first|exact rfl|exact trivial|refine And.intro ?_ ?_) ?_) (λh4=>Ab (λh5=>Fct.leafZ (default,false,()) (by repeat' first|exact rfl|exact trivial|refine And.intro ?_ ?_) ?_) (λh5=>Ab (λh6=>Fct.leafZ (default,false,()) (by repeat' first|exact rfl|exact trivial|refine And.intro ?_ ?_) ?_) (λh6=>DP ?_ λo7 z4 ez4=>(DP trivial λ_ z5 ez5=>(Fct.leafZ (⟨a,z4.fst,default,[],false,z5.fst,[],[],[],(0:Int),(0:Int),(0:Int),(0:Int),[],[],false⟩,true,()) (by repeat' first|exact rfl|exact trivial|refine And.intro ?_ ?_) ?_))))))))
 all_goals subst_vars
 all_goals
  have hd:a.host.size<=szAddr a/\a.path.size<=szAddr a:=⟨Qc6 _ _,Nat.le_add_left _ _⟩;try simp only[fIsAddr,fIsResponse,fNewBuilder,fNewPage,fParsePolicy,std,Nat.reduceAdd,newPage,isResponse] at *
  try simp(disch:=omega) only[wrapId',toNat1] at *
  try simp(disch:=omega) only[Qa1,Qa3]
 all_goals first|trivial|omega|grind[wrapId',toNat1,drop_cons,drop_end,good_len,maxLen,newPage,isResponse,fIsAddr,fIsResponse,fParsePolicy,fNewBuilder])
def startLoad (n:Ss_) (a:Sb_) (cs:List Int):Sc_×Bool:=if(newPage a (fetchNow n a.host a false).2).2 then(⟨(fetchNow n a.host a false).1,(newPage a (fetchNow n a.host a false).2).1,cutText (fetchNow n a.host a false).2.body cs,[],[]⟩,true) else(⟨(fetchNow n a.host a false).1,default,[],[],[]⟩,false)
def Zk {c:Sl_} {t:ByteArray} {a:Sb_} {now:Int} {x:Sd_} (h:lookUp c t a now=some x):Ad x<=szCache c:=by
 unfold lookUp at h;obtain⟨e,he,rfl⟩:=Option.map_eq_some_iff.1 h;obtain⟨i,hi,rfl⟩:=List.mem_iff_getElem.1 (List.mem_of_find?_eq_some he);have:=DZ AM (l:=c.bg) (i:=i) hi;rw[Qb2,Qa5 hi] at this;simp only[Option.getD_some,AM] at this;simp only[szCache];omega
def Ac6 (n:Ss_) (t:ByteArray) (a:Sb_) (g:Bool):Ad (fetchNow n t a g).2<=szNet n:=by
 unfold fetchNow;split
 ·exact Nat.zero_le _
 split
 ·rename_i h;obtain⟨x,hx⟩:=Option.isSome_iff_exists.1 h;have:=Zk hx;rw[hx];simp only[Option.getD_some,szNet];omega
 ·have:=Jw n.servers a;simp only[szNet];omega
def ED:Fct:=⟨[.v (.el .net),.v (.el .addr),.v (.sl .int)],[.el .loader,.el .bool],λ(x_:Ss_×Sb_×(List Int)×Unit)=>szNet x_.1<=1048576/\szAddr x_.2.1<=1048576/\x_.2.2.1.length<=1048576,λ(x_:Ss_×Sb_×(List Int)×Unit)=>((startLoad x_.1 x_.2.1 x_.2.2.1).1,(startLoad x_.1 x_.2.1 x_.2.2.1).2,())⟩
theorem q11 (n:Ss_) (a:Sb_) (cs:List Int) (hp:ED.pre (n,a,cs,())):Out.holds (ED.ctr (n,a,cs,())).post (.cl fFetchNow (n,a.host,a,false,()) λz2=>.cl fNewPage (a,z2.2.1,()) λz3=>.br (!z3.2.1) (.leaf (.tup [(true,[.l Ty.server (z2.1.servers),.l Ty.entry (z2.1.cache.bg),.l Ty.sent (z2.1.log),vi (z2.1.now),vs ((⟨#[]⟩:ByteArray)),vs ((⟨#[]⟩:ByteArray)),vb (false),.nl,.nl,.nl,vs ((⟨#[]⟩:ByteArray)),vs ((⟨#[]⟩:ByteArray)),.nl,vb (false),.nl,.nl,.nl,.nl,.nl,vi ((0:Int)),vi ((0:Int)),vi ((0:Int)),vi ((0:Int)),.nl,.nl,vb (false),.nl,.nl,.nl]),(false,[vb (false)])]) [] []) (.cl fCutText (z2.2.1.body,cs,()) λz4=>.leaf (.tup [(true,[.l Ty.server (z2.1.servers),.l Ty.entry (z2.1.cache.bg),.l Ty.sent (z2.1.log),vi (z2.1.now),vs (z3.1.addr.host),vs (z3.1.addr.path),vb (z3.1.bj.set_),.l Ty.str (z3.1.bj.bp),.l Ty.str (z3.1.bj.styles),.l Ty.str (z3.1.bj.images),vs (z3.1.bj.nonce),vs (z3.1.tok.rest),.l Ty.token (z3.1.bn),vb (z3.1.ended),.l Ty.node (z3.1.ba.bi),.l Ty.int (z3.1.ba.bl),.l Ty.slot (z3.1.bf),.l Ty.module (z3.1.bh),.l Ty.addr (z3.1.bg),vi (z3.1.block),vi (z3.1.inline),vi (z3.1.bm),vi (z3.1.bq),.l Ty.addr (z3.1.ran),.l Ty.str (z3.1.log),vb (z3.1.loaded),.l Ty.str (z4.1),.nl,.nl]),(false,[vb (true)])]) [] [])):=by
 refine DP ?_ λo1 z2 ez2=>(DP ?_ λo2 z3 ez3=>(Ab (λh3=>Fct.leafZ (⟨z2.fst,default,[],[],[]⟩,false,()) (by repeat' first|exact rfl|exact trivial|refine And.intro ?_ ?_) ?_) (λh3=>DP ?_ λo4 z4 ez4=>(Fct.leafZ (⟨z2.fst,z3.fst,z4.fst,[],[]⟩,true,()) (by repeat' first|exact rfl|exact trivial|refine And.intro ?_ ?_) ?_))))
 all_goals subst_vars
 all_goals
  have hf:=Ac6 n a.host a false;have hd:a.host.size<=szAddr a/\a.path.size<=szAddr a:=⟨Qc6 _ _,Nat.le_add_left _ _⟩;have he:(fetchNow n a.host a false).2.body.size<=Ad (fetchNow n a.host a false).2/\(fetchNow n a.host a false).2.bj.size<=Ad (fetchNow n a.host a false).2:=⟨Qc6 _ _,Nat.le_add_left _ _⟩;try simp only[fCutText,fFetchNow,fNewPage,ED,std,Nat.reduceAdd,startLoad,szNet] at *
  try simp(disch:=omega) only[wrapId',toNat1] at *
  try simp(disch:=omega) only[Qa1,Qa3]
 all_goals first|trivial|omega|grind[wrapId',toNat1,drop_cons,drop_end,good_len,maxLen,startLoad,szNet,fFetchNow,fNewPage,fCutText]
def AkS:=Alc.a ED<|Fct.o (KP [2,3,4,6,7,8,9,10,11,12] [30]) Alc.2 func22 (by
 rintro⟨(n:Ss_),(a:Sb_),(cs:List Int),_⟩ hp;exact ho _ (q11 n a cs hp))
def AiP:=AkS.a ED<|Fct.o (KP [2,3,4,6,7,8,9,10,11] [27]) AkS.2 func27 (by
 rintro⟨(n:Ss_),(a:Sb_),(cs:List Int),_⟩ hp;exact ho _ (q11 n a cs hp))
def M9 (s:ByteArray) (cs:List Int):∀ (f:Nat) (i a:Int),∀ x∈cutGo s cs f i a,Af x<=s.size
 | 0,i,a,x,h=>by
  simp only[cutGo,List.mem_singleton] at h;subst h;simp only[Af,Qc1];omega
 | f+1,i,a,x,h=>by
  simp only[cutGo] at h;split at h
  ·rcases Qd6.1 h with rfl|h
   ·simp only[Af,Qc1];omega
   ·exact M9 s cs f _ _ x h
  ·exact M9 s cs f _ _ x h
def VI (s:ByteArray) (cs:List Int):szL Af (cutText s cs)<=(s.size+1)*8 :=
 Qd8 (AgO (λx hx=>M9 s cs _ _ _ x hx)) (Nat.mul_le_mul_left _ (S9 s cs))
def AcM (s:ByteArray):szPolicy (parsePolicy s).1<=4*(s.size+1):=by
 unfold parsePolicy;split
 ·have:szPolicy (default:Si_)=0:=by decide
  simp only[this];exact Nat.zero_le _
 split
 ·unfold polCand;exact Ro (by
   split
   ·rw[Qc1];have:=Em 59 s 3;omega
   ·exact Nat.zero_le _)
 ·have:szPolicy (default:Si_)=0:=by decide
  simp only[this];exact Nat.zero_le _
def digestOf (b:ByteArray):Int:=hashI (151::bti (A2 b) (A2 b)) 11
def KO (b:ByteArray) (i:Nat):0<=(A2 b).getD i default/\(A2 b).getD i default<=255:=by
 unfold A2;rw[Qb2,Qc3];cases h:b.data.toList[i]? with
 | none=>exact⟨Int.le_refl _,by decide⟩
 | some x=>have:=x.toNat_lt;simp only[Qb9,Option.getD_some];omega
def GP (b:ByteArray):(A2 b).length=b.size:=by rw[A2,Qe9];rfl
def QY (b:ByteArray):List.map (λb:UInt8=>(b.toNat:Int)) b.data.toList=A2 b:=rfl
def AgN {b:ByteArray} (hb:b.size<=1000000000) (i:Nat) : -9223372036854775808<=(151::bti (A2 b) (A2 b)).getD i default/\(151::bti (A2 b) (A2 b)).getD i default<=9223372036854775807:=by
 match i with
 | 0=>
  simp
 | 1=>
  show -9223372036854775808<=((A2 b).length:Int)/\((A2 b).length:Int)<=9223372036854775807;rw[GP];omega
 | i+2=>
  have:=KO b i;show -9223372036854775808<=(A2 b).getD i default/\(A2 b).getD i default<=9223372036854775807;omega
def AfA (b:ByteArray):(151::bti (A2 b) (A2 b)).length=b.size+2:=by simp[bti,GP]
def fDigestOf:Fct:=⟨[.v (.el .str)],[.el .int],λ(x_:ByteArray×Unit)=>x_.1.size<=1000000000,λ(x_:ByteArray×Unit)=>(digestOf x_.1,())⟩
theorem q12 (b:ByteArray) (hp:fDigestOf.pre (b,())):Out.holds (fDigestOf.ctr (b,())).post (.cl Dq (List.map (λb=>(b.toNat:Int)) b.data.toList,()) λ(z2:List Int×PUnit)=>.ob (True)<|.ob (Br (1+z2.1.length) 8)<|.cl Pb ([(151:Int)]++z2.1,()) λ(z3:Int×PUnit)=>.lf fDigestOf (z3.1,())):=by
 refine Ae ?_ λ_=>(Aa trivial λ_=>Aa ?_ λ_=>Ae ?_ λ_=>(lfY ?_))
 all_goals
  have h1:=KO b;have h2:=GP b;have h3:=AfA b;have h4:=AgN (show b.size<=1000000000 from hp);try simp only[Dq,fDigestOf,Pb,std,Nat.reduceAdd,QY,digestOf,List.singleton_append] at *
 all_goals first|trivial|omega|exact⟨o_,λi _=>h1 i⟩|exact⟨o_,λi _=>h4 i⟩|skip
def AjN:=AiP.a fDigestOf<|Fct.o [0,2] AiP.2 func416 (by
 rintro⟨(b:ByteArray),_⟩ hp;exact ho _ (q12 b hp))
def Ai8:=AjN.a fDigestOf<|Fct.o [0,2] AjN.2 func433 (by
 rintro⟨(b:ByteArray),_⟩ hp;exact ho _ (q12 b hp))
def Nj:∀ (l:List Int) (d:Int),0<=d->d<2147483647->0<=hashI l d/\hashI l d<2147483647
 | [],d,h0,h1=>⟨h0,h1⟩
 | x::l,d,h0,h1=>by have hm:=J8 x;have ht:=Kj (x:=d*1000003+modM x 2147483647+13) o_;exact Nj l _ ht.1 ht.2
def QX (b:ByteArray):0<=digestOf b/\digestOf b<2147483647:=Nj _ 11 (by decide) (by decide)
def fCheckDigest:Fct:=⟨[.v (.el .str),.v (.el .str)],[.el .bool],λ(x_:ByteArray×ByteArray×Unit)=>x_.1.size<=1000000000,λ(x_:ByteArray×ByteArray×Unit)=>(decide (x_.2.1=⟨#[]⟩)||decide (x_.2.1=Iv (digestOf x_.1)),())⟩
theorem q13 (b:ByteArray) (v:ByteArray) (hp:fCheckDigest.pre (b,v,())):Out.holds (fCheckDigest.ctr (b,v,())).post (.br (ByteArray.toList v==(⟨#[]⟩:ByteArray).toList) (.lf fCheckDigest (true,())) (.cl fDigestOf (b,()) λ(z2:Int×PUnit)=>.cl fFormatInt (z2.1,()) λz3=>.lf fCheckDigest (ByteArray.toList v==z3.1.toList,()))):=by
 refine Ab (λh1=>lfY ?_) (λh1=>Ae ?_ λ_=>(Ae ?_ λ_=>(lfY ?_)));all_goals
  have h:=QX b;try simp only[fCheckDigest,fDigestOf,fFormatInt,std,Nat.reduceAdd] at *
  try simp(disch:=omega) only[wrapId',toNat1] at *
  try simp(disch:=omega) only[Qa1,Qa3]
 all_goals first|trivial|omega|grind[wrapId',toNat1,drop_cons,drop_end,good_len,maxLen,fDigestOf,fFormatInt]
def Am8:=Ai8.a fCheckDigest<|Fct.o [0,1,4] Ai8.2 func373 (by
 rintro⟨(b:ByteArray),(v:ByteArray),_⟩ hp;exact ho _ (q13 b v hp))
def AjJ:=Am8.a fCheckDigest<|Fct.o [0,1,4] Am8.2 func400 (by
 rintro⟨(b:ByteArray),(v:ByteArray),_⟩ hp;exact ho _ (q13 b v hp))
def checkResponse (p:Si_) (r:Sf_) (x:Sd_):Int:=if checkRequest p r≠1 then 2 else if isResponse x=false\/x.status≠200 then 3 else if(decide (x.kind=r.kind)||decide (r.kind=5/\x.kind=2))=false then 4 else if r.from_≠r.to.host/\x.shares=false/\(r.kind=5\/r.digest≠⟨#[]⟩) then 5 else if(decide (r.digest=⟨#[]⟩)||decide (r.digest=Iv (digestOf x.body)))=false then 6 else 1
def Hp {p:Si_} {r:Sf_} (h:checkRequest p r≠1):checkRequest p r=2:=by
 unfold checkRequest at *;split<;>simp_all
def fCheckResponse:Fct:=⟨[.v (.el .bj),.v (.el .request),.v (.el .bd)],[.el .int],λ(x_:Si_×Sf_×Sd_×Unit)=>szPolicy x_.1<=1099511627776/\szRequest x_.2.1<=1099511627776/\x_.2.2.1.bj.size<=200000000/\x_.2.2.1.body.size<=1000000000,λ(x_:Si_×Sf_×Sd_×Unit)=>(checkResponse x_.1 x_.2.1 x_.2.2.1,())⟩
def Amx:=AjJ.a fCheckResponse<|Fct.o (KP [3,4,5,6] [7,12,21,27,49]) AjJ.2 func318 (by
 rintro⟨(p:Si_),(r:Sf_),(x:Sd_),_⟩ hp;refine ho (let q2_:Out:=.lf fCheckResponse ((5:Int),());let q1_:Out:=.lf fCheckResponse ((3:Int),());let q0_:Out:=.cl fCheckDigest (x.body,r.digest,()) λz5=>.br (!z5.1) (.lf fCheckResponse ((6:Int),())) (.lf fCheckResponse ((1:Int),()));.cl fCheckRequest (p,r,()) λ(z2:Int×PUnit)=>.br (z2.1 != 1) (.lf fCheckResponse ((2:Int),())) (.cl fIsResponse (x,()) λz3=>.br (!z3.1) q1_ (.br (x.status != 200) q1_ (.cl fFitsKind (x,r.kind,()) λz4=>.br (!z4.1) (.lf fCheckResponse ((4:Int),())) (.br (!r.from_.toList==r.to.host.toList) (.br (!x.shares) (.br (r.kind==5) q2_ (.br (!r.digest.toList==(⟨#[]⟩:ByteArray).toList) q2_ q0_)) q0_) q0_))))) ?_;repeat' first|(guard_target =~ Out.holds _ _;first|refine lfY ?_|refine Ab (λ_=>?_) λ_=>?_|refine Ae ?_ λ_=>?_)|exact trivial
 all_goals
  have hc:=λh=>Hp (p:=p) (r:=r) h
  try simp only[fCheckDigest,fCheckRequest,fCheckResponse,fFitsKind,fIsResponse,std,Nat.reduceAdd,checkResponse] at *
  try simp(disch:=omega) only[wrapId',toNat1] at *
  try simp(disch:=omega) only[Qa1,Qa3]
 all_goals first|trivial|omega|grind[wrapId',toNat1,drop_cons,drop_end,good_len,maxLen,checkResponse,fCheckRequest,fIsResponse,fFitsKind,fCheckDigest])
def AlD:=Amx.a fCheckResponse<|Fct.o (KP [3,4,5,6] [7,15,24,30,52]) Amx.2 func350 (by
 rintro⟨(p:Si_),(r:Sf_),(x:Sd_),_⟩ hp;refine ho (let q2_:Out:=.lf fCheckResponse ((5:Int),());let q1_:Out:=.lf fCheckResponse ((3:Int),());let q0_:Out:=.cl fCheckDigest (x.body,r.digest,()) λz6=>.br (!z6.1) (.lf fCheckResponse ((6:Int),())) (.lf fCheckResponse ((1:Int),()));.cl fCheckRequest (p,r,()) λ(z2:Int×PUnit)=>.br (z2.1 != 1) (.cl fCheckRequest (p,r,()) λ(z3:Int×PUnit)=>.lf fCheckResponse (z3.1,())) (.cl fIsResponse (x,()) λz4=>.br (!z4.1) q1_ (.br (x.status != 200) q1_ (.cl fFitsKind (x,r.kind,()) λz5=>.br (!z5.1) (.lf fCheckResponse ((4:Int),())) (.br (!r.from_.toList==r.to.host.toList) (.br (!x.shares) (.br (r.kind==5) q2_ (.br (!r.digest.toList==(⟨#[]⟩:ByteArray).toList) q2_ q0_)) q0_) q0_))))) ?_;repeat' first|(guard_target =~ Out.holds _ _;first|refine lfY ?_|refine Ab (λ_=>?_) λ_=>?_|refine Ae ?_ λ_=>?_)|exact trivial
 all_goals
  have hc:=λh=>Hp (p:=p) (r:=r) h
  try simp only[fCheckDigest,fCheckRequest,fCheckResponse,fFitsKind,fIsResponse,std,Nat.reduceAdd,checkResponse] at *
  try simp(disch:=omega) only[wrapId',toNat1] at *
  try simp(disch:=omega) only[Qa1,Qa3]
 all_goals first|trivial|omega|grind[wrapId',toNat1,drop_cons,drop_end,good_len,maxLen,checkResponse,fCheckRequest,fIsResponse,fFitsKind,fCheckDigest])
def usable (p:Si_) (r:Sf_) (x:Sd_):ByteArray×Bool:=if checkResponse p r x=1 then(x.body,true) else(⟨#[]⟩,false)
def A5:Fct:=⟨[.v (.el .bj),.v (.el .request),.v (.el .bd)],[.el .str,.el .bool],λ(x_:Si_×Sf_×Sd_×Unit)=>szPolicy x_.1<=1099511627776/\szRequest x_.2.1<=1099511627776/\x_.2.2.1.bj.size<=200000000/\x_.2.2.1.body.size<=1000000000,λ(x_:Si_×Sf_×Sd_×Unit)=>((usable x_.1 x_.2.1 x_.2.2.1).1,(usable x_.1 x_.2.1 x_.2.2.1).2,())⟩
theorem q14 (p:Si_) (r:Sf_) (x:Sd_) (hp:A5.pre (p,r,x,())):Out.holds (A5.ctr (p,r,x,())).post (.cl fCheckResponse (p,r,x,()) λ(z2:Int×PUnit)=>.br (z2.1 != 1) (.lf A5 ((⟨#[]⟩:ByteArray),false,())) (.lf A5 (x.body,true,()))):=by
 refine Ae ?_ λ_=>(Ab (λh2=>lfY ?_) (λh2=>lfY ?_))
 all_goals
  try simp only[fCheckResponse,A5,std,Nat.reduceAdd,usable] at *
  try simp(disch:=omega) only[wrapId',toNat1] at *
  try simp(disch:=omega) only[Qa1,Qa3]
 all_goals first|trivial|omega|grind[wrapId',toNat1,drop_cons,drop_end,good_len,maxLen,usable,fCheckResponse]
def Amj:=AlD.a A5<|Fct.o (KP [3,4,5,6,7] [12]) AlD.2 func319 (by
 rintro⟨(p:Si_),(r:Sf_),(x:Sd_),_⟩ hp;exact ho _ (q14 p r x hp))
def AnK:=Amj.a A5<|Fct.o (KP [3,4,5,6,7] [12]) Amj.2 func351 (by
 rintro⟨(p:Si_),(r:Sf_),(x:Sd_),_⟩ hp;exact ho _ (q14 p r x hp))
def kindOf (m:Int):Int:=if m=1 then 4 else if m=2 then 3 else if m=3\/m=4 then 2 else 0
def fKindOfMode:Fct:=⟨[.v (.el .int)],[.el .int],λ(x_:Int×Unit)=>True,λ(x_:Int×Unit)=>(kindOf x_.1,())⟩
theorem q15 (m:Int) (hp:fKindOfMode.pre (m,())):Out.holds (fKindOfMode.ctr (m,())).post (.br (m==1) (.lf fKindOfMode ((4:Int),())) (.br (m==2) (.lf fKindOfMode ((3:Int),())) (.br (m==3) (.br (m==3) (.lf fKindOfMode ((2:Int),())) (.lf fKindOfMode ((0:Int),()))) (.br (m==4) (.lf fKindOfMode ((2:Int),())) (.lf fKindOfMode ((0:Int),())))))):=by
 repeat' (guard_target =~ Out.holds _ _;first|refine lfY ?_|refine Ab (λ_=>?_) λ_=>?_)
 all_goals
  try simp only[fKindOfMode,std,Nat.reduceAdd,kindOf] at *
  try simp(disch:=omega) only[wrapId',toNat1] at *
  try simp(disch:=omega) only[Qa1,Qa3]
 all_goals first|trivial|omega|grind[wrapId',toNat1,drop_cons,drop_end,good_len,maxLen,kindOf]
def Alu:=AnK.a fKindOfMode<|Fct.o (KP [0,2,3,8] [4,6]) AnK.2 func315 (by
 rintro⟨(m:Int),_⟩ hp;exact ho _ (q15 m hp))
def Aml:=Alu.a fKindOfMode<|Fct.o (KP [0,2,3,8] [4,6]) Alu.2 func347 (by
 rintro⟨(m:Int),_⟩ hp;exact ho _ (q15 m hp))
def slotRequest (p:Sa_) (k:Int):Sf_:=if 0<=k/\k<p.bf.length then⟨kindOf (p.bf.getD k.toNat default).mode,(p.bf.getD k.toNat default).to,p.addr.host,(p.bf.getD k.toNat default).digest⟩ else default
def Aw:Fct:=⟨[.v (.el .page),.v (.el .int)],[.el .request],λ(x_:Sa_×Int×Unit)=>x_.1.bf.length<=1000000000000/\-9223372036854775808<=x_.2.1/\x_.2.1<=9223372036854775807,λ(x_:Sa_×Int×Unit)=>(slotRequest x_.1 x_.2.1,())⟩
def Aln:=Aml.a Aw<|Fct.o (KP [1,2,4,5] [12]) Aml.2 func251 (by
 rintro⟨(p:Sa_),(k:Int),_⟩ hp;refine ho (.cl fInRange (k,(0:Int),wr ((p.bf.length:Int)-(1:Int)),()) λz2=>.br (!z2.1) (.lf Aw (default,())) (.ob (inB k p.bf.length)<|.cl fKindOfMode ((p.bf.getD (Int.toNat k) default).mode,()) λ(z3:Int×PUnit)=>.lf Aw (⟨z3.1,(p.bf.getD (Int.toNat k) default).to,p.addr.host,(p.bf.getD (Int.toNat k) default).digest⟩,()))) ?_;refine Ae trivial λ_=>(Ab (λh1=>lfY ?_) (λh1=>Aa ?_ λ_=>Ae trivial λ_=>(lfY ?_)))
 all_goals
  try simp only[fInRange,fKindOfMode,Aw,std,Nat.reduceAdd,slotRequest,inRange] at *
  try simp(disch:=omega) only[wrapId',toNat1] at *
  try simp(disch:=omega) only[Qa1,Qa3]
 all_goals first|trivial|omega|grind[wrapId',toNat1,drop_cons,drop_end,good_len,maxLen,slotRequest,fKindOfMode,fInRange,inRange])
def Ak7:=Aln.a Aw<|Fct.o (KP [1,2,4,5] [14]) Aln.2 func286 (by
 rintro⟨(p:Sa_),(k:Int),_⟩ hp;refine ho (.br (decide (k<0)) (.lf Aw (default,())) (.br (decide (k>=(p.bf.length:Int))) (.lf Aw (default,())) (.ob (inB k p.bf.length)<|.cl fKindOfMode ((p.bf.getD (Int.toNat k) default).mode,()) λ(z2:Int×PUnit)=>.lf Aw (⟨z2.1,(p.bf.getD (Int.toNat k) default).to,p.addr.host,(p.bf.getD (Int.toNat k) default).digest⟩,())))) ?_;refine Ab (λh1=>lfY ?_) (λh1=>Ab (λh2=>lfY ?_) (λh2=>Aa ?_ λ_=>Ae trivial λ_=>(lfY ?_)));all_goals
  try simp only[fKindOfMode,Aw,std,Nat.reduceAdd,slotRequest,fInRange,inRange] at *
  try simp(disch:=omega) only[wrapId',toNat1] at *
  try simp(disch:=omega) only[Qa1,Qa3]
 all_goals first|trivial|omega|grind[wrapId',toNat1,drop_cons,drop_end,good_len,maxLen,slotRequest,fKindOfMode,fInRange,inRange])
def modRequest (p:Sa_) (k:Int):Sf_:=if 0<=k/\k<p.bh.length then⟨5,(p.bh.getD k.toNat default).to,p.addr.host,⟨#[]⟩⟩ else default
def AE:Fct:=⟨[.v (.el .page),.v (.el .int)],[.el .request],λ(x_:Sa_×Int×Unit)=>x_.1.bh.length<=2000000000000/\-9223372036854775808<=x_.2.1/\x_.2.1<=9223372036854775807,λ(x_:Sa_×Int×Unit)=>(modRequest x_.1 x_.2.1,())⟩
def AmS:=Ak7.a AE<|Fct.o (KP [1,2,4] [11]) Ak7.2 func253 (by
 rintro⟨(p:Sa_),(k:Int),_⟩ hp;refine ho (.cl fInRange (k,(0:Int),wr ((p.bh.length:Int)-(1:Int)),()) λz2=>.br (!z2.1) (.lf AE (default,())) (.ob (inB k p.bh.length)<|.lf AE (⟨(5:Int),(p.bh.getD (Int.toNat k) default).to,p.addr.host,(⟨#[]⟩:ByteArray)⟩,()))) ?_;refine Ae trivial λ_=>(Ab (λh1=>lfY ?_) (λh1=>Aa ?_ λ_=>lfY ?_))
 all_goals
  try simp only[fInRange,AE,std,Nat.reduceAdd,modRequest,inRange] at *
  try simp(disch:=omega) only[wrapId',toNat1] at *
  try simp(disch:=omega) only[Qa1,Qa3]
 all_goals first|trivial|omega|grind[wrapId',toNat1,drop_cons,drop_end,good_len,maxLen,modRequest,fInRange,inRange])
def AnS:=AmS.a AE<|Fct.o (KP [1,2,4] [13]) AmS.2 func288 (by
 rintro⟨(p:Sa_),(k:Int),_⟩ hp;refine ho (.br (decide (k<0)) (.lf AE (default,())) (.br (decide (k>=(p.bh.length:Int))) (.lf AE (default,())) (.ob (inB k p.bh.length)<|.lf AE (⟨(5:Int),(p.bh.getD (Int.toNat k) default).to,p.addr.host,(⟨#[]⟩:ByteArray)⟩,())))) ?_;refine Ab (λh1=>lfY ?_) (λh1=>Ab (λh2=>lfY ?_) (λh2=>Aa ?_ λ_=>lfY ?_));all_goals
  try simp only[AE,std,Nat.reduceAdd,modRequest,fInRange,inRange] at *
  try simp(disch:=omega) only[wrapId',toNat1] at *
  try simp(disch:=omega) only[Qa1,Qa3]
 all_goals first|trivial|omega|grind[wrapId',toNat1,drop_cons,drop_end,good_len,maxLen,modRequest,fInRange,inRange])
def addrOf (s b:ByteArray):Sb_:=match Ft 47 (toL s) with
 | some (p,q)=>⟨ofL p,ofL q⟩
 | none=>⟨b,s⟩
def parseAddr (s b:ByteArray):Sb_×Bool:=if isName (addrOf s b).host&&isName (addrOf s b).path then(addrOf s b,true) else(default,false)
def VC {s b:ByteArray} {i:Nat} (h:i<s.size) (hb:s.data.getD i 0=47) (hn:47∉(toL s).take i):addrOf s b=⟨s.extract 0 i,s.extract (i+1) s.size⟩:=by
 unfold addrOf;rw[Z9 h hb hn];have e1:ofL ((toL s).take i)=s.extract 0 i:=by rw[<-DW (s.extract 0 i),Bo,Qe7]
 have e2:ofL ((toL s).drop (i+1))=s.extract (i+1) s.size:=by rw[<-DW (s.extract (i+1) s.size),Bo,Qb0 (by rw[BQ];exact Qa7 _)]
 simp only[e1,e2]
def V4 {s b:ByteArray} {i:Nat} (h:s.size<=i) (hn:47∉(toL s).take i):addrOf s b=⟨b,s⟩:=by
 rw[Qb0 (by rw[BQ];exact h)] at hn;unfold addrOf;rw[Me hn]
def PE {b:UInt8}:∀ {l p q:List UInt8},Ft b l=some (p,q)->p.length<=l.length/\q.length<=l.length
 | [],p,q,h=>by cases h
 | x::l,p,q,h=>by
  rw[Ft] at h;split at h
  ·simp_all
  ·obtain⟨r,hr,he⟩:=Option.map_eq_some_iff.1 h;simp only[Qc9] at he;obtain⟨rfl,rfl⟩:=he;have:=PE (p:=r.1) (q:=r.2) hr;grind
def Jq (s b:ByteArray):(addrOf s b).host.size<=s.size+b.size/\(addrOf s b).path.size<=s.size:=by
 unfold addrOf;cases h:Ft 47 (toL s) with
 | none=>exact⟨by simp only;omega,Qa7 _⟩
 | some r=>
  have:=PE (p:=r.1) (q:=r.2) h;rw[BQ] at this;simp only[F5];omega
def Jp (b:ByteArray):parseAddr ⟨#[]⟩ b=(default,false):=by
 unfold parseAddr;have:addrOf ⟨#[]⟩ b=⟨b,⟨#[]⟩⟩:=rfl;rw[this,Qa3];rw[show isName ⟨#[]⟩=false from rfl,Bool.and_false];decide
def V6 (s b:ByteArray):addrOf s b=if(Fx 47 s).2.2 then⟨(Fx 47 s).1,(Fx 47 s).2.1⟩ else⟨b,s⟩:=by
 unfold addrOf Fx;grind
def fParseAddr:Fct:=⟨[.v (.el .str),.v (.el .str)],[.el .addr,.el .bool],λ(x_:ByteArray×ByteArray×Unit)=>x_.1.size<=4000000000/\x_.2.1.size<=4000000000,λ(x_:ByteArray×ByteArray×Unit)=>((parseAddr x_.1 x_.2.1).1,(parseAddr x_.1 x_.2.1).2,())⟩
def AeN:Go.Proofs.Lays.n145 Tryz.prog laysCmp_r:=by repeat' first|kernel_rfl|constructor|intro _
def AkP:=AnS.a TP<|Ahq λs sep w h hs=>by obtain⟨m,hm⟩:=LC (zero := #[.int .i64 0]) (t:=3) (g:=laysCmp_r.g 1) h (Qg3 k_) k_ rfl k_ k_ Tryz.underlying3;exact Go.Proofs.Any.strings_Cut AeN s sep m w hs hm
def AdJ {s:ByteArray} {i:Nat}:((s.data.getD i 0).toNat:Int)=47↔s.data.getD i 0=47:=MB (b:=47) o_ o_
abbrev CI (s:ByteArray) (b:ByteArray):LInv:=⟨[⟨.b,6,true,.el .addr⟩,⟨.s,7,true,.el .int⟩,⟨.b,4,true,.el .addr⟩],λ(z_ x_:Sb_×Int×Sb_×Unit)=>(0<=x_.2.1/\x_.2.1<=s.size/\x_.1=⟨b,s⟩/\47∉(toL s).take x_.2.1.toNat)/\x_.2.2.1=z_.2.2.1,λ(x_:Sb_×Int×Sb_×Unit)=>s.size-x_.2.1.toNat⟩
def AiO:=AkP.a fParseAddr<|Fct.p (KP [0,1,4,5,6,7] [14,20,31]) (λ⟨s,b,_⟩=>lv [(3,CI s b)]) AkP.2 func375 (by
 rintro⟨(s:ByteArray),(b:ByteArray),_⟩ hp;refine ho (lpx (CI s b) ((⟨b,s⟩:Sb_),((0:Int),(default,()))) λ(y1:Sb_×Int×Sb_×PUnit) bk1=>.br (decide (y1.2.1<(s.size:Int))) (.ob (0<=y1.2.1/\y1.2.1<(s.size:Int))<|.br ((↑(s.data.getD y1.2.1.toNat 0).toNat:Int)==47) (.ob (0<=y1.2.1/\y1.2.1<=(s.size:Int))<|.ob (0<=w1 y1.2.1/\w1 y1.2.1<=(s.size:Int))<|.cl fIsAddr ((⟨s.extract 0 y1.2.1.toNat,s.extract (w1 y1.2.1).toNat s.size⟩:Sb_),()) λz2=>.br (!z2.1) (.lf fParseAddr (default,false,())) (.lf fParseAddr (⟨s.extract 0 y1.2.1.toNat,s.extract (w1 y1.2.1).toNat s.size⟩,true,()))) (.ob (Value.string s=Value.string s)<|.ob (Value.string b=Value.string b)<|.ob (bk1 (y1.1,(w1 y1.2.1,(y1.2.2.1,()))))<|.ok)) (.cl fIsAddr (y1.1,()) λz3=>.br (!z3.1) (.lf fParseAddr (default,false,())) (.lf fParseAddr (y1.1,true,())))) ?_;refine Ai ?_ λ(y1:Sb_×Int×Sb_×PUnit) i1=>Ab (λh2=>Aa ?_ λ_=>Ab (λh4=>Aa ?_ λ_=>Aa ?_ λ_=>Ae ?_ λ_=>(Ab (λh8=>lfY ?_) (λh8=>lfY ?_))) (λh4=>Aa rfl λ_=>Aa rfl λ_=>Aa ?_ λ_=>trivial)) (λh2=>Ae ?_ λ_=>(Ab (λh11=>lfY ?_) (λh11=>lfY ?_)))
 all_goals have hz:=Jq s b
 all_goals try (obtain⟨⟨a1,a2,a3,a4⟩,a5⟩:=i1)
 all_goals
  try simp only[CI,fIsAddr,fParseAddr,std,Nat.reduceAdd,parseAddr,AdJ] at *
  try simp(disch:=omega) only[wrapId',toNat1] at *
  try simp(disch:=omega) only[Qa1,Qa3]
 all_goals try (have e:=VC (b:=b) (show y1.2.1.toNat<s.size from o_) h4 a4;simp only[e] at *)
 all_goals try (have t:=Zc (show y1.2.1.toNat<s.size from o_) h4 a4)
 all_goals try (have e:=V4 (b:=b) (show s.size<=y1.2.1.toNat from o_) a4;simp only[e] at *)
 all_goals first|trivial|omega|grind[ByteArray.size_extract])
def findAttr (l:List St_) (n:ByteArray):Option ByteArray:=(l.find? λa=>decide (a.name=n)).map (·.value)
def fFindAttr:Fct:=⟨[.v (.sl .attr),.v (.el .str)],[.el .str,.el .bool],λ(x_:(List St_)×ByteArray×Unit)=>x_.1.length<=1000000000000,λ(x_:(List St_)×ByteArray×Unit)=>((findAttr x_.1 x_.2.1).getD ⟨#[]⟩,(findAttr x_.1 x_.2.1).isSome,())⟩
abbrev C7 (l:(List St_)) (n:ByteArray):LInv:=⟨[⟨.s,6,true,.el .int⟩],λ_ (x_:Int×Unit)=>0<=x_.1/\x_.1<=l.length/\findAttr (l.drop x_.1.toNat) n=findAttr l n,λ(x_:Int×Unit)=>l.length-x_.1.toNat⟩
def AmP:=AiO.a fFindAttr<|Fct.p (KP [0,1,4,5,6] [10,19]) (λ⟨l,n,_⟩=>lv [(2,C7 l n)]) AiO.2 func360 (by
 rintro⟨(l:List St_),(n:ByteArray),_⟩ hp;refine ho (lpx (C7 l n) ((0:Int),()) λ(y1:Int×PUnit) bk1=>.br (decide (y1.1<(l.length:Int))) (.ob (inB y1.1 l.length)<|.br ((l.getD y1.1.toNat default).name.toList==n.toList) (.ob (inB y1.1 l.length)<|.lf fFindAttr ((l.getD y1.1.toNat default).value,true,())) (.ob (l=l)<|.ob (Value.string n=Value.string n)<|.ob (bk1 (w1 y1.1,()))<|.ok)) (.lf fFindAttr ((⟨#[]⟩:ByteArray),false,()))) ?_;refine Ai ?_ λ(y1:Int×PUnit) i1=>Ab (λh2=>Aa ?_ λ_=>Ab (λh4=>Aa ?_ λ_=>lfY ?_) (λh4=>Aa rfl λ_=>Aa rfl λ_=>Aa ?_ λ_=>trivial)) (λh2=>lfY ?_)
 all_goals
  try simp only[C7,fFindAttr,std,Nat.reduceAdd,findAttr] at *
  try simp(disch:=omega) only[wrapId',toNat1] at *
  try simp(disch:=omega) only[Qa1,Qa3]
 all_goals first|trivial|omega|grind[wrapId',toNat1,drop_cons,drop_end,good_len,maxLen,findAttr])
def fFindAttr1:Fct:=⟨[.v (.el .attr),.p (.el .str)],[.el .bool],λ(x_:St_×ByteArray×Unit)=>True,λ(x_:St_×ByteArray×Unit)=>(decide (x_.1.name=x_.2.1),())⟩
def AmA:=AmP.a fFindAttr1<|Fct.o [1,2,3] AmP.2 func422 (by
 rintro⟨(a:St_),(n:ByteArray),_⟩ hp;refine ho (.lf fFindAttr1 (a.name.toList==ByteArray.toList n,())) ?_;refine lfY ?_;all_goals
  try simp only[fFindAttr1,std,Nat.reduceAdd] at *
  try simp(disch:=omega) only[wrapId',toNat1] at *
  try simp(disch:=omega) only[Qa1,Qa3]
 all_goals first|trivial|omega|grind[wrapId',toNat1,drop_cons,drop_end,good_len,maxLen])
def AO:Fct:=⟨[aL .attr,.c 422 [.el .str]],[rI],λx=>x.1.length<=1000000000000000000/\∀ c,fFindAttr1.pre (c,x.2.1),λx=>(fidx (λc=>(fFindAttr1.fn (c,x.2.1)).1) x.1 0,())⟩
abbrev Ap (l:(List St_)) (u:(ByteArray×Unit)):LInv:=⟨[⟨.s,8,true,.el .int⟩],λ_ (x_:Int×Unit)=>0<=x_.1/\x_.1<=l.length/\fidx (λc=>(fFindAttr1.fn (c,u)).1) l 0=fidx (λc=>(fFindAttr1.fn (c,u)).1) (l.drop x_.1.toNat) x_.1,λ(x_:Int×Unit)=>l.length-x_.1.toNat⟩
def Am2:=AmA.a AO<|Fct.p (KP [0,1,4,5,7,8] [9,16]) (λ⟨l,u,_⟩=>lv [(2,Ap l u)]) AmA.2 func421 (by
 rintro⟨(l:List St_),(u:ByteArray×PUnit),_⟩ hp;refine ho (lpx (Ap l u) ((0:Int),()) λ(y1:Int×PUnit) bk1=>.br (decide (y1.1<(l.length:Int))) (.ob (inB y1.1 l.length)<|.cl fFindAttr1 (l.getD y1.1.toNat default,u.1,()) λz2=>.br (z2.1) (.lf AO (y1.1,())) (.ob (l=l)<|.ob (enc Ty.str u.1=enc Ty.str u.1)<|.ob (Value.int IntKind.i64 (l.length:Int)=Value.int IntKind.i64 (l.length:Int))<|.ob (bk1 (w1 y1.1,()))<|.ok)) (.lf AO ((-1:Int),()))) ?_;refine Ai ?_ λ(y1:Int×PUnit) i1=>Ab (λh2=>Aa ?_ λ_=>Ae trivial λ_=>(Ab (λh4=>lfY ?_) (λh4=>Aa rfl λ_=>Aa rfl λ_=>Aa rfl λ_=>Aa ?_ λ_=>trivial))) (λh2=>lfY ?_)
 all_goals
  try simp only[Ap,fFindAttr1,AO,std,Nat.reduceAdd] at *
  try have hp2:=hp.2
  try have hp1:=hp.1
 all_goals first|trivial|omega|grind[wrapId',toNat1,drop_cons,drop_end,good_len,maxLen,fidx])
def Ako:=Am2.a fFindAttr<|Fct.o (KP [0,3,4,5,6] [11]) Am2.2 func387 (by
 rintro⟨(l:List St_),(n:ByteArray),_⟩ hp;refine ho (.cl AO (l,(n,()),()) λ(z2:Int×PUnit)=>.br (decide (z2.1<0)) (.lf fFindAttr ((⟨#[]⟩:ByteArray),false,())) (.ob (0<=z2.1/\z2.1<(↑(List.length l):Int))<|.lf fFindAttr ((List.getD l z2.1.toNat default).value,true,()))) ?_;refine Ae ?_ λ_=>(Ab (λh2=>lfY ?_) (λh2=>Aa ?_ λ_=>lfY ?_))
 all_goals
  have hf:=EY (λa:St_=>decide (a.name=n)) l 0 o_;have hf2:=MF (λa:St_=>decide (a.name=n)) l 0 o_;try simp only[fFindAttr,AO,std,Nat.reduceAdd,findAttr,fFindAttr1] at *
  try simp(disch:=omega) only[wrapId',toNat1] at *
  try simp(disch:=omega) only[Qa1,Qa3]
 all_goals first|trivial|omega|grind[wrapId',toNat1,drop_cons,drop_end,good_len,maxLen,findAttr,fFindAttr1])
def Ak1:=Ako.a fParseAddr<|Fct.o (KP [0,1,4,5,6,7,8,9] [19,25]) Ako.2 func401 (by
 rintro⟨(s:ByteArray),(b:ByteArray),_⟩ hp;refine ho (.cl TP (s,(⟨#[47]⟩:ByteArray),()) λz2=>.br (z2.2.2.1) (.cl fIsAddr ((⟨z2.1,z2.2.1⟩:Sb_),()) λz3=>.br (!z3.1) (.lf fParseAddr (default,false,())) (.lf fParseAddr (⟨z2.1,z2.2.1⟩,true,()))) (.cl fIsAddr ((⟨b,s⟩:Sb_),()) λz4=>.br (!z4.1) (.lf fParseAddr (default,false,())) (.lf fParseAddr (⟨b,s⟩,true,())))) ?_;repeat' (guard_target =~ Out.holds _ _;first|refine lfY ?_|refine Ab (λ_=>?_) λ_=>?_|refine Ae ?_ λ_=>?_)
 all_goals
  have hz:=Jq s b;have hc:=V6 s b;try simp only[TP,fIsAddr,fParseAddr,std,Nat.reduceAdd,parseAddr] at *
  try simp only[show(ByteArray.mk #[47]).data.getD 0 0=47 from rfl,show(ByteArray.mk #[47]).size=1 from rfl] at *
 all_goals first|trivial|omega|grind)
def scanKind (t:Sh_):Int:=if t.kind≠1 then 0 else if t.name=⟨#[115,99,114,105,112,116]⟩ then(if(findAttr t.bo ⟨#[107,105,110,100]⟩).getD ⟨#[]⟩=⟨#[109,111,100,117,108,101]⟩ then 5 else 2) else if t.name=⟨#[108,105,110,107]⟩ then 3 else if t.name=⟨#[105,109,103]⟩ then 4 else 0
def scanTo (t:Sh_):ByteArray:=if t.name=⟨#[108,105,110,107]⟩ then(findAttr t.bo ⟨#[104,114,101,102]⟩).getD ⟨#[]⟩ else(findAttr t.bo ⟨#[115,114,99]⟩).getD ⟨#[]⟩
def scanToken (t:Sh_) (b:ByteArray):Sf_×Bool:=if scanKind t≠0/\(parseAddr (scanTo t) b).2=true then(⟨scanKind t,(parseAddr (scanTo t) b).1,b,if scanKind t=5 then⟨#[]⟩ else(findAttr t.bo ⟨#[100,105,103,101,115,116]⟩).getD ⟨#[]⟩⟩,true) else(default,false)
def A3 (l:List St_) (n:ByteArray):((findAttr l n).getD ⟨#[]⟩).size<=szL Bm l:=by
 unfold findAttr;cases h:l.find? λa=>decide (a.name=n) with
 | none=>exact Nat.zero_le _
 | some a=>
  obtain⟨i,hi,he⟩:=List.mem_iff_getElem.1 (List.mem_of_find?_eq_some h);have:=DZ Bm (l:=l) (i:=i) hi;rw[Qb2,Qa5 hi,he] at this;simp only[Qb9,Option.getD_some,Bm] at *;omega
def ME {l:List St_} {n:ByteArray} (h:(findAttr l n).isSome=false):(findAttr l n).getD ⟨#[]⟩=⟨#[]⟩:=by
 simp_all
def fScanToken:Fct:=⟨[.v (.el .token),.v (.el .str)],[.el .request,.el .bool],λ(x_:Sh_×ByteArray×Unit)=>szToken x_.1<=100000000/\x_.2.1.size<=100000000,λ(x_:Sh_×ByteArray×Unit)=>((scanToken x_.1 x_.2.1).1,(scanToken x_.1 x_.2.1).2,())⟩
def Am4:=Ak1.a fScanToken<|Fct.o (KP [1,2,4,5,6,7,8,10,12,13] [17,22,34,36,41,60,66]) Ak1.2 func323 (by
 rintro⟨(t:Sh_),(b:ByteArray),_⟩ hp;refine ho (let q3_:=(⟨#[]⟩:ByteArray);let q2_:=(⟨#[115,114,99]⟩:ByteArray);let q1_:=(⟨#[100,105,103,101,115,116]⟩:ByteArray);let q0_:Out:=.lf fScanToken (default,false,());.br (t.kind != 1) q0_ (.br (t.name.toList==(⟨#[115,99,114,105,112,116]⟩:ByteArray).toList) (.cl fFindAttr (t.bo,(⟨#[107,105,110,100]⟩:ByteArray),()) λz2=>.br (z2.1.toList==(⟨#[109,111,100,117,108,101]⟩:ByteArray).toList) (.cl fFindAttr (t.bo,q2_,()) λz3=>.cl fParseAddr (z3.1,b,()) λz4=>.br (!z4.2.1) q0_ (.br ((5:Int) != (5:Int)) (.cl fFindAttr (t.bo,q1_,()) λz5=>.lf fScanToken (⟨(5:Int),z4.1,b,z5.1⟩,true,())) (.lf fScanToken (⟨(5:Int),z4.1,b,q3_⟩,true,())))) (.cl fFindAttr (t.bo,q2_,()) λz6=>.cl fParseAddr (z6.1,b,()) λz7=>.br (!z7.2.1) q0_ (.br ((2:Int) != (5:Int)) (.cl fFindAttr (t.bo,q1_,()) λz8=>.lf fScanToken (⟨(2:Int),z7.1,b,z8.1⟩,true,())) (.lf fScanToken (⟨(2:Int),z7.1,b,q3_⟩,true,()))))) (.br (t.name.toList==(⟨#[108,105,110,107]⟩:ByteArray).toList) (.cl fFindAttr (t.bo,(⟨#[104,114,101,102]⟩:ByteArray),()) λz9=>.cl fParseAddr (z9.1,b,()) λz10=>.br (!z10.2.1) q0_ (.br ((3:Int) != (5:Int)) (.cl fFindAttr (t.bo,q1_,()) λz11=>.lf fScanToken (⟨(3:Int),z10.1,b,z11.1⟩,true,())) (.lf fScanToken (⟨(3:Int),z10.1,b,q3_⟩,true,())))) (.br (t.name.toList==(⟨#[105,109,103]⟩:ByteArray).toList) (.cl fFindAttr (t.bo,q2_,()) λz12=>.cl fParseAddr (z12.1,b,()) λz13=>.br (!z13.2.1) q0_ (.br ((4:Int) != (5:Int)) (.cl fFindAttr (t.bo,q1_,()) λz14=>.lf fScanToken (⟨(4:Int),z13.1,b,z14.1⟩,true,())) (.lf fScanToken (⟨(4:Int),z13.1,b,q3_⟩,true,())))) q0_)))) ?_;refine Ab (λh1=>lfY ?_) (λh1=>Ab (λh2=>DP ?_ λo3 z2 ez2=>(Ab (λh4=>DP ?_ λo5 z3 ez3=>(DP ?_ λo6 z4 ez4=>(Ab (λh7=>lfY ?_) (λh7=>Ab (λh8=>DP ?_ λo9 z5 ez5=>(lfY ?_)) (λh8=>lfY ?_))))) (λh4=>DP ?_ λo10 z6 ez6=>(DP ?_ λo11 z7 ez7=>(Ab (λh12=>lfY ?_) (λh12=>Ab (λh13=>DP ?_ λo14 z8 ez8=>(lfY ?_)) (λh13=>lfY ?_))))))) (λh2=>Ab (λh15=>DP ?_ λo16 z9 ez9=>(DP ?_ λo17 z10 ez10=>(Ab (λh18=>lfY ?_) (λh18=>Ab (λh19=>DP ?_ λo20 z11 ez11=>(lfY ?_)) (λh19=>lfY ?_))))) (λh15=>Ab (λh21=>DP ?_ λo22 z12 ez12=>(DP ?_ λo23 z13 ez13=>(Ab (λh24=>lfY ?_) (λh24=>Ab (λh25=>DP ?_ λo26 z14 ez14=>(lfY ?_)) (λh25=>lfY ?_))))) (λh21=>lfY ?_))));all_goals subst_vars
 all_goals
  have hl:=Ac Bm t.bo;have hs:=A3 t.bo;have hn:=λn=>ME (l:=t.bo) (n:=n)
  have hp0:=Jp b;try simp only[fFindAttr,fParseAddr,fScanToken,std,Nat.reduceAdd,scanToken,scanKind,scanTo,szToken] at *
  try simp(disch:=omega) only[wrapId',toNat1] at *
  try simp(disch:=omega) only[Qa1,Qa3]
 all_goals first|trivial|omega|grind[wrapId',toNat1,drop_cons,drop_end,good_len,maxLen,scanToken,scanKind,scanTo,fFindAttr,fParseAddr,szToken])
def Ajn:=Am4.a fScanToken<|Fct.o (KP [1,2,4,5,6,7,8,10,11,12,13,14] [15,20,31,32,36,62,69]) Am4.2 func355 (by
 rintro⟨(t:Sh_),(b:ByteArray),_⟩ hp;refine ho (let q3_:=(⟨#[]⟩:ByteArray);let q2_:=(⟨#[115,114,99]⟩:ByteArray);let q1_:=(⟨#[100,105,103,101,115,116]⟩:ByteArray);let q0_:Out:=.lf fScanToken (default,false,());.br (t.kind != 1) q0_ (.br (t.name.toList==(⟨#[115,99,114,105,112,116]⟩:ByteArray).toList) (.cl fFindAttr (t.bo,(⟨#[107,105,110,100]⟩:ByteArray),()) λz2=>.br (z2.1.toList==(⟨#[109,111,100,117,108,101]⟩:ByteArray).toList) (.cl fFindAttr (t.bo,q2_,()) λz3=>.cl fParseAddr (z3.1,b,()) λz4=>.br ((5:Int)==(0:Int)) q0_ (.br (!z3.2.1) q0_ (.br (!z4.2.1) q0_ (.br ((5:Int) != (5:Int)) (.cl fFindAttr (t.bo,q1_,()) λz5=>.lf fScanToken (⟨(5:Int),z4.1,b,z5.1⟩,true,())) (.lf fScanToken (⟨(5:Int),z4.1,b,q3_⟩,true,())))))) (.cl fFindAttr (t.bo,q2_,()) λz6=>.cl fParseAddr (z6.1,b,()) λz7=>.br ((2:Int)==(0:Int)) q0_ (.br (!z6.2.1) q0_ (.br (!z7.2.1) q0_ (.br ((2:Int) != (5:Int)) (.cl fFindAttr (t.bo,q1_,()) λz8=>.lf fScanToken (⟨(2:Int),z7.1,b,z8.1⟩,true,())) (.lf fScanToken (⟨(2:Int),z7.1,b,q3_⟩,true,()))))))) (.br (t.name.toList==(⟨#[108,105,110,107]⟩:ByteArray).toList) (.cl fFindAttr (t.bo,(⟨#[104,114,101,102]⟩:ByteArray),()) λz9=>.cl fParseAddr (z9.1,b,()) λz10=>.br ((3:Int)==(0:Int)) q0_ (.br (!z9.2.1) q0_ (.br (!z10.2.1) q0_ (.br ((3:Int) != (5:Int)) (.cl fFindAttr (t.bo,q1_,()) λz11=>.lf fScanToken (⟨(3:Int),z10.1,b,z11.1⟩,true,())) (.lf fScanToken (⟨(3:Int),z10.1,b,q3_⟩,true,())))))) (.br (t.name.toList==(⟨#[105,109,103]⟩:ByteArray).toList) (.cl fFindAttr (t.bo,q2_,()) λz12=>.cl fParseAddr (z12.1,b,()) λz13=>.br ((4:Int)==(0:Int)) q0_ (.br (!z12.2.1) q0_ (.br (!z13.2.1) q0_ (.br ((4:Int) != (5:Int)) (.cl fFindAttr (t.bo,q1_,()) λz14=>.lf fScanToken (⟨(4:Int),z13.1,b,z14.1⟩,true,())) (.lf fScanToken (⟨(4:Int),z13.1,b,q3_⟩,true,())))))) (.cl fFindAttr (t.bo,q2_,()) λz15=>.cl fParseAddr (z15.1,b,()) λz16=>.br ((0:Int)==(0:Int)) q0_ (.br (!z15.2.1) q0_ (.br (!z16.2.1) q0_ (.br ((0:Int) != (5:Int)) (.cl fFindAttr (t.bo,q1_,()) λz17=>.lf fScanToken (⟨(0:Int),z16.1,b,z17.1⟩,true,())) (.lf fScanToken (⟨(0:Int),z16.1,b,q3_⟩,true,())))))))))) ?_;refine Ab (λh1=>lfY ?_) (λh1=>Ab (λh2=>DP ?_ λo3 z2 ez2=>(Ab (λh4=>DP ?_ λo5 z3 ez3=>(DP ?_ λo6 z4 ez4=>(Ab (λh7=>lfY ?_) (λh7=>Ab (λh8=>lfY ?_) (λh8=>Ab (λh9=>lfY ?_) (λh9=>Ab (λh10=>DP ?_ λo11 z5 ez5=>(lfY ?_)) (λh10=>lfY ?_))))))) (λh4=>DP ?_ λo12 z6 ez6=>(DP ?_ λo13 z7 ez7=>(Ab (λh14=>lfY ?_) (λh14=>Ab (λh15=>lfY ?_) (λh15=>Ab (λh16=>lfY ?_) (λh16=>Ab (λh17=>DP ?_ λo18 z8 ez8=>(lfY ?_)) (λh17=>lfY ?_))))))))) (λh2=>Ab (λh19=>DP ?_ λo20 z9 ez9=>(DP ?_ λo21 z10 ez10=>(Ab (λh22=>lfY ?_) (λh22=>Ab (λh23=>lfY ?_) (λh23=>Ab (λh24=>lfY ?_) (λh24=>Ab (λh25=>DP ?_ λo26 z11 ez11=>(lfY ?_)) (λh25=>lfY ?_))))))) (λh19=>Ab (λh27=>DP ?_ λo28 z12 ez12=>(DP ?_ λo29 z13 ez13=>(Ab (λh30=>lfY ?_) (λh30=>Ab (λh31=>lfY ?_) (λh31=>Ab (λh32=>lfY ?_) (λh32=>Ab (λh33=>DP ?_ λo34 z14 ez14=>(lfY ?_)) (λh33=>lfY ?_))))))) (λh27=>DP ?_ λo35 z15 ez15=>(DP ?_ λo36 z16 ez16=>(Ab (λh37=>lfY ?_) (λh37=>Ab (λh38=>lfY ?_) (λh38=>Ab (λh39=>lfY ?_) (λh39=>Ab (λh40=>DP ?_ λo41 z17 ez17=>(lfY ?_)) (λh40=>lfY ?_))))))))));all_goals subst_vars
 all_goals
  have hl:=Ac Bm t.bo;have hs:=A3 t.bo;have hn:=λn=>ME (l:=t.bo) (n:=n)
  have hp0:=Jp b;try simp only[fFindAttr,fParseAddr,fScanToken,std,Nat.reduceAdd,scanToken,scanKind,scanTo,szToken] at *
  try simp(disch:=omega) only[wrapId',toNat1] at *
  try simp(disch:=omega) only[Qa1,Qa3]
 all_goals first|trivial|omega|grind[wrapId',toNat1,drop_cons,drop_end,good_len,maxLen,scanToken,scanKind,scanTo,fFindAttr,fParseAddr,szToken])
def scanTokens (b:ByteArray):List Sh_->List Sf_
 | []=>[]
 | t::l=>if(scanToken t b).2 then(scanToken t b).1::scanTokens b l else scanTokens b l
theorem scanTokens_at {b:ByteArray} {l:List Sh_} {i:Nat} (h:i<l.length):scanTokens b (l.drop i)=if(scanToken (l.getD i default) b).2 then(scanToken (l.getD i default) b).1::scanTokens b (l.drop (i+1)) else scanTokens b (l.drop (i+1)):=by rw[drop_cons h];rfl
theorem scanTokens_end {b:ByteArray} {l:List Sh_} {i:Nat} (h:l.length<=i):scanTokens b (l.drop i)=[]:=by rw[Qb1 h];rfl
def Fc (b:ByteArray):∀ l:List Sh_,(scanTokens b l).length<=l.length
 | []=>Qa7 _
 | t::l=>by have:=Fc b l;simp only[scanTokens];split<;>simp only[Qa6]<;>omega
def fScanTokens:Fct:=⟨[.v (.sl .token),.v (.el .str)],[.sl .request],λ(x_:(List Sh_)×ByteArray×Unit)=>szL szToken x_.1<=1000000000000/\(∀ t,t∈x_.1->szToken t<=10000000)/\x_.2.1.size<=10000000,λ(x_:(List Sh_)×ByteArray×Unit)=>(scanTokens x_.2.1 x_.1,())⟩
abbrev Cq (l:(List Sh_)) (b:ByteArray):LInv:=⟨[⟨.s,5,true,.sl .request⟩,⟨.s,6,true,.el .int⟩],λ_ (x_:(List Sf_)×Int×Unit)=>0<=x_.2.1/\x_.2.1<=l.length/\x_.1.length<=x_.2.1/\x_.1++scanTokens b (l.drop x_.2.1.toNat)=scanTokens b l,λ(x_:(List Sf_)×Int×Unit)=>l.length-x_.2.1.toNat⟩
def AlC:=Ajn.a fScanTokens<|Fct.p (KP [0,1,4,5,6,7,8] [13,25]) (λ⟨l,b,_⟩=>lv [(3,Cq l b)]) Ajn.2 func258 (by
 rintro⟨(l:List Sh_),(b:ByteArray),_⟩ hp;refine ho (lpx (Cq l b) ([],((0:Int),())) λ(y1:List Sf_×Int×PUnit) bk1=>.br (decide (y1.2.1<(l.length:Int))) (.ob (inB y1.2.1 l.length)<|.cl fScanToken (l.getD y1.2.1.toNat default,b,()) λz2=>.br (z2.2.1) (.ob (True)<|.ob (Br (y1.1.length+[z2.1].length) 72)<|.ob (l=l)<|.ob (Value.string b=Value.string b)<|.ob (bk1 (y1.1++[z2.1],(w1 y1.2.1,())))<|.ok) (.ob (l=l)<|.ob (Value.string b=Value.string b)<|.ob (bk1 (y1.1,(w1 y1.2.1,())))<|.ok)) (.lf fScanTokens (y1.1,()))) ?_;refine Ai ?_ λ(y1:List Sf_×Int×PUnit) i1=>Ab (λh2=>Aa ?_ λ_=>Ae ?_ λ_=>(Ab (λh5=>Aa trivial λ_=>Aa ?_ λ_=>Aa rfl λ_=>Aa rfl λ_=>Aa ?_ λ_=>trivial) (λh5=>Aa rfl λ_=>Aa rfl λ_=>Aa ?_ λ_=>trivial))) (λh2=>lfY ?_)
 all_goals
  have hl:=Ac szToken l;have hg:∀ i,i<l.length->szToken (l.getD i default)<=10000000:=λi h=>hp.2.1 _ (A7 h)
  try simp only[Cq,fScanToken,fScanTokens,std,Nat.reduceAdd,scanTokens_at,scanTokens_end,Qb4,List.singleton_append,Qa4,Qd1] at *
  try simp(disch:=omega) only[wrapId',toNat1] at *
  try simp(disch:=omega) only[Qa1,Qa3]
 all_goals first|trivial|omega|grind[wrapId',toNat1,good_len,maxLen,fScanToken,scanTokens_at,scanTokens_end,List.append_assoc,List.singleton_append,List.length_append,List.length_singleton])
abbrev Bl (l:(List Sh_)) (b:ByteArray):LInv:=⟨[⟨.s,5,true,.sl .request⟩,⟨.s,13,true,.el .int⟩],λ_ (x_:(List Sf_)×Int×Unit)=>0<=x_.2.1/\x_.2.1<=l.length/\x_.1.length<=x_.2.1/\x_.1++scanTokens b (l.drop x_.2.1.toNat)=scanTokens b l,λ(x_:(List Sf_)×Int×Unit)=>l.length-x_.2.1.toNat⟩
def Ang:=AlC.a fScanTokens<|Fct.p (KP [0,1,4,5,7,8,9,11,12,13] [14,23]) (λ⟨l,b,_⟩=>lv [(3,Bl l b)]) AlC.2 func293 (by
 rintro⟨(l:List Sh_),(b:ByteArray),_⟩ hp;refine ho (lpx (Bl l b) ([],((0:Int),())) λ(y1:List Sf_×Int×PUnit) bk1=>.br (decide (y1.2.1<(l.length:Int))) (.ob (inB y1.2.1 l.length)<|.cl fScanToken (l.getD y1.2.1.toNat default,b,()) λz2=>.br (z2.2.1) (.ob (True)<|.ob (Br (y1.1.length+[z2.1].length) 72)<|.ob (l=l)<|.ob (Value.string b=Value.string b)<|.ob (l=l)<|.ob (Value.int IntKind.i64 (l.length:Int)=Value.int IntKind.i64 (l.length:Int))<|.ob (bk1 (y1.1++[z2.1],(w1 y1.2.1,())))<|.ok) (.ob (l=l)<|.ob (Value.string b=Value.string b)<|.ob (l=l)<|.ob (Value.int IntKind.i64 (l.length:Int)=Value.int IntKind.i64 (l.length:Int))<|.ob (bk1 (y1.1,(w1 y1.2.1,())))<|.ok)) (.lf fScanTokens (y1.1,()))) ?_;repeat' first|(guard_target =~ Out.holds _ _;first|refine Ai (li:=Bl l b) ?_ λ(y1:List Sf_×Int×PUnit) i1=>?_|refine lfY ?_|refine Ab (λ_=>?_) λ_=>?_|refine Ae ?_ λ_=>?_|refine Aa ?_ λ_=>?_)|exact trivial
 all_goals
  have hl:=Ac szToken l;have hg:∀ i,i<l.length->szToken (l.getD i default)<=10000000:=λi h=>hp.2.1 _ (A7 h)
  try simp only[Bl,fScanToken,fScanTokens,std,Nat.reduceAdd,scanTokens_at,scanTokens_end,Qb4,List.singleton_append,Qa4,Qd1] at *
  try simp(disch:=omega) only[wrapId',toNat1] at *
  try simp(disch:=omega) only[Qa1,Qa3]
 all_goals first|trivial|omega|grind[wrapId',toNat1,good_len,maxLen,fScanToken,scanTokens_at,scanTokens_end,List.append_assoc,List.singleton_append,List.length_append,List.length_singleton])
def canGuess (r:Sf_):Bool:=isRequest r&&(decide (r.kind≠1)&&decide (r.to.host=r.from_))
def fCanGuess:Fct:=⟨[.v (.el .request)],[.el .bool],λ(x_:Sf_×Unit)=>szRequest x_.1<=1099511627776,λ(x_:Sf_×Unit)=>(canGuess x_.1,())⟩
theorem q16 (r:Sf_) (hp:fCanGuess.pre (r,())):Out.holds (fCanGuess.ctr (r,())).post (.cl fIsRequest (r,()) λz2=>.br (z2.1) (.br (r.kind != 1) (.lf fCanGuess (r.to.host.toList==r.from_.toList,())) (.lf fCanGuess (false,()))) (.lf fCanGuess (false,()))):=by
 refine Ae ?_ λ_=>(Ab (λh2=>Ab (λh3=>lfY ?_) (λh3=>lfY ?_)) (λh2=>lfY ?_))
 all_goals
  try simp only[fCanGuess,fIsRequest,std,Nat.reduceAdd,canGuess] at *
  try simp(disch:=omega) only[wrapId',toNat1] at *
  try simp(disch:=omega) only[Qa1,Qa3]
 all_goals first|trivial|omega|grind[wrapId',toNat1,drop_cons,drop_end,good_len,maxLen,canGuess,fIsRequest]
def AmK:=Ang.a fCanGuess<|Fct.o [1,2] Ang.2 func259 (by
 rintro⟨(r:Sf_),_⟩ hp;exact ho _ (q16 r hp))
def AnC:=AmK.a fCanGuess<|Fct.o [1,2] AmK.2 func294 (by
 rintro⟨(r:Sf_),_⟩ hp;exact ho _ (q16 r hp))
def guessOk (p:Sa_) (out:List Sb_) (r:Sf_):Bool:=canGuess r&&(decide (checkRequest p.bj r=1)&&(!isAsked p r.to && !out.any λc=>decide (c=r.to)))
def guessL (p:Sa_):List Sf_->List Sb_->List Sb_
 | [],out=>out
 | r::l,out=>if guessOk p out r then guessL p l (out++[r.to]) else guessL p l out
theorem guessL_at {p:Sa_} {l:List Sf_} {i:Nat} {out:List Sb_} (h:i<l.length):guessL p (l.drop i) out=if guessOk p out (l.getD i default) then guessL p (l.drop (i+1)) (out++[(l.getD i default).to]) else guessL p (l.drop (i+1)) out:=by rw[drop_cons h];rfl
theorem guessL_end {p:Sa_} {l:List Sf_} {i:Nat} {out:List Sb_} (h:l.length<=i):guessL p (l.drop i) out=out:=by rw[Qb1 h];rfl
def guessesOf (p:Sa_):List Sb_:=guessL p (scanTokens p.addr.host p.bn) []
def Ks {p:Sa_}:∀ {l:List Sf_} {out:List Sb_},(∀ a∈out,isName a.host=true/\isName a.path=true)->∀ a∈guessL p l out,isName a.host=true/\isName a.path=true
 | [],out,h=>h
 | r::l,out,h=>by
  rw[guessL];split
  ·rename_i hg;refine Ks λa ha=>?_
   rcases Qb8.1 ha with ha|ha
   ·exact h a ha
   ·simp only[List.mem_singleton] at ha;subst ha;simp only[guessOk,canGuess,isRequest,Qa2] at hg;simp_all
  ·exact Ks h
def ZE (t:Sh_):(scanTo t).size<=szToken t:=by
 unfold scanTo;have h1:=A3 t.bo ⟨#[104,114,101,102]⟩;have h2:=A3 t.bo ⟨#[115,114,99]⟩;have h3:szL Bm t.bo<=szToken t:=by simp only[szToken];omega
 split<;>omega
def Qt (t:Sh_) (b:ByteArray):szRequest (scanToken t b).1<=3*szToken t+2*b.size:=by
 unfold scanToken;split
 ·have h1:=Jq (scanTo t) b;have h2:=ZE t;have h3:=A3 t.bo ⟨#[100,105,103,101,115,116]⟩;have h4:szL Bm t.bo<=szToken t:=by simp only[szToken];omega
  have h5:szAddr (parseAddr (scanTo t) b).1<=2*szToken t+b.size:=by
   unfold parseAddr;split
   ·simp only[szAddr];omega
   ·exact Nat.zero_le _
  have h6:ByteArray.size ⟨#[]⟩=0:=rfl;simp only[szRequest];split<;>omega
 ·exact Nat.zero_le _
def Gn (b:ByteArray) {B:Nat}:∀ {l:List Sh_},(∀ t,t∈l->szToken t<=B)->∀ r∈scanTokens b l,szRequest r<=3*B+2*b.size
 | [],_,r,hr=>by cases hr
 | t::l,h,r,hr=>by
  have ih:=Gn b (l:=l) λx hx=>h x (Qc4 _ hx)
  have h1:=Qt t b;have h2:=h t Qd7;simp only[scanTokens] at hr;grind
def fGuessesOf:Fct:=⟨[.v (.el .page)],[.sl .addr],λ(x_:Sa_×Unit)=>szPage x_.1<=1000000000000/\(∀ t,t∈x_.1.bn->szToken t<=10000000)/\x_.1.addr.host.size<=10000000,λ(x_:Sa_×Unit)=>(guessesOf x_.1,())⟩
abbrev BB (p:Sa_):LInv:=⟨[⟨.s,3,true,.sl .addr⟩,⟨.s,5,true,.el .int⟩,⟨.b,1,false,.el .page⟩,⟨.s,4,true,.sl .request⟩],λ(z_ x_:(List Sb_)×Int×Sa_×(List Sf_)×Unit)=>((0<=x_.2.1/\x_.2.1<=(scanTokens p.addr.host p.bn).length/\x_.1.length<=x_.2.1/\guessL p ((scanTokens p.addr.host p.bn).drop x_.2.1.toNat) x_.1=guessesOf p)/\x_.2.2.1=z_.2.2.1)/\x_.2.2.2.1=z_.2.2.2.1,λ(x_:(List Sb_)×Int×Sa_×(List Sf_)×Unit)=>(scanTokens p.addr.host p.bn).length-x_.2.1.toNat⟩
def AiU:=AnC.a fGuessesOf<|Fct.p (KP [1,2,3,4,5,6] [17,51]) (λ⟨p,_⟩=>lv [(4,BB p)]) AnC.2 func195 (by
 rintro⟨(p:Sa_),_⟩ hp;refine ho (.cl fScanTokens (p.bn,p.addr.host,()) λz2=>lpx (BB p) ([],((0:Int),(p,(z2.1,())))) λ(y2:List Sb_×Int×Sa_×List Sf_×PUnit) bk2=>let q3_:=inB y2.2.1 y2.2.2.2.1.length;let q2_:=y2.2.1.toNat<y2.2.2.2.1.length;let q1_:=y2.2.2.2.1.getD y2.2.1.toNat default;let q0_:Out:=.ob (bk2 (y2.1,(w1 y2.2.1,(y2.2.2.1,(y2.2.2.2.1,())))))<|.ok;.br (decide (y2.2.1<(y2.2.2.2.1.length:Int))) (.ob q3_<|.ob q2_<|.ob q3_<|.ob q2_<|.cl fCanGuess (y2.2.2.2.1.getD y2.2.1.toNat default,()) λz3=>.br (z3.1) (.ob q3_<|.ob q2_<|.cl fCheckRequest (y2.2.2.1.bj,y2.2.2.2.1.getD y2.2.1.toNat default,()) λ(z4:Int×PUnit)=>.br (z4.1==1) (.cl fIsAsked (y2.2.2.1,q1_.to,()) λz5=>.br (!z5.1) (.cl fHasAddr (y2.1,q1_.to,()) λz6=>.br (!z6.1) (.ob (True)<|.ob (Br (y2.1.length+[q1_.to].length) 32)<|.ob (bk2 (y2.1++[q1_.to],(w1 y2.2.1,(y2.2.2.1,(y2.2.2.2.1,())))))<|.ok) q0_) q0_) q0_) q0_) (.lf fGuessesOf (y2.1,()))) ?_;repeat' first|(guard_target =~ Out.holds _ _;first|refine Ai (li:=BB p) ?_ λ(y2:List Sb_×Int×Sa_×List Sf_×PUnit) i2=>?_|refine lfY ?_|refine Ab (λ_=>?_) λ_=>?_|refine Ae ?_ λ_=>?_|refine Aa ?_ λ_=>?_)|exact trivial
 all_goals
  have hz:szL szToken p.bn<=szPage p/\szL AP p.bf<=szPage p/\szL Az p.bh<=szPage p/\p.addr.host.size<=szPage p/\szPolicy p.bj<=szPage p:=by simp only[szPage,szAddr];omega
  have hl:=Ac szToken p.bn;have hl2:=Ac AP p.bf;have hl3:=Ac Az p.bh;have hl4:=Fc p.addr.host p.bn;have hg:∀ i,i<(scanTokens p.addr.host p.bn).length->szRequest ((scanTokens p.addr.host p.bn).getD i default)<=100000000:=λi h=>by have hq:∀ t,t∈p.bn->szToken t<=10000000:=hp.2.1;have:=Gn p.addr.host hq _ (A7 (i:=i) h);have hp2:p.addr.host.size<=10000000:=hp.2.2;omega
  try simp only[BB,fCanGuess,fCheckRequest,fGuessesOf,fHasAddr,fIsAsked,fScanTokens,std,Nat.reduceAdd,guessL_at,guessL_end,guessOk,guessesOf,Qa4,Qd1] at *
  try simp(disch:=omega) only[wrapId',toNat1] at *
  try simp(disch:=omega) only[Qa1,Qa3]
 all_goals first|trivial|omega|grind[wrapId',toNat1,good_len,maxLen,fScanTokens,fCanGuess,fCheckRequest,fIsAsked,fHasAddr,guessL_at,guessL_end,guessOk,guessesOf,List.length_append,List.length_singleton])
abbrev BG (p:Sa_):LInv:=⟨[⟨.s,3,true,.sl .addr⟩,⟨.s,14,true,.el .int⟩,⟨.b,1,false,.el .page⟩,⟨.s,12,true,.sl .request⟩],λ(z_ x_:(List Sb_)×Int×Sa_×(List Sf_)×Unit)=>((0<=x_.2.1/\x_.2.1<=(scanTokens p.addr.host p.bn).length/\x_.1.length<=x_.2.1/\guessL p ((scanTokens p.addr.host p.bn).drop x_.2.1.toNat) x_.1=guessesOf p)/\x_.2.2.1=z_.2.2.1)/\x_.2.2.2.1=z_.2.2.2.1,λ(x_:(List Sb_)×Int×Sa_×(List Sf_)×Unit)=>(scanTokens p.addr.host p.bn).length-x_.2.1.toNat⟩
def Ank:=AiU.a fGuessesOf<|Fct.p (KP [1,2,3,5,12,13,14] [15,40]) (λ⟨p,_⟩=>lv [(3,BG p)]) AiU.2 func234 (by
 rintro⟨(p:Sa_),_⟩ hp;refine ho (.cl fScanTokens (p.bn,p.addr.host,()) λz2=>let q3_:=(z2.1.length:Int);let q2_:=Value.int IntKind.i64 q3_=Value.int IntKind.i64 q3_;lpx (BG p) ([],((0:Int),(p,(z2.1,())))) λ(y2:List Sb_×Int×Sa_×List Sf_×PUnit) bk2=>let q1_:=y2.2.2.2.1.getD y2.2.1.toNat default;let q0_:Out:=.ob q2_<|.ob (bk2 (y2.1,(w1 y2.2.1,(y2.2.2.1,(y2.2.2.2.1,())))))<|.ok;.br (decide (y2.2.1<q3_)) (.ob (inB y2.2.1 y2.2.2.2.1.length)<|.ob (y2.2.1.toNat<y2.2.2.2.1.length)<|.cl fCanGuess (y2.2.2.2.1.getD y2.2.1.toNat default,()) λz3=>.br (z3.1) (.cl fCheckRequest (y2.2.2.1.bj,y2.2.2.2.1.getD y2.2.1.toNat default,()) λ(z4:Int×PUnit)=>.br (z4.1==1) (.cl fIsAsked (y2.2.2.1,q1_.to,()) λz5=>.br (!z5.1) (.cl fHasAddr (y2.1,q1_.to,()) λz6=>.br (!z6.1) (.ob (True)<|.ob (Br (y2.1.length+[q1_.to].length) 32)<|.ob q2_<|.ob (bk2 (y2.1++[q1_.to],(w1 y2.2.1,(y2.2.2.1,(y2.2.2.2.1,())))))<|.ok) q0_) q0_) q0_) q0_) (.lf fGuessesOf (y2.1,()))) ?_;repeat' first|(guard_target =~ Out.holds _ _;first|refine Ai (li:=BG p) ?_ λ(y2:List Sb_×Int×Sa_×List Sf_×PUnit) i2=>?_|refine lfY ?_|refine Ab (λ_=>?_) λ_=>?_|refine Ae ?_ λ_=>?_|refine Aa ?_ λ_=>?_)|exact trivial
 all_goals
  have hz:szL szToken p.bn<=szPage p/\szL AP p.bf<=szPage p/\szL Az p.bh<=szPage p/\p.addr.host.size<=szPage p/\szPolicy p.bj<=szPage p:=by simp only[szPage,szAddr];omega
  have hl:=Ac szToken p.bn;have hl2:=Ac AP p.bf;have hl3:=Ac Az p.bh;have hl4:=Fc p.addr.host p.bn;have hg:∀ i,i<(scanTokens p.addr.host p.bn).length->szRequest ((scanTokens p.addr.host p.bn).getD i default)<=100000000:=λi h=>by have hq:∀ t,t∈p.bn->szToken t<=10000000:=hp.2.1;have:=Gn p.addr.host hq _ (A7 (i:=i) h);have hp2:p.addr.host.size<=10000000:=hp.2.2;omega
  try simp only[BG,fCanGuess,fCheckRequest,fGuessesOf,fHasAddr,fIsAsked,fScanTokens,std,Nat.reduceAdd,guessL_at,guessL_end,guessOk,guessesOf,Qa4,Qd1] at *
  try simp(disch:=omega) only[wrapId',toNat1] at *
  try simp(disch:=omega) only[Qa1,Qa3]
 all_goals first|trivial|omega|grind[wrapId',toNat1,good_len,maxLen,fScanTokens,fCanGuess,fCheckRequest,fIsAsked,fHasAddr,guessL_at,guessL_end,guessOk,guessesOf,List.length_append,List.length_singleton])
def fCopyLoader:Fct:=⟨[.v (.el .loader)],[.el .loader],λ(x_:Sc_×Unit)=>szNet x_.1.net<=68719476736/\szPage x_.1.page<=1099511627776/\x_.1.parts.length<=1000000000/\x_.1.conns.length<=1048576/\x_.1.guesses.length<=4194304,λ(x_:Sc_×Unit)=>(x_.1,())⟩
def Anm:=Ank.a fCopyLoader<|Fct.o [1,2] Ank.2 func67 (by
 rintro⟨(l:Sc_),_⟩ hp;refine ho (.cl fCopyNet (l.net,()) λz2=>.cl fCopyPage (l.page,()) λz3=>.ob (True)<|.ob (Br l.parts.length 16)<|.ob (True)<|.ob (Br l.conns.length 112)<|.ob (True)<|.ob (Br l.guesses.length 104)<|.lf fCopyLoader (⟨z2.1,z3.1,l.parts,l.conns,l.guesses⟩,())) ?_;refine Ae ?_ λ_=>(Ae ?_ λ_=>(Aa trivial λ_=>Aa ?_ λ_=>Aa trivial λ_=>Aa ?_ λ_=>Aa trivial λ_=>Aa ?_ λ_=>lfY ?_))
 all_goals
  try simp only[fCopyLoader,fCopyNet,fCopyPage,std,Nat.reduceAdd,fCopyConns,fCopyGuesses] at *
  try simp(disch:=omega) only[wrapId',toNat1] at *
  try simp(disch:=omega) only[Qa1,Qa3]
 all_goals first|trivial|omega|grind[wrapId',toNat1,drop_cons,drop_end,good_len,maxLen,fCopyNet,fCopyPage,fCopyConns,fCopyGuesses])
def AiM:=Anm.a fCopyLoader<|Fct.o [1,2] Anm.2 func76 (by
 rintro⟨(l:Sc_),_⟩ hp;refine ho (.cl fCopyNet (l.net,()) λz2=>.cl fCopyPage (l.page,()) λz3=>.ob (True)<|.ob (Br l.parts.length 16)<|.cl fCopyConns (l.conns,()) λz4=>.cl fCopyGuesses (l.guesses,()) λz5=>.lf fCopyLoader (⟨z2.1,z3.1,l.parts,z4.1,z5.1⟩,())) ?_;refine Ae ?_ λ_=>(Ae ?_ λ_=>(Aa trivial λ_=>Aa ?_ λ_=>Ae ?_ λ_=>(Ae ?_ λ_=>(lfY ?_))))
 all_goals
  try simp only[fCopyConns,fCopyGuesses,fCopyLoader,fCopyNet,fCopyPage,std,Nat.reduceAdd] at *
  try simp(disch:=omega) only[wrapId',toNat1] at *
  try simp(disch:=omega) only[Qa1,Qa3]
 all_goals first|trivial|omega|grind[wrapId',toNat1,drop_cons,drop_end,good_len,maxLen,fCopyNet,fCopyPage,fCopyConns,fCopyGuesses])
def nextGuess (l:Sc_):List Sb_->Sc_×Bool
 | []=>(l,false)
 | a::r=>if 0<=findGuess l.guesses a\/0<=findConn a l.conns 0 then nextGuess l r else(⟨(fetchNow l.net l.page.addr.host a true).1,l.page,l.parts,(openConn l.conns a (fetchNow l.net l.page.addr.host a true).2 true).1,l.guesses⟩,true)
theorem nextGuess_at {l:Sc_} {m:List Sb_} {i:Nat} (h:i<m.length):nextGuess l (m.drop i)=if 0<=findGuess l.guesses (m.getD i default)\/0<=findConn (m.getD i default) l.conns 0 then nextGuess l (m.drop (i+1)) else(⟨(fetchNow l.net l.page.addr.host (m.getD i default) true).1,l.page,l.parts,(openConn l.conns (m.getD i default) (fetchNow l.net l.page.addr.host (m.getD i default) true).2 true).1,l.guesses⟩,true):=by rw[drop_cons h];rfl
theorem nextGuess_end {l:Sc_} {m:List Sb_} {i:Nat} (h:m.length<=i):nextGuess l (m.drop i)=(l,false):=by rw[Qb1 h];rfl
def guessNext (l:Sc_):Sc_×Bool:=if 3<=l.conns.length\/6<=(countIf (λg:Sp_=>!g.used) l.guesses:Int)+(countGuess l.conns:Int) then(l,false) else nextGuess l (guessesOf l.page)
def Gi {p:Sa_} {i:Nat} (h:i<(guessesOf p).length):szAddr ((guessesOf p).getD i default)<=16:=by
 have:=Ks (p:=p) (l:=scanTokens p.addr.host p.bn) (out:=[]) (by simp) _ (A7 (i:=i) h);have h1:=Cn this.1;have h2:=Cn this.2;simp only[szAddr];simp only[guessesOf];omega
def Ki {p:Sa_}:∀ {l:List Sf_} {out:List Sb_},(guessL p l out).length<=out.length+l.length
 | [],out=>Qa7 _
 | r::l,out=>by
  rw[guessL];split
  ·have:=Ki (p:=p) (l:=l) (out:=out++[r.to]);simp only[Qa4,Qa6,Qb7] at *;omega
  ·have:=Ki (p:=p) (l:=l) (out:=out);simp only[Qa6];omega
def Jx (p:Sa_):(guessesOf p).length<=szPage p:=by
 have h1:=Ki (p:=p) (l:=scanTokens p.addr.host p.bn) (out:=[]);have h2:=Fc p.addr.host p.bn;have h3:=Ac szToken p.bn;simp only[guessesOf,szPage,Qb7] at *;omega
def okNt (n:Ss_):Prop:=szNet n<=8000000000/\szCache n.cache<=80000000/\szL A1 n.servers<=1048576/\∀ e,e∈n.cache.bg->Ad e.bd<=1048576
def VQ {c:Sl_} {t:ByteArray} {a:Sb_} {n:Int} {x:Sd_} (h:lookUp c t a n=some x) (B:Nat) (hc:∀ e,e∈c.bg->Ad e.bd<=B):Ad x<=B:=by
 unfold lookUp at h;obtain⟨e,he,rfl⟩:=Option.map_eq_some_iff.1 h;grind
def EF {n:Ss_} {t:ByteArray} {a:Sb_} {g:Bool} (h:okNt n):Ad (fetchNow n t a g).2<=1048576:=by
 obtain⟨h1,h2,h3,h4⟩:=h;unfold fetchNow;split
 ·exact(show Ad notFound<=1048576 by decide)
 ·split
  ·cases hq:lookUp n.cache t a n.now with
   | none=>exact(show Ad notFound<=1048576 by decide)
   | some x=>exact VQ hq _ h4
  ·exact Qd8 (Jw _ _) h3
def okGN (l:Sc_):Prop:=okNt l.net/\(szPage l.page<=1000000000000/\(∀ t,t∈l.page.bn->szToken t<=10000000)/\l.page.addr.host.size<=10000000)/\l.parts.length<=1000000000/\l.conns.length<=1048576/\l.guesses.length<=4194304
def CD:Fct:=⟨[.v (.el .loader)],[.el .loader,.el .bool],λ(x_:Sc_×Unit)=>okGN x_.1,λ(x_:Sc_×Unit)=>((guessNext x_.1).1,(guessNext x_.1).2,())⟩
abbrev BI (l:Sc_):LInv:=⟨[⟨.s,6,true,.el .int⟩,⟨.b,1,false,.el .loader⟩,⟨.b,2,true,.el .loader⟩,⟨.b,4,true,.el .loader⟩,⟨.s,5,true,.sl .addr⟩],λ(z_ x_:Int×Sc_×Sc_×Sc_×(List Sb_)×Unit)=>((((0<=x_.1/\x_.1<=(guessesOf l.page).length/\nextGuess l ((guessesOf l.page).drop x_.1.toNat)=nextGuess l (guessesOf l.page))/\x_.2.1=z_.2.1)/\x_.2.2.1=z_.2.2.1)/\x_.2.2.2.1=z_.2.2.2.1)/\x_.2.2.2.2.1=z_.2.2.2.2.1,λ(x_:Int×Sc_×Sc_×Sc_×(List Sb_)×Unit)=>(guessesOf l.page).length-x_.1.toNat⟩
def AiX:=AiM.a CD<|Fct.p (KP [1,2,3,4,5,6,7,8,9] [25,33,51]) (λ⟨l,_⟩=>lv [(6,BI l)]) AiM.2 func151 (by
 rintro⟨(l:Sc_),_⟩ hp;refine ho (.cl fCopyLoader (l,()) λz2=>.br (decide ((l.conns.length:Int)>=3)) (.lf CD (z2.1,false,())) (.cl fUnused (l.guesses,()) λ(z3:Int×PUnit)=>.cl fCount (l.conns,()) λ(z4:Int×PUnit)=>.br (decide (wr (z3.1+z4.1)>=6)) (.lf CD (z2.1,false,())) (.cl fGuessesOf (l.page,()) λz5=>lpx (BI l) ((0:Int),(l,(default,(z2.1,(z5.1,()))))) λ(y7:Int×Sc_×Sc_×Sc_×List Sb_×PUnit) bk7=>.br (decide (y7.1<(y7.2.2.2.2.1.length:Int))) (.ob (inB y7.1 y7.2.2.2.2.1.length)<|.ob (y7.1.toNat<y7.2.2.2.2.1.length)<|.cl fFindGuess (y7.2.1.guesses,y7.2.2.2.2.1.getD y7.1.toNat default,()) λ(z6:Int×PUnit)=>.br (decide (z6.1>=0)) (.ob (bk7 (w1 y7.1,(y7.2.1,(y7.2.2.1,(y7.2.2.2.1,(y7.2.2.2.2.1,()))))))<|.ok) (.cl fFind (y7.2.1.conns,y7.2.2.2.2.1.getD y7.1.toNat default,()) λ(z7:Int×PUnit)=>.br (decide (z7.1>=0)) (.ob (bk7 (w1 y7.1,(y7.2.1,(y7.2.2.1,(y7.2.2.2.1,(y7.2.2.2.2.1,()))))))<|.ok) (.cl fFetchNow (y7.2.1.net,y7.2.1.page.addr.host,y7.2.2.2.2.1.getD y7.1.toNat default,true,()) λz8=>.cl fOpen (y7.2.1.conns,y7.2.2.2.2.1.getD y7.1.toNat default,z8.2.1,true,()) λz9=>.lf CD (⟨z8.1,y7.2.2.2.1.page,y7.2.2.2.1.parts,z9.1,y7.2.2.2.1.guesses⟩,true,())))) (.lf CD (y7.2.2.2.1,false,()))))) ?_;repeat' first|(guard_target =~ Out.holds _ _;first|refine Ai (li:=BI l) ?_ λ(y7:Int×Sc_×Sc_×Sc_×List Sb_×PUnit) i7=>?_|refine lfY ?_|refine Ab (λ_=>?_) λ_=>?_|refine Ae ?_ λ_=>?_|refine Aa ?_ λ_=>?_)|exact trivial
 all_goals obtain⟨z0,⟨z4,z5,z6⟩,z7,z8,z9⟩:=(show okGN l from hp)
 all_goals have hf:=λa=>EF (t:=l.page.addr.host) (a:=a) (g:=true) z0
 all_goals obtain⟨z1,z2,z3,_⟩:=z0
 all_goals
  have hb2:∀ x:Sd_,x.body.size<=Ad x:=λx=>Qc6 _ _
  have hn:=λ{i:Nat} (h:i<(guessesOf l.page).length)=>Gi (p:=l.page) h
  have hc:=countIf_le (λg:Sp_=>!g.used) l.guesses;have hc2:=Jl l.conns;have hgl:=Jx l.page
 all_goals try (obtain⟨⟨⟨⟨⟨a1,a2,a3⟩,a4⟩,a5⟩,a6⟩,a7⟩:=i7;simp only[a4,a5,a6,a7] at *)
 all_goals
  try simp only[BI,fCopyLoader,fCount,fFetchNow,fFind,fFindGuess,CD,fGuessesOf,fOpen,fUnused,std,Nat.reduceAdd,guessNext,nextGuess_at,nextGuess_end] at *
  try simp(disch:=omega) only[wrapId',toNat1] at *
  try simp(disch:=omega) only[Qa1,Qa3]
 all_goals first|trivial|omega|grind[wrapId',toNat1,good_len,maxLen,guessNext,fCopyLoader,fGuessesOf,fUnused,fCount,fFindGuess,fFind,fFetchNow,fOpen,nextGuess_at,nextGuess_end])
abbrev BC (l:Sc_):LInv:=⟨[⟨.s,30,true,.el .int⟩,⟨.b,1,false,.el .loader⟩,⟨.b,2,true,.el .loader⟩,⟨.b,4,true,.el .loader⟩,⟨.s,28,true,.sl .addr⟩],λ(z_ x_:Int×Sc_×Sc_×Sc_×(List Sb_)×Unit)=>((((0<=x_.1/\x_.1<=(guessesOf l.page).length/\nextGuess l ((guessesOf l.page).drop x_.1.toNat)=nextGuess l (guessesOf l.page))/\x_.2.1=z_.2.1)/\x_.2.2.1=z_.2.2.1)/\x_.2.2.2.1=z_.2.2.2.1)/\x_.2.2.2.2.1=z_.2.2.2.2.1,λ(x_:Int×Sc_×Sc_×Sc_×(List Sb_)×Unit)=>(guessesOf l.page).length-x_.1.toNat⟩
def Ai9:=AiX.a CD<|Fct.p (KP [1,2,3,4,6,7,8,28,29,30] [24,31,45]) (λ⟨l,_⟩=>lv [(5,BC l)]) AiX.2 func173 (by
 rintro⟨(l:Sc_),_⟩ hp;refine ho (.cl fCopyLoader (l,()) λz2=>let q2_:Out:=.lf CD (z2.1,false,());.br (decide ((l.conns.length:Int)>=3)) q2_ (.cl fUnused (l.guesses,()) λ(z3:Int×PUnit)=>.cl fCount (l.conns,()) λ(z4:Int×PUnit)=>.br (decide (wr (z3.1+z4.1)>=6)) q2_ (.cl fGuessesOf (l.page,()) λz5=>let q1_:=(z5.1.length:Int);lpx (BC l) ((0:Int),(l,(default,(z2.1,(z5.1,()))))) λ(y7:Int×Sc_×Sc_×Sc_×List Sb_×PUnit) bk7=>let q0_:Out:=.ob (Value.int IntKind.i64 q1_=Value.int IntKind.i64 q1_)<|.ob (bk7 (w1 y7.1,(y7.2.1,(y7.2.2.1,(y7.2.2.2.1,(y7.2.2.2.2.1,()))))))<|.ok;.br (decide (y7.1<q1_)) (.ob (inB y7.1 y7.2.2.2.2.1.length)<|.ob (y7.1.toNat<y7.2.2.2.2.1.length)<|.cl fFindGuess (y7.2.1.guesses,y7.2.2.2.2.1.getD y7.1.toNat default,()) λ(z6:Int×PUnit)=>.br (decide (z6.1>=0)) q0_ (.cl fFind (y7.2.1.conns,y7.2.2.2.2.1.getD y7.1.toNat default,()) λ(z7:Int×PUnit)=>.br (decide (z7.1>=0)) q0_ (.cl fFetchNow (y7.2.2.2.1.net,y7.2.1.page.addr.host,y7.2.2.2.2.1.getD y7.1.toNat default,true,()) λz8=>.cl fOpen (y7.2.2.2.1.conns,y7.2.2.2.2.1.getD y7.1.toNat default,z8.2.1,true,()) λz9=>.lf CD ({y7.2.2.2.1 with net:=z8.1,conns:=z9.1},true,())))) (.lf CD (y7.2.2.2.1,false,()))))) ?_;repeat' first|(guard_target =~ Out.holds _ _;first|refine Ai (li:=BC l) ?_ λ(y7:Int×Sc_×Sc_×Sc_×List Sb_×PUnit) i7=>?_|refine lfY ?_|refine Ab (λ_=>?_) λ_=>?_|refine Ae ?_ λ_=>?_|refine Aa ?_ λ_=>?_)|exact trivial
 all_goals obtain⟨z0,⟨z4,z5,z6⟩,z7,z8,z9⟩:=(show okGN l from hp)
 all_goals have hf:=λa=>EF (t:=l.page.addr.host) (a:=a) (g:=true) z0
 all_goals obtain⟨z1,z2,z3,_⟩:=z0
 all_goals
  have hb2:∀ x:Sd_,x.body.size<=Ad x:=λx=>Qc6 _ _
  have hn:=λ{i:Nat} (h:i<(guessesOf l.page).length)=>Gi (p:=l.page) h
  have hc:=countIf_le (λg:Sp_=>!g.used) l.guesses;have hc2:=Jl l.conns;have hgl:=Jx l.page
 all_goals try (obtain⟨⟨⟨⟨⟨a1,a2,a3⟩,a4⟩,a5⟩,a6⟩,a7⟩:=i7;simp only[a4,a5,a6,a7] at *)
 all_goals
  try simp only[BC,fCopyLoader,fCount,fFetchNow,fFind,fFindGuess,CD,fGuessesOf,fOpen,fUnused,std,Nat.reduceAdd,guessNext,nextGuess_at,nextGuess_end] at *
  try simp(disch:=omega) only[wrapId',toNat1] at *
  try simp(disch:=omega) only[Qa1,Qa3]
 all_goals first|trivial|omega|grind[wrapId',toNat1,good_len,maxLen,guessNext,fCopyLoader,fGuessesOf,fUnused,fCount,fFindGuess,fFind,fFetchNow,fOpen,nextGuess_at,nextGuess_end])
def tagAttrs:List ByteArray->List St_->Option (List St_)
 | [],acc=>some acc
 | w::l,acc=>match Ft 61 (toL w) with
  | none=>none
  | some r=>if isName (ofL r.1)&&(isValue (ofL r.2)&&(findAttr acc (ofL r.1)).isNone) then tagAttrs l (acc++[⟨ofL r.1,ofL r.2⟩]) else none
def tagFin (n:ByteArray):Option (List St_)->Sh_×Bool
 | none=>(default,false)
 | some ats=>if isName n=true/\ats.length<=4 then(⟨1,n,ats,⟨#[]⟩⟩,true) else(default,false)
def tagOf (s:ByteArray):Sh_×Bool :=
 if 60<s.size then(default,false)
 else if 0<s.size/\s.data.getD 0 0=47 then(if isName (s.extract 1 s.size) then(⟨2,s.extract 1 s.size,[],⟨#[]⟩⟩,true) else(default,false))
 else tagFin ((spl 32 s).getD 0 default) (tagAttrs ((spl 32 s).drop 1) [])
def TJ {s:ByteArray} (h:s.size<=60) (hn:¬ (0<s.size/\s.data.getD 0 0=47)) (ha:tagAttrs ((spl 32 s).drop 1) []=none):tagOf s=(default,false):=by
 unfold tagOf;rw[Qa3 o_,Qa3 hn,ha];rfl
def Pi {s:ByteArray} {ats:List St_} (h:s.size<=60) (hn:¬ (0<s.size/\s.data.getD 0 0=47)) (ha:tagAttrs ((spl 32 s).drop 1) []=some ats):tagOf s=if isName ((spl 32 s).getD 0 default)=true/\ats.length<=4 then(⟨1,(spl 32 s).getD 0 default,ats,⟨#[]⟩⟩,true) else(default,false):=by
 unfold tagOf;rw[Qa3 o_,Qa3 hn,ha];rfl
def Gw {s:ByteArray}:(60<s.size->tagOf s=(default,false))/\(s.size<=60->0<s.size->s.data.getD 0 0=47->tagOf s=if isName (s.extract 1 s.size) then(⟨2,s.extract 1 s.size,[],⟨#[]⟩⟩,true) else(default,false)):=by
 unfold tagOf;grind
def Acr (b:UInt8):∀ l:List UInt8,MG b l=match Ft b l with|none=>[l]|some (p,q)=>p::MG b q:=by
 intro l
 induction l with
 | nil=>rfl
 | cons x l ih=>
  rw[ES,Ft];by_cases hx:x=b
  ·simp_all
  ·rw[Qa3 hx,Qa3 hx,ih];cases Ft b l with
   | none=>rfl
   | some r=>rfl
def G5 (b:UInt8) (s:ByteArray):spl b s=match Ft b (toL s) with|none=>[s]|some (p,q)=>ofL p::spl b (ofL q):=by
 unfold spl;rw[Acr];cases Ft b (toL s) with
 | none=>simp[DW]
 | some r=>simp[JX]
def Lg {b:UInt8}:∀ {l p q:List UInt8},Ft b l=some (p,q)->b∈l
 | [],p,q,h=>by cases h
 | x::l,p,q,h=>by
  rw[Ft] at h;split at h
  ·simp_all
  ·obtain⟨r,hr,_⟩:=Option.map_eq_some_iff.1 h;exact Qc4 _ (Lg (p:=r.1) (q:=r.2) hr)
def AbH (w:ByteArray):((spl 61 w).length=2/\isName ((spl 61 w).getD 0 default)=true/\isValue ((spl 61 w).getD 1 default)=true)↔∃ r,Ft 61 (toL w)=some r/\isName (ofL r.1)=true/\isValue (ofL r.2)=true/\(spl 61 w).getD 0 default=ofL r.1/\(spl 61 w).getD 1 default=ofL r.2:=by
 rw[G5];cases h:Ft 61 (toL w) with
 | none=>simp
 | some r=>
  obtain⟨p,q⟩:=r;simp only[Qa6,Qa0];constructor
  ·rintro⟨h1,h2,h3⟩;have hq:(spl 61 (ofL q))=[ofL q]:=by
    rw[G5] at h1 ⊢;cases hc:Ft 61 (toL (ofL q)) with
    | none=>rfl
    | some r2=>
     rw[hc] at h1;have:=(Eh 61 (ofL r2.2)).1;simp_all
   simp_all
  ·rintro⟨r,rfl,h2,h3,h4,h5⟩;have hq:(spl 61 (ofL q))=[ofL q]:=by
    rw[G5];cases hc:Ft 61 (toL (ofL q)) with
    | none=>rfl
    | some r2=>exact absurd (Lg (p:=r2.1) (q:=r2.2) hc) (Pr rfl h3)
   simp_all
def KZ:∀ {l:List ByteArray} {acc ats:List St_},tagAttrs l acc=some ats->ats.length=acc.length+l.length
 | [],acc,ats,h=>by simp only[tagAttrs,Qa0] at h;subst h;simp
 | w::l,acc,ats,h=>by
  simp only[tagAttrs] at h;split at h
  ·cases h
  ·split at h
   ·have:=KZ h;grind
   ·cases h
def Mt {l:List ByteArray} {i:Nat} {acc:List St_} (h:i<l.length):tagAttrs (l.drop i) acc=(match Ft 61 (toL (l.getD i default)) with|none=>none|some r=>if isName (ofL r.1)&&(isValue (ofL r.2)&&(findAttr acc (ofL r.1)).isNone) then tagAttrs (l.drop (i+1)) (acc++[⟨ofL r.1,ofL r.2⟩]) else none):=by rw[drop_cons h];rfl
def HL {l:List ByteArray} {i:Nat} {acc:List St_} (h:l.length<=i):tagAttrs (l.drop i) acc=some acc:=by rw[Qb1 h];rfl
def Ht:Fct:=⟨[.v (.el .str)],[.el .token,.el .bool],λ(x_:ByteArray×Unit)=>x_.1.size<=100000000,λ(x_:ByteArray×Unit)=>((tagOf x_.1).1,(tagOf x_.1).2,())⟩
def Aii {s:ByteArray} {i:Nat} {b:Nat} (hb:b<=255):((s.data.getD i 0).toNat:Int)=b↔s.data.getD i 0=UInt8.ofNat b:=MB (b:=b) o_ o_
def Xu {l:List ByteArray} {i:Nat} {acc:List St_} (h:i<l.length):tagAttrs (l.drop i) acc=if(spl 61 (l.getD i default)).length=2/\isName ((spl 61 (l.getD i default)).getD 0 default)=true/\isValue ((spl 61 (l.getD i default)).getD 1 default)=true/\(findAttr acc ((spl 61 (l.getD i default)).getD 0 default)).isSome=false then tagAttrs (l.drop (i+1)) (acc++[⟨(spl 61 (l.getD i default)).getD 0 default,(spl 61 (l.getD i default)).getD 1 default⟩]) else none:=by
 rw[Mt h];generalize l.getD i default=w;by_cases hw:(spl 61 w).length=2/\isName ((spl 61 w).getD 0 default)=true/\isValue ((spl 61 w).getD 1 default)=true
 ·obtain⟨r,h1,h2,h3,h4,h5⟩:=(AbH w).1 hw;simp_all
 ·rw[Qa3 (λhh=>hw ⟨hh.1,hh.2.1,hh.2.2.1⟩)];cases hc:Ft 61 (toL w) with
  | none=>rfl
  | some r=>
   simp only;rw[Qa3];intro hh;simp only[Qa2] at hh;refine hw ?_;have hq:spl 61 (ofL r.2)=[ofL r.2]:=by
    rw[G5];cases hc2:Ft 61 (toL (ofL r.2)) with
    | none=>rfl
    | some r2=>exact absurd (Lg (p:=r2.1) (q:=r2.2) hc2) (Pr rfl hh.2.1)
   rw[G5,hc];simp_all
abbrev D7 (s:ByteArray):LInv:=⟨[⟨.b,5,true,.el .token⟩,⟨.s,6,true,.el .int⟩,⟨.b,2,true,.el .token⟩,⟨.s,4,true,.sl .str⟩],λ(z_ x_:Sh_×Int×Sh_×(List ByteArray)×Unit)=>((1<=x_.2.1/\x_.2.1<=(spl 32 s).length/\x_.1.bo.length+1<=x_.2.1/\x_.1=⟨1,(spl 32 s).getD 0 default,x_.1.bo,⟨#[]⟩⟩/\tagAttrs ((spl 32 s).drop x_.2.1.toNat) x_.1.bo=tagAttrs ((spl 32 s).drop 1) [])/\x_.2.2.1=z_.2.2.1)/\x_.2.2.2.1=z_.2.2.2.1,λ(x_:Sh_×Int×Sh_×(List ByteArray)×Unit)=>(spl 32 s).length-x_.2.1.toNat⟩
def Ak4:=Ai9.a Ht<|Fct.p (KP [0,2,3,4,5,6,7,9] [12,21,25,39,63,74,97]) (λ⟨s,_⟩=>lv [(10,D7 s)]) Ai9.2 func305 (by
 rintro⟨(s:ByteArray),_⟩ hp;refine ho (let q7_:=(s.size:Int);let q5_:=(0:Int)<=(1:Int)/\(1:Int)<=q7_;let q4_:=(⟨#[]⟩:ByteArray);let q1_:Out:=.leaf (.tup [(true,[vi ((0:Int)),vs (q4_),.nl,vs (q4_)]),(false,[vb (false)])]) [] [];let q0_:Out:=.cl Df (s,(32:Int),()) λz3=>.ob ((0:Int)<=(0:Int)/\(0:Int)<(z3.1.length:Int))<|.ob (0<z3.1.length)<|lpx (D7 s) ((⟨(1:Int),z3.1.getD 0 default,[],q4_⟩:Sh_),((1:Int),(default,(z3.1,())))) λ(y12:Sh_×Int×Sh_×List ByteArray×PUnit) bk12=>.br (decide (y12.2.1<(y12.2.2.2.1.length:Int))) (.ob (inB y12.2.1 y12.2.2.2.1.length)<|.ob (y12.2.1.toNat<y12.2.2.2.1.length)<|.cl Df (y12.2.2.2.1.getD y12.2.1.toNat default,(61:Int),()) λz4=>let q9_:=0<z4.1.length;let q8_:=(z4.1.length:Int);let q6_:=(⟨z4.1.getD 0 default,z4.1.getD 1 default⟩:St_);let q3_:=(0:Int)<=(1:Int)/\(1:Int)<q8_;let q2_:=(0:Int)<=(0:Int)/\(0:Int)<q8_;.br (q8_ != 2) q1_ (.ob q2_<|.ob q9_<|.cl fIsName (z4.1.getD 0 default,()) λz5=>.br (!z5.1) q1_ (.ob q3_<|.ob (1<z4.1.length)<|.cl fIsValue (z4.1.getD 1 default,()) λz6=>.br (!z6.1) q1_ (.ob q2_<|.ob q9_<|.cl fFindAttr (y12.1.bo,z4.1.getD 0 default,()) λz7=>.br (z7.2.1) q1_ (.ob q2_<|.ob q9_<|.ob q3_<|.ob (1<z4.1.length)<|.ob (True)<|.ob (Br (y12.1.bo.length+[q6_].length) 32)<|.ob (Value.string s=Value.string s)<|.ob (bk12 (({y12.1 with bo:=y12.1.bo++[q6_]}:Sh_),(w1 y12.2.1,(y12.2.2.1,(y12.2.2.2.1,())))))<|.ok))))) (.cl fIsName (y12.1.name,()) λz8=>.br (!z8.1) q1_ (.br (decide ((y12.1.bo.length:Int)>4)) q1_ (.lf Ht (y12.1,true,()))));.br (decide (q7_>60)) q1_ (.br (decide (q7_>0)) (.ob ((0:Int)<=(0:Int)/\(0:Int)<q7_)<|.br ((↑(s.data.getD 0 0).toNat:Int)==47) (.ob q5_<|.cl fIsName (s.extract 1 s.size,()) λz2=>.br (!z2.1) q1_ (.ob q5_<|.leaf (.tup [(true,[vi ((2:Int)),vs (s.extract 1 s.size),.nl,vs (q4_)]),(false,[vb (true)])]) [] [])) q0_) q0_)) ?_;refine Ab (λh1=>Fct.leafZ (default,false,()) (by repeat' first|exact rfl|exact trivial|refine And.intro ?_ ?_) ?_) (λh1=>Ab (λh2=>Aa ?_ λ_=>Ab (λh4=>Aa ?_ λ_=>Ae ?_ λ_=>(Ab (λh7=>Fct.leafZ (default,false,()) (by repeat' first|exact rfl|exact trivial|refine And.intro ?_ ?_) ?_) (λh7=>Aa ?_ λ_=>Fct.leafZ (⟨(2:Int),s.extract (1:Nat) s.size,[],{ data := #[]:ByteArray }⟩,true,()) (by repeat' first|exact rfl|exact trivial|refine And.intro ?_ ?_) ?_))) (λh4=>Ae ?_ λ_=>(Aa ?_ λ_=>Aa ?_ λ_=>Ai ?_ λ(y12:Sh_×Int×Sh_×List ByteArray×PUnit) i12=>Ab (λh13=>Aa ?_ λ_=>Aa ?_ λ_=>Ae ?_ λ_=>(Ab (λh17=>Fct.leafZ (default,false,()) (by repeat' first|exact rfl|exact trivial|refine And.intro ?_ ?_) ?_) (λh17=>Aa ?_ λ_=>Aa ?_ λ_=>Ae ?_ λ_=>(Ab (λh21=>Fct.leafZ (default,false,()) (by repeat' first|exact rfl|exact trivial|refine And.intro ?_ ?_) ?_) (λh21=>Aa ?_ λ_=>Aa ?_ λ_=>Ae ?_ λ_=>(Ab (λh25=>Fct.leafZ (default,false,()) (by repeat' first|exact rfl|exact trivial|refine And.intro ?_ ?_) ?_) (λh25=>Aa ?_ λ_=>Aa ?_ λ_=>Ae ?_ λ_=>(Ab (λh29=>Fct.leafZ (default,false,()) (by repeat' first|exact rfl|exact trivial|refine And.intro ?_ ?_) ?_) (λh29=>Aa ?_ λ_=>Aa ?_ λ_=>Aa ?_ λ_=>Aa ?_ λ_=>Aa trivial λ_=>Aa ?_ λ_=>Aa rfl λ_=>Aa ?_ λ_=>trivial))))))))) (λh13=>Ae ?_ λ_=>(Ab (λh37=>Fct.leafZ (default,false,()) (by repeat' first|exact rfl|exact trivial|refine And.intro ?_ ?_) ?_) (λh37=>Ab (λh38=>Fct.leafZ (default,false,()) (by repeat' first|exact rfl|exact trivial|refine And.intro ?_ ?_) ?_) (λh38=>lfY ?_))))))) (λh2=>Ae ?_ λ_=>(Aa ?_ λ_=>Aa ?_ λ_=>Ai ?_ λ(y42:Sh_×Int×Sh_×List ByteArray×PUnit) i42=>Ab (λh43=>Aa ?_ λ_=>Aa ?_ λ_=>Ae ?_ λ_=>(Ab (λh47=>Fct.leafZ (default,false,()) (by repeat' first|exact rfl|exact trivial|refine And.intro ?_ ?_) ?_) (λh47=>Aa ?_ λ_=>Aa ?_ λ_=>Ae ?_ λ_=>(Ab (λh51=>Fct.leafZ (default,false,()) (by repeat' first|exact rfl|exact trivial|refine And.intro ?_ ?_) ?_) (λh51=>Aa ?_ λ_=>Aa ?_ λ_=>Ae ?_ λ_=>(Ab (λh55=>Fct.leafZ (default,false,()) (by repeat' first|exact rfl|exact trivial|refine And.intro ?_ ?_) ?_) (λh55=>Aa ?_ λ_=>Aa ?_ λ_=>Ae ?_ λ_=>(Ab (λh59=>Fct.leafZ (default,false,()) (by repeat' first|exact rfl|exact trivial|refine And.intro ?_ ?_) ?_) (λh59=>Aa ?_ λ_=>Aa ?_ λ_=>Aa ?_ λ_=>Aa ?_ λ_=>Aa trivial λ_=>Aa ?_ λ_=>Aa rfl λ_=>Aa ?_ λ_=>trivial))))))))) (λh43=>Ae ?_ λ_=>(Ab (λh67=>Fct.leafZ (default,false,()) (by repeat' first|exact rfl|exact trivial|refine And.intro ?_ ?_) ?_) (λh67=>Ab (λh68=>Fct.leafZ (default,false,()) (by repeat' first|exact rfl|exact trivial|refine And.intro ?_ ?_) ?_) (λh68=>lfY ?_)))))));all_goals
  try simp only[D7,fFindAttr,fIsName,fIsValue,Df,Ht,std,Nat.reduceAdd] at *
  try simp only[show UInt8.ofNat (Int.toNat 32)=32 from rfl,show UInt8.ofNat (Int.toNat 61)=61 from rfl,AdJ] at *
 all_goals
  have hk:=Eh 32 s;have hm:∀ i,i<(spl 32 s).length->((spl 32 s).getD i default).size<=s.size:=λi h=>IY (A7 h)
  have hx:(s.extract 1 s.size).size<=s.size:=by rw[Qc1];omega
 all_goals try (obtain⟨⟨⟨a1,a2,a3,a4,a5⟩,a6⟩,a7⟩:=i12)
 all_goals try (obtain⟨⟨⟨a1,a2,a3,a4,a5⟩,a6⟩,a7⟩:=i42)
 all_goals try simp only[a7] at *
 all_goals first|trivial|omega|skip
 all_goals try (have hn:¬ (0<s.size/\s.data.getD 0 0=47):=by intro hh;first|(exact absurd hh.2 ‹_›)|omega)
 all_goals
  try have hg:y12.1.name=(spl 32 s).getD 0 default:=congrArg Sh_.name a4
  try have hg:y42.1.name=(spl 32 s).getD 0 default:=congrArg Sh_.name a4
  try have h0:=hm 0 o_
  try have hw:=hm y12.2.1.toNat o_
  try have hw0:=Em 61 ((spl 32 s).getD y12.2.1.toNat default) 0
  try have hw1:=Em 61 ((spl 32 s).getD y12.2.1.toNat default) 1
 all_goals first|(rw[Gw.1 o_];exact⟨rfl,rfl⟩)|(rw[Gw.2 o_ o_ ‹_›,Qa3 (by rw[show isName _=false from ‹_›];decide)];exact⟨rfl,rfl⟩)|(rw[Gw.2 o_ o_ ‹_›,Qa1 ‹_›];exact⟨rfl,rfl⟩)|(rw[hg];omega)|omega|skip
 all_goals first|exact⟨o_,o_,by simp,trivial,rfl⟩|exact⟨o_,o_,o_⟩|skip
 all_goals first|(rw[Xu o_,Qa3 (by rintro⟨c1,c2,c3,c4⟩;first|omega|exact absurd (c2.symm.trans (show isName _=false from ‹_›)) (by decide)|exact absurd (c3.symm.trans (show isValue _=false from ‹_›)) (by decide)|exact absurd (c4.symm.trans (show Option.isSome _=true from ‹_›)) (by decide))] at a5;rw[TJ o_ hn a5.symm];exact⟨rfl,rfl⟩)|skip
 all_goals first|(rw[HL o_] at a5;rw[Pi o_ hn a5.symm,Qa3 (by rintro⟨c1,c2⟩;rw[<-hg] at c1;first|omega|exact absurd (c1.symm.trans (show isName _=false from ‹_›)) (by decide))];exact⟨rfl,rfl⟩)|(rw[HL o_] at a5;rw[Pi o_ hn a5.symm,Qa1 ⟨by rw[<-hg];assumption,o_⟩];exact⟨a4,rfl⟩)|skip
 all_goals rw[Xu o_,Qa1 (by exact⟨o_,‹_›,‹_›,‹_›⟩)] at a5
 all_goals rw[Ag o_,toNat1 o_]
 all_goals refine⟨⟨⟨⟨o_,o_,by rw[Qa4];simp only[Qa6,Qb7];omega,?_,a5⟩,a6⟩,trivial⟩,o_⟩
 all_goals rw[a4])
def idxB (b:UInt8) (s:ByteArray):Nat:=(toL s).findIdx λx=>x==b
def Fv (b:UInt8) (s:ByteArray):idxB b s<=s.size:=by
 have:=List.findIdx_le_length (xs:=toL s) (p:=λx=>x==b);rw[BQ] at this;exact this
def Aa2 {b:UInt8} {s:ByteArray} {i:Nat} (h:i<s.size) (hb:s.data.getD i 0=b) (hn:b∉(toL s).take i):idxB b s=i:=by
 have e:toL s=(toL s).take i++b::(toL s).drop (i+1):=by rw[<-hb,<-Ij h,Qd2]
 have hl:((toL s).take i).length=i:=by rw[Qc0,BQ];omega
 unfold idxB;grind
def Abl {b:UInt8} {s:ByteArray} {i:Nat} (h:s.size<=i) (hn:b∉(toL s).take i):idxB b s=s.size:=by
 rw[Qb0 (by rw[BQ];exact h)] at hn;unfold idxB;rw[List.findIdx_eq_length_of_false λx hx=>by
  have:x≠b:=λe=>hn (e▸hx)
  simpa using this]
 rfl
def FP:Fct:=⟨[.v (.el .str),.v (.el .u8)],[.el .int],λ(x_:ByteArray×Int×Unit)=>x_.1.size<=1000000000000/\0<=x_.2.1/\x_.2.1<=255,λ(x_:ByteArray×Int×Unit)=>((idxB (UInt8.ofNat x_.2.1.toNat) x_.1:Int),())⟩
abbrev DR (s:ByteArray) (b:Int):LInv:=⟨[⟨.s,5,true,.el .int⟩],λ_ (x_:Int×Unit)=>0<=x_.1/\x_.1<=s.size/\UInt8.ofNat b.toNat∉(toL s).take x_.1.toNat,λ(x_:Int×Unit)=>s.size-x_.1.toNat⟩
def AiR:=Ak4.a FP<|Fct.p (KP [0,1,4,5] [9,16]) (λ⟨s,b,_⟩=>lv [(2,DR s b)]) Ak4.2 func304 (by
 rintro⟨(s:ByteArray),(b:Int),_⟩ hp;refine ho (lpx (DR s b) ((0:Int),()) λ(y1:Int×PUnit) bk1=>.br (decide (y1.1<(s.size:Int))) (.ob (0<=y1.1/\y1.1<(s.size:Int))<|.br ((↑(s.data.getD y1.1.toNat 0).toNat:Int)==b) (.lf FP (y1.1,())) (.ob (Value.string s=Value.string s)<|.ob (Value.int IntKind.u8 b=Value.int IntKind.u8 b)<|.ob (bk1 (w1 y1.1,()))<|.ok)) (.lf FP ((s.size:Int),()))) ?_;refine Ai ?_ λ(y1:Int×PUnit) i1=>Ab (λh2=>Aa ?_ λ_=>Ab (λh4=>lfY ?_) (λh4=>Aa rfl λ_=>Aa rfl λ_=>Aa ?_ λ_=>trivial)) (λh2=>lfY ?_)
 all_goals obtain⟨hp1,hp2,hp3⟩:=hp
 all_goals try (obtain⟨a1,a2,a3⟩:=i1)
 all_goals
  try simp only[DR,FP,std,Nat.reduceAdd,MB hp2 hp3] at *
  try simp(disch:=omega) only[wrapId',toNat1] at *
  try simp(disch:=omega) only[Qa1,Qa3]
 all_goals try (have e:=Aa2 (show y1.1.toNat<s.size from o_) h4 a3)
 all_goals try (have t:=Zc (show y1.1.toNat<s.size from o_) h4 a3)
 all_goals try (have e:=Abl (show s.size<=y1.1.toNat from o_) a3)
 all_goals first|trivial|omega|grind)
def feed:Nat->ByteArray->List Sh_×ByteArray
 | 0,x=>([],x)
 | f+1,x=>
  if 0<idxB 60 x/\idxB 60 x<x.size then(⟨3,⟨#[]⟩,[],x.extract 0 (idxB 60 x)⟩::(feed f (x.extract (idxB 60 x) x.size)).1,(feed f (x.extract (idxB 60 x) x.size)).2)
  else if idxB 60 x≠0\/idxB 62 x=x.size then([],x)
  else(if(tagOf (x.extract 1 (idxB 62 x))).2 then(tagOf (x.extract 1 (idxB 62 x))).1::(feed f (x.extract (idxB 62 x+1) x.size)).1 else(feed f (x.extract (idxB 62 x+1) x.size)).1,(feed f (x.extract (idxB 62 x+1) x.size)).2)
def Jh:∀ (f g:Nat) (x:ByteArray),x.size<f->x.size<g->feed f x=feed g x
 | 0,_,x,h,_=>o_
 | _,0,x,_,h=>o_
 | f+1,g+1,x,h1,h2=>by
  have hl:=Fv 62 x;simp only[feed];split
  ·rename_i hc;rw[Jh f g (x.extract (idxB 60 x) x.size) (by rw[Qc1];omega) (by rw[Qc1];omega)]
  ·split
   ·rfl
   ·rename_i hc;rw[Jh f g (x.extract (idxB 62 x+1) x.size) (by rw[Qc1];omega) (by rw[Qc1];omega)]
def feedAll (x:ByteArray):List Sh_×ByteArray:=feed (x.size+1) x
def RQ {x:ByteArray} (h:0<idxB 60 x) (h2:idxB 60 x<x.size):feedAll x=(⟨3,⟨#[]⟩,[],x.extract 0 (idxB 60 x)⟩::(feedAll (x.extract (idxB 60 x) x.size)).1,(feedAll (x.extract (idxB 60 x) x.size)).2):=by
 have e:feed x.size (x.extract (idxB 60 x) x.size)=feedAll (x.extract (idxB 60 x) x.size):=Jh _ _ _ (by rw[Qc1];omega) o_;show feed (x.size+1) x=_;rw[feed,Qa1 ⟨h,h2⟩,e]
def MQ {x:ByteArray} (h:¬ (0<idxB 60 x/\idxB 60 x<x.size)) (h2:idxB 60 x≠0\/idxB 62 x=x.size):feedAll x=([],x):=by
 show feed (x.size+1) x=_;rw[feed,Qa3 h,Qa1 h2]
def TK {x:ByteArray} (h:idxB 60 x=0) (h2:idxB 62 x<x.size):feedAll x=(if(tagOf (x.extract 1 (idxB 62 x))).2 then(tagOf (x.extract 1 (idxB 62 x))).1::(feedAll (x.extract (idxB 62 x+1) x.size)).1 else(feedAll (x.extract (idxB 62 x+1) x.size)).1,(feedAll (x.extract (idxB 62 x+1) x.size)).2):=by
 have e:feed x.size (x.extract (idxB 62 x+1) x.size)=feedAll (x.extract (idxB 62 x+1) x.size):=Jh _ _ _ (by rw[Qc1];omega) o_;show feed (x.size+1) x=_;rw[feed,Qa3 o_,Qa3 o_,e]
def SF {x:ByteArray} (h:idxB 60 x=0) (h2:idxB 62 x<x.size):1<=idxB 62 x:=by
 unfold idxB at *
 have hl:(toL x).length=x.size:=rfl;cases hx:toL x with
 | nil=>rw[hx] at hl;simp only[Qb7] at hl;omega
 | cons c l=>
  grind
def fFeedText:Fct:=⟨[.v (.el .tokenizer),.v (.el .str)],[.sl .token,.el .tokenizer],λ(x_:So_×ByteArray×Unit)=>x_.1.rest.size<=50000000/\x_.2.1.size<=50000000,λ(x_:So_×ByteArray×Unit)=>((feedAll (x_.1.rest++x_.2.1)).1,⟨(feedAll (x_.1.rest++x_.2.1)).2⟩,())⟩
abbrev BV (t:So_) (s:ByteArray):LInv:=⟨[⟨.s,6,true,.sl .token⟩,⟨.s,7,true,.el .str⟩,⟨.b,5,true,.el .tokenizer⟩],λ(z_ x_:(List Sh_)×ByteArray×So_×Unit)=>(x_.1.length+x_.2.1.size<=(t.rest++s).size/\x_.1++(feedAll x_.2.1).1=(feedAll (t.rest++s)).1/\(feedAll x_.2.1).2=(feedAll (t.rest++s)).2)/\x_.2.2.1=z_.2.2.1,λ(x_:(List Sh_)×ByteArray×So_×Unit)=>x_.2.1.size⟩
def Ajl:=AiR.a fFeedText<|Fct.p (KP [1,2,4,5,6,7,8,9,10,11] [26,46,57]) (λ⟨t,s,_⟩=>lv [(3,BV t s)]) AiR.2 func245 (by
 rintro⟨(t:So_),(s:ByteArray),_⟩ hp;refine ho (let q3_:=Value.string s=Value.string s;.ob (sameSize t.rest s)<|lpx (BV t s) ([],(t.rest++s,(default,()))) λ(y2:List Sh_×ByteArray×So_×PUnit) bk2=>let q4_:Out:=.lf fFeedText (y2.1,⟨y2.2.1⟩,());let q1_:=(y2.2.1.size:Int);.cl FP (y2.2.1,(60:Int),()) λ(z2:Int×PUnit)=>let q6_:=0<=z2.1/\z2.1<=q1_;let q2_:=(⟨(3:Int),(⟨#[]⟩:ByteArray),[],y2.2.1.extract 0 z2.1.toNat⟩:Sh_);let q0_:Out:=.cl FP (y2.2.1,(62:Int),()) λ(z3:Int×PUnit)=>let q5_:=0<=w1 z3.1/\w1 z3.1<=q1_;.br (z2.1 != 0) q4_ (.br (z3.1==q1_) q4_ (.ob ((0:Int)<=(1:Int)/\1<=z3.1/\z3.1<=q1_)<|.cl Ht (y2.2.1.extract 1 z3.1.toNat,()) λz4=>.br (z4.2.1) (.ob (Br (y2.1.length+[z4.1].length) 64)<|.ob q5_<|.ob q3_<|.ob (bk2 (y2.1++[z4.1],(y2.2.1.extract (w1 z3.1).toNat y2.2.1.size,(y2.2.2.1,()))))<|.ok) (.ob q5_<|.ob q3_<|.ob (bk2 (y2.1,(y2.2.1.extract (w1 z3.1).toNat y2.2.1.size,(y2.2.2.1,()))))<|.ok)));.br (decide (z2.1>0)) (.br (decide (z2.1<q1_)) (.ob q6_<|.ob (Br (y2.1.length+[q2_].length) 64)<|.ob q6_<|.ob q3_<|.ob (bk2 (y2.1++[q2_],(y2.2.1.extract z2.1.toNat y2.2.1.size,(y2.2.2.1,()))))<|.ok) q0_) q0_) ?_;repeat' first|(guard_target =~ Out.holds _ _;first|refine Ai (li:=BV t s) ?_ λ(y2:List Sh_×ByteArray×So_×PUnit) i2=>?_|refine lfY ?_|refine Ab (λ_=>?_) λ_=>?_|refine Ae ?_ λ_=>?_|refine Aa ?_ λ_=>?_)|exact trivial
 all_goals try (obtain⟨⟨a1,a2,a3⟩,a4⟩:=i2)
 all_goals
  try simp only[BV,fFeedText,FP,Ht,std,Nat.reduceAdd] at *
  try simp(disch:=omega) only[wrapId',toNat1] at *
  try simp(disch:=omega) only[Qa1,Qa3]
  try simp only[show UInt8.ofNat (Int.toNat 60)=60 from rfl,show UInt8.ofNat (Int.toNat 62)=62 from rfl,Qg2,Qb3] at *
  try have k1:=Fv 60 y2.2.1
  try have k2:=Fv 62 y2.2.1
  try have k3:=SF (x:=y2.2.1)
  try have k4:∀ a b,(y2.2.1.extract a b).size<=y2.2.1.size:=λa b=>by rw[Qc1];omega
  try simp(disch:=omega) only[wrapId'] at *
 all_goals first|trivial|omega|(unfold sameSize;omega)|(have:=k4 1 (idxB 62 y2.2.1);omega)|skip
 all_goals first|exact⟨Int.natCast_nonneg _,Int.ofNat_le.2 k1⟩|skip
 all_goals try simp only[Qa9,Qa8] at *
 all_goals first|omega|exact⟨o_,o_⟩|exact⟨o_,o_,o_⟩|skip
 all_goals have k5:∀ a,(y2.2.1.extract a y2.2.1.size).size=y2.2.1.size-a:=λa=>by rw[Qc1];omega
 all_goals first|(rw[MQ (x:=y2.2.1) o_ o_] at a2 a3;rw[Qd3] at a2;exact⟨a2,by rw[<-a3]⟩)|skip
 all_goals first|rw[RQ (x:=y2.2.1) o_ o_] at a2 a3|(rw[TK (x:=y2.2.1) o_ o_] at a2 a3;first|rw[Qa1 ‹_›] at a2|rw[Qa3 (by rw[show Prod.snd _=false from ‹_›];decide)] at a2)
 all_goals try simp only[Ag (show -9223372036854775808<=((idxB 62 y2.2.1:Nat):Int)+1/\((idxB 62 y2.2.1:Nat):Int)+1<=9223372036854775807 from o_),show(((idxB 62 y2.2.1:Nat):Int)+1).toNat=idxB 62 y2.2.1+1 from o_] at *
 all_goals refine⟨⟨⟨?_,?_,a3⟩,a4⟩,?_⟩
 all_goals first|(rw[k5];simp only[Qa4,Qa6,Qb7];omega)|(rw[k5];omega)|exact a2|(rw[Qb4];exact a2)|skip)
def LV {α:Type} [Inhabited α] (f:α->Nat) {l:List α} {i:Nat} (h:i<l.length):szL f (l.drop i)=f (l.getD i default)+1+szL f (l.drop (i+1)):=by rw[drop_cons h,Av]
def LU {b:UInt8}:∀ {l p q:List UInt8},Ft b l=some (p,q)->p.length+q.length+1=l.length
 | [],p,q,h=>by cases h
 | x::l,p,q,h=>by
  rw[Ft] at h;split at h
  ·simp_all
  ·obtain⟨r,hr,he⟩:=Option.map_eq_some_iff.1 h;have:=LU (p:=r.1) (q:=r.2) hr;grind
def Nf:∀ {l:List ByteArray} {acc ats:List St_},tagAttrs l acc=some ats->szL Bm ats<=szL Bm acc+szL Af l
 | [],acc,ats,h=>by simp only[tagAttrs,Qa0] at h;subst h;omega
 | w::l,acc,ats,h=>by
  simp only[tagAttrs] at h;split at h
  ·cases h
  ·rename_i r hr;split at h
   ·have h1:=Nf h;have h2:=LU (p:=r.1) (q:=r.2) hr;rw[Fi] at h1;rw[Av,Af];rw[BQ] at h2;simp only[Bm,F5] at h1;omega
   ·cases h
def Ac7 (s:ByteArray):szToken (tagOf s).1<=s.size:=by
 have h0:szToken default=0:=by decide
 unfold tagOf;split
 ·simp only[h0];omega
 ·split
  ·split
   ·simp only[szToken,szL,Qc1,List.map_nil,List.sum_nil,Qb7,show ByteArray.size ⟨#[]⟩=0 from rfl];omega
   ·simp only[h0];omega
  ·have hs:=L2 32 s;have hp:=(Eh 32 s).1;cases ht:tagAttrs ((spl 32 s).drop 1) [] with
   | none=>simp only[tagFin,h0];omega
   | some ats=>
    have h1:=Nf ht;have h2:=LV Af (l:=spl 32 s) (i:=0) hp;rw[Qe7,Qd9] at h2;have h3:szL Bm []=0:=rfl;simp only[tagFin];simp only[Af] at h2;split
    ·simp only[szToken,show ByteArray.size ⟨#[]⟩=0 from rfl];omega
    ·simp only[h0];omega
def AgT {b:UInt8} {x:ByteArray} (h:idxB b x<x.size):idxB b (x.extract (idxB b x) x.size)=0:=by
 have hl:idxB b x<(toL x).length:=h;have hg:=List.findIdx_getElem (w:=hl);unfold idxB at *
 rw[Bo,Qb0 (by rw[BQ];exact Qa7 _),List.drop_eq_getElem_cons hl,List.findIdx_cons,hg];rfl
def AcL:∀ (f:Nat) (x:ByteArray),szL szToken (feed f x).1+(feed f x).2.size<=x.size+(if idxB 60 x=0 then 0 else 1):=by
 intro f
 induction f with
 | zero=>intro x;have:szL szToken []=0:=rfl;simp only[feed];omega
 | succ f ih=>
  intro x;have hl:=Fv 62 x;have h3:szL Bm []=0:=rfl;have h4:szL szToken []=0:=rfl;simp only[feed];split
  ·rename_i hc;have:=ih (x.extract (idxB 60 x) x.size);have hz:idxB 60 (x.extract (idxB 60 x) x.size)=0:=AgT hc.2;rw[Av];rw[Qa1 hz] at this;rw[Qa3 o_];simp only[szToken,Qc1,show ByteArray.size ⟨#[]⟩=0 from rfl,h3] at *
   omega
  ·split
   ·simp_all
   ·rename_i hc;have:=ih (x.extract (idxB 62 x+1) x.size);have ht:=Ac7 (x.extract 1 (idxB 62 x));have ho:=SF (x:=x) o_ o_;rw[Qc1] at this ht;rw[Qa1 (show idxB 60 x=0 from o_)];have h5:szL szToken (feed f (x.extract (idxB 62 x+1) x.size)).1+(feed f (x.extract (idxB 62 x+1) x.size)).2.size<=x.size-(idxB 62 x+1)+1:=by split at this<;>omega
    split
    ·simp only[Av];omega
    ·dsimp only;omega
def endText (r:ByteArray):List Sh_:=if r=⟨#[]⟩\/r.data.getD 0 0=60 then[] else[⟨3,⟨#[]⟩,[],r⟩]
def NP (r:ByteArray):szL szToken (endText r)<=r.size+1:=by
 unfold endText;have h3:szL Bm []=0:=rfl;have h4:szL szToken []=0:=rfl;split
 ·omega
 ·rw[Av];simp only[szToken,h3,h4,show ByteArray.size ⟨#[]⟩=0 from rfl];omega
def AhB {s:ByteArray} {i:Nat}:((s.data.getD i 0).toNat:Int)=60↔s.data.getD i 0=60:=Aii (b:=60) o_
def Adc {s:ByteArray} (h:¬ s=⟨#[]⟩):0<s.size:=by
 rcases Nat.eq_zero_or_pos s.size with h0|h0
 ·exact absurd (ByteArray.ext (Array.eq_empty_of_size_eq_zero h0)) h
 ·exact h0
def fEndText:Fct:=⟨[.v (.el .tokenizer)],[.sl .token],λ(x_:So_×Unit)=>x_.1.rest.size<=1000000000000,λ(x_:So_×Unit)=>(endText x_.1.rest,())⟩
theorem q17 (t:So_) (hp:fEndText.pre (t,())):Out.holds (fEndText.ctr (t,())).post (.br (t.rest.toList==(⟨#[]⟩:ByteArray).toList) (.lf fEndText ([],())) (.ob ((0:Int)<=(0:Int)/\(0:Int)<(t.rest.size:Int))<|.br ((↑(t.rest.data.getD 0 0).toNat:Int)==60) (.lf fEndText ([],())) (.lf fEndText ([(⟨(3:Int),(⟨#[]⟩:ByteArray),[],t.rest⟩:Sh_)],())))):=by
 refine Ab (λh1=>lfY ?_) (λh1=>Aa ?_ λ_=>Ab (λh3=>lfY ?_) (λh3=>lfY ?_));all_goals try simp only[fEndText,std,Nat.reduceAdd,endText,AhB] at *
 all_goals have hz:=@Adc t.rest
 all_goals first|trivial|omega|(have:=hz ‹_›;omega)|rw[Qa1 (by first|exact .inl ‹_›|exact .inr ‹_›)]|rw[Qa3 (by rintro(h|h)<;>contradiction)]
def AlB:=Ajl.a fEndText<|Fct.o (KP [1,2] [11]) Ajl.2 func246 (by
 rintro⟨(t:So_),_⟩ hp;exact ho _ (q17 t hp))
def Al6:=AlB.a fEndText<|Fct.o (KP [1,2] [11]) AlB.2 func281 (by
 rintro⟨(t:So_),_⟩ hp;exact ho _ (q17 t hp))
def Mm (r:ByteArray):(endText r).length<=1:=by unfold endText;split<;>simp
theorem dflt_rest:(default:So_).rest=⟨#[]⟩/\(∀ s:ByteArray,(⟨#[]⟩:ByteArray)++s=s)/\ByteArray.size ⟨#[]⟩=0:=⟨rfl,λs=>ByteArray.ext (by simp),rfl⟩
def tokensOf (s:ByteArray):List Sh_:=(feedAll s).1++endText (feedAll s).2
def Kf (x:ByteArray):szL szToken (feedAll x).1+(feedAll x).2.size<=x.size+1:=by
 have:=AcL (x.size+1) x;unfold feedAll;grind
def LI (x:ByteArray):(feedAll x).1.length+(feedAll x).2.size<=x.size+1:=by
 have:=Kf x;have:=Ac szToken (feedAll x).1;omega
def D5:Fct:=⟨[.v (.el .str)],[.sl .token],λ(x_:ByteArray×Unit)=>x_.1.size<=10000000,λ(x_:ByteArray×Unit)=>(tokensOf x_.1,())⟩
theorem q18 (s:ByteArray) (hp:D5.pre (s,())):Out.holds (D5.ctr (s,())).post (.cl fFeedText (default,s,()) λz2=>.cl fEndText (z2.2.1,()) λz3=>.ob (Br (z2.1.length+z3.1.length) 64)<|.lf D5 (z2.1++z3.1,())):=by
 refine Ae ?_ λ_=>(Ae ?_ λ_=>(Aa ?_ λ_=>lfY ?_))
 all_goals
  have hz:=LI s;have he:=Mm (feedAll s).2;try simp only[fEndText,fFeedText,D5,std,Nat.reduceAdd,tokensOf,dflt_rest] at *
  try simp(disch:=omega) only[wrapId',toNat1] at *
  try simp(disch:=omega) only[Qa1,Qa3]
 all_goals first|trivial|omega|grind[wrapId',toNat1,drop_cons,drop_end,good_len,maxLen,tokensOf,fFeedText,fEndText,dflt_rest]
def Ajc:=Al6.a D5<|Fct.o [0,2,3,4] Al6.2 func364 (by
 rintro⟨(s:ByteArray),_⟩ hp;exact ho _ (q18 s hp))
def arriveText (p:Sa_) (s:ByteArray):Sa_:=if p.ended=true then p else{ p with bn:=p.bn++(feedAll (p.tok.rest++s)).1,tok:=⟨(feedAll (p.tok.rest++s)).2⟩}
def Ci:Fct:=⟨[.v (.el .page),.v (.el .str)],[.el .page],λ(x_:Sa_×ByteArray×Unit)=>szPage x_.1<=1000000000000/\x_.1.tok.rest.size<=10000000/\x_.2.1.size<=10000000,λ(x_:Sa_×ByteArray×Unit)=>(arriveText x_.1 x_.2.1,())⟩
theorem q19 (p:Sa_) (s:ByteArray) (hp:Ci.pre (p,s,())):Out.holds (Ci.ctr (p,s,())).post (.cl fCopyPage (p,()) λz2=>.br (p.ended) (.lf Ci (z2.1,())) (.cl fFeedText (p.tok,s,()) λz3=>.ob (Br (z2.1.bn.length+z3.1.length) 64)<|.lf Ci ({z2.1 with tok:=z3.2.1,bn:=z2.1.bn++z3.1},()))):=by
 refine Ae ?_ λ_=>(Ab (λh2=>lfY ?_) (λh2=>Ae ?_ λ_=>(Aa ?_ λ_=>lfY ?_)))
 all_goals
  have hz:=LI (p.tok.rest++s);have hl2:=Ac szToken p.bn;have hq:szL szToken p.bn+p.tok.rest.size<=szPage p:=by simp only[szPage,Dv];omega
 all_goals rw[Qb3] at hz
 all_goals
  try simp only[Ci,fCopyPage,fFeedText,std,Nat.reduceAdd,arriveText] at *
  try simp(disch:=omega) only[wrapId',toNat1] at *
  try simp(disch:=omega) only[Qa1,Qa3]
 all_goals first|trivial|omega|grind[wrapId',toNat1,drop_cons,drop_end,good_len,maxLen,arriveText,fCopyPage,fFeedText]
def Am3:=Ajc.a Ci<|Fct.o (KP [1,2,4,5,6,7] [11]) Ajc.2 func183 (by
 rintro⟨(p:Sa_),(s:ByteArray),_⟩ hp;exact ho _ (q19 p s hp))
def endPage (p:Sa_):Sa_:=if p.ended=true then p else{ p with bn:=p.bn++endText p.tok.rest,tok:=default,ended:=true }
def Ej:Fct:=⟨[.v (.el .page)],[.el .page],λ(x_:Sa_×Unit)=>szPage x_.1<=1000000000000,λ(x_:Sa_×Unit)=>(endPage x_.1,())⟩
theorem q20 (p:Sa_) (hp:Ej.pre (p,())):Out.holds (Ej.ctr (p,())).post (.cl fCopyPage (p,()) λz2=>.br (p.ended) (.lf Ej (z2.1,())) (.cl fEndText (p.tok,()) λz3=>.ob (Br (z2.1.bn.length+z3.1.length) 64)<|.lf Ej ({z2.1 with tok:=default,bn:=z2.1.bn++z3.1,ended:=true},()))):=by
 refine Ae ?_ λ_=>(Ab (λh2=>lfY ?_) (λh2=>Ae ?_ λ_=>(Aa ?_ λ_=>lfY ?_)))
 all_goals
  have hz:=Mm p.tok.rest;have hl2:=Ac szToken p.bn;have hq:szL szToken p.bn+p.tok.rest.size<=szPage p:=by simp only[szPage,Dv];omega
  try simp only[fCopyPage,Ej,fEndText,std,Nat.reduceAdd,endPage] at *
  try simp(disch:=omega) only[wrapId',toNat1] at *
  try simp(disch:=omega) only[Qa1,Qa3]
 all_goals first|trivial|omega|grind[wrapId',toNat1,drop_cons,drop_end,good_len,maxLen,endPage,fCopyPage,fEndText]
def AlF:=Am3.a Ej<|Fct.o (KP [1,2,3] [7]) Am3.2 func184 (by
 rintro⟨(p:Sa_),_⟩ hp;exact ho _ (q20 p hp))
def Anv:=AlF.a Ej<|Fct.o (KP [1,2,3] [7]) AlF.2 func224 (by
 rintro⟨(p:Sa_),_⟩ hp;exact ho _ (q20 p hp))
def stylesReady (l:List Sn_):Bool:=l.all λs=>!(decide (s.mode=2) && !s.done)
theorem styles_at {l:List Sn_} {i:Nat} (h:i<l.length):stylesReady (l.drop i)=(!(decide ((l.getD i default).mode=2) && !(l.getD i default).done)&&stylesReady (l.drop (i+1))):=by rw[drop_cons h];rfl
theorem styles_end {l:List Sn_} {i:Nat} (h:l.length<=i):stylesReady (l.drop i)=true:=by rw[Qb1 h];rfl
def AD:Fct:=⟨[.v (.el .page)],[.el .bool],λ(x_:Sa_×Unit)=>x_.1.bf.length<=1000000000000,λ(x_:Sa_×Unit)=>(stylesReady x_.1.bf,())⟩
abbrev BW (p:Sa_):LInv:=⟨[⟨.s,3,true,.el .int⟩,⟨.b,1,false,.el .page⟩],λ(z_ x_:Int×Sa_×Unit)=>(0<=x_.1/\x_.1<=p.bf.length/\stylesReady (p.bf.drop x_.1.toNat)=stylesReady p.bf)/\x_.2.1=z_.2.1,λ(x_:Int×Sa_×Unit)=>p.bf.length-x_.1.toNat⟩
def Ann:=Anv.a AD<|Fct.p (KP [1,2,3] [8,26]) (λ⟨p,_⟩=>lv [(2,BW p)]) Anv.2 func306 (by
 rintro⟨(p:Sa_),_⟩ hp;refine ho (lpx (BW p) ((0:Int),(p,())) λ(y1:Int×Sa_×PUnit) bk1=>.br (decide (y1.1<(y1.2.1.bf.length:Int))) (.ob (inB y1.1 y1.2.1.bf.length)<|.br ((y1.2.1.bf.getD y1.1.toNat default).mode==2) (.ob (inB y1.1 y1.2.1.bf.length)<|.br (!(y1.2.1.bf.getD y1.1.toNat default).done) (.lf AD (false,())) (.ob (bk1 (w1 y1.1,(y1.2.1,())))<|.ok)) (.ob (bk1 (w1 y1.1,(y1.2.1,())))<|.ok)) (.lf AD (true,()))) ?_;refine Ai ?_ λ(y1:Int×Sa_×PUnit) i1=>Ab (λh2=>Aa ?_ λ_=>Ab (λh4=>Aa ?_ λ_=>Ab (λh6=>lfY ?_) (λh6=>Aa ?_ λ_=>trivial)) (λh4=>Aa ?_ λ_=>trivial)) (λh2=>lfY ?_)
 all_goals
  try simp only[BW,AD,std,Nat.reduceAdd,styles_at,styles_end] at *
  try simp(disch:=omega) only[wrapId',toNat1] at *
  try simp(disch:=omega) only[Qa1,Qa3]
 all_goals first|trivial|omega|grind[wrapId',toNat1,drop_cons,drop_end,good_len,maxLen,styles_at,styles_end])
abbrev B5 (p:Sa_):LInv:=⟨[⟨.s,8,true,.el .int⟩],λ_ (x_:Int×Unit)=>0<=x_.1/\x_.1<=p.bf.length/\stylesReady (p.bf.drop x_.1.toNat)=stylesReady p.bf,λ(x_:Int×Unit)=>p.bf.length-x_.1.toNat⟩
def Ajs:=Ann.a AD<|Fct.p (KP [1,2,4,6,7,8] [9,19]) (λ⟨p,_⟩=>lv [(2,B5 p)]) Ann.2 func337 (by
 rintro⟨(p:Sa_),_⟩ hp;refine ho (let q1_:=(p.bf.length:Int);lpx (B5 p) ((0:Int),()) λ(y1:Int×PUnit) bk1=>let q2_:=p.bf.getD y1.1.toNat default;let q0_:Out:=.ob (p.bf=p.bf)<|.ob (Value.int IntKind.i64 q1_=Value.int IntKind.i64 q1_)<|.ob (bk1 (w1 y1.1,()))<|.ok;.br (decide (y1.1<q1_)) (.ob (inB y1.1 p.bf.length)<|.br (q2_.mode==2) (.br (!q2_.done) (.lf AD (false,())) q0_) q0_) (.lf AD (true,()))) ?_;refine Ai ?_ λ(y1:Int×PUnit) i1=>Ab (λh2=>Aa ?_ λ_=>Ab (λh4=>Ab (λh5=>lfY ?_) (λh5=>Aa rfl λ_=>Aa rfl λ_=>Aa ?_ λ_=>trivial)) (λh4=>Aa rfl λ_=>Aa rfl λ_=>Aa ?_ λ_=>trivial)) (λh2=>lfY ?_)
 all_goals
  try simp only[B5,AD,std,Nat.reduceAdd,styles_at,styles_end] at *
  try simp(disch:=omega) only[wrapId',toNat1] at *
  try simp(disch:=omega) only[Qa1,Qa3]
 all_goals first|trivial|omega|grind[wrapId',toNat1,drop_cons,drop_end,good_len,maxLen,styles_at,styles_end])
def textOf (n:Int):List Su_->ByteArray->ByteArray
 | [],s=>s
 | x::l,s=>textOf n l (if x.parent=n/\x.name=⟨#[]⟩ then s++x.text else s)
theorem textOf_at {n:Int} {l:List Su_} {i:Nat} {s:ByteArray} (h:i<l.length):textOf n (l.drop i) s=textOf n (l.drop (i+1)) (if(l.getD i default).parent=n/\(l.getD i default).name=⟨#[]⟩ then s++(l.getD i default).text else s):=by rw[drop_cons h];rfl
theorem textOf_end {n:Int} {l:List Su_} {i:Nat} {s:ByteArray} (h:l.length<=i):textOf n (l.drop i) s=s:=by rw[Qb1 h];rfl
def Fp:Fct:=⟨[.v (.el .ba),.v (.el .int)],[.el .str],λ(x_:Se_×Int×Unit)=>szBuilder x_.1<=1000000000000,λ(x_:Se_×Int×Unit)=>(textOf x_.2.1 x_.1.bi ⟨#[]⟩,())⟩
abbrev CW (b:Se_) (n:Int):LInv:=⟨[⟨.s,5,true,.el .str⟩,⟨.s,6,true,.el .int⟩,⟨.b,2,false,.el .ba⟩],λ(z_ x_:ByteArray×Int×Se_×Unit)=>(0<=x_.2.1/\x_.2.1<=b.bi.length/\x_.1.size+szL szNode (b.bi.drop x_.2.1.toNat)<=szL szNode b.bi/\textOf n (b.bi.drop x_.2.1.toNat) x_.1=textOf n b.bi ⟨#[]⟩)/\x_.2.2.1=z_.2.2.1,λ(x_:ByteArray×Int×Se_×Unit)=>b.bi.length-x_.2.1.toNat⟩
def Akr:=Ajs.a Fp<|Fct.p (KP [1,2,4,5,6] [11,30]) (λ⟨b,n,_⟩=>lv [(3,CW b n)]) Ajs.2 func308 (by
 rintro⟨(b:Se_),(n:Int),_⟩ hp;refine ho (let q4_:=Value.int IntKind.i64 n=Value.int IntKind.i64 n;let q2_:=(⟨#[]⟩:ByteArray);let q5_:=Value.string q2_=Value.string q2_;lpx (CW b n) (q2_,((0:Int),(b,()))) λ(y1:ByteArray×Int×Se_×PUnit) bk1=>let q3_:=inB y1.2.1 y1.2.2.1.bi.length;let q1_:=y1.2.2.1.bi.getD y1.2.1.toNat default;let q0_:Out:=.ob q4_<|.ob q5_<|.ob (bk1 (y1.1,(w1 y1.2.1,(y1.2.2.1,()))))<|.ok;.br (decide (y1.2.1<(y1.2.2.1.bi.length:Int))) (.ob q3_<|.br (q1_.parent==n) (.ob q3_<|.br (q1_.name.toList==q2_.toList) (.ob q3_<|.ob (sameSize y1.1 q1_.text)<|.ob q4_<|.ob q5_<|.ob (bk1 (y1.1++q1_.text,(w1 y1.2.1,(y1.2.2.1,()))))<|.ok) q0_) q0_) (.lf Fp (y1.1,()))) ?_;repeat' first|(guard_target =~ Out.holds _ _;first|refine Ai (li:=CW b n) ?_ λ(y1:ByteArray×Int×Se_×PUnit) i1=>?_|refine lfY ?_|refine Ab (λ_=>?_) λ_=>?_|refine Aa ?_ λ_=>?_)|exact trivial
 all_goals
  have hl:=Ac szNode b.bi;have hb:szL szNode b.bi<=szBuilder b:=by simp only[szBuilder];omega
  have hx:∀ i,i<b.bi.length->szL szNode (b.bi.drop i)=szNode (b.bi.getD i default)+1+szL szNode (b.bi.drop (i+1)):=λi h=>LV szNode h
  try simp only[CW,Fp,std,Nat.reduceAdd,textOf_at,textOf_end,sameSize,Qb3,szNode] at *
  try simp(disch:=omega) only[wrapId',toNat1] at *
  try simp(disch:=omega) only[Qa1,Qa3]
 all_goals first|trivial|omega|grind[wrapId',toNat1,drop_cons,drop_end,good_len,maxLen,textOf_at,textOf_end,sameSize,ByteArray.size_append,szNode])
abbrev CV (b:Se_) (n:Int):LInv:=⟨[⟨.s,5,true,.el .str⟩,⟨.s,11,true,.el .int⟩],λ_ (x_:ByteArray×Int×Unit)=>0<=x_.2.1/\x_.2.1<=b.bi.length/\x_.1.size+szL szNode (b.bi.drop x_.2.1.toNat)<=szL szNode b.bi/\textOf n (b.bi.drop x_.2.1.toNat) x_.1=textOf n b.bi ⟨#[]⟩,λ(x_:ByteArray×Int×Unit)=>b.bi.length-x_.2.1.toNat⟩
def Anp:=Akr.a Fp<|Fct.p (KP [1,2,4,5,7,9,10,11] [12,23]) (λ⟨b,n,_⟩=>lv [(3,CV b n)]) Akr.2 func339 (by
 rintro⟨(b:Se_),(n:Int),_⟩ hp;refine ho (let q5_:=(b.bi.length:Int);let q4_:=Value.int IntKind.i64 n=Value.int IntKind.i64 n;let q2_:=Value.int IntKind.i64 q5_=Value.int IntKind.i64 q5_;let q1_:=(⟨#[]⟩:ByteArray);let q6_:=Value.string q1_=Value.string q1_;lpx (CV b n) (q1_,((0:Int),())) λ(y1:ByteArray×Int×PUnit) bk1=>let q3_:=b.bi.getD y1.2.1.toNat default;let q0_:Out:=.ob q4_<|.ob q6_<|.ob (b.bi=b.bi)<|.ob q2_<|.ob (bk1 (y1.1,(w1 y1.2.1,())))<|.ok;.br (decide (y1.2.1<q5_)) (.ob (inB y1.2.1 b.bi.length)<|.br (q3_.parent==n) (.br (q3_.name.toList==q1_.toList) (.ob (sameSize y1.1 q3_.text)<|.ob q4_<|.ob q6_<|.ob (b.bi=b.bi)<|.ob q2_<|.ob (bk1 (y1.1++q3_.text,(w1 y1.2.1,())))<|.ok) q0_) q0_) (.lf Fp (y1.1,()))) ?_;repeat' first|(guard_target =~ Out.holds _ _;first|refine Ai (li:=CV b n) ?_ λ(y1:ByteArray×Int×PUnit) i1=>?_|refine lfY ?_|refine Ab (λ_=>?_) λ_=>?_|refine Aa ?_ λ_=>?_)|exact trivial
 all_goals
  have hl:=Ac szNode b.bi;have hb:szL szNode b.bi<=szBuilder b:=by simp only[szBuilder];omega
  have hx:∀ i,i<b.bi.length->szL szNode (b.bi.drop i)=szNode (b.bi.getD i default)+1+szL szNode (b.bi.drop (i+1)):=λi h=>LV szNode h
  try simp only[CV,Fp,std,Nat.reduceAdd,textOf_at,textOf_end,sameSize,Qb3,szNode] at *
  try simp(disch:=omega) only[wrapId',toNat1] at *
  try simp(disch:=omega) only[Qa1,Qa3]
 all_goals first|trivial|omega|grind[wrapId',toNat1,drop_cons,drop_end,good_len,maxLen,textOf_at,textOf_end,sameSize,ByteArray.size_append,szNode])
def countName (n:ByteArray) (l:List Su_):Int:=countIf (λx=>decide (x.name=n)) l
def fCountName:Fct:=⟨[.v (.el .ba),.v (.el .str)],[.el .int],λ(x_:Se_×ByteArray×Unit)=>x_.1.bi.length<=1000000000000,λ(x_:Se_×ByteArray×Unit)=>(countName x_.2.1 x_.1.bi,())⟩
abbrev CP (b:Se_) (n:ByteArray):LInv:=⟨[⟨.s,5,true,.el .int⟩,⟨.s,6,true,.el .int⟩,⟨.b,2,false,.el .ba⟩],λ(z_ x_:Int×Int×Se_×Unit)=>(0<=x_.2.1/\x_.2.1<=b.bi.length/\0<=x_.1/\x_.1<=x_.2.1/\x_.1+countIf (λx=>decide (x.name=n)) (b.bi.drop x_.2.1.toNat)=countName n b.bi)/\x_.2.2.1=z_.2.2.1,λ(x_:Int×Int×Se_×Unit)=>b.bi.length-x_.2.1.toNat⟩
def AkA:=Anp.a fCountName<|Fct.p (KP [1,2,4,5,6] [11,21]) (λ⟨b,n,_⟩=>lv [(3,CP b n)]) Anp.2 func440 (by
 rintro⟨(b:Se_),(n:ByteArray),_⟩ hp;refine ho (lpx (CP b n) ((0:Int),((0:Int),(b,()))) λ(y1:Int×Int×Se_×PUnit) bk1=>.br (decide (y1.2.1<(y1.2.2.1.bi.length:Int))) (.ob (inB y1.2.1 y1.2.2.1.bi.length)<|.br ((y1.2.2.1.bi.getD y1.2.1.toNat default).name.toList==n.toList) (.ob (Value.string n=Value.string n)<|.ob (Value.int IntKind.i64 0=Value.int IntKind.i64 (0:Int))<|.ob (bk1 (w1 y1.1,(w1 y1.2.1,(y1.2.2.1,()))))<|.ok) (.ob (Value.string n=Value.string n)<|.ob (Value.int IntKind.i64 0=Value.int IntKind.i64 (0:Int))<|.ob (bk1 (y1.1,(w1 y1.2.1,(y1.2.2.1,()))))<|.ok)) (.lf fCountName (y1.1,()))) ?_;refine Ai ?_ λ(y1:Int×Int×Se_×PUnit) i1=>Ab (λh2=>Aa ?_ λ_=>Ab (λh4=>Aa rfl λ_=>Aa rfl λ_=>Aa ?_ λ_=>trivial) (λh4=>Aa rfl λ_=>Aa rfl λ_=>Aa ?_ λ_=>trivial)) (λh2=>lfY ?_)
 all_goals
  try simp only[CP,fCountName,std,Nat.reduceAdd,countName,countIf,countIf_le] at *
  try simp(disch:=omega) only[wrapId',toNat1] at *
  try simp(disch:=omega) only[Qa1,Qa3]
 all_goals first|trivial|omega|grind[wrapId',toNat1,drop_cons,drop_end,good_len,maxLen,countName,countIf,countIf_le])
abbrev BA (b:Se_) (n:ByteArray):LInv:=⟨[⟨.s,5,true,.el .int⟩,⟨.s,11,true,.el .int⟩],λ_ (x_:Int×Int×Unit)=>0<=x_.2.1/\x_.2.1<=b.bi.length/\0<=x_.1/\x_.1<=x_.2.1/\x_.1+countIf (λx=>decide (x.name=n)) (b.bi.drop x_.2.1.toNat)=countName n b.bi,λ(x_:Int×Int×Unit)=>b.bi.length-x_.2.1.toNat⟩
def Ajm:=AkA.a fCountName<|Fct.p (KP [1,2,4,5,7,9,10,11] [12,18]) (λ⟨b,n,_⟩=>lv [(3,BA b n)]) AkA.2 func455 (by
 rintro⟨(b:Se_),(n:ByteArray),_⟩ hp;refine ho (let q3_:=Value.string n=Value.string n;let q2_:=(b.bi.length:Int);let q1_:=Value.int IntKind.i64 0=Value.int IntKind.i64 (0:Int);let q0_:=Value.int IntKind.i64 q2_=Value.int IntKind.i64 q2_;lpx (BA b n) ((0:Int),((0:Int),())) λ(y1:Int×Int×PUnit) bk1=>.br (decide (y1.2.1<q2_)) (.ob (inB y1.2.1 b.bi.length)<|.br ((b.bi.getD y1.2.1.toNat default).name.toList==n.toList) (.ob q3_<|.ob q1_<|.ob (b.bi=b.bi)<|.ob q0_<|.ob (bk1 (w1 y1.1,(w1 y1.2.1,())))<|.ok) (.ob q3_<|.ob q1_<|.ob (b.bi=b.bi)<|.ob q0_<|.ob (bk1 (y1.1,(w1 y1.2.1,())))<|.ok)) (.lf fCountName (y1.1,()))) ?_;repeat' first|(guard_target =~ Out.holds _ _;first|refine Ai (li:=BA b n) ?_ λ(y1:Int×Int×PUnit) i1=>?_|refine lfY ?_|refine Ab (λ_=>?_) λ_=>?_|refine Aa ?_ λ_=>?_)|exact trivial
 all_goals
  try simp only[BA,fCountName,std,Nat.reduceAdd,countName,countIf,countIf_le] at *
  try simp(disch:=omega) only[wrapId',toNat1] at *
  try simp(disch:=omega) only[Qa1,Qa3]
 all_goals first|trivial|omega|grind[wrapId',toNat1,drop_cons,drop_end,good_len,maxLen,countName,countIf,countIf_le])
def colR (n:ByteArray) (rs:List Sx_) (z:Int):Nat->Int
 | 0=>z
 | m+1=>if(rs.getD m default).name=n then(rs.getD m default).color else colR n rs z m
def colS (n:ByteArray) (l:List Sm_):Nat->Int
 | 0=>0
 | m+1=>colR n (l.getD m default).rules (colS n l m) (l.getD m default).rules.length
def colorOf (l:List Sm_) (n:ByteArray):Int:=colS n l l.length
def P3 {n:ByteArray} {rs:List Sx_} {z k:Int} (h:0<=k):colR n rs z (k+1).toNat=if(rs.getD k.toNat default).name=n then(rs.getD k.toNat default).color else colR n rs z k.toNat:=by
 rw[show(k+1).toNat=k.toNat+1 from o_];rfl
def OF {n:ByteArray} {l:List Sm_} {k:Int} (h:0<=k):colS n l (k+1).toNat=colR n (l.getD k.toNat default).rules (colS n l k.toNat) (l.getD k.toNat default).rules.length:=by
 rw[show(k+1).toNat=k.toNat+1 from o_];rfl
def UM {n:ByteArray} {rs:List Sx_} {z k:Int} (h:k<0):colR n rs z (k+1).toNat=z:=by
 rw[show(k+1).toNat=0 from o_];rfl
def T1 {n:ByteArray} {l:List Sm_} {k:Int} (h:k<0):colS n l (k+1).toNat=0:=by
 rw[show(k+1).toNat=0 from o_];rfl
def Uw {n:ByteArray} {l:List Sm_}:colS n l ((l.length:Int)-1+1).toNat=colorOf l n:=by
 rw[show((l.length:Int)-1+1).toNat=l.length from o_];rfl
def Lu {n:ByteArray} {rs:List Sx_} {z:Int}:colR n rs z ((rs.length:Int)-1+1).toNat=colR n rs z rs.length:=by
 simp
def fColorOf:Fct:=⟨[.v (.sl .sheet),.v (.el .str)],[.el .int],λ(x_:(List Sm_)×ByteArray×Unit)=>szL Eb x_.1<=1000000000000,λ(x_:(List Sm_)×ByteArray×Unit)=>(colorOf x_.1 x_.2.1,())⟩
abbrev DG (l:(List Sm_)) (n:ByteArray):LInv:=⟨[⟨.s,5,true,.el .int⟩],λ_ (x_:Int×Unit)=>-1<=x_.1/\x_.1<l.length/\colS n l (x_.1+1).toNat=colorOf l n,λ(x_:Int×Unit)=>(x_.1+1).toNat⟩
abbrev DH (l:(List Sm_)) (n:ByteArray):LInv:=⟨[⟨.s,6,true,.el .int⟩,⟨.s,5,true,.el .int⟩],λ(z_ x_:Int×Int×Unit)=>x_.2.1=z_.2.1/\0<=x_.2.1/\x_.2.1<l.length/\-1<=x_.1/\x_.1<(l.getD x_.2.1.toNat default).rules.length/\colR n (l.getD x_.2.1.toNat default).rules (colS n l x_.2.1.toNat) (x_.1+1).toNat=colorOf l n,λ(x_:Int×Int×Unit)=>(x_.1+1).toNat⟩
def Al4:=Ajm.a fColorOf<|Fct.p (KP [0,1,4,5,6] [11,22,35]) (λ⟨l,n,_⟩=>λ|2=>some (DG l n)|5=>some (DH l n)|_=>none) Ajm.2 func441 (by
 rintro⟨(l:List Sm_),(n:ByteArray),_⟩ hp;refine ho (let q3_:=Value.string n=Value.string n;lpx (DG l n) (wr ((l.length:Int)-(1:Int)),()) λ(y1:Int×PUnit) bk1=>.br (decide (y1.1>=0)) (.ob (inB y1.1 l.length)<|lpx (DH l n) (wr ((↑(l.getD y1.1.toNat default).rules.length:Int)-(1:Int)),(y1.1,())) λ(y4:Int×Int×PUnit) bk4=>let q4_:=inB y4.2.1 l.length;let q0_:=l.getD y4.2.1.toNat default;let q2_:=q0_.rules.getD y4.1.toNat default;let q1_:=0<=y4.1/\y4.1<(q0_.rules.length:Int);.br (decide (y4.1>=0)) (.ob q4_<|.ob q1_<|.br (q2_.name.toList==n.toList) (.ob q4_<|.ob q1_<|.lf fColorOf (q2_.color,())) (.ob (l=l)<|.ob q3_<|.ob (bk4 (wr (y4.1-(1:Int)),(y4.2.1,())))<|.ok)) (.ob (l=l)<|.ob q3_<|.ob (bk1 (wr (y4.2.1-(1:Int)),()))<|.ok)) (.lf fColorOf ((0:Int),()))) ?_;refine Ai ?_ λ(y1:Int×PUnit) i1=>Ab (λh2=>Aa ?_ λ_=>Ai ?_ λ(y4:Int×Int×PUnit) i4=>Ab (λh5=>Aa ?_ λ_=>Aa ?_ λ_=>Ab (λh8=>Aa ?_ λ_=>Aa ?_ λ_=>lfY ?_) (λh8=>Aa rfl λ_=>Aa rfl λ_=>Aa ?_ λ_=>trivial)) (λh5=>Aa rfl λ_=>Aa rfl λ_=>Aa ?_ λ_=>trivial)) (λh2=>lfY ?_)
 all_goals
  have hl:=Ac Eb l;have hx:∀ i,i<l.length->(l.getD i default).rules.length<=1000000000000:=λi h=>by have:=DZ Eb (l:=l) h;have h2:=Ac LP (l.getD i default).rules;have h3:szL Eb l<=1000000000000:=hp;simp only[Eb] at this;omega
  try simp only[DG,DH,fColorOf,std,Nat.reduceAdd] at *
 all_goals first|trivial|omega|(rw[Ag o_];exact⟨o_,o_,Uw⟩)|(obtain⟨a1,a2,a3⟩:=i1)
 all_goals first|trivial|omega|(have:=hx y1.1.toNat o_;rw[Ag o_];first|exact⟨o_,o_,o_,o_,o_,by rw[Lu,<-OF o_];exact a3⟩|exact⟨o_,o_,o_,o_,by rw[Lu,<-OF o_];exact a3⟩)|(rw[T1 o_] at a3;exact a3)|(obtain⟨b0,b1,b2,b3,b4,b5⟩:=i4)
 all_goals first|(have:=hx y4.2.1.toNat o_)|skip
 all_goals first|(rw[P3 o_,Qa1 ‹_›] at b5;exact b5)|(rw[P3 o_,Qa3 ‹_›] at b5;rw[Ag o_,show(y4.1-1+1).toNat=y4.1.toNat from o_];exact⟨⟨o_,o_,o_,o_,o_,b5⟩,o_⟩)|(rw[UM o_] at b5;rw[Ag o_,show(y4.2.1-1+1).toNat=y4.2.1.toNat from o_];exact⟨⟨o_,o_,b5⟩,o_⟩)|omega|skip)
abbrev Dz (l:(List Sm_)) (n:ByteArray):LInv:=⟨[⟨.s,5,true,.el .int⟩],λ_ (x_:Int×Unit)=>-1<=x_.1/\x_.1<l.length/\colS n l (x_.1+1).toNat=colorOf l n,λ(x_:Int×Unit)=>(x_.1+1).toNat⟩
abbrev Dt (l:(List Sm_)) (n:ByteArray):LInv:=⟨[⟨.s,6,true,.el .int⟩,⟨.s,5,true,.el .int⟩],λ(z_ x_:Int×Int×Unit)=>x_.2.1=z_.2.1/\0<=x_.2.1/\x_.2.1<l.length/\-1<=x_.1/\x_.1<(l.getD x_.2.1.toNat default).rules.length/\colR n (l.getD x_.2.1.toNat default).rules (colS n l x_.2.1.toNat) (x_.1+1).toNat=colorOf l n,λ(x_:Int×Int×Unit)=>(x_.1+1).toNat⟩
def Ajt:=Al4.a fColorOf<|Fct.p (KP [0,1,4,5,6] [11,22,35]) (λ⟨l,n,_⟩=>λ|2=>some (Dz l n)|5=>some (Dt l n)|_=>none) Al4.2 func456 (by
 rintro⟨(l:List Sm_),(n:ByteArray),_⟩ hp;refine ho (let q3_:=Value.string n=Value.string n;lpx (Dz l n) (wr ((l.length:Int)-(1:Int)),()) λ(y1:Int×PUnit) bk1=>.br (decide (y1.1>=0)) (.ob (inB y1.1 l.length)<|lpx (Dt l n) (wr ((↑(l.getD y1.1.toNat default).rules.length:Int)-(1:Int)),(y1.1,())) λ(y4:Int×Int×PUnit) bk4=>let q4_:=inB y4.2.1 l.length;let q0_:=l.getD y4.2.1.toNat default;let q2_:=q0_.rules.getD y4.1.toNat default;let q1_:=0<=y4.1/\y4.1<(q0_.rules.length:Int);.br (decide (y4.1>=0)) (.ob q4_<|.ob q1_<|.br (q2_.name.toList==n.toList) (.ob q4_<|.ob q1_<|.lf fColorOf (q2_.color,())) (.ob (l=l)<|.ob q3_<|.ob (bk4 (wr (y4.1-(1:Int)),(y4.2.1,())))<|.ok)) (.ob (l=l)<|.ob q3_<|.ob (bk1 (wr (y4.2.1-(1:Int)),()))<|.ok)) (.lf fColorOf ((0:Int),()))) ?_;refine Ai ?_ λ(y1:Int×PUnit) i1=>Ab (λh2=>Aa ?_ λ_=>Ai ?_ λ(y4:Int×Int×PUnit) i4=>Ab (λh5=>Aa ?_ λ_=>Aa ?_ λ_=>Ab (λh8=>Aa ?_ λ_=>Aa ?_ λ_=>lfY ?_) (λh8=>Aa rfl λ_=>Aa rfl λ_=>Aa ?_ λ_=>trivial)) (λh5=>Aa rfl λ_=>Aa rfl λ_=>Aa ?_ λ_=>trivial)) (λh2=>lfY ?_)
 all_goals
  have hl:=Ac Eb l;have hx:∀ i,i<l.length->(l.getD i default).rules.length<=1000000000000:=λi h=>by have:=DZ Eb (l:=l) h;have h2:=Ac LP (l.getD i default).rules;have h3:szL Eb l<=1000000000000:=hp;simp only[Eb] at this;omega
  try simp only[Dz,Dt,fColorOf,std,Nat.reduceAdd] at *
 all_goals first|trivial|omega|(rw[Ag o_];exact⟨o_,o_,Uw⟩)|(obtain⟨a1,a2,a3⟩:=i1)
 all_goals first|trivial|omega|(have:=hx y1.1.toNat o_;rw[Ag o_];first|exact⟨o_,o_,o_,o_,o_,by rw[Lu,<-OF o_];exact a3⟩|exact⟨o_,o_,o_,o_,by rw[Lu,<-OF o_];exact a3⟩)|(rw[T1 o_] at a3;exact a3)|(obtain⟨b0,b1,b2,b3,b4,b5⟩:=i4)
 all_goals first|(have:=hx y4.2.1.toNat o_)|skip
 all_goals first|(rw[P3 o_,Qa1 ‹_›] at b5;exact b5)|(rw[P3 o_,Qa3 ‹_›] at b5;rw[Ag o_,show(y4.1-1+1).toNat=y4.1.toNat from o_];exact⟨⟨o_,o_,o_,o_,o_,b5⟩,o_⟩)|(rw[UM o_] at b5;rw[Ag o_,show(y4.2.1-1+1).toNat=y4.2.1.toNat from o_];exact⟨⟨o_,o_,b5⟩,o_⟩)|omega|skip)
def words8:List ByteArray:=[⟨#[]⟩,⟨#[119,114,105,116,101,32]⟩,⟨#[97,100,100,32]⟩,⟨#[99,111,117,110,116,32]⟩,⟨#[108,111,111,107,32]⟩,⟨#[115,97,121,32]⟩]
def JO:Fct:=⟨[],[.sl .str],λ(x_:Unit)=>True,λ(x_:Unit)=>(words8,())⟩
def Akj:=Ajt.a JO<|Fct.o [0] Ajt.2 func438 (by
 rintro⟨_⟩ hp;refine ho (.lf JO ([(⟨#[]⟩:ByteArray),(⟨#[119,114,105,116,101,32]⟩:ByteArray),(⟨#[97,100,100,32]⟩:ByteArray),(⟨#[99,111,117,110,116,32]⟩:ByteArray),(⟨#[108,111,111,107,32]⟩:ByteArray),(⟨#[115,97,121,32]⟩:ByteArray)],())) ?_;refine lfY ?_;all_goals
  try simp only[JO,std,Nat.reduceAdd,words8] at *
  try simp(disch:=omega) only[wrapId',toNat1] at *
  try simp(disch:=omega) only[Qa1,Qa3]
 all_goals first|trivial|omega|grind[wrapId',toNat1,drop_cons,drop_end,good_len,maxLen,words8])
def line8L (s:ByteArray):List ByteArray->Int->Sr_×Bool
 | [],_=>(default,false)
 | w::l,op=>if w.size<=s.size/\s.extract 0 w.size=w then(⟨op,s.extract w.size s.size⟩,if op=1\/op=5 then decide (s.size-w.size<=60) else isName (s.extract w.size s.size)) else line8L s l (op+1)
def Zy {s:ByteArray} {l:List ByteArray} {i:Nat} {k:Int} (h:i<l.length):line8L s (l.drop i) k=if(l.getD i default).size<=s.size/\s.extract 0 (l.getD i default).size=l.getD i default then(⟨k,s.extract (l.getD i default).size s.size⟩,if k=1\/k=5 then decide (s.size-(l.getD i default).size<=60) else isName (s.extract (l.getD i default).size s.size)) else line8L s (l.drop (i+1)) (k+1):=by rw[drop_cons h];rfl
def Vn {s:ByteArray} {l:List ByteArray} {i:Nat} {k:Int} (h:l.length<=i):line8L s (l.drop i) k=(default,false):=by rw[Qb1 h];rfl
def line8 (s:ByteArray):Sr_×Bool:=line8L s (words8.drop 1) 1
def Ka:words8.length=6:=rfl
def Ja:Fct:=⟨[.v (.el .str)],[.el .line,.el .bool],λ(x_:ByteArray×Unit)=>x_.1.size<=1000000000000,λ(x_:ByteArray×Unit)=>((line8 x_.1).1,(line8 x_.1).2,())⟩
abbrev D8 (s:ByteArray):LInv:=⟨[⟨.s,5,true,.el .int⟩,⟨.b,2,true,.el .line⟩,⟨.s,4,true,.sl .str⟩],λ(z_ x_:Int×Sr_×(List ByteArray)×Unit)=>((1<=x_.1/\x_.1<=6/\line8L s (words8.drop x_.1.toNat) x_.1=line8 s)/\x_.2.1=z_.2.1)/\x_.2.2.1=z_.2.2.1,λ(x_:Int×Sr_×(List ByteArray)×Unit)=>(6-x_.1).toNat⟩
def AlI:=Akj.a Ja<|Fct.p (KP [0,2,3,4,5,6,7,8] [13,32]) (λ⟨s,_⟩=>lv [(3,D8 s)]) Akj.2 func406 (by
 rintro⟨(s:ByteArray),_⟩ hp;refine ho (.cl JO () λz2=>lpx (D8 s) ((1:Int),(default,(z2.1,()))) λ(y1:Int×Sr_×List ByteArray×PUnit) bk1=>let q9_:=y1.2.2.1.getD y1.1.toNat default;let q5_:Out:=.ob (Value.string s=Value.string s)<|.ob (bk1 (w1 y1.1,(y1.2.1,(y1.2.2.1,()))))<|.ok;let q0_:=(q9_.size:Int);let q8_:=(0:Int)<=q0_/\q0_<=(s.size:Int);let q7_:=decide ((↑(s.extract q0_.toNat s.size).size:Int)<=60);let q6_:Out:=.lf Ja (⟨y1.1,s.extract q0_.toNat s.size⟩,true,());let q4_:Out:=.lf Ja (⟨y1.1,s.extract q0_.toNat s.size⟩,false,());let q3_:Out:=.cl fIsName (s.extract q0_.toNat s.size,()) λz3=>.lf Ja (⟨y1.1,s.extract q0_.toNat s.size⟩,z3.1,());let q10_:Out:=.br (!y1.1==5) q3_ q4_;let q2_:Out:=.br q7_ q6_ (.br (!true) q3_ q4_);let q1_:Out:=.br (y1.1==5) (.br q7_ q6_ q10_) q10_;.br (decide (y1.1<(y1.2.2.1.length:Int))) (.ob (inB y1.1 y1.2.2.1.length)<|.ob (y1.1.toNat<y1.2.2.1.length)<|.br (decide ((s.size:Int)>=q0_)) (.ob q8_<|.br ((s.extract 0 q0_.toNat).toList==q9_.toList) (.ob q8_<|.br (y1.1==1) (.lp (Bool) (True) (λx=>True) λy10=>.br (y10) (.lp (Bool) (True) (λx=>True) λy12=>.br (y12) q2_ q2_) q2_) (.lp (Bool) (True) (λx=>True) λy23=>.br (y23) (.lp (Bool) (True) (λx=>True) λy25=>.br (y25) q1_ q1_) q1_)) q5_) q5_) (.lf Ja (default,false,()))) ?_;refine Ae trivial λ_=>(Ai ?_ λ(y1:Int×Sr_×List ByteArray×PUnit) i1=>Ab (λh2=>Aa ?_ λ_=>Aa ?_ λ_=>Ab (λh5=>Aa ?_ λ_=>Ab (λh7=>Aa ?_ λ_=>Ab (λh9=>JB trivial λy10 i10=>Ab (λh11=>JB trivial λy12 i12=>Ab (λh13=>Ab (λh14=>lfY ?_) (λh14=>Ab (λh15=>Ae ?_ λ_=>(lfY ?_)) (λh15=>lfY ?_))) (λh13=>Ab (λh17=>lfY ?_) (λh17=>Ab (λh18=>Ae ?_ λ_=>(lfY ?_)) (λh18=>lfY ?_)))) (λh11=>Ab (λh20=>lfY ?_) (λh20=>Ab (λh21=>Ae ?_ λ_=>(lfY ?_)) (λh21=>lfY ?_)))) (λh9=>JB trivial λy23 i23=>Ab (λh24=>JB trivial λy25 i25=>Ab (λh26=>Ab (λh27=>Ab (λh28=>lfY ?_) (λh28=>Ab (λh29=>Ae ?_ λ_=>(lfY ?_)) (λh29=>lfY ?_))) (λh27=>Ab (λh31=>Ae ?_ λ_=>(lfY ?_)) (λh31=>lfY ?_))) (λh26=>Ab (λh33=>Ab (λh34=>lfY ?_) (λh34=>Ab (λh35=>Ae ?_ λ_=>(lfY ?_)) (λh35=>lfY ?_))) (λh33=>Ab (λh37=>Ae ?_ λ_=>(lfY ?_)) (λh37=>lfY ?_)))) (λh24=>Ab (λh39=>Ab (λh40=>lfY ?_) (λh40=>Ab (λh41=>Ae ?_ λ_=>(lfY ?_)) (λh41=>lfY ?_))) (λh39=>Ab (λh43=>Ae ?_ λ_=>(lfY ?_)) (λh43=>lfY ?_))))) (λh7=>Aa rfl λ_=>Aa ?_ λ_=>trivial)) (λh5=>Aa rfl λ_=>Aa ?_ λ_=>trivial)) (λh2=>lfY ?_))
 all_goals
  have k2:∀ a,(s.extract a s.size).size=s.size-a:=λa=>by rw[Qc1];omega
  try simp only[D8,fIsName,Ja,JO,std,Nat.reduceAdd] at *
 all_goals first|exact⟨o_,o_,rfl⟩|(obtain⟨⟨⟨a1,a2,a3⟩,a4⟩,a5⟩:=i1;simp only[a5,Ka,Qg2,k2] at *)
 all_goals first|trivial|omega|skip
 all_goals try (have e:=Zy (s:=s) (l:=words8) (i:=y1.1.toNat) (k:=y1.1) (by rw[Ka];omega);rw[a3] at e)
 all_goals first|(rw[Qa3 (by rintro⟨q1,q2⟩;first|omega|exact absurd q2 ‹_›)] at e;rw[Ag o_,show(y1.1+1).toNat=y1.1.toNat+1 from o_];exact⟨⟨⟨⟨o_,o_,e.symm⟩,a4⟩,trivial⟩,o_⟩)|skip
 all_goals try (have e:=Vn (s:=s) (l:=words8) (i:=y1.1.toNat) (k:=y1.1) (by rw[Ka];omega);rw[a3] at e;rw[e];exact⟨by first|assumption|rfl,rfl⟩)
 all_goals rw[Qa1 (by exact⟨o_,‹_›⟩)] at e
 all_goals rw[e];refine⟨rfl,?_⟩
 all_goals first|rw[Qa1 o_]|rw[Qa3 o_]
 all_goals first|rfl|(rw[Qf1 o_])|(rw[Qg5 o_]))
def lines8 (l:List ByteArray):List Sr_:=l.map λw=>(line8 w).1
def allOk8 (l:List ByteArray):Bool:=l.all λw=>(line8 w).2
def parseScript (s:ByteArray):List Sr_×Bool:=if s=⟨#[]⟩ then([],true) else if(spl 59 s).length<=6/\allOk8 (spl 59 s)=true then(lines8 (spl 59 s),true) else([],false)
def AC:Fct:=⟨[.v (.el .str)],[.sl .line,.el .bool],λ(x_:ByteArray×Unit)=>x_.1.size<=4200000000,λ(x_:ByteArray×Unit)=>((parseScript x_.1).1,(parseScript x_.1).2,())⟩
def LJ {l:List ByteArray} {i:Nat} (h:i<l.length):lines8 (l.take (i+1))=lines8 (l.take i)++[(line8 (l.getD i default)).1]/\allOk8 (l.take (i+1))=(allOk8 (l.take i)&&(line8 (l.getD i default)).2):=by
 rw[take_succ h];exact⟨by simp[lines8],by simp[allOk8]⟩
def Ri {l:List ByteArray} {i:Nat} (h:i<l.length) (h2:(line8 (l.getD i default)).2=false):allOk8 l=false:=by
 unfold allOk8;grind
abbrev Be (s:ByteArray):LInv:=⟨[⟨.s,4,true,.sl .line⟩,⟨.s,6,true,.el .int⟩,⟨.s,5,true,.sl .str⟩],λ(z_ x_:(List Sr_)×Int×(List ByteArray)×Unit)=>(0<=x_.2.1/\x_.2.1<=(spl 59 s).length/\(x_.2.1=0\/(spl 59 s).length<=6)/\x_.1=lines8 ((spl 59 s).take x_.2.1.toNat)/\allOk8 ((spl 59 s).take x_.2.1.toNat)=true)/\x_.2.2.1=z_.2.2.1,λ(x_:(List Sr_)×Int×(List ByteArray)×Unit)=>(spl 59 s).length-x_.2.1.toNat⟩
def AnQ:=AlI.a AC<|Fct.p (KP [0,2,3,4,5,6,7,8] [11,18,35]) (λ⟨s,_⟩=>lv [(6,Be s)]) AlI.2 func361 (by
 rintro⟨(s:ByteArray),_⟩ hp;refine ho (.br (s.toList==(⟨#[]⟩:ByteArray).toList) (.lf AC ([],true,())) (.cl Df (s,(59:Int),()) λz2=>lpx (Be s) ([],((0:Int),(z2.1,()))) λ(y3:List Sr_×Int×List ByteArray×PUnit) bk3=>.br (decide (y3.2.1<(y3.2.2.1.length:Int))) (.ob (inB y3.2.1 y3.2.2.1.length)<|.ob (y3.2.1.toNat<y3.2.2.1.length)<|.cl Ja (y3.2.2.1.getD y3.2.1.toNat default,()) λz3=>.br (!z3.2.1) (.lf AC ([],false,())) (.br (decide ((y3.2.2.1.length:Int)>6)) (.lf AC ([],false,())) (.ob (True)<|.ob (Br (y3.1.length+[z3.1].length) 24)<|.ob (Value.string s=Value.string s)<|.ob (bk3 (y3.1++[z3.1],(w1 y3.2.1,(y3.2.2.1,()))))<|.ok))) (.lf AC (y3.1,true,())))) ?_;repeat' first|(guard_target =~ Out.holds _ _;first|refine Ai (li:=Be s) ?_ λ(y3:List Sr_×Int×List ByteArray×PUnit) i3=>?_|refine lfY ?_|refine Ab (λ_=>?_) λ_=>?_|refine Ae ?_ λ_=>?_|refine Aa ?_ λ_=>?_)|exact trivial
 all_goals
  have hk:=Eh 59 s;have hm:∀ i,i<(spl 59 s).length->((spl 59 s).getD i default).size<=s.size:=λi h=>IY (A7 h)
  have hp1:s.size<=4200000000:=hp;try simp only[Be,Ja,AC,Df,std,Nat.reduceAdd,show UInt8.ofNat (Int.toNat 59)=59 from rfl] at *
 all_goals first|trivial|omega|(unfold parseScript;rw[Qa1 ‹_›];exact⟨rfl,rfl⟩)|exact⟨o_,o_,.inl (by trivial),rfl,rfl⟩|exact⟨o_,by decide,by decide⟩|(obtain⟨⟨a1,a2,a3,a4,a5⟩,a6⟩:=i3;simp only[a6] at *)
 all_goals try have hl:y3.1.length<=(spl 59 s).length:=by rw[a4,lines8,Qe9,Qc0];omega
 all_goals first|trivial|omega|(have:=hm y3.2.1.toNat o_;omega)|skip
 all_goals first|(unfold parseScript;rw[Qa3 ‹_›,Qa3 (by rintro⟨q1,q2⟩;rw[Ri (i:=y3.2.1.toNat) o_ ‹_›] at q2;cases q2)];exact⟨rfl,rfl⟩)|(unfold parseScript;rw[Qa3 ‹_›,Qa3 o_];exact⟨rfl,rfl⟩)|skip
 all_goals first|(rw[Qb0 (l:=spl 59 s) (i:=y3.2.1.toNat) o_] at a4 a5;unfold parseScript;rw[Qa3 ‹_›,Qa1 (by exact⟨o_,a5⟩)];exact⟨a4,rfl⟩)|skip
 all_goals first|(have e:=LJ (l:=spl 59 s) (i:=y3.2.1.toNat) o_;rw[Ag o_,show(y3.2.1+1).toNat=y3.2.1.toNat+1 from o_];refine⟨⟨⟨o_,o_,.inr o_,by rw[e.1,a4],by rw[e.2,a5];assumption⟩,by first|assumption|trivial⟩,o_⟩)|skip)
def mk8 (x:UInt8):UInt8:=if x=91 then 60 else if x=93 then 62 else x
def markup (s:ByteArray):ByteArray:=ofL ((toL s).map mk8)
abbrev enc8 (x:UInt8):Value:=.int .u8 (x.toNat:Int)
def fMarkup:Fct:=⟨[aT],[rT],λx=>x.1.size<=1000000000000,λx=>(markup x.1,())⟩
open Go.RowKit Go.Lib Go.Sort in
def Ma (w:World) (e:TypeId) (s:ByteArray):Holds enc8 (bytesWorld w e s) w.heap.size 0 s.data:=by
 intro j hj;have hn:=bytesWorld_at_new w e s;refine⟨?_,?_⟩
 ·simp only[World.cell?,Qd9,hn];have:(Lib.bytesCells w e s)[j]? = some (.int .u8 s.data[j].toNat):=by unfold Lib.bytesCells;grind
  grind
 ·have h2:j<(bytesCells w e s).size:=by unfold Lib.bytesCells;rw[Array.size_append,Array.size_map];omega
  simp[World.frozen?,hn];omega
open Go.RowKit Go.Lib Go.Sort in
def Ip {s:ByteArray} {dk:Array UInt8} {i:Nat} {y:UInt8} (hi:i<s.size) (hs:dk.size=s.data.size) (hd:∀ t,t<s.size->dk[t]! = if t<i then mk8 s.data[t]! else s.data[t]!) (hy:y=mk8 s.data[i]!) :
 (dk.setIfInBounds i y).size=s.data.size/\∀ t,t<s.size->(dk.setIfInBounds i y)[t]! = if t<i+1 then mk8 s.data[t]! else s.data[t]!:=by
 have hsz:s.data.size=s.size:=rfl;refine⟨by rw[Array.size_setIfInBounds];exact hs,λt ht=>?_⟩;by_cases h:t=i
 ·subst h;rw[getElem!_set_same _ _ _ o_,Qa1 o_,hy]
 ·rw[getElem!_pos _ t (by rw[Array.size_setIfInBounds];omega),Array.getElem_setIfInBounds o_,Qa3 (λe=>h e.symm),<-getElem!_pos dk t o_,hd t ht];by_cases h2:t<i
  ·rw[Qa1 h2,Qa1 o_]
  ·rw[Qa3 h2,Qa3 o_]
open Go.RowKit Go.Lib Go.Sort in
def Um {s:ByteArray} {dk:Array UInt8} {i:Nat} (hi:i<s.size) (hs:dk.size=s.data.size) (hd:∀ t,t<s.size->dk[t]! = if t<i then mk8 s.data[t]! else s.data[t]!) (hy:s.data[i]! = mk8 s.data[i]!) :
 ∀ t,t<s.size->dk[t]! = if t<i+1 then mk8 s.data[t]! else s.data[t]!:=by
 intro t ht;rw[hd t ht];by_cases h:t=i
 ·subst h;rw[Qa3 (Nat.lt_irrefl _),Qa1 o_,<-hy]
 ·by_cases h2:t<i
  ·rw[Qa1 h2,Qa1 o_]
  ·rw[Qa3 h2,Qa3 o_]
def AhA {x:UInt8} (h:((x.toNat:Int)==91)=true):60=mk8 x:=by
 have:x=91:=by apply UInt8.toNat_inj.1;have:=Qf7.1 h;exact Int.ofNat.inj this
 subst this;rfl
def Ahd {x:UInt8} (h:((x.toNat:Int)==91)=false) (h2:((x.toNat:Int)==93)=true):62=mk8 x:=by
 have:x=93:=by apply UInt8.toNat_inj.1;have:=Qf7.1 h2;exact Int.ofNat.inj this
 subst this;rfl
def AiK {x:UInt8} (h:((x.toNat:Int)==91)=false) (h2:((x.toNat:Int)==93)=false):x=mk8 x:=by
 unfold mk8;rw[Qa3 (by rintro rfl;cases h),Qa3 (by rintro rfl;cases h2)]
open Go.RowKit Go.Lib Go.Sort in
def R6 (s:ByteArray) (hs1:s.size<=1000000000000) (w:World):Calls Tryz.prog 439 #[.string s] w λe w'=>e=.returned (.string (markup s))/\∃ dk,dk.size=s.data.size/\w'=putRow enc8 (bytesWorld w 5 s) w.heap.size 0 dk:=by
 have hcv:=λ(w:World)=>Lib.run_convert_string_bytes w 9 181 5 s Tryz.underlying9 Tryz.underlying181 Tryz.underlying5
 have hH:=Ma w 5 s;have hsz:s.data.size=s.size:=rfl
 go_enter func439,Tryz.ntmps439
 go_wp2
 generalize hW1:bytesWorld w 5 s=W1 at *
 go_loopw [4] (λvi wr=>∃ (i:Nat) (dk:Array UInt8),vi=.int .i64 i/\i<=s.size/\dk.size=s.data.size/\wr=putRow enc8 W1 w.heap.size 0 dk/\(∀ t,t<s.size->dk[t]! = if t<i then mk8 s.data[t]! else s.data[t]!)) (λvi _=>s.size+1-(RowKit.intOf vi).toNat)
 case atStart=>exact⟨0,s.data,rfl,o_,rfl,(putRow_self _ _ _ _ _ hH).symm,λt ht=>by rw[Qa3 o_]⟩
 case round=>
  obtain⟨i,dk,rfl,hi,hsk,hw,hd⟩:=hrel;by_cases h1:i<s.size
  ·have hcd:=cell?_putRow enc8 W1 w.heap.size 0 s.data dk hH hsk i o_;have hfz:wr.frozen? ⟨w.heap.size,0+i,none⟩=false:=by rw[hw,frozen?_putRow];exact(hH i o_).2
   rw[<-hw,Qd9] at hcd;rw[Qd9] at hfz;have hxi:=hd i h1;rw[Qa3 (Nat.lt_irrefl _)] at hxi;rw[hxi] at hcd;generalize hx:s.data[i]! = x at *
   dsimp only[enc8] at hcd;have hst:=λy=>putRow_set enc8 W1 w.heap.size 0 dk i y o_
   rw[Qd9] at hst;have hW:Hid (wr=putRow enc8 W1 w.heap.size 0 dk):=hw;have hD:Hid (∀ t,t<s.size->dk[t]! = if t<i then mk8 s.data[t]! else s.data[t]!):=hd;have hS:Hid (∀ y,(putRow enc8 W1 w.heap.size 0 dk).setCell ⟨w.heap.size,i,none⟩ (enc8 y)=putRow enc8 W1 w.heap.size 0 (dk.setIfInBounds i y)):=hst;clear hw hd hst hH hxi
   go_wp2
   case roundEnd=>
    exact⟨⟨i+1,dk.setIfInBounds i 60,rfl,h1,(Ip h1 hsk hD.out (by rw[hx];exact AhA ‹_›)).1,by rw[hW.out];exact hS.out 60,(Ip h1 hsk hD.out (by rw[hx];exact AhA ‹_›)).2⟩,by simp only[RowKit.intOf];omega⟩
   case roundEnd=>
    exact⟨⟨i+1,dk.setIfInBounds i 62,rfl,h1,(Ip h1 hsk hD.out (by rw[hx];exact Ahd ‹_› ‹_›)).1,by rw[hW.out];exact hS.out 62,(Ip h1 hsk hD.out (by rw[hx];exact Ahd ‹_› ‹_›)).2⟩,by simp only[RowKit.intOf];omega⟩
   case roundEnd=>
    exact⟨⟨i+1,dk,rfl,h1,hsk,hW.out,Um h1 hsk hD.out (by rw[hx];exact AiK ‹_› ‹_›)⟩,by simp only[RowKit.intOf];omega⟩
  ·have hie:i=s.size:=o_
   subst hie;have hback:=run_convert_bytes_back (P:=Tryz.prog) wr 181 9 5 ⟨w.heap.size,0,none⟩ (grownCap w s.size 0 5) dk.toList Tryz.underlying181 Tryz.underlying5 Tryz.underlying9 (λj hj=>by
    have hj2:j<dk.size:=by simpa using hj
    have:=cell?_putRow enc8 W1 w.heap.size 0 s.data dk hH hsk j hj2;rw[<-hw] at this;rw[Addr.add_lit,this];simp[getElem!_pos dk j hj2])
   have hl:dk.toList.length=s.size:=by simpa using hsk
   rw[hl,hw] at hback;have hfin:markup s=⟨dk.toList.toArray⟩:=by
    unfold markup ofL;congr 2;apply List.ext_getElem (by simp[BQ,hl]);intro k h2 h3;have hk:k<s.size:=o_
    have:=hd k hk;rw[Qa1 hk,getElem!_pos dk k o_,getElem!_pos s.data k hk] at this;simp[toL,this]
   have hfin:Hid _:=hfin;have hw:Hid _:=hw
   go_wp2
   go_ret
   exact⟨by rw[hfin.out];simp,dk,hsk,by rw[hW1];first|done|exact hw.out⟩
open Go.RowKit Go.Lib Go.Sort in
def VB (w:World) (e:TypeId) (s:ByteArray) (f:Array Value->Array Value):mapBlock (bytesWorld w e s) w.heap.size f=grow (w.drewN 1) #[onCells f (.cells (bytesCells w e s) e ((bytesCells w e s).size,(bytesCells w e s).size+1))]:=by
 have hn:=bytesWorld_at_new w e s;have hz:=bytesWorld_size w e s;have ho:=bytesWorld_at_old w e s;have hh:(bytesWorld w e s).heap.modify w.heap.size (onCells f)=w.heap ++ #[onCells f (.cells (bytesCells w e s) e ((bytesCells w e s).size,(bytesCells w e s).size+1))]:=by grind
 unfold mapBlock grow;rw[hh];rfl
open Go.RowKit Go.Lib Go.Sort in
def YF:fMarkup.ok Tryz.prog 439 :=
 Ut rfl rfl λx hx w ow hB=>(R6 x.1 hx w).mono λe w' ⟨a,dk,hs,b⟩=>⟨a,1,_,b.trans (VB w 5 x.1 _)⟩
def AjT:=AnQ.a fMarkup<|YF
def runLine (b:Se_) (l:List Sm_) (x:Sr_):Se_×ByteArray×ByteArray :=
 if x.op=1 then(b,markup x.text,⟨#[]⟩)
 else if x.op=2 then((if 1<=b.bi.length/\b.bi.length<=39/\isName x.text=true then⟨b.bi++[⟨x.text,⟨#[]⟩,0,[]⟩],b.bl⟩ else b),⟨#[]⟩,⟨#[]⟩)
 else if x.op=3 then(b,⟨#[]⟩,⟨#[99,111,117,110,116,32]⟩++x.text++⟨#[32]⟩++Iv (countName x.text b.bi))
 else if x.op=4 then(b,⟨#[]⟩,⟨#[108,111,111,107,32]⟩++x.text++⟨#[32]⟩++Iv (colorOf l x.text))
 else if x.op=5 then(b,⟨#[]⟩,⟨#[115,97,121,32]⟩++x.text)
 else(b,⟨#[]⟩,⟨#[]⟩)
def okSheets (l:List Sm_):Prop:=∀ s,s∈l->∀ r,r∈s.rules->-9223372036854775808<=r.color/\r.color<=9223372036854775807
def ZV {n:ByteArray} {rs:List Sx_} {z:Int} (hz : -9223372036854775808<=z/\z<=9223372036854775807) (h:∀ r,r∈rs->-9223372036854775808<=r.color/\r.color<=9223372036854775807):∀ m,m<=rs.length->-9223372036854775808<=colR n rs z m/\colR n rs z m<=9223372036854775807
 | 0,_=>hz
 | m+1,hm=>by
  rw[colR];split
  ·grind
  ·exact ZV hz h m o_
def Y6 {n:ByteArray} {l:List Sm_} (h:okSheets l):∀ m,m<=l.length->-9223372036854775808<=colS n l m/\colS n l m<=9223372036854775807
 | 0,_=>by rw[colS];decide
 | m+1,hm=>by rw[colS];exact ZV (Y6 h m o_) (h _ (A7 o_)) _ (Qa7 _)
def Of {l:List Sm_} (h:okSheets l) (n:ByteArray) : -9223372036854775808<=colorOf l n/\colorOf l n<=9223372036854775807:=Y6 h _ (Qa7 _)
def K1 (n:ByteArray) (l:List Su_):0<=countName n l/\countName n l<=l.length:=by unfold countName;have:=countIf_le (λx:Su_=>decide (x.name=n)) l;omega
def fRunLine:Fct:=⟨[.v (.el .ba),.v (.sl .sheet),.v (.el .line)],[.el .ba,.el .str,.el .str],λ(x_:Se_×(List Sm_)×Sr_×Unit)=>szBuilder x_.1<=100000000000/\szL Eb x_.2.1<=100000000000/\x_.2.2.1.text.size<=1000000000/\okSheets x_.2.1,λ(x_:Se_×(List Sm_)×Sr_×Unit)=>((runLine x_.1 x_.2.1 x_.2.2.1).1,(runLine x_.1 x_.2.1 x_.2.2.1).2.1,(runLine x_.1 x_.2.1 x_.2.2.1).2.2,())⟩
theorem q21 (b:Se_) (l:List Sm_) (x:Sr_) (hp:fRunLine.pre (b,l,x,())):Out.holds (fRunLine.ctr (b,l,x,())).post (let q4_:=(⟨#[115,97,121,32]⟩:ByteArray);let q3_:=(⟨#[]⟩:ByteArray);let q2_:=(⟨#[32]⟩:ByteArray);let q1_:=(⟨#[108,111,111,107,32]⟩:ByteArray);let q0_:=(⟨#[99,111,117,110,116,32]⟩:ByteArray);.cl fCopyBuilder (b,()) λz2=>let q5_:Out:=.lf fRunLine (z2.1,q3_,q3_,());.br (x.op==1) (.cl fMarkup (x.text,()) λz3=>.lf fRunLine (z2.1,z3.1,q3_,())) (.br (x.op==2) (.cl fInRange ((b.bi.length:Int),(1:Int),(39:Int),()) λz4=>.br (z4.1) (.cl fIsName (x.text,()) λz5=>.br (z5.1) (.ob (Br (z2.1.bi.length+[(⟨x.text,q3_,(0:Int),[]⟩:Su_)].length) 64)<|.lf fRunLine (⟨z2.1.bi++[(⟨x.text,q3_,(0:Int),[]⟩:Su_)],z2.1.bl⟩,q3_,q3_,())) q5_) q5_) (.br (x.op==3) (.lp (Bool) (True) (λx=>True) λy10=>.br (y10) (.lp (Bool) (True) (λx=>True) λy12=>.br (y12) (.lp (Bool) (True) (λx=>True) λy14=>.br (y14) (.lp (Bool) (True) (λx=>True) λy16=>.br (y16) (.lp (Bool) (True) (λx=>True) λy18=>.br (y18) (.ob (sameSize q0_ x.text)<|.ob (sameSize (q0_++x.text) q2_)<|.cl fCountName (b,x.text,()) λ(z6:Int×PUnit)=>.cl fFormatInt (z6.1,()) λz7=>.ob (sameSize (q0_++x.text++q2_) z7.1)<|.lf fRunLine (z2.1,q3_,q0_++x.text++q2_++z7.1,())) (.ob (sameSize q0_ x.text)<|.ob (sameSize (q0_++x.text) q2_)<|.cl fCountName (b,x.text,()) λ(z8:Int×PUnit)=>.cl fFormatInt (z8.1,()) λz9=>.ob (sameSize (q0_++x.text++q2_) z9.1)<|.lf fRunLine (z2.1,q3_,q0_++x.text++q2_++z9.1,()))) (.ob (sameSize q0_ x.text)<|.cl fCountName (b,x.text,()) λ(z10:Int×PUnit)=>.cl fFormatInt (z10.1,()) λz11=>.ob (sameSize (q0_++x.text) q2_)<|.ob (sameSize (q0_++x.text++q2_) z11.1)<|.lf fRunLine (z2.1,q3_,q0_++x.text++q2_++z11.1,()))) (.cl fCountName (b,x.text,()) λ(z12:Int×PUnit)=>.cl fFormatInt (z12.1,()) λz13=>.ob (sameSize q0_ x.text)<|.ob (sameSize (q0_++x.text) q2_)<|.ob (sameSize (q0_++x.text++q2_) z13.1)<|.lf fRunLine (z2.1,q3_,q0_++x.text++q2_++z13.1,()))) (.cl fCountName (b,x.text,()) λ(z14:Int×PUnit)=>.cl fFormatInt (z14.1,()) λz15=>.ob (sameSize q0_ x.text)<|.ob (sameSize (q0_++x.text) q2_)<|.ob (sameSize (q0_++x.text++q2_) z15.1)<|.lf fRunLine (z2.1,q3_,q0_++x.text++q2_++z15.1,()))) (.cl fCountName (b,x.text,()) λ(z16:Int×PUnit)=>.cl fFormatInt (z16.1,()) λz17=>.ob (sameSize q0_ x.text)<|.ob (sameSize (q0_++x.text) q2_)<|.ob (sameSize (q0_++x.text++q2_) z17.1)<|.lf fRunLine (z2.1,q3_,q0_++x.text++q2_++z17.1,()))) (.br (x.op==4) (.lp (Bool) (True) (λx=>True) λy51=>.br (y51) (.lp (Bool) (True) (λx=>True) λy53=>.br (y53) (.lp (Bool) (True) (λx=>True) λy55=>.br (y55) (.lp (Bool) (True) (λx=>True) λy57=>.br (y57) (.lp (Bool) (True) (λx=>True) λy59=>.br (y59) (.ob (sameSize q1_ x.text)<|.ob (sameSize (q1_++x.text) q2_)<|.cl fColorOf (l,x.text,()) λ(z18:Int×PUnit)=>.cl fFormatInt (z18.1,()) λz19=>.ob (sameSize (q1_++x.text++q2_) z19.1)<|.lf fRunLine (z2.1,q3_,q1_++x.text++q2_++z19.1,())) (.ob (sameSize q1_ x.text)<|.ob (sameSize (q1_++x.text) q2_)<|.cl fColorOf (l,x.text,()) λ(z20:Int×PUnit)=>.cl fFormatInt (z20.1,()) λz21=>.ob (sameSize (q1_++x.text++q2_) z21.1)<|.lf fRunLine (z2.1,q3_,q1_++x.text++q2_++z21.1,()))) (.ob (sameSize q1_ x.text)<|.cl fColorOf (l,x.text,()) λ(z22:Int×PUnit)=>.cl fFormatInt (z22.1,()) λz23=>.ob (sameSize (q1_++x.text) q2_)<|.ob (sameSize (q1_++x.text++q2_) z23.1)<|.lf fRunLine (z2.1,q3_,q1_++x.text++q2_++z23.1,()))) (.cl fColorOf (l,x.text,()) λ(z24:Int×PUnit)=>.cl fFormatInt (z24.1,()) λz25=>.ob (sameSize q1_ x.text)<|.ob (sameSize (q1_++x.text) q2_)<|.ob (sameSize (q1_++x.text++q2_) z25.1)<|.lf fRunLine (z2.1,q3_,q1_++x.text++q2_++z25.1,()))) (.cl fColorOf (l,x.text,()) λ(z26:Int×PUnit)=>.cl fFormatInt (z26.1,()) λz27=>.ob (sameSize q1_ x.text)<|.ob (sameSize (q1_++x.text) q2_)<|.ob (sameSize (q1_++x.text++q2_) z27.1)<|.lf fRunLine (z2.1,q3_,q1_++x.text++q2_++z27.1,()))) (.cl fColorOf (l,x.text,()) λ(z28:Int×PUnit)=>.cl fFormatInt (z28.1,()) λz29=>.ob (sameSize q1_ x.text)<|.ob (sameSize (q1_++x.text) q2_)<|.ob (sameSize (q1_++x.text++q2_) z29.1)<|.lf fRunLine (z2.1,q3_,q1_++x.text++q2_++z29.1,()))) (.br (x.op==5) (.lp (Bool) (True) (λx=>True) λy92=>.br (y92) (.lp (Bool) (True) (λx=>True) λy94=>.br (y94) (.lp (Bool) (True) (λx=>True) λy96=>.br (y96) (.ob (sameSize q4_ x.text)<|.lf fRunLine (z2.1,q3_,q4_++x.text,())) (.ob (sameSize q4_ x.text)<|.lf fRunLine (z2.1,q3_,q4_++x.text,()))) (.ob (sameSize q4_ x.text)<|.lf fRunLine (z2.1,q3_,q4_++x.text,()))) (.ob (sameSize q4_ x.text)<|.lf fRunLine (z2.1,q3_,q4_++x.text,()))) q5_))))):=by
 refine Ae ?_ λ_=>(Ab (λh2=>Ae ?_ λ_=>(lfY ?_)) (λh2=>Ab (λh4=>Ae trivial λ_=>(Ab (λh5=>Ae ?_ λ_=>(Ab (λh7=>Aa ?_ λ_=>lfY ?_) (λh7=>lfY ?_))) (λh5=>lfY ?_))) (λh4=>Ab (λh9=>JB trivial λy10 i10=>Ab (λh11=>JB trivial λy12 i12=>Ab (λh13=>JB trivial λy14 i14=>Ab (λh15=>JB trivial λy16 i16=>Ab (λh17=>JB trivial λy18 i18=>Ab (λh19=>Aa ?_ λ_=>Aa ?_ λ_=>Ae ?_ λ_=>(Ae ?_ λ_=>(Aa ?_ λ_=>lfY ?_))) (λh19=>Aa ?_ λ_=>Aa ?_ λ_=>Ae ?_ λ_=>(Ae ?_ λ_=>(Aa ?_ λ_=>lfY ?_)))) (λh17=>Aa ?_ λ_=>Ae ?_ λ_=>(Ae ?_ λ_=>(Aa ?_ λ_=>Aa ?_ λ_=>lfY ?_)))) (λh15=>Ae ?_ λ_=>(Ae ?_ λ_=>(Aa ?_ λ_=>Aa ?_ λ_=>Aa ?_ λ_=>lfY ?_)))) (λh13=>Ae ?_ λ_=>(Ae ?_ λ_=>(Aa ?_ λ_=>Aa ?_ λ_=>Aa ?_ λ_=>lfY ?_)))) (λh11=>Ae ?_ λ_=>(Ae ?_ λ_=>(Aa ?_ λ_=>Aa ?_ λ_=>Aa ?_ λ_=>lfY ?_)))) (λh9=>Ab (λh50=>JB trivial λy51 i51=>Ab (λh52=>JB trivial λy53 i53=>Ab (λh54=>JB trivial λy55 i55=>Ab (λh56=>JB trivial λy57 i57=>Ab (λh58=>JB trivial λy59 i59=>Ab (λh60=>Aa ?_ λ_=>Aa ?_ λ_=>Ae ?_ λ_=>(Ae ?_ λ_=>(Aa ?_ λ_=>lfY ?_))) (λh60=>Aa ?_ λ_=>Aa ?_ λ_=>Ae ?_ λ_=>(Ae ?_ λ_=>(Aa ?_ λ_=>lfY ?_)))) (λh58=>Aa ?_ λ_=>Ae ?_ λ_=>(Ae ?_ λ_=>(Aa ?_ λ_=>Aa ?_ λ_=>lfY ?_)))) (λh56=>Ae ?_ λ_=>(Ae ?_ λ_=>(Aa ?_ λ_=>Aa ?_ λ_=>Aa ?_ λ_=>lfY ?_)))) (λh54=>Ae ?_ λ_=>(Ae ?_ λ_=>(Aa ?_ λ_=>Aa ?_ λ_=>Aa ?_ λ_=>lfY ?_)))) (λh52=>Ae ?_ λ_=>(Ae ?_ λ_=>(Aa ?_ λ_=>Aa ?_ λ_=>Aa ?_ λ_=>lfY ?_)))) (λh50=>Ab (λh91=>JB trivial λy92 i92=>Ab (λh93=>JB trivial λy94 i94=>Ab (λh95=>JB trivial λy96 i96=>Ab (λh97=>Aa ?_ λ_=>lfY ?_) (λh97=>Aa ?_ λ_=>lfY ?_)) (λh95=>Aa ?_ λ_=>lfY ?_)) (λh93=>Aa ?_ λ_=>lfY ?_)) (λh91=>lfY ?_))))))
 all_goals
  have hl:=Ac szNode b.bi;have hb:szL szNode b.bi<=szBuilder b:=by simp only[szBuilder];omega
  have hc:=K1 x.text b.bi;have hx:=Of hp.2.2.2 x.text;have hf:=λ(n:Int) (h0 : -9223372036854775808<=n) (h1:n<=9223372036854775807)=>Mo h0 h1
  try simp only[fColorOf,fCopyBuilder,fCountName,fFormatInt,fInRange,fIsName,fMarkup,fRunLine,std,Nat.reduceAdd,runLine,inRange,sameSize,Qb3] at *
  try simp(disch:=omega) only[wrapId',toNat1] at *
  try simp(disch:=omega) only[Qa1,Qa3]
 all_goals first|trivial|omega|grind[wrapId',toNat1,drop_cons,drop_end,good_len,maxLen,runLine,fCopyBuilder,fMarkup,fIsName,fInRange,inRange,fCountName,fColorOf,fFormatInt,sameSize,ByteArray.size_append]
def AlV:=AjT.a fRunLine<|Fct.o (KP [1,3,5,6,7,8,9,13] [14,20,30,40,53,66]) AjT.2 func407 (by
 rintro⟨(b:Se_),(l:List Sm_),(x:Sr_),_⟩ hp;exact ho _ (q21 b l x hp))
def runLines (l:List Sm_):List Sr_->Se_->ByteArray->List ByteArray->Se_×ByteArray×List ByteArray
 | [],b,w,g=>(b,w,g)
 | x::r,b,w,g=>runLines l r (runLine b l x).1 (w++(runLine b l x).2.1) (if(runLine b l x).2.2=⟨#[]⟩ then g else g++[(runLine b l x).2.2])
theorem runLines_at {l:List Sm_} {r:List Sr_} {i:Nat} {b:Se_} {w:ByteArray} {g:List ByteArray} (h:i<r.length):runLines l (r.drop i) b w g=runLines l (r.drop (i+1)) (runLine b l (r.getD i default)).1 (w++(runLine b l (r.getD i default)).2.1) (if(runLine b l (r.getD i default)).2.2=⟨#[]⟩ then g else g++[(runLine b l (r.getD i default)).2.2]):=by rw[drop_cons h];rfl
theorem runLines_end {l:List Sm_} {r:List Sr_} {i:Nat} {b:Se_} {w:ByteArray} {g:List ByteArray} (h:r.length<=i):runLines l (r.drop i) b w g=(b,w,g):=by rw[Qb1 h];rfl
def JS (b:Se_) (l:List Sm_) (x:Sr_):szBuilder (runLine b l x).1<=szBuilder b+x.text.size+1/\(runLine b l x).2.1.size<=x.text.size:=by
 have h0:ByteArray.size ⟨#[]⟩=0:=rfl;have h1:(markup x.text).size=x.text.size:=by unfold markup;rw[F5,Qe9,BQ]
 have h3:szL Bm []=0:=rfl;unfold runLine;repeat' split
 all_goals simp only[h0,h1,szBuilder,Fi,szNode,h3]
 all_goals omega
def runScript (b:Se_) (l:List Sm_) (r:List Sr_):Se_×ByteArray×List ByteArray:=runLines l r b ⟨#[]⟩ []
def Ck:Fct:=⟨[.v (.el .ba),.v (.sl .sheet),.v (.sl .line)],[.el .ba,.el .str,.sl .str],λ(x_:Se_×(List Sm_)×(List Sr_)×Unit)=>szBuilder x_.1<=50000000000/\szL Eb x_.2.1<=100000000000/\szL Dl x_.2.2.1<=1000000000/\okSheets x_.2.1,λ(x_:Se_×(List Sm_)×(List Sr_)×Unit)=>((runScript x_.1 x_.2.1 x_.2.2.1).1,(runScript x_.1 x_.2.1 x_.2.2.1).2.1,(runScript x_.1 x_.2.1 x_.2.2.1).2.2,())⟩
abbrev BH (b:Se_) (l:(List Sm_)) (r:(List Sr_)):LInv:=⟨[⟨.b,9,true,.el .ba⟩,⟨.s,10,true,.el .str⟩,⟨.s,11,true,.sl .str⟩,⟨.s,12,true,.el .int⟩,⟨.b,6,true,.el .ba⟩],λ(z_ x_:Se_×ByteArray×(List ByteArray)×Int×Se_×Unit)=>(0<=x_.2.2.2.1/\x_.2.2.2.1<=r.length/\szBuilder x_.1+szL Dl (r.drop x_.2.2.2.1.toNat)<=szBuilder b+szL Dl r/\x_.2.1.size+szL Dl (r.drop x_.2.2.2.1.toNat)<=szL Dl r/\x_.2.2.1.length<=x_.2.2.2.1/\runLines l (r.drop x_.2.2.2.1.toNat) x_.1 x_.2.1 x_.2.2.1=runScript b l r)/\x_.2.2.2.2.1=z_.2.2.2.2.1,λ(x_:Se_×ByteArray×(List ByteArray)×Int×Se_×Unit)=>r.length-x_.2.2.2.1.toNat⟩
end Go.Proofs.YtglhphmnikpkfaaGreatDoor.fnExactLoadFast
