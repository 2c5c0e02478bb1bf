/-
  Contracts of functions that the law of FnActions reaches, part 2.
-/
import Derived.Test.YthpiiodbmkjmjaaGreatDoorVPActions1
namespace Go.Proofs.YthpiiodbmkjmjaaGreatDoor.fnActions
open Go.Proofs.YthpiiodbmkjmjaaGreatDoor
open Go.D Go.Proofs.Tryz
set_option maxRecDepth 100000
set_option maxHeartbeats 2000000
set_option linter.defProp false
set_option linter.unusedVariables false
set_option linter.unusedSimpArgs false
def Akh:=AkY.a AQ<|Fct.o (KP [1,2,3] [11,27]) AkY.2 func187 (by
 rintro⟨(p:Sj_),_⟩ hp;refine ho (let q3_:=(⟨#[]⟩:ByteArray);let q2_:Out:=.lf AQ (q3_,());let q1_:=(⟨#[59,110,111,110,99,101,32]⟩:ByteArray);let q0_:=(⟨#[59]⟩:ByteArray);.cl CG (p,()) λz2=>.br (!z2.1) q2_ (.br (!p.set_) q2_ (.cl N3 ((⟨#[115,99,114,105,112,116]⟩:ByteArray),p.bp,()) λz3=>.ob (sameSize z3.1 q0_)<|.cl N3 ((⟨#[115,116,121,108,101]⟩:ByteArray),p.styles,()) λz4=>.ob (sameSize (z3.1++q0_) z4.1)<|.ob (sameSize (z3.1++q0_++z4.1) q0_)<|.cl N3 ((⟨#[105,109,103]⟩:ByteArray),p.images,()) λz5=>.ob (sameSize (z3.1++q0_++z4.1++q0_) z5.1)<|.br (!p.nonce.toList==q3_.toList) (.ob (sameSize (z3.1++q0_++z4.1++q0_++z5.1) q1_)<|.ob (sameSize (z3.1++q0_++z4.1++q0_++z5.1++q1_) p.nonce)<|.lf AQ (z3.1++q0_++z4.1++q0_++z5.1++q1_++p.nonce,())) (.lf AQ (z3.1++q0_++z4.1++q0_++z5.1,()))))) ?_;repeat' (guard_target =~ Out.holds _ _;first|refine lfY ?_|refine Aa (λ_=>?_) λ_=>?_|refine Af ?_ λ_=>?_|refine Ac ?_ λ_=>?_)
 all_goals try simp only[std,Nat.reduceAdd] at *
 all_goals first|trivial|omega|skip
 all_goals try (have hA:isPolicy p=true:=‹_›;have hB:p.set_=true:=‹_›;obtain⟨a1,a2,a3,a4,a5,a6,a7⟩:=FF hA hB)
 all_goals
  try have b1:=FY (w:=⟨#[115,99,114,105,112,116]⟩) a1 a2 (by decide)
  try have b2:=FY (w:=⟨#[115,116,121,108,101]⟩) a3 a4 (by decide)
  try have b3:=FY (w:=⟨#[105,109,103]⟩) a5 a6 (by decide)
  try simp only[std,Nat.reduceAdd,formatPolicy,sameSize,Qa6] at *
  try simp(disch:=omega) only[wrapId',toNat1] at *
  try simp(disch:=omega) only[Qa3,Qa5]
 all_goals first|trivial|omega|grind[wrapId',toNat1,drop_cons,drop_end,good_len,maxLen,formatPolicy,sameSize,ByteArray.size_append])
def hosts9:List ByteArray:=[⟨#[104,111,109,101]⟩,⟨#[99,100,110]⟩,⟨#[101,118,105,108]⟩]
def Uq {i:Nat} (h:i<3):isName (hosts9.getD i default)=true:=by
 match i,h with
 | 0,_=>decide
 | 1,_=>decide
 | 2,_=>decide
abbrev Ow:Xct:=⟨[.u],[.sl .str],λ(x_:Ty68_)=>True,λ(x_:Ty68_) (y_:Ty49_)=>y_.1.length<=3/\y_.1.all isName=true⟩
abbrev FJ (c:Unit):LInv:=⟨[⟨.s,3,true,.sl .str⟩,⟨.s,9,true,.el .int⟩,⟨.s,7,true,.sl .str⟩],λ_ (x_:Ty73_)=>0<=x_.2.1/\x_.2.1<=3/\x_.1.length<=x_.2.1/\x_.1.all isName=true/\x_.2.2.1=hosts9,λ(x_:Ty73_)=>3-x_.2.1.toNat⟩
def AkD:=Akh.X Ow<|Xct.p (KP [0,2,3,5,7,8,9] [10,14]) (λ⟨c,_⟩=>lv [(3,FJ c)]) Akh.2 func293 (by
 rintro⟨(c:PUnit),_⟩ hp;refine ho (lpx (FJ c) ([],((0:Int),([(⟨#[104,111,109,101]⟩:ByteArray),(⟨#[99,100,110]⟩:ByteArray),(⟨#[101,118,105,108]⟩:ByteArray)],()))) λ(y1:Ty73_) bk1=>.br (decide (y1.2.1<3)) (.ix y1.2.1 y1.2.2.1.length<|.dr JD ((),(2:Int),()) λ(y5:Ty70_)=>.br (y5.1) (.ap (y1.1.length+[y1.2.2.1.getD y1.2.1.toNat default].length) 16<|.re (Value.int IntKind.i64 (3:Int))<|.bk (bk1 (y1.1++[y1.2.2.1.getD y1.2.1.toNat default],(w1 y1.2.1,(y1.2.2.1,()))))) (.re (Value.int IntKind.i64 (3:Int))<|.bk (bk1 (y1.1,(w1 y1.2.1,(y1.2.2.1,())))))) (.lx Ow (y1.1,()))) ?_;refine Au ?_ λ(y1:Ty73_) i1=>Aa (λh2=>Er ?_ λo3 o4=>CV trivial λ(y5:Ty70_) i5=>Aa (λh6=>Ek ?_ λ_=>An<|A8 ?_) (λh6=>An<|A8 ?_)) (λh2=>lxY ?_)
 all_goals
  have h9:hosts9.length=3:=rfl;have hn:∀ i,i<3->isName (hosts9.getD i default)=true:=λi h=>Uq h
  try exact⟨o_,o_,by simp,rfl,rfl⟩
 all_goals try (obtain⟨a1,a2,a3,a4,a5⟩:=i1;simp only[a5] at *)
 all_goals
  try simp only[std,Nat.reduceAdd] at *
  try simp(disch:=omega) only[wrapId',toNat1] at *
  try simp(disch:=omega) only[Qa3,Qa5]
 all_goals first|trivial|omega|grind[wrapId',toNat1,drop_cons,drop_end,good_len,maxLen])
abbrev I2:Xct:=⟨[.u],[.el .bj],λ(x_:Ty68_)=>True,λ(x_:Ty68_) (y_:Ty28_)=>isPolicy y_.1=true⟩
def Akn:=AkD.X I2<|Xct.o (KP [0,2,3] [5,15]) AkD.2 func188 (by
 rintro⟨(c:PUnit),_⟩ hp;refine ho (.dr JD ((),(2:Int),()) λ(y1:Ty70_)=>.br (y1.1) (.leaf (.one true [vb (false),.nl,.nl,.nl,vs ((⟨#[]⟩:ByteArray))]) [] []) (.dr Ow ((),()) λ(y3:Ty49_)=>.dr Ow ((),()) λ(y4:Ty49_)=>.dr Ow ((),()) λ(y5:Ty49_)=>.dr JD ((),(2:Int),()) λ(y6:Ty70_)=>.br (y6.1) (.lx I2 (⟨true,y3.1,y4.1,y5.1,(⟨#[110,55]⟩:ByteArray)⟩,())) (.lx I2 (⟨true,y3.1,y4.1,y5.1,(⟨#[]⟩:ByteArray)⟩,())))) ?_;refine CV trivial λ(y1:Ty70_) i1=>Aa (λh2=>Xct.leafZ (S:=I2) (default,()) (by repeat' first|exact rfl|exact trivial|refine And.intro ?_ ?_) ?_) (λh2=>CV trivial λ(y3:Ty49_) i3=>CV trivial λ(y4:Ty49_) i4=>CV trivial λ(y5:Ty49_) i5=>CV trivial λ(y6:Ty70_) i6=>Aa (λh7=>lxY ?_) (λh7=>lxY ?_))
 all_goals try simp only[std,Nat.reduceAdd] at *
 all_goals first|rfl|(simp only[isPolicy,Qa2,Qe8,Qa8,Qf6];first|exact⟨⟨⟨⟨i3.2,o_⟩,i4.2,o_⟩,i5.2,o_⟩,.inl trivial⟩|exact⟨⟨⟨⟨i3.2,o_⟩,i4.2,o_⟩,i5.2,o_⟩,.inl rfl⟩|exact⟨⟨⟨⟨i3.2,o_⟩,i4.2,o_⟩,i5.2,o_⟩,.inr (by decide)⟩))
def Aef {α:Type} {f:α->Nat} {B:Nat}:∀ {l:List α},(∀ x∈l,f x<=B)->szL f l<=(B+1)*l.length:=by
 intro l
 induction l with
 | nil=>intro _;simp[szL]
 | cons x l ih=>
  intro h;have h1:=ih λy hy=>h y (Qc3 _ hy)
  have h2:=h x Qd3;have h3:szL f (x::l)=f x+1+szL f l:=by simp only[szL,Qd0,List.sum_cons,Qa7];omega
  rw[h3,Qa7,Nat.mul_add];omega
def QW {l:List ByteArray} (h:l.all isName=true):szL Ae l<=9*l.length:=Aef (B:=8) λx hx=>BL (Qc0.1 h x hx)
def KH {p:Sj_} (h:isPolicy p=true):AM p<=128:=by
 cases hs:p.set_ with
 | true=>
  obtain⟨a1,a2,a3,a4,a5,a6,a7⟩:=FF h hs;have b1:=QW a1;have b2:=QW a3;have b3:=QW a5;simp only[AM];omega
 | false=>
  simp only[isPolicy,hs,Qd6,Qe6,Qa8] at h;obtain⟨h1,h2,h3,h4⟩:=h;rw[List.length_eq_zero_iff] at h1 h2 h3;simp only[AM,h1,h2,h3,h4];decide
abbrev IU:Xct:=⟨[.u,.v (.el .int)],[.el .bd],λ(x_:Ty69_)=>True,λ(x_:Ty69_) (y_:Ty7_)=>y_.1.body.size<=400/\y_.1.bj.size<=200⟩
def AiT:=Akn.X IU<|Xct.o (KP [0,1,4,5] [17]) Akn.2 func290 (by
 rintro⟨(c:PUnit),(k:Int),_⟩ hp;refine ho (.dr Jw ((),k,()) λ(y1:Ty48_)=>.dr Pm ((),[(0:Int),(5:Int),(50:Int)],()) λ(y3:Ty3_)=>.dr JD ((),(2:Int),()) λ(y4:Ty70_)=>.br (k==1) (.dr I2 ((),()) λ(y6:Ty28_)=>.cl AQ (y6.1,()) λz2=>.lx IU (⟨(200:Int),k,y1.1,y3.1,y4.1,z2.1⟩,())) (.lx IU (⟨(200:Int),k,y1.1,y3.1,y4.1,(⟨#[]⟩:ByteArray)⟩,()))) ?_;refine CV trivial λ(y1:Ty48_) i1=>F6 ?_ λo2 (y3:Ty3_) i3=>CV trivial λ(y4:Ty70_) i4=>Aa (λh5=>CV trivial λ(y6:Ty28_) i6=>Ei ?_ λo7 z2 ez2=>(lxY ?_)) (λh5=>lxY ?_)
 all_goals try subst_vars
 all_goals
  try have q:=KH i6
  try have q2:=Gn y6.1
  try simp only[std,Nat.reduceAdd] at *
 all_goals first|omega|decide|exact⟨i1,q2⟩|exact⟨i1,by decide⟩)
abbrev LN:Xct:=⟨[.u],[.el .bd],λ(x_:Ty68_)=>True,λ(x_:Ty68_) (y_:Ty7_)=>y_.1.body.size<=2000/\y_.1.bj.size<=200⟩
abbrev FV (c:Unit):LInv:=⟨[⟨.b,3,true,.el .bd⟩,⟨.b,2,true,.el .bd⟩],λ(z_ x_:Ty74_)=>(x_.1.body.size<=2000/\x_.1.bj.size<=200)/\x_.2.1=z_.2.1,λ(x_:Ty74_)=>400-x_.1.body.size⟩
def Am1:=AiT.X LN<|Xct.p (KP [0,2,3,10] [11,17,23,29,35,40]) (λ⟨c,_⟩=>lv [(12,FV c)]) AiT.2 func368 (by
 rintro⟨(c:PUnit),_⟩ hp;refine ho (let q0_:=(⟨#[48,49,50,51,52,53,54,55,56,57]⟩:ByteArray);.dr Cv ((),(5:Int),()) λ(y1:Ty3_)=>.dr IU ((),wr ((1:Int)+y1.1),()) λ(y2:Ty7_)=>.dr Cv ((),(12:Int),()) λ(y3:Ty3_)=>.br (y3.1==0) (.dr Pm ((),[(99:Int),(100:Int),(404:Int),(599:Int),(600:Int)],()) λ(y6:Ty3_)=>.lx LN ({y2.1 with status:=y6.1},())) (.br (y3.1==1) (.dr Pm ((),[(0:Int),(6:Int)],()) λ(y9:Ty3_)=>.lx LN ({y2.1 with kind:=y9.1},())) (.br (y3.1==2) (.dr Pm ((),[(-1:Int),(1000:Int),(1001:Int)],()) λ(y12:Ty3_)=>.lx LN ({y2.1 with age:=y12.1},())) (.br (y3.1==3) (.dr If ((),[(⟨#[120]⟩:ByteArray),(⟨#[115,99,114,105,112,116,59,115,116,121,108,101,59,105,109,103]⟩:ByteArray)],()) λ(y15:Ty48_)=>.lx LN ({y2.1 with bj:=y15.1},())) (.br (y3.1==4) (lpx (FV c) (y2.1,(default,())) λ(y17:Ty74_) bk17=>.br (decide ((y17.1.body.size:Int)<400)) (.ob (sameSize y17.1.body q0_)<|.re (Value.int IntKind.i64 y3.1)<|.bk (bk17 (({y17.1 with body:=y17.1.body++q0_}:Sc_),(y17.2.1,())))) (.lx LN (y17.1,()))) (.lx LN (y2.1,()))))))) ?_;refine CV trivial λ(y1:Ty3_) i1=>CV trivial λ(y2:Ty7_) i2=>CV trivial λ(y3:Ty3_) i3=>Aa (λh4=>F6 ?_ λo5 (y6:Ty3_) i6=>lxY ?_) (λh4=>Aa (λh7=>F6 ?_ λo8 (y9:Ty3_) i9=>lxY ?_) (λh7=>Aa (λh10=>F6 ?_ λo11 (y12:Ty3_) i12=>lxY ?_) (λh10=>Aa (λh13=>F6 ?_ λo14 (y15:Ty48_) i15=>lxY ?_) (λh13=>Aa (λh16=>Au ?_ λ(y17:Ty74_) i17=>Aa (λh18=>Ac ?_ λ_=>An<|A8 ?_) (λh18=>lxY ?_)) (λh16=>lxY ?_)))))
 all_goals try simp only[std,Nat.reduceAdd] at *
 all_goals first|omega|decide|exact i2|skip
 all_goals
  try simp only[std,Nat.reduceAdd,sameSize,Qa6] at *
  try simp(disch:=omega) only[wrapId',toNat1] at *
  try simp(disch:=omega) only[Qa3,Qa5]
 all_goals first|trivial|omega|grind[wrapId',toNat1,drop_cons,drop_end,good_len,maxLen,sameSize,ByteArray.size_append])
def findGuess (l:List Sm_) (a:Sb_):Int:=fidx (λg=>decide (g.to=a)) l 0
abbrev Dd:Fct:=⟨[.v (.sl .guess),.v (.el .addr)],[.el .int],λ(x_:Ty75_)=>x_.1.length<=4194304,λ(x_:Ty75_)=>(findGuess x_.1 x_.2.1,())⟩
abbrev Cj (l:(List Sm_)) (a:Sb_):LInv:=⟨[⟨.s,5,true,.el .int⟩,⟨.b,3,true,.el .addr⟩],λ(z_ x_:Ty2_)=>(0<=x_.1/\x_.1<=l.length/\fidx (λg=>decide (g.to=a)) (l.drop x_.1.toNat) x_.1=findGuess l a)/\x_.2.1=z_.2.1,λ(x_:Ty2_)=>l.length-x_.1.toNat⟩
def AkX:=Am1.a Dd<|Fct.p (KP [0,3,4,5] [9,18]) (λ⟨l,a,_⟩=>lv [(2,Cj l a)]) Am1.2 func76 (by
 rintro⟨(l:List Sm_),(a:Sb_),_⟩ hp;exact hg (.lq (Int×Sb_×PUnit) (Cj l a).inv (Cj l a).m ((0:Int),(a,())) λy1 bk1=>.br (decide (y1.1<(l.length:Int))) (.ob (inB y1.1 l.length)<|.br ((l.getD y1.1.toNat default).to.host==y1.2.1.host&&((l.getD y1.1.toNat default).to.path==y1.2.1.path&&true)) (.lf Dd (y1.1,())) (.re (l)<|.bk (bk1 (w1 y1.1,(y1.2.1,()))))) (.lf Dd ((-1:Int),()))) (an_ @findGuess.eq_1<|an_ @fidx.eq_1<|@fidx.eq_2))
abbrev Fm:Fct:=⟨[.v (.el .guess),.p (.el .addr)],[.el .bool],λ(x_:Sm_×Sb_×Unit)=>True,λ(x_:Sm_×Sb_×Unit)=>(decide (x_.1.to=x_.2.1),())⟩
def Ai9:=AkX.a Fm<|Fct.o [1,2,3] AkX.2 func138 (by
 rintro⟨(g:Sm_),(a:Sb_),_⟩ hp;exact hq (.lf Fm (g.to.host==a.host&&(g.to.path==a.path&&true),())))
abbrev A6:Fct:=⟨[aL .guess,.c 138 [.el .addr]],[rI],λx=>x.1.length<=1000000000000000000/\∀ c,Fm.pre (c,x.2.1),λx=>(fidx (λc=>(Fm.fn (c,x.2.1)).1) x.1 0,())⟩
abbrev Ay (l:(List Sm_)) (u:(Sb_×Unit)):LInv:=⟨[⟨.s,8,true,.el .int⟩],λ_ (x_:Ty3_)=>0<=x_.1/\x_.1<=l.length/\fidx (λc=>(Fm.fn (c,u)).1) l 0=fidx (λc=>(Fm.fn (c,u)).1) (l.drop x_.1.toNat) x_.1,λ(x_:Ty3_)=>l.length-x_.1.toNat⟩
def AjE:=Ai9.a A6<|Fct.p (KP [0,1,4,5,7,8] [9,16]) (λ⟨l,u,_⟩=>lv [(2,Ay l u)]) Ai9.2 func137 (by
 rintro⟨(l:List Sm_),(u:Ty4_),_⟩ hp;refine ho (lpx (Ay l u) ((0:Int),()) λ(y1:Ty3_) bk1=>.br (decide (y1.1<(l.length:Int))) (.ob (inB y1.1 l.length)<|.cl Fm (l.getD y1.1.toNat default,u.1,()) λz2=>.br (z2.1) (.lf A6 (y1.1,())) (.re (l)<|.re (enc Ty.addr u.1)<|.re (Value.int IntKind.i64 (l.length:Int))<|.bk (bk1 (w1 y1.1,())))) (.lf A6 ((-1:Int),()))) ?_;refine Au ?_ λ(y1:Ty3_) i1=>Aa (λh2=>Ac ?_ λ_=>Af trivial λ_=>(Aa (λh4=>lfY ?_) (λh4=>An<|An<|An<|A8 ?_))) (λh2=>lfY ?_)
 all_goals
  try simp only[std,Nat.reduceAdd] at *
  try have hp2:=hp.2
  try have hp1:=hp.1
 all_goals first|trivial|omega|grind[wrapId',toNat1,drop_cons,drop_end,good_len,maxLen,fidx])
def Ajx:=AjE.a Dd<|Fct.o [0,3,4] AjE.2 func51 (by
 rintro⟨(l:List Sm_),(a:Sb_),_⟩ hp;exact hg (.cl A6 (l,(a,()),()) λ(z2:Ty3_)=>.lf Dd (z2.1,())) (@findGuess.eq_1))
abbrev GP:Fct:=⟨[.v (.sl .guess)],[.sl .guess],λ(x_:Ty24_)=>x_.1.length<=4194304,λ(x_:Ty24_)=>(x_.1,())⟩
def AjM:=Ajx.a GP<|Fct.o [0,2] Ajx.2 func114 (by
 rintro⟨(l:List Sm_),_⟩ hp;exact hq (.ap (0+List.length l) 104<|.lf GP ([]++l,())))
def addGuess (l:List Sm_) (a:Sb_) (x:Sc_):List Sm_×Bool:=if 0<=findGuess l a\/6<=CF (λg=>!g.used) l then(l,false) else(l++[⟨a,x,false⟩],true)
abbrev EG:Fct:=⟨[.v (.sl .guess),.v (.el .addr),.v (.el .bd)],[.sl .guess,.el .bool],λ(x_:Ty76_)=>x_.1.length<=4194304,λ(x_:Ty76_)=>((addGuess x_.1 x_.2.1 x_.2.2.1).1,(addGuess x_.1 x_.2.1 x_.2.2.1).2,())⟩
def Ale:=AjM.a EG<|Fct.o (KP [0,4,5,6,7,8] [20]) AjM.2 func170 (by
 rintro⟨(l:List Sm_),(a:Sb_),(x:Sc_),_⟩ hp;exact hg (.ap (0+List.length l) 104<|.cl Dd (l,a,()) λ(z2:Ty3_)=>.br (decide (z2.1>=0)) (.lf EG ([]++l,false,())) (.cl Jp (l,()) λ(z3:Ty3_)=>.br (decide (z3.1>=6)) (.lf EG ([]++l,false,())) (.ap (([]++l).length+[(⟨a,x,false⟩:Sm_)].length) 104<|.lf EG ([]++l++[(⟨a,x,false⟩:Sm_)],true,())))) (@addGuess.eq_1))
def Ai8:=Ale.a EG<|Fct.o (KP [0,4,5,6,7,8] [19]) Ale.2 func59 (by
 rintro⟨(l:List Sm_),(a:Sb_),(x:Sc_),_⟩ hp;exact hg (.cl GP (l,()) λz2=>.cl Dd (l,a,()) λ(z3:Ty3_)=>.br (decide (z3.1>=0)) (.lf EG (z2.1,false,())) (.cl Jp (l,()) λ(z4:Ty3_)=>.br (decide (z4.1>=6)) (.lf EG (z2.1,false,())) (.ap (z2.1.length+[(⟨a,x,false⟩:Sm_)].length) 104<|.lf EG (z2.1++[(⟨a,x,false⟩:Sm_)],true,())))) (@addGuess.eq_1))
def useGuess (l:List Sm_) (a:Sb_):List Sm_×Sc_×Bool:=if findGuess l a<0 then(l,notFound,false) else(l.modify (findGuess l a).toNat λg=>{ g with used:=true },(l.getD (findGuess l a).toNat default).bd,true)
abbrev GX:Fct:=⟨[.v (.sl .guess),.v (.el .addr)],[.sl .guess,.el .bd,.el .bool],λ(x_:Ty75_)=>x_.1.length<=4194304,λ(x_:Ty75_)=>((useGuess x_.1 x_.2.1).1,(useGuess x_.1 x_.2.1).2.1,(useGuess x_.1 x_.2.1).2.2,())⟩
def AjR:=Ai8.a GX<|Fct.o (KP [0,3,4,5,6,7,8] [16]) Ai8.2 func68 (by
 rintro⟨(l:List Sm_),(a:Sb_),_⟩ hp;exact hg (.ap (0+List.length l) 104<|.cl Dd (l,a,()) λ(z2:Ty3_)=>.br (decide (z2.1<0)) (.cl DG () λz3=>.lf GX ([]++l,z3.1,false,())) (.ix z2.1 (([]++l).length)<|.lt (List Sm_) (([]++l).modify z2.1.toNat λz=>(⟨z.to,z.bd,true⟩:Sm_)) λz4=>.ob (0<=z2.1/\z2.1<(↑(List.length l):Int))<|.lf GX (z4,(List.getD l z2.1.toNat default).bd,true,()))) (an_ @useGuess.eq_1<|an_ @findGuess.eq_1<|(DN (λg:Sm_=>decide (g.to=a)) l 0 o_)))
def Al6:=AjR.a GX<|Fct.o (KP [0,3,4,5,6,7,8] [15]) AjR.2 func44 (by
 rintro⟨(l:List Sm_),(a:Sb_),_⟩ hp;exact hg (.cl GP (l,()) λz2=>.cl Dd (l,a,()) λ(z3:Ty3_)=>.br (decide (z3.1<0)) (.cl DG () λz4=>.lf GX (z2.1,z4.1,false,())) (.ix z3.1 z2.1.length<|.lt (List Sm_) (z2.1.modify z3.1.toNat λz=>(⟨z.to,z.bd,true⟩:Sm_)) λz5=>.ob (0<=z3.1/\z3.1<(↑(List.length l):Int))<|.lf GX (z5,(List.getD l z3.1.toNat default).bd,true,()))) (an_ @useGuess.eq_1<|an_ @findGuess.eq_1<|(DN (λg:Sm_=>decide (g.to=a)) l 0 o_)))
def Agm {b:List Int} (h:Sh.good (.sl .u8) b):∀ j,j<b.length->0<=b.getD j default/\b.getD j default<=255:=by
 intro j hj;have h1:=(Abg (t:=.u8) h hj) (.val (.int .u8 (b.getD j default))) (by simp[Sh.fc,enc]);simp only[KW,Lit.wf,Qa2,Qa8] at h1;exact h1
def Aht {α:Type} (f:α->Nat) (l:List α):szL f l=(l.map λx=>f x+1).sum:=by
 induction l with
 | nil=>rfl
 | cons x l ih=>
  have h3:szL f (x::l)=f x+1+szL f l:=by simp only[szL,Qd0,List.sum_cons,Qa7];omega
  simp_all
def N5 (b:UInt8) (s:ByteArray):szL Ae (spl b s)=s.size+1:=by
 rw[Aht,<-BD,<-Vy b (toL s)];unfold spl;rw[Qf9];congr 1
abbrev Fk:Fct:=⟨[.v (.el .str),.v (.el .u8)],[.sl .str],λ(x_:Ty67_)=>x_.1.size<=1099511627776/\0<=x_.2.1/\x_.2.1<=255,λ(x_:Ty67_)=>(spl (UInt8.ofNat x_.2.1.toNat) x_.1,())⟩
def Ok {s:ByteArray} {i:Nat} {b:Int} (h0:0<=b) (h1:b<=255):((s.data.getD i 0).toNat:Int)=b↔s.data.getD i 0=UInt8.ofNat b.toNat:=by
 constructor
 ·intro h;apply UInt8.toNat_inj.1;rw[UInt8.toNat_ofNat'];omega
 ·intro h;rw[h,UInt8.toNat_ofNat'];omega
abbrev Fx (s:ByteArray) (b:Int):LInv:=⟨[⟨.s,5,true,.sl .str⟩,⟨.s,6,true,.el .int⟩,⟨.s,7,true,.el .int⟩],λ_ (x_:Ty44_)=>0<=x_.2.2.1/\x_.2.2.1<=s.size+1/\0<=x_.2.1/\x_.2.1<=x_.2.2.1/\x_.1.length<=x_.2.2.1/\x_.1++MN (UInt8.ofNat b.toNat) s x_.2.1.toNat x_.2.2.1.toNat=spl (UInt8.ofNat b.toNat) s,λ(x_:Ty44_)=>(s.size+1-x_.2.2.1).toNat⟩
def Akj:=Al6.a Fk<|Fct.p (KP [0,1,4,5,6,7] [12,25]) (λ⟨s,b,_⟩=>lv [(4,Fx s b)]) Al6.2 func338 (by
 rintro⟨(s:ByteArray),(b:Int),_⟩ hp;refine ho (let q2_:=Value.int IntKind.u8 b;let q1_:=(s.size:Int);lpx (Fx s b) ([],((0:Int),((0:Int),()))) λ(y1:Ty44_) bk1=>let q0_:Out:=.ob (0<=y1.2.1/\y1.2.1<=y1.2.2.1/\y1.2.2.1<=q1_)<|.ap (y1.1.length+[s.extract y1.2.1.toNat y1.2.2.1.toNat].length) 16<|.re (Value.string s)<|.re q2_<|.bk (bk1 (y1.1++[s.extract y1.2.1.toNat y1.2.2.1.toNat],(w1 y1.2.2.1,(w1 y1.2.2.1,()))));.br (decide (y1.2.2.1<=q1_)) (.br (y1.2.2.1==q1_) q0_ (.ob (0<=y1.2.2.1/\y1.2.2.1<q1_)<|.br ((↑(s.data.getD y1.2.2.1.toNat 0).toNat:Int)==b) q0_ (.re (Value.string s)<|.re q2_<|.bk (bk1 (y1.1,(y1.2.1,(w1 y1.2.2.1,()))))))) (.lf Fk (y1.1,()))) ?_;refine Au ?_ λ(y1:Ty44_) i1=>Aa (λh2=>Aa (λh3=>Ac ?_ λ_=>Ek ?_ λ_=>An<|An<|A8 ?_) (λh3=>Ac ?_ λ_=>Aa (λh8=>Ac ?_ λ_=>Ek ?_ λ_=>An<|An<|A8 ?_) (λh8=>An<|An<|A8 ?_))) (λh2=>lfY ?_)
 all_goals obtain⟨hp1,hp2,hp3⟩:=hp
 all_goals
  try obtain⟨a1,a2,a3,a4,a5,a6⟩:=i1
  try obtain⟨a1,a2,a3,a4,a5,a6⟩:=i2
  try obtain⟨a1,a2,a3,a4,a5,a6⟩:=i3
  try simp only[std,Nat.reduceAdd,Qa1,Qa7,Qb1,Ok hp2 hp3] at *
  try simp(disch:=omega) only[wrapId',toNat1] at *
 all_goals first|trivial|omega|exact⟨o_,o_,o_,o_,o_,XY _ _⟩|skip
 all_goals first|(refine⟨⟨o_,o_,o_,o_,o_,?_⟩,o_⟩;rw[W0 _ o_] at a6;rw[Ta _ o_,Qd7];exact a6)|(refine⟨⟨o_,o_,o_,o_,o_,?_⟩,o_⟩;rw[ZR o_ ‹_›] at a6;rw[Qb5];exact a6)|(refine⟨⟨o_,o_,o_,o_,o_,?_⟩,o_⟩;rw[Xn o_ o_ ‹_›] at a6;exact a6)|(rw[Ta _ o_,Qd7] at a6;exact a6)|skip)
def polCand (s:ByteArray):Sj_:=⟨true,(spl 32 ((spl 59 s).getD 0 default)).drop 1,(spl 32 ((spl 59 s).getD 1 default)).drop 1,(spl 32 ((spl 59 s).getD 2 default)).drop 1,if 3<(spl 59 s).length/\6<((spl 59 s).getD 3 default).size then((spl 59 s).getD 3 default).extract 6 ((spl 59 s).getD 3 default).size else⟨#[]⟩⟩
def parsePolicy (s:ByteArray):Sj_×Bool:=if s=⟨#[]⟩ then(default,true) else if 3<=(spl 59 s).length/\formatPolicy (polCand s)=s then(polCand s,true) else(default,false)
def EE (b:UInt8) (s:ByteArray) (k:Nat):((spl b s).getD k default).size<=s.size:=by
 by_cases h:k<(spl b s).length
 ·exact Kv (AN h)
 ·rw[Qb0,List.getElem?_eq_none o_];exact Nat.zero_le _
def Tu {s n:ByteArray} (hn:n.size<=s.size):AM ⟨true,(spl 32 ((spl 59 s).getD 0 default)).drop 1,(spl 32 ((spl 59 s).getD 1 default)).drop 1,(spl 32 ((spl 59 s).getD 2 default)).drop 1,n⟩<=4*(s.size+1):=by
 have h0:=EE 59 s 0;have h1:=EE 59 s 1;have h2:=EE 59 s 2;have d0:=RB Ae (spl 32 ((spl 59 s).getD 0 default)) 1;have d1:=RB Ae (spl 32 ((spl 59 s).getD 1 default)) 1;have d2:=RB Ae (spl 32 ((spl 59 s).getD 2 default)) 1;rw[N5] at d0 d1 d2;simp only[AM];omega
abbrev CK:Fct:=⟨[.v (.el .str)],[.el .bj,.el .bool],λ(x_:Ty48_)=>x_.1.size<=200000000,λ(x_:Ty48_)=>((parsePolicy x_.1).1,(parsePolicy x_.1).2,())⟩
def Ajg:=Akj.a CK<|Fct.o (KP [0,2,3,4,5] [7,13,40,49]) Akj.2 func256 (by
 rintro⟨(s:ByteArray),_⟩ hp;refine ho (let q11_:=({ data := #[]:ByteArray });let q1_:Out:=.leaf (.tup [(true,[vb (false),.nl,.nl,.nl,vs q11_]),(false,[vb (false)])]) [] [];.br (ByteArray.toList s=={ data := #[]:ByteArray }.toList) (.leaf (.tup [(true,[vb (false),.nl,.nl,.nl,vs q11_]),(false,[vb (true)])]) [] []) (.ob (Fk.pre (s,(59:Int),()))<|.lt Ty49_ (Fk.fn (s,(59:Int),())) λz2=>let q12_:=(3:Nat)<z2.fst.length;let q6_:=(z2.fst.length:Int);let q10_:=(0:Int)<=(3:Int)/\(3:Int)<q6_;let q5_:=z2.fst.getD (3:Nat) default;.br (decide (q6_<(3:Int))) q1_ (.ob ((0:Int)<=(0:Int)/\(0:Int)<q6_)<|.ob ((0:Nat)<z2.fst.length)<|.ob (Fk.pre (z2.fst.getD (0:Nat) default,(32:Int),()))<|.lt Ty49_ (Fk.fn (z2.fst.getD (0:Nat) default,(32:Int),())) λz3=>let q2_:=z3.fst.length-(1:Nat);let q7_:=(1:Nat)+q2_<=z3.fst.length;.ob ((0:Int)<=(1:Int)/\(1:Int)<=(z3.fst.length:Int))<|.ob ((0:Int)<=(1:Int)/\(1:Int)<q6_)<|.ob ((1:Nat)<z2.fst.length)<|.ob (Fk.pre (z2.fst.getD (1:Nat) default,(32:Int),()))<|.lt Ty49_ (Fk.fn (z2.fst.getD (1:Nat) default,(32:Int),())) λz4=>let q3_:=z4.fst.length-(1:Nat);let q8_:=(1:Nat)+q3_<=z4.fst.length;.ob ((0:Int)<=(1:Int)/\(1:Int)<=(z4.fst.length:Int))<|.ob ((0:Int)<=(2:Int)/\(2:Int)<q6_)<|.ob ((2:Nat)<z2.fst.length)<|.ob (Fk.pre (z2.fst.getD (2:Nat) default,(32:Int),()))<|.lt Ty49_ (Fk.fn (z2.fst.getD (2:Nat) default,(32:Int),())) λz5=>let q4_:=z5.fst.length-(1:Nat);let q9_:=(1:Nat)+q4_<=z5.fst.length;let q0_:Out:=.ob q7_<|.ob q8_<|.ob q9_<|.ob (AQ.pre ({ set_:=true,bp:=cut z3.fst (1:Nat) q2_,styles:=cut z4.fst (1:Nat) q3_,images:=cut z5.fst (1:Nat) q4_,nonce:={ data := #[]:ByteArray }:Sj_ },()))<|.lt Ty48_ (AQ.fn ({ set_:=true,bp:=cut z3.fst (1:Nat) q2_,styles:=cut z4.fst (1:Nat) q3_,images:=cut z5.fst (1:Nat) q4_,nonce:={ data := #[]:ByteArray }:Sj_ },())) λz7=>.br (!z7.fst.toList==ByteArray.toList s) q1_ (.ob q7_<|.ob q8_<|.ob q9_<|.leaf (mkR CK.rs (⟨true,cut z3.fst (1:Nat) q2_,cut z4.fst (1:Nat) q3_,cut z5.fst (1:Nat) q4_,{ data := #[]:ByteArray }⟩,true,())) [] []);.ob ((0:Int)<=(1:Int)/\(1:Int)<=(z5.fst.length:Int))<|.br (decide (q6_>(3:Int))) (.ob q10_<|.ob q12_<|.br (decide ((q5_.size:Int)>(6:Int))) (.ob q10_<|.ob q12_<|.ob ((0:Int)<=(6:Int)/\(6:Int)<=(q5_.size:Int))<|.ob q7_<|.ob q8_<|.ob q9_<|.ob (AQ.pre ({ set_:=true,bp:=cut z3.fst (1:Nat) q2_,styles:=cut z4.fst (1:Nat) q3_,images:=cut z5.fst (1:Nat) q4_,nonce:=q5_.extract (6:Nat) q5_.size:Sj_ },()))<|.lt Ty48_ (AQ.fn ({ set_:=true,bp:=cut z3.fst (1:Nat) q2_,styles:=cut z4.fst (1:Nat) q3_,images:=cut z5.fst (1:Nat) q4_,nonce:=q5_.extract (6:Nat) q5_.size:Sj_ },())) λz6=>.br (!z6.fst.toList==ByteArray.toList s) q1_ (.ob q7_<|.ob q8_<|.ob q9_<|.leaf (mkR CK.rs (⟨true,cut z3.fst (1:Nat) q2_,cut z4.fst (1:Nat) q3_,cut z5.fst (1:Nat) q4_,q5_.extract (6:Nat) q5_.size⟩,true,())) [] [])) q0_) q0_))) ?_;refine Aa (λh1=>Fct.leafZ (default,true,()) (by repeat' first|exact rfl|exact trivial|refine And.intro ?_ ?_) ?_) (λh1=>Ac ?_ λ_=>DW (Aa (λh3=>Fct.leafZ (default,false,()) (by repeat' first|exact rfl|exact trivial|refine And.intro ?_ ?_) ?_) (λh3=>Ac ?_ λ_=>Ac ?_ λ_=>Ac ?_ λ_=>DW (Ac ?_ λ_=>Ac ?_ λ_=>Ac ?_ λ_=>Ac ?_ λ_=>DW (Ac ?_ λ_=>Ac ?_ λ_=>Ac ?_ λ_=>Ac ?_ λ_=>DW (Ac ?_ λ_=>Aa (λh16=>Ac ?_ λ_=>Ac ?_ λ_=>Aa (λh19=>Ac ?_ λ_=>Ac ?_ λ_=>Ac ?_ λ_=>Ac ?_ λ_=>Ac ?_ λ_=>Ac ?_ λ_=>Ac ?_ λ_=>DW (Aa (λh27=>Fct.leafZ (default,false,()) (by repeat' first|exact rfl|exact trivial|refine And.intro ?_ ?_) ?_) (λh27=>Ac ?_ λ_=>Ac ?_ λ_=>Ac ?_ λ_=>Fct.leafY ?_))) (λh19=>Ac ?_ λ_=>Ac ?_ λ_=>Ac ?_ λ_=>Ac ?_ λ_=>DW (Aa (λh35=>Fct.leafZ (default,false,()) (by repeat' first|exact rfl|exact trivial|refine And.intro ?_ ?_) ?_) (λh35=>Ac ?_ λ_=>Ac ?_ λ_=>Ac ?_ λ_=>Fct.leafY ?_)))) (λh16=>Ac ?_ λ_=>Ac ?_ λ_=>Ac ?_ λ_=>Ac ?_ λ_=>DW (Aa (λh43=>Fct.leafZ (default,false,()) (by repeat' first|exact rfl|exact trivial|refine And.intro ?_ ?_) ?_) (λh43=>Ac ?_ λ_=>Ac ?_ λ_=>Ac ?_ λ_=>Fct.leafY ?_)))))))));all_goals
  try simp only[Kk] at *
  try simp only[std,Nat.reduceAdd,Aak] at *
  try simp only[show UInt8.ofNat (Int.toNat 59)=59 from rfl,show UInt8.ofNat (Int.toNat 32)=32 from rfl] at *
 all_goals
  have g0:=EE 59 s 0;have g1:=EE 59 s 1;have g2:=EE 59 s 2;have g3:=EE 59 s 3;have k0:=D0 32 ((spl 59 s).getD 0 default);have k1:=D0 32 ((spl 59 s).getD 1 default);have k2:=D0 32 ((spl 59 s).getD 2 default)
 all_goals first|trivial|omega|(with_reducible refine Qd1 (Tu (Nat.zero_le _)) ?_;omega)|(with_reducible refine Qd1 (Tu ?_) ?_;(rw[Qc1];omega);omega)|skip
 all_goals first|(simp only[parsePolicy];rw[Qa3 ‹_›];exact⟨rfl,rfl⟩)|(simp only[parsePolicy];rw[Qa5 ‹_›,Qa5 o_];exact⟨rfl,rfl⟩)|(simp only[parsePolicy,polCand];grind)|skip)
def isResponse (x:Sc_):Bool:=inRange x.status 100 599&&(inRange x.kind 1 5&&(decide (x.body.size<=400)&&(inRange x.age 0 1000&&(parsePolicy x.bj).2)))
abbrev AT:Fct:=⟨[.v (.el .bd)],[.el .bool],λ(x_:Ty7_)=>x_.1.bj.size<=200000000,λ(x_:Ty7_)=>(isResponse x_.1,())⟩
def AkP:=Ajg.a AT<|Fct.o [1,2,4] Ajg.2 func158 (by
 rintro⟨(x:Sc_),_⟩ hp;exact hg (.cl CK (x.bj,()) λz2=>.cl Aw (x.status,(100:Int),(599:Int),()) λz3=>.br (z3.1) (.cl Aw (x.kind,(1:Int),(5:Int),()) λz4=>.br (z4.1) (.br (decide ((x.body.size:Int)<=400)) (.cl Aw (x.age,(0:Int),(1000:Int),()) λz5=>.br (z5.1) (.lf AT (z2.2.1,())) (.lf AT (false,()))) (.lf AT (false,()))) (.lf AT (false,()))) (.lf AT (false,()))) (@isResponse.eq_1))
def entOk (all:List Sp_):List Sp_->Int->Bool
 | [],_=>true
 | e::l,i=>isName e.top&&(isName e.to.host&&isName e.to.path)&&isResponse e.bd&&decide (e.bd.status=200)&&decide (fidx (λx=>decide (x.top=e.top)&&decide (x.to=e.to)) all 0=i)&&entOk all l (i+1)
theorem entOk_at {all l:List Sp_} {i:Nat} {k:Int} (h:i<l.length):entOk all (l.drop i) k=(isName (l.getD i default).top&&(isName (l.getD i default).to.host&&isName (l.getD i default).to.path)&&isResponse (l.getD i default).bd&&decide ((l.getD i default).bd.status=200)&&decide (fidx (λx=>decide (x.top=(l.getD i default).top)&&decide (x.to=(l.getD i default).to)) all 0=k)&&entOk all (l.drop (i+1)) (k+1)):=by rw[drop_cons h];rfl
theorem entOk_end {all l:List Sp_} {i:Nat} {k:Int} (h:l.length<=i):entOk all (l.drop i) k=true:=by rw[Qb2 h];rfl
def isCache (c:Sn_):Bool:=entOk c.bg c.bg 0&&decide (c.bg.length<=100)
abbrev Ez:Fct:=⟨[.v (.el .cache)],[.el .bool],λ(x_:Ty55_)=>szCache x_.1<=200000000,λ(x_:Ty55_)=>(isCache x_.1,())⟩
def OX {l:List Sp_} {i:Nat} (h:i<l.length):A0 (l.getD i default)+l.length<=szL A0 l:=C6 A0 h
abbrev CZ (c:Sn_):LInv:=⟨[⟨.s,3,true,.el .int⟩,⟨.b,1,false,.el .cache⟩],λ(z_ x_:Ty77_)=>(0<=x_.1/\x_.1<=c.bg.length/\entOk c.bg (c.bg.drop x_.1.toNat) x_.1=entOk c.bg c.bg 0)/\x_.2.1=z_.2.1,λ(x_:Ty77_)=>c.bg.length-x_.1.toNat⟩
def Anm:=AkP.a Ez<|Fct.p (KP [1,2,3,4] [9,48]) (λ⟨c,_⟩=>lv [(2,CZ c)]) AkP.2 func257 (by
 rintro⟨(c:Sn_),_⟩ hp;refine ho (let q1_:Out:=.lf Ez (false,());lpx (CZ c) ((0:Int),(c,())) λ(y1:Ty77_) bk1=>let q2_:=(y1.2.1.bg.length:Int);let q0_:=y1.2.1.bg.getD y1.1.toNat default;.br (decide (y1.1<q2_)) (.ob (inB y1.1 y1.2.1.bg.length)<|.cl BH (q0_.top,()) λz2=>.br (!z2.1) q1_ (.cl D4 (q0_.to,()) λz3=>.br (!z3.1) q1_ (.cl AT (q0_.bd,()) λz4=>.br (!z4.1) q1_ (.br (q0_.bd.status != 200) q1_ (.cl Et (y1.2.1,q0_.top,q0_.to,()) λ(z5:Ty3_)=>.br (z5.1 != y1.1) q1_ (.bk (bk1 (w1 y1.1,(y1.2.1,()))))))))) (.lf Ez (decide (q2_<=100),()))) ?_;repeat' (guard_target =~ Out.holds _ _;first|refine Au (li:=CZ c) ?_ λ(y1:Ty77_) i1=>?_|refine lfY ?_|refine Aa (λ_=>?_) λ_=>?_|refine Af ?_ λ_=>?_|refine Ac ?_ λ_=>?_|refine A8 ?_)
 all_goals
  have hl:=Ab A0 c.bg;have hg:∀ i,i<c.bg.length->(c.bg.getD i default).top.size<=200000000/\(c.bg.getD i default).to.host.size<=200000000/\(c.bg.getD i default).to.path.size<=200000000/\(c.bg.getD i default).bd.bj.size<=200000000:=λi h=>by have:=OX h;have hp2:szCache c<=200000000:=hp;simp only[A0,szCache,szAddr,Ad] at *;omega
  try simp only[std,Nat.reduceAdd,isCache,szCache,entOk_at,entOk_end] at *
  try simp(disch:=omega) only[wrapId',toNat1] at *
  try simp(disch:=omega) only[Qa3,Qa5]
 all_goals first|trivial|omega|grind[wrapId',toNat1,drop_cons,drop_end,good_len,maxLen,isCache,szCache,entOk_at,entOk_end])
def Ab4:Go.Proofs.Lays.n101 Tryz.prog laysCmp_r:=by repeat' first|kernel_rfl|constructor|intro _
def Am7:=Anm.a IJ<|Af2 (Go.Proofs.Any.strings_TrimPrefix Ab4)
def YI:Go.Proofs.Lays.n146 Tryz.prog laysCmp_r:=by repeat' first|kernel_rfl|constructor|intro _
def Anh:=Am7.a Hs<|Acs λs sep w h hs h1=>by obtain⟨m,hm⟩:=NV (zero := #[.int .i64 0]) (t:=3) (g:=laysCmp_r.g 1) h (Qg3 k_) k_ rfl k_ k_ Tryz.underlying3;exact Go.Proofs.Any.strings_Split YI k_ s sep m w hs hm h1
def VU:Go.Proofs.Lays.n156 Tryz.prog laysCmp_r:=by repeat' first|kernel_rfl|constructor|intro _
def SR:Go.Proofs.Builder.Extra Tryz.prog laysCmp_r:=⟨⟨k_,k_⟩,k_,λ_=>k_,λ_=>k_,λ_=>k_,k_,k_,k_,by decide⟩
def Am0:=Anh.a QZ<|Af1 (λ_ _=>trivial) (Go.Proofs.Any.strings_Join_none VU SR) (Go.Proofs.Any.strings_Join VU SR)
def Qa (sep x:List UInt8):∀ l:List (List UInt8),RZ sep (x::l)=x++(l.map (sep++·)).flatten
 | []=>by simp[RZ]
 | y::l=>by rw[RZ,Qa sep y l,Qd0,List.flatten_cons];simp
def MK:∀ (l:List ByteArray) (w:ByteArray),toL (words9 w l)=toL w++(l.map λx=>32::toL x).flatten
 | [],w=>by simp[words9]
 | x::l,w=>by rw[words9,MK l,Dg,Dg,Qd0,List.flatten_cons];simp[toL]
def UW (w:ByteArray) (l:List ByteArray):LR (w::l) ⟨#[32]⟩=words9 w l:=by
 unfold LR;rw[<-Ct (words9 w l),MK,Qd0,Qa,Qf9];congr 2
def AmV:=Am0.a AQ<|Fct.o (KP [1,2,3] [11,33]) Am0.2 func299 (by
 rintro⟨(p:Sj_),_⟩ hp;refine ho (let q4_:=(⟨#[]⟩:ByteArray);let q3_:=(⟨#[32]⟩:ByteArray);let q2_:Out:=.lf AQ (q4_,());let q1_:=(⟨#[59,110,111,110,99,101,32]⟩:ByteArray);let q0_:=(⟨#[59]⟩:ByteArray);.cl CG (p,()) λz2=>.br (!z2.1) q2_ (.br (!p.set_) q2_ (.ap (1+p.bp.length) 16<|.cl QZ ([(⟨#[115,99,114,105,112,116]⟩:ByteArray)]++p.bp,q3_,()) λz3=>.ob (sameSize z3.1 q0_)<|.ap (1+p.styles.length) 16<|.cl QZ ([(⟨#[115,116,121,108,101]⟩:ByteArray)]++p.styles,q3_,()) λz4=>.ob (sameSize (z3.1++q0_) z4.1)<|.ob (sameSize (z3.1++q0_++z4.1) q0_)<|.ap (1+p.images.length) 16<|.cl QZ ([(⟨#[105,109,103]⟩:ByteArray)]++p.images,q3_,()) λz5=>.ob (sameSize (z3.1++q0_++z4.1++q0_) z5.1)<|.br (!p.nonce.toList==q4_.toList) (.ob (sameSize q1_ p.nonce)<|.ob (sameSize (z3.1++q0_++z4.1++q0_++z5.1) (q1_++p.nonce))<|.lf AQ (z3.1++q0_++z4.1++q0_++z5.1++(q1_++p.nonce),())) (.lf AQ (z3.1++q0_++z4.1++q0_++z5.1,()))))) ?_;repeat' (guard_target =~ Out.holds _ _;first|refine lfY ?_|refine Aa (λ_=>?_) λ_=>?_|refine Af ?_ λ_=>?_|refine Ac ?_ λ_=>?_|refine Ek ?_ λ_=>?_)
 all_goals try simp only[QZ,std,Nat.reduceAdd,List.singleton_append,UW] at *
 all_goals first|trivial|omega|skip
 all_goals try (have hA:isPolicy p=true:=‹_›;have hB:p.set_=true:=‹_›;obtain⟨a1,a2,a3,a4,a5,a6,a7⟩:=FF hA hB)
 all_goals
  try have b1:=FY (w:=⟨#[115,99,114,105,112,116]⟩) a1 a2 (by decide)
  try have b2:=FY (w:=⟨#[115,116,121,108,101]⟩) a3 a4 (by decide)
  try have b3:=FY (w:=⟨#[105,109,103]⟩) a5 a6 (by decide)
  try simp only[QZ,std,Nat.reduceAdd,formatPolicy,sameSize,Qa6,ByteArray.append_assoc] at *
  try simp(disch:=omega) only[wrapId',toNat1] at *
  try simp(disch:=omega) only[Qa3,Qa5]
 all_goals first|trivial|omega|grind[wrapId',toNat1,drop_cons,drop_end,good_len,maxLen,formatPolicy,sameSize,ByteArray.size_append,ByteArray.append_assoc])
def AgH {b:UInt8} (hb:nameByte b=false) {s:ByteArray} (h:isName s=true):b∉toL s:=by
 intro hm;simp only[isName,Qa2,allB,Qc0] at h;rw[h.1 b hm] at hb;cases hb
def O3 {b:UInt8} (hb:nameByte b=false) (h32:b≠32) {l:List ByteArray} {w:ByteArray} (hl:l.all isName=true) (hw:b∉toL w):b∉toL (words9 w l):=by
 rw[MK];simp only[Qb8,not_or,List.mem_flatten,Qg1,not_exists,not_and];refine⟨hw,?_⟩;rintro _ ⟨x,hx,rfl⟩ hm;rcases Qd2.1 hm with rfl|hm
 ·exact h32 rfl
 ·exact AgH hb (Qc0.1 hl x hx) hm
def RP {b:UInt8} (hb:valByte b=false) {s:ByteArray} (h:isValue s=true):b∉toL s:=by
 intro hm;simp only[isValue,Qa2,allB,Qc0] at h;rw[h.1 b hm] at hb;cases hb
def AbK {b:UInt8} {s:ByteArray} (h:b∉toL s):spl b s=[s]:=by
 unfold spl;rw[JQ h];simp[Ct]
def LM {b:UInt8} {s t:ByteArray} (h:b∉toL s):spl b (s++⟨#[b]⟩++t)=s::spl b t:=by
 unfold spl;rw[Dg,Dg,show toL ⟨#[b]⟩=[b] from rfl,Qb5,List.singleton_append,HM _ h,Qd0,Ct]
def XS {q:Sj_} (hp:isPolicy q=true) (hs:q.set_=true):(q.nonce=⟨#[]⟩/\(spl 59 (formatPolicy q)).length=3)\/(q.nonce≠⟨#[]⟩/\(spl 59 (formatPolicy q)).length=4/\(spl 59 (formatPolicy q)).getD 3 default=⟨#[110,111,110,99,101,32]⟩++q.nonce):=by
 obtain⟨a1,a2,a3,a4,a5,a6,a7⟩:=FF hp hs;have b1:=O3 (b:=59) rfl (by decide) a1 (w:=⟨#[115,99,114,105,112,116]⟩) (by decide);have b2:=O3 (b:=59) rfl (by decide) a3 (w:=⟨#[115,116,121,108,101]⟩) (by decide);have b3:=O3 (b:=59) rfl (by decide) a5 (w:=⟨#[105,109,103]⟩) (by decide);by_cases hn:q.nonce=⟨#[]⟩
 ·refine .inl ⟨hn,?_⟩;have e:formatPolicy q=words9 ⟨#[115,99,114,105,112,116]⟩ q.bp++⟨#[59]⟩++(words9 ⟨#[115,116,121,108,101]⟩ q.styles++⟨#[59]⟩++words9 ⟨#[105,109,103]⟩ q.images):=by unfold formatPolicy;rw[Qa3 (by simp[hp,hs]),Qa3 hn];simp only[ByteArray.append_assoc]
  rw[e,LM b1,LM b2,AbK b3];rfl
 ·refine .inr ⟨hn,?_⟩;have hv:isValue q.nonce=true:=by simp only[isPolicy,hs,Qe8,Qa2,Qf6,Qa8] at hp;simp_all
  have b4:(59:UInt8)∉toL (⟨#[110,111,110,99,101,32]⟩++q.nonce):=by rw[Dg,Qb8,not_or];exact⟨by decide,RP rfl hv⟩
  have e:formatPolicy q=words9 ⟨#[115,99,114,105,112,116]⟩ q.bp++⟨#[59]⟩++(words9 ⟨#[115,116,121,108,101]⟩ q.styles++⟨#[59]⟩++(words9 ⟨#[105,109,103]⟩ q.images++⟨#[59]⟩++(⟨#[110,111,110,99,101,32]⟩++q.nonce))):=by
   unfold formatPolicy;rw[Qa3 (by simp[hp,hs]),Qa5 hn];have:(⟨#[59,110,111,110,99,101,32]⟩:ByteArray)=⟨#[59]⟩++⟨#[110,111,110,99,101,32]⟩:=by decide
   rw[this];simp only[ByteArray.append_assoc]
  rw[e,LM b1,LM b2,LM b3,AbK b4];exact⟨rfl,rfl⟩
def polCandI (s:ByteArray):Sj_:={ polCand s with nonce:=if 3<(spl 59 s).length then SH ((spl 59 s).getD 3 default) ⟨#[110,111,110,99,101,32]⟩ else⟨#[]⟩}
def Yq {q:Sj_} {s:ByteArray} (h:formatPolicy q=s) (hs:s≠⟨#[]⟩):isPolicy q=true/\q.set_=true:=by
 unfold formatPolicy at h;grind
def Abd (n:ByteArray):SH (⟨#[110,111,110,99,101,32]⟩++n) ⟨#[110,111,110,99,101,32]⟩=n:=by
 rfl
def AcG (n:ByteArray):(⟨#[110,111,110,99,101,32]⟩++n:ByteArray).extract 6 (⟨#[110,111,110,99,101,32]⟩++n:ByteArray).size=n:=by
 rw[<-Ct (ByteArray.extract _ _ _),Be,Dg,Qb9 (by rw[Qa1,BD,BD,Qa6];exact Qa9 _)];rfl
def Zs {s:ByteArray} (hs:s≠⟨#[]⟩):(formatPolicy (polCandI s)=s↔formatPolicy (polCand s)=s)/\(formatPolicy (polCand s)=s->polCandI s=polCand s):=by
 have key:∀ q:Sj_,formatPolicy q=s->(3<(spl 59 s).length->q.nonce=SH ((spl 59 s).getD 3 default) ⟨#[110,111,110,99,101,32]⟩/\q.nonce=(if 3<(spl 59 s).length/\6<((spl 59 s).getD 3 default).size then((spl 59 s).getD 3 default).extract 6 ((spl 59 s).getD 3 default).size else⟨#[]⟩)):=by
  intro q hq hl;obtain⟨h1,h2⟩:=Yq hq hs;rcases XS h1 h2 with⟨_,h3⟩|⟨h3,h4,h5⟩
  ·rw[hq] at h3;omega
  ·rw[hq] at h4 h5;rw[h5,Abd];refine⟨rfl,?_⟩;have hsz:0<q.nonce.size:=by
    rcases Nat.eq_zero_or_pos q.nonce.size with h|h
    ·exact absurd (ByteArray.ext (Array.eq_empty_of_size_eq_zero h)) h3
    ·exact h
   rw[Qa3 ⟨hl,by rw[Qa6,show ByteArray.size ⟨#[110,111,110,99,101,32]⟩=6 from rfl];omega⟩,AcG]
 have same:(formatPolicy (polCandI s)=s\/formatPolicy (polCand s)=s)->polCandI s=polCand s:=by
  intro h;by_cases hl:3<(spl 59 s).length
  ·have hn:(polCandI s).nonce=(polCand s).nonce:=by
    have e1:(polCandI s).nonce=SH ((spl 59 s).getD 3 default) ⟨#[110,111,110,99,101,32]⟩:=by simp only[polCandI];rw[Qa3 hl]
    rcases h with h|h
    ·exact(key _ h hl).2
    ·simp_all
   have e:polCandI s={ polCand s with nonce:=(polCandI s).nonce }:=rfl;rw[e,hn]
  ·have e:polCandI s={ polCand s with nonce:=(polCandI s).nonce }:=rfl;have h1:(polCandI s).nonce=⟨#[]⟩:=by simp only[polCandI];rw[Qa5 hl]
   have h2:(polCand s).nonce=⟨#[]⟩:=by simp only[polCand];rw[Qa5 (λhh=>hl hh.1)]
   rw[e,h1,<-h2]
 grind
def Afx {s:ByteArray} (h1:s≠⟨#[]⟩) (h3:3<=(spl 59 s).length) {q:Sj_} (hq:q=polCandI s):(formatPolicy q≠s->parsePolicy s=(default,false))/\(formatPolicy q=s->parsePolicy s=(q,true)):=by
 subst hq;have hc:=Zs h1;unfold parsePolicy;simp_all
def AgB {s:ByteArray} (h:3<(spl 59 s).length):(⟨true,(spl 32 ((spl 59 s).getD 0 default)).drop 1,(spl 32 ((spl 59 s).getD 1 default)).drop 1,(spl 32 ((spl 59 s).getD 2 default)).drop 1,SH ((spl 59 s).getD 3 default) ⟨#[110,111,110,99,101,32]⟩⟩:Sj_)=polCandI s:=by
 unfold polCandI polCand;rw[Qa3 h]
def Agq {s:ByteArray} (h:¬ 3<(spl 59 s).length):(⟨true,(spl 32 ((spl 59 s).getD 0 default)).drop 1,(spl 32 ((spl 59 s).getD 1 default)).drop 1,(spl 32 ((spl 59 s).getD 2 default)).drop 1,⟨#[]⟩⟩:Sj_)=polCandI s:=by
 unfold polCandI polCand;rw[Qa5 h]
def XX (s p:ByteArray):(SH s p).size<=s.size:=by
 unfold SH Go.Lib.trimPrefix;rw[show ∀ l:List UInt8,ByteArray.size ⟨l.toArray⟩=l.length from λl=>by simp[ByteArray.size]];split
 ·simp
 ·exact Qa9 _
def Alp:=AmV.a CK<|Fct.o [0,2,3,4,5,6,7,9,15,18,19,39,48,1000009,1000015,1000019,1000039,1000048,64000516,200000019] AmV.2 func191 (by
 rintro⟨(s:ByteArray),_⟩ hp;refine ho (let q8_:=(⟨#[32]⟩:ByteArray);let q7_:=(0:Int)<=(2:Int)/\(2:Int)<(3:Int);let q6_:=(0:Int)<=(1:Int)/\(1:Int)<(3:Int);let q5_:=(0:Int)<=(0:Int)/\(0:Int)<(3:Int);let q4_:=(⟨#[]⟩:ByteArray);let q0_:Out:=.leaf (.tup [(true,[vb (false),.nl,.nl,.nl,vs (q4_)]),(false,[vb (false)])]) [] [];.br (ByteArray.toList s==q4_.toList) (.leaf (.tup [(true,[vb (false),.nl,.nl,.nl,vs (q4_)]),(false,[vb (true)])]) [] []) (.cl Hs (s,(⟨#[59]⟩:ByteArray),()) λz2=>let q3_:=(z2.1.length:Int);.br (decide (q3_<3)) q0_ (.ob ((0:Int)<=(0:Int)/\(0:Int)<q3_)<|.ob (0<z2.1.length)<|.cl Hs (z2.1.getD 0 default,q8_,()) λz3=>let q9_:=z3.1.length-1;.ob ((0:Int)<=(1:Int)/\(1:Int)<=(z3.1.length:Int))<|.ob q5_<|.ob (1+q9_<=z3.1.length)<|.ob ((0:Int)<=(1:Int)/\(1:Int)<q3_)<|.ob (1<z2.1.length)<|.cl Hs (z2.1.getD 1 default,q8_,()) λz4=>let q10_:=z4.1.length-1;.ob ((0:Int)<=(1:Int)/\(1:Int)<=(z4.1.length:Int))<|.ob q6_<|.ob (1+q10_<=z4.1.length)<|.ob ((0:Int)<=(2:Int)/\(2:Int)<q3_)<|.ob (2<z2.1.length)<|.cl Hs (z2.1.getD 2 default,q8_,()) λz5=>let q11_:=z5.1.length-1;let q1_:=(⟨true,cut z3.1 1 q9_,cut z4.1 1 q10_,cut z5.1 1 q11_,q4_⟩:Sj_);.ob ((0:Int)<=(1:Int)/\(1:Int)<=(z5.1.length:Int))<|.ob q7_<|.ob (1+q11_<=z5.1.length)<|.ob q5_<|.ob q6_<|.ob q7_<|.br (decide (q3_>3)) (.ob ((0:Int)<=(3:Int)/\(3:Int)<q3_)<|.ob (3<z2.1.length)<|.cl IJ (z2.1.getD 3 default,(⟨#[110,111,110,99,101,32]⟩:ByteArray),()) λz6=>let q2_:=(⟨true,cut z3.1 1 q9_,cut z4.1 1 q10_,cut z5.1 1 q11_,z6.1⟩:Sj_);.cl AQ (q2_,()) λz7=>.br (!z7.1.toList==ByteArray.toList s) q0_ (.cl Fj (q2_,()) λz8=>.lf CK (z8.1,true,()))) (.cl AQ (q1_,()) λz9=>.br (!z9.1.toList==ByteArray.toList s) q0_ (.cl Fj (q1_,()) λz10=>.lf CK (z10.1,true,())))))) ?_;refine Aa (λh1=>Fct.leafZ (default,true,()) (by repeat' first|exact rfl|exact trivial|refine And.intro ?_ ?_) ?_) (λh1=>Af ?_ λ_=>(Aa (λh3=>Fct.leafZ (default,false,()) (by repeat' first|exact rfl|exact trivial|refine And.intro ?_ ?_) ?_) (λh3=>Ac ?_ λ_=>Ac ?_ λ_=>Af ?_ λ_=>(Ac ?_ λ_=>Ac ?_ λ_=>Ac ?_ λ_=>Ac ?_ λ_=>Ac ?_ λ_=>Af ?_ λ_=>(Ac ?_ λ_=>Ac ?_ λ_=>Ac ?_ λ_=>Ac ?_ λ_=>Ac ?_ λ_=>Af ?_ λ_=>(Ac ?_ λ_=>Ac ?_ λ_=>Ac ?_ λ_=>Ac ?_ λ_=>Ac ?_ λ_=>Ac ?_ λ_=>Aa (λh25=>Ac ?_ λ_=>Ac ?_ λ_=>Af trivial λ_=>(Af ?_ λ_=>(Aa (λh29=>Fct.leafZ (default,false,()) (by repeat' first|exact rfl|exact trivial|refine And.intro ?_ ?_) ?_) (λh29=>Af ?_ λ_=>(lfY ?_))))) (λh25=>Af ?_ λ_=>(Aa (λh32=>Fct.leafZ (default,false,()) (by repeat' first|exact rfl|exact trivial|refine And.intro ?_ ?_) ?_) (λh32=>Af ?_ λ_=>(lfY ?_))))))))));all_goals
  try simp only[Kk] at *
  try simp only[Hs,IJ,std,Nat.reduceAdd,Aak] at *
  try simp only[show(ByteArray.mk #[59]).data.getD 0 0=59 from rfl,show(ByteArray.mk #[32]).data.getD 0 0=32 from rfl,show(ByteArray.mk #[59]).size=1 from rfl,show(ByteArray.mk #[32]).size=1 from rfl] at *
 all_goals
  have g0:=EE 59 s 0;have g1:=EE 59 s 1;have g2:=EE 59 s 2;have g3:=EE 59 s 3;have k0:=D0 32 ((spl 59 s).getD 0 default);have k1:=D0 32 ((spl 59 s).getD 1 default);have k2:=D0 32 ((spl 59 s).getD 2 default);have tz:=XX ((spl 59 s).getD 3 default) ⟨#[110,111,110,99,101,32]⟩
 all_goals first|trivial|omega|(with_reducible refine Qd1 (Tu (Nat.zero_le _)) ?_;omega)|(with_reducible refine Qd1 (Tu ?_) ?_;omega;omega)|skip
 all_goals first|(simp only[parsePolicy];rw[Qa3 ‹_›];exact⟨rfl,rfl⟩)|(simp only[parsePolicy];rw[Qa5 ‹_›,Qa5 o_];exact⟨rfl,rfl⟩)|skip
 all_goals first|(have hq:=AgB (s:=s) o_)|(have hq:=Agq (s:=s) o_)
 all_goals obtain⟨p1,p2⟩:=Afx ‹_› o_ hq
 all_goals first|(rw[p1 ‹_›];exact⟨rfl,rfl⟩)|(rw[p2 ‹_›];exact⟨rfl,rfl⟩))
def Al1:=Alp.a AT<|Fct.o [1,2,4] Alp.2 func127 (by
 rintro⟨(x:Sc_),_⟩ hp;exact hg (.cl CK (x.bj,()) λz2=>.br (z2.2.1) (.cl Aw (x.status,(100:Int),(599:Int),()) λz3=>.br (z3.1) (.cl Aw (x.kind,(1:Int),(5:Int),()) λz4=>.br (z4.1) (.br (decide ((x.body.size:Int)<=400)) (.cl Aw (x.age,(0:Int),(1000:Int),()) λz5=>.lf AT (z5.1,())) (.lf AT (false,()))) (.lf AT (false,()))) (.lf AT (false,()))) (.lf AT (false,()))) (@isResponse.eq_1))
abbrev Fb (c:Sn_):LInv:=⟨[⟨.s,8,true,.el .int⟩,⟨.b,1,false,.el .cache⟩],λ(z_ x_:Ty77_)=>(0<=x_.1/\x_.1<=c.bg.length/\entOk c.bg (c.bg.drop x_.1.toNat) x_.1=entOk c.bg c.bg 0)/\x_.2.1=z_.2.1,λ(x_:Ty77_)=>c.bg.length-x_.1.toNat⟩
def AiP:=Al1.a Ez<|Fct.p (KP [1,2,3,4,6,7,8] [9,44]) (λ⟨c,_⟩=>lv [(2,Fb c)]) Al1.2 func223 (by
 rintro⟨(c:Sn_),_⟩ hp;exact hg (let q3_:=(c.bg.length:Int);let q2_:=Fb c;let q1_:Out:=.lf Ez (false,());.lq (Int×Sn_×PUnit) q2_.inv q2_.m ((0:Int),(c,())) λy1 bk1=>let q0_:=c.bg.getD y1.1.toNat default;.br (decide (y1.1<q3_)) (.ob (inB y1.1 c.bg.length)<|.cl BH (q0_.top,()) λz2=>.br (!z2.1) q1_ (.cl D4 (q0_.to,()) λz3=>.br (!z3.1) q1_ (.cl AT (q0_.bd,()) λz4=>.br (!z4.1) q1_ (.br (q0_.bd.status != 200) q1_ (.cl Et (y1.2.1,q0_.top,q0_.to,()) λ(z5:Ty3_)=>.br (z5.1 != y1.1) q1_ (.re (c.bg)<|.re (Value.int IntKind.i64 q3_)<|.bk (bk1 (w1 y1.1,(y1.2.1,()))))))))) (.lf Ez (decide ((y1.2.1.bg.length:Int)<=100),()))) (an_ @isCache.eq_1<|an_ @szCache.eq_1<|an_ @entOk_at<|an_ @entOk_end<|an_ (Ab A0 c.bg)<|(λi h=>by have:=OX h;have hp2:szCache c<=200000000:=hp;simp only[A0,szCache,szAddr,Ad] at *;omega:∀ i,i<c.bg.length->(c.bg.getD i default).top.size<=200000000/\(c.bg.getD i default).to.host.size<=200000000/\(c.bg.getD i default).to.path.size<=200000000/\(c.bg.getD i default).bd.bj.size<=200000000)))
def Ah {α:Type} (f:α->Nat) (x:α) (l:List α):szL f (x::l)=f x+1+szL f l:=by simp only[szL,Qd0,List.sum_cons,Qa7];omega
def En {α:Type} (f:α->Nat) (l:List α) (x:α):szL f (l++[x])=szL f l+(f x+1):=by
 induction l with
 | nil=>rw[Qf8,Ah];simp[szL]
 | cons y l ih=>rw[Qe5,Ah,Ah,ih];omega
def UB {α:Type} (f:α->Nat) (e:α):∀ (l:List α) (i:Nat),szL f (l.modify i λ_=>e)<=szL f l+(f e+1)
 | [],i=>by cases i<;>simp[List.modify,szL]
 | y::l,0=>by rw[List.modify_zero_cons,Ah,Ah];omega
 | y::l,i+1=>by rw[List.modify_succ_cons,Ah,Ah];have:=UB f e l i;omega
def JB {α:Type} (f:α->Nat) {t:α}:∀ {l:List α},t∈l->f t+1<=szL f l
 | [],h=>by cases h
 | x::l,h=>by
  rw[Ah];rcases Qd2.1 h with rfl|h
  ·omega
  ·have:=JB f h;omega
def putEntry (c:Sn_) (e:Sp_) (i:Int):Sn_:=if 0<=i then⟨c.bg.modify i.toNat λ_=>e⟩ else⟨c.bg++[e]⟩
def entry (t:ByteArray) (a:Sb_) (x:Sc_) (now:Int):Sp_:=⟨t,a,x,IntKind.i64.wrap (now+x.age)⟩
def storeEntry (c:Sn_) (t:ByteArray) (a:Sb_) (x:Sc_) (now:Int):Sn_ :=
 if x.age≠0/\inRange now 0 999999999000=true/\isCache c=true/\isCache (putEntry c (entry t a x now) (fidx (λe=>decide (e.top=t)&&decide (e.to=a)) c.bg 0))=true then putEntry c (entry t a x now) (fidx (λe=>decide (e.top=t)&&decide (e.to=a)) c.bg 0) else c
def JX {all:List Sp_}:∀ {l:List Sp_} {k:Int},entOk all l k=true->∀ e∈l,isResponse e.bd=true
 | [],_,_,e,he=>by cases he
 | y::l,k,h,e,he=>by
  simp only[entOk,Qa2] at h;rcases Qd2.1 he with rfl|he
  ·exact h.1.1.1.2
  ·exact JX h.2 e he
def Ws {c:Sn_} {e:Sp_} {i:Int} (hi:i<c.bg.length) (h:isCache (putEntry c e i)=true):isResponse e.bd=true:=by
 unfold isCache at h;rw[Qa2] at h;refine JX h.1 e ?_;unfold putEntry;split
 ·rw[List.mem_iff_getElem?];exact⟨i.toNat,by rw[List.getElem?_modify_eq,Qa4 o_];rfl⟩
 ·simp
abbrev Cb:Fct:=⟨[.v (.el .cache),.v (.el .str),.v (.el .addr),.v (.el .bd),.v (.el .int)],[.el .cache],λ(x_:Ty78_)=>szCache x_.1<=100000000/\x_.2.1.size<=10000000/\szAddr x_.2.2.1<=10000000/\Ad x_.2.2.2.1<=10000000,λ(x_:Ty78_)=>(storeEntry x_.1 x_.2.1 x_.2.2.1 x_.2.2.2.1 x_.2.2.2.2.1,())⟩
def Aji:=AiP.a Cb<|Fct.o (KP [1,4,5,7,8,10,11,12,13] [33,48,62]) AiP.2 func159 (by
 rintro⟨(c:Sn_),(t:ByteArray),(a:Sb_),(x:Sc_),(now:Int),_⟩ hp;refine ho (let q2_:Out:=.cl DJ (c,()) λz9=>.lf Cb (z9.1,());let q0_:=(⟨t,a,x,wr (now+x.age)⟩:Sp_);.cl DJ (c,()) λz2=>let q1_:Out:=.lf Cb (z2.1,());.br (x.age==0) q1_ (.cl Aw (now,(0:Int),(999999999000:Int),()) λz3=>.br (!z3.1) q1_ (.cl AT (x,()) λz4=>.br (!z4.1) q1_ (.cl Ez (c,()) λz5=>.br (!z5.1) q1_ (.cl Et (c,t,a,()) λ(z6:Ty3_)=>.br (decide (z6.1>=0)) (.ix z6.1 z2.1.bg.length<|.lt (List Sp_) (z2.1.bg.modify z6.1.toNat λz=>q0_) λz7=>.cl Ez ((⟨z7⟩:Sn_),()) λz8=>.br (!z8.1) q2_ (.lf Cb (⟨z7⟩,()))) (.ap (z2.1.bg.length+[q0_].length) 120<|.cl Ez ((⟨z2.1.bg++[q0_]⟩:Sn_),()) λz10=>.br (!z10.1) q2_ (.lf Cb (⟨z2.1.bg++[q0_]⟩,())))))))) ?_;repeat' first|(guard_target =~ Out.holds _ _;first|refine lfY ?_|refine Aa (λ_=>?_) λ_=>?_|refine Af ?_ λ_=>?_|refine DW ?_|refine Ek ?_ λ_=>?_|refine Er ?_ λ_ _=>?_)|exact trivial
 all_goals
  have hi:=DN (λe:Sp_=>decide (e.top=t)&&decide (e.to=a)) c.bg 0 o_;have hr:=λ(i:Int) (h:i<c.bg.length)=>Ws (c:=c) (e:=entry t a x now) h
  have hm:=λi=>UB A0 (entry t a x now) c.bg i
  have hs:=En A0 c.bg (entry t a x now);have hz:A0 (entry t a x now)<=40000000:=by have hp2:szCache c<=100000000/\t.size<=10000000/\szAddr a<=10000000/\Ad x<=10000000:=hp;simp only[A0,entry];omega
  have hq:x.bj.size<=10000000:=by have hp2:szCache c<=100000000/\t.size<=10000000/\szAddr a<=10000000/\Ad x<=10000000:=hp;simp only[Ad] at hp2;omega
  have hn:=Ab A0 c.bg;try simp only[std,Nat.reduceAdd,storeEntry,putEntry,entry,szCache] at *
  try simp(disch:=omega) only[wrapId',toNat1] at *
  try simp(disch:=omega) only[Qa3,Qa5]
 all_goals first|trivial|omega|grind[wrapId',toNat1,good_len,maxLen,storeEntry,putEntry,entry,szCache])
def AiS:=Aji.a Cb<|Fct.o (KP [1,4,5,7,8,10,11,12,13] [29,58]) Aji.2 func128 (by
 rintro⟨(c:Sn_),(t:ByteArray),(a:Sb_),(x:Sc_),(now:Int),_⟩ hp;refine ho (let q1_:=(⟨t,a,x,wr (now+x.age)⟩:Sp_);let q0_:Out:=.cl DJ (c,()) λz5=>.lf Cb (z5.1,());.cl DJ (c,()) λz2=>.cl Et (c,t,a,()) λ(z3:Ty3_)=>.br (decide (z3.1>=0)) (.ix z3.1 z2.1.bg.length<|.lt (List Sp_) (z2.1.bg.modify z3.1.toNat λz=>q1_) λz4=>.br (x.age==0) q0_ (.cl Aw (now,(0:Int),(999999999000:Int),()) λz6=>.br (!z6.1) q0_ (.cl Ez (c,()) λz8=>.br (!z8.1) q0_ (.cl Ez ((⟨z4⟩:Sn_),()) λz10=>.br (!z10.1) q0_ (.lf Cb (⟨z4⟩,())))))) (.ap (z2.1.bg.length+[q1_].length) 120<|.br (x.age==0) q0_ (.cl Aw (now,(0:Int),(999999999000:Int),()) λz13=>.br (!z13.1) q0_ (.cl Ez (c,()) λz15=>.br (!z15.1) q0_ (.cl Ez ((⟨z2.1.bg++[q1_]⟩:Sn_),()) λz17=>.br (!z17.1) q0_ (.lf Cb (⟨z2.1.bg++[q1_]⟩,()))))))) ?_;repeat' first|(guard_target =~ Out.holds _ _;first|refine lfY ?_|refine Aa (λ_=>?_) λ_=>?_|refine Af ?_ λ_=>?_|refine DW ?_|refine Ek ?_ λ_=>?_|refine Er ?_ λ_ _=>?_)|exact trivial
 all_goals
  have hi:=DN (λe:Sp_=>decide (e.top=t)&&decide (e.to=a)) c.bg 0 o_;have hr:=λ(i:Int) (h:i<c.bg.length)=>Ws (c:=c) (e:=entry t a x now) h
  have hm:=λi=>UB A0 (entry t a x now) c.bg i
  have hs:=En A0 c.bg (entry t a x now);have hz:A0 (entry t a x now)<=40000000:=by have hp2:szCache c<=100000000/\t.size<=10000000/\szAddr a<=10000000/\Ad x<=10000000:=hp;simp only[A0,entry];omega
  have hq:x.bj.size<=10000000:=by have hp2:szCache c<=100000000/\t.size<=10000000/\szAddr a<=10000000/\Ad x<=10000000:=hp;simp only[Ad] at hp2;omega
  have hn:=Ab A0 c.bg;try simp only[std,Nat.reduceAdd,storeEntry,putEntry,entry,szCache] at *
  try simp(disch:=omega) only[wrapId',toNat1] at *
  try simp(disch:=omega) only[Qa3,Qa5]
 all_goals first|trivial|omega|grind[wrapId',toNat1,good_len,maxLen,storeEntry,putEntry,entry,szCache])
def keepAnswer (n:Ss_) (t:ByteArray) (a:Sb_) (x:Sc_):Ss_:=if(lookUp n.cache t a n.now).isSome=false/\isResponse x=true/\x.status=200 then{ n with cache:=storeEntry n.cache t a x n.now } else n
abbrev A5:Fct:=⟨[.v (.el .net),.v (.el .str),.v (.el .addr),.v (.el .bd)],[.el .net],λ(x_:Ty79_)=>szNet x_.1<=10000000000/\szCache x_.1.cache<=90000000/\x_.2.1.size<=10000000/\szAddr x_.2.2.1<=10000000/\Ad x_.2.2.2.1<=10000000,λ(x_:Ty79_)=>(keepAnswer x_.1 x_.2.1 x_.2.2.1 x_.2.2.2.1,())⟩
def AjG:=AiS.a A5<|Fct.o (KP [1,4,6,7,8,9,11] [34]) AiS.2 func69 (by
 rintro⟨(n:Ss_),(t:ByteArray),(a:Sb_),(x:Sc_),_⟩ hp;refine ho (.cl GN (n,()) λz2=>.cl Ic (n.cache,t,a,n.now,()) λz3=>.br (!z3.2.1) (.cl AT (x,()) λz4=>.br (z4.1) (.br (x.status==200) (.cl Cb (n.cache,t,a,x,n.now,()) λz5=>.lf A5 (⟨z2.1.servers,z5.1,z2.1.log,z2.1.now⟩,())) (.lf A5 (z2.1,()))) (.lf A5 (z2.1,()))) (.lf A5 (z2.1,()))) ?_;repeat' (guard_target =~ Out.holds _ _;first|refine lfY ?_|refine Aa (λ_=>?_) λ_=>?_|refine Af ?_ λ_=>?_)
 all_goals
  have hn:=Ab A0 n.cache.bg;have hc:szCache n.cache=szL A0 n.cache.bg:=rfl;have hq:x.bj.size<=10000000:=by have hp2:szNet n<=10000000000/\szCache n.cache<=90000000/\t.size<=10000000/\szAddr a<=10000000/\Ad x<=10000000:=hp;simp only[Ad] at hp2;omega
  try simp only[std,Nat.reduceAdd,keepAnswer] at *
  try simp(disch:=omega) only[wrapId',toNat1] at *
  try simp(disch:=omega) only[Qa3,Qa5]
 all_goals first|trivial|omega|grind[wrapId',toNat1,drop_cons,drop_end,good_len,maxLen,keepAnswer])
def Aju:=AjG.a A5<|Fct.o (KP [1,4,6,7,8,9,11] [34]) AjG.2 func45 (by
 rintro⟨(n:Ss_),(t:ByteArray),(a:Sb_),(x:Sc_),_⟩ hp;refine ho (.cl GN (n,()) λz2=>.cl Ic (n.cache,t,a,n.now,()) λz3=>.cl AT (x,()) λz4=>.br (z4.1) (.br (x.status==200) (.br (!z3.2.1) (.cl Cb (z2.1.cache,t,a,x,n.now,()) λz5=>.lf A5 (⟨z2.1.servers,z5.1,z2.1.log,z2.1.now⟩,())) (.lf A5 (z2.1,()))) (.lf A5 (z2.1,()))) (.lf A5 (z2.1,()))) ?_;repeat' (guard_target =~ Out.holds _ _;first|refine lfY ?_|refine Aa (λ_=>?_) λ_=>?_|refine Af ?_ λ_=>?_)
 all_goals
  have hn:=Ab A0 n.cache.bg;have hc:szCache n.cache=szL A0 n.cache.bg:=rfl;have hq:x.bj.size<=10000000:=by have hp2:szNet n<=10000000000/\szCache n.cache<=90000000/\t.size<=10000000/\szAddr a<=10000000/\Ad x<=10000000:=hp;simp only[Ad] at hp2;omega
  try simp only[std,Nat.reduceAdd,keepAnswer] at *
  try simp(disch:=omega) only[wrapId',toNat1] at *
  try simp(disch:=omega) only[Qa3,Qa5]
 all_goals first|trivial|omega|grind[wrapId',toNat1,drop_cons,drop_end,good_len,maxLen,keepAnswer])
def logSent (n:Ss_) (t:ByteArray) (a:Sb_) (g:Bool):Ss_:=if n.log.length<400 then{ n with log:=n.log++[⟨t,a,g⟩]} else n
def fetchNow (n:Ss_) (t:ByteArray) (a:Sb_) (g:Bool):Ss_×Sc_ :=
 if(isName a.host&&isName a.path)=false then(n,notFound)
 else if(lookUp n.cache t a n.now).isSome then(n,(lookUp n.cache t a n.now).getD notFound)
 else(if g then logSent n t a g else keepAnswer (logSent n t a g) t a (answerTo n.servers a),answerTo n.servers a)
def LL (l:List Sh_) (a:Sb_):Ad (answerTo l a)<=szL Ai l:=by
 unfold answerTo;split
 ·exact Nat.zero_le _
 split
 ·exact Nat.zero_le _
 ·rename_i h1 h2;have h3:=DN (λs:Sh_=>decide (s.host=a.host)) l 0 o_;have h4:=C6 Ai (l:=l) (i:=(fidx (λs=>decide (s.host=a.host)) l 0).toNat) o_;have h5:=DN (λf:Su_=>decide (f.path=a.path)) (l.getD (fidx (λs=>decide (s.host=a.host)) l 0).toNat default).files 0 o_;have h6:=C6 Iq (l:=(l.getD (fidx (λs=>decide (s.host=a.host)) l 0).toNat default).files) (i:=(fidx (λf:Su_=>decide (f.path=a.path)) (l.getD (fidx (λs=>decide (s.host=a.host)) l 0).toNat default).files 0).toNat) o_;simp only[Ai,Iq] at h4 h6;omega
abbrev Bv:Fct:=⟨[.v (.el .net),.v (.el .str),.v (.el .addr),.v (.el .bool)],[.el .net,.el .bd],λ(x_:Ty80_)=>szNet x_.1<=9000000000/\szCache x_.1.cache<=90000000/\szL Ai x_.1.servers<=10000000/\x_.2.1.size<=10000000/\szAddr x_.2.2.1<=10000000,λ(x_:Ty80_)=>((fetchNow x_.1 x_.2.1 x_.2.2.1 x_.2.2.2.1).1,(fetchNow x_.1 x_.2.1 x_.2.2.1 x_.2.2.2.1).2,())⟩
def Alr:=Aju.a Bv<|Fct.o (KP [1,3,4,6,8,9,10,11,12,13] [18,31,41,52]) Aju.2 func71 (by
 rintro⟨(n:Ss_),(t:ByteArray),(a:Sb_),(g:Bool),_⟩ hp;refine ho (let q1_:=(⟨t,a,g⟩:Sx_);.cl GN (n,()) λz2=>.cl D4 (a,()) λz3=>.br (!z3.1) (.cl DG () λz4=>.lf Bv (z2.1,z4.1,())) (.cl Ic (n.cache,t,a,n.now,()) λz5=>let q2_:Out:=.lf Bv (z2.1,z5.1,());.br (z5.2.1) (.lp (Bool) (True) (λx=>True) λy6=>.br (y6) q2_ q2_) (.cl FO (n.servers,a,()) λz6=>let q5_:Out:=.lf Bv (z2.1,z6.1,());let q0_:Out:=.lf Bv ({z2.1 with log:=z2.1.log++[q1_]},z6.1,());.br (decide ((n.log.length:Int)<400)) (.ap (z2.1.log.length+[q1_].length) 56<|.br (!g) (.cl A5 (({z2.1 with log:=z2.1.log++[q1_]}:Ss_),t,a,z6.1,()) λz7=>let q3_:Out:=.lf Bv (z7.1,z6.1,());.lp (Bool) (True) (λx=>True) λy13=>.br (y13) q3_ q3_) (.lp (Bool) (True) (λx=>True) λy15=>.br (y15) q0_ q0_)) (.br (!g) (.cl A5 (z2.1,t,a,z6.1,()) λz8=>let q4_:Out:=.lf Bv (z8.1,z6.1,());.lp (Bool) (True) (λx=>True) λy19=>.br (y19) q4_ q4_) (.lp (Bool) (True) (λx=>True) λy21=>.br (y21) q5_ q5_))))) ?_;refine Af ?_ λ_=>(Af ?_ λ_=>(Aa (λh3=>Af trivial λ_=>(lfY ?_)) (λh3=>Af ?_ λ_=>(Aa (λh5=>LC trivial λy6 i6=>Aa (λh7=>lfY ?_) (λh7=>lfY ?_)) (λh5=>Af ?_ λ_=>(Aa (λh9=>Ek ?_ λ_=>Aa (λh11=>Af ?_ λ_=>(LC trivial λy13 i13=>Aa (λh14=>lfY ?_) (λh14=>lfY ?_))) (λh11=>LC trivial λy15 i15=>Aa (λh16=>lfY ?_) (λh16=>lfY ?_))) (λh9=>Aa (λh17=>Af ?_ λ_=>(LC trivial λy19 i19=>Aa (λh20=>lfY ?_) (λh20=>lfY ?_))) (λh17=>LC trivial λy21 i21=>Aa (λh22=>lfY ?_) (λh22=>lfY ?_)))))))))
 all_goals
  have hn:=Ab A0 n.cache.bg;have hc:szCache n.cache=szL A0 n.cache.bg:=rfl;have ha:=LL n.servers a;have hs:=En Gd n.log ⟨t,a,g⟩;have hs2:Gd ⟨t,a,g⟩=t.size+szAddr a:=rfl;have hd:a.host.size<=szAddr a/\a.path.size<=szAddr a:=⟨Qc6 _ _,Nat.le_add_left _ _⟩;have hl:=Ab Gd n.log;try simp only[std,Nat.reduceAdd,fetchNow,logSent,szNet] at *
  try simp(disch:=omega) only[wrapId',toNat1] at *
  try simp(disch:=omega) only[Qa3,Qa5]
 all_goals first|trivial|omega|grind[wrapId',toNat1,drop_cons,drop_end,good_len,maxLen,fetchNow,logSent,szNet])
def AkR:=Alr.a Bv<|Fct.o (KP [1,3,4,6,8,9,10,11,12,13] [18,31,41,52]) Alr.2 func47 (by
 rintro⟨(n:Ss_),(t:ByteArray),(a:Sb_),(g:Bool),_⟩ hp;refine ho (let q1_:=(⟨t,a,g⟩:Sx_);.cl GN (n,()) λz2=>.cl D4 (a,()) λz3=>.br (!z3.1) (.cl DG () λz4=>.lf Bv (z2.1,z4.1,())) (.cl Ic (n.cache,t,a,n.now,()) λz5=>let q2_:Out:=.lf Bv (z2.1,z5.1,());.br (z5.2.1) (.lp (Bool) (True) (λx=>True) λy6=>.br (y6) q2_ q2_) (.cl FO (n.servers,a,()) λz6=>let q5_:Out:=.lf Bv (z2.1,z6.1,());let q0_:Out:=.lf Bv ({z2.1 with log:=z2.1.log++[q1_]},z6.1,());.br (decide ((z2.1.log.length:Int)<400)) (.ap (z2.1.log.length+[q1_].length) 56<|.br (!g) (.cl A5 (({z2.1 with log:=z2.1.log++[q1_]}:Ss_),t,a,z6.1,()) λz7=>let q3_:Out:=.lf Bv (z7.1,z6.1,());.lp (Bool) (True) (λx=>True) λy13=>.br (y13) q3_ q3_) (.lp (Bool) (True) (λx=>True) λy15=>.br (y15) q0_ q0_)) (.br (!g) (.cl A5 (z2.1,t,a,z6.1,()) λz8=>let q4_:Out:=.lf Bv (z8.1,z6.1,());.lp (Bool) (True) (λx=>True) λy19=>.br (y19) q4_ q4_) (.lp (Bool) (True) (λx=>True) λy21=>.br (y21) q5_ q5_))))) ?_;refine Af ?_ λ_=>(Af ?_ λ_=>(Aa (λh3=>Af trivial λ_=>(lfY ?_)) (λh3=>Af ?_ λ_=>(Aa (λh5=>LC trivial λy6 i6=>Aa (λh7=>lfY ?_) (λh7=>lfY ?_)) (λh5=>Af ?_ λ_=>(Aa (λh9=>Ek ?_ λ_=>Aa (λh11=>Af ?_ λ_=>(LC trivial λy13 i13=>Aa (λh14=>lfY ?_) (λh14=>lfY ?_))) (λh11=>LC trivial λy15 i15=>Aa (λh16=>lfY ?_) (λh16=>lfY ?_))) (λh9=>Aa (λh17=>Af ?_ λ_=>(LC trivial λy19 i19=>Aa (λh20=>lfY ?_) (λh20=>lfY ?_))) (λh17=>LC trivial λy21 i21=>Aa (λh22=>lfY ?_) (λh22=>lfY ?_)))))))))
 all_goals
  have hn:=Ab A0 n.cache.bg;have hc:szCache n.cache=szL A0 n.cache.bg:=rfl;have ha:=LL n.servers a;have hs:=En Gd n.log ⟨t,a,g⟩;have hs2:Gd ⟨t,a,g⟩=t.size+szAddr a:=rfl;have hd:a.host.size<=szAddr a/\a.path.size<=szAddr a:=⟨Qc6 _ _,Nat.le_add_left _ _⟩;have hl:=Ab Gd n.log;try simp only[std,Nat.reduceAdd,fetchNow,logSent,szNet] at *
  try simp(disch:=omega) only[wrapId',toNat1] at *
  try simp(disch:=omega) only[Qa3,Qa5]
 all_goals first|trivial|omega|grind[wrapId',toNat1,drop_cons,drop_end,good_len,maxLen,fetchNow,logSent,szNet])
def newBuilder:Se_:=⟨[⟨⟨#[112,97,103,101]⟩,⟨#[]⟩,-1,[]⟩],[0]⟩
abbrev K0:Fct:=⟨[],[rE .ba],λ_=>True,λ_=>(newBuilder,())⟩
def Amv:=AkR.a K0<|Fct.o [0] AkR.2 func305 (by
 rintro⟨_⟩ hp;exact hg (.lf K0 (⟨[(⟨(⟨#[112,97,103,101]⟩:ByteArray),(⟨#[]⟩:ByteArray),(-1:Int),[]⟩:Sv_)],[(0:Int)]⟩,())) (@newBuilder.eq_1))
def newPage (a:Sb_) (x:Sc_):Sa_×Bool:=if(isName a.host&&isName a.path)=true/\isResponse x=true/\x.status=200/\x.kind=1 then(⟨a,(parsePolicy x.bj).1,default,[],false,newBuilder,[],[],[],0,0,0,0,[],[],false⟩,true) else(default,false)
abbrev V4:Fct:=⟨[.v (.el .addr),.v (.el .bd)],[.el .page,.el .bool],λ(x_:Sb_×Sc_×Unit)=>x_.2.1.bj.size<=200000000/\szAddr x_.1<=10000000,λ(x_:Sb_×Sc_×Unit)=>((newPage x_.1 x_.2.1).1,(newPage x_.1 x_.2.1).2,())⟩
def AjQ:=Amv.a V4<|Fct.o (KP [2,3,4,5,6,7] [35]) Amv.2 func198 (by
 rintro⟨(a:Sb_),(x:Sc_),_⟩ hp;refine ho (let q1_:=(⟨#[]⟩:ByteArray);let q0_:Out:=.leaf (.tup [(true,[vs q1_,vs q1_,vb (false),.nl,.nl,.nl,vs q1_,vs q1_,.nl,vb (false),.nl,.nl,.nl,.nl,.nl,vi ((0:Int)),vi ((0:Int)),vi ((0:Int)),vi ((0:Int)),.nl,.nl,vb (false)]),(false,[vb (false)])]) [] [];.cl CK (x.bj,()) λz2=>.cl D4 (a,()) λz3=>.br (!z3.1) q0_ (.cl AT (x,()) λz4=>.br (!z4.1) q0_ (.br (!z2.2.1) q0_ (.br (x.status != 200) q0_ (.br (x.kind != 1) q0_ (.cl K0 () λz5=>.leaf (.tup [(true,[vs (a.host),vs (a.path),vb (z2.1.set_),.l Ty.str (z2.1.bp),.l Ty.str (z2.1.styles),.l Ty.str (z2.1.images),vs (z2.1.nonce),vs q1_,.nl,vb (false),.l Ty.node (z5.1.bi),.l Ty.int (z5.1.bl),.nl,.nl,.nl,vi ((0:Int)),vi ((0:Int)),vi ((0:Int)),vi ((0:Int)),.nl,.nl,vb (false)]),(false,[vb (true)])]) [] [])))))) ?_;refine Ei ?_ λo1 z2 ez2=>(Ei ?_ λo2 z3 ez3=>(Aa (λh3=>Fct.leafZ (default,false,()) (by repeat' first|exact rfl|exact trivial|refine And.intro ?_ ?_) ?_) (λh3=>Ei ?_ λo4 z4 ez4=>(Aa (λh5=>Fct.leafZ (default,false,()) (by repeat' first|exact rfl|exact trivial|refine And.intro ?_ ?_) ?_) (λh5=>Aa (λh6=>Fct.leafZ (default,false,()) (by repeat' first|exact rfl|exact trivial|refine And.intro ?_ ?_) ?_) (λh6=>Aa (λh7=>Fct.leafZ (default,false,()) (by repeat' first|exact rfl|exact trivial|refine And.intro ?_ ?_) ?_) (λh7=>Aa (λh8=>Fct.leafZ (default,false,()) (by repeat' first|exact rfl|exact trivial|refine And.intro ?_ ?_) ?_) (λh8=>Ei trivial λ_ z5 ez5=>(Fct.leafZ (⟨a,z2.fst,default,[],false,z5.fst,[],[],[],(0:Int),(0:Int),(0:Int),(0:Int),[],[],false⟩,true,()) (by repeat' first|exact rfl|exact trivial|refine And.intro ?_ ?_) ?_)))))))))
 all_goals subst_vars
 all_goals
  have hd:a.host.size<=szAddr a/\a.path.size<=szAddr a:=⟨Qc6 _ _,Nat.le_add_left _ _⟩;try simp only[std,Nat.reduceAdd,newPage,isResponse] at *
  try simp(disch:=omega) only[wrapId',toNat1] at *
  try simp(disch:=omega) only[Qa3,Qa5]
 all_goals first|trivial|omega|grind[wrapId',toNat1,drop_cons,drop_end,good_len,maxLen,newPage,isResponse])
def startLoad (n:Ss_) (a:Sb_) (cs:List Int):Sd_×Bool:=if(newPage a (fetchNow n a.host a false).2).2 then(⟨(fetchNow n a.host a false).1,(newPage a (fetchNow n a.host a false).2).1,cutText (fetchNow n a.host a false).2.body cs,[],[]⟩,true) else(⟨(fetchNow n a.host a false).1,default,[],[],[]⟩,false)
def AaB {c:Sn_} {t:ByteArray} {a:Sb_} {now:Int} {x:Sc_} (h:lookUp c t a now=some x):Ad x<=szCache c:=by
 unfold lookUp at h;obtain⟨e,he,rfl⟩:=Option.map_eq_some_iff.1 h;obtain⟨i,hi,rfl⟩:=List.mem_iff_getElem.1 (List.mem_of_find?_eq_some he);have:=C6 A0 (l:=c.bg) (i:=i) hi;rw[Qb0,Qa4 hi] at this;simp only[Option.getD_some,A0] at this;simp only[szCache];omega
def AdH (n:Ss_) (t:ByteArray) (a:Sb_) (g:Bool):Ad (fetchNow n t a g).2<=szNet n:=by
 unfold fetchNow;split
 ·exact Nat.zero_le _
 split
 ·rename_i h;obtain⟨x,hx⟩:=Option.isSome_iff_exists.1 h;have:=AaB hx;rw[hx];simp only[Option.getD_some,szNet];omega
 ·have:=LL n.servers a;simp only[szNet];omega
abbrev PY:Fct:=⟨[.v (.el .net),.v (.el .addr),.v (.sl .int)],[.el .loader,.el .bool],λ(x_:Ty81_)=>szNet x_.1<=1048576/\szAddr x_.2.1<=1048576/\x_.2.2.1.length<=1048576,λ(x_:Ty81_)=>((startLoad x_.1 x_.2.1 x_.2.2.1).1,(startLoad x_.1 x_.2.1 x_.2.2.1).2,())⟩
def AlO:=AjQ.a PY<|Fct.o (KP [2,3,4,6,7,8,9,10,11,12] [30]) AjQ.2 func109 (by
 rintro⟨(n:Ss_),(a:Sb_),(cs:List Int),_⟩ hp;refine ho (.cl Bv (n,a.host,a,false,()) λz2=>.cl V4 (a,z2.2.1,()) λz3=>.br (!z3.2.1) (.leaf (.tup [(true,[.l Ty.server (z2.1.servers),.l Ty.entry (z2.1.cache.bg),.l Ty.sent (z2.1.log),vi (z2.1.now),vs ((⟨#[]⟩:ByteArray)),vs ((⟨#[]⟩:ByteArray)),vb (false),.nl,.nl,.nl,vs ((⟨#[]⟩:ByteArray)),vs ((⟨#[]⟩:ByteArray)),.nl,vb (false),.nl,.nl,.nl,.nl,.nl,vi ((0:Int)),vi ((0:Int)),vi ((0:Int)),vi ((0:Int)),.nl,.nl,vb (false),.nl,.nl,.nl]),(false,[vb (false)])]) [] []) (.cl J0 (z2.2.1.body,cs,()) λz4=>.leaf (.tup [(true,[.l Ty.server (z2.1.servers),.l Ty.entry (z2.1.cache.bg),.l Ty.sent (z2.1.log),vi (z2.1.now),vs (z3.1.addr.host),vs (z3.1.addr.path),vb (z3.1.bj.set_),.l Ty.str (z3.1.bj.bp),.l Ty.str (z3.1.bj.styles),.l Ty.str (z3.1.bj.images),vs (z3.1.bj.nonce),vs (z3.1.tok.rest),.l Ty.token (z3.1.bn),vb (z3.1.ended),.l Ty.node (z3.1.ba.bi),.l Ty.int (z3.1.ba.bl),.l Ty.slot (z3.1.bf),.l Ty.module (z3.1.bh),.l Ty.addr (z3.1.bg),vi (z3.1.block),vi (z3.1.inline),vi (z3.1.bm),vi (z3.1.bq),.l Ty.addr (z3.1.ran),.l Ty.str (z3.1.log),vb (z3.1.loaded),.l Ty.str (z4.1),.nl,.nl]),(false,[vb (true)])]) [] [])) ?_;refine Ei ?_ λo1 z2 ez2=>(Ei ?_ λo2 z3 ez3=>(Aa (λh3=>Fct.leafZ (⟨z2.fst,default,[],[],[]⟩,false,()) (by repeat' first|exact rfl|exact trivial|refine And.intro ?_ ?_) ?_) (λh3=>Ei ?_ λo4 z4 ez4=>(Fct.leafZ (⟨z2.fst,z3.fst,z4.fst,[],[]⟩,true,()) (by repeat' first|exact rfl|exact trivial|refine And.intro ?_ ?_) ?_))))
 all_goals subst_vars
 all_goals
  have hf:=AdH n a.host a false;have hd:a.host.size<=szAddr a/\a.path.size<=szAddr a:=⟨Qc6 _ _,Nat.le_add_left _ _⟩;have he:(fetchNow n a.host a false).2.body.size<=Ad (fetchNow n a.host a false).2/\(fetchNow n a.host a false).2.bj.size<=Ad (fetchNow n a.host a false).2:=⟨Qc6 _ _,Nat.le_add_left _ _⟩;try simp only[std,Nat.reduceAdd,startLoad,szNet] at *
  try simp(disch:=omega) only[wrapId',toNat1] at *
  try simp(disch:=omega) only[Qa3,Qa5]
 all_goals first|trivial|omega|grind[wrapId',toNat1,drop_cons,drop_end,good_len,maxLen,startLoad,szNet])
def NW (s:ByteArray) (cs:List Int):∀ (f:Nat) (i a:Int),∀ x∈cutGo s cs f i a,Ae x<=s.size
 | 0,i,a,x,h=>by
  simp only[cutGo,List.mem_singleton] at h;subst h;simp only[Ae,Qc1];omega
 | f+1,i,a,x,h=>by
  simp only[cutGo] at h;split at h
  ·rcases Qd2.1 h with rfl|h
   ·simp only[Ae,Qc1];omega
   ·exact NW s cs f _ _ x h
  ·exact NW s cs f _ _ x h
def Xe (s:ByteArray) (cs:List Int):szL Ae (cutText s cs)<=(s.size+1)*8 :=
 Qd1 (Aef (λx hx=>NW s cs _ _ _ x hx)) (Nat.mul_le_mul_left _ (OS s cs))
def Acl (s:ByteArray):AM (parsePolicy s).1<=4*(s.size+1):=by
 unfold parsePolicy;split
 ·have:AM (default:Sj_)=0:=by decide
  simp only[this];exact Nat.zero_le _
 split
 ·unfold polCand;exact Tu (by
   split
   ·rw[Qc1];have:=EE 59 s 3;omega
   ·exact Nat.zero_le _)
 ·have:AM (default:Sj_)=0:=by decide
  simp only[this];exact Nat.zero_le _
def digestOf (b:ByteArray):Int:=hashI (151::bti (AW b) (AW b)) 11
def MP (b:ByteArray) (i:Nat):0<=(AW b).getD i default/\(AW b).getD i default<=255:=by
 unfold AW;rw[Qb0,Qc5];cases h:b.data.toList[i]? with
 | none=>exact⟨Int.le_refl _,by decide⟩
 | some x=>have:=x.toNat_lt;simp only[Qb7,Option.getD_some];omega
def IG (b:ByteArray):(AW b).length=b.size:=by rw[AW,Qf2];rfl
def Tx (b:ByteArray):List.map (λb:UInt8=>(b.toNat:Int)) b.data.toList=AW b:=rfl
def AgP {b:ByteArray} (hb:b.size<=1000000000) (i:Nat) : -9223372036854775808<=(151::bti (AW b) (AW b)).getD i default/\(151::bti (AW b) (AW b)).getD i default<=9223372036854775807:=by
 match i with
 | 0=>
  simp
 | 1=>
  show -9223372036854775808<=((AW b).length:Int)/\((AW b).length:Int)<=9223372036854775807;rw[IG];omega
 | i+2=>
  have:=MP b i;show -9223372036854775808<=(AW b).getD i default/\(AW b).getD i default<=9223372036854775807;omega
def Age (b:ByteArray):(151::bti (AW b) (AW b)).length=b.size+2:=by simp[bti,IG]
abbrev Ix:Fct:=⟨[.v (.el .str)],[.el .int],λ(x_:Ty48_)=>x_.1.size<=1000000000,λ(x_:Ty48_)=>(digestOf x_.1,())⟩
theorem q0 (b:ByteArray) (hp:Ix.pre (b,())):Out.holds (Ix.ctr (b,())).post (.cl G5 (List.map (λb=>(b.toNat:Int)) b.data.toList,()) λ(z2:Ty40_)=>.ap (1+z2.1.length) 8<|.cl Yv ([(151:Int)]++z2.1,()) λ(z3:Ty3_)=>.lf Ix (z3.1,())):=by
 refine Af ?_ λ_=>(Ek ?_ λ_=>Af ?_ λ_=>(lfY ?_))
 all_goals
  have h1:=MP b;have h2:=IG b;have h3:=Age b;have h4:=AgP (show b.size<=1000000000 from hp);try simp only[std,Nat.reduceAdd,Tx,digestOf,List.singleton_append] at *
 all_goals first|trivial|omega|exact⟨o_,λi _=>h1 i⟩|exact⟨o_,λi _=>h4 i⟩|skip
def Akp:=AlO.a Ix<|Fct.o [0,2] AlO.2 func403 (by
 rintro⟨(b:ByteArray),_⟩ hp;exact ho _ (q0 b hp))
def AmN:=Akp.a Ix<|Fct.o [0,2] Akp.2 func385 (by
 rintro⟨(b:ByteArray),_⟩ hp;exact ho _ (q0 b hp))
def OV:∀ (l:List Int) (d:Int),0<=d->d<2147483647->0<=hashI l d/\hashI l d<2147483647
 | [],d,h0,h1=>⟨h0,h1⟩
 | x::l,d,h0,h1=>by have hm:=MG x;have ht:=My (x:=d*1000003+modM x 2147483647+13) o_;exact OV l _ ht.1 ht.2
def S8 (b:ByteArray):0<=digestOf b/\digestOf b<2147483647:=OV _ 11 (by decide) (by decide)
abbrev Dn:Fct:=⟨[.v (.el .str),.v (.el .str)],[.el .bool],λ(x_:Ty82_)=>x_.1.size<=1000000000,λ(x_:Ty82_)=>(decide (x_.2.1=⟨#[]⟩)||decide (x_.2.1=Kh (digestOf x_.1)),())⟩
theorem q13 (b:ByteArray) (v:ByteArray) (hp:Dn.pre (b,v,())):Out.holds (Dn.ctr (b,v,())).post (.br (ByteArray.toList v==(⟨#[]⟩:ByteArray).toList) (.lf Dn (true,())) (.cl Ix (b,()) λ(z2:Ty3_)=>.cl A9 (z2.1,()) λz3=>.lf Dn (ByteArray.toList v==z3.1.toList,()))):=hz (((S8 b)))
def AkC:=AmN.a Dn<|Fct.o [0,1,4] AmN.2 func353 (by
 rintro⟨(b:ByteArray),(v:ByteArray),_⟩ hp;exact ho _ (q13 b v hp))
def Aks:=AkC.a Dn<|Fct.o [0,1,4] AkC.2 func326 (by
 rintro⟨(b:ByteArray),(v:ByteArray),_⟩ hp;exact ho _ (q13 b v hp))
def checkResponse (p:Sj_) (r:Sg_) (x:Sc_):Int:=if checkRequest p r≠1 then 2 else if isResponse x=false\/x.status≠200 then 3 else if(decide (x.kind=r.kind)||decide (r.kind=5/\x.kind=2))=false then 4 else if r.from_≠r.to.host/\x.shares=false/\(r.kind=5\/r.digest≠⟨#[]⟩) then 5 else if(decide (r.digest=⟨#[]⟩)||decide (r.digest=Kh (digestOf x.body)))=false then 6 else 1
def Jh {p:Sj_} {r:Sg_} (h:checkRequest p r≠1):checkRequest p r=2:=by
 unfold checkRequest at *;split<;>simp_all
abbrev Aq:Fct:=⟨[.v (.el .bj),.v (.el .request),.v (.el .bd)],[.el .int],λ(x_:Ty83_)=>AM x_.1<=1099511627776/\BJ x_.2.1<=1099511627776/\x_.2.2.1.bj.size<=200000000/\x_.2.2.1.body.size<=1000000000,λ(x_:Ty83_)=>(checkResponse x_.1 x_.2.1 x_.2.2.1,())⟩
def AkU:=Aks.a Aq<|Fct.o (KP [3,4,5,6] [7,12,21,27,49]) Aks.2 func260 (by
 rintro⟨(p:Sj_),(r:Sg_),(x:Sc_),_⟩ hp;exact hg (let q2_:Out:=.lf Aq ((5:Int),());let q1_:Out:=.lf Aq ((3:Int),());let q0_:Out:=.cl Dn (x.body,r.digest,()) λz5=>.br (!z5.1) (.lf Aq ((6:Int),())) (.lf Aq ((1:Int),()));.cl AE (p,r,()) λ(z2:Ty3_)=>.br (z2.1 != 1) (.lf Aq ((2:Int),())) (.cl AT (x,()) λz3=>.br (!z3.1) q1_ (.br (x.status != 200) q1_ (.cl EL (x,r.kind,()) λz4=>.br (!z4.1) (.lf Aq ((4:Int),())) (.br (!r.from_.toList==r.to.host.toList) (.br (!x.shares) (.br (r.kind==5) q2_ (.br (!r.digest.toList==(⟨#[]⟩:ByteArray).toList) q2_ q0_)) q0_) q0_))))) (an_ @checkResponse.eq_1<|(λh=>Jh (p:=p) (r:=r) h)))
def Al4:=AkU.a Aq<|Fct.o (KP [3,4,5,6] [7,15,24,30,52]) AkU.2 func225 (by
 rintro⟨(p:Sj_),(r:Sg_),(x:Sc_),_⟩ hp;exact hg (let q2_:Out:=.lf Aq ((5:Int),());let q1_:Out:=.lf Aq ((3:Int),());let q0_:Out:=.cl Dn (x.body,r.digest,()) λz6=>.br (!z6.1) (.lf Aq ((6:Int),())) (.lf Aq ((1:Int),()));.cl AE (p,r,()) λ(z2:Ty3_)=>.br (z2.1 != 1) (.cl AE (p,r,()) λ(z3:Ty3_)=>.lf Aq (z3.1,())) (.cl AT (x,()) λz4=>.br (!z4.1) q1_ (.br (x.status != 200) q1_ (.cl EL (x,r.kind,()) λz5=>.br (!z5.1) (.lf Aq ((4:Int),())) (.br (!r.from_.toList==r.to.host.toList) (.br (!x.shares) (.br (r.kind==5) q2_ (.br (!r.digest.toList==(⟨#[]⟩:ByteArray).toList) q2_ q0_)) q0_) q0_))))) (an_ @checkResponse.eq_1<|(λh=>Jh (p:=p) (r:=r) h)))
def usable (p:Sj_) (r:Sg_) (x:Sc_):ByteArray×Bool:=if checkResponse p r x=1 then(x.body,true) else(⟨#[]⟩,false)
abbrev C1:Fct:=⟨[.v (.el .bj),.v (.el .request),.v (.el .bd)],[.el .str,.el .bool],λ(x_:Ty83_)=>AM x_.1<=1099511627776/\BJ x_.2.1<=1099511627776/\x_.2.2.1.bj.size<=200000000/\x_.2.2.1.body.size<=1000000000,λ(x_:Ty83_)=>((usable x_.1 x_.2.1 x_.2.2.1).1,(usable x_.1 x_.2.1 x_.2.2.1).2,())⟩
def Aj4:=Al4.a C1<|Fct.o (KP [3,4,5,6,7] [12]) Al4.2 func261 (by
 rintro⟨(p:Sj_),(r:Sg_),(x:Sc_),_⟩ hp;exact hg (.cl Aq (p,r,x,()) λ(z2:Ty3_)=>.br (z2.1 != 1) (.lf C1 ((⟨#[]⟩:ByteArray),false,())) (.lf C1 (x.body,true,()))) (@usable.eq_1))
def Ami:=Aj4.a C1<|Fct.o (KP [3,4,5,6,7] [12]) Aj4.2 func226 (by
 rintro⟨(p:Sj_),(r:Sg_),(x:Sc_),_⟩ hp;exact hg (.cl Aq (p,r,x,()) λ(z2:Ty3_)=>.br (z2.1 != 1) (.lf C1 ((⟨#[]⟩:ByteArray),false,())) (.lf C1 (x.body,true,()))) (@usable.eq_1))
def kindOf (m:Int):Int:=if m=1 then 4 else if m=2 then 3 else if m=3\/m=4 then 2 else 0
abbrev BR:Fct:=⟨[.v (.el .int)],[.el .int],λ(x_:Ty3_)=>True,λ(x_:Ty3_)=>(kindOf x_.1,())⟩
theorem q14 (m:Int) (hp:BR.pre (m,())):Out.holds (BR.ctr (m,())).post (.br (m==1) (.lf BR ((4:Int),())) (.br (m==2) (.lf BR ((3:Int),())) (.br (m==3) (.br (m==3) (.lf BR ((2:Int),())) (.lf BR ((0:Int),()))) (.br (m==4) (.lf BR ((2:Int),())) (.lf BR ((0:Int),())))))):=hz ((@kindOf.eq_1))
def Alx:=Ami.a BR<|Fct.o (KP [0,2,3,8] [4,6]) Ami.2 func254 (by
 rintro⟨(m:Int),_⟩ hp;exact ho _ (q14 m hp))
def Akb:=Alx.a BR<|Fct.o (KP [0,2,3,8] [4,6]) Alx.2 func218 (by
 rintro⟨(m:Int),_⟩ hp;exact ho _ (q14 m hp))
def slotRequest (p:Sa_) (k:Int):Sg_:=if 0<=k/\k<p.bf.length then⟨kindOf (p.bf.getD k.toNat default).mode,(p.bf.getD k.toNat default).to,p.addr.host,(p.bf.getD k.toNat default).digest⟩ else default
abbrev BF:Fct:=⟨[.v (.el .page),.v (.el .int)],[.el .request],λ(x_:Ty84_)=>x_.1.bf.length<=1000000000000/\-9223372036854775808<=x_.2.1/\x_.2.1<=9223372036854775807,λ(x_:Ty84_)=>(slotRequest x_.1 x_.2.1,())⟩
def AlQ:=Akb.a BF<|Fct.o (KP [1,2,4,5] [12]) Akb.2 func152 (by
 rintro⟨(p:Sa_),(k:Int),_⟩ hp;exact hg (.cl Aw (k,(0:Int),wr ((p.bf.length:Int)-(1:Int)),()) λz2=>.br (!z2.1) (.lf BF (default,())) (.ob (inB k p.bf.length)<|.cl BR ((p.bf.getD (Int.toNat k) default).mode,()) λ(z3:Ty3_)=>.lf BF (⟨z3.1,(p.bf.getD (Int.toNat k) default).to,p.addr.host,(p.bf.getD (Int.toNat k) default).digest⟩,()))) (an_ @slotRequest.eq_1<|@inRange.eq_1))
def Amb:=AlQ.a BF<|Fct.o (KP [1,2,4,5] [14]) AlQ.2 func121 (by
 rintro⟨(p:Sa_),(k:Int),_⟩ hp;exact hg (.br (decide (k<0)) (.lf BF (default,())) (.br (decide (k>=(p.bf.length:Int))) (.lf BF (default,())) (.ob (inB k p.bf.length)<|.cl BR ((p.bf.getD (Int.toNat k) default).mode,()) λ(z2:Ty3_)=>.lf BF (⟨z2.1,(p.bf.getD (Int.toNat k) default).to,p.addr.host,(p.bf.getD (Int.toNat k) default).digest⟩,())))) (an_ @slotRequest.eq_1<|@inRange.eq_1))
def modRequest (p:Sa_) (k:Int):Sg_:=if 0<=k/\k<p.bh.length then⟨5,(p.bh.getD k.toNat default).to,p.addr.host,⟨#[]⟩⟩ else default
abbrev Bz:Fct:=⟨[.v (.el .page),.v (.el .int)],[.el .request],λ(x_:Ty84_)=>x_.1.bh.length<=2000000000000/\-9223372036854775808<=x_.2.1/\x_.2.1<=9223372036854775807,λ(x_:Ty84_)=>(modRequest x_.1 x_.2.1,())⟩
def AlP:=Amb.a Bz<|Fct.o (KP [1,2,4] [11]) Amb.2 func154 (by
 rintro⟨(p:Sa_),(k:Int),_⟩ hp;exact hg (.cl Aw (k,(0:Int),wr ((p.bh.length:Int)-(1:Int)),()) λz2=>.br (!z2.1) (.lf Bz (default,())) (.ob (inB k p.bh.length)<|.lf Bz (⟨(5:Int),(p.bh.getD (Int.toNat k) default).to,p.addr.host,(⟨#[]⟩:ByteArray)⟩,()))) (an_ @modRequest.eq_1<|@inRange.eq_1))
def Ane:=AlP.a Bz<|Fct.o (KP [1,2,4] [13]) AlP.2 func123 (by
 rintro⟨(p:Sa_),(k:Int),_⟩ hp;exact hg (.br (decide (k<0)) (.lf Bz (default,())) (.br (decide (k>=(p.bh.length:Int))) (.lf Bz (default,())) (.ob (inB k p.bh.length)<|.lf Bz (⟨(5:Int),(p.bh.getD (Int.toNat k) default).to,p.addr.host,(⟨#[]⟩:ByteArray)⟩,())))) (an_ @modRequest.eq_1<|@inRange.eq_1))
def addrOf (s b:ByteArray):Sb_:=match G8 47 (toL s) with
 | some (p,q)=>⟨ofL p,ofL q⟩
 | none=>⟨b,s⟩
def parseAddr (s b:ByteArray):Sb_×Bool:=if isName (addrOf s b).host&&isName (addrOf s b).path then(addrOf s b,true) else(default,false)
def Yb {s b:ByteArray} {i:Nat} (h:i<s.size) (hb:s.data.getD i 0=47) (hn:47∉(toL s).take i):addrOf s b=⟨s.extract 0 i,s.extract (i+1) s.size⟩:=by
 unfold addrOf;rw[Zn h hb hn];have e1:ofL ((toL s).take i)=s.extract 0 i:=by rw[<-Ct (s.extract 0 i),Be,Qf1]
 have e2:ofL ((toL s).drop (i+1))=s.extract (i+1) s.size:=by rw[<-Ct (s.extract (i+1) s.size),Be,Qb9 (by rw[BD];exact Qa9 _)]
 simp only[e1,e2]
def Xr {s b:ByteArray} {i:Nat} (h:s.size<=i) (hn:47∉(toL s).take i):addrOf s b=⟨b,s⟩:=by
 rw[Qb9 (by rw[BD];exact h)] at hn;unfold addrOf;rw[O9 hn]
def Rr {b:UInt8}:∀ {l p q:List UInt8},G8 b l=some (p,q)->p.length<=l.length/\q.length<=l.length
 | [],p,q,h=>by cases h
 | x::l,p,q,h=>by
  rw[G8] at h;split at h
  ·simp_all
  ·obtain⟨r,hr,he⟩:=Option.map_eq_some_iff.1 h;simp only[Qc8] at he;obtain⟨rfl,rfl⟩:=he;have:=Rr (p:=r.1) (q:=r.2) hr;grind
def LF (s b:ByteArray):(addrOf s b).host.size<=s.size+b.size/\(addrOf s b).path.size<=s.size:=by
 unfold addrOf;cases h:G8 47 (toL s) with
 | none=>exact⟨by simp only;omega,Qa9 _⟩
 | some r=>
  have:=Rr (p:=r.1) (q:=r.2) h;rw[BD] at this;simp only[HT];omega
def Ln (b:ByteArray):parseAddr ⟨#[]⟩ b=(default,false):=by
 unfold parseAddr;have:addrOf ⟨#[]⟩ b=⟨b,⟨#[]⟩⟩:=rfl;rw[this,Qa5];rw[show isName ⟨#[]⟩=false from rfl,Bool.and_false];decide
def W7 (s b:ByteArray):addrOf s b=if(Hi 47 s).2.2 then⟨(Hi 47 s).1,(Hi 47 s).2.1⟩ else⟨b,s⟩:=by
 unfold addrOf Hi;grind
abbrev AO:Fct:=⟨[.v (.el .str),.v (.el .str)],[.el .addr,.el .bool],λ(x_:Ty82_)=>x_.1.size<=4000000000/\x_.2.1.size<=4000000000,λ(x_:Ty82_)=>((parseAddr x_.1 x_.2.1).1,(parseAddr x_.1 x_.2.1).2,())⟩
def Agb:Go.Proofs.Lays.n145 Tryz.prog laysCmp_r:=by repeat' first|kernel_rfl|constructor|intro _
def AjS:=Ane.a AbQ<|AhH λs sep w h hs=>by obtain⟨m,hm⟩:=NV (zero := #[.int .i64 0]) (t:=3) (g:=laysCmp_r.g 1) h (Qg3 k_) k_ rfl k_ k_ Tryz.underlying3;exact Go.Proofs.Any.strings_Cut Agb s sep m w hs hm
def AeA {s:ByteArray} {i:Nat}:((s.data.getD i 0).toNat:Int)=47↔s.data.getD i 0=47:=Ok (b:=47) o_ o_
abbrev Dz (s:ByteArray) (b:ByteArray):LInv:=⟨[⟨.b,6,true,.el .addr⟩,⟨.s,7,true,.el .int⟩,⟨.b,4,true,.el .addr⟩],λ(z_ x_:Ty85_)=>(0<=x_.2.1/\x_.2.1<=s.size/\x_.1=⟨b,s⟩/\47∉(toL s).take x_.2.1.toNat)/\x_.2.2.1=z_.2.2.1,λ(x_:Ty85_)=>s.size-x_.2.1.toNat⟩
def Aku:=AjS.a AO<|Fct.p (KP [0,1,4,5,6,7] [14,20,31]) (λ⟨s,b,_⟩=>lv [(3,Dz s b)]) AjS.2 func355 (by
 rintro⟨(s:ByteArray),(b:ByteArray),_⟩ hp;refine ho (lpx (Dz s b) ((⟨b,s⟩:Sb_),((0:Int),(default,()))) λ(y1:Ty85_) bk1=>.br (decide (y1.2.1<(s.size:Int))) (.ob (0<=y1.2.1/\y1.2.1<(s.size:Int))<|.br ((↑(s.data.getD y1.2.1.toNat 0).toNat:Int)==47) (.ob (0<=y1.2.1/\y1.2.1<=(s.size:Int))<|.ob (0<=w1 y1.2.1/\w1 y1.2.1<=(s.size:Int))<|.cl D4 ((⟨s.extract 0 y1.2.1.toNat,s.extract (w1 y1.2.1).toNat s.size⟩:Sb_),()) λz2=>.br (!z2.1) (.lf AO (default,false,())) (.lf AO (⟨s.extract 0 y1.2.1.toNat,s.extract (w1 y1.2.1).toNat s.size⟩,true,()))) (.re (Value.string s)<|.re (Value.string b)<|.bk (bk1 (y1.1,(w1 y1.2.1,(y1.2.2.1,())))))) (.cl D4 (y1.1,()) λz3=>.br (!z3.1) (.lf AO (default,false,())) (.lf AO (y1.1,true,())))) ?_;refine Au ?_ λ(y1:Ty85_) i1=>Aa (λh2=>Ac ?_ λ_=>Aa (λh4=>Ac ?_ λ_=>Ac ?_ λ_=>Af ?_ λ_=>(Aa (λh8=>lfY ?_) (λh8=>lfY ?_))) (λh4=>An<|An<|A8 ?_)) (λh2=>Af ?_ λ_=>(Aa (λh11=>lfY ?_) (λh11=>lfY ?_)))
 all_goals have hz:=LF s b
 all_goals try (obtain⟨⟨a1,a2,a3,a4⟩,a5⟩:=i1)
 all_goals
  try simp only[std,Nat.reduceAdd,parseAddr,AeA] at *
  try simp(disch:=omega) only[wrapId',toNat1] at *
  try simp(disch:=omega) only[Qa3,Qa5]
 all_goals try (have e:=Yb (b:=b) (show y1.2.1.toNat<s.size from o_) h4 a4;simp only[e] at *)
 all_goals try (have t:=Zf (show y1.2.1.toNat<s.size from o_) h4 a4)
 all_goals try (have e:=Xr (b:=b) (show s.size<=y1.2.1.toNat from o_) a4;simp only[e] at *)
 all_goals first|trivial|omega|grind[ByteArray.size_extract])
def findAttr (l:List St_) (n:ByteArray):Option ByteArray:=(l.find? λa=>decide (a.name=n)).map (·.value)
abbrev Aj:Fct:=⟨[.v (.sl .attr),.v (.el .str)],[.el .str,.el .bool],λ(x_:Ty86_)=>x_.1.length<=1000000000000,λ(x_:Ty86_)=>((findAttr x_.1 x_.2.1).getD ⟨#[]⟩,(findAttr x_.1 x_.2.1).isSome,())⟩
abbrev CA (l:(List St_)) (n:ByteArray):LInv:=⟨[⟨.s,6,true,.el .int⟩],λ_ (x_:Ty3_)=>0<=x_.1/\x_.1<=l.length/\findAttr (l.drop x_.1.toNat) n=findAttr l n,λ(x_:Ty3_)=>l.length-x_.1.toNat⟩
def AlF:=Aku.a Aj<|Fct.p (KP [0,1,4,5,6] [10,19]) (λ⟨l,n,_⟩=>lv [(2,CA l n)]) Aku.2 func340 (by
 rintro⟨(l:List St_),(n:ByteArray),_⟩ hp;exact hg (.lq (Int×PUnit) (CA l n).inv (CA l n).m ((0:Int),()) λy1 bk1=>.br (decide (y1.1<(l.length:Int))) (.ob (inB y1.1 l.length)<|.br ((l.getD y1.1.toNat default).name.toList==n.toList) (.ob (inB y1.1 l.length)<|.lf Aj ((l.getD y1.1.toNat default).value,true,())) (.re (l)<|.re (Value.string n)<|.bk (bk1 (w1 y1.1,())))) (.lf Aj ((⟨#[]⟩:ByteArray),false,()))) (@findAttr.eq_1))
abbrev GA:Fct:=⟨[.v (.el .attr),.p (.el .str)],[.el .bool],λ(x_:St_×ByteArray×Unit)=>True,λ(x_:St_×ByteArray×Unit)=>(decide (x_.1.name=x_.2.1),())⟩
def Alt:=AlF.a GA<|Fct.o [1,2,3] AlF.2 func374 (by
 rintro⟨(a:St_),(n:ByteArray),_⟩ hp;exact hq (.lf GA (a.name.toList==ByteArray.toList n,())))
abbrev Bg:Fct:=⟨[aL .attr,.c 374 [.el .str]],[rI],λx=>x.1.length<=1000000000000000000/\∀ c,GA.pre (c,x.2.1),λx=>(fidx (λc=>(GA.fn (c,x.2.1)).1) x.1 0,())⟩
abbrev AF (l:(List St_)) (u:(ByteArray×Unit)):LInv:=⟨[⟨.s,8,true,.el .int⟩],λ_ (x_:Ty3_)=>0<=x_.1/\x_.1<=l.length/\fidx (λc=>(GA.fn (c,u)).1) l 0=fidx (λc=>(GA.fn (c,u)).1) (l.drop x_.1.toNat) x_.1,λ(x_:Ty3_)=>l.length-x_.1.toNat⟩
def AjN:=Alt.a Bg<|Fct.p (KP [0,1,4,5,7,8] [9,16]) (λ⟨l,u,_⟩=>lv [(2,AF l u)]) Alt.2 func373 (by
 rintro⟨(l:List St_),(u:Ty48_),_⟩ hp;refine ho (lpx (AF l u) ((0:Int),()) λ(y1:Ty3_) bk1=>.br (decide (y1.1<(l.length:Int))) (.ob (inB y1.1 l.length)<|.cl GA (l.getD y1.1.toNat default,u.1,()) λz2=>.br (z2.1) (.lf Bg (y1.1,())) (.re (l)<|.re (enc Ty.str u.1)<|.re (Value.int IntKind.i64 (l.length:Int))<|.bk (bk1 (w1 y1.1,())))) (.lf Bg ((-1:Int),()))) ?_;refine Au ?_ λ(y1:Ty3_) i1=>Aa (λh2=>Ac ?_ λ_=>Af trivial λ_=>(Aa (λh4=>lfY ?_) (λh4=>An<|An<|An<|A8 ?_))) (λh2=>lfY ?_)
 all_goals
  try simp only[std,Nat.reduceAdd] at *
  try have hp2:=hp.2
  try have hp1:=hp.1
 all_goals first|trivial|omega|grind[wrapId',toNat1,drop_cons,drop_end,good_len,maxLen,fidx])
def AlW:=AjN.a Aj<|Fct.o (KP [0,3,4,5,6] [11]) AjN.2 func311 (by
 rintro⟨(l:List St_),(n:ByteArray),_⟩ hp;exact hg (.cl Bg (l,(n,()),()) λ(z2:Ty3_)=>.br (decide (z2.1<0)) (.lf Aj ((⟨#[]⟩:ByteArray),false,())) (.ob (0<=z2.1/\z2.1<(↑(List.length l):Int))<|.lf Aj ((List.getD l z2.1.toNat default).value,true,()))) (an_ @findAttr.eq_1<|an_ (DN (λa:St_=>decide (a.name=n)) l 0 o_)<|(N9 (λa:St_=>decide (a.name=n)) l 0 o_)))
def Amg:=AlW.a AO<|Fct.o (KP [0,1,4,5,6,7,8,9] [19,25]) AlW.2 func327 (by
 rintro⟨(s:ByteArray),(b:ByteArray),_⟩ hp;refine ho (.cl AbQ (s,(⟨#[47]⟩:ByteArray),()) λz2=>.br (z2.2.2.1) (.cl D4 ((⟨z2.1,z2.2.1⟩:Sb_),()) λz3=>.br (!z3.1) (.lf AO (default,false,())) (.lf AO (⟨z2.1,z2.2.1⟩,true,()))) (.cl D4 ((⟨b,s⟩:Sb_),()) λz4=>.br (!z4.1) (.lf AO (default,false,())) (.lf AO (⟨b,s⟩,true,())))) ?_;repeat' (guard_target =~ Out.holds _ _;first|refine lfY ?_|refine Aa (λ_=>?_) λ_=>?_|refine Af ?_ λ_=>?_)
 all_goals
  have hz:=LF s b;have hc:=W7 s b;try simp only[AbQ,std,Nat.reduceAdd,parseAddr] at *
  try simp only[show(ByteArray.mk #[47]).data.getD 0 0=47 from rfl,show(ByteArray.mk #[47]).size=1 from rfl] at *
 all_goals first|trivial|omega|grind)
def scanKind (t:Si_):Int:=if t.kind≠1 then 0 else if t.name=⟨#[115,99,114,105,112,116]⟩ then(if(findAttr t.bo ⟨#[107,105,110,100]⟩).getD ⟨#[]⟩=⟨#[109,111,100,117,108,101]⟩ then 5 else 2) else if t.name=⟨#[108,105,110,107]⟩ then 3 else if t.name=⟨#[105,109,103]⟩ then 4 else 0
def scanTo (t:Si_):ByteArray:=if t.name=⟨#[108,105,110,107]⟩ then(findAttr t.bo ⟨#[104,114,101,102]⟩).getD ⟨#[]⟩ else(findAttr t.bo ⟨#[115,114,99]⟩).getD ⟨#[]⟩
def scanToken (t:Si_) (b:ByteArray):Sg_×Bool:=if scanKind t≠0/\(parseAddr (scanTo t) b).2=true then(⟨scanKind t,(parseAddr (scanTo t) b).1,b,if scanKind t=5 then⟨#[]⟩ else(findAttr t.bo ⟨#[100,105,103,101,115,116]⟩).getD ⟨#[]⟩⟩,true) else(default,false)
def AZ (l:List St_) (n:ByteArray):((findAttr l n).getD ⟨#[]⟩).size<=szL B9 l:=by
 unfold findAttr;cases h:l.find? λa=>decide (a.name=n) with
 | none=>exact Nat.zero_le _
 | some a=>
  obtain⟨i,hi,he⟩:=List.mem_iff_getElem.1 (List.mem_of_find?_eq_some h);have:=C6 B9 (l:=l) (i:=i) hi;rw[Qb0,Qa4 hi,he] at this;simp only[Qb7,Option.getD_some,B9] at *;omega
def OK {l:List St_} {n:ByteArray} (h:(findAttr l n).isSome=false):(findAttr l n).getD ⟨#[]⟩=⟨#[]⟩:=by
 simp_all
abbrev AU:Fct:=⟨[.v (.el .token),.v (.el .str)],[.el .request,.el .bool],λ(x_:Ty87_)=>szToken x_.1<=100000000/\x_.2.1.size<=100000000,λ(x_:Ty87_)=>((scanToken x_.1 x_.2.1).1,(scanToken x_.1 x_.2.1).2,())⟩
def AjH:=Amg.a AU<|Fct.o (KP [1,2,4,5,6,7,8,10,12,13] [17,22,34,36,41,60,66]) Amg.2 func268 (by
 rintro⟨(t:Si_),(b:ByteArray),_⟩ hp;refine ho (let q3_:=(⟨#[]⟩:ByteArray);let q2_:=(⟨#[115,114,99]⟩:ByteArray);let q1_:=(⟨#[100,105,103,101,115,116]⟩:ByteArray);let q0_:Out:=.lf AU (default,false,());.br (t.kind != 1) q0_ (.br (t.name.toList==(⟨#[115,99,114,105,112,116]⟩:ByteArray).toList) (.cl Aj (t.bo,(⟨#[107,105,110,100]⟩:ByteArray),()) λz2=>.br (z2.1.toList==(⟨#[109,111,100,117,108,101]⟩:ByteArray).toList) (.cl Aj (t.bo,q2_,()) λz3=>.cl AO (z3.1,b,()) λz4=>.br (!z4.2.1) q0_ (.br ((5:Int) != (5:Int)) (.cl Aj (t.bo,q1_,()) λz5=>.lf AU (⟨(5:Int),z4.1,b,z5.1⟩,true,())) (.lf AU (⟨(5:Int),z4.1,b,q3_⟩,true,())))) (.cl Aj (t.bo,q2_,()) λz6=>.cl AO (z6.1,b,()) λz7=>.br (!z7.2.1) q0_ (.br ((2:Int) != (5:Int)) (.cl Aj (t.bo,q1_,()) λz8=>.lf AU (⟨(2:Int),z7.1,b,z8.1⟩,true,())) (.lf AU (⟨(2:Int),z7.1,b,q3_⟩,true,()))))) (.br (t.name.toList==(⟨#[108,105,110,107]⟩:ByteArray).toList) (.cl Aj (t.bo,(⟨#[104,114,101,102]⟩:ByteArray),()) λz9=>.cl AO (z9.1,b,()) λz10=>.br (!z10.2.1) q0_ (.br ((3:Int) != (5:Int)) (.cl Aj (t.bo,q1_,()) λz11=>.lf AU (⟨(3:Int),z10.1,b,z11.1⟩,true,())) (.lf AU (⟨(3:Int),z10.1,b,q3_⟩,true,())))) (.br (t.name.toList==(⟨#[105,109,103]⟩:ByteArray).toList) (.cl Aj (t.bo,q2_,()) λz12=>.cl AO (z12.1,b,()) λz13=>.br (!z13.2.1) q0_ (.br ((4:Int) != (5:Int)) (.cl Aj (t.bo,q1_,()) λz14=>.lf AU (⟨(4:Int),z13.1,b,z14.1⟩,true,())) (.lf AU (⟨(4:Int),z13.1,b,q3_⟩,true,())))) q0_)))) ?_;refine Aa (λh1=>lfY ?_) (λh1=>Aa (λh2=>Ei ?_ λo3 z2 ez2=>(Aa (λh4=>Ei ?_ λo5 z3 ez3=>(Ei ?_ λo6 z4 ez4=>(Aa (λh7=>lfY ?_) (λh7=>Aa (λh8=>Ei ?_ λo9 z5 ez5=>(lfY ?_)) (λh8=>lfY ?_))))) (λh4=>Ei ?_ λo10 z6 ez6=>(Ei ?_ λo11 z7 ez7=>(Aa (λh12=>lfY ?_) (λh12=>Aa (λh13=>Ei ?_ λo14 z8 ez8=>(lfY ?_)) (λh13=>lfY ?_))))))) (λh2=>Aa (λh15=>Ei ?_ λo16 z9 ez9=>(Ei ?_ λo17 z10 ez10=>(Aa (λh18=>lfY ?_) (λh18=>Aa (λh19=>Ei ?_ λo20 z11 ez11=>(lfY ?_)) (λh19=>lfY ?_))))) (λh15=>Aa (λh21=>Ei ?_ λo22 z12 ez12=>(Ei ?_ λo23 z13 ez13=>(Aa (λh24=>lfY ?_) (λh24=>Aa (λh25=>Ei ?_ λo26 z14 ez14=>(lfY ?_)) (λh25=>lfY ?_))))) (λh21=>lfY ?_))));all_goals subst_vars
 all_goals
  have hl:=Ab B9 t.bo;have hs:=AZ t.bo;have hn:=λn=>OK (l:=t.bo) (n:=n)
  have hp0:=Ln b;try simp only[std,Nat.reduceAdd,scanToken,scanKind,scanTo,szToken] at *
  try simp(disch:=omega) only[wrapId',toNat1] at *
  try simp(disch:=omega) only[Qa3,Qa5]
 all_goals first|trivial|omega|grind[wrapId',toNat1,drop_cons,drop_end,good_len,maxLen,scanToken,scanKind,scanTo,szToken])
def AmL:=AjH.a AU<|Fct.o (KP [1,2,4,5,6,7,8,10,11,12,13,14] [15,20,31,32,36,62,69]) AjH.2 func233 (by
 rintro⟨(t:Si_),(b:ByteArray),_⟩ hp;refine ho (let q3_:=(⟨#[]⟩:ByteArray);let q2_:=(⟨#[115,114,99]⟩:ByteArray);let q1_:=(⟨#[100,105,103,101,115,116]⟩:ByteArray);let q0_:Out:=.lf AU (default,false,());.br (t.kind != 1) q0_ (.br (t.name.toList==(⟨#[115,99,114,105,112,116]⟩:ByteArray).toList) (.cl Aj (t.bo,(⟨#[107,105,110,100]⟩:ByteArray),()) λz2=>.br (z2.1.toList==(⟨#[109,111,100,117,108,101]⟩:ByteArray).toList) (.cl Aj (t.bo,q2_,()) λz3=>.cl AO (z3.1,b,()) λz4=>.br ((5:Int)==(0:Int)) q0_ (.br (!z3.2.1) q0_ (.br (!z4.2.1) q0_ (.br ((5:Int) != (5:Int)) (.cl Aj (t.bo,q1_,()) λz5=>.lf AU (⟨(5:Int),z4.1,b,z5.1⟩,true,())) (.lf AU (⟨(5:Int),z4.1,b,q3_⟩,true,())))))) (.cl Aj (t.bo,q2_,()) λz6=>.cl AO (z6.1,b,()) λz7=>.br ((2:Int)==(0:Int)) q0_ (.br (!z6.2.1) q0_ (.br (!z7.2.1) q0_ (.br ((2:Int) != (5:Int)) (.cl Aj (t.bo,q1_,()) λz8=>.lf AU (⟨(2:Int),z7.1,b,z8.1⟩,true,())) (.lf AU (⟨(2:Int),z7.1,b,q3_⟩,true,()))))))) (.br (t.name.toList==(⟨#[108,105,110,107]⟩:ByteArray).toList) (.cl Aj (t.bo,(⟨#[104,114,101,102]⟩:ByteArray),()) λz9=>.cl AO (z9.1,b,()) λz10=>.br ((3:Int)==(0:Int)) q0_ (.br (!z9.2.1) q0_ (.br (!z10.2.1) q0_ (.br ((3:Int) != (5:Int)) (.cl Aj (t.bo,q1_,()) λz11=>.lf AU (⟨(3:Int),z10.1,b,z11.1⟩,true,())) (.lf AU (⟨(3:Int),z10.1,b,q3_⟩,true,())))))) (.br (t.name.toList==(⟨#[105,109,103]⟩:ByteArray).toList) (.cl Aj (t.bo,q2_,()) λz12=>.cl AO (z12.1,b,()) λz13=>.br ((4:Int)==(0:Int)) q0_ (.br (!z12.2.1) q0_ (.br (!z13.2.1) q0_ (.br ((4:Int) != (5:Int)) (.cl Aj (t.bo,q1_,()) λz14=>.lf AU (⟨(4:Int),z13.1,b,z14.1⟩,true,())) (.lf AU (⟨(4:Int),z13.1,b,q3_⟩,true,())))))) (.cl Aj (t.bo,q2_,()) λz15=>.cl AO (z15.1,b,()) λz16=>.br ((0:Int)==(0:Int)) q0_ (.br (!z15.2.1) q0_ (.br (!z16.2.1) q0_ (.br ((0:Int) != (5:Int)) (.cl Aj (t.bo,q1_,()) λz17=>.lf AU (⟨(0:Int),z16.1,b,z17.1⟩,true,())) (.lf AU (⟨(0:Int),z16.1,b,q3_⟩,true,())))))))))) ?_;refine Aa (λh1=>lfY ?_) (λh1=>Aa (λh2=>Ei ?_ λo3 z2 ez2=>(Aa (λh4=>Ei ?_ λo5 z3 ez3=>(Ei ?_ λo6 z4 ez4=>(Aa (λh7=>lfY ?_) (λh7=>Aa (λh8=>lfY ?_) (λh8=>Aa (λh9=>lfY ?_) (λh9=>Aa (λh10=>Ei ?_ λo11 z5 ez5=>(lfY ?_)) (λh10=>lfY ?_))))))) (λh4=>Ei ?_ λo12 z6 ez6=>(Ei ?_ λo13 z7 ez7=>(Aa (λh14=>lfY ?_) (λh14=>Aa (λh15=>lfY ?_) (λh15=>Aa (λh16=>lfY ?_) (λh16=>Aa (λh17=>Ei ?_ λo18 z8 ez8=>(lfY ?_)) (λh17=>lfY ?_))))))))) (λh2=>Aa (λh19=>Ei ?_ λo20 z9 ez9=>(Ei ?_ λo21 z10 ez10=>(Aa (λh22=>lfY ?_) (λh22=>Aa (λh23=>lfY ?_) (λh23=>Aa (λh24=>lfY ?_) (λh24=>Aa (λh25=>Ei ?_ λo26 z11 ez11=>(lfY ?_)) (λh25=>lfY ?_))))))) (λh19=>Aa (λh27=>Ei ?_ λo28 z12 ez12=>(Ei ?_ λo29 z13 ez13=>(Aa (λh30=>lfY ?_) (λh30=>Aa (λh31=>lfY ?_) (λh31=>Aa (λh32=>lfY ?_) (λh32=>Aa (λh33=>Ei ?_ λo34 z14 ez14=>(lfY ?_)) (λh33=>lfY ?_))))))) (λh27=>Ei ?_ λo35 z15 ez15=>(Ei ?_ λo36 z16 ez16=>(Aa (λh37=>lfY ?_) (λh37=>Aa (λh38=>lfY ?_) (λh38=>Aa (λh39=>lfY ?_) (λh39=>Aa (λh40=>Ei ?_ λo41 z17 ez17=>(lfY ?_)) (λh40=>lfY ?_))))))))));all_goals subst_vars
 all_goals
  have hl:=Ab B9 t.bo;have hs:=AZ t.bo;have hn:=λn=>OK (l:=t.bo) (n:=n)
  have hp0:=Ln b;try simp only[std,Nat.reduceAdd,scanToken,scanKind,scanTo,szToken] at *
  try simp(disch:=omega) only[wrapId',toNat1] at *
  try simp(disch:=omega) only[Qa3,Qa5]
 all_goals first|trivial|omega|grind[wrapId',toNat1,drop_cons,drop_end,good_len,maxLen,scanToken,scanKind,scanTo,szToken])
def scanTokens (b:ByteArray):List Si_->List Sg_
 | []=>[]
 | t::l=>if(scanToken t b).2 then(scanToken t b).1::scanTokens b l else scanTokens b l
def Li {b:ByteArray} {l:List Si_} {i:Nat} (h:i<l.length):scanTokens b (l.drop i)=if(scanToken (l.getD i default) b).2 then(scanToken (l.getD i default) b).1::scanTokens b (l.drop (i+1)) else scanTokens b (l.drop (i+1)):=by rw[drop_cons h];rfl
def Kr {b:ByteArray} {l:List Si_} {i:Nat} (h:l.length<=i):scanTokens b (l.drop i)=[]:=by rw[Qb2 h];rfl
def GH (b:ByteArray):∀ l:List Si_,(scanTokens b l).length<=l.length
 | []=>Qa9 _
 | t::l=>by have:=GH b l;simp only[scanTokens];split<;>simp only[Qa7]<;>omega
abbrev Gx:Fct:=⟨[.v (.sl .token),.v (.el .str)],[.sl .request],λ(x_:Ty88_)=>szL szToken x_.1<=1000000000000/\(∀ t,t∈x_.1->szToken t<=10000000)/\x_.2.1.size<=10000000,λ(x_:Ty88_)=>(scanTokens x_.2.1 x_.1,())⟩
abbrev B0 (l:(List Si_)) (b:ByteArray):LInv:=⟨[⟨.s,5,true,.sl .request⟩,⟨.s,6,true,.el .int⟩],λ_ (x_:Ty11_)=>0<=x_.2.1/\x_.2.1<=l.length/\x_.1.length<=x_.2.1/\x_.1++scanTokens b (l.drop x_.2.1.toNat)=scanTokens b l,λ(x_:Ty11_)=>l.length-x_.2.1.toNat⟩
def AiW:=AmL.a Gx<|Fct.p (KP [0,1,4,5,6,7,8] [13,25]) (λ⟨l,b,_⟩=>lv [(3,B0 l b)]) AmL.2 func164 (by
 rintro⟨(l:List Si_),(b:ByteArray),_⟩ hp;exact hg (.lq (List Sg_×Int×PUnit) (B0 l b).inv (B0 l b).m ([],((0:Int),())) λy1 bk1=>.br (decide (y1.2.1<(l.length:Int))) (.ob (inB y1.2.1 l.length)<|.cl AU (l.getD y1.2.1.toNat default,b,()) λz2=>.br (z2.2.1) (.ap (y1.1.length+[z2.1].length) 72<|.re (l)<|.re (Value.string b)<|.bk (bk1 (y1.1++[z2.1],(w1 y1.2.1,())))) (.re (l)<|.re (Value.string b)<|.bk (bk1 (y1.1,(w1 y1.2.1,()))))) (.lf Gx (y1.1,()))) (an_ @Li<|an_ @Kr<|an_ @Qb5.{0}<|an_ @List.singleton_append.{0}<|an_ @Qa1.{0}<|an_ @Qd5.{0}<|an_ (Ab szToken l)<|(λi h=>hp.2.1 _ (AN h):∀ i,i<l.length->szToken (l.getD i default)<=10000000)))
abbrev BZ (l:(List Si_)) (b:ByteArray):LInv:=⟨[⟨.s,5,true,.sl .request⟩,⟨.s,13,true,.el .int⟩],λ_ (x_:Ty11_)=>0<=x_.2.1/\x_.2.1<=l.length/\x_.1.length<=x_.2.1/\x_.1++scanTokens b (l.drop x_.2.1.toNat)=scanTokens b l,λ(x_:Ty11_)=>l.length-x_.2.1.toNat⟩
def Am4:=AiW.a Gx<|Fct.p (KP [0,1,4,5,7,8,9,11,12,13] [14,23]) (λ⟨l,b,_⟩=>lv [(3,BZ l b)]) AiW.2 func133 (by
 rintro⟨(l:List Si_),(b:ByteArray),_⟩ hp;exact hg (.lq (List Sg_×Int×PUnit) (BZ l b).inv (BZ l b).m ([],((0:Int),())) λy1 bk1=>.br (decide (y1.2.1<(l.length:Int))) (.ob (inB y1.2.1 l.length)<|.cl AU (l.getD y1.2.1.toNat default,b,()) λz2=>.br (z2.2.1) (.ap (y1.1.length+[z2.1].length) 72<|.re (l)<|.re (Value.string b)<|.re (l)<|.re (Value.int IntKind.i64 (l.length:Int))<|.bk (bk1 (y1.1++[z2.1],(w1 y1.2.1,())))) (.re (l)<|.re (Value.string b)<|.re (l)<|.re (Value.int IntKind.i64 (l.length:Int))<|.bk (bk1 (y1.1,(w1 y1.2.1,()))))) (.lf Gx (y1.1,()))) (an_ @Li<|an_ @Kr<|an_ @Qb5.{0}<|an_ @List.singleton_append.{0}<|an_ @Qa1.{0}<|an_ @Qd5.{0}<|an_ (Ab szToken l)<|(λi h=>hp.2.1 _ (AN h):∀ i,i<l.length->szToken (l.getD i default)<=10000000)))
def canGuess (r:Sg_):Bool:=isRequest r&&(decide (r.kind≠1)&&decide (r.to.host=r.from_))
abbrev EU:Fct:=⟨[.v (.el .request)],[.el .bool],λ(x_:Ty51_)=>BJ x_.1<=1099511627776,λ(x_:Ty51_)=>(canGuess x_.1,())⟩
def Am3:=Am4.a EU<|Fct.o [1,2] Am4.2 func165 (by
 rintro⟨(r:Sg_),_⟩ hp;exact hg (.cl CI (r,()) λz2=>.br (z2.1) (.br (r.kind != 1) (.lf EU (r.to.host.toList==r.from_.toList,())) (.lf EU (false,()))) (.lf EU (false,()))) (@canGuess.eq_1))
def Ama:=Am3.a EU<|Fct.o [1,2] Am3.2 func134 (by
 rintro⟨(r:Sg_),_⟩ hp;exact hg (.cl CI (r,()) λz2=>.br (z2.1) (.br (r.kind != 1) (.lf EU (r.to.host.toList==r.from_.toList,())) (.lf EU (false,()))) (.lf EU (false,()))) (@canGuess.eq_1))
def guessOk (p:Sa_) (out:List Sb_) (r:Sg_):Bool:=canGuess r&&(decide (checkRequest p.bj r=1)&&(!isAsked p r.to && !out.any λc=>decide (c=r.to)))
def guessL (p:Sa_):List Sg_->List Sb_->List Sb_
 | [],out=>out
 | r::l,out=>if guessOk p out r then guessL p l (out++[r.to]) else guessL p l out
def SK {p:Sa_} {l:List Sg_} {i:Nat} {out:List Sb_} (h:i<l.length):guessL p (l.drop i) out=if guessOk p out (l.getD i default) then guessL p (l.drop (i+1)) (out++[(l.getD i default).to]) else guessL p (l.drop (i+1)) out:=by rw[drop_cons h];rfl
def PK {p:Sa_} {l:List Sg_} {i:Nat} {out:List Sb_} (h:l.length<=i):guessL p (l.drop i) out=out:=by rw[Qb2 h];rfl
def guessesOf (p:Sa_):List Sb_:=guessL p (scanTokens p.addr.host p.bn) []
def MJ {p:Sa_}:∀ {l:List Sg_} {out:List Sb_},(∀ a∈out,isName a.host=true/\isName a.path=true)->∀ a∈guessL p l out,isName a.host=true/\isName a.path=true
 | [],out,h=>h
 | r::l,out,h=>by
  rw[guessL];split
  ·rename_i hg;refine MJ λa ha=>?_
   rcases Qb8.1 ha with ha|ha
   ·exact h a ha
   ·simp only[List.mem_singleton] at ha;subst ha;simp only[guessOk,canGuess,isRequest,Qa2] at hg;simp_all
  ·exact MJ h
def YA (t:Si_):(scanTo t).size<=szToken t:=by
 unfold scanTo;have h1:=AZ t.bo ⟨#[104,114,101,102]⟩;have h2:=AZ t.bo ⟨#[115,114,99]⟩;have h3:szL B9 t.bo<=szToken t:=by simp only[szToken];omega
 split<;>omega
def S1 (t:Si_) (b:ByteArray):BJ (scanToken t b).1<=3*szToken t+2*b.size:=by
 unfold scanToken;split
 ·have h1:=LF (scanTo t) b;have h2:=YA t;have h3:=AZ t.bo ⟨#[100,105,103,101,115,116]⟩;have h4:szL B9 t.bo<=szToken t:=by simp only[szToken];omega
  have h5:szAddr (parseAddr (scanTo t) b).1<=2*szToken t+b.size:=by
   unfold parseAddr;split
   ·simp only[szAddr];omega
   ·exact Nat.zero_le _
  have h6:ByteArray.size ⟨#[]⟩=0:=rfl;simp only[BJ];split<;>omega
 ·exact Nat.zero_le _
def Ig (b:ByteArray) {B:Nat}:∀ {l:List Si_},(∀ t,t∈l->szToken t<=B)->∀ r∈scanTokens b l,BJ r<=3*B+2*b.size
 | [],_,r,hr=>by cases hr
 | t::l,h,r,hr=>by
  have ih:=Ig b (l:=l) λx hx=>h x (Qc3 _ hx)
  have h1:=S1 t b;have h2:=h t Qd3;simp only[scanTokens] at hr;grind
abbrev Hp:Fct:=⟨[.v (.el .page)],[.sl .addr],λ(x_:Ty13_)=>Ag x_.1<=1000000000000/\(∀ t,t∈x_.1.bn->szToken t<=10000000)/\x_.1.addr.host.size<=10000000,λ(x_:Ty13_)=>(guessesOf x_.1,())⟩
abbrev DH (p:Sa_):LInv:=⟨[⟨.s,3,true,.sl .addr⟩,⟨.s,5,true,.el .int⟩,⟨.b,1,false,.el .page⟩,⟨.s,4,true,.sl .request⟩],λ(z_ x_:Ty89_)=>((0<=x_.2.1/\x_.2.1<=(scanTokens p.addr.host p.bn).length/\x_.1.length<=x_.2.1/\guessL p ((scanTokens p.addr.host p.bn).drop x_.2.1.toNat) x_.1=guessesOf p)/\x_.2.2.1=z_.2.2.1)/\x_.2.2.2.1=z_.2.2.2.1,λ(x_:Ty89_)=>(scanTokens p.addr.host p.bn).length-x_.2.1.toNat⟩
def Aj0:=Ama.a Hp<|Fct.p (KP [1,2,3,4,5,6] [17,51]) (λ⟨p,_⟩=>lv [(4,DH p)]) Ama.2 func75 (by
 rintro⟨(p:Sa_),_⟩ hp;exact hg (let q2_:=DH p;.cl Gx (p.bn,p.addr.host,()) λz2=>.lq (List Sb_×Int×Sa_×List Sg_×PUnit) q2_.inv q2_.m ([],((0:Int),(p,(z2.1,())))) λy2 bk2=>let q1_:=y2.2.2.2.1.getD y2.2.1.toNat default;let q0_:Out:=.bk (bk2 (y2.1,(w1 y2.2.1,(y2.2.2.1,(y2.2.2.2.1,())))));.br (decide (y2.2.1<(y2.2.2.2.1.length:Int))) (.ix y2.2.1 y2.2.2.2.1.length<|.ix y2.2.1 y2.2.2.2.1.length<|.cl EU (y2.2.2.2.1.getD y2.2.1.toNat default,()) λz3=>.br (z3.1) (.ix y2.2.1 y2.2.2.2.1.length<|.cl AE (y2.2.2.1.bj,y2.2.2.2.1.getD y2.2.1.toNat default,()) λ(z4:Ty3_)=>.br (z4.1==1) (.cl HW (y2.2.2.1,q1_.to,()) λz5=>.br (!z5.1) (.cl Fg (y2.1,q1_.to,()) λz6=>.br (!z6.1) (.ap (y2.1.length+[q1_.to].length) 32<|.bk (bk2 (y2.1++[q1_.to],(w1 y2.2.1,(y2.2.2.1,(y2.2.2.2.1,())))))) q0_) q0_) q0_) q0_) (.lf Hp (y2.1,()))) (an_ @SK<|an_ @PK<|an_ @guessOk.eq_1<|an_ @guessesOf.eq_1<|an_ @Qa1.{0}<|an_ @Qd5.{0}<|an_ (by simp only[Ag,szAddr];omega:szL szToken p.bn<=Ag p/\szL AV p.bf<=Ag p/\szL AJ p.bh<=Ag p/\p.addr.host.size<=Ag p/\AM p.bj<=Ag p)<|an_ (Ab szToken p.bn)<|an_ (Ab AV p.bf)<|an_ (Ab AJ p.bh)<|an_ (GH p.addr.host p.bn)<|(λi h=>by have hq:∀ t,t∈p.bn->szToken t<=10000000:=hp.2.1;have:=Ig p.addr.host hq _ (AN (i:=i) h);have hp2:p.addr.host.size<=10000000:=hp.2.2;omega:∀ i,i<(scanTokens p.addr.host p.bn).length->BJ ((scanTokens p.addr.host p.bn).getD i default)<=100000000)))
abbrev Dw (p:Sa_):LInv:=⟨[⟨.s,3,true,.sl .addr⟩,⟨.s,14,true,.el .int⟩,⟨.b,1,false,.el .page⟩,⟨.s,12,true,.sl .request⟩],λ(z_ x_:Ty89_)=>((0<=x_.2.1/\x_.2.1<=(scanTokens p.addr.host p.bn).length/\x_.1.length<=x_.2.1/\guessL p ((scanTokens p.addr.host p.bn).drop x_.2.1.toNat) x_.1=guessesOf p)/\x_.2.2.1=z_.2.2.1)/\x_.2.2.2.1=z_.2.2.2.1,λ(x_:Ty89_)=>(scanTokens p.addr.host p.bn).length-x_.2.1.toNat⟩
def Amw:=Aj0.a Hp<|Fct.p (KP [1,2,3,5,12,13,14] [15,40]) (λ⟨p,_⟩=>lv [(3,Dw p)]) Aj0.2 func50 (by
 rintro⟨(p:Sa_),_⟩ hp;exact hg (let q3_:=Dw p;.cl Gx (p.bn,p.addr.host,()) λz2=>let q4_:=(z2.1.length:Int);let q2_:=Value.int IntKind.i64 q4_;.lq (List Sb_×Int×Sa_×List Sg_×PUnit) q3_.inv q3_.m ([],((0:Int),(p,(z2.1,())))) λy2 bk2=>let q1_:=y2.2.2.2.1.getD y2.2.1.toNat default;let q0_:Out:=.re q2_<|.bk (bk2 (y2.1,(w1 y2.2.1,(y2.2.2.1,(y2.2.2.2.1,())))));.br (decide (y2.2.1<q4_)) (.ix y2.2.1 y2.2.2.2.1.length<|.cl EU (y2.2.2.2.1.getD y2.2.1.toNat default,()) λz3=>.br (z3.1) (.cl AE (y2.2.2.1.bj,y2.2.2.2.1.getD y2.2.1.toNat default,()) λ(z4:Ty3_)=>.br (z4.1==1) (.cl HW (y2.2.2.1,q1_.to,()) λz5=>.br (!z5.1) (.cl Fg (y2.1,q1_.to,()) λz6=>.br (!z6.1) (.ap (y2.1.length+[q1_.to].length) 32<|.re q2_<|.bk (bk2 (y2.1++[q1_.to],(w1 y2.2.1,(y2.2.2.1,(y2.2.2.2.1,())))))) q0_) q0_) q0_) q0_) (.lf Hp (y2.1,()))) (an_ @SK<|an_ @PK<|an_ @guessOk.eq_1<|an_ @guessesOf.eq_1<|an_ @Qa1.{0}<|an_ @Qd5.{0}<|an_ (by simp only[Ag,szAddr];omega:szL szToken p.bn<=Ag p/\szL AV p.bf<=Ag p/\szL AJ p.bh<=Ag p/\p.addr.host.size<=Ag p/\AM p.bj<=Ag p)<|an_ (Ab szToken p.bn)<|an_ (Ab AV p.bf)<|an_ (Ab AJ p.bh)<|an_ (GH p.addr.host p.bn)<|(λi h=>by have hq:∀ t,t∈p.bn->szToken t<=10000000:=hp.2.1;have:=Ig p.addr.host hq _ (AN (i:=i) h);have hp2:p.addr.host.size<=10000000:=hp.2.2;omega:∀ i,i<(scanTokens p.addr.host p.bn).length->BJ ((scanTokens p.addr.host p.bn).getD i default)<=100000000)))
abbrev Cf:Fct:=⟨[.v (.el .loader)],[.el .loader],λ(x_:Ty90_)=>szNet x_.1.net<=68719476736/\Ag x_.1.page<=1099511627776/\x_.1.parts.length<=1000000000/\x_.1.conns.length<=1048576/\x_.1.guesses.length<=4194304,λ(x_:Ty90_)=>(x_.1,())⟩
def AiN:=Amw.a Cf<|Fct.o [1,2] Amw.2 func60 (by
 rintro⟨(l:Sd_),_⟩ hp;exact hq (.cl GN (l.net,()) λz2=>.cl AC (l.page,()) λz3=>.ap l.parts.length 16<|.ap l.conns.length 112<|.ap l.guesses.length 104<|.lf Cf (⟨z2.1,z3.1,l.parts,l.conns,l.guesses⟩,())))
def AjK:=AiN.a Cf<|Fct.o [1,2] AiN.2 func37 (by
 rintro⟨(l:Sd_),_⟩ hp;exact hq (.cl GN (l.net,()) λz2=>.cl AC (l.page,()) λz3=>.ap l.parts.length 16<|.cl Hq (l.conns,()) λz4=>.cl GP (l.guesses,()) λz5=>.lf Cf (⟨z2.1,z3.1,l.parts,z4.1,z5.1⟩,())))
def nextGuess (l:Sd_):List Sb_->Sd_×Bool
 | []=>(l,false)
 | a::r=>if 0<=findGuess l.guesses a\/0<=findConn a l.conns 0 then nextGuess l r else(⟨(fetchNow l.net l.page.addr.host a true).1,l.page,l.parts,(openConn l.conns a (fetchNow l.net l.page.addr.host a true).2 true).1,l.guesses⟩,true)
theorem nextGuess_at {l:Sd_} {m:List Sb_} {i:Nat} (h:i<m.length):nextGuess l (m.drop i)=if 0<=findGuess l.guesses (m.getD i default)\/0<=findConn (m.getD i default) l.conns 0 then nextGuess l (m.drop (i+1)) else(⟨(fetchNow l.net l.page.addr.host (m.getD i default) true).1,l.page,l.parts,(openConn l.conns (m.getD i default) (fetchNow l.net l.page.addr.host (m.getD i default) true).2 true).1,l.guesses⟩,true):=by rw[drop_cons h];rfl
theorem nextGuess_end {l:Sd_} {m:List Sb_} {i:Nat} (h:m.length<=i):nextGuess l (m.drop i)=(l,false):=by rw[Qb2 h];rfl
def guessNext (l:Sd_):Sd_×Bool:=if 3<=l.conns.length\/6<=(CF (λg:Sm_=>!g.used) l.guesses:Int)+(countGuess l.conns:Int) then(l,false) else nextGuess l (guessesOf l.page)
def H4 {p:Sa_} {i:Nat} (h:i<(guessesOf p).length):szAddr ((guessesOf p).getD i default)<=16:=by
 have:=MJ (p:=p) (l:=scanTokens p.addr.host p.bn) (out:=[]) (by simp) _ (AN (i:=i) h);have h1:=BL this.1;have h2:=BL this.2;simp only[szAddr];simp only[guessesOf];omega
def Ma {p:Sa_}:∀ {l:List Sg_} {out:List Sb_},(guessL p l out).length<=out.length+l.length
 | [],out=>Qa9 _
 | r::l,out=>by
  rw[guessL];split
  ·have:=Ma (p:=p) (l:=l) (out:=out++[r.to]);simp only[Qa1,Qa7,Qb1] at *;omega
  ·have:=Ma (p:=p) (l:=l) (out:=out);simp only[Qa7];omega
def Ly (p:Sa_):(guessesOf p).length<=Ag p:=by
 have h1:=Ma (p:=p) (l:=scanTokens p.addr.host p.bn) (out:=[]);have h2:=GH p.addr.host p.bn;have h3:=Ab szToken p.bn;simp only[guessesOf,Ag,Qb1] at *;omega
def okNt (n:Ss_):Prop:=szNet n<=8000000000/\szCache n.cache<=80000000/\szL Ai n.servers<=1048576/\∀ e,e∈n.cache.bg->Ad e.bd<=1048576
def X2 {c:Sn_} {t:ByteArray} {a:Sb_} {n:Int} {x:Sc_} (h:lookUp c t a n=some x) (B:Nat) (hc:∀ e,e∈c.bg->Ad e.bd<=B):Ad x<=B:=by
 unfold lookUp at h;obtain⟨e,he,rfl⟩:=Option.map_eq_some_iff.1 h;grind
def Fw {n:Ss_} {t:ByteArray} {a:Sb_} {g:Bool} (h:okNt n):Ad (fetchNow n t a g).2<=1048576:=by
 obtain⟨h1,h2,h3,h4⟩:=h;unfold fetchNow;split
 ·exact(show Ad notFound<=1048576 by decide)
 ·split
  ·cases hq:lookUp n.cache t a n.now with
   | none=>exact(show Ad notFound<=1048576 by decide)
   | some x=>exact X2 hq _ h4
  ·exact Qd1 (LL _ _) h3
def okGN (l:Sd_):Prop:=okNt l.net/\(Ag l.page<=1000000000000/\(∀ t,t∈l.page.bn->szToken t<=10000000)/\l.page.addr.host.size<=10000000)/\l.parts.length<=1000000000/\l.conns.length<=1048576/\l.guesses.length<=4194304
abbrev CJ:Fct:=⟨[.v (.el .loader)],[.el .loader,.el .bool],λ(x_:Ty90_)=>okGN x_.1,λ(x_:Ty90_)=>((guessNext x_.1).1,(guessNext x_.1).2,())⟩
abbrev Ck (l:Sd_):LInv:=⟨[⟨.s,6,true,.el .int⟩,⟨.b,1,false,.el .loader⟩,⟨.b,2,true,.el .loader⟩,⟨.b,4,true,.el .loader⟩,⟨.s,5,true,.sl .addr⟩],λ(z_ x_:Ty91_)=>((((0<=x_.1/\x_.1<=(guessesOf l.page).length/\nextGuess l ((guessesOf l.page).drop x_.1.toNat)=nextGuess l (guessesOf l.page))/\x_.2.1=z_.2.1)/\x_.2.2.1=z_.2.2.1)/\x_.2.2.2.1=z_.2.2.2.1)/\x_.2.2.2.2.1=z_.2.2.2.2.1,λ(x_:Ty91_)=>(guessesOf l.page).length-x_.1.toNat⟩
def AmG:=AjK.a CJ<|Fct.p (KP [1,2,3,4,5,6,7,8,9] [25,33,51]) (λ⟨l,_⟩=>lv [(6,Ck l)]) AjK.2 func13 (by
 rintro⟨(l:Sd_),_⟩ hp;refine ho (.cl Cf (l,()) λz2=>.br (decide ((l.conns.length:Int)>=3)) (.lf CJ (z2.1,false,())) (.cl Jp (l.guesses,()) λ(z3:Ty3_)=>.cl PM (l.conns,()) λ(z4:Ty3_)=>.br (decide (wr (z3.1+z4.1)>=6)) (.lf CJ (z2.1,false,())) (.cl Hp (l.page,()) λz5=>lpx (Ck l) ((0:Int),(l,(default,(z2.1,(z5.1,()))))) λ(y7:Ty91_) bk7=>.br (decide (y7.1<(y7.2.2.2.2.1.length:Int))) (.ix y7.1 y7.2.2.2.2.1.length<|.cl Dd (y7.2.1.guesses,y7.2.2.2.2.1.getD y7.1.toNat default,()) λ(z6:Ty3_)=>.br (decide (z6.1>=0)) (.bk (bk7 (w1 y7.1,(y7.2.1,(y7.2.2.1,(y7.2.2.2.1,(y7.2.2.2.2.1,()))))))) (.cl Rp (y7.2.1.conns,y7.2.2.2.2.1.getD y7.1.toNat default,()) λ(z7:Ty3_)=>.br (decide (z7.1>=0)) (.bk (bk7 (w1 y7.1,(y7.2.1,(y7.2.2.1,(y7.2.2.2.1,(y7.2.2.2.2.1,()))))))) (.cl Bv (y7.2.1.net,y7.2.1.page.addr.host,y7.2.2.2.2.1.getD y7.1.toNat default,true,()) λz8=>.cl Ng (y7.2.1.conns,y7.2.2.2.2.1.getD y7.1.toNat default,z8.2.1,true,()) λz9=>.lf CJ (⟨z8.1,y7.2.2.2.1.page,y7.2.2.2.1.parts,z9.1,y7.2.2.2.1.guesses⟩,true,())))) (.lf CJ (y7.2.2.2.1,false,()))))) ?_;repeat' (guard_target =~ Out.holds _ _;first|refine Au (li:=Ck l) ?_ λ(y7:Ty91_) i7=>?_|refine lfY ?_|refine Aa (λ_=>?_) λ_=>?_|refine Af ?_ λ_=>?_|refine A8 ?_|refine Er ?_ λ_ _=>?_)
 all_goals obtain⟨z0,⟨z4,z5,z6⟩,z7,z8,z9⟩:=(show okGN l from hp)
 all_goals have hf:=λa=>Fw (t:=l.page.addr.host) (a:=a) (g:=true) z0
 all_goals obtain⟨z1,z2,z3,_⟩:=z0
 all_goals
  have hb2:∀ x:Sc_,x.body.size<=Ad x:=λx=>Qc6 _ _
  have hn:=λ{i:Nat} (h:i<(guessesOf l.page).length)=>H4 (p:=l.page) h
  have hc:=Gr (λg:Sm_=>!g.used) l.guesses;have hc2:=Lu l.conns;have hgl:=Ly l.page
 all_goals try (obtain⟨⟨⟨⟨⟨a1,a2,a3⟩,a4⟩,a5⟩,a6⟩,a7⟩:=i7;simp only[a4,a5,a6,a7] at *)
 all_goals
  try simp only[std,Nat.reduceAdd,guessNext,nextGuess_at,nextGuess_end] at *
  try simp(disch:=omega) only[wrapId',toNat1] at *
  try simp(disch:=omega) only[Qa3,Qa5]
 all_goals first|trivial|omega|grind[wrapId',toNat1,good_len,maxLen,guessNext,nextGuess_at,nextGuess_end])
abbrev Cd (l:Sd_):LInv:=⟨[⟨.s,30,true,.el .int⟩,⟨.b,1,false,.el .loader⟩,⟨.b,2,true,.el .loader⟩,⟨.b,4,true,.el .loader⟩,⟨.s,28,true,.sl .addr⟩],λ(z_ x_:Ty91_)=>((((0<=x_.1/\x_.1<=(guessesOf l.page).length/\nextGuess l ((guessesOf l.page).drop x_.1.toNat)=nextGuess l (guessesOf l.page))/\x_.2.1=z_.2.1)/\x_.2.2.1=z_.2.2.1)/\x_.2.2.2.1=z_.2.2.2.1)/\x_.2.2.2.2.1=z_.2.2.2.2.1,λ(x_:Ty91_)=>(guessesOf l.page).length-x_.1.toNat⟩
def AiU:=AmG.a CJ<|Fct.p (KP [1,2,3,4,6,7,8,28,29,30] [24,31,45]) (λ⟨l,_⟩=>lv [(5,Cd l)]) AmG.2 func9 (by
 rintro⟨(l:Sd_),_⟩ hp;refine ho (.cl Cf (l,()) λz2=>let q1_:Out:=.lf CJ (z2.1,false,());.br (decide ((l.conns.length:Int)>=3)) q1_ (.cl Jp (l.guesses,()) λ(z3:Ty3_)=>.cl PM (l.conns,()) λ(z4:Ty3_)=>.br (decide (wr (z3.1+z4.1)>=6)) q1_ (.cl Hp (l.page,()) λz5=>let q2_:=(z5.1.length:Int);lpx (Cd l) ((0:Int),(l,(default,(z2.1,(z5.1,()))))) λ(y7:Ty91_) bk7=>let q0_:Out:=.re (Value.int IntKind.i64 q2_)<|.bk (bk7 (w1 y7.1,(y7.2.1,(y7.2.2.1,(y7.2.2.2.1,(y7.2.2.2.2.1,()))))));.br (decide (y7.1<q2_)) (.ix y7.1 y7.2.2.2.2.1.length<|.cl Dd (y7.2.1.guesses,y7.2.2.2.2.1.getD y7.1.toNat default,()) λ(z6:Ty3_)=>.br (decide (z6.1>=0)) q0_ (.cl Rp (y7.2.1.conns,y7.2.2.2.2.1.getD y7.1.toNat default,()) λ(z7:Ty3_)=>.br (decide (z7.1>=0)) q0_ (.cl Bv (y7.2.2.2.1.net,y7.2.1.page.addr.host,y7.2.2.2.2.1.getD y7.1.toNat default,true,()) λz8=>.cl Ng (y7.2.2.2.1.conns,y7.2.2.2.2.1.getD y7.1.toNat default,z8.2.1,true,()) λz9=>.lf CJ ({y7.2.2.2.1 with net:=z8.1,conns:=z9.1},true,())))) (.lf CJ (y7.2.2.2.1,false,()))))) ?_;repeat' (guard_target =~ Out.holds _ _;first|refine Au (li:=Cd l) ?_ λ(y7:Ty91_) i7=>?_|refine lfY ?_|refine Aa (λ_=>?_) λ_=>?_|refine Af ?_ λ_=>?_|refine A8 ?_|refine An ?_|refine Er ?_ λ_ _=>?_)
 all_goals obtain⟨z0,⟨z4,z5,z6⟩,z7,z8,z9⟩:=(show okGN l from hp)
 all_goals have hf:=λa=>Fw (t:=l.page.addr.host) (a:=a) (g:=true) z0
 all_goals obtain⟨z1,z2,z3,_⟩:=z0
 all_goals
  have hb2:∀ x:Sc_,x.body.size<=Ad x:=λx=>Qc6 _ _
  have hn:=λ{i:Nat} (h:i<(guessesOf l.page).length)=>H4 (p:=l.page) h
  have hc:=Gr (λg:Sm_=>!g.used) l.guesses;have hc2:=Lu l.conns;have hgl:=Ly l.page
 all_goals try (obtain⟨⟨⟨⟨⟨a1,a2,a3⟩,a4⟩,a5⟩,a6⟩,a7⟩:=i7;simp only[a4,a5,a6,a7] at *)
 all_goals
  try simp only[std,Nat.reduceAdd,guessNext,nextGuess_at,nextGuess_end] at *
  try simp(disch:=omega) only[wrapId',toNat1] at *
  try simp(disch:=omega) only[Qa3,Qa5]
 all_goals first|trivial|omega|grind[wrapId',toNat1,good_len,maxLen,guessNext,nextGuess_at,nextGuess_end])
def tagAttrs:List ByteArray->List St_->Option (List St_)
 | [],acc=>some acc
 | w::l,acc=>match G8 61 (toL w) with
  | none=>none
  | some r=>if isName (ofL r.1)&&(isValue (ofL r.2)&&(findAttr acc (ofL r.1)).isNone) then tagAttrs l (acc++[⟨ofL r.1,ofL r.2⟩]) else none
def tagFin (n:ByteArray):Option (List St_)->Si_×Bool
 | none=>(default,false)
 | some ats=>if isName n=true/\ats.length<=4 then(⟨1,n,ats,⟨#[]⟩⟩,true) else(default,false)
def tagOf (s:ByteArray):Si_×Bool :=
 if 60<s.size then(default,false)
 else if 0<s.size/\s.data.getD 0 0=47 then(if isName (s.extract 1 s.size) then(⟨2,s.extract 1 s.size,[],⟨#[]⟩⟩,true) else(default,false))
 else tagFin ((spl 32 s).getD 0 default) (tagAttrs ((spl 32 s).drop 1) [])
def WS {s:ByteArray} (h:s.size<=60) (hn:¬ (0<s.size/\s.data.getD 0 0=47)) (ha:tagAttrs ((spl 32 s).drop 1) []=none):tagOf s=(default,false):=by
 unfold tagOf;rw[Qa5 o_,Qa5 hn,ha];rfl
def QR {s:ByteArray} {ats:List St_} (h:s.size<=60) (hn:¬ (0<s.size/\s.data.getD 0 0=47)) (ha:tagAttrs ((spl 32 s).drop 1) []=some ats):tagOf s=if isName ((spl 32 s).getD 0 default)=true/\ats.length<=4 then(⟨1,(spl 32 s).getD 0 default,ats,⟨#[]⟩⟩,true) else(default,false):=by
 unfold tagOf;rw[Qa5 o_,Qa5 hn,ha];rfl
def Is {s:ByteArray}:(60<s.size->tagOf s=(default,false))/\(s.size<=60->0<s.size->s.data.getD 0 0=47->tagOf s=if isName (s.extract 1 s.size) then(⟨2,s.extract 1 s.size,[],⟨#[]⟩⟩,true) else(default,false)):=by
 unfold tagOf;grind
def Ace (b:UInt8):∀ l:List UInt8,Nq b l=match G8 b l with|none=>[l]|some (p,q)=>p::Nq b q:=by
 intro l
 induction l with
 | nil=>rfl
 | cons x l ih=>
  rw[FX,G8];by_cases hx:x=b
  ·simp_all
  ·rw[Qa5 hx,Qa5 hx,ih];cases G8 b l with
   | none=>rfl
   | some r=>rfl
def IR (b:UInt8) (s:ByteArray):spl b s=match G8 b (toL s) with|none=>[s]|some (p,q)=>ofL p::spl b (ofL q):=by
 unfold spl;rw[Ace];cases G8 b (toL s) with
 | none=>simp[Ct]
 | some r=>simp[LX]
def Nk {b:UInt8}:∀ {l p q:List UInt8},G8 b l=some (p,q)->b∈l
 | [],p,q,h=>by cases h
 | x::l,p,q,h=>by
  rw[G8] at h;split at h
  ·simp_all
  ·obtain⟨r,hr,_⟩:=Option.map_eq_some_iff.1 h;exact Qc3 _ (Nk (p:=r.1) (q:=r.2) hr)
def AdJ (w:ByteArray):((spl 61 w).length=2/\isName ((spl 61 w).getD 0 default)=true/\isValue ((spl 61 w).getD 1 default)=true)↔∃ r,G8 61 (toL w)=some r/\isName (ofL r.1)=true/\isValue (ofL r.2)=true/\(spl 61 w).getD 0 default=ofL r.1/\(spl 61 w).getD 1 default=ofL r.2:=by
 rw[IR];cases h:G8 61 (toL w) with
 | none=>simp
 | some r=>
  obtain⟨p,q⟩:=r;simp only[Qa7,Qa0];constructor
  ·rintro⟨h1,h2,h3⟩;have hq:(spl 61 (ofL q))=[ofL q]:=by
    rw[IR] at h1 ⊢;cases hc:G8 61 (toL (ofL q)) with
    | none=>rfl
    | some r2=>
     rw[hc] at h1;have:=(D0 61 (ofL r2.2)).1;simp_all
   simp_all
  ·rintro⟨r,rfl,h2,h3,h4,h5⟩;have hq:(spl 61 (ofL q))=[ofL q]:=by
    rw[IR];cases hc:G8 61 (toL (ofL q)) with
    | none=>rfl
    | some r2=>exact absurd (Nk (p:=r2.1) (q:=r2.2) hc) (RP rfl h3)
   simp_all
def MX:∀ {l:List ByteArray} {acc ats:List St_},tagAttrs l acc=some ats->ats.length=acc.length+l.length
 | [],acc,ats,h=>by simp only[tagAttrs,Qa0] at h;subst h;simp
 | w::l,acc,ats,h=>by
  simp only[tagAttrs] at h;split at h
  ·cases h
  ·split at h
   ·have:=MX h;grind
   ·cases h
def NO {l:List ByteArray} {i:Nat} {acc:List St_} (h:i<l.length):tagAttrs (l.drop i) acc=(match G8 61 (toL (l.getD i default)) with|none=>none|some r=>if isName (ofL r.1)&&(isValue (ofL r.2)&&(findAttr acc (ofL r.1)).isNone) then tagAttrs (l.drop (i+1)) (acc++[⟨ofL r.1,ofL r.2⟩]) else none):=by rw[drop_cons h];rfl
def Jm {l:List ByteArray} {i:Nat} {acc:List St_} (h:l.length<=i):tagAttrs (l.drop i) acc=some acc:=by rw[Qb2 h];rfl
abbrev PQ:Fct:=⟨[.v (.el .str)],[.el .token,.el .bool],λ(x_:Ty48_)=>x_.1.size<=100000000,λ(x_:Ty48_)=>((tagOf x_.1).1,(tagOf x_.1).2,())⟩
def Aij {s:ByteArray} {i:Nat} {b:Nat} (hb:b<=255):((s.data.getD i 0).toNat:Int)=b↔s.data.getD i 0=UInt8.ofNat b:=Ok (b:=b) o_ o_
def Y4 {l:List ByteArray} {i:Nat} {acc:List St_} (h:i<l.length):tagAttrs (l.drop i) acc=if(spl 61 (l.getD i default)).length=2/\isName ((spl 61 (l.getD i default)).getD 0 default)=true/\isValue ((spl 61 (l.getD i default)).getD 1 default)=true/\(findAttr acc ((spl 61 (l.getD i default)).getD 0 default)).isSome=false then tagAttrs (l.drop (i+1)) (acc++[⟨(spl 61 (l.getD i default)).getD 0 default,(spl 61 (l.getD i default)).getD 1 default⟩]) else none:=by
 rw[NO h];generalize l.getD i default=w;by_cases hw:(spl 61 w).length=2/\isName ((spl 61 w).getD 0 default)=true/\isValue ((spl 61 w).getD 1 default)=true
 ·obtain⟨r,h1,h2,h3,h4,h5⟩:=(AdJ w).1 hw;simp_all
 ·rw[Qa5 (λhh=>hw ⟨hh.1,hh.2.1,hh.2.2.1⟩)];cases hc:G8 61 (toL w) with
  | none=>rfl
  | some r=>
   simp only;rw[Qa5];intro hh;simp only[Qa2] at hh;refine hw ?_;have hq:spl 61 (ofL r.2)=[ofL r.2]:=by
    rw[IR];cases hc2:G8 61 (toL (ofL r.2)) with
    | none=>rfl
    | some r2=>exact absurd (Nk (p:=r2.1) (q:=r2.2) hc2) (RP rfl hh.2.1)
   rw[IR,hc];simp_all
abbrev F8 (s:ByteArray):LInv:=⟨[⟨.b,5,true,.el .token⟩,⟨.s,6,true,.el .int⟩,⟨.b,2,true,.el .token⟩,⟨.s,4,true,.sl .str⟩],λ(z_ x_:Ty92_)=>((1<=x_.2.1/\x_.2.1<=(spl 32 s).length/\x_.1.bo.length+1<=x_.2.1/\x_.1=⟨1,(spl 32 s).getD 0 default,x_.1.bo,⟨#[]⟩⟩/\tagAttrs ((spl 32 s).drop x_.2.1.toNat) x_.1.bo=tagAttrs ((spl 32 s).drop 1) [])/\x_.2.2.1=z_.2.2.1)/\x_.2.2.2.1=z_.2.2.2.1,λ(x_:Ty92_)=>(spl 32 s).length-x_.2.1.toNat⟩
def AlB:=AiU.a PQ<|Fct.p (KP [0,2,3,4,5,6,7,9] [12,21,25,39,63,74,97]) (λ⟨s,_⟩=>lv [(10,F8 s)]) AiU.2 func244 (by
 rintro⟨(s:ByteArray),_⟩ hp;refine ho (let q7_:=(s.size:Int);let q5_:=(0:Int)<=(1:Int)/\(1:Int)<=q7_;let q4_:=(⟨#[]⟩:ByteArray);let q1_:Out:=.leaf (.tup [(true,[vi ((0:Int)),vs (q4_),.nl,vs (q4_)]),(false,[vb (false)])]) [] [];let q0_:Out:=.cl Fk (s,(32:Int),()) λz3=>.ob ((0:Int)<=(0:Int)/\(0:Int)<(z3.1.length:Int))<|.ob (0<z3.1.length)<|lpx (F8 s) ((⟨(1:Int),z3.1.getD 0 default,[],q4_⟩:Si_),((1:Int),(default,(z3.1,())))) λ(y12:Ty92_) bk12=>.br (decide (y12.2.1<(y12.2.2.2.1.length:Int))) (.ix y12.2.1 y12.2.2.2.1.length<|.cl Fk (y12.2.2.2.1.getD y12.2.1.toNat default,(61:Int),()) λz4=>let q9_:=0<z4.1.length;let q8_:=(z4.1.length:Int);let q6_:=(⟨z4.1.getD 0 default,z4.1.getD 1 default⟩:St_);let q3_:=(0:Int)<=(1:Int)/\(1:Int)<q8_;let q2_:=(0:Int)<=(0:Int)/\(0:Int)<q8_;.br (q8_ != 2) q1_ (.ob q2_<|.ob q9_<|.cl BH (z4.1.getD 0 default,()) λz5=>.br (!z5.1) q1_ (.ob q3_<|.ob (1<z4.1.length)<|.cl GK (z4.1.getD 1 default,()) λz6=>.br (!z6.1) q1_ (.ob q2_<|.ob q9_<|.cl Aj (y12.1.bo,z4.1.getD 0 default,()) λz7=>.br (z7.2.1) q1_ (.ob q2_<|.ob q9_<|.ob q3_<|.ob (1<z4.1.length)<|.ap (y12.1.bo.length+[q6_].length) 32<|.re (Value.string s)<|.bk (bk12 (({y12.1 with bo:=y12.1.bo++[q6_]}:Si_),(w1 y12.2.1,(y12.2.2.1,(y12.2.2.2.1,())))))))))) (.cl BH (y12.1.name,()) λz8=>.br (!z8.1) q1_ (.br (decide ((y12.1.bo.length:Int)>4)) q1_ (.lf PQ (y12.1,true,()))));.br (decide (q7_>60)) q1_ (.br (decide (q7_>0)) (.ob ((0:Int)<=(0:Int)/\(0:Int)<q7_)<|.br ((↑(s.data.getD 0 0).toNat:Int)==47) (.ob q5_<|.cl BH (s.extract 1 s.size,()) λz2=>.br (!z2.1) q1_ (.ob q5_<|.leaf (.tup [(true,[vi ((2:Int)),vs (s.extract 1 s.size),.nl,vs (q4_)]),(false,[vb (true)])]) [] [])) q0_) q0_)) ?_;refine Aa (λh1=>Fct.leafZ (default,false,()) (by repeat' first|exact rfl|exact trivial|refine And.intro ?_ ?_) ?_) (λh1=>Aa (λh2=>Ac ?_ λ_=>Aa (λh4=>Ac ?_ λ_=>Af ?_ λ_=>(Aa (λh7=>Fct.leafZ (default,false,()) (by repeat' first|exact rfl|exact trivial|refine And.intro ?_ ?_) ?_) (λh7=>Ac ?_ λ_=>Fct.leafZ (⟨(2:Int),s.extract (1:Nat) s.size,[],{ data := #[]:ByteArray }⟩,true,()) (by repeat' first|exact rfl|exact trivial|refine And.intro ?_ ?_) ?_))) (λh4=>Af ?_ λ_=>(Ac ?_ λ_=>Ac ?_ λ_=>Au ?_ λ(y12:Ty92_) i12=>Aa (λh13=>Er ?_ λo14 o15=>Af ?_ λ_=>(Aa (λh17=>Fct.leafZ (default,false,()) (by repeat' first|exact rfl|exact trivial|refine And.intro ?_ ?_) ?_) (λh17=>Ac ?_ λ_=>Ac ?_ λ_=>Af ?_ λ_=>(Aa (λh21=>Fct.leafZ (default,false,()) (by repeat' first|exact rfl|exact trivial|refine And.intro ?_ ?_) ?_) (λh21=>Ac ?_ λ_=>Ac ?_ λ_=>Af ?_ λ_=>(Aa (λh25=>Fct.leafZ (default,false,()) (by repeat' first|exact rfl|exact trivial|refine And.intro ?_ ?_) ?_) (λh25=>Ac ?_ λ_=>Ac ?_ λ_=>Af ?_ λ_=>(Aa (λh29=>Fct.leafZ (default,false,()) (by repeat' first|exact rfl|exact trivial|refine And.intro ?_ ?_) ?_) (λh29=>Ac ?_ λ_=>Ac ?_ λ_=>Ac ?_ λ_=>Ac ?_ λ_=>Ek ?_ λ_=>An<|A8 ?_))))))))) (λh13=>Af ?_ λ_=>(Aa (λh37=>Fct.leafZ (default,false,()) (by repeat' first|exact rfl|exact trivial|refine And.intro ?_ ?_) ?_) (λh37=>Aa (λh38=>Fct.leafZ (default,false,()) (by repeat' first|exact rfl|exact trivial|refine And.intro ?_ ?_) ?_) (λh38=>lfY ?_))))))) (λh2=>Af ?_ λ_=>(Ac ?_ λ_=>Ac ?_ λ_=>Au ?_ λ(y42:Ty92_) i42=>Aa (λh43=>Er ?_ λo44 o45=>Af ?_ λ_=>(Aa (λh47=>Fct.leafZ (default,false,()) (by repeat' first|exact rfl|exact trivial|refine And.intro ?_ ?_) ?_) (λh47=>Ac ?_ λ_=>Ac ?_ λ_=>Af ?_ λ_=>(Aa (λh51=>Fct.leafZ (default,false,()) (by repeat' first|exact rfl|exact trivial|refine And.intro ?_ ?_) ?_) (λh51=>Ac ?_ λ_=>Ac ?_ λ_=>Af ?_ λ_=>(Aa (λh55=>Fct.leafZ (default,false,()) (by repeat' first|exact rfl|exact trivial|refine And.intro ?_ ?_) ?_) (λh55=>Ac ?_ λ_=>Ac ?_ λ_=>Af ?_ λ_=>(Aa (λh59=>Fct.leafZ (default,false,()) (by repeat' first|exact rfl|exact trivial|refine And.intro ?_ ?_) ?_) (λh59=>Ac ?_ λ_=>Ac ?_ λ_=>Ac ?_ λ_=>Ac ?_ λ_=>Ek ?_ λ_=>An<|A8 ?_))))))))) (λh43=>Af ?_ λ_=>(Aa (λh67=>Fct.leafZ (default,false,()) (by repeat' first|exact rfl|exact trivial|refine And.intro ?_ ?_) ?_) (λh67=>Aa (λh68=>Fct.leafZ (default,false,()) (by repeat' first|exact rfl|exact trivial|refine And.intro ?_ ?_) ?_) (λh68=>lfY ?_)))))));all_goals
  try simp only[std,Nat.reduceAdd] at *
  try simp only[show UInt8.ofNat (Int.toNat 32)=32 from rfl,show UInt8.ofNat (Int.toNat 61)=61 from rfl,AeA] at *
 all_goals
  have hk:=D0 32 s;have hm:∀ i,i<(spl 32 s).length->((spl 32 s).getD i default).size<=s.size:=λi h=>Kv (AN h)
  have hx:(s.extract 1 s.size).size<=s.size:=by rw[Qc1];omega
 all_goals try (obtain⟨⟨⟨a1,a2,a3,a4,a5⟩,a6⟩,a7⟩:=i12)
 all_goals try (obtain⟨⟨⟨a1,a2,a3,a4,a5⟩,a6⟩,a7⟩:=i42)
 all_goals try simp only[a7] at *
 all_goals first|trivial|omega|skip
 all_goals try (have hn:¬ (0<s.size/\s.data.getD 0 0=47):=by intro hh;first|(exact absurd hh.2 ‹_›)|omega)
 all_goals
  try have hg:y12.1.name=(spl 32 s).getD 0 default:=Qg5 Si_.name a4
  try have hg:y42.1.name=(spl 32 s).getD 0 default:=Qg5 Si_.name a4
  try have h0:=hm 0 o_
  try have hw:=hm y12.2.1.toNat o_
  try have hw0:=EE 61 ((spl 32 s).getD y12.2.1.toNat default) 0
  try have hw1:=EE 61 ((spl 32 s).getD y12.2.1.toNat default) 1
 all_goals first|(rw[Is.1 o_];exact⟨rfl,rfl⟩)|(rw[Is.2 o_ o_ ‹_›,Qa5 (by rw[show isName _=false from ‹_›];decide)];exact⟨rfl,rfl⟩)|(rw[Is.2 o_ o_ ‹_›,Qa3 ‹_›];exact⟨rfl,rfl⟩)|(rw[hg];omega)|omega|skip
 all_goals first|exact⟨o_,o_,by simp,trivial,rfl⟩|exact⟨o_,o_,o_⟩|skip
 all_goals first|(rw[Y4 o_,Qa5 (by rintro⟨c1,c2,c3,c4⟩;first|omega|exact absurd (c2.symm.trans (show isName _=false from ‹_›)) (by decide)|exact absurd (c3.symm.trans (show isValue _=false from ‹_›)) (by decide)|exact absurd (c4.symm.trans (show Option.isSome _=true from ‹_›)) (by decide))] at a5;rw[WS o_ hn a5.symm];exact⟨rfl,rfl⟩)|skip
 all_goals first|(rw[Jm o_] at a5;rw[QR o_ hn a5.symm,Qa5 (by rintro⟨c1,c2⟩;rw[<-hg] at c1;first|omega|exact absurd (c1.symm.trans (show isName _=false from ‹_›)) (by decide))];exact⟨rfl,rfl⟩)|(rw[Jm o_] at a5;rw[QR o_ hn a5.symm,Qa3 ⟨by rw[<-hg];assumption,o_⟩];exact⟨a4,rfl⟩)|skip
 all_goals rw[Y4 o_,Qa3 (by exact⟨o_,‹_›,‹_›,‹_›⟩)] at a5
 all_goals rw[Al o_,toNat1 o_]
 all_goals refine⟨⟨⟨⟨o_,o_,by rw[Qa1];simp only[Qa7,Qb1];omega,?_,a5⟩,a6⟩,trivial⟩,o_⟩
 all_goals rw[a4])
def idxB (b:UInt8) (s:ByteArray):Nat:=(toL s).findIdx λx=>x==b
def G7 (b:UInt8) (s:ByteArray):idxB b s<=s.size:=by
 have:=List.findIdx_le_length (xs:=toL s) (p:=λx=>x==b);rw[BD] at this;exact this
def Ac6 {b:UInt8} {s:ByteArray} {i:Nat} (h:i<s.size) (hb:s.data.getD i 0=b) (hn:b∉(toL s).take i):idxB b s=i:=by
 have e:toL s=(toL s).take i++b::(toL s).drop (i+1):=by rw[<-hb,<-J8 h,Qd9]
 have hl:((toL s).take i).length=i:=by rw[Qc2,BD];omega
 unfold idxB;grind
def Adg {b:UInt8} {s:ByteArray} {i:Nat} (h:s.size<=i) (hn:b∉(toL s).take i):idxB b s=s.size:=by
 rw[Qb9 (by rw[BD];exact h)] at hn;unfold idxB;rw[List.findIdx_eq_length_of_false λx hx=>by
  have:x≠b:=λe=>hn (e▸hx)
  simpa using this]
 rfl
abbrev L6:Fct:=⟨[.v (.el .str),.v (.el .u8)],[.el .int],λ(x_:Ty67_)=>x_.1.size<=1000000000000/\0<=x_.2.1/\x_.2.1<=255,λ(x_:Ty67_)=>((idxB (UInt8.ofNat x_.2.1.toNat) x_.1:Int),())⟩
abbrev FI (s:ByteArray) (b:Int):LInv:=⟨[⟨.s,5,true,.el .int⟩],λ_ (x_:Ty3_)=>0<=x_.1/\x_.1<=s.size/\UInt8.ofNat b.toNat∉(toL s).take x_.1.toNat,λ(x_:Ty3_)=>s.size-x_.1.toNat⟩
def Ake:=AlB.a L6<|Fct.p (KP [0,1,4,5] [9,16]) (λ⟨s,b,_⟩=>lv [(2,FI s b)]) AlB.2 func243 (by
 rintro⟨(s:ByteArray),(b:Int),_⟩ hp;refine ho (lpx (FI s b) ((0:Int),()) λ(y1:Ty3_) bk1=>.br (decide (y1.1<(s.size:Int))) (.ob (0<=y1.1/\y1.1<(s.size:Int))<|.br ((↑(s.data.getD y1.1.toNat 0).toNat:Int)==b) (.lf L6 (y1.1,())) (.re (Value.string s)<|.re (Value.int IntKind.u8 b)<|.bk (bk1 (w1 y1.1,())))) (.lf L6 ((s.size:Int),()))) ?_;refine Au ?_ λ(y1:Ty3_) i1=>Aa (λh2=>Ac ?_ λ_=>Aa (λh4=>lfY ?_) (λh4=>An<|An<|A8 ?_)) (λh2=>lfY ?_)
 all_goals obtain⟨hp1,hp2,hp3⟩:=hp
 all_goals try (obtain⟨a1,a2,a3⟩:=i1)
 all_goals
  try simp only[std,Nat.reduceAdd,Ok hp2 hp3] at *
  try simp(disch:=omega) only[wrapId',toNat1] at *
  try simp(disch:=omega) only[Qa3,Qa5]
 all_goals try (have e:=Ac6 (show y1.1.toNat<s.size from o_) h4 a3)
 all_goals try (have t:=Zf (show y1.1.toNat<s.size from o_) h4 a3)
 all_goals try (have e:=Adg (show s.size<=y1.1.toNat from o_) a3)
 all_goals first|trivial|omega|grind)
def feed:Nat->ByteArray->List Si_×ByteArray
 | 0,x=>([],x)
 | f+1,x=>
  if 0<idxB 60 x/\idxB 60 x<x.size then(⟨3,⟨#[]⟩,[],x.extract 0 (idxB 60 x)⟩::(feed f (x.extract (idxB 60 x) x.size)).1,(feed f (x.extract (idxB 60 x) x.size)).2)
  else if idxB 60 x≠0\/idxB 62 x=x.size then([],x)
  else(if(tagOf (x.extract 1 (idxB 62 x))).2 then(tagOf (x.extract 1 (idxB 62 x))).1::(feed f (x.extract (idxB 62 x+1) x.size)).1 else(feed f (x.extract (idxB 62 x+1) x.size)).1,(feed f (x.extract (idxB 62 x+1) x.size)).2)
def Lz:∀ (f g:Nat) (x:ByteArray),x.size<f->x.size<g->feed f x=feed g x
 | 0,_,x,h,_=>o_
 | _,0,x,_,h=>o_
 | f+1,g+1,x,h1,h2=>by
  have hl:=G7 62 x;simp only[feed];split
  ·rename_i hc;rw[Lz f g (x.extract (idxB 60 x) x.size) (by rw[Qc1];omega) (by rw[Qc1];omega)]
  ·split
   ·rfl
   ·rename_i hc;rw[Lz f g (x.extract (idxB 62 x+1) x.size) (by rw[Qc1];omega) (by rw[Qc1];omega)]
def feedAll (x:ByteArray):List Si_×ByteArray:=feed (x.size+1) x
def S9 {x:ByteArray} (h:0<idxB 60 x) (h2:idxB 60 x<x.size):feedAll x=(⟨3,⟨#[]⟩,[],x.extract 0 (idxB 60 x)⟩::(feedAll (x.extract (idxB 60 x) x.size)).1,(feedAll (x.extract (idxB 60 x) x.size)).2):=by
 have e:feed x.size (x.extract (idxB 60 x) x.size)=feedAll (x.extract (idxB 60 x) x.size):=Lz _ _ _ (by rw[Qc1];omega) o_;show feed (x.size+1) x=_;rw[feed,Qa3 ⟨h,h2⟩,e]
def Ol {x:ByteArray} (h:¬ (0<idxB 60 x/\idxB 60 x<x.size)) (h2:idxB 60 x≠0\/idxB 62 x=x.size):feedAll x=([],x):=by
 show feed (x.size+1) x=_;rw[feed,Qa5 h,Qa3 h2]
def V9 {x:ByteArray} (h:idxB 60 x=0) (h2:idxB 62 x<x.size):feedAll x=(if(tagOf (x.extract 1 (idxB 62 x))).2 then(tagOf (x.extract 1 (idxB 62 x))).1::(feedAll (x.extract (idxB 62 x+1) x.size)).1 else(feedAll (x.extract (idxB 62 x+1) x.size)).1,(feedAll (x.extract (idxB 62 x+1) x.size)).2):=by
 have e:feed x.size (x.extract (idxB 62 x+1) x.size)=feedAll (x.extract (idxB 62 x+1) x.size):=Lz _ _ _ (by rw[Qc1];omega) o_;show feed (x.size+1) x=_;rw[feed,Qa5 o_,Qa5 o_,e]
def UD {x:ByteArray} (h:idxB 60 x=0) (h2:idxB 62 x<x.size):1<=idxB 62 x:=by
 unfold idxB at *
 have hl:(toL x).length=x.size:=rfl;cases hx:toL x with
 | nil=>rw[hx] at hl;simp only[Qb1] at hl;omega
 | cons c l=>
  grind
abbrev Im:Fct:=⟨[.v (.el .tokenizer),.v (.el .str)],[.sl .token,.el .tokenizer],λ(x_:Ty93_)=>x_.1.rest.size<=50000000/\x_.2.1.size<=50000000,λ(x_:Ty93_)=>((feedAll (x_.1.rest++x_.2.1)).1,⟨(feedAll (x_.1.rest++x_.2.1)).2⟩,())⟩
abbrev CD (t:Sq_) (s:ByteArray):LInv:=⟨[⟨.s,6,true,.sl .token⟩,⟨.s,7,true,.el .str⟩,⟨.b,5,true,.el .tokenizer⟩],λ(z_ x_:Ty94_)=>(x_.1.length+x_.2.1.size<=(t.rest++s).size/\x_.1++(feedAll x_.2.1).1=(feedAll (t.rest++s)).1/\(feedAll x_.2.1).2=(feedAll (t.rest++s)).2)/\x_.2.2.1=z_.2.2.1,λ(x_:Ty94_)=>x_.2.1.size⟩
def Amf:=Ake.a Im<|Fct.p (KP [1,2,4,5,6,7,8,9,10,11] [26,46,57]) (λ⟨t,s,_⟩=>lv [(3,CD t s)]) Ake.2 func146 (by
 rintro⟨(t:Sq_),(s:ByteArray),_⟩ hp;refine ho (let q5_:=Value.string s;.ob (sameSize t.rest s)<|lpx (CD t s) ([],(t.rest++s,(default,()))) λ(y2:Ty94_) bk2=>let q3_:Out:=.lf Im (y2.1,⟨y2.2.1⟩,());let q1_:=(y2.2.1.size:Int);.cl L6 (y2.2.1,(60:Int),()) λ(z2:Ty3_)=>let q6_:=0<=z2.1/\z2.1<=q1_;let q2_:=(⟨(3:Int),(⟨#[]⟩:ByteArray),[],y2.2.1.extract 0 z2.1.toNat⟩:Si_);let q0_:Out:=.cl L6 (y2.2.1,(62:Int),()) λ(z3:Ty3_)=>let q4_:=0<=w1 z3.1/\w1 z3.1<=q1_;.br (z2.1 != 0) q3_ (.br (z3.1==q1_) q3_ (.ob ((0:Int)<=(1:Int)/\1<=z3.1/\z3.1<=q1_)<|.cl PQ (y2.2.1.extract 1 z3.1.toNat,()) λz4=>.br (z4.2.1) (.ob (Ij (y2.1.length+[z4.1].length) 64)<|.ob q4_<|.re q5_<|.bk (bk2 (y2.1++[z4.1],(y2.2.1.extract (w1 z3.1).toNat y2.2.1.size,(y2.2.2.1,()))))) (.ob q4_<|.re q5_<|.bk (bk2 (y2.1,(y2.2.1.extract (w1 z3.1).toNat y2.2.1.size,(y2.2.2.1,())))))));.br (decide (z2.1>0)) (.br (decide (z2.1<q1_)) (.ob q6_<|.ob (Ij (y2.1.length+[q2_].length) 64)<|.ob q6_<|.re q5_<|.bk (bk2 (y2.1++[q2_],(y2.2.1.extract z2.1.toNat y2.2.1.size,(y2.2.2.1,()))))) q0_) q0_) ?_;repeat' (guard_target =~ Out.holds _ _;first|refine Au (li:=CD t s) ?_ λ(y2:Ty94_) i2=>?_|refine lfY ?_|refine Aa (λ_=>?_) λ_=>?_|refine Af ?_ λ_=>?_|refine Ac ?_ λ_=>?_|refine A8 ?_|refine An ?_)
 all_goals try (obtain⟨⟨a1,a2,a3⟩,a4⟩:=i2)
 all_goals
  try simp only[std,Nat.reduceAdd] at *
  try simp(disch:=omega) only[wrapId',toNat1] at *
  try simp(disch:=omega) only[Qa3,Qa5]
  try simp only[show UInt8.ofNat (Int.toNat 60)=60 from rfl,show UInt8.ofNat (Int.toNat 62)=62 from rfl,Qg2,Qa6] at *
  try have k1:=G7 60 y2.2.1
  try have k2:=G7 62 y2.2.1
  try have k3:=UD (x:=y2.2.1)
  try have k4:∀ a b,(y2.2.1.extract a b).size<=y2.2.1.size:=λa b=>by rw[Qc1];omega
  try simp(disch:=omega) only[wrapId'] at *
 all_goals first|trivial|omega|(unfold sameSize;omega)|(have:=k4 1 (idxB 62 y2.2.1);omega)|skip
 all_goals first|exact⟨Int.natCast_nonneg _,Int.ofNat_le.2 k1⟩|skip
 all_goals try simp only[Qa8,Qb3] at *
 all_goals first|omega|exact⟨o_,o_⟩|exact⟨o_,o_,o_⟩|skip
 all_goals have k5:∀ a,(y2.2.1.extract a y2.2.1.size).size=y2.2.1.size-a:=λa=>by rw[Qc1];omega
 all_goals first|(rw[Ol (x:=y2.2.1) o_ o_] at a2 a3;rw[Qd7] at a2;exact⟨a2,by rw[<-a3]⟩)|skip
 all_goals first|rw[S9 (x:=y2.2.1) o_ o_] at a2 a3|(rw[V9 (x:=y2.2.1) o_ o_] at a2 a3;first|rw[Qa3 ‹_›] at a2|rw[Qa5 (by rw[show Prod.snd _=false from ‹_›];decide)] at a2)
 all_goals try simp only[Al (show -9223372036854775808<=((idxB 62 y2.2.1:Nat):Int)+1/\((idxB 62 y2.2.1:Nat):Int)+1<=9223372036854775807 from o_),show(((idxB 62 y2.2.1:Nat):Int)+1).toNat=idxB 62 y2.2.1+1 from o_] at *
 all_goals refine⟨⟨⟨?_,?_,a3⟩,a4⟩,?_⟩
 all_goals first|(rw[k5];simp only[Qa1,Qa7,Qb1];omega)|(rw[k5];omega)|exact a2|(rw[Qb5];exact a2)|skip)
def OT {α:Type} [Inhabited α] (f:α->Nat) {l:List α} {i:Nat} (h:i<l.length):szL f (l.drop i)=f (l.getD i default)+1+szL f (l.drop (i+1)):=by rw[drop_cons h,Ah]
def O2 {b:UInt8}:∀ {l p q:List UInt8},G8 b l=some (p,q)->p.length+q.length+1=l.length
 | [],p,q,h=>by cases h
 | x::l,p,q,h=>by
  rw[G8] at h;split at h
  ·simp_all
  ·obtain⟨r,hr,he⟩:=Option.map_eq_some_iff.1 h;have:=O2 (p:=r.1) (q:=r.2) hr;grind
def Oa:∀ {l:List ByteArray} {acc ats:List St_},tagAttrs l acc=some ats->szL B9 ats<=szL B9 acc+szL Ae l
 | [],acc,ats,h=>by simp only[tagAttrs,Qa0] at h;subst h;omega
 | w::l,acc,ats,h=>by
  simp only[tagAttrs] at h;split at h
  ·cases h
  ·rename_i r hr;split at h
   ·have h1:=Oa h;have h2:=O2 (p:=r.1) (q:=r.2) hr;rw[En] at h1;rw[Ah,Ae];rw[BD] at h2;simp only[B9,HT] at h1;omega
   ·cases h
def Aca (s:ByteArray):szToken (tagOf s).1<=s.size:=by
 have h0:szToken default=0:=by decide
 unfold tagOf;split
 ·simp only[h0];omega
 ·split
  ·split
   ·simp only[szToken,szL,Qc1,List.map_nil,List.sum_nil,Qb1,show ByteArray.size ⟨#[]⟩=0 from rfl];omega
   ·simp only[h0];omega
  ·have hs:=N5 32 s;have hp:=(D0 32 s).1;cases ht:tagAttrs ((spl 32 s).drop 1) [] with
   | none=>simp only[tagFin,h0];omega
   | some ats=>
    have h1:=Oa ht;have h2:=OT Ae (l:=spl 32 s) (i:=0) hp;rw[Qf1,Qe0] at h2;have h3:szL B9 []=0:=rfl;simp only[tagFin];simp only[Ae] at h2;split
    ·simp only[szToken,show ByteArray.size ⟨#[]⟩=0 from rfl];omega
    ·simp only[h0];omega
def Aho {b:UInt8} {x:ByteArray} (h:idxB b x<x.size):idxB b (x.extract (idxB b x) x.size)=0:=by
 have hl:idxB b x<(toL x).length:=h;have hg:=List.findIdx_getElem (w:=hl);unfold idxB at *
 rw[Be,Qb9 (by rw[BD];exact Qa9 _),List.drop_eq_getElem_cons hl,List.findIdx_cons,hg];rfl
def AcX:∀ (f:Nat) (x:ByteArray),szL szToken (feed f x).1+(feed f x).2.size<=x.size+(if idxB 60 x=0 then 0 else 1):=by
 intro f
 induction f with
 | zero=>intro x;have:szL szToken []=0:=rfl;simp only[feed];omega
 | succ f ih=>
  intro x;have hl:=G7 62 x;have h3:szL B9 []=0:=rfl;have h4:szL szToken []=0:=rfl;simp only[feed];split
  ·rename_i hc;have:=ih (x.extract (idxB 60 x) x.size);have hz:idxB 60 (x.extract (idxB 60 x) x.size)=0:=Aho hc.2;rw[Ah];rw[Qa3 hz] at this;rw[Qa5 o_];simp only[szToken,Qc1,show ByteArray.size ⟨#[]⟩=0 from rfl,h3] at *
   omega
  ·split
   ·simp_all
   ·rename_i hc;have:=ih (x.extract (idxB 62 x+1) x.size);have ht:=Aca (x.extract 1 (idxB 62 x));have ho:=UD (x:=x) o_ o_;rw[Qc1] at this ht;rw[Qa3 (show idxB 60 x=0 from o_)];have h5:szL szToken (feed f (x.extract (idxB 62 x+1) x.size)).1+(feed f (x.extract (idxB 62 x+1) x.size)).2.size<=x.size-(idxB 62 x+1)+1:=by split at this<;>omega
    split
    ·simp only[Ah];omega
    ·dsimp only;omega
def endText (r:ByteArray):List Si_:=if r=⟨#[]⟩\/r.data.getD 0 0=60 then[] else[⟨3,⟨#[]⟩,[],r⟩]
def Qn (r:ByteArray):szL szToken (endText r)<=r.size+1:=by
 unfold endText;have h3:szL B9 []=0:=rfl;have h4:szL szToken []=0:=rfl;split
 ·omega
 ·rw[Ah];simp only[szToken,h3,h4,show ByteArray.size ⟨#[]⟩=0 from rfl];omega
def AhQ {s:ByteArray} {i:Nat}:((s.data.getD i 0).toNat:Int)=60↔s.data.getD i 0=60:=Aij (b:=60) o_
def Acx {s:ByteArray} (h:¬ s=⟨#[]⟩):0<s.size:=by
 rcases Nat.eq_zero_or_pos s.size with h0|h0
 ·exact absurd (ByteArray.ext (Array.eq_empty_of_size_eq_zero h0)) h
 ·exact h0
abbrev Hm:Fct:=⟨[.v (.el .tokenizer)],[.sl .token],λ(x_:Sq_×Unit)=>x_.1.rest.size<=1000000000000,λ(x_:Sq_×Unit)=>(endText x_.1.rest,())⟩
theorem q1 (t:Sq_) (hp:Hm.pre (t,())):Out.holds (Hm.ctr (t,())).post (.br (t.rest.toList==(⟨#[]⟩:ByteArray).toList) (.lf Hm ([],())) (.ob ((0:Int)<=(0:Int)/\(0:Int)<(t.rest.size:Int))<|.br ((↑(t.rest.data.getD 0 0).toNat:Int)==60) (.lf Hm ([],())) (.lf Hm ([(⟨(3:Int),(⟨#[]⟩:ByteArray),[],t.rest⟩:Si_)],())))):=by
 refine Aa (λh1=>lfY ?_) (λh1=>Ac ?_ λ_=>Aa (λh3=>lfY ?_) (λh3=>lfY ?_));all_goals try simp only[std,Nat.reduceAdd,endText,AhQ] at *
 all_goals have hz:=@Acx t.rest
 all_goals first|trivial|omega|(have:=hz ‹_›;omega)|rw[Qa3 (by first|exact .inl ‹_›|exact .inr ‹_›)]|rw[Qa5 (by rintro(h|h)<;>contradiction)]
def Akr:=Amf.a Hm<|Fct.o (KP [1,2] [11]) Amf.2 func147 (by
 rintro⟨(t:Sq_),_⟩ hp;exact ho _ (q1 t hp))
def Ak7:=Akr.a Hm<|Fct.o (KP [1,2] [11]) Akr.2 func116 (by
 rintro⟨(t:Sq_),_⟩ hp;exact ho _ (q1 t hp))
def OA (r:ByteArray):(endText r).length<=1:=by unfold endText;split<;>simp
theorem dflt_rest:(default:Sq_).rest=⟨#[]⟩/\(∀ s:ByteArray,(⟨#[]⟩:ByteArray)++s=s)/\ByteArray.size ⟨#[]⟩=0:=⟨rfl,λs=>ByteArray.ext (by simp),rfl⟩
def tokensOf (s:ByteArray):List Si_:=(feedAll s).1++endText (feedAll s).2
def MA (x:ByteArray):szL szToken (feedAll x).1+(feedAll x).2.size<=x.size+1:=by
 have:=AcX (x.size+1) x;unfold feedAll;grind
def O0 (x:ByteArray):(feedAll x).1.length+(feedAll x).2.size<=x.size+1:=by
 have:=MA x;have:=Ab szToken (feedAll x).1;omega
abbrev HD:Fct:=⟨[.v (.el .str)],[.sl .token],λ(x_:Ty48_)=>x_.1.size<=10000000,λ(x_:Ty48_)=>(tokensOf x_.1,())⟩
theorem q2 (s:ByteArray) (hp:HD.pre (s,())):Out.holds (HD.ctr (s,())).post (.cl Im (default,s,()) λz2=>.cl Hm (z2.2.1,()) λz3=>.ob (Ij (z2.1.length+z3.1.length) 64)<|.lf HD (z2.1++z3.1,())):=by
 refine Af ?_ λ_=>(Af ?_ λ_=>(Ac ?_ λ_=>lfY ?_))
 all_goals
  have hz:=O0 s;have he:=OA (feedAll s).2;try simp only[std,Nat.reduceAdd,tokensOf,dflt_rest] at *
  try simp(disch:=omega) only[wrapId',toNat1] at *
  try simp(disch:=omega) only[Qa3,Qa5]
 all_goals first|trivial|omega|grind[wrapId',toNat1,drop_cons,drop_end,good_len,maxLen,tokensOf,dflt_rest]
def Ams:=Ak7.a HD<|Fct.o [0,2,3,4] Ak7.2 func344 (by
 rintro⟨(s:ByteArray),_⟩ hp;exact ho _ (q2 s hp))
def arriveText (p:Sa_) (s:ByteArray):Sa_:=if p.ended=true then p else{ p with bn:=p.bn++(feedAll (p.tok.rest++s)).1,tok:=⟨(feedAll (p.tok.rest++s)).2⟩}
abbrev D6:Fct:=⟨[.v (.el .page),.v (.el .str)],[.el .page],λ(x_:Ty95_)=>Ag x_.1<=1000000000000/\x_.1.tok.rest.size<=10000000/\x_.2.1.size<=10000000,λ(x_:Ty95_)=>(arriveText x_.1 x_.2.1,())⟩
theorem q3 (p:Sa_) (s:ByteArray) (hp:D6.pre (p,s,())):Out.holds (D6.ctr (p,s,())).post (.cl AC (p,()) λz2=>.br (p.ended) (.lf D6 (z2.1,())) (.cl Im (p.tok,s,()) λz3=>.ob (Ij (z2.1.bn.length+z3.1.length) 64)<|.lf D6 ({z2.1 with tok:=z3.2.1,bn:=z2.1.bn++z3.1},()))):=by
 refine Af ?_ λ_=>(Aa (λh2=>lfY ?_) (λh2=>Af ?_ λ_=>(Ac ?_ λ_=>lfY ?_)))
 all_goals
  have hz:=O0 (p.tok.rest++s);have hl2:=Ab szToken p.bn;have hq:szL szToken p.bn+p.tok.rest.size<=Ag p:=by simp only[Ag,GC];omega
 all_goals rw[Qa6] at hz
 all_goals
  try simp only[std,Nat.reduceAdd,arriveText] at *
  try simp(disch:=omega) only[wrapId',toNat1] at *
  try simp(disch:=omega) only[Qa3,Qa5]
 all_goals first|trivial|omega|grind[wrapId',toNat1,drop_cons,drop_end,good_len,maxLen,arriveText]
def AlX:=Ams.a D6<|Fct.o (KP [1,2,4,5,6,7] [11]) Ams.2 func61 (by
 rintro⟨(p:Sa_),(s:ByteArray),_⟩ hp;exact ho _ (q3 p s hp))
def endPage (p:Sa_):Sa_:=if p.ended=true then p else{ p with bn:=p.bn++endText p.tok.rest,tok:=default,ended:=true }
abbrev HX:Fct:=⟨[.v (.el .page)],[.el .page],λ(x_:Ty13_)=>Ag x_.1<=1000000000000,λ(x_:Ty13_)=>(endPage x_.1,())⟩
theorem q15 (p:Sa_) (hp:HX.pre (p,())):Out.holds (HX.ctr (p,())).post (.cl AC (p,()) λz2=>.br (p.ended) (.lf HX (z2.1,())) (.cl Hm (p.tok,()) λz3=>.ob (Ij (z2.1.bn.length+z3.1.length) 64)<|.lf HX ({z2.1 with tok:=default,bn:=z2.1.bn++z3.1,ended:=true},()))):=hz ((an_ @endPage.eq_1<|an_ (OA p.tok.rest)<|an_ (Ab szToken p.bn)<|(by simp only[Ag,GC];omega:szL szToken p.bn+p.tok.rest.size<=Ag p)))
def AiL:=AlX.a HX<|Fct.o (KP [1,2,3] [7]) AlX.2 func62 (by
 rintro⟨(p:Sa_),_⟩ hp;exact ho _ (q15 p hp))
def Al5:=AiL.a HX<|Fct.o (KP [1,2,3] [7]) AiL.2 func39 (by
 rintro⟨(p:Sa_),_⟩ hp;exact ho _ (q15 p hp))
def stylesReady (l:List Sl_):Bool:=l.all λs=>!(decide (s.mode=2) && !s.done)
def SX {l:List Sl_} {i:Nat} (h:i<l.length):stylesReady (l.drop i)=(!(decide ((l.getD i default).mode=2) && !(l.getD i default).done)&&stylesReady (l.drop (i+1))):=by rw[drop_cons h];rfl
def PS {l:List Sl_} {i:Nat} (h:l.length<=i):stylesReady (l.drop i)=true:=by rw[Qb2 h];rfl
abbrev Bt:Fct:=⟨[.v (.el .page)],[.el .bool],λ(x_:Ty13_)=>x_.1.bf.length<=1000000000000,λ(x_:Ty13_)=>(stylesReady x_.1.bf,())⟩
abbrev BS (p:Sa_):LInv:=⟨[⟨.s,3,true,.el .int⟩,⟨.b,1,false,.el .page⟩],λ(z_ x_:Int×Sa_×Unit)=>(0<=x_.1/\x_.1<=p.bf.length/\stylesReady (p.bf.drop x_.1.toNat)=stylesReady p.bf)/\x_.2.1=z_.2.1,λ(x_:Int×Sa_×Unit)=>p.bf.length-x_.1.toNat⟩
def AkE:=Al5.a Bt<|Fct.p (KP [1,2,3] [8,26]) (λ⟨p,_⟩=>lv [(2,BS p)]) Al5.2 func245 (by
 rintro⟨(p:Sa_),_⟩ hp;exact hg (.lq (Int×Sa_×PUnit) (BS p).inv (BS p).m ((0:Int),(p,())) λy1 bk1=>.br (decide (y1.1<(y1.2.1.bf.length:Int))) (.ob (inB y1.1 y1.2.1.bf.length)<|.br ((y1.2.1.bf.getD y1.1.toNat default).mode==2) (.ob (inB y1.1 y1.2.1.bf.length)<|.br (!(y1.2.1.bf.getD y1.1.toNat default).done) (.lf Bt (false,())) (.bk (bk1 (w1 y1.1,(y1.2.1,()))))) (.bk (bk1 (w1 y1.1,(y1.2.1,()))))) (.lf Bt (true,()))) (an_ @SX<|@PS))
abbrev BK (p:Sa_):LInv:=⟨[⟨.s,8,true,.el .int⟩],λ_ (x_:Ty3_)=>0<=x_.1/\x_.1<=p.bf.length/\stylesReady (p.bf.drop x_.1.toNat)=stylesReady p.bf,λ(x_:Ty3_)=>p.bf.length-x_.1.toNat⟩
def Alj:=AkE.a Bt<|Fct.p (KP [1,2,4,6,7,8] [9,19]) (λ⟨p,_⟩=>lv [(2,BK p)]) AkE.2 func208 (by
 rintro⟨(p:Sa_),_⟩ hp;exact hg (.lq (Int×PUnit) (BK p).inv (BK p).m ((0:Int),()) λy1 bk1=>.br (decide (y1.1<(p.bf.length:Int))) (.ob (inB y1.1 p.bf.length)<|.br ((p.bf.getD y1.1.toNat default).mode==2) (.br (!(p.bf.getD y1.1.toNat default).done) (.lf Bt (false,())) (.re (p.bf)<|.re (Value.int IntKind.i64 (p.bf.length:Int))<|.bk (bk1 (w1 y1.1,())))) (.re (p.bf)<|.re (Value.int IntKind.i64 (p.bf.length:Int))<|.bk (bk1 (w1 y1.1,())))) (.lf Bt (true,()))) (an_ @SX<|@PS))
def textOf (n:Int):List Sv_->ByteArray->ByteArray
 | [],s=>s
 | x::l,s=>textOf n l (if x.parent=n/\x.name=⟨#[]⟩ then s++x.text else s)
def SA {n:Int} {l:List Sv_} {i:Nat} {s:ByteArray} (h:i<l.length):textOf n (l.drop i) s=textOf n (l.drop (i+1)) (if(l.getD i default).parent=n/\(l.getD i default).name=⟨#[]⟩ then s++(l.getD i default).text else s):=by rw[drop_cons h];rfl
def Pv {n:Int} {l:List Sv_} {i:Nat} {s:ByteArray} (h:l.length<=i):textOf n (l.drop i) s=s:=by rw[Qb2 h];rfl
abbrev LU:Fct:=⟨[.v (.el .ba),.v (.el .int)],[.el .str],λ(x_:Ty96_)=>szBuilder x_.1<=1000000000000,λ(x_:Ty96_)=>(textOf x_.2.1 x_.1.bi ⟨#[]⟩,())⟩
abbrev FW (b:Se_) (n:Int):LInv:=⟨[⟨.s,5,true,.el .str⟩,⟨.s,6,true,.el .int⟩,⟨.b,2,false,.el .ba⟩],λ(z_ x_:Ty97_)=>(0<=x_.2.1/\x_.2.1<=b.bi.length/\x_.1.size+szL AK (b.bi.drop x_.2.1.toNat)<=szL AK b.bi/\textOf n (b.bi.drop x_.2.1.toNat) x_.1=textOf n b.bi ⟨#[]⟩)/\x_.2.2.1=z_.2.2.1,λ(x_:Ty97_)=>b.bi.length-x_.2.1.toNat⟩
def All:=Alj.a LU<|Fct.p (KP [1,2,4,5,6] [11,30]) (λ⟨b,n,_⟩=>lv [(3,FW b n)]) Alj.2 func247 (by
 rintro⟨(b:Se_),(n:Int),_⟩ hp;exact hg (let q5_:=Value.int IntKind.i64 n;let q4_:=FW b n;let q3_:=(⟨#[]⟩:ByteArray);.lq (ByteArray×Int×Se_×PUnit) q4_.inv q4_.m (q3_,((0:Int),(b,()))) λy1 bk1=>let q2_:=inB y1.2.1 y1.2.2.1.bi.length;let q1_:=y1.2.2.1.bi.getD y1.2.1.toNat default;let q0_:Out:=.re q5_<|.re (Value.string q3_)<|.bk (bk1 (y1.1,(w1 y1.2.1,(y1.2.2.1,()))));.br (decide (y1.2.1<(y1.2.2.1.bi.length:Int))) (.ob q2_<|.br (q1_.parent==n) (.ob q2_<|.br (q1_.name.toList==q3_.toList) (.ob q2_<|.ob (sameSize y1.1 q1_.text)<|.re q5_<|.re (Value.string q3_)<|.bk (bk1 (y1.1++q1_.text,(w1 y1.2.1,(y1.2.2.1,()))))) q0_) q0_) (.lf LU (y1.1,()))) (an_ @SA<|an_ @Pv<|an_ @sameSize.eq_1<|an_ @Qa6<|an_ @AK.eq_1<|an_ (Ab AK b.bi)<|an_ (by simp only[szBuilder];omega:szL AK b.bi<=szBuilder b)<|(λi h=>OT AK h:∀ i,i<b.bi.length->szL AK (b.bi.drop i)=AK (b.bi.getD i default)+1+szL AK (b.bi.drop (i+1)))))
abbrev FP (b:Se_) (n:Int):LInv:=⟨[⟨.s,5,true,.el .str⟩,⟨.s,11,true,.el .int⟩],λ_ (x_:Ty67_)=>0<=x_.2.1/\x_.2.1<=b.bi.length/\x_.1.size+szL AK (b.bi.drop x_.2.1.toNat)<=szL AK b.bi/\textOf n (b.bi.drop x_.2.1.toNat) x_.1=textOf n b.bi ⟨#[]⟩,λ(x_:Ty67_)=>b.bi.length-x_.2.1.toNat⟩
def AlN:=All.a LU<|Fct.p (KP [1,2,4,5,7,9,10,11] [12,23]) (λ⟨b,n,_⟩=>lv [(3,FP b n)]) All.2 func210 (by
 rintro⟨(b:Se_),(n:Int),_⟩ hp;exact hg (let q6_:=Value.int IntKind.i64 n;let q5_:=(b.bi.length:Int);let q4_:=FP b n;let q3_:=Value.int IntKind.i64 q5_;let q2_:=(⟨#[]⟩:ByteArray);.lq (ByteArray×Int×PUnit) q4_.inv q4_.m (q2_,((0:Int),())) λy1 bk1=>let q1_:=b.bi.getD y1.2.1.toNat default;let q0_:Out:=.re q6_<|.re (Value.string q2_)<|.re (b.bi)<|.re q3_<|.bk (bk1 (y1.1,(w1 y1.2.1,())));.br (decide (y1.2.1<q5_)) (.ob (inB y1.2.1 b.bi.length)<|.br (q1_.parent==n) (.br (q1_.name.toList==q2_.toList) (.ob (sameSize y1.1 q1_.text)<|.re q6_<|.re (Value.string q2_)<|.re (b.bi)<|.re q3_<|.bk (bk1 (y1.1++q1_.text,(w1 y1.2.1,())))) q0_) q0_) (.lf LU (y1.1,()))) (an_ @SA<|an_ @Pv<|an_ @sameSize.eq_1<|an_ @Qa6<|an_ @AK.eq_1<|an_ (Ab AK b.bi)<|an_ (by simp only[szBuilder];omega:szL AK b.bi<=szBuilder b)<|(λi h=>OT AK h:∀ i,i<b.bi.length->szL AK (b.bi.drop i)=AK (b.bi.getD i default)+1+szL AK (b.bi.drop (i+1)))))
def countName (n:ByteArray) (l:List Sv_):Int:=CF (λx=>decide (x.name=n)) l
abbrev DK:Fct:=⟨[.v (.el .ba),.v (.el .str)],[.el .int],λ(x_:Ty98_)=>x_.1.bi.length<=1000000000000,λ(x_:Ty98_)=>(countName x_.2.1 x_.1.bi,())⟩
abbrev Ch (b:Se_) (n:ByteArray):LInv:=⟨[⟨.s,5,true,.el .int⟩,⟨.s,6,true,.el .int⟩,⟨.b,2,false,.el .ba⟩],λ(z_ x_:Ty99_)=>(0<=x_.2.1/\x_.2.1<=b.bi.length/\0<=x_.1/\x_.1<=x_.2.1/\x_.1+CF (λx=>decide (x.name=n)) (b.bi.drop x_.2.1.toNat)=countName n b.bi)/\x_.2.2.1=z_.2.2.1,λ(x_:Ty99_)=>b.bi.length-x_.2.1.toNat⟩
def AkS:=AlN.a DK<|Fct.p (KP [1,2,4,5,6] [11,21]) (λ⟨b,n,_⟩=>lv [(3,Ch b n)]) AlN.2 func425 (by
 rintro⟨(b:Se_),(n:ByteArray),_⟩ hp;exact hg (.lq (Int×Int×Se_×PUnit) (Ch b n).inv (Ch b n).m ((0:Int),((0:Int),(b,()))) λy1 bk1=>.br (decide (y1.2.1<(y1.2.2.1.bi.length:Int))) (.ob (inB y1.2.1 y1.2.2.1.bi.length)<|.br ((y1.2.2.1.bi.getD y1.2.1.toNat default).name.toList==n.toList) (.re (Value.string n)<|.re (Value.int IntKind.i64 (0:Int))<|.bk (bk1 (w1 y1.1,(w1 y1.2.1,(y1.2.2.1,()))))) (.re (Value.string n)<|.re (Value.int IntKind.i64 (0:Int))<|.bk (bk1 (y1.1,(w1 y1.2.1,(y1.2.2.1,())))))) (.lf DK (y1.1,()))) (an_ @countName.eq_1<|an_ @CF.eq_1<|an_ @CF.eq_2<|@Gr))
abbrev Ca (b:Se_) (n:ByteArray):LInv:=⟨[⟨.s,5,true,.el .int⟩,⟨.s,11,true,.el .int⟩],λ_ (x_:Ty1_)=>0<=x_.2.1/\x_.2.1<=b.bi.length/\0<=x_.1/\x_.1<=x_.2.1/\x_.1+CF (λx=>decide (x.name=n)) (b.bi.drop x_.2.1.toNat)=countName n b.bi,λ(x_:Ty1_)=>b.bi.length-x_.2.1.toNat⟩
def Ajq:=AkS.a DK<|Fct.p (KP [1,2,4,5,7,9,10,11] [12,18]) (λ⟨b,n,_⟩=>lv [(3,Ca b n)]) AkS.2 func440 (by
 rintro⟨(b:Se_),(n:ByteArray),_⟩ hp;exact hg (.lq (Int×Int×PUnit) (Ca b n).inv (Ca b n).m ((0:Int),((0:Int),())) λy1 bk1=>.br (decide (y1.2.1<(b.bi.length:Int))) (.ob (inB y1.2.1 b.bi.length)<|.br ((b.bi.getD y1.2.1.toNat default).name.toList==n.toList) (.re (Value.string n)<|.re (Value.int IntKind.i64 (0:Int))<|.re (b.bi)<|.re (Value.int IntKind.i64 (b.bi.length:Int))<|.bk (bk1 (w1 y1.1,(w1 y1.2.1,())))) (.re (Value.string n)<|.re (Value.int IntKind.i64 (0:Int))<|.re (b.bi)<|.re (Value.int IntKind.i64 (b.bi.length:Int))<|.bk (bk1 (y1.1,(w1 y1.2.1,()))))) (.lf DK (y1.1,()))) (an_ @countName.eq_1<|an_ @CF.eq_1<|an_ @CF.eq_2<|@Gr))
def colR (n:ByteArray) (rs:List Sw_) (z:Int):Nat->Int
 | 0=>z
 | m+1=>if(rs.getD m default).name=n then(rs.getD m default).color else colR n rs z m
def colS (n:ByteArray) (l:List So_):Nat->Int
 | 0=>0
 | m+1=>colR n (l.getD m default).rules (colS n l m) (l.getD m default).rules.length
def colorOf (l:List So_) (n:ByteArray):Int:=colS n l l.length
def R7 {n:ByteArray} {rs:List Sw_} {z k:Int} (h:0<=k):colR n rs z (k+1).toNat=if(rs.getD k.toNat default).name=n then(rs.getD k.toNat default).color else colR n rs z k.toNat:=by
 rw[show(k+1).toNat=k.toNat+1 from o_];rfl
def QF {n:ByteArray} {l:List So_} {k:Int} (h:0<=k):colS n l (k+1).toNat=colR n (l.getD k.toNat default).rules (colS n l k.toNat) (l.getD k.toNat default).rules.length:=by
 rw[show(k+1).toNat=k.toNat+1 from o_];rfl
def Vm {n:ByteArray} {rs:List Sw_} {z k:Int} (h:k<0):colR n rs z (k+1).toNat=z:=by
 rw[show(k+1).toNat=0 from o_];rfl
def Vz {n:ByteArray} {l:List So_} {k:Int} (h:k<0):colS n l (k+1).toNat=0:=by
 rw[show(k+1).toNat=0 from o_];rfl
def WP {n:ByteArray} {l:List So_}:colS n l ((l.length:Int)-1+1).toNat=colorOf l n:=by
 rw[show((l.length:Int)-1+1).toNat=l.length from o_];rfl
def Nm {n:ByteArray} {rs:List Sw_} {z:Int}:colR n rs z ((rs.length:Int)-1+1).toNat=colR n rs z rs.length:=by
 simp
abbrev Fc:Fct:=⟨[.v (.sl .sheet),.v (.el .str)],[.el .int],λ(x_:Ty100_)=>szL DM x_.1<=1000000000000,λ(x_:Ty100_)=>(colorOf x_.1 x_.2.1,())⟩
abbrev EN (l:(List So_)) (n:ByteArray):LInv:=⟨[⟨.s,5,true,.el .int⟩],λ_ (x_:Ty3_)=>-1<=x_.1/\x_.1<l.length/\colS n l (x_.1+1).toNat=colorOf l n,λ(x_:Ty3_)=>(x_.1+1).toNat⟩
abbrev EK (l:(List So_)) (n:ByteArray):LInv:=⟨[⟨.s,6,true,.el .int⟩,⟨.s,5,true,.el .int⟩],λ(z_ x_:Ty1_)=>x_.2.1=z_.2.1/\0<=x_.2.1/\x_.2.1<l.length/\-1<=x_.1/\x_.1<(l.getD x_.2.1.toNat default).rules.length/\colR n (l.getD x_.2.1.toNat default).rules (colS n l x_.2.1.toNat) (x_.1+1).toNat=colorOf l n,λ(x_:Ty1_)=>(x_.1+1).toNat⟩
def Aj6:=Ajq.a Fc<|Fct.p (KP [0,1,4,5,6] [11,22,35]) (λ⟨l,n,_⟩=>λ|2=>some (EN l n)|5=>some (EK l n)|_=>none) Ajq.2 func426 (by
 rintro⟨(l:List So_),(n:ByteArray),_⟩ hp;refine ho (lpx (EN l n) (wr ((l.length:Int)-(1:Int)),()) λ(y1:Ty3_) bk1=>.br (decide (y1.1>=0)) (.ob (inB y1.1 l.length)<|lpx (EK l n) (wr ((↑(l.getD y1.1.toNat default).rules.length:Int)-(1:Int)),(y1.1,())) λ(y4:Ty1_) bk4=>let q3_:=inB y4.2.1 l.length;let q0_:=l.getD y4.2.1.toNat default;let q2_:=q0_.rules.getD y4.1.toNat default;let q1_:=0<=y4.1/\y4.1<(q0_.rules.length:Int);.br (decide (y4.1>=0)) (.ob q3_<|.ob q1_<|.br (q2_.name.toList==n.toList) (.ob q3_<|.ob q1_<|.lf Fc (q2_.color,())) (.re (l)<|.re (Value.string n)<|.bk (bk4 (wr (y4.1-(1:Int)),(y4.2.1,()))))) (.re (l)<|.re (Value.string n)<|.bk (bk1 (wr (y4.2.1-(1:Int)),())))) (.lf Fc ((0:Int),()))) ?_;refine Au ?_ λ(y1:Ty3_) i1=>Aa (λh2=>Ac ?_ λ_=>Au ?_ λ(y4:Ty1_) i4=>Aa (λh5=>Ac ?_ λ_=>Ac ?_ λ_=>Aa (λh8=>Ac ?_ λ_=>Ac ?_ λ_=>lfY ?_) (λh8=>An<|An<|A8 ?_)) (λh5=>An<|An<|A8 ?_)) (λh2=>lfY ?_)
 all_goals
  have hl:=Ab DM l;have hx:∀ i,i<l.length->(l.getD i default).rules.length<=1000000000000:=λi h=>by have:=C6 DM (l:=l) h;have h2:=Ab N2 (l.getD i default).rules;have h3:szL DM l<=1000000000000:=hp;simp only[DM] at this;omega
  try simp only[std,Nat.reduceAdd] at *
 all_goals first|trivial|omega|(rw[Al o_];exact⟨o_,o_,WP⟩)|(obtain⟨a1,a2,a3⟩:=i1)
 all_goals first|trivial|omega|(have:=hx y1.1.toNat o_;rw[Al o_];first|exact⟨o_,o_,o_,o_,o_,by rw[Nm,<-QF o_];exact a3⟩|exact⟨o_,o_,o_,o_,by rw[Nm,<-QF o_];exact a3⟩)|(rw[Vz o_] at a3;exact a3)|(obtain⟨b0,b1,b2,b3,b4,b5⟩:=i4)
 all_goals first|(have:=hx y4.2.1.toNat o_)|skip
 all_goals first|(rw[R7 o_,Qa3 ‹_›] at b5;exact b5)|(rw[R7 o_,Qa5 ‹_›] at b5;rw[Al o_,show(y4.1-1+1).toNat=y4.1.toNat from o_];exact⟨⟨o_,o_,o_,o_,o_,b5⟩,o_⟩)|(rw[Vm o_] at b5;rw[Al o_,show(y4.2.1-1+1).toNat=y4.2.1.toNat from o_];exact⟨⟨o_,o_,b5⟩,o_⟩)|omega|skip)
abbrev EV (l:(List So_)) (n:ByteArray):LInv:=⟨[⟨.s,5,true,.el .int⟩],λ_ (x_:Ty3_)=>-1<=x_.1/\x_.1<l.length/\colS n l (x_.1+1).toNat=colorOf l n,λ(x_:Ty3_)=>(x_.1+1).toNat⟩
abbrev EQ (l:(List So_)) (n:ByteArray):LInv:=⟨[⟨.s,6,true,.el .int⟩,⟨.s,5,true,.el .int⟩],λ(z_ x_:Ty1_)=>x_.2.1=z_.2.1/\0<=x_.2.1/\x_.2.1<l.length/\-1<=x_.1/\x_.1<(l.getD x_.2.1.toNat default).rules.length/\colR n (l.getD x_.2.1.toNat default).rules (colS n l x_.2.1.toNat) (x_.1+1).toNat=colorOf l n,λ(x_:Ty1_)=>(x_.1+1).toNat⟩
def AiZ:=Aj6.a Fc<|Fct.p (KP [0,1,4,5,6] [11,22,35]) (λ⟨l,n,_⟩=>λ|2=>some (EV l n)|5=>some (EQ l n)|_=>none) Aj6.2 func441 (by
 rintro⟨(l:List So_),(n:ByteArray),_⟩ hp;refine ho (lpx (EV l n) (wr ((l.length:Int)-(1:Int)),()) λ(y1:Ty3_) bk1=>.br (decide (y1.1>=0)) (.ob (inB y1.1 l.length)<|lpx (EQ l n) (wr ((↑(l.getD y1.1.toNat default).rules.length:Int)-(1:Int)),(y1.1,())) λ(y4:Ty1_) bk4=>let q3_:=inB y4.2.1 l.length;let q0_:=l.getD y4.2.1.toNat default;let q2_:=q0_.rules.getD y4.1.toNat default;let q1_:=0<=y4.1/\y4.1<(q0_.rules.length:Int);.br (decide (y4.1>=0)) (.ob q3_<|.ob q1_<|.br (q2_.name.toList==n.toList) (.ob q3_<|.ob q1_<|.lf Fc (q2_.color,())) (.re (l)<|.re (Value.string n)<|.bk (bk4 (wr (y4.1-(1:Int)),(y4.2.1,()))))) (.re (l)<|.re (Value.string n)<|.bk (bk1 (wr (y4.2.1-(1:Int)),())))) (.lf Fc ((0:Int),()))) ?_;refine Au ?_ λ(y1:Ty3_) i1=>Aa (λh2=>Ac ?_ λ_=>Au ?_ λ(y4:Ty1_) i4=>Aa (λh5=>Ac ?_ λ_=>Ac ?_ λ_=>Aa (λh8=>Ac ?_ λ_=>Ac ?_ λ_=>lfY ?_) (λh8=>An<|An<|A8 ?_)) (λh5=>An<|An<|A8 ?_)) (λh2=>lfY ?_)
 all_goals
  have hl:=Ab DM l;have hx:∀ i,i<l.length->(l.getD i default).rules.length<=1000000000000:=λi h=>by have:=C6 DM (l:=l) h;have h2:=Ab N2 (l.getD i default).rules;have h3:szL DM l<=1000000000000:=hp;simp only[DM] at this;omega
  try simp only[std,Nat.reduceAdd] at *
 all_goals first|trivial|omega|(rw[Al o_];exact⟨o_,o_,WP⟩)|(obtain⟨a1,a2,a3⟩:=i1)
 all_goals first|trivial|omega|(have:=hx y1.1.toNat o_;rw[Al o_];first|exact⟨o_,o_,o_,o_,o_,by rw[Nm,<-QF o_];exact a3⟩|exact⟨o_,o_,o_,o_,by rw[Nm,<-QF o_];exact a3⟩)|(rw[Vz o_] at a3;exact a3)|(obtain⟨b0,b1,b2,b3,b4,b5⟩:=i4)
 all_goals first|(have:=hx y4.2.1.toNat o_)|skip
 all_goals first|(rw[R7 o_,Qa3 ‹_›] at b5;exact b5)|(rw[R7 o_,Qa5 ‹_›] at b5;rw[Al o_,show(y4.1-1+1).toNat=y4.1.toNat from o_];exact⟨⟨o_,o_,o_,o_,o_,b5⟩,o_⟩)|(rw[Vm o_] at b5;rw[Al o_,show(y4.2.1-1+1).toNat=y4.2.1.toNat from o_];exact⟨⟨o_,o_,b5⟩,o_⟩)|omega|skip)
def words8:List ByteArray:=[⟨#[]⟩,⟨#[119,114,105,116,101,32]⟩,⟨#[97,100,100,32]⟩,⟨#[99,111,117,110,116,32]⟩,⟨#[108,111,111,107,32]⟩,⟨#[115,97,121,32]⟩]
abbrev Un:Fct:=⟨[],[.sl .str],λ(x_:Unit)=>True,λ(x_:Unit)=>(words8,())⟩
def Ajk:=AiZ.a Un<|Fct.o [0] AiZ.2 func423 (by
 rintro⟨_⟩ hp;exact hg (.lf Un ([(⟨#[]⟩:ByteArray),(⟨#[119,114,105,116,101,32]⟩:ByteArray),(⟨#[97,100,100,32]⟩:ByteArray),(⟨#[99,111,117,110,116,32]⟩:ByteArray),(⟨#[108,111,111,107,32]⟩:ByteArray),(⟨#[115,97,121,32]⟩:ByteArray)],())) (@words8.eq_1))
def line8L (s:ByteArray):List ByteArray->Int->Sr_×Bool
 | [],_=>(default,false)
 | w::l,op=>if w.size<=s.size/\s.extract 0 w.size=w then(⟨op,s.extract w.size s.size⟩,if op=1\/op=5 then decide (s.size-w.size<=60) else isName (s.extract w.size s.size)) else line8L s l (op+1)
def Aag {s:ByteArray} {l:List ByteArray} {i:Nat} {k:Int} (h:i<l.length):line8L s (l.drop i) k=if(l.getD i default).size<=s.size/\s.extract 0 (l.getD i default).size=l.getD i default then(⟨k,s.extract (l.getD i default).size s.size⟩,if k=1\/k=5 then decide (s.size-(l.getD i default).size<=60) else isName (s.extract (l.getD i default).size s.size)) else line8L s (l.drop (i+1)) (k+1):=by rw[drop_cons h];rfl
def XZ {s:ByteArray} {l:List ByteArray} {i:Nat} {k:Int} (h:l.length<=i):line8L s (l.drop i) k=(default,false):=by rw[Qb2 h];rfl
def line8 (s:ByteArray):Sr_×Bool:=line8L s (words8.drop 1) 1
def L7:words8.length=6:=rfl
abbrev Qi:Fct:=⟨[.v (.el .str)],[.el .line,.el .bool],λ(x_:Ty48_)=>x_.1.size<=1000000000000,λ(x_:Ty48_)=>((line8 x_.1).1,(line8 x_.1).2,())⟩
abbrev Gm (s:ByteArray):LInv:=⟨[⟨.s,5,true,.el .int⟩,⟨.b,2,true,.el .line⟩,⟨.s,4,true,.sl .str⟩],λ(z_ x_:Ty101_)=>((1<=x_.1/\x_.1<=6/\line8L s (words8.drop x_.1.toNat) x_.1=line8 s)/\x_.2.1=z_.2.1)/\x_.2.2.1=z_.2.2.1,λ(x_:Ty101_)=>(6-x_.1).toNat⟩
def Amh:=Ajk.a Qi<|Fct.p (KP [0,2,3,4,5,6,7,8] [13,32]) (λ⟨s,_⟩=>lv [(3,Gm s)]) Ajk.2 func393 (by
 rintro⟨(s:ByteArray),_⟩ hp;refine ho (.cl Un () λz2=>lpx (Gm s) ((1:Int),(default,(z2.1,()))) λ(y1:Ty101_) bk1=>let q9_:=y1.2.2.1.getD y1.1.toNat default;let q5_:Out:=.re (Value.string s)<|.bk (bk1 (w1 y1.1,(y1.2.1,(y1.2.2.1,()))));let q0_:=(q9_.size:Int);let q8_:=(0:Int)<=q0_/\q0_<=(s.size:Int);let q7_:=decide ((↑(s.extract q0_.toNat s.size).size:Int)<=60);let q6_:Out:=.lf Qi (⟨y1.1,s.extract q0_.toNat s.size⟩,true,());let q4_:Out:=.lf Qi (⟨y1.1,s.extract q0_.toNat s.size⟩,false,());let q3_:Out:=.cl BH (s.extract q0_.toNat s.size,()) λz3=>.lf Qi (⟨y1.1,s.extract q0_.toNat s.size⟩,z3.1,());let q10_:Out:=.br (!y1.1==5) q3_ q4_;let q2_:Out:=.br q7_ q6_ (.br (!true) q3_ q4_);let q1_:Out:=.br (y1.1==5) (.br q7_ q6_ q10_) q10_;.br (decide (y1.1<(y1.2.2.1.length:Int))) (.ix y1.1 y1.2.2.1.length<|.br (decide ((s.size:Int)>=q0_)) (.ob q8_<|.br ((s.extract 0 q0_.toNat).toList==q9_.toList) (.ob q8_<|.br (y1.1==1) (.lp (Bool) (True) (λx=>True) λy10=>.br (y10) (.lp (Bool) (True) (λx=>True) λy12=>.br (y12) q2_ q2_) q2_) (.lp (Bool) (True) (λx=>True) λy23=>.br (y23) (.lp (Bool) (True) (λx=>True) λy25=>.br (y25) q1_ q1_) q1_)) q5_) q5_) (.lf Qi (default,false,()))) ?_;refine Af trivial λ_=>(Au ?_ λ(y1:Ty101_) i1=>Aa (λh2=>Er ?_ λo3 o4=>Aa (λh5=>Ac ?_ λ_=>Aa (λh7=>Ac ?_ λ_=>Aa (λh9=>LC trivial λy10 i10=>Aa (λh11=>LC trivial λy12 i12=>Aa (λh13=>Aa (λh14=>lfY ?_) (λh14=>Aa (λh15=>Af ?_ λ_=>(lfY ?_)) (λh15=>lfY ?_))) (λh13=>Aa (λh17=>lfY ?_) (λh17=>Aa (λh18=>Af ?_ λ_=>(lfY ?_)) (λh18=>lfY ?_)))) (λh11=>Aa (λh20=>lfY ?_) (λh20=>Aa (λh21=>Af ?_ λ_=>(lfY ?_)) (λh21=>lfY ?_)))) (λh9=>LC trivial λy23 i23=>Aa (λh24=>LC trivial λy25 i25=>Aa (λh26=>Aa (λh27=>Aa (λh28=>lfY ?_) (λh28=>Aa (λh29=>Af ?_ λ_=>(lfY ?_)) (λh29=>lfY ?_))) (λh27=>Aa (λh31=>Af ?_ λ_=>(lfY ?_)) (λh31=>lfY ?_))) (λh26=>Aa (λh33=>Aa (λh34=>lfY ?_) (λh34=>Aa (λh35=>Af ?_ λ_=>(lfY ?_)) (λh35=>lfY ?_))) (λh33=>Aa (λh37=>Af ?_ λ_=>(lfY ?_)) (λh37=>lfY ?_)))) (λh24=>Aa (λh39=>Aa (λh40=>lfY ?_) (λh40=>Aa (λh41=>Af ?_ λ_=>(lfY ?_)) (λh41=>lfY ?_))) (λh39=>Aa (λh43=>Af ?_ λ_=>(lfY ?_)) (λh43=>lfY ?_))))) (λh7=>An<|A8 ?_)) (λh5=>An<|A8 ?_)) (λh2=>lfY ?_))
 all_goals
  have k2:∀ a,(s.extract a s.size).size=s.size-a:=λa=>by rw[Qc1];omega
  try simp only[std,Nat.reduceAdd] at *
 all_goals first|exact⟨o_,o_,rfl⟩|(obtain⟨⟨⟨a1,a2,a3⟩,a4⟩,a5⟩:=i1;simp only[a5,L7,Qg2,k2] at *)
 all_goals first|trivial|omega|skip
 all_goals try (have e:=Aag (s:=s) (l:=words8) (i:=y1.1.toNat) (k:=y1.1) (by rw[L7];omega);rw[a3] at e)
 all_goals first|(rw[Qa5 (by rintro⟨q1,q2⟩;first|omega|exact absurd q2 ‹_›)] at e;rw[Al o_,show(y1.1+1).toNat=y1.1.toNat+1 from o_];exact⟨⟨⟨⟨o_,o_,e.symm⟩,a4⟩,trivial⟩,o_⟩)|skip
 all_goals try (have e:=XZ (s:=s) (l:=words8) (i:=y1.1.toNat) (k:=y1.1) (by rw[L7];omega);rw[a3] at e;rw[e];exact⟨by first|assumption|rfl,rfl⟩)
 all_goals rw[Qa3 (by exact⟨o_,‹_›⟩)] at e
 all_goals rw[e];refine⟨rfl,?_⟩
 all_goals first|rw[Qa3 o_]|rw[Qa5 o_]
 all_goals first|rfl|(rw[Qf4 o_])|(rw[decide_eq_false o_]))
def lines8 (l:List ByteArray):List Sr_:=l.map λw=>(line8 w).1
def allOk8 (l:List ByteArray):Bool:=l.all λw=>(line8 w).2
def parseScript (s:ByteArray):List Sr_×Bool:=if s=⟨#[]⟩ then([],true) else if(spl 59 s).length<=6/\allOk8 (spl 59 s)=true then(lines8 (spl 59 s),true) else([],false)
abbrev Bs:Fct:=⟨[.v (.el .str)],[.sl .line,.el .bool],λ(x_:Ty48_)=>x_.1.size<=4200000000,λ(x_:Ty48_)=>((parseScript x_.1).1,(parseScript x_.1).2,())⟩
def OI {l:List ByteArray} {i:Nat} (h:i<l.length):lines8 (l.take (i+1))=lines8 (l.take i)++[(line8 (l.getD i default)).1]/\allOk8 (l.take (i+1))=(allOk8 (l.take i)&&(line8 (l.getD i default)).2):=by
 rw[take_succ h];exact⟨by simp[lines8],by simp[allOk8]⟩
def Tq {l:List ByteArray} {i:Nat} (h:i<l.length) (h2:(line8 (l.getD i default)).2=false):allOk8 l=false:=by
 unfold allOk8;grind
abbrev CS (s:ByteArray):LInv:=⟨[⟨.s,4,true,.sl .line⟩,⟨.s,6,true,.el .int⟩,⟨.s,5,true,.sl .str⟩],λ(z_ x_:Ty102_)=>(0<=x_.2.1/\x_.2.1<=(spl 59 s).length/\(x_.2.1=0\/(spl 59 s).length<=6)/\x_.1=lines8 ((spl 59 s).take x_.2.1.toNat)/\allOk8 ((spl 59 s).take x_.2.1.toNat)=true)/\x_.2.2.1=z_.2.2.1,λ(x_:Ty102_)=>(spl 59 s).length-x_.2.1.toNat⟩
def Ang:=Amh.a Bs<|Fct.p (KP [0,2,3,4,5,6,7,8] [11,18,35]) (λ⟨s,_⟩=>lv [(6,CS s)]) Amh.2 func341 (by
 rintro⟨(s:ByteArray),_⟩ hp;refine ho (.br (s.toList==(⟨#[]⟩:ByteArray).toList) (.lf Bs ([],true,())) (.cl Fk (s,(59:Int),()) λz2=>lpx (CS s) ([],((0:Int),(z2.1,()))) λ(y3:Ty102_) bk3=>.br (decide (y3.2.1<(y3.2.2.1.length:Int))) (.ix y3.2.1 y3.2.2.1.length<|.cl Qi (y3.2.2.1.getD y3.2.1.toNat default,()) λz3=>.br (!z3.2.1) (.lf Bs ([],false,())) (.br (decide ((y3.2.2.1.length:Int)>6)) (.lf Bs ([],false,())) (.ap (y3.1.length+[z3.1].length) 24<|.re (Value.string s)<|.bk (bk3 (y3.1++[z3.1],(w1 y3.2.1,(y3.2.2.1,()))))))) (.lf Bs (y3.1,true,())))) ?_;refine Aa (λh1=>lfY ?_) (λh1=>Af ?_ λ_=>(Au ?_ λ(y3:Ty102_) i3=>Aa (λh4=>Er ?_ λo5 o6=>Af ?_ λ_=>(Aa (λh8=>lfY ?_) (λh8=>Aa (λh9=>lfY ?_) (λh9=>Ek ?_ λ_=>An<|A8 ?_)))) (λh4=>lfY ?_)));all_goals
  have hk:=D0 59 s;have hm:∀ i,i<(spl 59 s).length->((spl 59 s).getD i default).size<=s.size:=λi h=>Kv (AN h)
  have hp1:s.size<=4200000000:=hp;try simp only[std,Nat.reduceAdd,show UInt8.ofNat (Int.toNat 59)=59 from rfl] at *
 all_goals first|trivial|omega|(unfold parseScript;rw[Qa3 ‹_›];exact⟨rfl,rfl⟩)|exact⟨o_,o_,.inl (by trivial),rfl,rfl⟩|exact⟨o_,by decide,by decide⟩|(obtain⟨⟨a1,a2,a3,a4,a5⟩,a6⟩:=i3;simp only[a6] at *)
 all_goals try have hl:y3.1.length<=(spl 59 s).length:=by rw[a4,lines8,Qf2,Qc2];omega
 all_goals first|trivial|omega|(have:=hm y3.2.1.toNat o_;omega)|skip
 all_goals first|(unfold parseScript;rw[Qa5 ‹_›,Qa5 (by rintro⟨q1,q2⟩;rw[Tq (i:=y3.2.1.toNat) o_ ‹_›] at q2;cases q2)];exact⟨rfl,rfl⟩)|(unfold parseScript;rw[Qa5 ‹_›,Qa5 o_];exact⟨rfl,rfl⟩)|skip
 all_goals first|(rw[Qb9 (l:=spl 59 s) (i:=y3.2.1.toNat) o_] at a4 a5;unfold parseScript;rw[Qa5 ‹_›,Qa3 (by exact⟨o_,a5⟩)];exact⟨a4,rfl⟩)|skip
 all_goals first|(have e:=OI (l:=spl 59 s) (i:=y3.2.1.toNat) o_;rw[Al o_,show(y3.2.1+1).toNat=y3.2.1.toNat+1 from o_];refine⟨⟨⟨o_,o_,.inr o_,by rw[e.1,a4],by rw[e.2,a5];assumption⟩,by first|assumption|trivial⟩,o_⟩)|skip)
def mk8 (x:UInt8):UInt8:=if x=91 then 60 else if x=93 then 62 else x
def markup (s:ByteArray):ByteArray:=ofL ((toL s).map mk8)
abbrev enc8 (x:UInt8):Value:=.int .u8 (x.toNat:Int)
abbrev NL:Fct:=⟨[aT],[rT],λx=>x.1.size<=1000000000000,λx=>(markup x.1,())⟩
open Go.RowKit Go.Lib Go.Sort in
def N1 (w:World) (e:TypeId) (s:ByteArray):Holds enc8 (bytesWorld w e s) w.heap.size 0 s.data:=by
 intro j hj;have hn:=bytesWorld_at_new w e s;refine⟨?_,?_⟩
 ·simp only[World.cell?,Qe0,hn];have:(Lib.bytesCells w e s)[j]? = some (.int .u8 s.data[j].toNat):=by unfold Lib.bytesCells;grind
  grind
 ·have h2:j<(bytesCells w e s).size:=by unfold Lib.bytesCells;rw[Array.size_append,Array.size_map];omega
  simp[World.frozen?,hn];omega
open Go.RowKit Go.Lib Go.Sort in
def Kd {s:ByteArray} {dk:Array UInt8} {i:Nat} {y:UInt8} (hi:i<s.size) (hs:dk.size=s.data.size) (hd:∀ t,t<s.size->dk[t]! = if t<i then mk8 s.data[t]! else s.data[t]!) (hy:y=mk8 s.data[i]!) :
 (dk.setIfInBounds i y).size=s.data.size/\∀ t,t<s.size->(dk.setIfInBounds i y)[t]! = if t<i+1 then mk8 s.data[t]! else s.data[t]!:=by
 have hsz:s.data.size=s.size:=rfl;refine⟨by rw[Array.size_setIfInBounds];exact hs,λt ht=>?_⟩;by_cases h:t=i
 ·subst h;rw[getElem!_set_same _ _ _ o_,Qa3 o_,hy]
 ·rw[getElem!_pos _ t (by rw[Array.size_setIfInBounds];omega),Array.getElem_setIfInBounds o_,Qa5 (λe=>h e.symm),<-getElem!_pos dk t o_,hd t ht];by_cases h2:t<i
  ·rw[Qa3 h2,Qa3 o_]
  ·rw[Qa5 h2,Qa5 o_]
open Go.RowKit Go.Lib Go.Sort in
def Vx {s:ByteArray} {dk:Array UInt8} {i:Nat} (hi:i<s.size) (hs:dk.size=s.data.size) (hd:∀ t,t<s.size->dk[t]! = if t<i then mk8 s.data[t]! else s.data[t]!) (hy:s.data[i]! = mk8 s.data[i]!) :
 ∀ t,t<s.size->dk[t]! = if t<i+1 then mk8 s.data[t]! else s.data[t]!:=by
 intro t ht;rw[hd t ht];by_cases h:t=i
 ·subst h;rw[Qa5 (Nat.lt_irrefl _),Qa3 o_,<-hy]
 ·by_cases h2:t<i
  ·rw[Qa3 h2,Qa3 o_]
  ·rw[Qa5 h2,Qa5 o_]
def Ag7 {x:UInt8} (h:((x.toNat:Int)==91)=true):60=mk8 x:=by
 have:x=91:=by apply UInt8.toNat_inj.1;have:=Qf7.1 h;exact Int.ofNat.inj this
 subst this;rfl
def Ahg {x:UInt8} (h:((x.toNat:Int)==91)=false) (h2:((x.toNat:Int)==93)=true):62=mk8 x:=by
 have:x=93:=by apply UInt8.toNat_inj.1;have:=Qf7.1 h2;exact Int.ofNat.inj this
 subst this;rfl
def AiA {x:UInt8} (h:((x.toNat:Int)==91)=false) (h2:((x.toNat:Int)==93)=false):x=mk8 x:=by
 unfold mk8;rw[Qa5 (by rintro rfl;cases h),Qa5 (by rintro rfl;cases h2)]
open Go.RowKit Go.Lib Go.Sort in
def UO (s:ByteArray) (hs1:s.size<=1000000000000) (w:World):Calls Tryz.prog 424 #[.string s] w λe w'=>e=.returned (.string (markup s))/\∃ dk,dk.size=s.data.size/\w'=putRow enc8 (bytesWorld w 5 s) w.heap.size 0 dk:=by
 have hcv:=λ(w:World)=>Lib.run_convert_string_bytes w 9 22 5 s Tryz.underlying9 Tryz.underlying22 Tryz.underlying5
 have hH:=N1 w 5 s;have hsz:s.data.size=s.size:=rfl
 go_enter func424,Tryz.ntmps424
 go_wp2
 generalize hW1:bytesWorld w 5 s=W1 at *
 go_loopw [4] (λvi wr=>∃ (i:Nat) (dk:Array UInt8),vi=.int .i64 i/\i<=s.size/\dk.size=s.data.size/\wr=putRow enc8 W1 w.heap.size 0 dk/\(∀ t,t<s.size->dk[t]! = if t<i then mk8 s.data[t]! else s.data[t]!)) (λvi _=>s.size+1-(RowKit.intOf vi).toNat)
 case atStart=>exact⟨0,s.data,rfl,o_,rfl,(putRow_self _ _ _ _ _ hH).symm,λt ht=>by rw[Qa5 o_]⟩
 case round=>
  obtain⟨i,dk,rfl,hi,hsk,hw,hd⟩:=hrel;by_cases h1:i<s.size
  ·have hcd:=cell?_putRow enc8 W1 w.heap.size 0 s.data dk hH hsk i o_;have hfz:wr.frozen? ⟨w.heap.size,0+i,none⟩=false:=by rw[hw,frozen?_putRow];exact(hH i o_).2
   rw[<-hw,Qe0] at hcd;rw[Qe0] at hfz;have hxi:=hd i h1;rw[Qa5 (Nat.lt_irrefl _)] at hxi;rw[hxi] at hcd;generalize hx:s.data[i]! = x at *
   dsimp only[enc8] at hcd;have hst:=λy=>putRow_set enc8 W1 w.heap.size 0 dk i y o_
   rw[Qe0] at hst;have hW:Hid (wr=putRow enc8 W1 w.heap.size 0 dk):=hw;have hD:Hid (∀ t,t<s.size->dk[t]! = if t<i then mk8 s.data[t]! else s.data[t]!):=hd;have hS:Hid (∀ y,(putRow enc8 W1 w.heap.size 0 dk).setCell ⟨w.heap.size,i,none⟩ (enc8 y)=putRow enc8 W1 w.heap.size 0 (dk.setIfInBounds i y)):=hst;clear hw hd hst hH hxi
   go_wp2
   case roundEnd=>
    exact⟨⟨i+1,dk.setIfInBounds i 60,rfl,h1,(Kd h1 hsk hD.out (by rw[hx];exact Ag7 ‹_›)).1,by rw[hW.out];exact hS.out 60,(Kd h1 hsk hD.out (by rw[hx];exact Ag7 ‹_›)).2⟩,by simp only[RowKit.intOf];omega⟩
   case roundEnd=>
    exact⟨⟨i+1,dk.setIfInBounds i 62,rfl,h1,(Kd h1 hsk hD.out (by rw[hx];exact Ahg ‹_› ‹_›)).1,by rw[hW.out];exact hS.out 62,(Kd h1 hsk hD.out (by rw[hx];exact Ahg ‹_› ‹_›)).2⟩,by simp only[RowKit.intOf];omega⟩
   case roundEnd=>
    exact⟨⟨i+1,dk,rfl,h1,hsk,hW.out,Vx h1 hsk hD.out (by rw[hx];exact AiA ‹_› ‹_›)⟩,by simp only[RowKit.intOf];omega⟩
  ·have hie:i=s.size:=o_
   subst hie;have hback:=run_convert_bytes_back (P:=Tryz.prog) wr 22 9 5 ⟨w.heap.size,0,none⟩ (grownCap w s.size 0 5) dk.toList Tryz.underlying22 Tryz.underlying5 Tryz.underlying9 (λj hj=>by
    have hj2:j<dk.size:=by simpa using hj
    have:=cell?_putRow enc8 W1 w.heap.size 0 s.data dk hH hsk j hj2;rw[<-hw] at this;rw[Addr.add_lit,this];simp[getElem!_pos dk j hj2])
   have hl:dk.toList.length=s.size:=by simpa using hsk
   rw[hl,hw] at hback;have hfin:markup s=⟨dk.toList.toArray⟩:=by
    unfold markup ofL;congr 2;apply List.ext_getElem (by simp[BD,hl]);intro k h2 h3;have hk:k<s.size:=o_
    have:=hd k hk;rw[Qa3 hk,getElem!_pos dk k o_,getElem!_pos s.data k hk] at this;simp[toL,this]
   have hfin:Hid _:=hfin;have hw:Hid _:=hw
   go_wp2
   go_ret
   exact⟨by rw[hfin.out];simp,dk,hsk,by rw[hW1];first|done|exact hw.out⟩
open Go.RowKit Go.Lib Go.Sort in
def XO (w:World) (e:TypeId) (s:ByteArray) (f:Array Value->Array Value):mapBlock (bytesWorld w e s) w.heap.size f=grow (w.drewN 1) #[onCells f (.cells (bytesCells w e s) e ((bytesCells w e s).size,(bytesCells w e s).size+1))]:=by
 have hn:=bytesWorld_at_new w e s;have hz:=bytesWorld_size w e s;have ho:=bytesWorld_at_old w e s;have hh:(bytesWorld w e s).heap.modify w.heap.size (onCells f)=w.heap ++ #[onCells f (.cells (bytesCells w e s) e ((bytesCells w e s).size,(bytesCells w e s).size+1))]:=by grind
 unfold mapBlock grow;rw[hh];rfl
open Go.RowKit Go.Lib Go.Sort in
def Y7:NL.ok Tryz.prog 424 :=
 Wo rfl rfl λx hx w ow hB=>(UO x.1 hx w).mono λe w' ⟨a,dk,hs,b⟩=>⟨a,1,_,b.trans (XO w 5 x.1 _)⟩
def Aje:=Ang.a NL<|Y7
def runLine (b:Se_) (l:List So_) (x:Sr_):Se_×ByteArray×ByteArray :=
 if x.op=1 then(b,markup x.text,⟨#[]⟩)
 else if x.op=2 then((if 1<=b.bi.length/\b.bi.length<=39/\isName x.text=true then⟨b.bi++[⟨x.text,⟨#[]⟩,0,[]⟩],b.bl⟩ else b),⟨#[]⟩,⟨#[]⟩)
 else if x.op=3 then(b,⟨#[]⟩,⟨#[99,111,117,110,116,32]⟩++x.text++⟨#[32]⟩++Kh (countName x.text b.bi))
 else if x.op=4 then(b,⟨#[]⟩,⟨#[108,111,111,107,32]⟩++x.text++⟨#[32]⟩++Kh (colorOf l x.text))
 else if x.op=5 then(b,⟨#[]⟩,⟨#[115,97,121,32]⟩++x.text)
 else(b,⟨#[]⟩,⟨#[]⟩)
def okSheets (l:List So_):Prop:=∀ s,s∈l->∀ r,r∈s.rules->-9223372036854775808<=r.color/\r.color<=9223372036854775807
def ZC {n:ByteArray} {rs:List Sw_} {z:Int} (hz : -9223372036854775808<=z/\z<=9223372036854775807) (h:∀ r,r∈rs->-9223372036854775808<=r.color/\r.color<=9223372036854775807):∀ m,m<=rs.length->-9223372036854775808<=colR n rs z m/\colR n rs z m<=9223372036854775807
 | 0,_=>hz
 | m+1,hm=>by
  rw[colR];split
  ·grind
  ·exact ZC hz h m o_
def Aa4 {n:ByteArray} {l:List So_} (h:okSheets l):∀ m,m<=l.length->-9223372036854775808<=colS n l m/\colS n l m<=9223372036854775807
 | 0,_=>by rw[colS];decide
 | m+1,hm=>by rw[colS];exact ZC (Aa4 h m o_) (h _ (AN o_)) _ (Qa9 _)
def Qd {l:List So_} (h:okSheets l) (n:ByteArray) : -9223372036854775808<=colorOf l n/\colorOf l n<=9223372036854775807:=Aa4 h _ (Qa9 _)
def M1 (n:ByteArray) (l:List Sv_):0<=countName n l/\countName n l<=l.length:=by unfold countName;have:=Gr (λx:Sv_=>decide (x.name=n)) l;omega
abbrev Bw:Fct:=⟨[.v (.el .ba),.v (.sl .sheet),.v (.el .line)],[.el .ba,.el .str,.el .str],λ(x_:Ty103_)=>szBuilder x_.1<=100000000000/\szL DM x_.2.1<=100000000000/\x_.2.2.1.text.size<=1000000000/\okSheets x_.2.1,λ(x_:Ty103_)=>((runLine x_.1 x_.2.1 x_.2.2.1).1,(runLine x_.1 x_.2.1 x_.2.2.1).2.1,(runLine x_.1 x_.2.1 x_.2.2.1).2.2,())⟩
theorem q4 (b:Se_) (l:List So_) (x:Sr_) (hp:Bw.pre (b,l,x,())):Out.holds (Bw.ctr (b,l,x,())).post (let q4_:=(⟨#[115,97,121,32]⟩:ByteArray);let q3_:=(⟨#[]⟩:ByteArray);let q2_:=(⟨#[32]⟩:ByteArray);let q1_:=(⟨#[108,111,111,107,32]⟩:ByteArray);let q0_:=(⟨#[99,111,117,110,116,32]⟩:ByteArray);.cl Cw (b,()) λz2=>let q5_:Out:=.lf Bw (z2.1,q3_,q3_,());.br (x.op==1) (.cl NL (x.text,()) λz3=>.lf Bw (z2.1,z3.1,q3_,())) (.br (x.op==2) (.cl Aw ((b.bi.length:Int),(1:Int),(39:Int),()) λz4=>.br (z4.1) (.cl BH (x.text,()) λz5=>.br (z5.1) (.ob (Ij (z2.1.bi.length+[(⟨x.text,q3_,(0:Int),[]⟩:Sv_)].length) 64)<|.lf Bw (⟨z2.1.bi++[(⟨x.text,q3_,(0:Int),[]⟩:Sv_)],z2.1.bl⟩,q3_,q3_,())) q5_) q5_) (.br (x.op==3) (.lp (Bool) (True) (λx=>True) λy10=>.br (y10) (.lp (Bool) (True) (λx=>True) λy12=>.br (y12) (.lp (Bool) (True) (λx=>True) λy14=>.br (y14) (.lp (Bool) (True) (λx=>True) λy16=>.br (y16) (.lp (Bool) (True) (λx=>True) λy18=>.br (y18) (.ob (sameSize q0_ x.text)<|.ob (sameSize (q0_++x.text) q2_)<|.cl DK (b,x.text,()) λ(z6:Ty3_)=>.cl A9 (z6.1,()) λz7=>.ob (sameSize (q0_++x.text++q2_) z7.1)<|.lf Bw (z2.1,q3_,q0_++x.text++q2_++z7.1,())) (.ob (sameSize q0_ x.text)<|.ob (sameSize (q0_++x.text) q2_)<|.cl DK (b,x.text,()) λ(z8:Ty3_)=>.cl A9 (z8.1,()) λz9=>.ob (sameSize (q0_++x.text++q2_) z9.1)<|.lf Bw (z2.1,q3_,q0_++x.text++q2_++z9.1,()))) (.ob (sameSize q0_ x.text)<|.cl DK (b,x.text,()) λ(z10:Ty3_)=>.cl A9 (z10.1,()) λz11=>.ob (sameSize (q0_++x.text) q2_)<|.ob (sameSize (q0_++x.text++q2_) z11.1)<|.lf Bw (z2.1,q3_,q0_++x.text++q2_++z11.1,()))) (.cl DK (b,x.text,()) λ(z12:Ty3_)=>.cl A9 (z12.1,()) λz13=>.ob (sameSize q0_ x.text)<|.ob (sameSize (q0_++x.text) q2_)<|.ob (sameSize (q0_++x.text++q2_) z13.1)<|.lf Bw (z2.1,q3_,q0_++x.text++q2_++z13.1,()))) (.cl DK (b,x.text,()) λ(z14:Ty3_)=>.cl A9 (z14.1,()) λz15=>.ob (sameSize q0_ x.text)<|.ob (sameSize (q0_++x.text) q2_)<|.ob (sameSize (q0_++x.text++q2_) z15.1)<|.lf Bw (z2.1,q3_,q0_++x.text++q2_++z15.1,()))) (.cl DK (b,x.text,()) λ(z16:Ty3_)=>.cl A9 (z16.1,()) λz17=>.ob (sameSize q0_ x.text)<|.ob (sameSize (q0_++x.text) q2_)<|.ob (sameSize (q0_++x.text++q2_) z17.1)<|.lf Bw (z2.1,q3_,q0_++x.text++q2_++z17.1,()))) (.br (x.op==4) (.lp (Bool) (True) (λx=>True) λy51=>.br (y51) (.lp (Bool) (True) (λx=>True) λy53=>.br (y53) (.lp (Bool) (True) (λx=>True) λy55=>.br (y55) (.lp (Bool) (True) (λx=>True) λy57=>.br (y57) (.lp (Bool) (True) (λx=>True) λy59=>.br (y59) (.ob (sameSize q1_ x.text)<|.ob (sameSize (q1_++x.text) q2_)<|.cl Fc (l,x.text,()) λ(z18:Ty3_)=>.cl A9 (z18.1,()) λz19=>.ob (sameSize (q1_++x.text++q2_) z19.1)<|.lf Bw (z2.1,q3_,q1_++x.text++q2_++z19.1,())) (.ob (sameSize q1_ x.text)<|.ob (sameSize (q1_++x.text) q2_)<|.cl Fc (l,x.text,()) λ(z20:Ty3_)=>.cl A9 (z20.1,()) λz21=>.ob (sameSize (q1_++x.text++q2_) z21.1)<|.lf Bw (z2.1,q3_,q1_++x.text++q2_++z21.1,()))) (.ob (sameSize q1_ x.text)<|.cl Fc (l,x.text,()) λ(z22:Ty3_)=>.cl A9 (z22.1,()) λz23=>.ob (sameSize (q1_++x.text) q2_)<|.ob (sameSize (q1_++x.text++q2_) z23.1)<|.lf Bw (z2.1,q3_,q1_++x.text++q2_++z23.1,()))) (.cl Fc (l,x.text,()) λ(z24:Ty3_)=>.cl A9 (z24.1,()) λz25=>.ob (sameSize q1_ x.text)<|.ob (sameSize (q1_++x.text) q2_)<|.ob (sameSize (q1_++x.text++q2_) z25.1)<|.lf Bw (z2.1,q3_,q1_++x.text++q2_++z25.1,()))) (.cl Fc (l,x.text,()) λ(z26:Ty3_)=>.cl A9 (z26.1,()) λz27=>.ob (sameSize q1_ x.text)<|.ob (sameSize (q1_++x.text) q2_)<|.ob (sameSize (q1_++x.text++q2_) z27.1)<|.lf Bw (z2.1,q3_,q1_++x.text++q2_++z27.1,()))) (.cl Fc (l,x.text,()) λ(z28:Ty3_)=>.cl A9 (z28.1,()) λz29=>.ob (sameSize q1_ x.text)<|.ob (sameSize (q1_++x.text) q2_)<|.ob (sameSize (q1_++x.text++q2_) z29.1)<|.lf Bw (z2.1,q3_,q1_++x.text++q2_++z29.1,()))) (.br (x.op==5) (.lp (Bool) (True) (λx=>True) λy92=>.br (y92) (.lp (Bool) (True) (λx=>True) λy94=>.br (y94) (.lp (Bool) (True) (λx=>True) λy96=>.br (y96) (.ob (sameSize q4_ x.text)<|.lf Bw (z2.1,q3_,q4_++x.text,())) (.ob (sameSize q4_ x.text)<|.lf Bw (z2.1,q3_,q4_++x.text,()))) (.ob (sameSize q4_ x.text)<|.lf Bw (z2.1,q3_,q4_++x.text,()))) (.ob (sameSize q4_ x.text)<|.lf Bw (z2.1,q3_,q4_++x.text,()))) q5_))))):=by
 refine Af ?_ λ_=>(Aa (λh2=>Af ?_ λ_=>(lfY ?_)) (λh2=>Aa (λh4=>Af trivial λ_=>(Aa (λh5=>Af ?_ λ_=>(Aa (λh7=>Ac ?_ λ_=>lfY ?_) (λh7=>lfY ?_))) (λh5=>lfY ?_))) (λh4=>Aa (λh9=>LC trivial λy10 i10=>Aa (λh11=>LC trivial λy12 i12=>Aa (λh13=>LC trivial λy14 i14=>Aa (λh15=>LC trivial λy16 i16=>Aa (λh17=>LC trivial λy18 i18=>Aa (λh19=>Ac ?_ λ_=>Ac ?_ λ_=>Af ?_ λ_=>(Af ?_ λ_=>(Ac ?_ λ_=>lfY ?_))) (λh19=>Ac ?_ λ_=>Ac ?_ λ_=>Af ?_ λ_=>(Af ?_ λ_=>(Ac ?_ λ_=>lfY ?_)))) (λh17=>Ac ?_ λ_=>Af ?_ λ_=>(Af ?_ λ_=>(Ac ?_ λ_=>Ac ?_ λ_=>lfY ?_)))) (λh15=>Af ?_ λ_=>(Af ?_ λ_=>(Ac ?_ λ_=>Ac ?_ λ_=>Ac ?_ λ_=>lfY ?_)))) (λh13=>Af ?_ λ_=>(Af ?_ λ_=>(Ac ?_ λ_=>Ac ?_ λ_=>Ac ?_ λ_=>lfY ?_)))) (λh11=>Af ?_ λ_=>(Af ?_ λ_=>(Ac ?_ λ_=>Ac ?_ λ_=>Ac ?_ λ_=>lfY ?_)))) (λh9=>Aa (λh50=>LC trivial λy51 i51=>Aa (λh52=>LC trivial λy53 i53=>Aa (λh54=>LC trivial λy55 i55=>Aa (λh56=>LC trivial λy57 i57=>Aa (λh58=>LC trivial λy59 i59=>Aa (λh60=>Ac ?_ λ_=>Ac ?_ λ_=>Af ?_ λ_=>(Af ?_ λ_=>(Ac ?_ λ_=>lfY ?_))) (λh60=>Ac ?_ λ_=>Ac ?_ λ_=>Af ?_ λ_=>(Af ?_ λ_=>(Ac ?_ λ_=>lfY ?_)))) (λh58=>Ac ?_ λ_=>Af ?_ λ_=>(Af ?_ λ_=>(Ac ?_ λ_=>Ac ?_ λ_=>lfY ?_)))) (λh56=>Af ?_ λ_=>(Af ?_ λ_=>(Ac ?_ λ_=>Ac ?_ λ_=>Ac ?_ λ_=>lfY ?_)))) (λh54=>Af ?_ λ_=>(Af ?_ λ_=>(Ac ?_ λ_=>Ac ?_ λ_=>Ac ?_ λ_=>lfY ?_)))) (λh52=>Af ?_ λ_=>(Af ?_ λ_=>(Ac ?_ λ_=>Ac ?_ λ_=>Ac ?_ λ_=>lfY ?_)))) (λh50=>Aa (λh91=>LC trivial λy92 i92=>Aa (λh93=>LC trivial λy94 i94=>Aa (λh95=>LC trivial λy96 i96=>Aa (λh97=>Ac ?_ λ_=>lfY ?_) (λh97=>Ac ?_ λ_=>lfY ?_)) (λh95=>Ac ?_ λ_=>lfY ?_)) (λh93=>Ac ?_ λ_=>lfY ?_)) (λh91=>lfY ?_))))))
 all_goals
  have hl:=Ab AK b.bi;have hb:szL AK b.bi<=szBuilder b:=by simp only[szBuilder];omega
  have hc:=M1 x.text b.bi;have hx:=Qd hp.2.2.2 x.text;have hf:=λ(n:Int) (h0 : -9223372036854775808<=n) (h1:n<=9223372036854775807)=>NE h0 h1
  try simp only[std,Nat.reduceAdd,runLine,inRange,sameSize,Qa6] at *
  try simp(disch:=omega) only[wrapId',toNat1] at *
  try simp(disch:=omega) only[Qa3,Qa5]
 all_goals first|trivial|omega|grind[wrapId',toNat1,drop_cons,drop_end,good_len,maxLen,runLine,inRange,sameSize,ByteArray.size_append]
def Ali:=Aje.a Bw<|Fct.o (KP [1,3,5,6,7,8,9,13] [14,20,30,40,53,66]) Aje.2 func394 (by
 rintro⟨(b:Se_),(l:List So_),(x:Sr_),_⟩ hp;exact ho _ (q4 b l x hp))
def runLines (l:List So_):List Sr_->Se_->ByteArray->List ByteArray->Se_×ByteArray×List ByteArray
 | [],b,w,g=>(b,w,g)
 | x::r,b,w,g=>runLines l r (runLine b l x).1 (w++(runLine b l x).2.1) (if(runLine b l x).2.2=⟨#[]⟩ then g else g++[(runLine b l x).2.2])
theorem runLines_at {l:List So_} {r:List Sr_} {i:Nat} {b:Se_} {w:ByteArray} {g:List ByteArray} (h:i<r.length):runLines l (r.drop i) b w g=runLines l (r.drop (i+1)) (runLine b l (r.getD i default)).1 (w++(runLine b l (r.getD i default)).2.1) (if(runLine b l (r.getD i default)).2.2=⟨#[]⟩ then g else g++[(runLine b l (r.getD i default)).2.2]):=by rw[drop_cons h];rfl
theorem runLines_end {l:List So_} {r:List Sr_} {i:Nat} {b:Se_} {w:ByteArray} {g:List ByteArray} (h:r.length<=i):runLines l (r.drop i) b w g=(b,w,g):=by rw[Qb2 h];rfl
def Ms (b:Se_) (l:List So_) (x:Sr_):szBuilder (runLine b l x).1<=szBuilder b+x.text.size+1/\(runLine b l x).2.1.size<=x.text.size:=by
 have h0:ByteArray.size ⟨#[]⟩=0:=rfl;have h1:(markup x.text).size=x.text.size:=by unfold markup;rw[HT,Qf2,BD]
 have h3:szL B9 []=0:=rfl;unfold runLine;repeat' split
 all_goals simp only[h0,h1,szBuilder,En,AK,h3]
 all_goals omega
def runScript (b:Se_) (l:List So_) (r:List Sr_):Se_×ByteArray×List ByteArray:=runLines l r b ⟨#[]⟩ []
abbrev Gv:Fct:=⟨[.v (.el .ba),.v (.sl .sheet),.v (.sl .line)],[.el .ba,.el .str,.sl .str],λ(x_:Ty104_)=>szBuilder x_.1<=50000000000/\szL DM x_.2.1<=100000000000/\szL CQ x_.2.2.1<=1000000000/\okSheets x_.2.1,λ(x_:Ty104_)=>((runScript x_.1 x_.2.1 x_.2.2.1).1,(runScript x_.1 x_.2.1 x_.2.2.1).2.1,(runScript x_.1 x_.2.1 x_.2.2.1).2.2,())⟩
abbrev Dv (b:Se_) (l:(List So_)) (r:(List Sr_)):LInv:=⟨[⟨.b,9,true,.el .ba⟩,⟨.s,10,true,.el .str⟩,⟨.s,11,true,.sl .str⟩,⟨.s,12,true,.el .int⟩,⟨.b,6,true,.el .ba⟩],λ(z_ x_:Ty105_)=>(0<=x_.2.2.2.1/\x_.2.2.2.1<=r.length/\szBuilder x_.1+szL CQ (r.drop x_.2.2.2.1.toNat)<=szBuilder b+szL CQ r/\x_.2.1.size+szL CQ (r.drop x_.2.2.2.1.toNat)<=szL CQ r/\x_.2.2.1.length<=x_.2.2.2.1/\runLines l (r.drop x_.2.2.2.1.toNat) x_.1 x_.2.1 x_.2.2.1=runScript b l r)/\x_.2.2.2.2.1=z_.2.2.2.2.1,λ(x_:Ty105_)=>r.length-x_.2.2.2.1.toNat⟩
def AlC:=Ali.a Gv<|Fct.p (KP [1,2,3,6,7,8,9,10,11,12,13,14,15] [22,41]) (λ⟨b,l,r,_⟩=>lv [(5,Dv b l r)]) Ali.2 func342 (by
 rintro⟨(b:Se_),(l:List So_),(r:List Sr_),_⟩ hp;refine ho (.cl Cw (b,()) λz2=>lpx (Dv b l r) (z2.1,((⟨#[]⟩:ByteArray),([],((0:Int),(default,()))))) λ(y2:Ty105_) bk2=>.br (decide (y2.2.2.2.1<(r.length:Int))) (.ob (inB y2.2.2.2.1 r.length)<|.cl Bw (y2.1,l,r.getD y2.2.2.2.1.toNat default,()) λz3=>.ob (sameSize y2.2.1 z3.2.1)<|.br (!z3.2.2.1.toList==(⟨#[]⟩:ByteArray).toList) (.ap (y2.2.2.1.length+[z3.2.2.1].length) 16<|.re (l)<|.re (r)<|.re (Value.string (⟨#[]⟩:ByteArray))<|.bk (bk2 (z3.1,(y2.2.1++z3.2.1,(y2.2.2.1++[z3.2.2.1],(w1 y2.2.2.2.1,(y2.2.2.2.2.1,()))))))) (.re (l)<|.re (r)<|.re (Value.string (⟨#[]⟩:ByteArray))<|.bk (bk2 (z3.1,(y2.2.1++z3.2.1,(y2.2.2.1,(w1 y2.2.2.2.1,(y2.2.2.2.2.1,())))))))) (.lf Gv (y2.1,y2.2.1,y2.2.2.1,()))) ?_;refine Af ?_ λ_=>(Au ?_ λ(y2:Ty105_) i2=>Aa (λh3=>Ac ?_ λ_=>Af ?_ λ_=>(Ac ?_ λ_=>Aa (λh7=>Ek ?_ λ_=>An<|An<|An<|A8 ?_) (λh7=>An<|An<|An<|A8 ?_))) (λh3=>lfY ?_))
 all_goals
  have hr:=Ab CQ r;have hx:∀ i,i<r.length->szL CQ (r.drop i)=(r.getD i default).text.size+1+szL CQ (r.drop (i+1)):=λi h=>OT CQ h
  have hs:=λbb x=>Ms bb l x
  have hrs:runLines l r b ⟨#[]⟩ []=runScript b l r:=rfl;try simp only[std,Nat.reduceAdd,runLines_at,runLines_end,sameSize,Qa6] at *
  try simp(disch:=omega) only[wrapId',toNat1] at *
  try simp(disch:=omega) only[Qa3,Qa5]
 all_goals first|trivial|omega|grind[wrapId',toNat1,drop_cons,drop_end,good_len,maxLen,runLines_at,runLines_end,sameSize,ByteArray.size_append])
def decV:List UInt8->Int->Int
 | [],n=>n
 | x::l,n=>decV l (10*n+((x.toNat:Int)-48))
def digit (x:UInt8):Bool:=decide (48<=(x.toNat:Int)/\(x.toNat:Int)<=57)
def parseInt (s:ByteArray):Int×Bool:=if 1<=s.size/\s.size<=13/\(toL s).all digit=true/\decV (toL s) 0<=1000000000000/\Kh (decV (toL s) 0)=s then(decV (toL s) 0,true) else(0,false)
abbrev Hv:Fct:=⟨[.v (.el .str)],[.el .int,.el .bool],λ(x_:Ty48_)=>x_.1.size<=1000000000000,λ(x_:Ty48_)=>((parseInt x_.1).1,(parseInt x_.1).2,())⟩
def Nw {s:ByteArray} {i:Nat} (h:i<s.size):(toL s).take (i+1)=(toL s).take i++[s.data.getD i 0]:=by
 have h2:i<s.data.size:=h;have e:s.data.getD i 0=s.data[i]:=by unfold Array.getD;rw[dif_pos h2];rfl
 rw[List.take_succ_eq_append_getElem (by rw[BD];exact h),e];rfl
def N8:∀ (l:List UInt8) (x:UInt8) (n:Int),decV (l++[x]) n=10*decV l n+((x.toNat:Int)-48)
 | [],x,n=>rfl
 | y::l,x,n=>by rw[Qe5,decV,decV,N8 l]
def AiD:∀ i:Nat,i<=13->(10:Int) ^ i<=10000000000000:=λi h=>(by decide:∀ i:Fin 14,(10:Int) ^ i.val<=10000000000000) ⟨i,o_⟩
def Aaw {s:ByteArray} {i:Nat} (h:i<s.size) (hd:digit (s.data.getD i 0)=false):(toL s).all digit=false:=by
 rw[List.all_eq_false];refine⟨s.data.getD i 0,?_,by rw[hd];decide⟩;have:=List.mem_of_mem_take (l:=toL s) (i:=i+1) (a:=s.data.getD i 0) (by rw[Nw h];simp);exact this
def KC {s:ByteArray} (h:¬ (1<=s.size/\s.size<=13/\(toL s).all digit=true/\decV (toL s) 0<=1000000000000/\Kh (decV (toL s) 0)=s)):0=(parseInt s).1/\false=(parseInt s).2:=by
 unfold parseInt;rw[Qa5 h];exact⟨rfl,rfl⟩
def SJ {s:ByteArray} (h:1<=s.size/\s.size<=13/\(toL s).all digit=true/\decV (toL s) 0<=1000000000000/\Kh (decV (toL s) 0)=s):decV (toL s) 0=(parseInt s).1/\true=(parseInt s).2:=by
 unfold parseInt;rw[Qa3 h];exact⟨rfl,rfl⟩
def u8_in (x:UInt8):IntKind.i64.wrap (x.toNat:Int)=x.toNat/\(x.toNat:Int)<=255:=by
 have:=x.toNat_lt;exact⟨wrapId' o_ o_,o_⟩
def AaV {x:UInt8} (h:48<=(x.toNat:Int)):IntKind.i64.wrap (IntKind.u8.wrap ((x.toNat:Int)-48))=(x.toNat:Int)-48:=by
 have:=x.toNat_lt;have e:IntKind.u8.wrap ((x.toNat:Int)-48)=(x.toNat:Int)-48:=by show((x.toNat:Int)-48) % 256=_;omega
 rw[e];exact wrapId' o_ o_
abbrev Ee (s:ByteArray):LInv:=⟨[⟨.s,4,true,.el .int⟩,⟨.s,5,true,.el .int⟩],λ_ (x_:Ty1_)=>0<=x_.2.1/\x_.2.1<=s.size/\0<=x_.1/\x_.1<10 ^ x_.2.1.toNat/\((toL s).take x_.2.1.toNat).all digit=true/\x_.1=decV ((toL s).take x_.2.1.toNat) 0,λ(x_:Ty1_)=>s.size-x_.2.1.toNat⟩
def Ak6:=AlC.a Hv<|Fct.p (KP [0,2,3,4,5] [9,13,21,37]) (λ⟨s,_⟩=>lv [(5,Ee s)]) AlC.2 func427 (by
 rintro⟨(s:ByteArray),_⟩ hp;refine ho (let q1_:=(s.size:Int);let q0_:Out:=.lf Hv ((0:Int),false,());.cl Aw (q1_,(1:Int),(13:Int),()) λz2=>.br (!z2.1) q0_ (lpx (Ee s) ((0:Int),((0:Int),())) λ(y2:Ty1_) bk2=>let q3_:=0<=y2.2.1/\y2.2.1<q1_;let q2_:=(↑(s.data.getD y2.2.1.toNat 0).toNat:Int);.br (decide (y2.2.1<q1_)) (.ob q3_<|.cl Aw (wr q2_,(48:Int),(57:Int),()) λz3=>.br (!z3.1) q0_ (.ob q3_<|.re (Value.string s)<|.bk (bk2 (wr (wr ((10:Int)*y2.1)+wr (IntKind.u8.wrap (q2_-(48:Int)))),(w1 y2.2.1,()))))) (.br (decide (y2.1>1000000000000)) q0_ (.cl A9 (y2.1,()) λz4=>.br (!z4.1.toList==s.toList) q0_ (.lf Hv (y2.1,true,())))))) ?_;refine Af trivial λ_=>(Aa (λh1=>lfY ?_) (λh1=>Au ?_ λ(y2:Ty1_) i2=>Aa (λh3=>Ac ?_ λ_=>Af trivial λ_=>(Aa (λh5=>lfY ?_) (λh5=>Ac ?_ λ_=>An<|A8 ?_))) (λh3=>Aa (λh8=>lfY ?_) (λh8=>Af ?_ λ_=>(Aa (λh10=>lfY ?_) (λh10=>lfY ?_))))))
 all_goals
  try simp only[std,Nat.reduceAdd,inRange,u8_in] at *
  try simp only[Qa2,Qe4,Qa8,Qb3] at *
 all_goals first|(refine KC ?_;omega)|exact⟨o_,o_,o_,by decide,rfl,rfl⟩|(obtain⟨a1,a2,a3,a4,a5,a6⟩:=i2;have hq:=AiD y2.2.1.toNat o_)
 all_goals first|omega|skip
 all_goals try rw[Qb9 (l:=toL s) (i:=y2.2.1.toNat) (by rw[BD];omega)] at a5 a6
 all_goals first|(rw[<-a6];exact⟨o_,o_⟩)|(refine KC ?_;rintro⟨q1,q2,q3,q4,q5⟩;rw[<-a6] at *;first|omega|contradiction)|(rw[a6];exact SJ ⟨o_,o_,a5,o_,by rw[<-a6];assumption⟩)|skip
 all_goals first|(refine KC ?_;rintro⟨q1,q2,q3,q4,q5⟩;rw[Aaw (i:=y2.2.1.toNat) o_ (by unfold digit;simp only[Qb3];omega)] at q3;cases q3)|skip
 all_goals rw[AaV o_,Al (n:=10*y2.1) o_,Al (n:=y2.2.1+1) o_,Al o_,show(y2.2.1+1).toNat=y2.2.1.toNat+1 from o_,Nw o_,List.all_append,N8,Int.pow_succ]
 all_goals refine⟨⟨o_,o_,o_,o_,?_,by rw[<-a6]⟩,o_⟩
 all_goals (rw[a5];simp only[List.all_cons,List.all_nil,digit,Bool.and_true,Bool.true_and,Qa8];omega))
def Aac {b:UInt8}:∀ {l:List UInt8},G8 b l=none->b∉l
 | [],_,h=>by cases h
 | x::l,hc,h=>by
  rw[G8] at hc;split at hc
  ·cases hc
  ·rename_i hx;rcases Qd2.1 h with e|h
   ·exact hx e.symm
   ·exact Aac (Option.map_eq_none_iff.1 hc) h
def ruleOf (w:ByteArray):Option Sw_:=match G8 58 (toL w) with
 | none=>none
 | some r=>if isName (ofL r.1)=true/\(parseInt (ofL r.2)).2=true/\1<=(parseInt (ofL r.2)).1/\(parseInt (ofL r.2)).1<=999 then some ⟨ofL r.1,(parseInt (ofL r.2)).1⟩ else none
def parseRules:List ByteArray->List Sw_->List Sw_
 | [],acc=>acc
 | w::l,acc=>parseRules l (if acc.length<8 then acc++(ruleOf w).toList else acc)
def K9 {l:List ByteArray} {i:Nat} {acc:List Sw_} (h:i<l.length):parseRules (l.drop i) acc=parseRules (l.drop (i+1)) (if acc.length<8 then acc++(ruleOf (l.getD i default)).toList else acc):=by rw[drop_cons h];rfl
def Kj {l:List ByteArray} {i:Nat} {acc:List Sw_} (h:l.length<=i):parseRules (l.drop i) acc=acc:=by rw[Qb2 h];rfl
def JF:∀ {l:List ByteArray} {acc:List Sw_},¬ acc.length<8->parseRules l acc=acc
 | [],_,_=>rfl
 | w::l,acc,h=>by rw[parseRules,Qa5 h];exact JF h
def AbX (w:ByteArray):ruleOf w=if(spl 58 w).length=2/\isName ((spl 58 w).getD 0 default)=true/\(parseInt ((spl 58 w).getD 1 default)).2=true/\1<=(parseInt ((spl 58 w).getD 1 default)).1/\(parseInt ((spl 58 w).getD 1 default)).1<=999 then some ⟨(spl 58 w).getD 0 default,(parseInt ((spl 58 w).getD 1 default)).1⟩ else none:=by
 unfold ruleOf;rw[IR];cases h:G8 58 (toL w) with
 | none=>simp
 | some r=>
  obtain⟨p,q⟩:=r;simp only[Qa7];by_cases hq:(58:UInt8)∈q
  ·have hd:(parseInt (ofL q)).2=false:=by unfold parseInt;rw[Qa5];rintro⟨q1,q2,q3,_⟩;rw[LX,Qc0] at q3;have:=q3 58 hq;cases this
   have hl:(spl 58 (ofL q)).length≠1:=by
    intro hl;rw[IR,LX] at hl;cases hc:G8 58 q with
    | none=>exact Aac hc hq
    | some r2=>
     rw[hc] at hl;have:=(D0 58 (ofL r2.2)).1;simp_all
   simp_all
  ·have hs:spl 58 (ofL q)=[ofL q]:=by
    rw[IR,LX];cases hc:G8 58 q with
    | none=>rfl
    | some r2=>exact absurd (Nk (p:=r2.1) (q:=r2.2) hc) hq
   rw[hs];simp
def parseSheet (s:ByteArray):So_:=⟨parseRules (spl 59 s) []⟩
abbrev Gp:Fct:=⟨[.v (.el .str)],[.el .sheet],λ(x_:Ty48_)=>x_.1.size<=4200000000,λ(x_:Ty48_)=>(parseSheet x_.1,())⟩
abbrev Df (s:ByteArray):LInv:=⟨[⟨.b,3,true,.el .sheet⟩,⟨.s,5,true,.el .int⟩,⟨.b,2,true,.el .sheet⟩,⟨.s,4,true,.sl .str⟩],λ(z_ x_:Ty106_)=>((0<=x_.2.1/\x_.2.1<=(spl 59 s).length/\x_.1.rules.length<=8/\parseRules ((spl 59 s).drop x_.2.1.toNat) x_.1.rules=parseRules (spl 59 s) [])/\x_.2.2.1=z_.2.2.1)/\x_.2.2.2.1=z_.2.2.2.1,λ(x_:Ty106_)=>(spl 59 s).length-x_.2.1.toNat⟩
end Go.Proofs.YthpiiodbmkjmjaaGreatDoor.fnActions
