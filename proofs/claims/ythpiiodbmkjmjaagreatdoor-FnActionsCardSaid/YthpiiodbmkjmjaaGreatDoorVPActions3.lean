/-
  Contracts of functions that the law of FnActions reaches, part 3.
-/
import Derived.Test.YthpiiodbmkjmjaaGreatDoorVPActions2
namespace Go.Proofs.YthpiiodbmkjmjaaGreatDoor.fnActions
open Go.Proofs.YthpiiodbmkjmjaaGreatDoor
open Go.D Go.Proofs.Tryz
set_option maxRecDepth 100000
set_option maxHeartbeats 2000000
set_option linter.defProp false
set_option linter.unusedVariables false
set_option linter.unusedSimpArgs false
def Aj5:=Ak6.a Gp<|Fct.p (KP [0,2,3,4,5,6,7,8] [21,38,50]) (λ⟨s,_⟩=>lv [(4,Df s)]) Ak6.2 func395 (by
 rintro⟨(s:ByteArray),_⟩ hp;refine ho (.cl Fk (s,(59:Int),()) λz2=>lpx (Df s) (default,((0:Int),(default,(z2.1,())))) λ(y2:Ty106_) bk2=>let q4_:Out:=.lf Gp (y2.1,());let q0_:Out:=.re (Value.string s)<|.bk (bk2 (y2.1,(w1 y2.2.1,(y2.2.2.1,(y2.2.2.2.1,())))));.br (decide (y2.2.1<(y2.2.2.2.1.length:Int))) (.br (decide ((y2.1.rules.length:Int)<8)) (.ix y2.2.1 y2.2.2.2.1.length<|.cl Fk (y2.2.2.2.1.getD y2.2.1.toNat default,(58:Int),()) λz3=>let q2_:=(z3.1.length:Int);let q1_:=(0:Int)<=(0:Int)/\(0:Int)<q2_;.br (q2_ != 2) q0_ (.ob q1_<|.ob (0<z3.1.length)<|.cl BH (z3.1.getD 0 default,()) λz4=>.br (!z4.1) q0_ (.ob ((0:Int)<=(1:Int)/\(1:Int)<q2_)<|.ob (1<z3.1.length)<|.cl Hv (z3.1.getD 1 default,()) λ(z5:Int×Bool×PUnit)=>let q3_:=(⟨z3.1.getD 0 default,z5.1⟩:Sw_);.br (z5.2.1) (.cl Aw (z5.1,(1:Int),(999:Int),()) λz6=>.br (z6.1) (.ob q1_<|.ob (0<z3.1.length)<|.ap (y2.1.rules.length+[q3_].length) 24<|.re (Value.string s)<|.bk (bk2 ((⟨y2.1.rules++[q3_]⟩:So_),(w1 y2.2.1,(y2.2.2.1,(y2.2.2.2.1,())))))) q0_) q0_))) q4_) q4_) ?_;refine Af ?_ λ_=>(Au ?_ λ(y2:Ty106_) i2=>Aa (λh3=>Aa (λh4=>Er ?_ λo5 o6=>Af ?_ λ_=>(Aa (λh8=>An<|A8 ?_) (λh8=>Ac ?_ λ_=>Ac ?_ λ_=>Af ?_ λ_=>(Aa (λh13=>An<|A8 ?_) (λh13=>Ac ?_ λ_=>Ac ?_ λ_=>Af ?_ λ_=>(Aa (λh18=>Af trivial λ_=>(Aa (λh19=>Ac ?_ λ_=>Ac ?_ λ_=>Ek ?_ λ_=>An<|A8 ?_) (λh19=>An<|A8 ?_))) (λh18=>An<|A8 ?_))))))) (λh4=>lfY ?_)) (λh3=>lfY ?_))
 all_goals
  have hk:=D0 59 s;have hm:∀ i,i<(spl 59 s).length->((spl 59 s).getD i default).size<=s.size:=λi h=>Kv (AN h)
  have hp1:s.size<=4200000000:=hp;try simp only[std,Nat.reduceAdd,inRange,show UInt8.ofNat (Int.toNat 59)=59 from rfl,show UInt8.ofNat (Int.toNat 58)=58 from rfl] at *
 all_goals first|trivial|omega|exact⟨o_,by decide,by decide⟩|exact⟨o_,o_,by decide,rfl⟩|(obtain⟨⟨⟨a1,a2,a3,a4⟩,a5⟩,a6⟩:=i2;simp only[a6,Qa2,Qe4,Qa8,Qb3] at *)
 all_goals
  try have hw:=hm y2.2.1.toNat o_
  try have hw0:=EE 58 ((spl 59 s).getD y2.2.1.toNat default) 0
  try have hw1:=EE 58 ((spl 59 s).getD y2.2.1.toNat default) 1
 all_goals first|trivial|omega|exact⟨o_,by decide,by decide⟩|exact⟨o_,o_⟩|skip
 all_goals first|(rw[Kj o_] at a4;show y2.1=parseSheet s;unfold parseSheet;rw[<-a4])|(rw[JF o_] at a4;show y2.1=parseSheet s;unfold parseSheet;rw[<-a4])|skip
 all_goals have e:=K9 (l:=spl 59 s) (i:=y2.2.1.toNat) (acc:=y2.1.rules) o_
 all_goals rw[a4,Qa3 o_,AbX] at e
 all_goals rw[Al o_,show(y2.2.1+1).toNat=y2.2.1.toNat+1 from o_]
 all_goals first|(rw[Qa5 (by rintro⟨q1,q2,q3,q4,q5⟩;first|omega|exact absurd (q2.symm.trans (show isName _=false from ‹_›)) (by decide)|exact absurd (q3.symm.trans (show Prod.snd _=false from ‹_›)) (by decide)),Option.toList_none,Qd7] at e;exact⟨⟨⟨⟨o_,o_,o_,e.symm⟩,‹_›⟩,trivial⟩,o_⟩)|(rw[Qa3 (by exact⟨o_,‹_›,‹_›,o_,o_⟩),Option.toList_some] at e;exact⟨⟨⟨⟨o_,o_,by rw[Qa1];simp only[Qa7,Qb1];omega,e.symm⟩,‹_›⟩,trivial⟩,o_⟩)|skip)
def openIdx {α:Type} (f:α->Bool):List α->Int->List Int
 | [],_=>[]
 | x::l,k=>if f x then k::openIdx f l (k+1) else openIdx f l (k+1)
theorem openIdx_at {α:Type} [Inhabited α] {f:α->Bool} {l:List α} {i:Nat} {k:Int} (h:i<l.length):openIdx f (l.drop i) k=if f (l.getD i default) then k::openIdx f (l.drop (i+1)) (k+1) else openIdx f (l.drop (i+1)) (k+1):=by rw[drop_cons h];rfl
theorem openIdx_end {α:Type} {f:α->Bool} {l:List α} {i:Nat} {k:Int} (h:l.length<=i):openIdx f (l.drop i) k=[]:=by rw[Qb2 h];rfl
def Hr {α:Type} (f:α->Bool):∀ (l:List α) (k:Int) (x:Int),x∈openIdx f l k->k<=x/\x<k+l.length
 | [],k,x,h=>by cases h
 | a::l,k,x,h=>by rw[openIdx] at h;have ih:=Hr f l (k+1) x;grind
def Dt {α:Type} (f:α->Bool):∀ (l:List α) (k:Int),(openIdx f l k).length<=l.length
 | [],k=>Qa9 _
 | a::l,k=>by have:=Dt f l (k+1);rw[openIdx];grind
def openSlots (p:Sa_):List Int:=openIdx (λs=>!s.done) p.bf 0
def openMods (p:Sa_):List Int:=openIdx (λm=>!m.done) p.bh 0
abbrev FA:Fct:=⟨[.v (.el .page)],[.sl .int],λ(x_:Ty13_)=>x_.1.bf.length<=1000000000000,λ(x_:Ty13_)=>(openSlots x_.1,())⟩
abbrev Du (p:Sa_):LInv:=⟨[⟨.s,3,true,.sl .int⟩,⟨.s,4,true,.el .int⟩,⟨.b,1,false,.el .page⟩],λ(z_ x_:Ty107_)=>(0<=x_.2.1/\x_.2.1<=p.bf.length/\x_.1.length<=x_.2.1/\x_.1++openIdx (λs=>!s.done) (p.bf.drop x_.2.1.toNat) x_.2.1=openSlots p)/\x_.2.2.1=z_.2.2.1,λ(x_:Ty107_)=>p.bf.length-x_.2.1.toNat⟩
def AmQ:=Aj5.a FA<|Fct.p (KP [1,2,3,4] [10,19]) (λ⟨p,_⟩=>lv [(3,Du p)]) Aj5.2 func151 (by
 rintro⟨(p:Sa_),_⟩ hp;refine ho (lpx (Du p) ([],((0:Int),(p,()))) λ(y1:Ty107_) bk1=>.br (decide (y1.2.1<(y1.2.2.1.bf.length:Int))) (.ob (inB y1.2.1 y1.2.2.1.bf.length)<|.br (!(y1.2.2.1.bf.getD y1.2.1.toNat default).done) (.ap (y1.1.length+[y1.2.1].length) 8<|.bk (bk1 (y1.1++[y1.2.1],(w1 y1.2.1,(y1.2.2.1,()))))) (.bk (bk1 (y1.1,(w1 y1.2.1,(y1.2.2.1,())))))) (.lf FA (y1.1,()))) ?_;refine Au ?_ λ(y1:Ty107_) i1=>Aa (λh2=>Ac ?_ λ_=>Aa (λh4=>Ek ?_ λ_=>A8 ?_) (λh4=>A8 ?_)) (λh2=>lfY ?_)
 all_goals
  have h0:openIdx (λs:Sl_=>!s.done) (p.bf.drop 0) 0=openSlots p:=rfl;try simp only[std,Nat.reduceAdd,openIdx_at,openIdx_end,Qa1,Qa7,Qb1,Qb5] at *
  try simp(disch:=omega) only[wrapId',toNat1] at *
  try simp(disch:=omega) only[Qa3,Qa5]
 all_goals first|trivial|omega|grind[wrapId',toNat1,drop_cons,drop_end,good_len,maxLen,openIdx_at,openIdx_end,List.length_append,List.length_cons,List.length_nil,List.append_assoc])
abbrev DD (p:Sa_):LInv:=⟨[⟨.s,3,true,.sl .int⟩,⟨.s,10,true,.el .int⟩],λ_ (x_:Ty46_)=>0<=x_.2.1/\x_.2.1<=p.bf.length/\x_.1.length<=x_.2.1/\x_.1++openIdx (λs=>!s.done) (p.bf.drop x_.2.1.toNat) x_.2.1=openSlots p,λ(x_:Ty46_)=>p.bf.length-x_.2.1.toNat⟩
def Ak5:=AmQ.a FA<|Fct.p (KP [1,2,3,4,5,8,9,10] [11,17]) (λ⟨p,_⟩=>lv [(3,DD p)]) AmQ.2 func120 (by
 rintro⟨(p:Sa_),_⟩ hp;refine ho (lpx (DD p) ([],((0:Int),())) λ(y1:Ty46_) bk1=>.br (decide (y1.2.1<(p.bf.length:Int))) (.ob (inB y1.2.1 p.bf.length)<|.br (!(p.bf.getD y1.2.1.toNat default).done) (.ap (y1.1.length+[y1.2.1].length) 8<|.re (p.bf)<|.re (Value.int IntKind.i64 (p.bf.length:Int))<|.bk (bk1 (y1.1++[y1.2.1],(w1 y1.2.1,())))) (.re (p.bf)<|.re (Value.int IntKind.i64 (p.bf.length:Int))<|.bk (bk1 (y1.1,(w1 y1.2.1,()))))) (.lf FA (y1.1,()))) ?_;refine Au ?_ λ(y1:Ty46_) i1=>Aa (λh2=>Ac ?_ λ_=>Aa (λh4=>Ek ?_ λ_=>An<|An<|A8 ?_) (λh4=>An<|An<|A8 ?_)) (λh2=>lfY ?_)
 all_goals
  have h0:openIdx (λs:Sl_=>!s.done) (p.bf.drop 0) 0=openSlots p:=rfl;try simp only[std,Nat.reduceAdd,openIdx_at,openIdx_end,Qa1,Qa7,Qb1,Qb5] at *
  try simp(disch:=omega) only[wrapId',toNat1] at *
  try simp(disch:=omega) only[Qa3,Qa5]
 all_goals first|trivial|omega|grind[wrapId',toNat1,drop_cons,drop_end,good_len,maxLen,openIdx_at,openIdx_end,List.length_append,List.length_cons,List.length_nil,List.append_assoc])
abbrev GZ:Fct:=⟨[.v (.el .page)],[.sl .int],λ(x_:Ty13_)=>x_.1.bh.length<=1000000000000,λ(x_:Ty13_)=>(openMods x_.1,())⟩
abbrev D3 (p:Sa_):LInv:=⟨[⟨.s,3,true,.sl .int⟩,⟨.s,4,true,.el .int⟩,⟨.b,1,false,.el .page⟩],λ(z_ x_:Ty107_)=>(0<=x_.2.1/\x_.2.1<=p.bh.length/\x_.1.length<=x_.2.1/\x_.1++openIdx (λm=>!m.done) (p.bh.drop x_.2.1.toNat) x_.2.1=openMods p)/\x_.2.2.1=z_.2.2.1,λ(x_:Ty107_)=>p.bh.length-x_.2.1.toNat⟩
def Ajr:=Ak5.a GZ<|Fct.p (KP [1,2,3,4] [10,19]) (λ⟨p,_⟩=>lv [(3,D3 p)]) Ak5.2 func153 (by
 rintro⟨(p:Sa_),_⟩ hp;refine ho (lpx (D3 p) ([],((0:Int),(p,()))) λ(y1:Ty107_) bk1=>.br (decide (y1.2.1<(y1.2.2.1.bh.length:Int))) (.ob (inB y1.2.1 y1.2.2.1.bh.length)<|.br (!(y1.2.2.1.bh.getD y1.2.1.toNat default).done) (.ap (y1.1.length+[y1.2.1].length) 8<|.bk (bk1 (y1.1++[y1.2.1],(w1 y1.2.1,(y1.2.2.1,()))))) (.bk (bk1 (y1.1,(w1 y1.2.1,(y1.2.2.1,())))))) (.lf GZ (y1.1,()))) ?_;refine Au ?_ λ(y1:Ty107_) i1=>Aa (λh2=>Ac ?_ λ_=>Aa (λh4=>Ek ?_ λ_=>A8 ?_) (λh4=>A8 ?_)) (λh2=>lfY ?_)
 all_goals
  have h0:openIdx (λm:Sf_=>!m.done) (p.bh.drop 0) 0=openMods p:=rfl;try simp only[std,Nat.reduceAdd,openIdx_at,openIdx_end,Qa1,Qa7,Qb1,Qb5] at *
  try simp(disch:=omega) only[wrapId',toNat1] at *
  try simp(disch:=omega) only[Qa3,Qa5]
 all_goals first|trivial|omega|grind[wrapId',toNat1,drop_cons,drop_end,good_len,maxLen,openIdx_at,openIdx_end,List.length_append,List.length_cons,List.length_nil,List.append_assoc])
abbrev D2 (p:Sa_):LInv:=⟨[⟨.s,3,true,.sl .int⟩,⟨.s,10,true,.el .int⟩],λ_ (x_:Ty46_)=>0<=x_.2.1/\x_.2.1<=p.bh.length/\x_.1.length<=x_.2.1/\x_.1++openIdx (λm=>!m.done) (p.bh.drop x_.2.1.toNat) x_.2.1=openMods p,λ(x_:Ty46_)=>p.bh.length-x_.2.1.toNat⟩
def Amc:=Ajr.a GZ<|Fct.p (KP [1,2,3,4,5,8,9,10] [11,17]) (λ⟨p,_⟩=>lv [(3,D2 p)]) Ajr.2 func122 (by
 rintro⟨(p:Sa_),_⟩ hp;refine ho (lpx (D2 p) ([],((0:Int),())) λ(y1:Ty46_) bk1=>.br (decide (y1.2.1<(p.bh.length:Int))) (.ob (inB y1.2.1 p.bh.length)<|.br (!(p.bh.getD y1.2.1.toNat default).done) (.ap (y1.1.length+[y1.2.1].length) 8<|.re (p.bh)<|.re (Value.int IntKind.i64 (p.bh.length:Int))<|.bk (bk1 (y1.1++[y1.2.1],(w1 y1.2.1,())))) (.re (p.bh)<|.re (Value.int IntKind.i64 (p.bh.length:Int))<|.bk (bk1 (y1.1,(w1 y1.2.1,()))))) (.lf GZ (y1.1,()))) ?_;refine Au ?_ λ(y1:Ty46_) i1=>Aa (λh2=>Ac ?_ λ_=>Aa (λh4=>Ek ?_ λ_=>An<|An<|A8 ?_) (λh4=>An<|An<|A8 ?_)) (λh2=>lfY ?_)
 all_goals
  have h0:openIdx (λm:Sf_=>!m.done) (p.bh.drop 0) 0=openMods p:=rfl;try simp only[std,Nat.reduceAdd,openIdx_at,openIdx_end,Qa1,Qa7,Qb1,Qb5] at *
  try simp(disch:=omega) only[wrapId',toNat1] at *
  try simp(disch:=omega) only[Qa3,Qa5]
 all_goals first|trivial|omega|grind[wrapId',toNat1,drop_cons,drop_end,good_len,maxLen,openIdx_at,openIdx_end,List.length_append,List.length_cons,List.length_nil,List.append_assoc])
def allowsInline (p:Sj_) (n:ByteArray):Bool:=!p.set_||(!decide (p.nonce=⟨#[]⟩)&&decide (p.nonce=n))
abbrev Cr:Fct:=⟨[.v (.el .bj),.v (.el .str)],[.el .bool],λ(x_:Ty108_)=>True,λ(x_:Ty108_)=>(allowsInline x_.1 x_.2.1,())⟩
theorem q16 (p:Sj_) (n:ByteArray) (hp:Cr.pre (p,n,())):Out.holds (Cr.ctr (p,n,())).post (.br (!p.set_) (.lf Cr (true,())) (.br (!p.nonce.toList==(⟨#[]⟩:ByteArray).toList) (.lf Cr (p.nonce.toList==ByteArray.toList n,())) (.lf Cr (false,())))):=hz ((@allowsInline.eq_1))
def Ajw:=Amc.a Cr<|Fct.o [1,2,4] Amc.2 func399 (by
 rintro⟨(p:Sj_),(n:ByteArray),_⟩ hp;exact ho _ (q16 p n hp))
def AkA:=Ajw.a Cr<|Fct.o [1,2,4] Ajw.2 func381 (by
 rintro⟨(p:Sj_),(n:ByteArray),_⟩ hp;exact ho _ (q16 p n hp))
def isVoid (n:ByteArray):Bool:=decide (n=⟨#[105,109,103]⟩)||decide (n=⟨#[108,105,110,107]⟩)
abbrev JE:Fct:=⟨[.v (.el .str)],[.el .bool],λ(x_:Ty48_)=>True,λ(x_:Ty48_)=>(isVoid x_.1,())⟩
def AlG:=AkA.a JE<|Fct.o [0,2] AkA.2 func397 (by
 rintro⟨(n:ByteArray),_⟩ hp;exact hg (.br (ByteArray.toList n==(⟨#[105,109,103]⟩:ByteArray).toList) (.lf JE (true,())) (.lf JE (ByteArray.toList n==(⟨#[108,105,110,107]⟩:ByteArray).toList,()))) (@isVoid.eq_1))
def Akc:=AlG.a JE<|Fct.o [0,2] AlG.2 func379 (by
 rintro⟨(n:ByteArray),_⟩ hp;exact hg (.br (ByteArray.toList n==(⟨#[105,109,103]⟩:ByteArray).toList) (.lf JE (true,())) (.lf JE (ByteArray.toList n==(⟨#[108,105,110,107]⟩:ByteArray).toList,()))) (@isVoid.eq_1))
def sheetsOf (l:List Sl_):List So_:=(l.filter λs=>decide (s.mode=2)&&(s.done&&decide (s.code=1))).map λs=>parseSheet s.body
theorem sheetsOf_at {l:List Sl_} {i:Nat} (h:i<l.length):sheetsOf (l.drop i)=if(l.getD i default).mode=2/\(l.getD i default).done=true/\(l.getD i default).code=1 then parseSheet (l.getD i default).body::sheetsOf (l.drop (i+1)) else sheetsOf (l.drop (i+1)):=by
 rw[drop_cons h];unfold sheetsOf;grind
theorem sheetsOf_end {l:List Sl_} {i:Nat} (h:l.length<=i):sheetsOf (l.drop i)=[]:=by rw[Qb2 h];rfl
def okBod (p:Sa_):Prop:=∀ i,i<p.bf.length->(p.bf.getD i default).body.size<=4200000000
abbrev HA:Fct:=⟨[.v (.el .page)],[.sl .sheet],λ(x_:Ty13_)=>szL AV x_.1.bf<=1000000000000/\okBod x_.1,λ(x_:Ty13_)=>(sheetsOf x_.1.bf,())⟩
abbrev D5 (p:Sa_):LInv:=⟨[⟨.s,3,true,.sl .sheet⟩,⟨.s,4,true,.el .int⟩,⟨.b,1,false,.el .page⟩],λ(z_ x_:Ty109_)=>(0<=x_.2.1/\x_.2.1<=p.bf.length/\x_.1.length<=x_.2.1/\x_.1++sheetsOf (p.bf.drop x_.2.1.toNat)=sheetsOf p.bf)/\x_.2.2.1=z_.2.2.1,λ(x_:Ty109_)=>p.bf.length-x_.2.1.toNat⟩
def Akm:=Akc.a HA<|Fct.p (KP [1,2,3,4,5] [11,30]) (λ⟨p,_⟩=>lv [(3,D5 p)]) Akc.2 func343 (by
 rintro⟨(p:Sa_),_⟩ hp;refine ho (lpx (D5 p) ([],((0:Int),(p,()))) λ(y1:Ty109_) bk1=>let q1_:Out:=.bk (bk1 (y1.1,(w1 y1.2.1,(y1.2.2.1,()))));let q0_:=y1.2.2.1.bf.getD y1.2.1.toNat default;.br (decide (y1.2.1<(y1.2.2.1.bf.length:Int))) (.ob (inB y1.2.1 y1.2.2.1.bf.length)<|.br (q0_.mode==2) (.br (q0_.done) (.br (q0_.code==1) (.cl Gp (q0_.body,()) λz2=>.ob (Ij (y1.1.length+[z2.1].length) 24)<|.bk (bk1 (y1.1++[z2.1],(w1 y1.2.1,(y1.2.2.1,()))))) q1_) q1_) q1_) (.lf HA (y1.1,()))) ?_;refine Au ?_ λ(y1:Ty109_) i1=>Aa (λh2=>Ac ?_ λ_=>Aa (λh4=>Aa (λh5=>Aa (λh6=>Af ?_ λ_=>(Ac ?_ λ_=>A8 ?_)) (λh6=>A8 ?_)) (λh5=>A8 ?_)) (λh4=>A8 ?_)) (λh2=>lfY ?_)
 all_goals
  have h0:sheetsOf (p.bf.drop 0)=sheetsOf p.bf:=rfl;have hl:=Ab AV p.bf;have hg:∀ i,i<p.bf.length->(p.bf.getD i default).body.size<=4200000000:=hp.2;have hg2:szL AV p.bf<=1000000000000:=hp.1;clear hp;try simp only[std,Nat.reduceAdd,sheetsOf_at,sheetsOf_end,Qa1,Qa7,Qb1,Qb5] at *
  try simp(disch:=omega) only[wrapId',toNat1] at *
  try simp(disch:=omega) only[Qa3,Qa5]
 all_goals first|trivial|omega|grind[wrapId',toNat1,drop_cons,drop_end,good_len,maxLen,sheetsOf_at,sheetsOf_end,List.length_append,List.length_cons,List.length_nil,List.append_assoc])
def ZY {w:ByteArray} {r:Sw_} (h:ruleOf w=some r):r.name.size<=w.size/\1<=r.color/\r.color<=999:=by
 unfold ruleOf at h;split at h
 ·cases h
 ·rename_i q hq;split at h
  ·rename_i hc;have:=O2 (p:=q.1) (q:=q.2) hq;obtain rfl:=Option.some.inj h;rw[BD] at this;exact⟨by rw[HT];omega,hc.2.2⟩
  ·cases h
def Hn:∀ (l:List ByteArray) (acc:List Sw_),szL N2 (parseRules l acc)<=szL N2 acc+szL Ae l/\∀ r,r∈parseRules l acc->r∈acc\/1<=r.color/\r.color<=999
 | [],acc=>⟨by rw[parseRules];omega,λr h=>.inl h⟩
 | w::l,acc=>by
  rw[parseRules,Ah];by_cases hc:acc.length<8
  ·rw[Qa3 hc];cases hr:ruleOf w with
   | none=>
    obtain⟨i1,i2⟩:=Hn l acc;grind
   | some x=>
    obtain⟨i1,i2⟩:=Hn l (acc++[x]);have hx:=ZY hr;rw[Option.toList_some];rw[En] at i1;refine⟨by simp only[N2,Ae] at *;omega,λr h=>?_⟩;grind
  ·rw[Qa5 hc];obtain⟨i1,i2⟩:=Hn l acc;exact⟨o_,i2⟩
def RX (s:ByteArray):DM (parseSheet s)<=s.size+1/\∀ r,r∈(parseSheet s).rules->1<=r.color/\r.color<=999:=by
 obtain⟨h1,h2⟩:=Hn (spl 59 s) [];rw[N5] at h1;have h0:szL N2 []=0:=rfl;exact⟨by simp only[DM,parseSheet];omega,λr h=>(h2 r h).elim (λh=>by cases h) id⟩
def Gt:∀ (l:List Sl_),szL DM (sheetsOf l)<=2*szL AV l/\okSheets (sheetsOf l)
 | []=>⟨Nat.zero_le _,λs h=>by cases h⟩
 | x::l=>by
  obtain⟨i1,i2⟩:=Gt l;have e:=sheetsOf_at (l:=x::l) (i:=0) (by simp);rw[Qf1] at e;rw[e,Ah];split
  ·have hp:=RX x.body;refine⟨?_,λs h=>?_⟩
   ·rw[Ah];simp only[AV] at *;show DM (parseSheet x.body)+1+szL DM (sheetsOf l)<=_;omega
   ·rcases Qd2.1 h with rfl|h
    ·grind
    ·exact i2 s h
  ·grind
def O4 (s:ByteArray):∀ (l:List ByteArray) (k:Int),(line8L s l k).2=true->(line8L s l k).1.text.size<=60
 | [],k,h=>by cases h
 | w::l,k,h=>by
  rw[line8L] at h ⊢;split
  ·rename_i hc;rw[Qa3 hc] at h;dsimp only at h ⊢;split at h
   ·simp_all
   ·have:=BL h;omega
  ·rename_i hc;rw[Qa5 hc] at h;exact O4 s l _ h
def GI (s:ByteArray):szL CQ (parseScript s).1<=366/\(parseScript s).1.length<=6:=by
 unfold parseScript;split
 ·exact⟨by decide,by decide⟩
 ·split
  ·rename_i hc;have hs:∀ l:List ByteArray,allOk8 l=true->szL CQ (lines8 l)<=61*l.length:=by
    intro l
    induction l with
    | nil=>intro _;decide
    | cons w l ih=>
     intro h;simp only[allOk8,List.all_cons,Qa2] at h;have:=ih h.2;have h2:=O4 w _ _ h.1;show szL CQ ((line8 w).1::lines8 l)<=_;rw[Ah];simp only[CQ,Qa7,line8] at *;omega
   have:=hs _ hc.2;exact⟨by dsimp only;omega,by dsimp only;rw[lines8,Qf2];exact hc.1⟩
  ·exact⟨by decide,by decide⟩
def CE {α:Type} (f:α->Nat):∀ (l m:List α),szL f (l++m)=szL f l+szL f m
 | [],m=>by show szL f m=0+szL f m;omega
 | x::l,m=>by rw[Qe5,Ah,Ah,CE f l m];omega
def addLog:List ByteArray->List ByteArray->List ByteArray
 | g,[]=>g
 | g,x::l=>if g.length<40 then addLog (g++[x]) l else g
def S4 {l g:List ByteArray} {i:Nat} (h:i<l.length):addLog g (l.drop i)=if g.length<40 then addLog (g++[l.getD i default]) (l.drop (i+1)) else g:=by rw[drop_cons h];rfl
def Ps {l g:List ByteArray} {i:Nat} (h:l.length<=i):addLog g (l.drop i)=g:=by rw[Qb2 h];cases g<;>rfl
def IT {l g:List ByteArray} (h:¬ g.length<40):addLog g l=g:=by
 cases l with
 | nil=>cases g<;>rfl
 | cons x l=>rw[addLog,Qa5 h]
def Ii (g:List ByteArray):addLog g []=g:=by cases g<;>rfl
def rsOf (p:Sa_) (c:ByteArray):Se_×ByteArray×List ByteArray:=runScript p.ba (sheetsOf p.bf) (parseScript c).1
def runCode (p:Sa_) (c:ByteArray) (w:Bool):Sa_ :=
 if(parseScript c).2=true then{ p with ba:=(rsOf p c).1,bn:=if w=true then tokensOf (rsOf p c).2.1++p.bn else p.bn,log:=addLog p.log (rsOf p c).2.2 }
 else{ p with log:=addLog p.log [⟨#[101,114,114,111,114]⟩]}
def IK (l:List So_):∀ (r:List Sr_) (b:Se_) (w:ByteArray) (g:List ByteArray),szBuilder (runLines l r b w g).1<=szBuilder b+szL CQ r/\(runLines l r b w g).2.1.size<=w.size+szL CQ r/\(runLines l r b w g).2.2.length<=g.length+r.length
 | [],b,w,g=>⟨Qc6 _ _,Qc6 _ _,Qc6 _ _⟩
 | x::r,b,w,g=>by
  have h:=Ms b l x;have i1:=IK l r (runLine b l x).1 (w++(runLine b l x).2.1) (if(runLine b l x).2.2=⟨#[]⟩ then g else g++[(runLine b l x).2.2]);rw[runLines,Ah];have hg:(if(runLine b l x).2.2=⟨#[]⟩ then g else g++[(runLine b l x).2.2]).length<=g.length+1:=by split<;>simp
  rw[Qa6] at i1;simp only[Qa7,CQ] at *
  omega
def ZB (p:Sa_) (c:ByteArray):szBuilder (rsOf p c).1<=szBuilder p.ba+366/\(rsOf p c).2.1.size<=366/\(rsOf p c).2.2.length<=6:=by
 have h1:=IK (sheetsOf p.bf) (parseScript c).1 p.ba ⟨#[]⟩ [];have h2:=GI c;have h0:ByteArray.size ⟨#[]⟩=0:=rfl;simp only[rsOf,runScript,Qb1] at *
 omega
def I6 (s:ByteArray):szL szToken (tokensOf s)<=s.size+2/\(tokensOf s).length<=s.size+2:=by
 have h1:=MA s;have h2:=Qn (feedAll s).2;have h3:szL szToken (tokensOf s)<=s.size+2:=by unfold tokensOf;rw[CE];omega
 exact⟨h3,Qd1 (Ab _ _) h3⟩
abbrev DO:Fct:=⟨[.v (.el .page),.v (.el .str),.v (.el .bool)],[.el .page],λ(x_:Ty110_)=>Ag x_.1<=1000000000000/\szBuilder x_.1.ba<=40000000000/\szL AV x_.1.bf<=40000000000/\x_.2.1.size<=4200000000/\okBod x_.1,λ(x_:Ty110_)=>(runCode x_.1 x_.2.1 x_.2.2.1,())⟩
abbrev EB (p:Sa_) (c:ByteArray) (w:Bool):LInv:=⟨[⟨.b,7,true,.el .page⟩,⟨.s,13,true,.el .int⟩,⟨.b,6,true,.el .page⟩,⟨.s,12,true,.sl .str⟩],λ(z_ x_:Ty111_)=>((0<=x_.2.1/\x_.2.1<=(rsOf p c).2.2.length/\x_.1={ p with ba:=(rsOf p c).1,log:=x_.1.log }/\addLog x_.1.log ((rsOf p c).2.2.drop x_.2.1.toNat)=addLog p.log (rsOf p c).2.2/\x_.1.log.length<=p.log.length+x_.2.1)/\x_.2.2.1=z_.2.2.1)/\x_.2.2.2.1=z_.2.2.2.1,λ(x_:Ty111_)=>(rsOf p c).2.2.length-x_.2.1.toNat⟩
def Ak8:=Akm.a DO<|Fct.p (KP [1,2,3,6,7,8,9,10,11,12,13] [22,26,54,66]) (λ⟨p,c,w,_⟩=>lv [(10,EB p c w)]) Akm.2 func246 (by
 rintro⟨(p:Sa_),(c:ByteArray),(w:Bool),_⟩ hp;refine ho (.cl AC (p,()) λz2=>.cl Bs (c,()) λz3=>.br (!z3.2.1) (.br (decide ((z2.1.log.length:Int)<40)) (.ap (z2.1.log.length+1) 16<|.lf DO ({z2.1 with log:=z2.1.log++[(⟨#[101,114,114,111,114]⟩:ByteArray)]},())) (.lf DO (z2.1,()))) (.cl HA (p,()) λz4=>.cl Gv (p.ba,z4.1,z3.1,()) λz5=>lpx (EB p c w) (({z2.1 with ba:=z5.1}:Sa_),((0:Int),(default,(z5.2.2.1,())))) λ(y8:Ty111_) bk8=>let q0_:Out:=.br (w) (.cl HD (z5.2.1,()) λz6=>.ob (Ij (z6.1.length+y8.1.bn.length) 64)<|.lf DO ({y8.1 with bn:=z6.1++y8.1.bn},())) (.lf DO (y8.1,()));.br (decide (y8.2.1<(y8.2.2.2.1.length:Int))) (.br (decide ((y8.1.log.length:Int)<40)) (.ix y8.2.1 y8.2.2.2.1.length<|.ap (y8.1.log.length+[y8.2.2.2.1.getD y8.2.1.toNat default].length) 16<|.re (Value.string c)<|.re (Value.bool w)<|.re (Value.bool z3.2.1)<|.re (Value.string z5.2.1)<|.bk (bk8 (({y8.1 with log:=y8.1.log++[y8.2.2.2.1.getD y8.2.1.toNat default]}:Sa_),(w1 y8.2.1,(y8.2.2.1,(y8.2.2.2.1,())))))) q0_) q0_)) ?_;refine Af ?_ λ_=>(Af ?_ λ_=>(Aa (λh3=>Aa (λh4=>Ek ?_ λ_=>lfY ?_) (λh4=>lfY ?_)) (λh3=>Af ?_ λ_=>(Af ?_ λ_=>(Au ?_ λ(y8:Ty111_) i8=>Aa (λh9=>Aa (λh10=>Er ?_ λo11 o12=>Ek ?_ λ_=>An<|An<|An<|An<|A8 ?_) (λh10=>Aa (λh15=>Af ?_ λ_=>(Ac ?_ λ_=>lfY ?_)) (λh15=>lfY ?_))) (λh9=>Aa (λh18=>Af ?_ λ_=>(Ac ?_ λ_=>lfY ?_)) (λh18=>lfY ?_)))))))
 all_goals
  have hz:=ZB p c;have hs:=GI c;have hk:=Gt p.bf;have hq:szL szToken p.bn+szBuilder p.ba+szL AV p.bf+szL Ae p.log<=Ag p:=by simp only[Ag];omega
  have hq1:=Ab szToken p.bn;have hq2:=Ab Ae p.log
 all_goals obtain⟨hp1,hp2,hp3,hp4,hp5⟩:=(show Ag p<=1000000000000/\szBuilder p.ba<=40000000000/\szL AV p.bf<=40000000000/\c.size<=4200000000/\okBod p from hp)
 all_goals
  have hrs:runScript p.ba (sheetsOf p.bf) (parseScript c).1=rsOf p c:=rfl;try simp only[Kk] at *
  try simp only[std,Nat.reduceAdd,hrs] at *
 all_goals first|trivial|omega|exact⟨o_,hp5⟩|exact⟨o_,o_,o_,hk.2⟩|exact⟨o_,o_,rfl,rfl,o_⟩|skip
 all_goals first|(unfold runCode;rw[Qa5 (by rw[show Prod.snd _=false from ‹_›];decide)];first|rw[addLog,Qa3 o_,Ii]|(rw[IT o_]))|skip
 all_goals (obtain⟨⟨⟨a1,a2,a3,a4,a5⟩,a6⟩,a7⟩:=i8;obtain⟨q,i,d,lg,u⟩:=y8;try dsimp only at *;generalize q.log=L at *;subst a3;subst a7;try dsimp only at *)
 all_goals first|trivial|omega|(have:=I6 (rsOf p c).2.1;simp only[Ij];omega)|(have:=I6 (rsOf p c).2.1;omega)|skip
 all_goals first|(rw[Ps o_] at a4;unfold runCode;rw[Qa3 ‹_›,<-a4];first|rw[Qa3 ‹_›]|(rw[Qa5 (by rw[show w=false from ‹_›];decide)]))|(rw[IT o_] at a4;unfold runCode;rw[Qa3 ‹_›,<-a4];first|rw[Qa3 ‹_›]|(rw[Qa5 (by rw[show w=false from ‹_›];decide)]))|skip
 all_goals (rw[S4 o_,Qa3 o_] at a4;rw[Al o_,show(i+1).toNat=i.toNat+1 from o_])
 all_goals exact⟨⟨⟨⟨o_,o_,rfl,a4,by rw[Qa1];simp only[Qa7,Qb1];omega⟩,a6⟩,rfl⟩,o_⟩)
def closeN (b:Se_) (n:ByteArray):Nat->List Int
 | 0=>b.bl
 | 1=>b.bl
 | m+2=>if 0<=b.bl.getD (m+1) default/\b.bl.getD (m+1) default<b.bi.length/\(b.bi.getD (b.bl.getD (m+1) default).toNat default).name=n then b.bl.take (m+1) else closeN b n (m+1)
def TP {b:Se_} {n:ByteArray} {i:Int} (h:1<=i):closeN b n (i+1).toNat=if 0<=b.bl.getD i.toNat default/\b.bl.getD i.toNat default<b.bi.length/\(b.bi.getD (b.bl.getD i.toNat default).toNat default).name=n then b.bl.take i.toNat else closeN b n i.toNat:=by
 obtain⟨m,rfl⟩:∃ m:Nat,i=m+1:=⟨(i-1).toNat,o_⟩;rfl
def PR {b:Se_} {n:ByteArray} {i:Int} (h:i<=0):closeN b n (i+1).toNat=b.bl:=by
 have h2:(i+1).toNat=0\/(i+1).toNat=1:=o_
 rcases h2 with h2|h2<;>rw[h2]<;>rfl
def closeB (b:Se_) (n:ByteArray):Se_:=⟨b.bi,closeN b n b.bl.length⟩
abbrev Pt:GS:=⟨[.g (.el .ba),.l (.v (.el .str))],[.el .ba],λ(x_:Ty98_)=>szBuilder x_.1<=1000000000000,λ(x_:Ty98_)=>((closeB x_.1 x_.2.1,()),(()))⟩
abbrev FR (b:Se_) (n:ByteArray):LInv:=⟨[⟨.s,5,true,.el .int⟩,⟨.b,2,true,.el .ba⟩,⟨.b,4,true,.el .ba⟩],λ_ (x_:Ty112_)=>x_.2.1=b/\-1<=x_.1/\x_.1<b.bl.length/\closeN b n (x_.1+1).toNat=closeN b n b.bl.length,λ(x_:Ty112_)=>(x_.1+1).toNat⟩
def Amr:=Ak8.G Pt<|GS.of (S:=Pt) (L:=λ⟨b,n,_⟩=>λ|2=>some (FR b n)|_=>none) (kp:=(KP [1,2,4,5,6] [12,35])) Ak8.2 func396 k_ k_ (by
 rintro⟨(b:Se_),(n:ByteArray),_⟩ hp;refine ho (lpx (FR b n) (wr ((b.bl.length:Int)-(1:Int)),(b,(default,()))) λ(y1:Ty112_) bk1=>.br (decide (y1.1>0)) (.ix y1.1 y1.2.1.bl.length<|.cl Aw (y1.2.1.bl.getD y1.1.toNat default,(0:Int),wr ((y1.2.1.bi.length:Int)-(1:Int)),()) λz2=>.br (z2.1) (.ix (y1.2.1.bl.getD y1.1.toNat default) y1.2.1.bi.length<|.br ((y1.2.1.bi.getD (y1.2.1.bl.getD y1.1.toNat default).toNat default).name.toList==n.toList) (.ob (0<=y1.1/\y1.1<=(y1.2.1.bl.length:Int))<|.ob (0+(y1.1.toNat-0)<=y1.2.1.bl.length)<|GS.out Pt ((⟨y1.2.1.bi,cut y1.2.1.bl 0 (y1.1.toNat-0)⟩,()),(()))) (.re (Value.string n)<|.bk (bk1 (wr (y1.1-(1:Int)),(y1.2.1,(y1.2.2.1,())))))) (.re (Value.string n)<|.bk (bk1 (wr (y1.1-(1:Int)),(y1.2.1,(y1.2.2.1,())))))) (GS.out Pt ((y1.2.1,()),(())))) ?_;refine Au ?_ λ(y1:Ty112_) i1=>Aa (λh2=>Er ?_ λo3 o4=>Af trivial λ_=>(Aa (λh5=>Er ?_ λo6 o7=>Aa (λh8=>Ac ?_ λ_=>Ac ?_ λ_=>GS.leafY ?_) (λh8=>An<|A8 ?_)) (λh5=>An<|A8 ?_))) (λh2=>GS.leafY ?_)
 all_goals
  have hl:b.bl.length<=1000000000000:=by have h1:szBuilder b<=1000000000000:=hp;simp only[szBuilder] at h1;omega
  have hn:b.bi.length<=1000000000000:=by have h1:szBuilder b<=1000000000000:=hp;have:=Ab AK b.bi;simp only[szBuilder] at h1;omega
  try simp only[std,Nat.reduceAdd,inRange,closeB] at *
 all_goals try (obtain⟨a0,a1,a2,a3⟩:=i1;simp only[a0] at *)
 all_goals try simp only[Al (show -9223372036854775808<=(b.bl.length:Int)-1/\(b.bl.length:Int)-1<=9223372036854775807 from o_)] at *
 all_goals first|trivial|omega|(rw[show((b.bl.length:Int)-1+1).toNat=b.bl.length from o_];exact⟨o_,o_,rfl⟩)|skip
 all_goals try simp only[Qa2,Qe4,Qa8,Qb3,Al (show -9223372036854775808<=(b.bi.length:Int)-1/\(b.bi.length:Int)-1<=9223372036854775807 from o_)] at *
 all_goals first|omega|(rw[PR o_] at a3;rw[<-a3])|skip
 all_goals rw[TP o_] at a3
 all_goals first|(rw[Qa3 (by exact⟨o_,o_,‹_›⟩)] at a3;rw[<-a3];first|rfl|simp[cut])|(rw[Qa5 (by rintro⟨q1,q2,q3⟩;first|omega|exact absurd q3 ‹_›)] at a3;rw[Al o_,show(y1.1-1+1).toNat=y1.1.toNat from o_];exact⟨⟨by first|assumption|trivial,o_,o_,a3⟩,o_⟩))
def lastOpen (b:Se_):Int:=b.bl.getD (b.bl.length-1) default
def addToken (b:Se_) (t:Si_):Se_×Int :=
 if t.kind=2 then(closeB b t.name,-1)
 else if b.bi.length<40/\0<b.bl.length/\(t.kind=1/\isVoid t.name=false->b.bl.length<8)/\(t.kind=1\/t.kind=3/\t.text≠⟨#[]⟩) then
  (if t.kind=1 then⟨b.bi++[⟨t.name,⟨#[]⟩,lastOpen b,t.bo⟩],if isVoid t.name=true then b.bl else b.bl++[(b.bi.length:Int)]⟩ else⟨b.bi++[⟨⟨#[]⟩,t.text,lastOpen b,[]⟩],b.bl⟩,(b.bi.length:Int))
 else(b,-1)
def H8 {b:Se_} {t:Si_} (h:t.kind=2):addToken b t=(closeB b t.name,-1):=by unfold addToken;rw[Qa3 h]
def Oc {b:Se_} {t:Si_} (h:¬ t.kind=2) (h2:40<=b.bi.length\/b.bl.length=0\/(t.kind=1/\isVoid t.name=false/\8<=b.bl.length)\/(t.kind≠1/\(t.kind≠3\/t.text=⟨#[]⟩))):addToken b t=(b,-1):=by
 unfold addToken;grind
def Om {b:Se_} {t:Si_} (h:t.kind=1) (h1:b.bi.length<40) (h2:0<b.bl.length) (h3:isVoid t.name=true\/b.bl.length<8):addToken b t=(⟨b.bi++[⟨t.name,⟨#[]⟩,lastOpen b,t.bo⟩],if isVoid t.name=true then b.bl else b.bl++[(b.bi.length:Int)]⟩,(b.bi.length:Int)):=by
 unfold addToken;grind
def Oj {b:Se_} {t:Si_} (h:t.kind=3) (h1:b.bi.length<40) (h2:0<b.bl.length) (h3:¬ t.text=⟨#[]⟩):addToken b t=(⟨b.bi++[⟨⟨#[]⟩,t.text,lastOpen b,[]⟩],b.bl⟩,(b.bi.length:Int)):=by
 unfold addToken;simp_all
def IP {b:Se_}:b.bl.getD ((b.bl.length:Int)-1).toNat default=lastOpen b:=by
 rw[show((b.bl.length:Int)-1).toNat=b.bl.length-1 from o_];rfl
abbrev Ba:Fct:=⟨[.v (.el .ba),.v (.el .token)],[.el .ba,.el .int],λ(x_:Se_×Si_×Unit)=>szBuilder x_.1<=100000000000/\szToken x_.2.1<=100000000000,λ(x_:Se_×Si_×Unit)=>((addToken x_.1 x_.2.1).1,(addToken x_.1 x_.2.1).2,())⟩
def Ajn:=Amr.a Ba<|Fct.o (KP [2,3,4,5,6,7,8,9] [17,47,59,70,88]) Amr.2 func345 (by
 rintro⟨(b:Se_),(t:Si_),_⟩ hp;refine ho (let q7_:=(⟨#[]⟩:ByteArray);let q12_:=!t.text.toList==q7_.toList;let q6_:=(b.bl.length:Int);let q4_:=(b.bi.length:Int);let q13_:=decide (q4_>=40);let q2_:=q6_-(1:Int);let q11_:=0<=wr q2_/\wr q2_<q6_;let q1_:=(⟨q7_,t.text,b.bl.getD (wr q2_).toNat default,[]⟩:Sv_);.cl Cw (b,()) λz2=>let q10_:=z2.1.bl.length+[q4_].length;let q9_:=Ij (z2.1.bi.length+[q1_].length) 64;let q3_:Out:=.lf Ba (z2.1,(-1:Int),());.br (t.kind==2) (.ob (Pt.pre (z2.1,t.name,()))<|.lt _ (Pt.fn (z2.1,t.name,())) λz3=>.lf Ba (z3.1.1,(-1:Int),())) (.br (t.kind==1) (.cl JE (t.name,()) λz4=>let q0_:Out:=.ob q11_<|.br (t.kind==1) (.cl Ho (t.bo,()) λz5=>let q5_:=(⟨t.name,q7_,b.bl.getD (wr q2_).toNat default,z5.1⟩:Sv_);.ob (Ij (z2.1.bi.length+[q5_].length) 64)<|.br (!z4.1) (.ap q10_ 8<|.lf Ba (⟨z2.1.bi++[q5_],z2.1.bl++[q4_]⟩,q4_,())) (.lf Ba (⟨z2.1.bi++[q5_],z2.1.bl⟩,q4_,()))) (.br (t.kind==3) (.br q12_ (.ob q9_<|.br (!z4.1) (.ap q10_ 8<|.lf Ba (⟨z2.1.bi++[q1_],z2.1.bl++[q4_]⟩,q4_,())) (.lf Ba (⟨z2.1.bi++[q1_],z2.1.bl⟩,q4_,()))) q3_) q3_);.br q13_ q3_ (.br (q6_==0) q3_ (.br (!z4.1) (.br (decide (q6_>=8)) q3_ q0_) q0_))) (.br q13_ q3_ (.br (q6_==0) q3_ (.ob q11_<|.br (t.kind==1) (.cl Ho (t.bo,()) λz7=>let q8_:=(⟨t.name,q7_,b.bl.getD (wr q2_).toNat default,z7.1⟩:Sv_);.ob (Ij (z2.1.bi.length+[q8_].length) 64)<|.lf Ba (⟨z2.1.bi++[q8_],z2.1.bl⟩,q4_,())) (.br (t.kind==3) (.br q12_ (.ob q9_<|.lf Ba (⟨z2.1.bi++[q1_],z2.1.bl⟩,q4_,())) q3_) q3_)))))) ?_;repeat' first|(guard_target =~ Out.holds _ _;first|refine lfY ?_|refine Aa (λ_=>?_) λ_=>?_|refine Af ?_ λ_=>?_|refine Ac ?_ λ_=>?_|refine DW ?_|refine Ek ?_ λ_=>?_)|exact trivial
 all_goals
  have hl:b.bl.length<=100000000000:=by have h1:szBuilder b<=100000000000:=hp.1;simp only[szBuilder] at h1;omega
  have hn:b.bi.length<=100000000000:=by have h1:szBuilder b<=100000000000:=hp.1;have:=Ab AK b.bi;simp only[szBuilder] at h1;omega
  have ha:szL B9 t.bo<=100000000000/\t.bo.length<=100000000000:=by have h1:szToken t<=100000000000:=hp.2;have:=Ab B9 t.bo;simp only[szToken] at h1;omega
  try simp only[std,Nat.reduceAdd] at *
  try simp only[Al (show -9223372036854775808<=(b.bl.length:Int)-1/\(b.bl.length:Int)-1<=9223372036854775807 from o_),IP] at *
 all_goals first|trivial|omega|skip
 all_goals first|(rw[H8 ‹_›];exact⟨rfl,rfl⟩)|skip
 all_goals first|(rw[Oc o_ (by first|exact .inl o_|exact .inr (.inl o_)|exact .inr (.inr (.inl ⟨o_,‹_›,o_⟩))|exact .inr (.inr (.inr ⟨o_,.inl o_⟩))|exact .inr (.inr (.inr ⟨o_,.inr ‹_›⟩)))];exact⟨rfl,rfl⟩)|skip
 all_goals first|(rw[Om o_ o_ o_ (by first|exact .inl ‹_›|exact .inr o_)];first|rw[Qa3 ‹_›]|rw[Qa5 (by rw[show isVoid t.name=false from ‹_›];decide)])|(rw[Oj o_ o_ o_ ‹_›])|skip
 all_goals first|exact⟨rfl,rfl⟩|exact absurd ((show isVoid t.name=true from ‹_›).symm.trans (show isVoid t.name=false from ‹_›)) (by decide))
abbrev Cy (b:Se_) (t:Si_):LInv:=⟨[⟨.b,6,true,.el .ba⟩,⟨.s,7,true,.el .int⟩,⟨.b,2,false,.el .ba⟩,⟨.b,3,false,.el .token⟩,⟨.b,4,true,.el .ba⟩],λ(z_ x_:Ty113_)=>(((x_.1=b/\-1<=x_.2.1/\x_.2.1<b.bl.length/\closeN b t.name (x_.2.1+1).toNat=closeN b t.name b.bl.length)/\x_.2.2.1=z_.2.2.1)/\x_.2.2.2.1=z_.2.2.2.1)/\x_.2.2.2.2.1=z_.2.2.2.2.1,λ(x_:Ty113_)=>(x_.2.1+1).toNat⟩
def Am2:=Ajn.a Ba<|Fct.p (KP [2,3,4,5,6,7,8,9,10,11] [14,23,50,57,100,116,134]) (λ⟨b,t,_⟩=>lv [(4,Cy b t)]) Ajn.2 func315 (by
 rintro⟨(b:Se_),(t:Si_),_⟩ hp;refine ho (let q11_:=(⟨#[]⟩:ByteArray);let q6_:=(b.bi.length:Int);let q15_:=decide (q6_>=40);let q5_:=(b.bl.length:Int);let q8_:=q5_-(1:Int);let q14_:=0<=wr q8_/\wr q8_<q5_;let q3_:=(⟨q11_,t.text,b.bl.getD (wr q8_).toNat default,[]⟩:Sv_);let q2_:=(⟨t.name,q11_,b.bl.getD (wr q8_).toNat default,[]++t.bo⟩:Sv_);.cl Cw (b,()) λz2=>let q12_:=z2.1.bl.length+[q6_].length;let q10_:=Ij (z2.1.bi.length+[q3_].length) 64;let q9_:=Ij (z2.1.bi.length+[q2_].length) 64;let q7_:Out:=.lf Ba (z2.1,(-1:Int),());let q0_:Out:=.br (t.kind==1) (.cl JE (t.name,()) λz3=>let q1_:Out:=.ob q14_<|.br (t.kind==1) (.ap (0+t.bo.length) 32<|.ob q9_<|.br (!z3.1) (.ap q12_ 8<|.lf Ba (⟨z2.1.bi++[q2_],z2.1.bl++[q6_]⟩,q6_,())) (.lf Ba (⟨z2.1.bi++[q2_],z2.1.bl⟩,q6_,()))) (.ob q10_<|.br (!z3.1) (.ap q12_ 8<|.lf Ba (⟨z2.1.bi++[q3_],z2.1.bl++[q6_]⟩,q6_,())) (.lf Ba (⟨z2.1.bi++[q3_],z2.1.bl⟩,q6_,())));.br q15_ q7_ (.br (q5_==0) q7_ (.br (!z3.1) (.br (decide (q5_>=8)) q7_ q1_) q1_))) (.br q15_ q7_ (.br (q5_==0) q7_ (.ob q14_<|.br (t.kind==1) (.ap (0+t.bo.length) 32<|.ob q9_<|.lf Ba (⟨z2.1.bi++[q2_],z2.1.bl⟩,q6_,())) (.ob q10_<|.lf Ba (⟨z2.1.bi++[q3_],z2.1.bl⟩,q6_,())))));.br (t.kind==2) (lpx (Cy b t) (z2.1,(wr q8_,(b,(t,(default,()))))) λ(y3:Ty113_) bk3=>let q13_:=(y3.2.2.1.bi.length:Int);let q4_:Out:=.re (Value.int IntKind.i64 (0:Int))<|.bk (bk3 (y3.1,(wr (y3.2.1-(1:Int)),(y3.2.2.1,(y3.2.2.2.1,(y3.2.2.2.2.1,()))))));.br (decide (y3.2.1>=1)) (.ob (inB y3.2.1 y3.2.2.1.bl.length)<|.br (decide (y3.2.2.1.bl.getD y3.2.1.toNat default>=0)) (.br (decide (y3.2.2.1.bl.getD y3.2.1.toNat default<q13_)) (.ob (0<=y3.2.2.1.bl.getD y3.2.1.toNat default/\y3.2.2.1.bl.getD y3.2.1.toNat default<q13_)<|.br ((y3.2.2.1.bi.getD (y3.2.2.1.bl.getD y3.2.1.toNat default).toNat default).name.toList==y3.2.2.2.1.name.toList) (.ob (0<=y3.2.1/\y3.2.1<=(y3.1.bl.length:Int))<|.ob (0+(y3.2.1.toNat-0)<=y3.1.bl.length)<|.lf Ba (⟨y3.1.bi,cut y3.1.bl 0 (y3.2.1.toNat-0)⟩,(-1:Int),())) q4_) q4_) q4_) (.lf Ba (y3.1,(-1:Int),()))) (.br (t.kind != 1) (.br (t.kind==3) (.br (!!t.text.toList==q11_.toList) q7_ q0_) (.br (!false) q7_ q0_)) q0_)) ?_;repeat' first|(guard_target =~ Out.holds _ _;first|refine Au (li:=Cy b t) ?_ λ(y3:Ty113_) i3=>?_|refine lfY ?_|refine Aa (λ_=>?_) λ_=>?_|refine Af ?_ λ_=>?_|refine Ac ?_ λ_=>?_|refine A8 ?_|refine An ?_|refine Ek ?_ λ_=>?_)|exact trivial
 all_goals
  have hl:b.bl.length<=100000000000:=by have h1:szBuilder b<=100000000000:=hp.1;simp only[szBuilder] at h1;omega
  have hn:b.bi.length<=100000000000:=by have h1:szBuilder b<=100000000000:=hp.1;have:=Ab AK b.bi;simp only[szBuilder] at h1;omega
  have ha:szL B9 t.bo<=100000000000/\t.bo.length<=100000000000:=by have h1:szToken t<=100000000000:=hp.2;have:=Ab B9 t.bo;simp only[szToken] at h1;omega
  try simp only[std,Nat.reduceAdd] at *
  try simp only[Al (show -9223372036854775808<=(b.bl.length:Int)-1/\(b.bl.length:Int)-1<=9223372036854775807 from o_),IP] at *
 all_goals first|trivial|omega|(rw[show((b.bl.length:Int)-1+1).toNat=b.bl.length from o_];exact⟨o_,o_,rfl⟩)|skip
 all_goals first|(rw[Oc o_ (by first|exact .inl o_|exact .inr (.inl o_)|exact .inr (.inr (.inl ⟨o_,‹_›,o_⟩))|exact .inr (.inr (.inr ⟨o_,.inl o_⟩))|exact .inr (.inr (.inr ⟨o_,.inr ‹_›⟩)))];exact⟨rfl,rfl⟩)|skip
 all_goals first|(rw[Om o_ o_ o_ (by first|exact .inl ‹_›|exact .inr o_)];first|rw[Qa3 ‹_›]|rw[Qa5 (by rw[show isVoid t.name=false from ‹_›];decide)])|(rw[Oj o_ o_ o_ ‹_›])|skip
 all_goals first|exact⟨rfl,rfl⟩|exact absurd ((show isVoid t.name=true from ‹_›).symm.trans (show isVoid t.name=false from ‹_›)) (by decide)|skip
 all_goals try (obtain⟨⟨⟨⟨a0,a1,a2,a3⟩,e1⟩,e2⟩,e3⟩:=i3;simp only[a0,e1,e2] at *)
 all_goals try simp only[Qa2,Qe4,Qa8,Qb3] at *
 all_goals first|omega|(rw[PR o_] at a3;rw[H8 ‹_›];unfold closeB;rw[<-a3];exact⟨rfl,rfl⟩)|skip
 all_goals rw[TP o_] at a3
 all_goals first|(rw[Qa3 (by exact⟨o_,o_,‹_›⟩)] at a3;rw[H8 ‹_›];unfold closeB;rw[<-a3];simp[cut];done)|(rw[Qa5 (by rintro⟨q1,q2,q3⟩;first|omega|exact absurd q3 ‹_›)] at a3;rw[Al o_,show(y3.2.1-1+1).toNat=y3.2.1.toNat from o_];exact⟨⟨⟨⟨⟨trivial,o_,o_,a3⟩,trivial⟩,trivial⟩,e3⟩,o_⟩)|skip)
def HZ (s b:ByteArray):(parseAddr s b).1.host.size<=s.size+b.size/\(parseAddr s b).1.path.size<=s.size+b.size:=by
 have:=LF s b;unfold parseAddr;split
 ·grind
 ·exact⟨Nat.zero_le _,Nat.zero_le _⟩
def reqOf (p:Sa_) (s:Sl_):Sg_:=⟨kindOf s.mode,s.to,p.addr.host,s.digest⟩
def rawSlot (p:Sa_) (mode:Int) (to digest:ByteArray) (node:Int):Sl_:=⟨mode,(parseAddr to p.addr.host).1,digest,node,false,0,⟨#[]⟩⟩
def newSlot (p:Sa_) (mode:Int) (to digest:ByteArray) (node:Int):Sl_ :=
 if(parseAddr to p.addr.host).2=true/\checkRequest p.bj (reqOf p (rawSlot p mode to digest node))=1 then rawSlot p mode to digest node
 else⟨mode,(parseAddr to p.addr.host).1,digest,node,true,2,⟨#[]⟩⟩
def addSlot (p:Sa_) (mode:Int) (to digest:ByteArray) (node:Int):Sa_×Int :=
 if p.bf.length<20/\kindOf mode≠0 then({ p with bf:=p.bf++[newSlot p mode to digest node]},(p.bf.length:Int)) else(p,-1)
def Nb (p:Sa_) (s:Sl_):slotRequest { p with bf:=p.bf++[s]} (p.bf.length:Int)=reqOf p s:=by
 unfold slotRequest reqOf;grind
def Qg {p:Sa_} {mode:Int} {to digest:ByteArray} {node:Int} (h:20<=p.bf.length\/kindOf mode=0):addSlot p mode to digest node=(p,-1):=by
 unfold addSlot;rw[Qa5];rintro⟨q1,q2⟩;rcases h with h|h
 ·omega
 ·exact q2 h
def NY {p:Sa_} {mode:Int} {to digest:ByteArray} {node:Int} (h:p.bf.length<20) (h2:¬ kindOf mode=0):addSlot p mode to digest node=({ p with bf:=p.bf++[newSlot p mode to digest node]},(p.bf.length:Int)):=by
 unfold addSlot;rw[Qa3 ⟨h,h2⟩]
def KO {α:Type}:∀ (l:List α) (x:α) (f:α->α),(l++[x]).modify l.length f=l++[f x]
 | [],x,f=>rfl
 | a::l,x,f=>by show a::(l++[x]).modify l.length f=_;rw[KO l x f];rfl
def P0 {p:Sa_} {m:Int} {to d:ByteArray} {n:Int} (h:(parseAddr to p.addr.host).2=false\/¬ checkRequest p.bj (reqOf p (rawSlot p m to d n))=1):newSlot p m to d n=⟨m,(parseAddr to p.addr.host).1,d,n,true,2,⟨#[]⟩⟩:=by
 unfold newSlot;rw[Qa5];rintro⟨q1,q2⟩;rcases h with h|h
 ·simp_all
 ·exact h q2
def NC {p:Sa_} {m:Int} {to d:ByteArray} {n:Int} (h:(parseAddr to p.addr.host).2=true) (h2:checkRequest p.bj (reqOf p (rawSlot p m to d n))=1):newSlot p m to d n=rawSlot p m to d n:=by
 unfold newSlot;rw[Qa3 ⟨h,h2⟩]
abbrev Cs:Fct:=⟨[.v (.el .page),.v (.el .int),.v (.el .str),.v (.el .str),.v (.el .int)],[.el .page,.el .int],λ(x_:Ty114_)=>Ag x_.1<=1090000000000/\x_.1.addr.host.size<=4000000000/\x_.2.2.1.size<=4000000000/\x_.2.2.2.1.size<=50000000000,λ(x_:Ty114_)=>((addSlot x_.1 x_.2.1 x_.2.2.1 x_.2.2.2.1 x_.2.2.2.2.1).1,(addSlot x_.1 x_.2.1 x_.2.2.1 x_.2.2.2.1 x_.2.2.2.2.1).2,())⟩
def Amd:=Am2.a Cs<|Fct.o (KP [1,2,3,4,5,10,11,12,13,14,15] [27,57]) Am2.2 func398 (by
 rintro⟨(p:Sa_),(m:Int),(to:ByteArray),(d:ByteArray),(n:Int),_⟩ hp;refine ho (let q1_:=(p.bf.length:Int);.cl AC (p,()) λz2=>let q3_:Out:=.lf Cs (z2.1,(-1:Int),());.br (decide (q1_>=20)) q3_ (.cl BR (m,()) λ(z3:Ty3_)=>.br (z3.1==0) q3_ (.cl AO (to,p.addr.host,()) λz4=>let q0_:=(⟨m,z4.1,d,n,false,(0:Int),(⟨#[]⟩:ByteArray)⟩:Sl_);let q2_:=z2.1.bf++[q0_];.ap (z2.1.bf.length+[q0_].length) 96<|.br (!z4.2.1) (.ix q1_ (q2_.length)<|.lt (List Sl_) (q2_.modify q1_.toNat λz=>({z with done:=true}:Sl_)) λz5=>.ix q1_ z5.length<|.lt (List Sl_) (z5.modify q1_.toNat λz=>({z with code:=(2:Int)}:Sl_)) λz6=>.lf Cs ({z2.1 with bf:=z6},q1_,())) (.cl BF (({z2.1 with bf:=z2.1.bf++[q0_]}:Sa_),q1_,()) λz7=>.cl AE (p.bj,z7.1,()) λ(z8:Ty3_)=>.br (z8.1 != 1) (.ix q1_ (q2_.length)<|.lt (List Sl_) (q2_.modify q1_.toNat λz=>({z with done:=true}:Sl_)) λz9=>.ix q1_ z9.length<|.lt (List Sl_) (z9.modify q1_.toNat λz=>({z with code:=(2:Int)}:Sl_)) λz10=>.lf Cs ({z2.1 with bf:=z10},q1_,())) (.lf Cs ({z2.1 with bf:=z2.1.bf++[q0_]},q1_,())))))) ?_;repeat' first|(guard_target =~ Out.holds _ _;first|refine lfY ?_|refine Aa (λ_=>?_) λ_=>?_|refine Af ?_ λ_=>?_|refine DW ?_|refine Ek ?_ λ_=>?_|refine Er ?_ λ_ _=>?_)|exact trivial
 all_goals
  have hl:p.bf.length<=1090000000000:=by have h1:Ag p<=1090000000000:=hp.1;have:=Ab AV p.bf;simp only[Ag] at h1;omega
  have hpo:AM p.bj<=1090000000000:=by have h1:Ag p<=1090000000000:=hp.1;simp only[Ag] at h1;omega
  have hz:=HZ to p.addr.host;try simp only[Kk] at *
  try simp only[std,Nat.reduceAdd] at *
  try simp only[Nb,KO,Qa1,Qa7,Qb1,Qg2] at *
 all_goals first|trivial|omega|(rw[Qg (by first|exact .inl o_|exact .inr ‹_›)];exact⟨rfl,rfl⟩)|rw[NY o_ ‹_›]|skip
 all_goals first|exact⟨o_,by simp only[BJ,szAddr,reqOf];omega⟩|(rw[P0 (by first|exact .inl ‹_›|exact .inr ‹_›)];exact⟨rfl,rfl⟩)|(rw[NC ‹_› ‹_›];exact⟨rfl,rfl⟩))
def Akf:=Amd.a Cs<|Fct.o (KP [1,2,3,4,5,10,11,12,13,14,15] [26,59]) Amd.2 func380 (by
 rintro⟨(p:Sa_),(m:Int),(to:ByteArray),(d:ByteArray),(n:Int),_⟩ hp;refine ho (let q1_:=(p.bf.length:Int);.cl AC (p,()) λz2=>let q3_:Out:=.lf Cs (z2.1,(-1:Int),());.br (decide (q1_>=20)) q3_ (.cl BR (m,()) λ(z3:Ty3_)=>.br (z3.1==0) q3_ (.cl AO (to,p.addr.host,()) λz4=>let q0_:=(⟨m,z4.1,d,n,false,(0:Int),(⟨#[]⟩:ByteArray)⟩:Sl_);let q2_:=z2.1.bf++[q0_];.ap (z2.1.bf.length+[q0_].length) 96<|.br (!z4.2.1) (.ix q1_ (q2_.length)<|.lt (List Sl_) (q2_.modify q1_.toNat λz=>({z with done:=true}:Sl_)) λz5=>.ix q1_ z5.length<|.lt (List Sl_) (z5.modify q1_.toNat λz=>({z with code:=(2:Int)}:Sl_)) λz6=>.lf Cs ({z2.1 with bf:=z6},q1_,())) (.cl BF (({z2.1 with bf:=z2.1.bf++[q0_]}:Sa_),q1_,()) λz7=>.cl AE (p.bj,z7.1,()) λ(z8:Ty3_)=>.br (z8.1 != 1) (.ix q1_ (q2_.length)<|.lt (List Sl_) (q2_.modify q1_.toNat λz=>({z with done:=true}:Sl_)) λz9=>.ix q1_ z9.length<|.lt (List Sl_) (z9.modify q1_.toNat λz=>({z with code:=(2:Int)}:Sl_)) λz10=>.lf Cs ({z2.1 with bf:=z10},q1_,())) (.lf Cs ({z2.1 with bf:=z2.1.bf++[q0_]},q1_,())))))) ?_;repeat' first|(guard_target =~ Out.holds _ _;first|refine lfY ?_|refine Aa (λ_=>?_) λ_=>?_|refine Af ?_ λ_=>?_|refine DW ?_|refine Ek ?_ λ_=>?_|refine Er ?_ λ_ _=>?_)|exact trivial
 all_goals
  have hl:p.bf.length<=1090000000000:=by have h1:Ag p<=1090000000000:=hp.1;have:=Ab AV p.bf;simp only[Ag] at h1;omega
  have hpo:AM p.bj<=1090000000000:=by have h1:Ag p<=1090000000000:=hp.1;simp only[Ag] at h1;omega
  have hz:=HZ to p.addr.host;try simp only[std,Nat.reduceAdd] at *
  try simp only[Nb,KO,Qa1,Qa7,Qb1,Qg2] at *
 all_goals first|trivial|omega|(rw[Qg (by first|exact .inl o_|exact .inr ‹_›)];exact⟨rfl,rfl⟩)|rw[NY o_ ‹_›]|skip
 all_goals first|exact⟨o_,by simp only[BJ,szAddr,reqOf];omega⟩|(rw[P0 (by first|exact .inl ‹_›|exact .inr ‹_›)];exact⟨rfl,rfl⟩)|(rw[NC ‹_› ‹_›];exact⟨rfl,rfl⟩))
def fillS (p:Sa_) (x:Sc_) (s:Sl_):Sl_:=if s.done=true then s else{ s with done:=true,code:=checkResponse p.bj (reqOf p s) x,body:=(usable p.bj (reqOf p s) x).1 }
def fillSlot (p:Sa_) (k:Int) (x:Sc_):Sa_:=if 0<=k/\k<p.bf.length then{ p with bf:=p.bf.modify k.toNat (fillS p x)} else p
abbrev GV:Fct:=⟨[.v (.el .page),.v (.el .int),.v (.el .bd)],[.el .page],λ(x_:Ty115_)=>Ag x_.1<=1000000000000/\x_.1.addr.host.size<=4000000000/\(∀ i,i<x_.1.bf.length->AV (x_.1.bf.getD i default)<=50000000000)/\-9223372036854775808<=x_.2.1/\x_.2.1<=9223372036854775807/\x_.2.2.1.bj.size<=200000000/\x_.2.2.1.body.size<=1000000000,λ(x_:Ty115_)=>(fillSlot x_.1 x_.2.1 x_.2.2.1,())⟩
def askFrom (a:Sb_):List Sf_->Nat
 | []=>0
 | m::l=>if cmpA m.to a<0 then askFrom a l+1 else 0
def Qt {a:Sb_} {l:List Sf_} {i:Nat} (h:i<l.length):askFrom a (l.drop i)=if cmpA (l.getD i default).to a<0 then askFrom a (l.drop (i+1))+1 else 0:=by rw[drop_cons h];rfl
def OF {a:Sb_} {l:List Sf_} {i:Nat} (h:l.length<=i):askFrom a (l.drop i)=0:=by rw[Qb2 h];rfl
def newMod (p:Sa_) (a:Sb_):Sf_:=if checkRequest p.bj ⟨5,a,p.addr.host,⟨#[]⟩⟩=1 then⟨a,false,0,⟨#[]⟩⟩ else⟨a,true,2,⟨#[]⟩⟩
def askModule (p:Sa_) (a:Sb_):Sa_ :=
 if askFrom a p.bh<p.bh.length/\(p.bh.getD (askFrom a p.bh) default).to=a then p
 else{ p with bh:=p.bh.take (askFrom a p.bh)++newMod p a::p.bh.drop (askFrom a p.bh)}
def Aev {l:List Sf_} {i:Nat} {m:Sf_} (h:i<=l.length):cut l 0 i++[m]++cut l i (l.length-i)=l.take i++m::l.drop i:=by
 simp only[cut,Qf1,Qb5,Qe5,Qf8];rw[Qb9 (l:=List.drop i l) (by simp)]
def SW {p:Sa_} {a:Sb_} {i:Nat} (h:askFrom a p.bh=i) (h1:i<p.bh.length) (h2:(p.bh.getD i default).to=a):askModule p a=p:=by
 unfold askModule;rw[h,Qa3 ⟨h1,h2⟩]
def ZL {p:Sa_} {a:Sb_} {i:Nat} (h:askFrom a p.bh=i) (h0:i<=p.bh.length) (h1:i=p.bh.length\/¬ (p.bh.getD i default).to=a) (m:Sf_) (hm:m=newMod p a):askModule p a={ p with bh:=cut p.bh 0 i++[m]++cut p.bh i (p.bh.length-i)}:=by
 unfold askModule;rw[h,Qa5,Aev h0,hm];grind
def Td {p:Sa_} {a:Sb_} (h:checkRequest p.bj ⟨5,a,p.addr.host,⟨#[]⟩⟩=1):(⟨a,false,0,⟨#[]⟩⟩:Sf_)=newMod p a:=by unfold newMod;rw[Qa3 h]
def SO {p:Sa_} {a:Sb_} (h:¬ checkRequest p.bj ⟨5,a,p.addr.host,⟨#[]⟩⟩=1):(⟨a,true,2,⟨#[]⟩⟩:Sf_)=newMod p a:=by unfold newMod;rw[Qa5 h]
abbrev Bu:Fct:=⟨[.v (.el .page),.v (.el .addr)],[.el .page],λ(x_:Ty29_)=>Ag x_.1<=1090000000000/\x_.1.addr.host.size<=4000000000/\szAddr x_.2.1<=50000000000,λ(x_:Ty29_)=>(askModule x_.1 x_.2.1,())⟩
abbrev Cc (p:Sa_) (a:Sb_):LInv:=⟨[⟨.s,6,true,.el .int⟩,⟨.b,2,false,.el .page⟩,⟨.b,3,true,.el .addr⟩,⟨.b,4,true,.el .page⟩,⟨.b,5,true,.el .page⟩],λ(z_ x_:Ty116_)=>((((0<=x_.1/\x_.1<=p.bh.length/\x_.1+askFrom a (p.bh.drop x_.1.toNat)=askFrom a p.bh)/\x_.2.1=z_.2.1)/\x_.2.2.1=z_.2.2.1)/\x_.2.2.2.1=z_.2.2.2.1)/\x_.2.2.2.2.1=z_.2.2.2.2.1,λ(x_:Ty116_)=>p.bh.length-x_.1.toNat⟩
def Anc:=Akf.a Bu<|Fct.p (KP [2,3,4,5,6,7,8] [26,43,55]) (λ⟨p,a,_⟩=>lv [(3,Cc p a)]) Akf.2 func263 (by
 rintro⟨(p:Sa_),(a:Sb_),_⟩ hp;refine ho (let q11_:=(⟨#[]⟩:ByteArray);.cl AC (p,()) λz2=>lpx (Cc p a) ((0:Int),(p,(a,(default,(z2.1,()))))) λ(y2:Ty116_) bk2=>let q15_:=inB y2.1 y2.2.1.bh.length;let q10_:=decide (y2.1<(y2.2.1.bh.length:Int));let q7_:=y2.2.1.bh.getD y2.1.toNat default;let q6_:=y2.1.toNat-0;let q14_:=[]++cut y2.2.2.2.2.1.bh 0 q6_;let q12_:=0+q6_<=y2.2.2.2.2.1.bh.length;let q8_:=Ij (0+(cut y2.2.2.2.2.1.bh 0 q6_).length) 64;let q5_:=(⟨y2.2.2.1,true,(2:Int),q11_⟩:Sf_);let q4_:=(⟨y2.2.2.1,false,(0:Int),q11_⟩:Sf_);let q3_:=0<=y2.1/\y2.1<=(y2.2.2.2.2.1.bh.length:Int);let q2_:=y2.2.2.2.2.1.bh.length-y2.1.toNat;let q13_:=cut y2.2.2.2.2.1.bh y2.1.toNat q2_;let q9_:=y2.1.toNat+q2_<=y2.2.2.2.2.1.bh.length;let q0_:Out:=.cl AE (y2.2.1.bj,(⟨(5:Int),y2.2.2.1,y2.2.1.addr.host,q11_⟩:Sg_),()) λ(z4:Ty3_)=>.br (z4.1 != 1) (.ob q3_<|.ob q12_<|.ob q8_<|.ap (q14_.length+[q5_].length) 64<|.ob q3_<|.ob q9_<|.ob (Ij (([]++cut y2.2.2.2.2.1.bh 0 q6_++[q5_]).length+q13_.length) 64)<|.lf Bu ({y2.2.2.2.2.1 with bh:=[]++cut y2.2.2.2.2.1.bh 0 q6_++[q5_]++cut y2.2.2.2.2.1.bh y2.1.toNat q2_},())) (.ob q3_<|.ob q12_<|.ob q8_<|.ap (q14_.length+[q4_].length) 64<|.ob q3_<|.ob q9_<|.ob (Ij (([]++cut y2.2.2.2.2.1.bh 0 q6_++[q4_]).length+q13_.length) 64)<|.lf Bu ({y2.2.2.2.2.1 with bh:=[]++cut y2.2.2.2.2.1.bh 0 q6_++[q4_]++cut y2.2.2.2.2.1.bh y2.1.toNat q2_},()));let q1_:Out:=.br q10_ (.ob q15_<|.br (q7_.to.host==y2.2.2.1.host&&(q7_.to.path==y2.2.2.1.path&&true)) (.lf Bu (y2.2.2.2.2.1,())) q0_) q0_;.br q10_ (.ob q15_<|.cl BN (q7_.to,y2.2.2.1,()) λ(z3:Ty3_)=>.br (decide (z3.1<0)) (.bk (bk2 (w1 y2.1,(y2.2.1,(y2.2.2.1,(y2.2.2.2.1,(y2.2.2.2.2.1,()))))))) q1_) q1_) ?_;repeat' first|(guard_target =~ Out.holds _ _;first|refine Au (li:=Cc p a) ?_ λ(y2:Ty116_) i2=>?_|refine lfY ?_|refine Aa (λ_=>?_) λ_=>?_|refine Af ?_ λ_=>?_|refine Ac ?_ λ_=>?_|refine A8 ?_|refine Ek ?_ λ_=>?_)|exact trivial
 all_goals
  have hl:p.bh.length<=1090000000000:=by have h1:Ag p<=1090000000000:=hp.1;have:=Ab AJ p.bh;simp only[Ag] at h1;omega
  have hpo:AM p.bj<=1090000000000/\p.addr.host.size<=50000000000:=by have h1:Ag p<=1090000000000:=hp.1;have h2:p.addr.host.size<=4000000000:=hp.2.1;simp only[Ag,szAddr] at h1;omega
  try simp only[std,Nat.reduceAdd] at *
 all_goals first|trivial|omega|exact⟨o_,o_,by simp⟩|skip
 all_goals try (obtain⟨⟨⟨⟨⟨a1,a2,a3⟩,e1⟩,e2⟩,e3⟩,e4⟩:=i2;simp only[e1,e2,e3,e4,Ea,Qa8,Qb3,Nat.sub_zero,Qf8] at *)
 all_goals first|trivial|omega|exact⟨o_,by simp only[BJ,szAddr] at *;show _+_+0<=_;omega⟩|skip
 all_goals first|(have hc:(cut p.bh 0 y2.1.toNat).length=y2.1.toNat:=by(simp only[cut,Qc2,Qe3];omega))|skip
 all_goals try simp only[hc,Qe0,Qa1,Qa7,Qb1] at *
 all_goals first|trivial|omega|(simp only[cut,Qc2,Qe3];omega)|skip
 all_goals first|(have e:=Qt (a:=a) (l:=p.bh) (i:=y2.1.toNat) o_;first|rw[Qa3 o_] at e|rw[Qa5 o_] at e)|(have e:=OF (a:=a) (l:=p.bh) (i:=y2.1.toNat) o_)
 all_goals first|(rw[Al o_,show(y2.1+1).toNat=y2.1.toNat+1 from o_];simp only[and_true];exact⟨⟨o_,o_,o_⟩,o_⟩)|skip
 all_goals have e5:askFrom a p.bh=y2.1.toNat:=o_
 all_goals first|(rw[SW e5 o_ ‹_›])|(rw[ZL e5 o_ (by first|exact .inr ‹_›|exact .inl o_) _ (by first|exact Td ‹_›|exact SO ‹_›)]))
open Go.RowKit in
def AcO {P:Program} (w:World) (dT sT ty elem:TypeId) (g o dLen dCap:Nat) (a:Addr) (sLen sCap k:Nat) (cur:Array Value) (t:TypeId) (cs:List Value)
 (hu:P.underlying dT=some (.slice elem)) (hs:(P.info? elem).map (·.size)=some k)
 (hg:w.heap[g]? = some (.cells cur t (0,0))) (hn:cs.length=Nat.min sLen dLen*k)
 (hsrc:∀ j v,cs[j]? = some v->w.cell? (a.add j)=some v) (hfit:o+cs.length<=cur.size) (h1:∀ v∈cs,v.oneCell'=true) :
 (Builtin.copy_ #[dT,sT] ty #[.slice (some ⟨g,o,none⟩) dLen dCap,.slice (some a) sLen sCap]).run P w =
  .ok (goInt (Nat.min sLen dLen)) (w.setRow g (cur.toList.take o++cs++cur.toList.drop (o+cs.length)).toArray):=by
 have hl:=run_loadCells_list (P:=P) w a cs hsrc;have hst:=run_storeCells_at P g o t cs 0 cur w hg (by simpa using hfit) h1;cases hq:P.info? elem with
 | none=>simp[hq] at hs
 | some i=>
  have hi:i.size=k:=by simpa [hq] using hs
  simp[Builtin.copy_,run_underlying hu,Builtin.lenOf,Builtin.firstCells,sizeOf,typeInfo,hq,hi,<-hn,hl,hst]
open Go.RowKit in
def AeD {P:Program} (w:World) {ops:Array Oper} {rest:List Oper} {o:Oper} {a:Act} {Q:Exit->Act->World->Prop} (hgd:o.guard=none) (d s:Operand) (t t':TypeId)
 (ho:o.op=.call { callee:=.builtin .copy,args := #[d,s],argTypes := #[t,t']}) (v u:Value) (hd:a.eval d=v) (hs:a.eval s=u) {v':Value} {w':World}
 (hr:(Builtin.copy_ #[t,t'] o.type #[v,u]).run P w=.ok v' w') (h:wpList P ops Q rest (a.put o.dst v') w'):wpList P ops Q (o::rest) a w :=
 wpList_plain hgd λK hK=>by unfold Oper.wp execOp;simp only[ho,resolve,invoke,builtin,Sem.run_bind,Sem.run_pure,Result.andThen_ok,List.map_toArray,Qd0,List.map_nil,hd,hs,hr];exact hK _ _ h
open Go.RowKit in
def Ad1 {P:Program} {ops:Array Oper} {o:Oper} {a:Act} {w:World} {K:Act->World->Prop} {Q:Exit->Act->World->Prop} {E:Prop}
 (hg:o.guard=none) (d x:Operand) (dT sT:TypeId) (hop:o.op=Op.call { callee:=Callee.builtin Builtin.copy,args := #[d,x],argTypes := #[dT,sT]})
 (v u:Value) (hd:a.eval d=v) (hx:a.eval x=u) {v':Value} {w':World} (hr:(Builtin.copy_ #[dT,sT] o.type #[v,u]).run P w=.ok v' w') (hK:K (a.put o.dst v') w') :
 if Region.wanted o (yielded ops a.tmps)=true then Oper.wp P o a w K Q else E:=by
 have hw:Region.wanted o (yielded ops a.tmps)=true:=by simp[Region.wanted,hg]
 rw[Qa3 hw];unfold Oper.wp;simp[execOp,hop,resolve,invoke,builtin,hd,hx,hr,Result.andThen];exact hK
open Go.RowKit in
def insRow (row:Array Value) (off n m i:Nat) (vs:List Value) (o:Nat) (row':Array Value):Prop:=∀ x,x<(n+m)*5->row'[o+x]? = if x<i*5 then row[off+x]? else if x<(i+m)*5 then vs[x-i*5]? else row[off+x-m*5]?
open Go.RowKit in
def Ac1 (w:World) (b off n c i vb voff m vc:Nat) (row:Array Value) (e:TypeId) (vs:List Value) (hg:w.heap[b]? = some (.cells row e (0,0))) (hrow:off+c*5<=row.size) (hi:i<n) (hm:0<m) (hroom:n+m<=c) (hnm:n+m<=1100000000001)
 (hvl:vs.length=m*5) (hvb:vb≠b) (hvs:∀ j v,vs[j]? = some v->w.cell? ⟨vb,voff+j,none⟩=some v) (h1v:∀ v∈vs,v.oneCell'=true) (h1c:∀ x v,x<n*5->row[off+x]? = some v->v.oneCell'=true)
 (tA:TypeId) (kA:Nat) (hsa:w.shape? vb=some (tA,kA)) (hfa:w.frozen? ⟨vb,voff,none⟩=false) (hfe:w.frozen? ⟨vb,kA,none⟩=false) :
 Calls Tryz.prog 330 #[.slice (some ⟨b,off,none⟩) n c,.int .i64 i,.slice (some ⟨vb,voff,none⟩) m vc] w λe' w'=>
  e'=.returned (.slice (some ⟨b,off,none⟩) (n+m) c)/\∃ row',w'=w.drew.setRow b row'/\row'.size=row.size/\insRow row off n m i vs off row':=by
 have u66:Tryz.prog.underlying 44=some (.slice 181):=k_
 have z224:(Tryz.prog.info? 181).map (·.size)=some 5:=k_
 have y224:∀ w,(Go.sizeOf 181).run Tryz.prog w=.ok 5 w:=λw=>k_
 have hz1:¬ ((m:Int)=0):=o_
 have hz2:¬ ((i:Int)=(n:Int)):=o_
 have hsb:w.shape? b=some (e,row.size):=by simp[World.shape?,hg]
 have hov:∀ lb cb,(callFunc 390 #[.slice (some ⟨vb,voff,none⟩) m vc,.slice (some ⟨b,off+(i+m)*5,none⟩) lb cb]).run Tryz.prog w=.ok (.value (.bool false)) w:=λlb cb=>by
  rw[run_callFunc_extern func390 k_ k_ k_ (e:=Extern.SlicesOverlaps.overlaps #[44,44] #[4]) k_,
   Lib.run_overlaps_apart w 44 4 181 u66 5 y224 ⟨vb,voff,none⟩ ⟨b,off+(i+m)*5,none⟩ m vc lb cb hvb tA e kA row.size hsa hsb o_ hfa hfe]
  rfl
 have hw1:IntKind.i64.wrap ((i:Int)+(m:Int))=(i:Int)+(m:Int):=by rw[IntKind.wrap_i64];omega
 have hb1:(0:Int)<=(i:Int)+(m:Int):=o_
 have hin:i<=n:=o_
 have htn:((i:Int)+(m:Int)).toNat=i+m:=o_
 have hb2:¬ (c=i+m):=o_
 have hb3:(i:Int)<=(n:Int)+(m:Int):=o_
 have hb4:¬ (c=i):=o_
 have hrl:row.toList.length=row.size:=Qc7;obtain⟨cs1,hcs1⟩:∃ cs1,cs1=(row.toList.drop (off+i*5)).take ((n-i)*5):=⟨_,rfl⟩;have hl1:cs1.length=(n-i)*5:=by rw[hcs1,Qc2,Qe3];omega
 have hc1:∀ j,j<(n-i)*5->cs1[j]? = row[off+i*5+j]?:=λj hj=>by rw[hcs1,Qe9,Qa3 hj,Qf3];simp
 obtain⟨row1,hrow1⟩:∃ r,r=(row.toList.take (off+(i+m)*5)++cs1++row.toList.drop (off+(i+m)*5+cs1.length)).toArray:=⟨_,rfl⟩;have hs1:row1.size=row.size:=by rw[hrow1];simp only[List.size_toArray,Qa1,Qc2,Qe3];omega
 have hgd:w.drew.heap[b]? = some (.cells row e (0,0)):=hg;have hcp1:∀ ty dc sc,(Builtin.copy_ #[44,44] ty #[.slice (some ⟨b,off+(i+m)*5,none⟩) (n+m-(i+m)) dc,.slice (some ⟨b,off+i*5,none⟩) (n+m-i) sc]).run Tryz.prog w.drew=.ok (goInt (n-i:Nat)) (w.drew.setRow b row1):=λty dc sc=>by
  have hmin:Nat.min (n+m-i) (n+m-(i+m))=n-i:=by show min _ _=_;omega
  have:=AcO (P:=Tryz.prog) w.drew 44 44 ty 181 b (off+(i+m)*5) (n+m-(i+m)) dc ⟨b,off+i*5,none⟩ (n+m-i) sc 5 row e cs1 u66 z224 hgd (by rw[hmin];exact hl1)
   (λj v hj=>by have hj2:j<cs1.length:=(List.getElem?_eq_some_iff.1 hj).1;rw[Addr.add_lit];show w.cell? ⟨b,off+i*5+j,none⟩=some v;rw[<-hj,hc1 j o_];simp[World.cell?,hg]) o_
   (λv hv=>by obtain⟨j,hj⟩:=List.getElem?_of_mem hv;have hj2:j<cs1.length:=(List.getElem?_eq_some_iff.1 hj).1;rw[hc1 j o_] at hj;exact h1c (i*5+j) v o_ (by rw[<-hj];congr 1;omega))
  rw[hmin,<-hrow1] at this;exact this
 obtain⟨row2,hrow2⟩:∃ r,r=(row1.toList.take (off+i*5)++vs++row1.toList.drop (off+i*5+vs.length)).toArray:=⟨_,rfl⟩;have hs2:row2.size=row.size:=by rw[hrow2];simp only[List.size_toArray,Qa1,Qc2,Qe3,Qc7];omega
 have hg1:(w.drew.setRow b row1).heap[b]? = some (.cells row1 e (0,0)):=setRow_heap w.drew b row row1 e (0,0) hgd;have hcp2:∀ ty dc,(Builtin.copy_ #[44,44] ty #[.slice (some ⟨b,off+i*5,none⟩) (n+m-i) dc,.slice (some ⟨vb,voff,none⟩) m vc]).run Tryz.prog (w.drew.setRow b row1)=.ok (goInt m) (w.drew.setRow b row2):=λty dc=>by
  have hmin:Nat.min m (n+m-i)=m:=by show min _ _=_;omega
  have:=AcO (P:=Tryz.prog) (w.drew.setRow b row1) 44 44 ty 181 b (off+i*5) (n+m-i) dc ⟨vb,voff,none⟩ m vc 5 row1 e vs u66 z224 hg1 (by rw[hmin];exact hvl)
   (λj v hj=>by have:=hvs j v hj;rw[Addr.add_lit];rw[World.cell?] at this ⊢;rw[setRow_other w.drew b vb row1 hvb];exact this) (by rw[hs1];omega) h1v
  rw[hmin,<-hrow2,setRow_setRow] at this;exact this
 have hr1l:row1.toList.length=row1.size:=Qc7;have hins:insRow row off n m i vs off row2:=by
  intro x hx;have e1:row2[off+x]? = if off+x<off+i*5 then row1[off+x]? else if off+x<off+i*5+vs.length then vs[off+x-(off+i*5)]? else row1[off+x]?:=by rw[hrow2,List.getElem?_toArray,Io o_];simp
  have e2:row1[off+x]? = if off+x<off+(i+m)*5 then row[off+x]? else if off+x<off+(i+m)*5+cs1.length then cs1[off+x-(off+(i+m)*5)]? else row[off+x]?:=by rw[hrow1,List.getElem?_toArray,Io o_];simp
  rw[e1];by_cases h1:x<i*5
  ·rw[Qa3 o_,Qa3 h1,e2,Qa3 o_]
  ·rw[Qa5 o_,Qa5 h1];by_cases h2:x<(i+m)*5
   ·rw[Qa3 o_,Qa3 h2];congr 1;omega
   ·rw[Qa5 o_,Qa5 h2,e2,Qa5 o_,Qa3 o_,hc1 _ o_];congr 1;omega
 clear hr1l hrl hrow2 hrow1 hg1 hgd hcs1 hc1 hl1 hs1
 go_enter func330,Tryz.ntmps330
 go_wp2_with (simp only[hov])
 have mixed:Tryz.prog.follows Departure.mixedOrders=true:=k_
 go_region_law_o (refine Ad1 rfl _ _ 44 44 rfl (.slice (some ⟨b,off+(i+m)*5,none⟩) (n+m-(i+m)) (c-(i+m))) (.slice (some ⟨b,off+i*5,none⟩) (n+m-i) (c-i)) (by simp[Act.eval,Act.put]) (by simp[Act.eval,Act.put]) (hcp1 44 (c-(i+m)) (c-i)) ?_)
 go_wp2_with (at_builtin;refine AeD _ rfl _ _ 44 44 rfl _ _ rfl rfl (hcp2 _ _) ?_)
 go_ret
 exact⟨rfl,row2,rfl,hs2,hins⟩
open Go.RowKit in
def AdQ (w:World) (b off n c i vb voff m vc:Nat) (row:Array Value) (e:TypeId) (vs:List Value) (hg:w.heap[b]? = some (.cells row e (0,0))) (hnc:n<=c) (hrow:off+c*5<=row.size) (hi:i<n) (hm:0<m) (hroom:c<n+m) (hnm:n+m<=1100000000001)
 (hvl:vs.length=m*5) (hvb:vb≠b) (hlv:vb<w.heap.size) (hvs:∀ j v,vs[j]? = some v->w.cell? ⟨vb,voff+j,none⟩=some v) (h1v:∀ v∈vs,v.oneCell'=true) (h1c:∀ x v,x<n*5->row[off+x]? = some v->v.oneCell'=true) :
 Calls Tryz.prog 330 #[.slice (some ⟨b,off,none⟩) n c,.int .i64 i,.slice (some ⟨vb,voff,none⟩) m vc] w λe' w'=>
  ∃ c' row',n+m<=c'/\c'*5<=row'.size/\e'=.returned (.slice (some ⟨w.heap.size,0,none⟩) (n+m) c')/\Neu w w'/\w'.heap[w.heap.size]? = some (.cells row' 181 (0,0))/\insRow row off n m i vs 0 row':=by
 have u66:Tryz.prog.underlying 44=some (.slice 181):=k_
 have u3:Tryz.prog.underlying 3=some (.int .i64):=k_
 have z224:(Tryz.prog.info? 181).map (·.size)=some 5:=k_
 have i224:(Tryz.prog.info? 181).map (λi=>(i.size,i.bytes,i.zero.map (·.cells.size)))=some (5,64,some 5):=k_
 obtain⟨i0,z0,hi0,hz0,hs0,hb0,hzc⟩:∃ i z,Tryz.prog.info? 181=some i/\i.zero=some z/\i.size=5/\i.bytes=64/\z.cells.size=5:=by
  cases hq:Tryz.prog.info? 181 with
  | none=>rw[hq] at i224;simp at i224
  | some j=>
   rw[hq] at i224;simp only[Qb7,Qa0,Qc8] at i224;obtain⟨a1,a2,a3⟩:=i224;cases hz:j.zero with
   | none=>rw[hz] at a3;simp at a3
   | some z=>rw[hz] at a3;exact⟨j,z,rfl,hz,a1,a2,by simpa using a3⟩
 have hz1:¬ ((m:Int)=0):=o_
 have hz2:¬ ((i:Int)=(n:Int)):=o_
 have hz3:(c:Int)<(n:Int)+(m:Int):=o_
 have hbw:b<w.heap.size:=by
  rcases Nat.lt_or_ge b w.heap.size with h|h
  ·exact h
  ·rw[Array.getElem?_eq_none h] at hg;cases hg
 have hrl:row.toList.length=row.size:=Qc7;obtain⟨cs0,hcs0⟩:∃ cs,cs=(row.toList.drop off).take (i*5):=⟨_,rfl⟩;have hl0:cs0.length=i*5:=by rw[hcs0,Qc2,Qe3];omega
 have hc0:∀ j,j<i*5->cs0[j]? = row[off+j]?:=λj hj=>by rw[hcs0,Qe9,Qa3 hj,Qf3];simp
 obtain⟨cs1,hcs1⟩:∃ cs1,cs1=(row.toList.drop (off+i*5)).take ((n-i)*5):=⟨_,rfl⟩;have hl1:cs1.length=(n-i)*5:=by rw[hcs1,Qc2,Qe3];omega
 have hc1:∀ j,j<(n-i)*5->cs1[j]? = row[off+i*5+j]?:=λj hj=>by rw[hcs1,Qe9,Qa3 hj,Qf3];simp
 have hik:i+(n+m-i)=n+m:=o_
 have hold:(Builtin.firstCells i0.size i (.slice (some ⟨b,off,none⟩) i c)).run Tryz.prog w.drew=.ok cs0.toArray w.drew:=by
  rw[hs0];exact run_firstCells_some w.drew 5 i ⟨b,off,none⟩ i c cs0 hl0 (λj v hj=>by have hj2:j<cs0.length:=(List.getElem?_eq_some_iff.1 hj).1;rw[Addr.add_lit,<-hj,hc0 j o_];show w.cell? _=_;simp[World.cell?,hg])
 have hkk:(n:Int)+(m:Int)-(i:Int)=((n+m-i:Nat):Int):=o_
 have hrz:∀ ty,(Builtin.append_ #[44,3] ty #[.slice (some ⟨b,off,none⟩) i c,.int .i64 ((n:Int)+(m:Int)-(i:Int))]).run Tryz.prog w =
  .ok (.slice (some ⟨w.heap.size,0,none⟩) (n+m) (grownCap w (n+m) c 181)) (w.drew.alloc (.cells (cs0.toArray++Builtin.zeroCells z0.cells (n+m-i)++Builtin.zeroCells z0.cells (grownCap w (n+m) c 181-(n+m))) 181)):=λty=>by
  have h:=Lib.run_append_grow_zeros w 44 3 ty 181 i0 z0 .i64 .i64 u66 u3 hi0 hz0 (some ⟨b,off,none⟩) i c cs0 hold (n+m-i) o_ o_ o_ o_ (by rw[hb0];omega) (by rw[hb0,hik];exact growslice_fits hroom o_);rw[hik] at h;rw[hkk];exact h
 obtain⟨cc,hcc⟩:∃ cc,cc=grownCap w (n+m) c 181:=⟨_,rfl⟩;have hge:n+m<=cc:=by rw[hcc];exact grownCap_ge w _ _ _
 obtain⟨R0,hR0⟩:∃ R,R=cs0.toArray++Builtin.zeroCells z0.cells (n+m-i)++Builtin.zeroCells z0.cells (cc-(n+m)):=⟨_,rfl⟩;rw[<-hcc,<-hR0] at hrz;have hRs:R0.size=cc*5:=by rw[hR0];simp only[Array.size_append,size_zeroCells,List.size_toArray,hl0,hzc];omega
 have hR0c:∀ x,x<i*5->R0[x]? = row[off+x]?:=λx hx=>by rw[hR0,Array.append_assoc,Array.getElem?_append_left (by simp[hl0];omega)];rw[List.getElem?_toArray,hc0 x hx]
 have hcc63:cc<=9223372036854775807:=by have:=grownCap_le_maxLen w (n+m) c 181 (by unfold maxLen;omega);rw[<-hcc] at this;unfold maxLen at this;omega
 obtain⟨w1,hw1⟩:∃ w1,w1=w.drew.alloc (.cells R0 181):=⟨_,rfl⟩;rw[<-hw1] at hrz;have hn1:Neu w w1:=by rw[hw1];exact(Neu.refl w).drew.alloc _
 have hg1:w1.heap[w.heap.size]? = some (.cells R0 181 (0,0)):=by rw[hw1];exact heap_alloc_new w.drew _
 obtain⟨R1,hR1⟩:∃ r,r=(R0.toList.take (i*5)++vs++R0.toList.drop (i*5+vs.length)).toArray:=⟨_,rfl⟩;have hR1s:R1.size=R0.size:=by rw[hR1];simp only[List.size_toArray,Qa1,Qc2,Qe3,Qc7];omega
 have hcp1:∀ ty dc,(Builtin.copy_ #[44,44] ty #[.slice (some ⟨w.heap.size,i*5,none⟩) (n+m-i) dc,.slice (some ⟨vb,voff,none⟩) m vc]).run Tryz.prog w1=.ok (goInt m) (w1.setRow w.heap.size R1):=λty dc=>by
  have hmin:Nat.min m (n+m-i)=m:=by show min _ _=_;omega
  have:=AcO (P:=Tryz.prog) w1 44 44 ty 181 w.heap.size (i*5) (n+m-i) dc ⟨vb,voff,none⟩ m vc 5 R0 181 vs u66 z224 hg1 (by rw[hmin];exact hvl)
   (λj v hj=>by have:=hvs j v hj;rw[Addr.add_lit];rw[World.cell?] at this ⊢;rw[hn1.old vb hlv];exact this) o_ h1v
  rw[hmin,<-hR1] at this;exact this
 obtain⟨w2,hw2⟩:∃ w2,w2=w1.setRow w.heap.size R1:=⟨_,rfl⟩;have hg2:w2.heap[w.heap.size]? = some (.cells R1 181 (0,0)):=by rw[hw2];exact setRow_heap w1 w.heap.size R0 R1 181 (0,0) hg1
 rw[<-hw2] at hcp1;have hb2:w2.drew.heap[b]? = some (.cells row e (0,0)):=by show w2.heap[b]? = _;rw[hw2,setRow_other w1 _ b R1 o_,hn1.old b hbw,hg]
 obtain⟨R2,hR2⟩:∃ r,r=(R1.toList.take ((i+m)*5)++cs1++R1.toList.drop ((i+m)*5+cs1.length)).toArray:=⟨_,rfl⟩;have hR2s:R2.size=R0.size:=by rw[hR2];simp only[List.size_toArray,Qa1,Qc2,Qe3,Qc7];omega
 have hcp2:∀ ty dc sc,(Builtin.copy_ #[44,44] ty #[.slice (some ⟨w.heap.size,(i+m)*5,none⟩) (n+m-(i+m)) dc,.slice (some ⟨b,off+i*5,none⟩) (n-i) sc]).run Tryz.prog w2.drew=.ok (goInt (n-i:Nat)) (w2.drew.setRow w.heap.size R2):=λty dc sc=>by
  have hmin:Nat.min (n-i) (n+m-(i+m))=n-i:=by show min _ _=_;omega
  have:=AcO (P:=Tryz.prog) w2.drew 44 44 ty 181 w.heap.size ((i+m)*5) (n+m-(i+m)) dc ⟨b,off+i*5,none⟩ (n-i) sc 5 R1 181 cs1 u66 z224 hg2 (by rw[hmin];exact hl1)
   (λj v hj=>by have hj2:j<cs1.length:=(List.getElem?_eq_some_iff.1 hj).1;rw[Addr.add_lit,<-hj,hc1 j o_];simp[World.cell?,hb2]) o_
   (λv hv=>by obtain⟨j,hj⟩:=List.getElem?_of_mem hv;have hj2:j<cs1.length:=(List.getElem?_eq_some_iff.1 hj).1;rw[hc1 j o_] at hj;exact h1c (i*5+j) v o_ (by rw[<-hj];congr 1;omega))
  rw[hmin,<-hR2] at this;exact this
 have hr0l:R0.toList.length=R0.size:=Qc7;have hr1l:R1.toList.length=R1.size:=Qc7;have hins:insRow row off n m i vs 0 R2:=by
  intro x hx;rw[Qe0];have e1:R2[x]? = if x<(i+m)*5 then R1[x]? else if x<(i+m)*5+cs1.length then cs1[x-(i+m)*5]? else R1[x]?:=by rw[hR2,List.getElem?_toArray,Io o_];simp
  have e2:R1[x]? = if x<i*5 then R0[x]? else if x<i*5+vs.length then vs[x-i*5]? else R0[x]?:=by rw[hR1,List.getElem?_toArray,Io o_];simp
  rw[e1];by_cases h1:x<i*5
  ·rw[Qa3 o_,Qa3 h1,e2,Qa3 h1,hR0c x h1]
  ·rw[Qa5 h1];by_cases h2:x<(i+m)*5
   ·rw[Qa3 h2,Qa3 h2,e2,Qa5 h1,Qa3 o_]
   ·rw[Qa5 h2,Qa5 h2,Qa3 o_,hc1 _ o_];congr 1;omega
 have hN:Neu w (w2.drew.setRow w.heap.size R2):=⟨hn1.os▸(by rw[hw2];rfl),hn1.tape▸(by rw[hw2];rfl),hn1.output▸(by rw[hw2];rfl),(by rw[hw2];exact hn1.drawn.trans (DrLe.succ _)),(by
  have:=hn1.size;have e1:(w2.drew.setRow w.heap.size R2).heap.size=w2.heap.size:=by simp[World.setRow]
  have e2:w2.heap.size=w1.heap.size:=by rw[hw2];simp[World.setRow]
  omega),λg hgl=>by rw[setRow_other w2.drew _ g R2 o_];show w2.heap[g]? = _;rw[hw2,setRow_other w1 _ g R1 o_];exact hn1.old g hgl⟩
 have hg3:(w2.drew.setRow w.heap.size R2).heap[w.heap.size]? = some (.cells R2 181 (0,0)):=setRow_heap w2.drew w.heap.size R1 R2 181 (0,0) hg2;have hwi:IntKind.i64.wrap ((i:Int)+(m:Int))=(i:Int)+(m:Int):=by rw[IntKind.wrap_i64];omega
 have hb1:(0:Int)<=(i:Int)+(m:Int):=o_
 have hin:i<=n:=o_
 have htn:((i:Int)+(m:Int)).toNat=i+m:=o_
 have hGi:¬ (cc=i):=o_
 have hGim:¬ (cc=i+m):=o_
 have hci:¬ (c=i):=o_
 have hb3:(i:Int)<=(n:Int):=o_
 clear hcc hr1l hr0l hR2 hR1 hg2 hg1 hw2 hw1 hb2 hR0 hold hkk hik hcs0 hc0 hl0 hcs1 hc1 hl1 hrl hR0c;have mixed:Tryz.prog.follows Departure.mixedOrders=true:=k_
 go_enter func330,Tryz.ntmps330
 go_wp2_with (first
  | (at_builtin;refine Lib.wpList_append_run _ rfl _ _ _ _ rfl _ _ rfl rfl _ _ (hrz _) ?_)
  | (at_builtin;refine AeD _ rfl _ _ 44 44 rfl _ _ rfl rfl (hcp1 _ _) ?_))
 go_region_law_o (refine Ad1 rfl _ _ 44 44 rfl (.slice (some ⟨w.heap.size,(i+m)*5,none⟩) (n+m-(i+m)) (cc-(i+m))) (.slice (some ⟨b,off+i*5,none⟩) (n-i) (c-i)) (by simp[Act.eval,Act.put]) (by simp[Act.eval,Act.put]) (hcp2 44 (cc-(i+m)) (c-i)) ?_)
 go_wp2
 go_ret
 exact⟨cc,R2,hge,o_,rfl,hN,hg3,hins⟩
abbrev Afn:GS:=⟨[.g (.sl .module),.l (.v (.el .int)),.g (.sl .module)],[.sl .module],λ(x_:Ty117_)=>x_.1.length<=1100000000000/\0<=x_.2.1/\x_.2.1<=x_.1.length/\x_.2.2.1.length=1,λ(x_:Ty117_)=>((x_.1.take x_.2.1.toNat++x_.2.2.1++x_.1.drop x_.2.1.toNat,()),(()))⟩
open Go.RowKit in
def Y9 (w:World) (n:Nat) (ad:Option Addr) (c:Nat) (a:Addr) (m vc:Nat) (hm:0<m) (v':Value) (w':World) (hr:∀ ty,(Builtin.append_ #[44,44] ty #[.slice ad n c,.slice (some a) m vc]).run Tryz.prog w=.ok v' w') (hc:n<=c) :
 Calls Tryz.prog 330 #[.slice ad n c,.int .i64 n,.slice (some a) m vc] w λe w''=>e=.returned v'/\w''=w':=by
 have u66:Tryz.prog.underlying 44=some (.slice 181):=k_
 have hz1:¬ ((m:Int)=0):=o_
 cases ad with
 | none=>
  go_enter func330,Tryz.ntmps330
  go_wp2_with (at_builtin;refine Lib.wpList_append_run _ rfl _ _ _ _ rfl _ _ rfl rfl _ _ (hr _) ?_)
  all_goals (go_ret;exact⟨rfl,rfl⟩)
 | some b=>
  go_enter func330,Tryz.ntmps330
  go_wp2_with (at_builtin;refine Lib.wpList_append_run _ rfl _ _ _ _ rfl _ _ rfl rfl _ _ (hr _) ?_)
  all_goals (go_ret;exact⟨rfl,rfl⟩)
open Go.RowKit in
def Ag0 {w w':World} {xs ys:List Sf_} {i n:Nat} (hn:xs.length=n) (hy:ys.length=1) (hi:i<=n) {us vs:List Value} {G1 G2:Nat->Nat->Nat->Prop} (hul:us.length=n*5) (hvl:vs.length=5)
 (h1:∀ i',i'<n->∀ j,j<5->∃ u,us[i'*5+j]? = some u/\TO w (fcC (cell .module xs i' j)) u (G1 i' j)) (h2:∀ i',i'<1->∀ j,j<5->∃ u,vs[i'*5+j]? = some u/\TO w (fcC (cell .module ys i' j)) u (G2 i' j)) :
 ∀ i',i'<n+1->∀ j,j<5->∃ u,(us.take (i*5)++vs++us.drop (i*5))[i'*5+j]? = some u/\TO w' (fcC (cell .module (xs.take i++ys++xs.drop i) i' j)) u (λ_=>False):=by
 have flat:∀ (zs:List Sf_) (k j:Nat) (u:Value) (F:Nat->Prop),j<5->TO w (fcC (cell .module zs k j)) u F->TO w' (fcC (cell .module zs k j)) u (λ_=>False):=by intro zs k j u F hj h;obtain⟨u2,e2⟩:=FK (t:=.module) rfl zs k j hj;rw[e2] at h ⊢;exact h
 have tl:(us.take (i*5)).length=i*5:=by rw[Qc2];omega
 have tx:(xs.take i).length=i:=by rw[Qc2];omega
 have same:∀ (l1:List Sf_) (k k2:Nat) (bs:List Sf_),l1.getD k default=bs.getD k2 default->∀ j,cell .module l1 k j=cell .module bs k2 j:=λl1 k k2 bs e j=>by unfold cell;rw[e]
 intro k hk j hj;by_cases c1:k<i
 ·obtain⟨u,e1,e2⟩:=h1 k o_ j hj;refine⟨u,?_,?_⟩
  ·rw[Qb5,Qb4 o_,Qe9,Qa3 o_,e1]
  ·rw[same _ k k xs (by rw[Qb0,Qb0,Qb5,Qb4 o_,Qe9,Qa3 c1]) j];exact flat _ _ _ _ _ hj e2
 ·by_cases c2:k=i
  ·obtain⟨u,e1,e2⟩:=h2 0 o_ j hj;refine⟨u,?_,?_⟩
   ·rw[Qb5,Qb6 o_,tl,Qb4 o_,<-e1];congr 1;omega
   ·rw[same _ k 0 ys (by rw[Qb0,Qb0,Qb5,Qb6 o_,tx,Qb4 o_];congr 2;omega) j];exact flat _ _ _ _ _ hj e2
  ·obtain⟨u,e1,e2⟩:=h1 (k-1) o_ j hj;refine⟨u,?_,?_⟩
   ·rw[Qb5,Qb6 o_,tl,Qb6 o_,hvl,Qf3,<-e1];congr 1;omega
   ·rw[same _ k (k-1) xs (by rw[Qb0,Qb0,Qb5,Qb6 o_,tx,Qb6 o_,hy,Qf3];congr 2;omega) j];exact flat _ _ _ _ _ hj e2
open Go.RowKit in
def InsEnd (w:World) (lab:Nat->Prop) (n:Nat) (L:List Value) (e:Ending) (w':World):Prop :=
 ∃ g o c row t,e=.returned (.slice (some ⟨g,o,none⟩) (n+1) c)/\n+1<=c/\o+c*5<=row.size/\w'.heap[g]? = some (.cells row t (0,0))/\(lab g\/w.heap.size<=g)/\g<w'.heap.size/\Onward w w'/\(∀ b,b<w.heap.size->¬ lab b->w'.heap[b]? = w.heap[b]?)/\∀ x,x<(n+1)*5->row[o+x]? = L[x]?
open Go.RowKit in
def lt_of_heap {w:World} {g:Nat} {x:Obj} (h:w.heap[g]? = some x):g<w.heap.size:=by
 grind
open Go.RowKit in
def OP {row row':Array Value} {off o n i:Nat} {us vs:List Value} (hul:us.length=n*5) (hvl:vs.length=5) (hi:i<=n) (hu:∀ x,x<n*5->row[off+x]? = us[x]?) (h:insRow row off n 1 i vs o row') :
 ∀ x,x<(n+1)*5->row'[o+x]? = (us.take (i*5)++vs++us.drop (i*5))[x]?:=by
 intro x hx;have tl:(us.take (i*5)).length=i*5:=by rw[Qc2];omega
 rw[h x hx,Qb5];by_cases c1:x<i*5
 ·rw[Qa3 c1,Qb4 o_,Qe9,Qa3 c1,hu x o_]
 ·rw[Qa5 c1,Qb6 o_,tl];by_cases c2:x<(i+1)*5
  ·rw[Qa3 c2,Qb4 o_]
  ·rw[Qa5 c2,Qb6 o_,hvl,Qf3,show off+x-1*5=off+(x-5) from o_,hu _ o_];congr 1;omega
open Go.RowKit in
def AfU (w:World) (ow:Nat->Own) (hlt:∀ g,ow g≠.gone->g<w.heap.size) (xs ys:List Sf_) (i:Nat) (sv vv:Value) (hn:xs.length<=1100000000000) (hi:i<=xs.length) (hy:ys.length=1)
 (hs:TO w (.sl 5 xs.length λa b=>fcC (cell .module xs a b)) sv (λg=>ow g=.lab 0)) (hv:TO w (.sl 5 1 λa b=>fcC (cell .module ys a b)) vv (λg=>ow g=.lab 128)) :
 Calls Tryz.prog 330 #[sv,.int .i64 i,vv] w λe w'=>∃ v',e=.returned v'/\v'.oneCell'=true/\Onward w w'/\(∀ b,b<w.heap.size->ow b≠.lab 0->w'.heap[b]? = w.heap[b]?) /\
  TO w' (.sl 5 (xs.length+1) λa b=>fcC (cell .module (xs.take i++ys++xs.drop i) a b)) v' (λb=>b<w'.heap.size/\(ow b=.lab 0\/w.heap.size<=b)):=by
 obtain⟨n,hnn⟩:∃ n,xs.length=n:=⟨_,rfl⟩;rw[hnn] at hs hi hn ⊢;have i224:(Tryz.prog.info? 181).map (λi=>(i.size,i.bytes,i.zero.map (·.cells.size)))=some (5,64,some 5):=k_
 have u66:Tryz.prog.underlying 44=some (.slice 181):=k_
 obtain⟨i0,z0,hi0,hz0,hs0,hb0,hzc⟩:∃ i z,Tryz.prog.info? 181=some i/\i.zero=some z/\i.size=5/\i.bytes=64/\z.cells.size=5:=by
  cases hq:Tryz.prog.info? 181 with
  | none=>rw[hq] at i224;simp at i224
  | some j=>
   rw[hq] at i224;simp only[Qb7,Qa0,Qc8] at i224;obtain⟨a1,a2,a3⟩:=i224;cases hz:j.zero with
   | none=>rw[hz] at a3;simp at a3
   | some z=>rw[hz] at a3;exact⟨j,z,rfl,hz,a1,a2,by simpa using a3⟩
 obtain⟨us,G1,hus,hu1,hu2,hus1,hud,hub⟩:=WT (P:=Tryz.prog) (by decide) hs;obtain⟨vs,G2,hvs,hv1,hv2,hvs1,hvd,hvb⟩:=WT (P:=Tryz.prog) (by decide) hv;have hul:=hus.len;have hvl:vs.length=5:=hvs.len;have hvv:∃ g o c,vv=.slice (some ⟨g,o,none⟩) 1 c/\1<=c:=by
  rcases hv with⟨_,h⟩|⟨g,o,c,row,e,GG,h,hc,_⟩
  ·omega
  ·exact⟨g,o,c,h,hc⟩
 obtain⟨vb,voff,vc,rfl,hvc⟩:=hvv;obtain⟨hvow,vrow,ve,hvg,hvn,hvcap,hvrow,_⟩:=hvb vb voff vc rfl o_;have hlv:=lt_of_heap hvg;have hvcell:∀ j v,vs[j]? = some v->w.cell? ⟨vb,voff+j,none⟩=some v:=λj v hj=>by have hj2:j<vs.length:=(List.getElem?_eq_some_iff.1 hj).1;rw[<-hj,<-hvrow j o_];simp[World.cell?,hvg]
 have key:∀ e w',InsEnd w (λg=>ow g=.lab 0) n (us.take (i*5)++vs++us.drop (i*5)) e w'->∃ v',e=.returned v'/\v'.oneCell'=true/\Onward w w'/\(∀ b,b<w.heap.size->ow b≠.lab 0->w'.heap[b]? = w.heap[b]?) /\
  TO w' (.sl 5 (n+1) λa b=>fcC (cell .module (xs.take i++ys++xs.drop i) a b)) v' (λb=>b<w'.heap.size/\(ow b=.lab 0\/w.heap.size<=b)):=by
  rintro e w' ⟨g,o,c,row,t,rfl,h1,h2,h3,h4,h5,h6,h7,h8⟩;refine⟨_,rfl,rfl,h6,λb hb hl=>h7 b hb hl,.inr ⟨g,o,c,row,t,λ_ _ _=>False,rfl,h1,h2,h3,⟨h5,h4⟩,?_,by simp,by simp⟩⟩;intro k hk j hj;obtain⟨u,e1,e2⟩:=Ag0 (w':=w') hnn hy hi hul hvl hu2 hv2 k hk j hj;exact⟨u,by rw[Nat.add_assoc,h8 _ o_];exact e1,e2⟩
 have AdB:∀ (ad:Option Addr) (c:Nat),sv=.slice ad n c->c<n+1->n<=c->i=n->Calls Tryz.prog 330 #[sv,.int .i64 i,.slice (some ⟨vb,voff,none⟩) 1 vc] w (InsEnd w (λg=>ow g=.lab 0) n (us.take (i*5)++vs++us.drop (i*5))):=by
  intro ad c hsv hc hnc hin;subst hsv hin;have hr:=λty=>HQ (P:=Tryz.prog) 44 ty 181 i0 z0 u66 hi0 hz0 ad i c us (by rw[hs0];exact hus) (.slice (some ⟨vb,voff,none⟩) 1 vc) 1 vs (by rw[hs0];exact hvs) hc o_ (by rw[hb0];omega)
  refine(Y9 w i ad c ⟨vb,voff,none⟩ 1 vc (by decide) _ _ hr hnc).mono ?_;rintro e w' ⟨rfl,rfl⟩;have hge:=grownCap_ge w (i+1) c 181;refine⟨w.heap.size,0,_,_,_,rfl,hge,?_,heap_alloc_new w.drew _,.inr (Qa9 _),by simp,⟨rfl,rfl,⟨rfl,by first|exact DrLe.refl _|exact DrLe.succ _|exact DrLe.add _ _⟩,by simp⟩,λb hb _=>heap_alloc_old w.drew _ hb,?_⟩
  ·simp only[List.size_toArray,Qa1,Qc7,size_zeroCells,hzc];omega
  ·intro x hx;rw[Qe0,List.getElem?_toArray,Qb4 (by rw[Qa1];omega),Qb9 o_,Qb2 o_,Qd7]
 rcases hs with⟨⟨ad,hsv⟩,hn0⟩|⟨b,off,c,row,e,GG,hsv,hnc,hcap,hg,hF,hrow,hsub,hdis⟩
 ·exact(AdB ad 0 (by rw[hsv,hn0]) o_ o_ o_).mono key
 ·by_cases hroom:n+1<=c
  ·obtain⟨_,row2,e2,hg2,_,_,hrw,_⟩:=hub b off c hsv o_;rw[hg] at hg2;injection hg2 with hg2
   injection hg2 with q1 q2
   subst q1;have hne:vb≠b:=by rintro rfl;rw[hF] at hvow;cases hvow
   by_cases hin:i=n
   ·subst hin;subst hsv;have hr:=λty=>H3 (P:=Tryz.prog) 44 ty 181 i0 u66 hi0 b off i c row e hg (.slice (some ⟨vb,voff,none⟩) 1 vc) 1 vs (by rw[hs0];exact hvs) hv1 hroom (by rw[hs0];omega)
    refine((Y9 w i (some ⟨b,off,none⟩) c ⟨vb,voff,none⟩ 1 vc (by decide) _ _ hr hnc).mono ?_).mono key;rintro e' w' ⟨rfl,rfl⟩;refine⟨b,off,c,_,e,rfl,hroom,?_,setRow_heap w b row _ e _ hg,.inl hF,by simp[World.setRow];exact lt_of_heap hg,⟨rfl,rfl,⟨rfl,by first|exact DrLe.refl _|exact DrLe.succ _|exact DrLe.add _ _⟩,by simp[World.setRow]⟩,λb' hb' hl=>setRow_other w b b' _ (by rintro rfl;exact hl hF),?_⟩
    ·simp only[List.size_toArray,Qa1,Qc2,Qe3,Qc7,hs0];omega
    ·intro x hx;have hrl:row.toList.length=row.size:=Qc7;rw[List.getElem?_toArray,hs0,Io o_,Qb9 o_,Qb2 o_,Qd7];by_cases c1:x<i*5
     ·rw[Qa3 o_,Qb4 o_,<-hrw x c1];simp
     ·rw[Qa5 o_,Qa3 o_,Qb6 o_];congr 1;omega
   ·subst hsv;have h1c:∀ x v,x<n*5->row[off+x]? = some v->v.oneCell'=true:=λx v hx h=>hu1 v (by rw[hrw x hx] at h;exact Qf5 h)
    refine((Ac1 w b off n c i vb voff 1 vc row e vs hg hcap o_ (by decide) hroom o_ hvl hne hvcell hv1 h1c ve vrow.size (by simp[World.shape?,hvg]) (by simp[World.frozen?,hvg]) (by simp[World.frozen?,hvg])).mono ?_).mono key;rintro e' w' ⟨rfl,row',rfl,hsz,hins⟩;exact⟨b,off,c,row',e,rfl,hroom,o_,setRow_heap w.drew b row row' e _ hg,.inl hF,by simp[World.setRow];exact lt_of_heap hg,⟨rfl,rfl,⟨rfl,by first|exact DrLe.refl _|exact DrLe.succ _|exact DrLe.add _ _⟩,by simp[World.setRow]⟩,λb' hb' hl=>setRow_other w.drew b b' _ (by rintro rfl;exact hl hF),OP hul hvl hi hrw hins⟩
  ·by_cases hin:i=n
   ·exact(AdB (some ⟨b,off,none⟩) c hsv o_ hnc hin).mono key
   ·obtain⟨_,row2,e2,hg2,_,_,hrw,_⟩:=hub b off c hsv o_;rw[hg] at hg2;injection hg2 with hg2
    injection hg2 with q1 q2
    subst q1;have hne:vb≠b:=by rintro rfl;rw[hF] at hvow;cases hvow
    subst hsv;have h1c:∀ x v,x<n*5->row[off+x]? = some v->v.oneCell'=true:=λx v hx h=>hu1 v (by rw[hrw x hx] at h;exact Qf5 h)
    refine((AdQ w b off n c i vb voff 1 vc row e vs hg hnc hcap o_ (by decide) o_ o_ hvl hne hlv hvcell hv1 h1c).mono ?_).mono key;rintro e' w' ⟨c',row',k1,k2,rfl,k3,k4,k5⟩;exact⟨w.heap.size,0,c',row',181,rfl,k1,o_,k4,.inr (Qa9 _),lt_of_heap k4,⟨k3.os,k3.tape,⟨k3.output,k3.drawn⟩,k3.size⟩,λb' hb' _=>k3.old b' hb',OP hul hvl hi hrw k5⟩
def AlV:=Anc.G Afn<|by
 rintro⟨(xs:List Sf_),(i:Int),(ys:List Sf_),⟨⟩⟩ hx w vs G hB hA;obtain⟨hx1,hx2,hx3,hx4⟩:=(show xs.length<=1100000000000/\0<=i/\i<=xs.length/\ys.length=1 from hx);obtain⟨j,rfl⟩:∃ j:Nat,i=j:=⟨i.toNat,o_⟩;obtain⟨v0,e0,c0,hc0,r0⟩:=hA.tm 0 (.v false [.ref 0]) rfl;obtain⟨v1,e1,c1,hc1,r1⟩:=hA.tm 1 (.v false [.sc (.int .i64 j)]) rfl;obtain⟨v2,e2,c2,hc2,r2⟩:=hA.tm 2 (.v false [.ref 128]) rfl;injection hc0 with hc0
 injection hc1 with hc1
 injection hc2 with hc2
 subst hc0 hc1 hc2;have r0:v0=G.hv 0/\v0.oneCell'=true:=r0;have r1:v1=.int .i64 j/\_:=r1;have r2:v2=G.hv 128/\v2.oneCell'=true:=r2;have hs:TO w (.sl 5 xs.length λa b=>fcC (cell .module xs a b)) (G.hv 0) (λg=>G.ow g=.lab 0):=hA.hp 0 ⟨.module,xs⟩ rfl;have hv:TO w (.sl 5 ys.length λa b=>fcC (cell .module ys a b)) (G.hv 128) (λg=>G.ow g=.lab 128):=hA.hp 128 ⟨.module,ys⟩ rfl;rw[hx4] at hv;have hvs:vs = #[v0,v1,v2]:=by
  apply Array.ext_getElem?;intro k;have hsz:vs.size=3:=hA.sz
  match k with
  | 0=>exact e0
  | 1=>exact e1
  | 2=>exact e2
  | k+3=>rw[Array.getElem?_eq_none o_,Array.getElem?_eq_none (by simp)]
 rw[hvs,r0.1,r1.1,r2.1];refine(AfU w G.ow hA.lt xs ys j _ _ hx1 o_ hx4 hs hv).mono ?_;rintro e w' ⟨v',rfl,h1,h2,h3,h4⟩;have hlen:(xs.take j++ys++xs.drop j).length=xs.length+1:=by simp only[Qa1,Qc2,Qe3];omega
 have hgone:∀ b,w.heap.size<=b->G.ow b=.gone:=by
  intro b hb1;cases hq:G.ow b with
  | gone=>rfl
  | _=>exact absurd (hA.lt b (by simp[hq])) o_
 refine⟨v',_,rfl,rfl,h2,λg hg=>h3 g (hA.lt g (by simp[hg])) (by simp[hg]),λg hg=>(hA.cr g hg).same (h3 g (hA.lt g (by simp[hg])) (by simp[hg])),λp b=>p=.res 0 0/\b<w'.heap.size/\(G.ow b=.lab 0\/w.heap.size<=b),?_,?_,?_,?_,?_⟩
 ·rintro s b ⟨_,k1,k2⟩;refine⟨k1,?_,λb0 hb0=>by cases hb0⟩;rcases k2 with k2|k2
  ·rw[k2];exact⟨by simp,by simp⟩
  ·rw[hgone b k2];exact⟨by simp,by simp⟩
 ·rintro s s' b ⟨rfl,_⟩ ⟨rfl,_⟩;rfl
 ·refine⟨_,rfl,?_,h1⟩;show TO w' (fcC (.l .module (xs.take j++ys++xs.drop j))) v' (λb=>Pl.res 0 0=Pl.res 0 0/\b<w'.heap.size/\(G.ow b=.lab 0\/w.heap.size<=b));rw[Fo,hlen];have:(λb=>Pl.res 0 0=Pl.res 0 0/\b<w'.heap.size/\(G.ow b=.lab 0\/w.heap.size<=b))=λb=>b<w'.heap.size/\(G.ow b=.lab 0\/w.heap.size<=b):=by funext b;simp
  rw[this];exact h4
 ·intro l T hl;cases hl
 ·intro b cs hb;cases hb
def Vp (f:Sf_->Sf_) (m:Sf_) (B:List Sf_):∀ A:List Sf_,(A++[m]++B).modify A.length f=A++[f m]++B
 | []=>rfl
 | a::A=>Qg5 (List.cons a) (Vp f m B A)
def Ae8 {l:List Sf_} {i:Nat} {m:Sf_} (f:Sf_->Sf_) (h:i<=l.length):(l.take i++[m]++l.drop i).modify i f=l.take i++[f m]++l.drop i:=by
 have e:(l.take i).length=i:=by rw[Qc2];omega
 have:=Vp f m (l.drop i) (l.take i)
 rwa [e] at this
def Agl {l:List Sf_} {i:Nat} {m:Sf_} (h:i<=l.length):(l.take i++[m]++l.drop i).getD i default=m:=by
 simp_all
def Yn {l:List Sf_} {i:Nat} {m:Sf_} (h:i<=l.length):(l.take i++[m]++l.drop i).length=l.length+1:=by
 grind
def Afj {p:Sa_} {a:Sb_} {i:Nat} (h:askFrom a p.bh=i) (h0:i<=p.bh.length) (h1:i=p.bh.length\/¬ (p.bh.getD i default).to=a) (m:Sf_) (hm:m=newMod p a):askModule p a={ p with bh:=p.bh.take i++[m]++p.bh.drop i }:=by
 rw[ZL h h0 h1 m hm,Aev h0,Qb5];rfl
abbrev Ci (p:Sa_) (a:Sb_):LInv:=⟨[⟨.s,6,true,.el .int⟩,⟨.b,2,false,.el .page⟩,⟨.b,3,true,.el .addr⟩,⟨.b,4,true,.el .page⟩,⟨.b,5,true,.el .page⟩],λ(z_ x_:Ty116_)=>((((0<=x_.1/\x_.1<=p.bh.length/\x_.1+askFrom a (p.bh.drop x_.1.toNat)=askFrom a p.bh)/\x_.2.1=z_.2.1)/\x_.2.2.1=z_.2.2.1)/\x_.2.2.2.1=z_.2.2.2.1)/\x_.2.2.2.2.1=z_.2.2.2.2.1,λ(x_:Ty116_)=>p.bh.length-x_.1.toNat⟩
def Alo:=AlV.a Bu<|Fct.p (KP [2,3,4,5,6] [24,41,57]) (λ⟨p,a,_⟩=>lv [(3,Ci p a)]) AlV.2 func228 (by
 rintro⟨(p:Sa_),(a:Sb_),_⟩ hp;refine ho (let q5_:=List Sf_;.cl AC (p,()) λz2=>lpx (Ci p a) ((0:Int),(p,(a,(default,(z2.1,()))))) λ(y2:Ty116_) bk2=>let q8_:Out:=.lf Bu (y2.2.2.2.2.1,());let q7_:=inB y2.1 y2.2.1.bh.length;let q6_:=y2.2.1.bh.getD y2.1.toNat default;let q4_:=decide (y2.1<(y2.2.1.bh.length:Int));let q1_:=q6_.to.host==y2.2.2.1.host&&(q6_.to.path==y2.2.2.1.path&&true);let q0_:=(⟨y2.2.2.1,false,(0:Int),(⟨#[]⟩:ByteArray)⟩:Sf_);let q3_:=Afn.fn (y2.2.2.2.2.1.bh,y2.1,[q0_],());let q2_:=Afn.pre (y2.2.2.2.2.1.bh,y2.1,[q0_],());.br q4_ (.ob q7_<|.cl BN (q6_.to,y2.2.2.1,()) λ(z3:Ty3_)=>.br (decide (z3.1<0)) (.bk (bk2 (w1 y2.1,(y2.2.1,(y2.2.2.1,(y2.2.2.2.1,(y2.2.2.2.2.1,()))))))) (.br q4_ (.ob q7_<|.br q1_ q8_ (.ob q2_<|.lt _ q3_ λz4=>.cl Bz (({y2.2.2.2.2.1 with bh:=z4.1.1}:Sa_),y2.1,()) λz5=>.cl AE (y2.2.1.bj,z5.1,()) λ(z6:Ty3_)=>.br (z6.1 != 1) (.ix y2.1 z4.1.1.length<|.lt q5_ (z4.1.1.modify y2.1.toNat λz=>({z with done:=true}:Sf_)) λz7=>.ix y2.1 z7.length<|.lt q5_ (z7.modify y2.1.toNat λz=>({z with code:=(2:Int)}:Sf_)) λz8=>.lf Bu ({y2.2.2.2.2.1 with bh:=z8},())) (.lf Bu ({y2.2.2.2.2.1 with bh:=z4.1.1},())))) (.ob q2_<|.lt _ q3_ λz9=>.cl Bz (({y2.2.2.2.2.1 with bh:=z9.1.1}:Sa_),y2.1,()) λz10=>.cl AE (y2.2.1.bj,z10.1,()) λ(z11:Ty3_)=>.br (z11.1 != 1) (.ix y2.1 z9.1.1.length<|.lt q5_ (z9.1.1.modify y2.1.toNat λz=>({z with done:=true}:Sf_)) λz12=>.ix y2.1 z12.length<|.lt q5_ (z12.modify y2.1.toNat λz=>({z with code:=(2:Int)}:Sf_)) λz13=>.lf Bu ({y2.2.2.2.2.1 with bh:=z13},())) (.lf Bu ({y2.2.2.2.2.1 with bh:=z9.1.1},()))))) (.br q4_ (.ob q7_<|.br q1_ q8_ (.ob q2_<|.lt _ q3_ λz14=>.cl Bz (({y2.2.2.2.2.1 with bh:=z14.1.1}:Sa_),y2.1,()) λz15=>.cl AE (y2.2.1.bj,z15.1,()) λ(z16:Ty3_)=>.br (z16.1 != 1) (.ix y2.1 z14.1.1.length<|.lt q5_ (z14.1.1.modify y2.1.toNat λz=>({z with done:=true}:Sf_)) λz17=>.ix y2.1 z17.length<|.lt q5_ (z17.modify y2.1.toNat λz=>({z with code:=(2:Int)}:Sf_)) λz18=>.lf Bu ({y2.2.2.2.2.1 with bh:=z18},())) (.lf Bu ({y2.2.2.2.2.1 with bh:=z14.1.1},())))) (.ob q2_<|.lt _ q3_ λz19=>.cl Bz (({y2.2.2.2.2.1 with bh:=z19.1.1}:Sa_),y2.1,()) λz20=>.cl AE (y2.2.1.bj,z20.1,()) λ(z21:Ty3_)=>.br (z21.1 != 1) (.ix y2.1 z19.1.1.length<|.lt q5_ (z19.1.1.modify y2.1.toNat λz=>({z with done:=true}:Sf_)) λz22=>.ix y2.1 z22.length<|.lt q5_ (z22.modify y2.1.toNat λz=>({z with code:=(2:Int)}:Sf_)) λz23=>.lf Bu ({y2.2.2.2.2.1 with bh:=z23},())) (.lf Bu ({y2.2.2.2.2.1 with bh:=z19.1.1},()))))) ?_;repeat' first|(guard_target =~ Out.holds _ _;first|refine Au (li:=Ci p a) ?_ λ(y2:Ty116_) i2=>?_|refine lfY ?_|refine Aa (λ_=>?_) λ_=>?_|refine Af ?_ λ_=>?_|refine Ac ?_ λ_=>?_|refine DW ?_|refine A8 ?_|refine Er ?_ λ_ _=>?_)|exact trivial
 all_goals
  have hl:p.bh.length<=1090000000000:=by have h1:Ag p<=1090000000000:=hp.1;have:=Ab AJ p.bh;simp only[Ag] at h1;omega
  have hpo:AM p.bj<=1090000000000/\p.addr.host.size<=50000000000:=by have h1:Ag p<=1090000000000:=hp.1;have h2:p.addr.host.size<=4000000000:=hp.2.1;simp only[Ag,szAddr] at h1;omega
  try simp only[std,Nat.reduceAdd] at *
 all_goals first|trivial|omega|exact⟨o_,o_,by simp⟩|skip
 all_goals try (obtain⟨⟨⟨⟨⟨a1,a2,a3⟩,e1⟩,e2⟩,e3⟩,e4⟩:=i2;simp only[e1,e2,e3,e4,Ea,Qa8,Qb3] at *)
 all_goals
  have hi:y2.1.toNat<=p.bh.length:=o_
  have hr:∀ q:Sa_,q.bh=p.bh.take y2.1.toNat++[⟨a,false,0,⟨#[]⟩⟩]++p.bh.drop y2.1.toNat->q.addr=p.addr->modRequest q y2.1=⟨5,a,p.addr.host,⟨#[]⟩⟩:=λq h1 h2=>by unfold modRequest;rw[h1,h2,Yn hi,Agl hi,Qa3 o_]
  try simp only[hr,Ae8 _ hi,Yn hi,Qg4] at *
 all_goals first|trivial|omega|exact⟨o_,by simp only[BJ,szAddr] at *;show _+_+0<=_;omega⟩|skip
 all_goals first|(have e:=Qt (a:=a) (l:=p.bh) (i:=y2.1.toNat) o_;first|rw[Qa3 o_] at e|rw[Qa5 o_] at e)|(have e:=OF (a:=a) (l:=p.bh) (i:=y2.1.toNat) o_)
 all_goals first|(rw[Al o_,show(y2.1+1).toNat=y2.1.toNat+1 from o_];simp only[and_true];exact⟨⟨o_,o_,o_⟩,o_⟩)|skip
 all_goals have e5:askFrom a p.bh=y2.1.toNat:=o_
 all_goals first|(rw[SW e5 o_ ‹_›];done)|(rw[Afj e5 o_ (by first|exact .inr ‹_›|exact .inl o_) _ (by first|exact Td ‹_›|exact SO ‹_›)])|skip)
def addEntry (p:Sa_) (to:ByteArray):Sa_ :=
 if(parseAddr to p.addr.host).2=true/\p.bg.length<20 then{ askModule p (parseAddr to p.addr.host).1 with bg:=p.bg++[(parseAddr to p.addr.host).1]} else p
def Zw (p:Sa_) (a:Sb_) (l:List Sb_):askModule { p with bg:=l } a={ askModule p a with bg:=l }:=by
 unfold askModule newMod;split<;>rfl
def N6 (p:Sa_) (a:Sb_):(askModule p a).bg=p.bg:=by unfold askModule;split<;>rfl
abbrev GY:Fct:=⟨[.v (.el .page),.v (.el .str)],[.el .page],λ(x_:Ty95_)=>Ag x_.1<=1050000000000/\x_.1.addr.host.size<=4000000000/\x_.2.1.size<=4000000000,λ(x_:Ty95_)=>(addEntry x_.1 x_.2.1,())⟩
def AlK:=Alo.a GY<|Fct.o (KP [1,2,4,5,6,7] [23]) Alo.2 func400 (by
 rintro⟨(p:Sa_),(to:ByteArray),_⟩ hp;refine ho (let q0_:Out:=.cl AC (p,()) λz3=>.lf GY (z3.1,());.cl AO (to,p.addr.host,()) λz2=>.br (!z2.2.1) q0_ (.br (decide ((p.bg.length:Int)>=20)) q0_ (.cl Bu (p,z2.1,()) λz5=>.ap (z5.1.bg.length+[z2.1].length) 32<|.lf GY ({z5.1 with bg:=z5.1.bg++[z2.1]},())))) ?_;refine Af ?_ λ_=>(Aa (λh2=>Af ?_ λ_=>(lfY ?_)) (λh2=>Aa (λh4=>Af ?_ λ_=>(lfY ?_)) (λh4=>Af ?_ λ_=>(Ek ?_ λ_=>lfY ?_))))
 all_goals
  have hl:szL szAddr p.bg+1<=1050000000001:=by have h1:Ag p<=1050000000000:=hp.1;simp only[Ag] at h1;omega
  have hl2:=Ab szAddr p.bg;have hz:=HZ to p.addr.host;have hs:Ag { p with bg:=p.bg++[(parseAddr to p.addr.host).1]}<=Ag p+szAddr (parseAddr to p.addr.host).1+1:=by simp only[Ag,CE,Ah,show szL szAddr []=0 from rfl];omega
  have ha:szAddr (parseAddr to p.addr.host).1<=16000000000:=by simp only[szAddr];have q1:p.addr.host.size<=4000000000:=hp.2.1;have q2:to.size<=4000000000:=hp.2.2;omega
  try simp only[std,Nat.reduceAdd,Zw,N6] at *
 all_goals first|trivial|omega|skip
 all_goals unfold addEntry
 all_goals first|rw[Qa3 ⟨‹_›,o_⟩]|rw[Qa5 (by rintro⟨q1,q2⟩;first|omega|(rw[show(parseAddr to p.addr.host).2=false from ‹_›] at q1;cases q1))])
def Alu:=AlK.a GY<|Fct.o (KP [1,2,4,5,6,7] [25]) AlK.2 func382 (by
 rintro⟨(p:Sa_),(to:ByteArray),_⟩ hp;refine ho (.cl AC (p,()) λz2=>let q0_:Out:=.lf GY (z2.1,());.cl AO (to,p.addr.host,()) λz3=>.br (!z3.2.1) q0_ (.br (decide ((p.bg.length:Int)>=20)) q0_ (.ap (z2.1.bg.length+[z3.1].length) 32<|.cl Bu (({z2.1 with bg:=z2.1.bg++[z3.1]}:Sa_),z3.1,()) λz4=>.lf GY (z4.1,())))) ?_;refine Af ?_ λ_=>(Af ?_ λ_=>(Aa (λh3=>lfY ?_) (λh3=>Aa (λh4=>lfY ?_) (λh4=>Ek ?_ λ_=>Af ?_ λ_=>(lfY ?_)))))
 all_goals
  have hl:szL szAddr p.bg+1<=1050000000001:=by have h1:Ag p<=1050000000000:=hp.1;simp only[Ag] at h1;omega
  have hl2:=Ab szAddr p.bg;have hz:=HZ to p.addr.host;have hs:Ag { p with bg:=p.bg++[(parseAddr to p.addr.host).1]}<=Ag p+szAddr (parseAddr to p.addr.host).1+1:=by simp only[Ag,CE,Ah,show szL szAddr []=0 from rfl];omega
  have ha:szAddr (parseAddr to p.addr.host).1<=16000000000:=by simp only[szAddr];have q1:p.addr.host.size<=4000000000:=hp.2.1;have q2:to.size<=4000000000:=hp.2.2;omega
  try simp only[std,Nat.reduceAdd,Zw,N6] at *
 all_goals first|trivial|omega|skip
 all_goals unfold addEntry
 all_goals first|rw[Qa3 ⟨‹_›,o_⟩]|rw[Qa5 (by rintro⟨q1,q2⟩;first|omega|(rw[show(parseAddr to p.addr.host).2=false from ‹_›] at q1;cases q1))])
def element (p:Sa_) (t:Si_) (n:Int):Sa_ :=
 if t.name=⟨#[108,105,110,107]⟩/\(findAttr t.bo ⟨#[104,114,101,102]⟩).isSome=true then(addSlot p 2 ((findAttr t.bo ⟨#[104,114,101,102]⟩).getD ⟨#[]⟩) ((findAttr t.bo ⟨#[100,105,103,101,115,116]⟩).getD ⟨#[]⟩) n).1
 else if t.name=⟨#[105,109,103]⟩/\(findAttr t.bo ⟨#[115,114,99]⟩).isSome=true then(addSlot p 1 ((findAttr t.bo ⟨#[115,114,99]⟩).getD ⟨#[]⟩) ((findAttr t.bo ⟨#[100,105,103,101,115,116]⟩).getD ⟨#[]⟩) n).1
 else p
abbrev Co:GS:=⟨[.g (.el .page),.i 8 (.el .token),.l (.v (.el .int))],[.el .page],λ(x_:Ty118_)=>Ag x_.1<=1050000000000/\x_.1.addr.host.size<=4000000000/\szToken x_.2.1<=4000000000,λ(x_:Ty118_)=>((element x_.1 x_.2.1 x_.2.2.1,()),(()))⟩
def Al7:=Alu.G Co<|GS.of (S:=Co) (L:=λ_ _=>none) (kp:=(KP [2,3,4,6,7,9,10,11,12] [30,50])) Alu.2 func346 k_ k_ (by
 rintro⟨(p:Sa_),(t:Si_),(n:Int),_⟩ hp;refine ho (let q4_:=GS.out Co ((p,()),(()));let q3_:=(⟨#[115,114,99]⟩:ByteArray);let q1_:=t.name.toList==(⟨#[105,109,103]⟩:ByteArray).toList;.cl Aj (t.bo,(⟨#[100,105,103,101,115,116]⟩:ByteArray),()) λz2=>let q0_:Out:=.cl Aj (t.bo,q3_,()) λz7=>.br (z7.2.1) (.br q1_ (.cl Cs (p,(1:Int),z7.1,z2.1,n,()) λ(z8:Ty84_)=>GS.out Co ((z8.1,()),(()))) q4_) q4_;.cl Aj (t.bo,(⟨#[104,114,101,102]⟩:ByteArray),()) λz3=>.br (z3.2.1) (.br (t.name.toList==(⟨#[108,105,110,107]⟩:ByteArray).toList) (.cl Cs (p,(2:Int),z3.1,z2.1,n,()) λ(z4:Ty84_)=>let q2_:=GS.out Co ((z4.1,()),(()));.cl Aj (t.bo,q3_,()) λz5=>.br (z5.2.1) (.br q1_ (.cl Cs (z4.1,(1:Int),z5.1,z2.1,n,()) λ(z6:Ty84_)=>GS.out Co ((z6.1,()),(()))) q2_) q2_) q0_) q0_) ?_;repeat' (guard_target =~ Out.holds _ _;first|refine GS.leafY ?_|refine Aa (λ_=>?_) λ_=>?_|refine Af ?_ λ_=>?_)
 all_goals
  have h1:=AZ t.bo ⟨#[104,114,101,102]⟩;have h2:=AZ t.bo ⟨#[115,114,99]⟩;have h3:=AZ t.bo ⟨#[100,105,103,101,115,116]⟩;have h4:szL B9 t.bo<=4000000000/\t.bo.length<=4000000000:=by have q:=hp.2.2;have:=Ab B9 t.bo;simp only[szToken] at q;omega
  try simp only[std,Nat.reduceAdd,element] at *
  try simp(disch:=omega) only[wrapId',toNat1] at *
  try simp(disch:=omega) only[Qa3,Qa5]
 all_goals first|trivial|omega|grind[wrapId',toNat1,drop_cons,drop_end,good_len,maxLen,element])
def script (p:Sa_) (n:Int):Sa_ :=
 if(findAttr (p.ba.bi.getD n.toNat default).bo ⟨#[115,114,99]⟩).isSome=false then(if allowsInline p.bj ((findAttr (p.ba.bi.getD n.toNat default).bo ⟨#[110,111,110,99,101]⟩).getD ⟨#[]⟩)=true then{ p with inline:=n } else p)
 else if(findAttr (p.ba.bi.getD n.toNat default).bo ⟨#[107,105,110,100]⟩).getD ⟨#[]⟩=⟨#[100,101,102,101,114]⟩ then(addSlot p 4 ((findAttr (p.ba.bi.getD n.toNat default).bo ⟨#[115,114,99]⟩).getD ⟨#[]⟩) ((findAttr (p.ba.bi.getD n.toNat default).bo ⟨#[100,105,103,101,115,116]⟩).getD ⟨#[]⟩) n).1
 else if(findAttr (p.ba.bi.getD n.toNat default).bo ⟨#[107,105,110,100]⟩).getD ⟨#[]⟩=⟨#[109,111,100,117,108,101]⟩ then addEntry p ((findAttr (p.ba.bi.getD n.toNat default).bo ⟨#[115,114,99]⟩).getD ⟨#[]⟩)
 else{ (addSlot p 3 ((findAttr (p.ba.bi.getD n.toNat default).bo ⟨#[115,114,99]⟩).getD ⟨#[]⟩) ((findAttr (p.ba.bi.getD n.toNat default).bo ⟨#[100,105,103,101,115,116]⟩).getD ⟨#[]⟩) n).1 with block:=(addSlot p 3 ((findAttr (p.ba.bi.getD n.toNat default).bo ⟨#[115,114,99]⟩).getD ⟨#[]⟩) ((findAttr (p.ba.bi.getD n.toNat default).bo ⟨#[100,105,103,101,115,116]⟩).getD ⟨#[]⟩) n).2+1 }
def EY (p:Sa_):szL szToken p.bn+szBuilder p.ba+szL AV p.bf+szL AJ p.bh+szL szAddr p.bg+szL szAddr p.ran+szL Ae p.log+AM p.bj+szAddr p.addr<=Ag p:=by simp only[Ag];omega
def Mk (p:Sa_) (m:Int) (to d:ByteArray) (n:Int) : -1<=(addSlot p m to d n).2/\(addSlot p m to d n).2<=20:=by
 unfold addSlot;grind
def Mm (l:List Sv_) (n:Nat) (h:n<l.length):szL B9 (l.getD n default).bo<=szL AK l:=by
 have:=C6 AK (l:=l) h;simp only[AK] at *;omega
abbrev BI:GS:=⟨[.g (.el .page),.l (.v (.el .int))],[.el .page],λ(x_:Ty84_)=>Ag x_.1<=1050000000000/\x_.1.addr.host.size<=4000000000/\szL AK x_.1.ba.bi<=4000000000/\0<=x_.2.1/\x_.2.1<x_.1.ba.bi.length,λ(x_:Ty84_)=>((script x_.1 x_.2.1,()),(()))⟩
def Ajc:=Al7.G BI<|GS.of (S:=BI) (L:=λ_ _=>none) (kp:=(KP [1,2,4,5,6,7,8,10,12,14,15] [55,61,64,75])) Al7.2 func347 k_ k_ (by
 rintro⟨(p:Sa_),(n:Int),_⟩ hp;refine ho (let q0_:=p.ba.bi.getD (Int.toNat n) default;.ob (inB n p.ba.bi.length)<|.ob (Int.toNat n<p.ba.bi.length)<|.cl Aj (q0_.bo,(⟨#[115,114,99]⟩:ByteArray),()) λz2=>.cl Aj (q0_.bo,(⟨#[107,105,110,100]⟩:ByteArray),()) λz3=>.cl Aj (q0_.bo,(⟨#[100,105,103,101,115,116]⟩:ByteArray),()) λz4=>.cl Aj (q0_.bo,(⟨#[110,111,110,99,101]⟩:ByteArray),()) λz5=>.br (!z2.2.1) (.cl Cr (p.bj,z5.1,()) λz6=>.br (z6.1) (GS.out BI (({p with inline:=n},()),(()))) (GS.out BI ((p,()),(())))) (.br (z3.1.toList==(⟨#[100,101,102,101,114]⟩:ByteArray).toList) (.cl Cs (p,(4:Int),z2.1,z4.1,n,()) λ(z7:Ty84_)=>GS.out BI ((z7.1,()),(()))) (.br (z3.1.toList==(⟨#[109,111,100,117,108,101]⟩:ByteArray).toList) (.cl GY (p,z2.1,()) λz8=>GS.out BI ((z8.1,()),(()))) (.cl Cs (p,(3:Int),z2.1,z4.1,n,()) λ(z9:Ty84_)=>GS.out BI (({z9.1 with block:=w1 z9.2.1},()),(())))))) ?_;repeat' first|(guard_target =~ Out.holds _ _;first|refine GS.leafY ?_|refine Aa (λ_=>?_) λ_=>?_|refine Af ?_ λ_=>?_|refine Ac ?_ λ_=>?_)|exact trivial
 all_goals
  have hn:=Mm p.ba.bi n.toNat (by have q1:0<=n:=hp.2.2.2.1;have q2:n<p.ba.bi.length:=hp.2.2.2.2;omega);have hn2:=Ab B9 (p.ba.bi.getD n.toNat default).bo
 all_goals generalize hat:(p.ba.bi.getD n.toNat default).bo=at_ at *
 all_goals
  have h1:=AZ at_ ⟨#[110,111,110,99,101]⟩;have h2:=AZ at_ ⟨#[115,114,99]⟩;have h3:=AZ at_ ⟨#[100,105,103,101,115,116]⟩;have h4:=λm to d=>Mk p m to d n
  try simp only[std,Nat.reduceAdd,script] at *
  try simp(disch:=omega) only[wrapId',toNat1] at *
  try simp(disch:=omega) only[Qa3,Qa5]
 all_goals first|trivial|omega|grind[wrapId',toNat1,drop_cons,drop_end,good_len,maxLen,script])
def AkQ:=Ajc.G Co<|GS.of (S:=Co) (L:=λ_ _=>none) (kp:=(KP [2,3,4,6,7,9,10,11,12] [31,46])) Ajc.2 func316 k_ k_ (by
 rintro⟨(p:Sa_),(t:Si_),(n:Int),_⟩ hp;refine ho (let q1_:=GS.out Co ((p,()),(()));.cl Aj (t.bo,(⟨#[100,105,103,101,115,116]⟩:ByteArray),()) λz2=>.cl Aj (t.bo,(⟨#[104,114,101,102]⟩:ByteArray),()) λz3=>.cl Aj (t.bo,(⟨#[115,114,99]⟩:ByteArray),()) λz4=>let q0_:Out:=.br (t.name.toList==(⟨#[105,109,103]⟩:ByteArray).toList) (.br (z4.2.1) (.cl Cs (p,(1:Int),z4.1,z2.1,n,()) λ(z6:Ty84_)=>GS.out Co ((z6.1,()),(()))) q1_) q1_;.br (t.name.toList==(⟨#[108,105,110,107]⟩:ByteArray).toList) (.br (z3.2.1) (.cl Cs (p,(2:Int),z3.1,z2.1,n,()) λ(z5:Ty84_)=>GS.out Co ((z5.1,()),(()))) q0_) q0_) ?_;repeat' (guard_target =~ Out.holds _ _;first|refine GS.leafY ?_|refine Aa (λ_=>?_) λ_=>?_|refine Af ?_ λ_=>?_)
 all_goals
  have h1:=AZ t.bo ⟨#[104,114,101,102]⟩;have h2:=AZ t.bo ⟨#[115,114,99]⟩;have h3:=AZ t.bo ⟨#[100,105,103,101,115,116]⟩;have h4:szL B9 t.bo<=4000000000/\t.bo.length<=4000000000:=by have q:=hp.2.2;have:=Ab B9 t.bo;simp only[szToken] at q;omega
  try simp only[std,Nat.reduceAdd,element] at *
  try simp(disch:=omega) only[wrapId',toNat1] at *
  try simp(disch:=omega) only[Qa3,Qa5]
 all_goals first|trivial|omega|grind[wrapId',toNat1,drop_cons,drop_end,good_len,maxLen,element])
def Akq:=AkQ.G BI<|GS.of (S:=BI) (L:=λ_ _=>none) (kp:=(KP [1,2,4,5,6,8,10,12,13,14] [53,59,62,73])) AkQ.2 func317 k_ k_ (by
 rintro⟨(p:Sa_),(n:Int),_⟩ hp;refine ho (let q0_:=p.ba.bi.getD (Int.toNat n) default;.ob (inB n p.ba.bi.length)<|.ob (Int.toNat n<p.ba.bi.length)<|.cl Aj (q0_.bo,(⟨#[100,105,103,101,115,116]⟩:ByteArray),()) λz2=>.cl Aj (q0_.bo,(⟨#[107,105,110,100]⟩:ByteArray),()) λz3=>.cl Aj (q0_.bo,(⟨#[110,111,110,99,101]⟩:ByteArray),()) λz4=>.cl Aj (q0_.bo,(⟨#[115,114,99]⟩:ByteArray),()) λz5=>.br (!z5.2.1) (.cl Cr (p.bj,z4.1,()) λz6=>.br (z6.1) (GS.out BI (({p with inline:=n},()),(()))) (GS.out BI ((p,()),(())))) (.br (z3.1.toList==(⟨#[100,101,102,101,114]⟩:ByteArray).toList) (.cl Cs (p,(4:Int),z5.1,z2.1,n,()) λ(z7:Ty84_)=>GS.out BI ((z7.1,()),(()))) (.br (z3.1.toList==(⟨#[109,111,100,117,108,101]⟩:ByteArray).toList) (.cl GY (p,z5.1,()) λz8=>GS.out BI ((z8.1,()),(()))) (.cl Cs (p,(3:Int),z5.1,z2.1,n,()) λ(z9:Ty84_)=>GS.out BI (({z9.1 with block:=w1 z9.2.1},()),(())))))) ?_;repeat' first|(guard_target =~ Out.holds _ _;first|refine GS.leafY ?_|refine Aa (λ_=>?_) λ_=>?_|refine Af ?_ λ_=>?_|refine Ac ?_ λ_=>?_)|exact trivial
 all_goals
  have hn:=Mm p.ba.bi n.toNat (by have q1:0<=n:=hp.2.2.2.1;have q2:n<p.ba.bi.length:=hp.2.2.2.2;omega);have hn2:=Ab B9 (p.ba.bi.getD n.toNat default).bo
 all_goals generalize hat:(p.ba.bi.getD n.toNat default).bo=at_ at *
 all_goals
  have h1:=AZ at_ ⟨#[110,111,110,99,101]⟩;have h2:=AZ at_ ⟨#[115,114,99]⟩;have h3:=AZ at_ ⟨#[100,105,103,101,115,116]⟩;have h4:=λm to d=>Mk p m to d n
  try simp only[std,Nat.reduceAdd,script] at *
  try simp(disch:=omega) only[wrapId',toNat1] at *
  try simp(disch:=omega) only[Qa3,Qa5]
 all_goals first|trivial|omega|grind[wrapId',toNat1,drop_cons,drop_end,good_len,maxLen,script])
def isScript (p:Sa_) (t:Si_):Bool:=decide (t.kind=2)&&(decide (t.name=⟨#[115,99,114,105,112,116]⟩)&&(decide (0<p.ba.bl.length/\1<=lastOpen p.ba/\lastOpen p.ba<p.ba.bi.length)&&decide ((p.ba.bi.getD (lastOpen p.ba).toNat default).name=⟨#[115,99,114,105,112,116]⟩)))
def taken (p:Sa_) (t:Si_):Sa_:={ p with bn:=p.bn.drop 1,ba:=(addToken p.ba t).1 }
def takeTok (p:Sa_) (t:Si_):Sa_ :=
 if t.kind=1/\0<=(addToken p.ba t).2 then element (taken p t) t (addToken p.ba t).2
 else if isScript p t=true then script (taken p t) (lastOpen p.ba)
 else taken p t
def takeToken (p:Sa_):Sa_×Bool:=if p.bn.length=0\/p.block≠0\/p.inline≠0 then(p,false) else(takeTok p (p.bn.getD 0 default),true)
def AeW {l:List Si_}:cut l 1 (l.length-1)=l.drop 1:=by
 unfold cut;rw[Qb9 (by simp)]
def Vw (p:Sa_) (t:Si_):(⟨p.addr,p.bj,p.tok,cut p.bn 1 (p.bn.length-1),p.ended,(addToken p.ba t).1,p.bf,p.bh,p.bg,p.block,p.inline,p.bm,p.bq,p.ran,p.log,p.loaded⟩:Sa_)=taken p t:=by rw[AeW];rfl
def Me (b:Se_) (n:ByteArray):∀ k,k<=b.bl.length->(closeN b n k).length<=b.bl.length
 | 0,_=>Qa9 _
 | 1,_=>Qa9 _
 | m+2,h=>by
  rw[closeN];split
  ·grind
  ·exact Me b n (m+1) o_
def KI (b:Se_) (t:Si_):szL AK (addToken b t).1.bi<=szL AK b.bi+szToken t+1/\(addToken b t).1.bl.length<=b.bl.length+1/\(t.kind=2->(addToken b t).1.bi=b.bi):=by
 have h0:szL AK []=0:=rfl;have h2:szL B9 []=0:=rfl;have h3:ByteArray.size ⟨#[]⟩=0:=rfl;unfold addToken;split
 ·have:=Me b t.name _ (Qa9 _);exact⟨by show szL AK b.bi<=_;omega,by show(closeN b t.name b.bl.length).length<=_;omega,λ_=>rfl⟩
 ·split
  ·split
   ·refine⟨?_,?_,λh=>absurd h o_⟩
    ·dsimp only;rw[CE,Ah,h0];simp only[AK,szToken,h3];omega
    ·grind
   ·refine⟨?_,?_,λh=>absurd h o_⟩
    ·dsimp only;rw[CE,Ah,h0];simp only[AK,szToken,h3,h2];omega
    ·exact Nat.le_succ _
  ·grind
def Q5 (p:Sa_) (h:0<p.bn.length):Ag (taken p (p.bn.getD 0 default))<=Ag p+2/\szToken (p.bn.getD 0 default)+1+szL szToken (p.bn.drop 1)=szL szToken p.bn:=by
 have h1:=OT szToken h;rw[Qf1,Qe0] at h1;have h2:=KI p.ba (p.bn.getD 0 default);refine⟨?_,h1.symm⟩;simp only[Ag,taken,szBuilder];omega
def M8 {p:Sa_} {t:Si_} (h1:t.kind=2) (h2:t.name=⟨#[115,99,114,105,112,116]⟩) (h3:0<p.ba.bl.length) (h4:1<=lastOpen p.ba) (h5:lastOpen p.ba<p.ba.bi.length) (h6:(p.ba.bi.getD (lastOpen p.ba).toNat default).name=⟨#[115,99,114,105,112,116]⟩):isScript p t=true:=by
 unfold isScript;rw[Qf4 h1,Qf4 h2,Qf4 ⟨h3,h4,h5⟩,Qf4 h6];rfl
def OO {p:Sa_} {t:Si_} (h:¬ t.kind=2\/¬ t.name=⟨#[115,99,114,105,112,116]⟩\/¬ (0<p.ba.bl.length/\1<=lastOpen p.ba/\lastOpen p.ba<p.ba.bi.length)\/¬ (p.ba.bi.getD (lastOpen p.ba).toNat default).name=⟨#[115,99,114,105,112,116]⟩):¬ isScript p t=true:=by
 unfold isScript;grind
def Qh {p:Sa_} {t:Si_} (h1:t.kind=1) (h2:0<=(addToken p.ba t).2):takeTok p t=element (taken p t) t (addToken p.ba t).2:=by unfold takeTok;rw[Qa3 ⟨h1,h2⟩]
def Qm {p:Sa_} {t:Si_} (h1:t.kind=2) (h2:isScript p t=true):takeTok p t=script (taken p t) (lastOpen p.ba):=by unfold takeTok;rw[Qa5 o_,Qa3 h2]
def Pr {p:Sa_} {t:Si_} (h1:¬ t.kind=1\/(addToken p.ba t).2<0) (h2:¬ isScript p t=true):takeTok p t=taken p t:=by unfold takeTok;rw[Qa5 o_,Qa5 h2]
def okTok (p:Sa_):Prop:=Ag p<=1000000000000/\p.addr.host.size<=4000000000/\(∀ i,i<p.bn.length->szToken (p.bn.getD i default)<=1000000000)/\szL AK p.ba.bi<=1000000000/\p.ba.bl.length<=1000000000
abbrev AY:Fct:=⟨[.v (.el .page)],[.el .page,.el .bool],λ(x_:Ty13_)=>okTok x_.1,λ(x_:Ty13_)=>((takeToken x_.1).1,(takeToken x_.1).2,())⟩
def Amn:=Akq.a AY<|Fct.o (KP [1,2,3,4,5,6,7,8] [24,38,64,95]) Akq.2 func248 (by
 rintro⟨(p:Sa_),_⟩ hp;refine ho (let q18_:=(p.ba.bl.length:Int);let q8_:=(p.ba.bi.length:Int);let q21_:=q8_-(1:Int);let q20_:=(0:Int)<=(-1:Int)/\(-1:Int)<q8_;let q6_:=(⟨#[115,99,114,105,112,116]⟩:ByteArray);let q19_:=(p.ba.bi.getD 0 default).name.toList==q6_.toList;let q2_:=q18_-(1:Int);let q13_:=0<=p.ba.bl.getD (wr q2_).toNat default/\p.ba.bl.getD (wr q2_).toNat default<q8_;let q12_:=(p.ba.bi.getD (p.ba.bl.getD (wr q2_).toNat default).toNat default).name.toList==q6_.toList;.cl AC (p,()) λz2=>let q23_:=(z2.1.bn.length:Int);let q17_:Out:=.lf AY (z2.1,false,());let q7_:=z2.1.bn.getD 0 default;let q22_:=q7_.kind==2;let q16_:=q7_.name.toList==q6_.toList;let q3_:=z2.1.bn.length-1;let q11_:=1+q3_<=z2.1.bn.length;.br ((p.bn.length:Int)==0) q17_ (.br (p.block != 0) q17_ (.br (p.inline != 0) q17_ (.ob ((0:Int)<=(0:Int)/\(0:Int)<q23_)<|.ob (0<z2.1.bn.length)<|.ob ((0:Int)<=(1:Int)/\(1:Int)<=q23_)<|.br (decide (q18_>0)) (.ob (0<=wr q2_/\wr q2_<q18_)<|.cl Ba (p.ba,z2.1.bn.getD 0 default,()) λ(z3:Ty96_)=>let q10_:=({z2.1 with bn:=cut z2.1.bn 1 q3_,ba:=z3.1}:Sa_);let q5_:Out:=.ob q11_<|.lf AY ({z2.1 with bn:=cut z2.1.bn 1 q3_,ba:=z3.1},true,());let q0_:Out:=.br q22_ (.br q16_ (.cl Aw (p.ba.bl.getD (wr q2_).toNat default,(1:Int),wr q21_,()) λz7=>.br (z7.1) (.ob q13_<|.br q12_ (.ob q11_<|.ob (BI.pre (q10_,p.ba.bl.getD (wr q2_).toNat default,()))<|.lt _ (BI.fn (q10_,p.ba.bl.getD (wr q2_).toNat default,())) λz8=>.lf AY (z8.1.1,true,())) q5_) q5_) q5_) q5_;.br (q7_.kind==1) (.br (decide (z3.2.1>=0)) (.ob q11_<|.ob (Co.pre (q10_,z2.1.bn.getD 0 default,z3.2.1,()))<|.lt _ (Co.fn (q10_,z2.1.bn.getD 0 default,z3.2.1,())) λz4=>let q15_:Out:=.lf AY (z4.1.1,true,());.br q22_ (.br q16_ (.cl Aw (p.ba.bl.getD (wr q2_).toNat default,(1:Int),wr q21_,()) λz5=>.br (z5.1) (.ob q13_<|.br q12_ (.ob (BI.pre (z4.1.1,p.ba.bl.getD (wr q2_).toNat default,()))<|.lt _ (BI.fn (z4.1.1,p.ba.bl.getD (wr q2_).toNat default,())) λz6=>.lf AY (z6.1.1,true,())) q15_) q15_) q15_) q15_) q0_) q0_) (.cl Ba (p.ba,z2.1.bn.getD 0 default,()) λ(z11:Ty96_)=>let q9_:=({z2.1 with bn:=cut z2.1.bn 1 q3_,ba:=z11.1}:Sa_);let q4_:Out:=.ob q11_<|.lf AY ({z2.1 with bn:=cut z2.1.bn 1 q3_,ba:=z11.1},true,());let q1_:Out:=.br q22_ (.br q16_ (.cl Aw ((-1:Int),(1:Int),wr q21_,()) λz15=>.br (z15.1) (.ob q20_<|.br q19_ (.ob q11_<|.ob (BI.pre (q9_,(-1:Int),()))<|.lt _ (BI.fn (q9_,(-1:Int),())) λz16=>.lf AY (z16.1.1,true,())) q4_) q4_) q4_) q4_;.br (q7_.kind==1) (.br (decide (z11.2.1>=0)) (.ob q11_<|.ob (Co.pre (q9_,z2.1.bn.getD 0 default,z11.2.1,()))<|.lt _ (Co.fn (q9_,z2.1.bn.getD 0 default,z11.2.1,())) λz12=>let q14_:Out:=.lf AY (z12.1.1,true,());.br q22_ (.br q16_ (.cl Aw ((-1:Int),(1:Int),wr q21_,()) λz13=>.br (z13.1) (.ob q20_<|.br q19_ (.ob (BI.pre (z12.1.1,(-1:Int),()))<|.lt _ (BI.fn (z12.1.1,(-1:Int),())) λz14=>.lf AY (z14.1.1,true,())) q14_) q14_) q14_) q14_) q1_) q1_))))) ?_;repeat' first|(guard_target =~ Out.holds _ _;first|refine lfY ?_|refine Aa (λ_=>?_) λ_=>?_|refine Af ?_ λ_=>?_|refine Ac ?_ λ_=>?_|refine DW ?_)|exact trivial
 all_goals have hpp:=EY p
 all_goals obtain⟨hp1,hp2,hp3,hp4,hp7⟩:=(show okTok p from hp)
 all_goals
  have hl1:=Ab AK p.ba.bi;have hl2:szBuilder p.ba<=2000000000:=by(unfold szBuilder;omega)
  try simp only[Kk] at *
  try simp only[std,Nat.reduceAdd,inRange] at *
 all_goals first|trivial|omega|(unfold takeToken;(first|rw[Qa3 (by exact .inl o_)]|rw[Qa3 (by exact .inr (.inl ‹_›))]|rw[Qa3 (by exact .inr (.inr ‹_›))]);exact⟨rfl,rfl⟩)|skip
 all_goals
  have htz:=Q5 p o_;have ht0:=hp3 0 o_;have haz:=KI p.ba (p.bn.getD 0 default);try simp only[Al (show -9223372036854775808<=(p.ba.bl.length:Int)-1/\(p.ba.bl.length:Int)-1<=9223372036854775807 from o_),Al (show -9223372036854775808<=(p.ba.bi.length:Int)-1/\(p.ba.bi.length:Int)-1<=9223372036854775807 from o_),IP,Vw] at *
 all_goals first|trivial|omega|skip
 all_goals try rw[show takeToken p=(takeTok p (p.bn.getD 0 default),true) by(unfold takeToken;rw[Qa5 o_])]
 all_goals generalize p.bn.getD 0 default=t at *
 all_goals try simp only[show(taken p t).addr=p.addr from rfl,show(taken p t).ba=(addToken p.ba t).1 from rfl] at *
 all_goals first|trivial|omega|skip
 all_goals try simp only[Qa2,Qe4,Qa8,Qb3,and_true] at *
 all_goals first|trivial|omega|skip
 all_goals try (have hnn:(addToken p.ba t).1.bi=p.ba.bi:=haz.2.2 ‹_›;rw[hnn])
 all_goals first|trivial|omega|skip
 all_goals first|rw[Qh ‹_› o_]|rw[Qm ‹_› (M8 ‹_› ‹_› o_ o_ o_ ‹_›)]|rw[Pr (by first|exact .inl ‹_›|exact .inr o_) (OO (by first|exact .inl o_|exact .inr (.inl ‹_›)|exact .inr (.inr (.inl o_))|exact .inr (.inr (.inr ‹_›))))])
def AmX:=Amn.a AY<|Fct.o (KP [1,2,3,4,5,6,7,8,9,10] [26,51,78,95,101]) Amn.2 func211 (by
 rintro⟨(p:Sa_),_⟩ hp;refine ho (let q14_:=(p.ba.bi.length:Int);let q13_:=decide ((-1:Int)>=(1:Int));let q12_:=(⟨#[115,99,114,105,112,116]⟩:ByteArray);let q11_:=(p.ba.bl.length:Int);let q3_:=q11_-(1:Int);let q8_:=decide (p.ba.bl.getD (wr q3_).toNat default>=1);.cl AC (p,()) λz2=>let q15_:=(z2.1.bn.length:Int);let q10_:Out:=.lf AY (z2.1,false,());let q9_:=z2.1.bn.getD 0 default;let q4_:=z2.1.bn.length-1;let q7_:=1+q4_<=z2.1.bn.length;let q0_:Out:=.cl Ba (z2.1.ba,z2.1.bn.getD 0 default,()) λ(z8:Ty96_)=>let q5_:=({z2.1 with bn:=cut z2.1.bn 1 q4_,ba:=z8.1}:Sa_);let q2_:Out:=.br q13_ (.ob q7_<|.ob (BI.pre (q5_,(-1:Int),()))<|.lt _ (BI.fn (q5_,(-1:Int),())) λz11=>.lf AY (z11.1.1,true,())) (.ob q7_<|.lf AY ({z2.1 with bn:=cut z2.1.bn 1 q4_,ba:=z8.1},true,()));.br (decide (z8.2.1>=0)) (.br (q9_.kind==1) (.ob q7_<|.ob (Co.pre (q5_,z2.1.bn.getD 0 default,z8.2.1,()))<|.lt _ (Co.fn (q5_,z2.1.bn.getD 0 default,z8.2.1,())) λz9=>.br q13_ (.ob (BI.pre (z9.1.1,(-1:Int),()))<|.lt _ (BI.fn (z9.1.1,(-1:Int),())) λz10=>.lf AY (z10.1.1,true,())) (.lf AY (z9.1.1,true,()))) q2_) q2_;.br ((p.bn.length:Int)==0) q10_ (.br (p.block != 0) q10_ (.br (p.inline != 0) q10_ (.ob ((0:Int)<=(0:Int)/\(0:Int)<q15_)<|.ob (0<z2.1.bn.length)<|.ob ((0:Int)<=(1:Int)/\(1:Int)<=q15_)<|.br (q9_.kind==2) (.br (q9_.name.toList==q12_.toList) (.br (decide (q11_>0)) (.ob (0<=wr q3_/\wr q3_<q11_)<|.br q8_ (.br (decide (p.ba.bl.getD (wr q3_).toNat default<q14_)) (.ob (0<=p.ba.bl.getD (wr q3_).toNat default/\p.ba.bl.getD (wr q3_).toNat default<q14_)<|.br ((p.ba.bi.getD (p.ba.bl.getD (wr q3_).toNat default).toNat default).name.toList==q12_.toList) (.cl Ba (z2.1.ba,z2.1.bn.getD 0 default,()) λ(z3:Ty96_)=>let q6_:=({z2.1 with bn:=cut z2.1.bn 1 q4_,ba:=z3.1}:Sa_);let q1_:Out:=.br q8_ (.ob q7_<|.ob (BI.pre (q6_,p.ba.bl.getD (wr q3_).toNat default,()))<|.lt _ (BI.fn (q6_,p.ba.bl.getD (wr q3_).toNat default,())) λz6=>.lf AY (z6.1.1,true,())) (.ob q7_<|.lf AY ({z2.1 with bn:=cut z2.1.bn 1 q4_,ba:=z3.1},true,()));.br (decide (z3.2.1>=0)) (.br (q9_.kind==1) (.ob q7_<|.ob (Co.pre (q6_,z2.1.bn.getD 0 default,z3.2.1,()))<|.lt _ (Co.fn (q6_,z2.1.bn.getD 0 default,z3.2.1,())) λz4=>.br q8_ (.ob (BI.pre (z4.1.1,p.ba.bl.getD (wr q3_).toNat default,()))<|.lt _ (BI.fn (z4.1.1,p.ba.bl.getD (wr q3_).toNat default,())) λz5=>.lf AY (z5.1.1,true,())) (.lf AY (z4.1.1,true,()))) q1_) q1_) q0_) q0_) q0_) q0_) q0_) q0_)))) ?_;refine Af ?_ λ_=>(Aa (λh2=>lfY ?_) (λh2=>Aa (λh3=>lfY ?_) (λh3=>Aa (λh4=>lfY ?_) (λh4=>Ac ?_ λ_=>Ac ?_ λ_=>Ac ?_ λ_=>Aa (λh8=>Aa (λh9=>Aa (λh10=>Ac ?_ λ_=>Aa (λh12=>Aa (λh13=>Ac ?_ λ_=>Aa (λh15=>Af ?_ λ_=>(Aa (λh17=>Aa (λh18=>Ac ?_ λ_=>Ac ?_ λ_=>DW (Aa (λh21=>Ac ?_ λ_=>DW (lfY ?_)) (λh21=>lfY ?_))) (λh18=>Aa (λh23=>Ac ?_ λ_=>Ac ?_ λ_=>DW (lfY ?_)) (λh23=>Ac ?_ λ_=>lfY ?_))) (λh17=>Aa (λh27=>Ac ?_ λ_=>Ac ?_ λ_=>DW (lfY ?_)) (λh27=>Ac ?_ λ_=>lfY ?_)))) (λh15=>Af ?_ λ_=>(Aa (λh32=>Aa (λh33=>Ac ?_ λ_=>Ac ?_ λ_=>DW (Aa (λh36=>Ac ?_ λ_=>DW (lfY ?_)) (λh36=>lfY ?_))) (λh33=>Aa (λh38=>Ac ?_ λ_=>Ac ?_ λ_=>DW (lfY ?_)) (λh38=>Ac ?_ λ_=>lfY ?_))) (λh32=>Aa (λh42=>Ac ?_ λ_=>Ac ?_ λ_=>DW (lfY ?_)) (λh42=>Ac ?_ λ_=>lfY ?_))))) (λh13=>Af ?_ λ_=>(Aa (λh47=>Aa (λh48=>Ac ?_ λ_=>Ac ?_ λ_=>DW (Aa (λh51=>Ac ?_ λ_=>DW (lfY ?_)) (λh51=>lfY ?_))) (λh48=>Aa (λh53=>Ac ?_ λ_=>Ac ?_ λ_=>DW (lfY ?_)) (λh53=>Ac ?_ λ_=>lfY ?_))) (λh47=>Aa (λh57=>Ac ?_ λ_=>Ac ?_ λ_=>DW (lfY ?_)) (λh57=>Ac ?_ λ_=>lfY ?_))))) (λh12=>Af ?_ λ_=>(Aa (λh62=>Aa (λh63=>Ac ?_ λ_=>Ac ?_ λ_=>DW (Aa (λh66=>Ac ?_ λ_=>DW (lfY ?_)) (λh66=>lfY ?_))) (λh63=>Aa (λh68=>Ac ?_ λ_=>Ac ?_ λ_=>DW (lfY ?_)) (λh68=>Ac ?_ λ_=>lfY ?_))) (λh62=>Aa (λh72=>Ac ?_ λ_=>Ac ?_ λ_=>DW (lfY ?_)) (λh72=>Ac ?_ λ_=>lfY ?_))))) (λh10=>Af ?_ λ_=>(Aa (λh77=>Aa (λh78=>Ac ?_ λ_=>Ac ?_ λ_=>DW (Aa (λh81=>Ac ?_ λ_=>DW (lfY ?_)) (λh81=>lfY ?_))) (λh78=>Aa (λh83=>Ac ?_ λ_=>Ac ?_ λ_=>DW (lfY ?_)) (λh83=>Ac ?_ λ_=>lfY ?_))) (λh77=>Aa (λh87=>Ac ?_ λ_=>Ac ?_ λ_=>DW (lfY ?_)) (λh87=>Ac ?_ λ_=>lfY ?_))))) (λh9=>Af ?_ λ_=>(Aa (λh92=>Aa (λh93=>Ac ?_ λ_=>Ac ?_ λ_=>DW (Aa (λh96=>Ac ?_ λ_=>DW (lfY ?_)) (λh96=>lfY ?_))) (λh93=>Aa (λh98=>Ac ?_ λ_=>Ac ?_ λ_=>DW (lfY ?_)) (λh98=>Ac ?_ λ_=>lfY ?_))) (λh92=>Aa (λh102=>Ac ?_ λ_=>Ac ?_ λ_=>DW (lfY ?_)) (λh102=>Ac ?_ λ_=>lfY ?_))))) (λh8=>Af ?_ λ_=>(Aa (λh107=>Aa (λh108=>Ac ?_ λ_=>Ac ?_ λ_=>DW (Aa (λh111=>Ac ?_ λ_=>DW (lfY ?_)) (λh111=>lfY ?_))) (λh108=>Aa (λh113=>Ac ?_ λ_=>Ac ?_ λ_=>DW (lfY ?_)) (λh113=>Ac ?_ λ_=>lfY ?_))) (λh107=>Aa (λh117=>Ac ?_ λ_=>Ac ?_ λ_=>DW (lfY ?_)) (λh117=>Ac ?_ λ_=>lfY ?_))))))))
 all_goals have hpp:=EY p
 all_goals obtain⟨hp1,hp2,hp3,hp4,hp7⟩:=(show okTok p from hp)
 all_goals
  have hl1:=Ab AK p.ba.bi;have hl2:szBuilder p.ba<=2000000000:=by(unfold szBuilder;omega)
  try simp only[Kk] at *
  try simp only[std,Nat.reduceAdd,inRange] at *
 all_goals first|trivial|omega|(unfold takeToken;(first|rw[Qa3 (by exact .inl o_)]|rw[Qa3 (by exact .inr (.inl ‹_›))]|rw[Qa3 (by exact .inr (.inr ‹_›))]);exact⟨rfl,rfl⟩)|skip
 all_goals
  have htz:=Q5 p o_;have ht0:=hp3 0 o_;have haz:=KI p.ba (p.bn.getD 0 default);try simp only[Al (show -9223372036854775808<=(p.ba.bl.length:Int)-1/\(p.ba.bl.length:Int)-1<=9223372036854775807 from o_),Al (show -9223372036854775808<=(p.ba.bi.length:Int)-1/\(p.ba.bi.length:Int)-1<=9223372036854775807 from o_),IP,Vw] at *
 all_goals first|trivial|omega|skip
 all_goals try rw[show takeToken p=(takeTok p (p.bn.getD 0 default),true) by(unfold takeToken;rw[Qa5 o_])]
 all_goals generalize p.bn.getD 0 default=t at *
 all_goals try simp only[show(taken p t).addr=p.addr from rfl,show(taken p t).ba=(addToken p.ba t).1 from rfl] at *
 all_goals first|trivial|omega|skip
 all_goals try simp only[Qa2,Qe4,Qa8,Qb3,and_true] at *
 all_goals first|trivial|omega|skip
 all_goals try (have hnn:(addToken p.ba t).1.bi=p.ba.bi:=haz.2.2 ‹_›;rw[hnn])
 all_goals first|trivial|omega|skip
 all_goals first|rw[Qh ‹_› o_]|rw[Qm ‹_› (M8 ‹_› ‹_› o_ o_ o_ ‹_›)]|rw[Pr (by first|exact .inl ‹_›|exact .inr o_) (OO (by first|exact .inl o_|exact .inr (.inl ‹_›)|exact .inr (.inr (.inl o_))|exact .inr (.inr (.inr ‹_›))))])
def blk (p:Sa_):Int:=IntKind.i64.wrap (p.block-1)
def okParse (p:Sa_):Prop:=okTok p/\szL AV p.bf<=40000000000/\okBod p
def stepInline (p:Sa_):Sa_×Bool:=if stylesReady p.bf=true then({ runCode p (textOf p.inline p.ba.bi ⟨#[]⟩) true with inline:=0 },true) else(p,false)
def stepBlock (p:Sa_):Sa_×Bool :=
 if ¬ (0<=blk p/\blk p<p.bf.length) then({ p with block:=0 },true)
 else if(p.bf.getD (blk p).toNat default).done=false\/stylesReady p.bf=false then(p,false)
 else if(p.bf.getD (blk p).toNat default).code=1 then({ runCode p (p.bf.getD (blk p).toNat default).body true with block:=0 },true)
 else({ p with block:=0 },true)
def stepParser (p:Sa_):Sa_×Bool:=if p.inline≠0 then stepInline p else if p.block≠0 then stepBlock p else takeToken p
def Lt (n:Int):∀ (l:List Sv_) (s:ByteArray),(textOf n l s).size<=s.size+szL AK l
 | [],s=>Qc6 _ _
 | x::l,s=>by
  rw[textOf,Ah];split
  ·have:=Lt n l (s++x.text);rw[Qa6] at this;simp only[AK];omega
  ·have:=Lt n l s;omega
def tf {b:Bool} (h:b=true) (h2:b=false):False:=by rw[h] at h2;cases h2
def QJ (p:Sa_):IntKind.i64.wrap (p.block-1)=blk p:=rfl
abbrev BE:Fct:=⟨[.v (.el .page)],[.el .page,.el .bool],λ(x_:Ty13_)=>okParse x_.1,λ(x_:Ty13_)=>((stepParser x_.1).1,(stepParser x_.1).2,())⟩
def AjF:=AmX.a BE<|Fct.o (KP [1,2,3,4,5,6,7] [10,13,27,37,53,64]) AmX.2 func148 (by
 rintro⟨(p:Sa_),_⟩ hp;refine ho (let q4_:=(p.bf.length:Int);let q3_:=p.block-(1:Int);let q2_:=p.bf.getD (wr q3_).toNat default;let q1_:Out:=.cl AC (p,()) λz3=>.lf BE (z3.1,false,());let q0_:=0<=wr q3_/\wr q3_<q4_;.br (p.inline != 0) (.cl Bt (p,()) λz2=>.br (!z2.1) q1_ (.cl LU (p.ba,p.inline,()) λz4=>.cl DO (p,z4.1,true,()) λz5=>.lf BE ({z5.1 with inline:=(0:Int)},true,()))) (.br (p.block != 0) (.cl Aw (wr q3_,(0:Int),wr (q4_-(1:Int)),()) λz6=>.br (!z6.1) (.cl AC (p,()) λz7=>.lf BE ({z7.1 with block:=(0:Int)},true,())) (.ob q0_<|.br (!q2_.done) q1_ (.cl Bt (p,()) λz9=>.br (!z9.1) q1_ (.cl AC (p,()) λz11=>.ob q0_<|.br (q2_.code==1) (.ob q0_<|.cl DO (p,q2_.body,true,()) λz12=>.lf BE ({z12.1 with block:=(0:Int)},true,())) (.lf BE ({z11.1 with block:=(0:Int)},true,())))))) (.cl AY (p,()) λz13=>.lf BE (z13.1,z13.2.1,())))) ?_;repeat' first|(guard_target =~ Out.holds _ _;first|refine lfY ?_|refine Aa (λ_=>?_) λ_=>?_|refine Af ?_ λ_=>?_|refine Ac ?_ λ_=>?_)|exact trivial
 all_goals obtain⟨hp0,hp6,hp5⟩:=(show okParse p from hp)
 all_goals obtain⟨hp1,hp2,hp3,hp4,hp7⟩:=(show okTok p from hp0)
 all_goals
  have hbb:szBuilder p.ba<=2000000000:=by(unfold szBuilder;omega)
  have hpp:=EY p;have hsl:=Ab AV p.bf;have hnl:=Ab AK p.ba.bi;have htx:=Lt p.inline p.ba.bi ⟨#[]⟩
 all_goals rw[show ByteArray.size ⟨#[]⟩=0 from rfl] at htx
 all_goals
  try simp only[std,Nat.reduceAdd,inRange,QJ] at *
  try simp only[QJ,Qa2,Qe4,Qa8,Qb3,Al (show -9223372036854775808<=(p.bf.length:Int)-1/\(p.bf.length:Int)-1<=9223372036854775807 from o_)] at *
 all_goals first|trivial|omega|exact hp0|exact⟨o_,o_,o_,hp5 _ o_,hp5⟩|exact⟨o_,o_,o_,o_,hp5⟩|skip
 all_goals unfold stepParser
 all_goals first|rw[Qa3 ‹_›]|(rw[Qa5 o_];first|rw[Qa3 ‹_›]|rw[Qa5 o_])
 all_goals first|exact⟨rfl,rfl⟩|(unfold stepInline)|(unfold stepBlock)
 all_goals repeat first|rw[Qa3 ‹_›]|rw[Qa5 (by intro q;first|exact tf q ‹_›|exact tf ‹_› q)]|rw[Qa3 o_]|rw[Qa5 o_]|rw[Qa3 (by exact .inl ‹_›)]|rw[Qa3 (by exact .inr ‹_›)]|rw[Qa5 (by rintro(q|q)<;>exact tf ‹_› q)]|fail
 all_goals exact⟨rfl,rfl⟩)
def Vg {b:UInt8} {s:ByteArray} (hl:idxB b s<(toL s).length):(toL s)[idxB b s]=b:=by
 have hg:=List.findIdx_getElem (xs:=toL s) (p:=λx=>x==b) (w:=hl);exact Qf7.1 hg
def WM {b:UInt8} {s:ByteArray} (h:idxB b s<s.size):G8 b (toL s)=some ((toL s).take (idxB b s),(toL s).drop (idxB b s+1)):=by
 have hl:idxB b s<(toL s).length:=h;refine Zn h ?_ ?_
 ·have hd:=J8 h;rw[List.drop_eq_getElem_cons hl] at hd;injection hd with hd
  rw[<-hd];exact Vg hl
 ·intro hm;obtain⟨j,hj,he⟩:=List.mem_take_iff_getElem.1 hm;have:=List.not_of_lt_findIdx (xs:=toL s) (p:=λx=>x==b) (i:=j) (show j<(toL s).findIdx _ from Qf0 hj (Nat.min_le_left _ _));simp_all
def AaT {b:UInt8} {s:ByteArray} (h:¬ idxB b s<s.size):G8 b (toL s)=none:=by
 refine O9 λhm=>h ?_
 unfold idxB;rw[<-BD];simp_all
def Ahb (s:ByteArray) (i:Nat):ofL ((toL s).take i)=s.extract 0 i:=by
 rw[<-Ct (s.extract 0 i),Be,Qf1]
def RQ (s:ByteArray) (i:Nat):ofL ((toL s).drop i)=s.extract i s.size:=by
 rw[<-Ct (s.extract i s.size),Be,Qb9 (by rw[BD];exact Qa9 _)]
def Kw (b:UInt8) (s:ByteArray):spl b s=if idxB b s<s.size then s.extract 0 (idxB b s)::spl b (s.extract (idxB b s+1) s.size) else[s]:=by
 rw[IR];split
 ·rename_i hc;rw[Qa5];intro h;rw[WM h] at hc;cases hc
 ·rename_i p q hc;by_cases h:idxB b s<s.size
  ·rw[Qa3 h];rw[WM h] at hc;obtain⟨rfl,rfl⟩:=Prod.mk.inj (Option.some.inj hc);rw[Ahb,RQ]
  ·rw[AaT h] at hc;cases hc
def gl59:List ByteArray->ByteArray
 | []=>⟨#[]⟩
 | [w]=>w
 | w::x::l=>w++⟨#[59]⟩++gl59 (x::l)
def Afd (w:ByteArray) {l:List ByteArray} (h:l≠[]):gl59 (w::l)=w++⟨#[59]⟩++gl59 l:=by
 cases l with
 | nil=>exact absurd rfl h
 | cons x l=>rfl
def Adp {b:UInt8} {s:ByteArray} (h:idxB b s<s.size):s.extract 0 (idxB b s)++⟨#[b]⟩++s.extract (idxB b s+1) s.size=s:=by
 have hl:idxB b s<(toL s).length:=h;have e:toL s=(toL s).take (idxB b s)++b::(toL s).drop (idxB b s+1):=by have e2:(toL s)[idxB b s]=b:=Vg hl;have:=(Qd9 (idxB b s) (toL s)).symm;rw[List.drop_eq_getElem_cons hl,e2] at this;exact this
 rw[<-Ahb,<-RQ];have e3:(⟨#[b]⟩:ByteArray)=ofL [b]:=rfl;rw[e3,<-JV,<-JV,Qb5,List.singleton_append,<-e,Ct]
def AhC (b:UInt8) (s:ByteArray):spl b s≠[]:=by
 intro h;have:=(D0 b s).1;simp_all
def Aed:∀ (n:Nat) (s:ByteArray),s.size<=n->gl59 (spl 59 s)=s
 | 0,s,hn=>by
  rw[Kw,Qa5 o_];rfl
 | n+1,s,hn=>by
  rw[Kw];by_cases h:idxB 59 s<s.size
  ·rw[Qa3 h,Afd _ (AhC _ _),Aed n _ (by rw[Qc1];omega)];exact Adp h
  ·rw[Qa5 h];rfl
def impW:ByteArray:=⟨#[105,109,112,111,114,116,32]⟩
def hasImp (w:ByteArray):Prop:=7<=w.size/\w.extract 0 7=impW
instance (w:ByteArray):Decidable (hasImp w):=by unfold hasImp;exact inferInstance
def pmGo (b:ByteArray):List ByteArray->List Sb_->List Sb_×List Sr_×Bool
 | [],acc=>(acc,[],true)
 | w::l,acc=>
  if hasImp w then(if(parseAddr (w.extract 7 w.size) b).2=true then pmGo b l (acc++[(parseAddr (w.extract 7 w.size) b).1]) else([],[],false))
  else if(parseScript (gl59 (w::l))).2=true then(acc,(parseScript (gl59 (w::l))).1,true) else([],[],false)
def parseModule (s b:ByteArray):List Sb_×List Sr_×Bool:=pmGo b (spl 59 s) []
def OC:parseScript ⟨#[]⟩=([],true):=rfl
def AhK (b:ByteArray) (acc:List Sb_):pmGo b (spl 59 ⟨#[]⟩) acc=(acc,[],true):=by
 rfl
def AbU (s b:ByteArray):pmGo b (spl 59 s) []=parseModule s b:=rfl
def ZJ {s:ByteArray} (h:hasImp s):7<=idxB 59 s:=by
 obtain⟨h1,h2⟩:=h;have e:(toL s).take 7=toL impW:=by rw[<-h2,Be,Qf1]
 have hn:(59:UInt8)∉(toL s).take 7:=by rw[e];decide
 rcases Nat.lt_or_ge (idxB 59 s) 7 with h3|h3
 ·exfalso;have h4:idxB 59 s<s.size:=o_
  have hl:idxB 59 s<(toL s).length:=h4;apply hn;rw[List.mem_take_iff_getElem];exact⟨idxB 59 s,o_,Vg hl⟩
 ·exact h3
def RV {s:ByteArray} (h:idxB 59 s<s.size):hasImp (s.extract 0 (idxB 59 s))↔hasImp s:=by
 have hx:7<=idxB 59 s->(s.extract 0 (idxB 59 s)).extract 0 7=s.extract 0 7:=λh7=>by apply ByteArray.ext;simp_all
 constructor
 ·rintro⟨h1,h2⟩;rw[Qc1] at h1;exact⟨o_,by rw[<-h2,hx o_]⟩
 ·intro hs;have h7:=ZJ hs;exact⟨by rw[Qc1];omega,by rw[hx h7];exact hs.2⟩
def YE {s:ByteArray} {k:Nat}:(s.extract 0 k).extract 7 (s.extract 0 k).size=s.extract 7 k:=by
 apply ByteArray.ext;apply Array.ext';have e1:=Be (s.extract 0 k) 7 (s.extract 0 k).size;have e2:=Be s 0 k;have e3:=Be s 7 k;rw[Qb9 (by rw[BD];exact Qa9 _),e2,Qf1] at e1;exact e1.trans e3.symm
def Afw {b s:ByteArray} {acc:List Sb_} (h:hasImp s) (h2:(parseAddr (s.extract 7 (idxB 59 s)) b).2=true):pmGo b (spl 59 s) acc=pmGo b (spl 59 (s.extract (min s.size (idxB 59 s+1)) s.size)) (acc++[(parseAddr (s.extract 7 (idxB 59 s)) b).1]):=by
 by_cases hk:idxB 59 s<s.size
 ·rw[Kw,Qa3 hk,pmGo,Qa3 ((RV hk).2 h),YE,Qa3 h2,Nat.min_eq_right o_]
 ·have e:idxB 59 s=s.size:=by have:=G7 59 s;omega
  rw[Kw,Qa5 hk,pmGo,Qa3 h];rw[e] at h2 ⊢;rw[Qa3 h2,Nat.min_eq_left o_];have e0:s.extract s.size s.size=⟨#[]⟩:=by rw[<-RQ,Qb2 (by rw[BD];exact Qa9 _)];rfl
  rw[e0,AhK];rfl
def AhJ {b s:ByteArray} {acc:List Sb_} (h:hasImp s) (h2:(parseAddr (s.extract 7 (idxB 59 s)) b).2=false):pmGo b (spl 59 s) acc=([],[],false):=by
 by_cases hk:idxB 59 s<s.size
 ·rw[Kw,Qa3 hk,pmGo,Qa3 ((RV hk).2 h),YE,Qa5 (by rw[h2];decide)]
 ·have e:idxB 59 s=s.size:=by have:=G7 59 s;omega
  rw[Kw,Qa5 hk,pmGo,Qa3 h];simp_all
def Ahr {b s:ByteArray} {acc:List Sb_} (h:¬ hasImp s):pmGo b (spl 59 s) acc=if(parseScript s).2=true then(acc,(parseScript s).1,true) else([],[],false):=by
 have hg:=Aed s.size s (Qa9 _);rw[Kw] at hg ⊢;by_cases hk:idxB 59 s<s.size
 ·rw[Qa3 hk] at hg ⊢;rw[pmGo,Qa5 (λq=>h ((RV hk).1 q)),hg]
 ·rw[Qa5 hk] at hg ⊢;rw[pmGo,Qa5 h,hg]
abbrev BX:Fct:=⟨[.v (.el .str),.v (.el .str)],[.sl .addr,.sl .line,.el .bool],λ(x_:Ty82_)=>x_.1.size<=4000000000/\x_.2.1.size<=4000000000,λ(x_:Ty82_)=>((parseModule x_.1 x_.2.1).1,(parseModule x_.1 x_.2.1).2.1,(parseModule x_.1 x_.2.1).2.2,())⟩
abbrev BP (s:ByteArray) (b:ByteArray):LInv:=⟨[⟨.s,7,true,.sl .addr⟩,⟨.s,8,false,.el .str⟩],λ_ (x_:Ty119_)=>x_.2.1.size<=s.size/\x_.1.length+x_.2.1.size<=s.size/\pmGo b (spl 59 x_.2.1) x_.1=parseModule s b,λ(x_:Ty119_)=>x_.2.1.size⟩
def AjU:=AjF.a BX<|Fct.p (KP [0,1,4,5,6,7,8,9,10,11,12,13] [23,35,55]) (λ⟨s,b,_⟩=>lv [(3,BP s b)]) AjF.2 func351 (by
 rintro⟨(s:ByteArray),(b:ByteArray),_⟩ hp;refine ho (let q2_:Out:=.lf BX ([],[],false,());lpx (BP s b) ([],(s,())) λ(y1:Ty119_) bk1=>let q1_:=(y1.2.1.size:Int);let q0_:Out:=.cl Bs (y1.2.1,()) λz5=>.br (!z5.2.1) q2_ (.lf BX (y1.1,z5.1,true,()));.br (decide (q1_>=7)) (.ob ((0:Int)<=(7:Int)/\(7:Int)<=q1_)<|.br ((y1.2.1.extract 0 7).toList==(⟨#[105,109,112,111,114,116,32]⟩:ByteArray).toList) (.cl L6 (y1.2.1,(59:Int),()) λ(z2:Ty3_)=>.ob ((0:Int)<=(7:Int)/\7<=z2.1/\z2.1<=q1_)<|.cl AO (y1.2.1.extract 7 z2.1.toNat,b,()) λz3=>.br (!z3.2.1) q2_ (.ap (y1.1.length+[z3.1].length) 32<|.cl Ag2 (q1_,w1 z2.1,()) λ(z4:Ty3_)=>.ob (0<=z4.1/\z4.1<=q1_)<|.re (Value.string s)<|.re (Value.string b)<|.bk (bk1 (y1.1++[z3.1],(y1.2.1.extract z4.1.toNat y1.2.1.size,()))))) q0_) q0_) ?_;repeat' first|(guard_target =~ Out.holds _ _;first|refine Au (li:=BP s b) ?_ λ(y1:Ty119_) i1=>?_|refine lfY ?_|refine Aa (λ_=>?_) λ_=>?_|refine Af ?_ λ_=>?_|refine Ac ?_ λ_=>?_|refine A8 ?_|refine An ?_|refine Ek ?_ λ_=>?_)|exact trivial
 all_goals
  have hp1:s.size<=4000000000/\b.size<=4000000000:=hp;try simp only[std,Nat.reduceAdd,show UInt8.ofNat (Int.toNat 59)=59 from rfl] at *
 all_goals first|omega|(simp only[AbU,Qa9,and_self];done)|(obtain⟨acc,x,u⟩:=y1;obtain⟨a1,a2,a3⟩:=i1;dsimp only at *;have k1:=G7 59 x)
 all_goals first|(have hi:hasImp x:=⟨o_,‹_›⟩;have k2:=ZJ hi)|(have hi:¬ hasImp x:=by rintro⟨q1,q2⟩;first|omega|exact absurd q2 ‹_›)
 all_goals
  have k3:∀ a b,(x.extract a b).size<=x.size:=λa b=>by rw[Qc1];omega
  have k4:=k3 7 (idxB 59 x);have hw:IntKind.i64.wrap ((idxB 59 x:Int)+1)=(idxB 59 x:Int)+1:=Al (by constructor<;>omega);have hm:Int.toNat (min (x.size:Int) ((idxB 59 x:Int)+1))=min x.size (idxB 59 x+1):=o_
 all_goals simp only[Qg2,hw,hm] at *
 all_goals first|omega|exact⟨o_,Int.ofNat_le.2 k2,Int.ofNat_le.2 k1⟩|exact⟨o_,o_⟩|skip
 all_goals first|(rw[<-a3,AhJ hi ‹_›];exact⟨rfl,rfl,rfl⟩)|(rw[<-a3,Ahr hi];(first|rw[Qa3 ‹_›]|rw[Qa5 (by rw[show(parseScript x).2=false from ‹_›];decide)]);exact⟨rfl,by first|rfl|assumption,rfl⟩)|skip
 all_goals rw[Afw hi ‹_›] at a3
 all_goals refine⟨⟨Qd1 (k3 _ _) a1,?_,a3⟩,?_⟩
 all_goals rw[Qc1];try simp only[Qa1,Qa7,Qb1]
 all_goals omega)
def isParsed (p:Sa_):Bool:=p.ended&&decide (p.bn.length=0/\p.block=0/\p.inline=0)
abbrev EJ:Fct:=⟨[.v (.el .page)],[.el .bool],λ(x_:Ty13_)=>True,λ(x_:Ty13_)=>(isParsed x_.1,())⟩
theorem q17 (p:Sa_) (hp:EJ.pre (p,())):Out.holds (EJ.ctr (p,())).post (.br (p.ended) (.br ((p.bn.length:Int)==0) (.br (p.block==0) (.lf EJ (p.inline==0,())) (.lf EJ (false,()))) (.lf EJ (false,()))) (.lf EJ (false,()))):=hz ((@isParsed.eq_1))
def Ajj:=AjU.a EJ<|Fct.o [1,2] AjU.2 func249 (by
 rintro⟨(p:Sa_),_⟩ hp;exact ho _ (q17 p hp))
def Aj2:=Ajj.a EJ<|Fct.o [1,2] Ajj.2 func212 (by
 rintro⟨(p:Sa_),_⟩ hp;exact ho _ (q17 p hp))
def deferredSlots (p:Sa_):List Int:=openIdx (λs=>decide (s.mode=4)) p.bf 0
abbrev DI:Fct:=⟨[.v (.el .page)],[.sl .int],λ(x_:Ty13_)=>x_.1.bf.length<=1000000000000,λ(x_:Ty13_)=>(deferredSlots x_.1,())⟩
abbrev Cn (p:Sa_):LInv:=⟨[⟨.s,3,true,.sl .int⟩,⟨.s,4,true,.el .int⟩,⟨.b,1,false,.el .page⟩],λ(z_ x_:Ty107_)=>(0<=x_.2.1/\x_.2.1<=p.bf.length/\x_.1.length<=x_.2.1/\x_.1++openIdx (λs=>decide (s.mode=4)) (p.bf.drop x_.2.1.toNat) x_.2.1=deferredSlots p)/\x_.2.2.1=z_.2.2.1,λ(x_:Ty107_)=>p.bf.length-x_.2.1.toNat⟩
def Ako:=Aj2.a DI<|Fct.p (KP [1,2,3,4] [10,19]) (λ⟨p,_⟩=>lv [(3,Cn p)]) Aj2.2 func250 (by
 rintro⟨(p:Sa_),_⟩ hp;refine ho (lpx (Cn p) ([],((0:Int),(p,()))) λ(y1:Ty107_) bk1=>.br (decide (y1.2.1<(y1.2.2.1.bf.length:Int))) (.ob (inB y1.2.1 y1.2.2.1.bf.length)<|.br ((y1.2.2.1.bf.getD y1.2.1.toNat default).mode==4) (.ap (y1.1.length+[y1.2.1].length) 8<|.bk (bk1 (y1.1++[y1.2.1],(w1 y1.2.1,(y1.2.2.1,()))))) (.bk (bk1 (y1.1,(w1 y1.2.1,(y1.2.2.1,())))))) (.lf DI (y1.1,()))) ?_;refine Au ?_ λ(y1:Ty107_) i1=>Aa (λh2=>Ac ?_ λ_=>Aa (λh4=>Ek ?_ λ_=>A8 ?_) (λh4=>A8 ?_)) (λh2=>lfY ?_)
 all_goals
  have h0:openIdx (λs:Sl_=>decide (s.mode=4)) (p.bf.drop 0) 0=deferredSlots p:=rfl;try simp only[std,Nat.reduceAdd,openIdx_at,openIdx_end,Qa1,Qa7,Qb1,Qb5] at *
  try simp(disch:=omega) only[wrapId',toNat1] at *
  try simp(disch:=omega) only[Qa3,Qa5]
 all_goals first|trivial|omega|grind[wrapId',toNat1,drop_cons,drop_end,good_len,maxLen,openIdx_at,openIdx_end,List.length_append,List.length_cons,List.length_nil,List.append_assoc])
abbrev Cm (p:Sa_):LInv:=⟨[⟨.s,3,true,.sl .int⟩,⟨.s,10,true,.el .int⟩],λ_ (x_:Ty46_)=>0<=x_.2.1/\x_.2.1<=p.bf.length/\x_.1.length<=x_.2.1/\x_.1++openIdx (λs=>decide (s.mode=4)) (p.bf.drop x_.2.1.toNat) x_.2.1=deferredSlots p,λ(x_:Ty46_)=>p.bf.length-x_.2.1.toNat⟩
def AmO:=Ako.a DI<|Fct.p (KP [1,2,3,4,5,8,9,10] [11,17]) (λ⟨p,_⟩=>lv [(3,Cm p)]) Ako.2 func213 (by
 rintro⟨(p:Sa_),_⟩ hp;refine ho (lpx (Cm p) ([],((0:Int),())) λ(y1:Ty46_) bk1=>.br (decide (y1.2.1<(p.bf.length:Int))) (.ob (inB y1.2.1 p.bf.length)<|.br ((p.bf.getD y1.2.1.toNat default).mode==4) (.ap (y1.1.length+[y1.2.1].length) 8<|.re (p.bf)<|.re (Value.int IntKind.i64 (p.bf.length:Int))<|.bk (bk1 (y1.1++[y1.2.1],(w1 y1.2.1,())))) (.re (p.bf)<|.re (Value.int IntKind.i64 (p.bf.length:Int))<|.bk (bk1 (y1.1,(w1 y1.2.1,()))))) (.lf DI (y1.1,()))) ?_;refine Au ?_ λ(y1:Ty46_) i1=>Aa (λh2=>Ac ?_ λ_=>Aa (λh4=>Ek ?_ λ_=>An<|An<|A8 ?_) (λh4=>An<|An<|A8 ?_)) (λh2=>lfY ?_)
 all_goals
  have h0:openIdx (λs:Sl_=>decide (s.mode=4)) (p.bf.drop 0) 0=deferredSlots p:=rfl;try simp only[Kk] at *
  try simp only[std,Nat.reduceAdd,openIdx_at,openIdx_end,Qa1,Qa7,Qb1,Qb5] at *
  try simp(disch:=omega) only[wrapId',toNat1] at *
  try simp(disch:=omega) only[Qa3,Qa5]
 all_goals first|trivial|omega|grind[wrapId',toNat1,drop_cons,drop_end,good_len,maxLen,openIdx_at,openIdx_end,List.length_append,List.length_cons,List.length_nil,List.append_assoc])
def formatAddr (a:Sb_):ByteArray:=if isName a.host&&isName a.path then a.host++⟨#[47]⟩++a.path else⟨#[]⟩
abbrev Ec:Fct:=⟨[.v (.el .addr)],[.el .str],λ(x_:Ty4_)=>szAddr x_.1<=1000000000000,λ(x_:Ty4_)=>(formatAddr x_.1,())⟩
theorem q5 (a:Sb_) (hp:Ec.pre (a,())):Out.holds (Ec.ctr (a,())).post (.cl D4 (a,()) λz2=>.br (!z2.1) (.lf Ec ((⟨#[]⟩:ByteArray),())) (.ob (sameSize a.host (⟨#[47]⟩:ByteArray))<|.ob (sameSize (a.host++(⟨#[47]⟩:ByteArray)) a.path)<|.lf Ec (a.host++(⟨#[47]⟩:ByteArray)++a.path,()))):=by
 refine Af ?_ λ_=>(Aa (λh2=>lfY ?_) (λh2=>Ac ?_ λ_=>Ac ?_ λ_=>lfY ?_))
 all_goals
  try simp only[std,Nat.reduceAdd,formatAddr,sameSize,Qa6,szAddr] at *
  try simp(disch:=omega) only[wrapId',toNat1] at *
  try simp(disch:=omega) only[Qa3,Qa5]
 all_goals first|trivial|omega|grind[wrapId',toNat1,drop_cons,drop_end,good_len,maxLen,formatAddr,sameSize,ByteArray.size_append,szAddr]
def Ajy:=AmO.a Ec<|Fct.o (KP [1,2] [5]) AmO.2 func350 (by
 rintro⟨(a:Sb_),_⟩ hp;exact ho _ (q5 a hp))
def Aln:=Ajy.a Ec<|Fct.o (KP [1,2] [5]) Ajy.2 func320 (by
 rintro⟨(a:Sb_),_⟩ hp;exact ho _ (q5 a hp))
def say (p:Sa_) (s:ByteArray):Sa_:=if p.log.length<40 then{ p with log:=p.log++[s]} else p
abbrev AbO:GS:=⟨[.g (.el .page),.l (.v (.el .str))],[.el .page],λ(x_:Ty95_)=>True,λ(x_:Ty95_)=>((say x_.1 x_.2.1,()),(()))⟩
def AiY:=Aln.G AbO<|GS.of (S:=AbO) (L:=λ_ _=>none) (kp:=(KP [1,2,4] [8])) Aln.2 func253 k_ k_ (by
 rintro⟨(p:Sa_),(s:ByteArray),_⟩ hp;refine ho (.br (decide ((p.log.length:Int)<40)) (.ap (p.log.length+[s].length) 16<|GS.out AbO (({p with log:=p.log++[s]},()),(()))) (GS.out AbO ((p,()),(())))) ?_;refine Aa (λh1=>Ek ?_ λ_=>GS.leafY ?_) (λh1=>GS.leafY ?_);all_goals
  try simp only[std,Nat.reduceAdd,say] at *
  try simp(disch:=omega) only[wrapId',toNat1] at *
  try simp(disch:=omega) only[Qa3,Qa5]
 all_goals first|trivial|omega|grind[wrapId',toNat1,drop_cons,drop_end,good_len,maxLen,say])
abbrev Nh:GS:=⟨[.b (.el .page),.l (.v (.el .str))],[],λ(x_:Ty95_)=>True,λ(x_:Ty95_)=>((()),(say x_.1 x_.2.1,()))⟩
def AkL:=AiY.G Nh<|GS.of (S:=Nh) (L:=λ_ _=>none) (kp:=(KP [0,1] [9])) AiY.2 func216 k_ k_ (by
 rintro⟨(p:Sa_),(s:ByteArray),_⟩ hp;refine ho (.br (decide ((p.log.length:Int)<40)) (.ap (p.log.length+[s].length) 16<|GS.out Nh ((()),({p with log:=p.log++[s]},()))) (GS.out Nh ((()),(p,())))) ?_;refine Aa (λh1=>Ek ?_ λ_=>GS.leafY ?_) (λh1=>GS.leafY ?_);all_goals
  try simp only[std,Nat.reduceAdd,say] at *
  try simp(disch:=omega) only[wrapId',toNat1] at *
  try simp(disch:=omega) only[Qa3,Qa5]
 all_goals first|trivial|omega|grind[wrapId',toNat1,drop_cons,drop_end,good_len,maxLen,say])
def findMod (l:List Sf_) (a:Sb_):Int:=fidx (λm=>decide (m.to=a)) l 0
def Kn (l:List Sf_) (a:Sb_):fidx (λm=>decide (m.to=a)) l 0=findMod l a:=rfl
def BW (l:List Sf_) (a:Sb_):findMod l a<l.length/\-1<=findMod l a:=by
 have:=DN (λm:Sf_=>decide (m.to=a)) l 0 o_;unfold findMod;omega
def Kz {l:List Sf_} {a:Sb_} (h:0<=findMod l a):(l.getD (findMod l a).toNat default).to=a:=by
 have e:=N9 (λm:Sf_=>decide (m.to=a)) l 0 o_;rw[Kn,Qa3 h,Int.sub_zero] at e;grind
def imports (p:Sa_) (a:Sb_):List Sb_×Bool :=
 if findMod p.bh a<0\/(p.bh.getD (findMod p.bh a).toNat default).done=false\/¬ (p.bh.getD (findMod p.bh a).toNat default).code=1 then([],false)
 else((parseModule (p.bh.getD (findMod p.bh a).toNat default).body a.host).1,(parseModule (p.bh.getD (findMod p.bh a).toNat default).body a.host).2.2)
def okMb (p:Sa_):Prop:=∀ i,i<p.bh.length->(p.bh.getD i default).body.size<=4000000000
abbrev H5:Fct:=⟨[.v (.el .page),.v (.el .addr)],[.sl .addr,.el .bool],λ(x_:Ty29_)=>x_.1.bh.length<=1000000000000/\okMb x_.1/\x_.2.1.host.size<=4000000000,λ(x_:Ty29_)=>((imports x_.1 x_.2.1).1,(imports x_.1 x_.2.1).2,())⟩
def Akv:=AkL.a H5<|Fct.o (KP [2,3,4,5,6,7,9] [32]) AkL.2 func262 (by
 rintro⟨(p:Sa_),(a:Sb_),_⟩ hp;refine ho (.cl Hd (p,a,()) λ(z2:Ty3_)=>.br (decide (z2.1<0)) (.lf H5 ([],false,())) (.ob (inB z2.1 p.bh.length)<|.br (!(p.bh.getD z2.1.toNat default).done) (.lf H5 ([],false,())) (.ob (inB z2.1 p.bh.length)<|.br ((p.bh.getD z2.1.toNat default).code != 1) (.lf H5 ([],false,())) (.ob (inB z2.1 p.bh.length)<|.cl BX ((p.bh.getD z2.1.toNat default).body,a.host,()) λz3=>.lf H5 (z3.1,z3.2.2.1,()))))) ?_;repeat' (guard_target =~ Out.holds _ _;first|refine lfY ?_|refine Aa (λ_=>?_) λ_=>?_|refine Af ?_ λ_=>?_|refine Ac ?_ λ_=>?_)
 all_goals have hf:=BW p.bh a
 all_goals obtain⟨q1,q2,q3⟩:=(show p.bh.length<=1000000000000/\okMb p/\a.host.size<=4000000000 from hp)
 all_goals
  try simp only[Kk] at *
  try simp only[std,Nat.reduceAdd,Kn] at *
 all_goals first|omega|exact⟨q2 _ o_,q3⟩|skip
 all_goals unfold imports
 all_goals first|rw[Qa3 (by exact .inl ‹_›)]|rw[Qa3 (by exact .inr (.inl ‹_›))]|rw[Qa3 (by exact .inr (.inr ‹_›))]|rw[Qa5 (by rintro(q|q|q)<;>first|omega|exact tf ‹_› q|exact q ‹_›)]
 all_goals exact⟨rfl,rfl⟩)
def Qc (b:ByteArray):∀ (l:List ByteArray) (acc:List Sb_),(∀ x,x∈acc->x.host.size<=8/\x.path.size<=8)->(∀ x,x∈(pmGo b l acc).1->x.host.size<=8/\x.path.size<=8)/\(pmGo b l acc).1.length+l.length<=acc.length+szL Ae l
 | [],acc,h=>⟨h,Qa9 _⟩
 | w::l,acc,h=>by
  rw[pmGo,Ah];have hnil:∀ x:Sb_,x∈([]:List Sb_)->x.host.size<=8/\x.path.size<=8:=λx h=>by cases h
  have hll:=Ab Ae l;split
  ·rename_i hi;split
   ·rename_i hc;obtain⟨i1,i2⟩:=Qc b l (acc++[(parseAddr (w.extract 7 w.size) b).1]) (λx hx=>by
     rcases Qb8.1 hx with hx|hx
     ·exact h x hx
     ·rw[List.mem_singleton] at hx;subst hx;unfold parseAddr at hc ⊢;split at hc
      ·rename_i hn;rw[Qa3 hn];rw[Qa2] at hn;exact⟨BL hn.1,BL hn.2⟩
      ·cases hc)
    refine⟨i1,?_⟩;rw[Qa1] at i2;have:=hi.1;grind
   ·grind
  ·grind
def Pn (s b:ByteArray):(∀ x,x∈(parseModule s b).1->x.host.size<=8/\x.path.size<=8)/\(parseModule s b).1.length<=s.size:=by
 obtain⟨h1,h2⟩:=Qc b (spl 59 s) [] (λx h=>by cases h);have h3:=(D0 59 s).1;rw[N5] at h2;exact⟨h1,by simp only[Qb1,parseModule] at *;omega⟩
def Fv (p:Sa_) (a:Sb_):(∀ x,x∈(imports p a).1->x.host.size<=8/\x.path.size<=8)/\((imports p a).1=[]\/0<=findMod p.bh a/\(imports p a).1.length<=(p.bh.getD (findMod p.bh a).toNat default).body.size):=by
 unfold imports;split
 ·simp
 ·rename_i h;have:=Pn (p.bh.getD (findMod p.bh a).toNat default).body a.host;simp_all
def inL (l:List Sb_) (a:Sb_):Bool:=l.any λc=>decide (c=a)
def visitF:Nat->Sa_->Sb_->List Sb_×List Sb_->List Sb_×List Sb_
 | 0,_,_,st=>st
 | f+1,p,a,st=>if inL st.1 a=true then st else
  (((imports p a).1.foldl (λst b=>visitF f p b st) (st.1++[a],st.2)).1,((imports p a).1.foldl (λst b=>visitF f p b st) (st.1++[a],st.2)).2++[a])
def muV (p:Sa_) (s:List Sb_):Nat:=(p.bh.filter λm=>!inL s m.to).length
def wtV (p:Sa_) (s:List Sb_):Nat:=((p.bh.filter λm=>!inL s m.to).map λm=>m.body.size+1).sum
def KA (s l:List Sb_) (a:Sb_):inL (s++l) a=(inL s a||inL l a):=by unfold inL;rw[List.any_append]
def UT (a b:Sb_):inL [a] b=decide (a=b):=by unfold inL;simp
def IW {α:Type} {f g:α->Bool}:∀ {l:List α},(∀ x,x∈l->g x=true->f x=true)->(l.filter g).length<=(l.filter f).length
 | [],_=>Qa9 _
 | x::l,h=>by
  have ih:=IW (f:=f) (g:=g) (l:=l) λy hy=>h y (Qc3 _ hy)
  grind
def Aal (p:Sa_) (s l:List Sb_):muV p (s++l)<=muV p s:=by
 unfold muV;refine IW λm _ h=>?_
 rw[KA] at h;simp_all
def wtL (g:Sf_->Bool):List Sf_->Nat
 | []=>0
 | m::l=>(if g m=true then m.body.size+1 else 0)+wtL g l
def Aer (g:Sf_->Bool):∀ l:List Sf_,wtL g l=((l.filter g).map λm=>m.body.size+1).sum
 | []=>rfl
 | m::l=>by rw[wtL,List.filter_cons,Aer g l];grind
def AaJ {f g:Sf_->Bool}:∀ {l:List Sf_},(∀ m,g m=true->f m=true)->wtL g l<=wtL f l
 | [],_=>Qa9 _
 | m::l,h=>by have:=AaJ (l:=l) h;rw[wtL,wtL];grind
def VI {f g:Sf_->Bool}:∀ {l:List Sf_} {i:Nat},i<l.length->(∀ m,g m=true->f m=true)->f (l.getD i default)=true->g (l.getD i default)=false->wtL g l+(l.getD i default).body.size+1<=wtL f l
 | [],i,h,_,_,_=>absurd h (Nat.not_lt_zero _)
 | m::l,0,_,hl,h1,h2=>by
  have:=AaJ (l:=l) hl;have h1:f m=true:=h1;have h2:g m=false:=h2;show wtL g (m::l)+m.body.size+1<=_;rw[wtL,wtL,Qa5 (by rw[h2];decide),Qa3 h1];omega
 | m::l,i+1,h,hl,h1,h2=>by have ih:=VI (l:=l) (i:=i) (by simpa using h) hl h1 h2;show wtL g (m::l)+(l.getD i default).body.size+1<=_;rw[wtL,wtL];grind
def SN (p:Sa_) (s:List Sb_):wtV p s=wtL (λm=>!inL s m.to) p.bh:=(Aer _ _).symm
def Nu {s:List Sb_} (l:List Sb_) {m:Sf_} (h:(!inL (s++l) m.to)=true):(!inL s m.to)=true:=by
 rw[KA] at h;simp_all
def Abc (p:Sa_) (s l:List Sb_):wtV p (s++l)<=wtV p s:=by
 rw[SN,SN];exact AaJ λm h=>Nu l h
def ZF (p:Sa_) (s:List Sb_) (a:Sb_) (h:inL s a=false) (hf:0<=findMod p.bh a):wtV p (s++[a])+(p.bh.getD (findMod p.bh a).toNat default).body.size+1<=wtV p s:=by
 rw[SN,SN];have hr:=BW p.bh a;have hg:=Kz hf;refine VI o_ (λm h=>Nu [a] h) ?_ ?_
 ·rw[hg,h];rfl
 ·rw[hg,KA,h,UT,Qf4 rfl];rfl
def YL (p:Sa_) (s:List Sb_) (a:Sb_) (h:inL s a=false) (hf:0<=findMod p.bh a):muV p (s++[a])<muV p s:=by
 have hr:=BW p.bh a;have hg:=Kz hf;have key:∀ (l:List Sf_) (i:Nat),i<l.length->(l.getD i default).to=a->(l.filter λm=>!inL (s++[a]) m.to).length<(l.filter λm=>!inL s m.to).length:=by
  intro l
  induction l with
  | nil=>intro i hi;exact absurd hi (Nat.not_lt_zero _)
  | cons m l ih=>
   intro i hi he;have hle:(l.filter λm=>!inL (s++[a]) m.to).length<=(l.filter λm=>!inL s m.to).length:=IW λm _ h=>Nu [a] h
   rw[List.filter_cons,List.filter_cons];cases i with
   | zero=>
    have he:m.to=a:=he;rw[he,KA,h,UT,Qf4 rfl];grind
   | succ i=>
    have:=ih i (by simpa using hi) he;by_cases h1:(!inL (s++[a]) m.to)=true
    ·rw[Qa3 h1,Qa3 (Nu [a] h1)];simp only[Qa7];omega
    ·grind
 exact key _ _ o_ hg
def Sr {α β:Type} (P:β->Prop) (f:β->α->β) (hf:∀ b a,P b->P (f b a)):∀ (l:List α) (b:β),P b->P (l.foldl f b)
 | [],_,h=>h
 | a::l,b,h=>Sr P f hf l (f b a) (hf b a h)
def NT:∀ (f:Nat) (p:Sa_) (a:Sb_) (st:Ty120_),∃ l,(visitF f p a st).1=st.1++l
 | 0,p,a,st=>⟨[],(Qd7 _).symm⟩
 | f+1,p,a,st=>by
  rw[visitF];split
  ·exact⟨[],(Qd7 _).symm⟩
  ·have:=Sr (λb:List Sb_×List Sb_=>∃ l,b.1=st.1++l) (λst b=>visitF f p b st) (λb x ⟨l,hl⟩=>by obtain⟨m,hm⟩:=NT f p x b;exact⟨l++m,by rw[hm,hl,Qb5]⟩) (imports p a).1 (st.1++[a],st.2) ⟨[a],rfl⟩
   exact this
def MT:∀ (f g:Nat) (p:Sa_) (a:Sb_) (st:Ty120_),muV p st.1<f->muV p st.1<g->visitF f p a st=visitF g p a st
 | 0,_,_,_,_,h,_=>absurd h (Nat.not_lt_zero _)
 | _+1,0,_,_,_,_,h=>absurd h (Nat.not_lt_zero _)
 | f+1,g+1,p,a,st,h1,h2=>by
  rw[visitF,visitF];split
  ·rfl
  ·rename_i hn;have hn:inL st.1 a=false:=by simpa using hn
   have hfold:∀ (l:List Sb_) (s:Ty120_),muV p s.1<f->muV p s.1<g->l.foldl (λst b=>visitF f p b st) s=l.foldl (λst b=>visitF g p b st) s:=by
    intro l
    induction l with
    | nil=>intro s _ _;rfl
    | cons b l ih=>
     intro s q1 q2;rw[List.foldl_cons,List.foldl_cons,<-MT f g p b s q1 q2];obtain⟨m,hm⟩:=NT f p b s;have:=Aal p s.1 m;grind
   rcases(Fv p a).2 with he|⟨hm,_⟩
   ·rw[he];rfl
   ·have:=YL p st.1 a hn hm;grind
def visit (p:Sa_) (a:Sb_) (st:Ty120_):List Sb_×List Sb_:=visitF (p.bh.length+1) p a st
def Ad6 (p:Sa_) (s:List Sb_):muV p s<=p.bh.length:=List.length_filter_le _ _
def Su {p:Sa_} {a:Sb_} {st:List Sb_×List Sb_} (h:inL st.1 a=true):visit p a st=st:=by unfold visit;rw[visitF,Qa3 h]
def Wp {p:Sa_} {a:Sb_} {st:List Sb_×List Sb_} (h:inL st.1 a=false):visit p a st=(((imports p a).1.foldl (λst b=>visit p b st) (st.1++[a],st.2)).1,((imports p a).1.foldl (λst b=>visit p b st) (st.1++[a],st.2)).2++[a]):=by
 have e:visit p a st=visitF (p.bh.length+2) p a st:=MT _ _ p a st (by have:=Ad6 p st.1;omega) (by have:=Ad6 p st.1;omega);rw[e,visitF,Qa5 (by rw[h];decide)];rfl
def totV (p:Sa_) (s:List Sb_):Nat:=s.length+wtV p s
def SU:∀ (f:Nat) (p:Sa_) (a:Sb_) (st:Ty120_),totV p (visitF f p a st).1<=totV p st.1+1/\(visitF f p a st).2.length+st.1.length=st.2.length+(visitF f p a st).1.length
 | 0,p,a,st=>⟨Nat.le_succ _,rfl⟩
 | f+1,p,a,st=>by
  rw[visitF];split
  ·omega
  ·rename_i hn;have hn:inL st.1 a=false:=by simpa using hn
   have hfold:∀ (l:List Sb_) (s:Ty120_),totV p (l.foldl (λst b=>visitF f p b st) s).1<=totV p s.1+l.length/\(l.foldl (λst b=>visitF f p b st) s).2.length+s.1.length=s.2.length+(l.foldl (λst b=>visitF f p b st) s).1.length:=by
    intro l
    induction l with
    | nil=>intro s;exact⟨Qa9 _,rfl⟩
    | cons b l ih=>
     intro s;rw[List.foldl_cons];have h1:=SU f p b s;grind
   have h1:=hfold (imports p a).1 (st.1++[a],st.2);rw[Qa1,Qd5];have h3:(st.1++[a]).length=st.1.length+1:=by simp
   rcases(Fv p a).2 with he|⟨hm,hl⟩
   ·rw[he] at h1 ⊢;have:=Abc p st.1 [a];simp only[totV,Qb1,List.foldl_nil] at *
    omega
   ·have:=ZF p st.1 a hn hm;simp only[totV] at *
    omega
def reachOf (p:Sa_) (a:Sb_):List Sb_:=(visit p a ([],[])).2
def Xt {p:Sa_} {a:Sb_} {s:List Sb_} {i:Nat} (h:inL s a=false) (hi:i<(imports p a).1.length):totV p (s++[a])+i<totV p s/\muV p (s++[a])<muV p s:=by
 rcases(Fv p a).2 with he|⟨hm,hl⟩
 ·simp_all
 ·have h1:=ZF p s a h hm;refine⟨?_,YL p s a h hm⟩;simp only[totV,Qa1,Qa7,Qb1];omega
def XD {p:Sa_} {l:List Sb_} {i:Nat} {st:List Sb_×List Sb_} (h:i<l.length):(l.drop i).foldl (λst b=>visit p b st) st=(l.drop (i+1)).foldl (λst b=>visit p b st) (visit p (l.getD i default) st):=by rw[drop_cons h];rfl
def U3 {p:Sa_} {l:List Sb_} {i:Nat} {st:List Sb_×List Sb_} (h:l.length<=i):(l.drop i).foldl (λst b=>visit p b st) st=st:=by rw[Qb2 h];rfl
def Pu (p:Sa_) (a:Sb_) (st:Ty120_):totV p (visit p a st).1<=totV p st.1+1/\(visit p a st).2.length+st.1.length=st.2.length+(visit p a st).1.length:=SU _ _ _ _
abbrev mVis (x:Ty121_):Nat:=muV x.1 x.2.2.1
def okVis (p:Sa_) (a:Sb_) (s o:List Sb_):Prop:=p.bh.length<=1000000000000/\okMb p/\a.host.size<=4000000000/\totV p s<=100000000000/\o.length<=s.length
abbrev MZ:GS:=⟨[.l (.v (.el .page)),.l (.v (.el .addr)),.g (.sl .addr),.g (.sl .addr)],[.sl .addr,.sl .addr],λ(x_:Ty121_)=>okVis x_.1 x_.2.1 x_.2.2.1 x_.2.2.2.1,λ(x_:Ty121_)=>(((visit x_.1 x_.2.1 (x_.2.2.1,x_.2.2.2.1)).1,(visit x_.1 x_.2.1 (x_.2.2.1,x_.2.2.2.1)).2,()),(()))⟩
def visInv (p:Sa_) (a:Sb_) (s o se od:List Sb_) (i:Int):Prop:=0<=i/\i<=(imports p a).1.length/\((imports p a).1.drop i.toNat).foldl (λst b=>visit p b st) (se,od)=(imports p a).1.foldl (λst b=>visit p b st) (s++[a],o)/\(∃ m,se=(s++[a])++m)/\totV p se<=totV p (s++[a])+i.toNat/\od.length+(s.length+1)=o.length+se.length
def SB {p:Sa_} {a:Sb_} {s o se od:List Sb_} {i:Int} (h:visInv p a s o se od i) (hi:i<(imports p a).1.length):visInv p a s o (visit p ((imports p a).1.getD i.toNat default) (se,od)).1 (visit p ((imports p a).1.getD i.toNat default) (se,od)).2 (i+1):=by
 obtain⟨h1,h2,h3,⟨m,hm⟩,h5,h6⟩:=h;have ht:=Pu p ((imports p a).1.getD i.toNat default) (se,od);rw[XD o_] at h3;obtain⟨l,hl⟩:=NT (p.bh.length+1) p ((imports p a).1.getD i.toNat default) (se,od);dsimp only at ht;refine⟨o_,o_,?_,⟨m++l,?_⟩,?_,?_⟩
 ·grind
 ·show(visit p _ (se,od)).1=_;unfold visit;simp_all
 ·omega
 ·omega
def J7 {p:Sa_} {a:Sb_} {s o se od:List Sb_} {i:Int} (h:visInv p a s o se od i) (hi:i<(imports p a).1.length) (hn:inL s a=false) (hp:okVis p a s o):okVis p ((imports p a).1.getD i.toNat default) se od/\muV p se<muV p s:=by
 obtain⟨h1,h2,h3,⟨m,hm⟩,h5,h6⟩:=h;obtain⟨p1,p2,p3,p4,p5⟩:=hp;have hr:=Xt hn (show i.toNat<(imports p a).1.length from o_);have hm2:=Aal p (s++[a]) m;rw[<-hm] at hm2;have hb:=(Fv p a).1 _ (AN (show i.toNat<(imports p a).1.length from o_));exact⟨⟨p1,p2,o_,o_,o_⟩,o_⟩
def KX {p:Sa_} (a:Sb_) (h:okMb p):(imports p a).1.length<=4000000000:=by
 have hr:=BW p.bh a;rcases(Fv p a).2 with he|⟨q1,q2⟩
 ·rw[he];decide
 ·have:=h (findMod p.bh a).toNat o_;omega
def P3 {p:Sa_} {a:Sb_} {s o se od:List Sb_} {i:Int} (h:visInv p a s o se od i) (hp:okVis p a s o):od.length<=200000000000:=by
 obtain⟨h1,h2,h3,_,h5,h6⟩:=h;obtain⟨p1,p2,p3,p4,p5⟩:=hp;have h7:=KX a p2;have h8:=Abc p s [a];simp only[totV,Qa1,Qa7,Qb1] at *
 omega
def PT {p:Sa_} {a:Sb_} {s o se od:List Sb_} {i:Int} (h:visInv p a s o se od i) (hi:¬ i<(imports p a).1.length) (hn:inL s a=false):(se,od++[a])=visit p a (s,o):=by
 obtain⟨h1,h2,h3,_⟩:=h;rw[U3 o_] at h3;rw[Wp (st:=(s,o)) hn,<-h3]
def WR (p:Sa_) (a:Sb_) (s o:List Sb_) (ho:o.length<=s.length):visInv p a s o (s++[a]) o 0:=by
 refine⟨o_,o_,rfl,⟨[],(Qd7 _).symm⟩,Qa9 _,?_⟩;simp
def Ry (s:List Sb_) (a:Sb_):(s.any λc=>decide (c=a))=inL s a:=rfl
abbrev Fu (p:Sa_) (a:Sb_) (s:(List Sb_)) (o:(List Sb_)):LInv:=⟨[⟨.s,2,true,.sl .addr⟩,⟨.s,3,true,.sl .addr⟩,⟨.s,12,true,.el .int⟩,⟨.b,4,false,.el .page⟩,⟨.b,5,true,.el .addr⟩,⟨.s,10,true,.sl .addr⟩],λ(z_ x_:Ty122_)=>(((visInv p a s o x_.1 x_.2.1 x_.2.2.1)/\x_.2.2.2.1=z_.2.2.2.1)/\x_.2.2.2.2.1=z_.2.2.2.2.1)/\x_.2.2.2.2.2.1=z_.2.2.2.2.2.1,λ(x_:Ty122_)=>(imports p a).1.length-x_.2.2.1.toNat⟩
def Amx:=Akv.G MZ<|GS.ofRec (S:=MZ) (L:=λ⟨p,a,s,o,_⟩=>λ|6=>some (Fu p a s o)|_=>none) (kp:=[2,3,4,5,8,9,10,12,15,33,1000015,1000033]) mVis Akv.2 func401 k_ k_ (by
 intro n0;rintro⟨(p:Sa_),(a:Sb_),(s:List Sb_),(o:List Sb_),_⟩ hp hm;refine ho (.cl Fg (s,a,()) λz2=>.br (z2.1) (GS.out MZ ((s,o,()),(()))) (.ap s.length 32<|.ap (s.length+[a].length) 32<|.cl H5 (p,a,()) λz3=>lpx (Fu p a s o) (s++[a],(o,((0:Int),(p,(a,(z3.1,())))))) λ(y6:Ty122_) bk6=>.br (decide (y6.2.2.1<(y6.2.2.2.2.2.1.length:Int))) (.ix y6.2.2.1 y6.2.2.2.2.2.1.length<|.ob (MZ.pre (y6.2.2.2.1,y6.2.2.2.2.2.1.getD y6.2.2.1.toNat default,y6.1,y6.2.1,())/\mVis (y6.2.2.2.1,y6.2.2.2.2.2.1.getD y6.2.2.1.toNat default,y6.1,y6.2.1,())<n0)<|.lt _ (MZ.fn (y6.2.2.2.1,y6.2.2.2.2.2.1.getD y6.2.2.1.toNat default,y6.1,y6.2.1,())) λz4=>.bk (bk6 (z4.1.1,(z4.1.2.1,(w1 y6.2.2.1,(y6.2.2.2.1,(y6.2.2.2.2.1,(y6.2.2.2.2.2.1,())))))))) (.ap y6.2.1.length 32<|.ap (y6.2.1.length+[y6.2.2.2.2.1].length) 32<|GS.out MZ ((y6.1,y6.2.1++[y6.2.2.2.2.1],()),(()))))) ?_;refine Af ?_ λ_=>(Aa (λh2=>GS.leafY ?_) (λh2=>Ek ?_ λ_=>Ek ?_ λ_=>Af ?_ λ_=>(Au ?_ λ(y6:Ty122_) i6=>Aa (λh7=>Er ?_ λo8 o9=>Ac ?_ λ_=>DW (A8 ?_)) (λh7=>Ek ?_ λ_=>Ek ?_ λ_=>GS.leafY ?_))))
 all_goals have hq:okVis p a s o:=hp
 all_goals obtain⟨p1,p2,p3,p4,p5⟩:=(show okVis p a s o from hp)
 all_goals
  have hsl:s.length<=100000000000:=by(simp only[totV] at p4;omega)
  have hil:=KX a p2;try simp only[std,Nat.reduceAdd,Ry] at *
 all_goals first|trivial|omega|exact⟨p1,p2,p3⟩|exact WR p a s o p5|(rw[Su ‹_›];exact⟨rfl,rfl⟩)|skip
 all_goals (obtain⟨⟨⟨i1,e1⟩,e2⟩,e3⟩:=i6;simp only[e1,e2,e3] at *)
 all_goals
  have i2:=i1.1;have i3:=P3 i1 hq
 all_goals first|trivial|omega|exact⟨i2,‹_›⟩|skip
 all_goals first|exact⟨(J7 i1 ‹_› ‹_› hq).1,Qf0 (J7 i1 ‹_› ‹_› hq).2 (Nat.le_of_lt_succ hm)⟩|(rw[Al o_];simp only[and_true];exact⟨SB i1 ‹_›,o_⟩)|(rw[<-PT i1 o_ ‹_›];exact⟨rfl,rfl⟩))
abbrev GF:Fct:=⟨[.v (.el .page),.v (.el .addr)],[.sl .addr],λ(x_:Ty29_)=>okVis x_.1 x_.2.1 [] [],λ(x_:Ty29_)=>(reachOf x_.1 x_.2.1,())⟩
def Ak3:=Amx.a GF<|Fct.o [2,3,4,6] Amx.2 func348 (by
 rintro⟨(p:Sa_),(a:Sb_),_⟩ hp;refine ho (.ob (MZ.pre (p,a,[],[],()))<|.lt _ (MZ.fn (p,a,[],[],())) λz2=>.lf GF (z2.1.2.1,())) ?_;refine Ac ?_ λ_=>DW (lfY ?_)
 all_goals try simp only[std,Nat.reduceAdd] at *
 all_goals first|assumption|rfl)
def TC:∀ (f:Nat) (p:Sa_) (a:Sb_) (st:Ty120_) (x:Sb_),x∈(visitF f p a st).2->x∈st.2\/x=a\/x.host.size<=8
 | 0,p,a,st,x,h=>.inl h
 | f+1,p,a,st,x,h=>by
  rw[visitF] at h;split at h
  ·exact .inl h
  ·have hfold:∀ (l:List Sb_) (s:Ty120_),(∀ y,y∈l->y.host.size<=8)->x∈(l.foldl (λst b=>visitF f p b st) s).2->x∈s.2\/x.host.size<=8:=by
    intro l
    induction l with
    | nil=>intro s _ h;exact .inl h
    | cons b l ih=>
     intro s hl h;rcases ih _ (λy hy=>hl y (Qc3 _ hy)) h with h|h
     ·rcases TC f p b s x h with h|h|h
      ·exact .inl h
      ·simp_all
      ·exact .inr h
     ·exact .inr h
   rcases Qb8.1 h with h|h
   ·rcases hfold _ _ (λy hy=>((Fv p a).1 y hy).1) h with h|h
    ·exact .inl h
    ·exact .inr (.inr h)
   ·simp_all
def J5 {p:Sa_} {a x:Sb_} (h:x∈reachOf p a) (ha:a.host.size<=4000000000):x.host.size<=4000000000:=by
 rcases TC _ p a ([],[]) x h with h|h|h
 ·cases h
 ·exact h▸ha
 ·omega
def JI {p:Sa_} {a:Sb_} (h:totV p []<=100000000000):(reachOf p a).length<=100000000001:=by
 have:=Pu p a ([],[]);unfold reachOf;simp only[Qb1] at this;have h2:(visit p a ([],[])).1.length<=totV p (visit p a ([],[])).1:=Qc6 _ _;omega
def graphReady (p:Sa_) (a:Sb_):Bool:=(reachOf p a).all λb=>decide (0<=findMod p.bh b)&&(p.bh.getD (findMod p.bh b).toNat default).done
def graphFails (p:Sa_) (a:Sb_):Bool:=(reachOf p a).any λb=>!(imports p b).2
def Ad7 {α:Type} [Inhabited α] {f:α->Bool} {l:List α} {i:Nat} (h:i<l.length):(l.drop i).all f=(f (l.getD i default)&&(l.drop (i+1)).all f):=by rw[drop_cons h];rfl
def Aeq {α:Type} [Inhabited α] {f:α->Bool} {l:List α} {i:Nat} (h:i<l.length):(l.drop i).any f=(f (l.getD i default)||(l.drop (i+1)).any f):=by rw[drop_cons h];rfl
def Zj {α:Type} {f:α->Bool} {l:List α} {i:Nat} (h:l.length<=i):(l.drop i).all f=true:=by rw[Qb2 h];rfl
def Aas {α:Type} {f:α->Bool} {l:List α} {i:Nat} (h:l.length<=i):(l.drop i).any f=false:=by rw[Qb2 h];rfl
abbrev CW:Fct:=⟨[.v (.el .page),.v (.el .addr)],[.el .bool],λ(x_:Ty29_)=>okVis x_.1 x_.2.1 [] [],λ(x_:Ty29_)=>(graphReady x_.1 x_.2.1,())⟩
abbrev Dc (p:Sa_) (a:Sb_):LInv:=⟨[⟨.s,6,true,.el .int⟩,⟨.b,2,false,.el .page⟩,⟨.s,5,true,.sl .addr⟩],λ(z_ x_:Ty123_)=>((0<=x_.1/\x_.1<=(reachOf p a).length/\((reachOf p a).drop x_.1.toNat).all (λb=>decide (0<=findMod p.bh b)&&(p.bh.getD (findMod p.bh b).toNat default).done)=graphReady p a)/\x_.2.1=z_.2.1)/\x_.2.2.1=z_.2.2.1,λ(x_:Ty123_)=>(reachOf p a).length-x_.1.toNat⟩
def Amm:=Ak3.a CW<|Fct.p (KP [2,3,4,5,6,7] [14,33]) (λ⟨p,a,_⟩=>lv [(3,Dc p a)]) Ak3.2 func251 (by
 rintro⟨(p:Sa_),(a:Sb_),_⟩ hp;refine ho (.cl GF (p,a,()) λz2=>lpx (Dc p a) ((0:Int),(p,(z2.1,()))) λ(y2:Ty123_) bk2=>.br (decide (y2.1<(y2.2.2.1.length:Int))) (.ix y2.1 y2.2.2.1.length<|.cl Hd (y2.2.1,y2.2.2.1.getD y2.1.toNat default,()) λ(z3:Ty3_)=>.br (decide (z3.1<0)) (.lf CW (false,())) (.ob (inB z3.1 y2.2.1.bh.length)<|.br (!(y2.2.1.bh.getD z3.1.toNat default).done) (.lf CW (false,())) (.bk (bk2 (w1 y2.1,(y2.2.1,(y2.2.2.1,()))))))) (.lf CW (true,()))) ?_;refine Af ?_ λ_=>(Au ?_ λ(y2:Ty123_) i2=>Aa (λh3=>Er ?_ λo4 o5=>Af ?_ λ_=>(Aa (λh7=>lfY ?_) (λh7=>Ac ?_ λ_=>Aa (λh9=>lfY ?_) (λh9=>A8 ?_)))) (λh3=>lfY ?_))
 all_goals obtain⟨p1,p2,p3,p4,p5⟩:=(show okVis p a [] [] from hp)
 all_goals
  have hl:=JI (a:=a) p4;try simp only[Kk] at *
  try simp only[std,Nat.reduceAdd,Kn] at *
 all_goals first|trivial|omega|exact⟨p1,p2,p3,p4,p5⟩|exact⟨o_,o_,rfl⟩|skip
 all_goals (obtain⟨⟨⟨i0,i1,i3⟩,e1⟩,e2⟩:=i2;simp only[e1,e2] at *)
 all_goals have hf:=BW p.bh ((reachOf p a).getD y2.1.toNat default)
 all_goals first|assumption|omega|skip
 all_goals first|(rw[Zj o_] at i3;exact i3)|rw[Ad7 o_] at i3
 all_goals first|(rw[<-i3,decide_eq_false o_];rfl)|(rw[<-i3,Qf4 o_,show Sf_.done _=false from ‹_›];rfl)|(rw[Qf4 o_,show Sf_.done _=true from ‹_›,Bool.true_and,Bool.true_and] at i3;rw[Al o_,show(y2.1+1).toNat=y2.1.toNat+1 from o_];simp only[and_true];exact⟨⟨o_,o_,i3⟩,o_⟩))
abbrev Eg:Fct:=⟨[.v (.el .page),.v (.el .addr)],[.el .bool],λ(x_:Ty29_)=>okVis x_.1 x_.2.1 [] [],λ(x_:Ty29_)=>(graphFails x_.1 x_.2.1,())⟩
abbrev Db (p:Sa_) (a:Sb_):LInv:=⟨[⟨.s,6,true,.el .int⟩,⟨.b,2,false,.el .page⟩,⟨.s,5,true,.sl .addr⟩],λ(z_ x_:Ty123_)=>((0<=x_.1/\x_.1<=(reachOf p a).length/\((reachOf p a).drop x_.1.toNat).any (λb=>!(imports p b).2)=graphFails p a)/\x_.2.1=z_.2.1)/\x_.2.2.1=z_.2.2.1,λ(x_:Ty123_)=>(reachOf p a).length-x_.1.toNat⟩
def Aml:=Amm.a Eg<|Fct.p (KP [2,3,4,5,6,8] [15,28]) (λ⟨p,a,_⟩=>lv [(3,Db p a)]) Amm.2 func349 (by
 rintro⟨(p:Sa_),(a:Sb_),_⟩ hp;refine ho (.cl GF (p,a,()) λz2=>lpx (Db p a) ((0:Int),(p,(z2.1,()))) λ(y2:Ty123_) bk2=>.br (decide (y2.1<(y2.2.2.1.length:Int))) (.ix y2.1 y2.2.2.1.length<|.cl H5 (y2.2.1,y2.2.2.1.getD y2.1.toNat default,()) λz3=>.br (!z3.2.1) (.lf Eg (true,())) (.bk (bk2 (w1 y2.1,(y2.2.1,(y2.2.2.1,())))))) (.lf Eg (false,()))) ?_;refine Af ?_ λ_=>(Au ?_ λ(y2:Ty123_) i2=>Aa (λh3=>Er ?_ λo4 o5=>Af ?_ λ_=>(Aa (λh7=>lfY ?_) (λh7=>A8 ?_))) (λh3=>lfY ?_))
 all_goals obtain⟨p1,p2,p3,p4,p5⟩:=(show okVis p a [] [] from hp)
 all_goals
  have hl:=JI (a:=a) p4;try simp only[Kk] at *
  try simp only[std,Nat.reduceAdd] at *
 all_goals first|trivial|omega|exact⟨p1,p2,p3,p4,p5⟩|exact⟨o_,o_,rfl⟩|skip
 all_goals (obtain⟨⟨⟨i0,i1,i3⟩,e1⟩,e2⟩:=i2;simp only[e1,e2] at *)
 all_goals first|assumption|omega|exact⟨p1,p2,J5 (AN o_) p3⟩|skip
 all_goals first|(rw[Aas o_] at i3;exact i3)|rw[Aeq o_] at i3
 all_goals first|(rw[<-i3,show Prod.snd (imports p _)=false from ‹_›];rfl)|(rw[show Prod.snd (imports p _)=true from ‹_›,Bool.not_true,Bool.false_or] at i3;rw[Al o_,show(y2.1+1).toNat=y2.1.toNat+1 from o_];simp only[and_true];exact⟨⟨o_,o_,i3⟩,o_⟩))
def bpot (b:Se_):Nat:=szBuilder b+10*(40-b.bi.length)
def T9 (b:Se_) (l:List So_) (x:Sr_):bpot (runLine b l x).1<=bpot b:=by
 unfold runLine;split
 ·exact Qa9 _
 ·split
  ·dsimp only;split
   ·rename_i h;obtain⟨h1,h2,h3⟩:=h;have:=BL h3;have h0:szL AK []=0:=rfl;have h4:szL B9 []=0:=rfl;have h5:ByteArray.size ⟨#[]⟩=0:=rfl;simp only[bpot,szBuilder,CE,Ah,h0,AK,h4,h5,Qa1,Qa7,Qb1];omega
   ·exact Qa9 _
  ·grind
def MV (l:List So_):∀ (r:List Sr_) (b:Se_) (w:ByteArray) (g:List ByteArray),bpot (runLines l r b w g).1<=bpot b
 | [],b,w,g=>Qa9 _
 | x::r,b,w,g=>by rw[runLines];exact Qd1 (MV l r _ _ _) (T9 b l x)
def Sb (b:Se_) (l:List So_) (r:List Sr_):bpot (runScript b l r).1<=bpot b:=MV l r b _ _
def RM (b:Se_) (l:List So_) (r:List Sr_):(runScript b l r).2.2.length<=r.length:=by
 have:=(IK l r b ⟨#[]⟩ []).2.2;show(runLines l r b ⟨#[]⟩ []).2.2.length<=_;simpa using this
def PH (b:ByteArray):∀ (l:List ByteArray) (acc:List Sb_),szL CQ (pmGo b l acc).2.1<=366/\(pmGo b l acc).2.1.length<=6
 | [],acc=>⟨Nat.zero_le _,Nat.zero_le _⟩
 | w::l,acc=>by
  rw[pmGo];split
  ·split
   ·exact PH b l _
   ·exact⟨Nat.zero_le _,Nat.zero_le _⟩
  ·split
   ·exact GI _
   ·exact⟨Nat.zero_le _,Nat.zero_le _⟩
def entLines (p:Sa_) (b:Sb_):List Sr_:=(parseModule (p.bh.getD (findMod p.bh b).toNat default).body b.host).2.1
def KU (p:Sa_) (b:Sb_):szL CQ (entLines p b)<=366/\(entLines p b).length<=6:=PH _ _ _
def entRun (p q:Sa_) (b:Sb_):Se_×ByteArray×List ByteArray:=runScript q.ba (sheetsOf p.bf) (entLines p b)
def enter1 (p q:Sa_) (b:Sb_):Sa_:=if inL q.ran b=true then q else{ q with ran:=q.ran++[b],ba:=(entRun p q b).1,log:=addLog q.log (entRun p q b).2.2 }
def enterAll (p q:Sa_) (l:List Sb_):Sa_:=l.foldl (enter1 p) q
def enter (p:Sa_) (a:Sb_):Sa_:=if graphFails p a=true then say p (⟨#[102,97,105,108,32]⟩++formatAddr a) else enterAll p p (reachOf p a)
def Vb {p q:Sa_} {l:List Sb_} {i:Nat} (h:i<l.length):enterAll p q (l.drop i)=enterAll p (enter1 p q (l.getD i default)) (l.drop (i+1)):=by rw[drop_cons h];rfl
def MR {p q:Sa_} {l:List Sb_} {i:Nat} (h:l.length<=i):enterAll p q (l.drop i)=q:=by rw[Qb2 h];rfl
def Xm (l:List ByteArray):∀ g:List ByteArray,(addLog g l).length<=max g.length 40:=by
 induction l with
 | nil=>intro g;rw[Ii];omega
 | cons x l ih=>
  intro g;rw[addLog];grind
def okEnt (p:Sa_) (a:Sb_):Prop:=Ag p<=1000000000000/\okVis p a [] []/\szAddr a<=1000000000000/\szBuilder p.ba<=20000000000/\szL AV p.bf<=40000000000/\okBod p
def entInv (p:Sa_) (a:Sb_) (q:Sa_) (i:Int):Prop:=0<=i/\i<=(reachOf p a).length/\enterAll p q ((reachOf p a).drop i.toNat)=enterAll p p (reachOf p a)/\q={ p with ran:=q.ran,ba:=q.ba,log:=q.log }/\bpot q.ba<=bpot p.ba/\q.ran.length<=p.ran.length+i.toNat/\q.log.length<=max p.log.length 40
def logInv (q1:Sa_) (g:List ByteArray) (q:Sa_) (k:Int):Prop:=0<=k/\k<=g.length/\q={ q1 with log:=q.log }/\addLog q.log (g.drop k.toNat)=addLog q1.log g
def Vs (q:Sa_) (g:List ByteArray):logInv q g q 0:=⟨o_,o_,rfl,rfl⟩
def Tz {q1 q:Sa_} {g:List ByteArray} {k:Int} (h:logInv q1 g q k) (hk:k<g.length):logInv q1 g (say q (g.getD k.toNat default)) (k+1):=by
 obtain⟨h1,h2,h3,h4⟩:=h;rw[S4 o_] at h4;refine⟨o_,o_,?_,?_⟩
 ·unfold say;grind
 ·rw[show(k+1).toNat=k.toNat+1 from o_];unfold say;split
  ·grind
  ·rename_i hc;rw[Qa5 hc] at h4;rw[IT hc];exact h4
def P6 {q1 q:Sa_} {g:List ByteArray} {k:Int} (h:logInv q1 g q k) (hk:¬ k<g.length):q={ q1 with log:=addLog q1.log g }:=by
 obtain⟨h1,h2,h3,h4⟩:=h;rw[Ps o_] at h4;rw[<-h4];exact h3
def TG {p:Sa_} {x:Sb_} (h:(imports p x).2=true):0<=findMod p.bh x:=by
 unfold imports at h;grind
def MM {p:Sa_} {a x:Sb_} (h:graphFails p a=false) (hx:x∈reachOf p a):0<=findMod p.bh x:=by
 unfold graphFails at h;rw[List.any_eq_false] at h;have:=h x hx;refine TG ?_;simp_all
def Wz (p:Sa_) (a:Sb_):entInv p a p 0:=⟨o_,o_,rfl,rfl,Qa9 _,Qa9 _,Nat.le_max_left _ _⟩
def Hw {p q:Sa_} {a:Sb_} {i:Int} (h:entInv p a q i):q.bh=p.bh/\q.bf=p.bf:=by
 have e:=h.2.2.2.1;grind
def NN {p q:Sa_} {a:Sb_} {i:Int} (h:entInv p a q i) (hp:okEnt p a):q.ran.length<=1200000000000/\szBuilder q.ba<=30000000000/\szL DM (sheetsOf p.bf)<=80000000000/\okSheets (sheetsOf p.bf)/\szL AV p.bf<=40000000000/\(reachOf p a).length<=100000000001/\p.bh.length<=1000000000000:=by
 obtain⟨h1,h2,h3,h4,h5,h6,h7⟩:=h;obtain⟨p1,⟨q1,q2,q3,q4,q5⟩,p3,p4,p5,p6⟩:=hp;have hl:=JI (a:=a) q4;have hs:=Gt p.bf;have hpp:=EY p;have hr:=Ab szAddr p.ran;have hm:=Ab AJ p.bh;have hb:szBuilder q.ba<=bpot q.ba:=Qc6 _ _;have hb2:bpot p.ba<=szBuilder p.ba+400:=by unfold bpot;omega
 grind
def LO {p q:Sa_} {a:Sb_} {i:Int} (h:entInv p a q i) (hi:i<(reachOf p a).length):entInv p a (enter1 p q ((reachOf p a).getD i.toNat default)) (i+1):=by
 obtain⟨h1,h2,h3,h4,h5,h6,h7⟩:=h;rw[Vb o_] at h3;refine⟨o_,o_,by rw[show(i+1).toNat=i.toNat+1 from o_];exact h3,?_,?_,?_,?_⟩
 ·unfold enter1;grind
 ·unfold enter1;split
  ·exact h5
  ·exact Qd1 (Sb _ _ _) h5
 ·unfold enter1;grind
 ·unfold enter1;split
  ·exact h7
  ·have:=Xm (entRun p q ((reachOf p a).getD i.toNat default)).2.2 q.log;grind
def Xl (p q:Sa_) (b:Sb_):runScript q.ba (sheetsOf p.bf) (parseModule (p.bh.getD (findMod p.bh b).toNat default).body b.host).2.1=entRun p q b:=rfl
def Qs (a:Sb_):(formatAddr a).size<=szAddr a+1:=by
 unfold formatAddr;split
 ·rw[Qa6,Qa6];simp only[szAddr,show ByteArray.size ⟨#[47]⟩=1 from rfl];omega
 ·exact Nat.zero_le _
abbrev Vu:Fct:=⟨[.v (.el .page),.v (.el .addr)],[.el .page],λ(x_:Ty29_)=>okEnt x_.1 x_.2.1,λ(x_:Ty29_)=>(enter x_.1 x_.2.1,())⟩
abbrev Ft (p:Sa_) (a:Sb_):LInv:=⟨[⟨.b,5,true,.el .page⟩,⟨.s,7,true,.el .int⟩,⟨.b,4,true,.el .page⟩,⟨.s,6,true,.sl .addr⟩],λ(z_ x_:Ty124_)=>((entInv p a x_.1 x_.2.1)/\x_.2.2.1=z_.2.2.1)/\x_.2.2.2.1=z_.2.2.2.1,λ(x_:Ty124_)=>(reachOf p a).length-x_.2.1.toNat⟩
abbrev ES (p:Sa_) (a:Sb_):LInv:=⟨[⟨.b,5,true,.el .page⟩,⟨.s,14,true,.el .int⟩,⟨.s,13,true,.sl .str⟩,⟨.s,6,true,.sl .addr⟩,⟨.b,4,true,.el .page⟩],λ(z_ x_:Ty125_)=>(x_.2.2.1=z_.2.2.1/\x_.2.2.2.1=z_.2.2.2.1/\logInv z_.1 z_.2.2.1 x_.1 x_.2.1)/\x_.2.2.2.2.1=z_.2.2.2.2.1,λ(x_:Ty125_)=>x_.2.2.1.length-x_.2.1.toNat⟩
def Akx:=Aml.a Vu<|Fct.p (KP [2,3,4,5,6,7,9,11,13,14] [19,31,40,86]) (λ⟨p,a,_⟩=>λ|6=>some (Ft p a)|14=>some (ES p a)|_=>none) Aml.2 func252 (by
 rintro⟨(p:Sa_),(a:Sb_),_⟩ hp;refine ho (let q0_:=(⟨#[102,97,105,108,32]⟩:ByteArray);.cl AC (p,()) λz2=>.cl Eg (p,a,()) λz3=>.br (z3.1) (.cl Ec (a,()) λz4=>.ob (sameSize q0_ z4.1)<|.ob (AbO.pre (z2.1,q0_++z4.1,()))<|.lt _ (AbO.fn (z2.1,q0_++z4.1,())) λz5=>.lf Vu (z5.1.1,())) (.cl GF (p,a,()) λz6=>lpx (Ft p a) (z2.1,((0:Int),(default,(z6.1,())))) λ(y7:Ty124_) bk7=>let q1_:=({y7.1 with ran:=y7.1.ran++[y7.2.2.2.1.getD y7.2.1.toNat default]}:Sa_);.br (decide (y7.2.1<(y7.2.2.2.1.length:Int))) (.ix y7.2.1 y7.2.2.2.1.length<|.cl Fg (y7.1.ran,y7.2.2.2.1.getD y7.2.1.toNat default,()) λz7=>.br (z7.1) (.bk (bk7 (y7.1,(w1 y7.2.1,(y7.2.2.1,(y7.2.2.2.1,())))))) (.ix y7.2.1 y7.2.2.2.1.length<|.ap (y7.1.ran.length+[y7.2.2.2.1.getD y7.2.1.toNat default].length) 32<|.ix y7.2.1 y7.2.2.2.1.length<|.cl Hd (q1_,y7.2.2.2.1.getD y7.2.1.toNat default,()) λ(z8:Ty3_)=>.ix z8.1 y7.1.bh.length<|.ix y7.2.1 y7.2.2.2.1.length<|.cl BX ((y7.1.bh.getD z8.1.toNat default).body,(y7.2.2.2.1.getD y7.2.1.toNat default).host,()) λz9=>.cl HA (q1_,()) λz10=>.cl Gv (y7.1.ba,z10.1,z9.2.1,()) λz11=>lpx (ES p a) (({y7.1 with ba:=z11.1,ran:=y7.1.ran++[y7.2.2.2.1.getD y7.2.1.toNat default]}:Sa_),((0:Int),(z11.2.2.1,(y7.2.2.2.1,(y7.2.2.1,()))))) λ(y27:Ty125_) bk27=>.br (decide (y27.2.1<(y27.2.2.1.length:Int))) (.ix y27.2.1 y27.2.2.1.length<|.ob (AbO.pre (y27.1,y27.2.2.1.getD y27.2.1.toNat default,()))<|.lt _ (AbO.fn (y27.1,y27.2.2.1.getD y27.2.1.toNat default,())) λz12=>.re (Value.int IntKind.i64 y7.2.1)<|.bk (bk27 (z12.1.1,(w1 y27.2.1,(y27.2.2.1,(y27.2.2.2.1,(y27.2.2.2.2.1,()))))))) (.bk (bk7 (y27.1,(w1 y7.2.1,(y27.2.2.2.2.1,(y27.2.2.2.1,())))))))) (.lf Vu (y7.1,())))) ?_;refine Af ?_ λ_=>(Af ?_ λ_=>(Aa (λh3=>Af ?_ λ_=>(Ac ?_ λ_=>Ac trivial λ_=>DW (lfY ?_))) (λh3=>Af ?_ λ_=>(Au ?_ λ(y7:Ty124_) i7=>Aa (λh8=>Er ?_ λo9 o10=>Af ?_ λ_=>(Aa (λh12=>A8 ?_) (λh12=>Er ?_ λo14 o15=>Ek ?_ λ_=>Er ?_ λo17 o18=>Af ?_ λ_=>(Er ?_ λo20 o21=>Er ?_ λo22 o23=>Af ?_ λ_=>(Af ?_ λ_=>(Af ?_ λ_=>(Au ?_ λ(y27:Ty125_) i27=>Aa (λh28=>Er ?_ λo29 o30=>Ac trivial λ_=>DW (An<|A8 ?_)) (λh28=>A8 ?_)))))))) (λh8=>lfY ?_)))))
 all_goals have hq:okEnt p a:=hp
 all_goals obtain⟨p1,p2,p3,p4,p5,p6⟩:=(show okEnt p a from hp)
 all_goals
  have hfa:=Qs a;try simp only[std,Nat.reduceAdd,Kn,Ry] at *
 all_goals first|trivial|omega|exact p2|(unfold sameSize;rw[show ByteArray.size ⟨#[102,97,105,108,32]⟩=5 from rfl];omega)|exact Wz p a|(unfold enter;rw[Qa3 ‹_›])|skip
 all_goals (obtain⟨⟨i1,e1⟩,e2⟩:=i7;have em:=(Hw i1).1;have es:=(Hw i1).2;have i0:=i1.1;have iz:=NN i1 hq)
 all_goals try simp only[e2,em,es,Xl] at *
 all_goals first|trivial|omega|skip
 all_goals try (have hmem:=AN (l:=reachOf p a) (i:=y7.2.1.toNat) o_;have hfnd:=MM ‹_› hmem;have hfi:=BW p.bh ((reachOf p a).getD y7.2.1.toNat default))
 all_goals first|exact⟨hfnd,hfi.1⟩|exact⟨o_,p6⟩|exact⟨p2.2.1 _ o_,J5 hmem p2.2.2.1⟩|exact⟨o_,o_,Qd1 (KU p _).1 (by decide),iz.2.2.2.1⟩|exact Vs _ _|(rw[Al o_];have e:=LO i1 o_;unfold enter1 at e;rw[Qa3 ‹_›] at e;exact⟨⟨⟨e,e1⟩,trivial⟩,o_⟩)|(unfold enter;rw[Qa5 (by intro q;exact tf q ‹_›)];have e:=i1.2.2.1;rw[MR o_] at e;exact e)|skip
 all_goals (obtain⟨⟨j1,j2,j3⟩,j4⟩:=i27;simp only[j1,j2,j4] at *;have j0:=j3.1;have hgl:=Qd1 (RM y7.1.ba (sheetsOf p.bf) (entLines p ((reachOf p a).getD y7.2.1.toNat default))) (KU p _).2;rw[show runScript y7.1.ba (sheetsOf p.bf) (entLines p ((reachOf p a).getD y7.2.1.toNat default))=entRun p y7.1 ((reachOf p a).getD y7.2.1.toNat default) from rfl] at hgl)
 all_goals first|exact⟨j0,‹_›⟩|(rw[Al o_];simp only[and_true,true_and];exact⟨Tz j3 ‹_›,o_⟩)|skip
 all_goals
  have e:=P6 j3 o_;have em2:=Hw i1;have e5:y27.1=enter1 p y7.1 ((reachOf p a).getD y7.2.1.toNat default):=by rw[e];unfold enter1;rw[Qa5 (by intro q;exact tf q ‹_›)];simp only[em2.1,em2.2]
 all_goals rw[Al o_,e5]
 all_goals exact⟨⟨⟨LO i1 o_,by first|trivial|assumption⟩,by first|trivial|assumption⟩,o_⟩)
def AeG (g:Sf_->Bool):∀ l:List Sf_,wtL g l<=szL AJ l
 | []=>Qa9 _
 | m::l=>by have:=AeG g l;rw[wtL,Ah];split<;>simp only[AJ]<;>omega
def Am6 (p:Sa_):totV p []<=szL AJ p.bh:=by
 unfold totV;rw[SN,Qb1,Qe0];exact AeG _ _
def okTail (p:Sa_):Prop:=okParse p/\okMb p/\szL AJ p.bh<=50000000000/\∀ i,i<p.bg.length->(p.bg.getD i default).host.size<=4000000000
def Qr {p:Sa_} (h:okTail p) {i:Nat} (hi:i<p.bg.length):okEnt p (p.bg.getD i default):=by
 obtain⟨⟨⟨h1,h1a,h1b,h1c,h1e⟩,h1d,h1f⟩,h2,h2a,h3⟩:=h;have hpp:=EY p;have ht:=Am6 p;have hm:=Ab AJ p.bh;have ha:=C6 szAddr hi;exact⟨h1,⟨o_,h2,h3 i hi,o_,Qa9 _⟩,o_,by unfold szBuilder;omega,h1d,h1f⟩
def defSlot (p:Sa_):Sl_:=p.bf.getD ((deferredSlots p).getD p.bm.toNat default).toNat default
def entNow (p:Sa_):Sb_:=p.bg.getD p.bq.toNat default
def tailDefer (p:Sa_):Sa_×Bool :=
 if(defSlot p).done=false\/stylesReady p.bf=false then(p,false)
 else if(defSlot p).code=1 then({ runCode p (defSlot p).body false with bm:=p.bm+1 },true)
 else({ p with bm:=p.bm+1 },true)
def tailEnter (p:Sa_):Sa_×Bool :=
 if graphReady p (entNow p)=false\/stylesReady p.bf=false then(p,false)
 else({ enter p (entNow p) with bq:=p.bq+1 },true)
def stepTail (p:Sa_):Sa_×Bool :=
 if isParsed p=false\/p.loaded=true\/p.bm<0\/p.bq<0 then(p,false)
 else if p.bm<(deferredSlots p).length then tailDefer p
 else if p.bq<p.bg.length then tailEnter p
 else if 0<(openSlots p).length\/0<(openMods p).length then(p,false)
 else({ say p ⟨#[108,111,97,100]⟩ with loaded:=true },true)
def J3 (p:Sa_) (h:0<=p.bm) (h2:p.bm<(deferredSlots p).length):0<=(deferredSlots p).getD p.bm.toNat default/\(deferredSlots p).getD p.bm.toNat default<p.bf.length:=by
 have hm:=AN (l:=deferredSlots p) (i:=p.bm.toNat) o_;have:=Hr (λs:Sl_=>decide (s.mode=4)) p.bf 0 _ hm;omega
def NM (p:Sa_):p.bf.getD ((deferredSlots p).getD p.bm.toNat default).toNat default=defSlot p:=rfl
def Qq (p:Sa_):p.bg.getD p.bq.toNat default=entNow p:=rfl
abbrev CU:Fct:=⟨[.v (.el .page)],[.el .page,.el .bool],λ(x_:Ty13_)=>okTail x_.1,λ(x_:Ty13_)=>((stepTail x_.1).1,(stepTail x_.1).2,())⟩
end Go.Proofs.YthpiiodbmkjmjaaGreatDoor.fnActions
