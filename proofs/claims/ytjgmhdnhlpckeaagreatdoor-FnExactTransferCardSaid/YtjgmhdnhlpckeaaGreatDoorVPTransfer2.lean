/-
  Contracts of functions that the law of FnExactTransfer reaches, part 2.
-/
import Derived.Test.YtjgmhdnhlpckeaaGreatDoorVPTransfer1
import Derived.Test.YtjgmhdnhlpckeaaGreatDoorVLe
import Derived.WalkKit
import Derived.BigGuard
import Derived.Deep.QuietTactic
import Derived.BigQuiet
import Derived.Lib.ConvBytes
import Derived.Sort.WalkC
import Derived.Handy
import Derived.Lib.Overlaps
import Derived.Lib.AppendZerosOnto
import Derived.Laws.Externs
import Derived.Shelf.RegionOpenPlain
import Derived.Defers
import Derived.Laws.Pointers
import Derived.Laws.LoneSync
import Derived.RegionCalls
import Derived.ChangeAlike
import Derived.LoopN
import Derived.Lib.SliceRun
import Derived.Shelf.Strconv.AtoiAll
import Derived.Shelf.Small.Strs
import Derived.Test.YtjgmhdnhlpckeaaGreatDoorRows
import Derived.Test.YtjgmhdnhlpckeaaGreatDoorCards
import Derived.LaidMore
import Derived.Lay
import Derived.SevenTiedAt
import Derived.WalkKit
import Derived.ProofKit
import Derived.OpenShut
namespace Go.Proofs.YtjgmhdnhlpckeaaGreatDoor.fnExactTransfer
open Go.Proofs.YtjgmhdnhlpckeaaGreatDoor
open Go.D Go.Proofs.Tryz
set_option maxRecDepth 100000
set_option maxHeartbeats 2000000
set_option linter.unusedVariables false
set_option linter.unusedSimpArgs false
def Ajy:=AkY.a fCheckResponse<|Fct.o (KP [3,4,5,6] [7,15,24,30,52]) AkY.2 func210 (by
 rintro⟨(p:SPolicy),(r:SRequest),(x:SResponse),_⟩ hp;refine ho (let q2_:Out:=.lf fCheckResponse ((5:Int),());let q1_:Out:=.lf fCheckResponse ((3:Int),());let q0_:Out:=.cl fCheckDigest (x.body,r.digest,()) fun z6=>.br (!z6.1) (.lf fCheckResponse ((6:Int),())) (.lf fCheckResponse ((1:Int),()));.cl fCheckRequest (p,r,()) fun(z2:Int×PUnit)=>.br (z2.1 != 1) (.cl fCheckRequest (p,r,()) fun(z3:Int×PUnit)=>.lf fCheckResponse (z3.1,())) (.cl fIsResponse (x,()) fun z4=>.br (!z4.1) q1_ (.br (x.status != 200) q1_ (.cl fFitsKind (x,r.kind,()) fun z5=>.br (!z5.1) (.lf fCheckResponse ((4:Int),())) (.br (!r.from_.toList==r.to.host.toList) (.br (!x.shares) (.br (r.kind==5) q2_ (.br (!r.digest.toList==(⟨#[]⟩:ByteArray).toList) q2_ q0_)) q0_) q0_))))) ?_;repeat' first|(guard_target =~ Out.holds _ _;first|refine lfY ?_|refine Ab (fun _=>?_) fun _=>?_|refine Ae ?_ fun _=>?_)|exact trivial
 all_goals
  have hc:=fun h=>Gq (p:=p) (r:=r) h
  try simp only[AA] at *
  try simp only[fCheckDigest,fCheckRequest,fCheckResponse,fFitsKind,fIsResponse,std,Nat.reduceAdd,checkResponse,fCheckRequest,fIsResponse,fFitsKind,fCheckDigest] at *
  try simp(disch:=omega) only[wrapId',toNat1] at *
  try simp(disch:=omega) only[Qa2,Qa3]
 all_goals first|trivial|omega|grind[wrapId',toNat1,drop_cons,drop_end,good_len,maxLen,checkResponse,fCheckRequest,fIsResponse,fFitsKind,fCheckDigest])
def usable (p:SPolicy) (r:SRequest) (x:SResponse):ByteArray×Bool:=if checkResponse p r x=1 then(x.body,true) else(⟨#[]⟩,false)
def AZ:Fct:=⟨[.v (.el .bi),.v (.el .request),.v (.el .bc)],[.el .str,.el .bool],fun(x_:SPolicy×SRequest×SResponse×Unit)=>szPolicy x_.1<=1099511627776/\szRequest x_.2.1<=1099511627776/\x_.2.2.1.bi.size<=200000000/\x_.2.2.1.body.size<=1000000000,fun(x_:SPolicy×SRequest×SResponse×Unit)=>((usable x_.1 x_.2.1 x_.2.2.1).1,(usable x_.1 x_.2.1 x_.2.2.1).2,())⟩
theorem q10 (p:SPolicy) (r:SRequest) (x:SResponse) (hp:AZ.pre (p,r,x,())):Out.holds (AZ.ctr (p,r,x,())).post (.cl fCheckResponse (p,r,x,()) fun(z2:Int×PUnit)=>.br (z2.1 != 1) (.lf AZ ((⟨#[]⟩:ByteArray),false,())) (.lf AZ (x.body,true,()))):=by
 refine Ae ?_ fun o1=>(Ab (fun h2=>lfY ?_) (fun h2=>lfY ?_))
 all_goals
  try simp only[AA] at *
  try simp only[fCheckResponse,AZ,std,Nat.reduceAdd,usable,fCheckResponse] at *
  try simp(disch:=omega) only[wrapId',toNat1] at *
  try simp(disch:=omega) only[Qa2,Qa3]
 all_goals first|trivial|omega|grind[wrapId',toNat1,drop_cons,drop_end,good_len,maxLen,usable,fCheckResponse]
def Ama:=Ajy.a AZ<|Fct.o (KP [3,4,5,6,7] [12]) Ajy.2 func250 (by
 rintro⟨(p:SPolicy),(r:SRequest),(x:SResponse),_⟩ hp;exact ho _ (q10 p r x hp))
def AlO:=Ama.a AZ<|Fct.o (KP [3,4,5,6,7] [12]) Ama.2 func211 (by
 rintro⟨(p:SPolicy),(r:SRequest),(x:SResponse),_⟩ hp;exact ho _ (q10 p r x hp))
def kindOf (m:Int):Int:=if m=1 then 4 else if m=2 then 3 else if m=3\/m=4 then 2 else 0
def fKindOfMode:Fct:=⟨[.v (.el .int)],[.el .int],fun(x_:Int×Unit)=>True,fun(x_:Int×Unit)=>(kindOf x_.1,())⟩
theorem q11 (m:Int) (hp:fKindOfMode.pre (m,())):Out.holds (fKindOfMode.ctr (m,())).post (.br (m==1) (.lf fKindOfMode ((4:Int),())) (.br (m==2) (.lf fKindOfMode ((3:Int),())) (.br (m==3) (.br (m==3) (.lf fKindOfMode ((2:Int),())) (.lf fKindOfMode ((0:Int),()))) (.br (m==4) (.lf fKindOfMode ((2:Int),())) (.lf fKindOfMode ((0:Int),())))))):=by
 repeat' (guard_target =~ Out.holds _ _;first|refine lfY ?_|refine Ab (fun _=>?_) fun _=>?_)
 all_goals
  try simp only[AA] at *
  try simp only[fKindOfMode,std,Nat.reduceAdd,kindOf] at *
  try simp(disch:=omega) only[wrapId',toNat1] at *
  try simp(disch:=omega) only[Qa2,Qa3]
 all_goals first|trivial|omega|grind[wrapId',toNat1,drop_cons,drop_end,good_len,maxLen,kindOf]
def Alh:=AlO.a fKindOfMode<|Fct.o (KP [0,2,3,8] [4,6]) AlO.2 func241 (by
 rintro⟨(m:Int),_⟩ hp;exact ho _ (q11 m hp))
def AkW:=Alh.a fKindOfMode<|Fct.o (KP [0,2,3,8] [4,6]) Alh.2 func206 (by
 rintro⟨(m:Int),_⟩ hp;exact ho _ (q11 m hp))
def slotRequest (p:SPage) (k:Int):SRequest:=if 0<=k/\k<p.bd.length then⟨kindOf (p.bd.getD k.toNat default).mode,(p.bd.getD k.toNat default).to,p.addr.host,(p.bd.getD k.toNat default).digest⟩ else default
def Aq:Fct:=⟨[.v (.el .page),.v (.el .int)],[.el .request],fun(x_:SPage×Int×Unit)=>x_.1.bd.length<=1000000000000/\-9223372036854775808<=x_.2.1/\x_.2.1<=9223372036854775807,fun(x_:SPage×Int×Unit)=>(slotRequest x_.1 x_.2.1,())⟩
def AiW:=AkW.a Aq<|Fct.o (KP [1,2,4,5] [12]) AkW.2 func154 (by
 rintro⟨(p:SPage),(k:Int),_⟩ hp;refine ho (.cl fInRange (k,(0:Int),wr ((p.bd.length:Int)-(1:Int)),()) fun z2=>.br (!z2.1) (.lf Aq (default,())) (.ob (inB k p.bd.length)<|.cl fKindOfMode ((p.bd.getD (Int.toNat k) default).mode,()) fun(z3:Int×PUnit)=>.lf Aq (⟨z3.1,(p.bd.getD (Int.toNat k) default).to,p.addr.host,(p.bd.getD (Int.toNat k) default).digest⟩,()))) ?_;refine Ae trivial fun _=>(Ab (fun h1=>lfY ?_) (fun h1=>Aa ?_ fun o2=>Ae trivial fun _=>(lfY ?_)))
 all_goals
  try simp only[AA] at *
  try simp only[fInRange,fKindOfMode,Aq,std,Nat.reduceAdd,slotRequest,fKindOfMode,fInRange,inRange] at *
  try simp(disch:=omega) only[wrapId',toNat1] at *
  try simp(disch:=omega) only[Qa2,Qa3]
 all_goals first|trivial|omega|grind[wrapId',toNat1,drop_cons,drop_end,good_len,maxLen,slotRequest,fKindOfMode,fInRange,inRange])
def Ajj:=AiW.a Aq<|Fct.o (KP [1,2,4,5] [14]) AiW.2 func109 (by
 rintro⟨(p:SPage),(k:Int),_⟩ hp;refine ho (.br (decide (k<0)) (.lf Aq (default,())) (.br (decide (k>=(p.bd.length:Int))) (.lf Aq (default,())) (.ob (inB k p.bd.length)<|.cl fKindOfMode ((p.bd.getD (Int.toNat k) default).mode,()) fun(z2:Int×PUnit)=>.lf Aq (⟨z2.1,(p.bd.getD (Int.toNat k) default).to,p.addr.host,(p.bd.getD (Int.toNat k) default).digest⟩,())))) ?_;refine Ab (fun h1=>lfY ?_) (fun h1=>Ab (fun h2=>lfY ?_) (fun h2=>Aa ?_ fun o3=>Ae trivial fun _=>(lfY ?_)));all_goals
  try simp only[AA] at *
  try simp only[fKindOfMode,Aq,std,Nat.reduceAdd,slotRequest,fKindOfMode,fInRange,inRange] at *
  try simp(disch:=omega) only[wrapId',toNat1] at *
  try simp(disch:=omega) only[Qa2,Qa3]
 all_goals first|trivial|omega|grind[wrapId',toNat1,drop_cons,drop_end,good_len,maxLen,slotRequest,fKindOfMode,fInRange,inRange])
def modRequest (p:SPage) (k:Int):SRequest:=if 0<=k/\k<p.bg.length then⟨5,(p.bg.getD k.toNat default).to,p.addr.host,⟨#[]⟩⟩ else default
def AD:Fct:=⟨[.v (.el .page),.v (.el .int)],[.el .request],fun(x_:SPage×Int×Unit)=>x_.1.bg.length<=2000000000000/\-9223372036854775808<=x_.2.1/\x_.2.1<=9223372036854775807,fun(x_:SPage×Int×Unit)=>(modRequest x_.1 x_.2.1,())⟩
def Aiy:=Ajj.a AD<|Fct.o (KP [1,2,4] [11]) Ajj.2 func156 (by
 rintro⟨(p:SPage),(k:Int),_⟩ hp;refine ho (.cl fInRange (k,(0:Int),wr ((p.bg.length:Int)-(1:Int)),()) fun z2=>.br (!z2.1) (.lf AD (default,())) (.ob (inB k p.bg.length)<|.lf AD (⟨(5:Int),(p.bg.getD (Int.toNat k) default).to,p.addr.host,(⟨#[]⟩:ByteArray)⟩,()))) ?_;refine Ae trivial fun _=>(Ab (fun h1=>lfY ?_) (fun h1=>Aa ?_ fun o2=>lfY ?_))
 all_goals
  try simp only[AA] at *
  try simp only[fInRange,AD,std,Nat.reduceAdd,modRequest,fInRange,inRange] at *
  try simp(disch:=omega) only[wrapId',toNat1] at *
  try simp(disch:=omega) only[Qa2,Qa3]
 all_goals first|trivial|omega|grind[wrapId',toNat1,drop_cons,drop_end,good_len,maxLen,modRequest,fInRange,inRange])
def AmK:=Aiy.a AD<|Fct.o (KP [1,2,4] [13]) Aiy.2 func111 (by
 rintro⟨(p:SPage),(k:Int),_⟩ hp;refine ho (.br (decide (k<0)) (.lf AD (default,())) (.br (decide (k>=(p.bg.length:Int))) (.lf AD (default,())) (.ob (inB k p.bg.length)<|.lf AD (⟨(5:Int),(p.bg.getD (Int.toNat k) default).to,p.addr.host,(⟨#[]⟩:ByteArray)⟩,())))) ?_;refine Ab (fun h1=>lfY ?_) (fun h1=>Ab (fun h2=>lfY ?_) (fun h2=>Aa ?_ fun o3=>lfY ?_));all_goals
  try simp only[AA] at *
  try simp only[AD,std,Nat.reduceAdd,modRequest,fInRange,inRange] at *
  try simp(disch:=omega) only[wrapId',toNat1] at *
  try simp(disch:=omega) only[Qa2,Qa3]
 all_goals first|trivial|omega|grind[wrapId',toNat1,drop_cons,drop_end,good_len,maxLen,modRequest,fInRange,inRange])
def addrOf (s b:ByteArray):SAddr:=match Es 47 (toL s) with
 | some (p,q)=>⟨ofL p,ofL q⟩
 | none=>⟨b,s⟩
def parseAddr (s b:ByteArray):SAddr×Bool:=if isName (addrOf s b).host&&isName (addrOf s b).path then(addrOf s b,true) else(default,false)
theorem Ue {s b:ByteArray} {i:Nat} (h:i<s.size) (hb:s.data.getD i 0=47) (hn:47∉(toL s).take i):addrOf s b=⟨s.extract 0 i,s.extract (i+1) s.size⟩:=by
 unfold addrOf;rw[Xc h hb hn];have e1:ofL ((toL s).take i)=s.extract 0 i:=by rw[<-C7 (s.extract 0 i),AY,Qf0]
 have e2:ofL ((toL s).drop (i+1))=s.extract (i+1) s.size:=by rw[<-C7 (s.extract (i+1) s.size),AY,Qb3 (by rw[Bq];exact Qa8 _)]
 simp only[e1,e2]
theorem Us {s b:ByteArray} {i:Nat} (h:s.size<=i) (hn:47∉(toL s).take i):addrOf s b=⟨b,s⟩:=by
 rw[Qb3 (by rw[Bq];exact h)] at hn;unfold addrOf;rw[J5 hn]
theorem Nm {b:UInt8}:∀ {l p q:List UInt8},Es b l=some (p,q)->p.length<=l.length/\q.length<=l.length
 | [],p,q,h=>by cases h
 | x::l,p,q,h=>by
  rw[Es] at h;split at h
  ·simp only[Qa0,Qb4] at h;obtain⟨rfl,rfl⟩:=h;simp
  ·obtain⟨r,hr,he⟩:=Option.map_eq_some_iff.1 h;simp only[Qb4] at he;obtain⟨rfl,rfl⟩:=he;have:=Nm (p:=r.1) (q:=r.2) hr;simp only[Qa6];omega
theorem KM (s b:ByteArray):(addrOf s b).host.size<=s.size+b.size/\(addrOf s b).path.size<=s.size:=by
 unfold addrOf;cases h:Es 47 (toL s) with
 | none=>exact⟨by simp only;omega,Qa8 _⟩
 | some r=>
  have:=Nm (p:=r.1) (q:=r.2) h;rw[Bq] at this;simp only[Fh];omega
theorem U8 (s b:ByteArray):addrOf s b=if(EA 47 s).2.2 then⟨(EA 47 s).1,(EA 47 s).2.1⟩ else⟨b,s⟩:=by
 unfold addrOf EA;cases Es 47 (toL s)<;>rfl
def AF:Fct:=⟨[.v (.el .str),.v (.el .str)],[.el .addr,.el .bool],fun(x_:ByteArray×ByteArray×Unit)=>x_.1.size<=4000000000/\x_.2.1.size<=4000000000,fun(x_:ByteArray×ByteArray×Unit)=>((parseAddr x_.1 x_.2.1).1,(parseAddr x_.1 x_.2.1).2,())⟩
theorem Ada:Go.Proofs.Lays.n145 Tryz.prog laysCmp_r:=by repeat' first|kernel_rfl|constructor|intro _
def AkX:=AmK.a Sc<|AgN fun s sep w h hs=>by obtain⟨m,hm⟩:=KD (zero := #[.int .i64 0]) (t:=3) (g:=laysCmp_r.g 1) h (Qf9 (by kernel_rfl)) (by kernel_rfl) rfl (by kernel_rfl) (by kernel_rfl) Tryz.underlying3;exact Go.Proofs.Any.strings_Cut Ada s sep m w hs hm
theorem AcI {s:ByteArray} {i:Nat}:((s.data.getD i 0).toNat:Int)=47↔s.data.getD i 0=47:=LJ (b:=47) (by omega) (by omega)
abbrev Ce (s:ByteArray) (b:ByteArray):LInv:=⟨[⟨.b,6,true,.el .addr⟩,⟨.s,7,true,.el .int⟩,⟨.b,4,true,.el .addr⟩],fun(z_ x_:SAddr×Int×SAddr×Unit)=>(0<=x_.2.1/\x_.2.1<=s.size/\x_.1=⟨b,s⟩/\47∉(toL s).take x_.2.1.toNat)/\x_.2.2.1=z_.2.2.1,fun(x_:SAddr×Int×SAddr×Unit)=>s.size-x_.2.1.toNat⟩
def Alx:=AkX.a AF<|Fct.p (KP [0,1,4,5,6,7] [14,20,31]) (fun⟨s,b,_⟩=>lv [(3,Ce s b)]) AkX.2 func368 (by
 rintro⟨(s:ByteArray),(b:ByteArray),_⟩ hp;refine ho (lpx (Ce s b) ((⟨b,s⟩:SAddr),((0:Int),(default,()))) fun(y1:SAddr×Int×SAddr×PUnit) bk1=>.br (decide (y1.2.1<(s.size:Int))) (.ob (0<=y1.2.1/\y1.2.1<(s.size:Int))<|.br ((↑(s.data.getD y1.2.1.toNat 0).toNat:Int)==47) (.ob (0<=y1.2.1/\y1.2.1<=(s.size:Int))<|.ob (0<=w1 y1.2.1/\w1 y1.2.1<=(s.size:Int))<|.cl fIsAddr ((⟨s.extract 0 y1.2.1.toNat,s.extract (w1 y1.2.1).toNat s.size⟩:SAddr),()) fun z2=>.br (!z2.1) (.lf AF (default,false,())) (.lf AF (⟨s.extract 0 y1.2.1.toNat,s.extract (w1 y1.2.1).toNat s.size⟩,true,()))) (.ob (Value.string s=Value.string s)<|.ob (Value.string b=Value.string b)<|.ob (bk1 (y1.1,(w1 y1.2.1,(y1.2.2.1,()))))<|.ok)) (.cl fIsAddr (y1.1,()) fun z3=>.br (!z3.1) (.lf AF (default,false,())) (.lf AF (y1.1,true,())))) ?_;refine Aw ?_ fun(y1:SAddr×Int×SAddr×PUnit) i1=>Ab (fun h2=>Aa ?_ fun o3=>Ab (fun h4=>Aa ?_ fun o5=>Aa ?_ fun o6=>Ae ?_ fun o7=>(Ab (fun h8=>lfY ?_) (fun h8=>lfY ?_))) (fun h4=>Aa rfl fun _=>Aa rfl fun _=>Aa ?_ fun o9=>trivial)) (fun h2=>Ae ?_ fun o10=>(Ab (fun h11=>lfY ?_) (fun h11=>lfY ?_)))
 all_goals have hz:=KM s b
 all_goals try (obtain⟨⟨a1,a2,a3,a4⟩,a5⟩:=i1)
 all_goals
  try simp only[AA] at *
  try simp only[Ce,fIsAddr,AF,std,Nat.reduceAdd,parseAddr,fIsAddr,AcI] at *
  try simp(disch:=omega) only[wrapId',toNat1] at *
  try simp(disch:=omega) only[Qa2,Qa3]
 all_goals try (have e:=Ue (b:=b) (show y1.2.1.toNat<s.size by omega) h4 a4;simp only[e] at *)
 all_goals try (have t:=WL (show y1.2.1.toNat<s.size by omega) h4 a4)
 all_goals try (have e:=Us (b:=b) (show s.size<=y1.2.1.toNat by omega) a4;simp only[e] at *)
 all_goals first|trivial|omega|grind[ByteArray.size_extract])
def findAttr (l:List SAttr) (n:ByteArray):Option ByteArray:=(l.find? fun a=>decide (a.name=n)).map (·.value)
def fFindAttr:Fct:=⟨[.v (.sl .attr),.v (.el .str)],[.el .str,.el .bool],fun(x_:(List SAttr)×ByteArray×Unit)=>x_.1.length<=1000000000000,fun(x_:(List SAttr)×ByteArray×Unit)=>((findAttr x_.1 x_.2.1).getD ⟨#[]⟩,(findAttr x_.1 x_.2.1).isSome,())⟩
abbrev CG (l:(List SAttr)) (n:ByteArray):LInv:=⟨[⟨.s,6,true,.el .int⟩],fun _ (x_:Int×Unit)=>0<=x_.1/\x_.1<=l.length/\findAttr (l.drop x_.1.toNat) n=findAttr l n,fun(x_:Int×Unit)=>l.length-x_.1.toNat⟩
def AkG:=Alx.a fFindAttr<|Fct.p (KP [0,1,4,5,6] [10,19]) (fun⟨l,n,_⟩=>lv [(2,CG l n)]) Alx.2 func404 (by
 rintro⟨(l:List SAttr),(n:ByteArray),_⟩ hp;refine ho (lpx (CG l n) ((0:Int),()) fun(y1:Int×PUnit) bk1=>.br (decide (y1.1<(l.length:Int))) (.ob (inB y1.1 l.length)<|.br ((l.getD y1.1.toNat default).name.toList==n.toList) (.ob (inB y1.1 l.length)<|.lf fFindAttr ((l.getD y1.1.toNat default).value,true,())) (.ob (l=l)<|.ob (Value.string n=Value.string n)<|.ob (bk1 (w1 y1.1,()))<|.ok)) (.lf fFindAttr ((⟨#[]⟩:ByteArray),false,()))) ?_;refine Aw ?_ fun(y1:Int×PUnit) i1=>Ab (fun h2=>Aa ?_ fun o3=>Ab (fun h4=>Aa ?_ fun o5=>lfY ?_) (fun h4=>Aa rfl fun _=>Aa rfl fun _=>Aa ?_ fun o6=>trivial)) (fun h2=>lfY ?_)
 all_goals
  try simp only[AA] at *
  try simp only[CG,fFindAttr,std,Nat.reduceAdd,findAttr] at *
  try simp(disch:=omega) only[wrapId',toNat1] at *
  try simp(disch:=omega) only[Qa2,Qa3]
 all_goals first|trivial|omega|grind[wrapId',toNat1,drop_cons,drop_end,good_len,maxLen,findAttr])
def fFindAttr1:Fct:=⟨[.v (.el .attr),.p (.el .str)],[.el .bool],fun(x_:SAttr×ByteArray×Unit)=>True,fun(x_:SAttr×ByteArray×Unit)=>(decide (x_.1.name=x_.2.1),())⟩
def Al8:=AkG.a fFindAttr1<|Fct.o [1,2,3] AkG.2 func417 (by
 rintro⟨(a:SAttr),(n:ByteArray),_⟩ hp;refine ho (.lf fFindAttr1 (a.name.toList==ByteArray.toList n,())) ?_;refine lfY ?_;all_goals
  try simp only[AA] at *
  try simp only[fFindAttr1,std,Nat.reduceAdd] at *
  try simp(disch:=omega) only[wrapId',toNat1] at *
  try simp(disch:=omega) only[Qa2,Qa3]
 all_goals first|trivial|omega|grind[wrapId',toNat1,drop_cons,drop_end,good_len,maxLen])
def AN:Fct:=⟨[aL .attr,.c 417 [.el .str]],[rI],fun x=>x.1.length<=1000000000000000000/\∀ c,fFindAttr1.pre (c,x.2.1),fun x=>(fidx (fun c=>(fFindAttr1.fn (c,x.2.1)).1) x.1 0,())⟩
abbrev Ap (l:(List SAttr)) (u:(ByteArray×Unit)):LInv:=⟨[⟨.s,8,true,.el .int⟩],fun _ (x_:Int×Unit)=>0<=x_.1/\x_.1<=l.length/\fidx (fun c=>(fFindAttr1.fn (c,u)).1) l 0=fidx (fun c=>(fFindAttr1.fn (c,u)).1) (l.drop x_.1.toNat) x_.1,fun(x_:Int×Unit)=>l.length-x_.1.toNat⟩
def AhY:=Al8.a AN<|Fct.p (KP [0,1,4,5,7,8] [9,16]) (fun⟨l,u,_⟩=>lv [(2,Ap l u)]) Al8.2 func416 (by
 rintro⟨(l:List SAttr),(u:ByteArray×PUnit),_⟩ hp;refine ho (lpx (Ap l u) ((0:Int),()) fun(y1:Int×PUnit) bk1=>.br (decide (y1.1<(l.length:Int))) (.ob (inB y1.1 l.length)<|.cl fFindAttr1 (l.getD y1.1.toNat default,u.1,()) fun z2=>.br (z2.1) (.lf AN (y1.1,())) (.ob (l=l)<|.ob (enc Ty.str u.1=enc Ty.str u.1)<|.ob (Value.int IntKind.i64 (l.length:Int)=Value.int IntKind.i64 (l.length:Int))<|.ob (bk1 (w1 y1.1,()))<|.ok)) (.lf AN ((-1:Int),()))) ?_;refine Aw ?_ fun(y1:Int×PUnit) i1=>Ab (fun h2=>Aa ?_ fun o3=>Ae trivial fun _=>(Ab (fun h4=>lfY ?_) (fun h4=>Aa rfl fun _=>Aa rfl fun _=>Aa rfl fun _=>Aa ?_ fun o5=>trivial))) (fun h2=>lfY ?_)
 all_goals
  try simp only[AA] at *
  try simp only[Ap,fFindAttr1,AN,std,Nat.reduceAdd] at *
  try have hp2:=hp.2
  try have hp1:=hp.1
 all_goals first|trivial|omega|grind[wrapId',toNat1,drop_cons,drop_end,good_len,maxLen,fidx])
def Ajp:=AhY.a fFindAttr<|Fct.o (KP [0,3,4,5,6] [11]) AhY.2 func374 (by
 rintro⟨(l:List SAttr),(n:ByteArray),_⟩ hp;refine ho (.cl AN (l,(n,()),()) fun(z2:Int×PUnit)=>.br (decide (z2.1<0)) (.lf fFindAttr ((⟨#[]⟩:ByteArray),false,())) (.ob (0<=z2.1/\z2.1<(↑(List.length l):Int))<|.lf fFindAttr ((List.getD l z2.1.toNat default).value,true,()))) ?_;refine Ae ?_ fun o1=>(Ab (fun h2=>lfY ?_) (fun h2=>Aa ?_ fun o3=>lfY ?_))
 all_goals
  have hf:=Jd (fun a:SAttr=>decide (a.name=n)) l 0 (by omega);have hf2:=Lu (fun a:SAttr=>decide (a.name=n)) l 0 (by omega);try simp only[AA] at *
  try simp only[fFindAttr,AN,std,Nat.reduceAdd,findAttr,fFindAttr1] at *
  try simp(disch:=omega) only[wrapId',toNat1] at *
  try simp(disch:=omega) only[Qa2,Qa3]
 all_goals first|trivial|omega|grind[wrapId',toNat1,drop_cons,drop_end,good_len,maxLen,findAttr,fFindAttr1])
def AiA:=Ajp.a AF<|Fct.o (KP [0,1,4,5,6,7,8,9] [19,25]) Ajp.2 func289 (by
 rintro⟨(s:ByteArray),(b:ByteArray),_⟩ hp;refine ho (.cl Sc (s,(⟨#[47]⟩:ByteArray),()) fun z2=>.br (z2.2.2.1) (.cl fIsAddr ((⟨z2.1,z2.2.1⟩:SAddr),()) fun z3=>.br (!z3.1) (.lf AF (default,false,())) (.lf AF (⟨z2.1,z2.2.1⟩,true,()))) (.cl fIsAddr ((⟨b,s⟩:SAddr),()) fun z4=>.br (!z4.1) (.lf AF (default,false,())) (.lf AF (⟨b,s⟩,true,())))) ?_;repeat' (guard_target =~ Out.holds _ _;first|refine lfY ?_|refine Ab (fun _=>?_) fun _=>?_|refine Ae ?_ fun _=>?_)
 all_goals
  have hz:=KM s b;have hc:=U8 s b;try simp only[AA] at *
  try simp only[Sc,fIsAddr,AF,std,Nat.reduceAdd,parseAddr,fIsAddr,Sc] at *
  try simp only[show(ByteArray.mk #[47]).data.getD 0 0=47 from rfl,show(ByteArray.mk #[47]).size=1 from rfl] at *
 all_goals first|trivial|omega|grind)
theorem BA (l:List SAttr) (n:ByteArray):((findAttr l n).getD ⟨#[]⟩).size<=szL A0 l:=by
 unfold findAttr;cases h:l.find? fun a=>decide (a.name=n) with
 | none=>exact Nat.zero_le _
 | some a=>
  obtain⟨i,hi,he⟩:=List.mem_iff_getElem.1 (List.mem_of_find?_eq_some h);have:=DO A0 (l:=l) (i:=i) hi;rw[Qb1,Qa5 hi,he] at this;simp only[Qb9,Option.getD_some,A0] at *;omega
def Ci:Fct:=⟨[.v (.el .loader)],[.el .loader],fun(x_:SLoader×Unit)=>szNet x_.1.net<=68719476736/\szPage x_.1.page<=1099511627776/\x_.1.parts.length<=1000000000/\x_.1.conns.length<=1048576/\x_.1.guesses.length<=4194304,fun(x_:SLoader×Unit)=>(x_.1,())⟩
def Ai4:=AiA.a Ci<|Fct.o [1,2] AiA.2 func19 (by
 rintro⟨(l:SLoader),_⟩ hp;refine ho (.cl fCopyNet (l.net,()) fun z2=>.cl fCopyPage (l.page,()) fun z3=>.ob (True)<|.ob (BK l.parts.length 16)<|.ob (True)<|.ob (BK l.conns.length 112)<|.ob (True)<|.ob (BK l.guesses.length 104)<|.lf Ci (⟨z2.1,z3.1,l.parts,l.conns,l.guesses⟩,())) ?_;refine Ae ?_ fun o1=>(Ae ?_ fun o2=>(Aa trivial fun _=>Aa ?_ fun o3=>Aa trivial fun _=>Aa ?_ fun o4=>Aa trivial fun _=>Aa ?_ fun o5=>lfY ?_))
 all_goals
  try simp only[AA] at *
  try simp only[Ci,fCopyNet,fCopyPage,std,Nat.reduceAdd,fCopyNet,fCopyPage,fCopyConns,fCopyGuesses] at *
  try simp(disch:=omega) only[wrapId',toNat1] at *
  try simp(disch:=omega) only[Qa2,Qa3]
 all_goals first|trivial|omega|grind[wrapId',toNat1,drop_cons,drop_end,good_len,maxLen,fCopyNet,fCopyPage,fCopyConns,fCopyGuesses])
def AjT:=Ai4.a Ci<|Fct.o [1,2] Ai4.2 func29 (by
 rintro⟨(l:SLoader),_⟩ hp;refine ho (.cl fCopyNet (l.net,()) fun z2=>.cl fCopyPage (l.page,()) fun z3=>.ob (True)<|.ob (BK l.parts.length 16)<|.cl fCopyConns (l.conns,()) fun z4=>.cl fCopyGuesses (l.guesses,()) fun z5=>.lf Ci (⟨z2.1,z3.1,l.parts,z4.1,z5.1⟩,())) ?_;refine Ae ?_ fun o1=>(Ae ?_ fun o2=>(Aa trivial fun _=>Aa ?_ fun o3=>Ae ?_ fun o4=>(Ae ?_ fun o5=>(lfY ?_))))
 all_goals
  try simp only[AA] at *
  try simp only[fCopyConns,fCopyGuesses,Ci,fCopyNet,fCopyPage,std,Nat.reduceAdd,fCopyNet,fCopyPage,fCopyConns,fCopyGuesses] at *
  try simp(disch:=omega) only[wrapId',toNat1] at *
  try simp(disch:=omega) only[Qa2,Qa3]
 all_goals first|trivial|omega|grind[wrapId',toNat1,drop_cons,drop_end,good_len,maxLen,fCopyNet,fCopyPage,fCopyConns,fCopyGuesses])
def tagAttrs:List ByteArray->List SAttr->Option (List SAttr)
 | [],acc=>some acc
 | w::l,acc=>match Es 61 (toL w) with
  | none=>none
  | some r=>if isName (ofL r.1)&&(isValue (ofL r.2)&&(findAttr acc (ofL r.1)).isNone) then tagAttrs l (acc++[⟨ofL r.1,ofL r.2⟩]) else none
def tagFin (n:ByteArray):Option (List SAttr)->SToken×Bool
 | none=>(default,false)
 | some ats=>if isName n=true/\ats.length<=4 then(⟨1,n,ats,⟨#[]⟩⟩,true) else(default,false)
def tagOf (s:ByteArray):SToken×Bool :=
 if 60<s.size then(default,false)
 else if 0<s.size/\s.data.getD 0 0=47 then(if isName (s.extract 1 s.size) then(⟨2,s.extract 1 s.size,[],⟨#[]⟩⟩,true) else(default,false))
 else tagFin ((spl 32 s).getD 0 default) (tagAttrs ((spl 32 s).drop 1) [])
theorem SY {s:ByteArray} (h:s.size<=60) (hn:¬ (0<s.size/\s.data.getD 0 0=47)) (ha:tagAttrs ((spl 32 s).drop 1) []=none):tagOf s=(default,false):=by
 unfold tagOf;rw[Qa3 (by omega),Qa3 hn,ha];rfl
theorem N7 {s:ByteArray} {ats:List SAttr} (h:s.size<=60) (hn:¬ (0<s.size/\s.data.getD 0 0=47)) (ha:tagAttrs ((spl 32 s).drop 1) []=some ats):tagOf s=if isName ((spl 32 s).getD 0 default)=true/\ats.length<=4 then(⟨1,(spl 32 s).getD 0 default,ats,⟨#[]⟩⟩,true) else(default,false):=by
 unfold tagOf;rw[Qa3 (by omega),Qa3 hn,ha];rfl
theorem FB {s:ByteArray}:(60<s.size->tagOf s=(default,false))/\(s.size<=60->0<s.size->s.data.getD 0 0=47->tagOf s=if isName (s.extract 1 s.size) then(⟨2,s.extract 1 s.size,[],⟨#[]⟩⟩,true) else(default,false)):=by
 unfold tagOf;exact⟨fun h=>by rw[Qa2 h],fun h1 h2 h3=>by rw[Qa3 (by omega),Qa2 ⟨h2,h3⟩]⟩
theorem AbB (b:UInt8):∀ l:List UInt8,JG b l=match Es b l with|none=>[l]|some (p,q)=>p::JG b q:=by
 intro l
 induction l with
 | nil=>rfl
 | cons x l ih=>
  rw[D6,Es];by_cases hx:x=b
  ·rw[Qa2 hx,Qa2 hx]
  ·rw[Qa3 hx,Qa3 hx,ih];cases Es b l with
   | none=>rfl
   | some r=>rfl
theorem Gl (b:UInt8) (s:ByteArray):spl b s=match Es b (toL s) with|none=>[s]|some (p,q)=>ofL p::spl b (ofL q):=by
 unfold spl;rw[AbB];cases Es b (toL s) with
 | none=>simp[C7]
 | some r=>simp[Jj]
theorem JV {b:UInt8}:∀ {l p q:List UInt8},Es b l=some (p,q)->b∈l
 | [],p,q,h=>by cases h
 | x::l,p,q,h=>by
  rw[Es] at h;split at h
  ·rename_i e;subst e;exact Qf3
  ·obtain⟨r,hr,_⟩:=Option.map_eq_some_iff.1 h;exact Qd9 _ (JV (p:=r.1) (q:=r.2) hr)
theorem AbF (w:ByteArray):((spl 61 w).length=2/\isName ((spl 61 w).getD 0 default)=true/\isValue ((spl 61 w).getD 1 default)=true)↔∃ r,Es 61 (toL w)=some r/\isName (ofL r.1)=true/\isValue (ofL r.2)=true/\(spl 61 w).getD 0 default=ofL r.1/\(spl 61 w).getD 1 default=ofL r.2:=by
 rw[Gl];cases h:Es 61 (toL w) with
 | none=>simp
 | some r=>
  obtain⟨p,q⟩:=r;simp only[Qa6,Qa0];constructor
  ·rintro⟨h1,h2,h3⟩;have hq:(spl 61 (ofL q))=[ofL q]:=by
    rw[Gl] at h1 ⊢;cases hc:Es 61 (toL (ofL q)) with
    | none=>rfl
    | some r2=>
     rw[hc] at h1;have:=(DE 61 (ofL r2.2)).1;simp only[Qa6] at h1;omega
   rw[hq] at h3 ⊢;exact⟨(p,q),rfl,h2,h3,rfl,rfl⟩
  ·rintro⟨r,rfl,h2,h3,h4,h5⟩;have hq:(spl 61 (ofL q))=[ofL q]:=by
    rw[Gl];cases hc:Es 61 (toL (ofL q)) with
    | none=>rfl
    | some r2=>exact absurd (JV (p:=r2.1) (q:=r2.2) hc) (Nu rfl h3)
   rw[hq];exact⟨rfl,h2,h3⟩
theorem Jo:∀ {l:List ByteArray} {acc ats:List SAttr},tagAttrs l acc=some ats->ats.length=acc.length+l.length
 | [],acc,ats,h=>by simp only[tagAttrs,Qa0] at h;subst h;simp
 | w::l,acc,ats,h=>by
  simp only[tagAttrs] at h;split at h
  ·cases h
  ·split at h
   ·have:=Jo h;simp only[Qa4,Qa6,Qb8] at this ⊢;omega
   ·cases h
theorem KR {l:List ByteArray} {i:Nat} {acc:List SAttr} (h:i<l.length):tagAttrs (l.drop i) acc=(match Es 61 (toL (l.getD i default)) with|none=>none|some r=>if isName (ofL r.1)&&(isValue (ofL r.2)&&(findAttr acc (ofL r.1)).isNone) then tagAttrs (l.drop (i+1)) (acc++[⟨ofL r.1,ofL r.2⟩]) else none):=by rw[drop_cons h];rfl
theorem Gy {l:List ByteArray} {i:Nat} {acc:List SAttr} (h:l.length<=i):tagAttrs (l.drop i) acc=some acc:=by rw[Qb6 h];rfl
def Gm:Fct:=⟨[.v (.el .str)],[.el .token,.el .bool],fun(x_:ByteArray×Unit)=>x_.1.size<=100000000,fun(x_:ByteArray×Unit)=>((tagOf x_.1).1,(tagOf x_.1).2,())⟩
theorem Ahz {s:ByteArray} {i:Nat} {b:Nat} (hb:b<=255):((s.data.getD i 0).toNat:Int)=b↔s.data.getD i 0=UInt8.ofNat b:=LJ (b:=b) (by omega) (by omega)
theorem YN {l:List ByteArray} {i:Nat} {acc:List SAttr} (h:i<l.length):tagAttrs (l.drop i) acc=if(spl 61 (l.getD i default)).length=2/\isName ((spl 61 (l.getD i default)).getD 0 default)=true/\isValue ((spl 61 (l.getD i default)).getD 1 default)=true/\(findAttr acc ((spl 61 (l.getD i default)).getD 0 default)).isSome=false then tagAttrs (l.drop (i+1)) (acc++[⟨(spl 61 (l.getD i default)).getD 0 default,(spl 61 (l.getD i default)).getD 1 default⟩]) else none:=by
 rw[KR h];generalize l.getD i default=w;by_cases hw:(spl 61 w).length=2/\isName ((spl 61 w).getD 0 default)=true/\isValue ((spl 61 w).getD 1 default)=true
 ·obtain⟨r,h1,h2,h3,h4,h5⟩:=(AbF w).1 hw;rw[h1];simp only[h2,h3,h4,h5,hw.1,Bool.true_and,true_and];cases (findAttr acc (ofL r.1))<;>simp
 ·rw[Qa3 (fun hh=>hw ⟨hh.1,hh.2.1,hh.2.2.1⟩)];cases hc:Es 61 (toL w) with
  | none=>rfl
  | some r=>
   simp only;rw[Qa3];intro hh;simp only[Qa1] at hh;refine hw ?_;have hq:spl 61 (ofL r.2)=[ofL r.2]:=by
    rw[Gl];cases hc2:Es 61 (toL (ofL r.2)) with
    | none=>rfl
    | some r2=>exact absurd (JV (p:=r2.1) (q:=r2.2) hc2) (Nu rfl hh.2.1)
   rw[Gl,hc];simp only[hq];exact⟨rfl,hh.1,hh.2.1⟩
abbrev Dx (s:ByteArray):LInv:=⟨[⟨.b,5,true,.el .token⟩,⟨.s,6,true,.el .int⟩,⟨.b,2,true,.el .token⟩,⟨.s,4,true,.sl .str⟩],fun(z_ x_:SToken×Int×SToken×(List ByteArray)×Unit)=>((1<=x_.2.1/\x_.2.1<=(spl 32 s).length/\x_.1.bn.length+1<=x_.2.1/\x_.1=⟨1,(spl 32 s).getD 0 default,x_.1.bn,⟨#[]⟩⟩/\tagAttrs ((spl 32 s).drop x_.2.1.toNat) x_.1.bn=tagAttrs ((spl 32 s).drop 1) [])/\x_.2.2.1=z_.2.2.1)/\x_.2.2.2.1=z_.2.2.2.1,fun(x_:SToken×Int×SToken×(List ByteArray)×Unit)=>(spl 32 s).length-x_.2.1.toNat⟩
def AlS:=AjT.a Gm<|Fct.p (KP [0,2,3,4,5,6,7,9] [12,21,25,39,63,74,97]) (fun⟨s,_⟩=>lv [(10,Dx s)]) AjT.2 func436 (by
 rintro⟨(s:ByteArray),_⟩ hp;refine ho (let q7_:=(s.size:Int);let q5_:=(0:Int)<=(1:Int)/\(1:Int)<=q7_;let q4_:=(⟨#[]⟩:ByteArray);let q1_:Out:=.leaf (.tup [(true,[vi ((0:Int)),vs (q4_),.nl,vs (q4_)]),(false,[vb (false)])]) [] [];let q0_:Out:=.cl CF (s,(32:Int),()) fun z3=>.ob ((0:Int)<=(0:Int)/\(0:Int)<(z3.1.length:Int))<|.ob (0<z3.1.length)<|lpx (Dx s) ((⟨(1:Int),z3.1.getD 0 default,[],q4_⟩:SToken),((1:Int),(default,(z3.1,())))) fun(y12:SToken×Int×SToken×List ByteArray×PUnit) bk12=>.br (decide (y12.2.1<(y12.2.2.2.1.length:Int))) (.ob (inB y12.2.1 y12.2.2.2.1.length)<|.ob (y12.2.1.toNat<y12.2.2.2.1.length)<|.cl CF (y12.2.2.2.1.getD y12.2.1.toNat default,(61:Int),()) fun z4=>let q9_:=0<z4.1.length;let q8_:=(z4.1.length:Int);let q6_:=(⟨z4.1.getD 0 default,z4.1.getD 1 default⟩:SAttr);let q3_:=(0:Int)<=(1:Int)/\(1:Int)<q8_;let q2_:=(0:Int)<=(0:Int)/\(0:Int)<q8_;.br (q8_ != 2) q1_ (.ob q2_<|.ob q9_<|.cl fIsName (z4.1.getD 0 default,()) fun z5=>.br (!z5.1) q1_ (.ob q3_<|.ob (1<z4.1.length)<|.cl fIsValue (z4.1.getD 1 default,()) fun z6=>.br (!z6.1) q1_ (.ob q2_<|.ob q9_<|.cl fFindAttr (y12.1.bn,z4.1.getD 0 default,()) fun z7=>.br (z7.2.1) q1_ (.ob q2_<|.ob q9_<|.ob q3_<|.ob (1<z4.1.length)<|.ob (True)<|.ob (BK (y12.1.bn.length+[q6_].length) 32)<|.ob (Value.string s=Value.string s)<|.ob (bk12 (({y12.1 with bn:=y12.1.bn++[q6_]}:SToken),(w1 y12.2.1,(y12.2.2.1,(y12.2.2.2.1,())))))<|.ok))))) (.cl fIsName (y12.1.name,()) fun z8=>.br (!z8.1) q1_ (.br (decide ((y12.1.bn.length:Int)>4)) q1_ (.lf Gm (y12.1,true,()))));.br (decide (q7_>60)) q1_ (.br (decide (q7_>0)) (.ob ((0:Int)<=(0:Int)/\(0:Int)<q7_)<|.br ((↑(s.data.getD 0 0).toNat:Int)==47) (.ob q5_<|.cl fIsName (s.extract 1 s.size,()) fun z2=>.br (!z2.1) q1_ (.ob q5_<|.leaf (.tup [(true,[vi ((2:Int)),vs (s.extract 1 s.size),.nl,vs (q4_)]),(false,[vb (true)])]) [] [])) q0_) q0_)) ?_;refine Ab (fun h1=>Fct.leafZ (default,false,()) (by repeat' first|exact rfl|exact trivial|refine And.intro ?_ ?_) ?_) (fun h1=>Ab (fun h2=>Aa ?_ fun o3=>Ab (fun h4=>Aa ?_ fun o5=>Ae ?_ fun o6=>(Ab (fun h7=>Fct.leafZ (default,false,()) (by repeat' first|exact rfl|exact trivial|refine And.intro ?_ ?_) ?_) (fun h7=>Aa ?_ fun o8=>Fct.leafZ (⟨(2:Int),s.extract (1:Nat) s.size,[],{ data := #[]:ByteArray }⟩,true,()) (by repeat' first|exact rfl|exact trivial|refine And.intro ?_ ?_) ?_))) (fun h4=>Ae ?_ fun o9=>(Aa ?_ fun o10=>Aa ?_ fun o11=>Aw ?_ fun(y12:SToken×Int×SToken×List ByteArray×PUnit) i12=>Ab (fun h13=>Aa ?_ fun o14=>Aa ?_ fun o15=>Ae ?_ fun o16=>(Ab (fun h17=>Fct.leafZ (default,false,()) (by repeat' first|exact rfl|exact trivial|refine And.intro ?_ ?_) ?_) (fun h17=>Aa ?_ fun o18=>Aa ?_ fun o19=>Ae ?_ fun o20=>(Ab (fun h21=>Fct.leafZ (default,false,()) (by repeat' first|exact rfl|exact trivial|refine And.intro ?_ ?_) ?_) (fun h21=>Aa ?_ fun o22=>Aa ?_ fun o23=>Ae ?_ fun o24=>(Ab (fun h25=>Fct.leafZ (default,false,()) (by repeat' first|exact rfl|exact trivial|refine And.intro ?_ ?_) ?_) (fun h25=>Aa ?_ fun o26=>Aa ?_ fun o27=>Ae ?_ fun o28=>(Ab (fun h29=>Fct.leafZ (default,false,()) (by repeat' first|exact rfl|exact trivial|refine And.intro ?_ ?_) ?_) (fun h29=>Aa ?_ fun o30=>Aa ?_ fun o31=>Aa ?_ fun o32=>Aa ?_ fun o33=>Aa trivial fun _=>Aa ?_ fun o34=>Aa rfl fun _=>Aa ?_ fun o35=>trivial))))))))) (fun h13=>Ae ?_ fun o36=>(Ab (fun h37=>Fct.leafZ (default,false,()) (by repeat' first|exact rfl|exact trivial|refine And.intro ?_ ?_) ?_) (fun h37=>Ab (fun h38=>Fct.leafZ (default,false,()) (by repeat' first|exact rfl|exact trivial|refine And.intro ?_ ?_) ?_) (fun h38=>lfY ?_))))))) (fun h2=>Ae ?_ fun o39=>(Aa ?_ fun o40=>Aa ?_ fun o41=>Aw ?_ fun(y42:SToken×Int×SToken×List ByteArray×PUnit) i42=>Ab (fun h43=>Aa ?_ fun o44=>Aa ?_ fun o45=>Ae ?_ fun o46=>(Ab (fun h47=>Fct.leafZ (default,false,()) (by repeat' first|exact rfl|exact trivial|refine And.intro ?_ ?_) ?_) (fun h47=>Aa ?_ fun o48=>Aa ?_ fun o49=>Ae ?_ fun o50=>(Ab (fun h51=>Fct.leafZ (default,false,()) (by repeat' first|exact rfl|exact trivial|refine And.intro ?_ ?_) ?_) (fun h51=>Aa ?_ fun o52=>Aa ?_ fun o53=>Ae ?_ fun o54=>(Ab (fun h55=>Fct.leafZ (default,false,()) (by repeat' first|exact rfl|exact trivial|refine And.intro ?_ ?_) ?_) (fun h55=>Aa ?_ fun o56=>Aa ?_ fun o57=>Ae ?_ fun o58=>(Ab (fun h59=>Fct.leafZ (default,false,()) (by repeat' first|exact rfl|exact trivial|refine And.intro ?_ ?_) ?_) (fun h59=>Aa ?_ fun o60=>Aa ?_ fun o61=>Aa ?_ fun o62=>Aa ?_ fun o63=>Aa trivial fun _=>Aa ?_ fun o64=>Aa rfl fun _=>Aa ?_ fun o65=>trivial))))))))) (fun h43=>Ae ?_ fun o66=>(Ab (fun h67=>Fct.leafZ (default,false,()) (by repeat' first|exact rfl|exact trivial|refine And.intro ?_ ?_) ?_) (fun h67=>Ab (fun h68=>Fct.leafZ (default,false,()) (by repeat' first|exact rfl|exact trivial|refine And.intro ?_ ?_) ?_) (fun h68=>lfY ?_)))))));all_goals
  try simp only[AA] at *
  try simp only[Dx,fFindAttr,fIsName,fIsValue,CF,Gm,std,Nat.reduceAdd,CF,fIsName,fIsValue,fFindAttr] at *
  try simp only[show UInt8.ofNat (Int.toNat 32)=32 from rfl,show UInt8.ofNat (Int.toNat 61)=61 from rfl,AcI] at *
 all_goals
  have hk:=DE 32 s;have hm:∀ i,i<(spl 32 s).length->((spl 32 s).getD i default).size<=s.size:=fun i h=>Hz (Br h)
  have hx:(s.extract 1 s.size).size<=s.size:=by rw[Qc4];omega
 all_goals try (obtain⟨⟨⟨a1,a2,a3,a4,a5⟩,a6⟩,a7⟩:=i12)
 all_goals try (obtain⟨⟨⟨a1,a2,a3,a4,a5⟩,a6⟩,a7⟩:=i42)
 all_goals try simp only[a7] at *
 all_goals first|trivial|omega|skip
 all_goals try (have hn:¬ (0<s.size/\s.data.getD 0 0=47):=by intro hh;first|(exact absurd hh.2 (by assumption))|omega)
 all_goals
  try have hg:y12.1.name=(spl 32 s).getD 0 default:=Qg8 SToken.name a4
  try have hg:y42.1.name=(spl 32 s).getD 0 default:=Qg8 SToken.name a4
  try have h0:=hm 0 (by omega)
  try have hw:=hm y12.2.1.toNat (by omega)
  try have hw0:=DR 61 ((spl 32 s).getD y12.2.1.toNat default) 0
  try have hw1:=DR 61 ((spl 32 s).getD y12.2.1.toNat default) 1
 all_goals first|(rw[FB.1 (by omega)];exact⟨rfl,rfl⟩)|(rw[FB.2 (by omega) (by omega) (by assumption),Qa3 (by rw[show isName _=false by assumption];decide)];exact⟨rfl,rfl⟩)|(rw[FB.2 (by omega) (by omega) (by assumption),Qa2 (by assumption)];exact⟨rfl,rfl⟩)|(rw[hg];omega)|omega|skip
 all_goals first|exact⟨by omega,by omega,by simp,trivial,rfl⟩|exact⟨by omega,by omega,by omega⟩|skip
 all_goals first|(rw[YN (by omega),Qa3 (by rintro⟨c1,c2,c3,c4⟩;first|omega|exact absurd (c2.symm.trans (show isName _=false by assumption)) (by decide)|exact absurd (c3.symm.trans (show isValue _=false by assumption)) (by decide)|exact absurd (c4.symm.trans (show Option.isSome _=true by assumption)) (by decide))] at a5;rw[SY (by omega) hn a5.symm];exact⟨rfl,rfl⟩)|skip
 all_goals first|(rw[Gy (by omega)] at a5;rw[N7 (by omega) hn a5.symm,Qa3 (by rintro⟨c1,c2⟩;rw[<-hg] at c1;first|omega|exact absurd (c1.symm.trans (show isName _=false by assumption)) (by decide))];exact⟨rfl,rfl⟩)|(rw[Gy (by omega)] at a5;rw[N7 (by omega) hn a5.symm,Qa2 ⟨by rw[<-hg];assumption,by omega⟩];exact⟨a4,rfl⟩)|skip
 all_goals rw[YN (by omega),Qa2 (by exact⟨by omega,by assumption,by assumption,by assumption⟩)] at a5
 all_goals rw[Ah (by omega),toNat1 (by omega)]
 all_goals refine⟨⟨⟨⟨by omega,by omega,by rw[Qa4];simp only[Qa6,Qb8];omega,?_,a5⟩,a6⟩,trivial⟩,by omega⟩
 all_goals rw[a4])
def idxB (b:UInt8) (s:ByteArray):Nat:=(toL s).findIdx fun x=>x==b
theorem Ev (b:UInt8) (s:ByteArray):idxB b s<=s.size:=by
 have:=List.findIdx_le_length (xs:=toL s) (p:=fun x=>x==b);rw[Bq] at this;exact this
theorem ZT {b:UInt8} {s:ByteArray} {i:Nat} (h:i<s.size) (hb:s.data.getD i 0=b) (hn:b∉(toL s).take i):idxB b s=i:=by
 have e:toL s=(toL s).take i++b::(toL s).drop (i+1):=by rw[<-hb,<-G5 h,Qd5]
 have hl:((toL s).take i).length=i:=by rw[Qc1,Bq];omega
 unfold idxB;rw[e,List.findIdx_append,List.findIdx_cons];have h2:((toL s).take i).findIdx (fun x=>x==b)=i:=by
  rw[List.findIdx_eq_length_of_false fun x hx=>by
   have:x≠b:=fun e=>hn (e▸hx)
   simpa using this]
  exact hl
 rw[h2,hl];simp
theorem AbG {b:UInt8} {s:ByteArray} {i:Nat} (h:s.size<=i) (hn:b∉(toL s).take i):idxB b s=s.size:=by
 rw[Qb3 (by rw[Bq];exact h)] at hn;unfold idxB;rw[List.findIdx_eq_length_of_false fun x hx=>by
  have:x≠b:=fun e=>hn (e▸hx)
  simpa using this]
 rfl
def EH:Fct:=⟨[.v (.el .str),.v (.el .u8)],[.el .int],fun(x_:ByteArray×Int×Unit)=>x_.1.size<=1000000000000/\0<=x_.2.1/\x_.2.1<=255,fun(x_:ByteArray×Int×Unit)=>((idxB (UInt8.ofNat x_.2.1.toNat) x_.1:Int),())⟩
abbrev Dd (s:ByteArray) (b:Int):LInv:=⟨[⟨.s,5,true,.el .int⟩],fun _ (x_:Int×Unit)=>0<=x_.1/\x_.1<=s.size/\UInt8.ofNat b.toNat∉(toL s).take x_.1.toNat,fun(x_:Int×Unit)=>s.size-x_.1.toNat⟩
def Al3:=AlS.a EH<|Fct.p (KP [0,1,4,5] [9,16]) (fun⟨s,b,_⟩=>lv [(2,Dd s b)]) AlS.2 func367 (by
 rintro⟨(s:ByteArray),(b:Int),_⟩ hp;refine ho (lpx (Dd s b) ((0:Int),()) fun(y1:Int×PUnit) bk1=>.br (decide (y1.1<(s.size:Int))) (.ob (0<=y1.1/\y1.1<(s.size:Int))<|.br ((↑(s.data.getD y1.1.toNat 0).toNat:Int)==b) (.lf EH (y1.1,())) (.ob (Value.string s=Value.string s)<|.ob (Value.int IntKind.u8 b=Value.int IntKind.u8 b)<|.ob (bk1 (w1 y1.1,()))<|.ok)) (.lf EH ((s.size:Int),()))) ?_;refine Aw ?_ fun(y1:Int×PUnit) i1=>Ab (fun h2=>Aa ?_ fun o3=>Ab (fun h4=>lfY ?_) (fun h4=>Aa rfl fun _=>Aa rfl fun _=>Aa ?_ fun o5=>trivial)) (fun h2=>lfY ?_)
 all_goals obtain⟨hp1,hp2,hp3⟩:=hp
 all_goals try (obtain⟨a1,a2,a3⟩:=i1)
 all_goals
  try simp only[AA] at *
  try simp only[Dd,EH,std,Nat.reduceAdd,LJ hp2 hp3] at *
  try simp(disch:=omega) only[wrapId',toNat1] at *
  try simp(disch:=omega) only[Qa2,Qa3]
 all_goals try (have e:=ZT (show y1.1.toNat<s.size by omega) h4 a3)
 all_goals try (have t:=WL (show y1.1.toNat<s.size by omega) h4 a3)
 all_goals try (have e:=AbG (show s.size<=y1.1.toNat by omega) a3)
 all_goals first|trivial|omega|grind)
def feed:Nat->ByteArray->List SToken×ByteArray
 | 0,x=>([],x)
 | f+1,x=>
  if 0<idxB 60 x/\idxB 60 x<x.size then(⟨3,⟨#[]⟩,[],x.extract 0 (idxB 60 x)⟩::(feed f (x.extract (idxB 60 x) x.size)).1,(feed f (x.extract (idxB 60 x) x.size)).2)
  else if idxB 60 x≠0\/idxB 62 x=x.size then([],x)
  else(if(tagOf (x.extract 1 (idxB 62 x))).2 then(tagOf (x.extract 1 (idxB 62 x))).1::(feed f (x.extract (idxB 62 x+1) x.size)).1 else(feed f (x.extract (idxB 62 x+1) x.size)).1,(feed f (x.extract (idxB 62 x+1) x.size)).2)
theorem H4:∀ (f g:Nat) (x:ByteArray),x.size<f->x.size<g->feed f x=feed g x
 | 0,_,x,h,_=>by omega
 | _,0,x,_,h=>by omega
 | f+1,g+1,x,h1,h2=>by
  have hl:=Ev 62 x;simp only[feed];split
  ·rename_i hc;rw[H4 f g (x.extract (idxB 60 x) x.size) (by rw[Qc4];omega) (by rw[Qc4];omega)]
  ·split
   ·rfl
   ·rename_i hc;rw[H4 f g (x.extract (idxB 62 x+1) x.size) (by rw[Qc4];omega) (by rw[Qc4];omega)]
def feedAll (x:ByteArray):List SToken×ByteArray:=feed (x.size+1) x
theorem Py {x:ByteArray} (h:0<idxB 60 x) (h2:idxB 60 x<x.size):feedAll x=(⟨3,⟨#[]⟩,[],x.extract 0 (idxB 60 x)⟩::(feedAll (x.extract (idxB 60 x) x.size)).1,(feedAll (x.extract (idxB 60 x) x.size)).2):=by
 have e:feed x.size (x.extract (idxB 60 x) x.size)=feedAll (x.extract (idxB 60 x) x.size):=H4 _ _ _ (by rw[Qc4];omega) (by omega);show feed (x.size+1) x=_;rw[feed,Qa2 ⟨h,h2⟩,e]
theorem LN {x:ByteArray} (h:¬ (0<idxB 60 x/\idxB 60 x<x.size)) (h2:idxB 60 x≠0\/idxB 62 x=x.size):feedAll x=([],x):=by
 show feed (x.size+1) x=_;rw[feed,Qa3 h,Qa2 h2]
theorem Sw {x:ByteArray} (h:idxB 60 x=0) (h2:idxB 62 x<x.size):feedAll x=(if(tagOf (x.extract 1 (idxB 62 x))).2 then(tagOf (x.extract 1 (idxB 62 x))).1::(feedAll (x.extract (idxB 62 x+1) x.size)).1 else(feedAll (x.extract (idxB 62 x+1) x.size)).1,(feedAll (x.extract (idxB 62 x+1) x.size)).2):=by
 have e:feed x.size (x.extract (idxB 62 x+1) x.size)=feedAll (x.extract (idxB 62 x+1) x.size):=H4 _ _ _ (by rw[Qc4];omega) (by omega);show feed (x.size+1) x=_;rw[feed,Qa3 (by omega),Qa3 (by omega),e]
theorem Rf {x:ByteArray} (h:idxB 60 x=0) (h2:idxB 62 x<x.size):1<=idxB 62 x:=by
 unfold idxB at *
 have hl:(toL x).length=x.size:=rfl;cases hx:toL x with
 | nil=>rw[hx] at hl;simp only[Qb8] at hl;omega
 | cons c l=>
  rw[hx] at h;have hc:c=60:=by
   rw[List.findIdx_cons] at h;cases hb:(c==60) with
   | true=>simpa using hb
   | false=>rw[hb] at h;simp at h
  subst hc;rw[List.findIdx_cons,show((60:UInt8)==62)=false from rfl];simp
def fFeedText:Fct:=⟨[.v (.el .tokenizer),.v (.el .str)],[.sl .token,.el .tokenizer],fun(x_:STokenizer×ByteArray×Unit)=>x_.1.rest.size<=50000000/\x_.2.1.size<=50000000,fun(x_:STokenizer×ByteArray×Unit)=>((feedAll (x_.1.rest++x_.2.1)).1,⟨(feedAll (x_.1.rest++x_.2.1)).2⟩,())⟩
abbrev BD (t:STokenizer) (s:ByteArray):LInv:=⟨[⟨.s,6,true,.sl .token⟩,⟨.s,7,true,.el .str⟩,⟨.b,5,true,.el .tokenizer⟩],fun(z_ x_:(List SToken)×ByteArray×STokenizer×Unit)=>(x_.1.length+x_.2.1.size<=(t.rest++s).size/\x_.1++(feedAll x_.2.1).1=(feedAll (t.rest++s)).1/\(feedAll x_.2.1).2=(feedAll (t.rest++s)).2)/\x_.2.2.1=z_.2.2.1,fun(x_:(List SToken)×ByteArray×STokenizer×Unit)=>x_.2.1.size⟩
def Aiq:=Al3.a fFeedText<|Fct.p (KP [1,2,4,5,6,7,8,9,10,11] [26,46,57]) (fun⟨t,s,_⟩=>lv [(3,BD t s)]) Al3.2 func400 (by
 rintro⟨(t:STokenizer),(s:ByteArray),_⟩ hp;refine ho (let q3_:=Value.string s=Value.string s;.ob (sameSize t.rest s)<|lpx (BD t s) ([],(t.rest++s,(default,()))) fun(y2:List SToken×ByteArray×STokenizer×PUnit) bk2=>let q4_:Out:=.lf fFeedText (y2.1,⟨y2.2.1⟩,());let q1_:=(y2.2.1.size:Int);.cl EH (y2.2.1,(60:Int),()) fun(z2:Int×PUnit)=>let q6_:=0<=z2.1/\z2.1<=q1_;let q2_:=(⟨(3:Int),(⟨#[]⟩:ByteArray),[],y2.2.1.extract 0 z2.1.toNat⟩:SToken);let q0_:Out:=.cl EH (y2.2.1,(62:Int),()) fun(z3:Int×PUnit)=>let q5_:=0<=w1 z3.1/\w1 z3.1<=q1_;.br (z2.1 != 0) q4_ (.br (z3.1==q1_) q4_ (.ob ((0:Int)<=(1:Int)/\1<=z3.1/\z3.1<=q1_)<|.cl Gm (y2.2.1.extract 1 z3.1.toNat,()) fun z4=>.br (z4.2.1) (.ob (BK (y2.1.length+[z4.1].length) 64)<|.ob q5_<|.ob q3_<|.ob (bk2 (y2.1++[z4.1],(y2.2.1.extract (w1 z3.1).toNat y2.2.1.size,(y2.2.2.1,()))))<|.ok) (.ob q5_<|.ob q3_<|.ob (bk2 (y2.1,(y2.2.1.extract (w1 z3.1).toNat y2.2.1.size,(y2.2.2.1,()))))<|.ok)));.br (decide (z2.1>0)) (.br (decide (z2.1<q1_)) (.ob q6_<|.ob (BK (y2.1.length+[q2_].length) 64)<|.ob q6_<|.ob q3_<|.ob (bk2 (y2.1++[q2_],(y2.2.1.extract z2.1.toNat y2.2.1.size,(y2.2.2.1,()))))<|.ok) q0_) q0_) ?_;repeat' first|(guard_target =~ Out.holds _ _;first|refine Aw (li:=BD t s) ?_ fun(y2:List SToken×ByteArray×STokenizer×PUnit) i2=>?_|refine lfY ?_|refine Ab (fun _=>?_) fun _=>?_|refine Ae ?_ fun _=>?_|refine Aa ?_ fun _=>?_)|exact trivial
 all_goals try (obtain⟨⟨a1,a2,a3⟩,a4⟩:=i2)
 all_goals
  try simp only[AA] at *
  try simp only[BD,fFeedText,EH,Gm,std,Nat.reduceAdd,EH,Gm] at *
  try simp(disch:=omega) only[wrapId',toNat1] at *
  try simp(disch:=omega) only[Qa2,Qa3]
  try simp only[show UInt8.ofNat (Int.toNat 60)=60 from rfl,show UInt8.ofNat (Int.toNat 62)=62 from rfl,Qg6,Qb5] at *
  try have k1:=Ev 60 y2.2.1
  try have k2:=Ev 62 y2.2.1
  try have k3:=Rf (x:=y2.2.1)
  try have k4:∀ a b,(y2.2.1.extract a b).size<=y2.2.1.size:=fun a b=>by rw[Qc4];omega
  try simp(disch:=omega) only[wrapId'] at *
 all_goals first|trivial|omega|(unfold sameSize;omega)|(have:=k4 1 (idxB 62 y2.2.1);omega)|skip
 all_goals first|exact⟨Int.natCast_nonneg _,Int.ofNat_le.2 k1⟩|skip
 all_goals try simp only[Qa7,Qb0] at *
 all_goals first|omega|exact⟨by omega,by omega⟩|exact⟨by omega,by omega,by omega⟩|skip
 all_goals have k5:∀ a,(y2.2.1.extract a y2.2.1.size).size=y2.2.1.size-a:=fun a=>by rw[Qc4];omega
 all_goals first|(rw[LN (x:=y2.2.1) (by omega) (by omega)] at a2 a3;rw[Qd8] at a2;exact⟨a2,by rw[<-a3]⟩)|skip
 all_goals first|rw[Py (x:=y2.2.1) (by omega) (by omega)] at a2 a3|(rw[Sw (x:=y2.2.1) (by omega) (by omega)] at a2 a3;first|rw[Qa2 (by assumption)] at a2|rw[Qa3 (by rw[show Prod.snd _=false by assumption];decide)] at a2)
 all_goals try simp only[Ah (show -9223372036854775808<=((idxB 62 y2.2.1:Nat):Int)+1/\((idxB 62 y2.2.1:Nat):Int)+1<=9223372036854775807 by omega),show(((idxB 62 y2.2.1:Nat):Int)+1).toNat=idxB 62 y2.2.1+1 by omega] at *
 all_goals refine⟨⟨⟨?_,?_,a3⟩,a4⟩,?_⟩
 all_goals first|(rw[k5];simp only[Qa4,Qa6,Qb8];omega)|(rw[k5];omega)|exact a2|(rw[Qb7];exact a2)|skip)
theorem KI {α:Type} [Inhabited α] (f:α->Nat) {l:List α} {i:Nat} (h:i<l.length):szL f (l.drop i)=f (l.getD i default)+1+szL f (l.drop (i+1)):=by rw[drop_cons h,Ax]
theorem Kr {b:UInt8}:∀ {l p q:List UInt8},Es b l=some (p,q)->p.length+q.length+1=l.length
 | [],p,q,h=>by cases h
 | x::l,p,q,h=>by
  rw[Es] at h;split at h
  ·obtain⟨rfl,rfl⟩:[]=p/\l=q:=by simpa using h
   simp
  ·obtain⟨r,hr,he⟩:=Option.map_eq_some_iff.1 h;have:=Kr (p:=r.1) (q:=r.2) hr;obtain⟨rfl,rfl⟩:x::r.1=p/\r.2=q:=by simpa using he
   simp only[Qa6];omega
theorem Lm:∀ {l:List ByteArray} {acc ats:List SAttr},tagAttrs l acc=some ats->szL A0 ats<=szL A0 acc+szL Ac l
 | [],acc,ats,h=>by simp only[tagAttrs,Qa0] at h;subst h;omega
 | w::l,acc,ats,h=>by
  simp only[tagAttrs] at h;split at h
  ·cases h
  ·rename_i r hr;split at h
   ·have h1:=Lm h;have h2:=Kr (p:=r.1) (q:=r.2) hr;rw[Hh] at h1;rw[Ax,Ac];rw[Bq] at h2;simp only[A0,Fh] at h1;omega
   ·cases h
theorem Abt (s:ByteArray):Al (tagOf s).1<=s.size:=by
 have h0:Al default=0:=by decide
 unfold tagOf;split
 ·simp only[h0];omega
 ·split
  ·split
   ·simp only[Al,szL,Qc4,List.map_nil,List.sum_nil,Qb8,show ByteArray.size ⟨#[]⟩=0 from rfl];omega
   ·simp only[h0];omega
  ·have hs:=LQ 32 s;have hp:=(DE 32 s).1;cases ht:tagAttrs ((spl 32 s).drop 1) [] with
   | none=>simp only[tagFin,h0];omega
   | some ats=>
    have h1:=Lm ht;have h2:=KI Ac (l:=spl 32 s) (i:=0) hp;rw[Qf0,Qd4] at h2;have h3:szL A0 []=0:=rfl;simp only[tagFin];simp only[Ac] at h2;split
    ·simp only[Al,show ByteArray.size ⟨#[]⟩=0 from rfl];omega
    ·simp only[h0];omega
theorem Agw {b:UInt8} {x:ByteArray} (h:idxB b x<x.size):idxB b (x.extract (idxB b x) x.size)=0:=by
 have hl:idxB b x<(toL x).length:=h;have hg:=List.findIdx_getElem (w:=hl);unfold idxB at *
 rw[AY,Qb3 (by rw[Bq];exact Qa8 _),List.drop_eq_getElem_cons hl,List.findIdx_cons,hg];rfl
theorem Aai:∀ (f:Nat) (x:ByteArray),szL Al (feed f x).1+(feed f x).2.size<=x.size+(if idxB 60 x=0 then 0 else 1):=by
 intro f
 induction f with
 | zero=>intro x;have:szL Al []=0:=rfl;simp only[feed];omega
 | succ f ih=>
  intro x;have hl:=Ev 62 x;have h3:szL A0 []=0:=rfl;have h4:szL Al []=0:=rfl;simp only[feed];split
  ·rename_i hc;have:=ih (x.extract (idxB 60 x) x.size);have hz:idxB 60 (x.extract (idxB 60 x) x.size)=0:=Agw hc.2;rw[Ax];rw[Qa2 hz] at this;rw[Qa3 (by omega)];simp only[Al,Qc4,show ByteArray.size ⟨#[]⟩=0 from rfl,h3] at *
   omega
  ·split
   ·simp only[h4];split<;>omega
   ·rename_i hc;have:=ih (x.extract (idxB 62 x+1) x.size);have ht:=Abt (x.extract 1 (idxB 62 x));have ho:=Rf (x:=x) (by omega) (by omega);rw[Qc4] at this ht;rw[Qa2 (show idxB 60 x=0 by omega)];have h5:szL Al (feed f (x.extract (idxB 62 x+1) x.size)).1+(feed f (x.extract (idxB 62 x+1) x.size)).2.size<=x.size-(idxB 62 x+1)+1:=by split at this<;>omega
    split
    ·simp only[Ax];omega
    ·dsimp only;omega
def endText (r:ByteArray):List SToken:=if r=⟨#[]⟩\/r.data.getD 0 0=60 then[] else[⟨3,⟨#[]⟩,[],r⟩]
theorem UH (r:ByteArray):szL Al (endText r)<=r.size+1:=by
 unfold endText;have h3:szL A0 []=0:=rfl;have h4:szL Al []=0:=rfl;split
 ·omega
 ·rw[Ax];simp only[Al,h3,h4,show ByteArray.size ⟨#[]⟩=0 from rfl];omega
theorem Agr {s:ByteArray} {i:Nat}:((s.data.getD i 0).toNat:Int)=60↔s.data.getD i 0=60:=Ahz (b:=60) (by omega)
theorem AbD {s:ByteArray} (h:¬ s=⟨#[]⟩):0<s.size:=by
 rcases Nat.eq_zero_or_pos s.size with h0|h0
 ·exact absurd (ByteArray.ext (Array.eq_empty_of_size_eq_zero h0)) h
 ·exact h0
def fEndText:Fct:=⟨[.v (.el .tokenizer)],[.sl .token],fun(x_:STokenizer×Unit)=>x_.1.rest.size<=1000000000000,fun(x_:STokenizer×Unit)=>(endText x_.1.rest,())⟩
theorem q12 (t:STokenizer) (hp:fEndText.pre (t,())):Out.holds (fEndText.ctr (t,())).post (.br (t.rest.toList==(⟨#[]⟩:ByteArray).toList) (.lf fEndText ([],())) (.ob ((0:Int)<=(0:Int)/\(0:Int)<(t.rest.size:Int))<|.br ((↑(t.rest.data.getD 0 0).toNat:Int)==60) (.lf fEndText ([],())) (.lf fEndText ([(⟨(3:Int),(⟨#[]⟩:ByteArray),[],t.rest⟩:SToken)],())))):=by
 refine Ab (fun h1=>lfY ?_) (fun h1=>Aa ?_ fun o2=>Ab (fun h3=>lfY ?_) (fun h3=>lfY ?_));all_goals
  try simp only[AA] at *
  try simp only[fEndText,std,Nat.reduceAdd,endText,Agr] at *
 all_goals have hz:=@AbD t.rest
 all_goals first|trivial|omega|(have:=hz (by assumption);omega)|rw[Qa2 (by first|exact .inl (by assumption)|exact .inr (by assumption))]|rw[Qa3 (by rintro(h|h)<;>contradiction)]
def Ams:=Aiq.a fEndText<|Fct.o (KP [1,2] [11]) Aiq.2 func401 (by
 rintro⟨(t:STokenizer),_⟩ hp;exact ho _ (q12 t hp))
def AlQ:=Ams.a fEndText<|Fct.o (KP [1,2] [11]) Ams.2 func415 (by
 rintro⟨(t:STokenizer),_⟩ hp;exact ho _ (q12 t hp))
theorem RU (r:ByteArray):(endText r).length<=1:=by unfold endText;split<;>simp
theorem dflt_rest:(default:STokenizer).rest=⟨#[]⟩/\(∀ s:ByteArray,(⟨#[]⟩:ByteArray)++s=s)/\ByteArray.size ⟨#[]⟩=0:=⟨rfl,fun s=>ByteArray.ext (by simp),rfl⟩
def tokensOf (s:ByteArray):List SToken:=(feedAll s).1++endText (feedAll s).2
theorem MJ (x:ByteArray):szL Al (feedAll x).1+(feedAll x).2.size<=x.size+1:=by
 have:=Aai (x.size+1) x;unfold feedAll;split at this<;>omega
theorem RJ (x:ByteArray):(feedAll x).1.length+(feedAll x).2.size<=x.size+1:=by
 have:=MJ x;have:=Ad Al (feedAll x).1;omega
def Du:Fct:=⟨[.v (.el .str)],[.sl .token],fun(x_:ByteArray×Unit)=>x_.1.size<=10000000,fun(x_:ByteArray×Unit)=>(tokensOf x_.1,())⟩
theorem q13 (s:ByteArray) (hp:Du.pre (s,())):Out.holds (Du.ctr (s,())).post (.cl fFeedText (default,s,()) fun z2=>.cl fEndText (z2.2.1,()) fun z3=>.ob (BK (z2.1.length+z3.1.length) 64)<|.lf Du (z2.1++z3.1,())):=by
 refine Ae ?_ fun o1=>(Ae ?_ fun o2=>(Aa ?_ fun o3=>lfY ?_))
 all_goals
  have hz:=RJ s;have he:=RU (feedAll s).2;try simp only[AA] at *
  try simp only[fEndText,fFeedText,Du,std,Nat.reduceAdd,tokensOf,fFeedText,fEndText,dflt_rest] at *
  try simp(disch:=omega) only[wrapId',toNat1] at *
  try simp(disch:=omega) only[Qa2,Qa3]
 all_goals first|trivial|omega|grind[wrapId',toNat1,drop_cons,drop_end,good_len,maxLen,tokensOf,fFeedText,fEndText,dflt_rest]
def Ai1:=AlQ.a Du<|Fct.o [0,2,3,4] AlQ.2 func356 (by
 rintro⟨(s:ByteArray),_⟩ hp;exact ho _ (q13 s hp))
def stylesReady (l:List SSlot):Bool:=l.all fun s=>!(decide (s.mode=2) && !s.done)
theorem styles_at {l:List SSlot} {i:Nat} (h:i<l.length):stylesReady (l.drop i)=(!(decide ((l.getD i default).mode=2) && !(l.getD i default).done)&&stylesReady (l.drop (i+1))):=by rw[drop_cons h];rfl
theorem styles_end {l:List SSlot} {i:Nat} (h:l.length<=i):stylesReady (l.drop i)=true:=by rw[Qb6 h];rfl
def Az:Fct:=⟨[.v (.el .page)],[.el .bool],fun(x_:SPage×Unit)=>x_.1.bd.length<=1000000000000,fun(x_:SPage×Unit)=>(stylesReady x_.1.bd,())⟩
abbrev Bx (p:SPage):LInv:=⟨[⟨.s,3,true,.el .int⟩,⟨.b,1,false,.el .page⟩],fun(z_ x_:Int×SPage×Unit)=>(0<=x_.1/\x_.1<=p.bd.length/\stylesReady (p.bd.drop x_.1.toNat)=stylesReady p.bd)/\x_.2.1=z_.2.1,fun(x_:Int×SPage×Unit)=>p.bd.length-x_.1.toNat⟩
def AlG:=Ai1.a Az<|Fct.p (KP [1,2,3] [8,26]) (fun⟨p,_⟩=>lv [(2,Bx p)]) Ai1.2 func303 (by
 rintro⟨(p:SPage),_⟩ hp;refine ho (lpx (Bx p) ((0:Int),(p,())) fun(y1:Int×SPage×PUnit) bk1=>.br (decide (y1.1<(y1.2.1.bd.length:Int))) (.ob (inB y1.1 y1.2.1.bd.length)<|.br ((y1.2.1.bd.getD y1.1.toNat default).mode==2) (.ob (inB y1.1 y1.2.1.bd.length)<|.br (!(y1.2.1.bd.getD y1.1.toNat default).done) (.lf Az (false,())) (.ob (bk1 (w1 y1.1,(y1.2.1,())))<|.ok)) (.ob (bk1 (w1 y1.1,(y1.2.1,())))<|.ok)) (.lf Az (true,()))) ?_;refine Aw ?_ fun(y1:Int×SPage×PUnit) i1=>Ab (fun h2=>Aa ?_ fun o3=>Ab (fun h4=>Aa ?_ fun o5=>Ab (fun h6=>lfY ?_) (fun h6=>Aa ?_ fun o7=>trivial)) (fun h4=>Aa ?_ fun o8=>trivial)) (fun h2=>lfY ?_)
 all_goals
  try simp only[AA] at *
  try simp only[Bx,Az,std,Nat.reduceAdd,styles_at,styles_end] at *
  try simp(disch:=omega) only[wrapId',toNat1] at *
  try simp(disch:=omega) only[Qa2,Qa3]
 all_goals first|trivial|omega|grind[wrapId',toNat1,drop_cons,drop_end,good_len,maxLen,styles_at,styles_end])
abbrev BE (p:SPage):LInv:=⟨[⟨.s,8,true,.el .int⟩],fun _ (x_:Int×Unit)=>0<=x_.1/\x_.1<=p.bd.length/\stylesReady (p.bd.drop x_.1.toNat)=stylesReady p.bd,fun(x_:Int×Unit)=>p.bd.length-x_.1.toNat⟩
def Ajm:=AlG.a Az<|Fct.p (KP [1,2,4,6,7,8] [9,19]) (fun⟨p,_⟩=>lv [(2,BE p)]) AlG.2 func273 (by
 rintro⟨(p:SPage),_⟩ hp;refine ho (let q1_:=(p.bd.length:Int);lpx (BE p) ((0:Int),()) fun(y1:Int×PUnit) bk1=>let q2_:=p.bd.getD y1.1.toNat default;let q0_:Out:=.ob (p.bd=p.bd)<|.ob (Value.int IntKind.i64 q1_=Value.int IntKind.i64 q1_)<|.ob (bk1 (w1 y1.1,()))<|.ok;.br (decide (y1.1<q1_)) (.ob (inB y1.1 p.bd.length)<|.br (q2_.mode==2) (.br (!q2_.done) (.lf Az (false,())) q0_) q0_) (.lf Az (true,()))) ?_;refine Aw ?_ fun(y1:Int×PUnit) i1=>Ab (fun h2=>Aa ?_ fun o3=>Ab (fun h4=>Ab (fun h5=>lfY ?_) (fun h5=>Aa rfl fun _=>Aa rfl fun _=>Aa ?_ fun o6=>trivial)) (fun h4=>Aa rfl fun _=>Aa rfl fun _=>Aa ?_ fun o7=>trivial)) (fun h2=>lfY ?_)
 all_goals
  try simp only[AA] at *
  try simp only[BE,Az,std,Nat.reduceAdd,styles_at,styles_end] at *
  try simp(disch:=omega) only[wrapId',toNat1] at *
  try simp(disch:=omega) only[Qa2,Qa3]
 all_goals first|trivial|omega|grind[wrapId',toNat1,drop_cons,drop_end,good_len,maxLen,styles_at,styles_end])
def textOf (n:Int):List SNode->ByteArray->ByteArray
 | [],s=>s
 | x::l,s=>textOf n l (if x.parent=n/\x.name=⟨#[]⟩ then s++x.text else s)
theorem textOf_at {n:Int} {l:List SNode} {i:Nat} {s:ByteArray} (h:i<l.length):textOf n (l.drop i) s=textOf n (l.drop (i+1)) (if(l.getD i default).parent=n/\(l.getD i default).name=⟨#[]⟩ then s++(l.getD i default).text else s):=by rw[drop_cons h];rfl
theorem textOf_end {n:Int} {l:List SNode} {i:Nat} {s:ByteArray} (h:l.length<=i):textOf n (l.drop i) s=s:=by rw[Qb6 h];rfl
def Ew:Fct:=⟨[.v (.el .ba),.v (.el .int)],[.el .str],fun(x_:SBuilder×Int×Unit)=>szBuilder x_.1<=1000000000000,fun(x_:SBuilder×Int×Unit)=>(textOf x_.2.1 x_.1.bh ⟨#[]⟩,())⟩
abbrev Cx (b:SBuilder) (n:Int):LInv:=⟨[⟨.s,5,true,.el .str⟩,⟨.s,6,true,.el .int⟩,⟨.b,2,false,.el .ba⟩],fun(z_ x_:ByteArray×Int×SBuilder×Unit)=>(0<=x_.2.1/\x_.2.1<=b.bh.length/\x_.1.size+szL szNode (b.bh.drop x_.2.1.toNat)<=szL szNode b.bh/\textOf n (b.bh.drop x_.2.1.toNat) x_.1=textOf n b.bh ⟨#[]⟩)/\x_.2.2.1=z_.2.2.1,fun(x_:ByteArray×Int×SBuilder×Unit)=>b.bh.length-x_.2.1.toNat⟩
def Aiw:=Ajm.a Ew<|Fct.p (KP [1,2,4,5,6] [11,30]) (fun⟨b,n,_⟩=>lv [(3,Cx b n)]) Ajm.2 func305 (by
 rintro⟨(b:SBuilder),(n:Int),_⟩ hp;refine ho (let q4_:=Value.int IntKind.i64 n=Value.int IntKind.i64 n;let q2_:=(⟨#[]⟩:ByteArray);let q5_:=Value.string q2_=Value.string q2_;lpx (Cx b n) (q2_,((0:Int),(b,()))) fun(y1:ByteArray×Int×SBuilder×PUnit) bk1=>let q3_:=inB y1.2.1 y1.2.2.1.bh.length;let q1_:=y1.2.2.1.bh.getD y1.2.1.toNat default;let q0_:Out:=.ob q4_<|.ob q5_<|.ob (bk1 (y1.1,(w1 y1.2.1,(y1.2.2.1,()))))<|.ok;.br (decide (y1.2.1<(y1.2.2.1.bh.length:Int))) (.ob q3_<|.br (q1_.parent==n) (.ob q3_<|.br (q1_.name.toList==q2_.toList) (.ob q3_<|.ob (sameSize y1.1 q1_.text)<|.ob q4_<|.ob q5_<|.ob (bk1 (y1.1++q1_.text,(w1 y1.2.1,(y1.2.2.1,()))))<|.ok) q0_) q0_) (.lf Ew (y1.1,()))) ?_;repeat' first|(guard_target =~ Out.holds _ _;first|refine Aw (li:=Cx b n) ?_ fun(y1:ByteArray×Int×SBuilder×PUnit) i1=>?_|refine lfY ?_|refine Ab (fun _=>?_) fun _=>?_|refine Aa ?_ fun _=>?_)|exact trivial
 all_goals
  have hl:=Ad szNode b.bh;have hb:szL szNode b.bh<=szBuilder b:=by simp only[szBuilder];omega
  have hx:∀ i,i<b.bh.length->szL szNode (b.bh.drop i)=szNode (b.bh.getD i default)+1+szL szNode (b.bh.drop (i+1)):=fun i h=>KI szNode h
  try simp only[AA] at *
  try simp only[Cx,Ew,std,Nat.reduceAdd,textOf_at,textOf_end,sameSize,Qb5,szNode] at *
  try simp(disch:=omega) only[wrapId',toNat1] at *
  try simp(disch:=omega) only[Qa2,Qa3]
 all_goals first|trivial|omega|grind[wrapId',toNat1,drop_cons,drop_end,good_len,maxLen,textOf_at,textOf_end,sameSize,ByteArray.size_append,szNode])
abbrev Ct (b:SBuilder) (n:Int):LInv:=⟨[⟨.s,5,true,.el .str⟩,⟨.s,11,true,.el .int⟩],fun _ (x_:ByteArray×Int×Unit)=>0<=x_.2.1/\x_.2.1<=b.bh.length/\x_.1.size+szL szNode (b.bh.drop x_.2.1.toNat)<=szL szNode b.bh/\textOf n (b.bh.drop x_.2.1.toNat) x_.1=textOf n b.bh ⟨#[]⟩,fun(x_:ByteArray×Int×Unit)=>b.bh.length-x_.2.1.toNat⟩
def Amo:=Aiw.a Ew<|Fct.p (KP [1,2,4,5,7,9,10,11] [12,23]) (fun⟨b,n,_⟩=>lv [(3,Ct b n)]) Aiw.2 func275 (by
 rintro⟨(b:SBuilder),(n:Int),_⟩ hp;refine ho (let q5_:=(b.bh.length:Int);let q4_:=Value.int IntKind.i64 n=Value.int IntKind.i64 n;let q2_:=Value.int IntKind.i64 q5_=Value.int IntKind.i64 q5_;let q1_:=(⟨#[]⟩:ByteArray);let q6_:=Value.string q1_=Value.string q1_;lpx (Ct b n) (q1_,((0:Int),())) fun(y1:ByteArray×Int×PUnit) bk1=>let q3_:=b.bh.getD y1.2.1.toNat default;let q0_:Out:=.ob q4_<|.ob q6_<|.ob (b.bh=b.bh)<|.ob q2_<|.ob (bk1 (y1.1,(w1 y1.2.1,())))<|.ok;.br (decide (y1.2.1<q5_)) (.ob (inB y1.2.1 b.bh.length)<|.br (q3_.parent==n) (.br (q3_.name.toList==q1_.toList) (.ob (sameSize y1.1 q3_.text)<|.ob q4_<|.ob q6_<|.ob (b.bh=b.bh)<|.ob q2_<|.ob (bk1 (y1.1++q3_.text,(w1 y1.2.1,())))<|.ok) q0_) q0_) (.lf Ew (y1.1,()))) ?_;repeat' first|(guard_target =~ Out.holds _ _;first|refine Aw (li:=Ct b n) ?_ fun(y1:ByteArray×Int×PUnit) i1=>?_|refine lfY ?_|refine Ab (fun _=>?_) fun _=>?_|refine Aa ?_ fun _=>?_)|exact trivial
 all_goals
  have hl:=Ad szNode b.bh;have hb:szL szNode b.bh<=szBuilder b:=by simp only[szBuilder];omega
  have hx:∀ i,i<b.bh.length->szL szNode (b.bh.drop i)=szNode (b.bh.getD i default)+1+szL szNode (b.bh.drop (i+1)):=fun i h=>KI szNode h
  try simp only[AA] at *
  try simp only[Ct,Ew,std,Nat.reduceAdd,textOf_at,textOf_end,sameSize,Qb5,szNode] at *
  try simp(disch:=omega) only[wrapId',toNat1] at *
  try simp(disch:=omega) only[Qa2,Qa3]
 all_goals first|trivial|omega|grind[wrapId',toNat1,drop_cons,drop_end,good_len,maxLen,textOf_at,textOf_end,sameSize,ByteArray.size_append,szNode])
def countName (n:ByteArray) (l:List SNode):Int:=countIf (fun x=>decide (x.name=n)) l
def fCountName:Fct:=⟨[.v (.el .ba),.v (.el .str)],[.el .int],fun(x_:SBuilder×ByteArray×Unit)=>x_.1.bh.length<=1000000000000,fun(x_:SBuilder×ByteArray×Unit)=>(countName x_.2.1 x_.1.bh,())⟩
abbrev Cj (b:SBuilder) (n:ByteArray):LInv:=⟨[⟨.s,5,true,.el .int⟩,⟨.s,6,true,.el .int⟩,⟨.b,2,false,.el .ba⟩],fun(z_ x_:Int×Int×SBuilder×Unit)=>(0<=x_.2.1/\x_.2.1<=b.bh.length/\0<=x_.1/\x_.1<=x_.2.1/\x_.1+countIf (fun x=>decide (x.name=n)) (b.bh.drop x_.2.1.toNat)=countName n b.bh)/\x_.2.2.1=z_.2.2.1,fun(x_:Int×Int×SBuilder×Unit)=>b.bh.length-x_.2.1.toNat⟩
def Amf:=Amo.a fCountName<|Fct.p (KP [1,2,4,5,6] [11,21]) (fun⟨b,n,_⟩=>lv [(3,Cj b n)]) Amo.2 func433 (by
 rintro⟨(b:SBuilder),(n:ByteArray),_⟩ hp;refine ho (lpx (Cj b n) ((0:Int),((0:Int),(b,()))) fun(y1:Int×Int×SBuilder×PUnit) bk1=>.br (decide (y1.2.1<(y1.2.2.1.bh.length:Int))) (.ob (inB y1.2.1 y1.2.2.1.bh.length)<|.br ((y1.2.2.1.bh.getD y1.2.1.toNat default).name.toList==n.toList) (.ob (Value.string n=Value.string n)<|.ob (Value.int IntKind.i64 0=Value.int IntKind.i64 (0:Int))<|.ob (bk1 (w1 y1.1,(w1 y1.2.1,(y1.2.2.1,()))))<|.ok) (.ob (Value.string n=Value.string n)<|.ob (Value.int IntKind.i64 0=Value.int IntKind.i64 (0:Int))<|.ob (bk1 (y1.1,(w1 y1.2.1,(y1.2.2.1,()))))<|.ok)) (.lf fCountName (y1.1,()))) ?_;refine Aw ?_ fun(y1:Int×Int×SBuilder×PUnit) i1=>Ab (fun h2=>Aa ?_ fun o3=>Ab (fun h4=>Aa rfl fun _=>Aa rfl fun _=>Aa ?_ fun o5=>trivial) (fun h4=>Aa rfl fun _=>Aa rfl fun _=>Aa ?_ fun o6=>trivial)) (fun h2=>lfY ?_)
 all_goals
  try simp only[AA] at *
  try simp only[Cj,fCountName,std,Nat.reduceAdd,countName,countIf,countIf_le] at *
  try simp(disch:=omega) only[wrapId',toNat1] at *
  try simp(disch:=omega) only[Qa2,Qa3]
 all_goals first|trivial|omega|grind[wrapId',toNat1,drop_cons,drop_end,good_len,maxLen,countName,countIf,countIf_le])
abbrev Bh (b:SBuilder) (n:ByteArray):LInv:=⟨[⟨.s,5,true,.el .int⟩,⟨.s,11,true,.el .int⟩],fun _ (x_:Int×Int×Unit)=>0<=x_.2.1/\x_.2.1<=b.bh.length/\0<=x_.1/\x_.1<=x_.2.1/\x_.1+countIf (fun x=>decide (x.name=n)) (b.bh.drop x_.2.1.toNat)=countName n b.bh,fun(x_:Int×Int×Unit)=>b.bh.length-x_.2.1.toNat⟩
def Ah7:=Amf.a fCountName<|Fct.p (KP [1,2,4,5,7,9,10,11] [12,18]) (fun⟨b,n,_⟩=>lv [(3,Bh b n)]) Amf.2 func439 (by
 rintro⟨(b:SBuilder),(n:ByteArray),_⟩ hp;refine ho (let q3_:=Value.string n=Value.string n;let q2_:=(b.bh.length:Int);let q1_:=Value.int IntKind.i64 0=Value.int IntKind.i64 (0:Int);let q0_:=Value.int IntKind.i64 q2_=Value.int IntKind.i64 q2_;lpx (Bh b n) ((0:Int),((0:Int),())) fun(y1:Int×Int×PUnit) bk1=>.br (decide (y1.2.1<q2_)) (.ob (inB y1.2.1 b.bh.length)<|.br ((b.bh.getD y1.2.1.toNat default).name.toList==n.toList) (.ob q3_<|.ob q1_<|.ob (b.bh=b.bh)<|.ob q0_<|.ob (bk1 (w1 y1.1,(w1 y1.2.1,())))<|.ok) (.ob q3_<|.ob q1_<|.ob (b.bh=b.bh)<|.ob q0_<|.ob (bk1 (y1.1,(w1 y1.2.1,())))<|.ok)) (.lf fCountName (y1.1,()))) ?_;repeat' first|(guard_target =~ Out.holds _ _;first|refine Aw (li:=Bh b n) ?_ fun(y1:Int×Int×PUnit) i1=>?_|refine lfY ?_|refine Ab (fun _=>?_) fun _=>?_|refine Aa ?_ fun _=>?_)|exact trivial
 all_goals
  try simp only[AA] at *
  try simp only[Bh,fCountName,std,Nat.reduceAdd,countName,countIf,countIf_le] at *
  try simp(disch:=omega) only[wrapId',toNat1] at *
  try simp(disch:=omega) only[Qa2,Qa3]
 all_goals first|trivial|omega|grind[wrapId',toNat1,drop_cons,drop_end,good_len,maxLen,countName,countIf,countIf_le])
def colR (n:ByteArray) (rs:List SRule) (z:Int):Nat->Int
 | 0=>z
 | m+1=>if(rs.getD m default).name=n then(rs.getD m default).color else colR n rs z m
def colS (n:ByteArray) (l:List SSheet):Nat->Int
 | 0=>0
 | m+1=>colR n (l.getD m default).rules (colS n l m) (l.getD m default).rules.length
def colorOf (l:List SSheet) (n:ByteArray):Int:=colS n l l.length
theorem NM {n:ByteArray} {rs:List SRule} {z k:Int} (h:0<=k):colR n rs z (k+1).toNat=if(rs.getD k.toNat default).name=n then(rs.getD k.toNat default).color else colR n rs z k.toNat:=by
 rw[show(k+1).toNat=k.toNat+1 by omega];rfl
theorem NO {n:ByteArray} {l:List SSheet} {k:Int} (h:0<=k):colS n l (k+1).toNat=colR n (l.getD k.toNat default).rules (colS n l k.toNat) (l.getD k.toNat default).rules.length:=by
 rw[show(k+1).toNat=k.toNat+1 by omega];rfl
theorem Tn {n:ByteArray} {rs:List SRule} {z k:Int} (h:k<0):colR n rs z (k+1).toNat=z:=by
 rw[show(k+1).toNat=0 by omega];rfl
theorem SU {n:ByteArray} {l:List SSheet} {k:Int} (h:k<0):colS n l (k+1).toNat=0:=by
 rw[show(k+1).toNat=0 by omega];rfl
theorem SP {n:ByteArray} {l:List SSheet}:colS n l ((l.length:Int)-1+1).toNat=colorOf l n:=by
 rw[show((l.length:Int)-1+1).toNat=l.length by omega];rfl
theorem JP {n:ByteArray} {rs:List SRule} {z:Int}:colR n rs z ((rs.length:Int)-1+1).toNat=colR n rs z rs.length:=by
 rw[show((rs.length:Int)-1+1).toNat=rs.length by omega]
def fColorOf:Fct:=⟨[.v (.sl .sheet),.v (.el .str)],[.el .int],fun(x_:(List SSheet)×ByteArray×Unit)=>szL Dl x_.1<=1000000000000,fun(x_:(List SSheet)×ByteArray×Unit)=>(colorOf x_.1 x_.2.1,())⟩
abbrev C5 (l:(List SSheet)) (n:ByteArray):LInv:=⟨[⟨.s,5,true,.el .int⟩],fun _ (x_:Int×Unit)=>-1<=x_.1/\x_.1<l.length/\colS n l (x_.1+1).toNat=colorOf l n,fun(x_:Int×Unit)=>(x_.1+1).toNat⟩
abbrev CY (l:(List SSheet)) (n:ByteArray):LInv:=⟨[⟨.s,6,true,.el .int⟩,⟨.s,5,true,.el .int⟩],fun(z_ x_:Int×Int×Unit)=>x_.2.1=z_.2.1/\0<=x_.2.1/\x_.2.1<l.length/\-1<=x_.1/\x_.1<(l.getD x_.2.1.toNat default).rules.length/\colR n (l.getD x_.2.1.toNat default).rules (colS n l x_.2.1.toNat) (x_.1+1).toNat=colorOf l n,fun(x_:Int×Int×Unit)=>(x_.1+1).toNat⟩
def Amr:=Ah7.a fColorOf<|Fct.p (KP [0,1,4,5,6] [11,22,35]) (fun⟨l,n,_⟩=>fun|2=>some (C5 l n)|5=>some (CY l n)|_=>none) Ah7.2 func434 (by
 rintro⟨(l:List SSheet),(n:ByteArray),_⟩ hp;refine ho (let q3_:=Value.string n=Value.string n;lpx (C5 l n) (wr ((l.length:Int)-(1:Int)),()) fun(y1:Int×PUnit) bk1=>.br (decide (y1.1>=0)) (.ob (inB y1.1 l.length)<|lpx (CY l n) (wr ((↑(l.getD y1.1.toNat default).rules.length:Int)-(1:Int)),(y1.1,())) fun(y4:Int×Int×PUnit) bk4=>let q4_:=inB y4.2.1 l.length;let q0_:=l.getD y4.2.1.toNat default;let q2_:=q0_.rules.getD y4.1.toNat default;let q1_:=0<=y4.1/\y4.1<(q0_.rules.length:Int);.br (decide (y4.1>=0)) (.ob q4_<|.ob q1_<|.br (q2_.name.toList==n.toList) (.ob q4_<|.ob q1_<|.lf fColorOf (q2_.color,())) (.ob (l=l)<|.ob q3_<|.ob (bk4 (wr (y4.1-(1:Int)),(y4.2.1,())))<|.ok)) (.ob (l=l)<|.ob q3_<|.ob (bk1 (wr (y4.2.1-(1:Int)),()))<|.ok)) (.lf fColorOf ((0:Int),()))) ?_;refine Aw ?_ fun(y1:Int×PUnit) i1=>Ab (fun h2=>Aa ?_ fun o3=>Aw ?_ fun(y4:Int×Int×PUnit) i4=>Ab (fun h5=>Aa ?_ fun o6=>Aa ?_ fun o7=>Ab (fun h8=>Aa ?_ fun o9=>Aa ?_ fun o10=>lfY ?_) (fun h8=>Aa rfl fun _=>Aa rfl fun _=>Aa ?_ fun o11=>trivial)) (fun h5=>Aa rfl fun _=>Aa rfl fun _=>Aa ?_ fun o12=>trivial)) (fun h2=>lfY ?_)
 all_goals
  have hl:=Ad Dl l;have hx:∀ i,i<l.length->(l.getD i default).rules.length<=1000000000000:=fun i h=>by have:=DO Dl (l:=l) h;have h2:=Ad KT (l.getD i default).rules;have h3:szL Dl l<=1000000000000:=hp;simp only[Dl] at this;omega
  try simp only[AA] at *
  try simp only[C5,CY,fColorOf,std,Nat.reduceAdd] at *
 all_goals first|trivial|omega|(rw[Ah (by omega)];exact⟨by omega,by omega,SP⟩)|(obtain⟨a1,a2,a3⟩:=i1)
 all_goals first|trivial|omega|(have:=hx y1.1.toNat (by omega);rw[Ah (by omega)];first|exact⟨by omega,by omega,by omega,by omega,by omega,by rw[JP,<-NO (by omega)];exact a3⟩|exact⟨by omega,by omega,by omega,by omega,by rw[JP,<-NO (by omega)];exact a3⟩)|(rw[SU (by omega)] at a3;exact a3)|(obtain⟨b0,b1,b2,b3,b4,b5⟩:=i4)
 all_goals first|(have:=hx y4.2.1.toNat (by omega))|skip
 all_goals first|(rw[NM (by omega),Qa2 (by assumption)] at b5;exact b5)|(rw[NM (by omega),Qa3 (by assumption)] at b5;rw[Ah (by omega),show(y4.1-1+1).toNat=y4.1.toNat by omega];exact⟨⟨by omega,by omega,by omega,by omega,by omega,b5⟩,by omega⟩)|(rw[Tn (by omega)] at b5;rw[Ah (by omega),show(y4.2.1-1+1).toNat=y4.2.1.toNat by omega];exact⟨⟨by omega,by omega,b5⟩,by omega⟩)|omega|skip)
abbrev C2 (l:(List SSheet)) (n:ByteArray):LInv:=⟨[⟨.s,5,true,.el .int⟩],fun _ (x_:Int×Unit)=>-1<=x_.1/\x_.1<l.length/\colS n l (x_.1+1).toNat=colorOf l n,fun(x_:Int×Unit)=>(x_.1+1).toNat⟩
abbrev C4 (l:(List SSheet)) (n:ByteArray):LInv:=⟨[⟨.s,6,true,.el .int⟩,⟨.s,5,true,.el .int⟩],fun(z_ x_:Int×Int×Unit)=>x_.2.1=z_.2.1/\0<=x_.2.1/\x_.2.1<l.length/\-1<=x_.1/\x_.1<(l.getD x_.2.1.toNat default).rules.length/\colR n (l.getD x_.2.1.toNat default).rules (colS n l x_.2.1.toNat) (x_.1+1).toNat=colorOf l n,fun(x_:Int×Int×Unit)=>(x_.1+1).toNat⟩
def Ajz:=Amr.a fColorOf<|Fct.p (KP [0,1,4,5,6] [11,22,35]) (fun⟨l,n,_⟩=>fun|2=>some (C2 l n)|5=>some (C4 l n)|_=>none) Amr.2 func440 (by
 rintro⟨(l:List SSheet),(n:ByteArray),_⟩ hp;refine ho (let q3_:=Value.string n=Value.string n;lpx (C2 l n) (wr ((l.length:Int)-(1:Int)),()) fun(y1:Int×PUnit) bk1=>.br (decide (y1.1>=0)) (.ob (inB y1.1 l.length)<|lpx (C4 l n) (wr ((↑(l.getD y1.1.toNat default).rules.length:Int)-(1:Int)),(y1.1,())) fun(y4:Int×Int×PUnit) bk4=>let q4_:=inB y4.2.1 l.length;let q0_:=l.getD y4.2.1.toNat default;let q2_:=q0_.rules.getD y4.1.toNat default;let q1_:=0<=y4.1/\y4.1<(q0_.rules.length:Int);.br (decide (y4.1>=0)) (.ob q4_<|.ob q1_<|.br (q2_.name.toList==n.toList) (.ob q4_<|.ob q1_<|.lf fColorOf (q2_.color,())) (.ob (l=l)<|.ob q3_<|.ob (bk4 (wr (y4.1-(1:Int)),(y4.2.1,())))<|.ok)) (.ob (l=l)<|.ob q3_<|.ob (bk1 (wr (y4.2.1-(1:Int)),()))<|.ok)) (.lf fColorOf ((0:Int),()))) ?_;refine Aw ?_ fun(y1:Int×PUnit) i1=>Ab (fun h2=>Aa ?_ fun o3=>Aw ?_ fun(y4:Int×Int×PUnit) i4=>Ab (fun h5=>Aa ?_ fun o6=>Aa ?_ fun o7=>Ab (fun h8=>Aa ?_ fun o9=>Aa ?_ fun o10=>lfY ?_) (fun h8=>Aa rfl fun _=>Aa rfl fun _=>Aa ?_ fun o11=>trivial)) (fun h5=>Aa rfl fun _=>Aa rfl fun _=>Aa ?_ fun o12=>trivial)) (fun h2=>lfY ?_)
 all_goals
  have hl:=Ad Dl l;have hx:∀ i,i<l.length->(l.getD i default).rules.length<=1000000000000:=fun i h=>by have:=DO Dl (l:=l) h;have h2:=Ad KT (l.getD i default).rules;have h3:szL Dl l<=1000000000000:=hp;simp only[Dl] at this;omega
  try simp only[AA] at *
  try simp only[C2,C4,fColorOf,std,Nat.reduceAdd] at *
 all_goals first|trivial|omega|(rw[Ah (by omega)];exact⟨by omega,by omega,SP⟩)|(obtain⟨a1,a2,a3⟩:=i1)
 all_goals first|trivial|omega|(have:=hx y1.1.toNat (by omega);rw[Ah (by omega)];first|exact⟨by omega,by omega,by omega,by omega,by omega,by rw[JP,<-NO (by omega)];exact a3⟩|exact⟨by omega,by omega,by omega,by omega,by rw[JP,<-NO (by omega)];exact a3⟩)|(rw[SU (by omega)] at a3;exact a3)|(obtain⟨b0,b1,b2,b3,b4,b5⟩:=i4)
 all_goals first|(have:=hx y4.2.1.toNat (by omega))|skip
 all_goals first|(rw[NM (by omega),Qa2 (by assumption)] at b5;exact b5)|(rw[NM (by omega),Qa3 (by assumption)] at b5;rw[Ah (by omega),show(y4.1-1+1).toNat=y4.1.toNat by omega];exact⟨⟨by omega,by omega,by omega,by omega,by omega,b5⟩,by omega⟩)|(rw[Tn (by omega)] at b5;rw[Ah (by omega),show(y4.2.1-1+1).toNat=y4.2.1.toNat by omega];exact⟨⟨by omega,by omega,b5⟩,by omega⟩)|omega|skip)
def words8:List ByteArray:=[⟨#[]⟩,⟨#[119,114,105,116,101,32]⟩,⟨#[97,100,100,32]⟩,⟨#[99,111,117,110,116,32]⟩,⟨#[108,111,111,107,32]⟩,⟨#[115,97,121,32]⟩]
def Jg:Fct:=⟨[],[.sl .str],fun(x_:Unit)=>True,fun(x_:Unit)=>(words8,())⟩
def Ah6:=Ajz.a Jg<|Fct.o [0] Ajz.2 func431 (by
 rintro⟨_⟩ hp;refine ho (.lf Jg ([(⟨#[]⟩:ByteArray),(⟨#[119,114,105,116,101,32]⟩:ByteArray),(⟨#[97,100,100,32]⟩:ByteArray),(⟨#[99,111,117,110,116,32]⟩:ByteArray),(⟨#[108,111,111,107,32]⟩:ByteArray),(⟨#[115,97,121,32]⟩:ByteArray)],())) ?_;refine lfY ?_;all_goals
  try simp only[AA] at *
  try simp only[Jg,std,Nat.reduceAdd,words8] at *
  try simp(disch:=omega) only[wrapId',toNat1] at *
  try simp(disch:=omega) only[Qa2,Qa3]
 all_goals first|trivial|omega|grind[wrapId',toNat1,drop_cons,drop_end,good_len,maxLen,words8])
def line8L (s:ByteArray):List ByteArray->Int->SLine×Bool
 | [],_=>(default,false)
 | w::l,op=>if w.size<=s.size/\s.extract 0 w.size=w then(⟨op,s.extract w.size s.size⟩,if op=1\/op=5 then decide (s.size-w.size<=60) else isName (s.extract w.size s.size)) else line8L s l (op+1)
theorem XZ {s:ByteArray} {l:List ByteArray} {i:Nat} {k:Int} (h:i<l.length):line8L s (l.drop i) k=if(l.getD i default).size<=s.size/\s.extract 0 (l.getD i default).size=l.getD i default then(⟨k,s.extract (l.getD i default).size s.size⟩,if k=1\/k=5 then decide (s.size-(l.getD i default).size<=60) else isName (s.extract (l.getD i default).size s.size)) else line8L s (l.drop (i+1)) (k+1):=by rw[drop_cons h];rfl
theorem UU {s:ByteArray} {l:List ByteArray} {i:Nat} {k:Int} (h:l.length<=i):line8L s (l.drop i) k=(default,false):=by rw[Qb6 h];rfl
def line8 (s:ByteArray):SLine×Bool:=line8L s (words8.drop 1) 1
theorem Je:words8.length=6:=rfl
def Iq:Fct:=⟨[.v (.el .str)],[.el .line,.el .bool],fun(x_:ByteArray×Unit)=>x_.1.size<=1000000000000,fun(x_:ByteArray×Unit)=>((line8 x_.1).1,(line8 x_.1).2,())⟩
abbrev Dw (s:ByteArray):LInv:=⟨[⟨.s,5,true,.el .int⟩,⟨.b,2,true,.el .line⟩,⟨.s,4,true,.sl .str⟩],fun(z_ x_:Int×SLine×(List ByteArray)×Unit)=>((1<=x_.1/\x_.1<=6/\line8L s (words8.drop x_.1.toNat) x_.1=line8 s)/\x_.2.1=z_.2.1)/\x_.2.2.1=z_.2.2.1,fun(x_:Int×SLine×(List ByteArray)×Unit)=>(6-x_.1).toNat⟩
def Amt:=Ah6.a Iq<|Fct.p (KP [0,2,3,4,5,6,7,8] [13,32]) (fun⟨s,_⟩=>lv [(3,Dw s)]) Ah6.2 func397 (by
 rintro⟨(s:ByteArray),_⟩ hp;refine ho (.cl Jg () fun z2=>lpx (Dw s) ((1:Int),(default,(z2.1,()))) fun(y1:Int×SLine×List ByteArray×PUnit) bk1=>let q9_:=y1.2.2.1.getD y1.1.toNat default;let q5_:Out:=.ob (Value.string s=Value.string s)<|.ob (bk1 (w1 y1.1,(y1.2.1,(y1.2.2.1,()))))<|.ok;let q0_:=(q9_.size:Int);let q8_:=(0:Int)<=q0_/\q0_<=(s.size:Int);let q7_:=decide ((↑(s.extract q0_.toNat s.size).size:Int)<=60);let q6_:Out:=.lf Iq (⟨y1.1,s.extract q0_.toNat s.size⟩,true,());let q4_:Out:=.lf Iq (⟨y1.1,s.extract q0_.toNat s.size⟩,false,());let q3_:Out:=.cl fIsName (s.extract q0_.toNat s.size,()) fun z3=>.lf Iq (⟨y1.1,s.extract q0_.toNat s.size⟩,z3.1,());let q10_:Out:=.br (!y1.1==5) q3_ q4_;let q2_:Out:=.br q7_ q6_ (.br (!true) q3_ q4_);let q1_:Out:=.br (y1.1==5) (.br q7_ q6_ q10_) q10_;.br (decide (y1.1<(y1.2.2.1.length:Int))) (.ob (inB y1.1 y1.2.2.1.length)<|.ob (y1.1.toNat<y1.2.2.1.length)<|.br (decide ((s.size:Int)>=q0_)) (.ob q8_<|.br ((s.extract 0 q0_.toNat).toList==q9_.toList) (.ob q8_<|.br (y1.1==1) (.lp (Bool) (True) (fun x=>True) fun y10=>.br (y10) (.lp (Bool) (True) (fun x=>True) fun y12=>.br (y12) q2_ q2_) q2_) (.lp (Bool) (True) (fun x=>True) fun y23=>.br (y23) (.lp (Bool) (True) (fun x=>True) fun y25=>.br (y25) q1_ q1_) q1_)) q5_) q5_) (.lf Iq (default,false,()))) ?_;refine Ae trivial fun _=>(Aw ?_ fun(y1:Int×SLine×List ByteArray×PUnit) i1=>Ab (fun h2=>Aa ?_ fun o3=>Aa ?_ fun o4=>Ab (fun h5=>Aa ?_ fun o6=>Ab (fun h7=>Aa ?_ fun o8=>Ab (fun h9=>OW trivial fun y10 i10=>Ab (fun h11=>OW trivial fun y12 i12=>Ab (fun h13=>Ab (fun h14=>lfY ?_) (fun h14=>Ab (fun h15=>Ae ?_ fun o16=>(lfY ?_)) (fun h15=>lfY ?_))) (fun h13=>Ab (fun h17=>lfY ?_) (fun h17=>Ab (fun h18=>Ae ?_ fun o19=>(lfY ?_)) (fun h18=>lfY ?_)))) (fun h11=>Ab (fun h20=>lfY ?_) (fun h20=>Ab (fun h21=>Ae ?_ fun o22=>(lfY ?_)) (fun h21=>lfY ?_)))) (fun h9=>OW trivial fun y23 i23=>Ab (fun h24=>OW trivial fun y25 i25=>Ab (fun h26=>Ab (fun h27=>Ab (fun h28=>lfY ?_) (fun h28=>Ab (fun h29=>Ae ?_ fun o30=>(lfY ?_)) (fun h29=>lfY ?_))) (fun h27=>Ab (fun h31=>Ae ?_ fun o32=>(lfY ?_)) (fun h31=>lfY ?_))) (fun h26=>Ab (fun h33=>Ab (fun h34=>lfY ?_) (fun h34=>Ab (fun h35=>Ae ?_ fun o36=>(lfY ?_)) (fun h35=>lfY ?_))) (fun h33=>Ab (fun h37=>Ae ?_ fun o38=>(lfY ?_)) (fun h37=>lfY ?_)))) (fun h24=>Ab (fun h39=>Ab (fun h40=>lfY ?_) (fun h40=>Ab (fun h41=>Ae ?_ fun o42=>(lfY ?_)) (fun h41=>lfY ?_))) (fun h39=>Ab (fun h43=>Ae ?_ fun o44=>(lfY ?_)) (fun h43=>lfY ?_))))) (fun h7=>Aa rfl fun _=>Aa ?_ fun o45=>trivial)) (fun h5=>Aa rfl fun _=>Aa ?_ fun o46=>trivial)) (fun h2=>lfY ?_))
 all_goals
  have k2:∀ a,(s.extract a s.size).size=s.size-a:=fun a=>by rw[Qc4];omega
  try simp only[AA] at *
  try simp only[Dw,fIsName,Iq,Jg,std,Nat.reduceAdd,Jg,fIsName] at *
 all_goals first|exact⟨by omega,by omega,rfl⟩|(obtain⟨⟨⟨a1,a2,a3⟩,a4⟩,a5⟩:=i1;simp only[a5,Je,Qg6,k2] at *)
 all_goals first|trivial|omega|skip
 all_goals try (have e:=XZ (s:=s) (l:=words8) (i:=y1.1.toNat) (k:=y1.1) (by rw[Je];omega);rw[a3] at e)
 all_goals first|(rw[Qa3 (by rintro⟨q1,q2⟩;first|omega|exact absurd q2 (by assumption))] at e;rw[Ah (by omega),show(y1.1+1).toNat=y1.1.toNat+1 by omega];exact⟨⟨⟨⟨by omega,by omega,e.symm⟩,a4⟩,trivial⟩,by omega⟩)|skip
 all_goals try (have e:=UU (s:=s) (l:=words8) (i:=y1.1.toNat) (k:=y1.1) (by rw[Je];omega);rw[a3] at e;rw[e];exact⟨by first|assumption|rfl,rfl⟩)
 all_goals rw[Qa2 (by exact⟨by omega,by assumption⟩)] at e
 all_goals rw[e];refine⟨rfl,?_⟩
 all_goals first|rw[Qa2 (by omega)]|rw[Qa3 (by omega)]
 all_goals first|rfl|(rw[Qf2 (by omega)])|(rw[Qg2 (by omega)]))
def lines8 (l:List ByteArray):List SLine:=l.map fun w=>(line8 w).1
def allOk8 (l:List ByteArray):Bool:=l.all fun w=>(line8 w).2
def parseScript (s:ByteArray):List SLine×Bool:=if s=⟨#[]⟩ then([],true) else if(spl 59 s).length<=6/\allOk8 (spl 59 s)=true then(lines8 (spl 59 s),true) else([],false)
def AC:Fct:=⟨[.v (.el .str)],[.sl .line,.el .bool],fun(x_:ByteArray×Unit)=>x_.1.size<=4200000000,fun(x_:ByteArray×Unit)=>((parseScript x_.1).1,(parseScript x_.1).2,())⟩
theorem Km {l:List ByteArray} {i:Nat} (h:i<l.length):lines8 (l.take (i+1))=lines8 (l.take i)++[(line8 (l.getD i default)).1]/\allOk8 (l.take (i+1))=(allOk8 (l.take i)&&(line8 (l.getD i default)).2):=by
 rw[take_succ h];exact⟨by simp[lines8],by simp[allOk8]⟩
theorem Pd {l:List ByteArray} {i:Nat} (h:i<l.length) (h2:(line8 (l.getD i default)).2=false):allOk8 l=false:=by
 unfold allOk8;rw[List.all_eq_false];exact⟨l.getD i default,Br h,by rw[h2];decide⟩
abbrev Bu (s:ByteArray):LInv:=⟨[⟨.s,4,true,.sl .line⟩,⟨.s,6,true,.el .int⟩,⟨.s,5,true,.sl .str⟩],fun(z_ x_:(List SLine)×Int×(List ByteArray)×Unit)=>(0<=x_.2.1/\x_.2.1<=(spl 59 s).length/\(x_.2.1=0\/(spl 59 s).length<=6)/\x_.1=lines8 ((spl 59 s).take x_.2.1.toNat)/\allOk8 ((spl 59 s).take x_.2.1.toNat)=true)/\x_.2.2.1=z_.2.2.1,fun(x_:(List SLine)×Int×(List ByteArray)×Unit)=>(spl 59 s).length-x_.2.1.toNat⟩
def AmS:=Amt.a AC<|Fct.p (KP [0,2,3,4,5,6,7,8] [11,18,35]) (fun⟨s,_⟩=>lv [(6,Bu s)]) Amt.2 func353 (by
 rintro⟨(s:ByteArray),_⟩ hp;refine ho (.br (s.toList==(⟨#[]⟩:ByteArray).toList) (.lf AC ([],true,())) (.cl CF (s,(59:Int),()) fun z2=>lpx (Bu s) ([],((0:Int),(z2.1,()))) fun(y3:List SLine×Int×List ByteArray×PUnit) bk3=>.br (decide (y3.2.1<(y3.2.2.1.length:Int))) (.ob (inB y3.2.1 y3.2.2.1.length)<|.ob (y3.2.1.toNat<y3.2.2.1.length)<|.cl Iq (y3.2.2.1.getD y3.2.1.toNat default,()) fun z3=>.br (!z3.2.1) (.lf AC ([],false,())) (.br (decide ((y3.2.2.1.length:Int)>6)) (.lf AC ([],false,())) (.ob (True)<|.ob (BK (y3.1.length+[z3.1].length) 24)<|.ob (Value.string s=Value.string s)<|.ob (bk3 (y3.1++[z3.1],(w1 y3.2.1,(y3.2.2.1,()))))<|.ok))) (.lf AC (y3.1,true,())))) ?_;refine Ab (fun h1=>lfY ?_) (fun h1=>Ae ?_ fun o2=>(Aw ?_ fun(y3:List SLine×Int×List ByteArray×PUnit) i3=>Ab (fun h4=>Aa ?_ fun o5=>Aa ?_ fun o6=>Ae ?_ fun o7=>(Ab (fun h8=>lfY ?_) (fun h8=>Ab (fun h9=>lfY ?_) (fun h9=>Aa trivial fun _=>Aa ?_ fun o10=>Aa rfl fun _=>Aa ?_ fun o11=>trivial)))) (fun h4=>lfY ?_)));all_goals
  have hk:=DE 59 s;have hm:∀ i,i<(spl 59 s).length->((spl 59 s).getD i default).size<=s.size:=fun i h=>Hz (Br h)
  have hp1:s.size<=4200000000:=hp;try simp only[AA] at *
  try simp only[Bu,Iq,AC,CF,std,Nat.reduceAdd,Iq,CF,show UInt8.ofNat (Int.toNat 59)=59 from rfl] at *
 all_goals first|trivial|omega|(unfold parseScript;rw[Qa2 (by assumption)];exact⟨rfl,rfl⟩)|exact⟨by omega,by omega,.inl (by trivial),rfl,rfl⟩|exact⟨by omega,by decide,by decide⟩|(obtain⟨⟨a1,a2,a3,a4,a5⟩,a6⟩:=i3;simp only[a6] at *)
 all_goals try have hl:y3.1.length<=(spl 59 s).length:=by rw[a4,lines8,Qf6,Qc1];omega
 all_goals first|trivial|omega|(have:=hm y3.2.1.toNat (by omega);omega)|skip
 all_goals first|(unfold parseScript;rw[Qa3 (by assumption),Qa3 (by rintro⟨q1,q2⟩;rw[Pd (i:=y3.2.1.toNat) (by omega) (by assumption)] at q2;cases q2)];exact⟨rfl,rfl⟩)|(unfold parseScript;rw[Qa3 (by assumption),Qa3 (by omega)];exact⟨rfl,rfl⟩)|skip
 all_goals first|(rw[Qb3 (l:=spl 59 s) (i:=y3.2.1.toNat) (by omega)] at a4 a5;unfold parseScript;rw[Qa3 (by assumption),Qa2 (by exact⟨by omega,a5⟩)];exact⟨a4,rfl⟩)|skip
 all_goals first|(have e:=Km (l:=spl 59 s) (i:=y3.2.1.toNat) (by omega);rw[Ah (by omega),show(y3.2.1+1).toNat=y3.2.1.toNat+1 by omega];refine⟨⟨⟨by omega,by omega,.inr (by omega),by rw[e.1,a4],by rw[e.2,a5];assumption⟩,by first|assumption|trivial⟩,by omega⟩)|skip)
def mk8 (x:UInt8):UInt8:=if x=91 then 60 else if x=93 then 62 else x
def markup (s:ByteArray):ByteArray:=ofL ((toL s).map mk8)
abbrev enc8 (x:UInt8):Value:=.int .u8 (x.toNat:Int)
def fMarkup:Fct:=⟨[aT],[rT],fun x=>x.1.size<=1000000000000,fun x=>(markup x.1,())⟩
open Go.RowKit Go.Lib Go.Sort in
theorem LF (w:World) (e:TypeId) (s:ByteArray):Holds enc8 (bytesWorld w e s) w.heap.size 0 s.data:=by
 intro j hj;have hn:=bytesWorld_at_new w e s;refine⟨?_,?_⟩
 ·simp only[World.cell?,Qd4,hn];have:(Lib.bytesCells w e s)[j]? = some (.int .u8 s.data[j].toNat):=by unfold Lib.bytesCells;rw[Array.getElem?_append_left (by simpa using hj),Array.getElem?_map,Array.getElem?_eq_getElem hj];rfl
  simp[this,getElem!_pos s.data j hj]
 ·have h2:j<(bytesCells w e s).size:=by unfold Lib.bytesCells;rw[Array.size_append,Array.size_map];omega
  simp[World.frozen?,hn];omega
open Go.RowKit Go.Lib Go.Sort in
theorem G6 {s:ByteArray} {dk:Array UInt8} {i:Nat} {y:UInt8} (hi:i<s.size) (hs:dk.size=s.data.size) (hd:∀ t,t<s.size->dk[t]! = if t<i then mk8 s.data[t]! else s.data[t]!) (hy:y=mk8 s.data[i]!) :
 (dk.setIfInBounds i y).size=s.data.size/\∀ t,t<s.size->(dk.setIfInBounds i y)[t]! = if t<i+1 then mk8 s.data[t]! else s.data[t]!:=by
 have hsz:s.data.size=s.size:=rfl;refine⟨by rw[Array.size_setIfInBounds];exact hs,fun t ht=>?_⟩;by_cases h:t=i
 ·subst h;rw[getElem!_set_same _ _ _ (by omega),Qa2 (by omega),hy]
 ·rw[getElem!_pos _ t (by rw[Array.size_setIfInBounds];omega),Array.getElem_setIfInBounds (by omega),Qa3 (fun e=>h e.symm),<-getElem!_pos dk t (by omega),hd t ht];by_cases h2:t<i
  ·rw[Qa2 h2,Qa2 (by omega)]
  ·rw[Qa3 h2,Qa3 (by omega)]
open Go.RowKit Go.Lib Go.Sort in
theorem S3 {s:ByteArray} {dk:Array UInt8} {i:Nat} (hi:i<s.size) (hs:dk.size=s.data.size) (hd:∀ t,t<s.size->dk[t]! = if t<i then mk8 s.data[t]! else s.data[t]!) (hy:s.data[i]! = mk8 s.data[i]!) :
 ∀ t,t<s.size->dk[t]! = if t<i+1 then mk8 s.data[t]! else s.data[t]!:=by
 intro t ht;rw[hd t ht];by_cases h:t=i
 ·subst h;rw[Qa3 (Nat.lt_irrefl _),Qa2 (by omega),<-hy]
 ·by_cases h2:t<i
  ·rw[Qa2 h2,Qa2 (by omega)]
  ·rw[Qa3 h2,Qa3 (by omega)]
theorem Agl {x:UInt8} (h:((x.toNat:Int)==91)=true):60=mk8 x:=by
 have:x=91:=by apply UInt8.toNat_inj.1;have:=Qe9.1 h;exact Int.ofNat.inj this
 subst this;rfl
theorem AgT {x:UInt8} (h:((x.toNat:Int)==91)=false) (h2:((x.toNat:Int)==93)=true):62=mk8 x:=by
 have:x=93:=by apply UInt8.toNat_inj.1;have:=Qe9.1 h2;exact Int.ofNat.inj this
 subst this;rfl
theorem AhG {x:UInt8} (h:((x.toNat:Int)==91)=false) (h2:((x.toNat:Int)==93)=false):x=mk8 x:=by
 unfold mk8;rw[Qa3 (by rintro rfl;cases h),Qa3 (by rintro rfl;cases h2)]
open Go.RowKit Go.Lib Go.Sort in
theorem Q6 (s:ByteArray) (hs1:s.size<=1000000000000) (w:World):Calls Tryz.prog 432 #[.string s] w fun e w'=>e=.returned (.string (markup s))/\∃ dk,dk.size=s.data.size/\w'=putRow enc8 (bytesWorld w 5 s) w.heap.size 0 dk:=by
 have hcv:=fun(w:World)=>Lib.run_convert_string_bytes w 9 291 5 s Tryz.underlying9 Tryz.underlying291 Tryz.underlying5
 have hH:=LF w 5 s;have hsz:s.data.size=s.size:=rfl
 go_enter func432,Tryz.ntmps432
 go_wp2
 generalize hW1:bytesWorld w 5 s=W1 at *
 go_loopw [4] (fun vi wr=>∃ (i:Nat) (dk:Array UInt8),vi=.int .i64 i/\i<=s.size/\dk.size=s.data.size/\wr=putRow enc8 W1 w.heap.size 0 dk/\(∀ t,t<s.size->dk[t]! = if t<i then mk8 s.data[t]! else s.data[t]!)) (fun vi _=>s.size+1-(RowKit.intOf vi).toNat)
 case atStart=>exact⟨0,s.data,rfl,by omega,rfl,(putRow_self _ _ _ _ _ hH).symm,fun t ht=>by rw[Qa3 (by omega)]⟩
 case round=>
  obtain⟨i,dk,rfl,hi,hsk,hw,hd⟩:=hrel;by_cases h1:i<s.size
  ·have hcd:=cell?_putRow enc8 W1 w.heap.size 0 s.data dk hH hsk i (by omega);have hfz:wr.frozen? ⟨w.heap.size,0+i,none⟩=false:=by rw[hw,frozen?_putRow];exact(hH i (by omega)).2
   rw[<-hw,Qd4] at hcd;rw[Qd4] at hfz;have hxi:=hd i h1;rw[Qa3 (Nat.lt_irrefl _)] at hxi;rw[hxi] at hcd;generalize hx:s.data[i]! = x at *
   dsimp only[enc8] at hcd;have hst:=fun y=>putRow_set enc8 W1 w.heap.size 0 dk i y (by omega)
   rw[Qd4] at hst;have hW:Hid (wr=putRow enc8 W1 w.heap.size 0 dk):=hw;have hD:Hid (∀ t,t<s.size->dk[t]! = if t<i then mk8 s.data[t]! else s.data[t]!):=hd;have hS:Hid (∀ y,(putRow enc8 W1 w.heap.size 0 dk).setCell ⟨w.heap.size,i,none⟩ (enc8 y)=putRow enc8 W1 w.heap.size 0 (dk.setIfInBounds i y)):=hst;clear hw hd hst hH hxi
   go_wp2
   case roundEnd=>
    exact⟨⟨i+1,dk.setIfInBounds i 60,rfl,h1,(G6 h1 hsk hD.out (by rw[hx];exact Agl (by assumption))).1,by rw[hW.out];exact hS.out 60,(G6 h1 hsk hD.out (by rw[hx];exact Agl (by assumption))).2⟩,by simp only[RowKit.intOf];omega⟩
   case roundEnd=>
    exact⟨⟨i+1,dk.setIfInBounds i 62,rfl,h1,(G6 h1 hsk hD.out (by rw[hx];exact AgT (by assumption) (by assumption))).1,by rw[hW.out];exact hS.out 62,(G6 h1 hsk hD.out (by rw[hx];exact AgT (by assumption) (by assumption))).2⟩,by simp only[RowKit.intOf];omega⟩
   case roundEnd=>
    exact⟨⟨i+1,dk,rfl,h1,hsk,hW.out,S3 h1 hsk hD.out (by rw[hx];exact AhG (by assumption) (by assumption))⟩,by simp only[RowKit.intOf];omega⟩
  ·have hie:i=s.size:=by omega
   subst hie;have hback:=run_convert_bytes_back (P:=Tryz.prog) wr 291 9 5 ⟨w.heap.size,0,none⟩ (grownCap w s.size 0 5) dk.toList Tryz.underlying291 Tryz.underlying5 Tryz.underlying9 (fun j hj=>by
    have hj2:j<dk.size:=by simpa using hj
    have:=cell?_putRow enc8 W1 w.heap.size 0 s.data dk hH hsk j hj2;rw[<-hw] at this;rw[Addr.add_lit,this];simp[getElem!_pos dk j hj2])
   have hl:dk.toList.length=s.size:=by simpa using hsk
   rw[hl,hw] at hback;have hfin:markup s=⟨dk.toList.toArray⟩:=by
    unfold markup ofL;congr 2;apply List.ext_getElem (by simp[Bq,hl]);intro k h2 h3;have hk:k<s.size:=by omega
    have:=hd k hk;rw[Qa2 hk,getElem!_pos dk k (by omega),getElem!_pos s.data k hk] at this;simp[toL,this]
   have hfin:Hid _:=hfin;have hw:Hid _:=hw
   go_wp2
   go_ret
   exact⟨by rw[hfin.out];simp,dk,hsk,by rw[hW1];first|done|exact hw.out⟩
open Go.RowKit Go.Lib Go.Sort in
theorem T4 (w:World) (e:TypeId) (s:ByteArray) (f:Array Value->Array Value):mapBlock (bytesWorld w e s) w.heap.size f=grow (w.drewN 1) #[onCells f (.cells (bytesCells w e s) e ((bytesCells w e s).size,(bytesCells w e s).size+1))]:=by
 have hn:=bytesWorld_at_new w e s;have hz:=bytesWorld_size w e s;have ho:=bytesWorld_at_old w e s;have hh:(bytesWorld w e s).heap.modify w.heap.size (onCells f)=w.heap ++ #[onCells f (.cells (bytesCells w e s) e ((bytesCells w e s).size,(bytesCells w e s).size+1))]:=by
  apply Array.ext_getElem?;intro i;rw[Array.getElem?_modify];by_cases hi:w.heap.size=i
  ·subst hi;rw[Qa2 rfl,hn];simp
  ·rw[Qa3 hi];by_cases h2:i<w.heap.size
   ·rw[ho i h2,Array.getElem?_append_left h2]
   ·rw[Array.getElem?_eq_none (by omega),Array.getElem?_eq_none (by simp;omega)]
 unfold mapBlock grow;rw[hh];rfl
open Go.RowKit Go.Lib Go.Sort in
theorem Ym:fMarkup.ok Tryz.prog 432 :=
 SG rfl rfl fun x hx w ow hB=>(Q6 x.1 hx w).mono fun e w' ⟨a,dk,hs,b⟩=>⟨a,1,_,b.trans (T4 w 5 x.1 _)⟩
def Ajw:=AmS.a fMarkup<|Ym
def runLine (b:SBuilder) (l:List SSheet) (x:SLine):SBuilder×ByteArray×ByteArray :=
 if x.op=1 then(b,markup x.text,⟨#[]⟩)
 else if x.op=2 then((if 1<=b.bh.length/\b.bh.length<=39/\isName x.text=true then⟨b.bh++[⟨x.text,⟨#[]⟩,0,[]⟩],b.bj⟩ else b),⟨#[]⟩,⟨#[]⟩)
 else if x.op=3 then(b,⟨#[]⟩,⟨#[99,111,117,110,116,32]⟩++x.text++⟨#[32]⟩++Hr (countName x.text b.bh))
 else if x.op=4 then(b,⟨#[]⟩,⟨#[108,111,111,107,32]⟩++x.text++⟨#[32]⟩++Hr (colorOf l x.text))
 else if x.op=5 then(b,⟨#[]⟩,⟨#[115,97,121,32]⟩++x.text)
 else(b,⟨#[]⟩,⟨#[]⟩)
def okSheets (l:List SSheet):Prop:=∀ s,s∈l->∀ r,r∈s.rules->-9223372036854775808<=r.color/\r.color<=9223372036854775807
theorem Yy {n:ByteArray} {rs:List SRule} {z:Int} (hz : -9223372036854775808<=z/\z<=9223372036854775807) (h:∀ r,r∈rs->-9223372036854775808<=r.color/\r.color<=9223372036854775807):∀ m,m<=rs.length->-9223372036854775808<=colR n rs z m/\colR n rs z m<=9223372036854775807
 | 0,_=>hz
 | m+1,hm=>by
  rw[colR];split
  ·exact h _ (Br (by omega))
  ·exact Yy hz h m (by omega)
theorem VF {n:ByteArray} {l:List SSheet} (h:okSheets l):∀ m,m<=l.length->-9223372036854775808<=colS n l m/\colS n l m<=9223372036854775807
 | 0,_=>by rw[colS];decide
 | m+1,hm=>by rw[colS];exact Yy (VF h m (by omega)) (h _ (Br (by omega))) _ (Qa8 _)
theorem Ma {l:List SSheet} (h:okSheets l) (n:ByteArray) : -9223372036854775808<=colorOf l n/\colorOf l n<=9223372036854775807:=VF h _ (Qa8 _)
theorem JA (n:ByteArray) (l:List SNode):0<=countName n l/\countName n l<=l.length:=by unfold countName;have:=countIf_le (fun x:SNode=>decide (x.name=n)) l;omega
def fRunLine:Fct:=⟨[.v (.el .ba),.v (.sl .sheet),.v (.el .line)],[.el .ba,.el .str,.el .str],fun(x_:SBuilder×(List SSheet)×SLine×Unit)=>szBuilder x_.1<=100000000000/\szL Dl x_.2.1<=100000000000/\x_.2.2.1.text.size<=1000000000/\okSheets x_.2.1,fun(x_:SBuilder×(List SSheet)×SLine×Unit)=>((runLine x_.1 x_.2.1 x_.2.2.1).1,(runLine x_.1 x_.2.1 x_.2.2.1).2.1,(runLine x_.1 x_.2.1 x_.2.2.1).2.2,())⟩
theorem q14 (b:SBuilder) (l:List SSheet) (x:SLine) (hp:fRunLine.pre (b,l,x,())):Out.holds (fRunLine.ctr (b,l,x,())).post (let q4_:=(⟨#[115,97,121,32]⟩:ByteArray);let q3_:=(⟨#[]⟩:ByteArray);let q2_:=(⟨#[32]⟩:ByteArray);let q1_:=(⟨#[108,111,111,107,32]⟩:ByteArray);let q0_:=(⟨#[99,111,117,110,116,32]⟩:ByteArray);.cl fCopyBuilder (b,()) fun z2=>let q5_:Out:=.lf fRunLine (z2.1,q3_,q3_,());.br (x.op==1) (.cl fMarkup (x.text,()) fun z3=>.lf fRunLine (z2.1,z3.1,q3_,())) (.br (x.op==2) (.cl fInRange ((b.bh.length:Int),(1:Int),(39:Int),()) fun z4=>.br (z4.1) (.cl fIsName (x.text,()) fun z5=>.br (z5.1) (.ob (BK (z2.1.bh.length+[(⟨x.text,q3_,(0:Int),[]⟩:SNode)].length) 64)<|.lf fRunLine (⟨z2.1.bh++[(⟨x.text,q3_,(0:Int),[]⟩:SNode)],z2.1.bj⟩,q3_,q3_,())) q5_) q5_) (.br (x.op==3) (.lp (Bool) (True) (fun x=>True) fun y10=>.br (y10) (.lp (Bool) (True) (fun x=>True) fun y12=>.br (y12) (.lp (Bool) (True) (fun x=>True) fun y14=>.br (y14) (.lp (Bool) (True) (fun x=>True) fun y16=>.br (y16) (.lp (Bool) (True) (fun x=>True) fun y18=>.br (y18) (.ob (sameSize q0_ x.text)<|.ob (sameSize (q0_++x.text) q2_)<|.cl fCountName (b,x.text,()) fun(z6:Int×PUnit)=>.cl fFormatInt (z6.1,()) fun z7=>.ob (sameSize (q0_++x.text++q2_) z7.1)<|.lf fRunLine (z2.1,q3_,q0_++x.text++q2_++z7.1,())) (.ob (sameSize q0_ x.text)<|.ob (sameSize (q0_++x.text) q2_)<|.cl fCountName (b,x.text,()) fun(z8:Int×PUnit)=>.cl fFormatInt (z8.1,()) fun z9=>.ob (sameSize (q0_++x.text++q2_) z9.1)<|.lf fRunLine (z2.1,q3_,q0_++x.text++q2_++z9.1,()))) (.ob (sameSize q0_ x.text)<|.cl fCountName (b,x.text,()) fun(z10:Int×PUnit)=>.cl fFormatInt (z10.1,()) fun z11=>.ob (sameSize (q0_++x.text) q2_)<|.ob (sameSize (q0_++x.text++q2_) z11.1)<|.lf fRunLine (z2.1,q3_,q0_++x.text++q2_++z11.1,()))) (.cl fCountName (b,x.text,()) fun(z12:Int×PUnit)=>.cl fFormatInt (z12.1,()) fun z13=>.ob (sameSize q0_ x.text)<|.ob (sameSize (q0_++x.text) q2_)<|.ob (sameSize (q0_++x.text++q2_) z13.1)<|.lf fRunLine (z2.1,q3_,q0_++x.text++q2_++z13.1,()))) (.cl fCountName (b,x.text,()) fun(z14:Int×PUnit)=>.cl fFormatInt (z14.1,()) fun z15=>.ob (sameSize q0_ x.text)<|.ob (sameSize (q0_++x.text) q2_)<|.ob (sameSize (q0_++x.text++q2_) z15.1)<|.lf fRunLine (z2.1,q3_,q0_++x.text++q2_++z15.1,()))) (.cl fCountName (b,x.text,()) fun(z16:Int×PUnit)=>.cl fFormatInt (z16.1,()) fun z17=>.ob (sameSize q0_ x.text)<|.ob (sameSize (q0_++x.text) q2_)<|.ob (sameSize (q0_++x.text++q2_) z17.1)<|.lf fRunLine (z2.1,q3_,q0_++x.text++q2_++z17.1,()))) (.br (x.op==4) (.lp (Bool) (True) (fun x=>True) fun y51=>.br (y51) (.lp (Bool) (True) (fun x=>True) fun y53=>.br (y53) (.lp (Bool) (True) (fun x=>True) fun y55=>.br (y55) (.lp (Bool) (True) (fun x=>True) fun y57=>.br (y57) (.lp (Bool) (True) (fun x=>True) fun y59=>.br (y59) (.ob (sameSize q1_ x.text)<|.ob (sameSize (q1_++x.text) q2_)<|.cl fColorOf (l,x.text,()) fun(z18:Int×PUnit)=>.cl fFormatInt (z18.1,()) fun z19=>.ob (sameSize (q1_++x.text++q2_) z19.1)<|.lf fRunLine (z2.1,q3_,q1_++x.text++q2_++z19.1,())) (.ob (sameSize q1_ x.text)<|.ob (sameSize (q1_++x.text) q2_)<|.cl fColorOf (l,x.text,()) fun(z20:Int×PUnit)=>.cl fFormatInt (z20.1,()) fun z21=>.ob (sameSize (q1_++x.text++q2_) z21.1)<|.lf fRunLine (z2.1,q3_,q1_++x.text++q2_++z21.1,()))) (.ob (sameSize q1_ x.text)<|.cl fColorOf (l,x.text,()) fun(z22:Int×PUnit)=>.cl fFormatInt (z22.1,()) fun z23=>.ob (sameSize (q1_++x.text) q2_)<|.ob (sameSize (q1_++x.text++q2_) z23.1)<|.lf fRunLine (z2.1,q3_,q1_++x.text++q2_++z23.1,()))) (.cl fColorOf (l,x.text,()) fun(z24:Int×PUnit)=>.cl fFormatInt (z24.1,()) fun z25=>.ob (sameSize q1_ x.text)<|.ob (sameSize (q1_++x.text) q2_)<|.ob (sameSize (q1_++x.text++q2_) z25.1)<|.lf fRunLine (z2.1,q3_,q1_++x.text++q2_++z25.1,()))) (.cl fColorOf (l,x.text,()) fun(z26:Int×PUnit)=>.cl fFormatInt (z26.1,()) fun z27=>.ob (sameSize q1_ x.text)<|.ob (sameSize (q1_++x.text) q2_)<|.ob (sameSize (q1_++x.text++q2_) z27.1)<|.lf fRunLine (z2.1,q3_,q1_++x.text++q2_++z27.1,()))) (.cl fColorOf (l,x.text,()) fun(z28:Int×PUnit)=>.cl fFormatInt (z28.1,()) fun z29=>.ob (sameSize q1_ x.text)<|.ob (sameSize (q1_++x.text) q2_)<|.ob (sameSize (q1_++x.text++q2_) z29.1)<|.lf fRunLine (z2.1,q3_,q1_++x.text++q2_++z29.1,()))) (.br (x.op==5) (.lp (Bool) (True) (fun x=>True) fun y92=>.br (y92) (.lp (Bool) (True) (fun x=>True) fun y94=>.br (y94) (.lp (Bool) (True) (fun x=>True) fun y96=>.br (y96) (.ob (sameSize q4_ x.text)<|.lf fRunLine (z2.1,q3_,q4_++x.text,())) (.ob (sameSize q4_ x.text)<|.lf fRunLine (z2.1,q3_,q4_++x.text,()))) (.ob (sameSize q4_ x.text)<|.lf fRunLine (z2.1,q3_,q4_++x.text,()))) (.ob (sameSize q4_ x.text)<|.lf fRunLine (z2.1,q3_,q4_++x.text,()))) q5_))))):=by
 refine Ae ?_ fun o1=>(Ab (fun h2=>Ae ?_ fun o3=>(lfY ?_)) (fun h2=>Ab (fun h4=>Ae trivial fun _=>(Ab (fun h5=>Ae ?_ fun o6=>(Ab (fun h7=>Aa ?_ fun o8=>lfY ?_) (fun h7=>lfY ?_))) (fun h5=>lfY ?_))) (fun h4=>Ab (fun h9=>OW trivial fun y10 i10=>Ab (fun h11=>OW trivial fun y12 i12=>Ab (fun h13=>OW trivial fun y14 i14=>Ab (fun h15=>OW trivial fun y16 i16=>Ab (fun h17=>OW trivial fun y18 i18=>Ab (fun h19=>Aa ?_ fun o20=>Aa ?_ fun o21=>Ae ?_ fun o22=>(Ae ?_ fun o23=>(Aa ?_ fun o24=>lfY ?_))) (fun h19=>Aa ?_ fun o25=>Aa ?_ fun o26=>Ae ?_ fun o27=>(Ae ?_ fun o28=>(Aa ?_ fun o29=>lfY ?_)))) (fun h17=>Aa ?_ fun o30=>Ae ?_ fun o31=>(Ae ?_ fun o32=>(Aa ?_ fun o33=>Aa ?_ fun o34=>lfY ?_)))) (fun h15=>Ae ?_ fun o35=>(Ae ?_ fun o36=>(Aa ?_ fun o37=>Aa ?_ fun o38=>Aa ?_ fun o39=>lfY ?_)))) (fun h13=>Ae ?_ fun o40=>(Ae ?_ fun o41=>(Aa ?_ fun o42=>Aa ?_ fun o43=>Aa ?_ fun o44=>lfY ?_)))) (fun h11=>Ae ?_ fun o45=>(Ae ?_ fun o46=>(Aa ?_ fun o47=>Aa ?_ fun o48=>Aa ?_ fun o49=>lfY ?_)))) (fun h9=>Ab (fun h50=>OW trivial fun y51 i51=>Ab (fun h52=>OW trivial fun y53 i53=>Ab (fun h54=>OW trivial fun y55 i55=>Ab (fun h56=>OW trivial fun y57 i57=>Ab (fun h58=>OW trivial fun y59 i59=>Ab (fun h60=>Aa ?_ fun o61=>Aa ?_ fun o62=>Ae ?_ fun o63=>(Ae ?_ fun o64=>(Aa ?_ fun o65=>lfY ?_))) (fun h60=>Aa ?_ fun o66=>Aa ?_ fun o67=>Ae ?_ fun o68=>(Ae ?_ fun o69=>(Aa ?_ fun o70=>lfY ?_)))) (fun h58=>Aa ?_ fun o71=>Ae ?_ fun o72=>(Ae ?_ fun o73=>(Aa ?_ fun o74=>Aa ?_ fun o75=>lfY ?_)))) (fun h56=>Ae ?_ fun o76=>(Ae ?_ fun o77=>(Aa ?_ fun o78=>Aa ?_ fun o79=>Aa ?_ fun o80=>lfY ?_)))) (fun h54=>Ae ?_ fun o81=>(Ae ?_ fun o82=>(Aa ?_ fun o83=>Aa ?_ fun o84=>Aa ?_ fun o85=>lfY ?_)))) (fun h52=>Ae ?_ fun o86=>(Ae ?_ fun o87=>(Aa ?_ fun o88=>Aa ?_ fun o89=>Aa ?_ fun o90=>lfY ?_)))) (fun h50=>Ab (fun h91=>OW trivial fun y92 i92=>Ab (fun h93=>OW trivial fun y94 i94=>Ab (fun h95=>OW trivial fun y96 i96=>Ab (fun h97=>Aa ?_ fun o98=>lfY ?_) (fun h97=>Aa ?_ fun o99=>lfY ?_)) (fun h95=>Aa ?_ fun o100=>lfY ?_)) (fun h93=>Aa ?_ fun o101=>lfY ?_)) (fun h91=>lfY ?_))))))
 all_goals
  have hl:=Ad szNode b.bh;have hb:szL szNode b.bh<=szBuilder b:=by simp only[szBuilder];omega
  have hc:=JA x.text b.bh;have hx:=Ma hp.2.2.2 x.text;have hf:=fun(n:Int) (h0 : -9223372036854775808<=n) (h1:n<=9223372036854775807)=>Kz h0 h1
  try simp only[AA] at *
  try simp only[fColorOf,fCopyBuilder,fCountName,fFormatInt,fInRange,fIsName,fMarkup,fRunLine,std,Nat.reduceAdd,runLine,fCopyBuilder,fMarkup,fIsName,fInRange,inRange,fCountName,fColorOf,fFormatInt,sameSize,Qb5] at *
  try simp(disch:=omega) only[wrapId',toNat1] at *
  try simp(disch:=omega) only[Qa2,Qa3]
 all_goals first|trivial|omega|grind[wrapId',toNat1,drop_cons,drop_end,good_len,maxLen,runLine,fCopyBuilder,fMarkup,fIsName,fInRange,inRange,fCountName,fColorOf,fFormatInt,sameSize,ByteArray.size_append]
def Ai9:=Ajw.a fRunLine<|Fct.o (KP [1,3,5,6,7,8,9,13] [14,20,30,40,53,66]) Ajw.2 func398 (by
 rintro⟨(b:SBuilder),(l:List SSheet),(x:SLine),_⟩ hp;exact ho _ (q14 b l x hp))
def runLines (l:List SSheet):List SLine->SBuilder->ByteArray->List ByteArray->SBuilder×ByteArray×List ByteArray
 | [],b,w,g=>(b,w,g)
 | x::r,b,w,g=>runLines l r (runLine b l x).1 (w++(runLine b l x).2.1) (if(runLine b l x).2.2=⟨#[]⟩ then g else g++[(runLine b l x).2.2])
theorem runLines_at {l:List SSheet} {r:List SLine} {i:Nat} {b:SBuilder} {w:ByteArray} {g:List ByteArray} (h:i<r.length):runLines l (r.drop i) b w g=runLines l (r.drop (i+1)) (runLine b l (r.getD i default)).1 (w++(runLine b l (r.getD i default)).2.1) (if(runLine b l (r.getD i default)).2.2=⟨#[]⟩ then g else g++[(runLine b l (r.getD i default)).2.2]):=by rw[drop_cons h];rfl
theorem runLines_end {l:List SSheet} {r:List SLine} {i:Nat} {b:SBuilder} {w:ByteArray} {g:List ByteArray} (h:r.length<=i):runLines l (r.drop i) b w g=(b,w,g):=by rw[Qb6 h];rfl
theorem I0 (b:SBuilder) (l:List SSheet) (x:SLine):szBuilder (runLine b l x).1<=szBuilder b+x.text.size+1/\(runLine b l x).2.1.size<=x.text.size:=by
 have h0:ByteArray.size ⟨#[]⟩=0:=rfl;have h1:(markup x.text).size=x.text.size:=by unfold markup;rw[Fh,Qf6,Bq]
 have h3:szL A0 []=0:=rfl;unfold runLine;repeat' split
 all_goals simp only[h0,h1,szBuilder,Hh,szNode,h3]
 all_goals omega
def runScript (b:SBuilder) (l:List SSheet) (r:List SLine):SBuilder×ByteArray×List ByteArray:=runLines l r b ⟨#[]⟩ []
def BR:Fct:=⟨[.v (.el .ba),.v (.sl .sheet),.v (.sl .line)],[.el .ba,.el .str,.sl .str],fun(x_:SBuilder×(List SSheet)×(List SLine)×Unit)=>szBuilder x_.1<=50000000000/\szL Dl x_.2.1<=100000000000/\szL CT x_.2.2.1<=1000000000/\okSheets x_.2.1,fun(x_:SBuilder×(List SSheet)×(List SLine)×Unit)=>((runScript x_.1 x_.2.1 x_.2.2.1).1,(runScript x_.1 x_.2.1 x_.2.2.1).2.1,(runScript x_.1 x_.2.1 x_.2.2.1).2.2,())⟩
abbrev Cp (b:SBuilder) (l:(List SSheet)) (r:(List SLine)):LInv:=⟨[⟨.b,9,true,.el .ba⟩,⟨.s,10,true,.el .str⟩,⟨.s,11,true,.sl .str⟩,⟨.s,12,true,.el .int⟩,⟨.b,6,true,.el .ba⟩],fun(z_ x_:SBuilder×ByteArray×(List ByteArray)×Int×SBuilder×Unit)=>(0<=x_.2.2.2.1/\x_.2.2.2.1<=r.length/\szBuilder x_.1+szL CT (r.drop x_.2.2.2.1.toNat)<=szBuilder b+szL CT r/\x_.2.1.size+szL CT (r.drop x_.2.2.2.1.toNat)<=szL CT r/\x_.2.2.1.length<=x_.2.2.2.1/\runLines l (r.drop x_.2.2.2.1.toNat) x_.1 x_.2.1 x_.2.2.1=runScript b l r)/\x_.2.2.2.2.1=z_.2.2.2.2.1,fun(x_:SBuilder×ByteArray×(List ByteArray)×Int×SBuilder×Unit)=>r.length-x_.2.2.2.1.toNat⟩
def Ah1:=Ai9.a BR<|Fct.p (KP [1,2,3,6,7,8,9,10,11,12,13,14,15] [22,41]) (fun⟨b,l,r,_⟩=>lv [(5,Cp b l r)]) Ai9.2 func354 (by
 rintro⟨(b:SBuilder),(l:List SSheet),(r:List SLine),_⟩ hp;refine ho (.cl fCopyBuilder (b,()) fun z2=>lpx (Cp b l r) (z2.1,((⟨#[]⟩:ByteArray),([],((0:Int),(default,()))))) fun(y2:SBuilder×ByteArray×List ByteArray×Int×SBuilder×PUnit) bk2=>.br (decide (y2.2.2.2.1<(r.length:Int))) (.ob (inB y2.2.2.2.1 r.length)<|.cl fRunLine (y2.1,l,r.getD y2.2.2.2.1.toNat default,()) fun z3=>.ob (sameSize y2.2.1 z3.2.1)<|.br (!z3.2.2.1.toList==(⟨#[]⟩:ByteArray).toList) (.ob (True)<|.ob (BK (y2.2.2.1.length+[z3.2.2.1].length) 16)<|.ob (l=l)<|.ob (r=r)<|.ob (Value.string (⟨#[]⟩:ByteArray)=Value.string (⟨#[]⟩:ByteArray))<|.ob (bk2 (z3.1,(y2.2.1++z3.2.1,(y2.2.2.1++[z3.2.2.1],(w1 y2.2.2.2.1,(y2.2.2.2.2.1,()))))))<|.ok) (.ob (l=l)<|.ob (r=r)<|.ob (Value.string (⟨#[]⟩:ByteArray)=Value.string (⟨#[]⟩:ByteArray))<|.ob (bk2 (z3.1,(y2.2.1++z3.2.1,(y2.2.2.1,(w1 y2.2.2.2.1,(y2.2.2.2.2.1,()))))))<|.ok)) (.lf BR (y2.1,y2.2.1,y2.2.2.1,()))) ?_;refine Ae ?_ fun o1=>(Aw ?_ fun(y2:SBuilder×ByteArray×List ByteArray×Int×SBuilder×PUnit) i2=>Ab (fun h3=>Aa ?_ fun o4=>Ae ?_ fun o5=>(Aa ?_ fun o6=>Ab (fun h7=>Aa trivial fun _=>Aa ?_ fun o8=>Aa rfl fun _=>Aa rfl fun _=>Aa rfl fun _=>Aa ?_ fun o9=>trivial) (fun h7=>Aa rfl fun _=>Aa rfl fun _=>Aa rfl fun _=>Aa ?_ fun o10=>trivial))) (fun h3=>lfY ?_))
 all_goals
  have hr:=Ad CT r;have hx:∀ i,i<r.length->szL CT (r.drop i)=(r.getD i default).text.size+1+szL CT (r.drop (i+1)):=fun i h=>KI CT h
  have hs:=fun bb x=>I0 bb l x
  have hrs:runLines l r b ⟨#[]⟩ []=runScript b l r:=rfl;try simp only[AA] at *
  try simp only[Cp,fCopyBuilder,fRunLine,BR,std,Nat.reduceAdd,fCopyBuilder,fRunLine,runLines_at,runLines_end,sameSize,Qb5] at *
  try simp(disch:=omega) only[wrapId',toNat1] at *
  try simp(disch:=omega) only[Qa2,Qa3]
 all_goals first|trivial|omega|grind[wrapId',toNat1,drop_cons,drop_end,good_len,maxLen,fCopyBuilder,fRunLine,runLines_at,runLines_end,sameSize,ByteArray.size_append])
def decV:List UInt8->Int->Int
 | [],n=>n
 | x::l,n=>decV l (10*n+((x.toNat:Int)-48))
def digit (x:UInt8):Bool:=decide (48<=(x.toNat:Int)/\(x.toNat:Int)<=57)
def parseInt (s:ByteArray):Int×Bool:=if 1<=s.size/\s.size<=13/\(toL s).all digit=true/\decV (toL s) 0<=1000000000000/\Hr (decV (toL s) 0)=s then(decV (toL s) 0,true) else(0,false)
def Dt:Fct:=⟨[.v (.el .str)],[.el .int,.el .bool],fun(x_:ByteArray×Unit)=>x_.1.size<=1000000000000,fun(x_:ByteArray×Unit)=>((parseInt x_.1).1,(parseInt x_.1).2,())⟩
theorem JK {s:ByteArray} {i:Nat} (h:i<s.size):(toL s).take (i+1)=(toL s).take i++[s.data.getD i 0]:=by
 have h2:i<s.data.size:=h;have e:s.data.getD i 0=s.data[i]:=by unfold Array.getD;rw[dif_pos h2];rfl
 rw[List.take_succ_eq_append_getElem (by rw[Bq];exact h),e];rfl
theorem Ke:∀ (l:List UInt8) (x:UInt8) (n:Int),decV (l++[x]) n=10*decV l n+((x.toNat:Int)-48)
 | [],x,n=>rfl
 | y::l,x,n=>by rw[Qf4,decV,decV,Ke l]
theorem Ahh:∀ i:Nat,i<=13->(10:Int) ^ i<=10000000000000:=fun i h=>(by decide:∀ i:Fin 14,(10:Int) ^ i.val<=10000000000000) ⟨i,by omega⟩
theorem Yx {s:ByteArray} {i:Nat} (h:i<s.size) (hd:digit (s.data.getD i 0)=false):(toL s).all digit=false:=by
 rw[List.all_eq_false];refine⟨s.data.getD i 0,?_,by rw[hd];decide⟩;have:=List.mem_of_mem_take (l:=toL s) (i:=i+1) (a:=s.data.getD i 0) (by rw[JK h];simp);exact this
theorem HD {s:ByteArray} (h:¬ (1<=s.size/\s.size<=13/\(toL s).all digit=true/\decV (toL s) 0<=1000000000000/\Hr (decV (toL s) 0)=s)):0=(parseInt s).1/\false=(parseInt s).2:=by
 unfold parseInt;rw[Qa3 h];exact⟨rfl,rfl⟩
theorem OE {s:ByteArray} (h:1<=s.size/\s.size<=13/\(toL s).all digit=true/\decV (toL s) 0<=1000000000000/\Hr (decV (toL s) 0)=s):decV (toL s) 0=(parseInt s).1/\true=(parseInt s).2:=by
 unfold parseInt;rw[Qa2 h];exact⟨rfl,rfl⟩
theorem u8_in (x:UInt8):IntKind.i64.wrap (x.toNat:Int)=x.toNat/\(x.toNat:Int)<=255:=by
 have:=x.toNat_lt;exact⟨wrapId' (by omega) (by omega),by omega⟩
theorem WJ {x:UInt8} (h:48<=(x.toNat:Int)):IntKind.i64.wrap (IntKind.u8.wrap ((x.toNat:Int)-48))=(x.toNat:Int)-48:=by
 have:=x.toNat_lt;have e:IntKind.u8.wrap ((x.toNat:Int)-48)=(x.toNat:Int)-48:=by show((x.toNat:Int)-48) % 256=_;omega
 rw[e];exact wrapId' (by omega) (by omega)
abbrev BC (s:ByteArray):LInv:=⟨[⟨.s,4,true,.el .int⟩,⟨.s,5,true,.el .int⟩],fun _ (x_:Int×Int×Unit)=>0<=x_.2.1/\x_.2.1<=s.size/\0<=x_.1/\x_.1<10 ^ x_.2.1.toNat/\((toL s).take x_.2.1.toNat).all digit=true/\x_.1=decV ((toL s).take x_.2.1.toNat) 0,fun(x_:Int×Int×Unit)=>s.size-x_.2.1.toNat⟩
def Ait:=Ah1.a Dt<|Fct.p (KP [0,2,3,4,5] [9,13,21,37]) (fun⟨s,_⟩=>lv [(5,BC s)]) Ah1.2 func435 (by
 rintro⟨(s:ByteArray),_⟩ hp;refine ho (let q1_:=(s.size:Int);let q0_:Out:=.lf Dt ((0:Int),false,());.cl fInRange (q1_,(1:Int),(13:Int),()) fun z2=>.br (!z2.1) q0_ (lpx (BC s) ((0:Int),((0:Int),())) fun(y2:Int×Int×PUnit) bk2=>let q3_:=0<=y2.2.1/\y2.2.1<q1_;let q2_:=(↑(s.data.getD y2.2.1.toNat 0).toNat:Int);.br (decide (y2.2.1<q1_)) (.ob q3_<|.cl fInRange (wr q2_,(48:Int),(57:Int),()) fun z3=>.br (!z3.1) q0_ (.ob q3_<|.ob (Value.string s=Value.string s)<|.ob (bk2 (wr (wr ((10:Int)*y2.1)+wr (IntKind.u8.wrap (q2_-(48:Int)))),(w1 y2.2.1,())))<|.ok)) (.br (decide (y2.1>1000000000000)) q0_ (.cl fFormatInt (y2.1,()) fun z4=>.br (!z4.1.toList==s.toList) q0_ (.lf Dt (y2.1,true,())))))) ?_;repeat' first|(guard_target =~ Out.holds _ _;first|refine Aw (li:=BC s) ?_ fun(y2:Int×Int×PUnit) i2=>?_|refine lfY ?_|refine Ab (fun _=>?_) fun _=>?_|refine Ae ?_ fun _=>?_|refine Aa ?_ fun _=>?_)|exact trivial
 all_goals
  try simp only[AA] at *
  try simp only[BC,fFormatInt,fInRange,Dt,std,Nat.reduceAdd,fFormatInt,fInRange,inRange,u8_in] at *
  try simp only[Qa1,Qe4,Qa7,Qb0] at *
 all_goals first|(refine HD ?_;omega)|exact⟨by omega,by omega,by omega,by decide,rfl,rfl⟩|(obtain⟨a1,a2,a3,a4,a5,a6⟩:=i2;have hq:=Ahh y2.2.1.toNat (by omega))
 all_goals first|omega|skip
 all_goals try rw[Qb3 (l:=toL s) (i:=y2.2.1.toNat) (by rw[Bq];omega)] at a5 a6
 all_goals first|(rw[<-a6];exact⟨by omega,by omega⟩)|(refine HD ?_;rintro⟨q1,q2,q3,q4,q5⟩;rw[<-a6] at *;first|omega|contradiction)|(rw[a6];exact OE ⟨by omega,by omega,a5,by omega,by rw[<-a6];assumption⟩)|skip
 all_goals first|(refine HD ?_;rintro⟨q1,q2,q3,q4,q5⟩;rw[Yx (i:=y2.2.1.toNat) (by omega) (by unfold digit;simp only[Qb0];omega)] at q3;cases q3)|skip
 all_goals rw[WJ (by omega),Ah (n:=10*y2.1) (by omega),Ah (n:=y2.2.1+1) (by omega),Ah (by omega),show(y2.2.1+1).toNat=y2.2.1.toNat+1 by omega,JK (by omega),List.all_append,Ke,Int.pow_succ]
 all_goals refine⟨⟨by omega,by omega,by omega,by omega,?_,by rw[<-a6]⟩,by omega⟩
 all_goals (rw[a5];simp only[List.all_cons,List.all_nil,digit,Bool.and_true,Bool.true_and,Qa7];omega))
theorem YU {b:UInt8}:∀ {l:List UInt8},Es b l=none->b∉l
 | [],_,h=>by cases h
 | x::l,hc,h=>by
  rw[Es] at hc;split at hc
  ·cases hc
  ·rename_i hx;rcases Qd3.1 h with e|h
   ·exact hx e.symm
   ·exact YU (Option.map_eq_none_iff.1 hc) h
def ruleOf (w:ByteArray):Option SRule:=match Es 58 (toL w) with
 | none=>none
 | some r=>if isName (ofL r.1)=true/\(parseInt (ofL r.2)).2=true/\1<=(parseInt (ofL r.2)).1/\(parseInt (ofL r.2)).1<=999 then some ⟨ofL r.1,(parseInt (ofL r.2)).1⟩ else none
def parseRules:List ByteArray->List SRule->List SRule
 | [],acc=>acc
 | w::l,acc=>parseRules l (if acc.length<8 then acc++(ruleOf w).toList else acc)
theorem H0 {l:List ByteArray} {i:Nat} {acc:List SRule} (h:i<l.length):parseRules (l.drop i) acc=parseRules (l.drop (i+1)) (if acc.length<8 then acc++(ruleOf (l.getD i default)).toList else acc):=by rw[drop_cons h];rfl
theorem Hv {l:List ByteArray} {i:Nat} {acc:List SRule} (h:l.length<=i):parseRules (l.drop i) acc=acc:=by rw[Qb6 h];rfl
theorem Gw:∀ {l:List ByteArray} {acc:List SRule},¬ acc.length<8->parseRules l acc=acc
 | [],_,_=>rfl
 | w::l,acc,h=>by rw[parseRules,Qa3 h];exact Gw h
theorem Abg (w:ByteArray):ruleOf w=if(spl 58 w).length=2/\isName ((spl 58 w).getD 0 default)=true/\(parseInt ((spl 58 w).getD 1 default)).2=true/\1<=(parseInt ((spl 58 w).getD 1 default)).1/\(parseInt ((spl 58 w).getD 1 default)).1<=999 then some ⟨(spl 58 w).getD 0 default,(parseInt ((spl 58 w).getD 1 default)).1⟩ else none:=by
 unfold ruleOf;rw[Gl];cases h:Es 58 (toL w) with
 | none=>simp
 | some r=>
  obtain⟨p,q⟩:=r;simp only[Qa6];by_cases hq:(58:UInt8)∈q
  ·have hd:(parseInt (ofL q)).2=false:=by unfold parseInt;rw[Qa3];rintro⟨q1,q2,q3,_⟩;rw[Jj,Qc5] at q3;have:=q3 58 hq;cases this
   have hl:(spl 58 (ofL q)).length≠1:=by
    intro hl;rw[Gl,Jj] at hl;cases hc:Es 58 q with
    | none=>exact YU hc hq
    | some r2=>
     rw[hc] at hl;have:=(DE 58 (ofL r2.2)).1;simp only[Qa6] at hl;omega
   rw[Qa3 (by rw[hd];simp),Qa3 (by omega)]
  ·have hs:spl 58 (ofL q)=[ofL q]:=by
    rw[Gl,Jj];cases hc:Es 58 q with
    | none=>rfl
    | some r2=>exact absurd (JV (p:=r2.1) (q:=r2.2) hc) hq
   rw[hs];simp
def parseSheet (s:ByteArray):SSheet:=⟨parseRules (spl 59 s) []⟩
def fParseSheet:Fct:=⟨[.v (.el .str)],[.el .sheet],fun(x_:ByteArray×Unit)=>x_.1.size<=4200000000,fun(x_:ByteArray×Unit)=>(parseSheet x_.1,())⟩
abbrev BM (s:ByteArray):LInv:=⟨[⟨.b,3,true,.el .sheet⟩,⟨.s,5,true,.el .int⟩,⟨.b,2,true,.el .sheet⟩,⟨.s,4,true,.sl .str⟩],fun(z_ x_:SSheet×Int×SSheet×(List ByteArray)×Unit)=>((0<=x_.2.1/\x_.2.1<=(spl 59 s).length/\x_.1.rules.length<=8/\parseRules ((spl 59 s).drop x_.2.1.toNat) x_.1.rules=parseRules (spl 59 s) [])/\x_.2.2.1=z_.2.2.1)/\x_.2.2.2.1=z_.2.2.2.1,fun(x_:SSheet×Int×SSheet×(List ByteArray)×Unit)=>(spl 59 s).length-x_.2.1.toNat⟩
def AiL:=Ait.a fParseSheet<|Fct.p (KP [0,2,3,4,5,6,7,8] [21,38,50]) (fun⟨s,_⟩=>lv [(4,BM s)]) Ait.2 func399 (by
 rintro⟨(s:ByteArray),_⟩ hp;refine ho (let q4_:=Value.string s=Value.string s;.cl CF (s,(59:Int),()) fun z2=>lpx (BM s) (default,((0:Int),(default,(z2.1,())))) fun(y2:SSheet×Int×SSheet×List ByteArray×PUnit) bk2=>let q5_:Out:=.lf fParseSheet (y2.1,());let q0_:Out:=.ob q4_<|.ob (bk2 (y2.1,(w1 y2.2.1,(y2.2.2.1,(y2.2.2.2.1,())))))<|.ok;.br (decide (y2.2.1<(y2.2.2.2.1.length:Int))) (.br (decide ((y2.1.rules.length:Int)<8)) (.ob (inB y2.2.1 y2.2.2.2.1.length)<|.ob (y2.2.1.toNat<y2.2.2.2.1.length)<|.cl CF (y2.2.2.2.1.getD y2.2.1.toNat default,(58:Int),()) fun z3=>let q2_:=(z3.1.length:Int);let q1_:=(0:Int)<=(0:Int)/\(0:Int)<q2_;.br (q2_ != 2) q0_ (.ob q1_<|.ob (0<z3.1.length)<|.cl fIsName (z3.1.getD 0 default,()) fun z4=>.br (!z4.1) q0_ (.ob ((0:Int)<=(1:Int)/\(1:Int)<q2_)<|.ob (1<z3.1.length)<|.cl Dt (z3.1.getD 1 default,()) fun(z5:Int×Bool×PUnit)=>let q3_:=(⟨z3.1.getD 0 default,z5.1⟩:SRule);.br (z5.2.1) (.cl fInRange (z5.1,(1:Int),(999:Int),()) fun z6=>.br (z6.1) (.ob q1_<|.ob (0<z3.1.length)<|.ob (True)<|.ob (BK (y2.1.rules.length+[q3_].length) 24)<|.ob q4_<|.ob (bk2 ((⟨y2.1.rules++[q3_]⟩:SSheet),(w1 y2.2.1,(y2.2.2.1,(y2.2.2.2.1,())))))<|.ok) q0_) q0_))) q5_) q5_) ?_;refine Ae ?_ fun o1=>(Aw ?_ fun(y2:SSheet×Int×SSheet×List ByteArray×PUnit) i2=>Ab (fun h3=>Ab (fun h4=>Aa ?_ fun o5=>Aa ?_ fun o6=>Ae ?_ fun o7=>(Ab (fun h8=>Aa rfl fun _=>Aa ?_ fun o9=>trivial) (fun h8=>Aa ?_ fun o10=>Aa ?_ fun o11=>Ae ?_ fun o12=>(Ab (fun h13=>Aa rfl fun _=>Aa ?_ fun o14=>trivial) (fun h13=>Aa ?_ fun o15=>Aa ?_ fun o16=>Ae ?_ fun o17=>(Ab (fun h18=>Ae trivial fun _=>(Ab (fun h19=>Aa ?_ fun o20=>Aa ?_ fun o21=>Aa trivial fun _=>Aa ?_ fun o22=>Aa rfl fun _=>Aa ?_ fun o23=>trivial) (fun h19=>Aa rfl fun _=>Aa ?_ fun o24=>trivial))) (fun h18=>Aa rfl fun _=>Aa ?_ fun o25=>trivial))))))) (fun h4=>lfY ?_)) (fun h3=>lfY ?_))
 all_goals
  have hk:=DE 59 s;have hm:∀ i,i<(spl 59 s).length->((spl 59 s).getD i default).size<=s.size:=fun i h=>Hz (Br h)
  have hp1:s.size<=4200000000:=hp;try simp only[AA] at *
  try simp only[BM,fInRange,fIsName,Dt,fParseSheet,CF,std,Nat.reduceAdd,CF,fIsName,Dt,fInRange,inRange,show UInt8.ofNat (Int.toNat 59)=59 from rfl,show UInt8.ofNat (Int.toNat 58)=58 from rfl] at *
 all_goals first|trivial|omega|exact⟨by omega,by decide,by decide⟩|exact⟨by omega,by omega,by decide,rfl⟩|(obtain⟨⟨⟨a1,a2,a3,a4⟩,a5⟩,a6⟩:=i2;simp only[a6,Qa1,Qe4,Qa7,Qb0] at *)
 all_goals
  try have hw:=hm y2.2.1.toNat (by omega)
  try have hw0:=DR 58 ((spl 59 s).getD y2.2.1.toNat default) 0
  try have hw1:=DR 58 ((spl 59 s).getD y2.2.1.toNat default) 1
 all_goals first|trivial|omega|exact⟨by omega,by decide,by decide⟩|exact⟨by omega,by omega⟩|skip
 all_goals first|(rw[Hv (by omega)] at a4;show y2.1=parseSheet s;unfold parseSheet;rw[<-a4])|(rw[Gw (by omega)] at a4;show y2.1=parseSheet s;unfold parseSheet;rw[<-a4])|skip
 all_goals have e:=H0 (l:=spl 59 s) (i:=y2.2.1.toNat) (acc:=y2.1.rules) (by omega)
 all_goals rw[a4,Qa2 (by omega),Abg] at e
 all_goals rw[Ah (by omega),show(y2.2.1+1).toNat=y2.2.1.toNat+1 by omega]
 all_goals first|(rw[Qa3 (by rintro⟨q1,q2,q3,q4,q5⟩;first|omega|exact absurd (q2.symm.trans (show isName _=false by assumption)) (by decide)|exact absurd (q3.symm.trans (show Prod.snd _=false by assumption)) (by decide)),Option.toList_none,Qd8] at e;exact⟨⟨⟨⟨by omega,by omega,by omega,e.symm⟩,by assumption⟩,trivial⟩,by omega⟩)|(rw[Qa2 (by exact⟨by omega,by assumption,by assumption,by omega,by omega⟩),Option.toList_some] at e;exact⟨⟨⟨⟨by omega,by omega,by rw[Qa4];simp only[Qa6,Qb8];omega,e.symm⟩,by assumption⟩,trivial⟩,by omega⟩)|skip)
def openIdx {α:Type} (f:α->Bool):List α->Int->List Int
 | [],_=>[]
 | x::l,k=>if f x then k::openIdx f l (k+1) else openIdx f l (k+1)
theorem openIdx_at {α:Type} [Inhabited α] {f:α->Bool} {l:List α} {i:Nat} {k:Int} (h:i<l.length):openIdx f (l.drop i) k=if f (l.getD i default) then k::openIdx f (l.drop (i+1)) (k+1) else openIdx f (l.drop (i+1)) (k+1):=by rw[drop_cons h];rfl
theorem openIdx_end {α:Type} {f:α->Bool} {l:List α} {i:Nat} {k:Int} (h:l.length<=i):openIdx f (l.drop i) k=[]:=by rw[Qb6 h];rfl
theorem Hd {α:Type} (f:α->Bool):∀ (l:List α) (k:Int) (x:Int),x∈openIdx f l k->k<=x/\x<k+l.length
 | [],k,x,h=>by cases h
 | a::l,k,x,h=>by
  rw[openIdx] at h;have ih:=Hd f l (k+1) x;simp only[Qa6];split at h
  ·rcases Qd3.1 h with rfl|h
   ·omega
   ·have:=ih h;omega
  ·have:=ih h;omega
theorem Dn {α:Type} (f:α->Bool):∀ (l:List α) (k:Int),(openIdx f l k).length<=l.length
 | [],k=>Qa8 _
 | a::l,k=>by have:=Dn f l (k+1);rw[openIdx];split<;>simp only[Qa6]<;>omega
def openSlots (p:SPage):List Int:=openIdx (fun s=>!s.done) p.bd 0
def openMods (p:SPage):List Int:=openIdx (fun m=>!m.done) p.bg 0
def Bf:Fct:=⟨[.v (.el .page)],[.sl .int],fun(x_:SPage×Unit)=>x_.1.bd.length<=1000000000000,fun(x_:SPage×Unit)=>(openSlots x_.1,())⟩
abbrev Cd (p:SPage):LInv:=⟨[⟨.s,3,true,.sl .int⟩,⟨.s,4,true,.el .int⟩,⟨.b,1,false,.el .page⟩],fun(z_ x_:(List Int)×Int×SPage×Unit)=>(0<=x_.2.1/\x_.2.1<=p.bd.length/\x_.1.length<=x_.2.1/\x_.1++openIdx (fun s=>!s.done) (p.bd.drop x_.2.1.toNat) x_.2.1=openSlots p)/\x_.2.2.1=z_.2.2.1,fun(x_:(List Int)×Int×SPage×Unit)=>p.bd.length-x_.2.1.toNat⟩
def Akh:=AiL.a Bf<|Fct.p (KP [1,2,3,4] [10,19]) (fun⟨p,_⟩=>lv [(3,Cd p)]) AiL.2 func153 (by
 rintro⟨(p:SPage),_⟩ hp;refine ho (lpx (Cd p) ([],((0:Int),(p,()))) fun(y1:List Int×Int×SPage×PUnit) bk1=>.br (decide (y1.2.1<(y1.2.2.1.bd.length:Int))) (.ob (inB y1.2.1 y1.2.2.1.bd.length)<|.br (!(y1.2.2.1.bd.getD y1.2.1.toNat default).done) (.ob (True)<|.ob (BK (y1.1.length+[y1.2.1].length) 8)<|.ob (bk1 (y1.1++[y1.2.1],(w1 y1.2.1,(y1.2.2.1,()))))<|.ok) (.ob (bk1 (y1.1,(w1 y1.2.1,(y1.2.2.1,()))))<|.ok)) (.lf Bf (y1.1,()))) ?_;refine Aw ?_ fun(y1:List Int×Int×SPage×PUnit) i1=>Ab (fun h2=>Aa ?_ fun o3=>Ab (fun h4=>Aa trivial fun _=>Aa ?_ fun o5=>Aa ?_ fun o6=>trivial) (fun h4=>Aa ?_ fun o7=>trivial)) (fun h2=>lfY ?_)
 all_goals
  have h0:openIdx (fun s:SSlot=>!s.done) (p.bd.drop 0) 0=openSlots p:=rfl;try simp only[AA] at *
  try simp only[Cd,Bf,std,Nat.reduceAdd,openIdx_at,openIdx_end,Qa4,Qa6,Qb8,Qb7] at *
  try simp(disch:=omega) only[wrapId',toNat1] at *
  try simp(disch:=omega) only[Qa2,Qa3]
 all_goals first|trivial|omega|grind[wrapId',toNat1,drop_cons,drop_end,good_len,maxLen,openIdx_at,openIdx_end,List.length_append,List.length_cons,List.length_nil,List.append_assoc])
abbrev Ch (p:SPage):LInv:=⟨[⟨.s,3,true,.sl .int⟩,⟨.s,10,true,.el .int⟩],fun _ (x_:(List Int)×Int×Unit)=>0<=x_.2.1/\x_.2.1<=p.bd.length/\x_.1.length<=x_.2.1/\x_.1++openIdx (fun s=>!s.done) (p.bd.drop x_.2.1.toNat) x_.2.1=openSlots p,fun(x_:(List Int)×Int×Unit)=>p.bd.length-x_.2.1.toNat⟩
def Ak1:=Akh.a Bf<|Fct.p (KP [1,2,3,4,5,8,9,10] [11,17]) (fun⟨p,_⟩=>lv [(3,Ch p)]) Akh.2 func108 (by
 rintro⟨(p:SPage),_⟩ hp;refine ho (lpx (Ch p) ([],((0:Int),())) fun(y1:List Int×Int×PUnit) bk1=>.br (decide (y1.2.1<(p.bd.length:Int))) (.ob (inB y1.2.1 p.bd.length)<|.br (!(p.bd.getD y1.2.1.toNat default).done) (.ob (True)<|.ob (BK (y1.1.length+[y1.2.1].length) 8)<|.ob (p.bd=p.bd)<|.ob (Value.int IntKind.i64 (p.bd.length:Int)=Value.int IntKind.i64 (p.bd.length:Int))<|.ob (bk1 (y1.1++[y1.2.1],(w1 y1.2.1,())))<|.ok) (.ob (p.bd=p.bd)<|.ob (Value.int IntKind.i64 (p.bd.length:Int)=Value.int IntKind.i64 (p.bd.length:Int))<|.ob (bk1 (y1.1,(w1 y1.2.1,())))<|.ok)) (.lf Bf (y1.1,()))) ?_;refine Aw ?_ fun(y1:List Int×Int×PUnit) i1=>Ab (fun h2=>Aa ?_ fun o3=>Ab (fun h4=>Aa trivial fun _=>Aa ?_ fun o5=>Aa rfl fun _=>Aa rfl fun _=>Aa ?_ fun o6=>trivial) (fun h4=>Aa rfl fun _=>Aa rfl fun _=>Aa ?_ fun o7=>trivial)) (fun h2=>lfY ?_)
 all_goals
  have h0:openIdx (fun s:SSlot=>!s.done) (p.bd.drop 0) 0=openSlots p:=rfl;try simp only[AA] at *
  try simp only[Ch,Bf,std,Nat.reduceAdd,openIdx_at,openIdx_end,Qa4,Qa6,Qb8,Qb7] at *
  try simp(disch:=omega) only[wrapId',toNat1] at *
  try simp(disch:=omega) only[Qa2,Qa3]
 all_goals first|trivial|omega|grind[wrapId',toNat1,drop_cons,drop_end,good_len,maxLen,openIdx_at,openIdx_end,List.length_append,List.length_cons,List.length_nil,List.append_assoc])
def BL:Fct:=⟨[.v (.el .page)],[.sl .int],fun(x_:SPage×Unit)=>x_.1.bg.length<=1000000000000,fun(x_:SPage×Unit)=>(openMods x_.1,())⟩
abbrev CJ (p:SPage):LInv:=⟨[⟨.s,3,true,.sl .int⟩,⟨.s,4,true,.el .int⟩,⟨.b,1,false,.el .page⟩],fun(z_ x_:(List Int)×Int×SPage×Unit)=>(0<=x_.2.1/\x_.2.1<=p.bg.length/\x_.1.length<=x_.2.1/\x_.1++openIdx (fun m=>!m.done) (p.bg.drop x_.2.1.toNat) x_.2.1=openMods p)/\x_.2.2.1=z_.2.2.1,fun(x_:(List Int)×Int×SPage×Unit)=>p.bg.length-x_.2.1.toNat⟩
def Aju:=Ak1.a BL<|Fct.p (KP [1,2,3,4] [10,19]) (fun⟨p,_⟩=>lv [(3,CJ p)]) Ak1.2 func155 (by
 rintro⟨(p:SPage),_⟩ hp;refine ho (lpx (CJ p) ([],((0:Int),(p,()))) fun(y1:List Int×Int×SPage×PUnit) bk1=>.br (decide (y1.2.1<(y1.2.2.1.bg.length:Int))) (.ob (inB y1.2.1 y1.2.2.1.bg.length)<|.br (!(y1.2.2.1.bg.getD y1.2.1.toNat default).done) (.ob (True)<|.ob (BK (y1.1.length+[y1.2.1].length) 8)<|.ob (bk1 (y1.1++[y1.2.1],(w1 y1.2.1,(y1.2.2.1,()))))<|.ok) (.ob (bk1 (y1.1,(w1 y1.2.1,(y1.2.2.1,()))))<|.ok)) (.lf BL (y1.1,()))) ?_;refine Aw ?_ fun(y1:List Int×Int×SPage×PUnit) i1=>Ab (fun h2=>Aa ?_ fun o3=>Ab (fun h4=>Aa trivial fun _=>Aa ?_ fun o5=>Aa ?_ fun o6=>trivial) (fun h4=>Aa ?_ fun o7=>trivial)) (fun h2=>lfY ?_)
 all_goals
  have h0:openIdx (fun m:SModule=>!m.done) (p.bg.drop 0) 0=openMods p:=rfl;try simp only[AA] at *
  try simp only[CJ,BL,std,Nat.reduceAdd,openIdx_at,openIdx_end,Qa4,Qa6,Qb8,Qb7] at *
  try simp(disch:=omega) only[wrapId',toNat1] at *
  try simp(disch:=omega) only[Qa2,Qa3]
 all_goals first|trivial|omega|grind[wrapId',toNat1,drop_cons,drop_end,good_len,maxLen,openIdx_at,openIdx_end,List.length_append,List.length_cons,List.length_nil,List.append_assoc])
abbrev CC (p:SPage):LInv:=⟨[⟨.s,3,true,.sl .int⟩,⟨.s,10,true,.el .int⟩],fun _ (x_:(List Int)×Int×Unit)=>0<=x_.2.1/\x_.2.1<=p.bg.length/\x_.1.length<=x_.2.1/\x_.1++openIdx (fun m=>!m.done) (p.bg.drop x_.2.1.toNat) x_.2.1=openMods p,fun(x_:(List Int)×Int×Unit)=>p.bg.length-x_.2.1.toNat⟩
def Alo:=Aju.a BL<|Fct.p (KP [1,2,3,4,5,8,9,10] [11,17]) (fun⟨p,_⟩=>lv [(3,CC p)]) Aju.2 func110 (by
 rintro⟨(p:SPage),_⟩ hp;refine ho (lpx (CC p) ([],((0:Int),())) fun(y1:List Int×Int×PUnit) bk1=>.br (decide (y1.2.1<(p.bg.length:Int))) (.ob (inB y1.2.1 p.bg.length)<|.br (!(p.bg.getD y1.2.1.toNat default).done) (.ob (True)<|.ob (BK (y1.1.length+[y1.2.1].length) 8)<|.ob (p.bg=p.bg)<|.ob (Value.int IntKind.i64 (p.bg.length:Int)=Value.int IntKind.i64 (p.bg.length:Int))<|.ob (bk1 (y1.1++[y1.2.1],(w1 y1.2.1,())))<|.ok) (.ob (p.bg=p.bg)<|.ob (Value.int IntKind.i64 (p.bg.length:Int)=Value.int IntKind.i64 (p.bg.length:Int))<|.ob (bk1 (y1.1,(w1 y1.2.1,())))<|.ok)) (.lf BL (y1.1,()))) ?_;refine Aw ?_ fun(y1:List Int×Int×PUnit) i1=>Ab (fun h2=>Aa ?_ fun o3=>Ab (fun h4=>Aa trivial fun _=>Aa ?_ fun o5=>Aa rfl fun _=>Aa rfl fun _=>Aa ?_ fun o6=>trivial) (fun h4=>Aa rfl fun _=>Aa rfl fun _=>Aa ?_ fun o7=>trivial)) (fun h2=>lfY ?_)
 all_goals
  have h0:openIdx (fun m:SModule=>!m.done) (p.bg.drop 0) 0=openMods p:=rfl;try simp only[AA] at *
  try simp only[CC,BL,std,Nat.reduceAdd,openIdx_at,openIdx_end,Qa4,Qa6,Qb8,Qb7] at *
  try simp(disch:=omega) only[wrapId',toNat1] at *
  try simp(disch:=omega) only[Qa2,Qa3]
 all_goals first|trivial|omega|grind[wrapId',toNat1,drop_cons,drop_end,good_len,maxLen,openIdx_at,openIdx_end,List.length_append,List.length_cons,List.length_nil,List.append_assoc])
def allowsInline (p:SPolicy) (n:ByteArray):Bool:=!p.set_||(!decide (p.nonce=⟨#[]⟩)&&decide (p.nonce=n))
def fAllowsInline:Fct:=⟨[.v (.el .bi),.v (.el .str)],[.el .bool],fun(x_:SPolicy×ByteArray×Unit)=>True,fun(x_:SPolicy×ByteArray×Unit)=>(allowsInline x_.1 x_.2.1,())⟩
theorem q15 (p:SPolicy) (n:ByteArray) (hp:fAllowsInline.pre (p,n,())):Out.holds (fAllowsInline.ctr (p,n,())).post (.br (!p.set_) (.lf fAllowsInline (true,())) (.br (!p.nonce.toList==(⟨#[]⟩:ByteArray).toList) (.lf fAllowsInline (p.nonce.toList==ByteArray.toList n,())) (.lf fAllowsInline (false,())))):=by
 refine Ab (fun h1=>lfY ?_) (fun h1=>Ab (fun h2=>lfY ?_) (fun h2=>lfY ?_));all_goals
  try simp only[AA] at *
  try simp only[fAllowsInline,std,Nat.reduceAdd,allowsInline] at *
  try simp(disch:=omega) only[wrapId',toNat1] at *
  try simp(disch:=omega) only[Qa2,Qa3]
 all_goals first|trivial|omega|grind[wrapId',toNat1,drop_cons,drop_end,good_len,maxLen,allowsInline]
def Ake:=Alo.a fAllowsInline<|Fct.o [1,2,4] Alo.2 func406 (by
 rintro⟨(p:SPolicy),(n:ByteArray),_⟩ hp;exact ho _ (q15 p n hp))
def Aip:=Ake.a fAllowsInline<|Fct.o [1,2,4] Ake.2 func376 (by
 rintro⟨(p:SPolicy),(n:ByteArray),_⟩ hp;exact ho _ (q15 p n hp))
def isVoid (n:ByteArray):Bool:=decide (n=⟨#[105,109,103]⟩)||decide (n=⟨#[108,105,110,107]⟩)
def Ee:Fct:=⟨[.v (.el .str)],[.el .bool],fun(x_:ByteArray×Unit)=>True,fun(x_:ByteArray×Unit)=>(isVoid x_.1,())⟩
theorem q16 (n:ByteArray) (hp:Ee.pre (n,())):Out.holds (Ee.ctr (n,())).post (.br (ByteArray.toList n==(⟨#[105,109,103]⟩:ByteArray).toList) (.lf Ee (true,())) (.lf Ee (ByteArray.toList n==(⟨#[108,105,110,107]⟩:ByteArray).toList,()))):=by
 refine Ab (fun h1=>lfY ?_) (fun h1=>lfY ?_);all_goals
  try simp only[AA] at *
  try simp only[Ee,std,Nat.reduceAdd,isVoid] at *
  try simp(disch:=omega) only[wrapId',toNat1] at *
  try simp(disch:=omega) only[Qa2,Qa3]
 all_goals first|trivial|omega|grind[wrapId',toNat1,drop_cons,drop_end,good_len,maxLen,isVoid]
def Aic:=Aip.a Ee<|Fct.o [0,2] Aip.2 func403 (by
 rintro⟨(n:ByteArray),_⟩ hp;exact ho _ (q16 n hp))
def AiR:=Aic.a Ee<|Fct.o [0,2] Aic.2 func373 (by
 rintro⟨(n:ByteArray),_⟩ hp;exact ho _ (q16 n hp))
def sheetsOf (l:List SSlot):List SSheet:=(l.filter fun s=>decide (s.mode=2)&&(s.done&&decide (s.code=1))).map fun s=>parseSheet s.body
theorem sheetsOf_at {l:List SSlot} {i:Nat} (h:i<l.length):sheetsOf (l.drop i)=if(l.getD i default).mode=2/\(l.getD i default).done=true/\(l.getD i default).code=1 then parseSheet (l.getD i default).body::sheetsOf (l.drop (i+1)) else sheetsOf (l.drop (i+1)):=by
 rw[drop_cons h];unfold sheetsOf;rw[List.filter_cons];by_cases hc:(l.getD i default).mode=2/\(l.getD i default).done=true/\(l.getD i default).code=1
 ·rw[Qa2 hc,Qa2 (by rw[Qf2 hc.1,hc.2.1,Qf2 hc.2.2];rfl)];rfl
 ·rw[Qa3 hc,Qa3 (by intro q;simp only[Qa1,Qa7] at q;exact hc q)]
theorem sheetsOf_end {l:List SSlot} {i:Nat} (h:l.length<=i):sheetsOf (l.drop i)=[]:=by rw[Qb6 h];rfl
def okBod (p:SPage):Prop:=∀ i,i<p.bd.length->(p.bd.getD i default).body.size<=4200000000
def CH:Fct:=⟨[.v (.el .page)],[.sl .sheet],fun(x_:SPage×Unit)=>szL AI x_.1.bd<=1000000000000/\okBod x_.1,fun(x_:SPage×Unit)=>(sheetsOf x_.1.bd,())⟩
abbrev CL (p:SPage):LInv:=⟨[⟨.s,3,true,.sl .sheet⟩,⟨.s,4,true,.el .int⟩,⟨.b,1,false,.el .page⟩],fun(z_ x_:(List SSheet)×Int×SPage×Unit)=>(0<=x_.2.1/\x_.2.1<=p.bd.length/\x_.1.length<=x_.2.1/\x_.1++sheetsOf (p.bd.drop x_.2.1.toNat)=sheetsOf p.bd)/\x_.2.2.1=z_.2.2.1,fun(x_:(List SSheet)×Int×SPage×Unit)=>p.bd.length-x_.2.1.toNat⟩
def Ai7:=AiR.a CH<|Fct.p (KP [1,2,3,4,5] [11,30]) (fun⟨p,_⟩=>lv [(3,CL p)]) AiR.2 func355 (by
 rintro⟨(p:SPage),_⟩ hp;refine ho (lpx (CL p) ([],((0:Int),(p,()))) fun(y1:List SSheet×Int×SPage×PUnit) bk1=>let q1_:Out:=.ob (bk1 (y1.1,(w1 y1.2.1,(y1.2.2.1,()))))<|.ok;let q0_:=y1.2.2.1.bd.getD y1.2.1.toNat default;.br (decide (y1.2.1<(y1.2.2.1.bd.length:Int))) (.ob (inB y1.2.1 y1.2.2.1.bd.length)<|.br (q0_.mode==2) (.br (q0_.done) (.br (q0_.code==1) (.cl fParseSheet (q0_.body,()) fun z2=>.ob (BK (y1.1.length+[z2.1].length) 24)<|.ob (bk1 (y1.1++[z2.1],(w1 y1.2.1,(y1.2.2.1,()))))<|.ok) q1_) q1_) q1_) (.lf CH (y1.1,()))) ?_;refine Aw ?_ fun(y1:List SSheet×Int×SPage×PUnit) i1=>Ab (fun h2=>Aa ?_ fun o3=>Ab (fun h4=>Ab (fun h5=>Ab (fun h6=>Ae ?_ fun o7=>(Aa ?_ fun o8=>Aa ?_ fun o9=>trivial)) (fun h6=>Aa ?_ fun o10=>trivial)) (fun h5=>Aa ?_ fun o11=>trivial)) (fun h4=>Aa ?_ fun o12=>trivial)) (fun h2=>lfY ?_)
 all_goals
  have h0:sheetsOf (p.bd.drop 0)=sheetsOf p.bd:=rfl;have hl:=Ad AI p.bd;have hg:∀ i,i<p.bd.length->(p.bd.getD i default).body.size<=4200000000:=hp.2;have hg2:szL AI p.bd<=1000000000000:=hp.1;clear hp;try simp only[AA] at *
  try simp only[CL,fParseSheet,CH,std,Nat.reduceAdd,fParseSheet,sheetsOf_at,sheetsOf_end,Qa4,Qa6,Qb8,Qb7] at *
  try simp(disch:=omega) only[wrapId',toNat1] at *
  try simp(disch:=omega) only[Qa2,Qa3]
 all_goals first|trivial|omega|grind[wrapId',toNat1,drop_cons,drop_end,good_len,maxLen,fParseSheet,sheetsOf_at,sheetsOf_end,List.length_append,List.length_cons,List.length_nil,List.append_assoc])
theorem Y4 {w:ByteArray} {r:SRule} (h:ruleOf w=some r):r.name.size<=w.size/\1<=r.color/\r.color<=999:=by
 unfold ruleOf at h;split at h
 ·cases h
 ·rename_i q hq;split at h
  ·rename_i hc;have:=Kr (p:=q.1) (q:=q.2) hq;obtain rfl:=Option.some.inj h;rw[Bq] at this;exact⟨by rw[Fh];omega,hc.2.2⟩
  ·cases h
theorem EB:∀ (l:List ByteArray) (acc:List SRule),szL KT (parseRules l acc)<=szL KT acc+szL Ac l/\∀ r,r∈parseRules l acc->r∈acc\/1<=r.color/\r.color<=999
 | [],acc=>⟨by rw[parseRules];omega,fun r h=>.inl h⟩
 | w::l,acc=>by
  rw[parseRules,Ax];by_cases hc:acc.length<8
  ·rw[Qa2 hc];cases hr:ruleOf w with
   | none=>
    obtain⟨i1,i2⟩:=EB l acc;rw[Option.toList_none,Qd8];exact⟨by omega,i2⟩
   | some x=>
    obtain⟨i1,i2⟩:=EB l (acc++[x]);have hx:=Y4 hr;rw[Option.toList_some];rw[Hh] at i1;refine⟨by simp only[KT,Ac] at *;omega,fun r h=>?_⟩;rcases i2 r h with h|h
    ·rcases Qc0.1 h with h|h
     ·exact .inl h
     ·rw[List.mem_singleton] at h;subst h;exact .inr hx.2
    ·exact .inr h
  ·rw[Qa3 hc];obtain⟨i1,i2⟩:=EB l acc;exact⟨by omega,i2⟩
theorem Nq (s:ByteArray):Dl (parseSheet s)<=s.size+1/\∀ r,r∈(parseSheet s).rules->1<=r.color/\r.color<=999:=by
 obtain⟨h1,h2⟩:=EB (spl 59 s) [];rw[LQ] at h1;have h0:szL KT []=0:=rfl;exact⟨by simp only[Dl,parseSheet];omega,fun r h=>(h2 r h).elim (fun h=>by cases h) id⟩
theorem Ec:∀ (l:List SSlot),szL Dl (sheetsOf l)<=2*szL AI l/\okSheets (sheetsOf l)
 | []=>⟨Nat.zero_le _,fun s h=>by cases h⟩
 | x::l=>by
  obtain⟨i1,i2⟩:=Ec l;have e:=sheetsOf_at (l:=x::l) (i:=0) (by simp);rw[Qf0] at e;rw[e,Ax];split
  ·have hp:=Nq x.body;refine⟨?_,fun s h=>?_⟩
   ·rw[Ax];simp only[AI] at *;show Dl (parseSheet x.body)+1+szL Dl (sheetsOf l)<=_;omega
   ·rcases Qd3.1 h with rfl|h
    ·intro r hr;have:=hp.2 r hr;omega
    ·exact i2 s h
  ·exact⟨by show szL Dl (sheetsOf l)<=_;omega,i2⟩
theorem Lr (s:ByteArray):∀ (l:List ByteArray) (k:Int),(line8L s l k).2=true->(line8L s l k).1.text.size<=60
 | [],k,h=>by cases h
 | w::l,k,h=>by
  rw[line8L] at h ⊢;split
  ·rename_i hc;rw[Qa2 hc] at h;dsimp only at h ⊢;split at h
   ·have:=Qf9 h;rw[Qc4];omega
   ·have:=CA h;omega
  ·rename_i hc;rw[Qa3 hc] at h;exact Lr s l _ h
theorem Em (s:ByteArray):szL CT (parseScript s).1<=366/\(parseScript s).1.length<=6:=by
 unfold parseScript;split
 ·exact⟨by decide,by decide⟩
 ·split
  ·rename_i hc;have hs:∀ l:List ByteArray,allOk8 l=true->szL CT (lines8 l)<=61*l.length:=by
    intro l
    induction l with
    | nil=>intro _;decide
    | cons w l ih=>
     intro h;simp only[allOk8,List.all_cons,Qa1] at h;have:=ih h.2;have h2:=Lr w _ _ h.1;show szL CT ((line8 w).1::lines8 l)<=_;rw[Ax];simp only[CT,Qa6,line8] at *;omega
   have:=hs _ hc.2;exact⟨by dsimp only;omega,by dsimp only;rw[lines8,Qf6];exact hc.1⟩
  ·exact⟨by decide,by decide⟩
theorem CV {α:Type} (f:α->Nat):∀ (l m:List α),szL f (l++m)=szL f l+szL f m
 | [],m=>by show szL f m=0+szL f m;omega
 | x::l,m=>by rw[Qf4,Ax,Ax,CV f l m];omega
def addLog:List ByteArray->List ByteArray->List ByteArray
 | g,[]=>g
 | g,x::l=>if g.length<40 then addLog (g++[x]) l else g
theorem P3 {l g:List ByteArray} {i:Nat} (h:i<l.length):addLog g (l.drop i)=if g.length<40 then addLog (g++[l.getD i default]) (l.drop (i+1)) else g:=by rw[drop_cons h];rfl
theorem MM {l g:List ByteArray} {i:Nat} (h:l.length<=i):addLog g (l.drop i)=g:=by rw[Qb6 h];cases g<;>rfl
theorem FZ {l g:List ByteArray} (h:¬ g.length<40):addLog g l=g:=by
 cases l with
 | nil=>cases g<;>rfl
 | cons x l=>rw[addLog,Qa3 h]
theorem FO (g:List ByteArray):addLog g []=g:=by cases g<;>rfl
def rsOf (p:SPage) (c:ByteArray):SBuilder×ByteArray×List ByteArray:=runScript p.ba (sheetsOf p.bd) (parseScript c).1
def runCode (p:SPage) (c:ByteArray) (w:Bool):SPage :=
 if(parseScript c).2=true then{ p with ba:=(rsOf p c).1,bm:=if w=true then tokensOf (rsOf p c).2.1++p.bm else p.bm,log:=addLog p.log (rsOf p c).2.2 }
 else{ p with log:=addLog p.log [⟨#[101,114,114,111,114]⟩]}
theorem F6 (l:List SSheet):∀ (r:List SLine) (b:SBuilder) (w:ByteArray) (g:List ByteArray),szBuilder (runLines l r b w g).1<=szBuilder b+szL CT r/\(runLines l r b w g).2.1.size<=w.size+szL CT r/\(runLines l r b w g).2.2.length<=g.length+r.length
 | [],b,w,g=>⟨Qg5 _ _,Qg5 _ _,Qg5 _ _⟩
 | x::r,b,w,g=>by
  have h:=I0 b l x;have i1:=F6 l r (runLine b l x).1 (w++(runLine b l x).2.1) (if(runLine b l x).2.2=⟨#[]⟩ then g else g++[(runLine b l x).2.2]);rw[runLines,Ax];have hg:(if(runLine b l x).2.2=⟨#[]⟩ then g else g++[(runLine b l x).2.2]).length<=g.length+1:=by split<;>simp
  rw[Qb5] at i1;simp only[Qa6,CT] at *
  exact⟨by omega,by omega,by omega⟩
theorem Xk (p:SPage) (c:ByteArray):szBuilder (rsOf p c).1<=szBuilder p.ba+366/\(rsOf p c).2.1.size<=366/\(rsOf p c).2.2.length<=6:=by
 have h1:=F6 (sheetsOf p.bd) (parseScript c).1 p.ba ⟨#[]⟩ [];have h2:=Em c;have h0:ByteArray.size ⟨#[]⟩=0:=rfl;simp only[rsOf,runScript,Qb8] at *
 omega
theorem FX (s:ByteArray):szL Al (tokensOf s)<=s.size+2/\(tokensOf s).length<=s.size+2:=by
 have h1:=MJ s;have h2:=UH (feedAll s).2;have h3:szL Al (tokensOf s)<=s.size+2:=by unfold tokensOf;rw[CV];omega
 exact⟨h3,Qe7 (Ad _ _) h3⟩
def Bo:Fct:=⟨[.v (.el .page),.v (.el .str),.v (.el .bool)],[.el .page],fun(x_:SPage×ByteArray×Bool×Unit)=>szPage x_.1<=1000000000000/\szBuilder x_.1.ba<=40000000000/\szL AI x_.1.bd<=40000000000/\x_.2.1.size<=4200000000/\okBod x_.1,fun(x_:SPage×ByteArray×Bool×Unit)=>(runCode x_.1 x_.2.1 x_.2.2.1,())⟩
abbrev CO (p:SPage) (c:ByteArray) (w:Bool):LInv:=⟨[⟨.b,7,true,.el .page⟩,⟨.s,13,true,.el .int⟩,⟨.b,6,true,.el .page⟩,⟨.s,12,true,.sl .str⟩],fun(z_ x_:SPage×Int×SPage×(List ByteArray)×Unit)=>((0<=x_.2.1/\x_.2.1<=(rsOf p c).2.2.length/\x_.1={ p with ba:=(rsOf p c).1,log:=x_.1.log }/\addLog x_.1.log ((rsOf p c).2.2.drop x_.2.1.toNat)=addLog p.log (rsOf p c).2.2/\x_.1.log.length<=p.log.length+x_.2.1)/\x_.2.2.1=z_.2.2.1)/\x_.2.2.2.1=z_.2.2.2.1,fun(x_:SPage×Int×SPage×(List ByteArray)×Unit)=>(rsOf p c).2.2.length-x_.2.1.toNat⟩
def AlL:=Ai7.a Bo<|Fct.p (KP [1,2,3,6,7,8,9,10,11,12,13] [22,26,54,66]) (fun⟨p,c,w,_⟩=>lv [(10,CO p c w)]) Ai7.2 func304 (by
 rintro⟨(p:SPage),(c:ByteArray),(w:Bool),_⟩ hp;refine ho (.cl fCopyPage (p,()) fun z2=>.cl AC (c,()) fun z3=>.br (!z3.2.1) (.br (decide ((z2.1.log.length:Int)<40)) (.ob (True)<|.ob (BK (z2.1.log.length+1) 16)<|.lf Bo ({z2.1 with log:=z2.1.log++[(⟨#[101,114,114,111,114]⟩:ByteArray)]},())) (.lf Bo (z2.1,()))) (.cl CH (p,()) fun z4=>.cl BR (p.ba,z4.1,z3.1,()) fun z5=>lpx (CO p c w) (({z2.1 with ba:=z5.1}:SPage),((0:Int),(default,(z5.2.2.1,())))) fun(y8:SPage×Int×SPage×List ByteArray×PUnit) bk8=>let q0_:Out:=.br (w) (.cl Du (z5.2.1,()) fun z6=>.ob (BK (z6.1.length+y8.1.bm.length) 64)<|.lf Bo ({y8.1 with bm:=z6.1++y8.1.bm},())) (.lf Bo (y8.1,()));.br (decide (y8.2.1<(y8.2.2.2.1.length:Int))) (.br (decide ((y8.1.log.length:Int)<40)) (.ob (inB y8.2.1 y8.2.2.2.1.length)<|.ob (y8.2.1.toNat<y8.2.2.2.1.length)<|.ob (True)<|.ob (BK (y8.1.log.length+[y8.2.2.2.1.getD y8.2.1.toNat default].length) 16)<|.ob (Value.string c=Value.string c)<|.ob (Value.bool w=Value.bool w)<|.ob (Value.bool z3.2.1=Value.bool z3.2.1)<|.ob (Value.string z5.2.1=Value.string z5.2.1)<|.ob (bk8 (({y8.1 with log:=y8.1.log++[y8.2.2.2.1.getD y8.2.1.toNat default]}:SPage),(w1 y8.2.1,(y8.2.2.1,(y8.2.2.2.1,())))))<|.ok) q0_) q0_)) ?_;refine Ae ?_ fun o1=>(Ae ?_ fun o2=>(Ab (fun h3=>Ab (fun h4=>Aa trivial fun _=>Aa ?_ fun o5=>lfY ?_) (fun h4=>lfY ?_)) (fun h3=>Ae ?_ fun o6=>(Ae ?_ fun o7=>(Aw ?_ fun(y8:SPage×Int×SPage×List ByteArray×PUnit) i8=>Ab (fun h9=>Ab (fun h10=>Aa ?_ fun o11=>Aa ?_ fun o12=>Aa trivial fun _=>Aa ?_ fun o13=>Aa rfl fun _=>Aa rfl fun _=>Aa rfl fun _=>Aa rfl fun _=>Aa ?_ fun o14=>trivial) (fun h10=>Ab (fun h15=>Ae ?_ fun o16=>(Aa ?_ fun o17=>lfY ?_)) (fun h15=>lfY ?_))) (fun h9=>Ab (fun h18=>Ae ?_ fun o19=>(Aa ?_ fun o20=>lfY ?_)) (fun h18=>lfY ?_)))))))
 all_goals
  have hz:=Xk p c;have hs:=Em c;have hk:=Ec p.bd;have hq:szL Al p.bm+szBuilder p.ba+szL AI p.bd+szL Ac p.log<=szPage p:=by simp only[szPage];omega
  have hq1:=Ad Al p.bm;have hq2:=Ad Ac p.log
 all_goals obtain⟨hp1,hp2,hp3,hp4,hp5⟩:=(show szPage p<=1000000000000/\szBuilder p.ba<=40000000000/\szL AI p.bd<=40000000000/\c.size<=4200000000/\okBod p from hp)
 all_goals
  have hrs:runScript p.ba (sheetsOf p.bd) (parseScript c).1=rsOf p c:=rfl;try simp only[AA] at *
  try simp only[CO,fCopyPage,AC,Bo,BR,CH,Du,std,Nat.reduceAdd,fCopyPage,AC,BR,CH,Du,hrs] at *
 all_goals first|trivial|omega|exact⟨by omega,hp5⟩|exact⟨by omega,by omega,by omega,hk.2⟩|exact⟨by omega,by omega,rfl,rfl,by omega⟩|skip
 all_goals first|(unfold runCode;rw[Qa3 (by rw[show Prod.snd _=false by assumption];decide)];first|rw[addLog,Qa2 (by omega),FO]|(rw[FZ (by omega)]))|skip
 all_goals (obtain⟨⟨⟨a1,a2,a3,a4,a5⟩,a6⟩,a7⟩:=i8;obtain⟨q,i,d,lg,u⟩:=y8;try dsimp only at *;generalize q.log=L at *;subst a3;subst a7;try dsimp only at *)
 all_goals first|trivial|omega|(have:=FX (rsOf p c).2.1;simp only[BK];omega)|(have:=FX (rsOf p c).2.1;omega)|skip
 all_goals first|(rw[MM (by omega)] at a4;unfold runCode;rw[Qa2 (by assumption),<-a4];first|rw[Qa2 (by assumption)]|(rw[Qa3 (by rw[show w=false by assumption];decide)]))|(rw[FZ (by omega)] at a4;unfold runCode;rw[Qa2 (by assumption),<-a4];first|rw[Qa2 (by assumption)]|(rw[Qa3 (by rw[show w=false by assumption];decide)]))|skip
 all_goals (rw[P3 (by omega),Qa2 (by omega)] at a4;rw[Ah (by omega),show(i+1).toNat=i.toNat+1 by omega])
 all_goals exact⟨⟨⟨⟨by omega,by omega,rfl,a4,by rw[Qa4];simp only[Qa6,Qb8];omega⟩,a6⟩,rfl⟩,by omega⟩)
def closeN (b:SBuilder) (n:ByteArray):Nat->List Int
 | 0=>b.bj
 | 1=>b.bj
 | m+2=>if 0<=b.bj.getD (m+1) default/\b.bj.getD (m+1) default<b.bh.length/\(b.bh.getD (b.bj.getD (m+1) default).toNat default).name=n then b.bj.take (m+1) else closeN b n (m+1)
theorem OF {b:SBuilder} {n:ByteArray} {i:Int} (h:1<=i):closeN b n (i+1).toNat=if 0<=b.bj.getD i.toNat default/\b.bj.getD i.toNat default<b.bh.length/\(b.bh.getD (b.bj.getD i.toNat default).toNat default).name=n then b.bj.take i.toNat else closeN b n i.toNat:=by
 obtain⟨m,rfl⟩:∃ m:Nat,i=m+1:=⟨(i-1).toNat,by omega⟩;rw[show((m:Int)+1+1).toNat=m+2 by omega,show((m:Int)+1).toNat=m+1 by omega];rfl
theorem MB {b:SBuilder} {n:ByteArray} {i:Int} (h:i<=0):closeN b n (i+1).toNat=b.bj:=by
 have h2:(i+1).toNat=0\/(i+1).toNat=1:=by omega
 rcases h2 with h2|h2<;>rw[h2]<;>rfl
def closeB (b:SBuilder) (n:ByteArray):SBuilder:=⟨b.bh,closeN b n b.bj.length⟩
def H1:GS:=⟨[.g (.el .ba),.l (.v (.el .str))],[.el .ba],fun(x_:SBuilder×ByteArray×Unit)=>szBuilder x_.1<=1000000000000,fun(x_:SBuilder×ByteArray×Unit)=>((closeB x_.1 x_.2.1,()),(()))⟩
abbrev Cs (b:SBuilder) (n:ByteArray):LInv:=⟨[⟨.s,5,true,.el .int⟩,⟨.b,2,true,.el .ba⟩,⟨.b,4,true,.el .ba⟩],fun _ (x_:Int×SBuilder×SBuilder×Unit)=>x_.2.1=b/\-1<=x_.1/\x_.1<b.bj.length/\closeN b n (x_.1+1).toNat=closeN b n b.bj.length,fun(x_:Int×SBuilder×SBuilder×Unit)=>(x_.1+1).toNat⟩
def Akn:=AlL.G H1<|GS.of (S:=H1) (L:=fun⟨b,n,_⟩=>fun|2=>some (Cs b n)|_=>none) (kp:=(KP [1,2,4,5,6] [12,35])) AlL.2 func402 (by kernel_rfl) (by kernel_rfl) (by
 rintro⟨(b:SBuilder),(n:ByteArray),_⟩ hp;refine ho (lpx (Cs b n) (wr ((b.bj.length:Int)-(1:Int)),(b,(default,()))) fun(y1:Int×SBuilder×SBuilder×PUnit) bk1=>.br (decide (y1.1>0)) (.ob (inB y1.1 y1.2.1.bj.length)<|.ob (y1.1.toNat<y1.2.1.bj.length)<|.cl fInRange (y1.2.1.bj.getD y1.1.toNat default,(0:Int),wr ((y1.2.1.bh.length:Int)-(1:Int)),()) fun z2=>.br (z2.1) (.ob (0<=y1.2.1.bj.getD y1.1.toNat default/\y1.2.1.bj.getD y1.1.toNat default<(y1.2.1.bh.length:Int))<|.ob ((y1.2.1.bj.getD y1.1.toNat default).toNat<y1.2.1.bh.length)<|.br ((y1.2.1.bh.getD (y1.2.1.bj.getD y1.1.toNat default).toNat default).name.toList==n.toList) (.ob (0<=y1.1/\y1.1<=(y1.2.1.bj.length:Int))<|.ob (0+(y1.1.toNat-0)<=y1.2.1.bj.length)<|GS.out H1 ((⟨y1.2.1.bh,cut y1.2.1.bj 0 (y1.1.toNat-0)⟩,()),(()))) (.ob (Value.string n=Value.string n)<|.ob (bk1 (wr (y1.1-(1:Int)),(y1.2.1,(y1.2.2.1,()))))<|.ok)) (.ob (Value.string n=Value.string n)<|.ob (bk1 (wr (y1.1-(1:Int)),(y1.2.1,(y1.2.2.1,()))))<|.ok)) (GS.out H1 ((y1.2.1,()),(())))) ?_;repeat' first|(guard_target =~ Out.holds _ _;first|refine Aw (li:=Cs b n) ?_ fun(y1:Int×SBuilder×SBuilder×PUnit) i1=>?_|refine GS.leafY ?_|refine Ab (fun _=>?_) fun _=>?_|refine Ae ?_ fun _=>?_|refine Aa ?_ fun _=>?_)|exact trivial
 all_goals
  have hl:b.bj.length<=1000000000000:=by have h1:szBuilder b<=1000000000000:=hp;simp only[szBuilder] at h1;omega
  have hn:b.bh.length<=1000000000000:=by have h1:szBuilder b<=1000000000000:=hp;have:=Ad szNode b.bh;simp only[szBuilder] at h1;omega
  try simp only[AA] at *
  try simp only[Cs,H1,fInRange,std,Nat.reduceAdd,fInRange,inRange,closeB] at *
 all_goals try (obtain⟨a0,a1,a2,a3⟩:=i1;simp only[a0] at *)
 all_goals try simp only[Ah (show -9223372036854775808<=(b.bj.length:Int)-1/\(b.bj.length:Int)-1<=9223372036854775807 by omega)] at *
 all_goals first|trivial|omega|(rw[show((b.bj.length:Int)-1+1).toNat=b.bj.length by omega];exact⟨by omega,by omega,rfl⟩)|skip
 all_goals try simp only[Qa1,Qe4,Qa7,Qb0,Ah (show -9223372036854775808<=(b.bh.length:Int)-1/\(b.bh.length:Int)-1<=9223372036854775807 by omega)] at *
 all_goals first|omega|(rw[MB (by omega)] at a3;rw[<-a3])|skip
 all_goals rw[OF (by omega)] at a3
 all_goals first|(rw[Qa2 (by exact⟨by omega,by omega,by assumption⟩)] at a3;rw[<-a3];first|rfl|simp[cut])|(rw[Qa3 (by rintro⟨q1,q2,q3⟩;first|omega|exact absurd q3 (by assumption))] at a3;rw[Ah (by omega),show(y1.1-1+1).toNat=y1.1.toNat by omega];exact⟨⟨by first|assumption|trivial,by omega,by omega,a3⟩,by omega⟩))
def lastOpen (b:SBuilder):Int:=b.bj.getD (b.bj.length-1) default
def addToken (b:SBuilder) (t:SToken):SBuilder×Int :=
 if t.kind=2 then(closeB b t.name,-1)
 else if b.bh.length<40/\0<b.bj.length/\(t.kind=1/\isVoid t.name=false->b.bj.length<8)/\(t.kind=1\/t.kind=3/\t.text≠⟨#[]⟩) then
  (if t.kind=1 then⟨b.bh++[⟨t.name,⟨#[]⟩,lastOpen b,t.bn⟩],if isVoid t.name=true then b.bj else b.bj++[(b.bh.length:Int)]⟩ else⟨b.bh++[⟨⟨#[]⟩,t.text,lastOpen b,[]⟩],b.bj⟩,(b.bh.length:Int))
 else(b,-1)
theorem Fk {b:SBuilder} {t:SToken} (h:t.kind=2):addToken b t=(closeB b t.name,-1):=by unfold addToken;rw[Qa2 h]
theorem Kp {b:SBuilder} {t:SToken} (h:¬ t.kind=2) (h2:40<=b.bh.length\/b.bj.length=0\/(t.kind=1/\isVoid t.name=false/\8<=b.bj.length)\/(t.kind≠1/\(t.kind≠3\/t.text=⟨#[]⟩))):addToken b t=(b,-1):=by
 unfold addToken;rw[Qa3 h,Qa3];rintro⟨q1,q2,q3,q4⟩;rcases h2 with h2|h2|⟨e1,e2,e3⟩|⟨e1,e2⟩
 ·omega
 ·omega
 ·have:=q3 ⟨e1,e2⟩;omega
 ·rcases q4 with q4|⟨q4,q5⟩
  ·exact e1 q4
  ·rcases e2 with e2|e2
   ·exact e2 q4
   ·exact q5 e2
theorem KU {b:SBuilder} {t:SToken} (h:t.kind=1) (h1:b.bh.length<40) (h2:0<b.bj.length) (h3:isVoid t.name=true\/b.bj.length<8):addToken b t=(⟨b.bh++[⟨t.name,⟨#[]⟩,lastOpen b,t.bn⟩],if isVoid t.name=true then b.bj else b.bj++[(b.bh.length:Int)]⟩,(b.bh.length:Int)):=by
 unfold addToken;rw[Qa3 (by omega),Qa2 ⟨h1,h2,fun⟨_,e⟩=>h3.elim (fun q=>by rw[e] at q;cases q) id,.inl h⟩,Qa2 h]
theorem Kt {b:SBuilder} {t:SToken} (h:t.kind=3) (h1:b.bh.length<40) (h2:0<b.bj.length) (h3:¬ t.text=⟨#[]⟩):addToken b t=(⟨b.bh++[⟨⟨#[]⟩,t.text,lastOpen b,[]⟩],b.bj⟩,(b.bh.length:Int)):=by
 unfold addToken;rw[Qa3 (by omega),Qa2 ⟨h1,h2,fun⟨e,_⟩=>absurd e (by omega),.inr ⟨h,h3⟩⟩,Qa3 (by omega)]
theorem FY {b:SBuilder}:b.bj.getD ((b.bj.length:Int)-1).toNat default=lastOpen b:=by
 rw[show((b.bj.length:Int)-1).toNat=b.bj.length-1 by omega];rfl
def AS:Fct:=⟨[.v (.el .ba),.v (.el .token)],[.el .ba,.el .int],fun(x_:SBuilder×SToken×Unit)=>szBuilder x_.1<=100000000000/\Al x_.2.1<=100000000000,fun(x_:SBuilder×SToken×Unit)=>((addToken x_.1 x_.2.1).1,(addToken x_.1 x_.2.1).2,())⟩
def AkO:=Akn.a AS<|Fct.o (KP [2,3,4,5,6,7,8,9] [17,47,59,70,88]) Akn.2 func357 (by
 rintro⟨(b:SBuilder),(t:SToken),_⟩ hp;refine ho (let q7_:=(⟨#[]⟩:ByteArray);let q12_:=!t.text.toList==q7_.toList;let q6_:=(b.bj.length:Int);let q4_:=(b.bh.length:Int);let q13_:=decide (q4_>=40);let q2_:=q6_-(1:Int);let q11_:=0<=wr q2_/\wr q2_<q6_;let q1_:=(⟨q7_,t.text,b.bj.getD (wr q2_).toNat default,[]⟩:SNode);.cl fCopyBuilder (b,()) fun z2=>let q10_:=BK (z2.1.bj.length+[q4_].length) 8;let q9_:=BK (z2.1.bh.length+[q1_].length) 64;let q3_:Out:=.lf AS (z2.1,(-1:Int),());.br (t.kind==2) (.ob (H1.pre (z2.1,t.name,()))<|.lt _ (H1.fn (z2.1,t.name,())) fun z3=>.lf AS (z3.1.1,(-1:Int),())) (.br (t.kind==1) (.cl Ee (t.name,()) fun z4=>let q0_:Out:=.ob q11_<|.br (t.kind==1) (.cl fCopyAttrs (t.bn,()) fun z5=>let q5_:=(⟨t.name,q7_,b.bj.getD (wr q2_).toNat default,z5.1⟩:SNode);.ob (BK (z2.1.bh.length+[q5_].length) 64)<|.br (!z4.1) (.ob (True)<|.ob q10_<|.lf AS (⟨z2.1.bh++[q5_],z2.1.bj++[q4_]⟩,q4_,())) (.lf AS (⟨z2.1.bh++[q5_],z2.1.bj⟩,q4_,()))) (.br (t.kind==3) (.br q12_ (.ob q9_<|.br (!z4.1) (.ob (True)<|.ob q10_<|.lf AS (⟨z2.1.bh++[q1_],z2.1.bj++[q4_]⟩,q4_,())) (.lf AS (⟨z2.1.bh++[q1_],z2.1.bj⟩,q4_,()))) q3_) q3_);.br q13_ q3_ (.br (q6_==0) q3_ (.br (!z4.1) (.br (decide (q6_>=8)) q3_ q0_) q0_))) (.br q13_ q3_ (.br (q6_==0) q3_ (.ob q11_<|.br (t.kind==1) (.cl fCopyAttrs (t.bn,()) fun z7=>let q8_:=(⟨t.name,q7_,b.bj.getD (wr q2_).toNat default,z7.1⟩:SNode);.ob (BK (z2.1.bh.length+[q8_].length) 64)<|.lf AS (⟨z2.1.bh++[q8_],z2.1.bj⟩,q4_,())) (.br (t.kind==3) (.br q12_ (.ob q9_<|.lf AS (⟨z2.1.bh++[q1_],z2.1.bj⟩,q4_,())) q3_) q3_)))))) ?_;repeat' first|(guard_target =~ Out.holds _ _;first|refine lfY ?_|refine Ab (fun _=>?_) fun _=>?_|refine Ae ?_ fun _=>?_|refine Aa ?_ fun _=>?_|refine Dh ?_)|exact trivial
 all_goals
  have hl:b.bj.length<=100000000000:=by have h1:szBuilder b<=100000000000:=hp.1;simp only[szBuilder] at h1;omega
  have hn:b.bh.length<=100000000000:=by have h1:szBuilder b<=100000000000:=hp.1;have:=Ad szNode b.bh;simp only[szBuilder] at h1;omega
  have ha:szL A0 t.bn<=100000000000/\t.bn.length<=100000000000:=by have h1:Al t<=100000000000:=hp.2;have:=Ad A0 t.bn;simp only[Al] at h1;omega
  try simp only[AA] at *
  try simp only[AS,H1,fCopyAttrs,fCopyBuilder,Ee,std,Nat.reduceAdd,fCopyBuilder,fCopyAttrs,Ee,H1] at *
  try simp only[Ah (show -9223372036854775808<=(b.bj.length:Int)-1/\(b.bj.length:Int)-1<=9223372036854775807 by omega),FY] at *
 all_goals first|trivial|omega|skip
 all_goals first|(rw[Fk (by assumption)];exact⟨rfl,rfl⟩)|skip
 all_goals first|(rw[Kp (by omega) (by first|exact .inl (by omega)|exact .inr (.inl (by omega))|exact .inr (.inr (.inl ⟨by omega,by assumption,by omega⟩))|exact .inr (.inr (.inr ⟨by omega,.inl (by omega)⟩))|exact .inr (.inr (.inr ⟨by omega,.inr (by assumption)⟩)))];exact⟨rfl,rfl⟩)|skip
 all_goals first|(rw[KU (by omega) (by omega) (by omega) (by first|exact .inl (by assumption)|exact .inr (by omega))];first|rw[Qa2 (by assumption)]|rw[Qa3 (by rw[show isVoid t.name=false by assumption];decide)])|(rw[Kt (by omega) (by omega) (by omega) (by assumption)])|skip
 all_goals first|exact⟨rfl,rfl⟩|exact absurd ((show isVoid t.name=true by assumption).symm.trans (show isVoid t.name=false by assumption)) (by decide))
abbrev CK (b:SBuilder) (t:SToken):LInv:=⟨[⟨.b,6,true,.el .ba⟩,⟨.s,7,true,.el .int⟩,⟨.b,2,false,.el .ba⟩,⟨.b,3,false,.el .token⟩,⟨.b,4,true,.el .ba⟩],fun(z_ x_:SBuilder×Int×SBuilder×SToken×SBuilder×Unit)=>(((x_.1=b/\-1<=x_.2.1/\x_.2.1<b.bj.length/\closeN b t.name (x_.2.1+1).toNat=closeN b t.name b.bj.length)/\x_.2.2.1=z_.2.2.1)/\x_.2.2.2.1=z_.2.2.2.1)/\x_.2.2.2.2.1=z_.2.2.2.2.1,fun(x_:SBuilder×Int×SBuilder×SToken×SBuilder×Unit)=>(x_.2.1+1).toNat⟩
def Aka:=AkO.a AS<|Fct.p (KP [2,3,4,5,6,7,8,9,10,11] [14,23,50,57,100,116,134]) (fun⟨b,t,_⟩=>lv [(4,CK b t)]) AkO.2 func327 (by
 rintro⟨(b:SBuilder),(t:SToken),_⟩ hp;refine ho (let q15_:=BK (0+t.bn.length) 32;let q11_:=(⟨#[]⟩:ByteArray);let q6_:=(b.bh.length:Int);let q16_:=decide (q6_>=40);let q5_:=(b.bj.length:Int);let q8_:=q5_-(1:Int);let q14_:=0<=wr q8_/\wr q8_<q5_;let q3_:=(⟨q11_,t.text,b.bj.getD (wr q8_).toNat default,[]⟩:SNode);let q2_:=(⟨t.name,q11_,b.bj.getD (wr q8_).toNat default,[]++t.bn⟩:SNode);.cl fCopyBuilder (b,()) fun z2=>let q12_:=BK (z2.1.bj.length+[q6_].length) 8;let q10_:=BK (z2.1.bh.length+[q3_].length) 64;let q9_:=BK (z2.1.bh.length+[q2_].length) 64;let q7_:Out:=.lf AS (z2.1,(-1:Int),());let q0_:Out:=.br (t.kind==1) (.cl Ee (t.name,()) fun z3=>let q1_:Out:=.ob q14_<|.br (t.kind==1) (.ob (True)<|.ob q15_<|.ob q9_<|.br (!z3.1) (.ob (True)<|.ob q12_<|.lf AS (⟨z2.1.bh++[q2_],z2.1.bj++[q6_]⟩,q6_,())) (.lf AS (⟨z2.1.bh++[q2_],z2.1.bj⟩,q6_,()))) (.ob q10_<|.br (!z3.1) (.ob (True)<|.ob q12_<|.lf AS (⟨z2.1.bh++[q3_],z2.1.bj++[q6_]⟩,q6_,())) (.lf AS (⟨z2.1.bh++[q3_],z2.1.bj⟩,q6_,())));.br q16_ q7_ (.br (q5_==0) q7_ (.br (!z3.1) (.br (decide (q5_>=8)) q7_ q1_) q1_))) (.br q16_ q7_ (.br (q5_==0) q7_ (.ob q14_<|.br (t.kind==1) (.ob (True)<|.ob q15_<|.ob q9_<|.lf AS (⟨z2.1.bh++[q2_],z2.1.bj⟩,q6_,())) (.ob q10_<|.lf AS (⟨z2.1.bh++[q3_],z2.1.bj⟩,q6_,())))));.br (t.kind==2) (lpx (CK b t) (z2.1,(wr q8_,(b,(t,(default,()))))) fun(y3:SBuilder×Int×SBuilder×SToken×SBuilder×PUnit) bk3=>let q13_:=(y3.2.2.1.bh.length:Int);let q4_:Out:=.ob (Value.int IntKind.i64 0=Value.int IntKind.i64 (0:Int))<|.ob (bk3 (y3.1,(wr (y3.2.1-(1:Int)),(y3.2.2.1,(y3.2.2.2.1,(y3.2.2.2.2.1,()))))))<|.ok;.br (decide (y3.2.1>=1)) (.ob (inB y3.2.1 y3.2.2.1.bj.length)<|.br (decide (y3.2.2.1.bj.getD y3.2.1.toNat default>=0)) (.br (decide (y3.2.2.1.bj.getD y3.2.1.toNat default<q13_)) (.ob (0<=y3.2.2.1.bj.getD y3.2.1.toNat default/\y3.2.2.1.bj.getD y3.2.1.toNat default<q13_)<|.br ((y3.2.2.1.bh.getD (y3.2.2.1.bj.getD y3.2.1.toNat default).toNat default).name.toList==y3.2.2.2.1.name.toList) (.ob (0<=y3.2.1/\y3.2.1<=(y3.1.bj.length:Int))<|.ob (0+(y3.2.1.toNat-0)<=y3.1.bj.length)<|.lf AS (⟨y3.1.bh,cut y3.1.bj 0 (y3.2.1.toNat-0)⟩,(-1:Int),())) q4_) q4_) q4_) (.lf AS (y3.1,(-1:Int),()))) (.br (t.kind != 1) (.br (t.kind==3) (.br (!!t.text.toList==q11_.toList) q7_ q0_) (.br (!false) q7_ q0_)) q0_)) ?_;refine Ae ?_ fun o1=>(Ab (fun h2=>Aw ?_ fun(y3:SBuilder×Int×SBuilder×SToken×SBuilder×PUnit) i3=>Ab (fun h4=>Aa ?_ fun o5=>Ab (fun h6=>Ab (fun h7=>Aa ?_ fun o8=>Ab (fun h9=>Aa ?_ fun o10=>Aa ?_ fun o11=>lfY ?_) (fun h9=>Aa rfl fun _=>Aa ?_ fun o12=>trivial)) (fun h7=>Aa rfl fun _=>Aa ?_ fun o13=>trivial)) (fun h6=>Aa rfl fun _=>Aa ?_ fun o14=>trivial)) (fun h4=>lfY ?_)) (fun h2=>Ab (fun h15=>Ab (fun h16=>Ab (fun h17=>lfY ?_) (fun h17=>Ab (fun h18=>Ae trivial fun _=>(Ab (fun h19=>lfY ?_) (fun h19=>Ab (fun h20=>lfY ?_) (fun h20=>Ab (fun h21=>Ab (fun h22=>lfY ?_) (fun h22=>Aa ?_ fun o23=>Ab (fun h24=>Aa trivial fun _=>Aa ?_ fun o25=>Aa ?_ fun o26=>Ab (fun h27=>Aa trivial fun _=>Aa ?_ fun o28=>lfY ?_) (fun h27=>lfY ?_)) (fun h24=>Aa ?_ fun o29=>Ab (fun h30=>Aa trivial fun _=>Aa ?_ fun o31=>lfY ?_) (fun h30=>lfY ?_)))) (fun h21=>Aa ?_ fun o32=>Ab (fun h33=>Aa trivial fun _=>Aa ?_ fun o34=>Aa ?_ fun o35=>Ab (fun h36=>Aa trivial fun _=>Aa ?_ fun o37=>lfY ?_) (fun h36=>lfY ?_)) (fun h33=>Aa ?_ fun o38=>Ab (fun h39=>Aa trivial fun _=>Aa ?_ fun o40=>lfY ?_) (fun h39=>lfY ?_))))))) (fun h18=>Ab (fun h41=>lfY ?_) (fun h41=>Ab (fun h42=>lfY ?_) (fun h42=>Aa ?_ fun o43=>Ab (fun h44=>Aa trivial fun _=>Aa ?_ fun o45=>Aa ?_ fun o46=>lfY ?_) (fun h44=>Aa ?_ fun o47=>lfY ?_)))))) (fun h16=>Ab (fun h48=>lfY ?_) (fun h48=>Ab (fun h49=>Ae trivial fun _=>(Ab (fun h50=>lfY ?_) (fun h50=>Ab (fun h51=>lfY ?_) (fun h51=>Ab (fun h52=>Ab (fun h53=>lfY ?_) (fun h53=>Aa ?_ fun o54=>Ab (fun h55=>Aa trivial fun _=>Aa ?_ fun o56=>Aa ?_ fun o57=>Ab (fun h58=>Aa trivial fun _=>Aa ?_ fun o59=>lfY ?_) (fun h58=>lfY ?_)) (fun h55=>Aa ?_ fun o60=>Ab (fun h61=>Aa trivial fun _=>Aa ?_ fun o62=>lfY ?_) (fun h61=>lfY ?_)))) (fun h52=>Aa ?_ fun o63=>Ab (fun h64=>Aa trivial fun _=>Aa ?_ fun o65=>Aa ?_ fun o66=>Ab (fun h67=>Aa trivial fun _=>Aa ?_ fun o68=>lfY ?_) (fun h67=>lfY ?_)) (fun h64=>Aa ?_ fun o69=>Ab (fun h70=>Aa trivial fun _=>Aa ?_ fun o71=>lfY ?_) (fun h70=>lfY ?_))))))) (fun h49=>Ab (fun h72=>lfY ?_) (fun h72=>Ab (fun h73=>lfY ?_) (fun h73=>Aa ?_ fun o74=>Ab (fun h75=>Aa trivial fun _=>Aa ?_ fun o76=>Aa ?_ fun o77=>lfY ?_) (fun h75=>Aa ?_ fun o78=>lfY ?_))))))) (fun h15=>Ab (fun h79=>Ae trivial fun _=>(Ab (fun h80=>lfY ?_) (fun h80=>Ab (fun h81=>lfY ?_) (fun h81=>Ab (fun h82=>Ab (fun h83=>lfY ?_) (fun h83=>Aa ?_ fun o84=>Ab (fun h85=>Aa trivial fun _=>Aa ?_ fun o86=>Aa ?_ fun o87=>Ab (fun h88=>Aa trivial fun _=>Aa ?_ fun o89=>lfY ?_) (fun h88=>lfY ?_)) (fun h85=>Aa ?_ fun o90=>Ab (fun h91=>Aa trivial fun _=>Aa ?_ fun o92=>lfY ?_) (fun h91=>lfY ?_)))) (fun h82=>Aa ?_ fun o93=>Ab (fun h94=>Aa trivial fun _=>Aa ?_ fun o95=>Aa ?_ fun o96=>Ab (fun h97=>Aa trivial fun _=>Aa ?_ fun o98=>lfY ?_) (fun h97=>lfY ?_)) (fun h94=>Aa ?_ fun o99=>Ab (fun h100=>Aa trivial fun _=>Aa ?_ fun o101=>lfY ?_) (fun h100=>lfY ?_))))))) (fun h79=>Ab (fun h102=>lfY ?_) (fun h102=>Ab (fun h103=>lfY ?_) (fun h103=>Aa ?_ fun o104=>Ab (fun h105=>Aa trivial fun _=>Aa ?_ fun o106=>Aa ?_ fun o107=>lfY ?_) (fun h105=>Aa ?_ fun o108=>lfY ?_)))))))
 all_goals
  have hl:b.bj.length<=100000000000:=by have h1:szBuilder b<=100000000000:=hp.1;simp only[szBuilder] at h1;omega
  have hn:b.bh.length<=100000000000:=by have h1:szBuilder b<=100000000000:=hp.1;have:=Ad szNode b.bh;simp only[szBuilder] at h1;omega
  have ha:szL A0 t.bn<=100000000000/\t.bn.length<=100000000000:=by have h1:Al t<=100000000000:=hp.2;have:=Ad A0 t.bn;simp only[Al] at h1;omega
  try simp only[AA] at *
  try simp only[CK,AS,fCopyBuilder,Ee,std,Nat.reduceAdd,fCopyBuilder,Ee] at *
  try simp only[Ah (show -9223372036854775808<=(b.bj.length:Int)-1/\(b.bj.length:Int)-1<=9223372036854775807 by omega),FY] at *
 all_goals first|trivial|omega|(rw[show((b.bj.length:Int)-1+1).toNat=b.bj.length by omega];exact⟨by omega,by omega,rfl⟩)|skip
 all_goals first|(rw[Kp (by omega) (by first|exact .inl (by omega)|exact .inr (.inl (by omega))|exact .inr (.inr (.inl ⟨by omega,by assumption,by omega⟩))|exact .inr (.inr (.inr ⟨by omega,.inl (by omega)⟩))|exact .inr (.inr (.inr ⟨by omega,.inr (by assumption)⟩)))];exact⟨rfl,rfl⟩)|skip
 all_goals first|(rw[KU (by omega) (by omega) (by omega) (by first|exact .inl (by assumption)|exact .inr (by omega))];first|rw[Qa2 (by assumption)]|rw[Qa3 (by rw[show isVoid t.name=false by assumption];decide)])|(rw[Kt (by omega) (by omega) (by omega) (by assumption)])|skip
 all_goals first|exact⟨rfl,rfl⟩|exact absurd ((show isVoid t.name=true by assumption).symm.trans (show isVoid t.name=false by assumption)) (by decide)|skip
 all_goals try (obtain⟨⟨⟨⟨a0,a1,a2,a3⟩,e1⟩,e2⟩,e3⟩:=i3;simp only[a0,e1,e2] at *)
 all_goals try simp only[Qa1,Qe4,Qa7,Qb0] at *
 all_goals first|omega|(rw[MB (by omega)] at a3;rw[Fk (by assumption)];unfold closeB;rw[<-a3];exact⟨rfl,rfl⟩)|skip
 all_goals rw[OF (by omega)] at a3
 all_goals first|(rw[Qa2 (by exact⟨by omega,by omega,by assumption⟩)] at a3;rw[Fk (by assumption)];unfold closeB;rw[<-a3];simp[cut];done)|(rw[Qa3 (by rintro⟨q1,q2,q3⟩;first|omega|exact absurd q3 (by assumption))] at a3;rw[Ah (by omega),show(y3.2.1-1+1).toNat=y3.2.1.toNat by omega];exact⟨⟨⟨⟨⟨trivial,by omega,by omega,a3⟩,trivial⟩,trivial⟩,e3⟩,by omega⟩)|skip)
theorem EZ (s b:ByteArray):(parseAddr s b).1.host.size<=s.size+b.size/\(parseAddr s b).1.path.size<=s.size+b.size:=by
 have:=KM s b;unfold parseAddr;split
 ·exact⟨this.1,Qe7 this.2 (Qg5 _ _)⟩
 ·exact⟨Nat.zero_le _,Nat.zero_le _⟩
def reqOf (p:SPage) (s:SSlot):SRequest:=⟨kindOf s.mode,s.to,p.addr.host,s.digest⟩
def rawSlot (p:SPage) (mode:Int) (to digest:ByteArray) (node:Int):SSlot:=⟨mode,(parseAddr to p.addr.host).1,digest,node,false,0,⟨#[]⟩⟩
def newSlot (p:SPage) (mode:Int) (to digest:ByteArray) (node:Int):SSlot :=
 if(parseAddr to p.addr.host).2=true/\checkRequest p.bi (reqOf p (rawSlot p mode to digest node))=1 then rawSlot p mode to digest node
 else⟨mode,(parseAddr to p.addr.host).1,digest,node,true,2,⟨#[]⟩⟩
def addSlot (p:SPage) (mode:Int) (to digest:ByteArray) (node:Int):SPage×Int :=
 if p.bd.length<20/\kindOf mode≠0 then({ p with bd:=p.bd++[newSlot p mode to digest node]},(p.bd.length:Int)) else(p,-1)
theorem JB (p:SPage) (s:SSlot):slotRequest { p with bd:=p.bd++[s]} (p.bd.length:Int)=reqOf p s:=by
 unfold slotRequest reqOf;rw[Qa2 (by simp only[Qa4,Qa6,Qb8];omega)];simp
theorem L9 {p:SPage} {mode:Int} {to digest:ByteArray} {node:Int} (h:20<=p.bd.length\/kindOf mode=0):addSlot p mode to digest node=(p,-1):=by
 unfold addSlot;rw[Qa3];rintro⟨q1,q2⟩;rcases h with h|h
 ·omega
 ·exact q2 h
theorem KE {p:SPage} {mode:Int} {to digest:ByteArray} {node:Int} (h:p.bd.length<20) (h2:¬ kindOf mode=0):addSlot p mode to digest node=({ p with bd:=p.bd++[newSlot p mode to digest node]},(p.bd.length:Int)):=by
 unfold addSlot;rw[Qa2 ⟨h,h2⟩]
theorem HR {α:Type}:∀ (l:List α) (x:α) (f:α->α),(l++[x]).modify l.length f=l++[f x]
 | [],x,f=>rfl
 | a::l,x,f=>by show a::(l++[x]).modify l.length f=_;rw[HR l x f];rfl
theorem Mz {p:SPage} {m:Int} {to d:ByteArray} {n:Int} (h:(parseAddr to p.addr.host).2=false\/¬ checkRequest p.bi (reqOf p (rawSlot p m to d n))=1):newSlot p m to d n=⟨m,(parseAddr to p.addr.host).1,d,n,true,2,⟨#[]⟩⟩:=by
 unfold newSlot;rw[Qa3];rintro⟨q1,q2⟩;rcases h with h|h
 ·rw[h] at q1;cases q1
 ·exact h q2
theorem Lz {p:SPage} {m:Int} {to d:ByteArray} {n:Int} (h:(parseAddr to p.addr.host).2=true) (h2:checkRequest p.bi (reqOf p (rawSlot p m to d n))=1):newSlot p m to d n=rawSlot p m to d n:=by
 unfold newSlot;rw[Qa2 ⟨h,h2⟩]
def fAddSlot:Fct:=⟨[.v (.el .page),.v (.el .int),.v (.el .str),.v (.el .str),.v (.el .int)],[.el .page,.el .int],fun(x_:SPage×Int×ByteArray×ByteArray×Int×Unit)=>szPage x_.1<=1090000000000/\x_.1.addr.host.size<=4000000000/\x_.2.2.1.size<=4000000000/\x_.2.2.2.1.size<=50000000000,fun(x_:SPage×Int×ByteArray×ByteArray×Int×Unit)=>((addSlot x_.1 x_.2.1 x_.2.2.1 x_.2.2.2.1 x_.2.2.2.2.1).1,(addSlot x_.1 x_.2.1 x_.2.2.1 x_.2.2.2.1 x_.2.2.2.2.1).2,())⟩
def Ajg:=Aka.a fAddSlot<|Fct.o (KP [1,2,3,4,5,10,11,12,13,14,15] [27,57]) Aka.2 func405 (by
 rintro⟨(p:SPage),(m:Int),(to:ByteArray),(d:ByteArray),(n:Int),_⟩ hp;refine ho (let q1_:=(p.bd.length:Int);.cl fCopyPage (p,()) fun z2=>let q4_:Out:=.lf fAddSlot (z2.1,(-1:Int),());.br (decide (q1_>=20)) q4_ (.cl fKindOfMode (m,()) fun(z3:Int×PUnit)=>.br (z3.1==0) q4_ (.cl AF (to,p.addr.host,()) fun z4=>let q0_:=(⟨m,z4.1,d,n,false,(0:Int),(⟨#[]⟩:ByteArray)⟩:SSlot);let q2_:=z2.1.bd++[q0_];let q5_:=q1_.toNat<q2_.length;let q3_:=(0:Int)<=q1_/\q1_<(q2_.length:Int);.ob (True)<|.ob (BK (z2.1.bd.length+[q0_].length) 96)<|.br (!z4.2.1) (.ob q3_<|.ob q5_<|.lt (List SSlot) (q2_.modify q1_.toNat fun z=>({z with done:=true}:SSlot)) fun z5=>.ob ((0:Int)<=q1_/\q1_<(z5.length:Int))<|.ob (q1_.toNat<z5.length)<|.lt (List SSlot) (z5.modify q1_.toNat fun z=>({z with code:=(2:Int)}:SSlot)) fun z6=>.lf fAddSlot ({z2.1 with bd:=z6},q1_,())) (.cl Aq (({z2.1 with bd:=z2.1.bd++[q0_]}:SPage),q1_,()) fun z7=>.cl fCheckRequest (p.bi,z7.1,()) fun(z8:Int×PUnit)=>.br (z8.1 != 1) (.ob q3_<|.ob q5_<|.lt (List SSlot) (q2_.modify q1_.toNat fun z=>({z with done:=true}:SSlot)) fun z9=>.ob ((0:Int)<=q1_/\q1_<(z9.length:Int))<|.ob (q1_.toNat<z9.length)<|.lt (List SSlot) (z9.modify q1_.toNat fun z=>({z with code:=(2:Int)}:SSlot)) fun z10=>.lf fAddSlot ({z2.1 with bd:=z10},q1_,())) (.lf fAddSlot ({z2.1 with bd:=z2.1.bd++[q0_]},q1_,())))))) ?_;repeat' first|(guard_target =~ Out.holds _ _;first|refine lfY ?_|refine Ab (fun _=>?_) fun _=>?_|refine Ae ?_ fun _=>?_|refine Aa ?_ fun _=>?_|refine Dh ?_)|exact trivial
 all_goals
  have hl:p.bd.length<=1090000000000:=by have h1:szPage p<=1090000000000:=hp.1;have:=Ad AI p.bd;simp only[szPage] at h1;omega
  have hpo:szPolicy p.bi<=1090000000000:=by have h1:szPage p<=1090000000000:=hp.1;simp only[szPage] at h1;omega
  have hz:=EZ to p.addr.host;try simp only[AA] at *
  try simp only[fAddSlot,fCheckRequest,fCopyPage,fKindOfMode,AF,Aq,std,Nat.reduceAdd,fCopyPage,fKindOfMode,AF,Aq,fCheckRequest] at *
  try simp only[JB,HR,Qa4,Qa6,Qb8,Qg6] at *
 all_goals first|trivial|omega|(rw[L9 (by first|exact .inl (by omega)|exact .inr (by assumption))];exact⟨rfl,rfl⟩)|rw[KE (by omega) (by assumption)]|skip
 all_goals first|exact⟨by omega,by simp only[szRequest,szAddr,reqOf];omega⟩|(rw[Mz (by first|exact .inl (by assumption)|exact .inr (by assumption))];exact⟨rfl,rfl⟩)|(rw[Lz (by assumption) (by assumption)];exact⟨rfl,rfl⟩))
def Ajn:=Ajg.a fAddSlot<|Fct.o (KP [1,2,3,4,5,10,11,12,13,14,15] [26,59]) Ajg.2 func375 (by
 rintro⟨(p:SPage),(m:Int),(to:ByteArray),(d:ByteArray),(n:Int),_⟩ hp;refine ho (let q1_:=(p.bd.length:Int);.cl fCopyPage (p,()) fun z2=>let q4_:Out:=.lf fAddSlot (z2.1,(-1:Int),());.br (decide (q1_>=20)) q4_ (.cl fKindOfMode (m,()) fun(z3:Int×PUnit)=>.br (z3.1==0) q4_ (.cl AF (to,p.addr.host,()) fun z4=>let q0_:=(⟨m,z4.1,d,n,false,(0:Int),(⟨#[]⟩:ByteArray)⟩:SSlot);let q2_:=z2.1.bd++[q0_];let q5_:=q1_.toNat<q2_.length;let q3_:=(0:Int)<=q1_/\q1_<(q2_.length:Int);.ob (True)<|.ob (BK (z2.1.bd.length+[q0_].length) 96)<|.br (!z4.2.1) (.ob q3_<|.ob q5_<|.lt (List SSlot) (q2_.modify q1_.toNat fun z=>({z with done:=true}:SSlot)) fun z5=>.ob ((0:Int)<=q1_/\q1_<(z5.length:Int))<|.ob (q1_.toNat<z5.length)<|.lt (List SSlot) (z5.modify q1_.toNat fun z=>({z with code:=(2:Int)}:SSlot)) fun z6=>.lf fAddSlot ({z2.1 with bd:=z6},q1_,())) (.cl Aq (({z2.1 with bd:=z2.1.bd++[q0_]}:SPage),q1_,()) fun z7=>.cl fCheckRequest (p.bi,z7.1,()) fun(z8:Int×PUnit)=>.br (z8.1 != 1) (.ob q3_<|.ob q5_<|.lt (List SSlot) (q2_.modify q1_.toNat fun z=>({z with done:=true}:SSlot)) fun z9=>.ob ((0:Int)<=q1_/\q1_<(z9.length:Int))<|.ob (q1_.toNat<z9.length)<|.lt (List SSlot) (z9.modify q1_.toNat fun z=>({z with code:=(2:Int)}:SSlot)) fun z10=>.lf fAddSlot ({z2.1 with bd:=z10},q1_,())) (.lf fAddSlot ({z2.1 with bd:=z2.1.bd++[q0_]},q1_,())))))) ?_;refine Ae ?_ fun o1=>(Ab (fun h2=>lfY ?_) (fun h2=>Ae trivial fun _=>(Ab (fun h3=>lfY ?_) (fun h3=>Ae ?_ fun o4=>(Aa trivial fun _=>Aa ?_ fun o5=>Ab (fun h6=>Aa ?_ fun o7=>Aa ?_ fun o8=>Dh (Aa ?_ fun o9=>Aa ?_ fun o10=>Dh (lfY ?_))) (fun h6=>Ae ?_ fun o11=>(Ae ?_ fun o12=>(Ab (fun h13=>Aa ?_ fun o14=>Aa ?_ fun o15=>Dh (Aa ?_ fun o16=>Aa ?_ fun o17=>Dh (lfY ?_))) (fun h13=>lfY ?_)))))))))
 all_goals
  have hl:p.bd.length<=1090000000000:=by have h1:szPage p<=1090000000000:=hp.1;have:=Ad AI p.bd;simp only[szPage] at h1;omega
  have hpo:szPolicy p.bi<=1090000000000:=by have h1:szPage p<=1090000000000:=hp.1;simp only[szPage] at h1;omega
  have hz:=EZ to p.addr.host;try simp only[AA] at *
  try simp only[fAddSlot,fCheckRequest,fCopyPage,fKindOfMode,AF,Aq,std,Nat.reduceAdd,fCopyPage,fKindOfMode,AF,Aq,fCheckRequest] at *
  try simp only[JB,HR,Qa4,Qa6,Qb8,Qg6] at *
 all_goals first|trivial|omega|(rw[L9 (by first|exact .inl (by omega)|exact .inr (by assumption))];exact⟨rfl,rfl⟩)|rw[KE (by omega) (by assumption)]|skip
 all_goals first|exact⟨by omega,by simp only[szRequest,szAddr,reqOf];omega⟩|(rw[Mz (by first|exact .inl (by assumption)|exact .inr (by assumption))];exact⟨rfl,rfl⟩)|(rw[Lz (by assumption) (by assumption)];exact⟨rfl,rfl⟩))
def fillS (p:SPage) (x:SResponse) (s:SSlot):SSlot:=if s.done=true then s else{ s with done:=true,code:=checkResponse p.bi (reqOf p s) x,body:=(usable p.bi (reqOf p s) x).1 }
def fillSlot (p:SPage) (k:Int) (x:SResponse):SPage:=if 0<=k/\k<p.bd.length then{ p with bd:=p.bd.modify k.toNat (fillS p x)} else p
def CQ:Fct:=⟨[.v (.el .page),.v (.el .int),.v (.el .bc)],[.el .page],fun(x_:SPage×Int×SResponse×Unit)=>szPage x_.1<=1000000000000/\x_.1.addr.host.size<=4000000000/\(∀ i,i<x_.1.bd.length->AI (x_.1.bd.getD i default)<=50000000000)/\-9223372036854775808<=x_.2.1/\x_.2.1<=9223372036854775807/\x_.2.2.1.bi.size<=200000000/\x_.2.2.1.body.size<=1000000000,fun(x_:SPage×Int×SResponse×Unit)=>(fillSlot x_.1 x_.2.1 x_.2.2.1,())⟩
def askFrom (a:SAddr):List SModule->Nat
 | []=>0
 | m::l=>if cmpA m.to a<0 then askFrom a l+1 else 0
theorem MR {a:SAddr} {l:List SModule} {i:Nat} (h:i<l.length):askFrom a (l.drop i)=if cmpA (l.getD i default).to a<0 then askFrom a (l.drop (i+1))+1 else 0:=by rw[drop_cons h];rfl
theorem J2 {a:SAddr} {l:List SModule} {i:Nat} (h:l.length<=i):askFrom a (l.drop i)=0:=by rw[Qb6 h];rfl
def newMod (p:SPage) (a:SAddr):SModule:=if checkRequest p.bi ⟨5,a,p.addr.host,⟨#[]⟩⟩=1 then⟨a,false,0,⟨#[]⟩⟩ else⟨a,true,2,⟨#[]⟩⟩
def askModule (p:SPage) (a:SAddr):SPage :=
 if askFrom a p.bg<p.bg.length/\(p.bg.getD (askFrom a p.bg) default).to=a then p
 else{ p with bg:=p.bg.take (askFrom a p.bg)++newMod p a::p.bg.drop (askFrom a p.bg)}
theorem Acy {l:List SModule} {i:Nat} {m:SModule} (h:i<=l.length):cut l 0 i++[m]++cut l i (l.length-i)=l.take i++m::l.drop i:=by
 simp only[cut,Qf0,Qb7,Qf4,Qg1];rw[Qb3 (l:=List.drop i l) (by simp)]
theorem Ph {p:SPage} {a:SAddr} {i:Nat} (h:askFrom a p.bg=i) (h1:i<p.bg.length) (h2:(p.bg.getD i default).to=a):askModule p a=p:=by
 unfold askModule;rw[h,Qa2 ⟨h1,h2⟩]
theorem Wl {p:SPage} {a:SAddr} {i:Nat} (h:askFrom a p.bg=i) (h0:i<=p.bg.length) (h1:i=p.bg.length\/¬ (p.bg.getD i default).to=a) (m:SModule) (hm:m=newMod p a):askModule p a={ p with bg:=cut p.bg 0 i++[m]++cut p.bg i (p.bg.length-i)}:=by
 unfold askModule;rw[h,Qa3,Acy h0,hm];rintro⟨q1,q2⟩;rcases h1 with h1|h1
 ·omega
 ·exact h1 q2
theorem O5 {p:SPage} {a:SAddr} (h:checkRequest p.bi ⟨5,a,p.addr.host,⟨#[]⟩⟩=1):(⟨a,false,0,⟨#[]⟩⟩:SModule)=newMod p a:=by unfold newMod;rw[Qa2 h]
theorem P7 {p:SPage} {a:SAddr} (h:¬ checkRequest p.bi ⟨5,a,p.addr.host,⟨#[]⟩⟩=1):(⟨a,true,2,⟨#[]⟩⟩:SModule)=newMod p a:=by unfold newMod;rw[Qa3 h]
def AK:Fct:=⟨[.v (.el .page),.v (.el .addr)],[.el .page],fun(x_:SPage×SAddr×Unit)=>szPage x_.1<=1090000000000/\x_.1.addr.host.size<=4000000000/\szAddr x_.2.1<=50000000000,fun(x_:SPage×SAddr×Unit)=>(askModule x_.1 x_.2.1,())⟩
abbrev Cq (p:SPage) (a:SAddr):LInv:=⟨[⟨.s,6,true,.el .int⟩,⟨.b,2,false,.el .page⟩,⟨.b,3,true,.el .addr⟩,⟨.b,4,true,.el .page⟩,⟨.b,5,true,.el .page⟩],fun(z_ x_:Int×SPage×SAddr×SPage×SPage×Unit)=>((((0<=x_.1/\x_.1<=p.bg.length/\x_.1+askFrom a (p.bg.drop x_.1.toNat)=askFrom a p.bg)/\x_.2.1=z_.2.1)/\x_.2.2.1=z_.2.2.1)/\x_.2.2.2.1=z_.2.2.2.1)/\x_.2.2.2.2.1=z_.2.2.2.2.1,fun(x_:Int×SPage×SAddr×SPage×SPage×Unit)=>p.bg.length-x_.1.toNat⟩
end Go.Proofs.YtjgmhdnhlpckeaaGreatDoor.fnExactTransfer
