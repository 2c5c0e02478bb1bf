/-
  Contracts of functions that the law of FnHistories reaches, part 2.
-/
import Derived.Test.YtembimgkibocmaaGreatVPHistories1
import Derived.Test.YtembimgkibocmaaGreatVLd
import Derived.WalkKit
import Derived.BigGuard
import Derived.Deep.QuietTactic
import Derived.BigQuiet
import Derived.Lib.ConvBytes
import Derived.Sort.WalkC
import Derived.Test.YtembimgkibocmaaGreatRows
import Derived.WalkKit
import Derived.ProofKit
import Derived.OpenShut
namespace Go.Proofs.YtembimgkibocmaaGreat.fnHistories
open Go.Proofs.YtembimgkibocmaaGreat
open Go.D
set_option maxRecDepth 100000
set_option maxHeartbeats 2000000
set_option linter.unusedVariables false
set_option linter.unusedSimpArgs false
theorem k109_84:fIsResponse.ok Tryz.prog 109:=Fct.o [1,2,4] E84ok Tryz.func109 (by
 rintro⟨(x:SResponse),_⟩ hp
 refine ho (.cl fParsePolicy (x.policy,()) fun z2=>.cl fInRange (x.status,(100:Int),(599:Int),()) fun z3=>.br (z3.1) (.cl fInRange (x.kind,(1:Int),(5:Int),()) fun z4=>.br (z4.1) (.br (decide ((↑x.body.size:Int)≤400)) (.cl fInRange (x.age,(0:Int),(1000:Int),()) fun z5=>.br (z5.1) (.lf fIsResponse (z2.2.1,())) (.lf fIsResponse (false,()))) (.lf fIsResponse (false,()))) (.lf fIsResponse (false,()))) (.lf fIsResponse (false,()))) ?_
 refine cl_i ?_ fun o1=>(cl_i trivial fun _=>(br_i (fun h2=>cl_i trivial fun _=>(br_i (fun h3=>br_i (fun h4=>cl_i trivial fun _=>(br_i (fun h5=>lfY ?_) (fun h5=>lfY ?_))) (fun h4=>lfY ?_)) (fun h3=>lfY ?_))) (fun h2=>lfY ?_)))
 all_goals
  try simp only[std0] at *
  try simp only[fInRange,fIsResponse,fParsePolicy,std,Nat.reduceAdd,szF,toF,eqF,mkF,heF,isResponse,fParsePolicy,fInRange] at *
  try simp(disch:=omega) only[wrapId',toNat1] at *
  try simp(disch:=omega) only[if_pos,if_neg]
 all_goals first|trivial|omega|grind[wrapId',toNat1,drop_cons,drop_end,good_len,maxLen,isResponse,fParsePolicy,fInRange])
def E85:=E84.add 109 fIsResponse
theorem E85ok:EOk Tryz.prog E85:=E84ok.add k109_84
theorem value_no {b:UInt8} (hb:valByte b=false) {s:ByteArray} (h:isValue s=true):b∉toL s:=by
 intro hm
 simp only[isValue,Bool.and_eq_true,allB,List.all_eq_true] at h
 rw[h.1 b hm] at hb;cases hb
theorem szL_cons {α:Type} (f:α→Nat) (x:α) (l:List α):szL f (x::l)=f x+1+szL f l:=by simp only[szL,List.map_cons,List.sum_cons,List.length_cons];omega
theorem szL_snoc {α:Type} (f:α→Nat) (l:List α) (x:α):szL f (l++[x])=szL f l+(f x+1):=by
 induction l with
 | nil=>rw[List.nil_append,szL_cons];simp[szL]
 | cons y l ih=>rw[List.cons_append,szL_cons,szL_cons,ih];omega
theorem szL_mem {α:Type} (f:α→Nat) {t:α}:∀ {l:List α},t∈l→f t+1≤szL f l
 | [],h=>by cases h
 | x::l,h=>by
  rw[szL_cons]
  rcases List.mem_cons.1 h with rfl|h
  ·omega
  ·have:=szL_mem f h;omega
theorem answer_sz (l:List SServer) (a:SAddr):szResponse (answerTo l a)≤szL szServer l:=by
 unfold answerTo
 split
 ·exact Nat.zero_le _
 split
 ·exact Nat.zero_le _
 ·rename_i h1 h2
  have h3:=fidx_lt (fun s:SServer=>decide (s.host=a.host)) l 0 (by omega)
  have h4:=szL_get szServer (l:=l) (i:=(fidx (fun s=>decide (s.host=a.host)) l 0).toNat) (by omega)
  have h5:=fidx_lt (fun f:SFile=>decide (f.path=a.path)) (l.getD (fidx (fun s=>decide (s.host=a.host)) l 0).toNat default).files 0 (by omega)
  have h6:=szL_get szFile (l:=(l.getD (fidx (fun s=>decide (s.host=a.host)) l 0).toNat default).files) (i:=(fidx (fun f:SFile=>decide (f.path=a.path)) (l.getD (fidx (fun s=>decide (s.host=a.host)) l 0).toNat default).files 0).toNat) (by omega)
  simp only[szServer,szFile] at h4 h6
  omega
def newBuilder:SBuilder:=⟨[⟨⟨#[112,97,103,101]⟩,⟨#[]⟩,-1,[]⟩],[0]⟩
def fNewBuilder:Fct:=⟨[],[rE .builder],fun _=>True,fun _=>(newBuilder,())⟩
theorem k119_85:fNewBuilder.ok Tryz.prog 119:=Fct.o [0] E85ok Tryz.func119 (by
 rintro⟨_⟩ hp
 refine ho (.lf fNewBuilder (⟨[(⟨(⟨#[112,97,103,101]⟩:ByteArray),(⟨#[]⟩:ByteArray),(-1:Int),[]⟩:SNode)],[(0:Int)]⟩,())) ?_
 refine lfY ?_
 all_goals
  try simp only[std0] at *
  try simp only[fNewBuilder,std,Nat.reduceAdd,szF,toF,eqF,mkF,heF,newBuilder] at *
  try simp(disch:=omega) only[wrapId',toNat1] at *
  try simp(disch:=omega) only[if_pos,if_neg]
 all_goals first|trivial|omega|grind[wrapId',toNat1,drop_cons,drop_end,good_len,maxLen,newBuilder])
def E86:=E85.add 119 fNewBuilder
theorem E86ok:EOk Tryz.prog E86:=E85ok.add k119_85
def newPage (a:SAddr) (x:SResponse):SPage×Bool:=if(isName a.host&&isName a.path)=true∧isResponse x=true∧x.status=200∧x.kind=1 then(⟨a,(parsePolicy x.policy).1,default,[],false,newBuilder,[],[],[],0,0,0,0,[],[],false⟩,true) else(default,false)
def fNewPage:Fct:=⟨[.v (.el .addr),.v (.el .response)],[.el .page,.el .bool],fun(x_:SAddr×SResponse×Unit)=>x_.2.1.policy.size≤200000000∧szAddr x_.1≤10000000,fun(x_:SAddr×SResponse×Unit)=>((newPage x_.1 x_.2.1).1,(newPage x_.1 x_.2.1).2,())⟩
theorem k89_86:fNewPage.ok Tryz.prog 89:=Fct.o [2,3,4,5,6,7,35,1000035] E86ok Tryz.func89 (by
 rintro⟨(a:SAddr),(x:SResponse),_⟩ hp
 refine ho (.cl fParsePolicy (x.policy,()) fun z2=>.cl fIsAddr (a,()) fun z3=>.br (!z3.1) (.leaf (.tup [(true,[vs ((⟨#[]⟩:ByteArray)),vs ((⟨#[]⟩:ByteArray)),vb (false),.nl,.nl,.nl,vs ((⟨#[]⟩:ByteArray)),vs ((⟨#[]⟩:ByteArray)),.nl,vb (false),.nl,.nl,.nl,.nl,.nl,vi ((0:Int)),vi ((0:Int)),vi ((0:Int)),vi ((0:Int)),.nl,.nl,vb (false)]),(false,[vb (false)])]) [] []) (.cl fIsResponse (x,()) fun z4=>.br (!z4.1) (.leaf (.tup [(true,[vs ((⟨#[]⟩:ByteArray)),vs ((⟨#[]⟩:ByteArray)),vb (false),.nl,.nl,.nl,vs ((⟨#[]⟩:ByteArray)),vs ((⟨#[]⟩:ByteArray)),.nl,vb (false),.nl,.nl,.nl,.nl,.nl,vi ((0:Int)),vi ((0:Int)),vi ((0:Int)),vi ((0:Int)),.nl,.nl,vb (false)]),(false,[vb (false)])]) [] []) (.br (!z2.2.1) (.leaf (.tup [(true,[vs ((⟨#[]⟩:ByteArray)),vs ((⟨#[]⟩:ByteArray)),vb (false),.nl,.nl,.nl,vs ((⟨#[]⟩:ByteArray)),vs ((⟨#[]⟩:ByteArray)),.nl,vb (false),.nl,.nl,.nl,.nl,.nl,vi ((0:Int)),vi ((0:Int)),vi ((0:Int)),vi ((0:Int)),.nl,.nl,vb (false)]),(false,[vb (false)])]) [] []) (.br (x.status != 200) (.leaf (.tup [(true,[vs ((⟨#[]⟩:ByteArray)),vs ((⟨#[]⟩:ByteArray)),vb (false),.nl,.nl,.nl,vs ((⟨#[]⟩:ByteArray)),vs ((⟨#[]⟩:ByteArray)),.nl,vb (false),.nl,.nl,.nl,.nl,.nl,vi ((0:Int)),vi ((0:Int)),vi ((0:Int)),vi ((0:Int)),.nl,.nl,vb (false)]),(false,[vb (false)])]) [] []) (.br (x.kind != 1) (.leaf (.tup [(true,[vs ((⟨#[]⟩:ByteArray)),vs ((⟨#[]⟩:ByteArray)),vb (false),.nl,.nl,.nl,vs ((⟨#[]⟩:ByteArray)),vs ((⟨#[]⟩:ByteArray)),.nl,vb (false),.nl,.nl,.nl,.nl,.nl,vi ((0:Int)),vi ((0:Int)),vi ((0:Int)),vi ((0:Int)),.nl,.nl,vb (false)]),(false,[vb (false)])]) [] []) (.cl fNewBuilder () fun z5=>.leaf (.tup [(true,[vs (a.host),vs (a.path),vb (z2.1.set_),.l Ty.str (z2.1.scripts),.l Ty.str (z2.1.styles),.l Ty.str (z2.1.images),vs (z2.1.nonce),vs ((⟨#[]⟩:ByteArray)),.nl,vb (false),.l Ty.node (z5.1.nodes),.l Ty.int (z5.1.open_),.nl,.nl,.nl,vi ((0:Int)),vi ((0:Int)),vi ((0:Int)),vi ((0:Int)),.nl,.nl,vb (false)]),(false,[vb (true)])]) [] [])))))) ?_
 refine cl_e ?_ fun o1 z2 ez2=>(cl_e ?_ fun o2 z3 ez3=>(br_i (fun h3=>Fct.leafZ (default,false,()) (by repeat' first|exact rfl|exact trivial|refine And.intro ?_ ?_) ?_) (fun h3=>cl_e ?_ fun o4 z4 ez4=>(br_i (fun h5=>Fct.leafZ (default,false,()) (by repeat' first|exact rfl|exact trivial|refine And.intro ?_ ?_) ?_) (fun h5=>br_i (fun h6=>Fct.leafZ (default,false,()) (by repeat' first|exact rfl|exact trivial|refine And.intro ?_ ?_) ?_) (fun h6=>br_i (fun h7=>Fct.leafZ (default,false,()) (by repeat' first|exact rfl|exact trivial|refine And.intro ?_ ?_) ?_) (fun h7=>br_i (fun h8=>Fct.leafZ (default,false,()) (by repeat' first|exact rfl|exact trivial|refine And.intro ?_ ?_) ?_) (fun h8=>cl_e trivial fun _ z5 ez5=>(Fct.leafZ (⟨a,z2.fst,default,[],false,z5.fst,[],[],[],(0:Int),(0:Int),(0:Int),(0:Int),[],[],false⟩,true,()) (by repeat' first|exact rfl|exact trivial|refine And.intro ?_ ?_) ?_)))))))))
 all_goals subst_vars
 all_goals
  have hd:a.host.size≤szAddr a∧a.path.size≤szAddr a:=⟨Nat.le_add_right _ _,Nat.le_add_left _ _⟩
  try simp only[std0] at *
  try simp only[fIsAddr,fIsResponse,fNewBuilder,fNewPage,fParsePolicy,std,Nat.reduceAdd,szF,toF,eqF,mkF,heF,newPage,isResponse,fIsAddr,fIsResponse,fParsePolicy,fNewBuilder] at *
  try simp(disch:=omega) only[wrapId',toNat1] at *
  try simp(disch:=omega) only[if_pos,if_neg]
 all_goals first|trivial|omega|grind[wrapId',toNat1,drop_cons,drop_end,good_len,maxLen,newPage,isResponse,fIsAddr,fIsResponse,fParsePolicy,fNewBuilder])
def E87:=E86.add 89 fNewPage
theorem E87ok:EOk Tryz.prog E87:=E86ok.add k89_86
theorem parse_sz (s:ByteArray):szPolicy (parsePolicy s).1≤4*(s.size+1):=by
 unfold parsePolicy
 split
 ·have:szPolicy (default:SPolicy)=0:=by decide
  simp only[this];exact Nat.zero_le _
 split
 ·unfold polCand
  exact pol_sz (by
   split
   ·rw[ByteArray.size_extract];have:=spl_get 59 s 3;omega
   ·exact Nat.zero_le _)
 ·have:szPolicy (default:SPolicy)=0:=by decide
  simp only[this];exact Nat.zero_le _
def digestOf (b:ByteArray):Int:=hashI (151::bti (bytesInts b) (bytesInts b)) 11
theorem bytesInts_at (b:ByteArray) (i:Nat):0≤(bytesInts b).getD i default∧(bytesInts b).getD i default≤255:=by
 unfold bytesInts
 rw[List.getD_eq_getElem?_getD,List.getElem?_map]
 cases h:b.data.toList[i]? with
 | none=>exact⟨Int.le_refl _,by decide⟩
 | some x=>have:=x.toNat_lt;simp only[Option.map_some,Option.getD_some];omega
theorem bytesInts_len (b:ByteArray):(bytesInts b).length=b.size:=by rw[bytesInts,List.length_map];rfl
theorem bytesInts_eq (b:ByteArray):List.map (fun b:UInt8=>(b.toNat:Int)) b.data.toList=bytesInts b:=rfl
theorem dig_in {b:ByteArray} (hb:b.size≤1000000000) (i:Nat) : -9223372036854775808≤(151::bti (bytesInts b) (bytesInts b)).getD i default∧(151::bti (bytesInts b) (bytesInts b)).getD i default≤9223372036854775807:=by
 match i with
 | 0=>
  show -9223372036854775808≤(151:Int)∧(151:Int)≤9223372036854775807
  omega
 | 1=>
  show -9223372036854775808≤((bytesInts b).length:Int)∧((bytesInts b).length:Int)≤9223372036854775807
  rw[bytesInts_len];omega
 | i+2=>
  have:=bytesInts_at b i
  show -9223372036854775808≤(bytesInts b).getD i default∧(bytesInts b).getD i default≤9223372036854775807
  omega
theorem dig_len (b:ByteArray):(151::bti (bytesInts b) (bytesInts b)).length=b.size+2:=by simp[bti,bytesInts_len]
def fDigestOf:Fct:=⟨[.v (.el .str)],[.el .int],fun(x_:ByteArray×Unit)=>x_.1.size≤1000000000,fun(x_:ByteArray×Unit)=>(digestOf x_.1,())⟩
theorem k154_87:fDigestOf.ok Tryz.prog 154:=Fct.o [0,2] E87ok Tryz.func154 (by
 rintro⟨(b:ByteArray),_⟩ hp
 refine ho (.cl fBytesToInts (List.map (fun b=>(↑b.toNat:Int)) b.data.toList,()) fun(z2:List Int×PUnit)=>.ob (True)<|.ob (Room (1+z2.1.length) 8)<|.cl fHash ([(151:Int)]++z2.1,()) fun(z3:Int×PUnit)=>.lf fDigestOf (z3.1,())) ?_
 refine cl_i ?_ fun o1=>(ob_i trivial fun _=>ob_i ?_ fun o2=>cl_i ?_ fun o3=>(lfY ?_))
 all_goals
  have h1:=bytesInts_at b
  have h2:=bytesInts_len b
  have h3:=dig_len b
  have h4:=dig_in (show b.size≤1000000000 from hp)
  try simp only[std0] at *
  try simp only[fBytesToInts,fDigestOf,fHash,std,Nat.reduceAdd,szF,toF,eqF,mkF,heF,bytesInts_eq,fHash,fBytesToInts,digestOf,List.singleton_append] at *
 all_goals first|trivial|omega|exact⟨by omega,fun i _=>h1 i⟩|exact⟨by omega,fun i _=>h4 i⟩|skip)
def E88:=E87.add 154 fDigestOf
theorem E88ok:EOk Tryz.prog E88:=E87ok.add k154_87
theorem hashI_range:∀ (l:List Int) (d:Int),0≤d→d<2147483647→0≤hashI l d∧hashI l d<2147483647
 | [],d,h0,h1=>⟨h0,h1⟩
 | x::l,d,h0,h1=>by
  have hm:=modM_range x
  have ht:=tmod_range (x:=d*1000003+modM x 2147483647+13) (by omega)
  exact hashI_range l _ ht.1 ht.2
theorem digest_range (b:ByteArray):0≤digestOf b∧digestOf b<2147483647:=hashI_range _ 11 (by decide) (by decide)
def fCheckDigest:Fct:=⟨[.v (.el .str),.v (.el .str)],[.el .bool],fun(x_:ByteArray×ByteArray×Unit)=>x_.1.size≤1000000000,fun(x_:ByteArray×ByteArray×Unit)=>(decide (x_.2.1=⟨#[]⟩)||decide (x_.2.1=fmtI (digestOf x_.1)),())⟩
theorem k134_88:fCheckDigest.ok Tryz.prog 134:=Fct.o [0,1,4] E88ok Tryz.func134 (by
 rintro⟨(b:ByteArray),(v:ByteArray),_⟩ hp
 refine ho (.br (ByteArray.toList v==(⟨#[]⟩:ByteArray).toList) (.lf fCheckDigest (true,())) (.cl fDigestOf (b,()) fun(z2:Int×PUnit)=>.cl fFormatInt (z2.1,()) fun z3=>.lf fCheckDigest (ByteArray.toList v==z3.1.toList,()))) ?_
 refine br_i (fun h1=>lfY ?_) (fun h1=>cl_i ?_ fun o2=>(cl_i ?_ fun o3=>(lfY ?_)))
 all_goals
  have h:=digest_range b
  try simp only[std0] at *
  try simp only[fCheckDigest,fDigestOf,fFormatInt,std,Nat.reduceAdd,szF,toF,eqF,mkF,heF,fDigestOf,fFormatInt] at *
  try simp(disch:=omega) only[wrapId',toNat1] at *
  try simp(disch:=omega) only[if_pos,if_neg]
 all_goals first|trivial|omega|grind[wrapId',toNat1,drop_cons,drop_end,good_len,maxLen,fDigestOf,fFormatInt])
def E89:=E88.add 134 fCheckDigest
theorem E89ok:EOk Tryz.prog E89:=E88ok.add k134_88
def checkResponse (p:SPolicy) (r:SRequest) (x:SResponse):Int:=if checkRequest p r≠1 then 2 else if isResponse x=false∨x.status≠200 then 3 else if(decide (x.kind=r.kind)||decide (r.kind=5∧x.kind=2))=false then 4 else if r.from_≠r.to.host∧x.shares=false∧(r.kind=5∨r.digest≠⟨#[]⟩) then 5 else if(decide (r.digest=⟨#[]⟩)||decide (r.digest=fmtI (digestOf x.body)))=false then 6 else 1
theorem checkRequest_two {p:SPolicy} {r:SRequest} (h:checkRequest p r≠1):checkRequest p r=2:=by
 unfold checkRequest at *;split<;>simp_all
def fCheckResponse:Fct:=⟨[.v (.el .policy),.v (.el .request),.v (.el .response)],[.el .int],fun(x_:SPolicy×SRequest×SResponse×Unit)=>szPolicy x_.1≤1099511627776∧szRequest x_.2.1≤1099511627776∧x_.2.2.1.policy.size≤200000000∧x_.2.2.1.body.size≤1000000000,fun(x_:SPolicy×SRequest×SResponse×Unit)=>(checkResponse x_.1 x_.2.1 x_.2.2.1,())⟩
theorem k103_89:fCheckResponse.ok Tryz.prog 103:=Fct.o [3,4,5,6,7,12,21,27,49,1000007,1000012,1000021,1000027,1000049] E89ok Tryz.func103 (by
 rintro⟨(p:SPolicy),(r:SRequest),(x:SResponse),_⟩ hp
 refine ho (.cl fCheckRequest (p,r,()) fun(z2:Int×PUnit)=>.br (z2.1 != 1) (.lf fCheckResponse ((2:Int),())) (.cl fIsResponse (x,()) fun z3=>.br (!z3.1) (.lf fCheckResponse ((3:Int),())) (.br (x.status != 200) (.lf fCheckResponse ((3:Int),())) (.cl fFitsKind (x,r.kind,()) fun z4=>.br (!z4.1) (.lf fCheckResponse ((4:Int),())) (.br (!r.from_.toList==r.to.host.toList) (.br (!x.shares) (.br (r.kind==5) (.lf fCheckResponse ((5:Int),())) (.br (!r.digest.toList==(⟨#[]⟩:ByteArray).toList) (.lf fCheckResponse ((5:Int),())) (.cl fCheckDigest (x.body,r.digest,()) fun z5=>.br (!z5.1) (.lf fCheckResponse ((6:Int),())) (.lf fCheckResponse ((1:Int),()))))) (.cl fCheckDigest (x.body,r.digest,()) fun z6=>.br (!z6.1) (.lf fCheckResponse ((6:Int),())) (.lf fCheckResponse ((1:Int),())))) (.cl fCheckDigest (x.body,r.digest,()) fun z7=>.br (!z7.1) (.lf fCheckResponse ((6:Int),())) (.lf fCheckResponse ((1:Int),())))))))) ?_
 refine cl_i ?_ fun o1=>(br_i (fun h2=>lfY ?_) (fun h2=>cl_i ?_ fun o3=>(br_i (fun h4=>lfY ?_) (fun h4=>br_i (fun h5=>lfY ?_) (fun h5=>cl_i trivial fun _=>(br_i (fun h6=>lfY ?_) (fun h6=>br_i (fun h7=>br_i (fun h8=>br_i (fun h9=>lfY ?_) (fun h9=>br_i (fun h10=>lfY ?_) (fun h10=>cl_i ?_ fun o11=>(br_i (fun h12=>lfY ?_) (fun h12=>lfY ?_))))) (fun h8=>cl_i ?_ fun o13=>(br_i (fun h14=>lfY ?_) (fun h14=>lfY ?_)))) (fun h7=>cl_i ?_ fun o15=>(br_i (fun h16=>lfY ?_) (fun h16=>lfY ?_))))))))))
 all_goals
  have hc:=fun h=>checkRequest_two (p:=p) (r:=r) h
  try simp only[std0] at *
  try simp only[fCheckDigest,fCheckRequest,fCheckResponse,fFitsKind,fIsResponse,std,Nat.reduceAdd,szF,toF,eqF,mkF,heF,checkResponse,fCheckRequest,fIsResponse,fFitsKind,fCheckDigest] at *
  try simp(disch:=omega) only[wrapId',toNat1] at *
  try simp(disch:=omega) only[if_pos,if_neg]
 all_goals first|trivial|omega|grind[wrapId',toNat1,drop_cons,drop_end,good_len,maxLen,checkResponse,fCheckRequest,fIsResponse,fFitsKind,fCheckDigest])
def E90:=E89.add 103 fCheckResponse
theorem E90ok:EOk Tryz.prog E90:=E89ok.add k103_89
def usable (p:SPolicy) (r:SRequest) (x:SResponse):ByteArray×Bool:=if checkResponse p r x=1 then(x.body,true) else(⟨#[]⟩,false)
def fUsableBody:Fct:=⟨[.v (.el .policy),.v (.el .request),.v (.el .response)],[.el .str,.el .bool],fun(x_:SPolicy×SRequest×SResponse×Unit)=>szPolicy x_.1≤1099511627776∧szRequest x_.2.1≤1099511627776∧x_.2.2.1.policy.size≤200000000∧x_.2.2.1.body.size≤1000000000,fun(x_:SPolicy×SRequest×SResponse×Unit)=>((usable x_.1 x_.2.1 x_.2.2.1).1,(usable x_.1 x_.2.1 x_.2.2.1).2,())⟩
theorem k104_90:fUsableBody.ok Tryz.prog 104:=Fct.o [3,4,5,6,7,12,1000012] E90ok Tryz.func104 (by
 rintro⟨(p:SPolicy),(r:SRequest),(x:SResponse),_⟩ hp
 refine ho (.cl fCheckResponse (p,r,x,()) fun(z2:Int×PUnit)=>.br (z2.1 != 1) (.lf fUsableBody ((⟨#[]⟩:ByteArray),false,())) (.lf fUsableBody (x.body,true,()))) ?_
 refine cl_i ?_ fun o1=>(br_i (fun h2=>lfY ?_) (fun h2=>lfY ?_))
 all_goals
  try simp only[std0] at *
  try simp only[fCheckResponse,fUsableBody,std,Nat.reduceAdd,szF,toF,eqF,mkF,heF,usable,fCheckResponse] at *
  try simp(disch:=omega) only[wrapId',toNat1] at *
  try simp(disch:=omega) only[if_pos,if_neg]
 all_goals first|trivial|omega|grind[wrapId',toNat1,drop_cons,drop_end,good_len,maxLen,usable,fCheckResponse])
def E91:=E90.add 104 fUsableBody
theorem E91ok:EOk Tryz.prog E91:=E90ok.add k104_90
def kindOf (m:Int):Int:=if m=1 then 4 else if m=2 then 3 else if m=3∨m=4 then 2 else 0
def fKindOfMode:Fct:=⟨[.v (.el .int)],[.el .int],fun(x_:Int×Unit)=>True,fun(x_:Int×Unit)=>(kindOf x_.1,())⟩
theorem k101_91:fKindOfMode.ok Tryz.prog 101:=Fct.o [0,2,3,4,6,8,1000004,1000006] E91ok Tryz.func101 (by
 rintro⟨(m:Int),_⟩ hp
 refine ho (.br (m==1) (.lf fKindOfMode ((4:Int),())) (.br (m==2) (.lf fKindOfMode ((3:Int),())) (.br (m==3) (.br (m==3) (.lf fKindOfMode ((2:Int),())) (.lf fKindOfMode ((0:Int),()))) (.br (m==4) (.lf fKindOfMode ((2:Int),())) (.lf fKindOfMode ((0:Int),())))))) ?_
 refine br_i (fun h1=>lfY ?_) (fun h1=>br_i (fun h2=>lfY ?_) (fun h2=>br_i (fun h3=>br_i (fun h4=>lfY ?_) (fun h4=>lfY ?_)) (fun h3=>br_i (fun h5=>lfY ?_) (fun h5=>lfY ?_))))
 all_goals
  try simp only[std0] at *
  try simp only[fKindOfMode,std,Nat.reduceAdd,szF,toF,eqF,mkF,heF,kindOf] at *
  try simp(disch:=omega) only[wrapId',toNat1] at *
  try simp(disch:=omega) only[if_pos,if_neg]
 all_goals first|trivial|omega|grind[wrapId',toNat1,drop_cons,drop_end,good_len,maxLen,kindOf])
def E92:=E91.add 101 fKindOfMode
theorem E92ok:EOk Tryz.prog E92:=E91ok.add k101_91
def slotRequest (p:SPage) (k:Int):SRequest:=if 0≤k∧k<p.slots.length then⟨kindOf (p.slots.getD k.toNat default).mode,(p.slots.getD k.toNat default).to,p.addr.host,(p.slots.getD k.toNat default).digest⟩ else default
def fSlotRequest:Fct:=⟨[.v (.el .page),.v (.el .int)],[.el .request],fun(x_:SPage×Int×Unit)=>x_.1.slots.length≤1000000000000∧-9223372036854775808≤x_.2.1∧x_.2.1≤9223372036854775807,fun(x_:SPage×Int×Unit)=>(slotRequest x_.1 x_.2.1,())⟩
theorem k75_92:fSlotRequest.ok Tryz.prog 75:=Fct.o [1,2,4,5,12,1000012] E92ok Tryz.func75 (by
 rintro⟨(p:SPage),(k:Int),_⟩ hp
 refine ho (.cl fInRange (k,(0:Int),wr ((↑p.slots.length:Int)-(1:Int)),()) fun z2=>.br (!z2.1) (.lf fSlotRequest (default,())) (.ob (inB k p.slots.length)<|.cl fKindOfMode ((p.slots.getD (Int.toNat k) default).mode,()) fun(z3:Int×PUnit)=>.lf fSlotRequest (⟨z3.1,(p.slots.getD (Int.toNat k) default).to,p.addr.host,(p.slots.getD (Int.toNat k) default).digest⟩,()))) ?_
 refine cl_i trivial fun _=>(br_i (fun h1=>lfY ?_) (fun h1=>ob_i ?_ fun o2=>cl_i trivial fun _=>(lfY ?_)))
 all_goals
  try simp only[std0] at *
  try simp only[fInRange,fKindOfMode,fSlotRequest,std,Nat.reduceAdd,szF,toF,eqF,mkF,heF,slotRequest,fKindOfMode,fInRange,inRange] at *
  try simp(disch:=omega) only[wrapId',toNat1] at *
  try simp(disch:=omega) only[if_pos,if_neg]
 all_goals first|trivial|omega|grind[wrapId',toNat1,drop_cons,drop_end,good_len,maxLen,slotRequest,fKindOfMode,fInRange,inRange])
def E93:=E92.add 75 fSlotRequest
theorem E93ok:EOk Tryz.prog E93:=E92ok.add k75_92
def modRequest (p:SPage) (k:Int):SRequest:=if 0≤k∧k<p.mods.length then⟨5,(p.mods.getD k.toNat default).to,p.addr.host,⟨#[]⟩⟩ else default
def fModRequest:Fct:=⟨[.v (.el .page),.v (.el .int)],[.el .request],fun(x_:SPage×Int×Unit)=>x_.1.mods.length≤2000000000000∧-9223372036854775808≤x_.2.1∧x_.2.1≤9223372036854775807,fun(x_:SPage×Int×Unit)=>(modRequest x_.1 x_.2.1,())⟩
theorem k77_93:fModRequest.ok Tryz.prog 77:=Fct.o [1,2,4,11,1000011] E93ok Tryz.func77 (by
 rintro⟨(p:SPage),(k:Int),_⟩ hp
 refine ho (.cl fInRange (k,(0:Int),wr ((↑p.mods.length:Int)-(1:Int)),()) fun z2=>.br (!z2.1) (.lf fModRequest (default,())) (.ob (inB k p.mods.length)<|.lf fModRequest (⟨(5:Int),(p.mods.getD (Int.toNat k) default).to,p.addr.host,(⟨#[]⟩:ByteArray)⟩,()))) ?_
 refine cl_i trivial fun _=>(br_i (fun h1=>lfY ?_) (fun h1=>ob_i ?_ fun o2=>lfY ?_))
 all_goals
  try simp only[std0] at *
  try simp only[fInRange,fModRequest,std,Nat.reduceAdd,szF,toF,eqF,mkF,heF,modRequest,fInRange,inRange] at *
  try simp(disch:=omega) only[wrapId',toNat1] at *
  try simp(disch:=omega) only[if_pos,if_neg]
 all_goals first|trivial|omega|grind[wrapId',toNat1,drop_cons,drop_end,good_len,maxLen,modRequest,fInRange,inRange])
def E94:=E93.add 77 fModRequest
theorem E94ok:EOk Tryz.prog E94:=E93ok.add k77_93
def addrOf (s b:ByteArray):SAddr:=match cutF 47 (toL s) with
 | some (p,q)=>⟨ofL p,ofL q⟩
 | none=>⟨b,s⟩
def parseAddr (s b:ByteArray):SAddr×Bool:=if isName (addrOf s b).host&&isName (addrOf s b).path then(addrOf s b,true) else(default,false)
theorem addrOf_hit {s b:ByteArray} {i:Nat} (h:i<s.size) (hb:s.data.getD i 0=47) (hn:47∉(toL s).take i):addrOf s b=⟨s.extract 0 i,s.extract (i+1) s.size⟩:=by
 unfold addrOf
 rw[cutF_at h hb hn]
 have e1:ofL ((toL s).take i)=s.extract 0 i:=by rw[←ofL_toL (s.extract 0 i),toL_extract,List.drop_zero]
 have e2:ofL ((toL s).drop (i+1))=s.extract (i+1) s.size:=by rw[←ofL_toL (s.extract (i+1) s.size),toL_extract,List.take_of_length_le (by rw[toL_len];exact Nat.le_refl _)]
 simp only[e1,e2]
theorem addrOf_end {s b:ByteArray} {i:Nat} (h:s.size≤i) (hn:47∉(toL s).take i):addrOf s b=⟨b,s⟩:=by
 rw[List.take_of_length_le (by rw[toL_len];exact h)] at hn
 unfold addrOf
 rw[cutF_none hn]
theorem cutF_len {b:UInt8}:∀ {l p q:List UInt8},cutF b l=some (p,q)→p.length≤l.length∧q.length≤l.length
 | [],p,q,h=>by cases h
 | x::l,p,q,h=>by
  rw[cutF] at h
  split at h
  ·simp only[Option.some.injEq,Prod.mk.injEq] at h
   obtain⟨rfl,rfl⟩:=h
   simp
  ·obtain⟨r,hr,he⟩:=Option.map_eq_some_iff.1 h
   simp only[Prod.mk.injEq] at he
   obtain⟨rfl,rfl⟩:=he
   have:=cutF_len (p:=r.1) (q:=r.2) hr
   simp only[List.length_cons];omega
theorem addrOf_sz (s b:ByteArray):(addrOf s b).host.size≤s.size+b.size∧(addrOf s b).path.size≤s.size:=by
 unfold addrOf
 cases h:cutF 47 (toL s) with
 | none=>exact⟨by simp only;omega,Nat.le_refl _⟩
 | some r=>
  have:=cutF_len (p:=r.1) (q:=r.2) h
  rw[toL_len] at this
  simp only[ofL_size];omega
def fParseAddr:Fct:=⟨[.v (.el .str),.v (.el .str)],[.el .addr,.el .bool],fun(x_:ByteArray×ByteArray×Unit)=>x_.1.size≤4000000000∧x_.2.1.size≤4000000000,fun(x_:ByteArray×ByteArray×Unit)=>((parseAddr x_.1 x_.2.1).1,(parseAddr x_.1 x_.2.1).2,())⟩
theorem byte47 {s:ByteArray} {i:Nat}:((s.data.getD i 0).toNat:Int)=47↔s.data.getD i 0=47:=byte_eq (b:=47) (by omega) (by omega)
abbrev W_spec_ParseAddr_fParseAddr_3 (s:ByteArray) (b:ByteArray):LInv:=⟨[⟨.b,6,true,.el .addr⟩,⟨.s,7,true,.el .int⟩,⟨.b,4,true,.el .addr⟩],fun(z_:SAddr×Int×SAddr×Unit) (x_:SAddr×Int×SAddr×Unit)=>(0≤x_.2.1∧x_.2.1≤s.size∧x_.1=⟨b,s⟩∧47∉(toL s).take x_.2.1.toNat)∧x_.2.2.1=z_.2.2.1,fun(x_:SAddr×Int×SAddr×Unit)=>s.size-x_.2.1.toNat⟩
theorem k150_94:fParseAddr.ok Tryz.prog 150:=Fct.of (S:=fParseAddr) (L:=fun⟨s,b,_⟩=>fun|3=>some (W_spec_ParseAddr_fParseAddr_3 s b)|_=>none) (kp:=[0,1,4,5,6,7,14,20,31,1000014,1000020,1000031]) E94ok Tryz.func150 (by kernel_rfl) (by kernel_rfl) (by
 rintro⟨(s:ByteArray),(b:ByteArray),_⟩ hp
 refine ho (lpx (W_spec_ParseAddr_fParseAddr_3 s b) ((⟨b,s⟩:SAddr),((0:Int),(default,()))) fun(y1:SAddr×Int×SAddr×PUnit) bk1=>.br (decide (y1.2.1<(↑s.size:Int))) (.ob (0≤y1.2.1∧y1.2.1<(↑s.size:Int))<|.br ((↑(s.data.getD y1.2.1.toNat 0).toNat:Int)==47) (.ob (0≤y1.2.1∧y1.2.1≤(↑s.size:Int))<|.ob (0≤w1 y1.2.1∧w1 y1.2.1≤(↑s.size:Int))<|.cl fIsAddr ((⟨s.extract 0 y1.2.1.toNat,s.extract (w1 y1.2.1).toNat s.size⟩:SAddr),()) fun z2=>.br (!z2.1) (.lf fParseAddr (default,false,())) (.lf fParseAddr (⟨s.extract 0 y1.2.1.toNat,s.extract (w1 y1.2.1).toNat s.size⟩,true,()))) (.ob (Value.string s=Value.string s)<|.ob (Value.string b=Value.string b)<|.ob (bk1 (y1.1,(w1 y1.2.1,(y1.2.2.1,()))))<|.ok)) (.cl fIsAddr (y1.1,()) fun z3=>.br (!z3.1) (.lf fParseAddr (default,false,())) (.lf fParseAddr (y1.1,true,())))) ?_
 refine lpx_i ?_ fun(y1:SAddr×Int×SAddr×PUnit) i1=>br_i (fun h2=>ob_i ?_ fun o3=>br_i (fun h4=>ob_i ?_ fun o5=>ob_i ?_ fun o6=>cl_i ?_ fun o7=>(br_i (fun h8=>lfY ?_) (fun h8=>lfY ?_))) (fun h4=>ob_i rfl fun _=>ob_i rfl fun _=>ob_i ?_ fun o9=>trivial)) (fun h2=>cl_i ?_ fun o10=>(br_i (fun h11=>lfY ?_) (fun h11=>lfY ?_)))
 all_goals have hz:=addrOf_sz s b
 all_goals try (obtain⟨⟨a1,a2,a3,a4⟩,a5⟩:=i1)
 all_goals
  try simp only[std0] at *
  try simp only[W_spec_ParseAddr_fParseAddr_3,fIsAddr,fParseAddr,std,Nat.reduceAdd,szF,toF,eqF,mkF,heF,parseAddr,fIsAddr,byte47] at *
  try simp(disch:=omega) only[wrapId',toNat1] at *
  try simp(disch:=omega) only[if_pos,if_neg]
 all_goals try (have e:=addrOf_hit (b:=b) (show y1.2.1.toNat<s.size by omega) h4 a4;simp only[e] at *)
 all_goals try (have t:=take_no (show y1.2.1.toNat<s.size by omega) h4 a4)
 all_goals try (have e:=addrOf_end (b:=b) (show s.size≤y1.2.1.toNat by omega) a4;simp only[e] at *)
 all_goals first|trivial|omega|grind[ByteArray.size_extract])
def E95:=E94.add 150 fParseAddr
theorem E95ok:EOk Tryz.prog E95:=E94ok.add k150_94
def findAttr (l:List SAttr) (n:ByteArray):Option ByteArray:=(l.find? fun a=>decide (a.name=n)).map (·.value)
def fFindAttr:Fct:=⟨[.v (.sl .attr),.v (.el .str)],[.el .str,.el .bool],fun(x_:(List SAttr)×ByteArray×Unit)=>x_.1.length≤1000000000000,fun(x_:(List SAttr)×ByteArray×Unit)=>((findAttr x_.1 x_.2.1).getD ⟨#[]⟩,(findAttr x_.1 x_.2.1).isSome,())⟩
abbrev W_spec_FindAttr_fFindAttr_2 (l:(List SAttr)) (n:ByteArray):LInv:=⟨[⟨.s,6,true,.el .int⟩],fun _ (x_:Int×Unit)=>0≤x_.1∧x_.1≤l.length∧findAttr (l.drop x_.1.toNat) n=findAttr l n,fun(x_:Int×Unit)=>l.length-x_.1.toNat⟩
theorem k140_95:fFindAttr.ok Tryz.prog 140:=Fct.of (S:=fFindAttr) (L:=fun⟨l,n,_⟩=>fun|2=>some (W_spec_FindAttr_fFindAttr_2 l n)|_=>none) (kp:=[0,1,4,5,6,10,19,1000010,1000019]) E95ok Tryz.func140 (by kernel_rfl) (by kernel_rfl) (by
 rintro⟨(l:List SAttr),(n:ByteArray),_⟩ hp
 refine ho (lpx (W_spec_FindAttr_fFindAttr_2 l n) ((0:Int),()) fun(y1:Int×PUnit) bk1=>.br (decide (y1.1<(↑l.length:Int))) (.ob (inB y1.1 l.length)<|.br ((l.getD y1.1.toNat default).name.toList==n.toList) (.ob (inB y1.1 l.length)<|.lf fFindAttr ((l.getD y1.1.toNat default).value,true,())) (.ob (l=l)<|.ob (Value.string n=Value.string n)<|.ob (bk1 (w1 y1.1,()))<|.ok)) (.lf fFindAttr ((⟨#[]⟩:ByteArray),false,()))) ?_
 refine lpx_i ?_ fun(y1:Int×PUnit) i1=>br_i (fun h2=>ob_i ?_ fun o3=>br_i (fun h4=>ob_i ?_ fun o5=>lfY ?_) (fun h4=>ob_i rfl fun _=>ob_i rfl fun _=>ob_i ?_ fun o6=>trivial)) (fun h2=>lfY ?_)
 all_goals
  try simp only[std0] at *
  try simp only[W_spec_FindAttr_fFindAttr_2,fFindAttr,std,Nat.reduceAdd,szF,toF,eqF,mkF,heF,findAttr] at *
  try simp(disch:=omega) only[wrapId',toNat1] at *
  try simp(disch:=omega) only[if_pos,if_neg]
 all_goals first|trivial|omega|grind[wrapId',toNat1,drop_cons,drop_end,good_len,maxLen,findAttr])
def E96:=E95.add 140 fFindAttr
theorem E96ok:EOk Tryz.prog E96:=E95ok.add k140_95
theorem findAttr_sz (l:List SAttr) (n:ByteArray):((findAttr l n).getD ⟨#[]⟩).size≤szL szAttr l:=by
 unfold findAttr
 cases h:l.find? fun a=>decide (a.name=n) with
 | none=>exact Nat.zero_le _
 | some a=>
  obtain⟨i,hi,he⟩:=List.mem_iff_getElem.1 (List.mem_of_find?_eq_some h)
  have:=szL_get szAttr (l:=l) (i:=i) hi
  rw[List.getD_eq_getElem?_getD,List.getElem?_eq_getElem hi,he] at this
  simp only[Option.map_some,Option.getD_some,szAttr] at *;omega
def tagAttrs:List ByteArray→List SAttr→Option (List SAttr)
 | [],acc=>some acc
 | w::l,acc=>match cutF 61 (toL w) with
  | none=>none
  | some r=>if isName (ofL r.1)&&(isValue (ofL r.2)&&(findAttr acc (ofL r.1)).isNone) then tagAttrs l (acc++[⟨ofL r.1,ofL r.2⟩]) else none
def tagFin (n:ByteArray):Option (List SAttr)→SToken×Bool
 | none=>(default,false)
 | some ats=>if isName n=true∧ats.length≤4 then(⟨1,n,ats,⟨#[]⟩⟩,true) else(default,false)
def tagOf (s:ByteArray):SToken×Bool :=
 if 60<s.size then(default,false)
 else if 0<s.size∧s.data.getD 0 0=47 then(if isName (s.extract 1 s.size) then(⟨2,s.extract 1 s.size,[],⟨#[]⟩⟩,true) else(default,false))
 else tagFin ((spl 32 s).getD 0 default) (tagAttrs ((spl 32 s).drop 1) [])
theorem tag_none {s:ByteArray} (h:s.size≤60) (hn:¬ (0<s.size∧s.data.getD 0 0=47)) (ha:tagAttrs ((spl 32 s).drop 1) []=none):tagOf s=(default,false):=by
 unfold tagOf;rw[if_neg (by omega),if_neg hn,ha];rfl
theorem tag_some {s:ByteArray} {ats:List SAttr} (h:s.size≤60) (hn:¬ (0<s.size∧s.data.getD 0 0=47)) (ha:tagAttrs ((spl 32 s).drop 1) []=some ats):tagOf s=if isName ((spl 32 s).getD 0 default)=true∧ats.length≤4 then(⟨1,(spl 32 s).getD 0 default,ats,⟨#[]⟩⟩,true) else(default,false):=by
 unfold tagOf;rw[if_neg (by omega),if_neg hn,ha];rfl
theorem tag_other {s:ByteArray}:(60<s.size→tagOf s=(default,false))∧(s.size≤60→0<s.size→s.data.getD 0 0=47→tagOf s=if isName (s.extract 1 s.size) then(⟨2,s.extract 1 s.size,[],⟨#[]⟩⟩,true) else(default,false)):=by
 unfold tagOf
 exact⟨fun h=>by rw[if_pos h],fun h1 h2 h3=>by rw[if_neg (by omega),if_pos ⟨h2,h3⟩]⟩
theorem splL_cut (b:UInt8):∀ l:List UInt8,splL b l=match cutF b l with|none=>[l]|some (p,q)=>p::splL b q:=by
 intro l
 induction l with
 | nil=>rfl
 | cons x l ih=>
  rw[splL_cons,cutF]
  by_cases hx:x=b
  ·rw[if_pos hx,if_pos hx]
  ·rw[if_neg hx,if_neg hx,ih]
   cases cutF b l with
   | none=>rfl
   | some r=>rfl
theorem spl_cut (b:UInt8) (s:ByteArray):spl b s=match cutF b (toL s) with|none=>[s]|some (p,q)=>ofL p::spl b (ofL q):=by
 unfold spl
 rw[splL_cut]
 cases cutF b (toL s) with
 | none=>simp[ofL_toL]
 | some r=>simp[toL_ofL]
theorem cutF_mem {b:UInt8}:∀ {l p q:List UInt8},cutF b l=some (p,q)→b∈l
 | [],p,q,h=>by cases h
 | x::l,p,q,h=>by
  rw[cutF] at h
  split at h
  ·rename_i e;subst e;exact List.mem_cons_self
  ·obtain⟨r,hr,_⟩:=Option.map_eq_some_iff.1 h
   exact List.mem_cons_of_mem _ (cutF_mem (p:=r.1) (q:=r.2) hr)
theorem word_cut (w:ByteArray):((spl 61 w).length=2∧isName ((spl 61 w).getD 0 default)=true∧isValue ((spl 61 w).getD 1 default)=true)↔∃ r,cutF 61 (toL w)=some r∧isName (ofL r.1)=true∧isValue (ofL r.2)=true∧(spl 61 w).getD 0 default=ofL r.1∧(spl 61 w).getD 1 default=ofL r.2:=by
 rw[spl_cut]
 cases h:cutF 61 (toL w) with
 | none=>simp
 | some r=>
  obtain⟨p,q⟩:=r
  simp only[List.length_cons,Option.some.injEq]
  constructor
  ·rintro⟨h1,h2,h3⟩
   have hq:(spl 61 (ofL q))=[ofL q]:=by
    rw[spl_cut] at h1 ⊢
    cases hc:cutF 61 (toL (ofL q)) with
    | none=>rfl
    | some r2=>
     rw[hc] at h1
     have:=(spl_len 61 (ofL r2.2)).1
     simp only[List.length_cons] at h1
     omega
   rw[hq] at h3 ⊢
   exact⟨(p,q),rfl,h2,h3,rfl,rfl⟩
  ·rintro⟨r,rfl,h2,h3,h4,h5⟩
   have hq:(spl 61 (ofL q))=[ofL q]:=by
    rw[spl_cut]
    cases hc:cutF 61 (toL (ofL q)) with
    | none=>rfl
    | some r2=>exact absurd (cutF_mem (p:=r2.1) (q:=r2.2) hc) (value_no rfl h3)
   rw[hq]
   exact⟨rfl,h2,h3⟩
theorem tagAttrs_at {l:List ByteArray} {i:Nat} {acc:List SAttr} (h:i<l.length):tagAttrs (l.drop i) acc=(match cutF 61 (toL (l.getD i default)) with|none=>none|some r=>if isName (ofL r.1)&&(isValue (ofL r.2)&&(findAttr acc (ofL r.1)).isNone) then tagAttrs (l.drop (i+1)) (acc++[⟨ofL r.1,ofL r.2⟩]) else none):=by rw[drop_cons h];rfl
theorem tagAttrs_end {l:List ByteArray} {i:Nat} {acc:List SAttr} (h:l.length≤i):tagAttrs (l.drop i) acc=some acc:=by rw[List.drop_of_length_le h];rfl
def fTagOf:Fct:=⟨[.v (.el .str)],[.el .token,.el .bool],fun(x_:ByteArray×Unit)=>x_.1.size≤100000000,fun(x_:ByteArray×Unit)=>((tagOf x_.1).1,(tagOf x_.1).2,())⟩
theorem byteN {s:ByteArray} {i:Nat} {b:Nat} (hb:b≤255):((s.data.getD i 0).toNat:Int)=b↔s.data.getD i 0=UInt8.ofNat b:=byte_eq (b:=b) (by omega) (by omega)
theorem tagStep {l:List ByteArray} {i:Nat} {acc:List SAttr} (h:i<l.length):tagAttrs (l.drop i) acc=if(spl 61 (l.getD i default)).length=2∧isName ((spl 61 (l.getD i default)).getD 0 default)=true∧isValue ((spl 61 (l.getD i default)).getD 1 default)=true∧(findAttr acc ((spl 61 (l.getD i default)).getD 0 default)).isSome=false then tagAttrs (l.drop (i+1)) (acc++[⟨(spl 61 (l.getD i default)).getD 0 default,(spl 61 (l.getD i default)).getD 1 default⟩]) else none:=by
 rw[tagAttrs_at h]
 generalize l.getD i default=w
 by_cases hw:(spl 61 w).length=2∧isName ((spl 61 w).getD 0 default)=true∧isValue ((spl 61 w).getD 1 default)=true
 ·obtain⟨r,h1,h2,h3,h4,h5⟩:=(word_cut w).1 hw
  rw[h1]
  simp only[h2,h3,h4,h5,hw.1,Bool.true_and,true_and]
  cases (findAttr acc (ofL r.1))<;>simp
 ·rw[if_neg (fun hh=>hw ⟨hh.1,hh.2.1,hh.2.2.1⟩)]
  cases hc:cutF 61 (toL w) with
  | none=>rfl
  | some r=>
   simp only
   rw[if_neg]
   intro hh
   simp only[Bool.and_eq_true] at hh
   refine hw ?_
   have hq:spl 61 (ofL r.2)=[ofL r.2]:=by
    rw[spl_cut]
    cases hc2:cutF 61 (toL (ofL r.2)) with
    | none=>rfl
    | some r2=>exact absurd (cutF_mem (p:=r2.1) (q:=r2.2) hc2) (value_no rfl hh.2.1)
   rw[spl_cut,hc]
   simp only[hq]
   exact⟨rfl,hh.1,hh.2.1⟩
abbrev W_spec_TagOf_fTagOf_10 (s:ByteArray):LInv:=⟨[⟨.b,5,true,.el .token⟩,⟨.s,6,true,.el .int⟩,⟨.b,2,true,.el .token⟩,⟨.s,4,true,.sl .str⟩],fun(z_:SToken×Int×SToken×(List ByteArray)×Unit) (x_:SToken×Int×SToken×(List ByteArray)×Unit)=>((1≤x_.2.1∧x_.2.1≤(spl 32 s).length∧x_.1.attrs.length+1≤x_.2.1∧x_.1=⟨1,(spl 32 s).getD 0 default,x_.1.attrs,⟨#[]⟩⟩∧tagAttrs ((spl 32 s).drop x_.2.1.toNat) x_.1.attrs=tagAttrs ((spl 32 s).drop 1) [])∧x_.2.2.1=z_.2.2.1)∧x_.2.2.2.1=z_.2.2.2.1,fun(x_:SToken×Int×SToken×(List ByteArray)×Unit)=>(spl 32 s).length-x_.2.1.toNat⟩
theorem k116_96:fTagOf.ok Tryz.prog 116:=Fct.of (S:=fTagOf) (L:=fun⟨s,_⟩=>fun|10=>some (W_spec_TagOf_fTagOf_10 s)|_=>none) (kp:=[0,2,3,4,5,6,7,9,12,21,25,39,63,74,97,1000012,1000021,1000025,1000039,1000063,1000074,1000097]) E96ok Tryz.func116 (by kernel_rfl) (by kernel_rfl) (by
 rintro⟨(s:ByteArray),_⟩ hp
 refine ho (.br (decide ((↑s.size:Int)>60)) (.leaf (.tup [(true,[vi ((0:Int)),vs ((⟨#[]⟩:ByteArray)),.nl,vs ((⟨#[]⟩:ByteArray))]),(false,[vb (false)])]) [] []) (.br (decide ((↑s.size:Int)>0)) (.ob ((0:Int)≤(0:Int)∧(0:Int)<(↑s.size:Int))<|.br ((↑(s.data.getD 0 0).toNat:Int)==47) (.ob ((0:Int)≤(1:Int)∧(1:Int)≤(↑s.size:Int))<|.cl fIsName (s.extract 1 s.size,()) fun z2=>.br (!z2.1) (.leaf (.tup [(true,[vi ((0:Int)),vs ((⟨#[]⟩:ByteArray)),.nl,vs ((⟨#[]⟩:ByteArray))]),(false,[vb (false)])]) [] []) (.ob ((0:Int)≤(1:Int)∧(1:Int)≤(↑s.size:Int))<|.leaf (.tup [(true,[vi ((2:Int)),vs (s.extract 1 s.size),.nl,vs ((⟨#[]⟩:ByteArray))]),(false,[vb (true)])]) [] [])) (.cl fSplit5 (s,(32:Int),()) fun z3=>.ob ((0:Int)≤(0:Int)∧(0:Int)<(↑z3.1.length:Int))<|.ob (0<z3.1.length)<|lpx (W_spec_TagOf_fTagOf_10 s) ((⟨(1:Int),z3.1.getD 0 default,[],(⟨#[]⟩:ByteArray)⟩:SToken),((1:Int),(default,(z3.1,())))) fun(y12:SToken×Int×SToken×List ByteArray×PUnit) bk12=>.br (decide (y12.2.1<(↑y12.2.2.2.1.length:Int))) (.ob (inB y12.2.1 y12.2.2.2.1.length)<|.ob (y12.2.1.toNat<y12.2.2.2.1.length)<|.cl fSplit5 (y12.2.2.2.1.getD y12.2.1.toNat default,(61:Int),()) fun z4=>.br ((↑z4.1.length:Int) != 2) (.leaf (.tup [(true,[vi ((0:Int)),vs ((⟨#[]⟩:ByteArray)),.nl,vs ((⟨#[]⟩:ByteArray))]),(false,[vb (false)])]) [] []) (.ob ((0:Int)≤(0:Int)∧(0:Int)<(↑z4.1.length:Int))<|.ob (0<z4.1.length)<|.cl fIsName (z4.1.getD 0 default,()) fun z5=>.br (!z5.1) (.leaf (.tup [(true,[vi ((0:Int)),vs ((⟨#[]⟩:ByteArray)),.nl,vs ((⟨#[]⟩:ByteArray))]),(false,[vb (false)])]) [] []) (.ob ((0:Int)≤(1:Int)∧(1:Int)<(↑z4.1.length:Int))<|.ob (1<z4.1.length)<|.cl fIsValue (z4.1.getD 1 default,()) fun z6=>.br (!z6.1) (.leaf (.tup [(true,[vi ((0:Int)),vs ((⟨#[]⟩:ByteArray)),.nl,vs ((⟨#[]⟩:ByteArray))]),(false,[vb (false)])]) [] []) (.ob ((0:Int)≤(0:Int)∧(0:Int)<(↑z4.1.length:Int))<|.ob (0<z4.1.length)<|.cl fFindAttr (y12.1.attrs,z4.1.getD 0 default,()) fun z7=>.br (z7.2.1) (.leaf (.tup [(true,[vi ((0:Int)),vs ((⟨#[]⟩:ByteArray)),.nl,vs ((⟨#[]⟩:ByteArray))]),(false,[vb (false)])]) [] []) (.ob ((0:Int)≤(0:Int)∧(0:Int)<(↑z4.1.length:Int))<|.ob (0<z4.1.length)<|.ob ((0:Int)≤(1:Int)∧(1:Int)<(↑z4.1.length:Int))<|.ob (1<z4.1.length)<|.ob (True)<|.ob (Room (y12.1.attrs.length+[(⟨z4.1.getD 0 default,z4.1.getD 1 default⟩:SAttr)].length) 32)<|.ob (Value.string s=Value.string s)<|.ob (bk12 ((⟨y12.1.kind,y12.1.name,y12.1.attrs++[(⟨z4.1.getD 0 default,z4.1.getD 1 default⟩:SAttr)],y12.1.text⟩:SToken),(w1 y12.2.1,(y12.2.2.1,(y12.2.2.2.1,())))))<|.ok))))) (.cl fIsName (y12.1.name,()) fun z8=>.br (!z8.1) (.leaf (.tup [(true,[vi ((0:Int)),vs ((⟨#[]⟩:ByteArray)),.nl,vs ((⟨#[]⟩:ByteArray))]),(false,[vb (false)])]) [] []) (.br (decide ((↑y12.1.attrs.length:Int)>4)) (.leaf (.tup [(true,[vi ((0:Int)),vs ((⟨#[]⟩:ByteArray)),.nl,vs ((⟨#[]⟩:ByteArray))]),(false,[vb (false)])]) [] []) (.lf fTagOf (y12.1,true,())))))) (.cl fSplit5 (s,(32:Int),()) fun z9=>.ob ((0:Int)≤(0:Int)∧(0:Int)<(↑z9.1.length:Int))<|.ob (0<z9.1.length)<|lpx (W_spec_TagOf_fTagOf_10 s) ((⟨(1:Int),z9.1.getD 0 default,[],(⟨#[]⟩:ByteArray)⟩:SToken),((1:Int),(default,(z9.1,())))) fun(y42:SToken×Int×SToken×List ByteArray×PUnit) bk42=>.br (decide (y42.2.1<(↑y42.2.2.2.1.length:Int))) (.ob (inB y42.2.1 y42.2.2.2.1.length)<|.ob (y42.2.1.toNat<y42.2.2.2.1.length)<|.cl fSplit5 (y42.2.2.2.1.getD y42.2.1.toNat default,(61:Int),()) fun z10=>.br ((↑z10.1.length:Int) != 2) (.leaf (.tup [(true,[vi ((0:Int)),vs ((⟨#[]⟩:ByteArray)),.nl,vs ((⟨#[]⟩:ByteArray))]),(false,[vb (false)])]) [] []) (.ob ((0:Int)≤(0:Int)∧(0:Int)<(↑z10.1.length:Int))<|.ob (0<z10.1.length)<|.cl fIsName (z10.1.getD 0 default,()) fun z11=>.br (!z11.1) (.leaf (.tup [(true,[vi ((0:Int)),vs ((⟨#[]⟩:ByteArray)),.nl,vs ((⟨#[]⟩:ByteArray))]),(false,[vb (false)])]) [] []) (.ob ((0:Int)≤(1:Int)∧(1:Int)<(↑z10.1.length:Int))<|.ob (1<z10.1.length)<|.cl fIsValue (z10.1.getD 1 default,()) fun z12=>.br (!z12.1) (.leaf (.tup [(true,[vi ((0:Int)),vs ((⟨#[]⟩:ByteArray)),.nl,vs ((⟨#[]⟩:ByteArray))]),(false,[vb (false)])]) [] []) (.ob ((0:Int)≤(0:Int)∧(0:Int)<(↑z10.1.length:Int))<|.ob (0<z10.1.length)<|.cl fFindAttr (y42.1.attrs,z10.1.getD 0 default,()) fun z13=>.br (z13.2.1) (.leaf (.tup [(true,[vi ((0:Int)),vs ((⟨#[]⟩:ByteArray)),.nl,vs ((⟨#[]⟩:ByteArray))]),(false,[vb (false)])]) [] []) (.ob ((0:Int)≤(0:Int)∧(0:Int)<(↑z10.1.length:Int))<|.ob (0<z10.1.length)<|.ob ((0:Int)≤(1:Int)∧(1:Int)<(↑z10.1.length:Int))<|.ob (1<z10.1.length)<|.ob (True)<|.ob (Room (y42.1.attrs.length+[(⟨z10.1.getD 0 default,z10.1.getD 1 default⟩:SAttr)].length) 32)<|.ob (Value.string s=Value.string s)<|.ob (bk42 ((⟨y42.1.kind,y42.1.name,y42.1.attrs++[(⟨z10.1.getD 0 default,z10.1.getD 1 default⟩:SAttr)],y42.1.text⟩:SToken),(w1 y42.2.1,(y42.2.2.1,(y42.2.2.2.1,())))))<|.ok))))) (.cl fIsName (y42.1.name,()) fun z14=>.br (!z14.1) (.leaf (.tup [(true,[vi ((0:Int)),vs ((⟨#[]⟩:ByteArray)),.nl,vs ((⟨#[]⟩:ByteArray))]),(false,[vb (false)])]) [] []) (.br (decide ((↑y42.1.attrs.length:Int)>4)) (.leaf (.tup [(true,[vi ((0:Int)),vs ((⟨#[]⟩:ByteArray)),.nl,vs ((⟨#[]⟩:ByteArray))]),(false,[vb (false)])]) [] []) (.lf fTagOf (y42.1,true,()))))))) ?_
 refine br_i (fun h1=>Fct.leafZ (default,false,()) (by repeat' first|exact rfl|exact trivial|refine And.intro ?_ ?_) ?_) (fun h1=>br_i (fun h2=>ob_i ?_ fun o3=>br_i (fun h4=>ob_i ?_ fun o5=>cl_i ?_ fun o6=>(br_i (fun h7=>Fct.leafZ (default,false,()) (by repeat' first|exact rfl|exact trivial|refine And.intro ?_ ?_) ?_) (fun h7=>ob_i ?_ fun o8=>Fct.leafZ (⟨(2:Int),s.extract (1:Nat) s.size,[],{ data := #[]:ByteArray }⟩,true,()) (by repeat' first|exact rfl|exact trivial|refine And.intro ?_ ?_) ?_))) (fun h4=>cl_i ?_ fun o9=>(ob_i ?_ fun o10=>ob_i ?_ fun o11=>lpx_i ?_ fun(y12:SToken×Int×SToken×List ByteArray×PUnit) i12=>br_i (fun h13=>ob_i ?_ fun o14=>ob_i ?_ fun o15=>cl_i ?_ fun o16=>(br_i (fun h17=>Fct.leafZ (default,false,()) (by repeat' first|exact rfl|exact trivial|refine And.intro ?_ ?_) ?_) (fun h17=>ob_i ?_ fun o18=>ob_i ?_ fun o19=>cl_i ?_ fun o20=>(br_i (fun h21=>Fct.leafZ (default,false,()) (by repeat' first|exact rfl|exact trivial|refine And.intro ?_ ?_) ?_) (fun h21=>ob_i ?_ fun o22=>ob_i ?_ fun o23=>cl_i ?_ fun o24=>(br_i (fun h25=>Fct.leafZ (default,false,()) (by repeat' first|exact rfl|exact trivial|refine And.intro ?_ ?_) ?_) (fun h25=>ob_i ?_ fun o26=>ob_i ?_ fun o27=>cl_i ?_ fun o28=>(br_i (fun h29=>Fct.leafZ (default,false,()) (by repeat' first|exact rfl|exact trivial|refine And.intro ?_ ?_) ?_) (fun h29=>ob_i ?_ fun o30=>ob_i ?_ fun o31=>ob_i ?_ fun o32=>ob_i ?_ fun o33=>ob_i trivial fun _=>ob_i ?_ fun o34=>ob_i rfl fun _=>ob_i ?_ fun o35=>trivial))))))))) (fun h13=>cl_i ?_ fun o36=>(br_i (fun h37=>Fct.leafZ (default,false,()) (by repeat' first|exact rfl|exact trivial|refine And.intro ?_ ?_) ?_) (fun h37=>br_i (fun h38=>Fct.leafZ (default,false,()) (by repeat' first|exact rfl|exact trivial|refine And.intro ?_ ?_) ?_) (fun h38=>lfY ?_))))))) (fun h2=>cl_i ?_ fun o39=>(ob_i ?_ fun o40=>ob_i ?_ fun o41=>lpx_i ?_ fun(y42:SToken×Int×SToken×List ByteArray×PUnit) i42=>br_i (fun h43=>ob_i ?_ fun o44=>ob_i ?_ fun o45=>cl_i ?_ fun o46=>(br_i (fun h47=>Fct.leafZ (default,false,()) (by repeat' first|exact rfl|exact trivial|refine And.intro ?_ ?_) ?_) (fun h47=>ob_i ?_ fun o48=>ob_i ?_ fun o49=>cl_i ?_ fun o50=>(br_i (fun h51=>Fct.leafZ (default,false,()) (by repeat' first|exact rfl|exact trivial|refine And.intro ?_ ?_) ?_) (fun h51=>ob_i ?_ fun o52=>ob_i ?_ fun o53=>cl_i ?_ fun o54=>(br_i (fun h55=>Fct.leafZ (default,false,()) (by repeat' first|exact rfl|exact trivial|refine And.intro ?_ ?_) ?_) (fun h55=>ob_i ?_ fun o56=>ob_i ?_ fun o57=>cl_i ?_ fun o58=>(br_i (fun h59=>Fct.leafZ (default,false,()) (by repeat' first|exact rfl|exact trivial|refine And.intro ?_ ?_) ?_) (fun h59=>ob_i ?_ fun o60=>ob_i ?_ fun o61=>ob_i ?_ fun o62=>ob_i ?_ fun o63=>ob_i trivial fun _=>ob_i ?_ fun o64=>ob_i rfl fun _=>ob_i ?_ fun o65=>trivial))))))))) (fun h43=>cl_i ?_ fun o66=>(br_i (fun h67=>Fct.leafZ (default,false,()) (by repeat' first|exact rfl|exact trivial|refine And.intro ?_ ?_) ?_) (fun h67=>br_i (fun h68=>Fct.leafZ (default,false,()) (by repeat' first|exact rfl|exact trivial|refine And.intro ?_ ?_) ?_) (fun h68=>lfY ?_)))))))
 all_goals
  try simp only[std0] at *
  try simp only[W_spec_TagOf_fTagOf_10,fFindAttr,fIsName,fIsValue,fSplit5,fTagOf,std,Nat.reduceAdd,szF,toF,eqF,mkF,heF,fSplit5,fIsName,fIsValue,fFindAttr] at *
  try simp only[show UInt8.ofNat (Int.toNat 32)=32 from rfl,show UInt8.ofNat (Int.toNat 61)=61 from rfl,byte47] at *
 all_goals
  have hk:=spl_len 32 s
  have hm:∀ i,i<(spl 32 s).length→((spl 32 s).getD i default).size≤s.size:=fun i h=>spl_mem (getD_in h)
  have hx:(s.extract 1 s.size).size≤s.size:=by rw[ByteArray.size_extract];omega
 all_goals try (obtain⟨⟨⟨a1,a2,a3,a4,a5⟩,a6⟩,a7⟩:=i12)
 all_goals try (obtain⟨⟨⟨a1,a2,a3,a4,a5⟩,a6⟩,a7⟩:=i42)
 all_goals try simp only[a7] at *
 all_goals first|trivial|omega|skip
 all_goals try (have hn:¬ (0<s.size∧s.data.getD 0 0=47):=by intro hh;first|(exact absurd hh.2 (by assumption))|omega)
 all_goals
  try have hg:y12.1.name=(spl 32 s).getD 0 default:=congrArg SToken.name a4
  try have hg:y42.1.name=(spl 32 s).getD 0 default:=congrArg SToken.name a4
  try have h0:=hm 0 (by omega)
  try have hw:=hm y12.2.1.toNat (by omega)
  try have hw0:=spl_get 61 ((spl 32 s).getD y12.2.1.toNat default) 0
  try have hw1:=spl_get 61 ((spl 32 s).getD y12.2.1.toNat default) 1
 all_goals first|(rw[tag_other.1 (by omega)];exact⟨rfl,rfl⟩)|(rw[tag_other.2 (by omega) (by omega) (by assumption),if_neg (by rw[show isName _=false by assumption];decide)];exact⟨rfl,rfl⟩)|(rw[tag_other.2 (by omega) (by omega) (by assumption),if_pos (by assumption)];exact⟨rfl,rfl⟩)|(rw[hg];omega)|omega|skip
 all_goals first|exact⟨by omega,by omega,by simp,trivial,rfl⟩|exact⟨by omega,by omega,by omega⟩|skip
 all_goals first|(rw[tagStep (by omega),if_neg (by rintro⟨c1,c2,c3,c4⟩;first|omega|exact absurd (c2.symm.trans (show isName _=false by assumption)) (by decide)|exact absurd (c3.symm.trans (show isValue _=false by assumption)) (by decide)|exact absurd (c4.symm.trans (show Option.isSome _=true by assumption)) (by decide))] at a5;rw[tag_none (by omega) hn a5.symm];exact⟨rfl,rfl⟩)|skip
 all_goals first|(rw[tagAttrs_end (by omega)] at a5;rw[tag_some (by omega) hn a5.symm,if_neg (by rintro⟨c1,c2⟩;rw[←hg] at c1;first|omega|exact absurd (c1.symm.trans (show isName _=false by assumption)) (by decide))];exact⟨rfl,rfl⟩)|(rw[tagAttrs_end (by omega)] at a5;rw[tag_some (by omega) hn a5.symm,if_pos ⟨by rw[←hg];assumption,by omega⟩];exact⟨a4,rfl⟩)|skip
 all_goals rw[tagStep (by omega),if_pos (by exact⟨by omega,by assumption,by assumption,by assumption⟩)] at a5
 all_goals rw[wrapId (by omega),toNat1 (by omega)]
 all_goals refine⟨⟨⟨⟨by omega,by omega,by rw[List.length_append];simp only[List.length_cons,List.length_nil];omega,?_,a5⟩,a6⟩,trivial⟩,by omega⟩
 all_goals rw[a4])
def E97:=E96.add 116 fTagOf
theorem E97ok:EOk Tryz.prog E97:=E96ok.add k116_96
def idxB (b:UInt8) (s:ByteArray):Nat:=(toL s).findIdx fun x=>x==b
theorem idxB_le (b:UInt8) (s:ByteArray):idxB b s≤s.size:=by
 have:=List.findIdx_le_length (xs:=toL s) (p:=fun x=>x==b)
 rw[toL_len] at this;exact this
theorem idxB_hit {b:UInt8} {s:ByteArray} {i:Nat} (h:i<s.size) (hb:s.data.getD i 0=b) (hn:b∉(toL s).take i):idxB b s=i:=by
 have e:toL s=(toL s).take i++b::(toL s).drop (i+1):=by rw[←hb,←toL_drop h,List.take_append_drop]
 have hl:((toL s).take i).length=i:=by rw[List.length_take,toL_len];omega
 unfold idxB
 rw[e,List.findIdx_append,List.findIdx_cons]
 have h2:((toL s).take i).findIdx (fun x=>x==b)=i:=by
  rw[List.findIdx_eq_length_of_false fun x hx=>by
   have:x≠b:=fun e=>hn (e▸hx)
   simpa using this]
  exact hl
 rw[h2,hl]
 simp
theorem idxB_end {b:UInt8} {s:ByteArray} {i:Nat} (h:s.size≤i) (hn:b∉(toL s).take i):idxB b s=s.size:=by
 rw[List.take_of_length_le (by rw[toL_len];exact h)] at hn
 unfold idxB
 rw[List.findIdx_eq_length_of_false fun x hx=>by
  have:x≠b:=fun e=>hn (e▸hx)
  simpa using this]
 rfl
def fIndex5:Fct:=⟨[.v (.el .str),.v (.el .u8)],[.el .int],fun(x_:ByteArray×Int×Unit)=>x_.1.size≤1000000000000∧0≤x_.2.1∧x_.2.1≤255,fun(x_:ByteArray×Int×Unit)=>((idxB (UInt8.ofNat x_.2.1.toNat) x_.1:Int),())⟩
abbrev W_spec_l5Index_fIndex5_2 (s:ByteArray) (b:Int):LInv:=⟨[⟨.s,5,true,.el .int⟩],fun _ (x_:Int×Unit)=>0≤x_.1∧x_.1≤s.size∧UInt8.ofNat b.toNat∉(toL s).take x_.1.toNat,fun(x_:Int×Unit)=>s.size-x_.1.toNat⟩
theorem k115_97:fIndex5.ok Tryz.prog 115:=Fct.of (S:=fIndex5) (L:=fun⟨s,b,_⟩=>fun|2=>some (W_spec_l5Index_fIndex5_2 s b)|_=>none) (kp:=[0,1,4,5,9,16,1000009,1000016]) E97ok Tryz.func115 (by kernel_rfl) (by kernel_rfl) (by
 rintro⟨(s:ByteArray),(b:Int),_⟩ hp
 refine ho (lpx (W_spec_l5Index_fIndex5_2 s b) ((0:Int),()) fun(y1:Int×PUnit) bk1=>.br (decide (y1.1<(↑s.size:Int))) (.ob (0≤y1.1∧y1.1<(↑s.size:Int))<|.br ((↑(s.data.getD y1.1.toNat 0).toNat:Int)==b) (.lf fIndex5 (y1.1,())) (.ob (Value.string s=Value.string s)<|.ob (Value.int IntKind.u8 b=Value.int IntKind.u8 b)<|.ob (bk1 (w1 y1.1,()))<|.ok)) (.lf fIndex5 ((↑s.size:Int),()))) ?_
 refine lpx_i ?_ fun(y1:Int×PUnit) i1=>br_i (fun h2=>ob_i ?_ fun o3=>br_i (fun h4=>lfY ?_) (fun h4=>ob_i rfl fun _=>ob_i rfl fun _=>ob_i ?_ fun o5=>trivial)) (fun h2=>lfY ?_)
 all_goals obtain⟨hp1,hp2,hp3⟩:=hp
 all_goals try (obtain⟨a1,a2,a3⟩:=i1)
 all_goals
  try simp only[std0] at *
  try simp only[W_spec_l5Index_fIndex5_2,fIndex5,std,Nat.reduceAdd,szF,toF,eqF,mkF,heF,byte_eq hp2 hp3] at *
  try simp(disch:=omega) only[wrapId',toNat1] at *
  try simp(disch:=omega) only[if_pos,if_neg]
 all_goals try (have e:=idxB_hit (show y1.1.toNat<s.size by omega) h4 a3)
 all_goals try (have t:=take_no (show y1.1.toNat<s.size by omega) h4 a3)
 all_goals try (have e:=idxB_end (show s.size≤y1.1.toNat by omega) a3)
 all_goals first|trivial|omega|grind)
def E98:=E97.add 115 fIndex5
theorem E98ok:EOk Tryz.prog E98:=E97ok.add k115_97
def feed:Nat→ByteArray→List SToken×ByteArray
 | 0,x=>([],x)
 | f+1,x=>
  if 0<idxB 60 x∧idxB 60 x<x.size then(⟨3,⟨#[]⟩,[],x.extract 0 (idxB 60 x)⟩::(feed f (x.extract (idxB 60 x) x.size)).1,(feed f (x.extract (idxB 60 x) x.size)).2)
  else if idxB 60 x≠0∨idxB 62 x=x.size then([],x)
  else(if(tagOf (x.extract 1 (idxB 62 x))).2 then(tagOf (x.extract 1 (idxB 62 x))).1::(feed f (x.extract (idxB 62 x+1) x.size)).1 else(feed f (x.extract (idxB 62 x+1) x.size)).1,(feed f (x.extract (idxB 62 x+1) x.size)).2)
theorem feed_fuel:∀ (f g:Nat) (x:ByteArray),x.size<f→x.size<g→feed f x=feed g x
 | 0,_,x,h,_=>by omega
 | _,0,x,_,h=>by omega
 | f+1,g+1,x,h1,h2=>by
  have hl:=idxB_le 62 x
  simp only[feed]
  split
  ·rename_i hc
   rw[feed_fuel f g (x.extract (idxB 60 x) x.size) (by rw[ByteArray.size_extract];omega) (by rw[ByteArray.size_extract];omega)]
  ·split
   ·rfl
   ·rename_i hc
    rw[feed_fuel f g (x.extract (idxB 62 x+1) x.size) (by rw[ByteArray.size_extract];omega) (by rw[ByteArray.size_extract];omega)]
def feedAll (x:ByteArray):List SToken×ByteArray:=feed (x.size+1) x
theorem feed_text {x:ByteArray} (h:0<idxB 60 x) (h2:idxB 60 x<x.size):feedAll x=(⟨3,⟨#[]⟩,[],x.extract 0 (idxB 60 x)⟩::(feedAll (x.extract (idxB 60 x) x.size)).1,(feedAll (x.extract (idxB 60 x) x.size)).2):=by
 have e:feed x.size (x.extract (idxB 60 x) x.size)=feedAll (x.extract (idxB 60 x) x.size):=feed_fuel _ _ _ (by rw[ByteArray.size_extract];omega) (by omega)
 show feed (x.size+1) x=_
 rw[feed,if_pos ⟨h,h2⟩,e]
theorem feed_stop {x:ByteArray} (h:¬ (0<idxB 60 x∧idxB 60 x<x.size)) (h2:idxB 60 x≠0∨idxB 62 x=x.size):feedAll x=([],x):=by
 show feed (x.size+1) x=_
 rw[feed,if_neg h,if_pos h2]
theorem feed_tag {x:ByteArray} (h:idxB 60 x=0) (h2:idxB 62 x<x.size):feedAll x=(if(tagOf (x.extract 1 (idxB 62 x))).2 then(tagOf (x.extract 1 (idxB 62 x))).1::(feedAll (x.extract (idxB 62 x+1) x.size)).1 else(feedAll (x.extract (idxB 62 x+1) x.size)).1,(feedAll (x.extract (idxB 62 x+1) x.size)).2):=by
 have e:feed x.size (x.extract (idxB 62 x+1) x.size)=feedAll (x.extract (idxB 62 x+1) x.size):=feed_fuel _ _ _ (by rw[ByteArray.size_extract];omega) (by omega)
 show feed (x.size+1) x=_
 rw[feed,if_neg (by omega),if_neg (by omega),e]
theorem idx_one {x:ByteArray} (h:idxB 60 x=0) (h2:idxB 62 x<x.size):1≤idxB 62 x:=by
 unfold idxB at *
 have hl:(toL x).length=x.size:=rfl
 cases hx:toL x with
 | nil=>rw[hx] at hl;simp only[List.length_nil] at hl;omega
 | cons c l=>
  rw[hx] at h
  have hc:c=60:=by
   rw[List.findIdx_cons] at h
   cases hb:(c==60) with
   | true=>simpa using hb
   | false=>rw[hb] at h;simp at h
  subst hc
  rw[List.findIdx_cons,show((60:UInt8)==62)=false from rfl]
  simp
def fFeedText:Fct:=⟨[.v (.el .tokenizer),.v (.el .str)],[.sl .token,.el .tokenizer],fun(x_:STokenizer×ByteArray×Unit)=>x_.1.rest.size≤50000000∧x_.2.1.size≤50000000,fun(x_:STokenizer×ByteArray×Unit)=>((feedAll (x_.1.rest++x_.2.1)).1,⟨(feedAll (x_.1.rest++x_.2.1)).2⟩,())⟩
abbrev W_spec_FeedText_fFeedText_3 (t:STokenizer) (s:ByteArray):LInv:=⟨[⟨.s,6,true,.sl .token⟩,⟨.s,7,true,.el .str⟩,⟨.b,5,true,.el .tokenizer⟩],fun(z_:(List SToken)×ByteArray×STokenizer×Unit) (x_:(List SToken)×ByteArray×STokenizer×Unit)=>(x_.1.length+x_.2.1.size≤(t.rest++s).size∧x_.1++(feedAll x_.2.1).1=(feedAll (t.rest++s)).1∧(feedAll x_.2.1).2=(feedAll (t.rest++s)).2)∧x_.2.2.1=z_.2.2.1,fun(x_:(List SToken)×ByteArray×STokenizer×Unit)=>x_.2.1.size⟩
theorem k88_98:fFeedText.ok Tryz.prog 88:=Fct.of (S:=fFeedText) (L:=fun⟨t,s,_⟩=>fun|3=>some (W_spec_FeedText_fFeedText_3 t s)|_=>none) (kp:=[1,2,4,5,6,7,8,9,10,11,26,46,57,1000026,1000046,1000057]) E98ok Tryz.func88 (by kernel_rfl) (by kernel_rfl) (by
 rintro⟨(t:STokenizer),(s:ByteArray),_⟩ hp
 refine ho (.ob (sameSize t.rest s)<|lpx (W_spec_FeedText_fFeedText_3 t s) ([],(t.rest++s,(default,()))) fun(y2:List SToken×ByteArray×STokenizer×PUnit) bk2=>.cl fIndex5 (y2.2.1,(60:Int),()) fun(z2:Int×PUnit)=>.br (decide (z2.1>0)) (.br (decide (z2.1<(↑y2.2.1.size:Int))) (.ob (0≤z2.1∧z2.1≤(↑y2.2.1.size:Int))<|.ob (Room (y2.1.length+[(⟨(3:Int),(⟨#[]⟩:ByteArray),[],y2.2.1.extract 0 z2.1.toNat⟩:SToken)].length) 64)<|.ob (0≤z2.1∧z2.1≤(↑y2.2.1.size:Int))<|.ob (Value.string s=Value.string s)<|.ob (bk2 (y2.1++[(⟨(3:Int),(⟨#[]⟩:ByteArray),[],y2.2.1.extract 0 z2.1.toNat⟩:SToken)],(y2.2.1.extract z2.1.toNat y2.2.1.size,(y2.2.2.1,()))))<|.ok) (.cl fIndex5 (y2.2.1,(62:Int),()) fun(z3:Int×PUnit)=>.br (z2.1 != 0) (.lf fFeedText (y2.1,⟨y2.2.1⟩,())) (.br (z3.1==(↑y2.2.1.size:Int)) (.lf fFeedText (y2.1,⟨y2.2.1⟩,())) (.ob ((0:Int)≤(1:Int)∧1≤z3.1∧z3.1≤(↑y2.2.1.size:Int))<|.cl fTagOf (y2.2.1.extract 1 z3.1.toNat,()) fun z4=>.br (z4.2.1) (.ob (Room (y2.1.length+[z4.1].length) 64)<|.ob (0≤w1 z3.1∧w1 z3.1≤(↑y2.2.1.size:Int))<|.ob (Value.string s=Value.string s)<|.ob (bk2 (y2.1++[z4.1],(y2.2.1.extract (w1 z3.1).toNat y2.2.1.size,(y2.2.2.1,()))))<|.ok) (.ob (0≤w1 z3.1∧w1 z3.1≤(↑y2.2.1.size:Int))<|.ob (Value.string s=Value.string s)<|.ob (bk2 (y2.1,(y2.2.1.extract (w1 z3.1).toNat y2.2.1.size,(y2.2.2.1,()))))<|.ok))))) (.cl fIndex5 (y2.2.1,(62:Int),()) fun(z5:Int×PUnit)=>.br (z2.1 != 0) (.lf fFeedText (y2.1,⟨y2.2.1⟩,())) (.br (z5.1==(↑y2.2.1.size:Int)) (.lf fFeedText (y2.1,⟨y2.2.1⟩,())) (.ob ((0:Int)≤(1:Int)∧1≤z5.1∧z5.1≤(↑y2.2.1.size:Int))<|.cl fTagOf (y2.2.1.extract 1 z5.1.toNat,()) fun z6=>.br (z6.2.1) (.ob (Room (y2.1.length+[z6.1].length) 64)<|.ob (0≤w1 z5.1∧w1 z5.1≤(↑y2.2.1.size:Int))<|.ob (Value.string s=Value.string s)<|.ob (bk2 (y2.1++[z6.1],(y2.2.1.extract (w1 z5.1).toNat y2.2.1.size,(y2.2.2.1,()))))<|.ok) (.ob (0≤w1 z5.1∧w1 z5.1≤(↑y2.2.1.size:Int))<|.ob (Value.string s=Value.string s)<|.ob (bk2 (y2.1,(y2.2.1.extract (w1 z5.1).toNat y2.2.1.size,(y2.2.2.1,()))))<|.ok))))) ?_
 refine ob_i ?_ fun o1=>lpx_i ?_ fun(y2:List SToken×ByteArray×STokenizer×PUnit) i2=>cl_i ?_ fun o3=>(br_i (fun h4=>br_i (fun h5=>ob_i ?_ fun o6=>ob_i ?_ fun o7=>ob_i ?_ fun o8=>ob_i rfl fun _=>ob_i ?_ fun o9=>trivial) (fun h5=>cl_i ?_ fun o10=>(br_i (fun h11=>lfY ?_) (fun h11=>br_i (fun h12=>lfY ?_) (fun h12=>ob_i ?_ fun o13=>cl_i ?_ fun o14=>(br_i (fun h15=>ob_i ?_ fun o16=>ob_i ?_ fun o17=>ob_i rfl fun _=>ob_i ?_ fun o18=>trivial) (fun h15=>ob_i ?_ fun o19=>ob_i rfl fun _=>ob_i ?_ fun o20=>trivial))))))) (fun h4=>cl_i ?_ fun o21=>(br_i (fun h22=>lfY ?_) (fun h22=>br_i (fun h23=>lfY ?_) (fun h23=>ob_i ?_ fun o24=>cl_i ?_ fun o25=>(br_i (fun h26=>ob_i ?_ fun o27=>ob_i ?_ fun o28=>ob_i rfl fun _=>ob_i ?_ fun o29=>trivial) (fun h26=>ob_i ?_ fun o30=>ob_i rfl fun _=>ob_i ?_ fun o31=>trivial)))))))
 all_goals try (obtain⟨⟨a1,a2,a3⟩,a4⟩:=i2)
 all_goals
  try simp only[std0] at *
  try simp only[W_spec_FeedText_fFeedText_3,fFeedText,fIndex5,fTagOf,std,Nat.reduceAdd,szF,toF,eqF,mkF,heF,fIndex5,fTagOf] at *
  try simp(disch:=omega) only[wrapId',toNat1] at *
  try simp(disch:=omega) only[if_pos,if_neg]
  try simp only[show UInt8.ofNat (Int.toNat 60)=60 from rfl,show UInt8.ofNat (Int.toNat 62)=62 from rfl,Int.toNat_natCast,ByteArray.size_append] at *
  try have k1:=idxB_le 60 y2.2.1
  try have k2:=idxB_le 62 y2.2.1
  try have k3:=idx_one (x:=y2.2.1)
  try have k4:∀ a b,(y2.2.1.extract a b).size≤y2.2.1.size:=fun a b=>by rw[ByteArray.size_extract];omega
  try simp(disch:=omega) only[wrapId'] at *
 all_goals first|trivial|omega|(unfold sameSize;omega)|(have:=k4 1 (idxB 62 y2.2.1);omega)|skip
 all_goals first|exact⟨Int.natCast_nonneg _,Int.ofNat_le.2 k1⟩|skip
 all_goals try simp only[decide_eq_true_eq,decide_eq_false_iff_not] at *
 all_goals first|omega|exact⟨by omega,by omega⟩|exact⟨by omega,by omega,by omega⟩|skip
 all_goals have k5:∀ a,(y2.2.1.extract a y2.2.1.size).size=y2.2.1.size-a:=fun a=>by rw[ByteArray.size_extract];omega
 all_goals first|(rw[feed_stop (x:=y2.2.1) (by omega) (by omega)] at a2 a3;rw[List.append_nil] at a2;exact⟨a2,by rw[←a3]⟩)|skip
 all_goals first|rw[feed_text (x:=y2.2.1) (by omega) (by omega)] at a2 a3|(rw[feed_tag (x:=y2.2.1) (by omega) (by omega)] at a2 a3;first|rw[if_pos (by assumption)] at a2|rw[if_neg (by rw[show Prod.snd _=false by assumption];decide)] at a2)
 all_goals try simp only[wrapId (show -9223372036854775808≤((idxB 62 y2.2.1:Nat):Int)+1∧((idxB 62 y2.2.1:Nat):Int)+1≤9223372036854775807 by omega),show(((idxB 62 y2.2.1:Nat):Int)+1).toNat=idxB 62 y2.2.1+1 by omega] at *
 all_goals refine⟨⟨⟨?_,?_,a3⟩,a4⟩,?_⟩
 all_goals first|(rw[k5];simp only[List.length_append,List.length_cons,List.length_nil];omega)|(rw[k5];omega)|exact a2|(rw[List.append_assoc];exact a2)|skip)
def E99:=E98.add 88 fFeedText
theorem E99ok:EOk Tryz.prog E99:=E98ok.add k88_98
theorem szL_at {α:Type} [Inhabited α] (f:α→Nat) {l:List α} {i:Nat} (h:i<l.length):szL f (l.drop i)=f (l.getD i default)+1+szL f (l.drop (i+1)):=by rw[drop_cons h,szL_cons]
theorem cutF_len1 {b:UInt8}:∀ {l p q:List UInt8},cutF b l=some (p,q)→p.length+q.length+1=l.length
 | [],p,q,h=>by cases h
 | x::l,p,q,h=>by
  rw[cutF] at h
  split at h
  ·obtain⟨rfl,rfl⟩:[]=p∧l=q:=by simpa using h
   simp
  ·obtain⟨r,hr,he⟩:=Option.map_eq_some_iff.1 h
   have:=cutF_len1 (p:=r.1) (q:=r.2) hr
   obtain⟨rfl,rfl⟩:x::r.1=p∧r.2=q:=by simpa using he
   simp only[List.length_cons];omega
theorem tagAttrs_sz:∀ {l:List ByteArray} {acc ats:List SAttr},tagAttrs l acc=some ats→szL szAttr ats≤szL szAttr acc+szL szString l
 | [],acc,ats,h=>by simp only[tagAttrs,Option.some.injEq] at h;subst h;omega
 | w::l,acc,ats,h=>by
  simp only[tagAttrs] at h
  split at h
  ·cases h
  ·rename_i r hr
   split at h
   ·have h1:=tagAttrs_sz h
    have h2:=cutF_len1 (p:=r.1) (q:=r.2) hr
    rw[szL_snoc] at h1
    rw[szL_cons,szString]
    rw[toL_len] at h2
    simp only[szAttr,ofL_size] at h1
    omega
   ·cases h
theorem tagOf_sz (s:ByteArray):szToken (tagOf s).1≤s.size:=by
 have h0:szToken default=0:=by decide
 unfold tagOf
 split
 ·simp only[h0];omega
 ·split
  ·split
   ·simp only[szToken,szL,ByteArray.size_extract,List.map_nil,List.sum_nil,List.length_nil,show ByteArray.size ⟨#[]⟩=0 from rfl];omega
   ·simp only[h0];omega
  ·have hs:=szL_spl 32 s
   have hp:=(spl_len 32 s).1
   cases ht:tagAttrs ((spl 32 s).drop 1) [] with
   | none=>simp only[tagFin,h0];omega
   | some ats=>
    have h1:=tagAttrs_sz ht
    have h2:=szL_at szString (l:=spl 32 s) (i:=0) hp
    rw[List.drop_zero,Nat.zero_add] at h2
    have h3:szL szAttr []=0:=rfl
    simp only[tagFin]
    simp only[szString] at h2
    split
    ·simp only[szToken,show ByteArray.size ⟨#[]⟩=0 from rfl];omega
    ·simp only[h0];omega
theorem idx_at {b:UInt8} {x:ByteArray} (h:idxB b x<x.size):idxB b (x.extract (idxB b x) x.size)=0:=by
 have hl:idxB b x<(toL x).length:=h
 have hg:=List.findIdx_getElem (w:=hl)
 unfold idxB at *
 rw[toL_extract,List.take_of_length_le (by rw[toL_len];exact Nat.le_refl _),List.drop_eq_getElem_cons hl,List.findIdx_cons,hg]
 rfl
theorem feed_szs:∀ (f:Nat) (x:ByteArray),szL szToken (feed f x).1+(feed f x).2.size≤x.size+(if idxB 60 x=0 then 0 else 1):=by
 intro f
 induction f with
 | zero=>intro x;have:szL szToken []=0:=rfl;simp only[feed];omega
 | succ f ih=>
  intro x
  have hl:=idxB_le 62 x
  have h3:szL szAttr []=0:=rfl
  have h4:szL szToken []=0:=rfl
  simp only[feed]
  split
  ·rename_i hc
   have:=ih (x.extract (idxB 60 x) x.size)
   have hz:idxB 60 (x.extract (idxB 60 x) x.size)=0:=idx_at hc.2
   rw[szL_cons]
   rw[if_pos hz] at this
   rw[if_neg (by omega)]
   simp only[szToken,ByteArray.size_extract,show ByteArray.size ⟨#[]⟩=0 from rfl,h3] at *
   omega
  ·split
   ·simp only[h4];split<;>omega
   ·rename_i hc
    have:=ih (x.extract (idxB 62 x+1) x.size)
    have ht:=tagOf_sz (x.extract 1 (idxB 62 x))
    have ho:=idx_one (x:=x) (by omega) (by omega)
    rw[ByteArray.size_extract] at this ht
    rw[if_pos (show idxB 60 x=0 by omega)]
    have h5:szL szToken (feed f (x.extract (idxB 62 x+1) x.size)).1+(feed f (x.extract (idxB 62 x+1) x.size)).2.size≤x.size-(idxB 62 x+1)+1:=by split at this<;>omega
    split
    ·simp only[szL_cons];omega
    ·dsimp only;omega
def endText (r:ByteArray):List SToken:=if r=⟨#[]⟩∨r.data.getD 0 0=60 then[] else[⟨3,⟨#[]⟩,[],r⟩]
theorem endText_sz (r:ByteArray):szL szToken (endText r)≤r.size+1:=by
 unfold endText
 have h3:szL szAttr []=0:=rfl
 have h4:szL szToken []=0:=rfl
 split
 ·omega
 ·rw[szL_cons];simp only[szToken,h3,h4,show ByteArray.size ⟨#[]⟩=0 from rfl];omega
theorem byte60 {s:ByteArray} {i:Nat}:((s.data.getD i 0).toNat:Int)=60↔s.data.getD i 0=60:=byteN (b:=60) (by omega)
theorem size_pos {s:ByteArray} (h:¬ s=⟨#[]⟩):0<s.size:=by
 rcases Nat.eq_zero_or_pos s.size with h0|h0
 ·exact absurd (ByteArray.ext (Array.eq_empty_of_size_eq_zero h0)) h
 ·exact h0
def fEndText:Fct:=⟨[.v (.el .tokenizer)],[.sl .token],fun(x_:STokenizer×Unit)=>x_.1.rest.size≤1000000000000,fun(x_:STokenizer×Unit)=>(endText x_.1.rest,())⟩
theorem k91_99:fEndText.ok Tryz.prog 91:=Fct.o [1,2,11,1000011] E99ok Tryz.func91 (by
 rintro⟨(t:STokenizer),_⟩ hp
 refine ho (.br (t.rest.toList==(⟨#[]⟩:ByteArray).toList) (.lf fEndText ([],())) (.ob ((0:Int)≤(0:Int)∧(0:Int)<(↑t.rest.size:Int))<|.br ((↑(t.rest.data.getD 0 0).toNat:Int)==60) (.lf fEndText ([],())) (.lf fEndText ([(⟨(3:Int),(⟨#[]⟩:ByteArray),[],t.rest⟩:SToken)],())))) ?_
 refine br_i (fun h1=>lfY ?_) (fun h1=>ob_i ?_ fun o2=>br_i (fun h3=>lfY ?_) (fun h3=>lfY ?_))
 all_goals
  try simp only[std0] at *
  try simp only[fEndText,std,Nat.reduceAdd,szF,toF,eqF,mkF,heF,endText,byte60] at *
 all_goals have hz:=@size_pos t.rest
 all_goals first|trivial|omega|(have:=hz (by assumption);omega)|rw[if_pos (by first|exact .inl (by assumption)|exact .inr (by assumption))]|rw[if_neg (by rintro(h|h)<;>contradiction)])
def E100:=E99.add 91 fEndText
theorem E100ok:EOk Tryz.prog E100:=E99ok.add k91_99
theorem endText_len (r:ByteArray):(endText r).length≤1:=by unfold endText;split<;>simp
theorem dflt_rest:(default:STokenizer).rest=⟨#[]⟩∧(∀ s:ByteArray,(⟨#[]⟩:ByteArray)++s=s)∧ByteArray.size ⟨#[]⟩=0:=⟨rfl,fun s=>ByteArray.ext (by simp),rfl⟩
def tokensOf (s:ByteArray):List SToken:=(feedAll s).1++endText (feedAll s).2
theorem feedAll_sz (x:ByteArray):szL szToken (feedAll x).1+(feedAll x).2.size≤x.size+1:=by
 have:=feed_szs (x.size+1) x
 unfold feedAll
 split at this<;>omega
theorem feedAll_len (x:ByteArray):(feedAll x).1.length+(feedAll x).2.size≤x.size+1:=by
 have:=feedAll_sz x
 have:=szL_len szToken (feedAll x).1
 omega
def fTokensOf:Fct:=⟨[.v (.el .str)],[.sl .token],fun(x_:ByteArray×Unit)=>x_.1.size≤10000000,fun(x_:ByteArray×Unit)=>(tokensOf x_.1,())⟩
theorem k123_100:fTokensOf.ok Tryz.prog 123:=Fct.o [0,2,3,4] E100ok Tryz.func123 (by
 rintro⟨(s:ByteArray),_⟩ hp
 refine ho (.cl fFeedText (default,s,()) fun z2=>.cl fEndText (z2.2.1,()) fun z3=>.ob (Room (z2.1.length+z3.1.length) 64)<|.lf fTokensOf (z2.1++z3.1,())) ?_
 refine cl_i ?_ fun o1=>(cl_i ?_ fun o2=>(ob_i ?_ fun o3=>lfY ?_))
 all_goals
  have hz:=feedAll_len s
  have he:=endText_len (feedAll s).2
  try simp only[std0] at *
  try simp only[fEndText,fFeedText,fTokensOf,std,Nat.reduceAdd,szF,toF,eqF,mkF,heF,tokensOf,fFeedText,fEndText,dflt_rest] at *
  try simp(disch:=omega) only[wrapId',toNat1] at *
  try simp(disch:=omega) only[if_pos,if_neg]
 all_goals first|trivial|omega|grind[wrapId',toNat1,drop_cons,drop_end,good_len,maxLen,tokensOf,fFeedText,fEndText,dflt_rest])
def E101:=E100.add 123 fTokensOf
theorem E101ok:EOk Tryz.prog E101:=E100ok.add k123_100
def arriveText (p:SPage) (s:ByteArray):SPage:=if p.ended=true then p else{ p with queue:=p.queue++(feedAll (p.tok.rest++s)).1,tok:=⟨(feedAll (p.tok.rest++s)).2⟩}
def fArriveText:Fct:=⟨[.v (.el .page),.v (.el .str)],[.el .page],fun(x_:SPage×ByteArray×Unit)=>szPage x_.1≤1000000000000∧x_.1.tok.rest.size≤10000000∧x_.2.1.size≤10000000,fun(x_:SPage×ByteArray×Unit)=>(arriveText x_.1 x_.2.1,())⟩
theorem k68_101:fArriveText.ok Tryz.prog 68:=Fct.o [1,2,4,5,6,7,11,1000011] E101ok Tryz.func68 (by
 rintro⟨(p:SPage),(s:ByteArray),_⟩ hp
 refine ho (.cl fCopyPage (p,()) fun z2=>.br (p.ended) (.lf fArriveText (z2.1,())) (.cl fFeedText (p.tok,s,()) fun z3=>.ob (Room (z2.1.queue.length+z3.1.length) 64)<|.lf fArriveText (⟨z2.1.addr,z2.1.policy,z3.2.1,z2.1.queue++z3.1,z2.1.ended,z2.1.builder,z2.1.slots,z2.1.mods,z2.1.entries,z2.1.block,z2.1.inline,z2.1.deferred,z2.1.entered,z2.1.ran,z2.1.log,z2.1.loaded⟩,()))) ?_
 refine cl_i ?_ fun o1=>(br_i (fun h2=>lfY ?_) (fun h2=>cl_i ?_ fun o3=>(ob_i ?_ fun o4=>lfY ?_)))
 all_goals
  have hz:=feedAll_len (p.tok.rest++s)
  have hl2:=szL_len szToken p.queue
  have hq:szL szToken p.queue+p.tok.rest.size≤szPage p:=by simp only[szPage,szTokenizer];omega
 all_goals rw[ByteArray.size_append] at hz
 all_goals
  try simp only[std0] at *
  try simp only[fArriveText,fCopyPage,fFeedText,std,Nat.reduceAdd,szF,toF,eqF,mkF,heF,arriveText,fCopyPage,fFeedText] at *
  try simp(disch:=omega) only[wrapId',toNat1] at *
  try simp(disch:=omega) only[if_pos,if_neg]
 all_goals first|trivial|omega|grind[wrapId',toNat1,drop_cons,drop_end,good_len,maxLen,arriveText,fCopyPage,fFeedText])
def E102:=E101.add 68 fArriveText
theorem E102ok:EOk Tryz.prog E102:=E101ok.add k68_101
def endPage (p:SPage):SPage:=if p.ended=true then p else{ p with queue:=p.queue++endText p.tok.rest,tok:=default,ended:=true }
def fEndPage:Fct:=⟨[.v (.el .page)],[.el .page],fun(x_:SPage×Unit)=>szPage x_.1≤1000000000000,fun(x_:SPage×Unit)=>(endPage x_.1,())⟩
theorem k71_102:fEndPage.ok Tryz.prog 71:=Fct.o [1,2,3,7,1000007] E102ok Tryz.func71 (by
 rintro⟨(p:SPage),_⟩ hp
 refine ho (.cl fCopyPage (p,()) fun z2=>.br (p.ended) (.lf fEndPage (z2.1,())) (.cl fEndText (p.tok,()) fun z3=>.ob (Room (z2.1.queue.length+z3.1.length) 64)<|.lf fEndPage (⟨z2.1.addr,z2.1.policy,default,z2.1.queue++z3.1,true,z2.1.builder,z2.1.slots,z2.1.mods,z2.1.entries,z2.1.block,z2.1.inline,z2.1.deferred,z2.1.entered,z2.1.ran,z2.1.log,z2.1.loaded⟩,()))) ?_
 refine cl_i ?_ fun o1=>(br_i (fun h2=>lfY ?_) (fun h2=>cl_i ?_ fun o3=>(ob_i ?_ fun o4=>lfY ?_)))
 all_goals
  have hz:=endText_len p.tok.rest
  have hl2:=szL_len szToken p.queue
  have hq:szL szToken p.queue+p.tok.rest.size≤szPage p:=by simp only[szPage,szTokenizer];omega
  try simp only[std0] at *
  try simp only[fCopyPage,fEndPage,fEndText,std,Nat.reduceAdd,szF,toF,eqF,mkF,heF,endPage,fCopyPage,fEndText] at *
  try simp(disch:=omega) only[wrapId',toNat1] at *
  try simp(disch:=omega) only[if_pos,if_neg]
 all_goals first|trivial|omega|grind[wrapId',toNat1,drop_cons,drop_end,good_len,maxLen,endPage,fCopyPage,fEndText])
def E103:=E102.add 71 fEndPage
theorem E103ok:EOk Tryz.prog E103:=E102ok.add k71_102
def stylesReady (l:List SSlot):Bool:=l.all fun s=>!(decide (s.mode=2) && !s.done)
theorem styles_at {l:List SSlot} {i:Nat} (h:i<l.length):stylesReady (l.drop i)=(!(decide ((l.getD i default).mode=2) && !(l.getD i default).done)&&stylesReady (l.drop (i+1))):=by rw[drop_cons h];rfl
theorem styles_end {l:List SSlot} {i:Nat} (h:l.length≤i):stylesReady (l.drop i)=true:=by rw[List.drop_of_length_le h];rfl
def fStylesReady:Fct:=⟨[.v (.el .page)],[.el .bool],fun(x_:SPage×Unit)=>x_.1.slots.length≤1000000000000,fun(x_:SPage×Unit)=>(stylesReady x_.1.slots,())⟩
abbrev W_spec_StylesReady_fStylesReady_2 (p:SPage):LInv:=⟨[⟨.s,3,true,.el .int⟩,⟨.b,1,false,.el .page⟩],fun(z_:Int×SPage×Unit) (x_:Int×SPage×Unit)=>(0≤x_.1∧x_.1≤p.slots.length∧stylesReady (p.slots.drop x_.1.toNat)=stylesReady p.slots)∧x_.2.1=z_.2.1,fun(x_:Int×SPage×Unit)=>p.slots.length-x_.1.toNat⟩
theorem k92_103:fStylesReady.ok Tryz.prog 92:=Fct.of (S:=fStylesReady) (L:=fun⟨p,_⟩=>fun|2=>some (W_spec_StylesReady_fStylesReady_2 p)|_=>none) (kp:=[1,2,3,8,26,1000008,1000026]) E103ok Tryz.func92 (by kernel_rfl) (by kernel_rfl) (by
 rintro⟨(p:SPage),_⟩ hp
 refine ho (lpx (W_spec_StylesReady_fStylesReady_2 p) ((0:Int),(p,())) fun(y1:Int×SPage×PUnit) bk1=>.br (decide (y1.1<(↑y1.2.1.slots.length:Int))) (.ob (inB y1.1 y1.2.1.slots.length)<|.br ((y1.2.1.slots.getD y1.1.toNat default).mode==2) (.ob (inB y1.1 y1.2.1.slots.length)<|.br (!(y1.2.1.slots.getD y1.1.toNat default).done) (.lf fStylesReady (false,())) (.ob (bk1 (w1 y1.1,(y1.2.1,())))<|.ok)) (.ob (bk1 (w1 y1.1,(y1.2.1,())))<|.ok)) (.lf fStylesReady (true,()))) ?_
 refine lpx_i ?_ fun(y1:Int×SPage×PUnit) i1=>br_i (fun h2=>ob_i ?_ fun o3=>br_i (fun h4=>ob_i ?_ fun o5=>br_i (fun h6=>lfY ?_) (fun h6=>ob_i ?_ fun o7=>trivial)) (fun h4=>ob_i ?_ fun o8=>trivial)) (fun h2=>lfY ?_)
 all_goals
  try simp only[std0] at *
  try simp only[W_spec_StylesReady_fStylesReady_2,fStylesReady,std,Nat.reduceAdd,szF,toF,eqF,mkF,heF,styles_at,styles_end] at *
  try simp(disch:=omega) only[wrapId',toNat1] at *
  try simp(disch:=omega) only[if_pos,if_neg]
 all_goals first|trivial|omega|grind[wrapId',toNat1,drop_cons,drop_end,good_len,maxLen,styles_at,styles_end])
def E104:=E103.add 92 fStylesReady
theorem E104ok:EOk Tryz.prog E104:=E103ok.add k92_103
def textOf (n:Int):List SNode→ByteArray→ByteArray
 | [],s=>s
 | x::l,s=>textOf n l (if x.parent=n∧x.name=⟨#[]⟩ then s++x.text else s)
theorem textOf_at {n:Int} {l:List SNode} {i:Nat} {s:ByteArray} (h:i<l.length):textOf n (l.drop i) s=textOf n (l.drop (i+1)) (if(l.getD i default).parent=n∧(l.getD i default).name=⟨#[]⟩ then s++(l.getD i default).text else s):=by rw[drop_cons h];rfl
theorem textOf_end {n:Int} {l:List SNode} {i:Nat} {s:ByteArray} (h:l.length≤i):textOf n (l.drop i) s=s:=by rw[List.drop_of_length_le h];rfl
def fTextOf:Fct:=⟨[.v (.el .builder),.v (.el .int)],[.el .str],fun(x_:SBuilder×Int×Unit)=>szBuilder x_.1≤1000000000000,fun(x_:SBuilder×Int×Unit)=>(textOf x_.2.1 x_.1.nodes ⟨#[]⟩,())⟩
abbrev W_spec_TextOf_fTextOf_3 (b:SBuilder) (n:Int):LInv:=⟨[⟨.s,5,true,.el .str⟩,⟨.s,6,true,.el .int⟩,⟨.b,2,false,.el .builder⟩],fun(z_:ByteArray×Int×SBuilder×Unit) (x_:ByteArray×Int×SBuilder×Unit)=>(0≤x_.2.1∧x_.2.1≤b.nodes.length∧x_.1.size+szL szNode (b.nodes.drop x_.2.1.toNat)≤szL szNode b.nodes∧textOf n (b.nodes.drop x_.2.1.toNat) x_.1=textOf n b.nodes ⟨#[]⟩)∧x_.2.2.1=z_.2.2.1,fun(x_:ByteArray×Int×SBuilder×Unit)=>b.nodes.length-x_.2.1.toNat⟩
theorem k94_104:fTextOf.ok Tryz.prog 94:=Fct.of (S:=fTextOf) (L:=fun⟨b,n,_⟩=>fun|3=>some (W_spec_TextOf_fTextOf_3 b n)|_=>none) (kp:=[1,2,4,5,6,11,30,1000011,1000030]) E104ok Tryz.func94 (by kernel_rfl) (by kernel_rfl) (by
 rintro⟨(b:SBuilder),(n:Int),_⟩ hp
 refine ho (lpx (W_spec_TextOf_fTextOf_3 b n) ((⟨#[]⟩:ByteArray),((0:Int),(b,()))) fun(y1:ByteArray×Int×SBuilder×PUnit) bk1=>.br (decide (y1.2.1<(↑y1.2.2.1.nodes.length:Int))) (.ob (inB y1.2.1 y1.2.2.1.nodes.length)<|.br ((y1.2.2.1.nodes.getD y1.2.1.toNat default).parent==n) (.ob (inB y1.2.1 y1.2.2.1.nodes.length)<|.br ((y1.2.2.1.nodes.getD y1.2.1.toNat default).name.toList==(⟨#[]⟩:ByteArray).toList) (.ob (inB y1.2.1 y1.2.2.1.nodes.length)<|.ob (sameSize y1.1 (y1.2.2.1.nodes.getD y1.2.1.toNat default).text)<|.ob (Value.int IntKind.i64 n=Value.int IntKind.i64 n)<|.ob (Value.string (⟨#[]⟩:ByteArray)=Value.string (⟨#[]⟩:ByteArray))<|.ob (bk1 (y1.1++(y1.2.2.1.nodes.getD y1.2.1.toNat default).text,(w1 y1.2.1,(y1.2.2.1,()))))<|.ok) (.ob (Value.int IntKind.i64 n=Value.int IntKind.i64 n)<|.ob (Value.string (⟨#[]⟩:ByteArray)=Value.string (⟨#[]⟩:ByteArray))<|.ob (bk1 (y1.1,(w1 y1.2.1,(y1.2.2.1,()))))<|.ok)) (.ob (Value.int IntKind.i64 n=Value.int IntKind.i64 n)<|.ob (Value.string (⟨#[]⟩:ByteArray)=Value.string (⟨#[]⟩:ByteArray))<|.ob (bk1 (y1.1,(w1 y1.2.1,(y1.2.2.1,()))))<|.ok)) (.lf fTextOf (y1.1,()))) ?_
 refine lpx_i ?_ fun(y1:ByteArray×Int×SBuilder×PUnit) i1=>br_i (fun h2=>ob_i ?_ fun o3=>br_i (fun h4=>ob_i ?_ fun o5=>br_i (fun h6=>ob_i ?_ fun o7=>ob_i ?_ fun o8=>ob_i rfl fun _=>ob_i rfl fun _=>ob_i ?_ fun o9=>trivial) (fun h6=>ob_i rfl fun _=>ob_i rfl fun _=>ob_i ?_ fun o10=>trivial)) (fun h4=>ob_i rfl fun _=>ob_i rfl fun _=>ob_i ?_ fun o11=>trivial)) (fun h2=>lfY ?_)
 all_goals
  have hl:=szL_len szNode b.nodes
  have hb:szL szNode b.nodes≤szBuilder b:=by simp only[szBuilder];omega
  have hx:∀ i,i<b.nodes.length→szL szNode (b.nodes.drop i)=szNode (b.nodes.getD i default)+1+szL szNode (b.nodes.drop (i+1)):=fun i h=>szL_at szNode h
  try simp only[std0] at *
  try simp only[W_spec_TextOf_fTextOf_3,fTextOf,std,Nat.reduceAdd,szF,toF,eqF,mkF,heF,textOf_at,textOf_end,sameSize,ByteArray.size_append,szNode] at *
  try simp(disch:=omega) only[wrapId',toNat1] at *
  try simp(disch:=omega) only[if_pos,if_neg]
 all_goals first|trivial|omega|grind[wrapId',toNat1,drop_cons,drop_end,good_len,maxLen,textOf_at,textOf_end,sameSize,ByteArray.size_append,szNode])
def E105:=E104.add 94 fTextOf
theorem E105ok:EOk Tryz.prog E105:=E104ok.add k94_104
def countName (n:ByteArray) (l:List SNode):Int:=countIf (fun x=>decide (x.name=n)) l
def fCountName:Fct:=⟨[.v (.el .builder),.v (.el .str)],[.el .int],fun(x_:SBuilder×ByteArray×Unit)=>x_.1.nodes.length≤1000000000000,fun(x_:SBuilder×ByteArray×Unit)=>(countName x_.2.1 x_.1.nodes,())⟩
abbrev W_spec_CountName_fCountName_3 (b:SBuilder) (n:ByteArray):LInv:=⟨[⟨.s,5,true,.el .int⟩,⟨.s,6,true,.el .int⟩,⟨.b,2,false,.el .builder⟩],fun(z_:Int×Int×SBuilder×Unit) (x_:Int×Int×SBuilder×Unit)=>(0≤x_.2.1∧x_.2.1≤b.nodes.length∧0≤x_.1∧x_.1≤x_.2.1∧x_.1+countIf (fun x=>decide (x.name=n)) (b.nodes.drop x_.2.1.toNat)=countName n b.nodes)∧x_.2.2.1=z_.2.2.1,fun(x_:Int×Int×SBuilder×Unit)=>b.nodes.length-x_.2.1.toNat⟩
theorem k157_105:fCountName.ok Tryz.prog 157:=Fct.of (S:=fCountName) (L:=fun⟨b,n,_⟩=>fun|3=>some (W_spec_CountName_fCountName_3 b n)|_=>none) (kp:=[1,2,4,5,6,11,21,1000011,1000021]) E105ok Tryz.func157 (by kernel_rfl) (by kernel_rfl) (by
 rintro⟨(b:SBuilder),(n:ByteArray),_⟩ hp
 refine ho (lpx (W_spec_CountName_fCountName_3 b n) ((0:Int),((0:Int),(b,()))) fun(y1:Int×Int×SBuilder×PUnit) bk1=>.br (decide (y1.2.1<(↑y1.2.2.1.nodes.length:Int))) (.ob (inB y1.2.1 y1.2.2.1.nodes.length)<|.br ((y1.2.2.1.nodes.getD y1.2.1.toNat default).name.toList==n.toList) (.ob (Value.string n=Value.string n)<|.ob (Value.int IntKind.i64 0=Value.int IntKind.i64 (0:Int))<|.ob (bk1 (w1 y1.1,(w1 y1.2.1,(y1.2.2.1,()))))<|.ok) (.ob (Value.string n=Value.string n)<|.ob (Value.int IntKind.i64 0=Value.int IntKind.i64 (0:Int))<|.ob (bk1 (y1.1,(w1 y1.2.1,(y1.2.2.1,()))))<|.ok)) (.lf fCountName (y1.1,()))) ?_
 refine lpx_i ?_ fun(y1:Int×Int×SBuilder×PUnit) i1=>br_i (fun h2=>ob_i ?_ fun o3=>br_i (fun h4=>ob_i rfl fun _=>ob_i rfl fun _=>ob_i ?_ fun o5=>trivial) (fun h4=>ob_i rfl fun _=>ob_i rfl fun _=>ob_i ?_ fun o6=>trivial)) (fun h2=>lfY ?_)
 all_goals
  try simp only[std0] at *
  try simp only[W_spec_CountName_fCountName_3,fCountName,std,Nat.reduceAdd,szF,toF,eqF,mkF,heF,countName,countIf,countIf_le] at *
  try simp(disch:=omega) only[wrapId',toNat1] at *
  try simp(disch:=omega) only[if_pos,if_neg]
 all_goals first|trivial|omega|grind[wrapId',toNat1,drop_cons,drop_end,good_len,maxLen,countName,countIf,countIf_le])
def E106:=E105.add 157 fCountName
theorem E106ok:EOk Tryz.prog E106:=E105ok.add k157_105
def colR (n:ByteArray) (rs:List SRule) (z:Int):Nat→Int
 | 0=>z
 | m+1=>if(rs.getD m default).name=n then(rs.getD m default).color else colR n rs z m
def colS (n:ByteArray) (l:List SSheet):Nat→Int
 | 0=>0
 | m+1=>colR n (l.getD m default).rules (colS n l m) (l.getD m default).rules.length
def colorOf (l:List SSheet) (n:ByteArray):Int:=colS n l l.length
theorem colR_at {n:ByteArray} {rs:List SRule} {z k:Int} (h:0≤k):colR n rs z (k+1).toNat=if(rs.getD k.toNat default).name=n then(rs.getD k.toNat default).color else colR n rs z k.toNat:=by
 rw[show(k+1).toNat=k.toNat+1 by omega];rfl
theorem colS_at {n:ByteArray} {l:List SSheet} {k:Int} (h:0≤k):colS n l (k+1).toNat=colR n (l.getD k.toNat default).rules (colS n l k.toNat) (l.getD k.toNat default).rules.length:=by
 rw[show(k+1).toNat=k.toNat+1 by omega];rfl
theorem colR_end {n:ByteArray} {rs:List SRule} {z k:Int} (h:k<0):colR n rs z (k+1).toNat=z:=by
 rw[show(k+1).toNat=0 by omega];rfl
theorem colS_end {n:ByteArray} {l:List SSheet} {k:Int} (h:k<0):colS n l (k+1).toNat=0:=by
 rw[show(k+1).toNat=0 by omega];rfl
theorem colS_all {n:ByteArray} {l:List SSheet}:colS n l ((l.length:Int)-1+1).toNat=colorOf l n:=by
 rw[show((l.length:Int)-1+1).toNat=l.length by omega];rfl
theorem colR_all {n:ByteArray} {rs:List SRule} {z:Int}:colR n rs z ((rs.length:Int)-1+1).toNat=colR n rs z rs.length:=by
 rw[show((rs.length:Int)-1+1).toNat=rs.length by omega]
def fColorOf:Fct:=⟨[.v (.sl .sheet),.v (.el .str)],[.el .int],fun(x_:(List SSheet)×ByteArray×Unit)=>szL szSheet x_.1≤1000000000000,fun(x_:(List SSheet)×ByteArray×Unit)=>(colorOf x_.1 x_.2.1,())⟩
abbrev W_spec_ColorOf_fColorOf_2 (l:(List SSheet)) (n:ByteArray):LInv:=⟨[⟨.s,5,true,.el .int⟩],fun _ (x_:Int×Unit)=>-1≤x_.1∧x_.1<l.length∧colS n l (x_.1+1).toNat=colorOf l n,fun(x_:Int×Unit)=>(x_.1+1).toNat⟩
abbrev W_spec_ColorOf_fColorOf_5 (l:(List SSheet)) (n:ByteArray):LInv:=⟨[⟨.s,6,true,.el .int⟩,⟨.s,5,true,.el .int⟩],fun(z_:Int×Int×Unit) (x_:Int×Int×Unit)=>x_.2.1=z_.2.1∧0≤x_.2.1∧x_.2.1<l.length∧-1≤x_.1∧x_.1<(l.getD x_.2.1.toNat default).rules.length∧colR n (l.getD x_.2.1.toNat default).rules (colS n l x_.2.1.toNat) (x_.1+1).toNat=colorOf l n,fun(x_:Int×Int×Unit)=>(x_.1+1).toNat⟩
theorem k158_106:fColorOf.ok Tryz.prog 158:=Fct.of (S:=fColorOf) (L:=fun⟨l,n,_⟩=>fun|2=>some (W_spec_ColorOf_fColorOf_2 l n)|5=>some (W_spec_ColorOf_fColorOf_5 l n)|_=>none) (kp:=[0,1,4,5,6,11,22,35,1000011,1000022,1000035]) E106ok Tryz.func158 (by kernel_rfl) (by kernel_rfl) (by
 rintro⟨(l:List SSheet),(n:ByteArray),_⟩ hp
 refine ho (lpx (W_spec_ColorOf_fColorOf_2 l n) (wr ((↑l.length:Int)-(1:Int)),()) fun(y1:Int×PUnit) bk1=>.br (decide (y1.1≥0)) (.ob (inB y1.1 l.length)<|lpx (W_spec_ColorOf_fColorOf_5 l n) (wr ((↑(l.getD y1.1.toNat default).rules.length:Int)-(1:Int)),(y1.1,())) fun(y4:Int×Int×PUnit) bk4=>.br (decide (y4.1≥0)) (.ob (inB y4.2.1 l.length)<|.ob (0≤y4.1∧y4.1<(↑(l.getD y4.2.1.toNat default).rules.length:Int))<|.br (((l.getD y4.2.1.toNat default).rules.getD y4.1.toNat default).name.toList==n.toList) (.ob (inB y4.2.1 l.length)<|.ob (0≤y4.1∧y4.1<(↑(l.getD y4.2.1.toNat default).rules.length:Int))<|.lf fColorOf (((l.getD y4.2.1.toNat default).rules.getD y4.1.toNat default).color,())) (.ob (l=l)<|.ob (Value.string n=Value.string n)<|.ob (bk4 (wr (y4.1-(1:Int)),(y4.2.1,())))<|.ok)) (.ob (l=l)<|.ob (Value.string n=Value.string n)<|.ob (bk1 (wr (y4.2.1-(1:Int)),()))<|.ok)) (.lf fColorOf ((0:Int),()))) ?_
 refine lpx_i ?_ fun(y1:Int×PUnit) i1=>br_i (fun h2=>ob_i ?_ fun o3=>lpx_i ?_ fun(y4:Int×Int×PUnit) i4=>br_i (fun h5=>ob_i ?_ fun o6=>ob_i ?_ fun o7=>br_i (fun h8=>ob_i ?_ fun o9=>ob_i ?_ fun o10=>lfY ?_) (fun h8=>ob_i rfl fun _=>ob_i rfl fun _=>ob_i ?_ fun o11=>trivial)) (fun h5=>ob_i rfl fun _=>ob_i rfl fun _=>ob_i ?_ fun o12=>trivial)) (fun h2=>lfY ?_)
 all_goals
  have hl:=szL_len szSheet l
  have hx:∀ i,i<l.length→(l.getD i default).rules.length≤1000000000000:=fun i h=>by have:=szL_get szSheet (l:=l) h;have h2:=szL_len szRule (l.getD i default).rules;have h3:szL szSheet l≤1000000000000:=hp;simp only[szSheet] at this;omega
  try simp only[std0] at *
  try simp only[W_spec_ColorOf_fColorOf_2,W_spec_ColorOf_fColorOf_5,fColorOf,std,Nat.reduceAdd,szF,toF,eqF,mkF,heF] at *
 all_goals first|trivial|omega|(rw[wrapId (by omega)];exact⟨by omega,by omega,colS_all⟩)|(obtain⟨a1,a2,a3⟩:=i1)
 all_goals first|trivial|omega|(have:=hx y1.1.toNat (by omega);rw[wrapId (by omega)];first|exact⟨by omega,by omega,by omega,by omega,by omega,by rw[colR_all,←colS_at (by omega)];exact a3⟩|exact⟨by omega,by omega,by omega,by omega,by rw[colR_all,←colS_at (by omega)];exact a3⟩)|(rw[colS_end (by omega)] at a3;exact a3)|(obtain⟨b0,b1,b2,b3,b4,b5⟩:=i4)
 all_goals first|(have:=hx y4.2.1.toNat (by omega))|skip
 all_goals first|(rw[colR_at (by omega),if_pos (by assumption)] at b5;exact b5)|(rw[colR_at (by omega),if_neg (by assumption)] at b5;rw[wrapId (by omega),show(y4.1-1+1).toNat=y4.1.toNat by omega];exact⟨⟨by omega,by omega,by omega,by omega,by omega,b5⟩,by omega⟩)|(rw[colR_end (by omega)] at b5;rw[wrapId (by omega),show(y4.2.1-1+1).toNat=y4.2.1.toNat by omega];exact⟨⟨by omega,by omega,b5⟩,by omega⟩)|omega|skip)
def E107:=E106.add 158 fColorOf
theorem E107ok:EOk Tryz.prog E107:=E106ok.add k158_106
def words8:List ByteArray:=[⟨#[]⟩,⟨#[119,114,105,116,101,32]⟩,⟨#[97,100,100,32]⟩,⟨#[99,111,117,110,116,32]⟩,⟨#[108,111,111,107,32]⟩,⟨#[115,97,121,32]⟩]
def fWords8:Fct:=⟨[],[.sl .str],fun(x_:Unit)=>True,fun(x_:Unit)=>(words8,())⟩
theorem k155_107:fWords8.ok Tryz.prog 155:=Fct.o [0] E107ok Tryz.func155 (by
 rintro⟨_⟩ hp
 refine ho (.lf fWords8 ([(⟨#[]⟩:ByteArray),(⟨#[119,114,105,116,101,32]⟩:ByteArray),(⟨#[97,100,100,32]⟩:ByteArray),(⟨#[99,111,117,110,116,32]⟩:ByteArray),(⟨#[108,111,111,107,32]⟩:ByteArray),(⟨#[115,97,121,32]⟩:ByteArray)],())) ?_
 refine lfY ?_
 all_goals
  try simp only[std0] at *
  try simp only[fWords8,std,Nat.reduceAdd,szF,toF,eqF,mkF,heF,words8] at *
  try simp(disch:=omega) only[wrapId',toNat1] at *
  try simp(disch:=omega) only[if_pos,if_neg]
 all_goals first|trivial|omega|grind[wrapId',toNat1,drop_cons,drop_end,good_len,maxLen,words8])
def E108:=E107.add 155 fWords8
theorem E108ok:EOk Tryz.prog E108:=E107ok.add k155_107
def line8L (s:ByteArray):List ByteArray→Int→SLine×Bool
 | [],_=>(default,false)
 | w::l,op=>if w.size≤s.size∧s.extract 0 w.size=w then(⟨op,s.extract w.size s.size⟩,if op=1∨op=5 then decide (s.size-w.size≤60) else isName (s.extract w.size s.size)) else line8L s l (op+1)
theorem line8L_at {s:ByteArray} {l:List ByteArray} {i:Nat} {k:Int} (h:i<l.length):line8L s (l.drop i) k=if(l.getD i default).size≤s.size∧s.extract 0 (l.getD i default).size=l.getD i default then(⟨k,s.extract (l.getD i default).size s.size⟩,if k=1∨k=5 then decide (s.size-(l.getD i default).size≤60) else isName (s.extract (l.getD i default).size s.size)) else line8L s (l.drop (i+1)) (k+1):=by rw[drop_cons h];rfl
theorem line8L_end {s:ByteArray} {l:List ByteArray} {i:Nat} {k:Int} (h:l.length≤i):line8L s (l.drop i) k=(default,false):=by rw[List.drop_of_length_le h];rfl
def line8 (s:ByteArray):SLine×Bool:=line8L s (words8.drop 1) 1
theorem words8_len:words8.length=6:=rfl
def fLine8:Fct:=⟨[.v (.el .str)],[.el .line,.el .bool],fun(x_:ByteArray×Unit)=>x_.1.size≤1000000000000,fun(x_:ByteArray×Unit)=>((line8 x_.1).1,(line8 x_.1).2,())⟩
abbrev W_spec_l8Line_fLine8_3 (s:ByteArray):LInv:=⟨[⟨.s,5,true,.el .int⟩,⟨.b,2,true,.el .line⟩,⟨.s,4,true,.sl .str⟩],fun(z_:Int×SLine×(List ByteArray)×Unit) (x_:Int×SLine×(List ByteArray)×Unit)=>((1≤x_.1∧x_.1≤6∧line8L s (words8.drop x_.1.toNat) x_.1=line8 s)∧x_.2.1=z_.2.1)∧x_.2.2.1=z_.2.2.1,fun(x_:Int×SLine×(List ByteArray)×Unit)=>(6-x_.1).toNat⟩
theorem k141_108:fLine8.ok Tryz.prog 141:=Fct.of (S:=fLine8) (L:=fun⟨s,_⟩=>fun|3=>some (W_spec_l8Line_fLine8_3 s)|_=>none) (kp:=[0,2,3,4,5,6,7,8,13,32,1000013,1000032]) E108ok Tryz.func141 (by kernel_rfl) (by kernel_rfl) (by
 rintro⟨(s:ByteArray),_⟩ hp
 refine ho (.cl fWords8 () fun z2=>lpx (W_spec_l8Line_fLine8_3 s) ((1:Int),(default,(z2.1,()))) fun(y1:Int×SLine×List ByteArray×PUnit) bk1=>.br (decide (y1.1<(↑y1.2.2.1.length:Int))) (.ob (inB y1.1 y1.2.2.1.length)<|.ob (y1.1.toNat<y1.2.2.1.length)<|.br (decide ((↑s.size:Int)≥(↑(y1.2.2.1.getD y1.1.toNat default).size:Int))) (.ob ((0:Int)≤(↑(y1.2.2.1.getD y1.1.toNat default).size:Int)∧(↑(y1.2.2.1.getD y1.1.toNat default).size:Int)≤(↑s.size:Int))<|.br ((s.extract 0 (↑(y1.2.2.1.getD y1.1.toNat default).size:Int).toNat).toList==(y1.2.2.1.getD y1.1.toNat default).toList) (.ob ((0:Int)≤(↑(y1.2.2.1.getD y1.1.toNat default).size:Int)∧(↑(y1.2.2.1.getD y1.1.toNat default).size:Int)≤(↑s.size:Int))<|.br (y1.1==1) (.lp (Bool) (True) (fun x=>True) fun y10=>.br (y10) (.lp (Bool) (True) (fun x=>True) fun y12=>.br (y12) (.br (decide ((↑(s.extract (↑(y1.2.2.1.getD y1.1.toNat default).size:Int).toNat s.size).size:Int)≤60)) (.lf fLine8 (⟨y1.1,s.extract (↑(y1.2.2.1.getD y1.1.toNat default).size:Int).toNat s.size⟩,true,())) (.br (!true) (.cl fIsName (s.extract (↑(y1.2.2.1.getD y1.1.toNat default).size:Int).toNat s.size,()) fun z3=>.lf fLine8 (⟨y1.1,s.extract (↑(y1.2.2.1.getD y1.1.toNat default).size:Int).toNat s.size⟩,z3.1,())) (.lf fLine8 (⟨y1.1,s.extract (↑(y1.2.2.1.getD y1.1.toNat default).size:Int).toNat s.size⟩,false,())))) (.br (decide ((↑(s.extract (↑(y1.2.2.1.getD y1.1.toNat default).size:Int).toNat s.size).size:Int)≤60)) (.lf fLine8 (⟨y1.1,s.extract (↑(y1.2.2.1.getD y1.1.toNat default).size:Int).toNat s.size⟩,true,())) (.br (!true) (.cl fIsName (s.extract (↑(y1.2.2.1.getD y1.1.toNat default).size:Int).toNat s.size,()) fun z4=>.lf fLine8 (⟨y1.1,s.extract (↑(y1.2.2.1.getD y1.1.toNat default).size:Int).toNat s.size⟩,z4.1,())) (.lf fLine8 (⟨y1.1,s.extract (↑(y1.2.2.1.getD y1.1.toNat default).size:Int).toNat s.size⟩,false,()))))) (.br (decide ((↑(s.extract (↑(y1.2.2.1.getD y1.1.toNat default).size:Int).toNat s.size).size:Int)≤60)) (.lf fLine8 (⟨y1.1,s.extract (↑(y1.2.2.1.getD y1.1.toNat default).size:Int).toNat s.size⟩,true,())) (.br (!true) (.cl fIsName (s.extract (↑(y1.2.2.1.getD y1.1.toNat default).size:Int).toNat s.size,()) fun z5=>.lf fLine8 (⟨y1.1,s.extract (↑(y1.2.2.1.getD y1.1.toNat default).size:Int).toNat s.size⟩,z5.1,())) (.lf fLine8 (⟨y1.1,s.extract (↑(y1.2.2.1.getD y1.1.toNat default).size:Int).toNat s.size⟩,false,()))))) (.lp (Bool) (True) (fun x=>True) fun y23=>.br (y23) (.lp (Bool) (True) (fun x=>True) fun y25=>.br (y25) (.br (y1.1==5) (.br (decide ((↑(s.extract (↑(y1.2.2.1.getD y1.1.toNat default).size:Int).toNat s.size).size:Int)≤60)) (.lf fLine8 (⟨y1.1,s.extract (↑(y1.2.2.1.getD y1.1.toNat default).size:Int).toNat s.size⟩,true,())) (.br (!y1.1==5) (.cl fIsName (s.extract (↑(y1.2.2.1.getD y1.1.toNat default).size:Int).toNat s.size,()) fun z6=>.lf fLine8 (⟨y1.1,s.extract (↑(y1.2.2.1.getD y1.1.toNat default).size:Int).toNat s.size⟩,z6.1,())) (.lf fLine8 (⟨y1.1,s.extract (↑(y1.2.2.1.getD y1.1.toNat default).size:Int).toNat s.size⟩,false,())))) (.br (!y1.1==5) (.cl fIsName (s.extract (↑(y1.2.2.1.getD y1.1.toNat default).size:Int).toNat s.size,()) fun z7=>.lf fLine8 (⟨y1.1,s.extract (↑(y1.2.2.1.getD y1.1.toNat default).size:Int).toNat s.size⟩,z7.1,())) (.lf fLine8 (⟨y1.1,s.extract (↑(y1.2.2.1.getD y1.1.toNat default).size:Int).toNat s.size⟩,false,())))) (.br (y1.1==5) (.br (decide ((↑(s.extract (↑(y1.2.2.1.getD y1.1.toNat default).size:Int).toNat s.size).size:Int)≤60)) (.lf fLine8 (⟨y1.1,s.extract (↑(y1.2.2.1.getD y1.1.toNat default).size:Int).toNat s.size⟩,true,())) (.br (!y1.1==5) (.cl fIsName (s.extract (↑(y1.2.2.1.getD y1.1.toNat default).size:Int).toNat s.size,()) fun z8=>.lf fLine8 (⟨y1.1,s.extract (↑(y1.2.2.1.getD y1.1.toNat default).size:Int).toNat s.size⟩,z8.1,())) (.lf fLine8 (⟨y1.1,s.extract (↑(y1.2.2.1.getD y1.1.toNat default).size:Int).toNat s.size⟩,false,())))) (.br (!y1.1==5) (.cl fIsName (s.extract (↑(y1.2.2.1.getD y1.1.toNat default).size:Int).toNat s.size,()) fun z9=>.lf fLine8 (⟨y1.1,s.extract (↑(y1.2.2.1.getD y1.1.toNat default).size:Int).toNat s.size⟩,z9.1,())) (.lf fLine8 (⟨y1.1,s.extract (↑(y1.2.2.1.getD y1.1.toNat default).size:Int).toNat s.size⟩,false,()))))) (.br (y1.1==5) (.br (decide ((↑(s.extract (↑(y1.2.2.1.getD y1.1.toNat default).size:Int).toNat s.size).size:Int)≤60)) (.lf fLine8 (⟨y1.1,s.extract (↑(y1.2.2.1.getD y1.1.toNat default).size:Int).toNat s.size⟩,true,())) (.br (!y1.1==5) (.cl fIsName (s.extract (↑(y1.2.2.1.getD y1.1.toNat default).size:Int).toNat s.size,()) fun z10=>.lf fLine8 (⟨y1.1,s.extract (↑(y1.2.2.1.getD y1.1.toNat default).size:Int).toNat s.size⟩,z10.1,())) (.lf fLine8 (⟨y1.1,s.extract (↑(y1.2.2.1.getD y1.1.toNat default).size:Int).toNat s.size⟩,false,())))) (.br (!y1.1==5) (.cl fIsName (s.extract (↑(y1.2.2.1.getD y1.1.toNat default).size:Int).toNat s.size,()) fun z11=>.lf fLine8 (⟨y1.1,s.extract (↑(y1.2.2.1.getD y1.1.toNat default).size:Int).toNat s.size⟩,z11.1,())) (.lf fLine8 (⟨y1.1,s.extract (↑(y1.2.2.1.getD y1.1.toNat default).size:Int).toNat s.size⟩,false,())))))) (.ob (Value.string s=Value.string s)<|.ob (bk1 (w1 y1.1,(y1.2.1,(y1.2.2.1,()))))<|.ok)) (.ob (Value.string s=Value.string s)<|.ob (bk1 (w1 y1.1,(y1.2.1,(y1.2.2.1,()))))<|.ok)) (.lf fLine8 (default,false,()))) ?_
 refine cl_i trivial fun _=>(lpx_i ?_ fun(y1:Int×SLine×List ByteArray×PUnit) i1=>br_i (fun h2=>ob_i ?_ fun o3=>ob_i ?_ fun o4=>br_i (fun h5=>ob_i ?_ fun o6=>br_i (fun h7=>ob_i ?_ fun o8=>br_i (fun h9=>lp_i trivial fun y10 i10=>br_i (fun h11=>lp_i trivial fun y12 i12=>br_i (fun h13=>br_i (fun h14=>lfY ?_) (fun h14=>br_i (fun h15=>cl_i ?_ fun o16=>(lfY ?_)) (fun h15=>lfY ?_))) (fun h13=>br_i (fun h17=>lfY ?_) (fun h17=>br_i (fun h18=>cl_i ?_ fun o19=>(lfY ?_)) (fun h18=>lfY ?_)))) (fun h11=>br_i (fun h20=>lfY ?_) (fun h20=>br_i (fun h21=>cl_i ?_ fun o22=>(lfY ?_)) (fun h21=>lfY ?_)))) (fun h9=>lp_i trivial fun y23 i23=>br_i (fun h24=>lp_i trivial fun y25 i25=>br_i (fun h26=>br_i (fun h27=>br_i (fun h28=>lfY ?_) (fun h28=>br_i (fun h29=>cl_i ?_ fun o30=>(lfY ?_)) (fun h29=>lfY ?_))) (fun h27=>br_i (fun h31=>cl_i ?_ fun o32=>(lfY ?_)) (fun h31=>lfY ?_))) (fun h26=>br_i (fun h33=>br_i (fun h34=>lfY ?_) (fun h34=>br_i (fun h35=>cl_i ?_ fun o36=>(lfY ?_)) (fun h35=>lfY ?_))) (fun h33=>br_i (fun h37=>cl_i ?_ fun o38=>(lfY ?_)) (fun h37=>lfY ?_)))) (fun h24=>br_i (fun h39=>br_i (fun h40=>lfY ?_) (fun h40=>br_i (fun h41=>cl_i ?_ fun o42=>(lfY ?_)) (fun h41=>lfY ?_))) (fun h39=>br_i (fun h43=>cl_i ?_ fun o44=>(lfY ?_)) (fun h43=>lfY ?_))))) (fun h7=>ob_i rfl fun _=>ob_i ?_ fun o45=>trivial)) (fun h5=>ob_i rfl fun _=>ob_i ?_ fun o46=>trivial)) (fun h2=>lfY ?_))
 all_goals
  have k2:∀ a,(s.extract a s.size).size=s.size-a:=fun a=>by rw[ByteArray.size_extract];omega
  try simp only[std0] at *
  try simp only[W_spec_l8Line_fLine8_3,fIsName,fLine8,fWords8,std,Nat.reduceAdd,szF,toF,eqF,mkF,heF,fWords8,fIsName] at *
 all_goals first|exact⟨by omega,by omega,rfl⟩|(obtain⟨⟨⟨a1,a2,a3⟩,a4⟩,a5⟩:=i1;simp only[a5,words8_len,Int.toNat_natCast,k2] at *)
 all_goals first|trivial|omega|skip
 all_goals try (have e:=line8L_at (s:=s) (l:=words8) (i:=y1.1.toNat) (k:=y1.1) (by rw[words8_len];omega);rw[a3] at e)
 all_goals first|(rw[if_neg (by rintro⟨q1,q2⟩;first|omega|exact absurd q2 (by assumption))] at e;rw[wrapId (by omega),show(y1.1+1).toNat=y1.1.toNat+1 by omega];exact⟨⟨⟨⟨by omega,by omega,e.symm⟩,a4⟩,trivial⟩,by omega⟩)|skip
 all_goals try (have e:=line8L_end (s:=s) (l:=words8) (i:=y1.1.toNat) (k:=y1.1) (by rw[words8_len];omega);rw[a3] at e;rw[e];exact⟨by first|assumption|rfl,rfl⟩)
 all_goals rw[if_pos (by exact⟨by omega,by assumption⟩)] at e
 all_goals rw[e];refine⟨rfl,?_⟩
 all_goals first|rw[if_pos (by omega)]|rw[if_neg (by omega)]
 all_goals first|rfl|(rw[decide_eq_true (by omega)])|(rw[decide_eq_false (by omega)]))
def E109:=E108.add 141 fLine8
theorem E109ok:EOk Tryz.prog E109:=E108ok.add k141_108
def lines8 (l:List ByteArray):List SLine:=l.map fun w=>(line8 w).1
def allOk8 (l:List ByteArray):Bool:=l.all fun w=>(line8 w).2
def parseScript (s:ByteArray):List SLine×Bool:=if s=⟨#[]⟩ then([],true) else if(spl 59 s).length≤6∧allOk8 (spl 59 s)=true then(lines8 (spl 59 s),true) else([],false)
def fParseScript:Fct:=⟨[.v (.el .str)],[.sl .line,.el .bool],fun(x_:ByteArray×Unit)=>x_.1.size≤4200000000,fun(x_:ByteArray×Unit)=>((parseScript x_.1).1,(parseScript x_.1).2,())⟩
theorem lines8_snoc {l:List ByteArray} {i:Nat} (h:i<l.length):lines8 (l.take (i+1))=lines8 (l.take i)++[(line8 (l.getD i default)).1]∧allOk8 (l.take (i+1))=(allOk8 (l.take i)&&(line8 (l.getD i default)).2):=by
 rw[take_succ h]
 exact⟨by simp[lines8],by simp[allOk8]⟩
theorem allOk8_no {l:List ByteArray} {i:Nat} (h:i<l.length) (h2:(line8 (l.getD i default)).2=false):allOk8 l=false:=by
 unfold allOk8
 rw[List.all_eq_false]
 exact⟨l.getD i default,getD_in h,by rw[h2];decide⟩
abbrev W_spec_ParseScript_fParseScript_6 (s:ByteArray):LInv:=⟨[⟨.s,4,true,.sl .line⟩,⟨.s,6,true,.el .int⟩,⟨.s,5,true,.sl .str⟩],fun(z_:(List SLine)×Int×(List ByteArray)×Unit) (x_:(List SLine)×Int×(List ByteArray)×Unit)=>(0≤x_.2.1∧x_.2.1≤(spl 59 s).length∧(x_.2.1=0∨(spl 59 s).length≤6)∧x_.1=lines8 ((spl 59 s).take x_.2.1.toNat)∧allOk8 ((spl 59 s).take x_.2.1.toNat)=true)∧x_.2.2.1=z_.2.2.1,fun(x_:(List SLine)×Int×(List ByteArray)×Unit)=>(spl 59 s).length-x_.2.1.toNat⟩
theorem k120_109:fParseScript.ok Tryz.prog 120:=Fct.of (S:=fParseScript) (L:=fun⟨s,_⟩=>fun|6=>some (W_spec_ParseScript_fParseScript_6 s)|_=>none) (kp:=[0,2,3,4,5,6,7,8,11,18,35,1000011,1000018,1000035]) E109ok Tryz.func120 (by kernel_rfl) (by kernel_rfl) (by
 rintro⟨(s:ByteArray),_⟩ hp
 refine ho (.br (s.toList==(⟨#[]⟩:ByteArray).toList) (.lf fParseScript ([],true,())) (.cl fSplit5 (s,(59:Int),()) fun z2=>lpx (W_spec_ParseScript_fParseScript_6 s) ([],((0:Int),(z2.1,()))) fun(y3:List SLine×Int×List ByteArray×PUnit) bk3=>.br (decide (y3.2.1<(↑y3.2.2.1.length:Int))) (.ob (inB y3.2.1 y3.2.2.1.length)<|.ob (y3.2.1.toNat<y3.2.2.1.length)<|.cl fLine8 (y3.2.2.1.getD y3.2.1.toNat default,()) fun z3=>.br (!z3.2.1) (.lf fParseScript ([],false,())) (.br (decide ((↑y3.2.2.1.length:Int)>6)) (.lf fParseScript ([],false,())) (.ob (True)<|.ob (Room (y3.1.length+[z3.1].length) 24)<|.ob (Value.string s=Value.string s)<|.ob (bk3 (y3.1++[z3.1],(w1 y3.2.1,(y3.2.2.1,()))))<|.ok))) (.lf fParseScript (y3.1,true,())))) ?_
 refine br_i (fun h1=>lfY ?_) (fun h1=>cl_i ?_ fun o2=>(lpx_i ?_ fun(y3:List SLine×Int×List ByteArray×PUnit) i3=>br_i (fun h4=>ob_i ?_ fun o5=>ob_i ?_ fun o6=>cl_i ?_ fun o7=>(br_i (fun h8=>lfY ?_) (fun h8=>br_i (fun h9=>lfY ?_) (fun h9=>ob_i trivial fun _=>ob_i ?_ fun o10=>ob_i rfl fun _=>ob_i ?_ fun o11=>trivial)))) (fun h4=>lfY ?_)))
 all_goals
  have hk:=spl_len 59 s
  have hm:∀ i,i<(spl 59 s).length→((spl 59 s).getD i default).size≤s.size:=fun i h=>spl_mem (getD_in h)
  have hp1:s.size≤4200000000:=hp
  try simp only[std0] at *
  try simp only[W_spec_ParseScript_fParseScript_6,fLine8,fParseScript,fSplit5,std,Nat.reduceAdd,szF,toF,eqF,mkF,heF,fLine8,fSplit5,show UInt8.ofNat (Int.toNat 59)=59 from rfl] at *
 all_goals first|trivial|omega|(unfold parseScript;rw[if_pos (by assumption)];exact⟨rfl,rfl⟩)|exact⟨by omega,by omega,.inl (by trivial),rfl,rfl⟩|exact⟨by omega,by decide,by decide⟩|(obtain⟨⟨a1,a2,a3,a4,a5⟩,a6⟩:=i3;simp only[a6] at *)
 all_goals try have hl:y3.1.length≤(spl 59 s).length:=by rw[a4,lines8,List.length_map,List.length_take];omega
 all_goals first|trivial|omega|(have:=hm y3.2.1.toNat (by omega);omega)|skip
 all_goals first|(unfold parseScript;rw[if_neg (by assumption),if_neg (by rintro⟨q1,q2⟩;rw[allOk8_no (i:=y3.2.1.toNat) (by omega) (by assumption)] at q2;cases q2)];exact⟨rfl,rfl⟩)|(unfold parseScript;rw[if_neg (by assumption),if_neg (by omega)];exact⟨rfl,rfl⟩)|skip
 all_goals first|(rw[List.take_of_length_le (l:=spl 59 s) (i:=y3.2.1.toNat) (by omega)] at a4 a5;unfold parseScript;rw[if_neg (by assumption),if_pos (by exact⟨by omega,a5⟩)];exact⟨a4,rfl⟩)|skip
 all_goals first|(have e:=lines8_snoc (l:=spl 59 s) (i:=y3.2.1.toNat) (by omega);rw[wrapId (by omega),show(y3.2.1+1).toNat=y3.2.1.toNat+1 by omega];refine⟨⟨⟨by omega,by omega,.inr (by omega),by rw[e.1,a4],by rw[e.2,a5];assumption⟩,by first|assumption|trivial⟩,by omega⟩)|skip)
def E110:=E109.add 120 fParseScript
theorem E110ok:EOk Tryz.prog E110:=E109ok.add k120_109
def mk8 (x:UInt8):UInt8:=if x=91 then 60 else if x=93 then 62 else x
def markup (s:ByteArray):ByteArray:=ofL ((toL s).map mk8)
abbrev enc8 (x:UInt8):Value:=.int .u8 (x.toNat:Int)
def fMarkup:Fct:=⟨[aT],[rT],fun x=>x.1.size≤1000000000000,fun x=>(markup x.1,())⟩
open Go.RowKit Go.Lib Go.Sort in
theorem holds_bytes (w:World) (e:TypeId) (s:ByteArray):Holds enc8 (bytesWorld w e s) w.heap.size 0 s.data:=by
 intro j hj
 have hn:=bytesWorld_at_new w e s
 refine⟨?_,?_⟩
 ·simp only[World.cell?,Nat.zero_add,hn]
  have:(Lib.bytesCells w e s)[j]? = some (.int .u8 s.data[j].toNat):=by
   unfold Lib.bytesCells
   rw[Array.getElem?_append_left (by simpa using hj),Array.getElem?_map,Array.getElem?_eq_getElem hj]
   rfl
  simp[this,getElem!_pos s.data j hj]
 ·have h2:j<(bytesCells w e s).size:=by unfold Lib.bytesCells;rw[Array.size_append,Array.size_map];omega
  simp[World.frozen?,hn];omega
open Go.RowKit Go.Lib Go.Sort in
theorem mk8_step {s:ByteArray} {dk:Array UInt8} {i:Nat} {y:UInt8} (hi:i<s.size) (hs:dk.size=s.data.size) (hd:∀ t,t<s.size→dk[t]! = if t<i then mk8 s.data[t]! else s.data[t]!) (hy:y=mk8 s.data[i]!) :
 (dk.setIfInBounds i y).size=s.data.size∧∀ t,t<s.size→(dk.setIfInBounds i y)[t]! = if t<i+1 then mk8 s.data[t]! else s.data[t]!:=by
 have hsz:s.data.size=s.size:=rfl
 refine⟨by rw[Array.size_setIfInBounds];exact hs,fun t ht=>?_⟩
 by_cases h:t=i
 ·subst h
  rw[getElem!_set_same _ _ _ (by omega),if_pos (by omega),hy]
 ·rw[getElem!_pos _ t (by rw[Array.size_setIfInBounds];omega),Array.getElem_setIfInBounds (by omega),if_neg (fun e=>h e.symm),←getElem!_pos dk t (by omega),hd t ht]
  by_cases h2:t<i
  ·rw[if_pos h2,if_pos (by omega)]
  ·rw[if_neg h2,if_neg (by omega)]
open Go.RowKit Go.Lib Go.Sort in
theorem mk8_keep {s:ByteArray} {dk:Array UInt8} {i:Nat} (hi:i<s.size) (hs:dk.size=s.data.size) (hd:∀ t,t<s.size→dk[t]! = if t<i then mk8 s.data[t]! else s.data[t]!) (hy:s.data[i]! = mk8 s.data[i]!) :
 ∀ t,t<s.size→dk[t]! = if t<i+1 then mk8 s.data[t]! else s.data[t]!:=by
 intro t ht
 rw[hd t ht]
 by_cases h:t=i
 ·subst h;rw[if_neg (Nat.lt_irrefl _),if_pos (by omega),←hy]
 ·by_cases h2:t<i
  ·rw[if_pos h2,if_pos (by omega)]
  ·rw[if_neg h2,if_neg (by omega)]
theorem mk8_a {x:UInt8} (h:((x.toNat:Int)==91)=true):60=mk8 x:=by
 have:x=91:=by apply UInt8.toNat_inj.1;have:=beq_iff_eq.1 h;exact Int.ofNat.inj this
 subst this;rfl
theorem mk8_b {x:UInt8} (h:((x.toNat:Int)==91)=false) (h2:((x.toNat:Int)==93)=true):62=mk8 x:=by
 have:x=93:=by apply UInt8.toNat_inj.1;have:=beq_iff_eq.1 h2;exact Int.ofNat.inj this
 subst this;rfl
theorem mk8_c {x:UInt8} (h:((x.toNat:Int)==91)=false) (h2:((x.toNat:Int)==93)=false):x=mk8 x:=by
 unfold mk8
 rw[if_neg (by rintro rfl;cases h),if_neg (by rintro rfl;cases h2)]
open Go.RowKit Go.Lib Go.Sort in
theorem markup_walk (s:ByteArray) (hs1:s.size≤1000000000000) (w:World):Calls Tryz.prog 156 #[.string s] w fun e w'=>e=.returned (.string (markup s))∧∃ dk,dk.size=s.data.size∧w'=putRow enc8 (bytesWorld w 5 s) w.heap.size 0 dk:=by
 have hcv:=fun(w:World)=>Lib.run_convert_string_bytes w 9 22 5 s Tryz.underlying9 Tryz.underlying22 Tryz.underlying5
 have hH:=holds_bytes w 5 s
 have hsz:s.data.size=s.size:=rfl
 go_enter Tryz.func156,Tryz.ntmps156
 go_wp2
 generalize hW1:bytesWorld w 5 s=W1 at *
 go_loopw [4] (fun vi wr=>∃ (i:Nat) (dk:Array UInt8),vi=.int .i64 i∧i≤s.size∧dk.size=s.data.size∧wr=putRow enc8 W1 w.heap.size 0 dk∧(∀ t,t<s.size→dk[t]! = if t<i then mk8 s.data[t]! else s.data[t]!)) (fun vi _=>s.size+1-(RowKit.intOf vi).toNat)
 case atStart=>exact⟨0,s.data,rfl,by omega,rfl,(putRow_self _ _ _ _ _ hH).symm,fun t ht=>by rw[if_neg (by omega)]⟩
 case round=>
  obtain⟨i,dk,rfl,hi,hsk,hw,hd⟩:=hrel
  by_cases h1:i<s.size
  ·have hcd:=cell?_putRow enc8 W1 w.heap.size 0 s.data dk hH hsk i (by omega)
   have hfz:wr.frozen? ⟨w.heap.size,0+i,none⟩=false:=by rw[hw,frozen?_putRow];exact(hH i (by omega)).2
   rw[←hw,Nat.zero_add] at hcd
   rw[Nat.zero_add] at hfz
   have hxi:=hd i h1
   rw[if_neg (Nat.lt_irrefl _)] at hxi
   rw[hxi] at hcd
   generalize hx:s.data[i]! = x at *
   dsimp only[enc8] at hcd
   have hst:=fun y=>putRow_set enc8 W1 w.heap.size 0 dk i y (by omega)
   rw[Nat.zero_add] at hst
   have hW:Hid (wr=putRow enc8 W1 w.heap.size 0 dk):=hw
   have hD:Hid (∀ t,t<s.size→dk[t]! = if t<i then mk8 s.data[t]! else s.data[t]!):=hd
   have hS:Hid (∀ y,(putRow enc8 W1 w.heap.size 0 dk).setCell ⟨w.heap.size,i,none⟩ (enc8 y)=putRow enc8 W1 w.heap.size 0 (dk.setIfInBounds i y)):=hst
   clear hw hd hst hH hxi
   go_wp2
   case roundEnd=>
    exact⟨⟨i+1,dk.setIfInBounds i 60,rfl,h1,(mk8_step h1 hsk hD.out (by rw[hx];exact mk8_a (by assumption))).1,by rw[hW.out];exact hS.out 60,(mk8_step h1 hsk hD.out (by rw[hx];exact mk8_a (by assumption))).2⟩,by simp only[RowKit.intOf];omega⟩
   case roundEnd=>
    exact⟨⟨i+1,dk.setIfInBounds i 62,rfl,h1,(mk8_step h1 hsk hD.out (by rw[hx];exact mk8_b (by assumption) (by assumption))).1,by rw[hW.out];exact hS.out 62,(mk8_step h1 hsk hD.out (by rw[hx];exact mk8_b (by assumption) (by assumption))).2⟩,by simp only[RowKit.intOf];omega⟩
   case roundEnd=>
    exact⟨⟨i+1,dk,rfl,h1,hsk,hW.out,mk8_keep h1 hsk hD.out (by rw[hx];exact mk8_c (by assumption) (by assumption))⟩,by simp only[RowKit.intOf];omega⟩
  ·have hie:i=s.size:=by omega
   subst hie
   have hback:=run_convert_bytes_back (P:=Tryz.prog) wr 22 9 5 ⟨w.heap.size,0,none⟩ (grownCap w s.size 0 5) dk.toList Tryz.underlying22 Tryz.underlying5 Tryz.underlying9 (fun j hj=>by
    have hj2:j<dk.size:=by simpa using hj
    have:=cell?_putRow enc8 W1 w.heap.size 0 s.data dk hH hsk j hj2
    rw[←hw] at this
    rw[Addr.add_lit,this]
    simp[getElem!_pos dk j hj2])
   have hl:dk.toList.length=s.size:=by simpa using hsk
   rw[hl,hw] at hback
   have hfin:markup s=⟨dk.toList.toArray⟩:=by
    unfold markup ofL
    congr 2
    apply List.ext_getElem (by simp[toL_len,hl])
    intro k h2 h3
    have hk:k<s.size:=by omega
    have:=hd k hk
    rw[if_pos hk,getElem!_pos dk k (by omega),getElem!_pos s.data k hk] at this
    simp[toL,this]
   have hfin:Hid _:=hfin
   have hw:Hid _:=hw
   go_wp2
   go_ret
   exact⟨by rw[hfin.out];simp,dk,hsk,by rw[hW1];first|done|exact hw.out⟩
open Go.RowKit Go.Lib Go.Sort in
theorem bytes_grow (w:World) (e:TypeId) (s:ByteArray) (f:Array Value→Array Value):mapBlock (bytesWorld w e s) w.heap.size f=grow (w.drewN 1) #[onCells f (.cells (bytesCells w e s) e ((bytesCells w e s).size,(bytesCells w e s).size+1))]:=by
 have hn:=bytesWorld_at_new w e s
 have hz:=bytesWorld_size w e s
 have ho:=bytesWorld_at_old w e s
 have hh:(bytesWorld w e s).heap.modify w.heap.size (onCells f)=w.heap ++ #[onCells f (.cells (bytesCells w e s) e ((bytesCells w e s).size,(bytesCells w e s).size+1))]:=by
  apply Array.ext_getElem?
  intro i
  rw[Array.getElem?_modify]
  by_cases hi:w.heap.size=i
  ·subst hi
   rw[if_pos rfl,hn];simp
  ·rw[if_neg hi]
   by_cases h2:i<w.heap.size
   ·rw[ho i h2,Array.getElem?_append_left h2]
   ·rw[Array.getElem?_eq_none (by omega),Array.getElem?_eq_none (by simp;omega)]
 unfold mapBlock grow
 rw[hh]
 rfl
open Go.RowKit Go.Lib Go.Sort in
theorem markup_ok:fMarkup.ok Tryz.prog 156 :=
 lib_ok rfl rfl fun x hx w ow hB=>(markup_walk x.1 hx w).mono fun e w' ⟨a,dk,hs,b⟩=>⟨a,1,_,b.trans (bytes_grow w 5 x.1 _)⟩
theorem k156_110:fMarkup.ok Tryz.prog 156 :=
 markup_ok
def E111:D.Env:=E110.add 156 fMarkup
theorem E111ok:EOk Tryz.prog E111:=E110ok.add k156_110
def runLine (b:SBuilder) (l:List SSheet) (x:SLine):SBuilder×ByteArray×ByteArray :=
 if x.op=1 then(b,markup x.text,⟨#[]⟩)
 else if x.op=2 then((if 1≤b.nodes.length∧b.nodes.length≤39∧isName x.text=true then⟨b.nodes++[⟨x.text,⟨#[]⟩,0,[]⟩],b.open_⟩ else b),⟨#[]⟩,⟨#[]⟩)
 else if x.op=3 then(b,⟨#[]⟩,⟨#[99,111,117,110,116,32]⟩++x.text++⟨#[32]⟩++fmtI (countName x.text b.nodes))
 else if x.op=4 then(b,⟨#[]⟩,⟨#[108,111,111,107,32]⟩++x.text++⟨#[32]⟩++fmtI (colorOf l x.text))
 else if x.op=5 then(b,⟨#[]⟩,⟨#[115,97,121,32]⟩++x.text)
 else(b,⟨#[]⟩,⟨#[]⟩)
def okSheets (l:List SSheet):Prop:=∀ s,s∈l→∀ r,r∈s.rules→-9223372036854775808≤r.color∧r.color≤9223372036854775807
theorem colR_in {n:ByteArray} {rs:List SRule} {z:Int} (hz : -9223372036854775808≤z∧z≤9223372036854775807) (h:∀ r,r∈rs→-9223372036854775808≤r.color∧r.color≤9223372036854775807):∀ m,m≤rs.length→-9223372036854775808≤colR n rs z m∧colR n rs z m≤9223372036854775807
 | 0,_=>hz
 | m+1,hm=>by
  rw[colR]
  split
  ·exact h _ (getD_in (by omega))
  ·exact colR_in hz h m (by omega)
theorem colS_in {n:ByteArray} {l:List SSheet} (h:okSheets l):∀ m,m≤l.length→-9223372036854775808≤colS n l m∧colS n l m≤9223372036854775807
 | 0,_=>by rw[colS];decide
 | m+1,hm=>by
  rw[colS]
  exact colR_in (colS_in h m (by omega)) (h _ (getD_in (by omega))) _ (Nat.le_refl _)
theorem colorOf_in {l:List SSheet} (h:okSheets l) (n:ByteArray) : -9223372036854775808≤colorOf l n∧colorOf l n≤9223372036854775807:=colS_in h _ (Nat.le_refl _)
theorem countName_in (n:ByteArray) (l:List SNode):0≤countName n l∧countName n l≤l.length:=by unfold countName;have:=countIf_le (fun x:SNode=>decide (x.name=n)) l;omega
def fRunLine:Fct:=⟨[.v (.el .builder),.v (.sl .sheet),.v (.el .line)],[.el .builder,.el .str,.el .str],fun(x_:SBuilder×(List SSheet)×SLine×Unit)=>szBuilder x_.1≤100000000000∧szL szSheet x_.2.1≤100000000000∧x_.2.2.1.text.size≤1000000000∧okSheets x_.2.1,fun(x_:SBuilder×(List SSheet)×SLine×Unit)=>((runLine x_.1 x_.2.1 x_.2.2.1).1,(runLine x_.1 x_.2.1 x_.2.2.1).2.1,(runLine x_.1 x_.2.1 x_.2.2.1).2.2,())⟩
theorem k142_111:fRunLine.ok Tryz.prog 142:=Fct.o [1,3,5,6,7,8,9,13,14,20,30,40,53,66,1000014,1000020,1000030,1000040,1000053,1000066] E111ok Tryz.func142 (by
 rintro⟨(b:SBuilder),(l:List SSheet),(x:SLine),_⟩ hp
 refine ho (.cl fCopyBuilder (b,()) fun z2=>.br (x.op==1) (.cl fMarkup (x.text,()) fun z3=>.lf fRunLine (z2.1,z3.1,(⟨#[]⟩:ByteArray),())) (.br (x.op==2) (.cl fInRange ((↑b.nodes.length:Int),(1:Int),(39:Int),()) fun z4=>.br (z4.1) (.cl fIsName (x.text,()) fun z5=>.br (z5.1) (.ob (Room (z2.1.nodes.length+[(⟨x.text,(⟨#[]⟩:ByteArray),(0:Int),[]⟩:SNode)].length) 64)<|.lf fRunLine (⟨z2.1.nodes++[(⟨x.text,(⟨#[]⟩:ByteArray),(0:Int),[]⟩:SNode)],z2.1.open_⟩,(⟨#[]⟩:ByteArray),(⟨#[]⟩:ByteArray),())) (.lf fRunLine (z2.1,(⟨#[]⟩:ByteArray),(⟨#[]⟩:ByteArray),()))) (.lf fRunLine (z2.1,(⟨#[]⟩:ByteArray),(⟨#[]⟩:ByteArray),()))) (.br (x.op==3) (.lp (Bool) (True) (fun x=>True) fun y10=>.br (y10) (.lp (Bool) (True) (fun x=>True) fun y12=>.br (y12) (.lp (Bool) (True) (fun x=>True) fun y14=>.br (y14) (.lp (Bool) (True) (fun x=>True) fun y16=>.br (y16) (.lp (Bool) (True) (fun x=>True) fun y18=>.br (y18) (.ob (sameSize (⟨#[99,111,117,110,116,32]⟩:ByteArray) x.text)<|.ob (sameSize ((⟨#[99,111,117,110,116,32]⟩:ByteArray)++x.text) (⟨#[32]⟩:ByteArray))<|.cl fCountName (b,x.text,()) fun(z6:Int×PUnit)=>.cl fFormatInt (z6.1,()) fun z7=>.ob (sameSize ((⟨#[99,111,117,110,116,32]⟩:ByteArray)++x.text++(⟨#[32]⟩:ByteArray)) z7.1)<|.lf fRunLine (z2.1,(⟨#[]⟩:ByteArray),(⟨#[99,111,117,110,116,32]⟩:ByteArray)++x.text++(⟨#[32]⟩:ByteArray)++z7.1,())) (.ob (sameSize (⟨#[99,111,117,110,116,32]⟩:ByteArray) x.text)<|.ob (sameSize ((⟨#[99,111,117,110,116,32]⟩:ByteArray)++x.text) (⟨#[32]⟩:ByteArray))<|.cl fCountName (b,x.text,()) fun(z8:Int×PUnit)=>.cl fFormatInt (z8.1,()) fun z9=>.ob (sameSize ((⟨#[99,111,117,110,116,32]⟩:ByteArray)++x.text++(⟨#[32]⟩:ByteArray)) z9.1)<|.lf fRunLine (z2.1,(⟨#[]⟩:ByteArray),(⟨#[99,111,117,110,116,32]⟩:ByteArray)++x.text++(⟨#[32]⟩:ByteArray)++z9.1,()))) (.ob (sameSize (⟨#[99,111,117,110,116,32]⟩:ByteArray) x.text)<|.cl fCountName (b,x.text,()) fun(z10:Int×PUnit)=>.cl fFormatInt (z10.1,()) fun z11=>.ob (sameSize ((⟨#[99,111,117,110,116,32]⟩:ByteArray)++x.text) (⟨#[32]⟩:ByteArray))<|.ob (sameSize ((⟨#[99,111,117,110,116,32]⟩:ByteArray)++x.text++(⟨#[32]⟩:ByteArray)) z11.1)<|.lf fRunLine (z2.1,(⟨#[]⟩:ByteArray),(⟨#[99,111,117,110,116,32]⟩:ByteArray)++x.text++(⟨#[32]⟩:ByteArray)++z11.1,()))) (.cl fCountName (b,x.text,()) fun(z12:Int×PUnit)=>.cl fFormatInt (z12.1,()) fun z13=>.ob (sameSize (⟨#[99,111,117,110,116,32]⟩:ByteArray) x.text)<|.ob (sameSize ((⟨#[99,111,117,110,116,32]⟩:ByteArray)++x.text) (⟨#[32]⟩:ByteArray))<|.ob (sameSize ((⟨#[99,111,117,110,116,32]⟩:ByteArray)++x.text++(⟨#[32]⟩:ByteArray)) z13.1)<|.lf fRunLine (z2.1,(⟨#[]⟩:ByteArray),(⟨#[99,111,117,110,116,32]⟩:ByteArray)++x.text++(⟨#[32]⟩:ByteArray)++z13.1,()))) (.cl fCountName (b,x.text,()) fun(z14:Int×PUnit)=>.cl fFormatInt (z14.1,()) fun z15=>.ob (sameSize (⟨#[99,111,117,110,116,32]⟩:ByteArray) x.text)<|.ob (sameSize ((⟨#[99,111,117,110,116,32]⟩:ByteArray)++x.text) (⟨#[32]⟩:ByteArray))<|.ob (sameSize ((⟨#[99,111,117,110,116,32]⟩:ByteArray)++x.text++(⟨#[32]⟩:ByteArray)) z15.1)<|.lf fRunLine (z2.1,(⟨#[]⟩:ByteArray),(⟨#[99,111,117,110,116,32]⟩:ByteArray)++x.text++(⟨#[32]⟩:ByteArray)++z15.1,()))) (.cl fCountName (b,x.text,()) fun(z16:Int×PUnit)=>.cl fFormatInt (z16.1,()) fun z17=>.ob (sameSize (⟨#[99,111,117,110,116,32]⟩:ByteArray) x.text)<|.ob (sameSize ((⟨#[99,111,117,110,116,32]⟩:ByteArray)++x.text) (⟨#[32]⟩:ByteArray))<|.ob (sameSize ((⟨#[99,111,117,110,116,32]⟩:ByteArray)++x.text++(⟨#[32]⟩:ByteArray)) z17.1)<|.lf fRunLine (z2.1,(⟨#[]⟩:ByteArray),(⟨#[99,111,117,110,116,32]⟩:ByteArray)++x.text++(⟨#[32]⟩:ByteArray)++z17.1,()))) (.br (x.op==4) (.lp (Bool) (True) (fun x=>True) fun y51=>.br (y51) (.lp (Bool) (True) (fun x=>True) fun y53=>.br (y53) (.lp (Bool) (True) (fun x=>True) fun y55=>.br (y55) (.lp (Bool) (True) (fun x=>True) fun y57=>.br (y57) (.lp (Bool) (True) (fun x=>True) fun y59=>.br (y59) (.ob (sameSize (⟨#[108,111,111,107,32]⟩:ByteArray) x.text)<|.ob (sameSize ((⟨#[108,111,111,107,32]⟩:ByteArray)++x.text) (⟨#[32]⟩:ByteArray))<|.cl fColorOf (l,x.text,()) fun(z18:Int×PUnit)=>.cl fFormatInt (z18.1,()) fun z19=>.ob (sameSize ((⟨#[108,111,111,107,32]⟩:ByteArray)++x.text++(⟨#[32]⟩:ByteArray)) z19.1)<|.lf fRunLine (z2.1,(⟨#[]⟩:ByteArray),(⟨#[108,111,111,107,32]⟩:ByteArray)++x.text++(⟨#[32]⟩:ByteArray)++z19.1,())) (.ob (sameSize (⟨#[108,111,111,107,32]⟩:ByteArray) x.text)<|.ob (sameSize ((⟨#[108,111,111,107,32]⟩:ByteArray)++x.text) (⟨#[32]⟩:ByteArray))<|.cl fColorOf (l,x.text,()) fun(z20:Int×PUnit)=>.cl fFormatInt (z20.1,()) fun z21=>.ob (sameSize ((⟨#[108,111,111,107,32]⟩:ByteArray)++x.text++(⟨#[32]⟩:ByteArray)) z21.1)<|.lf fRunLine (z2.1,(⟨#[]⟩:ByteArray),(⟨#[108,111,111,107,32]⟩:ByteArray)++x.text++(⟨#[32]⟩:ByteArray)++z21.1,()))) (.ob (sameSize (⟨#[108,111,111,107,32]⟩:ByteArray) x.text)<|.cl fColorOf (l,x.text,()) fun(z22:Int×PUnit)=>.cl fFormatInt (z22.1,()) fun z23=>.ob (sameSize ((⟨#[108,111,111,107,32]⟩:ByteArray)++x.text) (⟨#[32]⟩:ByteArray))<|.ob (sameSize ((⟨#[108,111,111,107,32]⟩:ByteArray)++x.text++(⟨#[32]⟩:ByteArray)) z23.1)<|.lf fRunLine (z2.1,(⟨#[]⟩:ByteArray),(⟨#[108,111,111,107,32]⟩:ByteArray)++x.text++(⟨#[32]⟩:ByteArray)++z23.1,()))) (.cl fColorOf (l,x.text,()) fun(z24:Int×PUnit)=>.cl fFormatInt (z24.1,()) fun z25=>.ob (sameSize (⟨#[108,111,111,107,32]⟩:ByteArray) x.text)<|.ob (sameSize ((⟨#[108,111,111,107,32]⟩:ByteArray)++x.text) (⟨#[32]⟩:ByteArray))<|.ob (sameSize ((⟨#[108,111,111,107,32]⟩:ByteArray)++x.text++(⟨#[32]⟩:ByteArray)) z25.1)<|.lf fRunLine (z2.1,(⟨#[]⟩:ByteArray),(⟨#[108,111,111,107,32]⟩:ByteArray)++x.text++(⟨#[32]⟩:ByteArray)++z25.1,()))) (.cl fColorOf (l,x.text,()) fun(z26:Int×PUnit)=>.cl fFormatInt (z26.1,()) fun z27=>.ob (sameSize (⟨#[108,111,111,107,32]⟩:ByteArray) x.text)<|.ob (sameSize ((⟨#[108,111,111,107,32]⟩:ByteArray)++x.text) (⟨#[32]⟩:ByteArray))<|.ob (sameSize ((⟨#[108,111,111,107,32]⟩:ByteArray)++x.text++(⟨#[32]⟩:ByteArray)) z27.1)<|.lf fRunLine (z2.1,(⟨#[]⟩:ByteArray),(⟨#[108,111,111,107,32]⟩:ByteArray)++x.text++(⟨#[32]⟩:ByteArray)++z27.1,()))) (.cl fColorOf (l,x.text,()) fun(z28:Int×PUnit)=>.cl fFormatInt (z28.1,()) fun z29=>.ob (sameSize (⟨#[108,111,111,107,32]⟩:ByteArray) x.text)<|.ob (sameSize ((⟨#[108,111,111,107,32]⟩:ByteArray)++x.text) (⟨#[32]⟩:ByteArray))<|.ob (sameSize ((⟨#[108,111,111,107,32]⟩:ByteArray)++x.text++(⟨#[32]⟩:ByteArray)) z29.1)<|.lf fRunLine (z2.1,(⟨#[]⟩:ByteArray),(⟨#[108,111,111,107,32]⟩:ByteArray)++x.text++(⟨#[32]⟩:ByteArray)++z29.1,()))) (.br (x.op==5) (.lp (Bool) (True) (fun x=>True) fun y92=>.br (y92) (.lp (Bool) (True) (fun x=>True) fun y94=>.br (y94) (.lp (Bool) (True) (fun x=>True) fun y96=>.br (y96) (.ob (sameSize (⟨#[115,97,121,32]⟩:ByteArray) x.text)<|.lf fRunLine (z2.1,(⟨#[]⟩:ByteArray),(⟨#[115,97,121,32]⟩:ByteArray)++x.text,())) (.ob (sameSize (⟨#[115,97,121,32]⟩:ByteArray) x.text)<|.lf fRunLine (z2.1,(⟨#[]⟩:ByteArray),(⟨#[115,97,121,32]⟩:ByteArray)++x.text,()))) (.ob (sameSize (⟨#[115,97,121,32]⟩:ByteArray) x.text)<|.lf fRunLine (z2.1,(⟨#[]⟩:ByteArray),(⟨#[115,97,121,32]⟩:ByteArray)++x.text,()))) (.ob (sameSize (⟨#[115,97,121,32]⟩:ByteArray) x.text)<|.lf fRunLine (z2.1,(⟨#[]⟩:ByteArray),(⟨#[115,97,121,32]⟩:ByteArray)++x.text,()))) (.lf fRunLine (z2.1,(⟨#[]⟩:ByteArray),(⟨#[]⟩:ByteArray),()))))))) ?_
 refine cl_i ?_ fun o1=>(br_i (fun h2=>cl_i ?_ fun o3=>(lfY ?_)) (fun h2=>br_i (fun h4=>cl_i trivial fun _=>(br_i (fun h5=>cl_i ?_ fun o6=>(br_i (fun h7=>ob_i ?_ fun o8=>lfY ?_) (fun h7=>lfY ?_))) (fun h5=>lfY ?_))) (fun h4=>br_i (fun h9=>lp_i trivial fun y10 i10=>br_i (fun h11=>lp_i trivial fun y12 i12=>br_i (fun h13=>lp_i trivial fun y14 i14=>br_i (fun h15=>lp_i trivial fun y16 i16=>br_i (fun h17=>lp_i trivial fun y18 i18=>br_i (fun h19=>ob_i ?_ fun o20=>ob_i ?_ fun o21=>cl_i ?_ fun o22=>(cl_i ?_ fun o23=>(ob_i ?_ fun o24=>lfY ?_))) (fun h19=>ob_i ?_ fun o25=>ob_i ?_ fun o26=>cl_i ?_ fun o27=>(cl_i ?_ fun o28=>(ob_i ?_ fun o29=>lfY ?_)))) (fun h17=>ob_i ?_ fun o30=>cl_i ?_ fun o31=>(cl_i ?_ fun o32=>(ob_i ?_ fun o33=>ob_i ?_ fun o34=>lfY ?_)))) (fun h15=>cl_i ?_ fun o35=>(cl_i ?_ fun o36=>(ob_i ?_ fun o37=>ob_i ?_ fun o38=>ob_i ?_ fun o39=>lfY ?_)))) (fun h13=>cl_i ?_ fun o40=>(cl_i ?_ fun o41=>(ob_i ?_ fun o42=>ob_i ?_ fun o43=>ob_i ?_ fun o44=>lfY ?_)))) (fun h11=>cl_i ?_ fun o45=>(cl_i ?_ fun o46=>(ob_i ?_ fun o47=>ob_i ?_ fun o48=>ob_i ?_ fun o49=>lfY ?_)))) (fun h9=>br_i (fun h50=>lp_i trivial fun y51 i51=>br_i (fun h52=>lp_i trivial fun y53 i53=>br_i (fun h54=>lp_i trivial fun y55 i55=>br_i (fun h56=>lp_i trivial fun y57 i57=>br_i (fun h58=>lp_i trivial fun y59 i59=>br_i (fun h60=>ob_i ?_ fun o61=>ob_i ?_ fun o62=>cl_i ?_ fun o63=>(cl_i ?_ fun o64=>(ob_i ?_ fun o65=>lfY ?_))) (fun h60=>ob_i ?_ fun o66=>ob_i ?_ fun o67=>cl_i ?_ fun o68=>(cl_i ?_ fun o69=>(ob_i ?_ fun o70=>lfY ?_)))) (fun h58=>ob_i ?_ fun o71=>cl_i ?_ fun o72=>(cl_i ?_ fun o73=>(ob_i ?_ fun o74=>ob_i ?_ fun o75=>lfY ?_)))) (fun h56=>cl_i ?_ fun o76=>(cl_i ?_ fun o77=>(ob_i ?_ fun o78=>ob_i ?_ fun o79=>ob_i ?_ fun o80=>lfY ?_)))) (fun h54=>cl_i ?_ fun o81=>(cl_i ?_ fun o82=>(ob_i ?_ fun o83=>ob_i ?_ fun o84=>ob_i ?_ fun o85=>lfY ?_)))) (fun h52=>cl_i ?_ fun o86=>(cl_i ?_ fun o87=>(ob_i ?_ fun o88=>ob_i ?_ fun o89=>ob_i ?_ fun o90=>lfY ?_)))) (fun h50=>br_i (fun h91=>lp_i trivial fun y92 i92=>br_i (fun h93=>lp_i trivial fun y94 i94=>br_i (fun h95=>lp_i trivial fun y96 i96=>br_i (fun h97=>ob_i ?_ fun o98=>lfY ?_) (fun h97=>ob_i ?_ fun o99=>lfY ?_)) (fun h95=>ob_i ?_ fun o100=>lfY ?_)) (fun h93=>ob_i ?_ fun o101=>lfY ?_)) (fun h91=>lfY ?_))))))
 all_goals
  have hl:=szL_len szNode b.nodes
  have hb:szL szNode b.nodes≤szBuilder b:=by simp only[szBuilder];omega
  have hc:=countName_in x.text b.nodes
  have hx:=colorOf_in hp.2.2.2 x.text
  have hf:=fun(n:Int) (h0 : -9223372036854775808≤n) (h1:n≤9223372036854775807)=>fmtI_size h0 h1
  try simp only[std0] at *
  try simp only[fColorOf,fCopyBuilder,fCountName,fFormatInt,fInRange,fIsName,fMarkup,fRunLine,std,Nat.reduceAdd,szF,toF,eqF,mkF,heF,runLine,fCopyBuilder,fMarkup,fIsName,fInRange,inRange,fCountName,fColorOf,fFormatInt,sameSize,ByteArray.size_append] at *
  try simp(disch:=omega) only[wrapId',toNat1] at *
  try simp(disch:=omega) only[if_pos,if_neg]
 all_goals first|trivial|omega|grind[wrapId',toNat1,drop_cons,drop_end,good_len,maxLen,runLine,fCopyBuilder,fMarkup,fIsName,fInRange,inRange,fCountName,fColorOf,fFormatInt,sameSize,ByteArray.size_append])
def E112:=E111.add 142 fRunLine
theorem E112ok:EOk Tryz.prog E112:=E111ok.add k142_111
def runLines (l:List SSheet):List SLine→SBuilder→ByteArray→List ByteArray→SBuilder×ByteArray×List ByteArray
 | [],b,w,g=>(b,w,g)
 | x::r,b,w,g=>runLines l r (runLine b l x).1 (w++(runLine b l x).2.1) (if(runLine b l x).2.2=⟨#[]⟩ then g else g++[(runLine b l x).2.2])
theorem runLines_at {l:List SSheet} {r:List SLine} {i:Nat} {b:SBuilder} {w:ByteArray} {g:List ByteArray} (h:i<r.length):runLines l (r.drop i) b w g=runLines l (r.drop (i+1)) (runLine b l (r.getD i default)).1 (w++(runLine b l (r.getD i default)).2.1) (if(runLine b l (r.getD i default)).2.2=⟨#[]⟩ then g else g++[(runLine b l (r.getD i default)).2.2]):=by rw[drop_cons h];rfl
theorem runLines_end {l:List SSheet} {r:List SLine} {i:Nat} {b:SBuilder} {w:ByteArray} {g:List ByteArray} (h:r.length≤i):runLines l (r.drop i) b w g=(b,w,g):=by rw[List.drop_of_length_le h];rfl
theorem runLine_sz (b:SBuilder) (l:List SSheet) (x:SLine):szBuilder (runLine b l x).1≤szBuilder b+x.text.size+1∧(runLine b l x).2.1.size≤x.text.size:=by
 have h0:ByteArray.size ⟨#[]⟩=0:=rfl
 have h1:(markup x.text).size=x.text.size:=by unfold markup;rw[ofL_size,List.length_map,toL_len]
 have h3:szL szAttr []=0:=rfl
 unfold runLine
 repeat' split
 all_goals simp only[h0,h1,szBuilder,szL_snoc,szNode,h3]
 all_goals omega
def runScript (b:SBuilder) (l:List SSheet) (r:List SLine):SBuilder×ByteArray×List ByteArray:=runLines l r b ⟨#[]⟩ []
def fRunScript:Fct:=⟨[.v (.el .builder),.v (.sl .sheet),.v (.sl .line)],[.el .builder,.el .str,.sl .str],fun(x_:SBuilder×(List SSheet)×(List SLine)×Unit)=>szBuilder x_.1≤50000000000∧szL szSheet x_.2.1≤100000000000∧szL szLine x_.2.2.1≤1000000000∧okSheets x_.2.1,fun(x_:SBuilder×(List SSheet)×(List SLine)×Unit)=>((runScript x_.1 x_.2.1 x_.2.2.1).1,(runScript x_.1 x_.2.1 x_.2.2.1).2.1,(runScript x_.1 x_.2.1 x_.2.2.1).2.2,())⟩
abbrev W_spec_RunScript_fRunScript_5 (b:SBuilder) (l:(List SSheet)) (r:(List SLine)):LInv:=⟨[⟨.b,9,true,.el .builder⟩,⟨.s,10,true,.el .str⟩,⟨.s,11,true,.sl .str⟩,⟨.s,12,true,.el .int⟩,⟨.b,6,true,.el .builder⟩],fun(z_:SBuilder×ByteArray×(List ByteArray)×Int×SBuilder×Unit) (x_:SBuilder×ByteArray×(List ByteArray)×Int×SBuilder×Unit)=>(0≤x_.2.2.2.1∧x_.2.2.2.1≤r.length∧szBuilder x_.1+szL szLine (r.drop x_.2.2.2.1.toNat)≤szBuilder b+szL szLine r∧x_.2.1.size+szL szLine (r.drop x_.2.2.2.1.toNat)≤szL szLine r∧x_.2.2.1.length≤x_.2.2.2.1∧runLines l (r.drop x_.2.2.2.1.toNat) x_.1 x_.2.1 x_.2.2.1=runScript b l r)∧x_.2.2.2.2.1=z_.2.2.2.2.1,fun(x_:SBuilder×ByteArray×(List ByteArray)×Int×SBuilder×Unit)=>r.length-x_.2.2.2.1.toNat⟩
theorem k121_112:fRunScript.ok Tryz.prog 121:=Fct.of (S:=fRunScript) (L:=fun⟨b,l,r,_⟩=>fun|5=>some (W_spec_RunScript_fRunScript_5 b l r)|_=>none) (kp:=[1,2,3,6,7,8,9,10,11,12,13,14,15,22,41,1000022,1000041]) E112ok Tryz.func121 (by kernel_rfl) (by kernel_rfl) (by
 rintro⟨(b:SBuilder),(l:List SSheet),(r:List SLine),_⟩ hp
 refine ho (.cl fCopyBuilder (b,()) fun z2=>lpx (W_spec_RunScript_fRunScript_5 b l r) (z2.1,((⟨#[]⟩:ByteArray),([],((0:Int),(default,()))))) fun(y2:SBuilder×ByteArray×List ByteArray×Int×SBuilder×PUnit) bk2=>.br (decide (y2.2.2.2.1<(↑r.length:Int))) (.ob (inB y2.2.2.2.1 r.length)<|.cl fRunLine (y2.1,l,r.getD y2.2.2.2.1.toNat default,()) fun z3=>.ob (sameSize y2.2.1 z3.2.1)<|.br (!z3.2.2.1.toList==(⟨#[]⟩:ByteArray).toList) (.ob (True)<|.ob (Room (y2.2.2.1.length+[z3.2.2.1].length) 16)<|.ob (l=l)<|.ob (r=r)<|.ob (Value.string (⟨#[]⟩:ByteArray)=Value.string (⟨#[]⟩:ByteArray))<|.ob (bk2 (z3.1,(y2.2.1++z3.2.1,(y2.2.2.1++[z3.2.2.1],(w1 y2.2.2.2.1,(y2.2.2.2.2.1,()))))))<|.ok) (.ob (l=l)<|.ob (r=r)<|.ob (Value.string (⟨#[]⟩:ByteArray)=Value.string (⟨#[]⟩:ByteArray))<|.ob (bk2 (z3.1,(y2.2.1++z3.2.1,(y2.2.2.1,(w1 y2.2.2.2.1,(y2.2.2.2.2.1,()))))))<|.ok)) (.lf fRunScript (y2.1,y2.2.1,y2.2.2.1,()))) ?_
 refine cl_i ?_ fun o1=>(lpx_i ?_ fun(y2:SBuilder×ByteArray×List ByteArray×Int×SBuilder×PUnit) i2=>br_i (fun h3=>ob_i ?_ fun o4=>cl_i ?_ fun o5=>(ob_i ?_ fun o6=>br_i (fun h7=>ob_i trivial fun _=>ob_i ?_ fun o8=>ob_i rfl fun _=>ob_i rfl fun _=>ob_i rfl fun _=>ob_i ?_ fun o9=>trivial) (fun h7=>ob_i rfl fun _=>ob_i rfl fun _=>ob_i rfl fun _=>ob_i ?_ fun o10=>trivial))) (fun h3=>lfY ?_))
 all_goals
  have hr:=szL_len szLine r
  have hx:∀ i,i<r.length→szL szLine (r.drop i)=(r.getD i default).text.size+1+szL szLine (r.drop (i+1)):=fun i h=>szL_at szLine h
  have hs:=fun bb x=>runLine_sz bb l x
  have hrs:runLines l r b ⟨#[]⟩ []=runScript b l r:=rfl
  try simp only[std0] at *
  try simp only[W_spec_RunScript_fRunScript_5,fCopyBuilder,fRunLine,fRunScript,std,Nat.reduceAdd,szF,toF,eqF,mkF,heF,fCopyBuilder,fRunLine,runLines_at,runLines_end,sameSize,ByteArray.size_append] at *
  try simp(disch:=omega) only[wrapId',toNat1] at *
  try simp(disch:=omega) only[if_pos,if_neg]
 all_goals first|trivial|omega|grind[wrapId',toNat1,drop_cons,drop_end,good_len,maxLen,fCopyBuilder,fRunLine,runLines_at,runLines_end,sameSize,ByteArray.size_append])
def E113:=E112.add 121 fRunScript
theorem E113ok:EOk Tryz.prog E113:=E112ok.add k121_112
def decV:List UInt8→Int→Int
 | [],n=>n
 | x::l,n=>decV l (10*n+((x.toNat:Int)-48))
def digit (x:UInt8):Bool:=decide (48≤(x.toNat:Int)∧(x.toNat:Int)≤57)
def parseInt (s:ByteArray):Int×Bool:=if 1≤s.size∧s.size≤13∧(toL s).all digit=true∧decV (toL s) 0≤1000000000000∧fmtI (decV (toL s) 0)=s then(decV (toL s) 0,true) else(0,false)
def fParseInt:Fct:=⟨[.v (.el .str)],[.el .int,.el .bool],fun(x_:ByteArray×Unit)=>x_.1.size≤1000000000000,fun(x_:ByteArray×Unit)=>((parseInt x_.1).1,(parseInt x_.1).2,())⟩
theorem toL_take {s:ByteArray} {i:Nat} (h:i<s.size):(toL s).take (i+1)=(toL s).take i++[s.data.getD i 0]:=by
 have h2:i<s.data.size:=h
 have e:s.data.getD i 0=s.data[i]:=by unfold Array.getD;rw[dif_pos h2];rfl
 rw[List.take_succ_eq_append_getElem (by rw[toL_len];exact h),e]
 rfl
theorem decV_snoc:∀ (l:List UInt8) (x:UInt8) (n:Int),decV (l++[x]) n=10*decV l n+((x.toNat:Int)-48)
 | [],x,n=>rfl
 | y::l,x,n=>by rw[List.cons_append,decV,decV,decV_snoc l]
theorem pow13:∀ i:Nat,i≤13→(10:Int) ^ i≤10000000000000:=fun i h=>(by decide:∀ i:Fin 14,(10:Int) ^ i.val≤10000000000000) ⟨i,by omega⟩
theorem digits_no {s:ByteArray} {i:Nat} (h:i<s.size) (hd:digit (s.data.getD i 0)=false):(toL s).all digit=false:=by
 rw[List.all_eq_false]
 refine⟨s.data.getD i 0,?_,by rw[hd];decide⟩
 have:=List.mem_of_mem_take (l:=toL s) (i:=i+1) (a:=s.data.getD i 0) (by rw[toL_take h];simp)
 exact this
theorem parseInt_no {s:ByteArray} (h:¬ (1≤s.size∧s.size≤13∧(toL s).all digit=true∧decV (toL s) 0≤1000000000000∧fmtI (decV (toL s) 0)=s)):0=(parseInt s).1∧false=(parseInt s).2:=by
 unfold parseInt;rw[if_neg h];exact⟨rfl,rfl⟩
theorem parseInt_yes {s:ByteArray} (h:1≤s.size∧s.size≤13∧(toL s).all digit=true∧decV (toL s) 0≤1000000000000∧fmtI (decV (toL s) 0)=s):decV (toL s) 0=(parseInt s).1∧true=(parseInt s).2:=by
 unfold parseInt;rw[if_pos h];exact⟨rfl,rfl⟩
theorem u8_in (x:UInt8):IntKind.i64.wrap (x.toNat:Int)=x.toNat∧(x.toNat:Int)≤255:=by
 have:=x.toNat_lt
 exact⟨wrapId' (by omega) (by omega),by omega⟩
theorem digit_val {x:UInt8} (h:48≤(x.toNat:Int)):IntKind.i64.wrap (IntKind.u8.wrap ((x.toNat:Int)-48))=(x.toNat:Int)-48:=by
 have:=x.toNat_lt
 have e:IntKind.u8.wrap ((x.toNat:Int)-48)=(x.toNat:Int)-48:=by
  show((x.toNat:Int)-48) % 256=_
  omega
 rw[e];exact wrapId' (by omega) (by omega)
abbrev W_spec_ParseInt_fParseInt_5 (s:ByteArray):LInv:=⟨[⟨.s,4,true,.el .int⟩,⟨.s,5,true,.el .int⟩],fun _ (x_:Int×Int×Unit)=>0≤x_.2.1∧x_.2.1≤s.size∧0≤x_.1∧x_.1<10 ^ x_.2.1.toNat∧((toL s).take x_.2.1.toNat).all digit=true∧x_.1=decV ((toL s).take x_.2.1.toNat) 0,fun(x_:Int×Int×Unit)=>s.size-x_.2.1.toNat⟩
theorem k159_113:fParseInt.ok Tryz.prog 159:=Fct.of (S:=fParseInt) (L:=fun⟨s,_⟩=>fun|5=>some (W_spec_ParseInt_fParseInt_5 s)|_=>none) (kp:=[0,2,3,4,5,9,13,21,37,1000009,1000013,1000021,1000037]) E113ok Tryz.func159 (by kernel_rfl) (by kernel_rfl) (by
 rintro⟨(s:ByteArray),_⟩ hp
 refine ho (.cl fInRange ((↑s.size:Int),(1:Int),(13:Int),()) fun z2=>.br (!z2.1) (.lf fParseInt ((0:Int),false,())) (lpx (W_spec_ParseInt_fParseInt_5 s) ((0:Int),((0:Int),())) fun(y2:Int×Int×PUnit) bk2=>.br (decide (y2.2.1<(↑s.size:Int))) (.ob (0≤y2.2.1∧y2.2.1<(↑s.size:Int))<|.cl fInRange (wr (↑(s.data.getD y2.2.1.toNat 0).toNat:Int),(48:Int),(57:Int),()) fun z3=>.br (!z3.1) (.lf fParseInt ((0:Int),false,())) (.ob (0≤y2.2.1∧y2.2.1<(↑s.size:Int))<|.ob (Value.string s=Value.string s)<|.ob (bk2 (wr (wr ((10:Int)*y2.1)+wr (IntKind.u8.wrap ((↑(s.data.getD y2.2.1.toNat 0).toNat:Int)-(48:Int)))),(w1 y2.2.1,())))<|.ok)) (.br (decide (y2.1>1000000000000)) (.lf fParseInt ((0:Int),false,())) (.cl fFormatInt (y2.1,()) fun z4=>.br (!z4.1.toList==s.toList) (.lf fParseInt ((0:Int),false,())) (.lf fParseInt (y2.1,true,())))))) ?_
 refine cl_i trivial fun _=>(br_i (fun h1=>lfY ?_) (fun h1=>lpx_i ?_ fun(y2:Int×Int×PUnit) i2=>br_i (fun h3=>ob_i ?_ fun o4=>cl_i trivial fun _=>(br_i (fun h5=>lfY ?_) (fun h5=>ob_i ?_ fun o6=>ob_i rfl fun _=>ob_i ?_ fun o7=>trivial))) (fun h3=>br_i (fun h8=>lfY ?_) (fun h8=>cl_i ?_ fun o9=>(br_i (fun h10=>lfY ?_) (fun h10=>lfY ?_))))))
 all_goals
  try simp only[std0] at *
  try simp only[W_spec_ParseInt_fParseInt_5,fFormatInt,fInRange,fParseInt,std,Nat.reduceAdd,szF,toF,eqF,mkF,heF,fFormatInt,fInRange,inRange,u8_in] at *
  try simp only[Bool.and_eq_true,Bool.and_eq_false_iff,decide_eq_true_eq,decide_eq_false_iff_not] at *
 all_goals first|(refine parseInt_no ?_;omega)|exact⟨by omega,by omega,by omega,by decide,rfl,rfl⟩|(obtain⟨a1,a2,a3,a4,a5,a6⟩:=i2;have hq:=pow13 y2.2.1.toNat (by omega))
 all_goals first|omega|skip
 all_goals try rw[List.take_of_length_le (l:=toL s) (i:=y2.2.1.toNat) (by rw[toL_len];omega)] at a5 a6
 all_goals first|(rw[←a6];exact⟨by omega,by omega⟩)|(refine parseInt_no ?_;rintro⟨q1,q2,q3,q4,q5⟩;rw[←a6] at *;first|omega|contradiction)|(rw[a6];exact parseInt_yes ⟨by omega,by omega,a5,by omega,by rw[←a6];assumption⟩)|skip
 all_goals first|(refine parseInt_no ?_;rintro⟨q1,q2,q3,q4,q5⟩;rw[digits_no (i:=y2.2.1.toNat) (by omega) (by unfold digit;simp only[decide_eq_false_iff_not];omega)] at q3;cases q3)|skip
 all_goals rw[digit_val (by omega),wrapId (n:=10*y2.1) (by omega),wrapId (n:=y2.2.1+1) (by omega),wrapId (by omega),show(y2.2.1+1).toNat=y2.2.1.toNat+1 by omega,toL_take (by omega),List.all_append,decV_snoc,Int.pow_succ]
 all_goals refine⟨⟨by omega,by omega,by omega,by omega,?_,by rw[←a6]⟩,by omega⟩
 all_goals (rw[a5];simp only[List.all_cons,List.all_nil,digit,Bool.and_true,Bool.true_and,decide_eq_true_eq];omega))
def E114:=E113.add 159 fParseInt
theorem E114ok:EOk Tryz.prog E114:=E113ok.add k159_113
theorem cutF_no {b:UInt8}:∀ {l:List UInt8},cutF b l=none→b∉l
 | [],_,h=>by cases h
 | x::l,hc,h=>by
  rw[cutF] at hc
  split at hc
  ·cases hc
  ·rename_i hx
   rcases List.mem_cons.1 h with e|h
   ·exact hx e.symm
   ·exact cutF_no (Option.map_eq_none_iff.1 hc) h
def ruleOf (w:ByteArray):Option SRule:=match cutF 58 (toL w) with
 | none=>none
 | some r=>if isName (ofL r.1)=true∧(parseInt (ofL r.2)).2=true∧1≤(parseInt (ofL r.2)).1∧(parseInt (ofL r.2)).1≤999 then some ⟨ofL r.1,(parseInt (ofL r.2)).1⟩ else none
def parseRules:List ByteArray→List SRule→List SRule
 | [],acc=>acc
 | w::l,acc=>parseRules l (if acc.length<8 then acc++(ruleOf w).toList else acc)
theorem parseRules_at {l:List ByteArray} {i:Nat} {acc:List SRule} (h:i<l.length):parseRules (l.drop i) acc=parseRules (l.drop (i+1)) (if acc.length<8 then acc++(ruleOf (l.getD i default)).toList else acc):=by rw[drop_cons h];rfl
theorem parseRules_end {l:List ByteArray} {i:Nat} {acc:List SRule} (h:l.length≤i):parseRules (l.drop i) acc=acc:=by rw[List.drop_of_length_le h];rfl
theorem parseRules_full:∀ {l:List ByteArray} {acc:List SRule},¬ acc.length<8→parseRules l acc=acc
 | [],_,_=>rfl
 | w::l,acc,h=>by rw[parseRules,if_neg h];exact parseRules_full h
theorem rule_cut (w:ByteArray):ruleOf w=if(spl 58 w).length=2∧isName ((spl 58 w).getD 0 default)=true∧(parseInt ((spl 58 w).getD 1 default)).2=true∧1≤(parseInt ((spl 58 w).getD 1 default)).1∧(parseInt ((spl 58 w).getD 1 default)).1≤999 then some ⟨(spl 58 w).getD 0 default,(parseInt ((spl 58 w).getD 1 default)).1⟩ else none:=by
 unfold ruleOf
 rw[spl_cut]
 cases h:cutF 58 (toL w) with
 | none=>simp
 | some r=>
  obtain⟨p,q⟩:=r
  simp only[List.length_cons]
  by_cases hq:(58:UInt8)∈q
  ·have hd:(parseInt (ofL q)).2=false:=by
    unfold parseInt
    rw[if_neg]
    rintro⟨q1,q2,q3,_⟩
    rw[toL_ofL,List.all_eq_true] at q3
    have:=q3 58 hq
    cases this
   have hl:(spl 58 (ofL q)).length≠1:=by
    intro hl
    rw[spl_cut,toL_ofL] at hl
    cases hc:cutF 58 q with
    | none=>exact cutF_no hc hq
    | some r2=>
     rw[hc] at hl
     have:=(spl_len 58 (ofL r2.2)).1
     simp only[List.length_cons] at hl;omega
   rw[if_neg (by rw[hd];simp),if_neg (by omega)]
  ·have hs:spl 58 (ofL q)=[ofL q]:=by
    rw[spl_cut,toL_ofL]
    cases hc:cutF 58 q with
    | none=>rfl
    | some r2=>exact absurd (cutF_mem (p:=r2.1) (q:=r2.2) hc) hq
   rw[hs]
   simp
def parseSheet (s:ByteArray):SSheet:=⟨parseRules (spl 59 s) []⟩
def fParseSheet:Fct:=⟨[.v (.el .str)],[.el .sheet],fun(x_:ByteArray×Unit)=>x_.1.size≤4200000000,fun(x_:ByteArray×Unit)=>(parseSheet x_.1,())⟩
abbrev W_spec_ParseSheet_fParseSheet_4 (s:ByteArray):LInv:=⟨[⟨.b,3,true,.el .sheet⟩,⟨.s,5,true,.el .int⟩,⟨.b,2,true,.el .sheet⟩,⟨.s,4,true,.sl .str⟩],fun(z_:SSheet×Int×SSheet×(List ByteArray)×Unit) (x_:SSheet×Int×SSheet×(List ByteArray)×Unit)=>((0≤x_.2.1∧x_.2.1≤(spl 59 s).length∧x_.1.rules.length≤8∧parseRules ((spl 59 s).drop x_.2.1.toNat) x_.1.rules=parseRules (spl 59 s) [])∧x_.2.2.1=z_.2.2.1)∧x_.2.2.2.1=z_.2.2.2.1,fun(x_:SSheet×Int×SSheet×(List ByteArray)×Unit)=>(spl 59 s).length-x_.2.1.toNat⟩
theorem k143_114:fParseSheet.ok Tryz.prog 143:=Fct.of (S:=fParseSheet) (L:=fun⟨s,_⟩=>fun|4=>some (W_spec_ParseSheet_fParseSheet_4 s)|_=>none) (kp:=[0,2,3,4,5,6,7,8,21,38,50,1000021,1000038,1000050]) E114ok Tryz.func143 (by kernel_rfl) (by kernel_rfl) (by
 rintro⟨(s:ByteArray),_⟩ hp
 refine ho (.cl fSplit5 (s,(59:Int),()) fun z2=>lpx (W_spec_ParseSheet_fParseSheet_4 s) (default,((0:Int),(default,(z2.1,())))) fun(y2:SSheet×Int×SSheet×List ByteArray×PUnit) bk2=>.br (decide (y2.2.1<(↑y2.2.2.2.1.length:Int))) (.br (decide ((↑y2.1.rules.length:Int)<8)) (.ob (inB y2.2.1 y2.2.2.2.1.length)<|.ob (y2.2.1.toNat<y2.2.2.2.1.length)<|.cl fSplit5 (y2.2.2.2.1.getD y2.2.1.toNat default,(58:Int),()) fun z3=>.br ((↑z3.1.length:Int) != 2) (.ob (Value.string s=Value.string s)<|.ob (bk2 (y2.1,(w1 y2.2.1,(y2.2.2.1,(y2.2.2.2.1,())))))<|.ok) (.ob ((0:Int)≤(0:Int)∧(0:Int)<(↑z3.1.length:Int))<|.ob (0<z3.1.length)<|.cl fIsName (z3.1.getD 0 default,()) fun z4=>.br (!z4.1) (.ob (Value.string s=Value.string s)<|.ob (bk2 (y2.1,(w1 y2.2.1,(y2.2.2.1,(y2.2.2.2.1,())))))<|.ok) (.ob ((0:Int)≤(1:Int)∧(1:Int)<(↑z3.1.length:Int))<|.ob (1<z3.1.length)<|.cl fParseInt (z3.1.getD 1 default,()) fun(z5:Int×Bool×PUnit)=>.br (z5.2.1) (.cl fInRange (z5.1,(1:Int),(999:Int),()) fun z6=>.br (z6.1) (.ob ((0:Int)≤(0:Int)∧(0:Int)<(↑z3.1.length:Int))<|.ob (0<z3.1.length)<|.ob (True)<|.ob (Room (y2.1.rules.length+[(⟨z3.1.getD 0 default,z5.1⟩:SRule)].length) 24)<|.ob (Value.string s=Value.string s)<|.ob (bk2 ((⟨y2.1.rules++[(⟨z3.1.getD 0 default,z5.1⟩:SRule)]⟩:SSheet),(w1 y2.2.1,(y2.2.2.1,(y2.2.2.2.1,())))))<|.ok) (.ob (Value.string s=Value.string s)<|.ob (bk2 (y2.1,(w1 y2.2.1,(y2.2.2.1,(y2.2.2.2.1,())))))<|.ok)) (.ob (Value.string s=Value.string s)<|.ob (bk2 (y2.1,(w1 y2.2.1,(y2.2.2.1,(y2.2.2.2.1,())))))<|.ok)))) (.lf fParseSheet (y2.1,()))) (.lf fParseSheet (y2.1,()))) ?_
 refine cl_i ?_ fun o1=>(lpx_i ?_ fun(y2:SSheet×Int×SSheet×List ByteArray×PUnit) i2=>br_i (fun h3=>br_i (fun h4=>ob_i ?_ fun o5=>ob_i ?_ fun o6=>cl_i ?_ fun o7=>(br_i (fun h8=>ob_i rfl fun _=>ob_i ?_ fun o9=>trivial) (fun h8=>ob_i ?_ fun o10=>ob_i ?_ fun o11=>cl_i ?_ fun o12=>(br_i (fun h13=>ob_i rfl fun _=>ob_i ?_ fun o14=>trivial) (fun h13=>ob_i ?_ fun o15=>ob_i ?_ fun o16=>cl_i ?_ fun o17=>(br_i (fun h18=>cl_i trivial fun _=>(br_i (fun h19=>ob_i ?_ fun o20=>ob_i ?_ fun o21=>ob_i trivial fun _=>ob_i ?_ fun o22=>ob_i rfl fun _=>ob_i ?_ fun o23=>trivial) (fun h19=>ob_i rfl fun _=>ob_i ?_ fun o24=>trivial))) (fun h18=>ob_i rfl fun _=>ob_i ?_ fun o25=>trivial))))))) (fun h4=>lfY ?_)) (fun h3=>lfY ?_))
 all_goals
  have hk:=spl_len 59 s
  have hm:∀ i,i<(spl 59 s).length→((spl 59 s).getD i default).size≤s.size:=fun i h=>spl_mem (getD_in h)
  have hp1:s.size≤4200000000:=hp
  try simp only[std0] at *
  try simp only[W_spec_ParseSheet_fParseSheet_4,fInRange,fIsName,fParseInt,fParseSheet,fSplit5,std,Nat.reduceAdd,szF,toF,eqF,mkF,heF,fSplit5,fIsName,fParseInt,fInRange,inRange,show UInt8.ofNat (Int.toNat 59)=59 from rfl,show UInt8.ofNat (Int.toNat 58)=58 from rfl] at *
 all_goals first|trivial|omega|exact⟨by omega,by decide,by decide⟩|exact⟨by omega,by omega,by decide,rfl⟩|(obtain⟨⟨⟨a1,a2,a3,a4⟩,a5⟩,a6⟩:=i2;simp only[a6,Bool.and_eq_true,Bool.and_eq_false_iff,decide_eq_true_eq,decide_eq_false_iff_not] at *)
 all_goals
  try have hw:=hm y2.2.1.toNat (by omega)
  try have hw0:=spl_get 58 ((spl 59 s).getD y2.2.1.toNat default) 0
  try have hw1:=spl_get 58 ((spl 59 s).getD y2.2.1.toNat default) 1
 all_goals first|trivial|omega|exact⟨by omega,by decide,by decide⟩|exact⟨by omega,by omega⟩|skip
 all_goals first|(rw[parseRules_end (by omega)] at a4;show y2.1=parseSheet s;unfold parseSheet;rw[←a4])|(rw[parseRules_full (by omega)] at a4;show y2.1=parseSheet s;unfold parseSheet;rw[←a4])|skip
 all_goals have e:=parseRules_at (l:=spl 59 s) (i:=y2.2.1.toNat) (acc:=y2.1.rules) (by omega)
 all_goals rw[a4,if_pos (by omega),rule_cut] at e
 all_goals rw[wrapId (by omega),show(y2.2.1+1).toNat=y2.2.1.toNat+1 by omega]
 all_goals first|(rw[if_neg (by rintro⟨q1,q2,q3,q4,q5⟩;first|omega|exact absurd (q2.symm.trans (show isName _=false by assumption)) (by decide)|exact absurd (q3.symm.trans (show Prod.snd _=false by assumption)) (by decide)),Option.toList_none,List.append_nil] at e;exact⟨⟨⟨⟨by omega,by omega,by omega,e.symm⟩,by assumption⟩,trivial⟩,by omega⟩)|(rw[if_pos (by exact⟨by omega,by assumption,by assumption,by omega,by omega⟩),Option.toList_some] at e;exact⟨⟨⟨⟨by omega,by omega,by rw[List.length_append];simp only[List.length_cons,List.length_nil];omega,e.symm⟩,by assumption⟩,trivial⟩,by omega⟩)|skip)
def E115:=E114.add 143 fParseSheet
theorem E115ok:EOk Tryz.prog E115:=E114ok.add k143_114
def openIdx {α:Type} (f:α→Bool):List α→Int→List Int
 | [],_=>[]
 | x::l,k=>if f x then k::openIdx f l (k+1) else openIdx f l (k+1)
theorem openIdx_at {α:Type} [Inhabited α] {f:α→Bool} {l:List α} {i:Nat} {k:Int} (h:i<l.length):openIdx f (l.drop i) k=if f (l.getD i default) then k::openIdx f (l.drop (i+1)) (k+1) else openIdx f (l.drop (i+1)) (k+1):=by rw[drop_cons h];rfl
theorem openIdx_end {α:Type} {f:α→Bool} {l:List α} {i:Nat} {k:Int} (h:l.length≤i):openIdx f (l.drop i) k=[]:=by rw[List.drop_of_length_le h];rfl
theorem openIdx_in {α:Type} (f:α→Bool):∀ (l:List α) (k:Int) (x:Int),x∈openIdx f l k→k≤x∧x<k+l.length
 | [],k,x,h=>by cases h
 | a::l,k,x,h=>by
  rw[openIdx] at h
  have ih:=openIdx_in f l (k+1) x
  simp only[List.length_cons]
  split at h
  ·rcases List.mem_cons.1 h with rfl|h
   ·omega
   ·have:=ih h;omega
  ·have:=ih h;omega
theorem openIdx_len {α:Type} (f:α→Bool):∀ (l:List α) (k:Int),(openIdx f l k).length≤l.length
 | [],k=>Nat.le_refl _
 | a::l,k=>by
  have:=openIdx_len f l (k+1)
  rw[openIdx]
  split<;>simp only[List.length_cons]<;>omega
def openSlots (p:SPage):List Int:=openIdx (fun s=>!s.done) p.slots 0
def openMods (p:SPage):List Int:=openIdx (fun m=>!m.done) p.mods 0
def fOpenSlots:Fct:=⟨[.v (.el .page)],[.sl .int],fun(x_:SPage×Unit)=>x_.1.slots.length≤1000000000000,fun(x_:SPage×Unit)=>(openSlots x_.1,())⟩
abbrev W_spec_OpenSlots_fOpenSlots_3 (p:SPage):LInv:=⟨[⟨.s,3,true,.sl .int⟩,⟨.s,4,true,.el .int⟩,⟨.b,1,false,.el .page⟩],fun(z_:(List Int)×Int×SPage×Unit) (x_:(List Int)×Int×SPage×Unit)=>(0≤x_.2.1∧x_.2.1≤p.slots.length∧x_.1.length≤x_.2.1∧x_.1++openIdx (fun s=>!s.done) (p.slots.drop x_.2.1.toNat) x_.2.1=openSlots p)∧x_.2.2.1=z_.2.2.1,fun(x_:(List Int)×Int×SPage×Unit)=>p.slots.length-x_.2.1.toNat⟩
theorem k74_115:fOpenSlots.ok Tryz.prog 74:=Fct.of (S:=fOpenSlots) (L:=fun⟨p,_⟩=>fun|3=>some (W_spec_OpenSlots_fOpenSlots_3 p)|_=>none) (kp:=[1,2,3,4,10,19,1000010,1000019]) E115ok Tryz.func74 (by kernel_rfl) (by kernel_rfl) (by
 rintro⟨(p:SPage),_⟩ hp
 refine ho (lpx (W_spec_OpenSlots_fOpenSlots_3 p) ([],((0:Int),(p,()))) fun(y1:List Int×Int×SPage×PUnit) bk1=>.br (decide (y1.2.1<(↑y1.2.2.1.slots.length:Int))) (.ob (inB y1.2.1 y1.2.2.1.slots.length)<|.br (!(y1.2.2.1.slots.getD y1.2.1.toNat default).done) (.ob (True)<|.ob (Room (y1.1.length+[y1.2.1].length) 8)<|.ob (bk1 (y1.1++[y1.2.1],(w1 y1.2.1,(y1.2.2.1,()))))<|.ok) (.ob (bk1 (y1.1,(w1 y1.2.1,(y1.2.2.1,()))))<|.ok)) (.lf fOpenSlots (y1.1,()))) ?_
 refine lpx_i ?_ fun(y1:List Int×Int×SPage×PUnit) i1=>br_i (fun h2=>ob_i ?_ fun o3=>br_i (fun h4=>ob_i trivial fun _=>ob_i ?_ fun o5=>ob_i ?_ fun o6=>trivial) (fun h4=>ob_i ?_ fun o7=>trivial)) (fun h2=>lfY ?_)
 all_goals
  have h0:openIdx (fun s:SSlot=>!s.done) (p.slots.drop 0) 0=openSlots p:=rfl
  try simp only[std0] at *
  try simp only[W_spec_OpenSlots_fOpenSlots_3,fOpenSlots,std,Nat.reduceAdd,szF,toF,eqF,mkF,heF,openIdx_at,openIdx_end,List.length_append,List.length_cons,List.length_nil,List.append_assoc] at *
  try simp(disch:=omega) only[wrapId',toNat1] at *
  try simp(disch:=omega) only[if_pos,if_neg]
 all_goals first|trivial|omega|grind[wrapId',toNat1,drop_cons,drop_end,good_len,maxLen,openIdx_at,openIdx_end,List.length_append,List.length_cons,List.length_nil,List.append_assoc])
def E116:=E115.add 74 fOpenSlots
theorem E116ok:EOk Tryz.prog E116:=E115ok.add k74_115
def fOpenMods:Fct:=⟨[.v (.el .page)],[.sl .int],fun(x_:SPage×Unit)=>x_.1.mods.length≤1000000000000,fun(x_:SPage×Unit)=>(openMods x_.1,())⟩
abbrev W_spec_OpenMods_fOpenMods_3 (p:SPage):LInv:=⟨[⟨.s,3,true,.sl .int⟩,⟨.s,4,true,.el .int⟩,⟨.b,1,false,.el .page⟩],fun(z_:(List Int)×Int×SPage×Unit) (x_:(List Int)×Int×SPage×Unit)=>(0≤x_.2.1∧x_.2.1≤p.mods.length∧x_.1.length≤x_.2.1∧x_.1++openIdx (fun m=>!m.done) (p.mods.drop x_.2.1.toNat) x_.2.1=openMods p)∧x_.2.2.1=z_.2.2.1,fun(x_:(List Int)×Int×SPage×Unit)=>p.mods.length-x_.2.1.toNat⟩
theorem k76_116:fOpenMods.ok Tryz.prog 76:=Fct.of (S:=fOpenMods) (L:=fun⟨p,_⟩=>fun|3=>some (W_spec_OpenMods_fOpenMods_3 p)|_=>none) (kp:=[1,2,3,4,10,19,1000010,1000019]) E116ok Tryz.func76 (by kernel_rfl) (by kernel_rfl) (by
 rintro⟨(p:SPage),_⟩ hp
 refine ho (lpx (W_spec_OpenMods_fOpenMods_3 p) ([],((0:Int),(p,()))) fun(y1:List Int×Int×SPage×PUnit) bk1=>.br (decide (y1.2.1<(↑y1.2.2.1.mods.length:Int))) (.ob (inB y1.2.1 y1.2.2.1.mods.length)<|.br (!(y1.2.2.1.mods.getD y1.2.1.toNat default).done) (.ob (True)<|.ob (Room (y1.1.length+[y1.2.1].length) 8)<|.ob (bk1 (y1.1++[y1.2.1],(w1 y1.2.1,(y1.2.2.1,()))))<|.ok) (.ob (bk1 (y1.1,(w1 y1.2.1,(y1.2.2.1,()))))<|.ok)) (.lf fOpenMods (y1.1,()))) ?_
 refine lpx_i ?_ fun(y1:List Int×Int×SPage×PUnit) i1=>br_i (fun h2=>ob_i ?_ fun o3=>br_i (fun h4=>ob_i trivial fun _=>ob_i ?_ fun o5=>ob_i ?_ fun o6=>trivial) (fun h4=>ob_i ?_ fun o7=>trivial)) (fun h2=>lfY ?_)
 all_goals
  have h0:openIdx (fun m:SModule=>!m.done) (p.mods.drop 0) 0=openMods p:=rfl
  try simp only[std0] at *
  try simp only[W_spec_OpenMods_fOpenMods_3,fOpenMods,std,Nat.reduceAdd,szF,toF,eqF,mkF,heF,openIdx_at,openIdx_end,List.length_append,List.length_cons,List.length_nil,List.append_assoc] at *
  try simp(disch:=omega) only[wrapId',toNat1] at *
  try simp(disch:=omega) only[if_pos,if_neg]
 all_goals first|trivial|omega|grind[wrapId',toNat1,drop_cons,drop_end,good_len,maxLen,openIdx_at,openIdx_end,List.length_append,List.length_cons,List.length_nil,List.append_assoc])
def E117:=E116.add 76 fOpenMods
theorem E117ok:EOk Tryz.prog E117:=E116ok.add k76_116
def allowsInline (p:SPolicy) (n:ByteArray):Bool:=!p.set_||(!decide (p.nonce=⟨#[]⟩)&&decide (p.nonce=n))
def fAllowsInline:Fct:=⟨[.v (.el .policy),.v (.el .str)],[.el .bool],fun(x_:SPolicy×ByteArray×Unit)=>True,fun(x_:SPolicy×ByteArray×Unit)=>(allowsInline x_.1 x_.2.1,())⟩
theorem k147_117:fAllowsInline.ok Tryz.prog 147:=Fct.o [1,2,4] E117ok Tryz.func147 (by
 rintro⟨(p:SPolicy),(n:ByteArray),_⟩ hp
 refine ho (.br (!p.set_) (.lf fAllowsInline (true,())) (.br (!p.nonce.toList==(⟨#[]⟩:ByteArray).toList) (.lf fAllowsInline (p.nonce.toList==ByteArray.toList n,())) (.lf fAllowsInline (false,())))) ?_
 refine br_i (fun h1=>lfY ?_) (fun h1=>br_i (fun h2=>lfY ?_) (fun h2=>lfY ?_))
 all_goals
  try simp only[std0] at *
  try simp only[fAllowsInline,std,Nat.reduceAdd,szF,toF,eqF,mkF,heF,allowsInline] at *
  try simp(disch:=omega) only[wrapId',toNat1] at *
  try simp(disch:=omega) only[if_pos,if_neg]
 all_goals first|trivial|omega|grind[wrapId',toNat1,drop_cons,drop_end,good_len,maxLen,allowsInline])
def E118:=E117.add 147 fAllowsInline
theorem E118ok:EOk Tryz.prog E118:=E117ok.add k147_117
def isVoid (n:ByteArray):Bool:=decide (n=⟨#[105,109,103]⟩)||decide (n=⟨#[108,105,110,107]⟩)
def fIsVoid:Fct:=⟨[.v (.el .str)],[.el .bool],fun(x_:ByteArray×Unit)=>True,fun(x_:ByteArray×Unit)=>(isVoid x_.1,())⟩
theorem k145_118:fIsVoid.ok Tryz.prog 145:=Fct.o [0,2] E118ok Tryz.func145 (by
 rintro⟨(n:ByteArray),_⟩ hp
 refine ho (.br (ByteArray.toList n==(⟨#[105,109,103]⟩:ByteArray).toList) (.lf fIsVoid (true,())) (.lf fIsVoid (ByteArray.toList n==(⟨#[108,105,110,107]⟩:ByteArray).toList,()))) ?_
 refine br_i (fun h1=>lfY ?_) (fun h1=>lfY ?_)
 all_goals
  try simp only[std0] at *
  try simp only[fIsVoid,std,Nat.reduceAdd,szF,toF,eqF,mkF,heF,isVoid] at *
  try simp(disch:=omega) only[wrapId',toNat1] at *
  try simp(disch:=omega) only[if_pos,if_neg]
 all_goals first|trivial|omega|grind[wrapId',toNat1,drop_cons,drop_end,good_len,maxLen,isVoid])
def E119:=E118.add 145 fIsVoid
theorem E119ok:EOk Tryz.prog E119:=E118ok.add k145_118
def sheetsOf (l:List SSlot):List SSheet:=(l.filter fun s=>decide (s.mode=2)&&(s.done&&decide (s.code=1))).map fun s=>parseSheet s.body
theorem sheetsOf_at {l:List SSlot} {i:Nat} (h:i<l.length):sheetsOf (l.drop i)=if(l.getD i default).mode=2∧(l.getD i default).done=true∧(l.getD i default).code=1 then parseSheet (l.getD i default).body::sheetsOf (l.drop (i+1)) else sheetsOf (l.drop (i+1)):=by
 rw[drop_cons h]
 unfold sheetsOf
 rw[List.filter_cons]
 by_cases hc:(l.getD i default).mode=2∧(l.getD i default).done=true∧(l.getD i default).code=1
 ·rw[if_pos hc,if_pos (by rw[decide_eq_true hc.1,hc.2.1,decide_eq_true hc.2.2];rfl)];rfl
 ·rw[if_neg hc,if_neg (by intro q;simp only[Bool.and_eq_true,decide_eq_true_eq] at q;exact hc q)]
theorem sheetsOf_end {l:List SSlot} {i:Nat} (h:l.length≤i):sheetsOf (l.drop i)=[]:=by rw[List.drop_of_length_le h];rfl
def okBod (p:SPage):Prop:=∀ i,i<p.slots.length→(p.slots.getD i default).body.size≤4200000000
def fSheetsOf:Fct:=⟨[.v (.el .page)],[.sl .sheet],fun(x_:SPage×Unit)=>szL szSlot x_.1.slots≤1000000000000∧okBod x_.1,fun(x_:SPage×Unit)=>(sheetsOf x_.1.slots,())⟩
abbrev W_spec_SheetsOf_fSheetsOf_3 (p:SPage):LInv:=⟨[⟨.s,3,true,.sl .sheet⟩,⟨.s,4,true,.el .int⟩,⟨.b,1,false,.el .page⟩],fun(z_:(List SSheet)×Int×SPage×Unit) (x_:(List SSheet)×Int×SPage×Unit)=>(0≤x_.2.1∧x_.2.1≤p.slots.length∧x_.1.length≤x_.2.1∧x_.1++sheetsOf (p.slots.drop x_.2.1.toNat)=sheetsOf p.slots)∧x_.2.2.1=z_.2.2.1,fun(x_:(List SSheet)×Int×SPage×Unit)=>p.slots.length-x_.2.1.toNat⟩
theorem k122_119:fSheetsOf.ok Tryz.prog 122:=Fct.of (S:=fSheetsOf) (L:=fun⟨p,_⟩=>fun|3=>some (W_spec_SheetsOf_fSheetsOf_3 p)|_=>none) (kp:=[1,2,3,4,5,11,30,1000011,1000030]) E119ok Tryz.func122 (by kernel_rfl) (by kernel_rfl) (by
 rintro⟨(p:SPage),_⟩ hp
 refine ho (lpx (W_spec_SheetsOf_fSheetsOf_3 p) ([],((0:Int),(p,()))) fun(y1:List SSheet×Int×SPage×PUnit) bk1=>.br (decide (y1.2.1<(↑y1.2.2.1.slots.length:Int))) (.ob (inB y1.2.1 y1.2.2.1.slots.length)<|.br ((y1.2.2.1.slots.getD y1.2.1.toNat default).mode==2) (.br ((y1.2.2.1.slots.getD y1.2.1.toNat default).done) (.br ((y1.2.2.1.slots.getD y1.2.1.toNat default).code==1) (.cl fParseSheet ((y1.2.2.1.slots.getD y1.2.1.toNat default).body,()) fun z2=>.ob (Room (y1.1.length+[z2.1].length) 24)<|.ob (bk1 (y1.1++[z2.1],(w1 y1.2.1,(y1.2.2.1,()))))<|.ok) (.ob (bk1 (y1.1,(w1 y1.2.1,(y1.2.2.1,()))))<|.ok)) (.ob (bk1 (y1.1,(w1 y1.2.1,(y1.2.2.1,()))))<|.ok)) (.ob (bk1 (y1.1,(w1 y1.2.1,(y1.2.2.1,()))))<|.ok)) (.lf fSheetsOf (y1.1,()))) ?_
 refine lpx_i ?_ fun(y1:List SSheet×Int×SPage×PUnit) i1=>br_i (fun h2=>ob_i ?_ fun o3=>br_i (fun h4=>br_i (fun h5=>br_i (fun h6=>cl_i ?_ fun o7=>(ob_i ?_ fun o8=>ob_i ?_ fun o9=>trivial)) (fun h6=>ob_i ?_ fun o10=>trivial)) (fun h5=>ob_i ?_ fun o11=>trivial)) (fun h4=>ob_i ?_ fun o12=>trivial)) (fun h2=>lfY ?_)
 all_goals
  have h0:sheetsOf (p.slots.drop 0)=sheetsOf p.slots:=rfl
  have hl:=szL_len szSlot p.slots
  have hg:∀ i,i<p.slots.length→(p.slots.getD i default).body.size≤4200000000:=hp.2
  have hg2:szL szSlot p.slots≤1000000000000:=hp.1
  clear hp
  try simp only[std0] at *
  try simp only[W_spec_SheetsOf_fSheetsOf_3,fParseSheet,fSheetsOf,std,Nat.reduceAdd,szF,toF,eqF,mkF,heF,fParseSheet,sheetsOf_at,sheetsOf_end,List.length_append,List.length_cons,List.length_nil,List.append_assoc] at *
  try simp(disch:=omega) only[wrapId',toNat1] at *
  try simp(disch:=omega) only[if_pos,if_neg]
 all_goals first|trivial|omega|grind[wrapId',toNat1,drop_cons,drop_end,good_len,maxLen,fParseSheet,sheetsOf_at,sheetsOf_end,List.length_append,List.length_cons,List.length_nil,List.append_assoc])
def E120:=E119.add 122 fSheetsOf
theorem E120ok:EOk Tryz.prog E120:=E119ok.add k122_119
theorem ruleOf_sz {w:ByteArray} {r:SRule} (h:ruleOf w=some r):r.name.size≤w.size∧1≤r.color∧r.color≤999:=by
 unfold ruleOf at h
 split at h
 ·cases h
 ·rename_i q hq
  split at h
  ·rename_i hc
   have:=cutF_len1 (p:=q.1) (q:=q.2) hq
   obtain rfl:=Option.some.inj h
   rw[toL_len] at this
   exact⟨by rw[ofL_size];omega,hc.2.2⟩
  ·cases h
theorem parseRules_sz:∀ (l:List ByteArray) (acc:List SRule),szL szRule (parseRules l acc)≤szL szRule acc+szL szString l∧∀ r,r∈parseRules l acc→r∈acc∨1≤r.color∧r.color≤999
 | [],acc=>⟨by rw[parseRules];omega,fun r h=>.inl h⟩
 | w::l,acc=>by
  rw[parseRules,szL_cons]
  by_cases hc:acc.length<8
  ·rw[if_pos hc]
   cases hr:ruleOf w with
   | none=>
    obtain⟨i1,i2⟩:=parseRules_sz l acc
    rw[Option.toList_none,List.append_nil]
    exact⟨by omega,i2⟩
   | some x=>
    obtain⟨i1,i2⟩:=parseRules_sz l (acc++[x])
    have hx:=ruleOf_sz hr
    rw[Option.toList_some]
    rw[szL_snoc] at i1
    refine⟨by simp only[szRule,szString] at *;omega,fun r h=>?_⟩
    rcases i2 r h with h|h
    ·rcases List.mem_append.1 h with h|h
     ·exact .inl h
     ·rw[List.mem_singleton] at h;subst h;exact .inr hx.2
    ·exact .inr h
  ·rw[if_neg hc]
   obtain⟨i1,i2⟩:=parseRules_sz l acc
   exact⟨by omega,i2⟩
theorem parseSheet_sz (s:ByteArray):szSheet (parseSheet s)≤s.size+1∧∀ r,r∈(parseSheet s).rules→1≤r.color∧r.color≤999:=by
 obtain⟨h1,h2⟩:=parseRules_sz (spl 59 s) []
 rw[szL_spl] at h1
 have h0:szL szRule []=0:=rfl
 exact⟨by simp only[szSheet,parseSheet];omega,fun r h=>(h2 r h).elim (fun h=>by cases h) id⟩
theorem sheetsOf_sz:∀ (l:List SSlot),szL szSheet (sheetsOf l)≤2*szL szSlot l∧okSheets (sheetsOf l)
 | []=>⟨Nat.zero_le _,fun s h=>by cases h⟩
 | x::l=>by
  obtain⟨i1,i2⟩:=sheetsOf_sz l
  have e:=sheetsOf_at (l:=x::l) (i:=0) (by simp)
  rw[List.drop_zero] at e
  rw[e,szL_cons]
  split
  ·have hp:=parseSheet_sz x.body
   refine⟨?_,fun s h=>?_⟩
   ·rw[szL_cons];simp only[szSlot] at *;show szSheet (parseSheet x.body)+1+szL szSheet (sheetsOf l)≤_;omega
   ·rcases List.mem_cons.1 h with rfl|h
    ·intro r hr;have:=hp.2 r hr;omega
    ·exact i2 s h
  ·exact⟨by show szL szSheet (sheetsOf l)≤_;omega,i2⟩
theorem line8L_sz (s:ByteArray):∀ (l:List ByteArray) (k:Int),(line8L s l k).2=true→(line8L s l k).1.text.size≤60
 | [],k,h=>by cases h
 | w::l,k,h=>by
  rw[line8L] at h ⊢
  split
  ·rename_i hc
   rw[if_pos hc] at h
   dsimp only at h ⊢
   split at h
   ·have:=of_decide_eq_true h
    rw[ByteArray.size_extract];omega
   ·have:=isName_size h
    omega
  ·rename_i hc
   rw[if_neg hc] at h
   exact line8L_sz s l _ h
theorem parseScript_sz (s:ByteArray):szL szLine (parseScript s).1≤366∧(parseScript s).1.length≤6:=by
 unfold parseScript
 split
 ·exact⟨by decide,by decide⟩
 ·split
  ·rename_i hc
   have hs:∀ l:List ByteArray,allOk8 l=true→szL szLine (lines8 l)≤61*l.length:=by
    intro l
    induction l with
    | nil=>intro _;decide
    | cons w l ih=>
     intro h
     simp only[allOk8,List.all_cons,Bool.and_eq_true] at h
     have:=ih h.2
     have h2:=line8L_sz w _ _ h.1
     show szL szLine ((line8 w).1::lines8 l)≤_
     rw[szL_cons]
     simp only[szLine,List.length_cons,line8] at *;omega
   have:=hs _ hc.2
   exact⟨by dsimp only;omega,by dsimp only;rw[lines8,List.length_map];exact hc.1⟩
  ·exact⟨by decide,by decide⟩
theorem szL_app {α:Type} (f:α→Nat):∀ (l m:List α),szL f (l++m)=szL f l+szL f m
 | [],m=>by show szL f m=0+szL f m;omega
 | x::l,m=>by rw[List.cons_append,szL_cons,szL_cons,szL_app f l m];omega
def addLog:List ByteArray→List ByteArray→List ByteArray
 | g,[]=>g
 | g,x::l=>if g.length<40 then addLog (g++[x]) l else g
theorem addLog_at {l g:List ByteArray} {i:Nat} (h:i<l.length):addLog g (l.drop i)=if g.length<40 then addLog (g++[l.getD i default]) (l.drop (i+1)) else g:=by rw[drop_cons h];rfl
theorem addLog_end {l g:List ByteArray} {i:Nat} (h:l.length≤i):addLog g (l.drop i)=g:=by rw[List.drop_of_length_le h];cases g<;>rfl
theorem addLog_full {l g:List ByteArray} (h:¬ g.length<40):addLog g l=g:=by
 cases l with
 | nil=>cases g<;>rfl
 | cons x l=>rw[addLog,if_neg h]
theorem addLog_nil (g:List ByteArray):addLog g []=g:=by cases g<;>rfl
def rsOf (p:SPage) (c:ByteArray):SBuilder×ByteArray×List ByteArray:=runScript p.builder (sheetsOf p.slots) (parseScript c).1
def runCode (p:SPage) (c:ByteArray) (w:Bool):SPage :=
 if(parseScript c).2=true then{ p with builder:=(rsOf p c).1,queue:=if w=true then tokensOf (rsOf p c).2.1++p.queue else p.queue,log:=addLog p.log (rsOf p c).2.2 }
 else{ p with log:=addLog p.log [⟨#[101,114,114,111,114]⟩]}
theorem runLines_sz (l:List SSheet):∀ (r:List SLine) (b:SBuilder) (w:ByteArray) (g:List ByteArray),szBuilder (runLines l r b w g).1≤szBuilder b+szL szLine r∧(runLines l r b w g).2.1.size≤w.size+szL szLine r∧(runLines l r b w g).2.2.length≤g.length+r.length
 | [],b,w,g=>⟨Nat.le_add_right _ _,Nat.le_add_right _ _,Nat.le_add_right _ _⟩
 | x::r,b,w,g=>by
  have h:=runLine_sz b l x
  have i1:=runLines_sz l r (runLine b l x).1 (w++(runLine b l x).2.1) (if(runLine b l x).2.2=⟨#[]⟩ then g else g++[(runLine b l x).2.2])
  rw[runLines,szL_cons]
  have hg:(if(runLine b l x).2.2=⟨#[]⟩ then g else g++[(runLine b l x).2.2]).length≤g.length+1:=by split<;>simp
  rw[ByteArray.size_append] at i1
  simp only[List.length_cons,szLine] at *
  exact⟨by omega,by omega,by omega⟩
theorem rsOf_sz (p:SPage) (c:ByteArray):szBuilder (rsOf p c).1≤szBuilder p.builder+366∧(rsOf p c).2.1.size≤366∧(rsOf p c).2.2.length≤6:=by
 have h1:=runLines_sz (sheetsOf p.slots) (parseScript c).1 p.builder ⟨#[]⟩ []
 have h2:=parseScript_sz c
 have h0:ByteArray.size ⟨#[]⟩=0:=rfl
 simp only[rsOf,runScript,List.length_nil] at *
 omega
theorem tokensOf_sz (s:ByteArray):szL szToken (tokensOf s)≤s.size+2∧(tokensOf s).length≤s.size+2:=by
 have h1:=feedAll_sz s
 have h2:=endText_sz (feedAll s).2
 have h3:szL szToken (tokensOf s)≤s.size+2:=by
  unfold tokensOf
  rw[szL_app];omega
 exact⟨h3,Nat.le_trans (szL_len _ _) h3⟩
def fRunCode:Fct:=⟨[.v (.el .page),.v (.el .str),.v (.el .bool)],[.el .page],fun(x_:SPage×ByteArray×Bool×Unit)=>szPage x_.1≤1000000000000∧szBuilder x_.1.builder≤40000000000∧szL szSlot x_.1.slots≤40000000000∧x_.2.1.size≤4200000000∧okBod x_.1,fun(x_:SPage×ByteArray×Bool×Unit)=>(runCode x_.1 x_.2.1 x_.2.2.1,())⟩
abbrev W_spec_RunCode_fRunCode_10 (p:SPage) (c:ByteArray) (w:Bool):LInv:=⟨[⟨.b,7,true,.el .page⟩,⟨.s,13,true,.el .int⟩,⟨.b,6,true,.el .page⟩,⟨.s,12,true,.sl .str⟩],fun(z_:SPage×Int×SPage×(List ByteArray)×Unit) (x_:SPage×Int×SPage×(List ByteArray)×Unit)=>((0≤x_.2.1∧x_.2.1≤(rsOf p c).2.2.length∧x_.1={ p with builder:=(rsOf p c).1,log:=x_.1.log }∧addLog x_.1.log ((rsOf p c).2.2.drop x_.2.1.toNat)=addLog p.log (rsOf p c).2.2∧x_.1.log.length≤p.log.length+x_.2.1)∧x_.2.2.1=z_.2.2.1)∧x_.2.2.2.1=z_.2.2.2.1,fun(x_:SPage×Int×SPage×(List ByteArray)×Unit)=>(rsOf p c).2.2.length-x_.2.1.toNat⟩
theorem k93_120:fRunCode.ok Tryz.prog 93:=Fct.of (S:=fRunCode) (L:=fun⟨p,c,w,_⟩=>fun|10=>some (W_spec_RunCode_fRunCode_10 p c w)|_=>none) (kp:=[1,2,3,6,7,8,9,10,11,12,13,22,26,54,66,1000022,1000026,1000054,1000066]) E120ok Tryz.func93 (by kernel_rfl) (by kernel_rfl) (by
 rintro⟨(p:SPage),(c:ByteArray),(w:Bool),_⟩ hp
 refine ho (.cl fCopyPage (p,()) fun z2=>.cl fParseScript (c,()) fun z3=>.br (!z3.2.1) (.br (decide ((↑z2.1.log.length:Int)<40)) (.ob (True)<|.ob (Room (z2.1.log.length+1) 16)<|.lf fRunCode (⟨z2.1.addr,z2.1.policy,z2.1.tok,z2.1.queue,z2.1.ended,z2.1.builder,z2.1.slots,z2.1.mods,z2.1.entries,z2.1.block,z2.1.inline,z2.1.deferred,z2.1.entered,z2.1.ran,z2.1.log++[(⟨#[101,114,114,111,114]⟩:ByteArray)],z2.1.loaded⟩,())) (.lf fRunCode (z2.1,()))) (.cl fSheetsOf (p,()) fun z4=>.cl fRunScript (p.builder,z4.1,z3.1,()) fun z5=>lpx (W_spec_RunCode_fRunCode_10 p c w) ((⟨z2.1.addr,z2.1.policy,z2.1.tok,z2.1.queue,z2.1.ended,z5.1,z2.1.slots,z2.1.mods,z2.1.entries,z2.1.block,z2.1.inline,z2.1.deferred,z2.1.entered,z2.1.ran,z2.1.log,z2.1.loaded⟩:SPage),((0:Int),(default,(z5.2.2.1,())))) fun(y8:SPage×Int×SPage×List ByteArray×PUnit) bk8=>.br (decide (y8.2.1<(↑y8.2.2.2.1.length:Int))) (.br (decide ((↑y8.1.log.length:Int)<40)) (.ob (inB y8.2.1 y8.2.2.2.1.length)<|.ob (y8.2.1.toNat<y8.2.2.2.1.length)<|.ob (True)<|.ob (Room (y8.1.log.length+[y8.2.2.2.1.getD y8.2.1.toNat default].length) 16)<|.ob (Value.string c=Value.string c)<|.ob (Value.bool w=Value.bool w)<|.ob (Value.bool z3.2.1=Value.bool z3.2.1)<|.ob (Value.string z5.2.1=Value.string z5.2.1)<|.ob (bk8 ((⟨y8.1.addr,y8.1.policy,y8.1.tok,y8.1.queue,y8.1.ended,y8.1.builder,y8.1.slots,y8.1.mods,y8.1.entries,y8.1.block,y8.1.inline,y8.1.deferred,y8.1.entered,y8.1.ran,y8.1.log++[y8.2.2.2.1.getD y8.2.1.toNat default],y8.1.loaded⟩:SPage),(w1 y8.2.1,(y8.2.2.1,(y8.2.2.2.1,())))))<|.ok) (.br (w) (.cl fTokensOf (z5.2.1,()) fun z6=>.ob (Room (z6.1.length+y8.1.queue.length) 64)<|.lf fRunCode (⟨y8.1.addr,y8.1.policy,y8.1.tok,z6.1++y8.1.queue,y8.1.ended,y8.1.builder,y8.1.slots,y8.1.mods,y8.1.entries,y8.1.block,y8.1.inline,y8.1.deferred,y8.1.entered,y8.1.ran,y8.1.log,y8.1.loaded⟩,())) (.lf fRunCode (y8.1,())))) (.br (w) (.cl fTokensOf (z5.2.1,()) fun z7=>.ob (Room (z7.1.length+y8.1.queue.length) 64)<|.lf fRunCode (⟨y8.1.addr,y8.1.policy,y8.1.tok,z7.1++y8.1.queue,y8.1.ended,y8.1.builder,y8.1.slots,y8.1.mods,y8.1.entries,y8.1.block,y8.1.inline,y8.1.deferred,y8.1.entered,y8.1.ran,y8.1.log,y8.1.loaded⟩,())) (.lf fRunCode (y8.1,()))))) ?_
 refine cl_i ?_ fun o1=>(cl_i ?_ fun o2=>(br_i (fun h3=>br_i (fun h4=>ob_i trivial fun _=>ob_i ?_ fun o5=>lfY ?_) (fun h4=>lfY ?_)) (fun h3=>cl_i ?_ fun o6=>(cl_i ?_ fun o7=>(lpx_i ?_ fun(y8:SPage×Int×SPage×List ByteArray×PUnit) i8=>br_i (fun h9=>br_i (fun h10=>ob_i ?_ fun o11=>ob_i ?_ fun o12=>ob_i trivial fun _=>ob_i ?_ fun o13=>ob_i rfl fun _=>ob_i rfl fun _=>ob_i rfl fun _=>ob_i rfl fun _=>ob_i ?_ fun o14=>trivial) (fun h10=>br_i (fun h15=>cl_i ?_ fun o16=>(ob_i ?_ fun o17=>lfY ?_)) (fun h15=>lfY ?_))) (fun h9=>br_i (fun h18=>cl_i ?_ fun o19=>(ob_i ?_ fun o20=>lfY ?_)) (fun h18=>lfY ?_)))))))
 all_goals
  have hz:=rsOf_sz p c
  have hs:=parseScript_sz c
  have hk:=sheetsOf_sz p.slots
  have hq:szL szToken p.queue+szBuilder p.builder+szL szSlot p.slots+szL szString p.log≤szPage p:=by simp only[szPage];omega
  have hq1:=szL_len szToken p.queue
  have hq2:=szL_len szString p.log
 all_goals obtain⟨hp1,hp2,hp3,hp4,hp5⟩:=(show szPage p≤1000000000000∧szBuilder p.builder≤40000000000∧szL szSlot p.slots≤40000000000∧c.size≤4200000000∧okBod p from hp)
 all_goals
  have hrs:runScript p.builder (sheetsOf p.slots) (parseScript c).1=rsOf p c:=rfl
  try simp only[std0] at *
  try simp only[W_spec_RunCode_fRunCode_10,fCopyPage,fParseScript,fRunCode,fRunScript,fSheetsOf,fTokensOf,std,Nat.reduceAdd,szF,toF,eqF,mkF,heF,fCopyPage,fParseScript,fRunScript,fSheetsOf,fTokensOf,hrs] at *
 all_goals first|trivial|omega|exact⟨by omega,hp5⟩|exact⟨by omega,by omega,by omega,hk.2⟩|exact⟨by omega,by omega,rfl,rfl,by omega⟩|skip
 all_goals first|(unfold runCode;rw[if_neg (by rw[show Prod.snd _=false by assumption];decide)];first|rw[addLog,if_pos (by omega),addLog_nil]|(rw[addLog_full (by omega)]))|skip
 all_goals (obtain⟨⟨⟨a1,a2,a3,a4,a5⟩,a6⟩,a7⟩:=i8;obtain⟨q,i,d,lg,u⟩:=y8;try dsimp only at *;generalize q.log=L at *;subst a3;subst a7;try dsimp only at *)
 all_goals first|trivial|omega|(have:=tokensOf_sz (rsOf p c).2.1;simp only[Room];omega)|(have:=tokensOf_sz (rsOf p c).2.1;omega)|skip
 all_goals first|(rw[addLog_end (by omega)] at a4;unfold runCode;rw[if_pos (by assumption),←a4];first|rw[if_pos (by assumption)]|(rw[if_neg (by rw[show w=false by assumption];decide)]))|(rw[addLog_full (by omega)] at a4;unfold runCode;rw[if_pos (by assumption),←a4];first|rw[if_pos (by assumption)]|(rw[if_neg (by rw[show w=false by assumption];decide)]))|skip
 all_goals (rw[addLog_at (by omega),if_pos (by omega)] at a4;rw[wrapId (by omega),show(i+1).toNat=i.toNat+1 by omega])
 all_goals exact⟨⟨⟨⟨by omega,by omega,rfl,a4,by rw[List.length_append];simp only[List.length_cons,List.length_nil];omega⟩,a6⟩,rfl⟩,by omega⟩)
def E121:=E120.add 93 fRunCode
theorem E121ok:EOk Tryz.prog E121:=E120ok.add k93_120
def closeN (b:SBuilder) (n:ByteArray):Nat→List Int
 | 0=>b.open_
 | 1=>b.open_
 | m+2=>if 0≤b.open_.getD (m+1) default∧b.open_.getD (m+1) default<b.nodes.length∧(b.nodes.getD (b.open_.getD (m+1) default).toNat default).name=n then b.open_.take (m+1) else closeN b n (m+1)
theorem closeN_at {b:SBuilder} {n:ByteArray} {i:Int} (h:1≤i):closeN b n (i+1).toNat=if 0≤b.open_.getD i.toNat default∧b.open_.getD i.toNat default<b.nodes.length∧(b.nodes.getD (b.open_.getD i.toNat default).toNat default).name=n then b.open_.take i.toNat else closeN b n i.toNat:=by
 obtain⟨m,rfl⟩:∃ m:Nat,i=m+1:=⟨(i-1).toNat,by omega⟩
 rw[show((m:Int)+1+1).toNat=m+2 by omega,show((m:Int)+1).toNat=m+1 by omega]
 rfl
theorem closeN_end {b:SBuilder} {n:ByteArray} {i:Int} (h:i≤0):closeN b n (i+1).toNat=b.open_:=by
 have h2:(i+1).toNat=0∨(i+1).toNat=1:=by omega
 rcases h2 with h2|h2<;>rw[h2]<;>rfl
def closeB (b:SBuilder) (n:ByteArray):SBuilder:=⟨b.nodes,closeN b n b.open_.length⟩
def fClose:GS:=⟨[.g (.el .builder),.l (.v (.el .str))],[.el .builder],fun(x_:SBuilder×ByteArray×Unit)=>szBuilder x_.1≤1000000000000,fun(x_:SBuilder×ByteArray×Unit)=>((closeB x_.1 x_.2.1,()),(()))⟩
abbrev W_spec_l6Close_fClose_2 (b:SBuilder) (n:ByteArray):LInv:=⟨[⟨.s,5,true,.el .int⟩,⟨.b,2,true,.el .builder⟩,⟨.b,4,true,.el .builder⟩],fun _ (x_:Int×SBuilder×SBuilder×Unit)=>x_.2.1=b∧-1≤x_.1∧x_.1<b.open_.length∧closeN b n (x_.1+1).toNat=closeN b n b.open_.length,fun(x_:Int×SBuilder×SBuilder×Unit)=>(x_.1+1).toNat⟩
theorem k144_121:fClose.ok Tryz.prog 144:=GS.of (S:=fClose) (L:=fun⟨b,n,_⟩=>fun|2=>some (W_spec_l6Close_fClose_2 b n)|_=>none) (kp:=[1,2,4,5,6,12,35,1000012,1000035]) E121ok Tryz.func144 (by kernel_rfl) (by kernel_rfl) (by
 rintro⟨(b:SBuilder),(n:ByteArray),_⟩ hp
 refine ho (lpx (W_spec_l6Close_fClose_2 b n) (wr ((↑b.open_.length:Int)-(1:Int)),(b,(default,()))) fun(y1:Int×SBuilder×SBuilder×PUnit) bk1=>.br (decide (y1.1>0)) (.ob (inB y1.1 y1.2.1.open_.length)<|.ob (y1.1.toNat<y1.2.1.open_.length)<|.cl fInRange (y1.2.1.open_.getD y1.1.toNat default,(0:Int),wr ((↑y1.2.1.nodes.length:Int)-(1:Int)),()) fun z2=>.br (z2.1) (.ob (0≤y1.2.1.open_.getD y1.1.toNat default∧y1.2.1.open_.getD y1.1.toNat default<(↑y1.2.1.nodes.length:Int))<|.ob ((y1.2.1.open_.getD y1.1.toNat default).toNat<y1.2.1.nodes.length)<|.br ((y1.2.1.nodes.getD (y1.2.1.open_.getD y1.1.toNat default).toNat default).name.toList==n.toList) (.ob (0≤y1.1∧y1.1≤(↑y1.2.1.open_.length:Int))<|.ob (0+(y1.1.toNat-0)≤y1.2.1.open_.length)<|GS.out fClose ((⟨y1.2.1.nodes,cut y1.2.1.open_ 0 (y1.1.toNat-0)⟩,()),(()))) (.ob (Value.string n=Value.string n)<|.ob (bk1 (wr (y1.1-(1:Int)),(y1.2.1,(y1.2.2.1,()))))<|.ok)) (.ob (Value.string n=Value.string n)<|.ob (bk1 (wr (y1.1-(1:Int)),(y1.2.1,(y1.2.2.1,()))))<|.ok)) (GS.out fClose ((y1.2.1,()),(())))) ?_
 refine lpx_i ?_ fun(y1:Int×SBuilder×SBuilder×PUnit) i1=>br_i (fun h2=>ob_i ?_ fun o3=>ob_i ?_ fun o4=>cl_i trivial fun _=>(br_i (fun h5=>ob_i ?_ fun o6=>ob_i ?_ fun o7=>br_i (fun h8=>ob_i ?_ fun o9=>ob_i ?_ fun o10=>GS.leafY ?_) (fun h8=>ob_i rfl fun _=>ob_i ?_ fun o11=>trivial)) (fun h5=>ob_i rfl fun _=>ob_i ?_ fun o12=>trivial))) (fun h2=>GS.leafY ?_)
 all_goals
  have hl:b.open_.length≤1000000000000:=by have h1:szBuilder b≤1000000000000:=hp;simp only[szBuilder] at h1;omega
  have hn:b.nodes.length≤1000000000000:=by have h1:szBuilder b≤1000000000000:=hp;have:=szL_len szNode b.nodes;simp only[szBuilder] at h1;omega
  try simp only[std0] at *
  try simp only[W_spec_l6Close_fClose_2,fClose,fInRange,std,Nat.reduceAdd,szF,toF,eqF,mkF,heF,fInRange,inRange,closeB] at *
 all_goals try (obtain⟨a0,a1,a2,a3⟩:=i1;simp only[a0] at *)
 all_goals try simp only[wrapId (show -9223372036854775808≤(b.open_.length:Int)-1∧(b.open_.length:Int)-1≤9223372036854775807 by omega)] at *
 all_goals first|trivial|omega|(rw[show((b.open_.length:Int)-1+1).toNat=b.open_.length by omega];exact⟨by omega,by omega,rfl⟩)|skip
 all_goals try simp only[Bool.and_eq_true,Bool.and_eq_false_iff,decide_eq_true_eq,decide_eq_false_iff_not,wrapId (show -9223372036854775808≤(b.nodes.length:Int)-1∧(b.nodes.length:Int)-1≤9223372036854775807 by omega)] at *
 all_goals first|omega|(rw[closeN_end (by omega)] at a3;rw[←a3])|skip
 all_goals rw[closeN_at (by omega)] at a3
 all_goals first|(rw[if_pos (by exact⟨by omega,by omega,by assumption⟩)] at a3;rw[←a3];first|rfl|simp[cut])|(rw[if_neg (by rintro⟨q1,q2,q3⟩;first|omega|exact absurd q3 (by assumption))] at a3;rw[wrapId (by omega),show(y1.1-1+1).toNat=y1.1.toNat by omega];exact⟨⟨by first|assumption|trivial,by omega,by omega,a3⟩,by omega⟩))
def E122:=E121.addG 144 fClose
theorem E122ok:EOk Tryz.prog E122:=E121ok.addG k144_121
def lastOpen (b:SBuilder):Int:=b.open_.getD (b.open_.length-1) default
def addToken (b:SBuilder) (t:SToken):SBuilder×Int :=
 if t.kind=2 then(closeB b t.name,-1)
 else if b.nodes.length<40∧0<b.open_.length∧(t.kind=1∧isVoid t.name=false→b.open_.length<8)∧(t.kind=1∨t.kind=3∧t.text≠⟨#[]⟩) then
  (if t.kind=1 then⟨b.nodes++[⟨t.name,⟨#[]⟩,lastOpen b,t.attrs⟩],if isVoid t.name=true then b.open_ else b.open_++[(b.nodes.length:Int)]⟩ else⟨b.nodes++[⟨⟨#[]⟩,t.text,lastOpen b,[]⟩],b.open_⟩,(b.nodes.length:Int))
 else(b,-1)
theorem addToken_close {b:SBuilder} {t:SToken} (h:t.kind=2):addToken b t=(closeB b t.name,-1):=by unfold addToken;rw[if_pos h]
theorem addToken_no {b:SBuilder} {t:SToken} (h:¬ t.kind=2) (h2:40≤b.nodes.length∨b.open_.length=0∨(t.kind=1∧isVoid t.name=false∧8≤b.open_.length)∨(t.kind≠1∧(t.kind≠3∨t.text=⟨#[]⟩))):addToken b t=(b,-1):=by
 unfold addToken
 rw[if_neg h,if_neg]
 rintro⟨q1,q2,q3,q4⟩
 rcases h2 with h2|h2|⟨e1,e2,e3⟩|⟨e1,e2⟩
 ·omega
 ·omega
 ·have:=q3 ⟨e1,e2⟩;omega
 ·rcases q4 with q4|⟨q4,q5⟩
  ·exact e1 q4
  ·rcases e2 with e2|e2
   ·exact e2 q4
   ·exact q5 e2
theorem addToken_el {b:SBuilder} {t:SToken} (h:t.kind=1) (h1:b.nodes.length<40) (h2:0<b.open_.length) (h3:isVoid t.name=true∨b.open_.length<8):addToken b t=(⟨b.nodes++[⟨t.name,⟨#[]⟩,lastOpen b,t.attrs⟩],if isVoid t.name=true then b.open_ else b.open_++[(b.nodes.length:Int)]⟩,(b.nodes.length:Int)):=by
 unfold addToken
 rw[if_neg (by omega),if_pos ⟨h1,h2,fun⟨_,e⟩=>h3.elim (fun q=>by rw[e] at q;cases q) id,.inl h⟩,if_pos h]
theorem addToken_tx {b:SBuilder} {t:SToken} (h:t.kind=3) (h1:b.nodes.length<40) (h2:0<b.open_.length) (h3:¬ t.text=⟨#[]⟩):addToken b t=(⟨b.nodes++[⟨⟨#[]⟩,t.text,lastOpen b,[]⟩],b.open_⟩,(b.nodes.length:Int)):=by
 unfold addToken
 rw[if_neg (by omega),if_pos ⟨h1,h2,fun⟨e,_⟩=>absurd e (by omega),.inr ⟨h,h3⟩⟩,if_neg (by omega)]
theorem lastOpen_at {b:SBuilder}:b.open_.getD ((b.open_.length:Int)-1).toNat default=lastOpen b:=by
 rw[show((b.open_.length:Int)-1).toNat=b.open_.length-1 by omega];rfl
def fAddToken:Fct:=⟨[.v (.el .builder),.v (.el .token)],[.el .builder,.el .int],fun(x_:SBuilder×SToken×Unit)=>szBuilder x_.1≤100000000000∧szToken x_.2.1≤100000000000,fun(x_:SBuilder×SToken×Unit)=>((addToken x_.1 x_.2.1).1,(addToken x_.1 x_.2.1).2,())⟩
theorem k124_122:fAddToken.ok Tryz.prog 124:=Fct.o [2,3,4,5,6,7,8,9,17,47,59,70,88,1000017,1000047,1000059,1000070,1000088] E122ok Tryz.func124 (by
 rintro⟨(b:SBuilder),(t:SToken),_⟩ hp
 refine ho (.cl fCopyBuilder (b,()) fun z2=>.br (t.kind==2) (.ob (fClose.pre (z2.1,t.name,()))<|.lt _ (fClose.fn (z2.1,t.name,())) fun z3=>.lf fAddToken (z3.1.1,(-1:Int),())) (.br (t.kind==1) (.cl fIsVoid (t.name,()) fun z4=>.br (decide ((↑b.nodes.length:Int)≥40)) (.lf fAddToken (z2.1,(-1:Int),())) (.br ((↑b.open_.length:Int)==0) (.lf fAddToken (z2.1,(-1:Int),())) (.br (!z4.1) (.br (decide ((↑b.open_.length:Int)≥8)) (.lf fAddToken (z2.1,(-1:Int),())) (.ob (0≤wr ((↑b.open_.length:Int)-(1:Int))∧wr ((↑b.open_.length:Int)-(1:Int))<(↑b.open_.length:Int))<|.br (t.kind==1) (.cl fCopyAttrs (t.attrs,()) fun z5=>.ob (Room (z2.1.nodes.length+[(⟨t.name,(⟨#[]⟩:ByteArray),b.open_.getD (wr ((↑b.open_.length:Int)-(1:Int))).toNat default,z5.1⟩:SNode)].length) 64)<|.br (!z4.1) (.ob (True)<|.ob (Room (z2.1.open_.length+[(↑b.nodes.length:Int)].length) 8)<|.lf fAddToken (⟨z2.1.nodes++[(⟨t.name,(⟨#[]⟩:ByteArray),b.open_.getD (wr ((↑b.open_.length:Int)-(1:Int))).toNat default,z5.1⟩:SNode)],z2.1.open_++[(↑b.nodes.length:Int)]⟩,(↑b.nodes.length:Int),())) (.lf fAddToken (⟨z2.1.nodes++[(⟨t.name,(⟨#[]⟩:ByteArray),b.open_.getD (wr ((↑b.open_.length:Int)-(1:Int))).toNat default,z5.1⟩:SNode)],z2.1.open_⟩,(↑b.nodes.length:Int),()))) (.br (t.kind==3) (.br (!t.text.toList==(⟨#[]⟩:ByteArray).toList) (.ob (Room (z2.1.nodes.length+[(⟨(⟨#[]⟩:ByteArray),t.text,b.open_.getD (wr ((↑b.open_.length:Int)-(1:Int))).toNat default,[]⟩:SNode)].length) 64)<|.br (!z4.1) (.ob (True)<|.ob (Room (z2.1.open_.length+[(↑b.nodes.length:Int)].length) 8)<|.lf fAddToken (⟨z2.1.nodes++[(⟨(⟨#[]⟩:ByteArray),t.text,b.open_.getD (wr ((↑b.open_.length:Int)-(1:Int))).toNat default,[]⟩:SNode)],z2.1.open_++[(↑b.nodes.length:Int)]⟩,(↑b.nodes.length:Int),())) (.lf fAddToken (⟨z2.1.nodes++[(⟨(⟨#[]⟩:ByteArray),t.text,b.open_.getD (wr ((↑b.open_.length:Int)-(1:Int))).toNat default,[]⟩:SNode)],z2.1.open_⟩,(↑b.nodes.length:Int),()))) (.lf fAddToken (z2.1,(-1:Int),()))) (.lf fAddToken (z2.1,(-1:Int),()))))) (.ob (0≤wr ((↑b.open_.length:Int)-(1:Int))∧wr ((↑b.open_.length:Int)-(1:Int))<(↑b.open_.length:Int))<|.br (t.kind==1) (.cl fCopyAttrs (t.attrs,()) fun z6=>.ob (Room (z2.1.nodes.length+[(⟨t.name,(⟨#[]⟩:ByteArray),b.open_.getD (wr ((↑b.open_.length:Int)-(1:Int))).toNat default,z6.1⟩:SNode)].length) 64)<|.br (!z4.1) (.ob (True)<|.ob (Room (z2.1.open_.length+[(↑b.nodes.length:Int)].length) 8)<|.lf fAddToken (⟨z2.1.nodes++[(⟨t.name,(⟨#[]⟩:ByteArray),b.open_.getD (wr ((↑b.open_.length:Int)-(1:Int))).toNat default,z6.1⟩:SNode)],z2.1.open_++[(↑b.nodes.length:Int)]⟩,(↑b.nodes.length:Int),())) (.lf fAddToken (⟨z2.1.nodes++[(⟨t.name,(⟨#[]⟩:ByteArray),b.open_.getD (wr ((↑b.open_.length:Int)-(1:Int))).toNat default,z6.1⟩:SNode)],z2.1.open_⟩,(↑b.nodes.length:Int),()))) (.br (t.kind==3) (.br (!t.text.toList==(⟨#[]⟩:ByteArray).toList) (.ob (Room (z2.1.nodes.length+[(⟨(⟨#[]⟩:ByteArray),t.text,b.open_.getD (wr ((↑b.open_.length:Int)-(1:Int))).toNat default,[]⟩:SNode)].length) 64)<|.br (!z4.1) (.ob (True)<|.ob (Room (z2.1.open_.length+[(↑b.nodes.length:Int)].length) 8)<|.lf fAddToken (⟨z2.1.nodes++[(⟨(⟨#[]⟩:ByteArray),t.text,b.open_.getD (wr ((↑b.open_.length:Int)-(1:Int))).toNat default,[]⟩:SNode)],z2.1.open_++[(↑b.nodes.length:Int)]⟩,(↑b.nodes.length:Int),())) (.lf fAddToken (⟨z2.1.nodes++[(⟨(⟨#[]⟩:ByteArray),t.text,b.open_.getD (wr ((↑b.open_.length:Int)-(1:Int))).toNat default,[]⟩:SNode)],z2.1.open_⟩,(↑b.nodes.length:Int),()))) (.lf fAddToken (z2.1,(-1:Int),()))) (.lf fAddToken (z2.1,(-1:Int),()))))))) (.br (decide ((↑b.nodes.length:Int)≥40)) (.lf fAddToken (z2.1,(-1:Int),())) (.br ((↑b.open_.length:Int)==0) (.lf fAddToken (z2.1,(-1:Int),())) (.ob (0≤wr ((↑b.open_.length:Int)-(1:Int))∧wr ((↑b.open_.length:Int)-(1:Int))<(↑b.open_.length:Int))<|.br (t.kind==1) (.cl fCopyAttrs (t.attrs,()) fun z7=>.ob (Room (z2.1.nodes.length+[(⟨t.name,(⟨#[]⟩:ByteArray),b.open_.getD (wr ((↑b.open_.length:Int)-(1:Int))).toNat default,z7.1⟩:SNode)].length) 64)<|.lf fAddToken (⟨z2.1.nodes++[(⟨t.name,(⟨#[]⟩:ByteArray),b.open_.getD (wr ((↑b.open_.length:Int)-(1:Int))).toNat default,z7.1⟩:SNode)],z2.1.open_⟩,(↑b.nodes.length:Int),())) (.br (t.kind==3) (.br (!t.text.toList==(⟨#[]⟩:ByteArray).toList) (.ob (Room (z2.1.nodes.length+[(⟨(⟨#[]⟩:ByteArray),t.text,b.open_.getD (wr ((↑b.open_.length:Int)-(1:Int))).toNat default,[]⟩:SNode)].length) 64)<|.lf fAddToken (⟨z2.1.nodes++[(⟨(⟨#[]⟩:ByteArray),t.text,b.open_.getD (wr ((↑b.open_.length:Int)-(1:Int))).toNat default,[]⟩:SNode)],z2.1.open_⟩,(↑b.nodes.length:Int),())) (.lf fAddToken (z2.1,(-1:Int),()))) (.lf fAddToken (z2.1,(-1:Int),())))))))) ?_
 refine cl_i ?_ fun o1=>(br_i (fun h2=>ob_i ?_ fun o3=>lt_i (lfY ?_)) (fun h2=>br_i (fun h4=>cl_i trivial fun _=>(br_i (fun h5=>lfY ?_) (fun h5=>br_i (fun h6=>lfY ?_) (fun h6=>br_i (fun h7=>br_i (fun h8=>lfY ?_) (fun h8=>ob_i ?_ fun o9=>br_i (fun h10=>cl_i ?_ fun o11=>(ob_i ?_ fun o12=>br_i (fun h13=>ob_i trivial fun _=>ob_i ?_ fun o14=>lfY ?_) (fun h13=>lfY ?_))) (fun h10=>br_i (fun h15=>br_i (fun h16=>ob_i ?_ fun o17=>br_i (fun h18=>ob_i trivial fun _=>ob_i ?_ fun o19=>lfY ?_) (fun h18=>lfY ?_)) (fun h16=>lfY ?_)) (fun h15=>lfY ?_)))) (fun h7=>ob_i ?_ fun o20=>br_i (fun h21=>cl_i ?_ fun o22=>(ob_i ?_ fun o23=>br_i (fun h24=>ob_i trivial fun _=>ob_i ?_ fun o25=>lfY ?_) (fun h24=>lfY ?_))) (fun h21=>br_i (fun h26=>br_i (fun h27=>ob_i ?_ fun o28=>br_i (fun h29=>ob_i trivial fun _=>ob_i ?_ fun o30=>lfY ?_) (fun h29=>lfY ?_)) (fun h27=>lfY ?_)) (fun h26=>lfY ?_))))))) (fun h4=>br_i (fun h31=>lfY ?_) (fun h31=>br_i (fun h32=>lfY ?_) (fun h32=>ob_i ?_ fun o33=>br_i (fun h34=>cl_i ?_ fun o35=>(ob_i ?_ fun o36=>lfY ?_)) (fun h34=>br_i (fun h37=>br_i (fun h38=>ob_i ?_ fun o39=>lfY ?_) (fun h38=>lfY ?_)) (fun h37=>lfY ?_)))))))
 all_goals
  have hl:b.open_.length≤100000000000:=by have h1:szBuilder b≤100000000000:=hp.1;simp only[szBuilder] at h1;omega
  have hn:b.nodes.length≤100000000000:=by have h1:szBuilder b≤100000000000:=hp.1;have:=szL_len szNode b.nodes;simp only[szBuilder] at h1;omega
  have ha:szL szAttr t.attrs≤100000000000∧t.attrs.length≤100000000000:=by have h1:szToken t≤100000000000:=hp.2;have:=szL_len szAttr t.attrs;simp only[szToken] at h1;omega
  try simp only[std0] at *
  try simp only[fAddToken,fClose,fCopyAttrs,fCopyBuilder,fIsVoid,std,Nat.reduceAdd,szF,toF,eqF,mkF,heF,fCopyBuilder,fCopyAttrs,fIsVoid,fClose] at *
  try simp only[wrapId (show -9223372036854775808≤(b.open_.length:Int)-1∧(b.open_.length:Int)-1≤9223372036854775807 by omega),lastOpen_at] at *
 all_goals first|trivial|omega|skip
 all_goals first|(rw[addToken_close (by assumption)];exact⟨rfl,rfl⟩)|skip
 all_goals first|(rw[addToken_no (by omega) (by first|exact .inl (by omega)|exact .inr (.inl (by omega))|exact .inr (.inr (.inl ⟨by omega,by assumption,by omega⟩))|exact .inr (.inr (.inr ⟨by omega,.inl (by omega)⟩))|exact .inr (.inr (.inr ⟨by omega,.inr (by assumption)⟩)))];exact⟨rfl,rfl⟩)|skip
 all_goals first|(rw[addToken_el (by omega) (by omega) (by omega) (by first|exact .inl (by assumption)|exact .inr (by omega))];first|rw[if_pos (by assumption)]|rw[if_neg (by rw[show isVoid t.name=false by assumption];decide)])|(rw[addToken_tx (by omega) (by omega) (by omega) (by assumption)])|skip
 all_goals first|exact⟨rfl,rfl⟩|exact absurd ((show isVoid t.name=true by assumption).symm.trans (show isVoid t.name=false by assumption)) (by decide))
def E123:=E122.add 124 fAddToken
theorem E123ok:EOk Tryz.prog E123:=E122ok.add k124_122
theorem parseAddr_sz (s b:ByteArray):(parseAddr s b).1.host.size≤s.size+b.size∧(parseAddr s b).1.path.size≤s.size+b.size:=by
 have:=addrOf_sz s b
 unfold parseAddr
 split
 ·exact⟨this.1,Nat.le_trans this.2 (Nat.le_add_right _ _)⟩
 ·exact⟨Nat.zero_le _,Nat.zero_le _⟩
def reqOf (p:SPage) (s:SSlot):SRequest:=⟨kindOf s.mode,s.to,p.addr.host,s.digest⟩
def rawSlot (p:SPage) (mode:Int) (to digest:ByteArray) (node:Int):SSlot:=⟨mode,(parseAddr to p.addr.host).1,digest,node,false,0,⟨#[]⟩⟩
def newSlot (p:SPage) (mode:Int) (to digest:ByteArray) (node:Int):SSlot :=
 if(parseAddr to p.addr.host).2=true∧checkRequest p.policy (reqOf p (rawSlot p mode to digest node))=1 then rawSlot p mode to digest node
 else⟨mode,(parseAddr to p.addr.host).1,digest,node,true,2,⟨#[]⟩⟩
def addSlot (p:SPage) (mode:Int) (to digest:ByteArray) (node:Int):SPage×Int :=
 if p.slots.length<20∧kindOf mode≠0 then({ p with slots:=p.slots++[newSlot p mode to digest node]},(p.slots.length:Int)) else(p,-1)
theorem slotReq_snoc (p:SPage) (s:SSlot):slotRequest { p with slots:=p.slots++[s]} (p.slots.length:Int)=reqOf p s:=by
 unfold slotRequest reqOf
 rw[if_pos (by simp only[List.length_append,List.length_cons,List.length_nil];omega)]
 simp
theorem addSlot_no {p:SPage} {mode:Int} {to digest:ByteArray} {node:Int} (h:20≤p.slots.length∨kindOf mode=0):addSlot p mode to digest node=(p,-1):=by
 unfold addSlot;rw[if_neg];rintro⟨q1,q2⟩;rcases h with h|h
 ·omega
 ·exact q2 h
theorem addSlot_yes {p:SPage} {mode:Int} {to digest:ByteArray} {node:Int} (h:p.slots.length<20) (h2:¬ kindOf mode=0):addSlot p mode to digest node=({ p with slots:=p.slots++[newSlot p mode to digest node]},(p.slots.length:Int)):=by
 unfold addSlot;rw[if_pos ⟨h,h2⟩]
theorem modify_snoc {α:Type}:∀ (l:List α) (x:α) (f:α→α),(l++[x]).modify l.length f=l++[f x]
 | [],x,f=>rfl
 | a::l,x,f=>by
  show a::(l++[x]).modify l.length f=_
  rw[modify_snoc l x f];rfl
theorem newSlot_no {p:SPage} {m:Int} {to d:ByteArray} {n:Int} (h:(parseAddr to p.addr.host).2=false∨¬ checkRequest p.policy (reqOf p (rawSlot p m to d n))=1):newSlot p m to d n=⟨m,(parseAddr to p.addr.host).1,d,n,true,2,⟨#[]⟩⟩:=by
 unfold newSlot;rw[if_neg];rintro⟨q1,q2⟩;rcases h with h|h
 ·rw[h] at q1;cases q1
 ·exact h q2
theorem newSlot_yes {p:SPage} {m:Int} {to d:ByteArray} {n:Int} (h:(parseAddr to p.addr.host).2=true) (h2:checkRequest p.policy (reqOf p (rawSlot p m to d n))=1):newSlot p m to d n=rawSlot p m to d n:=by
 unfold newSlot;rw[if_pos ⟨h,h2⟩]
def fAddSlot:Fct:=⟨[.v (.el .page),.v (.el .int),.v (.el .str),.v (.el .str),.v (.el .int)],[.el .page,.el .int],fun(x_:SPage×Int×ByteArray×ByteArray×Int×Unit)=>szPage x_.1≤1090000000000∧x_.1.addr.host.size≤4000000000∧x_.2.2.1.size≤4000000000∧x_.2.2.2.1.size≤50000000000,fun(x_:SPage×Int×ByteArray×ByteArray×Int×Unit)=>((addSlot x_.1 x_.2.1 x_.2.2.1 x_.2.2.2.1 x_.2.2.2.2.1).1,(addSlot x_.1 x_.2.1 x_.2.2.1 x_.2.2.2.1 x_.2.2.2.2.1).2,())⟩
theorem k146_123:fAddSlot.ok Tryz.prog 146:=Fct.o [1,2,3,4,5,10,11,12,13,14,15,27,57,1000027,1000057] E123ok Tryz.func146 (by
 rintro⟨(p:SPage),(m:Int),(to:ByteArray),(d:ByteArray),(n:Int),_⟩ hp
 refine ho (.cl fCopyPage (p,()) fun z2=>.br (decide ((↑p.slots.length:Int)≥20)) (.lf fAddSlot (z2.1,(-1:Int),())) (.cl fKindOfMode (m,()) fun(z3:Int×PUnit)=>.br (z3.1==0) (.lf fAddSlot (z2.1,(-1:Int),())) (.cl fParseAddr (to,p.addr.host,()) fun z4=>.ob (True)<|.ob (Room (z2.1.slots.length+[(⟨m,z4.1,d,n,false,(0:Int),(⟨#[]⟩:ByteArray)⟩:SSlot)].length) 96)<|.br (!z4.2.1) (.ob ((0:Int)≤(↑p.slots.length:Int)∧(↑p.slots.length:Int)<(↑(z2.1.slots++[(⟨m,z4.1,d,n,false,(0:Int),(⟨#[]⟩:ByteArray)⟩:SSlot)]).length:Int))<|.ob ((↑p.slots.length:Int).toNat<(z2.1.slots++[(⟨m,z4.1,d,n,false,(0:Int),(⟨#[]⟩:ByteArray)⟩:SSlot)]).length)<|.lt (List SSlot) ((z2.1.slots++[(⟨m,z4.1,d,n,false,(0:Int),(⟨#[]⟩:ByteArray)⟩:SSlot)]).modify (↑p.slots.length:Int).toNat fun z=>(⟨z.mode,z.to,z.digest,z.node,true,z.code,z.body⟩:SSlot)) fun z5=>.ob ((0:Int)≤(↑p.slots.length:Int)∧(↑p.slots.length:Int)<(↑z5.length:Int))<|.ob ((↑p.slots.length:Int).toNat<z5.length)<|.lt (List SSlot) (z5.modify (↑p.slots.length:Int).toNat fun z=>(⟨z.mode,z.to,z.digest,z.node,z.done,(2:Int),z.body⟩:SSlot)) fun z6=>.lf fAddSlot (⟨z2.1.addr,z2.1.policy,z2.1.tok,z2.1.queue,z2.1.ended,z2.1.builder,z6,z2.1.mods,z2.1.entries,z2.1.block,z2.1.inline,z2.1.deferred,z2.1.entered,z2.1.ran,z2.1.log,z2.1.loaded⟩,(↑p.slots.length:Int),())) (.cl fSlotRequest ((⟨z2.1.addr,z2.1.policy,z2.1.tok,z2.1.queue,z2.1.ended,z2.1.builder,z2.1.slots++[(⟨m,z4.1,d,n,false,(0:Int),(⟨#[]⟩:ByteArray)⟩:SSlot)],z2.1.mods,z2.1.entries,z2.1.block,z2.1.inline,z2.1.deferred,z2.1.entered,z2.1.ran,z2.1.log,z2.1.loaded⟩:SPage),(↑p.slots.length:Int),()) fun z7=>.cl fCheckRequest (p.policy,z7.1,()) fun(z8:Int×PUnit)=>.br (z8.1 != 1) (.ob ((0:Int)≤(↑p.slots.length:Int)∧(↑p.slots.length:Int)<(↑(z2.1.slots++[(⟨m,z4.1,d,n,false,(0:Int),(⟨#[]⟩:ByteArray)⟩:SSlot)]).length:Int))<|.ob ((↑p.slots.length:Int).toNat<(z2.1.slots++[(⟨m,z4.1,d,n,false,(0:Int),(⟨#[]⟩:ByteArray)⟩:SSlot)]).length)<|.lt (List SSlot) ((z2.1.slots++[(⟨m,z4.1,d,n,false,(0:Int),(⟨#[]⟩:ByteArray)⟩:SSlot)]).modify (↑p.slots.length:Int).toNat fun z=>(⟨z.mode,z.to,z.digest,z.node,true,z.code,z.body⟩:SSlot)) fun z9=>.ob ((0:Int)≤(↑p.slots.length:Int)∧(↑p.slots.length:Int)<(↑z9.length:Int))<|.ob ((↑p.slots.length:Int).toNat<z9.length)<|.lt (List SSlot) (z9.modify (↑p.slots.length:Int).toNat fun z=>(⟨z.mode,z.to,z.digest,z.node,z.done,(2:Int),z.body⟩:SSlot)) fun z10=>.lf fAddSlot (⟨z2.1.addr,z2.1.policy,z2.1.tok,z2.1.queue,z2.1.ended,z2.1.builder,z10,z2.1.mods,z2.1.entries,z2.1.block,z2.1.inline,z2.1.deferred,z2.1.entered,z2.1.ran,z2.1.log,z2.1.loaded⟩,(↑p.slots.length:Int),())) (.lf fAddSlot (⟨z2.1.addr,z2.1.policy,z2.1.tok,z2.1.queue,z2.1.ended,z2.1.builder,z2.1.slots++[(⟨m,z4.1,d,n,false,(0:Int),(⟨#[]⟩:ByteArray)⟩:SSlot)],z2.1.mods,z2.1.entries,z2.1.block,z2.1.inline,z2.1.deferred,z2.1.entered,z2.1.ran,z2.1.log,z2.1.loaded⟩,(↑p.slots.length:Int),())))))) ?_
 refine cl_i ?_ fun o1=>(br_i (fun h2=>lfY ?_) (fun h2=>cl_i trivial fun _=>(br_i (fun h3=>lfY ?_) (fun h3=>cl_i ?_ fun o4=>(ob_i trivial fun _=>ob_i ?_ fun o5=>br_i (fun h6=>ob_i ?_ fun o7=>ob_i ?_ fun o8=>lt_i (ob_i ?_ fun o9=>ob_i ?_ fun o10=>lt_i (lfY ?_))) (fun h6=>cl_i ?_ fun o11=>(cl_i ?_ fun o12=>(br_i (fun h13=>ob_i ?_ fun o14=>ob_i ?_ fun o15=>lt_i (ob_i ?_ fun o16=>ob_i ?_ fun o17=>lt_i (lfY ?_))) (fun h13=>lfY ?_)))))))))
 all_goals
  have hl:p.slots.length≤1090000000000:=by have h1:szPage p≤1090000000000:=hp.1;have:=szL_len szSlot p.slots;simp only[szPage] at h1;omega
  have hpo:szPolicy p.policy≤1090000000000:=by have h1:szPage p≤1090000000000:=hp.1;simp only[szPage] at h1;omega
  have hz:=parseAddr_sz to p.addr.host
  try simp only[std0] at *
  try simp only[fAddSlot,fCheckRequest,fCopyPage,fKindOfMode,fParseAddr,fSlotRequest,std,Nat.reduceAdd,szF,toF,eqF,mkF,heF,fCopyPage,fKindOfMode,fParseAddr,fSlotRequest,fCheckRequest] at *
  try simp only[slotReq_snoc,modify_snoc,List.length_append,List.length_cons,List.length_nil,Int.toNat_natCast] at *
 all_goals first|trivial|omega|(rw[addSlot_no (by first|exact .inl (by omega)|exact .inr (by assumption))];exact⟨rfl,rfl⟩)|rw[addSlot_yes (by omega) (by assumption)]|skip
 all_goals first|exact⟨by omega,by simp only[szRequest,szAddr,reqOf];omega⟩|(rw[newSlot_no (by first|exact .inl (by assumption)|exact .inr (by assumption))];exact⟨rfl,rfl⟩)|(rw[newSlot_yes (by assumption) (by assumption)];exact⟨rfl,rfl⟩))
def E124:=E123.add 146 fAddSlot
theorem E124ok:EOk Tryz.prog E124:=E123ok.add k146_123
def fillS (p:SPage) (x:SResponse) (s:SSlot):SSlot:=if s.done=true then s else{ s with done:=true,code:=checkResponse p.policy (reqOf p s) x,body:=(usable p.policy (reqOf p s) x).1 }
def fillSlot (p:SPage) (k:Int) (x:SResponse):SPage:=if 0≤k∧k<p.slots.length then{ p with slots:=p.slots.modify k.toNat (fillS p x)} else p
def fFillSlot:Fct:=⟨[.v (.el .page),.v (.el .int),.v (.el .response)],[.el .page],fun(x_:SPage×Int×SResponse×Unit)=>szPage x_.1≤1000000000000∧x_.1.addr.host.size≤4000000000∧(∀ i,i<x_.1.slots.length→szSlot (x_.1.slots.getD i default)≤50000000000)∧-9223372036854775808≤x_.2.1∧x_.2.1≤9223372036854775807∧x_.2.2.1.policy.size≤200000000∧x_.2.2.1.body.size≤1000000000,fun(x_:SPage×Int×SResponse×Unit)=>(fillSlot x_.1 x_.2.1 x_.2.2.1,())⟩
def askFrom (a:SAddr):List SModule→Nat
 | []=>0
 | m::l=>if cmpA m.to a<0 then askFrom a l+1 else 0
theorem askFrom_at {a:SAddr} {l:List SModule} {i:Nat} (h:i<l.length):askFrom a (l.drop i)=if cmpA (l.getD i default).to a<0 then askFrom a (l.drop (i+1))+1 else 0:=by rw[drop_cons h];rfl
theorem askFrom_end {a:SAddr} {l:List SModule} {i:Nat} (h:l.length≤i):askFrom a (l.drop i)=0:=by rw[List.drop_of_length_le h];rfl
def newMod (p:SPage) (a:SAddr):SModule:=if checkRequest p.policy ⟨5,a,p.addr.host,⟨#[]⟩⟩=1 then⟨a,false,0,⟨#[]⟩⟩ else⟨a,true,2,⟨#[]⟩⟩
def askModule (p:SPage) (a:SAddr):SPage :=
 if askFrom a p.mods<p.mods.length∧(p.mods.getD (askFrom a p.mods) default).to=a then p
 else{ p with mods:=p.mods.take (askFrom a p.mods)++newMod p a::p.mods.drop (askFrom a p.mods)}
theorem askCut {l:List SModule} {i:Nat} {m:SModule} (h:i≤l.length):cut l 0 i++[m]++cut l i (l.length-i)=l.take i++m::l.drop i:=by
 simp only[cut,List.drop_zero,List.append_assoc,List.cons_append,List.nil_append]
 rw[List.take_of_length_le (l:=List.drop i l) (by simp)]
theorem ask_found {p:SPage} {a:SAddr} {i:Nat} (h:askFrom a p.mods=i) (h1:i<p.mods.length) (h2:(p.mods.getD i default).to=a):askModule p a=p:=by
 unfold askModule;rw[h,if_pos ⟨h1,h2⟩]
theorem ask_new {p:SPage} {a:SAddr} {i:Nat} (h:askFrom a p.mods=i) (h0:i≤p.mods.length) (h1:i=p.mods.length∨¬ (p.mods.getD i default).to=a) (m:SModule) (hm:m=newMod p a):askModule p a={ p with mods:=cut p.mods 0 i++[m]++cut p.mods i (p.mods.length-i)}:=by
 unfold askModule
 rw[h,if_neg,askCut h0,hm]
 rintro⟨q1,q2⟩
 rcases h1 with h1|h1
 ·omega
 ·exact h1 q2
theorem newMod_ok {p:SPage} {a:SAddr} (h:checkRequest p.policy ⟨5,a,p.addr.host,⟨#[]⟩⟩=1):(⟨a,false,0,⟨#[]⟩⟩:SModule)=newMod p a:=by unfold newMod;rw[if_pos h]
theorem newMod_no {p:SPage} {a:SAddr} (h:¬ checkRequest p.policy ⟨5,a,p.addr.host,⟨#[]⟩⟩=1):(⟨a,true,2,⟨#[]⟩⟩:SModule)=newMod p a:=by unfold newMod;rw[if_neg h]
def fAskModule:Fct:=⟨[.v (.el .page),.v (.el .addr)],[.el .page],fun(x_:SPage×SAddr×Unit)=>szPage x_.1≤1090000000000∧x_.1.addr.host.size≤4000000000∧szAddr x_.2.1≤50000000000,fun(x_:SPage×SAddr×Unit)=>(askModule x_.1 x_.2.1,())⟩
abbrev W_spec_AskModule_fAskModule_3 (p:SPage) (a:SAddr):LInv:=⟨[⟨.s,6,true,.el .int⟩,⟨.b,2,false,.el .page⟩,⟨.b,3,true,.el .addr⟩,⟨.b,4,true,.el .page⟩,⟨.b,5,true,.el .page⟩],fun(z_:Int×SPage×SAddr×SPage×SPage×Unit) (x_:Int×SPage×SAddr×SPage×SPage×Unit)=>((((0≤x_.1∧x_.1≤p.mods.length∧x_.1+askFrom a (p.mods.drop x_.1.toNat)=askFrom a p.mods)∧x_.2.1=z_.2.1)∧x_.2.2.1=z_.2.2.1)∧x_.2.2.2.1=z_.2.2.2.1)∧x_.2.2.2.2.1=z_.2.2.2.2.1,fun(x_:Int×SPage×SAddr×SPage×SPage×Unit)=>p.mods.length-x_.1.toNat⟩
theorem k106_124:fAskModule.ok Tryz.prog 106:=Fct.of (S:=fAskModule) (L:=fun⟨p,a,_⟩=>fun|3=>some (W_spec_AskModule_fAskModule_3 p a)|_=>none) (kp:=[2,3,4,5,6,7,8,26,43,55,1000026,1000043,1000055]) E124ok Tryz.func106 (by kernel_rfl) (by kernel_rfl) (by
 rintro⟨(p:SPage),(a:SAddr),_⟩ hp
 refine ho (.cl fCopyPage (p,()) fun z2=>lpx (W_spec_AskModule_fAskModule_3 p a) ((0:Int),(p,(a,(default,(z2.1,()))))) fun(y2:Int×SPage×SAddr×SPage×SPage×PUnit) bk2=>.br (decide (y2.1<(↑y2.2.1.mods.length:Int))) (.ob (inB y2.1 y2.2.1.mods.length)<|.cl fCompareAddrs ((y2.2.1.mods.getD y2.1.toNat default).to,y2.2.2.1,()) fun(z3:Int×PUnit)=>.br (decide (z3.1<0)) (.ob (bk2 (w1 y2.1,(y2.2.1,(y2.2.2.1,(y2.2.2.2.1,(y2.2.2.2.2.1,()))))))<|.ok) (.br (decide (y2.1<(↑y2.2.1.mods.length:Int))) (.ob (inB y2.1 y2.2.1.mods.length)<|.br ((y2.2.1.mods.getD y2.1.toNat default).to.host==y2.2.2.1.host&&((y2.2.1.mods.getD y2.1.toNat default).to.path==y2.2.2.1.path&&true)) (.lf fAskModule (y2.2.2.2.2.1,())) (.cl fCheckRequest (y2.2.1.policy,(⟨(5:Int),y2.2.2.1,y2.2.1.addr.host,(⟨#[]⟩:ByteArray)⟩:SRequest),()) fun(z4:Int×PUnit)=>.br (z4.1 != 1) (.ob (0≤y2.1∧y2.1≤(↑y2.2.2.2.2.1.mods.length:Int))<|.ob (0+(y2.1.toNat-0)≤y2.2.2.2.2.1.mods.length)<|.ob (Room (0+(cut y2.2.2.2.2.1.mods 0 (y2.1.toNat-0)).length) 64)<|.ob (True)<|.ob (Room (([]++cut y2.2.2.2.2.1.mods 0 (y2.1.toNat-0)).length+[(⟨y2.2.2.1,true,(2:Int),(⟨#[]⟩:ByteArray)⟩:SModule)].length) 64)<|.ob (0≤y2.1∧y2.1≤(↑y2.2.2.2.2.1.mods.length:Int))<|.ob (y2.1.toNat+(y2.2.2.2.2.1.mods.length-y2.1.toNat)≤y2.2.2.2.2.1.mods.length)<|.ob (Room (([]++cut y2.2.2.2.2.1.mods 0 (y2.1.toNat-0)++[(⟨y2.2.2.1,true,(2:Int),(⟨#[]⟩:ByteArray)⟩:SModule)]).length+(cut y2.2.2.2.2.1.mods y2.1.toNat (y2.2.2.2.2.1.mods.length-y2.1.toNat)).length) 64)<|.lf fAskModule (⟨y2.2.2.2.2.1.addr,y2.2.2.2.2.1.policy,y2.2.2.2.2.1.tok,y2.2.2.2.2.1.queue,y2.2.2.2.2.1.ended,y2.2.2.2.2.1.builder,y2.2.2.2.2.1.slots,[]++cut y2.2.2.2.2.1.mods 0 (y2.1.toNat-0)++[(⟨y2.2.2.1,true,(2:Int),(⟨#[]⟩:ByteArray)⟩:SModule)]++cut y2.2.2.2.2.1.mods y2.1.toNat (y2.2.2.2.2.1.mods.length-y2.1.toNat),y2.2.2.2.2.1.entries,y2.2.2.2.2.1.block,y2.2.2.2.2.1.inline,y2.2.2.2.2.1.deferred,y2.2.2.2.2.1.entered,y2.2.2.2.2.1.ran,y2.2.2.2.2.1.log,y2.2.2.2.2.1.loaded⟩,())) (.ob (0≤y2.1∧y2.1≤(↑y2.2.2.2.2.1.mods.length:Int))<|.ob (0+(y2.1.toNat-0)≤y2.2.2.2.2.1.mods.length)<|.ob (Room (0+(cut y2.2.2.2.2.1.mods 0 (y2.1.toNat-0)).length) 64)<|.ob (True)<|.ob (Room (([]++cut y2.2.2.2.2.1.mods 0 (y2.1.toNat-0)).length+[(⟨y2.2.2.1,false,(0:Int),(⟨#[]⟩:ByteArray)⟩:SModule)].length) 64)<|.ob (0≤y2.1∧y2.1≤(↑y2.2.2.2.2.1.mods.length:Int))<|.ob (y2.1.toNat+(y2.2.2.2.2.1.mods.length-y2.1.toNat)≤y2.2.2.2.2.1.mods.length)<|.ob (Room (([]++cut y2.2.2.2.2.1.mods 0 (y2.1.toNat-0)++[(⟨y2.2.2.1,false,(0:Int),(⟨#[]⟩:ByteArray)⟩:SModule)]).length+(cut y2.2.2.2.2.1.mods y2.1.toNat (y2.2.2.2.2.1.mods.length-y2.1.toNat)).length) 64)<|.lf fAskModule (⟨y2.2.2.2.2.1.addr,y2.2.2.2.2.1.policy,y2.2.2.2.2.1.tok,y2.2.2.2.2.1.queue,y2.2.2.2.2.1.ended,y2.2.2.2.2.1.builder,y2.2.2.2.2.1.slots,[]++cut y2.2.2.2.2.1.mods 0 (y2.1.toNat-0)++[(⟨y2.2.2.1,false,(0:Int),(⟨#[]⟩:ByteArray)⟩:SModule)]++cut y2.2.2.2.2.1.mods y2.1.toNat (y2.2.2.2.2.1.mods.length-y2.1.toNat),y2.2.2.2.2.1.entries,y2.2.2.2.2.1.block,y2.2.2.2.2.1.inline,y2.2.2.2.2.1.deferred,y2.2.2.2.2.1.entered,y2.2.2.2.2.1.ran,y2.2.2.2.2.1.log,y2.2.2.2.2.1.loaded⟩,())))) (.cl fCheckRequest (y2.2.1.policy,(⟨(5:Int),y2.2.2.1,y2.2.1.addr.host,(⟨#[]⟩:ByteArray)⟩:SRequest),()) fun(z5:Int×PUnit)=>.br (z5.1 != 1) (.ob (0≤y2.1∧y2.1≤(↑y2.2.2.2.2.1.mods.length:Int))<|.ob (0+(y2.1.toNat-0)≤y2.2.2.2.2.1.mods.length)<|.ob (Room (0+(cut y2.2.2.2.2.1.mods 0 (y2.1.toNat-0)).length) 64)<|.ob (True)<|.ob (Room (([]++cut y2.2.2.2.2.1.mods 0 (y2.1.toNat-0)).length+[(⟨y2.2.2.1,true,(2:Int),(⟨#[]⟩:ByteArray)⟩:SModule)].length) 64)<|.ob (0≤y2.1∧y2.1≤(↑y2.2.2.2.2.1.mods.length:Int))<|.ob (y2.1.toNat+(y2.2.2.2.2.1.mods.length-y2.1.toNat)≤y2.2.2.2.2.1.mods.length)<|.ob (Room (([]++cut y2.2.2.2.2.1.mods 0 (y2.1.toNat-0)++[(⟨y2.2.2.1,true,(2:Int),(⟨#[]⟩:ByteArray)⟩:SModule)]).length+(cut y2.2.2.2.2.1.mods y2.1.toNat (y2.2.2.2.2.1.mods.length-y2.1.toNat)).length) 64)<|.lf fAskModule (⟨y2.2.2.2.2.1.addr,y2.2.2.2.2.1.policy,y2.2.2.2.2.1.tok,y2.2.2.2.2.1.queue,y2.2.2.2.2.1.ended,y2.2.2.2.2.1.builder,y2.2.2.2.2.1.slots,[]++cut y2.2.2.2.2.1.mods 0 (y2.1.toNat-0)++[(⟨y2.2.2.1,true,(2:Int),(⟨#[]⟩:ByteArray)⟩:SModule)]++cut y2.2.2.2.2.1.mods y2.1.toNat (y2.2.2.2.2.1.mods.length-y2.1.toNat),y2.2.2.2.2.1.entries,y2.2.2.2.2.1.block,y2.2.2.2.2.1.inline,y2.2.2.2.2.1.deferred,y2.2.2.2.2.1.entered,y2.2.2.2.2.1.ran,y2.2.2.2.2.1.log,y2.2.2.2.2.1.loaded⟩,())) (.ob (0≤y2.1∧y2.1≤(↑y2.2.2.2.2.1.mods.length:Int))<|.ob (0+(y2.1.toNat-0)≤y2.2.2.2.2.1.mods.length)<|.ob (Room (0+(cut y2.2.2.2.2.1.mods 0 (y2.1.toNat-0)).length) 64)<|.ob (True)<|.ob (Room (([]++cut y2.2.2.2.2.1.mods 0 (y2.1.toNat-0)).length+[(⟨y2.2.2.1,false,(0:Int),(⟨#[]⟩:ByteArray)⟩:SModule)].length) 64)<|.ob (0≤y2.1∧y2.1≤(↑y2.2.2.2.2.1.mods.length:Int))<|.ob (y2.1.toNat+(y2.2.2.2.2.1.mods.length-y2.1.toNat)≤y2.2.2.2.2.1.mods.length)<|.ob (Room (([]++cut y2.2.2.2.2.1.mods 0 (y2.1.toNat-0)++[(⟨y2.2.2.1,false,(0:Int),(⟨#[]⟩:ByteArray)⟩:SModule)]).length+(cut y2.2.2.2.2.1.mods y2.1.toNat (y2.2.2.2.2.1.mods.length-y2.1.toNat)).length) 64)<|.lf fAskModule (⟨y2.2.2.2.2.1.addr,y2.2.2.2.2.1.policy,y2.2.2.2.2.1.tok,y2.2.2.2.2.1.queue,y2.2.2.2.2.1.ended,y2.2.2.2.2.1.builder,y2.2.2.2.2.1.slots,[]++cut y2.2.2.2.2.1.mods 0 (y2.1.toNat-0)++[(⟨y2.2.2.1,false,(0:Int),(⟨#[]⟩:ByteArray)⟩:SModule)]++cut y2.2.2.2.2.1.mods y2.1.toNat (y2.2.2.2.2.1.mods.length-y2.1.toNat),y2.2.2.2.2.1.entries,y2.2.2.2.2.1.block,y2.2.2.2.2.1.inline,y2.2.2.2.2.1.deferred,y2.2.2.2.2.1.entered,y2.2.2.2.2.1.ran,y2.2.2.2.2.1.log,y2.2.2.2.2.1.loaded⟩,()))))) (.br (decide (y2.1<(↑y2.2.1.mods.length:Int))) (.ob (inB y2.1 y2.2.1.mods.length)<|.br ((y2.2.1.mods.getD y2.1.toNat default).to.host==y2.2.2.1.host&&((y2.2.1.mods.getD y2.1.toNat default).to.path==y2.2.2.1.path&&true)) (.lf fAskModule (y2.2.2.2.2.1,())) (.cl fCheckRequest (y2.2.1.policy,(⟨(5:Int),y2.2.2.1,y2.2.1.addr.host,(⟨#[]⟩:ByteArray)⟩:SRequest),()) fun(z6:Int×PUnit)=>.br (z6.1 != 1) (.ob (0≤y2.1∧y2.1≤(↑y2.2.2.2.2.1.mods.length:Int))<|.ob (0+(y2.1.toNat-0)≤y2.2.2.2.2.1.mods.length)<|.ob (Room (0+(cut y2.2.2.2.2.1.mods 0 (y2.1.toNat-0)).length) 64)<|.ob (True)<|.ob (Room (([]++cut y2.2.2.2.2.1.mods 0 (y2.1.toNat-0)).length+[(⟨y2.2.2.1,true,(2:Int),(⟨#[]⟩:ByteArray)⟩:SModule)].length) 64)<|.ob (0≤y2.1∧y2.1≤(↑y2.2.2.2.2.1.mods.length:Int))<|.ob (y2.1.toNat+(y2.2.2.2.2.1.mods.length-y2.1.toNat)≤y2.2.2.2.2.1.mods.length)<|.ob (Room (([]++cut y2.2.2.2.2.1.mods 0 (y2.1.toNat-0)++[(⟨y2.2.2.1,true,(2:Int),(⟨#[]⟩:ByteArray)⟩:SModule)]).length+(cut y2.2.2.2.2.1.mods y2.1.toNat (y2.2.2.2.2.1.mods.length-y2.1.toNat)).length) 64)<|.lf fAskModule (⟨y2.2.2.2.2.1.addr,y2.2.2.2.2.1.policy,y2.2.2.2.2.1.tok,y2.2.2.2.2.1.queue,y2.2.2.2.2.1.ended,y2.2.2.2.2.1.builder,y2.2.2.2.2.1.slots,[]++cut y2.2.2.2.2.1.mods 0 (y2.1.toNat-0)++[(⟨y2.2.2.1,true,(2:Int),(⟨#[]⟩:ByteArray)⟩:SModule)]++cut y2.2.2.2.2.1.mods y2.1.toNat (y2.2.2.2.2.1.mods.length-y2.1.toNat),y2.2.2.2.2.1.entries,y2.2.2.2.2.1.block,y2.2.2.2.2.1.inline,y2.2.2.2.2.1.deferred,y2.2.2.2.2.1.entered,y2.2.2.2.2.1.ran,y2.2.2.2.2.1.log,y2.2.2.2.2.1.loaded⟩,())) (.ob (0≤y2.1∧y2.1≤(↑y2.2.2.2.2.1.mods.length:Int))<|.ob (0+(y2.1.toNat-0)≤y2.2.2.2.2.1.mods.length)<|.ob (Room (0+(cut y2.2.2.2.2.1.mods 0 (y2.1.toNat-0)).length) 64)<|.ob (True)<|.ob (Room (([]++cut y2.2.2.2.2.1.mods 0 (y2.1.toNat-0)).length+[(⟨y2.2.2.1,false,(0:Int),(⟨#[]⟩:ByteArray)⟩:SModule)].length) 64)<|.ob (0≤y2.1∧y2.1≤(↑y2.2.2.2.2.1.mods.length:Int))<|.ob (y2.1.toNat+(y2.2.2.2.2.1.mods.length-y2.1.toNat)≤y2.2.2.2.2.1.mods.length)<|.ob (Room (([]++cut y2.2.2.2.2.1.mods 0 (y2.1.toNat-0)++[(⟨y2.2.2.1,false,(0:Int),(⟨#[]⟩:ByteArray)⟩:SModule)]).length+(cut y2.2.2.2.2.1.mods y2.1.toNat (y2.2.2.2.2.1.mods.length-y2.1.toNat)).length) 64)<|.lf fAskModule (⟨y2.2.2.2.2.1.addr,y2.2.2.2.2.1.policy,y2.2.2.2.2.1.tok,y2.2.2.2.2.1.queue,y2.2.2.2.2.1.ended,y2.2.2.2.2.1.builder,y2.2.2.2.2.1.slots,[]++cut y2.2.2.2.2.1.mods 0 (y2.1.toNat-0)++[(⟨y2.2.2.1,false,(0:Int),(⟨#[]⟩:ByteArray)⟩:SModule)]++cut y2.2.2.2.2.1.mods y2.1.toNat (y2.2.2.2.2.1.mods.length-y2.1.toNat),y2.2.2.2.2.1.entries,y2.2.2.2.2.1.block,y2.2.2.2.2.1.inline,y2.2.2.2.2.1.deferred,y2.2.2.2.2.1.entered,y2.2.2.2.2.1.ran,y2.2.2.2.2.1.log,y2.2.2.2.2.1.loaded⟩,())))) (.cl fCheckRequest (y2.2.1.policy,(⟨(5:Int),y2.2.2.1,y2.2.1.addr.host,(⟨#[]⟩:ByteArray)⟩:SRequest),()) fun(z7:Int×PUnit)=>.br (z7.1 != 1) (.ob (0≤y2.1∧y2.1≤(↑y2.2.2.2.2.1.mods.length:Int))<|.ob (0+(y2.1.toNat-0)≤y2.2.2.2.2.1.mods.length)<|.ob (Room (0+(cut y2.2.2.2.2.1.mods 0 (y2.1.toNat-0)).length) 64)<|.ob (True)<|.ob (Room (([]++cut y2.2.2.2.2.1.mods 0 (y2.1.toNat-0)).length+[(⟨y2.2.2.1,true,(2:Int),(⟨#[]⟩:ByteArray)⟩:SModule)].length) 64)<|.ob (0≤y2.1∧y2.1≤(↑y2.2.2.2.2.1.mods.length:Int))<|.ob (y2.1.toNat+(y2.2.2.2.2.1.mods.length-y2.1.toNat)≤y2.2.2.2.2.1.mods.length)<|.ob (Room (([]++cut y2.2.2.2.2.1.mods 0 (y2.1.toNat-0)++[(⟨y2.2.2.1,true,(2:Int),(⟨#[]⟩:ByteArray)⟩:SModule)]).length+(cut y2.2.2.2.2.1.mods y2.1.toNat (y2.2.2.2.2.1.mods.length-y2.1.toNat)).length) 64)<|.lf fAskModule (⟨y2.2.2.2.2.1.addr,y2.2.2.2.2.1.policy,y2.2.2.2.2.1.tok,y2.2.2.2.2.1.queue,y2.2.2.2.2.1.ended,y2.2.2.2.2.1.builder,y2.2.2.2.2.1.slots,[]++cut y2.2.2.2.2.1.mods 0 (y2.1.toNat-0)++[(⟨y2.2.2.1,true,(2:Int),(⟨#[]⟩:ByteArray)⟩:SModule)]++cut y2.2.2.2.2.1.mods y2.1.toNat (y2.2.2.2.2.1.mods.length-y2.1.toNat),y2.2.2.2.2.1.entries,y2.2.2.2.2.1.block,y2.2.2.2.2.1.inline,y2.2.2.2.2.1.deferred,y2.2.2.2.2.1.entered,y2.2.2.2.2.1.ran,y2.2.2.2.2.1.log,y2.2.2.2.2.1.loaded⟩,())) (.ob (0≤y2.1∧y2.1≤(↑y2.2.2.2.2.1.mods.length:Int))<|.ob (0+(y2.1.toNat-0)≤y2.2.2.2.2.1.mods.length)<|.ob (Room (0+(cut y2.2.2.2.2.1.mods 0 (y2.1.toNat-0)).length) 64)<|.ob (True)<|.ob (Room (([]++cut y2.2.2.2.2.1.mods 0 (y2.1.toNat-0)).length+[(⟨y2.2.2.1,false,(0:Int),(⟨#[]⟩:ByteArray)⟩:SModule)].length) 64)<|.ob (0≤y2.1∧y2.1≤(↑y2.2.2.2.2.1.mods.length:Int))<|.ob (y2.1.toNat+(y2.2.2.2.2.1.mods.length-y2.1.toNat)≤y2.2.2.2.2.1.mods.length)<|.ob (Room (([]++cut y2.2.2.2.2.1.mods 0 (y2.1.toNat-0)++[(⟨y2.2.2.1,false,(0:Int),(⟨#[]⟩:ByteArray)⟩:SModule)]).length+(cut y2.2.2.2.2.1.mods y2.1.toNat (y2.2.2.2.2.1.mods.length-y2.1.toNat)).length) 64)<|.lf fAskModule (⟨y2.2.2.2.2.1.addr,y2.2.2.2.2.1.policy,y2.2.2.2.2.1.tok,y2.2.2.2.2.1.queue,y2.2.2.2.2.1.ended,y2.2.2.2.2.1.builder,y2.2.2.2.2.1.slots,[]++cut y2.2.2.2.2.1.mods 0 (y2.1.toNat-0)++[(⟨y2.2.2.1,false,(0:Int),(⟨#[]⟩:ByteArray)⟩:SModule)]++cut y2.2.2.2.2.1.mods y2.1.toNat (y2.2.2.2.2.1.mods.length-y2.1.toNat),y2.2.2.2.2.1.entries,y2.2.2.2.2.1.block,y2.2.2.2.2.1.inline,y2.2.2.2.2.1.deferred,y2.2.2.2.2.1.entered,y2.2.2.2.2.1.ran,y2.2.2.2.2.1.log,y2.2.2.2.2.1.loaded⟩,()))))) ?_
 refine cl_i ?_ fun o1=>(lpx_i ?_ fun(y2:Int×SPage×SAddr×SPage×SPage×PUnit) i2=>br_i (fun h3=>ob_i ?_ fun o4=>cl_i trivial fun _=>(br_i (fun h5=>ob_i ?_ fun o6=>trivial) (fun h5=>br_i (fun h7=>ob_i ?_ fun o8=>br_i (fun h9=>lfY ?_) (fun h9=>cl_i ?_ fun o10=>(br_i (fun h11=>ob_i ?_ fun o12=>ob_i ?_ fun o13=>ob_i ?_ fun o14=>ob_i trivial fun _=>ob_i ?_ fun o15=>ob_i ?_ fun o16=>ob_i ?_ fun o17=>ob_i ?_ fun o18=>lfY ?_) (fun h11=>ob_i ?_ fun o19=>ob_i ?_ fun o20=>ob_i ?_ fun o21=>ob_i trivial fun _=>ob_i ?_ fun o22=>ob_i ?_ fun o23=>ob_i ?_ fun o24=>ob_i ?_ fun o25=>lfY ?_)))) (fun h7=>cl_i ?_ fun o26=>(br_i (fun h27=>ob_i ?_ fun o28=>ob_i ?_ fun o29=>ob_i ?_ fun o30=>ob_i trivial fun _=>ob_i ?_ fun o31=>ob_i ?_ fun o32=>ob_i ?_ fun o33=>ob_i ?_ fun o34=>lfY ?_) (fun h27=>ob_i ?_ fun o35=>ob_i ?_ fun o36=>ob_i ?_ fun o37=>ob_i trivial fun _=>ob_i ?_ fun o38=>ob_i ?_ fun o39=>ob_i ?_ fun o40=>ob_i ?_ fun o41=>lfY ?_)))))) (fun h3=>br_i (fun h42=>ob_i ?_ fun o43=>br_i (fun h44=>lfY ?_) (fun h44=>cl_i ?_ fun o45=>(br_i (fun h46=>ob_i ?_ fun o47=>ob_i ?_ fun o48=>ob_i ?_ fun o49=>ob_i trivial fun _=>ob_i ?_ fun o50=>ob_i ?_ fun o51=>ob_i ?_ fun o52=>ob_i ?_ fun o53=>lfY ?_) (fun h46=>ob_i ?_ fun o54=>ob_i ?_ fun o55=>ob_i ?_ fun o56=>ob_i trivial fun _=>ob_i ?_ fun o57=>ob_i ?_ fun o58=>ob_i ?_ fun o59=>ob_i ?_ fun o60=>lfY ?_)))) (fun h42=>cl_i ?_ fun o61=>(br_i (fun h62=>ob_i ?_ fun o63=>ob_i ?_ fun o64=>ob_i ?_ fun o65=>ob_i trivial fun _=>ob_i ?_ fun o66=>ob_i ?_ fun o67=>ob_i ?_ fun o68=>ob_i ?_ fun o69=>lfY ?_) (fun h62=>ob_i ?_ fun o70=>ob_i ?_ fun o71=>ob_i ?_ fun o72=>ob_i trivial fun _=>ob_i ?_ fun o73=>ob_i ?_ fun o74=>ob_i ?_ fun o75=>ob_i ?_ fun o76=>lfY ?_)))))
 all_goals
  have hl:p.mods.length≤1090000000000:=by have h1:szPage p≤1090000000000:=hp.1;have:=szL_len szModule p.mods;simp only[szPage] at h1;omega
  have hpo:szPolicy p.policy≤1090000000000∧p.addr.host.size≤50000000000:=by have h1:szPage p≤1090000000000:=hp.1;have h2:p.addr.host.size≤4000000000:=hp.2.1;simp only[szPage,szAddr] at h1;omega
  try simp only[std0] at *
  try simp only[W_spec_AskModule_fAskModule_3,fAskModule,fCheckRequest,fCompareAddrs,fCopyPage,std,Nat.reduceAdd,szF,toF,eqF,mkF,heF,fCopyPage,fCompareAddrs,fCheckRequest] at *
 all_goals first|trivial|omega|exact⟨by omega,by omega,by simp⟩|skip
 all_goals try (obtain⟨⟨⟨⟨⟨a1,a2,a3⟩,e1⟩,e2⟩,e3⟩,e4⟩:=i2;simp only[e1,e2,e3,e4,beqAddr,decide_eq_true_eq,decide_eq_false_iff_not,Nat.sub_zero,List.nil_append] at *)
 all_goals first|trivial|omega|exact⟨by omega,by simp only[szRequest,szAddr] at *;show _+_+0≤_;omega⟩|skip
 all_goals first|(have hc:(cut p.mods 0 y2.1.toNat).length=y2.1.toNat:=by(simp only[cut,List.length_take,List.length_drop];omega))|skip
 all_goals try simp only[hc,Nat.zero_add,List.length_append,List.length_cons,List.length_nil] at *
 all_goals first|trivial|omega|(simp only[cut,List.length_take,List.length_drop];omega)|skip
 all_goals first|(have e:=askFrom_at (a:=a) (l:=p.mods) (i:=y2.1.toNat) (by omega);first|rw[if_pos (by omega)] at e|rw[if_neg (by omega)] at e)|(have e:=askFrom_end (a:=a) (l:=p.mods) (i:=y2.1.toNat) (by omega))
 all_goals first|(rw[wrapId (by omega),show(y2.1+1).toNat=y2.1.toNat+1 by omega];simp only[and_true];exact⟨⟨by omega,by omega,by omega⟩,by omega⟩)|skip
 all_goals have e5:askFrom a p.mods=y2.1.toNat:=by omega
 all_goals first|(rw[ask_found e5 (by omega) (by assumption)])|(rw[ask_new e5 (by omega) (by first|exact .inr (by assumption)|exact .inl (by omega)) _ (by first|exact newMod_ok (by assumption)|exact newMod_no (by assumption))]))
def E125:=E124.add 106 fAskModule
theorem E125ok:EOk Tryz.prog E125:=E124ok.add k106_124
def addEntry (p:SPage) (to:ByteArray):SPage :=
 if(parseAddr to p.addr.host).2=true∧p.entries.length<20 then{ askModule p (parseAddr to p.addr.host).1 with entries:=p.entries++[(parseAddr to p.addr.host).1]} else p
theorem ask_ent (p:SPage) (a:SAddr) (l:List SAddr):askModule { p with entries:=l } a={ askModule p a with entries:=l }:=by
 unfold askModule newMod
 split<;>rfl
theorem ask_entries (p:SPage) (a:SAddr):(askModule p a).entries=p.entries:=by unfold askModule;split<;>rfl
def fAddEntry:Fct:=⟨[.v (.el .page),.v (.el .str)],[.el .page],fun(x_:SPage×ByteArray×Unit)=>szPage x_.1≤1050000000000∧x_.1.addr.host.size≤4000000000∧x_.2.1.size≤4000000000,fun(x_:SPage×ByteArray×Unit)=>(addEntry x_.1 x_.2.1,())⟩
theorem k148_125:fAddEntry.ok Tryz.prog 148:=Fct.o [1,2,4,5,6,7,23,1000023] E125ok Tryz.func148 (by
 rintro⟨(p:SPage),(to:ByteArray),_⟩ hp
 refine ho (.cl fParseAddr (to,p.addr.host,()) fun z2=>.br (!z2.2.1) (.cl fCopyPage (p,()) fun z3=>.lf fAddEntry (z3.1,())) (.br (decide ((↑p.entries.length:Int)≥20)) (.cl fCopyPage (p,()) fun z4=>.lf fAddEntry (z4.1,())) (.cl fAskModule (p,z2.1,()) fun z5=>.ob (True)<|.ob (Room (z5.1.entries.length+[z2.1].length) 32)<|.lf fAddEntry (⟨z5.1.addr,z5.1.policy,z5.1.tok,z5.1.queue,z5.1.ended,z5.1.builder,z5.1.slots,z5.1.mods,z5.1.entries++[z2.1],z5.1.block,z5.1.inline,z5.1.deferred,z5.1.entered,z5.1.ran,z5.1.log,z5.1.loaded⟩,())))) ?_
 refine cl_i ?_ fun o1=>(br_i (fun h2=>cl_i ?_ fun o3=>(lfY ?_)) (fun h2=>br_i (fun h4=>cl_i ?_ fun o5=>(lfY ?_)) (fun h4=>cl_i ?_ fun o6=>(ob_i trivial fun _=>ob_i ?_ fun o7=>lfY ?_))))
 all_goals
  have hl:szL szAddr p.entries+1≤1050000000001:=by have h1:szPage p≤1050000000000:=hp.1;simp only[szPage] at h1;omega
  have hl2:=szL_len szAddr p.entries
  have hz:=parseAddr_sz to p.addr.host
  have hs:szPage { p with entries:=p.entries++[(parseAddr to p.addr.host).1]}≤szPage p+szAddr (parseAddr to p.addr.host).1+1:=by simp only[szPage,szL_app,szL_cons,show szL szAddr []=0 from rfl];omega
  have ha:szAddr (parseAddr to p.addr.host).1≤16000000000:=by simp only[szAddr];have q1:p.addr.host.size≤4000000000:=hp.2.1;have q2:to.size≤4000000000:=hp.2.2;omega
  try simp only[std0] at *
  try simp only[fAddEntry,fAskModule,fCopyPage,fParseAddr,std,Nat.reduceAdd,szF,toF,eqF,mkF,heF,fCopyPage,fParseAddr,fAskModule,ask_ent,ask_entries] at *
 all_goals first|trivial|omega|skip
 all_goals unfold addEntry
 all_goals first|rw[if_pos ⟨by assumption,by omega⟩]|rw[if_neg (by rintro⟨q1,q2⟩;first|omega|(rw[show(parseAddr to p.addr.host).2=false by assumption] at q1;cases q1))])
def E126:=E125.add 148 fAddEntry
theorem E126ok:EOk Tryz.prog E126:=E125ok.add k148_125
def element (p:SPage) (t:SToken) (n:Int):SPage :=
 if t.name=⟨#[108,105,110,107]⟩∧(findAttr t.attrs ⟨#[104,114,101,102]⟩).isSome=true then(addSlot p 2 ((findAttr t.attrs ⟨#[104,114,101,102]⟩).getD ⟨#[]⟩) ((findAttr t.attrs ⟨#[100,105,103,101,115,116]⟩).getD ⟨#[]⟩) n).1
 else if t.name=⟨#[105,109,103]⟩∧(findAttr t.attrs ⟨#[115,114,99]⟩).isSome=true then(addSlot p 1 ((findAttr t.attrs ⟨#[115,114,99]⟩).getD ⟨#[]⟩) ((findAttr t.attrs ⟨#[100,105,103,101,115,116]⟩).getD ⟨#[]⟩) n).1
 else p
def fElement:GS:=⟨[.g (.el .page),.i 8 (.el .token),.l (.v (.el .int))],[.el .page],fun(x_:SPage×SToken×Int×Unit)=>szPage x_.1≤1050000000000∧x_.1.addr.host.size≤4000000000∧szToken x_.2.1≤4000000000,fun(x_:SPage×SToken×Int×Unit)=>((element x_.1 x_.2.1 x_.2.2.1,()),(()))⟩
theorem k125_126:fElement.ok Tryz.prog 125:=GS.of (S:=fElement) (L:=fun _ _=>none) (kp:=[2,3,4,6,7,9,10,11,12,30,50,1000030,1000050]) E126ok Tryz.func125 (by kernel_rfl) (by kernel_rfl) (by
 rintro⟨(p:SPage),(t:SToken),(n:Int),_⟩ hp
 refine ho (.cl fFindAttr (t.attrs,(⟨#[100,105,103,101,115,116]⟩:ByteArray),()) fun z2=>.cl fFindAttr (t.attrs,(⟨#[104,114,101,102]⟩:ByteArray),()) fun z3=>.br (z3.2.1) (.br (t.name.toList==(⟨#[108,105,110,107]⟩:ByteArray).toList) (.cl fAddSlot (p,(2:Int),z3.1,z2.1,n,()) fun(z4:SPage×Int×PUnit)=>.cl fFindAttr (t.attrs,(⟨#[115,114,99]⟩:ByteArray),()) fun z5=>.br (z5.2.1) (.br (t.name.toList==(⟨#[105,109,103]⟩:ByteArray).toList) (.cl fAddSlot (z4.1,(1:Int),z5.1,z2.1,n,()) fun(z6:SPage×Int×PUnit)=>GS.out fElement ((z6.1,()),(()))) (GS.out fElement ((z4.1,()),(())))) (GS.out fElement ((z4.1,()),(())))) (.cl fFindAttr (t.attrs,(⟨#[115,114,99]⟩:ByteArray),()) fun z7=>.br (z7.2.1) (.br (t.name.toList==(⟨#[105,109,103]⟩:ByteArray).toList) (.cl fAddSlot (p,(1:Int),z7.1,z2.1,n,()) fun(z8:SPage×Int×PUnit)=>GS.out fElement ((z8.1,()),(()))) (GS.out fElement ((p,()),(())))) (GS.out fElement ((p,()),(()))))) (.cl fFindAttr (t.attrs,(⟨#[115,114,99]⟩:ByteArray),()) fun z9=>.br (z9.2.1) (.br (t.name.toList==(⟨#[105,109,103]⟩:ByteArray).toList) (.cl fAddSlot (p,(1:Int),z9.1,z2.1,n,()) fun(z10:SPage×Int×PUnit)=>GS.out fElement ((z10.1,()),(()))) (GS.out fElement ((p,()),(())))) (GS.out fElement ((p,()),(()))))) ?_
 refine cl_i ?_ fun o1=>(cl_i ?_ fun o2=>(br_i (fun h3=>br_i (fun h4=>cl_i ?_ fun o5=>(cl_i ?_ fun o6=>(br_i (fun h7=>br_i (fun h8=>cl_i ?_ fun o9=>(GS.leafY ?_)) (fun h8=>GS.leafY ?_)) (fun h7=>GS.leafY ?_)))) (fun h4=>cl_i ?_ fun o10=>(br_i (fun h11=>br_i (fun h12=>cl_i ?_ fun o13=>(GS.leafY ?_)) (fun h12=>GS.leafY ?_)) (fun h11=>GS.leafY ?_)))) (fun h3=>cl_i ?_ fun o14=>(br_i (fun h15=>br_i (fun h16=>cl_i ?_ fun o17=>(GS.leafY ?_)) (fun h16=>GS.leafY ?_)) (fun h15=>GS.leafY ?_)))))
 all_goals
  have h1:=findAttr_sz t.attrs ⟨#[104,114,101,102]⟩
  have h2:=findAttr_sz t.attrs ⟨#[115,114,99]⟩
  have h3:=findAttr_sz t.attrs ⟨#[100,105,103,101,115,116]⟩
  have h4:szL szAttr t.attrs≤4000000000∧t.attrs.length≤4000000000:=by have q:=hp.2.2;have:=szL_len szAttr t.attrs;simp only[szToken] at q;omega
  try simp only[std0] at *
  try simp only[fAddSlot,fElement,fFindAttr,std,Nat.reduceAdd,szF,toF,eqF,mkF,heF,element,fFindAttr,fAddSlot] at *
  try simp(disch:=omega) only[wrapId',toNat1] at *
  try simp(disch:=omega) only[if_pos,if_neg]
 all_goals first|trivial|omega|grind[wrapId',toNat1,drop_cons,drop_end,good_len,maxLen,element,fFindAttr,fAddSlot])
def E127:=E126.addG 125 fElement
theorem E127ok:EOk Tryz.prog E127:=E126ok.addG k125_126
def script (p:SPage) (n:Int):SPage :=
 if(findAttr (p.builder.nodes.getD n.toNat default).attrs ⟨#[115,114,99]⟩).isSome=false then(if allowsInline p.policy ((findAttr (p.builder.nodes.getD n.toNat default).attrs ⟨#[110,111,110,99,101]⟩).getD ⟨#[]⟩)=true then{ p with inline:=n } else p)
 else if(findAttr (p.builder.nodes.getD n.toNat default).attrs ⟨#[107,105,110,100]⟩).getD ⟨#[]⟩=⟨#[100,101,102,101,114]⟩ then(addSlot p 4 ((findAttr (p.builder.nodes.getD n.toNat default).attrs ⟨#[115,114,99]⟩).getD ⟨#[]⟩) ((findAttr (p.builder.nodes.getD n.toNat default).attrs ⟨#[100,105,103,101,115,116]⟩).getD ⟨#[]⟩) n).1
 else if(findAttr (p.builder.nodes.getD n.toNat default).attrs ⟨#[107,105,110,100]⟩).getD ⟨#[]⟩=⟨#[109,111,100,117,108,101]⟩ then addEntry p ((findAttr (p.builder.nodes.getD n.toNat default).attrs ⟨#[115,114,99]⟩).getD ⟨#[]⟩)
 else{ (addSlot p 3 ((findAttr (p.builder.nodes.getD n.toNat default).attrs ⟨#[115,114,99]⟩).getD ⟨#[]⟩) ((findAttr (p.builder.nodes.getD n.toNat default).attrs ⟨#[100,105,103,101,115,116]⟩).getD ⟨#[]⟩) n).1 with block:=(addSlot p 3 ((findAttr (p.builder.nodes.getD n.toNat default).attrs ⟨#[115,114,99]⟩).getD ⟨#[]⟩) ((findAttr (p.builder.nodes.getD n.toNat default).attrs ⟨#[100,105,103,101,115,116]⟩).getD ⟨#[]⟩) n).2+1 }
theorem pageParts (p:SPage):szL szToken p.queue+szBuilder p.builder+szL szSlot p.slots+szL szModule p.mods+szL szAddr p.entries+szL szAddr p.ran+szL szString p.log+szPolicy p.policy+szAddr p.addr≤szPage p:=by simp only[szPage];omega
theorem addSlot_in (p:SPage) (m:Int) (to d:ByteArray) (n:Int) : -1≤(addSlot p m to d n).2∧(addSlot p m to d n).2≤20:=by
 unfold addSlot
 split
 ·dsimp only;omega
 ·dsimp only;omega
theorem node_attrs (l:List SNode) (n:Nat) (h:n<l.length):szL szAttr (l.getD n default).attrs≤szL szNode l:=by
 have:=szL_get szNode (l:=l) h
 simp only[szNode] at *;omega
def fScript:GS:=⟨[.g (.el .page),.l (.v (.el .int))],[.el .page],fun(x_:SPage×Int×Unit)=>szPage x_.1≤1050000000000∧x_.1.addr.host.size≤4000000000∧szL szNode x_.1.builder.nodes≤4000000000∧0≤x_.2.1∧x_.2.1<x_.1.builder.nodes.length,fun(x_:SPage×Int×Unit)=>((script x_.1 x_.2.1,()),(()))⟩
end Go.Proofs.YtembimgkibocmaaGreat.fnHistories
