/-
  Contracts of functions that the law of FnHistories reaches, part 1.
-/
import Derived.Test.YtembimgkibocmaaGreatVLd
import Derived.WalkKit
import Derived.BigGuard
import Derived.Deep.QuietTactic
import Derived.BigQuiet
import Derived.Lib.ConvBytes
import Derived.Sort.WalkC
import Derived.Test.YtembimgkibocmaaGreatRows
import Derived.WalkKit
import Derived.ProofKit
import Derived.OpenShut
namespace Go.Proofs.YtembimgkibocmaaGreat.fnHistories
open Go.Proofs.YtembimgkibocmaaGreat
open Go.D
set_option maxRecDepth 100000
set_option maxHeartbeats 2000000
set_option linter.unusedVariables false
set_option linter.unusedSimpArgs false
def tyOf:TypeId→Option Ty
 | 3=>some .int
 | 4=>some .bool
 | 5=>some .u8
 | 9=>some .str
 | 26=>some .tab
 | 28=>some .addr
 | 31=>some .policy
 | 33=>some .tokenizer
 | 38=>some .builder
 | 43=>some .page
 | 65=>some .visit
 | 73=>some .token
 | 78=>some .slot
 | 81=>some .module
 | 99=>some .attr
 | 102=>some .node
 | 112=>some .request
 | 115=>some .response
 | 133=>some .server
 | 135=>some .file
 | 195=>some .line
 | 202=>some .sheet
 | 222=>some .rule
 | _=>none
def E0:D.Env:=D.Env.empty tyOf
theorem E0ok:EOk Tryz.prog E0:=EOk.empty _ _
def inRange (n lo hi:Int):Bool:=decide (lo≤n)&&decide (n≤hi)
def fInRange:Fct:=⟨[aI,aI,aI],[rB],fun _=>True,fun(x:Int×Int×Int×Unit)=>(inRange x.1 x.2.1 x.2.2.1,())⟩
theorem k37_0:fInRange.ok Tryz.prog 37:=Fct.o [0,1,2,6] E0ok Tryz.func37 (by
 rintro⟨(n:Int),(lo:Int),(hi:Int),_⟩ hp
 refine ho (.br (decide (n≥lo)) (.lf fInRange (decide (n≤hi),())) (.lf fInRange (false,()))) ?_
 refine br_i (fun h1=>lfY ?_) (fun h1=>lfY ?_)
 all_goals
  try simp only[std0] at *
  try simp only[fInRange,std,Nat.reduceAdd,szF,toF,eqF,mkF,heF,inRange] at *
 all_goals first|trivial|(simp_all;done)|(simp_all;omega)|grind)
def E1:=E0.add 37 fInRange
theorem E1ok:EOk Tryz.prog E1:=E0ok.add k37_0
def fMax:Fct:=⟨[aI,aI],[rI],fun _=>True,fun(x:Int×Int×Unit)=>(max x.1 x.2.1,())⟩
theorem k24_1:fMax.ok Tryz.prog 24:=Fct.o [0,1,4,7,1000007] E1ok Tryz.func24 (by
 rintro⟨(a:Int),(b:Int),_⟩ hp
 refine ho (.br (decide (b>a)) (.lf fMax (b,())) (.lf fMax (a,()))) ?_
 refine br_i (fun h1=>lfY ?_) (fun h1=>lfY ?_)
 all_goals
  try simp only[std0] at *
  try simp only[fMax,std,Nat.reduceAdd,szF,toF,eqF,mkF,heF] at *
 all_goals first|trivial|omega|(simp_all;done)|(simp_all;omega)|grind)
def E2:=E1.add 24 fMax
theorem E2ok:EOk Tryz.prog E2:=E1ok.add k24_1
def fHasAddr:Fct:=⟨[.v (.sl .addr),.v (.el .addr)],[.el .bool],fun(x_:(List SAddr)×SAddr×Unit)=>x_.1.length≤1000000000000000000,fun(x_:(List SAddr)×SAddr×Unit)=>(x_.1.any fun c=>decide (c=x_.2.1),())⟩
abbrev W_spec_HasAddr_fHasAddr_2 (l:(List SAddr)) (a:SAddr):LInv:=⟨[⟨.s,5,true,.el .int⟩,⟨.b,3,true,.el .addr⟩],fun(z_:Int×SAddr×Unit) (x_:Int×SAddr×Unit)=>(0≤x_.1∧x_.1≤l.length∧l.any (fun c=>decide (c=a))=(l.drop x_.1.toNat).any (fun c=>decide (c=a)))∧x_.2.1=z_.2.1,fun(x_:Int×SAddr×Unit)=>l.length-x_.1.toNat⟩
theorem k130_2:fHasAddr.ok Tryz.prog 130:=Fct.of (S:=fHasAddr) (L:=fun⟨l,a,_⟩=>fun|2=>some (W_spec_HasAddr_fHasAddr_2 l a)|_=>none) (kp:=[0,3,4,5,9,17,1000009,1000017]) E2ok Tryz.func130 (by kernel_rfl) (by kernel_rfl) (by
 rintro⟨(l:List SAddr),(a:SAddr),_⟩ hp
 refine ho (lpx (W_spec_HasAddr_fHasAddr_2 l a) ((0:Int),(a,())) fun(y1:Int×SAddr×PUnit) bk1=>.br (decide (y1.1<(↑l.length:Int))) (.ob (inB y1.1 l.length)<|.br ((l.getD y1.1.toNat default).host==y1.2.1.host&&((l.getD y1.1.toNat default).path==y1.2.1.path&&true)) (.lf fHasAddr (true,())) (.ob (l=l)<|.ob (bk1 (w1 y1.1,(y1.2.1,())))<|.ok)) (.lf fHasAddr (false,()))) ?_
 refine lpx_i ?_ fun(y1:Int×SAddr×PUnit) i1=>br_i (fun h2=>ob_i ?_ fun o3=>br_i (fun h4=>lfY ?_) (fun h4=>ob_i rfl fun _=>ob_i ?_ fun o5=>trivial)) (fun h2=>lfY ?_)
 all_goals
  try simp only[beqAddr] at *
  try simp only[std0] at *
  try simp only[W_spec_HasAddr_fHasAddr_2,fHasAddr,std,Nat.reduceAdd,szF,toF,eqF,mkF,heF] at *
  try simp(disch:=omega) only[wrapId',toNat1] at *
  try simp(disch:=omega) only[if_pos,if_neg]
 all_goals first|trivial|omega|grind[wrapId',toNat1,drop_cons,drop_end,good_len,maxLen])
def E3:=E2.add 130 fHasAddr
theorem E3ok:EOk Tryz.prog E3:=E2ok.add k130_2
def fContains_str:Fct:=⟨[.v (.sl .str),.v (.el .str)],[.el .bool],fun(x_:(List ByteArray)×ByteArray×Unit)=>x_.1.length≤1000000000000000000,fun(x_:(List ByteArray)×ByteArray×Unit)=>(x_.1.any fun c=>decide (c=x_.2.1),())⟩
def fHas9:Fct:=⟨[.v (.sl .str),.v (.el .str)],[.el .bool],fun(x_:(List ByteArray)×ByteArray×Unit)=>x_.1.length≤1000000000000000000,fun(x_:(List ByteArray)×ByteArray×Unit)=>(x_.1.any fun c=>decide (c=x_.2.1),())⟩
abbrev W_spec_l9Has_fHas9_2 (l:(List ByteArray)) (s:ByteArray):LInv:=⟨[⟨.s,5,true,.el .int⟩],fun _ (x_:Int×Unit)=>0≤x_.1∧x_.1≤l.length∧l.any (fun c=>decide (c=s))=(l.drop x_.1.toNat).any (fun c=>decide (c=s)),fun(x_:Int×Unit)=>l.length-x_.1.toNat⟩
theorem k160_3:fHas9.ok Tryz.prog 160:=Fct.of (S:=fHas9) (L:=fun⟨l,s,_⟩=>fun|2=>some (W_spec_l9Has_fHas9_2 l s)|_=>none) (kp:=[0,1,4,5,9,17,1000009,1000017]) E3ok Tryz.func160 (by kernel_rfl) (by kernel_rfl) (by
 rintro⟨(l:List ByteArray),(s:ByteArray),_⟩ hp
 refine ho (lpx (W_spec_l9Has_fHas9_2 l s) ((0:Int),()) fun(y1:Int×PUnit) bk1=>.br (decide (y1.1<(↑l.length:Int))) (.ob (inB y1.1 l.length)<|.br ((l.getD y1.1.toNat default).toList==s.toList) (.lf fHas9 (true,())) (.ob (l=l)<|.ob (Value.string s=Value.string s)<|.ob (bk1 (w1 y1.1,()))<|.ok)) (.lf fHas9 (false,()))) ?_
 refine lpx_i ?_ fun(y1:Int×PUnit) i1=>br_i (fun h2=>ob_i ?_ fun o3=>br_i (fun h4=>lfY ?_) (fun h4=>ob_i rfl fun _=>ob_i rfl fun _=>ob_i ?_ fun o5=>trivial)) (fun h2=>lfY ?_)
 all_goals
  try simp only[std0] at *
  try simp only[W_spec_l9Has_fHas9_2,fHas9,std,Nat.reduceAdd,szF,toF,eqF,mkF,heF] at *
  try simp(disch:=omega) only[wrapId',toNat1] at *
  try simp(disch:=omega) only[if_pos,if_neg]
 all_goals first|trivial|omega|grind[wrapId',toNat1,drop_cons,drop_end,good_len,maxLen])
def E4:=E3.add 160 fHas9
theorem E4ok:EOk Tryz.prog E4:=E3ok.add k160_3
def fNewTab:Fct:=⟨[],[rE .tab],fun _=>True,fun _=>(⟨[],-1⟩,())⟩
theorem k53_4:fNewTab.ok Tryz.prog 53:=Fct.o [0] E4ok Tryz.func53 (by
 rintro⟨_⟩ hp
 refine ho (.leaf (.one true [.nl,vi ((-1:Int))]) [] []) ?_
 refine Fct.leafZ (⟨[],(-1:Int)⟩,()) (by repeat' first|exact rfl|exact trivial|refine And.intro ?_ ?_) ?_
 all_goals
  try simp only[std0] at *
  try simp only[fNewTab,std,Nat.reduceAdd,szF,toF,eqF,mkF,heF] at *
 all_goals first|trivial|omega|(simp_all;done)|(simp_all;omega)|grind)
def E5:=E4.add 53 fNewTab
theorem E5ok:EOk Tryz.prog E5:=E4ok.add k53_4
def presentAddr (t:STab):SAddr×Bool:=if 0≤t.at_∧t.at_<t.visits.length then((t.visits.getD t.at_.toNat default).addr,true) else(default,false)
def fPresentAddr:Fct:=⟨[.v (.el .tab)],[.el .addr,.el .bool],fun(x_:STab×Unit)=>x_.1.visits.length≤1048576,fun(x_:STab×Unit)=>((presentAddr x_.1).1,(presentAddr x_.1).2,())⟩
def fHasPresent:Fct:=⟨[.v (.el .tab)],[.el .bool],fun(x_:STab×Unit)=>True,fun(x_:STab×Unit)=>(decide (0≤x_.1.at_∧x_.1.at_<x_.1.visits.length),())⟩
theorem k27_5:fHasPresent.ok Tryz.prog 27:=Fct.o [1,2] E5ok Tryz.func27 (by
 rintro⟨(t:STab),_⟩ hp
 refine ho (.br (decide (t.at_≥0)) (.lf fHasPresent (decide (t.at_<(↑t.visits.length:Int)),())) (.lf fHasPresent (false,()))) ?_
 refine br_i (fun h1=>lfY ?_) (fun h1=>lfY ?_)
 all_goals
  try simp only[std0] at *
  try simp only[fHasPresent,std,Nat.reduceAdd,szF,toF,eqF,mkF,heF] at *
  try simp(disch:=omega) only[wrapId',toNat1] at *
  try simp(disch:=omega) only[if_pos,if_neg]
 all_goals first|trivial|omega|grind[wrapId',toNat1,drop_cons,drop_end,good_len,maxLen])
def E6:=E5.add 27 fHasPresent
theorem E6ok:EOk Tryz.prog E6:=E5ok.add k27_5
theorem k10_6:fPresentAddr.ok Tryz.prog 10:=Fct.o [1,2,3,6,1000006] E6ok Tryz.func10 (by
 rintro⟨(t:STab),_⟩ hp
 refine ho (.cl fHasPresent (t,()) fun z2=>.br (!z2.1) (.lf fPresentAddr (default,false,())) (.ob (inB t.at_ t.visits.length)<|.lf fPresentAddr ((t.visits.getD t.at_.toNat default).addr,true,()))) ?_
 refine cl_i trivial fun _=>(br_i (fun h1=>lfY ?_) (fun h1=>ob_i ?_ fun o2=>lfY ?_))
 all_goals
  try simp only[std0] at *
  try simp only[fHasPresent,fPresentAddr,std,Nat.reduceAdd,szF,toF,eqF,mkF,heF,presentAddr,fInRange,inRange,fHasPresent] at *
  try simp(disch:=omega) only[wrapId',toNat1] at *
  try simp(disch:=omega) only[if_pos,if_neg]
 all_goals first|trivial|omega|grind[wrapId',toNat1,drop_cons,drop_end,good_len,maxLen,presentAddr,fInRange,inRange,fHasPresent])
def E7:=E6.add 10 fPresentAddr
theorem E7ok:EOk Tryz.prog E7:=E6ok.add k10_6
def visitOk (v:SVisit):Bool:=!v.kept||decide (v.addr=v.page.addr)
def isTab (t:STab):Bool:=t.visits.all visitOk&&decide (t.visits.length≤6∧((t.visits.length=0∧t.at_ = -1)∨(0≤t.at_∧t.at_<t.visits.length)))
def fIsTab:Fct:=⟨[.v (.el .tab)],[.el .bool],fun(x_:STab×Unit)=>x_.1.visits.length≤1048576,fun(x_:STab×Unit)=>(isTab x_.1,())⟩
abbrev W_impl_IsTab_fIsTab_2 (t:STab):LInv:=⟨[⟨.s,8,true,.el .int⟩,⟨.b,1,false,.el .tab⟩],fun(z_:Int×STab×Unit) (x_:Int×STab×Unit)=>(0≤x_.1∧x_.1≤t.visits.length∧(t.visits.drop x_.1.toNat).all visitOk=t.visits.all visitOk)∧x_.2.1=z_.2.1,fun(x_:Int×STab×Unit)=>t.visits.length-x_.1.toNat⟩
theorem k12_7:fIsTab.ok Tryz.prog 12:=Fct.of (S:=fIsTab) (L:=fun⟨t,_⟩=>fun|2=>some (W_impl_IsTab_fIsTab_2 t)|_=>none) (kp:=[1,2,4,6,7,8,9,21,1000009,1000021]) E7ok Tryz.func12 (by kernel_rfl) (by kernel_rfl) (by
 rintro⟨(t:STab),_⟩ hp
 refine ho (lpx (W_impl_IsTab_fIsTab_2 t) ((0:Int),(t,())) fun(y1:Int×STab×PUnit) bk1=>.br (decide (y1.1<(↑t.visits.length:Int))) (.ob (inB y1.1 t.visits.length)<|.br ((t.visits.getD y1.1.toNat default).kept) (.br (!((t.visits.getD y1.1.toNat default).page.addr.host==(t.visits.getD y1.1.toNat default).addr.host&&((t.visits.getD y1.1.toNat default).page.addr.path==(t.visits.getD y1.1.toNat default).addr.path&&true))) (.lf fIsTab (false,())) (.ob (t.visits=t.visits)<|.ob (Value.int IntKind.i64 (↑t.visits.length:Int)=Value.int IntKind.i64 (↑t.visits.length:Int))<|.ob (bk1 (w1 y1.1,(y1.2.1,())))<|.ok)) (.ob (t.visits=t.visits)<|.ob (Value.int IntKind.i64 (↑t.visits.length:Int)=Value.int IntKind.i64 (↑t.visits.length:Int))<|.ob (bk1 (w1 y1.1,(y1.2.1,())))<|.ok)) (.br (decide ((↑y1.2.1.visits.length:Int)≤6)) (.cl fHasPresent (y1.2.1,()) fun z2=>.br (z2.1) (.lf fIsTab (true,())) (.br ((↑y1.2.1.visits.length:Int)==0) (.lf fIsTab (y1.2.1.at_==(-1:Int),())) (.lf fIsTab (false,())))) (.lf fIsTab (false,())))) ?_
 refine lpx_i ?_ fun(y1:Int×STab×PUnit) i1=>br_i (fun h2=>ob_i ?_ fun o3=>br_i (fun h4=>br_i (fun h5=>lfY ?_) (fun h5=>ob_i rfl fun _=>ob_i rfl fun _=>ob_i ?_ fun o6=>trivial)) (fun h4=>ob_i rfl fun _=>ob_i rfl fun _=>ob_i ?_ fun o7=>trivial)) (fun h2=>br_i (fun h8=>cl_i trivial fun _=>(br_i (fun h9=>lfY ?_) (fun h9=>br_i (fun h10=>lfY ?_) (fun h10=>lfY ?_)))) (fun h8=>lfY ?_))
 all_goals
  try simp only[beqAddr] at *
  try simp only[std0] at *
  try simp only[W_impl_IsTab_fIsTab_2,fHasPresent,fIsTab,std,Nat.reduceAdd,szF,toF,eqF,mkF,heF,isTab,visitOk,fInRange,inRange,fHasPresent] at *
  try simp(disch:=omega) only[wrapId',toNat1] at *
  try simp(disch:=omega) only[if_pos,if_neg]
 all_goals first|trivial|omega|grind[wrapId',toNat1,drop_cons,drop_end,good_len,maxLen,isTab,visitOk,fInRange,inRange,fHasPresent])
def E8:=E7.add 12 fIsTab
theorem E8ok:EOk Tryz.prog E8:=E7ok.add k12_7
def fEqual_int:Fct:=⟨[.v (.sl .int),.v (.sl .int)],[.el .bool],fun(x_:(List Int)×(List Int)×Unit)=>x_.1.length≤1000000000000000000,fun(x_:(List Int)×(List Int)×Unit)=>(decide (x_.1=x_.2.1),())⟩
abbrev W_slices_Equal_int_int_fEqual_int_4 (l:(List Int)) (m:(List Int)):LInv:=⟨[⟨.s,13,true,.el .int⟩],fun _ (x_:Int×Unit)=>0≤x_.1∧x_.1≤l.length∧l.length=m.length∧decide (l.drop x_.1.toNat=m.drop x_.1.toNat)=decide (l=m),fun(x_:Int×Unit)=>l.length-x_.1.toNat⟩
theorem k52_8:fEqual_int.ok Tryz.prog 52:=Fct.of (S:=fEqual_int) (L:=fun⟨l,m,_⟩=>fun|4=>some (W_slices_Equal_int_int_fEqual_int_4 l m)|_=>none) (kp:=[0,1,4,5,10,12,13,14,24,1000010,1000014,1000024]) E8ok Tryz.func52 (by kernel_rfl) (by kernel_rfl) (by
 rintro⟨(l:List Int),(m:List Int),_⟩ hp
 refine ho (.br ((↑l.length:Int) != (↑m.length:Int)) (.lf fEqual_int (false,())) (lpx (W_slices_Equal_int_int_fEqual_int_4 l m) ((0:Int),()) fun(y2:Int×PUnit) bk2=>.br (decide (y2.1<(↑l.length:Int))) (.ob (inB y2.1 l.length)<|.ob (inB y2.1 m.length)<|.br (l.getD y2.1.toNat default != m.getD y2.1.toNat default) (.lf fEqual_int (false,())) (.ob (l=l)<|.ob (m=m)<|.ob (Value.int IntKind.i64 (↑l.length:Int)=Value.int IntKind.i64 (↑l.length:Int))<|.ob (bk2 (w1 y2.1,()))<|.ok)) (.lf fEqual_int (true,())))) ?_
 refine br_i (fun h1=>lfY ?_) (fun h1=>lpx_i ?_ fun(y2:Int×PUnit) i2=>br_i (fun h3=>ob_i ?_ fun o4=>ob_i ?_ fun o5=>br_i (fun h6=>lfY ?_) (fun h6=>ob_i rfl fun _=>ob_i rfl fun _=>ob_i rfl fun _=>ob_i ?_ fun o7=>trivial)) (fun h3=>lfY ?_))
 all_goals
  try simp only[beq_iff_eq] at *
  try simp only[std0] at *
  try simp only[W_slices_Equal_int_int_fEqual_int_4,fEqual_int,std,Nat.reduceAdd,szF,toF,eqF,mkF,heF] at *
  try simp(disch:=omega) only[wrapId',toNat1] at *
  try simp(disch:=omega) only[if_pos,if_neg]
 all_goals first|trivial|omega|grind[wrapId',toNat1,drop_cons,drop_end,good_len,maxLen])
def E9:=E8.add 52 fEqual_int
theorem E9ok:EOk Tryz.prog E9:=E8ok.add k52_8
def fEqual_str:Fct:=⟨[.v (.sl .str),.v (.sl .str)],[.el .bool],fun(x_:(List ByteArray)×(List ByteArray)×Unit)=>x_.1.length≤1000000000000000000,fun(x_:(List ByteArray)×(List ByteArray)×Unit)=>(decide (x_.1=x_.2.1),())⟩
abbrev W_slices_Equal_string_string_fEqual_str_4 (l:(List ByteArray)) (m:(List ByteArray)):LInv:=⟨[⟨.s,13,true,.el .int⟩],fun _ (x_:Int×Unit)=>0≤x_.1∧x_.1≤l.length∧l.length=m.length∧decide (l.drop x_.1.toNat=m.drop x_.1.toNat)=decide (l=m),fun(x_:Int×Unit)=>l.length-x_.1.toNat⟩
theorem k35_9:fEqual_str.ok Tryz.prog 35:=Fct.of (S:=fEqual_str) (L:=fun⟨l,m,_⟩=>fun|4=>some (W_slices_Equal_string_string_fEqual_str_4 l m)|_=>none) (kp:=[0,1,4,5,10,12,13,14,24,1000010,1000014,1000024]) E9ok Tryz.func35 (by kernel_rfl) (by kernel_rfl) (by
 rintro⟨(l:List ByteArray),(m:List ByteArray),_⟩ hp
 refine ho (.br ((↑l.length:Int) != (↑m.length:Int)) (.lf fEqual_str (false,())) (lpx (W_slices_Equal_string_string_fEqual_str_4 l m) ((0:Int),()) fun(y2:Int×PUnit) bk2=>.br (decide (y2.1<(↑l.length:Int))) (.ob (inB y2.1 l.length)<|.ob (inB y2.1 m.length)<|.br (!(l.getD y2.1.toNat default).toList==(m.getD y2.1.toNat default).toList) (.lf fEqual_str (false,())) (.ob (l=l)<|.ob (m=m)<|.ob (Value.int IntKind.i64 (↑l.length:Int)=Value.int IntKind.i64 (↑l.length:Int))<|.ob (bk2 (w1 y2.1,()))<|.ok)) (.lf fEqual_str (true,())))) ?_
 refine br_i (fun h1=>lfY ?_) (fun h1=>lpx_i ?_ fun(y2:Int×PUnit) i2=>br_i (fun h3=>ob_i ?_ fun o4=>ob_i ?_ fun o5=>br_i (fun h6=>lfY ?_) (fun h6=>ob_i rfl fun _=>ob_i rfl fun _=>ob_i rfl fun _=>ob_i ?_ fun o7=>trivial)) (fun h3=>lfY ?_))
 all_goals
  try simp only[baBeq,baEq] at *
  try simp only[std0] at *
  try simp only[W_slices_Equal_string_string_fEqual_str_4,fEqual_str,std,Nat.reduceAdd,szF,toF,eqF,mkF,heF] at *
  try simp(disch:=omega) only[wrapId',toNat1] at *
  try simp(disch:=omega) only[if_pos,if_neg]
 all_goals first|trivial|omega|grind[wrapId',toNat1,drop_cons,drop_end,good_len,maxLen])
def E10:=E9.add 35 fEqual_str
theorem E10ok:EOk Tryz.prog E10:=E9ok.add k35_9
def fEqual_attr:Fct:=⟨[.v (.sl .attr),.v (.sl .attr)],[.el .bool],fun(x_:(List SAttr)×(List SAttr)×Unit)=>x_.1.length≤1000000000000000000,fun(x_:(List SAttr)×(List SAttr)×Unit)=>(decide (x_.1=x_.2.1),())⟩
abbrev W_slices_Equal_impl_Attr_impl_Attr_fEqual_attr_4 (l:(List SAttr)) (m:(List SAttr)):LInv:=⟨[⟨.s,13,true,.el .int⟩],fun _ (x_:Int×Unit)=>0≤x_.1∧x_.1≤l.length∧l.length=m.length∧decide (l.drop x_.1.toNat=m.drop x_.1.toNat)=decide (l=m),fun(x_:Int×Unit)=>l.length-x_.1.toNat⟩
theorem k49_10:fEqual_attr.ok Tryz.prog 49:=Fct.of (S:=fEqual_attr) (L:=fun⟨l,m,_⟩=>fun|4=>some (W_slices_Equal_impl_Attr_impl_Attr_fEqual_attr_4 l m)|_=>none) (kp:=[0,1,4,5,10,12,13,14,24,1000010,1000014,1000024]) E10ok Tryz.func49 (by kernel_rfl) (by kernel_rfl) (by
 rintro⟨(l:List SAttr),(m:List SAttr),_⟩ hp
 refine ho (.br ((↑l.length:Int) != (↑m.length:Int)) (.lf fEqual_attr (false,())) (lpx (W_slices_Equal_impl_Attr_impl_Attr_fEqual_attr_4 l m) ((0:Int),()) fun(y2:Int×PUnit) bk2=>.br (decide (y2.1<(↑l.length:Int))) (.ob (inB y2.1 l.length)<|.ob (inB y2.1 m.length)<|.br (!((l.getD y2.1.toNat default).name==(m.getD y2.1.toNat default).name&&((l.getD y2.1.toNat default).value==(m.getD y2.1.toNat default).value&&true))) (.lf fEqual_attr (false,())) (.ob (l=l)<|.ob (m=m)<|.ob (Value.int IntKind.i64 (↑l.length:Int)=Value.int IntKind.i64 (↑l.length:Int))<|.ob (bk2 (w1 y2.1,()))<|.ok)) (.lf fEqual_attr (true,())))) ?_
 refine br_i (fun h1=>lfY ?_) (fun h1=>lpx_i ?_ fun(y2:Int×PUnit) i2=>br_i (fun h3=>ob_i ?_ fun o4=>ob_i ?_ fun o5=>br_i (fun h6=>lfY ?_) (fun h6=>ob_i rfl fun _=>ob_i rfl fun _=>ob_i rfl fun _=>ob_i ?_ fun o7=>trivial)) (fun h3=>lfY ?_))
 all_goals
  try simp only[beqAttr] at *
  try simp only[std0] at *
  try simp only[W_slices_Equal_impl_Attr_impl_Attr_fEqual_attr_4,fEqual_attr,std,Nat.reduceAdd,szF,toF,eqF,mkF,heF] at *
  try simp(disch:=omega) only[wrapId',toNat1] at *
  try simp(disch:=omega) only[if_pos,if_neg]
 all_goals first|trivial|omega|grind[wrapId',toNat1,drop_cons,drop_end,good_len,maxLen])
def E11:=E10.add 49 fEqual_attr
theorem E11ok:EOk Tryz.prog E11:=E10ok.add k49_10
def fEqual_addr:Fct:=⟨[.v (.sl .addr),.v (.sl .addr)],[.el .bool],fun(x_:(List SAddr)×(List SAddr)×Unit)=>x_.1.length≤1000000000000000000,fun(x_:(List SAddr)×(List SAddr)×Unit)=>(decide (x_.1=x_.2.1),())⟩
abbrev W_slices_Equal_impl_Addr_impl_Addr_fEqual_addr_4 (l:(List SAddr)) (m:(List SAddr)):LInv:=⟨[⟨.s,13,true,.el .int⟩],fun _ (x_:Int×Unit)=>0≤x_.1∧x_.1≤l.length∧l.length=m.length∧decide (l.drop x_.1.toNat=m.drop x_.1.toNat)=decide (l=m),fun(x_:Int×Unit)=>l.length-x_.1.toNat⟩
theorem k34_11:fEqual_addr.ok Tryz.prog 34:=Fct.of (S:=fEqual_addr) (L:=fun⟨l,m,_⟩=>fun|4=>some (W_slices_Equal_impl_Addr_impl_Addr_fEqual_addr_4 l m)|_=>none) (kp:=[0,1,4,5,10,12,13,14,24,1000010,1000014,1000024]) E11ok Tryz.func34 (by kernel_rfl) (by kernel_rfl) (by
 rintro⟨(l:List SAddr),(m:List SAddr),_⟩ hp
 refine ho (.br ((↑l.length:Int) != (↑m.length:Int)) (.lf fEqual_addr (false,())) (lpx (W_slices_Equal_impl_Addr_impl_Addr_fEqual_addr_4 l m) ((0:Int),()) fun(y2:Int×PUnit) bk2=>.br (decide (y2.1<(↑l.length:Int))) (.ob (inB y2.1 l.length)<|.ob (inB y2.1 m.length)<|.br (!((l.getD y2.1.toNat default).host==(m.getD y2.1.toNat default).host&&((l.getD y2.1.toNat default).path==(m.getD y2.1.toNat default).path&&true))) (.lf fEqual_addr (false,())) (.ob (l=l)<|.ob (m=m)<|.ob (Value.int IntKind.i64 (↑l.length:Int)=Value.int IntKind.i64 (↑l.length:Int))<|.ob (bk2 (w1 y2.1,()))<|.ok)) (.lf fEqual_addr (true,())))) ?_
 refine br_i (fun h1=>lfY ?_) (fun h1=>lpx_i ?_ fun(y2:Int×PUnit) i2=>br_i (fun h3=>ob_i ?_ fun o4=>ob_i ?_ fun o5=>br_i (fun h6=>lfY ?_) (fun h6=>ob_i rfl fun _=>ob_i rfl fun _=>ob_i rfl fun _=>ob_i ?_ fun o7=>trivial)) (fun h3=>lfY ?_))
 all_goals
  try simp only[beqAddr] at *
  try simp only[std0] at *
  try simp only[W_slices_Equal_impl_Addr_impl_Addr_fEqual_addr_4,fEqual_addr,std,Nat.reduceAdd,szF,toF,eqF,mkF,heF] at *
  try simp(disch:=omega) only[wrapId',toNat1] at *
  try simp(disch:=omega) only[if_pos,if_neg]
 all_goals first|trivial|omega|grind[wrapId',toNat1,drop_cons,drop_end,good_len,maxLen])
def E12:=E11.add 34 fEqual_addr
theorem E12ok:EOk Tryz.prog E12:=E11ok.add k34_11
def fEqNode:Fct:=⟨[.v (.el .node),.v (.el .node)],[.el .bool],fun(x_:SNode×SNode×Unit)=>x_.1.attrs.length≤1000000000000000000,fun(x_:SNode×SNode×Unit)=>(decide (x_.1=x_.2.1),())⟩
theorem k51_12:fEqNode.ok Tryz.prog 51:=Fct.o [2,3,4] E12ok Tryz.func51 (by
 rintro⟨(a:SNode),(b:SNode),_⟩ hp
 refine ho (.br (a.name.toList==b.name.toList) (.br (a.text.toList==b.text.toList) (.br (a.parent==b.parent) (.cl fEqual_attr (a.attrs,b.attrs,()) fun z2=>.lf fEqNode (z2.1,())) (.lf fEqNode (false,()))) (.lf fEqNode (false,()))) (.lf fEqNode (false,()))) ?_
 refine br_i (fun h1=>br_i (fun h2=>br_i (fun h3=>cl_i ?_ fun o4=>(lfY ?_)) (fun h3=>lfY ?_)) (fun h2=>lfY ?_)) (fun h1=>lfY ?_)
 all_goals (cases a;cases b)
 all_goals
  try simp only[std0] at *
  try simp only[fEqNode,fEqual_attr,std,Nat.reduceAdd,szF,toF,eqF,mkF,heF,fEqual_attr] at *
  try simp(disch:=omega) only[wrapId',toNat1] at *
  try simp(disch:=omega) only[if_pos,if_neg]
 all_goals first|trivial|omega|grind[wrapId',toNat1,drop_cons,drop_end,good_len,maxLen,fEqual_attr])
def E13:=E12.add 51 fEqNode
theorem E13ok:EOk Tryz.prog E13:=E12ok.add k51_12
def fEqToken:Fct:=⟨[.v (.el .token),.v (.el .token)],[.el .bool],fun(x_:SToken×SToken×Unit)=>x_.1.attrs.length≤1000000000000000000,fun(x_:SToken×SToken×Unit)=>(decide (x_.1=x_.2.1),())⟩
theorem k30_13:fEqToken.ok Tryz.prog 30:=Fct.o [2,3,4] E13ok Tryz.func30 (by
 rintro⟨(a:SToken),(b:SToken),_⟩ hp
 refine ho (.br (a.kind==b.kind) (.br (a.name.toList==b.name.toList) (.cl fEqual_attr (a.attrs,b.attrs,()) fun z2=>.br (z2.1) (.lf fEqToken (a.text.toList==b.text.toList,())) (.lf fEqToken (false,()))) (.lf fEqToken (false,()))) (.lf fEqToken (false,()))) ?_
 refine br_i (fun h1=>br_i (fun h2=>cl_i ?_ fun o3=>(br_i (fun h4=>lfY ?_) (fun h4=>lfY ?_))) (fun h2=>lfY ?_)) (fun h1=>lfY ?_)
 all_goals (cases a;cases b)
 all_goals
  try simp only[std0] at *
  try simp only[fEqToken,fEqual_attr,std,Nat.reduceAdd,szF,toF,eqF,mkF,heF,fEqual_attr] at *
  try simp(disch:=omega) only[wrapId',toNat1] at *
  try simp(disch:=omega) only[if_pos,if_neg]
 all_goals first|trivial|omega|grind[wrapId',toNat1,drop_cons,drop_end,good_len,maxLen,fEqual_attr])
def E14:=E13.add 30 fEqToken
theorem E14ok:EOk Tryz.prog E14:=E13ok.add k30_13
def fEqualFunc_node:Fct:=⟨[aL .node,aL .node,.c 51 []],[rB],fun x=>x.1.length≤1000000000000000000∧∀ i,i<x.1.length→i<x.2.1.length→fEqNode.pre (x.1.getD i default,x.2.1.getD i default,()),fun x=>(decide (x.1=x.2.1),())⟩
abbrev W_slices_EqualFunc_impl_Node_impl_Node_impl_Node_impl_Node_fEqualFunc_node_4 (l:(List SNode)) (m:(List SNode)) (u:(Unit)):LInv:=⟨[⟨.s,17,true,.el .int⟩],fun _ (x_:Int×Unit)=>0≤x_.1∧x_.1≤l.length∧l.length=m.length∧decide (l.drop x_.1.toNat=m.drop x_.1.toNat)=decide (l=m),fun(x_:Int×Unit)=>l.length-x_.1.toNat⟩
theorem k50_14:fEqualFunc_node.ok Tryz.prog 50:=Fct.of (S:=fEqualFunc_node) (L:=fun⟨l,m,u,_⟩=>fun|4=>some (W_slices_EqualFunc_impl_Node_impl_Node_impl_Node_impl_Node_fEqualFunc_node_4 l m u)|_=>none) (kp:=[0,1,2,6,7,8,9,14,15,16,17,18,30,1000014,1000018,1000030]) E14ok Tryz.func50 (by kernel_rfl) (by kernel_rfl) (by
 rintro⟨(l:List SNode),(m:List SNode),(u:PUnit),_⟩ hp
 refine ho (.br ((↑l.length:Int) != (↑m.length:Int)) (.lf fEqualFunc_node (false,())) (lpx (W_slices_EqualFunc_impl_Node_impl_Node_impl_Node_impl_Node_fEqualFunc_node_4 l m u) ((0:Int),()) fun(y2:Int×PUnit) bk2=>.br (decide (y2.1<(↑l.length:Int))) (.ob (inB y2.1 l.length)<|.ob (inB y2.1 m.length)<|.cl fEqNode (l.getD y2.1.toNat default,m.getD y2.1.toNat default,()) fun z2=>.br (!z2.1) (.lf fEqualFunc_node (false,())) (.ob (l=l)<|.ob (m=m)<|.ob (l=l)<|.ob (Value.int IntKind.i64 (↑l.length:Int)=Value.int IntKind.i64 (↑l.length:Int))<|.ob (bk2 (w1 y2.1,()))<|.ok)) (.lf fEqualFunc_node (true,())))) ?_
 refine br_i (fun h1=>lfY ?_) (fun h1=>lpx_i ?_ fun(y2:Int×PUnit) i2=>br_i (fun h3=>ob_i ?_ fun o4=>ob_i ?_ fun o5=>cl_i ?_ fun o6=>(br_i (fun h7=>lfY ?_) (fun h7=>ob_i rfl fun _=>ob_i rfl fun _=>ob_i rfl fun _=>ob_i rfl fun _=>ob_i ?_ fun o8=>trivial))) (fun h3=>lfY ?_))
 all_goals
  have hpl:=hp.1
  have hpe:=hp.2
  clear hp
  try simp only[fEqNode] at hpe
  try simp only[std0] at *
  try simp only[W_slices_EqualFunc_impl_Node_impl_Node_impl_Node_impl_Node_fEqualFunc_node_4,fEqNode,fEqualFunc_node,std,Nat.reduceAdd,szF,toF,eqF,mkF,heF,fEqNode] at *
  try simp(disch:=omega) only[wrapId',toNat1] at *
  try simp(disch:=omega) only[if_pos,if_neg]
 all_goals first|trivial|omega|grind[wrapId',toNat1,drop_cons,drop_end,good_len,maxLen,fEqNode])
def E15:=E14.add 50 fEqualFunc_node
theorem E15ok:EOk Tryz.prog E15:=E14ok.add k50_14
def fEqualFunc_token:Fct:=⟨[aL .token,aL .token,.c 30 []],[rB],fun x=>x.1.length≤1000000000000000000∧∀ i,i<x.1.length→i<x.2.1.length→fEqToken.pre (x.1.getD i default,x.2.1.getD i default,()),fun x=>(decide (x.1=x.2.1),())⟩
abbrev W_slices_EqualFunc_impl_Token_impl_Token_impl_Token_impl_Token_fEqualFunc_token_4 (l:(List SToken)) (m:(List SToken)) (u:(Unit)):LInv:=⟨[⟨.s,17,true,.el .int⟩],fun _ (x_:Int×Unit)=>0≤x_.1∧x_.1≤l.length∧l.length=m.length∧decide (l.drop x_.1.toNat=m.drop x_.1.toNat)=decide (l=m),fun(x_:Int×Unit)=>l.length-x_.1.toNat⟩
theorem k29_15:fEqualFunc_token.ok Tryz.prog 29:=Fct.of (S:=fEqualFunc_token) (L:=fun⟨l,m,u,_⟩=>fun|4=>some (W_slices_EqualFunc_impl_Token_impl_Token_impl_Token_impl_Token_fEqualFunc_token_4 l m u)|_=>none) (kp:=[0,1,2,6,7,8,9,14,15,16,17,18,30,1000014,1000018,1000030]) E15ok Tryz.func29 (by kernel_rfl) (by kernel_rfl) (by
 rintro⟨(l:List SToken),(m:List SToken),(u:PUnit),_⟩ hp
 refine ho (.br ((↑l.length:Int) != (↑m.length:Int)) (.lf fEqualFunc_token (false,())) (lpx (W_slices_EqualFunc_impl_Token_impl_Token_impl_Token_impl_Token_fEqualFunc_token_4 l m u) ((0:Int),()) fun(y2:Int×PUnit) bk2=>.br (decide (y2.1<(↑l.length:Int))) (.ob (inB y2.1 l.length)<|.ob (inB y2.1 m.length)<|.cl fEqToken (l.getD y2.1.toNat default,m.getD y2.1.toNat default,()) fun z2=>.br (!z2.1) (.lf fEqualFunc_token (false,())) (.ob (l=l)<|.ob (m=m)<|.ob (l=l)<|.ob (Value.int IntKind.i64 (↑l.length:Int)=Value.int IntKind.i64 (↑l.length:Int))<|.ob (bk2 (w1 y2.1,()))<|.ok)) (.lf fEqualFunc_token (true,())))) ?_
 refine br_i (fun h1=>lfY ?_) (fun h1=>lpx_i ?_ fun(y2:Int×PUnit) i2=>br_i (fun h3=>ob_i ?_ fun o4=>ob_i ?_ fun o5=>cl_i ?_ fun o6=>(br_i (fun h7=>lfY ?_) (fun h7=>ob_i rfl fun _=>ob_i rfl fun _=>ob_i rfl fun _=>ob_i rfl fun _=>ob_i ?_ fun o8=>trivial))) (fun h3=>lfY ?_))
 all_goals
  have hpl:=hp.1
  have hpe:=hp.2
  clear hp
  try simp only[fEqToken] at hpe
  try simp only[std0] at *
  try simp only[W_slices_EqualFunc_impl_Token_impl_Token_impl_Token_impl_Token_fEqualFunc_token_4,fEqToken,fEqualFunc_token,std,Nat.reduceAdd,szF,toF,eqF,mkF,heF,fEqToken] at *
  try simp(disch:=omega) only[wrapId',toNat1] at *
  try simp(disch:=omega) only[if_pos,if_neg]
 all_goals first|trivial|omega|grind[wrapId',toNat1,drop_cons,drop_end,good_len,maxLen,fEqToken])
def E16:=E15.add 29 fEqualFunc_token
theorem E16ok:EOk Tryz.prog E16:=E15ok.add k29_15
def fEqBuilder:Fct:=⟨[.v (.el .builder),.v (.el .builder)],[.el .bool],fun(x_:SBuilder×SBuilder×Unit)=>szBuilder x_.1≤1099511627776,fun(x_:SBuilder×SBuilder×Unit)=>(decide (x_.1=x_.2.1),())⟩
theorem szNode_get {l:List SNode} {i:Nat} (h:i<l.length):(l.getD i default).attrs.length+l.length≤szL szNode l:=by
 have:=szL_get szNode h
 have h2:=szL_len szAttr (l.getD i default).attrs
 simp only[szNode] at this;omega
theorem szToken_get {l:List SToken} {i:Nat} (h:i<l.length):(l.getD i default).attrs.length+l.length≤szL szToken l:=by
 have:=szL_get szToken h
 have h2:=szL_len szAttr (l.getD i default).attrs
 simp only[szToken] at this;omega
theorem k31_16:fEqBuilder.ok Tryz.prog 31:=Fct.o [2,3,4] E16ok Tryz.func31 (by
 rintro⟨(a:SBuilder),(b:SBuilder),_⟩ hp
 refine ho (.cl fEqualFunc_node (a.nodes,b.nodes,(),()) fun z2=>.br (z2.1) (.cl fEqual_int (a.open_,b.open_,()) fun z3=>.lf fEqBuilder (z3.1,())) (.lf fEqBuilder (false,()))) ?_
 refine cl_i ?_ fun o1=>(br_i (fun h2=>cl_i ?_ fun o3=>(lfY ?_)) (fun h2=>lfY ?_))
 all_goals
  have hl:=szL_len szNode a.nodes
  have hg:∀ i,i<a.nodes.length→(a.nodes.getD i default).attrs.length≤szL szNode a.nodes:=fun i h=>by have:=szNode_get h;omega
  have hg2:∀ i,i<a.nodes.length→(a.nodes.getD i default).attrs.length≤1000000000000000000:=fun i h=>by have:=hg i h;have hp2:szBuilder a≤1099511627776:=hp;simp only[szBuilder] at hp2;omega
 all_goals simp only[fEqBuilder,szBuilder] at hp
 all_goals (cases a;cases b)
 all_goals
  try simp only[std0] at *
  try simp only[fEqBuilder,fEqualFunc_node,fEqual_int,std,Nat.reduceAdd,szF,toF,eqF,mkF,heF,fEqual_int,fEqNode,fEqualFunc_node] at *
  try simp(disch:=omega) only[wrapId',toNat1] at *
  try simp(disch:=omega) only[if_pos,if_neg]
 all_goals first|trivial|omega|grind[wrapId',toNat1,drop_cons,drop_end,good_len,maxLen,fEqual_int,fEqNode,fEqualFunc_node])
def E17:=E16.add 31 fEqBuilder
theorem E17ok:EOk Tryz.prog E17:=E16ok.add k31_16
def fEqPolicy:Fct:=⟨[.v (.el .policy),.v (.el .policy)],[.el .bool],fun(x_:SPolicy×SPolicy×Unit)=>szPolicy x_.1≤1099511627776,fun(x_:SPolicy×SPolicy×Unit)=>(decide (x_.1=x_.2.1),())⟩
theorem k28_17:fEqPolicy.ok Tryz.prog 28:=Fct.o [2,3,4] E17ok Tryz.func28 (by
 rintro⟨(a:SPolicy),(b:SPolicy),_⟩ hp
 refine ho (.br (a.set_==b.set_) (.cl fEqual_str (a.scripts,b.scripts,()) fun z2=>.br (z2.1) (.cl fEqual_str (a.styles,b.styles,()) fun z3=>.br (z3.1) (.cl fEqual_str (a.images,b.images,()) fun z4=>.br (z4.1) (.lf fEqPolicy (a.nonce.toList==b.nonce.toList,())) (.lf fEqPolicy (false,()))) (.lf fEqPolicy (false,()))) (.lf fEqPolicy (false,()))) (.lf fEqPolicy (false,()))) ?_
 refine br_i (fun h1=>cl_i ?_ fun o2=>(br_i (fun h3=>cl_i ?_ fun o4=>(br_i (fun h5=>cl_i ?_ fun o6=>(br_i (fun h7=>lfY ?_) (fun h7=>lfY ?_))) (fun h5=>lfY ?_))) (fun h3=>lfY ?_))) (fun h1=>lfY ?_)
 all_goals
  have hl1:=szL_len szString a.scripts
  have hl2:=szL_len szString a.styles
  have hl3:=szL_len szString a.images
 all_goals simp only[fEqPolicy,szPolicy] at hp
 all_goals (cases a;cases b)
 all_goals
  try simp only[std0] at *
  try simp only[fEqPolicy,fEqual_str,std,Nat.reduceAdd,szF,toF,eqF,mkF,heF,fEqual_str] at *
  try simp(disch:=omega) only[wrapId',toNat1] at *
  try simp(disch:=omega) only[if_pos,if_neg]
 all_goals first|trivial|omega|grind[wrapId',toNat1,drop_cons,drop_end,good_len,maxLen,fEqual_str])
def E18:=E17.add 28 fEqPolicy
theorem E18ok:EOk Tryz.prog E18:=E17ok.add k28_17
def fEqTokens:Fct:=⟨[.v (.sl .token),.v (.sl .token)],[.el .bool],fun(x_:(List SToken)×(List SToken)×Unit)=>szL szToken x_.1≤1099511627776∧szL szToken x_.2.1≤1099511627776,fun(x_:(List SToken)×(List SToken)×Unit)=>(decide (x_.1=x_.2.1),())⟩
def fEqLists:Fct:=⟨[.v (.el .page),.v (.el .page)],[.el .bool],fun(x_:SPage×SPage×Unit)=>x_.1.slots.length≤2000000000000∧x_.1.mods.length≤2000000000000,fun(x_:SPage×SPage×Unit)=>(decide (x_.1.slots=x_.2.1.slots)&&decide (x_.1.mods=x_.2.1.mods),())⟩
def fEqual_slot:Fct:=⟨[.v (.sl .slot),.v (.sl .slot)],[.el .bool],fun(x_:(List SSlot)×(List SSlot)×Unit)=>x_.1.length≤1000000000000000000,fun(x_:(List SSlot)×(List SSlot)×Unit)=>(decide (x_.1=x_.2.1),())⟩
abbrev W_slices_Equal_impl_Slot_impl_Slot_fEqual_slot_4 (l:(List SSlot)) (m:(List SSlot)):LInv:=⟨[⟨.s,13,true,.el .int⟩],fun _ (x_:Int×Unit)=>0≤x_.1∧x_.1≤l.length∧l.length=m.length∧decide (l.drop x_.1.toNat=m.drop x_.1.toNat)=decide (l=m),fun(x_:Int×Unit)=>l.length-x_.1.toNat⟩
theorem k32_18:fEqual_slot.ok Tryz.prog 32:=Fct.of (S:=fEqual_slot) (L:=fun⟨l,m,_⟩=>fun|4=>some (W_slices_Equal_impl_Slot_impl_Slot_fEqual_slot_4 l m)|_=>none) (kp:=[0,1,4,5,10,12,13,14,24,1000010,1000014,1000024]) E18ok Tryz.func32 (by kernel_rfl) (by kernel_rfl) (by
 rintro⟨(l:List SSlot),(m:List SSlot),_⟩ hp
 refine ho (.br ((↑l.length:Int) != (↑m.length:Int)) (.lf fEqual_slot (false,())) (lpx (W_slices_Equal_impl_Slot_impl_Slot_fEqual_slot_4 l m) ((0:Int),()) fun(y2:Int×PUnit) bk2=>.br (decide (y2.1<(↑l.length:Int))) (.ob (inB y2.1 l.length)<|.ob (inB y2.1 m.length)<|.br (!((l.getD y2.1.toNat default).mode==(m.getD y2.1.toNat default).mode&&((l.getD y2.1.toNat default).to.host==(m.getD y2.1.toNat default).to.host&&((l.getD y2.1.toNat default).to.path==(m.getD y2.1.toNat default).to.path&&true)&&((l.getD y2.1.toNat default).digest==(m.getD y2.1.toNat default).digest&&((l.getD y2.1.toNat default).node==(m.getD y2.1.toNat default).node&&((l.getD y2.1.toNat default).done==(m.getD y2.1.toNat default).done&&((l.getD y2.1.toNat default).code==(m.getD y2.1.toNat default).code&&((l.getD y2.1.toNat default).body==(m.getD y2.1.toNat default).body&&true)))))))) (.lf fEqual_slot (false,())) (.ob (l=l)<|.ob (m=m)<|.ob (Value.int IntKind.i64 (↑l.length:Int)=Value.int IntKind.i64 (↑l.length:Int))<|.ob (bk2 (w1 y2.1,()))<|.ok)) (.lf fEqual_slot (true,())))) ?_
 refine br_i (fun h1=>lfY ?_) (fun h1=>lpx_i ?_ fun(y2:Int×PUnit) i2=>br_i (fun h3=>ob_i ?_ fun o4=>ob_i ?_ fun o5=>br_i (fun h6=>lfY ?_) (fun h6=>ob_i rfl fun _=>ob_i rfl fun _=>ob_i rfl fun _=>ob_i ?_ fun o7=>trivial)) (fun h3=>lfY ?_))
 all_goals
  try simp only[beqSlot] at *
  try simp only[std0] at *
  try simp only[W_slices_Equal_impl_Slot_impl_Slot_fEqual_slot_4,fEqual_slot,std,Nat.reduceAdd,szF,toF,eqF,mkF,heF] at *
  try simp(disch:=omega) only[wrapId',toNat1] at *
  try simp(disch:=omega) only[if_pos,if_neg]
 all_goals first|trivial|omega|grind[wrapId',toNat1,drop_cons,drop_end,good_len,maxLen])
def E19:=E18.add 32 fEqual_slot
theorem E19ok:EOk Tryz.prog E19:=E18ok.add k32_18
def fEqual_module:Fct:=⟨[.v (.sl .module),.v (.sl .module)],[.el .bool],fun(x_:(List SModule)×(List SModule)×Unit)=>x_.1.length≤1000000000000000000,fun(x_:(List SModule)×(List SModule)×Unit)=>(decide (x_.1=x_.2.1),())⟩
abbrev W_slices_Equal_impl_Module_impl_Module_fEqual_module_4 (l:(List SModule)) (m:(List SModule)):LInv:=⟨[⟨.s,13,true,.el .int⟩],fun _ (x_:Int×Unit)=>0≤x_.1∧x_.1≤l.length∧l.length=m.length∧decide (l.drop x_.1.toNat=m.drop x_.1.toNat)=decide (l=m),fun(x_:Int×Unit)=>l.length-x_.1.toNat⟩
theorem k33_19:fEqual_module.ok Tryz.prog 33:=Fct.of (S:=fEqual_module) (L:=fun⟨l,m,_⟩=>fun|4=>some (W_slices_Equal_impl_Module_impl_Module_fEqual_module_4 l m)|_=>none) (kp:=[0,1,4,5,10,12,13,14,24,1000010,1000014,1000024]) E19ok Tryz.func33 (by kernel_rfl) (by kernel_rfl) (by
 rintro⟨(l:List SModule),(m:List SModule),_⟩ hp
 refine ho (.br ((↑l.length:Int) != (↑m.length:Int)) (.lf fEqual_module (false,())) (lpx (W_slices_Equal_impl_Module_impl_Module_fEqual_module_4 l m) ((0:Int),()) fun(y2:Int×PUnit) bk2=>.br (decide (y2.1<(↑l.length:Int))) (.ob (inB y2.1 l.length)<|.ob (inB y2.1 m.length)<|.br (!((l.getD y2.1.toNat default).to.host==(m.getD y2.1.toNat default).to.host&&((l.getD y2.1.toNat default).to.path==(m.getD y2.1.toNat default).to.path&&true)&&((l.getD y2.1.toNat default).done==(m.getD y2.1.toNat default).done&&((l.getD y2.1.toNat default).code==(m.getD y2.1.toNat default).code&&((l.getD y2.1.toNat default).body==(m.getD y2.1.toNat default).body&&true))))) (.lf fEqual_module (false,())) (.ob (l=l)<|.ob (m=m)<|.ob (Value.int IntKind.i64 (↑l.length:Int)=Value.int IntKind.i64 (↑l.length:Int))<|.ob (bk2 (w1 y2.1,()))<|.ok)) (.lf fEqual_module (true,())))) ?_
 refine br_i (fun h1=>lfY ?_) (fun h1=>lpx_i ?_ fun(y2:Int×PUnit) i2=>br_i (fun h3=>ob_i ?_ fun o4=>ob_i ?_ fun o5=>br_i (fun h6=>lfY ?_) (fun h6=>ob_i rfl fun _=>ob_i rfl fun _=>ob_i rfl fun _=>ob_i ?_ fun o7=>trivial)) (fun h3=>lfY ?_))
 all_goals
  try simp only[beqModule] at *
  try simp only[std0] at *
  try simp only[W_slices_Equal_impl_Module_impl_Module_fEqual_module_4,fEqual_module,std,Nat.reduceAdd,szF,toF,eqF,mkF,heF] at *
  try simp(disch:=omega) only[wrapId',toNat1] at *
  try simp(disch:=omega) only[if_pos,if_neg]
 all_goals first|trivial|omega|grind[wrapId',toNat1,drop_cons,drop_end,good_len,maxLen])
def E20:=E19.add 33 fEqual_module
theorem E20ok:EOk Tryz.prog E20:=E19ok.add k33_19
def fEqPage:Fct:=⟨[.v (.el .page),.v (.el .page)],[.el .bool],fun(x_:SPage×SPage×Unit)=>szPage x_.1≤1099511627776∧szPage x_.2.1≤1099511627776,fun(x_:SPage×SPage×Unit)=>(decide (x_.1=x_.2.1),())⟩
theorem k11_20:fEqPage.ok Tryz.prog 11:=Fct.o [2,3,4] E20ok Tryz.func11 (by
 rintro⟨(a:SPage),(b:SPage),_⟩ hp
 refine ho (.br (a.addr.host==b.addr.host&&(a.addr.path==b.addr.path&&true)) (.cl fEqPolicy (a.policy,b.policy,()) fun z2=>.br (z2.1) (.br (a.tok.rest==b.tok.rest&&true) (.cl fEqualFunc_token (a.queue,b.queue,(),()) fun z3=>.br (z3.1) (.br (a.ended==b.ended) (.cl fEqBuilder (a.builder,b.builder,()) fun z4=>.br (z4.1) (.cl fEqual_slot (a.slots,b.slots,()) fun z5=>.br (z5.1) (.cl fEqual_module (a.mods,b.mods,()) fun z6=>.br (z6.1) (.cl fEqual_addr (a.entries,b.entries,()) fun z7=>.br (z7.1) (.br (a.block==b.block) (.br (a.inline==b.inline) (.br (a.deferred==b.deferred) (.br (a.entered==b.entered) (.cl fEqual_addr (a.ran,b.ran,()) fun z8=>.br (z8.1) (.cl fEqual_str (a.log,b.log,()) fun z9=>.br (z9.1) (.lf fEqPage (a.loaded==b.loaded,())) (.lf fEqPage (false,()))) (.lf fEqPage (false,()))) (.lf fEqPage (false,()))) (.lf fEqPage (false,()))) (.lf fEqPage (false,()))) (.lf fEqPage (false,()))) (.lf fEqPage (false,()))) (.lf fEqPage (false,()))) (.lf fEqPage (false,()))) (.lf fEqPage (false,()))) (.lf fEqPage (false,()))) (.lf fEqPage (false,()))) (.lf fEqPage (false,()))) (.lf fEqPage (false,()))) (.lf fEqPage (false,()))) ?_
 refine br_i (fun h1=>cl_i ?_ fun o2=>(br_i (fun h3=>br_i (fun h4=>cl_i ?_ fun o5=>(br_i (fun h6=>br_i (fun h7=>cl_i ?_ fun o8=>(br_i (fun h9=>cl_i ?_ fun o10=>(br_i (fun h11=>cl_i ?_ fun o12=>(br_i (fun h13=>cl_i ?_ fun o14=>(br_i (fun h15=>br_i (fun h16=>br_i (fun h17=>br_i (fun h18=>br_i (fun h19=>cl_i ?_ fun o20=>(br_i (fun h21=>cl_i ?_ fun o22=>(br_i (fun h23=>lfY ?_) (fun h23=>lfY ?_))) (fun h21=>lfY ?_))) (fun h19=>lfY ?_)) (fun h18=>lfY ?_)) (fun h17=>lfY ?_)) (fun h16=>lfY ?_)) (fun h15=>lfY ?_))) (fun h13=>lfY ?_))) (fun h11=>lfY ?_))) (fun h9=>lfY ?_))) (fun h7=>lfY ?_)) (fun h6=>lfY ?_))) (fun h4=>lfY ?_)) (fun h3=>lfY ?_))) (fun h1=>lfY ?_)
 all_goals
  have hl1:=szL_len szSlot a.slots
  have hl2:=szL_len szModule a.mods
  have hl3:=szL_len szAddr a.entries
  have hl4:=szL_len szAddr a.ran
  have hl5:=szL_len szString a.log
  have hl6:=szL_len szToken a.queue
  have hg:∀ i,i<a.queue.length→(a.queue.getD i default).attrs.length≤szL szToken a.queue:=fun i h=>by have:=szToken_get h;omega
  have hg2:∀ i,i<a.queue.length→(a.queue.getD i default).attrs.length≤1000000000000000000:=fun i h=>by have:=hg i h;have hp2:szPage a≤1099511627776:=hp.1;simp only[szPage] at hp2;omega
 all_goals simp only[fEqPage,szPage] at hp
 all_goals try simp only[beqAddr,beqTokenizer] at *
 all_goals (cases a;cases b)
 all_goals
  try simp only[std0] at *
  try simp only[fEqBuilder,fEqPage,fEqPolicy,fEqualFunc_token,fEqual_addr,fEqual_module,fEqual_slot,fEqual_str,std,Nat.reduceAdd,szF,toF,eqF,mkF,heF,fEqual_str,fEqual_addr,fEqual_slot,fEqual_module,fEqTokens,fEqLists,fEqPolicy,fEqBuilder,fEqualFunc_token,fEqToken] at *
  try simp(disch:=omega) only[wrapId',toNat1] at *
  try simp(disch:=omega) only[if_pos,if_neg]
 all_goals first|trivial|omega|grind[wrapId',toNat1,drop_cons,drop_end,good_len,maxLen,fEqual_str,fEqual_addr,fEqual_slot,fEqual_module,fEqTokens,fEqLists,fEqPolicy,fEqBuilder,fEqualFunc_token,fEqToken])
def E21:=E20.add 11 fEqPage
theorem E21ok:EOk Tryz.prog E21:=E20ok.add k11_20
def fEqVisit:Fct:=⟨[.v (.el .visit),.v (.el .visit)],[.el .bool],fun(x_:SVisit×SVisit×Unit)=>szPage x_.1.page≤1099511627776∧szPage x_.2.1.page≤1099511627776,fun(x_:SVisit×SVisit×Unit)=>(decide (x_.1=x_.2.1),())⟩
theorem k22_21:fEqVisit.ok Tryz.prog 22:=Fct.o [2,3,4] E21ok Tryz.func22 (by
 rintro⟨(a:SVisit),(b:SVisit),_⟩ hp
 refine ho (.br (a.addr.host==b.addr.host&&(a.addr.path==b.addr.path&&true)) (.br (a.kept==b.kept) (.cl fEqPage (a.page,b.page,()) fun z2=>.lf fEqVisit (z2.1,())) (.lf fEqVisit (false,()))) (.lf fEqVisit (false,()))) ?_
 refine br_i (fun h1=>br_i (fun h2=>cl_i ?_ fun o3=>(lfY ?_)) (fun h2=>lfY ?_)) (fun h1=>lfY ?_)
 all_goals try simp only[beqAddr] at *
 all_goals (cases a;cases b)
 all_goals
  try simp only[std0] at *
  try simp only[fEqPage,fEqVisit,std,Nat.reduceAdd,szF,toF,eqF,mkF,heF,fEqPage] at *
  try simp(disch:=omega) only[wrapId',toNat1] at *
  try simp(disch:=omega) only[if_pos,if_neg]
 all_goals first|trivial|omega|grind[wrapId',toNat1,drop_cons,drop_end,good_len,maxLen,fEqPage])
def E22:=E21.add 22 fEqVisit
theorem E22ok:EOk Tryz.prog E22:=E21ok.add k22_21
def fEqualFunc_visit:Fct:=⟨[aL .visit,aL .visit,.c 22 []],[rB],fun x=>x.1.length≤1000000000000000000∧∀ i,i<x.1.length→i<x.2.1.length→fEqVisit.pre (x.1.getD i default,x.2.1.getD i default,()),fun x=>(decide (x.1=x.2.1),())⟩
abbrev W_slices_EqualFunc_impl_Visit_impl_Visit_impl_Visit_impl_Visit_fEqualFunc_visit_4 (l:(List SVisit)) (m:(List SVisit)) (u:(Unit)):LInv:=⟨[⟨.s,17,true,.el .int⟩],fun _ (x_:Int×Unit)=>0≤x_.1∧x_.1≤l.length∧l.length=m.length∧decide (l.drop x_.1.toNat=m.drop x_.1.toNat)=decide (l=m),fun(x_:Int×Unit)=>l.length-x_.1.toNat⟩
theorem k21_22:fEqualFunc_visit.ok Tryz.prog 21:=Fct.of (S:=fEqualFunc_visit) (L:=fun⟨l,m,u,_⟩=>fun|4=>some (W_slices_EqualFunc_impl_Visit_impl_Visit_impl_Visit_impl_Visit_fEqualFunc_visit_4 l m u)|_=>none) (kp:=[0,1,2,6,7,8,9,14,15,16,17,18,30,1000014,1000018,1000030]) E22ok Tryz.func21 (by kernel_rfl) (by kernel_rfl) (by
 rintro⟨(l:List SVisit),(m:List SVisit),(u:PUnit),_⟩ hp
 refine ho (.br ((↑l.length:Int) != (↑m.length:Int)) (.lf fEqualFunc_visit (false,())) (lpx (W_slices_EqualFunc_impl_Visit_impl_Visit_impl_Visit_impl_Visit_fEqualFunc_visit_4 l m u) ((0:Int),()) fun(y2:Int×PUnit) bk2=>.br (decide (y2.1<(↑l.length:Int))) (.ob (inB y2.1 l.length)<|.ob (inB y2.1 m.length)<|.cl fEqVisit (l.getD y2.1.toNat default,m.getD y2.1.toNat default,()) fun z2=>.br (!z2.1) (.lf fEqualFunc_visit (false,())) (.ob (l=l)<|.ob (m=m)<|.ob (l=l)<|.ob (Value.int IntKind.i64 (↑l.length:Int)=Value.int IntKind.i64 (↑l.length:Int))<|.ob (bk2 (w1 y2.1,()))<|.ok)) (.lf fEqualFunc_visit (true,())))) ?_
 refine br_i (fun h1=>lfY ?_) (fun h1=>lpx_i ?_ fun(y2:Int×PUnit) i2=>br_i (fun h3=>ob_i ?_ fun o4=>ob_i ?_ fun o5=>cl_i ?_ fun o6=>(br_i (fun h7=>lfY ?_) (fun h7=>ob_i rfl fun _=>ob_i rfl fun _=>ob_i rfl fun _=>ob_i rfl fun _=>ob_i ?_ fun o8=>trivial))) (fun h3=>lfY ?_))
 all_goals
  have hpl:=hp.1
  have hpe:=hp.2
  clear hp
  try simp only[fEqVisit] at hpe
  try simp only[std0] at *
  try simp only[W_slices_EqualFunc_impl_Visit_impl_Visit_impl_Visit_impl_Visit_fEqualFunc_visit_4,fEqVisit,fEqualFunc_visit,std,Nat.reduceAdd,szF,toF,eqF,mkF,heF,fEqVisit] at *
  try simp(disch:=omega) only[wrapId',toNat1] at *
  try simp(disch:=omega) only[if_pos,if_neg]
 all_goals first|trivial|omega|grind[wrapId',toNat1,drop_cons,drop_end,good_len,maxLen,fEqVisit])
def E23:=E22.add 21 fEqualFunc_visit
theorem E23ok:EOk Tryz.prog E23:=E22ok.add k21_22
theorem szVisit_get {l:List SVisit} {i:Nat} (h:i<l.length):szPage (l.getD i default).page+l.length≤szL szVisit l:=by
 have:=szL_get szVisit h
 simp only[szVisit] at this;omega
def fEqTab:Fct:=⟨[.v (.el .tab),.v (.el .tab)],[.el .bool],fun(x_:STab×STab×Unit)=>szTab x_.1≤1099511627776∧szTab x_.2.1≤1099511627776,fun(x_:STab×STab×Unit)=>(decide (x_.1=x_.2.1),())⟩
theorem k7_23:fEqTab.ok Tryz.prog 7:=Fct.o [2,3,4] E23ok Tryz.func7 (by
 rintro⟨(a:STab),(b:STab),_⟩ hp
 refine ho (.br (a.at_==b.at_) (.cl fEqualFunc_visit (a.visits,b.visits,(),()) fun z2=>.lf fEqTab (z2.1,())) (.lf fEqTab (false,()))) ?_
 refine br_i (fun h1=>cl_i ?_ fun o2=>(lfY ?_)) (fun h1=>lfY ?_)
 all_goals try simp only[beqAddr] at *
 all_goals
  have hl:=szL_len szVisit a.visits
  have hga:∀ i,i<a.visits.length→szPage (a.visits.getD i default).page≤1099511627776:=fun i h=>by have:=szVisit_get h;have hp2:szTab a≤1099511627776:=hp.1;simp only[szTab] at hp2;omega
  have hgb:∀ i,i<b.visits.length→szPage (b.visits.getD i default).page≤1099511627776:=fun i h=>by have:=szVisit_get h;have hp2:szTab b≤1099511627776:=hp.2;simp only[szTab] at hp2;omega
 all_goals simp only[fEqTab,szTab] at hp
 all_goals have he:∀ x y:SVisit,x.addr=y.addr→x.page=y.page→x.kept=y.kept→x=y:=fun x y h1 h2 h3=>by cases x;cases y;simp_all
 all_goals (cases a;cases b)
 all_goals
  try simp only[std0] at *
  try simp only[fEqTab,fEqualFunc_visit,std,Nat.reduceAdd,szF,toF,eqF,mkF,heF,fEqPage,fEqualFunc_visit,fEqVisit] at *
  try simp(disch:=omega) only[wrapId',toNat1] at *
  try simp(disch:=omega) only[if_pos,if_neg]
 all_goals first|trivial|omega|grind[wrapId',toNat1,drop_cons,drop_end,good_len,maxLen,fEqPage,fEqualFunc_visit,fEqVisit])
def E24:=E23.add 7 fEqTab
theorem E24ok:EOk Tryz.prog E24:=E23ok.add k7_23
def fCopyAttrs:Fct:=⟨[.v (.sl .attr)],[.sl .attr],fun(x_:(List SAttr)×Unit)=>x_.1.length≤1099511627776,fun(x_:(List SAttr)×Unit)=>(x_.1,())⟩
theorem k65_24:fCopyAttrs.ok Tryz.prog 65:=Fct.o [0,2] E24ok Tryz.func65 (by
 rintro⟨(l:List SAttr),_⟩ hp
 refine ho (.ob (True)<|.ob (Room (0+List.length l) 32)<|.lf fCopyAttrs ([]++l,())) ?_
 refine ob_i trivial fun _=>ob_i ?_ fun o1=>lfY ?_
 all_goals
  try simp only[std0] at *
  try simp only[fCopyAttrs,std,Nat.reduceAdd,szF,toF,eqF,mkF,heF] at *
  try simp(disch:=omega) only[wrapId',toNat1] at *
  try simp(disch:=omega) only[if_pos,if_neg]
 all_goals first|trivial|omega|grind[wrapId',toNat1,drop_cons,drop_end,good_len,maxLen])
def E25:=E24.add 65 fCopyAttrs
theorem E25ok:EOk Tryz.prog E25:=E24ok.add k65_24
def fCopyToken:Fct:=⟨[.v (.el .token)],[.el .token],fun(x_:SToken×Unit)=>x_.1.attrs.length≤1099511627776,fun(x_:SToken×Unit)=>(x_.1,())⟩
theorem k64_25:fCopyToken.ok Tryz.prog 64:=Fct.o [1,2] E25ok Tryz.func64 (by
 rintro⟨(t:SToken),_⟩ hp
 refine ho (.ob (True)<|.ob (Room (0+t.attrs.length) 32)<|.lf fCopyToken (⟨t.kind,t.name,[]++t.attrs,t.text⟩,())) ?_
 refine ob_i trivial fun _=>ob_i ?_ fun o1=>lfY ?_
 all_goals
  try simp only[std0] at *
  try simp only[fCopyToken,std,Nat.reduceAdd,szF,toF,eqF,mkF,heF] at *
  try simp(disch:=omega) only[wrapId',toNat1] at *
  try simp(disch:=omega) only[if_pos,if_neg]
 all_goals first|trivial|omega|grind[wrapId',toNat1,drop_cons,drop_end,good_len,maxLen])
def E26:=E25.add 64 fCopyToken
theorem E26ok:EOk Tryz.prog E26:=E25ok.add k64_25
def fCopyTokens:Fct:=⟨[.v (.sl .token)],[.sl .token],fun(x_:(List SToken)×Unit)=>szL szToken x_.1≤1099511627776,fun(x_:(List SToken)×Unit)=>(x_.1,())⟩
abbrev W_spec_l15Tokens_fCopyTokens_3 (l:(List SToken)):LInv:=⟨[⟨.s,3,true,.sl .token⟩,⟨.s,4,true,.el .int⟩],fun _ (x_:(List SToken)×Int×Unit)=>0≤x_.2.1∧x_.2.1≤l.length∧x_.1=l.take x_.2.1.toNat,fun(x_:(List SToken)×Int×Unit)=>l.length-x_.2.1.toNat⟩
theorem k47_26:fCopyTokens.ok Tryz.prog 47:=Fct.of (S:=fCopyTokens) (L:=fun⟨l,_⟩=>fun|3=>some (W_spec_l15Tokens_fCopyTokens_3 l)|_=>none) (kp:=[0,2,3,4,5,10,1000010]) E26ok Tryz.func47 (by kernel_rfl) (by kernel_rfl) (by
 rintro⟨(l:List SToken),_⟩ hp
 refine ho (lpx (W_spec_l15Tokens_fCopyTokens_3 l) ([],((0:Int),())) fun(y1:List SToken×Int×PUnit) bk1=>.br (decide (y1.2.1<(↑l.length:Int))) (.ob (inB y1.2.1 l.length)<|.ob (inB y1.2.1 l.length)<|.cl fCopyAttrs ((l.getD y1.2.1.toNat default).attrs,()) fun z2=>.ob (Room (y1.1.length+[(⟨(l.getD y1.2.1.toNat default).kind,(l.getD y1.2.1.toNat default).name,z2.1,(l.getD y1.2.1.toNat default).text⟩:SToken)].length) 64)<|.ob (l=l)<|.ob (bk1 (y1.1++[(⟨(l.getD y1.2.1.toNat default).kind,(l.getD y1.2.1.toNat default).name,z2.1,(l.getD y1.2.1.toNat default).text⟩:SToken)],(w1 y1.2.1,())))<|.ok) (.lf fCopyTokens (y1.1,()))) ?_
 refine lpx_i ?_ fun(y1:List SToken×Int×PUnit) i1=>br_i (fun h2=>ob_i ?_ fun o3=>ob_i ?_ fun o4=>cl_i ?_ fun o5=>(ob_i ?_ fun o6=>ob_i rfl fun _=>ob_i ?_ fun o7=>trivial)) (fun h2=>lfY ?_)
 all_goals
  have hl:=szL_len szToken l
  try have hg:=szToken_get (l:=l) (i:=y1.2.1.toNat)
  try have hg:=szToken_get (l:=l) (i:=y2.2.1.toNat)
  try simp only[std0] at *
  try simp only[W_spec_l15Tokens_fCopyTokens_3,fCopyAttrs,fCopyTokens,std,Nat.reduceAdd,szF,toF,eqF,mkF,heF,fCopyAttrs,fCopyToken,take_succ,take_end] at *
  try simp(disch:=omega) only[wrapId',toNat1] at *
  try simp(disch:=omega) only[if_pos,if_neg]
 all_goals first|trivial|omega|grind[wrapId',toNat1,drop_cons,drop_end,good_len,maxLen,fCopyAttrs,fCopyToken,take_succ,take_end])
def E27:=E26.add 47 fCopyTokens
theorem E27ok:EOk Tryz.prog E27:=E26ok.add k47_26
abbrev W_impl_copyTokens_fCopyTokens_3 (l:(List SToken)):LInv:=⟨[⟨.s,3,true,.sl .token⟩,⟨.s,9,true,.el .int⟩],fun _ (x_:(List SToken)×Int×Unit)=>0≤x_.2.1∧x_.2.1≤l.length∧x_.1=l.take x_.2.1.toNat,fun(x_:(List SToken)×Int×Unit)=>l.length-x_.2.1.toNat⟩
theorem k44_27:fCopyTokens.ok Tryz.prog 44:=Fct.of (S:=fCopyTokens) (L:=fun⟨l,_⟩=>fun|3=>some (W_impl_copyTokens_fCopyTokens_3 l)|_=>none) (kp:=[0,2,3,5,7,8,9,10,1000010]) E27ok Tryz.func44 (by kernel_rfl) (by kernel_rfl) (by
 rintro⟨(l:List SToken),_⟩ hp
 refine ho (lpx (W_impl_copyTokens_fCopyTokens_3 l) ([],((0:Int),())) fun(y1:List SToken×Int×PUnit) bk1=>.br (decide (y1.2.1<(↑l.length:Int))) (.ob (inB y1.2.1 l.length)<|.cl fCopyToken (l.getD y1.2.1.toNat default,()) fun z2=>.ob (Room (y1.1.length+[z2.1].length) 64)<|.ob (l=l)<|.ob (l=l)<|.ob (Value.int IntKind.i64 (↑l.length:Int)=Value.int IntKind.i64 (↑l.length:Int))<|.ob (bk1 (y1.1++[z2.1],(w1 y1.2.1,())))<|.ok) (.lf fCopyTokens (y1.1,()))) ?_
 refine lpx_i ?_ fun(y1:List SToken×Int×PUnit) i1=>br_i (fun h2=>ob_i ?_ fun o3=>cl_i ?_ fun o4=>(ob_i ?_ fun o5=>ob_i rfl fun _=>ob_i rfl fun _=>ob_i rfl fun _=>ob_i ?_ fun o6=>trivial)) (fun h2=>lfY ?_)
 all_goals
  have hl:=szL_len szToken l
  try have hg:=szToken_get (l:=l) (i:=y1.2.1.toNat)
  try have hg:=szToken_get (l:=l) (i:=y2.2.1.toNat)
  try simp only[std0] at *
  try simp only[W_impl_copyTokens_fCopyTokens_3,fCopyToken,fCopyTokens,std,Nat.reduceAdd,szF,toF,eqF,mkF,heF,fCopyAttrs,fCopyToken,take_succ,take_end] at *
  try simp(disch:=omega) only[wrapId',toNat1] at *
  try simp(disch:=omega) only[if_pos,if_neg]
 all_goals first|trivial|omega|grind[wrapId',toNat1,drop_cons,drop_end,good_len,maxLen,fCopyAttrs,fCopyToken,take_succ,take_end])
def E28:=E27.add 44 fCopyTokens
theorem E28ok:EOk Tryz.prog E28:=E27ok.add k44_27
theorem builder_take {b:SBuilder} {n:Nat} (h:b.nodes.length≤n):(⟨b.nodes.take n,b.open_⟩:SBuilder)=b:=by rw[List.take_of_length_le h]
theorem tab_take {t:STab} {n:Nat} (h:t.visits.length≤n):(⟨t.visits.take n,t.at_⟩:STab)=t:=by rw[List.take_of_length_le h]
def fCopyBuilder:Fct:=⟨[.v (.el .builder)],[.el .builder],fun(x_:SBuilder×Unit)=>szBuilder x_.1≤1099511627776,fun(x_:SBuilder×Unit)=>(x_.1,())⟩
abbrev W_spec_l6Copy_fCopyBuilder_3 (b:SBuilder):LInv:=⟨[⟨.b,3,true,.el .builder⟩,⟨.s,4,true,.el .int⟩,⟨.b,1,false,.el .builder⟩,⟨.b,2,true,.el .builder⟩],fun(z_:SBuilder×Int×SBuilder×SBuilder×Unit) (x_:SBuilder×Int×SBuilder×SBuilder×Unit)=>((0≤x_.2.1∧x_.2.1≤b.nodes.length∧x_.1=⟨b.nodes.take x_.2.1.toNat,b.open_⟩)∧x_.2.2.1=z_.2.2.1)∧x_.2.2.2.1=z_.2.2.2.1,fun(x_:SBuilder×Int×SBuilder×SBuilder×Unit)=>b.nodes.length-x_.2.1.toNat⟩
theorem k48_28:fCopyBuilder.ok Tryz.prog 48:=Fct.of (S:=fCopyBuilder) (L:=fun⟨b,_⟩=>fun|3=>some (W_spec_l6Copy_fCopyBuilder_3 b)|_=>none) (kp:=[1,2,3,4,5,15,1000015]) E28ok Tryz.func48 (by kernel_rfl) (by kernel_rfl) (by
 rintro⟨(b:SBuilder),_⟩ hp
 refine ho (.ob (True)<|.ob (Room (0+b.open_.length) 8)<|lpx (W_spec_l6Copy_fCopyBuilder_3 b) ((⟨[],[]++b.open_⟩:SBuilder),((0:Int),(b,(default,())))) fun(y2:SBuilder×Int×SBuilder×SBuilder×PUnit) bk2=>.br (decide (y2.2.1<(↑y2.2.2.1.nodes.length:Int))) (.ob (inB y2.2.1 y2.2.2.1.nodes.length)<|.ob (inB y2.2.1 y2.2.2.1.nodes.length)<|.cl fCopyAttrs ((y2.2.2.1.nodes.getD y2.2.1.toNat default).attrs,()) fun z2=>.ob (Room (y2.1.nodes.length+[(⟨(y2.2.2.1.nodes.getD y2.2.1.toNat default).name,(y2.2.2.1.nodes.getD y2.2.1.toNat default).text,(y2.2.2.1.nodes.getD y2.2.1.toNat default).parent,z2.1⟩:SNode)].length) 64)<|.ob (bk2 ((⟨y2.1.nodes++[(⟨(y2.2.2.1.nodes.getD y2.2.1.toNat default).name,(y2.2.2.1.nodes.getD y2.2.1.toNat default).text,(y2.2.2.1.nodes.getD y2.2.1.toNat default).parent,z2.1⟩:SNode)],y2.1.open_⟩:SBuilder),(w1 y2.2.1,(y2.2.2.1,(y2.2.2.2.1,())))))<|.ok) (.lf fCopyBuilder (y2.1,()))) ?_
 refine ob_i trivial fun _=>ob_i ?_ fun o1=>lpx_i ?_ fun(y2:SBuilder×Int×SBuilder×SBuilder×PUnit) i2=>br_i (fun h3=>ob_i ?_ fun o4=>ob_i ?_ fun o5=>cl_i ?_ fun o6=>(ob_i ?_ fun o7=>ob_i ?_ fun o8=>trivial)) (fun h3=>lfY ?_)
 all_goals
  have hl:=szL_len szNode b.nodes
  try have hg:=szNode_get (l:=b.nodes) (i:=y1.2.1.toNat)
  try have hg:=szNode_get (l:=b.nodes) (i:=y2.2.1.toNat)
  try simp only[std0] at *
  try simp only[W_spec_l6Copy_fCopyBuilder_3,fCopyAttrs,fCopyBuilder,std,Nat.reduceAdd,szF,toF,eqF,mkF,heF,fCopyAttrs,take_succ,builder_take,szBuilder] at *
  try simp(disch:=omega) only[wrapId',toNat1] at *
  try simp(disch:=omega) only[if_pos,if_neg]
 all_goals first|trivial|omega|grind[wrapId',toNat1,drop_cons,drop_end,good_len,maxLen,fCopyAttrs,take_succ,builder_take,szBuilder])
def E29:=E28.add 48 fCopyBuilder
theorem E29ok:EOk Tryz.prog E29:=E28ok.add k48_28
abbrev W_impl_copyBuilder_fCopyBuilder_3 (b:SBuilder):LInv:=⟨[⟨.b,3,true,.el .builder⟩,⟨.s,14,true,.el .int⟩,⟨.b,2,true,.el .builder⟩],fun(z_:SBuilder×Int×SBuilder×Unit) (x_:SBuilder×Int×SBuilder×Unit)=>(0≤x_.2.1∧x_.2.1≤b.nodes.length∧x_.1=⟨b.nodes.take x_.2.1.toNat,b.open_⟩)∧x_.2.2.1=z_.2.2.1,fun(x_:SBuilder×Int×SBuilder×Unit)=>b.nodes.length-x_.2.1.toNat⟩
theorem k45_29:fCopyBuilder.ok Tryz.prog 45:=Fct.of (S:=fCopyBuilder) (L:=fun⟨b,_⟩=>fun|3=>some (W_impl_copyBuilder_fCopyBuilder_3 b)|_=>none) (kp:=[1,2,3,5,12,13,14,15,1000015]) E29ok Tryz.func45 (by kernel_rfl) (by kernel_rfl) (by
 rintro⟨(b:SBuilder),_⟩ hp
 refine ho (.ob (True)<|.ob (Room (0+b.open_.length) 8)<|lpx (W_impl_copyBuilder_fCopyBuilder_3 b) ((⟨[],[]++b.open_⟩:SBuilder),((0:Int),(default,()))) fun(y2:SBuilder×Int×SBuilder×PUnit) bk2=>.br (decide (y2.2.1<(↑b.nodes.length:Int))) (.ob (inB y2.2.1 b.nodes.length)<|.ob (True)<|.ob (Room (0+(b.nodes.getD y2.2.1.toNat default).attrs.length) 32)<|.ob (Room (y2.1.nodes.length+[(⟨(b.nodes.getD y2.2.1.toNat default).name,(b.nodes.getD y2.2.1.toNat default).text,(b.nodes.getD y2.2.1.toNat default).parent,[]++(b.nodes.getD y2.2.1.toNat default).attrs⟩:SNode)].length) 64)<|.ob (b.nodes=b.nodes)<|.ob (Value.int IntKind.i64 (↑b.nodes.length:Int)=Value.int IntKind.i64 (↑b.nodes.length:Int))<|.ob (bk2 ((⟨y2.1.nodes++[(⟨(b.nodes.getD y2.2.1.toNat default).name,(b.nodes.getD y2.2.1.toNat default).text,(b.nodes.getD y2.2.1.toNat default).parent,[]++(b.nodes.getD y2.2.1.toNat default).attrs⟩:SNode)],y2.1.open_⟩:SBuilder),(w1 y2.2.1,(y2.2.2.1,()))))<|.ok) (.lf fCopyBuilder (y2.1,()))) ?_
 refine ob_i trivial fun _=>ob_i ?_ fun o1=>lpx_i ?_ fun(y2:SBuilder×Int×SBuilder×PUnit) i2=>br_i (fun h3=>ob_i ?_ fun o4=>ob_i trivial fun _=>ob_i ?_ fun o5=>ob_i ?_ fun o6=>ob_i rfl fun _=>ob_i rfl fun _=>ob_i ?_ fun o7=>trivial) (fun h3=>lfY ?_)
 all_goals
  have hl:=szL_len szNode b.nodes
  try have hg:=szNode_get (l:=b.nodes) (i:=y1.2.1.toNat)
  try have hg:=szNode_get (l:=b.nodes) (i:=y2.2.1.toNat)
  try simp only[std0] at *
  try simp only[W_impl_copyBuilder_fCopyBuilder_3,fCopyBuilder,std,Nat.reduceAdd,szF,toF,eqF,mkF,heF,fCopyAttrs,take_succ,builder_take,szBuilder] at *
  try simp(disch:=omega) only[wrapId',toNat1] at *
  try simp(disch:=omega) only[if_pos,if_neg]
 all_goals first|trivial|omega|grind[wrapId',toNat1,drop_cons,drop_end,good_len,maxLen,fCopyAttrs,take_succ,builder_take,szBuilder])
def E30:=E29.add 45 fCopyBuilder
theorem E30ok:EOk Tryz.prog E30:=E29ok.add k45_29
def fCopyPolicy:Fct:=⟨[.v (.el .policy)],[.el .policy],fun(x_:SPolicy×Unit)=>szPolicy x_.1≤1099511627776,fun(x_:SPolicy×Unit)=>(x_.1,())⟩
theorem k46_30:fCopyPolicy.ok Tryz.prog 46:=Fct.o [1,2] E30ok Tryz.func46 (by
 rintro⟨(p:SPolicy),_⟩ hp
 refine ho (.ob (True)<|.ob (Room p.scripts.length 16)<|.ob (True)<|.ob (Room p.styles.length 16)<|.ob (True)<|.ob (Room p.images.length 16)<|.lf fCopyPolicy (p,())) ?_
 refine ob_i trivial fun _=>ob_i ?_ fun o1=>ob_i trivial fun _=>ob_i ?_ fun o2=>ob_i trivial fun _=>ob_i ?_ fun o3=>lfY ?_
 all_goals
  have hl1:=szL_len szString p.scripts
  have hl2:=szL_len szString p.styles
  have hl3:=szL_len szString p.images
  try simp only[std0] at *
  try simp only[fCopyPolicy,std,Nat.reduceAdd,szF,toF,eqF,mkF,heF,szPolicy] at *
  try simp(disch:=omega) only[wrapId',toNat1] at *
  try simp(disch:=omega) only[if_pos,if_neg]
 all_goals first|trivial|omega|grind[wrapId',toNat1,drop_cons,drop_end,good_len,maxLen,szPolicy])
def E31:=E30.add 46 fCopyPolicy
theorem E31ok:EOk Tryz.prog E31:=E30ok.add k46_30
theorem k43_31:fCopyPolicy.ok Tryz.prog 43:=Fct.o [1,2] E31ok Tryz.func43 (by
 rintro⟨(p:SPolicy),_⟩ hp
 refine ho (.ob (True)<|.ob (Room (0+p.scripts.length) 16)<|.ob (True)<|.ob (Room (0+p.styles.length) 16)<|.ob (True)<|.ob (Room (0+p.images.length) 16)<|.lf fCopyPolicy (⟨p.set_,[]++p.scripts,[]++p.styles,[]++p.images,p.nonce⟩,())) ?_
 refine ob_i trivial fun _=>ob_i ?_ fun o1=>ob_i trivial fun _=>ob_i ?_ fun o2=>ob_i trivial fun _=>ob_i ?_ fun o3=>lfY ?_
 all_goals
  have hl1:=szL_len szString p.scripts
  have hl2:=szL_len szString p.styles
  have hl3:=szL_len szString p.images
  try simp only[std0] at *
  try simp only[fCopyPolicy,std,Nat.reduceAdd,szF,toF,eqF,mkF,heF,szPolicy] at *
  try simp(disch:=omega) only[wrapId',toNat1] at *
  try simp(disch:=omega) only[if_pos,if_neg]
 all_goals first|trivial|omega|grind[wrapId',toNat1,drop_cons,drop_end,good_len,maxLen,szPolicy])
def E32:=E31.add 43 fCopyPolicy
theorem E32ok:EOk Tryz.prog E32:=E31ok.add k43_31
def fCopyPage:Fct:=⟨[.v (.el .page)],[.el .page],fun(x_:SPage×Unit)=>szPage x_.1≤1099511627776,fun(x_:SPage×Unit)=>(x_.1,())⟩
theorem k26_32:fCopyPage.ok Tryz.prog 26:=Fct.o [1,2,3] E32ok Tryz.func26 (by
 rintro⟨(p:SPage),_⟩ hp
 refine ho (.cl fCopyPolicy (p.policy,()) fun z2=>.cl fCopyTokens (p.queue,()) fun z3=>.cl fCopyBuilder (p.builder,()) fun z4=>.ob (True)<|.ob (Room (0+p.slots.length) 96)<|.ob (True)<|.ob (Room (0+p.mods.length) 64)<|.ob (True)<|.ob (Room (0+p.entries.length) 32)<|.ob (True)<|.ob (Room (0+p.ran.length) 32)<|.ob (True)<|.ob (Room (0+p.log.length) 16)<|.lf fCopyPage (⟨p.addr,z2.1,p.tok,z3.1,p.ended,z4.1,[]++p.slots,[]++p.mods,[]++p.entries,p.block,p.inline,p.deferred,p.entered,[]++p.ran,[]++p.log,p.loaded⟩,())) ?_
 refine cl_i ?_ fun o1=>(cl_i ?_ fun o2=>(cl_i ?_ fun o3=>(ob_i trivial fun _=>ob_i ?_ fun o4=>ob_i trivial fun _=>ob_i ?_ fun o5=>ob_i trivial fun _=>ob_i ?_ fun o6=>ob_i trivial fun _=>ob_i ?_ fun o7=>ob_i trivial fun _=>ob_i ?_ fun o8=>lfY ?_)))
 all_goals
  have hl1:=szL_len szSlot p.slots
  have hl2:=szL_len szModule p.mods
  have hl3:=szL_len szAddr p.entries
  have hl4:=szL_len szAddr p.ran
  have hl5:=szL_len szString p.log
  try simp only[std0] at *
  try simp only[fCopyBuilder,fCopyPage,fCopyPolicy,fCopyTokens,std,Nat.reduceAdd,szF,toF,eqF,mkF,heF,szPage,fCopyPolicy,fCopyTokens,fCopyBuilder] at *
  try simp(disch:=omega) only[wrapId',toNat1] at *
  try simp(disch:=omega) only[if_pos,if_neg]
 all_goals first|trivial|omega|grind[wrapId',toNat1,drop_cons,drop_end,good_len,maxLen,szPage,fCopyPolicy,fCopyTokens,fCopyBuilder])
def E33:=E32.add 26 fCopyPage
theorem E33ok:EOk Tryz.prog E33:=E32ok.add k26_32
theorem k20_33:fCopyPage.ok Tryz.prog 20:=Fct.o [1,2] E33ok Tryz.func20 (by
 rintro⟨(p:SPage),_⟩ hp
 refine ho (.cl fCopyPolicy (p.policy,()) fun z2=>.cl fCopyTokens (p.queue,()) fun z3=>.cl fCopyBuilder (p.builder,()) fun z4=>.ob (True)<|.ob (Room (0+p.slots.length) 96)<|.ob (True)<|.ob (Room (0+p.mods.length) 64)<|.ob (True)<|.ob (Room (0+p.entries.length) 32)<|.ob (True)<|.ob (Room (0+p.ran.length) 32)<|.ob (True)<|.ob (Room (0+p.log.length) 16)<|.lf fCopyPage (⟨p.addr,z2.1,p.tok,z3.1,p.ended,z4.1,[]++p.slots,[]++p.mods,[]++p.entries,p.block,p.inline,p.deferred,p.entered,[]++p.ran,[]++p.log,p.loaded⟩,())) ?_
 refine cl_i ?_ fun o1=>(cl_i ?_ fun o2=>(cl_i ?_ fun o3=>(ob_i trivial fun _=>ob_i ?_ fun o4=>ob_i trivial fun _=>ob_i ?_ fun o5=>ob_i trivial fun _=>ob_i ?_ fun o6=>ob_i trivial fun _=>ob_i ?_ fun o7=>ob_i trivial fun _=>ob_i ?_ fun o8=>lfY ?_)))
 all_goals
  have hl1:=szL_len szSlot p.slots
  have hl2:=szL_len szModule p.mods
  have hl3:=szL_len szAddr p.entries
  have hl4:=szL_len szAddr p.ran
  have hl5:=szL_len szString p.log
  try simp only[std0] at *
  try simp only[fCopyBuilder,fCopyPage,fCopyPolicy,fCopyTokens,std,Nat.reduceAdd,szF,toF,eqF,mkF,heF,szPage,fCopyPolicy,fCopyTokens,fCopyBuilder] at *
  try simp(disch:=omega) only[wrapId',toNat1] at *
  try simp(disch:=omega) only[if_pos,if_neg]
 all_goals first|trivial|omega|grind[wrapId',toNat1,drop_cons,drop_end,good_len,maxLen,szPage,fCopyPolicy,fCopyTokens,fCopyBuilder])
def E34:=E33.add 20 fCopyPage
theorem E34ok:EOk Tryz.prog E34:=E33ok.add k20_33
def fCopyTab:Fct:=⟨[.v (.el .tab)],[.el .tab],fun(x_:STab×Unit)=>szTab x_.1≤1099511627776∧x_.1.visits.length≤1048576,fun(x_:STab×Unit)=>(x_.1,())⟩
abbrev W_spec_l31Copy_fCopyTab_3 (t:STab):LInv:=⟨[⟨.b,3,true,.el .tab⟩,⟨.s,4,true,.el .int⟩,⟨.b,1,false,.el .tab⟩,⟨.b,2,true,.el .tab⟩],fun(z_:STab×Int×STab×STab×Unit) (x_:STab×Int×STab×STab×Unit)=>((0≤x_.2.1∧x_.2.1≤t.visits.length∧x_.1=⟨t.visits.take x_.2.1.toNat,t.at_⟩)∧x_.2.2.1=z_.2.2.1)∧x_.2.2.2.1=z_.2.2.2.1,fun(x_:STab×Int×STab×STab×Unit)=>t.visits.length-x_.2.1.toNat⟩
theorem k23_34:fCopyTab.ok Tryz.prog 23:=Fct.of (S:=fCopyTab) (L:=fun⟨t,_⟩=>fun|3=>some (W_spec_l31Copy_fCopyTab_3 t)|_=>none) (kp:=[1,2,3,4,5,13,1000013]) E34ok Tryz.func23 (by kernel_rfl) (by kernel_rfl) (by
 rintro⟨(t:STab),_⟩ hp
 refine ho (lpx (W_spec_l31Copy_fCopyTab_3 t) ((⟨[],t.at_⟩:STab),((0:Int),(t,(default,())))) fun(y1:STab×Int×STab×STab×PUnit) bk1=>.br (decide (y1.2.1<(↑y1.2.2.1.visits.length:Int))) (.ob (inB y1.2.1 y1.2.2.1.visits.length)<|.ob (inB y1.2.1 y1.2.2.1.visits.length)<|.cl fCopyPage ((y1.2.2.1.visits.getD y1.2.1.toNat default).page,()) fun z2=>.ob (Room (y1.1.visits.length+[(⟨(y1.2.2.1.visits.getD y1.2.1.toNat default).addr,z2.1,(y1.2.2.1.visits.getD y1.2.1.toNat default).kept⟩:SVisit)].length) 424)<|.ob (bk1 ((⟨y1.1.visits++[(⟨(y1.2.2.1.visits.getD y1.2.1.toNat default).addr,z2.1,(y1.2.2.1.visits.getD y1.2.1.toNat default).kept⟩:SVisit)],y1.1.at_⟩:STab),(w1 y1.2.1,(y1.2.2.1,(y1.2.2.2.1,())))))<|.ok) (.lf fCopyTab (y1.1,()))) ?_
 refine lpx_i ?_ fun(y1:STab×Int×STab×STab×PUnit) i1=>br_i (fun h2=>ob_i ?_ fun o3=>ob_i ?_ fun o4=>cl_i ?_ fun o5=>(ob_i ?_ fun o6=>ob_i ?_ fun o7=>trivial)) (fun h2=>lfY ?_)
 all_goals
  have hl:=szL_len szVisit t.visits
  try have hg:=szVisit_get (l:=t.visits) (i:=y1.2.1.toNat)
  try have hg:=szVisit_get (l:=t.visits) (i:=y2.2.1.toNat)
  try simp only[std0] at *
  try simp only[W_spec_l31Copy_fCopyTab_3,fCopyPage,fCopyTab,std,Nat.reduceAdd,szF,toF,eqF,mkF,heF,szTab,fCopyPage,take_succ,tab_take] at *
  try simp(disch:=omega) only[wrapId',toNat1] at *
  try simp(disch:=omega) only[if_pos,if_neg]
 all_goals first|trivial|omega|grind[wrapId',toNat1,drop_cons,drop_end,good_len,maxLen,szTab,fCopyPage,take_succ,tab_take])
def E35:=E34.add 23 fCopyTab
theorem E35ok:EOk Tryz.prog E35:=E34ok.add k23_34
abbrev W_impl_copyTab_fCopyTab_3 (t:STab):LInv:=⟨[⟨.b,3,true,.el .tab⟩,⟨.s,12,true,.el .int⟩,⟨.b,2,true,.el .tab⟩],fun(z_:STab×Int×STab×Unit) (x_:STab×Int×STab×Unit)=>(0≤x_.2.1∧x_.2.1≤t.visits.length∧x_.1=⟨t.visits.take x_.2.1.toNat,t.at_⟩)∧x_.2.2.1=z_.2.2.1,fun(x_:STab×Int×STab×Unit)=>t.visits.length-x_.2.1.toNat⟩
theorem k19_35:fCopyTab.ok Tryz.prog 19:=Fct.of (S:=fCopyTab) (L:=fun⟨t,_⟩=>fun|3=>some (W_impl_copyTab_fCopyTab_3 t)|_=>none) (kp:=[1,2,3,5,10,11,12,13,1000013]) E35ok Tryz.func19 (by kernel_rfl) (by kernel_rfl) (by
 rintro⟨(t:STab),_⟩ hp
 refine ho (lpx (W_impl_copyTab_fCopyTab_3 t) ((⟨[],t.at_⟩:STab),((0:Int),(default,()))) fun(y1:STab×Int×STab×PUnit) bk1=>.br (decide (y1.2.1<(↑t.visits.length:Int))) (.ob (inB y1.2.1 t.visits.length)<|.cl fCopyPage ((t.visits.getD y1.2.1.toNat default).page,()) fun z2=>.ob (Room (y1.1.visits.length+[(⟨(t.visits.getD y1.2.1.toNat default).addr,z2.1,(t.visits.getD y1.2.1.toNat default).kept⟩:SVisit)].length) 424)<|.ob (t.visits=t.visits)<|.ob (Value.int IntKind.i64 (↑t.visits.length:Int)=Value.int IntKind.i64 (↑t.visits.length:Int))<|.ob (bk1 ((⟨y1.1.visits++[(⟨(t.visits.getD y1.2.1.toNat default).addr,z2.1,(t.visits.getD y1.2.1.toNat default).kept⟩:SVisit)],y1.1.at_⟩:STab),(w1 y1.2.1,(y1.2.2.1,()))))<|.ok) (.lf fCopyTab (y1.1,()))) ?_
 refine lpx_i ?_ fun(y1:STab×Int×STab×PUnit) i1=>br_i (fun h2=>ob_i ?_ fun o3=>cl_i ?_ fun o4=>(ob_i ?_ fun o5=>ob_i rfl fun _=>ob_i rfl fun _=>ob_i ?_ fun o6=>trivial)) (fun h2=>lfY ?_)
 all_goals
  have hl:=szL_len szVisit t.visits
  try have hg:=szVisit_get (l:=t.visits) (i:=y1.2.1.toNat)
  try have hg:=szVisit_get (l:=t.visits) (i:=y2.2.1.toNat)
  try simp only[std0] at *
  try simp only[W_impl_copyTab_fCopyTab_3,fCopyPage,fCopyTab,std,Nat.reduceAdd,szF,toF,eqF,mkF,heF,szTab,fCopyPage,take_succ,tab_take] at *
  try simp(disch:=omega) only[wrapId',toNat1] at *
  try simp(disch:=omega) only[if_pos,if_neg]
 all_goals first|trivial|omega|grind[wrapId',toNat1,drop_cons,drop_end,good_len,maxLen,szTab,fCopyPage,take_succ,tab_take])
def E36:=E35.add 19 fCopyTab
theorem E36ok:EOk Tryz.prog E36:=E35ok.add k19_35
def presentPage (t:STab):SPage×Bool:=if 0≤t.at_∧t.at_<t.visits.length∧(t.visits.getD t.at_.toNat default).kept then((t.visits.getD t.at_.toNat default).page,true) else(default,false)
def fPresentPage:Fct:=⟨[.v (.el .tab)],[.el .page,.el .bool],fun(x_:STab×Unit)=>szTab x_.1≤1099511627776,fun(x_:STab×Unit)=>((presentPage x_.1).1,(presentPage x_.1).2,())⟩
theorem k9_36:fPresentPage.ok Tryz.prog 9:=Fct.o [1,2,3,16,1000016] E36ok Tryz.func9 (by
 rintro⟨(t:STab),_⟩ hp
 refine ho (.cl fHasPresent (t,()) fun z2=>.br (!z2.1) (.leaf (.tup [(true,[vs ((⟨#[]⟩:ByteArray)),vs ((⟨#[]⟩:ByteArray)),vb (false),.nl,.nl,.nl,vs ((⟨#[]⟩:ByteArray)),vs ((⟨#[]⟩:ByteArray)),.nl,vb (false),.nl,.nl,.nl,.nl,.nl,vi ((0:Int)),vi ((0:Int)),vi ((0:Int)),vi ((0:Int)),.nl,.nl,vb (false)]),(false,[vb (false)])]) [] []) (.ob (inB t.at_ t.visits.length)<|.br (!(t.visits.getD t.at_.toNat default).kept) (.leaf (.tup [(true,[vs ((⟨#[]⟩:ByteArray)),vs ((⟨#[]⟩:ByteArray)),vb (false),.nl,.nl,.nl,vs ((⟨#[]⟩:ByteArray)),vs ((⟨#[]⟩:ByteArray)),.nl,vb (false),.nl,.nl,.nl,.nl,.nl,vi ((0:Int)),vi ((0:Int)),vi ((0:Int)),vi ((0:Int)),.nl,.nl,vb (false)]),(false,[vb (false)])]) [] []) (.ob (inB t.at_ t.visits.length)<|.cl fCopyPage ((t.visits.getD t.at_.toNat default).page,()) fun z3=>.lf fPresentPage (z3.1,true,())))) ?_
 refine cl_i trivial fun _=>(br_i (fun h1=>Fct.leafZ (default,false,()) (by repeat' first|exact rfl|exact trivial|refine And.intro ?_ ?_) ?_) (fun h1=>ob_i ?_ fun o2=>br_i (fun h3=>Fct.leafZ (default,false,()) (by repeat' first|exact rfl|exact trivial|refine And.intro ?_ ?_) ?_) (fun h3=>ob_i ?_ fun o4=>cl_i ?_ fun o5=>(lfY ?_))))
 all_goals
  have hl:=szL_len szVisit t.visits
  have hg:=szVisit_get (l:=t.visits) (i:=t.at_.toNat)
  try simp only[std0] at *
  try simp only[fCopyPage,fHasPresent,fPresentPage,std,Nat.reduceAdd,szF,toF,eqF,mkF,heF,szTab,presentPage,fCopyPage,fInRange,inRange,fHasPresent] at *
  try simp(disch:=omega) only[wrapId',toNat1] at *
  try simp(disch:=omega) only[if_pos,if_neg]
 all_goals first|trivial|omega|grind[wrapId',toNat1,drop_cons,drop_end,good_len,maxLen,szTab,presentPage,fCopyPage,fInRange,inRange,fHasPresent])
def E37:=E36.add 9 fPresentPage
theorem E37ok:EOk Tryz.prog E37:=E36ok.add k9_36
def moveTo (t:STab) (b:Int):STab×Bool:=if(b=1∨b = -1)∧0≤t.at_∧t.at_<t.visits.length∧0≤t.at_+b∧t.at_+b<t.visits.length then(⟨t.visits,t.at_+b⟩,true) else(t,false)
def fMoveTo:Fct:=⟨[.v (.el .tab),.v (.el .int)],[.el .tab,.el .bool],fun(x_:STab×Int×Unit)=>szTab x_.1≤1099511627776∧x_.1.visits.length≤1048576,fun(x_:STab×Int×Unit)=>((moveTo x_.1 x_.2.1).1,(moveTo x_.1 x_.2.1).2,())⟩
theorem k15_37:fMoveTo.ok Tryz.prog 15:=Fct.o [1,2,4,5,6,36,1000036] E37ok Tryz.func15 (by
 rintro⟨(t:STab),(b:Int),_⟩ hp
 refine ho (.cl fCopyTab (t,()) fun z2=>.br (b != 1) (.br (b != (-1:Int)) (.lf fMoveTo (z2.1,false,())) (.cl fInRange (t.at_,(0:Int),wr ((↑t.visits.length:Int)-(1:Int)),()) fun z3=>.br (!z3.1) (.lf fMoveTo (z2.1,false,())) (.cl fInRange (wr (t.at_+b),(0:Int),wr ((↑t.visits.length:Int)-(1:Int)),()) fun z4=>.br (!z4.1) (.lf fMoveTo (z2.1,false,())) (.lf fMoveTo (⟨z2.1.visits,wr (t.at_+b)⟩,true,()))))) (.cl fInRange (t.at_,(0:Int),wr ((↑t.visits.length:Int)-(1:Int)),()) fun z5=>.br (!z5.1) (.lf fMoveTo (z2.1,false,())) (.cl fInRange (wr (t.at_+b),(0:Int),wr ((↑t.visits.length:Int)-(1:Int)),()) fun z6=>.br (!z6.1) (.lf fMoveTo (z2.1,false,())) (.lf fMoveTo (⟨z2.1.visits,wr (t.at_+b)⟩,true,()))))) ?_
 refine cl_i ?_ fun o1=>(br_i (fun h2=>br_i (fun h3=>lfY ?_) (fun h3=>cl_i trivial fun _=>(br_i (fun h4=>lfY ?_) (fun h4=>cl_i trivial fun _=>(br_i (fun h5=>lfY ?_) (fun h5=>lfY ?_)))))) (fun h2=>cl_i trivial fun _=>(br_i (fun h6=>lfY ?_) (fun h6=>cl_i trivial fun _=>(br_i (fun h7=>lfY ?_) (fun h7=>lfY ?_))))))
 all_goals
  have hl:=szL_len szVisit t.visits
  try simp only[std0] at *
  try simp only[fCopyTab,fInRange,fMoveTo,std,Nat.reduceAdd,szF,toF,eqF,mkF,heF,szTab,moveTo,fCopyTab,fInRange,inRange,fHasPresent] at *
  try simp(disch:=omega) only[wrapId',toNat1] at *
  try simp(disch:=omega) only[if_pos,if_neg]
 all_goals first|trivial|omega|grind[wrapId',toNat1,drop_cons,drop_end,good_len,maxLen,szTab,moveTo,fCopyTab,fInRange,inRange,fHasPresent])
def E38:=E37.add 15 fMoveTo
theorem E38ok:EOk Tryz.prog E38:=E37ok.add k15_37
theorem k14_38:fMoveTo.ok Tryz.prog 14:=Fct.o [1,2,4,5,6,29,1000029] E38ok Tryz.func14 (by
 rintro⟨(t:STab),(b:Int),_⟩ hp
 refine ho (.cl fCopyTab (t,()) fun z2=>.br (b != (-1:Int)) (.br (b != 1) (.cl fCopyTab (t,()) fun z3=>.lf fMoveTo (z3.1,false,())) (.cl fHasPresent (t,()) fun z4=>.br (!z4.1) (.cl fCopyTab (t,()) fun z5=>.lf fMoveTo (z5.1,false,())) (.cl fHasPresent ((⟨z2.1.visits,wr (z2.1.at_+b)⟩:STab),()) fun z6=>.br (!z6.1) (.cl fCopyTab (t,()) fun z7=>.lf fMoveTo (z7.1,false,())) (.lf fMoveTo (⟨z2.1.visits,wr (z2.1.at_+b)⟩,true,()))))) (.cl fHasPresent (t,()) fun z8=>.br (!z8.1) (.cl fCopyTab (t,()) fun z9=>.lf fMoveTo (z9.1,false,())) (.cl fHasPresent ((⟨z2.1.visits,wr (z2.1.at_+b)⟩:STab),()) fun z10=>.br (!z10.1) (.cl fCopyTab (t,()) fun z11=>.lf fMoveTo (z11.1,false,())) (.lf fMoveTo (⟨z2.1.visits,wr (z2.1.at_+b)⟩,true,()))))) ?_
 refine cl_i ?_ fun o1=>(br_i (fun h2=>br_i (fun h3=>cl_i ?_ fun o4=>(lfY ?_)) (fun h3=>cl_i trivial fun _=>(br_i (fun h5=>cl_i ?_ fun o6=>(lfY ?_)) (fun h5=>cl_i trivial fun _=>(br_i (fun h7=>cl_i ?_ fun o8=>(lfY ?_)) (fun h7=>lfY ?_)))))) (fun h2=>cl_i trivial fun _=>(br_i (fun h9=>cl_i ?_ fun o10=>(lfY ?_)) (fun h9=>cl_i trivial fun _=>(br_i (fun h11=>cl_i ?_ fun o12=>(lfY ?_)) (fun h11=>lfY ?_))))))
 all_goals
  have hl:=szL_len szVisit t.visits
  try simp only[std0] at *
  try simp only[fCopyTab,fHasPresent,fMoveTo,std,Nat.reduceAdd,szF,toF,eqF,mkF,heF,szTab,moveTo,fCopyTab,fInRange,inRange,fHasPresent] at *
  try simp(disch:=omega) only[wrapId',toNat1] at *
  try simp(disch:=omega) only[if_pos,if_neg]
 all_goals first|trivial|omega|grind[wrapId',toNat1,drop_cons,drop_end,good_len,maxLen,szTab,moveTo,fCopyTab,fInRange,inRange,fHasPresent])
def E39:=E38.add 14 fMoveTo
theorem E39ok:EOk Tryz.prog E39:=E38ok.add k14_38
def fCompareAddrs:Fct:=⟨[.v (.el .addr),.v (.el .addr)],[.el .int],fun(x_:SAddr×SAddr×Unit)=>True,fun(x_:SAddr×SAddr×Unit)=>(cmpA x_.1 x_.2.1,())⟩
theorem k135_39:fCompareAddrs.ok Tryz.prog 135:=Fct.o [2,3,4,5,9,1000005,1000009] E39ok Tryz.func135 (by
 rintro⟨(a:SAddr),(b:SAddr),_⟩ hp
 refine ho (.br (a.host==b.host&&(a.path==b.path&&true)) (.lf fCompareAddrs ((0:Int),())) (.br (Op.bytesLess a.host.toList b.host.toList) (.lf fCompareAddrs ((-1:Int),())) (.br (a.host.toList==b.host.toList) (.br (Op.bytesLess a.path.toList b.path.toList) (.lf fCompareAddrs ((-1:Int),())) (.lf fCompareAddrs ((1:Int),()))) (.lf fCompareAddrs ((1:Int),()))))) ?_
 refine br_i (fun h1=>lfY ?_) (fun h1=>br_i (fun h2=>lfY ?_) (fun h2=>br_i (fun h3=>br_i (fun h4=>lfY ?_) (fun h4=>lfY ?_)) (fun h3=>lfY ?_)))
 all_goals try simp only[beqAddr,less_cmpB,decide_eq_true_eq,decide_eq_false_iff_not] at *
 all_goals
  have h1:=cmpB_range a.host b.host
  have h2:=cmpB_range a.path b.path
  have h3:=cmpA_range a b
  have h4:=cmpA_eq (a:=a) (b:=b)
  have h5:=cmpB_eq (a:=a.host) (b:=b.host)
  have h6:=cmpB_eq (a:=a.path) (b:=b.path)
  try simp only[std0] at *
  try simp only[fCompareAddrs,std,Nat.reduceAdd,szF,toF,eqF,mkF,heF,cmpA] at *
  try simp(disch:=omega) only[wrapId',toNat1] at *
  try simp(disch:=omega) only[if_pos,if_neg]
 all_goals first|trivial|omega|grind[wrapId',toNat1,drop_cons,drop_end,good_len,maxLen,cmpA])
def E40:=E39.add 135 fCompareAddrs
theorem E40ok:EOk Tryz.prog E40:=E39ok.add k135_39
def fModAt:Fct:=⟨[.v (.el .page),.v (.el .addr)],[.el .int],fun(x_:SPage×SAddr×Unit)=>x_.1.mods.length≤1000000000000,fun(x_:SPage×SAddr×Unit)=>(fidx (fun m=>decide (m.to=x_.2.1)) x_.1.mods 0,())⟩
abbrev W_spec_l18Find_fModAt_2 (p:SPage) (a:SAddr):LInv:=⟨[⟨.s,5,true,.el .int⟩,⟨.b,2,false,.el .page⟩,⟨.b,3,true,.el .addr⟩],fun(z_:Int×SPage×SAddr×Unit) (x_:Int×SPage×SAddr×Unit)=>((0≤x_.1∧x_.1≤p.mods.length∧fidx (fun m=>decide (m.to=a)) (p.mods.drop x_.1.toNat) x_.1=fidx (fun m=>decide (m.to=a)) p.mods 0)∧x_.2.1=z_.2.1)∧x_.2.2.1=z_.2.2.1,fun(x_:Int×SPage×SAddr×Unit)=>p.mods.length-x_.1.toNat⟩
theorem k102_40:fModAt.ok Tryz.prog 102:=Fct.of (S:=fModAt) (L:=fun⟨p,a,_⟩=>fun|2=>some (W_spec_l18Find_fModAt_2 p a)|_=>none) (kp:=[2,3,4,5,10,20,1000010,1000020]) E40ok Tryz.func102 (by kernel_rfl) (by kernel_rfl) (by
 rintro⟨(p:SPage),(a:SAddr),_⟩ hp
 refine ho (lpx (W_spec_l18Find_fModAt_2 p a) ((0:Int),(p,(a,()))) fun(y1:Int×SPage×SAddr×PUnit) bk1=>.br (decide (y1.1<(↑y1.2.1.mods.length:Int))) (.ob (inB y1.1 y1.2.1.mods.length)<|.br ((y1.2.1.mods.getD y1.1.toNat default).to.host==y1.2.2.1.host&&((y1.2.1.mods.getD y1.1.toNat default).to.path==y1.2.2.1.path&&true)) (.lf fModAt (y1.1,())) (.ob (bk1 (w1 y1.1,(y1.2.1,(y1.2.2.1,()))))<|.ok)) (.lf fModAt ((-1:Int),()))) ?_
 refine lpx_i ?_ fun(y1:Int×SPage×SAddr×PUnit) i1=>br_i (fun h2=>ob_i ?_ fun o3=>br_i (fun h4=>lfY ?_) (fun h4=>ob_i ?_ fun o5=>trivial)) (fun h2=>lfY ?_)
 all_goals
  try simp only[beqAddr] at *
  try simp only[std0] at *
  try simp only[W_spec_l18Find_fModAt_2,fModAt,std,Nat.reduceAdd,szF,toF,eqF,mkF,heF,fidx] at *
  try simp(disch:=omega) only[wrapId',toNat1] at *
  try simp(disch:=omega) only[if_pos,if_neg]
 all_goals first|trivial|omega|grind[wrapId',toNat1,drop_cons,drop_end,good_len,maxLen,fidx])
def E41:=E40.add 102 fModAt
theorem E41ok:EOk Tryz.prog E41:=E40ok.add k102_40
theorem szServer_get {l:List SServer} {i:Nat} (h:i<l.length):(l.getD i default).files.length+l.length≤szL szServer l:=by
 have:=szL_get szServer h
 have h2:=szL_len szFile (l.getD i default).files
 simp only[szServer] at this;omega
def fMin:Fct:=⟨[aI,aI],[rI],fun _=>True,fun(x:Int×Int×Unit)=>(min x.1 x.2.1,())⟩
theorem k25_41:fMin.ok Tryz.prog 25:=Fct.o [0,1,4,7,1000007] E41ok Tryz.func25 (by
 rintro⟨(a:Int),(b:Int),_⟩ hp
 refine ho (.br (decide (b<a)) (.lf fMin (b,())) (.lf fMin (a,()))) ?_
 refine br_i (fun h1=>lfY ?_) (fun h1=>lfY ?_)
 all_goals
  try simp only[std0] at *
  try simp only[fMin,std,Nat.reduceAdd,szF,toF,eqF,mkF,heF] at *
 all_goals first|trivial|omega|(simp_all;done)|(simp_all;omega)|grind)
def E42:=E41.add 25 fMin
theorem E42ok:EOk Tryz.prog E42:=E41ok.add k25_41
def visitsUpTo (t:STab):Nat:=(max 0 (min (t.visits.length:Int) (min t.at_ 6+1))).toNat
theorem upto_le (t:STab):visitsUpTo t≤t.visits.length:=by unfold visitsUpTo;omega
theorem upto_int {t:STab} (h : -9223372036854775808≤t.at_):max 0 (min (t.visits.length:Int) (IntKind.i64.wrap (min t.at_ 6+1)))=(visitsUpTo t:Int):=by
 rw[wrapId' (by omega) (by omega)];unfold visitsUpTo;omega
theorem upto_a {t:STab} (h:t.at_≥0):∀ {i2:Decidable (6<t.at_)} {i1:Decidable ((t.visits.length:Int)<IntKind.i64.wrap ((@ite _ (6<t.at_) i2 6 t.at_)+1))},(@ite _ ((t.visits.length:Int)<IntKind.i64.wrap ((@ite _ (6<t.at_) i2 6 t.at_)+1)) i1 (t.visits.length:Int) (IntKind.i64.wrap ((@ite _ (6<t.at_) i2 6 t.at_)+1)))=(visitsUpTo t:Int):=by
 intro i2 i1
 have e:IntKind.i64.wrap ((@ite _ (6<t.at_) i2 6 t.at_)+1)=(@ite _ (6<t.at_) i2 6 t.at_)+1:=wrapId' (by split<;>omega) (by split<;>omega)
 simp only[e] at i1 ⊢;unfold visitsUpTo;split<;>split at *<;>omega
theorem upto_b {t:STab} (h:t.at_<0):∀ {i1:Decidable ((t.visits.length:Int)<0)},(@ite _ ((t.visits.length:Int)<0) i1 (t.visits.length:Int) 0)=(visitsUpTo t:Int):=by
 intro i1;unfold visitsUpTo;split<;>omega
def pushed (t:STab) (p:SPage):List SVisit:=t.visits.take (visitsUpTo t)++[⟨p.addr,p,true⟩]
def pushVisit (t:STab) (p:SPage):STab:=if 6<(pushed t p).length then⟨(pushed t p).drop 1,((pushed t p).drop 1).length-1⟩ else⟨pushed t p,(pushed t p).length-1⟩
theorem pushed_len (t:STab) (p:SPage):(pushed t p).length=visitsUpTo t+1:=by have:=upto_le t;simp[pushed];omega
def fPushVisit:Fct:=⟨[.v (.el .tab),.v (.el .page)],[.el .tab],fun(x_:STab×SPage×Unit)=>szTab x_.1≤549755813888∧x_.1.visits.length≤1048576∧szPage x_.2.1≤549755813888∧-9223372036854775808≤x_.1.at_,fun(x_:STab×SPage×Unit)=>(pushVisit x_.1 x_.2.1,())⟩
theorem k8_42:fPushVisit.ok Tryz.prog 8:=Fct.o [2,3,4,5,34,1000034] E42ok Tryz.func8 (by
 rintro⟨(t:STab),(p:SPage),_⟩ hp
 refine ho (.cl fCopyTab (t,()) fun z2=>.cl fMin (t.at_,(6:Int),()) fun(z3:Int×PUnit)=>.cl fMin ((↑z2.1.visits.length:Int),w1 z3.1,()) fun(z4:Int×PUnit)=>.cl fMax ((0:Int),z4.1,()) fun(z5:Int×PUnit)=>.ob (0≤z5.1∧z5.1≤(↑z2.1.visits.length:Int))<|.cl fCopyPage (p,()) fun z6=>.ob (0+(z5.1.toNat-0)≤z2.1.visits.length)<|.ob (Room ((cut z2.1.visits 0 (z5.1.toNat-0)).length+[(⟨p.addr,z6.1,true⟩:SVisit)].length) 424)<|.br (decide ((↑(cut z2.1.visits 0 (z5.1.toNat-0)++[(⟨p.addr,z6.1,true⟩:SVisit)]).length:Int)>6)) (.ob ((0:Int)≤(1:Int)∧(1:Int)≤(↑(cut z2.1.visits 0 (z5.1.toNat-0)++[(⟨p.addr,z6.1,true⟩:SVisit)]).length:Int))<|.ob (1+((cut z2.1.visits 0 (z5.1.toNat-0)++[(⟨p.addr,z6.1,true⟩:SVisit)]).length-1)≤(cut z2.1.visits 0 (z5.1.toNat-0)++[(⟨p.addr,z6.1,true⟩:SVisit)]).length)<|.lf fPushVisit (⟨cut (cut z2.1.visits 0 (z5.1.toNat-0)++[(⟨p.addr,z6.1,true⟩:SVisit)]) 1 ((cut z2.1.visits 0 (z5.1.toNat-0)++[(⟨p.addr,z6.1,true⟩:SVisit)]).length-1),wr ((↑((cut z2.1.visits 0 (z5.1.toNat-0)++[(⟨p.addr,z6.1,true⟩:SVisit)]).length-1):Int)-(1:Int))⟩,())) (.lf fPushVisit (⟨cut z2.1.visits 0 (z5.1.toNat-0)++[(⟨p.addr,z6.1,true⟩:SVisit)],wr ((↑(cut z2.1.visits 0 (z5.1.toNat-0)++[(⟨p.addr,z6.1,true⟩:SVisit)]).length:Int)-(1:Int))⟩,()))) ?_
 refine cl_e ?_ fun o1 z2 ez2=>(cl_e trivial fun _ z3 ez3=>(cl_e trivial fun _ z4 ez4=>(cl_e trivial fun _ z5 ez5=>(ob_i ?_ fun o2=>cl_e ?_ fun o3 z6 ez6=>(ob_i ?_ fun o4=>ob_i ?_ fun o5=>br_i (fun h6=>ob_i ?_ fun o7=>ob_i ?_ fun o8=>lfY ?_) (fun h6=>lfY ?_))))))
 all_goals try (have hz:z2=(t,()):=(by first|exact ez2|exact ez2.symm);clear ez2;subst hz)
 all_goals
  try subst ez3
  try subst ez4
  try subst ez5
  try subst ez6
  try simp only[std0] at *
  try simp only[fCopyPage,fCopyTab,fMax,fMin,fPushVisit,std,Nat.reduceAdd,szF,toF,eqF,mkF,heF,fCopyTab,szTab,fCopyPage,fMax,fMin,cut_end,cut_from0,Nat.sub_zero,Nat.zero_add] at *
 all_goals
  have hl:=szL_len szVisit t.visits
  have hk:=upto_le t
  have hq:=pushed_len t p
  try have hx:=upto_int (t:=t) (by omega)
 all_goals try (have h2':t.at_≥0:=(by assumption);simp only[upto_a h2',Int.toNat_natCast] at *)
 all_goals try (have h2':t.at_<0:=(by first|assumption|exact Int.not_le.1 (by assumption));simp only[upto_b h2',Int.toNat_natCast] at *)
 all_goals try simp only[hx,Int.toNat_natCast] at *
 all_goals
  have he:List.take (visitsUpTo t) t.visits++[{ addr:=p.addr,page:=p,kept:=true }]=pushed t p:=rfl
  try simp only[he,List.length_take,List.length_drop] at *
  try omega
 all_goals unfold pushVisit
 all_goals first
  | (rw[if_pos (by omega),wrapId' (by omega) (by omega)];simp only[List.length_drop])
  | (rw[if_neg (by omega),wrapId' (by omega) (by omega)]))
def E43:=E42.add 8 fPushVisit
theorem E43ok:EOk Tryz.prog E43:=E42ok.add k8_42
theorem k6_43:fPushVisit.ok Tryz.prog 6:=Fct.o [2,3,4,5,6,11,38,1000011,1000038] E43ok Tryz.func6 (by
 rintro⟨(t:STab),(p:SPage),_⟩ hp
 refine ho (.cl fCopyTab (t,()) fun z2=>.br (decide (t.at_≥0)) (.ob ((0≤if(↑z2.1.visits.length:Int)<w1 ((if 6<t.at_ then(6:Int) else t.at_)) then(↑z2.1.visits.length:Int) else w1 ((if 6<t.at_ then(6:Int) else t.at_)))∧(if(↑z2.1.visits.length:Int)<w1 ((if 6<t.at_ then(6:Int) else t.at_)) then(↑z2.1.visits.length:Int) else w1 ((if 6<t.at_ then(6:Int) else t.at_)))≤(↑z2.1.visits.length:Int))<|.cl fCopyPage (p,()) fun z3=>.ob (0+((if(↑z2.1.visits.length:Int)<w1 ((if 6<t.at_ then(6:Int) else t.at_)) then(↑z2.1.visits.length:Int) else w1 ((if 6<t.at_ then(6:Int) else t.at_))).toNat-0)≤z2.1.visits.length)<|.ob (Room ((cut z2.1.visits 0 ((if(↑z2.1.visits.length:Int)<w1 ((if 6<t.at_ then(6:Int) else t.at_)) then(↑z2.1.visits.length:Int) else w1 ((if 6<t.at_ then(6:Int) else t.at_))).toNat-0)).length+[(⟨p.addr,z3.1,true⟩:SVisit)].length) 424)<|.br (decide ((↑(cut z2.1.visits 0 ((if(↑z2.1.visits.length:Int)<w1 ((if 6<t.at_ then(6:Int) else t.at_)) then(↑z2.1.visits.length:Int) else w1 ((if 6<t.at_ then(6:Int) else t.at_))).toNat-0)++[(⟨p.addr,z3.1,true⟩:SVisit)]).length:Int)>6)) (.ob ((0:Int)≤(1:Int)∧(1:Int)≤(↑(cut z2.1.visits 0 ((if(↑z2.1.visits.length:Int)<w1 ((if 6<t.at_ then(6:Int) else t.at_)) then(↑z2.1.visits.length:Int) else w1 ((if 6<t.at_ then(6:Int) else t.at_))).toNat-0)++[(⟨p.addr,z3.1,true⟩:SVisit)]).length:Int))<|.ob (1+((cut z2.1.visits 0 ((if(↑z2.1.visits.length:Int)<w1 ((if 6<t.at_ then(6:Int) else t.at_)) then(↑z2.1.visits.length:Int) else w1 ((if 6<t.at_ then(6:Int) else t.at_))).toNat-0)++[(⟨p.addr,z3.1,true⟩:SVisit)]).length-1)≤(cut z2.1.visits 0 ((if(↑z2.1.visits.length:Int)<w1 ((if 6<t.at_ then(6:Int) else t.at_)) then(↑z2.1.visits.length:Int) else w1 ((if 6<t.at_ then(6:Int) else t.at_))).toNat-0)++[(⟨p.addr,z3.1,true⟩:SVisit)]).length)<|.lf fPushVisit (⟨cut (cut z2.1.visits 0 ((if(↑z2.1.visits.length:Int)<w1 ((if 6<t.at_ then(6:Int) else t.at_)) then(↑z2.1.visits.length:Int) else w1 ((if 6<t.at_ then(6:Int) else t.at_))).toNat-0)++[(⟨p.addr,z3.1,true⟩:SVisit)]) 1 ((cut z2.1.visits 0 ((if(↑z2.1.visits.length:Int)<w1 ((if 6<t.at_ then(6:Int) else t.at_)) then(↑z2.1.visits.length:Int) else w1 ((if 6<t.at_ then(6:Int) else t.at_))).toNat-0)++[(⟨p.addr,z3.1,true⟩:SVisit)]).length-1),wr ((↑((cut z2.1.visits 0 ((if(↑z2.1.visits.length:Int)<w1 ((if 6<t.at_ then(6:Int) else t.at_)) then(↑z2.1.visits.length:Int) else w1 ((if 6<t.at_ then(6:Int) else t.at_))).toNat-0)++[(⟨p.addr,z3.1,true⟩:SVisit)]).length-1):Int)-(1:Int))⟩,())) (.lf fPushVisit (⟨cut z2.1.visits 0 ((if(↑z2.1.visits.length:Int)<w1 ((if 6<t.at_ then(6:Int) else t.at_)) then(↑z2.1.visits.length:Int) else w1 ((if 6<t.at_ then(6:Int) else t.at_))).toNat-0)++[(⟨p.addr,z3.1,true⟩:SVisit)],wr ((↑(cut z2.1.visits 0 ((if(↑z2.1.visits.length:Int)<w1 ((if 6<t.at_ then(6:Int) else t.at_)) then(↑z2.1.visits.length:Int) else w1 ((if 6<t.at_ then(6:Int) else t.at_))).toNat-0)++[(⟨p.addr,z3.1,true⟩:SVisit)]).length:Int)-(1:Int))⟩,()))) (.ob ((0≤if(↑z2.1.visits.length:Int)<0 then(↑z2.1.visits.length:Int) else(0:Int))∧(if(↑z2.1.visits.length:Int)<0 then(↑z2.1.visits.length:Int) else(0:Int))≤(↑z2.1.visits.length:Int))<|.cl fCopyPage (p,()) fun z4=>.ob (0+((if(↑z2.1.visits.length:Int)<0 then(↑z2.1.visits.length:Int) else(0:Int)).toNat-0)≤z2.1.visits.length)<|.ob (Room ((cut z2.1.visits 0 ((if(↑z2.1.visits.length:Int)<0 then(↑z2.1.visits.length:Int) else(0:Int)).toNat-0)).length+[(⟨p.addr,z4.1,true⟩:SVisit)].length) 424)<|.br (decide ((↑(cut z2.1.visits 0 ((if(↑z2.1.visits.length:Int)<0 then(↑z2.1.visits.length:Int) else(0:Int)).toNat-0)++[(⟨p.addr,z4.1,true⟩:SVisit)]).length:Int)>6)) (.ob ((0:Int)≤(1:Int)∧(1:Int)≤(↑(cut z2.1.visits 0 ((if(↑z2.1.visits.length:Int)<0 then(↑z2.1.visits.length:Int) else(0:Int)).toNat-0)++[(⟨p.addr,z4.1,true⟩:SVisit)]).length:Int))<|.ob (1+((cut z2.1.visits 0 ((if(↑z2.1.visits.length:Int)<0 then(↑z2.1.visits.length:Int) else(0:Int)).toNat-0)++[(⟨p.addr,z4.1,true⟩:SVisit)]).length-1)≤(cut z2.1.visits 0 ((if(↑z2.1.visits.length:Int)<0 then(↑z2.1.visits.length:Int) else(0:Int)).toNat-0)++[(⟨p.addr,z4.1,true⟩:SVisit)]).length)<|.lf fPushVisit (⟨cut (cut z2.1.visits 0 ((if(↑z2.1.visits.length:Int)<0 then(↑z2.1.visits.length:Int) else(0:Int)).toNat-0)++[(⟨p.addr,z4.1,true⟩:SVisit)]) 1 ((cut z2.1.visits 0 ((if(↑z2.1.visits.length:Int)<0 then(↑z2.1.visits.length:Int) else(0:Int)).toNat-0)++[(⟨p.addr,z4.1,true⟩:SVisit)]).length-1),wr ((↑((cut z2.1.visits 0 ((if(↑z2.1.visits.length:Int)<0 then(↑z2.1.visits.length:Int) else(0:Int)).toNat-0)++[(⟨p.addr,z4.1,true⟩:SVisit)]).length-1):Int)-(1:Int))⟩,())) (.lf fPushVisit (⟨cut z2.1.visits 0 ((if(↑z2.1.visits.length:Int)<0 then(↑z2.1.visits.length:Int) else(0:Int)).toNat-0)++[(⟨p.addr,z4.1,true⟩:SVisit)],wr ((↑(cut z2.1.visits 0 ((if(↑z2.1.visits.length:Int)<0 then(↑z2.1.visits.length:Int) else(0:Int)).toNat-0)++[(⟨p.addr,z4.1,true⟩:SVisit)]).length:Int)-(1:Int))⟩,())))) ?_
 refine cl_e ?_ fun o1 z2 ez2=>(br_i (fun h2=>ob_i ?_ fun o3=>cl_e ?_ fun o4 z3 ez3=>(ob_i ?_ fun o5=>ob_i ?_ fun o6=>br_i (fun h7=>ob_i ?_ fun o8=>ob_i ?_ fun o9=>lfY ?_) (fun h7=>lfY ?_))) (fun h2=>ob_i ?_ fun o10=>cl_e ?_ fun o11 z4 ez4=>(ob_i ?_ fun o12=>ob_i ?_ fun o13=>br_i (fun h14=>ob_i ?_ fun o15=>ob_i ?_ fun o16=>lfY ?_) (fun h14=>lfY ?_))))
 all_goals try (have hz:z2=(t,()):=(by first|exact ez2|exact ez2.symm);clear ez2;subst hz)
 all_goals
  try subst ez3
  try subst ez4
  try subst ez5
  try subst ez6
  try simp only[std0] at *
  try simp only[fCopyPage,fCopyTab,fPushVisit,std,Nat.reduceAdd,szF,toF,eqF,mkF,heF,fCopyTab,szTab,fCopyPage,fMax,fMin,cut_end,cut_from0,Nat.sub_zero,Nat.zero_add] at *
 all_goals
  have hl:=szL_len szVisit t.visits
  have hk:=upto_le t
  have hq:=pushed_len t p
  try have hx:=upto_int (t:=t) (by omega)
 all_goals try (have h2':t.at_≥0:=(by assumption);simp only[upto_a h2',Int.toNat_natCast] at *)
 all_goals try (have h2':t.at_<0:=(by first|assumption|exact Int.not_le.1 (by assumption));simp only[upto_b h2',Int.toNat_natCast] at *)
 all_goals try simp only[hx,Int.toNat_natCast] at *
 all_goals
  have he:List.take (visitsUpTo t) t.visits++[{ addr:=p.addr,page:=p,kept:=true }]=pushed t p:=rfl
  try simp only[he,List.length_take,List.length_drop] at *
  try omega
 all_goals unfold pushVisit
 all_goals first
  | (rw[if_pos (by omega),wrapId' (by omega) (by omega)];simp only[List.length_drop])
  | (rw[if_neg (by omega),wrapId' (by omega) (by omega)]))
def E44:=E43.add 6 fPushVisit
theorem E44ok:EOk Tryz.prog E44:=E43ok.add k6_43
theorem szL_cat {α:Type} (f:α→Nat) (l m:List α):szL f (l++m)=szL f l+szL f m:=by simp[szL];omega
theorem szL_take {α:Type} (f:α→Nat) (l:List α) (n:Nat):szL f (l.take n)≤szL f l:=by
 have h:=szL_cat f (l.take n) (l.drop n)
 rw[List.take_append_drop] at h
 omega
theorem szL_drop {α:Type} (f:α→Nat) (l:List α) (n:Nat):szL f (l.drop n)≤szL f l:=by
 have h:=szL_cat f (l.take n) (l.drop n)
 rw[List.take_append_drop] at h
 omega
theorem pushVisit_sz (t:STab) (p:SPage):szTab (pushVisit t p)≤szTab t+2*szPage p+1:=by
 have h0:szAddr p.addr≤szPage p:=by unfold szPage;omega
 have h1:=szL_take szVisit t.visits (visitsUpTo t)
 have h2:szL szVisit (pushed t p)≤szTab t+2*szPage p+1:=by
  unfold pushed
  rw[szL_cat]
  simp only[szL,szVisit,szTab,List.length_cons,List.length_nil,List.map_cons,List.map_nil,List.sum_cons,List.sum_nil] at *
  omega
 have h3:=szL_drop szVisit (pushed t p) 1
 unfold pushVisit
 split<;>simp only[szTab] at *<;>omega
def nameByte (b:UInt8):Bool:=97≤b.toNat&&b.toNat≤122
def bts (s:ByteArray):List UInt8:=s.data.toList
theorem bts_len (s:ByteArray):(bts s).length=s.size:=rfl
theorem bts_at {s:ByteArray} {i:Nat} (h:i<s.size):(bts s).drop i=s.data.getD i 0::(bts s).drop (i+1):=by
 have h2:i<s.data.size:=h
 have e:s.data.getD i 0=s.data[i]:=by unfold Array.getD;rw[dif_pos h2];rfl
 rw[List.drop_eq_getElem_cons (by rw[bts_len];exact h),e]
 rfl
theorem bts_end {s:ByteArray} {i:Nat} (h:s.size≤i):(bts s).drop i=[]:=List.drop_of_length_le h
def allB (p:UInt8→Bool) (l:List UInt8):Bool:=l.all p
theorem allB_at {p:UInt8→Bool} {s:ByteArray} {i:Nat} (h:i<s.size):allB p ((bts s).drop i)=(p (s.data.getD i 0)&&allB p ((bts s).drop (i+1))):=by rw[bts_at h];rfl
theorem allB_end {p:UInt8→Bool} {s:ByteArray} {i:Nat} (h:s.size≤i):allB p ((bts s).drop i)=true:=by rw[bts_end h];rfl
def isName (s:ByteArray):Bool:=allB nameByte (bts s)&&decide (1≤s.size∧s.size≤8)
def fIsName:Fct:=⟨[.v (.el .str)],[.el .bool],fun(x_:ByteArray×Unit)=>x_.1.size≤1000000000000000000,fun(x_:ByteArray×Unit)=>(isName x_.1,())⟩
abbrev W_spec_IsName_fIsName_2 (s:ByteArray):LInv:=⟨[⟨.s,3,true,.el .int⟩],fun _ (x_:Int×Unit)=>0≤x_.1∧x_.1≤s.size∧allB nameByte ((bts s).drop x_.1.toNat)=allB nameByte (bts s),fun(x_:Int×Unit)=>s.size-x_.1.toNat⟩
theorem k108_44:fIsName.ok Tryz.prog 108:=Fct.of (S:=fIsName) (L:=fun⟨s,_⟩=>fun|2=>some (W_spec_IsName_fIsName_2 s)|_=>none) (kp:=[0,2,3,7,19,1000007,1000019]) E44ok Tryz.func108 (by kernel_rfl) (by kernel_rfl) (by
 rintro⟨(s:ByteArray),_⟩ hp
 refine ho (lpx (W_spec_IsName_fIsName_2 s) ((0:Int),()) fun(y1:Int×PUnit) bk1=>.br (decide (y1.1<(↑s.size:Int))) (.ob (0≤y1.1∧y1.1<(↑s.size:Int))<|.br (decide ((↑(s.data.getD y1.1.toNat 0).toNat:Int)<97)) (.lf fIsName (false,())) (.ob (0≤y1.1∧y1.1<(↑s.size:Int))<|.br (decide ((↑(s.data.getD y1.1.toNat 0).toNat:Int)>122)) (.lf fIsName (false,())) (.ob (Value.string s=Value.string s)<|.ob (bk1 (w1 y1.1,()))<|.ok))) (.cl fInRange ((↑s.size:Int),(1:Int),(8:Int),()) fun z2=>.lf fIsName (z2.1,()))) ?_
 refine lpx_i ?_ fun(y1:Int×PUnit) i1=>br_i (fun h2=>ob_i ?_ fun o3=>br_i (fun h4=>lfY ?_) (fun h4=>ob_i ?_ fun o5=>br_i (fun h6=>lfY ?_) (fun h6=>ob_i rfl fun _=>ob_i ?_ fun o7=>trivial))) (fun h2=>cl_i trivial fun _=>(lfY ?_))
 all_goals
  try simp only[std0] at *
  try simp only[W_spec_IsName_fIsName_2,fInRange,fIsName,std,Nat.reduceAdd,szF,toF,eqF,mkF,heF,isName,nameByte,fInRange,inRange,allB_at,allB_end] at *
  try simp(disch:=omega) only[wrapId',toNat1] at *
  try simp(disch:=omega) only[if_pos,if_neg]
 all_goals first|trivial|omega|grind[wrapId',toNat1,good_len,maxLen,isName,nameByte,fInRange,inRange,allB_at,allB_end])
def E45:=E44.add 108 fIsName
theorem E45ok:EOk Tryz.prog E45:=E44ok.add k108_44
def valByte (b:UInt8):Bool:=(97≤b.toNat&&b.toNat≤122)||(48≤b.toNat&&b.toNat≤57)||b.toNat==47
def isValue (s:ByteArray):Bool:=allB valByte (bts s)&&decide (1≤s.size∧s.size≤20)
def fIsValue:Fct:=⟨[.v (.el .str)],[.el .bool],fun(x_:ByteArray×Unit)=>x_.1.size≤1000000000000000000,fun(x_:ByteArray×Unit)=>(isValue x_.1,())⟩
abbrev W_spec_IsValue_fIsValue_2 (s:ByteArray):LInv:=⟨[⟨.s,3,true,.el .int⟩],fun _ (x_:Int×Unit)=>0≤x_.1∧x_.1≤s.size∧allB valByte ((bts s).drop x_.1.toNat)=allB valByte (bts s),fun(x_:Int×Unit)=>s.size-x_.1.toNat⟩
theorem k138_45:fIsValue.ok Tryz.prog 138:=Fct.of (S:=fIsValue) (L:=fun⟨s,_⟩=>fun|2=>some (W_spec_IsValue_fIsValue_2 s)|_=>none) (kp:=[0,2,3,7,37,1000007,1000037]) E45ok Tryz.func138 (by kernel_rfl) (by kernel_rfl) (by
 rintro⟨(s:ByteArray),_⟩ hp
 refine ho (lpx (W_spec_IsValue_fIsValue_2 s) ((0:Int),()) fun(y1:Int×PUnit) bk1=>.br (decide (y1.1<(↑s.size:Int))) (.ob (0≤y1.1∧y1.1<(↑s.size:Int))<|.br (decide ((↑(s.data.getD y1.1.toNat 0).toNat:Int)<97)) (.ob (0≤y1.1∧y1.1<(↑s.size:Int))<|.br (decide ((↑(s.data.getD y1.1.toNat 0).toNat:Int)<48)) (.ob (0≤y1.1∧y1.1<(↑s.size:Int))<|.br ((↑(s.data.getD y1.1.toNat 0).toNat:Int) != 47) (.lf fIsValue (false,())) (.ob (Value.string s=Value.string s)<|.ob (bk1 (w1 y1.1,()))<|.ok)) (.ob (0≤y1.1∧y1.1<(↑s.size:Int))<|.br (decide ((↑(s.data.getD y1.1.toNat 0).toNat:Int)>57)) (.ob (0≤y1.1∧y1.1<(↑s.size:Int))<|.br ((↑(s.data.getD y1.1.toNat 0).toNat:Int) != 47) (.lf fIsValue (false,())) (.ob (Value.string s=Value.string s)<|.ob (bk1 (w1 y1.1,()))<|.ok)) (.ob (Value.string s=Value.string s)<|.ob (bk1 (w1 y1.1,()))<|.ok))) (.ob (0≤y1.1∧y1.1<(↑s.size:Int))<|.br (decide ((↑(s.data.getD y1.1.toNat 0).toNat:Int)>122)) (.ob (0≤y1.1∧y1.1<(↑s.size:Int))<|.br (decide ((↑(s.data.getD y1.1.toNat 0).toNat:Int)<48)) (.ob (0≤y1.1∧y1.1<(↑s.size:Int))<|.br ((↑(s.data.getD y1.1.toNat 0).toNat:Int) != 47) (.lf fIsValue (false,())) (.ob (Value.string s=Value.string s)<|.ob (bk1 (w1 y1.1,()))<|.ok)) (.ob (0≤y1.1∧y1.1<(↑s.size:Int))<|.br (decide ((↑(s.data.getD y1.1.toNat 0).toNat:Int)>57)) (.ob (0≤y1.1∧y1.1<(↑s.size:Int))<|.br ((↑(s.data.getD y1.1.toNat 0).toNat:Int) != 47) (.lf fIsValue (false,())) (.ob (Value.string s=Value.string s)<|.ob (bk1 (w1 y1.1,()))<|.ok)) (.ob (Value.string s=Value.string s)<|.ob (bk1 (w1 y1.1,()))<|.ok))) (.ob (Value.string s=Value.string s)<|.ob (bk1 (w1 y1.1,()))<|.ok))) (.cl fInRange ((↑s.size:Int),(1:Int),(20:Int),()) fun z2=>.lf fIsValue (z2.1,()))) ?_
 refine lpx_i ?_ fun(y1:Int×PUnit) i1=>br_i (fun h2=>ob_i ?_ fun o3=>br_i (fun h4=>ob_i ?_ fun o5=>br_i (fun h6=>ob_i ?_ fun o7=>br_i (fun h8=>lfY ?_) (fun h8=>ob_i rfl fun _=>ob_i ?_ fun o9=>trivial)) (fun h6=>ob_i ?_ fun o10=>br_i (fun h11=>ob_i ?_ fun o12=>br_i (fun h13=>lfY ?_) (fun h13=>ob_i rfl fun _=>ob_i ?_ fun o14=>trivial)) (fun h11=>ob_i rfl fun _=>ob_i ?_ fun o15=>trivial))) (fun h4=>ob_i ?_ fun o16=>br_i (fun h17=>ob_i ?_ fun o18=>br_i (fun h19=>ob_i ?_ fun o20=>br_i (fun h21=>lfY ?_) (fun h21=>ob_i rfl fun _=>ob_i ?_ fun o22=>trivial)) (fun h19=>ob_i ?_ fun o23=>br_i (fun h24=>ob_i ?_ fun o25=>br_i (fun h26=>lfY ?_) (fun h26=>ob_i rfl fun _=>ob_i ?_ fun o27=>trivial)) (fun h24=>ob_i rfl fun _=>ob_i ?_ fun o28=>trivial))) (fun h17=>ob_i rfl fun _=>ob_i ?_ fun o29=>trivial))) (fun h2=>cl_i trivial fun _=>(lfY ?_))
 all_goals
  try simp only[std0] at *
  try simp only[W_spec_IsValue_fIsValue_2,fInRange,fIsValue,std,Nat.reduceAdd,szF,toF,eqF,mkF,heF,isValue,valByte,fInRange,inRange,allB_at,allB_end] at *
  try simp(disch:=omega) only[wrapId',toNat1] at *
  try simp(disch:=omega) only[if_pos,if_neg]
 all_goals first|trivial|omega|grind[wrapId',toNat1,good_len,maxLen,isValue,valByte,fInRange,inRange,allB_at,allB_end])
def E46:=E45.add 138 fIsValue
theorem E46ok:EOk Tryz.prog E46:=E45ok.add k138_45
def fIsAddr:Fct:=⟨[.v (.el .addr)],[.el .bool],fun(x_:SAddr×Unit)=>x_.1.host.size≤1000000000000000000∧x_.1.path.size≤1000000000000000000,fun(x_:SAddr×Unit)=>(isName x_.1.host&&isName x_.1.path,())⟩
theorem k118_46:fIsAddr.ok Tryz.prog 118:=Fct.o [1,2] E46ok Tryz.func118 (by
 rintro⟨(a:SAddr),_⟩ hp
 refine ho (.cl fIsName (a.host,()) fun z2=>.br (z2.1) (.cl fIsName (a.path,()) fun z3=>.lf fIsAddr (z3.1,())) (.lf fIsAddr (false,()))) ?_
 refine cl_i ?_ fun o1=>(br_i (fun h2=>cl_i ?_ fun o3=>(lfY ?_)) (fun h2=>lfY ?_))
 all_goals
  try simp only[std0] at *
  try simp only[fIsAddr,fIsName,std,Nat.reduceAdd,szF,toF,eqF,mkF,heF,fIsName] at *
  try simp(disch:=omega) only[wrapId',toNat1] at *
  try simp(disch:=omega) only[if_pos,if_neg]
 all_goals first|trivial|omega|grind[wrapId',toNat1,drop_cons,drop_end,good_len,maxLen,fIsName])
def E47:=E46.add 118 fIsAddr
theorem E47ok:EOk Tryz.prog E47:=E46ok.add k118_46
theorem szStr_get {l:List ByteArray} {i:Nat} (h:i<l.length):(l.getD i default).size+l.length≤szL szString l:=by
 have:=szL_get szString h
 simp only[szString] at this;omega
def fNames:Fct:=⟨[.v (.sl .str)],[.el .bool],fun(x_:(List ByteArray)×Unit)=>szL szString x_.1≤1099511627776,fun(x_:(List ByteArray)×Unit)=>(x_.1.all isName&&decide (x_.1.length≤4),())⟩
abbrev W_spec_l9Names_fNames_2 (l:(List ByteArray)):LInv:=⟨[⟨.s,3,true,.el .int⟩],fun _ (x_:Int×Unit)=>0≤x_.1∧x_.1≤l.length∧(l.drop x_.1.toNat).all isName=l.all isName,fun(x_:Int×Unit)=>l.length-x_.1.toNat⟩
theorem k137_47:fNames.ok Tryz.prog 137:=Fct.of (S:=fNames) (L:=fun⟨l,_⟩=>fun|2=>some (W_spec_l9Names_fNames_2 l)|_=>none) (kp:=[0,2,3,7,15,1000007,1000015]) E47ok Tryz.func137 (by kernel_rfl) (by kernel_rfl) (by
 rintro⟨(l:List ByteArray),_⟩ hp
 refine ho (lpx (W_spec_l9Names_fNames_2 l) ((0:Int),()) fun(y1:Int×PUnit) bk1=>.br (decide (y1.1<(↑l.length:Int))) (.ob (inB y1.1 l.length)<|.cl fIsName (l.getD y1.1.toNat default,()) fun z2=>.br (!z2.1) (.lf fNames (false,())) (.ob (l=l)<|.ob (bk1 (w1 y1.1,()))<|.ok)) (.lf fNames (decide ((↑l.length:Int)≤4),()))) ?_
 refine lpx_i ?_ fun(y1:Int×PUnit) i1=>br_i (fun h2=>ob_i ?_ fun o3=>cl_i ?_ fun o4=>(br_i (fun h5=>lfY ?_) (fun h5=>ob_i rfl fun _=>ob_i ?_ fun o6=>trivial))) (fun h2=>lfY ?_)
 all_goals
  have hl:=szL_len szString l
  have hg:∀ i,i<l.length→(l.getD i default).size≤1000000000000000000:=fun i h=>by have:=szStr_get h;have hp2:szL szString l≤1099511627776:=hp;omega
  try simp only[std0] at *
  try simp only[W_spec_l9Names_fNames_2,fIsName,fNames,std,Nat.reduceAdd,szF,toF,eqF,mkF,heF,fIsName] at *
  try simp(disch:=omega) only[wrapId',toNat1] at *
  try simp(disch:=omega) only[if_pos,if_neg]
 all_goals first|trivial|omega|grind[wrapId',toNat1,drop_cons,drop_end,good_len,maxLen,fIsName])
def E48:=E47.add 137 fNames
theorem E48ok:EOk Tryz.prog E48:=E47ok.add k137_47
def isPolicy (p:SPolicy):Bool:=if p.set_ then p.scripts.all isName&&decide (p.scripts.length≤4)&&(p.styles.all isName&&decide (p.styles.length≤4))&&(p.images.all isName&&decide (p.images.length≤4))&&(decide (p.nonce=⟨#[]⟩)||isValue p.nonce) else decide (p.scripts.length=0∧p.styles.length=0∧p.images.length=0∧p.nonce=⟨#[]⟩)
def fIsPolicy:Fct:=⟨[.v (.el .policy)],[.el .bool],fun(x_:SPolicy×Unit)=>szPolicy x_.1≤1099511627776,fun(x_:SPolicy×Unit)=>(isPolicy x_.1,())⟩
theorem k112_48:fIsPolicy.ok Tryz.prog 112:=Fct.o [1,2,5,1000005] E48ok Tryz.func112 (by
 rintro⟨(p:SPolicy),_⟩ hp
 refine ho (.br (!p.set_) (.br ((↑p.scripts.length:Int)==0) (.br ((↑p.styles.length:Int)==0) (.br ((↑p.images.length:Int)==0) (.lf fIsPolicy (p.nonce.toList==(⟨#[]⟩:ByteArray).toList,())) (.lf fIsPolicy (false,()))) (.lf fIsPolicy (false,()))) (.lf fIsPolicy (false,()))) (.cl fNames (p.scripts,()) fun z2=>.br (z2.1) (.cl fNames (p.styles,()) fun z3=>.br (z3.1) (.cl fNames (p.images,()) fun z4=>.br (z4.1) (.br (p.nonce.toList==(⟨#[]⟩:ByteArray).toList) (.lf fIsPolicy (true,())) (.cl fIsValue (p.nonce,()) fun z5=>.lf fIsPolicy (z5.1,()))) (.lf fIsPolicy (false,()))) (.lf fIsPolicy (false,()))) (.lf fIsPolicy (false,())))) ?_
 refine br_i (fun h1=>br_i (fun h2=>br_i (fun h3=>br_i (fun h4=>lfY ?_) (fun h4=>lfY ?_)) (fun h3=>lfY ?_)) (fun h2=>lfY ?_)) (fun h1=>cl_i ?_ fun o5=>(br_i (fun h6=>cl_i ?_ fun o7=>(br_i (fun h8=>cl_i ?_ fun o9=>(br_i (fun h10=>br_i (fun h11=>lfY ?_) (fun h11=>cl_i ?_ fun o12=>(lfY ?_))) (fun h10=>lfY ?_))) (fun h8=>lfY ?_))) (fun h6=>lfY ?_)))
 all_goals
  try simp only[std0] at *
  try simp only[fIsPolicy,fIsValue,fNames,std,Nat.reduceAdd,szF,toF,eqF,mkF,heF,isPolicy,fNames,fIsValue,szPolicy] at *
  try simp(disch:=omega) only[wrapId',toNat1] at *
  try simp(disch:=omega) only[if_pos,if_neg]
 all_goals first|trivial|omega|grind[wrapId',toNat1,drop_cons,drop_end,good_len,maxLen,isPolicy,fNames,fIsValue,szPolicy])
def E49:=E48.add 112 fIsPolicy
theorem E49ok:EOk Tryz.prog E49:=E48ok.add k112_48
def fAllows:Fct:=⟨[.v (.el .policy),.v (.el .int),.v (.el .str)],[.el .bool],fun(x_:SPolicy×Int×ByteArray×Unit)=>szPolicy x_.1≤1099511627776,fun(x_:SPolicy×Int×ByteArray×Unit)=>(!x_.1.set_||(if x_.2.1=2∨x_.2.1=5 then x_.1.scripts.any (fun c=>decide (c=x_.2.2.1)) else if x_.2.1=3 then x_.1.styles.any (fun c=>decide (c=x_.2.2.1)) else if x_.2.1=4 then x_.1.images.any (fun c=>decide (c=x_.2.2.1)) else false),())⟩
theorem k152_49:fAllows.ok Tryz.prog 152:=Fct.o [1,2,3,6,7,11,22,29,1000007,1000011,1000022,1000029] E49ok Tryz.func152 (by
 rintro⟨(p:SPolicy),(k:Int),(h:ByteArray),_⟩ hp
 refine ho (.br (!p.set_) (.lf fAllows (true,())) (.br (k==2) (.cl fHas9 (p.scripts,h,()) fun z2=>.lf fAllows (z2.1,())) (.br (k==5) (.cl fHas9 (p.scripts,h,()) fun z3=>.lf fAllows (z3.1,())) (.br (k==3) (.cl fHas9 (p.styles,h,()) fun z4=>.lf fAllows (z4.1,())) (.br (k==4) (.cl fHas9 (p.images,h,()) fun z5=>.lf fAllows (z5.1,())) (.lf fAllows (false,()))))))) ?_
 refine br_i (fun h1=>lfY ?_) (fun h1=>br_i (fun h2=>cl_i ?_ fun o3=>(lfY ?_)) (fun h2=>br_i (fun h4=>cl_i ?_ fun o5=>(lfY ?_)) (fun h4=>br_i (fun h6=>cl_i ?_ fun o7=>(lfY ?_)) (fun h6=>br_i (fun h8=>cl_i ?_ fun o9=>(lfY ?_)) (fun h8=>lfY ?_)))))
 all_goals
  have hl1:=szL_len szString p.scripts
  have hl2:=szL_len szString p.styles
  have hl3:=szL_len szString p.images
  try simp only[std0] at *
  try simp only[fAllows,fHas9,std,Nat.reduceAdd,szF,toF,eqF,mkF,heF,fHas9,fContains_str,szPolicy] at *
  try simp(disch:=omega) only[wrapId',toNat1] at *
  try simp(disch:=omega) only[if_pos,if_neg]
 all_goals first|trivial|omega|grind[wrapId',toNat1,drop_cons,drop_end,good_len,maxLen,fHas9,fContains_str,szPolicy])
def E50:=E49.add 152 fAllows
theorem E50ok:EOk Tryz.prog E50:=E49ok.add k152_49
def isRequest (r:SRequest):Bool:=inRange r.kind 1 5&&(isName r.to.host&&isName r.to.path)&&isName r.from_&&(decide (r.digest=⟨#[]⟩)||isValue r.digest)
def fIsRequest:Fct:=⟨[.v (.el .request)],[.el .bool],fun(x_:SRequest×Unit)=>szRequest x_.1≤1099511627776,fun(x_:SRequest×Unit)=>(isRequest x_.1,())⟩
theorem k151_50:fIsRequest.ok Tryz.prog 151:=Fct.o [1,2] E50ok Tryz.func151 (by
 rintro⟨(r:SRequest),_⟩ hp
 refine ho (.cl fInRange (r.kind,(1:Int),(5:Int),()) fun z2=>.br (z2.1) (.cl fIsAddr (r.to,()) fun z3=>.br (z3.1) (.cl fIsName (r.from_,()) fun z4=>.br (z4.1) (.br (r.digest.toList==(⟨#[]⟩:ByteArray).toList) (.lf fIsRequest (true,())) (.cl fIsValue (r.digest,()) fun z5=>.lf fIsRequest (z5.1,()))) (.lf fIsRequest (false,()))) (.lf fIsRequest (false,()))) (.lf fIsRequest (false,()))) ?_
 refine cl_i trivial fun _=>(br_i (fun h1=>cl_i ?_ fun o2=>(br_i (fun h3=>cl_i ?_ fun o4=>(br_i (fun h5=>br_i (fun h6=>lfY ?_) (fun h6=>cl_i ?_ fun o7=>(lfY ?_))) (fun h5=>lfY ?_))) (fun h3=>lfY ?_))) (fun h1=>lfY ?_))
 all_goals
  try simp only[std0] at *
  try simp only[fInRange,fIsAddr,fIsName,fIsRequest,fIsValue,std,Nat.reduceAdd,szF,toF,eqF,mkF,heF,isRequest,fIsName,fIsAddr,fIsValue,fInRange,szRequest,szAddr] at *
  try simp(disch:=omega) only[wrapId',toNat1] at *
  try simp(disch:=omega) only[if_pos,if_neg]
 all_goals first|trivial|omega|grind[wrapId',toNat1,drop_cons,drop_end,good_len,maxLen,isRequest,fIsName,fIsAddr,fIsValue,fInRange,szRequest,szAddr])
def E51:=E50.add 151 fIsRequest
theorem E51ok:EOk Tryz.prog E51:=E50ok.add k151_50
def allows (p:SPolicy) (k:Int) (h:ByteArray):Bool:=(fAllows.fn (p,k,h,())).1
def checkRequest (p:SPolicy) (r:SRequest):Int:=if isRequest r&&(decide (r.kind=1)||allows p r.kind r.to.host) then 1 else 2
def fCheckRequest:Fct:=⟨[.v (.el .policy),.v (.el .request)],[.el .int],fun(x_:SPolicy×SRequest×Unit)=>szPolicy x_.1≤1099511627776∧szRequest x_.2.1≤1099511627776,fun(x_:SPolicy×SRequest×Unit)=>(checkRequest x_.1 x_.2.1,())⟩
theorem k132_51:fCheckRequest.ok Tryz.prog 132:=Fct.o [2,3,4,22,1000022] E51ok Tryz.func132 (by
 rintro⟨(p:SPolicy),(r:SRequest),_⟩ hp
 refine ho (.cl fIsRequest (r,()) fun z2=>.br (!z2.1) (.lf fCheckRequest ((2:Int),())) (.br (r.kind != 1) (.cl fAllows (p,r.kind,r.to.host,()) fun z3=>.br (!z3.1) (.lf fCheckRequest ((2:Int),())) (.lf fCheckRequest ((1:Int),()))) (.lf fCheckRequest ((1:Int),())))) ?_
 refine cl_i ?_ fun o1=>(br_i (fun h2=>lfY ?_) (fun h2=>br_i (fun h3=>cl_i ?_ fun o4=>(br_i (fun h5=>lfY ?_) (fun h5=>lfY ?_))) (fun h3=>lfY ?_)))
 all_goals
  try simp only[std0] at *
  try simp only[fAllows,fCheckRequest,fIsRequest,std,Nat.reduceAdd,szF,toF,eqF,mkF,heF,checkRequest,allows,fAllows,fIsRequest] at *
  try simp(disch:=omega) only[wrapId',toNat1] at *
  try simp(disch:=omega) only[if_pos,if_neg]
 all_goals first|trivial|omega|grind[wrapId',toNat1,drop_cons,drop_end,good_len,maxLen,checkRequest,allows,fAllows,fIsRequest])
def E52:=E51.add 132 fCheckRequest
theorem E52ok:EOk Tryz.prog E52:=E51ok.add k132_51
def fFitsKind:Fct:=⟨[.v (.el .response),.v (.el .int)],[.el .bool],fun(x_:SResponse×Int×Unit)=>True,fun(x_:SResponse×Int×Unit)=>(decide (x_.1.kind=x_.2.1)||decide (x_.2.1=5∧x_.1.kind=2),())⟩
theorem k133_52:fFitsKind.ok Tryz.prog 133:=Fct.o [1,2,4] E52ok Tryz.func133 (by
 rintro⟨(x:SResponse),(k:Int),_⟩ hp
 refine ho (.br (x.kind==k) (.lf fFitsKind (true,())) (.br (k==5) (.lf fFitsKind (x.kind==2,())) (.lf fFitsKind (false,())))) ?_
 refine br_i (fun h1=>lfY ?_) (fun h1=>br_i (fun h2=>lfY ?_) (fun h2=>lfY ?_))
 all_goals
  try simp only[std0] at *
  try simp only[fFitsKind,std,Nat.reduceAdd,szF,toF,eqF,mkF,heF] at *
  try simp(disch:=omega) only[wrapId',toNat1] at *
  try simp(disch:=omega) only[if_pos,if_neg]
 all_goals first|trivial|omega|grind[wrapId',toNat1,drop_cons,drop_end,good_len,maxLen])
def E53:=E52.add 133 fFitsKind
theorem E53ok:EOk Tryz.prog E53:=E52ok.add k133_52
def notFound:SResponse:=⟨404,1,⟨#[]⟩,0,false,⟨#[]⟩⟩
def fNotFound:Fct:=⟨[],[rE .response],fun _=>True,fun _=>(notFound,())⟩
theorem k81_53:fNotFound.ok Tryz.prog 81:=Fct.o [0] E53ok Tryz.func81 (by
 rintro⟨_⟩ hp
 refine ho (.lf fNotFound (⟨(404:Int),(1:Int),(⟨#[]⟩:ByteArray),(0:Int),false,(⟨#[]⟩:ByteArray)⟩,())) ?_
 refine lfY ?_
 all_goals
  try simp only[std0] at *
  try simp only[fNotFound,std,Nat.reduceAdd,szF,toF,eqF,mkF,heF] at *
 all_goals first|trivial|omega|(simp_all;done)|(simp_all;omega)|grind)
def E54:=E53.add 81 fNotFound
theorem E54ok:EOk Tryz.prog E54:=E53ok.add k81_53
def fCopyServers:Fct:=⟨[.v (.sl .server)],[.sl .server],fun(x_:(List SServer)×Unit)=>szL szServer x_.1≤68719476736,fun(x_:(List SServer)×Unit)=>(x_.1,())⟩
abbrev W_spec_l12Copy_fCopyServers_3 (l:(List SServer)):LInv:=⟨[⟨.s,3,true,.sl .server⟩,⟨.s,4,true,.el .int⟩],fun _ (x_:(List SServer)×Int×Unit)=>0≤x_.2.1∧x_.2.1≤l.length∧x_.1=l.take x_.2.1.toNat,fun(x_:(List SServer)×Int×Unit)=>l.length-x_.2.1.toNat⟩
theorem k83_54:fCopyServers.ok Tryz.prog 83:=Fct.of (S:=fCopyServers) (L:=fun⟨l,_⟩=>fun|3=>some (W_spec_l12Copy_fCopyServers_3 l)|_=>none) (kp:=[0,2,3,4,9,1000009]) E54ok Tryz.func83 (by kernel_rfl) (by kernel_rfl) (by
 rintro⟨(l:List SServer),_⟩ hp
 refine ho (lpx (W_spec_l12Copy_fCopyServers_3 l) ([],((0:Int),())) fun(y1:List SServer×Int×PUnit) bk1=>.br (decide (y1.2.1<(↑l.length:Int))) (.ob (inB y1.2.1 l.length)<|.ob (inB y1.2.1 l.length)<|.ob (True)<|.ob (Room (l.getD y1.2.1.toNat default).files.length 80)<|.ob (Room (y1.1.length+[l.getD y1.2.1.toNat default].length) 40)<|.ob (l=l)<|.ob (bk1 (y1.1++[l.getD y1.2.1.toNat default],(w1 y1.2.1,())))<|.ok) (.lf fCopyServers (y1.1,()))) ?_
 refine lpx_i ?_ fun(y1:List SServer×Int×PUnit) i1=>br_i (fun h2=>ob_i ?_ fun o3=>ob_i ?_ fun o4=>ob_i trivial fun _=>ob_i ?_ fun o5=>ob_i ?_ fun o6=>ob_i rfl fun _=>ob_i ?_ fun o7=>trivial) (fun h2=>lfY ?_)
 all_goals
  have hl:=szL_len szServer l
  have hg:∀ i,i<l.length→(l.getD i default).files.length≤68719476736:=fun i h=>by have:=szServer_get h;have hp2:szL szServer l≤68719476736:=hp;omega
  try simp only[std0] at *
  try simp only[W_spec_l12Copy_fCopyServers_3,fCopyServers,std,Nat.reduceAdd,szF,toF,eqF,mkF,heF,take_succ,take_end] at *
  try simp(disch:=omega) only[wrapId',toNat1] at *
  try simp(disch:=omega) only[if_pos,if_neg]
 all_goals first|trivial|omega|grind[wrapId',toNat1,drop_cons,drop_end,good_len,maxLen,take_succ,take_end])
def E55:=E54.add 83 fCopyServers
theorem E55ok:EOk Tryz.prog E55:=E54ok.add k83_54
def fServerAt:Fct:=⟨[.v (.sl .server),.v (.el .str)],[.el .int],fun(x_:(List SServer)×ByteArray×Unit)=>x_.1.length≤1000000000000,fun(x_:(List SServer)×ByteArray×Unit)=>(fidx (fun s=>decide (s.host=x_.2.1)) x_.1 0,())⟩
abbrev W_spec_l12Server_fServerAt_2 (l:(List SServer)) (h:ByteArray):LInv:=⟨[⟨.s,5,true,.el .int⟩],fun _ (x_:Int×Unit)=>0≤x_.1∧x_.1≤l.length∧fidx (fun s=>decide (s.host=h)) (l.drop x_.1.toNat) x_.1=fidx (fun s=>decide (s.host=h)) l 0,fun(x_:Int×Unit)=>l.length-x_.1.toNat⟩
theorem k80_55:fServerAt.ok Tryz.prog 80:=Fct.of (S:=fServerAt) (L:=fun⟨l,h,_⟩=>fun|2=>some (W_spec_l12Server_fServerAt_2 l h)|_=>none) (kp:=[0,1,4,5,9,18,1000009,1000018]) E55ok Tryz.func80 (by kernel_rfl) (by kernel_rfl) (by
 rintro⟨(l:List SServer),(h:ByteArray),_⟩ hp
 refine ho (lpx (W_spec_l12Server_fServerAt_2 l h) ((0:Int),()) fun(y1:Int×PUnit) bk1=>.br (decide (y1.1<(↑l.length:Int))) (.ob (inB y1.1 l.length)<|.br ((l.getD y1.1.toNat default).host.toList==h.toList) (.lf fServerAt (y1.1,())) (.ob (l=l)<|.ob (Value.string h=Value.string h)<|.ob (bk1 (w1 y1.1,()))<|.ok)) (.lf fServerAt ((-1:Int),()))) ?_
 refine lpx_i ?_ fun(y1:Int×PUnit) i1=>br_i (fun h2=>ob_i ?_ fun o3=>br_i (fun h4=>lfY ?_) (fun h4=>ob_i rfl fun _=>ob_i rfl fun _=>ob_i ?_ fun o5=>trivial)) (fun h2=>lfY ?_)
 all_goals
  try simp only[std0] at *
  try simp only[W_spec_l12Server_fServerAt_2,fServerAt,std,Nat.reduceAdd,szF,toF,eqF,mkF,heF,fidx] at *
  try simp(disch:=omega) only[wrapId',toNat1] at *
  try simp(disch:=omega) only[if_pos,if_neg]
 all_goals first|trivial|omega|grind[wrapId',toNat1,drop_cons,drop_end,good_len,maxLen,fidx])
def E56:=E55.add 80 fServerAt
theorem E56ok:EOk Tryz.prog E56:=E55ok.add k80_55
def fFileAt:Fct:=⟨[.v (.el .server),.v (.el .str)],[.el .int],fun(x_:SServer×ByteArray×Unit)=>x_.1.files.length≤1000000000000,fun(x_:SServer×ByteArray×Unit)=>(fidx (fun f=>decide (f.path=x_.2.1)) x_.1.files 0,())⟩
abbrev W_spec_l12File_fFileAt_2 (s:SServer) (p:ByteArray):LInv:=⟨[⟨.s,5,true,.el .int⟩,⟨.b,2,false,.el .server⟩],fun(z_:Int×SServer×Unit) (x_:Int×SServer×Unit)=>(0≤x_.1∧x_.1≤s.files.length∧fidx (fun f=>decide (f.path=p)) (s.files.drop x_.1.toNat) x_.1=fidx (fun f=>decide (f.path=p)) s.files 0)∧x_.2.1=z_.2.1,fun(x_:Int×SServer×Unit)=>s.files.length-x_.1.toNat⟩
theorem k82_56:fFileAt.ok Tryz.prog 82:=Fct.of (S:=fFileAt) (L:=fun⟨s,p,_⟩=>fun|2=>some (W_spec_l12File_fFileAt_2 s p)|_=>none) (kp:=[1,2,4,5,10,20,1000010,1000020]) E56ok Tryz.func82 (by kernel_rfl) (by kernel_rfl) (by
 rintro⟨(s:SServer),(p:ByteArray),_⟩ hp
 refine ho (lpx (W_spec_l12File_fFileAt_2 s p) ((0:Int),(s,())) fun(y1:Int×SServer×PUnit) bk1=>.br (decide (y1.1<(↑y1.2.1.files.length:Int))) (.ob (inB y1.1 y1.2.1.files.length)<|.br ((y1.2.1.files.getD y1.1.toNat default).path.toList==p.toList) (.lf fFileAt (y1.1,())) (.ob (Value.string p=Value.string p)<|.ob (bk1 (w1 y1.1,(y1.2.1,())))<|.ok)) (.lf fFileAt ((-1:Int),()))) ?_
 refine lpx_i ?_ fun(y1:Int×SServer×PUnit) i1=>br_i (fun h2=>ob_i ?_ fun o3=>br_i (fun h4=>lfY ?_) (fun h4=>ob_i rfl fun _=>ob_i ?_ fun o5=>trivial)) (fun h2=>lfY ?_)
 all_goals
  try simp only[std0] at *
  try simp only[W_spec_l12File_fFileAt_2,fFileAt,std,Nat.reduceAdd,szF,toF,eqF,mkF,heF,fidx] at *
  try simp(disch:=omega) only[wrapId',toNat1] at *
  try simp(disch:=omega) only[if_pos,if_neg]
 all_goals first|trivial|omega|grind[wrapId',toNat1,drop_cons,drop_end,good_len,maxLen,fidx])
def E57:=E56.add 82 fFileAt
theorem E57ok:EOk Tryz.prog E57:=E56ok.add k82_56
def answerTo (l:List SServer) (a:SAddr):SResponse:=if fidx (fun s=>decide (s.host=a.host)) l 0<0 then notFound else if fidx (fun f=>decide (f.path=a.path)) (l.getD (fidx (fun s=>decide (s.host=a.host)) l 0).toNat default).files 0<0 then notFound else((l.getD (fidx (fun s=>decide (s.host=a.host)) l 0).toNat default).files.getD (fidx (fun f=>decide (f.path=a.path)) (l.getD (fidx (fun s=>decide (s.host=a.host)) l 0).toNat default).files 0).toNat default).response
def fAnswerTo:Fct:=⟨[.v (.sl .server),.v (.el .addr)],[.el .response],fun(x_:(List SServer)×SAddr×Unit)=>szL szServer x_.1≤68719476736,fun(x_:(List SServer)×SAddr×Unit)=>(answerTo x_.1 x_.2.1,())⟩
theorem k62_57:fAnswerTo.ok Tryz.prog 62:=Fct.o [0,3,4,5,6,12,22,1000012,1000022] E57ok Tryz.func62 (by
 rintro⟨(l:List SServer),(a:SAddr),_⟩ hp
 refine ho (.cl fServerAt (l,a.host,()) fun(z2:Int×PUnit)=>.br (decide (z2.1<0)) (.cl fNotFound () fun z3=>.lf fAnswerTo (z3.1,())) (.ob (0≤z2.1∧z2.1<(↑(List.length l):Int))<|.cl fFileAt (List.getD l z2.1.toNat default,a.path,()) fun(z4:Int×PUnit)=>.br (decide (z4.1<0)) (.cl fNotFound () fun z5=>.lf fAnswerTo (z5.1,())) (.ob (0≤z2.1∧z2.1<(↑(List.length l):Int))<|.ob (0≤z4.1∧z4.1<(↑(List.getD l z2.1.toNat default).files.length:Int))<|.lf fAnswerTo (((List.getD l z2.1.toNat default).files.getD z4.1.toNat default).response,())))) ?_
 refine cl_i ?_ fun o1=>(br_i (fun h2=>cl_i trivial fun _=>(lfY ?_)) (fun h2=>ob_i ?_ fun o3=>cl_i ?_ fun o4=>(br_i (fun h5=>cl_i trivial fun _=>(lfY ?_)) (fun h5=>ob_i ?_ fun o6=>ob_i ?_ fun o7=>lfY ?_))))
 all_goals
  have hl:=szL_len szServer l
  have hg:∀ i,i<l.length→(l.getD i default).files.length≤68719476736:=fun i h=>by have:=szServer_get h;have hp2:szL szServer l≤68719476736:=hp;omega
  have hf:=fidx_lt (fun s:SServer=>decide (s.host=a.host)) l 0 (by omega)
  have hf2:=fun fs=>fidx_lt (fun f:SFile=>decide (f.path=a.path)) fs 0 (by omega)
  try simp only[std0] at *
  try simp only[fAnswerTo,fFileAt,fNotFound,fServerAt,std,Nat.reduceAdd,szF,toF,eqF,mkF,heF,answerTo,fServerAt,fFileAt,fNotFound] at *
  try simp(disch:=omega) only[wrapId',toNat1] at *
  try simp(disch:=omega) only[if_pos,if_neg]
 all_goals first|trivial|omega|grind[wrapId',toNat1,drop_cons,drop_end,good_len,maxLen,answerTo,fServerAt,fFileAt,fNotFound])
def E58:=E57.add 62 fAnswerTo
theorem E58ok:EOk Tryz.prog E58:=E57ok.add k62_57
theorem find_fidx {α:Type} [Inhabited α] (p:α→Bool):∀ (l:List α) (i:Int),0≤i→l.find? p=if 0≤fidx p l i then some (l.getD (fidx p l i-i).toNat default) else none:=by
 intro l
 induction l with
 | nil=>intro i _;simp[fidx]
 | cons x l ih=>
  intro i hi
  simp only[List.find?_cons,fidx]
  by_cases hx:p x=true
  ·simp[hx,hi]
  ·
   have hx:p x=false:=by simpa using hx
   have h1:=fidx_lt p l (i+1) (by omega)
   have h2:=ih (i+1) (by omega)
   simp only[hx,Bool.false_eq_true,if_false,h2]
   split
   ·rename_i h3
    have h4:i+1≤fidx p l (i+1):=by
     have:∀ (l:List α) (i:Int),0≤i→0≤fidx p l i→i≤fidx p l i:=by
      intro l
      induction l with
      | nil=>intro i _ h;simp[fidx] at h
      | cons y l ih=>
       intro i hi h
       simp only[fidx] at h ⊢
       split
       ·omega
       ·rename_i hy
        rw[if_neg hy] at h
        have:=ih (i+1) (by omega) h
        omega
     exact this l (i+1) (by omega) h3
    have h5:(fidx p l (i+1)-i).toNat=(fidx p l (i+1)-(i+1)).toNat+1:=by omega
    rw[h5];rfl
   ·rfl
def modM (n m:Int):Int:=if 1≤m∧m≤1000000000000 then n.emod m else 0
def fMod:Fct:=⟨[.v (.el .int),.v (.el .int)],[.el .int],fun(x_:Int×Int×Unit)=>-9223372036854775808≤x_.1∧x_.1≤9223372036854775807,fun(x_:Int×Int×Unit)=>(modM x_.1 x_.2.1,())⟩
theorem tmod_emod1 {n m:Int} (hm:0<m):(n.tmod m+m).tmod m=n.emod m:=by
 have h1:=Int.tmod_lt_of_pos n hm
 have h2 : -m<n.tmod m:=by
  have:=Int.lt_tmod_of_pos n hm
  omega
 rw[Int.tmod_eq_emod_of_nonneg (by omega)]
 rw[Int.tmod_eq_emod]
 split
 ·simp;rfl
 ·rw[show n % m-m.natAbs+m=n % m by omega];simp;rfl
theorem tmod_emod2 {n m:Int} (hm:0<m):(if n.tmod m<0 then n.tmod m+m else n.tmod m)=n.emod m:=by
 have h0:=Int.emod_nonneg n (show m≠0 by omega)
 have h3:=Int.emod_lt_of_pos n hm
 have e0:n.emod m=n % m:=rfl
 rw[Int.tmod_eq_emod,e0]
 split<;>split<;>omega
theorem k163_58:fMod.ok Tryz.prog 163:=Fct.o [0,1,4,7,1000007] E58ok Tryz.func163 (by
 rintro⟨(n:Int),(m:Int),_⟩ hp
 refine ho (.cl fInRange (m,(1:Int),(1000000000000:Int),()) fun z2=>.br (!z2.1) (.lf fMod ((0:Int),())) (.ob (m≠(0:Int))<|.ob (m≠(0:Int))<|.lf fMod ((wr (Int.tmod n m+m)).tmod m,()))) ?_
 refine cl_i trivial fun _=>(br_i (fun h1=>lfY ?_) (fun h1=>ob_i ?_ fun o2=>ob_i ?_ fun o3=>lfY ?_))
 all_goals (by_cases hm:1≤m∧m≤1000000000000)
 all_goals
  try have e1:=tmod_emod1 (n:=n) (m:=m) (by omega)
  try have e2:=tmod_emod2 (n:=n) (m:=m) (by omega)
  try have e3:=Int.tmod_lt_of_pos n (show 0<m by omega)
  try have e4:=Int.lt_tmod_of_pos n (show 0<m by omega)
  try simp only[std0] at *
  try simp only[fInRange,fMod,std,Nat.reduceAdd,szF,toF,eqF,mkF,heF,fInRange,inRange,modM] at *
  try simp(disch:=omega) only[wrapId',toNat1] at *
  try simp(disch:=omega) only[if_pos,if_neg]
  try simp only[Bool.and_eq_true,Bool.and_eq_false_iff,decide_eq_true_eq,decide_eq_false_iff_not] at *
 all_goals first|omega|skip
 all_goals
  try rw[wrapId (by omega)]
  try rw[if_pos hm]
 all_goals first|omega|exact e1|(rw[if_pos (by omega)] at e2;exact e2)|(rw[if_neg (by omega)] at e2;exact e2)|(rw[if_neg hm]))
def E59:=E58.add 163 fMod
theorem E59ok:EOk Tryz.prog E59:=E58ok.add k163_58
def hashI:List Int→Int→Int
 | [],d=>d
 | x::l,d=>hashI l ((d*1000003+modM x 2147483647+13).tmod 2147483647)
theorem hashI_at {l:List Int} {i:Nat} {d:Int} (h:i<l.length):hashI (l.drop i) d=hashI (l.drop (i+1)) ((d*1000003+modM (l.getD i default) 2147483647+13).tmod 2147483647):=by rw[drop_cons h];rfl
theorem hashI_end {l:List Int} {i:Nat} {d:Int} (h:l.length≤i):hashI (l.drop i) d=d:=by rw[List.drop_of_length_le h];rfl
theorem modM_range (x:Int):0≤modM x 2147483647∧modM x 2147483647<2147483647:=by
 have h0:=Int.emod_nonneg x (show(2147483647:Int)≠0 by omega)
 have h3:=Int.emod_lt_of_pos x (show(0:Int)<2147483647 by omega)
 have e0:modM x 2147483647=x % 2147483647:=rfl
 omega
theorem tmod_range {x:Int} (h:0≤x):0≤x.tmod 2147483647∧x.tmod 2147483647<2147483647:=by
 rw[Int.tmod_eq_emod_of_nonneg h]
 have h0:=Int.emod_nonneg x (show(2147483647:Int)≠0 by omega)
 have h3:=Int.emod_lt_of_pos x (show(0:Int)<2147483647 by omega)
 omega
def fHash:Fct:=⟨[.v (.sl .int)],[.el .int],fun(x_:(List Int)×Unit)=>x_.1.length≤1000000000000∧∀ i,i<x_.1.length→-9223372036854775808≤x_.1.getD i default∧x_.1.getD i default≤9223372036854775807,fun(x_:(List Int)×Unit)=>(hashI x_.1 11,())⟩
abbrev W_spec_Hash_fHash_3 (l:(List Int)):LInv:=⟨[⟨.s,3,true,.el .int⟩,⟨.s,4,true,.el .int⟩],fun _ (x_:Int×Int×Unit)=>0≤x_.2.1∧x_.2.1≤l.length∧0≤x_.1∧x_.1<2147483647∧hashI (l.drop x_.2.1.toNat) x_.1=hashI l 11,fun(x_:Int×Int×Unit)=>l.length-x_.2.1.toNat⟩
theorem k161_59:fHash.ok Tryz.prog 161:=Fct.of (S:=fHash) (L:=fun⟨l,_⟩=>fun|3=>some (W_spec_Hash_fHash_3 l)|_=>none) (kp:=[0,2,3,4,8,1000008]) E59ok Tryz.func161 (by kernel_rfl) (by kernel_rfl) (by
 rintro⟨(l:List Int),_⟩ hp
 refine ho (lpx (W_spec_Hash_fHash_3 l) ((11:Int),((0:Int),())) fun(y1:Int×Int×PUnit) bk1=>.br (decide (y1.2.1<(↑l.length:Int))) (.ob (inB y1.2.1 l.length)<|.cl fMod (l.getD y1.2.1.toNat default,(2147483647:Int),()) fun(z2:Int×PUnit)=>.ob ((2147483647:Int)≠(0:Int))<|.ob (l=l)<|.ob (Value.int IntKind.i64 0=Value.int IntKind.i64 (0:Int))<|.ob (bk1 ((wr (wr (wr (y1.1*(1000003:Int))+z2.1)+13)).tmod (2147483647:Int),(w1 y1.2.1,())))<|.ok) (.lf fHash (y1.1,()))) ?_
 refine lpx_i ?_ fun(y1:Int×Int×PUnit) i1=>br_i (fun h2=>ob_i ?_ fun o3=>cl_i ?_ fun o4=>(ob_i ?_ fun o5=>ob_i rfl fun _=>ob_i rfl fun _=>ob_i ?_ fun o6=>trivial)) (fun h2=>lfY ?_)
 all_goals
  try simp only[std0] at *
  try simp only[W_spec_Hash_fHash_3,fHash,fMod,std,Nat.reduceAdd,szF,toF,eqF,mkF,heF,fMod] at *
 all_goals obtain⟨hp1,hp2⟩:=hp
 all_goals try (obtain⟨a1,a2,a3,a4,a5⟩:=i1)
 all_goals try (have hm:=modM_range (l.getD y1.2.1.toNat default);have ht:=tmod_range (x:=y1.1*1000003+modM (l.getD y1.2.1.toNat default) 2147483647+13) (by omega))
 all_goals try simp(disch:=omega) only[wrapId',toNat1] at *
 all_goals first|trivial|omega|exact⟨by omega,by omega,by omega,by omega,rfl⟩|exact hp2 _ (by omega)|skip
 ·rw[hashI_at (by omega)] at a5;exact⟨⟨by omega,by omega,ht.1,ht.2,a5⟩,by omega⟩
 ·rw[hashI_end (by omega)] at a5;exact a5)
def E60:=E59.add 161 fHash
theorem E60ok:EOk Tryz.prog E60:=E59ok.add k161_59
def bti (b l:List Int):List Int:=(b.length:Int)::l
def fBytesToInts:Fct:=⟨[.v (.sl .u8)],[.sl .int],fun(x_:(List Int)×Unit)=>x_.1.length≤68719476736∧∀ i,i<x_.1.length→0≤x_.1.getD i default∧x_.1.getD i default≤255,fun(x_:(List Int)×Unit)=>(bti x_.1 x_.1,())⟩
abbrev W_spec_BytesToInts_fBytesToInts_3 (b:(List Int)):LInv:=⟨[⟨.s,3,true,.sl .int⟩,⟨.s,4,true,.el .int⟩],fun _ (x_:(List Int)×Int×Unit)=>0≤x_.2.1∧x_.2.1≤b.length∧x_.1=bti b (b.take x_.2.1.toNat),fun(x_:(List Int)×Int×Unit)=>b.length-x_.2.1.toNat⟩
theorem k162_60:fBytesToInts.ok Tryz.prog 162:=Fct.of (S:=fBytesToInts) (L:=fun⟨b,_⟩=>fun|3=>some (W_spec_BytesToInts_fBytesToInts_3 b)|_=>none) (kp:=[0,2,3,4,11,1000011]) E60ok Tryz.func162 (by kernel_rfl) (by kernel_rfl) (by
 rintro⟨(b:List Int),_⟩ hp
 refine ho (lpx (W_spec_BytesToInts_fBytesToInts_3 b) ([(↑b.length:Int)],((0:Int),())) fun(y1:List Int×Int×PUnit) bk1=>.br (decide (y1.2.1<(↑b.length:Int))) (.ob (inB y1.2.1 b.length)<|.ob (True)<|.ob (Room (y1.1.length+[wr (b.getD y1.2.1.toNat default)].length) 8)<|.ob (b=b)<|.ob (bk1 (y1.1++[wr (b.getD y1.2.1.toNat default)],(w1 y1.2.1,())))<|.ok) (.lf fBytesToInts (y1.1,()))) ?_
 refine lpx_i ?_ fun(y1:List Int×Int×PUnit) i1=>br_i (fun h2=>ob_i ?_ fun o3=>ob_i trivial fun _=>ob_i ?_ fun o4=>ob_i rfl fun _=>ob_i ?_ fun o5=>trivial) (fun h2=>lfY ?_)
 all_goals
  try simp only[std0] at *
  try simp only[W_spec_BytesToInts_fBytesToInts_3,fBytesToInts,std,Nat.reduceAdd,szF,toF,eqF,mkF,heF,take_succ,take_end,bti] at *
  try simp(disch:=omega) only[wrapId',toNat1] at *
  try simp(disch:=omega) only[if_pos,if_neg]
 all_goals first|trivial|omega|grind[wrapId',toNat1,drop_cons,drop_end,good_len,maxLen,take_succ,take_end,bti])
def E61:=E60.add 162 fBytesToInts
theorem E61ok:EOk Tryz.prog E61:=E60ok.add k162_60
def fFormatInt:Fct:=⟨[.v (.el .int)],[.el .str],fun(x_:Int×Unit)=>-9223372036854775808≤x_.1∧x_.1≤9223372036854775807,fun(x_:Int×Unit)=>(fmtI x_.1,())⟩
abbrev W_spec_FormatInt_fFormatInt_5 (n:Int):LInv:=⟨[⟨.s,3,true,.el .str⟩,⟨.s,4,true,.el .int⟩],fun _ (x_:ByteArray×Int×Unit)=>n≠0∧-9223372036854775808≤x_.2.1∧x_.2.1≤9223372036854775807∧(x_.2.1:Int).natAbs+4*x_.1.size≤n.natAbs+(if x_.2.1=0 then 4 else 0)∧decS (x_.2.1:Int).natAbs x_.1=decS n.natAbs ⟨#[]⟩,fun(x_:ByteArray×Int×Unit)=>(x_.2.1:Int).natAbs⟩
theorem k153_61:fFormatInt.ok Tryz.prog 153:=Fct.of (S:=fFormatInt) (L:=fun⟨n,_⟩=>fun|5=>some (W_spec_FormatInt_fFormatInt_5 n)|_=>none) (kp:=[0,2,3,4,5,7,10,16,27,1000007,1000010,1000016,1000027]) E61ok Tryz.func153 (by kernel_rfl) (by kernel_rfl) (by
 rintro⟨(n:Int),_⟩ hp
 refine ho (.br (n==0) (.lf fFormatInt ((⟨#[48]⟩:ByteArray),())) (lpx (W_spec_FormatInt_fFormatInt_5 n) ((⟨#[]⟩:ByteArray),(n,())) fun(y2:ByteArray×Int×PUnit) bk2=>.br (y2.2.1 != 0) (.ob ((10:Int)≠(0:Int))<|.br (decide (y2.2.1.tmod (10:Int)<(0:Int))) (.ob (True)<|.ob (sameSize (List.foldl (fun r n=>r.push (UInt8.ofNat n.toNat)) ByteArray.empty [IntKind.u8.wrap (wr ((48:Int)+wr ((0:Int)-y2.2.1.tmod (10:Int))))]) y2.1)<|.ob ((10:Int)≠(0:Int))<|.ob (Value.int IntKind.i64 n=Value.int IntKind.i64 n)<|.ob (Value.string (⟨#[]⟩:ByteArray)=Value.string (⟨#[]⟩:ByteArray))<|.ob (bk2 (List.foldl (fun r n=>r.push (UInt8.ofNat n.toNat)) ByteArray.empty [IntKind.u8.wrap (wr ((48:Int)+wr ((0:Int)-y2.2.1.tmod (10:Int))))]++y2.1,(wr (y2.2.1.tdiv (10:Int)),())))<|.ok) (.ob (True)<|.ob (sameSize (List.foldl (fun r n=>r.push (UInt8.ofNat n.toNat)) ByteArray.empty [IntKind.u8.wrap (wr ((48:Int)+y2.2.1.tmod (10:Int)))]) y2.1)<|.ob ((10:Int)≠(0:Int))<|.ob (Value.int IntKind.i64 n=Value.int IntKind.i64 n)<|.ob (Value.string (⟨#[]⟩:ByteArray)=Value.string (⟨#[]⟩:ByteArray))<|.ob (bk2 (List.foldl (fun r n=>r.push (UInt8.ofNat n.toNat)) ByteArray.empty [IntKind.u8.wrap (wr ((48:Int)+y2.2.1.tmod (10:Int)))]++y2.1,(wr (y2.2.1.tdiv (10:Int)),())))<|.ok)) (.br (decide (n<0)) (.ob (sameSize (⟨#[45]⟩:ByteArray) y2.1)<|.lf fFormatInt ((⟨#[45]⟩:ByteArray)++y2.1,())) (.lf fFormatInt (y2.1,()))))) ?_
 refine br_i (fun h1=>lfY ?_) (fun h1=>lpx_i ?_ fun(y2:ByteArray×Int×PUnit) i2=>br_i (fun h3=>ob_i ?_ fun o4=>br_i (fun h5=>ob_i trivial fun _=>ob_i ?_ fun o6=>ob_i ?_ fun o7=>ob_i rfl fun _=>ob_i rfl fun _=>ob_i ?_ fun o8=>trivial) (fun h5=>ob_i trivial fun _=>ob_i ?_ fun o9=>ob_i ?_ fun o10=>ob_i rfl fun _=>ob_i rfl fun _=>ob_i ?_ fun o11=>trivial)) (fun h3=>br_i (fun h12=>ob_i ?_ fun o13=>lfY ?_) (fun h12=>lfY ?_)))
 all_goals try (have hk:=Nat.mod_lt y2.2.1.natAbs (show 0<10 by omega);have ht:=tmod_abs y2.2.1)
 all_goals try (have hv:=tdiv_abs y2.2.1)
 all_goals
  try simp only[std0] at *
  try simp only[W_spec_FormatInt_fFormatInt_5,fFormatInt,std,Nat.reduceAdd,szF,toF,eqF,mkF,heF] at *
 all_goals first|trivial|omega|skip
 all_goals try (obtain⟨a1,a2,a3,a4,a5⟩:=i2)
 all_goals first|trivial|omega|skip
 all_goals
  try simp only[h5,if_true,if_false] at ht
  try rw[if_neg (by omega)] at ht
 all_goals try (rw[wrapId (n:=0-_) (by omega),show(0:Int)-y2.2.1.tmod 10=((y2.2.1.natAbs % 10:Nat):Int) by omega,digU hk,digPush hk] at *)
 all_goals try (rw[ht,digU hk,digPush hk] at *)
 all_goals try rw[if_neg h3] at a4
 all_goals try (have e1:IntKind.i64.wrap (y2.2.1.tdiv 10)=y2.2.1.tdiv 10:=wrapId (by omega);rw[e1])
 ·rw[h1,fmtI_zero]
 ·unfold sameSize;rw[show ByteArray.size ⟨#[UInt8.ofNat (48+y2.2.1.natAbs % 10)]⟩=1 from rfl];omega
 ·rw[decS_step (by omega)] at a5
  rw[hv,ByteArray.size_append,show ByteArray.size ⟨#[UInt8.ofNat (48+y2.2.1.natAbs % 10)]⟩=1 from rfl]
  exact⟨⟨h1,by omega,by omega,by split<;>omega,a5⟩,by omega⟩
 ·unfold sameSize;rw[show ByteArray.size ⟨#[UInt8.ofNat (48+y2.2.1.natAbs % 10)]⟩=1 from rfl];omega
 ·rw[decS_step (by omega)] at a5
  have hv':((y2.2.1.natAbs:Nat):Int)=y2.2.1.natAbs:=rfl
  rw[hv,ByteArray.size_append,show ByteArray.size ⟨#[UInt8.ofNat (48+y2.2.1.natAbs % 10)]⟩=1 from rfl]
  exact⟨⟨h1,by omega,by omega,by split<;>omega,a5⟩,by omega⟩
 ·unfold sameSize;rw[show ByteArray.size ⟨#[45]⟩=1 from rfl];rw[if_pos h3] at a4;omega
 ·rw[h3] at a5;rw[fmtI_neg h12,←a5];rfl
 ·rw[h3] at a5;rw[fmtI_pos (by omega),←a5];rfl)
def E62:=E61.add 153 fFormatInt
theorem E62ok:EOk Tryz.prog E62:=E61ok.add k153_61
theorem and_255 (x:Int):0≤bits .and .i64 x 255∧bits .and .i64 x 255≤255:=by
 have h:(BitVec.ofInt 64 x &&& BitVec.ofInt 64 255).toNat≤255:=by
  rw[BitVec.toNat_and];exact Nat.and_le_right
 have e:bits .and .i64 x 255=((BitVec.ofInt 64 x &&& BitVec.ofInt 64 255).toNat:Int):=by
  show IntKind.i64.wrap ((BitVec.ofInt 64 x &&& BitVec.ofInt 64 255).toNat:Int)=_
  exact wrapId' (by omega) (by omega)
 rw[e];omega
open Go.RowKit in
set_option maxHeartbeats 2000000 in
theorem byte_walk (g n cap:Nat) (i:Nat) (h:Int) (ad:Option Addr) (w:World) (hi1:i≤9223372036854775807) (hn:n≤1000000000000000000)
 (hx0:w.cell? ⟨g,0,none⟩=some (.slice ad n cap)) (hx1:w.cell? ⟨g,1,none⟩=some (.int .i64 i)) (hx2:w.cell? ⟨g,2,none⟩=some (.int .i64 h))
 (f1:w.frozen? ⟨g,1,none⟩=false) (f2:w.frozen? ⟨g,2,none⟩=false)
 (hb:i<n→∃ gb ob z,ad=some ⟨gb,ob,none⟩∧gb≠g∧w.cell? ⟨gb,ob+i,none⟩=some (.int .u8 z)) :
 Calls Tryz.prog 55 #[.pointer (some ⟨g,0,none⟩)] w fun e w'=>∃ (x:Int) (i':Nat) (h':Int) (q:Nat),e=.returned (.int .i64 x)∧0≤x∧x≤255∧i'≤9223372036854775807∧((∃ k,h'=wrap64 k) ∧
  (w'=((w.setCell ⟨g,2,none⟩ (.int .i64 h')).drewN q).setCell ⟨g,1,none⟩ (.int .i64 i')∨(i'=i∧∃ q',w'=((w.setCell ⟨g,2,none⟩ (.int .i64 h')).drewN q').drewN q))):=by
 go_enter Tryz.func55,Tryz.ntmps55
 go_wp2
 go_quiet (fail)
 go_wp2
 go_quiet (fail)
 go_wp2
 ·have hlt:i<n:=by omega
  obtain⟨gb,ob,z,rfl,hne,hz⟩:=hb hlt
  clear hb
  have hz':(w.setCell ⟨g,2,none⟩ (Value.int IntKind.i64 (IntKind.i64.wrap (IntKind.i64.wrap (h*6364136223846793005)+1442695040888963407)))).cell? ⟨gb,ob+i,none⟩=some (.int .u8 z):=by
   rw[World.cell?_setCell_other];exact hz;simp
  go_quiet (fail)
  go_wp2
  go_ret
  exact⟨_,i+1,_,_,rfl,(and_255 _).1,(and_255 _).2,by omega,⟨_,rfl⟩,.inl rfl⟩
 ·go_ret
  exact⟨_,i,_,_,rfl,(and_255 _).1,(and_255 _).2,by omega,⟨_,rfl⟩,.inr ⟨rfl,_,rfl⟩⟩
open Go.RowKit in
theorem wrap_rng (k:Int) : -9223372036854775808≤wrap64 k∧wrap64 k≤9223372036854775807:=by
 unfold wrap64;omega
theorem set_heap {w:World} {g j:Nat} {r:Array Value} {e:TypeId} {v:Value} (h:w.heap[g]? = some (.cells r e (0,0))):(w.setCell ⟨g,j,none⟩ v).heap[g]? = some (.cells (r.setIfInBounds j v) e (0,0))∧(∀ b,b≠g→(w.setCell ⟨g,j,none⟩ v).heap[b]? = w.heap[b]?)∧(w.setCell ⟨g,j,none⟩ v).heap.size=w.heap.size:=by
 refine⟨?_,fun b hb=>?_,?_⟩
 ·simp[World.setCell,Array.getElem?_modify,h]
 ·simp[World.setCell,Array.getElem?_modify,Ne.symm hb]
 ·simp[World.setCell]
def fByte:Xct:=⟨[.u],[.el .int],fun(x_:Unit×Unit)=>True,fun(x_:Unit×Unit) (y_:Int×Unit)=>0≤y_.1∧y_.1≤255⟩
open Go.RowKit in
theorem byte_ok:fByte.ok Tryz.prog 55:=by
 rintro⟨u,⟨⟩⟩ _
 intro w vs G hB hA
 obtain⟨v0,hv0,g,rfl,hg⟩:=hA.tm 0 .cur rfl
 have hvs:vs = #[.pointer (some ⟨g,0,none⟩)]:=by
  apply Array.ext
  ·rw[hA.sz];rfl
  ·intro i h1 h2
   match i,h1,h2 with
   | 0,h1,h2=>rw[Array.getElem?_eq_getElem h1] at hv0;injection hv0
   | i+1,h1,h2=>exact absurd (show i+1<1 from h2) (by omega)
 subst hvs
 obtain⟨xs,b,i,h,ty,hh,hb,hl,hi0,hi1,hh0,hh1⟩:=hA.cr g hg
 obtain⟨a,cap,rfl,hcap,hrow⟩:=hb
 obtain⟨i,rfl⟩:∃ k:Nat,i=k:=⟨i.toNat,by omega⟩
 have c0:∀ j,w.cell? ⟨g,j,none⟩=(#[Value.slice a xs.length cap,.int .i64 (i:Int),.int .i64 h]:Array Value)[j]?:=fun j=>by simp[World.cell?,hh]
 have fz:∀ j,w.frozen? ⟨g,j,none⟩=false:=fun j=>by simp[World.frozen?,hh]
 refine(byte_walk g xs.length cap i h a w (by omega) hl (c0 0) (c0 1) (c0 2) (fz 1) (fz 2) fun hlt=>?_).mono ?_
 ·rcases hrow with h0|⟨gb,ob,row,e,fr,rfl,hs,hbk,hc⟩
  ·omega
  ·obtain⟨u,hu,hr⟩:=hc i hlt 0 (by decide)
   have e0:cell .u8 xs i 0=(enc .u8 xs[i]).getD 0 .nl:=cell_get (t:=.u8) (xs:=xs) (by simp[hlt]) 0
   have hr:TR w (src G none) (fcC (cell .u8 xs i 0)) u:=hr
   rw[e0] at hr
   obtain⟨rfl,_⟩:=hr
   refine⟨gb,ob,xs[i],rfl,fun e=>?_,?_⟩
   ·subst e
    rw[show G.ow gb=.free from hs] at hg
    cases hg
   ·have:ob+i*Ty.u8.width+0=ob+i:=by show ob+i*1+0=ob+i;omega
    rw[this] at hu
    simp[World.cell?,hbk,hu]
 ·rintro e w' ⟨x,i',h',q,rfl,hx0,hx1,hi',⟨k,rfl⟩,hw⟩
  have hk:=wrap_rng k
  obtain⟨s1,s2,s3⟩:=set_heap (j:=2) (v:=.int .i64 (wrap64 k)) hh
  have fin:Onward w w'∧(∀ b,b≠g→w'.heap[b]? = w.heap[b]?)∧CurStep w w' g:=by
   rcases hw with rfl|⟨rfl,q',rfl⟩
   ·obtain⟨t1,t2,t3⟩:=set_heap (w:=(w.setCell ⟨g,2,none⟩ (.int .i64 (wrap64 k))).drewN q) (j:=1) (v:=.int .i64 (i':Int)) s1
    refine⟨⟨rfl,rfl,⟨rfl,DrLe.add _ _⟩,?_⟩,fun b hb=>(t2 b hb).trans (s2 b hb),?_⟩
    ·rw[t3];exact Nat.le_of_eq s3.symm
    ·exact⟨_,_,_,i',_,_,hh,t1,by omega,by omega,hk.1,hk.2⟩
   ·refine⟨⟨rfl,rfl,⟨rfl,DrLe.trans (DrLe.add _ _) (DrLe.add _ _)⟩,Nat.le_of_eq s3.symm⟩,fun b hb=>s2 b hb,?_⟩
    exact⟨_,_,_,i',_,_,hh,s1,by omega,by omega,hk.1,hk.2⟩
  obtain⟨f1,f2,f3⟩:=fin
  refine⟨_,_,⟨(x,()),⟨hx0,hx1⟩,rfl⟩,rfl,f1,fun b hb=>f2 b fun e=>?_,fun b hb=>?_,fun _ _=>False,by simp,by simp,?_,?_,?_⟩
  ·subst e;rw[hg] at hb;cases hb
  ·by_cases e:b=g
   ·subst e;exact f3
   ·exact(hA.cr b hb).same (f2 b e)
  ·exact⟨_,rfl,⟨rfl,rfl⟩,rfl⟩
  ·intro m T hm;cases hm
  ·intro b cs hb;cases hb
theorem and_num (x:Int):0≤bits .and .i64 x 1073741823∧bits .and .i64 x 1073741823≤1073741823:=by
 have h:(BitVec.ofInt 64 x &&& BitVec.ofInt 64 1073741823).toNat≤1073741823:=by
  rw[BitVec.toNat_and];exact Nat.and_le_right
 have e:bits .and .i64 x 1073741823=((BitVec.ofInt 64 x &&& BitVec.ofInt 64 1073741823).toNat:Int):=by
  show IntKind.i64.wrap ((BitVec.ofInt 64 x &&& BitVec.ofInt 64 1073741823).toNat:Int)=_
  exact wrapId' (by omega) (by omega)
 rw[e];omega
open Go.RowKit in
set_option maxRecDepth 100000 in
set_option maxHeartbeats 2000000 in
theorem new_walk (n cap:Nat) (ad:Option Addr) (w:World) (hn:n≤1000000000000000000) (hb:∀ i,i<n→∃ gb ob z,ad=some ⟨gb,ob,none⟩∧w.cell? ⟨gb,ob+i,none⟩=some (.int .u8 z)) :
 Calls Tryz.prog 16 #[.slice ad n cap] w fun e w'=>∃ (h:Int) (q:Nat),e=.returned (.pointer (some ⟨w.heap.size,0,none⟩))∧-9223372036854775808≤h∧h≤9223372036854775807∧w'=(w.drewN q).alloc (.cells #[.slice ad n cap,.int .i64 0,.int .i64 h] 87):=by
 go_enter Tryz.func16,Tryz.ntmps16
 go_wp2
 go_loop [3,4] (fun h i=>∃ (k:Nat) (x:Int),k≤4000∧i=.int .i64 k∧h=.int .i64 x∧-9223372036854775808≤x∧x≤9223372036854775807) (fun _ i=>4001-(intOf i).toNat)
 case atStart=>exact⟨0,_,by omega,rfl,rfl,by omega,by omega⟩
 case round=>
  obtain⟨k,x,hk,rfl,rfl,hx0,hx1⟩:=hrel
  by_cases h1:k<n
  ·by_cases h2:k<4000
   ·obtain⟨gb,ob,z,rfl,hz⟩:=hb k h1
    clear hb
    go_wp2
    go_round
    case rel=>exact⟨k+1,_,by omega,by go_num,rfl,Int.le_trans (by omega) (and_num _).1,Int.le_trans (and_num _).2 (by omega)⟩
    case measure=>simp only[intOf];omega
   ·go_wp2
    go_ret
    exact⟨rfl,x,hx0,hx1,0,rfl⟩
  ·go_wp2
   go_ret
   exact⟨rfl,x,hx0,hx1,0,rfl⟩
open Go.RowKit in
theorem new_ok:NewOk Tryz.prog 16:=by
 intro w v S xs hv _ hl
 obtain⟨a,cap,rfl,hcap,hrow⟩:=hv
 refine(new_walk xs.length cap a w hl fun i hlt=>?_).mono ?_
 ·rcases hrow with h0|⟨gb,ob,row,e,fr,rfl,hs,hbk,hc⟩
  ·omega
  ·obtain⟨u,hu,hr⟩:=hc i hlt 0 (by decide)
   have e0:cell .u8 xs i 0=(enc .u8 xs[i]).getD 0 .nl:=cell_get (t:=.u8) (xs:=xs) (by simp[hlt]) 0
   have hr:TR w S (fcC (cell .u8 xs i 0)) u:=hr
   rw[e0] at hr
   obtain⟨rfl,_⟩:=hr
   refine⟨gb,ob,xs[i],rfl,?_⟩
   have:ob+i*Ty.u8.width+0=ob+i:=by show ob+i*1+0=ob+i;omega
   rw[this] at hu
   simp[World.cell?,hbk,hu]
 ·rintro e w' ⟨h,q,rfl,h0,h1,rfl⟩
  refine⟨w.heap.size,h,87,rfl,⟨rfl,rfl,⟨rfl,DrLe.add _ _⟩,?_⟩,fun b hb=>?_,Nat.le_refl _,?_,h0,h1⟩
  ·simp[World.alloc,World.drewN]
  ·simp[World.alloc,World.drewN,Array.getElem?_push,Nat.ne_of_lt hb]
  ·simp[World.alloc,World.drewN]
theorem k16_62:NewOk Tryz.prog 16 :=
 new_ok
def E63:D.Env:=E62.addN 16
theorem E63ok:EOk Tryz.prog E63:=E62ok.addN k16_62
theorem k55_63:fByte.ok Tryz.prog 55 :=
 byte_ok
def E64:D.Env:=E63.addX 55 fByte
theorem E64ok:EOk Tryz.prog E64:=E63ok.addX k55_63
theorem bel_1 {a n:Int} (h1:0≤a) (h3:0<n):0≤a.tmod n∧(a.tmod n<n∨a.tmod n=0):=⟨Int.tmod_nonneg n h1,.inl (Int.tmod_lt_of_pos a h3)⟩
theorem bel_3 {a b c:Int} (ha:0≤a∧a≤255) (hb:0≤b∧b≤255) (hc:0≤c∧c≤255):IntKind.i64.wrap (IntKind.i64.wrap (IntKind.i64.wrap (a*65536)+IntKind.i64.wrap (b*256))+c)=a*65536+b*256+c:=by
 rw[wrapId' (n:=a*65536) (by omega) (by omega),wrapId' (n:=b*256) (by omega) (by omega),wrapId' (n:=a*65536+b*256) (by omega) (by omega),wrapId' (by omega) (by omega)]
def fBelow:Xct:=⟨[.u,.v (.el .int)],[.el .int],fun(x_:Unit×Int×Unit)=>True,fun(x_:Unit×Int×Unit) (y_:Int×Unit)=>0≤y_.1∧(y_.1<x_.2.1∨y_.1=0)⟩
theorem k39_64:fBelow.ok Tryz.prog 39:=Xct.of (S:=fBelow) (L:=fun _ _=>none) (kp:=[0,1,4,5,6,7,9,11,1000009,1000011]) E64ok Tryz.func39 (by kernel_rfl) (by kernel_rfl) (by
 rintro⟨(c:PUnit),(n:Int),_⟩ hp
 refine ho (.br (decide (n≤(0:Int))) (.leaf (mkR fBelow.rs ((0:Int),())) [] []) (.br (decide (n≤(256:Int))) (.ob (fByte.pre ((),()))<|.lp (Int×PUnit) (True) (fByte.is ((),())) fun y3=>.ob (n≠(0:Int))<|.leaf (mkR fBelow.rs (y3.fst.tmod n,())) [] []) (.ob (fByte.pre ((),()))<|.lp (Int×PUnit) (True) (fByte.is ((),())) fun y5=>.ob (fByte.pre ((),()))<|.lp (Int×PUnit) (True) (fByte.is ((),())) fun y6=>.ob (fByte.pre ((),()))<|.lp (Int×PUnit) (True) (fByte.is ((),())) fun y7=>.ob (n≠(0:Int))<|.leaf (mkR fBelow.rs ((IntKind.i64.wrap (IntKind.i64.wrap (IntKind.i64.wrap (y5.fst*(65536:Int))+IntKind.i64.wrap (y6.fst*(256:Int)))+y7.fst)).tmod n,())) [] []))) ?_
 refine br_i (fun h1=>Xct.leafY (S:=fBelow) ((0:Int),()) ?_) (fun h1=>br_i (fun h2=>ob_i trivial fun _=>lp_i trivial fun y3 i3=>ob_i ?_ fun o4=>Xct.leafY (S:=fBelow) (y3.fst.tmod n,()) ?_) (fun h2=>ob_i trivial fun _=>lp_i trivial fun y5 i5=>ob_i trivial fun _=>lp_i trivial fun y6 i6=>ob_i trivial fun _=>lp_i trivial fun y7 i7=>ob_i ?_ fun o8=>Xct.leafY (S:=fBelow) ((IntKind.i64.wrap (IntKind.i64.wrap (IntKind.i64.wrap (y5.fst*(65536:Int))+IntKind.i64.wrap (y6.fst*(256:Int)))+y7.fst)).tmod n,()) ?_))
 all_goals
  try simp only[std0] at *
  try simp only[fBelow,fByte,std,Nat.reduceAdd,szF,toF,eqF,mkF,heF] at *
 ·simp
 ·omega
 ·exact bel_1 (by omega) (by omega)
 ·omega
 ·rw[bel_3 i5 i6 i7];exact bel_1 (by omega) (by omega))
def E65:=E64.addX 39 fBelow
theorem E65ok:EOk Tryz.prog E65:=E64ok.addX k39_64
def fOnce:Xct:=⟨[.u,.v (.el .int)],[.el .bool],fun(x_:Unit×Int×Unit)=>True,fun(x_:Unit×Int×Unit) (y_:Bool×Unit)=>True⟩
theorem k54_65:fOnce.ok Tryz.prog 54:=Xct.of (S:=fOnce) (L:=fun _ _=>none) (kp:=[0,1,4]) E65ok Tryz.func54 (by kernel_rfl) (by kernel_rfl) (by
 rintro⟨(c:PUnit),(n:Int),_⟩ hp
 refine ho (.ob (fBelow.pre ((),n,()))<|.lp (Int×PUnit) (True) (fBelow.is ((),n,())) fun y1=>.leaf (mkR fOnce.rs (y1.fst==(0:Int),())) [] []) ?_
 refine ob_i trivial fun _=>lp_i trivial fun y1 i1=>Xct.leafY (S:=fOnce) (y1.fst==(0:Int),()) ?_
 all_goals
  try simp only[std0] at *
  try simp only[fBelow,fOnce,std,Nat.reduceAdd,szF,toF,eqF,mkF,heF] at *)
def E66:=E65.addX 54 fOnce
theorem E66ok:EOk Tryz.prog E66:=E65ok.addX k54_65
theorem getD_in {α:Type} [Inhabited α] {l:List α} {i:Nat} (h:i<l.length):l.getD i default∈l:=by
 rw[List.getD_eq_getElem?_getD,List.getElem?_eq_getElem h];exact List.getElem_mem _
def fIntL:Xct:=⟨[.u,.v (.sl .int)],[.el .int],fun(x_:Unit×(List Int)×Unit)=>0<x_.2.1.length∧x_.2.1.length≤256,fun(x_:Unit×(List Int)×Unit) (y_:Int×Unit)=>y_.1∈x_.2.1⟩
theorem k36_66:fIntL.ok Tryz.prog 36:=Xct.of (S:=fIntL) (L:=fun _ _=>none) (kp:=[0,1,4]) E66ok Tryz.func36 (by kernel_rfl) (by kernel_rfl) (by
 rintro⟨(c:PUnit),(l:List Int),_⟩ hp
 refine ho (.ob (fBelow.pre ((),(↑(List.length l):Int),()))<|.lp (Int×PUnit) (True) (fBelow.is ((),(↑(List.length l):Int),())) fun y1=>.ob ((0:Int)≤y1.fst∧y1.fst<(↑(List.length l):Int))<|.leaf (mkR fIntL.rs (List.getD l y1.fst.toNat default,())) [] []) ?_
 refine ob_i trivial fun _=>lp_i trivial fun y1 i1=>ob_i ?_ fun o2=>Xct.leafY (S:=fIntL) (List.getD l y1.fst.toNat default,()) ?_
 all_goals
  try simp only[std0] at *
  try simp only[fBelow,fIntL,std,Nat.reduceAdd,szF,toF,eqF,mkF,heF] at *
 all_goals first|trivial|omega|skip
 all_goals (refine getD_in ?_;omega))
def E67:=E66.addX 36 fIntL
theorem E67ok:EOk Tryz.prog E67:=E66ok.addX k36_66
def fStrL:Xct:=⟨[.u,.v (.sl .str)],[.el .str],fun(x_:Unit×(List ByteArray)×Unit)=>0<x_.2.1.length∧x_.2.1.length≤256∧x_.2.1.all (fun s=>decide (s.size≤30))=true,fun(x_:Unit×(List ByteArray)×Unit) (y_:ByteArray×Unit)=>y_.1.size≤30⟩
theorem k63_67:fStrL.ok Tryz.prog 63:=Xct.of (S:=fStrL) (L:=fun _ _=>none) (kp:=[0,1,4]) E67ok Tryz.func63 (by kernel_rfl) (by kernel_rfl) (by
 rintro⟨(c:PUnit),(l:List ByteArray),_⟩ hp
 refine ho (.ob (fBelow.pre ((),(↑(List.length l):Int),()))<|.lp (Int×PUnit) (True) (fBelow.is ((),(↑(List.length l):Int),())) fun y1=>.ob ((0:Int)≤y1.fst∧y1.fst<(↑(List.length l):Int))<|.leaf (mkR fStrL.rs (List.getD l y1.fst.toNat default,())) [] []) ?_
 refine ob_i trivial fun _=>lp_i trivial fun y1 i1=>ob_i ?_ fun o2=>Xct.leafY (S:=fStrL) (List.getD l y1.fst.toNat default,()) ?_
 all_goals
  try simp only[std0] at *
  try simp only[fBelow,fStrL,std,Nat.reduceAdd,szF,toF,eqF,mkF,heF] at *
 all_goals first|trivial|omega|skip
 have hm:=getD_in (i:=y1.fst.toNat) (l:=l) (by omega)
 simpa using List.all_eq_true.1 hp.2.2 _ hm)
def E68:=E67.addX 63 fStrL
theorem E68ok:EOk Tryz.prog E68:=E67ok.addX k63_67
def fBig:Fct:=⟨[.v (.sl .u8)],[.el .bool],fun(x_:(List Int)×Unit)=>True,fun(x_:(List Int)×Unit)=>(decide (1048576<x_.1.length),())⟩
theorem k4_68:fBig.ok Tryz.prog 4:=Fct.o [0,2] E68ok Tryz.func4 (by
 rintro⟨(l:List Int),_⟩ hp
 refine ho (.lf fBig (decide ((↑(List.length l):Int)>1048576),())) ?_
 refine lfY ?_
 all_goals
  try simp only[std0] at *
  try simp only[fBig,std,Nat.reduceAdd,szF,toF,eqF,mkF,heF,sameSize,ByteArray.size_append] at *
  try simp(disch:=omega) only[wrapId',toNat1] at *
  try simp(disch:=omega) only[if_pos,if_neg]
 all_goals first|trivial|omega|grind[wrapId',toNat1,drop_cons,drop_end,good_len,maxLen,sameSize,ByteArray.size_append])
def E69:=E68.add 4 fBig
theorem E69ok:EOk Tryz.prog E69:=E68ok.add k4_68
def fWord:Xct:=⟨[.u],[.el .str],fun(x_:Unit×Unit)=>True,fun(x_:Unit×Unit) (y_:ByteArray×Unit)=>y_.1.size≤30⟩
theorem k56_69:fWord.ok Tryz.prog 56:=Xct.of (S:=fWord) (L:=fun _ _=>none) (kp:=[0,2]) E69ok Tryz.func56 (by kernel_rfl) (by kernel_rfl) (by
 rintro⟨(c:PUnit),_⟩ hp
 refine ho (.ob (fStrL.pre ((),[{ data := #[(104:UInt8),(111:UInt8),(109:UInt8),(101:UInt8)]:ByteArray },{ data := #[(99:UInt8),(100:UInt8),(110:UInt8)]:ByteArray },{ data := #[(101:UInt8),(118:UInt8),(105:UInt8),(108:UInt8)]:ByteArray },{ data := #[(104:UInt8),(111:UInt8),(109:UInt8),(101:UInt8)]:ByteArray }],()))<|.lp (ByteArray×PUnit) (True) (fStrL.is ((),[{ data := #[(104:UInt8),(111:UInt8),(109:UInt8),(101:UInt8)]:ByteArray },{ data := #[(99:UInt8),(100:UInt8),(110:UInt8)]:ByteArray },{ data := #[(101:UInt8),(118:UInt8),(105:UInt8),(108:UInt8)]:ByteArray },{ data := #[(104:UInt8),(111:UInt8),(109:UInt8),(101:UInt8)]:ByteArray }],())) fun y2=>.leaf (mkR fWord.rs (y2.fst,())) [] []) ?_
 refine ob_i ?_ fun o1=>lp_i trivial fun y2 i2=>Xct.leafY (S:=fWord) (y2.fst,()) ?_
 all_goals first|trivial|(refine⟨?_,?_,?_⟩<;>decide)|skip
 all_goals
  try simp only[std0] at *
  try simp only[fStrL,fWord,std,Nat.reduceAdd,szF,toF,eqF,mkF,heF,sameSize,ByteArray.size_append] at *
  try simp(disch:=omega) only[wrapId',toNat1] at *
  try simp(disch:=omega) only[if_pos,if_neg]
 all_goals first|trivial|omega|grind[wrapId',toNat1,drop_cons,drop_end,good_len,maxLen,sameSize,ByteArray.size_append])
def E70:=E69.addX 56 fWord
theorem E70ok:EOk Tryz.prog E70:=E69ok.addX k56_69
theorem k42_70:fWord.ok Tryz.prog 42:=Xct.of (S:=fWord) (L:=fun _ _=>none) (kp:=[0,2]) E70ok Tryz.func42 (by kernel_rfl) (by kernel_rfl) (by
 rintro⟨(c:PUnit),_⟩ hp
 refine ho (.ob (fStrL.pre ((),[{ data := #[(105:UInt8),(110:UInt8),(100:UInt8),(101:UInt8),(120:UInt8)]:ByteArray },{ data := #[(97:UInt8),(112:UInt8),(112:UInt8)]:ByteArray },{ data := #[(115:UInt8),(116:UInt8),(121:UInt8),(108:UInt8),(101:UInt8)]:ByteArray },{ data := #[(108:UInt8),(105:UInt8),(98:UInt8)]:ByteArray },{ data := #[(108:UInt8),(111:UInt8),(103:UInt8),(111:UInt8)]:ByteArray },{ data := #[(110:UInt8),(101:UInt8),(120:UInt8),(116:UInt8)]:ByteArray },{ data := #[(117:UInt8),(116:UInt8),(105:UInt8),(108:UInt8)]:ByteArray }],()))<|.lp (ByteArray×PUnit) (True) (fStrL.is ((),[{ data := #[(105:UInt8),(110:UInt8),(100:UInt8),(101:UInt8),(120:UInt8)]:ByteArray },{ data := #[(97:UInt8),(112:UInt8),(112:UInt8)]:ByteArray },{ data := #[(115:UInt8),(116:UInt8),(121:UInt8),(108:UInt8),(101:UInt8)]:ByteArray },{ data := #[(108:UInt8),(105:UInt8),(98:UInt8)]:ByteArray },{ data := #[(108:UInt8),(111:UInt8),(103:UInt8),(111:UInt8)]:ByteArray },{ data := #[(110:UInt8),(101:UInt8),(120:UInt8),(116:UInt8)]:ByteArray },{ data := #[(117:UInt8),(116:UInt8),(105:UInt8),(108:UInt8)]:ByteArray }],())) fun y2=>.leaf (mkR fWord.rs (y2.fst,())) [] []) ?_
 refine ob_i ?_ fun o1=>lp_i trivial fun y2 i2=>Xct.leafY (S:=fWord) (y2.fst,()) ?_
 all_goals first|trivial|(refine⟨?_,?_,?_⟩<;>decide)|skip
 all_goals
  try simp only[std0] at *
  try simp only[fStrL,fWord,std,Nat.reduceAdd,szF,toF,eqF,mkF,heF,sameSize,ByteArray.size_append] at *
  try simp(disch:=omega) only[wrapId',toNat1] at *
  try simp(disch:=omega) only[if_pos,if_neg]
 all_goals first|trivial|omega|grind[wrapId',toNat1,drop_cons,drop_end,good_len,maxLen,sameSize,ByteArray.size_append])
def E71:=E70.addX 42 fWord
theorem E71ok:EOk Tryz.prog E71:=E70ok.addX k42_70
def fAddr:Xct:=⟨[.u],[.el .addr],fun(x_:Unit×Unit)=>True,fun(x_:Unit×Unit) (y_:SAddr×Unit)=>y_.1.host.size≤30∧y_.1.path.size≤30⟩
theorem k40_71:fAddr.ok Tryz.prog 40:=Xct.of (S:=fAddr) (L:=fun _ _=>none) (kp:=[0,2,3]) E71ok Tryz.func40 (by kernel_rfl) (by kernel_rfl) (by
 rintro⟨(c:PUnit),_⟩ hp
 refine ho (.ob (fWord.pre ((),()))<|.lp (ByteArray×PUnit) (True) (fWord.is ((),())) fun y1=>.ob (fWord.pre ((),()))<|.lp (ByteArray×PUnit) (True) (fWord.is ((),())) fun y2=>.leaf (mkR fAddr.rs (⟨y1.fst,y2.fst⟩,())) [] []) ?_
 refine ob_i trivial fun _=>lp_i trivial fun y1 i1=>ob_i trivial fun _=>lp_i trivial fun y2 i2=>Xct.leafY (S:=fAddr) (⟨y1.fst,y2.fst⟩,()) ?_
 all_goals
  try simp only[std0] at *
  try simp only[fAddr,fWord,std,Nat.reduceAdd,szF,toF,eqF,mkF,heF,sameSize,ByteArray.size_append] at *
  try simp(disch:=omega) only[wrapId',toNat1] at *
  try simp(disch:=omega) only[if_pos,if_neg]
 all_goals first|trivial|omega|grind[wrapId',toNat1,drop_cons,drop_end,good_len,maxLen,sameSize,ByteArray.size_append])
def E72:=E71.addX 40 fAddr
theorem E72ok:EOk Tryz.prog E72:=E71ok.addX k40_71
def fText8:Xct:=⟨[.u,.v (.el .int)],[.el .str],fun(x_:Unit×Int×Unit)=>0≤x_.2.1∧x_.2.1≤100,fun(x_:Unit×Int×Unit) (y_:ByteArray×Unit)=>y_.1.size≤31*x_.2.1+31⟩
abbrev W_spec_l8Text_fText8_3 (c:Unit) (most:Int):LInv:=⟨[⟨.s,5,true,.el .str⟩,⟨.s,6,true,.el .int⟩],fun _ (x_:ByteArray×Int×Unit)=>0≤x_.2.1∧x_.2.1≤most+1∧x_.1.size+31*x_.2.1≤31*most+31,fun(x_:ByteArray×Int×Unit)=>x_.2.1.toNat⟩
theorem k90_72:fText8.ok Tryz.prog 90:=Xct.of (S:=fText8) (L:=fun⟨c,most,_⟩=>fun|3=>some (W_spec_l8Text_fText8_3 c most)|_=>none) (kp:=[0,1,4,5,6,12,16,1000012,1000016]) E72ok Tryz.func90 (by kernel_rfl) (by kernel_rfl) (by
 rintro⟨(c:PUnit),(most:Int),_⟩ hp
 refine ho (.ob (fBelow.pre ((),most,()))<|.lp (Int×PUnit) (True) (fBelow.is ((),most,())) fun y1=>lpx (W_spec_l8Text_fText8_3 c most) ({ data := #[]:ByteArray },(IntKind.i64.wrap ((1:Int)+y1.fst),())) fun(y2:ByteArray×Int×PUnit) bk2=>.br (decide (y2.snd.fst>(0:Int))) (.br (!y2.fst.toList=={ data := #[]:ByteArray }.toList) (.ob (sameSize y2.fst { data := #[(59:UInt8)]:ByteArray })<|.ob (fStrL.pre ((),[{ data := #[(115:UInt8),(97:UInt8),(121:UInt8),(32:UInt8),(104:UInt8),(105:UInt8)]:ByteArray },{ data := #[(99:UInt8),(111:UInt8),(117:UInt8),(110:UInt8),(116:UInt8),(32:UInt8),(112:UInt8)]:ByteArray },{ data := #[(99:UInt8),(111:UInt8),(117:UInt8),(110:UInt8),(116:UInt8),(32:UInt8),(115:UInt8),(99:UInt8),(114:UInt8),(105:UInt8),(112:UInt8),(116:UInt8)]:ByteArray },{ data := #[(108:UInt8),(111:UInt8),(111:UInt8),(107:UInt8),(32:UInt8),(112:UInt8)]:ByteArray },{ data := #[(108:UInt8),(111:UInt8),(111:UInt8),(107:UInt8),(32:UInt8),(98:UInt8)]:ByteArray },{ data := #[(97:UInt8),(100:UInt8),(100:UInt8),(32:UInt8),(98:UInt8)]:ByteArray },{ data := #[(97:UInt8),(100:UInt8),(100:UInt8),(32:UInt8),(112:UInt8)]:ByteArray },{ data := #[(119:UInt8),(114:UInt8),(105:UInt8),(116:UInt8),(101:UInt8),(32:UInt8),(91:UInt8),(112:UInt8),(93:UInt8),(120:UInt8),(91:UInt8),(47:UInt8),(112:UInt8),(93:UInt8)]:ByteArray },{ data := #[(119:UInt8),(114:UInt8),(105:UInt8),(116:UInt8),(101:UInt8),(32:UInt8),(91:UInt8),(105:UInt8),(109:UInt8),(103:UInt8),(32:UInt8),(115:UInt8),(114:UInt8),(99:UInt8),(61:UInt8),(108:UInt8),(111:UInt8),(103:UInt8),(111:UInt8),(93:UInt8)]:ByteArray },{ data := #[(119:UInt8),(114:UInt8),(105:UInt8),(116:UInt8),(101:UInt8),(32:UInt8),(91:UInt8),(108:UInt8),(105:UInt8),(110:UInt8),(107:UInt8),(32:UInt8),(104:UInt8),(114:UInt8),(101:UInt8),(102:UInt8),(61:UInt8),(115:UInt8),(116:UInt8),(121:UInt8),(108:UInt8),(101:UInt8),(93:UInt8)]:ByteArray },{ data := #[(119:UInt8),(114:UInt8),(105:UInt8),(116:UInt8),(101:UInt8),(32:UInt8),(91:UInt8),(98:UInt8),(93:UInt8)]:ByteArray }],()))<|.lp (ByteArray×PUnit) (True) (fStrL.is ((),[{ data := #[(115:UInt8),(97:UInt8),(121:UInt8),(32:UInt8),(104:UInt8),(105:UInt8)]:ByteArray },{ data := #[(99:UInt8),(111:UInt8),(117:UInt8),(110:UInt8),(116:UInt8),(32:UInt8),(112:UInt8)]:ByteArray },{ data := #[(99:UInt8),(111:UInt8),(117:UInt8),(110:UInt8),(116:UInt8),(32:UInt8),(115:UInt8),(99:UInt8),(114:UInt8),(105:UInt8),(112:UInt8),(116:UInt8)]:ByteArray },{ data := #[(108:UInt8),(111:UInt8),(111:UInt8),(107:UInt8),(32:UInt8),(112:UInt8)]:ByteArray },{ data := #[(108:UInt8),(111:UInt8),(111:UInt8),(107:UInt8),(32:UInt8),(98:UInt8)]:ByteArray },{ data := #[(97:UInt8),(100:UInt8),(100:UInt8),(32:UInt8),(98:UInt8)]:ByteArray },{ data := #[(97:UInt8),(100:UInt8),(100:UInt8),(32:UInt8),(112:UInt8)]:ByteArray },{ data := #[(119:UInt8),(114:UInt8),(105:UInt8),(116:UInt8),(101:UInt8),(32:UInt8),(91:UInt8),(112:UInt8),(93:UInt8),(120:UInt8),(91:UInt8),(47:UInt8),(112:UInt8),(93:UInt8)]:ByteArray },{ data := #[(119:UInt8),(114:UInt8),(105:UInt8),(116:UInt8),(101:UInt8),(32:UInt8),(91:UInt8),(105:UInt8),(109:UInt8),(103:UInt8),(32:UInt8),(115:UInt8),(114:UInt8),(99:UInt8),(61:UInt8),(108:UInt8),(111:UInt8),(103:UInt8),(111:UInt8),(93:UInt8)]:ByteArray },{ data := #[(119:UInt8),(114:UInt8),(105:UInt8),(116:UInt8),(101:UInt8),(32:UInt8),(91:UInt8),(108:UInt8),(105:UInt8),(110:UInt8),(107:UInt8),(32:UInt8),(104:UInt8),(114:UInt8),(101:UInt8),(102:UInt8),(61:UInt8),(115:UInt8),(116:UInt8),(121:UInt8),(108:UInt8),(101:UInt8),(93:UInt8)]:ByteArray },{ data := #[(119:UInt8),(114:UInt8),(105:UInt8),(116:UInt8),(101:UInt8),(32:UInt8),(91:UInt8),(98:UInt8),(93:UInt8)]:ByteArray }],())) fun y7=>.ob (sameSize (y2.fst++{ data := #[(59:UInt8)]:ByteArray }) y7.fst)<|.ob (Value.int IntKind.i64 most=Value.int IntKind.i64 most)<|.ob (Value.string { data := #[]:ByteArray }=Value.string { data := #[]:ByteArray })<|.ob (bk2 (y2.fst++{ data := #[(59:UInt8)]:ByteArray }++y7.fst,(IntKind.i64.wrap (y2.snd.fst-(1:Int)),())))<|.ok) (.ob (fStrL.pre ((),[{ data := #[(115:UInt8),(97:UInt8),(121:UInt8),(32:UInt8),(104:UInt8),(105:UInt8)]:ByteArray },{ data := #[(99:UInt8),(111:UInt8),(117:UInt8),(110:UInt8),(116:UInt8),(32:UInt8),(112:UInt8)]:ByteArray },{ data := #[(99:UInt8),(111:UInt8),(117:UInt8),(110:UInt8),(116:UInt8),(32:UInt8),(115:UInt8),(99:UInt8),(114:UInt8),(105:UInt8),(112:UInt8),(116:UInt8)]:ByteArray },{ data := #[(108:UInt8),(111:UInt8),(111:UInt8),(107:UInt8),(32:UInt8),(112:UInt8)]:ByteArray },{ data := #[(108:UInt8),(111:UInt8),(111:UInt8),(107:UInt8),(32:UInt8),(98:UInt8)]:ByteArray },{ data := #[(97:UInt8),(100:UInt8),(100:UInt8),(32:UInt8),(98:UInt8)]:ByteArray },{ data := #[(97:UInt8),(100:UInt8),(100:UInt8),(32:UInt8),(112:UInt8)]:ByteArray },{ data := #[(119:UInt8),(114:UInt8),(105:UInt8),(116:UInt8),(101:UInt8),(32:UInt8),(91:UInt8),(112:UInt8),(93:UInt8),(120:UInt8),(91:UInt8),(47:UInt8),(112:UInt8),(93:UInt8)]:ByteArray },{ data := #[(119:UInt8),(114:UInt8),(105:UInt8),(116:UInt8),(101:UInt8),(32:UInt8),(91:UInt8),(105:UInt8),(109:UInt8),(103:UInt8),(32:UInt8),(115:UInt8),(114:UInt8),(99:UInt8),(61:UInt8),(108:UInt8),(111:UInt8),(103:UInt8),(111:UInt8),(93:UInt8)]:ByteArray },{ data := #[(119:UInt8),(114:UInt8),(105:UInt8),(116:UInt8),(101:UInt8),(32:UInt8),(91:UInt8),(108:UInt8),(105:UInt8),(110:UInt8),(107:UInt8),(32:UInt8),(104:UInt8),(114:UInt8),(101:UInt8),(102:UInt8),(61:UInt8),(115:UInt8),(116:UInt8),(121:UInt8),(108:UInt8),(101:UInt8),(93:UInt8)]:ByteArray },{ data := #[(119:UInt8),(114:UInt8),(105:UInt8),(116:UInt8),(101:UInt8),(32:UInt8),(91:UInt8),(98:UInt8),(93:UInt8)]:ByteArray }],()))<|.lp (ByteArray×PUnit) (True) (fStrL.is ((),[{ data := #[(115:UInt8),(97:UInt8),(121:UInt8),(32:UInt8),(104:UInt8),(105:UInt8)]:ByteArray },{ data := #[(99:UInt8),(111:UInt8),(117:UInt8),(110:UInt8),(116:UInt8),(32:UInt8),(112:UInt8)]:ByteArray },{ data := #[(99:UInt8),(111:UInt8),(117:UInt8),(110:UInt8),(116:UInt8),(32:UInt8),(115:UInt8),(99:UInt8),(114:UInt8),(105:UInt8),(112:UInt8),(116:UInt8)]:ByteArray },{ data := #[(108:UInt8),(111:UInt8),(111:UInt8),(107:UInt8),(32:UInt8),(112:UInt8)]:ByteArray },{ data := #[(108:UInt8),(111:UInt8),(111:UInt8),(107:UInt8),(32:UInt8),(98:UInt8)]:ByteArray },{ data := #[(97:UInt8),(100:UInt8),(100:UInt8),(32:UInt8),(98:UInt8)]:ByteArray },{ data := #[(97:UInt8),(100:UInt8),(100:UInt8),(32:UInt8),(112:UInt8)]:ByteArray },{ data := #[(119:UInt8),(114:UInt8),(105:UInt8),(116:UInt8),(101:UInt8),(32:UInt8),(91:UInt8),(112:UInt8),(93:UInt8),(120:UInt8),(91:UInt8),(47:UInt8),(112:UInt8),(93:UInt8)]:ByteArray },{ data := #[(119:UInt8),(114:UInt8),(105:UInt8),(116:UInt8),(101:UInt8),(32:UInt8),(91:UInt8),(105:UInt8),(109:UInt8),(103:UInt8),(32:UInt8),(115:UInt8),(114:UInt8),(99:UInt8),(61:UInt8),(108:UInt8),(111:UInt8),(103:UInt8),(111:UInt8),(93:UInt8)]:ByteArray },{ data := #[(119:UInt8),(114:UInt8),(105:UInt8),(116:UInt8),(101:UInt8),(32:UInt8),(91:UInt8),(108:UInt8),(105:UInt8),(110:UInt8),(107:UInt8),(32:UInt8),(104:UInt8),(114:UInt8),(101:UInt8),(102:UInt8),(61:UInt8),(115:UInt8),(116:UInt8),(121:UInt8),(108:UInt8),(101:UInt8),(93:UInt8)]:ByteArray },{ data := #[(119:UInt8),(114:UInt8),(105:UInt8),(116:UInt8),(101:UInt8),(32:UInt8),(91:UInt8),(98:UInt8),(93:UInt8)]:ByteArray }],())) fun y11=>.ob (sameSize y2.fst y11.fst)<|.ob (Value.int IntKind.i64 most=Value.int IntKind.i64 most)<|.ob (Value.string { data := #[]:ByteArray }=Value.string { data := #[]:ByteArray })<|.ob (bk2 (y2.fst++y11.fst,(IntKind.i64.wrap (y2.snd.fst-(1:Int)),())))<|.ok)) (.leaf (mkR fText8.rs (y2.fst,())) [] [])) ?_
 refine ob_i trivial fun _=>lp_i trivial fun y1 i1=>lpx_i ?_ fun(y2:ByteArray×Int×PUnit) i2=>br_i (fun h3=>br_i (fun h4=>ob_i ?_ fun o5=>ob_i ?_ fun o6=>lp_i trivial fun y7 i7=>ob_i ?_ fun o8=>ob_i rfl fun _=>ob_i rfl fun _=>ob_i ?_ fun o9=>trivial) (fun h4=>ob_i ?_ fun o10=>lp_i trivial fun y11 i11=>ob_i ?_ fun o12=>ob_i rfl fun _=>ob_i rfl fun _=>ob_i ?_ fun o13=>trivial)) (fun h3=>Xct.leafY (S:=fText8) (y2.fst,()) ?_)
 all_goals first|trivial|(refine⟨?_,?_,?_⟩<;>decide)|skip
 all_goals
  try simp only[std0] at *
  try simp only[W_spec_l8Text_fText8_3,fBelow,fStrL,fText8,std,Nat.reduceAdd,szF,toF,eqF,mkF,heF,sameSize,ByteArray.size_append] at *
  try simp(disch:=omega) only[wrapId',toNat1] at *
  try simp(disch:=omega) only[if_pos,if_neg]
 all_goals first|trivial|omega|grind[wrapId',toNat1,drop_cons,drop_end,good_len,maxLen,sameSize,ByteArray.size_append])
def E73:=E72.addX 90 fText8
theorem E73ok:EOk Tryz.prog E73:=E72ok.addX k90_72
def fText7:Xct:=⟨[.u],[.el .str],fun(x_:Unit×Unit)=>True,fun(x_:Unit×Unit) (y_:ByteArray×Unit)=>y_.1.size≤250⟩
abbrev W_spec_l7Text_fText7_3 (c:Unit):LInv:=⟨[⟨.s,3,true,.el .str⟩,⟨.s,4,true,.el .int⟩],fun _ (x_:ByteArray×Int×Unit)=>0≤x_.2.1∧x_.2.1≤3∧x_.1.size+70*x_.2.1≤250,fun(x_:ByteArray×Int×Unit)=>x_.2.1.toNat⟩
theorem k110_73:fText7.ok Tryz.prog 110:=Xct.of (S:=fText7) (L:=fun⟨c,_⟩=>fun|3=>some (W_spec_l7Text_fText7_3 c)|_=>none) (kp:=[0,2,3,4,8,1000008]) E73ok Tryz.func110 (by kernel_rfl) (by kernel_rfl) (by
 rintro⟨(c:PUnit),_⟩ hp
 refine ho (.ob (fBelow.pre ((),(4:Int),()))<|.lp (Int×PUnit) (True) (fBelow.is ((),(4:Int),())) fun y1=>lpx (W_spec_l7Text_fText7_3 c) ({ data := #[]:ByteArray },(y1.fst,())) fun(y2:ByteArray×Int×PUnit) bk2=>.br (decide (y2.snd.fst>(0:Int))) (.ob (fStrL.pre ((),[{ data := #[(112:UInt8)]:ByteArray },{ data := #[(98:UInt8)]:ByteArray },{ data := #[(112:UInt8),(97:UInt8),(103:UInt8),(101:UInt8)]:ByteArray },{ data := #[(80:UInt8)]:ByteArray },{ data := #[]:ByteArray }],()))<|.lp (ByteArray×PUnit) (True) (fStrL.is ((),[{ data := #[(112:UInt8)]:ByteArray },{ data := #[(98:UInt8)]:ByteArray },{ data := #[(112:UInt8),(97:UInt8),(103:UInt8),(101:UInt8)]:ByteArray },{ data := #[(80:UInt8)]:ByteArray },{ data := #[]:ByteArray }],())) fun y5=>.ob (sameSize y2.fst y5.fst)<|.ob (sameSize (y2.fst++y5.fst) { data := #[(58:UInt8)]:ByteArray })<|.ob (fStrL.pre ((),[{ data := #[(49:UInt8)]:ByteArray },{ data := #[(55:UInt8)]:ByteArray },{ data := #[(57:UInt8),(57:UInt8),(57:UInt8)]:ByteArray },{ data := #[(49:UInt8),(48:UInt8),(48:UInt8),(48:UInt8)]:ByteArray },{ data := #[(48:UInt8)]:ByteArray },{ data := #[(120:UInt8)]:ByteArray }],()))<|.lp (ByteArray×PUnit) (True) (fStrL.is ((),[{ data := #[(49:UInt8)]:ByteArray },{ data := #[(55:UInt8)]:ByteArray },{ data := #[(57:UInt8),(57:UInt8),(57:UInt8)]:ByteArray },{ data := #[(49:UInt8),(48:UInt8),(48:UInt8),(48:UInt8)]:ByteArray },{ data := #[(48:UInt8)]:ByteArray },{ data := #[(120:UInt8)]:ByteArray }],())) fun y9=>.ob (sameSize (y2.fst++y5.fst++{ data := #[(58:UInt8)]:ByteArray }) y9.fst)<|.ob (sameSize (y2.fst++y5.fst++{ data := #[(58:UInt8)]:ByteArray }++y9.fst) { data := #[(59:UInt8)]:ByteArray })<|.ob (Value.string { data := #[]:ByteArray }=Value.string { data := #[]:ByteArray })<|.ob (bk2 (y2.fst++y5.fst++{ data := #[(58:UInt8)]:ByteArray }++y9.fst++{ data := #[(59:UInt8)]:ByteArray },(IntKind.i64.wrap (y2.snd.fst-(1:Int)),())))<|.ok) (.leaf (mkR fText7.rs (y2.fst,())) [] [])) ?_
 refine ob_i trivial fun _=>lp_i trivial fun y1 i1=>lpx_i ?_ fun(y2:ByteArray×Int×PUnit) i2=>br_i (fun h3=>ob_i ?_ fun o4=>lp_i trivial fun y5 i5=>ob_i ?_ fun o6=>ob_i ?_ fun o7=>ob_i ?_ fun o8=>lp_i trivial fun y9 i9=>ob_i ?_ fun o10=>ob_i ?_ fun o11=>ob_i rfl fun _=>ob_i ?_ fun o12=>trivial) (fun h3=>Xct.leafY (S:=fText7) (y2.fst,()) ?_)
 all_goals first|trivial|(refine⟨?_,?_,?_⟩<;>decide)|skip
 all_goals
  try simp only[std0] at *
  try simp only[W_spec_l7Text_fText7_3,fBelow,fStrL,fText7,std,Nat.reduceAdd,szF,toF,eqF,mkF,heF,sameSize,ByteArray.size_append] at *
  try simp(disch:=omega) only[wrapId',toNat1] at *
  try simp(disch:=omega) only[if_pos,if_neg]
 all_goals first|trivial|omega|grind[wrapId',toNat1,drop_cons,drop_end,good_len,maxLen,sameSize,ByteArray.size_append])
def E74:=E73.addX 110 fText7
theorem E74ok:EOk Tryz.prog E74:=E73ok.addX k110_73
def fTag5:Xct:=⟨[.u],[.el .str],fun(x_:Unit×Unit)=>True,fun(x_:Unit×Unit) (y_:ByteArray×Unit)=>y_.1.size≤100⟩
theorem k136_74:fTag5.ok Tryz.prog 136:=Xct.of (S:=fTag5) (L:=fun _ _=>none) (kp:=[0,2,4,5,11,17,28,34,40,1000005,1000011,1000017,1000028,1000034,1000040]) E74ok Tryz.func136 (by kernel_rfl) (by kernel_rfl) (by
 rintro⟨(c:PUnit),_⟩ hp
 refine ho (.ob (fBelow.pre ((),(8:Int),()))<|.lp (Int×PUnit) (True) (fBelow.is ((),(8:Int),())) fun y1=>.br (y1.fst==(0:Int)) (.ob (fStrL.pre ((),[{ data := #[(112:UInt8)]:ByteArray },{ data := #[(98:UInt8)]:ByteArray },{ data := #[(115:UInt8),(99:UInt8),(114:UInt8),(105:UInt8),(112:UInt8),(116:UInt8)]:ByteArray },{ data := #[(112:UInt8),(97:UInt8),(103:UInt8),(101:UInt8)]:ByteArray }],()))<|.lp (ByteArray×PUnit) (True) (fStrL.is ((),[{ data := #[(112:UInt8)]:ByteArray },{ data := #[(98:UInt8)]:ByteArray },{ data := #[(115:UInt8),(99:UInt8),(114:UInt8),(105:UInt8),(112:UInt8),(116:UInt8)]:ByteArray },{ data := #[(112:UInt8),(97:UInt8),(103:UInt8),(101:UInt8)]:ByteArray }],())) fun y4=>.ob (sameSize { data := #[(47:UInt8)]:ByteArray } y4.fst)<|.leaf (mkR fTag5.rs ({ data := #[(47:UInt8)]:ByteArray }++y4.fst,())) [] []) (.br (y1.fst==(1:Int)) (.ob (fStrL.pre ((),[{ data := #[(97:UInt8),(112:UInt8),(112:UInt8)]:ByteArray },{ data := #[(99:UInt8),(100:UInt8),(110:UInt8),(47:UInt8),(108:UInt8),(105:UInt8),(98:UInt8)]:ByteArray },{ data := #[(108:UInt8),(105:UInt8),(98:UInt8)]:ByteArray },{ data := #[(101:UInt8),(118:UInt8),(105:UInt8),(108:UInt8),(47:UInt8),(97:UInt8),(112:UInt8),(112:UInt8)]:ByteArray }],()))<|.lp (ByteArray×PUnit) (True) (fStrL.is ((),[{ data := #[(97:UInt8),(112:UInt8),(112:UInt8)]:ByteArray },{ data := #[(99:UInt8),(100:UInt8),(110:UInt8),(47:UInt8),(108:UInt8),(105:UInt8),(98:UInt8)]:ByteArray },{ data := #[(108:UInt8),(105:UInt8),(98:UInt8)]:ByteArray },{ data := #[(101:UInt8),(118:UInt8),(105:UInt8),(108:UInt8),(47:UInt8),(97:UInt8),(112:UInt8),(112:UInt8)]:ByteArray }],())) fun y8=>.ob (sameSize { data := #[(115:UInt8),(99:UInt8),(114:UInt8),(105:UInt8),(112:UInt8),(116:UInt8),(32:UInt8),(115:UInt8),(114:UInt8),(99:UInt8),(61:UInt8)]:ByteArray } y8.fst)<|.leaf (mkR fTag5.rs ({ data := #[(115:UInt8),(99:UInt8),(114:UInt8),(105:UInt8),(112:UInt8),(116:UInt8),(32:UInt8),(115:UInt8),(114:UInt8),(99:UInt8),(61:UInt8)]:ByteArray }++y8.fst,())) [] []) (.br (y1.fst==(2:Int)) (.ob (fStrL.pre ((),[{ data := #[(97:UInt8),(112:UInt8),(112:UInt8)]:ByteArray },{ data := #[(117:UInt8),(116:UInt8),(105:UInt8),(108:UInt8)]:ByteArray }],()))<|.lp (ByteArray×PUnit) (True) (fStrL.is ((),[{ data := #[(97:UInt8),(112:UInt8),(112:UInt8)]:ByteArray },{ data := #[(117:UInt8),(116:UInt8),(105:UInt8),(108:UInt8)]:ByteArray }],())) fun y12=>.ob (sameSize { data := #[(115:UInt8),(99:UInt8),(114:UInt8),(105:UInt8),(112:UInt8),(116:UInt8),(32:UInt8),(115:UInt8),(114:UInt8),(99:UInt8),(61:UInt8)]:ByteArray } y12.fst)<|.ob (sameSize ({ data := #[(115:UInt8),(99:UInt8),(114:UInt8),(105:UInt8),(112:UInt8),(116:UInt8),(32:UInt8),(115:UInt8),(114:UInt8),(99:UInt8),(61:UInt8)]:ByteArray }++y12.fst) { data := #[(32:UInt8),(107:UInt8),(105:UInt8),(110:UInt8),(100:UInt8),(61:UInt8)]:ByteArray })<|.ob (fStrL.pre ((),[{ data := #[(100:UInt8),(101:UInt8),(102:UInt8),(101:UInt8),(114:UInt8)]:ByteArray },{ data := #[(109:UInt8),(111:UInt8),(100:UInt8),(117:UInt8),(108:UInt8),(101:UInt8)]:ByteArray }],()))<|.lp (ByteArray×PUnit) (True) (fStrL.is ((),[{ data := #[(100:UInt8),(101:UInt8),(102:UInt8),(101:UInt8),(114:UInt8)]:ByteArray },{ data := #[(109:UInt8),(111:UInt8),(100:UInt8),(117:UInt8),(108:UInt8),(101:UInt8)]:ByteArray }],())) fun y16=>.ob (sameSize ({ data := #[(115:UInt8),(99:UInt8),(114:UInt8),(105:UInt8),(112:UInt8),(116:UInt8),(32:UInt8),(115:UInt8),(114:UInt8),(99:UInt8),(61:UInt8)]:ByteArray }++y12.fst++{ data := #[(32:UInt8),(107:UInt8),(105:UInt8),(110:UInt8),(100:UInt8),(61:UInt8)]:ByteArray }) y16.fst)<|.leaf (mkR fTag5.rs ({ data := #[(115:UInt8),(99:UInt8),(114:UInt8),(105:UInt8),(112:UInt8),(116:UInt8),(32:UInt8),(115:UInt8),(114:UInt8),(99:UInt8),(61:UInt8)]:ByteArray }++y12.fst++{ data := #[(32:UInt8),(107:UInt8),(105:UInt8),(110:UInt8),(100:UInt8),(61:UInt8)]:ByteArray }++y16.fst,())) [] []) (.br (y1.fst==(3:Int)) (.ob (fStrL.pre ((),[{ data := #[(108:UInt8),(111:UInt8),(103:UInt8),(111:UInt8)]:ByteArray },{ data := #[(99:UInt8),(100:UInt8),(110:UInt8),(47:UInt8),(108:UInt8),(111:UInt8),(103:UInt8),(111:UInt8)]:ByteArray }],()))<|.lp (ByteArray×PUnit) (True) (fStrL.is ((),[{ data := #[(108:UInt8),(111:UInt8),(103:UInt8),(111:UInt8)]:ByteArray },{ data := #[(99:UInt8),(100:UInt8),(110:UInt8),(47:UInt8),(108:UInt8),(111:UInt8),(103:UInt8),(111:UInt8)]:ByteArray }],())) fun y20=>.ob (sameSize { data := #[(105:UInt8),(109:UInt8),(103:UInt8),(32:UInt8),(115:UInt8),(114:UInt8),(99:UInt8),(61:UInt8)]:ByteArray } y20.fst)<|.leaf (mkR fTag5.rs ({ data := #[(105:UInt8),(109:UInt8),(103:UInt8),(32:UInt8),(115:UInt8),(114:UInt8),(99:UInt8),(61:UInt8)]:ByteArray }++y20.fst,())) [] []) (.br (y1.fst==(4:Int)) (.ob (fStrL.pre ((),[{ data := #[(115:UInt8),(116:UInt8),(121:UInt8),(108:UInt8),(101:UInt8)]:ByteArray },{ data := #[(99:UInt8),(100:UInt8),(110:UInt8),(47:UInt8),(115:UInt8),(116:UInt8),(121:UInt8),(108:UInt8),(101:UInt8)]:ByteArray }],()))<|.lp (ByteArray×PUnit) (True) (fStrL.is ((),[{ data := #[(115:UInt8),(116:UInt8),(121:UInt8),(108:UInt8),(101:UInt8)]:ByteArray },{ data := #[(99:UInt8),(100:UInt8),(110:UInt8),(47:UInt8),(115:UInt8),(116:UInt8),(121:UInt8),(108:UInt8),(101:UInt8)]:ByteArray }],())) fun y24=>.ob (sameSize { data := #[(108:UInt8),(105:UInt8),(110:UInt8),(107:UInt8),(32:UInt8),(104:UInt8),(114:UInt8),(101:UInt8),(102:UInt8),(61:UInt8)]:ByteArray } y24.fst)<|.leaf (mkR fTag5.rs ({ data := #[(108:UInt8),(105:UInt8),(110:UInt8),(107:UInt8),(32:UInt8),(104:UInt8),(114:UInt8),(101:UInt8),(102:UInt8),(61:UInt8)]:ByteArray }++y24.fst,())) [] []) (.br (y1.fst==(5:Int)) (.ob (fStrL.pre ((),[{ data := #[(112:UInt8),(32:UInt8),(97:UInt8),(61:UInt8),(98:UInt8)]:ByteArray },{ data := #[]:ByteArray },{ data := #[(80:UInt8)]:ByteArray },{ data := #[(112:UInt8),(32:UInt8),(97:UInt8)]:ByteArray },{ data := #[(112:UInt8),(32:UInt8),(97:UInt8),(61:UInt8)]:ByteArray },{ data := #[(112:UInt8),(32:UInt8),(32:UInt8),(97:UInt8),(61:UInt8),(98:UInt8)]:ByteArray },{ data := #[(112:UInt8),(32:UInt8),(97:UInt8),(61:UInt8),(98:UInt8),(32:UInt8),(97:UInt8),(61:UInt8),(99:UInt8)]:ByteArray },{ data := #[(112:UInt8),(32:UInt8),(97:UInt8),(61:UInt8),(98:UInt8),(32:UInt8),(98:UInt8),(61:UInt8),(99:UInt8),(32:UInt8),(99:UInt8),(61:UInt8),(100:UInt8),(32:UInt8),(100:UInt8),(61:UInt8),(101:UInt8),(32:UInt8),(101:UInt8),(61:UInt8),(102:UInt8)]:ByteArray },{ data := #[(47:UInt8)]:ByteArray },{ data := #[(112:UInt8),(32:UInt8),(97:UInt8),(61:UInt8),(98:UInt8),(61:UInt8),(99:UInt8)]:ByteArray }],()))<|.lp (ByteArray×PUnit) (True) (fStrL.is ((),[{ data := #[(112:UInt8),(32:UInt8),(97:UInt8),(61:UInt8),(98:UInt8)]:ByteArray },{ data := #[]:ByteArray },{ data := #[(80:UInt8)]:ByteArray },{ data := #[(112:UInt8),(32:UInt8),(97:UInt8)]:ByteArray },{ data := #[(112:UInt8),(32:UInt8),(97:UInt8),(61:UInt8)]:ByteArray },{ data := #[(112:UInt8),(32:UInt8),(32:UInt8),(97:UInt8),(61:UInt8),(98:UInt8)]:ByteArray },{ data := #[(112:UInt8),(32:UInt8),(97:UInt8),(61:UInt8),(98:UInt8),(32:UInt8),(97:UInt8),(61:UInt8),(99:UInt8)]:ByteArray },{ data := #[(112:UInt8),(32:UInt8),(97:UInt8),(61:UInt8),(98:UInt8),(32:UInt8),(98:UInt8),(61:UInt8),(99:UInt8),(32:UInt8),(99:UInt8),(61:UInt8),(100:UInt8),(32:UInt8),(100:UInt8),(61:UInt8),(101:UInt8),(32:UInt8),(101:UInt8),(61:UInt8),(102:UInt8)]:ByteArray },{ data := #[(47:UInt8)]:ByteArray },{ data := #[(112:UInt8),(32:UInt8),(97:UInt8),(61:UInt8),(98:UInt8),(61:UInt8),(99:UInt8)]:ByteArray }],())) fun y28=>.leaf (mkR fTag5.rs (y28.fst,())) [] []) (.ob (fStrL.pre ((),[{ data := #[(112:UInt8)]:ByteArray },{ data := #[(98:UInt8)]:ByteArray },{ data := #[(112:UInt8),(97:UInt8),(103:UInt8),(101:UInt8)]:ByteArray },{ data := #[(115:UInt8),(99:UInt8),(114:UInt8),(105:UInt8),(112:UInt8),(116:UInt8)]:ByteArray }],()))<|.lp (ByteArray×PUnit) (True) (fStrL.is ((),[{ data := #[(112:UInt8)]:ByteArray },{ data := #[(98:UInt8)]:ByteArray },{ data := #[(112:UInt8),(97:UInt8),(103:UInt8),(101:UInt8)]:ByteArray },{ data := #[(115:UInt8),(99:UInt8),(114:UInt8),(105:UInt8),(112:UInt8),(116:UInt8)]:ByteArray }],())) fun y30=>.leaf (mkR fTag5.rs (y30.fst,())) [] []))))))) ?_
 refine ob_i trivial fun _=>lp_i trivial fun y1 i1=>br_i (fun h2=>ob_i ?_ fun o3=>lp_i trivial fun y4 i4=>ob_i ?_ fun o5=>Xct.leafY (S:=fTag5) ({ data := #[(47:UInt8)]:ByteArray }++y4.fst,()) ?_) (fun h2=>br_i (fun h6=>ob_i ?_ fun o7=>lp_i trivial fun y8 i8=>ob_i ?_ fun o9=>Xct.leafY (S:=fTag5) ({ data := #[(115:UInt8),(99:UInt8),(114:UInt8),(105:UInt8),(112:UInt8),(116:UInt8),(32:UInt8),(115:UInt8),(114:UInt8),(99:UInt8),(61:UInt8)]:ByteArray }++y8.fst,()) ?_) (fun h6=>br_i (fun h10=>ob_i ?_ fun o11=>lp_i trivial fun y12 i12=>ob_i ?_ fun o13=>ob_i ?_ fun o14=>ob_i ?_ fun o15=>lp_i trivial fun y16 i16=>ob_i ?_ fun o17=>Xct.leafY (S:=fTag5) ({ data := #[(115:UInt8),(99:UInt8),(114:UInt8),(105:UInt8),(112:UInt8),(116:UInt8),(32:UInt8),(115:UInt8),(114:UInt8),(99:UInt8),(61:UInt8)]:ByteArray }++y12.fst++{ data := #[(32:UInt8),(107:UInt8),(105:UInt8),(110:UInt8),(100:UInt8),(61:UInt8)]:ByteArray }++y16.fst,()) ?_) (fun h10=>br_i (fun h18=>ob_i ?_ fun o19=>lp_i trivial fun y20 i20=>ob_i ?_ fun o21=>Xct.leafY (S:=fTag5) ({ data := #[(105:UInt8),(109:UInt8),(103:UInt8),(32:UInt8),(115:UInt8),(114:UInt8),(99:UInt8),(61:UInt8)]:ByteArray }++y20.fst,()) ?_) (fun h18=>br_i (fun h22=>ob_i ?_ fun o23=>lp_i trivial fun y24 i24=>ob_i ?_ fun o25=>Xct.leafY (S:=fTag5) ({ data := #[(108:UInt8),(105:UInt8),(110:UInt8),(107:UInt8),(32:UInt8),(104:UInt8),(114:UInt8),(101:UInt8),(102:UInt8),(61:UInt8)]:ByteArray }++y24.fst,()) ?_) (fun h22=>br_i (fun h26=>ob_i ?_ fun o27=>lp_i trivial fun y28 i28=>Xct.leafY (S:=fTag5) (y28.fst,()) ?_) (fun h26=>ob_i ?_ fun o29=>lp_i trivial fun y30 i30=>Xct.leafY (S:=fTag5) (y30.fst,()) ?_))))))
 all_goals first|trivial|(refine⟨?_,?_,?_⟩<;>decide)|skip
 all_goals
  try simp only[std0] at *
  try simp only[fBelow,fStrL,fTag5,std,Nat.reduceAdd,szF,toF,eqF,mkF,heF,sameSize,ByteArray.size_append] at *
  try simp(disch:=omega) only[wrapId',toNat1] at *
  try simp(disch:=omega) only[if_pos,if_neg]
 all_goals first|trivial|omega|grind[wrapId',toNat1,drop_cons,drop_end,good_len,maxLen,sameSize,ByteArray.size_append])
def E75:=E74.addX 136 fTag5
theorem E75ok:EOk Tryz.prog E75:=E74ok.addX k136_74
def fPage5:Xct:=⟨[.u,.v (.el .int)],[.el .str],fun(x_:Unit×Int×Unit)=>0≤x_.2.1∧x_.2.1≤1000,fun(x_:Unit×Int×Unit) (y_:ByteArray×Unit)=>y_.1.size≤110*x_.2.1+200⟩
abbrev W_spec_l5Page_fPage5_3 (c:Unit) (most:Int):LInv:=⟨[⟨.s,5,true,.el .str⟩,⟨.s,6,true,.el .int⟩],fun _ (x_:ByteArray×Int×Unit)=>0≤x_.2.1∧x_.2.1≤most+1∧x_.1.size+110*x_.2.1≤110*most+110,fun(x_:ByteArray×Int×Unit)=>x_.2.1.toNat⟩
theorem k111_75:fPage5.ok Tryz.prog 111:=Xct.of (S:=fPage5) (L:=fun⟨c,most,_⟩=>fun|3=>some (W_spec_l5Page_fPage5_3 c most)|_=>none) (kp:=[0,1,4,5,6,12,16,29,1000012,1000016,1000029]) E75ok Tryz.func111 (by kernel_rfl) (by kernel_rfl) (by
 rintro⟨(c:PUnit),(most:Int),_⟩ hp
 refine ho (.ob (fBelow.pre ((),IntKind.i64.wrap (most+(1:Int)),()))<|.lp (Int×PUnit) (True) (fBelow.is ((),IntKind.i64.wrap (most+(1:Int)),())) fun y1=>lpx (W_spec_l5Page_fPage5_3 c most) ({ data := #[]:ByteArray },(y1.fst,())) fun(y2:ByteArray×Int×PUnit) bk2=>.br (decide (y2.snd.fst>(0:Int))) (.ob (fOnce.pre ((),(3:Int),()))<|.lp (Bool×PUnit) (True) (fOnce.is ((),(3:Int),())) fun y4=>.br (y4.fst) (.ob (fStrL.pre ((),[{ data := #[(104:UInt8),(105:UInt8)]:ByteArray },{ data := #[(97:UInt8),(32:UInt8),(98:UInt8)]:ByteArray },{ data := #[(99:UInt8),(111:UInt8),(117:UInt8),(110:UInt8),(116:UInt8)]:ByteArray },{ data := #[(120:UInt8),(62:UInt8),(121:UInt8)]:ByteArray },{ data := #[]:ByteArray }],()))<|.lp (ByteArray×PUnit) (True) (fStrL.is ((),[{ data := #[(104:UInt8),(105:UInt8)]:ByteArray },{ data := #[(97:UInt8),(32:UInt8),(98:UInt8)]:ByteArray },{ data := #[(99:UInt8),(111:UInt8),(117:UInt8),(110:UInt8),(116:UInt8)]:ByteArray },{ data := #[(120:UInt8),(62:UInt8),(121:UInt8)]:ByteArray },{ data := #[]:ByteArray }],())) fun y7=>.ob (sameSize y2.fst y7.fst)<|.ob (Value.int IntKind.i64 most=Value.int IntKind.i64 most)<|.ob (Value.string { data := #[]:ByteArray }=Value.string { data := #[]:ByteArray })<|.ob (bk2 (y2.fst++y7.fst,(IntKind.i64.wrap (y2.snd.fst-(1:Int)),())))<|.ok) (.ob (sameSize y2.fst { data := #[(60:UInt8)]:ByteArray })<|.ob (fTag5.pre ((),()))<|.lp (ByteArray×PUnit) (True) (fTag5.is ((),())) fun y11=>.ob (sameSize (y2.fst++{ data := #[(60:UInt8)]:ByteArray }) y11.fst)<|.ob (sameSize (y2.fst++{ data := #[(60:UInt8)]:ByteArray }++y11.fst) { data := #[(62:UInt8)]:ByteArray })<|.ob (Value.int IntKind.i64 most=Value.int IntKind.i64 most)<|.ob (Value.string { data := #[]:ByteArray }=Value.string { data := #[]:ByteArray })<|.ob (bk2 (y2.fst++{ data := #[(60:UInt8)]:ByteArray }++y11.fst++{ data := #[(62:UInt8)]:ByteArray },(IntKind.i64.wrap (y2.snd.fst-(1:Int)),())))<|.ok)) (.ob (fOnce.pre ((),(6:Int),()))<|.lp (Bool×PUnit) (True) (fOnce.is ((),(6:Int),())) fun y15=>.br (y15.fst) (.ob (fStrL.pre ((),[{ data := #[(60:UInt8),(112:UInt8)]:ByteArray },{ data := #[(60:UInt8)]:ByteArray },{ data := #[(101:UInt8),(110:UInt8),(100:UInt8)]:ByteArray }],()))<|.lp (ByteArray×PUnit) (True) (fStrL.is ((),[{ data := #[(60:UInt8),(112:UInt8)]:ByteArray },{ data := #[(60:UInt8)]:ByteArray },{ data := #[(101:UInt8),(110:UInt8),(100:UInt8)]:ByteArray }],())) fun y18=>.ob (sameSize y2.fst y18.fst)<|.leaf (mkR fPage5.rs (y2.fst++y18.fst,())) [] []) (.leaf (mkR fPage5.rs (y2.fst,())) [] []))) ?_
 refine ob_i trivial fun _=>lp_i trivial fun y1 i1=>lpx_i ?_ fun(y2:ByteArray×Int×PUnit) i2=>br_i (fun h3=>ob_i trivial fun _=>lp_i trivial fun y4 i4=>br_i (fun h5=>ob_i ?_ fun o6=>lp_i trivial fun y7 i7=>ob_i ?_ fun o8=>ob_i rfl fun _=>ob_i rfl fun _=>ob_i ?_ fun o9=>trivial) (fun h5=>ob_i ?_ fun o10=>ob_i trivial fun _=>lp_i trivial fun y11 i11=>ob_i ?_ fun o12=>ob_i ?_ fun o13=>ob_i rfl fun _=>ob_i rfl fun _=>ob_i ?_ fun o14=>trivial)) (fun h3=>ob_i trivial fun _=>lp_i trivial fun y15 i15=>br_i (fun h16=>ob_i ?_ fun o17=>lp_i trivial fun y18 i18=>ob_i ?_ fun o19=>Xct.leafY (S:=fPage5) (y2.fst++y18.fst,()) ?_) (fun h16=>Xct.leafY (S:=fPage5) (y2.fst,()) ?_))
 all_goals first|trivial|(refine⟨?_,?_,?_⟩<;>decide)|skip
 all_goals
  try simp only[std0] at *
  try simp only[W_spec_l5Page_fPage5_3,fBelow,fOnce,fPage5,fStrL,fTag5,std,Nat.reduceAdd,szF,toF,eqF,mkF,heF,sameSize,ByteArray.size_append] at *
  try simp(disch:=omega) only[wrapId',toNat1] at *
  try simp(disch:=omega) only[if_pos,if_neg]
 all_goals first|trivial|omega|grind[wrapId',toNat1,drop_cons,drop_end,good_len,maxLen,sameSize,ByteArray.size_append])
def E76:=E75.addX 111 fPage5
theorem E76ok:EOk Tryz.prog E76:=E75ok.addX k111_75
def fBody10:Xct:=⟨[.u,.v (.el .int)],[.el .str],fun(x_:Unit×Int×Unit)=>True,fun(x_:Unit×Int×Unit) (y_:ByteArray×Unit)=>y_.1.size≤2000⟩
theorem k85_76:fBody10.ok Tryz.prog 85:=Xct.of (S:=fBody10) (L:=fun _ _=>none) (kp:=[0,1,4,5,6,10,14,23,1000006,1000010,1000014,1000023]) E76ok Tryz.func85 (by kernel_rfl) (by kernel_rfl) (by
 rintro⟨(c:PUnit),(k:Int),_⟩ hp
 refine ho (.br (k==(2:Int)) (.ob (fText8.pre ((),(3:Int),()))<|.lp (ByteArray×PUnit) (True) (fText8.is ((),(3:Int),())) fun y3=>.leaf (mkR fBody10.rs (y3.fst,())) [] []) (.br (k==(3:Int)) (.ob (fText7.pre ((),()))<|.lp (ByteArray×PUnit) (True) (fText7.is ((),())) fun y5=>.leaf (mkR fBody10.rs (y5.fst,())) [] []) (.br (k==(5:Int)) (.ob (fStrL.pre ((),[{ data := #[]:ByteArray },{ data := #[(105:UInt8),(109:UInt8),(112:UInt8),(111:UInt8),(114:UInt8),(116:UInt8),(32:UInt8),(117:UInt8),(116:UInt8),(105:UInt8),(108:UInt8),(59:UInt8)]:ByteArray },{ data := #[(105:UInt8),(109:UInt8),(112:UInt8),(111:UInt8),(114:UInt8),(116:UInt8),(32:UInt8),(108:UInt8),(105:UInt8),(98:UInt8),(59:UInt8)]:ByteArray },{ data := #[(105:UInt8),(109:UInt8),(112:UInt8),(111:UInt8),(114:UInt8),(116:UInt8),(32:UInt8),(99:UInt8),(100:UInt8),(110:UInt8),(47:UInt8),(108:UInt8),(105:UInt8),(98:UInt8),(59:UInt8)]:ByteArray },{ data := #[(105:UInt8),(109:UInt8),(112:UInt8),(111:UInt8),(114:UInt8),(116:UInt8),(32:UInt8),(97:UInt8),(112:UInt8),(112:UInt8),(59:UInt8),(105:UInt8),(109:UInt8),(112:UInt8),(111:UInt8),(114:UInt8),(116:UInt8),(32:UInt8),(117:UInt8),(116:UInt8),(105:UInt8),(108:UInt8),(59:UInt8)]:ByteArray }],()))<|.lp (ByteArray×PUnit) (True) (fStrL.is ((),[{ data := #[]:ByteArray },{ data := #[(105:UInt8),(109:UInt8),(112:UInt8),(111:UInt8),(114:UInt8),(116:UInt8),(32:UInt8),(117:UInt8),(116:UInt8),(105:UInt8),(108:UInt8),(59:UInt8)]:ByteArray },{ data := #[(105:UInt8),(109:UInt8),(112:UInt8),(111:UInt8),(114:UInt8),(116:UInt8),(32:UInt8),(108:UInt8),(105:UInt8),(98:UInt8),(59:UInt8)]:ByteArray },{ data := #[(105:UInt8),(109:UInt8),(112:UInt8),(111:UInt8),(114:UInt8),(116:UInt8),(32:UInt8),(99:UInt8),(100:UInt8),(110:UInt8),(47:UInt8),(108:UInt8),(105:UInt8),(98:UInt8),(59:UInt8)]:ByteArray },{ data := #[(105:UInt8),(109:UInt8),(112:UInt8),(111:UInt8),(114:UInt8),(116:UInt8),(32:UInt8),(97:UInt8),(112:UInt8),(112:UInt8),(59:UInt8),(105:UInt8),(109:UInt8),(112:UInt8),(111:UInt8),(114:UInt8),(116:UInt8),(32:UInt8),(117:UInt8),(116:UInt8),(105:UInt8),(108:UInt8),(59:UInt8)]:ByteArray }],())) fun y8=>.ob (fStrL.pre ((),[{ data := #[(115:UInt8),(97:UInt8),(121:UInt8),(32:UInt8),(109:UInt8)]:ByteArray },{ data := #[(99:UInt8),(111:UInt8),(117:UInt8),(110:UInt8),(116:UInt8),(32:UInt8),(112:UInt8)]:ByteArray },{ data := #[(97:UInt8),(100:UInt8),(100:UInt8),(32:UInt8),(98:UInt8)]:ByteArray },{ data := #[(108:UInt8),(111:UInt8),(111:UInt8),(107:UInt8),(32:UInt8),(112:UInt8)]:ByteArray }],()))<|.lp (ByteArray×PUnit) (True) (fStrL.is ((),[{ data := #[(115:UInt8),(97:UInt8),(121:UInt8),(32:UInt8),(109:UInt8)]:ByteArray },{ data := #[(99:UInt8),(111:UInt8),(117:UInt8),(110:UInt8),(116:UInt8),(32:UInt8),(112:UInt8)]:ByteArray },{ data := #[(97:UInt8),(100:UInt8),(100:UInt8),(32:UInt8),(98:UInt8)]:ByteArray },{ data := #[(108:UInt8),(111:UInt8),(111:UInt8),(107:UInt8),(32:UInt8),(112:UInt8)]:ByteArray }],())) fun y10=>.ob (sameSize y8.fst y10.fst)<|.leaf (mkR fBody10.rs (y8.fst++y10.fst,())) [] []) (.br (k==(4:Int)) (.leaf (mkR fBody10.rs ({ data := #[(112:UInt8),(105:UInt8),(120:UInt8),(101:UInt8),(108:UInt8),(115:UInt8)]:ByteArray },())) [] []) (.ob (fPage5.pre ((),(8:Int),()))<|.lp (ByteArray×PUnit) (True) (fPage5.is ((),(8:Int),())) fun y14=>.leaf (mkR fBody10.rs (y14.fst,())) [] []))))) ?_
 refine br_i (fun h1=>ob_i ?_ fun o2=>lp_i trivial fun y3 i3=>Xct.leafY (S:=fBody10) (y3.fst,()) ?_) (fun h1=>br_i (fun h4=>ob_i trivial fun _=>lp_i trivial fun y5 i5=>Xct.leafY (S:=fBody10) (y5.fst,()) ?_) (fun h4=>br_i (fun h6=>ob_i ?_ fun o7=>lp_i trivial fun y8 i8=>ob_i ?_ fun o9=>lp_i trivial fun y10 i10=>ob_i ?_ fun o11=>Xct.leafY (S:=fBody10) (y8.fst++y10.fst,()) ?_) (fun h6=>br_i (fun h12=>Xct.leafY (S:=fBody10) ({ data := #[(112:UInt8),(105:UInt8),(120:UInt8),(101:UInt8),(108:UInt8),(115:UInt8)]:ByteArray },()) ?_) (fun h12=>ob_i ?_ fun o13=>lp_i trivial fun y14 i14=>Xct.leafY (S:=fBody10) (y14.fst,()) ?_))))
 all_goals first|trivial|(refine⟨?_,?_,?_⟩<;>decide)|skip
 all_goals
  try simp only[std0] at *
  try simp only[fBody10,fPage5,fStrL,fText7,fText8,std,Nat.reduceAdd,szF,toF,eqF,mkF,heF,sameSize,ByteArray.size_append] at *
  try simp(disch:=omega) only[wrapId',toNat1] at *
  try simp(disch:=omega) only[if_pos,if_neg]
 all_goals first|trivial|omega|grind[wrapId',toNat1,drop_cons,drop_end,good_len,maxLen,sameSize,ByteArray.size_append])
def E77:=E76.addX 85 fBody10
theorem E77ok:EOk Tryz.prog E77:=E76ok.addX k85_76
theorem isName_size {s:ByteArray} (h:isName s=true):s.size≤8:=by
 simp only[isName,Bool.and_eq_true,decide_eq_true_eq] at h;omega
def words9:ByteArray→List ByteArray→ByteArray
 | w,[]=>w
 | w,x::l=>words9 (w++⟨#[32]⟩++x) l
theorem words9_at {w:ByteArray} {l:List ByteArray} {i:Nat} (h:i<l.length):words9 w (l.drop i)=words9 (w++⟨#[32]⟩++l.getD i default) (l.drop (i+1)):=by rw[drop_cons h];rfl
theorem words9_end {w:ByteArray} {l:List ByteArray} {i:Nat} (h:l.length≤i):words9 w (l.drop i)=w:=by rw[List.drop_of_length_le h];rfl
theorem words9_size:∀ (l:List ByteArray) (w:ByteArray),l.all isName=true→(words9 w l).size≤w.size+9*l.length:=by
 intro l
 induction l with
 | nil=>intro w _;simp[words9]
 | cons x l ih=>
  intro w h
  simp only[List.all_cons,Bool.and_eq_true] at h
  have h1:=isName_size h.1
  have h2:=ih (w++⟨#[32]⟩++x) h.2
  simp only[words9,List.length_cons]
  rw[ByteArray.size_append,ByteArray.size_append,show ByteArray.size ⟨#[32]⟩=1 from rfl] at h2
  omega
def fWords9:Fct:=⟨[.v (.el .str),.v (.sl .str)],[.el .str],fun(x_:ByteArray×(List ByteArray)×Unit)=>x_.1.size≤100∧x_.2.1.length≤4∧x_.2.1.all isName=true,fun(x_:ByteArray×(List ByteArray)×Unit)=>(words9 x_.1 x_.2.1,())⟩
abbrev W_spec_l9Words_fWords9_2 (w:ByteArray) (l:(List ByteArray)):LInv:=⟨[⟨.s,0,true,.el .str⟩,⟨.s,5,true,.el .int⟩],fun _ (x_:ByteArray×Int×Unit)=>0≤x_.2.1∧x_.2.1≤l.length∧x_.1.size≤100+9*x_.2.1∧words9 x_.1 (l.drop x_.2.1.toNat)=words9 w l,fun(x_:ByteArray×Int×Unit)=>l.length-x_.2.1.toNat⟩
theorem k113_77:fWords9.ok Tryz.prog 113:=Fct.of (S:=fWords9) (L:=fun⟨w,l,_⟩=>fun|2=>some (W_spec_l9Words_fWords9_2 w l)|_=>none) (kp:=[0,1,4,5,9,1000009]) E77ok Tryz.func113 (by kernel_rfl) (by kernel_rfl) (by
 rintro⟨(w:ByteArray),(l:List ByteArray),_⟩ hp
 refine ho (lpx (W_spec_l9Words_fWords9_2 w l) (w,((0:Int),())) fun(y1:ByteArray×Int×PUnit) bk1=>.br (decide (y1.2.1<(↑l.length:Int))) (.ob (sameSize y1.1 (⟨#[32]⟩:ByteArray))<|.ob (inB y1.2.1 l.length)<|.ob (sameSize (y1.1++(⟨#[32]⟩:ByteArray)) (l.getD y1.2.1.toNat default))<|.ob (l=l)<|.ob (Value.string (⟨#[]⟩:ByteArray)=Value.string (⟨#[]⟩:ByteArray))<|.ob (bk1 (y1.1++(⟨#[32]⟩:ByteArray)++l.getD y1.2.1.toNat default,(w1 y1.2.1,())))<|.ok) (.lf fWords9 (y1.1,()))) ?_
 refine lpx_i ?_ fun(y1:ByteArray×Int×PUnit) i1=>br_i (fun h2=>ob_i ?_ fun o3=>ob_i ?_ fun o4=>ob_i ?_ fun o5=>ob_i rfl fun _=>ob_i rfl fun _=>ob_i ?_ fun o6=>trivial) (fun h2=>lfY ?_)
 all_goals
  have hg:∀ i,i<l.length→(l.getD i default).size≤8:=fun i h=>isName_size (List.all_eq_true.1 hp.2.2 _ (getD_in h))
  try simp only[std0] at *
  try simp only[W_spec_l9Words_fWords9_2,fWords9,std,Nat.reduceAdd,szF,toF,eqF,mkF,heF,words9_at,words9_end,sameSize,ByteArray.size_append] at *
  try simp(disch:=omega) only[wrapId',toNat1] at *
  try simp(disch:=omega) only[if_pos,if_neg]
 all_goals first|trivial|omega|grind[wrapId',toNat1,good_len,maxLen,words9_at,words9_end,sameSize,ByteArray.size_append])
def E78:=E77.add 113 fWords9
theorem E78ok:EOk Tryz.prog E78:=E77ok.add k113_77
def formatPolicy (p:SPolicy):ByteArray:=if isPolicy p&&p.set_ then(if p.nonce=⟨#[]⟩ then words9 ⟨#[115,99,114,105,112,116]⟩ p.scripts++⟨#[59]⟩++words9 ⟨#[115,116,121,108,101]⟩ p.styles++⟨#[59]⟩++words9 ⟨#[105,109,103]⟩ p.images else words9 ⟨#[115,99,114,105,112,116]⟩ p.scripts++⟨#[59]⟩++words9 ⟨#[115,116,121,108,101]⟩ p.styles++⟨#[59]⟩++words9 ⟨#[105,109,103]⟩ p.images++⟨#[59,110,111,110,99,101,32]⟩++p.nonce) else⟨#[]⟩
theorem isPolicy_set {p:SPolicy} (h:isPolicy p=true) (hs:p.set_=true):p.scripts.all isName=true∧p.scripts.length≤4∧p.styles.all isName=true∧p.styles.length≤4∧p.images.all isName=true∧p.images.length≤4∧p.nonce.size≤20:=by
 simp only[isPolicy,hs,if_true,Bool.and_eq_true,Bool.or_eq_true,decide_eq_true_eq] at h
 obtain⟨⟨⟨⟨a1,a2⟩,a3,a4⟩,a5,a6⟩,a7⟩:=h
 refine⟨a1,a2,a3,a4,a5,a6,?_⟩
 rcases a7 with h|h
 ·rw[h];exact Nat.zero_le _
 ·simp only[isValue,Bool.and_eq_true,decide_eq_true_eq] at h;omega
theorem words9_sz {l:List ByteArray} {w:ByteArray} (h:l.all isName=true) (hl:l.length≤4) (hw:w.size≤6):(words9 w l).size≤42:=by
 have:=words9_size l w h;omega
theorem formatPolicy_size (p:SPolicy):(formatPolicy p).size≤200:=by
 unfold formatPolicy
 split
 ·rename_i h
  simp only[Bool.and_eq_true] at h
  obtain⟨a1,a2,a3,a4,a5,a6,a7⟩:=isPolicy_set h.1 h.2
  have b1:=words9_sz (w:=⟨#[115,99,114,105,112,116]⟩) a1 a2 (by decide)
  have b2:=words9_sz (w:=⟨#[115,116,121,108,101]⟩) a3 a4 (by decide)
  have b3:=words9_sz (w:=⟨#[105,109,103]⟩) a5 a6 (by decide)
  split
  ·simp only[ByteArray.size_append,show ByteArray.size ⟨#[59]⟩=1 from rfl];omega
  ·simp only[ByteArray.size_append,show ByteArray.size ⟨#[59]⟩=1 from rfl,show ByteArray.size ⟨#[59,110,111,110,99,101,32]⟩=7 from rfl];omega
 ·exact Nat.zero_le _
def fFormatPolicy:Fct:=⟨[.v (.el .policy)],[.el .str],fun(x_:SPolicy×Unit)=>szPolicy x_.1≤1099511627776,fun(x_:SPolicy×Unit)=>(formatPolicy x_.1,())⟩
theorem k86_78:fFormatPolicy.ok Tryz.prog 86:=Fct.o [1,2,3,11,27,1000011,1000027] E78ok Tryz.func86 (by
 rintro⟨(p:SPolicy),_⟩ hp
 refine ho (.cl fIsPolicy (p,()) fun z2=>.br (!z2.1) (.lf fFormatPolicy ((⟨#[]⟩:ByteArray),())) (.br (!p.set_) (.lf fFormatPolicy ((⟨#[]⟩:ByteArray),())) (.cl fWords9 ((⟨#[115,99,114,105,112,116]⟩:ByteArray),p.scripts,()) fun z3=>.ob (sameSize z3.1 (⟨#[59]⟩:ByteArray))<|.cl fWords9 ((⟨#[115,116,121,108,101]⟩:ByteArray),p.styles,()) fun z4=>.ob (sameSize (z3.1++(⟨#[59]⟩:ByteArray)) z4.1)<|.ob (sameSize (z3.1++(⟨#[59]⟩:ByteArray)++z4.1) (⟨#[59]⟩:ByteArray))<|.cl fWords9 ((⟨#[105,109,103]⟩:ByteArray),p.images,()) fun z5=>.ob (sameSize (z3.1++(⟨#[59]⟩:ByteArray)++z4.1++(⟨#[59]⟩:ByteArray)) z5.1)<|.br (!p.nonce.toList==(⟨#[]⟩:ByteArray).toList) (.ob (sameSize (z3.1++(⟨#[59]⟩:ByteArray)++z4.1++(⟨#[59]⟩:ByteArray)++z5.1) (⟨#[59,110,111,110,99,101,32]⟩:ByteArray))<|.ob (sameSize (z3.1++(⟨#[59]⟩:ByteArray)++z4.1++(⟨#[59]⟩:ByteArray)++z5.1++(⟨#[59,110,111,110,99,101,32]⟩:ByteArray)) p.nonce)<|.lf fFormatPolicy (z3.1++(⟨#[59]⟩:ByteArray)++z4.1++(⟨#[59]⟩:ByteArray)++z5.1++(⟨#[59,110,111,110,99,101,32]⟩:ByteArray)++p.nonce,())) (.lf fFormatPolicy (z3.1++(⟨#[59]⟩:ByteArray)++z4.1++(⟨#[59]⟩:ByteArray)++z5.1,()))))) ?_
 refine cl_i ?_ fun o1=>(br_i (fun h2=>lfY ?_) (fun h2=>br_i (fun h3=>lfY ?_) (fun h3=>cl_i ?_ fun o4=>(ob_i ?_ fun o5=>cl_i ?_ fun o6=>(ob_i ?_ fun o7=>ob_i ?_ fun o8=>cl_i ?_ fun o9=>(ob_i ?_ fun o10=>br_i (fun h11=>ob_i ?_ fun o12=>ob_i ?_ fun o13=>lfY ?_) (fun h11=>lfY ?_)))))))
 all_goals
  try simp only[std0] at *
  try simp only[fFormatPolicy,fIsPolicy,fWords9,std,Nat.reduceAdd,szF,toF,eqF,mkF,heF] at *
 all_goals first|trivial|omega|skip
 all_goals try (have hA:isPolicy p=true:=(by assumption);have hB:p.set_=true:=(by assumption);obtain⟨a1,a2,a3,a4,a5,a6,a7⟩:=isPolicy_set hA hB)
 all_goals
  try have b1:=words9_sz (w:=⟨#[115,99,114,105,112,116]⟩) a1 a2 (by decide)
  try have b2:=words9_sz (w:=⟨#[115,116,121,108,101]⟩) a3 a4 (by decide)
  try have b3:=words9_sz (w:=⟨#[105,109,103]⟩) a5 a6 (by decide)
  try simp only[std0] at *
  try simp only[fFormatPolicy,fIsPolicy,fWords9,std,Nat.reduceAdd,szF,toF,eqF,mkF,heF,formatPolicy,sameSize,ByteArray.size_append] at *
  try simp(disch:=omega) only[wrapId',toNat1] at *
  try simp(disch:=omega) only[if_pos,if_neg]
 all_goals first|trivial|omega|grind[wrapId',toNat1,drop_cons,drop_end,good_len,maxLen,formatPolicy,sameSize,ByteArray.size_append])
def E79:=E78.add 86 fFormatPolicy
theorem E79ok:EOk Tryz.prog E79:=E78ok.add k86_78
def hosts9:List ByteArray:=[⟨#[104,111,109,101]⟩,⟨#[99,100,110]⟩,⟨#[101,118,105,108]⟩]
theorem hosts9_name {i:Nat} (h:i<3):isName (hosts9.getD i default)=true:=by
 match i,h with
 | 0,_=>decide
 | 1,_=>decide
 | 2,_=>decide
def fHosts9:Xct:=⟨[.u],[.sl .str],fun(x_:Unit×Unit)=>True,fun(x_:Unit×Unit) (y_:(List ByteArray)×Unit)=>y_.1.length≤3∧y_.1.all isName=true⟩
abbrev W_spec_l9Hosts_fHosts9_3 (c:Unit):LInv:=⟨[⟨.s,3,true,.sl .str⟩,⟨.s,9,true,.el .int⟩,⟨.s,7,true,.sl .str⟩],fun _ (x_:(List ByteArray)×Int×(List ByteArray)×Unit)=>0≤x_.2.1∧x_.2.1≤3∧x_.1.length≤x_.2.1∧x_.1.all isName=true∧x_.2.2.1=hosts9,fun(x_:(List ByteArray)×Int×(List ByteArray)×Unit)=>3-x_.2.1.toNat⟩
theorem k114_79:fHosts9.ok Tryz.prog 114:=Xct.of (S:=fHosts9) (L:=fun⟨c,_⟩=>fun|3=>some (W_spec_l9Hosts_fHosts9_3 c)|_=>none) (kp:=[0,2,3,5,7,8,9,10,14,1000010,1000014]) E79ok Tryz.func114 (by kernel_rfl) (by kernel_rfl) (by
 rintro⟨(c:PUnit),_⟩ hp
 refine ho (lpx (W_spec_l9Hosts_fHosts9_3 c) ([],((0:Int),([{ data := #[(104:UInt8),(111:UInt8),(109:UInt8),(101:UInt8)]:ByteArray },{ data := #[(99:UInt8),(100:UInt8),(110:UInt8)]:ByteArray },{ data := #[(101:UInt8),(118:UInt8),(105:UInt8),(108:UInt8)]:ByteArray }],()))) fun(y1:List ByteArray×Int×List ByteArray×PUnit) bk1=>.br (decide (y1.snd.fst<(3:Int))) (.ob ((0:Int)≤y1.snd.fst∧y1.snd.fst<(↑y1.snd.snd.fst.length:Int))<|.ob (y1.snd.fst.toNat<y1.snd.snd.fst.length)<|.ob (fOnce.pre ((),(2:Int),()))<|.lp (Bool×PUnit) (True) (fOnce.is ((),(2:Int),())) fun y5=>.br (y5.fst) (.ob (True)<|.ob (Room (y1.fst.length+[y1.snd.snd.fst.getD y1.snd.fst.toNat default].length) (16:Nat))<|.ob (Value.int IntKind.i64 (3:Int)=Value.int IntKind.i64 (3:Int))<|.ob (bk1 (y1.fst++[y1.snd.snd.fst.getD y1.snd.fst.toNat default],(IntKind.i64.wrap (y1.snd.fst+(1:Int)),(y1.snd.snd.fst,()))))<|.ok) (.ob (Value.int IntKind.i64 (3:Int)=Value.int IntKind.i64 (3:Int))<|.ob (bk1 (y1.fst,(IntKind.i64.wrap (y1.snd.fst+(1:Int)),(y1.snd.snd.fst,()))))<|.ok)) (.leaf (mkR fHosts9.rs (y1.fst,())) [] [])) ?_
 refine lpx_i ?_ fun(y1:List ByteArray×Int×List ByteArray×PUnit) i1=>br_i (fun h2=>ob_i ?_ fun o3=>ob_i ?_ fun o4=>ob_i trivial fun _=>lp_i trivial fun y5 i5=>br_i (fun h6=>ob_i trivial fun _=>ob_i ?_ fun o7=>ob_i rfl fun _=>ob_i ?_ fun o8=>trivial) (fun h6=>ob_i rfl fun _=>ob_i ?_ fun o9=>trivial)) (fun h2=>Xct.leafY (S:=fHosts9) (y1.fst,()) ?_)
 all_goals
  have h9:hosts9.length=3:=rfl
  have hn:∀ i,i<3→isName (hosts9.getD i default)=true:=fun i h=>hosts9_name h
  try exact⟨by omega,by omega,by simp,rfl,rfl⟩
 all_goals try (obtain⟨a1,a2,a3,a4,a5⟩:=i1;simp only[a5] at *)
 all_goals
  try simp only[std0] at *
  try simp only[W_spec_l9Hosts_fHosts9_3,fHosts9,fOnce,std,Nat.reduceAdd,szF,toF,eqF,mkF,heF] at *
  try simp(disch:=omega) only[wrapId',toNat1] at *
  try simp(disch:=omega) only[if_pos,if_neg]
 all_goals first|trivial|omega|grind[wrapId',toNat1,drop_cons,drop_end,good_len,maxLen])
def E80:=E79.addX 114 fHosts9
theorem E80ok:EOk Tryz.prog E80:=E79ok.addX k114_79
def fPolicy9:Xct:=⟨[.u],[.el .policy],fun(x_:Unit×Unit)=>True,fun(x_:Unit×Unit) (y_:SPolicy×Unit)=>isPolicy y_.1=true⟩
theorem k87_80:fPolicy9.ok Tryz.prog 87:=Xct.of (S:=fPolicy9) (L:=fun _ _=>none) (kp:=[0,2,3,5,15,1000005,1000015]) E80ok Tryz.func87 (by kernel_rfl) (by kernel_rfl) (by
 rintro⟨(c:PUnit),_⟩ hp
 refine ho (.ob (fOnce.pre ((),(2:Int),()))<|.lp (Bool×PUnit) (True) (fOnce.is ((),(2:Int),())) fun y1=>.br (y1.fst) (.leaf (.one true [vb (false),.nl,.nl,.nl,vs ({ data := #[]:ByteArray })]) [] []) (.ob (fHosts9.pre ((),()))<|.lp (List ByteArray×PUnit) (True) (fHosts9.is ((),())) fun y3=>.ob (fHosts9.pre ((),()))<|.lp (List ByteArray×PUnit) (True) (fHosts9.is ((),())) fun y4=>.ob (fHosts9.pre ((),()))<|.lp (List ByteArray×PUnit) (True) (fHosts9.is ((),())) fun y5=>.ob (fOnce.pre ((),(2:Int),()))<|.lp (Bool×PUnit) (True) (fOnce.is ((),(2:Int),())) fun y6=>.br (y6.fst) (.leaf (mkR fPolicy9.rs (⟨true,y3.fst,y4.fst,y5.fst,{ data := #[(110:UInt8),(55:UInt8)]:ByteArray }⟩,())) [] []) (.leaf (mkR fPolicy9.rs (⟨true,y3.fst,y4.fst,y5.fst,{ data := #[]:ByteArray }⟩,())) [] []))) ?_
 refine ob_i trivial fun _=>lp_i trivial fun y1 i1=>br_i (fun h2=>Xct.leafZ (S:=fPolicy9) (default,()) (by repeat' first|exact rfl|exact trivial|refine And.intro ?_ ?_) ?_) (fun h2=>ob_i trivial fun _=>lp_i trivial fun y3 i3=>ob_i trivial fun _=>lp_i trivial fun y4 i4=>ob_i trivial fun _=>lp_i trivial fun y5 i5=>ob_i trivial fun _=>lp_i trivial fun y6 i6=>br_i (fun h7=>Xct.leafY (S:=fPolicy9) (⟨true,y3.fst,y4.fst,y5.fst,{ data := #[(110:UInt8),(55:UInt8)]:ByteArray }⟩,()) ?_) (fun h7=>Xct.leafY (S:=fPolicy9) (⟨true,y3.fst,y4.fst,y5.fst,{ data := #[]:ByteArray }⟩,()) ?_))
 all_goals
  try simp only[std0] at *
  try simp only[fHosts9,fOnce,fPolicy9,std,Nat.reduceAdd,szF,toF,eqF,mkF,heF] at *
 all_goals first|rfl|(simp only[isPolicy,Bool.and_eq_true,if_true,decide_eq_true_eq,Bool.or_eq_true];first|exact⟨⟨⟨⟨i3.2,by omega⟩,i4.2,by omega⟩,i5.2,by omega⟩,.inl trivial⟩|exact⟨⟨⟨⟨i3.2,by omega⟩,i4.2,by omega⟩,i5.2,by omega⟩,.inl rfl⟩|exact⟨⟨⟨⟨i3.2,by omega⟩,i4.2,by omega⟩,i5.2,by omega⟩,.inr (by decide)⟩))
def E81:=E80.addX 87 fPolicy9
theorem E81ok:EOk Tryz.prog E81:=E80ok.addX k87_80
theorem szL_le {α:Type} {f:α→Nat} {B:Nat}:∀ {l:List α},(∀ x∈l,f x≤B)→szL f l≤(B+1)*l.length:=by
 intro l
 induction l with
 | nil=>intro _;simp[szL]
 | cons x l ih=>
  intro h
  have h1:=ih fun y hy=>h y (List.mem_cons_of_mem _ hy)
  have h2:=h x List.mem_cons_self
  have h3:szL f (x::l)=f x+1+szL f l:=by simp only[szL,List.map_cons,List.sum_cons,List.length_cons];omega
  rw[h3,List.length_cons,Nat.mul_add];omega
theorem names_sz {l:List ByteArray} (h:l.all isName=true):szL szString l≤9*l.length:=szL_le (B:=8) fun x hx=>isName_size (List.all_eq_true.1 h x hx)
theorem isPolicy_sz {p:SPolicy} (h:isPolicy p=true):szPolicy p≤128:=by
 cases hs:p.set_ with
 | true=>
  obtain⟨a1,a2,a3,a4,a5,a6,a7⟩:=isPolicy_set h hs
  have b1:=names_sz a1
  have b2:=names_sz a3
  have b3:=names_sz a5
  simp only[szPolicy];omega
 | false=>
  simp only[isPolicy,hs,Bool.false_eq_true,if_false,decide_eq_true_eq] at h
  obtain⟨h1,h2,h3,h4⟩:=h
  rw[List.length_eq_zero_iff] at h1 h2 h3
  simp only[szPolicy,h1,h2,h3,h4]
  decide
def fResponse10:Xct:=⟨[.u,.v (.el .int)],[.el .response],fun(x_:Unit×Int×Unit)=>True,fun(x_:Unit×Int×Unit) (y_:SResponse×Unit)=>y_.1.body.size≤2000∧y_.1.policy.size≤200⟩
theorem k67_81:fResponse10.ok Tryz.prog 67:=Xct.of (S:=fResponse10) (L:=fun _ _=>none) (kp:=[0,1,4,5,17,1000017]) E81ok Tryz.func67 (by kernel_rfl) (by kernel_rfl) (by
 rintro⟨(c:PUnit),(k:Int),_⟩ hp
 refine ho (.ob (fBody10.pre ((),k,()))<|.lp (ByteArray×PUnit) (True) (fBody10.is ((),k,())) fun y1=>.ob (fIntL.pre ((),[(0:Int),(5:Int),(50:Int)],()))<|.lp (Int×PUnit) (True) (fIntL.is ((),[(0:Int),(5:Int),(50:Int)],())) fun y3=>.ob (fOnce.pre ((),(2:Int),()))<|.lp (Bool×PUnit) (True) (fOnce.is ((),(2:Int),())) fun y4=>.br (k==(1:Int)) (.ob (fPolicy9.pre ((),()))<|.lp (SPolicy×PUnit) (True) (fPolicy9.is ((),())) fun y6=>.ob (fFormatPolicy.pre (y6.fst,()))<|.lt (ByteArray×PUnit) (fFormatPolicy.fn (y6.fst,())) fun z2=>.leaf (mkR fResponse10.rs (⟨(200:Int),k,y1.fst,y3.fst,y4.fst,z2.fst⟩,())) [] []) (.leaf (mkR fResponse10.rs (⟨(200:Int),k,y1.fst,y3.fst,y4.fst,{ data := #[]:ByteArray }⟩,())) [] [])) ?_
 refine ob_i trivial fun _=>lp_i trivial fun y1 i1=>ob_i ?_ fun o2=>lp_i trivial fun y3 i3=>ob_i trivial fun _=>lp_i trivial fun y4 i4=>br_i (fun h5=>ob_i trivial fun _=>lp_i trivial fun y6 i6=>ob_i ?_ fun o7=>lt_e fun z2 ez2=>(Xct.leafY (S:=fResponse10) (⟨(200:Int),k,y1.fst,y3.fst,y4.fst,z2.fst⟩,()) ?_)) (fun h5=>Xct.leafY (S:=fResponse10) (⟨(200:Int),k,y1.fst,y3.fst,y4.fst,{ data := #[]:ByteArray }⟩,()) ?_)
 all_goals try subst_vars
 all_goals
  try have q:=isPolicy_sz i6
  try have q2:=formatPolicy_size y6.1
  try simp only[std0] at *
  try simp only[fBody10,fFormatPolicy,fIntL,fOnce,fPolicy9,fResponse10,std,Nat.reduceAdd,szF,toF,eqF,mkF,heF] at *
 all_goals first|omega|decide|exact⟨i1,q2⟩|exact⟨i1,by decide⟩)
def E82:=E81.addX 67 fResponse10
theorem E82ok:EOk Tryz.prog E82:=E81ok.addX k67_81
theorem good_u8 {b:List Int} (h:Sh.good (.sl .u8) b):∀ j,j<b.length→0≤b.getD j default∧b.getD j default≤255:=by
 intro j hj
 have h1:=(good_getD (t:=.u8) h hj) (.val (.int .u8 (b.getD j default))) (by simp[Sh.fc,enc])
 simp only[goodC,Lit.wf,Bool.and_eq_true,decide_eq_true_eq] at h1
 exact h1
theorem szL_eq {α:Type} (f:α→Nat) (l:List α):szL f l=(l.map fun x=>f x+1).sum:=by
 induction l with
 | nil=>rfl
 | cons x l ih=>
  have h3:szL f (x::l)=f x+1+szL f l:=by simp only[szL,List.map_cons,List.sum_cons,List.length_cons];omega
  rw[h3,ih,List.map_cons,List.sum_cons]
theorem szL_spl (b:UInt8) (s:ByteArray):szL szString (spl b s)=s.size+1:=by
 rw[szL_eq,←toL_len,←splL_sum b (toL s)]
 unfold spl
 rw[List.map_map]
 congr 1
def fSplit5:Fct:=⟨[.v (.el .str),.v (.el .u8)],[.sl .str],fun(x_:ByteArray×Int×Unit)=>x_.1.size≤1099511627776∧0≤x_.2.1∧x_.2.1≤255,fun(x_:ByteArray×Int×Unit)=>(spl (UInt8.ofNat x_.2.1.toNat) x_.1,())⟩
theorem byte_eq {s:ByteArray} {i:Nat} {b:Int} (h0:0≤b) (h1:b≤255):((s.data.getD i 0).toNat:Int)=b↔s.data.getD i 0=UInt8.ofNat b.toNat:=by
 constructor
 ·intro h
  apply UInt8.toNat_inj.1
  rw[UInt8.toNat_ofNat'];omega
 ·intro h
  rw[h,UInt8.toNat_ofNat'];omega
abbrev W_spec_l5Split_fSplit5_4 (s:ByteArray) (b:Int):LInv:=⟨[⟨.s,5,true,.sl .str⟩,⟨.s,6,true,.el .int⟩,⟨.s,7,true,.el .int⟩],fun _ (x_:(List ByteArray)×Int×Int×Unit)=>0≤x_.2.2.1∧x_.2.2.1≤s.size+1∧0≤x_.2.1∧x_.2.1≤x_.2.2.1∧x_.1.length≤x_.2.2.1∧x_.1++splAt (UInt8.ofNat b.toNat) s x_.2.1.toNat x_.2.2.1.toNat=spl (UInt8.ofNat b.toNat) s,fun(x_:(List ByteArray)×Int×Int×Unit)=>(s.size+1-x_.2.2.1).toNat⟩
theorem k139_82:fSplit5.ok Tryz.prog 139:=Fct.of (S:=fSplit5) (L:=fun⟨s,b,_⟩=>fun|4=>some (W_spec_l5Split_fSplit5_4 s b)|_=>none) (kp:=[0,1,4,5,6,7,12,25,1000012,1000025]) E82ok Tryz.func139 (by kernel_rfl) (by kernel_rfl) (by
 rintro⟨(s:ByteArray),(b:Int),_⟩ hp
 refine ho (lpx (W_spec_l5Split_fSplit5_4 s b) ([],((0:Int),((0:Int),()))) fun(y1:List ByteArray×Int×Int×PUnit) bk1=>.br (decide (y1.2.2.1≤(↑s.size:Int))) (.br (y1.2.2.1==(↑s.size:Int)) (.ob (0≤y1.2.1∧y1.2.1≤y1.2.2.1∧y1.2.2.1≤(↑s.size:Int))<|.ob (True)<|.ob (Room (y1.1.length+[s.extract y1.2.1.toNat y1.2.2.1.toNat].length) 16)<|.ob (Value.string s=Value.string s)<|.ob (Value.int IntKind.u8 b=Value.int IntKind.u8 b)<|.ob (bk1 (y1.1++[s.extract y1.2.1.toNat y1.2.2.1.toNat],(w1 y1.2.2.1,(w1 y1.2.2.1,()))))<|.ok) (.ob (0≤y1.2.2.1∧y1.2.2.1<(↑s.size:Int))<|.br ((↑(s.data.getD y1.2.2.1.toNat 0).toNat:Int)==b) (.ob (0≤y1.2.1∧y1.2.1≤y1.2.2.1∧y1.2.2.1≤(↑s.size:Int))<|.ob (True)<|.ob (Room (y1.1.length+[s.extract y1.2.1.toNat y1.2.2.1.toNat].length) 16)<|.ob (Value.string s=Value.string s)<|.ob (Value.int IntKind.u8 b=Value.int IntKind.u8 b)<|.ob (bk1 (y1.1++[s.extract y1.2.1.toNat y1.2.2.1.toNat],(w1 y1.2.2.1,(w1 y1.2.2.1,()))))<|.ok) (.ob (Value.string s=Value.string s)<|.ob (Value.int IntKind.u8 b=Value.int IntKind.u8 b)<|.ob (bk1 (y1.1,(y1.2.1,(w1 y1.2.2.1,()))))<|.ok))) (.lf fSplit5 (y1.1,()))) ?_
 refine lpx_i ?_ fun(y1:List ByteArray×Int×Int×PUnit) i1=>br_i (fun h2=>br_i (fun h3=>ob_i ?_ fun o4=>ob_i trivial fun _=>ob_i ?_ fun o5=>ob_i rfl fun _=>ob_i rfl fun _=>ob_i ?_ fun o6=>trivial) (fun h3=>ob_i ?_ fun o7=>br_i (fun h8=>ob_i ?_ fun o9=>ob_i trivial fun _=>ob_i ?_ fun o10=>ob_i rfl fun _=>ob_i rfl fun _=>ob_i ?_ fun o11=>trivial) (fun h8=>ob_i rfl fun _=>ob_i rfl fun _=>ob_i ?_ fun o12=>trivial))) (fun h2=>lfY ?_)
 all_goals obtain⟨hp1,hp2,hp3⟩:=hp
 all_goals
  try obtain⟨a1,a2,a3,a4,a5,a6⟩:=i1
  try obtain⟨a1,a2,a3,a4,a5,a6⟩:=i2
  try obtain⟨a1,a2,a3,a4,a5,a6⟩:=i3
  try simp only[std0] at *
  try simp only[W_spec_l5Split_fSplit5_4,fSplit5,std,Nat.reduceAdd,szF,toF,eqF,mkF,heF,List.length_append,List.length_cons,List.length_nil,byte_eq hp2 hp3] at *
  try simp(disch:=omega) only[wrapId',toNat1] at *
 all_goals first|trivial|omega|exact⟨by omega,by omega,by omega,by omega,by omega,splAt_zero _ _⟩|skip
 all_goals first|(refine⟨⟨by omega,by omega,by omega,by omega,by omega,?_⟩,by omega⟩;rw[splAt_last _ (by omega)] at a6;rw[splAt_end _ (by omega),List.append_nil];exact a6)|(refine⟨⟨by omega,by omega,by omega,by omega,by omega,?_⟩,by omega⟩;rw[splAt_hit (by omega) (by assumption)] at a6;rw[List.append_assoc];exact a6)|(refine⟨⟨by omega,by omega,by omega,by omega,by omega,?_⟩,by omega⟩;rw[splAt_miss (by omega) (by omega) (by assumption)] at a6;exact a6)|(rw[splAt_end _ (by omega),List.append_nil] at a6;exact a6)|skip)
def E83:=E82.add 139 fSplit5
theorem E83ok:EOk Tryz.prog E83:=E82ok.add k139_82
def polCand (s:ByteArray):SPolicy:=⟨true,(spl 32 ((spl 59 s).getD 0 default)).drop 1,(spl 32 ((spl 59 s).getD 1 default)).drop 1,(spl 32 ((spl 59 s).getD 2 default)).drop 1,if 3<(spl 59 s).length∧6<((spl 59 s).getD 3 default).size then((spl 59 s).getD 3 default).extract 6 ((spl 59 s).getD 3 default).size else⟨#[]⟩⟩
def parsePolicy (s:ByteArray):SPolicy×Bool:=if s=⟨#[]⟩ then(default,true) else if 3≤(spl 59 s).length∧formatPolicy (polCand s)=s then(polCand s,true) else(default,false)
theorem spl_get (b:UInt8) (s:ByteArray) (k:Nat):((spl b s).getD k default).size≤s.size:=by
 by_cases h:k<(spl b s).length
 ·exact spl_mem (getD_in h)
 ·rw[List.getD_eq_getElem?_getD,List.getElem?_eq_none (by omega)];exact Nat.zero_le _
theorem pol_sz {s n:ByteArray} (hn:n.size≤s.size):szPolicy ⟨true,(spl 32 ((spl 59 s).getD 0 default)).drop 1,(spl 32 ((spl 59 s).getD 1 default)).drop 1,(spl 32 ((spl 59 s).getD 2 default)).drop 1,n⟩≤4*(s.size+1):=by
 have h0:=spl_get 59 s 0
 have h1:=spl_get 59 s 1
 have h2:=spl_get 59 s 2
 have d0:=szL_drop szString (spl 32 ((spl 59 s).getD 0 default)) 1
 have d1:=szL_drop szString (spl 32 ((spl 59 s).getD 1 default)) 1
 have d2:=szL_drop szString (spl 32 ((spl 59 s).getD 2 default)) 1
 rw[szL_spl] at d0 d1 d2
 simp only[szPolicy];omega
def fParsePolicy:Fct:=⟨[.v (.el .str)],[.el .policy,.el .bool],fun(x_:ByteArray×Unit)=>x_.1.size≤200000000,fun(x_:ByteArray×Unit)=>((parsePolicy x_.1).1,(parsePolicy x_.1).2,())⟩
theorem k117_83:fParsePolicy.ok Tryz.prog 117:=Fct.o [0,2,3,4,5,7,13,40,49,1000007,1000013,1000040,1000049] E83ok Tryz.func117 (by
 rintro⟨(s:ByteArray),_⟩ hp
 refine ho (.br (ByteArray.toList s=={ data := #[]:ByteArray }.toList) (.leaf (.tup [(true,[vb (false),.nl,.nl,.nl,vs ({ data := #[]:ByteArray })]),(false,[vb (true)])]) [] []) (.ob (fSplit5.pre (s,(59:Int),()))<|.lt (List ByteArray×PUnit) (fSplit5.fn (s,(59:Int),())) fun z2=>.br (decide ((↑z2.fst.length:Int)<(3:Int))) (.leaf (.tup [(true,[vb (false),.nl,.nl,.nl,vs ({ data := #[]:ByteArray })]),(false,[vb (false)])]) [] []) (.ob ((0:Int)≤(0:Int)∧(0:Int)<(↑z2.fst.length:Int))<|.ob ((0:Nat)<z2.fst.length)<|.ob (fSplit5.pre (z2.fst.getD (0:Nat) default,(32:Int),()))<|.lt (List ByteArray×PUnit) (fSplit5.fn (z2.fst.getD (0:Nat) default,(32:Int),())) fun z3=>.ob ((0:Int)≤(1:Int)∧(1:Int)≤(↑z3.fst.length:Int))<|.ob ((0:Int)≤(1:Int)∧(1:Int)<(↑z2.fst.length:Int))<|.ob ((1:Nat)<z2.fst.length)<|.ob (fSplit5.pre (z2.fst.getD (1:Nat) default,(32:Int),()))<|.lt (List ByteArray×PUnit) (fSplit5.fn (z2.fst.getD (1:Nat) default,(32:Int),())) fun z4=>.ob ((0:Int)≤(1:Int)∧(1:Int)≤(↑z4.fst.length:Int))<|.ob ((0:Int)≤(2:Int)∧(2:Int)<(↑z2.fst.length:Int))<|.ob ((2:Nat)<z2.fst.length)<|.ob (fSplit5.pre (z2.fst.getD (2:Nat) default,(32:Int),()))<|.lt (List ByteArray×PUnit) (fSplit5.fn (z2.fst.getD (2:Nat) default,(32:Int),())) fun z5=>.ob ((0:Int)≤(1:Int)∧(1:Int)≤(↑z5.fst.length:Int))<|.br (decide ((↑z2.fst.length:Int)>(3:Int))) (.ob ((0:Int)≤(3:Int)∧(3:Int)<(↑z2.fst.length:Int))<|.ob ((3:Nat)<z2.fst.length)<|.br (decide ((↑(z2.fst.getD (3:Nat) default).size:Int)>(6:Int))) (.ob ((0:Int)≤(3:Int)∧(3:Int)<(↑z2.fst.length:Int))<|.ob ((3:Nat)<z2.fst.length)<|.ob ((0:Int)≤(6:Int)∧(6:Int)≤(↑(z2.fst.getD (3:Nat) default).size:Int))<|.ob ((1:Nat)+(z3.fst.length-(1:Nat))≤z3.fst.length)<|.ob ((1:Nat)+(z4.fst.length-(1:Nat))≤z4.fst.length)<|.ob ((1:Nat)+(z5.fst.length-(1:Nat))≤z5.fst.length)<|.ob (fFormatPolicy.pre ({ set_:=true,scripts:=cut z3.fst (1:Nat) (z3.fst.length-(1:Nat)),styles:=cut z4.fst (1:Nat) (z4.fst.length-(1:Nat)),images:=cut z5.fst (1:Nat) (z5.fst.length-(1:Nat)),nonce:=(z2.fst.getD (3:Nat) default).extract (6:Nat) (z2.fst.getD (3:Nat) default).size:SPolicy },()))<|.lt (ByteArray×PUnit) (fFormatPolicy.fn ({ set_:=true,scripts:=cut z3.fst (1:Nat) (z3.fst.length-(1:Nat)),styles:=cut z4.fst (1:Nat) (z4.fst.length-(1:Nat)),images:=cut z5.fst (1:Nat) (z5.fst.length-(1:Nat)),nonce:=(z2.fst.getD (3:Nat) default).extract (6:Nat) (z2.fst.getD (3:Nat) default).size:SPolicy },())) fun z6=>.br (!z6.fst.toList==ByteArray.toList s) (.leaf (.tup [(true,[vb (false),.nl,.nl,.nl,vs ({ data := #[]:ByteArray })]),(false,[vb (false)])]) [] []) (.ob ((1:Nat)+(z3.fst.length-(1:Nat))≤z3.fst.length)<|.ob ((1:Nat)+(z4.fst.length-(1:Nat))≤z4.fst.length)<|.ob ((1:Nat)+(z5.fst.length-(1:Nat))≤z5.fst.length)<|.leaf (mkR fParsePolicy.rs (⟨true,cut z3.fst (1:Nat) (z3.fst.length-(1:Nat)),cut z4.fst (1:Nat) (z4.fst.length-(1:Nat)),cut z5.fst (1:Nat) (z5.fst.length-(1:Nat)),(z2.fst.getD (3:Nat) default).extract (6:Nat) (z2.fst.getD (3:Nat) default).size⟩,true,())) [] [])) (.ob ((1:Nat)+(z3.fst.length-(1:Nat))≤z3.fst.length)<|.ob ((1:Nat)+(z4.fst.length-(1:Nat))≤z4.fst.length)<|.ob ((1:Nat)+(z5.fst.length-(1:Nat))≤z5.fst.length)<|.ob (fFormatPolicy.pre ({ set_:=true,scripts:=cut z3.fst (1:Nat) (z3.fst.length-(1:Nat)),styles:=cut z4.fst (1:Nat) (z4.fst.length-(1:Nat)),images:=cut z5.fst (1:Nat) (z5.fst.length-(1:Nat)),nonce:={ data := #[]:ByteArray }:SPolicy },()))<|.lt (ByteArray×PUnit) (fFormatPolicy.fn ({ set_:=true,scripts:=cut z3.fst (1:Nat) (z3.fst.length-(1:Nat)),styles:=cut z4.fst (1:Nat) (z4.fst.length-(1:Nat)),images:=cut z5.fst (1:Nat) (z5.fst.length-(1:Nat)),nonce:={ data := #[]:ByteArray }:SPolicy },())) fun z7=>.br (!z7.fst.toList==ByteArray.toList s) (.leaf (.tup [(true,[vb (false),.nl,.nl,.nl,vs ({ data := #[]:ByteArray })]),(false,[vb (false)])]) [] []) (.ob ((1:Nat)+(z3.fst.length-(1:Nat))≤z3.fst.length)<|.ob ((1:Nat)+(z4.fst.length-(1:Nat))≤z4.fst.length)<|.ob ((1:Nat)+(z5.fst.length-(1:Nat))≤z5.fst.length)<|.leaf (mkR fParsePolicy.rs (⟨true,cut z3.fst (1:Nat) (z3.fst.length-(1:Nat)),cut z4.fst (1:Nat) (z4.fst.length-(1:Nat)),cut z5.fst (1:Nat) (z5.fst.length-(1:Nat)),{ data := #[]:ByteArray }⟩,true,())) [] []))) (.ob ((1:Nat)+(z3.fst.length-(1:Nat))≤z3.fst.length)<|.ob ((1:Nat)+(z4.fst.length-(1:Nat))≤z4.fst.length)<|.ob ((1:Nat)+(z5.fst.length-(1:Nat))≤z5.fst.length)<|.ob (fFormatPolicy.pre ({ set_:=true,scripts:=cut z3.fst (1:Nat) (z3.fst.length-(1:Nat)),styles:=cut z4.fst (1:Nat) (z4.fst.length-(1:Nat)),images:=cut z5.fst (1:Nat) (z5.fst.length-(1:Nat)),nonce:={ data := #[]:ByteArray }:SPolicy },()))<|.lt (ByteArray×PUnit) (fFormatPolicy.fn ({ set_:=true,scripts:=cut z3.fst (1:Nat) (z3.fst.length-(1:Nat)),styles:=cut z4.fst (1:Nat) (z4.fst.length-(1:Nat)),images:=cut z5.fst (1:Nat) (z5.fst.length-(1:Nat)),nonce:={ data := #[]:ByteArray }:SPolicy },())) fun z8=>.br (!z8.fst.toList==ByteArray.toList s) (.leaf (.tup [(true,[vb (false),.nl,.nl,.nl,vs ({ data := #[]:ByteArray })]),(false,[vb (false)])]) [] []) (.ob ((1:Nat)+(z3.fst.length-(1:Nat))≤z3.fst.length)<|.ob ((1:Nat)+(z4.fst.length-(1:Nat))≤z4.fst.length)<|.ob ((1:Nat)+(z5.fst.length-(1:Nat))≤z5.fst.length)<|.leaf (mkR fParsePolicy.rs (⟨true,cut z3.fst (1:Nat) (z3.fst.length-(1:Nat)),cut z4.fst (1:Nat) (z4.fst.length-(1:Nat)),cut z5.fst (1:Nat) (z5.fst.length-(1:Nat)),{ data := #[]:ByteArray }⟩,true,())) [] []))))) ?_
 refine br_i (fun h1=>Fct.leafZ (default,true,()) (by repeat' first|exact rfl|exact trivial|refine And.intro ?_ ?_) ?_) (fun h1=>ob_i ?_ fun o2=>lt_i (br_i (fun h3=>Fct.leafZ (default,false,()) (by repeat' first|exact rfl|exact trivial|refine And.intro ?_ ?_) ?_) (fun h3=>ob_i ?_ fun o4=>ob_i ?_ fun o5=>ob_i ?_ fun o6=>lt_i (ob_i ?_ fun o7=>ob_i ?_ fun o8=>ob_i ?_ fun o9=>ob_i ?_ fun o10=>lt_i (ob_i ?_ fun o11=>ob_i ?_ fun o12=>ob_i ?_ fun o13=>ob_i ?_ fun o14=>lt_i (ob_i ?_ fun o15=>br_i (fun h16=>ob_i ?_ fun o17=>ob_i ?_ fun o18=>br_i (fun h19=>ob_i ?_ fun o20=>ob_i ?_ fun o21=>ob_i ?_ fun o22=>ob_i ?_ fun o23=>ob_i ?_ fun o24=>ob_i ?_ fun o25=>ob_i ?_ fun o26=>lt_i (br_i (fun h27=>Fct.leafZ (default,false,()) (by repeat' first|exact rfl|exact trivial|refine And.intro ?_ ?_) ?_) (fun h27=>ob_i ?_ fun o28=>ob_i ?_ fun o29=>ob_i ?_ fun o30=>Fct.leafY ?_))) (fun h19=>ob_i ?_ fun o31=>ob_i ?_ fun o32=>ob_i ?_ fun o33=>ob_i ?_ fun o34=>lt_i (br_i (fun h35=>Fct.leafZ (default,false,()) (by repeat' first|exact rfl|exact trivial|refine And.intro ?_ ?_) ?_) (fun h35=>ob_i ?_ fun o36=>ob_i ?_ fun o37=>ob_i ?_ fun o38=>Fct.leafY ?_)))) (fun h16=>ob_i ?_ fun o39=>ob_i ?_ fun o40=>ob_i ?_ fun o41=>ob_i ?_ fun o42=>lt_i (br_i (fun h43=>Fct.leafZ (default,false,()) (by repeat' first|exact rfl|exact trivial|refine And.intro ?_ ?_) ?_) (fun h43=>ob_i ?_ fun o44=>ob_i ?_ fun o45=>ob_i ?_ fun o46=>Fct.leafY ?_)))))))))
 all_goals
  try simp only[std0] at *
  try simp only[fFormatPolicy,fParsePolicy,fSplit5,std,Nat.reduceAdd,szF,toF,eqF,mkF,heF,cut_end] at *
  try simp only[show UInt8.ofNat (Int.toNat 59)=59 from rfl,show UInt8.ofNat (Int.toNat 32)=32 from rfl] at *
 all_goals
  have g0:=spl_get 59 s 0
  have g1:=spl_get 59 s 1
  have g2:=spl_get 59 s 2
  have g3:=spl_get 59 s 3
  have k0:=spl_len 32 ((spl 59 s).getD 0 default)
  have k1:=spl_len 32 ((spl 59 s).getD 1 default)
  have k2:=spl_len 32 ((spl 59 s).getD 2 default)
 all_goals first|trivial|omega|(with_reducible refine Nat.le_trans (pol_sz (Nat.zero_le _)) ?_;omega)|(with_reducible refine Nat.le_trans (pol_sz ?_) ?_;(rw[ByteArray.size_extract];omega);omega)|skip
 all_goals first|(simp only[parsePolicy];rw[if_pos (by assumption)];exact⟨rfl,rfl⟩)|(simp only[parsePolicy];rw[if_neg (by assumption),if_neg (by omega)];exact⟨rfl,rfl⟩)|(simp only[parsePolicy,polCand];grind)|skip)
def E84:=E83.add 117 fParsePolicy
theorem E84ok:EOk Tryz.prog E84:=E83ok.add k117_83
def isResponse (x:SResponse):Bool:=inRange x.status 100 599&&(inRange x.kind 1 5&&(decide (x.body.size≤400)&&(inRange x.age 0 1000&&(parsePolicy x.policy).2)))
def fIsResponse:Fct:=⟨[.v (.el .response)],[.el .bool],fun(x_:SResponse×Unit)=>x_.1.policy.size≤200000000,fun(x_:SResponse×Unit)=>(isResponse x_.1,())⟩
end Go.Proofs.YtembimgkibocmaaGreat.fnHistories
