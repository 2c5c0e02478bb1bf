/-
  Contracts of functions that the law of FnPriorities reaches, part 1.
-/
import Derived.Test.YtkmilnnddljcnaaGreatVLd
import Derived.WalkKit
import Derived.BigGuard
import Derived.Deep.QuietTactic
import Derived.BigQuiet
import Derived.Lib.ConvBytes
import Derived.Sort.WalkC
import Derived.Test.YtkmilnnddljcnaaGreatRows
import Derived.WalkKit
import Derived.ProofKit
import Derived.OpenShut
namespace Go.Proofs.YtkmilnnddljcnaaGreat.fnPriorities
open Go.Proofs.YtkmilnnddljcnaaGreat
open Go.D
set_option maxRecDepth 100000
set_option maxHeartbeats 2000000
set_option linter.unusedVariables false
set_option linter.unusedSimpArgs false
def tyOf:TypeId→Option Ty
 | 3=>some .int
 | 4=>some .bool
 | 5=>some .u8
 | 9=>some .str
 | 25=>some .addr
 | 28=>some .policy
 | 30=>some .tokenizer
 | 35=>some .builder
 | 40=>some .page
 | 47=>some .request
 | 57=>some .tab
 | 80=>some .slot
 | 87=>some .visit
 | 95=>some .token
 | 101=>some .module
 | 124=>some .attr
 | 127=>some .node
 | 133=>some .response
 | 168=>some .server
 | 170=>some .file
 | 206=>some .line
 | 213=>some .sheet
 | 238=>some .rule
 | _=>none
def E0:D.Env:=D.Env.empty tyOf
theorem E0ok:EOk Tryz.prog E0:=EOk.empty _ _
def inRange (n lo hi:Int):Bool:=decide (lo≤n)&&decide (n≤hi)
def fInRange:Fct:=⟨[aI,aI,aI],[rB],fun _=>True,fun(x:Int×Int×Int×Unit)=>(inRange x.1 x.2.1 x.2.2.1,())⟩
theorem k34_0:fInRange.ok Tryz.prog 34:=Fct.o [0,1,2,6] E0ok Tryz.func34 (by
 rintro⟨(n:Int),(lo:Int),(hi:Int),_⟩ hp
 refine ho (.br (decide (n≥lo)) (.lf fInRange (decide (n≤hi),())) (.lf fInRange (false,()))) ?_
 refine br_i (fun h1=>lfY ?_) (fun h1=>lfY ?_)
 all_goals
  try simp only[std0] at *
  try simp only[fInRange,std,Nat.reduceAdd,szF,toF,eqF,mkF,heF,inRange] at *
 all_goals first|trivial|(simp_all;done)|(simp_all;omega)|grind)
def E1:=E0.add 34 fInRange
theorem E1ok:EOk Tryz.prog E1:=E0ok.add k34_0
def fIndex_addr:Fct:=⟨[.v (.sl .addr),.v (.el .addr)],[.el .int],fun(x_:(List SAddr)×SAddr×Unit)=>x_.1.length≤1000000000000000000,fun(x_:(List SAddr)×SAddr×Unit)=>(fidx (fun c=>decide (c=x_.2.1)) x_.1 0,())⟩
abbrev W_slices_Index_impl_Addr_impl_Addr_fIndex_addr_2 (l:(List SAddr)) (a:SAddr):LInv:=⟨[⟨.s,8,true,.el .int⟩,⟨.b,3,true,.el .addr⟩],fun(z_:Int×SAddr×Unit) (x_:Int×SAddr×Unit)=>(0≤x_.1∧x_.1≤l.length∧fidx (fun c=>decide (c=a)) l 0=fidx (fun c=>decide (c=a)) (l.drop x_.1.toNat) x_.1)∧x_.2.1=z_.2.1,fun(x_:Int×SAddr×Unit)=>l.length-x_.1.toNat⟩
theorem k68_1:fIndex_addr.ok Tryz.prog 68:=Fct.of (S:=fIndex_addr) (L:=fun⟨l,a,_⟩=>fun|2=>some (W_slices_Index_impl_Addr_impl_Addr_fIndex_addr_2 l a)|_=>none) (kp:=[0,3,4,5,7,8,9,16,1000009,1000016]) E1ok Tryz.func68 (by kernel_rfl) (by kernel_rfl) (by
 rintro⟨(l:List SAddr),(a:SAddr),_⟩ hp
 refine ho (lpx (W_slices_Index_impl_Addr_impl_Addr_fIndex_addr_2 l a) ((0:Int),(a,())) fun(y1:Int×SAddr×PUnit) bk1=>.br (decide (y1.1<(↑l.length:Int))) (.ob (inB y1.1 l.length)<|.br (y1.2.1.host==(l.getD y1.1.toNat default).host&&(y1.2.1.path==(l.getD y1.1.toNat default).path&&true)) (.lf fIndex_addr (y1.1,())) (.ob (l=l)<|.ob (Value.int IntKind.i64 (↑l.length:Int)=Value.int IntKind.i64 (↑l.length:Int))<|.ob (bk1 (w1 y1.1,(y1.2.1,())))<|.ok)) (.lf fIndex_addr ((-1:Int),()))) ?_
 refine lpx_i ?_ fun(y1:Int×SAddr×PUnit) i1=>br_i (fun h2=>ob_i ?_ fun o3=>br_i (fun h4=>lfY ?_) (fun h4=>ob_i rfl fun _=>ob_i rfl fun _=>ob_i ?_ fun o5=>trivial)) (fun h2=>lfY ?_)
 all_goals
  try simp only[beqAddr] at *
  try simp only[std0] at *
  try simp only[W_slices_Index_impl_Addr_impl_Addr_fIndex_addr_2,fIndex_addr,std,Nat.reduceAdd,szF,toF,eqF,mkF,heF,fidx] at *
  try simp(disch:=omega) only[wrapId',toNat1] at *
  try simp(disch:=omega) only[if_pos,if_neg]
 all_goals first|trivial|omega|grind[wrapId',toNat1,drop_cons,drop_end,good_len,maxLen,fidx])
def E2:=E1.add 68 fIndex_addr
theorem E2ok:EOk Tryz.prog E2:=E1ok.add k68_1
def fContains_addr:Fct:=⟨[.v (.sl .addr),.v (.el .addr)],[.el .bool],fun(x_:(List SAddr)×SAddr×Unit)=>x_.1.length≤1000000000000000000,fun(x_:(List SAddr)×SAddr×Unit)=>(x_.1.any fun c=>decide (c=x_.2.1),())⟩
theorem k36_2:fContains_addr.ok Tryz.prog 36:=Fct.o [0,3,4] E2ok Tryz.func36 (by
 rintro⟨(l:List SAddr),(a:SAddr),_⟩ hp
 refine ho (.cl fIndex_addr (l,a,()) fun(z2:Int×PUnit)=>.lf fContains_addr (decide (z2.1≥0),())) ?_
 refine cl_i ?_ fun o1=>(lfY ?_)
 all_goals
  try simp only[std0] at *
  try simp only[fContains_addr,fIndex_addr,std,Nat.reduceAdd,szF,toF,eqF,mkF,heF] at *
 all_goals first|trivial|omega|(rw[Bool.eq_iff_iff];exact decide_eq_true_iff.trans (fidx_ge _ _ _ (by omega))))
def E3:=E2.add 36 fContains_addr
theorem E3ok:EOk Tryz.prog E3:=E2ok.add k36_2
def fHasAddr:Fct:=⟨[.v (.sl .addr),.v (.el .addr)],[.el .bool],fun(x_:(List SAddr)×SAddr×Unit)=>x_.1.length≤1000000000000000000,fun(x_:(List SAddr)×SAddr×Unit)=>(x_.1.any fun c=>decide (c=x_.2.1),())⟩
abbrev W_spec_HasAddr_fHasAddr_2 (l:(List SAddr)) (a:SAddr):LInv:=⟨[⟨.s,5,true,.el .int⟩,⟨.b,3,true,.el .addr⟩],fun(z_:Int×SAddr×Unit) (x_:Int×SAddr×Unit)=>(0≤x_.1∧x_.1≤l.length∧l.any (fun c=>decide (c=a))=(l.drop x_.1.toNat).any (fun c=>decide (c=a)))∧x_.2.1=z_.2.1,fun(x_:Int×SAddr×Unit)=>l.length-x_.1.toNat⟩
theorem k37_3:fHasAddr.ok Tryz.prog 37:=Fct.of (S:=fHasAddr) (L:=fun⟨l,a,_⟩=>fun|2=>some (W_spec_HasAddr_fHasAddr_2 l a)|_=>none) (kp:=[0,3,4,5,9,17,1000009,1000017]) E3ok Tryz.func37 (by kernel_rfl) (by kernel_rfl) (by
 rintro⟨(l:List SAddr),(a:SAddr),_⟩ hp
 refine ho (lpx (W_spec_HasAddr_fHasAddr_2 l a) ((0:Int),(a,())) fun(y1:Int×SAddr×PUnit) bk1=>.br (decide (y1.1<(↑l.length:Int))) (.ob (inB y1.1 l.length)<|.br ((l.getD y1.1.toNat default).host==y1.2.1.host&&((l.getD y1.1.toNat default).path==y1.2.1.path&&true)) (.lf fHasAddr (true,())) (.ob (l=l)<|.ob (bk1 (w1 y1.1,(y1.2.1,())))<|.ok)) (.lf fHasAddr (false,()))) ?_
 refine lpx_i ?_ fun(y1:Int×SAddr×PUnit) i1=>br_i (fun h2=>ob_i ?_ fun o3=>br_i (fun h4=>lfY ?_) (fun h4=>ob_i rfl fun _=>ob_i ?_ fun o5=>trivial)) (fun h2=>lfY ?_)
 all_goals
  try simp only[beqAddr] at *
  try simp only[std0] at *
  try simp only[W_spec_HasAddr_fHasAddr_2,fHasAddr,std,Nat.reduceAdd,szF,toF,eqF,mkF,heF] at *
  try simp(disch:=omega) only[wrapId',toNat1] at *
  try simp(disch:=omega) only[if_pos,if_neg]
 all_goals first|trivial|omega|grind[wrapId',toNat1,drop_cons,drop_end,good_len,maxLen])
def E4:=E3.add 37 fHasAddr
theorem E4ok:EOk Tryz.prog E4:=E3ok.add k37_3
theorem k14_4:fHasAddr.ok Tryz.prog 14:=Fct.o [0,3,4] E4ok Tryz.func14 (by
 rintro⟨(l:List SAddr),(a:SAddr),_⟩ hp
 refine ho (.cl fContains_addr (l,a,()) fun z2=>.lf fHasAddr (z2.1,())) ?_
 refine cl_i ?_ fun o1=>(lfY ?_)
 all_goals
  try simp only[beqAddr] at *
  try simp only[std0] at *
  try simp only[fContains_addr,fHasAddr,std,Nat.reduceAdd,szF,toF,eqF,mkF,heF] at *
  try simp(disch:=omega) only[wrapId',toNat1] at *
  try simp(disch:=omega) only[if_pos,if_neg]
 all_goals first|trivial|omega|grind[wrapId',toNat1,drop_cons,drop_end,good_len,maxLen])
def E5:=E4.add 14 fHasAddr
theorem E5ok:EOk Tryz.prog E5:=E4ok.add k14_4
def withoutAddrs (d:List SAddr):List SRequest→List SRequest
 | []=>[]
 | r::l=>if d.any (fun c=>decide (c=r.to)) then withoutAddrs d l else r::withoutAddrs d l
def fWithoutAddrs:Fct:=⟨[.v (.sl .request),.v (.sl .addr)],[.sl .request],fun(x_:(List SRequest)×(List SAddr)×Unit)=>x_.1.length≤1000000000000∧x_.2.1.length≤1048576,fun(x_:(List SRequest)×(List SAddr)×Unit)=>(withoutAddrs x_.2.1 x_.1,())⟩
abbrev W_spec_WithoutAddrs_fWithoutAddrs_3 (l:(List SRequest)) (d:(List SAddr)):LInv:=⟨[⟨.s,5,true,.sl .request⟩,⟨.s,6,true,.el .int⟩],fun _ (x_:(List SRequest)×Int×Unit)=>0≤x_.2.1∧x_.2.1≤l.length∧x_.1.length≤x_.2.1∧withoutAddrs d l=x_.1++withoutAddrs d (l.drop x_.2.1.toNat),fun(x_:(List SRequest)×Int×Unit)=>l.length-x_.2.1.toNat⟩
theorem k15_5:fWithoutAddrs.ok Tryz.prog 15:=Fct.of (S:=fWithoutAddrs) (L:=fun⟨l,d,_⟩=>fun|3=>some (W_spec_WithoutAddrs_fWithoutAddrs_3 l d)|_=>none) (kp:=[0,1,4,5,6,11,21,1000011,1000021]) E5ok Tryz.func15 (by kernel_rfl) (by kernel_rfl) (by
 rintro⟨(l:List SRequest),(d:List SAddr),_⟩ hp
 refine ho (lpx (W_spec_WithoutAddrs_fWithoutAddrs_3 l d) ([],((0:Int),())) fun(y1:List SRequest×Int×PUnit) bk1=>.br (decide (y1.2.1<(↑l.length:Int))) (.ob (inB y1.2.1 l.length)<|.cl fHasAddr (d,(l.getD y1.2.1.toNat default).to,()) fun z2=>.br (!z2.1) (.ob (inB y1.2.1 l.length)<|.ob (True)<|.ob (Room (y1.1.length+[l.getD y1.2.1.toNat default].length) 72)<|.ob (l=l)<|.ob (d=d)<|.ob (bk1 (y1.1++[l.getD y1.2.1.toNat default],(w1 y1.2.1,())))<|.ok) (.ob (l=l)<|.ob (d=d)<|.ob (bk1 (y1.1,(w1 y1.2.1,())))<|.ok)) (.lf fWithoutAddrs (y1.1,()))) ?_
 refine lpx_i ?_ fun(y1:List SRequest×Int×PUnit) i1=>br_i (fun h2=>ob_i ?_ fun o3=>cl_i ?_ fun o4=>(br_i (fun h5=>ob_i ?_ fun o6=>ob_i trivial fun _=>ob_i ?_ fun o7=>ob_i rfl fun _=>ob_i rfl fun _=>ob_i ?_ fun o8=>trivial) (fun h5=>ob_i rfl fun _=>ob_i rfl fun _=>ob_i ?_ fun o9=>trivial))) (fun h2=>lfY ?_)
 all_goals
  try simp only[std0] at *
  try simp only[W_spec_WithoutAddrs_fWithoutAddrs_3,fHasAddr,fWithoutAddrs,std,Nat.reduceAdd,szF,toF,eqF,mkF,heF,withoutAddrs,fHasAddr] at *
  try simp(disch:=omega) only[wrapId',toNat1] at *
  try simp(disch:=omega) only[if_pos,if_neg]
 all_goals first|trivial|omega|grind[wrapId',toNat1,drop_cons,drop_end,good_len,maxLen,withoutAddrs,fHasAddr])
def E6:=E5.add 15 fWithoutAddrs
theorem E6ok:EOk Tryz.prog E6:=E5ok.add k15_5
abbrev W_impl_WithoutAddrs_fWithoutAddrs_3 (l:(List SRequest)) (d:(List SAddr)):LInv:=⟨[⟨.s,5,true,.sl .request⟩,⟨.s,11,true,.el .int⟩],fun _ (x_:(List SRequest)×Int×Unit)=>0≤x_.2.1∧x_.2.1≤l.length∧x_.1.length≤x_.2.1∧withoutAddrs d l=x_.1++withoutAddrs d (l.drop x_.2.1.toNat),fun(x_:(List SRequest)×Int×Unit)=>l.length-x_.2.1.toNat⟩
theorem k13_6:fWithoutAddrs.ok Tryz.prog 13:=Fct.of (S:=fWithoutAddrs) (L:=fun⟨l,d,_⟩=>fun|3=>some (W_impl_WithoutAddrs_fWithoutAddrs_3 l d)|_=>none) (kp:=[0,1,4,5,7,9,10,11,12,19,1000012,1000019]) E6ok Tryz.func13 (by kernel_rfl) (by kernel_rfl) (by
 rintro⟨(l:List SRequest),(d:List SAddr),_⟩ hp
 refine ho (lpx (W_impl_WithoutAddrs_fWithoutAddrs_3 l d) ([],((0:Int),())) fun(y1:List SRequest×Int×PUnit) bk1=>.br (decide (y1.2.1<(↑l.length:Int))) (.ob (inB y1.2.1 l.length)<|.cl fHasAddr (d,(l.getD y1.2.1.toNat default).to,()) fun z2=>.br (!z2.1) (.ob (True)<|.ob (Room (y1.1.length+[l.getD y1.2.1.toNat default].length) 72)<|.ob (l=l)<|.ob (d=d)<|.ob (l=l)<|.ob (Value.int IntKind.i64 (↑l.length:Int)=Value.int IntKind.i64 (↑l.length:Int))<|.ob (bk1 (y1.1++[l.getD y1.2.1.toNat default],(w1 y1.2.1,())))<|.ok) (.ob (l=l)<|.ob (d=d)<|.ob (l=l)<|.ob (Value.int IntKind.i64 (↑l.length:Int)=Value.int IntKind.i64 (↑l.length:Int))<|.ob (bk1 (y1.1,(w1 y1.2.1,())))<|.ok)) (.lf fWithoutAddrs (y1.1,()))) ?_
 refine lpx_i ?_ fun(y1:List SRequest×Int×PUnit) i1=>br_i (fun h2=>ob_i ?_ fun o3=>cl_i ?_ fun o4=>(br_i (fun h5=>ob_i trivial fun _=>ob_i ?_ fun o6=>ob_i rfl fun _=>ob_i rfl fun _=>ob_i rfl fun _=>ob_i rfl fun _=>ob_i ?_ fun o7=>trivial) (fun h5=>ob_i rfl fun _=>ob_i rfl fun _=>ob_i rfl fun _=>ob_i rfl fun _=>ob_i ?_ fun o8=>trivial))) (fun h2=>lfY ?_)
 all_goals
  try simp only[std0] at *
  try simp only[W_impl_WithoutAddrs_fWithoutAddrs_3,fHasAddr,fWithoutAddrs,std,Nat.reduceAdd,szF,toF,eqF,mkF,heF,withoutAddrs,fHasAddr] at *
  try simp(disch:=omega) only[wrapId',toNat1] at *
  try simp(disch:=omega) only[if_pos,if_neg]
 all_goals first|trivial|omega|grind[wrapId',toNat1,drop_cons,drop_end,good_len,maxLen,withoutAddrs,fHasAddr])
def E7:=E6.add 13 fWithoutAddrs
theorem E7ok:EOk Tryz.prog E7:=E6ok.add k13_6
theorem withoutAddrs_len (d:List SAddr) (l:List SRequest):(withoutAddrs d l).length≤l.length:=by
 induction l<;>grind[withoutAddrs]
def fContains_str:Fct:=⟨[.v (.sl .str),.v (.el .str)],[.el .bool],fun(x_:(List ByteArray)×ByteArray×Unit)=>x_.1.length≤1000000000000000000,fun(x_:(List ByteArray)×ByteArray×Unit)=>(x_.1.any fun c=>decide (c=x_.2.1),())⟩
def fHas9:Fct:=⟨[.v (.sl .str),.v (.el .str)],[.el .bool],fun(x_:(List ByteArray)×ByteArray×Unit)=>x_.1.length≤1000000000000000000,fun(x_:(List ByteArray)×ByteArray×Unit)=>(x_.1.any fun c=>decide (c=x_.2.1),())⟩
abbrev W_spec_l9Has_fHas9_2 (l:(List ByteArray)) (s:ByteArray):LInv:=⟨[⟨.s,5,true,.el .int⟩],fun _ (x_:Int×Unit)=>0≤x_.1∧x_.1≤l.length∧l.any (fun c=>decide (c=s))=(l.drop x_.1.toNat).any (fun c=>decide (c=s)),fun(x_:Int×Unit)=>l.length-x_.1.toNat⟩
theorem k186_7:fHas9.ok Tryz.prog 186:=Fct.of (S:=fHas9) (L:=fun⟨l,s,_⟩=>fun|2=>some (W_spec_l9Has_fHas9_2 l s)|_=>none) (kp:=[0,1,4,5,9,17,1000009,1000017]) E7ok Tryz.func186 (by kernel_rfl) (by kernel_rfl) (by
 rintro⟨(l:List ByteArray),(s:ByteArray),_⟩ hp
 refine ho (lpx (W_spec_l9Has_fHas9_2 l s) ((0:Int),()) fun(y1:Int×PUnit) bk1=>.br (decide (y1.1<(↑l.length:Int))) (.ob (inB y1.1 l.length)<|.br ((l.getD y1.1.toNat default).toList==s.toList) (.lf fHas9 (true,())) (.ob (l=l)<|.ob (Value.string s=Value.string s)<|.ob (bk1 (w1 y1.1,()))<|.ok)) (.lf fHas9 (false,()))) ?_
 refine lpx_i ?_ fun(y1:Int×PUnit) i1=>br_i (fun h2=>ob_i ?_ fun o3=>br_i (fun h4=>lfY ?_) (fun h4=>ob_i rfl fun _=>ob_i rfl fun _=>ob_i ?_ fun o5=>trivial)) (fun h2=>lfY ?_)
 all_goals
  try simp only[std0] at *
  try simp only[W_spec_l9Has_fHas9_2,fHas9,std,Nat.reduceAdd,szF,toF,eqF,mkF,heF] at *
  try simp(disch:=omega) only[wrapId',toNat1] at *
  try simp(disch:=omega) only[if_pos,if_neg]
 all_goals first|trivial|omega|grind[wrapId',toNat1,drop_cons,drop_end,good_len,maxLen])
def E8:=E7.add 186 fHas9
theorem E8ok:EOk Tryz.prog E8:=E7ok.add k186_7
def blockedOn (p:SPage):SAddr×Bool:=if 1≤p.block∧p.block≤p.slots.length then((p.slots.getD (p.block-1).toNat default).to,true) else(default,false)
def fBlockedOn:Fct:=⟨[.v (.el .page)],[.el .addr,.el .bool],fun(x_:SPage×Unit)=>x_.1.slots.length≤1000000000000∧-9223372036854775808≤x_.1.block∧x_.1.block≤9223372036854775807,fun(x_:SPage×Unit)=>((blockedOn x_.1).1,(blockedOn x_.1).2,())⟩
theorem k11_8:fBlockedOn.ok Tryz.prog 11:=Fct.o [1,2,3,10,1000010] E8ok Tryz.func11 (by
 rintro⟨(p:SPage),_⟩ hp
 refine ho (.cl fInRange (p.block,(1:Int),(↑p.slots.length:Int),()) fun z2=>.br (!z2.1) (.lf fBlockedOn (default,false,())) (.ob (0≤wr (p.block-(1:Int))∧wr (p.block-(1:Int))<(↑p.slots.length:Int))<|.lf fBlockedOn ((p.slots.getD (wr (p.block-(1:Int))).toNat default).to,true,()))) ?_
 refine cl_i trivial fun _=>(br_i (fun h1=>lfY ?_) (fun h1=>ob_i ?_ fun o2=>lfY ?_))
 all_goals
  try simp only[std0] at *
  try simp only[fBlockedOn,fInRange,std,Nat.reduceAdd,szF,toF,eqF,mkF,heF,blockedOn,fInRange,inRange] at *
  try simp(disch:=omega) only[wrapId',toNat1] at *
  try simp(disch:=omega) only[if_pos,if_neg]
 all_goals first|trivial|omega|grind[wrapId',toNat1,drop_cons,drop_end,good_len,maxLen,blockedOn,fInRange,inRange])
def E9:=E8.add 11 fBlockedOn
theorem E9ok:EOk Tryz.prog E9:=E8ok.add k11_8
theorem k10_9:fBlockedOn.ok Tryz.prog 10:=Fct.o [1,2,3,4,21,1000021] E9ok Tryz.func10 (by
 rintro⟨(p:SPage),_⟩ hp
 refine ho (.br (p.block==0) (.lf fBlockedOn (default,false,())) (.br (decide (wr (p.block-(1:Int))<0)) (.lf fBlockedOn (default,false,())) (.br (decide (wr (p.block-(1:Int))≥(↑p.slots.length:Int))) (.lf fBlockedOn (default,false,())) (.ob (0≤wr (p.block-(1:Int))∧wr (p.block-(1:Int))<(↑p.slots.length:Int))<|.lf fBlockedOn ((p.slots.getD (wr (p.block-(1:Int))).toNat default).to,true,()))))) ?_
 refine br_i (fun h1=>lfY ?_) (fun h1=>br_i (fun h2=>lfY ?_) (fun h2=>br_i (fun h3=>lfY ?_) (fun h3=>ob_i ?_ fun o4=>lfY ?_)))
 all_goals
  try simp only[std0] at *
  try simp only[fBlockedOn,std,Nat.reduceAdd,szF,toF,eqF,mkF,heF,blockedOn] at *
  try simp only[IntKind.wrap_i64] at *
  try simp(disch:=omega) only[if_pos,if_neg]
 all_goals first|trivial|omega|skip
 rw[show((p.block-1+9223372036854775808) % 18446744073709551616-9223372036854775808).toNat=(p.block-1).toNat by omega]
 trivial)
def E10:=E9.add 10 fBlockedOn
theorem E10ok:EOk Tryz.prog E10:=E9ok.add k10_9
def classOf (p:SPage) (r:SRequest):Int:=if(blockedOn p).2=true∧(blockedOn p).1=r.to then 0 else if r.kind=3 then 1 else if r.kind=2 then 2 else if r.kind=5 then 3 else if r.kind=4 then 4 else 5
def fClassOf:Fct:=⟨[.v (.el .page),.v (.el .request)],[.el .int],fun(x_:SPage×SRequest×Unit)=>x_.1.slots.length≤1000000000000∧-9223372036854775808≤x_.1.block∧x_.1.block≤9223372036854775807,fun(x_:SPage×SRequest×Unit)=>(classOf x_.1 x_.2.1,())⟩
theorem k9_10:fClassOf.ok Tryz.prog 9:=Fct.o [2,3,4,5,6,18,20,21,23,25,27,1000018,1000021,1000023,1000025,1000027] E10ok Tryz.func9 (by
 rintro⟨(p:SPage),(r:SRequest),_⟩ hp
 refine ho (.cl fBlockedOn (p,()) fun z2=>.br (z2.2.1) (.br (z2.1.host==r.to.host&&(z2.1.path==r.to.path&&true)) (.lf fClassOf ((0:Int),())) (.br (r.kind==3) (.lf fClassOf ((1:Int),())) (.br (r.kind==2) (.lf fClassOf ((2:Int),())) (.br (r.kind==5) (.lf fClassOf ((3:Int),())) (.br (r.kind==4) (.lf fClassOf ((4:Int),())) (.lf fClassOf ((5:Int),()))))))) (.br (r.kind==3) (.lf fClassOf ((1:Int),())) (.br (r.kind==2) (.lf fClassOf ((2:Int),())) (.br (r.kind==5) (.lf fClassOf ((3:Int),())) (.br (r.kind==4) (.lf fClassOf ((4:Int),())) (.lf fClassOf ((5:Int),()))))))) ?_
 refine cl_i ?_ fun o1=>(br_i (fun h2=>br_i (fun h3=>lfY ?_) (fun h3=>br_i (fun h4=>lfY ?_) (fun h4=>br_i (fun h5=>lfY ?_) (fun h5=>br_i (fun h6=>lfY ?_) (fun h6=>br_i (fun h7=>lfY ?_) (fun h7=>lfY ?_)))))) (fun h2=>br_i (fun h8=>lfY ?_) (fun h8=>br_i (fun h9=>lfY ?_) (fun h9=>br_i (fun h10=>lfY ?_) (fun h10=>br_i (fun h11=>lfY ?_) (fun h11=>lfY ?_))))))
 all_goals
  try simp only[beqAddr] at *
  try simp only[std0] at *
  try simp only[fBlockedOn,fClassOf,std,Nat.reduceAdd,szF,toF,eqF,mkF,heF,classOf] at *
  try simp(disch:=omega) only[wrapId',toNat1] at *
  try simp(disch:=omega) only[if_pos,if_neg]
 all_goals first|trivial|omega|grind[wrapId',toNat1,drop_cons,drop_end,good_len,maxLen,classOf])
def E11:=E10.add 9 fClassOf
theorem E11ok:EOk Tryz.prog E11:=E10ok.add k9_10
theorem szNode_get {l:List SNode} {i:Nat} (h:i<l.length):(l.getD i default).attrs.length+l.length≤szL szNode l:=by
 have:=szL_get szNode h
 have h2:=szL_len szAttr (l.getD i default).attrs
 simp only[szNode] at this;omega
theorem szToken_get {l:List SToken} {i:Nat} (h:i<l.length):(l.getD i default).attrs.length+l.length≤szL szToken l:=by
 have:=szL_get szToken h
 have h2:=szL_len szAttr (l.getD i default).attrs
 simp only[szToken] at this;omega
def pickReq (p:SPage):List SRequest→Int→Int→Int→Int
 | [],_,best,_=>best
 | r::l,i,best,bc=>if best<0∨classOf p r<bc then pickReq p l (i+1) i (classOf p r) else pickReq p l (i+1) best bc
def fPickRequest:Fct:=⟨[.v (.el .page),.v (.sl .request)],[.el .int],fun(x_:SPage×(List SRequest)×Unit)=>x_.1.slots.length≤1000000000000∧(-9223372036854775808≤x_.1.block∧x_.1.block≤9223372036854775807)∧x_.2.1.length≤1000000000000,fun(x_:SPage×(List SRequest)×Unit)=>(pickReq x_.1 x_.2.1 0 (-1) 0,())⟩
abbrev W_impl_PickRequest_fPickRequest_3 (p:SPage) (l:(List SRequest)):LInv:=⟨[⟨.s,5,true,.el .int⟩,⟨.s,10,true,.el .int⟩,⟨.b,2,false,.el .page⟩],fun(z_:Int×Int×SPage×Unit) (x_:Int×Int×SPage×Unit)=>(0≤x_.2.1∧x_.2.1≤l.length∧-1≤x_.1∧x_.1<x_.2.1∧(x_.1 = -1→x_.2.1=0)∧pickReq p (l.drop x_.2.1.toNat) x_.2.1 x_.1 (if x_.1<0 then 0 else classOf p (l.getD x_.1.toNat default))=pickReq p l 0 (-1) 0)∧x_.2.2.1=z_.2.2.1,fun(x_:Int×Int×SPage×Unit)=>l.length-x_.2.1.toNat⟩
theorem k7_11:fPickRequest.ok Tryz.prog 7:=Fct.of (S:=fPickRequest) (L:=fun⟨p,l,_⟩=>fun|3=>some (W_impl_PickRequest_fPickRequest_3 p l)|_=>none) (kp:=[1,2,4,5,6,7,8,9,10,11,28,1000011,1000028]) E11ok Tryz.func7 (by kernel_rfl) (by kernel_rfl) (by
 rintro⟨(p:SPage),(l:List SRequest),_⟩ hp
 refine ho (lpx (W_impl_PickRequest_fPickRequest_3 p l) ((-1:Int),((0:Int),(p,()))) fun(y1:Int×Int×SPage×PUnit) bk1=>.br (decide (y1.2.1<(↑l.length:Int))) (.ob (inB y1.2.1 l.length)<|.br (decide (y1.1<0)) (.ob (l=l)<|.ob (Value.int IntKind.i64 0=Value.int IntKind.i64 (0:Int))<|.ob (l=l)<|.ob (Value.int IntKind.i64 (↑l.length:Int)=Value.int IntKind.i64 (↑l.length:Int))<|.ob (bk1 (y1.2.1,(w1 y1.2.1,(y1.2.2.1,()))))<|.ok) (.cl fClassOf (y1.2.2.1,l.getD y1.2.1.toNat default,()) fun(z2:Int×PUnit)=>.ob (inB y1.1 l.length)<|.cl fClassOf (y1.2.2.1,l.getD y1.1.toNat default,()) fun(z3:Int×PUnit)=>.br (decide (z2.1<z3.1)) (.ob (l=l)<|.ob (Value.int IntKind.i64 0=Value.int IntKind.i64 (0:Int))<|.ob (l=l)<|.ob (Value.int IntKind.i64 (↑l.length:Int)=Value.int IntKind.i64 (↑l.length:Int))<|.ob (bk1 (y1.2.1,(w1 y1.2.1,(y1.2.2.1,()))))<|.ok) (.ob (l=l)<|.ob (Value.int IntKind.i64 0=Value.int IntKind.i64 (0:Int))<|.ob (l=l)<|.ob (Value.int IntKind.i64 (↑l.length:Int)=Value.int IntKind.i64 (↑l.length:Int))<|.ob (bk1 (y1.1,(w1 y1.2.1,(y1.2.2.1,()))))<|.ok))) (.lf fPickRequest (y1.1,()))) ?_
 refine lpx_i ?_ fun(y1:Int×Int×SPage×PUnit) i1=>br_i (fun h2=>ob_i ?_ fun o3=>br_i (fun h4=>ob_i rfl fun _=>ob_i rfl fun _=>ob_i rfl fun _=>ob_i rfl fun _=>ob_i ?_ fun o5=>trivial) (fun h4=>cl_i ?_ fun o6=>(ob_i ?_ fun o7=>cl_i ?_ fun o8=>(br_i (fun h9=>ob_i rfl fun _=>ob_i rfl fun _=>ob_i rfl fun _=>ob_i rfl fun _=>ob_i ?_ fun o10=>trivial) (fun h9=>ob_i rfl fun _=>ob_i rfl fun _=>ob_i rfl fun _=>ob_i rfl fun _=>ob_i ?_ fun o11=>trivial))))) (fun h2=>lfY ?_)
 all_goals
  try simp only[std0] at *
  try simp only[W_impl_PickRequest_fPickRequest_3,fClassOf,fPickRequest,std,Nat.reduceAdd,szF,toF,eqF,mkF,heF,pickReq,fClassOf] at *
  try simp(disch:=omega) only[wrapId',toNat1] at *
  try simp(disch:=omega) only[if_pos,if_neg]
 all_goals first|trivial|omega|grind[wrapId',toNat1,drop_cons,drop_end,good_len,maxLen,pickReq,fClassOf])
def E12:=E11.add 7 fPickRequest
theorem E12ok:EOk Tryz.prog E12:=E11ok.add k7_11
def fCopyAttrs:Fct:=⟨[.v (.sl .attr)],[.sl .attr],fun(x_:(List SAttr)×Unit)=>x_.1.length≤1099511627776,fun(x_:(List SAttr)×Unit)=>(x_.1,())⟩
theorem k103_12:fCopyAttrs.ok Tryz.prog 103:=Fct.o [0,2] E12ok Tryz.func103 (by
 rintro⟨(l:List SAttr),_⟩ hp
 refine ho (.ob (True)<|.ob (Room (0+List.length l) 32)<|.lf fCopyAttrs ([]++l,())) ?_
 refine ob_i trivial fun _=>ob_i ?_ fun o1=>lfY ?_
 all_goals
  try simp only[std0] at *
  try simp only[fCopyAttrs,std,Nat.reduceAdd,szF,toF,eqF,mkF,heF] at *
  try simp(disch:=omega) only[wrapId',toNat1] at *
  try simp(disch:=omega) only[if_pos,if_neg]
 all_goals first|trivial|omega|grind[wrapId',toNat1,drop_cons,drop_end,good_len,maxLen])
def E13:=E12.add 103 fCopyAttrs
theorem E13ok:EOk Tryz.prog E13:=E12ok.add k103_12
def fCopyToken:Fct:=⟨[.v (.el .token)],[.el .token],fun(x_:SToken×Unit)=>x_.1.attrs.length≤1099511627776,fun(x_:SToken×Unit)=>(x_.1,())⟩
def fCopyTokens:Fct:=⟨[.v (.sl .token)],[.sl .token],fun(x_:(List SToken)×Unit)=>szL szToken x_.1≤1099511627776,fun(x_:(List SToken)×Unit)=>(x_.1,())⟩
abbrev W_spec_l15Tokens_fCopyTokens_3 (l:(List SToken)):LInv:=⟨[⟨.s,3,true,.sl .token⟩,⟨.s,4,true,.el .int⟩],fun _ (x_:(List SToken)×Int×Unit)=>0≤x_.2.1∧x_.2.1≤l.length∧x_.1=l.take x_.2.1.toNat,fun(x_:(List SToken)×Int×Unit)=>l.length-x_.2.1.toNat⟩
theorem k76_13:fCopyTokens.ok Tryz.prog 76:=Fct.of (S:=fCopyTokens) (L:=fun⟨l,_⟩=>fun|3=>some (W_spec_l15Tokens_fCopyTokens_3 l)|_=>none) (kp:=[0,2,3,4,5,10,1000010]) E13ok Tryz.func76 (by kernel_rfl) (by kernel_rfl) (by
 rintro⟨(l:List SToken),_⟩ hp
 refine ho (lpx (W_spec_l15Tokens_fCopyTokens_3 l) ([],((0:Int),())) fun(y1:List SToken×Int×PUnit) bk1=>.br (decide (y1.2.1<(↑l.length:Int))) (.ob (inB y1.2.1 l.length)<|.ob (inB y1.2.1 l.length)<|.cl fCopyAttrs ((l.getD y1.2.1.toNat default).attrs,()) fun z2=>.ob (Room (y1.1.length+[(⟨(l.getD y1.2.1.toNat default).kind,(l.getD y1.2.1.toNat default).name,z2.1,(l.getD y1.2.1.toNat default).text⟩:SToken)].length) 64)<|.ob (l=l)<|.ob (bk1 (y1.1++[(⟨(l.getD y1.2.1.toNat default).kind,(l.getD y1.2.1.toNat default).name,z2.1,(l.getD y1.2.1.toNat default).text⟩:SToken)],(w1 y1.2.1,())))<|.ok) (.lf fCopyTokens (y1.1,()))) ?_
 refine lpx_i ?_ fun(y1:List SToken×Int×PUnit) i1=>br_i (fun h2=>ob_i ?_ fun o3=>ob_i ?_ fun o4=>cl_i ?_ fun o5=>(ob_i ?_ fun o6=>ob_i rfl fun _=>ob_i ?_ fun o7=>trivial)) (fun h2=>lfY ?_)
 all_goals
  have hl:=szL_len szToken l
  try have hg:=szToken_get (l:=l) (i:=y1.2.1.toNat)
  try have hg:=szToken_get (l:=l) (i:=y2.2.1.toNat)
  try simp only[std0] at *
  try simp only[W_spec_l15Tokens_fCopyTokens_3,fCopyAttrs,fCopyTokens,std,Nat.reduceAdd,szF,toF,eqF,mkF,heF,fCopyAttrs,fCopyToken,take_succ,take_end] at *
  try simp(disch:=omega) only[wrapId',toNat1] at *
  try simp(disch:=omega) only[if_pos,if_neg]
 all_goals first|trivial|omega|grind[wrapId',toNat1,drop_cons,drop_end,good_len,maxLen,fCopyAttrs,fCopyToken,take_succ,take_end])
def E14:=E13.add 76 fCopyTokens
theorem E14ok:EOk Tryz.prog E14:=E13ok.add k76_13
theorem builder_take {b:SBuilder} {n:Nat} (h:b.nodes.length≤n):(⟨b.nodes.take n,b.open_⟩:SBuilder)=b:=by rw[List.take_of_length_le h]
def fCopyBuilder:Fct:=⟨[.v (.el .builder)],[.el .builder],fun(x_:SBuilder×Unit)=>szBuilder x_.1≤1099511627776,fun(x_:SBuilder×Unit)=>(x_.1,())⟩
abbrev W_spec_l6Copy_fCopyBuilder_3 (b:SBuilder):LInv:=⟨[⟨.b,3,true,.el .builder⟩,⟨.s,4,true,.el .int⟩,⟨.b,1,false,.el .builder⟩,⟨.b,2,true,.el .builder⟩],fun(z_:SBuilder×Int×SBuilder×SBuilder×Unit) (x_:SBuilder×Int×SBuilder×SBuilder×Unit)=>((0≤x_.2.1∧x_.2.1≤b.nodes.length∧x_.1=⟨b.nodes.take x_.2.1.toNat,b.open_⟩)∧x_.2.2.1=z_.2.2.1)∧x_.2.2.2.1=z_.2.2.2.1,fun(x_:SBuilder×Int×SBuilder×SBuilder×Unit)=>b.nodes.length-x_.2.1.toNat⟩
theorem k77_14:fCopyBuilder.ok Tryz.prog 77:=Fct.of (S:=fCopyBuilder) (L:=fun⟨b,_⟩=>fun|3=>some (W_spec_l6Copy_fCopyBuilder_3 b)|_=>none) (kp:=[1,2,3,4,5,15,1000015]) E14ok Tryz.func77 (by kernel_rfl) (by kernel_rfl) (by
 rintro⟨(b:SBuilder),_⟩ hp
 refine ho (.ob (True)<|.ob (Room (0+b.open_.length) 8)<|lpx (W_spec_l6Copy_fCopyBuilder_3 b) ((⟨[],[]++b.open_⟩:SBuilder),((0:Int),(b,(default,())))) fun(y2:SBuilder×Int×SBuilder×SBuilder×PUnit) bk2=>.br (decide (y2.2.1<(↑y2.2.2.1.nodes.length:Int))) (.ob (inB y2.2.1 y2.2.2.1.nodes.length)<|.ob (inB y2.2.1 y2.2.2.1.nodes.length)<|.cl fCopyAttrs ((y2.2.2.1.nodes.getD y2.2.1.toNat default).attrs,()) fun z2=>.ob (Room (y2.1.nodes.length+[(⟨(y2.2.2.1.nodes.getD y2.2.1.toNat default).name,(y2.2.2.1.nodes.getD y2.2.1.toNat default).text,(y2.2.2.1.nodes.getD y2.2.1.toNat default).parent,z2.1⟩:SNode)].length) 64)<|.ob (bk2 ((⟨y2.1.nodes++[(⟨(y2.2.2.1.nodes.getD y2.2.1.toNat default).name,(y2.2.2.1.nodes.getD y2.2.1.toNat default).text,(y2.2.2.1.nodes.getD y2.2.1.toNat default).parent,z2.1⟩:SNode)],y2.1.open_⟩:SBuilder),(w1 y2.2.1,(y2.2.2.1,(y2.2.2.2.1,())))))<|.ok) (.lf fCopyBuilder (y2.1,()))) ?_
 refine ob_i trivial fun _=>ob_i ?_ fun o1=>lpx_i ?_ fun(y2:SBuilder×Int×SBuilder×SBuilder×PUnit) i2=>br_i (fun h3=>ob_i ?_ fun o4=>ob_i ?_ fun o5=>cl_i ?_ fun o6=>(ob_i ?_ fun o7=>ob_i ?_ fun o8=>trivial)) (fun h3=>lfY ?_)
 all_goals
  have hl:=szL_len szNode b.nodes
  try have hg:=szNode_get (l:=b.nodes) (i:=y1.2.1.toNat)
  try have hg:=szNode_get (l:=b.nodes) (i:=y2.2.1.toNat)
  try simp only[std0] at *
  try simp only[W_spec_l6Copy_fCopyBuilder_3,fCopyAttrs,fCopyBuilder,std,Nat.reduceAdd,szF,toF,eqF,mkF,heF,fCopyAttrs,take_succ,builder_take,szBuilder] at *
  try simp(disch:=omega) only[wrapId',toNat1] at *
  try simp(disch:=omega) only[if_pos,if_neg]
 all_goals first|trivial|omega|grind[wrapId',toNat1,drop_cons,drop_end,good_len,maxLen,fCopyAttrs,take_succ,builder_take,szBuilder])
def E15:=E14.add 77 fCopyBuilder
theorem E15ok:EOk Tryz.prog E15:=E14ok.add k77_14
def fCopyPolicy:Fct:=⟨[.v (.el .policy)],[.el .policy],fun(x_:SPolicy×Unit)=>szPolicy x_.1≤1099511627776,fun(x_:SPolicy×Unit)=>(x_.1,())⟩
theorem k75_15:fCopyPolicy.ok Tryz.prog 75:=Fct.o [1,2] E15ok Tryz.func75 (by
 rintro⟨(p:SPolicy),_⟩ hp
 refine ho (.ob (True)<|.ob (Room p.scripts.length 16)<|.ob (True)<|.ob (Room p.styles.length 16)<|.ob (True)<|.ob (Room p.images.length 16)<|.lf fCopyPolicy (p,())) ?_
 refine ob_i trivial fun _=>ob_i ?_ fun o1=>ob_i trivial fun _=>ob_i ?_ fun o2=>ob_i trivial fun _=>ob_i ?_ fun o3=>lfY ?_
 all_goals
  have hl1:=szL_len szString p.scripts
  have hl2:=szL_len szString p.styles
  have hl3:=szL_len szString p.images
  try simp only[std0] at *
  try simp only[fCopyPolicy,std,Nat.reduceAdd,szF,toF,eqF,mkF,heF,szPolicy] at *
  try simp(disch:=omega) only[wrapId',toNat1] at *
  try simp(disch:=omega) only[if_pos,if_neg]
 all_goals first|trivial|omega|grind[wrapId',toNat1,drop_cons,drop_end,good_len,maxLen,szPolicy])
def E16:=E15.add 75 fCopyPolicy
theorem E16ok:EOk Tryz.prog E16:=E15ok.add k75_15
def fCopyPage:Fct:=⟨[.v (.el .page)],[.el .page],fun(x_:SPage×Unit)=>szPage x_.1≤1099511627776,fun(x_:SPage×Unit)=>(x_.1,())⟩
theorem k47_16:fCopyPage.ok Tryz.prog 47:=Fct.o [1,2,3] E16ok Tryz.func47 (by
 rintro⟨(p:SPage),_⟩ hp
 refine ho (.cl fCopyPolicy (p.policy,()) fun z2=>.cl fCopyTokens (p.queue,()) fun z3=>.cl fCopyBuilder (p.builder,()) fun z4=>.ob (True)<|.ob (Room (0+p.slots.length) 96)<|.ob (True)<|.ob (Room (0+p.mods.length) 64)<|.ob (True)<|.ob (Room (0+p.entries.length) 32)<|.ob (True)<|.ob (Room (0+p.ran.length) 32)<|.ob (True)<|.ob (Room (0+p.log.length) 16)<|.lf fCopyPage (⟨p.addr,z2.1,p.tok,z3.1,p.ended,z4.1,[]++p.slots,[]++p.mods,[]++p.entries,p.block,p.inline,p.deferred,p.entered,[]++p.ran,[]++p.log,p.loaded⟩,())) ?_
 refine cl_i ?_ fun o1=>(cl_i ?_ fun o2=>(cl_i ?_ fun o3=>(ob_i trivial fun _=>ob_i ?_ fun o4=>ob_i trivial fun _=>ob_i ?_ fun o5=>ob_i trivial fun _=>ob_i ?_ fun o6=>ob_i trivial fun _=>ob_i ?_ fun o7=>ob_i trivial fun _=>ob_i ?_ fun o8=>lfY ?_)))
 all_goals
  have hl1:=szL_len szSlot p.slots
  have hl2:=szL_len szModule p.mods
  have hl3:=szL_len szAddr p.entries
  have hl4:=szL_len szAddr p.ran
  have hl5:=szL_len szString p.log
  try simp only[std0] at *
  try simp only[fCopyBuilder,fCopyPage,fCopyPolicy,fCopyTokens,std,Nat.reduceAdd,szF,toF,eqF,mkF,heF,szPage,fCopyPolicy,fCopyTokens,fCopyBuilder] at *
  try simp(disch:=omega) only[wrapId',toNat1] at *
  try simp(disch:=omega) only[if_pos,if_neg]
 all_goals first|trivial|omega|grind[wrapId',toNat1,drop_cons,drop_end,good_len,maxLen,szPage,fCopyPolicy,fCopyTokens,fCopyBuilder])
def E17:=E16.add 47 fCopyPage
theorem E17ok:EOk Tryz.prog E17:=E16ok.add k47_16
def fCompareAddrs:Fct:=⟨[.v (.el .addr),.v (.el .addr)],[.el .int],fun(x_:SAddr×SAddr×Unit)=>True,fun(x_:SAddr×SAddr×Unit)=>(cmpA x_.1 x_.2.1,())⟩
theorem k179_17:fCompareAddrs.ok Tryz.prog 179:=Fct.o [2,3,4,5,9,1000005,1000009] E17ok Tryz.func179 (by
 rintro⟨(a:SAddr),(b:SAddr),_⟩ hp
 refine ho (.br (a.host==b.host&&(a.path==b.path&&true)) (.lf fCompareAddrs ((0:Int),())) (.br (Op.bytesLess a.host.toList b.host.toList) (.lf fCompareAddrs ((-1:Int),())) (.br (a.host.toList==b.host.toList) (.br (Op.bytesLess a.path.toList b.path.toList) (.lf fCompareAddrs ((-1:Int),())) (.lf fCompareAddrs ((1:Int),()))) (.lf fCompareAddrs ((1:Int),()))))) ?_
 refine br_i (fun h1=>lfY ?_) (fun h1=>br_i (fun h2=>lfY ?_) (fun h2=>br_i (fun h3=>br_i (fun h4=>lfY ?_) (fun h4=>lfY ?_)) (fun h3=>lfY ?_)))
 all_goals try simp only[beqAddr,less_cmpB,decide_eq_true_eq,decide_eq_false_iff_not] at *
 all_goals
  have h1:=cmpB_range a.host b.host
  have h2:=cmpB_range a.path b.path
  have h3:=cmpA_range a b
  have h4:=cmpA_eq (a:=a) (b:=b)
  have h5:=cmpB_eq (a:=a.host) (b:=b.host)
  have h6:=cmpB_eq (a:=a.path) (b:=b.path)
  try simp only[std0] at *
  try simp only[fCompareAddrs,std,Nat.reduceAdd,szF,toF,eqF,mkF,heF,cmpA] at *
  try simp(disch:=omega) only[wrapId',toNat1] at *
  try simp(disch:=omega) only[if_pos,if_neg]
 all_goals first|trivial|omega|grind[wrapId',toNat1,drop_cons,drop_end,good_len,maxLen,cmpA])
def E18:=E17.add 179 fCompareAddrs
theorem E18ok:EOk Tryz.prog E18:=E17ok.add k179_17
theorem szL_cat {α:Type} (f:α→Nat) (l m:List α):szL f (l++m)=szL f l+szL f m:=by simp[szL];omega
theorem szL_drop {α:Type} (f:α→Nat) (l:List α) (n:Nat):szL f (l.drop n)≤szL f l:=by
 have h:=szL_cat f (l.take n) (l.drop n)
 rw[List.take_append_drop] at h
 omega
def nameByte (b:UInt8):Bool:=97≤b.toNat&&b.toNat≤122
def bts (s:ByteArray):List UInt8:=s.data.toList
theorem bts_len (s:ByteArray):(bts s).length=s.size:=rfl
theorem bts_at {s:ByteArray} {i:Nat} (h:i<s.size):(bts s).drop i=s.data.getD i 0::(bts s).drop (i+1):=by
 have h2:i<s.data.size:=h
 have e:s.data.getD i 0=s.data[i]:=by unfold Array.getD;rw[dif_pos h2];rfl
 rw[List.drop_eq_getElem_cons (by rw[bts_len];exact h),e]
 rfl
theorem bts_end {s:ByteArray} {i:Nat} (h:s.size≤i):(bts s).drop i=[]:=List.drop_of_length_le h
def allB (p:UInt8→Bool) (l:List UInt8):Bool:=l.all p
theorem allB_at {p:UInt8→Bool} {s:ByteArray} {i:Nat} (h:i<s.size):allB p ((bts s).drop i)=(p (s.data.getD i 0)&&allB p ((bts s).drop (i+1))):=by rw[bts_at h];rfl
theorem allB_end {p:UInt8→Bool} {s:ByteArray} {i:Nat} (h:s.size≤i):allB p ((bts s).drop i)=true:=by rw[bts_end h];rfl
def isName (s:ByteArray):Bool:=allB nameByte (bts s)&&decide (1≤s.size∧s.size≤8)
def fIsName:Fct:=⟨[.v (.el .str)],[.el .bool],fun(x_:ByteArray×Unit)=>x_.1.size≤1000000000000000000,fun(x_:ByteArray×Unit)=>(isName x_.1,())⟩
abbrev W_spec_IsName_fIsName_2 (s:ByteArray):LInv:=⟨[⟨.s,3,true,.el .int⟩],fun _ (x_:Int×Unit)=>0≤x_.1∧x_.1≤s.size∧allB nameByte ((bts s).drop x_.1.toNat)=allB nameByte (bts s),fun(x_:Int×Unit)=>s.size-x_.1.toNat⟩
theorem k174_18:fIsName.ok Tryz.prog 174:=Fct.of (S:=fIsName) (L:=fun⟨s,_⟩=>fun|2=>some (W_spec_IsName_fIsName_2 s)|_=>none) (kp:=[0,2,3,7,19,1000007,1000019]) E18ok Tryz.func174 (by kernel_rfl) (by kernel_rfl) (by
 rintro⟨(s:ByteArray),_⟩ hp
 refine ho (lpx (W_spec_IsName_fIsName_2 s) ((0:Int),()) fun(y1:Int×PUnit) bk1=>.br (decide (y1.1<(↑s.size:Int))) (.ob (0≤y1.1∧y1.1<(↑s.size:Int))<|.br (decide ((↑(s.data.getD y1.1.toNat 0).toNat:Int)<97)) (.lf fIsName (false,())) (.ob (0≤y1.1∧y1.1<(↑s.size:Int))<|.br (decide ((↑(s.data.getD y1.1.toNat 0).toNat:Int)>122)) (.lf fIsName (false,())) (.ob (Value.string s=Value.string s)<|.ob (bk1 (w1 y1.1,()))<|.ok))) (.cl fInRange ((↑s.size:Int),(1:Int),(8:Int),()) fun z2=>.lf fIsName (z2.1,()))) ?_
 refine lpx_i ?_ fun(y1:Int×PUnit) i1=>br_i (fun h2=>ob_i ?_ fun o3=>br_i (fun h4=>lfY ?_) (fun h4=>ob_i ?_ fun o5=>br_i (fun h6=>lfY ?_) (fun h6=>ob_i rfl fun _=>ob_i ?_ fun o7=>trivial))) (fun h2=>cl_i trivial fun _=>(lfY ?_))
 all_goals
  try simp only[std0] at *
  try simp only[W_spec_IsName_fIsName_2,fInRange,fIsName,std,Nat.reduceAdd,szF,toF,eqF,mkF,heF,isName,nameByte,fInRange,inRange,allB_at,allB_end] at *
  try simp(disch:=omega) only[wrapId',toNat1] at *
  try simp(disch:=omega) only[if_pos,if_neg]
 all_goals first|trivial|omega|grind[wrapId',toNat1,good_len,maxLen,isName,nameByte,fInRange,inRange,allB_at,allB_end])
def E19:=E18.add 174 fIsName
theorem E19ok:EOk Tryz.prog E19:=E18ok.add k174_18
def valByte (b:UInt8):Bool:=(97≤b.toNat&&b.toNat≤122)||(48≤b.toNat&&b.toNat≤57)||b.toNat==47
def isValue (s:ByteArray):Bool:=allB valByte (bts s)&&decide (1≤s.size∧s.size≤20)
def fIsValue:Fct:=⟨[.v (.el .str)],[.el .bool],fun(x_:ByteArray×Unit)=>x_.1.size≤1000000000000000000,fun(x_:ByteArray×Unit)=>(isValue x_.1,())⟩
abbrev W_spec_IsValue_fIsValue_2 (s:ByteArray):LInv:=⟨[⟨.s,3,true,.el .int⟩],fun _ (x_:Int×Unit)=>0≤x_.1∧x_.1≤s.size∧allB valByte ((bts s).drop x_.1.toNat)=allB valByte (bts s),fun(x_:Int×Unit)=>s.size-x_.1.toNat⟩
theorem k173_19:fIsValue.ok Tryz.prog 173:=Fct.of (S:=fIsValue) (L:=fun⟨s,_⟩=>fun|2=>some (W_spec_IsValue_fIsValue_2 s)|_=>none) (kp:=[0,2,3,7,37,1000007,1000037]) E19ok Tryz.func173 (by kernel_rfl) (by kernel_rfl) (by
 rintro⟨(s:ByteArray),_⟩ hp
 refine ho (lpx (W_spec_IsValue_fIsValue_2 s) ((0:Int),()) fun(y1:Int×PUnit) bk1=>.br (decide (y1.1<(↑s.size:Int))) (.ob (0≤y1.1∧y1.1<(↑s.size:Int))<|.br (decide ((↑(s.data.getD y1.1.toNat 0).toNat:Int)<97)) (.ob (0≤y1.1∧y1.1<(↑s.size:Int))<|.br (decide ((↑(s.data.getD y1.1.toNat 0).toNat:Int)<48)) (.ob (0≤y1.1∧y1.1<(↑s.size:Int))<|.br ((↑(s.data.getD y1.1.toNat 0).toNat:Int) != 47) (.lf fIsValue (false,())) (.ob (Value.string s=Value.string s)<|.ob (bk1 (w1 y1.1,()))<|.ok)) (.ob (0≤y1.1∧y1.1<(↑s.size:Int))<|.br (decide ((↑(s.data.getD y1.1.toNat 0).toNat:Int)>57)) (.ob (0≤y1.1∧y1.1<(↑s.size:Int))<|.br ((↑(s.data.getD y1.1.toNat 0).toNat:Int) != 47) (.lf fIsValue (false,())) (.ob (Value.string s=Value.string s)<|.ob (bk1 (w1 y1.1,()))<|.ok)) (.ob (Value.string s=Value.string s)<|.ob (bk1 (w1 y1.1,()))<|.ok))) (.ob (0≤y1.1∧y1.1<(↑s.size:Int))<|.br (decide ((↑(s.data.getD y1.1.toNat 0).toNat:Int)>122)) (.ob (0≤y1.1∧y1.1<(↑s.size:Int))<|.br (decide ((↑(s.data.getD y1.1.toNat 0).toNat:Int)<48)) (.ob (0≤y1.1∧y1.1<(↑s.size:Int))<|.br ((↑(s.data.getD y1.1.toNat 0).toNat:Int) != 47) (.lf fIsValue (false,())) (.ob (Value.string s=Value.string s)<|.ob (bk1 (w1 y1.1,()))<|.ok)) (.ob (0≤y1.1∧y1.1<(↑s.size:Int))<|.br (decide ((↑(s.data.getD y1.1.toNat 0).toNat:Int)>57)) (.ob (0≤y1.1∧y1.1<(↑s.size:Int))<|.br ((↑(s.data.getD y1.1.toNat 0).toNat:Int) != 47) (.lf fIsValue (false,())) (.ob (Value.string s=Value.string s)<|.ob (bk1 (w1 y1.1,()))<|.ok)) (.ob (Value.string s=Value.string s)<|.ob (bk1 (w1 y1.1,()))<|.ok))) (.ob (Value.string s=Value.string s)<|.ob (bk1 (w1 y1.1,()))<|.ok))) (.cl fInRange ((↑s.size:Int),(1:Int),(20:Int),()) fun z2=>.lf fIsValue (z2.1,()))) ?_
 refine lpx_i ?_ fun(y1:Int×PUnit) i1=>br_i (fun h2=>ob_i ?_ fun o3=>br_i (fun h4=>ob_i ?_ fun o5=>br_i (fun h6=>ob_i ?_ fun o7=>br_i (fun h8=>lfY ?_) (fun h8=>ob_i rfl fun _=>ob_i ?_ fun o9=>trivial)) (fun h6=>ob_i ?_ fun o10=>br_i (fun h11=>ob_i ?_ fun o12=>br_i (fun h13=>lfY ?_) (fun h13=>ob_i rfl fun _=>ob_i ?_ fun o14=>trivial)) (fun h11=>ob_i rfl fun _=>ob_i ?_ fun o15=>trivial))) (fun h4=>ob_i ?_ fun o16=>br_i (fun h17=>ob_i ?_ fun o18=>br_i (fun h19=>ob_i ?_ fun o20=>br_i (fun h21=>lfY ?_) (fun h21=>ob_i rfl fun _=>ob_i ?_ fun o22=>trivial)) (fun h19=>ob_i ?_ fun o23=>br_i (fun h24=>ob_i ?_ fun o25=>br_i (fun h26=>lfY ?_) (fun h26=>ob_i rfl fun _=>ob_i ?_ fun o27=>trivial)) (fun h24=>ob_i rfl fun _=>ob_i ?_ fun o28=>trivial))) (fun h17=>ob_i rfl fun _=>ob_i ?_ fun o29=>trivial))) (fun h2=>cl_i trivial fun _=>(lfY ?_))
 all_goals
  try simp only[std0] at *
  try simp only[W_spec_IsValue_fIsValue_2,fInRange,fIsValue,std,Nat.reduceAdd,szF,toF,eqF,mkF,heF,isValue,valByte,fInRange,inRange,allB_at,allB_end] at *
  try simp(disch:=omega) only[wrapId',toNat1] at *
  try simp(disch:=omega) only[if_pos,if_neg]
 all_goals first|trivial|omega|grind[wrapId',toNat1,good_len,maxLen,isValue,valByte,fInRange,inRange,allB_at,allB_end])
def E20:=E19.add 173 fIsValue
theorem E20ok:EOk Tryz.prog E20:=E19ok.add k173_19
def fIsAddr:Fct:=⟨[.v (.el .addr)],[.el .bool],fun(x_:SAddr×Unit)=>x_.1.host.size≤1000000000000000000∧x_.1.path.size≤1000000000000000000,fun(x_:SAddr×Unit)=>(isName x_.1.host&&isName x_.1.path,())⟩
theorem k144_20:fIsAddr.ok Tryz.prog 144:=Fct.o [1,2] E20ok Tryz.func144 (by
 rintro⟨(a:SAddr),_⟩ hp
 refine ho (.cl fIsName (a.host,()) fun z2=>.br (z2.1) (.cl fIsName (a.path,()) fun z3=>.lf fIsAddr (z3.1,())) (.lf fIsAddr (false,()))) ?_
 refine cl_i ?_ fun o1=>(br_i (fun h2=>cl_i ?_ fun o3=>(lfY ?_)) (fun h2=>lfY ?_))
 all_goals
  try simp only[std0] at *
  try simp only[fIsAddr,fIsName,std,Nat.reduceAdd,szF,toF,eqF,mkF,heF,fIsName] at *
  try simp(disch:=omega) only[wrapId',toNat1] at *
  try simp(disch:=omega) only[if_pos,if_neg]
 all_goals first|trivial|omega|grind[wrapId',toNat1,drop_cons,drop_end,good_len,maxLen,fIsName])
def E21:=E20.add 144 fIsAddr
theorem E21ok:EOk Tryz.prog E21:=E20ok.add k144_20
theorem szStr_get {l:List ByteArray} {i:Nat} (h:i<l.length):(l.getD i default).size+l.length≤szL szString l:=by
 have:=szL_get szString h
 simp only[szString] at this;omega
def fNames:Fct:=⟨[.v (.sl .str)],[.el .bool],fun(x_:(List ByteArray)×Unit)=>szL szString x_.1≤1099511627776,fun(x_:(List ByteArray)×Unit)=>(x_.1.all isName&&decide (x_.1.length≤4),())⟩
abbrev W_spec_l9Names_fNames_2 (l:(List ByteArray)):LInv:=⟨[⟨.s,3,true,.el .int⟩],fun _ (x_:Int×Unit)=>0≤x_.1∧x_.1≤l.length∧(l.drop x_.1.toNat).all isName=l.all isName,fun(x_:Int×Unit)=>l.length-x_.1.toNat⟩
theorem k172_21:fNames.ok Tryz.prog 172:=Fct.of (S:=fNames) (L:=fun⟨l,_⟩=>fun|2=>some (W_spec_l9Names_fNames_2 l)|_=>none) (kp:=[0,2,3,7,15,1000007,1000015]) E21ok Tryz.func172 (by kernel_rfl) (by kernel_rfl) (by
 rintro⟨(l:List ByteArray),_⟩ hp
 refine ho (lpx (W_spec_l9Names_fNames_2 l) ((0:Int),()) fun(y1:Int×PUnit) bk1=>.br (decide (y1.1<(↑l.length:Int))) (.ob (inB y1.1 l.length)<|.cl fIsName (l.getD y1.1.toNat default,()) fun z2=>.br (!z2.1) (.lf fNames (false,())) (.ob (l=l)<|.ob (bk1 (w1 y1.1,()))<|.ok)) (.lf fNames (decide ((↑l.length:Int)≤4),()))) ?_
 refine lpx_i ?_ fun(y1:Int×PUnit) i1=>br_i (fun h2=>ob_i ?_ fun o3=>cl_i ?_ fun o4=>(br_i (fun h5=>lfY ?_) (fun h5=>ob_i rfl fun _=>ob_i ?_ fun o6=>trivial))) (fun h2=>lfY ?_)
 all_goals
  have hl:=szL_len szString l
  have hg:∀ i,i<l.length→(l.getD i default).size≤1000000000000000000:=fun i h=>by have:=szStr_get h;have hp2:szL szString l≤1099511627776:=hp;omega
  try simp only[std0] at *
  try simp only[W_spec_l9Names_fNames_2,fIsName,fNames,std,Nat.reduceAdd,szF,toF,eqF,mkF,heF,fIsName] at *
  try simp(disch:=omega) only[wrapId',toNat1] at *
  try simp(disch:=omega) only[if_pos,if_neg]
 all_goals first|trivial|omega|grind[wrapId',toNat1,drop_cons,drop_end,good_len,maxLen,fIsName])
def E22:=E21.add 172 fNames
theorem E22ok:EOk Tryz.prog E22:=E21ok.add k172_21
def isPolicy (p:SPolicy):Bool:=if p.set_ then p.scripts.all isName&&decide (p.scripts.length≤4)&&(p.styles.all isName&&decide (p.styles.length≤4))&&(p.images.all isName&&decide (p.images.length≤4))&&(decide (p.nonce=⟨#[]⟩)||isValue p.nonce) else decide (p.scripts.length=0∧p.styles.length=0∧p.images.length=0∧p.nonce=⟨#[]⟩)
def fIsPolicy:Fct:=⟨[.v (.el .policy)],[.el .bool],fun(x_:SPolicy×Unit)=>szPolicy x_.1≤1099511627776,fun(x_:SPolicy×Unit)=>(isPolicy x_.1,())⟩
theorem k138_22:fIsPolicy.ok Tryz.prog 138:=Fct.o [1,2,5,1000005] E22ok Tryz.func138 (by
 rintro⟨(p:SPolicy),_⟩ hp
 refine ho (.br (!p.set_) (.br ((↑p.scripts.length:Int)==0) (.br ((↑p.styles.length:Int)==0) (.br ((↑p.images.length:Int)==0) (.lf fIsPolicy (p.nonce.toList==(⟨#[]⟩:ByteArray).toList,())) (.lf fIsPolicy (false,()))) (.lf fIsPolicy (false,()))) (.lf fIsPolicy (false,()))) (.cl fNames (p.scripts,()) fun z2=>.br (z2.1) (.cl fNames (p.styles,()) fun z3=>.br (z3.1) (.cl fNames (p.images,()) fun z4=>.br (z4.1) (.br (p.nonce.toList==(⟨#[]⟩:ByteArray).toList) (.lf fIsPolicy (true,())) (.cl fIsValue (p.nonce,()) fun z5=>.lf fIsPolicy (z5.1,()))) (.lf fIsPolicy (false,()))) (.lf fIsPolicy (false,()))) (.lf fIsPolicy (false,())))) ?_
 refine br_i (fun h1=>br_i (fun h2=>br_i (fun h3=>br_i (fun h4=>lfY ?_) (fun h4=>lfY ?_)) (fun h3=>lfY ?_)) (fun h2=>lfY ?_)) (fun h1=>cl_i ?_ fun o5=>(br_i (fun h6=>cl_i ?_ fun o7=>(br_i (fun h8=>cl_i ?_ fun o9=>(br_i (fun h10=>br_i (fun h11=>lfY ?_) (fun h11=>cl_i ?_ fun o12=>(lfY ?_))) (fun h10=>lfY ?_))) (fun h8=>lfY ?_))) (fun h6=>lfY ?_)))
 all_goals
  try simp only[std0] at *
  try simp only[fIsPolicy,fIsValue,fNames,std,Nat.reduceAdd,szF,toF,eqF,mkF,heF,isPolicy,fNames,fIsValue,szPolicy] at *
  try simp(disch:=omega) only[wrapId',toNat1] at *
  try simp(disch:=omega) only[if_pos,if_neg]
 all_goals first|trivial|omega|grind[wrapId',toNat1,drop_cons,drop_end,good_len,maxLen,isPolicy,fNames,fIsValue,szPolicy])
def E23:=E22.add 138 fIsPolicy
theorem E23ok:EOk Tryz.prog E23:=E22ok.add k138_22
def fAllows:Fct:=⟨[.v (.el .policy),.v (.el .int),.v (.el .str)],[.el .bool],fun(x_:SPolicy×Int×ByteArray×Unit)=>szPolicy x_.1≤1099511627776,fun(x_:SPolicy×Int×ByteArray×Unit)=>(!x_.1.set_||(if x_.2.1=2∨x_.2.1=5 then x_.1.scripts.any (fun c=>decide (c=x_.2.2.1)) else if x_.2.1=3 then x_.1.styles.any (fun c=>decide (c=x_.2.2.1)) else if x_.2.1=4 then x_.1.images.any (fun c=>decide (c=x_.2.2.1)) else false),())⟩
theorem k168_23:fAllows.ok Tryz.prog 168:=Fct.o [1,2,3,6,7,11,22,29,1000007,1000011,1000022,1000029] E23ok Tryz.func168 (by
 rintro⟨(p:SPolicy),(k:Int),(h:ByteArray),_⟩ hp
 refine ho (.br (!p.set_) (.lf fAllows (true,())) (.br (k==2) (.cl fHas9 (p.scripts,h,()) fun z2=>.lf fAllows (z2.1,())) (.br (k==5) (.cl fHas9 (p.scripts,h,()) fun z3=>.lf fAllows (z3.1,())) (.br (k==3) (.cl fHas9 (p.styles,h,()) fun z4=>.lf fAllows (z4.1,())) (.br (k==4) (.cl fHas9 (p.images,h,()) fun z5=>.lf fAllows (z5.1,())) (.lf fAllows (false,()))))))) ?_
 refine br_i (fun h1=>lfY ?_) (fun h1=>br_i (fun h2=>cl_i ?_ fun o3=>(lfY ?_)) (fun h2=>br_i (fun h4=>cl_i ?_ fun o5=>(lfY ?_)) (fun h4=>br_i (fun h6=>cl_i ?_ fun o7=>(lfY ?_)) (fun h6=>br_i (fun h8=>cl_i ?_ fun o9=>(lfY ?_)) (fun h8=>lfY ?_)))))
 all_goals
  have hl1:=szL_len szString p.scripts
  have hl2:=szL_len szString p.styles
  have hl3:=szL_len szString p.images
  try simp only[std0] at *
  try simp only[fAllows,fHas9,std,Nat.reduceAdd,szF,toF,eqF,mkF,heF,fHas9,fContains_str,szPolicy] at *
  try simp(disch:=omega) only[wrapId',toNat1] at *
  try simp(disch:=omega) only[if_pos,if_neg]
 all_goals first|trivial|omega|grind[wrapId',toNat1,drop_cons,drop_end,good_len,maxLen,fHas9,fContains_str,szPolicy])
def E24:=E23.add 168 fAllows
theorem E24ok:EOk Tryz.prog E24:=E23ok.add k168_23
def isRequest (r:SRequest):Bool:=inRange r.kind 1 5&&(isName r.to.host&&isName r.to.path)&&isName r.from_&&(decide (r.digest=⟨#[]⟩)||isValue r.digest)
def fIsRequest:Fct:=⟨[.v (.el .request)],[.el .bool],fun(x_:SRequest×Unit)=>szRequest x_.1≤1099511627776,fun(x_:SRequest×Unit)=>(isRequest x_.1,())⟩
theorem k167_24:fIsRequest.ok Tryz.prog 167:=Fct.o [1,2] E24ok Tryz.func167 (by
 rintro⟨(r:SRequest),_⟩ hp
 refine ho (.cl fInRange (r.kind,(1:Int),(5:Int),()) fun z2=>.br (z2.1) (.cl fIsAddr (r.to,()) fun z3=>.br (z3.1) (.cl fIsName (r.from_,()) fun z4=>.br (z4.1) (.br (r.digest.toList==(⟨#[]⟩:ByteArray).toList) (.lf fIsRequest (true,())) (.cl fIsValue (r.digest,()) fun z5=>.lf fIsRequest (z5.1,()))) (.lf fIsRequest (false,()))) (.lf fIsRequest (false,()))) (.lf fIsRequest (false,()))) ?_
 refine cl_i trivial fun _=>(br_i (fun h1=>cl_i ?_ fun o2=>(br_i (fun h3=>cl_i ?_ fun o4=>(br_i (fun h5=>br_i (fun h6=>lfY ?_) (fun h6=>cl_i ?_ fun o7=>(lfY ?_))) (fun h5=>lfY ?_))) (fun h3=>lfY ?_))) (fun h1=>lfY ?_))
 all_goals
  try simp only[std0] at *
  try simp only[fInRange,fIsAddr,fIsName,fIsRequest,fIsValue,std,Nat.reduceAdd,szF,toF,eqF,mkF,heF,isRequest,fIsName,fIsAddr,fIsValue,fInRange,szRequest,szAddr] at *
  try simp(disch:=omega) only[wrapId',toNat1] at *
  try simp(disch:=omega) only[if_pos,if_neg]
 all_goals first|trivial|omega|grind[wrapId',toNat1,drop_cons,drop_end,good_len,maxLen,isRequest,fIsName,fIsAddr,fIsValue,fInRange,szRequest,szAddr])
def E25:=E24.add 167 fIsRequest
theorem E25ok:EOk Tryz.prog E25:=E24ok.add k167_24
def allows (p:SPolicy) (k:Int) (h:ByteArray):Bool:=(fAllows.fn (p,k,h,())).1
def checkRequest (p:SPolicy) (r:SRequest):Int:=if isRequest r&&(decide (r.kind=1)||allows p r.kind r.to.host) then 1 else 2
def fCheckRequest:Fct:=⟨[.v (.el .policy),.v (.el .request)],[.el .int],fun(x_:SPolicy×SRequest×Unit)=>szPolicy x_.1≤1099511627776∧szRequest x_.2.1≤1099511627776,fun(x_:SPolicy×SRequest×Unit)=>(checkRequest x_.1 x_.2.1,())⟩
theorem k132_25:fCheckRequest.ok Tryz.prog 132:=Fct.o [2,3,4,22,1000022] E25ok Tryz.func132 (by
 rintro⟨(p:SPolicy),(r:SRequest),_⟩ hp
 refine ho (.cl fIsRequest (r,()) fun z2=>.br (!z2.1) (.lf fCheckRequest ((2:Int),())) (.br (r.kind != 1) (.cl fAllows (p,r.kind,r.to.host,()) fun z3=>.br (!z3.1) (.lf fCheckRequest ((2:Int),())) (.lf fCheckRequest ((1:Int),()))) (.lf fCheckRequest ((1:Int),())))) ?_
 refine cl_i ?_ fun o1=>(br_i (fun h2=>lfY ?_) (fun h2=>br_i (fun h3=>cl_i ?_ fun o4=>(br_i (fun h5=>lfY ?_) (fun h5=>lfY ?_))) (fun h3=>lfY ?_)))
 all_goals
  try simp only[std0] at *
  try simp only[fAllows,fCheckRequest,fIsRequest,std,Nat.reduceAdd,szF,toF,eqF,mkF,heF,checkRequest,allows,fAllows,fIsRequest] at *
  try simp(disch:=omega) only[wrapId',toNat1] at *
  try simp(disch:=omega) only[if_pos,if_neg]
 all_goals first|trivial|omega|grind[wrapId',toNat1,drop_cons,drop_end,good_len,maxLen,checkRequest,allows,fAllows,fIsRequest])
def E26:=E25.add 132 fCheckRequest
theorem E26ok:EOk Tryz.prog E26:=E25ok.add k132_25
def fFitsKind:Fct:=⟨[.v (.el .response),.v (.el .int)],[.el .bool],fun(x_:SResponse×Int×Unit)=>True,fun(x_:SResponse×Int×Unit)=>(decide (x_.1.kind=x_.2.1)||decide (x_.2.1=5∧x_.1.kind=2),())⟩
theorem k134_26:fFitsKind.ok Tryz.prog 134:=Fct.o [1,2,4] E26ok Tryz.func134 (by
 rintro⟨(x:SResponse),(k:Int),_⟩ hp
 refine ho (.br (x.kind==k) (.lf fFitsKind (true,())) (.br (k==5) (.lf fFitsKind (x.kind==2,())) (.lf fFitsKind (false,())))) ?_
 refine br_i (fun h1=>lfY ?_) (fun h1=>br_i (fun h2=>lfY ?_) (fun h2=>lfY ?_))
 all_goals
  try simp only[std0] at *
  try simp only[fFitsKind,std,Nat.reduceAdd,szF,toF,eqF,mkF,heF] at *
  try simp(disch:=omega) only[wrapId',toNat1] at *
  try simp(disch:=omega) only[if_pos,if_neg]
 all_goals first|trivial|omega|grind[wrapId',toNat1,drop_cons,drop_end,good_len,maxLen])
def E27:=E26.add 134 fFitsKind
theorem E27ok:EOk Tryz.prog E27:=E26ok.add k134_26
def modM (n m:Int):Int:=if 1≤m∧m≤1000000000000 then n.emod m else 0
def fMod:Fct:=⟨[.v (.el .int),.v (.el .int)],[.el .int],fun(x_:Int×Int×Unit)=>-9223372036854775808≤x_.1∧x_.1≤9223372036854775807,fun(x_:Int×Int×Unit)=>(modM x_.1 x_.2.1,())⟩
theorem tmod_emod1 {n m:Int} (hm:0<m):(n.tmod m+m).tmod m=n.emod m:=by
 have h1:=Int.tmod_lt_of_pos n hm
 have h2 : -m<n.tmod m:=by
  have:=Int.lt_tmod_of_pos n hm
  omega
 rw[Int.tmod_eq_emod_of_nonneg (by omega)]
 rw[Int.tmod_eq_emod]
 split
 ·simp;rfl
 ·rw[show n % m-m.natAbs+m=n % m by omega];simp;rfl
theorem tmod_emod2 {n m:Int} (hm:0<m):(if n.tmod m<0 then n.tmod m+m else n.tmod m)=n.emod m:=by
 have h0:=Int.emod_nonneg n (show m≠0 by omega)
 have h3:=Int.emod_lt_of_pos n hm
 have e0:n.emod m=n % m:=rfl
 rw[Int.tmod_eq_emod,e0]
 split<;>split<;>omega
theorem k190_27:fMod.ok Tryz.prog 190:=Fct.o [0,1,4,7,1000007] E27ok Tryz.func190 (by
 rintro⟨(n:Int),(m:Int),_⟩ hp
 refine ho (.cl fInRange (m,(1:Int),(1000000000000:Int),()) fun z2=>.br (!z2.1) (.lf fMod ((0:Int),())) (.ob (m≠(0:Int))<|.ob (m≠(0:Int))<|.lf fMod ((wr (Int.tmod n m+m)).tmod m,()))) ?_
 refine cl_i trivial fun _=>(br_i (fun h1=>lfY ?_) (fun h1=>ob_i ?_ fun o2=>ob_i ?_ fun o3=>lfY ?_))
 all_goals (by_cases hm:1≤m∧m≤1000000000000)
 all_goals
  try have e1:=tmod_emod1 (n:=n) (m:=m) (by omega)
  try have e2:=tmod_emod2 (n:=n) (m:=m) (by omega)
  try have e3:=Int.tmod_lt_of_pos n (show 0<m by omega)
  try have e4:=Int.lt_tmod_of_pos n (show 0<m by omega)
  try simp only[std0] at *
  try simp only[fInRange,fMod,std,Nat.reduceAdd,szF,toF,eqF,mkF,heF,fInRange,inRange,modM] at *
  try simp(disch:=omega) only[wrapId',toNat1] at *
  try simp(disch:=omega) only[if_pos,if_neg]
  try simp only[Bool.and_eq_true,Bool.and_eq_false_iff,decide_eq_true_eq,decide_eq_false_iff_not] at *
 all_goals first|omega|skip
 all_goals
  try rw[wrapId (by omega)]
  try rw[if_pos hm]
 all_goals first|omega|exact e1|(rw[if_pos (by omega)] at e2;exact e2)|(rw[if_neg (by omega)] at e2;exact e2)|(rw[if_neg hm]))
def E28:=E27.add 190 fMod
theorem E28ok:EOk Tryz.prog E28:=E27ok.add k190_27
def hashI:List Int→Int→Int
 | [],d=>d
 | x::l,d=>hashI l ((d*1000003+modM x 2147483647+13).tmod 2147483647)
theorem hashI_at {l:List Int} {i:Nat} {d:Int} (h:i<l.length):hashI (l.drop i) d=hashI (l.drop (i+1)) ((d*1000003+modM (l.getD i default) 2147483647+13).tmod 2147483647):=by rw[drop_cons h];rfl
theorem hashI_end {l:List Int} {i:Nat} {d:Int} (h:l.length≤i):hashI (l.drop i) d=d:=by rw[List.drop_of_length_le h];rfl
theorem modM_range (x:Int):0≤modM x 2147483647∧modM x 2147483647<2147483647:=by
 have h0:=Int.emod_nonneg x (show(2147483647:Int)≠0 by omega)
 have h3:=Int.emod_lt_of_pos x (show(0:Int)<2147483647 by omega)
 have e0:modM x 2147483647=x % 2147483647:=rfl
 omega
theorem tmod_range {x:Int} (h:0≤x):0≤x.tmod 2147483647∧x.tmod 2147483647<2147483647:=by
 rw[Int.tmod_eq_emod_of_nonneg h]
 have h0:=Int.emod_nonneg x (show(2147483647:Int)≠0 by omega)
 have h3:=Int.emod_lt_of_pos x (show(0:Int)<2147483647 by omega)
 omega
def fHash:Fct:=⟨[.v (.sl .int)],[.el .int],fun(x_:(List Int)×Unit)=>x_.1.length≤1000000000000∧∀ i,i<x_.1.length→-9223372036854775808≤x_.1.getD i default∧x_.1.getD i default≤9223372036854775807,fun(x_:(List Int)×Unit)=>(hashI x_.1 11,())⟩
abbrev W_spec_Hash_fHash_3 (l:(List Int)):LInv:=⟨[⟨.s,3,true,.el .int⟩,⟨.s,4,true,.el .int⟩],fun _ (x_:Int×Int×Unit)=>0≤x_.2.1∧x_.2.1≤l.length∧0≤x_.1∧x_.1<2147483647∧hashI (l.drop x_.2.1.toNat) x_.1=hashI l 11,fun(x_:Int×Int×Unit)=>l.length-x_.2.1.toNat⟩
theorem k187_28:fHash.ok Tryz.prog 187:=Fct.of (S:=fHash) (L:=fun⟨l,_⟩=>fun|3=>some (W_spec_Hash_fHash_3 l)|_=>none) (kp:=[0,2,3,4,8,1000008]) E28ok Tryz.func187 (by kernel_rfl) (by kernel_rfl) (by
 rintro⟨(l:List Int),_⟩ hp
 refine ho (lpx (W_spec_Hash_fHash_3 l) ((11:Int),((0:Int),())) fun(y1:Int×Int×PUnit) bk1=>.br (decide (y1.2.1<(↑l.length:Int))) (.ob (inB y1.2.1 l.length)<|.cl fMod (l.getD y1.2.1.toNat default,(2147483647:Int),()) fun(z2:Int×PUnit)=>.ob ((2147483647:Int)≠(0:Int))<|.ob (l=l)<|.ob (Value.int IntKind.i64 0=Value.int IntKind.i64 (0:Int))<|.ob (bk1 ((wr (wr (wr (y1.1*(1000003:Int))+z2.1)+13)).tmod (2147483647:Int),(w1 y1.2.1,())))<|.ok) (.lf fHash (y1.1,()))) ?_
 refine lpx_i ?_ fun(y1:Int×Int×PUnit) i1=>br_i (fun h2=>ob_i ?_ fun o3=>cl_i ?_ fun o4=>(ob_i ?_ fun o5=>ob_i rfl fun _=>ob_i rfl fun _=>ob_i ?_ fun o6=>trivial)) (fun h2=>lfY ?_)
 all_goals
  try simp only[std0] at *
  try simp only[W_spec_Hash_fHash_3,fHash,fMod,std,Nat.reduceAdd,szF,toF,eqF,mkF,heF,fMod] at *
 all_goals obtain⟨hp1,hp2⟩:=hp
 all_goals try (obtain⟨a1,a2,a3,a4,a5⟩:=i1)
 all_goals try (have hm:=modM_range (l.getD y1.2.1.toNat default);have ht:=tmod_range (x:=y1.1*1000003+modM (l.getD y1.2.1.toNat default) 2147483647+13) (by omega))
 all_goals try simp(disch:=omega) only[wrapId',toNat1] at *
 all_goals first|trivial|omega|exact⟨by omega,by omega,by omega,by omega,rfl⟩|exact hp2 _ (by omega)|skip
 ·rw[hashI_at (by omega)] at a5;exact⟨⟨by omega,by omega,ht.1,ht.2,a5⟩,by omega⟩
 ·rw[hashI_end (by omega)] at a5;exact a5)
def E29:=E28.add 187 fHash
theorem E29ok:EOk Tryz.prog E29:=E28ok.add k187_28
def bti (b l:List Int):List Int:=(b.length:Int)::l
def fBytesToInts:Fct:=⟨[.v (.sl .u8)],[.sl .int],fun(x_:(List Int)×Unit)=>x_.1.length≤68719476736∧∀ i,i<x_.1.length→0≤x_.1.getD i default∧x_.1.getD i default≤255,fun(x_:(List Int)×Unit)=>(bti x_.1 x_.1,())⟩
abbrev W_spec_BytesToInts_fBytesToInts_3 (b:(List Int)):LInv:=⟨[⟨.s,3,true,.sl .int⟩,⟨.s,4,true,.el .int⟩],fun _ (x_:(List Int)×Int×Unit)=>0≤x_.2.1∧x_.2.1≤b.length∧x_.1=bti b (b.take x_.2.1.toNat),fun(x_:(List Int)×Int×Unit)=>b.length-x_.2.1.toNat⟩
theorem k188_29:fBytesToInts.ok Tryz.prog 188:=Fct.of (S:=fBytesToInts) (L:=fun⟨b,_⟩=>fun|3=>some (W_spec_BytesToInts_fBytesToInts_3 b)|_=>none) (kp:=[0,2,3,4,11,1000011]) E29ok Tryz.func188 (by kernel_rfl) (by kernel_rfl) (by
 rintro⟨(b:List Int),_⟩ hp
 refine ho (lpx (W_spec_BytesToInts_fBytesToInts_3 b) ([(↑b.length:Int)],((0:Int),())) fun(y1:List Int×Int×PUnit) bk1=>.br (decide (y1.2.1<(↑b.length:Int))) (.ob (inB y1.2.1 b.length)<|.ob (True)<|.ob (Room (y1.1.length+[wr (b.getD y1.2.1.toNat default)].length) 8)<|.ob (b=b)<|.ob (bk1 (y1.1++[wr (b.getD y1.2.1.toNat default)],(w1 y1.2.1,())))<|.ok) (.lf fBytesToInts (y1.1,()))) ?_
 refine lpx_i ?_ fun(y1:List Int×Int×PUnit) i1=>br_i (fun h2=>ob_i ?_ fun o3=>ob_i trivial fun _=>ob_i ?_ fun o4=>ob_i rfl fun _=>ob_i ?_ fun o5=>trivial) (fun h2=>lfY ?_)
 all_goals
  try simp only[std0] at *
  try simp only[W_spec_BytesToInts_fBytesToInts_3,fBytesToInts,std,Nat.reduceAdd,szF,toF,eqF,mkF,heF,take_succ,take_end,bti] at *
  try simp(disch:=omega) only[wrapId',toNat1] at *
  try simp(disch:=omega) only[if_pos,if_neg]
 all_goals first|trivial|omega|grind[wrapId',toNat1,drop_cons,drop_end,good_len,maxLen,take_succ,take_end,bti])
def E30:=E29.add 188 fBytesToInts
theorem E30ok:EOk Tryz.prog E30:=E29ok.add k188_29
def fFormatInt:Fct:=⟨[.v (.el .int)],[.el .str],fun(x_:Int×Unit)=>-9223372036854775808≤x_.1∧x_.1≤9223372036854775807,fun(x_:Int×Unit)=>(fmtI x_.1,())⟩
abbrev W_spec_FormatInt_fFormatInt_5 (n:Int):LInv:=⟨[⟨.s,3,true,.el .str⟩,⟨.s,4,true,.el .int⟩],fun _ (x_:ByteArray×Int×Unit)=>n≠0∧-9223372036854775808≤x_.2.1∧x_.2.1≤9223372036854775807∧(x_.2.1:Int).natAbs+4*x_.1.size≤n.natAbs+(if x_.2.1=0 then 4 else 0)∧decS (x_.2.1:Int).natAbs x_.1=decS n.natAbs ⟨#[]⟩,fun(x_:ByteArray×Int×Unit)=>(x_.2.1:Int).natAbs⟩
theorem k169_30:fFormatInt.ok Tryz.prog 169:=Fct.of (S:=fFormatInt) (L:=fun⟨n,_⟩=>fun|5=>some (W_spec_FormatInt_fFormatInt_5 n)|_=>none) (kp:=[0,2,3,4,5,7,10,16,27,1000007,1000010,1000016,1000027]) E30ok Tryz.func169 (by kernel_rfl) (by kernel_rfl) (by
 rintro⟨(n:Int),_⟩ hp
 refine ho (.br (n==0) (.lf fFormatInt ((⟨#[48]⟩:ByteArray),())) (lpx (W_spec_FormatInt_fFormatInt_5 n) ((⟨#[]⟩:ByteArray),(n,())) fun(y2:ByteArray×Int×PUnit) bk2=>.br (y2.2.1 != 0) (.ob ((10:Int)≠(0:Int))<|.br (decide (y2.2.1.tmod (10:Int)<(0:Int))) (.ob (True)<|.ob (sameSize (List.foldl (fun r n=>r.push (UInt8.ofNat n.toNat)) ByteArray.empty [IntKind.u8.wrap (wr ((48:Int)+wr ((0:Int)-y2.2.1.tmod (10:Int))))]) y2.1)<|.ob ((10:Int)≠(0:Int))<|.ob (Value.int IntKind.i64 n=Value.int IntKind.i64 n)<|.ob (Value.string (⟨#[]⟩:ByteArray)=Value.string (⟨#[]⟩:ByteArray))<|.ob (bk2 (List.foldl (fun r n=>r.push (UInt8.ofNat n.toNat)) ByteArray.empty [IntKind.u8.wrap (wr ((48:Int)+wr ((0:Int)-y2.2.1.tmod (10:Int))))]++y2.1,(wr (y2.2.1.tdiv (10:Int)),())))<|.ok) (.ob (True)<|.ob (sameSize (List.foldl (fun r n=>r.push (UInt8.ofNat n.toNat)) ByteArray.empty [IntKind.u8.wrap (wr ((48:Int)+y2.2.1.tmod (10:Int)))]) y2.1)<|.ob ((10:Int)≠(0:Int))<|.ob (Value.int IntKind.i64 n=Value.int IntKind.i64 n)<|.ob (Value.string (⟨#[]⟩:ByteArray)=Value.string (⟨#[]⟩:ByteArray))<|.ob (bk2 (List.foldl (fun r n=>r.push (UInt8.ofNat n.toNat)) ByteArray.empty [IntKind.u8.wrap (wr ((48:Int)+y2.2.1.tmod (10:Int)))]++y2.1,(wr (y2.2.1.tdiv (10:Int)),())))<|.ok)) (.br (decide (n<0)) (.ob (sameSize (⟨#[45]⟩:ByteArray) y2.1)<|.lf fFormatInt ((⟨#[45]⟩:ByteArray)++y2.1,())) (.lf fFormatInt (y2.1,()))))) ?_
 refine br_i (fun h1=>lfY ?_) (fun h1=>lpx_i ?_ fun(y2:ByteArray×Int×PUnit) i2=>br_i (fun h3=>ob_i ?_ fun o4=>br_i (fun h5=>ob_i trivial fun _=>ob_i ?_ fun o6=>ob_i ?_ fun o7=>ob_i rfl fun _=>ob_i rfl fun _=>ob_i ?_ fun o8=>trivial) (fun h5=>ob_i trivial fun _=>ob_i ?_ fun o9=>ob_i ?_ fun o10=>ob_i rfl fun _=>ob_i rfl fun _=>ob_i ?_ fun o11=>trivial)) (fun h3=>br_i (fun h12=>ob_i ?_ fun o13=>lfY ?_) (fun h12=>lfY ?_)))
 all_goals try (have hk:=Nat.mod_lt y2.2.1.natAbs (show 0<10 by omega);have ht:=tmod_abs y2.2.1)
 all_goals try (have hv:=tdiv_abs y2.2.1)
 all_goals
  try simp only[std0] at *
  try simp only[W_spec_FormatInt_fFormatInt_5,fFormatInt,std,Nat.reduceAdd,szF,toF,eqF,mkF,heF] at *
 all_goals first|trivial|omega|skip
 all_goals try (obtain⟨a1,a2,a3,a4,a5⟩:=i2)
 all_goals first|trivial|omega|skip
 all_goals
  try simp only[h5,if_true,if_false] at ht
  try rw[if_neg (by omega)] at ht
 all_goals try (rw[wrapId (n:=0-_) (by omega),show(0:Int)-y2.2.1.tmod 10=((y2.2.1.natAbs % 10:Nat):Int) by omega,digU hk,digPush hk] at *)
 all_goals try (rw[ht,digU hk,digPush hk] at *)
 all_goals try rw[if_neg h3] at a4
 all_goals try (have e1:IntKind.i64.wrap (y2.2.1.tdiv 10)=y2.2.1.tdiv 10:=wrapId (by omega);rw[e1])
 ·rw[h1,fmtI_zero]
 ·unfold sameSize;rw[show ByteArray.size ⟨#[UInt8.ofNat (48+y2.2.1.natAbs % 10)]⟩=1 from rfl];omega
 ·rw[decS_step (by omega)] at a5
  rw[hv,ByteArray.size_append,show ByteArray.size ⟨#[UInt8.ofNat (48+y2.2.1.natAbs % 10)]⟩=1 from rfl]
  exact⟨⟨h1,by omega,by omega,by split<;>omega,a5⟩,by omega⟩
 ·unfold sameSize;rw[show ByteArray.size ⟨#[UInt8.ofNat (48+y2.2.1.natAbs % 10)]⟩=1 from rfl];omega
 ·rw[decS_step (by omega)] at a5
  have hv':((y2.2.1.natAbs:Nat):Int)=y2.2.1.natAbs:=rfl
  rw[hv,ByteArray.size_append,show ByteArray.size ⟨#[UInt8.ofNat (48+y2.2.1.natAbs % 10)]⟩=1 from rfl]
  exact⟨⟨h1,by omega,by omega,by split<;>omega,a5⟩,by omega⟩
 ·unfold sameSize;rw[show ByteArray.size ⟨#[45]⟩=1 from rfl];rw[if_pos h3] at a4;omega
 ·rw[h3] at a5;rw[fmtI_neg h12,←a5];rfl
 ·rw[h3] at a5;rw[fmtI_pos (by omega),←a5];rfl)
def E31:=E30.add 169 fFormatInt
theorem E31ok:EOk Tryz.prog E31:=E30ok.add k169_30
theorem and_255 (x:Int):0≤bits .and .i64 x 255∧bits .and .i64 x 255≤255:=by
 have h:(BitVec.ofInt 64 x &&& BitVec.ofInt 64 255).toNat≤255:=by
  rw[BitVec.toNat_and];exact Nat.and_le_right
 have e:bits .and .i64 x 255=((BitVec.ofInt 64 x &&& BitVec.ofInt 64 255).toNat:Int):=by
  show IntKind.i64.wrap ((BitVec.ofInt 64 x &&& BitVec.ofInt 64 255).toNat:Int)=_
  exact wrapId' (by omega) (by omega)
 rw[e];omega
open Go.RowKit in
set_option maxHeartbeats 2000000 in
theorem byte_walk (g n cap:Nat) (i:Nat) (h:Int) (ad:Option Addr) (w:World) (hi1:i≤9223372036854775807) (hn:n≤1000000000000000000)
 (hx0:w.cell? ⟨g,0,none⟩=some (.slice ad n cap)) (hx1:w.cell? ⟨g,1,none⟩=some (.int .i64 i)) (hx2:w.cell? ⟨g,2,none⟩=some (.int .i64 h))
 (f1:w.frozen? ⟨g,1,none⟩=false) (f2:w.frozen? ⟨g,2,none⟩=false)
 (hb:i<n→∃ gb ob z,ad=some ⟨gb,ob,none⟩∧gb≠g∧w.cell? ⟨gb,ob+i,none⟩=some (.int .u8 z)) :
 Calls Tryz.prog 90 #[.pointer (some ⟨g,0,none⟩)] w fun e w'=>∃ (x:Int) (i':Nat) (h':Int) (q:Nat),e=.returned (.int .i64 x)∧0≤x∧x≤255∧i'≤9223372036854775807∧((∃ k,h'=wrap64 k) ∧
  (w'=((w.setCell ⟨g,2,none⟩ (.int .i64 h')).drewN q).setCell ⟨g,1,none⟩ (.int .i64 i')∨(i'=i∧∃ q',w'=((w.setCell ⟨g,2,none⟩ (.int .i64 h')).drewN q').drewN q))):=by
 go_enter Tryz.func90,Tryz.ntmps90
 go_wp2
 go_quiet (fail)
 go_wp2
 go_quiet (fail)
 go_wp2
 ·have hlt:i<n:=by omega
  obtain⟨gb,ob,z,rfl,hne,hz⟩:=hb hlt
  clear hb
  have hz':(w.setCell ⟨g,2,none⟩ (Value.int IntKind.i64 (IntKind.i64.wrap (IntKind.i64.wrap (h*6364136223846793005)+1442695040888963407)))).cell? ⟨gb,ob+i,none⟩=some (.int .u8 z):=by
   rw[World.cell?_setCell_other];exact hz;simp
  go_quiet (fail)
  go_wp2
  go_ret
  exact⟨_,i+1,_,_,rfl,(and_255 _).1,(and_255 _).2,by omega,⟨_,rfl⟩,.inl rfl⟩
 ·go_ret
  exact⟨_,i,_,_,rfl,(and_255 _).1,(and_255 _).2,by omega,⟨_,rfl⟩,.inr ⟨rfl,_,rfl⟩⟩
open Go.RowKit in
theorem wrap_rng (k:Int) : -9223372036854775808≤wrap64 k∧wrap64 k≤9223372036854775807:=by
 unfold wrap64;omega
theorem set_heap {w:World} {g j:Nat} {r:Array Value} {e:TypeId} {v:Value} (h:w.heap[g]? = some (.cells r e (0,0))):(w.setCell ⟨g,j,none⟩ v).heap[g]? = some (.cells (r.setIfInBounds j v) e (0,0))∧(∀ b,b≠g→(w.setCell ⟨g,j,none⟩ v).heap[b]? = w.heap[b]?)∧(w.setCell ⟨g,j,none⟩ v).heap.size=w.heap.size:=by
 refine⟨?_,fun b hb=>?_,?_⟩
 ·simp[World.setCell,Array.getElem?_modify,h]
 ·simp[World.setCell,Array.getElem?_modify,Ne.symm hb]
 ·simp[World.setCell]
def fByte:Xct:=⟨[.u],[.el .int],fun(x_:Unit×Unit)=>True,fun(x_:Unit×Unit) (y_:Int×Unit)=>0≤y_.1∧y_.1≤255⟩
open Go.RowKit in
theorem byte_ok:fByte.ok Tryz.prog 90:=by
 rintro⟨u,⟨⟩⟩ _
 intro w vs G hB hA
 obtain⟨v0,hv0,g,rfl,hg⟩:=hA.tm 0 .cur rfl
 have hvs:vs = #[.pointer (some ⟨g,0,none⟩)]:=by
  apply Array.ext
  ·rw[hA.sz];rfl
  ·intro i h1 h2
   match i,h1,h2 with
   | 0,h1,h2=>rw[Array.getElem?_eq_getElem h1] at hv0;injection hv0
   | i+1,h1,h2=>exact absurd (show i+1<1 from h2) (by omega)
 subst hvs
 obtain⟨xs,b,i,h,ty,hh,hb,hl,hi0,hi1,hh0,hh1⟩:=hA.cr g hg
 obtain⟨a,cap,rfl,hcap,hrow⟩:=hb
 obtain⟨i,rfl⟩:∃ k:Nat,i=k:=⟨i.toNat,by omega⟩
 have c0:∀ j,w.cell? ⟨g,j,none⟩=(#[Value.slice a xs.length cap,.int .i64 (i:Int),.int .i64 h]:Array Value)[j]?:=fun j=>by simp[World.cell?,hh]
 have fz:∀ j,w.frozen? ⟨g,j,none⟩=false:=fun j=>by simp[World.frozen?,hh]
 refine(byte_walk g xs.length cap i h a w (by omega) hl (c0 0) (c0 1) (c0 2) (fz 1) (fz 2) fun hlt=>?_).mono ?_
 ·rcases hrow with h0|⟨gb,ob,row,e,fr,rfl,hs,hbk,hc⟩
  ·omega
  ·obtain⟨u,hu,hr⟩:=hc i hlt 0 (by decide)
   have e0:cell .u8 xs i 0=(enc .u8 xs[i]).getD 0 .nl:=cell_get (t:=.u8) (xs:=xs) (by simp[hlt]) 0
   have hr:TR w (src G none) (fcC (cell .u8 xs i 0)) u:=hr
   rw[e0] at hr
   obtain⟨rfl,_⟩:=hr
   refine⟨gb,ob,xs[i],rfl,fun e=>?_,?_⟩
   ·subst e
    rw[show G.ow gb=.free from hs] at hg
    cases hg
   ·have:ob+i*Ty.u8.width+0=ob+i:=by show ob+i*1+0=ob+i;omega
    rw[this] at hu
    simp[World.cell?,hbk,hu]
 ·rintro e w' ⟨x,i',h',q,rfl,hx0,hx1,hi',⟨k,rfl⟩,hw⟩
  have hk:=wrap_rng k
  obtain⟨s1,s2,s3⟩:=set_heap (j:=2) (v:=.int .i64 (wrap64 k)) hh
  have fin:Onward w w'∧(∀ b,b≠g→w'.heap[b]? = w.heap[b]?)∧CurStep w w' g:=by
   rcases hw with rfl|⟨rfl,q',rfl⟩
   ·obtain⟨t1,t2,t3⟩:=set_heap (w:=(w.setCell ⟨g,2,none⟩ (.int .i64 (wrap64 k))).drewN q) (j:=1) (v:=.int .i64 (i':Int)) s1
    refine⟨⟨rfl,rfl,⟨rfl,DrLe.add _ _⟩,?_⟩,fun b hb=>(t2 b hb).trans (s2 b hb),?_⟩
    ·rw[t3];exact Nat.le_of_eq s3.symm
    ·exact⟨_,_,_,i',_,_,hh,t1,by omega,by omega,hk.1,hk.2⟩
   ·refine⟨⟨rfl,rfl,⟨rfl,DrLe.trans (DrLe.add _ _) (DrLe.add _ _)⟩,Nat.le_of_eq s3.symm⟩,fun b hb=>s2 b hb,?_⟩
    exact⟨_,_,_,i',_,_,hh,s1,by omega,by omega,hk.1,hk.2⟩
  obtain⟨f1,f2,f3⟩:=fin
  refine⟨_,_,⟨(x,()),⟨hx0,hx1⟩,rfl⟩,rfl,f1,fun b hb=>f2 b fun e=>?_,fun b hb=>?_,fun _ _=>False,by simp,by simp,?_,?_,?_⟩
  ·subst e;rw[hg] at hb;cases hb
  ·by_cases e:b=g
   ·subst e;exact f3
   ·exact(hA.cr b hb).same (f2 b e)
  ·exact⟨_,rfl,⟨rfl,rfl⟩,rfl⟩
  ·intro m T hm;cases hm
  ·intro b cs hb;cases hb
theorem and_num (x:Int):0≤bits .and .i64 x 1073741823∧bits .and .i64 x 1073741823≤1073741823:=by
 have h:(BitVec.ofInt 64 x &&& BitVec.ofInt 64 1073741823).toNat≤1073741823:=by
  rw[BitVec.toNat_and];exact Nat.and_le_right
 have e:bits .and .i64 x 1073741823=((BitVec.ofInt 64 x &&& BitVec.ofInt 64 1073741823).toNat:Int):=by
  show IntKind.i64.wrap ((BitVec.ofInt 64 x &&& BitVec.ofInt 64 1073741823).toNat:Int)=_
  exact wrapId' (by omega) (by omega)
 rw[e];omega
open Go.RowKit in
set_option maxRecDepth 100000 in
set_option maxHeartbeats 2000000 in
theorem new_walk (n cap:Nat) (ad:Option Addr) (w:World) (hn:n≤1000000000000000000) (hb:∀ i,i<n→∃ gb ob z,ad=some ⟨gb,ob,none⟩∧w.cell? ⟨gb,ob+i,none⟩=some (.int .u8 z)) :
 Calls Tryz.prog 27 #[.slice ad n cap] w fun e w'=>∃ (h:Int) (q:Nat),e=.returned (.pointer (some ⟨w.heap.size,0,none⟩))∧-9223372036854775808≤h∧h≤9223372036854775807∧w'=(w.drewN q).alloc (.cells #[.slice ad n cap,.int .i64 0,.int .i64 h] 106):=by
 go_enter Tryz.func27,Tryz.ntmps27
 go_wp2
 go_loop [3,4] (fun h i=>∃ (k:Nat) (x:Int),k≤4000∧i=.int .i64 k∧h=.int .i64 x∧-9223372036854775808≤x∧x≤9223372036854775807) (fun _ i=>4001-(intOf i).toNat)
 case atStart=>exact⟨0,_,by omega,rfl,rfl,by omega,by omega⟩
 case round=>
  obtain⟨k,x,hk,rfl,rfl,hx0,hx1⟩:=hrel
  by_cases h1:k<n
  ·by_cases h2:k<4000
   ·obtain⟨gb,ob,z,rfl,hz⟩:=hb k h1
    clear hb
    go_wp2
    go_round
    case rel=>exact⟨k+1,_,by omega,by go_num,rfl,Int.le_trans (by omega) (and_num _).1,Int.le_trans (and_num _).2 (by omega)⟩
    case measure=>simp only[intOf];omega
   ·go_wp2
    go_ret
    exact⟨rfl,x,hx0,hx1,0,rfl⟩
  ·go_wp2
   go_ret
   exact⟨rfl,x,hx0,hx1,0,rfl⟩
open Go.RowKit in
theorem new_ok:NewOk Tryz.prog 27:=by
 intro w v S xs hv _ hl
 obtain⟨a,cap,rfl,hcap,hrow⟩:=hv
 refine(new_walk xs.length cap a w hl fun i hlt=>?_).mono ?_
 ·rcases hrow with h0|⟨gb,ob,row,e,fr,rfl,hs,hbk,hc⟩
  ·omega
  ·obtain⟨u,hu,hr⟩:=hc i hlt 0 (by decide)
   have e0:cell .u8 xs i 0=(enc .u8 xs[i]).getD 0 .nl:=cell_get (t:=.u8) (xs:=xs) (by simp[hlt]) 0
   have hr:TR w S (fcC (cell .u8 xs i 0)) u:=hr
   rw[e0] at hr
   obtain⟨rfl,_⟩:=hr
   refine⟨gb,ob,xs[i],rfl,?_⟩
   have:ob+i*Ty.u8.width+0=ob+i:=by show ob+i*1+0=ob+i;omega
   rw[this] at hu
   simp[World.cell?,hbk,hu]
 ·rintro e w' ⟨h,q,rfl,h0,h1,rfl⟩
  refine⟨w.heap.size,h,106,rfl,⟨rfl,rfl,⟨rfl,DrLe.add _ _⟩,?_⟩,fun b hb=>?_,Nat.le_refl _,?_,h0,h1⟩
  ·simp[World.alloc,World.drewN]
  ·simp[World.alloc,World.drewN,Array.getElem?_push,Nat.ne_of_lt hb]
  ·simp[World.alloc,World.drewN]
theorem k27_31:NewOk Tryz.prog 27 :=
 new_ok
def E32:D.Env:=E31.addN 27
theorem E32ok:EOk Tryz.prog E32:=E31ok.addN k27_31
theorem k90_32:fByte.ok Tryz.prog 90 :=
 byte_ok
def E33:D.Env:=E32.addX 90 fByte
theorem E33ok:EOk Tryz.prog E33:=E32ok.addX k90_32
theorem bel_1 {a n:Int} (h1:0≤a) (h3:0<n):0≤a.tmod n∧(a.tmod n<n∨a.tmod n=0):=⟨Int.tmod_nonneg n h1,.inl (Int.tmod_lt_of_pos a h3)⟩
theorem bel_3 {a b c:Int} (ha:0≤a∧a≤255) (hb:0≤b∧b≤255) (hc:0≤c∧c≤255):IntKind.i64.wrap (IntKind.i64.wrap (IntKind.i64.wrap (a*65536)+IntKind.i64.wrap (b*256))+c)=a*65536+b*256+c:=by
 rw[wrapId' (n:=a*65536) (by omega) (by omega),wrapId' (n:=b*256) (by omega) (by omega),wrapId' (n:=a*65536+b*256) (by omega) (by omega),wrapId' (by omega) (by omega)]
def fBelow:Xct:=⟨[.u,.v (.el .int)],[.el .int],fun(x_:Unit×Int×Unit)=>True,fun(x_:Unit×Int×Unit) (y_:Int×Unit)=>0≤y_.1∧(y_.1<x_.2.1∨y_.1=0)⟩
theorem k60_33:fBelow.ok Tryz.prog 60:=Xct.of (S:=fBelow) (L:=fun _ _=>none) (kp:=[0,1,4,5,6,7,9,11,1000009,1000011]) E33ok Tryz.func60 (by kernel_rfl) (by kernel_rfl) (by
 rintro⟨(c:PUnit),(n:Int),_⟩ hp
 refine ho (.br (decide (n≤(0:Int))) (.leaf (mkR fBelow.rs ((0:Int),())) [] []) (.br (decide (n≤(256:Int))) (.ob (fByte.pre ((),()))<|.lp (Int×PUnit) (True) (fByte.is ((),())) fun y3=>.ob (n≠(0:Int))<|.leaf (mkR fBelow.rs (y3.fst.tmod n,())) [] []) (.ob (fByte.pre ((),()))<|.lp (Int×PUnit) (True) (fByte.is ((),())) fun y5=>.ob (fByte.pre ((),()))<|.lp (Int×PUnit) (True) (fByte.is ((),())) fun y6=>.ob (fByte.pre ((),()))<|.lp (Int×PUnit) (True) (fByte.is ((),())) fun y7=>.ob (n≠(0:Int))<|.leaf (mkR fBelow.rs ((IntKind.i64.wrap (IntKind.i64.wrap (IntKind.i64.wrap (y5.fst*(65536:Int))+IntKind.i64.wrap (y6.fst*(256:Int)))+y7.fst)).tmod n,())) [] []))) ?_
 refine br_i (fun h1=>Xct.leafY (S:=fBelow) ((0:Int),()) ?_) (fun h1=>br_i (fun h2=>ob_i trivial fun _=>lp_i trivial fun y3 i3=>ob_i ?_ fun o4=>Xct.leafY (S:=fBelow) (y3.fst.tmod n,()) ?_) (fun h2=>ob_i trivial fun _=>lp_i trivial fun y5 i5=>ob_i trivial fun _=>lp_i trivial fun y6 i6=>ob_i trivial fun _=>lp_i trivial fun y7 i7=>ob_i ?_ fun o8=>Xct.leafY (S:=fBelow) ((IntKind.i64.wrap (IntKind.i64.wrap (IntKind.i64.wrap (y5.fst*(65536:Int))+IntKind.i64.wrap (y6.fst*(256:Int)))+y7.fst)).tmod n,()) ?_))
 all_goals
  try simp only[std0] at *
  try simp only[fBelow,fByte,std,Nat.reduceAdd,szF,toF,eqF,mkF,heF] at *
 ·simp
 ·omega
 ·exact bel_1 (by omega) (by omega)
 ·omega
 ·rw[bel_3 i5 i6 i7];exact bel_1 (by omega) (by omega))
def E34:=E33.addX 60 fBelow
theorem E34ok:EOk Tryz.prog E34:=E33ok.addX k60_33
def fOnce:Xct:=⟨[.u,.v (.el .int)],[.el .bool],fun(x_:Unit×Int×Unit)=>True,fun(x_:Unit×Int×Unit) (y_:Bool×Unit)=>True⟩
theorem k29_34:fOnce.ok Tryz.prog 29:=Xct.of (S:=fOnce) (L:=fun _ _=>none) (kp:=[0,1,4]) E34ok Tryz.func29 (by kernel_rfl) (by kernel_rfl) (by
 rintro⟨(c:PUnit),(n:Int),_⟩ hp
 refine ho (.ob (fBelow.pre ((),n,()))<|.lp (Int×PUnit) (True) (fBelow.is ((),n,())) fun y1=>.leaf (mkR fOnce.rs (y1.fst==(0:Int),())) [] []) ?_
 refine ob_i trivial fun _=>lp_i trivial fun y1 i1=>Xct.leafY (S:=fOnce) (y1.fst==(0:Int),()) ?_
 all_goals
  try simp only[std0] at *
  try simp only[fBelow,fOnce,std,Nat.reduceAdd,szF,toF,eqF,mkF,heF] at *)
def E35:=E34.addX 29 fOnce
theorem E35ok:EOk Tryz.prog E35:=E34ok.addX k29_34
theorem getD_in {α:Type} [Inhabited α] {l:List α} {i:Nat} (h:i<l.length):l.getD i default∈l:=by
 rw[List.getD_eq_getElem?_getD,List.getElem?_eq_getElem h];exact List.getElem_mem _
def fIntL:Xct:=⟨[.u,.v (.sl .int)],[.el .int],fun(x_:Unit×(List Int)×Unit)=>0<x_.2.1.length∧x_.2.1.length≤256,fun(x_:Unit×(List Int)×Unit) (y_:Int×Unit)=>y_.1∈x_.2.1⟩
theorem k57_35:fIntL.ok Tryz.prog 57:=Xct.of (S:=fIntL) (L:=fun _ _=>none) (kp:=[0,1,4]) E35ok Tryz.func57 (by kernel_rfl) (by kernel_rfl) (by
 rintro⟨(c:PUnit),(l:List Int),_⟩ hp
 refine ho (.ob (fBelow.pre ((),(↑(List.length l):Int),()))<|.lp (Int×PUnit) (True) (fBelow.is ((),(↑(List.length l):Int),())) fun y1=>.ob ((0:Int)≤y1.fst∧y1.fst<(↑(List.length l):Int))<|.leaf (mkR fIntL.rs (List.getD l y1.fst.toNat default,())) [] []) ?_
 refine ob_i trivial fun _=>lp_i trivial fun y1 i1=>ob_i ?_ fun o2=>Xct.leafY (S:=fIntL) (List.getD l y1.fst.toNat default,()) ?_
 all_goals
  try simp only[std0] at *
  try simp only[fBelow,fIntL,std,Nat.reduceAdd,szF,toF,eqF,mkF,heF] at *
 all_goals first|trivial|omega|skip
 all_goals (refine getD_in ?_;omega))
def E36:=E35.addX 57 fIntL
theorem E36ok:EOk Tryz.prog E36:=E35ok.addX k57_35
def fStrL:Xct:=⟨[.u,.v (.sl .str)],[.el .str],fun(x_:Unit×(List ByteArray)×Unit)=>0<x_.2.1.length∧x_.2.1.length≤256∧x_.2.1.all (fun s=>decide (s.size≤30))=true,fun(x_:Unit×(List ByteArray)×Unit) (y_:ByteArray×Unit)=>y_.1.size≤30⟩
theorem k93_36:fStrL.ok Tryz.prog 93:=Xct.of (S:=fStrL) (L:=fun _ _=>none) (kp:=[0,1,4]) E36ok Tryz.func93 (by kernel_rfl) (by kernel_rfl) (by
 rintro⟨(c:PUnit),(l:List ByteArray),_⟩ hp
 refine ho (.ob (fBelow.pre ((),(↑(List.length l):Int),()))<|.lp (Int×PUnit) (True) (fBelow.is ((),(↑(List.length l):Int),())) fun y1=>.ob ((0:Int)≤y1.fst∧y1.fst<(↑(List.length l):Int))<|.leaf (mkR fStrL.rs (List.getD l y1.fst.toNat default,())) [] []) ?_
 refine ob_i trivial fun _=>lp_i trivial fun y1 i1=>ob_i ?_ fun o2=>Xct.leafY (S:=fStrL) (List.getD l y1.fst.toNat default,()) ?_
 all_goals
  try simp only[std0] at *
  try simp only[fBelow,fStrL,std,Nat.reduceAdd,szF,toF,eqF,mkF,heF] at *
 all_goals first|trivial|omega|skip
 have hm:=getD_in (i:=y1.fst.toNat) (l:=l) (by omega)
 simpa using List.all_eq_true.1 hp.2.2 _ hm)
def E37:=E36.addX 93 fStrL
theorem E37ok:EOk Tryz.prog E37:=E36ok.addX k93_36
def fBig:Fct:=⟨[.v (.sl .u8)],[.el .bool],fun(x_:(List Int)×Unit)=>True,fun(x_:(List Int)×Unit)=>(decide (1048576<x_.1.length),())⟩
theorem k5_37:fBig.ok Tryz.prog 5:=Fct.o [0,2] E37ok Tryz.func5 (by
 rintro⟨(l:List Int),_⟩ hp
 refine ho (.lf fBig (decide ((↑(List.length l):Int)>1048576),())) ?_
 refine lfY ?_
 all_goals
  try simp only[std0] at *
  try simp only[fBig,std,Nat.reduceAdd,szF,toF,eqF,mkF,heF,sameSize,ByteArray.size_append] at *
  try simp(disch:=omega) only[wrapId',toNat1] at *
  try simp(disch:=omega) only[if_pos,if_neg]
 all_goals first|trivial|omega|grind[wrapId',toNat1,drop_cons,drop_end,good_len,maxLen,sameSize,ByteArray.size_append])
def E38:=E37.add 5 fBig
theorem E38ok:EOk Tryz.prog E38:=E37ok.add k5_37
def fWord:Xct:=⟨[.u],[.el .str],fun(x_:Unit×Unit)=>True,fun(x_:Unit×Unit) (y_:ByteArray×Unit)=>y_.1.size≤30⟩
theorem k96_38:fWord.ok Tryz.prog 96:=Xct.of (S:=fWord) (L:=fun _ _=>none) (kp:=[0,2]) E38ok Tryz.func96 (by kernel_rfl) (by kernel_rfl) (by
 rintro⟨(c:PUnit),_⟩ hp
 refine ho (.ob (fStrL.pre ((),[{ data := #[(104:UInt8),(111:UInt8),(109:UInt8),(101:UInt8)]:ByteArray },{ data := #[(99:UInt8),(100:UInt8),(110:UInt8)]:ByteArray },{ data := #[(101:UInt8),(118:UInt8),(105:UInt8),(108:UInt8)]:ByteArray },{ data := #[(104:UInt8),(111:UInt8),(109:UInt8),(101:UInt8)]:ByteArray }],()))<|.lp (ByteArray×PUnit) (True) (fStrL.is ((),[{ data := #[(104:UInt8),(111:UInt8),(109:UInt8),(101:UInt8)]:ByteArray },{ data := #[(99:UInt8),(100:UInt8),(110:UInt8)]:ByteArray },{ data := #[(101:UInt8),(118:UInt8),(105:UInt8),(108:UInt8)]:ByteArray },{ data := #[(104:UInt8),(111:UInt8),(109:UInt8),(101:UInt8)]:ByteArray }],())) fun y2=>.leaf (mkR fWord.rs (y2.fst,())) [] []) ?_
 refine ob_i ?_ fun o1=>lp_i trivial fun y2 i2=>Xct.leafY (S:=fWord) (y2.fst,()) ?_
 all_goals first|trivial|(refine⟨?_,?_,?_⟩<;>decide)|skip
 all_goals
  try simp only[std0] at *
  try simp only[fStrL,fWord,std,Nat.reduceAdd,szF,toF,eqF,mkF,heF,sameSize,ByteArray.size_append] at *
  try simp(disch:=omega) only[wrapId',toNat1] at *
  try simp(disch:=omega) only[if_pos,if_neg]
 all_goals first|trivial|omega|grind[wrapId',toNat1,drop_cons,drop_end,good_len,maxLen,sameSize,ByteArray.size_append])
def E39:=E38.addX 96 fWord
theorem E39ok:EOk Tryz.prog E39:=E38ok.addX k96_38
theorem k71_39:fWord.ok Tryz.prog 71:=Xct.of (S:=fWord) (L:=fun _ _=>none) (kp:=[0,2]) E39ok Tryz.func71 (by kernel_rfl) (by kernel_rfl) (by
 rintro⟨(c:PUnit),_⟩ hp
 refine ho (.ob (fStrL.pre ((),[{ data := #[(105:UInt8),(110:UInt8),(100:UInt8),(101:UInt8),(120:UInt8)]:ByteArray },{ data := #[(97:UInt8),(112:UInt8),(112:UInt8)]:ByteArray },{ data := #[(115:UInt8),(116:UInt8),(121:UInt8),(108:UInt8),(101:UInt8)]:ByteArray },{ data := #[(108:UInt8),(105:UInt8),(98:UInt8)]:ByteArray },{ data := #[(108:UInt8),(111:UInt8),(103:UInt8),(111:UInt8)]:ByteArray },{ data := #[(110:UInt8),(101:UInt8),(120:UInt8),(116:UInt8)]:ByteArray },{ data := #[(117:UInt8),(116:UInt8),(105:UInt8),(108:UInt8)]:ByteArray }],()))<|.lp (ByteArray×PUnit) (True) (fStrL.is ((),[{ data := #[(105:UInt8),(110:UInt8),(100:UInt8),(101:UInt8),(120:UInt8)]:ByteArray },{ data := #[(97:UInt8),(112:UInt8),(112:UInt8)]:ByteArray },{ data := #[(115:UInt8),(116:UInt8),(121:UInt8),(108:UInt8),(101:UInt8)]:ByteArray },{ data := #[(108:UInt8),(105:UInt8),(98:UInt8)]:ByteArray },{ data := #[(108:UInt8),(111:UInt8),(103:UInt8),(111:UInt8)]:ByteArray },{ data := #[(110:UInt8),(101:UInt8),(120:UInt8),(116:UInt8)]:ByteArray },{ data := #[(117:UInt8),(116:UInt8),(105:UInt8),(108:UInt8)]:ByteArray }],())) fun y2=>.leaf (mkR fWord.rs (y2.fst,())) [] []) ?_
 refine ob_i ?_ fun o1=>lp_i trivial fun y2 i2=>Xct.leafY (S:=fWord) (y2.fst,()) ?_
 all_goals first|trivial|(refine⟨?_,?_,?_⟩<;>decide)|skip
 all_goals
  try simp only[std0] at *
  try simp only[fStrL,fWord,std,Nat.reduceAdd,szF,toF,eqF,mkF,heF,sameSize,ByteArray.size_append] at *
  try simp(disch:=omega) only[wrapId',toNat1] at *
  try simp(disch:=omega) only[if_pos,if_neg]
 all_goals first|trivial|omega|grind[wrapId',toNat1,drop_cons,drop_end,good_len,maxLen,sameSize,ByteArray.size_append])
def E40:=E39.addX 71 fWord
theorem E40ok:EOk Tryz.prog E40:=E39ok.addX k71_39
def fAddr:Xct:=⟨[.u],[.el .addr],fun(x_:Unit×Unit)=>True,fun(x_:Unit×Unit) (y_:SAddr×Unit)=>y_.1.host.size≤30∧y_.1.path.size≤30⟩
theorem k67_40:fAddr.ok Tryz.prog 67:=Xct.of (S:=fAddr) (L:=fun _ _=>none) (kp:=[0,2,3]) E40ok Tryz.func67 (by kernel_rfl) (by kernel_rfl) (by
 rintro⟨(c:PUnit),_⟩ hp
 refine ho (.ob (fWord.pre ((),()))<|.lp (ByteArray×PUnit) (True) (fWord.is ((),())) fun y1=>.ob (fWord.pre ((),()))<|.lp (ByteArray×PUnit) (True) (fWord.is ((),())) fun y2=>.leaf (mkR fAddr.rs (⟨y1.fst,y2.fst⟩,())) [] []) ?_
 refine ob_i trivial fun _=>lp_i trivial fun y1 i1=>ob_i trivial fun _=>lp_i trivial fun y2 i2=>Xct.leafY (S:=fAddr) (⟨y1.fst,y2.fst⟩,()) ?_
 all_goals
  try simp only[std0] at *
  try simp only[fAddr,fWord,std,Nat.reduceAdd,szF,toF,eqF,mkF,heF,sameSize,ByteArray.size_append] at *
  try simp(disch:=omega) only[wrapId',toNat1] at *
  try simp(disch:=omega) only[if_pos,if_neg]
 all_goals first|trivial|omega|grind[wrapId',toNat1,drop_cons,drop_end,good_len,maxLen,sameSize,ByteArray.size_append])
def E41:=E40.addX 67 fAddr
theorem E41ok:EOk Tryz.prog E41:=E40ok.addX k67_40
def fText8:Xct:=⟨[.u,.v (.el .int)],[.el .str],fun(x_:Unit×Int×Unit)=>0≤x_.2.1∧x_.2.1≤100,fun(x_:Unit×Int×Unit) (y_:ByteArray×Unit)=>y_.1.size≤31*x_.2.1+31⟩
abbrev W_spec_l8Text_fText8_3 (c:Unit) (most:Int):LInv:=⟨[⟨.s,5,true,.el .str⟩,⟨.s,6,true,.el .int⟩],fun _ (x_:ByteArray×Int×Unit)=>0≤x_.2.1∧x_.2.1≤most+1∧x_.1.size+31*x_.2.1≤31*most+31,fun(x_:ByteArray×Int×Unit)=>x_.2.1.toNat⟩
theorem k115_41:fText8.ok Tryz.prog 115:=Xct.of (S:=fText8) (L:=fun⟨c,most,_⟩=>fun|3=>some (W_spec_l8Text_fText8_3 c most)|_=>none) (kp:=[0,1,4,5,6,12,16,1000012,1000016]) E41ok Tryz.func115 (by kernel_rfl) (by kernel_rfl) (by
 rintro⟨(c:PUnit),(most:Int),_⟩ hp
 refine ho (.ob (fBelow.pre ((),most,()))<|.lp (Int×PUnit) (True) (fBelow.is ((),most,())) fun y1=>lpx (W_spec_l8Text_fText8_3 c most) ({ data := #[]:ByteArray },(IntKind.i64.wrap ((1:Int)+y1.fst),())) fun(y2:ByteArray×Int×PUnit) bk2=>.br (decide (y2.snd.fst>(0:Int))) (.br (!y2.fst.toList=={ data := #[]:ByteArray }.toList) (.ob (sameSize y2.fst { data := #[(59:UInt8)]:ByteArray })<|.ob (fStrL.pre ((),[{ data := #[(115:UInt8),(97:UInt8),(121:UInt8),(32:UInt8),(104:UInt8),(105:UInt8)]:ByteArray },{ data := #[(99:UInt8),(111:UInt8),(117:UInt8),(110:UInt8),(116:UInt8),(32:UInt8),(112:UInt8)]:ByteArray },{ data := #[(99:UInt8),(111:UInt8),(117:UInt8),(110:UInt8),(116:UInt8),(32:UInt8),(115:UInt8),(99:UInt8),(114:UInt8),(105:UInt8),(112:UInt8),(116:UInt8)]:ByteArray },{ data := #[(108:UInt8),(111:UInt8),(111:UInt8),(107:UInt8),(32:UInt8),(112:UInt8)]:ByteArray },{ data := #[(108:UInt8),(111:UInt8),(111:UInt8),(107:UInt8),(32:UInt8),(98:UInt8)]:ByteArray },{ data := #[(97:UInt8),(100:UInt8),(100:UInt8),(32:UInt8),(98:UInt8)]:ByteArray },{ data := #[(97:UInt8),(100:UInt8),(100:UInt8),(32:UInt8),(112:UInt8)]:ByteArray },{ data := #[(119:UInt8),(114:UInt8),(105:UInt8),(116:UInt8),(101:UInt8),(32:UInt8),(91:UInt8),(112:UInt8),(93:UInt8),(120:UInt8),(91:UInt8),(47:UInt8),(112:UInt8),(93:UInt8)]:ByteArray },{ data := #[(119:UInt8),(114:UInt8),(105:UInt8),(116:UInt8),(101:UInt8),(32:UInt8),(91:UInt8),(105:UInt8),(109:UInt8),(103:UInt8),(32:UInt8),(115:UInt8),(114:UInt8),(99:UInt8),(61:UInt8),(108:UInt8),(111:UInt8),(103:UInt8),(111:UInt8),(93:UInt8)]:ByteArray },{ data := #[(119:UInt8),(114:UInt8),(105:UInt8),(116:UInt8),(101:UInt8),(32:UInt8),(91:UInt8),(108:UInt8),(105:UInt8),(110:UInt8),(107:UInt8),(32:UInt8),(104:UInt8),(114:UInt8),(101:UInt8),(102:UInt8),(61:UInt8),(115:UInt8),(116:UInt8),(121:UInt8),(108:UInt8),(101:UInt8),(93:UInt8)]:ByteArray },{ data := #[(119:UInt8),(114:UInt8),(105:UInt8),(116:UInt8),(101:UInt8),(32:UInt8),(91:UInt8),(98:UInt8),(93:UInt8)]:ByteArray }],()))<|.lp (ByteArray×PUnit) (True) (fStrL.is ((),[{ data := #[(115:UInt8),(97:UInt8),(121:UInt8),(32:UInt8),(104:UInt8),(105:UInt8)]:ByteArray },{ data := #[(99:UInt8),(111:UInt8),(117:UInt8),(110:UInt8),(116:UInt8),(32:UInt8),(112:UInt8)]:ByteArray },{ data := #[(99:UInt8),(111:UInt8),(117:UInt8),(110:UInt8),(116:UInt8),(32:UInt8),(115:UInt8),(99:UInt8),(114:UInt8),(105:UInt8),(112:UInt8),(116:UInt8)]:ByteArray },{ data := #[(108:UInt8),(111:UInt8),(111:UInt8),(107:UInt8),(32:UInt8),(112:UInt8)]:ByteArray },{ data := #[(108:UInt8),(111:UInt8),(111:UInt8),(107:UInt8),(32:UInt8),(98:UInt8)]:ByteArray },{ data := #[(97:UInt8),(100:UInt8),(100:UInt8),(32:UInt8),(98:UInt8)]:ByteArray },{ data := #[(97:UInt8),(100:UInt8),(100:UInt8),(32:UInt8),(112:UInt8)]:ByteArray },{ data := #[(119:UInt8),(114:UInt8),(105:UInt8),(116:UInt8),(101:UInt8),(32:UInt8),(91:UInt8),(112:UInt8),(93:UInt8),(120:UInt8),(91:UInt8),(47:UInt8),(112:UInt8),(93:UInt8)]:ByteArray },{ data := #[(119:UInt8),(114:UInt8),(105:UInt8),(116:UInt8),(101:UInt8),(32:UInt8),(91:UInt8),(105:UInt8),(109:UInt8),(103:UInt8),(32:UInt8),(115:UInt8),(114:UInt8),(99:UInt8),(61:UInt8),(108:UInt8),(111:UInt8),(103:UInt8),(111:UInt8),(93:UInt8)]:ByteArray },{ data := #[(119:UInt8),(114:UInt8),(105:UInt8),(116:UInt8),(101:UInt8),(32:UInt8),(91:UInt8),(108:UInt8),(105:UInt8),(110:UInt8),(107:UInt8),(32:UInt8),(104:UInt8),(114:UInt8),(101:UInt8),(102:UInt8),(61:UInt8),(115:UInt8),(116:UInt8),(121:UInt8),(108:UInt8),(101:UInt8),(93:UInt8)]:ByteArray },{ data := #[(119:UInt8),(114:UInt8),(105:UInt8),(116:UInt8),(101:UInt8),(32:UInt8),(91:UInt8),(98:UInt8),(93:UInt8)]:ByteArray }],())) fun y7=>.ob (sameSize (y2.fst++{ data := #[(59:UInt8)]:ByteArray }) y7.fst)<|.ob (Value.int IntKind.i64 most=Value.int IntKind.i64 most)<|.ob (Value.string { data := #[]:ByteArray }=Value.string { data := #[]:ByteArray })<|.ob (bk2 (y2.fst++{ data := #[(59:UInt8)]:ByteArray }++y7.fst,(IntKind.i64.wrap (y2.snd.fst-(1:Int)),())))<|.ok) (.ob (fStrL.pre ((),[{ data := #[(115:UInt8),(97:UInt8),(121:UInt8),(32:UInt8),(104:UInt8),(105:UInt8)]:ByteArray },{ data := #[(99:UInt8),(111:UInt8),(117:UInt8),(110:UInt8),(116:UInt8),(32:UInt8),(112:UInt8)]:ByteArray },{ data := #[(99:UInt8),(111:UInt8),(117:UInt8),(110:UInt8),(116:UInt8),(32:UInt8),(115:UInt8),(99:UInt8),(114:UInt8),(105:UInt8),(112:UInt8),(116:UInt8)]:ByteArray },{ data := #[(108:UInt8),(111:UInt8),(111:UInt8),(107:UInt8),(32:UInt8),(112:UInt8)]:ByteArray },{ data := #[(108:UInt8),(111:UInt8),(111:UInt8),(107:UInt8),(32:UInt8),(98:UInt8)]:ByteArray },{ data := #[(97:UInt8),(100:UInt8),(100:UInt8),(32:UInt8),(98:UInt8)]:ByteArray },{ data := #[(97:UInt8),(100:UInt8),(100:UInt8),(32:UInt8),(112:UInt8)]:ByteArray },{ data := #[(119:UInt8),(114:UInt8),(105:UInt8),(116:UInt8),(101:UInt8),(32:UInt8),(91:UInt8),(112:UInt8),(93:UInt8),(120:UInt8),(91:UInt8),(47:UInt8),(112:UInt8),(93:UInt8)]:ByteArray },{ data := #[(119:UInt8),(114:UInt8),(105:UInt8),(116:UInt8),(101:UInt8),(32:UInt8),(91:UInt8),(105:UInt8),(109:UInt8),(103:UInt8),(32:UInt8),(115:UInt8),(114:UInt8),(99:UInt8),(61:UInt8),(108:UInt8),(111:UInt8),(103:UInt8),(111:UInt8),(93:UInt8)]:ByteArray },{ data := #[(119:UInt8),(114:UInt8),(105:UInt8),(116:UInt8),(101:UInt8),(32:UInt8),(91:UInt8),(108:UInt8),(105:UInt8),(110:UInt8),(107:UInt8),(32:UInt8),(104:UInt8),(114:UInt8),(101:UInt8),(102:UInt8),(61:UInt8),(115:UInt8),(116:UInt8),(121:UInt8),(108:UInt8),(101:UInt8),(93:UInt8)]:ByteArray },{ data := #[(119:UInt8),(114:UInt8),(105:UInt8),(116:UInt8),(101:UInt8),(32:UInt8),(91:UInt8),(98:UInt8),(93:UInt8)]:ByteArray }],()))<|.lp (ByteArray×PUnit) (True) (fStrL.is ((),[{ data := #[(115:UInt8),(97:UInt8),(121:UInt8),(32:UInt8),(104:UInt8),(105:UInt8)]:ByteArray },{ data := #[(99:UInt8),(111:UInt8),(117:UInt8),(110:UInt8),(116:UInt8),(32:UInt8),(112:UInt8)]:ByteArray },{ data := #[(99:UInt8),(111:UInt8),(117:UInt8),(110:UInt8),(116:UInt8),(32:UInt8),(115:UInt8),(99:UInt8),(114:UInt8),(105:UInt8),(112:UInt8),(116:UInt8)]:ByteArray },{ data := #[(108:UInt8),(111:UInt8),(111:UInt8),(107:UInt8),(32:UInt8),(112:UInt8)]:ByteArray },{ data := #[(108:UInt8),(111:UInt8),(111:UInt8),(107:UInt8),(32:UInt8),(98:UInt8)]:ByteArray },{ data := #[(97:UInt8),(100:UInt8),(100:UInt8),(32:UInt8),(98:UInt8)]:ByteArray },{ data := #[(97:UInt8),(100:UInt8),(100:UInt8),(32:UInt8),(112:UInt8)]:ByteArray },{ data := #[(119:UInt8),(114:UInt8),(105:UInt8),(116:UInt8),(101:UInt8),(32:UInt8),(91:UInt8),(112:UInt8),(93:UInt8),(120:UInt8),(91:UInt8),(47:UInt8),(112:UInt8),(93:UInt8)]:ByteArray },{ data := #[(119:UInt8),(114:UInt8),(105:UInt8),(116:UInt8),(101:UInt8),(32:UInt8),(91:UInt8),(105:UInt8),(109:UInt8),(103:UInt8),(32:UInt8),(115:UInt8),(114:UInt8),(99:UInt8),(61:UInt8),(108:UInt8),(111:UInt8),(103:UInt8),(111:UInt8),(93:UInt8)]:ByteArray },{ data := #[(119:UInt8),(114:UInt8),(105:UInt8),(116:UInt8),(101:UInt8),(32:UInt8),(91:UInt8),(108:UInt8),(105:UInt8),(110:UInt8),(107:UInt8),(32:UInt8),(104:UInt8),(114:UInt8),(101:UInt8),(102:UInt8),(61:UInt8),(115:UInt8),(116:UInt8),(121:UInt8),(108:UInt8),(101:UInt8),(93:UInt8)]:ByteArray },{ data := #[(119:UInt8),(114:UInt8),(105:UInt8),(116:UInt8),(101:UInt8),(32:UInt8),(91:UInt8),(98:UInt8),(93:UInt8)]:ByteArray }],())) fun y11=>.ob (sameSize y2.fst y11.fst)<|.ob (Value.int IntKind.i64 most=Value.int IntKind.i64 most)<|.ob (Value.string { data := #[]:ByteArray }=Value.string { data := #[]:ByteArray })<|.ob (bk2 (y2.fst++y11.fst,(IntKind.i64.wrap (y2.snd.fst-(1:Int)),())))<|.ok)) (.leaf (mkR fText8.rs (y2.fst,())) [] [])) ?_
 refine ob_i trivial fun _=>lp_i trivial fun y1 i1=>lpx_i ?_ fun(y2:ByteArray×Int×PUnit) i2=>br_i (fun h3=>br_i (fun h4=>ob_i ?_ fun o5=>ob_i ?_ fun o6=>lp_i trivial fun y7 i7=>ob_i ?_ fun o8=>ob_i rfl fun _=>ob_i rfl fun _=>ob_i ?_ fun o9=>trivial) (fun h4=>ob_i ?_ fun o10=>lp_i trivial fun y11 i11=>ob_i ?_ fun o12=>ob_i rfl fun _=>ob_i rfl fun _=>ob_i ?_ fun o13=>trivial)) (fun h3=>Xct.leafY (S:=fText8) (y2.fst,()) ?_)
 all_goals first|trivial|(refine⟨?_,?_,?_⟩<;>decide)|skip
 all_goals
  try simp only[std0] at *
  try simp only[W_spec_l8Text_fText8_3,fBelow,fStrL,fText8,std,Nat.reduceAdd,szF,toF,eqF,mkF,heF,sameSize,ByteArray.size_append] at *
  try simp(disch:=omega) only[wrapId',toNat1] at *
  try simp(disch:=omega) only[if_pos,if_neg]
 all_goals first|trivial|omega|grind[wrapId',toNat1,drop_cons,drop_end,good_len,maxLen,sameSize,ByteArray.size_append])
def E42:=E41.addX 115 fText8
theorem E42ok:EOk Tryz.prog E42:=E41ok.addX k115_41
def fText7:Xct:=⟨[.u],[.el .str],fun(x_:Unit×Unit)=>True,fun(x_:Unit×Unit) (y_:ByteArray×Unit)=>y_.1.size≤250⟩
abbrev W_spec_l7Text_fText7_3 (c:Unit):LInv:=⟨[⟨.s,3,true,.el .str⟩,⟨.s,4,true,.el .int⟩],fun _ (x_:ByteArray×Int×Unit)=>0≤x_.2.1∧x_.2.1≤3∧x_.1.size+70*x_.2.1≤250,fun(x_:ByteArray×Int×Unit)=>x_.2.1.toNat⟩
theorem k136_42:fText7.ok Tryz.prog 136:=Xct.of (S:=fText7) (L:=fun⟨c,_⟩=>fun|3=>some (W_spec_l7Text_fText7_3 c)|_=>none) (kp:=[0,2,3,4,8,1000008]) E42ok Tryz.func136 (by kernel_rfl) (by kernel_rfl) (by
 rintro⟨(c:PUnit),_⟩ hp
 refine ho (.ob (fBelow.pre ((),(4:Int),()))<|.lp (Int×PUnit) (True) (fBelow.is ((),(4:Int),())) fun y1=>lpx (W_spec_l7Text_fText7_3 c) ({ data := #[]:ByteArray },(y1.fst,())) fun(y2:ByteArray×Int×PUnit) bk2=>.br (decide (y2.snd.fst>(0:Int))) (.ob (fStrL.pre ((),[{ data := #[(112:UInt8)]:ByteArray },{ data := #[(98:UInt8)]:ByteArray },{ data := #[(112:UInt8),(97:UInt8),(103:UInt8),(101:UInt8)]:ByteArray },{ data := #[(80:UInt8)]:ByteArray },{ data := #[]:ByteArray }],()))<|.lp (ByteArray×PUnit) (True) (fStrL.is ((),[{ data := #[(112:UInt8)]:ByteArray },{ data := #[(98:UInt8)]:ByteArray },{ data := #[(112:UInt8),(97:UInt8),(103:UInt8),(101:UInt8)]:ByteArray },{ data := #[(80:UInt8)]:ByteArray },{ data := #[]:ByteArray }],())) fun y5=>.ob (sameSize y2.fst y5.fst)<|.ob (sameSize (y2.fst++y5.fst) { data := #[(58:UInt8)]:ByteArray })<|.ob (fStrL.pre ((),[{ data := #[(49:UInt8)]:ByteArray },{ data := #[(55:UInt8)]:ByteArray },{ data := #[(57:UInt8),(57:UInt8),(57:UInt8)]:ByteArray },{ data := #[(49:UInt8),(48:UInt8),(48:UInt8),(48:UInt8)]:ByteArray },{ data := #[(48:UInt8)]:ByteArray },{ data := #[(120:UInt8)]:ByteArray }],()))<|.lp (ByteArray×PUnit) (True) (fStrL.is ((),[{ data := #[(49:UInt8)]:ByteArray },{ data := #[(55:UInt8)]:ByteArray },{ data := #[(57:UInt8),(57:UInt8),(57:UInt8)]:ByteArray },{ data := #[(49:UInt8),(48:UInt8),(48:UInt8),(48:UInt8)]:ByteArray },{ data := #[(48:UInt8)]:ByteArray },{ data := #[(120:UInt8)]:ByteArray }],())) fun y9=>.ob (sameSize (y2.fst++y5.fst++{ data := #[(58:UInt8)]:ByteArray }) y9.fst)<|.ob (sameSize (y2.fst++y5.fst++{ data := #[(58:UInt8)]:ByteArray }++y9.fst) { data := #[(59:UInt8)]:ByteArray })<|.ob (Value.string { data := #[]:ByteArray }=Value.string { data := #[]:ByteArray })<|.ob (bk2 (y2.fst++y5.fst++{ data := #[(58:UInt8)]:ByteArray }++y9.fst++{ data := #[(59:UInt8)]:ByteArray },(IntKind.i64.wrap (y2.snd.fst-(1:Int)),())))<|.ok) (.leaf (mkR fText7.rs (y2.fst,())) [] [])) ?_
 refine ob_i trivial fun _=>lp_i trivial fun y1 i1=>lpx_i ?_ fun(y2:ByteArray×Int×PUnit) i2=>br_i (fun h3=>ob_i ?_ fun o4=>lp_i trivial fun y5 i5=>ob_i ?_ fun o6=>ob_i ?_ fun o7=>ob_i ?_ fun o8=>lp_i trivial fun y9 i9=>ob_i ?_ fun o10=>ob_i ?_ fun o11=>ob_i rfl fun _=>ob_i ?_ fun o12=>trivial) (fun h3=>Xct.leafY (S:=fText7) (y2.fst,()) ?_)
 all_goals first|trivial|(refine⟨?_,?_,?_⟩<;>decide)|skip
 all_goals
  try simp only[std0] at *
  try simp only[W_spec_l7Text_fText7_3,fBelow,fStrL,fText7,std,Nat.reduceAdd,szF,toF,eqF,mkF,heF,sameSize,ByteArray.size_append] at *
  try simp(disch:=omega) only[wrapId',toNat1] at *
  try simp(disch:=omega) only[if_pos,if_neg]
 all_goals first|trivial|omega|grind[wrapId',toNat1,drop_cons,drop_end,good_len,maxLen,sameSize,ByteArray.size_append])
def E43:=E42.addX 136 fText7
theorem E43ok:EOk Tryz.prog E43:=E42ok.addX k136_42
def fTag5:Xct:=⟨[.u],[.el .str],fun(x_:Unit×Unit)=>True,fun(x_:Unit×Unit) (y_:ByteArray×Unit)=>y_.1.size≤100⟩
theorem k171_43:fTag5.ok Tryz.prog 171:=Xct.of (S:=fTag5) (L:=fun _ _=>none) (kp:=[0,2,4,5,11,17,28,34,40,1000005,1000011,1000017,1000028,1000034,1000040]) E43ok Tryz.func171 (by kernel_rfl) (by kernel_rfl) (by
 rintro⟨(c:PUnit),_⟩ hp
 refine ho (.ob (fBelow.pre ((),(8:Int),()))<|.lp (Int×PUnit) (True) (fBelow.is ((),(8:Int),())) fun y1=>.br (y1.fst==(0:Int)) (.ob (fStrL.pre ((),[{ data := #[(112:UInt8)]:ByteArray },{ data := #[(98:UInt8)]:ByteArray },{ data := #[(115:UInt8),(99:UInt8),(114:UInt8),(105:UInt8),(112:UInt8),(116:UInt8)]:ByteArray },{ data := #[(112:UInt8),(97:UInt8),(103:UInt8),(101:UInt8)]:ByteArray }],()))<|.lp (ByteArray×PUnit) (True) (fStrL.is ((),[{ data := #[(112:UInt8)]:ByteArray },{ data := #[(98:UInt8)]:ByteArray },{ data := #[(115:UInt8),(99:UInt8),(114:UInt8),(105:UInt8),(112:UInt8),(116:UInt8)]:ByteArray },{ data := #[(112:UInt8),(97:UInt8),(103:UInt8),(101:UInt8)]:ByteArray }],())) fun y4=>.ob (sameSize { data := #[(47:UInt8)]:ByteArray } y4.fst)<|.leaf (mkR fTag5.rs ({ data := #[(47:UInt8)]:ByteArray }++y4.fst,())) [] []) (.br (y1.fst==(1:Int)) (.ob (fStrL.pre ((),[{ data := #[(97:UInt8),(112:UInt8),(112:UInt8)]:ByteArray },{ data := #[(99:UInt8),(100:UInt8),(110:UInt8),(47:UInt8),(108:UInt8),(105:UInt8),(98:UInt8)]:ByteArray },{ data := #[(108:UInt8),(105:UInt8),(98:UInt8)]:ByteArray },{ data := #[(101:UInt8),(118:UInt8),(105:UInt8),(108:UInt8),(47:UInt8),(97:UInt8),(112:UInt8),(112:UInt8)]:ByteArray }],()))<|.lp (ByteArray×PUnit) (True) (fStrL.is ((),[{ data := #[(97:UInt8),(112:UInt8),(112:UInt8)]:ByteArray },{ data := #[(99:UInt8),(100:UInt8),(110:UInt8),(47:UInt8),(108:UInt8),(105:UInt8),(98:UInt8)]:ByteArray },{ data := #[(108:UInt8),(105:UInt8),(98:UInt8)]:ByteArray },{ data := #[(101:UInt8),(118:UInt8),(105:UInt8),(108:UInt8),(47:UInt8),(97:UInt8),(112:UInt8),(112:UInt8)]:ByteArray }],())) fun y8=>.ob (sameSize { data := #[(115:UInt8),(99:UInt8),(114:UInt8),(105:UInt8),(112:UInt8),(116:UInt8),(32:UInt8),(115:UInt8),(114:UInt8),(99:UInt8),(61:UInt8)]:ByteArray } y8.fst)<|.leaf (mkR fTag5.rs ({ data := #[(115:UInt8),(99:UInt8),(114:UInt8),(105:UInt8),(112:UInt8),(116:UInt8),(32:UInt8),(115:UInt8),(114:UInt8),(99:UInt8),(61:UInt8)]:ByteArray }++y8.fst,())) [] []) (.br (y1.fst==(2:Int)) (.ob (fStrL.pre ((),[{ data := #[(97:UInt8),(112:UInt8),(112:UInt8)]:ByteArray },{ data := #[(117:UInt8),(116:UInt8),(105:UInt8),(108:UInt8)]:ByteArray }],()))<|.lp (ByteArray×PUnit) (True) (fStrL.is ((),[{ data := #[(97:UInt8),(112:UInt8),(112:UInt8)]:ByteArray },{ data := #[(117:UInt8),(116:UInt8),(105:UInt8),(108:UInt8)]:ByteArray }],())) fun y12=>.ob (sameSize { data := #[(115:UInt8),(99:UInt8),(114:UInt8),(105:UInt8),(112:UInt8),(116:UInt8),(32:UInt8),(115:UInt8),(114:UInt8),(99:UInt8),(61:UInt8)]:ByteArray } y12.fst)<|.ob (sameSize ({ data := #[(115:UInt8),(99:UInt8),(114:UInt8),(105:UInt8),(112:UInt8),(116:UInt8),(32:UInt8),(115:UInt8),(114:UInt8),(99:UInt8),(61:UInt8)]:ByteArray }++y12.fst) { data := #[(32:UInt8),(107:UInt8),(105:UInt8),(110:UInt8),(100:UInt8),(61:UInt8)]:ByteArray })<|.ob (fStrL.pre ((),[{ data := #[(100:UInt8),(101:UInt8),(102:UInt8),(101:UInt8),(114:UInt8)]:ByteArray },{ data := #[(109:UInt8),(111:UInt8),(100:UInt8),(117:UInt8),(108:UInt8),(101:UInt8)]:ByteArray }],()))<|.lp (ByteArray×PUnit) (True) (fStrL.is ((),[{ data := #[(100:UInt8),(101:UInt8),(102:UInt8),(101:UInt8),(114:UInt8)]:ByteArray },{ data := #[(109:UInt8),(111:UInt8),(100:UInt8),(117:UInt8),(108:UInt8),(101:UInt8)]:ByteArray }],())) fun y16=>.ob (sameSize ({ data := #[(115:UInt8),(99:UInt8),(114:UInt8),(105:UInt8),(112:UInt8),(116:UInt8),(32:UInt8),(115:UInt8),(114:UInt8),(99:UInt8),(61:UInt8)]:ByteArray }++y12.fst++{ data := #[(32:UInt8),(107:UInt8),(105:UInt8),(110:UInt8),(100:UInt8),(61:UInt8)]:ByteArray }) y16.fst)<|.leaf (mkR fTag5.rs ({ data := #[(115:UInt8),(99:UInt8),(114:UInt8),(105:UInt8),(112:UInt8),(116:UInt8),(32:UInt8),(115:UInt8),(114:UInt8),(99:UInt8),(61:UInt8)]:ByteArray }++y12.fst++{ data := #[(32:UInt8),(107:UInt8),(105:UInt8),(110:UInt8),(100:UInt8),(61:UInt8)]:ByteArray }++y16.fst,())) [] []) (.br (y1.fst==(3:Int)) (.ob (fStrL.pre ((),[{ data := #[(108:UInt8),(111:UInt8),(103:UInt8),(111:UInt8)]:ByteArray },{ data := #[(99:UInt8),(100:UInt8),(110:UInt8),(47:UInt8),(108:UInt8),(111:UInt8),(103:UInt8),(111:UInt8)]:ByteArray }],()))<|.lp (ByteArray×PUnit) (True) (fStrL.is ((),[{ data := #[(108:UInt8),(111:UInt8),(103:UInt8),(111:UInt8)]:ByteArray },{ data := #[(99:UInt8),(100:UInt8),(110:UInt8),(47:UInt8),(108:UInt8),(111:UInt8),(103:UInt8),(111:UInt8)]:ByteArray }],())) fun y20=>.ob (sameSize { data := #[(105:UInt8),(109:UInt8),(103:UInt8),(32:UInt8),(115:UInt8),(114:UInt8),(99:UInt8),(61:UInt8)]:ByteArray } y20.fst)<|.leaf (mkR fTag5.rs ({ data := #[(105:UInt8),(109:UInt8),(103:UInt8),(32:UInt8),(115:UInt8),(114:UInt8),(99:UInt8),(61:UInt8)]:ByteArray }++y20.fst,())) [] []) (.br (y1.fst==(4:Int)) (.ob (fStrL.pre ((),[{ data := #[(115:UInt8),(116:UInt8),(121:UInt8),(108:UInt8),(101:UInt8)]:ByteArray },{ data := #[(99:UInt8),(100:UInt8),(110:UInt8),(47:UInt8),(115:UInt8),(116:UInt8),(121:UInt8),(108:UInt8),(101:UInt8)]:ByteArray }],()))<|.lp (ByteArray×PUnit) (True) (fStrL.is ((),[{ data := #[(115:UInt8),(116:UInt8),(121:UInt8),(108:UInt8),(101:UInt8)]:ByteArray },{ data := #[(99:UInt8),(100:UInt8),(110:UInt8),(47:UInt8),(115:UInt8),(116:UInt8),(121:UInt8),(108:UInt8),(101:UInt8)]:ByteArray }],())) fun y24=>.ob (sameSize { data := #[(108:UInt8),(105:UInt8),(110:UInt8),(107:UInt8),(32:UInt8),(104:UInt8),(114:UInt8),(101:UInt8),(102:UInt8),(61:UInt8)]:ByteArray } y24.fst)<|.leaf (mkR fTag5.rs ({ data := #[(108:UInt8),(105:UInt8),(110:UInt8),(107:UInt8),(32:UInt8),(104:UInt8),(114:UInt8),(101:UInt8),(102:UInt8),(61:UInt8)]:ByteArray }++y24.fst,())) [] []) (.br (y1.fst==(5:Int)) (.ob (fStrL.pre ((),[{ data := #[(112:UInt8),(32:UInt8),(97:UInt8),(61:UInt8),(98:UInt8)]:ByteArray },{ data := #[]:ByteArray },{ data := #[(80:UInt8)]:ByteArray },{ data := #[(112:UInt8),(32:UInt8),(97:UInt8)]:ByteArray },{ data := #[(112:UInt8),(32:UInt8),(97:UInt8),(61:UInt8)]:ByteArray },{ data := #[(112:UInt8),(32:UInt8),(32:UInt8),(97:UInt8),(61:UInt8),(98:UInt8)]:ByteArray },{ data := #[(112:UInt8),(32:UInt8),(97:UInt8),(61:UInt8),(98:UInt8),(32:UInt8),(97:UInt8),(61:UInt8),(99:UInt8)]:ByteArray },{ data := #[(112:UInt8),(32:UInt8),(97:UInt8),(61:UInt8),(98:UInt8),(32:UInt8),(98:UInt8),(61:UInt8),(99:UInt8),(32:UInt8),(99:UInt8),(61:UInt8),(100:UInt8),(32:UInt8),(100:UInt8),(61:UInt8),(101:UInt8),(32:UInt8),(101:UInt8),(61:UInt8),(102:UInt8)]:ByteArray },{ data := #[(47:UInt8)]:ByteArray },{ data := #[(112:UInt8),(32:UInt8),(97:UInt8),(61:UInt8),(98:UInt8),(61:UInt8),(99:UInt8)]:ByteArray }],()))<|.lp (ByteArray×PUnit) (True) (fStrL.is ((),[{ data := #[(112:UInt8),(32:UInt8),(97:UInt8),(61:UInt8),(98:UInt8)]:ByteArray },{ data := #[]:ByteArray },{ data := #[(80:UInt8)]:ByteArray },{ data := #[(112:UInt8),(32:UInt8),(97:UInt8)]:ByteArray },{ data := #[(112:UInt8),(32:UInt8),(97:UInt8),(61:UInt8)]:ByteArray },{ data := #[(112:UInt8),(32:UInt8),(32:UInt8),(97:UInt8),(61:UInt8),(98:UInt8)]:ByteArray },{ data := #[(112:UInt8),(32:UInt8),(97:UInt8),(61:UInt8),(98:UInt8),(32:UInt8),(97:UInt8),(61:UInt8),(99:UInt8)]:ByteArray },{ data := #[(112:UInt8),(32:UInt8),(97:UInt8),(61:UInt8),(98:UInt8),(32:UInt8),(98:UInt8),(61:UInt8),(99:UInt8),(32:UInt8),(99:UInt8),(61:UInt8),(100:UInt8),(32:UInt8),(100:UInt8),(61:UInt8),(101:UInt8),(32:UInt8),(101:UInt8),(61:UInt8),(102:UInt8)]:ByteArray },{ data := #[(47:UInt8)]:ByteArray },{ data := #[(112:UInt8),(32:UInt8),(97:UInt8),(61:UInt8),(98:UInt8),(61:UInt8),(99:UInt8)]:ByteArray }],())) fun y28=>.leaf (mkR fTag5.rs (y28.fst,())) [] []) (.ob (fStrL.pre ((),[{ data := #[(112:UInt8)]:ByteArray },{ data := #[(98:UInt8)]:ByteArray },{ data := #[(112:UInt8),(97:UInt8),(103:UInt8),(101:UInt8)]:ByteArray },{ data := #[(115:UInt8),(99:UInt8),(114:UInt8),(105:UInt8),(112:UInt8),(116:UInt8)]:ByteArray }],()))<|.lp (ByteArray×PUnit) (True) (fStrL.is ((),[{ data := #[(112:UInt8)]:ByteArray },{ data := #[(98:UInt8)]:ByteArray },{ data := #[(112:UInt8),(97:UInt8),(103:UInt8),(101:UInt8)]:ByteArray },{ data := #[(115:UInt8),(99:UInt8),(114:UInt8),(105:UInt8),(112:UInt8),(116:UInt8)]:ByteArray }],())) fun y30=>.leaf (mkR fTag5.rs (y30.fst,())) [] []))))))) ?_
 refine ob_i trivial fun _=>lp_i trivial fun y1 i1=>br_i (fun h2=>ob_i ?_ fun o3=>lp_i trivial fun y4 i4=>ob_i ?_ fun o5=>Xct.leafY (S:=fTag5) ({ data := #[(47:UInt8)]:ByteArray }++y4.fst,()) ?_) (fun h2=>br_i (fun h6=>ob_i ?_ fun o7=>lp_i trivial fun y8 i8=>ob_i ?_ fun o9=>Xct.leafY (S:=fTag5) ({ data := #[(115:UInt8),(99:UInt8),(114:UInt8),(105:UInt8),(112:UInt8),(116:UInt8),(32:UInt8),(115:UInt8),(114:UInt8),(99:UInt8),(61:UInt8)]:ByteArray }++y8.fst,()) ?_) (fun h6=>br_i (fun h10=>ob_i ?_ fun o11=>lp_i trivial fun y12 i12=>ob_i ?_ fun o13=>ob_i ?_ fun o14=>ob_i ?_ fun o15=>lp_i trivial fun y16 i16=>ob_i ?_ fun o17=>Xct.leafY (S:=fTag5) ({ data := #[(115:UInt8),(99:UInt8),(114:UInt8),(105:UInt8),(112:UInt8),(116:UInt8),(32:UInt8),(115:UInt8),(114:UInt8),(99:UInt8),(61:UInt8)]:ByteArray }++y12.fst++{ data := #[(32:UInt8),(107:UInt8),(105:UInt8),(110:UInt8),(100:UInt8),(61:UInt8)]:ByteArray }++y16.fst,()) ?_) (fun h10=>br_i (fun h18=>ob_i ?_ fun o19=>lp_i trivial fun y20 i20=>ob_i ?_ fun o21=>Xct.leafY (S:=fTag5) ({ data := #[(105:UInt8),(109:UInt8),(103:UInt8),(32:UInt8),(115:UInt8),(114:UInt8),(99:UInt8),(61:UInt8)]:ByteArray }++y20.fst,()) ?_) (fun h18=>br_i (fun h22=>ob_i ?_ fun o23=>lp_i trivial fun y24 i24=>ob_i ?_ fun o25=>Xct.leafY (S:=fTag5) ({ data := #[(108:UInt8),(105:UInt8),(110:UInt8),(107:UInt8),(32:UInt8),(104:UInt8),(114:UInt8),(101:UInt8),(102:UInt8),(61:UInt8)]:ByteArray }++y24.fst,()) ?_) (fun h22=>br_i (fun h26=>ob_i ?_ fun o27=>lp_i trivial fun y28 i28=>Xct.leafY (S:=fTag5) (y28.fst,()) ?_) (fun h26=>ob_i ?_ fun o29=>lp_i trivial fun y30 i30=>Xct.leafY (S:=fTag5) (y30.fst,()) ?_))))))
 all_goals first|trivial|(refine⟨?_,?_,?_⟩<;>decide)|skip
 all_goals
  try simp only[std0] at *
  try simp only[fBelow,fStrL,fTag5,std,Nat.reduceAdd,szF,toF,eqF,mkF,heF,sameSize,ByteArray.size_append] at *
  try simp(disch:=omega) only[wrapId',toNat1] at *
  try simp(disch:=omega) only[if_pos,if_neg]
 all_goals first|trivial|omega|grind[wrapId',toNat1,drop_cons,drop_end,good_len,maxLen,sameSize,ByteArray.size_append])
def E44:=E43.addX 171 fTag5
theorem E44ok:EOk Tryz.prog E44:=E43ok.addX k171_43
def fPage5:Xct:=⟨[.u,.v (.el .int)],[.el .str],fun(x_:Unit×Int×Unit)=>0≤x_.2.1∧x_.2.1≤1000,fun(x_:Unit×Int×Unit) (y_:ByteArray×Unit)=>y_.1.size≤110*x_.2.1+200⟩
abbrev W_spec_l5Page_fPage5_3 (c:Unit) (most:Int):LInv:=⟨[⟨.s,5,true,.el .str⟩,⟨.s,6,true,.el .int⟩],fun _ (x_:ByteArray×Int×Unit)=>0≤x_.2.1∧x_.2.1≤most+1∧x_.1.size+110*x_.2.1≤110*most+110,fun(x_:ByteArray×Int×Unit)=>x_.2.1.toNat⟩
theorem k137_44:fPage5.ok Tryz.prog 137:=Xct.of (S:=fPage5) (L:=fun⟨c,most,_⟩=>fun|3=>some (W_spec_l5Page_fPage5_3 c most)|_=>none) (kp:=[0,1,4,5,6,12,16,29,1000012,1000016,1000029]) E44ok Tryz.func137 (by kernel_rfl) (by kernel_rfl) (by
 rintro⟨(c:PUnit),(most:Int),_⟩ hp
 refine ho (.ob (fBelow.pre ((),IntKind.i64.wrap (most+(1:Int)),()))<|.lp (Int×PUnit) (True) (fBelow.is ((),IntKind.i64.wrap (most+(1:Int)),())) fun y1=>lpx (W_spec_l5Page_fPage5_3 c most) ({ data := #[]:ByteArray },(y1.fst,())) fun(y2:ByteArray×Int×PUnit) bk2=>.br (decide (y2.snd.fst>(0:Int))) (.ob (fOnce.pre ((),(3:Int),()))<|.lp (Bool×PUnit) (True) (fOnce.is ((),(3:Int),())) fun y4=>.br (y4.fst) (.ob (fStrL.pre ((),[{ data := #[(104:UInt8),(105:UInt8)]:ByteArray },{ data := #[(97:UInt8),(32:UInt8),(98:UInt8)]:ByteArray },{ data := #[(99:UInt8),(111:UInt8),(117:UInt8),(110:UInt8),(116:UInt8)]:ByteArray },{ data := #[(120:UInt8),(62:UInt8),(121:UInt8)]:ByteArray },{ data := #[]:ByteArray }],()))<|.lp (ByteArray×PUnit) (True) (fStrL.is ((),[{ data := #[(104:UInt8),(105:UInt8)]:ByteArray },{ data := #[(97:UInt8),(32:UInt8),(98:UInt8)]:ByteArray },{ data := #[(99:UInt8),(111:UInt8),(117:UInt8),(110:UInt8),(116:UInt8)]:ByteArray },{ data := #[(120:UInt8),(62:UInt8),(121:UInt8)]:ByteArray },{ data := #[]:ByteArray }],())) fun y7=>.ob (sameSize y2.fst y7.fst)<|.ob (Value.int IntKind.i64 most=Value.int IntKind.i64 most)<|.ob (Value.string { data := #[]:ByteArray }=Value.string { data := #[]:ByteArray })<|.ob (bk2 (y2.fst++y7.fst,(IntKind.i64.wrap (y2.snd.fst-(1:Int)),())))<|.ok) (.ob (sameSize y2.fst { data := #[(60:UInt8)]:ByteArray })<|.ob (fTag5.pre ((),()))<|.lp (ByteArray×PUnit) (True) (fTag5.is ((),())) fun y11=>.ob (sameSize (y2.fst++{ data := #[(60:UInt8)]:ByteArray }) y11.fst)<|.ob (sameSize (y2.fst++{ data := #[(60:UInt8)]:ByteArray }++y11.fst) { data := #[(62:UInt8)]:ByteArray })<|.ob (Value.int IntKind.i64 most=Value.int IntKind.i64 most)<|.ob (Value.string { data := #[]:ByteArray }=Value.string { data := #[]:ByteArray })<|.ob (bk2 (y2.fst++{ data := #[(60:UInt8)]:ByteArray }++y11.fst++{ data := #[(62:UInt8)]:ByteArray },(IntKind.i64.wrap (y2.snd.fst-(1:Int)),())))<|.ok)) (.ob (fOnce.pre ((),(6:Int),()))<|.lp (Bool×PUnit) (True) (fOnce.is ((),(6:Int),())) fun y15=>.br (y15.fst) (.ob (fStrL.pre ((),[{ data := #[(60:UInt8),(112:UInt8)]:ByteArray },{ data := #[(60:UInt8)]:ByteArray },{ data := #[(101:UInt8),(110:UInt8),(100:UInt8)]:ByteArray }],()))<|.lp (ByteArray×PUnit) (True) (fStrL.is ((),[{ data := #[(60:UInt8),(112:UInt8)]:ByteArray },{ data := #[(60:UInt8)]:ByteArray },{ data := #[(101:UInt8),(110:UInt8),(100:UInt8)]:ByteArray }],())) fun y18=>.ob (sameSize y2.fst y18.fst)<|.leaf (mkR fPage5.rs (y2.fst++y18.fst,())) [] []) (.leaf (mkR fPage5.rs (y2.fst,())) [] []))) ?_
 refine ob_i trivial fun _=>lp_i trivial fun y1 i1=>lpx_i ?_ fun(y2:ByteArray×Int×PUnit) i2=>br_i (fun h3=>ob_i trivial fun _=>lp_i trivial fun y4 i4=>br_i (fun h5=>ob_i ?_ fun o6=>lp_i trivial fun y7 i7=>ob_i ?_ fun o8=>ob_i rfl fun _=>ob_i rfl fun _=>ob_i ?_ fun o9=>trivial) (fun h5=>ob_i ?_ fun o10=>ob_i trivial fun _=>lp_i trivial fun y11 i11=>ob_i ?_ fun o12=>ob_i ?_ fun o13=>ob_i rfl fun _=>ob_i rfl fun _=>ob_i ?_ fun o14=>trivial)) (fun h3=>ob_i trivial fun _=>lp_i trivial fun y15 i15=>br_i (fun h16=>ob_i ?_ fun o17=>lp_i trivial fun y18 i18=>ob_i ?_ fun o19=>Xct.leafY (S:=fPage5) (y2.fst++y18.fst,()) ?_) (fun h16=>Xct.leafY (S:=fPage5) (y2.fst,()) ?_))
 all_goals first|trivial|(refine⟨?_,?_,?_⟩<;>decide)|skip
 all_goals
  try simp only[std0] at *
  try simp only[W_spec_l5Page_fPage5_3,fBelow,fOnce,fPage5,fStrL,fTag5,std,Nat.reduceAdd,szF,toF,eqF,mkF,heF,sameSize,ByteArray.size_append] at *
  try simp(disch:=omega) only[wrapId',toNat1] at *
  try simp(disch:=omega) only[if_pos,if_neg]
 all_goals first|trivial|omega|grind[wrapId',toNat1,drop_cons,drop_end,good_len,maxLen,sameSize,ByteArray.size_append])
def E45:=E44.addX 137 fPage5
theorem E45ok:EOk Tryz.prog E45:=E44ok.addX k137_44
def fBody10:Xct:=⟨[.u,.v (.el .int)],[.el .str],fun(x_:Unit×Int×Unit)=>True,fun(x_:Unit×Int×Unit) (y_:ByteArray×Unit)=>y_.1.size≤2000⟩
theorem k110_45:fBody10.ok Tryz.prog 110:=Xct.of (S:=fBody10) (L:=fun _ _=>none) (kp:=[0,1,4,5,6,10,14,23,1000006,1000010,1000014,1000023]) E45ok Tryz.func110 (by kernel_rfl) (by kernel_rfl) (by
 rintro⟨(c:PUnit),(k:Int),_⟩ hp
 refine ho (.br (k==(2:Int)) (.ob (fText8.pre ((),(3:Int),()))<|.lp (ByteArray×PUnit) (True) (fText8.is ((),(3:Int),())) fun y3=>.leaf (mkR fBody10.rs (y3.fst,())) [] []) (.br (k==(3:Int)) (.ob (fText7.pre ((),()))<|.lp (ByteArray×PUnit) (True) (fText7.is ((),())) fun y5=>.leaf (mkR fBody10.rs (y5.fst,())) [] []) (.br (k==(5:Int)) (.ob (fStrL.pre ((),[{ data := #[]:ByteArray },{ data := #[(105:UInt8),(109:UInt8),(112:UInt8),(111:UInt8),(114:UInt8),(116:UInt8),(32:UInt8),(117:UInt8),(116:UInt8),(105:UInt8),(108:UInt8),(59:UInt8)]:ByteArray },{ data := #[(105:UInt8),(109:UInt8),(112:UInt8),(111:UInt8),(114:UInt8),(116:UInt8),(32:UInt8),(108:UInt8),(105:UInt8),(98:UInt8),(59:UInt8)]:ByteArray },{ data := #[(105:UInt8),(109:UInt8),(112:UInt8),(111:UInt8),(114:UInt8),(116:UInt8),(32:UInt8),(99:UInt8),(100:UInt8),(110:UInt8),(47:UInt8),(108:UInt8),(105:UInt8),(98:UInt8),(59:UInt8)]:ByteArray },{ data := #[(105:UInt8),(109:UInt8),(112:UInt8),(111:UInt8),(114:UInt8),(116:UInt8),(32:UInt8),(97:UInt8),(112:UInt8),(112:UInt8),(59:UInt8),(105:UInt8),(109:UInt8),(112:UInt8),(111:UInt8),(114:UInt8),(116:UInt8),(32:UInt8),(117:UInt8),(116:UInt8),(105:UInt8),(108:UInt8),(59:UInt8)]:ByteArray }],()))<|.lp (ByteArray×PUnit) (True) (fStrL.is ((),[{ data := #[]:ByteArray },{ data := #[(105:UInt8),(109:UInt8),(112:UInt8),(111:UInt8),(114:UInt8),(116:UInt8),(32:UInt8),(117:UInt8),(116:UInt8),(105:UInt8),(108:UInt8),(59:UInt8)]:ByteArray },{ data := #[(105:UInt8),(109:UInt8),(112:UInt8),(111:UInt8),(114:UInt8),(116:UInt8),(32:UInt8),(108:UInt8),(105:UInt8),(98:UInt8),(59:UInt8)]:ByteArray },{ data := #[(105:UInt8),(109:UInt8),(112:UInt8),(111:UInt8),(114:UInt8),(116:UInt8),(32:UInt8),(99:UInt8),(100:UInt8),(110:UInt8),(47:UInt8),(108:UInt8),(105:UInt8),(98:UInt8),(59:UInt8)]:ByteArray },{ data := #[(105:UInt8),(109:UInt8),(112:UInt8),(111:UInt8),(114:UInt8),(116:UInt8),(32:UInt8),(97:UInt8),(112:UInt8),(112:UInt8),(59:UInt8),(105:UInt8),(109:UInt8),(112:UInt8),(111:UInt8),(114:UInt8),(116:UInt8),(32:UInt8),(117:UInt8),(116:UInt8),(105:UInt8),(108:UInt8),(59:UInt8)]:ByteArray }],())) fun y8=>.ob (fStrL.pre ((),[{ data := #[(115:UInt8),(97:UInt8),(121:UInt8),(32:UInt8),(109:UInt8)]:ByteArray },{ data := #[(99:UInt8),(111:UInt8),(117:UInt8),(110:UInt8),(116:UInt8),(32:UInt8),(112:UInt8)]:ByteArray },{ data := #[(97:UInt8),(100:UInt8),(100:UInt8),(32:UInt8),(98:UInt8)]:ByteArray },{ data := #[(108:UInt8),(111:UInt8),(111:UInt8),(107:UInt8),(32:UInt8),(112:UInt8)]:ByteArray }],()))<|.lp (ByteArray×PUnit) (True) (fStrL.is ((),[{ data := #[(115:UInt8),(97:UInt8),(121:UInt8),(32:UInt8),(109:UInt8)]:ByteArray },{ data := #[(99:UInt8),(111:UInt8),(117:UInt8),(110:UInt8),(116:UInt8),(32:UInt8),(112:UInt8)]:ByteArray },{ data := #[(97:UInt8),(100:UInt8),(100:UInt8),(32:UInt8),(98:UInt8)]:ByteArray },{ data := #[(108:UInt8),(111:UInt8),(111:UInt8),(107:UInt8),(32:UInt8),(112:UInt8)]:ByteArray }],())) fun y10=>.ob (sameSize y8.fst y10.fst)<|.leaf (mkR fBody10.rs (y8.fst++y10.fst,())) [] []) (.br (k==(4:Int)) (.leaf (mkR fBody10.rs ({ data := #[(112:UInt8),(105:UInt8),(120:UInt8),(101:UInt8),(108:UInt8),(115:UInt8)]:ByteArray },())) [] []) (.ob (fPage5.pre ((),(8:Int),()))<|.lp (ByteArray×PUnit) (True) (fPage5.is ((),(8:Int),())) fun y14=>.leaf (mkR fBody10.rs (y14.fst,())) [] []))))) ?_
 refine br_i (fun h1=>ob_i ?_ fun o2=>lp_i trivial fun y3 i3=>Xct.leafY (S:=fBody10) (y3.fst,()) ?_) (fun h1=>br_i (fun h4=>ob_i trivial fun _=>lp_i trivial fun y5 i5=>Xct.leafY (S:=fBody10) (y5.fst,()) ?_) (fun h4=>br_i (fun h6=>ob_i ?_ fun o7=>lp_i trivial fun y8 i8=>ob_i ?_ fun o9=>lp_i trivial fun y10 i10=>ob_i ?_ fun o11=>Xct.leafY (S:=fBody10) (y8.fst++y10.fst,()) ?_) (fun h6=>br_i (fun h12=>Xct.leafY (S:=fBody10) ({ data := #[(112:UInt8),(105:UInt8),(120:UInt8),(101:UInt8),(108:UInt8),(115:UInt8)]:ByteArray },()) ?_) (fun h12=>ob_i ?_ fun o13=>lp_i trivial fun y14 i14=>Xct.leafY (S:=fBody10) (y14.fst,()) ?_))))
 all_goals first|trivial|(refine⟨?_,?_,?_⟩<;>decide)|skip
 all_goals
  try simp only[std0] at *
  try simp only[fBody10,fPage5,fStrL,fText7,fText8,std,Nat.reduceAdd,szF,toF,eqF,mkF,heF,sameSize,ByteArray.size_append] at *
  try simp(disch:=omega) only[wrapId',toNat1] at *
  try simp(disch:=omega) only[if_pos,if_neg]
 all_goals first|trivial|omega|grind[wrapId',toNat1,drop_cons,drop_end,good_len,maxLen,sameSize,ByteArray.size_append])
def E46:=E45.addX 110 fBody10
theorem E46ok:EOk Tryz.prog E46:=E45ok.addX k110_45
theorem isName_size {s:ByteArray} (h:isName s=true):s.size≤8:=by
 simp only[isName,Bool.and_eq_true,decide_eq_true_eq] at h;omega
def words9:ByteArray→List ByteArray→ByteArray
 | w,[]=>w
 | w,x::l=>words9 (w++⟨#[32]⟩++x) l
theorem words9_at {w:ByteArray} {l:List ByteArray} {i:Nat} (h:i<l.length):words9 w (l.drop i)=words9 (w++⟨#[32]⟩++l.getD i default) (l.drop (i+1)):=by rw[drop_cons h];rfl
theorem words9_end {w:ByteArray} {l:List ByteArray} {i:Nat} (h:l.length≤i):words9 w (l.drop i)=w:=by rw[List.drop_of_length_le h];rfl
theorem words9_size:∀ (l:List ByteArray) (w:ByteArray),l.all isName=true→(words9 w l).size≤w.size+9*l.length:=by
 intro l
 induction l with
 | nil=>intro w _;simp[words9]
 | cons x l ih=>
  intro w h
  simp only[List.all_cons,Bool.and_eq_true] at h
  have h1:=isName_size h.1
  have h2:=ih (w++⟨#[32]⟩++x) h.2
  simp only[words9,List.length_cons]
  rw[ByteArray.size_append,ByteArray.size_append,show ByteArray.size ⟨#[32]⟩=1 from rfl] at h2
  omega
def fWords9:Fct:=⟨[.v (.el .str),.v (.sl .str)],[.el .str],fun(x_:ByteArray×(List ByteArray)×Unit)=>x_.1.size≤100∧x_.2.1.length≤4∧x_.2.1.all isName=true,fun(x_:ByteArray×(List ByteArray)×Unit)=>(words9 x_.1 x_.2.1,())⟩
abbrev W_spec_l9Words_fWords9_2 (w:ByteArray) (l:(List ByteArray)):LInv:=⟨[⟨.s,0,true,.el .str⟩,⟨.s,5,true,.el .int⟩],fun _ (x_:ByteArray×Int×Unit)=>0≤x_.2.1∧x_.2.1≤l.length∧x_.1.size≤100+9*x_.2.1∧words9 x_.1 (l.drop x_.2.1.toNat)=words9 w l,fun(x_:ByteArray×Int×Unit)=>l.length-x_.2.1.toNat⟩
theorem k139_46:fWords9.ok Tryz.prog 139:=Fct.of (S:=fWords9) (L:=fun⟨w,l,_⟩=>fun|2=>some (W_spec_l9Words_fWords9_2 w l)|_=>none) (kp:=[0,1,4,5,9,1000009]) E46ok Tryz.func139 (by kernel_rfl) (by kernel_rfl) (by
 rintro⟨(w:ByteArray),(l:List ByteArray),_⟩ hp
 refine ho (lpx (W_spec_l9Words_fWords9_2 w l) (w,((0:Int),())) fun(y1:ByteArray×Int×PUnit) bk1=>.br (decide (y1.2.1<(↑l.length:Int))) (.ob (sameSize y1.1 (⟨#[32]⟩:ByteArray))<|.ob (inB y1.2.1 l.length)<|.ob (sameSize (y1.1++(⟨#[32]⟩:ByteArray)) (l.getD y1.2.1.toNat default))<|.ob (l=l)<|.ob (Value.string (⟨#[]⟩:ByteArray)=Value.string (⟨#[]⟩:ByteArray))<|.ob (bk1 (y1.1++(⟨#[32]⟩:ByteArray)++l.getD y1.2.1.toNat default,(w1 y1.2.1,())))<|.ok) (.lf fWords9 (y1.1,()))) ?_
 refine lpx_i ?_ fun(y1:ByteArray×Int×PUnit) i1=>br_i (fun h2=>ob_i ?_ fun o3=>ob_i ?_ fun o4=>ob_i ?_ fun o5=>ob_i rfl fun _=>ob_i rfl fun _=>ob_i ?_ fun o6=>trivial) (fun h2=>lfY ?_)
 all_goals
  have hg:∀ i,i<l.length→(l.getD i default).size≤8:=fun i h=>isName_size (List.all_eq_true.1 hp.2.2 _ (getD_in h))
  try simp only[std0] at *
  try simp only[W_spec_l9Words_fWords9_2,fWords9,std,Nat.reduceAdd,szF,toF,eqF,mkF,heF,words9_at,words9_end,sameSize,ByteArray.size_append] at *
  try simp(disch:=omega) only[wrapId',toNat1] at *
  try simp(disch:=omega) only[if_pos,if_neg]
 all_goals first|trivial|omega|grind[wrapId',toNat1,good_len,maxLen,words9_at,words9_end,sameSize,ByteArray.size_append])
def E47:=E46.add 139 fWords9
theorem E47ok:EOk Tryz.prog E47:=E46ok.add k139_46
def formatPolicy (p:SPolicy):ByteArray:=if isPolicy p&&p.set_ then(if p.nonce=⟨#[]⟩ then words9 ⟨#[115,99,114,105,112,116]⟩ p.scripts++⟨#[59]⟩++words9 ⟨#[115,116,121,108,101]⟩ p.styles++⟨#[59]⟩++words9 ⟨#[105,109,103]⟩ p.images else words9 ⟨#[115,99,114,105,112,116]⟩ p.scripts++⟨#[59]⟩++words9 ⟨#[115,116,121,108,101]⟩ p.styles++⟨#[59]⟩++words9 ⟨#[105,109,103]⟩ p.images++⟨#[59,110,111,110,99,101,32]⟩++p.nonce) else⟨#[]⟩
theorem isPolicy_set {p:SPolicy} (h:isPolicy p=true) (hs:p.set_=true):p.scripts.all isName=true∧p.scripts.length≤4∧p.styles.all isName=true∧p.styles.length≤4∧p.images.all isName=true∧p.images.length≤4∧p.nonce.size≤20:=by
 simp only[isPolicy,hs,if_true,Bool.and_eq_true,Bool.or_eq_true,decide_eq_true_eq] at h
 obtain⟨⟨⟨⟨a1,a2⟩,a3,a4⟩,a5,a6⟩,a7⟩:=h
 refine⟨a1,a2,a3,a4,a5,a6,?_⟩
 rcases a7 with h|h
 ·rw[h];exact Nat.zero_le _
 ·simp only[isValue,Bool.and_eq_true,decide_eq_true_eq] at h;omega
theorem words9_sz {l:List ByteArray} {w:ByteArray} (h:l.all isName=true) (hl:l.length≤4) (hw:w.size≤6):(words9 w l).size≤42:=by
 have:=words9_size l w h;omega
theorem formatPolicy_size (p:SPolicy):(formatPolicy p).size≤200:=by
 unfold formatPolicy
 split
 ·rename_i h
  simp only[Bool.and_eq_true] at h
  obtain⟨a1,a2,a3,a4,a5,a6,a7⟩:=isPolicy_set h.1 h.2
  have b1:=words9_sz (w:=⟨#[115,99,114,105,112,116]⟩) a1 a2 (by decide)
  have b2:=words9_sz (w:=⟨#[115,116,121,108,101]⟩) a3 a4 (by decide)
  have b3:=words9_sz (w:=⟨#[105,109,103]⟩) a5 a6 (by decide)
  split
  ·simp only[ByteArray.size_append,show ByteArray.size ⟨#[59]⟩=1 from rfl];omega
  ·simp only[ByteArray.size_append,show ByteArray.size ⟨#[59]⟩=1 from rfl,show ByteArray.size ⟨#[59,110,111,110,99,101,32]⟩=7 from rfl];omega
 ·exact Nat.zero_le _
def fFormatPolicy:Fct:=⟨[.v (.el .policy)],[.el .str],fun(x_:SPolicy×Unit)=>szPolicy x_.1≤1099511627776,fun(x_:SPolicy×Unit)=>(formatPolicy x_.1,())⟩
theorem k111_47:fFormatPolicy.ok Tryz.prog 111:=Fct.o [1,2,3,11,27,1000011,1000027] E47ok Tryz.func111 (by
 rintro⟨(p:SPolicy),_⟩ hp
 refine ho (.cl fIsPolicy (p,()) fun z2=>.br (!z2.1) (.lf fFormatPolicy ((⟨#[]⟩:ByteArray),())) (.br (!p.set_) (.lf fFormatPolicy ((⟨#[]⟩:ByteArray),())) (.cl fWords9 ((⟨#[115,99,114,105,112,116]⟩:ByteArray),p.scripts,()) fun z3=>.ob (sameSize z3.1 (⟨#[59]⟩:ByteArray))<|.cl fWords9 ((⟨#[115,116,121,108,101]⟩:ByteArray),p.styles,()) fun z4=>.ob (sameSize (z3.1++(⟨#[59]⟩:ByteArray)) z4.1)<|.ob (sameSize (z3.1++(⟨#[59]⟩:ByteArray)++z4.1) (⟨#[59]⟩:ByteArray))<|.cl fWords9 ((⟨#[105,109,103]⟩:ByteArray),p.images,()) fun z5=>.ob (sameSize (z3.1++(⟨#[59]⟩:ByteArray)++z4.1++(⟨#[59]⟩:ByteArray)) z5.1)<|.br (!p.nonce.toList==(⟨#[]⟩:ByteArray).toList) (.ob (sameSize (z3.1++(⟨#[59]⟩:ByteArray)++z4.1++(⟨#[59]⟩:ByteArray)++z5.1) (⟨#[59,110,111,110,99,101,32]⟩:ByteArray))<|.ob (sameSize (z3.1++(⟨#[59]⟩:ByteArray)++z4.1++(⟨#[59]⟩:ByteArray)++z5.1++(⟨#[59,110,111,110,99,101,32]⟩:ByteArray)) p.nonce)<|.lf fFormatPolicy (z3.1++(⟨#[59]⟩:ByteArray)++z4.1++(⟨#[59]⟩:ByteArray)++z5.1++(⟨#[59,110,111,110,99,101,32]⟩:ByteArray)++p.nonce,())) (.lf fFormatPolicy (z3.1++(⟨#[59]⟩:ByteArray)++z4.1++(⟨#[59]⟩:ByteArray)++z5.1,()))))) ?_
 refine cl_i ?_ fun o1=>(br_i (fun h2=>lfY ?_) (fun h2=>br_i (fun h3=>lfY ?_) (fun h3=>cl_i ?_ fun o4=>(ob_i ?_ fun o5=>cl_i ?_ fun o6=>(ob_i ?_ fun o7=>ob_i ?_ fun o8=>cl_i ?_ fun o9=>(ob_i ?_ fun o10=>br_i (fun h11=>ob_i ?_ fun o12=>ob_i ?_ fun o13=>lfY ?_) (fun h11=>lfY ?_)))))))
 all_goals
  try simp only[std0] at *
  try simp only[fFormatPolicy,fIsPolicy,fWords9,std,Nat.reduceAdd,szF,toF,eqF,mkF,heF] at *
 all_goals first|trivial|omega|skip
 all_goals try (have hA:isPolicy p=true:=(by assumption);have hB:p.set_=true:=(by assumption);obtain⟨a1,a2,a3,a4,a5,a6,a7⟩:=isPolicy_set hA hB)
 all_goals
  try have b1:=words9_sz (w:=⟨#[115,99,114,105,112,116]⟩) a1 a2 (by decide)
  try have b2:=words9_sz (w:=⟨#[115,116,121,108,101]⟩) a3 a4 (by decide)
  try have b3:=words9_sz (w:=⟨#[105,109,103]⟩) a5 a6 (by decide)
  try simp only[std0] at *
  try simp only[fFormatPolicy,fIsPolicy,fWords9,std,Nat.reduceAdd,szF,toF,eqF,mkF,heF,formatPolicy,sameSize,ByteArray.size_append] at *
  try simp(disch:=omega) only[wrapId',toNat1] at *
  try simp(disch:=omega) only[if_pos,if_neg]
 all_goals first|trivial|omega|grind[wrapId',toNat1,drop_cons,drop_end,good_len,maxLen,formatPolicy,sameSize,ByteArray.size_append])
def E48:=E47.add 111 fFormatPolicy
theorem E48ok:EOk Tryz.prog E48:=E47ok.add k111_47
def hosts9:List ByteArray:=[⟨#[104,111,109,101]⟩,⟨#[99,100,110]⟩,⟨#[101,118,105,108]⟩]
theorem hosts9_name {i:Nat} (h:i<3):isName (hosts9.getD i default)=true:=by
 match i,h with
 | 0,_=>decide
 | 1,_=>decide
 | 2,_=>decide
def fHosts9:Xct:=⟨[.u],[.sl .str],fun(x_:Unit×Unit)=>True,fun(x_:Unit×Unit) (y_:(List ByteArray)×Unit)=>y_.1.length≤3∧y_.1.all isName=true⟩
abbrev W_spec_l9Hosts_fHosts9_3 (c:Unit):LInv:=⟨[⟨.s,3,true,.sl .str⟩,⟨.s,9,true,.el .int⟩,⟨.s,7,true,.sl .str⟩],fun _ (x_:(List ByteArray)×Int×(List ByteArray)×Unit)=>0≤x_.2.1∧x_.2.1≤3∧x_.1.length≤x_.2.1∧x_.1.all isName=true∧x_.2.2.1=hosts9,fun(x_:(List ByteArray)×Int×(List ByteArray)×Unit)=>3-x_.2.1.toNat⟩
theorem k140_48:fHosts9.ok Tryz.prog 140:=Xct.of (S:=fHosts9) (L:=fun⟨c,_⟩=>fun|3=>some (W_spec_l9Hosts_fHosts9_3 c)|_=>none) (kp:=[0,2,3,5,7,8,9,10,14,1000010,1000014]) E48ok Tryz.func140 (by kernel_rfl) (by kernel_rfl) (by
 rintro⟨(c:PUnit),_⟩ hp
 refine ho (lpx (W_spec_l9Hosts_fHosts9_3 c) ([],((0:Int),([{ data := #[(104:UInt8),(111:UInt8),(109:UInt8),(101:UInt8)]:ByteArray },{ data := #[(99:UInt8),(100:UInt8),(110:UInt8)]:ByteArray },{ data := #[(101:UInt8),(118:UInt8),(105:UInt8),(108:UInt8)]:ByteArray }],()))) fun(y1:List ByteArray×Int×List ByteArray×PUnit) bk1=>.br (decide (y1.snd.fst<(3:Int))) (.ob ((0:Int)≤y1.snd.fst∧y1.snd.fst<(↑y1.snd.snd.fst.length:Int))<|.ob (y1.snd.fst.toNat<y1.snd.snd.fst.length)<|.ob (fOnce.pre ((),(2:Int),()))<|.lp (Bool×PUnit) (True) (fOnce.is ((),(2:Int),())) fun y5=>.br (y5.fst) (.ob (True)<|.ob (Room (y1.fst.length+[y1.snd.snd.fst.getD y1.snd.fst.toNat default].length) (16:Nat))<|.ob (Value.int IntKind.i64 (3:Int)=Value.int IntKind.i64 (3:Int))<|.ob (bk1 (y1.fst++[y1.snd.snd.fst.getD y1.snd.fst.toNat default],(IntKind.i64.wrap (y1.snd.fst+(1:Int)),(y1.snd.snd.fst,()))))<|.ok) (.ob (Value.int IntKind.i64 (3:Int)=Value.int IntKind.i64 (3:Int))<|.ob (bk1 (y1.fst,(IntKind.i64.wrap (y1.snd.fst+(1:Int)),(y1.snd.snd.fst,()))))<|.ok)) (.leaf (mkR fHosts9.rs (y1.fst,())) [] [])) ?_
 refine lpx_i ?_ fun(y1:List ByteArray×Int×List ByteArray×PUnit) i1=>br_i (fun h2=>ob_i ?_ fun o3=>ob_i ?_ fun o4=>ob_i trivial fun _=>lp_i trivial fun y5 i5=>br_i (fun h6=>ob_i trivial fun _=>ob_i ?_ fun o7=>ob_i rfl fun _=>ob_i ?_ fun o8=>trivial) (fun h6=>ob_i rfl fun _=>ob_i ?_ fun o9=>trivial)) (fun h2=>Xct.leafY (S:=fHosts9) (y1.fst,()) ?_)
 all_goals
  have h9:hosts9.length=3:=rfl
  have hn:∀ i,i<3→isName (hosts9.getD i default)=true:=fun i h=>hosts9_name h
  try exact⟨by omega,by omega,by simp,rfl,rfl⟩
 all_goals try (obtain⟨a1,a2,a3,a4,a5⟩:=i1;simp only[a5] at *)
 all_goals
  try simp only[std0] at *
  try simp only[W_spec_l9Hosts_fHosts9_3,fHosts9,fOnce,std,Nat.reduceAdd,szF,toF,eqF,mkF,heF] at *
  try simp(disch:=omega) only[wrapId',toNat1] at *
  try simp(disch:=omega) only[if_pos,if_neg]
 all_goals first|trivial|omega|grind[wrapId',toNat1,drop_cons,drop_end,good_len,maxLen])
def E49:=E48.addX 140 fHosts9
theorem E49ok:EOk Tryz.prog E49:=E48ok.addX k140_48
def fPolicy9:Xct:=⟨[.u],[.el .policy],fun(x_:Unit×Unit)=>True,fun(x_:Unit×Unit) (y_:SPolicy×Unit)=>isPolicy y_.1=true⟩
theorem k112_49:fPolicy9.ok Tryz.prog 112:=Xct.of (S:=fPolicy9) (L:=fun _ _=>none) (kp:=[0,2,3,5,15,1000005,1000015]) E49ok Tryz.func112 (by kernel_rfl) (by kernel_rfl) (by
 rintro⟨(c:PUnit),_⟩ hp
 refine ho (.ob (fOnce.pre ((),(2:Int),()))<|.lp (Bool×PUnit) (True) (fOnce.is ((),(2:Int),())) fun y1=>.br (y1.fst) (.leaf (.one true [vb (false),.nl,.nl,.nl,vs ({ data := #[]:ByteArray })]) [] []) (.ob (fHosts9.pre ((),()))<|.lp (List ByteArray×PUnit) (True) (fHosts9.is ((),())) fun y3=>.ob (fHosts9.pre ((),()))<|.lp (List ByteArray×PUnit) (True) (fHosts9.is ((),())) fun y4=>.ob (fHosts9.pre ((),()))<|.lp (List ByteArray×PUnit) (True) (fHosts9.is ((),())) fun y5=>.ob (fOnce.pre ((),(2:Int),()))<|.lp (Bool×PUnit) (True) (fOnce.is ((),(2:Int),())) fun y6=>.br (y6.fst) (.leaf (mkR fPolicy9.rs (⟨true,y3.fst,y4.fst,y5.fst,{ data := #[(110:UInt8),(55:UInt8)]:ByteArray }⟩,())) [] []) (.leaf (mkR fPolicy9.rs (⟨true,y3.fst,y4.fst,y5.fst,{ data := #[]:ByteArray }⟩,())) [] []))) ?_
 refine ob_i trivial fun _=>lp_i trivial fun y1 i1=>br_i (fun h2=>Xct.leafZ (S:=fPolicy9) (default,()) (by repeat' first|exact rfl|exact trivial|refine And.intro ?_ ?_) ?_) (fun h2=>ob_i trivial fun _=>lp_i trivial fun y3 i3=>ob_i trivial fun _=>lp_i trivial fun y4 i4=>ob_i trivial fun _=>lp_i trivial fun y5 i5=>ob_i trivial fun _=>lp_i trivial fun y6 i6=>br_i (fun h7=>Xct.leafY (S:=fPolicy9) (⟨true,y3.fst,y4.fst,y5.fst,{ data := #[(110:UInt8),(55:UInt8)]:ByteArray }⟩,()) ?_) (fun h7=>Xct.leafY (S:=fPolicy9) (⟨true,y3.fst,y4.fst,y5.fst,{ data := #[]:ByteArray }⟩,()) ?_))
 all_goals
  try simp only[std0] at *
  try simp only[fHosts9,fOnce,fPolicy9,std,Nat.reduceAdd,szF,toF,eqF,mkF,heF] at *
 all_goals first|rfl|(simp only[isPolicy,Bool.and_eq_true,if_true,decide_eq_true_eq,Bool.or_eq_true];first|exact⟨⟨⟨⟨i3.2,by omega⟩,i4.2,by omega⟩,i5.2,by omega⟩,.inl trivial⟩|exact⟨⟨⟨⟨i3.2,by omega⟩,i4.2,by omega⟩,i5.2,by omega⟩,.inl rfl⟩|exact⟨⟨⟨⟨i3.2,by omega⟩,i4.2,by omega⟩,i5.2,by omega⟩,.inr (by decide)⟩))
def E50:=E49.addX 112 fPolicy9
theorem E50ok:EOk Tryz.prog E50:=E49ok.addX k112_49
theorem szL_le {α:Type} {f:α→Nat} {B:Nat}:∀ {l:List α},(∀ x∈l,f x≤B)→szL f l≤(B+1)*l.length:=by
 intro l
 induction l with
 | nil=>intro _;simp[szL]
 | cons x l ih=>
  intro h
  have h1:=ih fun y hy=>h y (List.mem_cons_of_mem _ hy)
  have h2:=h x List.mem_cons_self
  have h3:szL f (x::l)=f x+1+szL f l:=by simp only[szL,List.map_cons,List.sum_cons,List.length_cons];omega
  rw[h3,List.length_cons,Nat.mul_add];omega
theorem names_sz {l:List ByteArray} (h:l.all isName=true):szL szString l≤9*l.length:=szL_le (B:=8) fun x hx=>isName_size (List.all_eq_true.1 h x hx)
theorem isPolicy_sz {p:SPolicy} (h:isPolicy p=true):szPolicy p≤128:=by
 cases hs:p.set_ with
 | true=>
  obtain⟨a1,a2,a3,a4,a5,a6,a7⟩:=isPolicy_set h hs
  have b1:=names_sz a1
  have b2:=names_sz a3
  have b3:=names_sz a5
  simp only[szPolicy];omega
 | false=>
  simp only[isPolicy,hs,Bool.false_eq_true,if_false,decide_eq_true_eq] at h
  obtain⟨h1,h2,h3,h4⟩:=h
  rw[List.length_eq_zero_iff] at h1 h2 h3
  simp only[szPolicy,h1,h2,h3,h4]
  decide
def fResponse10:Xct:=⟨[.u,.v (.el .int)],[.el .response],fun(x_:Unit×Int×Unit)=>True,fun(x_:Unit×Int×Unit) (y_:SResponse×Unit)=>y_.1.body.size≤2000∧y_.1.policy.size≤200⟩
theorem k84_50:fResponse10.ok Tryz.prog 84:=Xct.of (S:=fResponse10) (L:=fun _ _=>none) (kp:=[0,1,4,5,17,1000017]) E50ok Tryz.func84 (by kernel_rfl) (by kernel_rfl) (by
 rintro⟨(c:PUnit),(k:Int),_⟩ hp
 refine ho (.ob (fBody10.pre ((),k,()))<|.lp (ByteArray×PUnit) (True) (fBody10.is ((),k,())) fun y1=>.ob (fIntL.pre ((),[(0:Int),(5:Int),(50:Int)],()))<|.lp (Int×PUnit) (True) (fIntL.is ((),[(0:Int),(5:Int),(50:Int)],())) fun y3=>.ob (fOnce.pre ((),(2:Int),()))<|.lp (Bool×PUnit) (True) (fOnce.is ((),(2:Int),())) fun y4=>.br (k==(1:Int)) (.ob (fPolicy9.pre ((),()))<|.lp (SPolicy×PUnit) (True) (fPolicy9.is ((),())) fun y6=>.ob (fFormatPolicy.pre (y6.fst,()))<|.lt (ByteArray×PUnit) (fFormatPolicy.fn (y6.fst,())) fun z2=>.leaf (mkR fResponse10.rs (⟨(200:Int),k,y1.fst,y3.fst,y4.fst,z2.fst⟩,())) [] []) (.leaf (mkR fResponse10.rs (⟨(200:Int),k,y1.fst,y3.fst,y4.fst,{ data := #[]:ByteArray }⟩,())) [] [])) ?_
 refine ob_i trivial fun _=>lp_i trivial fun y1 i1=>ob_i ?_ fun o2=>lp_i trivial fun y3 i3=>ob_i trivial fun _=>lp_i trivial fun y4 i4=>br_i (fun h5=>ob_i trivial fun _=>lp_i trivial fun y6 i6=>ob_i ?_ fun o7=>lt_e fun z2 ez2=>(Xct.leafY (S:=fResponse10) (⟨(200:Int),k,y1.fst,y3.fst,y4.fst,z2.fst⟩,()) ?_)) (fun h5=>Xct.leafY (S:=fResponse10) (⟨(200:Int),k,y1.fst,y3.fst,y4.fst,{ data := #[]:ByteArray }⟩,()) ?_)
 all_goals try subst_vars
 all_goals
  try have q:=isPolicy_sz i6
  try have q2:=formatPolicy_size y6.1
  try simp only[std0] at *
  try simp only[fBody10,fFormatPolicy,fIntL,fOnce,fPolicy9,fResponse10,std,Nat.reduceAdd,szF,toF,eqF,mkF,heF] at *
 all_goals first|omega|decide|exact⟨i1,q2⟩|exact⟨i1,by decide⟩)
def E51:=E50.addX 84 fResponse10
theorem E51ok:EOk Tryz.prog E51:=E50ok.addX k84_50
theorem good_u8 {b:List Int} (h:Sh.good (.sl .u8) b):∀ j,j<b.length→0≤b.getD j default∧b.getD j default≤255:=by
 intro j hj
 have h1:=(good_getD (t:=.u8) h hj) (.val (.int .u8 (b.getD j default))) (by simp[Sh.fc,enc])
 simp only[goodC,Lit.wf,Bool.and_eq_true,decide_eq_true_eq] at h1
 exact h1
def okPg (p:SPage):Prop:=p.slots.length≤100000000000∧-9223372036854775808≤p.block∧p.block≤9223372036854775807
theorem classOf_rng (p:SPage) (r:SRequest):0≤classOf p r∧classOf p r≤5:=by
 unfold classOf;repeat' split
 all_goals omega
def fSortReq1:Fct:=⟨[.v (.el .request),.v (.el .request),.p (.el .page)],[.el .int],fun(x_:SRequest×SRequest×SPage×Unit)=>okPg x_.2.2.1,fun(x_:SRequest×SRequest×SPage×Unit)=>(classOf x_.2.2.1 x_.1-classOf x_.2.2.1 x_.2.1,())⟩
theorem k33_51:fSortReq1.ok Tryz.prog 33:=Fct.o [2,3,4,5] E51ok Tryz.func33 (by
 rintro⟨(a:SRequest),(b:SRequest),(p:SPage),_⟩ hp
 refine ho (.cl fClassOf (p,a,()) fun(z2:Int×PUnit)=>.cl fClassOf (p,b,()) fun(z3:Int×PUnit)=>.lf fSortReq1 (wr (z2.1-z3.1),())) ?_
 refine cl_i ?_ fun o1=>(cl_i ?_ fun o2=>(lfY ?_))
 all_goals
  have h1:=classOf_rng p a
  have h2:=classOf_rng p b
  try simp only[std0] at *
  try simp only[fClassOf,fSortReq1,std,Nat.reduceAdd,szF,toF,eqF,mkF,heF,okPg] at *
  try simp(disch:=omega) only[wrapId',toNat1] at *
  try simp(disch:=omega) only[if_pos,if_neg]
 all_goals first|trivial|omega|grind[wrapId',toNat1,drop_cons,drop_end,good_len,maxLen,okPg])
def E52:=E51.add 33 fSortReq1
theorem E52ok:EOk Tryz.prog E52:=E51ok.add k33_51
def fInsSort:GS:=⟨[.k (.sl .request),.l (.v (.el .int)),.l (.v (.el .int)),.l (.c 33 [.el .page])],[],fun(x_:(List SRequest)×Int×Int×(SPage×Unit)×Unit)=>okPg x_.2.2.2.1.1∧0≤x_.2.1∧x_.2.1≤x_.2.2.1∧x_.2.2.1≤x_.1.length∧x_.1.length≤100000000000,fun(x_:(List SRequest)×Int×Int×(SPage×Unit)×Unit)=>((()),(sortR (classOf x_.2.2.2.1.1) x_.2.1.toNat x_.2.2.1.toNat x_.1,()))⟩
abbrev W_slices_insertionSortCmpFunc_impl_Request_fInsSort_1 (l:(List SRequest)) (a:Int) (b:Int) (u:(SPage×Unit)):LInv:=⟨[⟨.s,8,true,.el .int⟩,⟨.t,0,true,.sl .request⟩],fun _ (x_:Int×(List SRequest)×Unit)=>a+1≤x_.1∧(x_.1≤b∨x_.1=a+1)∧x_.2.1=sortR (classOf u.1) a.toNat (min x_.1 b).toNat l,fun(x_:Int×(List SRequest)×Unit)=>(b-x_.1).toNat⟩
abbrev W_slices_insertionSortCmpFunc_impl_Request_fInsSort_4 (l:(List SRequest)) (a:Int) (b:Int) (u:(SPage×Unit)):LInv:=⟨[⟨.s,9,true,.el .int⟩,⟨.t,0,true,.sl .request⟩,⟨.s,8,true,.el .int⟩],fun(z_:Int×(List SRequest)×Int×Unit) (x_:Int×(List SRequest)×Int×Unit)=>x_.2.2.1=z_.2.2.1∧a≤x_.1∧x_.1≤x_.2.2.1∧x_.2.2.1<z_.2.1.length∧x_.2.1=rotR z_.2.1 x_.1.toNat x_.2.2.1.toNat (x_.2.2.1.toNat+1)∧(∀ k,x_.1.toNat≤k→k<x_.2.2.1.toNat→classOf u.1 (z_.2.1.getD x_.2.2.1.toNat default)<classOf u.1 (z_.2.1.getD k default)),fun(x_:Int×(List SRequest)×Int×Unit)=>x_.1.toNat⟩
theorem k94_52:fInsSort.ok Tryz.prog 94:=GS.of (S:=fInsSort) (L:=fun⟨l,a,b,u,_⟩=>fun|1=>some (W_slices_insertionSortCmpFunc_impl_Request_fInsSort_1 l a b u)|4=>some (W_slices_insertionSortCmpFunc_impl_Request_fInsSort_4 l a b u)|_=>none) (kp:=[0,1,2,3,8,9,14,34,1000014,1000034]) E52ok Tryz.func94 (by kernel_rfl) (by kernel_rfl) (by
 rintro⟨(l:List SRequest),(a:Int),(b:Int),(u:SPage×PUnit),_⟩ hp
 refine ho (lpx (W_slices_insertionSortCmpFunc_impl_Request_fInsSort_1 l a b u) (w1 a,(l,())) fun(y1:Int×List SRequest×PUnit) bk1=>.br (decide (y1.1<b)) (lpx (W_slices_insertionSortCmpFunc_impl_Request_fInsSort_4 l a b u) (y1.1,(y1.2.1,(y1.1,()))) fun(y3:Int×List SRequest×Int×PUnit) bk3=>.br (decide (y3.1>a)) (.ob (inB y3.1 y3.2.1.length)<|.ob (y3.1.toNat<y3.2.1.length)<|.ob (0≤wr (y3.1-(1:Int))∧wr (y3.1-(1:Int))<(↑y3.2.1.length:Int))<|.ob ((wr (y3.1-(1:Int))).toNat<y3.2.1.length)<|.cl fSortReq1 (y3.2.1.getD y3.1.toNat default,y3.2.1.getD (wr (y3.1-(1:Int))).toNat default,u.1,()) fun(z2:Int×PUnit)=>.br (decide (z2.1<0)) (.lp (Bool) (True) (fun x=>True) fun y11=>.br (y11) (.ob (0≤wr (y3.1-(1:Int))∧wr (y3.1-(1:Int))<(↑y3.2.1.length:Int))<|.ob ((wr (y3.1-(1:Int))).toNat<y3.2.1.length)<|.ob (inB y3.1 y3.2.1.length)<|.ob (y3.1.toNat<y3.2.1.length)<|.ob (inB y3.1 y3.2.1.length)<|.ob (y3.1.toNat<y3.2.1.length)<|.lt (List SRequest) (y3.2.1.modify y3.1.toNat fun z=>y3.2.1.getD (wr (y3.1-(1:Int))).toNat default) fun z3=>.ob (0≤wr (y3.1-(1:Int))∧wr (y3.1-(1:Int))<(↑z3.length:Int))<|.ob ((wr (y3.1-(1:Int))).toNat<z3.length)<|.lt (List SRequest) (z3.modify (wr (y3.1-(1:Int))).toNat fun z=>y3.2.1.getD y3.1.toNat default) fun z4=>.ob (Value.int IntKind.i64 a=Value.int IntKind.i64 a)<|.ob (Value.int IntKind.i64 b=Value.int IntKind.i64 b)<|.ob (enc Ty.page u.1=enc Ty.page u.1)<|.ob (bk3 (wr (y3.1-(1:Int)),(z4,(y3.2.2.1,()))))<|.ok) (.ob (0≤wr (y3.1-(1:Int))∧wr (y3.1-(1:Int))<(↑y3.2.1.length:Int))<|.ob ((wr (y3.1-(1:Int))).toNat<y3.2.1.length)<|.ob (inB y3.1 y3.2.1.length)<|.ob (y3.1.toNat<y3.2.1.length)<|.ob (inB y3.1 y3.2.1.length)<|.ob (y3.1.toNat<y3.2.1.length)<|.lt (List SRequest) (y3.2.1.modify y3.1.toNat fun z=>y3.2.1.getD (wr (y3.1-(1:Int))).toNat default) fun z5=>.ob (0≤wr (y3.1-(1:Int))∧wr (y3.1-(1:Int))<(↑z5.length:Int))<|.ob ((wr (y3.1-(1:Int))).toNat<z5.length)<|.lt (List SRequest) (z5.modify (wr (y3.1-(1:Int))).toNat fun z=>y3.2.1.getD y3.1.toNat default) fun z6=>.ob (Value.int IntKind.i64 a=Value.int IntKind.i64 a)<|.ob (Value.int IntKind.i64 b=Value.int IntKind.i64 b)<|.ob (enc Ty.page u.1=enc Ty.page u.1)<|.ob (bk3 (wr (y3.1-(1:Int)),(z6,(y3.2.2.1,()))))<|.ok)) (.ob (Value.int IntKind.i64 a=Value.int IntKind.i64 a)<|.ob (Value.int IntKind.i64 b=Value.int IntKind.i64 b)<|.ob (enc Ty.page u.1=enc Ty.page u.1)<|.ob (bk1 (w1 y3.2.2.1,(y3.2.1,())))<|.ok)) (.ob (Value.int IntKind.i64 a=Value.int IntKind.i64 a)<|.ob (Value.int IntKind.i64 b=Value.int IntKind.i64 b)<|.ob (enc Ty.page u.1=enc Ty.page u.1)<|.ob (bk1 (w1 y3.2.2.1,(y3.2.1,())))<|.ok)) (GS.out fInsSort ((()),(y1.2.1,())))) ?_
 refine lpx_i ?_ fun(y1:Int×List SRequest×PUnit) i1=>br_i (fun h2=>lpx_i ?_ fun(y3:Int×List SRequest×Int×PUnit) i3=>br_i (fun h4=>ob_i ?_ fun o5=>ob_i ?_ fun o6=>ob_i ?_ fun o7=>ob_i ?_ fun o8=>cl_i ?_ fun o9=>(br_i (fun h10=>lp_i trivial fun y11 i11=>br_i (fun h12=>ob_i ?_ fun o13=>ob_i ?_ fun o14=>ob_i ?_ fun o15=>ob_i ?_ fun o16=>ob_i ?_ fun o17=>ob_i ?_ fun o18=>lt_i (ob_i ?_ fun o19=>ob_i ?_ fun o20=>lt_i (ob_i rfl fun _=>ob_i rfl fun _=>ob_i rfl fun _=>ob_i ?_ fun o21=>trivial))) (fun h12=>ob_i ?_ fun o22=>ob_i ?_ fun o23=>ob_i ?_ fun o24=>ob_i ?_ fun o25=>ob_i ?_ fun o26=>ob_i ?_ fun o27=>lt_i (ob_i ?_ fun o28=>ob_i ?_ fun o29=>lt_i (ob_i rfl fun _=>ob_i rfl fun _=>ob_i rfl fun _=>ob_i ?_ fun o30=>trivial)))) (fun h10=>ob_i rfl fun _=>ob_i rfl fun _=>ob_i rfl fun _=>ob_i ?_ fun o31=>trivial))) (fun h4=>ob_i rfl fun _=>ob_i rfl fun _=>ob_i rfl fun _=>ob_i ?_ fun o32=>trivial)) (fun h2=>GS.leafY ?_)
 all_goals obtain⟨hq,hp⟩:=hp
 all_goals
  try obtain⟨a1,a2,a3⟩:=i1
  try obtain⟨b1,b2,b3,b4,b5,b6⟩:=i3
  try simp only[std0] at *
  try simp only[W_slices_insertionSortCmpFunc_impl_Request_fInsSort_1,W_slices_insertionSortCmpFunc_impl_Request_fInsSort_4,fInsSort,fSortReq1,std,Nat.reduceAdd,szF,toF,eqF,mkF,heF,List.length_modify] at *
  try rw[b1] at b3 b4 b5 b6
  try have hl:y1.2.1.length=l.length:=by rw[a3,sortR_len (by omega) (by omega)]
  try have hl2:y3.2.1.length=l.length:=by rw[b5,rotR_len,hl]
  try have b7:=insI_at b5 (by omega) b3 b4
  try simp(disch:=omega) only[wrapId'] at *
 all_goals first|omega|exact hq|exact⟨by omega,.inr trivial,(sortR_one (by omega) (by omega) (by omega)).symm⟩|exact⟨by omega,by omega,by omega,rot_self,fun k h1 h2=>by omega⟩|skip
 all_goals try (have b8:=b7.2 (by omega);rw[b7.1,b8] at h10)
 all_goals try rw[b1]
 all_goals first|exact⟨⟨rfl,by omega,by omega,by omega,insI b5 (by omega) b3 b4,fun k q1 q2=>(by rcases Nat.lt_or_ge k y3.1.toNat with h|h;exact(show k=(y3.1-1).toNat by omega)▸(by omega);exact b6 k h q2)⟩,by omega⟩|exact⟨⟨by omega,by omega,sort_next a3 (by omega) (by omega) (by omega) (by omega) b5 (by omega) (by omega) b6 (.inr (by omega))⟩,by omega⟩|exact⟨⟨by omega,by omega,sort_next a3 (by omega) (by omega) (by omega) (by omega) b5 (by omega) (by omega) b6 (.inl (by omega))⟩,by omega⟩|(rw[a3];congr 1;omega)|skip)
def E53:=E52.addG 94 fInsSort
theorem E53ok:EOk Tryz.prog E53:=E52ok.addG k94_52
def fSwapR:GS:=⟨[.k (.sl .request),.l (.v (.el .int)),.l (.v (.el .int)),.l (.v (.el .int)),.l (.c 33 [.el .page])],[],fun(x_:(List SRequest)×Int×Int×Int×(SPage×Unit)×Unit)=>0≤x_.2.1∧0≤x_.2.2.2.1∧x_.2.1+x_.2.2.2.1≤x_.2.2.1∧x_.2.2.1+x_.2.2.2.1≤x_.1.length∧x_.1.length≤100000000000,fun(x_:(List SRequest)×Int×Int×Int×(SPage×Unit)×Unit)=>((()),(swapR x_.1 x_.2.1.toNat x_.2.2.1.toNat x_.2.2.2.1.toNat,()))⟩
abbrev W_slices_swapRangeCmpFunc_impl_Request_fSwapR_1 (l:(List SRequest)) (a:Int) (b:Int) (n:Int) (u:(SPage×Unit)):LInv:=⟨[⟨.s,10,true,.el .int⟩,⟨.t,0,true,.sl .request⟩],fun _ (x_:Int×(List SRequest)×Unit)=>0≤x_.1∧x_.1≤n∧x_.2.1=swapR l a.toNat b.toNat x_.1.toNat,fun(x_:Int×(List SRequest)×Unit)=>(n-x_.1).toNat⟩
theorem k146_53:fSwapR.ok Tryz.prog 146:=GS.of (S:=fSwapR) (L:=fun⟨l,a,b,n,u,_⟩=>fun|1=>some (W_slices_swapRangeCmpFunc_impl_Request_fSwapR_1 l a b n u)|_=>none) (kp:=[0,1,2,3,10,13,1000013]) E53ok Tryz.func146 (by kernel_rfl) (by kernel_rfl) (by
 rintro⟨(l:List SRequest),(a:Int),(b:Int),(n:Int),(u:SPage×PUnit),_⟩ hp
 refine ho (lpx (W_slices_swapRangeCmpFunc_impl_Request_fSwapR_1 l a b n u) ((0:Int),(l,())) fun(y1:Int×List SRequest×PUnit) bk1=>.br (decide (y1.1<n)) (.lp (Bool) (True) (fun x=>True) fun y3=>.br (y3) (.ob (0≤wr (b+y1.1)∧wr (b+y1.1)<(↑y1.2.1.length:Int))<|.ob ((wr (b+y1.1)).toNat<y1.2.1.length)<|.ob (0≤wr (a+y1.1)∧wr (a+y1.1)<(↑y1.2.1.length:Int))<|.ob ((wr (a+y1.1)).toNat<y1.2.1.length)<|.ob (0≤wr (a+y1.1)∧wr (a+y1.1)<(↑y1.2.1.length:Int))<|.ob ((wr (a+y1.1)).toNat<y1.2.1.length)<|.lt (List SRequest) (y1.2.1.modify (wr (a+y1.1)).toNat fun z=>y1.2.1.getD (wr (b+y1.1)).toNat default) fun z2=>.ob (0≤wr (b+y1.1)∧wr (b+y1.1)<(↑z2.length:Int))<|.ob ((wr (b+y1.1)).toNat<z2.length)<|.lt (List SRequest) (z2.modify (wr (b+y1.1)).toNat fun z=>y1.2.1.getD (wr (a+y1.1)).toNat default) fun z3=>.ob (Value.int IntKind.i64 a=Value.int IntKind.i64 a)<|.ob (Value.int IntKind.i64 b=Value.int IntKind.i64 b)<|.ob (Value.int IntKind.i64 n=Value.int IntKind.i64 n)<|.ob (bk1 (w1 y1.1,(z3,())))<|.ok) (.ob (0≤wr (b+y1.1)∧wr (b+y1.1)<(↑y1.2.1.length:Int))<|.ob ((wr (b+y1.1)).toNat<y1.2.1.length)<|.ob (0≤wr (a+y1.1)∧wr (a+y1.1)<(↑y1.2.1.length:Int))<|.ob ((wr (a+y1.1)).toNat<y1.2.1.length)<|.ob (0≤wr (a+y1.1)∧wr (a+y1.1)<(↑y1.2.1.length:Int))<|.ob ((wr (a+y1.1)).toNat<y1.2.1.length)<|.lt (List SRequest) (y1.2.1.modify (wr (a+y1.1)).toNat fun z=>y1.2.1.getD (wr (b+y1.1)).toNat default) fun z4=>.ob (0≤wr (b+y1.1)∧wr (b+y1.1)<(↑z4.length:Int))<|.ob ((wr (b+y1.1)).toNat<z4.length)<|.lt (List SRequest) (z4.modify (wr (b+y1.1)).toNat fun z=>y1.2.1.getD (wr (a+y1.1)).toNat default) fun z5=>.ob (Value.int IntKind.i64 a=Value.int IntKind.i64 a)<|.ob (Value.int IntKind.i64 b=Value.int IntKind.i64 b)<|.ob (Value.int IntKind.i64 n=Value.int IntKind.i64 n)<|.ob (bk1 (w1 y1.1,(z5,())))<|.ok)) (GS.out fSwapR ((()),(y1.2.1,())))) ?_
 refine lpx_i ?_ fun(y1:Int×List SRequest×PUnit) i1=>br_i (fun h2=>lp_i trivial fun y3 i3=>br_i (fun h4=>ob_i ?_ fun o5=>ob_i ?_ fun o6=>ob_i ?_ fun o7=>ob_i ?_ fun o8=>ob_i ?_ fun o9=>ob_i ?_ fun o10=>lt_i (ob_i ?_ fun o11=>ob_i ?_ fun o12=>lt_i (ob_i rfl fun _=>ob_i rfl fun _=>ob_i rfl fun _=>ob_i ?_ fun o13=>trivial))) (fun h4=>ob_i ?_ fun o14=>ob_i ?_ fun o15=>ob_i ?_ fun o16=>ob_i ?_ fun o17=>ob_i ?_ fun o18=>ob_i ?_ fun o19=>lt_i (ob_i ?_ fun o20=>ob_i ?_ fun o21=>lt_i (ob_i rfl fun _=>ob_i rfl fun _=>ob_i rfl fun _=>ob_i ?_ fun o22=>trivial)))) (fun h2=>GS.leafY ?_)
 all_goals try (obtain⟨a1,a2,a3⟩:=i1;have hl:y1.2.1.length=l.length:=by rw[a3,swapR_len])
 all_goals
  try simp only[std0] at *
  try simp only[W_slices_swapRangeCmpFunc_impl_Request_fSwapR_1,fSwapR,std,Nat.reduceAdd,szF,toF,eqF,mkF,heF,List.length_modify] at *
  try simp(disch:=omega) only[wrapId'] at *
 all_goals first|omega|exact⟨by omega,by omega,swapI0⟩|exact⟨⟨by omega,by omega,swapI a3 (by omega) (by omega) (by omega) (by omega)⟩,by omega⟩|(rw[a3];congr 1;omega))
def E54:=E53.addG 146 fSwapR
theorem E54ok:EOk Tryz.prog E54:=E53ok.addG k146_53
def fRotR:GS:=⟨[.k (.sl .request),.l (.v (.el .int)),.l (.v (.el .int)),.l (.v (.el .int)),.l (.c 33 [.el .page])],[],fun(x_:(List SRequest)×Int×Int×Int×(SPage×Unit)×Unit)=>0≤x_.2.1∧x_.2.1<x_.2.2.1∧x_.2.2.1<x_.2.2.2.1∧x_.2.2.2.1≤x_.1.length∧x_.1.length≤100000000000,fun(x_:(List SRequest)×Int×Int×Int×(SPage×Unit)×Unit)=>((()),(rotR x_.1 x_.2.1.toNat x_.2.2.1.toNat x_.2.2.2.1.toNat,()))⟩
abbrev W_slices_rotateCmpFunc_impl_Request_fRotR_2 (l:(List SRequest)) (a:Int) (m:Int) (b:Int) (u:(SPage×Unit)):LInv:=⟨[⟨.s,10,true,.el .int⟩,⟨.s,11,true,.el .int⟩,⟨.t,0,true,.sl .request⟩],fun _ (x_:Int×Int×(List SRequest)×Unit)=>0<x_.1∧0<x_.2.1∧x_.1≤m-a∧x_.2.1≤b-m∧x_.2.2.1.length=l.length∧rotR x_.2.2.1 (m-x_.1).toNat m.toNat (m+x_.2.1).toNat=rotR l a.toNat m.toNat b.toNat,fun(x_:Int×Int×(List SRequest)×Unit)=>(x_.1+x_.2.1).toNat⟩
theorem k117_54:fRotR.ok Tryz.prog 117:=GS.of (S:=fRotR) (L:=fun⟨l,a,m,b,u,_⟩=>fun|2=>some (W_slices_rotateCmpFunc_impl_Request_fRotR_2 l a m b u)|_=>none) (kp:=[0,2,3,4,10,11,20,23,1000020,1000023]) E54ok Tryz.func117 (by kernel_rfl) (by kernel_rfl) (by
 rintro⟨(l:List SRequest),(a:Int),(m:Int),(b:Int),(u:SPage×PUnit),_⟩ hp
 refine ho (lpx (W_slices_rotateCmpFunc_impl_Request_fRotR_2 l a m b u) (wr (m-a),(wr (b-m),(l,()))) fun(y1:Int×Int×List SRequest×PUnit) bk1=>.br (y1.1 != y1.2.1) (.br (decide (y1.1>y1.2.1)) (.ob (fSwapR.pre (y1.2.2.1,wr (m-y1.1),m,y1.2.1,(u.1,()),()))<|.lt _ (fSwapR.fn (y1.2.2.1,wr (m-y1.1),m,y1.2.1,(u.1,()),())) fun z2=>.ob (Value.int IntKind.i64 m=Value.int IntKind.i64 m)<|.ob (Value.int IntKind.i64 b=Value.int IntKind.i64 b)<|.ob (enc Ty.page u.1=enc Ty.page u.1)<|.ob (bk1 (wr (y1.1-y1.2.1),(y1.2.1,(z2.2.1,()))))<|.ok) (.ob (fSwapR.pre (y1.2.2.1,wr (m-y1.1),wr (wr (m+y1.2.1)-y1.1),y1.1,(u.1,()),()))<|.lt _ (fSwapR.fn (y1.2.2.1,wr (m-y1.1),wr (wr (m+y1.2.1)-y1.1),y1.1,(u.1,()),())) fun z3=>.ob (Value.int IntKind.i64 m=Value.int IntKind.i64 m)<|.ob (Value.int IntKind.i64 b=Value.int IntKind.i64 b)<|.ob (enc Ty.page u.1=enc Ty.page u.1)<|.ob (bk1 (y1.1,(wr (y1.2.1-y1.1),(z3.2.1,()))))<|.ok)) (.ob (fSwapR.pre (y1.2.2.1,wr (m-y1.1),m,y1.1,(u.1,()),()))<|.lt _ (fSwapR.fn (y1.2.2.1,wr (m-y1.1),m,y1.1,(u.1,()),())) fun z4=>GS.out fRotR ((()),(z4.2.1,())))) ?_
 refine lpx_i ?_ fun(y1:Int×Int×List SRequest×PUnit) i1=>br_i (fun h2=>br_i (fun h3=>ob_i ?_ fun o4=>lt_i (ob_i rfl fun _=>ob_i rfl fun _=>ob_i rfl fun _=>ob_i ?_ fun o5=>trivial)) (fun h3=>ob_i ?_ fun o6=>lt_i (ob_i rfl fun _=>ob_i rfl fun _=>ob_i rfl fun _=>ob_i ?_ fun o7=>trivial))) (fun h2=>ob_i ?_ fun o8=>lt_i (GS.leafY ?_))
 all_goals try (obtain⟨a1,a2,a3,a4,a5,a6⟩:=i1)
 all_goals
  try simp only[std0] at *
  try simp only[W_slices_rotateCmpFunc_impl_Request_fRotR_2,fRotR,fSwapR,std,Nat.reduceAdd,szF,toF,eqF,mkF,heF,swapR_len] at *
  try simp(disch:=omega) only[wrapId'] at *
 all_goals first|omega|skip
 ·exact⟨by omega,by omega,by omega,by omega,by congr 1<;>omega⟩
 ·exact⟨⟨by omega,by omega,by omega,by omega,a5,(rotI_left (by omega) (by omega) (by omega) (by omega) (by omega)).trans a6⟩,by omega⟩
 ·exact⟨⟨by omega,by omega,by omega,by omega,a5,(rotI_right (by omega) (by omega) (by omega) (by omega) (by omega)).trans a6⟩,by omega⟩
 ·have h5:y1.2.1=y1.1:=h2.symm
  rw[h5] at a6
  exact(rotI_same (by omega) (by omega) (by omega)).trans a6)
def E55:=E54.addG 117 fRotR
theorem E55ok:EOk Tryz.prog E55:=E54ok.addG k117_54
def fSymM:GS:=⟨[.k (.sl .request),.l (.v (.el .int)),.l (.v (.el .int)),.l (.v (.el .int)),.l (.c 33 [.el .page])],[],fun(x_:(List SRequest)×Int×Int×Int×(SPage×Unit)×Unit)=>okPg x_.2.2.2.2.1.1∧x_.1.length≤100000000000∧MgI (classOf x_.2.2.2.2.1.1) x_.1 x_.2.1 x_.2.2.1 x_.2.2.2.1,fun(x_:(List SRequest)×Int×Int×Int×(SPage×Unit)×Unit)=>((()),(sortR (classOf x_.2.2.2.2.1.1) x_.2.1.toNat x_.2.2.2.1.toNat x_.1,()))⟩
abbrev mSymM (x:List SRequest×Int×Int×Int×(SPage×Unit)×Unit):Nat:=(x.2.2.2.1-x.2.1).toNat
abbrev W_slices_symMergeCmpFunc_impl_Request_fSymM_3 (l:(List SRequest)) (a:Int) (m:Int) (b:Int) (u:(SPage×Unit)):LInv:=⟨[⟨.s,10,true,.el .int⟩,⟨.s,11,true,.el .int⟩,⟨.t,0,true,.sl .request⟩],fun _ (x_:Int×Int×(List SRequest)×Unit)=>x_.2.2.1=l∧BsL (classOf u.1) l a m b x_.1 x_.2.1,fun(x_:Int×Int×(List SRequest)×Unit)=>(x_.2.1-x_.1).toNat⟩
abbrev W_slices_symMergeCmpFunc_impl_Request_fSymM_9 (l:(List SRequest)) (a:Int) (m:Int) (b:Int) (u:(SPage×Unit)):LInv:=⟨[⟨.s,13,true,.el .int⟩,⟨.t,0,true,.sl .request⟩,⟨.s,10,true,.el .int⟩],fun(z_:Int×(List SRequest)×Int×Unit) (x_:Int×(List SRequest)×Int×Unit)=>x_.2.2.1=z_.2.2.1∧a≤x_.1∧x_.1+1≤x_.2.2.1∧x_.2.1=rotR z_.2.1 a.toNat (a.toNat+1) (x_.1.toNat+1),fun(x_:Int×(List SRequest)×Int×Unit)=>(x_.2.2.1-x_.1).toNat⟩
abbrev W_slices_symMergeCmpFunc_impl_Request_fSymM_15 (l:(List SRequest)) (a:Int) (m:Int) (b:Int) (u:(SPage×Unit)):LInv:=⟨[⟨.s,14,true,.el .int⟩,⟨.s,15,true,.el .int⟩,⟨.t,0,true,.sl .request⟩],fun _ (x_:Int×Int×(List SRequest)×Unit)=>x_.2.2.1=l∧BsR (classOf u.1) l a m b x_.1 x_.2.1,fun(x_:Int×Int×(List SRequest)×Unit)=>(x_.2.1-x_.1).toNat⟩
abbrev W_slices_symMergeCmpFunc_impl_Request_fSymM_21 (l:(List SRequest)) (a:Int) (m:Int) (b:Int) (u:(SPage×Unit)):LInv:=⟨[⟨.s,17,true,.el .int⟩,⟨.t,0,true,.sl .request⟩,⟨.s,14,true,.el .int⟩],fun(z_:Int×(List SRequest)×Int×Unit) (x_:Int×(List SRequest)×Int×Unit)=>x_.2.2.1=z_.2.2.1∧x_.2.2.1≤x_.1∧x_.1≤m∧x_.2.1=rotR z_.2.1 x_.1.toNat m.toNat (m.toNat+1),fun(x_:Int×(List SRequest)×Int×Unit)=>x_.1.toNat⟩
abbrev W_slices_symMergeCmpFunc_impl_Request_fSymM_33 (l:(List SRequest)) (a:Int) (m:Int) (b:Int) (u:(SPage×Unit)):LInv:=⟨[⟨.s,20,true,.el .int⟩,⟨.s,21,true,.el .int⟩,⟨.t,0,true,.sl .request⟩],fun _ (x_:Int×Int×(List SRequest)×Unit)=>x_.2.2.1=l∧SymI (classOf u.1) l a m b x_.1 x_.2.1,fun(x_:Int×Int×(List SRequest)×Unit)=>(x_.2.1-x_.1).toNat⟩
theorem k95_55:fSymM.ok Tryz.prog 95:=GS.ofRec (S:=fSymM) (L:=fun⟨l,a,m,b,u,_⟩=>fun|3=>some (W_slices_symMergeCmpFunc_impl_Request_fSymM_3 l a m b u)|9=>some (W_slices_symMergeCmpFunc_impl_Request_fSymM_9 l a m b u)|15=>some (W_slices_symMergeCmpFunc_impl_Request_fSymM_15 l a m b u)|21=>some (W_slices_symMergeCmpFunc_impl_Request_fSymM_21 l a m b u)|33=>some (W_slices_symMergeCmpFunc_impl_Request_fSymM_33 l a m b u)|_=>none) (kp:=[0,1,2,3,4,10,11,12,13,14,15,16,17,18,19,20,21,22,23,24,28,33,50,58,80,85,103,110,140,151,171,185,199,213,1000028,1000033,1000050,1000058,1000080,1000085,1000103,1000110,1000140,1000151,1000171,1000185,1000199,1000213]) mSymM E55ok Tryz.func95 (by kernel_rfl) (by kernel_rfl) (by
 intro n0;rintro⟨(l:List SRequest),(a:Int),(m:Int),(b:Int),(u:SPage×PUnit),_⟩ hp hm
 refine ho (.br (wr (m-a)==1) (lpx (W_slices_symMergeCmpFunc_impl_Request_fSymM_3 l a m b u) (m,(b,(l,()))) fun(y2:Int×Int×List SRequest×PUnit) bk2=>.br (decide (y2.1<y2.2.1)) (.ob ((0:Int)≤(1:Int))<|.ob (0≤wr ((IntKind.u64.wrap (wr (y2.1+y2.2.1))).fdiv (2:Int))∧wr ((IntKind.u64.wrap (wr (y2.1+y2.2.1))).fdiv (2:Int))<(↑y2.2.2.1.length:Int))<|.ob ((wr ((IntKind.u64.wrap (wr (y2.1+y2.2.1))).fdiv (2:Int))).toNat<y2.2.2.1.length)<|.ob (inB a y2.2.2.1.length)<|.ob (a.toNat<y2.2.2.1.length)<|.cl fSortReq1 (y2.2.2.1.getD (wr ((IntKind.u64.wrap (wr (y2.1+y2.2.1))).fdiv (2:Int))).toNat default,y2.2.2.1.getD a.toNat default,u.1,()) fun(z2:Int×PUnit)=>.br (decide (z2.1<0)) (.ob (Value.int IntKind.i64 a=Value.int IntKind.i64 a)<|.ob (Value.int IntKind.i64 m=Value.int IntKind.i64 m)<|.ob (Value.int IntKind.i64 b=Value.int IntKind.i64 b)<|.ob (enc Ty.page u.1=enc Ty.page u.1)<|.ob (bk2 (w1 (wr ((IntKind.u64.wrap (wr (y2.1+y2.2.1))).fdiv (2:Int))),(y2.2.1,(y2.2.2.1,()))))<|.ok) (.ob (Value.int IntKind.i64 a=Value.int IntKind.i64 a)<|.ob (Value.int IntKind.i64 m=Value.int IntKind.i64 m)<|.ob (Value.int IntKind.i64 b=Value.int IntKind.i64 b)<|.ob (enc Ty.page u.1=enc Ty.page u.1)<|.ob (bk2 (y2.1,(wr ((IntKind.u64.wrap (wr (y2.1+y2.2.1))).fdiv (2:Int)),(y2.2.2.1,()))))<|.ok)) (lpx (W_slices_symMergeCmpFunc_impl_Request_fSymM_9 l a m b u) (a,(y2.2.2.1,(y2.1,()))) fun(y13:Int×List SRequest×Int×PUnit) bk13=>.br (decide (y13.1<wr (y13.2.2.1-(1:Int)))) (.lp (Bool) (True) (fun x=>True) fun y15=>.br (y15) (.ob (0≤w1 y13.1∧w1 y13.1<(↑y13.2.1.length:Int))<|.ob ((w1 y13.1).toNat<y13.2.1.length)<|.ob (inB y13.1 y13.2.1.length)<|.ob (y13.1.toNat<y13.2.1.length)<|.ob (inB y13.1 y13.2.1.length)<|.ob (y13.1.toNat<y13.2.1.length)<|.lt (List SRequest) (y13.2.1.modify y13.1.toNat fun z=>y13.2.1.getD (w1 y13.1).toNat default) fun z3=>.ob (0≤w1 y13.1∧w1 y13.1<(↑z3.length:Int))<|.ob ((w1 y13.1).toNat<z3.length)<|.lt (List SRequest) (z3.modify (w1 y13.1).toNat fun z=>y13.2.1.getD y13.1.toNat default) fun z4=>.ob (Value.int IntKind.i64 y2.2.1=Value.int IntKind.i64 y2.2.1)<|.ob (Value.int IntKind.i64 a=Value.int IntKind.i64 a)<|.ob (Value.int IntKind.i64 m=Value.int IntKind.i64 m)<|.ob (Value.int IntKind.i64 b=Value.int IntKind.i64 b)<|.ob (enc Ty.page u.1=enc Ty.page u.1)<|.ob (bk13 (w1 y13.1,(z4,(y13.2.2.1,()))))<|.ok) (.ob (0≤w1 y13.1∧w1 y13.1<(↑y13.2.1.length:Int))<|.ob ((w1 y13.1).toNat<y13.2.1.length)<|.ob (inB y13.1 y13.2.1.length)<|.ob (y13.1.toNat<y13.2.1.length)<|.ob (inB y13.1 y13.2.1.length)<|.ob (y13.1.toNat<y13.2.1.length)<|.lt (List SRequest) (y13.2.1.modify y13.1.toNat fun z=>y13.2.1.getD (w1 y13.1).toNat default) fun z5=>.ob (0≤w1 y13.1∧w1 y13.1<(↑z5.length:Int))<|.ob ((w1 y13.1).toNat<z5.length)<|.lt (List SRequest) (z5.modify (w1 y13.1).toNat fun z=>y13.2.1.getD y13.1.toNat default) fun z6=>.ob (Value.int IntKind.i64 y2.2.1=Value.int IntKind.i64 y2.2.1)<|.ob (Value.int IntKind.i64 a=Value.int IntKind.i64 a)<|.ob (Value.int IntKind.i64 m=Value.int IntKind.i64 m)<|.ob (Value.int IntKind.i64 b=Value.int IntKind.i64 b)<|.ob (enc Ty.page u.1=enc Ty.page u.1)<|.ob (bk13 (w1 y13.1,(z6,(y13.2.2.1,()))))<|.ok)) (GS.out fSymM ((()),(y13.2.1,()))))) (.br (wr (b-m)==1) (lpx (W_slices_symMergeCmpFunc_impl_Request_fSymM_15 l a m b u) (a,(m,(l,()))) fun(y36:Int×Int×List SRequest×PUnit) bk36=>.br (decide (y36.1<y36.2.1)) (.ob ((0:Int)≤(1:Int))<|.ob (inB m y36.2.2.1.length)<|.ob (m.toNat<y36.2.2.1.length)<|.ob (0≤wr ((IntKind.u64.wrap (wr (y36.1+y36.2.1))).fdiv (2:Int))∧wr ((IntKind.u64.wrap (wr (y36.1+y36.2.1))).fdiv (2:Int))<(↑y36.2.2.1.length:Int))<|.ob ((wr ((IntKind.u64.wrap (wr (y36.1+y36.2.1))).fdiv (2:Int))).toNat<y36.2.2.1.length)<|.cl fSortReq1 (y36.2.2.1.getD m.toNat default,y36.2.2.1.getD (wr ((IntKind.u64.wrap (wr (y36.1+y36.2.1))).fdiv (2:Int))).toNat default,u.1,()) fun(z7:Int×PUnit)=>.br (!decide (z7.1<0)) (.ob (Value.int IntKind.i64 a=Value.int IntKind.i64 a)<|.ob (Value.int IntKind.i64 m=Value.int IntKind.i64 m)<|.ob (Value.int IntKind.i64 b=Value.int IntKind.i64 b)<|.ob (enc Ty.page u.1=enc Ty.page u.1)<|.ob (bk36 (w1 (wr ((IntKind.u64.wrap (wr (y36.1+y36.2.1))).fdiv (2:Int))),(y36.2.1,(y36.2.2.1,()))))<|.ok) (.ob (Value.int IntKind.i64 a=Value.int IntKind.i64 a)<|.ob (Value.int IntKind.i64 m=Value.int IntKind.i64 m)<|.ob (Value.int IntKind.i64 b=Value.int IntKind.i64 b)<|.ob (enc Ty.page u.1=enc Ty.page u.1)<|.ob (bk36 (y36.1,(wr ((IntKind.u64.wrap (wr (y36.1+y36.2.1))).fdiv (2:Int)),(y36.2.2.1,()))))<|.ok)) (lpx (W_slices_symMergeCmpFunc_impl_Request_fSymM_21 l a m b u) (m,(y36.2.2.1,(y36.1,()))) fun(y47:Int×List SRequest×Int×PUnit) bk47=>.br (decide (y47.1>y47.2.2.1)) (.lp (Bool) (True) (fun x=>True) fun y49=>.br (y49) (.ob (0≤wr (y47.1-(1:Int))∧wr (y47.1-(1:Int))<(↑y47.2.1.length:Int))<|.ob ((wr (y47.1-(1:Int))).toNat<y47.2.1.length)<|.ob (inB y47.1 y47.2.1.length)<|.ob (y47.1.toNat<y47.2.1.length)<|.ob (inB y47.1 y47.2.1.length)<|.ob (y47.1.toNat<y47.2.1.length)<|.lt (List SRequest) (y47.2.1.modify y47.1.toNat fun z=>y47.2.1.getD (wr (y47.1-(1:Int))).toNat default) fun z8=>.ob (0≤wr (y47.1-(1:Int))∧wr (y47.1-(1:Int))<(↑z8.length:Int))<|.ob ((wr (y47.1-(1:Int))).toNat<z8.length)<|.lt (List SRequest) (z8.modify (wr (y47.1-(1:Int))).toNat fun z=>y47.2.1.getD y47.1.toNat default) fun z9=>.ob (Value.int IntKind.i64 y36.2.1=Value.int IntKind.i64 y36.2.1)<|.ob (Value.int IntKind.i64 a=Value.int IntKind.i64 a)<|.ob (Value.int IntKind.i64 m=Value.int IntKind.i64 m)<|.ob (Value.int IntKind.i64 b=Value.int IntKind.i64 b)<|.ob (enc Ty.page u.1=enc Ty.page u.1)<|.ob (bk47 (wr (y47.1-(1:Int)),(z9,(y47.2.2.1,()))))<|.ok) (.ob (0≤wr (y47.1-(1:Int))∧wr (y47.1-(1:Int))<(↑y47.2.1.length:Int))<|.ob ((wr (y47.1-(1:Int))).toNat<y47.2.1.length)<|.ob (inB y47.1 y47.2.1.length)<|.ob (y47.1.toNat<y47.2.1.length)<|.ob (inB y47.1 y47.2.1.length)<|.ob (y47.1.toNat<y47.2.1.length)<|.lt (List SRequest) (y47.2.1.modify y47.1.toNat fun z=>y47.2.1.getD (wr (y47.1-(1:Int))).toNat default) fun z10=>.ob (0≤wr (y47.1-(1:Int))∧wr (y47.1-(1:Int))<(↑z10.length:Int))<|.ob ((wr (y47.1-(1:Int))).toNat<z10.length)<|.lt (List SRequest) (z10.modify (wr (y47.1-(1:Int))).toNat fun z=>y47.2.1.getD y47.1.toNat default) fun z11=>.ob (Value.int IntKind.i64 y36.2.1=Value.int IntKind.i64 y36.2.1)<|.ob (Value.int IntKind.i64 a=Value.int IntKind.i64 a)<|.ob (Value.int IntKind.i64 m=Value.int IntKind.i64 m)<|.ob (Value.int IntKind.i64 b=Value.int IntKind.i64 b)<|.ob (enc Ty.page u.1=enc Ty.page u.1)<|.ob (bk47 (wr (y47.1-(1:Int)),(z11,(y47.2.2.1,()))))<|.ok)) (GS.out fSymM ((()),(y47.2.1,()))))) (.ob ((0:Int)≤(1:Int))<|.br (decide (m>wr ((IntKind.u64.wrap (wr (a+b))).fdiv (2:Int)))) (lpx (W_slices_symMergeCmpFunc_impl_Request_fSymM_33 l a m b u) (wr (wr (wr ((IntKind.u64.wrap (wr (a+b))).fdiv (2:Int))+m)-b),(wr ((IntKind.u64.wrap (wr (a+b))).fdiv (2:Int)),(l,()))) fun(y71:Int×Int×List SRequest×PUnit) bk71=>.br (decide (y71.1<y71.2.1)) (.ob ((0:Int)≤(1:Int))<|.ob (0≤wr (wr (wr (wr ((IntKind.u64.wrap (wr (a+b))).fdiv (2:Int))+m)-(1:Int))-wr ((IntKind.u64.wrap (wr (y71.1+y71.2.1))).fdiv (2:Int)))∧wr (wr (wr (wr ((IntKind.u64.wrap (wr (a+b))).fdiv (2:Int))+m)-(1:Int))-wr ((IntKind.u64.wrap (wr (y71.1+y71.2.1))).fdiv (2:Int)))<(↑y71.2.2.1.length:Int))<|.ob ((wr (wr (wr (wr ((IntKind.u64.wrap (wr (a+b))).fdiv (2:Int))+m)-(1:Int))-wr ((IntKind.u64.wrap (wr (y71.1+y71.2.1))).fdiv (2:Int)))).toNat<y71.2.2.1.length)<|.ob (0≤wr ((IntKind.u64.wrap (wr (y71.1+y71.2.1))).fdiv (2:Int))∧wr ((IntKind.u64.wrap (wr (y71.1+y71.2.1))).fdiv (2:Int))<(↑y71.2.2.1.length:Int))<|.ob ((wr ((IntKind.u64.wrap (wr (y71.1+y71.2.1))).fdiv (2:Int))).toNat<y71.2.2.1.length)<|.cl fSortReq1 (y71.2.2.1.getD (wr (wr (wr (wr ((IntKind.u64.wrap (wr (a+b))).fdiv (2:Int))+m)-(1:Int))-wr ((IntKind.u64.wrap (wr (y71.1+y71.2.1))).fdiv (2:Int)))).toNat default,y71.2.2.1.getD (wr ((IntKind.u64.wrap (wr (y71.1+y71.2.1))).fdiv (2:Int))).toNat default,u.1,()) fun(z12:Int×PUnit)=>.br (!decide (z12.1<0)) (.ob (Value.int IntKind.i64 a=Value.int IntKind.i64 a)<|.ob (Value.int IntKind.i64 m=Value.int IntKind.i64 m)<|.ob (Value.int IntKind.i64 b=Value.int IntKind.i64 b)<|.ob (enc Ty.page u.1=enc Ty.page u.1)<|.ob (Value.int IntKind.i64 (wr ((IntKind.u64.wrap (wr (a+b))).fdiv (2:Int)))=Value.int IntKind.i64 (wr ((IntKind.u64.wrap (wr (a+b))).fdiv (2:Int))))<|.ob (Value.int IntKind.i64 (wr (wr ((IntKind.u64.wrap (wr (a+b))).fdiv (2:Int))+m))=Value.int IntKind.i64 (wr (wr ((IntKind.u64.wrap (wr (a+b))).fdiv (2:Int))+m)))<|.ob (Value.int IntKind.i64 (wr (wr (wr ((IntKind.u64.wrap (wr (a+b))).fdiv (2:Int))+m)-(1:Int)))=Value.int IntKind.i64 (wr (wr (wr ((IntKind.u64.wrap (wr (a+b))).fdiv (2:Int))+m)-(1:Int))))<|.ob (bk71 (w1 (wr ((IntKind.u64.wrap (wr (y71.1+y71.2.1))).fdiv (2:Int))),(y71.2.1,(y71.2.2.1,()))))<|.ok) (.ob (Value.int IntKind.i64 a=Value.int IntKind.i64 a)<|.ob (Value.int IntKind.i64 m=Value.int IntKind.i64 m)<|.ob (Value.int IntKind.i64 b=Value.int IntKind.i64 b)<|.ob (enc Ty.page u.1=enc Ty.page u.1)<|.ob (Value.int IntKind.i64 (wr ((IntKind.u64.wrap (wr (a+b))).fdiv (2:Int)))=Value.int IntKind.i64 (wr ((IntKind.u64.wrap (wr (a+b))).fdiv (2:Int))))<|.ob (Value.int IntKind.i64 (wr (wr ((IntKind.u64.wrap (wr (a+b))).fdiv (2:Int))+m))=Value.int IntKind.i64 (wr (wr ((IntKind.u64.wrap (wr (a+b))).fdiv (2:Int))+m)))<|.ob (Value.int IntKind.i64 (wr (wr (wr ((IntKind.u64.wrap (wr (a+b))).fdiv (2:Int))+m)-(1:Int)))=Value.int IntKind.i64 (wr (wr (wr ((IntKind.u64.wrap (wr (a+b))).fdiv (2:Int))+m)-(1:Int))))<|.ob (bk71 (y71.1,(wr ((IntKind.u64.wrap (wr (y71.1+y71.2.1))).fdiv (2:Int)),(y71.2.2.1,()))))<|.ok)) (.br (decide (y71.1<m)) (.br (decide (m<wr (wr (wr ((IntKind.u64.wrap (wr (a+b))).fdiv (2:Int))+m)-y71.1))) (.ob (fRotR.pre (y71.2.2.1,y71.1,m,wr (wr (wr ((IntKind.u64.wrap (wr (a+b))).fdiv (2:Int))+m)-y71.1),(u.1,()),()))<|.lt _ (fRotR.fn (y71.2.2.1,y71.1,m,wr (wr (wr ((IntKind.u64.wrap (wr (a+b))).fdiv (2:Int))+m)-y71.1),(u.1,()),())) fun z13=>.br (decide (a<y71.1)) (.br (decide (y71.1<wr ((IntKind.u64.wrap (wr (a+b))).fdiv (2:Int)))) (.ob (fSymM.pre (z13.2.1,a,y71.1,wr ((IntKind.u64.wrap (wr (a+b))).fdiv (2:Int)),(u.1,()),())∧mSymM (z13.2.1,a,y71.1,wr ((IntKind.u64.wrap (wr (a+b))).fdiv (2:Int)),(u.1,()),())<n0)<|.lt _ (fSymM.fn (z13.2.1,a,y71.1,wr ((IntKind.u64.wrap (wr (a+b))).fdiv (2:Int)),(u.1,()),())) fun z14=>.br (decide (wr ((IntKind.u64.wrap (wr (a+b))).fdiv (2:Int))<wr (wr (wr ((IntKind.u64.wrap (wr (a+b))).fdiv (2:Int))+m)-y71.1))) (.br (decide (wr (wr (wr ((IntKind.u64.wrap (wr (a+b))).fdiv (2:Int))+m)-y71.1)<b)) (.ob (fSymM.pre (z14.2.1,wr ((IntKind.u64.wrap (wr (a+b))).fdiv (2:Int)),wr (wr (wr ((IntKind.u64.wrap (wr (a+b))).fdiv (2:Int))+m)-y71.1),b,(u.1,()),())∧mSymM (z14.2.1,wr ((IntKind.u64.wrap (wr (a+b))).fdiv (2:Int)),wr (wr (wr ((IntKind.u64.wrap (wr (a+b))).fdiv (2:Int))+m)-y71.1),b,(u.1,()),())<n0)<|.lt _ (fSymM.fn (z14.2.1,wr ((IntKind.u64.wrap (wr (a+b))).fdiv (2:Int)),wr (wr (wr ((IntKind.u64.wrap (wr (a+b))).fdiv (2:Int))+m)-y71.1),b,(u.1,()),())) fun z15=>GS.out fSymM ((()),(z15.2.1,()))) (GS.out fSymM ((()),(z14.2.1,())))) (GS.out fSymM ((()),(z14.2.1,())))) (.br (decide (wr ((IntKind.u64.wrap (wr (a+b))).fdiv (2:Int))<wr (wr (wr ((IntKind.u64.wrap (wr (a+b))).fdiv (2:Int))+m)-y71.1))) (.br (decide (wr (wr (wr ((IntKind.u64.wrap (wr (a+b))).fdiv (2:Int))+m)-y71.1)<b)) (.ob (fSymM.pre (z13.2.1,wr ((IntKind.u64.wrap (wr (a+b))).fdiv (2:Int)),wr (wr (wr ((IntKind.u64.wrap (wr (a+b))).fdiv (2:Int))+m)-y71.1),b,(u.1,()),())∧mSymM (z13.2.1,wr ((IntKind.u64.wrap (wr (a+b))).fdiv (2:Int)),wr (wr (wr ((IntKind.u64.wrap (wr (a+b))).fdiv (2:Int))+m)-y71.1),b,(u.1,()),())<n0)<|.lt _ (fSymM.fn (z13.2.1,wr ((IntKind.u64.wrap (wr (a+b))).fdiv (2:Int)),wr (wr (wr ((IntKind.u64.wrap (wr (a+b))).fdiv (2:Int))+m)-y71.1),b,(u.1,()),())) fun z16=>GS.out fSymM ((()),(z16.2.1,()))) (GS.out fSymM ((()),(z13.2.1,())))) (GS.out fSymM ((()),(z13.2.1,()))))) (.br (decide (wr ((IntKind.u64.wrap (wr (a+b))).fdiv (2:Int))<wr (wr (wr ((IntKind.u64.wrap (wr (a+b))).fdiv (2:Int))+m)-y71.1))) (.br (decide (wr (wr (wr ((IntKind.u64.wrap (wr (a+b))).fdiv (2:Int))+m)-y71.1)<b)) (.ob (fSymM.pre (z13.2.1,wr ((IntKind.u64.wrap (wr (a+b))).fdiv (2:Int)),wr (wr (wr ((IntKind.u64.wrap (wr (a+b))).fdiv (2:Int))+m)-y71.1),b,(u.1,()),())∧mSymM (z13.2.1,wr ((IntKind.u64.wrap (wr (a+b))).fdiv (2:Int)),wr (wr (wr ((IntKind.u64.wrap (wr (a+b))).fdiv (2:Int))+m)-y71.1),b,(u.1,()),())<n0)<|.lt _ (fSymM.fn (z13.2.1,wr ((IntKind.u64.wrap (wr (a+b))).fdiv (2:Int)),wr (wr (wr ((IntKind.u64.wrap (wr (a+b))).fdiv (2:Int))+m)-y71.1),b,(u.1,()),())) fun z17=>GS.out fSymM ((()),(z17.2.1,()))) (GS.out fSymM ((()),(z13.2.1,())))) (GS.out fSymM ((()),(z13.2.1,()))))) (.br (decide (a<y71.1)) (.br (decide (y71.1<wr ((IntKind.u64.wrap (wr (a+b))).fdiv (2:Int)))) (.ob (fSymM.pre (y71.2.2.1,a,y71.1,wr ((IntKind.u64.wrap (wr (a+b))).fdiv (2:Int)),(u.1,()),())∧mSymM (y71.2.2.1,a,y71.1,wr ((IntKind.u64.wrap (wr (a+b))).fdiv (2:Int)),(u.1,()),())<n0)<|.lt _ (fSymM.fn (y71.2.2.1,a,y71.1,wr ((IntKind.u64.wrap (wr (a+b))).fdiv (2:Int)),(u.1,()),())) fun z18=>.br (decide (wr ((IntKind.u64.wrap (wr (a+b))).fdiv (2:Int))<wr (wr (wr ((IntKind.u64.wrap (wr (a+b))).fdiv (2:Int))+m)-y71.1))) (.br (decide (wr (wr (wr ((IntKind.u64.wrap (wr (a+b))).fdiv (2:Int))+m)-y71.1)<b)) (.ob (fSymM.pre (z18.2.1,wr ((IntKind.u64.wrap (wr (a+b))).fdiv (2:Int)),wr (wr (wr ((IntKind.u64.wrap (wr (a+b))).fdiv (2:Int))+m)-y71.1),b,(u.1,()),())∧mSymM (z18.2.1,wr ((IntKind.u64.wrap (wr (a+b))).fdiv (2:Int)),wr (wr (wr ((IntKind.u64.wrap (wr (a+b))).fdiv (2:Int))+m)-y71.1),b,(u.1,()),())<n0)<|.lt _ (fSymM.fn (z18.2.1,wr ((IntKind.u64.wrap (wr (a+b))).fdiv (2:Int)),wr (wr (wr ((IntKind.u64.wrap (wr (a+b))).fdiv (2:Int))+m)-y71.1),b,(u.1,()),())) fun z19=>GS.out fSymM ((()),(z19.2.1,()))) (GS.out fSymM ((()),(z18.2.1,())))) (GS.out fSymM ((()),(z18.2.1,())))) (.br (decide (wr ((IntKind.u64.wrap (wr (a+b))).fdiv (2:Int))<wr (wr (wr ((IntKind.u64.wrap (wr (a+b))).fdiv (2:Int))+m)-y71.1))) (.br (decide (wr (wr (wr ((IntKind.u64.wrap (wr (a+b))).fdiv (2:Int))+m)-y71.1)<b)) (.ob (fSymM.pre (y71.2.2.1,wr ((IntKind.u64.wrap (wr (a+b))).fdiv (2:Int)),wr (wr (wr ((IntKind.u64.wrap (wr (a+b))).fdiv (2:Int))+m)-y71.1),b,(u.1,()),())∧mSymM (y71.2.2.1,wr ((IntKind.u64.wrap (wr (a+b))).fdiv (2:Int)),wr (wr (wr ((IntKind.u64.wrap (wr (a+b))).fdiv (2:Int))+m)-y71.1),b,(u.1,()),())<n0)<|.lt _ (fSymM.fn (y71.2.2.1,wr ((IntKind.u64.wrap (wr (a+b))).fdiv (2:Int)),wr (wr (wr ((IntKind.u64.wrap (wr (a+b))).fdiv (2:Int))+m)-y71.1),b,(u.1,()),())) fun z20=>GS.out fSymM ((()),(z20.2.1,()))) (GS.out fSymM ((()),(y71.2.2.1,())))) (GS.out fSymM ((()),(y71.2.2.1,()))))) (.br (decide (wr ((IntKind.u64.wrap (wr (a+b))).fdiv (2:Int))<wr (wr (wr ((IntKind.u64.wrap (wr (a+b))).fdiv (2:Int))+m)-y71.1))) (.br (decide (wr (wr (wr ((IntKind.u64.wrap (wr (a+b))).fdiv (2:Int))+m)-y71.1)<b)) (.ob (fSymM.pre (y71.2.2.1,wr ((IntKind.u64.wrap (wr (a+b))).fdiv (2:Int)),wr (wr (wr ((IntKind.u64.wrap (wr (a+b))).fdiv (2:Int))+m)-y71.1),b,(u.1,()),())∧mSymM (y71.2.2.1,wr ((IntKind.u64.wrap (wr (a+b))).fdiv (2:Int)),wr (wr (wr ((IntKind.u64.wrap (wr (a+b))).fdiv (2:Int))+m)-y71.1),b,(u.1,()),())<n0)<|.lt _ (fSymM.fn (y71.2.2.1,wr ((IntKind.u64.wrap (wr (a+b))).fdiv (2:Int)),wr (wr (wr ((IntKind.u64.wrap (wr (a+b))).fdiv (2:Int))+m)-y71.1),b,(u.1,()),())) fun z21=>GS.out fSymM ((()),(z21.2.1,()))) (GS.out fSymM ((()),(y71.2.2.1,())))) (GS.out fSymM ((()),(y71.2.2.1,())))))) (.br (decide (a<y71.1)) (.br (decide (y71.1<wr ((IntKind.u64.wrap (wr (a+b))).fdiv (2:Int)))) (.ob (fSymM.pre (y71.2.2.1,a,y71.1,wr ((IntKind.u64.wrap (wr (a+b))).fdiv (2:Int)),(u.1,()),())∧mSymM (y71.2.2.1,a,y71.1,wr ((IntKind.u64.wrap (wr (a+b))).fdiv (2:Int)),(u.1,()),())<n0)<|.lt _ (fSymM.fn (y71.2.2.1,a,y71.1,wr ((IntKind.u64.wrap (wr (a+b))).fdiv (2:Int)),(u.1,()),())) fun z22=>.br (decide (wr ((IntKind.u64.wrap (wr (a+b))).fdiv (2:Int))<wr (wr (wr ((IntKind.u64.wrap (wr (a+b))).fdiv (2:Int))+m)-y71.1))) (.br (decide (wr (wr (wr ((IntKind.u64.wrap (wr (a+b))).fdiv (2:Int))+m)-y71.1)<b)) (.ob (fSymM.pre (z22.2.1,wr ((IntKind.u64.wrap (wr (a+b))).fdiv (2:Int)),wr (wr (wr ((IntKind.u64.wrap (wr (a+b))).fdiv (2:Int))+m)-y71.1),b,(u.1,()),())∧mSymM (z22.2.1,wr ((IntKind.u64.wrap (wr (a+b))).fdiv (2:Int)),wr (wr (wr ((IntKind.u64.wrap (wr (a+b))).fdiv (2:Int))+m)-y71.1),b,(u.1,()),())<n0)<|.lt _ (fSymM.fn (z22.2.1,wr ((IntKind.u64.wrap (wr (a+b))).fdiv (2:Int)),wr (wr (wr ((IntKind.u64.wrap (wr (a+b))).fdiv (2:Int))+m)-y71.1),b,(u.1,()),())) fun z23=>GS.out fSymM ((()),(z23.2.1,()))) (GS.out fSymM ((()),(z22.2.1,())))) (GS.out fSymM ((()),(z22.2.1,())))) (.br (decide (wr ((IntKind.u64.wrap (wr (a+b))).fdiv (2:Int))<wr (wr (wr ((IntKind.u64.wrap (wr (a+b))).fdiv (2:Int))+m)-y71.1))) (.br (decide (wr (wr (wr ((IntKind.u64.wrap (wr (a+b))).fdiv (2:Int))+m)-y71.1)<b)) (.ob (fSymM.pre (y71.2.2.1,wr ((IntKind.u64.wrap (wr (a+b))).fdiv (2:Int)),wr (wr (wr ((IntKind.u64.wrap (wr (a+b))).fdiv (2:Int))+m)-y71.1),b,(u.1,()),())∧mSymM (y71.2.2.1,wr ((IntKind.u64.wrap (wr (a+b))).fdiv (2:Int)),wr (wr (wr ((IntKind.u64.wrap (wr (a+b))).fdiv (2:Int))+m)-y71.1),b,(u.1,()),())<n0)<|.lt _ (fSymM.fn (y71.2.2.1,wr ((IntKind.u64.wrap (wr (a+b))).fdiv (2:Int)),wr (wr (wr ((IntKind.u64.wrap (wr (a+b))).fdiv (2:Int))+m)-y71.1),b,(u.1,()),())) fun z24=>GS.out fSymM ((()),(z24.2.1,()))) (GS.out fSymM ((()),(y71.2.2.1,())))) (GS.out fSymM ((()),(y71.2.2.1,()))))) (.br (decide (wr ((IntKind.u64.wrap (wr (a+b))).fdiv (2:Int))<wr (wr (wr ((IntKind.u64.wrap (wr (a+b))).fdiv (2:Int))+m)-y71.1))) (.br (decide (wr (wr (wr ((IntKind.u64.wrap (wr (a+b))).fdiv (2:Int))+m)-y71.1)<b)) (.ob (fSymM.pre (y71.2.2.1,wr ((IntKind.u64.wrap (wr (a+b))).fdiv (2:Int)),wr (wr (wr ((IntKind.u64.wrap (wr (a+b))).fdiv (2:Int))+m)-y71.1),b,(u.1,()),())∧mSymM (y71.2.2.1,wr ((IntKind.u64.wrap (wr (a+b))).fdiv (2:Int)),wr (wr (wr ((IntKind.u64.wrap (wr (a+b))).fdiv (2:Int))+m)-y71.1),b,(u.1,()),())<n0)<|.lt _ (fSymM.fn (y71.2.2.1,wr ((IntKind.u64.wrap (wr (a+b))).fdiv (2:Int)),wr (wr (wr ((IntKind.u64.wrap (wr (a+b))).fdiv (2:Int))+m)-y71.1),b,(u.1,()),())) fun z25=>GS.out fSymM ((()),(z25.2.1,()))) (GS.out fSymM ((()),(y71.2.2.1,())))) (GS.out fSymM ((()),(y71.2.2.1,()))))))) (lpx (W_slices_symMergeCmpFunc_impl_Request_fSymM_33 l a m b u) (a,(m,(l,()))) fun(y121:Int×Int×List SRequest×PUnit) bk121=>.br (decide (y121.1<y121.2.1)) (.ob ((0:Int)≤(1:Int))<|.ob (0≤wr (wr (wr (wr ((IntKind.u64.wrap (wr (a+b))).fdiv (2:Int))+m)-(1:Int))-wr ((IntKind.u64.wrap (wr (y121.1+y121.2.1))).fdiv (2:Int)))∧wr (wr (wr (wr ((IntKind.u64.wrap (wr (a+b))).fdiv (2:Int))+m)-(1:Int))-wr ((IntKind.u64.wrap (wr (y121.1+y121.2.1))).fdiv (2:Int)))<(↑y121.2.2.1.length:Int))<|.ob ((wr (wr (wr (wr ((IntKind.u64.wrap (wr (a+b))).fdiv (2:Int))+m)-(1:Int))-wr ((IntKind.u64.wrap (wr (y121.1+y121.2.1))).fdiv (2:Int)))).toNat<y121.2.2.1.length)<|.ob (0≤wr ((IntKind.u64.wrap (wr (y121.1+y121.2.1))).fdiv (2:Int))∧wr ((IntKind.u64.wrap (wr (y121.1+y121.2.1))).fdiv (2:Int))<(↑y121.2.2.1.length:Int))<|.ob ((wr ((IntKind.u64.wrap (wr (y121.1+y121.2.1))).fdiv (2:Int))).toNat<y121.2.2.1.length)<|.cl fSortReq1 (y121.2.2.1.getD (wr (wr (wr (wr ((IntKind.u64.wrap (wr (a+b))).fdiv (2:Int))+m)-(1:Int))-wr ((IntKind.u64.wrap (wr (y121.1+y121.2.1))).fdiv (2:Int)))).toNat default,y121.2.2.1.getD (wr ((IntKind.u64.wrap (wr (y121.1+y121.2.1))).fdiv (2:Int))).toNat default,u.1,()) fun(z26:Int×PUnit)=>.br (!decide (z26.1<0)) (.ob (Value.int IntKind.i64 a=Value.int IntKind.i64 a)<|.ob (Value.int IntKind.i64 m=Value.int IntKind.i64 m)<|.ob (Value.int IntKind.i64 b=Value.int IntKind.i64 b)<|.ob (enc Ty.page u.1=enc Ty.page u.1)<|.ob (Value.int IntKind.i64 (wr ((IntKind.u64.wrap (wr (a+b))).fdiv (2:Int)))=Value.int IntKind.i64 (wr ((IntKind.u64.wrap (wr (a+b))).fdiv (2:Int))))<|.ob (Value.int IntKind.i64 (wr (wr ((IntKind.u64.wrap (wr (a+b))).fdiv (2:Int))+m))=Value.int IntKind.i64 (wr (wr ((IntKind.u64.wrap (wr (a+b))).fdiv (2:Int))+m)))<|.ob (Value.int IntKind.i64 (wr (wr (wr ((IntKind.u64.wrap (wr (a+b))).fdiv (2:Int))+m)-(1:Int)))=Value.int IntKind.i64 (wr (wr (wr ((IntKind.u64.wrap (wr (a+b))).fdiv (2:Int))+m)-(1:Int))))<|.ob (bk121 (w1 (wr ((IntKind.u64.wrap (wr (y121.1+y121.2.1))).fdiv (2:Int))),(y121.2.1,(y121.2.2.1,()))))<|.ok) (.ob (Value.int IntKind.i64 a=Value.int IntKind.i64 a)<|.ob (Value.int IntKind.i64 m=Value.int IntKind.i64 m)<|.ob (Value.int IntKind.i64 b=Value.int IntKind.i64 b)<|.ob (enc Ty.page u.1=enc Ty.page u.1)<|.ob (Value.int IntKind.i64 (wr ((IntKind.u64.wrap (wr (a+b))).fdiv (2:Int)))=Value.int IntKind.i64 (wr ((IntKind.u64.wrap (wr (a+b))).fdiv (2:Int))))<|.ob (Value.int IntKind.i64 (wr (wr ((IntKind.u64.wrap (wr (a+b))).fdiv (2:Int))+m))=Value.int IntKind.i64 (wr (wr ((IntKind.u64.wrap (wr (a+b))).fdiv (2:Int))+m)))<|.ob (Value.int IntKind.i64 (wr (wr (wr ((IntKind.u64.wrap (wr (a+b))).fdiv (2:Int))+m)-(1:Int)))=Value.int IntKind.i64 (wr (wr (wr ((IntKind.u64.wrap (wr (a+b))).fdiv (2:Int))+m)-(1:Int))))<|.ob (bk121 (y121.1,(wr ((IntKind.u64.wrap (wr (y121.1+y121.2.1))).fdiv (2:Int)),(y121.2.2.1,()))))<|.ok)) (.br (decide (y121.1<m)) (.br (decide (m<wr (wr (wr ((IntKind.u64.wrap (wr (a+b))).fdiv (2:Int))+m)-y121.1))) (.ob (fRotR.pre (y121.2.2.1,y121.1,m,wr (wr (wr ((IntKind.u64.wrap (wr (a+b))).fdiv (2:Int))+m)-y121.1),(u.1,()),()))<|.lt _ (fRotR.fn (y121.2.2.1,y121.1,m,wr (wr (wr ((IntKind.u64.wrap (wr (a+b))).fdiv (2:Int))+m)-y121.1),(u.1,()),())) fun z27=>.br (decide (a<y121.1)) (.br (decide (y121.1<wr ((IntKind.u64.wrap (wr (a+b))).fdiv (2:Int)))) (.ob (fSymM.pre (z27.2.1,a,y121.1,wr ((IntKind.u64.wrap (wr (a+b))).fdiv (2:Int)),(u.1,()),())∧mSymM (z27.2.1,a,y121.1,wr ((IntKind.u64.wrap (wr (a+b))).fdiv (2:Int)),(u.1,()),())<n0)<|.lt _ (fSymM.fn (z27.2.1,a,y121.1,wr ((IntKind.u64.wrap (wr (a+b))).fdiv (2:Int)),(u.1,()),())) fun z28=>.br (decide (wr ((IntKind.u64.wrap (wr (a+b))).fdiv (2:Int))<wr (wr (wr ((IntKind.u64.wrap (wr (a+b))).fdiv (2:Int))+m)-y121.1))) (.br (decide (wr (wr (wr ((IntKind.u64.wrap (wr (a+b))).fdiv (2:Int))+m)-y121.1)<b)) (.ob (fSymM.pre (z28.2.1,wr ((IntKind.u64.wrap (wr (a+b))).fdiv (2:Int)),wr (wr (wr ((IntKind.u64.wrap (wr (a+b))).fdiv (2:Int))+m)-y121.1),b,(u.1,()),())∧mSymM (z28.2.1,wr ((IntKind.u64.wrap (wr (a+b))).fdiv (2:Int)),wr (wr (wr ((IntKind.u64.wrap (wr (a+b))).fdiv (2:Int))+m)-y121.1),b,(u.1,()),())<n0)<|.lt _ (fSymM.fn (z28.2.1,wr ((IntKind.u64.wrap (wr (a+b))).fdiv (2:Int)),wr (wr (wr ((IntKind.u64.wrap (wr (a+b))).fdiv (2:Int))+m)-y121.1),b,(u.1,()),())) fun z29=>GS.out fSymM ((()),(z29.2.1,()))) (GS.out fSymM ((()),(z28.2.1,())))) (GS.out fSymM ((()),(z28.2.1,())))) (.br (decide (wr ((IntKind.u64.wrap (wr (a+b))).fdiv (2:Int))<wr (wr (wr ((IntKind.u64.wrap (wr (a+b))).fdiv (2:Int))+m)-y121.1))) (.br (decide (wr (wr (wr ((IntKind.u64.wrap (wr (a+b))).fdiv (2:Int))+m)-y121.1)<b)) (.ob (fSymM.pre (z27.2.1,wr ((IntKind.u64.wrap (wr (a+b))).fdiv (2:Int)),wr (wr (wr ((IntKind.u64.wrap (wr (a+b))).fdiv (2:Int))+m)-y121.1),b,(u.1,()),())∧mSymM (z27.2.1,wr ((IntKind.u64.wrap (wr (a+b))).fdiv (2:Int)),wr (wr (wr ((IntKind.u64.wrap (wr (a+b))).fdiv (2:Int))+m)-y121.1),b,(u.1,()),())<n0)<|.lt _ (fSymM.fn (z27.2.1,wr ((IntKind.u64.wrap (wr (a+b))).fdiv (2:Int)),wr (wr (wr ((IntKind.u64.wrap (wr (a+b))).fdiv (2:Int))+m)-y121.1),b,(u.1,()),())) fun z30=>GS.out fSymM ((()),(z30.2.1,()))) (GS.out fSymM ((()),(z27.2.1,())))) (GS.out fSymM ((()),(z27.2.1,()))))) (.br (decide (wr ((IntKind.u64.wrap (wr (a+b))).fdiv (2:Int))<wr (wr (wr ((IntKind.u64.wrap (wr (a+b))).fdiv (2:Int))+m)-y121.1))) (.br (decide (wr (wr (wr ((IntKind.u64.wrap (wr (a+b))).fdiv (2:Int))+m)-y121.1)<b)) (.ob (fSymM.pre (z27.2.1,wr ((IntKind.u64.wrap (wr (a+b))).fdiv (2:Int)),wr (wr (wr ((IntKind.u64.wrap (wr (a+b))).fdiv (2:Int))+m)-y121.1),b,(u.1,()),())∧mSymM (z27.2.1,wr ((IntKind.u64.wrap (wr (a+b))).fdiv (2:Int)),wr (wr (wr ((IntKind.u64.wrap (wr (a+b))).fdiv (2:Int))+m)-y121.1),b,(u.1,()),())<n0)<|.lt _ (fSymM.fn (z27.2.1,wr ((IntKind.u64.wrap (wr (a+b))).fdiv (2:Int)),wr (wr (wr ((IntKind.u64.wrap (wr (a+b))).fdiv (2:Int))+m)-y121.1),b,(u.1,()),())) fun z31=>GS.out fSymM ((()),(z31.2.1,()))) (GS.out fSymM ((()),(z27.2.1,())))) (GS.out fSymM ((()),(z27.2.1,()))))) (.br (decide (a<y121.1)) (.br (decide (y121.1<wr ((IntKind.u64.wrap (wr (a+b))).fdiv (2:Int)))) (.ob (fSymM.pre (y121.2.2.1,a,y121.1,wr ((IntKind.u64.wrap (wr (a+b))).fdiv (2:Int)),(u.1,()),())∧mSymM (y121.2.2.1,a,y121.1,wr ((IntKind.u64.wrap (wr (a+b))).fdiv (2:Int)),(u.1,()),())<n0)<|.lt _ (fSymM.fn (y121.2.2.1,a,y121.1,wr ((IntKind.u64.wrap (wr (a+b))).fdiv (2:Int)),(u.1,()),())) fun z32=>.br (decide (wr ((IntKind.u64.wrap (wr (a+b))).fdiv (2:Int))<wr (wr (wr ((IntKind.u64.wrap (wr (a+b))).fdiv (2:Int))+m)-y121.1))) (.br (decide (wr (wr (wr ((IntKind.u64.wrap (wr (a+b))).fdiv (2:Int))+m)-y121.1)<b)) (.ob (fSymM.pre (z32.2.1,wr ((IntKind.u64.wrap (wr (a+b))).fdiv (2:Int)),wr (wr (wr ((IntKind.u64.wrap (wr (a+b))).fdiv (2:Int))+m)-y121.1),b,(u.1,()),())∧mSymM (z32.2.1,wr ((IntKind.u64.wrap (wr (a+b))).fdiv (2:Int)),wr (wr (wr ((IntKind.u64.wrap (wr (a+b))).fdiv (2:Int))+m)-y121.1),b,(u.1,()),())<n0)<|.lt _ (fSymM.fn (z32.2.1,wr ((IntKind.u64.wrap (wr (a+b))).fdiv (2:Int)),wr (wr (wr ((IntKind.u64.wrap (wr (a+b))).fdiv (2:Int))+m)-y121.1),b,(u.1,()),())) fun z33=>GS.out fSymM ((()),(z33.2.1,()))) (GS.out fSymM ((()),(z32.2.1,())))) (GS.out fSymM ((()),(z32.2.1,())))) (.br (decide (wr ((IntKind.u64.wrap (wr (a+b))).fdiv (2:Int))<wr (wr (wr ((IntKind.u64.wrap (wr (a+b))).fdiv (2:Int))+m)-y121.1))) (.br (decide (wr (wr (wr ((IntKind.u64.wrap (wr (a+b))).fdiv (2:Int))+m)-y121.1)<b)) (.ob (fSymM.pre (y121.2.2.1,wr ((IntKind.u64.wrap (wr (a+b))).fdiv (2:Int)),wr (wr (wr ((IntKind.u64.wrap (wr (a+b))).fdiv (2:Int))+m)-y121.1),b,(u.1,()),())∧mSymM (y121.2.2.1,wr ((IntKind.u64.wrap (wr (a+b))).fdiv (2:Int)),wr (wr (wr ((IntKind.u64.wrap (wr (a+b))).fdiv (2:Int))+m)-y121.1),b,(u.1,()),())<n0)<|.lt _ (fSymM.fn (y121.2.2.1,wr ((IntKind.u64.wrap (wr (a+b))).fdiv (2:Int)),wr (wr (wr ((IntKind.u64.wrap (wr (a+b))).fdiv (2:Int))+m)-y121.1),b,(u.1,()),())) fun z34=>GS.out fSymM ((()),(z34.2.1,()))) (GS.out fSymM ((()),(y121.2.2.1,())))) (GS.out fSymM ((()),(y121.2.2.1,()))))) (.br (decide (wr ((IntKind.u64.wrap (wr (a+b))).fdiv (2:Int))<wr (wr (wr ((IntKind.u64.wrap (wr (a+b))).fdiv (2:Int))+m)-y121.1))) (.br (decide (wr (wr (wr ((IntKind.u64.wrap (wr (a+b))).fdiv (2:Int))+m)-y121.1)<b)) (.ob (fSymM.pre (y121.2.2.1,wr ((IntKind.u64.wrap (wr (a+b))).fdiv (2:Int)),wr (wr (wr ((IntKind.u64.wrap (wr (a+b))).fdiv (2:Int))+m)-y121.1),b,(u.1,()),())∧mSymM (y121.2.2.1,wr ((IntKind.u64.wrap (wr (a+b))).fdiv (2:Int)),wr (wr (wr ((IntKind.u64.wrap (wr (a+b))).fdiv (2:Int))+m)-y121.1),b,(u.1,()),())<n0)<|.lt _ (fSymM.fn (y121.2.2.1,wr ((IntKind.u64.wrap (wr (a+b))).fdiv (2:Int)),wr (wr (wr ((IntKind.u64.wrap (wr (a+b))).fdiv (2:Int))+m)-y121.1),b,(u.1,()),())) fun z35=>GS.out fSymM ((()),(z35.2.1,()))) (GS.out fSymM ((()),(y121.2.2.1,())))) (GS.out fSymM ((()),(y121.2.2.1,())))))) (.br (decide (a<y121.1)) (.br (decide (y121.1<wr ((IntKind.u64.wrap (wr (a+b))).fdiv (2:Int)))) (.ob (fSymM.pre (y121.2.2.1,a,y121.1,wr ((IntKind.u64.wrap (wr (a+b))).fdiv (2:Int)),(u.1,()),())∧mSymM (y121.2.2.1,a,y121.1,wr ((IntKind.u64.wrap (wr (a+b))).fdiv (2:Int)),(u.1,()),())<n0)<|.lt _ (fSymM.fn (y121.2.2.1,a,y121.1,wr ((IntKind.u64.wrap (wr (a+b))).fdiv (2:Int)),(u.1,()),())) fun z36=>.br (decide (wr ((IntKind.u64.wrap (wr (a+b))).fdiv (2:Int))<wr (wr (wr ((IntKind.u64.wrap (wr (a+b))).fdiv (2:Int))+m)-y121.1))) (.br (decide (wr (wr (wr ((IntKind.u64.wrap (wr (a+b))).fdiv (2:Int))+m)-y121.1)<b)) (.ob (fSymM.pre (z36.2.1,wr ((IntKind.u64.wrap (wr (a+b))).fdiv (2:Int)),wr (wr (wr ((IntKind.u64.wrap (wr (a+b))).fdiv (2:Int))+m)-y121.1),b,(u.1,()),())∧mSymM (z36.2.1,wr ((IntKind.u64.wrap (wr (a+b))).fdiv (2:Int)),wr (wr (wr ((IntKind.u64.wrap (wr (a+b))).fdiv (2:Int))+m)-y121.1),b,(u.1,()),())<n0)<|.lt _ (fSymM.fn (z36.2.1,wr ((IntKind.u64.wrap (wr (a+b))).fdiv (2:Int)),wr (wr (wr ((IntKind.u64.wrap (wr (a+b))).fdiv (2:Int))+m)-y121.1),b,(u.1,()),())) fun z37=>GS.out fSymM ((()),(z37.2.1,()))) (GS.out fSymM ((()),(z36.2.1,())))) (GS.out fSymM ((()),(z36.2.1,())))) (.br (decide (wr ((IntKind.u64.wrap (wr (a+b))).fdiv (2:Int))<wr (wr (wr ((IntKind.u64.wrap (wr (a+b))).fdiv (2:Int))+m)-y121.1))) (.br (decide (wr (wr (wr ((IntKind.u64.wrap (wr (a+b))).fdiv (2:Int))+m)-y121.1)<b)) (.ob (fSymM.pre (y121.2.2.1,wr ((IntKind.u64.wrap (wr (a+b))).fdiv (2:Int)),wr (wr (wr ((IntKind.u64.wrap (wr (a+b))).fdiv (2:Int))+m)-y121.1),b,(u.1,()),())∧mSymM (y121.2.2.1,wr ((IntKind.u64.wrap (wr (a+b))).fdiv (2:Int)),wr (wr (wr ((IntKind.u64.wrap (wr (a+b))).fdiv (2:Int))+m)-y121.1),b,(u.1,()),())<n0)<|.lt _ (fSymM.fn (y121.2.2.1,wr ((IntKind.u64.wrap (wr (a+b))).fdiv (2:Int)),wr (wr (wr ((IntKind.u64.wrap (wr (a+b))).fdiv (2:Int))+m)-y121.1),b,(u.1,()),())) fun z38=>GS.out fSymM ((()),(z38.2.1,()))) (GS.out fSymM ((()),(y121.2.2.1,())))) (GS.out fSymM ((()),(y121.2.2.1,()))))) (.br (decide (wr ((IntKind.u64.wrap (wr (a+b))).fdiv (2:Int))<wr (wr (wr ((IntKind.u64.wrap (wr (a+b))).fdiv (2:Int))+m)-y121.1))) (.br (decide (wr (wr (wr ((IntKind.u64.wrap (wr (a+b))).fdiv (2:Int))+m)-y121.1)<b)) (.ob (fSymM.pre (y121.2.2.1,wr ((IntKind.u64.wrap (wr (a+b))).fdiv (2:Int)),wr (wr (wr ((IntKind.u64.wrap (wr (a+b))).fdiv (2:Int))+m)-y121.1),b,(u.1,()),())∧mSymM (y121.2.2.1,wr ((IntKind.u64.wrap (wr (a+b))).fdiv (2:Int)),wr (wr (wr ((IntKind.u64.wrap (wr (a+b))).fdiv (2:Int))+m)-y121.1),b,(u.1,()),())<n0)<|.lt _ (fSymM.fn (y121.2.2.1,wr ((IntKind.u64.wrap (wr (a+b))).fdiv (2:Int)),wr (wr (wr ((IntKind.u64.wrap (wr (a+b))).fdiv (2:Int))+m)-y121.1),b,(u.1,()),())) fun z39=>GS.out fSymM ((()),(z39.2.1,()))) (GS.out fSymM ((()),(y121.2.2.1,())))) (GS.out fSymM ((()),(y121.2.2.1,())))))))))) ?_
 refine br_i (fun h1=>lpx_i ?_ fun(y2:Int×Int×List SRequest×PUnit) i2=>br_i (fun h3=>ob_i ?_ fun o4=>ob_i ?_ fun o5=>ob_i ?_ fun o6=>ob_i ?_ fun o7=>ob_i ?_ fun o8=>cl_i ?_ fun o9=>(br_i (fun h10=>ob_i rfl fun _=>ob_i rfl fun _=>ob_i rfl fun _=>ob_i rfl fun _=>ob_i ?_ fun o11=>trivial) (fun h10=>ob_i rfl fun _=>ob_i rfl fun _=>ob_i rfl fun _=>ob_i rfl fun _=>ob_i ?_ fun o12=>trivial))) (fun h3=>lpx_i ?_ fun(y13:Int×List SRequest×Int×PUnit) i13=>br_i (fun h14=>lp_i trivial fun y15 i15=>br_i (fun h16=>ob_i ?_ fun o17=>ob_i ?_ fun o18=>ob_i ?_ fun o19=>ob_i ?_ fun o20=>ob_i ?_ fun o21=>ob_i ?_ fun o22=>lt_i (ob_i ?_ fun o23=>ob_i ?_ fun o24=>lt_i (ob_i rfl fun _=>ob_i rfl fun _=>ob_i rfl fun _=>ob_i rfl fun _=>ob_i rfl fun _=>ob_i ?_ fun o25=>trivial))) (fun h16=>ob_i ?_ fun o26=>ob_i ?_ fun o27=>ob_i ?_ fun o28=>ob_i ?_ fun o29=>ob_i ?_ fun o30=>ob_i ?_ fun o31=>lt_i (ob_i ?_ fun o32=>ob_i ?_ fun o33=>lt_i (ob_i rfl fun _=>ob_i rfl fun _=>ob_i rfl fun _=>ob_i rfl fun _=>ob_i rfl fun _=>ob_i ?_ fun o34=>trivial)))) (fun h14=>GS.leafY ?_))) (fun h1=>br_i (fun h35=>lpx_i ?_ fun(y36:Int×Int×List SRequest×PUnit) i36=>br_i (fun h37=>ob_i ?_ fun o38=>ob_i ?_ fun o39=>ob_i ?_ fun o40=>ob_i ?_ fun o41=>ob_i ?_ fun o42=>cl_i ?_ fun o43=>(br_i (fun h44=>ob_i rfl fun _=>ob_i rfl fun _=>ob_i rfl fun _=>ob_i rfl fun _=>ob_i ?_ fun o45=>trivial) (fun h44=>ob_i rfl fun _=>ob_i rfl fun _=>ob_i rfl fun _=>ob_i rfl fun _=>ob_i ?_ fun o46=>trivial))) (fun h37=>lpx_i ?_ fun(y47:Int×List SRequest×Int×PUnit) i47=>br_i (fun h48=>lp_i trivial fun y49 i49=>br_i (fun h50=>ob_i ?_ fun o51=>ob_i ?_ fun o52=>ob_i ?_ fun o53=>ob_i ?_ fun o54=>ob_i ?_ fun o55=>ob_i ?_ fun o56=>lt_i (ob_i ?_ fun o57=>ob_i ?_ fun o58=>lt_i (ob_i rfl fun _=>ob_i rfl fun _=>ob_i rfl fun _=>ob_i rfl fun _=>ob_i rfl fun _=>ob_i ?_ fun o59=>trivial))) (fun h50=>ob_i ?_ fun o60=>ob_i ?_ fun o61=>ob_i ?_ fun o62=>ob_i ?_ fun o63=>ob_i ?_ fun o64=>ob_i ?_ fun o65=>lt_i (ob_i ?_ fun o66=>ob_i ?_ fun o67=>lt_i (ob_i rfl fun _=>ob_i rfl fun _=>ob_i rfl fun _=>ob_i rfl fun _=>ob_i rfl fun _=>ob_i ?_ fun o68=>trivial)))) (fun h48=>GS.leafY ?_))) (fun h35=>ob_i ?_ fun o69=>br_i (fun h70=>lpx_i ?_ fun(y71:Int×Int×List SRequest×PUnit) i71=>br_i (fun h72=>ob_i ?_ fun o73=>ob_i ?_ fun o74=>ob_i ?_ fun o75=>ob_i ?_ fun o76=>ob_i ?_ fun o77=>cl_i ?_ fun o78=>(br_i (fun h79=>ob_i rfl fun _=>ob_i rfl fun _=>ob_i rfl fun _=>ob_i rfl fun _=>ob_i rfl fun _=>ob_i rfl fun _=>ob_i rfl fun _=>ob_i ?_ fun o80=>trivial) (fun h79=>ob_i rfl fun _=>ob_i rfl fun _=>ob_i rfl fun _=>ob_i rfl fun _=>ob_i rfl fun _=>ob_i rfl fun _=>ob_i rfl fun _=>ob_i ?_ fun o81=>trivial))) (fun h72=>br_i (fun h82=>br_i (fun h83=>ob_i ?_ fun o84=>lt_i (br_i (fun h85=>br_i (fun h86=>ob_i ?_ fun o87=>lt_i (br_i (fun h88=>br_i (fun h89=>ob_i ?_ fun o90=>lt_i (GS.leafY ?_)) (fun h89=>GS.leafY ?_)) (fun h88=>GS.leafY ?_))) (fun h86=>br_i (fun h91=>br_i (fun h92=>ob_i ?_ fun o93=>lt_i (GS.leafY ?_)) (fun h92=>GS.leafY ?_)) (fun h91=>GS.leafY ?_))) (fun h85=>br_i (fun h94=>br_i (fun h95=>ob_i ?_ fun o96=>lt_i (GS.leafY ?_)) (fun h95=>GS.leafY ?_)) (fun h94=>GS.leafY ?_)))) (fun h83=>br_i (fun h97=>br_i (fun h98=>ob_i ?_ fun o99=>lt_i (br_i (fun h100=>br_i (fun h101=>ob_i ?_ fun o102=>lt_i (GS.leafY ?_)) (fun h101=>GS.leafY ?_)) (fun h100=>GS.leafY ?_))) (fun h98=>br_i (fun h103=>br_i (fun h104=>ob_i ?_ fun o105=>lt_i (GS.leafY ?_)) (fun h104=>GS.leafY ?_)) (fun h103=>GS.leafY ?_))) (fun h97=>br_i (fun h106=>br_i (fun h107=>ob_i ?_ fun o108=>lt_i (GS.leafY ?_)) (fun h107=>GS.leafY ?_)) (fun h106=>GS.leafY ?_)))) (fun h82=>br_i (fun h109=>br_i (fun h110=>ob_i ?_ fun o111=>lt_i (br_i (fun h112=>br_i (fun h113=>ob_i ?_ fun o114=>lt_i (GS.leafY ?_)) (fun h113=>GS.leafY ?_)) (fun h112=>GS.leafY ?_))) (fun h110=>br_i (fun h115=>br_i (fun h116=>ob_i ?_ fun o117=>lt_i (GS.leafY ?_)) (fun h116=>GS.leafY ?_)) (fun h115=>GS.leafY ?_))) (fun h109=>br_i (fun h118=>br_i (fun h119=>ob_i ?_ fun o120=>lt_i (GS.leafY ?_)) (fun h119=>GS.leafY ?_)) (fun h118=>GS.leafY ?_))))) (fun h70=>lpx_i ?_ fun(y121:Int×Int×List SRequest×PUnit) i121=>br_i (fun h122=>ob_i ?_ fun o123=>ob_i ?_ fun o124=>ob_i ?_ fun o125=>ob_i ?_ fun o126=>ob_i ?_ fun o127=>cl_i ?_ fun o128=>(br_i (fun h129=>ob_i rfl fun _=>ob_i rfl fun _=>ob_i rfl fun _=>ob_i rfl fun _=>ob_i rfl fun _=>ob_i rfl fun _=>ob_i rfl fun _=>ob_i ?_ fun o130=>trivial) (fun h129=>ob_i rfl fun _=>ob_i rfl fun _=>ob_i rfl fun _=>ob_i rfl fun _=>ob_i rfl fun _=>ob_i rfl fun _=>ob_i rfl fun _=>ob_i ?_ fun o131=>trivial))) (fun h122=>br_i (fun h132=>br_i (fun h133=>ob_i ?_ fun o134=>lt_i (br_i (fun h135=>br_i (fun h136=>ob_i ?_ fun o137=>lt_i (br_i (fun h138=>br_i (fun h139=>ob_i ?_ fun o140=>lt_i (GS.leafY ?_)) (fun h139=>GS.leafY ?_)) (fun h138=>GS.leafY ?_))) (fun h136=>br_i (fun h141=>br_i (fun h142=>ob_i ?_ fun o143=>lt_i (GS.leafY ?_)) (fun h142=>GS.leafY ?_)) (fun h141=>GS.leafY ?_))) (fun h135=>br_i (fun h144=>br_i (fun h145=>ob_i ?_ fun o146=>lt_i (GS.leafY ?_)) (fun h145=>GS.leafY ?_)) (fun h144=>GS.leafY ?_)))) (fun h133=>br_i (fun h147=>br_i (fun h148=>ob_i ?_ fun o149=>lt_i (br_i (fun h150=>br_i (fun h151=>ob_i ?_ fun o152=>lt_i (GS.leafY ?_)) (fun h151=>GS.leafY ?_)) (fun h150=>GS.leafY ?_))) (fun h148=>br_i (fun h153=>br_i (fun h154=>ob_i ?_ fun o155=>lt_i (GS.leafY ?_)) (fun h154=>GS.leafY ?_)) (fun h153=>GS.leafY ?_))) (fun h147=>br_i (fun h156=>br_i (fun h157=>ob_i ?_ fun o158=>lt_i (GS.leafY ?_)) (fun h157=>GS.leafY ?_)) (fun h156=>GS.leafY ?_)))) (fun h132=>br_i (fun h159=>br_i (fun h160=>ob_i ?_ fun o161=>lt_i (br_i (fun h162=>br_i (fun h163=>ob_i ?_ fun o164=>lt_i (GS.leafY ?_)) (fun h163=>GS.leafY ?_)) (fun h162=>GS.leafY ?_))) (fun h160=>br_i (fun h165=>br_i (fun h166=>ob_i ?_ fun o167=>lt_i (GS.leafY ?_)) (fun h166=>GS.leafY ?_)) (fun h165=>GS.leafY ?_))) (fun h159=>br_i (fun h168=>br_i (fun h169=>ob_i ?_ fun o170=>lt_i (GS.leafY ?_)) (fun h169=>GS.leafY ?_)) (fun h168=>GS.leafY ?_)))))))
 all_goals obtain⟨hq,hL,hM⟩:=hp
 all_goals (have m0:=hM.a0;have m1:=hM.am;have m2:=hM.mb;have m3:=hM.bl)
 all_goals try (obtain⟨c1,c2⟩:=i2;have c3:=c2.mi;have c4:=c2.ij;have c5:=c2.jb)
 all_goals try (obtain⟨c1,c2⟩:=i36;have c3:=c2.ai;have c4:=c2.ij;have c5:=c2.jm)
 all_goals try (obtain⟨c1,c2⟩:=i71;have c3:=c2.lo1;have c4:=c2.lo2;have c5:=c2.sr;have c6:=c2.hi1;have c7:=c2.hi2)
 all_goals try (obtain⟨c1,c2⟩:=i121;have c3:=c2.lo1;have c4:=c2.lo2;have c5:=c2.sr;have c6:=c2.hi1;have c7:=c2.hi2)
 all_goals
  try obtain⟨d1,d2,d3,d4⟩:=i13
  try obtain⟨d1,d2,d3,d4⟩:=i47
  try simp only[mSymM] at *
  try simp only[std0] at *
  try simp only[W_slices_symMergeCmpFunc_impl_Request_fSymM_15,W_slices_symMergeCmpFunc_impl_Request_fSymM_21,W_slices_symMergeCmpFunc_impl_Request_fSymM_3,W_slices_symMergeCmpFunc_impl_Request_fSymM_33,W_slices_symMergeCmpFunc_impl_Request_fSymM_9,fRotR,fSortReq1,fSymM,std,Nat.reduceAdd,szF,toF,eqF,mkF,heF,List.length_modify] at *
  try subst c1
  try rw[d1] at d3
  try simp(disch:=omega) only[wrapId',half2] at *
 all_goals try (have dl:=(congrArg List.length d4).trans (rotR_len ..))
 all_goals first|omega|exact hq|exact BsL.start hM|exact BsR.start hM|exact⟨⟨trivial,BsL.up hM c2 (by omega) (by omega)⟩,by omega⟩|exact⟨⟨trivial,BsL.down hM c2 (by omega) (by omega)⟩,by omega⟩|exact⟨⟨trivial,BsR.up hM c2 (by omega) (by omega)⟩,by omega⟩|exact⟨⟨trivial,BsR.down hM c2 (by omega) (by omega)⟩,by omega⟩|exact⟨⟨trivial,SymI.up hM c2 (by omega) (by omega)⟩,by omega⟩|exact⟨⟨trivial,SymI.down hM c2 (by omega) (by omega)⟩,by omega⟩|exact⟨by omega,by omega,rot_self2⟩|exact⟨by omega,by omega,rot_self⟩|skip
 all_goals first|exact⟨⟨d1,by omega,by omega,upI d4 (by omega) (by omega) (by omega)⟩,by omega⟩|exact⟨⟨d1,by omega,by omega,insI d4 (by omega) (by omega) (by omega)⟩,by omega⟩|(rw[d4,show y13.1.toNat+1=y2.1.toNat by omega];exact BsL.stop hM (by omega) c2 (by omega))|(rw[d4,show y47.1.toNat=y36.1.toNat by omega];exact BsR.stop hM (by omega) c2 (by omega))|skip
 all_goals first|(have k:=SymI.start hM;rw[if_pos (by omega),if_pos (by omega)] at k;exact k)|(have k:=SymI.start hM;rw[if_neg (by omega),if_neg (by omega)] at k;exact k)|(have k:=symI_left2 hL hM c2 (by omega) (by omega) (by omega);simp(disch:=omega) only[symD1,if_pos,if_neg] at k;exact⟨⟨hq,k⟩,by omega⟩)|(have k:=symI_right2 hL hM c2 (by omega) (by omega) (by omega);simp(disch:=omega) only[symD2,symD1,if_pos,if_neg] at k;exact⟨⟨hq,k⟩,by omega⟩)|exact symI_end hM c2 (by omega) (by simp(disch:=omega) only[symD2,symD1,if_pos,if_neg])|skip)
def E56:=E55.addG 95 fSymM
theorem E56ok:EOk Tryz.prog E56:=E55ok.addG k95_55
def fStableM:GS:=⟨[.k (.sl .request),.l (.v (.el .int)),.l (.c 33 [.el .page])],[],fun(x_:(List SRequest)×Int×(SPage×Unit)×Unit)=>okPg x_.2.2.1.1∧x_.1.length≤100000000000∧x_.2.1=x_.1.length,fun(x_:(List SRequest)×Int×(SPage×Unit)×Unit)=>((()),(isrt (classOf x_.2.2.1.1) x_.1,()))⟩
abbrev W_slices_stableCmpFunc_impl_Request_fStableM_2 (l:(List SRequest)) (n:Int) (u:(SPage×Unit)):LInv:=⟨[⟨.s,7,true,.el .int⟩,⟨.s,8,true,.el .int⟩,⟨.t,0,true,.sl .request⟩],fun _ (x_:Int×Int×(List SRequest)×Unit)=>x_.2.1=x_.1+20∧St1 (classOf u.1) l x_.2.2.1 20 x_.1 n,fun(x_:Int×Int×(List SRequest)×Unit)=>(n-x_.1).toNat⟩
abbrev W_slices_stableCmpFunc_impl_Request_fStableM_7 (l:(List SRequest)) (n:Int) (u:(SPage×Unit)):LInv:=⟨[⟨.s,6,true,.el .int⟩,⟨.s,7,true,.el .int⟩,⟨.s,8,true,.el .int⟩,⟨.t,0,true,.sl .request⟩],fun _ (x_:Int×Int×Int×(List SRequest)×Unit)=>St2 (classOf u.1) l x_.2.2.2.1 x_.1 n,fun(x_:Int×Int×Int×(List SRequest)×Unit)=>(n-x_.1).toNat⟩
abbrev W_slices_stableCmpFunc_impl_Request_fStableM_9 (l:(List SRequest)) (n:Int) (u:(SPage×Unit)):LInv:=⟨[⟨.s,7,true,.el .int⟩,⟨.s,8,true,.el .int⟩,⟨.t,0,true,.sl .request⟩,⟨.s,6,true,.el .int⟩],fun(z_:Int×Int×(List SRequest)×Int×Unit) (x_:Int×Int×(List SRequest)×Int×Unit)=>x_.2.2.2.1=z_.2.2.2.1∧x_.2.1=x_.1+2*x_.2.2.2.1∧x_.2.2.2.1<n∧St3 (classOf u.1) l x_.2.2.1 x_.2.2.2.1 x_.1 n,fun(x_:Int×Int×(List SRequest)×Int×Unit)=>(n-x_.1).toNat⟩
theorem k66_56:fStableM.ok Tryz.prog 66:=GS.of (S:=fStableM) (L:=fun⟨l,n,u,_⟩=>fun|2=>some (W_slices_stableCmpFunc_impl_Request_fStableM_2 l n u)|7=>some (W_slices_stableCmpFunc_impl_Request_fStableM_7 l n u)|9=>some (W_slices_stableCmpFunc_impl_Request_fStableM_9 l n u)|_=>none) (kp:=[0,1,2,6,7,8,9,13,30,35,54,1000013,1000030,1000035,1000054]) E56ok Tryz.func66 (by kernel_rfl) (by kernel_rfl) (by
 rintro⟨(l:List SRequest),(n:Int),(u:SPage×PUnit),_⟩ hp
 refine ho (lpx (W_slices_stableCmpFunc_impl_Request_fStableM_2 l n u) ((0:Int),((20:Int),(l,()))) fun(y1:Int×Int×List SRequest×PUnit) bk1=>.br (decide (y1.2.1≤n)) (.ob (fInsSort.pre (y1.2.2.1,y1.1,y1.2.1,(u.1,()),()))<|.lt _ (fInsSort.fn (y1.2.2.1,y1.1,y1.2.1,(u.1,()),())) fun z2=>.ob (Value.int IntKind.i64 n=Value.int IntKind.i64 n)<|.ob (enc Ty.page u.1=enc Ty.page u.1)<|.ob (Value.int IntKind.i64 20=Value.int IntKind.i64 (20:Int))<|.ob (bk1 (y1.2.1,(wr (y1.2.1+20),(z2.2.1,()))))<|.ok) (.ob (fInsSort.pre (y1.2.2.1,y1.1,n,(u.1,()),()))<|.lt _ (fInsSort.fn (y1.2.2.1,y1.1,n,(u.1,()),())) fun z3=>lpx (W_slices_stableCmpFunc_impl_Request_fStableM_7 l n u) ((20:Int),(y1.1,(y1.2.1,(z3.2.1,())))) fun(y6:Int×Int×Int×List SRequest×PUnit) bk6=>.br (decide (y6.1<n)) (lpx (W_slices_stableCmpFunc_impl_Request_fStableM_9 l n u) ((0:Int),(wr ((2:Int)*y6.1),(y6.2.2.2.1,(y6.1,())))) fun(y8:Int×Int×List SRequest×Int×PUnit) bk8=>.br (decide (y8.2.1≤n)) (.ob (fSymM.pre (y8.2.2.1,y8.1,wr (y8.1+y8.2.2.2.1),y8.2.1,(u.1,()),()))<|.lt _ (fSymM.fn (y8.2.2.1,y8.1,wr (y8.1+y8.2.2.2.1),y8.2.1,(u.1,()),())) fun z4=>.ob (Value.int IntKind.i64 n=Value.int IntKind.i64 n)<|.ob (enc Ty.page u.1=enc Ty.page u.1)<|.ob (bk8 (y8.2.1,(wr (y8.2.1+wr ((2:Int)*y8.2.2.2.1)),(z4.2.1,(y8.2.2.2.1,())))))<|.ok) (.br (decide (wr (y8.1+y8.2.2.2.1)<n)) (.ob (fSymM.pre (y8.2.2.1,y8.1,wr (y8.1+y8.2.2.2.1),n,(u.1,()),()))<|.lt _ (fSymM.fn (y8.2.2.1,y8.1,wr (y8.1+y8.2.2.2.1),n,(u.1,()),())) fun z5=>.ob (Value.int IntKind.i64 n=Value.int IntKind.i64 n)<|.ob (enc Ty.page u.1=enc Ty.page u.1)<|.ob (bk6 (wr (y8.2.2.2.1*(2:Int)),(y8.1,(y8.2.1,(z5.2.1,())))))<|.ok) (.ob (Value.int IntKind.i64 n=Value.int IntKind.i64 n)<|.ob (enc Ty.page u.1=enc Ty.page u.1)<|.ob (bk6 (wr (y8.2.2.2.1*(2:Int)),(y8.1,(y8.2.1,(y8.2.2.1,())))))<|.ok))) (GS.out fStableM ((()),(y6.2.2.2.1,()))))) ?_
 refine lpx_i ?_ fun(y1:Int×Int×List SRequest×PUnit) i1=>br_i (fun h2=>ob_i ?_ fun o3=>lt_i (ob_i rfl fun _=>ob_i rfl fun _=>ob_i rfl fun _=>ob_i ?_ fun o4=>trivial)) (fun h2=>ob_i ?_ fun o5=>lt_i (lpx_i ?_ fun(y6:Int×Int×Int×List SRequest×PUnit) i6=>br_i (fun h7=>lpx_i ?_ fun(y8:Int×Int×List SRequest×Int×PUnit) i8=>br_i (fun h9=>ob_i ?_ fun o10=>lt_i (ob_i rfl fun _=>ob_i rfl fun _=>ob_i ?_ fun o11=>trivial)) (fun h9=>br_i (fun h12=>ob_i ?_ fun o13=>lt_i (ob_i rfl fun _=>ob_i rfl fun _=>ob_i ?_ fun o14=>trivial)) (fun h12=>ob_i rfl fun _=>ob_i rfl fun _=>ob_i ?_ fun o15=>trivial))) (fun h7=>GS.leafY ?_)))
 all_goals obtain⟨hq,hL,hn⟩:=hp
 all_goals try (obtain⟨a1,a2⟩:=i1;have a3:=a2.len;have a4:=a2.a0;have a5:=a2.an)
 all_goals try (have b3:=i6.len;have b4:=i6.s0)
 all_goals try (obtain⟨c1,c2,c3,c4⟩:=i8;have c5:=c4.len;have c6:=c4.a0;have c7:=c4.an;have c8:=c4.s0)
 all_goals
  try simp only[std0] at *
  try simp only[W_slices_stableCmpFunc_impl_Request_fStableM_2,W_slices_stableCmpFunc_impl_Request_fStableM_7,W_slices_stableCmpFunc_impl_Request_fStableM_9,fInsSort,fStableM,fSymM,std,Nat.reduceAdd,szF,toF,eqF,mkF,heF] at *
  try rw[c1] at c2 c3 c4 c8
  try rw[c1]
  try simp(disch:=omega) only[wrapId'] at *
 all_goals first|omega|exact⟨by omega,St1.start hn⟩|exact⟨hq,by omega,by omega,by omega,by omega⟩|(refine⟨⟨by omega,?_⟩,by omega⟩;rw[a1];exact a2.next (by omega))|exact a2.fin (by omega)|exact⟨by omega,by omega,St3.start i6⟩|(refine⟨hq,by omega,?_⟩;rw[c2];exact c4.mg (by omega))|exact⟨hq,by omega,c4.mg2 (by omega) (by omega)⟩|exact⟨c4.fin1 (by omega),by omega⟩|exact⟨c4.fin2 (by omega) (by omega),by omega⟩|exact i6.stop (by omega)|skip
 all_goals (refine⟨⟨trivial,trivial,c3,?_⟩,by omega⟩;rw[c2];exact c4.next (by omega)))
def E57:=E56.addG 66 fStableM
theorem E57ok:EOk Tryz.prog E57:=E56ok.addG k66_56
def fSortStable:GS:=⟨[.k (.sl .request),.l (.c 33 [.el .page])],[],fun(x_:(List SRequest)×(SPage×Unit)×Unit)=>okPg x_.2.1.1∧x_.1.length≤100000000000,fun(x_:(List SRequest)×(SPage×Unit)×Unit)=>((()),(isrt (classOf x_.2.1.1) x_.1,()))⟩
theorem k32_57:fSortStable.ok Tryz.prog 32:=GS.of (S:=fSortStable) (L:=fun _ _=>none) (kp:=[]) E57ok Tryz.func32 (by kernel_rfl) (by kernel_rfl) (by
 rintro⟨(l:List SRequest),(u:SPage×PUnit),_⟩ hp
 refine ho (.ob (fStableM.pre (l,(↑(List.length l):Int),(u.1,()),()))<|.lt _ (fStableM.fn (l,(↑(List.length l):Int),(u.1,()),())) fun z2=>GS.out fSortStable ((()),(z2.2.1,()))) ?_
 refine ob_i ?_ fun o1=>lt_i (GS.leafY ?_)
 all_goals
  try simp only[std0] at *
  try simp only[fSortStable,fStableM,std,Nat.reduceAdd,szF,toF,eqF,mkF,heF] at *
 all_goals exact hp)
def E58:=E57.addG 32 fSortStable
theorem E58ok:EOk Tryz.prog E58:=E57ok.addG k32_57
def sortReqs (p:SPage) (l:List SRequest):List SRequest:=isrt (classOf p) l
def fSortRequests:Fct:=⟨[.v (.el .page),.v (.sl .request)],[.sl .request],fun(x_:SPage×(List SRequest)×Unit)=>okPg x_.1∧x_.2.1.length≤100000000000,fun(x_:SPage×(List SRequest)×Unit)=>(sortReqs x_.1 x_.2.1,())⟩
theorem k8_58:fSortRequests.ok Tryz.prog 8:=Fct.o [1,2,4,5] E58ok Tryz.func8 (by
 rintro⟨(p:SPage),(l:List SRequest),_⟩ hp
 refine ho (.ob (True)<|.ob (Room (0+List.length l) 72)<|.ob (fSortStable.pre ([]++l,(p,()),()))<|.lt _ (fSortStable.fn ([]++l,(p,()),())) fun z2=>.lf fSortRequests (z2.2.1,())) ?_
 refine ob_i trivial fun _=>ob_i ?_ fun o1=>ob_i ?_ fun o2=>lt_i (lfY ?_)
 all_goals
  try simp only[std0] at *
  try simp only[fSortRequests,fSortStable,std,Nat.reduceAdd,szF,toF,eqF,mkF,heF] at *
 all_goals first|omega|exact hp|rfl)
def E59:=E58.add 8 fSortRequests
theorem E59ok:EOk Tryz.prog E59:=E58ok.add k8_58
theorem sortReqs_len (p:SPage) (l:List SRequest):(sortReqs p l).length=l.length:=isrt_len l
theorem szL_eq {α:Type} (f:α→Nat) (l:List α):szL f l=(l.map fun x=>f x+1).sum:=by
 induction l with
 | nil=>rfl
 | cons x l ih=>
  have h3:szL f (x::l)=f x+1+szL f l:=by simp only[szL,List.map_cons,List.sum_cons,List.length_cons];omega
  rw[h3,ih,List.map_cons,List.sum_cons]
theorem szL_spl (b:UInt8) (s:ByteArray):szL szString (spl b s)=s.size+1:=by
 rw[szL_eq,←toL_len,←splL_sum b (toL s)]
 unfold spl
 rw[List.map_map]
 congr 1
def fSplit5:Fct:=⟨[.v (.el .str),.v (.el .u8)],[.sl .str],fun(x_:ByteArray×Int×Unit)=>x_.1.size≤1099511627776∧0≤x_.2.1∧x_.2.1≤255,fun(x_:ByteArray×Int×Unit)=>(spl (UInt8.ofNat x_.2.1.toNat) x_.1,())⟩
theorem byte_eq {s:ByteArray} {i:Nat} {b:Int} (h0:0≤b) (h1:b≤255):((s.data.getD i 0).toNat:Int)=b↔s.data.getD i 0=UInt8.ofNat b.toNat:=by
 constructor
 ·intro h
  apply UInt8.toNat_inj.1
  rw[UInt8.toNat_ofNat'];omega
 ·intro h
  rw[h,UInt8.toNat_ofNat'];omega
abbrev W_spec_l5Split_fSplit5_4 (s:ByteArray) (b:Int):LInv:=⟨[⟨.s,5,true,.sl .str⟩,⟨.s,6,true,.el .int⟩,⟨.s,7,true,.el .int⟩],fun _ (x_:(List ByteArray)×Int×Int×Unit)=>0≤x_.2.2.1∧x_.2.2.1≤s.size+1∧0≤x_.2.1∧x_.2.1≤x_.2.2.1∧x_.1.length≤x_.2.2.1∧x_.1++splAt (UInt8.ofNat b.toNat) s x_.2.1.toNat x_.2.2.1.toNat=spl (UInt8.ofNat b.toNat) s,fun(x_:(List ByteArray)×Int×Int×Unit)=>(s.size+1-x_.2.2.1).toNat⟩
theorem k157_59:fSplit5.ok Tryz.prog 157:=Fct.of (S:=fSplit5) (L:=fun⟨s,b,_⟩=>fun|4=>some (W_spec_l5Split_fSplit5_4 s b)|_=>none) (kp:=[0,1,4,5,6,7,12,25,1000012,1000025]) E59ok Tryz.func157 (by kernel_rfl) (by kernel_rfl) (by
 rintro⟨(s:ByteArray),(b:Int),_⟩ hp
 refine ho (lpx (W_spec_l5Split_fSplit5_4 s b) ([],((0:Int),((0:Int),()))) fun(y1:List ByteArray×Int×Int×PUnit) bk1=>.br (decide (y1.2.2.1≤(↑s.size:Int))) (.br (y1.2.2.1==(↑s.size:Int)) (.ob (0≤y1.2.1∧y1.2.1≤y1.2.2.1∧y1.2.2.1≤(↑s.size:Int))<|.ob (True)<|.ob (Room (y1.1.length+[s.extract y1.2.1.toNat y1.2.2.1.toNat].length) 16)<|.ob (Value.string s=Value.string s)<|.ob (Value.int IntKind.u8 b=Value.int IntKind.u8 b)<|.ob (bk1 (y1.1++[s.extract y1.2.1.toNat y1.2.2.1.toNat],(w1 y1.2.2.1,(w1 y1.2.2.1,()))))<|.ok) (.ob (0≤y1.2.2.1∧y1.2.2.1<(↑s.size:Int))<|.br ((↑(s.data.getD y1.2.2.1.toNat 0).toNat:Int)==b) (.ob (0≤y1.2.1∧y1.2.1≤y1.2.2.1∧y1.2.2.1≤(↑s.size:Int))<|.ob (True)<|.ob (Room (y1.1.length+[s.extract y1.2.1.toNat y1.2.2.1.toNat].length) 16)<|.ob (Value.string s=Value.string s)<|.ob (Value.int IntKind.u8 b=Value.int IntKind.u8 b)<|.ob (bk1 (y1.1++[s.extract y1.2.1.toNat y1.2.2.1.toNat],(w1 y1.2.2.1,(w1 y1.2.2.1,()))))<|.ok) (.ob (Value.string s=Value.string s)<|.ob (Value.int IntKind.u8 b=Value.int IntKind.u8 b)<|.ob (bk1 (y1.1,(y1.2.1,(w1 y1.2.2.1,()))))<|.ok))) (.lf fSplit5 (y1.1,()))) ?_
 refine lpx_i ?_ fun(y1:List ByteArray×Int×Int×PUnit) i1=>br_i (fun h2=>br_i (fun h3=>ob_i ?_ fun o4=>ob_i trivial fun _=>ob_i ?_ fun o5=>ob_i rfl fun _=>ob_i rfl fun _=>ob_i ?_ fun o6=>trivial) (fun h3=>ob_i ?_ fun o7=>br_i (fun h8=>ob_i ?_ fun o9=>ob_i trivial fun _=>ob_i ?_ fun o10=>ob_i rfl fun _=>ob_i rfl fun _=>ob_i ?_ fun o11=>trivial) (fun h8=>ob_i rfl fun _=>ob_i rfl fun _=>ob_i ?_ fun o12=>trivial))) (fun h2=>lfY ?_)
 all_goals obtain⟨hp1,hp2,hp3⟩:=hp
 all_goals
  try obtain⟨a1,a2,a3,a4,a5,a6⟩:=i1
  try obtain⟨a1,a2,a3,a4,a5,a6⟩:=i2
  try obtain⟨a1,a2,a3,a4,a5,a6⟩:=i3
  try simp only[std0] at *
  try simp only[W_spec_l5Split_fSplit5_4,fSplit5,std,Nat.reduceAdd,szF,toF,eqF,mkF,heF,List.length_append,List.length_cons,List.length_nil,byte_eq hp2 hp3] at *
  try simp(disch:=omega) only[wrapId',toNat1] at *
 all_goals first|trivial|omega|exact⟨by omega,by omega,by omega,by omega,by omega,splAt_zero _ _⟩|skip
 all_goals first|(refine⟨⟨by omega,by omega,by omega,by omega,by omega,?_⟩,by omega⟩;rw[splAt_last _ (by omega)] at a6;rw[splAt_end _ (by omega),List.append_nil];exact a6)|(refine⟨⟨by omega,by omega,by omega,by omega,by omega,?_⟩,by omega⟩;rw[splAt_hit (by omega) (by assumption)] at a6;rw[List.append_assoc];exact a6)|(refine⟨⟨by omega,by omega,by omega,by omega,by omega,?_⟩,by omega⟩;rw[splAt_miss (by omega) (by omega) (by assumption)] at a6;exact a6)|(rw[splAt_end _ (by omega),List.append_nil] at a6;exact a6)|skip)
def E60:=E59.add 157 fSplit5
theorem E60ok:EOk Tryz.prog E60:=E59ok.add k157_59
def polCand (s:ByteArray):SPolicy:=⟨true,(spl 32 ((spl 59 s).getD 0 default)).drop 1,(spl 32 ((spl 59 s).getD 1 default)).drop 1,(spl 32 ((spl 59 s).getD 2 default)).drop 1,if 3<(spl 59 s).length∧6<((spl 59 s).getD 3 default).size then((spl 59 s).getD 3 default).extract 6 ((spl 59 s).getD 3 default).size else⟨#[]⟩⟩
def parsePolicy (s:ByteArray):SPolicy×Bool:=if s=⟨#[]⟩ then(default,true) else if 3≤(spl 59 s).length∧formatPolicy (polCand s)=s then(polCand s,true) else(default,false)
theorem spl_get (b:UInt8) (s:ByteArray) (k:Nat):((spl b s).getD k default).size≤s.size:=by
 by_cases h:k<(spl b s).length
 ·exact spl_mem (getD_in h)
 ·rw[List.getD_eq_getElem?_getD,List.getElem?_eq_none (by omega)];exact Nat.zero_le _
theorem pol_sz {s n:ByteArray} (hn:n.size≤s.size):szPolicy ⟨true,(spl 32 ((spl 59 s).getD 0 default)).drop 1,(spl 32 ((spl 59 s).getD 1 default)).drop 1,(spl 32 ((spl 59 s).getD 2 default)).drop 1,n⟩≤4*(s.size+1):=by
 have h0:=spl_get 59 s 0
 have h1:=spl_get 59 s 1
 have h2:=spl_get 59 s 2
 have d0:=szL_drop szString (spl 32 ((spl 59 s).getD 0 default)) 1
 have d1:=szL_drop szString (spl 32 ((spl 59 s).getD 1 default)) 1
 have d2:=szL_drop szString (spl 32 ((spl 59 s).getD 2 default)) 1
 rw[szL_spl] at d0 d1 d2
 simp only[szPolicy];omega
def fParsePolicy:Fct:=⟨[.v (.el .str)],[.el .policy,.el .bool],fun(x_:ByteArray×Unit)=>x_.1.size≤200000000,fun(x_:ByteArray×Unit)=>((parsePolicy x_.1).1,(parsePolicy x_.1).2,())⟩
theorem k143_60:fParsePolicy.ok Tryz.prog 143:=Fct.o [0,2,3,4,5,7,13,40,49,1000007,1000013,1000040,1000049] E60ok Tryz.func143 (by
 rintro⟨(s:ByteArray),_⟩ hp
 refine ho (.br (ByteArray.toList s=={ data := #[]:ByteArray }.toList) (.leaf (.tup [(true,[vb (false),.nl,.nl,.nl,vs ({ data := #[]:ByteArray })]),(false,[vb (true)])]) [] []) (.ob (fSplit5.pre (s,(59:Int),()))<|.lt (List ByteArray×PUnit) (fSplit5.fn (s,(59:Int),())) fun z2=>.br (decide ((↑z2.fst.length:Int)<(3:Int))) (.leaf (.tup [(true,[vb (false),.nl,.nl,.nl,vs ({ data := #[]:ByteArray })]),(false,[vb (false)])]) [] []) (.ob ((0:Int)≤(0:Int)∧(0:Int)<(↑z2.fst.length:Int))<|.ob ((0:Nat)<z2.fst.length)<|.ob (fSplit5.pre (z2.fst.getD (0:Nat) default,(32:Int),()))<|.lt (List ByteArray×PUnit) (fSplit5.fn (z2.fst.getD (0:Nat) default,(32:Int),())) fun z3=>.ob ((0:Int)≤(1:Int)∧(1:Int)≤(↑z3.fst.length:Int))<|.ob ((0:Int)≤(1:Int)∧(1:Int)<(↑z2.fst.length:Int))<|.ob ((1:Nat)<z2.fst.length)<|.ob (fSplit5.pre (z2.fst.getD (1:Nat) default,(32:Int),()))<|.lt (List ByteArray×PUnit) (fSplit5.fn (z2.fst.getD (1:Nat) default,(32:Int),())) fun z4=>.ob ((0:Int)≤(1:Int)∧(1:Int)≤(↑z4.fst.length:Int))<|.ob ((0:Int)≤(2:Int)∧(2:Int)<(↑z2.fst.length:Int))<|.ob ((2:Nat)<z2.fst.length)<|.ob (fSplit5.pre (z2.fst.getD (2:Nat) default,(32:Int),()))<|.lt (List ByteArray×PUnit) (fSplit5.fn (z2.fst.getD (2:Nat) default,(32:Int),())) fun z5=>.ob ((0:Int)≤(1:Int)∧(1:Int)≤(↑z5.fst.length:Int))<|.br (decide ((↑z2.fst.length:Int)>(3:Int))) (.ob ((0:Int)≤(3:Int)∧(3:Int)<(↑z2.fst.length:Int))<|.ob ((3:Nat)<z2.fst.length)<|.br (decide ((↑(z2.fst.getD (3:Nat) default).size:Int)>(6:Int))) (.ob ((0:Int)≤(3:Int)∧(3:Int)<(↑z2.fst.length:Int))<|.ob ((3:Nat)<z2.fst.length)<|.ob ((0:Int)≤(6:Int)∧(6:Int)≤(↑(z2.fst.getD (3:Nat) default).size:Int))<|.ob ((1:Nat)+(z3.fst.length-(1:Nat))≤z3.fst.length)<|.ob ((1:Nat)+(z4.fst.length-(1:Nat))≤z4.fst.length)<|.ob ((1:Nat)+(z5.fst.length-(1:Nat))≤z5.fst.length)<|.ob (fFormatPolicy.pre ({ set_:=true,scripts:=cut z3.fst (1:Nat) (z3.fst.length-(1:Nat)),styles:=cut z4.fst (1:Nat) (z4.fst.length-(1:Nat)),images:=cut z5.fst (1:Nat) (z5.fst.length-(1:Nat)),nonce:=(z2.fst.getD (3:Nat) default).extract (6:Nat) (z2.fst.getD (3:Nat) default).size:SPolicy },()))<|.lt (ByteArray×PUnit) (fFormatPolicy.fn ({ set_:=true,scripts:=cut z3.fst (1:Nat) (z3.fst.length-(1:Nat)),styles:=cut z4.fst (1:Nat) (z4.fst.length-(1:Nat)),images:=cut z5.fst (1:Nat) (z5.fst.length-(1:Nat)),nonce:=(z2.fst.getD (3:Nat) default).extract (6:Nat) (z2.fst.getD (3:Nat) default).size:SPolicy },())) fun z6=>.br (!z6.fst.toList==ByteArray.toList s) (.leaf (.tup [(true,[vb (false),.nl,.nl,.nl,vs ({ data := #[]:ByteArray })]),(false,[vb (false)])]) [] []) (.ob ((1:Nat)+(z3.fst.length-(1:Nat))≤z3.fst.length)<|.ob ((1:Nat)+(z4.fst.length-(1:Nat))≤z4.fst.length)<|.ob ((1:Nat)+(z5.fst.length-(1:Nat))≤z5.fst.length)<|.leaf (mkR fParsePolicy.rs (⟨true,cut z3.fst (1:Nat) (z3.fst.length-(1:Nat)),cut z4.fst (1:Nat) (z4.fst.length-(1:Nat)),cut z5.fst (1:Nat) (z5.fst.length-(1:Nat)),(z2.fst.getD (3:Nat) default).extract (6:Nat) (z2.fst.getD (3:Nat) default).size⟩,true,())) [] [])) (.ob ((1:Nat)+(z3.fst.length-(1:Nat))≤z3.fst.length)<|.ob ((1:Nat)+(z4.fst.length-(1:Nat))≤z4.fst.length)<|.ob ((1:Nat)+(z5.fst.length-(1:Nat))≤z5.fst.length)<|.ob (fFormatPolicy.pre ({ set_:=true,scripts:=cut z3.fst (1:Nat) (z3.fst.length-(1:Nat)),styles:=cut z4.fst (1:Nat) (z4.fst.length-(1:Nat)),images:=cut z5.fst (1:Nat) (z5.fst.length-(1:Nat)),nonce:={ data := #[]:ByteArray }:SPolicy },()))<|.lt (ByteArray×PUnit) (fFormatPolicy.fn ({ set_:=true,scripts:=cut z3.fst (1:Nat) (z3.fst.length-(1:Nat)),styles:=cut z4.fst (1:Nat) (z4.fst.length-(1:Nat)),images:=cut z5.fst (1:Nat) (z5.fst.length-(1:Nat)),nonce:={ data := #[]:ByteArray }:SPolicy },())) fun z7=>.br (!z7.fst.toList==ByteArray.toList s) (.leaf (.tup [(true,[vb (false),.nl,.nl,.nl,vs ({ data := #[]:ByteArray })]),(false,[vb (false)])]) [] []) (.ob ((1:Nat)+(z3.fst.length-(1:Nat))≤z3.fst.length)<|.ob ((1:Nat)+(z4.fst.length-(1:Nat))≤z4.fst.length)<|.ob ((1:Nat)+(z5.fst.length-(1:Nat))≤z5.fst.length)<|.leaf (mkR fParsePolicy.rs (⟨true,cut z3.fst (1:Nat) (z3.fst.length-(1:Nat)),cut z4.fst (1:Nat) (z4.fst.length-(1:Nat)),cut z5.fst (1:Nat) (z5.fst.length-(1:Nat)),{ data := #[]:ByteArray }⟩,true,())) [] []))) (.ob ((1:Nat)+(z3.fst.length-(1:Nat))≤z3.fst.length)<|.ob ((1:Nat)+(z4.fst.length-(1:Nat))≤z4.fst.length)<|.ob ((1:Nat)+(z5.fst.length-(1:Nat))≤z5.fst.length)<|.ob (fFormatPolicy.pre ({ set_:=true,scripts:=cut z3.fst (1:Nat) (z3.fst.length-(1:Nat)),styles:=cut z4.fst (1:Nat) (z4.fst.length-(1:Nat)),images:=cut z5.fst (1:Nat) (z5.fst.length-(1:Nat)),nonce:={ data := #[]:ByteArray }:SPolicy },()))<|.lt (ByteArray×PUnit) (fFormatPolicy.fn ({ set_:=true,scripts:=cut z3.fst (1:Nat) (z3.fst.length-(1:Nat)),styles:=cut z4.fst (1:Nat) (z4.fst.length-(1:Nat)),images:=cut z5.fst (1:Nat) (z5.fst.length-(1:Nat)),nonce:={ data := #[]:ByteArray }:SPolicy },())) fun z8=>.br (!z8.fst.toList==ByteArray.toList s) (.leaf (.tup [(true,[vb (false),.nl,.nl,.nl,vs ({ data := #[]:ByteArray })]),(false,[vb (false)])]) [] []) (.ob ((1:Nat)+(z3.fst.length-(1:Nat))≤z3.fst.length)<|.ob ((1:Nat)+(z4.fst.length-(1:Nat))≤z4.fst.length)<|.ob ((1:Nat)+(z5.fst.length-(1:Nat))≤z5.fst.length)<|.leaf (mkR fParsePolicy.rs (⟨true,cut z3.fst (1:Nat) (z3.fst.length-(1:Nat)),cut z4.fst (1:Nat) (z4.fst.length-(1:Nat)),cut z5.fst (1:Nat) (z5.fst.length-(1:Nat)),{ data := #[]:ByteArray }⟩,true,())) [] []))))) ?_
 refine br_i (fun h1=>Fct.leafZ (default,true,()) (by repeat' first|exact rfl|exact trivial|refine And.intro ?_ ?_) ?_) (fun h1=>ob_i ?_ fun o2=>lt_i (br_i (fun h3=>Fct.leafZ (default,false,()) (by repeat' first|exact rfl|exact trivial|refine And.intro ?_ ?_) ?_) (fun h3=>ob_i ?_ fun o4=>ob_i ?_ fun o5=>ob_i ?_ fun o6=>lt_i (ob_i ?_ fun o7=>ob_i ?_ fun o8=>ob_i ?_ fun o9=>ob_i ?_ fun o10=>lt_i (ob_i ?_ fun o11=>ob_i ?_ fun o12=>ob_i ?_ fun o13=>ob_i ?_ fun o14=>lt_i (ob_i ?_ fun o15=>br_i (fun h16=>ob_i ?_ fun o17=>ob_i ?_ fun o18=>br_i (fun h19=>ob_i ?_ fun o20=>ob_i ?_ fun o21=>ob_i ?_ fun o22=>ob_i ?_ fun o23=>ob_i ?_ fun o24=>ob_i ?_ fun o25=>ob_i ?_ fun o26=>lt_i (br_i (fun h27=>Fct.leafZ (default,false,()) (by repeat' first|exact rfl|exact trivial|refine And.intro ?_ ?_) ?_) (fun h27=>ob_i ?_ fun o28=>ob_i ?_ fun o29=>ob_i ?_ fun o30=>Fct.leafY ?_))) (fun h19=>ob_i ?_ fun o31=>ob_i ?_ fun o32=>ob_i ?_ fun o33=>ob_i ?_ fun o34=>lt_i (br_i (fun h35=>Fct.leafZ (default,false,()) (by repeat' first|exact rfl|exact trivial|refine And.intro ?_ ?_) ?_) (fun h35=>ob_i ?_ fun o36=>ob_i ?_ fun o37=>ob_i ?_ fun o38=>Fct.leafY ?_)))) (fun h16=>ob_i ?_ fun o39=>ob_i ?_ fun o40=>ob_i ?_ fun o41=>ob_i ?_ fun o42=>lt_i (br_i (fun h43=>Fct.leafZ (default,false,()) (by repeat' first|exact rfl|exact trivial|refine And.intro ?_ ?_) ?_) (fun h43=>ob_i ?_ fun o44=>ob_i ?_ fun o45=>ob_i ?_ fun o46=>Fct.leafY ?_)))))))))
 all_goals
  try simp only[std0] at *
  try simp only[fFormatPolicy,fParsePolicy,fSplit5,std,Nat.reduceAdd,szF,toF,eqF,mkF,heF,cut_end] at *
  try simp only[show UInt8.ofNat (Int.toNat 59)=59 from rfl,show UInt8.ofNat (Int.toNat 32)=32 from rfl] at *
 all_goals
  have g0:=spl_get 59 s 0
  have g1:=spl_get 59 s 1
  have g2:=spl_get 59 s 2
  have g3:=spl_get 59 s 3
  have k0:=spl_len 32 ((spl 59 s).getD 0 default)
  have k1:=spl_len 32 ((spl 59 s).getD 1 default)
  have k2:=spl_len 32 ((spl 59 s).getD 2 default)
 all_goals first|trivial|omega|(with_reducible refine Nat.le_trans (pol_sz (Nat.zero_le _)) ?_;omega)|(with_reducible refine Nat.le_trans (pol_sz ?_) ?_;(rw[ByteArray.size_extract];omega);omega)|skip
 all_goals first|(simp only[parsePolicy];rw[if_pos (by assumption)];exact⟨rfl,rfl⟩)|(simp only[parsePolicy];rw[if_neg (by assumption),if_neg (by omega)];exact⟨rfl,rfl⟩)|(simp only[parsePolicy,polCand];grind)|skip)
def E61:=E60.add 143 fParsePolicy
theorem E61ok:EOk Tryz.prog E61:=E60ok.add k143_60
def isResponse (x:SResponse):Bool:=inRange x.status 100 599&&(inRange x.kind 1 5&&(decide (x.body.size≤400)&&(inRange x.age 0 1000&&(parsePolicy x.policy).2)))
def fIsResponse:Fct:=⟨[.v (.el .response)],[.el .bool],fun(x_:SResponse×Unit)=>x_.1.policy.size≤200000000,fun(x_:SResponse×Unit)=>(isResponse x_.1,())⟩
theorem k133_61:fIsResponse.ok Tryz.prog 133:=Fct.o [1,2,4] E61ok Tryz.func133 (by
 rintro⟨(x:SResponse),_⟩ hp
 refine ho (.cl fParsePolicy (x.policy,()) fun z2=>.cl fInRange (x.status,(100:Int),(599:Int),()) fun z3=>.br (z3.1) (.cl fInRange (x.kind,(1:Int),(5:Int),()) fun z4=>.br (z4.1) (.br (decide ((↑x.body.size:Int)≤400)) (.cl fInRange (x.age,(0:Int),(1000:Int),()) fun z5=>.br (z5.1) (.lf fIsResponse (z2.2.1,())) (.lf fIsResponse (false,()))) (.lf fIsResponse (false,()))) (.lf fIsResponse (false,()))) (.lf fIsResponse (false,()))) ?_
 refine cl_i ?_ fun o1=>(cl_i trivial fun _=>(br_i (fun h2=>cl_i trivial fun _=>(br_i (fun h3=>br_i (fun h4=>cl_i trivial fun _=>(br_i (fun h5=>lfY ?_) (fun h5=>lfY ?_))) (fun h4=>lfY ?_)) (fun h3=>lfY ?_))) (fun h2=>lfY ?_)))
 all_goals
  try simp only[std0] at *
  try simp only[fInRange,fIsResponse,fParsePolicy,std,Nat.reduceAdd,szF,toF,eqF,mkF,heF,isResponse,fParsePolicy,fInRange] at *
  try simp(disch:=omega) only[wrapId',toNat1] at *
  try simp(disch:=omega) only[if_pos,if_neg]
 all_goals first|trivial|omega|grind[wrapId',toNat1,drop_cons,drop_end,good_len,maxLen,isResponse,fParsePolicy,fInRange])
def E62:=E61.add 133 fIsResponse
theorem E62ok:EOk Tryz.prog E62:=E61ok.add k133_61
theorem value_no {b:UInt8} (hb:valByte b=false) {s:ByteArray} (h:isValue s=true):b∉toL s:=by
 intro hm
 simp only[isValue,Bool.and_eq_true,allB,List.all_eq_true] at h
 rw[h.1 b hm] at hb;cases hb
theorem szL_cons {α:Type} (f:α→Nat) (x:α) (l:List α):szL f (x::l)=f x+1+szL f l:=by simp only[szL,List.map_cons,List.sum_cons,List.length_cons];omega
theorem szL_snoc {α:Type} (f:α→Nat) (l:List α) (x:α):szL f (l++[x])=szL f l+(f x+1):=by
 induction l with
 | nil=>rw[List.nil_append,szL_cons];simp[szL]
 | cons y l ih=>rw[List.cons_append,szL_cons,szL_cons,ih];omega
theorem szL_mem {α:Type} (f:α→Nat) {t:α}:∀ {l:List α},t∈l→f t+1≤szL f l
 | [],h=>by cases h
 | x::l,h=>by
  rw[szL_cons]
  rcases List.mem_cons.1 h with rfl|h
  ·omega
  ·have:=szL_mem f h;omega
def newBuilder:SBuilder:=⟨[⟨⟨#[112,97,103,101]⟩,⟨#[]⟩,-1,[]⟩],[0]⟩
def fNewBuilder:Fct:=⟨[],[rE .builder],fun _=>True,fun _=>(newBuilder,())⟩
end Go.Proofs.YtkmilnnddljcnaaGreat.fnPriorities
