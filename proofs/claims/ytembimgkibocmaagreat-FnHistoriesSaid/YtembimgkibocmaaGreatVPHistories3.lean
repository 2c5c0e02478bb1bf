/-
  Contracts of functions that the law of FnHistories reaches, part 3.
-/
import Derived.Test.YtembimgkibocmaaGreatVPHistories2
import Derived.Test.YtembimgkibocmaaGreatVLd
import Derived.WalkKit
import Derived.BigGuard
import Derived.Deep.QuietTactic
import Derived.BigQuiet
import Derived.Lib.ConvBytes
import Derived.Sort.WalkC
import Derived.Test.YtembimgkibocmaaGreatRows
import Derived.WalkKit
import Derived.ProofKit
import Derived.OpenShut
namespace Go.Proofs.YtembimgkibocmaaGreat.fnHistories
open Go.Proofs.YtembimgkibocmaaGreat
open Go.D
set_option maxRecDepth 100000
set_option maxHeartbeats 2000000
set_option linter.unusedVariables false
set_option linter.unusedSimpArgs false
theorem k126_127:fScript.ok Tryz.prog 126:=GS.of (S:=fScript) (L:=fun _ _=>none) (kp:=[1,2,4,5,6,7,8,10,12,14,15,55,61,64,75,1000055,1000061,1000064,1000075]) E127ok Tryz.func126 (by kernel_rfl) (by kernel_rfl) (by
 rintro⟨(p:SPage),(n:Int),_⟩ hp
 refine ho (.ob (inB n p.builder.nodes.length)<|.ob (Int.toNat n<p.builder.nodes.length)<|.cl fFindAttr ((p.builder.nodes.getD (Int.toNat n) default).attrs,(⟨#[115,114,99]⟩:ByteArray),()) fun z2=>.cl fFindAttr ((p.builder.nodes.getD (Int.toNat n) default).attrs,(⟨#[107,105,110,100]⟩:ByteArray),()) fun z3=>.cl fFindAttr ((p.builder.nodes.getD (Int.toNat n) default).attrs,(⟨#[100,105,103,101,115,116]⟩:ByteArray),()) fun z4=>.cl fFindAttr ((p.builder.nodes.getD (Int.toNat n) default).attrs,(⟨#[110,111,110,99,101]⟩:ByteArray),()) fun z5=>.br (!z2.2.1) (.cl fAllowsInline (p.policy,z5.1,()) fun z6=>.br (z6.1) (GS.out fScript ((⟨p.addr,p.policy,p.tok,p.queue,p.ended,p.builder,p.slots,p.mods,p.entries,p.block,n,p.deferred,p.entered,p.ran,p.log,p.loaded⟩,()),(()))) (GS.out fScript ((p,()),(())))) (.br (z3.1.toList==(⟨#[100,101,102,101,114]⟩:ByteArray).toList) (.cl fAddSlot (p,(4:Int),z2.1,z4.1,n,()) fun(z7:SPage×Int×PUnit)=>GS.out fScript ((z7.1,()),(()))) (.br (z3.1.toList==(⟨#[109,111,100,117,108,101]⟩:ByteArray).toList) (.cl fAddEntry (p,z2.1,()) fun z8=>GS.out fScript ((z8.1,()),(()))) (.cl fAddSlot (p,(3:Int),z2.1,z4.1,n,()) fun(z9:SPage×Int×PUnit)=>GS.out fScript ((⟨z9.1.addr,z9.1.policy,z9.1.tok,z9.1.queue,z9.1.ended,z9.1.builder,z9.1.slots,z9.1.mods,z9.1.entries,w1 z9.2.1,z9.1.inline,z9.1.deferred,z9.1.entered,z9.1.ran,z9.1.log,z9.1.loaded⟩,()),(())))))) ?_
 refine ob_i ?_ fun o1=>ob_i ?_ fun o2=>cl_i ?_ fun o3=>(cl_i ?_ fun o4=>(cl_i ?_ fun o5=>(cl_i ?_ fun o6=>(br_i (fun h7=>cl_i trivial fun _=>(br_i (fun h8=>GS.leafY ?_) (fun h8=>GS.leafY ?_))) (fun h7=>br_i (fun h9=>cl_i ?_ fun o10=>(GS.leafY ?_)) (fun h9=>br_i (fun h11=>cl_i ?_ fun o12=>(GS.leafY ?_)) (fun h11=>cl_i ?_ fun o13=>(GS.leafY ?_))))))))
 all_goals
  have hn:=node_attrs p.builder.nodes n.toNat (by have q1:0≤n:=hp.2.2.2.1;have q2:n<p.builder.nodes.length:=hp.2.2.2.2;omega)
  have hn2:=szL_len szAttr (p.builder.nodes.getD n.toNat default).attrs
 all_goals generalize hat:(p.builder.nodes.getD n.toNat default).attrs=at_ at *
 all_goals
  have h1:=findAttr_sz at_ ⟨#[110,111,110,99,101]⟩
  have h2:=findAttr_sz at_ ⟨#[115,114,99]⟩
  have h3:=findAttr_sz at_ ⟨#[100,105,103,101,115,116]⟩
  have h4:=fun m to d=>addSlot_in p m to d n
  try simp only[std0] at *
  try simp only[fAddEntry,fAddSlot,fAllowsInline,fFindAttr,fScript,std,Nat.reduceAdd,szF,toF,eqF,mkF,heF,script,fFindAttr,fAddSlot,fAllowsInline,fAddEntry] at *
  try simp(disch:=omega) only[wrapId',toNat1] at *
  try simp(disch:=omega) only[if_pos,if_neg]
 all_goals first|trivial|omega|grind[wrapId',toNat1,drop_cons,drop_end,good_len,maxLen,script,fFindAttr,fAddSlot,fAllowsInline,fAddEntry])
def E128:=E127.addG 126 fScript
theorem E128ok:EOk Tryz.prog E128:=E127ok.addG k126_127
def isScript (p:SPage) (t:SToken):Bool:=decide (t.kind=2)&&(decide (t.name=⟨#[115,99,114,105,112,116]⟩)&&(decide (0<p.builder.open_.length∧1≤lastOpen p.builder∧lastOpen p.builder<p.builder.nodes.length)&&decide ((p.builder.nodes.getD (lastOpen p.builder).toNat default).name=⟨#[115,99,114,105,112,116]⟩)))
def taken (p:SPage) (t:SToken):SPage:={ p with queue:=p.queue.drop 1,builder:=(addToken p.builder t).1 }
def takeTok (p:SPage) (t:SToken):SPage :=
 if t.kind=1∧0≤(addToken p.builder t).2 then element (taken p t) t (addToken p.builder t).2
 else if isScript p t=true then script (taken p t) (lastOpen p.builder)
 else taken p t
def takeToken (p:SPage):SPage×Bool:=if p.queue.length=0∨p.block≠0∨p.inline≠0 then(p,false) else(takeTok p (p.queue.getD 0 default),true)
theorem cutDrop {l:List SToken}:cut l 1 (l.length-1)=l.drop 1:=by
 unfold cut;rw[List.take_of_length_le (by simp)]
theorem taken_eq (p:SPage) (t:SToken):(⟨p.addr,p.policy,p.tok,cut p.queue 1 (p.queue.length-1),p.ended,(addToken p.builder t).1,p.slots,p.mods,p.entries,p.block,p.inline,p.deferred,p.entered,p.ran,p.log,p.loaded⟩:SPage)=taken p t:=by rw[cutDrop];rfl
theorem closeN_len (b:SBuilder) (n:ByteArray):∀ k,k≤b.open_.length→(closeN b n k).length≤b.open_.length
 | 0,_=>Nat.le_refl _
 | 1,_=>Nat.le_refl _
 | m+2,h=>by
  rw[closeN]
  split
  ·rw[List.length_take];omega
  ·exact closeN_len b n (m+1) (by omega)
theorem addToken_sz (b:SBuilder) (t:SToken):szL szNode (addToken b t).1.nodes≤szL szNode b.nodes+szToken t+1∧(addToken b t).1.open_.length≤b.open_.length+1∧(t.kind=2→(addToken b t).1.nodes=b.nodes):=by
 have h0:szL szNode []=0:=rfl
 have h2:szL szAttr []=0:=rfl
 have h3:ByteArray.size ⟨#[]⟩=0:=rfl
 unfold addToken
 split
 ·have:=closeN_len b t.name _ (Nat.le_refl _)
  exact⟨by show szL szNode b.nodes≤_;omega,by show(closeN b t.name b.open_.length).length≤_;omega,fun _=>rfl⟩
 ·split
  ·split
   ·refine⟨?_,?_,fun h=>absurd h (by omega)⟩
    ·dsimp only;rw[szL_app,szL_cons,h0];simp only[szNode,szToken,h3];omega
    ·dsimp only;split
     ·omega
     ·simp
   ·refine⟨?_,?_,fun h=>absurd h (by omega)⟩
    ·dsimp only;rw[szL_app,szL_cons,h0];simp only[szNode,szToken,h3,h2];omega
    ·exact Nat.le_succ _
  ·exact⟨by dsimp only;omega,Nat.le_succ _,fun _=>rfl⟩
theorem taken_sz (p:SPage) (h:0<p.queue.length):szPage (taken p (p.queue.getD 0 default))≤szPage p+2∧szToken (p.queue.getD 0 default)+1+szL szToken (p.queue.drop 1)=szL szToken p.queue:=by
 have h1:=szL_at szToken h
 rw[List.drop_zero,Nat.zero_add] at h1
 have h2:=addToken_sz p.builder (p.queue.getD 0 default)
 refine⟨?_,h1.symm⟩
 simp only[szPage,taken,szBuilder]
 omega
theorem isScript_yes {p:SPage} {t:SToken} (h1:t.kind=2) (h2:t.name=⟨#[115,99,114,105,112,116]⟩) (h3:0<p.builder.open_.length) (h4:1≤lastOpen p.builder) (h5:lastOpen p.builder<p.builder.nodes.length) (h6:(p.builder.nodes.getD (lastOpen p.builder).toNat default).name=⟨#[115,99,114,105,112,116]⟩):isScript p t=true:=by
 unfold isScript;rw[decide_eq_true h1,decide_eq_true h2,decide_eq_true ⟨h3,h4,h5⟩,decide_eq_true h6];rfl
theorem isScript_no {p:SPage} {t:SToken} (h:¬ t.kind=2∨¬ t.name=⟨#[115,99,114,105,112,116]⟩∨¬ (0<p.builder.open_.length∧1≤lastOpen p.builder∧lastOpen p.builder<p.builder.nodes.length)∨¬ (p.builder.nodes.getD (lastOpen p.builder).toNat default).name=⟨#[115,99,114,105,112,116]⟩):¬ isScript p t=true:=by
 unfold isScript
 simp only[Bool.and_eq_true,decide_eq_true_eq]
 rintro⟨q1,q2,q3,q4⟩
 rcases h with h|h|h|h
 ·exact h q1
 ·exact h q2
 ·exact h q3
 ·exact h q4
theorem takeTok_el {p:SPage} {t:SToken} (h1:t.kind=1) (h2:0≤(addToken p.builder t).2):takeTok p t=element (taken p t) t (addToken p.builder t).2:=by unfold takeTok;rw[if_pos ⟨h1,h2⟩]
theorem takeTok_sc {p:SPage} {t:SToken} (h1:t.kind=2) (h2:isScript p t=true):takeTok p t=script (taken p t) (lastOpen p.builder):=by unfold takeTok;rw[if_neg (by omega),if_pos h2]
theorem takeTok_no {p:SPage} {t:SToken} (h1:¬ t.kind=1∨(addToken p.builder t).2<0) (h2:¬ isScript p t=true):takeTok p t=taken p t:=by unfold takeTok;rw[if_neg (by omega),if_neg h2]
def okTok (p:SPage):Prop:=szPage p≤1000000000000∧p.addr.host.size≤4000000000∧(∀ i,i<p.queue.length→szToken (p.queue.getD i default)≤1000000000)∧szL szNode p.builder.nodes≤1000000000∧p.builder.open_.length≤1000000000
def fTakeToken:Fct:=⟨[.v (.el .page)],[.el .page,.el .bool],fun(x_:SPage×Unit)=>okTok x_.1,fun(x_:SPage×Unit)=>((takeToken x_.1).1,(takeToken x_.1).2,())⟩
theorem k95_128:fTakeToken.ok Tryz.prog 95:=Fct.o [1,2,3,4,5,6,7,8,24,38,64,95,1000024,1000038,1000064,1000095] E128ok Tryz.func95 (by
 rintro⟨(p:SPage),_⟩ hp
 refine ho (.cl fCopyPage (p,()) fun z2=>.br ((↑p.queue.length:Int)==0) (.lf fTakeToken (z2.1,false,())) (.br (p.block != 0) (.lf fTakeToken (z2.1,false,())) (.br (p.inline != 0) (.lf fTakeToken (z2.1,false,())) (.ob ((0:Int)≤(0:Int)∧(0:Int)<(↑z2.1.queue.length:Int))<|.ob (0<z2.1.queue.length)<|.ob ((0:Int)≤(1:Int)∧(1:Int)≤(↑z2.1.queue.length:Int))<|.br (decide ((↑p.builder.open_.length:Int)>0)) (.ob (0≤wr ((↑p.builder.open_.length:Int)-(1:Int))∧wr ((↑p.builder.open_.length:Int)-(1:Int))<(↑p.builder.open_.length:Int))<|.cl fAddToken (p.builder,z2.1.queue.getD 0 default,()) fun(z3:SBuilder×Int×PUnit)=>.br ((z2.1.queue.getD 0 default).kind==1) (.br (decide (z3.2.1≥0)) (.ob (1+(z2.1.queue.length-1)≤z2.1.queue.length)<|.ob (fElement.pre ((⟨z2.1.addr,z2.1.policy,z2.1.tok,cut z2.1.queue 1 (z2.1.queue.length-1),z2.1.ended,z3.1,z2.1.slots,z2.1.mods,z2.1.entries,z2.1.block,z2.1.inline,z2.1.deferred,z2.1.entered,z2.1.ran,z2.1.log,z2.1.loaded⟩:SPage),z2.1.queue.getD 0 default,z3.2.1,()))<|.lt _ (fElement.fn ((⟨z2.1.addr,z2.1.policy,z2.1.tok,cut z2.1.queue 1 (z2.1.queue.length-1),z2.1.ended,z3.1,z2.1.slots,z2.1.mods,z2.1.entries,z2.1.block,z2.1.inline,z2.1.deferred,z2.1.entered,z2.1.ran,z2.1.log,z2.1.loaded⟩:SPage),z2.1.queue.getD 0 default,z3.2.1,())) fun z4=>.br ((z2.1.queue.getD 0 default).kind==2) (.br ((z2.1.queue.getD 0 default).name.toList==(⟨#[115,99,114,105,112,116]⟩:ByteArray).toList) (.cl fInRange (p.builder.open_.getD (wr ((↑p.builder.open_.length:Int)-(1:Int))).toNat default,(1:Int),wr ((↑p.builder.nodes.length:Int)-(1:Int)),()) fun z5=>.br (z5.1) (.ob (0≤p.builder.open_.getD (wr ((↑p.builder.open_.length:Int)-(1:Int))).toNat default∧p.builder.open_.getD (wr ((↑p.builder.open_.length:Int)-(1:Int))).toNat default<(↑p.builder.nodes.length:Int))<|.br ((p.builder.nodes.getD (p.builder.open_.getD (wr ((↑p.builder.open_.length:Int)-(1:Int))).toNat default).toNat default).name.toList==(⟨#[115,99,114,105,112,116]⟩:ByteArray).toList) (.ob (fScript.pre (z4.1.1,p.builder.open_.getD (wr ((↑p.builder.open_.length:Int)-(1:Int))).toNat default,()))<|.lt _ (fScript.fn (z4.1.1,p.builder.open_.getD (wr ((↑p.builder.open_.length:Int)-(1:Int))).toNat default,())) fun z6=>.lf fTakeToken (z6.1.1,true,())) (.lf fTakeToken (z4.1.1,true,()))) (.lf fTakeToken (z4.1.1,true,()))) (.lf fTakeToken (z4.1.1,true,()))) (.lf fTakeToken (z4.1.1,true,()))) (.br ((z2.1.queue.getD 0 default).kind==2) (.br ((z2.1.queue.getD 0 default).name.toList==(⟨#[115,99,114,105,112,116]⟩:ByteArray).toList) (.cl fInRange (p.builder.open_.getD (wr ((↑p.builder.open_.length:Int)-(1:Int))).toNat default,(1:Int),wr ((↑p.builder.nodes.length:Int)-(1:Int)),()) fun z7=>.br (z7.1) (.ob (0≤p.builder.open_.getD (wr ((↑p.builder.open_.length:Int)-(1:Int))).toNat default∧p.builder.open_.getD (wr ((↑p.builder.open_.length:Int)-(1:Int))).toNat default<(↑p.builder.nodes.length:Int))<|.br ((p.builder.nodes.getD (p.builder.open_.getD (wr ((↑p.builder.open_.length:Int)-(1:Int))).toNat default).toNat default).name.toList==(⟨#[115,99,114,105,112,116]⟩:ByteArray).toList) (.ob (1+(z2.1.queue.length-1)≤z2.1.queue.length)<|.ob (fScript.pre ((⟨z2.1.addr,z2.1.policy,z2.1.tok,cut z2.1.queue 1 (z2.1.queue.length-1),z2.1.ended,z3.1,z2.1.slots,z2.1.mods,z2.1.entries,z2.1.block,z2.1.inline,z2.1.deferred,z2.1.entered,z2.1.ran,z2.1.log,z2.1.loaded⟩:SPage),p.builder.open_.getD (wr ((↑p.builder.open_.length:Int)-(1:Int))).toNat default,()))<|.lt _ (fScript.fn ((⟨z2.1.addr,z2.1.policy,z2.1.tok,cut z2.1.queue 1 (z2.1.queue.length-1),z2.1.ended,z3.1,z2.1.slots,z2.1.mods,z2.1.entries,z2.1.block,z2.1.inline,z2.1.deferred,z2.1.entered,z2.1.ran,z2.1.log,z2.1.loaded⟩:SPage),p.builder.open_.getD (wr ((↑p.builder.open_.length:Int)-(1:Int))).toNat default,())) fun z8=>.lf fTakeToken (z8.1.1,true,())) (.ob (1+(z2.1.queue.length-1)≤z2.1.queue.length)<|.lf fTakeToken (⟨z2.1.addr,z2.1.policy,z2.1.tok,cut z2.1.queue 1 (z2.1.queue.length-1),z2.1.ended,z3.1,z2.1.slots,z2.1.mods,z2.1.entries,z2.1.block,z2.1.inline,z2.1.deferred,z2.1.entered,z2.1.ran,z2.1.log,z2.1.loaded⟩,true,()))) (.ob (1+(z2.1.queue.length-1)≤z2.1.queue.length)<|.lf fTakeToken (⟨z2.1.addr,z2.1.policy,z2.1.tok,cut z2.1.queue 1 (z2.1.queue.length-1),z2.1.ended,z3.1,z2.1.slots,z2.1.mods,z2.1.entries,z2.1.block,z2.1.inline,z2.1.deferred,z2.1.entered,z2.1.ran,z2.1.log,z2.1.loaded⟩,true,()))) (.ob (1+(z2.1.queue.length-1)≤z2.1.queue.length)<|.lf fTakeToken (⟨z2.1.addr,z2.1.policy,z2.1.tok,cut z2.1.queue 1 (z2.1.queue.length-1),z2.1.ended,z3.1,z2.1.slots,z2.1.mods,z2.1.entries,z2.1.block,z2.1.inline,z2.1.deferred,z2.1.entered,z2.1.ran,z2.1.log,z2.1.loaded⟩,true,()))) (.ob (1+(z2.1.queue.length-1)≤z2.1.queue.length)<|.lf fTakeToken (⟨z2.1.addr,z2.1.policy,z2.1.tok,cut z2.1.queue 1 (z2.1.queue.length-1),z2.1.ended,z3.1,z2.1.slots,z2.1.mods,z2.1.entries,z2.1.block,z2.1.inline,z2.1.deferred,z2.1.entered,z2.1.ran,z2.1.log,z2.1.loaded⟩,true,())))) (.br ((z2.1.queue.getD 0 default).kind==2) (.br ((z2.1.queue.getD 0 default).name.toList==(⟨#[115,99,114,105,112,116]⟩:ByteArray).toList) (.cl fInRange (p.builder.open_.getD (wr ((↑p.builder.open_.length:Int)-(1:Int))).toNat default,(1:Int),wr ((↑p.builder.nodes.length:Int)-(1:Int)),()) fun z9=>.br (z9.1) (.ob (0≤p.builder.open_.getD (wr ((↑p.builder.open_.length:Int)-(1:Int))).toNat default∧p.builder.open_.getD (wr ((↑p.builder.open_.length:Int)-(1:Int))).toNat default<(↑p.builder.nodes.length:Int))<|.br ((p.builder.nodes.getD (p.builder.open_.getD (wr ((↑p.builder.open_.length:Int)-(1:Int))).toNat default).toNat default).name.toList==(⟨#[115,99,114,105,112,116]⟩:ByteArray).toList) (.ob (1+(z2.1.queue.length-1)≤z2.1.queue.length)<|.ob (fScript.pre ((⟨z2.1.addr,z2.1.policy,z2.1.tok,cut z2.1.queue 1 (z2.1.queue.length-1),z2.1.ended,z3.1,z2.1.slots,z2.1.mods,z2.1.entries,z2.1.block,z2.1.inline,z2.1.deferred,z2.1.entered,z2.1.ran,z2.1.log,z2.1.loaded⟩:SPage),p.builder.open_.getD (wr ((↑p.builder.open_.length:Int)-(1:Int))).toNat default,()))<|.lt _ (fScript.fn ((⟨z2.1.addr,z2.1.policy,z2.1.tok,cut z2.1.queue 1 (z2.1.queue.length-1),z2.1.ended,z3.1,z2.1.slots,z2.1.mods,z2.1.entries,z2.1.block,z2.1.inline,z2.1.deferred,z2.1.entered,z2.1.ran,z2.1.log,z2.1.loaded⟩:SPage),p.builder.open_.getD (wr ((↑p.builder.open_.length:Int)-(1:Int))).toNat default,())) fun z10=>.lf fTakeToken (z10.1.1,true,())) (.ob (1+(z2.1.queue.length-1)≤z2.1.queue.length)<|.lf fTakeToken (⟨z2.1.addr,z2.1.policy,z2.1.tok,cut z2.1.queue 1 (z2.1.queue.length-1),z2.1.ended,z3.1,z2.1.slots,z2.1.mods,z2.1.entries,z2.1.block,z2.1.inline,z2.1.deferred,z2.1.entered,z2.1.ran,z2.1.log,z2.1.loaded⟩,true,()))) (.ob (1+(z2.1.queue.length-1)≤z2.1.queue.length)<|.lf fTakeToken (⟨z2.1.addr,z2.1.policy,z2.1.tok,cut z2.1.queue 1 (z2.1.queue.length-1),z2.1.ended,z3.1,z2.1.slots,z2.1.mods,z2.1.entries,z2.1.block,z2.1.inline,z2.1.deferred,z2.1.entered,z2.1.ran,z2.1.log,z2.1.loaded⟩,true,()))) (.ob (1+(z2.1.queue.length-1)≤z2.1.queue.length)<|.lf fTakeToken (⟨z2.1.addr,z2.1.policy,z2.1.tok,cut z2.1.queue 1 (z2.1.queue.length-1),z2.1.ended,z3.1,z2.1.slots,z2.1.mods,z2.1.entries,z2.1.block,z2.1.inline,z2.1.deferred,z2.1.entered,z2.1.ran,z2.1.log,z2.1.loaded⟩,true,()))) (.ob (1+(z2.1.queue.length-1)≤z2.1.queue.length)<|.lf fTakeToken (⟨z2.1.addr,z2.1.policy,z2.1.tok,cut z2.1.queue 1 (z2.1.queue.length-1),z2.1.ended,z3.1,z2.1.slots,z2.1.mods,z2.1.entries,z2.1.block,z2.1.inline,z2.1.deferred,z2.1.entered,z2.1.ran,z2.1.log,z2.1.loaded⟩,true,())))) (.cl fAddToken (p.builder,z2.1.queue.getD 0 default,()) fun(z11:SBuilder×Int×PUnit)=>.br ((z2.1.queue.getD 0 default).kind==1) (.br (decide (z11.2.1≥0)) (.ob (1+(z2.1.queue.length-1)≤z2.1.queue.length)<|.ob (fElement.pre ((⟨z2.1.addr,z2.1.policy,z2.1.tok,cut z2.1.queue 1 (z2.1.queue.length-1),z2.1.ended,z11.1,z2.1.slots,z2.1.mods,z2.1.entries,z2.1.block,z2.1.inline,z2.1.deferred,z2.1.entered,z2.1.ran,z2.1.log,z2.1.loaded⟩:SPage),z2.1.queue.getD 0 default,z11.2.1,()))<|.lt _ (fElement.fn ((⟨z2.1.addr,z2.1.policy,z2.1.tok,cut z2.1.queue 1 (z2.1.queue.length-1),z2.1.ended,z11.1,z2.1.slots,z2.1.mods,z2.1.entries,z2.1.block,z2.1.inline,z2.1.deferred,z2.1.entered,z2.1.ran,z2.1.log,z2.1.loaded⟩:SPage),z2.1.queue.getD 0 default,z11.2.1,())) fun z12=>.br ((z2.1.queue.getD 0 default).kind==2) (.br ((z2.1.queue.getD 0 default).name.toList==(⟨#[115,99,114,105,112,116]⟩:ByteArray).toList) (.cl fInRange ((-1:Int),(1:Int),wr ((↑p.builder.nodes.length:Int)-(1:Int)),()) fun z13=>.br (z13.1) (.ob ((0:Int)≤(-1:Int)∧(-1:Int)<(↑p.builder.nodes.length:Int))<|.br ((p.builder.nodes.getD 0 default).name.toList==(⟨#[115,99,114,105,112,116]⟩:ByteArray).toList) (.ob (fScript.pre (z12.1.1,(-1:Int),()))<|.lt _ (fScript.fn (z12.1.1,(-1:Int),())) fun z14=>.lf fTakeToken (z14.1.1,true,())) (.lf fTakeToken (z12.1.1,true,()))) (.lf fTakeToken (z12.1.1,true,()))) (.lf fTakeToken (z12.1.1,true,()))) (.lf fTakeToken (z12.1.1,true,()))) (.br ((z2.1.queue.getD 0 default).kind==2) (.br ((z2.1.queue.getD 0 default).name.toList==(⟨#[115,99,114,105,112,116]⟩:ByteArray).toList) (.cl fInRange ((-1:Int),(1:Int),wr ((↑p.builder.nodes.length:Int)-(1:Int)),()) fun z15=>.br (z15.1) (.ob ((0:Int)≤(-1:Int)∧(-1:Int)<(↑p.builder.nodes.length:Int))<|.br ((p.builder.nodes.getD 0 default).name.toList==(⟨#[115,99,114,105,112,116]⟩:ByteArray).toList) (.ob (1+(z2.1.queue.length-1)≤z2.1.queue.length)<|.ob (fScript.pre ((⟨z2.1.addr,z2.1.policy,z2.1.tok,cut z2.1.queue 1 (z2.1.queue.length-1),z2.1.ended,z11.1,z2.1.slots,z2.1.mods,z2.1.entries,z2.1.block,z2.1.inline,z2.1.deferred,z2.1.entered,z2.1.ran,z2.1.log,z2.1.loaded⟩:SPage),(-1:Int),()))<|.lt _ (fScript.fn ((⟨z2.1.addr,z2.1.policy,z2.1.tok,cut z2.1.queue 1 (z2.1.queue.length-1),z2.1.ended,z11.1,z2.1.slots,z2.1.mods,z2.1.entries,z2.1.block,z2.1.inline,z2.1.deferred,z2.1.entered,z2.1.ran,z2.1.log,z2.1.loaded⟩:SPage),(-1:Int),())) fun z16=>.lf fTakeToken (z16.1.1,true,())) (.ob (1+(z2.1.queue.length-1)≤z2.1.queue.length)<|.lf fTakeToken (⟨z2.1.addr,z2.1.policy,z2.1.tok,cut z2.1.queue 1 (z2.1.queue.length-1),z2.1.ended,z11.1,z2.1.slots,z2.1.mods,z2.1.entries,z2.1.block,z2.1.inline,z2.1.deferred,z2.1.entered,z2.1.ran,z2.1.log,z2.1.loaded⟩,true,()))) (.ob (1+(z2.1.queue.length-1)≤z2.1.queue.length)<|.lf fTakeToken (⟨z2.1.addr,z2.1.policy,z2.1.tok,cut z2.1.queue 1 (z2.1.queue.length-1),z2.1.ended,z11.1,z2.1.slots,z2.1.mods,z2.1.entries,z2.1.block,z2.1.inline,z2.1.deferred,z2.1.entered,z2.1.ran,z2.1.log,z2.1.loaded⟩,true,()))) (.ob (1+(z2.1.queue.length-1)≤z2.1.queue.length)<|.lf fTakeToken (⟨z2.1.addr,z2.1.policy,z2.1.tok,cut z2.1.queue 1 (z2.1.queue.length-1),z2.1.ended,z11.1,z2.1.slots,z2.1.mods,z2.1.entries,z2.1.block,z2.1.inline,z2.1.deferred,z2.1.entered,z2.1.ran,z2.1.log,z2.1.loaded⟩,true,()))) (.ob (1+(z2.1.queue.length-1)≤z2.1.queue.length)<|.lf fTakeToken (⟨z2.1.addr,z2.1.policy,z2.1.tok,cut z2.1.queue 1 (z2.1.queue.length-1),z2.1.ended,z11.1,z2.1.slots,z2.1.mods,z2.1.entries,z2.1.block,z2.1.inline,z2.1.deferred,z2.1.entered,z2.1.ran,z2.1.log,z2.1.loaded⟩,true,())))) (.br ((z2.1.queue.getD 0 default).kind==2) (.br ((z2.1.queue.getD 0 default).name.toList==(⟨#[115,99,114,105,112,116]⟩:ByteArray).toList) (.cl fInRange ((-1:Int),(1:Int),wr ((↑p.builder.nodes.length:Int)-(1:Int)),()) fun z17=>.br (z17.1) (.ob ((0:Int)≤(-1:Int)∧(-1:Int)<(↑p.builder.nodes.length:Int))<|.br ((p.builder.nodes.getD 0 default).name.toList==(⟨#[115,99,114,105,112,116]⟩:ByteArray).toList) (.ob (1+(z2.1.queue.length-1)≤z2.1.queue.length)<|.ob (fScript.pre ((⟨z2.1.addr,z2.1.policy,z2.1.tok,cut z2.1.queue 1 (z2.1.queue.length-1),z2.1.ended,z11.1,z2.1.slots,z2.1.mods,z2.1.entries,z2.1.block,z2.1.inline,z2.1.deferred,z2.1.entered,z2.1.ran,z2.1.log,z2.1.loaded⟩:SPage),(-1:Int),()))<|.lt _ (fScript.fn ((⟨z2.1.addr,z2.1.policy,z2.1.tok,cut z2.1.queue 1 (z2.1.queue.length-1),z2.1.ended,z11.1,z2.1.slots,z2.1.mods,z2.1.entries,z2.1.block,z2.1.inline,z2.1.deferred,z2.1.entered,z2.1.ran,z2.1.log,z2.1.loaded⟩:SPage),(-1:Int),())) fun z18=>.lf fTakeToken (z18.1.1,true,())) (.ob (1+(z2.1.queue.length-1)≤z2.1.queue.length)<|.lf fTakeToken (⟨z2.1.addr,z2.1.policy,z2.1.tok,cut z2.1.queue 1 (z2.1.queue.length-1),z2.1.ended,z11.1,z2.1.slots,z2.1.mods,z2.1.entries,z2.1.block,z2.1.inline,z2.1.deferred,z2.1.entered,z2.1.ran,z2.1.log,z2.1.loaded⟩,true,()))) (.ob (1+(z2.1.queue.length-1)≤z2.1.queue.length)<|.lf fTakeToken (⟨z2.1.addr,z2.1.policy,z2.1.tok,cut z2.1.queue 1 (z2.1.queue.length-1),z2.1.ended,z11.1,z2.1.slots,z2.1.mods,z2.1.entries,z2.1.block,z2.1.inline,z2.1.deferred,z2.1.entered,z2.1.ran,z2.1.log,z2.1.loaded⟩,true,()))) (.ob (1+(z2.1.queue.length-1)≤z2.1.queue.length)<|.lf fTakeToken (⟨z2.1.addr,z2.1.policy,z2.1.tok,cut z2.1.queue 1 (z2.1.queue.length-1),z2.1.ended,z11.1,z2.1.slots,z2.1.mods,z2.1.entries,z2.1.block,z2.1.inline,z2.1.deferred,z2.1.entered,z2.1.ran,z2.1.log,z2.1.loaded⟩,true,()))) (.ob (1+(z2.1.queue.length-1)≤z2.1.queue.length)<|.lf fTakeToken (⟨z2.1.addr,z2.1.policy,z2.1.tok,cut z2.1.queue 1 (z2.1.queue.length-1),z2.1.ended,z11.1,z2.1.slots,z2.1.mods,z2.1.entries,z2.1.block,z2.1.inline,z2.1.deferred,z2.1.entered,z2.1.ran,z2.1.log,z2.1.loaded⟩,true,())))))))) ?_
 refine cl_i ?_ fun o1=>(br_i (fun h2=>lfY ?_) (fun h2=>br_i (fun h3=>lfY ?_) (fun h3=>br_i (fun h4=>lfY ?_) (fun h4=>ob_i ?_ fun o5=>ob_i ?_ fun o6=>ob_i ?_ fun o7=>br_i (fun h8=>ob_i ?_ fun o9=>cl_i ?_ fun o10=>(br_i (fun h11=>br_i (fun h12=>ob_i ?_ fun o13=>ob_i ?_ fun o14=>lt_i (br_i (fun h15=>br_i (fun h16=>cl_i trivial fun _=>(br_i (fun h17=>ob_i ?_ fun o18=>br_i (fun h19=>ob_i ?_ fun o20=>lt_i (lfY ?_)) (fun h19=>lfY ?_)) (fun h17=>lfY ?_))) (fun h16=>lfY ?_)) (fun h15=>lfY ?_))) (fun h12=>br_i (fun h21=>br_i (fun h22=>cl_i trivial fun _=>(br_i (fun h23=>ob_i ?_ fun o24=>br_i (fun h25=>ob_i ?_ fun o26=>ob_i ?_ fun o27=>lt_i (lfY ?_)) (fun h25=>ob_i ?_ fun o28=>lfY ?_)) (fun h23=>ob_i ?_ fun o29=>lfY ?_))) (fun h22=>ob_i ?_ fun o30=>lfY ?_)) (fun h21=>ob_i ?_ fun o31=>lfY ?_))) (fun h11=>br_i (fun h32=>br_i (fun h33=>cl_i trivial fun _=>(br_i (fun h34=>ob_i ?_ fun o35=>br_i (fun h36=>ob_i ?_ fun o37=>ob_i ?_ fun o38=>lt_i (lfY ?_)) (fun h36=>ob_i ?_ fun o39=>lfY ?_)) (fun h34=>ob_i ?_ fun o40=>lfY ?_))) (fun h33=>ob_i ?_ fun o41=>lfY ?_)) (fun h32=>ob_i ?_ fun o42=>lfY ?_)))) (fun h8=>cl_i ?_ fun o43=>(br_i (fun h44=>br_i (fun h45=>ob_i ?_ fun o46=>ob_i ?_ fun o47=>lt_i (br_i (fun h48=>br_i (fun h49=>cl_i trivial fun _=>(br_i (fun h50=>ob_i ?_ fun o51=>br_i (fun h52=>ob_i ?_ fun o53=>lt_i (lfY ?_)) (fun h52=>lfY ?_)) (fun h50=>lfY ?_))) (fun h49=>lfY ?_)) (fun h48=>lfY ?_))) (fun h45=>br_i (fun h54=>br_i (fun h55=>cl_i trivial fun _=>(br_i (fun h56=>ob_i ?_ fun o57=>br_i (fun h58=>ob_i ?_ fun o59=>ob_i ?_ fun o60=>lt_i (lfY ?_)) (fun h58=>ob_i ?_ fun o61=>lfY ?_)) (fun h56=>ob_i ?_ fun o62=>lfY ?_))) (fun h55=>ob_i ?_ fun o63=>lfY ?_)) (fun h54=>ob_i ?_ fun o64=>lfY ?_))) (fun h44=>br_i (fun h65=>br_i (fun h66=>cl_i trivial fun _=>(br_i (fun h67=>ob_i ?_ fun o68=>br_i (fun h69=>ob_i ?_ fun o70=>ob_i ?_ fun o71=>lt_i (lfY ?_)) (fun h69=>ob_i ?_ fun o72=>lfY ?_)) (fun h67=>ob_i ?_ fun o73=>lfY ?_))) (fun h66=>ob_i ?_ fun o74=>lfY ?_)) (fun h65=>ob_i ?_ fun o75=>lfY ?_))))))))
 all_goals have hpp:=pageParts p
 all_goals obtain⟨hp1,hp2,hp3,hp4,hp7⟩:=(show okTok p from hp)
 all_goals
  have hl1:=szL_len szNode p.builder.nodes
  have hl2:szBuilder p.builder≤2000000000:=by(unfold szBuilder;omega)
  try simp only[std0] at *
  try simp only[fAddToken,fCopyPage,fElement,fInRange,fScript,fTakeToken,std,Nat.reduceAdd,szF,toF,eqF,mkF,heF,fCopyPage,fAddToken,fInRange,inRange,fElement,fScript] at *
 all_goals first|trivial|omega|(unfold takeToken;(first|rw[if_pos (by exact .inl (by omega))]|rw[if_pos (by exact .inr (.inl (by assumption)))]|rw[if_pos (by exact .inr (.inr (by assumption)))]);exact⟨rfl,rfl⟩)|skip
 all_goals
  have htz:=taken_sz p (by omega)
  have ht0:=hp3 0 (by omega)
  have haz:=addToken_sz p.builder (p.queue.getD 0 default)
  try simp only[wrapId (show -9223372036854775808≤(p.builder.open_.length:Int)-1∧(p.builder.open_.length:Int)-1≤9223372036854775807 by omega),wrapId (show -9223372036854775808≤(p.builder.nodes.length:Int)-1∧(p.builder.nodes.length:Int)-1≤9223372036854775807 by omega),lastOpen_at,taken_eq] at *
 all_goals first|trivial|omega|skip
 all_goals try rw[show takeToken p=(takeTok p (p.queue.getD 0 default),true) by(unfold takeToken;rw[if_neg (by omega)])]
 all_goals generalize p.queue.getD 0 default=t at *
 all_goals try simp only[show(taken p t).addr=p.addr from rfl,show(taken p t).builder=(addToken p.builder t).1 from rfl] at *
 all_goals first|trivial|omega|skip
 all_goals try simp only[Bool.and_eq_true,Bool.and_eq_false_iff,decide_eq_true_eq,decide_eq_false_iff_not,and_true] at *
 all_goals first|trivial|omega|skip
 all_goals try (have hnn:(addToken p.builder t).1.nodes=p.builder.nodes:=haz.2.2 (by assumption);rw[hnn])
 all_goals first|trivial|omega|skip
 all_goals first|rw[takeTok_el (by assumption) (by omega)]|rw[takeTok_sc (by assumption) (isScript_yes (by assumption) (by assumption) (by omega) (by omega) (by omega) (by assumption))]|rw[takeTok_no (by first|exact .inl (by assumption)|exact .inr (by omega)) (isScript_no (by first|exact .inl (by omega)|exact .inr (.inl (by assumption))|exact .inr (.inr (.inl (by omega)))|exact .inr (.inr (.inr (by assumption)))))])
def E129:=E128.add 95 fTakeToken
theorem E129ok:EOk Tryz.prog E129:=E128ok.add k95_128
def blk (p:SPage):Int:=IntKind.i64.wrap (p.block-1)
def okParse (p:SPage):Prop:=okTok p∧szL szSlot p.slots≤40000000000∧okBod p
def stepInline (p:SPage):SPage×Bool:=if stylesReady p.slots=true then({ runCode p (textOf p.inline p.builder.nodes ⟨#[]⟩) true with inline:=0 },true) else(p,false)
def stepBlock (p:SPage):SPage×Bool :=
 if ¬ (0≤blk p∧blk p<p.slots.length) then({ p with block:=0 },true)
 else if(p.slots.getD (blk p).toNat default).done=false∨stylesReady p.slots=false then(p,false)
 else if(p.slots.getD (blk p).toNat default).code=1 then({ runCode p (p.slots.getD (blk p).toNat default).body true with block:=0 },true)
 else({ p with block:=0 },true)
def stepParser (p:SPage):SPage×Bool:=if p.inline≠0 then stepInline p else if p.block≠0 then stepBlock p else takeToken p
theorem textOf_sz (n:Int):∀ (l:List SNode) (s:ByteArray),(textOf n l s).size≤s.size+szL szNode l
 | [],s=>Nat.le_add_right _ _
 | x::l,s=>by
  rw[textOf,szL_cons]
  split
  ·have:=textOf_sz n l (s++x.text)
   rw[ByteArray.size_append] at this;simp only[szNode];omega
  ·have:=textOf_sz n l s
   omega
theorem tf {b:Bool} (h:b=true) (h2:b=false):False:=by rw[h] at h2;cases h2
theorem blk_def (p:SPage):IntKind.i64.wrap (p.block-1)=blk p:=rfl
def fStepParser:Fct:=⟨[.v (.el .page)],[.el .page,.el .bool],fun(x_:SPage×Unit)=>okParse x_.1,fun(x_:SPage×Unit)=>((stepParser x_.1).1,(stepParser x_.1).2,())⟩
theorem k72_129:fStepParser.ok Tryz.prog 72:=Fct.o [1,2,3,4,5,6,7,10,13,27,37,53,64,1000010,1000013,1000027,1000037,1000053,1000064] E129ok Tryz.func72 (by
 rintro⟨(p:SPage),_⟩ hp
 refine ho (.br (p.inline != 0) (.cl fStylesReady (p,()) fun z2=>.br (!z2.1) (.cl fCopyPage (p,()) fun z3=>.lf fStepParser (z3.1,false,())) (.cl fTextOf (p.builder,p.inline,()) fun z4=>.cl fRunCode (p,z4.1,true,()) fun z5=>.lf fStepParser (⟨z5.1.addr,z5.1.policy,z5.1.tok,z5.1.queue,z5.1.ended,z5.1.builder,z5.1.slots,z5.1.mods,z5.1.entries,z5.1.block,(0:Int),z5.1.deferred,z5.1.entered,z5.1.ran,z5.1.log,z5.1.loaded⟩,true,()))) (.br (p.block != 0) (.cl fInRange (wr (p.block-(1:Int)),(0:Int),wr ((↑p.slots.length:Int)-(1:Int)),()) fun z6=>.br (!z6.1) (.cl fCopyPage (p,()) fun z7=>.lf fStepParser (⟨z7.1.addr,z7.1.policy,z7.1.tok,z7.1.queue,z7.1.ended,z7.1.builder,z7.1.slots,z7.1.mods,z7.1.entries,(0:Int),z7.1.inline,z7.1.deferred,z7.1.entered,z7.1.ran,z7.1.log,z7.1.loaded⟩,true,())) (.ob (0≤wr (p.block-(1:Int))∧wr (p.block-(1:Int))<(↑p.slots.length:Int))<|.br (!(p.slots.getD (wr (p.block-(1:Int))).toNat default).done) (.cl fCopyPage (p,()) fun z8=>.lf fStepParser (z8.1,false,())) (.cl fStylesReady (p,()) fun z9=>.br (!z9.1) (.cl fCopyPage (p,()) fun z10=>.lf fStepParser (z10.1,false,())) (.cl fCopyPage (p,()) fun z11=>.ob (0≤wr (p.block-(1:Int))∧wr (p.block-(1:Int))<(↑p.slots.length:Int))<|.br ((p.slots.getD (wr (p.block-(1:Int))).toNat default).code==1) (.ob (0≤wr (p.block-(1:Int))∧wr (p.block-(1:Int))<(↑p.slots.length:Int))<|.cl fRunCode (p,(p.slots.getD (wr (p.block-(1:Int))).toNat default).body,true,()) fun z12=>.lf fStepParser (⟨z12.1.addr,z12.1.policy,z12.1.tok,z12.1.queue,z12.1.ended,z12.1.builder,z12.1.slots,z12.1.mods,z12.1.entries,(0:Int),z12.1.inline,z12.1.deferred,z12.1.entered,z12.1.ran,z12.1.log,z12.1.loaded⟩,true,())) (.lf fStepParser (⟨z11.1.addr,z11.1.policy,z11.1.tok,z11.1.queue,z11.1.ended,z11.1.builder,z11.1.slots,z11.1.mods,z11.1.entries,(0:Int),z11.1.inline,z11.1.deferred,z11.1.entered,z11.1.ran,z11.1.log,z11.1.loaded⟩,true,())))))) (.cl fTakeToken (p,()) fun z13=>.lf fStepParser (z13.1,z13.2.1,())))) ?_
 refine br_i (fun h1=>cl_i ?_ fun o2=>(br_i (fun h3=>cl_i ?_ fun o4=>(lfY ?_)) (fun h3=>cl_i ?_ fun o5=>(cl_i ?_ fun o6=>(lfY ?_))))) (fun h1=>br_i (fun h7=>cl_i trivial fun _=>(br_i (fun h8=>cl_i ?_ fun o9=>(lfY ?_)) (fun h8=>ob_i ?_ fun o10=>br_i (fun h11=>cl_i ?_ fun o12=>(lfY ?_)) (fun h11=>cl_i ?_ fun o13=>(br_i (fun h14=>cl_i ?_ fun o15=>(lfY ?_)) (fun h14=>cl_i ?_ fun o16=>(ob_i ?_ fun o17=>br_i (fun h18=>ob_i ?_ fun o19=>cl_i ?_ fun o20=>(lfY ?_)) (fun h18=>lfY ?_)))))))) (fun h7=>cl_i ?_ fun o21=>(lfY ?_)))
 all_goals obtain⟨hp0,hp6,hp5⟩:=(show okParse p from hp)
 all_goals obtain⟨hp1,hp2,hp3,hp4,hp7⟩:=(show okTok p from hp0)
 all_goals
  have hbb:szBuilder p.builder≤2000000000:=by(unfold szBuilder;omega)
  have hpp:=pageParts p
  have hsl:=szL_len szSlot p.slots
  have hnl:=szL_len szNode p.builder.nodes
  have htx:=textOf_sz p.inline p.builder.nodes ⟨#[]⟩
 all_goals rw[show ByteArray.size ⟨#[]⟩=0 from rfl] at htx
 all_goals
  try simp only[std0] at *
  try simp only[fCopyPage,fInRange,fRunCode,fStepParser,fStylesReady,fTakeToken,fTextOf,std,Nat.reduceAdd,szF,toF,eqF,mkF,heF,fStylesReady,fCopyPage,fTextOf,fRunCode,fInRange,inRange,fTakeToken,blk_def] at *
  try simp only[blk_def,Bool.and_eq_true,Bool.and_eq_false_iff,decide_eq_true_eq,decide_eq_false_iff_not,wrapId (show -9223372036854775808≤(p.slots.length:Int)-1∧(p.slots.length:Int)-1≤9223372036854775807 by omega)] at *
 all_goals first|trivial|omega|exact hp0|exact⟨by omega,by omega,by omega,hp5 _ (by omega),hp5⟩|exact⟨by omega,by omega,by omega,by omega,hp5⟩|skip
 all_goals unfold stepParser
 all_goals first|rw[if_pos (by assumption)]|(rw[if_neg (by omega)];first|rw[if_pos (by assumption)]|rw[if_neg (by omega)])
 all_goals first|exact⟨rfl,rfl⟩|(unfold stepInline)|(unfold stepBlock)
 all_goals repeat first|rw[if_pos (by assumption)]|rw[if_neg (by intro q;first|exact tf q (by assumption)|exact tf (by assumption) q)]|rw[if_pos (by omega)]|rw[if_neg (by omega)]|rw[if_pos (by exact .inl (by assumption))]|rw[if_pos (by exact .inr (by assumption))]|rw[if_neg (by rintro(q|q)<;>exact tf (by assumption) q)]|fail
 all_goals exact⟨rfl,rfl⟩)
def E130:=E129.add 72 fStepParser
theorem E130ok:EOk Tryz.prog E130:=E129ok.add k72_129
theorem idxB_eq {b:UInt8} {s:ByteArray} (hl:idxB b s<(toL s).length):(toL s)[idxB b s]=b:=by
 have hg:=List.findIdx_getElem (xs:=toL s) (p:=fun x=>x==b) (w:=hl)
 exact beq_iff_eq.1 hg
theorem idxB_cut {b:UInt8} {s:ByteArray} (h:idxB b s<s.size):cutF b (toL s)=some ((toL s).take (idxB b s),(toL s).drop (idxB b s+1)):=by
 have hl:idxB b s<(toL s).length:=h
 refine cutF_at h ?_ ?_
 ·have hd:=toL_drop h
  rw[List.drop_eq_getElem_cons hl] at hd
  injection hd with hd
  rw[←hd]
  exact idxB_eq hl
 ·intro hm
  obtain⟨j,hj,he⟩:=List.mem_take_iff_getElem.1 hm
  have:=List.not_of_lt_findIdx (xs:=toL s) (p:=fun x=>x==b) (i:=j) (show j<(toL s).findIdx _ from Nat.lt_of_lt_of_le hj (Nat.min_le_left _ _))
  rw[he] at this
  simp at this
theorem idxB_none {b:UInt8} {s:ByteArray} (h:¬ idxB b s<s.size):cutF b (toL s)=none:=by
 refine cutF_none fun hm=>h ?_
 unfold idxB
 rw[←toL_len]
 exact List.findIdx_lt_length_of_exists ⟨b,hm,by simp⟩
theorem extTo (s:ByteArray) (i:Nat):ofL ((toL s).take i)=s.extract 0 i:=by
 rw[←ofL_toL (s.extract 0 i),toL_extract,List.drop_zero]
theorem extFrom (s:ByteArray) (i:Nat):ofL ((toL s).drop i)=s.extract i s.size:=by
 rw[←ofL_toL (s.extract i s.size),toL_extract,List.take_of_length_le (by rw[toL_len];exact Nat.le_refl _)]
theorem spl_idx (b:UInt8) (s:ByteArray):spl b s=if idxB b s<s.size then s.extract 0 (idxB b s)::spl b (s.extract (idxB b s+1) s.size) else[s]:=by
 rw[spl_cut]
 split
 ·rename_i hc
  rw[if_neg]
  intro h
  rw[idxB_cut h] at hc;cases hc
 ·rename_i p q hc
  by_cases h:idxB b s<s.size
  ·rw[if_pos h]
   rw[idxB_cut h] at hc
   obtain⟨rfl,rfl⟩:=Prod.mk.inj (Option.some.inj hc)
   rw[extTo,extFrom]
  ·rw[idxB_none h] at hc;cases hc
def gl59:List ByteArray→ByteArray
 | []=>⟨#[]⟩
 | [w]=>w
 | w::x::l=>w++⟨#[59]⟩++gl59 (x::l)
theorem gl_cons (w:ByteArray) {l:List ByteArray} (h:l≠[]):gl59 (w::l)=w++⟨#[59]⟩++gl59 l:=by
 cases l with
 | nil=>exact absurd rfl h
 | cons x l=>rfl
theorem idxB_get {b:UInt8} {s:ByteArray} (h:idxB b s<s.size):s.extract 0 (idxB b s)++⟨#[b]⟩++s.extract (idxB b s+1) s.size=s:=by
 have hl:idxB b s<(toL s).length:=h
 have e:toL s=(toL s).take (idxB b s)++b::(toL s).drop (idxB b s+1):=by
  have e2:(toL s)[idxB b s]=b:=idxB_eq hl
  have:=(List.take_append_drop (idxB b s) (toL s)).symm
  rw[List.drop_eq_getElem_cons hl,e2] at this
  exact this
 rw[←extTo,←extFrom]
 have e3:(⟨#[b]⟩:ByteArray)=ofL [b]:=rfl
 rw[e3,←ofL_append,←ofL_append,List.append_assoc,List.singleton_append,←e,ofL_toL]
theorem spl_ne (b:UInt8) (s:ByteArray):spl b s≠[]:=by
 intro h
 have:=(spl_len b s).1
 rw[h] at this
 cases this
theorem gl_spl:∀ (n:Nat) (s:ByteArray),s.size≤n→gl59 (spl 59 s)=s
 | 0,s,hn=>by
  rw[spl_idx,if_neg (by omega)];rfl
 | n+1,s,hn=>by
  rw[spl_idx]
  by_cases h:idxB 59 s<s.size
  ·rw[if_pos h,gl_cons _ (spl_ne _ _),gl_spl n _ (by rw[ByteArray.size_extract];omega)]
   exact idxB_get h
  ·rw[if_neg h];rfl
def impW:ByteArray:=⟨#[105,109,112,111,114,116,32]⟩
def hasImp (w:ByteArray):Prop:=7≤w.size∧w.extract 0 7=impW
instance (w:ByteArray):Decidable (hasImp w):=by unfold hasImp;exact inferInstance
def pmGo (b:ByteArray):List ByteArray→List SAddr→List SAddr×List SLine×Bool
 | [],acc=>(acc,[],true)
 | w::l,acc=>
  if hasImp w then(if(parseAddr (w.extract 7 w.size) b).2=true then pmGo b l (acc++[(parseAddr (w.extract 7 w.size) b).1]) else([],[],false))
  else if(parseScript (gl59 (w::l))).2=true then(acc,(parseScript (gl59 (w::l))).1,true) else([],[],false)
def parseModule (s b:ByteArray):List SAddr×List SLine×Bool:=pmGo b (spl 59 s) []
theorem parse_empty:parseScript ⟨#[]⟩=([],true):=rfl
theorem pm_nil (b:ByteArray) (acc:List SAddr):pmGo b (spl 59 ⟨#[]⟩) acc=(acc,[],true):=by
 rw[spl_idx,if_neg (by decide),pmGo,if_neg (by unfold hasImp;decide)]
 show(if(parseScript ⟨#[]⟩).2=true then _ else _)=_
 rw[parse_empty,if_pos rfl]
 show(acc,(parseScript ⟨#[]⟩).1,true)=_
 rw[parse_empty]
theorem pm_start (s b:ByteArray):pmGo b (spl 59 s) []=parseModule s b:=rfl
theorem imp_idx {s:ByteArray} (h:hasImp s):7≤idxB 59 s:=by
 obtain⟨h1,h2⟩:=h
 have e:(toL s).take 7=toL impW:=by rw[←h2,toL_extract,List.drop_zero]
 have hn:(59:UInt8)∉(toL s).take 7:=by rw[e];decide
 rcases Nat.lt_or_ge (idxB 59 s) 7 with h3|h3
 ·exfalso
  have h4:idxB 59 s<s.size:=by omega
  have hl:idxB 59 s<(toL s).length:=h4
  apply hn
  rw[List.mem_take_iff_getElem]
  exact⟨idxB 59 s,by omega,idxB_eq hl⟩
 ·exact h3
theorem imp_part {s:ByteArray} (h:idxB 59 s<s.size):hasImp (s.extract 0 (idxB 59 s))↔hasImp s:=by
 have hx:7≤idxB 59 s→(s.extract 0 (idxB 59 s)).extract 0 7=s.extract 0 7:=fun h7=>by
  apply ByteArray.ext
  apply Array.ext'
  have:=toL_extract (s.extract 0 (idxB 59 s)) 0 7
  have e2:=toL_extract s 0 (idxB 59 s)
  have e3:=toL_extract s 0 7
  rw[e2,List.drop_zero,List.drop_zero,List.take_take,Nat.min_eq_left h7] at this
  rw[List.drop_zero] at e3
  exact this.trans e3.symm
 constructor
 ·rintro⟨h1,h2⟩
  rw[ByteArray.size_extract] at h1
  exact⟨by omega,by rw[←h2,hx (by omega)]⟩
 ·intro hs
  have h7:=imp_idx hs
  exact⟨by rw[ByteArray.size_extract];omega,by rw[hx h7];exact hs.2⟩
theorem ext_ext {s:ByteArray} {k:Nat}:(s.extract 0 k).extract 7 (s.extract 0 k).size=s.extract 7 k:=by
 apply ByteArray.ext
 apply Array.ext'
 have e1:=toL_extract (s.extract 0 k) 7 (s.extract 0 k).size
 have e2:=toL_extract s 0 k
 have e3:=toL_extract s 7 k
 rw[List.take_of_length_le (by rw[toL_len];exact Nat.le_refl _),e2,List.drop_zero] at e1
 exact e1.trans e3.symm
theorem pm_step {b s:ByteArray} {acc:List SAddr} (h:hasImp s) (h2:(parseAddr (s.extract 7 (idxB 59 s)) b).2=true):pmGo b (spl 59 s) acc=pmGo b (spl 59 (s.extract (min s.size (idxB 59 s+1)) s.size)) (acc++[(parseAddr (s.extract 7 (idxB 59 s)) b).1]):=by
 by_cases hk:idxB 59 s<s.size
 ·rw[spl_idx,if_pos hk,pmGo,if_pos ((imp_part hk).2 h),ext_ext,if_pos h2,Nat.min_eq_right (by omega)]
 ·have e:idxB 59 s=s.size:=by have:=idxB_le 59 s;omega
  rw[spl_idx,if_neg hk,pmGo,if_pos h]
  rw[e] at h2 ⊢
  rw[if_pos h2,Nat.min_eq_left (by omega)]
  have e0:s.extract s.size s.size=⟨#[]⟩:=by
   rw[←extFrom,List.drop_of_length_le (by rw[toL_len];exact Nat.le_refl _)];rfl
  rw[e0,pm_nil];rfl
theorem pm_bad {b s:ByteArray} {acc:List SAddr} (h:hasImp s) (h2:(parseAddr (s.extract 7 (idxB 59 s)) b).2=false):pmGo b (spl 59 s) acc=([],[],false):=by
 by_cases hk:idxB 59 s<s.size
 ·rw[spl_idx,if_pos hk,pmGo,if_pos ((imp_part hk).2 h),ext_ext,if_neg (by rw[h2];decide)]
 ·have e:idxB 59 s=s.size:=by have:=idxB_le 59 s;omega
  rw[spl_idx,if_neg hk,pmGo,if_pos h]
  rw[e] at h2
  rw[if_neg (by rw[h2];decide)]
theorem pm_end {b s:ByteArray} {acc:List SAddr} (h:¬ hasImp s):pmGo b (spl 59 s) acc=if(parseScript s).2=true then(acc,(parseScript s).1,true) else([],[],false):=by
 have hg:=gl_spl s.size s (Nat.le_refl _)
 rw[spl_idx] at hg ⊢
 by_cases hk:idxB 59 s<s.size
 ·rw[if_pos hk] at hg ⊢
  rw[pmGo,if_neg (fun q=>h ((imp_part hk).1 q)),hg]
 ·rw[if_neg hk] at hg ⊢
  rw[pmGo,if_neg h,hg]
def fParseModule:Fct:=⟨[.v (.el .str),.v (.el .str)],[.sl .addr,.sl .line,.el .bool],fun(x_:ByteArray×ByteArray×Unit)=>x_.1.size≤4000000000∧x_.2.1.size≤4000000000,fun(x_:ByteArray×ByteArray×Unit)=>((parseModule x_.1 x_.2.1).1,(parseModule x_.1 x_.2.1).2.1,(parseModule x_.1 x_.2.1).2.2,())⟩
abbrev W_spec_ParseModule_fParseModule_3 (s:ByteArray) (b:ByteArray):LInv:=⟨[⟨.s,7,true,.sl .addr⟩,⟨.s,8,false,.el .str⟩],fun _ (x_:(List SAddr)×ByteArray×Unit)=>x_.2.1.size≤s.size∧x_.1.length+x_.2.1.size≤s.size∧pmGo b (spl 59 x_.2.1) x_.1=parseModule s b,fun(x_:(List SAddr)×ByteArray×Unit)=>x_.2.1.size⟩
theorem k131_130:fParseModule.ok Tryz.prog 131:=Fct.of (S:=fParseModule) (L:=fun⟨s,b,_⟩=>fun|3=>some (W_spec_ParseModule_fParseModule_3 s b)|_=>none) (kp:=[0,1,4,5,6,7,8,9,10,11,12,13,23,35,55,1000023,1000035,1000055]) E130ok Tryz.func131 (by kernel_rfl) (by kernel_rfl) (by
 rintro⟨(s:ByteArray),(b:ByteArray),_⟩ hp
 refine ho (lpx (W_spec_ParseModule_fParseModule_3 s b) ([],(s,())) fun(y1:List SAddr×ByteArray×PUnit) bk1=>.br (decide ((↑y1.2.1.size:Int)≥7)) (.ob ((0:Int)≤(7:Int)∧(7:Int)≤(↑y1.2.1.size:Int))<|.br ((y1.2.1.extract 0 7).toList==(⟨#[105,109,112,111,114,116,32]⟩:ByteArray).toList) (.cl fIndex5 (y1.2.1,(59:Int),()) fun(z2:Int×PUnit)=>.ob ((0:Int)≤(7:Int)∧7≤z2.1∧z2.1≤(↑y1.2.1.size:Int))<|.cl fParseAddr (y1.2.1.extract 7 z2.1.toNat,b,()) fun z3=>.br (!z3.2.1) (.lf fParseModule ([],[],false,())) (.ob (True)<|.ob (Room (y1.1.length+[z3.1].length) 32)<|.cl fMin ((↑y1.2.1.size:Int),w1 z2.1,()) fun(z4:Int×PUnit)=>.ob (0≤z4.1∧z4.1≤(↑y1.2.1.size:Int))<|.ob (Value.string s=Value.string s)<|.ob (Value.string b=Value.string b)<|.ob (bk1 (y1.1++[z3.1],(y1.2.1.extract z4.1.toNat y1.2.1.size,())))<|.ok)) (.cl fParseScript (y1.2.1,()) fun z5=>.br (!z5.2.1) (.lf fParseModule ([],[],false,())) (.lf fParseModule (y1.1,z5.1,true,())))) (.cl fParseScript (y1.2.1,()) fun z6=>.br (!z6.2.1) (.lf fParseModule ([],[],false,())) (.lf fParseModule (y1.1,z6.1,true,())))) ?_
 refine lpx_i ?_ fun(y1:List SAddr×ByteArray×PUnit) i1=>br_i (fun h2=>ob_i ?_ fun o3=>br_i (fun h4=>cl_i ?_ fun o5=>(ob_i ?_ fun o6=>cl_i ?_ fun o7=>(br_i (fun h8=>lfY ?_) (fun h8=>ob_i trivial fun _=>ob_i ?_ fun o9=>cl_i trivial fun _=>(ob_i ?_ fun o10=>ob_i rfl fun _=>ob_i rfl fun _=>ob_i ?_ fun o11=>trivial))))) (fun h4=>cl_i ?_ fun o12=>(br_i (fun h13=>lfY ?_) (fun h13=>lfY ?_)))) (fun h2=>cl_i ?_ fun o14=>(br_i (fun h15=>lfY ?_) (fun h15=>lfY ?_)))
 all_goals
  have hp1:s.size≤4000000000∧b.size≤4000000000:=hp
  try simp only[std0] at *
  try simp only[W_spec_ParseModule_fParseModule_3,fIndex5,fMin,fParseAddr,fParseModule,fParseScript,std,Nat.reduceAdd,szF,toF,eqF,mkF,heF,fIndex5,fParseAddr,fParseScript,fMin,show UInt8.ofNat (Int.toNat 59)=59 from rfl] at *
 all_goals first|omega|(simp only[pm_start,Nat.le_refl,and_self];done)|(obtain⟨acc,x,u⟩:=y1;obtain⟨a1,a2,a3⟩:=i1;dsimp only at *;have k1:=idxB_le 59 x)
 all_goals first|(have hi:hasImp x:=⟨by omega,by assumption⟩;have k2:=imp_idx hi)|(have hi:¬ hasImp x:=by rintro⟨q1,q2⟩;first|omega|exact absurd q2 (by assumption))
 all_goals
  have k3:∀ a b,(x.extract a b).size≤x.size:=fun a b=>by rw[ByteArray.size_extract];omega
  have k4:=k3 7 (idxB 59 x)
  have hw:IntKind.i64.wrap ((idxB 59 x:Int)+1)=(idxB 59 x:Int)+1:=wrapId (by constructor<;>omega)
  have hm:Int.toNat (min (x.size:Int) ((idxB 59 x:Int)+1))=min x.size (idxB 59 x+1):=by omega
 all_goals simp only[Int.toNat_natCast,hw,hm] at *
 all_goals first|omega|exact⟨by omega,Int.ofNat_le.2 k2,Int.ofNat_le.2 k1⟩|exact⟨by omega,by omega⟩|skip
 all_goals first|(rw[←a3,pm_bad hi (by assumption)];exact⟨rfl,rfl,rfl⟩)|(rw[←a3,pm_end hi];(first|rw[if_pos (by assumption)]|rw[if_neg (by rw[show(parseScript x).2=false by assumption];decide)]);exact⟨rfl,by first|rfl|assumption,rfl⟩)|skip
 all_goals rw[pm_step hi (by assumption)] at a3
 all_goals refine⟨⟨Nat.le_trans (k3 _ _) a1,?_,a3⟩,?_⟩
 all_goals rw[ByteArray.size_extract];try simp only[List.length_append,List.length_cons,List.length_nil]
 all_goals omega)
def E131:=E130.add 131 fParseModule
theorem E131ok:EOk Tryz.prog E131:=E130ok.add k131_130
def isParsed (p:SPage):Bool:=p.ended&&decide (p.queue.length=0∧p.block=0∧p.inline=0)
def fIsParsed:Fct:=⟨[.v (.el .page)],[.el .bool],fun(x_:SPage×Unit)=>True,fun(x_:SPage×Unit)=>(isParsed x_.1,())⟩
theorem k96_131:fIsParsed.ok Tryz.prog 96:=Fct.o [1,2] E131ok Tryz.func96 (by
 rintro⟨(p:SPage),_⟩ hp
 refine ho (.br (p.ended) (.br ((↑p.queue.length:Int)==0) (.br (p.block==0) (.lf fIsParsed (p.inline==0,())) (.lf fIsParsed (false,()))) (.lf fIsParsed (false,()))) (.lf fIsParsed (false,()))) ?_
 refine br_i (fun h1=>br_i (fun h2=>br_i (fun h3=>lfY ?_) (fun h3=>lfY ?_)) (fun h2=>lfY ?_)) (fun h1=>lfY ?_)
 all_goals
  try simp only[std0] at *
  try simp only[fIsParsed,std,Nat.reduceAdd,szF,toF,eqF,mkF,heF,isParsed] at *
  try simp(disch:=omega) only[wrapId',toNat1] at *
  try simp(disch:=omega) only[if_pos,if_neg]
 all_goals first|trivial|omega|grind[wrapId',toNat1,drop_cons,drop_end,good_len,maxLen,isParsed])
def E132:=E131.add 96 fIsParsed
theorem E132ok:EOk Tryz.prog E132:=E131ok.add k96_131
def deferredSlots (p:SPage):List Int:=openIdx (fun s=>decide (s.mode=4)) p.slots 0
def fDeferredSlots:Fct:=⟨[.v (.el .page)],[.sl .int],fun(x_:SPage×Unit)=>x_.1.slots.length≤1000000000000,fun(x_:SPage×Unit)=>(deferredSlots x_.1,())⟩
abbrev W_spec_DeferredSlots_fDeferredSlots_3 (p:SPage):LInv:=⟨[⟨.s,3,true,.sl .int⟩,⟨.s,4,true,.el .int⟩,⟨.b,1,false,.el .page⟩],fun(z_:(List Int)×Int×SPage×Unit) (x_:(List Int)×Int×SPage×Unit)=>(0≤x_.2.1∧x_.2.1≤p.slots.length∧x_.1.length≤x_.2.1∧x_.1++openIdx (fun s=>decide (s.mode=4)) (p.slots.drop x_.2.1.toNat) x_.2.1=deferredSlots p)∧x_.2.2.1=z_.2.2.1,fun(x_:(List Int)×Int×SPage×Unit)=>p.slots.length-x_.2.1.toNat⟩
theorem k97_132:fDeferredSlots.ok Tryz.prog 97:=Fct.of (S:=fDeferredSlots) (L:=fun⟨p,_⟩=>fun|3=>some (W_spec_DeferredSlots_fDeferredSlots_3 p)|_=>none) (kp:=[1,2,3,4,10,19,1000010,1000019]) E132ok Tryz.func97 (by kernel_rfl) (by kernel_rfl) (by
 rintro⟨(p:SPage),_⟩ hp
 refine ho (lpx (W_spec_DeferredSlots_fDeferredSlots_3 p) ([],((0:Int),(p,()))) fun(y1:List Int×Int×SPage×PUnit) bk1=>.br (decide (y1.2.1<(↑y1.2.2.1.slots.length:Int))) (.ob (inB y1.2.1 y1.2.2.1.slots.length)<|.br ((y1.2.2.1.slots.getD y1.2.1.toNat default).mode==4) (.ob (True)<|.ob (Room (y1.1.length+[y1.2.1].length) 8)<|.ob (bk1 (y1.1++[y1.2.1],(w1 y1.2.1,(y1.2.2.1,()))))<|.ok) (.ob (bk1 (y1.1,(w1 y1.2.1,(y1.2.2.1,()))))<|.ok)) (.lf fDeferredSlots (y1.1,()))) ?_
 refine lpx_i ?_ fun(y1:List Int×Int×SPage×PUnit) i1=>br_i (fun h2=>ob_i ?_ fun o3=>br_i (fun h4=>ob_i trivial fun _=>ob_i ?_ fun o5=>ob_i ?_ fun o6=>trivial) (fun h4=>ob_i ?_ fun o7=>trivial)) (fun h2=>lfY ?_)
 all_goals
  have h0:openIdx (fun s:SSlot=>decide (s.mode=4)) (p.slots.drop 0) 0=deferredSlots p:=rfl
  try simp only[std0] at *
  try simp only[W_spec_DeferredSlots_fDeferredSlots_3,fDeferredSlots,std,Nat.reduceAdd,szF,toF,eqF,mkF,heF,openIdx_at,openIdx_end,List.length_append,List.length_cons,List.length_nil,List.append_assoc] at *
  try simp(disch:=omega) only[wrapId',toNat1] at *
  try simp(disch:=omega) only[if_pos,if_neg]
 all_goals first|trivial|omega|grind[wrapId',toNat1,drop_cons,drop_end,good_len,maxLen,openIdx_at,openIdx_end,List.length_append,List.length_cons,List.length_nil,List.append_assoc])
def E133:=E132.add 97 fDeferredSlots
theorem E133ok:EOk Tryz.prog E133:=E132ok.add k97_132
def formatAddr (a:SAddr):ByteArray:=if isName a.host&&isName a.path then a.host++⟨#[47]⟩++a.path else⟨#[]⟩
def fFormatAddr:Fct:=⟨[.v (.el .addr)],[.el .str],fun(x_:SAddr×Unit)=>szAddr x_.1≤1000000000000,fun(x_:SAddr×Unit)=>(formatAddr x_.1,())⟩
theorem k129_133:fFormatAddr.ok Tryz.prog 129:=Fct.o [1,2,5,1000005] E133ok Tryz.func129 (by
 rintro⟨(a:SAddr),_⟩ hp
 refine ho (.cl fIsAddr (a,()) fun z2=>.br (!z2.1) (.lf fFormatAddr ((⟨#[]⟩:ByteArray),())) (.ob (sameSize a.host (⟨#[47]⟩:ByteArray))<|.ob (sameSize (a.host++(⟨#[47]⟩:ByteArray)) a.path)<|.lf fFormatAddr (a.host++(⟨#[47]⟩:ByteArray)++a.path,()))) ?_
 refine cl_i ?_ fun o1=>(br_i (fun h2=>lfY ?_) (fun h2=>ob_i ?_ fun o3=>ob_i ?_ fun o4=>lfY ?_))
 all_goals
  try simp only[std0] at *
  try simp only[fFormatAddr,fIsAddr,std,Nat.reduceAdd,szF,toF,eqF,mkF,heF,formatAddr,fIsAddr,sameSize,ByteArray.size_append,szAddr] at *
  try simp(disch:=omega) only[wrapId',toNat1] at *
  try simp(disch:=omega) only[if_pos,if_neg]
 all_goals first|trivial|omega|grind[wrapId',toNat1,drop_cons,drop_end,good_len,maxLen,formatAddr,fIsAddr,sameSize,ByteArray.size_append,szAddr])
def E134:=E133.add 129 fFormatAddr
theorem E134ok:EOk Tryz.prog E134:=E133ok.add k129_133
def say (p:SPage) (s:ByteArray):SPage:=if p.log.length<40 then{ p with log:=p.log++[s]} else p
def fSay:GS:=⟨[.g (.el .page),.l (.v (.el .str))],[.el .page],fun(x_:SPage×ByteArray×Unit)=>True,fun(x_:SPage×ByteArray×Unit)=>((say x_.1 x_.2.1,()),(()))⟩
theorem k100_134:fSay.ok Tryz.prog 100:=GS.of (S:=fSay) (L:=fun _ _=>none) (kp:=[1,2,4,8,1000008]) E134ok Tryz.func100 (by kernel_rfl) (by kernel_rfl) (by
 rintro⟨(p:SPage),(s:ByteArray),_⟩ hp
 refine ho (.br (decide ((↑p.log.length:Int)<40)) (.ob (True)<|.ob (Room (p.log.length+[s].length) 16)<|GS.out fSay ((⟨p.addr,p.policy,p.tok,p.queue,p.ended,p.builder,p.slots,p.mods,p.entries,p.block,p.inline,p.deferred,p.entered,p.ran,p.log++[s],p.loaded⟩,()),(()))) (GS.out fSay ((p,()),(())))) ?_
 refine br_i (fun h1=>ob_i trivial fun _=>ob_i ?_ fun o2=>GS.leafY ?_) (fun h1=>GS.leafY ?_)
 all_goals
  try simp only[std0] at *
  try simp only[fSay,std,Nat.reduceAdd,szF,toF,eqF,mkF,heF,say] at *
  try simp(disch:=omega) only[wrapId',toNat1] at *
  try simp(disch:=omega) only[if_pos,if_neg]
 all_goals first|trivial|omega|grind[wrapId',toNat1,drop_cons,drop_end,good_len,maxLen,say])
def E135:=E134.addG 100 fSay
theorem E135ok:EOk Tryz.prog E135:=E134ok.addG k100_134
def findMod (l:List SModule) (a:SAddr):Int:=fidx (fun m=>decide (m.to=a)) l 0
theorem fm_def (l:List SModule) (a:SAddr):fidx (fun m=>decide (m.to=a)) l 0=findMod l a:=rfl
theorem findMod_in (l:List SModule) (a:SAddr):findMod l a<l.length∧-1≤findMod l a:=by
 have:=fidx_lt (fun m:SModule=>decide (m.to=a)) l 0 (by omega)
 unfold findMod;omega
theorem findMod_get {l:List SModule} {a:SAddr} (h:0≤findMod l a):(l.getD (findMod l a).toNat default).to=a:=by
 have e:=find_fidx (fun m:SModule=>decide (m.to=a)) l 0 (by omega)
 rw[fm_def,if_pos h,Int.sub_zero] at e
 simpa using List.find?_some e
def imports (p:SPage) (a:SAddr):List SAddr×Bool :=
 if findMod p.mods a<0∨(p.mods.getD (findMod p.mods a).toNat default).done=false∨¬ (p.mods.getD (findMod p.mods a).toNat default).code=1 then([],false)
 else((parseModule (p.mods.getD (findMod p.mods a).toNat default).body a.host).1,(parseModule (p.mods.getD (findMod p.mods a).toNat default).body a.host).2.2)
def okMb (p:SPage):Prop:=∀ i,i<p.mods.length→(p.mods.getD i default).body.size≤4000000000
def fImports:Fct:=⟨[.v (.el .page),.v (.el .addr)],[.sl .addr,.el .bool],fun(x_:SPage×SAddr×Unit)=>x_.1.mods.length≤1000000000000∧okMb x_.1∧x_.2.1.host.size≤4000000000,fun(x_:SPage×SAddr×Unit)=>((imports x_.1 x_.2.1).1,(imports x_.1 x_.2.1).2,())⟩
theorem k105_135:fImports.ok Tryz.prog 105:=Fct.o [2,3,4,5,6,7,9,32,1000032] E135ok Tryz.func105 (by
 rintro⟨(p:SPage),(a:SAddr),_⟩ hp
 refine ho (.cl fModAt (p,a,()) fun(z2:Int×PUnit)=>.br (decide (z2.1<0)) (.lf fImports ([],false,())) (.ob (inB z2.1 p.mods.length)<|.br (!(p.mods.getD z2.1.toNat default).done) (.lf fImports ([],false,())) (.ob (inB z2.1 p.mods.length)<|.br ((p.mods.getD z2.1.toNat default).code != 1) (.lf fImports ([],false,())) (.ob (inB z2.1 p.mods.length)<|.cl fParseModule ((p.mods.getD z2.1.toNat default).body,a.host,()) fun z3=>.lf fImports (z3.1,z3.2.2.1,()))))) ?_
 refine cl_i ?_ fun o1=>(br_i (fun h2=>lfY ?_) (fun h2=>ob_i ?_ fun o3=>br_i (fun h4=>lfY ?_) (fun h4=>ob_i ?_ fun o5=>br_i (fun h6=>lfY ?_) (fun h6=>ob_i ?_ fun o7=>cl_i ?_ fun o8=>(lfY ?_)))))
 all_goals have hf:=findMod_in p.mods a
 all_goals obtain⟨q1,q2,q3⟩:=(show p.mods.length≤1000000000000∧okMb p∧a.host.size≤4000000000 from hp)
 all_goals
  try simp only[std0] at *
  try simp only[fImports,fModAt,fParseModule,std,Nat.reduceAdd,szF,toF,eqF,mkF,heF,fModAt,fParseModule,fm_def] at *
 all_goals first|omega|exact⟨q2 _ (by omega),q3⟩|skip
 all_goals unfold imports
 all_goals first|rw[if_pos (by exact .inl (by assumption))]|rw[if_pos (by exact .inr (.inl (by assumption)))]|rw[if_pos (by exact .inr (.inr (by assumption)))]|rw[if_neg (by rintro(q|q|q)<;>first|omega|exact tf (by assumption) q|exact q (by assumption))]
 all_goals exact⟨rfl,rfl⟩)
def E136:=E135.add 105 fImports
theorem E136ok:EOk Tryz.prog E136:=E135ok.add k105_135
theorem pmGo_names (b:ByteArray):∀ (l:List ByteArray) (acc:List SAddr),(∀ x,x∈acc→x.host.size≤8∧x.path.size≤8)→(∀ x,x∈(pmGo b l acc).1→x.host.size≤8∧x.path.size≤8)∧(pmGo b l acc).1.length+l.length≤acc.length+szL szString l
 | [],acc,h=>⟨h,Nat.le_refl _⟩
 | w::l,acc,h=>by
  rw[pmGo,szL_cons]
  have hnil:∀ x:SAddr,x∈([]:List SAddr)→x.host.size≤8∧x.path.size≤8:=fun x h=>by cases h
  have hll:=szL_len szString l
  split
  ·rename_i hi
   split
   ·rename_i hc
    obtain⟨i1,i2⟩:=pmGo_names b l (acc++[(parseAddr (w.extract 7 w.size) b).1]) (fun x hx=>by
     rcases List.mem_append.1 hx with hx|hx
     ·exact h x hx
     ·rw[List.mem_singleton] at hx
      subst hx
      unfold parseAddr at hc ⊢
      split at hc
      ·rename_i hn
       rw[if_pos hn]
       rw[Bool.and_eq_true] at hn
       exact⟨isName_size hn.1,isName_size hn.2⟩
      ·cases hc)
    refine⟨i1,?_⟩
    rw[List.length_append] at i2
    have:=hi.1
    simp only[List.length_cons,List.length_nil,szString] at *
    omega
   ·exact⟨hnil,by simp only[List.length_cons,List.length_nil];omega⟩
  ·split
   ·exact⟨h,by simp only[List.length_cons];omega⟩
   ·exact⟨hnil,by simp only[List.length_cons,List.length_nil];omega⟩
theorem parseModule_sz (s b:ByteArray):(∀ x,x∈(parseModule s b).1→x.host.size≤8∧x.path.size≤8)∧(parseModule s b).1.length≤s.size:=by
 obtain⟨h1,h2⟩:=pmGo_names b (spl 59 s) [] (fun x h=>by cases h)
 have h3:=(spl_len 59 s).1
 rw[szL_spl] at h2
 exact⟨h1,by simp only[List.length_nil,parseModule] at *;omega⟩
theorem imports_sz (p:SPage) (a:SAddr):(∀ x,x∈(imports p a).1→x.host.size≤8∧x.path.size≤8)∧((imports p a).1=[]∨0≤findMod p.mods a∧(imports p a).1.length≤(p.mods.getD (findMod p.mods a).toNat default).body.size):=by
 unfold imports
 split
 ·exact⟨fun x h=>(by cases h),.inl rfl⟩
 ·rename_i h
  have:=parseModule_sz (p.mods.getD (findMod p.mods a).toNat default).body a.host
  exact⟨this.1,.inr ⟨by omega,this.2⟩⟩
def inL (l:List SAddr) (a:SAddr):Bool:=l.any fun c=>decide (c=a)
def visitF:Nat→SPage→SAddr→List SAddr×List SAddr→List SAddr×List SAddr
 | 0,_,_,st=>st
 | f+1,p,a,st=>if inL st.1 a=true then st else
  (((imports p a).1.foldl (fun st b=>visitF f p b st) (st.1++[a],st.2)).1,((imports p a).1.foldl (fun st b=>visitF f p b st) (st.1++[a],st.2)).2++[a])
def muV (p:SPage) (s:List SAddr):Nat:=(p.mods.filter fun m=>!inL s m.to).length
def wtV (p:SPage) (s:List SAddr):Nat:=((p.mods.filter fun m=>!inL s m.to).map fun m=>m.body.size+1).sum
theorem inL_app (s l:List SAddr) (a:SAddr):inL (s++l) a=(inL s a||inL l a):=by unfold inL;rw[List.any_append]
theorem inL_one (a b:SAddr):inL [a] b=decide (a=b):=by unfold inL;simp
theorem filter_len_le {α:Type} {f g:α→Bool}:∀ {l:List α},(∀ x,x∈l→g x=true→f x=true)→(l.filter g).length≤(l.filter f).length
 | [],_=>Nat.le_refl _
 | x::l,h=>by
  have ih:=filter_len_le (f:=f) (g:=g) (l:=l) fun y hy=>h y (List.mem_cons_of_mem _ hy)
  rw[List.filter_cons,List.filter_cons]
  cases hg:g x with
  | true=>rw[if_pos rfl,if_pos (h x List.mem_cons_self hg)];simp only[List.length_cons];omega
  | false=>
   rw[if_neg (by decide)]
   split
   ·simp only[List.length_cons];omega
   ·exact ih
theorem muV_app (p:SPage) (s l:List SAddr):muV p (s++l)≤muV p s:=by
 unfold muV
 refine filter_len_le fun m _ h=>?_
 rw[inL_app] at h
 cases hs:inL s m.to with
 | true=>rw[hs] at h;cases h
 | false=>rfl
def wtL (g:SModule→Bool):List SModule→Nat
 | []=>0
 | m::l=>(if g m=true then m.body.size+1 else 0)+wtL g l
theorem wtL_eq (g:SModule→Bool):∀ l:List SModule,wtL g l=((l.filter g).map fun m=>m.body.size+1).sum
 | []=>rfl
 | m::l=>by
  rw[wtL,List.filter_cons,wtL_eq g l]
  split
  ·rw[List.map_cons,List.sum_cons]
  ·omega
theorem wtL_le {f g:SModule→Bool}:∀ {l:List SModule},(∀ m,g m=true→f m=true)→wtL g l≤wtL f l
 | [],_=>Nat.le_refl _
 | m::l,h=>by
  have:=wtL_le (l:=l) h
  rw[wtL,wtL]
  by_cases hg:g m=true
  ·rw[if_pos hg,if_pos (h m hg)];omega
  ·rw[if_neg hg];omega
theorem wtL_drop {f g:SModule→Bool}:∀ {l:List SModule} {i:Nat},i<l.length→(∀ m,g m=true→f m=true)→f (l.getD i default)=true→g (l.getD i default)=false→wtL g l+(l.getD i default).body.size+1≤wtL f l
 | [],i,h,_,_,_=>absurd h (Nat.not_lt_zero _)
 | m::l,0,_,hl,h1,h2=>by
  have:=wtL_le (l:=l) hl
  have h1:f m=true:=h1
  have h2:g m=false:=h2
  show wtL g (m::l)+m.body.size+1≤_
  rw[wtL,wtL,if_neg (by rw[h2];decide),if_pos h1]
  omega
 | m::l,i+1,h,hl,h1,h2=>by
  have ih:=wtL_drop (l:=l) (i:=i) (by simpa using h) hl h1 h2
  show wtL g (m::l)+(l.getD i default).body.size+1≤_
  rw[wtL,wtL]
  by_cases hg:g m=true
  ·rw[if_pos hg,if_pos (hl m hg)];omega
  ·rw[if_neg hg];omega
theorem wtV_eq (p:SPage) (s:List SAddr):wtV p s=wtL (fun m=>!inL s m.to) p.mods:=(wtL_eq _ _).symm
theorem inL_mono {s:List SAddr} (l:List SAddr) {m:SModule} (h:(!inL (s++l) m.to)=true):(!inL s m.to)=true:=by
 rw[inL_app] at h
 cases hs:inL s m.to with
 | true=>rw[hs] at h;cases h
 | false=>rfl
theorem wtV_app (p:SPage) (s l:List SAddr):wtV p (s++l)≤wtV p s:=by
 rw[wtV_eq,wtV_eq]
 exact wtL_le fun m h=>inL_mono l h
theorem wtV_mod (p:SPage) (s:List SAddr) (a:SAddr) (h:inL s a=false) (hf:0≤findMod p.mods a):wtV p (s++[a])+(p.mods.getD (findMod p.mods a).toNat default).body.size+1≤wtV p s:=by
 rw[wtV_eq,wtV_eq]
 have hr:=findMod_in p.mods a
 have hg:=findMod_get hf
 refine wtL_drop (by omega) (fun m h=>inL_mono [a] h) ?_ ?_
 ·rw[hg,h];rfl
 ·rw[hg,inL_app,h,inL_one,decide_eq_true rfl];rfl
theorem muV_mod (p:SPage) (s:List SAddr) (a:SAddr) (h:inL s a=false) (hf:0≤findMod p.mods a):muV p (s++[a])<muV p s:=by
 have hr:=findMod_in p.mods a
 have hg:=findMod_get hf
 have key:∀ (l:List SModule) (i:Nat),i<l.length→(l.getD i default).to=a→(l.filter fun m=>!inL (s++[a]) m.to).length<(l.filter fun m=>!inL s m.to).length:=by
  intro l
  induction l with
  | nil=>intro i hi;exact absurd hi (Nat.not_lt_zero _)
  | cons m l ih=>
   intro i hi he
   have hle:(l.filter fun m=>!inL (s++[a]) m.to).length≤(l.filter fun m=>!inL s m.to).length:=filter_len_le fun m _ h=>inL_mono [a] h
   rw[List.filter_cons,List.filter_cons]
   cases i with
   | zero=>
    have he:m.to=a:=he
    rw[he,inL_app,h,inL_one,decide_eq_true rfl]
    simp only[Bool.or_true,Bool.not_true,Bool.not_false,if_true,Bool.false_eq_true,if_false,List.length_cons]
    omega
   | succ i=>
    have:=ih i (by simpa using hi) he
    by_cases h1:(!inL (s++[a]) m.to)=true
    ·rw[if_pos h1,if_pos (inL_mono [a] h1)];simp only[List.length_cons];omega
    ·rw[if_neg h1]
     split
     ·simp only[List.length_cons];omega
     ·exact this
 exact key _ _ (by omega) hg
theorem foldl_ind {α β:Type} (P:β→Prop) (f:β→α→β) (hf:∀ b a,P b→P (f b a)):∀ (l:List α) (b:β),P b→P (l.foldl f b)
 | [],_,h=>h
 | a::l,b,h=>foldl_ind P f hf l (f b a) (hf b a h)
theorem visit_ext:∀ (f:Nat) (p:SPage) (a:SAddr) (st:List SAddr×List SAddr),∃ l,(visitF f p a st).1=st.1++l
 | 0,p,a,st=>⟨[],(List.append_nil _).symm⟩
 | f+1,p,a,st=>by
  rw[visitF]
  split
  ·exact⟨[],(List.append_nil _).symm⟩
  ·have:=foldl_ind (fun b:List SAddr×List SAddr=>∃ l,b.1=st.1++l) (fun st b=>visitF f p b st) (fun b x ⟨l,hl⟩=>by
    obtain⟨m,hm⟩:=visit_ext f p x b
    exact⟨l++m,by rw[hm,hl,List.append_assoc]⟩) (imports p a).1 (st.1++[a],st.2) ⟨[a],rfl⟩
   exact this
theorem visit_stable:∀ (f g:Nat) (p:SPage) (a:SAddr) (st:List SAddr×List SAddr),muV p st.1<f→muV p st.1<g→visitF f p a st=visitF g p a st
 | 0,_,_,_,_,h,_=>absurd h (Nat.not_lt_zero _)
 | _+1,0,_,_,_,_,h=>absurd h (Nat.not_lt_zero _)
 | f+1,g+1,p,a,st,h1,h2=>by
  rw[visitF,visitF]
  split
  ·rfl
  ·rename_i hn
   have hn:inL st.1 a=false:=by simpa using hn
   have hfold:∀ (l:List SAddr) (s:List SAddr×List SAddr),muV p s.1<f→muV p s.1<g→l.foldl (fun st b=>visitF f p b st) s=l.foldl (fun st b=>visitF g p b st) s:=by
    intro l
    induction l with
    | nil=>intro s _ _;rfl
    | cons b l ih=>
     intro s q1 q2
     rw[List.foldl_cons,List.foldl_cons,←visit_stable f g p b s q1 q2]
     obtain⟨m,hm⟩:=visit_ext f p b s
     have:=muV_app p s.1 m
     exact ih _ (by rw[hm];omega) (by rw[hm];omega)
   rcases(imports_sz p a).2 with he|⟨hm,_⟩
   ·rw[he];rfl
   ·have:=muV_mod p st.1 a hn hm
    rw[hfold _ _ (show muV p (st.1++[a])<f by omega) (show muV p (st.1++[a])<g by omega)]
def visit (p:SPage) (a:SAddr) (st:List SAddr×List SAddr):List SAddr×List SAddr:=visitF (p.mods.length+1) p a st
theorem muV_le (p:SPage) (s:List SAddr):muV p s≤p.mods.length:=List.length_filter_le _ _
theorem visit_yes {p:SPage} {a:SAddr} {st:List SAddr×List SAddr} (h:inL st.1 a=true):visit p a st=st:=by unfold visit;rw[visitF,if_pos h]
theorem visit_no {p:SPage} {a:SAddr} {st:List SAddr×List SAddr} (h:inL st.1 a=false):visit p a st=(((imports p a).1.foldl (fun st b=>visit p b st) (st.1++[a],st.2)).1,((imports p a).1.foldl (fun st b=>visit p b st) (st.1++[a],st.2)).2++[a]):=by
 have e:visit p a st=visitF (p.mods.length+2) p a st:=visit_stable _ _ p a st (by have:=muV_le p st.1;omega) (by have:=muV_le p st.1;omega)
 rw[e,visitF,if_neg (by rw[h];decide)]
 rfl
def totV (p:SPage) (s:List SAddr):Nat:=s.length+wtV p s
theorem visit_tot:∀ (f:Nat) (p:SPage) (a:SAddr) (st:List SAddr×List SAddr),totV p (visitF f p a st).1≤totV p st.1+1∧(visitF f p a st).2.length+st.1.length=st.2.length+(visitF f p a st).1.length
 | 0,p,a,st=>⟨Nat.le_succ _,rfl⟩
 | f+1,p,a,st=>by
  rw[visitF]
  split
  ·exact⟨Nat.le_succ _,rfl⟩
  ·rename_i hn
   have hn:inL st.1 a=false:=by simpa using hn
   have hfold:∀ (l:List SAddr) (s:List SAddr×List SAddr),totV p (l.foldl (fun st b=>visitF f p b st) s).1≤totV p s.1+l.length∧(l.foldl (fun st b=>visitF f p b st) s).2.length+s.1.length=s.2.length+(l.foldl (fun st b=>visitF f p b st) s).1.length:=by
    intro l
    induction l with
    | nil=>intro s;exact⟨Nat.le_refl _,rfl⟩
    | cons b l ih=>
     intro s
     rw[List.foldl_cons]
     have h1:=visit_tot f p b s
     have h2:=ih (visitF f p b s)
     simp only[List.length_cons]
     omega
   have h1:=hfold (imports p a).1 (st.1++[a],st.2)
   rw[List.length_append,List.length_singleton]
   have h3:(st.1++[a]).length=st.1.length+1:=by simp
   rcases(imports_sz p a).2 with he|⟨hm,hl⟩
   ·rw[he] at h1 ⊢
    have:=wtV_app p st.1 [a]
    simp only[totV,List.length_nil,List.foldl_nil] at *
    omega
   ·have:=wtV_mod p st.1 a hn hm
    simp only[totV] at *
    omega
def reachOf (p:SPage) (a:SAddr):List SAddr:=(visit p a ([],[])).2
theorem visit_room {p:SPage} {a:SAddr} {s:List SAddr} {i:Nat} (h:inL s a=false) (hi:i<(imports p a).1.length):totV p (s++[a])+i<totV p s∧muV p (s++[a])<muV p s:=by
 rcases(imports_sz p a).2 with he|⟨hm,hl⟩
 ·rw[he] at hi;exact absurd hi (Nat.not_lt_zero _)
 ·have h1:=wtV_mod p s a h hm
  refine⟨?_,muV_mod p s a h hm⟩
  simp only[totV,List.length_append,List.length_cons,List.length_nil];omega
theorem visit_fold {p:SPage} {l:List SAddr} {i:Nat} {st:List SAddr×List SAddr} (h:i<l.length):(l.drop i).foldl (fun st b=>visit p b st) st=(l.drop (i+1)).foldl (fun st b=>visit p b st) (visit p (l.getD i default) st):=by rw[drop_cons h];rfl
theorem visit_fold0 {p:SPage} {l:List SAddr} {i:Nat} {st:List SAddr×List SAddr} (h:l.length≤i):(l.drop i).foldl (fun st b=>visit p b st) st=st:=by rw[List.drop_of_length_le h];rfl
theorem visit_tot1 (p:SPage) (a:SAddr) (st:List SAddr×List SAddr):totV p (visit p a st).1≤totV p st.1+1∧(visit p a st).2.length+st.1.length=st.2.length+(visit p a st).1.length:=visit_tot _ _ _ _
abbrev mVis (x:SPage×SAddr×List SAddr×List SAddr×Unit):Nat:=muV x.1 x.2.2.1
def okVis (p:SPage) (a:SAddr) (s o:List SAddr):Prop:=p.mods.length≤1000000000000∧okMb p∧a.host.size≤4000000000∧totV p s≤100000000000∧o.length≤s.length
def fVisit:GS:=⟨[.l (.v (.el .page)),.l (.v (.el .addr)),.g (.sl .addr),.g (.sl .addr)],[.sl .addr,.sl .addr],fun(x_:SPage×SAddr×(List SAddr)×(List SAddr)×Unit)=>okVis x_.1 x_.2.1 x_.2.2.1 x_.2.2.2.1,fun(x_:SPage×SAddr×(List SAddr)×(List SAddr)×Unit)=>(((visit x_.1 x_.2.1 (x_.2.2.1,x_.2.2.2.1)).1,(visit x_.1 x_.2.1 (x_.2.2.1,x_.2.2.2.1)).2,()),(()))⟩
def visInv (p:SPage) (a:SAddr) (s o se od:List SAddr) (i:Int):Prop:=0≤i∧i≤(imports p a).1.length∧((imports p a).1.drop i.toNat).foldl (fun st b=>visit p b st) (se,od)=(imports p a).1.foldl (fun st b=>visit p b st) (s++[a],o)∧(∃ m,se=(s++[a])++m)∧totV p se≤totV p (s++[a])+i.toNat∧od.length+(s.length+1)=o.length+se.length
theorem visInv_go {p:SPage} {a:SAddr} {s o se od:List SAddr} {i:Int} (h:visInv p a s o se od i) (hi:i<(imports p a).1.length):visInv p a s o (visit p ((imports p a).1.getD i.toNat default) (se,od)).1 (visit p ((imports p a).1.getD i.toNat default) (se,od)).2 (i+1):=by
 obtain⟨h1,h2,h3,⟨m,hm⟩,h5,h6⟩:=h
 have ht:=visit_tot1 p ((imports p a).1.getD i.toNat default) (se,od)
 rw[visit_fold (by omega)] at h3
 obtain⟨l,hl⟩:=visit_ext (p.mods.length+1) p ((imports p a).1.getD i.toNat default) (se,od)
 dsimp only at ht
 refine⟨by omega,by omega,?_,⟨m++l,?_⟩,?_,?_⟩
 ·rw[show(i+1).toNat=i.toNat+1 by omega];exact h3
 ·show(visit p _ (se,od)).1=_
  unfold visit
  rw[hl,hm,List.append_assoc]
 ·rw[show(i+1).toNat=i.toNat+1 by omega];omega
 ·omega
theorem visInv_pre {p:SPage} {a:SAddr} {s o se od:List SAddr} {i:Int} (h:visInv p a s o se od i) (hi:i<(imports p a).1.length) (hn:inL s a=false) (hp:okVis p a s o):okVis p ((imports p a).1.getD i.toNat default) se od∧muV p se<muV p s:=by
 obtain⟨h1,h2,h3,⟨m,hm⟩,h5,h6⟩:=h
 obtain⟨p1,p2,p3,p4,p5⟩:=hp
 have hr:=visit_room hn (show i.toNat<(imports p a).1.length by omega)
 have hm2:=muV_app p (s++[a]) m
 rw[←hm] at hm2
 have hb:=(imports_sz p a).1 _ (getD_in (show i.toNat<(imports p a).1.length by omega))
 exact⟨⟨p1,p2,by omega,by omega,by omega⟩,by omega⟩
theorem imports_len {p:SPage} (a:SAddr) (h:okMb p):(imports p a).1.length≤4000000000:=by
 have hr:=findMod_in p.mods a
 rcases(imports_sz p a).2 with he|⟨q1,q2⟩
 ·rw[he];decide
 ·have:=h (findMod p.mods a).toNat (by omega);omega
theorem visInv_len {p:SPage} {a:SAddr} {s o se od:List SAddr} {i:Int} (h:visInv p a s o se od i) (hp:okVis p a s o):od.length≤200000000000:=by
 obtain⟨h1,h2,h3,_,h5,h6⟩:=h
 obtain⟨p1,p2,p3,p4,p5⟩:=hp
 have h7:=imports_len a p2
 have h8:=wtV_app p s [a]
 simp only[totV,List.length_append,List.length_cons,List.length_nil] at *
 omega
theorem visInv_end {p:SPage} {a:SAddr} {s o se od:List SAddr} {i:Int} (h:visInv p a s o se od i) (hi:¬ i<(imports p a).1.length) (hn:inL s a=false):(se,od++[a])=visit p a (s,o):=by
 obtain⟨h1,h2,h3,_⟩:=h
 rw[visit_fold0 (by omega)] at h3
 rw[visit_no (st:=(s,o)) hn,←h3]
theorem visInv_0 (p:SPage) (a:SAddr) (s o:List SAddr) (ho:o.length≤s.length):visInv p a s o (s++[a]) o 0:=by
 refine⟨by omega,by omega,rfl,⟨[],(List.append_nil _).symm⟩,Nat.le_refl _,?_⟩
 rw[List.length_append,List.length_singleton]
theorem inL_def (s:List SAddr) (a:SAddr):(s.any fun c=>decide (c=a))=inL s a:=rfl
abbrev W_spec_l18Visit_fVisit_6 (p:SPage) (a:SAddr) (s:(List SAddr)) (o:(List SAddr)):LInv:=⟨[⟨.s,2,true,.sl .addr⟩,⟨.s,3,true,.sl .addr⟩,⟨.s,12,true,.el .int⟩,⟨.b,4,false,.el .page⟩,⟨.b,5,true,.el .addr⟩,⟨.s,10,true,.sl .addr⟩],fun(z_:(List SAddr)×(List SAddr)×Int×SPage×SAddr×(List SAddr)×Unit) (x_:(List SAddr)×(List SAddr)×Int×SPage×SAddr×(List SAddr)×Unit)=>(((visInv p a s o x_.1 x_.2.1 x_.2.2.1)∧x_.2.2.2.1=z_.2.2.2.1)∧x_.2.2.2.2.1=z_.2.2.2.2.1)∧x_.2.2.2.2.2.1=z_.2.2.2.2.2.1,fun(x_:(List SAddr)×(List SAddr)×Int×SPage×SAddr×(List SAddr)×Unit)=>(imports p a).1.length-x_.2.2.1.toNat⟩
theorem k149_136:fVisit.ok Tryz.prog 149:=GS.ofRec (S:=fVisit) (L:=fun⟨p,a,s,o,_⟩=>fun|6=>some (W_spec_l18Visit_fVisit_6 p a s o)|_=>none) (kp:=[2,3,4,5,8,9,10,12,15,33,1000015,1000033]) mVis E136ok Tryz.func149 (by kernel_rfl) (by kernel_rfl) (by
 intro n0;rintro⟨(p:SPage),(a:SAddr),(s:List SAddr),(o:List SAddr),_⟩ hp hm
 refine ho (.cl fHasAddr (s,a,()) fun z2=>.br (z2.1) (GS.out fVisit ((s,o,()),(()))) (.ob (True)<|.ob (Room s.length 32)<|.ob (True)<|.ob (Room (s.length+[a].length) 32)<|.cl fImports (p,a,()) fun z3=>lpx (W_spec_l18Visit_fVisit_6 p a s o) (s++[a],(o,((0:Int),(p,(a,(z3.1,())))))) fun(y6:List SAddr×List SAddr×Int×SPage×SAddr×List SAddr×PUnit) bk6=>.br (decide (y6.2.2.1<(↑y6.2.2.2.2.2.1.length:Int))) (.ob (inB y6.2.2.1 y6.2.2.2.2.2.1.length)<|.ob (y6.2.2.1.toNat<y6.2.2.2.2.2.1.length)<|.ob (fVisit.pre (y6.2.2.2.1,y6.2.2.2.2.2.1.getD y6.2.2.1.toNat default,y6.1,y6.2.1,())∧mVis (y6.2.2.2.1,y6.2.2.2.2.2.1.getD y6.2.2.1.toNat default,y6.1,y6.2.1,())<n0)<|.lt _ (fVisit.fn (y6.2.2.2.1,y6.2.2.2.2.2.1.getD y6.2.2.1.toNat default,y6.1,y6.2.1,())) fun z4=>.ob (bk6 (z4.1.1,(z4.1.2.1,(w1 y6.2.2.1,(y6.2.2.2.1,(y6.2.2.2.2.1,(y6.2.2.2.2.2.1,())))))))<|.ok) (.ob (True)<|.ob (Room y6.2.1.length 32)<|.ob (True)<|.ob (Room (y6.2.1.length+[y6.2.2.2.2.1].length) 32)<|GS.out fVisit ((y6.1,y6.2.1++[y6.2.2.2.2.1],()),(()))))) ?_
 refine cl_i ?_ fun o1=>(br_i (fun h2=>GS.leafY ?_) (fun h2=>ob_i trivial fun _=>ob_i ?_ fun o3=>ob_i trivial fun _=>ob_i ?_ fun o4=>cl_i ?_ fun o5=>(lpx_i ?_ fun(y6:List SAddr×List SAddr×Int×SPage×SAddr×List SAddr×PUnit) i6=>br_i (fun h7=>ob_i ?_ fun o8=>ob_i ?_ fun o9=>ob_i ?_ fun o10=>lt_i (ob_i ?_ fun o11=>trivial)) (fun h7=>ob_i trivial fun _=>ob_i ?_ fun o12=>ob_i trivial fun _=>ob_i ?_ fun o13=>GS.leafY ?_))))
 all_goals have hq:okVis p a s o:=hp
 all_goals obtain⟨p1,p2,p3,p4,p5⟩:=(show okVis p a s o from hp)
 all_goals
  have hsl:s.length≤100000000000:=by(simp only[totV] at p4;omega)
  have hil:=imports_len a p2
  try simp only[std0] at *
  try simp only[W_spec_l18Visit_fVisit_6,fHasAddr,fImports,fVisit,std,Nat.reduceAdd,szF,toF,eqF,mkF,heF,fHasAddr,fImports,inL_def] at *
 all_goals first|trivial|omega|exact⟨p1,p2,p3⟩|exact visInv_0 p a s o p5|(rw[visit_yes (by assumption)];exact⟨rfl,rfl⟩)|skip
 all_goals (obtain⟨⟨⟨i1,e1⟩,e2⟩,e3⟩:=i6;simp only[e1,e2,e3] at *)
 all_goals
  have i2:=i1.1
  have i3:=visInv_len i1 hq
 all_goals first|trivial|omega|exact⟨i2,by assumption⟩|skip
 all_goals first|exact⟨(visInv_pre i1 (by assumption) (by assumption) hq).1,Nat.lt_of_lt_of_le (visInv_pre i1 (by assumption) (by assumption) hq).2 (Nat.le_of_lt_succ hm)⟩|(rw[wrapId (by omega)];simp only[and_true];exact⟨visInv_go i1 (by assumption),by omega⟩)|(rw[←visInv_end i1 (by omega) (by assumption)];exact⟨rfl,rfl⟩))
def E137:=E136.addG 149 fVisit
theorem E137ok:EOk Tryz.prog E137:=E136ok.addG k149_136
def fReachOf:Fct:=⟨[.v (.el .page),.v (.el .addr)],[.sl .addr],fun(x_:SPage×SAddr×Unit)=>okVis x_.1 x_.2.1 [] [],fun(x_:SPage×SAddr×Unit)=>(reachOf x_.1 x_.2.1,())⟩
theorem k127_137:fReachOf.ok Tryz.prog 127:=Fct.o [2,3,4,6] E137ok Tryz.func127 (by
 rintro⟨(p:SPage),(a:SAddr),_⟩ hp
 refine ho (.ob (fVisit.pre (p,a,[],[],()))<|.lt _ (fVisit.fn (p,a,[],[],())) fun z2=>.lf fReachOf (z2.1.2.1,())) ?_
 refine ob_i ?_ fun o1=>lt_i (lfY ?_)
 all_goals
  try simp only[std0] at *
  try simp only[fReachOf,fVisit,std,Nat.reduceAdd,szF,toF,eqF,mkF,heF,fVisit] at *
 all_goals first|assumption|rfl)
def E138:=E137.add 127 fReachOf
theorem E138ok:EOk Tryz.prog E138:=E137ok.add k127_137
theorem visit_mem:∀ (f:Nat) (p:SPage) (a:SAddr) (st:List SAddr×List SAddr) (x:SAddr),x∈(visitF f p a st).2→x∈st.2∨x=a∨x.host.size≤8
 | 0,p,a,st,x,h=>.inl h
 | f+1,p,a,st,x,h=>by
  rw[visitF] at h
  split at h
  ·exact .inl h
  ·have hfold:∀ (l:List SAddr) (s:List SAddr×List SAddr),(∀ y,y∈l→y.host.size≤8)→x∈(l.foldl (fun st b=>visitF f p b st) s).2→x∈s.2∨x.host.size≤8:=by
    intro l
    induction l with
    | nil=>intro s _ h;exact .inl h
    | cons b l ih=>
     intro s hl h
     rcases ih _ (fun y hy=>hl y (List.mem_cons_of_mem _ hy)) h with h|h
     ·rcases visit_mem f p b s x h with h|h|h
      ·exact .inl h
      ·exact .inr (h▸hl b List.mem_cons_self)
      ·exact .inr h
     ·exact .inr h
   rcases List.mem_append.1 h with h|h
   ·rcases hfold _ _ (fun y hy=>((imports_sz p a).1 y hy).1) h with h|h
    ·exact .inl h
    ·exact .inr (.inr h)
   ·rw[List.mem_singleton] at h;exact .inr (.inl h)
theorem reach_host {p:SPage} {a x:SAddr} (h:x∈reachOf p a) (ha:a.host.size≤4000000000):x.host.size≤4000000000:=by
 rcases visit_mem _ p a ([],[]) x h with h|h|h
 ·cases h
 ·exact h▸ha
 ·omega
theorem reach_len {p:SPage} {a:SAddr} (h:totV p []≤100000000000):(reachOf p a).length≤100000000001:=by
 have:=visit_tot1 p a ([],[])
 unfold reachOf
 simp only[List.length_nil] at this
 have h2:(visit p a ([],[])).1.length≤totV p (visit p a ([],[])).1:=Nat.le_add_right _ _
 omega
def graphReady (p:SPage) (a:SAddr):Bool:=(reachOf p a).all fun b=>decide (0≤findMod p.mods b)&&(p.mods.getD (findMod p.mods b).toNat default).done
def graphFails (p:SPage) (a:SAddr):Bool:=(reachOf p a).any fun b=>!(imports p b).2
theorem all_at {α:Type} [Inhabited α] {f:α→Bool} {l:List α} {i:Nat} (h:i<l.length):(l.drop i).all f=(f (l.getD i default)&&(l.drop (i+1)).all f):=by rw[drop_cons h];rfl
theorem any_at {α:Type} [Inhabited α] {f:α→Bool} {l:List α} {i:Nat} (h:i<l.length):(l.drop i).any f=(f (l.getD i default)||(l.drop (i+1)).any f):=by rw[drop_cons h];rfl
theorem all_end {α:Type} {f:α→Bool} {l:List α} {i:Nat} (h:l.length≤i):(l.drop i).all f=true:=by rw[List.drop_of_length_le h];rfl
theorem any_end {α:Type} {f:α→Bool} {l:List α} {i:Nat} (h:l.length≤i):(l.drop i).any f=false:=by rw[List.drop_of_length_le h];rfl
def fGraphReady:Fct:=⟨[.v (.el .page),.v (.el .addr)],[.el .bool],fun(x_:SPage×SAddr×Unit)=>okVis x_.1 x_.2.1 [] [],fun(x_:SPage×SAddr×Unit)=>(graphReady x_.1 x_.2.1,())⟩
abbrev W_spec_GraphReady_fGraphReady_3 (p:SPage) (a:SAddr):LInv:=⟨[⟨.s,6,true,.el .int⟩,⟨.b,2,false,.el .page⟩,⟨.s,5,true,.sl .addr⟩],fun(z_:Int×SPage×(List SAddr)×Unit) (x_:Int×SPage×(List SAddr)×Unit)=>((0≤x_.1∧x_.1≤(reachOf p a).length∧((reachOf p a).drop x_.1.toNat).all (fun b=>decide (0≤findMod p.mods b)&&(p.mods.getD (findMod p.mods b).toNat default).done)=graphReady p a)∧x_.2.1=z_.2.1)∧x_.2.2.1=z_.2.2.1,fun(x_:Int×SPage×(List SAddr)×Unit)=>(reachOf p a).length-x_.1.toNat⟩
theorem k98_138:fGraphReady.ok Tryz.prog 98:=Fct.of (S:=fGraphReady) (L:=fun⟨p,a,_⟩=>fun|3=>some (W_spec_GraphReady_fGraphReady_3 p a)|_=>none) (kp:=[2,3,4,5,6,7,14,33,1000014,1000033]) E138ok Tryz.func98 (by kernel_rfl) (by kernel_rfl) (by
 rintro⟨(p:SPage),(a:SAddr),_⟩ hp
 refine ho (.cl fReachOf (p,a,()) fun z2=>lpx (W_spec_GraphReady_fGraphReady_3 p a) ((0:Int),(p,(z2.1,()))) fun(y2:Int×SPage×List SAddr×PUnit) bk2=>.br (decide (y2.1<(↑y2.2.2.1.length:Int))) (.ob (inB y2.1 y2.2.2.1.length)<|.ob (y2.1.toNat<y2.2.2.1.length)<|.cl fModAt (y2.2.1,y2.2.2.1.getD y2.1.toNat default,()) fun(z3:Int×PUnit)=>.br (decide (z3.1<0)) (.lf fGraphReady (false,())) (.ob (inB z3.1 y2.2.1.mods.length)<|.br (!(y2.2.1.mods.getD z3.1.toNat default).done) (.lf fGraphReady (false,())) (.ob (bk2 (w1 y2.1,(y2.2.1,(y2.2.2.1,()))))<|.ok))) (.lf fGraphReady (true,()))) ?_
 refine cl_i ?_ fun o1=>(lpx_i ?_ fun(y2:Int×SPage×List SAddr×PUnit) i2=>br_i (fun h3=>ob_i ?_ fun o4=>ob_i ?_ fun o5=>cl_i ?_ fun o6=>(br_i (fun h7=>lfY ?_) (fun h7=>ob_i ?_ fun o8=>br_i (fun h9=>lfY ?_) (fun h9=>ob_i ?_ fun o10=>trivial)))) (fun h3=>lfY ?_))
 all_goals obtain⟨p1,p2,p3,p4,p5⟩:=(show okVis p a [] [] from hp)
 all_goals
  have hl:=reach_len (a:=a) p4
  try simp only[std0] at *
  try simp only[W_spec_GraphReady_fGraphReady_3,fGraphReady,fModAt,fReachOf,std,Nat.reduceAdd,szF,toF,eqF,mkF,heF,fReachOf,fModAt,fm_def] at *
 all_goals first|trivial|omega|exact⟨p1,p2,p3,p4,p5⟩|exact⟨by omega,by omega,rfl⟩|skip
 all_goals (obtain⟨⟨⟨i0,i1,i3⟩,e1⟩,e2⟩:=i2;simp only[e1,e2] at *)
 all_goals have hf:=findMod_in p.mods ((reachOf p a).getD y2.1.toNat default)
 all_goals first|assumption|omega|skip
 all_goals first|(rw[all_end (by omega)] at i3;exact i3)|rw[all_at (by omega)] at i3
 all_goals first|(rw[←i3,decide_eq_false (by omega)];rfl)|(rw[←i3,decide_eq_true (by omega),show SModule.done _=false by assumption];rfl)|(rw[decide_eq_true (by omega),show SModule.done _=true by assumption,Bool.true_and,Bool.true_and] at i3;rw[wrapId (by omega),show(y2.1+1).toNat=y2.1.toNat+1 by omega];simp only[and_true];exact⟨⟨by omega,by omega,i3⟩,by omega⟩))
def E139:=E138.add 98 fGraphReady
theorem E139ok:EOk Tryz.prog E139:=E138ok.add k98_138
def fGraphFails:Fct:=⟨[.v (.el .page),.v (.el .addr)],[.el .bool],fun(x_:SPage×SAddr×Unit)=>okVis x_.1 x_.2.1 [] [],fun(x_:SPage×SAddr×Unit)=>(graphFails x_.1 x_.2.1,())⟩
abbrev W_spec_GraphFails_fGraphFails_3 (p:SPage) (a:SAddr):LInv:=⟨[⟨.s,6,true,.el .int⟩,⟨.b,2,false,.el .page⟩,⟨.s,5,true,.sl .addr⟩],fun(z_:Int×SPage×(List SAddr)×Unit) (x_:Int×SPage×(List SAddr)×Unit)=>((0≤x_.1∧x_.1≤(reachOf p a).length∧((reachOf p a).drop x_.1.toNat).any (fun b=>!(imports p b).2)=graphFails p a)∧x_.2.1=z_.2.1)∧x_.2.2.1=z_.2.2.1,fun(x_:Int×SPage×(List SAddr)×Unit)=>(reachOf p a).length-x_.1.toNat⟩
theorem k128_139:fGraphFails.ok Tryz.prog 128:=Fct.of (S:=fGraphFails) (L:=fun⟨p,a,_⟩=>fun|3=>some (W_spec_GraphFails_fGraphFails_3 p a)|_=>none) (kp:=[2,3,4,5,6,8,15,28,1000015,1000028]) E139ok Tryz.func128 (by kernel_rfl) (by kernel_rfl) (by
 rintro⟨(p:SPage),(a:SAddr),_⟩ hp
 refine ho (.cl fReachOf (p,a,()) fun z2=>lpx (W_spec_GraphFails_fGraphFails_3 p a) ((0:Int),(p,(z2.1,()))) fun(y2:Int×SPage×List SAddr×PUnit) bk2=>.br (decide (y2.1<(↑y2.2.2.1.length:Int))) (.ob (inB y2.1 y2.2.2.1.length)<|.ob (y2.1.toNat<y2.2.2.1.length)<|.cl fImports (y2.2.1,y2.2.2.1.getD y2.1.toNat default,()) fun z3=>.br (!z3.2.1) (.lf fGraphFails (true,())) (.ob (bk2 (w1 y2.1,(y2.2.1,(y2.2.2.1,()))))<|.ok)) (.lf fGraphFails (false,()))) ?_
 refine cl_i ?_ fun o1=>(lpx_i ?_ fun(y2:Int×SPage×List SAddr×PUnit) i2=>br_i (fun h3=>ob_i ?_ fun o4=>ob_i ?_ fun o5=>cl_i ?_ fun o6=>(br_i (fun h7=>lfY ?_) (fun h7=>ob_i ?_ fun o8=>trivial))) (fun h3=>lfY ?_))
 all_goals obtain⟨p1,p2,p3,p4,p5⟩:=(show okVis p a [] [] from hp)
 all_goals
  have hl:=reach_len (a:=a) p4
  try simp only[std0] at *
  try simp only[W_spec_GraphFails_fGraphFails_3,fGraphFails,fImports,fReachOf,std,Nat.reduceAdd,szF,toF,eqF,mkF,heF,fReachOf,fImports] at *
 all_goals first|trivial|omega|exact⟨p1,p2,p3,p4,p5⟩|exact⟨by omega,by omega,rfl⟩|skip
 all_goals (obtain⟨⟨⟨i0,i1,i3⟩,e1⟩,e2⟩:=i2;simp only[e1,e2] at *)
 all_goals first|assumption|omega|exact⟨p1,p2,reach_host (getD_in (by omega)) p3⟩|skip
 all_goals first|(rw[any_end (by omega)] at i3;exact i3)|rw[any_at (by omega)] at i3
 all_goals first|(rw[←i3,show Prod.snd (imports p _)=false by assumption];rfl)|(rw[show Prod.snd (imports p _)=true by assumption,Bool.not_true,Bool.false_or] at i3;rw[wrapId (by omega),show(y2.1+1).toNat=y2.1.toNat+1 by omega];simp only[and_true];exact⟨⟨by omega,by omega,i3⟩,by omega⟩))
def E140:=E139.add 128 fGraphFails
theorem E140ok:EOk Tryz.prog E140:=E139ok.add k128_139
def bpot (b:SBuilder):Nat:=szBuilder b+10*(40-b.nodes.length)
theorem runLine_pot (b:SBuilder) (l:List SSheet) (x:SLine):bpot (runLine b l x).1≤bpot b:=by
 unfold runLine
 split
 ·exact Nat.le_refl _
 ·split
  ·dsimp only
   split
   ·rename_i h
    obtain⟨h1,h2,h3⟩:=h
    have:=isName_size h3
    have h0:szL szNode []=0:=rfl
    have h4:szL szAttr []=0:=rfl
    have h5:ByteArray.size ⟨#[]⟩=0:=rfl
    simp only[bpot,szBuilder,szL_app,szL_cons,h0,szNode,h4,h5,List.length_append,List.length_cons,List.length_nil]
    omega
   ·exact Nat.le_refl _
  ·split
   ·exact Nat.le_refl _
   ·split
    ·exact Nat.le_refl _
    ·split<;>exact Nat.le_refl _
theorem runLines_pot (l:List SSheet):∀ (r:List SLine) (b:SBuilder) (w:ByteArray) (g:List ByteArray),bpot (runLines l r b w g).1≤bpot b
 | [],b,w,g=>Nat.le_refl _
 | x::r,b,w,g=>by
  rw[runLines]
  exact Nat.le_trans (runLines_pot l r _ _ _) (runLine_pot b l x)
theorem runScript_pot (b:SBuilder) (l:List SSheet) (r:List SLine):bpot (runScript b l r).1≤bpot b:=runLines_pot l r b _ _
theorem runScript_log (b:SBuilder) (l:List SSheet) (r:List SLine):(runScript b l r).2.2.length≤r.length:=by
 have:=(runLines_sz l r b ⟨#[]⟩ []).2.2
 show(runLines l r b ⟨#[]⟩ []).2.2.length≤_
 simpa using this
theorem pmGo_lines (b:ByteArray):∀ (l:List ByteArray) (acc:List SAddr),szL szLine (pmGo b l acc).2.1≤366∧(pmGo b l acc).2.1.length≤6
 | [],acc=>⟨Nat.zero_le _,Nat.zero_le _⟩
 | w::l,acc=>by
  rw[pmGo]
  split
  ·split
   ·exact pmGo_lines b l _
   ·exact⟨Nat.zero_le _,Nat.zero_le _⟩
  ·split
   ·exact parseScript_sz _
   ·exact⟨Nat.zero_le _,Nat.zero_le _⟩
def entLines (p:SPage) (b:SAddr):List SLine:=(parseModule (p.mods.getD (findMod p.mods b).toNat default).body b.host).2.1
theorem entLines_sz (p:SPage) (b:SAddr):szL szLine (entLines p b)≤366∧(entLines p b).length≤6:=pmGo_lines _ _ _
def entRun (p q:SPage) (b:SAddr):SBuilder×ByteArray×List ByteArray:=runScript q.builder (sheetsOf p.slots) (entLines p b)
def enter1 (p q:SPage) (b:SAddr):SPage:=if inL q.ran b=true then q else{ q with ran:=q.ran++[b],builder:=(entRun p q b).1,log:=addLog q.log (entRun p q b).2.2 }
def enterAll (p q:SPage) (l:List SAddr):SPage:=l.foldl (enter1 p) q
def enter (p:SPage) (a:SAddr):SPage:=if graphFails p a=true then say p (⟨#[102,97,105,108,32]⟩++formatAddr a) else enterAll p p (reachOf p a)
theorem enterAll_at {p q:SPage} {l:List SAddr} {i:Nat} (h:i<l.length):enterAll p q (l.drop i)=enterAll p (enter1 p q (l.getD i default)) (l.drop (i+1)):=by rw[drop_cons h];rfl
theorem enterAll_end {p q:SPage} {l:List SAddr} {i:Nat} (h:l.length≤i):enterAll p q (l.drop i)=q:=by rw[List.drop_of_length_le h];rfl
theorem addLog_len (l:List ByteArray):∀ g:List ByteArray,(addLog g l).length≤max g.length 40:=by
 induction l with
 | nil=>intro g;rw[addLog_nil];omega
 | cons x l ih=>
  intro g
  rw[addLog]
  split
  ·have:=ih (g++[x]);rw[List.length_append,List.length_singleton] at this;omega
  ·omega
def okEnt (p:SPage) (a:SAddr):Prop:=szPage p≤1000000000000∧okVis p a [] []∧szAddr a≤1000000000000∧szBuilder p.builder≤20000000000∧szL szSlot p.slots≤40000000000∧okBod p
def entInv (p:SPage) (a:SAddr) (q:SPage) (i:Int):Prop:=0≤i∧i≤(reachOf p a).length∧enterAll p q ((reachOf p a).drop i.toNat)=enterAll p p (reachOf p a)∧q={ p with ran:=q.ran,builder:=q.builder,log:=q.log }∧bpot q.builder≤bpot p.builder∧q.ran.length≤p.ran.length+i.toNat∧q.log.length≤max p.log.length 40
def logInv (q1:SPage) (g:List ByteArray) (q:SPage) (k:Int):Prop:=0≤k∧k≤g.length∧q={ q1 with log:=q.log }∧addLog q.log (g.drop k.toNat)=addLog q1.log g
theorem logInv_0 (q:SPage) (g:List ByteArray):logInv q g q 0:=⟨by omega,by omega,rfl,rfl⟩
theorem logInv_go {q1 q:SPage} {g:List ByteArray} {k:Int} (h:logInv q1 g q k) (hk:k<g.length):logInv q1 g (say q (g.getD k.toNat default)) (k+1):=by
 obtain⟨h1,h2,h3,h4⟩:=h
 rw[addLog_at (by omega)] at h4
 refine⟨by omega,by omega,?_,?_⟩
 ·unfold say
  split
  ·rw[h3]
  ·exact h3
 ·rw[show(k+1).toNat=k.toNat+1 by omega]
  unfold say
  split
  ·rename_i hc;rw[if_pos hc] at h4;exact h4
  ·rename_i hc;rw[if_neg hc] at h4;rw[addLog_full hc];exact h4
theorem logInv_end {q1 q:SPage} {g:List ByteArray} {k:Int} (h:logInv q1 g q k) (hk:¬ k<g.length):q={ q1 with log:=addLog q1.log g }:=by
 obtain⟨h1,h2,h3,h4⟩:=h
 rw[addLog_end (by omega)] at h4
 rw[←h4];exact h3
theorem imports_find {p:SPage} {x:SAddr} (h:(imports p x).2=true):0≤findMod p.mods x:=by
 unfold imports at h
 split at h
 ·cases h
 ·rename_i hc;omega
theorem reach_find {p:SPage} {a x:SAddr} (h:graphFails p a=false) (hx:x∈reachOf p a):0≤findMod p.mods x:=by
 unfold graphFails at h
 rw[List.any_eq_false] at h
 have:=h x hx
 refine imports_find ?_
 cases hi:(imports p x).2 with
 | true=>rfl
 | false=>rw[hi] at this;exact absurd rfl this
theorem entInv_0 (p:SPage) (a:SAddr):entInv p a p 0:=⟨by omega,by omega,rfl,rfl,Nat.le_refl _,Nat.le_refl _,Nat.le_max_left _ _⟩
theorem entInv_eq {p q:SPage} {a:SAddr} {i:Int} (h:entInv p a q i):q.mods=p.mods∧q.slots=p.slots:=by
 have e:=h.2.2.2.1
 exact⟨by rw[e],by rw[e]⟩
theorem entInv_sz {p q:SPage} {a:SAddr} {i:Int} (h:entInv p a q i) (hp:okEnt p a):q.ran.length≤1200000000000∧szBuilder q.builder≤30000000000∧szL szSheet (sheetsOf p.slots)≤80000000000∧okSheets (sheetsOf p.slots)∧szL szSlot p.slots≤40000000000∧(reachOf p a).length≤100000000001∧p.mods.length≤1000000000000:=by
 obtain⟨h1,h2,h3,h4,h5,h6,h7⟩:=h
 obtain⟨p1,⟨q1,q2,q3,q4,q5⟩,p3,p4,p5,p6⟩:=hp
 have hl:=reach_len (a:=a) q4
 have hs:=sheetsOf_sz p.slots
 have hpp:=pageParts p
 have hr:=szL_len szAddr p.ran
 have hm:=szL_len szModule p.mods
 have hb:szBuilder q.builder≤bpot q.builder:=Nat.le_add_right _ _
 have hb2:bpot p.builder≤szBuilder p.builder+400:=by unfold bpot;omega
 exact⟨by omega,by omega,by omega,hs.2,by omega,hl,by omega⟩
theorem entInv_go {p q:SPage} {a:SAddr} {i:Int} (h:entInv p a q i) (hi:i<(reachOf p a).length):entInv p a (enter1 p q ((reachOf p a).getD i.toNat default)) (i+1):=by
 obtain⟨h1,h2,h3,h4,h5,h6,h7⟩:=h
 rw[enterAll_at (by omega)] at h3
 refine⟨by omega,by omega,by rw[show(i+1).toNat=i.toNat+1 by omega];exact h3,?_,?_,?_,?_⟩
 ·unfold enter1
  split
  ·exact h4
  ·rw[h4]
 ·unfold enter1
  split
  ·exact h5
  ·exact Nat.le_trans (runScript_pot _ _ _) h5
 ·unfold enter1
  split
  ·omega
  ·rw[List.length_append,List.length_singleton];omega
 ·unfold enter1
  split
  ·exact h7
  ·have:=addLog_len (entRun p q ((reachOf p a).getD i.toNat default)).2.2 q.log
   show(addLog _ _).length≤_
   omega
theorem entRun_def (p q:SPage) (b:SAddr):runScript q.builder (sheetsOf p.slots) (parseModule (p.mods.getD (findMod p.mods b).toNat default).body b.host).2.1=entRun p q b:=rfl
theorem fmtAddr_sz (a:SAddr):(formatAddr a).size≤szAddr a+1:=by
 unfold formatAddr
 split
 ·rw[ByteArray.size_append,ByteArray.size_append];simp only[szAddr,show ByteArray.size ⟨#[47]⟩=1 from rfl];omega
 ·exact Nat.zero_le _
def fEnter:Fct:=⟨[.v (.el .page),.v (.el .addr)],[.el .page],fun(x_:SPage×SAddr×Unit)=>okEnt x_.1 x_.2.1,fun(x_:SPage×SAddr×Unit)=>(enter x_.1 x_.2.1,())⟩
abbrev W_spec_l19Enter_fEnter_6 (p:SPage) (a:SAddr):LInv:=⟨[⟨.b,5,true,.el .page⟩,⟨.s,7,true,.el .int⟩,⟨.b,4,true,.el .page⟩,⟨.s,6,true,.sl .addr⟩],fun(z_:SPage×Int×SPage×(List SAddr)×Unit) (x_:SPage×Int×SPage×(List SAddr)×Unit)=>((entInv p a x_.1 x_.2.1)∧x_.2.2.1=z_.2.2.1)∧x_.2.2.2.1=z_.2.2.2.1,fun(x_:SPage×Int×SPage×(List SAddr)×Unit)=>(reachOf p a).length-x_.2.1.toNat⟩
abbrev W_spec_l19Enter_fEnter_14 (p:SPage) (a:SAddr):LInv:=⟨[⟨.b,5,true,.el .page⟩,⟨.s,14,true,.el .int⟩,⟨.s,13,true,.sl .str⟩,⟨.s,6,true,.sl .addr⟩,⟨.b,4,true,.el .page⟩],fun(z_:SPage×Int×(List ByteArray)×(List SAddr)×SPage×Unit) (x_:SPage×Int×(List ByteArray)×(List SAddr)×SPage×Unit)=>(x_.2.2.1=z_.2.2.1∧x_.2.2.2.1=z_.2.2.2.1∧logInv z_.1 z_.2.2.1 x_.1 x_.2.1)∧x_.2.2.2.2.1=z_.2.2.2.2.1,fun(x_:SPage×Int×(List ByteArray)×(List SAddr)×SPage×Unit)=>x_.2.2.1.length-x_.2.1.toNat⟩
theorem k99_140:fEnter.ok Tryz.prog 99:=Fct.of (S:=fEnter) (L:=fun⟨p,a,_⟩=>fun|6=>some (W_spec_l19Enter_fEnter_6 p a)|14=>some (W_spec_l19Enter_fEnter_14 p a)|_=>none) (kp:=[2,3,4,5,6,7,9,11,13,14,19,31,40,86,1000019,1000031,1000040,1000086]) E140ok Tryz.func99 (by kernel_rfl) (by kernel_rfl) (by
 rintro⟨(p:SPage),(a:SAddr),_⟩ hp
 refine ho (.cl fCopyPage (p,()) fun z2=>.cl fGraphFails (p,a,()) fun z3=>.br (z3.1) (.cl fFormatAddr (a,()) fun z4=>.ob (sameSize (⟨#[102,97,105,108,32]⟩:ByteArray) z4.1)<|.ob (fSay.pre (z2.1,(⟨#[102,97,105,108,32]⟩:ByteArray)++z4.1,()))<|.lt _ (fSay.fn (z2.1,(⟨#[102,97,105,108,32]⟩:ByteArray)++z4.1,())) fun z5=>.lf fEnter (z5.1.1,())) (.cl fReachOf (p,a,()) fun z6=>lpx (W_spec_l19Enter_fEnter_6 p a) (z2.1,((0:Int),(default,(z6.1,())))) fun(y7:SPage×Int×SPage×List SAddr×PUnit) bk7=>.br (decide (y7.2.1<(↑y7.2.2.2.1.length:Int))) (.ob (inB y7.2.1 y7.2.2.2.1.length)<|.ob (y7.2.1.toNat<y7.2.2.2.1.length)<|.cl fHasAddr (y7.1.ran,y7.2.2.2.1.getD y7.2.1.toNat default,()) fun z7=>.br (z7.1) (.ob (bk7 (y7.1,(w1 y7.2.1,(y7.2.2.1,(y7.2.2.2.1,())))))<|.ok) (.ob (inB y7.2.1 y7.2.2.2.1.length)<|.ob (y7.2.1.toNat<y7.2.2.2.1.length)<|.ob (True)<|.ob (Room (y7.1.ran.length+[y7.2.2.2.1.getD y7.2.1.toNat default].length) 32)<|.ob (inB y7.2.1 y7.2.2.2.1.length)<|.ob (y7.2.1.toNat<y7.2.2.2.1.length)<|.cl fModAt ((⟨y7.1.addr,y7.1.policy,y7.1.tok,y7.1.queue,y7.1.ended,y7.1.builder,y7.1.slots,y7.1.mods,y7.1.entries,y7.1.block,y7.1.inline,y7.1.deferred,y7.1.entered,y7.1.ran++[y7.2.2.2.1.getD y7.2.1.toNat default],y7.1.log,y7.1.loaded⟩:SPage),y7.2.2.2.1.getD y7.2.1.toNat default,()) fun(z8:Int×PUnit)=>.ob (inB z8.1 y7.1.mods.length)<|.ob (z8.1.toNat<y7.1.mods.length)<|.ob (inB y7.2.1 y7.2.2.2.1.length)<|.ob (y7.2.1.toNat<y7.2.2.2.1.length)<|.cl fParseModule ((y7.1.mods.getD z8.1.toNat default).body,(y7.2.2.2.1.getD y7.2.1.toNat default).host,()) fun z9=>.cl fSheetsOf ((⟨y7.1.addr,y7.1.policy,y7.1.tok,y7.1.queue,y7.1.ended,y7.1.builder,y7.1.slots,y7.1.mods,y7.1.entries,y7.1.block,y7.1.inline,y7.1.deferred,y7.1.entered,y7.1.ran++[y7.2.2.2.1.getD y7.2.1.toNat default],y7.1.log,y7.1.loaded⟩:SPage),()) fun z10=>.cl fRunScript (y7.1.builder,z10.1,z9.2.1,()) fun z11=>lpx (W_spec_l19Enter_fEnter_14 p a) ((⟨y7.1.addr,y7.1.policy,y7.1.tok,y7.1.queue,y7.1.ended,z11.1,y7.1.slots,y7.1.mods,y7.1.entries,y7.1.block,y7.1.inline,y7.1.deferred,y7.1.entered,y7.1.ran++[y7.2.2.2.1.getD y7.2.1.toNat default],y7.1.log,y7.1.loaded⟩:SPage),((0:Int),(z11.2.2.1,(y7.2.2.2.1,(y7.2.2.1,()))))) fun(y27:SPage×Int×List ByteArray×List SAddr×SPage×PUnit) bk27=>.br (decide (y27.2.1<(↑y27.2.2.1.length:Int))) (.ob (inB y27.2.1 y27.2.2.1.length)<|.ob (y27.2.1.toNat<y27.2.2.1.length)<|.ob (fSay.pre (y27.1,y27.2.2.1.getD y27.2.1.toNat default,()))<|.lt _ (fSay.fn (y27.1,y27.2.2.1.getD y27.2.1.toNat default,())) fun z12=>.ob (Value.int IntKind.i64 y7.2.1=Value.int IntKind.i64 y7.2.1)<|.ob (bk27 (z12.1.1,(w1 y27.2.1,(y27.2.2.1,(y27.2.2.2.1,(y27.2.2.2.2.1,()))))))<|.ok) (.ob (bk7 (y27.1,(w1 y7.2.1,(y27.2.2.2.2.1,(y27.2.2.2.1,())))))<|.ok))) (.lf fEnter (y7.1,())))) ?_
 refine cl_i ?_ fun o1=>(cl_i ?_ fun o2=>(br_i (fun h3=>cl_i ?_ fun o4=>(ob_i ?_ fun o5=>ob_i trivial fun _=>lt_i (lfY ?_))) (fun h3=>cl_i ?_ fun o6=>(lpx_i ?_ fun(y7:SPage×Int×SPage×List SAddr×PUnit) i7=>br_i (fun h8=>ob_i ?_ fun o9=>ob_i ?_ fun o10=>cl_i ?_ fun o11=>(br_i (fun h12=>ob_i ?_ fun o13=>trivial) (fun h12=>ob_i ?_ fun o14=>ob_i ?_ fun o15=>ob_i trivial fun _=>ob_i ?_ fun o16=>ob_i ?_ fun o17=>ob_i ?_ fun o18=>cl_i ?_ fun o19=>(ob_i ?_ fun o20=>ob_i ?_ fun o21=>ob_i ?_ fun o22=>ob_i ?_ fun o23=>cl_i ?_ fun o24=>(cl_i ?_ fun o25=>(cl_i ?_ fun o26=>(lpx_i ?_ fun(y27:SPage×Int×List ByteArray×List SAddr×SPage×PUnit) i27=>br_i (fun h28=>ob_i ?_ fun o29=>ob_i ?_ fun o30=>ob_i trivial fun _=>lt_i (ob_i rfl fun _=>ob_i ?_ fun o31=>trivial)) (fun h28=>ob_i ?_ fun o32=>trivial)))))))) (fun h8=>lfY ?_)))))
 all_goals have hq:okEnt p a:=hp
 all_goals obtain⟨p1,p2,p3,p4,p5,p6⟩:=(show okEnt p a from hp)
 all_goals
  have hfa:=fmtAddr_sz a
  try simp only[std0] at *
  try simp only[W_spec_l19Enter_fEnter_14,W_spec_l19Enter_fEnter_6,fCopyPage,fEnter,fFormatAddr,fGraphFails,fHasAddr,fModAt,fParseModule,fReachOf,fRunScript,fSay,fSheetsOf,std,Nat.reduceAdd,szF,toF,eqF,mkF,heF,fCopyPage,fGraphFails,fFormatAddr,fSay,fReachOf,fHasAddr,fParseModule,fRunScript,fSheetsOf,fModAt,fm_def,inL_def] at *
 all_goals first|trivial|omega|exact p2|(unfold sameSize;rw[show ByteArray.size ⟨#[102,97,105,108,32]⟩=5 from rfl];omega)|exact entInv_0 p a|(unfold enter;rw[if_pos (by assumption)])|skip
 all_goals (obtain⟨⟨i1,e1⟩,e2⟩:=i7;have em:=(entInv_eq i1).1;have es:=(entInv_eq i1).2;have i0:=i1.1;have iz:=entInv_sz i1 hq)
 all_goals try simp only[e2,em,es,entRun_def] at *
 all_goals first|trivial|omega|skip
 all_goals try (have hmem:=getD_in (l:=reachOf p a) (i:=y7.2.1.toNat) (by omega);have hfnd:=reach_find (by assumption) hmem;have hfi:=findMod_in p.mods ((reachOf p a).getD y7.2.1.toNat default))
 all_goals first|exact⟨hfnd,hfi.1⟩|exact⟨by omega,p6⟩|exact⟨p2.2.1 _ (by omega),reach_host hmem p2.2.2.1⟩|exact⟨by omega,by omega,Nat.le_trans (entLines_sz p _).1 (by decide),iz.2.2.2.1⟩|exact logInv_0 _ _|(rw[wrapId (by omega)];have e:=entInv_go i1 (by omega);unfold enter1 at e;rw[if_pos (by assumption)] at e;exact⟨⟨⟨e,e1⟩,trivial⟩,by omega⟩)|(unfold enter;rw[if_neg (by intro q;exact tf q (by assumption))];have e:=i1.2.2.1;rw[enterAll_end (by omega)] at e;exact e)|skip
 all_goals (obtain⟨⟨j1,j2,j3⟩,j4⟩:=i27;simp only[j1,j2,j4] at *;have j0:=j3.1;have hgl:=Nat.le_trans (runScript_log y7.1.builder (sheetsOf p.slots) (entLines p ((reachOf p a).getD y7.2.1.toNat default))) (entLines_sz p _).2;rw[show runScript y7.1.builder (sheetsOf p.slots) (entLines p ((reachOf p a).getD y7.2.1.toNat default))=entRun p y7.1 ((reachOf p a).getD y7.2.1.toNat default) from rfl] at hgl)
 all_goals first|exact⟨j0,by assumption⟩|(rw[wrapId (by omega)];simp only[and_true,true_and];exact⟨logInv_go j3 (by assumption),by omega⟩)|skip
 all_goals
  have e:=logInv_end j3 (by omega)
  have em2:=entInv_eq i1
  have e5:y27.1=enter1 p y7.1 ((reachOf p a).getD y7.2.1.toNat default):=by rw[e];unfold enter1;rw[if_neg (by intro q;exact tf q (by assumption))];simp only[em2.1,em2.2]
 all_goals rw[wrapId (by omega),e5]
 all_goals exact⟨⟨⟨entInv_go i1 (by omega),by first|trivial|assumption⟩,by first|trivial|assumption⟩,by omega⟩)
def E141:=E140.add 99 fEnter
theorem E141ok:EOk Tryz.prog E141:=E140ok.add k99_140
theorem wtL_sz (g:SModule→Bool):∀ l:List SModule,wtL g l≤szL szModule l
 | []=>Nat.le_refl _
 | m::l=>by
  have:=wtL_sz g l
  rw[wtL,szL_cons]
  split<;>simp only[szModule]<;>omega
theorem tot0 (p:SPage):totV p []≤szL szModule p.mods:=by
 unfold totV
 rw[wtV_eq,List.length_nil,Nat.zero_add]
 exact wtL_sz _ _
def okTail (p:SPage):Prop:=okParse p∧okMb p∧szL szModule p.mods≤50000000000∧∀ i,i<p.entries.length→(p.entries.getD i default).host.size≤4000000000
theorem okTail_ent {p:SPage} (h:okTail p) {i:Nat} (hi:i<p.entries.length):okEnt p (p.entries.getD i default):=by
 obtain⟨⟨⟨h1,h1a,h1b,h1c,h1e⟩,h1d,h1f⟩,h2,h2a,h3⟩:=h
 have hpp:=pageParts p
 have ht:=tot0 p
 have hm:=szL_len szModule p.mods
 have ha:=szL_get szAddr hi
 exact⟨h1,⟨by omega,h2,h3 i hi,by omega,Nat.le_refl _⟩,by omega,by unfold szBuilder;omega,h1d,h1f⟩
def defSlot (p:SPage):SSlot:=p.slots.getD ((deferredSlots p).getD p.deferred.toNat default).toNat default
def entNow (p:SPage):SAddr:=p.entries.getD p.entered.toNat default
def tailDefer (p:SPage):SPage×Bool :=
 if(defSlot p).done=false∨stylesReady p.slots=false then(p,false)
 else if(defSlot p).code=1 then({ runCode p (defSlot p).body false with deferred:=p.deferred+1 },true)
 else({ p with deferred:=p.deferred+1 },true)
def tailEnter (p:SPage):SPage×Bool :=
 if graphReady p (entNow p)=false∨stylesReady p.slots=false then(p,false)
 else({ enter p (entNow p) with entered:=p.entered+1 },true)
def stepTail (p:SPage):SPage×Bool :=
 if isParsed p=false∨p.loaded=true∨p.deferred<0∨p.entered<0 then(p,false)
 else if p.deferred<(deferredSlots p).length then tailDefer p
 else if p.entered<p.entries.length then tailEnter p
 else if 0<(openSlots p).length∨0<(openMods p).length then(p,false)
 else({ say p ⟨#[108,111,97,100]⟩ with loaded:=true },true)
theorem defSlot_in (p:SPage) (h:0≤p.deferred) (h2:p.deferred<(deferredSlots p).length):0≤(deferredSlots p).getD p.deferred.toNat default∧(deferredSlots p).getD p.deferred.toNat default<p.slots.length:=by
 have hm:=getD_in (l:=deferredSlots p) (i:=p.deferred.toNat) (by omega)
 have:=openIdx_in (fun s:SSlot=>decide (s.mode=4)) p.slots 0 _ hm
 omega
theorem defSlot_def (p:SPage):p.slots.getD ((deferredSlots p).getD p.deferred.toNat default).toNat default=defSlot p:=rfl
theorem entNow_def (p:SPage):p.entries.getD p.entered.toNat default=entNow p:=rfl
def fStepTail:Fct:=⟨[.v (.el .page)],[.el .page,.el .bool],fun(x_:SPage×Unit)=>okTail x_.1,fun(x_:SPage×Unit)=>((stepTail x_.1).1,(stepTail x_.1).2,())⟩
theorem k73_141:fStepTail.ok Tryz.prog 73:=Fct.o [1,2,3,4,5,6,7,26,34,51,59,78,93,112,1000026,1000034,1000051,1000059,1000078,1000093,1000112] E141ok Tryz.func73 (by
 rintro⟨(p:SPage),_⟩ hp
 refine ho (.cl fCopyPage (p,()) fun z2=>.cl fIsParsed (p,()) fun z3=>.br (!z3.1) (.lf fStepTail (z2.1,false,())) (.br (p.loaded) (.lf fStepTail (z2.1,false,())) (.br (decide (p.deferred<0)) (.lf fStepTail (z2.1,false,())) (.br (decide (p.entered<0)) (.lf fStepTail (z2.1,false,())) (.cl fDeferredSlots (p,()) fun(z4:List Int×PUnit)=>.br (decide (p.deferred<(↑z4.1.length:Int))) (.ob (inB p.deferred z4.1.length)<|.ob (p.deferred.toNat<z4.1.length)<|.ob (0≤z4.1.getD p.deferred.toNat default∧z4.1.getD p.deferred.toNat default<(↑p.slots.length:Int))<|.br (!(p.slots.getD (z4.1.getD p.deferred.toNat default).toNat default).done) (.lf fStepTail (z2.1,false,())) (.cl fStylesReady (p,()) fun z5=>.br (!z5.1) (.lf fStepTail (z2.1,false,())) (.ob (0≤z4.1.getD p.deferred.toNat default∧z4.1.getD p.deferred.toNat default<(↑p.slots.length:Int))<|.br ((p.slots.getD (z4.1.getD p.deferred.toNat default).toNat default).code==1) (.ob (0≤z4.1.getD p.deferred.toNat default∧z4.1.getD p.deferred.toNat default<(↑p.slots.length:Int))<|.cl fRunCode (p,(p.slots.getD (z4.1.getD p.deferred.toNat default).toNat default).body,false,()) fun z6=>.lf fStepTail (⟨z6.1.addr,z6.1.policy,z6.1.tok,z6.1.queue,z6.1.ended,z6.1.builder,z6.1.slots,z6.1.mods,z6.1.entries,z6.1.block,z6.1.inline,w1 p.deferred,z6.1.entered,z6.1.ran,z6.1.log,z6.1.loaded⟩,true,())) (.lf fStepTail (⟨z2.1.addr,z2.1.policy,z2.1.tok,z2.1.queue,z2.1.ended,z2.1.builder,z2.1.slots,z2.1.mods,z2.1.entries,z2.1.block,z2.1.inline,w1 p.deferred,z2.1.entered,z2.1.ran,z2.1.log,z2.1.loaded⟩,true,()))))) (.br (decide (p.entered<(↑p.entries.length:Int))) (.ob (inB p.entered p.entries.length)<|.cl fGraphReady (p,p.entries.getD p.entered.toNat default,()) fun z7=>.br (!z7.1) (.lf fStepTail (z2.1,false,())) (.cl fStylesReady (p,()) fun z8=>.br (!z8.1) (.lf fStepTail (z2.1,false,())) (.cl fEnter (p,p.entries.getD p.entered.toNat default,()) fun z9=>.lf fStepTail (⟨z9.1.addr,z9.1.policy,z9.1.tok,z9.1.queue,z9.1.ended,z9.1.builder,z9.1.slots,z9.1.mods,z9.1.entries,z9.1.block,z9.1.inline,z9.1.deferred,w1 p.entered,z9.1.ran,z9.1.log,z9.1.loaded⟩,true,())))) (.cl fOpenSlots (p,()) fun(z10:List Int×PUnit)=>.br (decide ((↑z10.1.length:Int)>0)) (.lf fStepTail (z2.1,false,())) (.cl fOpenMods (p,()) fun(z11:List Int×PUnit)=>.br (decide ((↑z11.1.length:Int)>0)) (.lf fStepTail (z2.1,false,())) (.ob (fSay.pre (z2.1,(⟨#[108,111,97,100]⟩:ByteArray),()))<|.lt _ (fSay.fn (z2.1,(⟨#[108,111,97,100]⟩:ByteArray),())) fun z12=>.lf fStepTail (⟨z12.1.1.addr,z12.1.1.policy,z12.1.1.tok,z12.1.1.queue,z12.1.1.ended,z12.1.1.builder,z12.1.1.slots,z12.1.1.mods,z12.1.1.entries,z12.1.1.block,z12.1.1.inline,z12.1.1.deferred,z12.1.1.entered,z12.1.1.ran,z12.1.1.log,true⟩,true,())))))))))) ?_
 refine cl_i ?_ fun o1=>(cl_i trivial fun _=>(br_i (fun h2=>lfY ?_) (fun h2=>br_i (fun h3=>lfY ?_) (fun h3=>br_i (fun h4=>lfY ?_) (fun h4=>br_i (fun h5=>lfY ?_) (fun h5=>cl_i ?_ fun o6=>(br_i (fun h7=>ob_i ?_ fun o8=>ob_i ?_ fun o9=>ob_i ?_ fun o10=>br_i (fun h11=>lfY ?_) (fun h11=>cl_i ?_ fun o12=>(br_i (fun h13=>lfY ?_) (fun h13=>ob_i ?_ fun o14=>br_i (fun h15=>ob_i ?_ fun o16=>cl_i ?_ fun o17=>(lfY ?_)) (fun h15=>lfY ?_))))) (fun h7=>br_i (fun h18=>ob_i ?_ fun o19=>cl_i ?_ fun o20=>(br_i (fun h21=>lfY ?_) (fun h21=>cl_i ?_ fun o22=>(br_i (fun h23=>lfY ?_) (fun h23=>cl_i ?_ fun o24=>(lfY ?_)))))) (fun h18=>cl_i ?_ fun o25=>(br_i (fun h26=>lfY ?_) (fun h26=>cl_i ?_ fun o27=>(br_i (fun h28=>lfY ?_) (fun h28=>ob_i trivial fun _=>lt_i (lfY ?_))))))))))))))
 all_goals have hq:okTail p:=hp
 all_goals obtain⟨⟨⟨hp1,hp2,hp3,hp4,hp9⟩,hp8,hp5⟩,hp6,hp10,hp7⟩:=(show okTail p from hp)
 all_goals
  have hbb:szBuilder p.builder≤2000000000:=by(unfold szBuilder;omega)
  have hpp:=pageParts p
  have hsl:=szL_len szSlot p.slots
  have hml:=szL_len szModule p.mods
  have hel:=szL_len szAddr p.entries
  have hdl:(deferredSlots p).length≤p.slots.length:=openIdx_len _ _ _
  try simp only[std0] at *
  try simp only[fCopyPage,fDeferredSlots,fEnter,fGraphReady,fIsParsed,fOpenMods,fOpenSlots,fRunCode,fSay,fStepTail,fStylesReady,std,Nat.reduceAdd,szF,toF,eqF,mkF,heF,fCopyPage,fIsParsed,fDeferredSlots,fStylesReady,fRunCode,fGraphReady,fEnter,fOpenSlots,fOpenMods,fSay,defSlot_def,entNow_def] at *
 all_goals first|trivial|omega|skip
 all_goals
  have hds:0≤p.deferred→p.deferred<(deferredSlots p).length→(defSlot p).body.size≤4200000000:=fun a b=>hp5 _ (by have:=defSlot_in p a b;omega)
  have hes:0≤p.entered→p.entered<p.entries.length→okEnt p (entNow p):=fun a b=>okTail_ent hq (by omega)
 all_goals first|exact defSlot_in p (by assumption) (by assumption)|exact⟨hp1,by omega,by omega,hds (by assumption) (by assumption),hp5⟩|exact hes (by assumption) (by assumption)|exact(hes (by assumption) (by assumption)).2.1|skip
 all_goals unfold stepTail
 all_goals repeat first|rw[if_pos (by first|assumption|omega|exact .inl (by assumption)|exact .inr (by assumption)|exact .inr (.inl (by assumption))|exact .inr (.inr (.inl (by omega)))|exact .inr (.inr (.inr (by omega)))|exact .inl (by omega)|exact .inr (by omega))]|rw[if_neg (by first|omega|(rintro(q|q|q|q)<;>first|omega|exact tf (by assumption) q|exact tf q (by assumption))|(rintro(q|q)<;>first|omega|exact tf (by assumption) q))]|unfold tailDefer|unfold tailEnter
 all_goals first|exact⟨rfl,rfl⟩|(rw[wrapId (by omega)];exact⟨rfl,rfl⟩))
def E142:=E141.add 73 fStepTail
theorem E142ok:EOk Tryz.prog E142:=E141ok.add k73_141
def undS:List SSlot→Nat
 | []=>0
 | s::l=>(if s.done=true then 0 else 1)+undS l
def undM:List SModule→Nat
 | []=>0
 | m::l=>(if m.done=true then 0 else 1)+undM l
def nrL (r:List SAddr):List SModule→Nat
 | []=>0
 | m::l=>(if inL r m.to=true then 0 else szAddr m.to+1)+nrL r l
theorem undS_app:∀ l k:List SSlot,undS (l++k)=undS l+undS k
 | [],k=>(Nat.zero_add _).symm
 | s::l,k=>by rw[List.cons_append,undS,undS,undS_app l k];omega
theorem undM_app:∀ l k:List SModule,undM (l++k)=undM l+undM k
 | [],k=>(Nat.zero_add _).symm
 | s::l,k=>by rw[List.cons_append,undM,undM,undM_app l k];omega
theorem nrL_app (r:List SAddr):∀ l k:List SModule,nrL r (l++k)=nrL r l+nrL r k
 | [],k=>(Nat.zero_add _).symm
 | s::l,k=>by rw[List.cons_append,nrL,nrL,nrL_app r l k];omega
theorem nrL_mono (r:List SAddr) (b:SAddr):∀ l:List SModule,nrL (r++[b]) l≤nrL r l
 | []=>Nat.le_refl _
 | m::l=>by
  have:=nrL_mono r b l
  rw[nrL,nrL,inL_app]
  cases inL r m.to with
  | true=>rw[Bool.true_or,if_pos rfl];omega
  | false=>
   rw[Bool.false_or,if_neg (show ¬ false=true by decide)]
   split<;>omega
theorem nrL_drop (r:List SAddr) (b:SAddr) (hb:inL r b=false):∀ (l:List SModule) (i:Nat),i<l.length→(l.getD i default).to=b→nrL (r++[b]) l+szAddr b+1≤nrL r l
 | [],i,h,_=>absurd h (Nat.not_lt_zero _)
 | m::l,0,_,he=>by
  have he:m.to=b:=he
  have:=nrL_mono r b l
  rw[nrL,nrL,he,inL_app,hb,inL_one,decide_eq_true rfl,Bool.false_or,if_pos rfl,if_neg (by decide)]
  omega
 | m::l,i+1,h,he=>by
  have ih:=nrL_drop r b hb l i (by simpa using h) he
  rw[nrL,nrL,inL_app]
  cases inL r m.to with
  | true=>rw[Bool.true_or,if_pos rfl];omega
  | false=>
   rw[Bool.false_or,if_neg (show ¬ false=true by decide)]
   split<;>omega
def nodeP (b:SBuilder):Nat:=szL szNode b.nodes+4000010*(40-b.nodes.length)
def openP (b:SBuilder):Nat:=b.open_.length+(40-b.nodes.length)
def slotP (l:List SSlot):Nat:=szL szSlot l+400*undS l+500000800*(20-l.length)
def entP (l:List SAddr):Nat:=szL szAddr l+100*(20-l.length)
def modP (l:List SModule) (n:Nat):Nat:=szL szModule l+500*undM l+600*(20-n)
def logP (l:List ByteArray):Nat:=szL szString l+200*(40-l.length)
def ranP (l:List SModule) (r:List SAddr) (n:Nat):Nat:=szL szAddr r+nrL r l+100*(20-n)
def okQ (q:List SToken) (Q:Nat):Prop:=(∀ t,t∈q→szToken t≤4000000)∧szL szToken q≤Q
def okB (b:SBuilder):Prop:=nodeP b≤200000000∧openP b≤3000000
def okS (l:List SSlot):Prop:=slotP l≤13000000000∧∀ s,s∈l→s.body.size≤2000000
def okE (l:List SModule) (e r:List SAddr) (M R:Nat):Prop:=entP e≤3000000∧modP l e.length≤M∧ranP l r e.length≤R∧∀ m,m∈l→m.body.size≤2000000
def okLg (g:List ByteArray):Prop:=logP g≤3000000
def okCm (p:SPage):Prop:=szPolicy p.policy+szAddr p.addr≤4000000∧p.tok.rest.size≤4000000
def okAll (p:SPage) (Q M R:Nat):Prop:=okQ p.queue Q∧okB p.builder∧okS p.slots∧okE p.mods p.entries p.ran M R∧okLg p.log∧okCm p
theorem okQ_mono {q:List SToken} {Q Q':Nat} (h:okQ q Q) (hq:Q≤Q'):okQ q Q':=⟨h.1,Nat.le_trans h.2 hq⟩
theorem okAll_mono {p:SPage} {Q Q' M R:Nat} (h:okAll p Q M R) (hq:Q≤Q'):okAll p Q' M R:=⟨okQ_mono h.1 hq,h.2⟩
theorem okB_tok {b:SBuilder} {t:SToken} (h:okB b) (ht:szToken t≤4000000):okB (addToken b t).1:=by
 obtain⟨h1,h2⟩:=h
 unfold addToken
 split
 ·have:=closeN_len b t.name _ (Nat.le_refl _)
  refine⟨h1,?_⟩
  unfold openP at *
  show(closeN b t.name b.open_.length).length+(40-b.nodes.length)≤_
  omega
 ·split
  ·rename_i hc
   have hc:=hc.1
   have h0:szL szNode []=0:=rfl
   have h3:szL szAttr []=0:=rfl
   have h4:ByteArray.size ⟨#[]⟩=0:=rfl
   split
   ·refine⟨?_,?_⟩
    ·unfold nodeP at *
     dsimp only
     rw[szL_app,szL_cons,h0,List.length_append,List.length_singleton]
     simp only[szNode,szToken,h4] at *;omega
    ·unfold openP at *
     dsimp only
     rw[List.length_append,List.length_singleton]
     split
     ·omega
     ·rw[List.length_append,List.length_singleton];omega
   ·refine⟨?_,?_⟩
    ·unfold nodeP at *
     dsimp only
     rw[szL_app,szL_cons,h0,List.length_append,List.length_singleton]
     simp only[szNode,szToken,h4,h3] at *;omega
    ·unfold openP at *
     dsimp only
     rw[List.length_append,List.length_singleton];omega
  ·exact⟨h1,h2⟩
theorem okB_line {b:SBuilder} (l:List SSheet) (x:SLine) (h:okB b):okB (runLine b l x).1:=by
 unfold runLine
 split
 ·exact h
 ·split
  ·dsimp only
   split
   ·rename_i hc
    obtain⟨c1,c2,c3⟩:=hc
    obtain⟨h1,h2⟩:=h
    have:=isName_size c3
    have h0:szL szNode []=0:=rfl
    have h3:szL szAttr []=0:=rfl
    have h4:ByteArray.size ⟨#[]⟩=0:=rfl
    refine⟨?_,?_⟩
    ·unfold nodeP at *
     dsimp only
     rw[szL_app,szL_cons,h0,List.length_append,List.length_singleton]
     simp only[szNode,h4,h3] at *;omega
    ·unfold openP at *
     dsimp only
     rw[List.length_append,List.length_singleton];omega
   ·exact h
  ·split
   ·exact h
   ·split
    ·exact h
    ·split<;>exact h
theorem okB_lines (l:List SSheet):∀ (r:List SLine) (b:SBuilder) (w:ByteArray) (g:List ByteArray),okB b→okB (runLines l r b w g).1
 | [],b,w,g,h=>h
 | x::r,b,w,g,h=>by
  rw[runLines]
  exact okB_lines l r _ _ _ (okB_line l x h)
theorem line_log {b:SBuilder} {l:List SSheet} {x:SLine} (hl:okSheets l) (hb:b.nodes.length≤9000000000000000000) (hx:x.text.size≤60):(runLine b l x).2.2.size≤199:=by
 have h0:ByteArray.size ⟨#[]⟩=0:=rfl
 have hc:=countName_in x.text b.nodes
 have hk:=colorOf_in hl x.text
 have f1:=fmtI_size (n:=countName x.text b.nodes) (by omega) (by omega)
 have f2:=fmtI_size (n:=colorOf l x.text) hk.1 hk.2
 have s1:ByteArray.size ⟨#[99,111,117,110,116,32]⟩=6:=rfl
 have s2:ByteArray.size ⟨#[32]⟩=1:=rfl
 have s3:ByteArray.size ⟨#[108,111,111,107,32]⟩=5:=rfl
 have s4:ByteArray.size ⟨#[115,97,121,32]⟩=4:=rfl
 unfold runLine
 split
 ·dsimp only;omega
 ·split
  ·dsimp only;omega
  ·split
   ·dsimp only;rw[ByteArray.size_append,ByteArray.size_append,ByteArray.size_append];omega
   ·split
    ·dsimp only;rw[ByteArray.size_append,ByteArray.size_append,ByteArray.size_append];omega
    ·split
     ·dsimp only;rw[ByteArray.size_append];omega
     ·dsimp only;omega
theorem lines_log (l:List SSheet) (hl:okSheets l):∀ (r:List SLine) (b:SBuilder) (w:ByteArray) (g:List ByteArray),okB b→(∀ x,x∈r→x.text.size≤60)→(∀ s,s∈g→s.size≤199)→∀ s,s∈(runLines l r b w g).2.2→s.size≤199
 | [],b,w,g,_,_,hg=>hg
 | x::r,b,w,g,hb,hr,hg=>by
  rw[runLines]
  have hn:b.nodes.length≤9000000000000000000:=by
   have:=szL_len szNode b.nodes
   have h1:=hb.1
   unfold nodeP at h1;omega
  have hx:=line_log hl hn (hr x List.mem_cons_self)
  refine lines_log l hl r _ _ _ (okB_line l x hb) (fun y hy=>hr y (List.mem_cons_of_mem _ hy)) fun s hs=>?_
  split at hs
  ·exact hg s hs
  ·rcases List.mem_append.1 hs with hs|hs
   ·exact hg s hs
   ·rw[List.mem_singleton] at hs;rw[hs];exact hx
theorem okG_add:∀ (l g:List ByteArray),(∀ s,s∈l→s.size≤199)→okLg g→okLg (addLog g l)
 | [],g,_,h=>by rw[addLog_nil];exact h
 | x::l,g,hl,h=>by
  rw[addLog]
  split
  ·refine okG_add l _ (fun s hs=>hl s (List.mem_cons_of_mem _ hs)) ?_
   have:=hl x List.mem_cons_self
   have h0:szL szString []=0:=rfl
   unfold okLg logP at *
   rw[szL_app,szL_cons,h0,List.length_append,List.length_singleton]
   simp only[szString] at *;omega
  ·exact h
theorem okG_say {p:SPage} {Q M R:Nat} (h:okAll p Q M R) {s:ByteArray} (hs:s.size≤199):okAll (say p s) Q M R:=by
 obtain⟨h1,h2,h3,h4,h5,h6⟩:=h
 have e:=okG_add [s] p.log (fun x hx=>by rw[List.mem_singleton] at hx;rw[hx];exact hs) h5
 unfold say
 split
 ·rename_i hc
  rw[addLog,if_pos hc,addLog_nil] at e
  exact⟨h1,h2,h3,h4,e,h6⟩
 ·exact⟨h1,h2,h3,h4,h5,h6⟩
theorem lines_text (s:ByteArray):∀ x,x∈(parseScript s).1→x.text.size≤60:=by
 intro x hx
 unfold parseScript at hx
 split at hx
 ·cases hx
 ·split at hx
  ·rename_i hc
   obtain⟨w,hw,rfl⟩:=List.mem_map.1 hx
   have:=hc.2
   rw[allOk8,List.all_eq_true] at this
   exact line8L_sz w _ _ (this w hw)
  ·cases hx
theorem ok_run {p:SPage} {Q M R:Nat} (h:okAll p Q M R) (c:ByteArray) (w:Bool):okAll (runCode p c w) (Q+370) M R:=by
 obtain⟨h1,h2,h3,h4,h5,h6⟩:=h
 unfold runCode
 split
 ·refine⟨?_,okB_lines _ _ _ _ _ h2,h3,h4,okG_add _ _ (lines_log _ (sheetsOf_sz _).2 _ _ _ _ h2 (lines_text c) fun s hs=>by cases hs) h5,h6⟩
  dsimp only
  split
  ·have ht:=tokensOf_sz (rsOf p c).2.1
   have hr:=(rsOf_sz p c).2.1
   refine⟨fun t ht2=>?_,?_⟩
   ·rcases List.mem_append.1 ht2 with q|q
    ·have hg:=szL_mem szToken q
     omega
    ·exact h1.1 t q
   ·rw[szL_app]
    have:=h1.2;omega
  ·exact okQ_mono h1 (by omega)
 ·exact⟨okQ_mono h1 (by omega),h2,h3,h4,okG_add _ _ (fun s hs=>by rw[List.mem_singleton] at hs;rw[hs];decide) h5,h6⟩
theorem parseAddr_len (s b:ByteArray):szAddr (parseAddr s b).1≤16:=by
 unfold parseAddr
 split
 ·rename_i h
  rw[Bool.and_eq_true] at h
  have h1:=isName_size h.1
  have h2:=isName_size h.2
  simp only[szAddr];omega
 ·decide
theorem newSlot_sz (p:SPage) (m:Int) (to d:ByteArray) (n:Int):szSlot (newSlot p m to d n)≤16+d.size∧(newSlot p m to d n).body.size=0:=by
 have h:=parseAddr_len to p.addr.host
 have h4:ByteArray.size ⟨#[]⟩=0:=rfl
 unfold newSlot
 split
 ·exact⟨by simp only[rawSlot,szSlot,h4];omega,h4⟩
 ·exact⟨by simp only[szSlot,h4];omega,h4⟩
theorem ok_slot {p:SPage} {Q M R:Nat} (h:okAll p Q M R) (m:Int) (to d:ByteArray) (n:Int) (hd:d.size≤200000000):okAll (addSlot p m to d n).1 Q M R:=by
 obtain⟨h1,h2,h3,h4,h5,h6⟩:=h
 unfold addSlot
 split
 ·rename_i hc
  have hn:=newSlot_sz p m to d n
  refine⟨h1,h2,⟨?_,fun s hs=>?_⟩,h4,h5,h6⟩
  ·have h0:szL szSlot []=0:=rfl
   have hu:undS [newSlot p m to d n]≤1:=by rw[undS,undS];split<;>omega
   have h7:=h3.1
   unfold slotP at *
   dsimp only
   rw[szL_app,szL_cons,h0,undS_app,List.length_append,List.length_singleton]
   omega
  ·rcases List.mem_append.1 hs with hs|hs
   ·exact h3.2 s hs
   ·rw[List.mem_singleton] at hs;rw[hs,hn.2];decide
 ·exact⟨h1,h2,h3,h4,h5,h6⟩
theorem newMod_sz (p:SPage) (a:SAddr):(newMod p a).to=a∧(newMod p a).body.size=0:=by
 unfold newMod;split<;>exact⟨rfl,rfl⟩
theorem szL_td {α:Type} (f:α→Nat) (l:List α) (i:Nat):szL f (l.take i)+szL f (l.drop i)=szL f l:=by
 rw[←szL_app,List.take_append_drop]
theorem undM_td (l:List SModule) (i:Nat):undM (l.take i)+undM (l.drop i)=undM l:=by rw[←undM_app,List.take_append_drop]
theorem nrL_td (r:List SAddr) (l:List SModule) (i:Nat):nrL r (l.take i)+nrL r (l.drop i)=nrL r l:=by rw[←nrL_app,List.take_append_drop]
theorem ask_sz (p:SPage) (a:SAddr):szL szModule (askModule p a).mods≤szL szModule p.mods+szAddr a+1∧undM (askModule p a).mods≤undM p.mods+1∧nrL p.ran (askModule p a).mods≤nrL p.ran p.mods+szAddr a+1∧(∀ m,m∈(askModule p a).mods→m∈p.mods∨m.body.size=0)∧askModule p a={ p with mods:=(askModule p a).mods }:=by
 unfold askModule
 split
 ·exact⟨by omega,by omega,by omega,fun m h=>.inl h,rfl⟩
 ·obtain⟨n1,n2⟩:=newMod_sz p a
  have e1:=szL_td szModule p.mods (askFrom a p.mods)
  have e2:=undM_td p.mods (askFrom a p.mods)
  have e3:=nrL_td p.ran p.mods (askFrom a p.mods)
  refine⟨?_,?_,?_,fun m h=>?_,rfl⟩
  ·dsimp only
   rw[szL_app,szL_cons]
   simp only[szModule,n1,n2] at *;omega
  ·dsimp only
   rw[undM_app,undM]
   split<;>omega
  ·dsimp only
   rw[nrL_app,nrL,n1]
   split<;>omega
  ·rcases List.mem_append.1 h with h|h
   ·exact .inl (List.mem_of_mem_take h)
   ·rcases List.mem_cons.1 h with h|h
    ·rw[h];exact .inr n2
    ·exact .inl (List.mem_of_mem_drop h)
theorem ok_entry {p:SPage} {Q M R:Nat} (h:okAll p Q M R) (to:ByteArray):okAll (addEntry p to) Q M R:=by
 unfold addEntry
 split
 ·rename_i hc
  obtain⟨h1,h2,h3,⟨h4,h7,h8,h9⟩,h5,h6⟩:=h
  obtain⟨a1,a2,a3,a4,a5⟩:=ask_sz p (parseAddr to p.addr.host).1
  have ha:=parseAddr_len to p.addr.host
  have h0:szL szAddr []=0:=rfl
  rw[a5]
  refine⟨h1,h2,h3,⟨?_,?_,?_,fun m hm=>?_⟩,h5,h6⟩
  ·unfold entP at *
   rw[szL_app,szL_cons,h0,List.length_append,List.length_singleton];omega
  ·unfold modP at *
   dsimp only
   rw[List.length_append,List.length_singleton];omega
  ·unfold ranP at *
   dsimp only
   rw[List.length_append,List.length_singleton];omega
  ·rcases a4 m hm with hm|hm
   ·exact h9 m hm
   ·omega
 ·exact h
theorem ok_element {p:SPage} {Q M R:Nat} (h:okAll p Q M R) (t:SToken) (n:Int) (ht:szToken t≤4000000):okAll (element p t n) Q M R:=by
 have hd:=findAttr_sz t.attrs ⟨#[100,105,103,101,115,116]⟩
 have hs:szL szAttr t.attrs≤szToken t:=by simp only[szToken];omega
 unfold element
 split
 ·exact ok_slot h _ _ _ _ (by omega)
 ·split
  ·exact ok_slot h _ _ _ _ (by omega)
  ·exact h
theorem ok_script {p:SPage} {Q M R:Nat} (h:okAll p Q M R) (n:Int):okAll (script p n) Q M R:=by
 have hd:=findAttr_sz (p.builder.nodes.getD n.toNat default).attrs ⟨#[100,105,103,101,115,116]⟩
 have hs:szL szAttr (p.builder.nodes.getD n.toNat default).attrs≤200000000:=by
  by_cases hn:n.toNat<p.builder.nodes.length
  ·have:=node_attrs p.builder.nodes n.toNat hn
   have h2:=h.2.1.1
   unfold nodeP at h2;omega
  ·rw[List.getD_eq_getElem?_getD,List.getElem?_eq_none (by omega)]
   exact Nat.zero_le _
 unfold script
 split
 ·split
  ·exact h
  ·exact h
 ·split
  ·exact ok_slot h _ _ _ _ (by omega)
  ·split
   ·exact ok_entry h _
   ·exact ok_slot h _ _ _ _ (by omega)
theorem ok_taken {p:SPage} {Q M R:Nat} (h:okAll p Q M R) (hq:0<p.queue.length):okAll (taken p (p.queue.getD 0 default)) Q M R:=by
 obtain⟨h1,h2,h3,h4,h5,h6⟩:=h
 have ht:=h1.1 _ (getD_in hq)
 have hz:=(taken_sz p hq).2
 exact⟨⟨fun t hm=>h1.1 t (List.mem_of_mem_drop hm),by have:=h1.2;show szL szToken (p.queue.drop 1)≤Q;omega⟩,okB_tok h2 ht,h3,h4,h5,h6⟩
theorem ok_take {p:SPage} {Q M R:Nat} (h:okAll p Q M R):okAll (takeToken p).1 Q M R:=by
 unfold takeToken
 split
 ·exact h
 ·rename_i hc
  have hq:0<p.queue.length:=by omega
  have ht:=h.1.1 _ (getD_in hq)
  have hk:=ok_taken h hq
  unfold takeTok
  split
  ·exact ok_element hk _ _ ht
  ·split
   ·exact ok_script hk _
   ·exact hk
theorem ok_parser {p:SPage} {Q M R:Nat} (h:okAll p Q M R):okAll (stepParser p).1 (Q+370) M R:=by
 have hm:=okAll_mono h (Nat.le_add_right Q 370)
 unfold stepParser
 split
 ·unfold stepInline
  split
  ·exact ok_run h _ _
  ·exact hm
 ·split
  ·unfold stepBlock
   split
   ·exact hm
   ·split
    ·exact hm
    ·split
     ·exact ok_run h _ _
     ·exact hm
  ·exact ok_take hm
theorem pm_text (b:ByteArray):∀ (l:List ByteArray) (acc:List SAddr),∀ x,x∈(pmGo b l acc).2.1→x.text.size≤60
 | [],acc,x,h=>by cases h
 | w::l,acc,x,h=>by
  rw[pmGo] at h
  split at h
  ·split at h
   ·exact pm_text b l _ x h
   ·cases h
  ·split at h
   ·exact lines_text _ x h
   ·cases h
theorem ok_enter1 {p q:SPage} {Q M R:Nat} (h:okAll q Q M R) (he:q.mods=p.mods) (b:SAddr) (hb:0≤findMod p.mods b):okAll (enter1 p q b) Q M R∧(enter1 p q b).mods=p.mods:=by
 unfold enter1
 split
 ·exact⟨h,he⟩
 ·rename_i hn
  have hn:inL q.ran b=false:=by simpa using hn
  obtain⟨h1,h2,h3,⟨h4,h7,h8,h9⟩,h5,h6⟩:=h
  have hf:=findMod_in p.mods b
  have hd:=nrL_drop q.ran b hn p.mods _ (show(findMod p.mods b).toNat<p.mods.length by omega) (findMod_get hb)
  have h0:szL szAddr []=0:=rfl
  refine⟨⟨h1,okB_lines _ _ _ _ _ h2,h3,⟨h4,h7,?_,h9⟩,okG_add _ _ (lines_log _ (sheetsOf_sz _).2 _ _ _ _ h2 (pm_text _ _ _) fun s hs=>by cases hs) h5,h6⟩,he⟩
  unfold ranP at *
  dsimp only
  rw[he] at h8 ⊢
  rw[szL_app,szL_cons,h0];omega
theorem ok_enterAll {p:SPage} {Q M R:Nat}:∀ (l:List SAddr) (q:SPage),okAll q Q M R→q.mods=p.mods→(∀ b,b∈l→0≤findMod p.mods b)→okAll (enterAll p q l) Q M R
 | [],q,h,_,_=>h
 | b::l,q,h,he,hb=>by
  obtain⟨i1,i2⟩:=ok_enter1 h he b (hb b List.mem_cons_self)
  exact ok_enterAll l _ i1 i2 fun x hx=>hb x (List.mem_cons_of_mem _ hx)
theorem fmtAddr_len (a:SAddr):(formatAddr a).size≤17:=by
 unfold formatAddr
 split
 ·rename_i h
  rw[Bool.and_eq_true] at h
  have h1:=isName_size h.1
  have h2:=isName_size h.2
  rw[ByteArray.size_append,ByteArray.size_append,show ByteArray.size ⟨#[47]⟩=1 from rfl];omega
 ·exact Nat.zero_le _
theorem ok_enter {p:SPage} {Q M R:Nat} (h:okAll p Q M R) (a:SAddr):okAll (enter p a) Q M R:=by
 unfold enter
 split
 ·refine okG_say h ?_
  have:=fmtAddr_len a
  rw[ByteArray.size_append,show ByteArray.size ⟨#[102,97,105,108,32]⟩=5 from rfl];omega
 ·rename_i hf
  exact ok_enterAll _ _ h rfl fun b hb=>reach_find (by simpa using hf) hb
theorem ok_tail {p:SPage} {Q M R:Nat} (h:okAll p Q M R):okAll (stepTail p).1 (Q+370) M R:=by
 have hm:=okAll_mono h (Nat.le_add_right Q 370)
 unfold stepTail
 split
 ·exact hm
 ·split
  ·unfold tailDefer
   split
   ·exact hm
   ·split
    ·exact ok_run h _ _
    ·exact hm
  ·split
   ·unfold tailEnter
    split
    ·exact hm
    ·exact ok_enter hm _
   ·split
    ·exact hm
    ·exact okG_say hm (by decide)
theorem okAll_tail {p:SPage} {Q M R:Nat} (h:okAll p Q M R) (hQ:Q≤900000000000) (hM:M≤50000000000) (hR:R≤20000000000):okTail p:=by
 obtain⟨⟨a1,a2⟩,⟨b1,b2⟩,⟨c1,c2⟩,⟨d1,d2,d3,d4⟩,e1,f1⟩:=h
 have hg:logP p.log≤3000000:=e1
 have hc:szPolicy p.policy+szAddr p.addr+p.tok.rest.size≤9000000:=by(unfold okCm at f1;omega)
 unfold nodeP at b1;unfold openP at b2;unfold slotP at c1;unfold entP at d1;unfold modP at d2;unfold ranP at d3;unfold logP at hg
 have hn:=szL_len szNode p.builder.nodes
 have hb:szBuilder p.builder=szL szNode p.builder.nodes+p.builder.open_.length:=rfl
 have hh:p.addr.host.size≤szAddr p.addr:=by simp only[szAddr];omega
 refine⟨⟨⟨?_,by omega,fun i hi=>?_,by omega,by omega⟩,by omega,fun i hi=>?_⟩,fun i hi=>?_,by omega,fun i hi=>?_⟩
 ·simp only[szPage,szTokenizer];omega
 ·have:=a1 _ (getD_in hi);omega
 ·have:=c2 _ (getD_in hi);omega
 ·have:=d4 _ (getD_in hi);omega
 ·have:=szL_get szAddr hi
  have h3:(p.entries.getD i default).host.size≤szAddr (p.entries.getD i default):=by simp only[szAddr];omega
  omega
def step1 (p:SPage):SPage×Bool:=if(stepParser p).2=true then stepParser p else stepTail p
def adv:Nat→SPage→SPage
 | 0,p=>p
 | n+1,p=>if(step1 p).2=true then adv n (step1 p).1 else p
def advance (p:SPage):SPage:=adv 2000 p
theorem step1_p {p:SPage} (h:(stepParser p).2=true):step1 p=stepParser p:=by unfold step1;rw[if_pos h]
theorem step1_t {p:SPage} (h:(stepParser p).2=false):step1 p=stepTail p:=by unfold step1;rw[if_neg (by rw[h];decide)]
theorem ok_step1 {p:SPage} {Q M R:Nat} (h:okAll p Q M R):okAll (step1 p).1 (Q+370) M R:=by
 unfold step1;split
 ·exact ok_parser h
 ·exact ok_tail h
theorem ok_adv {M R:Nat}:∀ (n:Nat) (p:SPage) (Q:Nat),okAll p Q M R→okAll (adv n p) (Q+370*n) M R
 | 0,p,Q,h=>h
 | n+1,p,Q,h=>by
  rw[adv]
  split
  ·have:=ok_adv n _ _ (ok_step1 h)
   rw[show Q+370+370*n=Q+370*(n+1) by omega] at this
   exact this
  ·exact okAll_mono h (by omega)
theorem ok_advance {p:SPage} {Q M R:Nat} (h:okAll p Q M R):okAll (advance p) (Q+740000) M R:=ok_adv 2000 p Q h
def okAdv (p:SPage):Prop:=∃ Q M R,okAll p Q M R∧Q≤899000000000∧M≤50000000000∧R≤20000000000
def advInv (p q:SPage) (i:Int):Prop:=0≤i∧i≤2000∧adv (2000-i.toNat) q=advance p∧∃ Q M R,okAll q (Q+370*i.toNat) M R∧Q≤899000000000∧M≤50000000000∧R≤20000000000
theorem advInv_0 {p:SPage} (h:okAdv p):advInv p p 0:=by
 obtain⟨Q,M,R,h1,h2⟩:=h
 exact⟨by omega,by omega,rfl,Q,M,R,h1,h2⟩
theorem advInv_tail {p q:SPage} {i:Int} (h:advInv p q i):okTail q:=by
 obtain⟨h1,h2,_,Q,M,R,h3,h4,h5,h6⟩:=h
 exact okAll_tail h3 (by omega) h5 h6
theorem advInv_go {p q:SPage} {i:Int} (h:advInv p q i) (hi:i<2000) (hs:(step1 q).2=true):advInv p (step1 q).1 (i+1):=by
 obtain⟨h1,h2,h0,Q,M,R,h3,h4⟩:=h
 rw[show 2000-i.toNat=(2000-(i+1).toNat)+1 by omega,adv,if_pos hs] at h0
 refine⟨by omega,by omega,h0,Q,M,R,?_,h4⟩
 have:=ok_step1 h3
 rw[show Q+370*i.toNat+370=Q+370*(i+1).toNat by omega] at this
 exact this
theorem advInv_stop {p q:SPage} {i:Int} (h:advInv p q i) (hs:i<2000→(step1 q).2=false):q=advance p:=by
 obtain⟨h1,h2,h0,_⟩:=h
 rcases Nat.eq_zero_or_pos (2000-i.toNat) with hz|hz
 ·rw[hz] at h0;exact h0
 ·obtain⟨n,hn⟩:∃ n,2000-i.toNat=n+1:=⟨2000-i.toNat-1,by omega⟩
  rw[hn,adv,if_neg (by rw[hs (by omega)];decide)] at h0
  exact h0
def fAdvance:Fct:=⟨[.v (.el .page)],[.el .page],fun(x_:SPage×Unit)=>okAdv x_.1,fun(x_:SPage×Unit)=>(advance x_.1,())⟩
abbrev W_spec_Advance_fAdvance_3 (p:SPage):LInv:=⟨[⟨.b,3,true,.el .page⟩,⟨.s,4,true,.el .int⟩,⟨.b,2,true,.el .page⟩],fun(z_:SPage×Int×SPage×Unit) (x_:SPage×Int×SPage×Unit)=>(advInv p x_.1 x_.2.1)∧x_.2.2.1=z_.2.2.1,fun(x_:SPage×Int×SPage×Unit)=>(2000-x_.2.1).toNat⟩
theorem k59_142:fAdvance.ok Tryz.prog 59:=Fct.of (S:=fAdvance) (L:=fun⟨p,_⟩=>fun|3=>some (W_spec_Advance_fAdvance_3 p)|_=>none) (kp:=[1,2,3,4,5,6,10,19,26,1000010,1000019,1000026]) E142ok Tryz.func59 (by kernel_rfl) (by kernel_rfl) (by
 rintro⟨(p:SPage),_⟩ hp
 refine ho (.cl fCopyPage (p,()) fun z2=>lpx (W_spec_Advance_fAdvance_3 p) (z2.1,((0:Int),(default,()))) fun(y2:SPage×Int×SPage×PUnit) bk2=>.br (decide (y2.2.1<2000)) (.cl fStepParser (y2.1,()) fun z3=>.br (!z3.2.1) (.cl fStepTail (y2.1,()) fun z4=>.br (!z4.2.1) (.lf fAdvance (y2.1,())) (.ob (bk2 (z4.1,(w1 y2.2.1,(y2.2.2.1,()))))<|.ok)) (.br (!z3.2.1) (.lf fAdvance (y2.1,())) (.ob (bk2 (z3.1,(w1 y2.2.1,(y2.2.2.1,()))))<|.ok))) (.lf fAdvance (y2.1,()))) ?_
 refine cl_i ?_ fun o1=>(lpx_i ?_ fun(y2:SPage×Int×SPage×PUnit) i2=>br_i (fun h3=>cl_i ?_ fun o4=>(br_i (fun h5=>cl_i ?_ fun o6=>(br_i (fun h7=>lfY ?_) (fun h7=>ob_i ?_ fun o8=>trivial))) (fun h5=>br_i (fun h9=>lfY ?_) (fun h9=>ob_i ?_ fun o10=>trivial)))) (fun h3=>lfY ?_))
 all_goals
  have hq:okAdv p:=hp
  have h0:=(advInv_tail (advInv_0 hq)).1.1.1
  try simp only[std0] at *
  try simp only[W_spec_Advance_fAdvance_3,fAdvance,fCopyPage,fStepParser,fStepTail,std,Nat.reduceAdd,szF,toF,eqF,mkF,heF,fCopyPage,fStepParser,fStepTail] at *
 all_goals first|trivial|omega|skip
 all_goals first|exact advInv_0 hq|exact⟨advInv_0 hq,rfl⟩|(obtain⟨i3,e1⟩:=i2;have ht:=advInv_tail i3)
 all_goals first|exact ht|exact ht.1|exact(tf (by assumption) (by assumption)).elim|skip
 all_goals first|exact advInv_stop i3 (fun h=>absurd h (by omega))|exact advInv_stop i3 (fun _=>by rw[step1_t (by assumption)];assumption)|skip
 all_goals rw[wrapId (by have:=i3.1;omega)]
 all_goals first|(have e:=advInv_go i3 (by assumption) (by rw[step1_t (by assumption)];assumption);rw[step1_t (by assumption)] at e;exact⟨⟨e,e1⟩,by omega⟩)|(have e:=advInv_go i3 (by assumption) (by rw[step1_p (by assumption)];assumption);rw[step1_p (by assumption)] at e;exact⟨⟨e,e1⟩,by omega⟩))
def E143:=E142.add 59 fAdvance
theorem E143ok:EOk Tryz.prog E143:=E142ok.add k59_142
theorem und_le:∀ l:List SSlot,undS l≤l.length
 | []=>Nat.le_refl _
 | s::l=>by have:=und_le l;rw[undS,List.length_cons];split<;>omega
theorem undM_le:∀ l:List SModule,undM l≤l.length
 | []=>Nat.le_refl _
 | s::l=>by have:=undM_le l;rw[undM,List.length_cons];split<;>omega
theorem nrL_le (r:List SAddr):∀ l:List SModule,nrL r l≤szL szModule l
 | []=>Nat.le_refl _
 | s::l=>by have:=nrL_le r l;rw[nrL,szL_cons];split<;>simp only[szModule]<;>omega
theorem ok_init {p:SPage} (h:szPage p≤2000000):okAll p 2000000 1100000000 10000000:=by
 have h1:=szL_len szSlot p.slots
 have h2:=szL_len szModule p.mods
 have h3:=und_le p.slots
 have h4:=undM_le p.mods
 have h5:=nrL_le p.ran p.mods
 have h6:=szL_len szNode p.builder.nodes
 simp only[szPage,szTokenizer,szBuilder] at h
 refine⟨⟨fun t ht=>?_,by omega⟩,⟨?_,?_⟩,⟨?_,fun s hs=>?_⟩,⟨?_,?_,?_,fun m hm=>?_⟩,?_,?_⟩
 ·have:=szL_mem szToken ht;omega
 ·unfold nodeP;omega
 ·unfold openP;omega
 ·unfold slotP;omega
 ·have:=szL_mem szSlot hs;simp only[szSlot] at this;omega
 ·unfold entP;omega
 ·unfold modP;omega
 ·unfold ranP;omega
 ·have:=szL_mem szModule hm;simp only[szModule] at this;omega
 ·unfold okLg logP;omega
 ·unfold okCm;omega
theorem ok_arrive {p:SPage} {Q M R:Nat} {s:ByteArray} (h:okAll p Q M R) (hs:p.tok.rest.size+s.size≤3000000):okAll (arriveText p s) (Q+3000001) M R∧(arriveText p s).tok.rest.size≤p.tok.rest.size+s.size+1:=by
 unfold arriveText
 split
 ·exact⟨okAll_mono h (by omega),by omega⟩
 ·obtain⟨h1,h2,h3,h4,h5,h6⟩:=h
  have hz:=feedAll_sz (p.tok.rest++s)
  rw[ByteArray.size_append] at hz
  refine⟨⟨⟨fun t ht=>?_,?_⟩,h2,h3,h4,h5,?_⟩,?_⟩
  ·rcases List.mem_append.1 ht with q|q
   ·exact h1.1 t q
   ·have:=szL_mem szToken q;omega
  ·dsimp only
   rw[szL_app]
   have:=h1.2;omega
  ·unfold okCm at *;dsimp only;omega
  ·dsimp only;omega
theorem ok_end {p:SPage} {Q M R:Nat} (h:okAll p Q M R) (hs:p.tok.rest.size≤3000010):okAll (endPage p) (Q+3000020) M R∧(endPage p).tok.rest.size≤p.tok.rest.size:=by
 unfold endPage
 split
 ·exact⟨okAll_mono h (by omega),Nat.le_refl _⟩
 ·obtain⟨h1,h2,h3,h4,h5,h6⟩:=h
  have hz:=endText_sz p.tok.rest
  have h0:(default:STokenizer).rest.size=0:=rfl
  refine⟨⟨⟨fun t ht=>?_,?_⟩,h2,h3,h4,h5,?_⟩,?_⟩
  ·rcases List.mem_append.1 ht with q|q
   ·exact h1.1 t q
   ·have:=szL_mem szToken q;omega
  ·dsimp only
   rw[szL_app]
   have:=h1.2;omega
  ·unfold okCm at *;dsimp only;omega
  ·dsimp only;omega
theorem okAll_pg {p:SPage} {Q M R:Nat} (h:okAll p Q M R) (hQ:Q≤900000000000) (hM:M≤50000000000) (hR:R≤20000000000):szPage p≤1000000000000:=(okAll_tail h hQ hM hR).1.1.1
theorem usable_sz (p:SPolicy) (r:SRequest) (x:SResponse):(usable p r x).1.size≤400:=by
 unfold usable
 split
 ·rename_i h
  by_cases hi:isResponse x=true
  ·unfold isResponse at hi
   simp only[Bool.and_eq_true,decide_eq_true_eq] at hi
   exact hi.2.2.1
  ·exfalso
   unfold checkResponse at h
   split at h
   ·cases h
   ·rw[if_pos (.inl (by simpa using hi))] at h;cases h
 ·exact Nat.zero_le _
theorem mod_mid {α:Type} (f:α→α) (m:α) (B:List α):∀ A:List α,(A++m::B).modify A.length f=A++f m::B
 | []=>rfl
 | a::A=>congrArg (List.cons a) (mod_mid f m B A)
theorem modify_td {α:Type} [Inhabited α] (f:α→α) {l:List α} {i:Nat} (h:i<l.length):l.modify i f=l.take i++f (l.getD i default)::l.drop (i+1):=by
 have e:(l.take i).length=i:=by rw[List.length_take];omega
 have:=mod_mid f (l.getD i default) (l.drop (i+1)) (l.take i)
 rw[e,←drop_cons h,List.take_append_drop] at this
 exact this
theorem modify_two {α:Type} (f g:α→α):∀ (l:List α) (i:Nat),(l.modify i f).modify i g=l.modify i fun z=>g (f z)
 | [],0=>rfl
 | [],_+1=>rfl
 | _::_,0=>rfl
 | a::l,i+1=>congrArg (List.cons a) (modify_two f g l i)
theorem slotReq_at {p:SPage} {k:Int} (h0:0≤k) (h:k<p.slots.length):slotRequest p k=reqOf p (p.slots.getD k.toNat default):=by unfold slotRequest;rw[if_pos ⟨h0,h⟩];rfl
theorem fillS3 {p:SPage} {k:Int} {x:SResponse} (h0:0≤k) (h:k<p.slots.length) (hd:(p.slots.getD k.toNat default).done=false):(((p.slots.modify k.toNat fun z=>(⟨z.mode,z.to,z.digest,z.node,true,z.code,z.body⟩:SSlot)).modify k.toNat fun z=>(⟨z.mode,z.to,z.digest,z.node,z.done,checkResponse p.policy (slotRequest p k) x,z.body⟩:SSlot)).modify k.toNat fun z=>(⟨z.mode,z.to,z.digest,z.node,z.done,z.code,(usable p.policy (slotRequest p k) x).1⟩:SSlot))=p.slots.modify k.toNat (fillS p x):=by
 have hi:k.toNat<p.slots.length:=by omega
 rw[modify_two,modify_two,modify_td _ hi,modify_td _ hi,slotReq_at h0 h]
 unfold fillS
 rw[if_neg (by rw[hd];decide)]
theorem fillS_done {p:SPage} {k:Int} {x:SResponse} (h0:0≤k) (h:k<p.slots.length) (hd:(p.slots.getD k.toNat default).done=true):fillSlot p k x=p:=by
 have hi:k.toNat<p.slots.length:=by omega
 have e:p.slots.modify k.toNat (fillS p x)=p.slots:=by
  rw[modify_td _ hi]
  unfold fillS
  rw[if_pos hd,←drop_cons hi,List.take_append_drop]
 unfold fillSlot
 rw[if_pos ⟨h0,h⟩,e]
theorem k107_143:fFillSlot.ok Tryz.prog 107:=Fct.o [1,3,5,6,7,8,25,1000025] E143ok Tryz.func107 (by
 rintro⟨(p:SPage),(k:Int),(x:SResponse),_⟩ hp
 refine ho (.cl fCopyPage (p,()) fun z2=>.cl fInRange (k,(0:Int),wr ((↑p.slots.length:Int)-(1:Int)),()) fun z3=>.br (!z3.1) (.lf fFillSlot (z2.1,())) (.ob (inB k p.slots.length)<|.br ((p.slots.getD (Int.toNat k) default).done) (.lf fFillSlot (z2.1,())) (.cl fSlotRequest (p,k,()) fun z4=>.ob (inB k z2.1.slots.length)<|.ob (Int.toNat k<z2.1.slots.length)<|.lt (List SSlot) (z2.1.slots.modify (Int.toNat k) fun z=>(⟨z.mode,z.to,z.digest,z.node,true,z.code,z.body⟩:SSlot)) fun z5=>.cl fCheckResponse (p.policy,z4.1,x,()) fun(z6:Int×PUnit)=>.ob (inB k z5.length)<|.ob (Int.toNat k<z5.length)<|.lt (List SSlot) (z5.modify (Int.toNat k) fun z=>(⟨z.mode,z.to,z.digest,z.node,z.done,z6.1,z.body⟩:SSlot)) fun z7=>.cl fUsableBody (p.policy,z4.1,x,()) fun z8=>.ob (inB k z7.length)<|.ob (Int.toNat k<z7.length)<|.lt (List SSlot) (z7.modify (Int.toNat k) fun z=>(⟨z.mode,z.to,z.digest,z.node,z.done,z.code,z8.1⟩:SSlot)) fun z9=>.lf fFillSlot (⟨z2.1.addr,z2.1.policy,z2.1.tok,z2.1.queue,z2.1.ended,z2.1.builder,z9,z2.1.mods,z2.1.entries,z2.1.block,z2.1.inline,z2.1.deferred,z2.1.entered,z2.1.ran,z2.1.log,z2.1.loaded⟩,())))) ?_
 refine cl_i ?_ fun o1=>(cl_i trivial fun _=>(br_i (fun h2=>lfY ?_) (fun h2=>ob_i ?_ fun o3=>br_i (fun h4=>lfY ?_) (fun h4=>cl_i ?_ fun o5=>(ob_i ?_ fun o6=>ob_i ?_ fun o7=>lt_i (cl_i ?_ fun o8=>(ob_i ?_ fun o9=>ob_i ?_ fun o10=>lt_i (cl_i ?_ fun o11=>(ob_i ?_ fun o12=>ob_i ?_ fun o13=>lt_i (lfY ?_))))))))))
 all_goals obtain⟨q1,q2,q3,q4,q5,q6,q7⟩:=(show szPage p≤1000000000000∧p.addr.host.size≤4000000000∧(∀ i,i<p.slots.length→szSlot (p.slots.getD i default)≤50000000000)∧-9223372036854775808≤k∧k≤9223372036854775807∧x.policy.size≤200000000∧x.body.size≤1000000000 from hp)
 all_goals
  have hl:p.slots.length≤1000000000000:=by have:=szL_len szSlot p.slots;simp only[szPage] at q1;omega
  have hpo:szPolicy p.policy≤1000000000000:=by simp only[szPage] at q1;omega
  try simp only[std0] at *
  try simp only[fCheckResponse,fCopyPage,fFillSlot,fInRange,fSlotRequest,fUsableBody,std,Nat.reduceAdd,szF,toF,eqF,mkF,heF,fCopyPage,fInRange,inRange,fSlotRequest,fCheckResponse,fUsableBody] at *
  try rw[wrapId (by omega)] at h2
  try simp only[Bool.and_eq_true,Bool.and_eq_false_iff,decide_eq_true_eq,decide_eq_false_iff_not] at h2
 all_goals first|trivial|omega|(unfold fillSlot;rw[if_neg (by omega)])|exact(fillS_done (by omega) (by omega) (by assumption)).symm|(simp only[List.length_modify];omega)|skip
 all_goals first|(rw[slotReq_at (by omega) (by omega)];have:=q3 k.toNat (by omega);simp only[szSlot] at this;exact⟨by omega,by simp only[szRequest,reqOf];simp only[szAddr] at *;omega,q6,q7⟩)|(unfold fillSlot;rw[if_pos (by omega),←fillS3 (by omega) (by omega) (by assumption)]))
def E144:=E143.add 107 fFillSlot
theorem E144ok:EOk Tryz.prog E144:=E143ok.add k107_143
def fillF (p:SPage) (a:SAddr) (x:SResponse) (s:SSlot):SSlot:=if s.to=a then fillS p x s else s
def fillTo (p:SPage) (a:SAddr) (x:SResponse) (i:Nat):SPage:={ p with slots:=(p.slots.take i).map (fillF p a x)++p.slots.drop i }
def fillAll (p:SPage) (a:SAddr) (x:SResponse):SPage:={ p with slots:=p.slots.map (fillF p a x)}
def und1 (s:SSlot):Nat:=if s.done=true then 0 else 1
theorem fillF_sz (p:SPage) (a:SAddr) (x:SResponse) (s:SSlot):szSlot (fillF p a x s)+400*und1 (fillF p a x s)≤szSlot s+400*und1 s∧(fillF p a x s).body.size≤s.body.size+400∧(s.body.size≤2000000→(fillF p a x s).body.size≤2000000):=by
 unfold fillF
 split
 ·unfold fillS
  split
  ·exact⟨Nat.le_refl _,by omega,id⟩
  ·rename_i h
   have hu:=usable_sz p.policy (reqOf p s) x
   refine⟨?_,by dsimp only;omega,fun _=>by dsimp only;omega⟩
   unfold und1 szSlot
   dsimp only
   rw[if_pos rfl,if_neg h];omega
 ·exact⟨Nat.le_refl _,by omega,id⟩
theorem fillL_sz (p:SPage) (a:SAddr) (x:SResponse):∀ l:List SSlot,szL szSlot (l.map (fillF p a x))+400*undS (l.map (fillF p a x))≤szL szSlot l+400*undS l
 | []=>Nat.le_refl _
 | s::l=>by
  have h:=fillL_sz p a x l
  have h1:=(fillF_sz p a x s).1
  rw[List.map_cons,szL_cons,szL_cons,undS,undS]
  unfold und1 at h1
  omega
theorem undS_td (l:List SSlot) (i:Nat):undS (l.take i)+undS (l.drop i)=undS l:=by rw[←undS_app,List.take_append_drop]
theorem ok_fillTo {p:SPage} {Q M R:Nat} (h:okAll p Q M R) (a:SAddr) (x:SResponse) (i:Nat):okAll (fillTo p a x i) Q M R:=by
 obtain⟨h1,h2,⟨h3,h4⟩,h5,h6,h7⟩:=h
 refine⟨h1,h2,⟨?_,fun s hs=>?_⟩,h5,h6,h7⟩
 ·unfold slotP at *
  have e1:=szL_td szSlot p.slots i
  have e2:=undS_td p.slots i
  have e3:=fillL_sz p a x (p.slots.take i)
  have e4:((p.slots.take i).map (fillF p a x)++p.slots.drop i).length=p.slots.length:=by rw[List.length_append,List.length_map,←List.length_append,List.take_append_drop]
  show szL szSlot ((p.slots.take i).map (fillF p a x)++p.slots.drop i)+400*undS ((p.slots.take i).map (fillF p a x)++p.slots.drop i)+500000800*(20-((p.slots.take i).map (fillF p a x)++p.slots.drop i).length)≤_
  rw[szL_app,undS_app,e4];omega
 ·rcases List.mem_append.1 hs with q|q
  ·obtain⟨s0,q0,rfl⟩:=List.mem_map.1 q
   exact(fillF_sz p a x s0).2.2 (h4 s0 (List.mem_of_mem_take q0))
  ·exact h4 s (List.mem_of_mem_drop q)
theorem fillTo_0 (p:SPage) (a:SAddr) (x:SResponse):fillTo p a x 0=p:=rfl
theorem fillTo_end {p:SPage} {a:SAddr} {x:SResponse} {i:Nat} (h:p.slots.length≤i):fillTo p a x i=fillAll p a x:=by
 unfold fillTo fillAll
 rw[List.take_of_length_le h,List.drop_of_length_le h,List.append_nil]
theorem fillTo_len (p:SPage) (a:SAddr) (x:SResponse) (i:Nat):(fillTo p a x i).slots.length=p.slots.length:=by
 show((p.slots.take i).map (fillF p a x)++p.slots.drop i).length=_
 rw[List.length_append,List.length_map,←List.length_append,List.take_append_drop]
theorem fillTo_step {p:SPage} {a:SAddr} {x:SResponse} {i:Nat} (h:i<p.slots.length):fillTo p a x (i+1)={ p with slots:=(p.slots.take i).map (fillF p a x)++fillF p a x (p.slots.getD i default)::p.slots.drop (i+1)}:=by
 unfold fillTo
 rw[take_succ h,List.map_append,List.append_assoc]
 rfl
theorem fillTo_skip {p:SPage} {a:SAddr} {x:SResponse} {i:Nat} (h:i<p.slots.length) (hs:¬ (p.slots.getD i default).to=a∨(p.slots.getD i default).done=true):fillTo p a x (i+1)=fillTo p a x i:=by
 have e:fillF p a x (p.slots.getD i default)=p.slots.getD i default:=by
  unfold fillF
  rcases hs with hs|hs
  ·rw[if_neg hs]
  ·split
   ·unfold fillS;rw[if_pos hs]
   ·rfl
 rw[fillTo_step h,e,←drop_cons h]
 rfl
theorem fillTo_go {p:SPage} {a:SAddr} {x:SResponse} {i:Nat} (h:i<p.slots.length) (hs:(p.slots.getD i default).to=a):fillSlot (fillTo p a x i) (i:Int) x=fillTo p a x (i+1):=by
 unfold fillSlot
 rw[fillTo_len,if_pos (by omega),fillTo_step h]
 have e:fillF p a x (p.slots.getD i default)=fillS p x (p.slots.getD i default):=by unfold fillF;rw[if_pos hs]
 have el:((p.slots.take i).map (fillF p a x)).length=i:=by rw[List.length_map,List.length_take];omega
 show({ p with slots:=((p.slots.take i).map (fillF p a x)++p.slots.drop i).modify (i:Int).toNat (fillS p x)}:SPage)=_
 have:=mod_mid (fillS p x) (p.slots.getD i default) (p.slots.drop (i+1)) ((p.slots.take i).map (fillF p a x))
 rw[el] at this
 rw[drop_cons h,Int.toNat_natCast,this,e]
theorem okAdv_pg {p:SPage} (h:okAdv p):szPage p≤1000000000000∧szPolicy p.policy+szAddr p.addr≤4000000∧p.slots.length≤100000000000∧(∀ i,i<p.slots.length→szSlot (p.slots.getD i default)≤50000000000)∧p.mods.length≤60000000000∧okMb p:=by
 obtain⟨Q,M,R,h1,h2,h3,h4⟩:=h
 have hz:=okAll_pg h1 (by omega) h3 h4
 have hs:szL szSlot p.slots≤13000000000:=by have:=h1.2.2.1.1;unfold slotP at this;omega
 have hm:szL szModule p.mods≤50000000000:=by have:=h1.2.2.2.1.2.1;unfold modP at this;omega
 have l1:=szL_len szSlot p.slots
 have l2:=szL_len szModule p.mods
 refine⟨hz,h1.2.2.2.2.2.1,by omega,fun i hi=>?_,by omega,fun i hi=>?_⟩
 ·have:=szL_get szSlot hi;omega
 ·have:=h1.2.2.2.1.2.2.2 _ (getD_in hi);omega
theorem okAdv_fill {p:SPage} (h:okAdv p) (a:SAddr) (x:SResponse) (i:Nat):okAdv (fillTo p a x i):=by
 obtain⟨Q,M,R,h1,h2⟩:=h
 exact⟨Q,M,R,ok_fillTo h1 a x i,h2⟩
theorem fillTo_goI {p:SPage} {a:SAddr} {x:SResponse} {k:Int} (h0:0≤k) (h:k<p.slots.length) (hs:(p.slots.getD k.toNat default).to=a):fillSlot (fillTo p a x k.toNat) k x=fillTo p a x (k.toNat+1):=by
 obtain⟨i,rfl⟩:∃ i:Nat,k=i:=⟨k.toNat,by omega⟩
 exact fillTo_go (by omega) hs
def fFillAll:Fct:=⟨[.v (.el .page),.v (.el .addr),.v (.el .response)],[.el .page],fun(x_:SPage×SAddr×SResponse×Unit)=>okAdv x_.1∧x_.2.2.1.policy.size≤200000000∧x_.2.2.1.body.size≤1000000000,fun(x_:SPage×SAddr×SResponse×Unit)=>(fillAll x_.1 x_.2.1 x_.2.2.1,())⟩
abbrev W_spec_FillAll_fFillAll_3 (p:SPage) (a:SAddr) (x:SResponse):LInv:=⟨[⟨.b,7,true,.el .page⟩,⟨.s,8,true,.el .int⟩,⟨.b,3,false,.el .page⟩,⟨.b,4,true,.el .addr⟩,⟨.b,5,true,.el .response⟩,⟨.b,6,true,.el .page⟩],fun(z_:SPage×Int×SPage×SAddr×SResponse×SPage×Unit) (x_:SPage×Int×SPage×SAddr×SResponse×SPage×Unit)=>((((0≤x_.2.1∧x_.2.1≤p.slots.length∧x_.1=fillTo p a x x_.2.1.toNat)∧x_.2.2.1=z_.2.2.1)∧x_.2.2.2.1=z_.2.2.2.1)∧x_.2.2.2.2.1=z_.2.2.2.2.1)∧x_.2.2.2.2.2.1=z_.2.2.2.2.2.1,fun(x_:SPage×Int×SPage×SAddr×SResponse×SPage×Unit)=>p.slots.length-x_.2.1.toNat⟩
theorem k79_144:fFillAll.ok Tryz.prog 79:=Fct.of (S:=fFillAll) (L:=fun⟨p,a,x,_⟩=>fun|3=>some (W_spec_FillAll_fFillAll_3 p a x)|_=>none) (kp:=[3,4,5,6,7,8,15,34,1000015,1000034]) E144ok Tryz.func79 (by kernel_rfl) (by kernel_rfl) (by
 rintro⟨(p:SPage),(a:SAddr),(x:SResponse),_⟩ hp
 refine ho (.cl fCopyPage (p,()) fun z2=>lpx (W_spec_FillAll_fFillAll_3 p a x) (z2.1,((0:Int),(p,(a,(x,(default,())))))) fun(y2:SPage×Int×SPage×SAddr×SResponse×SPage×PUnit) bk2=>.br (decide (y2.2.1<(↑y2.2.2.1.slots.length:Int))) (.ob (inB y2.2.1 y2.2.2.1.slots.length)<|.br (!(y2.2.2.1.slots.getD y2.2.1.toNat default).done) (.ob (inB y2.2.1 y2.2.2.1.slots.length)<|.br ((y2.2.2.1.slots.getD y2.2.1.toNat default).to.host==y2.2.2.2.1.host&&((y2.2.2.1.slots.getD y2.2.1.toNat default).to.path==y2.2.2.2.1.path&&true)) (.cl fFillSlot (y2.1,y2.2.1,y2.2.2.2.2.1,()) fun z3=>.ob (bk2 (z3.1,(w1 y2.2.1,(y2.2.2.1,(y2.2.2.2.1,(y2.2.2.2.2.1,(y2.2.2.2.2.2.1,())))))))<|.ok) (.ob (bk2 (y2.1,(w1 y2.2.1,(y2.2.2.1,(y2.2.2.2.1,(y2.2.2.2.2.1,(y2.2.2.2.2.2.1,())))))))<|.ok)) (.ob (bk2 (y2.1,(w1 y2.2.1,(y2.2.2.1,(y2.2.2.2.1,(y2.2.2.2.2.1,(y2.2.2.2.2.2.1,())))))))<|.ok)) (.lf fFillAll (y2.1,()))) ?_
 refine cl_i ?_ fun o1=>(lpx_i ?_ fun(y2:SPage×Int×SPage×SAddr×SResponse×SPage×PUnit) i2=>br_i (fun h3=>ob_i ?_ fun o4=>br_i (fun h5=>ob_i ?_ fun o6=>br_i (fun h7=>cl_i ?_ fun o8=>(ob_i ?_ fun o9=>trivial)) (fun h7=>ob_i ?_ fun o10=>trivial)) (fun h5=>ob_i ?_ fun o11=>trivial)) (fun h3=>lfY ?_))
 all_goals obtain⟨q1,q2,q3⟩:=(show okAdv p∧x.policy.size≤200000000∧x.body.size≤1000000000 from hp)
 all_goals
  have hok:=okAdv_pg q1
  try simp only[std0] at *
  try simp only[W_spec_FillAll_fFillAll_3,fCopyPage,fFillAll,fFillSlot,std,Nat.reduceAdd,szF,toF,eqF,mkF,heF,fCopyPage,fFillSlot] at *
 all_goals first|trivial|omega|exact⟨by omega,by omega,(fillTo_0 p a x).symm⟩|skip
 all_goals (obtain⟨⟨⟨⟨⟨a1,a2,a3⟩,e1⟩,e2⟩,e3⟩,e4⟩:=i2;simp only[a3,e1,e2,e3,beqAddr,decide_eq_true_eq,decide_eq_false_iff_not] at *)
 all_goals first|trivial|omega|(rw[fillTo_end (by omega)])|skip
 all_goals
  have hk:=okAdv_pg (okAdv_fill q1 a x y2.2.1.toNat)
  have hh:(fillTo p a x y2.2.1.toNat).addr.host.size≤4000000:=by have:=hk.2.1;simp only[szAddr] at this;omega
 all_goals first|exact⟨hk.1,by omega,hk.2.2.2.1,by omega,by omega,q2,q3⟩|skip
 all_goals rw[wrapId (by omega),show(y2.2.1+1).toNat=y2.2.1.toNat+1 by omega]
 all_goals first|(rw[fillTo_goI a1 (by omega) (by assumption)];exact⟨⟨⟨⟨⟨⟨by omega,by omega,rfl⟩,by trivial⟩,by trivial⟩,by trivial⟩,e4⟩,by omega⟩)|(rw[fillTo_skip (by omega) (by first|exact .inl (by assumption)|exact .inr (by assumption))];exact⟨⟨⟨⟨⟨⟨by omega,by omega,rfl⟩,by trivial⟩,by trivial⟩,by trivial⟩,e4⟩,by omega⟩)|skip)
def E145:=E144.add 79 fFillAll
theorem E145ok:EOk Tryz.prog E145:=E144ok.add k79_144
def fillM (p:SPage) (x:SResponse) (m:SModule):SModule:={ m with done:=true,code:=checkResponse p.policy ⟨5,m.to,p.addr.host,⟨#[]⟩⟩ x,body:=(usable p.policy ⟨5,m.to,p.addr.host,⟨#[]⟩⟩ x).1 }
def fillM0 (p:SPage) (a:SAddr) (x:SResponse):SPage:={ p with mods:=p.mods.modify (findMod p.mods a).toNat (fillM p x)}
def fillModule (p:SPage) (a:SAddr) (x:SResponse):SPage:=if findMod p.mods a<0∨(p.mods.getD (findMod p.mods a).toNat default).done=true then p else(imports (fillM0 p a x) a).1.foldl askModule (fillM0 p a x)
theorem ok_fillM0 {p:SPage} {Q M R:Nat} (h:okAll p Q M R) (a:SAddr) (x:SResponse) (h0:0≤findMod p.mods a) (hd:(p.mods.getD (findMod p.mods a).toNat default).done=false):okAll (fillM0 p a x) Q M R:=by
 have hf:=findMod_in p.mods a
 have hi:(findMod p.mods a).toNat<p.mods.length:=by omega
 obtain⟨h1,h2,h3,⟨h4,h5,h6,h7⟩,h8⟩:=h
 have hu:=usable_sz p.policy ⟨5,(p.mods.getD (findMod p.mods a).toNat default).to,p.addr.host,⟨#[]⟩⟩ x
 have e:=modify_td (fillM p x) hi
 have t1:=szL_td szModule p.mods (findMod p.mods a).toNat
 have t2:=undM_td p.mods (findMod p.mods a).toNat
 have t3:=nrL_td p.ran p.mods (findMod p.mods a).toNat
 rw[drop_cons hi] at t1 t2 t3
 rw[szL_cons] at t1
 rw[undM,hd,if_neg (by decide)] at t2
 rw[nrL] at t3
 refine⟨h1,h2,h3,⟨h4,?_,?_,fun m hm=>?_⟩,h8⟩
 ·unfold modP at *
  show szL szModule (p.mods.modify (findMod p.mods a).toNat (fillM p x))+500*undM (p.mods.modify (findMod p.mods a).toNat (fillM p x))+600*(20-p.entries.length)≤M
  rw[e,szL_app,szL_cons,undM_app,undM]
  have e1:szModule (fillM p x (p.mods.getD (findMod p.mods a).toNat default))≤szModule (p.mods.getD (findMod p.mods a).toNat default)+400:=by
   unfold szModule fillM;dsimp only;omega
  have e2:(fillM p x (p.mods.getD (findMod p.mods a).toNat default)).done=true:=rfl
  rw[if_pos e2];omega
 ·unfold ranP at *
  show szL szAddr p.ran+nrL p.ran (p.mods.modify (findMod p.mods a).toNat (fillM p x))+100*(20-p.entries.length)≤R
  rw[e,nrL_app,nrL]
  have e3:(fillM p x (p.mods.getD (findMod p.mods a).toNat default)).to=(p.mods.getD (findMod p.mods a).toNat default).to:=rfl
  rw[e3];omega
 ·have hm:m∈p.mods.modify (findMod p.mods a).toNat (fillM p x):=hm
  rw[e] at hm
  rcases List.mem_append.1 hm with q|q
  ·exact h7 m (List.mem_of_mem_take q)
  ·rcases List.mem_cons.1 q with q|q
   ·rw[q];exact Nat.le_trans hu (by decide)
   ·exact h7 m (List.mem_of_mem_drop q)
theorem ok_ask {p:SPage} {Q M R:Nat} (h:okAll p Q M R) {b:SAddr} (hb:b.host.size≤8∧b.path.size≤8):okAll (askModule p b) Q (M+600) (R+20):=by
 obtain⟨h1,h2,h3,⟨h4,h5,h6,h7⟩,h8⟩:=h
 obtain⟨a1,a2,a3,a4,a5⟩:=ask_sz p b
 have hs:szAddr b≤16:=by unfold szAddr;omega
 rw[a5]
 refine⟨h1,h2,h3,⟨h4,?_,?_,fun m hm=>?_⟩,h8⟩
 ·unfold modP at *;dsimp only;omega
 ·unfold ranP at *;dsimp only;omega
 ·rcases a4 m hm with q|q
  ·exact h7 m q
  ·omega
theorem ok_asks {Q:Nat}:∀ (l:List SAddr) (p:SPage) (M R:Nat),okAll p Q M R→(∀ b,b∈l→b.host.size≤8∧b.path.size≤8)→okAll (l.foldl askModule p) Q (M+600*l.length) (R+20*l.length)
 | [],p,M,R,h,_=>h
 | b::l,p,M,R,h,hb=>by
  have:=ok_asks l (askModule p b) (M+600) (R+20) (ok_ask h (hb b List.mem_cons_self)) fun c hc=>hb c (List.mem_cons_of_mem _ hc)
  rw[List.foldl_cons,List.length_cons]
  rw[show M+600*(l.length+1)=M+600+600*l.length by omega,show R+20*(l.length+1)=R+20+20*l.length by omega]
  exact this
theorem fillM0_find (p:SPage) (a:SAddr) (x:SResponse) (h0:0≤findMod p.mods a):findMod (fillM0 p a x).mods a=findMod p.mods a∧(fillM0 p a x).mods.getD (findMod p.mods a).toNat default=fillM p x (p.mods.getD (findMod p.mods a).toNat default):=by
 have hf:=findMod_in p.mods a
 have hi:(findMod p.mods a).toNat<p.mods.length:=by omega
 have gen:∀ (l:List SModule) (k:Int) (i:Nat) (f:SModule→SModule),(∀ m,(f m).to=m.to)→fidx (fun m:SModule=>decide (m.to=a)) (l.modify i f) k=fidx (fun m:SModule=>decide (m.to=a)) l k:=by
  intro l
  induction l with
  | nil=>intro k i f hf;cases i<;>rfl
  | cons m l ih=>
   intro k i f hf
   cases i with
   | zero=>
    show fidx _ (f m::l) k=_
    rw[fidx,fidx,hf m]
   | succ i=>
    show fidx _ (m::l.modify i f) k=_
    rw[fidx,fidx,ih (k+1) i f hf]
 refine⟨gen p.mods 0 _ _ fun _=>rfl,?_⟩
 show(p.mods.modify (findMod p.mods a).toNat (fillM p x)).getD (findMod p.mods a).toNat default=_
 rw[modify_td _ hi]
 have e:(p.mods.take (findMod p.mods a).toNat).length=(findMod p.mods a).toNat:=by rw[List.length_take];omega
 rw[List.getD_eq_getElem?_getD,List.getElem?_append_right (by omega),e,Nat.sub_self]
 rfl
theorem fillImp {p:SPage} {a:SAddr} {x:SResponse} (h0:0≤findMod p.mods a):(∀ b,b∈(imports (fillM0 p a x) a).1→b.host.size≤8∧b.path.size≤8)∧(imports (fillM0 p a x) a).1.length≤400:=by
 obtain⟨h1,h2⟩:=imports_sz (fillM0 p a x) a
 refine⟨h1,?_⟩
 obtain⟨f1,f2⟩:=fillM0_find p a x h0
 rw[f1,f2] at h2
 have hu:=usable_sz p.policy ⟨5,(p.mods.getD (findMod p.mods a).toNat default).to,p.addr.host,⟨#[]⟩⟩ x
 rcases h2 with h2|⟨_,h2⟩
 ·rw[h2];exact Nat.zero_le _
 ·exact Nat.le_trans h2 hu
theorem ok_fillModule {p:SPage} {Q M R:Nat} (h:okAll p Q M R) (a:SAddr) (x:SResponse):okAll (fillModule p a x) Q (M+240000) (R+8000):=by
 have mono:∀ {q:SPage} {M' R':Nat},okAll q Q M' R'→M'≤M+240000→R'≤R+8000→okAll q Q (M+240000) (R+8000):=fun h hM hR=>by
  obtain⟨h1,h2,h3,⟨h4,h5,h6,h7⟩,h8⟩:=h
  exact⟨h1,h2,h3,⟨h4,by omega,by omega,h7⟩,h8⟩
 unfold fillModule
 split
 ·exact mono h (by omega) (by omega)
 ·rename_i hc
  have h0:0≤findMod p.mods a:=by omega
  have hd:(p.mods.getD (findMod p.mods a).toNat default).done=false:=by
   cases hq:(p.mods.getD (findMod p.mods a).toNat default).done with
   | false=>rfl
   | true=>exact absurd (.inr hq) hc
  obtain⟨i1,i2⟩:=fillImp (x:=x) h0
  exact mono (ok_asks _ _ M R (ok_fillM0 h a x h0 hd) i1) (by omega) (by omega)
def fmInv (p:SPage) (a:SAddr) (x:SResponse) (q:SPage) (i:Int):Prop:=0≤i∧i≤(imports (fillM0 p a x) a).1.length∧((imports (fillM0 p a x) a).1.drop i.toNat).foldl askModule q=(imports (fillM0 p a x) a).1.foldl askModule (fillM0 p a x)∧∃ Q M R,okAll q Q (M+600*i.toNat) (R+20*i.toNat)∧Q≤899000000000∧M≤49000000000∧R≤19000000000
def okFM (p:SPage):Prop:=∃ Q M R,okAll p Q M R∧Q≤899000000000∧M≤49000000000∧R≤19000000000
theorem okFM_adv {p:SPage} (h:okFM p):okAdv p:=by
 obtain⟨Q,M,R,h1,h2,h3,h4⟩:=h
 exact⟨Q,M,R,h1,h2,by omega,by omega⟩
theorem fmInv_adv {p q:SPage} {a:SAddr} {x:SResponse} {i:Int} (h:fmInv p a x q i) (hi:(imports (fillM0 p a x) a).1.length≤400):okAdv q:=by
 obtain⟨h1,h2,_,Q,M,R,h3,h4,h5,h6⟩:=h
 exact⟨Q,_,_,h3,h4,by omega,by omega⟩
theorem fmInv_0 {p:SPage} {a:SAddr} {x:SResponse} (h:okFM p) (h0:0≤findMod p.mods a) (hd:(p.mods.getD (findMod p.mods a).toNat default).done=false):fmInv p a x (fillM0 p a x) 0:=by
 obtain⟨Q,M,R,h1,h2⟩:=h
 exact⟨by omega,by omega,rfl,Q,M,R,ok_fillM0 h1 a x h0 hd,h2⟩
theorem fmInv_go {p q:SPage} {a:SAddr} {x:SResponse} {i:Int} (h:fmInv p a x q i) (h0:0≤findMod p.mods a) (hi:i<(imports (fillM0 p a x) a).1.length):fmInv p a x (askModule q ((imports (fillM0 p a x) a).1.getD i.toNat default)) (i+1):=by
 obtain⟨h1,h2,h3,Q,M,R,h4,h5⟩:=h
 have hb:=(fillImp (x:=x) h0).1 _ (getD_in (show i.toNat<(imports (fillM0 p a x) a).1.length by omega))
 rw[drop_cons (show i.toNat<(imports (fillM0 p a x) a).1.length by omega),List.foldl_cons] at h3
 refine⟨by omega,by omega,by rw[show(i+1).toNat=i.toNat+1 by omega];exact h3,Q,M,R,?_,h5⟩
 have:=ok_ask h4 hb
 rw[show(i+1).toNat=i.toNat+1 by omega,show M+600*(i.toNat+1)=M+600*i.toNat+600 by omega,show R+20*(i.toNat+1)=R+20*i.toNat+20 by omega]
 exact this
theorem fmInv_end {p q:SPage} {a:SAddr} {x:SResponse} {i:Int} (h:fmInv p a x q i) (h0:0≤findMod p.mods a) (hd:(p.mods.getD (findMod p.mods a).toNat default).done=false) (hi:(imports (fillM0 p a x) a).1.length≤i):q=fillModule p a x:=by
 have e:=h.2.2.1
 rw[List.drop_of_length_le (by omega)] at e
 unfold fillModule
 rw[if_neg (by rintro(q|q);exact absurd q (by omega);rw[hd] at q;cases q)]
 exact e
theorem modReq_at {p:SPage} {k:Int} (h0:0≤k) (h:k<p.mods.length):modRequest p k=⟨5,(p.mods.getD k.toNat default).to,p.addr.host,⟨#[]⟩⟩:=by unfold modRequest;rw[if_pos ⟨h0,h⟩]
theorem fill3 {p:SPage} {a:SAddr} {x:SResponse} (h0:0≤findMod p.mods a):(((p.mods.modify (findMod p.mods a).toNat fun z=>(⟨z.to,true,z.code,z.body⟩:SModule)).modify (findMod p.mods a).toNat fun z=>(⟨z.to,z.done,checkResponse p.policy (modRequest p (findMod p.mods a)) x,z.body⟩:SModule)).modify (findMod p.mods a).toNat fun z=>(⟨z.to,z.done,z.code,(usable p.policy (modRequest p (findMod p.mods a)) x).1⟩:SModule))=(fillM0 p a x).mods:=by
 have hf:=findMod_in p.mods a
 have hi:(findMod p.mods a).toNat<p.mods.length:=by omega
 rw[modify_two,modify_two]
 show _=p.mods.modify (findMod p.mods a).toNat (fillM p x)
 rw[modify_td _ hi,modify_td _ hi,modReq_at h0 hf.1]
 rfl
theorem fmp (p:SPage) (a:SAddr) (x:SResponse):(⟨p.addr,p.policy,p.tok,p.queue,p.ended,p.builder,p.slots,(fillM0 p a x).mods,p.entries,p.block,p.inline,p.deferred,p.entered,p.ran,p.log,p.loaded⟩:SPage)=fillM0 p a x:=rfl
theorem fmLen (p:SPage) (a:SAddr) (x:SResponse):(fillM0 p a x).mods.length=p.mods.length:=List.length_modify ..
theorem okAdv_mod {p:SPage} (h:okAdv p) {k:Int} (h0:0≤k) (hk:k<p.mods.length):szRequest (modRequest p k)≤60000000000:=by
 obtain⟨Q,M,R,h1,h2,h3,h4⟩:=h
 have hm:szL szModule p.mods≤50000000000:=by have:=h1.2.2.2.1.2.1;unfold modP at this;omega
 have:=szL_get szModule (l:=p.mods) (i:=k.toNat) (by omega)
 have ha:=h1.2.2.2.2.2.1
 have hz:ByteArray.size ⟨#[]⟩=0:=rfl
 rw[modReq_at h0 hk]
 simp only[szModule,szRequest,szAddr,hz] at *;omega
def fFillModule:Fct:=⟨[.v (.el .page),.v (.el .addr),.v (.el .response)],[.el .page],fun(x_:SPage×SAddr×SResponse×Unit)=>okFM x_.1∧szAddr x_.2.1≤4000000000∧x_.2.2.1.policy.size≤200000000∧x_.2.2.1.body.size≤1000000000,fun(x_:SPage×SAddr×SResponse×Unit)=>(fillModule x_.1 x_.2.1 x_.2.2.1,())⟩
abbrev W_spec_FillModule_fFillModule_11 (p:SPage) (a:SAddr) (x:SResponse):LInv:=⟨[⟨.b,7,true,.el .page⟩,⟨.s,12,true,.el .int⟩,⟨.b,6,true,.el .page⟩,⟨.s,10,true,.sl .addr⟩],fun(z_:SPage×Int×SPage×(List SAddr)×Unit) (x_:SPage×Int×SPage×(List SAddr)×Unit)=>((fmInv p a x x_.1 x_.2.1)∧x_.2.2.1=z_.2.2.1)∧x_.2.2.2.1=z_.2.2.2.1,fun(x_:SPage×Int×SPage×(List SAddr)×Unit)=>(imports (fillM0 p a x) a).1.length-x_.2.1.toNat⟩
theorem k78_145:fFillModule.ok Tryz.prog 78:=Fct.of (S:=fFillModule) (L:=fun⟨p,a,x,_⟩=>fun|11=>some (W_spec_FillModule_fFillModule_11 p a x)|_=>none) (kp:=[3,4,5,6,7,8,9,10,12,27,69,1000027,1000069]) E145ok Tryz.func78 (by kernel_rfl) (by kernel_rfl) (by
 rintro⟨(p:SPage),(a:SAddr),(x:SResponse),_⟩ hp
 refine ho (.cl fCopyPage (p,()) fun z2=>.cl fModAt (p,a,()) fun(z3:Int×PUnit)=>.br (decide (z3.1<0)) (.lf fFillModule (z2.1,())) (.ob (inB z3.1 p.mods.length)<|.br ((p.mods.getD z3.1.toNat default).done) (.lf fFillModule (z2.1,())) (.cl fModRequest (p,z3.1,()) fun z4=>.ob (inB z3.1 z2.1.mods.length)<|.ob (z3.1.toNat<z2.1.mods.length)<|.lt (List SModule) (z2.1.mods.modify z3.1.toNat fun z=>(⟨z.to,true,z.code,z.body⟩:SModule)) fun z5=>.cl fCheckResponse (p.policy,z4.1,x,()) fun(z6:Int×PUnit)=>.ob (inB z3.1 z5.length)<|.ob (z3.1.toNat<z5.length)<|.lt (List SModule) (z5.modify z3.1.toNat fun z=>(⟨z.to,z.done,z6.1,z.body⟩:SModule)) fun z7=>.cl fUsableBody (p.policy,z4.1,x,()) fun z8=>.ob (inB z3.1 z7.length)<|.ob (z3.1.toNat<z7.length)<|.lt (List SModule) (z7.modify z3.1.toNat fun z=>(⟨z.to,z.done,z.code,z8.1⟩:SModule)) fun z9=>.cl fImports ((⟨z2.1.addr,z2.1.policy,z2.1.tok,z2.1.queue,z2.1.ended,z2.1.builder,z2.1.slots,z9,z2.1.entries,z2.1.block,z2.1.inline,z2.1.deferred,z2.1.entered,z2.1.ran,z2.1.log,z2.1.loaded⟩:SPage),a,()) fun z10=>lpx (W_spec_FillModule_fFillModule_11 p a x) ((⟨z2.1.addr,z2.1.policy,z2.1.tok,z2.1.queue,z2.1.ended,z2.1.builder,z2.1.slots,z9,z2.1.entries,z2.1.block,z2.1.inline,z2.1.deferred,z2.1.entered,z2.1.ran,z2.1.log,z2.1.loaded⟩:SPage),((0:Int),(default,(z10.1,())))) fun(y16:SPage×Int×SPage×List SAddr×PUnit) bk16=>.br (decide (y16.2.1<(↑y16.2.2.2.1.length:Int))) (.ob (inB y16.2.1 y16.2.2.2.1.length)<|.ob (y16.2.1.toNat<y16.2.2.2.1.length)<|.cl fAskModule (y16.1,y16.2.2.2.1.getD y16.2.1.toNat default,()) fun z11=>.ob (Value.int IntKind.i64 z3.1=Value.int IntKind.i64 z3.1)<|.ob (bk16 (z11.1,(w1 y16.2.1,(y16.2.2.1,(y16.2.2.2.1,())))))<|.ok) (.lf fFillModule (y16.1,()))))) ?_
 refine cl_i ?_ fun o1=>(cl_i ?_ fun o2=>(br_i (fun h3=>lfY ?_) (fun h3=>ob_i ?_ fun o4=>br_i (fun h5=>lfY ?_) (fun h5=>cl_i ?_ fun o6=>(ob_i ?_ fun o7=>ob_i ?_ fun o8=>lt_i (cl_i ?_ fun o9=>(ob_i ?_ fun o10=>ob_i ?_ fun o11=>lt_i (cl_i ?_ fun o12=>(ob_i ?_ fun o13=>ob_i ?_ fun o14=>lt_i (cl_i ?_ fun o15=>(lpx_i ?_ fun(y16:SPage×Int×SPage×List SAddr×PUnit) i16=>br_i (fun h17=>ob_i ?_ fun o18=>ob_i ?_ fun o19=>cl_i ?_ fun o20=>(ob_i rfl fun _=>ob_i ?_ fun o21=>trivial)) (fun h17=>lfY ?_))))))))))))
 all_goals obtain⟨q1,q0,q2,q3⟩:=(show okFM p∧szAddr a≤4000000000∧x.policy.size≤200000000∧x.body.size≤1000000000 from hp)
 all_goals
  have hok:=okAdv_pg (okFM_adv q1)
  have hf:=findMod_in p.mods a
  try simp only[std0] at *
  try simp only[W_spec_FillModule_fFillModule_11,fAskModule,fCheckResponse,fCopyPage,fFillModule,fImports,fModAt,fModRequest,fUsableBody,std,Nat.reduceAdd,szF,toF,eqF,mkF,heF,fCopyPage,fModAt,fModRequest,fCheckResponse,fUsableBody,fImports,fAskModule,fm_def] at *
 all_goals first|trivial|omega|skip
 all_goals first|(unfold fillModule;rw[if_pos (by first|exact .inl (by assumption)|exact .inr (by assumption))];done)|skip
 all_goals
  have h0:0≤findMod p.mods a:=by omega
  have hd:(p.mods.getD (findMod p.mods a).toNat default).done=false:=by assumption
  have hq:=okAdv_mod (okFM_adv q1) h0 hf.1
  have hI:=fillImp (x:=x) h0
  have hA:=fmInv_adv (fmInv_0 (x:=x) q1 h0 hd) hI.2
  have hB:=okAdv_pg hA
  try simp only[fill3 h0,fmp,fmLen,List.length_modify] at *
 all_goals first|trivial|omega|exact⟨by omega,by omega,q2,q3⟩|exact⟨by omega,hB.2.2.2.2.2,by simp only[szAddr] at q0;omega⟩|exact fmInv_0 q1 h0 hd|skip
 all_goals (obtain⟨⟨i1,e1⟩,e2⟩:=i16;simp only[e2] at *;have hi0:=i1.1;have hi1:=i1.2.1)
 all_goals first|trivial|omega|(rw[fmInv_end i1 h0 hd (by omega)];done)|skip
 all_goals
  have hj:=okAdv_pg (fmInv_adv i1 hI.2)
  have hb:=hI.1 _ (getD_in (show y16.2.1.toNat<(imports (fillM0 p a x) a).1.length by omega))
 all_goals first|exact⟨by omega,by have h7:=hj.2.1;simp only[szAddr] at h7;omega,by simp only[szAddr];omega⟩|(rw[wrapId (by omega)];exact⟨⟨⟨fmInv_go i1 h0 (by omega),e1⟩,trivial⟩,by omega⟩)|skip)
def E146:=E145.add 78 fFillModule
theorem E146ok:EOk Tryz.prog E146:=E145ok.add k78_145
def takeAnswer (p:SPage) (a:SAddr) (x:SResponse):SPage:=advance (fillModule (fillAll p a x) a x)
theorem okFM_fill {p:SPage} (h:okFM p) (a:SAddr) (x:SResponse):okFM (fillAll p a x):=by
 obtain⟨Q,M,R,h1,h2⟩:=h
 have:=ok_fillTo h1 a x p.slots.length
 rw[fillTo_end (Nat.le_refl _)] at this
 exact⟨Q,M,R,this,h2⟩
theorem okFM_mod {p:SPage} (h:okFM p) (a:SAddr) (x:SResponse):okAdv (fillModule p a x):=by
 obtain⟨Q,M,R,h1,h2,h3,h4⟩:=h
 exact⟨Q,_,_,ok_fillModule h1 a x,h2,by omega,by omega⟩
theorem ok_answer {p:SPage} {Q M R:Nat} (h:okAll p Q M R) (a:SAddr) (x:SResponse):okAll (takeAnswer p a x) (Q+740000) (M+240000) (R+8000):=by
 have:=ok_fillTo h a x p.slots.length
 rw[fillTo_end (Nat.le_refl _)] at this
 exact ok_advance (ok_fillModule this a x)
def fTakeAnswer:Fct:=⟨[.v (.el .page),.v (.el .addr),.v (.el .response)],[.el .page],fun(x_:SPage×SAddr×SResponse×Unit)=>okFM x_.1∧szAddr x_.2.1≤4000000000∧x_.2.2.1.policy.size≤200000000∧x_.2.2.1.body.size≤1000000000,fun(x_:SPage×SAddr×SResponse×Unit)=>(takeAnswer x_.1 x_.2.1 x_.2.2.1,())⟩
theorem k61_146:fTakeAnswer.ok Tryz.prog 61:=Fct.o [3,4,5,6] E146ok Tryz.func61 (by
 rintro⟨(p:SPage),(a:SAddr),(x:SResponse),_⟩ hp
 refine ho (.cl fFillAll (p,a,x,()) fun z2=>.cl fFillModule (z2.1,a,x,()) fun z3=>.cl fAdvance (z3.1,()) fun z4=>.lf fTakeAnswer (z4.1,())) ?_
 refine cl_i ?_ fun o1=>(cl_i ?_ fun o2=>(cl_i ?_ fun o3=>(lfY ?_)))
 all_goals obtain⟨q1,q0,q2,q3⟩:=(show okFM p∧szAddr a≤4000000000∧x.policy.size≤200000000∧x.body.size≤1000000000 from hp)
 all_goals
  try simp only[std0] at *
  try simp only[fAdvance,fFillAll,fFillModule,fTakeAnswer,std,Nat.reduceAdd,szF,toF,eqF,mkF,heF,fFillAll,fFillModule,fAdvance] at *
 all_goals first|exact⟨okFM_adv q1,q2,q3⟩|exact⟨okFM_fill q1 a x,q0,q2,q3⟩|exact okFM_mod (okFM_fill q1 a x) a x|rfl|trivial)
def E147:=E146.add 61 fTakeAnswer
theorem E147ok:EOk Tryz.prog E147:=E146ok.add k61_146
def nextNeeds (p:SPage):List SRequest:=(openSlots p).map (slotRequest p)++(openMods p).map (modRequest p)
theorem openS_at {p:SPage} {i:Nat} (h:i<(openSlots p).length):0≤(openSlots p).getD i default∧(openSlots p).getD i default<p.slots.length:=by
 have:=openIdx_in (fun s:SSlot=>!s.done) p.slots 0 _ (getD_in h)
 unfold openSlots at *;omega
theorem openM_at {p:SPage} {i:Nat} (h:i<(openMods p).length):0≤(openMods p).getD i default∧(openMods p).getD i default<p.mods.length:=by
 have:=openIdx_in (fun s:SModule=>!s.done) p.mods 0 _ (getD_in h)
 unfold openMods at *;omega
theorem map_at {α β:Type} [Inhabited α] (f:α→β) {l:List α} {i:Nat} (h:i<l.length):(l.drop i).map f=f (l.getD i default)::(l.drop (i+1)).map f:=by rw[drop_cons h];rfl
theorem map_end {α β:Type} (f:α→β) {l:List α} {i:Nat} (h:l.length≤i):(l.drop i).map f=[]:=by rw[List.drop_of_length_le h];rfl
def fNextNeeds:Fct:=⟨[.v (.el .page)],[.sl .request],fun(x_:SPage×Unit)=>x_.1.slots.length+x_.1.mods.length≤1000000000000,fun(x_:SPage×Unit)=>(nextNeeds x_.1,())⟩
abbrev W_spec_NextNeeds_fNextNeeds_4 (p:SPage):LInv:=⟨[⟨.s,3,true,.sl .request⟩,⟨.s,5,true,.el .int⟩,⟨.b,1,false,.el .page⟩,⟨.s,4,true,.sl .int⟩],fun(z_:(List SRequest)×Int×SPage×(List Int)×Unit) (x_:(List SRequest)×Int×SPage×(List Int)×Unit)=>((0≤x_.2.1∧x_.2.1≤(openSlots p).length∧x_.1.length≤x_.2.1∧x_.1++((openSlots p).drop x_.2.1.toNat).map (slotRequest p)=(openSlots p).map (slotRequest p))∧x_.2.2.1=z_.2.2.1)∧x_.2.2.2.1=z_.2.2.2.1,fun(x_:(List SRequest)×Int×SPage×(List Int)×Unit)=>(openSlots p).length-x_.2.1.toNat⟩
abbrev W_spec_NextNeeds_fNextNeeds_9 (p:SPage):LInv:=⟨[⟨.s,3,true,.sl .request⟩,⟨.s,7,true,.el .int⟩,⟨.b,1,false,.el .page⟩,⟨.s,6,true,.sl .int⟩],fun(z_:(List SRequest)×Int×SPage×(List Int)×Unit) (x_:(List SRequest)×Int×SPage×(List Int)×Unit)=>((0≤x_.2.1∧x_.2.1≤(openMods p).length∧x_.1.length≤(openSlots p).length+x_.2.1∧x_.1++((openMods p).drop x_.2.1.toNat).map (modRequest p)=nextNeeds p)∧x_.2.2.1=z_.2.2.1)∧x_.2.2.2.1=z_.2.2.2.1,fun(x_:(List SRequest)×Int×SPage×(List Int)×Unit)=>(openMods p).length-x_.2.1.toNat⟩
theorem k60_147:fNextNeeds.ok Tryz.prog 60:=Fct.of (S:=fNextNeeds) (L:=fun⟨p,_⟩=>fun|4=>some (W_spec_NextNeeds_fNextNeeds_4 p)|9=>some (W_spec_NextNeeds_fNextNeeds_9 p)|_=>none) (kp:=[1,2,3,4,5,6,7,14,31,1000014,1000031]) E147ok Tryz.func60 (by kernel_rfl) (by kernel_rfl) (by
 rintro⟨(p:SPage),_⟩ hp
 refine ho (.cl fOpenSlots (p,()) fun(z2:List Int×PUnit)=>lpx (W_spec_NextNeeds_fNextNeeds_4 p) ([],((0:Int),(p,(z2.1,())))) fun(y2:List SRequest×Int×SPage×List Int×PUnit) bk2=>.br (decide (y2.2.1<(↑y2.2.2.2.1.length:Int))) (.ob (inB y2.2.1 y2.2.2.2.1.length)<|.ob (y2.2.1.toNat<y2.2.2.2.1.length)<|.cl fSlotRequest (y2.2.2.1,y2.2.2.2.1.getD y2.2.1.toNat default,()) fun z3=>.ob (True)<|.ob (Room (y2.1.length+[z3.1].length) 72)<|.ob (bk2 (y2.1++[z3.1],(w1 y2.2.1,(y2.2.2.1,(y2.2.2.2.1,())))))<|.ok) (.cl fOpenMods (y2.2.2.1,()) fun(z4:List Int×PUnit)=>lpx (W_spec_NextNeeds_fNextNeeds_9 p) (y2.1,((0:Int),(y2.2.2.1,(z4.1,())))) fun(y10:List SRequest×Int×SPage×List Int×PUnit) bk10=>.br (decide (y10.2.1<(↑y10.2.2.2.1.length:Int))) (.ob (inB y10.2.1 y10.2.2.2.1.length)<|.ob (y10.2.1.toNat<y10.2.2.2.1.length)<|.cl fModRequest (y10.2.2.1,y10.2.2.2.1.getD y10.2.1.toNat default,()) fun z5=>.ob (True)<|.ob (Room (y10.1.length+[z5.1].length) 72)<|.ob (Value.int IntKind.i64 y2.2.1=Value.int IntKind.i64 y2.2.1)<|.ob (bk10 (y10.1++[z5.1],(w1 y10.2.1,(y10.2.2.1,(y10.2.2.2.1,())))))<|.ok) (.lf fNextNeeds (y10.1,())))) ?_
 refine cl_i ?_ fun o1=>(lpx_i ?_ fun(y2:List SRequest×Int×SPage×List Int×PUnit) i2=>br_i (fun h3=>ob_i ?_ fun o4=>ob_i ?_ fun o5=>cl_i ?_ fun o6=>(ob_i trivial fun _=>ob_i ?_ fun o7=>ob_i ?_ fun o8=>trivial)) (fun h3=>cl_i ?_ fun o9=>(lpx_i ?_ fun(y10:List SRequest×Int×SPage×List Int×PUnit) i10=>br_i (fun h11=>ob_i ?_ fun o12=>ob_i ?_ fun o13=>cl_i ?_ fun o14=>(ob_i trivial fun _=>ob_i ?_ fun o15=>ob_i rfl fun _=>ob_i ?_ fun o16=>trivial)) (fun h11=>lfY ?_))))
 all_goals
  have hl1:(openSlots p).length≤p.slots.length:=openIdx_len _ _ _
  have hl2:(openMods p).length≤p.mods.length:=openIdx_len _ _ _
  try simp only[std0] at *
  try simp only[W_spec_NextNeeds_fNextNeeds_4,W_spec_NextNeeds_fNextNeeds_9,fModRequest,fNextNeeds,fOpenMods,fOpenSlots,fSlotRequest,std,Nat.reduceAdd,szF,toF,eqF,mkF,heF,fOpenSlots,fOpenMods,fSlotRequest,fModRequest] at *
 all_goals first|trivial|omega|exact⟨by omega,by omega,by simp,rfl⟩|skip
 all_goals (obtain⟨⟨⟨a1,a2,a3,a4⟩,e1⟩,e2⟩:=i2;simp only[e1,e2] at *)
 all_goals first|trivial|omega|skip
 all_goals try (obtain⟨⟨⟨b1,b2,b3,b4⟩,f1⟩,f2⟩:=i10;simp only[f1,f2] at *)
 all_goals first|trivial|omega|skip
 all_goals first|(have ho:=openM_at (p:=p) (i:=y10.2.1.toNat) (by omega))|(have ho:=openS_at (p:=p) (i:=y2.2.1.toNat) (by omega))|skip
 all_goals first|exact⟨by omega,by omega,by omega⟩|skip
 all_goals first|(rw[map_end (modRequest p) (l:=openMods p) (i:=y10.2.1.toNat) (by omega)] at b4;rw[List.append_nil] at b4;exact b4)|(rw[map_at (modRequest p) (l:=openMods p) (i:=y10.2.1.toNat) (by omega)] at b4;rw[wrapId (by omega),show(y10.2.1+1).toNat=y10.2.1.toNat+1 by omega];exact⟨⟨⟨⟨by omega,by omega,by simp only[List.length_append,List.length_cons,List.length_nil];omega,by rw[List.append_assoc];exact b4⟩,by trivial⟩,by trivial⟩,by omega⟩)|(rw[map_at (slotRequest p) (l:=openSlots p) (i:=y2.2.1.toNat) (by omega)] at a4;rw[wrapId (by omega),show(y2.2.1+1).toNat=y2.2.1.toNat+1 by omega];exact⟨⟨⟨⟨by omega,by omega,by simp only[List.length_append,List.length_cons,List.length_nil];omega,by rw[List.append_assoc];exact a4⟩,by trivial⟩,by trivial⟩,by omega⟩)|(rw[map_end (slotRequest p) (l:=openSlots p) (i:=y2.2.1.toNat) (by omega)] at a4;rw[List.append_nil] at a4;exact⟨by omega,by omega,by omega,by rw[a4];rfl⟩)|skip)
def E148:=E147.add 60 fNextNeeds
theorem E148ok:EOk Tryz.prog E148:=E147ok.add k60_147
def okTo (p:SPage):Prop:=(∀ s,s∈p.slots→szAddr s.to≤4000000)∧∀ m,m∈p.mods→szAddr m.to≤4000000
theorem needs_to {p:SPage} {r:SRequest} (h:r∈nextNeeds p):(∃ s,s∈p.slots∧r.to=s.to)∨∃ m,m∈p.mods∧r.to=m.to:=by
 unfold nextNeeds at h
 rcases List.mem_append.1 h with q|q
 ·obtain⟨k,hk,rfl⟩:=List.mem_map.1 q
  have:=openIdx_in (fun s:SSlot=>!s.done) p.slots 0 k hk
  left
  refine⟨p.slots.getD k.toNat default,getD_in (by omega),?_⟩
  unfold slotRequest;rw[if_pos (by omega)]
 ·obtain⟨k,hk,rfl⟩:=List.mem_map.1 q
  have:=openIdx_in (fun m:SModule=>!m.done) p.mods 0 k hk
  right
  refine⟨p.mods.getD k.toNat default,getD_in (by omega),?_⟩
  rw[modReq_at (by omega) (by omega)]
def Kp (p:SPage):Prop:=okTo p∧-9223372036854775808≤p.block∧p.block≤9223372036854775807
theorem K_of {p q:SPage} (h:Kp p) (hs:q.slots=p.slots) (hm:q.mods=p.mods) (hb:q.block=p.block):Kp q:=by
 unfold Kp okTo at *
 rw[hs,hm,hb];exact h
theorem newSlot_to (p:SPage) (m:Int) (to d:ByteArray) (n:Int):(newSlot p m to d n).to=(parseAddr to p.addr.host).1:=by unfold newSlot;split<;>rfl
theorem K_slot {p:SPage} (h:Kp p) (m:Int) (to d:ByteArray) (n:Int):Kp (addSlot p m to d n).1:=by
 unfold addSlot
 split
 ·refine⟨⟨fun s hs=>?_,h.1.2⟩,h.2⟩
  rcases List.mem_append.1 hs with q|q
  ·exact h.1.1 s q
  ·rw[List.mem_singleton.1 q,newSlot_to]
   have:=parseAddr_len to p.addr.host;omega
 ·exact h
theorem K_ask {p:SPage} (h:Kp p) {a:SAddr} (ha:szAddr a≤16):Kp (askModule p a):=by
 unfold askModule
 split
 ·exact h
 ·refine⟨⟨h.1.1,fun m hm=>?_⟩,h.2⟩
  rcases List.mem_append.1 hm with q|q
  ·exact h.1.2 m (List.mem_of_mem_take q)
  ·rcases List.mem_cons.1 q with q|q
   ·rw[q];have e:(newMod p a).to=a:=by unfold newMod;first|rfl|(split<;>rfl)
    rw[e];omega
   ·exact h.1.2 m (List.mem_of_mem_drop q)
theorem K_entry {p:SPage} (h:Kp p) (to:ByteArray):Kp (addEntry p to):=by
 unfold addEntry
 split
 ·exact K_of (K_ask h (parseAddr_len to p.addr.host)) rfl rfl rfl
 ·exact h
theorem K_element {p:SPage} (h:Kp p) (t:SToken) (n:Int):Kp (element p t n):=by
 unfold element
 split
 ·exact K_slot h ..
 ·split
  ·exact K_slot h ..
  ·exact h
theorem K_script {p:SPage} (h:Kp p) (n:Int):Kp (script p n):=by
 unfold script
 split
 ·split
  ·exact K_of h rfl rfl rfl
  ·exact h
 ·split
  ·exact K_slot h ..
  ·split
   ·exact K_entry h ..
   ·have hb:=addSlot_in p 3 ((findAttr (p.builder.nodes.getD n.toNat default).attrs ⟨#[115,114,99]⟩).getD ⟨#[]⟩) ((findAttr (p.builder.nodes.getD n.toNat default).attrs ⟨#[100,105,103,101,115,116]⟩).getD ⟨#[]⟩) n
    exact⟨(K_slot h ..).1,by dsimp only;omega,by dsimp only;omega⟩
theorem K_say {p:SPage} (h:Kp p) (s:ByteArray):Kp (say p s):=by
 unfold say
 split
 ·exact K_of h rfl rfl rfl
 ·exact h
theorem K_run {p:SPage} (h:Kp p) (c:ByteArray) (w:Bool):Kp (runCode p c w):=by
 unfold runCode
 split
 ·exact K_of h rfl rfl rfl
 ·exact K_of h rfl rfl rfl
theorem K_token {p:SPage} (h:Kp p):Kp (takeToken p).1:=by
 unfold takeToken
 split
 ·exact h
 ·have ht:Kp (taken p (p.queue.getD 0 default)):=K_of h rfl rfl rfl
  show Kp (takeTok p _)
  unfold takeTok
  split
  ·exact K_element ht _ _
  ·split
   ·exact K_script ht _
   ·exact ht
theorem K_blk {p:SPage} (h:Kp p):Kp { p with block:=0 }:=⟨h.1,by dsimp only;omega,by dsimp only;omega⟩
theorem K_parser {p:SPage} (h:Kp p):Kp (stepParser p).1:=by
 unfold stepParser
 split
 ·unfold stepInline
  split
  ·exact K_of (K_run h _ _) rfl rfl rfl
  ·exact h
 ·split
  ·unfold stepBlock
   split
   ·exact K_blk h
   ·split
    ·exact h
    ·split
     ·exact K_blk (K_run h _ _)
     ·exact K_blk h
  ·exact K_token h
theorem K_enterAll (p:SPage):∀ (l:List SAddr) (q:SPage),Kp q→Kp (enterAll p q l)
 | [],q,h=>h
 | b::l,q,h=>by
  refine K_enterAll p l (enter1 p q b) ?_
  unfold enter1
  split
  ·exact h
  ·exact K_of h rfl rfl rfl
theorem K_enter {p:SPage} (h:Kp p) (a:SAddr):Kp (enter p a):=by
 unfold enter
 split
 ·exact K_say h _
 ·exact K_enterAll p _ p h
theorem K_tail {p:SPage} (h:Kp p):Kp (stepTail p).1:=by
 unfold stepTail
 split
 ·exact h
 ·split
  ·unfold tailDefer
   split
   ·exact h
   ·split
    ·exact K_of (K_run h _ _) rfl rfl rfl
    ·exact K_of h rfl rfl rfl
  ·split
   ·unfold tailEnter
    split
    ·exact h
    ·exact K_of (K_enter h _) rfl rfl rfl
   ·split
    ·exact h
    ·exact K_of (K_say h _) rfl rfl rfl
theorem K_adv:∀ (n:Nat) (p:SPage),Kp p→Kp (adv n p)
 | 0,p,h=>h
 | n+1,p,h=>by
  rw[adv]
  split
  ·refine K_adv n _ ?_
   unfold step1
   split
   ·exact K_parser h
   ·exact K_tail h
  ·exact h
theorem K_asks:∀ (l:List SAddr) (p:SPage),Kp p→(∀ b,b∈l→b.host.size≤8∧b.path.size≤8)→Kp (l.foldl askModule p)
 | [],p,h,_=>h
 | b::l,p,h,hb=>K_asks l (askModule p b) (K_ask h (by have:=hb b List.mem_cons_self;simp only[szAddr];omega)) fun c hc=>hb c (List.mem_cons_of_mem _ hc)
theorem fillF_to (p:SPage) (a:SAddr) (x:SResponse) (s:SSlot):(fillF p a x s).to=s.to:=by
 unfold fillF
 split
 ·unfold fillS
  split<;>rfl
 ·rfl
theorem mem_modify {α:Type} {f:α→α} {m:α}:∀ {l:List α} {i:Nat},m∈l.modify i f→m∈l∨∃ z,z∈l∧m=f z
 | [],0,h=>.inl h
 | [],_+1,h=>.inl h
 | z::l,0,h=>by
  rcases List.mem_cons.1 (show m∈f z::l from h) with q|q
  ·exact .inr ⟨z,List.mem_cons_self,q⟩
  ·exact .inl (List.mem_cons_of_mem _ q)
 | z::l,i+1,h=>by
  rcases List.mem_cons.1 (show m∈z::l.modify i f from h) with q|q
  ·exact .inl (by rw[q];exact List.mem_cons_self)
  ·rcases mem_modify q with q|⟨w,h1,h2⟩
   ·exact .inl (List.mem_cons_of_mem _ q)
   ·exact .inr ⟨w,List.mem_cons_of_mem _ h1,h2⟩
theorem K_fillM0 {p:SPage} (h:Kp p) (a:SAddr) (x:SResponse):Kp (fillM0 p a x):=by
 refine⟨⟨h.1.1,fun m hm=>?_⟩,h.2⟩
 rcases mem_modify (show m∈p.mods.modify (findMod p.mods a).toNat (fillM p x) from hm) with q|⟨z,h1,h2⟩
 ·exact h.1.2 m q
 ·rw[h2];exact h.1.2 z h1
theorem K_answer {p:SPage} (h:Kp p) (a:SAddr) (x:SResponse):Kp (takeAnswer p a x):=by
 have h1:Kp (fillAll p a x):=by
  refine⟨⟨fun s hs=>?_,h.1.2⟩,h.2⟩
  obtain⟨z,hz,rfl⟩:=List.mem_map.1 (show s∈p.slots.map (fillF p a x) from hs)
  rw[fillF_to];exact h.1.1 z hz
 refine K_adv 2000 _ ?_
 unfold fillModule
 split
 ·exact h1
 ·rename_i hc
  exact K_asks _ _ (K_fillM0 h1 a x) (fillImp (x:=x) (show 0≤findMod (fillAll p a x).mods a by omega)).1
theorem K_arr {p:SPage} (h:Kp p) (s:ByteArray):Kp (arriveText p s):=by
 unfold arriveText
 split
 ·exact h
 ·exact K_of h rfl rfl rfl
theorem K_end {p:SPage} (h:Kp p):Kp (endPage p):=by
 unfold endPage
 split
 ·exact h
 ·exact K_of h rfl rfl rfl
def okD (p:SPage) (n:Nat):Prop:=okAll p (10000000+n) 1100000000 10000000∧Kp p
theorem new_init {x:SResponse} (hx:x.policy.size≤200):okAll (newPage ⟨⟨#[104,111,109,101]⟩,⟨#[105,110,100,101,120]⟩⟩ x).1 2000000 1100000000 10000000∧Kp (newPage ⟨⟨#[104,111,109,101]⟩,⟨#[105,110,100,101,120]⟩⟩ x).1∧(newPage ⟨⟨#[104,111,109,101]⟩,⟨#[105,110,100,101,120]⟩⟩ x).1.tok.rest.size=0:=by
 have hp:=parse_sz x.policy
 unfold newPage
 split
 ·refine⟨ok_init ?_,⟨⟨(fun s hs=>nomatch (show s∈[] from hs)),(fun s hs=>nomatch (show s∈[] from hs))⟩,(by decide:(-9223372036854775808:Int)≤0),(by decide:(0:Int)≤9223372036854775807)⟩,rfl⟩
  have e:szAddr ⟨⟨#[104,111,109,101]⟩,⟨#[105,110,100,101,120]⟩⟩=9:=by decide
  show szAddr ⟨⟨#[104,111,109,101]⟩,⟨#[105,110,100,101,120]⟩⟩+szPolicy (parsePolicy x.policy).1+_+_+szBuilder newBuilder+_+_+_+_+_≤2000000
  rw[e]
  have e2:szBuilder newBuilder≤100:=by decide
  simp only[szTokenizer,szL,List.map_nil,List.sum_nil,List.length_nil]
  have e3:ByteArray.size (default:STokenizer).rest=0:=rfl
  omega
 ·refine⟨ok_init (by decide),⟨⟨(fun s hs=>nomatch (show s∈[] from hs)),(fun s hs=>nomatch (show s∈[] from hs))⟩,(by decide:(-9223372036854775808:Int)≤0),(by decide:(0:Int)≤9223372036854775807)⟩,rfl⟩
def fStrM:Xct:=⟨[.u,.v (.sl .str)],[.el .str],fun(x_:Unit×(List ByteArray)×Unit)=>0<x_.2.1.length∧x_.2.1.length≤256∧x_.2.1.all (fun s=>decide (s.size≤150))=true,fun(x_:Unit×(List ByteArray)×Unit) (y_:ByteArray×Unit)=>y_.1.size≤150⟩
theorem k63_148:fStrM.ok Tryz.prog 63:=Xct.of (S:=fStrM) (L:=fun _ _=>none) (kp:=[0,1,4]) E148ok Tryz.func63 (by kernel_rfl) (by kernel_rfl) (by
 rintro⟨(c:PUnit),(l:List ByteArray),_⟩ hp
 refine ho (.ob (fBelow.pre ((),(↑(List.length l):Int),()))<|.lp (Int×PUnit) (True) (fBelow.is ((),(↑(List.length l):Int),())) fun y1=>.ob ((0:Int)≤y1.fst∧y1.fst<(↑(List.length l):Int))<|.leaf (mkR fStrM.rs (List.getD l y1.fst.toNat default,())) [] []) ?_
 refine ob_i trivial fun _=>lp_i trivial fun y1 i1=>ob_i ?_ fun o2=>Xct.leafY (S:=fStrM) (List.getD l y1.fst.toNat default,()) ?_
 all_goals
  try simp only[std0] at *
  try simp only[fBelow,fStrM,std,Nat.reduceAdd,szF,toF,eqF,mkF,heF] at *
 all_goals first|trivial|omega|skip
 have hm:=getD_in (i:=y1.fst.toNat) (l:=l) (by omega)
 simpa using List.all_eq_true.1 hp.2.2 _ hm)
def E149:=E148.addX 63 fStrM
theorem E149ok:EOk Tryz.prog E149:=E148ok.addX k63_148
def fBody15:Xct:=⟨[.u],[.el .str],fun(x_:Unit×Unit)=>True,fun(x_:Unit×Unit) (y_:ByteArray×Unit)=>y_.1.size≤2000⟩
abbrev W_spec_l15Body_fBody15_3 (c:Unit):LInv:=⟨[⟨.s,3,true,.el .str⟩,⟨.s,4,true,.el .int⟩],fun _ (x_:ByteArray×Int×Unit)=>0≤x_.2.1∧x_.2.1≤5∧x_.1.size+150*x_.2.1≤1000,fun(x_:ByteArray×Int×Unit)=>x_.2.1.toNat⟩
theorem k70_149:fBody15.ok Tryz.prog 70:=Xct.of (S:=fBody15) (L:=fun⟨c,_⟩=>fun|3=>some (W_spec_l15Body_fBody15_3 c)|_=>none) (kp:=[0,2,3,4,11,1000011]) E149ok Tryz.func70 (by kernel_rfl) (by kernel_rfl) (by
 rintro⟨(c:PUnit),_⟩ hp
 refine ho (.ob (fStrM.pre ((),[{ data := #[]:ByteArray },{ data := #[(60:UInt8),(112:UInt8),(62:UInt8),(104:UInt8),(105:UInt8),(60:UInt8),(47:UInt8),(112:UInt8),(62:UInt8)]:ByteArray },{ data := #[(60:UInt8),(108:UInt8),(105:UInt8),(110:UInt8),(107:UInt8),(32:UInt8),(104:UInt8),(114:UInt8),(101:UInt8),(102:UInt8),(61:UInt8),(115:UInt8),(116:UInt8),(121:UInt8),(108:UInt8),(101:UInt8),(62:UInt8)]:ByteArray }],()))<|.lp (ByteArray×PUnit) (True) (fStrM.is ((),[{ data := #[]:ByteArray },{ data := #[(60:UInt8),(112:UInt8),(62:UInt8),(104:UInt8),(105:UInt8),(60:UInt8),(47:UInt8),(112:UInt8),(62:UInt8)]:ByteArray },{ data := #[(60:UInt8),(108:UInt8),(105:UInt8),(110:UInt8),(107:UInt8),(32:UInt8),(104:UInt8),(114:UInt8),(101:UInt8),(102:UInt8),(61:UInt8),(115:UInt8),(116:UInt8),(121:UInt8),(108:UInt8),(101:UInt8),(62:UInt8)]:ByteArray }],())) fun y2=>.ob (fBelow.pre ((),(6:Int),()))<|.lp (Int×PUnit) (True) (fBelow.is ((),(6:Int),())) fun y3=>lpx (W_spec_l15Body_fBody15_3 c) (y2.fst,(y3.fst,())) fun(y4:ByteArray×Int×PUnit) bk4=>.br (decide (y4.snd.fst>(0:Int))) (.ob (fText8.pre ((),(2:Int),()))<|.lp (ByteArray×PUnit) (True) (fText8.is ((),(2:Int),())) fun y7=>.ob (sameSize { data := #[(60:UInt8),(115:UInt8),(99:UInt8),(114:UInt8),(105:UInt8),(112:UInt8),(116:UInt8),(62:UInt8)]:ByteArray } y7.fst)<|.ob (sameSize ({ data := #[(60:UInt8),(115:UInt8),(99:UInt8),(114:UInt8),(105:UInt8),(112:UInt8),(116:UInt8),(62:UInt8)]:ByteArray }++y7.fst) { data := #[(60:UInt8),(47:UInt8),(115:UInt8),(99:UInt8),(114:UInt8),(105:UInt8),(112:UInt8),(116:UInt8),(62:UInt8)]:ByteArray })<|.ob (fStrM.pre ((),[{ data := #[(60:UInt8),(115:UInt8),(99:UInt8),(114:UInt8),(105:UInt8),(112:UInt8),(116:UInt8),(32:UInt8),(115:UInt8),(114:UInt8),(99:UInt8),(61:UInt8),(97:UInt8),(112:UInt8),(112:UInt8),(62:UInt8),(60:UInt8),(47:UInt8),(115:UInt8),(99:UInt8),(114:UInt8),(105:UInt8),(112:UInt8),(116:UInt8),(62:UInt8)]:ByteArray },{ data := #[(60:UInt8),(115:UInt8),(99:UInt8),(114:UInt8),(105:UInt8),(112:UInt8),(116:UInt8),(62:UInt8)]:ByteArray }++y7.fst++{ data := #[(60:UInt8),(47:UInt8),(115:UInt8),(99:UInt8),(114:UInt8),(105:UInt8),(112:UInt8),(116:UInt8),(62:UInt8)]:ByteArray },{ data := #[(60:UInt8),(115:UInt8),(99:UInt8),(114:UInt8),(105:UInt8),(112:UInt8),(116:UInt8),(32:UInt8),(115:UInt8),(114:UInt8),(99:UInt8),(61:UInt8),(99:UInt8),(100:UInt8),(110:UInt8),(47:UInt8),(108:UInt8),(105:UInt8),(98:UInt8),(62:UInt8),(60:UInt8),(47:UInt8),(115:UInt8),(99:UInt8),(114:UInt8),(105:UInt8),(112:UInt8),(116:UInt8),(62:UInt8)]:ByteArray },{ data := #[(60:UInt8),(115:UInt8),(99:UInt8),(114:UInt8),(105:UInt8),(112:UInt8),(116:UInt8),(32:UInt8),(115:UInt8),(114:UInt8),(99:UInt8),(61:UInt8),(117:UInt8),(116:UInt8),(105:UInt8),(108:UInt8),(32:UInt8),(107:UInt8),(105:UInt8),(110:UInt8),(100:UInt8),(61:UInt8),(109:UInt8),(111:UInt8),(100:UInt8),(117:UInt8),(108:UInt8),(101:UInt8),(62:UInt8),(60:UInt8),(47:UInt8),(115:UInt8),(99:UInt8),(114:UInt8),(105:UInt8),(112:UInt8),(116:UInt8),(62:UInt8)]:ByteArray },{ data := #[(60:UInt8),(115:UInt8),(99:UInt8),(114:UInt8),(105:UInt8),(112:UInt8),(116:UInt8),(32:UInt8),(115:UInt8),(114:UInt8),(99:UInt8),(61:UInt8),(108:UInt8),(105:UInt8),(98:UInt8),(32:UInt8),(107:UInt8),(105:UInt8),(110:UInt8),(100:UInt8),(61:UInt8),(100:UInt8),(101:UInt8),(102:UInt8),(101:UInt8),(114:UInt8),(62:UInt8),(60:UInt8),(47:UInt8),(115:UInt8),(99:UInt8),(114:UInt8),(105:UInt8),(112:UInt8),(116:UInt8),(62:UInt8)]:ByteArray },{ data := #[(60:UInt8),(105:UInt8),(109:UInt8),(103:UInt8),(32:UInt8),(115:UInt8),(114:UInt8),(99:UInt8),(61:UInt8),(108:UInt8),(111:UInt8),(103:UInt8),(111:UInt8),(62:UInt8)]:ByteArray },{ data := #[(60:UInt8),(108:UInt8),(105:UInt8),(110:UInt8),(107:UInt8),(32:UInt8),(104:UInt8),(114:UInt8),(101:UInt8),(102:UInt8),(61:UInt8),(99:UInt8),(100:UInt8),(110:UInt8),(47:UInt8),(115:UInt8),(116:UInt8),(121:UInt8),(108:UInt8),(101:UInt8),(62:UInt8)]:ByteArray },{ data := #[(60:UInt8),(112:UInt8),(62:UInt8),(120:UInt8),(60:UInt8),(47:UInt8),(112:UInt8),(62:UInt8)]:ByteArray },{ data := #[(60:UInt8),(98:UInt8),(62:UInt8)]:ByteArray },{ data := #[(60:UInt8),(115:UInt8),(99:UInt8),(114:UInt8),(105:UInt8),(112:UInt8),(116:UInt8),(32:UInt8),(110:UInt8),(111:UInt8),(110:UInt8),(99:UInt8),(101:UInt8),(61:UInt8),(110:UInt8),(55:UInt8),(62:UInt8),(115:UInt8),(97:UInt8),(121:UInt8),(32:UInt8),(110:UInt8),(60:UInt8),(47:UInt8),(115:UInt8),(99:UInt8),(114:UInt8),(105:UInt8),(112:UInt8),(116:UInt8),(62:UInt8)]:ByteArray },{ data := #[(60:UInt8),(115:UInt8),(99:UInt8),(114:UInt8),(105:UInt8),(112:UInt8),(116:UInt8),(32:UInt8),(115:UInt8),(114:UInt8),(99:UInt8),(61:UInt8),(101:UInt8),(118:UInt8),(105:UInt8),(108:UInt8),(47:UInt8),(97:UInt8),(112:UInt8),(112:UInt8),(62:UInt8),(60:UInt8),(47:UInt8),(115:UInt8),(99:UInt8),(114:UInt8),(105:UInt8),(112:UInt8),(116:UInt8),(62:UInt8)]:ByteArray },{ data := #[(116:UInt8),(101:UInt8),(120:UInt8),(116:UInt8)]:ByteArray }],()))<|.lp (ByteArray×PUnit) (True) (fStrM.is ((),[{ data := #[(60:UInt8),(115:UInt8),(99:UInt8),(114:UInt8),(105:UInt8),(112:UInt8),(116:UInt8),(32:UInt8),(115:UInt8),(114:UInt8),(99:UInt8),(61:UInt8),(97:UInt8),(112:UInt8),(112:UInt8),(62:UInt8),(60:UInt8),(47:UInt8),(115:UInt8),(99:UInt8),(114:UInt8),(105:UInt8),(112:UInt8),(116:UInt8),(62:UInt8)]:ByteArray },{ data := #[(60:UInt8),(115:UInt8),(99:UInt8),(114:UInt8),(105:UInt8),(112:UInt8),(116:UInt8),(62:UInt8)]:ByteArray }++y7.fst++{ data := #[(60:UInt8),(47:UInt8),(115:UInt8),(99:UInt8),(114:UInt8),(105:UInt8),(112:UInt8),(116:UInt8),(62:UInt8)]:ByteArray },{ data := #[(60:UInt8),(115:UInt8),(99:UInt8),(114:UInt8),(105:UInt8),(112:UInt8),(116:UInt8),(32:UInt8),(115:UInt8),(114:UInt8),(99:UInt8),(61:UInt8),(99:UInt8),(100:UInt8),(110:UInt8),(47:UInt8),(108:UInt8),(105:UInt8),(98:UInt8),(62:UInt8),(60:UInt8),(47:UInt8),(115:UInt8),(99:UInt8),(114:UInt8),(105:UInt8),(112:UInt8),(116:UInt8),(62:UInt8)]:ByteArray },{ data := #[(60:UInt8),(115:UInt8),(99:UInt8),(114:UInt8),(105:UInt8),(112:UInt8),(116:UInt8),(32:UInt8),(115:UInt8),(114:UInt8),(99:UInt8),(61:UInt8),(117:UInt8),(116:UInt8),(105:UInt8),(108:UInt8),(32:UInt8),(107:UInt8),(105:UInt8),(110:UInt8),(100:UInt8),(61:UInt8),(109:UInt8),(111:UInt8),(100:UInt8),(117:UInt8),(108:UInt8),(101:UInt8),(62:UInt8),(60:UInt8),(47:UInt8),(115:UInt8),(99:UInt8),(114:UInt8),(105:UInt8),(112:UInt8),(116:UInt8),(62:UInt8)]:ByteArray },{ data := #[(60:UInt8),(115:UInt8),(99:UInt8),(114:UInt8),(105:UInt8),(112:UInt8),(116:UInt8),(32:UInt8),(115:UInt8),(114:UInt8),(99:UInt8),(61:UInt8),(108:UInt8),(105:UInt8),(98:UInt8),(32:UInt8),(107:UInt8),(105:UInt8),(110:UInt8),(100:UInt8),(61:UInt8),(100:UInt8),(101:UInt8),(102:UInt8),(101:UInt8),(114:UInt8),(62:UInt8),(60:UInt8),(47:UInt8),(115:UInt8),(99:UInt8),(114:UInt8),(105:UInt8),(112:UInt8),(116:UInt8),(62:UInt8)]:ByteArray },{ data := #[(60:UInt8),(105:UInt8),(109:UInt8),(103:UInt8),(32:UInt8),(115:UInt8),(114:UInt8),(99:UInt8),(61:UInt8),(108:UInt8),(111:UInt8),(103:UInt8),(111:UInt8),(62:UInt8)]:ByteArray },{ data := #[(60:UInt8),(108:UInt8),(105:UInt8),(110:UInt8),(107:UInt8),(32:UInt8),(104:UInt8),(114:UInt8),(101:UInt8),(102:UInt8),(61:UInt8),(99:UInt8),(100:UInt8),(110:UInt8),(47:UInt8),(115:UInt8),(116:UInt8),(121:UInt8),(108:UInt8),(101:UInt8),(62:UInt8)]:ByteArray },{ data := #[(60:UInt8),(112:UInt8),(62:UInt8),(120:UInt8),(60:UInt8),(47:UInt8),(112:UInt8),(62:UInt8)]:ByteArray },{ data := #[(60:UInt8),(98:UInt8),(62:UInt8)]:ByteArray },{ data := #[(60:UInt8),(115:UInt8),(99:UInt8),(114:UInt8),(105:UInt8),(112:UInt8),(116:UInt8),(32:UInt8),(110:UInt8),(111:UInt8),(110:UInt8),(99:UInt8),(101:UInt8),(61:UInt8),(110:UInt8),(55:UInt8),(62:UInt8),(115:UInt8),(97:UInt8),(121:UInt8),(32:UInt8),(110:UInt8),(60:UInt8),(47:UInt8),(115:UInt8),(99:UInt8),(114:UInt8),(105:UInt8),(112:UInt8),(116:UInt8),(62:UInt8)]:ByteArray },{ data := #[(60:UInt8),(115:UInt8),(99:UInt8),(114:UInt8),(105:UInt8),(112:UInt8),(116:UInt8),(32:UInt8),(115:UInt8),(114:UInt8),(99:UInt8),(61:UInt8),(101:UInt8),(118:UInt8),(105:UInt8),(108:UInt8),(47:UInt8),(97:UInt8),(112:UInt8),(112:UInt8),(62:UInt8),(60:UInt8),(47:UInt8),(115:UInt8),(99:UInt8),(114:UInt8),(105:UInt8),(112:UInt8),(116:UInt8),(62:UInt8)]:ByteArray },{ data := #[(116:UInt8),(101:UInt8),(120:UInt8),(116:UInt8)]:ByteArray }],())) fun y11=>.ob (sameSize y4.fst y11.fst)<|.ob (Value.string { data := #[]:ByteArray }=Value.string { data := #[]:ByteArray })<|.ob (bk4 (y4.fst++y11.fst,(IntKind.i64.wrap (y4.snd.fst-(1:Int)),())))<|.ok) (.ob (fStrM.pre ((),[{ data := #[]:ByteArray },{ data := #[]:ByteArray },{ data := #[(60:UInt8),(112:UInt8),(62:UInt8),(101:UInt8),(110:UInt8),(100:UInt8),(60:UInt8),(47:UInt8),(112:UInt8),(62:UInt8)]:ByteArray },{ data := #[(60:UInt8),(112:UInt8)]:ByteArray }],()))<|.lp (ByteArray×PUnit) (True) (fStrM.is ((),[{ data := #[]:ByteArray },{ data := #[]:ByteArray },{ data := #[(60:UInt8),(112:UInt8),(62:UInt8),(101:UInt8),(110:UInt8),(100:UInt8),(60:UInt8),(47:UInt8),(112:UInt8),(62:UInt8)]:ByteArray },{ data := #[(60:UInt8),(112:UInt8)]:ByteArray }],())) fun y15=>.ob (sameSize y4.fst y15.fst)<|.leaf (mkR fBody15.rs (y4.fst++y15.fst,())) [] [])) ?_
 refine ob_i ?_ fun o1=>lp_i trivial fun y2 i2=>ob_i trivial fun _=>lp_i trivial fun y3 i3=>lpx_i ?_ fun(y4:ByteArray×Int×PUnit) i4=>br_i (fun h5=>ob_i ?_ fun o6=>lp_i trivial fun y7 i7=>ob_i ?_ fun o8=>ob_i ?_ fun o9=>ob_i ?_ fun o10=>lp_i trivial fun y11 i11=>ob_i ?_ fun o12=>ob_i rfl fun _=>ob_i ?_ fun o13=>trivial) (fun h5=>ob_i ?_ fun o14=>lp_i trivial fun y15 i15=>ob_i ?_ fun o16=>Xct.leafY (S:=fBody15) (y4.fst++y15.fst,()) ?_)
 all_goals first|trivial|(refine⟨?_,?_,?_⟩<;>decide)|skip
 all_goals
  try simp only[std0] at *
  try simp only[W_spec_l15Body_fBody15_3,fBelow,fBody15,fStrM,fText8,std,Nat.reduceAdd,szF,toF,eqF,mkF,heF,sameSize,ByteArray.size_append,List.all_cons,List.all_nil] at *
  try simp only[std0] at *
  try simp only[W_spec_l15Body_fBody15_3,fBelow,fBody15,fStrM,fText8,std,Nat.reduceAdd,szF,toF,eqF,mkF,heF,sameSize,ByteArray.size_append] at *
  try simp(disch:=omega) only[wrapId',toNat1] at *
  try simp(disch:=omega) only[if_pos,if_neg]
 all_goals first|trivial|omega|grind[wrapId',toNat1,drop_cons,drop_end,good_len,maxLen,sameSize,ByteArray.size_append])
def E150:=E149.addX 70 fBody15
theorem E150ok:EOk Tryz.prog E150:=E149ok.addX k70_149
def fStart15:Xct:=⟨[.u],[.el .page],fun(x_:Unit×Unit)=>True,fun(x_:Unit×Unit) (y_:SPage×Unit)=>okAll y_.1 2000000 1100000000 10000000∧Kp y_.1∧y_.1.tok.rest.size=0⟩
theorem k69_150:fStart15.ok Tryz.prog 69:=Xct.of (S:=fStart15) (L:=fun _ _=>none) (kp:=[0,2,3]) E150ok Tryz.func69 (by kernel_rfl) (by kernel_rfl) (by
 rintro⟨(c:PUnit),_⟩ hp
 refine ho (.ob (fPolicy9.pre ((),()))<|.lp (SPolicy×PUnit) (True) (fPolicy9.is ((),())) fun y1=>.ob (fFormatPolicy.pre (y1.fst,()))<|.lt (ByteArray×PUnit) (fFormatPolicy.fn (y1.fst,())) fun z2=>.ob (fNewPage.pre ({ host:={ data := #[(104:UInt8),(111:UInt8),(109:UInt8),(101:UInt8)]:ByteArray },path:={ data := #[(105:UInt8),(110:UInt8),(100:UInt8),(101:UInt8),(120:UInt8)]:ByteArray }:SAddr },{ status:=(200:Int),kind:=(1:Int),body:={ data := #[]:ByteArray },age:=(0:Int),shares:=false,policy:=z2.fst:SResponse },()))<|.lt (SPage×Bool×PUnit) (fNewPage.fn ({ host:={ data := #[(104:UInt8),(111:UInt8),(109:UInt8),(101:UInt8)]:ByteArray },path:={ data := #[(105:UInt8),(110:UInt8),(100:UInt8),(101:UInt8),(120:UInt8)]:ByteArray }:SAddr },{ status:=(200:Int),kind:=(1:Int),body:={ data := #[]:ByteArray },age:=(0:Int),shares:=false,policy:=z2.fst:SResponse },())) fun z3=>.leaf (mkR fStart15.rs (z3.fst,())) [] []) ?_
 refine ob_i trivial fun _=>lp_i trivial fun y1 i1=>ob_i ?_ fun o2=>lt_e fun z2 ez2=>(ob_i ?_ fun o3=>lt_e fun z3 ez3=>(Xct.leafY (S:=fStart15) (z3.fst,()) ?_))
 all_goals try subst_vars
 all_goals
  try simp only[std0] at *
  try simp only[fFormatPolicy,fNewPage,fPolicy9,fStart15,std,Nat.reduceAdd,szF,toF,eqF,mkF,heF] at *
 all_goals
  have q1:=isPolicy_sz i1
  have q2:=formatPolicy_size y1.1
 all_goals first|omega|exact new_init q2|exact⟨by omega,by decide⟩|skip)
def E151:=E150.addX 69 fStart15
theorem E151ok:EOk Tryz.prog E151:=E150ok.addX k69_150
def fSome15:Xct:=⟨[.u],[.el .page],fun(x_:Unit×Unit)=>True,fun(x_:Unit×Unit) (y_:SPage×Unit)=>okD y_.1 0⟩
theorem k58_151:fSome15.ok Tryz.prog 58:=Xct.of (S:=fSome15) (L:=fun _ _=>none) (kp:=[0,2,3,11,1000011]) E151ok Tryz.func58 (by kernel_rfl) (by kernel_rfl) (by
 rintro⟨(c:PUnit),_⟩ hp
 refine ho (.ob (fStart15.pre ((),()))<|.lp (SPage×PUnit) (True) (fStart15.is ((),())) fun y1=>.ob (fBody15.pre ((),()))<|.lp (ByteArray×PUnit) (True) (fBody15.is ((),())) fun y2=>.ob (fArriveText.pre (y1.fst,y2.fst,()))<|.lt (SPage×PUnit) (fArriveText.fn (y1.fst,y2.fst,())) fun z2=>.ob (fOnce.pre ((),(3:Int),()))<|.lp (Bool×PUnit) (True) (fOnce.is ((),(3:Int),())) fun y4=>.br (!y4.fst) (.ob (fEndPage.pre (z2.fst,()))<|.lt (SPage×PUnit) (fEndPage.fn (z2.fst,())) fun z3=>.leaf (mkR fSome15.rs (z3.fst,())) [] []) (.leaf (mkR fSome15.rs (z2.fst,())) [] [])) ?_
 refine ob_i trivial fun _=>lp_i trivial fun y1 i1=>ob_i trivial fun _=>lp_i trivial fun y2 i2=>ob_i ?_ fun o3=>lt_e fun z2 ez2=>(ob_i trivial fun _=>lp_i trivial fun y4 i4=>br_i (fun h5=>ob_i ?_ fun o6=>lt_e fun z3 ez3=>(Xct.leafY (S:=fSome15) (z3.fst,()) ?_)) (fun h5=>Xct.leafY (S:=fSome15) (z2.fst,()) ?_))
 all_goals try subst_vars
 all_goals
  try simp only[std0] at *
  try simp only[fArriveText,fBody15,fEndPage,fOnce,fSome15,fStart15,std,Nat.reduceAdd,szF,toF,eqF,mkF,heF] at *
 all_goals
  have a1:=okAll_pg i1.1 (by omega) (by omega) (by omega)
  have a2:=ok_arrive (s:=y2.1) i1.1 (by omega)
  have a3:=okAll_pg a2.1 (by omega) (by omega) (by omega)
  have a4:=ok_end a2.1 (by omega)
 all_goals first|omega|exact⟨by omega,by omega,by omega⟩|exact⟨okAll_mono a4.1 (by omega),K_end (K_arr i1.2.1 _)⟩|exact⟨okAll_mono a2.1 (by omega),K_arr i1.2.1 _⟩|skip)
def E152:=E151.addX 58 fSome15
theorem E152ok:EOk Tryz.prog E152:=E151ok.addX k58_151
def okJ (p:SPage) (n:Nat):Prop:=okAll p (20000000+740000*n) (1100000000+240000*n) (10000000+8000*n)∧Kp p
theorem okJ_adv {p:SPage} (h:okD p 0):okJ (advance p) 0:=⟨okAll_mono (ok_advance h.1) (by omega),K_adv 2000 p h.2⟩
theorem okJ_0 {p:SPage} (h:okD p 0):okJ p 0:=⟨okAll_mono h.1 (by omega),h.2⟩
theorem okJ_ans {p:SPage} {n:Nat} (h:okJ p n) (a:SAddr) (x:SResponse):okJ (takeAnswer p a x) (n+1):=by
 have q:=ok_answer h.1 a x
 refine⟨?_,K_answer h.2 a x⟩
 rw[show 20000000+740000*(n+1)=20000000+740000*n+740000 by omega,show 1100000000+240000*(n+1)=1100000000+240000*n+240000 by omega,show 10000000+8000*(n+1)=10000000+8000*n+8000 by omega]
 exact q
theorem okJ_fm {p:SPage} {n:Nat} (h:okJ p n) (hn:n≤100):okFM p:=⟨_,_,_,h.1,by omega,by omega,by omega⟩
theorem okJ_sz {p:SPage} {n:Nat} (h:okJ p n) (hn:n≤100):szPage p≤1000000000000:=okAll_pg h.1 (by omega) (by omega) (by omega)
theorem okJ_sm {p:SPage} {n:Nat} (h:okJ p n) (hn:n≤100):szPage p≤20000000000:=by
 obtain⟨⟨⟨a1,a2⟩,⟨b1,b2⟩,⟨c1,c2⟩,⟨d1,d2,d3,d4⟩,e1,f1⟩,_⟩:=h
 have hg:logP p.log≤3000000:=e1
 have hc:szPolicy p.policy+szAddr p.addr+p.tok.rest.size≤9000000:=by(unfold okCm at f1;omega)
 unfold nodeP at b1;unfold openP at b2;unfold slotP at c1;unfold entP at d1;unfold modP at d2;unfold ranP at d3;unfold logP at hg
 have hb:szBuilder p.builder=szL szNode p.builder.nodes+p.builder.open_.length:=rfl
 simp only[szPage,szTokenizer];omega
theorem push_len7 (t:STab) (p:SPage):(pushVisit t p).visits.length≤7:=by
 have hl:=pushed_len t p
 have hu:visitsUpTo t≤7:=by unfold visitsUpTo;omega
 unfold pushVisit
 split
 ·show((pushed t p).drop 1).length≤7
  rw[List.length_drop];omega
 ·show(pushed t p).length≤7
  omega
theorem moveTo_len (t:STab) (b:Int):(moveTo t b).1.visits=t.visits:=by
 unfold moveTo
 split<;>rfl
theorem okJ_len {p:SPage} {n:Nat} (h:okJ p n) (hn:n≤100):p.slots.length+p.mods.length≤1000000000000:=by
 have h1:=szL_len szSlot p.slots
 have h2:=szL_len szModule p.mods
 have:=okJ_sz h hn
 simp only[szPage] at this
 omega
def srvOk (l:List SFile) (i:Nat):Bool:=isName (l.getD i default).path&&(isResponse (l.getD i default).response&&(List.range i).all fun k=>!decide ((l.getD k default).path=(l.getD i default).path))
def isServer (s:SServer):Bool:=(List.range s.files.length).all (srvOk s.files)&&(isName s.host&&decide (s.files.length≤10))
theorem all_step {f:Nat→Bool} {n:Nat} (h:(List.range n).all f=true) (h2:f n=true):(List.range (n+1)).all f=true:=by rw[List.range_succ,List.all_append,h];simp[h2]
theorem all_no {f:Nat→Bool} {n m:Nat} (h:m<n) (h2:f m=false):(List.range n).all f=false:=by
 rw[Bool.eq_false_iff]
 intro q
 rw[List.all_eq_true.1 q m (List.mem_range.2 h)] at h2
 cases h2
theorem isServer_no {s:SServer} {i:Nat} (h:i<s.files.length) (h2:srvOk s.files i=false):isServer s=false:=by
 unfold isServer;rw[all_no h h2];rfl
theorem push_present (t:STab) (p:SPage):presentPage (pushVisit t p)=(p,true)∧presentAddr (pushVisit t p)=(p.addr,true):=by
 have hl:=pushed_len t p
 have hg:(pushed t p).getD (visitsUpTo t) default=⟨p.addr,p,true⟩:=by
  have q:=upto_le t
  unfold pushed
  rw[List.getD_eq_getElem?_getD,List.getElem?_append_right (by rw[List.length_take];omega)]
  rw[List.length_take,show visitsUpTo t-min (visitsUpTo t) t.visits.length=0 by omega];rfl
 have e:∃ l:List SVisit,pushVisit t p=⟨l,(l.length:Int)-1⟩∧0<l.length∧l.getD (l.length-1) default=⟨p.addr,p,true⟩:=by
  unfold pushVisit
  split
  ·rename_i h
   refine⟨(pushed t p).drop 1,by rfl,by rw[List.length_drop];omega,?_⟩
   rw[List.length_drop,List.getD_eq_getElem?_getD,List.getElem?_drop,show 1+((pushed t p).length-1-1)=visitsUpTo t by omega,←List.getD_eq_getElem?_getD,hg]
  ·refine⟨pushed t p,by rfl,by omega,?_⟩
   rw[hl,Nat.add_sub_cancel,hg]
 obtain⟨l,e1,e2,e3⟩:=e
 rw[e1]
 have e4:((l.length:Int)-1).toNat=l.length-1:=by omega
 constructor
 ·unfold presentPage
  dsimp only
  rw[e4,e3,if_pos ⟨by omega,by omega,rfl⟩]
 ·unfold presentAddr
  dsimp only
  rw[e4,e3,if_pos ⟨by omega,by omega⟩]
theorem push_tab {t:STab} (p:SPage) (h:isTab t=true):isTab (pushVisit t p)=true:=by
 have hl:=pushed_len t p
 unfold isTab at h
 rw[Bool.and_eq_true,decide_eq_true_eq] at h
 have hv:(pushed t p).all visitOk=true:=by
  unfold pushed
  rw[List.all_append,Bool.and_eq_true]
  refine⟨?_,by simp[visitOk]⟩
  rw[List.all_eq_true]
  intro v hv
  exact List.all_eq_true.1 h.1 v (List.mem_of_mem_take hv)
 have hu:=upto_le t
 unfold pushVisit
 split
 ·unfold isTab
  rw[Bool.and_eq_true,decide_eq_true_eq]
  refine⟨?_,?_⟩
  ·rw[List.all_eq_true]
   intro v hv2
   exact List.all_eq_true.1 hv v (List.mem_of_mem_drop hv2)
  ·dsimp only
   rw[List.length_drop]
   omega
 ·unfold isTab
  rw[Bool.and_eq_true,decide_eq_true_eq]
  refine⟨hv,?_⟩
  dsimp only
  omega
theorem move_back {t:STab} {b:Int} (h:(moveTo t b).2=true):moveTo (moveTo t b).1 (-b)=(t,true):=by
 unfold moveTo at h
 split at h
 ·rename_i q
  unfold moveTo
  rw[if_pos q]
  dsimp only
  rw[if_pos (by omega)]
  rw[show t.at_+b + -b=t.at_ by omega]
 ·cases h
theorem move_not {t:STab} {b:Int} (h:(moveTo t b).2=false):(moveTo t b).1=t:=by
 unfold moveTo at h ⊢
 split at h
 ·cases h
 ·rename_i q;rw[if_neg q]
theorem moveTo_szE (t:STab) (b:Int):szTab (moveTo t b).1=szTab t:=by
 unfold moveTo
 split<;>rfl
theorem moveTo_at {t:STab} {b:Int} (h : -9223372036854775808≤t.at_∧t.at_≤9223372036854775807) (hl:t.visits.length≤1000000000000000) : -9223372036854775808≤(moveTo t b).1.at_∧(moveTo t b).1.at_≤9223372036854775807:=by
 unfold moveTo
 split
 ·dsimp only;omega
 ·exact h
theorem push_at (t:STab) (p:SPage) : -9223372036854775808≤(pushVisit t p).at_∧(pushVisit t p).at_≤9223372036854775807:=by
 have hl:=pushed_len t p
 unfold pushVisit
 have hu:visitsUpTo t≤7:=by unfold visitsUpTo;omega
 split
 ·dsimp only;rw[List.length_drop];omega
 ·dsimp only;omega
theorem okJ_mono {p:SPage} {n m:Nat} (h:okJ p n) (hn:n≤m):okJ p m:=by
 obtain⟨⟨a,b,c,⟨d1,d2,d3,d4⟩,e,f⟩,k⟩:=h
 exact⟨⟨okQ_mono a (by omega),b,c,⟨d1,by omega,by omega,d4⟩,e,f⟩,k⟩
theorem need_to {p:SPage} {n:Nat} {r:SRequest} (h:okJ p n) (hr:r∈nextNeeds p):szAddr r.to≤4000000000:=by
 have q:okTo p:=h.2.1
 rcases needs_to hr with⟨s,h1,h2⟩|⟨m,h1,h2⟩
 ·rw[h2];have:=q.1 s h1;omega
 ·rw[h2];have:=q.2 m h1;omega
theorem ans_sz (l:List SServer) (a:SAddr):(answerTo l a).policy.size≤szL szServer l∧(answerTo l a).body.size≤szL szServer l:=by
 have h:=answer_sz l a
 simp only[szResponse] at h
 exact⟨by omega,by omega⟩
theorem szL_modX {α:Type} [Inhabited α] (f:α→Nat) (g:α→α) (k:Nat):∀ (l:List α) (i:Nat),(i<l.length→f (g (l.getD i default))≤f (l.getD i default)+k)→szL f (l.modify i g)≤szL f l+k:=by
 intro l
 induction l with
 | nil=>intro i _;cases i<;>exact Nat.le_add_right _ _
 | cons x l ih=>
  intro i h
  cases i with
  | zero=>
   have h2:f (g x)≤f x+k:=h (by simp)
   show szL f (g x::l)≤_
   rw[szL_cons,szL_cons];omega
  | succ i=>
   have h2:=ih i (fun q=>h (by simpa using q))
   show szL f (x::l.modify i g)≤_
   rw[szL_cons,szL_cons];omega
theorem put_old (L:List SServer) (n k:Nat) (x:SResponse):szL szServer (L.modify n fun z=>{ host:=z.host,files:=(L.getD n default).files.modify k fun z=>{ path:=z.path,response:=x }})≤szL szServer L+szResponse x:=by
 refine szL_modX _ _ _ _ _ fun h=>?_
 have h2:=szL_modX szFile (fun z=>{ path:=z.path,response:=x }) (szResponse x) (L.getD n default).files k (fun _=>by simp only[szFile];omega)
 simp only[szServer] at *;omega
theorem put_new (L:List SServer) (n:Nat) (p:ByteArray) (x:SResponse):szL szServer (L.modify n fun z=>{ host:=z.host,files:=(L.getD n default).files++[{ path:=p,response:=x }]})≤szL szServer L+(p.size+szResponse x+1):=by
 refine szL_modX _ _ _ _ _ fun h=>?_
 have h2:szL szFile [({ path:=p,response:=x }:SFile)]=p.size+szResponse x+1:=by simp[szL,szFile];omega
 simp only[szServer,szL_cat,h2];omega
theorem srv_le (L:List SServer) (n:Nat):szServer (L.getD n default)≤szL szServer L:=by
 rcases Nat.lt_or_ge n L.length with h|h
 ·have:=szL_get szServer h;omega
 ·rw[List.getD_eq_getElem?_getD,List.getElem?_eq_none h];exact Nat.zero_le _
theorem srv_files (L:List SServer) (n:Nat):(L.getD n default).files.length≤szL szServer L:=by
 have h1:=srv_le L n
 have h2:=szL_len szFile (L.getD n default).files
 simp only[szServer] at h1;omega
theorem srv_one (h:ByteArray) (l:List SServer):szL szServer (l++[{ host:=h,files:=[]}])=szL szServer l+h.size+1:=by
 rw[szL_cat];simp[szL,szServer];omega
theorem srv_bad {s:SServer} {i:Nat} (h:i<s.files.length) (h2:srvOk s.files i=false):false=isServer s:=(isServer_no h h2).symm
theorem srv_b1 {l:List SFile} {i:Nat} (h:isName (l.getD i default).path=false):srvOk l i=false:=by unfold srvOk;rw[h];rfl
theorem srv_b2 {l:List SFile} {i:Nat} (h:isResponse (l.getD i default).response=false):srvOk l i=false:=by unfold srvOk;rw[h,Bool.false_and,Bool.and_false]
theorem srv_b3 {l:List SFile} {i k:Nat} (hk:k<i) (h:(l.getD k default).path=(l.getD i default).path):srvOk l i=false:=by
 unfold srvOk;rw[all_no hk (by rw[decide_eq_true h];rfl),Bool.and_false,Bool.and_false]
theorem srv_ok {l:List SFile} {i:Nat} (h1:isName (l.getD i default).path=true) (h2:isResponse (l.getD i default).response=true) (h3:((List.range i).all fun k=>!decide ((l.getD k default).path=(l.getD i default).path))=true):srvOk l i=true:=by unfold srvOk;rw[h1,h2,h3];rfl
theorem srv_fin {s:SServer} {i:Nat} (h:i=s.files.length) (h2:(List.range i).all (srvOk s.files)=true):isServer s=(isName s.host&&decide (s.files.length≤10)):=by unfold isServer;rw[←h,h2,Bool.true_and]
def fIsServerY:Fct:=⟨[.v (.el .server)],[.el .bool],fun(x_:SServer×Unit)=>szServer x_.1≤200000000,fun(x_:SServer×Unit)=>(isServer x_.1,())⟩
abbrev W_spec_IsServer_fIsServerY_2 (s:SServer):LInv:=⟨[⟨.s,3,true,.el .int⟩,⟨.b,1,false,.el .server⟩],fun(z_:Int×SServer×Unit) (x_:Int×SServer×Unit)=>(0≤x_.1∧x_.1≤s.files.length∧(List.range x_.1.toNat).all (srvOk s.files)=true)∧x_.2.1=z_.2.1,fun(x_:Int×SServer×Unit)=>s.files.length-x_.1.toNat⟩
abbrev W_spec_IsServer_fIsServerY_7 (s:SServer):LInv:=⟨[⟨.s,4,true,.el .int⟩,⟨.s,3,true,.el .int⟩,⟨.b,1,false,.el .server⟩],fun(z_:Int×Int×SServer×Unit) (x_:Int×Int×SServer×Unit)=>(x_.2.1=z_.2.1∧0≤x_.1∧x_.1≤x_.2.1∧((List.range x_.1.toNat).all fun j=>!decide ((s.files.getD j default).path=(s.files.getD x_.2.1.toNat default).path))=true)∧x_.2.2.1=z_.2.2.1,fun(x_:Int×Int×SServer×Unit)=>(x_.2.1-x_.1).toNat⟩
theorem k84_152:fIsServerY.ok Tryz.prog 84:=Fct.of (S:=fIsServerY) (L:=fun⟨s,_⟩=>fun|2=>some (W_spec_IsServer_fIsServerY_2 s)|7=>some (W_spec_IsServer_fIsServerY_7 s)|_=>none) (kp:=[1,2,3,4,9,29,32,47,1000009,1000029,1000032,1000047]) E152ok Tryz.func84 (by kernel_rfl) (by kernel_rfl) (by
 rintro⟨(s:SServer),_⟩ hp
 refine ho (lpx (W_spec_IsServer_fIsServerY_2 s) ((0:Int),(s,())) fun(y1:Int×SServer×PUnit) bk1=>.br (decide (y1.1<(↑y1.2.1.files.length:Int))) (.ob (inB y1.1 y1.2.1.files.length)<|.cl fIsName ((y1.2.1.files.getD y1.1.toNat default).path,()) fun z2=>.br (!z2.1) (.lf fIsServerY (false,())) (.ob (inB y1.1 y1.2.1.files.length)<|.cl fIsResponse ((y1.2.1.files.getD y1.1.toNat default).response,()) fun z3=>.br (!z3.1) (.lf fIsServerY (false,())) (lpx (W_spec_IsServer_fIsServerY_7 s) ((0:Int),(y1.1,(y1.2.1,()))) fun(y9:Int×Int×SServer×PUnit) bk9=>.br (decide (y9.1<y9.2.1)) (.ob (inB y9.1 y9.2.2.1.files.length)<|.ob (inB y9.2.1 y9.2.2.1.files.length)<|.br ((y9.2.2.1.files.getD y9.1.toNat default).path.toList==(y9.2.2.1.files.getD y9.2.1.toNat default).path.toList) (.lf fIsServerY (false,())) (.ob (bk9 (w1 y9.1,(y9.2.1,(y9.2.2.1,()))))<|.ok)) (.ob (bk1 (w1 y9.2.1,(y9.2.2.1,())))<|.ok)))) (.cl fIsName (y1.2.1.host,()) fun z4=>.br (z4.1) (.lf fIsServerY (decide ((↑y1.2.1.files.length:Int)≤10),())) (.lf fIsServerY (false,())))) ?_
 refine lpx_i ?_ fun(y1:Int×SServer×PUnit) i1=>br_i (fun h2=>ob_i ?_ fun o3=>cl_i ?_ fun o4=>(br_i (fun h5=>lfY ?_) (fun h5=>ob_i ?_ fun o6=>cl_i ?_ fun o7=>(br_i (fun h8=>lfY ?_) (fun h8=>lpx_i ?_ fun(y9:Int×Int×SServer×PUnit) i9=>br_i (fun h10=>ob_i ?_ fun o11=>ob_i ?_ fun o12=>br_i (fun h13=>lfY ?_) (fun h13=>ob_i ?_ fun o14=>trivial)) (fun h10=>ob_i ?_ fun o15=>trivial)))))) (fun h2=>cl_i ?_ fun o16=>(br_i (fun h17=>lfY ?_) (fun h17=>lfY ?_)))
 all_goals
  have hl:=szL_len szFile s.files
  have hs:szServer s=s.host.size+szL szFile s.files:=rfl
  have hg:=fun(i:Nat) (h:i<s.files.length)=>szL_get szFile h
  try simp only[std0] at *
  try simp only[W_spec_IsServer_fIsServerY_2,W_spec_IsServer_fIsServerY_7,fIsName,fIsResponse,fIsServerY,std,Nat.reduceAdd,szF,toF,eqF,mkF,heF] at *
 all_goals try (obtain⟨⟨j1,j2,j3⟩,e1⟩:=i1;simp only[e1] at *)
 all_goals try (obtain⟨⟨k1,k2,k3,k4⟩,e9⟩:=i9;simp only[e9,k1] at *)
 all_goals first|omega|exact⟨by omega,by omega,rfl⟩|exact⟨by omega,by omega⟩|skip
 all_goals first|(have q:=hg y1.1.toNat (by omega);simp only[szFile,szResponse] at q;omega)|skip
 all_goals first|exact srv_bad (i:=y1.1.toNat) (by omega) (srv_b1 (by assumption))|exact srv_bad (i:=y1.1.toNat) (by omega) (srv_b2 (by assumption))|exact srv_bad (i:=y1.1.toNat) (by omega) (srv_b3 (k:=y9.1.toNat) (by omega) (by assumption))|skip
 all_goals try simp(disch:=omega) only[wrapId',toNat1] at *
 all_goals first|exact⟨⟨⟨by first|rfl|trivial,by omega,by omega,all_step k4 (by rw[decide_eq_false (by assumption)];rfl)⟩,by first|rfl|trivial⟩,by omega⟩|skip
 all_goals
  try have q9:y9.1.toNat=y1.1.toNat:=by omega
  try rw[q9] at k4
 all_goals first|exact⟨⟨⟨by omega,by omega,all_step j3 (srv_ok (by assumption) (by assumption) k4)⟩,by first|rfl|trivial⟩,by omega⟩|skip
 all_goals try rw[srv_fin (i:=y1.1.toNat) (by omega) j3]
 all_goals first|(simp_all;done)|(simp_all;omega)|skip)
def E153:=E152.add 84 fIsServerY
theorem E153ok:EOk Tryz.prog E153:=E152ok.add k84_152
def fPutFileY:Xct:=⟨[.v (.sl .server),.v (.el .addr),.v (.el .response)],[.sl .server,.el .bool],fun(x_:(List SServer)×SAddr×SResponse×Unit)=>szL szServer x_.1≤100000000∧szAddr x_.2.1≤1000∧szResponse x_.2.2.1≤10000,fun(x_:(List SServer)×SAddr×SResponse×Unit) (y_:(List SServer)×Bool×Unit)=>szL szServer y_.1≤szL szServer x_.1+szAddr x_.2.1+szResponse x_.2.2.1+10⟩
end Go.Proofs.YtembimgkibocmaaGreat.fnHistories
