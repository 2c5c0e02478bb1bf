/-
  The law FnPriorities returns true for all codes, whatever is drawn from them. No condition.
-/
import Derived.Test.YtkmilnnddljcnaaGreatVPPriorities2
import Derived.Test.YtkmilnnddljcnaaGreatVLd
import Derived.WalkKit
import Derived.BigGuard
import Derived.Deep.QuietTactic
import Derived.BigQuiet
import Derived.Lib.ConvBytes
import Derived.Sort.WalkC
import Derived.Test.YtkmilnnddljcnaaGreatRows
import Derived.WalkKit
import Derived.ProofKit
import Derived.OpenShut
namespace Go.Proofs.YtkmilnnddljcnaaGreat.fnPriorities
open Go.Proofs.YtkmilnnddljcnaaGreat
open Go.D
set_option maxRecDepth 100000
set_option maxHeartbeats 2000000
set_option linter.unusedVariables false
set_option linter.unusedSimpArgs false
theorem k131_104:fScript.ok Tryz.prog 131:=GS.of (S:=fScript) (L:=fun _ _=>none) (kp:=[1,2,4,5,6,7,8,10,12,14,15,55,61,64,75,1000055,1000061,1000064,1000075]) E104ok Tryz.func131 (by kernel_rfl) (by kernel_rfl) (by
 rintro⟨(p:SPage),(n:Int),_⟩ hp
 refine ho (.ob (inB n p.builder.nodes.length)<|.ob (Int.toNat n<p.builder.nodes.length)<|.cl fFindAttr ((p.builder.nodes.getD (Int.toNat n) default).attrs,(⟨#[115,114,99]⟩:ByteArray),()) fun z2=>.cl fFindAttr ((p.builder.nodes.getD (Int.toNat n) default).attrs,(⟨#[107,105,110,100]⟩:ByteArray),()) fun z3=>.cl fFindAttr ((p.builder.nodes.getD (Int.toNat n) default).attrs,(⟨#[100,105,103,101,115,116]⟩:ByteArray),()) fun z4=>.cl fFindAttr ((p.builder.nodes.getD (Int.toNat n) default).attrs,(⟨#[110,111,110,99,101]⟩:ByteArray),()) fun z5=>.br (!z2.2.1) (.cl fAllowsInline (p.policy,z5.1,()) fun z6=>.br (z6.1) (GS.out fScript ((⟨p.addr,p.policy,p.tok,p.queue,p.ended,p.builder,p.slots,p.mods,p.entries,p.block,n,p.deferred,p.entered,p.ran,p.log,p.loaded⟩,()),(()))) (GS.out fScript ((p,()),(())))) (.br (z3.1.toList==(⟨#[100,101,102,101,114]⟩:ByteArray).toList) (.cl fAddSlot (p,(4:Int),z2.1,z4.1,n,()) fun(z7:SPage×Int×PUnit)=>GS.out fScript ((z7.1,()),(()))) (.br (z3.1.toList==(⟨#[109,111,100,117,108,101]⟩:ByteArray).toList) (.cl fAddEntry (p,z2.1,()) fun z8=>GS.out fScript ((z8.1,()),(()))) (.cl fAddSlot (p,(3:Int),z2.1,z4.1,n,()) fun(z9:SPage×Int×PUnit)=>GS.out fScript ((⟨z9.1.addr,z9.1.policy,z9.1.tok,z9.1.queue,z9.1.ended,z9.1.builder,z9.1.slots,z9.1.mods,z9.1.entries,w1 z9.2.1,z9.1.inline,z9.1.deferred,z9.1.entered,z9.1.ran,z9.1.log,z9.1.loaded⟩,()),(())))))) ?_
 refine ob_i ?_ fun o1=>ob_i ?_ fun o2=>cl_i ?_ fun o3=>(cl_i ?_ fun o4=>(cl_i ?_ fun o5=>(cl_i ?_ fun o6=>(br_i (fun h7=>cl_i trivial fun _=>(br_i (fun h8=>GS.leafY ?_) (fun h8=>GS.leafY ?_))) (fun h7=>br_i (fun h9=>cl_i ?_ fun o10=>(GS.leafY ?_)) (fun h9=>br_i (fun h11=>cl_i ?_ fun o12=>(GS.leafY ?_)) (fun h11=>cl_i ?_ fun o13=>(GS.leafY ?_))))))))
 all_goals
  have hn:=node_attrs p.builder.nodes n.toNat (by have q1:0≤n:=hp.2.2.2.1;have q2:n<p.builder.nodes.length:=hp.2.2.2.2;omega)
  have hn2:=szL_len szAttr (p.builder.nodes.getD n.toNat default).attrs
 all_goals generalize hat:(p.builder.nodes.getD n.toNat default).attrs=at_ at *
 all_goals
  have h1:=findAttr_sz at_ ⟨#[110,111,110,99,101]⟩
  have h2:=findAttr_sz at_ ⟨#[115,114,99]⟩
  have h3:=findAttr_sz at_ ⟨#[100,105,103,101,115,116]⟩
  have h4:=fun m to d=>addSlot_in p m to d n
  try simp only[std0] at *
  try simp only[fAddEntry,fAddSlot,fAllowsInline,fFindAttr,fScript,std,Nat.reduceAdd,szF,toF,eqF,mkF,heF,script,fFindAttr,fAddSlot,fAllowsInline,fAddEntry] at *
  try simp(disch:=omega) only[wrapId',toNat1] at *
  try simp(disch:=omega) only[if_pos,if_neg]
 all_goals first|trivial|omega|grind[wrapId',toNat1,drop_cons,drop_end,good_len,maxLen,script,fFindAttr,fAddSlot,fAllowsInline,fAddEntry])
def E105:=E104.addG 131 fScript
theorem E105ok:EOk Tryz.prog E105:=E104ok.addG k131_104
def isScript (p:SPage) (t:SToken):Bool:=decide (t.kind=2)&&(decide (t.name=⟨#[115,99,114,105,112,116]⟩)&&(decide (0<p.builder.open_.length∧1≤lastOpen p.builder∧lastOpen p.builder<p.builder.nodes.length)&&decide ((p.builder.nodes.getD (lastOpen p.builder).toNat default).name=⟨#[115,99,114,105,112,116]⟩)))
def taken (p:SPage) (t:SToken):SPage:={ p with queue:=p.queue.drop 1,builder:=(addToken p.builder t).1 }
def takeTok (p:SPage) (t:SToken):SPage :=
 if t.kind=1∧0≤(addToken p.builder t).2 then element (taken p t) t (addToken p.builder t).2
 else if isScript p t=true then script (taken p t) (lastOpen p.builder)
 else taken p t
def takeToken (p:SPage):SPage×Bool:=if p.queue.length=0∨p.block≠0∨p.inline≠0 then(p,false) else(takeTok p (p.queue.getD 0 default),true)
theorem cutDrop {l:List SToken}:cut l 1 (l.length-1)=l.drop 1:=by
 unfold cut;rw[List.take_of_length_le (by simp)]
theorem taken_eq (p:SPage) (t:SToken):(⟨p.addr,p.policy,p.tok,cut p.queue 1 (p.queue.length-1),p.ended,(addToken p.builder t).1,p.slots,p.mods,p.entries,p.block,p.inline,p.deferred,p.entered,p.ran,p.log,p.loaded⟩:SPage)=taken p t:=by rw[cutDrop];rfl
theorem closeN_len (b:SBuilder) (n:ByteArray):∀ k,k≤b.open_.length→(closeN b n k).length≤b.open_.length
 | 0,_=>Nat.le_refl _
 | 1,_=>Nat.le_refl _
 | m+2,h=>by
  rw[closeN]
  split
  ·rw[List.length_take];omega
  ·exact closeN_len b n (m+1) (by omega)
theorem addToken_sz (b:SBuilder) (t:SToken):szL szNode (addToken b t).1.nodes≤szL szNode b.nodes+szToken t+1∧(addToken b t).1.open_.length≤b.open_.length+1∧(t.kind=2→(addToken b t).1.nodes=b.nodes):=by
 have h0:szL szNode []=0:=rfl
 have h2:szL szAttr []=0:=rfl
 have h3:ByteArray.size ⟨#[]⟩=0:=rfl
 unfold addToken
 split
 ·have:=closeN_len b t.name _ (Nat.le_refl _)
  exact⟨by show szL szNode b.nodes≤_;omega,by show(closeN b t.name b.open_.length).length≤_;omega,fun _=>rfl⟩
 ·split
  ·split
   ·refine⟨?_,?_,fun h=>absurd h (by omega)⟩
    ·dsimp only;rw[szL_app,szL_cons,h0];simp only[szNode,szToken,h3];omega
    ·dsimp only;split
     ·omega
     ·simp
   ·refine⟨?_,?_,fun h=>absurd h (by omega)⟩
    ·dsimp only;rw[szL_app,szL_cons,h0];simp only[szNode,szToken,h3,h2];omega
    ·exact Nat.le_succ _
  ·exact⟨by dsimp only;omega,Nat.le_succ _,fun _=>rfl⟩
theorem taken_sz (p:SPage) (h:0<p.queue.length):szPage (taken p (p.queue.getD 0 default))≤szPage p+2∧szToken (p.queue.getD 0 default)+1+szL szToken (p.queue.drop 1)=szL szToken p.queue:=by
 have h1:=szL_at szToken h
 rw[List.drop_zero,Nat.zero_add] at h1
 have h2:=addToken_sz p.builder (p.queue.getD 0 default)
 refine⟨?_,h1.symm⟩
 simp only[szPage,taken,szBuilder]
 omega
theorem isScript_yes {p:SPage} {t:SToken} (h1:t.kind=2) (h2:t.name=⟨#[115,99,114,105,112,116]⟩) (h3:0<p.builder.open_.length) (h4:1≤lastOpen p.builder) (h5:lastOpen p.builder<p.builder.nodes.length) (h6:(p.builder.nodes.getD (lastOpen p.builder).toNat default).name=⟨#[115,99,114,105,112,116]⟩):isScript p t=true:=by
 unfold isScript;rw[decide_eq_true h1,decide_eq_true h2,decide_eq_true ⟨h3,h4,h5⟩,decide_eq_true h6];rfl
theorem isScript_no {p:SPage} {t:SToken} (h:¬ t.kind=2∨¬ t.name=⟨#[115,99,114,105,112,116]⟩∨¬ (0<p.builder.open_.length∧1≤lastOpen p.builder∧lastOpen p.builder<p.builder.nodes.length)∨¬ (p.builder.nodes.getD (lastOpen p.builder).toNat default).name=⟨#[115,99,114,105,112,116]⟩):¬ isScript p t=true:=by
 unfold isScript
 simp only[Bool.and_eq_true,decide_eq_true_eq]
 rintro⟨q1,q2,q3,q4⟩
 rcases h with h|h|h|h
 ·exact h q1
 ·exact h q2
 ·exact h q3
 ·exact h q4
theorem takeTok_el {p:SPage} {t:SToken} (h1:t.kind=1) (h2:0≤(addToken p.builder t).2):takeTok p t=element (taken p t) t (addToken p.builder t).2:=by unfold takeTok;rw[if_pos ⟨h1,h2⟩]
theorem takeTok_sc {p:SPage} {t:SToken} (h1:t.kind=2) (h2:isScript p t=true):takeTok p t=script (taken p t) (lastOpen p.builder):=by unfold takeTok;rw[if_neg (by omega),if_pos h2]
theorem takeTok_no {p:SPage} {t:SToken} (h1:¬ t.kind=1∨(addToken p.builder t).2<0) (h2:¬ isScript p t=true):takeTok p t=taken p t:=by unfold takeTok;rw[if_neg (by omega),if_neg h2]
def okTok (p:SPage):Prop:=szPage p≤1000000000000∧p.addr.host.size≤4000000000∧(∀ i,i<p.queue.length→szToken (p.queue.getD i default)≤1000000000)∧szL szNode p.builder.nodes≤1000000000∧p.builder.open_.length≤1000000000
def fTakeToken:Fct:=⟨[.v (.el .page)],[.el .page,.el .bool],fun(x_:SPage×Unit)=>okTok x_.1,fun(x_:SPage×Unit)=>((takeToken x_.1).1,(takeToken x_.1).2,())⟩
theorem k107_105:fTakeToken.ok Tryz.prog 107:=Fct.o [1,2,3,4,5,6,7,8,24,38,64,95,1000024,1000038,1000064,1000095] E105ok Tryz.func107 (by
 rintro⟨(p:SPage),_⟩ hp
 refine ho (.cl fCopyPage (p,()) fun z2=>.br ((↑p.queue.length:Int)==0) (.lf fTakeToken (z2.1,false,())) (.br (p.block != 0) (.lf fTakeToken (z2.1,false,())) (.br (p.inline != 0) (.lf fTakeToken (z2.1,false,())) (.ob ((0:Int)≤(0:Int)∧(0:Int)<(↑z2.1.queue.length:Int))<|.ob (0<z2.1.queue.length)<|.ob ((0:Int)≤(1:Int)∧(1:Int)≤(↑z2.1.queue.length:Int))<|.br (decide ((↑p.builder.open_.length:Int)>0)) (.ob (0≤wr ((↑p.builder.open_.length:Int)-(1:Int))∧wr ((↑p.builder.open_.length:Int)-(1:Int))<(↑p.builder.open_.length:Int))<|.cl fAddToken (p.builder,z2.1.queue.getD 0 default,()) fun(z3:SBuilder×Int×PUnit)=>.br ((z2.1.queue.getD 0 default).kind==1) (.br (decide (z3.2.1≥0)) (.ob (1+(z2.1.queue.length-1)≤z2.1.queue.length)<|.ob (fElement.pre ((⟨z2.1.addr,z2.1.policy,z2.1.tok,cut z2.1.queue 1 (z2.1.queue.length-1),z2.1.ended,z3.1,z2.1.slots,z2.1.mods,z2.1.entries,z2.1.block,z2.1.inline,z2.1.deferred,z2.1.entered,z2.1.ran,z2.1.log,z2.1.loaded⟩:SPage),z2.1.queue.getD 0 default,z3.2.1,()))<|.lt _ (fElement.fn ((⟨z2.1.addr,z2.1.policy,z2.1.tok,cut z2.1.queue 1 (z2.1.queue.length-1),z2.1.ended,z3.1,z2.1.slots,z2.1.mods,z2.1.entries,z2.1.block,z2.1.inline,z2.1.deferred,z2.1.entered,z2.1.ran,z2.1.log,z2.1.loaded⟩:SPage),z2.1.queue.getD 0 default,z3.2.1,())) fun z4=>.br ((z2.1.queue.getD 0 default).kind==2) (.br ((z2.1.queue.getD 0 default).name.toList==(⟨#[115,99,114,105,112,116]⟩:ByteArray).toList) (.cl fInRange (p.builder.open_.getD (wr ((↑p.builder.open_.length:Int)-(1:Int))).toNat default,(1:Int),wr ((↑p.builder.nodes.length:Int)-(1:Int)),()) fun z5=>.br (z5.1) (.ob (0≤p.builder.open_.getD (wr ((↑p.builder.open_.length:Int)-(1:Int))).toNat default∧p.builder.open_.getD (wr ((↑p.builder.open_.length:Int)-(1:Int))).toNat default<(↑p.builder.nodes.length:Int))<|.br ((p.builder.nodes.getD (p.builder.open_.getD (wr ((↑p.builder.open_.length:Int)-(1:Int))).toNat default).toNat default).name.toList==(⟨#[115,99,114,105,112,116]⟩:ByteArray).toList) (.ob (fScript.pre (z4.1.1,p.builder.open_.getD (wr ((↑p.builder.open_.length:Int)-(1:Int))).toNat default,()))<|.lt _ (fScript.fn (z4.1.1,p.builder.open_.getD (wr ((↑p.builder.open_.length:Int)-(1:Int))).toNat default,())) fun z6=>.lf fTakeToken (z6.1.1,true,())) (.lf fTakeToken (z4.1.1,true,()))) (.lf fTakeToken (z4.1.1,true,()))) (.lf fTakeToken (z4.1.1,true,()))) (.lf fTakeToken (z4.1.1,true,()))) (.br ((z2.1.queue.getD 0 default).kind==2) (.br ((z2.1.queue.getD 0 default).name.toList==(⟨#[115,99,114,105,112,116]⟩:ByteArray).toList) (.cl fInRange (p.builder.open_.getD (wr ((↑p.builder.open_.length:Int)-(1:Int))).toNat default,(1:Int),wr ((↑p.builder.nodes.length:Int)-(1:Int)),()) fun z7=>.br (z7.1) (.ob (0≤p.builder.open_.getD (wr ((↑p.builder.open_.length:Int)-(1:Int))).toNat default∧p.builder.open_.getD (wr ((↑p.builder.open_.length:Int)-(1:Int))).toNat default<(↑p.builder.nodes.length:Int))<|.br ((p.builder.nodes.getD (p.builder.open_.getD (wr ((↑p.builder.open_.length:Int)-(1:Int))).toNat default).toNat default).name.toList==(⟨#[115,99,114,105,112,116]⟩:ByteArray).toList) (.ob (1+(z2.1.queue.length-1)≤z2.1.queue.length)<|.ob (fScript.pre ((⟨z2.1.addr,z2.1.policy,z2.1.tok,cut z2.1.queue 1 (z2.1.queue.length-1),z2.1.ended,z3.1,z2.1.slots,z2.1.mods,z2.1.entries,z2.1.block,z2.1.inline,z2.1.deferred,z2.1.entered,z2.1.ran,z2.1.log,z2.1.loaded⟩:SPage),p.builder.open_.getD (wr ((↑p.builder.open_.length:Int)-(1:Int))).toNat default,()))<|.lt _ (fScript.fn ((⟨z2.1.addr,z2.1.policy,z2.1.tok,cut z2.1.queue 1 (z2.1.queue.length-1),z2.1.ended,z3.1,z2.1.slots,z2.1.mods,z2.1.entries,z2.1.block,z2.1.inline,z2.1.deferred,z2.1.entered,z2.1.ran,z2.1.log,z2.1.loaded⟩:SPage),p.builder.open_.getD (wr ((↑p.builder.open_.length:Int)-(1:Int))).toNat default,())) fun z8=>.lf fTakeToken (z8.1.1,true,())) (.ob (1+(z2.1.queue.length-1)≤z2.1.queue.length)<|.lf fTakeToken (⟨z2.1.addr,z2.1.policy,z2.1.tok,cut z2.1.queue 1 (z2.1.queue.length-1),z2.1.ended,z3.1,z2.1.slots,z2.1.mods,z2.1.entries,z2.1.block,z2.1.inline,z2.1.deferred,z2.1.entered,z2.1.ran,z2.1.log,z2.1.loaded⟩,true,()))) (.ob (1+(z2.1.queue.length-1)≤z2.1.queue.length)<|.lf fTakeToken (⟨z2.1.addr,z2.1.policy,z2.1.tok,cut z2.1.queue 1 (z2.1.queue.length-1),z2.1.ended,z3.1,z2.1.slots,z2.1.mods,z2.1.entries,z2.1.block,z2.1.inline,z2.1.deferred,z2.1.entered,z2.1.ran,z2.1.log,z2.1.loaded⟩,true,()))) (.ob (1+(z2.1.queue.length-1)≤z2.1.queue.length)<|.lf fTakeToken (⟨z2.1.addr,z2.1.policy,z2.1.tok,cut z2.1.queue 1 (z2.1.queue.length-1),z2.1.ended,z3.1,z2.1.slots,z2.1.mods,z2.1.entries,z2.1.block,z2.1.inline,z2.1.deferred,z2.1.entered,z2.1.ran,z2.1.log,z2.1.loaded⟩,true,()))) (.ob (1+(z2.1.queue.length-1)≤z2.1.queue.length)<|.lf fTakeToken (⟨z2.1.addr,z2.1.policy,z2.1.tok,cut z2.1.queue 1 (z2.1.queue.length-1),z2.1.ended,z3.1,z2.1.slots,z2.1.mods,z2.1.entries,z2.1.block,z2.1.inline,z2.1.deferred,z2.1.entered,z2.1.ran,z2.1.log,z2.1.loaded⟩,true,())))) (.br ((z2.1.queue.getD 0 default).kind==2) (.br ((z2.1.queue.getD 0 default).name.toList==(⟨#[115,99,114,105,112,116]⟩:ByteArray).toList) (.cl fInRange (p.builder.open_.getD (wr ((↑p.builder.open_.length:Int)-(1:Int))).toNat default,(1:Int),wr ((↑p.builder.nodes.length:Int)-(1:Int)),()) fun z9=>.br (z9.1) (.ob (0≤p.builder.open_.getD (wr ((↑p.builder.open_.length:Int)-(1:Int))).toNat default∧p.builder.open_.getD (wr ((↑p.builder.open_.length:Int)-(1:Int))).toNat default<(↑p.builder.nodes.length:Int))<|.br ((p.builder.nodes.getD (p.builder.open_.getD (wr ((↑p.builder.open_.length:Int)-(1:Int))).toNat default).toNat default).name.toList==(⟨#[115,99,114,105,112,116]⟩:ByteArray).toList) (.ob (1+(z2.1.queue.length-1)≤z2.1.queue.length)<|.ob (fScript.pre ((⟨z2.1.addr,z2.1.policy,z2.1.tok,cut z2.1.queue 1 (z2.1.queue.length-1),z2.1.ended,z3.1,z2.1.slots,z2.1.mods,z2.1.entries,z2.1.block,z2.1.inline,z2.1.deferred,z2.1.entered,z2.1.ran,z2.1.log,z2.1.loaded⟩:SPage),p.builder.open_.getD (wr ((↑p.builder.open_.length:Int)-(1:Int))).toNat default,()))<|.lt _ (fScript.fn ((⟨z2.1.addr,z2.1.policy,z2.1.tok,cut z2.1.queue 1 (z2.1.queue.length-1),z2.1.ended,z3.1,z2.1.slots,z2.1.mods,z2.1.entries,z2.1.block,z2.1.inline,z2.1.deferred,z2.1.entered,z2.1.ran,z2.1.log,z2.1.loaded⟩:SPage),p.builder.open_.getD (wr ((↑p.builder.open_.length:Int)-(1:Int))).toNat default,())) fun z10=>.lf fTakeToken (z10.1.1,true,())) (.ob (1+(z2.1.queue.length-1)≤z2.1.queue.length)<|.lf fTakeToken (⟨z2.1.addr,z2.1.policy,z2.1.tok,cut z2.1.queue 1 (z2.1.queue.length-1),z2.1.ended,z3.1,z2.1.slots,z2.1.mods,z2.1.entries,z2.1.block,z2.1.inline,z2.1.deferred,z2.1.entered,z2.1.ran,z2.1.log,z2.1.loaded⟩,true,()))) (.ob (1+(z2.1.queue.length-1)≤z2.1.queue.length)<|.lf fTakeToken (⟨z2.1.addr,z2.1.policy,z2.1.tok,cut z2.1.queue 1 (z2.1.queue.length-1),z2.1.ended,z3.1,z2.1.slots,z2.1.mods,z2.1.entries,z2.1.block,z2.1.inline,z2.1.deferred,z2.1.entered,z2.1.ran,z2.1.log,z2.1.loaded⟩,true,()))) (.ob (1+(z2.1.queue.length-1)≤z2.1.queue.length)<|.lf fTakeToken (⟨z2.1.addr,z2.1.policy,z2.1.tok,cut z2.1.queue 1 (z2.1.queue.length-1),z2.1.ended,z3.1,z2.1.slots,z2.1.mods,z2.1.entries,z2.1.block,z2.1.inline,z2.1.deferred,z2.1.entered,z2.1.ran,z2.1.log,z2.1.loaded⟩,true,()))) (.ob (1+(z2.1.queue.length-1)≤z2.1.queue.length)<|.lf fTakeToken (⟨z2.1.addr,z2.1.policy,z2.1.tok,cut z2.1.queue 1 (z2.1.queue.length-1),z2.1.ended,z3.1,z2.1.slots,z2.1.mods,z2.1.entries,z2.1.block,z2.1.inline,z2.1.deferred,z2.1.entered,z2.1.ran,z2.1.log,z2.1.loaded⟩,true,())))) (.cl fAddToken (p.builder,z2.1.queue.getD 0 default,()) fun(z11:SBuilder×Int×PUnit)=>.br ((z2.1.queue.getD 0 default).kind==1) (.br (decide (z11.2.1≥0)) (.ob (1+(z2.1.queue.length-1)≤z2.1.queue.length)<|.ob (fElement.pre ((⟨z2.1.addr,z2.1.policy,z2.1.tok,cut z2.1.queue 1 (z2.1.queue.length-1),z2.1.ended,z11.1,z2.1.slots,z2.1.mods,z2.1.entries,z2.1.block,z2.1.inline,z2.1.deferred,z2.1.entered,z2.1.ran,z2.1.log,z2.1.loaded⟩:SPage),z2.1.queue.getD 0 default,z11.2.1,()))<|.lt _ (fElement.fn ((⟨z2.1.addr,z2.1.policy,z2.1.tok,cut z2.1.queue 1 (z2.1.queue.length-1),z2.1.ended,z11.1,z2.1.slots,z2.1.mods,z2.1.entries,z2.1.block,z2.1.inline,z2.1.deferred,z2.1.entered,z2.1.ran,z2.1.log,z2.1.loaded⟩:SPage),z2.1.queue.getD 0 default,z11.2.1,())) fun z12=>.br ((z2.1.queue.getD 0 default).kind==2) (.br ((z2.1.queue.getD 0 default).name.toList==(⟨#[115,99,114,105,112,116]⟩:ByteArray).toList) (.cl fInRange ((-1:Int),(1:Int),wr ((↑p.builder.nodes.length:Int)-(1:Int)),()) fun z13=>.br (z13.1) (.ob ((0:Int)≤(-1:Int)∧(-1:Int)<(↑p.builder.nodes.length:Int))<|.br ((p.builder.nodes.getD 0 default).name.toList==(⟨#[115,99,114,105,112,116]⟩:ByteArray).toList) (.ob (fScript.pre (z12.1.1,(-1:Int),()))<|.lt _ (fScript.fn (z12.1.1,(-1:Int),())) fun z14=>.lf fTakeToken (z14.1.1,true,())) (.lf fTakeToken (z12.1.1,true,()))) (.lf fTakeToken (z12.1.1,true,()))) (.lf fTakeToken (z12.1.1,true,()))) (.lf fTakeToken (z12.1.1,true,()))) (.br ((z2.1.queue.getD 0 default).kind==2) (.br ((z2.1.queue.getD 0 default).name.toList==(⟨#[115,99,114,105,112,116]⟩:ByteArray).toList) (.cl fInRange ((-1:Int),(1:Int),wr ((↑p.builder.nodes.length:Int)-(1:Int)),()) fun z15=>.br (z15.1) (.ob ((0:Int)≤(-1:Int)∧(-1:Int)<(↑p.builder.nodes.length:Int))<|.br ((p.builder.nodes.getD 0 default).name.toList==(⟨#[115,99,114,105,112,116]⟩:ByteArray).toList) (.ob (1+(z2.1.queue.length-1)≤z2.1.queue.length)<|.ob (fScript.pre ((⟨z2.1.addr,z2.1.policy,z2.1.tok,cut z2.1.queue 1 (z2.1.queue.length-1),z2.1.ended,z11.1,z2.1.slots,z2.1.mods,z2.1.entries,z2.1.block,z2.1.inline,z2.1.deferred,z2.1.entered,z2.1.ran,z2.1.log,z2.1.loaded⟩:SPage),(-1:Int),()))<|.lt _ (fScript.fn ((⟨z2.1.addr,z2.1.policy,z2.1.tok,cut z2.1.queue 1 (z2.1.queue.length-1),z2.1.ended,z11.1,z2.1.slots,z2.1.mods,z2.1.entries,z2.1.block,z2.1.inline,z2.1.deferred,z2.1.entered,z2.1.ran,z2.1.log,z2.1.loaded⟩:SPage),(-1:Int),())) fun z16=>.lf fTakeToken (z16.1.1,true,())) (.ob (1+(z2.1.queue.length-1)≤z2.1.queue.length)<|.lf fTakeToken (⟨z2.1.addr,z2.1.policy,z2.1.tok,cut z2.1.queue 1 (z2.1.queue.length-1),z2.1.ended,z11.1,z2.1.slots,z2.1.mods,z2.1.entries,z2.1.block,z2.1.inline,z2.1.deferred,z2.1.entered,z2.1.ran,z2.1.log,z2.1.loaded⟩,true,()))) (.ob (1+(z2.1.queue.length-1)≤z2.1.queue.length)<|.lf fTakeToken (⟨z2.1.addr,z2.1.policy,z2.1.tok,cut z2.1.queue 1 (z2.1.queue.length-1),z2.1.ended,z11.1,z2.1.slots,z2.1.mods,z2.1.entries,z2.1.block,z2.1.inline,z2.1.deferred,z2.1.entered,z2.1.ran,z2.1.log,z2.1.loaded⟩,true,()))) (.ob (1+(z2.1.queue.length-1)≤z2.1.queue.length)<|.lf fTakeToken (⟨z2.1.addr,z2.1.policy,z2.1.tok,cut z2.1.queue 1 (z2.1.queue.length-1),z2.1.ended,z11.1,z2.1.slots,z2.1.mods,z2.1.entries,z2.1.block,z2.1.inline,z2.1.deferred,z2.1.entered,z2.1.ran,z2.1.log,z2.1.loaded⟩,true,()))) (.ob (1+(z2.1.queue.length-1)≤z2.1.queue.length)<|.lf fTakeToken (⟨z2.1.addr,z2.1.policy,z2.1.tok,cut z2.1.queue 1 (z2.1.queue.length-1),z2.1.ended,z11.1,z2.1.slots,z2.1.mods,z2.1.entries,z2.1.block,z2.1.inline,z2.1.deferred,z2.1.entered,z2.1.ran,z2.1.log,z2.1.loaded⟩,true,())))) (.br ((z2.1.queue.getD 0 default).kind==2) (.br ((z2.1.queue.getD 0 default).name.toList==(⟨#[115,99,114,105,112,116]⟩:ByteArray).toList) (.cl fInRange ((-1:Int),(1:Int),wr ((↑p.builder.nodes.length:Int)-(1:Int)),()) fun z17=>.br (z17.1) (.ob ((0:Int)≤(-1:Int)∧(-1:Int)<(↑p.builder.nodes.length:Int))<|.br ((p.builder.nodes.getD 0 default).name.toList==(⟨#[115,99,114,105,112,116]⟩:ByteArray).toList) (.ob (1+(z2.1.queue.length-1)≤z2.1.queue.length)<|.ob (fScript.pre ((⟨z2.1.addr,z2.1.policy,z2.1.tok,cut z2.1.queue 1 (z2.1.queue.length-1),z2.1.ended,z11.1,z2.1.slots,z2.1.mods,z2.1.entries,z2.1.block,z2.1.inline,z2.1.deferred,z2.1.entered,z2.1.ran,z2.1.log,z2.1.loaded⟩:SPage),(-1:Int),()))<|.lt _ (fScript.fn ((⟨z2.1.addr,z2.1.policy,z2.1.tok,cut z2.1.queue 1 (z2.1.queue.length-1),z2.1.ended,z11.1,z2.1.slots,z2.1.mods,z2.1.entries,z2.1.block,z2.1.inline,z2.1.deferred,z2.1.entered,z2.1.ran,z2.1.log,z2.1.loaded⟩:SPage),(-1:Int),())) fun z18=>.lf fTakeToken (z18.1.1,true,())) (.ob (1+(z2.1.queue.length-1)≤z2.1.queue.length)<|.lf fTakeToken (⟨z2.1.addr,z2.1.policy,z2.1.tok,cut z2.1.queue 1 (z2.1.queue.length-1),z2.1.ended,z11.1,z2.1.slots,z2.1.mods,z2.1.entries,z2.1.block,z2.1.inline,z2.1.deferred,z2.1.entered,z2.1.ran,z2.1.log,z2.1.loaded⟩,true,()))) (.ob (1+(z2.1.queue.length-1)≤z2.1.queue.length)<|.lf fTakeToken (⟨z2.1.addr,z2.1.policy,z2.1.tok,cut z2.1.queue 1 (z2.1.queue.length-1),z2.1.ended,z11.1,z2.1.slots,z2.1.mods,z2.1.entries,z2.1.block,z2.1.inline,z2.1.deferred,z2.1.entered,z2.1.ran,z2.1.log,z2.1.loaded⟩,true,()))) (.ob (1+(z2.1.queue.length-1)≤z2.1.queue.length)<|.lf fTakeToken (⟨z2.1.addr,z2.1.policy,z2.1.tok,cut z2.1.queue 1 (z2.1.queue.length-1),z2.1.ended,z11.1,z2.1.slots,z2.1.mods,z2.1.entries,z2.1.block,z2.1.inline,z2.1.deferred,z2.1.entered,z2.1.ran,z2.1.log,z2.1.loaded⟩,true,()))) (.ob (1+(z2.1.queue.length-1)≤z2.1.queue.length)<|.lf fTakeToken (⟨z2.1.addr,z2.1.policy,z2.1.tok,cut z2.1.queue 1 (z2.1.queue.length-1),z2.1.ended,z11.1,z2.1.slots,z2.1.mods,z2.1.entries,z2.1.block,z2.1.inline,z2.1.deferred,z2.1.entered,z2.1.ran,z2.1.log,z2.1.loaded⟩,true,())))))))) ?_
 refine cl_i ?_ fun o1=>(br_i (fun h2=>lfY ?_) (fun h2=>br_i (fun h3=>lfY ?_) (fun h3=>br_i (fun h4=>lfY ?_) (fun h4=>ob_i ?_ fun o5=>ob_i ?_ fun o6=>ob_i ?_ fun o7=>br_i (fun h8=>ob_i ?_ fun o9=>cl_i ?_ fun o10=>(br_i (fun h11=>br_i (fun h12=>ob_i ?_ fun o13=>ob_i ?_ fun o14=>lt_i (br_i (fun h15=>br_i (fun h16=>cl_i trivial fun _=>(br_i (fun h17=>ob_i ?_ fun o18=>br_i (fun h19=>ob_i ?_ fun o20=>lt_i (lfY ?_)) (fun h19=>lfY ?_)) (fun h17=>lfY ?_))) (fun h16=>lfY ?_)) (fun h15=>lfY ?_))) (fun h12=>br_i (fun h21=>br_i (fun h22=>cl_i trivial fun _=>(br_i (fun h23=>ob_i ?_ fun o24=>br_i (fun h25=>ob_i ?_ fun o26=>ob_i ?_ fun o27=>lt_i (lfY ?_)) (fun h25=>ob_i ?_ fun o28=>lfY ?_)) (fun h23=>ob_i ?_ fun o29=>lfY ?_))) (fun h22=>ob_i ?_ fun o30=>lfY ?_)) (fun h21=>ob_i ?_ fun o31=>lfY ?_))) (fun h11=>br_i (fun h32=>br_i (fun h33=>cl_i trivial fun _=>(br_i (fun h34=>ob_i ?_ fun o35=>br_i (fun h36=>ob_i ?_ fun o37=>ob_i ?_ fun o38=>lt_i (lfY ?_)) (fun h36=>ob_i ?_ fun o39=>lfY ?_)) (fun h34=>ob_i ?_ fun o40=>lfY ?_))) (fun h33=>ob_i ?_ fun o41=>lfY ?_)) (fun h32=>ob_i ?_ fun o42=>lfY ?_)))) (fun h8=>cl_i ?_ fun o43=>(br_i (fun h44=>br_i (fun h45=>ob_i ?_ fun o46=>ob_i ?_ fun o47=>lt_i (br_i (fun h48=>br_i (fun h49=>cl_i trivial fun _=>(br_i (fun h50=>ob_i ?_ fun o51=>br_i (fun h52=>ob_i ?_ fun o53=>lt_i (lfY ?_)) (fun h52=>lfY ?_)) (fun h50=>lfY ?_))) (fun h49=>lfY ?_)) (fun h48=>lfY ?_))) (fun h45=>br_i (fun h54=>br_i (fun h55=>cl_i trivial fun _=>(br_i (fun h56=>ob_i ?_ fun o57=>br_i (fun h58=>ob_i ?_ fun o59=>ob_i ?_ fun o60=>lt_i (lfY ?_)) (fun h58=>ob_i ?_ fun o61=>lfY ?_)) (fun h56=>ob_i ?_ fun o62=>lfY ?_))) (fun h55=>ob_i ?_ fun o63=>lfY ?_)) (fun h54=>ob_i ?_ fun o64=>lfY ?_))) (fun h44=>br_i (fun h65=>br_i (fun h66=>cl_i trivial fun _=>(br_i (fun h67=>ob_i ?_ fun o68=>br_i (fun h69=>ob_i ?_ fun o70=>ob_i ?_ fun o71=>lt_i (lfY ?_)) (fun h69=>ob_i ?_ fun o72=>lfY ?_)) (fun h67=>ob_i ?_ fun o73=>lfY ?_))) (fun h66=>ob_i ?_ fun o74=>lfY ?_)) (fun h65=>ob_i ?_ fun o75=>lfY ?_))))))))
 all_goals have hpp:=pageParts p
 all_goals obtain⟨hp1,hp2,hp3,hp4,hp7⟩:=(show okTok p from hp)
 all_goals
  have hl1:=szL_len szNode p.builder.nodes
  have hl2:szBuilder p.builder≤2000000000:=by(unfold szBuilder;omega)
  try simp only[std0] at *
  try simp only[fAddToken,fCopyPage,fElement,fInRange,fScript,fTakeToken,std,Nat.reduceAdd,szF,toF,eqF,mkF,heF,fCopyPage,fAddToken,fInRange,inRange,fElement,fScript] at *
 all_goals first|trivial|omega|(unfold takeToken;(first|rw[if_pos (by exact .inl (by omega))]|rw[if_pos (by exact .inr (.inl (by assumption)))]|rw[if_pos (by exact .inr (.inr (by assumption)))]);exact⟨rfl,rfl⟩)|skip
 all_goals
  have htz:=taken_sz p (by omega)
  have ht0:=hp3 0 (by omega)
  have haz:=addToken_sz p.builder (p.queue.getD 0 default)
  try simp only[wrapId (show -9223372036854775808≤(p.builder.open_.length:Int)-1∧(p.builder.open_.length:Int)-1≤9223372036854775807 by omega),wrapId (show -9223372036854775808≤(p.builder.nodes.length:Int)-1∧(p.builder.nodes.length:Int)-1≤9223372036854775807 by omega),lastOpen_at,taken_eq] at *
 all_goals first|trivial|omega|skip
 all_goals try rw[show takeToken p=(takeTok p (p.queue.getD 0 default),true) by(unfold takeToken;rw[if_neg (by omega)])]
 all_goals generalize p.queue.getD 0 default=t at *
 all_goals try simp only[show(taken p t).addr=p.addr from rfl,show(taken p t).builder=(addToken p.builder t).1 from rfl] at *
 all_goals first|trivial|omega|skip
 all_goals try simp only[Bool.and_eq_true,Bool.and_eq_false_iff,decide_eq_true_eq,decide_eq_false_iff_not,and_true] at *
 all_goals first|trivial|omega|skip
 all_goals try (have hnn:(addToken p.builder t).1.nodes=p.builder.nodes:=haz.2.2 (by assumption);rw[hnn])
 all_goals first|trivial|omega|skip
 all_goals first|rw[takeTok_el (by assumption) (by omega)]|rw[takeTok_sc (by assumption) (isScript_yes (by assumption) (by assumption) (by omega) (by omega) (by omega) (by assumption))]|rw[takeTok_no (by first|exact .inl (by assumption)|exact .inr (by omega)) (isScript_no (by first|exact .inl (by omega)|exact .inr (.inl (by assumption))|exact .inr (.inr (.inl (by omega)))|exact .inr (.inr (.inr (by assumption)))))])
def E106:=E105.add 107 fTakeToken
theorem E106ok:EOk Tryz.prog E106:=E105ok.add k107_105
def blk (p:SPage):Int:=IntKind.i64.wrap (p.block-1)
def okParse (p:SPage):Prop:=okTok p∧szL szSlot p.slots≤40000000000∧okBod p
def stepInline (p:SPage):SPage×Bool:=if stylesReady p.slots=true then({ runCode p (textOf p.inline p.builder.nodes ⟨#[]⟩) true with inline:=0 },true) else(p,false)
def stepBlock (p:SPage):SPage×Bool :=
 if ¬ (0≤blk p∧blk p<p.slots.length) then({ p with block:=0 },true)
 else if(p.slots.getD (blk p).toNat default).done=false∨stylesReady p.slots=false then(p,false)
 else if(p.slots.getD (blk p).toNat default).code=1 then({ runCode p (p.slots.getD (blk p).toNat default).body true with block:=0 },true)
 else({ p with block:=0 },true)
def stepParser (p:SPage):SPage×Bool:=if p.inline≠0 then stepInline p else if p.block≠0 then stepBlock p else takeToken p
theorem textOf_sz (n:Int):∀ (l:List SNode) (s:ByteArray),(textOf n l s).size≤s.size+szL szNode l
 | [],s=>Nat.le_add_right _ _
 | x::l,s=>by
  rw[textOf,szL_cons]
  split
  ·have:=textOf_sz n l (s++x.text)
   rw[ByteArray.size_append] at this;simp only[szNode];omega
  ·have:=textOf_sz n l s
   omega
theorem tf {b:Bool} (h:b=true) (h2:b=false):False:=by rw[h] at h2;cases h2
theorem blk_def (p:SPage):IntKind.i64.wrap (p.block-1)=blk p:=rfl
def fStepParser:Fct:=⟨[.v (.el .page)],[.el .page,.el .bool],fun(x_:SPage×Unit)=>okParse x_.1,fun(x_:SPage×Unit)=>((stepParser x_.1).1,(stepParser x_.1).2,())⟩
theorem k82_106:fStepParser.ok Tryz.prog 82:=Fct.o [1,2,3,4,5,6,7,10,13,27,37,53,64,1000010,1000013,1000027,1000037,1000053,1000064] E106ok Tryz.func82 (by
 rintro⟨(p:SPage),_⟩ hp
 refine ho (.br (p.inline != 0) (.cl fStylesReady (p,()) fun z2=>.br (!z2.1) (.cl fCopyPage (p,()) fun z3=>.lf fStepParser (z3.1,false,())) (.cl fTextOf (p.builder,p.inline,()) fun z4=>.cl fRunCode (p,z4.1,true,()) fun z5=>.lf fStepParser (⟨z5.1.addr,z5.1.policy,z5.1.tok,z5.1.queue,z5.1.ended,z5.1.builder,z5.1.slots,z5.1.mods,z5.1.entries,z5.1.block,(0:Int),z5.1.deferred,z5.1.entered,z5.1.ran,z5.1.log,z5.1.loaded⟩,true,()))) (.br (p.block != 0) (.cl fInRange (wr (p.block-(1:Int)),(0:Int),wr ((↑p.slots.length:Int)-(1:Int)),()) fun z6=>.br (!z6.1) (.cl fCopyPage (p,()) fun z7=>.lf fStepParser (⟨z7.1.addr,z7.1.policy,z7.1.tok,z7.1.queue,z7.1.ended,z7.1.builder,z7.1.slots,z7.1.mods,z7.1.entries,(0:Int),z7.1.inline,z7.1.deferred,z7.1.entered,z7.1.ran,z7.1.log,z7.1.loaded⟩,true,())) (.ob (0≤wr (p.block-(1:Int))∧wr (p.block-(1:Int))<(↑p.slots.length:Int))<|.br (!(p.slots.getD (wr (p.block-(1:Int))).toNat default).done) (.cl fCopyPage (p,()) fun z8=>.lf fStepParser (z8.1,false,())) (.cl fStylesReady (p,()) fun z9=>.br (!z9.1) (.cl fCopyPage (p,()) fun z10=>.lf fStepParser (z10.1,false,())) (.cl fCopyPage (p,()) fun z11=>.ob (0≤wr (p.block-(1:Int))∧wr (p.block-(1:Int))<(↑p.slots.length:Int))<|.br ((p.slots.getD (wr (p.block-(1:Int))).toNat default).code==1) (.ob (0≤wr (p.block-(1:Int))∧wr (p.block-(1:Int))<(↑p.slots.length:Int))<|.cl fRunCode (p,(p.slots.getD (wr (p.block-(1:Int))).toNat default).body,true,()) fun z12=>.lf fStepParser (⟨z12.1.addr,z12.1.policy,z12.1.tok,z12.1.queue,z12.1.ended,z12.1.builder,z12.1.slots,z12.1.mods,z12.1.entries,(0:Int),z12.1.inline,z12.1.deferred,z12.1.entered,z12.1.ran,z12.1.log,z12.1.loaded⟩,true,())) (.lf fStepParser (⟨z11.1.addr,z11.1.policy,z11.1.tok,z11.1.queue,z11.1.ended,z11.1.builder,z11.1.slots,z11.1.mods,z11.1.entries,(0:Int),z11.1.inline,z11.1.deferred,z11.1.entered,z11.1.ran,z11.1.log,z11.1.loaded⟩,true,())))))) (.cl fTakeToken (p,()) fun z13=>.lf fStepParser (z13.1,z13.2.1,())))) ?_
 refine br_i (fun h1=>cl_i ?_ fun o2=>(br_i (fun h3=>cl_i ?_ fun o4=>(lfY ?_)) (fun h3=>cl_i ?_ fun o5=>(cl_i ?_ fun o6=>(lfY ?_))))) (fun h1=>br_i (fun h7=>cl_i trivial fun _=>(br_i (fun h8=>cl_i ?_ fun o9=>(lfY ?_)) (fun h8=>ob_i ?_ fun o10=>br_i (fun h11=>cl_i ?_ fun o12=>(lfY ?_)) (fun h11=>cl_i ?_ fun o13=>(br_i (fun h14=>cl_i ?_ fun o15=>(lfY ?_)) (fun h14=>cl_i ?_ fun o16=>(ob_i ?_ fun o17=>br_i (fun h18=>ob_i ?_ fun o19=>cl_i ?_ fun o20=>(lfY ?_)) (fun h18=>lfY ?_)))))))) (fun h7=>cl_i ?_ fun o21=>(lfY ?_)))
 all_goals obtain⟨hp0,hp6,hp5⟩:=(show okParse p from hp)
 all_goals obtain⟨hp1,hp2,hp3,hp4,hp7⟩:=(show okTok p from hp0)
 all_goals
  have hbb:szBuilder p.builder≤2000000000:=by(unfold szBuilder;omega)
  have hpp:=pageParts p
  have hsl:=szL_len szSlot p.slots
  have hnl:=szL_len szNode p.builder.nodes
  have htx:=textOf_sz p.inline p.builder.nodes ⟨#[]⟩
 all_goals rw[show ByteArray.size ⟨#[]⟩=0 from rfl] at htx
 all_goals
  try simp only[std0] at *
  try simp only[fCopyPage,fInRange,fRunCode,fStepParser,fStylesReady,fTakeToken,fTextOf,std,Nat.reduceAdd,szF,toF,eqF,mkF,heF,fStylesReady,fCopyPage,fTextOf,fRunCode,fInRange,inRange,fTakeToken,blk_def] at *
  try simp only[blk_def,Bool.and_eq_true,Bool.and_eq_false_iff,decide_eq_true_eq,decide_eq_false_iff_not,wrapId (show -9223372036854775808≤(p.slots.length:Int)-1∧(p.slots.length:Int)-1≤9223372036854775807 by omega)] at *
 all_goals first|trivial|omega|exact hp0|exact⟨by omega,by omega,by omega,hp5 _ (by omega),hp5⟩|exact⟨by omega,by omega,by omega,by omega,hp5⟩|skip
 all_goals unfold stepParser
 all_goals first|rw[if_pos (by assumption)]|(rw[if_neg (by omega)];first|rw[if_pos (by assumption)]|rw[if_neg (by omega)])
 all_goals first|exact⟨rfl,rfl⟩|(unfold stepInline)|(unfold stepBlock)
 all_goals repeat first|rw[if_pos (by assumption)]|rw[if_neg (by intro q;first|exact tf q (by assumption)|exact tf (by assumption) q)]|rw[if_pos (by omega)]|rw[if_neg (by omega)]|rw[if_pos (by exact .inl (by assumption))]|rw[if_pos (by exact .inr (by assumption))]|rw[if_neg (by rintro(q|q)<;>exact tf (by assumption) q)]|fail
 all_goals exact⟨rfl,rfl⟩)
def E107:=E106.add 82 fStepParser
theorem E107ok:EOk Tryz.prog E107:=E106ok.add k82_106
def impW:ByteArray:=⟨#[105,109,112,111,114,116,32]⟩
def hasImp (w:ByteArray):Prop:=7≤w.size∧w.extract 0 7=impW
instance (w:ByteArray):Decidable (hasImp w):=by unfold hasImp;exact inferInstance
def okMb (p:SPage):Prop:=∀ i,i<p.mods.length→(p.mods.getD i default).body.size≤4000000000
def inL (l:List SAddr) (a:SAddr):Bool:=l.any fun c=>decide (c=a)
def okTail (p:SPage):Prop:=okParse p∧okMb p∧szL szModule p.mods≤50000000000∧∀ i,i<p.entries.length→(p.entries.getD i default).host.size≤4000000000
def undS:List SSlot→Nat
 | []=>0
 | s::l=>(if s.done=true then 0 else 1)+undS l
def undM:List SModule→Nat
 | []=>0
 | m::l=>(if m.done=true then 0 else 1)+undM l
def nrL (r:List SAddr):List SModule→Nat
 | []=>0
 | m::l=>(if inL r m.to=true then 0 else szAddr m.to+1)+nrL r l
theorem undS_app:∀ l k:List SSlot,undS (l++k)=undS l+undS k
 | [],k=>(Nat.zero_add _).symm
 | s::l,k=>by rw[List.cons_append,undS,undS,undS_app l k];omega
theorem undM_app:∀ l k:List SModule,undM (l++k)=undM l+undM k
 | [],k=>(Nat.zero_add _).symm
 | s::l,k=>by rw[List.cons_append,undM,undM,undM_app l k];omega
theorem nrL_app (r:List SAddr):∀ l k:List SModule,nrL r (l++k)=nrL r l+nrL r k
 | [],k=>(Nat.zero_add _).symm
 | s::l,k=>by rw[List.cons_append,nrL,nrL,nrL_app r l k];omega
def nodeP (b:SBuilder):Nat:=szL szNode b.nodes+4000010*(40-b.nodes.length)
def openP (b:SBuilder):Nat:=b.open_.length+(40-b.nodes.length)
def slotP (l:List SSlot):Nat:=szL szSlot l+400*undS l+500000800*(20-l.length)
def entP (l:List SAddr):Nat:=szL szAddr l+100*(20-l.length)
def modP (l:List SModule) (n:Nat):Nat:=szL szModule l+500*undM l+600*(20-n)
def logP (l:List ByteArray):Nat:=szL szString l+200*(40-l.length)
def ranP (l:List SModule) (r:List SAddr) (n:Nat):Nat:=szL szAddr r+nrL r l+100*(20-n)
def okQ (q:List SToken) (Q:Nat):Prop:=(∀ t,t∈q→szToken t≤4000000)∧szL szToken q≤Q
def okB (b:SBuilder):Prop:=nodeP b≤200000000∧openP b≤3000000
def okS (l:List SSlot):Prop:=slotP l≤13000000000∧∀ s,s∈l→s.body.size≤2000000
def okE (l:List SModule) (e r:List SAddr) (M R:Nat):Prop:=entP e≤3000000∧modP l e.length≤M∧ranP l r e.length≤R∧∀ m,m∈l→m.body.size≤2000000
def okLg (g:List ByteArray):Prop:=logP g≤3000000
def okCm (p:SPage):Prop:=szPolicy p.policy+szAddr p.addr≤4000000∧p.tok.rest.size≤4000000
def okAll (p:SPage) (Q M R:Nat):Prop:=okQ p.queue Q∧okB p.builder∧okS p.slots∧okE p.mods p.entries p.ran M R∧okLg p.log∧okCm p
theorem okQ_mono {q:List SToken} {Q Q':Nat} (h:okQ q Q) (hq:Q≤Q'):okQ q Q':=⟨h.1,Nat.le_trans h.2 hq⟩
theorem okAll_mono {p:SPage} {Q Q' M R:Nat} (h:okAll p Q M R) (hq:Q≤Q'):okAll p Q' M R:=⟨okQ_mono h.1 hq,h.2⟩
theorem okB_tok {b:SBuilder} {t:SToken} (h:okB b) (ht:szToken t≤4000000):okB (addToken b t).1:=by
 obtain⟨h1,h2⟩:=h
 unfold addToken
 split
 ·have:=closeN_len b t.name _ (Nat.le_refl _)
  refine⟨h1,?_⟩
  unfold openP at *
  show(closeN b t.name b.open_.length).length+(40-b.nodes.length)≤_
  omega
 ·split
  ·rename_i hc
   have hc:=hc.1
   have h0:szL szNode []=0:=rfl
   have h3:szL szAttr []=0:=rfl
   have h4:ByteArray.size ⟨#[]⟩=0:=rfl
   split
   ·refine⟨?_,?_⟩
    ·unfold nodeP at *
     dsimp only
     rw[szL_app,szL_cons,h0,List.length_append,List.length_singleton]
     simp only[szNode,szToken,h4] at *;omega
    ·unfold openP at *
     dsimp only
     rw[List.length_append,List.length_singleton]
     split
     ·omega
     ·rw[List.length_append,List.length_singleton];omega
   ·refine⟨?_,?_⟩
    ·unfold nodeP at *
     dsimp only
     rw[szL_app,szL_cons,h0,List.length_append,List.length_singleton]
     simp only[szNode,szToken,h4,h3] at *;omega
    ·unfold openP at *
     dsimp only
     rw[List.length_append,List.length_singleton];omega
  ·exact⟨h1,h2⟩
theorem okB_line {b:SBuilder} (l:List SSheet) (x:SLine) (h:okB b):okB (runLine b l x).1:=by
 unfold runLine
 split
 ·exact h
 ·split
  ·dsimp only
   split
   ·rename_i hc
    obtain⟨c1,c2,c3⟩:=hc
    obtain⟨h1,h2⟩:=h
    have:=isName_size c3
    have h0:szL szNode []=0:=rfl
    have h3:szL szAttr []=0:=rfl
    have h4:ByteArray.size ⟨#[]⟩=0:=rfl
    refine⟨?_,?_⟩
    ·unfold nodeP at *
     dsimp only
     rw[szL_app,szL_cons,h0,List.length_append,List.length_singleton]
     simp only[szNode,h4,h3] at *;omega
    ·unfold openP at *
     dsimp only
     rw[List.length_append,List.length_singleton];omega
   ·exact h
  ·split
   ·exact h
   ·split
    ·exact h
    ·split<;>exact h
theorem okB_lines (l:List SSheet):∀ (r:List SLine) (b:SBuilder) (w:ByteArray) (g:List ByteArray),okB b→okB (runLines l r b w g).1
 | [],b,w,g,h=>h
 | x::r,b,w,g,h=>by
  rw[runLines]
  exact okB_lines l r _ _ _ (okB_line l x h)
theorem line_log {b:SBuilder} {l:List SSheet} {x:SLine} (hl:okSheets l) (hb:b.nodes.length≤9000000000000000000) (hx:x.text.size≤60):(runLine b l x).2.2.size≤199:=by
 have h0:ByteArray.size ⟨#[]⟩=0:=rfl
 have hc:=countName_in x.text b.nodes
 have hk:=colorOf_in hl x.text
 have f1:=fmtI_size (n:=countName x.text b.nodes) (by omega) (by omega)
 have f2:=fmtI_size (n:=colorOf l x.text) hk.1 hk.2
 have s1:ByteArray.size ⟨#[99,111,117,110,116,32]⟩=6:=rfl
 have s2:ByteArray.size ⟨#[32]⟩=1:=rfl
 have s3:ByteArray.size ⟨#[108,111,111,107,32]⟩=5:=rfl
 have s4:ByteArray.size ⟨#[115,97,121,32]⟩=4:=rfl
 unfold runLine
 split
 ·dsimp only;omega
 ·split
  ·dsimp only;omega
  ·split
   ·dsimp only;rw[ByteArray.size_append,ByteArray.size_append,ByteArray.size_append];omega
   ·split
    ·dsimp only;rw[ByteArray.size_append,ByteArray.size_append,ByteArray.size_append];omega
    ·split
     ·dsimp only;rw[ByteArray.size_append];omega
     ·dsimp only;omega
theorem lines_log (l:List SSheet) (hl:okSheets l):∀ (r:List SLine) (b:SBuilder) (w:ByteArray) (g:List ByteArray),okB b→(∀ x,x∈r→x.text.size≤60)→(∀ s,s∈g→s.size≤199)→∀ s,s∈(runLines l r b w g).2.2→s.size≤199
 | [],b,w,g,_,_,hg=>hg
 | x::r,b,w,g,hb,hr,hg=>by
  rw[runLines]
  have hn:b.nodes.length≤9000000000000000000:=by
   have:=szL_len szNode b.nodes
   have h1:=hb.1
   unfold nodeP at h1;omega
  have hx:=line_log hl hn (hr x List.mem_cons_self)
  refine lines_log l hl r _ _ _ (okB_line l x hb) (fun y hy=>hr y (List.mem_cons_of_mem _ hy)) fun s hs=>?_
  split at hs
  ·exact hg s hs
  ·rcases List.mem_append.1 hs with hs|hs
   ·exact hg s hs
   ·rw[List.mem_singleton] at hs;rw[hs];exact hx
theorem okG_add:∀ (l g:List ByteArray),(∀ s,s∈l→s.size≤199)→okLg g→okLg (addLog g l)
 | [],g,_,h=>by rw[addLog_nil];exact h
 | x::l,g,hl,h=>by
  rw[addLog]
  split
  ·refine okG_add l _ (fun s hs=>hl s (List.mem_cons_of_mem _ hs)) ?_
   have:=hl x List.mem_cons_self
   have h0:szL szString []=0:=rfl
   unfold okLg logP at *
   rw[szL_app,szL_cons,h0,List.length_append,List.length_singleton]
   simp only[szString] at *;omega
  ·exact h
theorem lines_text (s:ByteArray):∀ x,x∈(parseScript s).1→x.text.size≤60:=by
 intro x hx
 unfold parseScript at hx
 split at hx
 ·cases hx
 ·split at hx
  ·rename_i hc
   obtain⟨w,hw,rfl⟩:=List.mem_map.1 hx
   have:=hc.2
   rw[allOk8,List.all_eq_true] at this
   exact line8L_sz w _ _ (this w hw)
  ·cases hx
theorem ok_run {p:SPage} {Q M R:Nat} (h:okAll p Q M R) (c:ByteArray) (w:Bool):okAll (runCode p c w) (Q+370) M R:=by
 obtain⟨h1,h2,h3,h4,h5,h6⟩:=h
 unfold runCode
 split
 ·refine⟨?_,okB_lines _ _ _ _ _ h2,h3,h4,okG_add _ _ (lines_log _ (sheetsOf_sz _).2 _ _ _ _ h2 (lines_text c) fun s hs=>by cases hs) h5,h6⟩
  dsimp only
  split
  ·have ht:=tokensOf_sz (rsOf p c).2.1
   have hr:=(rsOf_sz p c).2.1
   refine⟨fun t ht2=>?_,?_⟩
   ·rcases List.mem_append.1 ht2 with q|q
    ·have hg:=szL_mem szToken q
     omega
    ·exact h1.1 t q
   ·rw[szL_app]
    have:=h1.2;omega
  ·exact okQ_mono h1 (by omega)
 ·exact⟨okQ_mono h1 (by omega),h2,h3,h4,okG_add _ _ (fun s hs=>by rw[List.mem_singleton] at hs;rw[hs];decide) h5,h6⟩
theorem parseAddr_len (s b:ByteArray):szAddr (parseAddr s b).1≤16:=by
 unfold parseAddr
 split
 ·rename_i h
  rw[Bool.and_eq_true] at h
  have h1:=isName_size h.1
  have h2:=isName_size h.2
  simp only[szAddr];omega
 ·decide
theorem newSlot_sz (p:SPage) (m:Int) (to d:ByteArray) (n:Int):szSlot (newSlot p m to d n)≤16+d.size∧(newSlot p m to d n).body.size=0:=by
 have h:=parseAddr_len to p.addr.host
 have h4:ByteArray.size ⟨#[]⟩=0:=rfl
 unfold newSlot
 split
 ·exact⟨by simp only[rawSlot,szSlot,h4];omega,h4⟩
 ·exact⟨by simp only[szSlot,h4];omega,h4⟩
theorem ok_slot {p:SPage} {Q M R:Nat} (h:okAll p Q M R) (m:Int) (to d:ByteArray) (n:Int) (hd:d.size≤200000000):okAll (addSlot p m to d n).1 Q M R:=by
 obtain⟨h1,h2,h3,h4,h5,h6⟩:=h
 unfold addSlot
 split
 ·rename_i hc
  have hn:=newSlot_sz p m to d n
  refine⟨h1,h2,⟨?_,fun s hs=>?_⟩,h4,h5,h6⟩
  ·have h0:szL szSlot []=0:=rfl
   have hu:undS [newSlot p m to d n]≤1:=by rw[undS,undS];split<;>omega
   have h7:=h3.1
   unfold slotP at *
   dsimp only
   rw[szL_app,szL_cons,h0,undS_app,List.length_append,List.length_singleton]
   omega
  ·rcases List.mem_append.1 hs with hs|hs
   ·exact h3.2 s hs
   ·rw[List.mem_singleton] at hs;rw[hs,hn.2];decide
 ·exact⟨h1,h2,h3,h4,h5,h6⟩
theorem newMod_sz (p:SPage) (a:SAddr):(newMod p a).to=a∧(newMod p a).body.size=0:=by
 unfold newMod;split<;>exact⟨rfl,rfl⟩
theorem szL_td {α:Type} (f:α→Nat) (l:List α) (i:Nat):szL f (l.take i)+szL f (l.drop i)=szL f l:=by
 rw[←szL_app,List.take_append_drop]
theorem undM_td (l:List SModule) (i:Nat):undM (l.take i)+undM (l.drop i)=undM l:=by rw[←undM_app,List.take_append_drop]
theorem nrL_td (r:List SAddr) (l:List SModule) (i:Nat):nrL r (l.take i)+nrL r (l.drop i)=nrL r l:=by rw[←nrL_app,List.take_append_drop]
theorem ask_sz (p:SPage) (a:SAddr):szL szModule (askModule p a).mods≤szL szModule p.mods+szAddr a+1∧undM (askModule p a).mods≤undM p.mods+1∧nrL p.ran (askModule p a).mods≤nrL p.ran p.mods+szAddr a+1∧(∀ m,m∈(askModule p a).mods→m∈p.mods∨m.body.size=0)∧askModule p a={ p with mods:=(askModule p a).mods }:=by
 unfold askModule
 split
 ·exact⟨by omega,by omega,by omega,fun m h=>.inl h,rfl⟩
 ·obtain⟨n1,n2⟩:=newMod_sz p a
  have e1:=szL_td szModule p.mods (askFrom a p.mods)
  have e2:=undM_td p.mods (askFrom a p.mods)
  have e3:=nrL_td p.ran p.mods (askFrom a p.mods)
  refine⟨?_,?_,?_,fun m h=>?_,rfl⟩
  ·dsimp only
   rw[szL_app,szL_cons]
   simp only[szModule,n1,n2] at *;omega
  ·dsimp only
   rw[undM_app,undM]
   split<;>omega
  ·dsimp only
   rw[nrL_app,nrL,n1]
   split<;>omega
  ·rcases List.mem_append.1 h with h|h
   ·exact .inl (List.mem_of_mem_take h)
   ·rcases List.mem_cons.1 h with h|h
    ·rw[h];exact .inr n2
    ·exact .inl (List.mem_of_mem_drop h)
theorem ok_entry {p:SPage} {Q M R:Nat} (h:okAll p Q M R) (to:ByteArray):okAll (addEntry p to) Q M R:=by
 unfold addEntry
 split
 ·rename_i hc
  obtain⟨h1,h2,h3,⟨h4,h7,h8,h9⟩,h5,h6⟩:=h
  obtain⟨a1,a2,a3,a4,a5⟩:=ask_sz p (parseAddr to p.addr.host).1
  have ha:=parseAddr_len to p.addr.host
  have h0:szL szAddr []=0:=rfl
  rw[a5]
  refine⟨h1,h2,h3,⟨?_,?_,?_,fun m hm=>?_⟩,h5,h6⟩
  ·unfold entP at *
   rw[szL_app,szL_cons,h0,List.length_append,List.length_singleton];omega
  ·unfold modP at *
   dsimp only
   rw[List.length_append,List.length_singleton];omega
  ·unfold ranP at *
   dsimp only
   rw[List.length_append,List.length_singleton];omega
  ·rcases a4 m hm with hm|hm
   ·exact h9 m hm
   ·omega
 ·exact h
theorem ok_element {p:SPage} {Q M R:Nat} (h:okAll p Q M R) (t:SToken) (n:Int) (ht:szToken t≤4000000):okAll (element p t n) Q M R:=by
 have hd:=findAttr_sz t.attrs ⟨#[100,105,103,101,115,116]⟩
 have hs:szL szAttr t.attrs≤szToken t:=by simp only[szToken];omega
 unfold element
 split
 ·exact ok_slot h _ _ _ _ (by omega)
 ·split
  ·exact ok_slot h _ _ _ _ (by omega)
  ·exact h
theorem ok_script {p:SPage} {Q M R:Nat} (h:okAll p Q M R) (n:Int):okAll (script p n) Q M R:=by
 have hd:=findAttr_sz (p.builder.nodes.getD n.toNat default).attrs ⟨#[100,105,103,101,115,116]⟩
 have hs:szL szAttr (p.builder.nodes.getD n.toNat default).attrs≤200000000:=by
  by_cases hn:n.toNat<p.builder.nodes.length
  ·have:=node_attrs p.builder.nodes n.toNat hn
   have h2:=h.2.1.1
   unfold nodeP at h2;omega
  ·rw[List.getD_eq_getElem?_getD,List.getElem?_eq_none (by omega)]
   exact Nat.zero_le _
 unfold script
 split
 ·split
  ·exact h
  ·exact h
 ·split
  ·exact ok_slot h _ _ _ _ (by omega)
  ·split
   ·exact ok_entry h _
   ·exact ok_slot h _ _ _ _ (by omega)
theorem ok_taken {p:SPage} {Q M R:Nat} (h:okAll p Q M R) (hq:0<p.queue.length):okAll (taken p (p.queue.getD 0 default)) Q M R:=by
 obtain⟨h1,h2,h3,h4,h5,h6⟩:=h
 have ht:=h1.1 _ (getD_in hq)
 have hz:=(taken_sz p hq).2
 exact⟨⟨fun t hm=>h1.1 t (List.mem_of_mem_drop hm),by have:=h1.2;show szL szToken (p.queue.drop 1)≤Q;omega⟩,okB_tok h2 ht,h3,h4,h5,h6⟩
theorem ok_take {p:SPage} {Q M R:Nat} (h:okAll p Q M R):okAll (takeToken p).1 Q M R:=by
 unfold takeToken
 split
 ·exact h
 ·rename_i hc
  have hq:0<p.queue.length:=by omega
  have ht:=h.1.1 _ (getD_in hq)
  have hk:=ok_taken h hq
  unfold takeTok
  split
  ·exact ok_element hk _ _ ht
  ·split
   ·exact ok_script hk _
   ·exact hk
theorem ok_parser {p:SPage} {Q M R:Nat} (h:okAll p Q M R):okAll (stepParser p).1 (Q+370) M R:=by
 have hm:=okAll_mono h (Nat.le_add_right Q 370)
 unfold stepParser
 split
 ·unfold stepInline
  split
  ·exact ok_run h _ _
  ·exact hm
 ·split
  ·unfold stepBlock
   split
   ·exact hm
   ·split
    ·exact hm
    ·split
     ·exact ok_run h _ _
     ·exact hm
  ·exact ok_take hm
theorem okAll_tail {p:SPage} {Q M R:Nat} (h:okAll p Q M R) (hQ:Q≤900000000000) (hM:M≤50000000000) (hR:R≤20000000000):okTail p:=by
 obtain⟨⟨a1,a2⟩,⟨b1,b2⟩,⟨c1,c2⟩,⟨d1,d2,d3,d4⟩,e1,f1⟩:=h
 have hg:logP p.log≤3000000:=e1
 have hc:szPolicy p.policy+szAddr p.addr+p.tok.rest.size≤9000000:=by(unfold okCm at f1;omega)
 unfold nodeP at b1;unfold openP at b2;unfold slotP at c1;unfold entP at d1;unfold modP at d2;unfold ranP at d3;unfold logP at hg
 have hn:=szL_len szNode p.builder.nodes
 have hb:szBuilder p.builder=szL szNode p.builder.nodes+p.builder.open_.length:=rfl
 have hh:p.addr.host.size≤szAddr p.addr:=by simp only[szAddr];omega
 refine⟨⟨⟨?_,by omega,fun i hi=>?_,by omega,by omega⟩,by omega,fun i hi=>?_⟩,fun i hi=>?_,by omega,fun i hi=>?_⟩
 ·simp only[szPage,szTokenizer];omega
 ·have:=a1 _ (getD_in hi);omega
 ·have:=c2 _ (getD_in hi);omega
 ·have:=d4 _ (getD_in hi);omega
 ·have:=szL_get szAddr hi
  have h3:(p.entries.getD i default).host.size≤szAddr (p.entries.getD i default):=by simp only[szAddr];omega
  omega
theorem und_le:∀ l:List SSlot,undS l≤l.length
 | []=>Nat.le_refl _
 | s::l=>by have:=und_le l;rw[undS,List.length_cons];split<;>omega
theorem undM_le:∀ l:List SModule,undM l≤l.length
 | []=>Nat.le_refl _
 | s::l=>by have:=undM_le l;rw[undM,List.length_cons];split<;>omega
theorem nrL_le (r:List SAddr):∀ l:List SModule,nrL r l≤szL szModule l
 | []=>Nat.le_refl _
 | s::l=>by have:=nrL_le r l;rw[nrL,szL_cons];split<;>simp only[szModule]<;>omega
theorem ok_init {p:SPage} (h:szPage p≤2000000):okAll p 2000000 1100000000 10000000:=by
 have h1:=szL_len szSlot p.slots
 have h2:=szL_len szModule p.mods
 have h3:=und_le p.slots
 have h4:=undM_le p.mods
 have h5:=nrL_le p.ran p.mods
 have h6:=szL_len szNode p.builder.nodes
 simp only[szPage,szTokenizer,szBuilder] at h
 refine⟨⟨fun t ht=>?_,by omega⟩,⟨?_,?_⟩,⟨?_,fun s hs=>?_⟩,⟨?_,?_,?_,fun m hm=>?_⟩,?_,?_⟩
 ·have:=szL_mem szToken ht;omega
 ·unfold nodeP;omega
 ·unfold openP;omega
 ·unfold slotP;omega
 ·have:=szL_mem szSlot hs;simp only[szSlot] at this;omega
 ·unfold entP;omega
 ·unfold modP;omega
 ·unfold ranP;omega
 ·have:=szL_mem szModule hm;simp only[szModule] at this;omega
 ·unfold okLg logP;omega
 ·unfold okCm;omega
theorem ok_arrive {p:SPage} {Q M R:Nat} {s:ByteArray} (h:okAll p Q M R) (hs:p.tok.rest.size+s.size≤3000000):okAll (arriveText p s) (Q+3000001) M R∧(arriveText p s).tok.rest.size≤p.tok.rest.size+s.size+1:=by
 unfold arriveText
 split
 ·exact⟨okAll_mono h (by omega),by omega⟩
 ·obtain⟨h1,h2,h3,h4,h5,h6⟩:=h
  have hz:=feedAll_sz (p.tok.rest++s)
  rw[ByteArray.size_append] at hz
  refine⟨⟨⟨fun t ht=>?_,?_⟩,h2,h3,h4,h5,?_⟩,?_⟩
  ·rcases List.mem_append.1 ht with q|q
   ·exact h1.1 t q
   ·have:=szL_mem szToken q;omega
  ·dsimp only
   rw[szL_app]
   have:=h1.2;omega
  ·unfold okCm at *;dsimp only;omega
  ·dsimp only;omega
theorem ok_end {p:SPage} {Q M R:Nat} (h:okAll p Q M R) (hs:p.tok.rest.size≤3000010):okAll (endPage p) (Q+3000020) M R∧(endPage p).tok.rest.size≤p.tok.rest.size:=by
 unfold endPage
 split
 ·exact⟨okAll_mono h (by omega),Nat.le_refl _⟩
 ·obtain⟨h1,h2,h3,h4,h5,h6⟩:=h
  have hz:=endText_sz p.tok.rest
  have h0:(default:STokenizer).rest.size=0:=rfl
  refine⟨⟨⟨fun t ht=>?_,?_⟩,h2,h3,h4,h5,?_⟩,?_⟩
  ·rcases List.mem_append.1 ht with q|q
   ·exact h1.1 t q
   ·have:=szL_mem szToken q;omega
  ·dsimp only
   rw[szL_app]
   have:=h1.2;omega
  ·unfold okCm at *;dsimp only;omega
  ·dsimp only;omega
theorem okAll_pg {p:SPage} {Q M R:Nat} (h:okAll p Q M R) (hQ:Q≤900000000000) (hM:M≤50000000000) (hR:R≤20000000000):szPage p≤1000000000000:=(okAll_tail h hQ hM hR).1.1.1
theorem usable_sz (p:SPolicy) (r:SRequest) (x:SResponse):(usable p r x).1.size≤400:=by
 unfold usable
 split
 ·rename_i h
  by_cases hi:isResponse x=true
  ·unfold isResponse at hi
   simp only[Bool.and_eq_true,decide_eq_true_eq] at hi
   exact hi.2.2.1
  ·exfalso
   unfold checkResponse at h
   split at h
   ·cases h
   ·rw[if_pos (.inl (by simpa using hi))] at h;cases h
 ·exact Nat.zero_le _
theorem mod_mid {α:Type} (f:α→α) (m:α) (B:List α):∀ A:List α,(A++m::B).modify A.length f=A++f m::B
 | []=>rfl
 | a::A=>congrArg (List.cons a) (mod_mid f m B A)
theorem modify_td {α:Type} [Inhabited α] (f:α→α) {l:List α} {i:Nat} (h:i<l.length):l.modify i f=l.take i++f (l.getD i default)::l.drop (i+1):=by
 have e:(l.take i).length=i:=by rw[List.length_take];omega
 have:=mod_mid f (l.getD i default) (l.drop (i+1)) (l.take i)
 rw[e,←drop_cons h,List.take_append_drop] at this
 exact this
theorem modify_two {α:Type} (f g:α→α):∀ (l:List α) (i:Nat),(l.modify i f).modify i g=l.modify i fun z=>g (f z)
 | [],0=>rfl
 | [],_+1=>rfl
 | _::_,0=>rfl
 | a::l,i+1=>congrArg (List.cons a) (modify_two f g l i)
theorem slotReq_at {p:SPage} {k:Int} (h0:0≤k) (h:k<p.slots.length):slotRequest p k=reqOf p (p.slots.getD k.toNat default):=by unfold slotRequest;rw[if_pos ⟨h0,h⟩];rfl
theorem fillS3 {p:SPage} {k:Int} {x:SResponse} (h0:0≤k) (h:k<p.slots.length) (hd:(p.slots.getD k.toNat default).done=false):(((p.slots.modify k.toNat fun z=>(⟨z.mode,z.to,z.digest,z.node,true,z.code,z.body⟩:SSlot)).modify k.toNat fun z=>(⟨z.mode,z.to,z.digest,z.node,z.done,checkResponse p.policy (slotRequest p k) x,z.body⟩:SSlot)).modify k.toNat fun z=>(⟨z.mode,z.to,z.digest,z.node,z.done,z.code,(usable p.policy (slotRequest p k) x).1⟩:SSlot))=p.slots.modify k.toNat (fillS p x):=by
 have hi:k.toNat<p.slots.length:=by omega
 rw[modify_two,modify_two,modify_td _ hi,modify_td _ hi,slotReq_at h0 h]
 unfold fillS
 rw[if_neg (by rw[hd];decide)]
theorem fillS_done {p:SPage} {k:Int} {x:SResponse} (h0:0≤k) (h:k<p.slots.length) (hd:(p.slots.getD k.toNat default).done=true):fillSlot p k x=p:=by
 have hi:k.toNat<p.slots.length:=by omega
 have e:p.slots.modify k.toNat (fillS p x)=p.slots:=by
  rw[modify_td _ hi]
  unfold fillS
  rw[if_pos hd,←drop_cons hi,List.take_append_drop]
 unfold fillSlot
 rw[if_pos ⟨h0,h⟩,e]
theorem k83_107:fFillSlot.ok Tryz.prog 83:=Fct.o [1,3,5,6,7,8,25,1000025] E107ok Tryz.func83 (by
 rintro⟨(p:SPage),(k:Int),(x:SResponse),_⟩ hp
 refine ho (.cl fCopyPage (p,()) fun z2=>.cl fInRange (k,(0:Int),wr ((↑p.slots.length:Int)-(1:Int)),()) fun z3=>.br (!z3.1) (.lf fFillSlot (z2.1,())) (.ob (inB k p.slots.length)<|.br ((p.slots.getD (Int.toNat k) default).done) (.lf fFillSlot (z2.1,())) (.cl fSlotRequest (p,k,()) fun z4=>.ob (inB k z2.1.slots.length)<|.ob (Int.toNat k<z2.1.slots.length)<|.lt (List SSlot) (z2.1.slots.modify (Int.toNat k) fun z=>(⟨z.mode,z.to,z.digest,z.node,true,z.code,z.body⟩:SSlot)) fun z5=>.cl fCheckResponse (p.policy,z4.1,x,()) fun(z6:Int×PUnit)=>.ob (inB k z5.length)<|.ob (Int.toNat k<z5.length)<|.lt (List SSlot) (z5.modify (Int.toNat k) fun z=>(⟨z.mode,z.to,z.digest,z.node,z.done,z6.1,z.body⟩:SSlot)) fun z7=>.cl fUsableBody (p.policy,z4.1,x,()) fun z8=>.ob (inB k z7.length)<|.ob (Int.toNat k<z7.length)<|.lt (List SSlot) (z7.modify (Int.toNat k) fun z=>(⟨z.mode,z.to,z.digest,z.node,z.done,z.code,z8.1⟩:SSlot)) fun z9=>.lf fFillSlot (⟨z2.1.addr,z2.1.policy,z2.1.tok,z2.1.queue,z2.1.ended,z2.1.builder,z9,z2.1.mods,z2.1.entries,z2.1.block,z2.1.inline,z2.1.deferred,z2.1.entered,z2.1.ran,z2.1.log,z2.1.loaded⟩,())))) ?_
 refine cl_i ?_ fun o1=>(cl_i trivial fun _=>(br_i (fun h2=>lfY ?_) (fun h2=>ob_i ?_ fun o3=>br_i (fun h4=>lfY ?_) (fun h4=>cl_i ?_ fun o5=>(ob_i ?_ fun o6=>ob_i ?_ fun o7=>lt_i (cl_i ?_ fun o8=>(ob_i ?_ fun o9=>ob_i ?_ fun o10=>lt_i (cl_i ?_ fun o11=>(ob_i ?_ fun o12=>ob_i ?_ fun o13=>lt_i (lfY ?_))))))))))
 all_goals obtain⟨q1,q2,q3,q4,q5,q6,q7⟩:=(show szPage p≤1000000000000∧p.addr.host.size≤4000000000∧(∀ i,i<p.slots.length→szSlot (p.slots.getD i default)≤50000000000)∧-9223372036854775808≤k∧k≤9223372036854775807∧x.policy.size≤200000000∧x.body.size≤1000000000 from hp)
 all_goals
  have hl:p.slots.length≤1000000000000:=by have:=szL_len szSlot p.slots;simp only[szPage] at q1;omega
  have hpo:szPolicy p.policy≤1000000000000:=by simp only[szPage] at q1;omega
  try simp only[std0] at *
  try simp only[fCheckResponse,fCopyPage,fFillSlot,fInRange,fSlotRequest,fUsableBody,std,Nat.reduceAdd,szF,toF,eqF,mkF,heF,fCopyPage,fInRange,inRange,fSlotRequest,fCheckResponse,fUsableBody] at *
  try rw[wrapId (by omega)] at h2
  try simp only[Bool.and_eq_true,Bool.and_eq_false_iff,decide_eq_true_eq,decide_eq_false_iff_not] at h2
 all_goals first|trivial|omega|(unfold fillSlot;rw[if_neg (by omega)])|exact(fillS_done (by omega) (by omega) (by assumption)).symm|(simp only[List.length_modify];omega)|skip
 all_goals first|(rw[slotReq_at (by omega) (by omega)];have:=q3 k.toNat (by omega);simp only[szSlot] at this;exact⟨by omega,by simp only[szRequest,reqOf];simp only[szAddr] at *;omega,q6,q7⟩)|(unfold fillSlot;rw[if_pos (by omega),←fillS3 (by omega) (by omega) (by assumption)]))
def E108:=E107.add 83 fFillSlot
theorem E108ok:EOk Tryz.prog E108:=E107ok.add k83_107
def fillF (p:SPage) (a:SAddr) (x:SResponse) (s:SSlot):SSlot:=if s.to=a then fillS p x s else s
def und1 (s:SSlot):Nat:=if s.done=true then 0 else 1
theorem fillF_sz (p:SPage) (a:SAddr) (x:SResponse) (s:SSlot):szSlot (fillF p a x s)+400*und1 (fillF p a x s)≤szSlot s+400*und1 s∧(fillF p a x s).body.size≤s.body.size+400∧(s.body.size≤2000000→(fillF p a x s).body.size≤2000000):=by
 unfold fillF
 split
 ·unfold fillS
  split
  ·exact⟨Nat.le_refl _,by omega,id⟩
  ·rename_i h
   have hu:=usable_sz p.policy (reqOf p s) x
   refine⟨?_,by dsimp only;omega,fun _=>by dsimp only;omega⟩
   unfold und1 szSlot
   dsimp only
   rw[if_pos rfl,if_neg h];omega
 ·exact⟨Nat.le_refl _,by omega,id⟩
def nextNeeds (p:SPage):List SRequest:=(openSlots p).map (slotRequest p)++(openMods p).map (modRequest p)
theorem openS_at {p:SPage} {i:Nat} (h:i<(openSlots p).length):0≤(openSlots p).getD i default∧(openSlots p).getD i default<p.slots.length:=by
 have:=openIdx_in (fun s:SSlot=>!s.done) p.slots 0 _ (getD_in h)
 unfold openSlots at *;omega
theorem openM_at {p:SPage} {i:Nat} (h:i<(openMods p).length):0≤(openMods p).getD i default∧(openMods p).getD i default<p.mods.length:=by
 have:=openIdx_in (fun s:SModule=>!s.done) p.mods 0 _ (getD_in h)
 unfold openMods at *;omega
theorem map_at {α β:Type} [Inhabited α] (f:α→β) {l:List α} {i:Nat} (h:i<l.length):(l.drop i).map f=f (l.getD i default)::(l.drop (i+1)).map f:=by rw[drop_cons h];rfl
theorem map_end {α β:Type} (f:α→β) {l:List α} {i:Nat} (h:l.length≤i):(l.drop i).map f=[]:=by rw[List.drop_of_length_le h];rfl
def fNextNeeds:Fct:=⟨[.v (.el .page)],[.sl .request],fun(x_:SPage×Unit)=>x_.1.slots.length+x_.1.mods.length≤1000000000000,fun(x_:SPage×Unit)=>(nextNeeds x_.1,())⟩
abbrev W_spec_NextNeeds_fNextNeeds_4 (p:SPage):LInv:=⟨[⟨.s,3,true,.sl .request⟩,⟨.s,5,true,.el .int⟩,⟨.b,1,false,.el .page⟩,⟨.s,4,true,.sl .int⟩],fun(z_:(List SRequest)×Int×SPage×(List Int)×Unit) (x_:(List SRequest)×Int×SPage×(List Int)×Unit)=>((0≤x_.2.1∧x_.2.1≤(openSlots p).length∧x_.1.length≤x_.2.1∧x_.1++((openSlots p).drop x_.2.1.toNat).map (slotRequest p)=(openSlots p).map (slotRequest p))∧x_.2.2.1=z_.2.2.1)∧x_.2.2.2.1=z_.2.2.2.1,fun(x_:(List SRequest)×Int×SPage×(List Int)×Unit)=>(openSlots p).length-x_.2.1.toNat⟩
abbrev W_spec_NextNeeds_fNextNeeds_9 (p:SPage):LInv:=⟨[⟨.s,3,true,.sl .request⟩,⟨.s,7,true,.el .int⟩,⟨.b,1,false,.el .page⟩,⟨.s,6,true,.sl .int⟩],fun(z_:(List SRequest)×Int×SPage×(List Int)×Unit) (x_:(List SRequest)×Int×SPage×(List Int)×Unit)=>((0≤x_.2.1∧x_.2.1≤(openMods p).length∧x_.1.length≤(openSlots p).length+x_.2.1∧x_.1++((openMods p).drop x_.2.1.toNat).map (modRequest p)=nextNeeds p)∧x_.2.2.1=z_.2.2.1)∧x_.2.2.2.1=z_.2.2.2.1,fun(x_:(List SRequest)×Int×SPage×(List Int)×Unit)=>(openMods p).length-x_.2.1.toNat⟩
theorem k30_108:fNextNeeds.ok Tryz.prog 30:=Fct.of (S:=fNextNeeds) (L:=fun⟨p,_⟩=>fun|4=>some (W_spec_NextNeeds_fNextNeeds_4 p)|9=>some (W_spec_NextNeeds_fNextNeeds_9 p)|_=>none) (kp:=[1,2,3,4,5,6,7,14,31,1000014,1000031]) E108ok Tryz.func30 (by kernel_rfl) (by kernel_rfl) (by
 rintro⟨(p:SPage),_⟩ hp
 refine ho (.cl fOpenSlots (p,()) fun(z2:List Int×PUnit)=>lpx (W_spec_NextNeeds_fNextNeeds_4 p) ([],((0:Int),(p,(z2.1,())))) fun(y2:List SRequest×Int×SPage×List Int×PUnit) bk2=>.br (decide (y2.2.1<(↑y2.2.2.2.1.length:Int))) (.ob (inB y2.2.1 y2.2.2.2.1.length)<|.ob (y2.2.1.toNat<y2.2.2.2.1.length)<|.cl fSlotRequest (y2.2.2.1,y2.2.2.2.1.getD y2.2.1.toNat default,()) fun z3=>.ob (True)<|.ob (Room (y2.1.length+[z3.1].length) 72)<|.ob (bk2 (y2.1++[z3.1],(w1 y2.2.1,(y2.2.2.1,(y2.2.2.2.1,())))))<|.ok) (.cl fOpenMods (y2.2.2.1,()) fun(z4:List Int×PUnit)=>lpx (W_spec_NextNeeds_fNextNeeds_9 p) (y2.1,((0:Int),(y2.2.2.1,(z4.1,())))) fun(y10:List SRequest×Int×SPage×List Int×PUnit) bk10=>.br (decide (y10.2.1<(↑y10.2.2.2.1.length:Int))) (.ob (inB y10.2.1 y10.2.2.2.1.length)<|.ob (y10.2.1.toNat<y10.2.2.2.1.length)<|.cl fModRequest (y10.2.2.1,y10.2.2.2.1.getD y10.2.1.toNat default,()) fun z5=>.ob (True)<|.ob (Room (y10.1.length+[z5.1].length) 72)<|.ob (Value.int IntKind.i64 y2.2.1=Value.int IntKind.i64 y2.2.1)<|.ob (bk10 (y10.1++[z5.1],(w1 y10.2.1,(y10.2.2.1,(y10.2.2.2.1,())))))<|.ok) (.lf fNextNeeds (y10.1,())))) ?_
 refine cl_i ?_ fun o1=>(lpx_i ?_ fun(y2:List SRequest×Int×SPage×List Int×PUnit) i2=>br_i (fun h3=>ob_i ?_ fun o4=>ob_i ?_ fun o5=>cl_i ?_ fun o6=>(ob_i trivial fun _=>ob_i ?_ fun o7=>ob_i ?_ fun o8=>trivial)) (fun h3=>cl_i ?_ fun o9=>(lpx_i ?_ fun(y10:List SRequest×Int×SPage×List Int×PUnit) i10=>br_i (fun h11=>ob_i ?_ fun o12=>ob_i ?_ fun o13=>cl_i ?_ fun o14=>(ob_i trivial fun _=>ob_i ?_ fun o15=>ob_i rfl fun _=>ob_i ?_ fun o16=>trivial)) (fun h11=>lfY ?_))))
 all_goals
  have hl1:(openSlots p).length≤p.slots.length:=openIdx_len _ _ _
  have hl2:(openMods p).length≤p.mods.length:=openIdx_len _ _ _
  try simp only[std0] at *
  try simp only[W_spec_NextNeeds_fNextNeeds_4,W_spec_NextNeeds_fNextNeeds_9,fModRequest,fNextNeeds,fOpenMods,fOpenSlots,fSlotRequest,std,Nat.reduceAdd,szF,toF,eqF,mkF,heF,fOpenSlots,fOpenMods,fSlotRequest,fModRequest] at *
 all_goals first|trivial|omega|exact⟨by omega,by omega,by simp,rfl⟩|skip
 all_goals (obtain⟨⟨⟨a1,a2,a3,a4⟩,e1⟩,e2⟩:=i2;simp only[e1,e2] at *)
 all_goals first|trivial|omega|skip
 all_goals try (obtain⟨⟨⟨b1,b2,b3,b4⟩,f1⟩,f2⟩:=i10;simp only[f1,f2] at *)
 all_goals first|trivial|omega|skip
 all_goals first|(have ho:=openM_at (p:=p) (i:=y10.2.1.toNat) (by omega))|(have ho:=openS_at (p:=p) (i:=y2.2.1.toNat) (by omega))|skip
 all_goals first|exact⟨by omega,by omega,by omega⟩|skip
 all_goals first|(rw[map_end (modRequest p) (l:=openMods p) (i:=y10.2.1.toNat) (by omega)] at b4;rw[List.append_nil] at b4;exact b4)|(rw[map_at (modRequest p) (l:=openMods p) (i:=y10.2.1.toNat) (by omega)] at b4;rw[wrapId (by omega),show(y10.2.1+1).toNat=y10.2.1.toNat+1 by omega];exact⟨⟨⟨⟨by omega,by omega,by simp only[List.length_append,List.length_cons,List.length_nil];omega,by rw[List.append_assoc];exact b4⟩,by trivial⟩,by trivial⟩,by omega⟩)|(rw[map_at (slotRequest p) (l:=openSlots p) (i:=y2.2.1.toNat) (by omega)] at a4;rw[wrapId (by omega),show(y2.2.1+1).toNat=y2.2.1.toNat+1 by omega];exact⟨⟨⟨⟨by omega,by omega,by simp only[List.length_append,List.length_cons,List.length_nil];omega,by rw[List.append_assoc];exact a4⟩,by trivial⟩,by trivial⟩,by omega⟩)|(rw[map_end (slotRequest p) (l:=openSlots p) (i:=y2.2.1.toNat) (by omega)] at a4;rw[List.append_nil] at a4;exact⟨by omega,by omega,by omega,by rw[a4];rfl⟩)|skip)
def E109:=E108.add 30 fNextNeeds
theorem E109ok:EOk Tryz.prog E109:=E108ok.add k30_108
def okTo (p:SPage):Prop:=(∀ s,s∈p.slots→szAddr s.to≤4000000)∧∀ m,m∈p.mods→szAddr m.to≤4000000
theorem nextNeeds_len (p:SPage):(nextNeeds p).length≤p.slots.length+p.mods.length:=by
 have h1:(openSlots p).length≤p.slots.length:=openIdx_len _ _ _
 have h2:(openMods p).length≤p.mods.length:=openIdx_len _ _ _
 unfold nextNeeds
 rw[List.length_append,List.length_map,List.length_map];omega
def Kp (p:SPage):Prop:=okTo p∧-9223372036854775808≤p.block∧p.block≤9223372036854775807
theorem K_of {p q:SPage} (h:Kp p) (hs:q.slots=p.slots) (hm:q.mods=p.mods) (hb:q.block=p.block):Kp q:=by
 unfold Kp okTo at *
 rw[hs,hm,hb];exact h
theorem newSlot_to (p:SPage) (m:Int) (to d:ByteArray) (n:Int):(newSlot p m to d n).to=(parseAddr to p.addr.host).1:=by unfold newSlot;split<;>rfl
theorem K_slot {p:SPage} (h:Kp p) (m:Int) (to d:ByteArray) (n:Int):Kp (addSlot p m to d n).1:=by
 unfold addSlot
 split
 ·refine⟨⟨fun s hs=>?_,h.1.2⟩,h.2⟩
  rcases List.mem_append.1 hs with q|q
  ·exact h.1.1 s q
  ·rw[List.mem_singleton.1 q,newSlot_to]
   have:=parseAddr_len to p.addr.host;omega
 ·exact h
theorem K_ask {p:SPage} (h:Kp p) {a:SAddr} (ha:szAddr a≤16):Kp (askModule p a):=by
 unfold askModule
 split
 ·exact h
 ·refine⟨⟨h.1.1,fun m hm=>?_⟩,h.2⟩
  rcases List.mem_append.1 hm with q|q
  ·exact h.1.2 m (List.mem_of_mem_take q)
  ·rcases List.mem_cons.1 q with q|q
   ·rw[q];have e:(newMod p a).to=a:=by unfold newMod;first|rfl|(split<;>rfl)
    rw[e];omega
   ·exact h.1.2 m (List.mem_of_mem_drop q)
theorem K_entry {p:SPage} (h:Kp p) (to:ByteArray):Kp (addEntry p to):=by
 unfold addEntry
 split
 ·exact K_of (K_ask h (parseAddr_len to p.addr.host)) rfl rfl rfl
 ·exact h
theorem K_element {p:SPage} (h:Kp p) (t:SToken) (n:Int):Kp (element p t n):=by
 unfold element
 split
 ·exact K_slot h ..
 ·split
  ·exact K_slot h ..
  ·exact h
theorem K_script {p:SPage} (h:Kp p) (n:Int):Kp (script p n):=by
 unfold script
 split
 ·split
  ·exact K_of h rfl rfl rfl
  ·exact h
 ·split
  ·exact K_slot h ..
  ·split
   ·exact K_entry h ..
   ·have hb:=addSlot_in p 3 ((findAttr (p.builder.nodes.getD n.toNat default).attrs ⟨#[115,114,99]⟩).getD ⟨#[]⟩) ((findAttr (p.builder.nodes.getD n.toNat default).attrs ⟨#[100,105,103,101,115,116]⟩).getD ⟨#[]⟩) n
    exact⟨(K_slot h ..).1,by dsimp only;omega,by dsimp only;omega⟩
theorem K_run {p:SPage} (h:Kp p) (c:ByteArray) (w:Bool):Kp (runCode p c w):=by
 unfold runCode
 split
 ·exact K_of h rfl rfl rfl
 ·exact K_of h rfl rfl rfl
theorem K_token {p:SPage} (h:Kp p):Kp (takeToken p).1:=by
 unfold takeToken
 split
 ·exact h
 ·have ht:Kp (taken p (p.queue.getD 0 default)):=K_of h rfl rfl rfl
  show Kp (takeTok p _)
  unfold takeTok
  split
  ·exact K_element ht _ _
  ·split
   ·exact K_script ht _
   ·exact ht
theorem K_blk {p:SPage} (h:Kp p):Kp { p with block:=0 }:=⟨h.1,by dsimp only;omega,by dsimp only;omega⟩
theorem K_parser {p:SPage} (h:Kp p):Kp (stepParser p).1:=by
 unfold stepParser
 split
 ·unfold stepInline
  split
  ·exact K_of (K_run h _ _) rfl rfl rfl
  ·exact h
 ·split
  ·unfold stepBlock
   split
   ·exact K_blk h
   ·split
    ·exact h
    ·split
     ·exact K_blk (K_run h _ _)
     ·exact K_blk h
  ·exact K_token h
theorem mem_modify {α:Type} {f:α→α} {m:α}:∀ {l:List α} {i:Nat},m∈l.modify i f→m∈l∨∃ z,z∈l∧m=f z
 | [],0,h=>.inl h
 | [],_+1,h=>.inl h
 | z::l,0,h=>by
  rcases List.mem_cons.1 (show m∈f z::l from h) with q|q
  ·exact .inr ⟨z,List.mem_cons_self,q⟩
  ·exact .inl (List.mem_cons_of_mem _ q)
 | z::l,i+1,h=>by
  rcases List.mem_cons.1 (show m∈z::l.modify i f from h) with q|q
  ·exact .inl (by rw[q];exact List.mem_cons_self)
  ·rcases mem_modify q with q|⟨w,h1,h2⟩
   ·exact .inl (List.mem_cons_of_mem _ q)
   ·exact .inr ⟨w,List.mem_cons_of_mem _ h1,h2⟩
theorem K_arr {p:SPage} (h:Kp p) (s:ByteArray):Kp (arriveText p s):=by
 unfold arriveText
 split
 ·exact h
 ·exact K_of h rfl rfl rfl
theorem K_end {p:SPage} (h:Kp p):Kp (endPage p):=by
 unfold endPage
 split
 ·exact h
 ·exact K_of h rfl rfl rfl
theorem ok_fillSlot {p:SPage} {Q M R:Nat} (h:okAll p Q M R) (k:Int) (x:SResponse):okAll (fillSlot p k x) Q M R:=by
 unfold fillSlot
 split
 ·obtain⟨h1,h2,⟨h3,h4⟩,h5,h6,h7⟩:=h
  have hs:∀ s:SSlot,szSlot (fillS p x s)+400*und1 (fillS p x s)≤szSlot s+400*und1 s∧(s.body.size≤2000000→(fillS p x s).body.size≤2000000):=fun s=>by
   have q:=fillF_sz p s.to x s
   unfold fillF at q
   rw[if_pos rfl] at q
   exact⟨q.1,q.2.2⟩
  have key:∀ (l:List SSlot) (i:Nat),szL szSlot (l.modify i (fillS p x))+400*undS (l.modify i (fillS p x))≤szL szSlot l+400*undS l:=by
   intro l
   induction l with
   | nil=>intro i;cases i<;>exact Nat.le_refl _
   | cons s l ih=>
    intro i
    cases i with
    | zero=>
     have q:=(hs s).1
     show szL szSlot (fillS p x s::l)+400*undS (fillS p x s::l)≤_
     rw[szL_cons,szL_cons,undS,undS];unfold und1 at q;omega
    | succ i=>
     have q:=ih i
     show szL szSlot (s::l.modify i (fillS p x))+400*undS (s::l.modify i (fillS p x))≤_
     rw[szL_cons,szL_cons,undS,undS];omega
  refine⟨h1,h2,⟨?_,fun s q=>?_⟩,h5,h6,h7⟩
  ·have q:=key p.slots k.toNat
   unfold slotP at *
   show szL szSlot (p.slots.modify k.toNat (fillS p x))+400*undS (p.slots.modify k.toNat (fillS p x))+500000800*(20-(p.slots.modify k.toNat (fillS p x)).length)≤_
   rw[List.length_modify];omega
  ·rcases mem_modify (show s∈p.slots.modify k.toNat (fillS p x) from q) with q|⟨z,z1,z2⟩
   ·exact h4 s q
   ·rw[z2];exact(hs z).2 (h4 z z1)
 ·exact h
theorem K_fillSlot {p:SPage} (h:Kp p) (k:Int) (x:SResponse):Kp (fillSlot p k x):=by
 unfold fillSlot
 split
 ·refine⟨⟨fun s hs=>?_,h.1.2⟩,h.2⟩
  rcases mem_modify (show s∈p.slots.modify k.toNat (fillS p x) from hs) with q|⟨z,z1,z2⟩
  ·exact h.1.1 s q
  ·rw[z2]
   have e:(fillS p x z).to=z.to:=by unfold fillS;split<;>rfl
   rw[e];exact h.1.1 z z1
 ·exact h
def okD (p:SPage) (n:Nat):Prop:=okAll p (10000000+n) 1100000000 10000000∧Kp p
theorem okD_mono {p:SPage} {n m:Nat} (h:okD p n) (hn:n≤m):okD p m:=⟨okAll_mono h.1 (by omega),h.2⟩
theorem okD_tail {p:SPage} {n:Nat} (h:okD p n) (hn:n≤800000000000):okTail p:=okAll_tail h.1 (by omega) (by omega) (by omega)
theorem okD_step {p:SPage} {n m:Nat} (h:okD p n) (hn:n+370≤m):okD (stepParser p).1 m:=⟨okAll_mono (ok_parser h.1) (by omega),K_parser h.2⟩
theorem okD_fill {p:SPage} {n:Nat} (h:okD p n) (k:Int) (x:SResponse):okD (fillSlot p k x) n:=⟨ok_fillSlot h.1 k x,K_fillSlot h.2 k x⟩
theorem okD_sz {p:SPage} {n:Nat} (h:okD p n) (hn:n≤800000000000):szPage p≤1000000000000∧p.addr.host.size≤4000000000∧∀ i,i<p.slots.length→szSlot (p.slots.getD i default)≤50000000000:=by
 have q:=okD_tail h hn
 refine⟨q.1.1.1,q.1.1.2.1,fun i hi=>?_⟩
 have q1:=q.1.2.1
 have q2:=szL_get szSlot hi
 omega
theorem okD_len {p:SPage} {n:Nat} (h:okD p n):p.slots.length≤13000000000∧p.mods.length≤1100000000:=by
 have h1:=szL_len szSlot p.slots
 have h2:=szL_len szModule p.mods
 obtain⟨q1,q2,⟨q3,q4⟩,⟨q5,q6,q7⟩,_⟩:=h.1
 unfold slotP at q3
 unfold modP at q6
 omega
theorem new_init {x:SResponse} (hx:x.policy.size≤200):okAll (newPage ⟨⟨#[104,111,109,101]⟩,⟨#[105,110,100,101,120]⟩⟩ x).1 2000000 1100000000 10000000∧Kp (newPage ⟨⟨#[104,111,109,101]⟩,⟨#[105,110,100,101,120]⟩⟩ x).1∧(newPage ⟨⟨#[104,111,109,101]⟩,⟨#[105,110,100,101,120]⟩⟩ x).1.tok.rest.size=0:=by
 have hp:=parse_sz x.policy
 unfold newPage
 split
 ·refine⟨ok_init ?_,⟨⟨(fun s hs=>nomatch (show s∈[] from hs)),(fun s hs=>nomatch (show s∈[] from hs))⟩,(by decide:(-9223372036854775808:Int)≤0),(by decide:(0:Int)≤9223372036854775807)⟩,rfl⟩
  have e:szAddr ⟨⟨#[104,111,109,101]⟩,⟨#[105,110,100,101,120]⟩⟩=9:=by decide
  show szAddr ⟨⟨#[104,111,109,101]⟩,⟨#[105,110,100,101,120]⟩⟩+szPolicy (parsePolicy x.policy).1+_+_+szBuilder newBuilder+_+_+_+_+_≤2000000
  rw[e]
  have e2:szBuilder newBuilder≤100:=by decide
  simp only[szTokenizer,szL,List.map_nil,List.sum_nil,List.length_nil]
  have e3:ByteArray.size (default:STokenizer).rest=0:=rfl
  omega
 ·refine⟨ok_init (by decide),⟨⟨(fun s hs=>nomatch (show s∈[] from hs)),(fun s hs=>nomatch (show s∈[] from hs))⟩,(by decide:(-9223372036854775808:Int)≤0),(by decide:(0:Int)≤9223372036854775807)⟩,rfl⟩
def fStrM:Xct:=⟨[.u,.v (.sl .str)],[.el .str],fun(x_:Unit×(List ByteArray)×Unit)=>0<x_.2.1.length∧x_.2.1.length≤256∧x_.2.1.all (fun s=>decide (s.size≤150))=true,fun(x_:Unit×(List ByteArray)×Unit) (y_:ByteArray×Unit)=>y_.1.size≤150⟩
theorem k93_109:fStrM.ok Tryz.prog 93:=Xct.of (S:=fStrM) (L:=fun _ _=>none) (kp:=[0,1,4]) E109ok Tryz.func93 (by kernel_rfl) (by kernel_rfl) (by
 rintro⟨(c:PUnit),(l:List ByteArray),_⟩ hp
 refine ho (.ob (fBelow.pre ((),(↑(List.length l):Int),()))<|.lp (Int×PUnit) (True) (fBelow.is ((),(↑(List.length l):Int),())) fun y1=>.ob ((0:Int)≤y1.fst∧y1.fst<(↑(List.length l):Int))<|.leaf (mkR fStrM.rs (List.getD l y1.fst.toNat default,())) [] []) ?_
 refine ob_i trivial fun _=>lp_i trivial fun y1 i1=>ob_i ?_ fun o2=>Xct.leafY (S:=fStrM) (List.getD l y1.fst.toNat default,()) ?_
 all_goals
  try simp only[std0] at *
  try simp only[fBelow,fStrM,std,Nat.reduceAdd,szF,toF,eqF,mkF,heF] at *
 all_goals first|trivial|omega|skip
 have hm:=getD_in (i:=y1.fst.toNat) (l:=l) (by omega)
 simpa using List.all_eq_true.1 hp.2.2 _ hm)
def E110:=E109.addX 93 fStrM
theorem E110ok:EOk Tryz.prog E110:=E109ok.addX k93_109
def fBody15:Xct:=⟨[.u],[.el .str],fun(x_:Unit×Unit)=>True,fun(x_:Unit×Unit) (y_:ByteArray×Unit)=>y_.1.size≤2000⟩
abbrev W_spec_l15Body_fBody15_3 (c:Unit):LInv:=⟨[⟨.s,3,true,.el .str⟩,⟨.s,4,true,.el .int⟩],fun _ (x_:ByteArray×Int×Unit)=>0≤x_.2.1∧x_.2.1≤5∧x_.1.size+150*x_.2.1≤1000,fun(x_:ByteArray×Int×Unit)=>x_.2.1.toNat⟩
theorem k88_110:fBody15.ok Tryz.prog 88:=Xct.of (S:=fBody15) (L:=fun⟨c,_⟩=>fun|3=>some (W_spec_l15Body_fBody15_3 c)|_=>none) (kp:=[0,2,3,4,11,1000011]) E110ok Tryz.func88 (by kernel_rfl) (by kernel_rfl) (by
 rintro⟨(c:PUnit),_⟩ hp
 refine ho (.ob (fStrM.pre ((),[{ data := #[]:ByteArray },{ data := #[(60:UInt8),(112:UInt8),(62:UInt8),(104:UInt8),(105:UInt8),(60:UInt8),(47:UInt8),(112:UInt8),(62:UInt8)]:ByteArray },{ data := #[(60:UInt8),(108:UInt8),(105:UInt8),(110:UInt8),(107:UInt8),(32:UInt8),(104:UInt8),(114:UInt8),(101:UInt8),(102:UInt8),(61:UInt8),(115:UInt8),(116:UInt8),(121:UInt8),(108:UInt8),(101:UInt8),(62:UInt8)]:ByteArray }],()))<|.lp (ByteArray×PUnit) (True) (fStrM.is ((),[{ data := #[]:ByteArray },{ data := #[(60:UInt8),(112:UInt8),(62:UInt8),(104:UInt8),(105:UInt8),(60:UInt8),(47:UInt8),(112:UInt8),(62:UInt8)]:ByteArray },{ data := #[(60:UInt8),(108:UInt8),(105:UInt8),(110:UInt8),(107:UInt8),(32:UInt8),(104:UInt8),(114:UInt8),(101:UInt8),(102:UInt8),(61:UInt8),(115:UInt8),(116:UInt8),(121:UInt8),(108:UInt8),(101:UInt8),(62:UInt8)]:ByteArray }],())) fun y2=>.ob (fBelow.pre ((),(6:Int),()))<|.lp (Int×PUnit) (True) (fBelow.is ((),(6:Int),())) fun y3=>lpx (W_spec_l15Body_fBody15_3 c) (y2.fst,(y3.fst,())) fun(y4:ByteArray×Int×PUnit) bk4=>.br (decide (y4.snd.fst>(0:Int))) (.ob (fText8.pre ((),(2:Int),()))<|.lp (ByteArray×PUnit) (True) (fText8.is ((),(2:Int),())) fun y7=>.ob (sameSize { data := #[(60:UInt8),(115:UInt8),(99:UInt8),(114:UInt8),(105:UInt8),(112:UInt8),(116:UInt8),(62:UInt8)]:ByteArray } y7.fst)<|.ob (sameSize ({ data := #[(60:UInt8),(115:UInt8),(99:UInt8),(114:UInt8),(105:UInt8),(112:UInt8),(116:UInt8),(62:UInt8)]:ByteArray }++y7.fst) { data := #[(60:UInt8),(47:UInt8),(115:UInt8),(99:UInt8),(114:UInt8),(105:UInt8),(112:UInt8),(116:UInt8),(62:UInt8)]:ByteArray })<|.ob (fStrM.pre ((),[{ data := #[(60:UInt8),(115:UInt8),(99:UInt8),(114:UInt8),(105:UInt8),(112:UInt8),(116:UInt8),(32:UInt8),(115:UInt8),(114:UInt8),(99:UInt8),(61:UInt8),(97:UInt8),(112:UInt8),(112:UInt8),(62:UInt8),(60:UInt8),(47:UInt8),(115:UInt8),(99:UInt8),(114:UInt8),(105:UInt8),(112:UInt8),(116:UInt8),(62:UInt8)]:ByteArray },{ data := #[(60:UInt8),(115:UInt8),(99:UInt8),(114:UInt8),(105:UInt8),(112:UInt8),(116:UInt8),(62:UInt8)]:ByteArray }++y7.fst++{ data := #[(60:UInt8),(47:UInt8),(115:UInt8),(99:UInt8),(114:UInt8),(105:UInt8),(112:UInt8),(116:UInt8),(62:UInt8)]:ByteArray },{ data := #[(60:UInt8),(115:UInt8),(99:UInt8),(114:UInt8),(105:UInt8),(112:UInt8),(116:UInt8),(32:UInt8),(115:UInt8),(114:UInt8),(99:UInt8),(61:UInt8),(99:UInt8),(100:UInt8),(110:UInt8),(47:UInt8),(108:UInt8),(105:UInt8),(98:UInt8),(62:UInt8),(60:UInt8),(47:UInt8),(115:UInt8),(99:UInt8),(114:UInt8),(105:UInt8),(112:UInt8),(116:UInt8),(62:UInt8)]:ByteArray },{ data := #[(60:UInt8),(115:UInt8),(99:UInt8),(114:UInt8),(105:UInt8),(112:UInt8),(116:UInt8),(32:UInt8),(115:UInt8),(114:UInt8),(99:UInt8),(61:UInt8),(117:UInt8),(116:UInt8),(105:UInt8),(108:UInt8),(32:UInt8),(107:UInt8),(105:UInt8),(110:UInt8),(100:UInt8),(61:UInt8),(109:UInt8),(111:UInt8),(100:UInt8),(117:UInt8),(108:UInt8),(101:UInt8),(62:UInt8),(60:UInt8),(47:UInt8),(115:UInt8),(99:UInt8),(114:UInt8),(105:UInt8),(112:UInt8),(116:UInt8),(62:UInt8)]:ByteArray },{ data := #[(60:UInt8),(115:UInt8),(99:UInt8),(114:UInt8),(105:UInt8),(112:UInt8),(116:UInt8),(32:UInt8),(115:UInt8),(114:UInt8),(99:UInt8),(61:UInt8),(108:UInt8),(105:UInt8),(98:UInt8),(32:UInt8),(107:UInt8),(105:UInt8),(110:UInt8),(100:UInt8),(61:UInt8),(100:UInt8),(101:UInt8),(102:UInt8),(101:UInt8),(114:UInt8),(62:UInt8),(60:UInt8),(47:UInt8),(115:UInt8),(99:UInt8),(114:UInt8),(105:UInt8),(112:UInt8),(116:UInt8),(62:UInt8)]:ByteArray },{ data := #[(60:UInt8),(105:UInt8),(109:UInt8),(103:UInt8),(32:UInt8),(115:UInt8),(114:UInt8),(99:UInt8),(61:UInt8),(108:UInt8),(111:UInt8),(103:UInt8),(111:UInt8),(62:UInt8)]:ByteArray },{ data := #[(60:UInt8),(108:UInt8),(105:UInt8),(110:UInt8),(107:UInt8),(32:UInt8),(104:UInt8),(114:UInt8),(101:UInt8),(102:UInt8),(61:UInt8),(99:UInt8),(100:UInt8),(110:UInt8),(47:UInt8),(115:UInt8),(116:UInt8),(121:UInt8),(108:UInt8),(101:UInt8),(62:UInt8)]:ByteArray },{ data := #[(60:UInt8),(112:UInt8),(62:UInt8),(120:UInt8),(60:UInt8),(47:UInt8),(112:UInt8),(62:UInt8)]:ByteArray },{ data := #[(60:UInt8),(98:UInt8),(62:UInt8)]:ByteArray },{ data := #[(60:UInt8),(115:UInt8),(99:UInt8),(114:UInt8),(105:UInt8),(112:UInt8),(116:UInt8),(32:UInt8),(110:UInt8),(111:UInt8),(110:UInt8),(99:UInt8),(101:UInt8),(61:UInt8),(110:UInt8),(55:UInt8),(62:UInt8),(115:UInt8),(97:UInt8),(121:UInt8),(32:UInt8),(110:UInt8),(60:UInt8),(47:UInt8),(115:UInt8),(99:UInt8),(114:UInt8),(105:UInt8),(112:UInt8),(116:UInt8),(62:UInt8)]:ByteArray },{ data := #[(60:UInt8),(115:UInt8),(99:UInt8),(114:UInt8),(105:UInt8),(112:UInt8),(116:UInt8),(32:UInt8),(115:UInt8),(114:UInt8),(99:UInt8),(61:UInt8),(101:UInt8),(118:UInt8),(105:UInt8),(108:UInt8),(47:UInt8),(97:UInt8),(112:UInt8),(112:UInt8),(62:UInt8),(60:UInt8),(47:UInt8),(115:UInt8),(99:UInt8),(114:UInt8),(105:UInt8),(112:UInt8),(116:UInt8),(62:UInt8)]:ByteArray },{ data := #[(116:UInt8),(101:UInt8),(120:UInt8),(116:UInt8)]:ByteArray }],()))<|.lp (ByteArray×PUnit) (True) (fStrM.is ((),[{ data := #[(60:UInt8),(115:UInt8),(99:UInt8),(114:UInt8),(105:UInt8),(112:UInt8),(116:UInt8),(32:UInt8),(115:UInt8),(114:UInt8),(99:UInt8),(61:UInt8),(97:UInt8),(112:UInt8),(112:UInt8),(62:UInt8),(60:UInt8),(47:UInt8),(115:UInt8),(99:UInt8),(114:UInt8),(105:UInt8),(112:UInt8),(116:UInt8),(62:UInt8)]:ByteArray },{ data := #[(60:UInt8),(115:UInt8),(99:UInt8),(114:UInt8),(105:UInt8),(112:UInt8),(116:UInt8),(62:UInt8)]:ByteArray }++y7.fst++{ data := #[(60:UInt8),(47:UInt8),(115:UInt8),(99:UInt8),(114:UInt8),(105:UInt8),(112:UInt8),(116:UInt8),(62:UInt8)]:ByteArray },{ data := #[(60:UInt8),(115:UInt8),(99:UInt8),(114:UInt8),(105:UInt8),(112:UInt8),(116:UInt8),(32:UInt8),(115:UInt8),(114:UInt8),(99:UInt8),(61:UInt8),(99:UInt8),(100:UInt8),(110:UInt8),(47:UInt8),(108:UInt8),(105:UInt8),(98:UInt8),(62:UInt8),(60:UInt8),(47:UInt8),(115:UInt8),(99:UInt8),(114:UInt8),(105:UInt8),(112:UInt8),(116:UInt8),(62:UInt8)]:ByteArray },{ data := #[(60:UInt8),(115:UInt8),(99:UInt8),(114:UInt8),(105:UInt8),(112:UInt8),(116:UInt8),(32:UInt8),(115:UInt8),(114:UInt8),(99:UInt8),(61:UInt8),(117:UInt8),(116:UInt8),(105:UInt8),(108:UInt8),(32:UInt8),(107:UInt8),(105:UInt8),(110:UInt8),(100:UInt8),(61:UInt8),(109:UInt8),(111:UInt8),(100:UInt8),(117:UInt8),(108:UInt8),(101:UInt8),(62:UInt8),(60:UInt8),(47:UInt8),(115:UInt8),(99:UInt8),(114:UInt8),(105:UInt8),(112:UInt8),(116:UInt8),(62:UInt8)]:ByteArray },{ data := #[(60:UInt8),(115:UInt8),(99:UInt8),(114:UInt8),(105:UInt8),(112:UInt8),(116:UInt8),(32:UInt8),(115:UInt8),(114:UInt8),(99:UInt8),(61:UInt8),(108:UInt8),(105:UInt8),(98:UInt8),(32:UInt8),(107:UInt8),(105:UInt8),(110:UInt8),(100:UInt8),(61:UInt8),(100:UInt8),(101:UInt8),(102:UInt8),(101:UInt8),(114:UInt8),(62:UInt8),(60:UInt8),(47:UInt8),(115:UInt8),(99:UInt8),(114:UInt8),(105:UInt8),(112:UInt8),(116:UInt8),(62:UInt8)]:ByteArray },{ data := #[(60:UInt8),(105:UInt8),(109:UInt8),(103:UInt8),(32:UInt8),(115:UInt8),(114:UInt8),(99:UInt8),(61:UInt8),(108:UInt8),(111:UInt8),(103:UInt8),(111:UInt8),(62:UInt8)]:ByteArray },{ data := #[(60:UInt8),(108:UInt8),(105:UInt8),(110:UInt8),(107:UInt8),(32:UInt8),(104:UInt8),(114:UInt8),(101:UInt8),(102:UInt8),(61:UInt8),(99:UInt8),(100:UInt8),(110:UInt8),(47:UInt8),(115:UInt8),(116:UInt8),(121:UInt8),(108:UInt8),(101:UInt8),(62:UInt8)]:ByteArray },{ data := #[(60:UInt8),(112:UInt8),(62:UInt8),(120:UInt8),(60:UInt8),(47:UInt8),(112:UInt8),(62:UInt8)]:ByteArray },{ data := #[(60:UInt8),(98:UInt8),(62:UInt8)]:ByteArray },{ data := #[(60:UInt8),(115:UInt8),(99:UInt8),(114:UInt8),(105:UInt8),(112:UInt8),(116:UInt8),(32:UInt8),(110:UInt8),(111:UInt8),(110:UInt8),(99:UInt8),(101:UInt8),(61:UInt8),(110:UInt8),(55:UInt8),(62:UInt8),(115:UInt8),(97:UInt8),(121:UInt8),(32:UInt8),(110:UInt8),(60:UInt8),(47:UInt8),(115:UInt8),(99:UInt8),(114:UInt8),(105:UInt8),(112:UInt8),(116:UInt8),(62:UInt8)]:ByteArray },{ data := #[(60:UInt8),(115:UInt8),(99:UInt8),(114:UInt8),(105:UInt8),(112:UInt8),(116:UInt8),(32:UInt8),(115:UInt8),(114:UInt8),(99:UInt8),(61:UInt8),(101:UInt8),(118:UInt8),(105:UInt8),(108:UInt8),(47:UInt8),(97:UInt8),(112:UInt8),(112:UInt8),(62:UInt8),(60:UInt8),(47:UInt8),(115:UInt8),(99:UInt8),(114:UInt8),(105:UInt8),(112:UInt8),(116:UInt8),(62:UInt8)]:ByteArray },{ data := #[(116:UInt8),(101:UInt8),(120:UInt8),(116:UInt8)]:ByteArray }],())) fun y11=>.ob (sameSize y4.fst y11.fst)<|.ob (Value.string { data := #[]:ByteArray }=Value.string { data := #[]:ByteArray })<|.ob (bk4 (y4.fst++y11.fst,(IntKind.i64.wrap (y4.snd.fst-(1:Int)),())))<|.ok) (.ob (fStrM.pre ((),[{ data := #[]:ByteArray },{ data := #[]:ByteArray },{ data := #[(60:UInt8),(112:UInt8),(62:UInt8),(101:UInt8),(110:UInt8),(100:UInt8),(60:UInt8),(47:UInt8),(112:UInt8),(62:UInt8)]:ByteArray },{ data := #[(60:UInt8),(112:UInt8)]:ByteArray }],()))<|.lp (ByteArray×PUnit) (True) (fStrM.is ((),[{ data := #[]:ByteArray },{ data := #[]:ByteArray },{ data := #[(60:UInt8),(112:UInt8),(62:UInt8),(101:UInt8),(110:UInt8),(100:UInt8),(60:UInt8),(47:UInt8),(112:UInt8),(62:UInt8)]:ByteArray },{ data := #[(60:UInt8),(112:UInt8)]:ByteArray }],())) fun y15=>.ob (sameSize y4.fst y15.fst)<|.leaf (mkR fBody15.rs (y4.fst++y15.fst,())) [] [])) ?_
 refine ob_i ?_ fun o1=>lp_i trivial fun y2 i2=>ob_i trivial fun _=>lp_i trivial fun y3 i3=>lpx_i ?_ fun(y4:ByteArray×Int×PUnit) i4=>br_i (fun h5=>ob_i ?_ fun o6=>lp_i trivial fun y7 i7=>ob_i ?_ fun o8=>ob_i ?_ fun o9=>ob_i ?_ fun o10=>lp_i trivial fun y11 i11=>ob_i ?_ fun o12=>ob_i rfl fun _=>ob_i ?_ fun o13=>trivial) (fun h5=>ob_i ?_ fun o14=>lp_i trivial fun y15 i15=>ob_i ?_ fun o16=>Xct.leafY (S:=fBody15) (y4.fst++y15.fst,()) ?_)
 all_goals first|trivial|(refine⟨?_,?_,?_⟩<;>decide)|skip
 all_goals
  try simp only[std0] at *
  try simp only[W_spec_l15Body_fBody15_3,fBelow,fBody15,fStrM,fText8,std,Nat.reduceAdd,szF,toF,eqF,mkF,heF,sameSize,ByteArray.size_append,List.all_cons,List.all_nil] at *
  try simp only[std0] at *
  try simp only[W_spec_l15Body_fBody15_3,fBelow,fBody15,fStrM,fText8,std,Nat.reduceAdd,szF,toF,eqF,mkF,heF,sameSize,ByteArray.size_append] at *
  try simp(disch:=omega) only[wrapId',toNat1] at *
  try simp(disch:=omega) only[if_pos,if_neg]
 all_goals first|trivial|omega|grind[wrapId',toNat1,drop_cons,drop_end,good_len,maxLen,sameSize,ByteArray.size_append])
def E111:=E110.addX 88 fBody15
theorem E111ok:EOk Tryz.prog E111:=E110ok.addX k88_110
def fStart15:Xct:=⟨[.u],[.el .page],fun(x_:Unit×Unit)=>True,fun(x_:Unit×Unit) (y_:SPage×Unit)=>okAll y_.1 2000000 1100000000 10000000∧Kp y_.1∧y_.1.tok.rest.size=0⟩
theorem k87_111:fStart15.ok Tryz.prog 87:=Xct.of (S:=fStart15) (L:=fun _ _=>none) (kp:=[0,2,3]) E111ok Tryz.func87 (by kernel_rfl) (by kernel_rfl) (by
 rintro⟨(c:PUnit),_⟩ hp
 refine ho (.ob (fPolicy9.pre ((),()))<|.lp (SPolicy×PUnit) (True) (fPolicy9.is ((),())) fun y1=>.ob (fFormatPolicy.pre (y1.fst,()))<|.lt (ByteArray×PUnit) (fFormatPolicy.fn (y1.fst,())) fun z2=>.ob (fNewPage.pre ({ host:={ data := #[(104:UInt8),(111:UInt8),(109:UInt8),(101:UInt8)]:ByteArray },path:={ data := #[(105:UInt8),(110:UInt8),(100:UInt8),(101:UInt8),(120:UInt8)]:ByteArray }:SAddr },{ status:=(200:Int),kind:=(1:Int),body:={ data := #[]:ByteArray },age:=(0:Int),shares:=false,policy:=z2.fst:SResponse },()))<|.lt (SPage×Bool×PUnit) (fNewPage.fn ({ host:={ data := #[(104:UInt8),(111:UInt8),(109:UInt8),(101:UInt8)]:ByteArray },path:={ data := #[(105:UInt8),(110:UInt8),(100:UInt8),(101:UInt8),(120:UInt8)]:ByteArray }:SAddr },{ status:=(200:Int),kind:=(1:Int),body:={ data := #[]:ByteArray },age:=(0:Int),shares:=false,policy:=z2.fst:SResponse },())) fun z3=>.leaf (mkR fStart15.rs (z3.fst,())) [] []) ?_
 refine ob_i trivial fun _=>lp_i trivial fun y1 i1=>ob_i ?_ fun o2=>lt_e fun z2 ez2=>(ob_i ?_ fun o3=>lt_e fun z3 ez3=>(Xct.leafY (S:=fStart15) (z3.fst,()) ?_))
 all_goals try subst_vars
 all_goals
  try simp only[std0] at *
  try simp only[fFormatPolicy,fNewPage,fPolicy9,fStart15,std,Nat.reduceAdd,szF,toF,eqF,mkF,heF] at *
 all_goals
  have q1:=isPolicy_sz i1
  have q2:=formatPolicy_size y1.1
 all_goals first|omega|exact new_init q2|exact⟨by omega,by decide⟩|skip)
def E112:=E111.addX 87 fStart15
theorem E112ok:EOk Tryz.prog E112:=E111ok.addX k87_111
def fSome15:Xct:=⟨[.u],[.el .page],fun(x_:Unit×Unit)=>True,fun(x_:Unit×Unit) (y_:SPage×Unit)=>okD y_.1 0⟩
theorem k59_112:fSome15.ok Tryz.prog 59:=Xct.of (S:=fSome15) (L:=fun _ _=>none) (kp:=[0,2,3,11,1000011]) E112ok Tryz.func59 (by kernel_rfl) (by kernel_rfl) (by
 rintro⟨(c:PUnit),_⟩ hp
 refine ho (.ob (fStart15.pre ((),()))<|.lp (SPage×PUnit) (True) (fStart15.is ((),())) fun y1=>.ob (fBody15.pre ((),()))<|.lp (ByteArray×PUnit) (True) (fBody15.is ((),())) fun y2=>.ob (fArriveText.pre (y1.fst,y2.fst,()))<|.lt (SPage×PUnit) (fArriveText.fn (y1.fst,y2.fst,())) fun z2=>.ob (fOnce.pre ((),(3:Int),()))<|.lp (Bool×PUnit) (True) (fOnce.is ((),(3:Int),())) fun y4=>.br (!y4.fst) (.ob (fEndPage.pre (z2.fst,()))<|.lt (SPage×PUnit) (fEndPage.fn (z2.fst,())) fun z3=>.leaf (mkR fSome15.rs (z3.fst,())) [] []) (.leaf (mkR fSome15.rs (z2.fst,())) [] [])) ?_
 refine ob_i trivial fun _=>lp_i trivial fun y1 i1=>ob_i trivial fun _=>lp_i trivial fun y2 i2=>ob_i ?_ fun o3=>lt_e fun z2 ez2=>(ob_i trivial fun _=>lp_i trivial fun y4 i4=>br_i (fun h5=>ob_i ?_ fun o6=>lt_e fun z3 ez3=>(Xct.leafY (S:=fSome15) (z3.fst,()) ?_)) (fun h5=>Xct.leafY (S:=fSome15) (z2.fst,()) ?_))
 all_goals try subst_vars
 all_goals
  try simp only[std0] at *
  try simp only[fArriveText,fBody15,fEndPage,fOnce,fSome15,fStart15,std,Nat.reduceAdd,szF,toF,eqF,mkF,heF] at *
 all_goals
  have a1:=okAll_pg i1.1 (by omega) (by omega) (by omega)
  have a2:=ok_arrive (s:=y2.1) i1.1 (by omega)
  have a3:=okAll_pg a2.1 (by omega) (by omega) (by omega)
  have a4:=ok_end a2.1 (by omega)
 all_goals first|omega|exact⟨by omega,by omega,by omega⟩|exact⟨okAll_mono a4.1 (by omega),K_end (K_arr i1.2.1 _)⟩|exact⟨okAll_mono a2.1 (by omega),K_arr i1.2.1 _⟩|skip)
def E113:=E112.addX 59 fSome15
theorem E113ok:EOk Tryz.prog E113:=E112ok.addX k59_112
def fRun17:Zct:=⟨[.l .u,.g (.el .page),.l (.v (.el .int))],[.el .page],fun(x_:Unit×SPage×Int×Unit)=>okD x_.2.1 0∧x_.2.2.1=12,fun(x_:Unit×SPage×Int×Unit) (y_:(SPage×Unit)×Unit)=>okD y_.1.1 4440⟩
abbrev W_spec_l17Run_fRun17_2 (c:Unit) (p:SPage) (most:Int):LInv:=⟨[⟨.b,4,true,.el .page⟩,⟨.s,7,true,.el .int⟩,⟨.b,6,true,.el .page⟩],fun(z_:SPage×Int×SPage×Unit) (x_:SPage×Int×SPage×Unit)=>(0≤x_.2.1∧x_.2.1≤12∧okD x_.1 (4440-370*x_.2.1.toNat))∧x_.2.2.1=z_.2.2.1,fun(x_:SPage×Int×SPage×Unit)=>x_.2.1.toNat⟩
theorem k58_113:fRun17.ok Tryz.prog 58:=Zct.of (S:=fRun17) (L:=fun⟨c,p,most,_⟩=>fun|2=>some (W_spec_l17Run_fRun17_2 c p most)|_=>none) (kp:=[0,2,4,6,7,8,9,10,16,36,1000016,1000036]) E113ok Tryz.func58 (by kernel_rfl) (by kernel_rfl) (by
 rintro⟨(c:PUnit),(p:SPage),(most:Int),_⟩ hp
 refine ho (.ob (fBelow.pre ((),w1 most,()))<|.lp (Int×PUnit) (True) (fBelow.is ((),w1 most,())) fun y1=>lpx (W_spec_l17Run_fRun17_2 c p most) (p,(y1.1,(default,()))) fun(y2:SPage×Int×SPage×PUnit) bk2=>.br (decide (y2.2.1>0)) (.cl fStepParser (y2.1,()) fun z2=>.br (!z2.2.1) (.cl fOpenSlots (z2.1,()) fun(z3:List Int×PUnit)=>.br (decide ((↑z3.1.length:Int)>0)) (.ob (fOnce.pre ((),(2:Int),()))<|.lp (Bool×PUnit) (True) (fOnce.is ((),(2:Int),())) fun y8=>.br (y8.1) (.cl fOpenSlots (z2.1,()) fun(z4:List Int×PUnit)=>.ob ((0:Int)≤(0:Int)∧(0:Int)<(↑z4.1.length:Int))<|.ob (0<z4.1.length)<|.ob (0≤z4.1.getD 0 default∧z4.1.getD 0 default<(↑z2.1.slots.length:Int))<|.ob ((z4.1.getD 0 default).toNat<z2.1.slots.length)<|.cl fKindOfMode ((z2.1.slots.getD (z4.1.getD 0 default).toNat default).mode,()) fun(z5:Int×PUnit)=>.ob (fResponse10.pre ((),z5.1,()))<|.lp (SResponse×PUnit) (True) (fResponse10.is ((),z5.1,())) fun y15=>.cl fFillSlot (z2.1,z4.1.getD 0 default,y15.1,()) fun z6=>.ob (Value.int IntKind.i64 most=Value.int IntKind.i64 most)<|.ob (bk2 (z6.1,(wr (y2.2.1-(1:Int)),(y2.2.2.1,()))))<|.ok) (.ob (Value.int IntKind.i64 most=Value.int IntKind.i64 most)<|.ob (bk2 (z2.1,(wr (y2.2.1-(1:Int)),(y2.2.2.1,()))))<|.ok)) (.ob (Value.int IntKind.i64 most=Value.int IntKind.i64 most)<|.ob (bk2 (z2.1,(wr (y2.2.1-(1:Int)),(y2.2.2.1,()))))<|.ok)) (.ob (Value.int IntKind.i64 most=Value.int IntKind.i64 most)<|.ob (bk2 (z2.1,(wr (y2.2.1-(1:Int)),(y2.2.2.1,()))))<|.ok)) (Zct.out fRun17 ((y2.1,()),(())))) ?_
 refine ob_i trivial fun _=>lp_i trivial fun y1 i1=>lpx_i ?_ fun(y2:SPage×Int×SPage×PUnit) i2=>br_i (fun h3=>cl_e ?_ fun o4 z2 ez2=>(br_i (fun h5=>cl_e ?_ fun o6 z3 ez3=>(br_i (fun h7=>ob_i trivial fun _=>lp_i trivial fun y8 i8=>br_i (fun h9=>cl_e ?_ fun o10 z4 ez4=>(ob_i ?_ fun o11=>ob_i ?_ fun o12=>ob_i ?_ fun o13=>ob_i ?_ fun o14=>cl_e trivial fun _ z5 ez5=>(ob_i trivial fun _=>lp_i trivial fun y15 i15=>cl_e ?_ fun o16 z6 ez6=>(ob_i rfl fun _=>ob_i ?_ fun o17=>trivial)))) (fun h9=>ob_i rfl fun _=>ob_i ?_ fun o18=>trivial)) (fun h7=>ob_i rfl fun _=>ob_i ?_ fun o19=>trivial))) (fun h5=>ob_i rfl fun _=>ob_i ?_ fun o20=>trivial))) (fun h3=>Zct.leafY (S:=fRun17) ((y2.fst,()),(())) ?_)
 all_goals try subst_vars
 all_goals
  try simp only[std0] at *
  try simp only[W_spec_l17Run_fRun17_2,fBelow,fFillSlot,fKindOfMode,fOnce,fOpenSlots,fResponse10,fRun17,fStepParser,std,Nat.reduceAdd,szF,toF,eqF,mkF,heF] at *
 all_goals obtain⟨hp0,hm⟩:=hp
 all_goals subst hm
 all_goals try rw[wrapId' (by omega) (by omega)] at i1
 all_goals first|exact⟨by omega,by omega,okD_mono hp0 (by omega)⟩|skip
 all_goals first|(have d1:=i2.1.2.2;have d2:=okD_step (m:=4440-370*(y2.2.1.toNat-1)) d1 (by omega);have d3:=okD_len d2;have d4:=okD_sz d2 (by omega))|skip
 all_goals try simp(disch:=omega) only[wrapId',show ∀ n:Int,(n-1).toNat=n.toNat-1 from fun n=>by omega] at *
 all_goals first|omega|exact(okD_tail d1 (by omega)).1|exact okD_mono d1 (by omega)|exact⟨⟨⟨by omega,by omega,d2⟩,i2.2⟩,by omega⟩|exact openS_at (by omega)|exact⟨d4.1,d4.2.1,d4.2.2,by omega,by omega,by omega,by omega⟩|exact okD_mono i2.1.2.2 (by omega)|exact⟨⟨⟨by omega,by omega,okD_fill d2 _ _⟩,i2.2⟩,by omega⟩|skip)
def E114:=E113.addZ 58 fRun17
theorem E114ok:EOk Tryz.prog E114:=E113ok.addZ k58_113
def fSome17:Xct:=⟨[.u],[.el .page],fun(x_:Unit×Unit)=>True,fun(x_:Unit×Unit) (y_:SPage×Unit)=>okD y_.1 4440⟩
theorem k28_114:fSome17.ok Tryz.prog 28:=Xct.of (S:=fSome17) (L:=fun _ _=>none) (kp:=[0,2,3,9,10,16,1000010,1000016]) E114ok Tryz.func28 (by kernel_rfl) (by kernel_rfl) (by
 rintro⟨(c:PUnit),_⟩ hp
 refine ho (.ob (fSome15.pre ((),()))<|.lp (SPage×PUnit) (True) (fSome15.is ((),())) fun y1=>.ob (fRun17.pre ((),y1.fst,(12:Int),()))<|.lp ((SPage×PUnit)×PUnit) (True) (fRun17.is ((),y1.fst,(12:Int),())) fun y3=>.ob (fBelow.pre ((),(16:Int),()))<|.lp (Int×PUnit) (True) (fBelow.is ((),(16:Int),())) fun y4=>.br (y4.fst==(0:Int)) (.ob (fIntL.pre ((),[(1:Int),(99:Int),(-1:Int)],()))<|.lp (Int×PUnit) (True) (fIntL.is ((),[(1:Int),(99:Int),(-1:Int)],())) fun y7=>.leaf (mkR fSome17.rs (⟨y3.fst.fst.addr,y3.fst.fst.policy,y3.fst.fst.tok,y3.fst.fst.queue,y3.fst.fst.ended,y3.fst.fst.builder,y3.fst.fst.slots,y3.fst.fst.mods,y3.fst.fst.entries,y7.fst,y3.fst.fst.inline,y3.fst.fst.deferred,y3.fst.fst.entered,y3.fst.fst.ran,y3.fst.fst.log,y3.fst.fst.loaded⟩,())) [] []) (.br (y4.fst==(1:Int)) (.ob (fIntL.pre ((),[(1:Int),(99:Int),(-1:Int)],()))<|.lp (Int×PUnit) (True) (fIntL.is ((),[(1:Int),(99:Int),(-1:Int)],())) fun y10=>.leaf (mkR fSome17.rs (⟨y3.fst.fst.addr,y3.fst.fst.policy,y3.fst.fst.tok,y3.fst.fst.queue,y3.fst.fst.ended,y3.fst.fst.builder,y3.fst.fst.slots,y3.fst.fst.mods,y3.fst.fst.entries,y3.fst.fst.block,y10.fst,y3.fst.fst.deferred,y3.fst.fst.entered,y3.fst.fst.ran,y3.fst.fst.log,y3.fst.fst.loaded⟩,())) [] []) (.leaf (mkR fSome17.rs (y3.fst.fst,())) [] []))) ?_
 refine ob_i trivial fun _=>lp_i trivial fun y1 i1=>ob_i ?_ fun o2=>lp_i trivial fun y3 i3=>ob_i trivial fun _=>lp_i trivial fun y4 i4=>br_i (fun h5=>ob_i ?_ fun o6=>lp_i trivial fun y7 i7=>Xct.leafY (S:=fSome17) (⟨y3.fst.fst.addr,y3.fst.fst.policy,y3.fst.fst.tok,y3.fst.fst.queue,y3.fst.fst.ended,y3.fst.fst.builder,y3.fst.fst.slots,y3.fst.fst.mods,y3.fst.fst.entries,y7.fst,y3.fst.fst.inline,y3.fst.fst.deferred,y3.fst.fst.entered,y3.fst.fst.ran,y3.fst.fst.log,y3.fst.fst.loaded⟩,()) ?_) (fun h5=>br_i (fun h8=>ob_i ?_ fun o9=>lp_i trivial fun y10 i10=>Xct.leafY (S:=fSome17) (⟨y3.fst.fst.addr,y3.fst.fst.policy,y3.fst.fst.tok,y3.fst.fst.queue,y3.fst.fst.ended,y3.fst.fst.builder,y3.fst.fst.slots,y3.fst.fst.mods,y3.fst.fst.entries,y3.fst.fst.block,y10.fst,y3.fst.fst.deferred,y3.fst.fst.entered,y3.fst.fst.ran,y3.fst.fst.log,y3.fst.fst.loaded⟩,()) ?_) (fun h8=>Xct.leafY (S:=fSome17) (y3.fst.fst,()) ?_))
 all_goals
  try simp only[std0] at *
  try simp only[fBelow,fIntL,fRun17,fSome15,fSome17,std,Nat.reduceAdd,szF,toF,eqF,mkF,heF] at *
  try simp only[List.mem_cons,List.not_mem_nil,or_false] at *
 all_goals first|omega|decide|exact⟨i1,rfl⟩|exact i3|exact⟨by decide,by decide⟩|exact⟨i3.1,i3.2.1,by dsimp only;omega,by dsimp only;omega⟩|exact⟨i3.1,i3.2⟩|skip)
def E115:=E114.addX 28 fSome17
theorem E115ok:EOk Tryz.prog E115:=E114ok.addX k28_114
def fReq11:Xct:=⟨[.u],[.el .request],fun(x_:Unit×Unit)=>True,fun(x_:Unit×Unit) (y_:SRequest×Unit)=>True⟩
theorem k91_115:fReq11.ok Tryz.prog 91:=Xct.of (S:=fReq11) (L:=fun _ _=>none) (kp:=[0,2]) E115ok Tryz.func91 (by kernel_rfl) (by kernel_rfl) (by
 rintro⟨(c:PUnit),_⟩ hp
 refine ho (.ob (fBelow.pre ((),(5:Int),()))<|.lp (Int×PUnit) (True) (fBelow.is ((),(5:Int),())) fun y1=>.ob (fAddr.pre ((),()))<|.lp (SAddr×PUnit) (True) (fAddr.is ((),())) fun y2=>.ob (fWord.pre ((),()))<|.lp (ByteArray×PUnit) (True) (fWord.is ((),())) fun y3=>.leaf (mkR fReq11.rs (⟨IntKind.i64.wrap ((1:Int)+y1.fst),y2.fst,y3.fst,{ data := #[]:ByteArray }⟩,())) [] []) ?_
 refine ob_i trivial fun _=>lp_i trivial fun y1 i1=>ob_i trivial fun _=>lp_i trivial fun y2 i2=>ob_i trivial fun _=>lp_i trivial fun y3 i3=>Xct.leafY (S:=fReq11) (⟨IntKind.i64.wrap ((1:Int)+y1.fst),y2.fst,y3.fst,{ data := #[]:ByteArray }⟩,()) ?_
 all_goals
  try simp only[std0] at *
  try simp only[fAddr,fBelow,fReq11,fWord,std,Nat.reduceAdd,szF,toF,eqF,mkF,heF] at *)
def E116:=E115.addX 91 fReq11
theorem E116ok:EOk Tryz.prog E116:=E115ok.addX k91_115
def fAny4:Xct:=⟨[.u],[.el .addr],fun(x_:Unit×Unit)=>True,fun(x_:Unit×Unit) (y_:SAddr×Unit)=>y_.1.host.size≤150∧y_.1.path.size≤150⟩
theorem k92_116:fAny4.ok Tryz.prog 92:=Xct.of (S:=fAny4) (L:=fun _ _=>none) (kp:=[0,2,3,7,8,14,1000008,1000014]) E116ok Tryz.func92 (by kernel_rfl) (by kernel_rfl) (by
 rintro⟨(c:PUnit),_⟩ hp
 refine ho (.ob (fAddr.pre ((),()))<|.lp (SAddr×PUnit) (True) (fAddr.is ((),())) fun y1=>.ob (fBelow.pre ((),(12:Int),()))<|.lp (Int×PUnit) (True) (fBelow.is ((),(12:Int),())) fun y2=>.br (y2.fst==(0:Int)) (.ob (fStrM.pre ((),[{ data := #[]:ByteArray },{ data := #[(65:UInt8)]:ByteArray },{ data := #[(97:UInt8),(98:UInt8),(99:UInt8),(100:UInt8),(101:UInt8),(102:UInt8),(103:UInt8),(104:UInt8),(105:UInt8)]:ByteArray },{ data := #[(97:UInt8),(98:UInt8),(99:UInt8),(100:UInt8),(101:UInt8),(102:UInt8),(103:UInt8),(104:UInt8)]:ByteArray }],()))<|.lp (ByteArray×PUnit) (True) (fStrM.is ((),[{ data := #[]:ByteArray },{ data := #[(65:UInt8)]:ByteArray },{ data := #[(97:UInt8),(98:UInt8),(99:UInt8),(100:UInt8),(101:UInt8),(102:UInt8),(103:UInt8),(104:UInt8),(105:UInt8)]:ByteArray },{ data := #[(97:UInt8),(98:UInt8),(99:UInt8),(100:UInt8),(101:UInt8),(102:UInt8),(103:UInt8),(104:UInt8)]:ByteArray }],())) fun y5=>.leaf (mkR fAny4.rs (⟨y5.fst,y1.fst.path⟩,())) [] []) (.br (y2.fst==(1:Int)) (.ob (fStrM.pre ((),[{ data := #[]:ByteArray },{ data := #[(97:UInt8),(47:UInt8),(98:UInt8)]:ByteArray },{ data := #[(97:UInt8),(49:UInt8)]:ByteArray }],()))<|.lp (ByteArray×PUnit) (True) (fStrM.is ((),[{ data := #[]:ByteArray },{ data := #[(97:UInt8),(47:UInt8),(98:UInt8)]:ByteArray },{ data := #[(97:UInt8),(49:UInt8)]:ByteArray }],())) fun y8=>.leaf (mkR fAny4.rs (⟨y1.fst.host,y8.fst⟩,())) [] []) (.leaf (mkR fAny4.rs (y1.fst,())) [] []))) ?_
 refine ob_i trivial fun _=>lp_i trivial fun y1 i1=>ob_i trivial fun _=>lp_i trivial fun y2 i2=>br_i (fun h3=>ob_i ?_ fun o4=>lp_i trivial fun y5 i5=>Xct.leafY (S:=fAny4) (⟨y5.fst,y1.fst.path⟩,()) ?_) (fun h3=>br_i (fun h6=>ob_i ?_ fun o7=>lp_i trivial fun y8 i8=>Xct.leafY (S:=fAny4) (⟨y1.fst.host,y8.fst⟩,()) ?_) (fun h6=>Xct.leafY (S:=fAny4) (y1.fst,()) ?_))
 all_goals
  try simp only[std0] at *
  try simp only[fAddr,fAny4,fBelow,fStrM,std,Nat.reduceAdd,szF,toF,eqF,mkF,heF] at *
 all_goals first|trivial|omega|decide|exact⟨by decide,by decide,by decide⟩|exact⟨by omega,by omega⟩|exact⟨by omega,by omega,by omega⟩|skip)
def E117:=E116.addX 92 fAny4
theorem E117ok:EOk Tryz.prog E117:=E116ok.addX k92_116
theorem k65_117:fReq11.ok Tryz.prog 65:=Xct.of (S:=fReq11) (L:=fun _ _=>none) (kp:=[0,2,3,7,8,14,19,22,1000008,1000014,1000019,1000022]) E117ok Tryz.func65 (by kernel_rfl) (by kernel_rfl) (by
 rintro⟨(c:PUnit),_⟩ hp
 refine ho (.ob (fReq11.pre ((),()))<|.lp (SRequest×PUnit) (True) (fReq11.is ((),())) fun y1=>.ob (fBelow.pre ((),(12:Int),()))<|.lp (Int×PUnit) (True) (fBelow.is ((),(12:Int),())) fun y2=>.br (y2.fst==(0:Int)) (.ob (fIntL.pre ((),[(0:Int),(6:Int)],()))<|.lp (Int×PUnit) (True) (fIntL.is ((),[(0:Int),(6:Int)],())) fun y5=>.leaf (mkR fReq11.rs (⟨y5.fst,y1.fst.to,y1.fst.from_,y1.fst.digest⟩,())) [] []) (.br (y2.fst==(1:Int)) (.ob (fAny4.pre ((),()))<|.lp (SAddr×PUnit) (True) (fAny4.is ((),())) fun y7=>.leaf (mkR fReq11.rs (⟨y1.fst.kind,y7.fst,y1.fst.from_,y1.fst.digest⟩,())) [] []) (.br (y2.fst==(2:Int)) (.leaf (mkR fReq11.rs (⟨y1.fst.kind,y1.fst.to,{ data := #[]:ByteArray },y1.fst.digest⟩,())) [] []) (.br (y2.fst==(3:Int)) (.ob (fStrM.pre ((),[{ data := #[(53:UInt8)]:ByteArray },{ data := #[(97:UInt8),(32:UInt8),(98:UInt8)]:ByteArray }],()))<|.lp (ByteArray×PUnit) (True) (fStrM.is ((),[{ data := #[(53:UInt8)]:ByteArray },{ data := #[(97:UInt8),(32:UInt8),(98:UInt8)]:ByteArray }],())) fun y11=>.leaf (mkR fReq11.rs (⟨y1.fst.kind,y1.fst.to,y1.fst.from_,y11.fst⟩,())) [] []) (.leaf (mkR fReq11.rs (y1.fst,())) [] []))))) ?_
 refine ob_i trivial fun _=>lp_i trivial fun y1 i1=>ob_i trivial fun _=>lp_i trivial fun y2 i2=>br_i (fun h3=>ob_i ?_ fun o4=>lp_i trivial fun y5 i5=>Xct.leafY (S:=fReq11) (⟨y5.fst,y1.fst.to,y1.fst.from_,y1.fst.digest⟩,()) ?_) (fun h3=>br_i (fun h6=>ob_i trivial fun _=>lp_i trivial fun y7 i7=>Xct.leafY (S:=fReq11) (⟨y1.fst.kind,y7.fst,y1.fst.from_,y1.fst.digest⟩,()) ?_) (fun h6=>br_i (fun h8=>Xct.leafY (S:=fReq11) (⟨y1.fst.kind,y1.fst.to,{ data := #[]:ByteArray },y1.fst.digest⟩,()) ?_) (fun h8=>br_i (fun h9=>ob_i ?_ fun o10=>lp_i trivial fun y11 i11=>Xct.leafY (S:=fReq11) (⟨y1.fst.kind,y1.fst.to,y1.fst.from_,y11.fst⟩,()) ?_) (fun h9=>Xct.leafY (S:=fReq11) (y1.fst,()) ?_))))
 all_goals
  try simp only[std0] at *
  try simp only[fAny4,fBelow,fIntL,fReq11,fStrM,std,Nat.reduceAdd,szF,toF,eqF,mkF,heF] at *
 all_goals first|trivial|omega|decide|exact⟨by decide,by decide,by decide⟩|exact⟨by omega,by omega⟩|exact⟨by omega,by omega,by omega⟩|skip)
def E118:=E117.addX 65 fReq11
theorem E118ok:EOk Tryz.prog E118:=E117ok.addX k65_117
def fReqs24:Xct:=⟨[.u],[.sl .request],fun(x_:Unit×Unit)=>True,fun(x_:Unit×Unit) (y_:(List SRequest)×Unit)=>y_.1.length≤5⟩
abbrev W_spec_l24Requests_fReqs24_3 (c:Unit):LInv:=⟨[⟨.s,3,true,.sl .request⟩,⟨.s,4,true,.el .int⟩],fun _ (x_:(List SRequest)×Int×Unit)=>0≤x_.2.1∧x_.2.1≤5∧x_.1.length+x_.2.1≤5,fun(x_:(List SRequest)×Int×Unit)=>x_.2.1.toNat⟩
theorem k31_118:fReqs24.ok Tryz.prog 31:=Xct.of (S:=fReqs24) (L:=fun⟨c,_⟩=>fun|3=>some (W_spec_l24Requests_fReqs24_3 c)|_=>none) (kp:=[0,2,3,4,9,1000009]) E118ok Tryz.func31 (by kernel_rfl) (by kernel_rfl) (by
 rintro⟨(c:PUnit),_⟩ hp
 refine ho (.ob (fBelow.pre ((),(6:Int),()))<|.lp (Int×PUnit) (True) (fBelow.is ((),(6:Int),())) fun y1=>lpx (W_spec_l24Requests_fReqs24_3 c) ([],(y1.fst,())) fun(y2:List SRequest×Int×PUnit) bk2=>.br (decide (y2.snd.fst>(0:Int))) (.ob (fReq11.pre ((),()))<|.lp (SRequest×PUnit) (True) (fReq11.is ((),())) fun y4=>.ob (True)<|.ob (Room (y2.fst.length+[y4.fst].length) (72:Nat))<|.ob (bk2 (y2.fst++[y4.fst],(IntKind.i64.wrap (y2.snd.fst-(1:Int)),())))<|.ok) (.leaf (mkR fReqs24.rs (y2.fst,())) [] [])) ?_
 refine ob_i trivial fun _=>lp_i trivial fun y1 i1=>lpx_i ?_ fun(y2:List SRequest×Int×PUnit) i2=>br_i (fun h3=>ob_i trivial fun _=>lp_i trivial fun y4 i4=>ob_i trivial fun _=>ob_i ?_ fun o5=>ob_i ?_ fun o6=>trivial) (fun h3=>Xct.leafY (S:=fReqs24) (y2.fst,()) ?_)
 all_goals
  try simp only[std0] at *
  try simp only[W_spec_l24Requests_fReqs24_3,fBelow,fReq11,fReqs24,std,Nat.reduceAdd,szF,toF,eqF,mkF,heF,List.length_append,List.length_cons,List.length_nil] at *
  try simp(disch:=omega) only[wrapId'] at *
 all_goals first|omega|exact⟨by omega,by omega,by omega⟩|exact⟨⟨by omega,by omega,by omega⟩,by omega⟩|skip)
def E119:=E118.addX 31 fReqs24
theorem E119ok:EOk Tryz.prog E119:=E118ok.addX k31_118
def fAddrs4:Xct:=⟨[.u],[.sl .addr],fun(x_:Unit×Unit)=>True,fun(x_:Unit×Unit) (y_:(List SAddr)×Unit)=>y_.1.length≤5⟩
abbrev W_spec_l4Addrs_fAddrs4_3 (c:Unit):LInv:=⟨[⟨.s,3,true,.sl .addr⟩,⟨.s,4,true,.el .int⟩],fun _ (x_:(List SAddr)×Int×Unit)=>0≤x_.2.1∧x_.2.1≤5∧x_.1.length+x_.2.1≤5,fun(x_:(List SAddr)×Int×Unit)=>x_.2.1.toNat⟩
theorem k35_119:fAddrs4.ok Tryz.prog 35:=Xct.of (S:=fAddrs4) (L:=fun⟨c,_⟩=>fun|3=>some (W_spec_l4Addrs_fAddrs4_3 c)|_=>none) (kp:=[0,2,3,4,9,1000009]) E119ok Tryz.func35 (by kernel_rfl) (by kernel_rfl) (by
 rintro⟨(c:PUnit),_⟩ hp
 refine ho (.ob (fBelow.pre ((),(6:Int),()))<|.lp (Int×PUnit) (True) (fBelow.is ((),(6:Int),())) fun y1=>lpx (W_spec_l4Addrs_fAddrs4_3 c) ([],(y1.fst,())) fun(y2:List SAddr×Int×PUnit) bk2=>.br (decide (y2.snd.fst>(0:Int))) (.ob (fAddr.pre ((),()))<|.lp (SAddr×PUnit) (True) (fAddr.is ((),())) fun y4=>.ob (True)<|.ob (Room (y2.fst.length+[y4.fst].length) (32:Nat))<|.ob (bk2 (y2.fst++[y4.fst],(IntKind.i64.wrap (y2.snd.fst-(1:Int)),())))<|.ok) (.leaf (mkR fAddrs4.rs (y2.fst,())) [] [])) ?_
 refine ob_i trivial fun _=>lp_i trivial fun y1 i1=>lpx_i ?_ fun(y2:List SAddr×Int×PUnit) i2=>br_i (fun h3=>ob_i trivial fun _=>lp_i trivial fun y4 i4=>ob_i trivial fun _=>ob_i ?_ fun o5=>ob_i ?_ fun o6=>trivial) (fun h3=>Xct.leafY (S:=fAddrs4) (y2.fst,()) ?_)
 all_goals
  try simp only[std0] at *
  try simp only[W_spec_l4Addrs_fAddrs4_3,fAddr,fAddrs4,fBelow,std,Nat.reduceAdd,szF,toF,eqF,mkF,heF,List.length_append,List.length_cons,List.length_nil] at *
  try simp(disch:=omega) only[wrapId'] at *
 all_goals first|omega|exact⟨by omega,by omega,by omega⟩|exact⟨⟨by omega,by omega,by omega⟩,by omega⟩|skip)
def E120:=E119.addX 35 fAddrs4
theorem E120ok:EOk Tryz.prog E120:=E119ok.addX k35_119
def fDrawPick:Xct:=⟨[.v (.sl .u8)],[.el .page,.sl .request],fun(x_:(List Int)×Unit)=>x_.1.length≤1000000000000000000∧(∀ j,j<x_.1.length→0≤x_.1.getD j default∧x_.1.getD j default≤255),fun(x_:(List Int)×Unit) (y_:SPage×(List SRequest)×Unit)=>okD y_.1 4440∧y_.2.1.length≤20000000000⟩
theorem k6_120:fDrawPick.ok Tryz.prog 6:=Xct.of (S:=fDrawPick) (L:=fun _ _=>none) (kp:=[0,2,3,4,5,11,1000011]) E120ok Tryz.func6 (by kernel_rfl) (by kernel_rfl) (by
 rintro⟨(b:List Int),_⟩ hp
 refine ho (.ob (∀ (j:Nat),j<List.length (b,()).fst→(0:Int)≤List.getD b j default∧List.getD b j default≤(255:Int))<|.ob (List.length b≤(1000000000000000000:Nat))<|.ob (fSome17.pre ((),()))<|.lp (SPage×PUnit) (True) (fSome17.is ((),())) fun y3=>.ob (fOnce.pre ((),(2:Int),()))<|.lp (Bool×PUnit) (True) (fOnce.is ((),(2:Int),())) fun y4=>.br (y4.fst) (.ob (fNextNeeds.pre (y3.fst,()))<|.lt (List SRequest×PUnit) (fNextNeeds.fn (y3.fst,())) fun z2=>.leaf (mkR fDrawPick.rs (y3.fst,z2.fst,())) [] []) (.ob (fReqs24.pre ((),()))<|.lp (List SRequest×PUnit) (True) (fReqs24.is ((),())) fun y7=>.leaf (mkR fDrawPick.rs (y3.fst,y7.fst,())) [] [])) ?_
 refine ob_i ?_ fun o1=>ob_i ?_ fun o2=>ob_i trivial fun _=>lp_i trivial fun y3 i3=>ob_i trivial fun _=>lp_i trivial fun y4 i4=>br_i (fun h5=>ob_i ?_ fun o6=>lt_e fun z2 ez2=>(Xct.leafY (S:=fDrawPick) (y3.fst,z2.fst,()) ?_)) (fun h5=>ob_i trivial fun _=>lp_i trivial fun y7 i7=>Xct.leafY (S:=fDrawPick) (y3.fst,y7.fst,()) ?_)
 all_goals try subst_vars
 all_goals
  try simp only[std0] at *
  try simp only[fDrawPick,fNextNeeds,fOnce,fReqs24,fSome17,std,Nat.reduceAdd,szF,toF,eqF,mkF,heF] at *
 all_goals first|exact hp.2|exact hp.1|skip
 all_goals
  have d1:=okD_len i3
  have d2:(nextNeeds y3.1).length≤y3.1.slots.length+y3.1.mods.length:=nextNeeds_len y3.1
 all_goals first|omega|exact⟨i3,by omega⟩|skip)
def E121:=E120.addX 6 fDrawPick
theorem E121ok:EOk Tryz.prog E121:=E120ok.addX k6_120
def fDrawWithout:Xct:=⟨[.v (.sl .u8)],[.sl .request,.sl .addr],fun(x_:(List Int)×Unit)=>x_.1.length≤1000000000000000000∧(∀ j,j<x_.1.length→0≤x_.1.getD j default∧x_.1.getD j default≤255),fun(x_:(List Int)×Unit) (y_:(List SRequest)×(List SAddr)×Unit)=>y_.1.length≤5∧y_.2.1.length≤5⟩
theorem k12_121:fDrawWithout.ok Tryz.prog 12:=Xct.of (S:=fDrawWithout) (L:=fun _ _=>none) (kp:=[0,2,3,4,5]) E121ok Tryz.func12 (by kernel_rfl) (by kernel_rfl) (by
 rintro⟨(b:List Int),_⟩ hp
 refine ho (.ob (∀ (j:Nat),j<List.length (b,()).fst→(0:Int)≤List.getD b j default∧List.getD b j default≤(255:Int))<|.ob (List.length b≤(1000000000000000000:Nat))<|.ob (fReqs24.pre ((),()))<|.lp (List SRequest×PUnit) (True) (fReqs24.is ((),())) fun y3=>.ob (fAddrs4.pre ((),()))<|.lp (List SAddr×PUnit) (True) (fAddrs4.is ((),())) fun y4=>.leaf (mkR fDrawWithout.rs (y3.fst,y4.fst,())) [] []) ?_
 refine ob_i ?_ fun o1=>ob_i ?_ fun o2=>ob_i trivial fun _=>lp_i trivial fun y3 i3=>ob_i trivial fun _=>lp_i trivial fun y4 i4=>Xct.leafY (S:=fDrawWithout) (y3.fst,y4.fst,()) ?_
 all_goals
  try simp only[std0] at *
  try simp only[fAddrs4,fDrawWithout,fReqs24,std,Nat.reduceAdd,szF,toF,eqF,mkF,heF] at *
 all_goals first|exact hp.2|exact hp.1|exact⟨i3,i4⟩)
def E122:=E121.addX 12 fDrawWithout
theorem E122ok:EOk Tryz.prog E122:=E121ok.addX k12_121
theorem pickReq_spec (p:SPage):∀ (l:List SRequest) (i best bc:Int),0≤i→-1≤best→best<i →
 (pickReq p l i best bc=best∧(best<0→l=[])∧(0≤best→∀ r,r∈l→bc≤classOf p r)) ∨
 (∃ k:Nat,k<l.length∧pickReq p l i best bc=i+k∧(0≤best→classOf p (l.getD k default)<bc)∧(∀ j,j<l.length→classOf p (l.getD k default)≤classOf p (l.getD j default))∧∀ j,j<k→classOf p (l.getD k default)<classOf p (l.getD j default)):=by
 intro l
 induction l with
 | nil=>intro i best bc _ _ _;exact .inl ⟨rfl,fun _=>rfl,fun _ r h=>nomatch h⟩
 | cons r l ih=>
  intro i best bc hi hb hbi
  unfold pickReq
  split
  ·rename_i hc
   rcases ih (i+1) i (classOf p r) (by omega) (by omega) (by omega) with⟨h1,h2,h3⟩|⟨k,h1,h2,h3,h4,h5⟩
   ·refine .inr ⟨0,by simp,by rw[h1];omega,fun h=>?_,fun j hj=>?_,fun j hj=>by omega⟩
    ·show classOf p r<bc;omega
    ·cases j with
     | zero=>exact Int.le_refl _
     | succ j=>
      show classOf p r≤classOf p (l.getD j default)
      exact h3 hi _ (getD_in (by simpa using hj))
   ·have h3':=h3 hi
    refine .inr ⟨k+1,by simpa using h1,by rw[h2];omega,fun h=>?_,fun j hj=>?_,fun j hj=>?_⟩
    ·show classOf p (l.getD k default)<bc;omega
    ·cases j with
     | zero=>show classOf p (l.getD k default)≤classOf p r;omega
     | succ j=>exact h4 j (by simpa using hj)
    ·cases j with
     | zero=>exact h3'
     | succ j=>exact h5 j (by omega)
  ·rename_i hc
   rcases ih (i+1) best bc (by omega) hb (by omega) with⟨h1,h2,h3⟩|⟨k,h1,h2,h3,h4,h5⟩
   ·refine .inl ⟨h1,fun h=>by omega,fun h x hx=>?_⟩
    rcases List.mem_cons.1 hx with q|q
    ·subst q;omega
    ·exact h3 h x q
   ·have h3':=h3 (by omega)
    refine .inr ⟨k+1,by simpa using h1,by rw[h2];omega,fun _=>h3',fun j hj=>?_,fun j hj=>?_⟩
    ·cases j with
     | zero=>show classOf p (l.getD k default)≤classOf p r;omega
     | succ j=>exact h4 j (by simpa using hj)
    ·cases j with
     | zero=>show classOf p (l.getD k default)<classOf p r;omega
     | succ j=>exact h5 j (by omega)
theorem isrt_head {κ:SRequest→Int}:∀ (l:List SRequest) (k:Nat),k<l.length→(∀ j,j<l.length→κ (l.getD k default)≤κ (l.getD j default))→(∀ j,j<k→κ (l.getD k default)<κ (l.getD j default))→(isrt κ l).getD 0 default=l.getD k default:=by
 intro l
 induction l with
 | nil=>intro k h;exact absurd h (Nat.not_lt_zero _)
 | cons r l ih=>
  intro k hk h1 h2
  cases k with
  | zero=>
   show(ins1 κ r (isrt κ l)).getD 0 default=r
   have hm:∀ y,y∈isrt κ l→κ r≤κ y:=fun y hy=>by
    obtain⟨j,hj,rfl⟩:=List.mem_iff_getElem.1 ((sim_mem (isrt_sim l)).1 hy)
    have q:κ r≤κ (l.getD j default):=h1 (j+1) (by simpa using hj)
    rw[List.getD_eq_getElem?_getD,List.getElem?_eq_getElem hj] at q
    exact q
   cases hq:isrt κ l with
   | nil=>rfl
   | cons y m=>
    rw[hq] at hm
    unfold ins1
    rw[if_pos (hm y List.mem_cons_self)];rfl
  | succ k=>
   show(ins1 κ r (isrt κ l)).getD 0 default=l.getD k default
   have hk':k<l.length:=by simpa using hk
   have e:=ih k hk' (fun j hj=>h1 (j+1) (by simpa using hj)) fun j hj=>h2 (j+1) (by omega)
   have h3:κ (l.getD k default)<κ r:=h2 0 (by omega)
   cases hq:isrt κ l with
   | nil=>have:=isrt_len (κ:=κ) l;rw[hq] at this;simp at this;omega
   | cons y m=>
    rw[hq] at e
    have e':y=l.getD k default:=e
    unfold ins1
    rw[if_neg (by rw[e'];omega),e'];rfl
theorem pick_law (p:SPage) (l:List SRequest) : -1≤pickReq p l 0 (-1) 0∧pickReq p l 0 (-1) 0<l.length∧(l.length=0∨0≤pickReq p l 0 (-1) 0)∧(0≤pickReq p l 0 (-1) 0→(sortReqs p l).getD 0 default=l.getD (pickReq p l 0 (-1) 0).toNat default):=by
 rcases pickReq_spec p l 0 (-1) 0 (by omega) (by omega) (by omega) with⟨h1,h2,_⟩|⟨k,h1,h2,_,h4,h5⟩
 ·have q:=h2 (by omega);subst q
  exact⟨by omega,by show pickReq p [] 0 (-1) 0<0;omega,.inl rfl,fun h=>by omega⟩
 ·refine⟨by omega,by omega,.inr (by omega),fun _=>?_⟩
  rw[h2,show(0+(k:Int)).toNat=k by omega]
  exact isrt_head l k h1 h4 h5
theorem pick_neg (p:SPage) (l:List SRequest):decide (pickReq p l 0 (-1) 0<0)=((l.length:Int)==0):=by
 obtain⟨h1,h2,h3,_⟩:=pick_law p l
 rw[Bool.eq_iff_iff,decide_eq_true_eq,beq_iff_eq];omega
theorem sorted_at {p:SPage} {l:List SRequest} {i:Nat} (h:i+1<(sortReqs p l).length):classOf p ((sortReqs p l).getD i default)≤classOf p ((sortReqs p l).getD (i+1) default):=by
 have q:=List.pairwise_iff_getElem.1 (isrt_sorted (κ:=classOf p) l) i (i+1) (by unfold sortReqs at h;omega) (by exact h) (by omega)
 unfold sortReqs at h ⊢
 rw[List.getD_eq_getElem?_getD,List.getD_eq_getElem?_getD,List.getElem?_eq_getElem h,List.getElem?_eq_getElem (show i<(isrt (classOf p) l).length by omega)]
 exact q
theorem without_in {d:List SAddr} {r:SRequest}:∀ {l:List SRequest},r∈withoutAddrs d l→d.any (fun c=>decide (c=r.to))=false:=by
 intro l
 induction l with
 | nil=>intro h;cases h
 | cons x l ih=>
  unfold withoutAddrs
  split
  ·exact ih
  ·rename_i hx
   intro h
   rcases List.mem_cons.1 h with q|q
   ·subst q;exact Bool.eq_false_iff.2 hx
   ·exact ih q
def lBytesP:Fct:=lawFS [.sl .u8]
abbrev W_laws_FnPriorities_lBytesP_9 (b:(List Int)):LInv:=⟨[⟨.s,7,true,.el .int⟩,⟨.s,6,true,.sl .request⟩,⟨.b,3,true,.el .page⟩],fun(z_:Int×(List SRequest)×SPage×Unit) (x_:Int×(List SRequest)×SPage×Unit)=>1≤x_.1∧x_.1≤1+x_.2.1.length∧x_.2.1=z_.2.1∧x_.2.2.1=z_.2.2.1,fun(x_:Int×(List SRequest)×SPage×Unit)=>(1+x_.2.1.length-x_.1.toNat)⟩
abbrev W_laws_FnPriorities_lBytesP_18 (b:(List Int)):LInv:=⟨[⟨.s,15,true,.el .int⟩,⟨.s,14,true,.sl .request⟩,⟨.b,8,true,.el .addr⟩,⟨.b,10,true,.el .addr⟩,⟨.s,12,true,.sl .request⟩,⟨.s,13,true,.sl .addr⟩],fun(z_:Int×(List SRequest)×SAddr×SAddr×(List SRequest)×(List SAddr)×Unit) (x_:Int×(List SRequest)×SAddr×SAddr×(List SRequest)×(List SAddr)×Unit)=>((((0≤x_.1∧x_.1≤x_.2.1.length∧x_.2.1=z_.2.1)∧x_.2.2.1=z_.2.2.1)∧x_.2.2.2.1=z_.2.2.2.1)∧x_.2.2.2.2.1=z_.2.2.2.2.1)∧x_.2.2.2.2.2.1=z_.2.2.2.2.2.1,fun(x_:Int×(List SRequest)×SAddr×SAddr×(List SRequest)×(List SAddr)×Unit)=>(x_.2.1.length-x_.1.toNat)⟩
theorem k3_122:lBytesP.ok Tryz.prog 3:=Fct.of (S:=lBytesP) (L:=fun⟨b,_⟩=>fun|9=>some (W_laws_FnPriorities_lBytesP_9 b)|18=>some (W_laws_FnPriorities_lBytesP_18 b)|_=>none) (kp:=[0,2,3,4,5,6,7,8,9,10,11,12,13,14,15,17,61,65,81,103,112,1000017,1000061,1000065,1000081,1000103,1000112]) E122ok Tryz.func3 (by kernel_rfl) (by kernel_rfl) (by
 rintro⟨(b:List Int),_⟩ hp
 refine ho (.cl fBig (b,()) fun z2=>.br (z2.1) (.leaf (mkR lBytesP.rs (true,())) [] []) (.ob (fDrawPick.pre (b,()))<|.lp (SPage×List SRequest×PUnit) (True) (fDrawPick.is (b,())) fun y3=>.cl fPickRequest (y3.1,y3.2.1,()) fun(z3:Int×PUnit)=>.cl fSortRequests (y3.1,y3.2.1,()) fun z4=>.br ((↑z4.1.length:Int) != (↑y3.2.1.length:Int)) (.leaf (mkR lBytesP.rs (false,())) [] []) (.br (!decide (z3.1<0)==((↑y3.2.1.length:Int)==0)) (.leaf (mkR lBytesP.rs (false,())) [] []) (.br (decide (z3.1≥(↑y3.2.1.length:Int))) (.leaf (mkR lBytesP.rs (false,())) [] []) (.br (decide (z3.1≥0)) (.ob ((0:Int)≤(0:Int)∧(0:Int)<(↑z4.1.length:Int))<|.ob (0<z4.1.length)<|.ob (inB z3.1 y3.2.1.length)<|.ob (z3.1.toNat<y3.2.1.length)<|.br (!((z4.1.getD 0 default).kind==(y3.2.1.getD z3.1.toNat default).kind&&((z4.1.getD 0 default).to.host==(y3.2.1.getD z3.1.toNat default).to.host&&((z4.1.getD 0 default).to.path==(y3.2.1.getD z3.1.toNat default).to.path&&true)&&((z4.1.getD 0 default).from_==(y3.2.1.getD z3.1.toNat default).from_&&((z4.1.getD 0 default).digest==(y3.2.1.getD z3.1.toNat default).digest&&true))))) (.leaf (mkR lBytesP.rs (false,())) [] []) (lpx (W_laws_FnPriorities_lBytesP_9 b) ((1:Int),(z4.1,(y3.1,()))) fun(y15:Int×List SRequest×SPage×PUnit) bk15=>.br (decide (y15.1<(↑y15.2.1.length:Int))) (.ob (0≤wr (y15.1-(1:Int))∧wr (y15.1-(1:Int))<(↑y15.2.1.length:Int))<|.ob ((wr (y15.1-(1:Int))).toNat<y15.2.1.length)<|.cl fClassOf (y15.2.2.1,y15.2.1.getD (wr (y15.1-(1:Int))).toNat default,()) fun(z5:Int×PUnit)=>.ob (inB y15.1 y15.2.1.length)<|.ob (y15.1.toNat<y15.2.1.length)<|.cl fClassOf (y15.2.2.1,y15.2.1.getD y15.1.toNat default,()) fun(z6:Int×PUnit)=>.br (decide (z5.1>z6.1)) (.leaf (mkR lBytesP.rs (false,())) [] []) (.ob (b=b)<|.ob (Value.int IntKind.i64 z3.1=Value.int IntKind.i64 z3.1)<|.ob (bk15 (w1 y15.1,(y15.2.1,(y15.2.2.1,()))))<|.ok)) (.cl fBlockedOn (y15.2.2.1,()) fun z7=>.cl fBlockedOn (y15.2.2.1,()) fun z8=>.ob (fDrawWithout.pre (b,()))<|.lp (List SRequest×List SAddr×PUnit) (True) (fDrawWithout.is (b,())) fun y28=>.cl fWithoutAddrs (y28.1,y28.2.1,()) fun z9=>lpx (W_laws_FnPriorities_lBytesP_18 b) ((0:Int),(z9.1,(z7.1,(z8.1,(y28.1,(y28.2.1,())))))) fun(y30:Int×List SRequest×SAddr×SAddr×List SRequest×List SAddr×PUnit) bk30=>.br (decide (y30.1<(↑y30.2.1.length:Int))) (.ob (inB y30.1 y30.2.1.length)<|.ob (y30.1.toNat<y30.2.1.length)<|.cl fHasAddr (y30.2.2.2.2.2.1,(y30.2.1.getD y30.1.toNat default).to,()) fun z10=>.br (z10.1) (.leaf (mkR lBytesP.rs (false,())) [] []) (.ob (Value.int IntKind.i64 y15.1=Value.int IntKind.i64 y15.1)<|.ob (b=b)<|.ob (Value.int IntKind.i64 z3.1=Value.int IntKind.i64 z3.1)<|.ob (Value.bool z7.2.1=Value.bool z7.2.1)<|.ob (Value.bool z8.2.1=Value.bool z8.2.1)<|.ob (bk30 (w1 y30.1,(y30.2.1,(y30.2.2.1,(y30.2.2.2.1,(y30.2.2.2.2.1,(y30.2.2.2.2.2.1,())))))))<|.ok)) (.br (y30.2.2.1.host==y30.2.2.2.1.host&&(y30.2.2.1.path==y30.2.2.2.1.path&&true)) (.br (z7.2.1==z8.2.1) (.cl fWithoutAddrs (y30.2.2.2.2.1,y30.2.2.2.2.2.1,()) fun z11=>.leaf (mkR lBytesP.rs ((↑y30.2.1.length:Int)==(↑z11.1.length:Int),())) [] []) (.leaf (mkR lBytesP.rs (false,())) [] [])) (.leaf (mkR lBytesP.rs (false,())) [] []))))) (lpx (W_laws_FnPriorities_lBytesP_9 b) ((1:Int),(z4.1,(y3.1,()))) fun(y40:Int×List SRequest×SPage×PUnit) bk40=>.br (decide (y40.1<(↑y40.2.1.length:Int))) (.ob (0≤wr (y40.1-(1:Int))∧wr (y40.1-(1:Int))<(↑y40.2.1.length:Int))<|.ob ((wr (y40.1-(1:Int))).toNat<y40.2.1.length)<|.cl fClassOf (y40.2.2.1,y40.2.1.getD (wr (y40.1-(1:Int))).toNat default,()) fun(z12:Int×PUnit)=>.ob (inB y40.1 y40.2.1.length)<|.ob (y40.1.toNat<y40.2.1.length)<|.cl fClassOf (y40.2.2.1,y40.2.1.getD y40.1.toNat default,()) fun(z13:Int×PUnit)=>.br (decide (z12.1>z13.1)) (.leaf (mkR lBytesP.rs (false,())) [] []) (.ob (b=b)<|.ob (Value.int IntKind.i64 z3.1=Value.int IntKind.i64 z3.1)<|.ob (bk40 (w1 y40.1,(y40.2.1,(y40.2.2.1,()))))<|.ok)) (.cl fBlockedOn (y40.2.2.1,()) fun z14=>.cl fBlockedOn (y40.2.2.1,()) fun z15=>.ob (fDrawWithout.pre (b,()))<|.lp (List SRequest×List SAddr×PUnit) (True) (fDrawWithout.is (b,())) fun y53=>.cl fWithoutAddrs (y53.1,y53.2.1,()) fun z16=>lpx (W_laws_FnPriorities_lBytesP_18 b) ((0:Int),(z16.1,(z14.1,(z15.1,(y53.1,(y53.2.1,())))))) fun(y55:Int×List SRequest×SAddr×SAddr×List SRequest×List SAddr×PUnit) bk55=>.br (decide (y55.1<(↑y55.2.1.length:Int))) (.ob (inB y55.1 y55.2.1.length)<|.ob (y55.1.toNat<y55.2.1.length)<|.cl fHasAddr (y55.2.2.2.2.2.1,(y55.2.1.getD y55.1.toNat default).to,()) fun z17=>.br (z17.1) (.leaf (mkR lBytesP.rs (false,())) [] []) (.ob (Value.int IntKind.i64 y40.1=Value.int IntKind.i64 y40.1)<|.ob (b=b)<|.ob (Value.int IntKind.i64 z3.1=Value.int IntKind.i64 z3.1)<|.ob (Value.bool z14.2.1=Value.bool z14.2.1)<|.ob (Value.bool z15.2.1=Value.bool z15.2.1)<|.ob (bk55 (w1 y55.1,(y55.2.1,(y55.2.2.1,(y55.2.2.2.1,(y55.2.2.2.2.1,(y55.2.2.2.2.2.1,())))))))<|.ok)) (.br (y55.2.2.1.host==y55.2.2.2.1.host&&(y55.2.2.1.path==y55.2.2.2.1.path&&true)) (.br (z14.2.1==z15.2.1) (.cl fWithoutAddrs (y55.2.2.2.2.1,y55.2.2.2.2.2.1,()) fun z18=>.leaf (mkR lBytesP.rs ((↑y55.2.1.length:Int)==(↑z18.1.length:Int),())) [] []) (.leaf (mkR lBytesP.rs (false,())) [] [])) (.leaf (mkR lBytesP.rs (false,())) [] []))))))))) ?_
 refine cl_i trivial fun _=>(br_i (fun h1=>Fct.leafY ?_) (fun h1=>ob_i ?_ fun o2=>lp_i trivial fun y3 i3=>cl_i ?_ fun o4=>(cl_i ?_ fun o5=>(br_i (fun h6=>Fct.leafY ?_) (fun h6=>br_i (fun h7=>Fct.leafY ?_) (fun h7=>br_i (fun h8=>Fct.leafY ?_) (fun h8=>br_i (fun h9=>ob_i ?_ fun o10=>ob_i ?_ fun o11=>ob_i ?_ fun o12=>ob_i ?_ fun o13=>br_i (fun h14=>Fct.leafY ?_) (fun h14=>lpx_i ?_ fun(y15:Int×List SRequest×SPage×PUnit) i15=>br_i (fun h16=>ob_i ?_ fun o17=>ob_i ?_ fun o18=>cl_i ?_ fun o19=>(ob_i ?_ fun o20=>ob_i ?_ fun o21=>cl_i ?_ fun o22=>(br_i (fun h23=>Fct.leafY ?_) (fun h23=>ob_i rfl fun _=>ob_i rfl fun _=>ob_i ?_ fun o24=>trivial)))) (fun h16=>cl_i ?_ fun o25=>(cl_i ?_ fun o26=>(ob_i ?_ fun o27=>lp_i trivial fun y28 i28=>cl_i ?_ fun o29=>(lpx_i ?_ fun(y30:Int×List SRequest×SAddr×SAddr×List SRequest×List SAddr×PUnit) i30=>br_i (fun h31=>ob_i ?_ fun o32=>ob_i ?_ fun o33=>cl_i ?_ fun o34=>(br_i (fun h35=>Fct.leafY ?_) (fun h35=>ob_i rfl fun _=>ob_i rfl fun _=>ob_i rfl fun _=>ob_i rfl fun _=>ob_i rfl fun _=>ob_i ?_ fun o36=>trivial))) (fun h31=>br_i (fun h37=>br_i (fun h38=>cl_i ?_ fun o39=>(Fct.leafY ?_)) (fun h38=>Fct.leafY ?_)) (fun h37=>Fct.leafY ?_)))))))) (fun h9=>lpx_i ?_ fun(y40:Int×List SRequest×SPage×PUnit) i40=>br_i (fun h41=>ob_i ?_ fun o42=>ob_i ?_ fun o43=>cl_i ?_ fun o44=>(ob_i ?_ fun o45=>ob_i ?_ fun o46=>cl_i ?_ fun o47=>(br_i (fun h48=>Fct.leafY ?_) (fun h48=>ob_i rfl fun _=>ob_i rfl fun _=>ob_i ?_ fun o49=>trivial)))) (fun h41=>cl_i ?_ fun o50=>(cl_i ?_ fun o51=>(ob_i ?_ fun o52=>lp_i trivial fun y53 i53=>cl_i ?_ fun o54=>(lpx_i ?_ fun(y55:Int×List SRequest×SAddr×SAddr×List SRequest×List SAddr×PUnit) i55=>br_i (fun h56=>ob_i ?_ fun o57=>ob_i ?_ fun o58=>cl_i ?_ fun o59=>(br_i (fun h60=>Fct.leafY ?_) (fun h60=>ob_i rfl fun _=>ob_i rfl fun _=>ob_i rfl fun _=>ob_i rfl fun _=>ob_i rfl fun _=>ob_i ?_ fun o61=>trivial))) (fun h56=>br_i (fun h62=>br_i (fun h63=>cl_i ?_ fun o64=>(Fct.leafY ?_)) (fun h63=>Fct.leafY ?_)) (fun h62=>Fct.leafY ?_))))))))))))))
 all_goals have hb:=good_u8 hp.1
 all_goals first|rfl|skip
 all_goals try (have hK:=i3.1.2.2;have hL:=okD_len i3.1;have hP:=pick_law y3.1 y3.2.1;have hS:=sortReqs_len y3.1 y3.2.1;have hN:=pick_neg y3.1 y3.2.1)
 all_goals
  try simp only[std0] at *
  try simp only[W_laws_FnPriorities_lBytesP_18,W_laws_FnPriorities_lBytesP_9,fBig,fBlockedOn,fClassOf,fDrawPick,fDrawWithout,fHasAddr,fPickRequest,fSortRequests,fWithoutAddrs,lBytesP,std,Nat.reduceAdd,szF,toF,eqF,mkF,heF] at *
 all_goals first|exact⟨by omega,hb⟩|exact⟨by omega,hK,by omega⟩|exact⟨⟨by omega,hK⟩,by omega⟩|(exfalso;omega)|omega|exact absurd hN (by assumption)|(rw[hP.2.2.2 (by omega)] at h14;simp at h14)|exact⟨by omega,by omega,rfl,rfl⟩|skip
 all_goals try (exfalso;have e:=hP.2.2.2 (by omega);simp[e,baBeq] at h14;done)
 all_goals first|(obtain⟨yi,ys,yp,yu⟩:=y15;obtain⟨v1,v2,v3,v4⟩:=i15;dsimp only at *;subst v3;subst v4)|(obtain⟨yi,ys,yp,yu⟩:=y40;obtain⟨v1,v2,v3,v4⟩:=i40;dsimp only at *;subst v3;subst v4)|skip
 all_goals try rw[wrapId' (by omega) (by omega)] at *
 all_goals first|omega|exact⟨by omega,hK⟩|exact⟨⟨by omega,by omega,rfl,rfl⟩,by omega⟩|(exfalso;have q:=sorted_at (p:=y3.1) (l:=y3.2.1) (i:=(yi-1).toNat) (by omega);rw[show(yi-1).toNat+1=yi.toNat by omega] at q;omega)|skip
 all_goals first|have hW:=withoutAddrs_len y28.2.1 y28.1|have hW:=withoutAddrs_len y53.2.1 y53.1|skip
 all_goals first|(obtain⟨zi,zw,za,zb,zl,zd,zu⟩:=y30;obtain⟨⟨⟨⟨⟨w1,w2,w3⟩,w4⟩,w5⟩,w6⟩,w7⟩:=i30;dsimp only at *;subst w3;subst w4;subst w5;subst w6;subst w7)|(obtain⟨zi,zw,za,zb,zl,zd,zu⟩:=y55;obtain⟨⟨⟨⟨⟨w1,w2,w3⟩,w4⟩,w5⟩,w6⟩,w7⟩:=i55;dsimp only at *;subst w3;subst w4;subst w5;subst w6;subst w7)|skip
 all_goals try simp(disch:=omega) only[wrapId'] at *
 all_goals first|omega|(rw[beq_self_eq_true];rfl)|exact⟨⟨⟨⟨⟨⟨by omega,by omega,trivial⟩,trivial⟩,trivial⟩,trivial⟩,trivial⟩,by omega⟩|(exfalso;have q:=without_in (getD_in (i:=zi.toNat) (l:=withoutAddrs _ _) (by omega));first|(rw[h35] at q;cases q;done)|(rw[h60] at q;cases q;done))|(exfalso;simp[baBeq] at h37;done)|(exfalso;simp[baBeq] at h62;done)|exact absurd trivial (by assumption)|skip)
def E123:=E122.add 3 lBytesP
theorem E123ok:EOk Tryz.prog E123:=E122ok.add k3_122
section
open Go.ChangeShapes Go.WideShapes Go.ChangeAt Go.RowKit
theorem own:ownKnob Tryz.prog.godebug=none:=by kernel_rfl
theorem types:∀ e t,tyOf e=some t→e∈([3,4,5,9,25,28,30,35,40,47,57,80,87,95,101,124,127,133,168,170,206,213,238]:List TypeId):=by
 intro e t h
 unfold tyOf at h
 split at h<;>first|(simp;done)|cases h
theorem lifted (os:Os) (started:os.Started) (H:Type) (enc:TypeId×Value→H) :
 ReturnsInHanded {} Tryz.checked os 3 .any (Rows.fnPrioritiesSpec.pre6 enc Tryz.prog Tryz.f3 Rows.fnPrioritiesRow.domain false) (Rows.fnPrioritiesSpec.post enc Tryz.prog Tryz.f3 false true false false):=by
 refine handed_sh (C:=Tryz.checked) own started (by kernel_rfl) Tryz.func3
  (ChangeSpec.witness6 (enc:=enc) (C:=Tryz.checked) false ⟨#[],#[.slice none 0 0],[]⟩ 8 (by kernel_rfl) (by kernel_rfl) (by kernel_rfl) (by kernel_rfl)) ?_
 intro W base args ds gs before hval0 hW hsh
 have hval:∀ (j:Nat) t v,Tryz.f3.params[j]? = some t→args[j]? = some v→Value.okWide Tryz.prog W .any base t v:=hval0
 refine law_calls (show rowOk Tryz.prog Tryz.f3 tyOf [3,4,5,9,25,28,30,35,40,47,57,80,87,95,101,124,127,133,168,170,206,213,238] [.sl .u8]=true by kernel_rfl) types rfl Tryz.underlying4 rfl hW (fun xs h=>?_) hval hsh (laid_none (by kernel_rfl) (by kernel_rfl) (by kernel_rfl)) k3_122
 ·rw[Tryz.params3] at h
  obtain⟨x,rfl⟩:=List.length_eq_one_iff.1 (show xs.length=1 from h)
  rfl
set_option maxHeartbeats 0 in
theorem closed:joinedFacts Tryz.prog 3 Tryz.f3 Rows.fnPrioritiesSpec Rows.fnPrioritiesRow=true:=by
 unfold joinedFacts
 refine(and_i (and_i (and_i (and_i (and_i (and_i (and_i (and_i (and_i (and_i (and_i (and_i (and_i (and_i (and_i (and_i (and_i (and_i (and_i (and_i (and_i (and_i (and_i (and_i (and_i (and_i (and_i (and_i (and_i (and_i (and_i ?_ ?_) ?_) ?_) ?_) ?_) ?_) ?_) ?_) ?_) ?_) ?_) ?_) ?_) ?_) ?_) ?_) ?_) ?_) ?_) ?_) ?_) ?_) ?_) ?_) ?_) ?_) ?_) ?_) ?_) ?_) ?_)
 all_goals decide +kernel
theorem over:Rows.fnPrioritiesRow.holds Tryz.pinned (OpenSpec.ofChange Rows.fnPrioritiesSpec) :=
 OpenClaim.holds_of_wide 3 Tryz.f3 rfl rfl rfl rfl rfl rfl rfl ⟨rfl,rfl,rfl,rfl,rfl⟩ rfl rfl rfl rfl rfl (by kernel_rfl) Tryz.func3 closed
  (of_decide_eq_true (by kernel_rfl)) (by unfold Func.isWrapper;first|(rw[if_pos (by decide +kernel)];kernel_rfl)|(rw[if_neg (by decide +kernel)];exact⟨rfl,rfl⟩))
  (fun os started H enc _=>lifted os started H enc)
theorem proved:Rows.FnPrioritiesSaid:=over
end
end Go.Proofs.YtkmilnnddljcnaaGreat.fnPriorities
