/-
  Contracts of functions that the law of FnExactArrivePart reaches, part 4.
-/
import Derived.Test.YtgjngkplonejjaaGreatDoorVPArrivePart3
import Derived.Test.YtgjngkplonejjaaGreatDoorVLe
import Derived.WalkKit
import Derived.BigGuard
import Derived.Deep.QuietTactic
import Derived.BigQuiet
import Derived.Lib.ConvBytes
import Derived.Sort.WalkC
import Derived.Handy
import Derived.Lib.Overlaps
import Derived.Lib.AppendZerosOnto
import Derived.Laws.Externs
import Derived.Shelf.RegionOpenPlain
import Derived.Defers
import Derived.Laws.Pointers
import Derived.Laws.LoneSync
import Derived.RegionCalls
import Derived.ChangeAlike
import Derived.LoopN
import Derived.Lib.SliceRun
import Derived.Shelf.Strconv.AtoiAll
import Derived.Shelf.Small.Strs
import Derived.Test.YtgjngkplonejjaaGreatDoorRows
import Derived.Test.YtgjngkplonejjaaGreatDoorCards
import Derived.Test.YtgjngkplonejjaaGreatDoorTie
import Derived.LaidMore
import Derived.Lay
import Derived.SevenTiedAt
import Derived.WalkKit
import Derived.ProofKit
import Derived.OpenShut
namespace Go.Proofs.YtgjngkplonejjaaGreatDoor.fnExactArrivePart
open Go.Proofs.YtgjngkplonejjaaGreatDoor
open Go.D
set_option maxRecDepth 100000
set_option maxHeartbeats 2000000
set_option linter.unusedVariables false
set_option linter.unusedSimpArgs false
theorem k266_300:Cy.ok Tryz.prog 266:=Fct.o [0,2,3,4] Aaj.2 Tryz.func266 (by
 rintro⟨(s:ByteArray),_⟩ hp
 refine ho (.cl fFeedText (default,s,()) fun z2=>.cl fEndText (z2.2.1,()) fun z3=>.ob (Bi (z2.1.length+z3.1.length) 64)<|.lf Cy (z2.1++z3.1,())) ?_
 refine Ae ?_ fun o1=>(Ae ?_ fun o2=>(Aa ?_ fun o3=>lfY ?_))
 all_goals
  have hz:=feedAll_len s
  have he:=endText_len (feedAll s).2
  try simp only[AH] at *
  try simp only[fEndText,fFeedText,Cy,std,Nat.reduceAdd,tokensOf,fFeedText,fEndText,dflt_rest] at *
  try simp(disch:=omega) only[wrapId',toNat1] at *
  try simp(disch:=omega) only[if_pos,if_neg]
 all_goals first|trivial|omega|grind[wrapId',toNat1,drop_cons,drop_end,good_len,maxLen,tokensOf,fFeedText,fEndText,dflt_rest])
def Aaz:=Aaj.a k266_300
theorem k26_301:A7.ok Tryz.prog 26:=Fct.o (KP [1,2,4,5,6,7] [11]) Aaz.2 Tryz.func26 (by
 rintro⟨(p:SPage),(s:ByteArray),_⟩ hp
 refine ho (.cl fCopyPage (p,()) fun z2=>.br (p.ended) (.lf A7 (z2.1,())) (.cl fFeedText (p.tok,s,()) fun z3=>.ob (Bi (z2.1.queue.length+z3.1.length) 64)<|.lf A7 (⟨z2.1.addr,z2.1.policy,z3.2.1,z2.1.queue++z3.1,z2.1.ended,z2.1.builder,z2.1.slots,z2.1.mods,z2.1.entries,z2.1.block,z2.1.inline,z2.1.deferred,z2.1.entered,z2.1.ran,z2.1.log,z2.1.loaded⟩,()))) ?_
 refine Ae ?_ fun o1=>(Ab (fun h2=>lfY ?_) (fun h2=>Ae ?_ fun o3=>(Aa ?_ fun o4=>lfY ?_)))
 all_goals
  have hz:=feedAll_len (p.tok.rest++s)
  have hl2:=Ad Af p.queue
  have hq:szL Af p.queue+p.tok.rest.size≤szPage p:=by simp only[szPage,AJ];omega
 all_goals rw[ByteArray.size_append] at hz
 all_goals
  try simp only[AH] at *
  try simp only[A7,fCopyPage,fFeedText,std,Nat.reduceAdd,arriveText,fCopyPage,fFeedText] at *
  try simp(disch:=omega) only[wrapId',toNat1] at *
  try simp(disch:=omega) only[if_pos,if_neg]
 all_goals first|trivial|omega|grind[wrapId',toNat1,drop_cons,drop_end,good_len,maxLen,arriveText,fCopyPage,fFeedText])
def Zf:=Aaz.a k26_301
abbrev BJ (p:SPage) (l:(List SLine)) (w:Bool):LInv:=⟨[⟨.s,31,true,.el .int⟩,⟨.b,0,true,.el .page⟩,⟨.s,29,true,.sl .str⟩],fun(z_:Int×SPage×(List ByteArray)×Unit) (x_:Int×SPage×(List ByteArray)×Unit)=>x_.2.2.1=z_.2.2.1∧logInv z_.2.1 z_.2.2.1 x_.2.1 x_.1,fun(x_:Int×SPage×(List ByteArray)×Unit)=>x_.2.2.1.length-x_.1.toNat⟩
theorem k225_302:BM.ok Tryz.prog 225:=GS.of (S:=BM) (L:=fun⟨p,l,w,_⟩=>fun|3=>some (BJ p l w)|_=>none) (kp:=(KP [0,2,6,7,8,10,29,30,31] [32,39])) Zf.2 Tryz.func225 (by kernel_rfl) (by kernel_rfl) (by
 rintro⟨(p:SPage),(l:List SLine),(w:Bool),_⟩ hp
 refine ho (.cl BN (p,()) fun z2=>.cl Bl (p.builder,z2.1,l,()) fun z3=>lpx (BJ p l w) ((0:Int),((⟨p.addr,p.policy,p.tok,p.queue,p.ended,z3.1,p.slots,p.mods,p.entries,p.block,p.inline,p.deferred,p.entered,p.ran,p.log,p.loaded⟩:SPage),(z3.2.2.1,()))) fun(y3:Int×SPage×List ByteArray×PUnit) bk3=>.br (decide (y3.1<(↑z3.2.2.1.length:Int))) (.ob (inB y3.1 y3.2.2.1.length)<|.ob (y3.1.toNat<y3.2.2.1.length)<|.ob (DY.pre (y3.2.1,y3.2.2.1.getD y3.1.toNat default,()))<|.lt _ (DY.fn (y3.2.1,y3.2.2.1.getD y3.1.toNat default,())) fun z4=>.ob (Value.bool w=Value.bool w)<|.ob (Value.string z3.2.1=Value.string z3.2.1)<|.ob (Value.int IntKind.i64 (↑z3.2.2.1.length:Int)=Value.int IntKind.i64 (↑z3.2.2.1.length:Int))<|.ob (bk3 (w1 y3.1,(z4.2.1,(y3.2.2.1,()))))<|.ok) (.br (w) (.cl Cy (z3.2.1,()) fun z5=>.ob (Bi (z5.1.length+y3.2.1.queue.length) 64)<|GS.out BM ((()),(⟨y3.2.1.addr,y3.2.1.policy,y3.2.1.tok,z5.1++y3.2.1.queue,y3.2.1.ended,y3.2.1.builder,y3.2.1.slots,y3.2.1.mods,y3.2.1.entries,y3.2.1.block,y3.2.1.inline,y3.2.1.deferred,y3.2.1.entered,y3.2.1.ran,y3.2.1.log,y3.2.1.loaded⟩,()))) (GS.out BM ((()),(y3.2.1,()))))) ?_
 refine Ae ?_ fun o1=>(Ae ?_ fun o2=>(AG ?_ fun(y3:Int×SPage×List ByteArray×PUnit) i3=>Ab (fun h4=>Aa ?_ fun o5=>Aa ?_ fun o6=>Aa trivial fun _=>Co (Aa rfl fun _=>Aa rfl fun _=>Aa rfl fun _=>Aa ?_ fun o7=>trivial)) (fun h4=>Ab (fun h8=>Ae ?_ fun o9=>(Aa ?_ fun o10=>GS.leafY ?_)) (fun h8=>GS.leafY ?_))))
 all_goals obtain⟨r1,r2,r3,r4,r5,r6,r7,r8,r9⟩:=okRL_run (show okRL p l from hp)
 all_goals
  try simp only[AH] at *
  try simp only[BJ,BM,Bl,DY,BN,Cy,std,Nat.reduceAdd,Bl,BN,Cy,DY] at *
 all_goals first|trivial|omega|exact⟨r1,r2⟩|exact⟨r3,r4,r5,r6⟩|exact logInv_0 _ _|(obtain⟨j1,j3⟩:=i3;simp only[j1] at *;have j0:=j3.1)|skip
 all_goals first|trivial|omega|exact⟨j0,by assumption⟩|(rw[An (by omega)];simp only[and_true,true_and];exact⟨logInv_go j3 (by assumption),by omega⟩)|skip
 all_goals
  have e:=logInv_end j3 (by omega)
  have eq1:y3.2.1.queue=p.queue:=by rw[e]
  have ht:=tokensOf_sz (runScript p.builder (sheetsOf p.slots) l).2.1
 all_goals first|(simp only[eq1];omega)|skip
 all_goals (unfold runL;(first|rw[if_pos (by assumption)]|rw[if_neg (by intro q;exact tf q (by assumption))]);rw[e]))
def Abg:=Zf.G k225_302
theorem runCode_yes {p:SPage} {c:ByteArray} {w:Bool} (h:(parseScript c).2=true):runCode p c w=runL p (parseScript c).1 w:=by unfold runCode;rw[if_pos h];rfl
theorem runCode_no {p:SPage} {c:ByteArray} {w:Bool} (h:(parseScript c).2=false):runCode p c w=say p ⟨#[101,114,114,111,114]⟩:=by
 unfold runCode;rw[if_neg (by rw[h];decide)]
 unfold say
 split
 ·rename_i hc;rw[addLog,if_pos hc,addLog_nil]
 ·rename_i hc;rw[addLog_full hc]
theorem k161_303:A3.ok Tryz.prog 161:=Fct.o (KP [1,2,3,6,7,8,9] [18]) Abg.2 Tryz.func161 (by
 rintro⟨(p:SPage),(c:ByteArray),(w:Bool),_⟩ hp
 refine ho (.cl fCopyPage (p,()) fun z2=>.cl Am (c,()) fun z3=>.br (!z3.2.1) (.ob (DY.pre (z2.1,(⟨#[101,114,114,111,114]⟩:ByteArray),()))<|.lt _ (DY.fn (z2.1,(⟨#[101,114,114,111,114]⟩:ByteArray),())) fun z4=>.lf A3 (z4.2.1,())) (.ob (BM.pre (z2.1,z3.1,w,()))<|.lt _ (BM.fn (z2.1,z3.1,w,())) fun z5=>.lf A3 (z5.2.1,()))) ?_
 refine Ae ?_ fun o1=>(Ae ?_ fun o2=>(Ab (fun h3=>Aa trivial fun _=>Co (lfY ?_)) (fun h3=>Aa ?_ fun o4=>Co (lfY ?_))))
 all_goals obtain⟨hp1,hp2,hp3,hp4,hp5⟩:=(show szPage p≤1000000000000∧szBuilder p.builder≤40000000000∧szL AL p.slots≤40000000000∧c.size≤4200000000∧okBod p from hp)
 all_goals
  try simp only[AH] at *
  try simp only[fCopyPage,Am,A3,BM,DY,std,Nat.reduceAdd,fCopyPage,Am,DY,BM] at *
 all_goals first|trivial|omega|exact⟨by(have h1:=Ad Af p.queue;have h2:=pageParts p;show p.queue.length≤_;omega),hp2,hp3,hp5,(parseScript_sz c).1⟩|(rw[runCode_no (by assumption)])|(rw[runCode_yes (by assumption)]))
def Aa2:=Abg.a k161_303
theorem k82_304:AE.ok Tryz.prog 82:=Fct.o (KP [1,2,3,4,5] [8,14,25,40,54,62]) Aa2.2 Tryz.func82 (by
 rintro⟨(p:SPage),_⟩ hp
 refine ho (let q5_:=(↑p.slots.length:Int);let q0_:=p.block-(1:Int);let q3_:=p.slots.getD (wr q0_).toNat default;let q2_:=0≤wr q0_∧wr q0_<q5_;.cl fCopyPage (p,()) fun z2=>let q4_:Out:=.lf AE (z2.1,false,());let q1_:Out:=.lf AE ({z2.1 with block:=(0:Int)},true,());.br (p.inline != 0) (.cl Ap (p,()) fun z3=>.br (!z3.1) q4_ (.cl Dt (p.builder,p.inline,()) fun z4=>.cl A3 (z2.1,z4.1,true,()) fun z5=>.lf AE ({z5.1 with inline:=(0:Int)},true,()))) (.br (p.block != 0) (.br (decide (wr q0_<0)) q1_ (.br (decide (wr q0_≥q5_)) q1_ (.ob q2_<|.br (!q3_.done) q4_ (.cl Ap (p,()) fun z6=>.br (!z6.1) q4_ (.ob q2_<|.br (q3_.code==1) (.ob q2_<|.cl A3 (z2.1,q3_.body,true,()) fun z7=>.lf AE ({z7.1 with block:=(0:Int)},true,())) q1_))))) (.cl Au (p,()) fun z8=>.lf AE (z8.1,z8.2.1,())))) ?_
 refine Ae ?_ fun o1=>(Ab (fun h2=>Ae ?_ fun o3=>(Ab (fun h4=>lfY ?_) (fun h4=>Ae ?_ fun o5=>(Ae ?_ fun o6=>(lfY ?_))))) (fun h2=>Ab (fun h7=>Ab (fun h8=>lfY ?_) (fun h8=>Ab (fun h9=>lfY ?_) (fun h9=>Aa ?_ fun o10=>Ab (fun h11=>lfY ?_) (fun h11=>Ae ?_ fun o12=>(Ab (fun h13=>lfY ?_) (fun h13=>Aa ?_ fun o14=>Ab (fun h15=>Aa ?_ fun o16=>Ae ?_ fun o17=>(lfY ?_)) (fun h15=>lfY ?_))))))) (fun h7=>Ae ?_ fun o18=>(lfY ?_))))
 all_goals obtain⟨hp0,hp6,hp5⟩:=(show okParse p from hp)
 all_goals obtain⟨hp1,hp2,hp3,hp4,hp7⟩:=(show okTok p from hp0)
 all_goals
  have hbb:szBuilder p.builder≤2000000000:=by(unfold szBuilder;omega)
  have hpp:=pageParts p
  have hsl:=Ad AL p.slots
  have hnl:=Ad szNode p.builder.nodes
  have htx:=textOf_sz p.inline p.builder.nodes ⟨#[]⟩
 all_goals rw[show ByteArray.size ⟨#[]⟩=0 from rfl] at htx
 all_goals
  try simp only[AH] at *
  try simp only[fCopyPage,A3,AE,Ap,Au,Dt,std,Nat.reduceAdd,Ap,fCopyPage,Dt,A3,fInRange,inRange,Au,blk_def] at *
  try simp only[blk_def,Bool.and_eq_true,Bool.and_eq_false_iff,decide_eq_true_eq,decide_eq_false_iff_not,An (show -9223372036854775808≤(p.slots.length:Int)-1∧(p.slots.length:Int)-1≤9223372036854775807 by omega)] at *
 all_goals first|trivial|omega|exact hp0|exact⟨by omega,by omega,by omega,hp5 _ (by omega),hp5⟩|exact⟨by omega,by omega,by omega,by omega,hp5⟩|skip
 all_goals unfold stepParser
 all_goals first|rw[if_pos (by assumption)]|(rw[if_neg (by omega)];first|rw[if_pos (by assumption)]|rw[if_neg (by omega)])
 all_goals first|exact⟨rfl,rfl⟩|(unfold stepInline)|(unfold stepBlock)
 all_goals repeat first|rw[if_pos (by assumption)]|rw[if_neg (by intro q;first|exact tf q (by assumption)|exact tf (by assumption) q)]|rw[if_pos (by omega)]|rw[if_neg (by omega)]|rw[if_pos (by exact .inl (by assumption))]|rw[if_pos (by exact .inr (by assumption))]|rw[if_neg (by rintro(q|q)<;>exact tf (by assumption) q)]|fail
 all_goals exact⟨rfl,rfl⟩)
def Abt:=Aa2.a k82_304
theorem ent_okRL {p q:SPage} {a:SAddr} {i:Int} (h:entInv p a q i) (hp:okEnt p a) (b:SAddr):okRL { q with ran:=q.ran++[b]} (entLines p b):=by
 have he:=entInv_eq h
 have hz:=entInv_sz h hp
 have e:=h.2.2.2.1
 have eq1:q.queue=p.queue:=by rw[e]
 have hl:=Ad Af p.queue
 have hpp:=pageParts p
 have h1:=hp.1
 refine⟨?_,?_,?_,?_,(entLines_sz p b).1⟩
 ·show q.queue.length≤_
  rw[eq1];omega
 ·show szBuilder q.builder≤_
  omega
 ·show szL AL q.slots≤_
  rw[he.2];omega
 ·intro j hj
  have hj:j<q.slots.length:=hj
  show(q.slots.getD j default).body.size≤_
  rw[he.2] at hj ⊢
  exact hp.2.2.2.2.2 j hj
theorem entLines_def (p:SPage) (b:SAddr):(parseModule (p.mods.getD (findMod p.mods b).toNat default).body b.host).2.1=entLines p b:=rfl
theorem entRun_L {p q:SPage} {a:SAddr} {i:Int} (h:entInv p a q i) (b:SAddr) (hn:inL q.ran b=false):runL { q with ran:=q.ran++[b]} (entLines p b) false=enter1 p q b:=by
 have he:=entInv_eq h
 unfold runL enter1 entRun
 rw[if_neg (show ¬ (false=true) by decide),if_neg (show ¬ inL q.ran b=true by rw[hn];decide)]
 simp only[he.2]
def En:GS:=⟨[.b (.el .page),.l (.v (.el .addr))],[],fun(x_:SPage×SAddr×Unit)=>okEnt x_.1 x_.2.1,fun(x_:SPage×SAddr×Unit)=>((()),(enter x_.1 x_.2.1,()))⟩
abbrev CC (p:SPage) (a:SAddr):LInv:=⟨[⟨.s,25,true,.el .int⟩,⟨.b,0,true,.el .page⟩,⟨.s,23,true,.sl .addr⟩],fun(z_:Int×SPage×(List SAddr)×Unit) (x_:Int×SPage×(List SAddr)×Unit)=>(entInv p a x_.2.1 x_.1)∧x_.2.2.1=z_.2.2.1,fun(x_:Int×SPage×(List SAddr)×Unit)=>(reachOf p a).length-x_.1.toNat⟩
theorem k167_305:En.ok Tryz.prog 167:=GS.of (S:=En) (L:=fun⟨p,a,_⟩=>fun|4=>some (CC p a)|_=>none) (kp:=(KP [0,3,5,7,23,24,25] [13,26,34])) Abt.2 Tryz.func167 (by kernel_rfl) (by kernel_rfl) (by
 rintro⟨(p:SPage),(a:SAddr),_⟩ hp
 refine ho (let q2_:=(⟨#[102,97,105,108,32]⟩:ByteArray);.cl AR (p,a,()) fun z2=>.br (z2.1) (.cl Bf (a,()) fun z3=>.ob (sameSize q2_ z3.1)<|.ob (DY.pre (p,q2_++z3.1,()))<|.lt _ (DY.fn (p,q2_++z3.1,())) fun z4=>GS.out En ((()),(z4.2.1,()))) (.cl A2 (p,a,()) fun z5=>let q3_:=(↑z5.1.length:Int);let q1_:=Value.int IntKind.i64 q3_=Value.int IntKind.i64 q3_;lpx (CC p a) ((0:Int),(p,(z5.1,()))) fun(y6:Int×SPage×List SAddr×PUnit) bk6=>let q0_:=({y6.2.1 with ran:=y6.2.1.ran++[y6.2.2.1.getD y6.1.toNat default]}:SPage);.br (decide (y6.1<q3_)) (.ob (inB y6.1 y6.2.2.1.length)<|.ob (y6.1.toNat<y6.2.2.1.length)<|.cl Ci (y6.2.1.ran,y6.2.2.1.getD y6.1.toNat default,()) fun z6=>.br (z6.1) (.ob q1_<|.ob (bk6 (w1 y6.1,(y6.2.1,(y6.2.2.1,()))))<|.ok) (.ob (True)<|.ob (Bi (y6.2.1.ran.length+[y6.2.2.1.getD y6.1.toNat default].length) 32)<|.cl Cf (q0_,y6.2.2.1.getD y6.1.toNat default,()) fun(z7:Int×PUnit)=>.ob (inB z7.1 y6.2.1.mods.length)<|.ob (z7.1.toNat<y6.2.1.mods.length)<|.cl Al ((y6.2.1.mods.getD z7.1.toNat default).body,(y6.2.2.1.getD y6.1.toNat default).host,()) fun z8=>.ob (BM.pre (q0_,z8.2.1,false,()))<|.lt _ (BM.fn (q0_,z8.2.1,false,())) fun z9=>.ob q1_<|.ob (bk6 (w1 y6.1,(z9.2.1,(y6.2.2.1,()))))<|.ok)) (GS.out En ((()),(y6.2.1,()))))) ?_
 refine Ae ?_ fun o1=>(Ab (fun h2=>Ae ?_ fun o3=>(Aa ?_ fun o4=>Aa trivial fun _=>Co (GS.leafY ?_))) (fun h2=>Ae ?_ fun o5=>(AG ?_ fun(y6:Int×SPage×List SAddr×PUnit) i6=>Ab (fun h7=>Aa ?_ fun o8=>Aa ?_ fun o9=>Ae ?_ fun o10=>(Ab (fun h11=>Aa rfl fun _=>Aa ?_ fun o12=>trivial) (fun h11=>Aa trivial fun _=>Aa ?_ fun o13=>Ae ?_ fun o14=>(Aa ?_ fun o15=>Aa ?_ fun o16=>Ae ?_ fun o17=>(Aa ?_ fun o18=>Co (Aa rfl fun _=>Aa ?_ fun o19=>trivial)))))) (fun h7=>GS.leafY ?_))))
 all_goals have hq:okEnt p a:=hp
 all_goals obtain⟨p1,p2,p3,p4,p5,p6⟩:=(show okEnt p a from hp)
 all_goals
  have hfa:=fmtAddr_sz a
  try simp only[AH] at *
  try simp only[CC,En,Bf,AR,Ci,Cf,Al,A2,BM,DY,std,Nat.reduceAdd,AR,Bf,DY,A2,Ci,Al,Cf,BM,fm_def,inL_def] at *
 all_goals first|trivial|omega|exact p2|(unfold sameSize;rw[show ByteArray.size ⟨#[102,97,105,108,32]⟩=5 from rfl];omega)|exact entInv_0 p a|(unfold enter;rw[if_pos (by assumption)])|skip
 all_goals (obtain⟨i1,e2⟩:=i6;have em:=(entInv_eq i1).1;have i0:=i1.1;have iz:=entInv_sz i1 hq)
 all_goals try simp only[e2,em,entLines_def] at *
 all_goals first|trivial|omega|skip
 all_goals try (have hmem:=getD_in (l:=reachOf p a) (i:=y6.1.toNat) (by omega);have hfnd:=reach_find (by assumption) hmem;have hfi:=findMod_in p.mods ((reachOf p a).getD y6.1.toNat default))
 all_goals first|exact⟨hfnd,hfi.1⟩|exact⟨p2.2.1 _ (by omega),reach_host hmem p2.2.2.1⟩|(rw[An (by omega)];have e:=entInv_go i1 (by omega);unfold enter1 at e;rw[if_pos (by assumption)] at e;exact⟨⟨e,trivial⟩,by omega⟩)|(unfold enter;rw[if_neg (by intro q;exact tf q (by assumption))];have e:=i1.2.2.1;rw[enterAll_end (by omega)] at e;exact e)|skip
 all_goals
  have hR:=ent_okRL i1 hq ((reachOf p a).getD y6.1.toNat default)
  have hL:=entRun_L i1 ((reachOf p a).getD y6.1.toNat default) (by assumption)
  have em2:=(entInv_eq i1).1
 all_goals simp only[em2] at hR hL
 all_goals first|exact hR|(rw[hL,An (by omega)];exact⟨⟨entInv_go i1 (by omega),trivial⟩,by omega⟩))
def Aa0:=Abt.G k167_305
theorem runCode_def (p:SPage) (c:ByteArray) (w:Bool):(runCode p c w).deferred=p.deferred:=by unfold runCode;split<;>rfl
theorem enterAll_ent (p:SPage):∀ (l:List SAddr) (q:SPage),(enterAll p q l).entered=q.entered
 | [],q=>rfl
 | b::l,q=>by
  have:=enterAll_ent p l (enter1 p q b)
  refine this.trans ?_
  unfold enter1;split<;>rfl
theorem enter_ent (p:SPage) (a:SAddr):(enter p a).entered=p.entered:=by
 unfold enter
 split
 ·unfold say;split<;>rfl
 ·exact enterAll_ent p _ p
theorem k83_306:A1.ok Tryz.prog 83:=Fct.o (KP [1,2,3,4,5,6,7] [26,30,52,56,66,87,96]) Aa0.2 Tryz.func83 (by
 rintro⟨(p:SPage),_⟩ hp
 refine ho (let q2_:=(⟨#[108,111,97,100]⟩:ByteArray);.cl fCopyPage (p,()) fun z2=>let q0_:Out:=.lf A1 (z2.1,false,());.cl Bj (p,()) fun z3=>.br (!z3.1) q0_ (.br (p.loaded) q0_ (.br (decide (p.deferred<0)) q0_ (.br (decide (p.entered<0)) q0_ (.cl AT (p,()) fun(z4:List Int×PUnit)=>let q1_:=p.slots.getD (z4.1.getD p.deferred.toNat default).toNat default;.br (decide (p.deferred<(↑z4.1.length:Int))) (.ob (inB p.deferred z4.1.length)<|.ob (p.deferred.toNat<z4.1.length)<|.ob (0≤z4.1.getD p.deferred.toNat default∧z4.1.getD p.deferred.toNat default<(↑p.slots.length:Int))<|.br (!q1_.done) q0_ (.cl Ap (p,()) fun z5=>.br (!z5.1) q0_ (.br (q1_.code==1) (.cl A3 (z2.1,q1_.body,false,()) fun z6=>.lf A1 ({z6.1 with deferred:=w1 z6.1.deferred},true,())) (.lf A1 ({z2.1 with deferred:=w1 z2.1.deferred},true,()))))) (.br (decide (p.entered<(↑p.entries.length:Int))) (.ob (inB p.entered p.entries.length)<|.cl AW (p,p.entries.getD p.entered.toNat default,()) fun z7=>.br (!z7.1) q0_ (.cl Ap (p,()) fun z8=>.br (!z8.1) q0_ (.ob (En.pre (z2.1,p.entries.getD p.entered.toNat default,()))<|.lt _ (En.fn (z2.1,p.entries.getD p.entered.toNat default,())) fun z9=>.lf A1 ({z9.2.1 with entered:=w1 z9.2.1.entered},true,())))) (.cl B1 (p,()) fun(z10:List Int×PUnit)=>.br ((↑z10.1.length:Int)==0) (.cl Cz (p,()) fun(z11:List Int×PUnit)=>.br ((↑z11.1.length:Int)==0) (.ob (DY.pre (z2.1,q2_,()))<|.lt _ (DY.fn (z2.1,q2_,())) fun z12=>.lf A1 ({z12.2.1 with loaded:=true},true,())) q0_) q0_))))))) ?_
 refine Ae ?_ fun o1=>(Ae trivial fun _=>(Ab (fun h2=>lfY ?_) (fun h2=>Ab (fun h3=>lfY ?_) (fun h3=>Ab (fun h4=>lfY ?_) (fun h4=>Ab (fun h5=>lfY ?_) (fun h5=>Ae ?_ fun o6=>(Ab (fun h7=>Aa ?_ fun o8=>Aa ?_ fun o9=>Aa ?_ fun o10=>Ab (fun h11=>lfY ?_) (fun h11=>Ae ?_ fun o12=>(Ab (fun h13=>lfY ?_) (fun h13=>Ab (fun h14=>Ae ?_ fun o15=>(lfY ?_)) (fun h14=>lfY ?_))))) (fun h7=>Ab (fun h16=>Aa ?_ fun o17=>Ae ?_ fun o18=>(Ab (fun h19=>lfY ?_) (fun h19=>Ae ?_ fun o20=>(Ab (fun h21=>lfY ?_) (fun h21=>Aa ?_ fun o22=>Co (lfY ?_)))))) (fun h16=>Ae ?_ fun o23=>(Ab (fun h24=>Ae ?_ fun o25=>(Ab (fun h26=>Aa trivial fun _=>Co (lfY ?_)) (fun h26=>lfY ?_))) (fun h24=>lfY ?_)))))))))))
 all_goals have hq:okTail p:=hp
 all_goals obtain⟨⟨⟨hp1,hp2,hp3,hp4,hp9⟩,hp8,hp5⟩,hp6,hp10,hp7⟩:=(show okTail p from hp)
 all_goals
  have hbb:szBuilder p.builder≤2000000000:=by(unfold szBuilder;omega)
  have hpp:=pageParts p
  have hsl:=Ad AL p.slots
  have hml:=Ad Ar p.mods
  have hel:=Ad szAddr p.entries
  have hdl:(deferredSlots p).length≤p.slots.length:=openIdx_len _ _ _
  try simp only[AH] at *
  try simp only[fCopyPage,AT,En,AW,Bj,Cz,B1,A3,DY,A1,Ap,std,Nat.reduceAdd,fCopyPage,Bj,AT,Ap,A3,AW,En,B1,Cz,DY,defSlot_def,entNow_def] at *
 all_goals first|trivial|omega|skip
 all_goals
  have hds:0≤p.deferred→p.deferred<(deferredSlots p).length→(defSlot p).body.size≤4200000000:=fun a b=>hp5 _ (by have:=defSlot_in p a b;omega)
  have hes:0≤p.entered→p.entered<p.entries.length→okEnt p (entNow p):=fun a b=>okTail_ent hq (by omega)
 all_goals first|exact defSlot_in p (by assumption) (by assumption)|exact⟨hp1,by omega,by omega,hds (by assumption) (by assumption),hp5⟩|exact hes (by assumption) (by assumption)|exact(hes (by assumption) (by assumption)).2.1|skip
 all_goals unfold stepTail
 all_goals repeat first|rw[if_pos (by first|assumption|omega|exact .inl (by assumption)|exact .inr (by assumption)|exact .inr (.inl (by assumption))|exact .inr (.inr (.inl (by omega)))|exact .inr (.inr (.inr (by omega)))|exact .inl (by omega)|exact .inr (by omega))]|rw[if_neg (by first|omega|(rintro(q|q|q|q)<;>first|omega|exact tf (by assumption) q|exact tf q (by assumption))|(rintro(q|q)<;>first|omega|exact tf (by assumption) q))]|unfold tailDefer|unfold tailEnter
 all_goals first|exact⟨rfl,rfl⟩|exact⟨rfl,trivial⟩|(rw[An (by omega)];first|exact⟨rfl,rfl⟩|exact⟨rfl,trivial⟩)|(simp only[runCode_def,enter_ent];rw[An (by omega)];first|exact⟨rfl,rfl⟩|exact⟨rfl,trivial⟩))
def AaO:=Aa0.a k83_306
abbrev B9 (p:SPage):LInv:=⟨[⟨.b,3,true,.el .page⟩,⟨.s,4,true,.el .int⟩,⟨.b,2,true,.el .page⟩],fun(z_:SPage×Int×SPage×Unit) (x_:SPage×Int×SPage×Unit)=>(advInv p x_.1 x_.2.1)∧x_.2.2.1=z_.2.2.1,fun(x_:SPage×Int×SPage×Unit)=>(2000-x_.2.1).toNat⟩
theorem k28_307:BZ.ok Tryz.prog 28:=Fct.p (KP [1,2,3,4,5,6] [10,19,26]) (fun⟨p,_⟩=>lv [(3,B9 p)]) AaO.2 Tryz.func28 (by
 rintro⟨(p:SPage),_⟩ hp
 refine ho (.cl fCopyPage (p,()) fun z2=>lpx (B9 p) (z2.1,((0:Int),(default,()))) fun(y2:SPage×Int×SPage×PUnit) bk2=>.br (decide (y2.2.1<2000)) (.cl AE (y2.1,()) fun z3=>.br (!z3.2.1) (.cl A1 (y2.1,()) fun z4=>.br (!z4.2.1) (.lf BZ (y2.1,())) (.ob (bk2 (z4.1,(w1 y2.2.1,(y2.2.2.1,()))))<|.ok)) (.br (!z3.2.1) (.lf BZ (y2.1,())) (.ob (bk2 (z3.1,(w1 y2.2.1,(y2.2.2.1,()))))<|.ok))) (.lf BZ (y2.1,()))) ?_
 refine Ae ?_ fun o1=>(AG ?_ fun(y2:SPage×Int×SPage×PUnit) i2=>Ab (fun h3=>Ae ?_ fun o4=>(Ab (fun h5=>Ae ?_ fun o6=>(Ab (fun h7=>lfY ?_) (fun h7=>Aa ?_ fun o8=>trivial))) (fun h5=>Ab (fun h9=>lfY ?_) (fun h9=>Aa ?_ fun o10=>trivial)))) (fun h3=>lfY ?_))
 all_goals
  have hq:okAdv p:=hp
  have h0:=(advInv_tail (advInv_0 hq)).1.1.1
  try simp only[AH] at *
  try simp only[B9,BZ,fCopyPage,AE,A1,std,Nat.reduceAdd,fCopyPage,AE,A1] at *
 all_goals first|trivial|omega|skip
 all_goals first|exact advInv_0 hq|exact⟨advInv_0 hq,rfl⟩|(obtain⟨i3,e1⟩:=i2;have ht:=advInv_tail i3)
 all_goals first|exact ht|exact ht.1|exact(tf (by assumption) (by assumption)).elim|skip
 all_goals first|exact advInv_stop i3 (fun h=>absurd h (by omega))|exact advInv_stop i3 (fun _=>by rw[step1_t (by assumption)];assumption)|skip
 all_goals rw[An (by have:=i3.1;omega)]
 all_goals first|(have e:=advInv_go i3 (by assumption) (by rw[step1_t (by assumption)];assumption);rw[step1_t (by assumption)] at e;exact⟨⟨e,e1⟩,by omega⟩)|(have e:=advInv_go i3 (by assumption) (by rw[step1_p (by assumption)];assumption);rw[step1_p (by assumption)] at e;exact⟨⟨e,e1⟩,by omega⟩))
def AbP:=AaO.a k28_307
theorem k7_308:Be.ok Tryz.prog 7:=Fct.o (KP [1,2,3,4,5] [11,27]) AbP.2 Tryz.func7 (by
 rintro⟨(l:SLoader),_⟩ hp
 refine ho (.cl BH (l,()) fun z2=>.br ((↑l.parts.length:Int)==0) (.lf Be (z2.1,false,())) (.ob ((0:Int)≤(0:Int)∧(0:Int)<(↑l.parts.length:Int))<|.cl A7 (z2.1.page,l.parts.getD 0 default,()) fun z3=>.ob ((0:Int)≤(1:Int)∧(1:Int)≤(↑z2.1.parts.length:Int))<|.br ((↑(z2.1.parts.length-1):Int)==0) (.cl CF (z3.1,()) fun z4=>.cl BZ (z4.1,()) fun z5=>.ob (1+(z2.1.parts.length-1)≤z2.1.parts.length)<|.lf Be (⟨z2.1.net,z5.1,cut z2.1.parts 1 (z2.1.parts.length-1),z2.1.conns,z2.1.guesses⟩,true,())) (.cl BZ (z3.1,()) fun z6=>.ob (1+(z2.1.parts.length-1)≤z2.1.parts.length)<|.lf Be (⟨z2.1.net,z6.1,cut z2.1.parts 1 (z2.1.parts.length-1),z2.1.conns,z2.1.guesses⟩,true,())))) ?_
 refine Ae ?_ fun o1=>(Ab (fun h2=>lfY ?_) (fun h2=>Aa ?_ fun o3=>Ae ?_ fun o4=>(Aa ?_ fun o5=>Ab (fun h6=>Ae ?_ fun o7=>(Ae ?_ fun o8=>(Aa ?_ fun o9=>lfY ?_))) (fun h6=>Ae ?_ fun o10=>(Aa ?_ fun o11=>lfY ?_)))))
 all_goals have hq:okArr l:=hp
 all_goals obtain⟨hsz1,hsz2,hsz3⟩:=hq.1
 all_goals
  have hpg:szPage l.page≤1000000000000:=by(obtain⟨Q,M,R,h1,h2,h3,h4⟩:=hq.2.2;exact okAll_pg h1 (by omega) h3 h4)
  have hpl:l.parts.length≤2900000:=by(have h1:=hq.2.1;have:=Ad Ac l.parts;omega)
  try simp only[AH] at *
  try simp only[BZ,Be,A7,BH,CF,std,Nat.reduceAdd,BH,A7,CF,BZ] at *
 all_goals first|trivial|omega|(rw[arr_no (by omega)];exact⟨rfl,rfl⟩)|(obtain⟨g1,g2,g3,g4,g5⟩:=okArr_go hq (by omega))|skip
 all_goals first|trivial|omega|exact⟨g1,g2,g3⟩|skip
 all_goals first|(rw[arr_end (by omega)] at g5;first|exact g5|(rw[arr_yes (by omega),arr_end (by omega),cutDrop1];exact⟨rfl,rfl⟩))|(rw[arr_mid (by omega)] at g5;first|exact g5|(rw[arr_yes (by omega),arr_mid (by omega),cutDrop1];exact⟨rfl,rfl⟩)))
def Zl:=AbP.a k7_308
theorem arr_law (l:SLoader) (h:CN l≤1048576):okArr l∧CN (arrivePart l).1≤1125899906842624:=by
 have h0:=h
 have c1:=Ad Di l.conns
 have c2:=Ad CB l.guesses
 simp only[CN] at h
 have hi:okAll l.page 2000000 1100000000 10000000:=ok_init (by omega)
 refine⟨⟨⟨by omega,by omega,by omega⟩,by simp only[szPage,AJ] at h;omega,⟨_,_,_,hi,by omega,by omega,by omega⟩⟩,?_⟩
 by_cases hp:l.parts.length=0
 ·rw[arr_no hp];exact Nat.le_trans h0 (by omega)
 ·rw[arr_yes hp]
  have hg:=Dk Ac (l:=l.parts) (i:=0) (by omega)
  simp only[Ac] at hg
  have hd:=szL_drop Ac l.parts 1
  obtain⟨a1,a2,a3⟩:=ok_arr hi (by simp only[szPage,AJ] at h;omega)
  have hz:=okAll_pg (ok_advance a2) (by omega) (by omega) (by omega)
  simp only[CN]
  omega
theorem k3_309:lLoader1.ok Tryz.prog 3:=Fct.o (KP [1,2,3,4,5,6,7,8,9,10,11,12,13] [18,40,45,61,69,72,87,92,95]) Zl.2 Tryz.func3 (by
 rintro⟨(l:SLoader),_⟩ hp
 refine ho (let q2_:Out:=.leaf (mkR lLoader1.rs (true,())) [] [];let q0_:Out:=.leaf (mkR lLoader1.rs (false,())) [] [];.cl H1 (l,(1048576:Int),()) fun(z2:Int×PUnit)=>.br (decide (z2.1<0)) q2_ (.cl Eh (l,()) fun z3=>.cl Be (z3.1,()) fun z4=>.cl Eh (l,()) fun z5=>.cl Be (z5.1,()) fun z6=>.cl D5 (z6.1,z4.1,()) fun z7=>.br (!z7.1) q0_ (.br (!z6.2.1==z4.2.1) q0_ (.cl Eh (l,()) fun z8=>.cl D5 (z5.1,z8.1,()) fun z9=>.br (!z9.1) q0_ (.ob (Dj.pre z5.1 (1:Int))<|.lt _ (Dj.fn z5.1 (1:Int)) fun z10=>.br (decide (z10.2<0)) q0_ (.cl D5 (z6.1,z4.1,()) fun z11=>.br (!z11.1) q0_ (.br (!z6.2.1==z4.2.1) q0_ (.ob (Dj.pre z6.1 (1:Int))<|.lt _ (Dj.fn z6.1 (1:Int)) fun z12=>let q1_:=({z12.1 with net:=({z12.1.net with now:=z6.1.net.now}:SNet),page:=({z6.1.page with policy:=({z12.1.page.policy with set_:=z6.1.page.policy.set_,nonce:=z6.1.page.policy.nonce}:SPolicy),queue:=z12.1.page.queue,builder:=z12.1.page.builder,slots:=z12.1.page.slots,mods:=z12.1.page.mods,entries:=z12.1.page.entries,ran:=z12.1.page.ran,log:=z12.1.page.log}:SPage)}:SLoader);.cl Er (q1_,(1:Int),()) fun(z13:Int×PUnit)=>.br (decide (z13.1<0)) q0_ (.br (z13.1 != z12.2) q0_ (.cl Eh (l,()) fun z14=>.cl Be (z14.1,()) fun z15=>.cl D5 (z15.1,z4.1,()) fun z16=>.br (!z16.1) q0_ (.br (!z15.2.1==z4.2.1) q0_ (.cl Er (q1_,(1:Int),()) fun(z17:Int×PUnit)=>.br (decide (z17.1<0)) q0_ (.br (z17.1 != z12.2) q0_ q2_))))))))))))) ?_
 refine Il ?_ fun o1 z2 ez2=>(Ab (fun h2=>Fct.leafY ?_) (fun h2=>Il ?_ fun o3 z3 ez3=>(Il ?_ fun o4 z4 ez4=>(Il ?_ fun o5 z5 ez5=>(Il ?_ fun o6 z6 ez6=>(Il ?_ fun o7 z7 ez7=>(Ab (fun h8=>Fct.leafY ?_) (fun h8=>Ab (fun h9=>Fct.leafY ?_) (fun h9=>Il ?_ fun o10 z8 ez8=>(Il ?_ fun o11 z9 ez9=>(Ab (fun h12=>Fct.leafY ?_) (fun h12=>Aa ?_ fun o13=>Abx fun z10 ez10=>(Ab (fun h14=>Fct.leafY ?_) (fun h14=>Il ?_ fun o15 z11 ez11=>(Ab (fun h16=>Fct.leafY ?_) (fun h16=>Ab (fun h17=>Fct.leafY ?_) (fun h17=>Aa ?_ fun o18=>Abx fun z12 ez12=>(Il ?_ fun o19 z13 ez13=>(Ab (fun h20=>Fct.leafY ?_) (fun h20=>Ab (fun h21=>Fct.leafY ?_) (fun h21=>Il ?_ fun o22 z14 ez14=>(Il ?_ fun o23 z15 ez15=>(Il ?_ fun o24 z16 ez16=>(Ab (fun h25=>Fct.leafY ?_) (fun h25=>Ab (fun h26=>Fct.leafY ?_) (fun h26=>Il ?_ fun o27 z17 ez17=>(Ab (fun h28=>Fct.leafY ?_) (fun h28=>Ab (fun h29=>Fct.leafY ?_) (fun h29=>Fct.leafY ?_)))))))))))))))))))))))))))))
 all_goals
  have hlw:=arr_law l
  have hg0:Sh.good (.el .loader) l:=hp.1
  clear hp
  try have hbd0:=Hg z5.fst (1:Int)
  try have hbd1:=Hg z6.fst (1:Int)
 all_goals subst_vars
 all_goals
  try simp only[AH] at *
  try simp only[Be,D5,Er,Dj,H1,Eh,lLoader1,std,Nat.reduceAdd,szF,toF,eqF,mkF,heF,decide_true] at *
  try simp only[Lu] at *
 all_goals first|trivial|omega|grind[lessen])
def Ack:=Zl.a k3_309
section
open Go.ChangeShapes Go.WideShapes Go.ChangeAt Go.RowKit
theorem rowFacts:U6 Tryz.prog Tryz.f3 tyOf [3,4,5,9,25,28,30,33,35,40,45,49,54,57,58,59,60,64,69,73,115,117,120,138,140,143,173,177,181,186,189,199,207,213,217,224,247,251,254,260,281,296,299,301,303,310,343,347] [.el .loader]=true:=by kernel_rfl
end
end Go.Proofs.YtgjngkplonejjaaGreatDoor.fnExactArrivePart
