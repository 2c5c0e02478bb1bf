/-
  Contracts of functions that the law of FnExactArrivePart reaches, part 3.
-/
import Derived.Test.YtgjngkplonejjaaGreatDoorVPArrivePart2
import Derived.Test.YtgjngkplonejjaaGreatDoorVLe
import Derived.WalkKit
import Derived.BigGuard
import Derived.Deep.QuietTactic
import Derived.BigQuiet
import Derived.Lib.ConvBytes
import Derived.Sort.WalkC
import Derived.Handy
import Derived.Lib.Overlaps
import Derived.Lib.AppendZerosOnto
import Derived.Laws.Externs
import Derived.Shelf.RegionOpenPlain
import Derived.Defers
import Derived.Laws.Pointers
import Derived.Laws.LoneSync
import Derived.RegionCalls
import Derived.ChangeAlike
import Derived.LoopN
import Derived.Lib.SliceRun
import Derived.Shelf.Strconv.AtoiAll
import Derived.Shelf.Small.Strs
import Derived.Test.YtgjngkplonejjaaGreatDoorRows
import Derived.Test.YtgjngkplonejjaaGreatDoorCards
import Derived.Test.YtgjngkplonejjaaGreatDoorTie
import Derived.LaidMore
import Derived.Lay
import Derived.SevenTiedAt
import Derived.WalkKit
import Derived.ProofKit
import Derived.OpenShut
namespace Go.Proofs.YtgjngkplonejjaaGreatDoor.fnExactArrivePart
open Go.Proofs.YtgjngkplonejjaaGreatDoor
open Go.D
set_option maxRecDepth 100000
set_option maxHeartbeats 2000000
set_option linter.unusedVariables false
set_option linter.unusedSimpArgs false
theorem k138_265:AT.ok Tryz.prog 138:=Fct.p (KP [1,2,3,4] [10,19]) (fun⟨p,_⟩=>lv [(3,AY p)]) Zh.2 Tryz.func138 (by
 rintro⟨(p:SPage),_⟩ hp
 refine ho (lpx (AY p) ([],((0:Int),(p,()))) fun(y1:List Int×Int×SPage×PUnit) bk1=>.br (decide (y1.2.1<(↑y1.2.2.1.slots.length:Int))) (.ob (inB y1.2.1 y1.2.2.1.slots.length)<|.br ((y1.2.2.1.slots.getD y1.2.1.toNat default).mode==4) (.ob (True)<|.ob (Bi (y1.1.length+[y1.2.1].length) 8)<|.ob (bk1 (y1.1++[y1.2.1],(w1 y1.2.1,(y1.2.2.1,()))))<|.ok) (.ob (bk1 (y1.1,(w1 y1.2.1,(y1.2.2.1,()))))<|.ok)) (.lf AT (y1.1,()))) ?_
 refine AG ?_ fun(y1:List Int×Int×SPage×PUnit) i1=>Ab (fun h2=>Aa ?_ fun o3=>Ab (fun h4=>Aa trivial fun _=>Aa ?_ fun o5=>Aa ?_ fun o6=>trivial) (fun h4=>Aa ?_ fun o7=>trivial)) (fun h2=>lfY ?_)
 all_goals
  have h0:openIdx (fun s:SSlot=>decide (s.mode=4)) (p.slots.drop 0) 0=deferredSlots p:=rfl
  try simp only[AH] at *
  try simp only[AY,AT,std,Nat.reduceAdd,openIdx_at,openIdx_end,List.length_append,List.length_cons,List.length_nil,List.append_assoc] at *
  try simp(disch:=omega) only[wrapId',toNat1] at *
  try simp(disch:=omega) only[if_pos,if_neg]
 all_goals first|trivial|omega|grind[wrapId',toNat1,drop_cons,drop_end,good_len,maxLen,openIdx_at,openIdx_end,List.length_append,List.length_cons,List.length_nil,List.append_assoc])
def AbF:=Zh.a k138_265
abbrev AV (p:SPage):LInv:=⟨[⟨.s,3,true,.sl .int⟩,⟨.s,10,true,.el .int⟩],fun _ (x_:(List Int)×Int×Unit)=>0≤x_.2.1∧x_.2.1≤p.slots.length∧x_.1.length≤x_.2.1∧x_.1++openIdx (fun s=>decide (s.mode=4)) (p.slots.drop x_.2.1.toNat) x_.2.1=deferredSlots p,fun(x_:(List Int)×Int×Unit)=>p.slots.length-x_.2.1.toNat⟩
theorem k165_266:AT.ok Tryz.prog 165:=Fct.p (KP [1,2,3,4,5,8,9,10] [11,17]) (fun⟨p,_⟩=>lv [(3,AV p)]) AbF.2 Tryz.func165 (by
 rintro⟨(p:SPage),_⟩ hp
 refine ho (lpx (AV p) ([],((0:Int),())) fun(y1:List Int×Int×PUnit) bk1=>.br (decide (y1.2.1<(↑p.slots.length:Int))) (.ob (inB y1.2.1 p.slots.length)<|.br ((p.slots.getD y1.2.1.toNat default).mode==4) (.ob (True)<|.ob (Bi (y1.1.length+[y1.2.1].length) 8)<|.ob (p.slots=p.slots)<|.ob (Value.int IntKind.i64 (↑p.slots.length:Int)=Value.int IntKind.i64 (↑p.slots.length:Int))<|.ob (bk1 (y1.1++[y1.2.1],(w1 y1.2.1,())))<|.ok) (.ob (p.slots=p.slots)<|.ob (Value.int IntKind.i64 (↑p.slots.length:Int)=Value.int IntKind.i64 (↑p.slots.length:Int))<|.ob (bk1 (y1.1,(w1 y1.2.1,())))<|.ok)) (.lf AT (y1.1,()))) ?_
 refine AG ?_ fun(y1:List Int×Int×PUnit) i1=>Ab (fun h2=>Aa ?_ fun o3=>Ab (fun h4=>Aa trivial fun _=>Aa ?_ fun o5=>Aa rfl fun _=>Aa rfl fun _=>Aa ?_ fun o6=>trivial) (fun h4=>Aa rfl fun _=>Aa rfl fun _=>Aa ?_ fun o7=>trivial)) (fun h2=>lfY ?_)
 all_goals
  have h0:openIdx (fun s:SSlot=>decide (s.mode=4)) (p.slots.drop 0) 0=deferredSlots p:=rfl
  try simp only[AH] at *
  try simp only[AV,AT,std,Nat.reduceAdd,openIdx_at,openIdx_end,List.length_append,List.length_cons,List.length_nil,List.append_assoc] at *
  try simp(disch:=omega) only[wrapId',toNat1] at *
  try simp(disch:=omega) only[if_pos,if_neg]
 all_goals first|trivial|omega|grind[wrapId',toNat1,drop_cons,drop_end,good_len,maxLen,openIdx_at,openIdx_end,List.length_append,List.length_cons,List.length_nil,List.append_assoc])
def Aan:=AbF.a k165_266
def formatAddr (a:SAddr):ByteArray:=if isName a.host&&isName a.path then a.host++⟨#[47]⟩++a.path else⟨#[]⟩
def Bf:Fct:=⟨[.v (.el .addr)],[.el .str],fun(x_:SAddr×Unit)=>szAddr x_.1≤1000000000000,fun(x_:SAddr×Unit)=>(formatAddr x_.1,())⟩
theorem k209_267:Bf.ok Tryz.prog 209:=Fct.o (KP [1,2] [5]) Aan.2 Tryz.func209 (by
 rintro⟨(a:SAddr),_⟩ hp
 refine ho (.cl fIsAddr (a,()) fun z2=>.br (!z2.1) (.lf Bf ((⟨#[]⟩:ByteArray),())) (.ob (sameSize a.host (⟨#[47]⟩:ByteArray))<|.ob (sameSize (a.host++(⟨#[47]⟩:ByteArray)) a.path)<|.lf Bf (a.host++(⟨#[47]⟩:ByteArray)++a.path,()))) ?_
 refine Ae ?_ fun o1=>(Ab (fun h2=>lfY ?_) (fun h2=>Aa ?_ fun o3=>Aa ?_ fun o4=>lfY ?_))
 all_goals
  try simp only[AH] at *
  try simp only[Bf,fIsAddr,std,Nat.reduceAdd,formatAddr,fIsAddr,sameSize,ByteArray.size_append,szAddr] at *
  try simp(disch:=omega) only[wrapId',toNat1] at *
  try simp(disch:=omega) only[if_pos,if_neg]
 all_goals first|trivial|omega|grind[wrapId',toNat1,drop_cons,drop_end,good_len,maxLen,formatAddr,fIsAddr,sameSize,ByteArray.size_append,szAddr])
def ZO:=Aan.a k209_267
theorem k232_268:Bf.ok Tryz.prog 232:=Fct.o (KP [1,2] [5]) ZO.2 Tryz.func232 (by
 rintro⟨(a:SAddr),_⟩ hp
 refine ho (.cl fIsAddr (a,()) fun z2=>.br (!z2.1) (.lf Bf ((⟨#[]⟩:ByteArray),())) (.ob (sameSize a.host (⟨#[47]⟩:ByteArray))<|.ob (sameSize (a.host++(⟨#[47]⟩:ByteArray)) a.path)<|.lf Bf (a.host++(⟨#[47]⟩:ByteArray)++a.path,()))) ?_
 refine Ae ?_ fun o1=>(Ab (fun h2=>lfY ?_) (fun h2=>Aa ?_ fun o3=>Aa ?_ fun o4=>lfY ?_))
 all_goals
  try simp only[AH] at *
  try simp only[Bf,fIsAddr,std,Nat.reduceAdd,formatAddr,fIsAddr,sameSize,ByteArray.size_append,szAddr] at *
  try simp(disch:=omega) only[wrapId',toNat1] at *
  try simp(disch:=omega) only[if_pos,if_neg]
 all_goals first|trivial|omega|grind[wrapId',toNat1,drop_cons,drop_end,good_len,maxLen,formatAddr,fIsAddr,sameSize,ByteArray.size_append,szAddr])
def AbA:=ZO.a k232_268
def say (p:SPage) (s:ByteArray):SPage:=if p.log.length<40 then{ p with log:=p.log++[s]} else p
def L5:GS:=⟨[.g (.el .page),.l (.v (.el .str))],[.el .page],fun(x_:SPage×ByteArray×Unit)=>True,fun(x_:SPage×ByteArray×Unit)=>((say x_.1 x_.2.1,()),(()))⟩
theorem k143_269:L5.ok Tryz.prog 143:=GS.of (S:=L5) (L:=fun _ _=>none) (kp:=(KP [1,2,4] [8])) AbA.2 Tryz.func143 (by kernel_rfl) (by kernel_rfl) (by
 rintro⟨(p:SPage),(s:ByteArray),_⟩ hp
 refine ho (.br (decide ((↑p.log.length:Int)<40)) (.ob (True)<|.ob (Bi (p.log.length+[s].length) 16)<|GS.out L5 ((⟨p.addr,p.policy,p.tok,p.queue,p.ended,p.builder,p.slots,p.mods,p.entries,p.block,p.inline,p.deferred,p.entered,p.ran,p.log++[s],p.loaded⟩,()),(()))) (GS.out L5 ((p,()),(())))) ?_
 refine Ab (fun h1=>Aa trivial fun _=>Aa ?_ fun o2=>GS.leafY ?_) (fun h1=>GS.leafY ?_)
 all_goals
  try simp only[AH] at *
  try simp only[L5,std,Nat.reduceAdd,say] at *
  try simp(disch:=omega) only[wrapId',toNat1] at *
  try simp(disch:=omega) only[if_pos,if_neg]
 all_goals first|trivial|omega|grind[wrapId',toNat1,drop_cons,drop_end,good_len,maxLen,say])
def Y2:=AbA.G k143_269
def DY:GS:=⟨[.b (.el .page),.l (.v (.el .str))],[],fun(x_:SPage×ByteArray×Unit)=>True,fun(x_:SPage×ByteArray×Unit)=>((()),(say x_.1 x_.2.1,()))⟩
theorem k170_270:DY.ok Tryz.prog 170:=GS.of (S:=DY) (L:=fun _ _=>none) (kp:=(KP [0,1] [9])) Y2.2 Tryz.func170 (by kernel_rfl) (by kernel_rfl) (by
 rintro⟨(p:SPage),(s:ByteArray),_⟩ hp
 refine ho (.br (decide ((↑p.log.length:Int)<40)) (.ob (True)<|.ob (Bi (p.log.length+[s].length) 16)<|GS.out DY ((()),(⟨p.addr,p.policy,p.tok,p.queue,p.ended,p.builder,p.slots,p.mods,p.entries,p.block,p.inline,p.deferred,p.entered,p.ran,p.log++[s],p.loaded⟩,()))) (GS.out DY ((()),(p,())))) ?_
 refine Ab (fun h1=>Aa trivial fun _=>Aa ?_ fun o2=>GS.leafY ?_) (fun h1=>GS.leafY ?_)
 all_goals
  try simp only[AH] at *
  try simp only[DY,std,Nat.reduceAdd,say] at *
  try simp(disch:=omega) only[wrapId',toNat1] at *
  try simp(disch:=omega) only[if_pos,if_neg]
 all_goals first|trivial|omega|grind[wrapId',toNat1,drop_cons,drop_end,good_len,maxLen,say])
def YK:=Y2.G k170_270
def findMod (l:List SModule) (a:SAddr):Int:=fidx (fun m=>decide (m.to=a)) l 0
theorem fm_def (l:List SModule) (a:SAddr):fidx (fun m=>decide (m.to=a)) l 0=findMod l a:=rfl
theorem findMod_in (l:List SModule) (a:SAddr):findMod l a<l.length∧-1≤findMod l a:=by
 have:=LH (fun m:SModule=>decide (m.to=a)) l 0 (by omega)
 unfold findMod;omega
theorem findMod_get {l:List SModule} {a:SAddr} (h:0≤findMod l a):(l.getD (findMod l a).toNat default).to=a:=by
 have e:=find_fidx (fun m:SModule=>decide (m.to=a)) l 0 (by omega)
 rw[fm_def,if_pos h,Int.sub_zero] at e
 simpa using List.find?_some e
def imports (p:SPage) (a:SAddr):List SAddr×Bool :=
 if findMod p.mods a<0∨(p.mods.getD (findMod p.mods a).toNat default).done=false∨¬ (p.mods.getD (findMod p.mods a).toNat default).code=1 then([],false)
 else((parseModule (p.mods.getD (findMod p.mods a).toNat default).body a.host).1,(parseModule (p.mods.getD (findMod p.mods a).toNat default).body a.host).2.2)
def okMb (p:SPage):Prop:=∀ i,i<p.mods.length→(p.mods.getD i default).body.size≤4000000000
def CV:Fct:=⟨[.v (.el .page),.v (.el .addr)],[.sl .addr,.el .bool],fun(x_:SPage×SAddr×Unit)=>x_.1.mods.length≤1000000000000∧okMb x_.1∧x_.2.1.host.size≤4000000000,fun(x_:SPage×SAddr×Unit)=>((imports x_.1 x_.2.1).1,(imports x_.1 x_.2.1).2,())⟩
theorem k250_271:CV.ok Tryz.prog 250:=Fct.o (KP [2,3,4,5,6,7,9] [32]) YK.2 Tryz.func250 (by
 rintro⟨(p:SPage),(a:SAddr),_⟩ hp
 refine ho (.cl Cf (p,a,()) fun(z2:Int×PUnit)=>.br (decide (z2.1<0)) (.lf CV ([],false,())) (.ob (inB z2.1 p.mods.length)<|.br (!(p.mods.getD z2.1.toNat default).done) (.lf CV ([],false,())) (.ob (inB z2.1 p.mods.length)<|.br ((p.mods.getD z2.1.toNat default).code != 1) (.lf CV ([],false,())) (.ob (inB z2.1 p.mods.length)<|.cl Al ((p.mods.getD z2.1.toNat default).body,a.host,()) fun z3=>.lf CV (z3.1,z3.2.2.1,()))))) ?_
 refine Ae ?_ fun o1=>(Ab (fun h2=>lfY ?_) (fun h2=>Aa ?_ fun o3=>Ab (fun h4=>lfY ?_) (fun h4=>Aa ?_ fun o5=>Ab (fun h6=>lfY ?_) (fun h6=>Aa ?_ fun o7=>Ae ?_ fun o8=>(lfY ?_)))))
 all_goals have hf:=findMod_in p.mods a
 all_goals obtain⟨q1,q2,q3⟩:=(show p.mods.length≤1000000000000∧okMb p∧a.host.size≤4000000000 from hp)
 all_goals
  try simp only[AH] at *
  try simp only[CV,Cf,Al,std,Nat.reduceAdd,Cf,Al,fm_def] at *
 all_goals first|omega|exact⟨q2 _ (by omega),q3⟩|skip
 all_goals unfold imports
 all_goals first|rw[if_pos (by exact .inl (by assumption))]|rw[if_pos (by exact .inr (.inl (by assumption)))]|rw[if_pos (by exact .inr (.inr (by assumption)))]|rw[if_neg (by rintro(q|q|q)<;>first|omega|exact tf (by assumption) q|exact q (by assumption))]
 all_goals exact⟨rfl,rfl⟩)
def Z0:=YK.a k250_271
theorem pmGo_names (b:ByteArray):∀ (l:List ByteArray) (acc:List SAddr),(∀ x,x∈acc→x.host.size≤8∧x.path.size≤8)→(∀ x,x∈(pmGo b l acc).1→x.host.size≤8∧x.path.size≤8)∧(pmGo b l acc).1.length+l.length≤acc.length+szL Ac l
 | [],acc,h=>⟨h,Nat.le_refl _⟩
 | w::l,acc,h=>by
  rw[pmGo,szL_cons]
  have hnil:∀ x:SAddr,x∈([]:List SAddr)→x.host.size≤8∧x.path.size≤8:=fun x h=>by cases h
  have hll:=Ad Ac l
  split
  ·rename_i hi
   split
   ·rename_i hc
    obtain⟨i1,i2⟩:=pmGo_names b l (acc++[(parseAddr (w.extract 7 w.size) b).1]) (fun x hx=>by
     rcases List.mem_append.1 hx with hx|hx
     ·exact h x hx
     ·rw[List.mem_singleton] at hx
      subst hx
      unfold parseAddr at hc ⊢
      split at hc
      ·rename_i hn
       rw[if_pos hn]
       rw[Bool.and_eq_true] at hn
       exact⟨isName_size hn.1,isName_size hn.2⟩
      ·cases hc)
    refine⟨i1,?_⟩
    rw[List.length_append] at i2
    have:=hi.1
    simp only[List.length_cons,List.length_nil,Ac] at *
    omega
   ·exact⟨hnil,by simp only[List.length_cons,List.length_nil];omega⟩
  ·split
   ·exact⟨h,by simp only[List.length_cons];omega⟩
   ·exact⟨hnil,by simp only[List.length_cons,List.length_nil];omega⟩
theorem parseModule_sz (s b:ByteArray):(∀ x,x∈(parseModule s b).1→x.host.size≤8∧x.path.size≤8)∧(parseModule s b).1.length≤s.size:=by
 obtain⟨h1,h2⟩:=pmGo_names b (spl 59 s) [] (fun x h=>by cases h)
 have h3:=(DH 59 s).1
 rw[szL_spl] at h2
 exact⟨h1,by simp only[List.length_nil,parseModule] at *;omega⟩
theorem imports_sz (p:SPage) (a:SAddr):(∀ x,x∈(imports p a).1→x.host.size≤8∧x.path.size≤8)∧((imports p a).1=[]∨0≤findMod p.mods a∧(imports p a).1.length≤(p.mods.getD (findMod p.mods a).toNat default).body.size):=by
 unfold imports
 split
 ·exact⟨fun x h=>(by cases h),.inl rfl⟩
 ·rename_i h
  have:=parseModule_sz (p.mods.getD (findMod p.mods a).toNat default).body a.host
  exact⟨this.1,.inr ⟨by omega,this.2⟩⟩
def inL (l:List SAddr) (a:SAddr):Bool:=l.any fun c=>decide (c=a)
def visitF:Nat→SPage→SAddr→List SAddr×List SAddr→List SAddr×List SAddr
 | 0,_,_,st=>st
 | f+1,p,a,st=>if inL st.1 a=true then st else
  (((imports p a).1.foldl (fun st b=>visitF f p b st) (st.1++[a],st.2)).1,((imports p a).1.foldl (fun st b=>visitF f p b st) (st.1++[a],st.2)).2++[a])
def muV (p:SPage) (s:List SAddr):Nat:=(p.mods.filter fun m=>!inL s m.to).length
def wtV (p:SPage) (s:List SAddr):Nat:=((p.mods.filter fun m=>!inL s m.to).map fun m=>m.body.size+1).sum
theorem inL_app (s l:List SAddr) (a:SAddr):inL (s++l) a=(inL s a||inL l a):=by unfold inL;rw[List.any_append]
theorem inL_one (a b:SAddr):inL [a] b=decide (a=b):=by unfold inL;simp
theorem filter_len_le {α:Type} {f g:α→Bool}:∀ {l:List α},(∀ x,x∈l→g x=true→f x=true)→(l.filter g).length≤(l.filter f).length
 | [],_=>Nat.le_refl _
 | x::l,h=>by
  have ih:=filter_len_le (f:=f) (g:=g) (l:=l) fun y hy=>h y (List.mem_cons_of_mem _ hy)
  rw[List.filter_cons,List.filter_cons]
  cases hg:g x with
  | true=>rw[if_pos rfl,if_pos (h x List.mem_cons_self hg)];simp only[List.length_cons];omega
  | false=>
   rw[if_neg (by decide)]
   split
   ·simp only[List.length_cons];omega
   ·exact ih
theorem muV_app (p:SPage) (s l:List SAddr):muV p (s++l)≤muV p s:=by
 unfold muV
 refine filter_len_le fun m _ h=>?_
 rw[inL_app] at h
 cases hs:inL s m.to with
 | true=>rw[hs] at h;cases h
 | false=>rfl
def wtL (g:SModule→Bool):List SModule→Nat
 | []=>0
 | m::l=>(if g m=true then m.body.size+1 else 0)+wtL g l
theorem wtL_eq (g:SModule→Bool):∀ l:List SModule,wtL g l=((l.filter g).map fun m=>m.body.size+1).sum
 | []=>rfl
 | m::l=>by
  rw[wtL,List.filter_cons,wtL_eq g l]
  split
  ·rw[List.map_cons,List.sum_cons]
  ·omega
theorem wtL_le {f g:SModule→Bool}:∀ {l:List SModule},(∀ m,g m=true→f m=true)→wtL g l≤wtL f l
 | [],_=>Nat.le_refl _
 | m::l,h=>by
  have:=wtL_le (l:=l) h
  rw[wtL,wtL]
  by_cases hg:g m=true
  ·rw[if_pos hg,if_pos (h m hg)];omega
  ·rw[if_neg hg];omega
theorem wtL_drop {f g:SModule→Bool}:∀ {l:List SModule} {i:Nat},i<l.length→(∀ m,g m=true→f m=true)→f (l.getD i default)=true→g (l.getD i default)=false→wtL g l+(l.getD i default).body.size+1≤wtL f l
 | [],i,h,_,_,_=>absurd h (Nat.not_lt_zero _)
 | m::l,0,_,hl,h1,h2=>by
  have:=wtL_le (l:=l) hl
  have h1:f m=true:=h1
  have h2:g m=false:=h2
  show wtL g (m::l)+m.body.size+1≤_
  rw[wtL,wtL,if_neg (by rw[h2];decide),if_pos h1]
  omega
 | m::l,i+1,h,hl,h1,h2=>by
  have ih:=wtL_drop (l:=l) (i:=i) (by simpa using h) hl h1 h2
  show wtL g (m::l)+(l.getD i default).body.size+1≤_
  rw[wtL,wtL]
  by_cases hg:g m=true
  ·rw[if_pos hg,if_pos (hl m hg)];omega
  ·rw[if_neg hg];omega
theorem wtV_eq (p:SPage) (s:List SAddr):wtV p s=wtL (fun m=>!inL s m.to) p.mods:=(wtL_eq _ _).symm
theorem inL_mono {s:List SAddr} (l:List SAddr) {m:SModule} (h:(!inL (s++l) m.to)=true):(!inL s m.to)=true:=by
 rw[inL_app] at h
 cases hs:inL s m.to with
 | true=>rw[hs] at h;cases h
 | false=>rfl
theorem wtV_app (p:SPage) (s l:List SAddr):wtV p (s++l)≤wtV p s:=by
 rw[wtV_eq,wtV_eq]
 exact wtL_le fun m h=>inL_mono l h
theorem wtV_mod (p:SPage) (s:List SAddr) (a:SAddr) (h:inL s a=false) (hf:0≤findMod p.mods a):wtV p (s++[a])+(p.mods.getD (findMod p.mods a).toNat default).body.size+1≤wtV p s:=by
 rw[wtV_eq,wtV_eq]
 have hr:=findMod_in p.mods a
 have hg:=findMod_get hf
 refine wtL_drop (by omega) (fun m h=>inL_mono [a] h) ?_ ?_
 ·rw[hg,h];rfl
 ·rw[hg,inL_app,h,inL_one,decide_eq_true rfl];rfl
theorem muV_mod (p:SPage) (s:List SAddr) (a:SAddr) (h:inL s a=false) (hf:0≤findMod p.mods a):muV p (s++[a])<muV p s:=by
 have hr:=findMod_in p.mods a
 have hg:=findMod_get hf
 have key:∀ (l:List SModule) (i:Nat),i<l.length→(l.getD i default).to=a→(l.filter fun m=>!inL (s++[a]) m.to).length<(l.filter fun m=>!inL s m.to).length:=by
  intro l
  induction l with
  | nil=>intro i hi;exact absurd hi (Nat.not_lt_zero _)
  | cons m l ih=>
   intro i hi he
   have hle:(l.filter fun m=>!inL (s++[a]) m.to).length≤(l.filter fun m=>!inL s m.to).length:=filter_len_le fun m _ h=>inL_mono [a] h
   rw[List.filter_cons,List.filter_cons]
   cases i with
   | zero=>
    have he:m.to=a:=he
    rw[he,inL_app,h,inL_one,decide_eq_true rfl]
    simp only[Bool.or_true,Bool.not_true,Bool.not_false,if_true,Bool.false_eq_true,if_false,List.length_cons]
    omega
   | succ i=>
    have:=ih i (by simpa using hi) he
    by_cases h1:(!inL (s++[a]) m.to)=true
    ·rw[if_pos h1,if_pos (inL_mono [a] h1)];simp only[List.length_cons];omega
    ·rw[if_neg h1]
     split
     ·simp only[List.length_cons];omega
     ·exact this
 exact key _ _ (by omega) hg
theorem foldl_ind {α β:Type} (P:β→Prop) (f:β→α→β) (hf:∀ b a,P b→P (f b a)):∀ (l:List α) (b:β),P b→P (l.foldl f b)
 | [],_,h=>h
 | a::l,b,h=>foldl_ind P f hf l (f b a) (hf b a h)
theorem visit_ext:∀ (f:Nat) (p:SPage) (a:SAddr) (st:List SAddr×List SAddr),∃ l,(visitF f p a st).1=st.1++l
 | 0,p,a,st=>⟨[],(List.append_nil _).symm⟩
 | f+1,p,a,st=>by
  rw[visitF]
  split
  ·exact⟨[],(List.append_nil _).symm⟩
  ·have:=foldl_ind (fun b:List SAddr×List SAddr=>∃ l,b.1=st.1++l) (fun st b=>visitF f p b st) (fun b x ⟨l,hl⟩=>by
    obtain⟨m,hm⟩:=visit_ext f p x b
    exact⟨l++m,by rw[hm,hl,List.append_assoc]⟩) (imports p a).1 (st.1++[a],st.2) ⟨[a],rfl⟩
   exact this
theorem visit_stable:∀ (f g:Nat) (p:SPage) (a:SAddr) (st:List SAddr×List SAddr),muV p st.1<f→muV p st.1<g→visitF f p a st=visitF g p a st
 | 0,_,_,_,_,h,_=>absurd h (Nat.not_lt_zero _)
 | _+1,0,_,_,_,_,h=>absurd h (Nat.not_lt_zero _)
 | f+1,g+1,p,a,st,h1,h2=>by
  rw[visitF,visitF]
  split
  ·rfl
  ·rename_i hn
   have hn:inL st.1 a=false:=by simpa using hn
   have hfold:∀ (l:List SAddr) (s:List SAddr×List SAddr),muV p s.1<f→muV p s.1<g→l.foldl (fun st b=>visitF f p b st) s=l.foldl (fun st b=>visitF g p b st) s:=by
    intro l
    induction l with
    | nil=>intro s _ _;rfl
    | cons b l ih=>
     intro s q1 q2
     rw[List.foldl_cons,List.foldl_cons,←visit_stable f g p b s q1 q2]
     obtain⟨m,hm⟩:=visit_ext f p b s
     have:=muV_app p s.1 m
     exact ih _ (by rw[hm];omega) (by rw[hm];omega)
   rcases(imports_sz p a).2 with he|⟨hm,_⟩
   ·rw[he];rfl
   ·have:=muV_mod p st.1 a hn hm
    rw[hfold _ _ (show muV p (st.1++[a])<f by omega) (show muV p (st.1++[a])<g by omega)]
def visit (p:SPage) (a:SAddr) (st:List SAddr×List SAddr):List SAddr×List SAddr:=visitF (p.mods.length+1) p a st
theorem muV_le (p:SPage) (s:List SAddr):muV p s≤p.mods.length:=List.length_filter_le _ _
theorem visit_yes {p:SPage} {a:SAddr} {st:List SAddr×List SAddr} (h:inL st.1 a=true):visit p a st=st:=by unfold visit;rw[visitF,if_pos h]
theorem visit_no {p:SPage} {a:SAddr} {st:List SAddr×List SAddr} (h:inL st.1 a=false):visit p a st=(((imports p a).1.foldl (fun st b=>visit p b st) (st.1++[a],st.2)).1,((imports p a).1.foldl (fun st b=>visit p b st) (st.1++[a],st.2)).2++[a]):=by
 have e:visit p a st=visitF (p.mods.length+2) p a st:=visit_stable _ _ p a st (by have:=muV_le p st.1;omega) (by have:=muV_le p st.1;omega)
 rw[e,visitF,if_neg (by rw[h];decide)]
 rfl
def totV (p:SPage) (s:List SAddr):Nat:=s.length+wtV p s
theorem visit_tot:∀ (f:Nat) (p:SPage) (a:SAddr) (st:List SAddr×List SAddr),totV p (visitF f p a st).1≤totV p st.1+1∧(visitF f p a st).2.length+st.1.length=st.2.length+(visitF f p a st).1.length
 | 0,p,a,st=>⟨Nat.le_succ _,rfl⟩
 | f+1,p,a,st=>by
  rw[visitF]
  split
  ·exact⟨Nat.le_succ _,rfl⟩
  ·rename_i hn
   have hn:inL st.1 a=false:=by simpa using hn
   have hfold:∀ (l:List SAddr) (s:List SAddr×List SAddr),totV p (l.foldl (fun st b=>visitF f p b st) s).1≤totV p s.1+l.length∧(l.foldl (fun st b=>visitF f p b st) s).2.length+s.1.length=s.2.length+(l.foldl (fun st b=>visitF f p b st) s).1.length:=by
    intro l
    induction l with
    | nil=>intro s;exact⟨Nat.le_refl _,rfl⟩
    | cons b l ih=>
     intro s
     rw[List.foldl_cons]
     have h1:=visit_tot f p b s
     have h2:=ih (visitF f p b s)
     simp only[List.length_cons]
     omega
   have h1:=hfold (imports p a).1 (st.1++[a],st.2)
   rw[List.length_append,List.length_singleton]
   have h3:(st.1++[a]).length=st.1.length+1:=by simp
   rcases(imports_sz p a).2 with he|⟨hm,hl⟩
   ·rw[he] at h1 ⊢
    have:=wtV_app p st.1 [a]
    simp only[totV,List.length_nil,List.foldl_nil] at *
    omega
   ·have:=wtV_mod p st.1 a hn hm
    simp only[totV] at *
    omega
def reachOf (p:SPage) (a:SAddr):List SAddr:=(visit p a ([],[])).2
theorem visit_room {p:SPage} {a:SAddr} {s:List SAddr} {i:Nat} (h:inL s a=false) (hi:i<(imports p a).1.length):totV p (s++[a])+i<totV p s∧muV p (s++[a])<muV p s:=by
 rcases(imports_sz p a).2 with he|⟨hm,hl⟩
 ·rw[he] at hi;exact absurd hi (Nat.not_lt_zero _)
 ·have h1:=wtV_mod p s a h hm
  refine⟨?_,muV_mod p s a h hm⟩
  simp only[totV,List.length_append,List.length_cons,List.length_nil];omega
theorem visit_fold {p:SPage} {l:List SAddr} {i:Nat} {st:List SAddr×List SAddr} (h:i<l.length):(l.drop i).foldl (fun st b=>visit p b st) st=(l.drop (i+1)).foldl (fun st b=>visit p b st) (visit p (l.getD i default) st):=by rw[drop_cons h];rfl
theorem visit_fold0 {p:SPage} {l:List SAddr} {i:Nat} {st:List SAddr×List SAddr} (h:l.length≤i):(l.drop i).foldl (fun st b=>visit p b st) st=st:=by rw[List.drop_of_length_le h];rfl
theorem visit_tot1 (p:SPage) (a:SAddr) (st:List SAddr×List SAddr):totV p (visit p a st).1≤totV p st.1+1∧(visit p a st).2.length+st.1.length=st.2.length+(visit p a st).1.length:=visit_tot _ _ _ _
abbrev mVis (x:SPage×SAddr×List SAddr×List SAddr×Unit):Nat:=muV x.1 x.2.2.1
def okVis (p:SPage) (a:SAddr) (s o:List SAddr):Prop:=p.mods.length≤1000000000000∧okMb p∧a.host.size≤4000000000∧totV p s≤100000000000∧o.length≤s.length
def Fa:GS:=⟨[.l (.v (.el .page)),.l (.v (.el .addr)),.g (.sl .addr),.g (.sl .addr)],[.sl .addr,.sl .addr],fun(x_:SPage×SAddr×(List SAddr)×(List SAddr)×Unit)=>okVis x_.1 x_.2.1 x_.2.2.1 x_.2.2.2.1,fun(x_:SPage×SAddr×(List SAddr)×(List SAddr)×Unit)=>(((visit x_.1 x_.2.1 (x_.2.2.1,x_.2.2.2.1)).1,(visit x_.1 x_.2.1 (x_.2.2.1,x_.2.2.2.1)).2,()),(()))⟩
def visInv (p:SPage) (a:SAddr) (s o se od:List SAddr) (i:Int):Prop:=0≤i∧i≤(imports p a).1.length∧((imports p a).1.drop i.toNat).foldl (fun st b=>visit p b st) (se,od)=(imports p a).1.foldl (fun st b=>visit p b st) (s++[a],o)∧(∃ m,se=(s++[a])++m)∧totV p se≤totV p (s++[a])+i.toNat∧od.length+(s.length+1)=o.length+se.length
theorem visInv_go {p:SPage} {a:SAddr} {s o se od:List SAddr} {i:Int} (h:visInv p a s o se od i) (hi:i<(imports p a).1.length):visInv p a s o (visit p ((imports p a).1.getD i.toNat default) (se,od)).1 (visit p ((imports p a).1.getD i.toNat default) (se,od)).2 (i+1):=by
 obtain⟨h1,h2,h3,⟨m,hm⟩,h5,h6⟩:=h
 have ht:=visit_tot1 p ((imports p a).1.getD i.toNat default) (se,od)
 rw[visit_fold (by omega)] at h3
 obtain⟨l,hl⟩:=visit_ext (p.mods.length+1) p ((imports p a).1.getD i.toNat default) (se,od)
 dsimp only at ht
 refine⟨by omega,by omega,?_,⟨m++l,?_⟩,?_,?_⟩
 ·rw[show(i+1).toNat=i.toNat+1 by omega];exact h3
 ·show(visit p _ (se,od)).1=_
  unfold visit
  rw[hl,hm,List.append_assoc]
 ·rw[show(i+1).toNat=i.toNat+1 by omega];omega
 ·omega
theorem visInv_pre {p:SPage} {a:SAddr} {s o se od:List SAddr} {i:Int} (h:visInv p a s o se od i) (hi:i<(imports p a).1.length) (hn:inL s a=false) (hp:okVis p a s o):okVis p ((imports p a).1.getD i.toNat default) se od∧muV p se<muV p s:=by
 obtain⟨h1,h2,h3,⟨m,hm⟩,h5,h6⟩:=h
 obtain⟨p1,p2,p3,p4,p5⟩:=hp
 have hr:=visit_room hn (show i.toNat<(imports p a).1.length by omega)
 have hm2:=muV_app p (s++[a]) m
 rw[←hm] at hm2
 have hb:=(imports_sz p a).1 _ (getD_in (show i.toNat<(imports p a).1.length by omega))
 exact⟨⟨p1,p2,by omega,by omega,by omega⟩,by omega⟩
theorem imports_len {p:SPage} (a:SAddr) (h:okMb p):(imports p a).1.length≤4000000000:=by
 have hr:=findMod_in p.mods a
 rcases(imports_sz p a).2 with he|⟨q1,q2⟩
 ·rw[he];decide
 ·have:=h (findMod p.mods a).toNat (by omega);omega
theorem visInv_len {p:SPage} {a:SAddr} {s o se od:List SAddr} {i:Int} (h:visInv p a s o se od i) (hp:okVis p a s o):od.length≤200000000000:=by
 obtain⟨h1,h2,h3,_,h5,h6⟩:=h
 obtain⟨p1,p2,p3,p4,p5⟩:=hp
 have h7:=imports_len a p2
 have h8:=wtV_app p s [a]
 simp only[totV,List.length_append,List.length_cons,List.length_nil] at *
 omega
theorem visInv_end {p:SPage} {a:SAddr} {s o se od:List SAddr} {i:Int} (h:visInv p a s o se od i) (hi:¬ i<(imports p a).1.length) (hn:inL s a=false):(se,od++[a])=visit p a (s,o):=by
 obtain⟨h1,h2,h3,_⟩:=h
 rw[visit_fold0 (by omega)] at h3
 rw[visit_no (st:=(s,o)) hn,←h3]
theorem visInv_0 (p:SPage) (a:SAddr) (s o:List SAddr) (ho:o.length≤s.length):visInv p a s o (s++[a]) o 0:=by
 refine⟨by omega,by omega,rfl,⟨[],(List.append_nil _).symm⟩,Nat.le_refl _,?_⟩
 rw[List.length_append,List.length_singleton]
theorem inL_def (s:List SAddr) (a:SAddr):(s.any fun c=>decide (c=a))=inL s a:=rfl
abbrev Cj (p:SPage) (a:SAddr) (s:(List SAddr)) (o:(List SAddr)):LInv:=⟨[⟨.s,2,true,.sl .addr⟩,⟨.s,3,true,.sl .addr⟩,⟨.s,12,true,.el .int⟩,⟨.b,4,false,.el .page⟩,⟨.b,5,true,.el .addr⟩,⟨.s,10,true,.sl .addr⟩],fun(z_:(List SAddr)×(List SAddr)×Int×SPage×SAddr×(List SAddr)×Unit) (x_:(List SAddr)×(List SAddr)×Int×SPage×SAddr×(List SAddr)×Unit)=>(((visInv p a s o x_.1 x_.2.1 x_.2.2.1)∧x_.2.2.2.1=z_.2.2.2.1)∧x_.2.2.2.2.1=z_.2.2.2.2.1)∧x_.2.2.2.2.2.1=z_.2.2.2.2.2.1,fun(x_:(List SAddr)×(List SAddr)×Int×SPage×SAddr×(List SAddr)×Unit)=>(imports p a).1.length-x_.2.2.1.toNat⟩
theorem k249_272:Fa.ok Tryz.prog 249:=GS.ofRec (S:=Fa) (L:=fun⟨p,a,s,o,_⟩=>fun|6=>some (Cj p a s o)|_=>none) (kp:=[2,3,4,5,8,9,10,12,15,33,1000015,1000033]) mVis Z0.2 Tryz.func249 (by kernel_rfl) (by kernel_rfl) (by
 intro n0;rintro⟨(p:SPage),(a:SAddr),(s:List SAddr),(o:List SAddr),_⟩ hp hm
 refine ho (.cl Ci (s,a,()) fun z2=>.br (z2.1) (GS.out Fa ((s,o,()),(()))) (.ob (True)<|.ob (Bi s.length 32)<|.ob (True)<|.ob (Bi (s.length+[a].length) 32)<|.cl CV (p,a,()) fun z3=>lpx (Cj p a s o) (s++[a],(o,((0:Int),(p,(a,(z3.1,())))))) fun(y6:List SAddr×List SAddr×Int×SPage×SAddr×List SAddr×PUnit) bk6=>.br (decide (y6.2.2.1<(↑y6.2.2.2.2.2.1.length:Int))) (.ob (inB y6.2.2.1 y6.2.2.2.2.2.1.length)<|.ob (y6.2.2.1.toNat<y6.2.2.2.2.2.1.length)<|.ob (Fa.pre (y6.2.2.2.1,y6.2.2.2.2.2.1.getD y6.2.2.1.toNat default,y6.1,y6.2.1,())∧mVis (y6.2.2.2.1,y6.2.2.2.2.2.1.getD y6.2.2.1.toNat default,y6.1,y6.2.1,())<n0)<|.lt _ (Fa.fn (y6.2.2.2.1,y6.2.2.2.2.2.1.getD y6.2.2.1.toNat default,y6.1,y6.2.1,())) fun z4=>.ob (bk6 (z4.1.1,(z4.1.2.1,(w1 y6.2.2.1,(y6.2.2.2.1,(y6.2.2.2.2.1,(y6.2.2.2.2.2.1,())))))))<|.ok) (.ob (True)<|.ob (Bi y6.2.1.length 32)<|.ob (True)<|.ob (Bi (y6.2.1.length+[y6.2.2.2.2.1].length) 32)<|GS.out Fa ((y6.1,y6.2.1++[y6.2.2.2.2.1],()),(()))))) ?_
 refine Ae ?_ fun o1=>(Ab (fun h2=>GS.leafY ?_) (fun h2=>Aa trivial fun _=>Aa ?_ fun o3=>Aa trivial fun _=>Aa ?_ fun o4=>Ae ?_ fun o5=>(AG ?_ fun(y6:List SAddr×List SAddr×Int×SPage×SAddr×List SAddr×PUnit) i6=>Ab (fun h7=>Aa ?_ fun o8=>Aa ?_ fun o9=>Aa ?_ fun o10=>Co (Aa ?_ fun o11=>trivial)) (fun h7=>Aa trivial fun _=>Aa ?_ fun o12=>Aa trivial fun _=>Aa ?_ fun o13=>GS.leafY ?_))))
 all_goals have hq:okVis p a s o:=hp
 all_goals obtain⟨p1,p2,p3,p4,p5⟩:=(show okVis p a s o from hp)
 all_goals
  have hsl:s.length≤100000000000:=by(simp only[totV] at p4;omega)
  have hil:=imports_len a p2
  try simp only[AH] at *
  try simp only[Cj,Ci,CV,Fa,std,Nat.reduceAdd,Ci,CV,inL_def] at *
 all_goals first|trivial|omega|exact⟨p1,p2,p3⟩|exact visInv_0 p a s o p5|(rw[visit_yes (by assumption)];exact⟨rfl,rfl⟩)|skip
 all_goals (obtain⟨⟨⟨i1,e1⟩,e2⟩,e3⟩:=i6;simp only[e1,e2,e3] at *)
 all_goals
  have i2:=i1.1
  have i3:=visInv_len i1 hq
 all_goals first|trivial|omega|exact⟨i2,by assumption⟩|skip
 all_goals first|exact⟨(visInv_pre i1 (by assumption) (by assumption) hq).1,Nat.lt_of_lt_of_le (visInv_pre i1 (by assumption) (by assumption) hq).2 (Nat.le_of_lt_succ hm)⟩|(rw[An (by omega)];simp only[and_true];exact⟨visInv_go i1 (by assumption),by omega⟩)|(rw[←visInv_end i1 (by omega) (by assumption)];exact⟨rfl,rfl⟩))
def YV:=Z0.G k249_272
def A2:Fct:=⟨[.v (.el .page),.v (.el .addr)],[.sl .addr],fun(x_:SPage×SAddr×Unit)=>okVis x_.1 x_.2.1 [] [],fun(x_:SPage×SAddr×Unit)=>(reachOf x_.1 x_.2.1,())⟩
theorem k206_273:A2.ok Tryz.prog 206:=Fct.o [2,3,4,6] YV.2 Tryz.func206 (by
 rintro⟨(p:SPage),(a:SAddr),_⟩ hp
 refine ho (.ob (Fa.pre (p,a,[],[],()))<|.lt _ (Fa.fn (p,a,[],[],())) fun z2=>.lf A2 (z2.1.2.1,())) ?_
 refine Aa ?_ fun o1=>Co (lfY ?_)
 all_goals
  try simp only[AH] at *
  try simp only[A2,Fa,std,Nat.reduceAdd,Fa] at *
 all_goals first|assumption|rfl)
def ZS:=YV.a k206_273
theorem visit_mem:∀ (f:Nat) (p:SPage) (a:SAddr) (st:List SAddr×List SAddr) (x:SAddr),x∈(visitF f p a st).2→x∈st.2∨x=a∨x.host.size≤8
 | 0,p,a,st,x,h=>.inl h
 | f+1,p,a,st,x,h=>by
  rw[visitF] at h
  split at h
  ·exact .inl h
  ·have hfold:∀ (l:List SAddr) (s:List SAddr×List SAddr),(∀ y,y∈l→y.host.size≤8)→x∈(l.foldl (fun st b=>visitF f p b st) s).2→x∈s.2∨x.host.size≤8:=by
    intro l
    induction l with
    | nil=>intro s _ h;exact .inl h
    | cons b l ih=>
     intro s hl h
     rcases ih _ (fun y hy=>hl y (List.mem_cons_of_mem _ hy)) h with h|h
     ·rcases visit_mem f p b s x h with h|h|h
      ·exact .inl h
      ·exact .inr (h▸hl b List.mem_cons_self)
      ·exact .inr h
     ·exact .inr h
   rcases List.mem_append.1 h with h|h
   ·rcases hfold _ _ (fun y hy=>((imports_sz p a).1 y hy).1) h with h|h
    ·exact .inl h
    ·exact .inr (.inr h)
   ·rw[List.mem_singleton] at h;exact .inr (.inl h)
theorem reach_host {p:SPage} {a x:SAddr} (h:x∈reachOf p a) (ha:a.host.size≤4000000000):x.host.size≤4000000000:=by
 rcases visit_mem _ p a ([],[]) x h with h|h|h
 ·cases h
 ·exact h▸ha
 ·omega
theorem reach_len {p:SPage} {a:SAddr} (h:totV p []≤100000000000):(reachOf p a).length≤100000000001:=by
 have:=visit_tot1 p a ([],[])
 unfold reachOf
 simp only[List.length_nil] at this
 have h2:(visit p a ([],[])).1.length≤totV p (visit p a ([],[])).1:=Nat.le_add_right _ _
 omega
def graphReady (p:SPage) (a:SAddr):Bool:=(reachOf p a).all fun b=>decide (0≤findMod p.mods b)&&(p.mods.getD (findMod p.mods b).toNat default).done
def graphFails (p:SPage) (a:SAddr):Bool:=(reachOf p a).any fun b=>!(imports p b).2
theorem all_at {α:Type} [Inhabited α] {f:α→Bool} {l:List α} {i:Nat} (h:i<l.length):(l.drop i).all f=(f (l.getD i default)&&(l.drop (i+1)).all f):=by rw[drop_cons h];rfl
theorem any_at {α:Type} [Inhabited α] {f:α→Bool} {l:List α} {i:Nat} (h:i<l.length):(l.drop i).any f=(f (l.getD i default)||(l.drop (i+1)).any f):=by rw[drop_cons h];rfl
theorem all_end {α:Type} {f:α→Bool} {l:List α} {i:Nat} (h:l.length≤i):(l.drop i).all f=true:=by rw[List.drop_of_length_le h];rfl
theorem any_end {α:Type} {f:α→Bool} {l:List α} {i:Nat} (h:l.length≤i):(l.drop i).any f=false:=by rw[List.drop_of_length_le h];rfl
def AW:Fct:=⟨[.v (.el .page),.v (.el .addr)],[.el .bool],fun(x_:SPage×SAddr×Unit)=>okVis x_.1 x_.2.1 [] [],fun(x_:SPage×SAddr×Unit)=>(graphReady x_.1 x_.2.1,())⟩
abbrev Bk (p:SPage) (a:SAddr):LInv:=⟨[⟨.s,6,true,.el .int⟩,⟨.b,2,false,.el .page⟩,⟨.s,5,true,.sl .addr⟩],fun(z_:Int×SPage×(List SAddr)×Unit) (x_:Int×SPage×(List SAddr)×Unit)=>((0≤x_.1∧x_.1≤(reachOf p a).length∧((reachOf p a).drop x_.1.toNat).all (fun b=>decide (0≤findMod p.mods b)&&(p.mods.getD (findMod p.mods b).toNat default).done)=graphReady p a)∧x_.2.1=z_.2.1)∧x_.2.2.1=z_.2.2.1,fun(x_:Int×SPage×(List SAddr)×Unit)=>(reachOf p a).length-x_.1.toNat⟩
theorem k139_274:AW.ok Tryz.prog 139:=Fct.p (KP [2,3,4,5,6,7] [14,33]) (fun⟨p,a,_⟩=>lv [(3,Bk p a)]) ZS.2 Tryz.func139 (by
 rintro⟨(p:SPage),(a:SAddr),_⟩ hp
 refine ho (.cl A2 (p,a,()) fun z2=>lpx (Bk p a) ((0:Int),(p,(z2.1,()))) fun(y2:Int×SPage×List SAddr×PUnit) bk2=>.br (decide (y2.1<(↑y2.2.2.1.length:Int))) (.ob (inB y2.1 y2.2.2.1.length)<|.ob (y2.1.toNat<y2.2.2.1.length)<|.cl Cf (y2.2.1,y2.2.2.1.getD y2.1.toNat default,()) fun(z3:Int×PUnit)=>.br (decide (z3.1<0)) (.lf AW (false,())) (.ob (inB z3.1 y2.2.1.mods.length)<|.br (!(y2.2.1.mods.getD z3.1.toNat default).done) (.lf AW (false,())) (.ob (bk2 (w1 y2.1,(y2.2.1,(y2.2.2.1,()))))<|.ok))) (.lf AW (true,()))) ?_
 refine Ae ?_ fun o1=>(AG ?_ fun(y2:Int×SPage×List SAddr×PUnit) i2=>Ab (fun h3=>Aa ?_ fun o4=>Aa ?_ fun o5=>Ae ?_ fun o6=>(Ab (fun h7=>lfY ?_) (fun h7=>Aa ?_ fun o8=>Ab (fun h9=>lfY ?_) (fun h9=>Aa ?_ fun o10=>trivial)))) (fun h3=>lfY ?_))
 all_goals obtain⟨p1,p2,p3,p4,p5⟩:=(show okVis p a [] [] from hp)
 all_goals
  have hl:=reach_len (a:=a) p4
  try simp only[AH] at *
  try simp only[Bk,AW,Cf,A2,std,Nat.reduceAdd,A2,Cf,fm_def] at *
 all_goals first|trivial|omega|exact⟨p1,p2,p3,p4,p5⟩|exact⟨by omega,by omega,rfl⟩|skip
 all_goals (obtain⟨⟨⟨i0,i1,i3⟩,e1⟩,e2⟩:=i2;simp only[e1,e2] at *)
 all_goals have hf:=findMod_in p.mods ((reachOf p a).getD y2.1.toNat default)
 all_goals first|assumption|omega|skip
 all_goals first|(rw[all_end (by omega)] at i3;exact i3)|rw[all_at (by omega)] at i3
 all_goals first|(rw[←i3,decide_eq_false (by omega)];rfl)|(rw[←i3,decide_eq_true (by omega),show SModule.done _=false by assumption];rfl)|(rw[decide_eq_true (by omega),show SModule.done _=true by assumption,Bool.true_and,Bool.true_and] at i3;rw[An (by omega),show(y2.1+1).toNat=y2.1.toNat+1 by omega];simp only[and_true];exact⟨⟨by omega,by omega,i3⟩,by omega⟩))
def ZU:=ZS.a k139_274
def AR:Fct:=⟨[.v (.el .page),.v (.el .addr)],[.el .bool],fun(x_:SPage×SAddr×Unit)=>okVis x_.1 x_.2.1 [] [],fun(x_:SPage×SAddr×Unit)=>(graphFails x_.1 x_.2.1,())⟩
abbrev Bp (p:SPage) (a:SAddr):LInv:=⟨[⟨.s,6,true,.el .int⟩,⟨.b,2,false,.el .page⟩,⟨.s,5,true,.sl .addr⟩],fun(z_:Int×SPage×(List SAddr)×Unit) (x_:Int×SPage×(List SAddr)×Unit)=>((0≤x_.1∧x_.1≤(reachOf p a).length∧((reachOf p a).drop x_.1.toNat).any (fun b=>!(imports p b).2)=graphFails p a)∧x_.2.1=z_.2.1)∧x_.2.2.1=z_.2.2.1,fun(x_:Int×SPage×(List SAddr)×Unit)=>(reachOf p a).length-x_.1.toNat⟩
theorem k208_275:AR.ok Tryz.prog 208:=Fct.p (KP [2,3,4,5,6,8] [15,28]) (fun⟨p,a,_⟩=>lv [(3,Bp p a)]) ZU.2 Tryz.func208 (by
 rintro⟨(p:SPage),(a:SAddr),_⟩ hp
 refine ho (.cl A2 (p,a,()) fun z2=>lpx (Bp p a) ((0:Int),(p,(z2.1,()))) fun(y2:Int×SPage×List SAddr×PUnit) bk2=>.br (decide (y2.1<(↑y2.2.2.1.length:Int))) (.ob (inB y2.1 y2.2.2.1.length)<|.ob (y2.1.toNat<y2.2.2.1.length)<|.cl CV (y2.2.1,y2.2.2.1.getD y2.1.toNat default,()) fun z3=>.br (!z3.2.1) (.lf AR (true,())) (.ob (bk2 (w1 y2.1,(y2.2.1,(y2.2.2.1,()))))<|.ok)) (.lf AR (false,()))) ?_
 refine Ae ?_ fun o1=>(AG ?_ fun(y2:Int×SPage×List SAddr×PUnit) i2=>Ab (fun h3=>Aa ?_ fun o4=>Aa ?_ fun o5=>Ae ?_ fun o6=>(Ab (fun h7=>lfY ?_) (fun h7=>Aa ?_ fun o8=>trivial))) (fun h3=>lfY ?_))
 all_goals obtain⟨p1,p2,p3,p4,p5⟩:=(show okVis p a [] [] from hp)
 all_goals
  have hl:=reach_len (a:=a) p4
  try simp only[AH] at *
  try simp only[Bp,AR,CV,A2,std,Nat.reduceAdd,A2,CV] at *
 all_goals first|trivial|omega|exact⟨p1,p2,p3,p4,p5⟩|exact⟨by omega,by omega,rfl⟩|skip
 all_goals (obtain⟨⟨⟨i0,i1,i3⟩,e1⟩,e2⟩:=i2;simp only[e1,e2] at *)
 all_goals first|assumption|omega|exact⟨p1,p2,reach_host (getD_in (by omega)) p3⟩|skip
 all_goals first|(rw[any_end (by omega)] at i3;exact i3)|rw[any_at (by omega)] at i3
 all_goals first|(rw[←i3,show Prod.snd (imports p _)=false by assumption];rfl)|(rw[show Prod.snd (imports p _)=true by assumption,Bool.not_true,Bool.false_or] at i3;rw[An (by omega),show(y2.1+1).toNat=y2.1.toNat+1 by omega];simp only[and_true];exact⟨⟨by omega,by omega,i3⟩,by omega⟩))
def ZW:=ZU.a k208_275
def bpot (b:SBuilder):Nat:=szBuilder b+10*(40-b.nodes.length)
theorem runLine_pot (b:SBuilder) (l:List SSheet) (x:SLine):bpot (runLine b l x).1≤bpot b:=by
 unfold runLine
 split
 ·exact Nat.le_refl _
 ·split
  ·dsimp only
   split
   ·rename_i h
    obtain⟨h1,h2,h3⟩:=h
    have:=isName_size h3
    have h0:szL szNode []=0:=rfl
    have h4:szL AK []=0:=rfl
    have h5:ByteArray.size ⟨#[]⟩=0:=rfl
    simp only[bpot,szBuilder,szL_app,szL_cons,h0,szNode,h4,h5,List.length_append,List.length_cons,List.length_nil]
    omega
   ·exact Nat.le_refl _
  ·split
   ·exact Nat.le_refl _
   ·split
    ·exact Nat.le_refl _
    ·split<;>exact Nat.le_refl _
theorem runLines_pot (l:List SSheet):∀ (r:List SLine) (b:SBuilder) (w:ByteArray) (g:List ByteArray),bpot (runLines l r b w g).1≤bpot b
 | [],b,w,g=>Nat.le_refl _
 | x::r,b,w,g=>by
  rw[runLines]
  exact Nat.le_trans (runLines_pot l r _ _ _) (runLine_pot b l x)
theorem runScript_pot (b:SBuilder) (l:List SSheet) (r:List SLine):bpot (runScript b l r).1≤bpot b:=runLines_pot l r b _ _
theorem runScript_log (b:SBuilder) (l:List SSheet) (r:List SLine):(runScript b l r).2.2.length≤r.length:=by
 have:=(runLines_sz l r b ⟨#[]⟩ []).2.2
 show(runLines l r b ⟨#[]⟩ []).2.2.length≤_
 simpa using this
theorem pmGo_lines (b:ByteArray):∀ (l:List ByteArray) (acc:List SAddr),szL B2 (pmGo b l acc).2.1≤366∧(pmGo b l acc).2.1.length≤6
 | [],acc=>⟨Nat.zero_le _,Nat.zero_le _⟩
 | w::l,acc=>by
  rw[pmGo]
  split
  ·split
   ·exact pmGo_lines b l _
   ·exact⟨Nat.zero_le _,Nat.zero_le _⟩
  ·split
   ·exact parseScript_sz _
   ·exact⟨Nat.zero_le _,Nat.zero_le _⟩
def entLines (p:SPage) (b:SAddr):List SLine:=(parseModule (p.mods.getD (findMod p.mods b).toNat default).body b.host).2.1
theorem entLines_sz (p:SPage) (b:SAddr):szL B2 (entLines p b)≤366∧(entLines p b).length≤6:=pmGo_lines _ _ _
def entRun (p q:SPage) (b:SAddr):SBuilder×ByteArray×List ByteArray:=runScript q.builder (sheetsOf p.slots) (entLines p b)
def enter1 (p q:SPage) (b:SAddr):SPage:=if inL q.ran b=true then q else{ q with ran:=q.ran++[b],builder:=(entRun p q b).1,log:=addLog q.log (entRun p q b).2.2 }
def enterAll (p q:SPage) (l:List SAddr):SPage:=l.foldl (enter1 p) q
def enter (p:SPage) (a:SAddr):SPage:=if graphFails p a=true then say p (⟨#[102,97,105,108,32]⟩++formatAddr a) else enterAll p p (reachOf p a)
theorem enterAll_at {p q:SPage} {l:List SAddr} {i:Nat} (h:i<l.length):enterAll p q (l.drop i)=enterAll p (enter1 p q (l.getD i default)) (l.drop (i+1)):=by rw[drop_cons h];rfl
theorem enterAll_end {p q:SPage} {l:List SAddr} {i:Nat} (h:l.length≤i):enterAll p q (l.drop i)=q:=by rw[List.drop_of_length_le h];rfl
theorem addLog_len (l:List ByteArray):∀ g:List ByteArray,(addLog g l).length≤max g.length 40:=by
 induction l with
 | nil=>intro g;rw[addLog_nil];omega
 | cons x l ih=>
  intro g
  rw[addLog]
  split
  ·have:=ih (g++[x]);rw[List.length_append,List.length_singleton] at this;omega
  ·omega
def okEnt (p:SPage) (a:SAddr):Prop:=szPage p≤1000000000000∧okVis p a [] []∧szAddr a≤1000000000000∧szBuilder p.builder≤20000000000∧szL AL p.slots≤40000000000∧okBod p
def entInv (p:SPage) (a:SAddr) (q:SPage) (i:Int):Prop:=0≤i∧i≤(reachOf p a).length∧enterAll p q ((reachOf p a).drop i.toNat)=enterAll p p (reachOf p a)∧q={ p with ran:=q.ran,builder:=q.builder,log:=q.log }∧bpot q.builder≤bpot p.builder∧q.ran.length≤p.ran.length+i.toNat∧q.log.length≤max p.log.length 40
def logInv (q1:SPage) (g:List ByteArray) (q:SPage) (k:Int):Prop:=0≤k∧k≤g.length∧q={ q1 with log:=q.log }∧addLog q.log (g.drop k.toNat)=addLog q1.log g
theorem logInv_0 (q:SPage) (g:List ByteArray):logInv q g q 0:=⟨by omega,by omega,rfl,rfl⟩
theorem logInv_go {q1 q:SPage} {g:List ByteArray} {k:Int} (h:logInv q1 g q k) (hk:k<g.length):logInv q1 g (say q (g.getD k.toNat default)) (k+1):=by
 obtain⟨h1,h2,h3,h4⟩:=h
 rw[addLog_at (by omega)] at h4
 refine⟨by omega,by omega,?_,?_⟩
 ·unfold say
  split
  ·rw[h3]
  ·exact h3
 ·rw[show(k+1).toNat=k.toNat+1 by omega]
  unfold say
  split
  ·rename_i hc;rw[if_pos hc] at h4;exact h4
  ·rename_i hc;rw[if_neg hc] at h4;rw[addLog_full hc];exact h4
theorem logInv_end {q1 q:SPage} {g:List ByteArray} {k:Int} (h:logInv q1 g q k) (hk:¬ k<g.length):q={ q1 with log:=addLog q1.log g }:=by
 obtain⟨h1,h2,h3,h4⟩:=h
 rw[addLog_end (by omega)] at h4
 rw[←h4];exact h3
theorem imports_find {p:SPage} {x:SAddr} (h:(imports p x).2=true):0≤findMod p.mods x:=by
 unfold imports at h
 split at h
 ·cases h
 ·rename_i hc;omega
theorem reach_find {p:SPage} {a x:SAddr} (h:graphFails p a=false) (hx:x∈reachOf p a):0≤findMod p.mods x:=by
 unfold graphFails at h
 rw[List.any_eq_false] at h
 have:=h x hx
 refine imports_find ?_
 cases hi:(imports p x).2 with
 | true=>rfl
 | false=>rw[hi] at this;exact absurd rfl this
theorem entInv_0 (p:SPage) (a:SAddr):entInv p a p 0:=⟨by omega,by omega,rfl,rfl,Nat.le_refl _,Nat.le_refl _,Nat.le_max_left _ _⟩
theorem entInv_eq {p q:SPage} {a:SAddr} {i:Int} (h:entInv p a q i):q.mods=p.mods∧q.slots=p.slots:=by
 have e:=h.2.2.2.1
 exact⟨by rw[e],by rw[e]⟩
theorem entInv_sz {p q:SPage} {a:SAddr} {i:Int} (h:entInv p a q i) (hp:okEnt p a):q.ran.length≤1200000000000∧szBuilder q.builder≤30000000000∧szL Cq (sheetsOf p.slots)≤80000000000∧okSheets (sheetsOf p.slots)∧szL AL p.slots≤40000000000∧(reachOf p a).length≤100000000001∧p.mods.length≤1000000000000:=by
 obtain⟨h1,h2,h3,h4,h5,h6,h7⟩:=h
 obtain⟨p1,⟨q1,q2,q3,q4,q5⟩,p3,p4,p5,p6⟩:=hp
 have hl:=reach_len (a:=a) q4
 have hs:=sheetsOf_sz p.slots
 have hpp:=pageParts p
 have hr:=Ad szAddr p.ran
 have hm:=Ad Ar p.mods
 have hb:szBuilder q.builder≤bpot q.builder:=Nat.le_add_right _ _
 have hb2:bpot p.builder≤szBuilder p.builder+400:=by unfold bpot;omega
 exact⟨by omega,by omega,by omega,hs.2,by omega,hl,by omega⟩
theorem entInv_go {p q:SPage} {a:SAddr} {i:Int} (h:entInv p a q i) (hi:i<(reachOf p a).length):entInv p a (enter1 p q ((reachOf p a).getD i.toNat default)) (i+1):=by
 obtain⟨h1,h2,h3,h4,h5,h6,h7⟩:=h
 rw[enterAll_at (by omega)] at h3
 refine⟨by omega,by omega,by rw[show(i+1).toNat=i.toNat+1 by omega];exact h3,?_,?_,?_,?_⟩
 ·unfold enter1
  split
  ·exact h4
  ·rw[h4]
 ·unfold enter1
  split
  ·exact h5
  ·exact Nat.le_trans (runScript_pot _ _ _) h5
 ·unfold enter1
  split
  ·omega
  ·rw[List.length_append,List.length_singleton];omega
 ·unfold enter1
  split
  ·exact h7
  ·have:=addLog_len (entRun p q ((reachOf p a).getD i.toNat default)).2.2 q.log
   show(addLog _ _).length≤_
   omega
theorem entRun_def (p q:SPage) (b:SAddr):runScript q.builder (sheetsOf p.slots) (parseModule (p.mods.getD (findMod p.mods b).toNat default).body b.host).2.1=entRun p q b:=rfl
theorem fmtAddr_sz (a:SAddr):(formatAddr a).size≤szAddr a+1:=by
 unfold formatAddr
 split
 ·rw[ByteArray.size_append,ByteArray.size_append];simp only[szAddr,show ByteArray.size ⟨#[47]⟩=1 from rfl];omega
 ·exact Nat.zero_le _
def HL:Fct:=⟨[.v (.el .page),.v (.el .addr)],[.el .page],fun(x_:SPage×SAddr×Unit)=>okEnt x_.1 x_.2.1,fun(x_:SPage×SAddr×Unit)=>(enter x_.1 x_.2.1,())⟩
abbrev Cm (p:SPage) (a:SAddr):LInv:=⟨[⟨.b,5,true,.el .page⟩,⟨.s,7,true,.el .int⟩,⟨.b,4,true,.el .page⟩,⟨.s,6,true,.sl .addr⟩],fun(z_:SPage×Int×SPage×(List SAddr)×Unit) (x_:SPage×Int×SPage×(List SAddr)×Unit)=>((entInv p a x_.1 x_.2.1)∧x_.2.2.1=z_.2.2.1)∧x_.2.2.2.1=z_.2.2.2.1,fun(x_:SPage×Int×SPage×(List SAddr)×Unit)=>(reachOf p a).length-x_.2.1.toNat⟩
abbrev B5 (p:SPage) (a:SAddr):LInv:=⟨[⟨.b,5,true,.el .page⟩,⟨.s,14,true,.el .int⟩,⟨.s,13,true,.sl .str⟩,⟨.s,6,true,.sl .addr⟩,⟨.b,4,true,.el .page⟩],fun(z_:SPage×Int×(List ByteArray)×(List SAddr)×SPage×Unit) (x_:SPage×Int×(List ByteArray)×(List SAddr)×SPage×Unit)=>(x_.2.2.1=z_.2.2.1∧x_.2.2.2.1=z_.2.2.2.1∧logInv z_.1 z_.2.2.1 x_.1 x_.2.1)∧x_.2.2.2.2.1=z_.2.2.2.2.1,fun(x_:SPage×Int×(List ByteArray)×(List SAddr)×SPage×Unit)=>x_.2.2.1.length-x_.2.1.toNat⟩
theorem k140_276:HL.ok Tryz.prog 140:=Fct.p (KP [2,3,4,5,6,7,9,11,13,14] [19,31,40,86]) (fun⟨p,a,_⟩=>fun|6=>some (Cm p a)|14=>some (B5 p a)|_=>none) ZW.2 Tryz.func140 (by
 rintro⟨(p:SPage),(a:SAddr),_⟩ hp
 refine ho (.cl fCopyPage (p,()) fun z2=>.cl AR (p,a,()) fun z3=>.br (z3.1) (.cl Bf (a,()) fun z4=>.ob (sameSize (⟨#[102,97,105,108,32]⟩:ByteArray) z4.1)<|.ob (L5.pre (z2.1,(⟨#[102,97,105,108,32]⟩:ByteArray)++z4.1,()))<|.lt _ (L5.fn (z2.1,(⟨#[102,97,105,108,32]⟩:ByteArray)++z4.1,())) fun z5=>.lf HL (z5.1.1,())) (.cl A2 (p,a,()) fun z6=>lpx (Cm p a) (z2.1,((0:Int),(default,(z6.1,())))) fun(y7:SPage×Int×SPage×List SAddr×PUnit) bk7=>.br (decide (y7.2.1<(↑y7.2.2.2.1.length:Int))) (.ob (inB y7.2.1 y7.2.2.2.1.length)<|.ob (y7.2.1.toNat<y7.2.2.2.1.length)<|.cl Ci (y7.1.ran,y7.2.2.2.1.getD y7.2.1.toNat default,()) fun z7=>.br (z7.1) (.ob (bk7 (y7.1,(w1 y7.2.1,(y7.2.2.1,(y7.2.2.2.1,())))))<|.ok) (.ob (inB y7.2.1 y7.2.2.2.1.length)<|.ob (y7.2.1.toNat<y7.2.2.2.1.length)<|.ob (True)<|.ob (Bi (y7.1.ran.length+[y7.2.2.2.1.getD y7.2.1.toNat default].length) 32)<|.ob (inB y7.2.1 y7.2.2.2.1.length)<|.ob (y7.2.1.toNat<y7.2.2.2.1.length)<|.cl Cf ((⟨y7.1.addr,y7.1.policy,y7.1.tok,y7.1.queue,y7.1.ended,y7.1.builder,y7.1.slots,y7.1.mods,y7.1.entries,y7.1.block,y7.1.inline,y7.1.deferred,y7.1.entered,y7.1.ran++[y7.2.2.2.1.getD y7.2.1.toNat default],y7.1.log,y7.1.loaded⟩:SPage),y7.2.2.2.1.getD y7.2.1.toNat default,()) fun(z8:Int×PUnit)=>.ob (inB z8.1 y7.1.mods.length)<|.ob (z8.1.toNat<y7.1.mods.length)<|.ob (inB y7.2.1 y7.2.2.2.1.length)<|.ob (y7.2.1.toNat<y7.2.2.2.1.length)<|.cl Al ((y7.1.mods.getD z8.1.toNat default).body,(y7.2.2.2.1.getD y7.2.1.toNat default).host,()) fun z9=>.cl BN ((⟨y7.1.addr,y7.1.policy,y7.1.tok,y7.1.queue,y7.1.ended,y7.1.builder,y7.1.slots,y7.1.mods,y7.1.entries,y7.1.block,y7.1.inline,y7.1.deferred,y7.1.entered,y7.1.ran++[y7.2.2.2.1.getD y7.2.1.toNat default],y7.1.log,y7.1.loaded⟩:SPage),()) fun z10=>.cl Bl (y7.1.builder,z10.1,z9.2.1,()) fun z11=>lpx (B5 p a) ((⟨y7.1.addr,y7.1.policy,y7.1.tok,y7.1.queue,y7.1.ended,z11.1,y7.1.slots,y7.1.mods,y7.1.entries,y7.1.block,y7.1.inline,y7.1.deferred,y7.1.entered,y7.1.ran++[y7.2.2.2.1.getD y7.2.1.toNat default],y7.1.log,y7.1.loaded⟩:SPage),((0:Int),(z11.2.2.1,(y7.2.2.2.1,(y7.2.2.1,()))))) fun(y27:SPage×Int×List ByteArray×List SAddr×SPage×PUnit) bk27=>.br (decide (y27.2.1<(↑y27.2.2.1.length:Int))) (.ob (inB y27.2.1 y27.2.2.1.length)<|.ob (y27.2.1.toNat<y27.2.2.1.length)<|.ob (L5.pre (y27.1,y27.2.2.1.getD y27.2.1.toNat default,()))<|.lt _ (L5.fn (y27.1,y27.2.2.1.getD y27.2.1.toNat default,())) fun z12=>.ob (Value.int IntKind.i64 y7.2.1=Value.int IntKind.i64 y7.2.1)<|.ob (bk27 (z12.1.1,(w1 y27.2.1,(y27.2.2.1,(y27.2.2.2.1,(y27.2.2.2.2.1,()))))))<|.ok) (.ob (bk7 (y27.1,(w1 y7.2.1,(y27.2.2.2.2.1,(y27.2.2.2.1,())))))<|.ok))) (.lf HL (y7.1,())))) ?_
 refine Ae ?_ fun o1=>(Ae ?_ fun o2=>(Ab (fun h3=>Ae ?_ fun o4=>(Aa ?_ fun o5=>Aa trivial fun _=>Co (lfY ?_))) (fun h3=>Ae ?_ fun o6=>(AG ?_ fun(y7:SPage×Int×SPage×List SAddr×PUnit) i7=>Ab (fun h8=>Aa ?_ fun o9=>Aa ?_ fun o10=>Ae ?_ fun o11=>(Ab (fun h12=>Aa ?_ fun o13=>trivial) (fun h12=>Aa ?_ fun o14=>Aa ?_ fun o15=>Aa trivial fun _=>Aa ?_ fun o16=>Aa ?_ fun o17=>Aa ?_ fun o18=>Ae ?_ fun o19=>(Aa ?_ fun o20=>Aa ?_ fun o21=>Aa ?_ fun o22=>Aa ?_ fun o23=>Ae ?_ fun o24=>(Ae ?_ fun o25=>(Ae ?_ fun o26=>(AG ?_ fun(y27:SPage×Int×List ByteArray×List SAddr×SPage×PUnit) i27=>Ab (fun h28=>Aa ?_ fun o29=>Aa ?_ fun o30=>Aa trivial fun _=>Co (Aa rfl fun _=>Aa ?_ fun o31=>trivial)) (fun h28=>Aa ?_ fun o32=>trivial)))))))) (fun h8=>lfY ?_)))))
 all_goals have hq:okEnt p a:=hp
 all_goals obtain⟨p1,p2,p3,p4,p5,p6⟩:=(show okEnt p a from hp)
 all_goals
  have hfa:=fmtAddr_sz a
  try simp only[AH] at *
  try simp only[B5,Cm,fCopyPage,HL,Bf,AR,Ci,Cf,Al,A2,Bl,L5,BN,std,Nat.reduceAdd,fCopyPage,AR,Bf,L5,A2,Ci,Al,Bl,BN,Cf,fm_def,inL_def] at *
 all_goals first|trivial|omega|exact p2|(unfold sameSize;rw[show ByteArray.size ⟨#[102,97,105,108,32]⟩=5 from rfl];omega)|exact entInv_0 p a|(unfold enter;rw[if_pos (by assumption)])|skip
 all_goals (obtain⟨⟨i1,e1⟩,e2⟩:=i7;have em:=(entInv_eq i1).1;have es:=(entInv_eq i1).2;have i0:=i1.1;have iz:=entInv_sz i1 hq)
 all_goals try simp only[e2,em,es,entRun_def] at *
 all_goals first|trivial|omega|skip
 all_goals try (have hmem:=getD_in (l:=reachOf p a) (i:=y7.2.1.toNat) (by omega);have hfnd:=reach_find (by assumption) hmem;have hfi:=findMod_in p.mods ((reachOf p a).getD y7.2.1.toNat default))
 all_goals first|exact⟨hfnd,hfi.1⟩|exact⟨by omega,p6⟩|exact⟨p2.2.1 _ (by omega),reach_host hmem p2.2.2.1⟩|exact⟨by omega,by omega,Nat.le_trans (entLines_sz p _).1 (by decide),iz.2.2.2.1⟩|exact logInv_0 _ _|(rw[An (by omega)];have e:=entInv_go i1 (by omega);unfold enter1 at e;rw[if_pos (by assumption)] at e;exact⟨⟨⟨e,e1⟩,trivial⟩,by omega⟩)|(unfold enter;rw[if_neg (by intro q;exact tf q (by assumption))];have e:=i1.2.2.1;rw[enterAll_end (by omega)] at e;exact e)|skip
 all_goals (obtain⟨⟨j1,j2,j3⟩,j4⟩:=i27;simp only[j1,j2,j4] at *;have j0:=j3.1;have hgl:=Nat.le_trans (runScript_log y7.1.builder (sheetsOf p.slots) (entLines p ((reachOf p a).getD y7.2.1.toNat default))) (entLines_sz p _).2;rw[show runScript y7.1.builder (sheetsOf p.slots) (entLines p ((reachOf p a).getD y7.2.1.toNat default))=entRun p y7.1 ((reachOf p a).getD y7.2.1.toNat default) from rfl] at hgl)
 all_goals first|exact⟨j0,by assumption⟩|(rw[An (by omega)];simp only[and_true,true_and];exact⟨logInv_go j3 (by assumption),by omega⟩)|skip
 all_goals
  have e:=logInv_end j3 (by omega)
  have em2:=entInv_eq i1
  have e5:y27.1=enter1 p y7.1 ((reachOf p a).getD y7.2.1.toNat default):=by rw[e];unfold enter1;rw[if_neg (by intro q;exact tf q (by assumption))];simp only[em2.1,em2.2]
 all_goals rw[An (by omega),e5]
 all_goals exact⟨⟨⟨entInv_go i1 (by omega),by first|trivial|assumption⟩,by first|trivial|assumption⟩,by omega⟩)
def Aa4:=ZW.a k140_276
theorem wtL_sz (g:SModule→Bool):∀ l:List SModule,wtL g l≤szL Ar l
 | []=>Nat.le_refl _
 | m::l=>by
  have:=wtL_sz g l
  rw[wtL,szL_cons]
  split<;>simp only[Ar]<;>omega
theorem tot0 (p:SPage):totV p []≤szL Ar p.mods:=by
 unfold totV
 rw[wtV_eq,List.length_nil,Nat.zero_add]
 exact wtL_sz _ _
def okTail (p:SPage):Prop:=okParse p∧okMb p∧szL Ar p.mods≤50000000000∧∀ i,i<p.entries.length→(p.entries.getD i default).host.size≤4000000000
theorem okTail_ent {p:SPage} (h:okTail p) {i:Nat} (hi:i<p.entries.length):okEnt p (p.entries.getD i default):=by
 obtain⟨⟨⟨h1,h1a,h1b,h1c,h1e⟩,h1d,h1f⟩,h2,h2a,h3⟩:=h
 have hpp:=pageParts p
 have ht:=tot0 p
 have hm:=Ad Ar p.mods
 have ha:=Dk szAddr hi
 exact⟨h1,⟨by omega,h2,h3 i hi,by omega,Nat.le_refl _⟩,by omega,by unfold szBuilder;omega,h1d,h1f⟩
def defSlot (p:SPage):SSlot:=p.slots.getD ((deferredSlots p).getD p.deferred.toNat default).toNat default
def entNow (p:SPage):SAddr:=p.entries.getD p.entered.toNat default
def tailDefer (p:SPage):SPage×Bool :=
 if(defSlot p).done=false∨stylesReady p.slots=false then(p,false)
 else if(defSlot p).code=1 then({ runCode p (defSlot p).body false with deferred:=p.deferred+1 },true)
 else({ p with deferred:=p.deferred+1 },true)
def tailEnter (p:SPage):SPage×Bool :=
 if graphReady p (entNow p)=false∨stylesReady p.slots=false then(p,false)
 else({ enter p (entNow p) with entered:=p.entered+1 },true)
def stepTail (p:SPage):SPage×Bool :=
 if isParsed p=false∨p.loaded=true∨p.deferred<0∨p.entered<0 then(p,false)
 else if p.deferred<(deferredSlots p).length then tailDefer p
 else if p.entered<p.entries.length then tailEnter p
 else if 0<(openSlots p).length∨0<(openMods p).length then(p,false)
 else({ say p ⟨#[108,111,97,100]⟩ with loaded:=true },true)
theorem defSlot_in (p:SPage) (h:0≤p.deferred) (h2:p.deferred<(deferredSlots p).length):0≤(deferredSlots p).getD p.deferred.toNat default∧(deferredSlots p).getD p.deferred.toNat default<p.slots.length:=by
 have hm:=getD_in (l:=deferredSlots p) (i:=p.deferred.toNat) (by omega)
 have:=openIdx_in (fun s:SSlot=>decide (s.mode=4)) p.slots 0 _ hm
 omega
theorem defSlot_def (p:SPage):p.slots.getD ((deferredSlots p).getD p.deferred.toNat default).toNat default=defSlot p:=rfl
theorem entNow_def (p:SPage):p.entries.getD p.entered.toNat default=entNow p:=rfl
def A1:Fct:=⟨[.v (.el .page)],[.el .page,.el .bool],fun(x_:SPage×Unit)=>okTail x_.1,fun(x_:SPage×Unit)=>((stepTail x_.1).1,(stepTail x_.1).2,())⟩
theorem k62_277:A1.ok Tryz.prog 62:=Fct.o (KP [1,2,3,4,5,6,7] [26,34,51,59,78,93,112]) Aa4.2 Tryz.func62 (by
 rintro⟨(p:SPage),_⟩ hp
 refine ho (let q3_:=(⟨#[108,111,97,100]⟩:ByteArray);.cl fCopyPage (p,()) fun z2=>let q0_:Out:=.lf A1 (z2.1,false,());.cl Bj (p,()) fun z3=>.br (!z3.1) q0_ (.br (p.loaded) q0_ (.br (decide (p.deferred<0)) q0_ (.br (decide (p.entered<0)) q0_ (.cl AT (p,()) fun(z4:List Int×PUnit)=>let q2_:=p.slots.getD (z4.1.getD p.deferred.toNat default).toNat default;let q1_:=0≤z4.1.getD p.deferred.toNat default∧z4.1.getD p.deferred.toNat default<(↑p.slots.length:Int);.br (decide (p.deferred<(↑z4.1.length:Int))) (.ob (inB p.deferred z4.1.length)<|.ob (p.deferred.toNat<z4.1.length)<|.ob q1_<|.br (!q2_.done) q0_ (.cl Ap (p,()) fun z5=>.br (!z5.1) q0_ (.ob q1_<|.br (q2_.code==1) (.ob q1_<|.cl A3 (p,q2_.body,false,()) fun z6=>.lf A1 ({z6.1 with deferred:=w1 p.deferred},true,())) (.lf A1 ({z2.1 with deferred:=w1 p.deferred},true,()))))) (.br (decide (p.entered<(↑p.entries.length:Int))) (.ob (inB p.entered p.entries.length)<|.cl AW (p,p.entries.getD p.entered.toNat default,()) fun z7=>.br (!z7.1) q0_ (.cl Ap (p,()) fun z8=>.br (!z8.1) q0_ (.cl HL (p,p.entries.getD p.entered.toNat default,()) fun z9=>.lf A1 ({z9.1 with entered:=w1 p.entered},true,())))) (.cl B1 (p,()) fun(z10:List Int×PUnit)=>.br (decide ((↑z10.1.length:Int)>0)) q0_ (.cl Cz (p,()) fun(z11:List Int×PUnit)=>.br (decide ((↑z11.1.length:Int)>0)) q0_ (.ob (L5.pre (z2.1,q3_,()))<|.lt _ (L5.fn (z2.1,q3_,())) fun z12=>.lf A1 ({z12.1.1 with loaded:=true},true,())))))))))) ?_
 refine Ae ?_ fun o1=>(Ae trivial fun _=>(Ab (fun h2=>lfY ?_) (fun h2=>Ab (fun h3=>lfY ?_) (fun h3=>Ab (fun h4=>lfY ?_) (fun h4=>Ab (fun h5=>lfY ?_) (fun h5=>Ae ?_ fun o6=>(Ab (fun h7=>Aa ?_ fun o8=>Aa ?_ fun o9=>Aa ?_ fun o10=>Ab (fun h11=>lfY ?_) (fun h11=>Ae ?_ fun o12=>(Ab (fun h13=>lfY ?_) (fun h13=>Aa ?_ fun o14=>Ab (fun h15=>Aa ?_ fun o16=>Ae ?_ fun o17=>(lfY ?_)) (fun h15=>lfY ?_))))) (fun h7=>Ab (fun h18=>Aa ?_ fun o19=>Ae ?_ fun o20=>(Ab (fun h21=>lfY ?_) (fun h21=>Ae ?_ fun o22=>(Ab (fun h23=>lfY ?_) (fun h23=>Ae ?_ fun o24=>(lfY ?_)))))) (fun h18=>Ae ?_ fun o25=>(Ab (fun h26=>lfY ?_) (fun h26=>Ae ?_ fun o27=>(Ab (fun h28=>lfY ?_) (fun h28=>Aa trivial fun _=>Co (lfY ?_))))))))))))))
 all_goals have hq:okTail p:=hp
 all_goals obtain⟨⟨⟨hp1,hp2,hp3,hp4,hp9⟩,hp8,hp5⟩,hp6,hp10,hp7⟩:=(show okTail p from hp)
 all_goals
  have hbb:szBuilder p.builder≤2000000000:=by(unfold szBuilder;omega)
  have hpp:=pageParts p
  have hsl:=Ad AL p.slots
  have hml:=Ad Ar p.mods
  have hel:=Ad szAddr p.entries
  have hdl:(deferredSlots p).length≤p.slots.length:=openIdx_len _ _ _
  try simp only[AH] at *
  try simp only[fCopyPage,AT,HL,AW,Bj,Cz,B1,A3,L5,A1,Ap,std,Nat.reduceAdd,fCopyPage,Bj,AT,Ap,A3,AW,HL,B1,Cz,L5,defSlot_def,entNow_def] at *
 all_goals first|trivial|omega|skip
 all_goals
  have hds:0≤p.deferred→p.deferred<(deferredSlots p).length→(defSlot p).body.size≤4200000000:=fun a b=>hp5 _ (by have:=defSlot_in p a b;omega)
  have hes:0≤p.entered→p.entered<p.entries.length→okEnt p (entNow p):=fun a b=>okTail_ent hq (by omega)
 all_goals first|exact defSlot_in p (by assumption) (by assumption)|exact⟨hp1,by omega,by omega,hds (by assumption) (by assumption),hp5⟩|exact hes (by assumption) (by assumption)|exact(hes (by assumption) (by assumption)).2.1|skip
 all_goals unfold stepTail
 all_goals repeat first|rw[if_pos (by first|assumption|omega|exact .inl (by assumption)|exact .inr (by assumption)|exact .inr (.inl (by assumption))|exact .inr (.inr (.inl (by omega)))|exact .inr (.inr (.inr (by omega)))|exact .inl (by omega)|exact .inr (by omega))]|rw[if_neg (by first|omega|(rintro(q|q|q|q)<;>first|omega|exact tf (by assumption) q|exact tf q (by assumption))|(rintro(q|q)<;>first|omega|exact tf (by assumption) q))]|unfold tailDefer|unfold tailEnter
 all_goals first|exact⟨rfl,rfl⟩|(rw[An (by omega)];exact⟨rfl,rfl⟩))
def Y6:=Aa4.a k62_277
theorem szL_mem {α:Type} (f:α→Nat) {t:α}:∀ {l:List α},t∈l→f t+1≤szL f l
 | [],h=>by cases h
 | x::l,h=>by
  rw[szL_cons]
  rcases List.mem_cons.1 h with rfl|h
  ·omega
  ·have:=szL_mem f h;omega
def undS:List SSlot→Nat
 | []=>0
 | s::l=>(if s.done=true then 0 else 1)+undS l
def undM:List SModule→Nat
 | []=>0
 | m::l=>(if m.done=true then 0 else 1)+undM l
def nrL (r:List SAddr):List SModule→Nat
 | []=>0
 | m::l=>(if inL r m.to=true then 0 else szAddr m.to+1)+nrL r l
theorem undS_app:∀ l k:List SSlot,undS (l++k)=undS l+undS k
 | [],k=>(Nat.zero_add _).symm
 | s::l,k=>by rw[List.cons_append,undS,undS,undS_app l k];omega
theorem undM_app:∀ l k:List SModule,undM (l++k)=undM l+undM k
 | [],k=>(Nat.zero_add _).symm
 | s::l,k=>by rw[List.cons_append,undM,undM,undM_app l k];omega
theorem nrL_app (r:List SAddr):∀ l k:List SModule,nrL r (l++k)=nrL r l+nrL r k
 | [],k=>(Nat.zero_add _).symm
 | s::l,k=>by rw[List.cons_append,nrL,nrL,nrL_app r l k];omega
theorem nrL_mono (r:List SAddr) (b:SAddr):∀ l:List SModule,nrL (r++[b]) l≤nrL r l
 | []=>Nat.le_refl _
 | m::l=>by
  have:=nrL_mono r b l
  rw[nrL,nrL,inL_app]
  cases inL r m.to with
  | true=>rw[Bool.true_or,if_pos rfl];omega
  | false=>
   rw[Bool.false_or,if_neg (show ¬ false=true by decide)]
   split<;>omega
theorem nrL_drop (r:List SAddr) (b:SAddr) (hb:inL r b=false):∀ (l:List SModule) (i:Nat),i<l.length→(l.getD i default).to=b→nrL (r++[b]) l+szAddr b+1≤nrL r l
 | [],i,h,_=>absurd h (Nat.not_lt_zero _)
 | m::l,0,_,he=>by
  have he:m.to=b:=he
  have:=nrL_mono r b l
  rw[nrL,nrL,he,inL_app,hb,inL_one,decide_eq_true rfl,Bool.false_or,if_pos rfl,if_neg (by decide)]
  omega
 | m::l,i+1,h,he=>by
  have ih:=nrL_drop r b hb l i (by simpa using h) he
  rw[nrL,nrL,inL_app]
  cases inL r m.to with
  | true=>rw[Bool.true_or,if_pos rfl];omega
  | false=>
   rw[Bool.false_or,if_neg (show ¬ false=true by decide)]
   split<;>omega
def nodeP (b:SBuilder):Nat:=szL szNode b.nodes+4000010*(40-b.nodes.length)
def openP (b:SBuilder):Nat:=b.open_.length+(40-b.nodes.length)
def slotP (l:List SSlot):Nat:=szL AL l+400*undS l+500000800*(20-l.length)
def entP (l:List SAddr):Nat:=szL szAddr l+100*(20-l.length)
def modP (l:List SModule) (n:Nat):Nat:=szL Ar l+500*undM l+600*(20-n)
def logP (l:List ByteArray):Nat:=szL Ac l+200*(40-l.length)
def ranP (l:List SModule) (r:List SAddr) (n:Nat):Nat:=szL szAddr r+nrL r l+100*(20-n)
def okQ (q:List SToken) (Q:Nat):Prop:=(∀ t,t∈q→Af t≤4000000)∧szL Af q≤Q
def okB (b:SBuilder):Prop:=nodeP b≤200000000∧openP b≤3000000
def okS (l:List SSlot):Prop:=slotP l≤13000000000∧∀ s,s∈l→s.body.size≤2000000
def okE (l:List SModule) (e r:List SAddr) (M R:Nat):Prop:=entP e≤3000000∧modP l e.length≤M∧ranP l r e.length≤R∧∀ m,m∈l→m.body.size≤2000000
def okLg (g:List ByteArray):Prop:=logP g≤3000000
def okCm (p:SPage):Prop:=szPolicy p.policy+szAddr p.addr≤4000000∧p.tok.rest.size≤4000000
def okAll (p:SPage) (Q M R:Nat):Prop:=okQ p.queue Q∧okB p.builder∧okS p.slots∧okE p.mods p.entries p.ran M R∧okLg p.log∧okCm p
theorem okQ_mono {q:List SToken} {Q Q':Nat} (h:okQ q Q) (hq:Q≤Q'):okQ q Q':=⟨h.1,Nat.le_trans h.2 hq⟩
theorem okAll_mono {p:SPage} {Q Q' M R:Nat} (h:okAll p Q M R) (hq:Q≤Q'):okAll p Q' M R:=⟨okQ_mono h.1 hq,h.2⟩
theorem okB_tok {b:SBuilder} {t:SToken} (h:okB b) (ht:Af t≤4000000):okB (addToken b t).1:=by
 obtain⟨h1,h2⟩:=h
 unfold addToken
 split
 ·have:=closeN_len b t.name _ (Nat.le_refl _)
  refine⟨h1,?_⟩
  unfold openP at *
  show(closeN b t.name b.open_.length).length+(40-b.nodes.length)≤_
  omega
 ·split
  ·rename_i hc
   have hc:=hc.1
   have h0:szL szNode []=0:=rfl
   have h3:szL AK []=0:=rfl
   have h4:ByteArray.size ⟨#[]⟩=0:=rfl
   split
   ·refine⟨?_,?_⟩
    ·unfold nodeP at *
     dsimp only
     rw[szL_app,szL_cons,h0,List.length_append,List.length_singleton]
     simp only[szNode,Af,h4] at *;omega
    ·unfold openP at *
     dsimp only
     rw[List.length_append,List.length_singleton]
     split
     ·omega
     ·rw[List.length_append,List.length_singleton];omega
   ·refine⟨?_,?_⟩
    ·unfold nodeP at *
     dsimp only
     rw[szL_app,szL_cons,h0,List.length_append,List.length_singleton]
     simp only[szNode,Af,h4,h3] at *;omega
    ·unfold openP at *
     dsimp only
     rw[List.length_append,List.length_singleton];omega
  ·exact⟨h1,h2⟩
theorem okB_line {b:SBuilder} (l:List SSheet) (x:SLine) (h:okB b):okB (runLine b l x).1:=by
 unfold runLine
 split
 ·exact h
 ·split
  ·dsimp only
   split
   ·rename_i hc
    obtain⟨c1,c2,c3⟩:=hc
    obtain⟨h1,h2⟩:=h
    have:=isName_size c3
    have h0:szL szNode []=0:=rfl
    have h3:szL AK []=0:=rfl
    have h4:ByteArray.size ⟨#[]⟩=0:=rfl
    refine⟨?_,?_⟩
    ·unfold nodeP at *
     dsimp only
     rw[szL_app,szL_cons,h0,List.length_append,List.length_singleton]
     simp only[szNode,h4,h3] at *;omega
    ·unfold openP at *
     dsimp only
     rw[List.length_append,List.length_singleton];omega
   ·exact h
  ·split
   ·exact h
   ·split
    ·exact h
    ·split<;>exact h
theorem okB_lines (l:List SSheet):∀ (r:List SLine) (b:SBuilder) (w:ByteArray) (g:List ByteArray),okB b→okB (runLines l r b w g).1
 | [],b,w,g,h=>h
 | x::r,b,w,g,h=>by
  rw[runLines]
  exact okB_lines l r _ _ _ (okB_line l x h)
theorem line_log {b:SBuilder} {l:List SSheet} {x:SLine} (hl:okSheets l) (hb:b.nodes.length≤9000000000000000000) (hx:x.text.size≤60):(runLine b l x).2.2.size≤199:=by
 have h0:ByteArray.size ⟨#[]⟩=0:=rfl
 have hc:=countName_in x.text b.nodes
 have hk:=colorOf_in hl x.text
 have f1:=F3 (n:=countName x.text b.nodes) (by omega) (by omega)
 have f2:=F3 (n:=colorOf l x.text) hk.1 hk.2
 have s1:ByteArray.size ⟨#[99,111,117,110,116,32]⟩=6:=rfl
 have s2:ByteArray.size ⟨#[32]⟩=1:=rfl
 have s3:ByteArray.size ⟨#[108,111,111,107,32]⟩=5:=rfl
 have s4:ByteArray.size ⟨#[115,97,121,32]⟩=4:=rfl
 unfold runLine
 split
 ·dsimp only;omega
 ·split
  ·dsimp only;omega
  ·split
   ·dsimp only;rw[ByteArray.size_append,ByteArray.size_append,ByteArray.size_append];omega
   ·split
    ·dsimp only;rw[ByteArray.size_append,ByteArray.size_append,ByteArray.size_append];omega
    ·split
     ·dsimp only;rw[ByteArray.size_append];omega
     ·dsimp only;omega
theorem lines_log (l:List SSheet) (hl:okSheets l):∀ (r:List SLine) (b:SBuilder) (w:ByteArray) (g:List ByteArray),okB b→(∀ x,x∈r→x.text.size≤60)→(∀ s,s∈g→s.size≤199)→∀ s,s∈(runLines l r b w g).2.2→s.size≤199
 | [],b,w,g,_,_,hg=>hg
 | x::r,b,w,g,hb,hr,hg=>by
  rw[runLines]
  have hn:b.nodes.length≤9000000000000000000:=by
   have:=Ad szNode b.nodes
   have h1:=hb.1
   unfold nodeP at h1;omega
  have hx:=line_log hl hn (hr x List.mem_cons_self)
  refine lines_log l hl r _ _ _ (okB_line l x hb) (fun y hy=>hr y (List.mem_cons_of_mem _ hy)) fun s hs=>?_
  split at hs
  ·exact hg s hs
  ·rcases List.mem_append.1 hs with hs|hs
   ·exact hg s hs
   ·rw[List.mem_singleton] at hs;rw[hs];exact hx
theorem okG_add:∀ (l g:List ByteArray),(∀ s,s∈l→s.size≤199)→okLg g→okLg (addLog g l)
 | [],g,_,h=>by rw[addLog_nil];exact h
 | x::l,g,hl,h=>by
  rw[addLog]
  split
  ·refine okG_add l _ (fun s hs=>hl s (List.mem_cons_of_mem _ hs)) ?_
   have:=hl x List.mem_cons_self
   have h0:szL Ac []=0:=rfl
   unfold okLg logP at *
   rw[szL_app,szL_cons,h0,List.length_append,List.length_singleton]
   simp only[Ac] at *;omega
  ·exact h
theorem okG_say {p:SPage} {Q M R:Nat} (h:okAll p Q M R) {s:ByteArray} (hs:s.size≤199):okAll (say p s) Q M R:=by
 obtain⟨h1,h2,h3,h4,h5,h6⟩:=h
 have e:=okG_add [s] p.log (fun x hx=>by rw[List.mem_singleton] at hx;rw[hx];exact hs) h5
 unfold say
 split
 ·rename_i hc
  rw[addLog,if_pos hc,addLog_nil] at e
  exact⟨h1,h2,h3,h4,e,h6⟩
 ·exact⟨h1,h2,h3,h4,h5,h6⟩
theorem lines_text (s:ByteArray):∀ x,x∈(parseScript s).1→x.text.size≤60:=by
 intro x hx
 unfold parseScript at hx
 split at hx
 ·cases hx
 ·split at hx
  ·rename_i hc
   obtain⟨w,hw,rfl⟩:=List.mem_map.1 hx
   have:=hc.2
   rw[allOk8,List.all_eq_true] at this
   exact line8L_sz w _ _ (this w hw)
  ·cases hx
theorem ok_run {p:SPage} {Q M R:Nat} (h:okAll p Q M R) (c:ByteArray) (w:Bool):okAll (runCode p c w) (Q+370) M R:=by
 obtain⟨h1,h2,h3,h4,h5,h6⟩:=h
 unfold runCode
 split
 ·refine⟨?_,okB_lines _ _ _ _ _ h2,h3,h4,okG_add _ _ (lines_log _ (sheetsOf_sz _).2 _ _ _ _ h2 (lines_text c) fun s hs=>by cases hs) h5,h6⟩
  dsimp only
  split
  ·have ht:=tokensOf_sz (rsOf p c).2.1
   have hr:=(rsOf_sz p c).2.1
   refine⟨fun t ht2=>?_,?_⟩
   ·rcases List.mem_append.1 ht2 with q|q
    ·have hg:=szL_mem Af q
     omega
    ·exact h1.1 t q
   ·rw[szL_app]
    have:=h1.2;omega
  ·exact okQ_mono h1 (by omega)
 ·exact⟨okQ_mono h1 (by omega),h2,h3,h4,okG_add _ _ (fun s hs=>by rw[List.mem_singleton] at hs;rw[hs];decide) h5,h6⟩
theorem parseAddr_len (s b:ByteArray):szAddr (parseAddr s b).1≤16:=by
 unfold parseAddr
 split
 ·rename_i h
  rw[Bool.and_eq_true] at h
  have h1:=isName_size h.1
  have h2:=isName_size h.2
  simp only[szAddr];omega
 ·decide
theorem newSlot_sz (p:SPage) (m:Int) (to d:ByteArray) (n:Int):AL (newSlot p m to d n)≤16+d.size∧(newSlot p m to d n).body.size=0:=by
 have h:=parseAddr_len to p.addr.host
 have h4:ByteArray.size ⟨#[]⟩=0:=rfl
 unfold newSlot
 split
 ·exact⟨by simp only[rawSlot,AL,h4];omega,h4⟩
 ·exact⟨by simp only[AL,h4];omega,h4⟩
theorem ok_slot {p:SPage} {Q M R:Nat} (h:okAll p Q M R) (m:Int) (to d:ByteArray) (n:Int) (hd:d.size≤200000000):okAll (addSlot p m to d n).1 Q M R:=by
 obtain⟨h1,h2,h3,h4,h5,h6⟩:=h
 unfold addSlot
 split
 ·rename_i hc
  have hn:=newSlot_sz p m to d n
  refine⟨h1,h2,⟨?_,fun s hs=>?_⟩,h4,h5,h6⟩
  ·have h0:szL AL []=0:=rfl
   have hu:undS [newSlot p m to d n]≤1:=by rw[undS,undS];split<;>omega
   have h7:=h3.1
   unfold slotP at *
   dsimp only
   rw[szL_app,szL_cons,h0,undS_app,List.length_append,List.length_singleton]
   omega
  ·rcases List.mem_append.1 hs with hs|hs
   ·exact h3.2 s hs
   ·rw[List.mem_singleton] at hs;rw[hs,hn.2];decide
 ·exact⟨h1,h2,h3,h4,h5,h6⟩
theorem newMod_sz (p:SPage) (a:SAddr):(newMod p a).to=a∧(newMod p a).body.size=0:=by
 unfold newMod;split<;>exact⟨rfl,rfl⟩
theorem szL_td {α:Type} (f:α→Nat) (l:List α) (i:Nat):szL f (l.take i)+szL f (l.drop i)=szL f l:=by
 rw[←szL_app,List.take_append_drop]
theorem undM_td (l:List SModule) (i:Nat):undM (l.take i)+undM (l.drop i)=undM l:=by rw[←undM_app,List.take_append_drop]
theorem nrL_td (r:List SAddr) (l:List SModule) (i:Nat):nrL r (l.take i)+nrL r (l.drop i)=nrL r l:=by rw[←nrL_app,List.take_append_drop]
theorem ask_sz (p:SPage) (a:SAddr):szL Ar (askModule p a).mods≤szL Ar p.mods+szAddr a+1∧undM (askModule p a).mods≤undM p.mods+1∧nrL p.ran (askModule p a).mods≤nrL p.ran p.mods+szAddr a+1∧(∀ m,m∈(askModule p a).mods→m∈p.mods∨m.body.size=0)∧askModule p a={ p with mods:=(askModule p a).mods }:=by
 unfold askModule
 split
 ·exact⟨by omega,by omega,by omega,fun m h=>.inl h,rfl⟩
 ·obtain⟨n1,n2⟩:=newMod_sz p a
  have e1:=szL_td Ar p.mods (askFrom a p.mods)
  have e2:=undM_td p.mods (askFrom a p.mods)
  have e3:=nrL_td p.ran p.mods (askFrom a p.mods)
  refine⟨?_,?_,?_,fun m h=>?_,rfl⟩
  ·dsimp only
   rw[szL_app,szL_cons]
   simp only[Ar,n1,n2] at *;omega
  ·dsimp only
   rw[undM_app,undM]
   split<;>omega
  ·dsimp only
   rw[nrL_app,nrL,n1]
   split<;>omega
  ·rcases List.mem_append.1 h with h|h
   ·exact .inl (List.mem_of_mem_take h)
   ·rcases List.mem_cons.1 h with h|h
    ·rw[h];exact .inr n2
    ·exact .inl (List.mem_of_mem_drop h)
theorem ok_entry {p:SPage} {Q M R:Nat} (h:okAll p Q M R) (to:ByteArray):okAll (addEntry p to) Q M R:=by
 unfold addEntry
 split
 ·rename_i hc
  obtain⟨h1,h2,h3,⟨h4,h7,h8,h9⟩,h5,h6⟩:=h
  obtain⟨a1,a2,a3,a4,a5⟩:=ask_sz p (parseAddr to p.addr.host).1
  have ha:=parseAddr_len to p.addr.host
  have h0:szL szAddr []=0:=rfl
  rw[a5]
  refine⟨h1,h2,h3,⟨?_,?_,?_,fun m hm=>?_⟩,h5,h6⟩
  ·unfold entP at *
   rw[szL_app,szL_cons,h0,List.length_append,List.length_singleton];omega
  ·unfold modP at *
   dsimp only
   rw[List.length_append,List.length_singleton];omega
  ·unfold ranP at *
   dsimp only
   rw[List.length_append,List.length_singleton];omega
  ·rcases a4 m hm with hm|hm
   ·exact h9 m hm
   ·omega
 ·exact h
theorem ok_element {p:SPage} {Q M R:Nat} (h:okAll p Q M R) (t:SToken) (n:Int) (ht:Af t≤4000000):okAll (element p t n) Q M R:=by
 have hd:=findAttr_sz t.attrs ⟨#[100,105,103,101,115,116]⟩
 have hs:szL AK t.attrs≤Af t:=by simp only[Af];omega
 unfold element
 split
 ·exact ok_slot h _ _ _ _ (by omega)
 ·split
  ·exact ok_slot h _ _ _ _ (by omega)
  ·exact h
theorem ok_script {p:SPage} {Q M R:Nat} (h:okAll p Q M R) (n:Int):okAll (script p n) Q M R:=by
 have hd:=findAttr_sz (p.builder.nodes.getD n.toNat default).attrs ⟨#[100,105,103,101,115,116]⟩
 have hs:szL AK (p.builder.nodes.getD n.toNat default).attrs≤200000000:=by
  by_cases hn:n.toNat<p.builder.nodes.length
  ·have:=node_attrs p.builder.nodes n.toNat hn
   have h2:=h.2.1.1
   unfold nodeP at h2;omega
  ·rw[List.getD_eq_getElem?_getD,List.getElem?_eq_none (by omega)]
   exact Nat.zero_le _
 unfold script
 split
 ·split
  ·exact h
  ·exact h
 ·split
  ·exact ok_slot h _ _ _ _ (by omega)
  ·split
   ·exact ok_entry h _
   ·exact ok_slot h _ _ _ _ (by omega)
theorem ok_taken {p:SPage} {Q M R:Nat} (h:okAll p Q M R) (hq:0<p.queue.length):okAll (taken p (p.queue.getD 0 default)) Q M R:=by
 obtain⟨h1,h2,h3,h4,h5,h6⟩:=h
 have ht:=h1.1 _ (getD_in hq)
 have hz:=(taken_sz p hq).2
 exact⟨⟨fun t hm=>h1.1 t (List.mem_of_mem_drop hm),by have:=h1.2;show szL Af (p.queue.drop 1)≤Q;omega⟩,okB_tok h2 ht,h3,h4,h5,h6⟩
theorem ok_take {p:SPage} {Q M R:Nat} (h:okAll p Q M R):okAll (takeToken p).1 Q M R:=by
 unfold takeToken
 split
 ·exact h
 ·rename_i hc
  have hq:0<p.queue.length:=by omega
  have ht:=h.1.1 _ (getD_in hq)
  have hk:=ok_taken h hq
  unfold takeTok
  split
  ·exact ok_element hk _ _ ht
  ·split
   ·exact ok_script hk _
   ·exact hk
theorem ok_parser {p:SPage} {Q M R:Nat} (h:okAll p Q M R):okAll (stepParser p).1 (Q+370) M R:=by
 have hm:=okAll_mono h (Nat.le_add_right Q 370)
 unfold stepParser
 split
 ·unfold stepInline
  split
  ·exact ok_run h _ _
  ·exact hm
 ·split
  ·unfold stepBlock
   split
   ·exact hm
   ·split
    ·exact hm
    ·split
     ·exact ok_run h _ _
     ·exact hm
  ·exact ok_take hm
theorem pm_text (b:ByteArray):∀ (l:List ByteArray) (acc:List SAddr),∀ x,x∈(pmGo b l acc).2.1→x.text.size≤60
 | [],acc,x,h=>by cases h
 | w::l,acc,x,h=>by
  rw[pmGo] at h
  split at h
  ·split at h
   ·exact pm_text b l _ x h
   ·cases h
  ·split at h
   ·exact lines_text _ x h
   ·cases h
theorem ok_enter1 {p q:SPage} {Q M R:Nat} (h:okAll q Q M R) (he:q.mods=p.mods) (b:SAddr) (hb:0≤findMod p.mods b):okAll (enter1 p q b) Q M R∧(enter1 p q b).mods=p.mods:=by
 unfold enter1
 split
 ·exact⟨h,he⟩
 ·rename_i hn
  have hn:inL q.ran b=false:=by simpa using hn
  obtain⟨h1,h2,h3,⟨h4,h7,h8,h9⟩,h5,h6⟩:=h
  have hf:=findMod_in p.mods b
  have hd:=nrL_drop q.ran b hn p.mods _ (show(findMod p.mods b).toNat<p.mods.length by omega) (findMod_get hb)
  have h0:szL szAddr []=0:=rfl
  refine⟨⟨h1,okB_lines _ _ _ _ _ h2,h3,⟨h4,h7,?_,h9⟩,okG_add _ _ (lines_log _ (sheetsOf_sz _).2 _ _ _ _ h2 (pm_text _ _ _) fun s hs=>by cases hs) h5,h6⟩,he⟩
  unfold ranP at *
  dsimp only
  rw[he] at h8 ⊢
  rw[szL_app,szL_cons,h0];omega
theorem ok_enterAll {p:SPage} {Q M R:Nat}:∀ (l:List SAddr) (q:SPage),okAll q Q M R→q.mods=p.mods→(∀ b,b∈l→0≤findMod p.mods b)→okAll (enterAll p q l) Q M R
 | [],q,h,_,_=>h
 | b::l,q,h,he,hb=>by
  obtain⟨i1,i2⟩:=ok_enter1 h he b (hb b List.mem_cons_self)
  exact ok_enterAll l _ i1 i2 fun x hx=>hb x (List.mem_cons_of_mem _ hx)
theorem fmtAddr_len (a:SAddr):(formatAddr a).size≤17:=by
 unfold formatAddr
 split
 ·rename_i h
  rw[Bool.and_eq_true] at h
  have h1:=isName_size h.1
  have h2:=isName_size h.2
  rw[ByteArray.size_append,ByteArray.size_append,show ByteArray.size ⟨#[47]⟩=1 from rfl];omega
 ·exact Nat.zero_le _
theorem ok_enter {p:SPage} {Q M R:Nat} (h:okAll p Q M R) (a:SAddr):okAll (enter p a) Q M R:=by
 unfold enter
 split
 ·refine okG_say h ?_
  have:=fmtAddr_len a
  rw[ByteArray.size_append,show ByteArray.size ⟨#[102,97,105,108,32]⟩=5 from rfl];omega
 ·rename_i hf
  exact ok_enterAll _ _ h rfl fun b hb=>reach_find (by simpa using hf) hb
theorem ok_tail {p:SPage} {Q M R:Nat} (h:okAll p Q M R):okAll (stepTail p).1 (Q+370) M R:=by
 have hm:=okAll_mono h (Nat.le_add_right Q 370)
 unfold stepTail
 split
 ·exact hm
 ·split
  ·unfold tailDefer
   split
   ·exact hm
   ·split
    ·exact ok_run h _ _
    ·exact hm
  ·split
   ·unfold tailEnter
    split
    ·exact hm
    ·exact ok_enter hm _
   ·split
    ·exact hm
    ·exact okG_say hm (by decide)
theorem okAll_tail {p:SPage} {Q M R:Nat} (h:okAll p Q M R) (hQ:Q≤900000000000) (hM:M≤50000000000) (hR:R≤20000000000):okTail p:=by
 obtain⟨⟨a1,a2⟩,⟨b1,b2⟩,⟨c1,c2⟩,⟨d1,d2,d3,d4⟩,e1,f1⟩:=h
 have hg:logP p.log≤3000000:=e1
 have hc:szPolicy p.policy+szAddr p.addr+p.tok.rest.size≤9000000:=by(unfold okCm at f1;omega)
 unfold nodeP at b1;unfold openP at b2;unfold slotP at c1;unfold entP at d1;unfold modP at d2;unfold ranP at d3;unfold logP at hg
 have hn:=Ad szNode p.builder.nodes
 have hb:szBuilder p.builder=szL szNode p.builder.nodes+p.builder.open_.length:=rfl
 have hh:p.addr.host.size≤szAddr p.addr:=by simp only[szAddr];omega
 refine⟨⟨⟨?_,by omega,fun i hi=>?_,by omega,by omega⟩,by omega,fun i hi=>?_⟩,fun i hi=>?_,by omega,fun i hi=>?_⟩
 ·simp only[szPage,AJ];omega
 ·have:=a1 _ (getD_in hi);omega
 ·have:=c2 _ (getD_in hi);omega
 ·have:=d4 _ (getD_in hi);omega
 ·have:=Dk szAddr hi
  have h3:(p.entries.getD i default).host.size≤szAddr (p.entries.getD i default):=by simp only[szAddr];omega
  omega
def step1 (p:SPage):SPage×Bool:=if(stepParser p).2=true then stepParser p else stepTail p
def adv:Nat→SPage→SPage
 | 0,p=>p
 | n+1,p=>if(step1 p).2=true then adv n (step1 p).1 else p
def advance (p:SPage):SPage:=adv 2000 p
theorem step1_p {p:SPage} (h:(stepParser p).2=true):step1 p=stepParser p:=by unfold step1;rw[if_pos h]
theorem step1_t {p:SPage} (h:(stepParser p).2=false):step1 p=stepTail p:=by unfold step1;rw[if_neg (by rw[h];decide)]
theorem ok_step1 {p:SPage} {Q M R:Nat} (h:okAll p Q M R):okAll (step1 p).1 (Q+370) M R:=by
 unfold step1;split
 ·exact ok_parser h
 ·exact ok_tail h
theorem ok_adv {M R:Nat}:∀ (n:Nat) (p:SPage) (Q:Nat),okAll p Q M R→okAll (adv n p) (Q+370*n) M R
 | 0,p,Q,h=>h
 | n+1,p,Q,h=>by
  rw[adv]
  split
  ·have:=ok_adv n _ _ (ok_step1 h)
   rw[show Q+370+370*n=Q+370*(n+1) by omega] at this
   exact this
  ·exact okAll_mono h (by omega)
theorem ok_advance {p:SPage} {Q M R:Nat} (h:okAll p Q M R):okAll (advance p) (Q+740000) M R:=ok_adv 2000 p Q h
def okAdv (p:SPage):Prop:=∃ Q M R,okAll p Q M R∧Q≤899000000000∧M≤50000000000∧R≤20000000000
def advInv (p q:SPage) (i:Int):Prop:=0≤i∧i≤2000∧adv (2000-i.toNat) q=advance p∧∃ Q M R,okAll q (Q+370*i.toNat) M R∧Q≤899000000000∧M≤50000000000∧R≤20000000000
theorem advInv_0 {p:SPage} (h:okAdv p):advInv p p 0:=by
 obtain⟨Q,M,R,h1,h2⟩:=h
 exact⟨by omega,by omega,rfl,Q,M,R,h1,h2⟩
theorem advInv_tail {p q:SPage} {i:Int} (h:advInv p q i):okTail q:=by
 obtain⟨h1,h2,_,Q,M,R,h3,h4,h5,h6⟩:=h
 exact okAll_tail h3 (by omega) h5 h6
theorem advInv_go {p q:SPage} {i:Int} (h:advInv p q i) (hi:i<2000) (hs:(step1 q).2=true):advInv p (step1 q).1 (i+1):=by
 obtain⟨h1,h2,h0,Q,M,R,h3,h4⟩:=h
 rw[show 2000-i.toNat=(2000-(i+1).toNat)+1 by omega,adv,if_pos hs] at h0
 refine⟨by omega,by omega,h0,Q,M,R,?_,h4⟩
 have:=ok_step1 h3
 rw[show Q+370*i.toNat+370=Q+370*(i+1).toNat by omega] at this
 exact this
theorem advInv_stop {p q:SPage} {i:Int} (h:advInv p q i) (hs:i<2000→(step1 q).2=false):q=advance p:=by
 obtain⟨h1,h2,h0,_⟩:=h
 rcases Nat.eq_zero_or_pos (2000-i.toNat) with hz|hz
 ·rw[hz] at h0;exact h0
 ·obtain⟨n,hn⟩:∃ n,2000-i.toNat=n+1:=⟨2000-i.toNat-1,by omega⟩
  rw[hn,adv,if_neg (by rw[hs (by omega)];decide)] at h0
  exact h0
def BZ:Fct:=⟨[.v (.el .page)],[.el .page],fun(x_:SPage×Unit)=>okAdv x_.1,fun(x_:SPage×Unit)=>(advance x_.1,())⟩
abbrev B6 (p:SPage):LInv:=⟨[⟨.b,3,true,.el .page⟩,⟨.s,4,true,.el .int⟩,⟨.b,2,true,.el .page⟩],fun(z_:SPage×Int×SPage×Unit) (x_:SPage×Int×SPage×Unit)=>(advInv p x_.1 x_.2.1)∧x_.2.2.1=z_.2.2.1,fun(x_:SPage×Int×SPage×Unit)=>(2000-x_.2.1).toNat⟩
theorem k19_278:BZ.ok Tryz.prog 19:=Fct.p (KP [1,2,3,4,5,6] [10,19,26]) (fun⟨p,_⟩=>lv [(3,B6 p)]) Y6.2 Tryz.func19 (by
 rintro⟨(p:SPage),_⟩ hp
 refine ho (.cl fCopyPage (p,()) fun z2=>lpx (B6 p) (z2.1,((0:Int),(default,()))) fun(y2:SPage×Int×SPage×PUnit) bk2=>.br (decide (y2.2.1<2000)) (.cl AE (y2.1,()) fun z3=>.br (!z3.2.1) (.cl A1 (y2.1,()) fun z4=>.br (!z4.2.1) (.lf BZ (y2.1,())) (.ob (bk2 (z4.1,(w1 y2.2.1,(y2.2.2.1,()))))<|.ok)) (.br (!z3.2.1) (.lf BZ (y2.1,())) (.ob (bk2 (z3.1,(w1 y2.2.1,(y2.2.2.1,()))))<|.ok))) (.lf BZ (y2.1,()))) ?_
 refine Ae ?_ fun o1=>(AG ?_ fun(y2:SPage×Int×SPage×PUnit) i2=>Ab (fun h3=>Ae ?_ fun o4=>(Ab (fun h5=>Ae ?_ fun o6=>(Ab (fun h7=>lfY ?_) (fun h7=>Aa ?_ fun o8=>trivial))) (fun h5=>Ab (fun h9=>lfY ?_) (fun h9=>Aa ?_ fun o10=>trivial)))) (fun h3=>lfY ?_))
 all_goals
  have hq:okAdv p:=hp
  have h0:=(advInv_tail (advInv_0 hq)).1.1.1
  try simp only[AH] at *
  try simp only[B6,BZ,fCopyPage,AE,A1,std,Nat.reduceAdd,fCopyPage,AE,A1] at *
 all_goals first|trivial|omega|skip
 all_goals first|exact advInv_0 hq|exact⟨advInv_0 hq,rfl⟩|(obtain⟨i3,e1⟩:=i2;have ht:=advInv_tail i3)
 all_goals first|exact ht|exact ht.1|exact(tf (by assumption) (by assumption)).elim|skip
 all_goals first|exact advInv_stop i3 (fun h=>absurd h (by omega))|exact advInv_stop i3 (fun _=>by rw[step1_t (by assumption)];assumption)|skip
 all_goals rw[An (by have:=i3.1;omega)]
 all_goals first|(have e:=advInv_go i3 (by assumption) (by rw[step1_t (by assumption)];assumption);rw[step1_t (by assumption)] at e;exact⟨⟨e,e1⟩,by omega⟩)|(have e:=advInv_go i3 (by assumption) (by rw[step1_p (by assumption)];assumption);rw[step1_p (by assumption)] at e;exact⟨⟨e,e1⟩,by omega⟩))
def Abl:=Y6.a k19_278
def arrPage (l:SLoader):SPage:=if l.parts.length=1 then endPage (arriveText l.page (l.parts.getD 0 default)) else arriveText l.page (l.parts.getD 0 default)
def arrivePart (l:SLoader):SLoader×Bool:=if l.parts.length=0 then(l,false) else({ l with parts:=l.parts.drop 1,page:=advance (arrPage l)},true)
theorem und_le:∀ l:List SSlot,undS l≤l.length
 | []=>Nat.le_refl _
 | s::l=>by have:=und_le l;rw[undS,List.length_cons];split<;>omega
theorem undM_le:∀ l:List SModule,undM l≤l.length
 | []=>Nat.le_refl _
 | s::l=>by have:=undM_le l;rw[undM,List.length_cons];split<;>omega
theorem nrL_le (r:List SAddr):∀ l:List SModule,nrL r l≤szL Ar l
 | []=>Nat.le_refl _
 | s::l=>by have:=nrL_le r l;rw[nrL,szL_cons];split<;>simp only[Ar]<;>omega
theorem ok_init {p:SPage} (h:szPage p≤2000000):okAll p 2000000 1100000000 10000000:=by
 have h1:=Ad AL p.slots
 have h2:=Ad Ar p.mods
 have h3:=und_le p.slots
 have h4:=undM_le p.mods
 have h5:=nrL_le p.ran p.mods
 have h6:=Ad szNode p.builder.nodes
 simp only[szPage,AJ,szBuilder] at h
 refine⟨⟨fun t ht=>?_,by omega⟩,⟨?_,?_⟩,⟨?_,fun s hs=>?_⟩,⟨?_,?_,?_,fun m hm=>?_⟩,?_,?_⟩
 ·have:=szL_mem Af ht;omega
 ·unfold nodeP;omega
 ·unfold openP;omega
 ·unfold slotP;omega
 ·have:=szL_mem AL hs;simp only[AL] at this;omega
 ·unfold entP;omega
 ·unfold modP;omega
 ·unfold ranP;omega
 ·have:=szL_mem Ar hm;simp only[Ar] at this;omega
 ·unfold okLg logP;omega
 ·unfold okCm;omega
theorem ok_arrive {p:SPage} {Q M R:Nat} {s:ByteArray} (h:okAll p Q M R) (hs:p.tok.rest.size+s.size≤3000000):okAll (arriveText p s) (Q+3000001) M R∧(arriveText p s).tok.rest.size≤p.tok.rest.size+s.size+1:=by
 unfold arriveText
 split
 ·exact⟨okAll_mono h (by omega),by omega⟩
 ·obtain⟨h1,h2,h3,h4,h5,h6⟩:=h
  have hz:=feedAll_sz (p.tok.rest++s)
  rw[ByteArray.size_append] at hz
  refine⟨⟨⟨fun t ht=>?_,?_⟩,h2,h3,h4,h5,?_⟩,?_⟩
  ·rcases List.mem_append.1 ht with q|q
   ·exact h1.1 t q
   ·have:=szL_mem Af q;omega
  ·dsimp only
   rw[szL_app]
   have:=h1.2;omega
  ·unfold okCm at *;dsimp only;omega
  ·dsimp only;omega
theorem ok_end {p:SPage} {Q M R:Nat} (h:okAll p Q M R) (hs:p.tok.rest.size≤3000010):okAll (endPage p) (Q+3000020) M R∧(endPage p).tok.rest.size≤p.tok.rest.size:=by
 unfold endPage
 split
 ·exact⟨okAll_mono h (by omega),Nat.le_refl _⟩
 ·obtain⟨h1,h2,h3,h4,h5,h6⟩:=h
  have hz:=endText_sz p.tok.rest
  have h0:(default:STokenizer).rest.size=0:=rfl
  refine⟨⟨⟨fun t ht=>?_,?_⟩,h2,h3,h4,h5,?_⟩,?_⟩
  ·rcases List.mem_append.1 ht with q|q
   ·exact h1.1 t q
   ·have:=szL_mem Af q;omega
  ·dsimp only
   rw[szL_app]
   have:=h1.2;omega
  ·unfold okCm at *;dsimp only;omega
  ·dsimp only;omega
theorem ok_arr {l:SLoader} {Q M R:Nat} (h:okAll l.page Q M R) (hs:l.page.tok.rest.size+(l.parts.getD 0 default).size≤3000000):okAll (arriveText l.page (l.parts.getD 0 default)) (Q+3000001) M R∧okAll (arrPage l) (Q+6000021) M R∧(arrPage l).tok.rest.size≤l.page.tok.rest.size+(l.parts.getD 0 default).size+1:=by
 have h1:=ok_arrive h hs
 unfold arrPage
 split
 ·have h2:=ok_end h1.1 (by omega)
  exact⟨h1.1,okAll_mono h2.1 (by omega),by omega⟩
 ·exact⟨h1.1,okAll_mono h1.1 (by omega),h1.2⟩
theorem okAll_pg {p:SPage} {Q M R:Nat} (h:okAll p Q M R) (hQ:Q≤900000000000) (hM:M≤50000000000) (hR:R≤20000000000):szPage p≤1000000000000:=(okAll_tail h hQ hM hR).1.1.1
def okLd (l:SLoader):Prop:=∃ Q M R,okAll l.page Q M R∧Q≤890000000000∧M≤50000000000∧R≤20000000000
def okArr (l:SLoader):Prop:=(szNet l.net≤68719476736∧l.conns.length≤1048576∧l.guesses.length≤1048576)∧l.page.tok.rest.size+szL Ac l.parts≤2900000∧okLd l
theorem okArr_go {l:SLoader} (h:okArr l) (hl:l.parts.length≠0):szPage l.page≤1000000000000∧l.page.tok.rest.size≤10000000∧(l.parts.getD 0 default).size≤10000000∧szPage (arriveText l.page (l.parts.getD 0 default))≤1000000000000∧okAdv (arrPage l):=by
 obtain⟨h1,h2,Q,M,R,h3,h4,h5,h6⟩:=h
 have hg:=Dk Ac (l:=l.parts) (i:=0) (by omega)
 simp only[Ac] at hg
 obtain⟨a1,a2,a3⟩:=ok_arr h3 (by omega)
 exact⟨okAll_pg h3 (by omega) h5 h6,by omega,by omega,okAll_pg a1 (by omega) h5 h6,Q+6000021,M,R,a2,by omega,h5,h6⟩
theorem arr_yes {l:SLoader} (h:l.parts.length≠0):arrivePart l=({ l with parts:=l.parts.drop 1,page:=advance (arrPage l)},true):=by unfold arrivePart;rw[if_neg h]
theorem arr_no {l:SLoader} (h:l.parts.length=0):arrivePart l=(l,false):=by unfold arrivePart;rw[if_pos h]
theorem arr_end {l:SLoader} (h:l.parts.length=1):arrPage l=endPage (arriveText l.page (l.parts.getD 0 default)):=by unfold arrPage;rw[if_pos h]
theorem arr_mid {l:SLoader} (h:l.parts.length≠1):arrPage l=arriveText l.page (l.parts.getD 0 default):=by unfold arrPage;rw[if_neg h]
theorem cutDrop1 {α:Type} {l:List α}:cut l 1 (l.length-1)=l.drop 1:=by
 unfold cut;rw[List.take_of_length_le (by simp)]
def Be:Fct:=⟨[.v (.el .loader)],[.el .loader,.el .bool],fun(x_:SLoader×Unit)=>okArr x_.1,fun(x_:SLoader×Unit)=>((arrivePart x_.1).1,(arrivePart x_.1).2,())⟩
theorem k5_279:Be.ok Tryz.prog 5:=Fct.o (KP [1,2,3,4,5] [11,27]) Abl.2 Tryz.func5 (by
 rintro⟨(l:SLoader),_⟩ hp
 refine ho (.cl BH (l,()) fun z2=>.br ((↑l.parts.length:Int)==0) (.lf Be (z2.1,false,())) (.ob ((0:Int)≤(0:Int)∧(0:Int)<(↑l.parts.length:Int))<|.cl A7 (l.page,l.parts.getD 0 default,()) fun z3=>.ob ((0:Int)≤(1:Int)∧(1:Int)≤(↑z2.1.parts.length:Int))<|.br ((↑(z2.1.parts.length-1):Int)==0) (.cl CF (z3.1,()) fun z4=>.cl BZ (z4.1,()) fun z5=>.ob (1+(z2.1.parts.length-1)≤z2.1.parts.length)<|.lf Be (⟨z2.1.net,z5.1,cut z2.1.parts 1 (z2.1.parts.length-1),z2.1.conns,z2.1.guesses⟩,true,())) (.cl BZ (z3.1,()) fun z6=>.ob (1+(z2.1.parts.length-1)≤z2.1.parts.length)<|.lf Be (⟨z2.1.net,z6.1,cut z2.1.parts 1 (z2.1.parts.length-1),z2.1.conns,z2.1.guesses⟩,true,())))) ?_
 refine Ae ?_ fun o1=>(Ab (fun h2=>lfY ?_) (fun h2=>Aa ?_ fun o3=>Ae ?_ fun o4=>(Aa ?_ fun o5=>Ab (fun h6=>Ae ?_ fun o7=>(Ae ?_ fun o8=>(Aa ?_ fun o9=>lfY ?_))) (fun h6=>Ae ?_ fun o10=>(Aa ?_ fun o11=>lfY ?_)))))
 all_goals have hq:okArr l:=hp
 all_goals obtain⟨hsz1,hsz2,hsz3⟩:=hq.1
 all_goals
  have hpg:szPage l.page≤1000000000000:=by(obtain⟨Q,M,R,h1,h2,h3,h4⟩:=hq.2.2;exact okAll_pg h1 (by omega) h3 h4)
  have hpl:l.parts.length≤2900000:=by(have h1:=hq.2.1;have:=Ad Ac l.parts;omega)
  try simp only[AH] at *
  try simp only[BZ,Be,A7,BH,CF,std,Nat.reduceAdd,BH,A7,CF,BZ] at *
 all_goals first|trivial|omega|(rw[arr_no (by omega)];exact⟨rfl,rfl⟩)|(obtain⟨g1,g2,g3,g4,g5⟩:=okArr_go hq (by omega))|skip
 all_goals first|trivial|omega|exact⟨g1,g2,g3⟩|skip
 all_goals first|(rw[arr_end (by omega)] at g5;first|exact g5|(rw[arr_yes (by omega),arr_end (by omega),cutDrop1];exact⟨rfl,rfl⟩))|(rw[arr_mid (by omega)] at g5;first|exact g5|(rw[arr_yes (by omega),arr_mid (by omega),cutDrop1];exact⟨rfl,rfl⟩)))
def Aaw:=Abl.a k5_279
def opWords:List ByteArray:=[⟨#[]⟩,⟨#[119,114,105,116,101]⟩,⟨#[97,100,100]⟩,⟨#[99,111,117,110,116]⟩,⟨#[108,111,111,107]⟩,⟨#[115,97,121]⟩]
def opW (n:Int):ByteArray:=if 1≤n∧n≤5 then opWords.getD n.toNat default else⟨#[]⟩
theorem opW_at {n:Int} (h:1≤n) (h2:n≤5):opW n=opWords.getD n.toNat default:=by unfold opW;rw[if_pos ⟨h,h2⟩]
def Fw:Fct:=⟨[.v (.el .int)],[.el .str],fun(x_:Int×Unit)=>True,fun(x_:Int×Unit)=>(opW x_.1,())⟩
theorem k295_280:Fw.ok Tryz.prog 295:=Fct.o (KP [0,2] [5]) Aaw.2 Tryz.func295 (by
 rintro⟨(n:Int),_⟩ hp
 refine ho (.cl fInRange (n,(1:Int),(5:Int),()) fun z2=>.br (!z2.1) (.lf Fw ((⟨#[]⟩:ByteArray),())) (.ob (0≤wr (n-(1:Int))∧wr (n-(1:Int))<5)<|.ob ((wr (n-(1:Int))).toNat<5)<|.lf Fw ([(⟨#[119,114,105,116,101]⟩:ByteArray),(⟨#[97,100,100]⟩:ByteArray),(⟨#[99,111,117,110,116]⟩:ByteArray),(⟨#[108,111,111,107]⟩:ByteArray),(⟨#[115,97,121]⟩:ByteArray)].getD (wr (n-(1:Int))).toNat default,()))) ?_
 refine Ae trivial fun _=>(Ab (fun h1=>lfY ?_) (fun h1=>Aa ?_ fun o2=>Aa ?_ fun o3=>lfY ?_))
 all_goals
  try simp only[AH] at *
  try simp only[fInRange,Fw,std,Nat.reduceAdd,fInRange,inRange] at *
  try simp only[Bool.and_eq_true,Bool.and_eq_false_iff,decide_eq_true_eq,decide_eq_false_iff_not] at *
 all_goals first|trivial|omega|(unfold opW;rw[if_neg (by omega)])|(rw[An (by omega)];omega)|skip
 all_goals rw[An (by omega),opW_at (by omega) (by omega)]
 all_goals rcases(show n=1∨n=2∨n=3∨n=4∨n=5 by omega) with rfl|rfl|rfl|rfl|rfl<;>rfl)
def Abe:=Aaw.a k295_280
theorem cutS_sz (b:UInt8) (s:ByteArray):(Dy b s).1.size≤s.size∧(Dy b s).2.1.size≤s.size:=by
 unfold Dy
 cases h:Dr b (toL s) with
 | none=>exact⟨Nat.le_refl _,Nat.zero_le _⟩
 | some r=>
  have:=cutF_len (p:=r.1) (q:=r.2) h
  rw[Bg] at this
  exact⟨by dsimp only;rw[DQ];exact this.1,by dsimp only;rw[DQ];exact this.2⟩
theorem cutF_iff {b:UInt8}:∀ {l p q:List UInt8},Dr b l=some (p,q)→l=p++b::q∧b∉p
 | [],p,q,h=>by cases h
 | x::l,p,q,h=>by
  rw[Dr] at h
  split at h
  ·rename_i hx
   obtain⟨rfl,rfl⟩:=Prod.mk.inj (Option.some.inj h)
   exact⟨by rw[hx];rfl,by simp⟩
  ·rename_i hx
   obtain⟨r,hr,he⟩:=Option.map_eq_some_iff.1 h
   obtain⟨rfl,rfl⟩:=Prod.mk.inj he
   obtain⟨h1,h2⟩:=cutF_iff (p:=r.1) (q:=r.2) hr
   refine⟨by rw[h1];rfl,?_⟩
   rw[List.mem_cons]
   rintro(h|h)
   ·exact hx h.symm
   ·exact h2 h
theorem toL_inj {a b:ByteArray} (h:toL a=toL b):a=b:=by rw[←CO a,h,CO]
theorem opW_pre {x s:ByteArray} (hx:(32:UInt8)∉toL x):(((x++⟨#[32]⟩).size≤s.size∧s.extract 0 (x++⟨#[32]⟩).size=x++⟨#[32]⟩)↔(Dy 32 s).2.2=true∧(Dy 32 s).1=x)∧((Dy 32 s).2.2=true∧(Dy 32 s).1=x→(Dy 32 s).2.1=s.extract (x++⟨#[32]⟩).size s.size):=by
 have e32:toL (x++⟨#[32]⟩)=toL x++[32]:=by rw[NJ];rfl
 have hsz:(x++⟨#[32]⟩).size=(toL x).length+1:=by rw[ByteArray.size_append];rfl
 have fwd:((x++⟨#[32]⟩).size≤s.size∧s.extract 0 (x++⟨#[32]⟩).size=x++⟨#[32]⟩)→Dr 32 (toL s)=some (toL x,(toL s).drop ((toL x).length+1)):=by
  rintro⟨h1,h2⟩
  have h3:=congrArg toL h2
  rw[AO,List.drop_zero,e32,hsz] at h3
  have h4:=(List.take_append_drop ((toL x).length+1) (toL s)).symm
  rw[h3,List.append_assoc,List.singleton_append] at h4
  have h5:=I7 (p:=toL x) ((toL s).drop ((toL x).length+1)) hx
  rw[←h4] at h5
  exact h5
 refine⟨⟨fun h=>?_,fun h=>?_⟩,fun h=>?_⟩
 ·have:=fwd h
  unfold Dy
  rw[this]
  exact⟨rfl,CO x⟩
 ·unfold Dy at h
  cases hc:Dr 32 (toL s) with
  | none=>rw[hc] at h;exact absurd h.1 Bool.false_ne_true
  | some r=>
   obtain⟨p,q⟩:=r
   rw[hc] at h
   have hp:ofL p=x:=h.2
   obtain⟨h1,h2⟩:=cutF_iff hc
   have hpx:p=toL x:=by rw[←hp,GB]
   rw[hpx] at h1
   have hl:s.size=(toL x).length+(q.length+1):=by rw[←Bg,h1,List.length_append,List.length_cons]
   refine⟨by rw[hsz];omega,?_⟩
   refine toL_inj ?_
   rw[AO,List.drop_zero,e32,hsz,h1,List.take_append,List.take_of_length_le (by omega),show(toL x).length+1-(toL x).length=1 by omega]
   rfl
 ·unfold Dy at h ⊢
  cases hc:Dr 32 (toL s) with
  | none=>rw[hc] at h;exact absurd h.1 Bool.false_ne_true
  | some r=>
   obtain⟨p,q⟩:=r
   rw[hc] at h
   have hp:ofL p=x:=h.2
   obtain⟨h1,h2⟩:=cutF_iff hc
   have hpx:p=toL x:=by rw[←hp,GB]
   rw[hpx] at h1
   rw[hsz,←extFrom,h1,List.drop_append,List.drop_of_length_le (by omega),List.nil_append,show(toL x).length+1-(toL x).length=1 by omega]
   rfl
def pline (s:ByteArray):SLine×Bool:=if(line8 s).2=true then((line8 s).1,true) else(default,false)
def plOk (k:Int) (t:ByteArray):Bool:=if k=1∨k=5 then decide (t.size≤60) else isName t
theorem plOk_free {k:Int} {t:ByteArray} (h:k=1∨k=5):plOk k t=decide (t.size≤60):=by unfold plOk;rw[if_pos h]
theorem plOk_name {k:Int} {t:ByteArray} (h:¬ (k=1∨k=5)):plOk k t=isName t:=by unfold plOk;rw[if_neg h]
def plineL (c:ByteArray×ByteArray×Bool):List ByteArray→Int→SLine×Bool
 | [],_=>(default,false)
 | x::l,k=>if x=c.1 then(if c.2.2=true∧plOk k c.2.1=true then(⟨k,c.2.1⟩,true) else(default,false)) else plineL c l (k+1)
theorem plineL_ok (s:ByteArray):∀ (l:List ByteArray) (k:Int),(∀ x,x∈l→(32:UInt8)∉toL x)→plineL (Dy 32 s) l k=if(line8L s (l.map fun x=>x++⟨#[32]⟩) k).2=true then((line8L s (l.map fun x=>x++⟨#[32]⟩) k).1,true) else(default,false)
 | [],k,_=>rfl
 | x::l,k,h=>by
  have hx:=h x List.mem_cons_self
  obtain⟨h1,h2⟩:=opW_pre (s:=s) hx
  have ih:=plineL_ok s l (k+1) fun y hy=>h y (List.mem_cons_of_mem _ hy)
  rw[plineL,List.map_cons,line8L]
  by_cases hc:(Dy 32 s).2.2=true∧(Dy 32 s).1=x
  ·rw[if_pos hc.2.symm,if_pos (h1.2 hc),←h2 hc]
   have hl:(Dy 32 s).2.1.size=s.size-(x++⟨#[32]⟩).size:=by rw[h2 hc,ByteArray.size_extract];have:=(h1.2 hc).1;omega
   dsimp only
   have hb:(if k=1∨k=5 then decide (s.size-(x++⟨#[32]⟩).size≤60) else isName (Dy 32 s).2.1)=plOk k (Dy 32 s).2.1:=by unfold plOk;rw[hl]
   rw[hb]
   by_cases hk:plOk k (Dy 32 s).2.1=true
   ·rw[if_pos ⟨hc.1,hk⟩,if_pos hk]
   ·rw[if_neg (fun q=>hk q.2),if_neg hk]
  ·rw[if_neg (fun q=>hc (h1.1 q))]
   by_cases hw:x=(Dy 32 s).1
   ·rw[if_pos hw,if_neg (fun q=>hc ⟨q.1,hw.symm⟩)]
    have hno:(Dy 32 s).2.2=false:=by
     cases hb:(Dy 32 s).2.2 with
     | false=>rfl
     | true=>exact absurd ⟨hb,hw.symm⟩ hc
    have hall:∀ (l:List ByteArray) (k:Int),(∀ x,x∈l→(32:UInt8)∉toL x)→(line8L s (l.map fun x=>x++⟨#[32]⟩) k).2=false:=by
     intro l
     induction l with
     | nil=>intro k _;rfl
     | cons y l ih=>
      intro k hy
      rw[List.map_cons,line8L,if_neg]
      ·exact ih _ fun z hz=>hy z (List.mem_cons_of_mem _ hz)
      ·intro q
       have:=((opW_pre (s:=s) (hy y List.mem_cons_self)).1.1 q).1
       rw[hno] at this;cases this
    rw[if_neg (by rw[hall l _ fun y hy=>h y (List.mem_cons_of_mem _ hy)];decide)]
   ·rw[if_neg hw];exact ih
theorem pline_eq (s:ByteArray):plineL (Dy 32 s) (opWords.drop 1) 1=pline s:=by
 rw[plineL_ok s _ _ (by decide)];rfl
theorem plineL_at {c:ByteArray×ByteArray×Bool} {i:Nat} {k:Int} (h:i<opWords.length):plineL c (opWords.drop i) k=if opWords.getD i default=c.1 then(if c.2.2=true∧plOk k c.2.1=true then(⟨k,c.2.1⟩,true) else(default,false)) else plineL c (opWords.drop (i+1)) (k+1):=by rw[drop_cons h];rfl
theorem plineL_end {c:ByteArray×ByteArray×Bool} {i:Nat} {k:Int} (h:opWords.length≤i):plineL c (opWords.drop i) k=(default,false):=by rw[List.drop_of_length_le h];rfl
theorem opWords_len:opWords.length=6:=rfl
def Df:Fct:=⟨[.v (.el .str)],[.el .line,.el .bool],fun(x_:ByteArray×Unit)=>x_.1.size≤4200000000,fun(x_:ByteArray×Unit)=>((pline x_.1).1,(pline x_.1).2,())⟩
abbrev B4 (s:ByteArray):LInv:=⟨[⟨.s,7,true,.el .int⟩,⟨.b,2,true,.el .line⟩],fun(z_:Int×SLine×Unit) (x_:Int×SLine×Unit)=>(1≤x_.1∧x_.1≤6∧plineL (Dy 32 s) (opWords.drop x_.1.toNat) x_.1=pline s)∧x_.2.1=z_.2.1,fun(x_:Int×SLine×Unit)=>(6-x_.1).toNat⟩
theorem k263_281:Df.ok Tryz.prog 263:=Fct.p (KP [0,2,3,4,5,6,7,8] [16,22,47]) (fun⟨s,_⟩=>lv [(3,B4 s)]) Abe.2 Tryz.func263 (by
 rintro⟨(s:ByteArray),_⟩ hp
 refine ho (.cl Nn (s,(⟨#[32]⟩:ByteArray),()) fun z2=>lpx (B4 s) ((1:Int),(default,())) fun(y2:Int×SLine×PUnit) bk2=>.br (decide (y2.1≤5)) (.cl Fw (y2.1,()) fun z3=>.br (!z3.1.toList==z2.1.toList) (.ob (Value.string s=Value.string s)<|.ob (Value.string z2.1=Value.string z2.1)<|.ob (Value.string z2.2.1=Value.string z2.2.1)<|.ob (Value.bool z2.2.2.1=Value.bool z2.2.2.1)<|.ob (bk2 (w1 y2.1,(y2.2.1,())))<|.ok) (.br (y2.1==1) (.br (!z2.2.2.1) (.lf Df (default,false,())) (.br (decide ((↑z2.2.1.size:Int)>60)) (.lf Df (default,false,())) (.br (!true) (.cl fIsName (z2.2.1,()) fun z4=>.br (!z4.1) (.lf Df (default,false,())) (.lf Df (⟨y2.1,z2.2.1⟩,true,()))) (.lf Df (⟨y2.1,z2.2.1⟩,true,()))))) (.br (!z2.2.2.1) (.lf Df (default,false,())) (.br (y2.1==5) (.br (decide ((↑z2.2.1.size:Int)>60)) (.lf Df (default,false,())) (.br (!y2.1==5) (.cl fIsName (z2.2.1,()) fun z5=>.br (!z5.1) (.lf Df (default,false,())) (.lf Df (⟨y2.1,z2.2.1⟩,true,()))) (.lf Df (⟨y2.1,z2.2.1⟩,true,())))) (.br (!y2.1==5) (.cl fIsName (z2.2.1,()) fun z6=>.br (!z6.1) (.lf Df (default,false,())) (.lf Df (⟨y2.1,z2.2.1⟩,true,()))) (.lf Df (⟨y2.1,z2.2.1⟩,true,()))))))) (.lf Df (default,false,()))) ?_
 refine Ae ?_ fun o1=>(AG ?_ fun(y2:Int×SLine×PUnit) i2=>Ab (fun h3=>Ae trivial fun _=>(Ab (fun h4=>Aa rfl fun _=>Aa rfl fun _=>Aa rfl fun _=>Aa rfl fun _=>Aa ?_ fun o5=>trivial) (fun h4=>Ab (fun h6=>Ab (fun h7=>lfY ?_) (fun h7=>Ab (fun h8=>lfY ?_) (fun h8=>Ab (fun h9=>Ae ?_ fun o10=>(Ab (fun h11=>lfY ?_) (fun h11=>lfY ?_))) (fun h9=>lfY ?_)))) (fun h6=>Ab (fun h12=>lfY ?_) (fun h12=>Ab (fun h13=>Ab (fun h14=>lfY ?_) (fun h14=>Ab (fun h15=>Ae ?_ fun o16=>(Ab (fun h17=>lfY ?_) (fun h17=>lfY ?_))) (fun h15=>lfY ?_))) (fun h13=>Ab (fun h18=>Ae ?_ fun o19=>(Ab (fun h20=>lfY ?_) (fun h20=>lfY ?_))) (fun h18=>lfY ?_))))))) (fun h3=>lfY ?_))
 all_goals
  try simp only[AH] at *
  try simp only[B4,Nn,fIsName,Fw,Df,std,Nat.reduceAdd,Nn,Fw,fIsName] at *
  try simp only[show(#[32]:Array UInt8).getD 0 0=32 from rfl] at *
 all_goals first|trivial|omega|exact⟨by omega,by omega,pline_eq s⟩|(obtain⟨⟨a1,a2,a3⟩,e1⟩:=i2)
 all_goals have hcs:=cutS_sz 32 s
 all_goals generalize Dy 32 s=c at *
 all_goals first|omega|skip
 all_goals first|(have e:=plineL_at (c:=c) (i:=y2.1.toNat) (k:=y2.1) (by rw[opWords_len];omega);rw[a3,←opW_at (by omega) (by omega)] at e;first|rw[if_pos (by assumption)] at e|rw[if_neg (by assumption)] at e)|(have e:=plineL_end (c:=c) (i:=y2.1.toNat) (k:=y2.1) (by rw[opWords_len];omega);rw[a3] at e)
 all_goals first|(rw[e];exact⟨rfl,rfl⟩)|(rw[An (by omega),show(y2.1+1).toNat=y2.1.toNat+1 by omega];exact⟨⟨⟨by omega,by omega,e.symm⟩,e1⟩,by omega⟩)|skip
 all_goals first|(rw[if_pos ⟨by assumption,by first|(rw[plOk_free (by omega)];exact decide_eq_true (by omega))|(rw[plOk_name (by omega)];assumption)⟩] at e;rw[e];exact⟨rfl,rfl⟩)|(rw[if_neg (by rintro⟨q1,q2⟩;first|exact tf q1 (by assumption)|(rw[plOk_free (by omega)] at q2;have:=of_decide_eq_true q2;omega)|(rw[plOk_name (by omega)] at q2;exact tf q2 (by assumption)))] at e;rw[e];exact⟨rfl,rfl⟩)|skip)
def ZL:=Abe.a k263_281
theorem pline_ok {s:ByteArray} (h:(pline s).2=true):pline s=((line8 s).1,true)∧(line8 s).2=true:=by
 unfold pline at h ⊢
 split at h
 ·rename_i hc;rw[if_pos hc];exact⟨rfl,hc⟩
 ·cases h
theorem pline_no {s:ByteArray} (h:(pline s).2=false):(line8 s).2=false:=by
 unfold pline at h
 split at h
 ·cases h
 ·rename_i hc;simpa using hc
abbrev Ba (s:ByteArray):LInv:=⟨[⟨.s,4,true,.sl .line⟩,⟨.s,16,true,.el .int⟩,⟨.s,14,true,.sl .str⟩],fun(z_:(List SLine)×Int×(List ByteArray)×Unit) (x_:(List SLine)×Int×(List ByteArray)×Unit)=>(0≤x_.2.1∧x_.2.1≤(spl 59 s).length∧(spl 59 s).length<1000000000000∧x_.1=lines8 ((spl 59 s).take x_.2.1.toNat)∧allOk8 ((spl 59 s).take x_.2.1.toNat)=true∧x_.2.1≤6)∧x_.2.2.1=z_.2.2.1,fun(x_:(List SLine)×Int×(List ByteArray)×Unit)=>(spl 59 s).length-x_.2.1.toNat⟩
theorem k224_282:Am.ok Tryz.prog 224:=Fct.p (KP [0,2,3,4,6,7,8,14,15,16] [10,17,31]) (fun⟨s,_⟩=>lv [(5,Ba s)]) ZL.2 Tryz.func224 (by
 rintro⟨(s:ByteArray),_⟩ hp
 refine ho (.br (s.toList==(⟨#[]⟩:ByteArray).toList) (.lf Am ([],true,())) (.cl DM (s,(⟨#[59]⟩:ByteArray),()) fun z2=>lpx (Ba s) ([],((0:Int),(z2.1,()))) fun(y3:List SLine×Int×List ByteArray×PUnit) bk3=>.br (decide (y3.2.1<(↑z2.1.length:Int))) (.ob (inB y3.2.1 y3.2.2.1.length)<|.ob (y3.2.1.toNat<y3.2.2.1.length)<|.cl Df (y3.2.2.1.getD y3.2.1.toNat default,()) fun z3=>.br (!z3.2.1) (.lf Am ([],false,())) (.br ((↑y3.1.length:Int)==6) (.lf Am ([],false,())) (.ob (True)<|.ob (Bi (y3.1.length+[z3.1].length) 24)<|.ob (Value.string s=Value.string s)<|.ob (Value.int IntKind.i64 (↑z2.1.length:Int)=Value.int IntKind.i64 (↑z2.1.length:Int))<|.ob (bk3 (y3.1++[z3.1],(w1 y3.2.1,(y3.2.2.1,()))))<|.ok))) (.lf Am (y3.1,true,())))) ?_
 refine Ab (fun h1=>lfY ?_) (fun h1=>Ae ?_ fun o2=>(AG ?_ fun(y3:List SLine×Int×List ByteArray×PUnit) i3=>Ab (fun h4=>Aa ?_ fun o5=>Aa ?_ fun o6=>Ae ?_ fun o7=>(Ab (fun h8=>lfY ?_) (fun h8=>Ab (fun h9=>lfY ?_) (fun h9=>Aa trivial fun _=>Aa ?_ fun o10=>Aa rfl fun _=>Aa rfl fun _=>Aa ?_ fun o11=>trivial)))) (fun h4=>lfY ?_)))
 all_goals
  have hp1:s.size≤4200000000:=hp
  have hk:=DH 59 s
  have hm:∀ i,i<(spl 59 s).length→((spl 59 s).getD i default).size≤s.size:=fun i h=>FM (getD_in h)
  try simp only[AH] at *
  try simp only[Ba,Am,Df,DM,std,Nat.reduceAdd,Df,DM] at *
  try simp only[show(#[59]:Array UInt8).getD 0 0=59 from rfl] at *
 all_goals first|trivial|omega|(unfold parseScript;rw[if_pos (by assumption)];exact⟨rfl,rfl⟩)|exact⟨by omega,by omega,by omega,rfl,rfl,by omega⟩|(obtain⟨⟨a1,a2,a3,a4,a5,a6⟩,e1⟩:=i3;simp only[e1] at *)
 all_goals try have hl:y3.1.length=y3.2.1.toNat:=by rw[a4,lines8,List.length_map,List.length_take];omega
 all_goals first|trivial|omega|(have:=hm y3.2.1.toNat (by omega);omega)|skip
 all_goals first|(unfold parseScript;rw[if_neg (by assumption),if_neg (by rintro⟨q1,q2⟩;first|omega|(rw[allOk8_no (i:=y3.2.1.toNat) (by omega) (pline_no (by assumption))] at q2;cases q2))];exact⟨rfl,rfl⟩)|skip
 all_goals first|(rw[List.take_of_length_le (l:=spl 59 s) (i:=y3.2.1.toNat) (by omega)] at a4 a5;unfold parseScript;rw[if_neg (by assumption),if_pos (by exact⟨by omega,a5⟩)];exact⟨a4,rfl⟩)|skip
 all_goals (obtain⟨e,ho⟩:=pline_ok (s:=(spl 59 s).getD y3.2.1.toNat default) (by assumption);have e2:=lines8_snoc (l:=spl 59 s) (i:=y3.2.1.toNat) (by omega);rw[An (by omega),show(y3.2.1+1).toNat=y3.2.1.toNat+1 by omega,e];simp only[and_true];exact⟨⟨by omega,by omega,by omega,by rw[e2.1,a4],by rw[e2.2,a5,ho];rfl,by omega⟩,by omega⟩))
def Aa8:=ZL.a k224_282
def hasPre (s p:ByteArray):Bool:=decide (p.size≤s.size∧s.extract 0 p.size=p)
def fHasPre:Fct:=⟨[.v (.el .str),.v (.el .str)],[.el .bool],fun(x_:ByteArray×ByteArray×Unit)=>x_.1.size≤1000000000000∧x_.2.1.size≤1000000000000,fun(x_:ByteArray×ByteArray×Unit)=>(hasPre x_.1 x_.2.1,())⟩
theorem k290_283:fHasPre.ok Tryz.prog 290:=Fct.o [0,1,4] Aa8.2 Tryz.func290 (by
 rintro⟨(s:ByteArray),(p:ByteArray),_⟩ hp
 refine ho (.br (decide ((↑(ByteArray.size s):Int)≥(↑(ByteArray.size p):Int))) (.ob ((0:Int)≤(↑(ByteArray.size p):Int)∧(↑(ByteArray.size p):Int)≤(↑(ByteArray.size s):Int))<|.lf fHasPre ((ByteArray.extract s 0 (↑(ByteArray.size p):Int).toNat).toList==ByteArray.toList p,())) (.lf fHasPre (false,()))) ?_
 refine Ab (fun h1=>Aa ?_ fun o2=>lfY ?_) (fun h1=>lfY ?_)
 all_goals
  try simp only[AH] at *
  try simp only[fHasPre,std,Nat.reduceAdd,hasPre] at *
  try simp(disch:=omega) only[wrapId',toNat1] at *
  try simp(disch:=omega) only[if_pos,if_neg]
 all_goals first|trivial|omega|grind[wrapId',toNat1,drop_cons,drop_end,good_len,maxLen,hasPre])
def Aa3:=Aa8.a k290_283
def cutPre (s p:ByteArray):ByteArray×Bool:=if hasPre s p=true then(s.extract p.size s.size,true) else(s,false)
def fCutPre:Fct:=⟨[.v (.el .str),.v (.el .str)],[.el .str,.el .bool],fun(x_:ByteArray×ByteArray×Unit)=>x_.1.size≤1000000000000∧x_.2.1.size≤1000000000000,fun(x_:ByteArray×ByteArray×Unit)=>((cutPre x_.1 x_.2.1).1,(cutPre x_.1 x_.2.1).2,())⟩
theorem k257_284:fCutPre.ok Tryz.prog 257:=Fct.o (KP [0,1,4,5] [9]) Aa3.2 Tryz.func257 (by
 rintro⟨(s:ByteArray),(p:ByteArray),_⟩ hp
 refine ho (.cl fHasPre (s,p,()) fun z2=>.br (!z2.1) (.lf fCutPre (s,false,())) (.ob ((0:Int)≤(↑(ByteArray.size p):Int)∧(↑(ByteArray.size p):Int)≤(↑(ByteArray.size s):Int))<|.lf fCutPre (ByteArray.extract s (↑(ByteArray.size p):Int).toNat (ByteArray.size s),true,()))) ?_
 refine Ae ?_ fun o1=>(Ab (fun h2=>lfY ?_) (fun h2=>Aa ?_ fun o3=>lfY ?_))
 all_goals
  have h:hasPre s p=true→p.size≤s.size:=fun h=>(of_decide_eq_true h).1
  try simp only[AH] at *
  try simp only[fCutPre,fHasPre,std,Nat.reduceAdd,cutPre,fHasPre] at *
  try simp(disch:=omega) only[wrapId',toNat1] at *
  try simp(disch:=omega) only[if_pos,if_neg]
 all_goals first|trivial|omega|grind[wrapId',toNat1,drop_cons,drop_end,good_len,maxLen,cutPre,fHasPre])
def AbX:=Aa3.a k257_284
theorem k218_285:fCutPre.ok Tryz.prog 218:=Fct.o [0,1,4,5] AbX.2 Tryz.func218 (by
 rintro⟨(s:ByteArray),(p:ByteArray),_⟩ hp
 refine ho (.cl fCutPre (s,p,()) fun z2=>.lf fCutPre (z2.1,z2.2.1,())) ?_
 refine Ae ?_ fun o1=>(lfY ?_)
 all_goals
  try simp only[AH] at *
  try simp only[fCutPre,std,Nat.reduceAdd,fCutPre] at *
  try simp(disch:=omega) only[wrapId',toNat1] at *
  try simp(disch:=omega) only[if_pos,if_neg]
 all_goals first|trivial|omega|grind[wrapId',toNat1,drop_cons,drop_end,good_len,maxLen,fCutPre])
def Aae:=AbX.a k218_285
theorem cutPre_imp (w:ByteArray):cutPre w impW=if hasImp w then(w.extract 7 w.size,true) else(w,false):=by
 unfold cutPre hasPre
 by_cases h:hasImp w
 ·rw[if_pos h,decide_eq_true (show impW.size≤w.size∧w.extract 0 impW.size=impW from h),if_pos rfl];rfl
 ·rw[if_neg h,decide_eq_false (show ¬ (impW.size≤w.size∧w.extract 0 impW.size=impW) from h),if_neg (by decide)]
theorem gl_join:∀ l:List ByteArray,HZ l ⟨#[59]⟩=gl59 l
 | []=>rfl
 | [w]=>by show ofL (toL w)=w;exact CO w
 | w::x::l=>by
  have ih:=gl_join (x::l)
  unfold HZ at ih ⊢
  rw[gl59,←ih]
  show ofL (toL w++[59]++Oo [59] ((x::l).map toL))=_
  rw[Fm,Fm,CO];rfl
theorem gl_sz:∀ l:List ByteArray,(gl59 l).size≤szL Ac l
 | []=>Nat.le_refl _
 | [w]=>by rw[szL_cons];show w.size≤w.size+1+0;omega
 | w::x::l=>by
  have ih:=gl_sz (x::l)
  rw[gl59,szL_cons,ByteArray.size_append,ByteArray.size_append]
  have h1:ByteArray.size ⟨#[59]⟩=1:=rfl
  simp only[Ac] at *;omega
theorem szL_drop1 {α:Type} [Inhabited α] (f:α→Nat) {l:List α} (h:0<l.length):szL f l=f (l.getD 0 default)+1+szL f (l.drop 1):=by
 have:=szL_at f h
 rw[List.drop_zero] at this;exact this
def pmInv (s b:ByteArray) (ps:List ByteArray) (im:List SAddr):Prop:=pmGo b ps im=parseModule s b∧szL Ac ps+im.length≤s.size+1
theorem pmInv_0 (s b:ByteArray):pmInv s b (spl 59 s) []:=⟨rfl,by rw[szL_spl];exact Nat.le_refl _⟩
theorem pmInv_go {s b:ByteArray} {ps:List ByteArray} {im:List SAddr} (h:pmInv s b ps im) (h0:0<ps.length) (hi:hasImp (ps.getD 0 default)) (ha:(parseAddr ((ps.getD 0 default).extract 7 (ps.getD 0 default).size) b).2=true):pmInv s b (ps.drop 1) (im++[(parseAddr ((ps.getD 0 default).extract 7 (ps.getD 0 default).size) b).1]):=by
 obtain⟨h1,h2⟩:=h
 have e:ps=ps.getD 0 default::ps.drop 1:=by
  have:=drop_cons (l:=ps) (i:=0) h0
  rw[List.drop_zero] at this;exact this
 rw[szL_drop1 Ac h0] at h2
 rw[e,pmGo,if_pos hi,if_pos ha] at h1
 exact⟨h1,by rw[List.length_append,List.length_singleton];omega⟩
theorem pmInv_bad {s b:ByteArray} {ps:List ByteArray} {im:List SAddr} (h:pmInv s b ps im) (h0:0<ps.length) (hi:hasImp (ps.getD 0 default)) (ha:(parseAddr ((ps.getD 0 default).extract 7 (ps.getD 0 default).size) b).2=false):parseModule s b=([],[],false):=by
 have e:ps=ps.getD 0 default::ps.drop 1:=by
  have:=drop_cons (l:=ps) (i:=0) h0
  rw[List.drop_zero] at this;exact this
 rw[←h.1,e,pmGo,if_pos hi,if_neg (by rw[ha];decide)]
theorem pmInv_end {s b:ByteArray} {ps:List ByteArray} {im:List SAddr} (h:pmInv s b ps im) (h0:ps.length=0∨¬ hasImp (ps.getD 0 default)):parseModule s b=if(parseScript (gl59 ps)).2=true then(im,(parseScript (gl59 ps)).1,true) else([],[],false):=by
 rw[←h.1]
 cases ps with
 | nil=>rw[pmGo];show _=if(parseScript ⟨#[]⟩).2=true then _ else _;rw[parse_empty,if_pos rfl];show _=(im,(parseScript ⟨#[]⟩).1,true);rw[parse_empty]
 | cons w l=>
  rcases h0 with h0|h0
  ·cases h0
  ·rw[pmGo,if_neg (show ¬ hasImp w from h0)]
theorem impW_def:(⟨#[105,109,112,111,114,116,32]⟩:ByteArray)=impW:=rfl
abbrev Bb (s:ByteArray) (b:ByteArray):LInv:=⟨[⟨.s,7,true,.sl .str⟩,⟨.s,8,true,.sl .addr⟩],fun _ (x_:(List ByteArray)×(List SAddr)×Unit)=>pmInv s b x_.1 x_.2.1,fun(x_:(List ByteArray)×(List SAddr)×Unit)=>x_.1.length⟩
theorem k234_286:Al.ok Tryz.prog 234:=Fct.p (KP [0,1,4,5,6,7,8,9,10,11,12,13,14] [20,29,37,53]) (fun⟨s,b,_⟩=>lv [(3,Bb s b)]) Aae.2 Tryz.func234 (by
 rintro⟨(s:ByteArray),(b:ByteArray),_⟩ hp
 refine ho (.cl DM (s,(⟨#[59]⟩:ByteArray),()) fun z2=>lpx (Bb s b) (z2.1,([],())) fun(y2:List ByteArray×List SAddr×PUnit) bk2=>.br (decide ((↑y2.1.length:Int)>0)) (.ob ((0:Int)≤(0:Int)∧(0:Int)<(↑y2.1.length:Int))<|.ob (0<y2.1.length)<|.cl fCutPre (y2.1.getD 0 default,(⟨#[105,109,112,111,114,116,32]⟩:ByteArray),()) fun z3=>.br (!z3.2.1) (.cl NW (y2.1,(⟨#[59]⟩:ByteArray),()) fun z4=>.cl Am (z4.1,()) fun z5=>.br (!z5.2.1) (.lf Al ([],[],false,())) (.lf Al (y2.2.1,z5.1,true,()))) (.cl Aq (z3.1,b,()) fun z6=>.br (!z6.2.1) (.lf Al ([],[],false,())) (.ob (True)<|.ob (Bi (y2.2.1.length+[z6.1].length) 32)<|.ob ((0:Int)≤(1:Int)∧(1:Int)≤(↑y2.1.length:Int))<|.ob (1+(y2.1.length-1)≤y2.1.length)<|.ob (Value.string s=Value.string s)<|.ob (Value.string b=Value.string b)<|.ob (bk2 (cut y2.1 1 (y2.1.length-1),(y2.2.1++[z6.1],())))<|.ok))) (.cl NW (y2.1,(⟨#[59]⟩:ByteArray),()) fun z7=>.cl Am (z7.1,()) fun z8=>.br (!z8.2.1) (.lf Al ([],[],false,())) (.lf Al (y2.2.1,z8.1,true,())))) ?_
 refine Ae ?_ fun o1=>(AG ?_ fun(y2:List ByteArray×List SAddr×PUnit) i2=>Ab (fun h3=>Aa ?_ fun o4=>Aa ?_ fun o5=>Ae ?_ fun o6=>(Ab (fun h7=>Ae ?_ fun o8=>(Ae ?_ fun o9=>(Ab (fun h10=>lfY ?_) (fun h10=>lfY ?_)))) (fun h7=>Ae ?_ fun o11=>(Ab (fun h12=>lfY ?_) (fun h12=>Aa trivial fun _=>Aa ?_ fun o13=>Aa ?_ fun o14=>Aa ?_ fun o15=>Aa rfl fun _=>Aa rfl fun _=>Aa ?_ fun o16=>trivial))))) (fun h3=>Ae ?_ fun o17=>(Ae ?_ fun o18=>(Ab (fun h19=>lfY ?_) (fun h19=>lfY ?_)))))
 all_goals
  have hp1:s.size≤4000000000∧b.size≤4000000000:=hp
  try simp only[AH] at *
  try simp only[Bb,fCutPre,NW,Aq,Al,Am,DM,std,Nat.reduceAdd,DM,fCutPre,Aq,Am,NW] at *
 all_goals first|trivial|omega|skip
 all_goals try simp only[show(#[59]:Array UInt8).getD 0 0=59 from rfl,impW_def,gl_join,cutDrop1,cutPre_imp] at *
 all_goals first|omega|exact pmInv_0 s b|(have hz:=i2.2;have hgl:=gl_sz y2.1;have hlen:=Ad Ac y2.1)
 all_goals try (have hw:=Dk Ac (l:=y2.1) (i:=0) (by omega);simp only[Ac] at hw)
 all_goals by_cases hi:hasImp (y2.1.getD 0 default)
 all_goals first|simp only[if_pos hi,reduceCtorEq] at * | simp only[if_neg hi,reduceCtorEq] at * | skip
 all_goals
  try contradiction
  try have hxx:((y2.1.getD 0 default).extract 7 (y2.1.getD 0 default).size).size≤4000000000:=by(rw[ByteArray.size_extract];omega)
 all_goals first|omega|exact⟨by omega,by omega⟩|exact⟨by omega,by decide⟩|skip
 all_goals first|(rw[pmInv_bad i2 (by omega) hi (by assumption)];exact⟨rfl,rfl,rfl⟩)|(rw[pmInv_end i2 (by first|exact .inl (by omega)|exact .inr hi)];(first|rw[if_pos (by assumption)]|rw[if_neg (by intro q;exact tf q (by assumption))]);exact⟨rfl,by first|rfl|assumption,rfl⟩)|exact⟨pmInv_go i2 (by omega) hi (by assumption),by rw[List.length_drop];omega⟩)
def Zx:=Aae.a k234_286
theorem imports_yes {p:SPage} {a:SAddr} (h:0≤findMod p.mods a) (h1:(p.mods.getD (findMod p.mods a).toNat default).done=true) (h2:(p.mods.getD (findMod p.mods a).toNat default).code=1):imports p a=((parseModule (p.mods.getD (findMod p.mods a).toNat default).body a.host).1,(parseModule (p.mods.getD (findMod p.mods a).toNat default).body a.host).2.2):=by
 unfold imports;rw[if_neg];rintro(q|q|q)
 ·omega
 ·exact tf h1 q
 ·exact q h2
theorem imports_yes1 {p:SPage} {a:SAddr} (h:0≤findMod p.mods a) (h1:(p.mods.getD (findMod p.mods a).toNat default).done=true) (h2:(p.mods.getD (findMod p.mods a).toNat default).code=1):(parseModule (p.mods.getD (findMod p.mods a).toNat default).body a.host).1=(imports p a).1:=by rw[imports_yes h h1 h2]
theorem imports_no {p:SPage} {a:SAddr} (h:findMod p.mods a<0∨(p.mods.getD (findMod p.mods a).toNat default).done=false∨¬ (p.mods.getD (findMod p.mods a).toNat default).code=1):imports p a=([],false):=by unfold imports;rw[if_pos h]
theorem visit_one {p:SPage} {a:SAddr} {s o:List SAddr} (h:inL s a=false) (hi:(imports p a).1=[]):visit p a (s,o)=(s++[a],o++[a]):=by
 rw[visit_no (st:=(s,o)) h,hi];rfl
def C4:GS:=⟨[.l (.v (.el .page)),.l (.v (.el .addr)),.b (.sl .addr),.b (.sl .addr)],[],fun(x_:SPage×SAddr×(List SAddr)×(List SAddr)×Unit)=>okVis x_.1 x_.2.1 x_.2.2.1 x_.2.2.2.1,fun(x_:SPage×SAddr×(List SAddr)×(List SAddr)×Unit)=>((()),((visit x_.1 x_.2.1 (x_.2.2.1,x_.2.2.2.1)).1,(visit x_.1 x_.2.1 (x_.2.2.1,x_.2.2.2.1)).2,()))⟩
abbrev Bw (p:SPage) (a:SAddr) (s:(List SAddr)) (o:(List SAddr)):LInv:=⟨[⟨.s,64,true,.el .int⟩,⟨.b,2,true,.sl .addr⟩,⟨.b,3,true,.sl .addr⟩,⟨.b,4,false,.el .page⟩,⟨.b,5,true,.el .addr⟩,⟨.s,62,true,.sl .addr⟩],fun(z_:Int×(List SAddr)×(List SAddr)×SPage×SAddr×(List SAddr)×Unit) (x_:Int×(List SAddr)×(List SAddr)×SPage×SAddr×(List SAddr)×Unit)=>(((visInv p a s o x_.2.1 x_.2.2.1 x_.1)∧x_.2.2.2.1=z_.2.2.2.1)∧x_.2.2.2.2.1=z_.2.2.2.2.1)∧x_.2.2.2.2.2.1=z_.2.2.2.2.2.1,fun(x_:Int×(List SAddr)×(List SAddr)×SPage×SAddr×(List SAddr)×Unit)=>(imports p a).1.length-x_.1.toNat⟩
theorem k271_287:C4.ok Tryz.prog 271:=GS.ofRec (S:=C4) (L:=fun⟨p,a,s,o,_⟩=>fun|7=>some (Bw p a s o)|_=>none) (kp:=[2,3,4,5,8,9,13,18,48,62,63,64,65,1000018,1000048,1000065]) mVis Zx.2 Tryz.func271 (by kernel_rfl) (by kernel_rfl) (by
 intro n0;rintro⟨(p:SPage),(a:SAddr),(s:List SAddr),(o:List SAddr),_⟩ hp hm
 refine ho (.cl BL (s,a,()) fun z2=>.br (z2.1) (GS.out C4 ((()),(s,o,()))) (.ob (True)<|.ob (Bi (s.length+[a].length) 32)<|.cl Cf (p,a,()) fun(z3:Int×PUnit)=>.br (decide (z3.1≥0)) (.ob (inB z3.1 p.mods.length)<|.br ((p.mods.getD z3.1.toNat default).done) (.ob (inB z3.1 p.mods.length)<|.br ((p.mods.getD z3.1.toNat default).code==1) (.ob (inB z3.1 p.mods.length)<|.cl Al ((p.mods.getD z3.1.toNat default).body,a.host,()) fun z4=>lpx (Bw p a s o) ((0:Int),(s++[a],(o,(p,(a,(z4.1,())))))) fun(y12:Int×List SAddr×List SAddr×SPage×SAddr×List SAddr×PUnit) bk12=>.br (decide (y12.1<(↑z4.1.length:Int))) (.ob (inB y12.1 y12.2.2.2.2.2.1.length)<|.ob (y12.1.toNat<y12.2.2.2.2.2.1.length)<|.ob (C4.pre (y12.2.2.2.1,y12.2.2.2.2.2.1.getD y12.1.toNat default,y12.2.1,y12.2.2.1,())∧mVis (y12.2.2.2.1,y12.2.2.2.2.2.1.getD y12.1.toNat default,y12.2.1,y12.2.2.1,())<n0)<|.lt _ (C4.fn (y12.2.2.2.1,y12.2.2.2.2.2.1.getD y12.1.toNat default,y12.2.1,y12.2.2.1,())) fun z5=>.ob (Value.int IntKind.i64 z3.1=Value.int IntKind.i64 z3.1)<|.ob (Value.int IntKind.i64 (↑z4.1.length:Int)=Value.int IntKind.i64 (↑z4.1.length:Int))<|.ob (bk12 (w1 y12.1,(z5.2.1,(z5.2.2.1,(y12.2.2.2.1,(y12.2.2.2.2.1,(y12.2.2.2.2.2.1,())))))))<|.ok) (.ob (True)<|.ob (Bi (y12.2.2.1.length+[y12.2.2.2.2.1].length) 32)<|GS.out C4 ((()),(y12.2.1,y12.2.2.1++[y12.2.2.2.2.1],())))) (.ob (True)<|.ob (Bi (o.length+[a].length) 32)<|GS.out C4 ((()),(s++[a],o++[a],())))) (.ob (True)<|.ob (Bi (o.length+[a].length) 32)<|GS.out C4 ((()),(s++[a],o++[a],())))) (.ob (True)<|.ob (Bi (o.length+[a].length) 32)<|GS.out C4 ((()),(s++[a],o++[a],()))))) ?_
 refine Ae ?_ fun o1=>(Ab (fun h2=>GS.leafY ?_) (fun h2=>Aa trivial fun _=>Aa ?_ fun o3=>Ae ?_ fun o4=>(Ab (fun h5=>Aa ?_ fun o6=>Ab (fun h7=>Aa ?_ fun o8=>Ab (fun h9=>Aa ?_ fun o10=>Ae ?_ fun o11=>(AG ?_ fun(y12:Int×List SAddr×List SAddr×SPage×SAddr×List SAddr×PUnit) i12=>Ab (fun h13=>Aa ?_ fun o14=>Aa ?_ fun o15=>Aa ?_ fun o16=>Co (Aa rfl fun _=>Aa rfl fun _=>Aa ?_ fun o17=>trivial)) (fun h13=>Aa trivial fun _=>Aa ?_ fun o18=>GS.leafY ?_))) (fun h9=>Aa trivial fun _=>Aa ?_ fun o19=>GS.leafY ?_)) (fun h7=>Aa trivial fun _=>Aa ?_ fun o20=>GS.leafY ?_)) (fun h5=>Aa trivial fun _=>Aa ?_ fun o21=>GS.leafY ?_))))
 all_goals have hq:okVis p a s o:=hp
 all_goals obtain⟨p1,p2,p3,p4,p5⟩:=(show okVis p a s o from hp)
 all_goals
  have hsl:s.length≤100000000000:=by(simp only[totV] at p4;omega)
  have hil:=imports_len a p2
  have hfm:=findMod_in p.mods a
  try simp only[AH] at *
  try simp only[Bw,BL,Cf,Al,C4,std,Nat.reduceAdd,BL,Cf,Al,fm_def,inL_def] at *
 all_goals first|trivial|omega|skip
 all_goals first|(rw[visit_yes (by assumption)];exact⟨rfl,rfl⟩)|exact⟨p2 _ (by omega),p3⟩|skip
 all_goals first|(have hI1:=imports_yes1 (p:=p) (a:=a) (by omega) (by assumption) (by assumption))|(have hI2:(imports p a).1=[]:=by rw[imports_no (by first|exact .inl (by omega)|exact .inr (.inl (by assumption))|exact .inr (.inr (by assumption)))])
 all_goals first|(rw[visit_one (by assumption) hI2];exact⟨rfl,rfl⟩)|exact visInv_0 p a s o p5|(obtain⟨⟨⟨i1,e1⟩,e2⟩,e3⟩:=i12;simp only[e1,e2,e3,hI1] at *)
 all_goals
  have i2:=i1.1
  have i3:=visInv_len i1 hq
 all_goals first|trivial|omega|exact⟨i2,by assumption⟩|skip
 all_goals first|exact⟨(visInv_pre i1 (by assumption) (by assumption) hq).1,Nat.lt_of_lt_of_le (visInv_pre i1 (by assumption) (by assumption) hq).2 (Nat.le_of_lt_succ hm)⟩|(rw[An (by omega)];simp only[and_true];exact⟨visInv_go i1 (by assumption),by omega⟩)|(rw[←visInv_end i1 (by omega) (by assumption)];exact⟨rfl,rfl⟩))
def Abs:=Zx.G k271_287
theorem k229_288:A2.ok Tryz.prog 229:=Fct.o [2,3,4,5,6] Abs.2 Tryz.func229 (by
 rintro⟨(p:SPage),(a:SAddr),_⟩ hp
 refine ho (.ob (C4.pre (p,a,[],[],()))<|.lt _ (C4.fn (p,a,[],[],())) fun z2=>.lf A2 (z2.2.2.1,())) ?_
 refine Aa ?_ fun o1=>Co (lfY ?_)
 all_goals
  try simp only[AH] at *
  try simp only[A2,C4,std,Nat.reduceAdd,C4] at *
 all_goals first|assumption|rfl|skip)
def Aal:=Abs.a k229_288
abbrev Bm (p:SPage) (a:SAddr):LInv:=⟨[⟨.s,12,true,.el .int⟩,⟨.b,2,false,.el .page⟩,⟨.s,10,true,.sl .addr⟩],fun(z_:Int×SPage×(List SAddr)×Unit) (x_:Int×SPage×(List SAddr)×Unit)=>((0≤x_.1∧x_.1≤(reachOf p a).length∧((reachOf p a).drop x_.1.toNat).all (fun b=>decide (0≤findMod p.mods b)&&(p.mods.getD (findMod p.mods b).toNat default).done)=graphReady p a)∧x_.2.1=z_.2.1)∧x_.2.2.1=z_.2.2.1,fun(x_:Int×SPage×(List SAddr)×Unit)=>(reachOf p a).length-x_.1.toNat⟩
theorem k166_289:AW.ok Tryz.prog 166:=Fct.p (KP [2,3,4,6,7,10,11,12] [13,29]) (fun⟨p,a,_⟩=>lv [(2,Bm p a)]) Aal.2 Tryz.func166 (by
 rintro⟨(p:SPage),(a:SAddr),_⟩ hp
 refine ho (.cl A2 (p,a,()) fun z2=>lpx (Bm p a) ((0:Int),(p,(z2.1,()))) fun(y2:Int×SPage×List SAddr×PUnit) bk2=>.br (decide (y2.1<(↑z2.1.length:Int))) (.ob (inB y2.1 y2.2.2.1.length)<|.ob (y2.1.toNat<y2.2.2.1.length)<|.cl Cf (y2.2.1,y2.2.2.1.getD y2.1.toNat default,()) fun(z3:Int×PUnit)=>.br (decide (z3.1<0)) (.lf AW (false,())) (.ob (inB z3.1 y2.2.1.mods.length)<|.br (!(y2.2.1.mods.getD z3.1.toNat default).done) (.lf AW (false,())) (.ob (Value.int IntKind.i64 (↑z2.1.length:Int)=Value.int IntKind.i64 (↑z2.1.length:Int))<|.ob (bk2 (w1 y2.1,(y2.2.1,(y2.2.2.1,()))))<|.ok))) (.lf AW (true,()))) ?_
 refine Ae ?_ fun o1=>(AG ?_ fun(y2:Int×SPage×List SAddr×PUnit) i2=>Ab (fun h3=>Aa ?_ fun o4=>Aa ?_ fun o5=>Ae ?_ fun o6=>(Ab (fun h7=>lfY ?_) (fun h7=>Aa ?_ fun o8=>Ab (fun h9=>lfY ?_) (fun h9=>Aa rfl fun _=>Aa ?_ fun o10=>trivial)))) (fun h3=>lfY ?_))
 all_goals obtain⟨p1,p2,p3,p4,p5⟩:=(show okVis p a [] [] from hp)
 all_goals
  have hl:=reach_len (a:=a) p4
  try simp only[AH] at *
  try simp only[Bm,AW,Cf,A2,std,Nat.reduceAdd,A2,Cf,fm_def] at *
 all_goals first|trivial|omega|exact⟨p1,p2,p3,p4,p5⟩|exact⟨by omega,by omega,rfl⟩|skip
 all_goals (obtain⟨⟨⟨i0,i1,i3⟩,e1⟩,e2⟩:=i2;simp only[e1,e2] at *)
 all_goals have hf:=findMod_in p.mods ((reachOf p a).getD y2.1.toNat default)
 all_goals first|assumption|omega|skip
 all_goals first|(rw[all_end (by omega)] at i3;exact i3)|rw[all_at (by omega)] at i3
 all_goals first|(rw[←i3,decide_eq_false (by omega)];rfl)|(rw[←i3,decide_eq_true (by omega),show SModule.done _=false by assumption];rfl)|(rw[decide_eq_true (by omega),show SModule.done _=true by assumption,Bool.true_and,Bool.true_and] at i3;rw[An (by omega),show(y2.1+1).toNat=y2.1.toNat+1 by omega];simp only[and_true];exact⟨⟨by omega,by omega,i3⟩,by omega⟩))
def AaH:=Aal.a k166_289
abbrev Bo (p:SPage) (a:SAddr):LInv:=⟨[⟨.s,15,true,.el .int⟩,⟨.b,2,false,.el .page⟩,⟨.s,13,true,.sl .addr⟩],fun(z_:Int×SPage×(List SAddr)×Unit) (x_:Int×SPage×(List SAddr)×Unit)=>((0≤x_.1∧x_.1≤(reachOf p a).length∧((reachOf p a).drop x_.1.toNat).any (fun b=>!(imports p b).2)=graphFails p a)∧x_.2.1=z_.2.1)∧x_.2.2.1=z_.2.2.1,fun(x_:Int×SPage×(List SAddr)×Unit)=>(reachOf p a).length-x_.1.toNat⟩
theorem k231_290:AR.ok Tryz.prog 231:=Fct.p (KP [2,3,4,6,7,10,13,14,15] [16,41,56]) (fun⟨p,a,_⟩=>lv [(2,Bo p a)]) AaH.2 Tryz.func231 (by
 rintro⟨(p:SPage),(a:SAddr),_⟩ hp
 refine ho (.cl A2 (p,a,()) fun z2=>lpx (Bo p a) ((0:Int),(p,(z2.1,()))) fun(y2:Int×SPage×List SAddr×PUnit) bk2=>.br (decide (y2.1<(↑z2.1.length:Int))) (.ob (inB y2.1 y2.2.2.1.length)<|.ob (y2.1.toNat<y2.2.2.1.length)<|.cl Cf (y2.2.1,y2.2.2.1.getD y2.1.toNat default,()) fun(z3:Int×PUnit)=>.br (decide (z3.1<0)) (.lf AR (true,())) (.ob (inB z3.1 y2.2.1.mods.length)<|.br (!(y2.2.1.mods.getD z3.1.toNat default).done) (.lf AR (true,())) (.ob (inB z3.1 y2.2.1.mods.length)<|.br ((y2.2.1.mods.getD z3.1.toNat default).code != 1) (.lf AR (true,())) (.ob (inB z3.1 y2.2.1.mods.length)<|.cl Al ((y2.2.1.mods.getD z3.1.toNat default).body,(y2.2.2.1.getD y2.1.toNat default).host,()) fun z4=>.br (!z4.2.2.1) (.lf AR (true,())) (.ob (Value.int IntKind.i64 (↑z2.1.length:Int)=Value.int IntKind.i64 (↑z2.1.length:Int))<|.ob (bk2 (w1 y2.1,(y2.2.1,(y2.2.2.1,()))))<|.ok))))) (.lf AR (false,()))) ?_
 refine Ae ?_ fun o1=>(AG ?_ fun(y2:Int×SPage×List SAddr×PUnit) i2=>Ab (fun h3=>Aa ?_ fun o4=>Aa ?_ fun o5=>Ae ?_ fun o6=>(Ab (fun h7=>lfY ?_) (fun h7=>Aa ?_ fun o8=>Ab (fun h9=>lfY ?_) (fun h9=>Aa ?_ fun o10=>Ab (fun h11=>lfY ?_) (fun h11=>Aa ?_ fun o12=>Ae ?_ fun o13=>(Ab (fun h14=>lfY ?_) (fun h14=>Aa rfl fun _=>Aa ?_ fun o15=>trivial))))))) (fun h3=>lfY ?_))
 all_goals obtain⟨p1,p2,p3,p4,p5⟩:=(show okVis p a [] [] from hp)
 all_goals
  have hl:=reach_len (a:=a) p4
  try simp only[AH] at *
  try simp only[Bo,AR,Cf,Al,A2,std,Nat.reduceAdd,A2,Cf,Al,fm_def] at *
 all_goals first|trivial|omega|exact⟨p1,p2,p3,p4,p5⟩|exact⟨by omega,by omega,rfl⟩|skip
 all_goals (obtain⟨⟨⟨i0,i1,i3⟩,e1⟩,e2⟩:=i2;simp only[e1,e2] at *)
 all_goals have hf:=findMod_in p.mods ((reachOf p a).getD y2.1.toNat default)
 all_goals first|assumption|omega|exact⟨p2 _ (by omega),reach_host (getD_in (by omega)) p3⟩|skip
 all_goals first|(rw[any_end (by omega)] at i3;exact i3)|rw[any_at (by omega)] at i3
 all_goals first|(rw[imports_no (by first|exact .inl (by omega)|exact .inr (.inl (by assumption))|exact .inr (.inr (by assumption)))] at i3;rw[←i3];rfl)|(rw[imports_yes (by omega) (by assumption) (by assumption)] at i3;first|(rw[←i3];dsimp only;rw[show Prod.snd (Prod.snd (parseModule _ _))=false by assumption];rfl)|(dsimp only at i3;rw[show Prod.snd (Prod.snd (parseModule _ _))=true by assumption,Bool.not_true,Bool.false_or] at i3;rw[An (by omega),show(y2.1+1).toNat=y2.1.toNat+1 by omega];simp only[and_true];exact⟨⟨by omega,by omega,i3⟩,by omega⟩)))
def Acf:=AaH.a k231_290
open Go.RowKit Go.Lib Go.Sort in
theorem m_disable (w:World):(callFunc 385 #[]).run Tryz.prog w=.ok (.value (.tuple #[])) w:=run_call_mark0 Tryz.func385 (by kernel_rfl) (by kernel_rfl) (by kernel_rfl) .disable (by kernel_rfl) w
open Go.RowKit Go.Lib Go.Sort in
theorem m_enable (w:World):(callFunc 387 #[]).run Tryz.prog w=.ok (.value (.tuple #[])) w:=run_call_mark0 Tryz.func387 (by kernel_rfl) (by kernel_rfl) (by kernel_rfl) .enable (by kernel_rfl) w
open Go.RowKit Go.Lib Go.Sort in
theorem m_acquire (a:Addr) (w:World):(callFunc 388 #[.pointer (some a)]).run Tryz.prog w=.ok (.value (.tuple #[])) w:=run_call_marked Tryz.func388 (by kernel_rfl) (by kernel_rfl) (by kernel_rfl) .acquire (by kernel_rfl) a w
open Go.RowKit Go.Lib Go.Sort in
theorem m_release (a:Addr) (w:World):(callFunc 390 #[.pointer (some a)]).run Tryz.prog w=.ok (.value (.tuple #[])) w:=run_call_marked Tryz.func390 (by kernel_rfl) (by kernel_rfl) (by kernel_rfl) .releaseMerge (by kernel_rfl) a w
open Go.RowKit Go.Lib Go.Sort in
theorem m_store (a:Addr) (x:Value) (u:FrameMode) (w:World) (hc:w.cell? a=some x) (hz:w.frozen? a=false) :
 CallsD Tryz.prog 362 #[.pointer (some a),.bool true] u w fun e u' w'=>u'=u∧(e=.returned (.tuple #[])∧w'=w.drew.setCell a (.int .u32 1)):=by
 have hc':w.drew.cell? a=some x:=by go_simp
 have hz':w.drew.frozen? a=false:=by go_simp
 have hst:=run_call_store (P:=Tryz.prog) Tryz.func374 (by kernel_rfl) (by kernel_rfl) (by kernel_rfl) (by kernel_rfl) (k:=.u32) (y:=1) hc' hz'
 go_enter_d Tryz.func362,Tryz.ntmps362
 go_wp2
 go_region_calls
 all_goals (go_end0;exact⟨rfl,rfl⟩)
open Go.RowKit Go.Lib Go.Sort in
theorem m_unlock (a:Addr) (u:FrameMode) (w:World) (hc:w.cell? a=some (.int .i32 1)) (hz:w.frozen? a=false) :
 CallsD Tryz.prog 361 #[.pointer (some a)] u w fun e u' w'=>u'=u∧(e=.returned (.tuple #[])∧w'=w.setCell a (.int .i32 0)):=by
 have hd:=m_disable
 have he:=m_enable
 have hr:=m_release
 have hadd:=run_call_add (P:=Tryz.prog) Tryz.func391 (by kernel_rfl) (by kernel_rfl) (by kernel_rfl) .i32 (by kernel_rfl) (y:=-1) (s:=0) hc hz (by simp[go_sem];rfl)
 have hcv:=run_convert_to_unsafe (P:=Tryz.prog) (src:=462) (dst:=378) Tryz.underlying462 Tryz.underlying378 (by kernel_rfl) hc
 go_enter_d Tryz.func361,Tryz.ntmps361
 go_wp2
 try go_end0
 go_wp2
 all_goals (try go_end0)
 all_goals exact⟨rfl,rfl⟩
open Go.RowKit Go.Lib Go.Sort in
theorem m_lock (a:Addr) (w:World) (hc:w.cell? a=some (.int .i32 0)) (hz:w.frozen? a=false) :
 Calls Tryz.prog 360 #[.pointer (some a)] w fun e w'=>e=.returned (.tuple #[])∧w'=w.setCell a (.int .i32 1):=by
 have hd:=m_disable
 have he:=m_enable
 have ha:=m_acquire
 have hcas:=run_call_cas_hit (P:=Tryz.prog) Tryz.func386 (by kernel_rfl) (by kernel_rfl) (by kernel_rfl) .i32 (by kernel_rfl) (y:=1) hc hz
 have hc':(w.setCell a (.int .i32 1)).cell? a=some (.int .i32 1):=World.cell?_setCell_same w a _ hc
 have hcv:=run_convert_to_unsafe (P:=Tryz.prog) (src:=462) (dst:=378) Tryz.underlying462 Tryz.underlying378 (by kernel_rfl) hc'
 go_enter Tryz.func360,Tryz.ntmps360
 go_wp2
 first|go_end0|(simp only[Exit.inBlock,Exit.then];refine bodyPost_ret (results_none rfl _ _ _) rfl ?_)|refine bodyPost_ret (results_none rfl _ _ _) rfl ?_
 go_wp2
 all_goals (try go_end0)
 all_goals exact⟨rfl,rfl⟩
open Go.RowKit Go.Lib Go.Sort in
theorem m_zero:Tryz.zeroCells422=Array.replicate 256 (.int .u8 0):=by kernel_rfl
open Go.RowKit Go.Lib Go.Sort in
theorem m_zst (w:World):(storeCells ⟨w.heap.size,0,none⟩ Tryz.zeroCells422.toList 0).run Tryz.prog (w.alloc (.cells Tryz.zeroCells422 422))=.ok () (w.alloc (.cells Tryz.zeroCells422 422)):=run_storeCells_new (P:=Tryz.prog) w 422 Tryz.zeroCells422 Tryz.zeroCells422 (by kernel_rfl) rfl (by kernel_rfl)
open Go.RowKit Go.Lib Go.Sort in
theorem m_build (b c cap:Nat) (w:World) (h4:w.cell? ⟨b,4,none⟩=some (.slice (some ⟨c,0,none⟩) 4 cap)) (c0:w.cell? ⟨c,0,none⟩=some (.string ⟨#[91]⟩)) (c1:w.cell? ⟨c,1,none⟩=some (.string ⟨#[60]⟩)) (c2:w.cell? ⟨c,2,none⟩=some (.string ⟨#[93]⟩)) (c3:w.cell? ⟨c,3,none⟩=some (.string ⟨#[62]⟩)) (hbw:b<w.heap.size) (hcw:c<w.heap.size) :
 Calls Tryz.prog 350 #[.pointer (some ⟨b,0,none⟩)] w fun e w'=>e=.returned (.iface 423 (.pointer (some ⟨w.heap.size,0,none⟩)))∧∃ r:Array Value,w'=w.alloc (.cells r 422)∧r.size=256∧∀ t:Nat,t<256→r[t]? = some (.int .u8 (if t=91 then 60 else if t=93 then 62 else t)):=by
 have hsc:=m_zst w
 have hcv:∀ (r:Array Value) (j:Nat),(w.alloc (.cells r 422)).cell? ⟨c,j,none⟩=w.cell? ⟨c,j,none⟩:=fun r j=>by rw[World.cell?_alloc_past _ _ _ hcw]
 go_enter Tryz.func350,Tryz.ntmps350
 go_wp2
 refine wp_loop_rounds 3 ?_
 repeat any_goals (rw[rounds_succ];go_wp2)
 go_loopw [61] (fun vi wr=>∃ (i:Nat) (r:Array Value),vi=.int .i64 i∧i≤256∧r.size=256∧wr=w.alloc (.cells r 422)∧∀ t:Nat,t<256→r[t]? = some (.int .u8 (if t<i then t else 0))) (fun vi _=>257-(RowKit.intOf vi).toNat)
 case atStart=>exact⟨0,Tryz.zeroCells422,rfl,by omega,by rw[m_zero];simp,rfl,fun t ht=>by rw[m_zero,Array.getElem?_replicate,if_pos ht,if_neg (by omega)]⟩
 case round=>
  obtain⟨i,r,rfl,hi,hs,rfl,hr⟩:=hrel
  by_cases h1:i<256
  ·have hcell:=Dn w r 422 i
   have hfz:=Jt w r 422 i
   rw[hr i h1,if_neg (by omega)] at hcell
   have hR:Hid (∀ t:Nat,t<256→r[t]? = some (.int .u8 (if t<i then t else 0))):=hr
   have hx:IntKind.u8.wrap (i:Int)=i:=by simp[IntKind.wrap,IntKind.bits,IntKind.signed];omega
   clear hr
   go_wp2
   case roundEnd=>
    refine⟨⟨i+1,r.setIfInBounds i (.int .u8 i),rfl,h1,by rw[Array.size_setIfInBounds,hs],by first|rfl|(rw[hx];exact K2 _ _ _ _ _),fun t ht=>?_⟩,by simp only[RowKit.intOf];omega⟩
    rw[Nc (by omega)]
    by_cases he:t=i
    ·subst he;rw[if_pos rfl,if_pos (by omega)]
    ·rw[if_neg he,hR.out t ht]
     by_cases h3:t<i
     ·rw[if_pos h3,if_pos (by omega)]
     ·rw[if_neg h3,if_neg (by omega)]
  ·have hie:i=256:=by omega
   subst hie
   have hR:Hid (∀ t:Nat,t<256→r[t]? = some (.int .u8 (if t<256 then t else 0))):=hr
   clear hr
   have d0:=(hcv r 0).trans c0
   have d1:=(hcv r 1).trans c1
   have d2:=(hcv r 2).trans c2
   have d3:=(hcv r 3).trans c3
   have q1:((⟨#[93]⟩:ByteArray)[0]'(by decide)).toNat=93:=rfl
   have q2:((⟨#[91]⟩:ByteArray)[0]'(by decide)).toNat=91:=rfl
   have q3:((⟨#[62]⟩:ByteArray)[0]'(by decide)).toNat=62:=rfl
   have q4:((⟨#[60]⟩:ByteArray)[0]'(by decide)).toNat=60:=rfl
   have f1:=Jt w r 422 93
   have e1:=Dn w r 422 93
   have s1:=K2 w r 422 93 (.int .u8 62)
   have f2:=Jt w (r.setIfInBounds 93 (.int .u8 62)) 422 91
   have e2:=Dn w (r.setIfInBounds 93 (.int .u8 62)) 422 91
   have s2:=K2 w (r.setIfInBounds 93 (.int .u8 62)) 422 91 (.int .u8 60)
   rw[hR.out 93 (by omega),if_pos (by omega)] at e1
   rw[Nc (by omega),if_neg (by omega),hR.out 91 (by omega),if_pos (by omega)] at e2
   have g0:=(hcv (r.setIfInBounds 93 (.int .u8 62)) 0).trans c0
   have g1:=(hcv (r.setIfInBounds 93 (.int .u8 62)) 1).trans c1
   go_wp2
   refine wp_loop_rounds 3 ?_
   repeat any_goals (rw[rounds_succ];go_wp2)
   refine bodyPost_ret (results_tmp rfl _ _ _) rfl ?_
   refine⟨rfl,_,rfl,by rw[Array.size_setIfInBounds,Array.size_setIfInBounds,hs],fun t ht=>?_⟩
   rw[Nc (by rw[Array.size_setIfInBounds];omega),Nc (by omega),hR.out t ht,if_pos ht]
   by_cases h9:t=91
   ·rw[if_pos h9,if_pos h9]
   ·rw[if_neg h9,if_neg h9]
    by_cases h3:t=93
    ·rw[if_pos h3,if_pos h3]
    ·rw[if_neg h3,if_neg h3]
open Go.RowKit Go.Lib Go.Sort in
def mrow (r:Array Value):Prop:=r.size=256∧∀ t:Nat,t<256→r[t]? = some (.int .u8 (if t=91 then 60 else if t=93 then 62 else t))
open Go.RowKit in
structure MRep (w:World) (b c cap:Nat):Prop where
 v0:w.cell? ⟨b,0,none⟩=some (.int .u32 0)
 v1:w.cell? ⟨b,1,none⟩=some (.int .i32 0)
 v3:w.cell? ⟨b,3,none⟩=some .nilIface
 v4:w.cell? ⟨b,4,none⟩=some (.slice (some ⟨c,0,none⟩) 4 cap)
 f0:w.frozen? ⟨b,0,none⟩=false
 f1:w.frozen? ⟨b,1,none⟩=false
 f3:w.frozen? ⟨b,3,none⟩=false
 f4:w.frozen? ⟨b,4,none⟩=false
 c0:w.cell? ⟨c,0,none⟩=some (.string ⟨#[91]⟩)
 c1:w.cell? ⟨c,1,none⟩=some (.string ⟨#[60]⟩)
 c2:w.cell? ⟨c,2,none⟩=some (.string ⟨#[93]⟩)
 c3:w.cell? ⟨c,3,none⟩=some (.string ⟨#[62]⟩)
 lb:b<w.heap.size
 lc:c<w.heap.size
 ne:¬ c=b
open Go.RowKit Go.Lib Go.Sort in
theorem m_once (b c cap:Nat) (w:World) (h3:∃ x,w.cell? ⟨b,3,none⟩=some x) (h4:w.cell? ⟨b,4,none⟩=some (.slice (some ⟨c,0,none⟩) 4 cap)) (f3:w.frozen? ⟨b,3,none⟩=false) (f4:w.frozen? ⟨b,4,none⟩=false) (c0:w.cell? ⟨c,0,none⟩=some (.string ⟨#[91]⟩)) (c1:w.cell? ⟨c,1,none⟩=some (.string ⟨#[60]⟩)) (c2:w.cell? ⟨c,2,none⟩=some (.string ⟨#[93]⟩)) (c3:w.cell? ⟨c,3,none⟩=some (.string ⟨#[62]⟩)) (hbw:b<w.heap.size) (hcw:c<w.heap.size) :
 Calls Tryz.prog 341 #[.pointer (some ⟨b,0,none⟩)] w fun e w'=>e=.returned (.tuple #[])∧∃ r:Array Value,w'=((w.setCell ⟨b,3,none⟩ (.iface 423 (.pointer (some ⟨w.heap.size,0,none⟩)))).setCell ⟨b,4,none⟩ (.slice none 0 0)).alloc (.cells r 422)∧mrow r:=by
 obtain⟨x,h3⟩:=h3
 have k3:∀ r,(w.alloc (.cells r 422)).cell? ⟨b,3,none⟩=some x:=fun r=>by rw[World.cell?_alloc_past _ _ _ hbw];exact h3
 have k4:∀ r,(w.alloc (.cells r 422)).cell? ⟨b,4,none⟩=some (.slice (some ⟨c,0,none⟩) 4 cap):=fun r=>by rw[World.cell?_alloc_past _ _ _ hbw];exact h4
 have g3:∀ r,(w.alloc (.cells r 422)).frozen? ⟨b,3,none⟩=false:=fun r=>by rw[World.frozen?_alloc_past _ _ _ hbw];exact f3
 have g4:∀ r,(w.alloc (.cells r 422)).frozen? ⟨b,4,none⟩=false:=fun r=>by rw[World.frozen?_alloc_past _ _ _ hbw];exact f4
 go_enter Tryz.func341,Tryz.ntmps341
 go_wp2_with (go_at_call 350;refine(m_build b c cap w h4 c0 c1 c2 c3 hbw hcw).mono ?_;rintro e w' ⟨rfl,r,rfl,hr⟩)
 go_wp2
 try go_end0
 exact⟨rfl,r,rfl,hr⟩
open Go.RowKit Go.Lib Go.Sort in
def mW (w:World) (b:Nat) (r:Array Value):World:=(((((w.setCell ⟨b,1,none⟩ (.int .i32 1)).setCell ⟨b,3,none⟩ (.iface 423 (.pointer (some ⟨w.heap.size,0,none⟩)))).setCell ⟨b,4,none⟩ (.slice none 0 0)).alloc (.cells r 422)).drew.setCell ⟨b,0,none⟩ (.int .u32 1)).setCell ⟨b,1,none⟩ (.int .i32 0)
open Go.RowKit Go.Lib Go.Sort in
theorem m_slow (b c cap:Nat) (w:World) (H:MRep w b c cap) :
 Calls Tryz.prog 349 #[.pointer (some ⟨b,0,none⟩),.func (.func 341) #[.pointer (some ⟨b,0,none⟩)] #[]] w fun e w'=>e=.returned (.tuple #[])∧∃ r:Array Value,mrow r∧w'=mW w b r:=by
 obtain⟨v0,v1,v3,v4,f0,f1,f3,f4,c0,c1,c2,c3,lb,lc,ne⟩:=H
 have oth:∀ (a:Addr) (v:Value) (d:Addr),d≠a→(w.setCell a v).cell? d=w.cell? d:=fun a v d h=>World.cell?_setCell_other _ a d v (fun e=>h e.symm)
 have n1:∀ j:Nat,(⟨c,j,none⟩:Addr)≠⟨b,1,none⟩:=fun j h=>ne (congrArg Addr.block h)
 have hl:=run_call_load (P:=Tryz.prog) Tryz.func359 (by kernel_rfl) (by kernel_rfl) (by kernel_rfl) .u32 (by kernel_rfl) (w:=w.setCell ⟨b,1,none⟩ (.int .i32 1)) (a:=⟨b,0,none⟩) (x:=0) ((oth _ _ _ (by simp)).trans v0)
 have hnot:∀ (x:Bool) (w:World),(Op.unary .not (.bool x)).run Tryz.prog w=.ok (.bool (!x)) w:=fun _ _=>rfl
 go_enter_defers Tryz.func349,Tryz.ntmps349
 have o1:∀ d:Addr,d≠⟨b,1,none⟩→(w.setCell ⟨b,1,none⟩ (.int .i32 1)).cell? d=w.cell? d:=fun d h=>oth _ _ d h
 have fz:∀ (v:Value) (d:Addr),(w.setCell ⟨b,1,none⟩ v).frozen? d=w.frozen? d:=fun v d=>World.frozen?_setCell _ _ _ _
 go_wp2_with (first
  | (go_at_call 360;refine(m_lock ⟨b,1,none⟩ _ (by go_simp) (by go_simp)).mono ?_;rintro e w' ⟨rfl,rfl⟩)
  | (go_at_call 348;go_in))
 refine(m_once b c cap (w.setCell ⟨b,1,none⟩ (.int .i32 1)) ⟨_,(o1 _ (by simp)).trans v3⟩ ((o1 _ (by simp)).trans v4) ((fz _ _).trans f3) ((fz _ _).trans f4) ((o1 _ (n1 0)).trans c0) ((o1 _ (n1 1)).trans c1) ((o1 _ (n1 2)).trans c2) ((o1 _ (n1 3)).trans c3) (by rw[World.size_setCell];exact lb) (by rw[World.size_setCell];exact lc)).mono ?_
 rintro e w' ⟨rfl,r,rfl,hr⟩
 go_wp2
 refine leaves_cons (f:=362) (args := #[.pointer (some ⟨b,0,none⟩),.bool true]) (by simp) (by simp[go_sem]) ?_
 refine(m_store ⟨b,0,none⟩ (.int .u32 0) .returning _ ?_ (by rw[World.frozen?_alloc_past _ _ _ (by simpa using lb),World.frozen?_setCell,World.frozen?_setCell,World.frozen?_setCell];exact f0)).mono ?_
 ·rw[World.cell?_alloc_past _ _ _ (by simpa using lb),World.cell?_setCell_other _ _ _ _ (by simp),World.cell?_setCell_other _ _ _ _ (by simp),World.cell?_setCell_other _ _ _ _ (by simp)]
  exact v0
 rintro e u' w'' ⟨rfl,rfl,rfl⟩
 refine leaves_cons (f:=361) (args := #[.pointer (some ⟨b,1,none⟩)]) (by simp[settle]) (by simp[go_sem]) ?_
 refine(m_unlock ⟨b,1,none⟩ _ _ ?_ (by rw[World.frozen?_setCell,World.frozen?_drew,World.frozen?_alloc_past _ _ _ (by simpa using lb),World.frozen?_setCell,World.frozen?_setCell,World.frozen?_setCell];exact f1)).mono ?_
 ·rw[World.cell?_setCell_other _ _ _ _ (by simp),World.cell?_drew,World.cell?_alloc_past _ _ _ (by simpa using lb),World.cell?_setCell_other _ _ _ _ (by simp),World.cell?_setCell_other _ _ _ _ (by simp)]
  exact World.cell?_setCell_same w _ _ v1
 rintro e u' w'' ⟨rfl,rfl,rfl⟩
 simp[Leaves,settle,results,Tryz.results349]
 exact⟨r,hr,rfl⟩
open Go.RowKit Go.Lib Go.Sort in
theorem mk8_nat (x:UInt8):((mk8 x).toNat:Int)=(if x.toNat=91 then(60:Int) else if x.toNat=93 then 62 else(x.toNat:Int)):=by
 unfold mk8
 by_cases h:x=91
 ·subst h;rfl
 ·have h':¬ x.toNat=91:=fun e=>h (UInt8.toNat_inj.1 e)
  rw[if_neg h,if_neg h']
  by_cases h2:x=93
  ·subst h2;rfl
  ·have h3:¬ x.toNat=93:=fun e=>h2 (UInt8.toNat_inj.1 e)
   rw[if_neg h2,if_neg h3]
open Go.RowKit Go.Lib Go.Sort in
theorem m_rep (k:Nat) (s:ByteArray) (hs1:s.size≤1000000000000) (w:World) (hkw:k<w.heap.size) (hk:∀ x:UInt8,w.cell? ⟨k,x.toNat,none⟩=some (.int .u8 (mk8 x).toNat)) :
 Calls Tryz.prog 429 #[.pointer (some ⟨k,0,none⟩),.string s] w fun e w'=>e=.returned (.string (markup s))∧(w'=w∨∃ dk,dk.size=s.data.size∧w'=putRow enc8 (bytesWorld w 5 s) w.heap.size 0 dk):=by
 have hcv:=fun(w:World)=>Lib.run_convert_string_bytes w 9 243 5 s Tryz.underlying9 Tryz.underlying243 Tryz.underlying5
 have hH:=holds_bytes w 5 s
 have hsz:s.data.size=s.size:=rfl
 have qT:∀ (w:World) (a:Option Addr) (n c n' c':Nat),(binOp .eql 243 (.slice a n c) (.slice none n' c')).run Tryz.prog w=.ok (.bool a.isNone) w:=fun w a n c n' c'=>Lib.run_eql_slice_nil w _ _ a n c n' c' Tryz.underlying243
 go_enter Tryz.func429,Tryz.ntmps429
 go_wp2
 have hk1:∀ x:UInt8,(bytesWorld w 5 s).cell? ⟨k,x.toNat,none⟩=some (.int .u8 (mk8 x).toNat):=fun x=>by
  rw[←hk x];simp only[World.cell?,bytesWorld_at_old w 5 s k hkw]
 generalize hW1:bytesWorld w 5 s=W1 at *
 go_loopw [5,6] (fun v5 vi wr=>∃ (i:Nat),vi=.int .i64 i∧i≤s.size∧((v5=.slice none 0 0∧wr=w∧∀ t,t<i→s.data[t]! = mk8 s.data[t]!) ∨
  (∃ dk:Array UInt8,v5=.slice (some ⟨w.heap.size,0,none⟩) s.size (grownCap w s.size 0 5)∧dk.size=s.data.size∧wr=putRow enc8 W1 w.heap.size 0 dk∧∀ t,t<s.size→dk[t]! = if t<i then mk8 s.data[t]! else s.data[t]!))) (fun _ vi _=>s.size+1-(RowKit.intOf vi).toNat)
 case atStart=>exact⟨0,rfl,by omega,.inl ⟨rfl,rfl,fun t ht=>by omega⟩⟩
 case round=>
  obtain⟨i,rfl,hi,hrel⟩:=hrel
  by_cases h1:i<s.size
  ·have hxi:s.data[i]! = s[i]'h1:=by rw[getElem!_pos s.data i h1];rfl
   have hlt:=(s[i]'h1).toNat_lt
   rcases hrel with⟨rfl,rfl,hd⟩|⟨dk,rfl,hsk,hw,hd⟩
   ·by_cases hm:mk8 (s[i]'h1)=s[i]'h1
    ·have hne:(((mk8 (s[i]'h1)).toNat:Int) != ((s[i]'h1).toNat:Int))=false:=by rw[hm];simp
     have hD:Hid (∀ t,t<i→s.data[t]! = mk8 s.data[t]!):=hd
     clear hd
     go_wp2
     case roundEnd=>
      exact⟨⟨i+1,rfl,h1,.inl ⟨by first|rfl|trivial,by first|rfl|trivial,fun t ht=>by
       by_cases e:t=i
       ·subst e;rw[hxi,hm]
       ·exact hD.out t (by omega)⟩⟩,by simp only[RowKit.intOf];omega⟩
     all_goals (exfalso;omega)
    ·have hne:(((mk8 (s[i]'h1)).toNat:Int) != ((s[i]'h1).toNat:Int))=true:=by
      rw[bne_iff_ne];intro e;exact hm (UInt8.toNat_inj.1 (Int.ofNat.inj e))
     have hfz:=(hH i h1).2
     have hcd:=(hH i h1).1
     rw[Nat.zero_add] at hfz hcd
     have hst:=putRow_set enc8 W1 wr.heap.size 0 s.data i (mk8 (s[i]'h1)) h1
     rw[Nat.zero_add,putRow_self _ _ _ _ _ hH] at hst
     dsimp only[enc8] at hcd hst
     have hD:Hid (∀ t,t<i→s.data[t]! = mk8 s.data[t]!):=hd
     have hS:Hid (_=_):=hst
     clear hd hst hH
     go_wp2
     case roundEnd=>
      have st:=mk8_step (s:=s) (dk:=s.data) (y:=mk8 (s[i]'h1)) h1 rfl (fun t ht=>by
       by_cases e:t<i
       ·rw[if_pos e];exact hD.out t e
       ·rw[if_neg e]) (by rw[hxi])
      exact⟨⟨i+1,rfl,h1,.inr ⟨s.data.setIfInBounds i (mk8 (s[i]'h1)),by first|rfl|trivial,st.1,hS.out,st.2⟩⟩,by simp only[RowKit.intOf];omega⟩
     all_goals (exfalso;omega)
   ·have hkr:∀ x:UInt8,wr.cell? ⟨k,x.toNat,none⟩=some (.int .u8 (mk8 x).toNat):=fun x=>by
     rw[hw,cell?_putRow_other _ _ _ _ _ _ (.inl (by show k≠w.heap.size;omega))];exact hk1 x
    have hD:Hid (∀ t,t<s.size→dk[t]! = if t<i then mk8 s.data[t]! else s.data[t]!):=hd
    have hW:Hid (wr=putRow enc8 W1 w.heap.size 0 dk):=hw
    by_cases hm:mk8 (s[i]'h1)=s[i]'h1
    ·have hne:(((mk8 (s[i]'h1)).toNat:Int) != ((s[i]'h1).toNat:Int))=false:=by rw[hm];simp
     clear hd hw hH
     go_wp2
     case roundEnd=>
      exact⟨⟨i+1,rfl,h1,.inr ⟨dk,by first|rfl|trivial,hsk,hW.out,mk8_keep h1 hsk hD.out (by rw[hxi,hm])⟩⟩,by simp only[RowKit.intOf];omega⟩
     all_goals (exfalso;omega)
    ·have hne:(((mk8 (s[i]'h1)).toNat:Int) != ((s[i]'h1).toNat:Int))=true:=by
      rw[bne_iff_ne];intro e;exact hm (UInt8.toNat_inj.1 (Int.ofNat.inj e))
     have hcd:=cell?_putRow enc8 W1 w.heap.size 0 s.data dk hH hsk i (by omega)
     have hfz:wr.frozen? ⟨w.heap.size,0+i,none⟩=false:=by rw[hw,frozen?_putRow];exact(hH i (by omega)).2
     rw[←hw,Nat.zero_add] at hcd
     rw[Nat.zero_add] at hfz
     have hst:=putRow_set enc8 W1 w.heap.size 0 dk i (mk8 (s[i]'h1)) (by omega)
     rw[Nat.zero_add] at hst
     dsimp only[enc8] at hcd hst
     have hS:Hid (_=_):=hst
     clear hd hw hst hH
     go_wp2
     case roundEnd=>
      have st:=mk8_step (s:=s) (dk:=dk) (y:=mk8 (s[i]'h1)) h1 hsk hD.out (by rw[hxi])
      exact⟨⟨i+1,rfl,h1,.inr ⟨dk.setIfInBounds i (mk8 (s[i]'h1)),by first|rfl|trivial,st.1,by rw[hW.out];exact hS.out,st.2⟩⟩,by simp only[RowKit.intOf];omega⟩
     all_goals (exfalso;omega)
  ·have hie:i=s.size:=by omega
   subst hie
   rcases hrel with⟨rfl,rfl,hd⟩|⟨dk,rfl,hsk,hw,hd⟩
   ·have hfin:Hid (markup s=s):=by
     show markup s=s
     unfold markup ofL
     have:(toL s).map mk8=toL s:=by
      apply List.ext_getElem (by simp)
      intro k h2 h3
      have hk:k<s.size:=by simpa [Bg] using h3
      have:=hd k hk
      rw[getElem!_pos s.data k hk] at this
      simp[toL,←this]
     rw[this]
     exact CO s
    have hD:Hid _:=hd
    clear hd
    go_wp2
    go_ret
    exact⟨by simp[hfin.out],.inl rfl⟩
   ·have hback:=run_convert_bytes_back (P:=Tryz.prog) wr 243 9 5 ⟨w.heap.size,0,none⟩ (grownCap w s.size 0 5) dk.toList Tryz.underlying243 Tryz.underlying5 Tryz.underlying9 (fun j hj=>by
     have hj2:j<dk.size:=by simpa using hj
     have:=cell?_putRow enc8 W1 w.heap.size 0 s.data dk hH hsk j hj2
     rw[←hw] at this
     rw[Addr.add_lit,this]
     simp[getElem!_pos dk j hj2])
    have hl:dk.toList.length=s.size:=by simpa using hsk
    rw[hl,hw] at hback
    have hfin:markup s=⟨dk.toList.toArray⟩:=by
     unfold markup ofL
     congr 2
     apply List.ext_getElem (by simp[Bg,hl])
     intro k h2 h3
     have hk:k<s.size:=by omega
     have:=hd k hk
     rw[if_pos hk,getElem!_pos dk k (by omega),getElem!_pos s.data k hk] at this
     simp[toL,this]
    have hfin:Hid _:=hfin
    have hw:Hid _:=hw
    go_wp2
    go_ret
    exact⟨by rw[hfin.out];simp,.inr ⟨dk,hsk,by rw[hW1];first|done|exact hw.out⟩⟩
open Go.RowKit Go.Lib Go.Sort in
theorem m_do (b c cap:Nat) (w:World) (H:MRep w b c cap) :
 Calls Tryz.prog 340 #[.pointer (some ⟨b,0,none⟩),.func (.func 341) #[.pointer (some ⟨b,0,none⟩)] #[]] w fun e w'=>e=.returned (.tuple #[])∧∃ r:Array Value,mrow r∧w'=mW w b r:=by
 have h0:=H.v0
 have hl:=run_call_load (P:=Tryz.prog) Tryz.func359 (by kernel_rfl) (by kernel_rfl) (by kernel_rfl) .u32 (by kernel_rfl) h0
 have hnot:∀ (x:Bool) (w:World),(Op.unary .not (.bool x)).run Tryz.prog w=.ok (.bool (!x)) w:=fun _ _=>rfl
 go_enter Tryz.func340,Tryz.ntmps340
 go_wp2_with (first|(go_at_call 349;refine(m_slow b c cap _ H).mono ?_;rintro e w' ⟨rfl,r,hr,rfl⟩)|(go_at_call 348;go_in))
 try go_end0
 exact⟨rfl,r,hr,rfl⟩
open Go.RowKit Go.Lib Go.Sort in
theorem mW_cell (w:World) (b:Nat) (r:Array Value) (lb:b<w.heap.size) (x:Value) (v3:w.cell? ⟨b,3,none⟩=some x):(mW w b r).cell? ⟨b,3,none⟩=some (.iface 423 (.pointer (some ⟨w.heap.size,0,none⟩))):=by
 unfold mW
 rw[World.cell?_setCell_other _ _ _ _ (by simp),World.cell?_setCell_other _ _ _ _ (by simp),World.cell?_drew,World.cell?_alloc_past _ _ _ (by simpa using lb),World.cell?_setCell_other _ _ _ _ (by simp)]
 exact World.cell?_setCell_same _ _ _ ((World.cell?_setCell_other _ _ _ _ (by simp)).trans v3)
open Go.RowKit Go.Lib Go.Sort in
theorem mW_row (w:World) (b:Nat) (r:Array Value) (lb:b<w.heap.size) (t:Nat):(mW w b r).cell? ⟨w.heap.size,t,none⟩=r[t]?:=by
 have nb:∀ j:Nat,(⟨b,j,none⟩:Addr)≠⟨w.heap.size,t,none⟩:=fun j h=>by
  have:=congrArg Addr.block h
  simp at this
  omega
 unfold mW
 rw[World.cell?_setCell_other _ _ _ _ (nb _),World.cell?_setCell_other _ _ _ _ (nb _),World.cell?_drew]
 have e:=Dn (((w.setCell ⟨b,1,none⟩ (.int .i32 1)).setCell ⟨b,3,none⟩ (.iface 423 (.pointer (some ⟨w.heap.size,0,none⟩)))).setCell ⟨b,4,none⟩ (.slice none 0 0)) r 422 t
 rw[World.size_setCell,World.size_setCell,World.size_setCell] at e
 exact e
open Go.RowKit Go.Lib Go.Sort in
theorem mW_size (w:World) (b:Nat) (r:Array Value):(mW w b r).heap.size=w.heap.size+1:=by
 unfold mW
 simp
open Go.RowKit Go.Lib Go.Sort in
theorem m_replace (b c cap:Nat) (s:ByteArray) (hs:s.size≤1000000000000) (w:World) (H:MRep w b c cap) :
 Calls Tryz.prog 331 #[.pointer (some ⟨b,0,none⟩),.string s] w fun e w'=>e=.returned (.string (markup s))∧∃ r,mrow r∧(w'=mW w b r∨∃ dk,w'=Go.Sort.putRow enc8 (Lib.bytesWorld (mW w b r) 5 s) (mW w b r).heap.size 0 dk):=by
 have hmf:∀ (fn:Fn) (first cap:Array Value) (w:World),(Instr.makeFunc fn first cap).run Tryz.prog w=.ok (.func fn first cap) w:=fun _ _ _ _=>rfl
 have H':Hid (MRep w b c cap):=H
 clear H
 go_enter Tryz.func331,Tryz.ntmps331
 go_wp2_with (first|(go_at_call 340;refine(m_do b c cap _ H'.out).mono ?_;rintro e w' ⟨rfl,r,hr,hw⟩;(have h3:w'.cell? ⟨b,3,none⟩=some (.iface 423 (.pointer (some ⟨w.heap.size,0,none⟩))):=by rw[hw];exact mW_cell w b r H'.out.lb _ H'.out.v3);(have hW:Hid (w'=mW w b r):=hw);(have hR:Hid (mrow r):=hr);clear hw hr))
 refine(m_rep w.heap.size s hs w' (by rw[hW.out,mW_size];omega) (fun x=>by rw[hW.out,mW_row _ _ _ H'.out.lb,hR.out.2 _ x.toNat_lt,mk8_nat])).mono ?_
 rintro e w'' ⟨rfl,h⟩
 have hh:Hid (w''=w'∨∃ dk,dk.size=s.data.size∧w''=Go.Sort.putRow enc8 (Lib.bytesWorld w' 5 s) w'.heap.size 0 dk):=h
 clear h
 go_wp2
 go_ret
 refine⟨rfl,r,hR.out,?_⟩
 rcases hh.out with h|⟨dk,_,h⟩
 ·exact .inl (h.trans hW.out)
 ·exact .inr ⟨dk,by rw[h,hW.out]⟩
open Go.RowKit Go.Lib Go.Sort in
def mN (w:World) (cap:Nat) (x:Array Value):World :=
 ((w.alloc (.cells (#[.string ⟨#[91]⟩,.string ⟨#[60]⟩,.string ⟨#[93]⟩,.string ⟨#[62]⟩]++x) 9)).alloc (.cells #[.int .u32 0,.int .i32 0,.int .u32 0,.nilIface,.slice (some ⟨w.heap.size,0,none⟩) 4 cap] 399)).drew
open Go.RowKit Go.Lib Go.Sort in
theorem m_new (a cap:Nat) (w:World) (c0:w.cell? ⟨a,0,none⟩=some (.string ⟨#[91]⟩)) (c1:w.cell? ⟨a,1,none⟩=some (.string ⟨#[60]⟩)) (c2:w.cell? ⟨a,2,none⟩=some (.string ⟨#[93]⟩)) (c3:w.cell? ⟨a,3,none⟩=some (.string ⟨#[62]⟩)) (la:a<w.heap.size) :
 Calls Tryz.prog 330 #[.slice (some ⟨a,0,none⟩) 4 cap] w fun e w'=>e=.returned (.pointer (some ⟨w.heap.size+1,0,none⟩))∧∃ cap2 x,w'=mN w cap2 x:=by
 go_enter Tryz.func330,Tryz.ntmps330
 go_wp2
 go_ret
 exact⟨rfl,_,_,rfl⟩
open Go.RowKit Go.Lib Go.Sort in
theorem mN_size (w:World) (cap:Nat) (x:Array Value):(mN w cap x).heap.size=w.heap.size+2:=by unfold mN;simp
open Go.RowKit Go.Lib Go.Sort in
theorem mN_rep (w:World) (cap:Nat) (x:Array Value):MRep (mN w cap x) (w.heap.size+1) w.heap.size cap:=by
 have hb:∀ j,(mN w cap x).cell? ⟨w.heap.size+1,j,none⟩ = #[Value.int .u32 0,.int .i32 0,.int .u32 0,.nilIface,.slice (some ⟨w.heap.size,0,none⟩) 4 cap][j]?:=fun j=>by
  unfold mN
  rw[World.cell?_drew]
  have e:=Dn (w.alloc (.cells (#[.string ⟨#[91]⟩,.string ⟨#[60]⟩,.string ⟨#[93]⟩,.string ⟨#[62]⟩]++x) 9)) #[.int .u32 0,.int .i32 0,.int .u32 0,.nilIface,.slice (some ⟨w.heap.size,0,none⟩) 4 cap] 399 j
  rw[World.size_alloc] at e
  exact e
 have hf:∀ j,(mN w cap x).frozen? ⟨w.heap.size+1,j,none⟩=false:=fun j=>by
  unfold mN
  rw[World.frozen?_drew]
  have e:=Jt (w.alloc (.cells (#[.string ⟨#[91]⟩,.string ⟨#[60]⟩,.string ⟨#[93]⟩,.string ⟨#[62]⟩]++x) 9)) #[.int .u32 0,.int .i32 0,.int .u32 0,.nilIface,.slice (some ⟨w.heap.size,0,none⟩) 4 cap] 399 j
  rw[World.size_alloc] at e
  exact e
 have hc:∀ j,(mN w cap x).cell? ⟨w.heap.size,j,none⟩=(#[.string ⟨#[91]⟩,.string ⟨#[60]⟩,.string ⟨#[93]⟩,.string ⟨#[62]⟩]++x)[j]?:=fun j=>by
  unfold mN
  rw[World.cell?_drew,World.cell?_alloc_past _ _ _ (by rw[World.size_alloc];omega)]
  exact Dn _ _ _ _
 have hl:∀ j (v:Value),#[Value.string ⟨#[91]⟩,.string ⟨#[60]⟩,.string ⟨#[93]⟩,.string ⟨#[62]⟩][j]? = some v→(#[Value.string ⟨#[91]⟩,.string ⟨#[60]⟩,.string ⟨#[93]⟩,.string ⟨#[62]⟩]++x)[j]? = some v:=fun j v h=>by
  rw[Array.getElem?_append_left (by have:=(Array.getElem?_eq_some_iff.1 h).1;exact this)]
  exact h
 exact⟨hb 0,hb 1,hb 3,hb 4,hf 0,hf 1,hf 3,hf 4,(hc 0).trans (hl 0 _ rfl),(hc 1).trans (hl 1 _ rfl),(hc 2).trans (hl 2 _ rfl),(hc 3).trans (hl 3 _ rfl),by rw[mN_size];omega,by rw[mN_size];omega,by omega⟩
open Go.RowKit Go.Lib Go.Sort in
theorem mN_neu {w w':World} (h:Neu w w') (cap:Nat) (x:Array Value):Neu w (mN w' cap x):=by
 unfold mN
 exact((h.alloc _).alloc _).drew
open Go.RowKit Go.Lib Go.Sort in
theorem mW_neu {w w':World} (h:Neu w w') {b:Nat} (hb:w.heap.size≤b) (r:Array Value):Neu w (mW w' b r):=by
 unfold mW
 exact((((((h.set (a:=⟨b,1,none⟩) hb _).set (a:=⟨b,3,none⟩) hb _).set (a:=⟨b,4,none⟩) hb _).alloc _).drew).set (a:=⟨b,0,none⟩) hb _).set (a:=⟨b,1,none⟩) hb _
open Go.RowKit Go.Lib Go.Sort in
theorem m_markup (s:ByteArray) (hs:s.size≤1000000000000) (w:World) :
 Calls Tryz.prog 315 #[.string s] w fun e w'=>e=.returned (.string (markup s))∧Neu w w':=by
 go_enter Tryz.func315,Tryz.ntmps315
 go_wp2_with (fail)
 refine(m_new w.heap.size 4 _ ?_ ?_ ?_ ?_ ?_).mono ?_
 ·rw[Dn];rfl
 ·rw[Dn];rfl
 ·rw[Dn];rfl
 ·rw[Dn];rfl
 ·rw[World.size_alloc];omega
 rintro e w' ⟨rfl,cap,x,hw⟩
 have hW:Hid _:=hw
 have hR:Hid (MRep w' (w.heap.size+2) (w.heap.size+1) cap):=by
  have:=mN_rep (w.alloc (Obj.cells #[.string ⟨#[91]⟩,.string ⟨#[60]⟩,.string ⟨#[93]⟩,.string ⟨#[62]⟩] 9)) cap x
  rw[World.size_alloc] at this
  rw[hw];exact this
 have hN:Hid (Neu w w'):=by rw[hw];exact mN_neu ((Neu.refl w).alloc _) _ _
 clear hw hW
 rw[World.size_alloc]
 go_wp2_with (first|(go_at_call 331;refine(m_replace _ _ cap s hs w' hR.out).mono ?_;rintro e w2 ⟨rfl,h⟩;(have hH:Hid _:=h);clear h))
 go_ret
 refine⟨rfl,?_⟩
 obtain⟨r,_,h|⟨dk,h⟩⟩:=hH.out
 ·rw[h];exact mW_neu hN.out (by omega) _
 ·rw[h];exact((mW_neu hN.out (by omega) _).bytes _ _).put _ (by rw[mW_size];have:=hN.out.size;omega) _ _
open Go.RowKit Go.Lib Go.Sort in
theorem markup_ok2:fMarkup.ok Tryz.prog 315 :=
 Mw rfl rfl fun x hx w ow hB=>m_markup x.1 hx w
theorem k315_291:fMarkup.ok Tryz.prog 315 :=
 markup_ok2
def Ace:=Acf.a k315_291
def laysAtoi_r:Go.Shelf.Ren:=⟨fun|0=>0|1=>1|2=>2|99=>393|103=>218|106=>335|109=>345|110=>334|129=>379|137=>158|138=>292|143=>293|145=>221|146=>220|156=>277|165=>303|166=>304|169=>305|171=>332|172=>333|195=>309|197=>310|205=>371|206=>290|210=>257|213=>346|217=>217|218=>311|219=>294|220=>260|221=>259|224=>313|225=>312|240=>325|241=>326|243=>342|244=>343|245=>344|246=>351|247=>352|260=>328|265=>357|266=>256|267=>314|268=>291|276=>338|277=>339|279=>353|280=>354|281=>355|282=>356|283=>365|284=>366|285=>367|286=>368|287=>369|314=>329|316=>370|317=>378|318=>380|319=>381|320=>382|321=>383|322=>384|337=>395|338=>396|347=>404|348=>405|349=>406|350=>407|351=>408|352=>409|353=>410|354=>411|355=>412|356=>413|357=>414|358=>415|359=>416|360=>417|361=>418|362=>419|363=>433|364=>420|365=>421|366=>434|367=>449|_=>0,fun|0=>0|1=>1|2=>2|3=>3|4=>4|5=>5|6=>6|7=>7|8=>8|9=>9|10=>10|11=>11|12=>12|13=>13|14=>14|15=>15|16=>16|17=>17|18=>18|19=>19|20=>20|21=>21|22=>349|24=>257|25=>286|27=>351|28=>38|30=>183|31=>31|32=>402|33=>371|34=>235|37=>243|43=>323|46=>368|47=>457|51=>372|52=>471|53=>429|54=>430|55=>196|59=>288|60=>289|61=>287|67=>333|69=>337|70=>353|71=>354|72=>355|73=>356|74=>357|75=>358|76=>359|77=>360|80=>361|81=>482|83=>169|84=>406|85=>408|86=>409|94=>503|101=>95|102=>90|103=>365|104=>255|105=>366|106=>367|108=>438|111=>456|113=>326|114=>344|119=>381|127=>370|128=>401|131=>340|137=>382|138=>383|139=>384|143=>459|144=>460|145=>461|146=>373|150=>350|151=>374|164=>378|165=>379|166=>380|167=>407|168=>410|169=>411|170=>412|171=>428|172=>431|173=>432|174=>433|175=>434|176=>435|209=>436|210=>437|211=>453|212=>454|213=>455|214=>458|232=>475|233=>476|238=>477|239=>478|240=>479|241=>480|242=>481|243=>483|244=>484|245=>485|246=>486|247=>487|248=>488|249=>489|_=>0,fun|1=>0|3=>1|4=>2|15=>3|16=>4|17=>5|18=>6|19=>7|_=>0⟩
theorem laysAtoi:Go.Proofs.LaysC.n172 Tryz.prog laysAtoi_r where
 mixed:=by kernel_rfl
 f129:=by kernel_rfl
 f171:=by kernel_rfl
 f172:=by kernel_rfl
 f205:=by kernel_rfl
 f243:=by kernel_rfl
 f244:=by kernel_rfl
 f245:=by kernel_rfl
 f246:=by kernel_rfl
 f247:=by kernel_rfl
 f279:=by kernel_rfl
 f280:=by kernel_rfl
 f281:=by kernel_rfl
 f282:=by kernel_rfl
 f283:=by kernel_rfl
 f284:=by kernel_rfl
 f285:=by kernel_rfl
 f286:=by kernel_rfl
 f287:=by kernel_rfl
 f316:=by kernel_rfl
 f317:=by kernel_rfl
 f318:=by kernel_rfl
 f319:=by kernel_rfl
 f320:=by kernel_rfl
 f321:=by kernel_rfl
 f322:=by kernel_rfl
 f337:=by kernel_rfl
 f338:=by kernel_rfl
 t0:=by kernel_rfl
 a0:=fun _=>by kernel_rfl
 z0:=fun _=>by kernel_rfl
 v0:=fun _=>by kernel_rfl
 t2:=by kernel_rfl
 a2:=fun _=>by kernel_rfl
 z2:=fun _=>by kernel_rfl
 v2:=fun _=>by kernel_rfl
 t3:=by kernel_rfl
 a3:=fun _=>by kernel_rfl
 z3:=fun _=>by kernel_rfl
 v3:=fun _=>by kernel_rfl
 t4:=by kernel_rfl
 a4:=fun _=>by kernel_rfl
 z4:=fun _=>by kernel_rfl
 v4:=fun _=>by kernel_rfl
 t5:=by kernel_rfl
 a5:=fun _=>by kernel_rfl
 z5:=fun _=>by kernel_rfl
 v5:=fun _=>by kernel_rfl
 t9:=by kernel_rfl
 a9:=fun _=>by kernel_rfl
 z9:=fun _=>by kernel_rfl
 v9:=fun _=>by kernel_rfl
 t20:=by kernel_rfl
 a20:=fun _=>by kernel_rfl
 z20:=fun _=>by kernel_rfl
 v20:=fun _=>by kernel_rfl
 t21:=by kernel_rfl
 a21:=fun _=>by kernel_rfl
 z21:=fun _=>by kernel_rfl
 v21:=fun _=>by kernel_rfl
 t37:=by kernel_rfl
 a37:=fun _=>by kernel_rfl
 z37:=fun _=>by kernel_rfl
 v37:=fun _=>by kernel_rfl
 t46:=by kernel_rfl
 a46:=fun _=>by kernel_rfl
 z46:=fun _=>by kernel_rfl
 v46:=fun _=>by kernel_rfl
 t51:=by kernel_rfl
 a51:=fun _=>by kernel_rfl
 z51:=fun _=>by kernel_rfl
 v51:=fun _=>by kernel_rfl
 t53:=by kernel_rfl
 a53:=fun _=>by kernel_rfl
 z53:=fun _=>by kernel_rfl
 v53:=fun _=>by kernel_rfl
 t75:=by kernel_rfl
 a75:=fun _=>by kernel_rfl
 z75:=fun _=>by kernel_rfl
 v75:=fun _=>by kernel_rfl
 t76:=by kernel_rfl
 a76:=fun _=>by kernel_rfl
 z76:=fun _=>by kernel_rfl
 v76:=fun _=>by kernel_rfl
 t85:=by kernel_rfl
 a85:=fun _=>by kernel_rfl
 z85:=fun _=>by kernel_rfl
 v85:=fun _=>by kernel_rfl
 t127:=by kernel_rfl
 a127:=fun _=>by kernel_rfl
 z127:=fun _=>by kernel_rfl
 v127:=fun _=>by kernel_rfl
 t143:=by kernel_rfl
 a143:=fun _=>by kernel_rfl
 z143:=fun _=>by kernel_rfl
 v143:=fun _=>by kernel_rfl
 t145:=by kernel_rfl
 a145:=fun _=>by kernel_rfl
 z145:=fun _=>by kernel_rfl
 v145:=fun _=>by kernel_rfl
 t167:=by kernel_rfl
 a167:=fun _=>by kernel_rfl
 z167:=fun _=>by kernel_rfl
 v167:=fun _=>by kernel_rfl
 t168:=by kernel_rfl
 a168:=fun _=>by kernel_rfl
 z168:=fun _=>by kernel_rfl
 v168:=fun _=>by kernel_rfl
 t171:=by kernel_rfl
 a171:=fun _=>by kernel_rfl
 z171:=fun _=>by kernel_rfl
 v171:=fun _=>by kernel_rfl
 t173:=by kernel_rfl
 a173:=fun _=>by kernel_rfl
 z173:=fun _=>by kernel_rfl
 v173:=fun _=>by kernel_rfl
 t175:=by kernel_rfl
 a175:=fun _=>by kernel_rfl
 z175:=fun _=>by kernel_rfl
 v175:=fun _=>by kernel_rfl
 t210:=by kernel_rfl
 a210:=fun _=>by kernel_rfl
 z210:=fun _=>by kernel_rfl
 v210:=fun _=>by kernel_rfl
 t212:=by kernel_rfl
 a212:=fun _=>by kernel_rfl
 z212:=fun _=>by kernel_rfl
 v212:=fun _=>by kernel_rfl
 t213:=by kernel_rfl
 a213:=fun _=>by kernel_rfl
 z213:=fun _=>by kernel_rfl
 t232:=by kernel_rfl
 a232:=fun _=>by kernel_rfl
 z232:=fun _=>by kernel_rfl
 v232:=fun _=>by kernel_rfl
 t233:=by kernel_rfl
 a233:=fun _=>by kernel_rfl
 z233:=fun _=>by kernel_rfl
 v233:=fun _=>by kernel_rfl
 g15:=by kernel_rfl
 g16:=by kernel_rfl
 g17:=by kernel_rfl
 g18:=by kernel_rfl
 g19:=by kernel_rfl
 t80:=by kernel_rfl
 a80:=fun _=>by kernel_rfl
 z80:=fun _=>by kernel_rfl
 v80:=fun _=>by kernel_rfl
 i0:=by kernel_rfl
 i2:=by kernel_rfl
 i3:=by kernel_rfl
 i4:=by kernel_rfl
 i5:=by kernel_rfl
 i9:=by kernel_rfl
 i20:=by kernel_rfl
 i21:=by kernel_rfl
 i37:=by kernel_rfl
 i46:=by kernel_rfl
 i51:=by kernel_rfl
 i53:=by kernel_rfl
 i75:=by kernel_rfl
 i76:=by kernel_rfl
 i80:=by kernel_rfl
 i85:=by kernel_rfl
 i127:=by kernel_rfl
 i143:=by kernel_rfl
 i145:=by kernel_rfl
 i167:=by kernel_rfl
 i168:=by kernel_rfl
 i171:=by kernel_rfl
 i173:=by kernel_rfl
 i175:=by kernel_rfl
 i210:=by kernel_rfl
 i212:=by kernel_rfl
 i232:=by kernel_rfl
 i233:=by kernel_rfl
 m15:=by kernel_rfl
 m16:=by kernel_rfl
 m17:=by kernel_rfl
 m18:=by kernel_rfl
 m19:=by kernel_rfl
 c0:=by kernel_rfl
 c2:=by kernel_rfl
 c3:=by kernel_rfl
 c4:=by kernel_rfl
 c5:=by kernel_rfl
 c9:=by kernel_rfl
 c20:=by kernel_rfl
 c21:=by kernel_rfl
 c37:=by kernel_rfl
 c46:=by kernel_rfl
 c51:=by kernel_rfl
 c53:=by kernel_rfl
 c75:=by kernel_rfl
 c76:=by kernel_rfl
 c80:=by kernel_rfl
 c85:=by kernel_rfl
 c127:=by kernel_rfl
 c143:=by kernel_rfl
 c145:=by kernel_rfl
 c167:=by kernel_rfl
 c168:=by kernel_rfl
 c171:=by kernel_rfl
 c173:=by kernel_rfl
 c175:=by kernel_rfl
 c210:=by kernel_rfl
 c212:=by kernel_rfl
 c213:=by kernel_rfl
 c232:=by kernel_rfl
 c233:=by kernel_rfl
def nB (n:Lib.NumEnd Nat) (f:Nat→Lib.NumEnd Nat):Lib.NumEnd Nat:=match n with
 | .ok u=>f u
 | e=>e
theorem pU_app:∀ (l r:List UInt8) (acc:Nat),Lib.parseUint10 acc (l++r)=nB (Lib.parseUint10 acc l) fun u=>Lib.parseUint10 u r
 | [],r,acc=>rfl
 | c::l,r,acc=>by
  rw[List.cons_append,Lib.parseUint10,Lib.parseUint10]
  split
  ·split
   ·rfl
   ·split
    ·rfl
    ·exact pU_app l r _
  ·rfl
theorem dg_nat {d:Nat} (h:d<10):(UInt8.ofNat (48+d)).toNat=48+d:=by
 rw[UInt8.toNat_ofNat']
 omega
theorem dd_ok:∀ (f u:Nat),u<10 ^ (f+1)→u<10 ^ 18→(Lib.decDigits u)≠[]∧(Lib.decDigits u).length≤f+1∧(Lib.decDigits u).all digit=true∧decV (Lib.decDigits u) 0=u∧Lib.parseUint10 0 (Lib.decDigits u)=.ok u:=by
 have one:∀ d,d<10→[UInt8.ofNat (48+d)].all digit=true:=fun d hd=>by
  simp only[List.all_cons,List.all_nil,Bool.and_true,digit,dg_nat hd,decide_eq_true_eq];omega
 have low:∀ u,u<10→(Lib.decDigits u)≠[]∧(Lib.decDigits u).length≤1∧(Lib.decDigits u).all digit=true∧decV (Lib.decDigits u) 0=u∧Lib.parseUint10 0 (Lib.decDigits u)=.ok u:=fun u hu=>by
  rw[Dc hu]
  refine⟨by simp,by simp,one u hu,?_,?_⟩
  ·simp only[decV,dg_nat hu];omega
  ·rw[Lib.parseUint10,dg_nat hu,if_pos (by omega),if_neg (by omega),if_neg (by omega)]
   simp[Lib.parseUint10]
 intro f
 induction f with
 | zero=>intro u hu _;exact low u (by omega)
 | succ f ih=>
  intro u hu hv
  by_cases h1:u<10
  ·obtain⟨a,b,c⟩:=low u h1
   exact⟨a,by omega,c⟩
  ·obtain⟨a,b,c,d,e⟩:=ih (u / 10) (by rw[Nat.pow_succ] at hu;omega) (by omega)
   rw[D2 (by omega)]
   refine⟨by simp,by simp;omega,?_,?_,?_⟩
   ·rw[List.all_append,c,one _ (by omega)];rfl
   ·rw[decV_snoc,d,dg_nat (by omega)];omega
   ·rw[pU_app,e,nB]
    simp only[Lib.parseUint10]
    rw[dg_nat (by omega),if_pos (by omega),if_neg (by omega),if_neg (by omega)]
    simp only[Lib.NumEnd.ok.injEq]
    omega
theorem atoi_fmt {n:Int} (h0:0≤n) (h1:n≤1000000000000):(1≤(FO n).size∧(FO n).size≤13∧(toL (FO n)).all digit=true∧decV (toL (FO n)) 0=n)∧Lib.atoiAll (toL (FO n))=.ok n:=by
 have e:toL (FO n)=Lib.decDigits n.toNat:=by
  unfold toL FO Lib.itoa
  rw[if_neg (by omega)]
 have es:(FO n).size=(toL (FO n)).length:=rfl
 obtain⟨a,b,c,d,g⟩:=dd_ok 12 n.toNat (by omega) (by omega)
 rw[es,e]
 refine⟨⟨by have:=List.length_pos_iff.2 a;omega,b,c,by rw[d];omega⟩,?_⟩
 cases hl:Lib.decDigits n.toNat with
 | nil=>exact absurd hl a
 | cons x r=>
  rw[hl] at c g
  have hx:digit x=true:=by simp only[List.all_cons,Bool.and_eq_true] at c;exact c.1
  simp only[digit,decide_eq_true_eq] at hx
  rw[Lib.atoiAll_plain x r (by omega) (by omega)]
  unfold Lib.parseMag
  rw[if_neg (by simp),g]
  unfold Lib.signless
  simp only[]
  rw[if_neg (by omega)]
  simp only[Lib.NumEnd.ok.injEq]
  omega
theorem decV_nn:∀ (l:List UInt8) (n:Int),0≤n→l.all digit=true→0≤decV l n
 | [],n,h,_=>h
 | x::l,n,h,ha=>by
  simp only[List.all_cons,Bool.and_eq_true,digit,decide_eq_true_eq] at ha
  exact decV_nn l _ (by omega) ha.2
theorem pI_ok {s:ByteArray} {v:Int} (h:Lib.atoiAll (toL s)=.ok v):parseInt s=if 0≤v∧v≤1000000000000∧FO v=s then(v,true) else(0,false):=by
 by_cases hc:0≤v∧v≤1000000000000∧FO v=s
 ·obtain⟨⟨a1,a2,a3,a4⟩,_⟩:=atoi_fmt hc.1 hc.2.1
  rw[hc.2.2] at a1 a2 a3 a4
  rw[if_pos hc]
  unfold parseInt
  rw[if_pos ⟨a1,a2,a3,by rw[a4];exact hc.2.1,by rw[a4];exact hc.2.2⟩,a4]
 ·rw[if_neg hc]
  unfold parseInt
  rw[if_neg]
  rintro⟨b1,b2,b3,b4,b5⟩
  have hn:=decV_nn (toL s) 0 (by omega) b3
  have:=(atoi_fmt hn b4).2
  rw[b5,h] at this
  injection this with this
  rw[←this] at hn b4 b5
  exact hc ⟨hn,b4,b5⟩
theorem pI_bad {s:ByteArray} (h:∀ v,Lib.atoiAll (toL s)≠.ok v):parseInt s=(0,false):=by
 unfold parseInt
 rw[if_neg]
 rintro⟨b1,b2,b3,b4,b5⟩
 have:=(atoi_fmt (decV_nn (toL s) 0 (by omega) b3) b4).2
 rw[b5] at this
 exact h _ this
open Go.RowKit in
theorem fmt_walk (n:Int) (h0 : -9223372036854775808≤n) (h1:n≤9223372036854775807) (w:World) (hl:Laid Tryz.prog w):Calls Tryz.prog 316 #[.int .i64 n] w fun e w'=>e=.returned (.string (FO n))∧Neu w w':=by
 go_enter Tryz.func316,Tryz.ntmps316
 go_wp2_with (fail)
 refine(Go.Proofs.Any.strconv_Itoa laysItoa n h0 h1 w (hl.1 (by kernel_rfl))).mono ?_
 rintro e w' ⟨rfl,k,os,rfl⟩
 have hN:Hid (Neu w (Go.Sort.grow (w.drewN k) os)):=Neu.grow w k os
 go_wp2
 go_ret
 exact⟨rfl,hN.out⟩
open Go.RowKit in
theorem atoi_walk (s:ByteArray) (hs:s.size≤1000000000000) (w:World) (hl:Laid Tryz.prog w):Calls Tryz.prog 333 #[.string s] w fun e w'=>((∃ v,Lib.atoiAll (toL s)=.ok v∧e=.returned (.tuple #[.int .i64 v,.nilIface]))∨((∀ v,Lib.atoiAll (toL s)≠.ok v)∧∃ n t p,e=.returned (.tuple #[.int .i64 n,.iface t p])))∧Neu w w':=by
 rcases hA:Lib.atoiAll (toL s) with v|_|_
 ·refine(Go.Proofs.Any.strconv_Atoi_ok laysAtoi s (by omega) v hA w).mono ?_
  rintro e w' ⟨rfl,h⟩
  refine⟨.inl ⟨v,rfl,rfl⟩,?_⟩
  rcases h with rfl|⟨t,rfl⟩
  ·exact Neu.refl _
  ·exact(Neu.refl _).bytes _ _
 ·obtain⟨tp,p,hv⟩:=hl.2.1 (by kernel_rfl)
  refine(Go.Proofs.Any.strconv_Atoi_syntax laysAtoi s (by omega) hA (.iface tp p) w (MG (by kernel_rfl) hv) (.inr ⟨_,_,rfl⟩)).mono ?_
  rintro e w' ⟨N,rfl,h1,h2,h3⟩
  exact⟨.inr ⟨fun v=>by simp,_,_,_,rfl⟩,Neu.below h3⟩
 ·obtain⟨tp,p,hv⟩:=hl.2.2 (by kernel_rfl)
  refine(Go.Proofs.Any.strconv_Atoi_range laysAtoi s (by omega) hA (.iface tp p) w (MG (by kernel_rfl) hv) (.inr ⟨_,_,rfl⟩)).mono ?_
  rintro e w' ⟨N,rfl,h1,h2,h3⟩
  exact⟨.inr ⟨fun v=>by simp,_,_,_,rfl⟩,Neu.below h3⟩
open Go.RowKit in
theorem parse_walk (s:ByteArray) (hs:s.size≤1000000000000) (w:World) (hl:Laid Tryz.prog w):Calls Tryz.prog 319 #[.string s] w fun e w'=>e=.returned (.tuple #[.int .i64 (parseInt s).1,.bool (parseInt s).2])∧Neu w w':=by
 go_enter Tryz.func319,Tryz.ntmps319
 go_wp2_with (fail)
 refine(atoi_walk s hs w hl).mono ?_
 rintro e w' ⟨⟨v,hA,rfl⟩|⟨hA,n,t,p,rfl⟩,hN⟩
 ·have hb:=Lib.atoiAll_bounds hA
  have hp:=pI_ok hA
  have hN:Hid (Neu w w'):=hN
  have hA:Hid (_=_):=hA
  by_cases h1:v<0
  ·rw[if_neg (by omega)] at hp
   go_wp2_with (fail)
   go_ret2
   exact⟨by rw[hp];rfl,hN.out⟩
  ·by_cases h2:v>1000000000000
   ·rw[if_neg (by omega)] at hp
    go_wp2_with (fail)
    go_ret2
    exact⟨by rw[hp];rfl,hN.out⟩
   ·go_wp2_with (fail)
    refine(fmt_walk v hb.1 hb.2 w' (hN.out.laid hl)).mono ?_
    rintro e w2 ⟨rfl,hN2⟩
    have hN2:Hid (Neu w' w2):=hN2
    by_cases h3:FO v=s
    ·rw[if_pos ⟨by omega,by omega,h3⟩] at hp
     rw[h3]
     go_wp2_with (fail)
     go_ret2
     exact⟨by rw[hp];rfl,hN.out.trans hN2.out⟩
    ·rw[if_neg (by rintro⟨_,_,q⟩;exact h3 q)] at hp
     have h4:((FO v).toList==s.toList)=false:=by rw[XN];simp[h3]
     go_wp2_with (fail)
     go_ret2
     exact⟨by rw[hp];rfl,hN.out.trans hN2.out⟩
 ·have hp:=pI_bad hA
  have hN:Hid (Neu w w'):=hN
  have hA:Hid (∀ v,Lib.atoiAll (toL s)≠.ok v):=hA
  go_wp2_with (fail)
  go_ret2
  exact⟨by rw[hp];rfl,hN.out⟩
theorem pI_ok2:BW.ok Tryz.prog 319:=Mw rfl rfl fun x hx w ow hB=>parse_walk x.1 hx w hB.laid
theorem k319_292:BW.ok Tryz.prog 319 :=
 pI_ok2
def AaD:=Ace.a k319_292
theorem cut1 (l:List ByteArray):cut l 1 (l.length-1)=l.drop 1:=by unfold cut;rw[List.take_of_length_le];simp
theorem pre47 (s:ByteArray):((cutPre s ⟨#[47]⟩).2=true→0<s.size∧s.data.getD 0 0=47∧(cutPre s ⟨#[47]⟩).1=s.extract 1 s.size)∧((cutPre s ⟨#[47]⟩).2=false→¬ (0<s.size∧s.data.getD 0 0=47)):=by
 have h1:ByteArray.size ⟨#[47]⟩=1:=rfl
 have key:hasPre s ⟨#[47]⟩=true↔0<s.size∧s.data.getD 0 0=47:=by
  unfold hasPre
  rw[decide_eq_true_eq,h1]
  constructor
  ·rintro⟨a,b⟩
   refine⟨a,?_⟩
   have:=congrArg toL b
   rw[AO,List.drop_zero,toL_take (i:=0) a,List.take_zero,List.nil_append] at this
   exact(List.cons.inj this).1
  ·rintro⟨a,b⟩
   refine⟨a,?_⟩
   rw[←CO (s.extract 0 1),AO,List.drop_zero,toL_take (i:=0) a,List.take_zero,List.nil_append,b]
   rfl
 unfold cutPre
 by_cases h:hasPre s ⟨#[47]⟩=true
 ·rw[if_pos h]
  exact⟨fun _=>⟨(key.1 h).1,(key.1 h).2,rfl⟩,fun h2=>(by cases h2)⟩
 ·rw[if_neg h]
  exact⟨fun h2=>(by cases h2),fun _ h2=>h (key.2 h2)⟩
theorem tag_bad {s:ByteArray} (h:s.size≤60) (hn:¬ (0<s.size∧s.data.getD 0 0=47)) (hb:isName ((spl 32 s).getD 0 default)=false∨5<(spl 32 s).length):tagOf s=(default,false):=by
 unfold tagOf
 rw[if_neg (by omega),if_neg hn]
 cases ha:tagAttrs ((spl 32 s).drop 1) [] with
 | none=>rfl
 | some ats=>
  have:=tagAttrs_len ha
  simp only[List.length_nil,List.length_drop] at this
  show(if isName ((spl 32 s).getD 0 default)=true∧ats.length≤4 then _ else _)=_
  rw[if_neg]
  rintro⟨c1,c2⟩
  rcases hb with hb|hb
  ·rw[hb] at c1;cases c1
  ·omega
theorem tagStepC {l:List ByteArray} {i:Nat} {acc:List SAttr} (h:i<l.length):tagAttrs (l.drop i) acc=if(Dy 61 (l.getD i default)).2.2=true∧isName (Dy 61 (l.getD i default)).1=true∧isValue (Dy 61 (l.getD i default)).2.1=true∧(findAttr acc (Dy 61 (l.getD i default)).1).isSome=false then tagAttrs (l.drop (i+1)) (acc++[⟨(Dy 61 (l.getD i default)).1,(Dy 61 (l.getD i default)).2.1⟩]) else none:=by
 rw[tagAttrs_at h]
 unfold Dy
 cases Dr 61 (toL (l.getD i default)) with
 | none=>simp
 | some r=>
  obtain⟨p,q⟩:=r
  simp only[true_and]
  cases isName (ofL p)<;>cases isValue (ofL q)<;>cases findAttr acc (ofL p)<;>simp
abbrev CA (s:ByteArray):LInv:=⟨[⟨.b,7,true,.el .token⟩,⟨.s,52,true,.el .int⟩,⟨.b,2,true,.el .token⟩,⟨.s,50,true,.sl .str⟩],fun(z_:SToken×Int×SToken×(List ByteArray)×Unit) (x_:SToken×Int×SToken×(List ByteArray)×Unit)=>((0≤x_.2.1∧x_.2.1+1≤(spl 32 s).length∧x_.1.attrs.length≤x_.2.1∧x_.1=⟨1,(spl 32 s).getD 0 default,x_.1.attrs,⟨#[]⟩⟩∧tagAttrs ((spl 32 s).drop (x_.2.1.toNat+1)) x_.1.attrs=tagAttrs ((spl 32 s).drop 1) [])∧x_.2.2.1=z_.2.2.1)∧x_.2.2.2.1=z_.2.2.2.1,fun(x_:SToken×Int×SToken×(List ByteArray)×Unit)=>(spl 32 s).length-x_.2.1.toNat⟩
theorem k159_293:EE.ok Tryz.prog 159:=Fct.p (KP [0,2,3,4,5,6,7,9,10,11,12,14,50,51,52] [17,24,27,43,53,83]) (fun⟨s,_⟩=>lv [(13,CA s)]) AaD.2 Tryz.func159 (by
 rintro⟨(s:ByteArray),_⟩ hp
 refine ho (let q2_:=(⟨#[]⟩:ByteArray);let q0_:Out:=.leaf (.tup [(true,[vi ((0:Int)),vs (q2_),.nl,vs (q2_)]),(false,[vb (false)])]) [] [];.br (decide ((↑s.size:Int)>60)) q0_ (.cl fCutPre (s,(⟨#[47]⟩:ByteArray),()) fun z2=>.br (z2.2.1) (.cl fIsName (z2.1,()) fun z3=>.br (!z3.1) q0_ (.leaf (.tup [(true,[vi ((2:Int)),vs (z2.1),.nl,vs (q2_)]),(false,[vb (true)])]) [] [])) (.cl DM (s,(⟨#[32]⟩:ByteArray),()) fun z4=>let q4_:=(↑z4.1.length:Int);let q3_:=z4.1.length-1;let q1_:=(0:Int)≤(0:Int)∧(0:Int)<q4_;.ob q1_<|.ob (0<z4.1.length)<|.cl fIsName (z4.1.getD 0 default,()) fun z5=>.br (!z5.1) q0_ (.br (decide (wr (q4_-(1:Int))>4)) q0_ (.ob q1_<|.ob (0<z4.1.length)<|.ob ((0:Int)≤(1:Int)∧(1:Int)≤q4_)<|.ob (1+q3_≤z4.1.length)<|lpx (CA s) ((⟨(1:Int),z4.1.getD 0 default,[],q2_⟩:SToken),((0:Int),(default,(cut z4.1 1 q3_,())))) fun(y16:SToken×Int×SToken×List ByteArray×PUnit) bk16=>.br (decide (y16.2.1<(↑q3_:Int))) (.ob (inB y16.2.1 y16.2.2.2.1.length)<|.ob (y16.2.1.toNat<y16.2.2.2.1.length)<|.cl Nn (y16.2.2.2.1.getD y16.2.1.toNat default,(⟨#[61]⟩:ByteArray),()) fun z6=>let q5_:=(⟨z6.1,z6.2.1⟩:SAttr);.cl fFindAttr (y16.1.attrs,z6.1,()) fun z7=>.br (!z6.2.2.1) q0_ (.cl fIsName (z6.1,()) fun z8=>.br (!z8.1) q0_ (.cl fIsValue (z6.2.1,()) fun z9=>.br (!z9.1) q0_ (.br (z7.2.1) q0_ (.ob (True)<|.ob (Bi (y16.1.attrs.length+[q5_].length) 32)<|.ob (Value.string s=Value.string s)<|.ob (Value.string z2.1=Value.string z2.1)<|.ob (Value.bool z2.2.1=Value.bool z2.2.1)<|.ob (Value.int IntKind.i64 (↑q3_:Int)=Value.int IntKind.i64 (↑q3_:Int))<|.ob (bk16 (({y16.1 with attrs:=y16.1.attrs++[q5_]}:SToken),(w1 y16.2.1,(y16.2.2.1,(y16.2.2.2.1,())))))<|.ok))))) (.lf EE (y16.1,true,()))))))) ?_
 refine Ab (fun h1=>Fct.leafZ (default,false,()) (by repeat' first|exact rfl|exact trivial|refine And.intro ?_ ?_) ?_) (fun h1=>Il ?_ fun o2 z2 ez2=>(Ab (fun h3=>Il ?_ fun o4 z3 ez3=>(Ab (fun h5=>Fct.leafZ (default,false,()) (by repeat' first|exact rfl|exact trivial|refine And.intro ?_ ?_) ?_) (fun h5=>Fct.leafZ (⟨(2:Int),z2.fst,[],{ data := #[]:ByteArray }⟩,true,()) (by repeat' first|exact rfl|exact trivial|refine And.intro ?_ ?_) ?_))) (fun h3=>Il ?_ fun o6 z4 ez4=>(Aa ?_ fun o7=>Aa ?_ fun o8=>Il ?_ fun o9 z5 ez5=>(Ab (fun h10=>Fct.leafZ (default,false,()) (by repeat' first|exact rfl|exact trivial|refine And.intro ?_ ?_) ?_) (fun h10=>Ab (fun h11=>Fct.leafZ (default,false,()) (by repeat' first|exact rfl|exact trivial|refine And.intro ?_ ?_) ?_) (fun h11=>Aa ?_ fun o12=>Aa ?_ fun o13=>Aa ?_ fun o14=>Aa ?_ fun o15=>AG ?_ fun(y16:SToken×Int×SToken×List ByteArray×PUnit) i16=>Ab (fun h17=>Aa ?_ fun o18=>Aa ?_ fun o19=>Il ?_ fun o20 z6 ez6=>(Il ?_ fun o21 z7 ez7=>(Ab (fun h22=>Fct.leafZ (default,false,()) (by repeat' first|exact rfl|exact trivial|refine And.intro ?_ ?_) ?_) (fun h22=>Il ?_ fun o23 z8 ez8=>(Ab (fun h24=>Fct.leafZ (default,false,()) (by repeat' first|exact rfl|exact trivial|refine And.intro ?_ ?_) ?_) (fun h24=>Il ?_ fun o25 z9 ez9=>(Ab (fun h26=>Fct.leafZ (default,false,()) (by repeat' first|exact rfl|exact trivial|refine And.intro ?_ ?_) ?_) (fun h26=>Ab (fun h27=>Fct.leafZ (default,false,()) (by repeat' first|exact rfl|exact trivial|refine And.intro ?_ ?_) ?_) (fun h27=>Aa trivial fun _=>Aa ?_ fun o28=>Aa rfl fun _=>Aa rfl fun _=>Aa rfl fun _=>Aa rfl fun _=>Aa ?_ fun o29=>trivial))))))))) (fun h17=>lfY ?_))))))))
 all_goals subst_vars
 all_goals
  try simp only[AH] at *
  try simp only[CA,Nn,fCutPre,fFindAttr,fIsName,fIsValue,DM,EE,std,Nat.reduceAdd,DM,fCutPre,Nn,fIsName,fIsValue,fFindAttr,cut1] at *
  try simp only[show(#[47]:Array UInt8).getD 0 0=47 from rfl,show(#[32]:Array UInt8).getD 0 0=32 from rfl,show(#[61]:Array UInt8).getD 0 0=61 from rfl] at *
 all_goals
  have hk:=DH 32 s
  have hm:∀ i,i<(spl 32 s).length→((spl 32 s).getD i default).size≤s.size:=fun i h=>FM (getD_in h)
  have hq:=pre47 s
  have hx:(s.extract 1 s.size).size≤s.size:=by rw[ByteArray.size_extract];omega
 all_goals try (obtain⟨⟨⟨a1,a2,a3,a4,a5⟩,a6⟩,a7⟩:=i16)
 all_goals
  have hd:∀ i,((spl 32 s).drop 1).getD i default=(spl 32 s).getD (i+1) default:=fun i=>by simp[List.getD_eq_getElem?_getD,List.getElem?_drop,Nat.add_comm]
  try simp only[a7,hd,List.length_drop] at *
 all_goals first|trivial|omega|skip
 all_goals first|(rw[tag_other.1 (by omega)];exact⟨rfl,rfl⟩)|(rw[(hq.1 (by assumption)).2.2];omega)|skip
 all_goals first|(rw[tag_other.2 (by omega) (hq.1 (by assumption)).1 (hq.1 (by assumption)).2.1,if_neg (by rw[←(hq.1 (by assumption)).2.2,show isName _=false by assumption];decide)];exact⟨rfl,rfl⟩)|(rw[tag_other.2 (by omega) (hq.1 (by assumption)).1 (hq.1 (by assumption)).2.1,if_pos (by rw[←(hq.1 (by assumption)).2.2];assumption)];exact⟨by rw[(hq.1 (by assumption)).2.2],rfl⟩)|skip
 all_goals
  have hn:=hq.2 (by assumption)
  try rw[An (show -9223372036854775808≤(((spl 32 s).length:Nat):Int)-1∧(((spl 32 s).length:Nat):Int)-1≤9223372036854775807 by omega)] at *
 all_goals first|(rw[tag_bad (by omega) hn (.inl (by assumption))];exact⟨rfl,rfl⟩)|(rw[tag_bad (by omega) hn (.inr (by omega))];exact⟨rfl,rfl⟩)|omega|exact⟨by omega,by omega,by simp,rfl,rfl⟩|exact⟨by omega,by omega,by simp,trivial,rfl⟩|skip
 all_goals
  have h00:=hm 0 (by omega)
  try have hw:=hm (y16.2.1.toNat+1)
 all_goals first|omega|exact⟨by omega,rfl⟩|exact⟨by omega,by omega⟩|skip
 all_goals first|exact⟨by omega,by omega,by omega,trivial⟩|skip
 all_goals have hc:=cutS_sz 61 ((spl 32 s).getD (y16.2.1.toNat+1) default)
 all_goals first|omega|(rw[tagAttrs_end (by omega)] at a5;rw[tag_some (by omega) hn a5.symm,if_pos ⟨by assumption,by omega⟩];exact⟨a4,rfl⟩)|rw[tagStepC (by omega)] at a5
 all_goals first|(rw[if_neg (by rintro⟨c1,c2,c3,c4⟩;first|exact tf c1 (by assumption)|exact tf c2 (by assumption)|exact tf c3 (by assumption)|exact tf (by assumption) c4)] at a5;rw[tag_none (by omega) hn a5.symm];exact⟨rfl,rfl⟩)|rw[if_pos ⟨by assumption,by assumption,by assumption,by assumption⟩] at a5
 all_goals rw[An (by omega),toNat1 (by omega)]
 all_goals refine⟨⟨⟨⟨by omega,by omega,by rw[List.length_append];simp only[List.length_cons,List.length_nil];omega,?_,a5⟩,a6⟩,by first|trivial|rfl⟩,by omega⟩
 all_goals rw[a4])
def Aca:=AaD.a k159_293
theorem indexByte_find (c:UInt8):∀ l:List UInt8,Lib.indexByte l c=if l.findIdx (fun x=>x==c)=l.length then -1 else((l.findIdx fun x=>x==c:Nat):Int)
 | []=>rfl
 | b::l=>by
  have hl:=List.findIdx_le_length (xs:=l) (p:=fun x=>x==c)
  rw[Lib.indexByte,indexByte_find c l,List.findIdx_cons]
  cases hb:(b==c) with
  | true=>simp
  | false=>
   simp only[Bool.false_eq_true,if_false,cond_false,List.length_cons]
   by_cases h:l.findIdx (fun x=>x==c)=l.length
   ·rw[if_pos h,if_pos (by decide),if_pos (by omega)]
   ·rw[if_neg h,if_neg (by simp only[beq_iff_eq];omega),if_neg (by omega)];omega
def idxJ (b:UInt8) (s:ByteArray):Int:=if idxB b s=s.size then -1 else idxB b s
def Pc:Fct:=⟨[.v (.el .str),.v (.el .u8)],[.el .int],fun(x_:ByteArray×Int×Unit)=>0≤x_.2.1∧x_.2.1≤255,fun(x_:ByteArray×Int×Unit)=>(idxJ (UInt8.ofNat x_.2.1.toNat) x_.1,())⟩
def laysIdx_r:Go.Shelf.Ren:=⟨fun|0=>0|1=>1|2=>2|99=>393|103=>218|106=>335|109=>345|110=>334|129=>379|137=>158|138=>292|143=>293|145=>221|146=>220|156=>277|165=>303|166=>304|169=>305|171=>332|172=>333|195=>309|197=>310|205=>371|206=>290|210=>257|213=>346|217=>217|218=>311|219=>294|220=>260|221=>259|224=>313|225=>312|240=>325|241=>326|243=>342|244=>343|245=>344|246=>351|247=>352|260=>328|265=>357|266=>256|267=>314|268=>291|276=>338|277=>339|279=>353|280=>354|281=>355|282=>356|283=>365|284=>366|285=>367|286=>368|287=>369|314=>329|316=>370|317=>378|318=>380|319=>381|320=>382|321=>383|322=>384|337=>395|338=>396|347=>404|348=>405|349=>406|350=>407|351=>408|352=>409|353=>410|354=>411|355=>412|356=>413|357=>414|358=>415|359=>416|360=>417|361=>418|362=>419|363=>433|364=>420|365=>421|366=>434|367=>449|_=>0,fun|0=>0|1=>1|2=>2|3=>3|4=>4|5=>5|6=>6|7=>7|8=>8|9=>9|10=>10|11=>11|12=>12|13=>13|14=>14|15=>15|16=>16|17=>17|18=>18|19=>19|20=>20|21=>21|22=>349|24=>257|25=>286|27=>351|28=>38|30=>183|31=>31|32=>402|33=>371|34=>235|37=>243|43=>323|46=>368|47=>457|51=>372|52=>471|53=>429|54=>430|55=>196|59=>288|60=>289|61=>287|67=>333|69=>337|70=>353|71=>354|72=>355|73=>356|74=>357|75=>358|76=>359|77=>360|80=>361|81=>482|83=>169|84=>406|85=>408|86=>409|94=>503|101=>95|102=>90|103=>365|104=>255|105=>366|106=>367|108=>438|111=>456|113=>326|114=>344|119=>381|127=>370|128=>401|131=>340|137=>382|138=>383|139=>384|143=>459|144=>460|145=>461|146=>373|150=>350|151=>374|164=>378|165=>379|166=>380|167=>407|168=>410|169=>411|170=>412|171=>428|172=>431|173=>432|174=>433|175=>434|176=>435|209=>436|210=>437|211=>453|212=>454|213=>455|214=>458|232=>475|233=>476|238=>477|239=>478|240=>479|241=>480|242=>481|243=>483|244=>484|245=>485|246=>486|247=>487|248=>488|249=>489|_=>0,fun|1=>0|3=>1|4=>2|15=>3|16=>4|17=>5|18=>6|19=>7|_=>0⟩
theorem laysIdx:Go.Proofs.Lays.n137 Tryz.prog laysIdx_r:=⟨by kernel_rfl,by kernel_rfl,by kernel_rfl,by kernel_rfl,by kernel_rfl,(fun _=>by kernel_rfl),(fun _=>by kernel_rfl),(fun _=>by kernel_rfl),by kernel_rfl,(fun _=>by kernel_rfl),(fun _=>by kernel_rfl),(fun _=>by kernel_rfl),by kernel_rfl,(fun _=>by kernel_rfl),(fun _=>by kernel_rfl),(fun _=>by kernel_rfl)⟩
theorem k158_294:Pc.ok Tryz.prog 158 :=
 Mw rfl rfl fun x hx w ow hB=>(Go.Proofs.Any.strings_IndexByte laysIdx x.1 x.2.1 w).mono fun e w' ⟨a,b⟩=>⟨by rw[a,indexByte_find];rfl,by rw[b];exact Neu.refl w⟩
def AaV:=Aca.a k158_294
theorem text_head {x:ByteArray} (h0:0<x.size):(x.data.getD 0 0=60↔idxB 60 x=0):=by
 have e:toL x=x.data.getD 0 0::(toL x).drop 1:=by
  have:=Fi (s:=x) (i:=0) h0
  rwa [List.drop_zero] at this
 unfold idxB
 rw[e,List.findIdx_cons]
 cases hb:(x.data.getD 0 0==60) with
 | true=>simp;simpa using hb
 | false=>simp;simpa using hb
theorem idxJ_or (b:UInt8) (x:ByteArray):(idxJ b x = -1∧idxB b x=x.size)∨(idxJ b x=idxB b x∧idxB b x<x.size):=by
 have:=idxB_le b x
 unfold idxJ
 by_cases h:idxB b x=x.size
 ·rw[if_pos h];exact .inl ⟨rfl,h⟩
 ·rw[if_neg h];exact .inr ⟨rfl,by omega⟩
theorem feed_nil {x:ByteArray} (h:x.size=0):feedAll x=([],x):=by
 have k1:=idxB_le 60 x
 have k2:=idxB_le 62 x
 exact feed_stop (by omega) (by omega)
abbrev BV (t:STokenizer) (s:ByteArray):LInv:=⟨[⟨.s,6,true,.el .str⟩,⟨.s,7,true,.sl .token⟩,⟨.b,5,true,.el .tokenizer⟩],fun(z_:ByteArray×(List SToken)×STokenizer×Unit) (x_:ByteArray×(List SToken)×STokenizer×Unit)=>(x_.2.1.length+x_.1.size≤(t.rest++s).size∧x_.2.1++(feedAll x_.1).1=(feedAll (t.rest++s)).1∧(feedAll x_.1).2=(feedAll (t.rest++s)).2)∧x_.2.2.1=z_.2.2.1,fun(x_:ByteArray×(List SToken)×STokenizer×Unit)=>x_.1.size⟩
theorem k80_295:fFeedText.ok Tryz.prog 80:=Fct.p (KP [1,2,4,5,6,7,8,9,10,11] [18,21,25,39,47]) (fun⟨t,s,_⟩=>lv [(3,BV t s)]) AaV.2 Tryz.func80 (by
 rintro⟨(t:STokenizer),(s:ByteArray),_⟩ hp
 refine ho (.ob (sameSize t.rest s)<|lpx (BV t s) (t.rest++s,([],(default,()))) fun(y2:ByteArray×List SToken×STokenizer×PUnit) bk2=>.br (!y2.1.toList==(⟨#[]⟩:ByteArray).toList) (.ob ((0:Int)≤(0:Int)∧(0:Int)<(↑y2.1.size:Int))<|.br ((↑(y2.1.data.getD 0 0).toNat:Int) != 60) (.cl Pc (y2.1,(60:Int),()) fun(z2:Int×PUnit)=>.br (decide (z2.1<0)) (.lf fFeedText (y2.2.1,⟨y2.1⟩,())) (.ob (0≤z2.1∧z2.1≤(↑y2.1.size:Int))<|.ob (Bi (y2.2.1.length+[(⟨(3:Int),(⟨#[]⟩:ByteArray),[],y2.1.extract 0 z2.1.toNat⟩:SToken)].length) 64)<|.ob (0≤z2.1∧z2.1≤(↑y2.1.size:Int))<|.ob (Value.string s=Value.string s)<|.ob (bk2 (y2.1.extract z2.1.toNat y2.1.size,(y2.2.1++[(⟨(3:Int),(⟨#[]⟩:ByteArray),[],y2.1.extract 0 z2.1.toNat⟩:SToken)],(y2.2.2.1,()))))<|.ok)) (.cl Pc (y2.1,(62:Int),()) fun(z3:Int×PUnit)=>.br (decide (z3.1<0)) (.lf fFeedText (y2.2.1,⟨y2.1⟩,())) (.ob ((0:Int)≤(1:Int)∧1≤z3.1∧z3.1≤(↑y2.1.size:Int))<|.cl EE (y2.1.extract 1 z3.1.toNat,()) fun z4=>.br (z4.2.1) (.ob (Bi (y2.2.1.length+[z4.1].length) 64)<|.ob (0≤w1 z3.1∧w1 z3.1≤(↑y2.1.size:Int))<|.ob (Value.string s=Value.string s)<|.ob (bk2 (y2.1.extract (w1 z3.1).toNat y2.1.size,(y2.2.1++[z4.1],(y2.2.2.1,()))))<|.ok) (.ob (0≤w1 z3.1∧w1 z3.1≤(↑y2.1.size:Int))<|.ob (Value.string s=Value.string s)<|.ob (bk2 (y2.1.extract (w1 z3.1).toNat y2.1.size,(y2.2.1,(y2.2.2.1,()))))<|.ok)))) (.lf fFeedText (y2.2.1,⟨y2.1⟩,()))) ?_
 refine Aa ?_ fun o1=>AG ?_ fun(y2:ByteArray×List SToken×STokenizer×PUnit) i2=>Ab (fun h3=>Aa ?_ fun o4=>Ab (fun h5=>Ae ?_ fun o6=>(Ab (fun h7=>lfY ?_) (fun h7=>Aa ?_ fun o8=>Aa ?_ fun o9=>Aa ?_ fun o10=>Aa rfl fun _=>Aa ?_ fun o11=>trivial))) (fun h5=>Ae ?_ fun o12=>(Ab (fun h13=>lfY ?_) (fun h13=>Aa ?_ fun o14=>Ae ?_ fun o15=>(Ab (fun h16=>Aa ?_ fun o17=>Aa ?_ fun o18=>Aa rfl fun _=>Aa ?_ fun o19=>trivial) (fun h16=>Aa ?_ fun o20=>Aa rfl fun _=>Aa ?_ fun o21=>trivial)))))) (fun h3=>lfY ?_)
 all_goals
  try simp only[AH] at *
  try simp only[BV,fFeedText,Pc,EE,std,Nat.reduceAdd,Pc,EE] at *
  try simp only[show UInt8.ofNat (Int.toNat 60)=60 from rfl,show UInt8.ofNat (Int.toNat 62)=62 from rfl,ByteArray.size_append] at *
 all_goals try (obtain⟨⟨a1,a2,a3⟩,a4⟩:=i2)
 all_goals first|trivial|omega|(unfold sameSize;omega)|skip
 all_goals
  have k1:=idxB_le 60 y2.1
  have k2:=idxB_le 62 y2.1
  have j1:=idxJ_or 60 y2.1
  have j2:=idxJ_or 62 y2.1
 all_goals first|omega|skip
 all_goals
  have k3:=idx_one (x:=y2.1)
  have kb:=byte_eq (s:=y2.1) (i:=0) (b:=60) (by decide) (by decide)
  have kn:¬ y2.1=⟨#[]⟩→0<y2.1.size:=fun h=>Nat.pos_of_ne_zero fun e=>h (ByteArray.size_eq_zero_iff.1 e)
 all_goals first|(refine⟨by omega,?_⟩;have:=kn (by assumption);omega)|(rw[feed_nil (x:=y2.1) (by rw[show y2.1=_ by assumption];rfl)] at a2 a3;rw[List.append_nil] at a2;exact⟨a2,by rw[←a3]⟩)|skip
 all_goals have kh:=text_head (x:=y2.1) (by omega)
 all_goals first|(have ht:¬ idxB 60 y2.1=0:=fun e=>absurd (kb.2 (by rw[kh.2 e];rfl)) (by assumption))|(have ht:idxB 60 y2.1=0:=kh.1 ((kb.1 (by assumption)).trans rfl))
 all_goals first|(rw[feed_stop (x:=y2.1) (by omega) (by omega)] at a2 a3;rw[List.append_nil] at a2;exact⟨a2,by rw[←a3]⟩)|skip
 all_goals
  try have k6:idxB 62 y2.1<y2.1.size:=by omega
  try have k7:=k3 ht k6
 all_goals first|omega|(rw[ByteArray.size_extract];omega)|(rw[An (by omega)];omega)|skip
 all_goals have k5:∀ a,(y2.1.extract a y2.1.size).size=y2.1.size-a:=fun a=>by rw[ByteArray.size_extract];omega
 all_goals first|(have e1:idxJ 60 y2.1=(idxB 60 y2.1:Int):=by omega);rw[feed_text (x:=y2.1) (by omega) (by omega)] at a2 a3;rw[e1,Int.toNat_natCast]|(have e1:idxJ 62 y2.1=(idxB 62 y2.1:Int):=by omega);rw[feed_tag (x:=y2.1) ht k6] at a2 a3;rw[An (by omega),e1,show(((idxB 62 y2.1:Nat):Int)+1).toNat=idxB 62 y2.1+1 by omega]
 all_goals try simp only[e1,Int.toNat_natCast] at *
 all_goals try (first|rw[if_pos (by assumption)] at a2|rw[if_neg (by rw[show Prod.snd _=false by assumption];decide)] at a2)
 all_goals refine⟨⟨⟨?_,?_,a3⟩,a4⟩,?_⟩
 all_goals first|(rw[k5];simp only[List.length_append,List.length_cons,List.length_nil];omega)|(rw[k5];omega)|exact a2|(rw[List.append_assoc];exact a2)|skip)
def Aac:=AaV.a k80_295
theorem k296_296:fRunLine.ok Tryz.prog 296:=Fct.o (KP [1,3,5,6,7,8,9,13] [14,20,30,40,53,66]) Aac.2 Tryz.func296 (by
 rintro⟨(b:SBuilder),(l:List SSheet),(x:SLine),_⟩ hp
 refine ho (let q4_:=(⟨#[115,97,121,32]⟩:ByteArray);let q3_:=(⟨#[]⟩:ByteArray);let q2_:=(⟨#[32]⟩:ByteArray);let q1_:=(⟨#[108,111,111,107,32]⟩:ByteArray);let q0_:=(⟨#[99,111,117,110,116,32]⟩:ByteArray);.cl fCopyBuilder (b,()) fun z2=>let q5_:Out:=.lf fRunLine (z2.1,q3_,q3_,());.br (x.op==1) (.cl fMarkup (x.text,()) fun z3=>.lf fRunLine (z2.1,z3.1,q3_,())) (.br (x.op==2) (.cl fInRange ((↑b.nodes.length:Int),(1:Int),(39:Int),()) fun z4=>.br (z4.1) (.cl fIsName (x.text,()) fun z5=>.br (z5.1) (.ob (Bi (z2.1.nodes.length+[(⟨x.text,q3_,(0:Int),[]⟩:SNode)].length) 64)<|.lf fRunLine (⟨z2.1.nodes++[(⟨x.text,q3_,(0:Int),[]⟩:SNode)],z2.1.open_⟩,q3_,q3_,())) q5_) q5_) (.br (x.op==3) (.lp (Bool) (True) (fun x=>True) fun y10=>.br (y10) (.lp (Bool) (True) (fun x=>True) fun y12=>.br (y12) (.lp (Bool) (True) (fun x=>True) fun y14=>.br (y14) (.lp (Bool) (True) (fun x=>True) fun y16=>.br (y16) (.lp (Bool) (True) (fun x=>True) fun y18=>.br (y18) (.ob (sameSize q0_ x.text)<|.ob (sameSize (q0_++x.text) q2_)<|.cl fCountName (b,x.text,()) fun(z6:Int×PUnit)=>.cl fFormatInt (z6.1,()) fun z7=>.ob (sameSize (q0_++x.text++q2_) z7.1)<|.lf fRunLine (z2.1,q3_,q0_++x.text++q2_++z7.1,())) (.ob (sameSize q0_ x.text)<|.ob (sameSize (q0_++x.text) q2_)<|.cl fCountName (b,x.text,()) fun(z8:Int×PUnit)=>.cl fFormatInt (z8.1,()) fun z9=>.ob (sameSize (q0_++x.text++q2_) z9.1)<|.lf fRunLine (z2.1,q3_,q0_++x.text++q2_++z9.1,()))) (.ob (sameSize q0_ x.text)<|.cl fCountName (b,x.text,()) fun(z10:Int×PUnit)=>.cl fFormatInt (z10.1,()) fun z11=>.ob (sameSize (q0_++x.text) q2_)<|.ob (sameSize (q0_++x.text++q2_) z11.1)<|.lf fRunLine (z2.1,q3_,q0_++x.text++q2_++z11.1,()))) (.cl fCountName (b,x.text,()) fun(z12:Int×PUnit)=>.cl fFormatInt (z12.1,()) fun z13=>.ob (sameSize q0_ x.text)<|.ob (sameSize (q0_++x.text) q2_)<|.ob (sameSize (q0_++x.text++q2_) z13.1)<|.lf fRunLine (z2.1,q3_,q0_++x.text++q2_++z13.1,()))) (.cl fCountName (b,x.text,()) fun(z14:Int×PUnit)=>.cl fFormatInt (z14.1,()) fun z15=>.ob (sameSize q0_ x.text)<|.ob (sameSize (q0_++x.text) q2_)<|.ob (sameSize (q0_++x.text++q2_) z15.1)<|.lf fRunLine (z2.1,q3_,q0_++x.text++q2_++z15.1,()))) (.cl fCountName (b,x.text,()) fun(z16:Int×PUnit)=>.cl fFormatInt (z16.1,()) fun z17=>.ob (sameSize q0_ x.text)<|.ob (sameSize (q0_++x.text) q2_)<|.ob (sameSize (q0_++x.text++q2_) z17.1)<|.lf fRunLine (z2.1,q3_,q0_++x.text++q2_++z17.1,()))) (.br (x.op==4) (.lp (Bool) (True) (fun x=>True) fun y51=>.br (y51) (.lp (Bool) (True) (fun x=>True) fun y53=>.br (y53) (.lp (Bool) (True) (fun x=>True) fun y55=>.br (y55) (.lp (Bool) (True) (fun x=>True) fun y57=>.br (y57) (.lp (Bool) (True) (fun x=>True) fun y59=>.br (y59) (.ob (sameSize q1_ x.text)<|.ob (sameSize (q1_++x.text) q2_)<|.cl fColorOf (l,x.text,()) fun(z18:Int×PUnit)=>.cl fFormatInt (z18.1,()) fun z19=>.ob (sameSize (q1_++x.text++q2_) z19.1)<|.lf fRunLine (z2.1,q3_,q1_++x.text++q2_++z19.1,())) (.ob (sameSize q1_ x.text)<|.ob (sameSize (q1_++x.text) q2_)<|.cl fColorOf (l,x.text,()) fun(z20:Int×PUnit)=>.cl fFormatInt (z20.1,()) fun z21=>.ob (sameSize (q1_++x.text++q2_) z21.1)<|.lf fRunLine (z2.1,q3_,q1_++x.text++q2_++z21.1,()))) (.ob (sameSize q1_ x.text)<|.cl fColorOf (l,x.text,()) fun(z22:Int×PUnit)=>.cl fFormatInt (z22.1,()) fun z23=>.ob (sameSize (q1_++x.text) q2_)<|.ob (sameSize (q1_++x.text++q2_) z23.1)<|.lf fRunLine (z2.1,q3_,q1_++x.text++q2_++z23.1,()))) (.cl fColorOf (l,x.text,()) fun(z24:Int×PUnit)=>.cl fFormatInt (z24.1,()) fun z25=>.ob (sameSize q1_ x.text)<|.ob (sameSize (q1_++x.text) q2_)<|.ob (sameSize (q1_++x.text++q2_) z25.1)<|.lf fRunLine (z2.1,q3_,q1_++x.text++q2_++z25.1,()))) (.cl fColorOf (l,x.text,()) fun(z26:Int×PUnit)=>.cl fFormatInt (z26.1,()) fun z27=>.ob (sameSize q1_ x.text)<|.ob (sameSize (q1_++x.text) q2_)<|.ob (sameSize (q1_++x.text++q2_) z27.1)<|.lf fRunLine (z2.1,q3_,q1_++x.text++q2_++z27.1,()))) (.cl fColorOf (l,x.text,()) fun(z28:Int×PUnit)=>.cl fFormatInt (z28.1,()) fun z29=>.ob (sameSize q1_ x.text)<|.ob (sameSize (q1_++x.text) q2_)<|.ob (sameSize (q1_++x.text++q2_) z29.1)<|.lf fRunLine (z2.1,q3_,q1_++x.text++q2_++z29.1,()))) (.br (x.op==5) (.lp (Bool) (True) (fun x=>True) fun y92=>.br (y92) (.lp (Bool) (True) (fun x=>True) fun y94=>.br (y94) (.lp (Bool) (True) (fun x=>True) fun y96=>.br (y96) (.ob (sameSize q4_ x.text)<|.lf fRunLine (z2.1,q3_,q4_++x.text,())) (.ob (sameSize q4_ x.text)<|.lf fRunLine (z2.1,q3_,q4_++x.text,()))) (.ob (sameSize q4_ x.text)<|.lf fRunLine (z2.1,q3_,q4_++x.text,()))) (.ob (sameSize q4_ x.text)<|.lf fRunLine (z2.1,q3_,q4_++x.text,()))) q5_))))) ?_
 refine Ae ?_ fun o1=>(Ab (fun h2=>Ae ?_ fun o3=>(lfY ?_)) (fun h2=>Ab (fun h4=>Ae trivial fun _=>(Ab (fun h5=>Ae ?_ fun o6=>(Ab (fun h7=>Aa ?_ fun o8=>lfY ?_) (fun h7=>lfY ?_))) (fun h5=>lfY ?_))) (fun h4=>Ab (fun h9=>FN trivial fun y10 i10=>Ab (fun h11=>FN trivial fun y12 i12=>Ab (fun h13=>FN trivial fun y14 i14=>Ab (fun h15=>FN trivial fun y16 i16=>Ab (fun h17=>FN trivial fun y18 i18=>Ab (fun h19=>Aa ?_ fun o20=>Aa ?_ fun o21=>Ae ?_ fun o22=>(Ae ?_ fun o23=>(Aa ?_ fun o24=>lfY ?_))) (fun h19=>Aa ?_ fun o25=>Aa ?_ fun o26=>Ae ?_ fun o27=>(Ae ?_ fun o28=>(Aa ?_ fun o29=>lfY ?_)))) (fun h17=>Aa ?_ fun o30=>Ae ?_ fun o31=>(Ae ?_ fun o32=>(Aa ?_ fun o33=>Aa ?_ fun o34=>lfY ?_)))) (fun h15=>Ae ?_ fun o35=>(Ae ?_ fun o36=>(Aa ?_ fun o37=>Aa ?_ fun o38=>Aa ?_ fun o39=>lfY ?_)))) (fun h13=>Ae ?_ fun o40=>(Ae ?_ fun o41=>(Aa ?_ fun o42=>Aa ?_ fun o43=>Aa ?_ fun o44=>lfY ?_)))) (fun h11=>Ae ?_ fun o45=>(Ae ?_ fun o46=>(Aa ?_ fun o47=>Aa ?_ fun o48=>Aa ?_ fun o49=>lfY ?_)))) (fun h9=>Ab (fun h50=>FN trivial fun y51 i51=>Ab (fun h52=>FN trivial fun y53 i53=>Ab (fun h54=>FN trivial fun y55 i55=>Ab (fun h56=>FN trivial fun y57 i57=>Ab (fun h58=>FN trivial fun y59 i59=>Ab (fun h60=>Aa ?_ fun o61=>Aa ?_ fun o62=>Ae ?_ fun o63=>(Ae ?_ fun o64=>(Aa ?_ fun o65=>lfY ?_))) (fun h60=>Aa ?_ fun o66=>Aa ?_ fun o67=>Ae ?_ fun o68=>(Ae ?_ fun o69=>(Aa ?_ fun o70=>lfY ?_)))) (fun h58=>Aa ?_ fun o71=>Ae ?_ fun o72=>(Ae ?_ fun o73=>(Aa ?_ fun o74=>Aa ?_ fun o75=>lfY ?_)))) (fun h56=>Ae ?_ fun o76=>(Ae ?_ fun o77=>(Aa ?_ fun o78=>Aa ?_ fun o79=>Aa ?_ fun o80=>lfY ?_)))) (fun h54=>Ae ?_ fun o81=>(Ae ?_ fun o82=>(Aa ?_ fun o83=>Aa ?_ fun o84=>Aa ?_ fun o85=>lfY ?_)))) (fun h52=>Ae ?_ fun o86=>(Ae ?_ fun o87=>(Aa ?_ fun o88=>Aa ?_ fun o89=>Aa ?_ fun o90=>lfY ?_)))) (fun h50=>Ab (fun h91=>FN trivial fun y92 i92=>Ab (fun h93=>FN trivial fun y94 i94=>Ab (fun h95=>FN trivial fun y96 i96=>Ab (fun h97=>Aa ?_ fun o98=>lfY ?_) (fun h97=>Aa ?_ fun o99=>lfY ?_)) (fun h95=>Aa ?_ fun o100=>lfY ?_)) (fun h93=>Aa ?_ fun o101=>lfY ?_)) (fun h91=>lfY ?_))))))
 all_goals
  have hl:=Ad szNode b.nodes
  have hb:szL szNode b.nodes≤szBuilder b:=by simp only[szBuilder];omega
  have hc:=countName_in x.text b.nodes
  have hx:=colorOf_in hp.2.2.2 x.text
  have hf:=fun(n:Int) (h0 : -9223372036854775808≤n) (h1:n≤9223372036854775807)=>F3 h0 h1
  try simp only[AH] at *
  try simp only[fColorOf,fCopyBuilder,fCountName,fFormatInt,fInRange,fIsName,fMarkup,fRunLine,std,Nat.reduceAdd,runLine,fCopyBuilder,fMarkup,fIsName,fInRange,inRange,fCountName,fColorOf,fFormatInt,sameSize,ByteArray.size_append] at *
  try simp(disch:=omega) only[wrapId',toNat1] at *
  try simp(disch:=omega) only[if_pos,if_neg]
 all_goals first|trivial|omega|grind[wrapId',toNat1,drop_cons,drop_end,good_len,maxLen,runLine,fCopyBuilder,fMarkup,fIsName,fInRange,inRange,fCountName,fColorOf,fFormatInt,sameSize,ByteArray.size_append])
def Aa9:=Aac.a k296_296
abbrev BE (b:SBuilder) (l:(List SSheet)) (r:(List SLine)):LInv:=⟨[⟨.b,9,true,.el .builder⟩,⟨.s,10,true,.el .str⟩,⟨.s,11,true,.sl .str⟩,⟨.s,22,true,.el .int⟩,⟨.b,6,true,.el .builder⟩],fun(z_:SBuilder×ByteArray×(List ByteArray)×Int×SBuilder×Unit) (x_:SBuilder×ByteArray×(List ByteArray)×Int×SBuilder×Unit)=>(0≤x_.2.2.2.1∧x_.2.2.2.1≤r.length∧szBuilder x_.1+szL B2 (r.drop x_.2.2.2.1.toNat)≤szBuilder b+szL B2 r∧x_.2.1.size+szL B2 (r.drop x_.2.2.2.1.toNat)≤szL B2 r∧x_.2.2.1.length≤x_.2.2.2.1∧runLines l (r.drop x_.2.2.2.1.toNat) x_.1 x_.2.1 x_.2.2.1=runScript b l r)∧x_.2.2.2.2.1=z_.2.2.2.2.1,fun(x_:SBuilder×ByteArray×(List ByteArray)×Int×SBuilder×Unit)=>r.length-x_.2.2.2.1.toNat⟩
theorem k264_297:Bl.ok Tryz.prog 264:=Fct.p (KP [1,2,3,6,7,8,9,10,11,13,14,15,16,20,21,22] [23,39]) (fun⟨b,l,r,_⟩=>lv [(5,BE b l r)]) Aa9.2 Tryz.func264 (by
 rintro⟨(b:SBuilder),(l:List SSheet),(r:List SLine),_⟩ hp
 refine ho (.cl fCopyBuilder (b,()) fun z2=>lpx (BE b l r) (z2.1,((⟨#[]⟩:ByteArray),([],((0:Int),(default,()))))) fun(y2:SBuilder×ByteArray×List ByteArray×Int×SBuilder×PUnit) bk2=>.br (decide (y2.2.2.2.1<(↑r.length:Int))) (.ob (inB y2.2.2.2.1 r.length)<|.cl fRunLine (y2.1,l,r.getD y2.2.2.2.1.toNat default,()) fun z3=>.ob (sameSize y2.2.1 z3.2.1)<|.br (!z3.2.2.1.toList==(⟨#[]⟩:ByteArray).toList) (.ob (True)<|.ob (Bi (y2.2.2.1.length+[z3.2.2.1].length) 16)<|.ob (l=l)<|.ob (r=r)<|.ob (Value.string (⟨#[]⟩:ByteArray)=Value.string (⟨#[]⟩:ByteArray))<|.ob (r=r)<|.ob (Value.int IntKind.i64 (↑r.length:Int)=Value.int IntKind.i64 (↑r.length:Int))<|.ob (bk2 (z3.1,(y2.2.1++z3.2.1,(y2.2.2.1++[z3.2.2.1],(w1 y2.2.2.2.1,(y2.2.2.2.2.1,()))))))<|.ok) (.ob (l=l)<|.ob (r=r)<|.ob (Value.string (⟨#[]⟩:ByteArray)=Value.string (⟨#[]⟩:ByteArray))<|.ob (r=r)<|.ob (Value.int IntKind.i64 (↑r.length:Int)=Value.int IntKind.i64 (↑r.length:Int))<|.ob (bk2 (z3.1,(y2.2.1++z3.2.1,(y2.2.2.1,(w1 y2.2.2.2.1,(y2.2.2.2.2.1,()))))))<|.ok)) (.lf Bl (y2.1,y2.2.1,y2.2.2.1,()))) ?_
 refine Ae ?_ fun o1=>(AG ?_ fun(y2:SBuilder×ByteArray×List ByteArray×Int×SBuilder×PUnit) i2=>Ab (fun h3=>Aa ?_ fun o4=>Ae ?_ fun o5=>(Aa ?_ fun o6=>Ab (fun h7=>Aa trivial fun _=>Aa ?_ fun o8=>Aa rfl fun _=>Aa rfl fun _=>Aa rfl fun _=>Aa rfl fun _=>Aa rfl fun _=>Aa ?_ fun o9=>trivial) (fun h7=>Aa rfl fun _=>Aa rfl fun _=>Aa rfl fun _=>Aa rfl fun _=>Aa rfl fun _=>Aa ?_ fun o10=>trivial))) (fun h3=>lfY ?_))
 all_goals
  have hr:=Ad B2 r
  have hx:∀ i,i<r.length→szL B2 (r.drop i)=(r.getD i default).text.size+1+szL B2 (r.drop (i+1)):=fun i h=>szL_at B2 h
  have hs:=fun bb x=>runLine_sz bb l x
  have hrs:runLines l r b ⟨#[]⟩ []=runScript b l r:=rfl
  try simp only[AH] at *
  try simp only[BE,fCopyBuilder,fRunLine,Bl,std,Nat.reduceAdd,fCopyBuilder,fRunLine,runLines_at,runLines_end,sameSize,ByteArray.size_append] at *
  try simp(disch:=omega) only[wrapId',toNat1] at *
  try simp(disch:=omega) only[if_pos,if_neg]
 all_goals first|trivial|omega|grind[wrapId',toNat1,drop_cons,drop_end,good_len,maxLen,fCopyBuilder,fRunLine,runLines_at,runLines_end,sameSize,ByteArray.size_append])
def Zc:=Aa9.a k264_297
theorem rule_cutS (w:ByteArray):ruleOf w=if isName (Dy 58 w).1=true∧(parseInt (Dy 58 w).2.1).2=true∧1≤(parseInt (Dy 58 w).2.1).1∧(parseInt (Dy 58 w).2.1).1≤999 then some ⟨(Dy 58 w).1,(parseInt (Dy 58 w).2.1).1⟩ else none:=by
 unfold ruleOf Dy
 cases h:Dr 58 (toL w) with
 | none=>
  dsimp only
  rw[if_neg]
  rintro⟨_,q,_⟩
  have:(parseInt ⟨#[]⟩).2=false:=by unfold parseInt;rw[if_neg (by rintro⟨q,_⟩;exact absurd q (by decide))]
  exact tf q this
 | some r=>rfl
abbrev Br (s:ByteArray):LInv:=⟨[⟨.b,3,true,.el .sheet⟩,⟨.s,15,true,.el .int⟩,⟨.b,2,true,.el .sheet⟩,⟨.s,13,true,.sl .str⟩],fun(z_:SSheet×Int×SSheet×(List ByteArray)×Unit) (x_:SSheet×Int×SSheet×(List ByteArray)×Unit)=>((0≤x_.2.1∧x_.2.1≤(spl 59 s).length∧x_.1.rules.length≤8∧parseRules ((spl 59 s).drop x_.2.1.toNat) x_.1.rules=parseRules (spl 59 s) [])∧x_.2.2.1=z_.2.2.1)∧x_.2.2.2.1=z_.2.2.2.1,fun(x_:SSheet×Int×SSheet×(List ByteArray)×Unit)=>(spl 59 s).length-x_.2.1.toNat⟩
theorem k297_298:fParseSheet.ok Tryz.prog 297:=Fct.p (KP [0,2,3,5,6,7,9,10,13,14,15] [16,44]) (fun⟨s,_⟩=>lv [(3,Br s)]) Zc.2 Tryz.func297 (by
 rintro⟨(s:ByteArray),_⟩ hp
 refine ho (.cl DM (s,(⟨#[59]⟩:ByteArray),()) fun z2=>lpx (Br s) (default,((0:Int),(default,(z2.1,())))) fun(y2:SSheet×Int×SSheet×List ByteArray×PUnit) bk2=>.br (decide (y2.2.1<(↑z2.1.length:Int))) (.ob (inB y2.2.1 y2.2.2.2.1.length)<|.ob (y2.2.1.toNat<y2.2.2.2.1.length)<|.cl Nn (y2.2.2.2.1.getD y2.2.1.toNat default,(⟨#[58]⟩:ByteArray),()) fun z3=>.cl BW (z3.2.1,()) fun(z4:Int×Bool×PUnit)=>.br (z4.2.1) (.cl fIsName (z3.1,()) fun z5=>.br (z5.1) (.cl fInRange (z4.1,(1:Int),(999:Int),()) fun z6=>.br (z6.1) (.br (decide ((↑y2.1.rules.length:Int)<8)) (.ob (True)<|.ob (Bi (y2.1.rules.length+[(⟨z3.1,z4.1⟩:SRule)].length) 24)<|.ob (Value.string s=Value.string s)<|.ob (Value.int IntKind.i64 (↑z2.1.length:Int)=Value.int IntKind.i64 (↑z2.1.length:Int))<|.ob (bk2 ((⟨y2.1.rules++[(⟨z3.1,z4.1⟩:SRule)]⟩:SSheet),(w1 y2.2.1,(y2.2.2.1,(y2.2.2.2.1,())))))<|.ok) (.ob (Value.string s=Value.string s)<|.ob (Value.int IntKind.i64 (↑z2.1.length:Int)=Value.int IntKind.i64 (↑z2.1.length:Int))<|.ob (bk2 (y2.1,(w1 y2.2.1,(y2.2.2.1,(y2.2.2.2.1,())))))<|.ok)) (.ob (Value.string s=Value.string s)<|.ob (Value.int IntKind.i64 (↑z2.1.length:Int)=Value.int IntKind.i64 (↑z2.1.length:Int))<|.ob (bk2 (y2.1,(w1 y2.2.1,(y2.2.2.1,(y2.2.2.2.1,())))))<|.ok)) (.ob (Value.string s=Value.string s)<|.ob (Value.int IntKind.i64 (↑z2.1.length:Int)=Value.int IntKind.i64 (↑z2.1.length:Int))<|.ob (bk2 (y2.1,(w1 y2.2.1,(y2.2.2.1,(y2.2.2.2.1,())))))<|.ok)) (.ob (Value.string s=Value.string s)<|.ob (Value.int IntKind.i64 (↑z2.1.length:Int)=Value.int IntKind.i64 (↑z2.1.length:Int))<|.ob (bk2 (y2.1,(w1 y2.2.1,(y2.2.2.1,(y2.2.2.2.1,())))))<|.ok)) (.lf fParseSheet (y2.1,()))) ?_
 refine Ae ?_ fun o1=>(AG ?_ fun(y2:SSheet×Int×SSheet×List ByteArray×PUnit) i2=>Ab (fun h3=>Aa ?_ fun o4=>Aa ?_ fun o5=>Ae ?_ fun o6=>(Ae ?_ fun o7=>(Ab (fun h8=>Ae ?_ fun o9=>(Ab (fun h10=>Ae trivial fun _=>(Ab (fun h11=>Ab (fun h12=>Aa trivial fun _=>Aa ?_ fun o13=>Aa rfl fun _=>Aa rfl fun _=>Aa ?_ fun o14=>trivial) (fun h12=>Aa rfl fun _=>Aa rfl fun _=>Aa ?_ fun o15=>trivial)) (fun h11=>Aa rfl fun _=>Aa rfl fun _=>Aa ?_ fun o16=>trivial))) (fun h10=>Aa rfl fun _=>Aa rfl fun _=>Aa ?_ fun o17=>trivial))) (fun h8=>Aa rfl fun _=>Aa rfl fun _=>Aa ?_ fun o18=>trivial)))) (fun h3=>lfY ?_))
 all_goals
  have hk:=DH 59 s
  have hm:∀ i,i<(spl 59 s).length→((spl 59 s).getD i default).size≤s.size:=fun i h=>FM (getD_in h)
  have hp1:s.size≤4200000000:=hp
  try simp only[AH] at *
  try simp only[Br,Nn,fInRange,fIsName,BW,fParseSheet,DM,std,Nat.reduceAdd,DM,Nn,BW,fIsName,fInRange,inRange] at *
  try simp only[show(#[59]:Array UInt8).getD 0 0=59 from rfl,show(#[58]:Array UInt8).getD 0 0=58 from rfl,Bool.and_eq_true,Bool.and_eq_false_iff,decide_eq_true_eq,decide_eq_false_iff_not] at *
 all_goals first|omega|exact⟨by omega,by omega,by decide,rfl⟩|(obtain⟨⟨⟨a1,a2,a3,a4⟩,e1⟩,e2⟩:=i2;simp only[e2] at *)
 all_goals try (have hw:=hm y2.2.1.toNat (by omega);have hc:=cutS_sz 58 ((spl 59 s).getD y2.2.1.toNat default))
 all_goals first|omega|exact⟨by omega,by omega⟩|(rw[parseRules_end (by omega)] at a4;show y2.1=parseSheet s;unfold parseSheet;rw[←a4])|skip
 all_goals have e:=parseRules_at (l:=spl 59 s) (i:=y2.2.1.toNat) (acc:=y2.1.rules) (by omega)
 all_goals rw[a4,rule_cutS] at e
 all_goals rw[An (by omega),show(y2.2.1+1).toNat=y2.2.1.toNat+1 by omega]
 all_goals first|(rw[if_neg (by omega)] at e;exact⟨⟨⟨⟨by omega,by omega,by omega,e.symm⟩,e1⟩,by first|trivial|rfl⟩,by omega⟩)|skip
 all_goals first|(rw[if_pos (show y2.1.rules.length<8 by omega),if_pos ⟨by assumption,by assumption,by omega,by omega⟩] at e;exact⟨⟨⟨⟨by omega,by omega,by simp only[List.length_append,List.length_cons,List.length_nil];omega,e.symm⟩,e1⟩,by first|trivial|rfl⟩,by omega⟩)|skip
 all_goals rw[if_neg (show ¬ (isName _=true∧_) by rintro⟨q1,q2,q3,q4⟩;first|omega|exact tf q1 (by assumption)|exact tf q2 (by assumption)),Option.toList_none,List.append_nil,ite_self] at e
 all_goals exact⟨⟨⟨⟨by omega,by omega,by omega,e.symm⟩,e1⟩,by first|trivial|rfl⟩,by omega⟩)
def Z9:=Zc.a k297_298
def runL (p:SPage) (l:List SLine) (w:Bool):SPage:={ p with builder:=(runScript p.builder (sheetsOf p.slots) l).1,log:=addLog p.log (runScript p.builder (sheetsOf p.slots) l).2.2,queue:=if w=true then tokensOf (runScript p.builder (sheetsOf p.slots) l).2.1++p.queue else p.queue }
def okRL (p:SPage) (l:List SLine):Prop:=p.queue.length≤1000000000000∧szBuilder p.builder≤40000000000∧szL AL p.slots≤40000000000∧okBod p∧szL B2 l≤366
def BM:GS:=⟨[.b (.el .page),.l (.v (.sl .line)),.l (.v (.el .bool))],[],fun(x_:SPage×(List SLine)×Bool×Unit)=>okRL x_.1 x_.2.1,fun(x_:SPage×(List SLine)×Bool×Unit)=>((()),(runL x_.1 x_.2.1 x_.2.2.1,()))⟩
theorem okRL_run {p:SPage} {l:List SLine} (h:okRL p l):szL AL p.slots≤1000000000000∧okBod p∧szBuilder p.builder≤50000000000∧szL Cq (sheetsOf p.slots)≤100000000000∧szL B2 l≤1000000000∧okSheets (sheetsOf p.slots)∧(runScript p.builder (sheetsOf p.slots) l).2.1.size≤366∧(runScript p.builder (sheetsOf p.slots) l).2.2.length≤366∧p.queue.length≤1000000000000:=by
 obtain⟨h1,h2,h3,h4,h5⟩:=h
 have hs:=sheetsOf_sz p.slots
 have hr:=runLines_sz (sheetsOf p.slots) l p.builder ⟨#[]⟩ []
 have hl:=Ad B2 l
 have h0:ByteArray.size ⟨#[]⟩=0:=rfl
 simp only[List.length_nil] at hr
 exact⟨by omega,h4,by omega,by omega,by omega,hs.2,by(show(runLines (sheetsOf p.slots) l p.builder ⟨#[]⟩ []).2.1.size≤366;omega),by(show(runLines (sheetsOf p.slots) l p.builder ⟨#[]⟩ []).2.2.length≤366;omega),by omega⟩
abbrev BR (p:SPage):LInv:=⟨[⟨.s,3,true,.sl .sheet⟩,⟨.s,10,true,.el .int⟩],fun _ (x_:(List SSheet)×Int×Unit)=>0≤x_.2.1∧x_.2.1≤p.slots.length∧x_.1.length≤x_.2.1∧x_.1++sheetsOf (p.slots.drop x_.2.1.toNat)=sheetsOf p.slots,fun(x_:(List SSheet)×Int×Unit)=>p.slots.length-x_.2.1.toNat⟩
theorem k265_299:BN.ok Tryz.prog 265:=Fct.p (KP [1,2,3,5,8,9,10] [11,25]) (fun⟨p,_⟩=>lv [(3,BR p)]) Z9.2 Tryz.func265 (by
 rintro⟨(p:SPage),_⟩ hp
 refine ho (lpx (BR p) ([],((0:Int),())) fun(y1:List SSheet×Int×PUnit) bk1=>.br (decide (y1.2.1<(↑p.slots.length:Int))) (.ob (inB y1.2.1 p.slots.length)<|.br ((p.slots.getD y1.2.1.toNat default).mode==2) (.br ((p.slots.getD y1.2.1.toNat default).done) (.br ((p.slots.getD y1.2.1.toNat default).code==1) (.cl fParseSheet ((p.slots.getD y1.2.1.toNat default).body,()) fun z2=>.ob (Bi (y1.1.length+[z2.1].length) 24)<|.ob (p.slots=p.slots)<|.ob (Value.int IntKind.i64 (↑p.slots.length:Int)=Value.int IntKind.i64 (↑p.slots.length:Int))<|.ob (bk1 (y1.1++[z2.1],(w1 y1.2.1,())))<|.ok) (.ob (p.slots=p.slots)<|.ob (Value.int IntKind.i64 (↑p.slots.length:Int)=Value.int IntKind.i64 (↑p.slots.length:Int))<|.ob (bk1 (y1.1,(w1 y1.2.1,())))<|.ok)) (.ob (p.slots=p.slots)<|.ob (Value.int IntKind.i64 (↑p.slots.length:Int)=Value.int IntKind.i64 (↑p.slots.length:Int))<|.ob (bk1 (y1.1,(w1 y1.2.1,())))<|.ok)) (.ob (p.slots=p.slots)<|.ob (Value.int IntKind.i64 (↑p.slots.length:Int)=Value.int IntKind.i64 (↑p.slots.length:Int))<|.ob (bk1 (y1.1,(w1 y1.2.1,())))<|.ok)) (.lf BN (y1.1,()))) ?_
 refine AG ?_ fun(y1:List SSheet×Int×PUnit) i1=>Ab (fun h2=>Aa ?_ fun o3=>Ab (fun h4=>Ab (fun h5=>Ab (fun h6=>Ae ?_ fun o7=>(Aa ?_ fun o8=>Aa rfl fun _=>Aa rfl fun _=>Aa ?_ fun o9=>trivial)) (fun h6=>Aa rfl fun _=>Aa rfl fun _=>Aa ?_ fun o10=>trivial)) (fun h5=>Aa rfl fun _=>Aa rfl fun _=>Aa ?_ fun o11=>trivial)) (fun h4=>Aa rfl fun _=>Aa rfl fun _=>Aa ?_ fun o12=>trivial)) (fun h2=>lfY ?_)
 all_goals
  have h0:sheetsOf (p.slots.drop 0)=sheetsOf p.slots:=rfl
  have hl:=Ad AL p.slots
  have hg:∀ i,i<p.slots.length→(p.slots.getD i default).body.size≤4200000000:=hp.2
  have hg2:szL AL p.slots≤1000000000000:=hp.1
  clear hp
  try simp only[AH] at *
  try simp only[BR,fParseSheet,BN,std,Nat.reduceAdd,fParseSheet,sheetsOf_at,sheetsOf_end,List.length_append,List.length_cons,List.length_nil,List.append_assoc] at *
  try simp(disch:=omega) only[wrapId',toNat1] at *
  try simp(disch:=omega) only[if_pos,if_neg]
 all_goals first|trivial|omega|grind[wrapId',toNat1,drop_cons,drop_end,good_len,maxLen,fParseSheet,sheetsOf_at,sheetsOf_end,List.length_append,List.length_cons,List.length_nil,List.append_assoc])
def Aaj:=Z9.a k265_299
end Go.Proofs.YtgjngkplonejjaaGreatDoor.fnExactArrivePart
