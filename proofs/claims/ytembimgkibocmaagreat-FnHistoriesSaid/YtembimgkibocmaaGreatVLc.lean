/-
  The library of the proof, part 3.
-/
import Derived.Test.YtembimgkibocmaaGreatVLb
import Derived.Orders
import Derived.LoopN
import Derived.Carry
import Derived.ChangeOld
import Derived.ChangeArms
import Derived.ChangeShapes
import Derived.WideShapes
import Derived.ProofKit
import Derived.OpenShut
import Derived.Handed
set_option linter.unusedVariables false
set_option linter.unusedSimpArgs false
namespace Go.D
def deadSt (d:Option Nat) (σ:St):St:={ σ with tm:=(match d with|some d=>[(d,skp)]|none=>[]),bx:=[],hp:=[]}
def isCut (E:Env) (o:Oper) (v:St):Bool:=match o.op with
 | .store _ _ _=>true
 | .call c=>match c.callee with
  | .builtin .append=>(match c.args.toList with
   | .tmp t::_=>(match v.get t with
    | .capd _ 0=>false
    | .capd l c=>!(match look v.hp l with|some T=>T.n==c&&flatTy T.t|none=>false)
    | _=>true)
   | _=>true)
  | .builtin .clear=>true
  | .value f=>match v.eval f with
   | .clo g _=>match E.fn g with
    | some (ms,_)=>ms.any fun m=>match m with
     | .lend=>false
     | .cur=>false
     | _=>true
    | none=>false
   | _=>false
  | _=>false
 | .buildSlice _ _ ps=>!(ps.toList.all fun p=>(v.eval p.2).refsAll fun _=>false)
 | _=>false
def cutOk (t:Tab) (i:Nat):Bool:=(List.range t.n).all fun k=>k==i||(bif decide (k<i) then t.bit i k else t.bit k i)
def isBS (o:Oper):Bool:=match o.op with
 | .buildSlice _ _ _=>true
 | _=>false
def asgC (t:Tab) (o:Oper) (i:Nat):Bool:=(match o.op with | .assign _=>true|_=>false)&&cutOk t i
def classOk (t:Tab) (i:Nat) (o:Oper) (σ:St):Bool:=match o.dst with
 | none=>true
 | some d=>(match look t.ws d with|some k=>k==i|none=>false)&&decide (d<σ.nt)
def TV.isCur:TV→Bool
 | .cur=>true
 | _=>false
def isCurCall (o:Oper) (v:St):Bool:=match o.op with
 | .call c=>c.args.toList.any fun x=>(v.eval x).isCur
 | _=>false
def semi (t:Tab) (i:Nat):Bool:=(List.range t.n).all fun k=>decide (k≤i)||t.bit k i
def evR (P:Program) (E:Env) (ops:Array Oper) (t:Tab):Bool→List Nat→St→(St→Out)→Out
 | fr,[],σ,K=>bif fr||segOk t σ then K σ else .bad
 | fr,i::rest,σ,K=>match ops[i]? with
  | none=>.bad
  | some o=>
   bif (isCut E o (σ.view t (t.bit i))&&(cutOk t i || !isBS o))||asgC t o i then
    bif (fr||segOk t σ)&&cutOk t i then guarded ops o (σ.view t (t.bit i)) (σ.view t (t.bit i)) (fun v=>step P E false o v.lits (fun σ'=>evR P E ops t true rest σ' K)) (fun v=>evR P E ops t true rest (v.setTm o.dst skp) K) else .bad
   else bif classOk t i o σ then
    bif isCurCall o (σ.view t (t.bit i)) then
     bif (fr||segOk t σ)&&semi t i then guarded ops o σ (σ.view t (t.bit i)) (fun σr=>(step P E true o (σr.view t (t.bit i)) (.st .normal)).bindL (fun σ'=>evR P E ops t false rest (σr.merge o.dst σ') K)) (fun σr=>evR P E ops t false rest (σr.merge o.dst (deadSt o.dst σr)) K) else .bad
    else
    guarded ops o σ (σ.view t (t.bit i)) (fun σr=>(step P E true o (σr.view t (t.bit i)) (.st .normal)).bind (fun σ'=>evR P E ops t false rest (σr.merge o.dst σ') K)) (fun σr=>evR P E ops t false rest (σr.merge o.dst (deadSt o.dst σr)) K) else .bad
def dirsOk (ops:Array Oper):Bool:=ops.toList.zipIdx.all fun x=>(dirs x.1).all fun j=>decide (j<x.2)
section
variable {P:Program} {E:Env} {F:Fr P} {G G':Gh} {σ σ' σb:St} {a a':Act} {w w':World} {o:Oper} {K:St→Out} {Q:Post} {Qx:Exit→Act→World→Prop} {ops:Array Oper}
theorem wsGo_mem:∀ (os:List Oper) (i s k:Nat),(s,k)∈wsGo i os→i≤k∧∃ o,os[k-i]? = some o∧o.dst=some s:=by
 intro os
 induction os with
 | nil=>intro i s k h;simp[wsGo] at h
 | cons o os ih=>
  intro i s k h
  simp only[wsGo] at h
  grind
theorem ws_ok {s k:Nat} (h:look (tabOf ops).ws s=some k):∃ o,ops[k]? = some o∧o.dst=some s:=by
 have hm:=mem_look h
 simp only[tabOf,List.mem_filter] at hm
 obtain⟨_,o,h1,h2⟩:=wsGo_mem ops.toList 0 s k hm.1
 simp_all
theorem bit_ok {i j:Nat} {o:Oper} (ho:ops[i]? = some o) (h:(tabOf ops).bit i j=true):∃ e∈dirs o,j=e∨(tabOf ops).bit e j=true:=by
 have:=(masksGo_get ops.toList []).2.2 i o (by simpa using ho) j (by simpa [tabOf,Tab.bit] using h)
 simpa [tabOf,Tab.bit] using this
theorem bit_lt (hd:dirsOk ops=true):∀ (i j:Nat),(tabOf ops).bit i j=true→j<i:=by
 intro i
 induction i using Nat.strongRecOn with
 | ind i ih=>
  intro j h
  cases ho:ops[i]? with
  | none=>
   have hlen:(tabOf ops).T.length=ops.size:=by simpa [tabOf] using(masksGo_get ops.toList []).2.1
   have:ops.size≤i:=by simpa using ho
   have h0:(tabOf ops).T.getD i 0=0:=by rw[List.getD_eq_getElem?_getD,List.getElem?_eq_none (by omega)];rfl
   rw[Tab.bit,h0] at h
   simp at h
  | some o=>
   obtain⟨e,he,hh⟩:=bit_ok ho h
   have hlt:e<i:=by
    unfold dirsOk at hd
    rw[List.all_eq_true] at hd
    have:=hd (o,i) (by rw[List.mem_zipIdx_iff_getElem?];simpa using ho)
    simp_all
   grind
def Before (t:Tab) (i s:Nat):Prop:=∀ k,look t.ws s=some k→k<i
structure Later (t:Tab) (i:Nat) (σ σ':St):Prop where
 tm1:∀ s x,Before t i s→look σ.tm s=some x→∃ y,look σ'.tm s=some y∧Imp y x
 tm2:∀ s y,Before t i s→look σ'.tm s=some y→∃ x,look σ.tm s=some x∧Imp x y
 bx:∀ s,Before t i s→look σ'.bx s=look σ.bx s
 hp:∀ l,Before t i (l / 64)→look σ'.hp l=look σ.hp l
 fb:σ'.fb=σ.fb
 fl:σ'.fl=σ.fl
 nt:σ'.nt=σ.nt
theorem Later.refl (t:Tab) (i:Nat) (σ:St):Later t i σ σ:=⟨fun s x _ h=>⟨x,h,fun _ _ _ h=>h⟩,fun s x _ h=>⟨x,h,fun _ _ _ h=>h⟩,fun _ _=>rfl,fun _ _=>rfl,rfl,rfl,rfl⟩
theorem Later.trans {t:Tab} {i:Nat} {σ1 σ2 σ3:St} (h:Later t i σ1 σ2) (h':Later t i σ2 σ3):Later t i σ1 σ3 :=
 ⟨fun s x hb hl=>let ⟨y,h1,h2⟩:=h.tm1 s x hb hl;let ⟨z,h3,h4⟩:=h'.tm1 s y hb h1;⟨z,h3,fun w G v hv=>h2 w G v (h4 w G v hv)⟩,
  fun s z hb hl=>let ⟨y,h1,h2⟩:=h'.tm2 s z hb hl;let ⟨x,h3,h4⟩:=h.tm2 s y hb h1;⟨x,h3,fun w G v hv=>h2 w G v (h4 w G v hv)⟩,
  fun s hb=>(h'.bx s hb).trans (h.bx s hb),fun l hb=>(h'.hp l hb).trans (h.hp l hb),h'.fb.trans h.fb,h'.fl.trans h.fl,h'.nt.trans h.nt⟩
theorem Later.mono {t:Tab} {i j:Nat} (hij:i≤j) (h:Later t j σ σ'):Later t i σ σ':=by
 have hb:∀ s,Before t i s→Before t j s:=fun s hb k hk=>Nat.lt_of_lt_of_le (hb k hk) hij
 exact⟨fun s x hs=>h.tm1 s x (hb s hs),fun s x hs=>h.tm2 s x (hb s hs),fun s hs=>h.bx s (hb s hs),fun l hs=>h.hp l (hb _ hs),h.fb,h.fl,h.nt⟩
theorem Later.merge {t:Tab} {i:Nat} {d:Option Nat} (hd:∀ d0,d=some d0→look t.ws d0=some i):Later t i σ (σ.merge d σ'):=by
 cases d with
 | none=>exact Later.refl _ _ _
 | some d0=>
  have hne:∀ s,Before t i s→s≠d0:=fun s hs e=>by have:=hs i (e▸hd d0 rfl);omega
  refine⟨fun s x hs hl=>⟨x,?_,fun _ _ _ h=>h⟩,fun s x hs hl=>⟨x,?_,fun _ _ _ h=>h⟩,fun s hs=>?_,fun l hs=>?_,rfl,rfl,rfl⟩
  ·rw[merge_tm,if_neg (hne s hs)];exact hl
  ·rw[merge_tm,if_neg (hne s hs)] at hl;exact hl
  ·rw[merge_bx,if_neg (hne s hs)]
  ·rw[merge_hp,if_neg (hne _ hs)]
theorem BoolIs.imp {x y:TV} {b:Bool} (hx:BoolIs x b) (hy:BoolIs y b):Imp x y:=fun w G v h=>by rw[hx.val h];exact hy.mk
theorem get_look {σ:St} {t:Nat} {x:TV} (h:σ.get t=x) (hx:x≠.dead):look σ.tm t=some x:=by
 unfold St.get at h
 cases hq:look σ.tm t with
 | none=>rw[hq] at h;exact absurd h.symm hx
 | some y=>rw[hq] at h;simp only[Option.getD_some] at h;rw[h]
theorem Later.guard {t:Tab} {S:Nat→Bool} {i:Nat} {σr:St} {wanted:Bool} (hg:GuardIs ops o σ (σ.view t S) σr wanted):Later t i σ σr:=by
 rcases hg with⟨_,_,rfl⟩|⟨j,want,s0,b,_,_,h3,_,rfl|rfl⟩|⟨j,want,s0,_,_,_,_,rfl⟩
 ·exact Later.refl _ _ _
 ·exact Later.refl _ _ _
 ·have hl:look σ.tm s0=some ((σ.view t S).get s0):=by
   have:=get_look (σ:=σ.view t S) (t:=s0) rfl (by rcases h3 with e|e<;>rw[e]<;>simp)
   rw[look_view_tm] at this
   simp_all
  have hy:BoolIs (.v false [if b then Cell.tt else .ff]) b:=.inr rfl
  refine⟨fun s x hs hx=>?_,fun s x hs hx=>?_,fun _ _=>rfl,fun _ _=>rfl,rfl,rfl,rfl⟩
  ·simp only[St.put,look_put]
   by_cases e:s=s0
   ·subst e
    rw[hl] at hx
    injection hx with hx
    subst hx
    exact⟨_,by simp,hy.imp h3⟩
   ·exact⟨x,by simp[e,hx],fun _ _ _ h=>h⟩
  ·simp only[St.put,look_put] at hx
   by_cases e:s=s0
   ·subst e
    simp only[if_true,Option.some.injEq] at hx
    subst hx
    exact⟨_,hl,h3.imp hy⟩
   ·simp only[e,if_false] at hx
    exact⟨x,hx,fun _ _ _ h=>h⟩
 ·exact Later.refl _ _ _
def OpFact (P:Program) (E:Env) (ops:Array Oper) (i:Nat) (σ σ1:St):Prop:=∃ o σr wanted,ops[i]? = some o∧GuardIs ops o σ (σ.view (tabOf ops) ((tabOf ops).bit i)) σr wanted∧classOk (tabOf ops) i o σ=true ∧
 ((wanted=true∧∃ σ',(step P E true o (σr.view (tabOf ops) ((tabOf ops).bit i)) (.st .normal)).holds (is1 σ')∧σ1=σr.merge o.dst σ')∨(wanted=false∧σ1=σr.merge o.dst (deadSt o.dst σr)))
inductive Seg (P:Program) (E:Env) (ops:Array Oper):Nat→St→Nat→St→Prop where
 | nil (i:Nat) (σ:St):Seg P E ops i σ i σ
 | cons {i b:Nat} {σ σ1 σb:St}:OpFact P E ops i σ σ1→Seg P E ops (i+1) σ1 b σb→Seg P E ops i σ b σb
theorem classOk_ok {t:Tab} {i:Nat} (h:classOk t i o σ=true):∀ d,o.dst=some d→look t.ws d=some i∧d<σ.nt:=by
 intro d hd
 unfold classOk at h
 grind
theorem OpFact.later {i:Nat} {σ1:St} (h:OpFact P E ops i σ σ1):Later (tabOf ops) i σ σ1:=by
 obtain⟨o,σr,wanted,ho,hg,hc,h⟩:=h
 have h1:=Later.guard (i:=i) hg
 have hd:=fun d0 hd0=>(classOk_ok hc d0 hd0).1
 rcases h with⟨_,σ',_,rfl⟩|⟨_,rfl⟩
 ·exact h1.trans (Later.merge hd)
 ·exact h1.trans (Later.merge hd)
theorem Seg.later {i b:Nat} (h:Seg P E ops i σ b σb):i≤b∧Later (tabOf ops) i σ σb∧∀ k,i≤k→k<b→∃ σk σk1,OpFact P E ops k σk σk1∧Later (tabOf ops) (k+1) σk1 σb:=by
 induction h with
 | nil i σ=>exact⟨Nat.le_refl _,Later.refl _ _ _,fun k h1 h2=>by omega⟩
 | @cons i b σ σ1 σb hf _ ih=>
  obtain⟨h1,h2,h3⟩:=ih
  refine⟨by omega,hf.later.trans (h2.mono (by omega)),fun k hk1 hk2=>?_⟩
  grind
def TailFact (P:Program) (E:Env) (ops:Array Oper) (K:St→Out) (Q:Post) (n b:Nat) (σb:St):Prop :=
 (b=n∧(K σb).holds Q)∨(b<n∧∃ o,ops[b]? = some o∧cutOk (tabOf ops) b=true ∧
  (guarded ops o (σb.view (tabOf ops) ((tabOf ops).bit b)) (σb.view (tabOf ops) ((tabOf ops).bit b)) (fun v=>step P E false o v.lits (fun σ'=>evR P E ops (tabOf ops) true (List.range' (b+1) (n-(b+1))) σ' K)) (fun v=>evR P E ops (tabOf ops) true (List.range' (b+1) (n-(b+1))) (v.setTm o.dst skp) K)).holds Q) ∨
 (b<n∧∃ o,ops[b]? = some o∧semi (tabOf ops) b=true∧classOk (tabOf ops) b o σb=true ∧
  (guarded ops o σb (σb.view (tabOf ops) ((tabOf ops).bit b)) (fun σr=>(step P E true o (σr.view (tabOf ops) ((tabOf ops).bit b)) (.st .normal)).bindL (fun σ'=>evR P E ops (tabOf ops) false (List.range' (b+1) (n-(b+1))) (σr.merge o.dst σ') K)) (fun σr=>evR P E ops (tabOf ops) false (List.range' (b+1) (n-(b+1))) (σr.merge o.dst (deadSt o.dst σr)) K)).holds Q)
theorem evR_plan:∀ (m i:Nat) (fr:Bool) (σ:St),(evR P E ops (tabOf ops) fr (List.range' i m) σ K).holds Q→∃ b σb,Seg P E ops i σ b σb∧b≤i+m∧(segOk (tabOf ops) σb=true∨(fr=true∧b=i))∧TailFact P E ops K Q (i+m) b σb:=by
 intro m
 induction m with
 | zero=>
  intro i fr σ h
  simp only[List.range'_zero,evR] at h
  cases hs:(fr||segOk (tabOf ops) σ) with
  | false=>simp[hs,Out.holds] at h
  | true=>
   simp only[hs,cond_true] at h
   rw[Bool.or_eq_true] at hs
   exact⟨i,σ,.nil i σ,Nat.le_refl _,hs.symm.imp id (fun e=>⟨e,rfl⟩),.inl ⟨rfl,h⟩⟩
 | succ m ih=>
  intro i fr σ h
  simp only[List.range'_succ,evR] at h
  split at h
  ·exact h.elim
  ·rename_i o ho
   cases hcut:((isCut E o (σ.view (tabOf ops) ((tabOf ops).bit i))&&(cutOk (tabOf ops) i || !isBS o))||asgC (tabOf ops) o i) with
   | true=>
    simp only[hcut,cond_true] at h
    cases hc:((fr||segOk (tabOf ops) σ)&&cutOk (tabOf ops) i) with
    | false=>simp[hc,Out.holds] at h
    | true=>
     simp only[hc,cond_true] at h
     rw[Bool.and_eq_true,Bool.or_eq_true] at hc
     refine⟨i,σ,.nil i σ,by omega,hc.1.symm.imp id (fun e=>⟨e,rfl⟩),.inr (.inl ⟨by omega,o,ho,hc.2,?_⟩)⟩
     grind
   | false=>
    simp only[hcut,cond_false] at h
    cases hc:classOk (tabOf ops) i o σ with
    | false=>simp[hc,Out.holds] at h
    | true=>
     simp only[hc,cond_true] at h
     cases hcur:isCurCall o (σ.view (tabOf ops) ((tabOf ops).bit i)) with
     | true=>
      simp only[hcur,cond_true] at h
      cases hc2:((fr||segOk (tabOf ops) σ)&&semi (tabOf ops) i) with
      | false=>simp[hc2,Out.holds] at h
      | true=>
       simp only[hc2,cond_true] at h
       rw[Bool.and_eq_true,Bool.or_eq_true] at hc2
       refine⟨i,σ,.nil i σ,by omega,hc2.1.symm.imp id (fun e=>⟨e,rfl⟩),.inr (.inr ⟨by omega,o,ho,hc2.2,hc,?_⟩)⟩
       grind
     | false=>
     simp only[hcur,cond_false] at h
     obtain⟨σr,wanted,hg,h⟩:=guarded_holds h
     cases wanted with
     | true=>
      simp only[if_true] at h
      obtain⟨σ',h1,h2⟩:=Out.bind_holds h
      obtain⟨b,σb,k1,k2,k3,k4⟩:=ih (i+1) false _ h2
      rw[show i+1+m=i+(m+1) from by omega] at k2 k4
      exact⟨b,σb,.cons ⟨o,σr,true,ho,hg,hc,.inl ⟨rfl,σ',h1,rfl⟩⟩ k1,k2,.inl (k3.resolve_right (by simp)),k4⟩
     | false=>
      simp only[Bool.false_eq_true,if_false] at h
      obtain⟨b,σb,k1,k2,k3,k4⟩:=ih (i+1) false _ h
      rw[show i+1+m=i+(m+1) from by omega] at k2 k4
      exact⟨b,σb,.cons ⟨o,σr,false,ho,hg,hc,.inr ⟨rfl,rfl⟩⟩ k1,k2,.inl (k3.resolve_right (by simp)),k4⟩
end
end Go.D
namespace Go.D
def ren (ord:List Nat) (o:Oper):Oper:={ o with after:=o.after.map (fun e=>{ e with on:=ord.idxOf e.on }),guard:=o.guard.map fun g=>(ord.idxOf g.1,g.2)}
def permOps (ops:Array Oper) (ord:List Nat):Array Oper:=(ord.map fun i=>ren ord (ops.getD i default)).toArray
def permOk (n:Nat) (ord:List Nat):Bool:=(ord.length==n)&&((List.range n).all (fun i=>ord[ord.idxOf i]?==some i)&&(List.range n).all fun p=>match ord[p]? with
 | some i=>decide (i<n)&&ord.idxOf i==p
 | none=>false)
section
variable {P:Program} {Q:Exit→Act→World→Prop} {ops:Array Oper} {ord:List Nat}
theorem perm_len (h:permOk ops.size ord=true):ord.length=ops.size:=by
 unfold permOk at h;rw[Bool.and_eq_true] at h;simpa using h.1
theorem perm_to (h:permOk ops.size ord=true) {i:Nat} (hi:i<ops.size):ord[ord.idxOf i]? = some i:=by
 unfold permOk at h;simp only[Bool.and_eq_true] at h
 simp_all
theorem perm_lt (h:permOk ops.size ord=true) {i:Nat} (hi:i<ops.size):ord.idxOf i<ops.size:=by
 have:=(List.getElem?_eq_some_iff.1 (perm_to h hi)).1
 rw[perm_len h] at this
 exact this
theorem perm_from (h:permOk ops.size ord=true) {p:Nat} (hp:p<ops.size):∃ i,i<ops.size∧ord.idxOf i=p:=by
 unfold permOk at h;simp only[Bool.and_eq_true] at h
 have:=List.all_eq_true.1 h.2.2 p (List.mem_range.2 hp)
 grind
theorem perm_out (h:permOk ops.size ord=true) {i:Nat} (hi:ops.size≤i):ord.idxOf i=ops.size:=by
 rw[←perm_len h]
 refine List.idxOf_eq_length ?_
 intro hm
 obtain⟨p,hp,hpe⟩:=List.getElem_of_mem hm
 have hp2:p<ops.size:=by rw[←perm_len h];exact hp
 unfold permOk at h;simp only[Bool.and_eq_true] at h
 have:=List.all_eq_true.1 h.2.2 p (List.mem_range.2 hp2)
 grind
theorem perm_inj (h:permOk ops.size ord=true) {i j:Nat} (hi:i<ops.size) (he:ord.idxOf j=ord.idxOf i):j=i:=by
 rcases Nat.lt_or_ge j ops.size with hj|hj
 ·have h1:=perm_to h hj
  grind
 ·have h1:=perm_out h hj
  have h2:=perm_lt h hi
  omega
theorem perm_size (h:permOk ops.size ord=true):(permOps ops ord).size=ops.size:=by simp[permOps,perm_len h]
theorem perm_get (h:permOk ops.size ord=true) {i:Nat} {o:Oper} (ho:ops[i]? = some o):(permOps ops ord)[ord.idxOf i]? = some (ren ord o):=by
 have hi:=(Array.getElem?_eq_some_iff.1 ho).1
 simp only[permOps,List.getElem?_toArray,List.getElem?_map,perm_to h hi,Option.map_some]
 simp_all
theorem perm_none (h:permOk ops.size ord=true) {i:Nat} (ho:ops[i]? = none):(permOps ops ord)[ord.idxOf i]? = none:=by
 have hi:ops.size≤i:=by simpa using ho
 rw[perm_out h hi]
 simp[perm_size h]
theorem perm_dst (h:permOk ops.size ord=true) (i:Nat):((permOps ops ord)[ord.idxOf i]?).bind (·.dst)=(ops[i]?).bind (·.dst):=by
 cases ho:ops[i]? with
 | none=>rw[perm_none h ho]
 | some o=>rw[perm_get h ho];rfl
theorem perm_wanted (h:permOk ops.size ord=true) (o:Oper) (tmps:Array Value):Region.wanted (ren ord o) (yielded (permOps ops ord) tmps)=Region.wanted o (yielded ops tmps):=by
 unfold Region.wanted ren
 cases o.guard with
 | none=>rfl
 | some g=>
  obtain⟨j,want⟩:=g
  simp only[Option.map_some]
  have:yielded (permOps ops ord) tmps (ord.idxOf j)=yielded ops tmps j:=by
   unfold yielded
   rw[perm_dst h j]
  rw[this]
theorem perm_ready (h:permOk ops.size ord=true) {listed listed':Array Bool} (hs:listed.size=ops.size) (hs':listed'.size=ops.size) (hl:∀ j,listed.getD j false=listed'.getD (ord.idxOf j) false) {i:Nat} (hi:i<ops.size) :
 i∈Region.ready .any ops listed↔ord.idxOf i∈Region.ready .any (permOps ops ord) listed':=by
 unfold Region.ready
 rw[List.mem_filter,List.mem_filter,List.mem_range,List.mem_range,perm_size h]
 have ht:∀ (a:Array Bool) (k:Nat),k<a.size→a.getD k true=a.getD k false:=fun a k hk=>by simp[hk]
 have e1:listed.getD i true=listed'.getD (ord.idxOf i) true:=by
  rw[ht _ _ (by omega),ht _ _ (by have:=perm_lt h hi;omega),hl]
 have ho:ops[i]? = some ops[i]:=by simp[hi]
 rw[e1,ho,perm_get h ho]
 simp only[hi,perm_lt h hi,true_and,Option.map_some,Option.getD_some]
 have e2:((ren ord ops[i]).after.all fun e=>!Region.binds .any e||listed'.getD e.on false)=(ops[i].after.all fun e=>!Region.binds .any e||listed.getD e.on false):=by
  unfold ren
  rw[Array.all_map]
  congr 1
  funext e
  simp only[Function.comp]
  rw[hl e.on]
  rfl
 rw[e2]
theorem wpAny_perm (h:permOk ops.size ord=true):∀ (f:Nat) (listed listed':Array Bool) (a:Act) (w:World),listed.size=ops.size→listed'.size=ops.size→(∀ j,listed.getD j false=listed'.getD (ord.idxOf j) false) →
 wpAny P .any (permOps ops ord) Q f listed' a w→wpAny P .any ops Q f listed a w:=by
 have hnil:∀ (listed listed':Array Bool),listed.size=ops.size→listed'.size=ops.size→(∀ j,listed.getD j false=listed'.getD (ord.idxOf j) false)→(Region.ready .any (permOps ops ord) listed'=[]↔Region.ready .any ops listed=[]):=by
  intro listed listed' hs hs' hl
  constructor
  ·intro hn
   refine List.eq_nil_iff_forall_not_mem.2 fun i hi=>?_
   have hin:i<ops.size:=by unfold Region.ready at hi;exact List.mem_range.1 (List.mem_filter.1 hi).1
   have:=(perm_ready h hs hs' hl hin).1 hi
   rw[hn] at this
   cases this
  ·intro hn
   refine List.eq_nil_iff_forall_not_mem.2 fun p hp=>?_
   have hpn:p<ops.size:=by unfold Region.ready at hp;have:=List.mem_range.1 (List.mem_filter.1 hp).1;rw[perm_size h] at this;exact this
   obtain⟨i,hi,rfl⟩:=perm_from h hpn
   have:=(perm_ready h hs hs' hl hi).2 hp
   rw[hn] at this
   cases this
 intro f
 induction f with
 | zero=>
  intro listed listed' a w hs hs' hl hh
  exact⟨(hnil listed listed' hs hs' hl).1 hh.1,hh.2⟩
 | succ f ih=>
  intro listed listed' a w hs hs' hl hh
  refine⟨fun hn=>hh.1 ((hnil listed listed' hs hs' hl).2 hn),fun i hi=>?_⟩
  have hin:i<ops.size:=by unfold Region.ready at hi;exact List.mem_range.1 (List.mem_filter.1 hi).1
  have h1:=hh.2 _ ((perm_ready h hs hs' hl hin).1 hi)
  have hk:∀ a w,wpAny P .any (permOps ops ord) Q f (listed'.setIfInBounds (ord.idxOf i) true) a w→wpAny P .any ops Q f (listed.setIfInBounds i true) a w:=by
   intro a w hk
   refine ih _ _ a w (by simp[hs]) (by simp[hs']) (fun j=>?_) hk
   by_cases e:j=i
   ·subst e
    have:=perm_lt h hin
    simp[hs,hs',hin,this]
   ·have e2:¬ ord.idxOf j=ord.idxOf i:=fun e2=>e (perm_inj h hin e2)
    have:=hl j
    simp only[Array.getD_eq_getD_getElem?] at this ⊢
    rw[Array.getElem?_setIfInBounds_ne (fun x=>e x.symm),Array.getElem?_setIfInBounds_ne (fun x=>e2 x.symm)]
    exact this
  have ho:ops[i]? = some ops[i]:=by simp[hin]
  unfold wpOp at h1 ⊢
  rw[ho]
  rw[perm_get h ho] at h1
  dsimp only at h1 ⊢
  rw[perm_wanted h] at h1
  split
  ·rename_i hw
   rw[if_pos hw] at h1
   exact h1.imp (fun hx=>Oper.wp_mono (o:=ops[i]) hk hx) id
  ·rename_i hw
   rw[if_neg hw] at h1
   exact hk _ _ h1
end
end Go.D
namespace Go.D
section
variable {P:Program} {ops:Array Oper} {Q:Exit→Act→World→Prop}
theorem getD_set {l:Array Bool} {i k:Nat} (hi:i<l.size):(l.setIfInBounds i true).getD k false=(l.getD k false||k==i):=by
 by_cases e:k=i
 ·subst e;simp[hi]
 ·have h1:¬ i=k:=fun h=>e h.symm
  simp[h1,e]
theorem ready_ok {listed:Array Bool} (hsz:listed.size=ops.size) {i:Nat}:i∈Region.ready .any ops listed↔∃ o,ops[i]? = some o∧listed.getD i false=false∧∀ j∈dirs o,listed.getD j false=true:=by
 unfold Region.ready
 rw[List.mem_filter,List.mem_range]
 have hg:i<ops.size→(listed.getD i true=listed.getD i false):=by
  intro h
  simp[hsz,h]
 constructor
 ·rintro⟨h1,h2⟩
  simp only[Bool.and_eq_true,Bool.not_eq_true'] at h2
  obtain⟨h2,h3⟩:=h2
  refine⟨ops[i],by simp[h1],by rw[←hg h1];exact h2,fun j hj=>?_⟩
  simp only[Array.getElem?_eq_getElem h1,Option.map_some,Option.getD_some,Array.all_eq_true'] at h3
  unfold dirs at hj
  grind
 ·rintro⟨o,ho,h2,h3⟩
  have h1:=(Array.getElem?_eq_some_iff.1 ho).1
  refine⟨h1,?_⟩
  rw[Bool.and_eq_true,Bool.not_eq_true']
  refine⟨by rw[hg h1];exact h2,?_⟩
  rw[ho]
  simp only[Option.map_some,Option.getD_some,Array.all_eq_true']
  intro e he
  cases hb:Region.binds .any e with
  | false=>rfl
  | true=>
   have:=h3 e.on (List.mem_map.2 ⟨e,List.mem_filter.2 ⟨by simpa using he,hb⟩,rfl⟩)
   simpa using this
theorem closed_add (t:Tab) {S:Nat→Bool} {i:Nat} (hc:t.Closed S) (hi:∀ j,t.bit i j=true→S j=true):t.Closed (fun k=>S k||k==i):=by
 intro k hk j hj
 simp only[Bool.or_eq_true,beq_iff_eq] at hk ⊢
 rcases hk with hk|rfl
 ·exact .inl (hc k hk j hj)
 ·exact .inl (hi j hj)
def addE (ops:Array Oper) (i k:Nat):Array Oper:=ops.modify i fun o=>{ o with after:=o.after.push ⟨k,.phase⟩}
def padOk (ops:Array Oper) (i k:Nat):Bool:=match ops[i]?,ops[k]? with
 | some oi,some ok=>Region.noSelect ops && !(i==k)&&ok.guard.isNone&&(match ok.op with | .extract _ _=>true | .move _=>true|_=>false) &&
  (dirs ok).all (fun e=>(tabOf ops).bit i e)&&(List.range ops.size).all fun j=>j==k||((tabOf ops).bit k j||match ops[j]? with
   | some oj=>oj.after.any (fun e=>Region.binds .any e&&e.on==k)||ok.apart ops oj
   | none=>true)
 | _,_=>false
def padGo (ops:Array Oper):List (Nat×Nat)→Array Oper
 | []=>ops
 | (i,k)::r=>bif padOk ops i k then padGo (addE ops i k) r else padGo ops r
def isAsg (o:Oper):Bool:=match o.op with
 | .assign _=>true
 | _=>false
def isExt (o:Oper):Bool:=match o.op with
 | .extract _ _=>true
 | _=>false
def isMv (o:Oper):Bool:=match o.op with
 | .move _=>true
 | _=>false
def isSt (o:Oper):Bool:=match o.op with
 | .store _ _ _=>true
 | _=>false
def isApp (o:Oper):Bool:=match o.op with
 | .call c=>(match c.callee with
  | .builtin .append=>true
  | _=>false)
 | _=>false
def pairsOf (ops:Array Oper):List (Nat×Nat) :=
 (ops.toList.zipIdx.filter fun x=>isAsg x.1||isSt x.1||isApp x.1).flatMap fun x=>(ops.toList.zipIdx.filter fun y=>(isExt y.1||(isSt x.1||isApp x.1)&&isMv y.1)&&decide (y.2<x.2) && !(tabOf ops).bit x.2 y.2).map fun y=>(x.2,y.2)
theorem addE_size (i k:Nat):(addE ops i k).size=ops.size:=by simp[addE]
theorem padGo_size:∀ (ps:List (Nat×Nat)) (ops:Array Oper),(padGo ops ps).size=ops.size
 | [],_=>rfl
 | (i,k)::r,ops=>by
  unfold padGo
  cases padOk ops i k
  ·exact padGo_size r ops
  ·exact(padGo_size r _).trans (addE_size i k)
theorem addE_get {i k j:Nat} {o:Oper} (h:ops[j]? = some o):(addE ops i k)[j]? = some (if j=i then{ o with after:=o.after.push ⟨k,.phase⟩} else o):=by
 unfold addE
 grind
theorem addE_none {i k j:Nat} (h:ops[j]? = none):(addE ops i k)[j]? = none:=by
 unfold addE
 simp_all
theorem addE_dst (i k j:Nat):((addE ops i k)[j]?).bind (·.dst)=(ops[j]?).bind (·.dst):=by
 cases h:ops[j]? with
 | none=>rw[addE_none h]
 | some o=>rw[addE_get h];split<;>rfl
theorem addE_yielded (i k:Nat) (tmps:Array Value):yielded (addE ops i k) tmps=yielded ops tmps:=by
 funext j
 unfold yielded
 rw[addE_dst]
theorem addE_wpOp {i k j:Nat} {K:Act→World→Prop} {a:Act} {w:World} (h:wpOp P (addE ops i k) Q j K a w):wpOp P ops Q j K a w:=by
 unfold wpOp at *
 cases ho:ops[j]? with
 | none=>rw[addE_none ho] at h;exact h
 | some o=>
  rw[addE_get ho] at h
  dsimp only at h ⊢
  rw[addE_yielded] at h
  by_cases e:j=i
  ·simp only[e,if_true] at h;exact h
  ·simp_all
theorem dirs_addE {o:Oper} {k:Nat} {j:Nat}:j∈dirs { o with after:=o.after.push ⟨k,.phase⟩}↔j∈dirs o∨j=k:=by
 unfold dirs
 simp only[Array.toList_push,List.filter_append,List.map_append,List.mem_append]
 have:Region.binds .any ⟨k,.phase⟩=true:=rfl
 simp[this]
theorem ext_runs (tv:Value) (ix:Nat):(∃ v,Instr.extract tv ix=pure v)∨∃ s,Instr.extract tv ix=stuck s:=by
 unfold Instr.extract
 split
 ·split
  ·exact .inl ⟨_,rfl⟩
  ·exact .inr ⟨_,rfl⟩
 ·exact .inr ⟨_,rfl⟩
theorem wpAny_edge {i k:Nat} (hpad:padOk ops i k=true) (hN:∀ e a w,Q e a w→e=.normal):∀ (f:Nat) (listed:Array Bool) (a:Act) (w:World),listed.size=ops.size→(tabOf ops).Closed (fun j=>listed.getD j false) →
 wpAny P .any (addE ops i k) Q f listed a w→wpAny P .any ops Q f listed a w:=by
 unfold padOk at hpad
 split at hpad
 ·rename_i oi ok hoi hok
  simp only[Bool.and_eq_true,Bool.not_eq_true',beq_eq_false_iff_ne,ne_eq] at hpad
  obtain⟨⟨⟨⟨⟨hsel,hik⟩,hgk⟩,hek⟩,hdk⟩,hap⟩:=hpad
  rw[List.all_eq_true] at hdk hap
  have hlet:¬ LetsOut Q:=fun⟨a,w,h⟩=>by cases hN _ _ _ h
  have hsub:∀ (listed:Array Bool),listed.size=ops.size→∀ j,j∈Region.ready .any (addE ops i k) listed↔(j∈Region.ready .any ops listed∧(j=i→listed.getD k false=true)):=by
   intro listed hs j
   rw[ready_ok (ops:=addE ops i k) (by rw[addE_size,hs]),ready_ok hs]
   constructor
   ·rintro⟨o,ho,h1,h2⟩
    cases hoj:ops[j]? with
    | none=>rw[addE_none hoj] at ho;cases ho
    | some o'=>
     rw[addE_get hoj] at ho
     injection ho with ho
     by_cases e:j=i
     ·rw[if_pos e] at ho
      subst ho
      exact⟨⟨o',rfl,h1,fun x hx=>h2 x (dirs_addE.2 (.inl hx))⟩,fun _=>h2 k (dirs_addE.2 (.inr rfl))⟩
     ·rw[if_neg e] at ho
      subst ho
      exact⟨⟨o',rfl,h1,h2⟩,fun e2=>absurd e2 e⟩
   ·rintro⟨⟨o,ho,h1,h2⟩,h3⟩
    refine⟨_,addE_get ho,h1,fun x hx=>?_⟩
    by_cases e:j=i
    ·rw[if_pos e] at hx
     rcases dirs_addE.1 hx with hx|hx
     ·exact h2 x hx
     ·rw[hx];exact h3 e
    ·rw[if_neg e] at hx;exact h2 x hx
  have hclo:∀ (listed:Array Bool) (j:Nat) (o:Oper),listed.size=ops.size→(tabOf ops).Closed (fun j=>listed.getD j false)→ops[j]? = some o→(∀ x∈dirs o,listed.getD x false=true)→∀ x,(tabOf ops).bit j x=true→listed.getD x false=true:=by
   intro listed j o hs hc ho hd x hb
   obtain⟨e,he,hh⟩:=bit_ok ho hb
   rcases hh with rfl|hh
   ·exact hd _ he
   ·exact hc e (hd e he) x hh
  intro f
  induction f using Nat.strongRecOn with
  | ind f ih=>
   intro listed a w hs hc h
   have next:∀ (g:Nat) (j:Nat) (o:Oper) (a:Act) (w:World),g<f→ops[j]? = some o→(∀ x∈dirs o,listed.getD x false=true)→wpAny P .any (addE ops i k) Q g (listed.setIfInBounds j true) a w→wpAny P .any ops Q g (listed.setIfInBounds j true) a w:=by
    intro g j o a w hg ho hd hh
    refine ih g hg _ a w (by simp[hs]) ?_ hh
    have hj:j<listed.size:=by rw[hs];exact(Array.getElem?_eq_some_iff.1 ho).1
    rw[show(fun x=>(listed.setIfInBounds j true).getD x false)=fun x=>listed.getD x false||x==j from funext fun x=>getD_set hj]
    exact closed_add _ hc (hclo listed j o hs hc ho hd)
   cases f with
   | zero=>
    refine⟨?_,h.2⟩
    have h0:=h.1
    refine List.eq_nil_iff_forall_not_mem.2 fun j hj=>?_
    have hk0:∀ j,j∉Region.ready .any (addE ops i k) listed:=fun j=>by rw[h0];simp
    by_cases e:j=i∧listed.getD k false=false
    ·obtain⟨e1,e2⟩:=e
     subst e1
     obtain⟨o,ho,h1,h2⟩:=(ready_ok hs).1 hj
     refine hk0 k ((hsub listed hs k).2 ⟨(ready_ok hs).2 ⟨ok,hok,e2,fun x hx=>hclo listed j o hs hc ho h2 x (hdk x hx)⟩,fun e=>absurd e.symm hik⟩)
    ·refine hk0 j ((hsub listed hs j).2 ⟨hj,fun e1=>?_⟩)
     cases e2:listed.getD k false with
     | true=>rfl
     | false=>exact absurd ⟨e1,e2⟩ e
   | succ f=>
    refine⟨fun hr=>h.1 ?_,fun j hj=>?_⟩
    ·refine List.eq_nil_iff_forall_not_mem.2 fun j hj=>?_
     have:=((hsub listed hs j).1 hj).1
     rw[hr] at this
     cases this
    ·obtain⟨o,ho,h1,h2⟩:=(ready_ok hs).1 hj
     by_cases e:j=i∧listed.getD k false=false
     ·obtain⟨e1,e2⟩:=e
      subst e1
      rw[ho] at hoi
      injection hoi with hoi
      subst hoi
      have hkr:k∈Region.ready .any (addE ops j k) listed:=(hsub listed hs k).2 ⟨(ready_ok hs).2 ⟨ok,hok,e2,fun x hx=>hclo listed j o hs hc ho h2 x (hdk x hx)⟩,fun e=>absurd e.symm hik⟩
      have hkd:∀ x∈dirs ok,listed.getD x false=true:=fun x hx=>hclo listed j o hs hc ho h2 x (hdk x hx)
      have hk1:=addE_wpOp (h.2 k hkr)
      have hapj:ok.apart ops o=true:=by
       have:=hap j (List.mem_range.2 (Array.getElem?_eq_some_iff.1 ho).1)
       rw[ho] at this
       simp only[Bool.or_eq_true,beq_iff_eq] at this
       rcases this with h3|h3|h3|h3
       ·exact absurd h3 hik
       ·have:=hclo listed k ok hs hc hok hkd j h3
        rw[h1] at this;cases this
       ·obtain⟨e,he,hb⟩:=Array.any_eq_true'.1 h3
        simp only[Bool.and_eq_true,beq_iff_eq] at hb
        have:=h2 k (List.mem_map.2 ⟨e,List.mem_filter.2 ⟨by simpa using he,hb.1⟩,hb.2⟩)
        rw[e2] at this;cases this
       ·exact h3
      obtain⟨ap1,ap2,ap3⟩:=Oper.apart_spec hapj
      have hgk':ok.guard=none:=by simpa using hgk
      have wk:∀ a:Act,Region.wanted ok (yielded ops a.tmps)=true:=fun a=>by unfold Region.wanted;rw[hgk']
      obtain⟨v,hy,hk2⟩:∃ v,Yields P ops ok v a∧wpAny P .any (addE ops j k) Q f (listed.setIfInBounds k true) (a.put ok.dst v) w:=by
       unfold wpOp at hk1
       rw[hok] at hk1
       dsimp only at hk1
       rw[wk a,if_pos rfl] at hk1
       rcases hk1 with hh|hh
       ·unfold Oper.wp execOp at hh
        cases hop:ok.op<;>rw[hop] at hek<;>first|cases hek;done|skip
        ·rename_i x
         rw[hop] at hh
         exact⟨a.eval x,.inl ⟨wk a,fun w=>by unfold execOp;rw[hop];rfl⟩,hh⟩
        ·rename_i t ix
         rw[hop] at hh
         dsimp only at hh
         rcases ext_runs (a.eval t) ix with⟨v,hv⟩|⟨s,hs⟩
         ·rw[hv] at hh
          exact⟨v,.inl ⟨wk a,fun w=>by unfold execOp;rw[hop];dsimp only;rw[hv];rfl⟩,hh⟩
         ·rw[hs] at hh;exact hh.elim
       ·exact absurd hh.2 hlet
      have sk:(listed.setIfInBounds k true).size=ops.size:=by simp[hs]
      have hkl:k<listed.size:=by rw[hs];exact(Array.getElem?_eq_some_iff.1 hok).1
      have hjl:j<listed.size:=by rw[hs];exact(Array.getElem?_eq_some_iff.1 ho).1
      have hir:j∈Region.ready .any (addE ops j k) (listed.setIfInBounds k true):=(hsub _ sk j).2 ⟨(ready_ok sk).2 ⟨o,ho,by rw[getD_set hkl,h1];simpa using hik,fun x hx=>by rw[getD_set hkl,h2 x hx];rfl⟩,fun _=>by rw[getD_set hkl];simp⟩
      cases f with
      | zero=>rw[hk2.1] at hir;cases hir
      | succ f'=>
       have hi2:=addE_wpOp (hk2.2 j hir)
       have hc2:(tabOf ops).Closed (fun x=>(listed.setIfInBounds k true).getD x false):=by
        rw[show(fun x=>(listed.setIfInBounds k true).getD x false)=fun x=>listed.getD x false||x==k from funext fun x=>getD_set hkl]
        exact closed_add _ hc (hclo listed k ok hs hc hok hkd)
       have hc3:(tabOf ops).Closed (fun x=>((listed.setIfInBounds k true).setIfInBounds j true).getD x false):=by
        rw[show(fun x=>((listed.setIfInBounds k true).setIfInBounds j true).getD x false)=fun x=>(listed.setIfInBounds k true).getD x false||x==j from funext fun x=>getD_set (by simp[hjl])]
        exact closed_add _ hc2 (hclo _ j o sk hc2 ho fun x hx=>by rw[getD_set hkl,h2 x hx];rfl)
       have hi3:=wpOp_mono (fun a' w' hh=>ih f' (by omega) _ a' w' (by simp[hs]) hc3 hh) hi2
       have hQ:∀ c a w,Q (.panic c) (a.put ok.dst v) w→Q (.panic c) a w:=fun c a w hq=>by cases hN _ _ _ hq
       have hi4:=wpOp_put ho hapj (fun cs b=>Region.noSelect_spec hsel k ok cs b hok) (fun cs b=>Region.noSelect_spec hsel j o cs b ho) hQ hy hi3
       refine wpOp_mono (fun a' w' hh=>?_) hi4
       obtain⟨hy',hi5⟩:=hh
       rw[Array.setIfInBounds_comm _ _ (Ne.symm hik)] at hi5
       refine wpAny_first hok (Region.noSelect_spec hsel) hQ f' (listed.setIfInBounds j true) a' w' (fun m om hm hmk hun hno=>?_) ?_ hy' hi5
       ·have hml:m<listed.size:=by rw[hs];exact(Array.getElem?_eq_some_iff.1 hm).1
        have hunl:listed.getD m false=false:=by
         have h5:(listed.setIfInBounds j true).getD m false=false:=by
          have:m<(listed.setIfInBounds j true).size:=by simp[hml]
          simp only[Array.getD_eq_getD_getElem?,Array.getElem?_eq_getElem this,Option.getD_some] at hun ⊢
          exact hun
         rw[getD_set hjl,Bool.or_eq_false_iff] at h5
         exact h5.1
        have:=hap m (List.mem_range.2 (Array.getElem?_eq_some_iff.1 hm).1)
        rw[hm] at this
        simp only[Bool.or_eq_true,beq_iff_eq] at this
        rcases this with h3|h3|h3|h3
        ·exact absurd h3 hmk
        ·have:=hclo listed k ok hs hc hok hkd m h3
         rw[hunl] at this;cases this
        ·obtain⟨e,he,hb⟩:=Array.any_eq_true'.1 h3
         simp only[Bool.and_eq_true,beq_iff_eq] at hb
         exact absurd hb.2 (hno e he hb.1)
        ·exact h3
       ·exact(ready_ok (by simp[hs])).2 ⟨ok,hok,by rw[getD_set hjl,e2];simpa using Ne.symm hik,fun x hx=>by rw[getD_set hjl,hkd x hx];rfl⟩
     ·have hj2:j∈Region.ready .any (addE ops i k) listed:=(hsub listed hs j).2 ⟨hj,fun e1=>by
       cases e2:listed.getD k false with
       | true=>rfl
       | false=>exact absurd ⟨e1,e2⟩ e⟩
      exact addE_wpOp (wpOp_mono (fun a' w' hh=>next f j o a' w' (by omega) ho h2 hh) (h.2 j hj2))
 ·cases hpad
theorem wpAny_pad (hN:∀ e a w,Q e a w→e=.normal):∀ (ps:List (Nat×Nat)) (ops:Array Oper) (f:Nat) (listed:Array Bool) (a:Act) (w:World),listed.size=ops.size→(∀ k,listed.getD k false=true→False) →
 wpAny P .any (padGo ops ps) Q f listed a w→wpAny P .any ops Q f listed a w
 | [],_,_,_,_,_,_,_,h=>h
 | (i,k)::r,ops,f,listed,a,w,hs,h0,h=>by
  unfold padGo at h
  cases hp:padOk ops i k with
  | false=>rw[hp,cond_false] at h;exact wpAny_pad hN r ops f listed a w hs h0 h
  | true=>
   rw[hp,cond_true] at h
   exact wpAny_edge hp hN f listed a w hs (fun x hx=>(h0 x hx).elim) (wpAny_pad hN r _ f listed a w (by rw[addE_size,hs]) h0 h)
end
end Go.D
namespace Go.D
section
variable {P:Program} {E:Env} {F:Fr P} {G G':Gh} {σ σ' σb:St} {a a':Act} {w w':World} {o:Oper} {K:St→Out} {Q:Post} {Qx:Exit→Act→World→Prop} {ops:Array Oper}
theorem ok_mono {t:Tab} {S S':Nat→Bool} (h:∀ k,S k=true→S' k=true) {s:Nat} (hs:t.ok S s=true):t.ok S' s=true:=by
 unfold Tab.ok at hs ⊢
 grind
theorem ok_before {t:Tab} {S:Nat→Bool} {i:Nat} (h:∀ k,S k=true→k<i) {s:Nat} (hs:t.ok S s=true):Before t i s:=by
 intro k hk
 unfold Tab.ok at hs
 simp_all
theorem view_back {t:Tab} {i:Nat} {B S:Nat→Bool} (h:RG F G (σb.view t S) a w) (hB:∀ k,B k=true→k<i) (hS:∀ k,B k=true→S k=true) (hl:Later t i σ σb):RG F G (σ.view t B) a w:=by
 refine h.weaken ?_ ?_ ?_ hl.fb.symm hl.fl.symm hl.nt.symm
 ·intro s x hx
  rw[look_view_tm] at hx
  split at hx
  ·rename_i hs
   obtain⟨y,h1,h2⟩:=hl.tm1 s x (ok_before hB hs) hx
   exact⟨y,by rw[look_view_tm,if_pos (ok_mono hS hs)];exact h1,fun v=>h2 w G v⟩
  ·cases hx
 ·intro s cs hx
  rw[look_view_bx] at hx ⊢
  split at hx
  ·rename_i hs
   rw[if_pos (ok_mono hS hs),hl.bx s (ok_before hB hs)]
   exact hx
  ·cases hx
 ·intro l T hx
  rw[look_view_hp] at hx ⊢
  split at hx
  ·rename_i hs
   rw[if_pos (ok_mono hS hs),hl.hp l (ok_before hB hs)]
   exact hx
  ·cases hx
theorem view_start {t:Tab} {i:Nat} {S:Nat→Bool} (h:RG F G σ a w) (hS:∀ k,S k=true→k<i) (hl:Later t i σ σb):RG F G (σb.view t S) a w:=by
 refine h.weaken ?_ ?_ ?_ hl.fb hl.fl hl.nt
 ·intro s x hx
  rw[look_view_tm] at hx
  split at hx
  ·rename_i hs
   obtain⟨y,h1,h2⟩:=hl.tm2 s x (ok_before hS hs) hx
   exact⟨y,h1,fun v=>h2 w G v⟩
  ·cases hx
 ·intro s cs hx
  rw[look_view_bx] at hx
  split at hx
  ·rename_i hs
   rw[←hl.bx s (ok_before hS hs)]
   exact hx
  ·cases hx
 ·intro l T hx
  rw[look_view_hp] at hx
  split at hx
  ·rename_i hs
   rw[←hl.hp l (ok_before hS hs)]
   exact hx
  ·cases hx
theorem view_fwd {t:Tab} {i:Nat} {S:Nat→Bool} (h:RG F G (σ.view t S) a w) (hS:∀ k,S k=true→k<i) (hl:Later t i σ σb):RG F G (σb.view t S) a w:=by
 refine h.weaken ?_ ?_ ?_ hl.fb hl.fl hl.nt
 ·intro s x hx
  rw[look_view_tm] at hx
  split at hx
  ·rename_i hs
   obtain⟨y,h1,h2⟩:=hl.tm2 s x (ok_before hS hs) hx
   exact⟨y,by rw[look_view_tm,if_pos hs];exact h1,fun v=>h2 w G v⟩
  ·cases hx
 ·intro s cs hx
  rw[look_view_bx] at hx ⊢
  split at hx
  ·rename_i hs
   rw[if_pos hs,←hl.bx s (ok_before hS hs)]
   exact hx
  ·cases hx
 ·intro l T hx
  rw[look_view_hp] at hx ⊢
  split at hx
  ·rename_i hs
   rw[if_pos hs,←hl.hp l (ok_before hS hs)]
   exact hx
  ·cases hx
theorem view_congr {t:Tab} {S S':Nat→Bool} (h:RG F G (σ.view t S) a w) (he:∀ s,t.ok S' s=true→t.ok S s=true):RG F G (σ.view t S') a w:=by
 refine h.weaken ?_ ?_ ?_ rfl rfl rfl
 ·intro s x hx
  rw[look_view_tm] at hx
  split at hx
  ·rename_i hs;exact⟨x,by rw[look_view_tm,if_pos (he s hs)];exact hx,fun _ h=>h⟩
  ·cases hx
 ·intro s cs hx
  rw[look_view_bx] at hx ⊢
  simp_all
 ·intro l T hx
  rw[look_view_hp] at hx ⊢
  simp_all
theorem view_fun {t:Tab} {S S':Nat→Bool} (h:RG F G (σ.view t S) a w) (he:∀ k,S' k=true→S k=true):RG F G (σ.view t S') a w:=view_congr h fun _ hs=>ok_mono he hs
theorem view_all {n:Nat} (h:RG F G (σ.view (tabOf ops) (fun k=>decide (k<ops.size))) a w):RG F G σ a w:=by
 have hk:∀ s,(tabOf ops).ok (fun k=>decide (k<ops.size)) s=true:=by
  intro s
  unfold Tab.ok
  cases e:look (tabOf ops).ws s with
  | none=>rfl
  | some k=>
   obtain⟨o,ho,_⟩:=ws_ok e
   grind
 refine h.weaken ?_ ?_ ?_ rfl rfl rfl
 ·intro s x hx;exact⟨x,by rw[look_view_tm,if_pos (hk s)];exact hx,fun _ h=>h⟩
 ·intro s cs hx;rw[look_view_bx,if_pos (hk s)];exact hx
 ·intro l T hx;rw[look_view_hp,if_pos (hk _)];exact hx
theorem class_op (hE:EOk P E) (hd:dirsOk ops=true) {k:Nat} {S:Nat→Bool} {σk σk1:St} (hf:OpFact P E ops k σk σk1) (hl:Later (tabOf ops) (k+1) σk1 σb) (hb:segOk (tabOf ops) σb=true) (hc:(tabOf ops).Closed S) (hS:S k=false)
 (hpre:∀ j,(tabOf ops).bit k j=true→S j=true) (h:RG F G (σb.view (tabOf ops) S) a w) {Kx:Act→World→Prop} (hK:∀ a' w' G',RG F G' (σb.view (tabOf ops) (fun j=>S j||j==k)) a' w'→Kx a' w') :
 wpOp P ops Qx k Kx a w:=by
 have hf0:=hf
 obtain⟨o,σr,wanted,ho,hg,hcl,hh⟩:=hf
 have hmask:∀ j,(tabOf ops).bit k j=true→j<k:=fun j hj=>bit_lt hd k j hj
 have lr:Later (tabOf ops) k σr σb:=by
  have hd0:=fun d0 hd0=>(classOk_ok hcl d0 hd0).1
  rcases hh with⟨_,σ',_,rfl⟩|⟨_,rfl⟩
  ·exact(Later.merge hd0).trans (hl.mono (Nat.le_succ k))
  ·exact(Later.merge hd0).trans (hl.mono (Nat.le_succ k))
 have lk:Later (tabOf ops) k σk σb:=(Later.guard hg).trans lr
 have vk:=view_back h hmask hpre lk
 have vr:=view_back h hmask hpre lr
 have hw:=hg.wanted_ok vk
 have hu:∀ d,o.dst=some d→∀ s,look (tabOf ops).ws s=some k→s=d:=by
  intro d hd s hs
  obtain⟨o',ho',hd'⟩:=ws_ok hs
  rw[ho] at ho'
  injection ho' with ho'
  subst ho'
  rw[hd] at hd'
  injection hd' with hd'
  exact hd'.symm
 have nob:∀ d,o.dst=some d→¬ Before (tabOf ops) k d∧Before (tabOf ops) (k+1) d:=by
  intro d hd
  have h1:=(classOk_ok hcl d hd).1
  exact⟨fun hb=>by have:=hb k h1;omega,fun j hj=>by grind⟩
 have dlt:∀ d,o.dst=some d→d<a.tmps.size:=by
  intro d hd
  have h1:=(classOk_ok hcl d hd).2
  have h2:a.tmps.size=σk.nt:=vk.nt
  exact h2▸h1
 have noneOk:o.dst=none→∀ s,(tabOf ops).ok (fun j=>S j||j==k) s=true→(tabOf ops).ok S s=true:=by
  intro hn s hs
  unfold Tab.ok at hs ⊢
  cases e:look (tabOf ops).ws s with
  | none=>rfl
  | some j=>
   rw[e] at hs
   obtain⟨o',ho',hd'⟩:=ws_ok e
   have:¬ j=k:=by
    intro ejk
    subst ejk
    rw[ho] at ho'
    injection ho' with ho'
    subst ho'
    rw[hn] at hd'
    cases hd'
   simpa [this] using hs
 unfold wpOp
 rw[ho]
 dsimp only
 rw[hw]
 have tmE:∀ d (σ':St),o.dst=some d→σk1=σr.merge o.dst σ'→(∀ x,look σb.tm d=some x→Imp (σ'.get d) x)∧(∀ cs,look σb.bx d=some cs→look σ'.bx d=some cs)∧∀ l T,l / 64=d→look σb.hp l=some T→look σ'.hp l=some T:=by
  intro d σ' hd he
  have hb1:=(nob d hd).2
  rw[hd] at he
  subst he
  refine⟨fun x hx=>?_,fun cs hx=>?_,fun l T hld hx=>?_⟩
  ·obtain⟨y,h1,h2⟩:=hl.tm2 d x hb1 hx
   rw[merge_tm,if_pos rfl] at h1
   injection h1 with h1
   rw[h1]
   exact h2
  ·rw[hl.bx d hb1,merge_bx,if_pos rfl] at hx
   exact hx
  ·rw[hl.hp l (by grind),merge_hp,if_pos hld] at hx
   exact hx
 rcases hh with⟨rfl,σ',hst,he⟩|⟨rfl,he⟩
 ·simp only[if_true]
  refine .inl (Oper.wp_mono ?_ (step_ok (cls:=true) hE vr hst))
  rintro a' w' ⟨σ'',G',hG',⟨_,rfl⟩,hext⟩
  cases hdst:o.dst with
  | none=>
   obtain⟨v,rfl⟩:=hext.act
   rw[hdst]
   refine hK _ _ G ?_
   exact view_congr (hext.world h) (noneOk hdst)
  | some d=>
   obtain⟨v,rfl⟩:=hext.act
   rw[hdst] at hext hG' ⊢
   obtain⟨e1,e2,e3⟩:=tmE d σ'' hdst he
   refine hK _ _ G' (merge_ok hc hS (classOk_ok hcl d hdst).1 (hu d hdst) hb h (dlt d hdst) hG' hext e1 e2 e3)
 ·simp only[Bool.false_eq_true,if_false]
  cases hdst:o.dst with
  | none=>exact hK _ _ G (view_congr h (noneOk hdst))
  | some d=>
   rw[hdst] at he
   obtain⟨e1,e2,e3⟩:=tmE d (deadSt (some d) σr) hdst (by grind)
   have hG':RG F G (deadSt (some d) σr) (a.put (some d) undef) w:=by
    have:=(vr.skip (some d))
    refine this.weaken (fun s x hx=>?_) (fun s cs hx=>by simp[deadSt,look] at hx) (fun l T hx=>by simp[deadSt,look] at hx) rfl rfl rfl
    simp only[deadSt,look] at hx
    split at hx
    ·rename_i e
     injection hx with hx
     subst hx
     refine⟨skp,?_,fun _ h=>h⟩
     simp only[St.setTm,St.put,look_put,if_pos (beq_iff_eq.1 e)]
    ·cases hx
   refine hK _ _ G (merge_ok hc hS (classOk_ok hcl d hdst).1 (hu d hdst) hb h (dlt d hdst) hG' .same e1 e2 e3)
theorem semi_op (hE:EOk P E) (hd:dirsOk ops=true) {k:Nat} {S:Nat→Bool} {σk:St} (ho:ops[k]? = some o) (hcl:classOk (tabOf ops) k o σk=true) (hc:(tabOf ops).Closed S) (hS:S k=false) (hlt:∀ j,S j=true→j<k)
 (hpre:∀ j,(tabOf ops).bit k j=true→S j=true) (h:RG F G (σk.view (tabOf ops) S) a w) {f:St→Out} {X:St→St→Prop}
 (hf:∀ σ1,(f σ1).holds Q→∃ σb,X σ1 σb∧Later (tabOf ops) (k+1) σ1 σb∧segOk (tabOf ops) σb=true)
 (hh:(guarded ops o σk (σk.view (tabOf ops) ((tabOf ops).bit k)) (fun σr=>(step P E true o (σr.view (tabOf ops) ((tabOf ops).bit k)) (.st .normal)).bindL (fun σ'=>f (σr.merge o.dst σ'))) (fun σr=>f (σr.merge o.dst (deadSt o.dst σr)))).holds Q) {Kx:Act→World→Prop}
 (hK:∀ σ1 σb a' w' G',X σ1 σb→Later (tabOf ops) k σk σ1→Later (tabOf ops) (k+1) σ1 σb→segOk (tabOf ops) σb=true→RG F G' (σb.view (tabOf ops) (fun j=>S j||j==k)) a' w'→Kx a' w') :
 wpOp P ops Qx k Kx a w:=by
 obtain⟨σr,wanted,hg,hh⟩:=guarded_holds hh
 have hmask:∀ j,(tabOf ops).bit k j=true→j<k:=fun j hj=>bit_lt hd k j hj
 have lg:=Later.guard (i:=k) hg
 have vk:RG F G (σk.view (tabOf ops) ((tabOf ops).bit k)) a w:=view_fun h hpre
 have vr:=view_back (σ:=σr) (σb:=σr) (i:=k) (B:=(tabOf ops).bit k) (S:=S) (view_fwd h hlt lg) hmask hpre (Later.refl _ _ _)
 have hw:=hg.wanted_ok vk
 have hd0:=fun d0 hd0=>(classOk_ok hcl d0 hd0).1
 have hu:∀ d,o.dst=some d→∀ s,look (tabOf ops).ws s=some k→s=d:=by
  intro d hd s hs
  obtain⟨o',ho',hd'⟩:=ws_ok hs
  rw[ho] at ho'
  injection ho' with ho'
  subst ho'
  rw[hd] at hd'
  injection hd' with hd'
  exact hd'.symm
 have nob:∀ d,o.dst=some d→Before (tabOf ops) (k+1) d:=by
  intro d hd
  have h1:=hd0 d hd
  exact fun j hj=>by grind
 have dlt:∀ d,o.dst=some d→d<a.tmps.size:=by
  intro d hd
  have h1:=(classOk_ok hcl d hd).2
  have h2:a.tmps.size=σk.nt:=vk.nt
  exact h2▸h1
 have noneOk:o.dst=none→∀ s,(tabOf ops).ok (fun j=>S j||j==k) s=true→(tabOf ops).ok S s=true:=by
  intro hn s hs
  unfold Tab.ok at hs ⊢
  cases e:look (tabOf ops).ws s with
  | none=>rfl
  | some j=>
   rw[e] at hs
   obtain⟨o',ho',hd'⟩:=ws_ok e
   have:¬ j=k:=by
    intro ejk
    subst ejk
    rw[ho] at ho'
    injection ho' with ho'
    subst ho'
    rw[hn] at hd'
    cases hd'
   simpa [this] using hs
 have fin:∀ (σ':St) (G':Gh) (a':Act) (w':World),(f (σr.merge o.dst σ')).holds Q→RG F G' σ' a' w'→(∃ v,a'=a.put o.dst v)→Ext o.dst G a w G' a' w'→Kx a' w':=by
  intro σ' G' a' w' hq hG' hv hext
  obtain⟨v,rfl⟩:=hv
  obtain⟨σb,hX,hl,hb⟩:=hf _ hq
  have lm:Later (tabOf ops) k σk (σr.merge o.dst σ'):=lg.trans (Later.merge hd0)
  have lb:Later (tabOf ops) k σk σb:=lm.trans (hl.mono (Nat.le_succ k))
  have hv2:=view_fwd h hlt lb
  cases hdst:o.dst with
  | none=>
   refine hK _ σb _ _ G (by rw[hdst] at hX;exact hX) (by grind) (by rw[hdst] at hl;exact hl) hb ?_
   exact view_congr (hext.world hv2) (noneOk hdst)
  | some d=>
   have hb1:=nob d hdst
   rw[hdst] at hext hG' hX lm hl
   refine hK _ σb _ _ G' hX lm hl hb (merge_ok hc hS (hd0 d hdst) (hu d hdst) hb hv2 (dlt d hdst) hG' hext ?_ ?_ ?_)
   ·intro x hx
    obtain⟨y,h1,h2⟩:=hl.tm2 d x hb1 hx
    rw[merge_tm,if_pos rfl] at h1
    injection h1 with h1
    rw[h1]
    exact h2
   ·intro cs hx
    rw[hl.bx d hb1,merge_bx,if_pos rfl] at hx
    exact hx
   ·intro l T hld hx
    rw[hl.hp l (by grind),merge_hp,if_pos hld] at hx
    exact hx
 unfold wpOp
 rw[ho]
 dsimp only
 rw[hw]
 cases wanted with
 | true=>
  refine .inl (Oper.wp_mono ?_ (step_ok (cls:=true) hE vr (Out.bindL_holds hh)))
  rintro a' w' ⟨σ'',G',hG',⟨_,hq⟩,hext⟩
  exact fin σ'' G' a' w' hq hG' hext.act hext
 | false=>
  refine fin (deadSt o.dst σr) G _ w hh ?_ ⟨_,rfl⟩ .same
  have:=(vr.skip o.dst)
  refine this.weaken (fun s x hx=>?_) (fun s cs hx=>by simp[deadSt,look] at hx) (fun l T hx=>by simp[deadSt,look] at hx) ?_ ?_ ?_
  ·cases hdst:o.dst with
   | none=>rw[hdst] at hx;simp[deadSt,look] at hx
   | some d=>
    rw[hdst] at hx
    simp only[deadSt,look] at hx
    split at hx
    ·rename_i e
     injection hx with hx
     subst hx
     refine⟨skp,?_,fun _ h=>h⟩
     simp only[St.setTm,St.put,look_put,if_pos (beq_iff_eq.1 e)]
    ·cases hx
  all_goals (cases o.dst<;>rfl)
def unl (S:Nat→Bool):Nat→Nat
 | 0=>0
 | n+1=>unl S n+(if S n then 0 else 1)
theorem unl_zero {S:Nat→Bool}:∀ {n:Nat},unl S n=0→∀ k,k<n→S k=true:=by
 intro n
 induction n with
 | zero=>intro _ k hk;omega
 | succ n ih=>
  intro h k hk
  simp only[unl] at h
  grind
theorem unl_add {S:Nat→Bool} {i:Nat} (hS:S i=false):∀ {n:Nat},(n≤i→unl (fun k=>S k||k==i) n=unl S n)∧(i<n→unl (fun k=>S k||k==i) n+1=unl S n):=by
 intro n
 induction n with
 | zero=>exact⟨fun _=>rfl,fun h=>by omega⟩
 | succ n ih=>
  refine⟨fun h=>?_,fun h=>?_⟩
  ·have:=ih.1 (by omega)
   have hne:¬ n=i:=by omega
   simp[unl,this,hne]
  ·by_cases e:n=i
   ·subst e
    have:=ih.1 (Nat.le_refl _)
    simp[unl,this,hS]
   ·simp only[unl,e,beq_iff_eq,Bool.or_eq_true,or_false]
    omega
theorem cut_bits {t:Tab} {b:Nat} (hc:cutOk t b=true) {k:Nat} (hk:k<t.n):(k<b→t.bit b k=true)∧(b<k→t.bit k b=true):=by
 unfold cutOk at hc
 grind
theorem evR_ok (hE:EOk P E) (hd:dirsOk ops=true):∀ (f b:Nat) (σb:St) (G:Gh) (a:Act) (w:World) (listed:Array Bool),listed.size=ops.size→(∀ k,k<b→listed.getD k false=false→∃ σk σk1,OpFact P E ops k σk σk1∧Later (tabOf ops) (k+1) σk1 σb)→b≤ops.size →
 (∀ k,k<b→listed.getD k false=false→segOk (tabOf ops) σb=true)→TailFact P E ops K Q ops.size b σb →
 RG F G (σb.view (tabOf ops) (fun k=>listed.getD k false)) a w→(tabOf ops).Closed (fun k=>listed.getD k false)→(∀ k,b≤k→listed.getD k false=false)→unl (fun k=>listed.getD k false) ops.size≤f →
 wpAny P .any ops (fun e a w=>e=.normal∧Cont F K Q a w) f listed a w:=by
 intro f
 induction f with
 | zero=>
  intro b σb G a w listed hsz hops hb hok htail h hc hbk hu
  have hall:=unl_zero (Nat.le_zero.1 hu)
  have hbn:b=ops.size:=by
   rcases Nat.lt_or_ge b ops.size with hlt|hge
   ·have:=hall b hlt;rw[hbk b (Nat.le_refl _)] at this;cases this
   ·omega
  refine⟨?_,rfl,?_⟩
  ·refine List.eq_nil_iff_forall_not_mem.2 fun x hx=>?_
   obtain⟨o,ho,hx1,_⟩:=(ready_ok hsz).1 hx
   rw[hall x (Array.getElem?_eq_some_iff.1 ho).1] at hx1
   cases hx1
  ·rcases htail with⟨_,hh⟩|⟨hlt,_⟩|⟨hlt,_⟩
   ·exact⟨σb,⟨G,view_all (n:=ops.size) (view_fun h fun k hk=>hall k (by grind))⟩,hh⟩
   ·omega
   ·omega
 | succ f ih=>
  intro b σb G a w listed hsz hops hb hok htail h hc hbk hu
  have hdir:∀ k o,ops[k]? = some o→(∀ j∈dirs o,listed.getD j false=true)→∀ j,(tabOf ops).bit k j=true→listed.getD j false=true:=by
   intro k o ho hj j hb
   obtain⟨e,he,hh⟩:=bit_ok ho hb
   rcases hh with rfl|hh
   ·exact hj _ he
   ·exact hc e (hj e he) j hh
  constructor
  ·intro hnil
   have hall:∀ k,k<ops.size→listed.getD k false=true:=by
    intro k
    induction k using Nat.strongRecOn with
    | ind k ihk=>
     intro hk
     cases hl:listed.getD k false with
     | true=>rfl
     | false=>
      have:k∈Region.ready .any ops listed:=(ready_ok hsz).2 ⟨ops[k],by simp,hl,fun j hj=>by
       have hjk:j<k:=by
        unfold dirsOk at hd
        rw[List.all_eq_true] at hd
        have:=hd (ops[k],k) (by grind)
        rw[List.all_eq_true] at this
        simpa using this j hj
       exact ihk j hjk (by omega)⟩
      rw[hnil] at this
      cases this
   have hbn:b=ops.size:=by
    rcases Nat.lt_or_ge b ops.size with hlt|hge
    ·have:=hall b hlt;rw[hbk b (Nat.le_refl _)] at this;cases this
    ·omega
   refine⟨rfl,?_⟩
   rcases htail with⟨_,hh⟩|⟨hlt,_⟩|⟨hlt,_⟩
   ·exact⟨σb,⟨G,view_all (n:=ops.size) (view_fun h fun k hk=>hall k (by grind))⟩,hh⟩
   ·omega
   ·omega
  ·intro k hk
   obtain⟨o,ho,hkl,hkd⟩:=(ready_ok hsz).1 hk
   have hkn:k<ops.size:=(Array.getElem?_eq_some_iff.1 ho).1
   have hpre:=hdir k o ho hkd
   have hget:∀ j,(listed.setIfInBounds k true).getD j false=(listed.getD j false||j==k):=fun j=>getD_set (by omega)
   have hget':(fun j=>(listed.setIfInBounds k true).getD j false)=fun j=>listed.getD j false||j==k:=funext hget
   have hold:∀ j,(listed.setIfInBounds k true).getD j false=false→listed.getD j false=false∧j≠k:=by
    intro j hj
    rw[hget,Bool.or_eq_false_iff] at hj
    exact⟨hj.1,by grind⟩
   have hu':unl (fun j=>(listed.setIfInBounds k true).getD j false) ops.size≤f:=by
    rw[hget']
    have:=(unl_add (S:=fun j=>listed.getD j false) hkl (n:=ops.size)).2 hkn
    omega
   have hcl':(tabOf ops).Closed fun j=>(listed.setIfInBounds k true).getD j false:=by
    rw[hget']
    exact closed_add _ hc hpre
   by_cases hkb:k<b
   ·obtain⟨σk,σk1,hf,hl⟩:=hops k hkb hkl
    refine class_op hE hd hf hl (hok k hkb hkl) hc hkl hpre h fun a' w' G' h'=>?_
    refine ih b σb G' a' w' _ (by simp[hsz]) (fun j hj hj2=>hops j hj (hold j hj2).1) hb (fun j hj hj2=>hok j hj (hold j hj2).1) htail (by grind) hcl' (fun j hj=>?_) hu'
    rw[hget,hbk j hj]
    have:¬ j=k:=by omega
    simpa using this
   ·rcases htail with⟨hbn,_⟩|⟨hbn,ob,hob,hcut,hh⟩|⟨hbn,ob,hob,hsemi,hcls,hh⟩
    ·omega
    ·-- the operation that must stand alone
     have hkb':k=b:=by
      rcases Nat.lt_or_ge b k with hlt|hge
      ·have:=hpre b ((cut_bits hcut (show k<(tabOf ops).n from hkn)).2 hlt)
       rw[hbk b (Nat.le_refl _)] at this
       cases this
      ·omega
     subst hkb'
     rw[ho] at hob
     injection hob with hob
     subst hob
     have hall:∀ j,listed.getD j false=decide (j<k):=by
      intro j
      by_cases hj:j<k
      ·rw[hpre j ((cut_bits hcut (show j<(tabOf ops).n from(by show j<ops.size;omega))).1 hj)];simp[hj]
      ·rw[hbk j (by omega)];simp[hj]
     have hv:RG F G (σb.view (tabOf ops) ((tabOf ops).bit k)) a w:=view_fun h fun j hj=>hpre j hj
     obtain⟨σr,wanted,hg,hh⟩:=guarded_holds hh
     have hw:=hg.wanted_ok hv
     have hr:=hg.retold hv hv
     have next:∀ (σ':St) (G':Gh) (a':Act) (w':World),RG F G' σ' a' w'→(evR P E ops (tabOf ops) true (List.range' (k+1) (ops.size-(k+1))) σ' K).holds Q→wpAny P .any ops (fun e a w=>e=.normal∧Cont F K Q a w) f (listed.setIfInBounds k true) a' w':=by
      intro σ' G' a' w' h' hh'
      obtain⟨b',σb',k1,k2,k3,k4⟩:=evR_plan (ops.size-(k+1)) (k+1) true σ' hh'
      rw[show k+1+(ops.size-(k+1))=ops.size from by omega] at k2 k4
      obtain⟨l1,l2,l3⟩:=k1.later
      have hS:∀ j,(listed.setIfInBounds k true).getD j false=decide (j<k+1):=by
       intro j
       rw[hget,hall]
       by_cases h1:j<k
       ·simp[h1,show j<k+1 from by omega]
       ·by_cases h2:j=k
        ·simp[h2]
        ·simp[h1,h2,show ¬ j<k+1 from by omega]
      have hge:∀ j,(listed.setIfInBounds k true).getD j false=false→k+1≤j:=by
       intro j hj
       rw[hS] at hj
       simpa using hj
      refine ih b' σb' G' a' w' _ (by simp[hsz]) (fun j hj hj2=>l3 j (hge j hj2) hj) k2 (fun j hj hj2=>k3.resolve_right (by grind)) k4 (view_start h' (fun j hj=>?_) l2) hcl' (fun j hj=>by rw[hS];simp;omega) hu'
      have:=hS j
      rw[this] at hj
      simpa using hj
     unfold wpOp
     rw[ho]
     dsimp only
     rw[hw]
     cases wanted with
     | true=>
      obtain⟨G2,hr2⟩:=lits_ok hr
      exact .inl (Oper.wp_mono (fun a1 w1 ⟨σ1,⟨G1,h1⟩,hh1⟩=>next σ1 G1 a1 w1 h1 hh1) (step_ok (cls:=false) hE hr2 hh))
     | false=>
      exact next _ G _ w (hr.skip o.dst) hh
    ·-- a cursor's call: all that comes later stands behind it
     have hkb':k=b:=by
      rcases Nat.lt_or_ge b k with hlt|hge
      ·have hb2:(tabOf ops).bit k b=true:=by
        unfold semi at hsemi
        rw[List.all_eq_true] at hsemi
        have:=hsemi k (List.mem_range.2 (show k<(tabOf ops).n from hkn))
        have h2:¬ k≤b:=by omega
        simpa [h2] using this
       have:=hpre b hb2
       rw[hbk b (Nat.le_refl _)] at this
       cases this
      ·omega
     subst hkb'
     rw[ho] at hob
     injection hob with hob
     subst hob
     have hlt:∀ j,listed.getD j false=true→j<k:=by
      intro j hj
      rcases Nat.lt_or_ge j k with h1|h1
      ·exact h1
      ·rw[hbk j h1] at hj;cases hj
     refine semi_op hE hd ho hcls hc hkl hlt hpre h (f:=fun σ1=>evR P E ops (tabOf ops) false (List.range' (k+1) (ops.size-(k+1))) σ1 K) (X:=fun σ1 σb'=>∃ b',Seg P E ops (k+1) σ1 b' σb'∧b'≤ops.size∧TailFact P E ops K Q ops.size b' σb') (fun σ1 hq=>?_) hh ?_
     ·obtain⟨b',σb',k1,k2,k3,k4⟩:=evR_plan (ops.size-(k+1)) (k+1) false σ1 hq
      rw[show k+1+(ops.size-(k+1))=ops.size from by omega] at k2 k4
      exact⟨σb',⟨b',k1,k2,k4⟩,k1.later.2.1,k3.resolve_right (by simp)⟩
     ·intro σ1 σb' a' w' G' ⟨b',k1,k2,k4⟩ l1 l2 hs2 h'
      obtain⟨m1,_,m3⟩:=k1.later
      refine ih b' σb' G' a' w' _ (by simp[hsz]) (fun j hj hj2=>?_) k2 (fun j hj hj2=>hs2) k4 (by grind) hcl' (fun j hj=>?_) hu'
      ·obtain⟨hj3,hne⟩:=hold j hj2
       rcases Nat.lt_or_ge j k with h1|h1
       ·obtain⟨σj,σj1,hf,hl⟩:=hops j h1 hj3
        exact⟨σj,σj1,hf,hl.trans ((l1.trans (l2.mono (Nat.le_succ k))).mono (by omega))⟩
       ·exact m3 j (by omega) hj
      ·rw[hget,hbk j (by omega)]
       have:¬ j=k:=by omega
       simpa using this
def TV.weak:TV→TV
 | .capd l _=>.v false [.ref l]
 | x=>x
def St.weak (σ:St):St:=σ.map id TV.weak
theorem RG.weak (h:RG F G σ a w):RG F G σ.weak a w:=h.map (fun _ _ h=>h) (fun x v h=>by
 cases x<;>first|exact h|exact⟨_,rfl,h.1⟩)
def evDraw0 (P:Program) (E:Env) (ops:Array Oper) (σ:St) (K:St→Out):Out :=
 bif P.follows .mixedOrders&&dirsOk ops then evR P E ops (tabOf ops) true (List.range' 0 ops.size) σ (fun σ'=>K σ'.weak.lits) else .bad
theorem evDraw_any (hE:EOk P E) (h:RG F G σ a w) (hh:(evDraw0 P E ops σ K).holds Q):P.follows .mixedOrders=true∧wpAny P .any ops (fun e a w=>e=.normal∧Cont F (fun σ'=>K σ'.weak.lits) Q a w) ops.size (Array.replicate ops.size false) a { w with drawn:=w.drawn+1 }:=by
 unfold evDraw0 at hh
 cases hc:(P.follows .mixedOrders&&dirsOk ops) with
 | false=>simp[hc,Out.holds] at hh
 | true=>
  simp only[hc,cond_true] at hh
  rw[Bool.and_eq_true] at hc
  obtain⟨b,σb,k1,k2,k3,k4⟩:=evR_plan ops.size 0 true σ hh
  rw[Nat.zero_add] at k2 k4
  have h0:RG F G σ a { w with drawn:=w.drawn+1 }:=h.world ⟨rfl,rfl,⟨rfl,by first|exact DrLe.refl _|exact DrLe.succ _|exact DrLe.add _ _⟩,Nat.le_refl _⟩ fun _ _=>rfl
  have hf:∀ k,(Array.replicate ops.size false).getD k false=false:=fun k=>by
   by_cases hk:k<ops.size<;>simp[hk]
  refine⟨hc.1,evR_ok (K:=fun σ'=>K σ'.weak.lits) hE hc.2 ops.size b σb G a _ _ (by simp) (fun k hk _=>k1.later.2.2 k (Nat.zero_le _) hk) k2 (fun k hk _=>k3.resolve_right (by omega)) k4 (view_start h0 (fun k hk=>by rw[hf] at hk;cases hk) k1.later.2.1) (fun k hk=>by grind) (fun k _=>hf k) ?_⟩
  have:∀ n,unl (fun k=>(Array.replicate ops.size false).getD k false) n≤n:=by
   intro n
   induction n with
   | zero=>exact Nat.le_refl _
   | succ n ih=>simp only[unl];split<;>omega
  exact this _
def isCurMd:Md→Bool
 | .cur=>true
 | _=>false
def movesCur (E:Env) (o:Oper):Bool:=match o.op with
 | .call c=>match c.callee with
  | .value (.func g)=>match E.fn g with
   | some (ms,_)=>ms.any isCurMd
   | none=>false
  | _=>false
 | _=>false
def ordOf (E:Env) (ops:Array Oper):Option (List Nat) :=
 match (List.range ops.size).filter fun i=>movesCur E (ops.getD i default) with
 | []=>none
 | cs=>some ((List.range (2*cs.length+2)).flatMap fun key=>(List.range ops.size).filter fun k=>key==2*(cs.filter fun i=>(tabOf ops).bit k i).length+(bif cs.contains k then 1 else 0))
def evDraw1 (P:Program) (E:Env) (ops:Array Oper) (σ:St) (K:St→Out):Out :=
 match ordOf E ops with
 | none=>evDraw0 P E ops σ K
 | some ord=>bif permOk ops.size ord then evDraw0 P E (permOps ops ord) σ K else .bad
theorem evDraw1_ok (hE:EOk P E) (h:RG F G σ a w) (hh:(evDraw1 P E ops σ K).holds Q):P.follows .mixedOrders=true ∧
 wpAny P .any ops (fun e a w=>e=.normal∧Cont F (fun σ'=>K σ'.weak.lits) Q a w) ops.size (Array.replicate ops.size false) a { w with drawn:=w.drawn+1 }:=by
 unfold evDraw1 at hh
 split at hh
 ·exact evDraw_any hE h hh
 ·rename_i ord _
  cases hp:permOk ops.size ord with
  | false=>rw[hp] at hh;exact hh.elim
  | true=>
   rw[hp,cond_true] at hh
   obtain⟨h1,h2⟩:=evDraw_any hE h hh
   rw[perm_size hp] at h2
   exact⟨h1,wpAny_perm hp _ _ _ _ _ (by simp) (by simp) (fun j=>by
    have:∀ k,(Array.replicate ops.size false).getD k false=false:=fun k=>by
     by_cases hk:k<ops.size<;>simp[hk]
    rw[this,this]) h2⟩
end
end Go.D
namespace Go.D
section
variable {P:Program} {E:Env} {F:Fr P} {G G':Gh} {σ σ' σb:St} {a a':Act} {w w':World} {o:Oper} {K:St→Out} {Q:Post} {R:Exit→Act→World→Prop} {ops:Array Oper}
def Goes (ops:Array Oper):Array Bool→List Nat→Prop
 | listed,[]=>Region.ready .any ops listed=[]
 | listed,i::L=>i∈Region.ready .any ops listed∧Goes ops (listed.setIfInBounds i true) L
def AnyL (P:Program) (ops:Array Oper) (R:Exit→Act→World→Prop) (a:Act) (w:World):Prop:=∀ L,Goes ops (Array.replicate ops.size false) L→wpOps P ops R L a w
theorem any_valid:∀ (f:Nat) (listed:Array Bool) (a:Act) (w:World),wpAny P .any ops R f listed a w→∀ L,Goes ops listed L→wpOps P ops R L a w:=by
 intro f
 induction f with
 | zero=>
  intro listed a w h L hv
  cases L with
  | nil=>exact h.2
  | cons i L=>
   have:=hv.1
   rw[h.1] at this
   cases this
 | succ f ih=>
  intro listed a w h L hv
  cases L with
  | nil=>exact h.1 hv
  | cons i L=>
   rw[wpOps_cons]
   exact wpOp_mono (fun a' w' h'=>ih _ a' w' h' L hv.2) (h.2 i hv.1)
theorem ready_addE {i k:Nat} {listed:Array Bool} (hs:listed.size=ops.size) (j:Nat):j∈Region.ready .any (addE ops i k) listed↔(j∈Region.ready .any ops listed∧(j=i→listed.getD k false=true)):=by
 rw[ready_ok (ops:=addE ops i k) (by rw[addE_size,hs]),ready_ok hs]
 constructor
 ·rintro⟨o,ho,h1,h2⟩
  cases hoj:ops[j]? with
  | none=>rw[addE_none hoj] at ho;cases ho
  | some o'=>
   rw[addE_get hoj] at ho
   injection ho with ho
   by_cases e:j=i
   ·rw[if_pos e] at ho
    subst ho
    exact⟨⟨o',rfl,h1,fun x hx=>h2 x (dirs_addE.2 (.inl hx))⟩,fun _=>h2 k (dirs_addE.2 (.inr rfl))⟩
   ·simp_all
 ·rintro⟨⟨o,ho,h1,h2⟩,h3⟩
  refine⟨_,addE_get ho,h1,fun x hx=>?_⟩
  by_cases e:j=i
  ·rw[if_pos e] at hx
   rcases dirs_addE.1 hx with hx|hx
   ·exact h2 x hx
   ·rw[hx];exact h3 e
  ·simp_all
def Ahead (k i:Nat):List Nat→Prop
 | []=>True
 | j::L=>j=k∨(j≠i∧Ahead k i L)
theorem ahead_or (k i:Nat):∀ L:List Nat,Ahead k i L∨Ahead i k L
 | []=>.inl trivial
 | j::L=>by
  by_cases h1:j=k
  ·exact .inl (.inl h1)
  ·by_cases h2:j=i
   ·exact .inr (.inl h2)
   ·rcases ahead_or k i L with h|h
    ·exact .inl (.inr ⟨h2,h⟩)
    ·exact .inr (.inr ⟨h1,h⟩)
theorem goes_addE {i k:Nat} (hik:i≠k):∀ (L:List Nat) (listed:Array Bool),listed.size=ops.size→Goes ops listed L→(listed.getD k false=true∨Ahead k i L)→Goes (addE ops i k) listed L:=by
 intro L
 induction L with
 | nil=>
  intro listed hs hv _
  refine List.eq_nil_iff_forall_not_mem.2 fun j hj=>?_
  have:=((ready_addE hs j).1 hj).1
  rw[hv] at this
  cases this
 | cons j L ih=>
  intro listed hs hv hk
  have hjl:j<listed.size:=by
   obtain⟨o,ho,_⟩:=(ready_ok hs).1 hv.1
   grind
  refine⟨(ready_addE hs j).2 ⟨hv.1,fun e=>?_⟩,ih _ (by simp[hs]) hv.2 ?_⟩
  ·rcases hk with hk|hk|hk
   ·exact hk
   ·omega
   ·exact absurd e hk.1
  ·rcases hk with hk|hk|hk
   ·exact .inl (by rw[getD_set hjl,hk];rfl)
   ·simp_all
   ·exact .inr hk.2
theorem wpOps_addE {i k:Nat}:∀ (L:List Nat) (a:Act) (w:World),wpOps P (addE ops i k) R L a w→wpOps P ops R L a w
 | [],_,_,h=>h
 | j::L,a,w,h=>by
  rw[wpOps_cons] at h ⊢
  exact wpOp_mono (fun a' w'=>wpOps_addE L a' w') (addE_wpOp h)
theorem anyL_split {i k:Nat} (hik:i≠k) (h1:AnyL P (addE ops i k) R a w) (h2:AnyL P (addE ops k i) R a w):AnyL P ops R a w:=by
 intro L hv
 unfold AnyL at h1 h2
 rw[addE_size] at h1 h2
 rcases ahead_or k i L with h|h
 ·exact wpOps_addE L a w (h1 L (goes_addE hik L _ (by simp) hv (.inr h)))
 ·exact wpOps_addE L a w (h2 L (goes_addE (Ne.symm hik) L _ (by simp) hv (.inr h)))
theorem go_goes:∀ (f t:Nat) (listed:Array Bool),listed.size=ops.size→unl (fun k=>listed.getD k false) ops.size≤f→Goes ops listed (Region.linearise.go .any ops f t listed []):=by
 intro f
 induction f with
 | zero=>
  intro t listed hs hu
  have hall:=unl_zero (Nat.le_zero.1 hu)
  refine List.eq_nil_iff_forall_not_mem.2 fun j hj=>?_
  obtain⟨o,ho,h1,_⟩:=(ready_ok hs).1 hj
  grind
 | succ f ih=>
  intro t listed hs hu
  simp only[Region.linearise.go]
  change Goes ops listed (match (Region.ready .any ops listed)[t % (Region.ready .any ops listed).length]? with
   | some i=>Region.linearise.go .any ops f (t / (Region.ready .any ops listed).length) (listed.setIfInBounds i true) [i]
   | none=>[].reverse)
  cases hi:(Region.ready .any ops listed)[t % (Region.ready .any ops listed).length]? with
  | none=>
   show Region.ready .any ops listed=[]
   cases hr:Region.ready .any ops listed with
   | nil=>rfl
   | cons x xs=>
    rw[hr] at hi
    have hlt:t % (x::xs).length<(x::xs).length:=Nat.mod_lt _ (by simp)
    grind
  | some i=>
   simp only[]
   rw[linearise_go_acc,List.reverse_singleton,List.singleton_append]
   have hm:=List.mem_of_getElem? hi
   refine⟨hm,ih _ _ (by simp[hs]) ?_⟩
   obtain⟨o,ho,h1,_⟩:=(ready_ok hs).1 hm
   have hlt:=(Array.getElem?_eq_some_iff.1 ho).1
   rw[show(fun k=>(listed.setIfInBounds i true).getD k false)=fun k=>listed.getD k false||k==i from funext fun k=>getD_set (by omega)]
   have:=(unl_add (S:=fun k=>listed.getD k false) h1 (n:=ops.size)).2 hlt
   omega
theorem region_anyL {id:Nat} (hm:P.follows .mixedOrders=true) (h:AnyL P ops R a { w with drawn:=w.drawn+1 }):(Code.region id ops true).wp P R a w :=
 wp_region_draw fun t=>by
  simp only[Region.schedule,hm,Bool.true_or,if_true]
  refine h _ (go_goes ops.size t _ (by simp) ?_)
  have:∀ n,unl (fun k=>(Array.replicate ops.size false).getD k false) n≤n:=by
   intro n
   induction n with
   | zero=>exact Nat.le_refl _
   | succ n ih=>simp only[unl];split<;>omega
  exact this _
def topoGo (ops:Array Oper):Nat→List Nat→List Nat
 | 0,done=>done
 | f+1,done=>match (List.range ops.size).find? (fun j=>!done.contains j&&(dirs (ops.getD j default)).all fun e=>done.contains e) with
  | some j=>topoGo ops f (done++[j])
  | none=>done
def evPad (P:Program) (E:Env) (ops:Array Oper) (σ:St) (K:St→Out):Out:=evDraw1 P E (padGo ops (pairsOf ops)) σ K
def evLeaf (P:Program) (E:Env) (ops:Array Oper) (σ:St) (K:St→Out):Out :=
 bif dirsOk ops then evPad P E ops σ K else bif permOk ops.size (topoGo ops ops.size []) then evPad P E (permOps ops (topoGo ops ops.size [])) σ K else .bad
def closGo (ops:Array Oper):Nat→List Nat→List Nat
 | 0,T=>T
 | f+1,T=>closGo ops f (ops.toList.map fun o=>maskOf T (dirs o))
def splitOf (ops:Array Oper):Option (Nat×Nat) :=
 let st:=(List.range ops.size).filter fun i=>isSt (ops.getD i default)
 bif st.isEmpty then none else
  let T:=closGo ops ops.size []
  (st.flatMap fun b=>((List.range ops.size).filter fun u=>!(isMv (ops.getD u default)||isExt (ops.getD u default))).map fun u=>(b,u)).find? fun x=>!(x.1==x.2) && !(T.getD x.1 0).testBit x.2 && !(T.getD x.2 0).testBit x.1
def evDrawS (P:Program) (E:Env):Nat→Array Oper→St→(St→Out)→Out
 | 0,ops,σ,K=>evLeaf P E ops σ K
 | f+1,ops,σ,K=>match splitOf ops with
  | none=>evLeaf P E ops σ K
  | some (b,u)=>bif b==u then .bad else .lp Bool True (fun _=>True) fun y=>.br y (evDrawS P E f (addE ops b u) σ K) (evDrawS P E f (addE ops u b) σ K)
def evDraw (P:Program) (E:Env) (ops:Array Oper) (σ:St) (K:St→Out):Out:=evDrawS P E 6 ops σ K
theorem none_listed (n k:Nat):(Array.replicate n false).getD k false=false:=by by_cases hk:k<n<;>simp[hk]
theorem evPad_ok (hE:EOk P E) (h:RG F G σ a w) (hh:(evPad P E ops σ K).holds Q):P.follows .mixedOrders=true ∧
 wpAny P .any ops (fun e a w=>e=.normal∧Cont F (fun σ'=>K σ'.weak.lits) Q a w) ops.size (Array.replicate ops.size false) a { w with drawn:=w.drawn+1 }:=by
 obtain⟨h1,h2⟩:=evDraw1_ok hE h hh
 rw[padGo_size] at h2
 exact⟨h1,wpAny_pad (fun _ _ _ h=>h.1) _ _ _ _ _ _ (by simp) (fun k hk=>by rw[none_listed] at hk;cases hk) h2⟩
theorem evLeaf_ok (hE:EOk P E) (h:RG F G σ a w) (hh:(evLeaf P E ops σ K).holds Q):P.follows .mixedOrders=true ∧
 AnyL P ops (fun e a w=>e=.normal∧Cont F (fun σ'=>K σ'.weak.lits) Q a w) a { w with drawn:=w.drawn+1 }:=by
 unfold evLeaf at hh
 cases hd:dirsOk ops with
 | true=>
  rw[hd,cond_true] at hh
  obtain⟨h1,h2⟩:=evPad_ok hE h hh
  exact⟨h1,any_valid _ _ _ _ h2⟩
 | false=>
  rw[hd,cond_false] at hh
  cases hp:permOk ops.size (topoGo ops ops.size []) with
  | false=>rw[hp] at hh;exact hh.elim
  | true=>
   rw[hp,cond_true] at hh
   obtain⟨h1,h2⟩:=evPad_ok hE h hh
   rw[perm_size hp] at h2
   exact⟨h1,any_valid _ _ _ _ (wpAny_perm hp _ _ _ _ _ (by simp) (by simp) (fun j=>by rw[none_listed,none_listed]) h2)⟩
theorem evDrawS_ok (hE:EOk P E) (h:RG F G σ a w):∀ (f:Nat) (ops:Array Oper),(evDrawS P E f ops σ K).holds Q→P.follows .mixedOrders=true ∧
 AnyL P ops (fun e a w=>e=.normal∧Cont F (fun σ'=>K σ'.weak.lits) Q a w) a { w with drawn:=w.drawn+1 }:=by
 intro f
 induction f with
 | zero=>intro ops hh;exact evLeaf_ok hE h hh
 | succ f ih=>
  intro ops hh
  unfold evDrawS at hh
  split at hh
  ·exact evLeaf_ok hE h hh
  ·rename_i b u _
   cases hb:(b==u) with
   | true=>rw[hb] at hh;exact hh.elim
   | false=>
    rw[hb,cond_false] at hh
    obtain⟨h1,h2⟩:=ih _ ((hh.2 true trivial).1 rfl)
    obtain⟨_,h3⟩:=ih _ ((hh.2 false trivial).2 rfl)
    exact⟨h1,anyL_split (by simpa using hb) h2 h3⟩
theorem evDraw_ok {id:Nat} (hE:EOk P E) (h:RG F G σ a w) (hh:(evDraw P E ops σ K).holds Q):(Code.region id ops true).wp P (fun e a w=>e=.normal∧Cont F K Q a w) a w:=by
 obtain⟨h1,h2⟩:=evDrawS_ok hE h 6 ops hh
 refine Code.wp_mono (fun e a w ⟨he,σ',⟨G',h'⟩,hh'⟩=>?_) (region_anyL h1 h2)
 obtain⟨G2,h2⟩:=lits_ok h'.weak
 exact⟨he,σ'.weak.lits,⟨G2,h2⟩,hh'⟩
end
end Go.D
namespace Go.D
inductive Sh where
 | el (t:Ty)
 | sl (t:Ty)
abbrev Sh.X:Sh→Type
 | .el t=>El t
 | .sl t=>List (El t)
def Sh.fc:(s:Sh)→s.X→List FC
 | .el t,x=>enc t x
 | .sl t,xs=>[.l t xs]
def Sh.dec:(s:Sh)→List FC→Option s.X
 | .el t,ds=>D.dec t ds
 | .sl t,[c]=>getL t c
 | .sl _,_=>none
def Ty.agg:Ty→Bool
 | .int=>false
 | .str=>false
 | .bool=>false
 | .u8=>false
 | _=>true
def Sh.agg:Sh→Bool
 | .el t=>t.agg
 | .sl _=>false
theorem Sh.dec_ok {s:Sh} {ds:List FC} {x:s.X} (h:s.dec ds=some x):FcsLe ds (s.fc x):=by
 cases s with
 | el t=>exact D.dec_ok t ds x h
 | sl t=>
  cases ds with
  | nil=>simp[Sh.dec] at h
  | cons c ds=>
   cases ds with
   | nil=>exact .cons (getL_ok h) .nil
   | cons d ds=>simp[Sh.dec] at h
theorem width_le (t:Ty):t.width≤64:=by cases t<;>decide
theorem Sh.fc_len (s:Sh) (x:s.X):(s.fc x).length≤64:=by
 cases s with
 | el t=>rw[Sh.fc,enc_len];exact width_le t
 | sl t=>simp[Sh.fc]
inductive Pk where
 | s
 | b
 | t
structure Vr where
 k:Pk
 p:Nat
 own:Bool
 sh:Sh
abbrev Xs:List Vr→Type
 | []=>Unit
 | v::vs=>v.sh.X×Xs vs
def Vr.cells (v:Vr) (σ:St):Option (List Cell) :=
 match v.k with
 | .b=>look σ.bx v.p
 | .s=>match look σ.tm v.p with
  | some (.v agg cs)=>bif agg==v.sh.agg then some cs else none
  | _=>none
 | .t=>none
def Sh.ofTree:(s:Sh)→Tree→Option s.X
 | .sl t,T=>if h:T.t=t then some (h▸T.xs) else none
 | .el _,_=>none
def Sh.toTree:(s:Sh)→s.X→Tree
 | .sl t,xs=>⟨t,xs⟩
 | .el t,x=>⟨t,[x]⟩
theorem Sh.tree_ok {s:Sh} {T:Tree} {x:s.X} (h:s.ofTree T=some x):s.toTree x=T:=by
 cases s with
 | el t=>simp[Sh.ofTree] at h
 | sl t=>
  obtain⟨t',xs⟩:=T
  simp only[Sh.ofTree] at h
  split at h
  ·rename_i e
   subst e
   simp only[Option.some.injEq] at h
   subst h
   rfl
  ·cases h
def Vr.isT (v:Vr):Bool:=match v.k with
 | .t=>true
 | _=>false
def Vr.grab (v:Vr) (σ:St):Option (v.sh.X×List Nat) :=
 match v.isT with
 | true=>match look σ.hp v.p with
  | some T=>match v.sh.ofTree T with
   | some x=>some (x,[])
   | none=>none
  | none=>none
 | false=>match v.cells σ with
 | some cs=>match v.own with
  | true=>match litC σ cs with
   | some (ds,ab)=>match v.sh.dec ds with
    | some x=>some (x,ab)
    | none=>none
   | none=>none
  | false=>match cellCons' cs with
   | some ds=>match v.sh.dec ds with
    | some x=>some (x,[])
    | none=>none
   | none=>none
 | none=>none
def grabAll (σ:St):(vs:List Vr)→Option (Xs vs×List Nat)
 | []=>some ((),[])
 | v::vs=>match v.grab σ,grabAll σ vs with
  | some (x,ab),some (xs,ab')=>some ((x,xs),ab++ab')
  | _,_=>none
def Vr.q (v:Vr):Nat:=v.p+1000000
def Vr.to (v:Vr) (x:v.sh.X):List Cell:=bif v.own then takeC (64*v.q) (v.sh.fc x) else(v.sh.fc x).map (toCell none)
def Vr.set (v:Vr) (x:v.sh.X) (σ:St):St :=
 let σ1:={ σ with hp:=(bif v.own then takeH (64*v.q) (v.sh.fc x) else[])++σ.hp }
 match v.k with
 | .b=>{ σ1 with bx:=(v.p,v.to x)::σ1.bx }
 | .s=>{ σ1 with tm:=(v.p,.v v.sh.agg (v.to x))::σ1.tm }
 | .t=>{ σ with hp:=(v.p,v.sh.toTree x)::σ.hp }
def headSt (σ:St):(vs:List Vr)→Xs vs→St
 | [],_=>σ
 | v::vs,x=>v.set x.1 (headSt σ vs x.2)
def Cell.memfree (hs:List Nat):Cell→Bool
 | .sc _=>true
 | .tt=>true
 | .ff=>true
 | .nil=>true
 | .im none _ _=>true
 | .ref l=>hs.contains l
 | .sub l _ _ _=>hs.contains l
 | _=>false
def TV.memfree (hs:List Nat):TV→Bool
 | .v _ cs=>cs.all (·.memfree hs)
 | .ptr _ _=>true
 | .sptr none _ _ _=>true
 | .aptr _ _=>true
 | .clo _ _=>true
 | .cur=>true
 | .dead=>true
 | _=>false
def pOf:List Vr→List Nat
 | []=>[]
 | v::vs=>bif v.isT then pOf vs else v.q::pOf vs
def hOf:List Vr→List Nat
 | []=>[]
 | v::vs=>bif v.isT then v.p::hOf vs else hOf vs
def placesOk (σ:St) (vs:List Vr) (ab:List Nat):Bool :=
 nodupB ab&&nodupB (pOf vs)&&noneIn σ.fl (fun m=>(pOf vs).contains (m / 64))&&(hOf vs).all fun l=>!(pOf vs).contains (l / 64) && !ab.contains l
section
variable {P:Program} {E:Env} {F:Fr P} {G G':Gh} {σ σ' σb:St} {a a':Act} {w w':World} {o:Oper} {K:St→Out} {Q:Post} {Qx:Exit→Act→World→Prop}
theorem memfree_cell {hs:List Nat} {c:Cell} (h:c.memfree hs=true):(∀ m,c.refs m=true→m∈hs)∧∀ m,c.mems m=false:=by
 cases c with
 | im s t xs=>cases s with
  | none=>exact⟨fun m hm=>by simp[Cell.refs] at hm,fun _=>rfl⟩
  | some l=>simp[Cell.memfree] at h
 | ref l=>exact⟨fun m hm=>by simp[Cell.refs] at hm;subst hm;simpa [Cell.memfree] using h,fun _=>rfl⟩
 | sub l k lo n=>exact⟨fun m hm=>by simp[Cell.refs] at hm;subst hm;simpa [Cell.memfree] using h,fun _=>rfl⟩
 | dead=>simp[Cell.memfree] at h
 | _=>exact⟨fun m hm=>by simp[Cell.refs] at hm,fun _=>rfl⟩
theorem memfree_tv {hs:List Nat} {x:TV} (h:x.memfree hs=true):(∀ m,x.refs m=true→m∈hs)∧∀ m,x.mems m=false:=by
 cases x with
 | v agg cs=>
  refine⟨fun m hm=>?_,fun m=>?_⟩
  ·obtain⟨c,hc,hr⟩:=List.any_eq_true.1 (show cs.any (·.refs m)=true from hm)
   exact(memfree_cell (List.all_eq_true.1 h c hc)).1 m hr
  ·simp only[TV.mems,List.any_eq_false]
   intro c hc
   rw[(memfree_cell (List.all_eq_true.1 h c hc)).2 m]
   simp
 | inn l k i off t xs=>simp[TV.memfree] at h
 | nptr l k i off t xs i2 o2=>simp[TV.memfree] at h
 | app l e j tt ts t xs=>simp[TV.memfree] at h
 | capd l c=>simp[TV.memfree] at h
 | sptr s t x off=>cases s with
  | none=>exact⟨fun m hm=>by simp[TV.refs] at hm,fun _=>rfl⟩
  | some l=>simp[TV.memfree] at h
 | tup ps=>simp[TV.memfree] at h
 | eptr l k i off=>simp[TV.memfree] at h
 | _=>exact⟨fun m hm=>by simp[TV.refs] at hm,fun _=>rfl⟩
def Vr.At (v:Vr) (G:Gh) (a:Act) (w:World) (us:List Value):Prop :=
 match v.k with
 | .t=>True
 | .b=>G.ow (G.be v.p)=.box v.p∧∃ r e,w.heap[G.be v.p]? = some (.cells r e (0,0))∧r.toList=us
 | .s=>∀ (G':Gh) (w':World) (ds:List Cell),ds.length=us.length→(∀ (j:Nat) (c:Cell) (u:Value),ds[j]? = some c→us[j]? = some u→CellR w' G' c u)→TVR w' G' (.v v.sh.agg ds) (a.tmps.getD v.p undef)
theorem cells_at (h:RG F G σ a w) {v:Vr} {cs:List Cell} (hc:v.cells σ=some cs):∃ us:List Value,us.length=cs.length∧v.At G a w us∧∀ (j:Nat) (c:Cell) (u:Value),cs[j]? = some c→us[j]? = some u→CellR w G c u:=by
 obtain⟨bx,p,own,sh⟩:=v
 unfold Vr.cells at hc
 cases bx with
 | t=>cases hc
 | b=>
  dsimp only at hc
  obtain⟨h1,r,e,h2,h3⟩:=h.bx p cs hc
  refine⟨r.toList,by simpa using h3.1,⟨h1,r,e,h2,rfl⟩,fun j c u hj hu=>?_⟩
  obtain⟨u',hu',hr⟩:=h3.2 j c hj
  simp_all
 | s=>
  dsimp only at hc
  split at hc
  ·rename_i agg cs' hl
   cases ha:(agg==sh.agg) with
   | false=>simp[ha] at hc
   | true=>
    simp only[ha,cond_true,Option.some.injEq] at hc
    subst hc
    have ha':agg=sh.agg:=by simpa using ha
    have hx:=h.tm p _ hl
    cases agg with
    | false=>
     obtain⟨c,rfl,hcr⟩:=hx
     refine⟨[a.tmps.getD p undef],rfl,fun G' w' ds hl' hds=>?_,fun j c' u hj hu=>?_⟩
     ·obtain⟨d,rfl⟩:=List.length_eq_one_iff.1 hl'
      show TVR w' G' (.v sh.agg [d]) _
      rw[←ha']
      exact⟨d,rfl,hds 0 d _ rfl rfl⟩
     ·grind
    | true=>
     obtain⟨vs,hv,hs,hcr⟩:=hx
     refine⟨vs.toList,by simpa using hs,fun G' w' ds hl' hds=>?_,fun j c u hj hu=>?_⟩
     ·show TVR w' G' (.v sh.agg ds) (a.tmps.getD p undef)
      rw[←ha',hv]
      refine⟨vs,rfl,by simpa using hl'.symm,fun j c hj=>?_⟩
      have hlt:j<vs.size:=by
       grind
      exact⟨vs[j],by simp[hlt],hds j c vs[j] hj (by simp[hlt])⟩
     ·grind
  ·cases hc
end
end Go.D
namespace Go.D
section
variable {P:Program} {E:Env} {F:Fr P} {G G1 G':Gh} {σ σ' σb:St} {a a':Act} {w w':World} {o:Oper} {K:St→Out} {Q:Post} {Qx:Exit→Act→World→Prop}
theorem RG.consTm (h:RG F G σ a w) {p:Nat} {x:TV} (hx:TVR w G x (a.tmps.getD p undef)):RG F G { σ with tm:=(p,x)::σ.tm } a w:=by
 refine⟨?_,h.bx,h.hp,h.lt,h.os,h.tape,h.output,h.size,h.keep,h.fb,h.fl,h.nt,h.df⟩
 intro t tv hl
 simp only[look] at hl
 split at hl
 ·simp_all
 ·exact h.tm t tv hl
theorem RG.consBx (h:RG F G σ a w) {b:Nat} {cs:List Cell} {r:Array Value} {e:TypeId} (h1:G.ow (G.be b)=.box b) (h2:w.heap[G.be b]? = some (.cells r e (0,0))) (h3:CellsR w G cs r):RG F G { σ with bx:=(b,cs)::σ.bx } a w:=by
 refine⟨h.tm,?_,h.hp,h.lt,h.os,h.tape,h.output,h.size,h.keep,h.fb,h.fl,h.nt,h.df⟩
 intro t cs' hl
 simp only[look] at hl
 split at hl
 ·simp_all
 ·exact h.bx t cs' hl
structure PlaceFact (G:Gh) (a:Act) (w:World) (v:Vr) (x:v.sh.X) (ab:List Nat) (us:List Value) (Fs:Nat→Nat→Prop):Prop where
 len:us.length=(v.sh.fc x).length
 at_:v.At G a w us
 own:v.own=true→∀ (j:Nat) (c:FC) (u:Value),(v.sh.fc x)[j]? = some c→us[j]? = some u→TO w (fcC c) u (Fs j)∧u.oneCell'=true
 bor:v.own=false→∀ (j:Nat) (c:FC) (u:Value),(v.sh.fc x)[j]? = some c→us[j]? = some u→TR w (src G none) (fcC c) u
 lab:∀ j b,Fs j b→∃ m,m∈ab∧G.ow b=.lab m
 dis:∀ j j' b,Fs j b→Fs j' b→j=j'
theorem grab_fact (h:RG F G σ a w) {v:Vr} {x:v.sh.X} {ab:List Nat} (hT:v.isT=false) (hg:v.grab σ=some (x,ab)):∃ us Fs,PlaceFact G a w v x ab us Fs:=by
 unfold Vr.grab at hg
 rw[hT] at hg
 dsimp only at hg
 split at hg
 ·rename_i cs hcs
  obtain⟨us,u1,u2,u3⟩:=cells_at h hcs
  split at hg
  ·rename_i how
   split at hg
   ·rename_i ds ab' hl
    split at hg
    ·rename_i y hd
     simp only[Option.some.injEq,Prod.mk.injEq] at hg
     obtain⟨rfl,rfl⟩:=hg
     obtain⟨l1,l2,l3,l4⟩:=litC_ok h cs ds ab' hl
     obtain⟨k1,k2⟩:=(Sh.dec_ok hd).get
     refine⟨us,fun j b=>∃ c m,cs[j]? = some c∧cellLab c m∧G.ow b=.lab m,by rw[u1,←k1,l1],u2,fun _ j c u hc hu=>?_,(fun hf=>by rw[how] at hf;cases hf),?_,?_⟩
     ·have hlt:j<cs.length:=by rw[←u1];exact(List.getElem?_eq_some_iff.1 hu).1
      have hcj:=List.getElem?_eq_getElem hlt
      have hr:=u3 j _ u hcj hu
      have ht:=l2 j _ u hcj hr
      have hle:=(k2 j).le
      have hd':(v.sh.fc y).getD j .nl=c:=by simp[List.getD,hc]
      rw[hd'] at hle
      exact⟨(TO.le hle ht).frame fun b hb _=>⟨rfl,let ⟨m,h1,h2⟩:=hb;⟨_,m,hcj,h1,h2⟩⟩,hr.one⟩
     ·rintro j b ⟨c,m,hc,hm,hb⟩
      exact⟨m,l3 j c m hc hm,hb⟩
     ·rintro j j' b ⟨c,m,hc,hm,hb⟩ ⟨c',m',hc',hm',hb'⟩
      rw[hb] at hb'
      injection hb' with e
      subst e
      exact l4 j j' c c' m hc hc' hm hm'
    ·cases hg
   ·cases hg
  ·rename_i how
   split at hg
   ·rename_i ds hl
    split at hg
    ·rename_i y hd
     simp only[Option.some.injEq,Prod.mk.injEq] at hg
     obtain⟨rfl,rfl⟩:=hg
     obtain⟨l1,l2⟩:=cellCons'_ok (w:=w) (G:=G) cs ds hl
     obtain⟨k1,k2⟩:=(Sh.dec_ok hd).get
     refine⟨us,fun _ _=>False,by rw[u1,←k1,l1],u2,(fun hf=>by rw[how] at hf;cases hf),fun _ j c u hc hu=>?_,(fun j b hb=>hb.elim),fun j j' b hb=>hb.elim⟩
     have hlt:j<cs.length:=by rw[←u1];exact(List.getElem?_eq_some_iff.1 hu).1
     have hcj:=List.getElem?_eq_getElem hlt
     have ht:=l2 j _ u hcj (u3 j _ u hcj hu)
     have hle:=(k2 j).le
     have hd':(v.sh.fc y).getD j .nl=c:=by simp[List.getD,hc]
     rw[hd'] at hle
     exact TR.le hle ht
    ·cases hg
   ·cases hg
 ·cases hg
theorem nodupB_append {l r:List Nat} (h:nodupB (l++r)=true):nodupB l=true∧nodupB r=true∧∀ m,m∈l→m∉r:=by
 induction l with
 | nil=>exact⟨rfl,h,by simp⟩
 | cons x l ih=>
  simp only[List.cons_append,nodupB,Bool.and_eq_true,Bool.not_eq_true',List.contains_eq_mem,decide_eq_false_iff_not,List.mem_append,not_or] at h ⊢
  simp_all
theorem toCell_ref {c:FC} {m:Nat}:(toCell none c).refs m=false:=by cases c<;>rfl
theorem to_refs {v:Vr} {x:v.sh.X} {l:Nat} (hl:l / 64≠v.q):(v.to x).any (·.refs l)=false:=by
 cases hq:(v.to x).any (·.refs l) with
 | false=>rfl
 | true=>
  exfalso
  obtain⟨c,hc,hr⟩:=List.any_eq_true.1 hq
  obtain⟨j,hj⟩:=List.mem_iff_getElem?.1 hc
  unfold Vr.to at hj
  cases hown:v.own with
  | true=>
   simp only[hown,cond_true] at hj
   have h1:=(takeC_refs _ _ _ _ hj).1 l hr
   have h2:=Sh.fc_len v.sh x
   omega
  | false=>
   simp only[hown,cond_false,List.getElem?_map] at hj
   cases hq':(v.sh.fc x)[j]? with
   | none=>simp[hq'] at hj
   | some d=>
    simp only[hq',Option.map_some,Option.some.injEq] at hj
    subst hj
    rw[toCell_ref] at hr
    cases hr
theorem set_noRef {v:Vr} {x:v.sh.X} {l:Nat} (h:NoRef σ l) (hl:v.isT=true∨l / 64≠v.q):NoRef (v.set x σ) l:=by
 obtain⟨bx,p,own,sh⟩:=v
 cases bx with
 | t=>exact h
 | b=>
  have hl':l / 64≠p+1000000:=hl.resolve_left (by simp[Vr.isT])
  have hr:=to_refs (v:=⟨.b,p,own,sh⟩) (x:=x) hl'
  refine⟨h.1,fun b cs hb=>?_⟩
  simp only[Vr.set,look] at hb
  split at hb
  ·simp_all
  ·exact h.2 b cs hb
 | s=>
  have hl':l / 64≠p+1000000:=hl.resolve_left (by simp[Vr.isT])
  have hr:=to_refs (v:=⟨.s,p,own,sh⟩) (x:=x) hl'
  refine⟨fun t tv ht=>?_,h.2⟩
  simp only[Vr.set,look] at ht
  split at ht
  ·simp only[Option.some.injEq] at ht;subst ht;exact hr
  ·exact h.1 t tv ht
theorem set_fl {v:Vr} {x:v.sh.X}:(v.set x σ).fl=σ.fl:=by
 obtain⟨bx,p,own,sh⟩:=v
 cases bx<;>rfl
theorem RG.consHp (h:RG F G σ a w) {l:Nat} {T:Tree} (hT:TO w (.sl T.k T.n T.f) (G.hv l) (fun g=>G.ow g=.lab l)):RG F G { σ with hp:=(l,T)::σ.hp } a w:=by
 refine⟨h.tm,h.bx,?_,h.lt,h.os,h.tape,h.output,h.size,h.keep,h.fb,h.fl,h.nt,h.df⟩
 intro m T' hl
 simp only[look] at hl
 split at hl
 ·simp_all
 ·exact h.hp m T' hl
theorem head_ok (h:RG F G σ a w) (base:St) (hb:RG F G1 base a w) (hs:List Nat) (hn:∀ l,l∉hs→NoRef base l) (hbe:G1.be=G.be) (hhv:G1.hv=G.hv) (AB:List Nat) (hab:∀ b m,G.ow b=.lab m→m∈AB→G1.ow b=.gone) (hfr:∀ b,G.ow b=.free→G1.ow b=.free) (hbo:∀ b m,G.ow b=.box m→G1.ow b=.box m)
 (hlb:∀ b m,G.ow b=.lab m→m∉AB→G1.ow b=.lab m) :
 ∀ (vs:List Vr) (x:Xs vs) (ab:List Nat),grabAll σ vs=some (x,ab)→(∀ m,m∈ab→m∈AB)→nodupB ab=true→nodupB (pOf vs)=true→(∀ p∈pOf vs,∀ m,m / 64=p→m∉base.fl∧m∉hs)→(∀ l∈hOf vs,l / 64∉pOf vs∧l∉AB) →
  ∃ G',RG F G' (headSt base vs x) a w∧Grow (fun b=>∃ m,m∈ab∧G.ow b=.lab m) (fun l=>l / 64∈pOf vs) G1 G'∧(∀ l,l∉hs→l / 64∉pOf vs→NoRef (headSt base vs x) l)∧(headSt base vs x).fl=base.fl:=by
 intro vs
 induction vs with
 | nil=>intro x ab _ _ _ _ _ _;exact⟨G1,hb,Grow.refl _ _ _,fun l hl _=>hn l hl,rfl⟩
 | cons v vs ih=>
  intro x ab hg hsub hnd hps hfl hht
  simp only[grabAll] at hg
  split at hg
  ·rename_i y abv xs abt hg1 hg2
   simp only[Option.some.injEq,Prod.mk.injEq] at hg
   obtain⟨rfl,rfl⟩:=hg
   obtain⟨nd1,nd2,nd3⟩:=nodupB_append hnd
   cases hvT:v.isT with
   | true=>
    have hpo:pOf (v::vs)=pOf vs:=by simp[pOf,hvT]
    have hho:hOf (v::vs)=v.p::hOf vs:=by simp[hOf,hvT]
    rw[hpo] at hps hfl hht
    rw[hho] at hht
    obtain⟨hl1,hl2⟩:=hht v.p (by simp)
    obtain⟨G2,k1,k2,k3,k4⟩:=ih xs abt hg2 (fun m hm=>hsub m (List.mem_append.2 (.inr hm))) nd2 hps hfl (fun l hl=>hht l (by simp[hl]))
    have hgr:=hg1
    unfold Vr.grab at hgr
    rw[hvT] at hgr
    dsimp only at hgr
    split at hgr
    ·rename_i T hT
     split at hgr
     ·rename_i y' hy
      simp only[Option.some.injEq,Prod.mk.injEq] at hgr
      obtain⟨rfl,rfl⟩:=hgr
      have hTT:=Sh.tree_ok hy
      have same:∀ g,G.ow g=.lab v.p→G2.ow g=.lab v.p:=fun g hg=>by
       have h1:=hlb g v.p hg hl2
       rw[k2.same (by rw[h1];simp),h1]
      have hhv2:G2.hv v.p=G.hv v.p:=by
       rcases k2.hv v.p with e|e
       ·rw[e,hhv]
       ·exact absurd e hl1
      have main:=k1.consHp (l:=v.p) (T:=v.sh.toTree y') (by
       rw[hTT,hhv2]
       exact(h.hp v.p T hT).frame fun g hg _=>⟨rfl,same g hg⟩)
      have hset:headSt base (v::vs) (y',xs)={ headSt base vs xs with hp:=(v.p,v.sh.toTree y')::(headSt base vs xs).hp }:=by
       obtain⟨kk,p,own,sh⟩:=v
       cases kk<;>simp[Vr.isT] at hvT
       rfl
      rw[hset,hpo]
      exact⟨G2,main,k2,fun l h1 h2=>k3 l h1 h2,k4⟩
     ·cases hgr
    ·cases hgr
   | false=>
   have hpo:pOf (v::vs)=v.q::pOf vs:=by simp[pOf,hvT]
   have hho:hOf (v::vs)=hOf vs:=by simp[hOf,hvT]
   rw[hpo] at hps hfl hht
   rw[hho] at hht
   rw[hpo]
   simp only[nodupB,Bool.and_eq_true,Bool.not_eq_true',List.contains_eq_mem,decide_eq_false_iff_not] at hps
   obtain⟨G2,k1,k2,k3,k4⟩:=ih xs abt hg2 (fun m hm=>hsub m (List.mem_append.2 (.inr hm))) nd2 hps.2 (fun p hp=>hfl p (by simp[hp])) (fun l hl=>⟨fun e=>(hht l hl).1 (by simp[e]),(hht l hl).2⟩)
   obtain⟨us,Fs,pf⟩:=grab_fact h hvT hg1
   have hgone:∀ j b,Fs j b→b<w.heap.size∧G2.ow b=.gone:=by
    intro j b hb'
    obtain⟨m,hm,hm2⟩:=pf.lab j b hb'
    refine⟨h.lt b (by simp[hm2]),k2.gone (hab b m hm2 (hsub m (List.mem_append.2 (.inl hm)))) ?_⟩
    rintro⟨m',hm',hm3⟩
    rw[hm2] at hm3
    injection hm3 with e
    subst e
    exact nd3 m hm hm'
   have hnr:∀ l,l / 64=v.q→NoRef (headSt base vs xs) l:=fun l hl=>k3 l (hfl v.q (by simp) l hl).2 (by rw[hl];exact hps.1)
   have mem:∃ G3,RG F G3 { headSt base vs xs with hp:=(bif v.own then takeH (64*v.q) (v.sh.fc y) else[])++(headSt base vs xs).hp } a w∧(∀ (j:Nat) (c:Cell) (u:Value),(v.to y)[j]? = some c→us[j]? = some u→CellR w G3 c u)∧(v.to y).length=us.length ∧
    Grow (fun b=>∃ j,Fs j b) (fun l=>l / 64=v.q) G2 G3:=by
    cases hown:v.own with
    | true=>
     obtain⟨G3,m1,m2,m3⟩:=take_ok (v.sh.fc y) us Fs G2 (64*v.q) (headSt base vs xs) k1 (fun _ m h1 h2=>by
      have h3:=Sh.fc_len v.sh y
      have h4:m / 64=v.q:=by omega
      exact⟨by rw[k4];exact(hfl v.q (by simp) m h4).1,hnr m h4⟩) pf.len (pf.own hown) hgone pf.dis
     refine⟨G3,m1,?_,?_,m3.mono (fun _ h=>h) fun m hm=>by have h3:=Sh.fc_len v.sh y;omega⟩
     ·simpa [Vr.to,hown] using m2
     ·simp[Vr.to,hown,takeC_len,pf.len]
    | false=>
     refine⟨G2,by simpa using k1,fun j c u hc hu=>?_,by simp[Vr.to,hown,pf.len],Grow.refl _ _ _⟩
     simp only[Vr.to,hown,cond_false,List.getElem?_map] at hc
     cases hq:(v.sh.fc y)[j]? with
     | none=>simp[hq] at hc
     | some d=>
      simp only[hq,Option.map_some,Option.some.injEq] at hc
      subst hc
      refine toCell_ok ((pf.bor hown j d u hq hu).frame fun g hg _=>⟨rfl,?_⟩)
      have hg':G.ow g=.free:=hg
      show G2.ow g=.free
      have h1:=hfr g hg'
      rw[k2.same (by rw[h1];simp),h1]
   obtain⟨G3,m1,m2,m3,m4⟩:=mem
   have gr:Grow (fun b=>∃ m,m∈abv++abt∧G.ow b=.lab m) (fun l=>l / 64∈v.q::pOf vs) G1 G3:=by
    refine Grow.trans (k2.mono (fun b ⟨m,hm,hb'⟩=>⟨m,List.mem_append.2 (.inr hm),hb'⟩) fun l hl=>by simp[hl]) (m4.mono (fun b ⟨j,hj⟩=>?_) fun l hl=>by simp[hl])
    obtain⟨m,hm,hm2⟩:=pf.lab j b hj
    exact⟨m,List.mem_append.2 (.inl hm),hm2⟩
   refine⟨G3,?_,gr,fun l hl0 hl=>?_,by simp only[headSt];rw[set_fl];exact k4⟩
   ·obtain⟨bx,p,own,sh⟩:=v
    have hat:=pf.at_
    cases bx with
    | t=>simp[Vr.isT] at hvT
    | b=>
     obtain⟨q1,r,e,q2,q3⟩:=hat
     have hbe3:G3.be=G.be:=(m4.be.trans k2.be).trans hbe
     refine m1.consBx (b:=p) (r:=r) (e:=e) ?_ (by rw[hbe3];exact q2) ⟨?_,fun j c hc=>?_⟩
     ·rw[hbe3]
      have h1:=hbo _ _ q1
      rw[gr.same (by rw[h1];simp),h1]
     ·rw[m3,←q3];simp
     ·have hlt:j<us.length:=by rw[←m3];exact(List.getElem?_eq_some_iff.1 hc).1
      have hlt':j<r.size:=by rw[←q3] at hlt;simpa using hlt
      refine⟨r[j],by simp[hlt'],m2 j c _ hc ?_⟩
      rw[←q3]
      simp[hlt']
    | s=>exact m1.consTm (p:=p) (hat G3 w _ m3 m2)
   ·simp only[List.mem_cons,not_or] at hl
    exact set_noRef (k3 l hl0 hl.2) (.inr hl.1)
  ·cases hg
theorem grab_ok (h:RG F G σ a w) {vs:List Vr} {x:Xs vs} {ab:List Nat} (hg:grabAll σ vs=some (x,ab)) (hp:placesOk σ vs ab=true) (base:St) (h1:base.bx=[]) (h2:base.hp=[]) (h3:base.fb=σ.fb) (h4:base.fl=σ.fl) (h5:base.nt=σ.nt)
 (htm:∀ t tv,look base.tm t=some tv→tv.memfree (hOf vs)=true∧TVR w G tv (a.tmps.getD t undef)):∃ G',RG F G' (headSt base vs x) a w:=by
 unfold placesOk at hp
 simp only[Bool.and_eq_true] at hp
 obtain⟨⟨⟨hp1,hp2⟩,hp3⟩,hp4⟩:=hp
 rw[List.all_eq_true] at hp4
 have hht:∀ l∈hOf vs,l / 64∉pOf vs∧l∉ab:=fun l hl=>by
  have:=hp4 l hl
  simp only[Bool.and_eq_true,Bool.not_eq_true',List.contains_eq_mem,decide_eq_false_iff_not] at this
  exact this
 obtain⟨G1,d1,d2,d3,d4,d5,d6,d7,d8,d9,hfr,hlb',hbo',hcu⟩:=h.drop ab [] []
 have hbo:∀ b m,G.ow b=.box m→G1.ow b=.box m:=fun b m hb=>hbo' b m hb (by simp)
 have hb:RG F G1 base a w:=by
  refine⟨fun t tv hl=>?_,by simp[h1,look],by simp[h2,look],d1.lt,d1.os,d1.tape,d1.output,d1.size,d1.keep,fun b β hb=>by rw[h3];exact d1.fb b β hb,fun l v hl=>by rw[h4];exact d1.fl l v hl,by rw[h5];exact d1.nt,d1.df⟩
  obtain⟨q1,q2⟩:=htm t tv hl
  obtain⟨m1,m2⟩:=memfree_tv q1
  exact TV.carry ⟨fun g hg=>⟨rfl,hfr g hg⟩,hcu⟩ (fun m hm=>by rw[d3]) (fun m hm=>by rw[m2 m] at hm;cases hm) (fun b _=>by rw[d2]) q2
 have hn:∀ l,l∉hOf vs→NoRef base l:=fun l hl=>⟨fun t tv ht=>by
  cases hr:tv.refs l with
  | false=>rfl
  | true=>exact absurd ((memfree_tv (htm t tv ht).1).1 l hr) hl,by simp[h1,look]⟩
 obtain⟨G',k1,_⟩:=head_ok h base hb (hOf vs) hn d2 d3 ab (fun b m hb hm=>d5 b m hb (.inl hm)) hfr hbo (fun b m hb hm=>hlb' b m hb hm (by simp)) vs x ab hg (fun _ h=>h) hp1 hp2 (fun p hp m hm=>by
  refine⟨fun hmem=>?_,fun hmem=>(hht m hmem).1 (by rw[hm];exact hp)⟩
  rw[h4] at hmem
  unfold noneIn at hp3
  rw[List.all_eq_true] at hp3
  have:=hp3 m hmem
  simp only[Bool.not_eq_true',List.contains_eq_mem,decide_eq_false_iff_not] at this
  exact this (by rw[hm];exact hp)) hht
 exact⟨G',k1⟩
end
end Go.D
namespace Go.D
def settleT:Nat→Nat→St→(St→Out)→Out
 | 0,_,σ,K=>K σ
 | m+1,t,σ,K=>match look σ.tm t with
  | some (.v agg cs)=>match subAt cs 0 with
   | some (j,l,k,lo,n)=>match look σ.hp l with
    | some T=>bif decide (T.k=k) && !σ.fl.contains l then .ob (lo+n≤T.n) (settleT m t (reCell (retreeSt σ l [] ⟨T.t,cut T.xs lo n⟩) t j l) K) else .bad
    | none=>.bad
   | none=>K σ
  | _=>K σ
def reBox (σ:St) (b j l:Nat):St:=match look σ.bx b with
 | some cs=>{ σ with bx:=D.put σ.bx b (cs.set j (.ref l))}
 | none=>σ
def settleB:Nat→Nat→St→(St→Out)→Out
 | 0,_,σ,K=>K σ
 | m+1,b,σ,K=>match look σ.bx b with
  | some cs=>match subAt cs 0 with
   | some (j,l,k,lo,n)=>match look σ.hp l with
    | some T=>bif decide (T.k=k) && !σ.fl.contains l then .ob (lo+n≤T.n) (settleB m b (reBox (retreeSt σ l [] ⟨T.t,cut T.xs lo n⟩) b j l) K) else .bad
    | none=>.bad
   | none=>K σ
  | none=>K σ
def settle:List ResultVar→St→(St→Out)→Out
 | [],σ,K=>K σ
 | .tmp t::rs,σ,K=>settleT 40 t σ (fun σ'=>settle rs σ' K)
 | .cell t _::rs,σ,K=>match σ.get t with
  | .ptr b 0=>settleB 40 b σ (fun σ'=>settle rs σ' K)
  | _=>settle rs σ K
def settleBs:List Nat→St→(St→Out)→Out
 | [],σ,K=>K σ
 | b::bs,σ,K=>settleB 40 b σ (fun σ'=>settleBs bs σ' K)
def refAt:List Cell→Nat→Option (Nat×Nat)
 | [],_=>none
 | .ref l::_,j=>some (j,l)
 | _::cs,j=>refAt cs (j+1)
def relSt (σ:St) (l:Nat):St:=({ σ with hp:=σ.hp.filter (fun p=>!(p.1==l))}:St).kill [l]
def reCellB (σ:St) (b j:Nat) (c:Cell):St:=match look σ.bx b with
 | some cs=>{ σ with bx:=D.put σ.bx b (cs.set j c)}
 | none=>σ
def relB:Nat→Nat→St→(St→Out)→Out
 | 0,_,σ,K=>K σ
 | m+1,b,σ,K=>match look σ.bx b with
  | some cs=>match refAt cs 0 with
   | some (j,l)=>match look σ.hp l with
    | some T=>bif !σ.fl.contains l then relB m b (reCellB (relSt σ l) b j (.im none T.t T.xs)) K else .bad
    | none=>.bad
   | none=>K σ
  | none=>K σ
def settlePs:List Vr→St→(St→Out)→Out
 | [],σ,K=>K σ
 | v::vs,σ,K=>match v.own with
  | true=>match v.k with
   | .s=>settleT 40 v.p σ (fun σ'=>settlePs vs σ' K)
   | .b=>settleB 40 v.p σ (fun σ'=>settlePs vs σ' K)
   | .t=>settlePs vs σ K
  | false=>match v.k with
   | .b=>relB 40 v.p σ (fun σ'=>settlePs vs σ' K)
   | _=>settlePs vs σ K
section
variable {P:Program} {F:Fr P} {G G':Gh} {σ σ':St} {a:Act} {w w':World} {K:St→Out} {Q:Post}
theorem settle1 {t j l k lo n:Nat} {agg:Bool} {cs:List Cell} {T:Tree} (h:RG F G σ a w) (ht:look σ.tm t=some (.v agg cs)) (hj:cs[j]? = some (.sub l k lo n)) (hT:look σ.hp l=some T) (hk:T.k=k) (hfl:l∉σ.fl) (hle:lo+n≤T.n) :
 ∃ G',RG F G' (reCell (retreeSt σ l [] ⟨T.t,cut T.xs lo n⟩) t j l) a w:=by
 obtain⟨u,hu,hset⟩:=part_set (h.tm t _ ht) hj
 have h1:u.oneCell'=true:=CellR.one hu
 subst hk
 have hto:=to_cut (sub_own (h.hp l T hT) hu hle) hle
 rw[fcC_tree ⟨T.t,cut T.xs lo n⟩] at hto
 obtain⟨G',h2,h3,_⟩:=h.retree l [] ⟨T.t,cut T.xs lo n⟩ u (fun g=>G.ow g=.lab l) ⟨rfl,rfl,⟨rfl,by first|exact DrLe.refl _|exact DrLe.succ _|exact DrLe.add _ _⟩,Nat.le_refl _⟩ (fun _ _ _=>rfl) (fun g hg=>⟨h.lt g (by rw[hg];intro e;cases e),.inr (.inl hg)⟩) hto hfl (by simp)
 have hlk:look (retreeSt σ l [] ⟨T.t,cut T.xs lo n⟩).tm t=some (.v agg (cs.map (·.kill [l]))):=by
  simp only[retreeSt,St.kill,St.map]
  rw[look_map (fun x:TV=>x.kill [l]),ht]
  rfl
 refine⟨G',?_⟩
 unfold reCell
 rw[hlk]
 refine RG.retell h2 ?_
 exact hset G' _ _ (h2.tm t _ hlk) (by simp) ⟨h3.symm,h1⟩
theorem settleT_ok:∀ (m t:Nat) (σ:St) (G:Gh) (K:St→Out),RG F G σ a w→(settleT m t σ K).holds Q→∃ σ' G',RG F G' σ' a w∧(K σ').holds Q:=by
 intro m
 induction m with
 | zero=>intro t σ G K h hh;exact⟨σ,G,h,hh⟩
 | succ m ih=>
  intro t σ G K h hh
  unfold settleT at hh
  split at hh
  ·rename_i agg cs ht
   split at hh
   ·rename_i j l k lo n hs
    split at hh
    ·rename_i T hT
     cases hc:(decide (T.k=k) && !σ.fl.contains l) with
     | false=>rw[hc,cond_false] at hh;exact hh.elim
     | true=>
      rw[hc,cond_true] at hh
      simp only[Bool.and_eq_true,decide_eq_true_eq,Bool.not_eq_true'] at hc
      obtain⟨hle,hh⟩:=hh
      obtain⟨_,hj⟩:=subAt_get hs
      obtain⟨G',h'⟩:=settle1 h ht (by simpa using hj) hT hc.1 (by simpa using hc.2) hle
      grind
    ·exact hh.elim
   ·exact⟨σ,G,h,hh⟩
  ·exact⟨σ,G,h,hh⟩
theorem RG.rebox (h:RG F G σ a w) {b:Nat} {cs:List Cell} (h1:G.ow (G.be b)=.box b) {r:Array Value} {e:TypeId} (h2:w.heap[G.be b]? = some (.cells r e (0,0))) (h3:CellsR w G cs r):RG F G { σ with bx:=D.put σ.bx b cs } a w:=by
 refine⟨h.tm,?_,h.hp,h.lt,h.os,h.tape,h.output,h.size,h.keep,h.fb,h.fl,h.nt,h.df⟩
 intro b' cs' hl
 simp only[look_put] at hl
 by_cases hb:b'=b
 ·simp_all
 ·simp only[hb,if_false] at hl
  exact h.bx b' cs' hl
theorem settle2 {b j l k lo n:Nat} {cs:List Cell} {T:Tree} (h:RG F G σ a w) (hb:look σ.bx b=some cs) (hj:cs[j]? = some (.sub l k lo n)) (hT:look σ.hp l=some T) (hk:T.k=k) (hfl:l∉σ.fl) (hle:lo+n≤T.n) :
 ∃ G',RG F G' (reBox (retreeSt σ l [] ⟨T.t,cut T.xs lo n⟩) b j l) a w:=by
 obtain⟨ow,r,e,hr,hc⟩:=h.bx b cs hb
 obtain⟨u,hu,hcu⟩:=hc.2 j _ hj
 have h1:u.oneCell'=true:=CellR.one hcu
 subst hk
 have hto:=to_cut (sub_own (h.hp l T hT) hcu hle) hle
 rw[fcC_tree ⟨T.t,cut T.xs lo n⟩] at hto
 obtain⟨G',h2,h3,_,_,h4,_⟩:=h.retree l [] ⟨T.t,cut T.xs lo n⟩ u (fun g=>G.ow g=.lab l) ⟨rfl,rfl,⟨rfl,by first|exact DrLe.refl _|exact DrLe.succ _|exact DrLe.add _ _⟩,Nat.le_refl _⟩ (fun _ _ _=>rfl) (fun g hg=>⟨h.lt g (by rw[hg];intro e;cases e),.inr (.inl hg)⟩) hto hfl (by simp)
 have hlk:look (retreeSt σ l [] ⟨T.t,cut T.xs lo n⟩).bx b=some (cs.map (·.kill [l])):=by
  simp only[retreeSt,St.kill,St.map]
  rw[look_map (fun x:List Cell=>x.map (·.kill [l])),hb]
  rfl
 obtain⟨ow',r',e',hr',hc'⟩:=h2.bx b _ hlk
 refine⟨G',?_⟩
 unfold reBox
 rw[hlk]
 have hr2:=hr'
 rw[h4,hr] at hr2
 injection hr2 with hr2
 injection hr2 with e1 e2 e3
 subst e1
 exact RG.rebox h2 ow' hr' (cells_set hc' hu ⟨h3.symm,h1⟩)
theorem settleB_ok:∀ (m b:Nat) (σ:St) (G:Gh) (K:St→Out),RG F G σ a w→(settleB m b σ K).holds Q→∃ σ' G',RG F G' σ' a w∧(K σ').holds Q:=by
 intro m
 induction m with
 | zero=>intro b σ G K h hh;exact⟨σ,G,h,hh⟩
 | succ m ih=>
  intro b σ G K h hh
  unfold settleB at hh
  split at hh
  ·rename_i cs hb
   split at hh
   ·rename_i j l k lo n hs
    split at hh
    ·rename_i T hT
     cases hc:(decide (T.k=k) && !σ.fl.contains l) with
     | false=>rw[hc,cond_false] at hh;exact hh.elim
     | true=>
      rw[hc,cond_true] at hh
      simp only[Bool.and_eq_true,decide_eq_true_eq,Bool.not_eq_true'] at hc
      obtain⟨hle,hh⟩:=hh
      obtain⟨_,hj⟩:=subAt_get hs
      obtain⟨G',h'⟩:=settle2 h hb (by simpa using hj) hT hc.1 (by simpa using hc.2) hle
      grind
    ·exact hh.elim
   ·exact⟨σ,G,h,hh⟩
  ·exact⟨σ,G,h,hh⟩
theorem settle_ok:∀ (rs:List ResultVar) (σ:St) (G:Gh) (K:St→Out),RG F G σ a w→(settle rs σ K).holds Q→∃ σ' G',RG F G' σ' a w∧(K σ').holds Q:=by
 intro rs
 induction rs with
 | nil=>intro σ G K h hh;exact⟨σ,G,h,hh⟩
 | cons r rs ih=>
  intro σ G K h hh
  cases r with
  | tmp t=>
   obtain⟨σ1,G1,h1,hh1⟩:=settleT_ok 40 t σ G _ h hh
   grind
  | cell t T=>
   simp only[settle] at hh
   split at hh
   ·obtain⟨σ1,G1,h1,hh1⟩:=settleB_ok 40 _ σ G _ h hh
    grind
   ·exact ih σ G K h hh
theorem settleBs_ok:∀ (bs:List Nat) (σ:St) (G:Gh) (K:St→Out),RG F G σ a w→(settleBs bs σ K).holds Q→∃ σ' G',RG F G' σ' a w∧(K σ').holds Q:=by
 intro bs
 induction bs with
 | nil=>intro σ G K h hh;exact⟨σ,G,h,hh⟩
 | cons b bs ih=>
  intro σ G K h hh
  obtain⟨σ1,G1,h1,hh1⟩:=settleB_ok 40 b σ G _ h hh
  grind
theorem refAt_get:∀ (cs:List Cell) (i:Nat) {j l:Nat},refAt cs i=some (j,l)→i≤j∧cs[j-i]? = some (.ref l):=by
 intro cs
 induction cs with
 | nil=>intro i j l h;simp[refAt] at h
 | cons c cs ih=>
  intro i j l h
  have nx:refAt cs (i+1)=some (j,l)→i≤j∧(c::cs)[j-i]? = some (.ref l):=by
   grind
  cases c<;>simp only[refAt] at h<;>first|exact nx h|skip
  simp_all
open Classical in
theorem RG.release (h:RG F G σ a w) (l:Nat):∃ G',RG F G' (relSt σ l) a w∧(∀ g,G.ow g=.lab l→G'.ow g=.free)∧G'.be=G.be:=by
 let G1:Gh:={ G with ow:=fun g=>if G.ow g=.lab l then .free else G.ow g }
 have hf:FreeOk w w G G1:=⟨fun g hg=>⟨rfl,by simp[G1,hg]⟩,fun g hg=>by simp[G1,hg]⟩
 have hm:∀ m,m≠l→MemOk w w G G1 m:=fun m hm g hg=>⟨rfl,by simp[G1,hg,hm]⟩
 refine⟨G1,⟨?_,?_,?_,?_,h.os,h.tape,h.output,h.size,?_,h.fb,h.fl,h.nt,h.df⟩,fun g hg=>by simp[G1,hg],rfl⟩
 ·intro s tv hlk
  simp only[relSt,St.kill,St.map] at hlk
  rw[look_map (fun x:TV=>x.kill [l])] at hlk
  cases hq:look σ.tm s with
  | none=>simp[hq] at hlk
  | some x=>
   simp only[hq,Option.map_some,Option.some.injEq] at hlk
   subst hlk
   have hx:=TV.map_ok (f:=fun c=>c.kill [l]) (bad:=fun x=>[l].any fun l=>x.refs l||x.mems l) (fun _ _=>Cell.kill_ok [l]) (h.tm s x hq)
   exact TV.carry hf (fun _ _=>rfl) (fun m e=>hm m (by simpa using TV.kill_mems e)) (fun _ _=>rfl) hx
 ·intro b cs hlk
  simp only[relSt,St.kill,St.map] at hlk
  rw[look_map (fun cs:List Cell=>cs.map (·.kill [l]))] at hlk
  cases hq:look σ.bx b with
  | none=>simp[hq] at hlk
  | some x=>
   simp only[hq,Option.map_some,Option.some.injEq] at hlk
   subst hlk
   obtain⟨h1,r,e,h2,h3⟩:=h.bx b x hq
   refine⟨by simp[G1,h1],r,e,h2,by simpa using h3.1,fun j c hj=>?_⟩
   rw[List.getElem?_map] at hj
   cases hq2:x[j]? with
   | none=>simp[hq2] at hj
   | some c0=>
    simp only[hq2,Option.map_some,Option.some.injEq] at hj
    subst hj
    obtain⟨u,hu,ht⟩:=h3.2 j c0 hq2
    exact⟨u,hu,Cell.carry hf (fun _ _=>rfl) (fun m e=>hm m (by simpa using(Cell.kill_mems e).2)) (Cell.kill_ok [l] ht)⟩
 ·intro m T hlk
  simp only[relSt,St.kill,St.map] at hlk
  have:=look_filter (fun q=>!(q==l)) σ.hp m
  rw[this] at hlk
  by_cases e:m=l
  ·simp[e] at hlk
  ·simp only[e,Bool.not_eq_true',beq_eq_false_iff_ne,ne_eq,not_false_eq_true,if_true] at hlk
   exact(h.hp m T hlk).frame fun g hg _=>⟨rfl,(hm m e g hg).2⟩
 ·exact fun g hg=>h.lt g fun e=>hg (by simp[G1,e])
 ·exact h.keep.step hf (fun g hg=>(h.keep.at_ g hg).same rfl) fun g hg=>by
   grind
theorem rel1 {b j l:Nat} {cs:List Cell} {T:Tree} (h:RG F G σ a w) (hb:look σ.bx b=some cs) (hj:cs[j]? = some (.ref l)) (hT:look σ.hp l=some T) :
 ∃ G',RG F G' (reCellB (relSt σ l) b j (.im none T.t T.xs)) a w:=by
 obtain⟨ow,r,e,hr,hc⟩:=h.bx b cs hb
 obtain⟨u,hu,hcu⟩:=hc.2 j _ hj
 have hto:=h.hp l T hT
 rw[←hcu.1,←fcC_tree] at hto
 obtain⟨G',h2,h3,h4⟩:=h.release l
 have hlk:look (relSt σ l).bx b=some (cs.map (·.kill [l])):=by
  simp only[relSt,St.kill,St.map]
  rw[look_map (fun x:List Cell=>x.map (·.kill [l])),hb]
  rfl
 obtain⟨ow',r',e',hr',hc'⟩:=h2.bx b _ hlk
 refine⟨G',?_⟩
 unfold reCellB
 rw[hlk]
 have hr2:=hr'
 rw[h4,hr] at hr2
 injection hr2 with hr2
 injection hr2 with e1 e2 e3
 subst e1
 exact RG.rebox h2 ow' hr' (cells_set hc' hu (hto.read.frame fun g hg _=>⟨rfl,h3 g hg⟩))
theorem relB_ok:∀ (m b:Nat) (σ:St) (G:Gh) (K:St→Out),RG F G σ a w→(relB m b σ K).holds Q→∃ σ' G',RG F G' σ' a w∧(K σ').holds Q:=by
 intro m
 induction m with
 | zero=>intro b σ G K h hh;exact⟨σ,G,h,hh⟩
 | succ m ih=>
  intro b σ G K h hh
  unfold relB at hh
  split at hh
  ·rename_i cs hb
   split at hh
   ·rename_i j l hs
    split at hh
    ·rename_i T hT
     cases hc:(!σ.fl.contains l) with
     | false=>rw[hc,cond_false] at hh;exact hh.elim
     | true=>
      rw[hc,cond_true] at hh
      obtain⟨_,hj⟩:=refAt_get cs 0 hs
      obtain⟨G',h'⟩:=rel1 h hb (by simpa using hj) hT
      grind
    ·exact hh.elim
   ·exact⟨σ,G,h,hh⟩
  ·exact⟨σ,G,h,hh⟩
theorem settlePs_ok:∀ (vs:List Vr) (σ:St) (G:Gh) (K:St→Out),RG F G σ a w→(settlePs vs σ K).holds Q→∃ σ' G',RG F G' σ' a w∧(K σ').holds Q:=by
 intro vs
 induction vs with
 | nil=>intro σ G K h hh;exact⟨σ,G,h,hh⟩
 | cons v vs ih=>
  intro σ G K h hh
  unfold settlePs at hh
  split at hh
  ·split at hh
   ·obtain⟨σ1,G1,h1,hh1⟩:=settleT_ok 40 _ σ G _ h hh
    grind
   ·obtain⟨σ1,G1,h1,hh1⟩:=settleB_ok 40 _ σ G _ h hh
    grind
   ·exact ih σ G K h hh
  ·split at hh
   ·obtain⟨σ1,G1,h1,hh1⟩:=relB_ok 40 _ σ G _ h hh
    grind
   ·exact ih σ G K h hh
def slotRef:List Cell→Nat→Option (Nat×Nat)
 | [],_=>none
 | .ref l::cs,j=>bif decide (l<64000000) then some (j,l) else slotRef cs (j+1)
 | _::cs,j=>slotRef cs (j+1)
theorem slotRef_get:∀ (cs:List Cell) (i:Nat) {j l:Nat},slotRef cs i=some (j,l)→i≤j∧cs[j-i]? = some (.ref l):=by
 intro cs
 induction cs with
 | nil=>intro i j l h;simp[slotRef] at h
 | cons c cs ih=>
  intro i j l h
  have nx:slotRef cs (i+1)=some (j,l)→i≤j∧(c::cs)[j-i]? = some (.ref l):=by
   grind
  cases c<;>simp only[slotRef] at h<;>first|exact nx h|skip
  grind
theorem move1 {b j l q:Nat} {cs:List Cell} {T:Tree} (h:RG F G σ a w) (hb:look σ.bx b=some cs) (hj:cs[j]? = some (.ref l)) (hT:look σ.hp l=some T) (hfl:l∉σ.fl) (hq:q∉σ.fl) :
 ∃ G',RG F G' (reBox (retreeSt σ q [l] T) b j q) a w:=by
 obtain⟨ow,r,e,hr,hc⟩:=h.bx b cs hb
 obtain⟨u,hu,hcu⟩:=hc.2 j _ hj
 have h1:u.oneCell'=true:=hcu.2
 have hto:=h.hp l T hT
 rw[←hcu.1] at hto
 obtain⟨G',h2,h3,_,_,h4,_⟩:=h.retree q [l] T u (fun g=>G.ow g=.lab l) ⟨rfl,rfl,⟨rfl,by first|exact DrLe.refl _|exact DrLe.succ _|exact DrLe.add _ _⟩,Nat.le_refl _⟩ (fun _ _ _=>rfl) (fun g hg=>⟨h.lt g (by simp[hg]),.inr (.inr ⟨l,by simp,hg⟩)⟩) hto hq (by simpa using hfl)
 have hlk:look (retreeSt σ q [l] T).bx b=some (cs.map (·.kill [q,l])):=by
  simp only[retreeSt,St.kill,St.map]
  rw[look_map (fun x:List Cell=>x.map (·.kill [q,l])),hb]
  rfl
 obtain⟨ow',r',e',hr',hc'⟩:=h2.bx b _ hlk
 refine⟨G',?_⟩
 unfold reBox
 rw[hlk]
 have hr2:=hr'
 rw[h4,hr] at hr2
 injection hr2 with hr2
 injection hr2 with e1 e2 e3
 subst e1
 exact RG.rebox h2 ow' hr' (cells_set hc' hu ⟨h3.symm,h1⟩)
def moveB:Nat→Nat→St→(St→Out)→Out
 | 0,_,σ,K=>K σ
 | m+1,b,σ,K=>match look σ.bx b with
  | some cs=>match slotRef cs 0 with
   | some (j,l)=>match look σ.hp l with
    | some T=>bif !σ.fl.contains l && !σ.fl.contains (64*(3000000+b)+j) then moveB m b (reBox (retreeSt σ (64*(3000000+b)+j) [l] T) b j (64*(3000000+b)+j)) K else .bad
    | none=>.bad
   | none=>K σ
  | none=>K σ
theorem moveB_ok:∀ (m b:Nat) (σ:St) (G:Gh) (K:St→Out),RG F G σ a w→(moveB m b σ K).holds Q→∃ σ' G',RG F G' σ' a w∧(K σ').holds Q:=by
 intro m
 induction m with
 | zero=>intro b σ G K h hh;exact⟨σ,G,h,hh⟩
 | succ m ih=>
  intro b σ G K h hh
  unfold moveB at hh
  split at hh
  ·rename_i cs hb
   split at hh
   ·rename_i j l hs
    split at hh
    ·rename_i T hT
     cases hc:(!σ.fl.contains l && !σ.fl.contains (64*(3000000+b)+j)) with
     | false=>rw[hc,cond_false] at hh;exact hh.elim
     | true=>
      rw[hc,cond_true] at hh
      simp only[Bool.and_eq_true,Bool.not_eq_true'] at hc
      obtain⟨_,hj⟩:=slotRef_get cs 0 hs
      obtain⟨G',h'⟩:=move1 (q:=64*(3000000+b)+j) h hb (by simpa using hj) hT (by simpa using hc.1) (by simpa using hc.2)
      grind
    ·exact hh.elim
   ·exact⟨σ,G,h,hh⟩
  ·exact⟨σ,G,h,hh⟩
def moveBs:List Nat→St→(St→Out)→Out
 | [],σ,K=>K σ
 | b::bs,σ,K=>settleB 40 b σ fun σ=>moveB 40 b σ fun σ=>moveBs bs σ K
theorem moveBs_ok:∀ (bs:List Nat) (σ:St) (G:Gh) (K:St→Out),RG F G σ a w→(moveBs bs σ K).holds Q→∃ σ' G',RG F G' σ' a w∧(K σ').holds Q:=by
 intro bs
 induction bs with
 | nil=>intro σ G K h hh;exact⟨σ,G,h,hh⟩
 | cons b bs ih=>
  intro σ G K h hh
  obtain⟨σ1,G1,h1,hh1⟩:=settleB_ok 40 b σ G _ h hh
  obtain⟨σ2,G2,h2,hh2⟩:=moveB_ok 40 b σ1 G1 _ h1 hh1
  grind
end
end Go.D
namespace Go.D
structure LInv where
 ps:List Vr
 inv:Xs ps→Xs ps→Prop
 m:Xs ps→Nat
abbrev LEnv:=Nat→Option LInv
def ExR:Ex→Exit→Prop
 | .normal,e=>e=.normal
 | .exit id,e=>e=.exit id
 | .ret,e=>e=.ret
def Post2 {P:Program} (F:Fr P) (K:Ex→St→Out) (Q:Post):Exit→Act→World→Prop:=fun e a w=>∃ ex σ',ExR ex e∧R F σ' a w∧(K ex σ').holds Q
def regId:Code→Nat
 | .region i _ _=>i
 | .seq x _=>regId x
 | .cond _ x _=>regId x
 | .block _ x=>regId x
 | .loop x=>regId x
 | _=>0
def dstsOps (ops:List Oper):List Nat:=ops.filterMap (·.dst)
def dstsOf:Code→List Nat
 | .region _ ops _=>dstsOps ops.toList
 | .seq x y=>dstsOf x++dstsOf y
 | .cond _ x y=>dstsOf x++dstsOf y
 | .block _ x=>dstsOf x
 | .loop x=>dstsOf x
 | _=>[]
def St.clean (σ:St) (kp:List Nat):St:={ σ with tm:=σ.tm.filter fun p=>kp.contains p.1 }
def St.dropC (σ:St) (kp:List Nat):Operand→St
 | .tmp t=>bif kp.contains (t+1000000) then{ σ with tm:=σ.tm.filter fun p=>!(p.1==t)} else σ
 | _=>σ
def TV.forget (hs:List Nat) (x:TV):TV:=bif x.memfree hs then x else .dead
def baseTm (kp ds:List Nat) (ps:List Vr) (l:List (Nat×TV)):List (Nat×TV):=(l.filter fun x=>kp.contains x.1 && !(ds.contains x.1||ps.any fun v=>(match v.k with | .s=>true|_=>false)&&v.p==x.1)).map fun x=>(x.1,x.2.forget (hOf ps))
def eqCell:Cell→Cell→Option (List Prop)
 | .sc u,.sc v=>some [u=v]
 | .tt,.tt=>some []
 | .ff,.ff=>some []
 | .nil,.nil=>some []
 | .ref l,.ref m=>if l=m then some [] else none
 | .sub l k lo n,.sub l' k' lo' n'=>if l=l'∧k=k' then some [lo=lo',n=n'] else none
 | .sc u,.tt=>some [u=.bool true]
 | .sc u,.ff=>some [u=.bool false]
 | .tt,.sc u=>some [u=.bool true]
 | .ff,.sc u=>some [u=.bool false]
 | .im none t xs,.im none t' ys=>if h:t=t' then some [h▸xs=ys] else none
 | _,_=>none
def eqCells:List Cell→List Cell→Option (List Prop)
 | [],[]=>some []
 | c::cs,d::ds=>match eqCell c d,eqCells cs ds with
  | some p,some q=>some (p++q)
  | _,_=>none
 | _,_=>none
def eqCaps:List Cap→List Cap→Option (List Prop)
 | [],[]=>some []
 | .ptr b::cs,.ptr b'::ds=>if b=b' then eqCaps cs ds else none
 | .aptr x::cs,.aptr y::ds=>match eqCaps cs ds with
  | some q=>some ((x=y)::q)
  | none=>none
 | _,_=>none
def eqTV:TV→TV→Option (List Prop)
 | .v a cs,.v b ds=>if a=b then eqCells cs ds else none
 | .ptr b o,.ptr b' o'=>if b=b'∧o=o' then some [] else none
 | .aptr cs o,.aptr ds o'=>if o=o' then some [cs=ds] else none
 | .clo f cs,.clo g ds=>if f=g then eqCaps cs ds else none
 | .cur,.cur=>some []
 | .sptr none t x o,.sptr none t' y o'=>if h:t=t' then if o=o' then some [h▸x=y] else none else none
 | _,_=>none
def subTm (σ:St):List (Nat×TV)→Option (List Prop)
 | []=>some []
 | (_,.dead)::r=>subTm σ r
 | (t,x)::r=>match look σ.tm t with
  | some y=>match eqTV y x,subTm σ r with
   | some p,some q=>some (p++q)
   | _,_=>none
  | none=>none
def back (li:LInv) (x0 x:Xs li.ps) (base σ:St):Out :=
 match grabAll σ li.ps with
 | some (x',ab)=>match subTm σ base.tm with
  | some ps=>bif placesOk σ li.ps ab&&σ.nt==base.nt&&σ.fb==base.fb&&σ.fl==base.fl then obs ps (.ob (li.inv x0 x'∧li.m x'<li.m x) .ok) else .bad
  | none=>.bad
 | none=>.bad
def lpx (li:LInv) (x0:Xs li.ps) (f:Xs li.ps→(Xs li.ps→Prop)→Out):Out:=.lp (Xs li.ps) (li.inv x0 x0) (li.inv x0) fun x=>f x fun x'=>li.inv x0 x'∧li.m x'<li.m x
def unrollN (kp:List Nat) (id:Nat):Nat:=match kp.find? (fun k=>k / 64==1000000+id) with
 | some k=>k % 64
 | none=>0
def unroll (f:St→(Ex→St→Out)→Out) (K:Ex→St→Out):Nat→St→Out
 | 0,_=>.bad
 | n+1,σ=>f σ fun e σ'=>match e with
  | .normal=>moveBs (σ'.bx.map (·.1)) σ' (fun σ'=>unroll f K n σ')
  | e=>K e σ'
def closedC (kp:List Nat):Operand→Bool
 | .tmp t=>kp.contains (200000000+t)
 | _=>false
def brC (x:TV) (y n:Out):Out:=match x with
 | .v false [.sc (.bool b)]=>bif b then y else n
 | x=>brTV x y n
theorem brC_ok {x:TV} {y n:Out} {Q:Post} (h:(brC x y n).holds Q):(brTV x y n).holds Q:=by
 unfold brC at h
 split at h
 ·rename_i b
  cases b with
  | true=>exact⟨fun _=>h,fun e=>(by cases e)⟩
  | false=>exact⟨fun e=>(by cases e),fun _=>h⟩
 ·exact h
def run (P:Program) (E:Env) (L:LEnv) (kp:List Nat):Code→St→(Ex→St→Out)→Out
 | .skip,σ,K=>K .normal σ
 | .region _ ops draw,σ,K=>bif draw then evDraw P E ops σ (fun σ'=>K .normal (σ'.clean kp)) else evOps P E ops (List.range ops.size) σ (fun σ'=>K .normal (σ'.clean kp))
 | .seq x y,σ,K=>run P E L kp x σ (fun e σ'=>match e with
  | .normal=>run P E L kp y σ' K
  | e=>K e σ')
 | .cond c x y,σ,K=>bif closedC kp c then brC (σ.eval c) (run P E L kp x (σ.dropC kp c) K) (run P E L kp y (σ.dropC kp c) K) else brTV (σ.eval c) (run P E L kp x (σ.dropC kp c) K) (run P E L kp y (σ.dropC kp c) K)
 | .block id x,σ,K=>run P E L kp x σ (fun e σ'=>match e with
  | .exit i=>bif i==id then K .normal σ' else K (.exit i) σ'
  | e=>K e σ')
 | .exit id,σ,K=>K (.exit id) σ
 | .ret,σ,K=>K .ret σ
 | .loop b,σ,K=>bif unrollN kp (regId b) != 0 then unroll (fun σ K=>run P E L kp b σ K) K (unrollN kp (regId b)) σ else match L (regId b) with
  | some li=>settlePs li.ps σ fun σ=>match grabAll σ li.ps with
   | some (x0,ab)=>
    bif placesOk σ li.ps ab then
     .lp (Xs li.ps) (li.inv x0 x0) (li.inv x0) fun x=>run P E L kp b (headSt { σ with tm:=baseTm kp (dstsOf b) li.ps σ.tm,bx:=[],hp:=[]} li.ps x) (fun e σ'=>match e with
      | .normal=>settlePs li.ps σ' fun σ'=>back li x0 x { σ with tm:=baseTm kp (dstsOf b) li.ps σ.tm,bx:=[],hp:=[]} σ'
      | e=>K e σ')
    else .bad
   | none=>.bad
  | none=>.bad
 | _,_,_=>.bad
section
variable {P:Program} {E:Env} {F:Fr P} {G:Gh} {σ:St} {a:Act} {w:World} {o:Oper} {K:St→Out} {Q:Post} {Qx:Exit→Act→World→Prop}
theorem RG.clean (h:RG F G σ a w) (kp:List Nat):RG F G (σ.clean kp) a w:=by
 refine⟨?_,h.bx,h.hp,h.lt,h.os,h.tape,h.output,h.size,h.keep,h.fb,h.fl,h.nt,h.df⟩
 intro t tv hl
 simp only[St.clean,look_filter (fun t=>kp.contains t)] at hl
 split at hl
 ·exact h.tm t tv hl
 ·cases hl
theorem RG.dropC (h:RG F G σ a w) (kp:List Nat) (c:Operand):RG F G (σ.dropC kp c) a w:=by
 unfold St.dropC
 split
 ·rename_i t
  cases kp.contains (t+1000000) with
  | false=>exact h
  | true=>
   refine⟨?_,h.bx,h.hp,h.lt,h.os,h.tape,h.output,h.size,h.keep,h.fb,h.fl,h.nt,h.df⟩
   intro t' tv hl
   simp only[cond_true,look_filter (fun s=>!(s==t))] at hl
   split at hl
   ·exact h.tm t' tv hl
   ·cases hl
 ·exact h
theorem forget_memfree (hs:List Nat) (x:TV):(x.forget hs).memfree hs=true:=by
 unfold TV.forget
 cases h:x.memfree hs
 ·rfl
 ·exact h
theorem forget_ok {hs:List Nat} {x:TV} {v:Value} (h:TVR w G x v):TVR w G (x.forget hs) v:=by
 unfold TV.forget
 cases x.memfree hs
 ·trivial
 ·exact h
theorem eqCell_ok {c d:Cell} {p:List Prop} {v:Value} (h:eqCell c d=some p) (hp:∀ q∈p,q) (hc:CellR w G c v):CellR w G d v:=by
 unfold eqCell at h
 split at h
 ·simp only[Option.some.injEq] at h;subst h;have:=hp _ (List.mem_singleton_self _);subst this;exact hc
 ·exact hc
 ·exact hc
 ·exact hc
 ·simp_all
 ·split at h
  ·rename_i e
   obtain⟨rfl,rfl⟩:=e
   simp only[Option.some.injEq] at h
   subst h
   have h1:=hp _ List.mem_cons_self
   have h2:=hp _ (List.mem_cons_of_mem _ (List.mem_singleton_self _))
   simp_all
  ·cases h
 ·simp only[Option.some.injEq] at h;subst h;have:=hp _ (List.mem_singleton_self _);subst this;exact hc.1
 ·simp only[Option.some.injEq] at h;subst h;have:=hp _ (List.mem_singleton_self _);subst this;exact hc.1
 ·simp only[Option.some.injEq] at h;subst h;have:=hp _ (List.mem_singleton_self _);subst this;exact⟨hc,rfl⟩
 ·simp only[Option.some.injEq] at h;subst h;have:=hp _ (List.mem_singleton_self _);subst this;exact⟨hc,rfl⟩
 ·rename_i t xs t' ys
  split at h
  ·rename_i e
   subst e
   simp only[Option.some.injEq] at h
   subst h
   have:=hp _ (List.mem_singleton_self _)
   subst this
   exact hc
  ·cases h
 ·cases h
theorem eqCells_ok:∀ {cs ds:List Cell} {p:List Prop},eqCells cs ds=some p→(∀ q∈p,q)→ds.length=cs.length∧∀ (j:Nat) (d:Cell),ds[j]? = some d→∃ c,cs[j]? = some c∧∀ v,CellR w G c v→CellR w G d v:=by
 intro cs
 induction cs with
 | nil=>
  intro ds p h _
  cases ds with
  | nil=>simp
  | cons d ds=>simp[eqCells] at h
 | cons c cs ih=>
  intro ds p h hp
  cases ds with
  | nil=>simp[eqCells] at h
  | cons d ds=>
   simp only[eqCells] at h
   split at h
   ·rename_i p1 p2 h1 h2
    simp only[Option.some.injEq] at h
    subst h
    obtain⟨k1,k2⟩:=ih h2 (fun q hq=>hp q (List.mem_append.2 (.inr hq)))
    refine⟨by simp[k1],fun j d' hj=>?_⟩
    cases j with
    | zero=>
     simp only[List.getElem?_cons_zero,Option.some.injEq] at hj
     subst hj
     exact⟨c,rfl,fun v hv=>eqCell_ok h1 (fun q hq=>hp q (List.mem_append.2 (.inl hq))) hv⟩
    | succ j=>simpa using k2 j d' (by simpa using hj)
   ·cases h
theorem eqCaps_ok:∀ {cs ds:List Cap} {p:List Prop},eqCaps cs ds=some p→(∀ q∈p,q)→cs=ds:=by
 intro cs
 induction cs with
 | nil=>
  intro ds p h _
  cases ds with
  | nil=>rfl
  | cons d ds=>simp[eqCaps] at h
 | cons c cs ih=>
  intro ds p h hp
  cases ds with
  | nil=>cases c<;>simp[eqCaps] at h
  | cons d ds=>
   cases c<;>cases d<;>simp only[eqCaps] at h
   ·grind
   ·cases h
   ·cases h
   ·split at h
    ·rename_i q h1
     simp only[Option.some.injEq] at h
     subst h
     rw[hp _ (List.mem_cons_self),ih h1 (fun q hq=>hp q (List.mem_cons_of_mem _ hq))]
    ·cases h
theorem eqTV_ok {x y:TV} {p:List Prop} {v:Value} (h:eqTV x y=some p) (hp:∀ q∈p,q) (hx:TVR w G x v):TVR w G y v:=by
 unfold eqTV at h
 split at h
 ·rename_i a cs b ds
  split at h
  ·rename_i e
   subst e
   obtain⟨h1,h2⟩:=eqCells_ok (w:=w) (G:=G) h hp
   exact part_map h1 h2 hx
  ·cases h
 ·simp_all
 ·split at h
  ·rename_i e
   subst e
   simp only[Option.some.injEq] at h
   subst h
   have:=hp _ (List.mem_singleton_self _)
   subst this
   exact hx
  ·cases h
 ·split at h
  ·rename_i e
   subst e
   rw[←eqCaps_ok h hp]
   exact hx
  ·cases h
 ·exact hx
 ·split at h
  ·rename_i e
   subst e
   split at h
   ·rename_i e2
    subst e2
    simp only[Option.some.injEq] at h
    subst h
    have:=hp _ (List.mem_singleton_self _)
    subst this
    exact hx
   ·cases h
  ·cases h
 ·cases h
theorem subTm_ok (h:RG F G σ a w):∀ {l:List (Nat×TV)} {p:List Prop},subTm σ l=some p→(∀ q∈p,q)→∀ t x,(t,x)∈l→TVR w G x (a.tmps.getD t undef):=by
 intro l
 induction l with
 | nil=>intro p _ _ t x hm;simp at hm
 | cons e l ih=>
  obtain⟨t0,x0⟩:=e
  intro p hs hp t x hm
  unfold subTm at hs
  split at hs
  ·rename_i e;cases e
  ·rename_i e
   injection e with e1 e2
   injection e1 with e3 e4
   subst e2;subst e3;subst e4
   rcases List.mem_cons.1 hm with e|hm
   ·injection e with e1 e2;subst e2;trivial
   ·exact ih hs hp t x hm
  ·rename_i t1 x1 r1 _ e
   injection e with e1 e2
   injection e1 with e3 e4
   subst e2;subst e3;subst e4
   split at hs
   ·rename_i y hl
    split at hs
    ·rename_i p1 p2 h1 h2
     simp only[Option.some.injEq] at hs
     subst hs
     rcases List.mem_cons.1 hm with e|hm
     ·injection e with e1 e2
      subst e1;subst e2
      exact eqTV_ok h1 (fun q hq=>hp q (List.mem_append.2 (.inl hq))) (h.tm t y hl)
     ·exact ih h2 (fun q hq=>hp q (List.mem_append.2 (.inr hq))) t x hm
    ·cases hs
   ·cases hs
theorem run_ok (hE:EOk P E) {L:LEnv} {kp:List Nat}:∀ (c:Code) (σ:St) (a:Act) (w:World) (K:Ex→St→Out),R F σ a w→(run P E L kp c σ K).holds Q→c.wp P (Post2 F K Q) a w:=by
 intro c
 induction c with
 | skip=>intro σ a w K h hh;exact wp_skip ⟨.normal,σ,rfl,h,hh⟩
 | region id ops draw=>
  intro σ a w K h hh
  simp only[run] at hh
  obtain⟨G,h⟩:=h
  cases draw with
  | true=>
   simp only[cond_true] at hh
   refine wp_mono (evDraw_ok (K:=fun σ'=>K .normal (σ'.clean kp)) hE h hh) ?_
   rintro e a' w' ⟨rfl,σ',⟨G',h'⟩,hh'⟩
   exact⟨.normal,_,rfl,⟨G',h'.clean kp⟩,hh'⟩
  | false=>
   simp only[cond_false] at hh
   refine wp_mono (wp_region (evOps_ok hE (K:=fun σ'=>K .normal (σ'.clean kp)) _ σ G a w h hh)) ?_
   rintro e a' w' ⟨rfl,σ',⟨G',h'⟩,hh'⟩
   exact⟨.normal,_,rfl,⟨G',h'.clean kp⟩,hh'⟩
 | seq x y ihx ihy=>
  intro σ a w K h hh
  simp only[run] at hh
  refine wp_seq (wp_mono (ihx σ a w _ h hh) ?_)
  rintro e a' w' ⟨ex,σ',he,h',hh'⟩
  cases ex with
  | normal=>obtain rfl:=he;exact ihy σ' a' w' K h' hh'
  | exit id=>obtain rfl:=he;exact⟨.exit id,σ',rfl,h',hh'⟩
  | ret=>obtain rfl:=he;exact⟨.ret,σ',rfl,h',hh'⟩
 | cond c x y ihx ihy=>
  intro σ a w K h hh
  simp only[run] at hh
  obtain⟨G,hG⟩:=h
  have hh:(brTV (σ.eval c) (run P E L kp x (σ.dropC kp c) K) (run P E L kp y (σ.dropC kp c) K)).holds Q:=by
   cases hcc:closedC kp c with
   | true=>rw[hcc,cond_true] at hh;exact brC_ok hh
   | false=>rw[hcc,cond_false] at hh;exact hh
  obtain⟨b,hb,h1,h2⟩:=brTV_ok (eval_ok hG c) hh
  exact wp_cond_split hb (fun e=>ihx _ a w K ⟨G,hG.dropC kp c⟩ (h1 e)) (fun e=>ihy _ a w K ⟨G,hG.dropC kp c⟩ (h2 e))
 | block id x ih=>
  intro σ a w K h hh
  simp only[run] at hh
  refine wp_block (wp_mono (ih σ a w _ h hh) ?_)
  rintro e a' w' ⟨ex,σ',he,h',hh'⟩
  cases ex with
  | normal=>obtain rfl:=he;exact⟨.normal,σ',rfl,h',hh'⟩
  | exit i=>
   obtain rfl:=he
   simp only[Exit.inBlock]
   split
   ·rename_i hi;simp only[hi,BEq.rfl,cond_true] at hh';exact⟨.normal,σ',rfl,h',hh'⟩
   ·rename_i hi
    have h0:(i==id)=false:=by simpa using hi
    simp only[h0,cond_false] at hh'
    exact⟨.exit i,σ',rfl,h',hh'⟩
  | ret=>obtain rfl:=he;exact⟨.ret,σ',rfl,h',hh'⟩
 | exit id=>intro σ a w K h hh;exact wp_exit ⟨.exit id,σ,rfl,h,hh⟩
 | ret=>intro σ a w K h hh;exact wp_ret ⟨.ret,σ,rfl,h,hh⟩
 | loop b ih=>
  intro σ a w K h hh
  simp only[run] at hh
  cases hu:(unrollN kp (regId b) != 0) with
  | true=>
   rw[hu,cond_true] at hh
   generalize unrollN kp (regId b)=m at hh
   refine wp_loop_rounds m ?_
   clear hu
   induction m generalizing σ a w with
   | zero=>exact hh.elim
   | succ m ihm=>
    rw[rounds_succ]
    refine wp_mono (ih σ a w _ h hh) ?_
    rintro e a' w' ⟨ex,σ',he,h',hh'⟩
    cases ex with
    | exit id=>obtain rfl:=he;exact⟨.exit id,σ',rfl,h',hh'⟩
    | ret=>obtain rfl:=he;exact⟨.ret,σ',rfl,h',hh'⟩
    | normal=>
     obtain rfl:=he
     obtain⟨G',hG'⟩:=h'
     obtain⟨σ2,G2,h2,hh2⟩:=moveBs_ok _ σ' G' _ hG' hh'
     exact ihm σ2 a' w' ⟨G2,h2⟩ hh2
  | false=>
  rw[hu,cond_false] at hh
  split at hh
  ·rename_i li hli
   obtain⟨G,hG⟩:=h
   obtain⟨σ,G,hG,hh⟩:=settlePs_ok _ _ _ _ hG hh
   split at hh
   ·rename_i x0 ab hg
    cases hp:placesOk σ li.ps ab with
    | false=>simp[hp,Out.holds] at hh
    | true=>
     simp only[hp,cond_true] at hh
     obtain⟨hinv,hbody⟩:=hh
     generalize hbase:({ σ with tm:=baseTm kp (dstsOf b) li.ps σ.tm,bx:=[],hp:=[]}:St)=base at hbody
     have hbt:∀ t tv,look base.tm t=some tv→tv.memfree (hOf li.ps)=true∧(t,tv)∈base.tm∧TVR w G tv (a.tmps.getD t undef):=by
      intro t tv hl
      have h1:=mem_look hl
      subst hbase
      simp only[baseTm] at hl
      rw[look_map (TV.forget (hOf li.ps)),look_filter (fun s=>kp.contains s && !((dstsOf b).contains s||li.ps.any fun v=>(match v.k with | .s=>true|_=>false)&&v.p==s))] at hl
      split at hl
      ·cases hq:look σ.tm t with
       | none=>rw[hq] at hl;cases hl
       | some x=>
        rw[hq] at hl
        simp only[Option.map_some,Option.some.injEq] at hl
        subst hl
        exact⟨forget_memfree _ x,h1,forget_ok (hG.tm t x hq)⟩
      ·cases hl
     obtain⟨G0,hG0⟩:=grab_ok hG hg hp base (by subst hbase;rfl) (by subst hbase;rfl) (by subst hbase;rfl) (by subst hbase;rfl) (by subst hbase;rfl) (fun t tv hl=>⟨(hbt t tv hl).1,(hbt t tv hl).2.2⟩)
     have key:∀ n (x:Xs li.ps) (a:Act) (w:World),li.m x<n→li.inv x0 x→R F (headSt base li.ps x) a w→Code.rounds P b (Post2 F K Q) n a w:=by
      intro n
      induction n with
      | zero=>intro x a w hm _ _;omega
      | succ n ihn=>
       intro x a w hm hx hR
       rw[rounds_succ]
       refine wp_mono (ih _ a w _ hR (hbody x hx)) ?_
       rintro e a' w' ⟨ex,σ',he,⟨G',h'⟩,hh'⟩
       cases ex with
       | exit id=>obtain rfl:=he;exact⟨.exit id,σ',rfl,⟨G',h'⟩,hh'⟩
       | ret=>obtain rfl:=he;exact⟨.ret,σ',rfl,⟨G',h'⟩,hh'⟩
       | normal=>
        obtain rfl:=he
        show Code.rounds P b (Post2 F K Q) n a' w'
        obtain⟨σ',G',h',hh2⟩:=settlePs_ok _ _ _ _ h' hh'
        have hh2:(back li x0 x base σ').holds Q:=hh2
        unfold back at hh2
        split at hh2
        ·rename_i x' ab' hg'
         split at hh2
         ·rename_i ps hs
          cases hc:(placesOk σ' li.ps ab'&&σ'.nt==base.nt&&σ'.fb==base.fb&&σ'.fl==base.fl) with
          | false=>simp[hc,Out.holds] at hh2
          | true=>
           simp only[hc,cond_true] at hh2
           simp only[Bool.and_eq_true,beq_iff_eq] at hc
           obtain⟨⟨⟨c1,c2⟩,c3⟩,c4⟩:=hc
           obtain⟨hps,⟨hinv',hm'⟩,_⟩:=obs_holds hh2
           obtain⟨G2,hG2⟩:=grab_ok h' hg' c1 base (by subst hbase;rfl) (by subst hbase;rfl) c3.symm c4.symm c2.symm (fun t tv hl=>⟨(hbt t tv hl).1,subTm_ok h' hs hps t tv (hbt t tv hl).2.1⟩)
           exact ihn x' a' w' (by omega) hinv' ⟨G2,hG2⟩
         ·exact hh2.elim
        ·exact hh2.elim
     exact wp_loop_rounds _ (key _ x0 a w (Nat.lt_succ_self _) hinv ⟨G0,hG0⟩)
   ·exact hh.elim
  ·exact hh.elim
 | _=>intro σ a w K h hh;simp only[run] at hh;exact hh.elim
end
end Go.D
namespace Go.D
def resCells (P:Program) (σ:St):ResultVar→Option (Bool×List Cell)
 | .tmp t=>match σ.get t with
  | .v agg cs=>some (agg,cs)
  | _=>none
 | .cell t T=>match σ.get t,P.underlying T,P.info? T with
  | .ptr b 0,some _,some i=>match look σ.bx b with
   | some cs=>if cs.length=i.size∧(eqTy.aggOf P T=true∨i.size=1) then some (eqTy.aggOf P T,cs) else none
   | none=>none
  | _,_,_=>none
def resParts (P:Program) (σ:St):List ResultVar→Option (List (Bool×List Cell))
 | []=>some []
 | r::rs=>match resCells P σ r,resParts P σ rs with
  | some p,some ps=>some (p::ps)
  | _,_=>none
def litParts (σ:St):List (Bool×List Cell)→Option (List (Bool×List FC))
 | []=>some []
 | p::ps=>match litC σ p.2,litParts σ ps with
  | some (ds,_),some qs=>some ((p.1,ds)::qs)
  | _,_=>none
def litBoxes (σ:St):List Nat→Option (List (Nat×List FC))
 | []=>some []
 | b::bs=>match look σ.bx b with
  | some cs=>match litC σ cs,litBoxes σ bs with
   | some (ds,_),some qs=>some ((b,ds)::qs)
   | _,_=>none
  | none=>none
def keptL (σ:St):List Nat→Option (List (Nat×Tree))
 | []=>some []
 | l::ls=>match look σ.hp l,keptL σ ls with
  | some T,some hs=>some ((l,T)::hs)
  | _,_=>none
def plCells (mk:Nat→Pl):Nat→List Cell→List (Pl×Cell)
 | _,[]=>[]
 | j,c::cs=>(mk j,c)::plCells mk (j+1) cs
def plParts:Nat→List (Bool×List Cell)→List (Pl×Cell)
 | _,[]=>[]
 | i,p::ps=>plCells (.res i) 0 p.2++plParts (i+1) ps
def plBoxes (σ:St):List Nat→List (Pl×Cell)
 | []=>[]
 | b::bs=>(match look σ.bx b with|some cs=>plCells (.box b) 0 cs|none=>[])++plBoxes σ bs
def labsOf:List (Pl×Cell)→List Nat
 | []=>[]
 | (_,.ref l)::r=>l::labsOf r
 | _::r=>labsOf r
def mkRes:List (Bool×List FC)→Res
 | [p]=>.one p.1 p.2
 | qs=>.tup qs
def leafOf (P:Program) (fn:Func) (fb kl:List Nat) (σ:St):Out :=
 match resParts P σ fn.results.toList with
 | some ps=>match litParts σ ps,litBoxes σ fb,keptL σ kl with
  | some qs,some bs,some hs=>bif nodupB (labsOf (plParts 0 ps)++(labsOf (plBoxes σ fb)++kl))&&nodupB fb then .leaf (mkRes qs) bs hs else .bad
  | _,_,_=>.bad
 | none=>.bad
def endK (P:Program) (fn:Func) (fb kl:List Nat):Ex→St→Out
 | .normal,σ=>settle fn.results.toList σ fun σ=>settleBs fb σ (leafOf P fn fb kl)
 | .ret,σ=>settle fn.results.toList σ fun σ=>settleBs fb σ (leafOf P fn fb kl)
 | .exit _,_=>.bad
def start (nt:Nat) (A:Arg) (kl:List Nat):St:={ nt,tm:=A.tm.zipIdx.map (fun p=>(p.2,p.1)),bx:=A.bx,hp:=A.hp,fb:=A.bx.map (·.1),fl:=kl }
def fcSame:FC→FC→Prop
 | .val u,.val v=>u=v
 | .nl,.nl=>True
 | .nl,.l _ ys=>ys=[]
 | .l t xs,.l t' ys=>if h:t=t' then h▸xs=ys else False
 | _,_=>False
def fcsSame:List FC→List FC→Prop
 | [],[]=>True
 | c::cs,d::ds=>fcSame c d∧fcsSame cs ds
 | _,_=>False
def psSame:List (Bool×List FC)→List (Bool×List FC)→Prop
 | [],[]=>True
 | p::ps,q::qs=>(p.1=q.1∧fcsSame p.2 q.2)∧psSame ps qs
 | _,_=>False
def resSame:Res→Res→Prop
 | .one a cs,.one b ds=>a=b∧fcsSame cs ds
 | .tup ps,.tup qs=>psSame ps qs
 | _,_=>False
def bxSame:List (Nat×List FC)→List (Nat×List FC)→Prop
 | [],[]=>True
 | p::ps,q::qs=>(p.1=q.1∧fcsSame p.2 q.2)∧bxSame ps qs
 | _,_=>False
def pstSame (p q:Pst):Prop:=resSame p.r q.r∧bxSame p.bx q.bx∧p.hp=q.hp
def Ctr.post (c:Ctr):Post:=⟨fun r bx hp=>match c with
 | .det _ q=>pstSame ⟨r,hp,bx⟩ q
 | .ex _ X ok q=>∃ x:X,ok x∧pstSame ⟨r,hp,bx⟩ (q x)
 | .df _ _ e q=>pstSame ⟨r,hp,bx⟩ (q e),fun _ _=>False⟩
theorem fcSame_le:∀ {c d:FC},fcSame c d→fcLe c d:=by
 intro c d h
 cases c with
 | val u=>cases d<;>first|exact h.elim|(obtain rfl:=h;exact fcLe.refl _)
 | nl=>
  cases d with
  | val v=>exact h.elim
  | nl=>exact fcLe.refl _
  | l t ys=>obtain rfl:=h;exact .inr ⟨rfl,t,rfl⟩
 | l t xs=>
  cases d with
  | val v=>exact h.elim
  | nl=>exact h.elim
  | l t' ys=>
   simp only[fcSame] at h
   split at h
   ·rename_i e;subst e;obtain rfl:=h;exact fcLe.refl _
   ·exact h.elim
theorem fcsSame_le:∀ {cs ds:List FC},fcsSame cs ds→FcsLe cs ds:=by
 intro cs
 induction cs with
 | nil=>intro ds h;cases ds with
  | nil=>exact .nil
  | cons d ds=>exact h.elim
 | cons c cs ih=>intro ds h;cases ds with
  | nil=>exact h.elim
  | cons d ds=>exact .cons (fcSame_le h.1) (ih h.2)
section
variable {P:Program} {E:Env} {F:Fr P} {G:Gh} {σ:St} {a:Act} {w w':World} {o:Oper} {K:St→Out} {Q:Post} {Qx:Exit→Act→World→Prop}
theorem PartO.le {agg:Bool} {cs ds:List FC} {v:Value} {Fs:Nat→Nat→Prop} (h:PartO w agg cs v Fs) (hl:FcsLe cs ds):PartO w agg ds v Fs:=by
 obtain⟨hl1,hl2⟩:=hl.get
 have hle:∀ (j:Nat) (c d:FC),cs[j]? = some c→ds[j]? = some d→D.le (fcC c) (fcC d):=by
  intro j c d hc hd
  have:=(hl2 j).le
  simp_all
 cases agg with
 | false=>
  obtain⟨c,rfl,h1,h2⟩:=h
  obtain⟨d,rfl⟩:=List.length_eq_one_iff.1 hl1.symm
  exact⟨d,rfl,TO.le (hle 0 c d rfl rfl) h1,h2⟩
 | true=>
  obtain⟨vs,rfl,hs,h⟩:=h
  refine⟨vs,rfl,by rw[hs,hl1],fun j d hj=>?_⟩
  have hlt:j<cs.length:=by rw[hl1];exact(List.getElem?_eq_some_iff.1 hj).1
  obtain⟨u,hu,h1,h2⟩:=h j _ (List.getElem?_eq_getElem hlt)
  exact⟨u,hu,TO.le (hle j _ d (List.getElem?_eq_getElem hlt) hj) h1,h2⟩
theorem psSame_get:∀ {ps qs:List (Bool×List FC)},psSame ps qs→ps.length=qs.length∧∀ (i:Nat) (q:Bool×List FC),qs[i]? = some q→∃ p,ps[i]? = some p∧p.1=q.1∧FcsLe p.2 q.2:=by
 intro ps
 induction ps with
 | nil=>intro qs h;cases qs with
  | nil=>simp
  | cons q qs=>exact h.elim
 | cons p ps ih=>intro qs h;cases qs with
  | nil=>exact h.elim
  | cons q qs=>
   obtain⟨h1,h2⟩:=ih h.2
   refine⟨by simp[h1],fun i q' hq=>?_⟩
   cases i with
   | zero=>simp only[List.getElem?_cons_zero,Option.some.injEq] at hq;subst hq;exact⟨p,rfl,h.1.1,fcsSame_le h.1.2⟩
   | succ i=>simpa using h2 i q' (by simpa using hq)
theorem ResR.le {r r':Res} {v:Value} {Fs:Nat→Nat→Nat→Prop} (h:ResR w r v Fs) (hl:resSame r r'):ResR w r' v Fs:=by
 cases r with
 | one a cs=>
  cases r' with
  | tup qs=>exact hl.elim
  | one b ds=>obtain⟨rfl,hl⟩:=hl;exact PartO.le h (fcsSame_le hl)
 | tup ps=>
  cases r' with
  | one b ds=>exact hl.elim
  | tup qs=>
   obtain⟨vs,rfl,hs,hp⟩:=h
   obtain⟨h1,h2⟩:=psSame_get hl
   refine⟨vs,rfl,by rw[hs,h1],fun i q hq=>?_⟩
   obtain⟨p,hpi,e1,e2⟩:=h2 i q hq
   obtain⟨u,hu,hpo⟩:=hp i p hpi
   exact⟨u,hu,e1▸PartO.le hpo e2⟩
theorem bxSame_look:∀ {ps qs:List (Nat×List FC)},bxSame ps qs→∀ b ds,look qs b=some ds→∃ cs,look ps b=some cs∧FcsLe cs ds:=by
 intro ps
 induction ps with
 | nil=>intro qs h;cases qs with
  | nil=>simp[look]
  | cons q qs=>exact h.elim
 | cons p ps ih=>intro qs h;cases qs with
  | nil=>exact h.elim
  | cons q qs=>
   obtain⟨p1,p2⟩:=p
   obtain⟨q1,q2⟩:=q
   obtain⟨⟨h1,h2⟩,h3⟩:=h
   intro b ds hl
   have h1:p1=q1:=h1
   subst h1
   simp only[look] at hl ⊢
   split at hl
   ·rename_i e
    simp only[Option.some.injEq] at hl
    subst hl
    exact⟨p2,by simp[e],fcsSame_le h2⟩
   ·grind
theorem PstF.le {p q:Pst} {v:Value} {Fs:Pl→Nat→Prop} (h:PstF w G w' v p Fs) (hl:pstSame p q):PstF w G w' v q Fs:=by
 obtain⟨h1,h2,h3⟩:=hl
 refine⟨fun s b hs=>⟨(h.own s b hs).1,(h.own s b hs).2.1,fun b0 hb0=>(h.own s b hs).2.2 b0 ?_⟩,h.dis,h.res.le h1,fun l T hT=>h.hp l T (by rw[h3];exact hT),fun b ds hb=>?_⟩
 ·obtain⟨ds,hds⟩:=Option.isSome_iff_exists.1 hb0
  obtain⟨cs,hcs,_⟩:=bxSame_look h2 b0 ds hds
  rw[hcs];rfl
 ·obtain⟨cs,hcs,hle⟩:=bxSame_look h2 b ds hb
  obtain⟨r,e,k1,k2,k3⟩:=h.bx b cs hcs
  obtain⟨l1,l2⟩:=hle.get
  refine⟨r,e,k1,by rw[k2,l1],fun j d hd=>?_⟩
  have hlt:j<cs.length:=by rw[l1];exact(List.getElem?_eq_some_iff.1 hd).1
  obtain⟨u,hu,ht,h1⟩:=k3 j _ (List.getElem?_eq_getElem hlt)
  have:=(l2 j).le
  refine⟨u,hu,TO.le ?_ ht,h1⟩
  grind
def partRun (tmps:Array Value) (r:ResultVar):Sem Value:=match r with
 | .tmp t=>pure (tmps.getD t undef)
 | .cell a t=>do loadVar t (←asAddr (tmps.getD a undef))
theorem resCells_ok (h:RG F G σ a w) {r:ResultVar} {p:Bool×List Cell} (hr:resCells P σ r=some p):∃ v,(partRun a.tmps r).run P w=.ok v w∧PartR w G p.1 p.2 v:=by
 unfold resCells at hr
 split at hr
 ·rename_i t
  have hx:=get_ok h t
  split at hr
  ·rename_i agg cs he
   simp only[Option.some.injEq] at hr
   subst hr
   rw[he] at hx
   exact⟨_,rfl,hx⟩
  ·simp at hr
 ·rename_i t T
  have hx:=get_ok h t
  split at hr
  ·rename_i b d i he hd hi
   rw[he] at hx
   split at hr
   ·rename_i cs hb
    split at hr
    ·rename_i hc
     obtain⟨hlen,hs⟩:=hc
     simp only[Option.some.injEq] at hr
     subst hr
     obtain⟨h1,row,e,h2,h3⟩:=h.bx b cs hb
     have hrl:row.toList.length=i.size:=by rw[Array.length_toList,h3.1,hlen]
     refine⟨mkVal P T row.toList,?_,part_mk (P:=P) T cs row.toList (by rw[hrl,hlen]) (fun j c hj=>by simpa using h3.2 j c hj) (by rwa [hlen])⟩
     have:=run_loadVar_at (P:=P) (w:=w) T d i (G.be b) 0 row e (0,0) hd hi h2 row.toList hrl (fun j v hv=>by simpa using hv) hs
     simp only[TVR] at hx
     simp only[partRun,hx,asAddr,Sem.run_bind,Sem.run_pure,Result.andThen_ok,this]
    ·simp at hr
   ·simp at hr
  ·simp at hr
theorem resParts_ok (h:RG F G σ a w):∀ (rs:List ResultVar) (ps:List (Bool×List Cell)),resParts P σ rs=some ps→∃ vs:List Value,(rs.mapM (partRun a.tmps)).run P w=.ok vs w∧vs.length=ps.length ∧
 ∀ (i:Nat) (p:Bool×List Cell),ps[i]? = some p→∃ v,vs[i]? = some v∧PartR w G p.1 p.2 v:=by
 intro rs
 induction rs with
 | nil=>intro ps hp;simp only[resParts,Option.some.injEq] at hp;subst hp;exact⟨[],by simp,rfl,by simp⟩
 | cons r rs ih=>
  intro ps hp
  simp only[resParts] at hp
  split at hp
  ·rename_i p ps' h1 h2
   simp only[Option.some.injEq] at hp
   subst hp
   obtain⟨v,hv,hpr⟩:=resCells_ok h h1
   obtain⟨vs,hvs,hl,hps⟩:=ih ps' h2
   refine⟨v::vs,?_,by simp[hl],fun i q hq=>?_⟩
   ·simp_all
   ·grind
  ·simp at hp
theorem results_run (fn:Func) (tmps:Array Value) (vs:List Value) (h:(fn.results.toList.mapM (partRun tmps)).run P w=.ok vs w) :
 (results fn tmps).run P w=.ok (if h:vs.length=1 then vs[0] else .tuple vs.toArray) w:=by
 have e:(fn.results.mapM (partRun tmps):Sem (Array Value)).run P w=.ok vs.toArray w:=by
  rw[Array.mapM_eq_mapM_toList]
  simp_all
 have e2:results fn tmps=(fn.results.mapM (partRun tmps) >>= fun vs=>pure (if h:vs.size=1 then vs[0] else .tuple vs)):=rfl
 rw[e2,Sem.run_bind,e,Result.andThen_ok]
 simp
theorem part_lit (h:RG F G σ a w) {agg:Bool} {cs:List Cell} {ds:List FC} {ab:List Nat} {v:Value} (hl:litC σ cs=some (ds,ab)) (hv:PartR w G agg cs v) :
 PartO w agg ds v (fun j b=>∃ c m,cs[j]? = some c∧cellLab c m∧G.ow b=.lab m):=by
 obtain⟨l1,l2,l3,l4⟩:=litC_ok h cs ds ab hl
 have cell:∀ (j:Nat) (c:Cell) (u:Value),cs[j]? = some c→CellR w G c u→TO w (fcC (ds.getD j .nl)) u (fun b=>∃ c m,cs[j]? = some c∧cellLab c m∧G.ow b=.lab m)∧u.oneCell'=true :=
  fun j c u hc hu=>⟨(l2 j c u hc hu).frame fun b hb _=>⟨rfl,let ⟨m,hm,hb⟩:=hb;⟨c,m,hc,hm,hb⟩⟩,hu.one⟩
 cases agg with
 | false=>
  obtain⟨c,hcs,hcr⟩:=hv
  subst hcs
  obtain⟨d,rfl⟩:=List.length_eq_one_iff.1 l1
  have:=cell 0 c v rfl hcr
  exact⟨d,rfl,by simpa using this.1,this.2⟩
 | true=>
  obtain⟨vs,rfl,hs,hcr⟩:=hv
  refine⟨vs,rfl,by rw[hs,l1],fun j d hj=>?_⟩
  have hlt:j<cs.length:=by rw[←l1];exact(List.getElem?_eq_some_iff.1 hj).1
  obtain⟨u,hu,hcu⟩:=hcr j _ (List.getElem?_eq_getElem hlt)
  have:=cell j _ u (List.getElem?_eq_getElem hlt) hcu
  simp_all
theorem litParts_get:∀ {ps:List (Bool×List Cell)} {qs:List (Bool×List FC)},litParts σ ps=some qs→qs.length=ps.length∧∀ (i:Nat) (q:Bool×List FC),qs[i]? = some q→∃ p ab,ps[i]? = some p∧p.1=q.1∧litC σ p.2=some (q.2,ab):=by
 intro ps
 induction ps with
 | nil=>intro qs h;simp only[litParts,Option.some.injEq] at h;subst h;simp
 | cons p ps ih=>
  intro qs h
  simp only[litParts] at h
  grind
theorem litBoxes_look:∀ {bs:List Nat} {qs:List (Nat×List FC)},litBoxes σ bs=some qs→qs.map (·.1)=bs∧∀ b ds,look qs b=some ds→b∈bs∧∃ cs ab,look σ.bx b=some cs∧litC σ cs=some (ds,ab):=by
 intro bs
 induction bs with
 | nil=>intro qs h;simp only[litBoxes,Option.some.injEq] at h;subst h;simp[look]
 | cons b bs ih=>
  intro qs h
  simp only[litBoxes] at h
  split at h
  ·rename_i cs hcs
   split at h
   ·rename_i ds ab qs' h1 h2
    simp only[Option.some.injEq] at h
    subst h
    obtain⟨k1,k2⟩:=ih h2
    refine⟨by simp[k1],fun b' ds' hl=>?_⟩
    simp only[look] at hl
    grind
   ·cases h
  ·cases h
theorem keptL_look:∀ {ls:List Nat} {hs:List (Nat×Tree)},keptL σ ls=some hs→∀ l T,look hs l=some T→l∈ls∧look σ.hp l=some T:=by
 intro ls
 induction ls with
 | nil=>intro hs h;simp only[keptL,Option.some.injEq] at h;subst h;simp[look]
 | cons l ls ih=>
  intro hs h
  simp only[keptL] at h
  split at h
  ·rename_i T hs' h1 h2
   simp only[Option.some.injEq] at h
   subst h
   intro l' T' hl
   simp only[look] at hl
   grind
  ·cases h
theorem labs_mem:∀ {L:List (Pl×Cell)} {s:Pl} {c:Cell} {m:Nat},(s,c)∈L→cellLab c m→m∈labsOf L:=by
 intro L
 induction L with
 | nil=>intro s c m h;simp at h
 | cons x L ih=>
  obtain⟨s0,c0⟩:=x
  intro s c m h hm
  rcases List.mem_cons.1 h with e|h
  ·injection e with e1 e2
   subst e2
   cases c<;>simp[cellLab] at hm
   subst hm
   simp[labsOf]
  ·have:=ih h hm
   cases c0<;>simp[labsOf,this]
theorem labs_dis:∀ {L:List (Pl×Cell)} {s s':Pl} {c c':Cell} {m:Nat},nodupB (labsOf L)=true→(s,c)∈L→(s',c')∈L→cellLab c m→cellLab c' m→s=s':=by
 intro L
 induction L with
 | nil=>intro s s' c c' m _ h;simp at h
 | cons x L ih=>
  obtain⟨s0,c0⟩:=x
  intro s s' c c' m hn h h' hm hm'
  have tail:nodupB (labsOf L)=true:=by
   cases c0<;>simp only[labsOf] at hn<;>first|exact hn|(simp only[nodupB,Bool.and_eq_true] at hn;exact hn.2)
  have key:∀ {t:Pl} {d:Cell},(t,d)∈L→cellLab d m→¬ cellLab c0 m:=by
   intro t d hd hdm hc0
   cases c0<;>simp[cellLab] at hc0
   subst hc0
   simp only[labsOf,nodupB,Bool.and_eq_true,Bool.not_eq_true',List.contains_eq_mem,decide_eq_false_iff_not] at hn
   exact hn.1 (labs_mem hd hdm)
  grind
theorem plCells_mem {mk:Nat→Pl}:∀ {cs:List Cell} {s j:Nat} {c:Cell},cs[j]? = some c→(mk (s+j),c)∈plCells mk s cs:=by
 intro cs
 induction cs with
 | nil=>intro s j c h;simp at h
 | cons d cs ih=>
  intro s j c h
  cases j with
  | zero=>simp only[List.getElem?_cons_zero,Option.some.injEq] at h;subst h;simp[plCells]
  | succ j=>
   have:=ih (s:=s+1) (j:=j) (c:=c) (by simpa using h)
   rw[show s+1+j=s+(j+1) from by omega] at this
   simp[plCells,this]
theorem plParts_mem:∀ {ps:List (Bool×List Cell)} {s i j:Nat} {p:Bool×List Cell} {c:Cell},ps[i]? = some p→p.2[j]? = some c→(Pl.res (s+i) j,c)∈plParts s ps:=by
 intro ps
 induction ps with
 | nil=>intro s i j p c h;simp at h
 | cons q ps ih=>
  intro s i j p c h hc
  cases i with
  | zero=>
   simp only[List.getElem?_cons_zero,Option.some.injEq] at h
   subst h
   have:=plCells_mem (mk:=.res s) (s:=0) hc
   rw[Nat.zero_add] at this
   exact List.mem_append.2 (.inl this)
  | succ i=>
   have:=ih (s:=s+1) (i:=i) (by simpa using h) hc
   rw[show s+1+i=s+(i+1) from by omega] at this
   exact List.mem_append.2 (.inr this)
theorem plBoxes_mem:∀ {bs:List Nat} {b j:Nat} {cs:List Cell} {c:Cell},b∈bs→look σ.bx b=some cs→cs[j]? = some c→(Pl.box b j,c)∈plBoxes σ bs:=by
 intro bs
 induction bs with
 | nil=>intro b j cs c h;simp at h
 | cons b0 bs ih=>
  intro b j cs c h hl hc
  simp only[plBoxes]
  rcases List.mem_cons.1 h with rfl|h
  ·have:=plCells_mem (mk:=.box b) (s:=0) hc
   simp_all
  ·simp_all
theorem labs_append (L R:List (Pl×Cell)):labsOf (L++R)=labsOf L++labsOf R:=by
 induction L with
 | nil=>rfl
 | cons x L ih=>
  obtain⟨s,c⟩:=x
  cases c<;>simp[labsOf,ih]
def F0 {P:Program} (w:World) (G:Gh) (A:Arg) (kl:List Nat) (hB:Base P w G.ow):Fr P:=⟨w,G.ow,A.bx.map (fun p=>(p.1,G.be p.1)),kl.map fun l=>(l,G.hv l),hB⟩
theorem look_pair {α:Type} {f:Nat→α}:∀ {l:List Nat} {k:Nat},k∈l→look (l.map fun x=>(x,f x)) k=some (f k):=by
 intro l
 induction l with
 | nil=>intro k h;simp at h
 | cons x l ih=>
  intro k h
  simp only[List.map_cons,look]
  grind
theorem leaf_ok {w0:World} {G0:Gh} {A:Arg} {fn:Func} {kl:List Nat} {hB:Base P w0 G0.ow} {S:Pst→Prop} (hA:∀ g,G0.ow g=.free→g<w0.heap.size) (hAc:∀ g,G0.ow g=.cur→g<w0.heap.size) (h:RG (F0 w0 G0 A kl hB) G σ a w) (hh:(leafOf P fn (A.bx.map (·.1)) kl σ).holds ⟨fun r bx hp=>S ⟨r,hp,bx⟩,fun _ _=>False⟩) :
 ∃ v p Fs,(results fn a.tmps).run P w=.ok v w∧S p∧PstF w0 G0 w v p Fs:=by
 unfold leafOf at hh
 split at hh
 ·rename_i ps hps
  split at hh
  ·rename_i qs bs hs h1 h2 h3
   generalize hcnd:(nodupB (labsOf (plParts 0 ps)++(labsOf (plBoxes σ (A.bx.map (·.1)))++kl))&&nodupB (A.bx.map (·.1)))=cnd at hh
   cases cnd with
   | false=>exact hh.elim
   | true=>
    simp only[cond_true] at hh
    rw[Bool.and_eq_true] at hcnd
    obtain⟨hn,hnb⟩:=hcnd
    obtain⟨vs,hrun,hlen,hpv⟩:=resParts_ok (P:=P) h fn.results.toList ps hps
    have hres:=results_run fn a.tmps vs hrun
    obtain⟨q1,q2⟩:=litParts_get h1
    obtain⟨b1,b2⟩:=litBoxes_look h2
    have k2:=keptL_look h3
    let L:List (Pl×Cell):=plParts 0 ps++(plBoxes σ (A.bx.map (·.1))++kl.map fun l=>(Pl.keep l,Cell.ref l))
    have hlk:labsOf (kl.map fun l=>(Pl.keep l,Cell.ref l))=kl:=by
     clear hn h3 k2 h hh L
     induction kl with
     | nil=>rfl
     | cons l kl ih=>simp[labsOf,ih]
    have hL:nodupB (labsOf L)=true:=by
     simp only[L,labs_append,hlk]
     exact hn
    let Fs:Pl→Nat→Prop:=fun s b=>∃ c m,(s,c)∈L∧cellLab c m∧G.ow b=.lab m
    have hF:PstF w0 G0 w (if h:vs.length=1 then vs[0] else .tuple vs.toArray) ⟨mkRes qs,hs,bs⟩ Fs:=by
     refine⟨?_,?_,?_,?_,?_⟩
     ·rintro s b ⟨c,m,_,_,hb⟩
      refine⟨h.lt b (by simp[hb]),⟨fun hf=>?_,fun hf=>?_⟩,fun b0 hb0 e=>?_⟩
      ·have:=(h.keep.free b (hA b hf) hf).2
       rw[hb] at this
       cases this
      ·have:=(h.keep.cur b (hAc b hf) hf).1
       rw[hb] at this
       cases this
      ·obtain⟨ds,hds⟩:=Option.isSome_iff_exists.1 hb0
       obtain⟨m1,cs,ab,m2,_⟩:=b2 b0 ds hds
       have hbe:G.be b0=G0.be b0:=by
        refine(h.fb b0 (G0.be b0) ?_).1
        have:=look_pair (f:=fun b=>G0.be b) m1
        simpa [F0,List.map_map,Function.comp_def] using this
       have:=(h.bx b0 cs m2).1
       rw[hbe,←e,hb] at this
       cases this
     ·rintro s s' b ⟨c,m,hc,hm,hb⟩ ⟨c',m',hc',hm',hb'⟩
      rw[hb] at hb'
      injection hb' with e
      subst e
      exact labs_dis hL hc hc' hm hm'
     ·have part:∀ (i:Nat) (q:Bool×List FC),qs[i]? = some q→∃ u,vs[i]? = some u∧PartO w q.1 q.2 u (fun j=>Fs (.res i j)):=by
       intro i q hq
       obtain⟨p,ab,hp,e1,hl⟩:=q2 i q hq
       obtain⟨u,hu,hpr⟩:=hpv i p hp
       refine⟨u,hu,?_⟩
       have:=part_lit h hl hpr
       rw[e1] at this
       have fo:∀ j b,(∃ c m,p.2[j]? = some c∧cellLab c m∧G.ow b=.lab m)→Fs (.res i j) b:=by
        rintro j b ⟨c,m,hc,hm,hb⟩
        refine⟨c,m,List.mem_append.2 (.inl ?_),hm,hb⟩
        have:=plParts_mem (s:=0) hp hc
        rwa [Nat.zero_add] at this
       generalize q.1=ag at this
       cases ag with
       | false=>obtain⟨c,e1,e2,e3⟩:=this;exact⟨c,e1,e2.frame fun b hb _=>⟨rfl,fo 0 b hb⟩,e3⟩
       | true=>obtain⟨us,e1,e2,e3⟩:=this;exact⟨us,e1,e2,fun j c hc=>let ⟨u,hu,ht,h1⟩:=e3 j c hc;⟨u,hu,ht.frame fun b hb _=>⟨rfl,fo j b hb⟩,h1⟩⟩
      match qs,q1,part with
      | [],q1,part=>
       have hl0:vs.length=0:=by rw[hlen,←q1];rfl
       rw[dif_neg (by omega)]
       exact⟨vs.toArray,rfl,by simpa using hl0,by simp⟩
      | [q],q1,part=>
       have hv1:vs.length=1:=by rw[hlen,←q1];rfl
       obtain⟨u,hu,hpo⟩:=part 0 q rfl
       obtain⟨v0,rfl⟩:=List.length_eq_one_iff.1 hv1
       simp only[List.getElem?_cons_zero,Option.some.injEq] at hu
       subst hu
       exact hpo
      | q::q'::qs,q1,part=>
       have hl0:vs.length=qs.length+2:=by rw[hlen,←q1];rfl
       rw[dif_neg (by omega)]
       refine⟨vs.toArray,rfl,by simpa using hl0,fun i p hp=>?_⟩
       obtain⟨u,hu,hpo⟩:=part i p hp
       exact⟨u,by simpa using hu,hpo⟩
     ·intro l T hl
      obtain⟨m1,m2⟩:=k2 l T hl
      have hv:G.hv l=G0.hv l:=(h.fl l (G0.hv l) (look_pair (f:=fun l=>G0.hv l) m1)).1
      rw[←hv]
      exact(h.hp l T m2).frame fun b hb _=>⟨rfl,_,l,List.mem_append.2 (.inr (List.mem_append.2 (.inr (List.mem_map.2 ⟨l,m1,rfl⟩)))),rfl,hb⟩
     ·intro b ds hb
      obtain⟨m1,cs,ab,m2,m3⟩:=b2 b ds hb
      have hbe:G.be b=G0.be b:=by
       refine(h.fb b (G0.be b) ?_).1
       have:=look_pair (f:=fun b=>G0.be b) m1
       simpa [F0,List.map_map,Function.comp_def] using this
      obtain⟨_,r,e,n1,n2⟩:=h.bx b cs m2
      have hpr:=part_lit h (v:=.agg r) (agg:=true) m3 ⟨r,rfl,n2⟩
      obtain⟨r',er,e2,e3⟩:=hpr
      injection er with er
      subst er
      refine⟨r,e,by rw[←hbe];exact n1,e2,fun j c hc=>?_⟩
      obtain⟨u,hu,ht,h1⟩:=e3 j c hc
      refine⟨u,hu,ht.frame fun x hx _=>⟨rfl,?_⟩,h1⟩
      obtain⟨c',m,hc',hm,hx⟩:=hx
      exact⟨c',m,List.mem_append.2 (.inr (List.mem_append.2 (.inl (plBoxes_mem m1 m2 hc')))),hm,hx⟩
    exact⟨_,_,Fs,hres,hh,hF⟩
  ·exact hh.elim
 ·exact hh.elim
theorem start_look (args:List TV) (t:Nat):look (args.zipIdx.map (fun p=>(p.2,p.1))) t=args[t]?:=by
 have key:∀ (args:List TV) (s t:Nat),look ((args.zipIdx s).map (fun p=>(p.2,p.1))) t=if t<s then none else args[t-s]?:=by
  intro args
  induction args with
  | nil=>intro s t;simp[look]
  | cons x args ih=>
   intro s t
   simp only[List.zipIdx_cons,List.map_cons,look,ih,beq_iff_eq]
   grind
 simp_all
def fnOut (P:Program) (E:Env) (L:LEnv) (kp kl:List Nat) (fn:Func) (A:Arg):Out:=run P E L kp (fn.body.getD .skip) (start fn.ntmps A kl) (endK P fn (A.bx.map (·.1)) kl)
theorem look_map_fst {α β:Type} {f:Nat→β}:∀ {l:List (Nat×α)} {b:Nat} {β0:β},look (l.map fun p=>(p.1,f p.1)) b=some β0→f b=β0∧(l.map (·.1)).contains b=true:=by
 intro l
 induction l with
 | nil=>intro b β0 h;simp[look] at h
 | cons p l ih=>
  intro b β0 h
  simp only[List.map_cons,look] at h
  grind
theorem con_run {f:Nat} {fn:Func} {A:Arg} {c:Ctr} {L:LEnv} {kp kl:List Nat} (hE:EOk P E) (hf:P.funcs[f]? = some fn) (hb:fn.body.isSome=true) (hn:decide (A.tm.length≤fn.ntmps)=true)
 (hh:(fnOut P E L kp kl fn A).holds c.post):Con P f A c.sat:=by
 obtain⟨code,hc⟩:=Option.isSome_iff_exists.1 hb
 intro w vs G hB hA
 have hn:=of_decide_eq_true hn
 refine calls_of_wp hf hc ?_
 have h0:RG (F0 w G A kl hB) G (start fn.ntmps A kl) { tmps:=vs++Array.replicate (fn.ntmps-vs.size) undef,defers:=[]} w:=by
  refine⟨?_,hA.bx,hA.hp,hA.lt,rfl,rfl,⟨rfl,DrLe.refl _⟩,Nat.le_refl _,?_,?_,?_,?_,rfl⟩
  ·intro t tv hl
   simp only[start,start_look] at hl
   obtain⟨v,hv,ht⟩:=hA.tm t tv hl
   have hlt:t<vs.size:=(Array.getElem?_eq_some_iff.1 hv).1
   have:(vs++Array.replicate (fn.ntmps-vs.size) undef).getD t undef=v:=by
    rw[Array.getD_eq_getD_getElem?,Array.getElem?_append_left hlt,hv]
    rfl
   rw[this]
   exact ht
  ·exact⟨fun g hg hfree=>⟨rfl,hfree⟩,fun g hg hcu=>⟨hcu,(hA.cr g hcu).same rfl⟩,hA.cr⟩
  ·intro b β hl
   exact look_map_fst (f:=fun b=>G.be b) (l:=A.bx) hl
  ·intro l v hl
   have:=mem_look hl
   simp only[F0,List.mem_map] at this
   obtain⟨l',h1,h2⟩:=this
   injection h2 with e1 e2
   subst e1;subst e2
   exact⟨rfl,by simpa [start] using h1⟩
  ·have:=hA.sz
   simp[start];omega
 unfold fnOut at hh
 rw[hc] at hh
 refine wp_mono (run_ok hE code _ _ w _ ⟨_,h0⟩ hh) ?_
 rintro e a' w' ⟨ex,σ',he,⟨G',h'⟩,hh'⟩
 have fin:(settle fn.results.toList σ' fun σ=>settleBs (A.bx.map (·.1)) σ (leafOf P fn (A.bx.map (·.1)) kl)).holds c.post→a'.defers=[]∧∃ v,(results fn a'.tmps).run P w'=.ok v w'∧ConPost w G c.sat (.returned v) w':=by
  intro hl
  obtain⟨σ1,G1,h',hl⟩:=settle_ok _ _ _ _ h' hl
  obtain⟨σ2,G2,h',hl⟩:=settleBs_ok _ _ _ _ h' hl
  have hfr:∀ g,G.ow g=.free→g<w.heap.size:=fun g hg=>hA.lt g (by simp[hg])
  have hfc:∀ g,G.ow g=.cur→g<w.heap.size:=fun g hg=>hA.lt g (by simp[hg])
  refine⟨h'.df,?_⟩
  have on:Onward w w':=⟨h'.os,h'.tape,h'.output,h'.size⟩
  have fr:∀ g,G.ow g=.free→w'.heap[g]? = w.heap[g]?:=fun g hg=>(h'.keep.free g (hfr g hg) hg).1
  have cu:∀ g,G.ow g=.cur→CurStep w w' g:=fun g hg=>(h'.keep.cur g (hfc g hg) hg).2
  cases c with
  | det pre q=>
   obtain⟨v,p,Fs,h1,h2,h3⟩:=leaf_ok (S:=fun p=>pstSame p q) hfr hfc h' hl
   exact⟨v,h1,v,q,rfl,rfl,on,fr,cu,Fs,h3.le h2⟩
  | ex pre X ok q=>
   obtain⟨v,p,Fs,h1,⟨x,hx,h2⟩,h3⟩:=leaf_ok (S:=fun p=>∃ x:X,ok x∧pstSame p (q x)) hfr hfc h' hl
   exact⟨v,h1,v,q x,⟨x,hx,rfl⟩,rfl,on,fr,cu,Fs,h3.le h2⟩
  | df pre X e q=>
   obtain⟨v,p,Fs,h1,h2,h3⟩:=leaf_ok (S:=fun p=>pstSame p (q e)) hfr hfc h' hl
   exact⟨v,h1,v,q e,rfl,rfl,on,fr,cu,Fs,h3.le h2⟩
 cases ex with
 | normal=>obtain rfl:=he;exact fin hh'
 | ret=>obtain rfl:=he;exact fin hh'
 | exit id=>exact hh'.elim
end
end Go.D
namespace Go.D
abbrev Ts:List Sh→Type
 | []=>Unit
 | s::ss=>s.X×Ts ss
inductive Ak where
 | v (s:Sh)
 | p (s:Sh)
 | c (g:Nat) (ss:List Sh)
 | u
abbrev Ak.X:Ak→Type
 | .v s=>s.X
 | .p s=>s.X
 | .c _ ss=>Ts ss
 | .u=>Unit
abbrev As:List Ak→Type
 | []=>Unit
 | s::ss=>s.X×As ss
abbrev aI:Ak:=.v (.el .int)
abbrev aT:Ak:=.v (.el .str)
abbrev aL (t:Ty):Ak:=.v (.sl t)
abbrev rI:Sh:=.el .int
abbrev rB:Sh:=.el .bool
abbrev rT:Sh:=.el .str
abbrev rE (t:Ty):Sh:=.el t
def canonV (s:Sh) (x:s.X):TV:=.v s.agg ((s.fc x).map (toCell none))
def canonCaps:(ss:List Sh)→Ts ss→List Cap
 | [],_=>[]
 | s::ss,x=>.aptr (s.fc x.1)::canonCaps ss x.2
def canon:(k:Ak)→k.X→TV
 | .v s,x=>canonV s x
 | .p s,x=>.aptr (s.fc x) 0
 | .c g ss,x=>.clo g (canonCaps ss x)
 | .u,_=>.cur
def canons:(ss:List Ak)→As ss→List TV
 | [],_=>[]
 | s::ss,x=>canon s x.1::canons ss x.2
def decV (s:Sh):TV→Option s.X
 | .v agg cs=>bif agg==s.agg then(match cellCons' cs with
  | some ds=>s.dec ds
  | none=>none) else none
 | _=>none
def decCaps:(ss:List Sh)→List Cap→Option (Ts ss)
 | [],[]=>some ()
 | s::ss,.aptr ds::cs=>match s.dec ds,decCaps ss cs with
  | some y,some ys=>some (y,ys)
  | _,_=>none
 | _,_=>none
def decTV:(k:Ak)→TV→Option k.X
 | .v s,x=>decV s x
 | .p s,.aptr ds 0=>s.dec ds
 | .c g ss,.clo g' cs=>bif g==g' then decCaps ss cs else none
 | .u,.cur=>some ()
 | _,_=>none
def decTVs:(ss:List Ak)→List TV→Option (As ss)
 | [],[]=>some ()
 | s::ss,x::xs=>match decTV s x,decTVs ss xs with
  | some y,some ys=>some (y,ys)
  | _,_=>none
 | _,_=>none
def mkParts:(rs:List Sh)→Ts rs→List (Bool×List FC)
 | [],_=>[]
 | s::ss,x=>(s.agg,s.fc x.1)::mkParts ss x.2
def mkR (rs:List Sh) (y:Ts rs):Res:=mkRes (mkParts rs y)
structure Fct where
 as:List Ak
 rs:List Sh
 pre:As as→Prop
 fn:As as→Ts rs
def Fct.spec (S:Fct):D.Spec:=fun A=>match A.bx,A.hp with
 | [],[]=>match decTVs S.as A.tm with
  | some x=>some (.df [S.pre x] (Ts S.rs) (S.fn x) fun y=>⟨mkR S.rs y,[],[]⟩)
  | none=>none
 | _,_=>none
def Fct.arg (S:Fct) (x:As S.as):Arg:=⟨canons S.as x,[],[]⟩
def Fct.ctr (S:Fct) (x:As S.as):Ctr:=.det [] ⟨mkR S.rs (S.fn x),[],[]⟩
def Fct.ok (S:Fct) (P:Program) (f:Nat):Prop:=∀ x,S.pre x→Con P f (S.arg x) (S.ctr x).sat
theorem decV_ok {w:World} {G:Gh} {s:Sh} {x:TV} {y:s.X} {v:Value} (h:decV s x=some y) (hx:TVR w G x v):TVR w G (canonV s y) v:=by
 unfold decV at h
 split at h
 ·rename_i agg cs
  cases ha:(agg==s.agg) with
  | false=>simp[ha] at h
  | true=>
   simp only[ha,cond_true] at h
   split at h
   ·rename_i ds hd
    obtain⟨l1,l2⟩:=cellCons'_ok (w:=w) (G:=G) cs ds hd
    obtain⟨k1,k2⟩:=(Sh.dec_ok h).get
    have hlen:((s.fc y).map (toCell none)).length=cs.length:=by rw[List.length_map,←k1,l1]
    have ha':agg=s.agg:=by simpa using ha
    unfold canonV
    rw[←ha']
    refine part_map (cs:=cs) hlen (fun j d hj=>?_) hx
    rw[List.getElem?_map] at hj
    cases hq:(s.fc y)[j]? with
    | none=>simp[hq] at hj
    | some fc=>
     simp only[hq,Option.map_some,Option.some.injEq] at hj
     subst hj
     have hlt:j<cs.length:=by rw[←l1,k1];exact(List.getElem?_eq_some_iff.1 hq).1
     refine⟨_,List.getElem?_eq_getElem hlt,fun u hu=>toCell_ok ?_⟩
     have ht:=l2 j _ u (List.getElem?_eq_getElem hlt) hu
     have hle:=(k2 j).le
     have hd':(s.fc y).getD j .nl=fc:=by simp[List.getD,hq]
     rw[hd'] at hle
     exact TR.le hle ht
   ·cases h
 ·cases h
theorem cons_dec {w:World} {G:Gh} {s:Sh} {ds:List FC} {y:s.X} {r:Array Value} (h:s.dec ds=some y) (hr:ConsR w G ds r):ConsR w G (s.fc y) r:=by
 obtain⟨k1,k2⟩:=(Sh.dec_ok h).get
 intro j c hc
 have hlt:j<ds.length:=by rw[k1];exact(List.getElem?_eq_some_iff.1 hc).1
 obtain⟨u,hu,ht⟩:=hr j _ (List.getElem?_eq_getElem hlt)
 have hle:=(k2 j).le
 have hd':(s.fc y).getD j .nl=c:=by simp[List.getD,hc]
 have hd2:ds.getD j .nl=ds[j]:=by simp[List.getD,List.getElem?_eq_getElem hlt]
 rw[hd',hd2] at hle
 exact⟨u,hu,TR.le hle ht⟩
theorem decCaps_ok {w:World} {G:Gh}:∀ {ss:List Sh} {cs:List Cap} {y:Ts ss},decCaps ss cs=some y→(canonCaps ss y).length=cs.length∧∀ (j:Nat) (c:Cap),(canonCaps ss y)[j]? = some c→∃ c',cs[j]? = some c'∧∀ v,CapR w G c' v→CapR w G c v:=by
 intro ss
 induction ss with
 | nil=>
  intro cs y h
  cases cs with
  | nil=>simp[canonCaps]
  | cons c cs=>cases c<;>simp[decCaps] at h
 | cons s ss ih=>
  intro cs y h
  cases cs with
  | nil=>simp[decCaps] at h
  | cons c cs=>
   cases c with
   | ptr b=>simp[decCaps] at h
   | aptr ds=>
    simp only[decCaps] at h
    split at h
    ·rename_i y1 ys h1 h2
     simp only[Option.some.injEq] at h
     subst h
     obtain⟨k1,k2⟩:=ih h2
     refine⟨by simp[canonCaps,k1],fun j c hj=>?_⟩
     cases j with
     | zero=>
      simp only[canonCaps,List.getElem?_cons_zero,Option.some.injEq] at hj
      subst hj
      exact⟨_,rfl,fun v ⟨g,r,e,fr,q1,q2,q3,q4⟩=>⟨g,r,e,fr,q1,q2,q3,cons_dec h1 q4⟩⟩
     | succ j=>simpa [canonCaps] using k2 j c (by simpa [canonCaps] using hj)
    ·cases h
theorem decTV_ok {w:World} {G:Gh} {k:Ak} {x:TV} {y:k.X} {v:Value} (h:decTV k x=some y) (hx:TVR w G x v):TVR w G (canon k y) v:=by
 cases k with
 | v s=>exact decV_ok h hx
 | p s=>
  cases x<;>first|(simp[decTV] at h;done)|skip
  rename_i ds off
  cases off with
  | succ n=>simp[decTV] at h
  | zero=>
   obtain⟨g,r,e,fr,q1,q2,q3,q4⟩:=hx
   exact⟨g,r,e,fr,q1,q2,q3,cons_dec h q4⟩
 | c g ss=>
  cases x<;>first|(simp[decTV] at h;done)|skip
  rename_i g' cs
  simp only[decTV] at h
  cases hg:(g==g') with
  | false=>simp[hg] at h
  | true=>
   simp only[hg,cond_true] at h
   have hg':g=g':=by simpa using hg
   subst hg'
   obtain⟨k1,k2⟩:=decCaps_ok (w:=w) (G:=G) h
   obtain⟨vs,rfl,hs,hc⟩:=hx
   refine⟨vs,rfl,by rw[hs,k1],fun j c hj=>?_⟩
   grind
 | u=>
  cases x<;>first|(simp[decTV] at h;done)|skip
  exact hx
theorem decTVs_ok {w:World} {G:Gh}:∀ {ss:List Ak} {xs:List TV} {ys:As ss},decTVs ss xs=some ys→(canons ss ys).length=xs.length∧∀ (j:Nat) (y:TV),(canons ss ys)[j]? = some y→∃ x,xs[j]? = some x∧∀ v,TVR w G x v→TVR w G y v:=by
 intro ss
 induction ss with
 | nil=>
  intro xs ys h
  cases xs with
  | nil=>simp[canons]
  | cons x xs=>simp[decTVs] at h
 | cons s ss ih=>
  intro xs ys h
  cases xs with
  | nil=>simp[decTVs] at h
  | cons x xs=>
   simp only[decTVs] at h
   split at h
   ·rename_i y ys' h1 h2
    simp only[Option.some.injEq] at h
    subst h
    obtain⟨k1,k2⟩:=ih h2
    refine⟨by simp[canons,k1],fun j y' hj=>?_⟩
    cases j with
    | zero=>simp only[canons,List.getElem?_cons_zero,Option.some.injEq] at hj;subst hj;exact⟨x,rfl,fun v hv=>decTV_ok h1 hv⟩
    | succ j=>simpa [canons] using k2 j y' (by simpa [canons] using hj)
   ·cases h
theorem Fct.spec_ok {S:Fct} {P:Program} {f:Nat} (h:S.ok P f):SpecOk P f S.spec:=by
 intro A c hc hp
 unfold Fct.spec at hc
 split at hc
 ·rename_i hb hh
  split at hc
  ·rename_i x hx
   simp only[Option.some.injEq] at hc
   subst hc
   have hpre:S.pre x:=hp _ (List.mem_singleton_self _)
   intro w vs G hB hA
   refine(h x hpre w vs G hB ⟨?_,?_,by simp[Fct.arg,look],by simp[Fct.arg,look],hA.lt,hA.cr⟩).mono ?_
   ·rw[hA.sz];exact(decTVs_ok (w:=w) (G:=G) hx).1.symm
   ·intro j y hj
    obtain⟨x',hx',hr⟩:=(decTVs_ok (w:=w) (G:=G) hx).2 j y hj
    obtain⟨v,hv,ht⟩:=hA.tm j x' hx'
    simp_all
   ·rintro e w' ⟨v,p,hs,hrest⟩
    exact⟨v,p,hs,hrest⟩
  ·cases hc
 ·cases hc
abbrev vi (n:Int):FC:=.val (.int .i64 n)
abbrev vb (b:Bool):FC:=.val (.bool b)
abbrev vs (s:ByteArray):FC:=.val (.string s)
def orSpec (g:D.Spec):Option (List Md×D.Spec)→D.Spec
 | some ([],g0)=>fun A=>match g A with
  | some c=>some c
  | none=>g0 A
 | _=>g
def Env.add (E:Env) (f:Nat) (S:Fct):Env:=E.ext f [] (orSpec S.spec (E.fn f))
theorem EOk.add {P:Program} {E:Env} (h:EOk P E) {f:Nat} {S:Fct} (hS:S.ok P f):EOk P (E.add f S):=by
 refine h.ext ?_ (fun hn=>by cases hn)
 have hS':=Fct.spec_ok hS
 refine(?_:SpecOk P f _)
 unfold orSpec
 split
 ·rename_i g0 hg0
  intro A c hc
  dsimp only at hc
  split at hc
  ·rename_i c' hc'
   simp only[Option.some.injEq] at hc
   subst hc
   exact hS' A c' hc'
  ·exact(h f [] g0 hg0).1 A c hc
 ·exact hS'
structure HoldsE (e:Out) (Q:Post):Prop where
 h:e.holds Q
theorem Fct.of {S:Fct} {P:Program} {E:Env} {L:As S.as→LEnv} {kp:List Nat} {f:Nat} {fn:Func} (hE:EOk P E) (hf:P.funcs[f]? = some fn) (hb:fn.body.isSome=true) (hn:decide (S.as.length≤fn.ntmps)=true)
 (hh:∀ x,S.pre x→HoldsE (fnOut P E (L x) kp [] fn (S.arg x)) (S.ctr x).post):S.ok P f:=by
 intro x hx
 refine con_run hE hf hb ?_ (hh x hx).h
 have hl:∀ (ss:List Ak) (x:As ss),(canons ss x).length=ss.length:=by
  intro ss
  induction ss with
  | nil=>intro _;rfl
  | cons s ss ih=>intro x;simp[canons,ih]
 have:(S.arg x).tm.length=S.as.length:=hl _ _
 rw[this]
 exact hn
theorem fcSame_refl (c:FC):fcSame c c:=by
 cases c with
 | val u=>rfl
 | nl=>trivial
 | l t xs=>simp[fcSame]
theorem fcsSame_refl:∀ cs:List FC,fcsSame cs cs
 | []=>trivial
 | c::cs=>⟨fcSame_refl c,fcsSame_refl cs⟩
theorem psSame_refl:∀ ps:List (Bool×List FC),psSame ps ps
 | []=>trivial
 | p::ps=>⟨⟨rfl,fcsSame_refl _⟩,psSame_refl ps⟩
theorem resSame_refl:∀ r:Res,resSame r r
 | .one _ cs=>⟨rfl,fcsSame_refl cs⟩
 | .tup ps=>psSame_refl ps
theorem Fct.leafY {S:Fct} {x:As S.as} {y:Ts S.rs} (h:y=S.fn x):(Out.leaf (mkR S.rs y) [] []).holds (S.ctr x).post:=by
 subst h
 exact⟨resSame_refl _,trivial,rfl⟩
theorem Fct.leafR {S:Fct} {x:As S.as} {r:Res} (h:resSame r (mkR S.rs (S.fn x))):(Out.leaf r [] []).holds (S.ctr x).post:=⟨h,trivial,rfl⟩
theorem Fct.leafZ {S:Fct} {x:As S.as} {r:Res} (y:Ts S.rs) (h1:resSame r (mkR S.rs y)) (h:y=S.fn x):(Out.leaf r [] []).holds (S.ctr x).post:=Fct.leafR (h▸h1)
theorem ob_i {Q:Post} {p:Prop} {x:Out} (hp:p) (hx:p→x.holds Q):(Out.ob p x).holds Q:=⟨hp,hx hp⟩
theorem br_i {Q:Post} {b:Bool} {x y:Out} (hx:b=true→x.holds Q) (hy:b=false→y.holds Q):(Out.br b x y).holds Q:=⟨hx,hy⟩
theorem lp_i {Q:Post} {X:Type} {p:Prop} {inv:X→Prop} {x:X→Out} (hp:p) (hx:∀ y,inv y→(x y).holds Q):(Out.lp X p inv x).holds Q:=⟨hp,hx⟩
theorem lt_i {Q:Post} {X:Type} {e:X} {x:X→Out} (hx:(x e).holds Q):(Out.lt X e x).holds Q:=hx
theorem lt_e {Q:Post} {X:Type} {e:X} {x:X→Out} (hx:∀ y,y=e→(x y).holds Q):(Out.lt X e x).holds Q:=hx e rfl
theorem lpx_i {Q:Post} {li:LInv} {x0:Xs li.ps} {f:Xs li.ps→(Xs li.ps→Prop)→Out} (hp:li.inv x0 x0) (hx:∀ y,li.inv x0 y→(f y fun x'=>li.inv x0 x'∧li.m x'<li.m y).holds Q):(lpx li x0 f).holds Q:=⟨hp,hx⟩
def Out.cl (S:Fct) (x:As S.as) (k:Ts S.rs→Out):Out:=.ob (S.pre x) (.lt (Ts S.rs) (S.fn x) k)
theorem cl_i {Q:Post} {S:Fct} {x:As S.as} {k:Ts S.rs→Out} (hp:S.pre x) (hx:S.pre x→(k (S.fn x)).holds Q):(Out.cl S x k).holds Q:=⟨hp,hx hp⟩
theorem cl_e {Q:Post} {S:Fct} {x:As S.as} {k:Ts S.rs→Out} (hp:S.pre x) (hx:S.pre x→∀ y,y=S.fn x→(k y).holds Q):(Out.cl S x k).holds Q:=⟨hp,hx hp _ rfl⟩
def Out.lf (S:Fct) (y:Ts S.rs):Out:=.leaf (mkR S.rs y) [] []
theorem lfY {S:Fct} {x:As S.as} {y:Ts S.rs} (h:y=S.fn x):(Out.lf S y).holds (S.ctr x).post:=Fct.leafY h
def wr (x:Int):Int:=IntKind.i64.wrap x
def w1 (x:Int):Int:=IntKind.i64.wrap (x+1)
def inB (i:Int) (n:Nat):Prop:=0≤i∧i<n
theorem ho {e:Out} {Q:Post} (X:Out) (hX:X.holds Q) (h:e=X:=by kernel_rfl):HoldsE e Q:=⟨h▸hX⟩
theorem Fct.o {S:Fct} {P:Program} {E:Env} {f:Nat} {fn:Func} (kp:List Nat) (hE:EOk P E) (hf:P.funcs[f]? = some fn)
 (hh:∀ x,S.pre x→HoldsE (fnOut P E (fun _=>none) kp [] fn (S.arg x)) (S.ctr x).post) (hc:(fn.body.isSome&&decide (S.as.length≤fn.ntmps))=true:=by kernel_rfl):S.ok P f:=by
 rw[Bool.and_eq_true] at hc
 exact Fct.of (L:=fun _ _=>none) hE hf hc.1 hc.2 hh
end Go.D
namespace Go.D
open Go.RowKit Go.ChangeShapes Go.WideShapes
def goodC:Nat→FC→Prop
 | _,.val (.int k n)=>(Lit.int k n).wf=true
 | _,.val (.string s)=>s.size≤maxLen
 | 0,.l _ xs=>xs.length≤maxLen
 | d+1,.l t xs=>xs.length≤maxLen∧∀ x∈xs,∀ c∈enc t x,goodC d c
 | _,_=>True
def good (t:Ty) (x:El t):Prop:=∀ c∈enc t x,goodC 8 c
def Sh.good (s:Sh) (x:s.X):Prop:=∀ c∈s.fc x,goodC 8 c
abbrev Ls (ss:List Sh):List Ak:=ss.map .v
def goods:(ss:List Sh)→As (Ls ss)→Prop
 | [],_=>True
 | s::ss,x=>s.good x.1∧goods ss x.2
theorem goodC_mono:∀ (d:Nat) (c:FC),goodC (d+1) c→goodC d c:=by
 intro d
 induction d with
 | zero=>
  intro c h
  cases c with
  | val v=>cases v<;>exact h
  | nl=>trivial
  | l t xs=>exact h.1
 | succ d ih=>
  intro c h
  cases c with
  | val v=>cases v<;>exact h
  | nl=>trivial
  | l t xs=>exact⟨h.1,fun x hx c hc=>ih c (h.2 x hx c hc)⟩
theorem goodC_le {d e:Nat} (hde:d≤e) {c:FC} (h:goodC e c):goodC d c:=by
 induction e with
 | zero=>
  simp_all
 | succ e ih=>
  by_cases hd:d=e+1
  ·subst hd;exact h
  ·exact ih (by omega) (goodC_mono e c h)
def shapesFs (P:Program) (r:TypeId→Option (List Shp)):List Field→Nat→Option (List Shp)
 | [],_=>some []
 | f::fs,off=>match r f.type,shapesFs P r fs (off+P.cellsOf f.type) with
  | some s,some s'=>bif f.offset==off&&s.length==P.cellsOf f.type then some (s++s') else none
  | _,_=>none
def shapeOf (P:Program) (ty:TypeId→Option Ty):Nat→TypeId→Option (List Shp)
 | 0,_=>none
 | d+1,T=>match P.underlying T with
  | some .bool=>some [.kb]
  | some (.int .i64)=>some [.ki]
  | some (.int .u8)=>some [.ku]
  | some .string=>some [.ks]
  | some (.slice e)=>match ty e with
   | some t=>some [.kl t]
   | none=>none
  | some (.struct fs)=>match shapesFs P (shapeOf P ty d) fs.toList 0 with
   | some s=>bif s.length==P.cellsOf T then some s else none
   | none=>none
  | _=>none
def shpsEq:List Shp→List Shp→Bool
 | [],[]=>true
 | a::as,b::bs=>decide (a=b)&&shpsEq as bs
 | _,_=>false
def tyOk (P:Program) (ty:TypeId→Option Ty) (l:List TypeId):Bool :=
 l.all fun e=>match ty e with
  | some t=>(match shapeOf P ty 20 e with
   | some s=>shpsEq s t.shapes
   | none=>false)&&P.cellsOf e==t.width
  | none=>false
theorem shpsEq_ok:∀ {a b:List Shp},shpsEq a b=true→a=b:=by
 intro a
 induction a with
 | nil=>intro b h;cases b<;>simp_all [shpsEq]
 | cons x a ih=>intro b h;cases b with
  | nil=>simp[shpsEq] at h
  | cons y b=>simp only[shpsEq,Bool.and_eq_true,decide_eq_true_eq] at h;rw[h.1,ih h.2]
theorem exists_list {α:Type} [Inhabited α] {p:Nat→α→Prop}:∀ {n:Nat},(∀ i,i<n→∃ y,p i y)→∃ l:List α,l.length=n∧∀ i,i<n→p i (l.getD i default):=by
 intro n
 induction n with
 | zero=>intro _;exact⟨[],rfl,fun i h=>by omega⟩
 | succ n ih=>
  intro h
  obtain⟨l,h1,h2⟩:=ih fun i hi=>h i (by omega)
  obtain⟨y,hy⟩:=h n (by omega)
  refine⟨l++[y],by simp[h1],fun i hi=>?_⟩
  grind
section
variable {H:Type} {enc':TypeId×Value→H} {P:Program} {w:World} {ty:TypeId→Option Ty} {spare:Nat→Bool} {held:Bool}
def inW (w:World):Nat→Prop:=fun g=>g<w.heap.size
def Told (w:World) (cs:List Value) (sh:List Shp):Prop:=∃ fs:List FC,fs.length=cs.length∧fs.map FC.shp=sh∧(∀ (j:Nat) (c:FC) (u:Value),fs[j]? = some c→cs[j]? = some u→TR w (inW w) (fcC c) u)∧∀ c∈fs,goodC 8 c
theorem tr_plain {u:Value} {S:Nat→Prop} (h:plain u=true):TR w S (.val u) u:=⟨rfl,h⟩
theorem one_told {c:FC} {u:Value} (h:TR w (inW w) (fcC c) u) (hg:goodC 8 c):Told w [u] [c.shp]:=by
 refine⟨[c],rfl,rfl,fun j c' u' hc hu=>?_,fun c' hc=>by simp at hc;subst hc;exact hg⟩
 grind
theorem cells_get {a:Addr} {n:Nat} {cs:List Value} (h:w.cells? 0 a n=some cs):cs.length=n∧∀ j,j<n→w.cell? (a.add j)=cs[j]?:=by
 unfold World.cells? at h
 rw[if_pos (Nat.zero_le _)] at h
 refine⟨by simpa using mapM_some_length h,fun j hj=>?_⟩
 exact mapM_some_get h j j (by simp[hj])
theorem cell_at {a:Addr} {u:Value} (h:w.cell? a=some u):∃ g o row e fr,a=⟨g,o,none⟩∧w.heap[g]? = some (.cells row e fr)∧row[o]? = some u:=by
 unfold World.cell? at h
 split at h
 ·rename_i c t fr hb
  split at h
  ·cases h
  ·rename_i hs
   obtain⟨g,o,sp⟩:=a
   simp only[Option.isSome_iff_ne_none,ne_eq,Decidable.not_not] at hs
   grind
 ·cases h
theorem rank_good (c:FC) (h:goodC 8 c) (d:Nat) (hd:d≤8):goodC d c:=goodC_le hd h
theorem cells_rank_mem {t:Ty} {x:El t} {c:FC} (hc:c∈enc t x):c.rank≤t.rank:=by
 have:=enc_rank t x
 simp_all
theorem goodC_up:∀ (d:Nat) (c:FC),c.rank≤d→goodC d c→goodC (d+1) c:=by
 intro d
 induction d with
 | zero=>
  intro c hr h
  cases c with
  | val v=>cases v<;>exact h
  | nl=>trivial
  | l t xs=>simp[FC.rank] at hr
 | succ d ih=>
  intro c hr h
  cases c with
  | val v=>cases v<;>exact h
  | nl=>trivial
  | l t xs=>
   simp only[FC.rank] at hr
   exact⟨h.1,fun x hx c hc=>ih c (by have:=cells_rank_mem hc;omega) (h.2 x hx c hc)⟩
theorem trod_told (hty:∀ e t,ty e=some t→shapeOf P ty 20 e=some t.shapes∧P.cellsOf e=t.width):∀ (fuel:Nat) (T:TypeId) (cs:List Value) (x:DataW H×List MemPlace) (d:Nat) (sh:List Shp),
 DataW.trod enc' P w 0 spare held fuel T cs=some x→shapeOf P ty d T=some sh→Told w cs sh:=by
 intro fuel
 induction fuel with
 | zero=>intro T cs x d sh h;simp[DataW.trod] at h
 | succ n ih=>
  intro T cs x d sh h hs
  cases d with
  | zero=>simp[shapeOf] at hs
  | succ d=>
   unfold shapeOf at hs
   split at hs
   ·rename_i hu
    simp only[Option.some.injEq] at hs
    subst hs
    obtain⟨b,rfl,_⟩:=DataW.trod_bool hu h
    exact one_told (c:=.val (.bool b)) (tr_plain rfl) trivial
   ·rename_i hu
    simp only[Option.some.injEq] at hs
    subst hs
    obtain⟨m,rfl,_,hw⟩:=DataW.trod_int hu h
    exact one_told (c:=.val (.int .i64 m)) (tr_plain rfl) hw
   ·rename_i hu
    simp only[Option.some.injEq] at hs
    subst hs
    obtain⟨m,rfl,_,hw⟩:=DataW.trod_int hu h
    exact one_told (c:=.val (.int .u8 m)) (tr_plain rfl) hw
   ·rename_i hu
    simp only[Option.some.injEq] at hs
    subst hs
    obtain⟨s,rfl,_,hw⟩:=DataW.trod_string hu h
    exact one_told (c:=.val (.string s)) (tr_plain rfl) hw
   ·rename_i e hu
    split at hs
    ·rename_i t ht
     simp only[Option.some.injEq] at hs
     subst hs
     obtain⟨hsh,hcw⟩:=hty e t ht
     rcases DataW.trod_slice hu h with⟨rfl,_⟩|⟨a,len,cap,elems,rest,n',hn,rfl,_,_,hlc,hcm,hlen,hel,_,_⟩
     ·refine one_told (c:=.l t []) ?_ ⟨Nat.zero_le _,by simp⟩
      rw[fcC_l]
      exact⟨none,0,rfl,Nat.le_refl _,.inl rfl⟩
     ·have hn':n=n':=by omega
      subst hn'
      have each:∀ i,i<len→∃ y:El t,(∀ j,j<t.width→∃ u,w.cell? ((a.add (i*t.width)).add j)=some u∧TR w (inW w) (fcC ((D.enc t y).getD j .nl)) u)∧∀ c∈D.enc t y,goodC 8 c:=by
       intro i hi
       have h1:=hel i hi
       rw[hcw] at h1
       have hlt:i<elems.length:=by omega
       rw[List.getElem?_eq_getElem hlt,Option.bind_eq_some_iff] at h1
       obtain⟨cs',hcs,htr⟩:=h1
       obtain⟨fs,f1,f2,f3,f4⟩:=ih e cs' _ 20 t.shapes htr hsh
       obtain⟨y,rfl⟩:=dec_shape t fs f2
       obtain⟨c1,c2⟩:=cells_get hcs
       refine⟨y,fun j hj=>?_,f4⟩
       have hj':j<cs'.length:=by omega
       refine⟨cs'[j],by rw[c2 j hj];simp[hj'],?_⟩
       have hje:j<(D.enc t y).length:=by rw[enc_len];exact hj
       rw[List.getD_eq_getElem?_getD,List.getElem?_eq_getElem hje,Option.getD_some]
       exact f3 j _ _ (List.getElem?_eq_getElem hje) (List.getElem?_eq_getElem hj')
      obtain⟨xs,x1,x2⟩:=exists_list each
      refine one_told (c:=.l t xs) ?_ ⟨by omega,fun y hy c hc=>?_⟩
      ·rw[fcC_l,x1]
       refine⟨some a,cap,rfl,hlc,?_⟩
       by_cases h0:len=0
       ·exact .inl h0
       ·right
        obtain⟨u,hu1,_⟩:=(x2 0 (by omega)).1 0 (width_pos t)
        have ha:(a.add (0*t.width)).add 0=a:=by simp[Addr.add]
        rw[ha] at hu1
        obtain⟨g,o,row,te,fr,rfl,hg,_⟩:=cell_at hu1
        refine⟨g,o,row,te,fr,rfl,(Array.getElem?_eq_some_iff.1 hg).1,hg,fun i hi j hj=>?_⟩
        obtain⟨u,hu1,hu2⟩:=(x2 i hi).1 j hj
        rw[add_at,add_at] at hu1
        refine⟨u,?_,?_⟩
        ·unfold World.cell? at hu1
         rw[hg] at hu1
         simpa using hu1
        ·simpa [cell] using hu2
      ·obtain⟨i,hi⟩:=List.mem_iff_getElem?.1 hy
       have hilt:i<len:=by rw[←x1];exact(List.getElem?_eq_some_iff.1 hi).1
       have:=(x2 i hilt).2
       have hxi:xs.getD i default=y:=by simp[List.getD,hi]
       rw[hxi] at this
       exact rank_good c (this c hc) 7 (by omega)
    ·cases hs
   ·rename_i fs hu
    split at hs
    ·rename_i s hsf
     cases hl:(s.length==P.cellsOf T) with
     | false=>simp[hl] at hs
     | true=>
      simp only[hl,cond_true,Option.some.injEq] at hs
      subst hs
      obtain⟨xs,n',hn,_,hcl,hxl,hfld⟩:=DataW.trod_struct hu h
      have hn':n=n':=by omega
      subst hn'
      have key:∀ (l:List Field) (i0 off:Nat) (s:List Shp),(∀ (i:Nat) (f:Field),l[i]? = some f→fs[i0+i]? = some f)→shapesFs P (shapeOf P ty d) l off=some s→off+s.length≤cs.length→Told w ((cs.drop off).take s.length) s:=by
       intro l
       induction l with
       | nil=>
        intro i0 off s _ hs _
        simp only[shapesFs,Option.some.injEq] at hs
        subst hs
        exact⟨[],by simp,rfl,by simp,by simp⟩
       | cons f l ihl=>
        intro i0 off s hget hs hoff
        simp only[shapesFs] at hs
        split at hs
        ·rename_i s1 s2 h1 h2
         cases hc:(f.offset==off&&s1.length==P.cellsOf f.type) with
         | false=>simp[hc] at hs
         | true=>
          simp only[hc,cond_true,Option.some.injEq] at hs
          subst hs
          simp only[Bool.and_eq_true,beq_iff_eq] at hc
          obtain⟨ho,hsz⟩:=hc
          have hf:=hfld i0 f (by simpa using hget 0 f rfl)
          have hi0:i0<xs.length:=by rw[hxl];exact(Array.getElem?_eq_some_iff.1 (by simpa using hget 0 f rfl)).1
          rw[List.getElem?_eq_getElem hi0,ho,←hsz] at hf
          obtain⟨fa,a1,a2,a3,a4⟩:=ih f.type _ _ d s1 hf h1
          simp only[List.length_append] at hoff
          obtain⟨fb,b1,b2,b3,b4⟩:=ihl (i0+1) (off+P.cellsOf f.type) s2 (fun i f' hi=>by
           have:=hget (i+1) f' (by simpa using hi)
           rwa [show i0+(i+1)=i0+1+i from by omega] at this) h2 (by omega)
          rw[←hsz] at b1 b3
          have hsplit:(cs.drop off).take (s1++s2).length=(cs.drop off).take s1.length++(cs.drop (off+s1.length)).take s2.length:=by
           rw[List.length_append,List.take_add,List.drop_drop]
          rw[hsplit]
          refine⟨fa++fb,by simp only[List.length_append,a1,b1],by rw[List.map_append,a2,b2],fun j c u hc hu=>?_,fun c hc=>?_⟩
          ·by_cases hj:j<fa.length
           ·rw[List.getElem?_append_left hj] at hc
            rw[List.getElem?_append_left (by rw[←a1];exact hj)] at hu
            exact a3 j c u hc hu
           ·rw[List.getElem?_append_right (by omega)] at hc
            rw[List.getElem?_append_right (by rw[←a1];omega),←a1] at hu
            exact b3 _ c u hc hu
          ·rcases List.mem_append.1 hc with hc|hc
           ·exact a4 c hc
           ·exact b4 c hc
        ·cases hs
      have hlen:s.length=cs.length:=by rw[hcl];simpa using hl
      have:=key fs.toList 0 0 s (fun i f hi=>by simpa using hi) hsf (by omega)
      rw[hlen] at this
      simpa using this
    ·cases hs
   ·cases hs
end
end Go.D
namespace Go.D
open Go.RowKit Go.ChangeShapes Go.WideShapes
def Sh.shapes:Sh→List Shp
 | .el t=>t.shapes
 | .sl t=>[.kl t]
theorem Sh.of_shape {s:Sh} {fs:List FC} (h:fs.map FC.shp=s.shapes):∃ x:s.X,fs=s.fc x:=by
 cases s with
 | el t=>exact dec_shape t fs h
 | sl t=>
  obtain⟨a,g,rfl,h2⟩:=sL h
  obtain rfl:=sE h2
  exact⟨a,rfl⟩
def lawFS (as:List Sh):Fct:=⟨Ls as,[.el .bool],fun x=>goods as x,fun _=>(true,())⟩
def parOk (P:Program) (ty:TypeId→Option Ty):List TypeId→List Sh→Bool
 | [],[]=>true
 | T::ts,s::ss=>(match shapeOf P ty 20 T with
  | some sh=>shpsEq sh s.shapes
  | none=>false)&&(eqTy.aggOf P T==s.agg)&&(match P.underlying T with
  | some .bool=>true
  | some (.int _)=>true
  | some .string=>true
  | some (.slice _)=>true
  | some (.struct _)=>true
  | _=>false)&&parOk P ty ts ss
 | _,_=>false
section
variable {H:Type} {enc':TypeId×Value→H} {P:Program} {w W W':World} {ty:TypeId→Option Ty} {spare:Nat→Bool} {held:Bool} {base:Nat}
theorem not_agg {T:TypeId} {cs:Array Value} {d:TypeDesc} (hu:P.underlying T=some d) (hd:d=.bool∨(∃ k,d=.int k)∨d=.string∨∃ e,d=.slice e) (h:Value.okWide P w .any base T (.agg cs)):False:=by
 unfold Value.okWide at h
 rw[hu] at h
 rcases hd with rfl|⟨k,rfl⟩|rfl|⟨e,rfl⟩<;>simp only[Cell.okWide,hu,Cell.ok] at h
theorem arg_told (hty:∀ e t,ty e=some t→shapeOf P ty 20 e=some t.shapes∧P.cellsOf e=t.width) {T:TypeId} {s:Sh} {v:Value} {d:DataW H} {p:List MemPlace} (h:DataW.Trod enc' P w 0 spare held T v d p) (hv:Value.okWide P w .any base T v)
 (hp:parOk P ty [T] [s]=true):∃ x:s.X,s.good x∧∀ G:Gh,(∀ g,g<w.heap.size→G.ow g=.free)→TVR w G (canonV s x) v:=by
 simp only[parOk,Bool.and_eq_true,beq_iff_eq,and_true] at hp
 obtain⟨⟨hsh,hag⟩,hkind⟩:=hp
 split at hsh
 ·rename_i sh hs
  have hse:=shpsEq_ok hsh
  subst hse
  obtain⟨fuel,htr⟩:=h
  obtain⟨fs,f1,f2,f3,f4⟩:=trod_told hty fuel T _ _ 20 _ htr hs
  obtain⟨x,rfl⟩:=Sh.of_shape f2
  refine⟨x,f4,fun G hG=>?_⟩
  have tr:∀ (j:Nat) (c:FC) (u:Value),(s.fc x)[j]? = some c→v.cells.toList[j]? = some u→CellR w G (toCell none c) u:=fun j c u hc hu=>
   toCell_ok ((f3 j c u hc hu).frame fun g hg _=>⟨rfl,hG g hg⟩)
  have cells:CellsR w G ((s.fc x).map (toCell none)) v.cells:=by
   refine⟨by rw[List.length_map,f1,Array.length_toList],fun j c hj=>?_⟩
   rw[List.getElem?_map] at hj
   cases hq:(s.fc x)[j]? with
   | none=>simp[hq] at hj
   | some fc=>
    simp only[hq,Option.map_some,Option.some.injEq] at hj
    subst hj
    have hlt:j<v.cells.size:=by
     have:=(List.getElem?_eq_some_iff.1 hq).1
     rw[f1,Array.length_toList] at this
     exact this
    exact⟨v.cells[j],by simp[hlt],tr j fc _ hq (by simp[hlt])⟩
  unfold canonV
  rw[←hag]
  split at hkind
  ·rename_i hu
   have h0:eqTy.aggOf P T=false:=by simp[eqTy.aggOf,hu]
   rw[h0]
   have hna:∀ cs,v≠.agg cs:=fun cs e=>not_agg hu (.inl rfl) (e▸hv)
   have hvc:v.cells = #[v]:=by cases v<;>first|rfl|exact absurd rfl (hna _)
   obtain⟨c,hc⟩:=List.length_eq_one_iff.1 (show((s.fc x).map (toCell none)).length=1 by rw[←cells.1,hvc];rfl)
   obtain⟨u,hu1,hu2⟩:=cells.2 0 c (by rw[hc];rfl)
   rw[hvc] at hu1
   simp only[List.getElem?_toArray,List.getElem?_cons_zero,Option.some.injEq] at hu1
   subst hu1
   exact⟨c,hc,hu2⟩
  ·rename_i k hu
   have h0:eqTy.aggOf P T=false:=by simp[eqTy.aggOf,hu]
   rw[h0]
   have hna:∀ cs,v≠.agg cs:=fun cs e=>not_agg hu (.inr (.inl ⟨k,rfl⟩)) (e▸hv)
   have hvc:v.cells = #[v]:=by cases v<;>first|rfl|exact absurd rfl (hna _)
   obtain⟨c,hc⟩:=List.length_eq_one_iff.1 (show((s.fc x).map (toCell none)).length=1 by rw[←cells.1,hvc];rfl)
   obtain⟨u,hu1,hu2⟩:=cells.2 0 c (by rw[hc];rfl)
   rw[hvc] at hu1
   simp only[List.getElem?_toArray,List.getElem?_cons_zero,Option.some.injEq] at hu1
   subst hu1
   exact⟨c,hc,hu2⟩
  ·rename_i hu
   have h0:eqTy.aggOf P T=false:=by simp[eqTy.aggOf,hu]
   rw[h0]
   have hna:∀ cs,v≠.agg cs:=fun cs e=>not_agg hu (.inr (.inr (.inl rfl))) (e▸hv)
   have hvc:v.cells = #[v]:=by cases v<;>first|rfl|exact absurd rfl (hna _)
   obtain⟨c,hc⟩:=List.length_eq_one_iff.1 (show((s.fc x).map (toCell none)).length=1 by rw[←cells.1,hvc];rfl)
   obtain⟨u,hu1,hu2⟩:=cells.2 0 c (by rw[hc];rfl)
   rw[hvc] at hu1
   simp only[List.getElem?_toArray,List.getElem?_cons_zero,Option.some.injEq] at hu1
   subst hu1
   exact⟨c,hc,hu2⟩
  ·rename_i e hu
   have h0:eqTy.aggOf P T=false:=by simp[eqTy.aggOf,hu]
   rw[h0]
   have hna:∀ cs,v≠.agg cs:=fun cs e'=>not_agg hu (.inr (.inr (.inr ⟨e,rfl⟩))) (e'▸hv)
   have hvc:v.cells = #[v]:=by cases v<;>first|rfl|exact absurd rfl (hna _)
   obtain⟨c,hc⟩:=List.length_eq_one_iff.1 (show((s.fc x).map (toCell none)).length=1 by rw[←cells.1,hvc];rfl)
   obtain⟨u,hu1,hu2⟩:=cells.2 0 c (by rw[hc];rfl)
   rw[hvc] at hu1
   simp only[List.getElem?_toArray,List.getElem?_cons_zero,Option.some.injEq] at hu1
   subst hu1
   exact⟨c,hc,hu2⟩
  ·rename_i fs hu
   have h0:eqTy.aggOf P T=true:=by simp[eqTy.aggOf,hu]
   rw[h0]
   unfold Value.okWide at hv
   rw[hu] at hv
   obtain⟨cs,rfl,_⟩:=hv
   exact⟨cs,rfl,cells⟩
  ·cases hkind
 ·cases hsh
theorem args_told (hty:∀ e t,ty e=some t→shapeOf P ty 20 e=some t.shapes∧P.cellsOf e=t.width):∀ (ts:List TypeId) (ss:List Sh) (vs:List Value) (ds:List (DataW H)) (ps:List MemPlace),parOk P ty ts ss=true→DataW.TrodAll enc' P w 0 spare held ts vs ds ps →
 (∀ (j:Nat) t v,ts[j]? = some t→vs[j]? = some v→Value.okWide P w .any base t v)→∃ x:As (Ls ss),goods ss x∧∀ G:Gh,(∀ g,g<w.heap.size→G.ow g=.free)→(canons (Ls ss) x).length=vs.length∧∀ (j:Nat) (y:TV),(canons (Ls ss) x)[j]? = some y→∃ v,vs[j]? = some v∧TVR w G y v:=by
 intro ts
 induction ts with
 | nil=>
  intro ss vs ds ps hp h _
  cases ss with
  | nil=>obtain⟨rfl,_,_⟩:=trodAll_nil h;exact⟨(),trivial,fun G _=>⟨rfl,fun j y hj=>by cases hj⟩⟩
  | cons s ss=>simp[parOk] at hp
 | cons T ts ih=>
  intro ss vs ds ps hp h hv
  cases ss with
  | nil=>simp[parOk] at hp
  | cons s ss=>
   obtain⟨v,vs',d,ds',p,q,rfl,rfl,rfl,h1,h2⟩:=trodAll_cons h
   have hp1:parOk P ty [T] [s]=true∧parOk P ty ts ss=true:=by
    simp only[parOk,Bool.and_eq_true,and_true] at hp ⊢
    exact hp
   obtain⟨x,g1,x1⟩:=arg_told (base:=base) hty h1 (hv 0 T v rfl rfl) hp1.1
   obtain⟨xs,g2,x2⟩:=ih ss vs' ds' q hp1.2 h2 (fun j t v ht hv'=>hv (j+1) t v (by simpa using ht) (by simpa using hv'))
   refine⟨(x,xs),⟨g1,g2⟩,fun G hG=>?_⟩
   obtain⟨l1,l2⟩:=x2 G hG
   refine⟨congrArg (· + 1) l1,fun j y hj=>?_⟩
   cases j with
   | zero=>have hj':some (canonV s x)=some y:=hj;injection hj' with hj';subst hj';exact⟨v,rfl,x1 G hG⟩
   | succ j=>simpa using l2 j y hj
theorem trodAll_stays (hl:laidOutB P=true) (hb:Below W.heap.size W W'):∀ (ts:List TypeId) (vs:List Value) (ds:List (DataW H)) (ps:List MemPlace),(∀ t∈ts,P.readableRec t=true∧t<P.types.size) →
 (∀ x∈ps,x.block<W.heap.size)→DataW.TrodAll enc' P W 0 (fun _=>true) true ts vs ds ps→DataW.TrodAll enc' P W' 0 (fun b=>decide (b<W.heap.size)) true ts vs ds ps:=by
 intro ts
 induction ts with
 | nil=>intro vs ds ps _ _ h;obtain⟨rfl,rfl,rfl⟩:=trodAll_nil h;exact trodAll_mk0
 | cons t ts ih=>
  intro vs ds ps ht hlt h
  obtain⟨v,vs',d,ds',p,q,rfl,rfl,rfl,h1,h2⟩:=trodAll_cons h
  obtain⟨hr,hrow⟩:=ht t (by simp)
  exact trodAll_cons_mk (Below.trod hl hr hrow h1 hb (fun x hx=>hlt x (by simp[hx]))) (ih vs' ds' q (fun t' h'=>ht t' (by simp[h'])) (fun x hx=>hlt x (by simp[hx])) h2)
theorem trodAll_len {ts:List TypeId} {vs:List Value} {ds:List (DataW H)} {ps:List MemPlace} {spare:Nat→Bool} {base:Nat} {held:Bool} (h:DataW.TrodAll enc' P w base spare held ts vs ds ps):ds.length=ts.length:=by
 induction ts generalizing vs ds ps with
 | nil=>obtain⟨rfl,rfl,rfl⟩:=trodAll_nil h;rfl
 | cons t ts ih=>obtain⟨v,vs',d,ds',p,q,rfl,rfl,rfl,h1,h2⟩:=trodAll_cons h;simp[ih h2]
theorem law_post {f:Func} {s:ChangeSpec} {T:TypeId} {args:Array Value} {ds gs:List (DataW H)} {before:List MemPlace} (hl:laidOutB P=true) (hts:∀ t∈f.params.toList,P.readableRec t=true∧t<P.types.size)
 (hres:f.resultTypes = #[T]) (hT:P.underlying T=some .bool) (hv:s.vars=[]) (hW:DataW.Whole enc' P f.params.toList s.vars false W args.toList ds gs before)
 (hfn:∀ xs:List (DataW H),xs.length=f.params.toList.length→s.fn H xs={ results:=[.lit (.bool true)],args:=xs }) (hb:Below W.heap.size W W') :
 s.post enc' P f false true false false W args (.bool true) W':=by
 have hW':=hW
 have hlt:=hW.lt
 obtain⟨p,q,hA,hV,rfl,_,_⟩:=hW
 rw[hv] at hV
 obtain⟨rfl,rfl⟩:=trodVars_none hV
 have hlen:=trodAll_len hA
 have hf:=hfn (ds++[]) (by simpa using hlen)
 refine⟨ds,[],_,[],p,[],hW',?_,?_,?_,hb.frame _,by simp⟩
 ·rw[hf,hres]
  exact trodAll_cons_mk (shut_bool hT true) trodAll_mk0
 ·rw[hf]
  simpa using trodAll_stays hl hb _ _ _ _ hts (fun x hx=>hlt x (by simp[hx])) hA
 ·rw[hf,hv]
  rfl
def rowOk (P:Program) (f:Func) (ty:TypeId→Option Ty) (tl:List TypeId) (as:List Sh):Bool :=
 laidOutB P&&f.params.toList.all (fun t=>P.readableRec t&&decide (t<P.types.size))&&parOk P ty f.params.toList as&&tyOk P ty tl
theorem law_calls {g:Nat} {f:Func} {s:ChangeSpec} {T:TypeId} {args:Array Value} {ds gs:List (DataW H)} {before:List MemPlace} {as:List Sh} {tl:List TypeId} (hk:rowOk P f ty tl as=true) (htl:∀ e t,ty e=some t→e∈tl)
 (hres:f.resultTypes = #[T]) (hT:P.underlying T=some .bool) (hv:s.vars=[]) (hW:DataW.Whole enc' P f.params.toList s.vars false W args.toList ds gs before)
 (hfn:∀ xs:List (DataW H),xs.length=f.params.toList.length→s.fn H xs={ results:=[.lit (.bool true)],args:=xs })
 (hok:∀ (j:Nat) t v,f.params[j]? = some t→args[j]? = some v→Value.okWide P W .any base t v)
 (hsh:W.ShapedOpen P) (hld:Laid P W) (hc:(lawFS as).ok P g):Calls P g args W fun e W'=>∃ v,e=.returned v∧s.post enc' P f false true false false W args v W':=by
 unfold rowOk at hk
 simp only[Bool.and_eq_true,List.all_eq_true,decide_eq_true_eq] at hk
 obtain⟨⟨⟨k1,k2⟩,k3⟩,k4⟩:=hk
 have hty:∀ e t,ty e=some t→shapeOf P ty 20 e=some t.shapes∧P.cellsOf e=t.width:=by
  intro e t he
  unfold tyOk at k4
  rw[List.all_eq_true] at k4
  have:=k4 e (htl e t he)
  rw[he] at this
  simp only[Bool.and_eq_true,beq_iff_eq] at this
  obtain⟨h1,h2⟩:=this
  split at h1
  ·rename_i s hs;exact⟨by rw[hs,shpsEq_ok h1],h2⟩
  ·cases h1
 have hW0:=hW
 obtain⟨p,q,hA,_⟩:=hW0
 obtain⟨x,g1,x1⟩:=args_told (base:=base) hty _ as _ _ _ k3 hA (fun j t v ht hv'=>hok j t v (by simpa using ht) (by simpa using hv'))
 let G:Gh:={ ow:=fun g=>if g<W.heap.size then .free else .gone,be:=fun _=>0,hv:=fun _=>.slice none 0 0 }
 obtain⟨l1,l2⟩:=x1 G (fun g hg=>by simp[G,hg])
 refine(hc x g1 W args G ⟨W,hsh,hld,fun b hb=>⟨hb,by simp[G,hb],rfl⟩⟩ ⟨?_,?_,by simp[Fct.arg,look],by simp[Fct.arg,look],?_,fun b hb=>?_⟩).mono ?_
 ·rw[←Array.length_toList,←l1];rfl
 ·intro j y hj
  obtain⟨v,hv',ht⟩:=l2 j y hj
  exact⟨v,by simpa using hv',ht⟩
 ·intro b hb
  by_cases h:b<W.heap.size
  ·exact h
  ·simp[G,h] at hb
 ·by_cases h:b<W.heap.size<;>simp[G,h] at hb
 ·rintro e W' ⟨v,p',hs,rfl,ho,hfr,_,Fs,hpf⟩
  have hp:p'=_:=hs
  subst hp
  have hr:=hpf.res
  obtain⟨c,hcs,hto,_⟩:=hr
  have hcs':[FC.val (.bool true)]=[c]:=hcs
  injection hcs' with hcs'
  subst hcs'
  obtain rfl:v=.bool true:=hto.1
  exact⟨_,rfl,law_post k1 k2 hres hT hv hW hfn ⟨ho.os,ho.tape,ho.output.1,ho.size,fun b hb=>hfr b (by simp[G,hb])⟩⟩
end
end Go.D
namespace Go.D
theorem handed_sh {H:Type} {enc:TypeId×Value→H} {a:Assume} {C:Checked} {os:Os} {f:FuncId} {fn:Func} {s:ChangeSpec} {conds:List PathCond} {apart fresh handsOn again:Bool}
 (own:ownKnob C.prog.godebug=none) (started:os.Started) (noInit:C.prog.inits.idxOf? f=none) (hfn:C.prog.funcs[f]? = some fn)
 (witness:∃ (w:World) (tape:Tape) (i:Input),w.os=os∧(w.forCall tape i).Shaped C.prog∧i.vars=[]∧Input.okWide C.prog (w.forCall tape i) .any w.heap.size f i ∧
  s.pre6 enc C.prog fn conds apart (w.forCall tape i).memory i.args∧a.holds C.prog (lone (Frame.enter C.prog f i.args .normal) [] (w.forCall tape i)))
 (contract:∀ (W:World) (base:Nat) (args:Array Value) (ds gs:List (DataW H)) (before:List MemPlace),
  (∀ (j:Nat) t v,fn.params[j]? = some t→args[j]? = some v→Value.okWide C.prog W .any base t v) →
  DataW.Whole enc C.prog fn.params.toList s.vars apart W args.toList ds gs before→W.ShapedOpen C.prog →
  Calls C.prog f args W fun e W'=>∃ v,e=.returned v∧s.post enc C.prog fn apart fresh handsOn again W args v W') :
 ReturnsInHanded a C os f .any (s.pre6 enc C.prog fn conds apart) (s.post enc C.prog fn apart fresh handsOn again):=by
 refine returnsInHanded_of_calls own started noInit witness ?_
 intro w tape i _ hsh _ hok hpre _
 obtain⟨_,_,_,fn',hfn',_,_,_,_,hval⟩:=hok
 have e:fn'=fn:=Option.some.inj (hfn'.symm.trans hfn)
 subst e
 obtain⟨⟨ds,gs,before,hw,hc⟩,_⟩:=hpre
 have hw':=DataW.Whole.of_heap (w':=w.forCall tape i) (by rfl) hw
 refine(contract (w.forCall tape i) w.heap.size i.args ds gs before hval hw' hsh).mono fun e W' ⟨v,he,hp⟩=>?_
 subst he
 exact ChangeSpec.post_blind hp
end Go.D
namespace Go.D
structure MS where
 s:Sh
 pre:s.X→Int→Prop
 fn:s.X→Int→s.X×Int
def MS.arg (S:MS) (x:S.s.X) (k:Int):Arg:=⟨[.v S.s.agg (takeC 0 (S.s.fc x)),.v false [.sc (.int .i64 k)]],[],takeH 0 (S.s.fc x)⟩
def MS.pst (S:MS) (x:S.s.X) (k:Int):Pst:=⟨.one false [vi k],takeH 0 (S.s.fc x),[]⟩
def MS.ctr (S:MS) (x:S.s.X) (k:Int):Ctr:=.det [] (S.pst (S.fn x k).1 (S.fn x k).2)
def MS.ok (S:MS) (P:Program) (f:Nat):Prop:=∀ x k,S.pre x k→Con P f (S.arg x k) (S.ctr x k).sat
def refsAt:Nat→List Cell→Bool
 | _,[]=>true
 | j,.ref l::cs=>l==j&&refsAt (j+1) cs
 | _,.nil::_=>false
 | j,_::cs=>refsAt (j+1) cs
def hpSt (hp:List (Nat×Tree)):St:={ nt:=0,tm:=[],bx:=[],hp:=hp,fb:=[],fl:=[]}
def MS.spec (S:MS):D.Spec:=fun A=>match A.tm,A.bx with
 | [.v agg cs,.v false [.sc (.int .i64 k)]],[]=>bif agg==S.s.agg&&refsAt 0 cs then(match litC (hpSt A.hp) cs with
  | some (ds,_)=>match S.s.dec ds with
   | some x=>some (.df [S.pre x k] (S.s.X×Int) (S.fn x k) fun y=>S.pst y.1 y.2)
   | none=>none
  | none=>none) else none
 | _,_=>none
theorem litC_get {σ:St}:∀ {cs:List Cell} {ds:List FC} {ab:List Nat},litC σ cs=some (ds,ab)→ds.length=cs.length∧∀ (j:Nat) (c:Cell) (d:FC),cs[j]? = some c→ds[j]? = some d →
 (c=.nil∧d=.nl)∨(∃ l T,c=.ref l∧look σ.hp l=some T∧d=.l T.t T.xs)∨∃ v,c.val? = some v∧d=.val v:=by
 intro cs
 induction cs with
 | nil=>intro ds ab h;simp only[litC,Option.some.injEq,Prod.mk.injEq] at h;obtain⟨rfl,rfl⟩:=h;simp
 | cons c cs ih=>
  intro ds ab h
  simp only[litC] at h
  split at h
  ·rename_i ds0 ab0 h0
   obtain⟨h1,h2⟩:=ih h0
   have go:∀ d,ds=d::ds0→((c=.nil∧d=.nl)∨(∃ l T,c=.ref l∧look σ.hp l=some T∧d=.l T.t T.xs)∨∃ v,c.val? = some v∧d=.val v)→ds.length=(c::cs).length∧∀ (j:Nat) (c':Cell) (d:FC),(c::cs)[j]? = some c'→ds[j]? = some d →
    (c'=.nil∧d=.nl)∨(∃ l T,c'=.ref l∧look σ.hp l=some T∧d=.l T.t T.xs)∨∃ v,c'.val? = some v∧d=.val v:=by
    intro d hd hx
    subst hd
    refine⟨by simp[h1],fun j c' d' hc hd'=>?_⟩
    cases j with
    | zero=>simp only[List.getElem?_cons_zero,Option.some.injEq] at hc hd';subst hc;subst hd';exact hx
    | succ j=>exact h2 j c' d' (by simpa using hc) (by simpa using hd')
   split at h
   ·simp only[Option.some.injEq,Prod.mk.injEq] at h
    exact go _ h.1.symm (.inl ⟨rfl,rfl⟩)
   ·rename_i l
    split at h
    ·rename_i T hT
     split at h
     ·cases h
     ·simp only[Option.some.injEq,Prod.mk.injEq] at h
      exact go _ h.1.symm (.inr (.inl ⟨l,T,rfl,hT,rfl⟩))
    ·cases h
   ·split at h
    ·rename_i v hv
     simp only[Option.some.injEq,Prod.mk.injEq] at h
     exact go _ h.1.symm (.inr (.inr ⟨v,hv,rfl⟩))
    ·cases h
  ·cases h
theorem refsAt_get:∀ {cs:List Cell} {s:Nat},refsAt s cs=true→(∀ (j l:Nat),cs[j]? = some (.ref l)→l=s+j)∧∀ j:Nat,cs[j]?≠some .nil:=by
 intro cs
 induction cs with
 | nil=>intro s _;simp
 | cons c cs ih=>
  intro s h
  have tail:refsAt (s+1) cs=true:=by
   cases c<;>simp only[refsAt,Bool.and_eq_true,Bool.false_eq_true] at h<;>first|exact h|exact h.2
  obtain⟨h1,h2⟩:=ih tail
  refine⟨fun j l hj=>?_,fun j hj=>?_⟩
  ·cases j with
   | zero=>
    simp only[List.getElem?_cons_zero,Option.some.injEq] at hj
    subst hj
    simp only[refsAt,Bool.and_eq_true,beq_iff_eq] at h
    omega
   | succ j=>have:=h1 j l (by simpa using hj);omega
  ·cases j with
   | zero=>simp only[List.getElem?_cons_zero,Option.some.injEq] at hj;subst hj;simp[refsAt] at h
   | succ j=>exact h2 j (by simpa using hj)
theorem FcsLe.eq_of:∀ {cs ds:List FC},FcsLe cs ds→(∀ (j:Nat),cs[j]?≠some .nl)→cs=ds:=by
 intro cs ds h
 induction h with
 | nil=>intro _;rfl
 | cons h1 h2 ih=>
  intro hn
  rcases h1 with rfl|⟨rfl,_⟩
  ·rw[ih fun j hj=>hn (j+1) (by simpa using hj)]
  ·exact absurd rfl (hn 0)
theorem takeH_look:∀ {cs:List FC} {s l:Nat} {T:Tree},look (takeH s cs) l=some T→s≤l∧cs[l-s]? = some (.l T.t T.xs):=by
 intro cs
 induction cs with
 | nil=>intro s l T h;simp[takeH,look] at h
 | cons c cs ih=>
  intro s l T h
  have step:look (takeH (s+1) cs) l=some T→s≤l∧(c::cs)[l-s]? = some (.l T.t T.xs):=by
   grind
  cases c with
  | val v=>exact step h
  | nl=>exact step h
  | l t xs=>
   simp only[takeH,look] at h
   split at h
   ·grind
   ·exact step h
theorem takeC_get:∀ {cs:List FC} {s j:Nat} {c:Cell},(takeC s cs)[j]? = some c→∃ d,cs[j]? = some d∧((∃ v,d=.val v∧c=.sc v)∨(d=.nl∧c=.nil)∨∃ t xs,d=.l t xs∧c=.ref (s+j)):=by
 intro cs
 induction cs with
 | nil=>intro s j c h;simp[takeC] at h
 | cons d cs ih=>
  intro s j c h
  cases j with
  | zero=>
   cases d<;>simp only[takeC,List.getElem?_cons_zero,Option.some.injEq] at h<;>subst h
   ·simp
   ·simp
   ·simp
  | succ j=>
   have h':(takeC (s+1) cs)[j]? = some c:=by cases d<;>simpa [takeC] using h
   grind
theorem MS.spec_ok {S:MS} {P:Program} {f:Nat} (h:S.ok P f):SpecOk P f S.spec:=by
 intro A c hc hp
 unfold MS.spec at hc
 split at hc
 ·rename_i agg cs k htm hbx
  cases hcd:(agg==S.s.agg&&refsAt 0 cs) with
  | false=>simp[hcd] at hc
  | true=>
   simp only[hcd,cond_true] at hc
   simp only[Bool.and_eq_true,beq_iff_eq] at hcd
   obtain⟨rfl,hrefs⟩:=hcd
   split at hc
   ·rename_i ds ab hl
    split at hc
    ·rename_i x hx
     simp only[Option.some.injEq] at hc
     subst hc
     have hpre:S.pre x k:=hp _ (List.mem_singleton_self _)
     obtain⟨l1,l2⟩:=litC_get hl
     obtain⟨r1,r2⟩:=refsAt_get hrefs
     have hds:ds=S.s.fc x:=by
      refine(Sh.dec_ok hx).eq_of fun j hj=>?_
      have hlt:j<cs.length:=by rw[←l1];exact(List.getElem?_eq_some_iff.1 hj).1
      rcases l2 j _ _ (List.getElem?_eq_getElem hlt) hj with⟨e,_⟩|⟨_,_,_,_,e⟩|⟨_,_,e⟩
      ·exact r2 j (by rw[List.getElem?_eq_getElem hlt,e])
      ·cases e
      ·cases e
     subst hds
     intro w vs G hB hA
     refine(h x k hpre w vs G hB ⟨?_,?_,by simp[MS.arg,look],?_,hA.lt,hA.cr⟩).mono ?_
     ·rw[hA.sz,htm];rfl
     ·intro j y hj
      cases j with
      | zero=>
       simp only[MS.arg,List.getElem?_cons_zero,Option.some.injEq] at hj
       subst hj
       obtain⟨v,hv,ht⟩:=hA.tm 0 (.v S.s.agg cs) (by rw[htm];rfl)
       refine⟨v,hv,part_map (cs:=cs) (by rw[takeC_len,l1]) (fun j d hd=>?_) ht⟩
       obtain⟨fc,hfc,hcase⟩:=takeC_get hd
       have hlt:j<cs.length:=by rw[←l1];exact(List.getElem?_eq_some_iff.1 hfc).1
       refine⟨cs[j],List.getElem?_eq_getElem hlt,fun u hu=>?_⟩
       have hrel:=l2 j _ _ (List.getElem?_eq_getElem hlt) hfc
       rcases hcase with⟨v',rfl,rfl⟩|⟨rfl,rfl⟩|⟨t,xs,rfl,rfl⟩
       ·rcases hrel with⟨_,e⟩|⟨_,_,_,_,e⟩|⟨v'',hv'',e⟩
        ·cases e
        ·cases e
        ·injection e with e;subst e;exact Cell.val_ok hu hv''
       ·rcases hrel with⟨e,_⟩|⟨_,_,_,_,e⟩|⟨_,_,e⟩
        ·exact absurd (by rw[List.getElem?_eq_getElem hlt,e]) (r2 j)
        ·cases e
        ·cases e
       ·rcases hrel with⟨_,e⟩|⟨l,T,e1,_,_⟩|⟨_,_,e⟩
        ·cases e
        ·have hl':=r1 j l (by rw[List.getElem?_eq_getElem hlt,e1])
         rw[e1] at hu
         subst hl'
         exact hu
        ·cases e
      | succ j=>
       obtain⟨v,hv,ht⟩:=hA.tm (j+1) y (by rw[htm];exact hj)
       exact⟨v,hv,ht⟩
     ·intro l T hl'
      obtain⟨_,hfc⟩:=takeH_look hl'
      rw[Nat.sub_zero] at hfc
      have hlt:l<cs.length:=by rw[←l1];exact(List.getElem?_eq_some_iff.1 hfc).1
      rcases l2 l _ _ (List.getElem?_eq_getElem hlt) hfc with⟨_,e⟩|⟨l',T',e1,e2,e3⟩|⟨_,_,e⟩
      ·cases e
      ·have hl2:=r1 l l' (by rw[List.getElem?_eq_getElem hlt,e1])
       rw[Nat.zero_add] at hl2
       subst hl2
       obtain⟨t1,x1⟩:=T
       obtain⟨t2,x2⟩:=T'
       injection e3 with e4 e5
       subst e4
       have e5:=eq_of_heq e5
       subst e5
       exact hA.hp l' _ e2
      ·cases e
     ·rintro e w' ⟨v,p,hs,hrest⟩
      exact⟨v,p,hs,hrest⟩
    ·cases hc
   ·cases hc
 ·cases hc
theorem MS.of {S:MS} {P:Program} {E:Env} {L:S.s.X→Int→LEnv} {kp kl:List Nat} {f:Nat} {fn:Func} (hE:EOk P E) (hf:P.funcs[f]? = some fn) (hb:fn.body.isSome=true) (hn:decide (2≤fn.ntmps)=true)
 (hh:∀ x k,S.pre x k→HoldsE (fnOut P E (L x k) kp kl fn (S.arg x k)) (S.ctr x k).post):S.ok P f:=by
 intro x k hx
 exact con_run hE hf hb hn (hh x k hx).h
theorem MS.leaf {S:MS} {x:S.s.X} {k:Int} {r:Res} {bx:List (Nat×List FC)} {hp:List (Nat×Tree)} (h:pstSame ⟨r,hp,bx⟩ (S.pst (S.fn x k).1 (S.fn x k).2)):(Out.leaf r bx hp).holds (S.ctr x k).post:=h
end Go.D
namespace Go.D
inductive Gk where
 | l (a:Ak)
 | b (s:Sh)
 | k (s:Sh)
 | g (s:Sh)
 | i (m:Nat) (s:Sh)
abbrev Gk.X:Gk→Type
 | .l a=>a.X
 | .b s=>s.X
 | .k s=>s.X
 | .g s=>s.X
 | .i _ s=>s.X
abbrev Gs:List Gk→Type
 | []=>Unit
 | k::ks=>k.X×Gs ks
abbrev Ys:List Gk→Type
 | []=>Unit
 | .l _::ks=>Ys ks
 | .b s::ks=>s.X×Ys ks
 | .k s::ks=>s.X×Ys ks
 | .g _::ks=>Ys ks
 | .i _ _::ks=>Ys ks
def gTms:Nat→(ks:List Gk)→Gs ks→List TV
 | _,[],_=>[]
 | j,.l a::ks,x=>canon a x.1::gTms (j+1) ks x.2
 | j,.b _::ks,x=>.ptr j 0::gTms (j+1) ks x.2
 | j,.k s::ks,x=>.v s.agg (takeC (64*j) (s.fc x.1))::gTms (j+1) ks x.2
 | j,.g s::ks,x=>.v s.agg (takeC (64*j) (s.fc x.1))::gTms (j+1) ks x.2
 | j,.i m s::ks,x=>.v s.agg ((s.fc x.1).map (toCell (some m)))::gTms (j+1) ks x.2
def gBxs:Nat→(ks:List Gk)→Gs ks→List (Nat×List Cell)
 | _,[],_=>[]
 | j,.l _::ks,x=>gBxs (j+1) ks x.2
 | j,.b s::ks,x=>(j,takeC (64*j) (s.fc x.1))::gBxs (j+1) ks x.2
 | j,.k _::ks,x=>gBxs (j+1) ks x.2
 | j,.g _::ks,x=>gBxs (j+1) ks x.2
 | j,.i _ _::ks,x=>gBxs (j+1) ks x.2
def gHps:Nat→(ks:List Gk)→Gs ks→List (Nat×Tree)
 | _,[],_=>[]
 | j,.l _::ks,x=>gHps (j+1) ks x.2
 | j,.b s::ks,x=>takeH (64*j) (s.fc x.1)++gHps (j+1) ks x.2
 | j,.k s::ks,x=>takeH (64*j) (s.fc x.1)++gHps (j+1) ks x.2
 | j,.g s::ks,x=>takeH (64*j) (s.fc x.1)++gHps (j+1) ks x.2
 | j,.i _ _::ks,x=>gHps (j+1) ks x.2
def yHps:Nat→(ks:List Gk)→Ys ks→List (Nat×Tree)
 | _,[],_=>[]
 | j,.l _::ks,y=>yHps (j+1) ks y
 | j,.b _::ks,y=>yHps (j+1) ks y.2
 | j,.k s::ks,y=>takeH (64*j) (s.fc y.1)++yHps (j+1) ks y.2
 | j,.g _::ks,y=>yHps (j+1) ks y
 | j,.i _ _::ks,y=>yHps (j+1) ks y
def yBxs:Nat→(ks:List Gk)→Ys ks→List (Nat×List FC)
 | _,[],_=>[]
 | j,.l _::ks,y=>yBxs (j+1) ks y
 | j,.b s::ks,y=>(j,s.fc y.1)::yBxs (j+1) ks y.2
 | j,.k _::ks,y=>yBxs (j+1) ks y.2
 | j,.g _::ks,y=>yBxs (j+1) ks y
 | j,.i _ _::ks,y=>yBxs (j+1) ks y
structure GS where
 as:List Gk
 rs:List Sh
 pre:Gs as→Prop
 fn:Gs as→Ts rs×Ys as
def Gk.md:Gk→Md
 | .l _=>.lend
 | .b _=>.box
 | .k _=>.keep
 | .g _=>.give
 | .i _ _=>.lend
def GS.ms (S:GS):List Md:=S.as.map (·.md)
def GS.arg (S:GS) (x:Gs S.as):Arg:=⟨gTms 0 S.as x,gBxs 0 S.as x,gHps 0 S.as x⟩
def klOf:Nat→List Gk→List Nat
 | _,[]=>[]
 | j,.k _::ks=>64*j::klOf (j+1) ks
 | j,_::ks=>klOf (j+1) ks
def GS.kl (S:GS):List Nat:=klOf 0 S.as
def GS.pst (S:GS) (y:Ts S.rs×Ys S.as):Pst:=⟨mkR S.rs y.1,yHps 0 S.as y.2,yBxs 0 S.as y.2⟩
def GS.ctr (S:GS) (x:Gs S.as):Ctr:=.det [] (S.pst (S.fn x))
def GS.ok (S:GS) (P:Program) (f:Nat):Prop:=∀ x,S.pre x→Con P f (S.arg x) (S.ctr x).sat
def decOwn (hp:List (Nat×Tree)) (s:Sh) (j:Nat) (cs:List Cell):Option s.X:=bif refsAt (64*j) cs then(match litC (hpSt hp) cs with
 | some (ds,_)=>s.dec ds
 | none=>none) else none
def unCell (m:Nat):Cell→Option Cell
 | .im (some l) t xs=>bif l==m then some (.im none t xs) else none
 | .im none _ _=>none
 | c=>some c
def unCells (m:Nat):List Cell→Option (List Cell)
 | []=>some []
 | c::cs=>match unCell m c,unCells m cs with
  | some d,some ds=>some (d::ds)
  | _,_=>none
def decI (m:Nat) (s:Sh):TV→Option s.X
 | .v agg cs=>match unCells m cs with
  | some ds=>decV s (.v agg ds)
  | none=>none
 | _=>none
def decG (A:Arg):Nat→(ks:List Gk)→List TV→Option (Gs ks)
 | _,[],[]=>some ()
 | j,.l a::ks,t::ts=>match decTV a t,decG A (j+1) ks ts with
  | some x,some xs=>some (x,xs)
  | _,_=>none
 | j,.b s::ks,.ptr b 0::ts=>bif b==j then(match look A.bx j with
  | some cs=>match decOwn A.hp s j cs,decG A (j+1) ks ts with
   | some x,some xs=>some (x,xs)
   | _,_=>none
  | none=>none) else none
 | j,.k s::ks,.v agg cs::ts=>bif agg==s.agg then(match decOwn A.hp s j cs,decG A (j+1) ks ts with
  | some x,some xs=>some (x,xs)
  | _,_=>none) else none
 | j,.g s::ks,.v agg cs::ts=>bif agg==s.agg then(match decOwn A.hp s j cs,decG A (j+1) ks ts with
  | some x,some xs=>some (x,xs)
  | _,_=>none) else none
 | j,.i m s::ks,t::ts=>match decI m s t,decG A (j+1) ks ts with
  | some x,some xs=>some (x,xs)
  | _,_=>none
 | _,_,_=>none
def GS.spec (S:GS):D.Spec:=fun A=>match decG A 0 S.as A.tm with
 | some x=>some (.df [S.pre x] (Ts S.rs×Ys S.as) (S.fn x) S.pst)
 | none=>none
section
variable {w:World} {G:Gh} {A:Arg} {vs:Array Value}
theorem decOwn_ok {hp:List (Nat×Tree)} {s:Sh} {j:Nat} {cs:List Cell} {x:s.X} (h:decOwn hp s j cs=some x) :
 (takeC (64*j) (s.fc x)).length=cs.length∧(∀ (i:Nat) (d:Cell),(takeC (64*j) (s.fc x))[i]? = some d→∃ c,cs[i]? = some c∧∀ v,CellR w G c v→CellR w G d v) ∧
 ∀ l T,look (takeH (64*j) (s.fc x)) l=some T→look hp l=some T:=by
 unfold decOwn at h
 cases hr:refsAt (64*j) cs with
 | false=>simp[hr] at h
 | true=>
  simp only[hr,cond_true] at h
  split at h
  ·rename_i ds ab hl
   obtain⟨l1,l2⟩:=litC_get hl
   obtain⟨r1,r2⟩:=refsAt_get hr
   have hds:ds=s.fc x:=by
    refine(Sh.dec_ok h).eq_of fun i hi=>?_
    have hlt:i<cs.length:=by rw[←l1];exact(List.getElem?_eq_some_iff.1 hi).1
    rcases l2 i _ _ (List.getElem?_eq_getElem hlt) hi with⟨e,_⟩|⟨_,_,_,_,e⟩|⟨_,_,e⟩
    ·exact r2 i (by rw[List.getElem?_eq_getElem hlt,e])
    ·cases e
    ·cases e
   subst hds
   refine⟨by rw[takeC_len,l1],fun i d hd=>?_,fun l T hl'=>?_⟩
   ·obtain⟨fc,hfc,hcase⟩:=takeC_get hd
    have hlt:i<cs.length:=by rw[←l1];exact(List.getElem?_eq_some_iff.1 hfc).1
    refine⟨cs[i],List.getElem?_eq_getElem hlt,fun u hu=>?_⟩
    have hrel:=l2 i _ _ (List.getElem?_eq_getElem hlt) hfc
    rcases hcase with⟨v',rfl,rfl⟩|⟨rfl,rfl⟩|⟨t,xs,rfl,rfl⟩
    ·rcases hrel with⟨_,e⟩|⟨_,_,_,_,e⟩|⟨v'',hv'',e⟩
     ·cases e
     ·cases e
     ·injection e with e;subst e;exact Cell.val_ok hu hv''
    ·rcases hrel with⟨e,_⟩|⟨_,_,_,_,e⟩|⟨_,_,e⟩
     ·exact absurd (by rw[List.getElem?_eq_getElem hlt,e]) (r2 i)
     ·cases e
     ·cases e
    ·rcases hrel with⟨_,e⟩|⟨l,T,e1,_,_⟩|⟨_,_,e⟩
     ·cases e
     ·have hl':=r1 i l (by rw[List.getElem?_eq_getElem hlt,e1])
      rw[e1] at hu
      subst hl'
      exact hu
     ·cases e
   ·obtain⟨hle,hfc⟩:=takeH_look hl'
    have hlt:l-64*j<cs.length:=by rw[←l1];exact(List.getElem?_eq_some_iff.1 hfc).1
    rcases l2 _ _ _ (List.getElem?_eq_getElem hlt) hfc with⟨_,e⟩|⟨l',T',e1,e2,e3⟩|⟨_,_,e⟩
    ·cases e
    ·have hl2:=r1 _ l' (by rw[List.getElem?_eq_getElem hlt,e1])
     have hl3:l'=l:=by omega
     subst hl3
     obtain⟨t1,x1⟩:=T
     obtain⟨t2,x2⟩:=T'
     injection e3 with e4 e5
     subst e4
     have e5:=eq_of_heq e5
     subst e5
     exact e2
    ·cases e
  ·cases h
open Classical in
theorem asFree (G:Gh) (m:Nat):∃ G':Gh,src G' none=src G (some m)∧G'.hv=G.hv:=by
 refine⟨{ G with ow:=fun b=>if G.ow b=.lab m then .free else if G.ow b=.free then .gone else G.ow b },?_,rfl⟩
 funext b
 simp only[src]
 grind
theorem unCells_ok {m:Nat} {G':Gh} (hs:src G' none=src G (some m)) (hh:G'.hv=G.hv):∀ (cs ds:List Cell),unCells m cs=some ds→ds.length=cs.length∧∀ (j:Nat) (d:Cell),ds[j]? = some d→∃ c,cs[j]? = some c∧∀ v,CellR w G c v→CellR w G' d v:=by
 intro cs
 induction cs with
 | nil=>intro ds h;simp only[unCells,Option.some.injEq] at h;subst h;simp
 | cons c cs ih=>
  intro ds h
  simp only[unCells] at h
  split at h
  ·rename_i d ds' h1 h2
   simp only[Option.some.injEq] at h
   subst h
   obtain⟨k1,k2⟩:=ih ds' h2
   refine⟨by simp[k1],fun j d' hj=>?_⟩
   cases j with
   | succ j=>simpa using k2 j d' (by simpa using hj)
   | zero=>
    simp only[List.getElem?_cons_zero,Option.some.injEq] at hj
    subst hj
    refine⟨c,rfl,fun v hv=>?_⟩
    cases c with
    | im l t xs=>
     cases l with
     | none=>simp[unCell] at h1
     | some l=>
      simp only[unCell] at h1
      cases hb:(l==m) with
      | false=>simp[hb] at h1
      | true=>
       simp only[hb,cond_true,Option.some.injEq] at h1
       subst h1
       have e:l=m:=by simpa using hb
       subst e
       show TR w (src G' none) _ v
       rw[hs]
       exact hv
    | _=>simp only[unCell,Option.some.injEq] at h1;subst h1;first|exact hv|(simp only[CellR,hh] at hv ⊢;exact hv)
  ·cases h
theorem decI_ok {m:Nat} {s:Sh} {t:TV} {x:s.X} {v:Value} (h:decI m s t=some x) (hv:TVR w G t v):TVR w G (.v s.agg ((s.fc x).map (toCell (some m)))) v:=by
 cases t<;>first|(simp[decI] at h;done)|skip
 rename_i agg cs
 simp only[decI] at h
 split at h
 ·rename_i ds hds
  obtain⟨G',hs,hh⟩:=asFree G m
  obtain⟨k1,k2⟩:=unCells_ok (w:=w) (G:=G) hs hh _ _ hds
  have h1:TVR w G' (.v agg ds) v:=part_map k1 k2 hv
  have h2:PartR w G' s.agg ((s.fc x).map (toCell none)) v:=decV_ok h h1
  refine part_map (cs:=(s.fc x).map (toCell none)) (by simp) (fun j d hd=>?_) h2
  rw[List.getElem?_map] at hd
  cases hq:(s.fc x)[j]? with
  | none=>simp[hq] at hd
  | some c=>
   simp only[hq,Option.map_some,Option.some.injEq] at hd
   subst hd
   refine⟨toCell none c,by rw[List.getElem?_map,hq];rfl,fun u hu=>?_⟩
   cases c with
   | l t xs=>
    have hu:TR w (src G' none) _ u:=hu
    rw[hs] at hu
    exact hu
   | _=>exact hu
 ·cases h
theorem look_app {α:Type} {l m:List (Nat×α)} {t:Nat} {x:α} (h:look (l++m) t=some x):look l t=some x∨look m t=some x:=by
 induction l with
 | nil=>exact .inr h
 | cons p l ih=>
  obtain⟨s,u⟩:=p
  simp only[List.cons_append,look] at h ⊢
  grind
theorem decG_ok (hA:ArgR w G A vs):∀ (ks:List Gk) (j:Nat) (ts:List TV) (x:Gs ks),decG A j ks ts=some x →
 (gTms j ks x).length=ts.length∧(∀ (i:Nat) (y:TV),(gTms j ks x)[i]? = some y→∃ t,ts[i]? = some t∧∀ v,TVR w G t v→TVR w G y v) ∧
 (∀ b cs,look (gBxs j ks x) b=some cs→G.ow (G.be b)=.box b∧∃ r e,w.heap[G.be b]? = some (.cells r e (0,0))∧CellsR w G cs r) ∧
 ∀ l T,look (gHps j ks x) l=some T→look A.hp l=some T:=by
 intro ks
 induction ks with
 | nil=>
  intro j ts x h
  cases ts with
  | nil=>simp[gTms,gBxs,gHps,look]
  | cons t ts=>simp[decG] at h
 | cons k ks ih=>
  intro j ts x h
  cases ts with
  | nil=>cases k<;>simp[decG] at h
  | cons t ts=>
   have cons:∀ (y:TV) (ys:List TV),ys.length=ts.length→(∀ v,TVR w G t v→TVR w G y v)→(∀ (i:Nat) (z:TV),ys[i]? = some z→∃ t,ts[i]? = some t∧∀ v,TVR w G t v→TVR w G z v) →
    (y::ys).length=(t::ts).length∧(∀ (i:Nat) (z:TV),(y::ys)[i]? = some z→∃ t',(t::ts)[i]? = some t'∧∀ v,TVR w G t' v→TVR w G z v):=by
    intro y ys hl h0 hs
    refine⟨by simp[hl],fun i z hz=>?_⟩
    cases i with
    | zero=>simp only[List.getElem?_cons_zero,Option.some.injEq] at hz;subst hz;exact⟨t,rfl,h0⟩
    | succ i=>simpa using hs i z (by simpa using hz)
   cases k with
   | l a=>
    simp only[decG] at h
    split at h
    ·rename_i x1 xs h1 h2
     simp only[Option.some.injEq] at h
     subst h
     obtain⟨k1,k2,k3,k4⟩:=ih _ _ _ h2
     obtain⟨c1,c2⟩:=cons _ _ k1 (fun v hv=>decTV_ok h1 hv) k2
     exact⟨c1,c2,k3,k4⟩
    ·cases h
   | b s=>
    cases t<;>first|(simp[decG] at h;done)|skip
    rename_i b off
    cases off with
    | succ n=>simp[decG] at h
    | zero=>
     simp only[decG] at h
     cases hb:(b==j) with
     | false=>simp[hb] at h
     | true=>
      simp only[hb,cond_true] at h
      have hb':b=j:=by simpa using hb
      subst hb'
      split at h
      ·rename_i cs hbx
       split at h
       ·rename_i x1 xs h1 h2
        simp only[Option.some.injEq] at h
        subst h
        obtain⟨k1,k2,k3,k4⟩:=ih _ _ _ h2
        obtain⟨d1,d2,d3⟩:=decOwn_ok (w:=w) (G:=G) h1
        obtain⟨c1,c2⟩:=cons (.ptr b 0) _ k1 (fun v hv=>hv) k2
        refine⟨c1,c2,fun b' cs' hl=>?_,fun l T hl=>?_⟩
        ·simp only[gBxs,look] at hl
         split at hl
         ·rename_i e
          have e':b'=b:=by simpa using e
          subst e'
          simp only[Option.some.injEq] at hl
          subst hl
          obtain⟨q1,r,e,q2,q3⟩:=hA.bx b' cs hbx
          refine⟨q1,r,e,q2,by rw[d1];exact q3.1,fun i d hd=>?_⟩
          obtain⟨c,hc,hr⟩:=d2 i d hd
          obtain⟨u,hu,hcr⟩:=q3.2 i c hc
          exact⟨u,hu,hr u hcr⟩
         ·exact k3 b' cs' hl
        ·rcases look_app hl with hl|hl
         ·exact d3 l T hl
         ·exact k4 l T hl
       ·cases h
      ·cases h
   | k s=>
    cases t<;>first|(simp[decG] at h;done)|skip
    rename_i agg cs
    simp only[decG] at h
    cases hb:(agg==s.agg) with
    | false=>simp[hb] at h
    | true=>
     simp only[hb,cond_true] at h
     have hb':agg=s.agg:=by simpa using hb
     subst hb'
     split at h
     ·rename_i x1 xs h1 h2
      simp only[Option.some.injEq] at h
      subst h
      obtain⟨k1,k2,k3,k4⟩:=ih _ _ _ h2
      obtain⟨d1,d2,d3⟩:=decOwn_ok (w:=w) (G:=G) h1
      obtain⟨c1,c2⟩:=cons (.v s.agg (takeC (64*j) (s.fc x1))) _ k1 (fun v hv=>part_map d1 d2 hv) k2
      refine⟨c1,c2,k3,fun l T hl=>?_⟩
      rcases look_app hl with hl|hl
      ·exact d3 l T hl
      ·exact k4 l T hl
     ·cases h
   | g s=>
    cases t<;>first|(simp[decG] at h;done)|skip
    rename_i agg cs
    simp only[decG] at h
    cases hb:(agg==s.agg) with
    | false=>simp[hb] at h
    | true=>
     simp only[hb,cond_true] at h
     have hb':agg=s.agg:=by simpa using hb
     subst hb'
     split at h
     ·rename_i x1 xs h1 h2
      simp only[Option.some.injEq] at h
      subst h
      obtain⟨k1,k2,k3,k4⟩:=ih _ _ _ h2
      obtain⟨d1,d2,d3⟩:=decOwn_ok (w:=w) (G:=G) h1
      obtain⟨c1,c2⟩:=cons (.v s.agg (takeC (64*j) (s.fc x1))) _ k1 (fun v hv=>part_map d1 d2 hv) k2
      refine⟨c1,c2,k3,fun l T hl=>?_⟩
      rcases look_app hl with hl|hl
      ·exact d3 l T hl
      ·exact k4 l T hl
     ·cases h
   | i m s=>
    simp only[decG] at h
    split at h
    ·rename_i x1 xs h1 h2
     simp only[Option.some.injEq] at h
     subst h
     obtain⟨k1,k2,k3,k4⟩:=ih _ _ _ h2
     obtain⟨c1,c2⟩:=cons _ _ k1 (fun v hv=>decI_ok h1 hv) k2
     exact⟨c1,c2,k3,k4⟩
    ·cases h
end
theorem GS.spec_ok {S:GS} {P:Program} {f:Nat} (h:S.ok P f):SpecOk P f S.spec:=by
 intro A c hc hp
 unfold GS.spec at hc
 split at hc
 ·rename_i x hx
  simp only[Option.some.injEq] at hc
  subst hc
  have hpre:S.pre x:=hp _ (List.mem_singleton_self _)
  intro w vs G hB hA
  obtain⟨k1,k2,k3,k4⟩:=decG_ok hA _ _ _ _ hx
  refine(h x hpre w vs G hB ⟨?_,?_,k3,fun l T hl=>hA.hp l T (k4 l T hl),hA.lt,hA.cr⟩).mono ?_
  ·rw[hA.sz];exact k1.symm
  ·intro j y hj
   obtain⟨t,ht,hr⟩:=k2 j y hj
   obtain⟨v,hv,hvt⟩:=hA.tm j t ht
   simp_all
  ·rintro e w' ⟨v,p,hs,hrest⟩
   exact⟨v,p,hs,hrest⟩
 ·cases hc
def mdsEq:List Md→List Md→Bool
 | [],[]=>true
 | .lend::a,.lend::b=>mdsEq a b
 | .give::a,.give::b=>mdsEq a b
 | .keep::a,.keep::b=>mdsEq a b
 | .box::a,.box::b=>mdsEq a b
 | _,_=>false
def orSpecG (ms:List Md) (g:D.Spec):Option (List Md×D.Spec)→D.Spec
 | some (ms',g0)=>fun A=>match g A with
  | some c=>some c
  | none=>bif mdsEq ms' ms then g0 A else none
 | none=>g
def Env.addG (E:Env) (f:Nat) (S:GS):Env:=E.ext f S.ms (orSpecG S.ms S.spec (E.fn f))
theorem gms_new:∀ ks:List Gk,isNewMd (ks.map (·.md))=false
 | []=>rfl
 | [k]=>by cases k<;>rfl
 | k::_::_=>by cases k<;>rfl
theorem EOk.addG {P:Program} {E:Env} (h:EOk P E) {f:Nat} {S:GS} (hS:S.ok P f):EOk P (E.addG f S):=by
 refine h.ext ?_ (fun hn=>by rw[GS.ms,gms_new] at hn;cases hn)
 have hS':=GS.spec_ok hS
 unfold orSpecG
 split
 ·rename_i ms' g0 hg0
  intro A c hc
  dsimp only at hc
  split at hc
  ·rename_i c' hc'
   simp only[Option.some.injEq] at hc
   subst hc
   exact hS' A c' hc'
  ·cases hm:mdsEq ms' S.ms with
   | false=>simp[hm] at hc
   | true=>
    simp only[hm,cond_true] at hc
    exact(h f ms' g0 hg0).1 A c hc
 ·exact hS'
theorem gTms_len:∀ (ks:List Gk) (j:Nat) (x:Gs ks),(gTms j ks x).length=ks.length:=by
 intro ks
 induction ks with
 | nil=>intro _ _;rfl
 | cons k ks ih=>intro j x;cases k<;>simp[gTms,ih]
theorem GS.of {S:GS} {P:Program} {E:Env} {L:Gs S.as→LEnv} {kp:List Nat} {f:Nat} {fn:Func} (hE:EOk P E) (hf:P.funcs[f]? = some fn) (hb:fn.body.isSome=true) (hn:decide (S.as.length≤fn.ntmps)=true)
 (hh:∀ x,S.pre x→HoldsE (fnOut P E (L x) kp S.kl fn (S.arg x)) (S.ctr x).post):S.ok P f:=by
 intro x hx
 refine con_run hE hf hb ?_ (hh x hx).h
 have:(S.arg x).tm.length=S.as.length:=gTms_len _ _ _
 rw[this]
 exact hn
def GS.out (S:GS) (y:Ts S.rs×Ys S.as):Out:=.leaf (mkR S.rs y.1) (yBxs 0 S.as y.2) (yHps 0 S.as y.2)
theorem bxSame_refl:∀ ps:List (Nat×List FC),bxSame ps ps
 | []=>trivial
 | p::ps=>⟨⟨rfl,fcsSame_refl _⟩,bxSame_refl ps⟩
theorem GS.leafY {S:GS} {x:Gs S.as} {y:Ts S.rs×Ys S.as} (h:y=S.fn x):(S.out y).holds (S.ctr x).post:=by
 subst h
 exact⟨resSame_refl _,bxSame_refl _,rfl⟩
theorem GS.leafZ {S:GS} {x:Gs S.as} {r:Res} {bx:List (Nat×List FC)} {hp:List (Nat×Tree)} (y:Ts S.rs×Ys S.as) (h1:pstSame ⟨r,hp,bx⟩ (S.pst y)) (h:y=S.fn x):(Out.leaf r bx hp).holds (S.ctr x).post:=by
 subst h
 exact h1
abbrev GS.lim (S:GS) (m:Gs S.as→Nat) (n:Nat):GS:={ S with pre:=fun x=>S.pre x∧m x<n }
abbrev Fct.lim (S:Fct) (m:As S.as→Nat) (n:Nat):Fct:={ S with pre:=fun x=>S.pre x∧m x<n }
theorem GS.ofRec {S:GS} {P:Program} {E:Env} {L:Gs S.as→LEnv} {kp:List Nat} {f:Nat} {fn:Func} (m:Gs S.as→Nat) (hE:EOk P E) (hf:P.funcs[f]? = some fn) (hb:fn.body.isSome=true) (hn:decide (S.as.length≤fn.ntmps)=true)
 (hh:∀ n x,S.pre x→m x<n+1→HoldsE (fnOut P (E.addG f (S.lim m n)) (L x) kp S.kl fn (S.arg x)) (S.ctr x).post):S.ok P f:=by
 have key:∀ n,(S.lim m n).ok P f:=by
  intro n
  induction n with
  | zero=>intro x hx;exact absurd hx.2 (Nat.not_lt_zero _)
  | succ n ih=>
   intro x hx
   refine con_run (EOk.addG hE ih) hf hb ?_ (hh n x hx.1 hx.2).h
   have:((S.lim m (n+1)).arg x).tm.length=S.as.length:=gTms_len _ _ _
   rw[this]
   exact hn
 intro x hx
 exact key (m x+1) x ⟨hx,Nat.lt_succ_self _⟩
theorem canons_len:∀ (ss:List Ak) (x:As ss),(canons ss x).length=ss.length:=by
 intro ss
 induction ss with
 | nil=>intro _;rfl
 | cons s ss ih=>intro x;simp[canons,ih]
theorem Fct.ofRec {S:Fct} {P:Program} {E:Env} {L:As S.as→LEnv} {kp:List Nat} {f:Nat} {fn:Func} (m:As S.as→Nat) (hE:EOk P E) (hf:P.funcs[f]? = some fn) (hb:fn.body.isSome=true) (hn:decide (S.as.length≤fn.ntmps)=true)
 (hh:∀ n x,S.pre x→m x<n+1→HoldsE (fnOut P (E.add f (S.lim m n)) (L x) kp [] fn (S.arg x)) (S.ctr x).post):S.ok P f:=by
 have key:∀ n,(S.lim m n).ok P f:=by
  intro n
  induction n with
  | zero=>intro x hx;exact absurd hx.2 (Nat.not_lt_zero _)
  | succ n ih=>
   intro x hx
   refine con_run (EOk.add hE ih) hf hb ?_ (hh n x hx.1 hx.2).h
   have:((S.lim m (n+1)).arg x).tm.length=S.as.length:=canons_len _ _
   rw[this]
   exact hn
 intro x hx
 exact key (m x+1) x ⟨hx,Nat.lt_succ_self _⟩
end Go.D
namespace Go.D
def Ak.md:Ak→Md
 | .u=>.cur
 | _=>.lend
structure Xct where
 as:List Ak
 rs:List Sh
 pre:As as→Prop
 is:As as→Ts rs→Prop
def Xct.ms (S:Xct):List Md:=S.as.map (·.md)
def Xct.arg (S:Xct) (x:As S.as):Arg:=⟨canons S.as x,[],[]⟩
def Xct.ctr (S:Xct) (x:As S.as):Ctr:=.ex [] (Ts S.rs) (S.is x) fun y=>⟨mkR S.rs y,[],[]⟩
def Xct.spec (S:Xct):D.Spec:=fun A=>match A.bx,A.hp with
 | [],[]=>match decTVs S.as A.tm with
  | some x=>some (.ex [S.pre x] (Ts S.rs) (S.is x) fun y=>⟨mkR S.rs y,[],[]⟩)
  | none=>none
 | _,_=>none
def Xct.ok (S:Xct) (P:Program) (f:Nat):Prop:=∀ x,S.pre x→Con P f (S.arg x) (S.ctr x).sat
theorem Xct.spec_ok {S:Xct} {P:Program} {f:Nat} (h:S.ok P f):SpecOk P f S.spec:=by
 intro A c hc hp
 unfold Xct.spec at hc
 split at hc
 ·rename_i hb hh
  split at hc
  ·rename_i x hx
   simp only[Option.some.injEq] at hc
   subst hc
   have hpre:S.pre x:=hp _ (List.mem_singleton_self _)
   intro w vs G hB hA
   refine(h x hpre w vs G hB ⟨?_,?_,by simp[Xct.arg,look],by simp[Xct.arg,look],hA.lt,hA.cr⟩).mono ?_
   ·rw[hA.sz];exact(decTVs_ok (w:=w) (G:=G) hx).1.symm
   ·intro j y hj
    obtain⟨x',hx',hr⟩:=(decTVs_ok (w:=w) (G:=G) hx).2 j y hj
    obtain⟨v,hv,ht⟩:=hA.tm j x' hx'
    exact⟨v,hv,hr v ht⟩
   ·rintro e w' ⟨v,p,hs,hrest⟩
    exact⟨v,p,hs,hrest⟩
  ·cases hc
 ·cases hc
theorem xms_new:∀ ks:List Ak,isNewMd (ks.map (·.md))=false
 | []=>rfl
 | [k]=>by cases k<;>rfl
 | k::_::_=>by cases k<;>rfl
def Env.addX (E:Env) (f:Nat) (S:Xct):Env:=E.ext f S.ms S.spec
theorem EOk.addX {P:Program} {E:Env} (h:EOk P E) {f:Nat} {S:Xct} (hS:S.ok P f):EOk P (E.addX f S) :=
 h.ext (Xct.spec_ok hS) fun hn=>by rw[Xct.ms,xms_new] at hn;cases hn
theorem Xct.of {S:Xct} {P:Program} {E:Env} {L:As S.as→LEnv} {kp:List Nat} {f:Nat} {fn:Func} (hE:EOk P E) (hf:P.funcs[f]? = some fn) (hb:fn.body.isSome=true) (hn:decide (S.as.length≤fn.ntmps)=true)
 (hh:∀ x,S.pre x→HoldsE (fnOut P E (L x) kp [] fn (S.arg x)) (S.ctr x).post):S.ok P f:=by
 intro x hx
 refine con_run hE hf hb ?_ (hh x hx).h
 have:(S.arg x).tm.length=S.as.length:=canons_len _ _
 rw[this]
 exact hn
theorem Xct.leafY {S:Xct} {x:As S.as} (y:Ts S.rs) (h:S.is x y):(Out.leaf (mkR S.rs y) [] []).holds (S.ctr x).post:=⟨y,h,resSame_refl _,trivial,rfl⟩
theorem Xct.leafZ {S:Xct} {x:As S.as} {r:Res} (y:Ts S.rs) (h1:resSame r (mkR S.rs y)) (h:S.is x y):(Out.leaf r [] []).holds (S.ctr x).post:=⟨y,h,h1,trivial,rfl⟩
end Go.D
namespace Go.D
def Gk.mdc:Gk→Md
 | .l a=>a.md
 | .b _=>.box
 | .k _=>.keep
 | .g _=>.give
 | .i _ _=>.lend
structure Zct where
 as:List Gk
 rs:List Sh
 pre:Gs as→Prop
 is:Gs as→Ts rs×Ys as→Prop
def Zct.ms (S:Zct):List Md:=S.as.map (·.mdc)
def Zct.arg (S:Zct) (x:Gs S.as):Arg:=⟨gTms 0 S.as x,gBxs 0 S.as x,gHps 0 S.as x⟩
def Zct.kl (S:Zct):List Nat:=klOf 0 S.as
def Zct.pst (S:Zct) (y:Ts S.rs×Ys S.as):Pst:=⟨mkR S.rs y.1,yHps 0 S.as y.2,yBxs 0 S.as y.2⟩
def Zct.ctr (S:Zct) (x:Gs S.as):Ctr:=.ex [] (Ts S.rs×Ys S.as) (S.is x) S.pst
def Zct.spec (S:Zct):D.Spec:=fun A=>match decG A 0 S.as A.tm with
 | some x=>some (.ex [S.pre x] (Ts S.rs×Ys S.as) (S.is x) S.pst)
 | none=>none
def Zct.ok (S:Zct) (P:Program) (f:Nat):Prop:=∀ x,S.pre x→Con P f (S.arg x) (S.ctr x).sat
theorem Zct.spec_ok {S:Zct} {P:Program} {f:Nat} (h:S.ok P f):SpecOk P f S.spec:=by
 intro A c hc hp
 unfold Zct.spec at hc
 split at hc
 ·rename_i x hx
  simp only[Option.some.injEq] at hc
  subst hc
  have hpre:S.pre x:=hp _ (List.mem_singleton_self _)
  intro w vs G hB hA
  obtain⟨k1,k2,k3,k4⟩:=decG_ok hA _ _ _ _ hx
  refine(h x hpre w vs G hB ⟨?_,?_,k3,fun l T hl=>hA.hp l T (k4 l T hl),hA.lt,hA.cr⟩).mono ?_
  ·rw[hA.sz];exact k1.symm
  ·intro j y hj
   obtain⟨t,ht,hr⟩:=k2 j y hj
   obtain⟨v,hv,hvt⟩:=hA.tm j t ht
   exact⟨v,hv,hr v hvt⟩
  ·rintro e w' ⟨v,p,hs,hrest⟩
   exact⟨v,p,hs,hrest⟩
 ·cases hc
theorem Zct.of {S:Zct} {P:Program} {E:Env} {L:Gs S.as→LEnv} {kp:List Nat} {f:Nat} {fn:Func} (hE:EOk P E) (hf:P.funcs[f]? = some fn) (hb:fn.body.isSome=true) (hn:decide (S.as.length≤fn.ntmps)=true)
 (hh:∀ x,S.pre x→HoldsE (fnOut P E (L x) kp S.kl fn (S.arg x)) (S.ctr x).post):S.ok P f:=by
 intro x hx
 refine con_run hE hf hb ?_ (hh x hx).h
 have:(S.arg x).tm.length=S.as.length:=gTms_len _ _ _
 rw[this]
 exact hn
def Zct.out (S:Zct) (y:Ts S.rs×Ys S.as):Out:=.leaf (mkR S.rs y.1) (yBxs 0 S.as y.2) (yHps 0 S.as y.2)
theorem Zct.leafY {S:Zct} {x:Gs S.as} (y:Ts S.rs×Ys S.as) (h:S.is x y):(S.out y).holds (S.ctr x).post:=⟨y,h,resSame_refl _,bxSame_refl _,rfl⟩
theorem Zct.leafZ {S:Zct} {x:Gs S.as} {r:Res} {bx:List (Nat×List FC)} {hp:List (Nat×Tree)} (y:Ts S.rs×Ys S.as) (h1:pstSame ⟨r,hp,bx⟩ (S.pst y)) (h:S.is x y):(Out.leaf r bx hp).holds (S.ctr x).post:=⟨y,h,h1⟩
end Go.D
namespace Go.D
theorem wrapId {n:Int} (h : -9223372036854775808≤n∧n≤9223372036854775807):IntKind.i64.wrap n=n:=by
 rw[IntKind.wrap_i64]
 omega
theorem wrapId' {n:Int} (h1 : -9223372036854775808≤n) (h2:n≤9223372036854775807):IntKind.i64.wrap n=n:=wrapId ⟨h1,h2⟩
theorem baEq (a b:ByteArray):(a.toList==b.toList)=decide (a=b):=by
 have h:a.toList=b.toList↔a=b:=by
  constructor
  ·intro h
   rw[ByteArray.toList_eq,ByteArray.toList_eq] at h
   cases a;cases b
   simp_all
  ·rintro rfl;rfl
 grind
theorem toNat1 {i:Int} (h:0≤i):(i+1).toNat=i.toNat+1:=by omega
theorem getD_lt {α:Type} [Inhabited α] {l:List α} {i:Nat} (h:i<l.length):l.getD i default=l[i]:=by simp[h]
theorem take_succ {α:Type} [Inhabited α] {l:List α} {i:Nat} (h:i<l.length):l.take (i+1)=l.take i++[l.getD i default]:=by
 simp_all
theorem good_mem {t:Ty} {l:List (El t)} (h:Sh.good (.sl t) l) {x:El t} (hx:x∈l):Sh.good (.el t) x:=by
 intro c hc
 have h1:=h (.l t l) (by simp[Sh.fc])
 have h2:=h1.2 x hx c hc
 have hr:=cells_rank_mem hc
 have:=rank_le t
 exact goodC_up 7 c (by omega) h2
theorem good_getD {t:Ty} {l:List (El t)} (h:Sh.good (.sl t) l) {i:Nat} (hi:i<l.length):Sh.good (.el t) (l.getD i default):=good_mem h (by rw[getD_lt hi];exact List.getElem_mem hi)
theorem good_len {t:Ty} {l:List (El t)} (h:Sh.good (.sl t) l):l.length≤maxLen:=(h (.l t l) (by simp[Sh.fc])).1
def lessen (left:Int) (n:Nat):Int:=if(n:Int)≤left then left-n else -1
def szL {α:Type} (f:α→Nat) (l:List α):Nat:=l.length+(l.map f).sum
theorem sum_take {α:Type} [Inhabited α] (f:α→Nat) {l:List α} {i:Nat} (h:i<l.length):((l.take (i+1)).map f).sum=((l.take i).map f).sum+f (l.getD i default):=by
 rw[take_succ h];simp
theorem sum_take_le {α:Type} (f:α→Nat) (l:List α) (i:Nat):((l.take i).map f).sum≤(l.map f).sum:=by
 have:(l.map f).sum=((l.take i).map f).sum+((l.drop i).map f).sum:=by rw[←List.sum_append_nat,←List.map_append,List.take_append_drop]
 omega
theorem szL_len {α:Type} (f:α→Nat) (l:List α):l.length≤szL f l:=Nat.le_add_right _ _
def digs:Nat→Nat→ByteArray→ByteArray
 | 0,_,out=>out
 | f+1,k,out=>if k=0 then out else digs f (k / 10) (⟨#[UInt8.ofNat (48+k % 10)]⟩++out)
def mtext (k:Int):ByteArray:=if k≤0 then⟨#[109,48]⟩ else⟨#[109]⟩++digs 64 k.toNat ⟨#[]⟩
section
variable {α:Type} {f:α→Int→α×Int}
theorem drop_cons [Inhabited α] {l:List α} {i:Nat} (h:i<l.length):l.drop i=l.getD i default::l.drop (i+1):=by
 simp_all
theorem drop_end {α:Type} {l:List α} {i:Nat} (h:l.length≤i):l.drop i=[]:=List.drop_of_length_le h
end
def fidx {α:Type} (p:α→Bool):List α→Int→Int
 | [],_=>-1
 | c::l,i=>if p c then i else fidx p l (i+1)
theorem fidx_lt {α:Type} (p:α→Bool):∀ (l:List α) (i:Int),0≤i→fidx p l i<i+l.length∧-1≤fidx p l i:=by
 intro l
 induction l with
 | nil=>intro i h;simp[fidx];omega
 | cons c l ih=>
  intro i hi
  simp only[fidx,List.length_cons]
  grind
theorem szL_get {α:Type} [Inhabited α] (f:α→Nat) {l:List α} {i:Nat} (h:i<l.length):f (l.getD i default)+l.length≤szL f l:=by
 have h1:=sum_take_le f l (i+1)
 rw[sum_take f h] at h1
 simp only[szL];omega
def countIf {α:Type} (p:α→Bool):List α→Int
 | []=>0
 | x::l=>(if p x then 1 else 0)+countIf p l
theorem countIf_le {α:Type} (p:α→Bool) (l:List α):0≤countIf p l∧countIf p l≤l.length:=by
 induction l with
 | nil=>simp[countIf]
 | cons x l ih=>simp only[countIf,List.length_cons];split<;>omega
theorem cut_end {α:Type} (l:List α) (n:Nat):cut l n (l.length-n)=l.drop n:=by
 unfold cut;rw[List.take_of_length_le (by simp)]
theorem cut_from0 {α:Type} (l:List α) (n:Nat):cut l 0 n=l.take n:=rfl
theorem and_i {a b:Bool} (h:a=true) (h':b=true):(a&&b)=true:=by rw[h,h'];rfl
theorem take_end {α:Type} {l:List α} {i:Nat} (h:l.length≤i):l.take i=l:=List.take_of_length_le h
theorem baSz (a:Array UInt8):(ByteArray.mk a).size=a.size:=rfl
end Go.D
namespace Go.D
theorem room_eq (a b:Nat):Room a b=(a*b≤140737488355328):=rfl
theorem std1:(∀ {p:Prop} [inst:Decidable p],(decide p=true)=p)∧(∀ {p:Prop} {x:Decidable p},decide p=false↔¬p)∧(∀ (b:Bool),((!b)=true)=(b=false))∧(∀ (b:Bool),((!b)=false)=(b=true)) ∧
 (∀ {α:Type} [inst:BEq α] [LawfulBEq α] {a b:α},(a != b)=true↔a≠b)∧(∀ {α:Type} [inst:BEq α] [LawfulBEq α] {a b:α},(a != b)=false↔a=b)∧(∀ {α:Type} [inst:BEq α] [LawfulBEq α] {a b:α},(a==b)=true↔a=b) ∧
 (∀ {α:Type} [inst:BEq α] [LawfulBEq α] {a b:α},(a==b)=false↔a≠b)∧(∀ (a b:ByteArray),(a.toList==b.toList)=decide (a=b))∧(∀ {a b:Int},¬a<b↔b≤a)∧(∀ {a b:Int},¬a≤b↔b<a)∧(∀ {p:Prop} [Decidable p],¬¬p↔p)∧(∀ x,wr x=IntKind.i64.wrap x)∧(∀ x,w1 x=IntKind.i64.wrap (x+1))∧∀ i n,inB i n=(0≤i∧i<(n:Int)) :=
 ⟨@decide_eq_true_eq,@decide_eq_false_iff_not,@Bool.not_eq_true',@Bool.not_eq_false',@bne_iff_ne,@bne_eq_false_iff_eq,@beq_iff_eq,@beq_eq_false_iff_ne,@baEq,@Int.not_lt,@Int.not_le,@Decidable.not_not,fun _=>rfl,fun _=>rfl,fun _ _=>rfl⟩
theorem std2:(∀ (a:Array UInt8),ByteArray.size { data:=a }=a.size)∧(∀ {α:Type} {as:List α},as.toArray.size=as.length)∧(∀ {α:Type} {a:α} {as:List α},(a::as).length=as.length+1)∧(∀ {α:Type},([]:List α).length=0) ∧
 Int.toNat 0=0∧(∀ {α:Type} {l:List α},List.drop 0 l=l)∧(∀ (b:Bool),(¬b=true)=(b=false))∧(∀ (b:Bool),(¬b=false)=(b=true))∧(∀ {p:Prop} [g:Decidable p] [h:Decidable ¬p],(decide ¬p) = !decide p) ∧
 (∀ {α β:Type} (a:α) (b:β) (c:α) (d:β),((a,b)=(c,d))=(a=c∧b=d))∧(∀ (p:Prop),(p∧True)=p)∧(∀ (p:Prop),(True∧p)=p)∧(∀ (a b:Nat),Room a b=(a*b≤140737488355328)) ∧
 (∀ {α:Type} (as:List α),[]++as=as)∧∀ (n:Nat),0+n=n :=
 ⟨@baSz,@List.size_toArray,@List.length_cons,@List.length_nil,Int.toNat_zero,@List.drop_zero,@Bool.not_eq_true,@Bool.not_eq_false,@decide_not,@Prod.mk.injEq,@and_true,@true_and,room_eq,@List.nil_append,@Nat.zero_add⟩
theorem std0:(type_of% @std1)∧∀ {α:Type} (a b:α),(a≠b) = ¬a=b:=⟨std1,fun _ _=>rfl⟩
abbrev szString (x:ByteArray):Nat:=x.size
end Go.D
namespace Go.D
set_option linter.unusedSimpArgs false
section
variable {P:Program} {E:Env} {m:Nat} {fn:Func} {t:Ty}
def szF (s:Sh) (f:s.X→Nat):Fct:=⟨[.v s,aI],[rI],fun(x:s.X×Int×Unit)=>Sh.good s x.1∧0≤x.2.1∧x.2.1≤1048576,fun(x:s.X×Int×Unit)=>(lessen x.2.1 (f x.1),())⟩
inductive SzI:Type
 | p (k:Nat)
 | c (s:Sh) (f:s.X→Nat) (x:s.X)
def SzI.n:SzI→Nat
 | .p k=>k
 | .c _ f x=>f x
def SzI.ok:SzI→Prop
 | .p k=>k≤maxLen
 | .c s _ x=>Sh.good s x
def toF (s:Sh) (f:s.X→Nat):Fct:=⟨[.v s],[s],fun(x:s.X×Unit)=>f x.1≤1048576,fun(x:s.X×Unit)=>(x.1,())⟩
structure ToI where
 s:Sh
 f:s.X→Nat
 x:s.X
def eqF (s:Sh) [DecidableEq s.X] (p:s.X→Nat):Fct:=⟨[.v s,.v s],[rB],fun(x:s.X×s.X×Unit)=>p x.1≤1125899906842624,fun(x:s.X×s.X×Unit)=>(decide (x.1=x.2.1),())⟩
inductive EqI:Type
 | s (x y:ByteArray)
 | i (x y:Int)
 | b (x y:Bool)
 | c (s:Sh) (d:DecidableEq s.X) (p:s.X→Nat) (x y:s.X)
def EqI.ok:EqI→Prop
 | .c _ _ p x _=>p x≤1125899906842624
 | _=>True
end
inductive Fe (α:Type):Type
 | s (g:α→ByteArray) (u:α→ByteArray→α)
 | i (g:α→Int) (u:α→Int→α)
 | b (g:α→Bool) (u:α→Bool→α)
 | l (s:Sh) (n:s.X→Nat) (f:s.X→Int→s.X×Int) (g:α→s.X) (u:α→s.X→α)
def Bd {α:Type} (n:α→Nat) (f:α→Int→α×Int):Prop:=∀ x k,k≤(f x k).2∧(f x k).2≤k+64*n x∧f (f x k).1 k=f x k
section
variable {α:Type}
def Fe.mk1:Fe α→α→Int→α×Int
 | .s _ u,x,k=>(u x (mtext k),k+1)
 | .i _ u,x,k=>(u x k,k+1)
 | .b _ u,x,k=>(u x (k.tmod 3==0),k+1)
 | .l _ _ f g u,x,k=>(u x (f (g x) k).1,(f (g x) k).2)
def mkA:List (Fe α)→α→Int→α×Int
 | [],x,k=>(x,k)
 | d::r,x,k=>mkA r (d.mk1 x k).1 (d.mk1 x k).2
def Fe.law:Fe α→Prop
 | .s g u=>(∀ x v,g (u x v)=v)∧∀ x,u x (g x)=x
 | .i g u=>(∀ x v,g (u x v)=v)∧∀ x,u x (g x)=x
 | .b g u=>(∀ x v,g (u x v)=v)∧∀ x,u x (g x)=x
 | .l _ n f g u=>Bd n f∧(∀ x v,g (u x v)=v)∧∀ x,u x (g x)=x
def Fe.same:Fe α→α→α→Prop
 | .s g _,x,y=>g x=g y
 | .i g _,x,y=>g x=g y
 | .b g _,x,y=>g x=g y
 | .l _ _ _ g _,x,y=>g x=g y
def Inds (d:Fe α):List (Fe α)→Prop
 | []=>True
 | e::r=>(∀ x k,d.same (e.mk1 x k).1 x)∧(∀ x k,e.same (d.mk1 x k).1 x)∧Inds d r
def Laws:List (Fe α)→Prop
 | []=>True
 | d::r=>d.law∧Inds d r∧Laws r
def Fe.isv:Fe α→α→Int→Prop
 | .s g _,x,k=>g x=mtext k
 | .i g _,x,k=>g x=k
 | .b g _,x,k=>g x=(k.tmod 3==0)
 | .l _ _ f g _,x,k=>(f (g x) k).1=g x
theorem Fe.same_trans {d:Fe α} {x y z:α} (h1:d.same x y) (h2:d.same y z):d.same x z:=by
 cases d<;>exact Eq.trans h1 h2
theorem mk1_mono {d:Fe α} (h:d.law) (x:α) (k:Int):k≤(d.mk1 x k).2:=by
 cases d with
 | l s n f g u=>exact(h.1 _ _).1
 | _=>exact Int.le_add_one (Int.le_refl _)
theorem mkA_mono:∀ {r:List (Fe α)},Laws r→∀ (x:α) (k:Int),k≤(mkA r x k).2
 | [],_,x,k=>Int.le_refl _
 | d::r,h,x,k=>Int.le_trans (mk1_mono h.1 x k) (mkA_mono h.2.2 _ _)
theorem mkA_same {d:Fe α}:∀ {r:List (Fe α)},Inds d r→∀ (x:α) (k:Int),d.same (mkA r x k).1 x
 | [],_,x,k=>by cases d<;>rfl
 | e::r,h,x,k=>Fe.same_trans (mkA_same h.2.2 _ _) (h.1 x k)
theorem mk1_id {d:Fe α} (h:d.law) {x:α} {k:Int} (hv:d.isv x k):(d.mk1 x k).1=x:=by
 cases d with
 | s g u=>show u x (mtext k)=x;rw[←(hv:g x=mtext k)];exact h.2 x
 | i g u=>
  show u x k=x
  have hv:g x=k:=hv
  conv=>lhs;rw[←hv]
  exact h.2 x
 | b g u=>show u x (k.tmod 3==0)=x;rw[←(hv:g x=(k.tmod 3==0))];exact h.2 x
 | l s n f g u=>show u x (f (g x) k).1=x;rw[(hv:(f (g x) k).1=g x)];exact h.2.2 x
theorem mk1_is {d:Fe α} (h:d.law) {x y:α} {k:Int} (hs:d.same y (d.mk1 x k).1):d.isv y k∧(d.mk1 y k).2=(d.mk1 x k).2:=by
 cases d with
 | s g u=>exact⟨(hs:g y=g (u x (mtext k))).trans (h.1 _ _),rfl⟩
 | i g u=>exact⟨(hs:g y=g (u x k)).trans (h.1 _ _),rfl⟩
 | b g u=>exact⟨(hs:g y=g (u x (k.tmod 3==0))).trans (h.1 _ _),rfl⟩
 | l s n f g u=>
  have e:g y=(f (g x) k).1:=(hs:g y=g (u x (f (g x) k).1)).trans (h.2.1 _ _)
  have e2:=(h.1 (g x) k).2.2
  rw[←e] at e2
  refine⟨?_,?_⟩
  ·show(f (g y) k).1=g y
   rw[e2,e]
  ·show(f (g y) k).2=(f (g x) k).2
   rw[e2]
theorem mkA_held {d:Fe α} {r:List (Fe α)} (h:Laws (d::r)) {x:α} {k:Int} (hx:(mkA (d::r) x k).1=x):d.isv x k∧(d.mk1 x k).1=x∧(mkA r x (d.mk1 x k).2).1=x:=by
 have hs:=mkA_same h.2.1 (d.mk1 x k).1 (d.mk1 x k).2
 have hx':(mkA r (d.mk1 x k).1 (d.mk1 x k).2).1=x:=hx
 rw[hx'] at hs
 have hv:=(mk1_is h.1 hs).1
 have e:=mk1_id h.1 hv
 simp_all
end
section
variable {P:Program} {E:Env} {m:Nat} {fn:Func} {t:Ty} {s:Sh}
def mkF (s:Sh) (f:s.X→Int→s.X×Int):MS:=⟨s,fun(x:s.X) (k:Int)=>0≤k∧(f x k).2≤4000000000000000000,f⟩
def heF (s:Sh) (f:s.X→Int→s.X×Int):Fct:=⟨[.v s,aI],[rI],fun(x:s.X×Int×Unit)=>0≤x.2.1∧(f x.1 x.2.1).2≤4000000000000000000∧(f x.1 x.2.1).1=x.1,fun(x:s.X×Int×Unit)=>((f x.1 x.2.1).2,())⟩
def slis {α:Type}:List (Fe α)→Bool
 | []=>true
 | .l ..::r=>slis r
 | _::_=>false
def hvC (s:Sh) (f:s.X→Int→s.X×Int):List (Fe s.X)→s.X→Int→Out
 | [],x,k=>.lf (heF s f) (k,())
 | .l s' n f' g u::r,x,k=>.cl (heF s' f') (g x,k,()) fun z=>.br (decide (z.1<0)) (.lf (heF s f) ((-1:Int),())) (hvC s f r x z.1)
 | _::_,_,_=>.bad
theorem hvC_h {Q:Post} {f:s.X→Int→s.X×Int} {x:s.X}:∀ (ds:List (Fe s.X)) (k:Int),Laws ds→slis ds=true→0≤k→(mkA ds x k).2≤4000000000000000000→(mkA ds x k).1=x→(Out.lf (heF s f) ((mkA ds x k).2,())).holds Q→(hvC s f ds x k).holds Q
 | [],k,_,_,_,_,_,h=>h
 | .l s' n f' g u::r,k,hl,hs,hk,hm,he,h=>by
  obtain⟨hv,hd1,he2⟩:=mkA_held hl he
  have hv:(f' (g x) k).1=g x:=hv
  have hd1:u x (f' (g x) k).1=x:=hd1
  have hm:(mkA r (u x (f' (g x) k).1) (f' (g x) k).2).2≤4000000000000000000:=hm
  have h:(Out.lf (heF s f) ((mkA r (u x (f' (g x) k).1) (f' (g x) k).2).2,())).holds Q:=h
  rw[hd1] at hm h
  have hmo:=mkA_mono hl.2.2 x (f' (g x) k).2
  have h1:k≤(f' (g x) k).2:=mk1_mono hl.1 x k
  refine cl_i ⟨hk,Int.le_trans hmo hm,hv⟩ fun _=>br_i (fun hc=>?_) (fun _=>hvC_h r _ hl.2.2 hs (by show 0≤(f' (g x) k).2;omega) hm he2 h)
  have hc:decide ((f' (g x) k).2<0)=true:=hc
  grind
theorem hvT {ds:List (Fe s.X)} (kp:List Nat) (hl:Laws ds) (hE:EOk P E) (hf:P.funcs[m]? = some fn)
 (h:∀ x k,fnOut P E (fun _=>none) kp [] fn ((heF s (mkA ds)).arg (x,k,()))=hvC s (mkA ds) ds x k)
 (hc:(fn.body.isSome&&decide (2≤fn.ntmps)&&slis ds)=true:=by kernel_rfl):(heF s (mkA ds)).ok P m:=by
 rw[Bool.and_eq_true,Bool.and_eq_true] at hc
 exact Fct.of (S:=heF s (mkA ds)) (L:=fun _ _=>none) (kp:=kp) hE hf hc.1.1 hc.1.2 fun x hx=>⟨(h x.1 x.2.1)▸hvC_h ds x.2.1 hl hc.2 hx.1 hx.2.1 hx.2.2 (lfY rfl)⟩
end
end Go.D
