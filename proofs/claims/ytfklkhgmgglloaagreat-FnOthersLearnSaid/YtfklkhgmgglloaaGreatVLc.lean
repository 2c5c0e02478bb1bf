/-
  The library of the proof, part 3.
-/
import Derived.Test.YtfklkhgmgglloaaGreatVLb
import Derived.LoopN
import Derived.Carry
import Derived.ChangeOld
import Derived.ChangeArms
import Derived.ChangeShapes
import Derived.WideShapes
import Derived.ProofKit
import Derived.OpenShut
import Derived.Handed
import Derived.Lib.Bytealg
import Derived.Sort.LotA
import Derived.Laws.Strings
set_option linter.defProp false
set_option linter.unusedVariables false
set_option linter.unusedSimpArgs false
namespace Go.D
section
variable {P:Program} {ops:Array Oper} {Q:Exit->Act->World->Prop}
def DM {l:Array Bool} {i k:Nat} (hi:i<l.size):(l.setIfInBounds i true).getD k false=(l.getD k false||k==i):=by
 by_cases e:k=i
 ·subst e;simp[hi]
 ·have h1:¬ i=k:=λh=>e h.symm
  simp[h1,e]
def BO {listed:Array Bool} (hsz:listed.size=ops.size) {i:Nat}:i∈Region.ready .any ops listed↔∃ o,ops[i]? = some o/\listed.getD i false=false/\∀ j∈Qu o,listed.getD j false=true:=by
 unfold Region.ready;rw[List.mem_filter,eA];have hg:i<ops.size->(listed.getD i true=listed.getD i false):=by intro h;simp[hsz,h]
 constructor
 ·rintro⟨h1,h2⟩;simp only[S_,cM] at h2;obtain⟨h2,h3⟩:=h2;refine⟨ops[i],by simp[h1],by grind,λj hj=>?_⟩;simp only[Array.getElem?_eq_getElem h1,aY,Option.getD_some,Array.all_eq_true'] at h3;unfold Qu at hj;grind
 ·rintro⟨o,ho,h2,h3⟩;have h1:=(Array.getElem?_eq_some_iff.1 ho).1;refine⟨h1,?_⟩;rw[S_,cM];refine⟨by grind,?_⟩;rw[ho];simp only[aY,Option.getD_some,Array.all_eq_true'];intro e he;cases hb:Region.binds .any e with
  | false=>rfl
  | true=>
   have:=h3 e.on (bG.2 ⟨e,List.mem_filter.2 ⟨by grind,hb⟩,rfl⟩);simpa using this
def ID (t:Tab) {S:Nat->Bool} {i:Nat} (hc:t.Closed S) (hi:∀ j,t.bit i j=true->S j=true):t.Closed (λk=>S k||k==i):=by
 intro k hk j hj;simp at hk ⊢;rcases hk with hk|rfl
 ·exact .inl (hc k hk j hj)
 ·exact .inl (hi j hj)
def KN (ops:Array Oper) (i k:Nat):Array Oper:=ops.modify i λo=>{ o with after:=o.after.push ⟨k,.phase⟩}
def Ac8 (ops:Array Oper) (i k:Nat):Bool:=match ops[i]?,ops[k]? with
 | some oi,some ok=>Region.noSelect ops && !(i==k)&&ok.guard.isNone&&(match ok.op with | .extract _ _=>true | .move _=>true|_=>false) &&
  (Qu ok).all (λe=>(Ai ops).bit i e)&&(List.range ops.size).all λj=>j==k||((Ai ops).bit k j||match ops[j]? with
   | some oj=>oj.after.any (λe=>Region.binds .any e&&e.on==k)||ok.apart ops oj
   | none=>true)
 | _,_=>false
def T3 (ops:Array Oper):List (Nat×Nat)->Array Oper
 | []=>ops
 | (i,k)::r=>bif Ac8 ops i k then T3 (KN ops i k) r else T3 ops r
def AlN (o:Oper):Bool:=match o.op with
 | .assign _=>true
 | _=>false
def AjY (o:Oper):Bool:=match o.op with
 | .extract _ _=>true
 | _=>false
def Anf (o:Oper):Bool:=match o.op with
 | .move _=>true
 | _=>false
def Aly (o:Oper):Bool:=match o.op with
 | .store _ _ _=>true
 | _=>false
def Aky (o:Oper):Bool:=match o.op with
 | .call c=>(match c.callee with
  | .builtin .append=>true
  | _=>false)
 | _=>false
def AhW (ops:Array Oper):List (Nat×Nat) :=
 (ops.toList.zipIdx.filter λx=>AlN x.1||Aly x.1||Aky x.1).flatMap λx=>(ops.toList.zipIdx.filter λy=>(AjY y.1||(Aly x.1||Aky x.1)&&Anf y.1)&&decide (y.2<x.2) && !(Ai ops).bit x.2 y.2).map λy=>(x.2,y.2)
def HB (i k:Nat):(KN ops i k).size=ops.size:=by simp[KN]
def KL:∀ (ps:List (Nat×Nat)) (ops:Array Oper),(T3 ops ps).size=ops.size
 | [],_=>rfl
 | (i,k)::r,ops=>by
  unfold T3;cases Ac8 ops i k
  ·exact KL r ops
  ·exact(KL r _).trans (HB i k)
def IA {i k j:Nat} {o:Oper} (h:ops[j]? = some o):(KN ops i k)[j]? = some (if j=i then{ o with after:=o.after.push ⟨k,.phase⟩} else o):=by
 unfold KN;grind
def JP {i k j:Nat} (h:ops[j]? = none):(KN ops i k)[j]? = none:=by
 unfold KN;simp_all
def AfK (i k j:Nat):((KN ops i k)[j]?).bind (·.dst)=(ops[j]?).bind (·.dst):=by
 cases h:ops[j]? with
 | none=>rw[JP h]
 | some o=>rw[IA h];split<;>rfl
def RM (i k:Nat) (tmps:Array Value):yielded (KN ops i k) tmps=yielded ops tmps:=by
 funext j;unfold yielded;rw[AfK]
def Jw {i k j:Nat} {K:Act->World->Prop} {a:Act} {w:World} (h:wpOp P (KN ops i k) Q j K a w):wpOp P ops Q j K a w:=by
 unfold wpOp at *
 cases ho:ops[j]? with
 | none=>rw[JP ho] at h;exact h
 | some o=>
  rw[IA ho] at h;rw[RM] at h;by_cases e:j=i
  ·simp only[e,aC] at h;exact h
  ·simp_all
def GD {o:Oper} {k:Nat} {j:Nat}:j∈Qu { o with after:=o.after.push ⟨k,.phase⟩}↔j∈Qu o\/j=k:=by
 unfold Qu;have:Region.binds .any ⟨k,.phase⟩=true:=rfl;simp[this]
def Ae0 (tv:Value) (ix:Nat):(∃ v,Instr.extract tv ix=pure v)\/∃ s,Instr.extract tv ix=stuck s:=by
 unfold Instr.extract;split
 ·split
  ·exact .inl ⟨_,rfl⟩
  ·exact .inr ⟨_,rfl⟩
 ·exact .inr ⟨_,rfl⟩
def XN {i k:Nat} (hpad:Ac8 ops i k=true) (hN:∀ e a w,Q e a w->e=.normal):∀ (f:Nat) (listed:Array Bool) (a:Act) (w:World),listed.size=ops.size->(Ai ops).Closed (λj=>listed.getD j false) ->
 wpAny P .any (KN ops i k) Q f listed a w->wpAny P .any ops Q f listed a w:=by
 unfold Ac8 at hpad;split at hpad
 ·rename_i oi ok hoi hok;simp only[S_,cM,beq_eq_false_iff_ne,ne_eq] at hpad;obtain⟨⟨⟨⟨⟨hsel,hik⟩,hgk⟩,hek⟩,hdk⟩,hap⟩:=hpad;rw[aH] at hdk hap;have hlet:¬ LetsOut Q:=λ⟨a,w,h⟩=>by grind
  have hsub:∀ (listed:Array Bool),listed.size=ops.size->∀ j,j∈Region.ready .any (KN ops i k) listed↔(j∈Region.ready .any ops listed/\(j=i->listed.getD k false=true)):=by
   intro listed hs j;rw[BO (ops:=KN ops i k) (by rw[HB,hs]),BO hs];constructor
   ·rintro⟨o,ho,h1,h2⟩;cases hoj:ops[j]? with
    | none=>rw[JP hoj] at ho;cases ho
    | some o'=>
     rw[IA hoj] at ho;injection ho with ho
     by_cases e:j=i
     ·rw[G_ e] at ho;subst ho;exact⟨⟨o',rfl,h1,λx hx=>h2 x (GD.2 (.inl hx))⟩,λ_=>h2 k (GD.2 (.inr rfl))⟩
     ·rw[F_ e] at ho;subst ho;exact⟨⟨o',rfl,h1,h2⟩,λe2=>absurd e2 e⟩
   ·rintro⟨⟨o,ho,h1,h2⟩,h3⟩;refine⟨_,IA ho,h1,λx hx=>?_⟩;by_cases e:j=i
    ·rw[G_ e] at hx;rcases GD.1 hx with hx|hx
     ·exact h2 x hx
     ·rw[hx];exact h3 e
    ·rw[F_ e] at hx;exact h2 x hx
  have hclo:∀ (listed:Array Bool) (j:Nat) (o:Oper),listed.size=ops.size->(Ai ops).Closed (λj=>listed.getD j false)->ops[j]? = some o->(∀ x∈Qu o,listed.getD x false=true)->∀ x,(Ai ops).bit j x=true->listed.getD x false=true:=by
   intro listed j o hs hc ho hd x hb;obtain⟨e,he,hh⟩:=AcV ho hb;rcases hh with rfl|hh
   ·exact hd _ he
   ·exact hc e (hd e he) x hh
  intro f
  induction f using Nat.strongRecOn with
  | ind f ih=>
   intro listed a w hs hc h;have next:∀ (g:Nat) (j:Nat) (o:Oper) (a:Act) (w:World),g<f->ops[j]? = some o->(∀ x∈Qu o,listed.getD x false=true)->wpAny P .any (KN ops i k) Q g (listed.setIfInBounds j true) a w->wpAny P .any ops Q g (listed.setIfInBounds j true) a w:=by
    intro g j o a w hg ho hd hh;refine ih g hg _ a w (by grind) ?_ hh;have hj:j<listed.size:=by grind
    rw[show(λx=>(listed.setIfInBounds j true).getD x false)=λx=>listed.getD x false||x==j from funext λx=>DM hj];exact ID _ hc (hclo listed j o hs hc ho hd)
   cases f with
   | zero=>
    refine⟨?_,h.2⟩;have h0:=h.1;refine List.eq_nil_iff_forall_not_mem.2 λj hj=>?_
    have hk0:∀ j,j∉Region.ready .any (KN ops i k) listed:=λj=>by grind
    by_cases e:j=i/\listed.getD k false=false
    ·obtain⟨e1,e2⟩:=e;subst e1;obtain⟨o,ho,h1,h2⟩:=(BO hs).1 hj;refine hk0 k ((hsub listed hs k).2 ⟨(BO hs).2 ⟨ok,hok,e2,λx hx=>hclo listed j o hs hc ho h2 x (hdk x hx)⟩,λe=>absurd e.symm hik⟩)
    ·refine hk0 j ((hsub listed hs j).2 ⟨hj,λe1=>?_⟩);cases e2:listed.getD k false with
     | true=>rfl
     | false=>exact absurd ⟨e1,e2⟩ e
   | succ f=>
    refine⟨λhr=>h.1 ?_,λj hj=>?_⟩
    ·refine List.eq_nil_iff_forall_not_mem.2 λj hj=>?_
     have:=((hsub listed hs j).1 hj).1;rw[hr] at this;cases this
    ·obtain⟨o,ho,h1,h2⟩:=(BO hs).1 hj;by_cases e:j=i/\listed.getD k false=false
     ·obtain⟨e1,e2⟩:=e;subst e1;rw[ho] at hoi;injection hoi with hoi
      have hkr:k∈Region.ready .any (KN ops j k) listed:=(hsub listed hs k).2 ⟨(BO hs).2 ⟨ok,hok,e2,λx hx=>hclo listed j o hs hc ho h2 x (hdk x hx)⟩,λe=>absurd e.symm hik⟩;have hkd:∀ x∈Qu ok,listed.getD x false=true:=λx hx=>hclo listed j o hs hc ho h2 x (hdk x hx)
      have hk1:=Jw (h.2 k hkr);have hapj:ok.apart ops o=true:=by
       have:=hap j (eA.2 (Array.getElem?_eq_some_iff.1 ho).1);rw[ho] at this;simp only[db,cY] at this;rcases this with h3|h3|h3|h3
       ·exact absurd h3 hik
       ·have:=hclo listed k ok hs hc hok hkd j h3;rw[h1] at this;cases this
       ·obtain⟨e,he,hb⟩:=Array.any_eq_true'.1 h3;simp at hb;have:=h2 k (bG.2 ⟨e,List.mem_filter.2 ⟨by grind,hb.1⟩,hb.2⟩);rw[e2] at this;cases this
       ·exact h3
      have hgk':ok.guard=none:=by simp_all
      have wk:∀ a:Act,Region.wanted ok (yielded ops a.tmps)=true:=λa=>by unfold Region.wanted;rw[hgk']
      obtain⟨v,hy,hk2⟩:∃ v,Yields P ops ok v a/\wpAny P .any (KN ops j k) Q f (listed.setIfInBounds k true) (a.put ok.dst v) w:=by
       unfold wpOp at hk1;rw[hok] at hk1;dsimp only at hk1;rw[wk a,G_ rfl] at hk1;rcases hk1 with hh|hh
       ·unfold Oper.wp execOp at hh;cases hop:ok.op<;>rw[hop] at hek<;>first|cases hek;done|skip
        ·rename_i x;rw[hop] at hh;exact⟨a.eval x,.inl ⟨wk a,λw=>by unfold execOp;rw[hop];rfl⟩,hh⟩
        ·rename_i t ix;rw[hop] at hh;dsimp only at hh;rcases Ae0 (a.eval t) ix with⟨v,hv⟩|⟨s,hs⟩
         ·rw[hv] at hh;exact⟨v,.inl ⟨wk a,λw=>by unfold execOp;rw[hop];dsimp only;rw[hv];rfl⟩,hh⟩
         ·rw[hs] at hh;exact hh.elim
       ·exact absurd hh.2 hlet
      have sk:(listed.setIfInBounds k true).size=ops.size:=by grind
      have hkl:k<listed.size:=by grind
      have hjl:j<listed.size:=by grind
      have hir:j∈Region.ready .any (KN ops j k) (listed.setIfInBounds k true):=(hsub _ sk j).2 ⟨(BO sk).2 ⟨o,ho,by simp_all,λx hx=>by rw[DM hkl,h2 x hx];rfl⟩,λ_=>by rw[DM hkl];simp⟩;cases f with
      | zero=>rw[hk2.1] at hir;cases hir
      | succ f'=>
       have hi2:=Jw (hk2.2 j hir);have hc2:(Ai ops).Closed (λx=>(listed.setIfInBounds k true).getD x false):=by rw[show(λx=>(listed.setIfInBounds k true).getD x false)=λx=>listed.getD x false||x==k from funext λx=>DM hkl];exact ID _ hc (hclo listed k ok hs hc hok hkd)
       have hc3:(Ai ops).Closed (λx=>((listed.setIfInBounds k true).setIfInBounds j true).getD x false):=by rw[show(λx=>((listed.setIfInBounds k true).setIfInBounds j true).getD x false)=λx=>(listed.setIfInBounds k true).getD x false||x==j from funext λx=>DM o_];exact ID _ hc2 (hclo _ j o sk hc2 ho λx hx=>by rw[DM hkl,h2 x hx];rfl)
       have hi3:=wpOp_mono (λa' w' hh=>ih f' o_ _ a' w' (by grind) hc3 hh) hi2;have hQ:∀ c a w,Q (.panic c) (a.put ok.dst v) w->Q (.panic c) a w:=λc a w hq=>by grind
       have hi4:=wpOp_put ho hapj (λcs b=>Region.noSelect_spec hsel k ok cs b hok) (λcs b=>Region.noSelect_spec hsel j o cs b ho) hQ hy hi3;refine wpOp_mono (λa' w' hh=>?_) hi4;obtain⟨hy',hi5⟩:=hh;rw[Array.setIfInBounds_comm _ _ (Ne.symm hik)] at hi5;refine wpAny_first hok (Region.noSelect_spec hsel) hQ f' (listed.setIfInBounds j true) a' w' (λm om hm hmk hun hno=>?_) ?_ hy' hi5
       ·have hml:m<listed.size:=by rw[hs];exact(Array.getElem?_eq_some_iff.1 hm).1
        have hunl:listed.getD m false=false:=by
         have h5:(listed.setIfInBounds j true).getD m false=false:=by
          have:m<(listed.setIfInBounds j true).size:=by grind
          simp only[Array.getD_eq_getD_getElem?,Array.getElem?_eq_getElem this,Option.getD_some] at hun ⊢;exact hun
         rw[DM hjl,Bool.or_eq_false_iff] at h5;exact h5.1
        have:=hap m (eA.2 (Array.getElem?_eq_some_iff.1 hm).1);rw[hm] at this;simp only[db,cY] at this;rcases this with h3|h3|h3|h3
        ·exact absurd h3 hmk
        ·have:=hclo listed k ok hs hc hok hkd m h3;rw[hunl] at this;cases this
        ·obtain⟨e,he,hb⟩:=Array.any_eq_true'.1 h3;simp at hb;exact absurd hb.2 (hno e he hb.1)
        ·exact h3
       ·exact(BO (by simp[hs])).2 ⟨ok,hok,by simp_all,λx hx=>by rw[DM hjl,hkd x hx];rfl⟩
     ·have hj2:j∈Region.ready .any (KN ops i k) listed:=(hsub listed hs j).2 ⟨hj,λe1=>by
       cases e2:listed.getD k false with
       | true=>rfl
       | false=>exact absurd ⟨e1,e2⟩ e⟩
      exact Jw (wpOp_mono (λa' w' hh=>next f j o a' w' o_ ho h2 hh) (h.2 j hj2))
 ·cases hpad
def Mr (hN:∀ e a w,Q e a w->e=.normal):∀ (ps:List (Nat×Nat)) (ops:Array Oper) (f:Nat) (listed:Array Bool) (a:Act) (w:World),listed.size=ops.size->(∀ k,listed.getD k false=true->False) ->
 wpAny P .any (T3 ops ps) Q f listed a w->wpAny P .any ops Q f listed a w
 | [],_,_,_,_,_,_,_,h=>h
 | (i,k)::r,ops,f,listed,a,w,hs,h0,h=>by
  unfold T3 at h;cases hp:Ac8 ops i k with
  | false=>rw[hp,cA] at h;exact Mr hN r ops f listed a w hs h0 h
  | true=>
   rw[hp,aO] at h;exact XN hp hN f listed a w hs (λx hx=>(h0 x hx).elim) (Mr hN r _ f listed a w (by rw[HB,hs]) h0 h)
end
end Go.D
namespace Go.D
section
variable {P:Program} {E:Env} {F:Fr P} {G G':Gh} {σ σ' σb:St} {a a':Act} {w w':World} {o:Oper} {K:St->Out} {Q:Post} {Qx:Exit->Act->World->Prop} {ops:Array Oper}
def Qy {t:Tab} {S S':Nat->Bool} (h:∀ k,S k=true->S' k=true) {s:Nat} (hs:t.ok S s=true):t.ok S' s=true:=by
 unfold Tab.ok at hs ⊢;grind
def DU {t:Tab} {S:Nat->Bool} {i:Nat} (h:∀ k,S k=true->k<i) {s:Nat} (hs:t.ok S s=true):Hs t i s:=by
 intro k hk;unfold Tab.ok at hs;simp_all
def MD {t:Tab} {i:Nat} {B S:Nat->Bool} (h:RG F G (σb.view t S) a w) (hB:∀ k,B k=true->k<i) (hS:∀ k,B k=true->S k=true) (hl:Later t i σ σb):RG F G (σ.view t B) a w:=by
 refine h.weaken ?_ ?_ ?_ hl.fb.symm hl.fl.symm hl.nt.symm
 ·intro s x hx;rw[Bb] at hx;split at hx
  ·rename_i hs;obtain⟨y,h1,h2⟩:=hl.tm1 s x (DU hB hs) hx;exact⟨y,by rw[Bb,G_ (Qy hS hs)];exact h1,λv=>h2 w G v⟩
  ·cases hx
 ·intro s cs hx;rw[CG] at hx ⊢;split at hx
  ·rename_i hs;rw[G_ (Qy hS hs),hl.bx s (DU hB hs)];exact hx
  ·cases hx
 ·intro l T hx;rw[CL] at hx ⊢;split at hx
  ·rename_i hs;rw[G_ (Qy hS hs),hl.hp l (DU hB hs)];exact hx
  ·cases hx
def Pa {t:Tab} {i:Nat} {S:Nat->Bool} (h:RG F G σ a w) (hS:∀ k,S k=true->k<i) (hl:Later t i σ σb):RG F G (σb.view t S) a w:=by
 refine h.weaken ?_ ?_ ?_ hl.fb hl.fl hl.nt
 ·intro s x hx;rw[Bb] at hx;split at hx
  ·rename_i hs;obtain⟨y,h1,h2⟩:=hl.tm2 s x (DU hS hs) hx;exact⟨y,h1,λv=>h2 w G v⟩
  ·cases hx
 ·intro s cs hx;rw[CG] at hx;split at hx
  ·rename_i hs;rw[<-hl.bx s (DU hS hs)];exact hx
  ·cases hx
 ·intro l T hx;rw[CL] at hx;split at hx
  ·rename_i hs;rw[<-hl.hp l (DU hS hs)];exact hx
  ·cases hx
def WE {t:Tab} {i:Nat} {S:Nat->Bool} (h:RG F G (σ.view t S) a w) (hS:∀ k,S k=true->k<i) (hl:Later t i σ σb):RG F G (σb.view t S) a w:=by
 refine h.weaken ?_ ?_ ?_ hl.fb hl.fl hl.nt
 ·intro s x hx;rw[Bb] at hx;split at hx
  ·rename_i hs;obtain⟨y,h1,h2⟩:=hl.tm2 s x (DU hS hs) hx;exact⟨y,by rw[Bb,G_ hs];exact h1,λv=>h2 w G v⟩
  ·cases hx
 ·intro s cs hx;rw[CG] at hx ⊢;split at hx
  ·rename_i hs;rw[G_ hs,<-hl.bx s (DU hS hs)];exact hx
  ·cases hx
 ·intro l T hx;rw[CL] at hx ⊢;split at hx
  ·rename_i hs;rw[G_ hs,<-hl.hp l (DU hS hs)];exact hx
  ·cases hx
def Im {t:Tab} {S S':Nat->Bool} (h:RG F G (σ.view t S) a w) (he:∀ s,t.ok S' s=true->t.ok S s=true):RG F G (σ.view t S') a w:=by
 refine h.weaken ?_ ?_ ?_ rfl rfl rfl
 ·intro s x hx;rw[Bb] at hx;split at hx
  ·rename_i hs;exact⟨x,by rw[Bb,G_ (he s hs)];exact hx,λ_ h=>h⟩
  ·cases hx
 ·intro s cs hx;rw[CG] at hx ⊢;simp_all
 ·intro l T hx;rw[CL] at hx ⊢;simp_all
def Ma {t:Tab} {S S':Nat->Bool} (h:RG F G (σ.view t S) a w) (he:∀ k,S' k=true->S k=true):RG F G (σ.view t S') a w:=Im h λ_ hs=>Qy he hs
def V2 {n:Nat} (h:RG F G (σ.view (Ai ops) λk=>decide (k<ops.size)) a w):RG F G σ a w:=by
 have hk:∀ s,(Ai ops).ok (λk=>decide (k<ops.size)) s=true:=by
  intro s;unfold Tab.ok;cases e:look (Ai ops).ws s with
  | none=>rfl
  | some k=>
   obtain⟨o,ho,_⟩:=AdL e;grind
 refine h.weaken ?_ ?_ ?_ rfl rfl rfl
 ·intro s x hx;exact⟨x,by rw[Bb,G_ (hk s)];exact hx,λ_ h=>h⟩
 ·intro s cs hx;rw[CG,G_ (hk s)];exact hx
 ·intro l T hx;rw[CL,G_ (hk _)];exact hx
def AeL (hE:EOk P E) (hd:IK ops=true) {k:Nat} {S:Nat->Bool} {σk σk1:St} (hf:OpFact P E ops k σk σk1) (hl:Later (Ai ops) (k+1) σk1 σb) (hb:II (Ai ops) σb=true) (hc:(Ai ops).Closed S) (hS:S k=false)
 (hpre:∀ j,(Ai ops).bit k j=true->S j=true) (h:RG F G (σb.view (Ai ops) S) a w) {Kx:Act->World->Prop} (hK:∀ a' w' G',RG F G' (σb.view (Ai ops) λj=>S j||j==k) a' w'->Kx a' w') :
 wpOp P ops Qx k Kx a w:=by
 have hf0:=hf;obtain⟨o,σr,wanted,ho,hg,hcl,hh⟩:=hf;have hmask:∀ j,(Ai ops).bit k j=true->j<k:=λj hj=>Agl hd k j hj
 have lr:Later (Ai ops) k σr σb:=by
  have hd0:=λd0 hd0=>(DA hcl d0 hd0).1
  rcases hh with⟨_,σ',_,rfl⟩|⟨_,rfl⟩
  ·exact(Later.merge hd0).trans (hl.mono (Nat.le_succ k))
  ·exact(Later.merge hd0).trans (hl.mono (Nat.le_succ k))
 have lk:Later (Ai ops) k σk σb:=(Later.guard hg).trans lr;have vk:=MD h hmask hpre lk;have vr:=MD h hmask hpre lr;have hw:=hg.wanted_ok vk;have hu:∀ d,o.dst=some d->∀ s,look (Ai ops).ws s=some k->s=d:=by
  intro d hd s hs;obtain⟨o',ho',hd'⟩:=AdL hs;rw[ho] at ho';injection ho' with ho'
  subst ho';rw[hd] at hd';injection hd' with hd'
  exact hd'.symm
 have nob:∀ d,o.dst=some d->¬ Hs (Ai ops) k d/\Hs (Ai ops) (k+1) d:=by intro d hd;have h1:=(DA hcl d hd).1;exact⟨λhb=>by have:=hb k h1;omega,λj hj=>by grind⟩
 have dlt:∀ d,o.dst=some d->d<a.tmps.size:=by intro d hd;have h1:=(DA hcl d hd).2;have h2:a.tmps.size=σk.nt:=vk.nt;exact h2▸h1
 have noneOk:o.dst=none->∀ s,(Ai ops).ok (λj=>S j||j==k) s=true->(Ai ops).ok S s=true:=by
  intro hn s hs;unfold Tab.ok at hs ⊢;cases e:look (Ai ops).ws s with
  | none=>rfl
  | some j=>
   rw[e] at hs;obtain⟨o',ho',hd'⟩:=AdL e;have:¬ j=k:=by
    intro ejk;subst ejk;rw[ho] at ho';injection ho' with ho'
    subst ho';rw[hn] at hd';cases hd'
   simpa [this] using hs
 unfold wpOp;rw[ho];dsimp only;rw[hw];have tmE:∀ d (σ':St),o.dst=some d->σk1=σr.merge o.dst σ'->(∀ x,look σb.tm d=some x->Imp (σ'.get d) x)/\(∀ cs,look σb.bx d=some cs->look σ'.bx d=some cs)/\∀ l T,l / 64=d->look σb.hp l=some T->look σ'.hp l=some T:=by
  intro d σ' hd he;have hb1:=(nob d hd).2;rw[hd] at he;subst he;refine⟨λx hx=>?_,λcs hx=>?_,λl T hld hx=>?_⟩
  ·obtain⟨y,h1,h2⟩:=hl.tm2 d x hb1 hx;rw[L7,G_ rfl] at h1;injection h1 with h1
   rw[h1];exact h2
  ·rw[hl.bx d hb1,PW,G_ rfl] at hx;exact hx
  ·rw[hl.hp l (by grind),Qp,G_ hld] at hx;exact hx
 rcases hh with⟨rfl,σ',hst,he⟩|⟨rfl,he⟩
 ·simp only[aC];refine .inl (Oper.wp_mono ?_ (QE (cls:=true) hE vr hst));rintro a' w' ⟨σ'',G',hG',⟨_,rfl⟩,hext⟩;cases hdst:o.dst with
  | none=>
   obtain⟨v,rfl⟩:=hext.act;rw[hdst];refine hK _ _ G ?_;exact Im (hext.world h) (noneOk hdst)
  | some d=>
   obtain⟨v,rfl⟩:=hext.act;rw[hdst] at hext hG' ⊢;obtain⟨e1,e2,e3⟩:=tmE d σ'' hdst he;refine hK _ _ G' (Pe hc hS (DA hcl d hdst).1 (hu d hdst) hb h (dlt d hdst) hG' hext e1 e2 e3)
 ·simp only[cD,aP];cases hdst:o.dst with
  | none=>exact hK _ _ G (Im h (noneOk hdst))
  | some d=>
   rw[hdst] at he;obtain⟨e1,e2,e3⟩:=tmE d (FK (some d) σr) hdst (by grind);have hG':RG F G (FK (some d) σr) (a.put (some d) undef) w:=by
    have:=(vr.skip (some d));refine this.weaken (λs x hx=>?_) (λs cs hx=>by simp[FK,look] at hx) (λl T hx=>by simp[FK,look] at hx) rfl rfl rfl;simp only[FK,look] at hx;split at hx
    ·rename_i e;injection hx with hx
     subst hx;refine⟨skp,?_,λ_ h=>h⟩;simp only[St.setTm,St.put,Dc,G_ (cY.1 e)]
    ·cases hx
   refine hK _ _ G (Pe hc hS (DA hcl d hdst).1 (hu d hdst) hb h (dlt d hdst) hG' .same e1 e2 e3)
def AhC (hE:EOk P E) (hd:IK ops=true) {k:Nat} {S:Nat->Bool} {σk:St} (ho:ops[k]? = some o) (hcl:Js (Ai ops) k o σk=true) (hc:(Ai ops).Closed S) (hS:S k=false) (hlt:∀ j,S j=true->j<k)
 (hpre:∀ j,(Ai ops).bit k j=true->S j=true) (h:RG F G (σk.view (Ai ops) S) a w) {f:St->Out} {X:St->St->Prop}
 (hf:∀ σ1,(f σ1).holds Q->∃ σb,X σ1 σb/\Later (Ai ops) (k+1) σ1 σb/\II (Ai ops) σb=true)
 (hh:(guarded ops o σk (σk.view (Ai ops) ((Ai ops).bit k)) (λσr=>(step P E true o (σr.view (Ai ops) ((Ai ops).bit k)) (.st .normal)).bindL λσ'=>f (σr.merge o.dst σ')) λσr=>f (σr.merge o.dst (FK o.dst σr))).holds Q) {Kx:Act->World->Prop}
 (hK:∀ σ1 σb a' w' G',X σ1 σb->Later (Ai ops) k σk σ1->Later (Ai ops) (k+1) σ1 σb->II (Ai ops) σb=true->RG F G' (σb.view (Ai ops) λj=>S j||j==k) a' w'->Kx a' w') :
 wpOp P ops Qx k Kx a w:=by
 obtain⟨σr,wanted,hg,hh⟩:=ET hh;have hmask:∀ j,(Ai ops).bit k j=true->j<k:=λj hj=>Agl hd k j hj
 have lg:=Later.guard (i:=k) hg;have vk:RG F G (σk.view (Ai ops) ((Ai ops).bit k)) a w:=Ma h hpre;have vr:=MD (σ:=σr) (σb:=σr) (i:=k) (B:=(Ai ops).bit k) (S:=S) (WE h hlt lg) hmask hpre (Later.refl _ _ _);have hw:=hg.wanted_ok vk;have hd0:=λd0 hd0=>(DA hcl d0 hd0).1
 have hu:∀ d,o.dst=some d->∀ s,look (Ai ops).ws s=some k->s=d:=by
  intro d hd s hs;obtain⟨o',ho',hd'⟩:=AdL hs;rw[ho] at ho';injection ho' with ho'
  subst ho';rw[hd] at hd';injection hd' with hd'
  exact hd'.symm
 have nob:∀ d,o.dst=some d->Hs (Ai ops) (k+1) d:=by intro d hd;have h1:=hd0 d hd;exact λj hj=>by grind
 have dlt:∀ d,o.dst=some d->d<a.tmps.size:=by intro d hd;have h1:=(DA hcl d hd).2;have h2:a.tmps.size=σk.nt:=vk.nt;exact h2▸h1
 have noneOk:o.dst=none->∀ s,(Ai ops).ok (λj=>S j||j==k) s=true->(Ai ops).ok S s=true:=by
  intro hn s hs;unfold Tab.ok at hs ⊢;cases e:look (Ai ops).ws s with
  | none=>rfl
  | some j=>
   rw[e] at hs;obtain⟨o',ho',hd'⟩:=AdL e;have:¬ j=k:=by
    intro ejk;subst ejk;rw[ho] at ho';injection ho' with ho'
    subst ho';rw[hn] at hd';cases hd'
   simpa [this] using hs
 have fin:∀ (σ':St) (G':Gh) (a':Act) (w':World),(f (σr.merge o.dst σ')).holds Q->RG F G' σ' a' w'->(∃ v,a'=a.put o.dst v)->Ext o.dst G a w G' a' w'->Kx a' w':=by
  intro σ' G' a' w' hq hG' hv hext;obtain⟨v,rfl⟩:=hv;obtain⟨σb,hX,hl,hb⟩:=hf _ hq;have lm:Later (Ai ops) k σk (σr.merge o.dst σ'):=lg.trans (Later.merge hd0);have lb:Later (Ai ops) k σk σb:=lm.trans (hl.mono (Nat.le_succ k));have hv2:=WE h hlt lb;cases hdst:o.dst with
  | none=>
   refine hK _ σb _ _ G (by rw[hdst] at hX;exact hX) (by grind) (by rw[hdst] at hl;exact hl) hb ?_;exact Im (hext.world hv2) (noneOk hdst)
  | some d=>
   have hb1:=nob d hdst;rw[hdst] at hext hG' hX lm hl;refine hK _ σb _ _ G' hX lm hl hb (Pe hc hS (hd0 d hdst) (hu d hdst) hb hv2 (dlt d hdst) hG' hext ?_ ?_ ?_)
   ·intro x hx;obtain⟨y,h1,h2⟩:=hl.tm2 d x hb1 hx;rw[L7,G_ rfl] at h1;injection h1 with h1
    rw[h1];exact h2
   ·intro cs hx;rw[hl.bx d hb1,PW,G_ rfl] at hx;exact hx
   ·intro l T hld hx;rw[hl.hp l (by grind),Qp,G_ hld] at hx;exact hx
 unfold wpOp;rw[ho];dsimp only;rw[hw];cases wanted with
 | true=>
  refine .inl (Oper.wp_mono ?_ (QE (cls:=true) hE vr (Out.bindL_holds hh)));rintro a' w' ⟨σ'',G',hG',⟨_,hq⟩,hext⟩;exact fin σ'' G' a' w' hq hG' hext.act hext
 | false=>
  refine fin (FK o.dst σr) G _ w hh ?_ ⟨_,rfl⟩ .same;have:=(vr.skip o.dst);refine this.weaken (λs x hx=>?_) (λs cs hx=>by simp[FK,look] at hx) (λl T hx=>by simp[FK,look] at hx) ?_ ?_ ?_
  ·cases hdst:o.dst with
   | none=>rw[hdst] at hx;simp[FK,look] at hx
   | some d=>
    rw[hdst] at hx;simp only[FK,look] at hx;split at hx
    ·rename_i e;injection hx with hx
     subst hx;refine⟨skp,?_,λ_ h=>h⟩;simp only[St.setTm,St.put,Dc,G_ (cY.1 e)]
    ·cases hx
  all_goals (cases o.dst<;>rfl)
def unl (S:Nat->Bool):Nat->Nat
 | 0=>0
 | n+1=>unl S n+(if S n then 0 else 1)
def Vn {S:Nat->Bool}:∀ {n:Nat},unl S n=0->∀ k,k<n->S k=true:=by
 intro n
 induction n with
 | zero=>intro _ k hk;omega
 | succ n ih=>
  intro h k hk;simp only[unl] at h;grind
def Adn {S:Nat->Bool} {i:Nat} (hS:S i=false):∀ {n:Nat},(n<=i->unl (λk=>S k||k==i) n=unl S n)/\(i<n->unl (λk=>S k||k==i) n+1=unl S n):=by
 intro n
 induction n with
 | zero=>exact⟨λ_=>rfl,λh=>o_⟩
 | succ n ih=>
  refine⟨λh=>?_,λh=>?_⟩
  ·have:=ih.1 o_;have hne:¬ n=i:=o_
   simp[unl,this,hne]
  ·by_cases e:n=i
   ·subst e;have:=ih.1 (Y_ _);simp[unl,this,hS]
   ·simp only[unl,e,cY,db,or_false];omega
def VJ {t:Tab} {b:Nat} (hc:RW t b=true) {k:Nat} (hk:k<t.n):(k<b->t.bit b k=true)/\(b<k->t.bit k b=true):=by
 unfold RW at hc;grind
def Akl (hE:EOk P E) (hd:IK ops=true):∀ (f b:Nat) (σb:St) (G:Gh) (a:Act) (w:World) (listed:Array Bool),listed.size=ops.size->(∀ k,k<b->listed.getD k false=false->∃ σk σk1,OpFact P E ops k σk σk1/\Later (Ai ops) (k+1) σk1 σb)->b<=ops.size ->
 (∀ k,k<b->listed.getD k false=false->II (Ai ops) σb=true)->Q1 P E ops K Q ops.size b σb ->
 RG F G (σb.view (Ai ops) λk=>listed.getD k false) a w->(Ai ops).Closed (λk=>listed.getD k false)->(∀ k,b<=k->listed.getD k false=false)->unl (λk=>listed.getD k false) ops.size<=f ->
 wpAny P .any ops (λe a w=>e=.normal/\Lq F K Q a w) f listed a w:=by
 intro f
 induction f with
 | zero=>
  intro b σb G a w listed hsz hops hb hok htail h hc hbk hu;have hall:=Vn (Nat.le_zero.1 hu);have hbn:b=ops.size:=by
   rcases Nat.lt_or_ge b ops.size with hlt|hge
   ·have:=hall b hlt;rw[hbk b (Y_ _)] at this;cases this
   ·omega
  refine⟨?_,rfl,?_⟩
  ·refine List.eq_nil_iff_forall_not_mem.2 λx hx=>?_
   obtain⟨o,ho,hx1,_⟩:=(BO hsz).1 hx;rw[hall x (Array.getElem?_eq_some_iff.1 ho).1] at hx1;cases hx1
  ·rcases htail with⟨_,hh⟩|⟨hlt,_⟩|⟨hlt,_⟩
   ·exact⟨σb,⟨G,V2 (n:=ops.size) (Ma h λk hk=>hall k (by grind))⟩,hh⟩
   ·omega
   ·omega
 | succ f ih=>
  intro b σb G a w listed hsz hops hb hok htail h hc hbk hu;have hdir:∀ k o,ops[k]? = some o->(∀ j∈Qu o,listed.getD j false=true)->∀ j,(Ai ops).bit k j=true->listed.getD j false=true:=by
   intro k o ho hj j hb;obtain⟨e,he,hh⟩:=AcV ho hb;rcases hh with rfl|hh
   ·exact hj _ he
   ·exact hc e (hj e he) j hh
  constructor
  ·intro hnil;have hall:∀ k,k<ops.size->listed.getD k false=true:=by
    intro k
    induction k using Nat.strongRecOn with
    | ind k ihk=>
     intro hk;cases hl:listed.getD k false with
     | true=>rfl
     | false=>
      have:k∈Region.ready .any ops listed:=(BO hsz).2 ⟨ops[k],by simp,hl,λj hj=>by
       have hjk:j<k:=by unfold IK at hd;rw[aH] at hd;have:=hd (ops[k],k) (by grind);rw[aH] at this;simpa using this j hj
       exact ihk j hjk o_⟩
      rw[hnil] at this;cases this
   have hbn:b=ops.size:=by
    rcases Nat.lt_or_ge b ops.size with hlt|hge
    ·have:=hall b hlt;rw[hbk b (Y_ _)] at this;cases this
    ·omega
   refine⟨rfl,?_⟩;rcases htail with⟨_,hh⟩|⟨hlt,_⟩|⟨hlt,_⟩
   ·exact⟨σb,⟨G,V2 (n:=ops.size) (Ma h λk hk=>hall k (by grind))⟩,hh⟩
   ·omega
   ·omega
  ·intro k hk;obtain⟨o,ho,hkl,hkd⟩:=(BO hsz).1 hk;have hkn:k<ops.size:=(Array.getElem?_eq_some_iff.1 ho).1;have hpre:=hdir k o ho hkd;have hget:∀ j,(listed.setIfInBounds k true).getD j false=(listed.getD j false||j==k):=λj=>DM o_
   have hget':(λj=>(listed.setIfInBounds k true).getD j false)=λj=>listed.getD j false||j==k:=funext hget
   have hold:∀ j,(listed.setIfInBounds k true).getD j false=false->listed.getD j false=false/\j≠k:=by intro j hj;rw[hget,Bool.or_eq_false_iff] at hj;exact⟨hj.1,by grind⟩
   have hu':unl (λj=>(listed.setIfInBounds k true).getD j false) ops.size<=f:=by rw[hget'];have:=(Adn (S:=λj=>listed.getD j false) hkl (n:=ops.size)).2 hkn;omega
   have hcl':(Ai ops).Closed λj=>(listed.setIfInBounds k true).getD j false:=by rw[hget'];exact ID _ hc hpre
   by_cases hkb:k<b
   ·obtain⟨σk,σk1,hf,hl⟩:=hops k hkb hkl;refine AeL hE hd hf hl (hok k hkb hkl) hc hkl hpre h λa' w' G' h'=>?_
    refine ih b σb G' a' w' _ (by simp[hsz]) (λj hj hj2=>hops j hj (hold j hj2).1) hb (λj hj hj2=>hok j hj (hold j hj2).1) htail (by grind) hcl' (λj hj=>?_) hu';rw[hget,hbk j hj];have:¬ j=k:=o_
    simpa using this
   ·rcases htail with⟨hbn,_⟩|⟨hbn,ob,hob,hcut,hh⟩|⟨hbn,ob,hob,hsemi,hcls,hh⟩
    ·omega
    ·-- the operation that must stand alone
     have hkb':k=b:=by
      rcases Nat.lt_or_ge b k with hlt|hge
      ·have:=hpre b ((VJ hcut (show k<(Ai ops).n from hkn)).2 hlt);rw[hbk b (Y_ _)] at this;cases this
      ·omega
     subst hkb';rw[ho] at hob;injection hob with hob
     subst hob;have hall:∀ j,listed.getD j false=decide (j<k):=by
      intro j;by_cases hj:j<k
      ·rw[hpre j ((VJ hcut (show j<(Ai ops).n from(by show j<ops.size;omega))).1 hj)];simp[hj]
      ·rw[hbk j o_];simp[hj]
     have hv:RG F G (σb.view (Ai ops) ((Ai ops).bit k)) a w:=Ma h λj hj=>hpre j hj
     obtain⟨σr,wanted,hg,hh⟩:=ET hh;have hw:=hg.wanted_ok hv;have hr:=hg.retold hv hv;have next:∀ (σ':St) (G':Gh) (a':Act) (w':World),RG F G' σ' a' w'->(evR P E ops (Ai ops) true (List.range' (k+1) (ops.size-(k+1))) σ' K).holds Q->wpAny P .any ops (λe a w=>e=.normal/\Lq F K Q a w) f (listed.setIfInBounds k true) a' w':=by
      intro σ' G' a' w' h' hh';obtain⟨b',σb',k1,k2,k3,k4⟩:=Q6 (ops.size-(k+1)) (k+1) true σ' hh';rw[show k+1+(ops.size-(k+1))=ops.size from o_] at k2 k4;obtain⟨l1,l2,l3⟩:=k1.later;have hS:∀ j,(listed.setIfInBounds k true).getD j false=decide (j<k+1):=by
       intro j;rw[hget,hall];by_cases h1:j<k
       ·simp[h1,show j<k+1 from o_]
       ·by_cases h2:j=k
        ·simp[h2]
        ·simp[h1,h2,show ¬ j<k+1 from o_]
      have hge:∀ j,(listed.setIfInBounds k true).getD j false=false->k+1<=j:=by intro j hj;rw[hS] at hj;simpa using hj
      refine ih b' σb' G' a' w' _ (by simp[hsz]) (λj hj hj2=>l3 j (hge j hj2) hj) k2 (λj hj hj2=>k3.resolve_right (by grind)) k4 (Pa h' (λj hj=>?_) l2) hcl' (λj hj=>by rw[hS];simp;omega) hu';have:=hS j;rw[this] at hj;simpa using hj
     unfold wpOp;rw[ho];dsimp only;rw[hw];cases wanted with
     | true=>
      obtain⟨G2,hr2⟩:=TE hr;exact .inl (Oper.wp_mono (λa1 w1 ⟨σ1,⟨G1,h1⟩,hh1⟩=>next σ1 G1 a1 w1 h1 hh1) (QE (cls:=false) hE hr2 hh))
     | false=>
      exact next _ G _ w (hr.skip o.dst) hh
    ·-- a cursor's call: all that comes later stands behind it
     have hkb':k=b:=by
      rcases Nat.lt_or_ge b k with hlt|hge
      ·have hb2:(Ai ops).bit k b=true:=by
        unfold Alj at hsemi;rw[aH] at hsemi;have:=hsemi k (eA.2 (show k<(Ai ops).n from hkn));have h2:¬ k<=b:=o_
        simpa [h2] using this
       have:=hpre b hb2;rw[hbk b (Y_ _)] at this;cases this
      ·omega
     subst hkb';rw[ho] at hob;injection hob with hob
     subst hob;have hlt:∀ j,listed.getD j false=true->j<k:=by
      intro j hj;rcases Nat.lt_or_ge j k with h1|h1
      ·exact h1
      ·rw[hbk j h1] at hj;cases hj
     refine AhC hE hd ho hcls hc hkl hlt hpre h (f:=λσ1=>evR P E ops (Ai ops) false (List.range' (k+1) (ops.size-(k+1))) σ1 K) (X:=λσ1 σb'=>∃ b',Seg P E ops (k+1) σ1 b' σb'/\b'<=ops.size/\Q1 P E ops K Q ops.size b' σb') (λσ1 hq=>?_) hh ?_
     ·obtain⟨b',σb',k1,k2,k3,k4⟩:=Q6 (ops.size-(k+1)) (k+1) false σ1 hq;rw[show k+1+(ops.size-(k+1))=ops.size from o_] at k2 k4;exact⟨σb',⟨b',k1,k2,k4⟩,k1.later.2.1,k3.resolve_right (by simp)⟩
     ·intro σ1 σb' a' w' G' ⟨b',k1,k2,k4⟩ l1 l2 hs2 h';obtain⟨m1,_,m3⟩:=k1.later;refine ih b' σb' G' a' w' _ (by simp[hsz]) (λj hj hj2=>?_) k2 (λj hj hj2=>hs2) k4 (by grind) hcl' (λj hj=>?_) hu'
      ·obtain⟨hj3,hne⟩:=hold j hj2;rcases Nat.lt_or_ge j k with h1|h1
       ·obtain⟨σj,σj1,hf,hl⟩:=hops j h1 hj3;exact⟨σj,σj1,hf,hl.trans ((l1.trans (l2.mono (Nat.le_succ k))).mono o_)⟩
       ·exact m3 j o_ hj
      ·rw[hget,hbk j o_];have:¬ j=k:=o_
       simpa using this
def TV.weak:TV->TV
 | .capd l _=>.v false [.ref l]
 | x=>x
def St.weak (σ:St):St:=σ.map id TV.weak
def RG.weak (h:RG F G σ a w):RG F G σ.weak a w:=h.map (λ_ _ h=>h) (λx v h=>by
 cases x<;>first|exact h|exact⟨_,rfl,h.1⟩)
def Qq (P:Program) (E:Env) (ops:Array Oper) (σ:St) (K:St->Out):Out :=
 bif P.follows .mixedOrders&&IK ops then evR P E ops (Ai ops) true (List.range' 0 ops.size) σ (λσ'=>K σ'.weak.lits) else .bad
def Oe (hE:EOk P E) (h:RG F G σ a w) (hh:(Qq P E ops σ K).holds Q):P.follows .mixedOrders=true/\wpAny P .any ops (λe a w=>e=.normal/\Lq F (λσ'=>K σ'.weak.lits) Q a w) ops.size (Array.replicate ops.size false) a { w with drawn:=w.drawn+1 }:=by
 unfold Qq at hh;cases hc:(P.follows .mixedOrders&&IK ops) with
 | false=>simp[hc,Out.holds] at hh
 | true=>
  simp only[hc,aO] at hh;rw[S_] at hc;obtain⟨b,σb,k1,k2,k3,k4⟩:=Q6 ops.size 0 true σ hh;rw[cE] at k2 k4;have h0:RG F G σ a { w with drawn:=w.drawn+1 }:=h.world ⟨rfl,rfl,⟨rfl,by first|exact DrLe.refl _|exact DrLe.succ _|exact DrLe.add _ _⟩,Y_ _⟩ λ_ _=>rfl
  have hf:∀ k,(Array.replicate ops.size false).getD k false=false:=λk=>by by_cases hk:k<ops.size<;>simp[hk]
  refine⟨hc.1,Akl (K:=λσ'=>K σ'.weak.lits) hE hc.2 ops.size b σb G a _ _ (by simp) (λk hk _=>k1.later.2.2 k (Nat.zero_le _) hk) k2 (λk hk _=>k3.resolve_right o_) k4 (Pa h0 (λk hk=>by rw[hf] at hk;cases hk) k1.later.2.1) (λk hk=>by grind) (λk _=>hf k) ?_⟩;have:∀ n,unl (λk=>(Array.replicate ops.size false).getD k false) n<=n:=by
   intro n
   induction n with
   | zero=>exact Y_ _
   | succ n ih=>simp only[unl];split<;>omega
  exact this _
def Aia:Md->Bool
 | .cur=>true
 | _=>false
def Ael (E:Env) (o:Oper):Bool:=match o.op with
 | .call c=>match c.callee with
  | .value (.func g)=>match E.fn g with
   | some (ms,_)=>ms.any Aia
   | none=>false
  | _=>false
 | _=>false
def Alo (E:Env) (ops:Array Oper):Option (List Nat) :=
 match (List.range ops.size).filter λi=>Ael E (ops.getD i default) with
 | []=>none
 | cs=>some ((List.range (2*cs.length+2)).flatMap λkey=>(List.range ops.size).filter λk=>key==2*(cs.filter λi=>(Ai ops).bit k i).length+(bif cs.contains k then 1 else 0))
def UA (P:Program) (E:Env) (ops:Array Oper) (σ:St) (K:St->Out):Out :=
 match Alo E ops with
 | none=>Qq P E ops σ K
 | some ord=>bif C8 ops.size ord then Qq P E (DG ops ord) σ K else .bad
def XZ (hE:EOk P E) (h:RG F G σ a w) (hh:(UA P E ops σ K).holds Q):P.follows .mixedOrders=true /\
 wpAny P .any ops (λe a w=>e=.normal/\Lq F (λσ'=>K σ'.weak.lits) Q a w) ops.size (Array.replicate ops.size false) a { w with drawn:=w.drawn+1 }:=by
 unfold UA at hh;split at hh
 ·exact Oe hE h hh
 ·rename_i ord _;cases hp:C8 ops.size ord with
  | false=>rw[hp] at hh;exact hh.elim
  | true=>
   rw[hp,aO] at hh;obtain⟨h1,h2⟩:=Oe hE h hh;rw[H0 hp] at h2;exact⟨h1,On hp _ _ _ _ _ (by simp) (by simp) (λj=>by
    have:∀ k,(Array.replicate ops.size false).getD k false=false:=λk=>by by_cases hk:k<ops.size<;>simp[hk]
    rw[this,this]) h2⟩
end
end Go.D
namespace Go.D
section
variable {P:Program} {E:Env} {F:Fr P} {G G':Gh} {σ σ' σb:St} {a a':Act} {w w':World} {o:Oper} {K:St->Out} {Q:Post} {R:Exit->Act->World->Prop} {ops:Array Oper}
def AhT (ops:Array Oper):Array Bool->List Nat->Prop
 | listed,[]=>Region.ready .any ops listed=[]
 | listed,i::L=>i∈Region.ready .any ops listed/\AhT ops (listed.setIfInBounds i true) L
def Ah6 (P:Program) (ops:Array Oper) (R:Exit->Act->World->Prop) (a:Act) (w:World):Prop:=∀ L,AhT ops (Array.replicate ops.size false) L->wpOps P ops R L a w
def So:∀ (f:Nat) (listed:Array Bool) (a:Act) (w:World),wpAny P .any ops R f listed a w->∀ L,AhT ops listed L->wpOps P ops R L a w:=by
 intro f
 induction f with
 | zero=>
  intro listed a w h L hv;cases L with
  | nil=>exact h.2
  | cons i L=>
   have:=hv.1;rw[h.1] at this;cases this
 | succ f ih=>
  intro listed a w h L hv;cases L with
  | nil=>exact h.1 hv
  | cons i L=>
   rw[wpOps_cons];exact wpOp_mono (λa' w' h'=>ih _ a' w' h' L hv.2) (h.2 i hv.1)
def Oq {i k:Nat} {listed:Array Bool} (hs:listed.size=ops.size) (j:Nat):j∈Region.ready .any (KN ops i k) listed↔(j∈Region.ready .any ops listed/\(j=i->listed.getD k false=true)):=by
 rw[BO (ops:=KN ops i k) (by rw[HB,hs]),BO hs];constructor
 ·rintro⟨o,ho,h1,h2⟩;cases hoj:ops[j]? with
  | none=>rw[JP hoj] at ho;cases ho
  | some o'=>
   rw[IA hoj] at ho;injection ho with ho
   by_cases e:j=i
   ·rw[G_ e] at ho;subst ho;exact⟨⟨o',rfl,h1,λx hx=>h2 x (GD.2 (.inl hx))⟩,λ_=>h2 k (GD.2 (.inr rfl))⟩
   ·simp_all
 ·rintro⟨⟨o,ho,h1,h2⟩,h3⟩;refine⟨_,IA ho,h1,λx hx=>?_⟩;by_cases e:j=i
  ·rw[G_ e] at hx;rcases GD.1 hx with hx|hx
   ·exact h2 x hx
   ·rw[hx];exact h3 e
  ·simp_all
def Aeb (k i:Nat):List Nat->Prop
 | []=>True
 | j::L=>j=k\/(j≠i/\Aeb k i L)
def W3 (k i:Nat):∀ L:List Nat,Aeb k i L\/Aeb i k L
 | []=>.inl trivial
 | j::L=>by
  by_cases h1:j=k
  ·exact .inl (.inl h1)
  ·by_cases h2:j=i
   ·exact .inr (.inl h2)
   ·rcases W3 k i L with h|h
    ·exact .inl (.inr ⟨h2,h⟩)
    ·exact .inr (.inr ⟨h1,h⟩)
def SG {i k:Nat} (hik:i≠k):∀ (L:List Nat) (listed:Array Bool),listed.size=ops.size->AhT ops listed L->(listed.getD k false=true\/Aeb k i L)->AhT (KN ops i k) listed L:=by
 intro L
 induction L with
 | nil=>
  intro listed hs hv _;refine List.eq_nil_iff_forall_not_mem.2 λj hj=>?_
  have:=((Oq hs j).1 hj).1;rw[hv] at this;cases this
 | cons j L ih=>
  intro listed hs hv hk;have hjl:j<listed.size:=by obtain⟨o,ho,_⟩:=(BO hs).1 hv.1;grind
  refine⟨(Oq hs j).2 ⟨hv.1,λe=>?_⟩,ih _ (by simp[hs]) hv.2 ?_⟩
  ·rcases hk with hk|hk|hk
   ·exact hk
   ·omega
   ·exact absurd e hk.1
  ·rcases hk with hk|hk|hk
   ·exact .inl (by rw[DM hjl,hk];rfl)
   ·simp_all
   ·exact .inr hk.2
def Kl {i k:Nat}:∀ (L:List Nat) (a:Act) (w:World),wpOps P (KN ops i k) R L a w->wpOps P ops R L a w
 | [],_,_,h=>h
 | j::L,a,w,h=>by rw[wpOps_cons] at h ⊢;exact wpOp_mono (λa' w'=>Kl L a' w') (Jw h)
def XM {i k:Nat} (hik:i≠k) (h1:Ah6 P (KN ops i k) R a w) (h2:Ah6 P (KN ops k i) R a w):Ah6 P ops R a w:=by
 intro L hv;unfold Ah6 at h1 h2;rw[HB] at h1 h2;rcases W3 k i L with h|h
 ·exact Kl L a w (h1 L (SG hik L _ (by simp) hv (.inr h)))
 ·exact Kl L a w (h2 L (SG (Ne.symm hik) L _ (by simp) hv (.inr h)))
def Aib:∀ (f t:Nat) (listed:Array Bool),listed.size=ops.size->unl (λk=>listed.getD k false) ops.size<=f->AhT ops listed (Region.linearise.go .any ops f t listed []):=by
 intro f
 induction f with
 | zero=>
  intro t listed hs hu;have hall:=Vn (Nat.le_zero.1 hu);refine List.eq_nil_iff_forall_not_mem.2 λj hj=>?_
  obtain⟨o,ho,h1,_⟩:=(BO hs).1 hj;grind
 | succ f ih=>
  intro t listed hs hu;simp only[Region.linearise.go]
  change AhT ops listed (match (Region.ready .any ops listed)[t % (Region.ready .any ops listed).length]? with
   | some i=>Region.linearise.go .any ops f (t / (Region.ready .any ops listed).length) (listed.setIfInBounds i true) [i]
   | none=>[].reverse)
  cases hi:(Region.ready .any ops listed)[t % (Region.ready .any ops listed).length]? with
  | none=>
   show Region.ready .any ops listed=[];cases hr:Region.ready .any ops listed with
   | nil=>rfl
   | cons x xs=>
    rw[hr] at hi;have hlt:t % (x::xs).length<(x::xs).length:=Nat.mod_lt _ (by simp);grind
  | some i=>
   simp only[];rw[linearise_go_acc,List.reverse_singleton,List.singleton_append];have hm:=fY hi;refine⟨hm,ih _ _ (by simp[hs]) ?_⟩;obtain⟨o,ho,h1,_⟩:=(BO hs).1 hm;have hlt:=(Array.getElem?_eq_some_iff.1 ho).1;rw[show(λk=>(listed.setIfInBounds i true).getD k false)=λk=>listed.getD k false||k==i from funext λk=>DM o_];have:=(Adn (S:=λk=>listed.getD k false) h1 (n:=ops.size)).2 hlt;omega
def U8 {id:Nat} (hm:P.follows .mixedOrders=true) (h:Ah6 P ops R a { w with drawn:=w.drawn+1 }):(Code.region id ops true).wp P R a w :=
 wp_region_draw λt=>by
  simp only[Region.schedule,hm,Bool.true_or,aC];refine h _ (Aib ops.size t _ (by simp) ?_);have:∀ n,unl (λk=>(Array.replicate ops.size false).getD k false) n<=n:=by
   intro n
   induction n with
   | zero=>exact Y_ _
   | succ n ih=>simp only[unl];split<;>omega
  exact this _
def Wo (ops:Array Oper):Nat->List Nat->List Nat
 | 0,done=>done
 | f+1,done=>match (List.range ops.size).find? (λj=>!done.contains j&&(Qu (ops.getD j default)).all λe=>done.contains e) with
  | some j=>Wo ops f (done++[j])
  | none=>done
def Ai1 (P:Program) (E:Env) (ops:Array Oper) (σ:St) (K:St->Out):Out:=UA P E (T3 ops (AhW ops)) σ K
def WX (P:Program) (E:Env) (ops:Array Oper) (σ:St) (K:St->Out):Out :=
 bif IK ops then Ai1 P E ops σ K else bif C8 ops.size (Wo ops ops.size []) then Ai1 P E (DG ops (Wo ops ops.size [])) σ K else .bad
def Agh (ops:Array Oper):Nat->List Nat->List Nat
 | 0,T=>T
 | f+1,T=>Agh ops f (ops.toList.map λo=>Lf T (Qu o))
def Aji (ops:Array Oper):Option (Nat×Nat) :=
 let st:=(List.range ops.size).filter λi=>Aly (ops.getD i default)
 bif st.isEmpty then none else
  let T:=Agh ops ops.size []
  (st.flatMap λb=>((List.range ops.size).filter λu=>!(Anf (ops.getD u default)||AjY (ops.getD u default))).map λu=>(b,u)).find? λx=>!(x.1==x.2) && !(T.getD x.1 0).testBit x.2 && !(T.getD x.2 0).testBit x.1
def NT (P:Program) (E:Env):Nat->Array Oper->St->(St->Out)->Out
 | 0,ops,σ,K=>WX P E ops σ K
 | f+1,ops,σ,K=>match Aji ops with
  | none=>WX P E ops σ K
  | some (b,u)=>bif b==u then .bad else .lp Bool True (λ_=>True) λy=>.br y (NT P E f (KN ops b u) σ K) (NT P E f (KN ops u b) σ K)
def AgU (P:Program) (E:Env) (ops:Array Oper) (σ:St) (K:St->Out):Out:=NT P E 6 ops σ K
def I3 (n k:Nat):(Array.replicate n false).getD k false=false:=by by_cases hk:k<n<;>simp[hk]
def Vv (hE:EOk P E) (h:RG F G σ a w) (hh:(Ai1 P E ops σ K).holds Q):P.follows .mixedOrders=true /\
 wpAny P .any ops (λe a w=>e=.normal/\Lq F (λσ'=>K σ'.weak.lits) Q a w) ops.size (Array.replicate ops.size false) a { w with drawn:=w.drawn+1 }:=by
 obtain⟨h1,h2⟩:=XZ hE h hh;rw[KL] at h2;exact⟨h1,Mr (λ_ _ _ h=>h.1) _ _ _ _ _ _ (by simp) (λk hk=>by rw[I3] at hk;cases hk) h2⟩
def Rx (hE:EOk P E) (h:RG F G σ a w) (hh:(WX P E ops σ K).holds Q):P.follows .mixedOrders=true /\
 Ah6 P ops (λe a w=>e=.normal/\Lq F (λσ'=>K σ'.weak.lits) Q a w) a { w with drawn:=w.drawn+1 }:=by
 unfold WX at hh;cases hd:IK ops with
 | true=>
  rw[hd,aO] at hh;obtain⟨h1,h2⟩:=Vv hE h hh;exact⟨h1,So _ _ _ _ h2⟩
 | false=>
  rw[hd,cA] at hh;cases hp:C8 ops.size (Wo ops ops.size []) with
  | false=>rw[hp] at hh;exact hh.elim
  | true=>
   rw[hp,aO] at hh;obtain⟨h1,h2⟩:=Vv hE h hh;rw[H0 hp] at h2;exact⟨h1,So _ _ _ _ (On hp _ _ _ _ _ (by simp) (by simp) (λj=>by rw[I3,I3]) h2)⟩
def Xu (hE:EOk P E) (h:RG F G σ a w):∀ (f:Nat) (ops:Array Oper),(NT P E f ops σ K).holds Q->P.follows .mixedOrders=true /\
 Ah6 P ops (λe a w=>e=.normal/\Lq F (λσ'=>K σ'.weak.lits) Q a w) a { w with drawn:=w.drawn+1 }:=by
 intro f
 induction f with
 | zero=>intro ops hh;exact Rx hE h hh
 | succ f ih=>
  intro ops hh;unfold NT at hh;split at hh
  ·exact Rx hE h hh
  ·rename_i b u _;cases hb:(b==u) with
   | true=>rw[hb] at hh;exact hh.elim
   | false=>
    rw[hb,cA] at hh;obtain⟨h1,h2⟩:=ih _ ((hh.2 true trivial).1 rfl);obtain⟨_,h3⟩:=ih _ ((hh.2 false trivial).2 rfl);exact⟨h1,XM (by simpa using hb) h2 h3⟩
def Aaq {id:Nat} (hE:EOk P E) (h:RG F G σ a w) (hh:(AgU P E ops σ K).holds Q):(Code.region id ops true).wp P (λe a w=>e=.normal/\Lq F K Q a w) a w:=by
 obtain⟨h1,h2⟩:=Xu hE h 6 ops hh;refine Code.wp_mono (λe a w ⟨he,σ',⟨G',h'⟩,hh'⟩=>?_) (U8 h1 h2);obtain⟨G2,h2⟩:=TE h'.weak;exact⟨he,σ'.weak.lits,⟨G2,h2⟩,hh'⟩
end
end Go.D
namespace Go.D
inductive Sh where
 | el (t:Ty)
 | sl (t:Ty)
abbrev Sh.X:Sh->Type
 | .el t=>El t
 | .sl t=>List (El t)
def Sh.fc:(s:Sh)->s.X->List FC
 | .el t,x=>enc t x
 | .sl t,xs=>[.l t xs]
def Sh.dec:(s:Sh)->List FC->Option s.X
 | .el t,ds=>D.dec t ds
 | .sl t,[c]=>Alk t c
 | .sl _,_=>none
def Ty.agg:Ty->Bool
 | .int=>false
 | .str=>false
 | .bool=>false
 | .u8=>false
 | _=>true
def Sh.agg:Sh->Bool
 | .el t=>t.agg
 | .sl _=>false
def Sh.dec_ok {s:Sh} {ds:List FC} {x:s.X} (h:s.dec ds=some x):FcsLe ds (s.fc x):=by
 cases s with
 | el t=>exact D.dec_ok t ds x h
 | sl t=>
  cases ds with
  | nil=>simp[Sh.dec] at h
  | cons c ds=>
   cases ds with
   | nil=>exact .cons (Abg h) .nil
   | cons d ds=>simp[Sh.dec] at h
def AfH (t:Ty):t.width<=64:=by cases t<;>decide
def Sh.fc_len (s:Sh) (x:s.X):(s.fc x).length<=64:=by
 cases s with
 | el t=>rw[Sh.fc,K1];exact AfH t
 | sl t=>simp[Sh.fc]
inductive Pk where
 | s
 | b
 | t
structure Vr where
 k:Pk
 p:Nat
 own:Bool
 sh:Sh
abbrev Xs:List Vr->Type
 | []=>Unit
 | v::vs=>v.sh.X×Xs vs
def Vr.cells (v:Vr) (σ:St):Option (List Cell) :=
 match v.k with
 | .b=>look σ.bx v.p
 | .s=>match look σ.tm v.p with
  | some (.v agg cs)=>bif agg==v.sh.agg then some cs else none
  | _=>none
 | .t=>none
def Sh.ofTree:(s:Sh)->Tree->Option s.X
 | .sl t,T=>if h:T.t=t then some (h▸T.xs) else none
 | .el _,_=>none
def Sh.toTree:(s:Sh)->s.X->Tree
 | .sl t,xs=>⟨t,xs⟩
 | .el t,x=>⟨t,[x]⟩
def Sh.tree_ok {s:Sh} {T:Tree} {x:s.X} (h:s.ofTree T=some x):s.toTree x=T:=by
 cases s with
 | el t=>simp[Sh.ofTree] at h
 | sl t=>
  obtain⟨t',xs⟩:=T;simp only[Sh.ofTree] at h;split at h
  ·rename_i e;subst e;simp only[Q_] at h;subst h;rfl
  ·cases h
def Vr.isT (v:Vr):Bool:=match v.k with
 | .t=>true
 | _=>false
def Vr.grab (v:Vr) (σ:St):Option (v.sh.X×List Nat) :=
 match v.isT with
 | true=>match look σ.hp v.p with
  | some T=>match v.sh.ofTree T with
   | some x=>some (x,[])
   | none=>none
  | none=>none
 | false=>match v.cells σ with
 | some cs=>match v.own with
  | true=>match Pm σ cs with
   | some (ds,ab)=>match v.sh.dec ds with
    | some x=>some (x,ab)
    | none=>none
   | none=>none
  | false=>match Fi cs with
   | some ds=>match v.sh.dec ds with
    | some x=>some (x,[])
    | none=>none
   | none=>none
 | none=>none
def Kn (σ:St):(vs:List Vr)->Option (Xs vs×List Nat)
 | []=>some ((),[])
 | v::vs=>match v.grab σ,Kn σ vs with
  | some (x,ab),some (xs,ab')=>some ((x,xs),ab++ab')
  | _,_=>none
def Vr.q (v:Vr):Nat:=v.p+1000000
def Vr.to (v:Vr) (x:v.sh.X):List Cell:=bif v.own then B4 (64*v.q) (v.sh.fc x) else(v.sh.fc x).map (toCell none)
def Vr.set (v:Vr) (x:v.sh.X) (σ:St):St :=
 let σ1:={ σ with hp:=(bif v.own then Eg (64*v.q) (v.sh.fc x) else[])++σ.hp }
 match v.k with
 | .b=>{ σ1 with bx:=(v.p,v.to x)::σ1.bx }
 | .s=>{ σ1 with tm:=(v.p,.v v.sh.agg (v.to x))::σ1.tm }
 | .t=>{ σ with hp:=(v.p,v.sh.toTree x)::σ.hp }
def Fq (σ:St):(vs:List Vr)->Xs vs->St
 | [],_=>σ
 | v::vs,x=>v.set x.1 (Fq σ vs x.2)
def Cell.memfree (hs:List Nat):Cell->Bool
 | .sc _=>true
 | .tt=>true
 | .ff=>true
 | .nil=>true
 | .im none _ _=>true
 | .ref l=>hs.contains l
 | .sub l _ _ _=>hs.contains l
 | _=>false
def TV.memfree (hs:List Nat):TV->Bool
 | .v _ cs=>cs.all (·.memfree hs)
 | .ptr _ _=>true
 | .sptr none _ _ _=>true
 | .aptr _ _=>true
 | .clo _ _=>true
 | .cur=>true
 | .dead=>true
 | _=>false
def pOf:List Vr->List Nat
 | []=>[]
 | v::vs=>bif v.isT then pOf vs else v.q::pOf vs
def hOf:List Vr->List Nat
 | []=>[]
 | v::vs=>bif v.isT then v.p::hOf vs else hOf vs
def Ix (σ:St) (vs:List Vr) (ab:List Nat):Bool :=
 AE ab&&AE (pOf vs)&&Sm σ.fl (λm=>(pOf vs).contains (m / 64))&&(hOf vs).all λl=>!(pOf vs).contains (l / 64) && !ab.contains l
section
variable {P:Program} {E:Env} {F:Fr P} {G G':Gh} {σ σ' σb:St} {a a':Act} {w w':World} {o:Oper} {K:St->Out} {Q:Post} {Qx:Exit->Act->World->Prop}
def Lj {hs:List Nat} {c:Cell} (h:c.memfree hs=true):(∀ m,c.refs m=true->m∈hs)/\∀ m,c.mems m=false:=by
 cases c with
 | im s t xs=>cases s with
  | none=>exact⟨λm hm=>by simp[Cell.refs] at hm,λ_=>rfl⟩
  | some l=>simp[Cell.memfree] at h
 | ref l=>exact⟨λm hm=>by simp[Cell.refs] at hm;subst hm;simpa [Cell.memfree] using h,λ_=>rfl⟩
 | sub l k lo n=>exact⟨λm hm=>by simp[Cell.refs] at hm;subst hm;simpa [Cell.memfree] using h,λ_=>rfl⟩
 | dead=>simp[Cell.memfree] at h
 | _=>exact⟨λm hm=>by simp[Cell.refs] at hm,λ_=>rfl⟩
def Og {hs:List Nat} {x:TV} (h:x.memfree hs=true):(∀ m,x.refs m=true->m∈hs)/\∀ m,x.mems m=false:=by
 cases x with
 | v agg cs=>
  refine⟨λm hm=>?_,λm=>?_⟩
  ·obtain⟨c,hc,hr⟩:=bw.1 (show cs.any (·.refs m)=true from hm);exact(Lj (aH.1 h c hc)).1 m hr
  ·simp only[TV.mems,List.any_eq_false];intro c hc;rw[(Lj (aH.1 h c hc)).2 m];simp
 | inn l k i off t xs=>simp[TV.memfree] at h
 | nptr l k i off t xs i2 o2=>simp[TV.memfree] at h
 | app l e j tt ts t xs=>simp[TV.memfree] at h
 | capd l c=>simp[TV.memfree] at h
 | sptr s t x off=>cases s with
  | none=>exact⟨λm hm=>by simp[TV.refs] at hm,λ_=>rfl⟩
  | some l=>simp[TV.memfree] at h
 | tup ps=>simp[TV.memfree] at h
 | eptr l k i off=>simp[TV.memfree] at h
 | _=>exact⟨λm hm=>by simp[TV.refs] at hm,λ_=>rfl⟩
def Vr.At (v:Vr) (G:Gh) (a:Act) (w:World) (us:List Value):Prop :=
 match v.k with
 | .t=>True
 | .b=>G.ow (G.be v.p)=.box v.p/\∃ r e,w.heap[G.be v.p]? = some (.cells r e (0,0))/\r.toList=us
 | .s=>∀ (G':Gh) (w':World) (ds:List Cell),ds.length=us.length->(∀ (j:Nat) (c:Cell) (u:Value),ds[j]? = some c->us[j]? = some u->CellR w' G' c u)->TVR w' G' (.v v.sh.agg ds) (a.tmps.getD v.p undef)
def Aey (h:RG F G σ a w) {v:Vr} {cs:List Cell} (hc:v.cells σ=some cs):∃ us:List Value,us.length=cs.length/\v.At G a w us/\∀ (j:Nat) (c:Cell) (u:Value),cs[j]? = some c->us[j]? = some u->CellR w G c u:=by
 obtain⟨bx,p,own,sh⟩:=v;unfold Vr.cells at hc;cases bx with
 | t=>cases hc
 | b=>
  dsimp only at hc;obtain⟨h1,r,e,h2,h3⟩:=h.bx p cs hc;refine⟨r.toList,by simpa using h3.1,⟨h1,r,e,h2,rfl⟩,λj c u hj hu=>?_⟩;obtain⟨u',hu',hr⟩:=h3.2 j c hj;simp_all
 | s=>
  dsimp only at hc;split at hc
  ·rename_i agg cs' hl;cases ha:(agg==sh.agg) with
   | false=>simp[ha] at hc
   | true=>
    simp only[ha,aO,Q_] at hc;subst hc;have ha':agg=sh.agg:=by simpa using ha
    have hx:=h.tm p _ hl;cases agg with
    | false=>
     obtain⟨c,rfl,hcr⟩:=hx;refine⟨[a.tmps.getD p undef],rfl,λG' w' ds hl' hds=>?_,λj c' u hj hu=>?_⟩
     ·obtain⟨d,rfl⟩:=eo.1 hl';show TVR w' G' (.v sh.agg [d]) _;rw[<-ha'];exact⟨d,rfl,hds 0 d _ rfl rfl⟩
     ·grind
    | true=>
     obtain⟨vs,hv,hs,hcr⟩:=hx;refine⟨vs.toList,by simpa using hs,λG' w' ds hl' hds=>?_,λj c u hj hu=>?_⟩
     ·show TVR w' G' (.v sh.agg ds) (a.tmps.getD p undef);rw[<-ha',hv];refine⟨vs,rfl,by simpa using hl'.symm,λj c hj=>?_⟩;have hlt:j<vs.size:=by grind
      exact⟨vs[j],by simp[hlt],hds j c vs[j] hj (by simp[hlt])⟩
     ·grind
  ·cases hc
end
end Go.D
namespace Go.D
section
variable {P:Program} {E:Env} {F:Fr P} {G G1 G':Gh} {σ σ' σb:St} {a a':Act} {w w':World} {o:Oper} {K:St->Out} {Q:Post} {Qx:Exit->Act->World->Prop}
def RG.consTm (h:RG F G σ a w) {p:Nat} {x:TV} (hx:TVR w G x (a.tmps.getD p undef)):RG F G { σ with tm:=(p,x)::σ.tm } a w:=by
 refine⟨?_,h.bx,h.hp,h.lt,h.os,h.tape,h.output,h.size,h.keep,h.fb,h.fl,h.nt,h.df⟩;intro t tv hl;simp only[look] at hl;split at hl
 ·simp_all
 ·exact h.tm t tv hl
def RG.consBx (h:RG F G σ a w) {b:Nat} {cs:List Cell} {r:Array Value} {e:TypeId} (h1:G.ow (G.be b)=.box b) (h2:w.heap[G.be b]? = some (.cells r e (0,0))) (h3:AP w G cs r):RG F G { σ with bx:=(b,cs)::σ.bx } a w:=by
 refine⟨h.tm,?_,h.hp,h.lt,h.os,h.tape,h.output,h.size,h.keep,h.fb,h.fl,h.nt,h.df⟩;intro t cs' hl;simp only[look] at hl;split at hl
 ·simp_all
 ·exact h.bx t cs' hl
structure PlaceFact (G:Gh) (a:Act) (w:World) (v:Vr) (x:v.sh.X) (ab:List Nat) (us:List Value) (Fs:Nat->Nat->Prop):Prop where
 len:us.length=(v.sh.fc x).length
 at_:v.At G a w us
 own:v.own=true->∀ (j:Nat) (c:FC) (u:Value),(v.sh.fc x)[j]? = some c->us[j]? = some u->TO w (fcC c) u (Fs j)/\u.oneCell'=true
 bor:v.own=false->∀ (j:Nat) (c:FC) (u:Value),(v.sh.fc x)[j]? = some c->us[j]? = some u->TR w (src G none) (fcC c) u
 lab:∀ j b,Fs j b->∃ m,m∈ab/\G.ow b=.lab m
 dis:∀ j j' b,Fs j b->Fs j' b->j=j'
def ZY (h:RG F G σ a w) {v:Vr} {x:v.sh.X} {ab:List Nat} (hT:v.isT=false) (hg:v.grab σ=some (x,ab)):∃ us Fs,PlaceFact G a w v x ab us Fs:=by
 unfold Vr.grab at hg;rw[hT] at hg;dsimp only at hg;split at hg
 ·rename_i cs hcs;obtain⟨us,u1,u2,u3⟩:=Aey h hcs;split at hg
  ·rename_i how;split at hg
   ·rename_i ds ab' hl;split at hg
    ·rename_i y hd;simp only[Q_,bP] at hg;obtain⟨rfl,rfl⟩:=hg;obtain⟨l1,l2,l3,l4⟩:=NI h cs ds ab' hl;obtain⟨k1,k2⟩:=(Sh.dec_ok hd).get;refine⟨us,λj b=>∃ c m,cs[j]? = some c/\AI c m/\G.ow b=.lab m,by rw[u1,<-k1,l1],u2,λ_ j c u hc hu=>?_,(λhf=>by rw[how] at hf;cases hf),?_,?_⟩
     ·have hlt:j<cs.length:=by rw[<-u1];exact(List.getElem?_eq_some_iff.1 hu).1
      have hcj:=aG hlt;have hr:=u3 j _ u hcj hu;have ht:=l2 j _ u hcj hr;have hle:=(k2 j).le;have hd':(v.sh.fc y).getD j .nl=c:=by simp[List.getD,hc]
      rw[hd'] at hle;exact⟨(TO.le hle ht).frame λb hb _=>⟨rfl,let ⟨m,h1,h2⟩:=hb;⟨_,m,hcj,h1,h2⟩⟩,hr.one⟩
     ·rintro j b ⟨c,m,hc,hm,hb⟩;exact⟨m,l3 j c m hc hm,hb⟩
     ·rintro j j' b ⟨c,m,hc,hm,hb⟩ ⟨c',m',hc',hm',hb'⟩;rw[hb] at hb';injection hb' with e
      subst e;exact l4 j j' c c' m hc hc' hm hm'
    ·cases hg
   ·cases hg
  ·rename_i how;split at hg
   ·rename_i ds hl;split at hg
    ·rename_i y hd;simp only[Q_,bP] at hg;obtain⟨rfl,rfl⟩:=hg;obtain⟨l1,l2⟩:=HM (w:=w) (G:=G) cs ds hl;obtain⟨k1,k2⟩:=(Sh.dec_ok hd).get;refine⟨us,λ_ _=>False,by rw[u1,<-k1,l1],u2,(λhf=>by rw[how] at hf;cases hf),λ_ j c u hc hu=>?_,(λj b hb=>hb.elim),λj j' b hb=>hb.elim⟩;have hlt:j<cs.length:=by rw[<-u1];exact(List.getElem?_eq_some_iff.1 hu).1
     have hcj:=aG hlt;have ht:=l2 j _ u hcj (u3 j _ u hcj hu);have hle:=(k2 j).le;have hd':(v.sh.fc y).getD j .nl=c:=by simp[List.getD,hc]
     rw[hd'] at hle;exact TR.le hle ht
    ·cases hg
   ·cases hg
 ·cases hg
def QG {l r:List Nat} (h:AE (l++r)=true):AE l=true/\AE r=true/\∀ m,m∈l->m∉r:=by
 induction l with
 | nil=>exact⟨rfl,h,by simp⟩
 | cons x l ih=>
  simp only[cj,AE,S_,cM,List.contains_eq_mem,cy,ae,not_or] at h ⊢;simp_all
def Yu {c:FC} {m:Nat}:(toCell none c).refs m=false:=by cases c<;>rfl
def AaX {v:Vr} {x:v.sh.X} {l:Nat} (hl:l / 64≠v.q):(v.to x).any (·.refs l)=false:=by
 cases hq:(v.to x).any (·.refs l) with
 | false=>rfl
 | true=>
  exfalso;obtain⟨c,hc,hr⟩:=bw.1 hq;obtain⟨j,hj⟩:=List.mem_iff_getElem?.1 hc;unfold Vr.to at hj;cases hown:v.own with
  | true=>
   simp only[hown,aO] at hj;have h1:=(KF _ _ _ _ hj).1 l hr;have h2:=Sh.fc_len v.sh x;omega
  | false=>
   simp only[hown,cA,cp] at hj;cases hq':(v.sh.fc x)[j]? with
   | none=>simp[hq'] at hj
   | some d=>
    simp only[hq',aY,Q_] at hj;subst hj;rw[Yu] at hr;cases hr
def Ady {v:Vr} {x:v.sh.X} {l:Nat} (h:JU σ l) (hl:v.isT=true\/l / 64≠v.q):JU (v.set x σ) l:=by
 obtain⟨bx,p,own,sh⟩:=v;cases bx with
 | t=>exact h
 | b=>
  have hl':l / 64≠p+1000000:=hl.resolve_left (by simp[Vr.isT]);have hr:=AaX (v:=⟨.b,p,own,sh⟩) (x:=x) hl';refine⟨h.1,λb cs hb=>?_⟩;simp only[Vr.set,look] at hb;split at hb
  ·simp_all
  ·exact h.2 b cs hb
 | s=>
  have hl':l / 64≠p+1000000:=hl.resolve_left (by simp[Vr.isT]);have hr:=AaX (v:=⟨.s,p,own,sh⟩) (x:=x) hl';refine⟨λt tv ht=>?_,h.2⟩;simp only[Vr.set,look] at ht;split at ht
  ·simp only[Q_] at ht;subst ht;exact hr
  ·exact h.1 t tv ht
def Aku {v:Vr} {x:v.sh.X}:(v.set x σ).fl=σ.fl:=by
 obtain⟨bx,p,own,sh⟩:=v;cases bx<;>rfl
def RG.consHp (h:RG F G σ a w) {l:Nat} {T:Tree} (hT:TO w (.sl T.k T.n T.f) (G.hv l) λg=>G.ow g=.lab l):RG F G { σ with hp:=(l,T)::σ.hp } a w:=by
 refine⟨h.tm,h.bx,?_,h.lt,h.os,h.tape,h.output,h.size,h.keep,h.fb,h.fl,h.nt,h.df⟩;intro m T' hl;simp only[look] at hl;split at hl
 ·simp_all
 ·exact h.hp m T' hl
def Aht (h:RG F G σ a w) (base:St) (hb:RG F G1 base a w) (hs:List Nat) (hn:∀ l,l∉hs->JU base l) (hbe:G1.be=G.be) (hhv:G1.hv=G.hv) (AB:List Nat) (hab:∀ b m,G.ow b=.lab m->m∈AB->G1.ow b=.gone) (hfr:∀ b,G.ow b=.free->G1.ow b=.free) (hbo:∀ b m,G.ow b=.box m->G1.ow b=.box m)
 (hlb:∀ b m,G.ow b=.lab m->m∉AB->G1.ow b=.lab m) :
 ∀ (vs:List Vr) (x:Xs vs) (ab:List Nat),Kn σ vs=some (x,ab)->(∀ m,m∈ab->m∈AB)->AE ab=true->AE (pOf vs)=true->(∀ p∈pOf vs,∀ m,m / 64=p->m∉base.fl/\m∉hs)->(∀ l∈hOf vs,l / 64∉pOf vs/\l∉AB) ->
  ∃ G',RG F G' (Fq base vs x) a w/\Grow (λb=>∃ m,m∈ab/\G.ow b=.lab m) (λl=>l / 64∈pOf vs) G1 G'/\(∀ l,l∉hs->l / 64∉pOf vs->JU (Fq base vs x) l)/\(Fq base vs x).fl=base.fl:=by
 intro vs
 induction vs with
 | nil=>intro x ab _ _ _ _ _ _;exact⟨G1,hb,Grow.refl _ _ _,λl hl _=>hn l hl,rfl⟩
 | cons v vs ih=>
  intro x ab hg hsub hnd hps hfl hht;simp only[Kn] at hg;split at hg
  ·rename_i y abv xs abt hg1 hg2;simp only[Q_,bP] at hg;obtain⟨rfl,rfl⟩:=hg;obtain⟨nd1,nd2,nd3⟩:=QG hnd;cases hvT:v.isT with
   | true=>
    have hpo:pOf (v::vs)=pOf vs:=by simp[pOf,hvT]
    have hho:hOf (v::vs)=v.p::hOf vs:=by simp[hOf,hvT]
    rw[hpo] at hps hfl hht;rw[hho] at hht;obtain⟨hl1,hl2⟩:=hht v.p (by simp);obtain⟨G2,k1,k2,k3,k4⟩:=ih xs abt hg2 (λm hm=>hsub m (ae.2 (.inr hm))) nd2 hps hfl λl hl=>hht l (by simp[hl]);have hgr:=hg1;unfold Vr.grab at hgr;rw[hvT] at hgr;dsimp only at hgr;split at hgr
    ·rename_i T hT;split at hgr
     ·rename_i y' hy;simp only[Q_,bP] at hgr;obtain⟨rfl,rfl⟩:=hgr;have hTT:=Sh.tree_ok hy;have same:∀ g,G.ow g=.lab v.p->G2.ow g=.lab v.p:=λg hg=>by have h1:=hlb g v.p hg hl2;rw[k2.same (by rw[h1];simp),h1]
      have hhv2:G2.hv v.p=G.hv v.p:=by
       rcases k2.hv v.p with e|e
       ·rw[e,hhv]
       ·exact absurd e hl1
      have main:=k1.consHp (l:=v.p) (T:=v.sh.toTree y') (by rw[hTT,hhv2];exact(h.hp v.p T hT).frame λg hg _=>⟨rfl,same g hg⟩)
      have hset:Fq base (v::vs) (y',xs)={ Fq base vs xs with hp:=(v.p,v.sh.toTree y')::(Fq base vs xs).hp }:=by obtain⟨kk,p,own,sh⟩:=v;cases kk<;>simp[Vr.isT] at hvT;rfl
      rw[hset,hpo];exact⟨G2,main,k2,λl h1 h2=>k3 l h1 h2,k4⟩
     ·cases hgr
    ·cases hgr
   | false=>
   have hpo:pOf (v::vs)=v.q::pOf vs:=by simp[pOf,hvT]
   have hho:hOf (v::vs)=hOf vs:=by simp[hOf,hvT]
   rw[hpo] at hps hfl hht;rw[hho] at hht;rw[hpo];simp only[AE,S_,cM,List.contains_eq_mem,cy] at hps;obtain⟨G2,k1,k2,k3,k4⟩:=ih xs abt hg2 (λm hm=>hsub m (ae.2 (.inr hm))) nd2 hps.2 (λp hp=>hfl p (by simp[hp])) λl hl=>⟨λe=>(hht l hl).1 (by simp[e]),(hht l hl).2⟩;obtain⟨us,Fs,pf⟩:=ZY h hvT hg1;have hgone:∀ j b,Fs j b->b<w.heap.size/\G2.ow b=.gone:=by
    intro j b hb';obtain⟨m,hm,hm2⟩:=pf.lab j b hb';refine⟨h.lt b (by simp[hm2]),k2.gone (hab b m hm2 (hsub m (ae.2 (.inl hm)))) ?_⟩;rintro⟨m',hm',hm3⟩;rw[hm2] at hm3;injection hm3 with e
    subst e;exact nd3 m hm hm'
   have hnr:∀ l,l / 64=v.q->JU (Fq base vs xs) l:=λl hl=>k3 l (hfl v.q (by simp) l hl).2 (by rw[hl];exact hps.1)
   have mem:∃ G3,RG F G3 { Fq base vs xs with hp:=(bif v.own then Eg (64*v.q) (v.sh.fc y) else[])++(Fq base vs xs).hp } a w/\(∀ (j:Nat) (c:Cell) (u:Value),(v.to y)[j]? = some c->us[j]? = some u->CellR w G3 c u)/\(v.to y).length=us.length /\
    Grow (λb=>∃ j,Fs j b) (λl=>l / 64=v.q) G2 G3:=by
    cases hown:v.own with
    | true=>
     obtain⟨G3,m1,m2,m3⟩:=FH (v.sh.fc y) us Fs G2 (64*v.q) (Fq base vs xs) k1 (λ_ m h1 h2=>by
      have h3:=Sh.fc_len v.sh y;have h4:m / 64=v.q:=o_
      exact⟨by rw[k4];exact(hfl v.q (by simp) m h4).1,hnr m h4⟩) pf.len (pf.own hown) hgone pf.dis
     refine⟨G3,m1,?_,?_,m3.mono (λ_ h=>h) λm hm=>by have h3:=Sh.fc_len v.sh y;omega⟩
     ·simpa [Vr.to,hown] using m2
     ·simp[Vr.to,hown,FE,pf.len]
    | false=>
     refine⟨G2,by simpa using k1,λj c u hc hu=>?_,by simp[Vr.to,hown,pf.len],Grow.refl _ _ _⟩;simp only[Vr.to,hown,cA,cp] at hc;cases hq:(v.sh.fc y)[j]? with
     | none=>simp[hq] at hc
     | some d=>
      simp only[hq,aY,Q_] at hc;subst hc;refine Gu ((pf.bor hown j d u hq hu).frame λg hg _=>⟨rfl,?_⟩);have hg':G.ow g=.free:=hg;show G2.ow g=.free;have h1:=hfr g hg';rw[k2.same (by rw[h1];simp),h1]
   obtain⟨G3,m1,m2,m3,m4⟩:=mem;have gr:Grow (λb=>∃ m,m∈abv++abt/\G.ow b=.lab m) (λl=>l / 64∈v.q::pOf vs) G1 G3:=by refine Grow.trans (k2.mono (λb ⟨m,hm,hb'⟩=>⟨m,ae.2 (.inr hm),hb'⟩) λl hl=>by simp[hl]) (m4.mono (λb ⟨j,hj⟩=>?_) λl hl=>by simp[hl]);obtain⟨m,hm,hm2⟩:=pf.lab j b hj;exact⟨m,ae.2 (.inl hm),hm2⟩
   refine⟨G3,?_,gr,λl hl0 hl=>?_,by simp only[Fq];rw[Aku];exact k4⟩
   ·obtain⟨bx,p,own,sh⟩:=v;have hat:=pf.at_;cases bx with
    | t=>simp[Vr.isT] at hvT
    | b=>
     obtain⟨q1,r,e,q2,q3⟩:=hat;have hbe3:G3.be=G.be:=(m4.be.trans k2.be).trans hbe;refine m1.consBx (b:=p) (r:=r) (e:=e) ?_ (by rw[hbe3];exact q2) ⟨?_,λj c hc=>?_⟩
     ·rw[hbe3];have h1:=hbo _ _ q1;rw[gr.same (by rw[h1];simp),h1]
     ·rw[m3,<-q3];simp
     ·have hlt:j<us.length:=by rw[<-m3];exact(List.getElem?_eq_some_iff.1 hc).1
      have hlt':j<r.size:=by rw[<-q3] at hlt;simpa using hlt
      refine⟨r[j],by simp[hlt'],m2 j c _ hc ?_⟩;rw[<-q3];simp[hlt']
    | s=>exact m1.consTm (p:=p) (hat G3 w _ m3 m2)
   ·simp only[ah,not_or] at hl;exact Ady (k3 l hl0 hl.2) (.inr hl.1)
  ·cases hg
def Aap (h:RG F G σ a w) {vs:List Vr} {x:Xs vs} {ab:List Nat} (hg:Kn σ vs=some (x,ab)) (hp:Ix σ vs ab=true) (base:St) (h1:base.bx=[]) (h2:base.hp=[]) (h3:base.fb=σ.fb) (h4:base.fl=σ.fl) (h5:base.nt=σ.nt)
 (htm:∀ t tv,look base.tm t=some tv->tv.memfree (hOf vs)=true/\TVR w G tv (a.tmps.getD t undef)):∃ G',RG F G' (Fq base vs x) a w:=by
 unfold Ix at hp;simp only[S_] at hp;obtain⟨⟨⟨hp1,hp2⟩,hp3⟩,hp4⟩:=hp;rw[aH] at hp4;have hht:∀ l∈hOf vs,l / 64∉pOf vs/\l∉ab:=λl hl=>by have:=hp4 l hl;simp only[S_,cM,List.contains_eq_mem,cy] at this;exact this
 obtain⟨G1,d1,d2,d3,d4,d5,d6,d7,d8,d9,hfr,hlb',hbo',hcu⟩:=h.drop ab [] [];have hbo:∀ b m,G.ow b=.box m->G1.ow b=.box m:=λb m hb=>hbo' b m hb (by simp)
 have hb:RG F G1 base a w:=by refine⟨λt tv hl=>?_,by simp[h1,look],by simp[h2,look],d1.lt,d1.os,d1.tape,d1.output,d1.size,d1.keep,λb β hb=>by rw[h3];exact d1.fb b β hb,λl v hl=>by rw[h4];exact d1.fl l v hl,by rw[h5];exact d1.nt,d1.df⟩;obtain⟨q1,q2⟩:=htm t tv hl;obtain⟨m1,m2⟩:=Og q1;exact TV.carry ⟨λg hg=>⟨rfl,hfr g hg⟩,hcu⟩ (λm hm=>by rw[d3]) (λm hm=>by rw[m2 m] at hm;cases hm) (λb _=>by rw[d2]) q2
 have hn:∀ l,l∉hOf vs->JU base l:=λl hl=>⟨λt tv ht=>by
  cases hr:tv.refs l with
  | false=>rfl
  | true=>exact absurd ((Og (htm t tv ht).1).1 l hr) hl,by simp[h1,look]⟩
 obtain⟨G',k1,_⟩:=Aht h base hb (hOf vs) hn d2 d3 ab (λb m hb hm=>d5 b m hb (.inl hm)) hfr hbo (λb m hb hm=>hlb' b m hb hm (by simp)) vs x ab hg (λ_ h=>h) hp1 hp2 (λp hp m hm=>by refine⟨λhmem=>?_,λhmem=>(hht m hmem).1 (by rw[hm];exact hp)⟩;rw[h4] at hmem;unfold Sm at hp3;rw[aH] at hp3;have:=hp3 m hmem;simp only[cM,List.contains_eq_mem,cy] at this;exact this (by rw[hm];exact hp)) hht
 exact⟨G',k1⟩
end
end Go.D
namespace Go.D
def MA:Nat->Nat->St->(St->Out)->Out
 | 0,_,σ,K=>K σ
 | m+1,t,σ,K=>match look σ.tm t with
  | some (.v agg cs)=>match UU cs 0 with
   | some (j,l,k,lo,n)=>match look σ.hp l with
    | some T=>bif decide (T.k=k) && !σ.fl.contains l then .ob (lo+n<=T.n) (MA m t (O2 (BN σ l [] ⟨T.t,cut T.xs lo n⟩) t j l) K) else .bad
    | none=>.bad
   | none=>K σ
  | _=>K σ
def YI (σ:St) (b j l:Nat):St:=match look σ.bx b with
 | some cs=>{ σ with bx:=D.put σ.bx b (cs.set j (.ref l))}
 | none=>σ
def Jm:Nat->Nat->St->(St->Out)->Out
 | 0,_,σ,K=>K σ
 | m+1,b,σ,K=>match look σ.bx b with
  | some cs=>match UU cs 0 with
   | some (j,l,k,lo,n)=>match look σ.hp l with
    | some T=>bif decide (T.k=k) && !σ.fl.contains l then .ob (lo+n<=T.n) (Jm m b (YI (BN σ l [] ⟨T.t,cut T.xs lo n⟩) b j l) K) else .bad
    | none=>.bad
   | none=>K σ
  | none=>K σ
def settle:List ResultVar->St->(St->Out)->Out
 | [],σ,K=>K σ
 | .tmp t::rs,σ,K=>MA 40 t σ (λσ'=>settle rs σ' K)
 | .cell t _::rs,σ,K=>match σ.get t with
  | .ptr b 0=>Jm 40 b σ (λσ'=>settle rs σ' K)
  | _=>settle rs σ K
def J6:List Nat->St->(St->Out)->Out
 | [],σ,K=>K σ
 | b::bs,σ,K=>Jm 40 b σ (λσ'=>J6 bs σ' K)
def FT:List Vr->St->(St->Out)->Out
 | [],σ,K=>K σ
 | v::vs,σ,K=>match v.own with
  | true=>match v.k with
   | .s=>MA 40 v.p σ (λσ'=>FT vs σ' K)
   | .b=>Jm 40 v.p σ (λσ'=>FT vs σ' K)
   | .t=>FT vs σ K
  | false=>FT vs σ K
section
variable {P:Program} {F:Fr P} {G G':Gh} {σ σ':St} {a:Act} {w w':World} {K:St->Out} {Q:Post}
def Ai9 {t j l k lo n:Nat} {agg:Bool} {cs:List Cell} {T:Tree} (h:RG F G σ a w) (ht:look σ.tm t=some (.v agg cs)) (hj:cs[j]? = some (.sub l k lo n)) (hT:look σ.hp l=some T) (hk:T.k=k) (hfl:l∉σ.fl) (hle:lo+n<=T.n) :
 ∃ G',RG F G' (O2 (BN σ l [] ⟨T.t,cut T.xs lo n⟩) t j l) a w:=by
 obtain⟨u,hu,hset⟩:=VV (h.tm t _ ht) hj;have h1:u.oneCell'=true:=CellR.one hu;subst hk;have hto:=Wv (Ko (h.hp l T hT) hu hle) hle;rw[Ce ⟨T.t,cut T.xs lo n⟩] at hto;obtain⟨G',h2,h3,_⟩:=h.retree l [] ⟨T.t,cut T.xs lo n⟩ u (λg=>G.ow g=.lab l) ⟨rfl,rfl,⟨rfl,by first|exact DrLe.refl _|exact DrLe.succ _|exact DrLe.add _ _⟩,Y_ _⟩ (λ_ _ _=>rfl) (λg hg=>⟨h.lt g (by grind),.inr (.inl hg)⟩) hto hfl (by simp);have hlk:look (BN σ l [] ⟨T.t,cut T.xs lo n⟩).tm t=some (.v agg (cs.map (·.kill [l]))):=by simp only[BN,St.kill,St.map];rw[AT λx:TV=>x.kill [l],ht];rfl
 refine⟨G',?_⟩;unfold O2;rw[hlk];refine RG.retell h2 ?_;exact hset G' _ _ (h2.tm t _ hlk) (by simp) ⟨h3.symm,h1⟩
def Oi:∀ (m t:Nat) (σ:St) (G:Gh) (K:St->Out),RG F G σ a w->(MA m t σ K).holds Q->∃ σ' G',RG F G' σ' a w/\(K σ').holds Q:=by
 intro m
 induction m with
 | zero=>intro t σ G K h hh;exact⟨σ,G,h,hh⟩
 | succ m ih=>
  intro t σ G K h hh;unfold MA at hh;split at hh
  ·rename_i agg cs ht;split at hh
   ·rename_i j l k lo n hs;split at hh
    ·rename_i T hT;cases hc:(decide (T.k=k) && !σ.fl.contains l) with
     | false=>rw[hc,cA] at hh;exact hh.elim
     | true=>
      rw[hc,aO] at hh;simp at hc;obtain⟨hle,hh⟩:=hh;obtain⟨_,hj⟩:=M4 hs;obtain⟨G',h'⟩:=Ai9 h ht (by simpa using hj) hT hc.1 (by grind) hle;grind
    ·exact hh.elim
   ·exact⟨σ,G,h,hh⟩
  ·exact⟨σ,G,h,hh⟩
def RG.rebox (h:RG F G σ a w) {b:Nat} {cs:List Cell} (h1:G.ow (G.be b)=.box b) {r:Array Value} {e:TypeId} (h2:w.heap[G.be b]? = some (.cells r e (0,0))) (h3:AP w G cs r):RG F G { σ with bx:=D.put σ.bx b cs } a w:=by
 refine⟨h.tm,?_,h.hp,h.lt,h.os,h.tape,h.output,h.size,h.keep,h.fb,h.fl,h.nt,h.df⟩;intro b' cs' hl;simp only[Dc] at hl;by_cases hb:b'=b
 ·simp_all
 ·simp only[hb,aP] at hl;exact h.bx b' cs' hl
def Ahu {b j l k lo n:Nat} {cs:List Cell} {T:Tree} (h:RG F G σ a w) (hb:look σ.bx b=some cs) (hj:cs[j]? = some (.sub l k lo n)) (hT:look σ.hp l=some T) (hk:T.k=k) (hfl:l∉σ.fl) (hle:lo+n<=T.n) :
 ∃ G',RG F G' (YI (BN σ l [] ⟨T.t,cut T.xs lo n⟩) b j l) a w:=by
 obtain⟨ow,r,e,hr,hc⟩:=h.bx b cs hb;obtain⟨u,hu,hcu⟩:=hc.2 j _ hj;have h1:u.oneCell'=true:=CellR.one hcu;subst hk;have hto:=Wv (Ko (h.hp l T hT) hcu hle) hle;rw[Ce ⟨T.t,cut T.xs lo n⟩] at hto;obtain⟨G',h2,h3,_,_,h4,_⟩:=h.retree l [] ⟨T.t,cut T.xs lo n⟩ u (λg=>G.ow g=.lab l) ⟨rfl,rfl,⟨rfl,by first|exact DrLe.refl _|exact DrLe.succ _|exact DrLe.add _ _⟩,Y_ _⟩ (λ_ _ _=>rfl) (λg hg=>⟨h.lt g (by grind),.inr (.inl hg)⟩) hto hfl (by simp);have hlk:look (BN σ l [] ⟨T.t,cut T.xs lo n⟩).bx b=some (cs.map (·.kill [l])):=by simp only[BN,St.kill,St.map];rw[AT λx:List Cell=>x.map (·.kill [l]),hb];rfl
 obtain⟨ow',r',e',hr',hc'⟩:=h2.bx b _ hlk;refine⟨G',?_⟩;unfold YI;rw[hlk];have hr2:=hr';rw[h4,hr] at hr2;injection hr2 with hr2
 injection hr2 with e1 e2 e3
 subst e1;exact RG.rebox h2 ow' hr' (MK hc' hu ⟨h3.symm,h1⟩)
def Ig:∀ (m b:Nat) (σ:St) (G:Gh) (K:St->Out),RG F G σ a w->(Jm m b σ K).holds Q->∃ σ' G',RG F G' σ' a w/\(K σ').holds Q:=by
 intro m
 induction m with
 | zero=>intro b σ G K h hh;exact⟨σ,G,h,hh⟩
 | succ m ih=>
  intro b σ G K h hh;unfold Jm at hh;split at hh
  ·rename_i cs hb;split at hh
   ·rename_i j l k lo n hs;split at hh
    ·rename_i T hT;cases hc:(decide (T.k=k) && !σ.fl.contains l) with
     | false=>rw[hc,cA] at hh;exact hh.elim
     | true=>
      rw[hc,aO] at hh;simp at hc;obtain⟨hle,hh⟩:=hh;obtain⟨_,hj⟩:=M4 hs;obtain⟨G',h'⟩:=Ahu h hb (by simpa using hj) hT hc.1 (by grind) hle;grind
    ·exact hh.elim
   ·exact⟨σ,G,h,hh⟩
  ·exact⟨σ,G,h,hh⟩
def AbX:∀ (rs:List ResultVar) (σ:St) (G:Gh) (K:St->Out),RG F G σ a w->(settle rs σ K).holds Q->∃ σ' G',RG F G' σ' a w/\(K σ').holds Q:=by
 intro rs
 induction rs with
 | nil=>intro σ G K h hh;exact⟨σ,G,h,hh⟩
 | cons r rs ih=>
  intro σ G K h hh;cases r with
  | tmp t=>
   obtain⟨σ1,G1,h1,hh1⟩:=Oi 40 t σ G _ h hh;grind
  | cell t T=>
   simp only[settle] at hh;split at hh
   ·obtain⟨σ1,G1,h1,hh1⟩:=Ig 40 _ σ G _ h hh;grind
   ·exact ih σ G K h hh
def Tb:∀ (bs:List Nat) (σ:St) (G:Gh) (K:St->Out),RG F G σ a w->(J6 bs σ K).holds Q->∃ σ' G',RG F G' σ' a w/\(K σ').holds Q:=by
 intro bs
 induction bs with
 | nil=>intro σ G K h hh;exact⟨σ,G,h,hh⟩
 | cons b bs ih=>
  intro σ G K h hh;obtain⟨σ1,G1,h1,hh1⟩:=Ig 40 b σ G _ h hh;grind
def Nd:∀ (vs:List Vr) (σ:St) (G:Gh) (K:St->Out),RG F G σ a w->(FT vs σ K).holds Q->∃ σ' G',RG F G' σ' a w/\(K σ').holds Q:=by
 intro vs
 induction vs with
 | nil=>intro σ G K h hh;exact⟨σ,G,h,hh⟩
 | cons v vs ih=>
  intro σ G K h hh;unfold FT at hh;split at hh
  ·split at hh
   ·obtain⟨σ1,G1,h1,hh1⟩:=Oi 40 _ σ G _ h hh;grind
   ·obtain⟨σ1,G1,h1,hh1⟩:=Ig 40 _ σ G _ h hh;grind
   ·exact ih σ G K h hh
  ·exact ih σ G K h hh
def I1:List Cell->Nat->Option (Nat×Nat)
 | [],_=>none
 | .ref l::cs,j=>bif decide (l<64000000) then some (j,l) else I1 cs (j+1)
 | _::cs,j=>I1 cs (j+1)
def Tj:∀ (cs:List Cell) (i:Nat) {j l:Nat},I1 cs i=some (j,l)->i<=j/\cs[j-i]? = some (.ref l):=by
 intro cs
 induction cs with
 | nil=>intro i j l h;simp[I1] at h
 | cons c cs ih=>
  intro i j l h;have nx:I1 cs (i+1)=some (j,l)->i<=j/\(c::cs)[j-i]? = some (.ref l):=by grind
  cases c<;>simp only[I1] at h<;>first|exact nx h|skip
  grind
def Alv {b j l q:Nat} {cs:List Cell} {T:Tree} (h:RG F G σ a w) (hb:look σ.bx b=some cs) (hj:cs[j]? = some (.ref l)) (hT:look σ.hp l=some T) (hfl:l∉σ.fl) (hq:q∉σ.fl) :
 ∃ G',RG F G' (YI (BN σ q [l] T) b j q) a w:=by
 obtain⟨ow,r,e,hr,hc⟩:=h.bx b cs hb;obtain⟨u,hu,hcu⟩:=hc.2 j _ hj;have h1:u.oneCell'=true:=hcu.2;have hto:=h.hp l T hT;rw[<-hcu.1] at hto;obtain⟨G',h2,h3,_,_,h4,_⟩:=h.retree q [l] T u (λg=>G.ow g=.lab l) ⟨rfl,rfl,⟨rfl,by first|exact DrLe.refl _|exact DrLe.succ _|exact DrLe.add _ _⟩,Y_ _⟩ (λ_ _ _=>rfl) (λg hg=>⟨h.lt g (by simp[hg]),.inr (.inr ⟨l,by simp,hg⟩)⟩) hto hq (by grind);have hlk:look (BN σ q [l] T).bx b=some (cs.map (·.kill [q,l])):=by simp only[BN,St.kill,St.map];rw[AT λx:List Cell=>x.map (·.kill [q,l]),hb];rfl
 obtain⟨ow',r',e',hr',hc'⟩:=h2.bx b _ hlk;refine⟨G',?_⟩;unfold YI;rw[hlk];have hr2:=hr';rw[h4,hr] at hr2;injection hr2 with hr2
 injection hr2 with e1 e2 e3
 subst e1;exact RG.rebox h2 ow' hr' (MK hc' hu ⟨h3.symm,h1⟩)
def AdV:Nat->Nat->St->(St->Out)->Out
 | 0,_,σ,K=>K σ
 | m+1,b,σ,K=>match look σ.bx b with
  | some cs=>match I1 cs 0 with
   | some (j,l)=>match look σ.hp l with
    | some T=>bif !σ.fl.contains l && !σ.fl.contains (64*(3000000+b)+j) then AdV m b (YI (BN σ (64*(3000000+b)+j) [l] T) b j (64*(3000000+b)+j)) K else .bad
    | none=>.bad
   | none=>K σ
  | none=>K σ
def AdX:∀ (m b:Nat) (σ:St) (G:Gh) (K:St->Out),RG F G σ a w->(AdV m b σ K).holds Q->∃ σ' G',RG F G' σ' a w/\(K σ').holds Q:=by
 intro m
 induction m with
 | zero=>intro b σ G K h hh;exact⟨σ,G,h,hh⟩
 | succ m ih=>
  intro b σ G K h hh;unfold AdV at hh;split at hh
  ·rename_i cs hb;split at hh
   ·rename_i j l hs;split at hh
    ·rename_i T hT;cases hc:(!σ.fl.contains l && !σ.fl.contains (64*(3000000+b)+j)) with
     | false=>rw[hc,cA] at hh;exact hh.elim
     | true=>
      simp at hc;obtain⟨_,hj⟩:=Tj cs 0 hs;obtain⟨G',h'⟩:=Alv (q:=64*(3000000+b)+j) h hb (by simpa using hj) hT (by grind) (by simpa using hc.2);grind
    ·exact hh.elim
   ·exact⟨σ,G,h,hh⟩
  ·exact⟨σ,G,h,hh⟩
def ZN:List Nat->St->(St->Out)->Out
 | [],σ,K=>K σ
 | b::bs,σ,K=>Jm 40 b σ λσ=>AdV 40 b σ λσ=>ZN bs σ K
def AbS:∀ (bs:List Nat) (σ:St) (G:Gh) (K:St->Out),RG F G σ a w->(ZN bs σ K).holds Q->∃ σ' G',RG F G' σ' a w/\(K σ').holds Q:=by
 intro bs
 induction bs with
 | nil=>intro σ G K h hh;exact⟨σ,G,h,hh⟩
 | cons b bs ih=>
  intro σ G K h hh;obtain⟨σ1,G1,h1,hh1⟩:=Ig 40 b σ G _ h hh;obtain⟨σ2,G2,h2,hh2⟩:=AdX 40 b σ1 G1 _ h1 hh1;grind
end
end Go.D
namespace Go.D
structure LInv where
 ps:List Vr
 inv:Xs ps->Xs ps->Prop
 m:Xs ps->Nat
abbrev WJ:=Nat->Option LInv
def ExR:Ex->Exit->Prop
 | .normal,e=>e=.normal
 | .exit id,e=>e=.exit id
 | .ret,e=>e=.ret
def Aj2 {P:Program} (F:Fr P) (K:Ex->St->Out) (Q:Post):Exit->Act->World->Prop:=λe a w=>∃ ex σ',ExR ex e/\R F σ' a w/\(K ex σ').holds Q
def Po:Code->Nat
 | .region i _ _=>i
 | .seq x _=>Po x
 | .cond _ x _=>Po x
 | .block _ x=>Po x
 | .loop x=>Po x
 | _=>0
def Aij (ops:List Oper):List Nat:=ops.filterMap (·.dst)
def dstsOf:Code->List Nat
 | .region _ ops _=>Aij ops.toList
 | .seq x y=>dstsOf x++dstsOf y
 | .cond _ x y=>dstsOf x++dstsOf y
 | .block _ x=>dstsOf x
 | .loop x=>dstsOf x
 | _=>[]
def St.clean (σ:St) (kp:List Nat):St:={ σ with tm:=σ.tm.filter λp=>kp.contains p.1 }
def St.dropC (σ:St) (kp:List Nat):Operand->St
 | .tmp t=>bif kp.contains (t+1000000) then{ σ with tm:=σ.tm.filter λp=>!(p.1==t)} else σ
 | _=>σ
def TV.forget (hs:List Nat) (x:TV):TV:=bif x.memfree hs then x else .dead
def WY (kp ds:List Nat) (ps:List Vr) (l:List (Nat×TV)):List (Nat×TV):=(l.filter λx=>kp.contains x.1 && !(ds.contains x.1||ps.any λv=>(match v.k with | .s=>true|_=>false)&&v.p==x.1)).map λx=>(x.1,x.2.forget (hOf ps))
def Zh:Cell->Cell->Option (List Prop)
 | .sc u,.sc v=>some [u=v]
 | .tt,.tt=>some []
 | .ff,.ff=>some []
 | .nil,.nil=>some []
 | .ref l,.ref m=>if l=m then some [] else none
 | .sub l k lo n,.sub l' k' lo' n'=>if l=l'/\k=k' then some [lo=lo',n=n'] else none
 | .sc u,.tt=>some [u=.bool true]
 | .sc u,.ff=>some [u=.bool false]
 | .tt,.sc u=>some [u=.bool true]
 | .ff,.sc u=>some [u=.bool false]
 | .im none t xs,.im none t' ys=>if h:t=t' then some [h▸xs=ys] else none
 | _,_=>none
def KD:List Cell->List Cell->Option (List Prop)
 | [],[]=>some []
 | c::cs,d::ds=>match Zh c d,KD cs ds with
  | some p,some q=>some (p++q)
  | _,_=>none
 | _,_=>none
def Nu:List Cap->List Cap->Option (List Prop)
 | [],[]=>some []
 | .ptr b::cs,.ptr b'::ds=>if b=b' then Nu cs ds else none
 | .aptr x::cs,.aptr y::ds=>match Nu cs ds with
  | some q=>some ((x=y)::q)
  | none=>none
 | _,_=>none
def AlY:TV->TV->Option (List Prop)
 | .v a cs,.v b ds=>if a=b then KD cs ds else none
 | .ptr b o,.ptr b' o'=>if b=b'/\o=o' then some [] else none
 | .aptr cs o,.aptr ds o'=>if o=o' then some [cs=ds] else none
 | .clo f cs,.clo g ds=>if f=g then Nu cs ds else none
 | .cur,.cur=>some []
 | .sptr none t x o,.sptr none t' y o'=>if h:t=t' then if o=o' then some [h▸x=y] else none else none
 | _,_=>none
def Aan (σ:St):List (Nat×TV)->Option (List Prop)
 | []=>some []
 | (_,.dead)::r=>Aan σ r
 | (t,x)::r=>match look σ.tm t with
  | some y=>match AlY y x,Aan σ r with
   | some p,some q=>some (p++q)
   | _,_=>none
  | none=>none
def AmE (li:LInv) (x0 x:Xs li.ps) (base σ:St):Out :=
 match Kn σ li.ps with
 | some (x',ab)=>match Aan σ base.tm with
  | some ps=>bif Ix σ li.ps ab&&σ.nt==base.nt&&σ.fb==base.fb&&σ.fl==base.fl then obs ps (.ob (li.inv x0 x'/\li.m x'<li.m x) .ok) else .bad
  | none=>.bad
 | none=>.bad
def lpx (li:LInv) (x0:Xs li.ps) (f:Xs li.ps->(Xs li.ps->Prop)->Out):Out:=.lp (Xs li.ps) (li.inv x0 x0) (li.inv x0) λx=>f x λx'=>li.inv x0 x'/\li.m x'<li.m x
def PU (kp:List Nat) (id:Nat):Nat:=match kp.find? (λk=>k / 64==1000000+id) with
 | some k=>k % 64
 | none=>0
def Ago (f:St->(Ex->St->Out)->Out) (K:Ex->St->Out):Nat->St->Out
 | 0,_=>.bad
 | n+1,σ=>f σ λe σ'=>match e with
  | .normal=>ZN (σ'.bx.map (·.1)) σ' (λσ'=>Ago f K n σ')
  | e=>K e σ'
def ZL (kp:List Nat):Operand->Bool
 | .tmp t=>kp.contains (200000000+t)
 | _=>false
def brC (x:TV) (y n:Out):Out:=match x with
 | .v false [.sc (.bool b)]=>bif b then y else n
 | x=>Ai0 x y n
def AkS {x:TV} {y n:Out} {Q:Post} (h:(brC x y n).holds Q):(Ai0 x y n).holds Q:=by
 unfold brC at h;split at h
 ·rename_i b;cases b with
  | true=>exact⟨λ_=>h,λe=>(by cases e)⟩
  | false=>exact⟨λe=>(by cases e),λ_=>h⟩
 ·exact h
def run (P:Program) (E:Env) (L:WJ) (kp:List Nat):Code->St->(Ex->St->Out)->Out
 | .skip,σ,K=>K .normal σ
 | .region _ ops draw,σ,K=>bif draw then AgU P E ops σ (λσ'=>K .normal (σ'.clean kp)) else Yp P E ops (List.range ops.size) σ (λσ'=>K .normal (σ'.clean kp))
 | .seq x y,σ,K=>run P E L kp x σ (λe σ'=>match e with
  | .normal=>run P E L kp y σ' K
  | e=>K e σ')
 | .cond c x y,σ,K=>bif ZL kp c then brC (σ.eval c) (run P E L kp x (σ.dropC kp c) K) (run P E L kp y (σ.dropC kp c) K) else Ai0 (σ.eval c) (run P E L kp x (σ.dropC kp c) K) (run P E L kp y (σ.dropC kp c) K)
 | .block id x,σ,K=>run P E L kp x σ (λe σ'=>match e with
  | .exit i=>bif i==id then K .normal σ' else K (.exit i) σ'
  | e=>K e σ')
 | .exit id,σ,K=>K (.exit id) σ
 | .ret,σ,K=>K .ret σ
 | .loop b,σ,K=>bif PU kp (Po b) != 0 then Ago (λσ K=>run P E L kp b σ K) K (PU kp (Po b)) σ else match L (Po b) with
  | some li=>FT li.ps σ λσ=>match Kn σ li.ps with
   | some (x0,ab)=>
    bif Ix σ li.ps ab then
     .lp (Xs li.ps) (li.inv x0 x0) (li.inv x0) λx=>run P E L kp b (Fq { σ with tm:=WY kp (dstsOf b) li.ps σ.tm,bx:=[],hp:=[]} li.ps x) (λe σ'=>match e with
      | .normal=>FT li.ps σ' λσ'=>AmE li x0 x { σ with tm:=WY kp (dstsOf b) li.ps σ.tm,bx:=[],hp:=[]} σ'
      | e=>K e σ')
    else .bad
   | none=>.bad
  | none=>.bad
 | _,_,_=>.bad
section
variable {P:Program} {E:Env} {F:Fr P} {G:Gh} {σ:St} {a:Act} {w:World} {o:Oper} {K:St->Out} {Q:Post} {Qx:Exit->Act->World->Prop}
def RG.clean (h:RG F G σ a w) (kp:List Nat):RG F G (σ.clean kp) a w:=by
 refine⟨?_,h.bx,h.hp,h.lt,h.os,h.tape,h.output,h.size,h.keep,h.fb,h.fl,h.nt,h.df⟩;intro t tv hl;simp only[St.clean,A5 λt=>kp.contains t] at hl;split at hl
 ·exact h.tm t tv hl
 ·cases hl
def RG.dropC (h:RG F G σ a w) (kp:List Nat) (c:Operand):RG F G (σ.dropC kp c) a w:=by
 unfold St.dropC;split
 ·rename_i t;cases kp.contains (t+1000000) with
  | false=>exact h
  | true=>
   refine⟨?_,h.bx,h.hp,h.lt,h.os,h.tape,h.output,h.size,h.keep,h.fb,h.fl,h.nt,h.df⟩;intro t' tv hl;simp only[aO,A5 λs=>!(s==t)] at hl;split at hl
   ·exact h.tm t' tv hl
   ·cases hl
 ·exact h
def N8 (hs:List Nat) (x:TV):(x.forget hs).memfree hs=true:=by
 unfold TV.forget;cases h:x.memfree hs
 ·rfl
 ·exact h
def AbM {hs:List Nat} {x:TV} {v:Value} (h:TVR w G x v):TVR w G (x.forget hs) v:=by
 unfold TV.forget;cases x.memfree hs
 ·trivial
 ·exact h
def AdC {c d:Cell} {p:List Prop} {v:Value} (h:Zh c d=some p) (hp:∀ q∈p,q) (hc:CellR w G c v):CellR w G d v:=by
 unfold Zh at h;split at h
 ·simp at h;subst h;have:=hp _ (eI _);subst this;exact hc
 ·exact hc
 ·exact hc
 ·exact hc
 ·simp_all
 ·split at h
  ·rename_i e;simp at h;subst h;have h1:=hp _ cW;have h2:=hp _ (cT _ (eI _));simp_all
  ·cases h
 ·simp at h;subst h;have:=hp _ (eI _);subst this;exact hc.1
 ·simp at h;subst h;have:=hp _ (eI _);subst this;exact hc.1
 ·simp at h;subst h;have:=hp _ (eI _);subst this;exact⟨hc,rfl⟩
 ·simp at h;subst h;have:=hp _ (eI _);subst this;exact⟨hc,rfl⟩
 ·split at h
  ·rename_i e;subst e;simp at h;subst h;have:=hp _ (eI _);subst this;exact hc
  ·cases h
 ·cases h
def YN:∀ {cs ds:List Cell} {p:List Prop},KD cs ds=some p->(∀ q∈p,q)->ds.length=cs.length/\∀ (j:Nat) (d:Cell),ds[j]? = some d->∃ c,cs[j]? = some c/\∀ v,CellR w G c v->CellR w G d v:=by
 intro cs
 induction cs with
 | nil=>
  intro ds p h _;cases ds with
  | nil=>simp
  | cons d ds=>simp[KD] at h
 | cons c cs ih=>
  intro ds p h hp;cases ds with
  | nil=>simp[KD] at h
  | cons d ds=>
   simp only[KD] at h;split at h
   ·rename_i p1 p2 h1 h2;simp at h;subst h;obtain⟨k1,k2⟩:=ih h2 λq hq=>hp q (ae.2 (.inr hq));refine⟨by grind,λj d' hj=>?_⟩;cases j with
    | zero=>
     simp at hj;subst hj;exact⟨c,rfl,λv hv=>AdC h1 (λq hq=>hp q (ae.2 (.inl hq))) hv⟩
    | succ j=>simpa using k2 j d' (by grind)
   ·cases h
def AaU:∀ {cs ds:List Cap} {p:List Prop},Nu cs ds=some p->(∀ q∈p,q)->cs=ds:=by
 intro cs
 induction cs with
 | nil=>
  intro ds p h _;cases ds with
  | nil=>rfl
  | cons d ds=>simp[Nu] at h
 | cons c cs ih=>
  intro ds p h hp;cases ds with
  | nil=>cases c<;>simp[Nu] at h
  | cons d ds=>
   cases c<;>cases d<;>simp only[Nu] at h
   ·grind
   ·cases h
   ·cases h
   ·split at h
    ·rename_i q h1;simp at h;subst h;rw[hp _ (cW),ih h1 λq hq=>hp q (cT _ hq)]
    ·cases h
def Ain {x y:TV} {p:List Prop} {v:Value} (h:AlY x y=some p) (hp:∀ q∈p,q) (hx:TVR w G x v):TVR w G y v:=by
 unfold AlY at h;split at h
 ·split at h
  ·rename_i e;subst e;obtain⟨h1,h2⟩:=YN (w:=w) (G:=G) h hp;exact F1 h1 h2 hx
  ·cases h
 ·simp_all
 ·split at h
  ·rename_i e;subst e;simp at h;subst h;have:=hp _ (eI _);subst this;exact hx
  ·cases h
 ·split at h
  ·rename_i e;subst e;rw[<-AaU h hp];exact hx
  ·cases h
 ·exact hx
 ·split at h
  ·rename_i e;subst e;split at h
   ·rename_i e2;subst e2;simp at h;subst h;have:=hp _ (eI _);subst this;exact hx
   ·cases h
  ·cases h
 ·cases h
def AeZ (h:RG F G σ a w):∀ {l:List (Nat×TV)} {p:List Prop},Aan σ l=some p->(∀ q∈p,q)->∀ t x,(t,x)∈l->TVR w G x (a.tmps.getD t undef):=by
 intro l
 induction l with
 | nil=>intro p _ _ t x hm;simp at hm
 | cons e l ih=>
  obtain⟨t0,x0⟩:=e;intro p hs hp t x hm;unfold Aan at hs;split at hs
  ·rename_i e;cases e
  ·rename_i e;injection e with e1 e2
   injection e1 with e3 e4
   subst e2;subst e3;subst e4;rcases ah.1 hm with e|hm
   ·injection e with e1 e2;subst e2;trivial
   ·exact ih hs hp t x hm
  ·rename_i t1 x1 r1 _ e;injection e with e1 e2
   injection e1 with e3 e4
   subst e2;subst e3;subst e4;split at hs
   ·rename_i y hl;split at hs
    ·rename_i p1 p2 h1 h2;simp at hs;subst hs;rcases ah.1 hm with e|hm
     ·injection e with e1 e2
      subst e1;subst e2;exact Ain h1 (λq hq=>hp q (ae.2 (.inl hq))) (h.tm t y hl)
     ·exact ih h2 (λq hq=>hp q (ae.2 (.inr hq))) t x hm
    ·cases hs
   ·cases hs
def Akj (hE:EOk P E) {L:WJ} {kp:List Nat}:∀ (c:Code) (σ:St) (a:Act) (w:World) (K:Ex->St->Out),R F σ a w->(run P E L kp c σ K).holds Q->c.wp P (Aj2 F K Q) a w:=by
 intro c
 induction c with
 | skip=>intro σ a w K h hh;exact wp_skip ⟨.normal,σ,rfl,h,hh⟩
 | region id ops draw=>
  intro σ a w K h hh;simp only[run] at hh;obtain⟨G,h⟩:=h;cases draw with
  | true=>
   refine wp_mono (Aaq (K:=λσ'=>K .normal (σ'.clean kp)) hE h hh) ?_;rintro e a' w' ⟨rfl,σ',⟨G',h'⟩,hh'⟩;exact⟨.normal,_,rfl,⟨G',h'.clean kp⟩,hh'⟩
  | false=>
   refine wp_mono (wp_region (Afm hE (K:=λσ'=>K .normal (σ'.clean kp)) _ σ G a w h hh)) ?_;rintro e a' w' ⟨rfl,σ',⟨G',h'⟩,hh'⟩;exact⟨.normal,_,rfl,⟨G',h'.clean kp⟩,hh'⟩
 | seq x y ihx ihy=>
  intro σ a w K h hh;refine wp_seq (wp_mono (ihx σ a w _ h hh) ?_);rintro e a' w' ⟨ex,σ',he,h',hh'⟩;cases ex with
  | normal=>obtain rfl:=he;exact ihy σ' a' w' K h' hh'
  | exit id=>obtain rfl:=he;exact⟨.exit id,σ',rfl,h',hh'⟩
  | ret=>obtain rfl:=he;exact⟨.ret,σ',rfl,h',hh'⟩
 | cond c x y ihx ihy=>
  intro σ a w K h hh;simp only[run] at hh;obtain⟨G,hG⟩:=h;have hh:(Ai0 (σ.eval c) (run P E L kp x (σ.dropC kp c) K) (run P E L kp y (σ.dropC kp c) K)).holds Q:=by
   cases hcc:ZL kp c with
   | true=>rw[hcc,aO] at hh;exact AkS hh
   | false=>rw[hcc,cA] at hh;exact hh
  obtain⟨b,hb,h1,h2⟩:=AbH (Am hG c) hh;exact wp_cond_split hb (λe=>ihx _ a w K ⟨G,hG.dropC kp c⟩ (h1 e)) (λe=>ihy _ a w K ⟨G,hG.dropC kp c⟩ (h2 e))
 | block id x ih=>
  intro σ a w K h hh;refine wp_block (wp_mono (ih σ a w _ h hh) ?_);rintro e a' w' ⟨ex,σ',he,h',hh'⟩;cases ex with
  | normal=>obtain rfl:=he;exact⟨.normal,σ',rfl,h',hh'⟩
  | exit i=>
   obtain rfl:=he;simp only[Exit.inBlock];split
   ·rename_i hi;simp only[hi,BEq.rfl,aO] at hh';exact⟨.normal,σ',rfl,h',hh'⟩
   ·rename_i hi;have h0:(i==id)=false:=by grind
    simp only[h0,cA] at hh';exact⟨.exit i,σ',rfl,h',hh'⟩
  | ret=>obtain rfl:=he;exact⟨.ret,σ',rfl,h',hh'⟩
 | exit id=>intro σ a w K h hh;exact wp_exit ⟨.exit id,σ,rfl,h,hh⟩
 | ret=>intro σ a w K h hh;exact wp_ret ⟨.ret,σ,rfl,h,hh⟩
 | loop b ih=>
  intro σ a w K h hh;simp only[run] at hh;cases hu:(PU kp (Po b) != 0) with
  | true=>
   rw[hu,aO] at hh;generalize PU kp (Po b)=m at hh;refine wp_loop_rounds m ?_
   induction m generalizing σ a w with
   | zero=>exact hh.elim
   | succ m ihm=>
    refine wp_mono (ih σ a w _ h hh) ?_;rintro e a' w' ⟨ex,σ',he,h',hh'⟩;cases ex with
    | exit id=>obtain rfl:=he;exact⟨.exit id,σ',rfl,h',hh'⟩
    | ret=>obtain rfl:=he;exact⟨.ret,σ',rfl,h',hh'⟩
    | normal=>
     obtain rfl:=he;obtain⟨G',hG'⟩:=h';obtain⟨σ2,G2,h2,hh2⟩:=AbS _ σ' G' _ hG' hh';exact ihm σ2 a' w' ⟨G2,h2⟩ hh2
  | false=>
  rw[hu,cA] at hh;split at hh
  ·rename_i li hli;obtain⟨G,hG⟩:=h;obtain⟨σ,G,hG,hh⟩:=Nd _ _ _ _ hG hh;split at hh
   ·rename_i x0 ab hg;cases hp:Ix σ li.ps ab with
    | false=>simp[hp,Out.holds] at hh
    | true=>
     simp only[hp,aO] at hh;obtain⟨hinv,hbody⟩:=hh;generalize hbase:({ σ with tm:=WY kp (dstsOf b) li.ps σ.tm,bx:=[],hp:=[]}:St)=base at hbody;have hbt:∀ t tv,look base.tm t=some tv->tv.memfree (hOf li.ps)=true/\(t,tv)∈base.tm/\TVR w G tv (a.tmps.getD t undef):=by
      intro t tv hl;have h1:=G5 hl;subst hbase;simp only[WY] at hl;rw[AT (TV.forget (hOf li.ps)),A5 λs=>kp.contains s && !((dstsOf b).contains s||li.ps.any λv=>(match v.k with | .s=>true|_=>false)&&v.p==s)] at hl;split at hl
      ·cases hq:look σ.tm t with
       | none=>rw[hq] at hl;cases hl
       | some x=>
        rw[hq] at hl;simp at hl;subst hl;exact⟨N8 _ x,h1,AbM (hG.tm t x hq)⟩
      ·cases hl
     obtain⟨G0,hG0⟩:=Aap hG hg hp base (by grind) (by subst hbase;rfl) (by subst hbase;rfl) (by subst hbase;rfl) (by subst hbase;rfl) λt tv hl=>⟨(hbt t tv hl).1,(hbt t tv hl).2.2⟩;have key:∀ n (x:Xs li.ps) (a:Act) (w:World),li.m x<n->li.inv x0 x->R F (Fq base li.ps x) a w->Code.rounds P b (Aj2 F K Q) n a w:=by
      intro n
      induction n with
      | zero=>intro x a w hm _ _;omega
      | succ n ihn=>
       intro x a w hm hx hR;refine wp_mono (ih _ a w _ hR (hbody x hx)) ?_;rintro e a' w' ⟨ex,σ',he,⟨G',h'⟩,hh'⟩;cases ex with
       | exit id=>obtain rfl:=he;exact⟨.exit id,σ',rfl,⟨G',h'⟩,hh'⟩
       | ret=>obtain rfl:=he;exact⟨.ret,σ',rfl,⟨G',h'⟩,hh'⟩
       | normal=>
        obtain rfl:=he;obtain⟨σ',G',h',hh2⟩:=Nd _ _ _ _ h' hh';unfold AmE at hh2;split at hh2
        ·rename_i x' ab' hg';split at hh2
         ·rename_i ps hs;cases hc:(Ix σ' li.ps ab'&&σ'.nt==base.nt&&σ'.fb==base.fb&&σ'.fl==base.fl) with
          | false=>simp[hc,Out.holds] at hh2
          | true=>
           simp only[hc,aO] at hh2;simp at hc;obtain⟨⟨⟨c1,c2⟩,c3⟩,c4⟩:=hc;obtain⟨hps,⟨hinv',hm'⟩,_⟩:=CZ hh2;obtain⟨G2,hG2⟩:=Aap h' hg' c1 base (by grind) (by subst hbase;rfl) c3.symm c4.symm c2.symm λt tv hl=>⟨(hbt t tv hl).1,AeZ h' hs hps t tv (hbt t tv hl).2.1⟩;exact ihn x' a' w' o_ hinv' ⟨G2,hG2⟩
         ·exact hh2.elim
        ·exact hh2.elim
     exact wp_loop_rounds _ (key _ x0 a w (Nat.lt_succ_self _) hinv ⟨G0,hG0⟩)
   ·exact hh.elim
  ·exact hh.elim
 | _=>intro σ a w K h hh;simp only[run] at hh;exact hh.elim
end
end Go.D
namespace Go.D
def Qs (P:Program) (σ:St):ResultVar->Option (Bool×List Cell)
 | .tmp t=>match σ.get t with
  | .v agg cs=>some (agg,cs)
  | _=>none
 | .cell t T=>match σ.get t,P.underlying T,P.info? T with
  | .ptr b 0,some _,some i=>match look σ.bx b with
   | some cs=>if cs.length=i.size/\(EH.aggOf P T=true\/i.size=1) then some (EH.aggOf P T,cs) else none
   | none=>none
  | _,_,_=>none
def J7 (P:Program) (σ:St):List ResultVar->Option (List (Bool×List Cell))
 | []=>some []
 | r::rs=>match Qs P σ r,J7 P σ rs with
  | some p,some ps=>some (p::ps)
  | _,_=>none
def J8 (σ:St):List (Bool×List Cell)->Option (List (Bool×List FC))
 | []=>some []
 | p::ps=>match Pm σ p.2,J8 σ ps with
  | some (ds,_),some qs=>some ((p.1,ds)::qs)
  | _,_=>none
def Ka (σ:St):List Nat->Option (List (Nat×List FC))
 | []=>some []
 | b::bs=>match look σ.bx b with
  | some cs=>match Pm σ cs,Ka σ bs with
   | some (ds,_),some qs=>some ((b,ds)::qs)
   | _,_=>none
  | none=>none
def keptL (σ:St):List Nat->Option (List (Nat×Tree))
 | []=>some []
 | l::ls=>match look σ.hp l,keptL σ ls with
  | some T,some hs=>some ((l,T)::hs)
  | _,_=>none
def KH (mk:Nat->Pl):Nat->List Cell->List (Pl×Cell)
 | _,[]=>[]
 | j,c::cs=>(mk j,c)::KH mk (j+1) cs
def Nx:Nat->List (Bool×List Cell)->List (Pl×Cell)
 | _,[]=>[]
 | i,p::ps=>KH (.res i) 0 p.2++Nx (i+1) ps
def Kh (σ:St):List Nat->List (Pl×Cell)
 | []=>[]
 | b::bs=>(match look σ.bx b with|some cs=>KH (.box b) 0 cs|none=>[])++Kh σ bs
def Dl:List (Pl×Cell)->List Nat
 | []=>[]
 | (_,.ref l)::r=>l::Dl r
 | _::r=>Dl r
def AaD:List (Bool×List FC)->Res
 | [p]=>.one p.1 p.2
 | qs=>.tup qs
def SX (P:Program) (fn:Func) (fb kl:List Nat) (σ:St):Out :=
 match J7 P σ fn.results.toList with
 | some ps=>match J8 σ ps,Ka σ fb,keptL σ kl with
  | some qs,some bs,some hs=>bif AE (Dl (Nx 0 ps)++(Dl (Kh σ fb)++kl))&&AE fb then .leaf (AaD qs) bs hs else .bad
  | _,_,_=>.bad
 | none=>.bad
def Aoh (P:Program) (fn:Func) (fb kl:List Nat):Ex->St->Out
 | .normal,σ=>settle fn.results.toList σ λσ=>J6 fb σ (SX P fn fb kl)
 | .ret,σ=>settle fn.results.toList σ λσ=>J6 fb σ (SX P fn fb kl)
 | .exit _,_=>.bad
def start (nt:Nat) (A:Arg) (kl:List Nat):St:={ nt,tm:=A.tm.zipIdx.map λp=>(p.2,p.1),bx:=A.bx,hp:=A.hp,fb:=A.bx.map (·.1),fl:=kl }
def Rl:FC->FC->Prop
 | .val u,.val v=>u=v
 | .nl,.nl=>True
 | .nl,.l _ ys=>ys=[]
 | .l t xs,.l t' ys=>if h:t=t' then h▸xs=ys else False
 | _,_=>False
def KK:List FC->List FC->Prop
 | [],[]=>True
 | c::cs,d::ds=>Rl c d/\KK cs ds
 | _,_=>False
def Ww:List (Bool×List FC)->List (Bool×List FC)->Prop
 | [],[]=>True
 | p::ps,q::qs=>(p.1=q.1/\KK p.2 q.2)/\Ww ps qs
 | _,_=>False
def K0:Res->Res->Prop
 | .one a cs,.one b ds=>a=b/\KK cs ds
 | .tup ps,.tup qs=>Ww ps qs
 | _,_=>False
def VT:List (Nat×List FC)->List (Nat×List FC)->Prop
 | [],[]=>True
 | p::ps,q::qs=>(p.1=q.1/\KK p.2 q.2)/\VT ps qs
 | _,_=>False
def Gd (p q:Pst):Prop:=K0 p.r q.r/\VT p.bx q.bx/\p.hp=q.hp
def Ctr.post (c:Ctr):Post:=⟨λr bx hp=>match c with
 | .det _ q=>Gd ⟨r,hp,bx⟩ q
 | .ex _ X ok q=>∃ x:X,ok x/\Gd ⟨r,hp,bx⟩ (q x)
 | .df _ _ e q=>Gd ⟨r,hp,bx⟩ (q e),λ_ _=>False⟩
def Aas:∀ {c d:FC},Rl c d->fcLe c d:=by
 intro c d h;cases c with
 | val u=>cases d<;>first|exact h.elim|(obtain rfl:=h;exact fcLe.refl _)
 | nl=>
  cases d with
  | val v=>exact h.elim
  | nl=>exact fcLe.refl _
  | l t ys=>obtain rfl:=h;exact .inr ⟨rfl,t,rfl⟩
 | l t xs=>
  cases d with
  | val v=>exact h.elim
  | nl=>exact h.elim
  | l t' ys=>
   simp only[Rl] at h;split at h
   ·rename_i e;subst e;obtain rfl:=h;exact fcLe.refl _
   ·exact h.elim
def Ki:∀ {cs ds:List FC},KK cs ds->FcsLe cs ds:=by
 intro cs
 induction cs with
 | nil=>intro ds h;cases ds with
  | nil=>exact .nil
  | cons d ds=>exact h.elim
 | cons c cs ih=>intro ds h;cases ds with
  | nil=>exact h.elim
  | cons d ds=>exact .cons (Aas h.1) (ih h.2)
section
variable {P:Program} {E:Env} {F:Fr P} {G:Gh} {σ:St} {a:Act} {w w':World} {o:Oper} {K:St->Out} {Q:Post} {Qx:Exit->Act->World->Prop}
def PartO.le {agg:Bool} {cs ds:List FC} {v:Value} {Fs:Nat->Nat->Prop} (h:PartO w agg cs v Fs) (hl:FcsLe cs ds):PartO w agg ds v Fs:=by
 obtain⟨hl1,hl2⟩:=hl.get;have hle:∀ (j:Nat) (c d:FC),cs[j]? = some c->ds[j]? = some d->D.le (fcC c) (fcC d):=by intro j c d hc hd;have:=(hl2 j).le;simp_all
 cases agg with
 | false=>
  obtain⟨c,rfl,h1,h2⟩:=h;obtain⟨d,rfl⟩:=eo.1 hl1.symm;exact⟨d,rfl,TO.le (hle 0 c d rfl rfl) h1,h2⟩
 | true=>
  obtain⟨vs,rfl,hs,h⟩:=h;refine⟨vs,rfl,o_,λj d hj=>?_⟩;have hlt:j<cs.length:=by grind
  obtain⟨u,hu,h1,h2⟩:=h j _ (aG hlt);exact⟨u,hu,TO.le (hle j _ d (aG hlt) hj) h1,h2⟩
def YH:∀ {ps qs:List (Bool×List FC)},Ww ps qs->ps.length=qs.length/\∀ (i:Nat) (q:Bool×List FC),qs[i]? = some q->∃ p,ps[i]? = some p/\p.1=q.1/\FcsLe p.2 q.2:=by
 intro ps
 induction ps with
 | nil=>intro qs h;cases qs with
  | nil=>simp
  | cons q qs=>exact h.elim
 | cons p ps ih=>intro qs h;cases qs with
  | nil=>exact h.elim
  | cons q qs=>
   obtain⟨h1,h2⟩:=ih h.2;refine⟨by grind,λi q' hq=>?_⟩;cases i with
   | zero=>simp only[List.getElem?_cons_zero,Q_] at hq;subst hq;exact⟨p,rfl,h.1.1,Ki h.1.2⟩
   | succ i=>simpa using h2 i q' (by grind)
def ResR.le {r r':Res} {v:Value} {Fs:Nat->Nat->Nat->Prop} (h:ResR w r v Fs) (hl:K0 r r'):ResR w r' v Fs:=by
 cases r with
 | one a cs=>
  cases r' with
  | tup qs=>exact hl.elim
  | one b ds=>obtain⟨rfl,hl⟩:=hl;exact PartO.le h (Ki hl)
 | tup ps=>
  cases r' with
  | one b ds=>exact hl.elim
  | tup qs=>
   obtain⟨vs,rfl,hs,hp⟩:=h;obtain⟨h1,h2⟩:=YH hl;refine⟨vs,rfl,o_,λi q hq=>?_⟩;obtain⟨p,hpi,e1,e2⟩:=h2 i q hq;obtain⟨u,hu,hpo⟩:=hp i p hpi;exact⟨u,hu,e1▸PartO.le hpo e2⟩
def MQ:∀ {ps qs:List (Nat×List FC)},VT ps qs->∀ b ds,look qs b=some ds->∃ cs,look ps b=some cs/\FcsLe cs ds:=by
 intro ps
 induction ps with
 | nil=>intro qs h;cases qs with
  | nil=>simp[look]
  | cons q qs=>exact h.elim
 | cons p ps ih=>intro qs h;cases qs with
  | nil=>exact h.elim
  | cons q qs=>
   obtain⟨p1,p2⟩:=p;obtain⟨q1,q2⟩:=q;obtain⟨⟨h1,h2⟩,h3⟩:=h;intro b ds hl;subst h1;simp only[look] at hl ⊢;split at hl
   ·rename_i e;simp at hl;subst hl;exact⟨p2,by simp[e],Ki h2⟩
   ·grind
def PstF.le {p q:Pst} {v:Value} {Fs:Pl->Nat->Prop} (h:PstF w G w' v p Fs) (hl:Gd p q):PstF w G w' v q Fs:=by
 obtain⟨h1,h2,h3⟩:=hl;refine⟨λs b hs=>⟨(h.own s b hs).1,(h.own s b hs).2.1,λb0 hb0=>(h.own s b hs).2.2 b0 ?_⟩,h.dis,h.res.le h1,λl T hT=>h.hp l T (by grind),λb ds hb=>?_⟩
 ·obtain⟨ds,hds⟩:=Option.isSome_iff_exists.1 hb0;obtain⟨cs,hcs,_⟩:=MQ h2 b0 ds hds;rw[hcs];rfl
 ·obtain⟨cs,hcs,hle⟩:=MQ h2 b ds hb;obtain⟨r,e,k1,k2,k3⟩:=h.bx b cs hcs;obtain⟨l1,l2⟩:=hle.get;refine⟨r,e,k1,o_,λj d hd=>?_⟩;have hlt:j<cs.length:=by grind
  obtain⟨u,hu,ht,h1⟩:=k3 j _ (aG hlt);have:=(l2 j).le;refine⟨u,hu,TO.le ?_ ht,h1⟩;grind
def KQ (tmps:Array Value) (r:ResultVar):Sem Value:=match r with
 | .tmp t=>pure (tmps.getD t undef)
 | .cell a t=>do loadVar t (<-asAddr (tmps.getD a undef))
def UM (h:RG F G σ a w) {r:ResultVar} {p:Bool×List Cell} (hr:Qs P σ r=some p):∃ v,(KQ a.tmps r).run P w=.ok v w/\Gw w G p.1 p.2 v:=by
 unfold Qs at hr;split at hr
 ·rename_i t;have hx:=O1 h t;split at hr
  ·rename_i agg cs he;simp at hr;subst hr;rw[he] at hx;exact⟨_,rfl,hx⟩
  ·simp at hr
 ·rename_i t T;have hx:=O1 h t;split at hr
  ·rename_i b d i he hd hi;rw[he] at hx;split at hr
   ·rename_i cs hb;split at hr
    ·rename_i hc;obtain⟨hlen,hs⟩:=hc;simp at hr;subst hr;obtain⟨h1,row,e,h2,h3⟩:=h.bx b cs hb;have hrl:row.toList.length=i.size:=by rw[fD,h3.1,hlen]
     refine⟨G9 P T row.toList,?_,Ab4 (P:=P) T cs row.toList o_ (λj c hj=>by simpa using h3.2 j c hj) (by rwa [hlen])⟩;have:=F7 (P:=P) (w:=w) T d i (G.be b) 0 row e (0,0) hd hi h2 row.toList hrl (λj v hv=>by grind) hs;simp only[TVR] at hx;simp only[KQ,hx,asAddr,Sem.run_bind,Sem.run_pure,Result.andThen_ok,this]
    ·simp at hr
   ·simp at hr
  ·simp at hr
def T1 (h:RG F G σ a w):∀ (rs:List ResultVar) (ps:List (Bool×List Cell)),J7 P σ rs=some ps->∃ vs:List Value,(rs.mapM (KQ a.tmps)).run P w=.ok vs w/\vs.length=ps.length /\
 ∀ (i:Nat) (p:Bool×List Cell),ps[i]? = some p->∃ v,vs[i]? = some v/\Gw w G p.1 p.2 v:=by
 intro rs
 induction rs with
 | nil=>intro ps hp;simp only[J7,Q_] at hp;subst hp;exact⟨[],by simp,rfl,by simp⟩
 | cons r rs ih=>
  intro ps hp;simp only[J7] at hp;split at hp
  ·rename_i p ps' h1 h2;simp at hp;subst hp;obtain⟨v,hv,hpr⟩:=UM h h1;obtain⟨vs,hvs,hl,hps⟩:=ih ps' h2;refine⟨v::vs,?_,by grind,λi q hq=>?_⟩
   ·simp_all
   ·grind
  ·simp at hp
def S6 (fn:Func) (tmps:Array Value) (vs:List Value) (h:(fn.results.toList.mapM (KQ tmps)).run P w=.ok vs w) :
 (results fn tmps).run P w=.ok (if h:vs.length=1 then vs[0] else .tuple vs.toArray) w:=by
 have e:(fn.results.mapM (KQ tmps):Sem (Array Value)).run P w=.ok vs.toArray w:=by rw[Array.mapM_eq_mapM_toList];simp_all
 have e2:results fn tmps=(fn.results.mapM (KQ tmps) >>= λvs=>pure (if h:vs.size=1 then vs[0] else .tuple vs)):=rfl;rw[e2,Sem.run_bind,e,Result.andThen_ok];simp
def Wl (h:RG F G σ a w) {agg:Bool} {cs:List Cell} {ds:List FC} {ab:List Nat} {v:Value} (hl:Pm σ cs=some (ds,ab)) (hv:Gw w G agg cs v) :
 PartO w agg ds v (λj b=>∃ c m,cs[j]? = some c/\AI c m/\G.ow b=.lab m):=by
 obtain⟨l1,l2,l3,l4⟩:=NI h cs ds ab hl;have cell:∀ (j:Nat) (c:Cell) (u:Value),cs[j]? = some c->CellR w G c u->TO w (fcC (ds.getD j .nl)) u (λb=>∃ c m,cs[j]? = some c/\AI c m/\G.ow b=.lab m)/\u.oneCell'=true :=
  λj c u hc hu=>⟨(l2 j c u hc hu).frame λb hb _=>⟨rfl,let ⟨m,hm,hb⟩:=hb;⟨c,m,hc,hm,hb⟩⟩,hu.one⟩
 cases agg with
 | false=>
  obtain⟨c,hcs,hcr⟩:=hv;subst hcs;obtain⟨d,rfl⟩:=eo.1 l1;have:=cell 0 c v rfl hcr;exact⟨d,rfl,by grind,this.2⟩
 | true=>
  obtain⟨vs,rfl,hs,hcr⟩:=hv;refine⟨vs,rfl,o_,λj d hj=>?_⟩;have hlt:j<cs.length:=by grind
  obtain⟨u,hu,hcu⟩:=hcr j _ (aG hlt);have:=cell j _ u (aG hlt) hcu;simp_all
def RB:∀ {ps:List (Bool×List Cell)} {qs:List (Bool×List FC)},J8 σ ps=some qs->qs.length=ps.length/\∀ (i:Nat) (q:Bool×List FC),qs[i]? = some q->∃ p ab,ps[i]? = some p/\p.1=q.1/\Pm σ p.2=some (q.2,ab):=by
 intro ps
 induction ps with
 | nil=>intro qs h;simp only[J8,Q_] at h;subst h;simp
 | cons p ps ih=>
  intro qs h;simp only[J8] at h;grind
def Qh:∀ {bs:List Nat} {qs:List (Nat×List FC)},Ka σ bs=some qs->qs.map (·.1)=bs/\∀ b ds,look qs b=some ds->b∈bs/\∃ cs ab,look σ.bx b=some cs/\Pm σ cs=some (ds,ab):=by
 intro bs
 induction bs with
 | nil=>intro qs h;simp only[Ka,Q_] at h;subst h;simp[look]
 | cons b bs ih=>
  intro qs h;simp only[Ka] at h;split at h
  ·split at h
   ·rename_i ds ab qs' h1 h2;simp at h;subst h;obtain⟨k1,k2⟩:=ih h2;refine⟨by grind,λb' ds' hl=>?_⟩;simp only[look] at hl;grind
   ·cases h
  ·cases h
theorem eB:∀ {ls:List Nat} {hs:List (Nat×Tree)},keptL σ ls=some hs->∀ l T,look hs l=some T->l∈ls/\look σ.hp l=some T:=by
 intro ls
 induction ls with
 | nil=>intro hs h;simp only[keptL,Q_] at h;subst h;simp[look]
 | cons l ls ih=>
  intro hs h;simp only[keptL] at h;split at h
  ·rename_i T hs' h1 h2;simp at h;subst h;intro l' T' hl;simp only[look] at hl;grind
  ·cases h
def AeN:∀ {L:List (Pl×Cell)} {s:Pl} {c:Cell} {m:Nat},(s,c)∈L->AI c m->m∈Dl L:=by
 intro L
 induction L with
 | nil=>intro s c m h;simp at h
 | cons x L ih=>
  obtain⟨s0,c0⟩:=x;intro s c m h hm;rcases ah.1 h with e|h
  ·injection e with e1 e2
   subst e2;cases c<;>simp[AI] at hm;subst hm;simp[Dl]
  ·have:=ih h hm;cases c0<;>simp[Dl,this]
def Aex:∀ {L:List (Pl×Cell)} {s s':Pl} {c c':Cell} {m:Nat},AE (Dl L)=true->(s,c)∈L->(s',c')∈L->AI c m->AI c' m->s=s':=by
 intro L
 induction L with
 | nil=>intro s s' c c' m _ h;simp at h
 | cons x L ih=>
  obtain⟨s0,c0⟩:=x;intro s s' c c' m hn h h' hm hm';have tail:AE (Dl L)=true:=by cases c0<;>simp only[Dl] at hn<;>first|exact hn|(simp only[AE,S_] at hn;exact hn.2)
  have key:∀ {t:Pl} {d:Cell},(t,d)∈L->AI d m->¬ AI c0 m:=by intro t d hd hdm hc0;cases c0<;>simp[AI] at hc0;subst hc0;simp only[Dl,AE,S_,cM,List.contains_eq_mem,cy] at hn;exact hn.1 (AeN hd hdm)
  grind
def Mt {mk:Nat->Pl}:∀ {cs:List Cell} {s j:Nat} {c:Cell},cs[j]? = some c->(mk (s+j),c)∈KH mk s cs:=by
 intro cs
 induction cs with
 | nil=>intro s j c h;simp at h
 | cons d cs ih=>
  intro s j c h;cases j with
  | zero=>simp only[List.getElem?_cons_zero,Q_] at h;subst h;simp[KH]
  | succ j=>
   have:=ih (s:=s+1) (j:=j) (c:=c) (by grind);rw[show s+1+j=s+(j+1) from o_] at this;simp[KH,this]
def Tm:∀ {ps:List (Bool×List Cell)} {s i j:Nat} {p:Bool×List Cell} {c:Cell},ps[i]? = some p->p.2[j]? = some c->(Pl.res (s+i) j,c)∈Nx s ps:=by
 intro ps
 induction ps with
 | nil=>intro s i j p c h;simp at h
 | cons q ps ih=>
  intro s i j p c h hc;cases i with
  | zero=>
   simp at h;subst h;have:=Mt (mk:=.res s) (s:=0) hc;rw[cE] at this;exact ae.2 (.inl this)
  | succ i=>
   have:=ih (s:=s+1) (i:=i) (by grind) hc;rw[show s+1+i=s+(i+1) from o_] at this;exact ae.2 (.inr this)
def UH:∀ {bs:List Nat} {b j:Nat} {cs:List Cell} {c:Cell},b∈bs->look σ.bx b=some cs->cs[j]? = some c->(Pl.box b j,c)∈Kh σ bs:=by
 intro bs
 induction bs with
 | nil=>intro b j cs c h;simp at h
 | cons b0 bs ih=>
  intro b j cs c h hl hc;simp only[Kh];rcases ah.1 h with rfl|h
  ·have:=Mt (mk:=.box b) (s:=0) hc;simp_all
  ·simp_all
def UK (L R:List (Pl×Cell)):Dl (L++R)=Dl L++Dl R:=by
 induction L with
 | nil=>rfl
 | cons x L ih=>
  obtain⟨s,c⟩:=x;cases c<;>simp[Dl,ih]
def F0 {P:Program} (w:World) (G:Gh) (A:Arg) (kl:List Nat) (hB:Xh P w G.ow):Fr P:=⟨w,G.ow,A.bx.map λp=>(p.1,G.be p.1),kl.map λl=>(l,G.hv l),hB⟩
def Nh {α:Type} {f:Nat->α}:∀ {l:List Nat} {k:Nat},k∈l->look (l.map λx=>(x,f x)) k=some (f k):=by
 intro l
 induction l with
 | nil=>intro k h;simp at h
 | cons x l ih=>
  simp only[bz,look];grind
def Vf {w0:World} {G0:Gh} {A:Arg} {fn:Func} {kl:List Nat} {hB:Xh P w0 G0.ow} {S:Pst->Prop} (hA:∀ g,G0.ow g=.free->g<w0.heap.size) (hAc:∀ g,G0.ow g=.cur->g<w0.heap.size) (h:RG (F0 w0 G0 A kl hB) G σ a w) (hh:(SX P fn (A.bx.map (·.1)) kl σ).holds ⟨λr bx hp=>S ⟨r,hp,bx⟩,λ_ _=>False⟩) :
 ∃ v p Fs,(results fn a.tmps).run P w=.ok v w/\S p/\PstF w0 G0 w v p Fs:=by
 unfold SX at hh;split at hh
 ·rename_i ps hps;split at hh
  ·rename_i qs bs hs h1 h2 h3;generalize hcnd:(AE (Dl (Nx 0 ps)++(Dl (Kh σ (A.bx.map (·.1)))++kl))&&AE (A.bx.map (·.1)))=cnd at hh;cases cnd with
   | false=>exact hh.elim
   | true=>
    rw[S_] at hcnd;obtain⟨hn,hnb⟩:=hcnd;obtain⟨vs,hrun,hlen,hpv⟩:=T1 (P:=P) h fn.results.toList ps hps;have hres:=S6 fn a.tmps vs hrun;obtain⟨q1,q2⟩:=RB h1;obtain⟨b1,b2⟩:=Qh h2;have k2:=eB h3
    let L:List (Pl×Cell):=Nx 0 ps++(Kh σ (A.bx.map (·.1))++kl.map λl=>(Pl.keep l,Cell.ref l))
    have hlk:Dl (kl.map λl=>(Pl.keep l,Cell.ref l))=kl:=by
     clear hn h3 k2 h hh L
     induction kl with
     | nil=>rfl
     | cons l kl ih=>simp[Dl,ih]
    have hL:AE (Dl L)=true:=by simp only[L,UK,hlk];exact hn
    let Fs:Pl->Nat->Prop:=λs b=>∃ c m,(s,c)∈L/\AI c m/\G.ow b=.lab m
    have hF:PstF w0 G0 w (if h:vs.length=1 then vs[0] else .tuple vs.toArray) ⟨AaD qs,hs,bs⟩ Fs:=by
     refine⟨?_,?_,?_,?_,?_⟩
     ·rintro s b ⟨c,m,_,_,hb⟩;refine⟨h.lt b (by grind),⟨λhf=>?_,λhf=>?_⟩,λb0 hb0 e=>?_⟩
      ·have:=(h.keep.free b (hA b hf) hf).2;rw[hb] at this;cases this
      ·have:=(h.keep.cur b (hAc b hf) hf).1;rw[hb] at this;cases this
      ·obtain⟨ds,hds⟩:=Option.isSome_iff_exists.1 hb0;obtain⟨m1,cs,ab,m2,_⟩:=b2 b0 ds hds;have hbe:G.be b0=G0.be b0:=by refine(h.fb b0 (G0.be b0) ?_).1;have:=Nh (f:=λb=>G0.be b) m1;simpa [F0,ee,Function.comp_def] using this
       have:=(h.bx b0 cs m2).1;rw[hbe,<-e,hb] at this;cases this
     ·rintro s s' b ⟨c,m,hc,hm,hb⟩ ⟨c',m',hc',hm',hb'⟩;rw[hb] at hb';injection hb' with e
      subst e;exact Aex hL hc hc' hm hm'
     ·have part:∀ (i:Nat) (q:Bool×List FC),qs[i]? = some q->∃ u,vs[i]? = some u/\PartO w q.1 q.2 u (λj=>Fs (.res i j)):=by
       intro i q hq;obtain⟨p,ab,hp,e1,hl⟩:=q2 i q hq;obtain⟨u,hu,hpr⟩:=hpv i p hp;refine⟨u,hu,?_⟩;have:=Wl h hl hpr;rw[e1] at this;have fo:∀ j b,(∃ c m,p.2[j]? = some c/\AI c m/\G.ow b=.lab m)->Fs (.res i j) b:=by
        rintro j b ⟨c,m,hc,hm,hb⟩;refine⟨c,m,ae.2 (.inl ?_),hm,hb⟩;have:=Tm (s:=0) hp hc
        rwa [cE] at this
       generalize q.1=ag at this;cases ag with
       | false=>obtain⟨c,e1,e2,e3⟩:=this;exact⟨c,e1,e2.frame λb hb _=>⟨rfl,fo 0 b hb⟩,e3⟩
       | true=>obtain⟨us,e1,e2,e3⟩:=this;exact⟨us,e1,e2,λj c hc=>let ⟨u,hu,ht,h1⟩:=e3 j c hc;⟨u,hu,ht.frame λb hb _=>⟨rfl,fo j b hb⟩,h1⟩⟩
      match qs,q1,part with
      | [],q1,part=>
       have hl0:vs.length=0:=by grind
       rw[dif_neg o_];exact⟨vs.toArray,rfl,o_,by simp⟩
      | [q],q1,part=>
       have hv1:vs.length=1:=by grind
       obtain⟨u,hu,hpo⟩:=part 0 q rfl;obtain⟨v0,rfl⟩:=eo.1 hv1;simp at hu;subst hu;exact hpo
      | q::q'::qs,q1,part=>
       have hl0:vs.length=qs.length+2:=by grind
       rw[dif_neg o_];refine⟨vs.toArray,rfl,o_,λi p hp=>?_⟩;obtain⟨u,hu,hpo⟩:=part i p hp;exact⟨u,by grind,hpo⟩
     ·intro l T hl;obtain⟨m1,m2⟩:=k2 l T hl;have hv:G.hv l=G0.hv l:=(h.fl l (G0.hv l) (Nh (f:=λl=>G0.hv l) m1)).1;rw[<-hv];exact(h.hp l T m2).frame λb hb _=>⟨rfl,_,l,ae.2 (.inr (ae.2 (.inr (bG.2 ⟨l,m1,rfl⟩)))),rfl,hb⟩
     ·intro b ds hb;obtain⟨m1,cs,ab,m2,m3⟩:=b2 b ds hb;have hbe:G.be b=G0.be b:=by refine(h.fb b (G0.be b) ?_).1;have:=Nh (f:=λb=>G0.be b) m1;simpa [F0,ee,Function.comp_def] using this
      obtain⟨_,r,e,n1,n2⟩:=h.bx b cs m2;have hpr:=Wl h (v:=.agg r) (agg:=true) m3 ⟨r,rfl,n2⟩;obtain⟨r',er,e2,e3⟩:=hpr;injection er with er
      subst er;refine⟨r,e,by grind,e2,λj c hc=>?_⟩;obtain⟨u,hu,ht,h1⟩:=e3 j c hc;refine⟨u,hu,ht.frame λx hx _=>⟨rfl,?_⟩,h1⟩;obtain⟨c',m,hc',hm,hx⟩:=hx;exact⟨c',m,ae.2 (.inr (ae.2 (.inl (UH m1 m2 hc')))),hm,hx⟩
    exact⟨_,_,Fs,hres,hh,hF⟩
  ·exact hh.elim
 ·exact hh.elim
def YL (args:List TV) (t:Nat):look (args.zipIdx.map λp=>(p.2,p.1)) t=args[t]?:=by
 have key:∀ (args:List TV) (s t:Nat),look ((args.zipIdx s).map λp=>(p.2,p.1)) t=if t<s then none else args[t-s]?:=by
  intro args
  induction args with
  | nil=>intro s t;simp[look]
  | cons x args ih=>
   simp only[List.zipIdx_cons,bz,look,ih,cY];grind
 simp_all
def JR (P:Program) (E:Env) (L:WJ) (kp kl:List Nat) (fn:Func) (A:Arg):Out:=run P E L kp (fn.body.getD .skip) (start fn.ntmps A kl) (Aoh P fn (A.bx.map (·.1)) kl)
def SA {α β:Type} {f:Nat->β}:∀ {l:List (Nat×α)} {b:Nat} {β0:β},look (l.map λp=>(p.1,f p.1)) b=some β0->f b=β0/\(l.map (·.1)).contains b=true:=by
 intro l
 induction l with
 | nil=>intro b β0 h;simp[look] at h
 | cons p l ih=>
  intro b β0 h;simp only[bz,look] at h;grind
def IT {f:Nat} {fn:Func} {A:Arg} {c:Ctr} {L:WJ} {kp kl:List Nat} (hE:EOk P E) (hf:P.funcs[f]? = some fn) (hb:fn.body.isSome=true) (hn:decide (A.tm.length<=fn.ntmps)=true)
 (hh:(JR P E L kp kl fn A).holds c.post):Con P f A c.sat:=by
 obtain⟨code,hc⟩:=Option.isSome_iff_exists.1 hb;intro w vs G hB hA;have hn:=dZ hn;refine calls_of_wp hf hc ?_;have h0:RG (F0 w G A kl hB) G (start fn.ntmps A kl) { tmps:=vs++Array.replicate (fn.ntmps-vs.size) undef,defers:=[]} w:=by
  refine⟨?_,hA.bx,hA.hp,hA.lt,rfl,rfl,⟨rfl,DrLe.refl _⟩,Y_ _,?_,?_,?_,?_,rfl⟩
  ·intro t tv hl;simp only[start,YL] at hl;obtain⟨v,hv,ht⟩:=hA.tm t tv hl;have hlt:t<vs.size:=(Array.getElem?_eq_some_iff.1 hv).1;have:(vs++Array.replicate (fn.ntmps-vs.size) undef).getD t undef=v:=by rw[Array.getD_eq_getD_getElem?,Array.getElem?_append_left hlt,hv];rfl
   rw[this];exact ht
  ·exact⟨λg hg hfree=>⟨rfl,hfree⟩,λg hg hcu=>⟨hcu,(hA.cr g hcu).same rfl⟩,hA.cr⟩
  ·intro b β hl;exact SA (f:=λb=>G.be b) (l:=A.bx) hl
  ·intro l v hl;have:=G5 hl;simp only[F0,bG] at this;obtain⟨l',h1,h2⟩:=this;injection h2 with e1 e2
   subst e1;subst e2;exact⟨rfl,by simpa [start] using h1⟩
  ·have:=hA.sz;simp[start];omega
 unfold JR at hh;rw[hc] at hh;refine wp_mono (Akj hE code _ _ w _ ⟨_,h0⟩ hh) ?_;rintro e a' w' ⟨ex,σ',he,⟨G',h'⟩,hh'⟩;have fin:(settle fn.results.toList σ' λσ=>J6 (A.bx.map (·.1)) σ (SX P fn (A.bx.map (·.1)) kl)).holds c.post->a'.defers=[]/\∃ v,(results fn a'.tmps).run P w'=.ok v w'/\Adv w G c.sat (.returned v) w':=by
  intro hl;obtain⟨σ1,G1,h',hl⟩:=AbX _ _ _ _ h' hl;obtain⟨σ2,G2,h',hl⟩:=Tb _ _ _ _ h' hl;have hfr:∀ g,G.ow g=.free->g<w.heap.size:=λg hg=>hA.lt g (by grind)
  have hfc:∀ g,G.ow g=.cur->g<w.heap.size:=λg hg=>hA.lt g (by grind)
  refine⟨h'.df,?_⟩;have on:Onward w w':=⟨h'.os,h'.tape,h'.output,h'.size⟩;have fr:∀ g,G.ow g=.free->w'.heap[g]? = w.heap[g]?:=λg hg=>(h'.keep.free g (hfr g hg) hg).1
  have cu:∀ g,G.ow g=.cur->CurStep w w' g:=λg hg=>(h'.keep.cur g (hfc g hg) hg).2
  cases c with
  | det pre q=>
   obtain⟨v,p,Fs,h1,h2,h3⟩:=Vf (S:=λp=>Gd p q) hfr hfc h' hl;exact⟨v,h1,v,q,rfl,rfl,on,fr,cu,Fs,h3.le h2⟩
  | ex pre X ok q=>
   obtain⟨v,p,Fs,h1,⟨x,hx,h2⟩,h3⟩:=Vf (S:=λp=>∃ x:X,ok x/\Gd p (q x)) hfr hfc h' hl;exact⟨v,h1,v,q x,⟨x,hx,rfl⟩,rfl,on,fr,cu,Fs,h3.le h2⟩
  | df pre X e q=>
   obtain⟨v,p,Fs,h1,h2,h3⟩:=Vf (S:=λp=>Gd p (q e)) hfr hfc h' hl;exact⟨v,h1,v,q e,rfl,rfl,on,fr,cu,Fs,h3.le h2⟩
 cases ex with
 | normal=>obtain rfl:=he;exact fin hh'
 | ret=>obtain rfl:=he;exact fin hh'
 | exit id=>exact hh'.elim
end
end Go.D
namespace Go.D
abbrev Ts:List Sh->Type
 | []=>Unit
 | s::ss=>s.X×Ts ss
inductive Ak where
 | v (s:Sh)
 | p (s:Sh)
 | c (g:Nat) (ss:List Sh)
 | u
abbrev Ak.X:Ak->Type
 | .v s=>s.X
 | .p s=>s.X
 | .c _ ss=>Ts ss
 | .u=>Unit
abbrev As:List Ak->Type
 | []=>Unit
 | s::ss=>s.X×As ss
abbrev aI:Ak:=.v (.el .int)
abbrev aB:Ak:=.v (.el .bool)
abbrev aT:Ak:=.v (.el .str)
abbrev aE (t:Ty):Ak:=.v (.el t)
abbrev aL (t:Ty):Ak:=.v (.sl t)
abbrev rI:Sh:=.el .int
abbrev rB:Sh:=.el .bool
abbrev rT:Sh:=.el .str
abbrev rE (t:Ty):Sh:=.el t
abbrev rL (t:Ty):Sh:=.sl t
def OA (s:Sh) (x:s.X):TV:=.v s.agg ((s.fc x).map (toCell none))
def DI:(ss:List Sh)->Ts ss->List Cap
 | [],_=>[]
 | s::ss,x=>.aptr (s.fc x.1)::DI ss x.2
def Aev:(k:Ak)->k.X->TV
 | .v s,x=>OA s x
 | .p s,x=>.aptr (s.fc x) 0
 | .c g ss,x=>.clo g (DI ss x)
 | .u,_=>.cur
def Du:(ss:List Ak)->As ss->List TV
 | [],_=>[]
 | s::ss,x=>Aev s x.1::Du ss x.2
def decV (s:Sh):TV->Option s.X
 | .v agg cs=>bif agg==s.agg then(match Fi cs with
  | some ds=>s.dec ds
  | none=>none) else none
 | _=>none
def IZ:(ss:List Sh)->List Cap->Option (Ts ss)
 | [],[]=>some ()
 | s::ss,.aptr ds::cs=>match s.dec ds,IZ ss cs with
  | some y,some ys=>some (y,ys)
  | _,_=>none
 | _,_=>none
def R6:(k:Ak)->TV->Option k.X
 | .v s,x=>decV s x
 | .p s,.aptr ds 0=>s.dec ds
 | .c g ss,.clo g' cs=>bif g==g' then IZ ss cs else none
 | .u,.cur=>some ()
 | _,_=>none
def Mx:(ss:List Ak)->List TV->Option (As ss)
 | [],[]=>some ()
 | s::ss,x::xs=>match R6 s x,Mx ss xs with
  | some y,some ys=>some (y,ys)
  | _,_=>none
 | _,_=>none
def Jq:(rs:List Sh)->Ts rs->List (Bool×List FC)
 | [],_=>[]
 | s::ss,x=>(s.agg,s.fc x.1)::Jq ss x.2
def mkR (rs:List Sh) (y:Ts rs):Res:=AaD (Jq rs y)
structure Fct where
 as:List Ak
 rs:List Sh
 pre:As as->Prop
 fn:As as->Ts rs
def Fct.spec (S:Fct):D.Spec:=λA=>match A.bx,A.hp with
 | [],[]=>match Mx S.as A.tm with
  | some x=>some (.df [S.pre x] (Ts S.rs) (S.fn x) λy=>⟨mkR S.rs y,[],[]⟩)
  | none=>none
 | _,_=>none
def Fct.arg (S:Fct) (x:As S.as):Arg:=⟨Du S.as x,[],[]⟩
def Fct.ctr (S:Fct) (x:As S.as):Ctr:=.det [] ⟨mkR S.rs (S.fn x),[],[]⟩
def Fct.ok (S:Fct) (P:Program) (f:Nat):Prop:=∀ x,S.pre x->Con P f (S.arg x) (S.ctr x).sat
def Aa4 {w:World} {G:Gh} {s:Sh} {x:TV} {y:s.X} {v:Value} (h:decV s x=some y) (hx:TVR w G x v):TVR w G (OA s y) v:=by
 unfold decV at h;split at h
 ·rename_i agg cs;cases ha:(agg==s.agg) with
  | false=>simp[ha] at h
  | true=>
   simp only[ha,aO] at h;split at h
   ·rename_i ds hd;obtain⟨l1,l2⟩:=HM (w:=w) (G:=G) cs ds hd;obtain⟨k1,k2⟩:=(Sh.dec_ok h).get;have hlen:((s.fc y).map (toCell none)).length=cs.length:=by rw[cC,<-k1,l1]
    have ha':agg=s.agg:=by simpa using ha
    unfold OA;rw[<-ha'];refine F1 (cs:=cs) hlen (λj d hj=>?_) hx;rw[cp] at hj;cases hq:(s.fc y)[j]? with
    | none=>simp[hq] at hj
    | some fc=>
     simp only[hq,aY,Q_] at hj;subst hj;have hlt:j<cs.length:=by rw[<-l1,k1];exact(List.getElem?_eq_some_iff.1 hq).1
     refine⟨_,aG hlt,λu hu=>Gu ?_⟩;have ht:=l2 j _ u (aG hlt) hu;have hle:=(k2 j).le;have hd':(s.fc y).getD j .nl=fc:=by simp[List.getD,hq]
     rw[hd'] at hle;exact TR.le hle ht
   ·cases h
 ·cases h
def Vl {w:World} {G:Gh} {s:Sh} {ds:List FC} {y:s.X} {r:Array Value} (h:s.dec ds=some y) (hr:Pt w G ds r):Pt w G (s.fc y) r:=by
 obtain⟨k1,k2⟩:=(Sh.dec_ok h).get;intro j c hc;have hlt:j<ds.length:=by rw[k1];exact(List.getElem?_eq_some_iff.1 hc).1
 obtain⟨u,hu,ht⟩:=hr j _ (aG hlt);have hle:=(k2 j).le;have hd':(s.fc y).getD j .nl=c:=by simp[List.getD,hc]
 have hd2:ds.getD j .nl=ds[j]:=by simp[List.getD,aG hlt]
 rw[hd',hd2] at hle;exact⟨u,hu,TR.le hle ht⟩
def Yc {w:World} {G:Gh}:∀ {ss:List Sh} {cs:List Cap} {y:Ts ss},IZ ss cs=some y->(DI ss y).length=cs.length/\∀ (j:Nat) (c:Cap),(DI ss y)[j]? = some c->∃ c',cs[j]? = some c'/\∀ v,YR w G c' v->YR w G c v:=by
 intro ss
 induction ss with
 | nil=>
  intro cs y h;cases cs with
  | nil=>simp[DI]
  | cons c cs=>cases c<;>simp[IZ] at h
 | cons s ss ih=>
  intro cs y h;cases cs with
  | nil=>simp[IZ] at h
  | cons c cs=>
   cases c with
   | ptr b=>simp[IZ] at h
   | aptr ds=>
    simp only[IZ] at h;split at h
    ·rename_i y1 ys h1 h2;simp only[Q_] at h;subst h;obtain⟨k1,k2⟩:=ih h2;refine⟨by simp[DI,k1],λj c hj=>?_⟩;cases j with
     | zero=>
      simp only[DI,List.getElem?_cons_zero,Q_] at hj;subst hj;exact⟨_,rfl,λv ⟨g,r,e,fr,q1,q2,q3,q4⟩=>⟨g,r,e,fr,q1,q2,q3,Vl h1 q4⟩⟩
     | succ j=>simpa [DI] using k2 j c (by simpa [DI] using hj)
    ·cases h
def Vs {w:World} {G:Gh} {k:Ak} {x:TV} {y:k.X} {v:Value} (h:R6 k x=some y) (hx:TVR w G x v):TVR w G (Aev k y) v:=by
 cases k with
 | v s=>exact Aa4 h hx
 | p s=>
  cases x<;>first|(simp[R6] at h;done)|skip
  rename_i ds off;cases off with
  | succ n=>simp[R6] at h
  | zero=>
   obtain⟨g,r,e,fr,q1,q2,q3,q4⟩:=hx;exact⟨g,r,e,fr,q1,q2,q3,Vl h q4⟩
 | c g ss=>
  cases x<;>first|(simp[R6] at h;done)|skip
  rename_i g' cs;simp only[R6] at h;cases hg:(g==g') with
  | false=>simp[hg] at h
  | true=>
   simp only[hg,aO] at h;have hg':g=g':=by simpa using hg
   subst hg';obtain⟨k1,k2⟩:=Yc (w:=w) (G:=G) h;obtain⟨vs,rfl,hs,hc⟩:=hx;refine⟨vs,rfl,by rw[hs,k1],λj c hj=>?_⟩;grind
 | u=>
  cases x<;>first|(simp[R6] at h;done)|skip
  exact hx
def J3 {w:World} {G:Gh}:∀ {ss:List Ak} {xs:List TV} {ys:As ss},Mx ss xs=some ys->(Du ss ys).length=xs.length/\∀ (j:Nat) (y:TV),(Du ss ys)[j]? = some y->∃ x,xs[j]? = some x/\∀ v,TVR w G x v->TVR w G y v:=by
 intro ss
 induction ss with
 | nil=>
  intro xs ys h;cases xs with
  | nil=>simp[Du]
  | cons x xs=>simp[Mx] at h
 | cons s ss ih=>
  intro xs ys h;cases xs with
  | nil=>simp[Mx] at h
  | cons x xs=>
   simp only[Mx] at h;split at h
   ·rename_i y ys' h1 h2;simp only[Q_] at h;subst h;obtain⟨k1,k2⟩:=ih h2;refine⟨by simp[Du,k1],λj y' hj=>?_⟩;cases j with
    | zero=>simp only[Du,List.getElem?_cons_zero,Q_] at hj;subst hj;exact⟨x,rfl,λv hv=>Vs h1 hv⟩
    | succ j=>simpa [Du] using k2 j y' (by simpa [Du] using hj)
   ·cases h
def Fct.spec_ok {S:Fct} {P:Program} {f:Nat} (h:S.ok P f):Ln P f S.spec:=by
 intro A c hc hp;unfold Fct.spec at hc;split at hc
 ·rename_i hb hh;split at hc
  ·rename_i x hx;simp only[Q_] at hc;subst hc;have hpre:S.pre x:=hp _ (eI _);intro w vs G hB hA;refine(h x hpre w vs G hB ⟨?_,?_,by simp[Fct.arg,look],by simp[Fct.arg,look],hA.lt,hA.cr⟩).mono ?_
   ·rw[hA.sz];exact(J3 (w:=w) (G:=G) hx).1.symm
   ·intro j y hj;obtain⟨x',hx',hr⟩:=(J3 (w:=w) (G:=G) hx).2 j y hj;obtain⟨v,hv,ht⟩:=hA.tm j x' hx';simp_all
   ·rintro e w' ⟨v,p,hs,hrest⟩;exact⟨v,p,hs,hrest⟩
  ·cases hc
 ·cases hc
abbrev vi (n:Int):FC:=.val (.int .i64 n)
abbrev vb (b:Bool):FC:=.val (.bool b)
abbrev vs (s:ByteArray):FC:=.val (.string s)
def AgH (g:D.Spec):Option (List Md×D.Spec)->D.Spec
 | some ([],g0)=>λA=>match g A with
  | some c=>some c
  | none=>g0 A
 | _=>g
def Env.add (E:Env) (f:Nat) (S:Fct):Env:=E.ext f [] (AgH S.spec (E.fn f))
def EOk.add {P:Program} {E:Env} (h:EOk P E) {f:Nat} {S:Fct} (hS:S.ok P f):EOk P (E.add f S):=by
 refine h.ext ?_ (λhn=>by cases hn);have hS':=Fct.spec_ok hS;refine(?_:Ln P f _);unfold AgH;split
 ·rename_i g0 hg0;intro A c hc;dsimp only at hc;split at hc
  ·rename_i c' hc';simp only[Q_] at hc;subst hc;exact hS' A c' hc'
  ·exact(h f [] g0 hg0).1 A c hc
 ·exact hS'
structure HoldsE (e:Out) (Q:Post):Prop where
 h:e.holds Q
def Fct.of {S:Fct} {P:Program} {E:Env} {L:As S.as->WJ} {kp:List Nat} {f:Nat} {fn:Func} (hE:EOk P E) (hf:P.funcs[f]? = some fn) (hb:fn.body.isSome=true) (hn:decide (S.as.length<=fn.ntmps)=true)
 (hh:∀ x,S.pre x->HoldsE (JR P E (L x) kp [] fn (S.arg x)) (S.ctr x).post):S.ok P f:=by
 intro x hx;refine IT hE hf hb ?_ (hh x hx).h;have hl:∀ (ss:List Ak) (x:As ss),(Du ss x).length=ss.length:=by
  intro ss
  induction ss with
  | nil=>intro _;rfl
  | cons s ss ih=>intro x;simp[Du,ih]
 have:(S.arg x).tm.length=S.as.length:=hl _ _;rw[this];exact hn
def Ui (c:FC):Rl c c:=by
 cases c with
 | val u=>rfl
 | nl=>trivial
 | l t xs=>simp[Rl]
def FZ:∀ cs:List FC,KK cs cs
 | []=>trivial
 | c::cs=>⟨Ui c,FZ cs⟩
def Nv:∀ ps:List (Bool×List FC),Ww ps ps
 | []=>trivial
 | p::ps=>⟨⟨rfl,FZ _⟩,Nv ps⟩
def FU:∀ r:Res,K0 r r
 | .one _ cs=>⟨rfl,FZ cs⟩
 | .tup ps=>Nv ps
def Fct.leafY {S:Fct} {x:As S.as} {y:Ts S.rs} (h:y=S.fn x):(Out.leaf (mkR S.rs y) [] []).holds (S.ctr x).post:=by
 subst h;exact⟨FU _,trivial,rfl⟩
def Fct.leafR {S:Fct} {x:As S.as} {r:Res} (h:K0 r (mkR S.rs (S.fn x))):(Out.leaf r [] []).holds (S.ctr x).post:=⟨h,trivial,rfl⟩
def Fct.leafZ {S:Fct} {x:As S.as} {r:Res} (y:Ts S.rs) (h1:K0 r (mkR S.rs y)) (h:y=S.fn x):(Out.leaf r [] []).holds (S.ctr x).post:=Fct.leafR (h▸h1)
def Ac {Q:Post} {p:Prop} {x:Out} (hp:p) (hx:p->x.holds Q):(Out.ob p x).holds Q:=⟨hp,hx hp⟩
def Aa {Q:Post} {b:Bool} {x y:Out} (hx:b=true->x.holds Q) (hy:b=false->y.holds Q):(Out.br b x y).holds Q:=⟨hx,hy⟩
def Ju {Q:Post} {X:Type} {p:Prop} {inv:X->Prop} {x:X->Out} (hp:p) (hx:∀ y,inv y->(x y).holds Q):(Out.lp X p inv x).holds Q:=⟨hp,hx⟩
def K6 {Q:Post} {X:Type} {e:X} {x:X->Out} (hx:(x e).holds Q):(Out.lt X e x).holds Q:=hx
def YA {Q:Post} {X:Type} {e:X} {x:X->Out} (hx:∀ y,y=e->(x y).holds Q):(Out.lt X e x).holds Q:=hx e rfl
def Aq {Q:Post} {li:LInv} {x0:Xs li.ps} {f:Xs li.ps->(Xs li.ps->Prop)->Out} (hp:li.inv x0 x0) (hx:∀ y,li.inv x0 y->(f y λx'=>li.inv x0 x'/\li.m x'<li.m y).holds Q):(lpx li x0 f).holds Q:=⟨hp,hx⟩
def Out.cl (S:Fct) (x:As S.as) (k:Ts S.rs->Out):Out:=.ob (S.pre x) (.lt (Ts S.rs) (S.fn x) k)
def Aj {Q:Post} {S:Fct} {x:As S.as} {k:Ts S.rs->Out} (hp:S.pre x) (hx:S.pre x->(k (S.fn x)).holds Q):(Out.cl S x k).holds Q:=⟨hp,hx hp⟩
def Cu {Q:Post} {S:Fct} {x:As S.as} {k:Ts S.rs->Out} (hp:S.pre x) (hx:S.pre x->∀ y,y=S.fn x->(k y).holds Q):(Out.cl S x k).holds Q:=⟨hp,hx hp _ rfl⟩
def Out.lf (S:Fct) (y:Ts S.rs):Out:=.leaf (mkR S.rs y) [] []
def lfY {S:Fct} {x:As S.as} {y:Ts S.rs} (h:y=S.fn x):(Out.lf S y).holds (S.ctr x).post:=Fct.leafY h
def wr (x:Int):Int:=IntKind.i64.wrap x
def w1 (x:Int):Int:=IntKind.i64.wrap (x+1)
def inB (i:Int) (n:Nat):Prop:=0<=i/\i<n
def ho {e:Out} {Q:Post} (X:Out) (hX:X.holds Q) (h:e=X:=by kernel_rfl):HoldsE e Q:=⟨h▸hX⟩
def Fct.o {S:Fct} {P:Program} {E:Env} {f:Nat} {fn:Func} (kp:List Nat) (hE:EOk P E) (hf:P.funcs[f]? = some fn)
 (hh:∀ x,S.pre x->HoldsE (JR P E (λ_=>none) kp [] fn (S.arg x)) (S.ctr x).post) (hc:(fn.body.isSome&&decide (S.as.length<=fn.ntmps))=true:=by kernel_rfl):S.ok P f:=by
 rw[S_] at hc;exact Fct.of (L:=λ_ _=>none) hE hf hc.1 hc.2 hh
end Go.D
namespace Go.D
open Go.RowKit Go.ChangeShapes Go.WideShapes
def Jf:Nat->FC->Prop
 | _,.val (.int k n)=>(Lit.int k n).wf=true
 | _,.val (.string s)=>s.size<=maxLen
 | 0,.l _ xs=>xs.length<=maxLen
 | d+1,.l t xs=>xs.length<=maxLen/\∀ x∈xs,∀ c∈enc t x,Jf d c
 | _,_=>True
def good (t:Ty) (x:El t):Prop:=∀ c∈enc t x,Jf 8 c
def Sh.good (s:Sh) (x:s.X):Prop:=∀ c∈s.fc x,Jf 8 c
abbrev Ls (ss:List Sh):List Ak:=ss.map .v
def goods:(ss:List Sh)->As (Ls ss)->Prop
 | [],_=>True
 | s::ss,x=>s.good x.1/\goods ss x.2
def Yw:∀ (d:Nat) (c:FC),Jf (d+1) c->Jf d c:=by
 intro d
 induction d with
 | zero=>
  intro c h;cases c with
  | val v=>cases v<;>exact h
  | nl=>trivial
  | l t xs=>exact h.1
 | succ d ih=>
  intro c h;cases c with
  | val v=>cases v<;>exact h
  | nl=>trivial
  | l t xs=>exact⟨h.1,λx hx c hc=>ih c (h.2 x hx c hc)⟩
def Af4 {d e:Nat} (hde:d<=e) {c:FC} (h:Jf e c):Jf d c:=by
 induction e with
 | zero=>
  simp_all
 | succ e ih=>
  by_cases hd:d=e+1
  ·subst hd;exact h
  ·exact ih o_ (Yw e c h)
def JG (P:Program) (r:TypeId->Option (List Shp)):List Field->Nat->Option (List Shp)
 | [],_=>some []
 | f::fs,off=>match r f.type,JG P r fs (off+P.cellsOf f.type) with
  | some s,some s'=>bif f.offset==off&&s.length==P.cellsOf f.type then some (s++s') else none
  | _,_=>none
def shapeOf (P:Program) (ty:TypeId->Option Ty):Nat->TypeId->Option (List Shp)
 | 0,_=>none
 | d+1,T=>match P.underlying T with
  | some .bool=>some [.kb]
  | some (.int .i64)=>some [.ki]
  | some (.int .u8)=>some [.ku]
  | some .string=>some [.ks]
  | some (.slice e)=>match ty e with
   | some t=>some [.kl t]
   | none=>none
  | some (.struct fs)=>match JG P (shapeOf P ty d) fs.toList 0 with
   | some s=>bif s.length==P.cellsOf T then some s else none
   | none=>none
  | _=>none
def NC:List Shp->List Shp->Bool
 | [],[]=>true
 | a::as,b::bs=>decide (a=b)&&NC as bs
 | _,_=>false
def An4 (P:Program) (ty:TypeId->Option Ty) (l:List TypeId):Bool :=
 l.all λe=>match ty e with
  | some t=>(match shapeOf P ty 20 e with
   | some s=>NC s t.shapes
   | none=>false)&&P.cellsOf e==t.width
  | none=>false
def SM:∀ {a b:List Shp},NC a b=true->a=b:=by
 intro a
 induction a with
 | nil=>intro b h;cases b<;>simp_all [NC]
 | cons x a ih=>intro b h;cases b with
  | nil=>simp[NC] at h
  | cons y b=>simp only[NC,S_,av] at h;rw[h.1,ih h.2]
def T8 {α:Type} [Inhabited α] {p:Nat->α->Prop}:∀ {n:Nat},(∀ i,i<n->∃ y,p i y)->∃ l:List α,l.length=n/\∀ i,i<n->p i (l.getD i default):=by
 intro n
 induction n with
 | zero=>intro _;exact⟨[],rfl,λi h=>o_⟩
 | succ n ih=>
  intro h;obtain⟨l,h1,h2⟩:=ih λi hi=>h i o_
  obtain⟨y,hy⟩:=h n o_;refine⟨l++[y],by simp[h1],λi hi=>?_⟩;grind
section
variable {H:Type} {enc':TypeId×Value->H} {P:Program} {w:World} {ty:TypeId->Option Ty} {spare:Nat->Bool} {held:Bool}
def inW (w:World):Nat->Prop:=λg=>g<w.heap.size
def Told (w:World) (cs:List Value) (sh:List Shp):Prop:=∃ fs:List FC,fs.length=cs.length/\fs.map FC.shp=sh/\(∀ (j:Nat) (c:FC) (u:Value),fs[j]? = some c->cs[j]? = some u->TR w (inW w) (fcC c) u)/\∀ c∈fs,Jf 8 c
def LY {u:Value} {S:Nat->Prop} (h:plain u=true):TR w S (.val u) u:=⟨rfl,h⟩
def Iq {c:FC} {u:Value} (h:TR w (inW w) (fcC c) u) (hg:Jf 8 c):Told w [u] [c.shp]:=by
 refine⟨[c],rfl,rfl,λj c' u' hc hu=>?_,λc' hc=>by simp at hc;subst hc;exact hg⟩;grind
def Y5 {a:Addr} {n:Nat} {cs:List Value} (h:w.cells? 0 a n=some cs):cs.length=n/\∀ j,j<n->w.cell? (a.add j)=cs[j]?:=by
 unfold World.cells? at h;rw[G_ (Nat.zero_le _)] at h;refine⟨by simpa using mapM_some_length h,λj hj=>?_⟩;exact mapM_some_get h j j (by simp[hj])
def Aje {a:Addr} {u:Value} (h:w.cell? a=some u):∃ g o row e fr,a=⟨g,o,none⟩/\w.heap[g]? = some (.cells row e fr)/\row[o]? = some u:=by
 unfold World.cell? at h;split at h
 ·rename_i c t fr hb;split at h
  ·cases h
  ·rename_i hs;obtain⟨g,o,sp⟩:=a;simp only[Option.isSome_iff_ne_none,ne_eq,Decidable.not_not] at hs;grind
 ·cases h
def Abz (c:FC) (h:Jf 8 c) (d:Nat) (hd:d<=8):Jf d c:=Af4 hd h
def IS {t:Ty} {x:El t} {c:FC} (hc:c∈enc t x):c.rank<=t.rank:=by
 have:=Wi t x;simp_all
def Ad8:∀ (d:Nat) (c:FC),c.rank<=d->Jf d c->Jf (d+1) c:=by
 intro d
 induction d with
 | zero=>
  intro c hr h;cases c with
  | val v=>cases v<;>exact h
  | nl=>trivial
  | l t xs=>simp[FC.rank] at hr
 | succ d ih=>
  intro c hr h;cases c with
  | val v=>cases v<;>exact h
  | nl=>trivial
  | l t xs=>
   simp only[FC.rank] at hr;exact⟨h.1,λx hx c hc=>ih c (by have:=IS hc;omega) (h.2 x hx c hc)⟩
def AbK (hty:∀ e t,ty e=some t->shapeOf P ty 20 e=some t.shapes/\P.cellsOf e=t.width):∀ (fuel:Nat) (T:TypeId) (cs:List Value) (x:DataW H×List MemPlace) (d:Nat) (sh:List Shp),
 DataW.trod enc' P w 0 spare held fuel T cs=some x->shapeOf P ty d T=some sh->Told w cs sh:=by
 intro fuel
 induction fuel with
 | zero=>intro T cs x d sh h;simp[DataW.trod] at h
 | succ n ih=>
  intro T cs x d sh h hs;cases d with
  | zero=>simp[shapeOf] at hs
  | succ d=>
   unfold shapeOf at hs;split at hs
   ·rename_i hu;simp only[Q_] at hs;subst hs;obtain⟨b,rfl,_⟩:=DataW.trod_bool hu h;exact Iq (c:=.val (.bool b)) (LY rfl) trivial
   ·rename_i hu;simp only[Q_] at hs;subst hs;obtain⟨m,rfl,_,hw⟩:=DataW.trod_int hu h;exact Iq (c:=.val (.int .i64 m)) (LY rfl) hw
   ·rename_i hu;simp only[Q_] at hs;subst hs;obtain⟨m,rfl,_,hw⟩:=DataW.trod_int hu h;exact Iq (c:=.val (.int .u8 m)) (LY rfl) hw
   ·rename_i hu;simp only[Q_] at hs;subst hs;obtain⟨s,rfl,_,hw⟩:=DataW.trod_string hu h;exact Iq (c:=.val (.string s)) (LY rfl) hw
   ·rename_i e hu;split at hs
    ·rename_i t ht;simp only[Q_] at hs;subst hs;obtain⟨hsh,hcw⟩:=hty e t ht;rcases DataW.trod_slice hu h with⟨rfl,_⟩|⟨a,len,cap,elems,rest,n',hn,rfl,_,_,hlc,hcm,hlen,hel,_,_⟩
     ·refine Iq (c:=.l t []) ?_ ⟨Nat.zero_le _,by simp⟩;rw[DH];exact⟨none,0,rfl,Y_ _,.inl rfl⟩
     ·have hn':n=n':=o_
      subst hn';have each:∀ i,i<len->∃ y:El t,(∀ j,j<t.width->∃ u,w.cell? ((a.add (i*t.width)).add j)=some u/\TR w (inW w) (fcC ((D.enc t y).getD j .nl)) u)/\∀ c∈D.enc t y,Jf 8 c:=by
       intro i hi;have h1:=hel i hi;rw[hcw] at h1;have hlt:i<elems.length:=o_
       rw[aG hlt,Option.bind_eq_some_iff] at h1;obtain⟨cs',hcs,htr⟩:=h1;obtain⟨fs,f1,f2,f3,f4⟩:=ih e cs' _ 20 t.shapes htr hsh;obtain⟨y,rfl⟩:=SB t fs f2;obtain⟨c1,c2⟩:=Y5 hcs;refine⟨y,λj hj=>?_,f4⟩;have hj':j<cs'.length:=o_
       refine⟨cs'[j],by rw[c2 j hj];simp[hj'],?_⟩;have hje:j<(D.enc t y).length:=by rw[K1];exact hj
       rw[aV,aG hje,Option.getD_some];exact f3 j _ _ (aG hje) (aG hj')
      obtain⟨xs,x1,x2⟩:=T8 each;refine Iq (c:=.l t xs) ?_ ⟨o_,λy hy c hc=>?_⟩
      ·rw[DH,x1];refine⟨some a,cap,rfl,hlc,?_⟩;by_cases h0:len=0
       ·exact .inl h0
       ·right;obtain⟨u,hu1,_⟩:=(x2 0 o_).1 0 (EB t);have ha:(a.add (0*t.width)).add 0=a:=by simp[Addr.add]
        rw[ha] at hu1;obtain⟨g,o,row,te,fr,rfl,hg,_⟩:=Aje hu1;refine⟨g,o,row,te,fr,rfl,(Array.getElem?_eq_some_iff.1 hg).1,hg,λi hi j hj=>?_⟩;obtain⟨u,hu1,hu2⟩:=(x2 i hi).1 j hj;rw[EM,EM] at hu1;refine⟨u,?_,?_⟩
        ·unfold World.cell? at hu1;rw[hg] at hu1;simpa using hu1
        ·simpa [cell] using hu2
      ·obtain⟨i,hi⟩:=List.mem_iff_getElem?.1 hy;have hilt:i<len:=by rw[<-x1];exact(List.getElem?_eq_some_iff.1 hi).1
       have:=(x2 i hilt).2;have hxi:xs.getD i default=y:=by simp[List.getD,hi]
       rw[hxi] at this;exact Abz c (this c hc) 7 o_
    ·cases hs
   ·rename_i fs hu;split at hs
    ·rename_i s hsf;cases hl:(s.length==P.cellsOf T) with
     | false=>simp[hl] at hs
     | true=>
      simp only[hl,aO,Q_] at hs;subst hs;obtain⟨xs,n',hn,_,hcl,hxl,hfld⟩:=DataW.trod_struct hu h;have hn':n=n':=o_
      subst hn';have key:∀ (l:List Field) (i0 off:Nat) (s:List Shp),(∀ (i:Nat) (f:Field),l[i]? = some f->fs[i0+i]? = some f)->JG P (shapeOf P ty d) l off=some s->off+s.length<=cs.length->Told w ((cs.drop off).take s.length) s:=by
       intro l
       induction l with
       | nil=>
        intro i0 off s _ hs _;simp only[JG,Q_] at hs;subst hs;exact⟨[],by simp,rfl,by simp,by simp⟩
       | cons f l ihl=>
        intro i0 off s hget hs hoff;simp only[JG] at hs;split at hs
        ·rename_i s1 s2 h1 h2;cases hc:(f.offset==off&&s1.length==P.cellsOf f.type) with
         | false=>simp[hc] at hs
         | true=>
          simp only[hc,aO,Q_] at hs;subst hs;simp only[S_,cY] at hc;obtain⟨ho,hsz⟩:=hc;have hf:=hfld i0 f (by simpa using hget 0 f rfl);have hi0:i0<xs.length:=by rw[hxl];exact(Array.getElem?_eq_some_iff.1 (by simpa using hget 0 f rfl)).1
          rw[aG hi0,ho,<-hsz] at hf;obtain⟨fa,a1,a2,a3,a4⟩:=ih f.type _ _ d s1 hf h1;simp only[ak] at hoff;obtain⟨fb,b1,b2,b3,b4⟩:=ihl (i0+1) (off+P.cellsOf f.type) s2 (λi f' hi=>by
           have:=hget (i+1) f' (by simpa using hi)
           rwa [show i0+(i+1)=i0+1+i from o_] at this) h2 o_
          rw[<-hsz] at b1 b3;have hsplit:(cs.drop off).take (s1++s2).length=(cs.drop off).take s1.length++(cs.drop (off+s1.length)).take s2.length:=by rw[ak,List.take_add,List.drop_drop]
          rw[hsplit];refine⟨fa++fb,by simp only[ak,a1,b1],by rw[fG,a2,b2],λj c u hc hu=>?_,λc hc=>?_⟩
          ·by_cases hj:j<fa.length
           ·rw[cL hj] at hc;rw[cL (by rw[<-a1];exact hj)] at hu;exact a3 j c u hc hu
           ·rw[cV o_] at hc;rw[cV (by rw[<-a1];omega),<-a1] at hu;exact b3 _ c u hc hu
          ·rcases ae.1 hc with hc|hc
           ·exact a4 c hc
           ·exact b4 c hc
        ·cases hs
      have hlen:s.length=cs.length:=by rw[hcl];simpa using hl
      have:=key fs.toList 0 0 s (λi f hi=>by simpa using hi) hsf o_;rw[hlen] at this;simpa using this
    ·cases hs
   ·cases hs
end
end Go.D
namespace Go.D
open Go.RowKit Go.ChangeShapes Go.WideShapes
def Sh.shapes:Sh->List Shp
 | .el t=>t.shapes
 | .sl t=>[.kl t]
def Sh.of_shape {s:Sh} {fs:List FC} (h:fs.map FC.shp=s.shapes):∃ x:s.X,fs=s.fc x:=by
 cases s with
 | el t=>exact SB t fs h
 | sl t=>
  obtain⟨a,g,rfl,h2⟩:=sL h;obtain rfl:=sE h2;exact⟨a,rfl⟩
def AkN (as:List Sh):Fct:=⟨Ls as,[.el .bool],λx=>goods as x,λ_=>(true,())⟩
def N9 (P:Program) (ty:TypeId->Option Ty):List TypeId->List Sh->Bool
 | [],[]=>true
 | T::ts,s::ss=>(match shapeOf P ty 20 T with
  | some sh=>NC sh s.shapes
  | none=>false)&&(EH.aggOf P T==s.agg)&&(match P.underlying T with
  | some .bool=>true
  | some (.int _)=>true
  | some .string=>true
  | some (.slice _)=>true
  | some (.struct _)=>true
  | _=>false)&&N9 P ty ts ss
 | _,_=>false
section
variable {H:Type} {enc':TypeId×Value->H} {P:Program} {w W W':World} {ty:TypeId->Option Ty} {spare:Nat->Bool} {held:Bool} {base:Nat}
def Qc {T:TypeId} {cs:Array Value} {d:TypeDesc} (hu:P.underlying T=some d) (hd:d=.bool\/(∃ k,d=.int k)\/d=.string\/∃ e,d=.slice e) (h:Value.okWide P w .any base T (.agg cs)):False:=by
 unfold Value.okWide at h;rw[hu] at h;rcases hd with rfl|⟨k,rfl⟩|rfl|⟨e,rfl⟩<;>simp only[Cell.okWide,hu,Cell.ok] at h
def AeC (hty:∀ e t,ty e=some t->shapeOf P ty 20 e=some t.shapes/\P.cellsOf e=t.width) {T:TypeId} {s:Sh} {v:Value} {d:DataW H} {p:List MemPlace} (h:DataW.Trod enc' P w 0 spare held T v d p) (hv:Value.okWide P w .any base T v)
 (hp:N9 P ty [T] [s]=true):∃ x:s.X,s.good x/\∀ G:Gh,(∀ g,g<w.heap.size->G.ow g=.free)->TVR w G (OA s x) v:=by
 simp only[N9,S_,cY,and_true] at hp;obtain⟨⟨hsh,hag⟩,hkind⟩:=hp;split at hsh
 ·rename_i sh hs;have hse:=SM hsh;subst hse;obtain⟨fuel,htr⟩:=h;obtain⟨fs,f1,f2,f3,f4⟩:=AbK hty fuel T _ _ 20 _ htr hs;obtain⟨x,rfl⟩:=Sh.of_shape f2;refine⟨x,f4,λG hG=>?_⟩;have tr:∀ (j:Nat) (c:FC) (u:Value),(s.fc x)[j]? = some c->v.cells.toList[j]? = some u->CellR w G (toCell none c) u:=λj c u hc hu=>
   Gu ((f3 j c u hc hu).frame λg hg _=>⟨rfl,hG g hg⟩)
  have cells:AP w G ((s.fc x).map (toCell none)) v.cells:=by
   refine⟨by rw[cC,f1,fD],λj c hj=>?_⟩;rw[cp] at hj;cases hq:(s.fc x)[j]? with
   | none=>simp[hq] at hj
   | some fc=>
    simp only[hq,aY,Q_] at hj;subst hj;have hlt:j<v.cells.size:=by have:=(List.getElem?_eq_some_iff.1 hq).1;rw[f1,fD] at this;exact this
    exact⟨v.cells[j],by simp[hlt],tr j fc _ hq (by simp[hlt])⟩
  unfold OA;rw[<-hag];split at hkind
  ·rename_i hu;have h0:EH.aggOf P T=false:=by simp[EH.aggOf,hu]
   rw[h0];have hna:∀ cs,v≠.agg cs:=λcs e=>Qc hu (.inl rfl) (e▸hv)
   have hvc:v.cells = #[v]:=by cases v<;>first|rfl|exact absurd rfl (hna _)
   obtain⟨c,hc⟩:=eo.1 (show((s.fc x).map (toCell none)).length=1 by rw[<-cells.1,hvc];rfl);obtain⟨u,hu1,hu2⟩:=cells.2 0 c (by rw[hc];rfl);rw[hvc] at hu1;simp only[List.getElem?_toArray,List.getElem?_cons_zero,Q_] at hu1;subst hu1;exact⟨c,hc,hu2⟩
  ·rename_i k hu;have h0:EH.aggOf P T=false:=by simp[EH.aggOf,hu]
   rw[h0];have hna:∀ cs,v≠.agg cs:=λcs e=>Qc hu (.inr (.inl ⟨k,rfl⟩)) (e▸hv)
   have hvc:v.cells = #[v]:=by cases v<;>first|rfl|exact absurd rfl (hna _)
   obtain⟨c,hc⟩:=eo.1 (show((s.fc x).map (toCell none)).length=1 by rw[<-cells.1,hvc];rfl);obtain⟨u,hu1,hu2⟩:=cells.2 0 c (by rw[hc];rfl);rw[hvc] at hu1;simp only[List.getElem?_toArray,List.getElem?_cons_zero,Q_] at hu1;subst hu1;exact⟨c,hc,hu2⟩
  ·rename_i hu;have h0:EH.aggOf P T=false:=by simp[EH.aggOf,hu]
   rw[h0];have hna:∀ cs,v≠.agg cs:=λcs e=>Qc hu (.inr (.inr (.inl rfl))) (e▸hv)
   have hvc:v.cells = #[v]:=by cases v<;>first|rfl|exact absurd rfl (hna _)
   obtain⟨c,hc⟩:=eo.1 (show((s.fc x).map (toCell none)).length=1 by rw[<-cells.1,hvc];rfl);obtain⟨u,hu1,hu2⟩:=cells.2 0 c (by rw[hc];rfl);rw[hvc] at hu1;simp only[List.getElem?_toArray,List.getElem?_cons_zero,Q_] at hu1;subst hu1;exact⟨c,hc,hu2⟩
  ·rename_i e hu;have h0:EH.aggOf P T=false:=by simp[EH.aggOf,hu]
   rw[h0];have hna:∀ cs,v≠.agg cs:=λcs e'=>Qc hu (.inr (.inr (.inr ⟨e,rfl⟩))) (e'▸hv)
   have hvc:v.cells = #[v]:=by cases v<;>first|rfl|exact absurd rfl (hna _)
   obtain⟨c,hc⟩:=eo.1 (show((s.fc x).map (toCell none)).length=1 by rw[<-cells.1,hvc];rfl);obtain⟨u,hu1,hu2⟩:=cells.2 0 c (by rw[hc];rfl);rw[hvc] at hu1;simp only[List.getElem?_toArray,List.getElem?_cons_zero,Q_] at hu1;subst hu1;exact⟨c,hc,hu2⟩
  ·rename_i fs hu;have h0:EH.aggOf P T=true:=by simp[EH.aggOf,hu]
   rw[h0];unfold Value.okWide at hv;rw[hu] at hv;obtain⟨cs,rfl,_⟩:=hv;exact⟨cs,rfl,cells⟩
  ·cases hkind
 ·cases hsh
def Adk (hty:∀ e t,ty e=some t->shapeOf P ty 20 e=some t.shapes/\P.cellsOf e=t.width):∀ (ts:List TypeId) (ss:List Sh) (vs:List Value) (ds:List (DataW H)) (ps:List MemPlace),N9 P ty ts ss=true->DataW.TrodAll enc' P w 0 spare held ts vs ds ps ->
 (∀ (j:Nat) t v,ts[j]? = some t->vs[j]? = some v->Value.okWide P w .any base t v)->∃ x:As (Ls ss),goods ss x/\∀ G:Gh,(∀ g,g<w.heap.size->G.ow g=.free)->(Du (Ls ss) x).length=vs.length/\∀ (j:Nat) (y:TV),(Du (Ls ss) x)[j]? = some y->∃ v,vs[j]? = some v/\TVR w G y v:=by
 intro ts
 induction ts with
 | nil=>
  intro ss vs ds ps hp h _;cases ss with
  | nil=>obtain⟨rfl,_,_⟩:=trodAll_nil h;exact⟨(),trivial,λG _=>⟨rfl,λj y hj=>by cases hj⟩⟩
  | cons s ss=>simp[N9] at hp
 | cons T ts ih=>
  intro ss vs ds ps hp h hv;cases ss with
  | nil=>simp[N9] at hp
  | cons s ss=>
   obtain⟨v,vs',d,ds',p,q,rfl,rfl,rfl,h1,h2⟩:=trodAll_cons h;have hp1:N9 P ty [T] [s]=true/\N9 P ty ts ss=true:=by simp only[N9,S_,and_true] at hp ⊢;exact hp
   obtain⟨x,g1,x1⟩:=AeC (base:=base) hty h1 (hv 0 T v rfl rfl) hp1.1;obtain⟨xs,g2,x2⟩:=ih ss vs' ds' q hp1.2 h2 λj t v ht hv'=>hv (j+1) t v (by simpa using ht) (by simpa using hv');refine⟨(x,xs),⟨g1,g2⟩,λG hG=>?_⟩;obtain⟨l1,l2⟩:=x2 G hG;refine⟨cB (· + 1) l1,λj y hj=>?_⟩;cases j with
   | zero=>have hj':some (OA s x)=some y:=hj;injection hj' with hj';subst hj';exact⟨v,rfl,x1 G hG⟩
   | succ j=>simpa using l2 j y hj
def Pf (hl:laidOutB P=true) (hb:Below W.heap.size W W'):∀ (ts:List TypeId) (vs:List Value) (ds:List (DataW H)) (ps:List MemPlace),(∀ t∈ts,P.readableRec t=true/\t<P.types.size) ->
 (∀ x∈ps,x.block<W.heap.size)->DataW.TrodAll enc' P W 0 (λ_=>true) true ts vs ds ps->DataW.TrodAll enc' P W' 0 (λb=>decide (b<W.heap.size)) true ts vs ds ps:=by
 intro ts
 induction ts with
 | nil=>intro vs ds ps _ _ h;obtain⟨rfl,rfl,rfl⟩:=trodAll_nil h;exact trodAll_mk0
 | cons t ts ih=>
  intro vs ds ps ht hlt h;obtain⟨v,vs',d,ds',p,q,rfl,rfl,rfl,h1,h2⟩:=trodAll_cons h;obtain⟨hr,hrow⟩:=ht t (by simp);exact trodAll_cons_mk (Below.trod hl hr hrow h1 hb λx hx=>hlt x (by simp[hx])) (ih vs' ds' q (λt' h'=>ht t' (by simp[h'])) (λx hx=>hlt x (by simp[hx])) h2)
def U1 {ts:List TypeId} {vs:List Value} {ds:List (DataW H)} {ps:List MemPlace} {spare:Nat->Bool} {base:Nat} {held:Bool} (h:DataW.TrodAll enc' P w base spare held ts vs ds ps):ds.length=ts.length:=by
 induction ts generalizing vs ds ps with
 | nil=>obtain⟨rfl,rfl,rfl⟩:=trodAll_nil h;rfl
 | cons t ts ih=>obtain⟨v,vs',d,ds',p,q,rfl,rfl,rfl,h1,h2⟩:=trodAll_cons h;simp[ih h2]
def Af8 {f:Func} {s:ChangeSpec} {T:TypeId} {args:Array Value} {ds gs:List (DataW H)} {before:List MemPlace} (hl:laidOutB P=true) (hts:∀ t∈f.params.toList,P.readableRec t=true/\t<P.types.size)
 (hres:f.resultTypes = #[T]) (hT:P.underlying T=some .bool) (hv:s.vars=[]) (hW:DataW.Whole enc' P f.params.toList s.vars false W args.toList ds gs before)
 (hfn:∀ xs:List (DataW H),xs.length=f.params.toList.length->s.fn H xs={ results:=[.lit (.bool true)],args:=xs }) (hb:Below W.heap.size W W') :
 s.post enc' P f false true false false W args (.bool true) W':=by
 have hW':=hW;have hlt:=hW.lt;obtain⟨p,q,hA,hV,rfl,_,_⟩:=hW;rw[hv] at hV;obtain⟨rfl,rfl⟩:=trodVars_none hV;have hlen:=U1 hA;have hf:=hfn (ds++[]) (by simpa using hlen);refine⟨ds,[],_,[],p,[],hW',?_,?_,?_,hb.frame _,by simp⟩
 ·rw[hf,hres];exact trodAll_cons_mk (shut_bool hT true) trodAll_mk0
 ·rw[hf];simpa using Pf hl hb _ _ _ _ hts (λx hx=>hlt x (by simp[hx])) hA
 ·rw[hf,hv];rfl
def Ai5 (P:Program) (f:Func) (ty:TypeId->Option Ty) (tl:List TypeId) (as:List Sh):Bool :=
 laidOutB P&&f.params.toList.all (λt=>P.readableRec t&&decide (t<P.types.size))&&N9 P ty f.params.toList as&&An4 P ty tl
def Y7 {g:Nat} {f:Func} {s:ChangeSpec} {T:TypeId} {args:Array Value} {ds gs:List (DataW H)} {before:List MemPlace} {as:List Sh} {tl:List TypeId} (hk:Ai5 P f ty tl as=true) (htl:∀ e t,ty e=some t->e∈tl)
 (hres:f.resultTypes = #[T]) (hT:P.underlying T=some .bool) (hv:s.vars=[]) (hW:DataW.Whole enc' P f.params.toList s.vars false W args.toList ds gs before)
 (hfn:∀ xs:List (DataW H),xs.length=f.params.toList.length->s.fn H xs={ results:=[.lit (.bool true)],args:=xs })
 (hok:∀ (j:Nat) t v,f.params[j]? = some t->args[j]? = some v->Value.okWide P W .any base t v)
 (hsh:W.ShapedOpen P) (hld:Laid P W) (hc:(AkN as).ok P g):Calls P g args W λe W'=>∃ v,e=.returned v/\s.post enc' P f false true false false W args v W':=by
 unfold Ai5 at hk;simp only[S_,aH,av] at hk;obtain⟨⟨⟨k1,k2⟩,k3⟩,k4⟩:=hk;have hty:∀ e t,ty e=some t->shapeOf P ty 20 e=some t.shapes/\P.cellsOf e=t.width:=by
  intro e t he;unfold An4 at k4;rw[aH] at k4;have:=k4 e (htl e t he);rw[he] at this;simp only[S_,cY] at this;obtain⟨h1,h2⟩:=this;split at h1
  ·rename_i s hs;exact⟨by rw[hs,SM h1],h2⟩
  ·cases h1
 have hW0:=hW;obtain⟨p,q,hA,_⟩:=hW0;obtain⟨x,g1,x1⟩:=Adk (base:=base) hty _ as _ _ _ k3 hA (λj t v ht hv'=>hok j t v (by simpa using ht) (by simpa using hv'))
 let G:Gh:={ ow:=λg=>if g<W.heap.size then .free else .gone,be:=λ_=>0,hv:=λ_=>.slice none 0 0 }
 obtain⟨l1,l2⟩:=x1 G (λg hg=>by simp[G,hg]);refine(hc x g1 W args G ⟨W,hsh,hld,λb hb=>⟨hb,by simp[G,hb],rfl⟩⟩ ⟨?_,?_,by simp[Fct.arg,look],by simp[Fct.arg,look],?_,λb hb=>?_⟩).mono ?_
 ·rw[<-fD,<-l1];rfl
 ·intro j y hj;obtain⟨v,hv',ht⟩:=l2 j y hj;exact⟨v,by simpa using hv',ht⟩
 ·intro b hb;by_cases h:b<W.heap.size
  ·exact h
  ·simp[G,h] at hb
 ·by_cases h:b<W.heap.size<;>simp[G,h] at hb
 ·rintro e W' ⟨v,p',hs,rfl,ho,hfr,_,Fs,hpf⟩;have hp:p'=_:=hs;subst hp;have hr:=hpf.res;obtain⟨c,hcs,hto,_⟩:=hr;have hcs':[FC.val (.bool true)]=[c]:=hcs;injection hcs' with hcs'
  subst hcs';obtain rfl:v=.bool true:=hto.1;exact⟨_,rfl,Af8 k1 k2 hres hT hv hW hfn ⟨ho.os,ho.tape,ho.output.1,ho.size,λb hb=>hfr b (by simp[G,hb])⟩⟩
end
end Go.D
namespace Go.D
def ZZ {H:Type} {enc:TypeId×Value->H} {a:Assume} {C:Checked} {os:Os} {f:FuncId} {fn:Func} {s:ChangeSpec} {conds:List PathCond} {apart fresh handsOn again:Bool}
 (own:ownKnob C.prog.godebug=none) (started:os.Started) (noInit:C.prog.inits.idxOf? f=none) (hfn:C.prog.funcs[f]? = some fn)
 (witness:∃ (w:World) (tape:Tape) (i:Input),w.os=os/\(w.forCall tape i).Shaped C.prog/\i.vars=[]/\Input.okWide C.prog (w.forCall tape i) .any w.heap.size f i /\
  s.pre6 enc C.prog fn conds apart (w.forCall tape i).memory i.args/\a.holds C.prog (lone (Frame.enter C.prog f i.args .normal) [] (w.forCall tape i)))
 (contract:∀ (W:World) (base:Nat) (args:Array Value) (ds gs:List (DataW H)) (before:List MemPlace),
  (∀ (j:Nat) t v,fn.params[j]? = some t->args[j]? = some v->Value.okWide C.prog W .any base t v) ->
  DataW.Whole enc C.prog fn.params.toList s.vars apart W args.toList ds gs before->W.ShapedOpen C.prog ->
  Calls C.prog f args W λe W'=>∃ v,e=.returned v/\s.post enc C.prog fn apart fresh handsOn again W args v W') :
 ReturnsInHanded a C os f .any (s.pre6 enc C.prog fn conds apart) (s.post enc C.prog fn apart fresh handsOn again):=by
 refine returnsInHanded_of_calls own started noInit witness ?_;intro w tape i _ hsh _ hok hpre _;obtain⟨_,_,_,fn',hfn',_,_,_,_,hval⟩:=hok;have e:fn'=fn:=Option.some.inj (hfn'.symm.trans hfn);subst e;obtain⟨⟨ds,gs,before,hw,hc⟩,_⟩:=hpre;have hw':=DataW.Whole.of_heap (w':=w.forCall tape i) (by rfl) hw;refine(contract (w.forCall tape i) w.heap.size i.args ds gs before hval hw' hsh).mono λe W' ⟨v,he,hp⟩=>?_
 subst he;exact ChangeSpec.post_blind hp
end Go.D
namespace Go.D
structure MS where
 s:Sh
 pre:s.X->Int->Prop
 fn:s.X->Int->s.X×Int
def MS.arg (S:MS) (x:S.s.X) (k:Int):Arg:=⟨[.v S.s.agg (B4 0 (S.s.fc x)),.v false [.sc (.int .i64 k)]],[],Eg 0 (S.s.fc x)⟩
def MS.pst (S:MS) (x:S.s.X) (k:Int):Pst:=⟨.one false [vi k],Eg 0 (S.s.fc x),[]⟩
def MS.ctr (S:MS) (x:S.s.X) (k:Int):Ctr:=.det [] (S.pst (S.fn x k).1 (S.fn x k).2)
def MS.ok (S:MS) (P:Program) (f:Nat):Prop:=∀ x k,S.pre x k->Con P f (S.arg x k) (S.ctr x k).sat
def H1:Nat->List Cell->Bool
 | _,[]=>true
 | j,.ref l::cs=>l==j&&H1 (j+1) cs
 | _,.nil::_=>false
 | j,_::cs=>H1 (j+1) cs
def Amw (hp:List (Nat×Tree)):St:={ nt:=0,tm:=[],bx:=[],hp:=hp,fb:=[],fl:=[]}
def MS.spec (S:MS):D.Spec:=λA=>match A.tm,A.bx with
 | [.v agg cs,.v false [.sc (.int .i64 k)]],[]=>bif agg==S.s.agg&&H1 0 cs then(match Pm (Amw A.hp) cs with
  | some (ds,_)=>match S.s.dec ds with
   | some x=>some (.df [S.pre x k] (S.s.X×Int) (S.fn x k) λy=>S.pst y.1 y.2)
   | none=>none
  | none=>none) else none
 | _,_=>none
def Ws {σ:St}:∀ {cs:List Cell} {ds:List FC} {ab:List Nat},Pm σ cs=some (ds,ab)->ds.length=cs.length/\∀ (j:Nat) (c:Cell) (d:FC),cs[j]? = some c->ds[j]? = some d ->
 (c=.nil/\d=.nl)\/(∃ l T,c=.ref l/\look σ.hp l=some T/\d=.l T.t T.xs)\/∃ v,c.val? = some v/\d=.val v:=by
 intro cs
 induction cs with
 | nil=>intro ds ab h;simp only[Pm,Q_,bP] at h;obtain⟨rfl,rfl⟩:=h;simp
 | cons c cs ih=>
  intro ds ab h;simp only[Pm] at h;split at h
  ·rename_i ds0 ab0 h0;obtain⟨h1,h2⟩:=ih h0;have go:∀ d,ds=d::ds0->((c=.nil/\d=.nl)\/(∃ l T,c=.ref l/\look σ.hp l=some T/\d=.l T.t T.xs)\/∃ v,c.val? = some v/\d=.val v)->ds.length=(c::cs).length/\∀ (j:Nat) (c':Cell) (d:FC),(c::cs)[j]? = some c'->ds[j]? = some d ->
    (c'=.nil/\d=.nl)\/(∃ l T,c'=.ref l/\look σ.hp l=some T/\d=.l T.t T.xs)\/∃ v,c'.val? = some v/\d=.val v:=by
    intro d hd hx;subst hd;refine⟨by simp[h1],λj c' d' hc hd'=>?_⟩;cases j with
    | zero=>simp only[List.getElem?_cons_zero,Q_] at hc hd';subst hc;subst hd';exact hx
    | succ j=>exact h2 j c' d' (by simpa using hc) (by simpa using hd')
   split at h
   ·simp only[Q_,bP] at h;exact go _ h.1.symm (.inl ⟨rfl,rfl⟩)
   ·rename_i l;split at h
    ·rename_i T hT;split at h
     ·cases h
     ·simp only[Q_,bP] at h;exact go _ h.1.symm (.inr (.inl ⟨l,T,rfl,hT,rfl⟩))
    ·cases h
   ·split at h
    ·rename_i v hv;simp only[Q_,bP] at h;exact go _ h.1.symm (.inr (.inr ⟨v,hv,rfl⟩))
    ·cases h
  ·cases h
def OR:∀ {cs:List Cell} {s:Nat},H1 s cs=true->(∀ (j l:Nat),cs[j]? = some (.ref l)->l=s+j)/\∀ j:Nat,cs[j]?≠some .nil:=by
 intro cs
 induction cs with
 | nil=>intro s _;simp
 | cons c cs ih=>
  intro s h;have tail:H1 (s+1) cs=true:=by cases c<;>simp only[H1,S_,cD] at h<;>first|exact h|exact h.2
  obtain⟨h1,h2⟩:=ih tail;refine⟨λj l hj=>?_,λj hj=>?_⟩
  ·cases j with
   | zero=>
    simp only[List.getElem?_cons_zero,Q_] at hj;subst hj;simp only[H1,S_,cY] at h;omega
   | succ j=>have:=h1 j l (by simpa using hj);omega
  ·cases j with
   | zero=>simp only[List.getElem?_cons_zero,Q_] at hj;subst hj;simp[H1] at h
   | succ j=>exact h2 j (by simpa using hj)
def FcsLe.eq_of:∀ {cs ds:List FC},FcsLe cs ds->(∀ (j:Nat),cs[j]?≠some .nl)->cs=ds:=by
 intro cs ds h
 induction h with
 | nil=>intro _;rfl
 | cons h1 h2 ih=>
  intro hn;rcases h1 with rfl|⟨rfl,_⟩
  ·rw[ih λj hj=>hn (j+1) (by simpa using hj)]
  ·exact absurd rfl (hn 0)
def OH:∀ {cs:List FC} {s l:Nat} {T:Tree},look (Eg s cs) l=some T->s<=l/\cs[l-s]? = some (.l T.t T.xs):=by
 intro cs
 induction cs with
 | nil=>intro s l T h;simp[Eg,look] at h
 | cons c cs ih=>
  intro s l T h;have step:look (Eg (s+1) cs) l=some T->s<=l/\(c::cs)[l-s]? = some (.l T.t T.xs):=by grind
  cases c with
  | val v=>exact step h
  | nl=>exact step h
  | l t xs=>
   simp only[Eg,look] at h;split at h
   ·grind
   ·exact step h
def Rr:∀ {cs:List FC} {s j:Nat} {c:Cell},(B4 s cs)[j]? = some c->∃ d,cs[j]? = some d/\((∃ v,d=.val v/\c=.sc v)\/(d=.nl/\c=.nil)\/∃ t xs,d=.l t xs/\c=.ref (s+j)):=by
 intro cs
 induction cs with
 | nil=>intro s j c h;simp[B4] at h
 | cons d cs ih=>
  intro s j c h;cases j with
  | zero=>
   cases d<;>simp only[B4,List.getElem?_cons_zero,Q_] at h<;>subst h
   ·simp
   ·simp
   ·simp
  | succ j=>
   have h':(B4 (s+1) cs)[j]? = some c:=by cases d<;>simpa [B4] using h
   grind
def MS.spec_ok {S:MS} {P:Program} {f:Nat} (h:S.ok P f):Ln P f S.spec:=by
 intro A c hc hp;unfold MS.spec at hc;split at hc
 ·rename_i agg cs k htm hbx;cases hcd:(agg==S.s.agg&&H1 0 cs) with
  | false=>simp[hcd] at hc
  | true=>
   simp only[hcd,aO] at hc;simp only[S_,cY] at hcd;obtain⟨rfl,hrefs⟩:=hcd;split at hc
   ·rename_i ds ab hl;split at hc
    ·rename_i x hx;simp only[Q_] at hc;subst hc;have hpre:S.pre x k:=hp _ (eI _);obtain⟨l1,l2⟩:=Ws hl;obtain⟨r1,r2⟩:=OR hrefs;have hds:ds=S.s.fc x:=by
      refine(Sh.dec_ok hx).eq_of λj hj=>?_
      have hlt:j<cs.length:=by rw[<-l1];exact(List.getElem?_eq_some_iff.1 hj).1
      rcases l2 j _ _ (aG hlt) hj with⟨e,_⟩|⟨_,_,_,_,e⟩|⟨_,_,e⟩
      ·exact r2 j (by rw[aG hlt,e])
      ·cases e
      ·cases e
     subst hds;intro w vs G hB hA;refine(h x k hpre w vs G hB ⟨?_,?_,by simp[MS.arg,look],?_,hA.lt,hA.cr⟩).mono ?_
     ·rw[hA.sz,htm];rfl
     ·intro j y hj;cases j with
      | zero=>
       simp only[MS.arg,List.getElem?_cons_zero,Q_] at hj;subst hj;obtain⟨v,hv,ht⟩:=hA.tm 0 (.v S.s.agg cs) (by rw[htm];rfl);refine⟨v,hv,F1 (cs:=cs) (by rw[FE,l1]) (λj d hd=>?_) ht⟩;obtain⟨fc,hfc,hcase⟩:=Rr hd;have hlt:j<cs.length:=by rw[<-l1];exact(List.getElem?_eq_some_iff.1 hfc).1
       refine⟨cs[j],aG hlt,λu hu=>?_⟩;have hrel:=l2 j _ _ (aG hlt) hfc;rcases hcase with⟨v',rfl,rfl⟩|⟨rfl,rfl⟩|⟨t,xs,rfl,rfl⟩
       ·rcases hrel with⟨_,e⟩|⟨_,_,_,_,e⟩|⟨v'',hv'',e⟩
        ·cases e
        ·cases e
        ·injection e with e;subst e;exact Cell.val_ok hu hv''
       ·rcases hrel with⟨e,_⟩|⟨_,_,_,_,e⟩|⟨_,_,e⟩
        ·exact absurd (by rw[aG hlt,e]) (r2 j)
        ·cases e
        ·cases e
       ·rcases hrel with⟨_,e⟩|⟨l,T,e1,_,_⟩|⟨_,_,e⟩
        ·cases e
        ·have hl':=r1 j l (by rw[aG hlt,e1]);rw[e1] at hu;subst hl';exact hu
        ·cases e
      | succ j=>
       obtain⟨v,hv,ht⟩:=hA.tm (j+1) y (by rw[htm];exact hj);exact⟨v,hv,ht⟩
     ·intro l T hl';obtain⟨_,hfc⟩:=OH hl';rw[Nat.sub_zero] at hfc;have hlt:l<cs.length:=by rw[<-l1];exact(List.getElem?_eq_some_iff.1 hfc).1
      rcases l2 l _ _ (aG hlt) hfc with⟨_,e⟩|⟨l',T',e1,e2,e3⟩|⟨_,_,e⟩
      ·cases e
      ·have hl2:=r1 l l' (by rw[aG hlt,e1]);rw[cE] at hl2;subst hl2;obtain⟨t1,x1⟩:=T;obtain⟨t2,x2⟩:=T';injection e3 with e4 e5
       subst e4;have e5:=eq_of_heq e5;subst e5;exact hA.hp l' _ e2
      ·cases e
     ·rintro e w' ⟨v,p,hs,hrest⟩;exact⟨v,p,hs,hrest⟩
    ·cases hc
   ·cases hc
 ·cases hc
def MS.of {S:MS} {P:Program} {E:Env} {L:S.s.X->Int->WJ} {kp kl:List Nat} {f:Nat} {fn:Func} (hE:EOk P E) (hf:P.funcs[f]? = some fn) (hb:fn.body.isSome=true) (hn:decide (2<=fn.ntmps)=true)
 (hh:∀ x k,S.pre x k->HoldsE (JR P E (L x k) kp kl fn (S.arg x k)) (S.ctr x k).post):S.ok P f:=by
 intro x k hx;exact IT hE hf hb hn (hh x k hx).h
def MS.leaf {S:MS} {x:S.s.X} {k:Int} {r:Res} {bx:List (Nat×List FC)} {hp:List (Nat×Tree)} (h:Gd ⟨r,hp,bx⟩ (S.pst (S.fn x k).1 (S.fn x k).2)):(Out.leaf r bx hp).holds (S.ctr x k).post:=h
end Go.D
namespace Go.D
inductive Gk where
 | l (a:Ak)
 | b (s:Sh)
 | k (s:Sh)
 | g (s:Sh)
 | i (m:Nat) (s:Sh)
abbrev Gk.X:Gk->Type
 | .l a=>a.X
 | .b s=>s.X
 | .k s=>s.X
 | .g s=>s.X
 | .i _ s=>s.X
abbrev Gs:List Gk->Type
 | []=>Unit
 | k::ks=>k.X×Gs ks
abbrev Ys:List Gk->Type
 | []=>Unit
 | .l _::ks=>Ys ks
 | .b s::ks=>s.X×Ys ks
 | .k s::ks=>s.X×Ys ks
 | .g _::ks=>Ys ks
 | .i _ _::ks=>Ys ks
def YS:Nat->(ks:List Gk)->Gs ks->List TV
 | _,[],_=>[]
 | j,.l a::ks,x=>Aev a x.1::YS (j+1) ks x.2
 | j,.b _::ks,x=>.ptr j 0::YS (j+1) ks x.2
 | j,.k s::ks,x=>.v s.agg (B4 (64*j) (s.fc x.1))::YS (j+1) ks x.2
 | j,.g s::ks,x=>.v s.agg (B4 (64*j) (s.fc x.1))::YS (j+1) ks x.2
 | j,.i m s::ks,x=>.v s.agg ((s.fc x.1).map (toCell (some m)))::YS (j+1) ks x.2
def AdP:Nat->(ks:List Gk)->Gs ks->List (Nat×List Cell)
 | _,[],_=>[]
 | j,.l _::ks,x=>AdP (j+1) ks x.2
 | j,.b s::ks,x=>(j,B4 (64*j) (s.fc x.1))::AdP (j+1) ks x.2
 | j,.k _::ks,x=>AdP (j+1) ks x.2
 | j,.g _::ks,x=>AdP (j+1) ks x.2
 | j,.i _ _::ks,x=>AdP (j+1) ks x.2
def Ae7:Nat->(ks:List Gk)->Gs ks->List (Nat×Tree)
 | _,[],_=>[]
 | j,.l _::ks,x=>Ae7 (j+1) ks x.2
 | j,.b s::ks,x=>Eg (64*j) (s.fc x.1)++Ae7 (j+1) ks x.2
 | j,.k s::ks,x=>Eg (64*j) (s.fc x.1)++Ae7 (j+1) ks x.2
 | j,.g s::ks,x=>Eg (64*j) (s.fc x.1)++Ae7 (j+1) ks x.2
 | j,.i _ _::ks,x=>Ae7 (j+1) ks x.2
def AeM:Nat->(ks:List Gk)->Ys ks->List (Nat×Tree)
 | _,[],_=>[]
 | j,.l _::ks,y=>AeM (j+1) ks y
 | j,.b _::ks,y=>AeM (j+1) ks y.2
 | j,.k s::ks,y=>Eg (64*j) (s.fc y.1)++AeM (j+1) ks y.2
 | j,.g _::ks,y=>AeM (j+1) ks y
 | j,.i _ _::ks,y=>AeM (j+1) ks y
def YT:Nat->(ks:List Gk)->Ys ks->List (Nat×List FC)
 | _,[],_=>[]
 | j,.l _::ks,y=>YT (j+1) ks y
 | j,.b s::ks,y=>(j,s.fc y.1)::YT (j+1) ks y.2
 | j,.k _::ks,y=>YT (j+1) ks y.2
 | j,.g _::ks,y=>YT (j+1) ks y
 | j,.i _ _::ks,y=>YT (j+1) ks y
structure GS where
 as:List Gk
 rs:List Sh
 pre:Gs as->Prop
 fn:Gs as->Ts rs×Ys as
def Gk.md:Gk->Md
 | .l _=>.lend
 | .b _=>.box
 | .k _=>.keep
 | .g _=>.give
 | .i _ _=>.lend
def GS.ms (S:GS):List Md:=S.as.map (·.md)
def GS.arg (S:GS) (x:Gs S.as):Arg:=⟨YS 0 S.as x,AdP 0 S.as x,Ae7 0 S.as x⟩
def klOf:Nat->List Gk->List Nat
 | _,[]=>[]
 | j,.k _::ks=>64*j::klOf (j+1) ks
 | j,_::ks=>klOf (j+1) ks
def GS.kl (S:GS):List Nat:=klOf 0 S.as
def GS.pst (S:GS) (y:Ts S.rs×Ys S.as):Pst:=⟨mkR S.rs y.1,AeM 0 S.as y.2,YT 0 S.as y.2⟩
def GS.ctr (S:GS) (x:Gs S.as):Ctr:=.det [] (S.pst (S.fn x))
def GS.ok (S:GS) (P:Program) (f:Nat):Prop:=∀ x,S.pre x->Con P f (S.arg x) (S.ctr x).sat
def S4 (hp:List (Nat×Tree)) (s:Sh) (j:Nat) (cs:List Cell):Option s.X:=bif H1 (64*j) cs then(match Pm (Amw hp) cs with
 | some (ds,_)=>s.dec ds
 | none=>none) else none
def WQ (m:Nat):Cell->Option Cell
 | .im (some l) t xs=>bif l==m then some (.im none t xs) else none
 | .im none _ _=>none
 | c=>some c
def Mp (m:Nat):List Cell->Option (List Cell)
 | []=>some []
 | c::cs=>match WQ m c,Mp m cs with
  | some d,some ds=>some (d::ds)
  | _,_=>none
def Alg (m:Nat) (s:Sh):TV->Option s.X
 | .v agg cs=>match Mp m cs with
  | some ds=>decV s (.v agg ds)
  | none=>none
 | _=>none
def PR (A:Arg):Nat->(ks:List Gk)->List TV->Option (Gs ks)
 | _,[],[]=>some ()
 | j,.l a::ks,t::ts=>match R6 a t,PR A (j+1) ks ts with
  | some x,some xs=>some (x,xs)
  | _,_=>none
 | j,.b s::ks,.ptr b 0::ts=>bif b==j then(match look A.bx j with
  | some cs=>match S4 A.hp s j cs,PR A (j+1) ks ts with
   | some x,some xs=>some (x,xs)
   | _,_=>none
  | none=>none) else none
 | j,.k s::ks,.v agg cs::ts=>bif agg==s.agg then(match S4 A.hp s j cs,PR A (j+1) ks ts with
  | some x,some xs=>some (x,xs)
  | _,_=>none) else none
 | j,.g s::ks,.v agg cs::ts=>bif agg==s.agg then(match S4 A.hp s j cs,PR A (j+1) ks ts with
  | some x,some xs=>some (x,xs)
  | _,_=>none) else none
 | j,.i m s::ks,t::ts=>match Alg m s t,PR A (j+1) ks ts with
  | some x,some xs=>some (x,xs)
  | _,_=>none
 | _,_,_=>none
def GS.spec (S:GS):D.Spec:=λA=>match PR A 0 S.as A.tm with
 | some x=>some (.df [S.pre x] (Ts S.rs×Ys S.as) (S.fn x) S.pst)
 | none=>none
section
variable {w:World} {G:Gh} {A:Arg} {vs:Array Value}
def MP {hp:List (Nat×Tree)} {s:Sh} {j:Nat} {cs:List Cell} {x:s.X} (h:S4 hp s j cs=some x) :
 (B4 (64*j) (s.fc x)).length=cs.length/\(∀ (i:Nat) (d:Cell),(B4 (64*j) (s.fc x))[i]? = some d->∃ c,cs[i]? = some c/\∀ v,CellR w G c v->CellR w G d v) /\
 ∀ l T,look (Eg (64*j) (s.fc x)) l=some T->look hp l=some T:=by
 unfold S4 at h;cases hr:H1 (64*j) cs with
 | false=>simp[hr] at h
 | true=>
  simp only[hr,aO] at h;split at h
  ·rename_i ds ab hl;obtain⟨l1,l2⟩:=Ws hl;obtain⟨r1,r2⟩:=OR hr;have hds:ds=s.fc x:=by
    refine(Sh.dec_ok h).eq_of λi hi=>?_
    have hlt:i<cs.length:=by grind
    rcases l2 i _ _ (aG hlt) hi with⟨e,_⟩|⟨_,_,_,_,e⟩|⟨_,_,e⟩
    ·exact r2 i (by rw[aG hlt,e])
    ·cases e
    ·cases e
   subst hds;refine⟨by rw[FE,l1],λi d hd=>?_,λl T hl'=>?_⟩
   ·obtain⟨fc,hfc,hcase⟩:=Rr hd;have hlt:i<cs.length:=by grind
    refine⟨cs[i],aG hlt,λu hu=>?_⟩;have hrel:=l2 i _ _ (aG hlt) hfc;rcases hcase with⟨v',rfl,rfl⟩|⟨rfl,rfl⟩|⟨t,xs,rfl,rfl⟩
    ·rcases hrel with⟨_,e⟩|⟨_,_,_,_,e⟩|⟨v'',hv'',e⟩
     ·cases e
     ·cases e
     ·injection e with e;subst e;exact Cell.val_ok hu hv''
    ·rcases hrel with⟨e,_⟩|⟨_,_,_,_,e⟩|⟨_,_,e⟩
     ·exact absurd (by rw[aG hlt,e]) (r2 i)
     ·cases e
     ·cases e
    ·rcases hrel with⟨_,e⟩|⟨l,T,e1,_,_⟩|⟨_,_,e⟩
     ·cases e
     ·have hl':=r1 i l (by grind);rw[e1] at hu;subst hl';exact hu
     ·cases e
   ·obtain⟨hle,hfc⟩:=OH hl';have hlt:l-64*j<cs.length:=by grind
    rcases l2 _ _ _ (aG hlt) hfc with⟨_,e⟩|⟨l',T',e1,e2,e3⟩|⟨_,_,e⟩
    ·cases e
    ·have hl2:=r1 _ l' (by rw[aG hlt,e1]);have hl3:l'=l:=o_
     subst hl3;obtain⟨t1,x1⟩:=T;obtain⟨t2,x2⟩:=T';injection e3 with e4 e5
     subst e4;have e5:=eq_of_heq e5;subst e5;exact e2
    ·cases e
  ·cases h
open Classical in
def Aj0 (G:Gh) (m:Nat):∃ G':Gh,src G' none=src G (some m)/\G'.hv=G.hv:=by
 refine⟨{ G with ow:=λb=>if G.ow b=.lab m then .free else if G.ow b=.free then .gone else G.ow b },?_,rfl⟩;funext b;simp only[src];grind
def Xd {m:Nat} {G':Gh} (hs:src G' none=src G (some m)) (hh:G'.hv=G.hv):∀ (cs ds:List Cell),Mp m cs=some ds->ds.length=cs.length/\∀ (j:Nat) (d:Cell),ds[j]? = some d->∃ c,cs[j]? = some c/\∀ v,CellR w G c v->CellR w G' d v:=by
 intro cs
 induction cs with
 | nil=>intro ds h;simp only[Mp,Q_] at h;subst h;simp
 | cons c cs ih=>
  intro ds h;simp only[Mp] at h;split at h
  ·rename_i d ds' h1 h2;simp at h;subst h;obtain⟨k1,k2⟩:=ih ds' h2;refine⟨by grind,λj d' hj=>?_⟩;cases j with
   | succ j=>simpa using k2 j d' (by grind)
   | zero=>
    simp at hj;subst hj;refine⟨c,rfl,λv hv=>?_⟩;cases c with
    | im l t xs=>
     cases l with
     | none=>simp[WQ] at h1
     | some l=>
      simp only[WQ] at h1;cases hb:(l==m) with
      | false=>simp[hb] at h1
      | true=>
       simp only[hb,aO,Q_] at h1;subst h1;have e:l=m:=by grind
       subst e;show TR w (src G' none) _ v;rw[hs];exact hv
    | _=>simp only[WQ,Q_] at h1;subst h1;first|exact hv|(simp only[CellR,hh] at hv ⊢;exact hv)
  ·cases h
def Ajr {m:Nat} {s:Sh} {t:TV} {x:s.X} {v:Value} (h:Alg m s t=some x) (hv:TVR w G t v):TVR w G (.v s.agg ((s.fc x).map (toCell (some m)))) v:=by
 cases t<;>first|(simp[Alg] at h;done)|skip
 rename_i agg cs;simp only[Alg] at h;split at h
 ·rename_i ds hds;obtain⟨G',hs,hh⟩:=Aj0 G m;obtain⟨k1,k2⟩:=Xd (w:=w) (G:=G) hs hh _ _ hds;have h1:TVR w G' (.v agg ds) v:=F1 k1 k2 hv;have h2:Gw w G' s.agg ((s.fc x).map (toCell none)) v:=Aa4 h h1;refine F1 (cs:=(s.fc x).map (toCell none)) (by simp) (λj d hd=>?_) h2;rw[cp] at hd;cases hq:(s.fc x)[j]? with
  | none=>simp[hq] at hd
  | some c=>
   simp only[hq,aY,Q_] at hd;subst hd;refine⟨toCell none c,by grind,λu hu=>?_⟩;cases c with
   | l t xs=>
    have hu:TR w (src G' none) _ u:=hu;rw[hs] at hu;exact hu
   | _=>exact hu
 ·cases h
def P0 {α:Type} {l m:List (Nat×α)} {t:Nat} {x:α} (h:look (l++m) t=some x):look l t=some x\/look m t=some x:=by
 induction l with
 | nil=>exact .inr h
 | cons p l ih=>
  simp only[cj,look] at h ⊢;grind
def Zy (hA:ArgR w G A vs):∀ (ks:List Gk) (j:Nat) (ts:List TV) (x:Gs ks),PR A j ks ts=some x ->
 (YS j ks x).length=ts.length/\(∀ (i:Nat) (y:TV),(YS j ks x)[i]? = some y->∃ t,ts[i]? = some t/\∀ v,TVR w G t v->TVR w G y v) /\
 (∀ b cs,look (AdP j ks x) b=some cs->G.ow (G.be b)=.box b/\∃ r e,w.heap[G.be b]? = some (.cells r e (0,0))/\AP w G cs r) /\
 ∀ l T,look (Ae7 j ks x) l=some T->look A.hp l=some T:=by
 intro ks
 induction ks with
 | nil=>
  intro j ts x h;cases ts with
  | nil=>simp[YS,AdP,Ae7,look]
  | cons t ts=>simp[PR] at h
 | cons k ks ih=>
  intro j ts x h;cases ts with
  | nil=>cases k<;>simp[PR] at h
  | cons t ts=>
   have cons:∀ (y:TV) (ys:List TV),ys.length=ts.length->(∀ v,TVR w G t v->TVR w G y v)->(∀ (i:Nat) (z:TV),ys[i]? = some z->∃ t,ts[i]? = some t/\∀ v,TVR w G t v->TVR w G z v) ->
    (y::ys).length=(t::ts).length/\(∀ (i:Nat) (z:TV),(y::ys)[i]? = some z->∃ t',(t::ts)[i]? = some t'/\∀ v,TVR w G t' v->TVR w G z v):=by
    intro y ys hl h0 hs;refine⟨by grind,λi z hz=>?_⟩;cases i with
    | zero=>simp only[List.getElem?_cons_zero,Q_] at hz;subst hz;exact⟨t,rfl,h0⟩
    | succ i=>simpa using hs i z (by grind)
   cases k with
   | l a=>
    simp only[PR] at h;split at h
    ·rename_i x1 xs h1 h2;simp at h;subst h;obtain⟨k1,k2,k3,k4⟩:=ih _ _ _ h2;obtain⟨c1,c2⟩:=cons _ _ k1 (λv hv=>Vs h1 hv) k2;exact⟨c1,c2,k3,k4⟩
    ·cases h
   | b s=>
    cases t<;>first|(simp[PR] at h;done)|skip
    rename_i b off;cases off with
    | succ n=>simp[PR] at h
    | zero=>
     simp only[PR] at h;cases hb:(b==j) with
     | false=>simp[hb] at h
     | true=>
      simp only[hb,aO] at h;have hb':b=j:=by grind
      subst hb';split at h
      ·rename_i cs hbx;split at h
       ·rename_i x1 xs h1 h2;simp at h;subst h;obtain⟨k1,k2,k3,k4⟩:=ih _ _ _ h2;obtain⟨d1,d2,d3⟩:=MP (w:=w) (G:=G) h1;obtain⟨c1,c2⟩:=cons (.ptr b 0) _ k1 (λv hv=>hv) k2;refine⟨c1,c2,λb' cs' hl=>?_,λl T hl=>?_⟩
        ·simp only[AdP,look] at hl;split at hl
         ·rename_i e;have e':b'=b:=by grind
          subst e';simp at hl;subst hl;obtain⟨q1,r,e,q2,q3⟩:=hA.bx b' cs hbx;refine⟨q1,r,e,q2,by rw[d1];exact q3.1,λi d hd=>?_⟩;obtain⟨c,hc,hr⟩:=d2 i d hd;obtain⟨u,hu,hcr⟩:=q3.2 i c hc;exact⟨u,hu,hr u hcr⟩
         ·exact k3 b' cs' hl
        ·rcases P0 hl with hl|hl
         ·exact d3 l T hl
         ·exact k4 l T hl
       ·cases h
      ·cases h
   | k s=>
    cases t<;>first|(simp[PR] at h;done)|skip
    rename_i agg cs;simp only[PR] at h;cases hb:(agg==s.agg) with
    | false=>simp[hb] at h
    | true=>
     simp only[hb,aO] at h;have hb':agg=s.agg:=by grind
     subst hb';split at h
     ·rename_i x1 xs h1 h2;simp at h;subst h;obtain⟨k1,k2,k3,k4⟩:=ih _ _ _ h2;obtain⟨d1,d2,d3⟩:=MP (w:=w) (G:=G) h1;obtain⟨c1,c2⟩:=cons (.v s.agg (B4 (64*j) (s.fc x1))) _ k1 (λv hv=>F1 d1 d2 hv) k2;refine⟨c1,c2,k3,λl T hl=>?_⟩;rcases P0 hl with hl|hl
      ·exact d3 l T hl
      ·exact k4 l T hl
     ·cases h
   | g s=>
    cases t<;>first|(simp[PR] at h;done)|skip
    rename_i agg cs;simp only[PR] at h;cases hb:(agg==s.agg) with
    | false=>simp[hb] at h
    | true=>
     simp only[hb,aO] at h;have hb':agg=s.agg:=by grind
     subst hb';split at h
     ·rename_i x1 xs h1 h2;simp at h;subst h;obtain⟨k1,k2,k3,k4⟩:=ih _ _ _ h2;obtain⟨d1,d2,d3⟩:=MP (w:=w) (G:=G) h1;obtain⟨c1,c2⟩:=cons (.v s.agg (B4 (64*j) (s.fc x1))) _ k1 (λv hv=>F1 d1 d2 hv) k2;refine⟨c1,c2,k3,λl T hl=>?_⟩;rcases P0 hl with hl|hl
      ·exact d3 l T hl
      ·exact k4 l T hl
     ·cases h
   | i m s=>
    simp only[PR] at h;split at h
    ·rename_i x1 xs h1 h2;simp at h;subst h;obtain⟨k1,k2,k3,k4⟩:=ih _ _ _ h2;obtain⟨c1,c2⟩:=cons _ _ k1 (λv hv=>Ajr h1 hv) k2;exact⟨c1,c2,k3,k4⟩
    ·cases h
end
def GS.spec_ok {S:GS} {P:Program} {f:Nat} (h:S.ok P f):Ln P f S.spec:=by
 intro A c hc hp;unfold GS.spec at hc;split at hc
 ·rename_i x hx;simp at hc;subst hc;have hpre:S.pre x:=hp _ (eI _);intro w vs G hB hA;obtain⟨k1,k2,k3,k4⟩:=Zy hA _ _ _ _ hx;refine(h x hpre w vs G hB ⟨?_,?_,k3,λl T hl=>hA.hp l T (k4 l T hl),hA.lt,hA.cr⟩).mono ?_
  ·rw[hA.sz];exact k1.symm
  ·intro j y hj;obtain⟨t,ht,hr⟩:=k2 j y hj;obtain⟨v,hv,hvt⟩:=hA.tm j t ht;simp_all
  ·rintro e w' ⟨v,p,hs,hrest⟩;exact⟨v,p,hs,hrest⟩
 ·cases hc
def XG:List Md->List Md->Bool
 | [],[]=>true
 | .lend::a,.lend::b=>XG a b
 | .give::a,.give::b=>XG a b
 | .keep::a,.keep::b=>XG a b
 | .box::a,.box::b=>XG a b
 | _,_=>false
def Adm (ms:List Md) (g:D.Spec):Option (List Md×D.Spec)->D.Spec
 | some (ms',g0)=>λA=>match g A with
  | some c=>some c
  | none=>bif XG ms' ms then g0 A else none
 | none=>g
def Env.addG (E:Env) (f:Nat) (S:GS):Env:=E.ext f S.ms (Adm S.ms S.spec (E.fn f))
def AiS:∀ ks:List Gk,KB (ks.map (·.md))=false
 | []=>rfl
 | [k]=>by cases k<;>rfl
 | k::_::_=>by cases k<;>rfl
def EOk.addG {P:Program} {E:Env} (h:EOk P E) {f:Nat} {S:GS} (hS:S.ok P f):EOk P (E.addG f S):=by
 refine h.ext ?_ (λhn=>by rw[GS.ms,AiS] at hn;cases hn);have hS':=GS.spec_ok hS;unfold Adm;split
 ·rename_i ms' g0 hg0;intro A c hc;dsimp only at hc;split at hc
  ·rename_i c' hc';simp at hc;subst hc;exact hS' A c' hc'
  ·cases hm:XG ms' S.ms with
   | false=>simp[hm] at hc
   | true=>
    simp only[hm,aO] at hc;exact(h f ms' g0 hg0).1 A c hc
 ·exact hS'
def QB:∀ (ks:List Gk) (j:Nat) (x:Gs ks),(YS j ks x).length=ks.length:=by
 intro ks
 induction ks with
 | nil=>intro _ _;rfl
 | cons k ks ih=>intro j x;cases k<;>simp[YS,ih]
def GS.of {S:GS} {P:Program} {E:Env} {L:Gs S.as->WJ} {kp:List Nat} {f:Nat} {fn:Func} (hE:EOk P E) (hf:P.funcs[f]? = some fn) (hb:fn.body.isSome=true) (hn:decide (S.as.length<=fn.ntmps)=true)
 (hh:∀ x,S.pre x->HoldsE (JR P E (L x) kp S.kl fn (S.arg x)) (S.ctr x).post):S.ok P f:=by
 intro x hx;refine IT hE hf hb ?_ (hh x hx).h;have:(S.arg x).tm.length=S.as.length:=QB _ _ _;rw[this];exact hn
def GS.out (S:GS) (y:Ts S.rs×Ys S.as):Out:=.leaf (mkR S.rs y.1) (YT 0 S.as y.2) (AeM 0 S.as y.2)
def Jc:∀ ps:List (Nat×List FC),VT ps ps
 | []=>trivial
 | p::ps=>⟨⟨rfl,FZ _⟩,Jc ps⟩
def GS.leafY {S:GS} {x:Gs S.as} {y:Ts S.rs×Ys S.as} (h:y=S.fn x):(S.out y).holds (S.ctr x).post:=by
 subst h;exact⟨FU _,Jc _,rfl⟩
def GS.leafZ {S:GS} {x:Gs S.as} {r:Res} {bx:List (Nat×List FC)} {hp:List (Nat×Tree)} (y:Ts S.rs×Ys S.as) (h1:Gd ⟨r,hp,bx⟩ (S.pst y)) (h:y=S.fn x):(Out.leaf r bx hp).holds (S.ctr x).post:=by
 subst h;exact h1
abbrev GS.lim (S:GS) (m:Gs S.as->Nat) (n:Nat):GS:={ S with pre:=λx=>S.pre x/\m x<n }
abbrev Fct.lim (S:Fct) (m:As S.as->Nat) (n:Nat):Fct:={ S with pre:=λx=>S.pre x/\m x<n }
def GS.ofRec {S:GS} {P:Program} {E:Env} {L:Gs S.as->WJ} {kp:List Nat} {f:Nat} {fn:Func} (m:Gs S.as->Nat) (hE:EOk P E) (hf:P.funcs[f]? = some fn) (hb:fn.body.isSome=true) (hn:decide (S.as.length<=fn.ntmps)=true)
 (hh:∀ n x,S.pre x->m x<n+1->HoldsE (JR P (E.addG f (S.lim m n)) (L x) kp S.kl fn (S.arg x)) (S.ctr x).post):S.ok P f:=by
 have key:∀ n,(S.lim m n).ok P f:=by
  intro n
  induction n with
  | zero=>intro x hx;exact absurd hx.2 (Nat.not_lt_zero _)
  | succ n ih=>
   intro x hx;refine IT (EOk.addG hE ih) hf hb ?_ (hh n x hx.1 hx.2).h;have:((S.lim m (n+1)).arg x).tm.length=S.as.length:=QB _ _ _;rw[this];exact hn
 intro x hx;exact key (m x+1) x ⟨hx,Nat.lt_succ_self _⟩
def OW:∀ (ss:List Ak) (x:As ss),(Du ss x).length=ss.length:=by
 intro ss
 induction ss with
 | nil=>intro _;rfl
 | cons s ss ih=>intro x;simp[Du,ih]
def Fct.ofRec {S:Fct} {P:Program} {E:Env} {L:As S.as->WJ} {kp:List Nat} {f:Nat} {fn:Func} (m:As S.as->Nat) (hE:EOk P E) (hf:P.funcs[f]? = some fn) (hb:fn.body.isSome=true) (hn:decide (S.as.length<=fn.ntmps)=true)
 (hh:∀ n x,S.pre x->m x<n+1->HoldsE (JR P (E.add f (S.lim m n)) (L x) kp [] fn (S.arg x)) (S.ctr x).post):S.ok P f:=by
 have key:∀ n,(S.lim m n).ok P f:=by
  intro n
  induction n with
  | zero=>intro x hx;exact absurd hx.2 (Nat.not_lt_zero _)
  | succ n ih=>
   intro x hx;refine IT (EOk.add hE ih) hf hb ?_ (hh n x hx.1 hx.2).h;have:((S.lim m (n+1)).arg x).tm.length=S.as.length:=OW _ _;rw[this];exact hn
 intro x hx;exact key (m x+1) x ⟨hx,Nat.lt_succ_self _⟩
end Go.D
namespace Go.D
def Ak.md:Ak->Md
 | .u=>.cur
 | _=>.lend
structure Xct where
 as:List Ak
 rs:List Sh
 pre:As as->Prop
 is:As as->Ts rs->Prop
def Xct.ms (S:Xct):List Md:=S.as.map (·.md)
def Xct.arg (S:Xct) (x:As S.as):Arg:=⟨Du S.as x,[],[]⟩
def Xct.ctr (S:Xct) (x:As S.as):Ctr:=.ex [] (Ts S.rs) (S.is x) λy=>⟨mkR S.rs y,[],[]⟩
def Xct.spec (S:Xct):D.Spec:=λA=>match A.bx,A.hp with
 | [],[]=>match Mx S.as A.tm with
  | some x=>some (.ex [S.pre x] (Ts S.rs) (S.is x) λy=>⟨mkR S.rs y,[],[]⟩)
  | none=>none
 | _,_=>none
def Xct.ok (S:Xct) (P:Program) (f:Nat):Prop:=∀ x,S.pre x->Con P f (S.arg x) (S.ctr x).sat
def Xct.spec_ok {S:Xct} {P:Program} {f:Nat} (h:S.ok P f):Ln P f S.spec:=by
 intro A c hc hp;unfold Xct.spec at hc;split at hc
 ·rename_i hb hh;split at hc
  ·rename_i x hx;simp only[Q_] at hc;subst hc;have hpre:S.pre x:=hp _ (eI _);intro w vs G hB hA;refine(h x hpre w vs G hB ⟨?_,?_,by simp[Xct.arg,look],by simp[Xct.arg,look],hA.lt,hA.cr⟩).mono ?_
   ·rw[hA.sz];exact(J3 (w:=w) (G:=G) hx).1.symm
   ·intro j y hj;obtain⟨x',hx',hr⟩:=(J3 (w:=w) (G:=G) hx).2 j y hj;obtain⟨v,hv,ht⟩:=hA.tm j x' hx';exact⟨v,hv,hr v ht⟩
   ·rintro e w' ⟨v,p,hs,hrest⟩;exact⟨v,p,hs,hrest⟩
  ·cases hc
 ·cases hc
def Ajb:∀ ks:List Ak,KB (ks.map (·.md))=false
 | []=>rfl
 | [k]=>by cases k<;>rfl
 | k::_::_=>by cases k<;>rfl
def Env.addX (E:Env) (f:Nat) (S:Xct):Env:=E.ext f S.ms S.spec
def EOk.addX {P:Program} {E:Env} (h:EOk P E) {f:Nat} {S:Xct} (hS:S.ok P f):EOk P (E.addX f S) :=
 h.ext (Xct.spec_ok hS) λhn=>by rw[Xct.ms,Ajb] at hn;cases hn
def Xct.of {S:Xct} {P:Program} {E:Env} {L:As S.as->WJ} {kp:List Nat} {f:Nat} {fn:Func} (hE:EOk P E) (hf:P.funcs[f]? = some fn) (hb:fn.body.isSome=true) (hn:decide (S.as.length<=fn.ntmps)=true)
 (hh:∀ x,S.pre x->HoldsE (JR P E (L x) kp [] fn (S.arg x)) (S.ctr x).post):S.ok P f:=by
 intro x hx;refine IT hE hf hb ?_ (hh x hx).h;have:(S.arg x).tm.length=S.as.length:=OW _ _;rw[this];exact hn
def Xct.leafY {S:Xct} {x:As S.as} (y:Ts S.rs) (h:S.is x y):(Out.leaf (mkR S.rs y) [] []).holds (S.ctr x).post:=⟨y,h,FU _,trivial,rfl⟩
def Xct.leafZ {S:Xct} {x:As S.as} {r:Res} (y:Ts S.rs) (h1:K0 r (mkR S.rs y)) (h:S.is x y):(Out.leaf r [] []).holds (S.ctr x).post:=⟨y,h,h1,trivial,rfl⟩
end Go.D
namespace Go.D
def Gk.mdc:Gk->Md
 | .l a=>a.md
 | .b _=>.box
 | .k _=>.keep
 | .g _=>.give
 | .i _ _=>.lend
structure Zct where
 as:List Gk
 rs:List Sh
 pre:Gs as->Prop
 is:Gs as->Ts rs×Ys as->Prop
def Zct.ms (S:Zct):List Md:=S.as.map (·.mdc)
def Zct.arg (S:Zct) (x:Gs S.as):Arg:=⟨YS 0 S.as x,AdP 0 S.as x,Ae7 0 S.as x⟩
def Zct.kl (S:Zct):List Nat:=klOf 0 S.as
def Zct.pst (S:Zct) (y:Ts S.rs×Ys S.as):Pst:=⟨mkR S.rs y.1,AeM 0 S.as y.2,YT 0 S.as y.2⟩
def Zct.ctr (S:Zct) (x:Gs S.as):Ctr:=.ex [] (Ts S.rs×Ys S.as) (S.is x) S.pst
def Zct.spec (S:Zct):D.Spec:=λA=>match PR A 0 S.as A.tm with
 | some x=>some (.ex [S.pre x] (Ts S.rs×Ys S.as) (S.is x) S.pst)
 | none=>none
def Zct.ok (S:Zct) (P:Program) (f:Nat):Prop:=∀ x,S.pre x->Con P f (S.arg x) (S.ctr x).sat
def Zct.spec_ok {S:Zct} {P:Program} {f:Nat} (h:S.ok P f):Ln P f S.spec:=by
 intro A c hc hp;unfold Zct.spec at hc;split at hc
 ·rename_i x hx;simp only[Q_] at hc;subst hc;have hpre:S.pre x:=hp _ (eI _);intro w vs G hB hA;obtain⟨k1,k2,k3,k4⟩:=Zy hA _ _ _ _ hx;refine(h x hpre w vs G hB ⟨?_,?_,k3,λl T hl=>hA.hp l T (k4 l T hl),hA.lt,hA.cr⟩).mono ?_
  ·rw[hA.sz];exact k1.symm
  ·intro j y hj;obtain⟨t,ht,hr⟩:=k2 j y hj;obtain⟨v,hv,hvt⟩:=hA.tm j t ht;exact⟨v,hv,hr v hvt⟩
  ·rintro e w' ⟨v,p,hs,hrest⟩;exact⟨v,p,hs,hrest⟩
 ·cases hc
def Zct.of {S:Zct} {P:Program} {E:Env} {L:Gs S.as->WJ} {kp:List Nat} {f:Nat} {fn:Func} (hE:EOk P E) (hf:P.funcs[f]? = some fn) (hb:fn.body.isSome=true) (hn:decide (S.as.length<=fn.ntmps)=true)
 (hh:∀ x,S.pre x->HoldsE (JR P E (L x) kp S.kl fn (S.arg x)) (S.ctr x).post):S.ok P f:=by
 intro x hx;refine IT hE hf hb ?_ (hh x hx).h;have:(S.arg x).tm.length=S.as.length:=QB _ _ _;rw[this];exact hn
def Zct.out (S:Zct) (y:Ts S.rs×Ys S.as):Out:=.leaf (mkR S.rs y.1) (YT 0 S.as y.2) (AeM 0 S.as y.2)
def Zct.leafY {S:Zct} {x:Gs S.as} (y:Ts S.rs×Ys S.as) (h:S.is x y):(S.out y).holds (S.ctr x).post:=⟨y,h,FU _,Jc _,rfl⟩
def Zct.leafZ {S:Zct} {x:Gs S.as} {r:Res} {bx:List (Nat×List FC)} {hp:List (Nat×Tree)} (y:Ts S.rs×Ys S.as) (h1:Gd ⟨r,hp,bx⟩ (S.pst y)) (h:S.is x y):(Out.leaf r bx hp).holds (S.ctr x).post:=⟨y,h,h1⟩
end Go.D
namespace Go.D
def Aw {n:Int} (h : -9223372036854775808<=n/\n<=9223372036854775807):IntKind.i64.wrap n=n:=by
 rw[IntKind.wrap_i64];omega
theorem A_ {n:Int} (h1 : -9223372036854775808<=n) (h2:n<=9223372036854775807):IntKind.i64.wrap n=n:=Aw ⟨h1,h2⟩
def Alr (a b:ByteArray):(a.toList==b.toList)=decide (a=b):=by
 have h:a.toList=b.toList↔a=b:=by
  constructor
  ·intro h;rw[ByteArray.toList_eq,ByteArray.toList_eq] at h;cases a;cases b;simp_all
  ·rintro rfl;rfl
 grind
theorem C_ {i:Int} (h:0<=i):(i+1).toNat=i.toNat+1:=o_
def AhH {α:Type} [Inhabited α] {l:List α} {i:Nat} (h:i<l.length):l.getD i default=l[i]:=by simp[h]
theorem P_ {α:Type} [Inhabited α] {l:List α} {i:Nat} (h:i<l.length):l.take (i+1)=l.take i++[l.getD i default]:=by
 simp_all
def Aeu {t:Ty} {l:List (El t)} (h:Sh.good (.sl t) l) {x:El t} (hx:x∈l):Sh.good (.el t) x:=by
 intro c hc;have h1:=h (.l t l) (by simp[Sh.fc]);have h2:=h1.2 x hx c hc;have hr:=IS hc;have:=ZP t;exact Ad8 7 c o_ h2
def Adx {t:Ty} {l:List (El t)} (h:Sh.good (.sl t) l) {i:Nat} (hi:i<l.length):Sh.good (.el t) (l.getD i default):=Aeu h (by rw[AhH hi];exact List.getElem_mem hi)
theorem I_ {t:Ty} {l:List (El t)} (h:Sh.good (.sl t) l):l.length<=maxLen:=(h (.l t l) (by simp[Sh.fc])).1
def AjU (left:Int) (n:Nat):Int:=if(n:Int)<=left then left-n else -1
def szL {α:Type} (f:α->Nat) (l:List α):Nat:=l.length+(l.map f).sum
def AeS {α:Type} [Inhabited α] (f:α->Nat) {l:List α} {i:Nat} (h:i<l.length):((l.take (i+1)).map f).sum=((l.take i).map f).sum+f (l.getD i default):=by
 rw[P_ h];simp
def T2 {α:Type} (f:α->Nat) (l:List α) (i:Nat):((l.take i).map f).sum<=(l.map f).sum:=by
 have:(l.map f).sum=((l.take i).map f).sum+((l.drop i).map f).sum:=by rw[<-List.sum_append_nat,<-fG,di]
 omega
def Ad {α:Type} (f:α->Nat) (l:List α):l.length<=szL f l:=cO _ _
def Anv:Nat->Nat->ByteArray->ByteArray
 | 0,_,out=>out
 | f+1,k,out=>if k=0 then out else Anv f (k / 10) (⟨#[UInt8.ofNat (48+k % 10)]⟩++out)
def Zn (k:Int):ByteArray:=if k<=0 then⟨#[109,48]⟩ else⟨#[109]⟩++Anv 64 k.toNat ⟨#[]⟩
section
variable {α:Type} {f:α->Int->α×Int}
theorem B_ [Inhabited α] {l:List α} {i:Nat} (h:i<l.length):l.drop i=l.getD i default::l.drop (i+1):=by
 simp_all
theorem K_ {α:Type} {l:List α} {i:Nat} (h:l.length<=i):l.drop i=[]:=bQ h
def Aam {A r:List α} {x:α} {g:α->α} {i:Nat} (h:A.length=i):(A++x::r).modify i g=A++g x::r:=by
 subst h
 induction A with
 | nil=>rfl
 | cons a A ih=>simp[List.modify_succ_cons,ih]
end
def AQ {α:Type} (p:α->Bool):List α->Int->Int
 | [],_=>-1
 | c::l,i=>if p c then i else AQ p l (i+1)
def Gb {α:Type} (p:α->Bool):∀ (l:List α) (i:Int),0<=i->(0<=AQ p l i↔l.any p=true):=by
 intro l
 induction l with
 | nil=>intro i _;simp[AQ]
 | cons c l ih=>
  intro i hi;simp only[AQ,List.any_cons,db];grind
def BP {α:Type} (p:α->Bool):∀ (l:List α) (i:Int),0<=i->AQ p l i<i+l.length/\-1<=AQ p l i:=by
 intro l
 induction l with
 | nil=>intro i h;simp[AQ];omega
 | cons c l ih=>
  intro i hi;simp only[AQ,aq];grind
def Ct {α:Type} [Inhabited α] (f:α->Nat) {l:List α} {i:Nat} (h:i<l.length):f (l.getD i default)+l.length<=szL f l:=by
 have h1:=T2 f l (i+1);rw[AeS f h] at h1;simp only[szL];omega
def BB {α:Type} (p:α->Bool):List α->Int
 | []=>0
 | x::l=>(if p x then 1 else 0)+BB p l
def IB {α:Type} (p:α->Bool) (l:List α):0<=BB p l/\BB p l<=l.length:=by
 induction l with
 | nil=>simp[BB]
 | cons x l ih=>simp only[BB,aq];split<;>omega
def Ajf {α:Type} (l:List α) (n:Nat):cut l n (l.length-n)=l.drop n:=by
 unfold cut;rw[ci (by simp)]
def uniqBy {α β:Type} [DecidableEq β] (f:α->β):List β->List α->List β
 | out,[]=>out
 | out,x::l=>uniqBy f (if out.any (λc=>decide (c=f x)) then out else out++[f x]) l
def KX {α β:Type} [DecidableEq β] (f:α->β):∀ (l:List α) (out:List β),(uniqBy f out l).length<=out.length+l.length:=by
 intro l
 induction l with
 | nil=>intro out;simp[uniqBy]
 | cons x l ih=>
  intro out;simp only[uniqBy,aq];grind
def Dj {a b:Bool} (h:a=true) (h':b=true):(a&&b)=true:=by rw[h,h'];rfl
theorem cF {α:Type} {l:List α} {i:Nat} (h:l.length<=i):l.take i=l:=ci h
def Aoc (a:Array UInt8):(ByteArray.mk a).size=a.size:=rfl
end Go.D
namespace Go.D
def AiK (a b:Nat):IJ a b=(a*b<=140737488355328):=rfl
def Ali:(∀ {p:Prop} [inst:Decidable p],(decide p=true)=p)/\(∀ {p:Prop} {x:Decidable p},decide p=false↔¬p)/\(∀ (b:Bool),((!b)=true)=(b=false))/\(∀ (b:Bool),((!b)=false)=(b=true)) /\
 (∀ {α:Type} [inst:BEq α] [LawfulBEq α] {a b:α},(a != b)=true↔a≠b)/\(∀ {α:Type} [inst:BEq α] [LawfulBEq α] {a b:α},(a != b)=false↔a=b)/\(∀ {α:Type} [inst:BEq α] [LawfulBEq α] {a b:α},(a==b)=true↔a=b) /\
 (∀ {α:Type} [inst:BEq α] [LawfulBEq α] {a b:α},(a==b)=false↔a≠b)/\(∀ (a b:ByteArray),(a.toList==b.toList)=decide (a=b))/\(∀ {a b:Int},¬a<b↔b<=a)/\(∀ {a b:Int},¬a<=b↔b<a)/\(∀ {p:Prop} [Decidable p],¬¬p↔p)/\(∀ x,wr x=IntKind.i64.wrap x)/\(∀ x,w1 x=IntKind.i64.wrap (x+1))/\∀ i n,inB i n=(0<=i/\i<(n:Int)) :=
 ⟨@av,@cy,@cM,@Bool.not_eq_false',@bne_iff_ne,@bne_eq_false_iff_eq,@cY,@beq_eq_false_iff_ne,@Alr,@Int.not_lt,@Int.not_le,@Decidable.not_not,λ_=>rfl,λ_=>rfl,λ_ _=>rfl⟩
def Amj:(∀ (a:Array UInt8),ByteArray.size { data:=a }=a.size)/\(∀ {α:Type} {as:List α},as.toArray.size=as.length)/\(∀ {α:Type} {a:α} {as:List α},(a::as).length=as.length+1)/\(∀ {α:Type},([]:List α).length=0) /\
 Int.toNat 0=0/\(∀ {α:Type} {l:List α},List.drop 0 l=l)/\(∀ (b:Bool),(¬b=true)=(b=false))/\(∀ (b:Bool),(¬b=false)=(b=true))/\(∀ {p:Prop} [g:Decidable p] [h:Decidable ¬p],(decide ¬p) = !decide p) /\
 (∀ {α β:Type} (a:α) (b:β) (c:α) (d:β),((a,b)=(c,d))=(a=c/\b=d))/\(∀ (p:Prop),(p/\True)=p)/\(∀ (p:Prop),(True/\p)=p)/\(∀ (a b:Nat),IJ a b=(a*b<=140737488355328)) /\
 (∀ {α:Type} (as:List α),[]++as=as)/\∀ (n:Nat),0+n=n :=
 ⟨@Aoc,@List.size_toArray,@aq,@aU,Int.toNat_zero,@fI,@Bool.not_eq_true,@Bool.not_eq_false,@decide_not,@bP,@and_true,@true_and,AiK,@ew,@cE⟩
def AA:(type_of% @Ali)/\∀ {α:Type} (a b:α),(a≠b) = ¬a=b:=⟨Ali,λ_ _=>rfl⟩
abbrev Ag (x:ByteArray):Nat:=x.size
end Go.D
namespace Go.D
set_option linter.unusedSimpArgs false
section
variable {P:Program} {E:Env} {m:Nat} {fn:Func} {t:Ty}
def szF (s:Sh) (f:s.X->Nat):Fct:=⟨[.v s,aI],[rI],λ(x:s.X×Int×Unit)=>Sh.good s x.1/\0<=x.2.1/\x.2.1<=1048576,λ(x:s.X×Int×Unit)=>(AjU x.2.1 (f x.1),())⟩
inductive SzI:Type
 | p (k:Nat)
 | c (s:Sh) (f:s.X->Nat) (x:s.X)
def SzI.n:SzI->Nat
 | .p k=>k
 | .c _ f x=>f x
def SzI.ok:SzI->Prop
 | .p k=>k<=maxLen
 | .c s _ x=>Sh.good s x
def toF (s:Sh) (f:s.X->Nat):Fct:=⟨[.v s],[s],λ(x:s.X×Unit)=>f x.1<=1048576,λ(x:s.X×Unit)=>(x.1,())⟩
structure ToI where
 s:Sh
 f:s.X->Nat
 x:s.X
def eqF (s:Sh) [DecidableEq s.X] (p:s.X->Nat):Fct:=⟨[.v s,.v s],[rB],λ(x:s.X×s.X×Unit)=>p x.1<=1125899906842624,λ(x:s.X×s.X×Unit)=>(decide (x.1=x.2.1),())⟩
inductive EqI:Type
 | s (x y:ByteArray)
 | i (x y:Int)
 | b (x y:Bool)
 | c (s:Sh) (d:DecidableEq s.X) (p:s.X->Nat) (x y:s.X)
def EqI.ok:EqI->Prop
 | .c _ _ p x _=>p x<=1125899906842624
 | _=>True
end
inductive Fe (α:Type):Type
 | s (g:α->ByteArray) (u:α->ByteArray->α)
 | i (g:α->Int) (u:α->Int->α)
 | b (g:α->Bool) (u:α->Bool->α)
 | l (s:Sh) (n:s.X->Nat) (f:s.X->Int->s.X×Int) (g:α->s.X) (u:α->s.X->α)
def Bd {α:Type} (n:α->Nat) (f:α->Int->α×Int):Prop:=∀ x k,k<=(f x k).2/\(f x k).2<=k+64*n x/\f (f x k).1 k=f x k
section
variable {α:Type}
def Fe.mk1:Fe α->α->Int->α×Int
 | .s _ u,x,k=>(u x (Zn k),k+1)
 | .i _ u,x,k=>(u x k,k+1)
 | .b _ u,x,k=>(u x (k.tmod 3==0),k+1)
 | .l _ _ f g u,x,k=>(u x (f (g x) k).1,(f (g x) k).2)
def mkA:List (Fe α)->α->Int->α×Int
 | [],x,k=>(x,k)
 | d::r,x,k=>mkA r (d.mk1 x k).1 (d.mk1 x k).2
def Fe.law:Fe α->Prop
 | .s g u=>(∀ x v,g (u x v)=v)/\∀ x,u x (g x)=x
 | .i g u=>(∀ x v,g (u x v)=v)/\∀ x,u x (g x)=x
 | .b g u=>(∀ x v,g (u x v)=v)/\∀ x,u x (g x)=x
 | .l _ n f g u=>Bd n f/\(∀ x v,g (u x v)=v)/\∀ x,u x (g x)=x
def Fe.same:Fe α->α->α->Prop
 | .s g _,x,y=>g x=g y
 | .i g _,x,y=>g x=g y
 | .b g _,x,y=>g x=g y
 | .l _ _ _ g _,x,y=>g x=g y
def AlG (d:Fe α):List (Fe α)->Prop
 | []=>True
 | e::r=>(∀ x k,d.same (e.mk1 x k).1 x)/\(∀ x k,e.same (d.mk1 x k).1 x)/\AlG d r
def Laws:List (Fe α)->Prop
 | []=>True
 | d::r=>d.law/\AlG d r/\Laws r
def Fe.isv:Fe α->α->Int->Prop
 | .s g _,x,k=>g x=Zn k
 | .i g _,x,k=>g x=k
 | .b g _,x,k=>g x=(k.tmod 3==0)
 | .l _ _ f g _,x,k=>(f (g x) k).1=g x
def Fe.cost:Fe α->α->Nat
 | .l _ n _ g _,x=>64*n (g x)
 | _,_=>1
def Fe.same_trans {d:Fe α} {x y z:α} (h1:d.same x y) (h2:d.same y z):d.same x z:=by
 cases d<;>exact Eq.trans h1 h2
def WU {d:Fe α} (h:d.law) (x:α) (k:Int):k<=(d.mk1 x k).2:=by
 cases d with
 | l s n f g u=>exact(h.1 _ _).1
 | _=>exact Int.le_add_one (Int.le_refl _)
def VP:∀ {r:List (Fe α)},Laws r->∀ (x:α) (k:Int),k<=(mkA r x k).2
 | [],_,x,k=>Int.le_refl _
 | d::r,h,x,k=>Int.le_trans (WU h.1 x k) (VP h.2.2 _ _)
def WT {d:Fe α}:∀ {r:List (Fe α)},AlG d r->∀ (x:α) (k:Int),d.same (mkA r x k).1 x
 | [],_,x,k=>by cases d<;>rfl
 | e::r,h,x,k=>Fe.same_trans (WT h.2.2 _ _) (h.1 x k)
def AjX {d:Fe α} (h:d.law) {x:α} {k:Int} (hv:d.isv x k):(d.mk1 x k).1=x:=by
 cases d with
 | s g u=>show u x (Zn k)=x;rw[<-(hv:g x=Zn k)];exact h.2 x
 | i g u=>
  show u x k=x;have hv:g x=k:=hv
  conv=>lhs;rw[<-hv]
  exact h.2 x
 | b g u=>show u x (k.tmod 3==0)=x;rw[<-(hv:g x=(k.tmod 3==0))];exact h.2 x
 | l s n f g u=>show u x (f (g x) k).1=x;rw[(hv:(f (g x) k).1=g x)];exact h.2.2 x
def Ak1 {d:Fe α} (h:d.law) {x y:α} {k:Int} (hs:d.same y (d.mk1 x k).1):d.isv y k/\(d.mk1 y k).2=(d.mk1 x k).2:=by
 cases d with
 | s g u=>exact⟨(hs:g y=g (u x (Zn k))).trans (h.1 _ _),rfl⟩
 | i g u=>exact⟨(hs:g y=g (u x k)).trans (h.1 _ _),rfl⟩
 | b g u=>exact⟨(hs:g y=g (u x (k.tmod 3==0))).trans (h.1 _ _),rfl⟩
 | l s n f g u=>
  have e:g y=(f (g x) k).1:=(hs:g y=g (u x (f (g x) k).1)).trans (h.2.1 _ _);have e2:=(h.1 (g x) k).2.2;rw[<-e] at e2;refine⟨?_,?_⟩
  ·show(f (g y) k).1=g y;rw[e2,e]
  ·show(f (g y) k).2=(f (g x) k).2;rw[e2]
def AdT {d:Fe α} {r:List (Fe α)} (h:Laws (d::r)) {x:α} {k:Int} (hx:(mkA (d::r) x k).1=x):d.isv x k/\(d.mk1 x k).1=x/\(mkA r x (d.mk1 x k).2).1=x:=by
 have hs:=WT h.2.1 (d.mk1 x k).1 (d.mk1 x k).2;have hx':(mkA r (d.mk1 x k).1 (d.mk1 x k).2).1=x:=hx;rw[hx'] at hs;have hv:=(Ak1 h.1 hs).1;have e:=AjX h.1 hv;simp_all
end
section
variable {P:Program} {E:Env} {m:Nat} {fn:Func} {t:Ty} {s:Sh}
def mkF (s:Sh) (f:s.X->Int->s.X×Int):MS:=⟨s,λ(x:s.X) (k:Int)=>0<=k/\(f x k).2<=4000000000000000000,f⟩
def heF (s:Sh) (f:s.X->Int->s.X×Int):Fct:=⟨[.v s,aI],[rI],λ(x:s.X×Int×Unit)=>0<=x.2.1/\(f x.1 x.2.1).2<=4000000000000000000/\(f x.1 x.2.1).1=x.1,λ(x:s.X×Int×Unit)=>((f x.1 x.2.1).2,())⟩
def Al3 {α:Type}:List (Fe α)->Bool
 | []=>true
 | .l ..::r=>Al3 r
 | _::_=>false
def hvC (s:Sh) (f:s.X->Int->s.X×Int):List (Fe s.X)->s.X->Int->Out
 | [],x,k=>.lf (heF s f) (k,())
 | .l s' n f' g u::r,x,k=>.cl (heF s' f') (g x,k,()) λz=>.br (decide (z.1<0)) (.lf (heF s f) ((-1:Int),())) (hvC s f r x z.1)
 | _::_,_,_=>.bad
def Ak3 {Q:Post} {f:s.X->Int->s.X×Int} {x:s.X}:∀ (ds:List (Fe s.X)) (k:Int),Laws ds->Al3 ds=true->0<=k->(mkA ds x k).2<=4000000000000000000->(mkA ds x k).1=x->(Out.lf (heF s f) ((mkA ds x k).2,())).holds Q->(hvC s f ds x k).holds Q
 | [],k,_,_,_,_,_,h=>h
 | .l s' n f' g u::r,k,hl,hs,hk,hm,he,h=>by
  obtain⟨hv,hd1,he2⟩:=AdT hl he;have hv:(f' (g x) k).1=g x:=hv;have hd1:u x (f' (g x) k).1=x:=hd1;have hm:(mkA r (u x (f' (g x) k).1) (f' (g x) k).2).2<=4000000000000000000:=hm;have h:(Out.lf (heF s f) ((mkA r (u x (f' (g x) k).1) (f' (g x) k).2).2,())).holds Q:=h;rw[hd1] at hm h;have hmo:=VP hl.2.2 x (f' (g x) k).2;have h1:k<=(f' (g x) k).2:=WU hl.1 x k;refine Aj ⟨hk,Int.le_trans hmo hm,hv⟩ λ_=>Aa (λhc=>?_) (λ_=>Ak3 r _ hl.2.2 hs (by show 0<=(f' (g x) k).2;omega) hm he2 h)
  have hc:decide ((f' (g x) k).2<0)=true:=hc;grind
def hvT {ds:List (Fe s.X)} (kp:List Nat) (hl:Laws ds) (hE:EOk P E) (hf:P.funcs[m]? = some fn)
 (h:∀ x k,JR P E (λ_=>none) kp [] fn ((heF s (mkA ds)).arg (x,k,()))=hvC s (mkA ds) ds x k)
 (hc:(fn.body.isSome&&decide (2<=fn.ntmps)&&Al3 ds)=true:=by kernel_rfl):(heF s (mkA ds)).ok P m:=by
 rw[S_,S_] at hc;exact Fct.of (S:=heF s (mkA ds)) (L:=λ_ _=>none) (kp:=kp) hE hf hc.1.1 hc.1.2 λx hx=>⟨(h x.1 x.2.1)▸Ak3 ds x.2.1 hl hc.2 hx.1 hx.2.1 hx.2.2 (lfY rfl)⟩
end
end Go.D
namespace Go.D
set_option linter.unusedSimpArgs false
set_option maxRecDepth 100000
set_option maxHeartbeats 2000000
def szAddr (x:FS):Nat:=x.host.size+x.path.size
def BH (x:cU):Nat:=x.name.size+x.value.size
def szToken (x:af):Nat:=x.name.size+szL BH x.bq+x.text.size
def Ek (x:dj):Nat:=x.rest.size
def AF (x:cP):Nat:=x.name.size+x.text.size+szL BH x.bq
def szBuilder (x:aj):Nat:=szL AF x.bj+x.bn.length
def Oh (x:dE):Nat:=x.name.size
def Eh (x:bA):Nat:=szL Oh x.rules
def Ea (x:bM):Nat:=x.text.size
def AD (x:aQ):Nat:=szL Ag x.bt+szL Ag x.styles+szL Ag x.images+x.nonce.size
def Ab (x:L_):Nat:=x.body.size+x.bm.size
def Bx (x:ay):Nat:=szAddr x.to+x.from_.size+x.digest.size
def Gq (x:aD):Nat:=x.path.size+Ab x.bd
def Af (x:V_):Nat:=x.host.size+szL Gq x.files
def Bh (x:ce):Nat:=x.top.size+szAddr x.to+Ab x.bd
def szCache (x:bD):Nat:=szL Bh x.bh
def Gv (x:bE):Nat:=x.top.size+szAddr x.to
def szNet (x:N_):Nat:=szL Af x.servers+szCache x.cache+szL Gv x.log
def AO (x:aw):Nat:=szAddr x.to+x.digest.size+x.body.size
def Ar (x:X_):Nat:=szAddr x.to+x.body.size
def Al (x:HO):Nat:=szAddr x.addr+AD x.bm+Ek x.tok+szL szToken x.bp+szBuilder x.ba+szL AO x.bf+szL Ar x.bi+szL szAddr x.bh+szL szAddr x.ran+szL Ag x.log
def AhZ (x:aZ):Nat:=szAddr x.to+Ab x.bd
def AjK (x:ao):Nat:=szAddr x.to+Ab x.bd
def IH (x y:ByteArray):(x==y)=decide (x=y):=by
 rw[Bool.eq_iff_iff,av];constructor
 ·intro h;have h':(x.data==y.data)=true:=h;cases x;cases y;simpa using h'
 ·rintro rfl;show(x.data==x.data)=true;simp
def De (x y:FS):(x.host==y.host&&(x.path==y.path&&true))=decide (x=y):=by
 rw[Bool.eq_iff_iff];cases x;cases y;simp[IH]
def ZV (x y:cU):(x.name==y.name&&(x.value==y.value&&true))=decide (x=y):=by
 rw[Bool.eq_iff_iff];cases x;cases y;simp[IH]
def Lt (x y:dj):(x.rest==y.rest&&true)=decide (x=y):=by
 rw[Bool.eq_iff_iff];cases x;cases y;simp[IH]
def Acf (x y:dE):(x.name==y.name&&(x.color==y.color&&true))=decide (x=y):=by
 rw[Bool.eq_iff_iff];cases x;cases y;simp[IH]
def Zv (x y:bM):(x.op==y.op&&(x.text==y.text&&true))=decide (x=y):=by
 rw[Bool.eq_iff_iff];cases x;cases y;simp[IH]
def Ee (x y:L_):(x.status==y.status&&(x.kind==y.kind&&(x.body==y.body&&(x.age==y.age&&(x.shares==y.shares&&(x.bm==y.bm&&true))))))=decide (x=y):=by
 rw[Bool.eq_iff_iff];cases x;cases y;simp[IH]
def Ox (x y:ay):(x.kind==y.kind&&((x.to.host==y.to.host&&(x.to.path==y.to.path&&true))&&(x.from_==y.from_&&(x.digest==y.digest&&true))))=decide (x=y):=by
 rw[Bool.eq_iff_iff];simp only[De];cases x;cases y;simp[IH]
def AcM (x y:aD):(x.path==y.path&&((x.bd.status==y.bd.status&&(x.bd.kind==y.bd.kind&&(x.bd.body==y.bd.body&&(x.bd.age==y.bd.age&&(x.bd.shares==y.bd.shares&&(x.bd.bm==y.bd.bm&&true))))))&&true))=decide (x=y):=by
 rw[Bool.eq_iff_iff];simp only[Ee];cases x;cases y;simp[IH]
def WR (x y:ce):(x.top==y.top&&((x.to.host==y.to.host&&(x.to.path==y.to.path&&true))&&((x.bd.status==y.bd.status&&(x.bd.kind==y.bd.kind&&(x.bd.body==y.bd.body&&(x.bd.age==y.bd.age&&(x.bd.shares==y.bd.shares&&(x.bd.bm==y.bd.bm&&true))))))&&(x.until_==y.until_&&true))))=decide (x=y):=by
 rw[Bool.eq_iff_iff];simp only[De,Ee];cases x;cases y;simp[IH]
def Adi (x y:bE):(x.top==y.top&&((x.to.host==y.to.host&&(x.to.path==y.to.path&&true))&&(x.guess==y.guess&&true)))=decide (x=y):=by
 rw[Bool.eq_iff_iff];simp only[De];cases x;cases y;simp[IH]
def Zo (x y:aw):(x.mode==y.mode&&((x.to.host==y.to.host&&(x.to.path==y.to.path&&true))&&(x.digest==y.digest&&(x.node==y.node&&(x.done==y.done&&(x.code==y.code&&(x.body==y.body&&true)))))))=decide (x=y):=by
 rw[Bool.eq_iff_iff];simp only[De];cases x;cases y;simp[IH]
def RK (x y:X_):((x.to.host==y.to.host&&(x.to.path==y.to.path&&true))&&(x.done==y.done&&(x.code==y.code&&(x.body==y.body&&true))))=decide (x=y):=by
 rw[Bool.eq_iff_iff];simp only[De];cases x;cases y;simp[IH]
def WM (x y:aZ):((x.to.host==y.to.host&&(x.to.path==y.to.path&&true))&&((x.bd.status==y.bd.status&&(x.bd.kind==y.bd.kind&&(x.bd.body==y.bd.body&&(x.bd.age==y.bd.age&&(x.bd.shares==y.bd.shares&&(x.bd.bm==y.bd.bm&&true))))))&&(x.used==y.used&&true)))=decide (x=y):=by
 rw[Bool.eq_iff_iff];simp only[De,Ee];cases x;cases y;simp[IH]
def Ac4 (x y:ao):((x.to.host==y.to.host&&(x.to.path==y.to.path&&true))&&(x.left==y.left&&(x.guess==y.guess&&((x.bd.status==y.bd.status&&(x.bd.kind==y.bd.kind&&(x.bd.body==y.bd.body&&(x.bd.age==y.bd.age&&(x.bd.shares==y.bd.shares&&(x.bd.bm==y.bd.bm&&true))))))&&true))))=decide (x=y):=by
 rw[Bool.eq_iff_iff];simp only[De,Ee];cases x;cases y;simp[IH]
end Go.D
namespace Go.D
def AnI:(∀ x:af,(⟨x.kind,x.name,x.bq,x.text⟩:af)=x)/\(∀ x:cP,(⟨x.name,x.text,x.parent,x.bq⟩:cP)=x)/\(∀ x:aj,(⟨x.bj,x.bn⟩:aj)=x)/\(∀ x:aQ,(⟨x.set_,x.bt,x.styles,x.images,x.nonce⟩:aQ)=x)/\(∀ x:HO,(⟨x.addr,x.bm,x.tok,x.bp,x.ended,x.ba,x.bf,x.bi,x.bh,x.block,x.inline,x.bo,x.bu,x.ran,x.log,x.loaded⟩:HO)=x)/\(∀ x:V_,(⟨x.host,x.files⟩:V_)=x)/\(∀ x:bD,(⟨x.bh⟩:bD)=x)/\(∀ x:N_,(⟨x.servers,x.cache,x.log,x.now⟩:N_)=x)/\(∀ x:O_,(⟨x.net,x.page,x.parts,x.conns,x.guesses⟩:O_)=x)/\(∀ x:bA,(⟨x.rules⟩:bA)=x)/\(∀ x:aw,(⟨x.mode,x.to,x.digest,x.node,x.done,x.code,x.body⟩:aw)=x)/\(∀ x:X_,(⟨x.to,x.done,x.code,x.body⟩:X_)=x)/\(∀ x:FS,(⟨x.host,x.path⟩:FS)=x)/\(∀ x:ay,(⟨x.kind,x.to,x.from_,x.digest⟩:ay)=x)/\(∀ x:L_,(⟨x.status,x.kind,x.body,x.age,x.shares,x.bm⟩:L_)=x)/\(∀ x:ao,(⟨x.to,x.left,x.guess,x.bd⟩:ao)=x)/\(∀ x:aZ,(⟨x.to,x.bd,x.used⟩:aZ)=x)/\(∀ x:ce,(⟨x.top,x.to,x.bd,x.until_⟩:ce)=x)/\(∀ x:bE,(⟨x.top,x.to,x.guess⟩:bE)=x)/\(∀ x:aD,(⟨x.path,x.bd⟩:aD)=x) :=
 by repeat' first|exact λ_=>rfl|constructor
def std:(type_of% @AnI)/\(type_of% @Ali)/\(type_of% @Amj)/\∀ {α:Type} (a b:α),(a≠b) = ¬a=b:=⟨AnI,Ali,Amj,λ_ _=>rfl⟩
def KP (a b:List Nat):List Nat:=a++(b++b.map (· + 1000000))
def lv:List (Nat×LInv)->WJ
 | [],_=>none
 | (m,x)::r,n=>bif n==m then some x else lv r n
def Fct.p {S:Fct} {P:Program} {E:Env} {f:Nat} {fn:Func} (kp:List Nat) (L:As S.as->WJ) (hE:EOk P E) (hf:P.funcs[f]? = some fn)
 (hh:∀ x,S.pre x->HoldsE (JR P E (L x) kp [] fn (S.arg x)) (S.ctr x).post) (hc:(fn.body.isSome&&decide (S.as.length<=fn.ntmps))=true:=by kernel_rfl):S.ok P f:=by
 rw[S_] at hc;exact Fct.of (L:=L) hE hf hc.1 hc.2 hh
def Out.dr (S:Xct) (x:As S.as) (k:Ts S.rs->Out):Out:=.ob (S.pre x) (.lp (Ts S.rs) True (S.is x) k)
def Bn {Q:Post} {S:Xct} {x:As S.as} {k:Ts S.rs->Out} (hp:S.pre x) (hx:∀ y,S.is x y->(k y).holds Q):(Out.dr S x k).holds Q:=⟨hp,trivial,hx⟩
def BA {Q:Post} {S:Xct} {x:As S.as} {k:Ts S.rs->Out} (hp:S.pre x) (hx:S.pre x->∀ y,S.is x y->(k y).holds Q):(Out.dr S x k).holds Q:=⟨hp,trivial,hx hp⟩
def Out.lx (S:Xct) (y:Ts S.rs):Out:=.leaf (mkR S.rs y) [] []
def lxY {S:Xct} {x:As S.as} {y:Ts S.rs} (h:S.is x y):(Out.lx S y).holds (S.ctr x).post:=Xct.leafY y h
def Out.du (x:Out):Out:=.lp Bool True (λ_=>True) λy=>.br y x x
def Aok {Q:Post} {x:Out} (h:x.holds Q):(Out.du x).holds Q:=⟨trivial,λ_ _=>⟨λ_=>h,λ_=>h⟩⟩
def Xct.p {S:Xct} {P:Program} {E:Env} {f:Nat} {fn:Func} (kp:List Nat) (L:As S.as->WJ) (hE:EOk P E) (hf:P.funcs[f]? = some fn)
 (hh:∀ x,S.pre x->HoldsE (JR P E (L x) kp [] fn (S.arg x)) (S.ctr x).post) (hc:(fn.body.isSome&&decide (S.as.length<=fn.ntmps))=true:=by kernel_rfl):S.ok P f:=by
 rw[S_] at hc;exact Xct.of (L:=L) hE hf hc.1 hc.2 hh
def Xct.o {S:Xct} {P:Program} {E:Env} {f:Nat} {fn:Func} (kp:List Nat) (hE:EOk P E) (hf:P.funcs[f]? = some fn)
 (hh:∀ x,S.pre x->HoldsE (JR P E (λ_=>none) kp [] fn (S.arg x)) (S.ctr x).post) (hc:(fn.body.isSome&&decide (S.as.length<=fn.ntmps))=true:=by kernel_rfl):S.ok P f:=Xct.p kp (λ_ _=>none) hE hf hh hc
def Out.bk (p:Prop):Out:=.ob p .ok
def AR {Q:Post} {p:Prop} (h:p):(Out.bk p).holds Q:=⟨h,trivial⟩
def Out.re {α:Type} (a:α) (x:Out):Out:=.ob (a=a) x
def An {Q:Post} {α:Type} {a:α} {x:Out} (h:x.holds Q):(Out.re a x).holds Q:=⟨rfl,h⟩
def Out.ap (n k:Nat) (x:Out):Out:=.ob True (.ob (IJ n k) x)
def EG {Q:Post} {n k:Nat} {x:Out} (h:IJ n k) (hx:IJ n k->x.holds Q):(Out.ap n k x).holds Q:=⟨trivial,h,hx h⟩
def Out.ix (i:Int) (n:Nat) (x:Out):Out:=.ob (0<=i/\i<n) (.ob (i.toNat<n) x)
def CW {Q:Post} {i:Int} {n:Nat} {x:Out} (h:0<=i/\i<n) (hx:0<=i/\i<n->i.toNat<n->x.holds Q):(Out.ix i n x).holds Q:=by
 have:i.toNat<n:=o_
 exact⟨h,this,hx h this⟩
def Out.lq (T:Type) (I:T->T->Prop) (m:T->Nat) (x0:T) (f:T->(T->Prop)->Out):Out:=.lp T (I x0 x0) (I x0) λy=>f y λx'=>I x0 x'/\m x'<m y
def Aob {Q:Post} {T:Type} {I:T->T->Prop} {m:T->Nat} {x0:T} {f:T->(T->Prop)->Out} (hp:I x0 x0) (hx:∀ y,I x0 y->(f y λx'=>I x0 x'/\m x'<m y).holds Q):(Out.lq T I m x0 f).holds Q:=⟨hp,hx⟩
def Aol:(type_of% @De)/\(type_of% @ZV)/\(type_of% @Lt)/\(type_of% @Acf)/\(type_of% @Zv)/\(type_of% @Ee)/\(type_of% @Ox)/\(type_of% @AcM)/\(type_of% @WR)/\(type_of% @Adi)/\(type_of% @Zo)/\(type_of% @RK)/\(type_of% @WM)/\(type_of% @Ac4)/\(type_of% @IH)/\(type_of% @Alr):=⟨@De,@ZV,@Lt,@Acf,@Zv,@Ee,@Ox,@AcM,@WR,@Adi,@Zo,@RK,@WM,@Ac4,@IH,@Alr⟩
def hy {Q:Post} {X:Out} {L:Prop} (h:L->X.holds Q:=by
 intro hL;repeat' first|(guard_target =~ Out.holds _ _;first|refine lfY ?_|refine lxY ?_|refine Aj ?_ λ_=>?_|refine CW ?_ λ_ _=>?_|refine EG ?_ λ_=>?_|refine An ?_|refine AR ?_|refine Aok ?_|refine Aob ?_ λ_ _=>?_|refine K6 ?_|refine Aa (λ_=>?_) λ_=>?_|refine Ac ?_ λ_=>?_)|exact trivial
 all_goals (try simp only[↓Aol,std,Nat.reduceAdd] at *)<;>(try simp(disch:=omega) only[A_,C_] at *)<;>(try simp(disch:=omega) only[G_,F_])<;>(first|trivial|omega|grind[A_,C_,B_,K_,I_,maxLen])):L->X.holds Q:=h
def hq {e:Out} {Q:Post} (X:Out) (hX:True->X.holds Q:=by exact hy) (h:e=X:=by kernel_rfl):HoldsE e Q:=⟨h▸hX trivial⟩
def hg {e:Out} {Q:Post} (X:Out) {L:Prop} (l:L) (hX:L->X.holds Q:=by exact hy) (h:e=X:=by kernel_rfl):HoldsE e Q:=⟨h▸hX l⟩
def hz {Q:Post} {X:Out} {L:Prop} (l:L) (h:L->X.holds Q:=by exact hy):X.holds Q:=h l
def an_ {a b:Prop} (h:a) (k:b):a/\b:=⟨h,k⟩
end Go.D
namespace Go.D
set_option linter.unusedSectionVars false
section
variable {α:Type} [DecidableEq α] [Inhabited α]
def A6:List α->List α
 | []=>[]
 | [a]=>[a]
 | a::b::l=>if a=b then A6 (b::l) else a::A6 (b::l)
def H8:∀ {l:List α} {x:α},x∈A6 l↔x∈l:=by
 intro l
 induction l with
 | nil=>simp[A6]
 | cons a l ih=>
  intro x;cases l with
  | nil=>simp[A6]
  | cons b l=>
   simp only[A6];grind
def Lw (a b:α) (l:List α):A6 (a::b::l)=if a=b then A6 (b::l) else a::A6 (b::l):=rfl
def UJ:∀ (l:List α) (x:α),A6 (l++[x])=if l.getLast? = some x then A6 l else A6 l++[x]:=by
 intro l
 induction l with
 | nil=>intro x;rfl
 | cons a l ih=>
  intro x;cases l with
  | nil=>
   simp only[cj,ew,A6,List.getLast?_singleton,Q_];split<;>simp_all
  | cons b l=>
   have h:=ih x;simp only[cj] at h ⊢;rw[Lw,h,Lw,show(a::b::l).getLast? = (b::l).getLast? from by simp];grind
def Hc {l:List α} {k:Nat} (h0:0<k) (hk:k<l.length):A6 (l.take (k+1))=if l.getD k default=l.getD (k-1) default then A6 (l.take k) else A6 (l.take k)++[l.getD k default]:=by
 rw[P_ hk,UJ];grind
def OT (l:List α) (h:l.length<=1):A6 l=l:=by
 match l,h with
 | [],_=>rfl
 | [_],_=>rfl
def Oj:∀ (l:List α),(A6 l).length<=l.length:=by
 intro l
 induction l with
 | nil=>simp[A6]
 | cons a l ih=>
  cases l with
  | nil=>simp[A6]
  | cons b l=>simp only[A6];split<;>simp only[aq] at *<;>omega
structure CompInv (s d:List α) (k0 k k2:Int):Prop where
 c2:1<=k2
 c0:1<=k0
 le:k0+k2<=s.length
 lo:k0<=k
 hi:k<k0+k2
 len:d.length=s.length
 dr:d.drop k.toNat=s.drop k.toNat
 tk:d.take k.toNat=A6 (s.take (k0+k2).toNat)
def Lx {s d:List α} {k i:Nat} (h:d.drop k=s.drop k) (hi:k<=i):d.getD i default=s.getD i default:=by
 have h1:(d.drop k)[i-k]? = (s.drop k)[i-k]?:=by rw[h]
 grind
def Yh {s:List α} {k:Int} (h1:1<=k) (h2:k<s.length) (hd:A6 (s.take k.toNat)=s.take k.toNat) (he:s.getD k.toNat default=s.getD (k-1).toNat default):CompInv s s k k 1:=by
 refine⟨o_,h1,o_,o_,o_,rfl,rfl,?_⟩;have:=Hc (l:=s) (k:=k.toNat) o_ o_;rw[show(k-1).toNat=k.toNat-1 from o_] at he;grind
def AcH {s:List α} {k:Int} (h1:1<=k) (h2:k<s.length) (hd:A6 (s.take k.toNat)=s.take k.toNat) (he:¬ s.getD k.toNat default=s.getD (k-1).toNat default):A6 (s.take (k+1).toNat)=s.take (k+1).toNat:=by
 have:=Hc (l:=s) (k:=k.toNat) o_ o_;rw[show(k-1).toNat=k.toNat-1 from o_] at he;rw[F_ he,hd] at this;rw[show(k+1).toNat=k.toNat+1 from o_,this,P_ o_]
def CompInv.at_ {s d:List α} {k0 k k2:Int} (h:CompInv s d k0 k k2) (hlt:k0+k2<s.length) :
 d.getD (k0.toNat+k2.toNat) default=s.getD (k0+k2).toNat default/\d.getD (k0.toNat+(k2-1).toNat) default=s.getD ((k0+k2).toNat-1) default:=by
 obtain⟨a,b,c,e,f,g,i,j⟩:=h;refine⟨?_,?_⟩
 ·rw[Lx i o_];congr 1;omega
 ·rw[Lx i o_];congr 1;omega
def Adh {s d:List α} {k0 k k2:Int} (h:CompInv s d k0 k k2) (hlt:k0+k2<s.length) (he:d.getD (k0.toNat+k2.toNat) default=d.getD (k0.toNat+(k2-1).toNat) default):CompInv s d k0 k (k2+1):=by
 obtain⟨e1,e2⟩:=h.at_ hlt;have ht:=h.tk;obtain⟨a,b,c,e,f,g,i,j⟩:=h;refine⟨o_,b,o_,e,o_,g,i,?_⟩;have:=Hc (l:=s) (k:=(k0+k2).toNat) o_ o_;rw[<-e1,<-e2,G_ he] at this;rw[show(k0+(k2+1)).toNat=(k0+k2).toNat+1 from o_,this,ht]
def Ad1 {s d:List α} {k0 k k2:Int} (h:CompInv s d k0 k k2) (hlt:k0+k2<s.length) (he:¬ d.getD (k0.toNat+k2.toNat) default=d.getD (k0.toNat+(k2-1).toNat) default):CompInv s (d.modify k.toNat λ_=>d.getD (k0.toNat+k2.toNat) default) k0 (k+1) (k2+1):=by
 obtain⟨e1,e2⟩:=h.at_ hlt;have ht:=h.tk;obtain⟨a,b,c,e,f,g,i,j⟩:=h;have hk:k.toNat<d.length:=o_
 refine⟨o_,b,o_,o_,o_,by simp[g],?_,?_⟩
 ·rw[show(k+1).toNat=k.toNat+1 from o_];have h1:(d.modify k.toNat λ_=>d.getD (k0.toNat+k2.toNat) default).drop (k.toNat+1)=d.drop (k.toNat+1):=by grind
  rw[h1];have:=cB (List.drop 1) i;simpa [List.drop_drop,Nat.add_comm] using this
 ·have:=Hc (l:=s) (k:=(k0+k2).toNat) o_ o_;rw[<-e1,<-e2,F_ he,<-ht] at this;rw[show(k0+(k2+1)).toNat=(k0+k2).toNat+1 from o_,this,show(k+1).toNat=k.toNat+1 from o_];rw[P_ (by simpa using hk)];congr 1
  ·apply List.ext_getElem?;intro x;simp only[fQ,List.getElem?_modify];split
   ·have hx:¬ k.toNat=x:=o_
    simp_all
   ·rfl
  ·simp_all
def AfI {s d:List α} {k0 k k2:Int} (h:CompInv s d k0 k k2) (hge:s.length<=k0+k2) (r:List α):cut (LR d k.toNat r) 0 (k.toNat-0)=A6 s:=by
 obtain⟨a,b,c,e,f,g,i,j⟩:=h;have hk:k.toNat<=d.length:=o_
 rw[ci (show s.length<=(k0+k2).toNat from o_)] at j;rw[<-j];simp[cut,LR,cX,Nat.min_eq_left hk]
end
def Td {α:Type} (xs ys:List α) (e:Nat):(LR xs e ys).length=min e xs.length+ys.length+(xs.length-(e+ys.length)):=by simp[LR];omega
def Ye {α:Type} (xs:List α) (a n:Nat):(cut xs a n).length=min n (xs.length-a):=by simp[cut]
def AhI {α:Type} {l:List α} {i j m:Nat} (hj:j<=l.length) (hi:i<=j) (hm:m=l.length-j):(LR l i (cut l j m)).take (i+m)=l.take i++l.drop j:=by
 have h1:cut l j m=l.drop j:=by simp[cut,hm,ci]
 rw[h1];have h2:(l.take i++l.drop j).length=i+m:=by simp;omega
 simp only[LR];grind
def Aek {α:Type} [DecidableEq α] [Inhabited α] {le lt:α->α->Prop} (h0:∀ a b,le a b->a≠b->lt a b) (h1:∀ a b c,lt a b->le b c->lt a c):∀ {l:List α},l.Pairwise le->(A6 l).Pairwise lt:=by
 intro l
 induction l with
 | nil=>intro _;exact List.Pairwise.nil
 | cons a l ih=>
  intro h;cases l with
  | nil=>exact List.pairwise_singleton _ _
  | cons b l=>
   have h':=List.pairwise_cons.1 h;simp only[A6];split
   ·exact ih h'.2
   ·rename_i e;refine List.pairwise_cons.2 ⟨λx hx=>?_,ih h'.2⟩;have hx':=H8.1 hx;have hab:=h0 _ _ (h'.1 b cW) e;rcases ah.1 hx' with e2|hin
    ·rw[e2];exact hab
    ·exact h1 _ _ _ hab ((List.pairwise_cons.1 h'.2).1 x hin)
end Go.D
namespace Go.D
open Go.Lib Go.Sort
def Tz (a b:ByteArray):Int:=compareBytes a.data.toList b.data.toList
def Agc:∀ l m:List UInt8,compareBytes l m = -1\/compareBytes l m=0\/compareBytes l m=1:=by
 intro l
 induction l with
 | nil=>intro m;cases m<;>simp[compareBytes]
 | cons a l ih=>
  intro m;cases m with
  | nil=>simp[compareBytes]
  | cons b m=>
   simp only[compareBytes];grind
def AkJ:∀ {l m:List UInt8},compareBytes l m=0↔l=m:=by
 intro l
 induction l with
 | nil=>intro m;cases m<;>simp[compareBytes]
 | cons a l ih=>
  intro m;cases m with
  | nil=>simp[compareBytes]
  | cons b m=>
   simp only[compareBytes,List.cons.injEq];grind
def Ajn:∀ {l m:List UInt8},compareBytes m l = - compareBytes l m:=by
 intro l
 induction l with
 | nil=>intro m;cases m<;>simp[compareBytes]
 | cons a l ih=>
  intro m;cases m with
  | nil=>simp[compareBytes]
  | cons b m=>
   simp only[compareBytes];grind
def Af5:∀ {l m n:List UInt8},compareBytes l m<0->compareBytes m n<0->compareBytes l n<0:=by
 intro l
 induction l with
 | nil=>intro m n h1 h2;cases n with
  | nil=>cases m<;>simp[compareBytes] at h1 h2
  | cons c n=>simp[compareBytes]
 | cons a l ih=>
  intro m n h1 h2;cases m with
  | nil=>simp[compareBytes] at h1
  | cons b m=>
   cases n with
   | nil=>simp[compareBytes] at h2
   | cons c n=>
    simp only[compareBytes] at h1 h2 ⊢;grind
def Ahk:∀ {l m:List UInt8},Op.bytesLess l m=decide (compareBytes l m<0):=by
 intro l
 induction l with
 | nil=>intro m;cases m<;>simp[Op.bytesLess,compareBytes]
 | cons a l ih=>
  intro m;cases m with
  | nil=>simp[Op.bytesLess,compareBytes]
  | cons b m=>
   simp only[Op.bytesLess,compareBytes,ih];grind
def Acg (a b:ByteArray):Op.bytesLess a.toList b.toList=decide (Tz a b<0):=by
 rw[Ahk,Lib.toList_data,Lib.toList_data];rfl
def Akw {a b:ByteArray} (h:a.data.toList=b.data.toList):a=b:=by
 cases a;cases b;simpa using Array.toList_inj.1 h
def I8 {a b:ByteArray}:Tz a b=0↔a=b:=⟨λh=>Akw (AkJ.1 h),λh=>AkJ.2 (by rw[h])⟩
def SE (a b:ByteArray):Tz b a = - Tz a b:=Ajn
def OM {a b c:ByteArray} (h1:Tz a b<0) (h2:Tz b c<0):Tz a c<0:=Af5 h1 h2
def Kt (a b:ByteArray):Tz a b = -1\/Tz a b=0\/Tz a b=1:=Agc _ _
def fCmpStr:Fct:=⟨[aT,aT],[rI],λ_=>True,λx=>(Tz x.1 x.2.1,())⟩
def cmpA (a b:FS):Int:=if Tz a.host b.host=0 then Tz a.path b.path else Tz a.host b.host
def Ym (a b:FS):cmpA a b = -1\/cmpA a b=0\/cmpA a b=1:=by unfold cmpA;split<;>exact Kt _ _
def EJ {a b:FS}:cmpA a b=0↔a=b:=by
 obtain⟨h,p⟩:=a;obtain⟨h',p'⟩:=b;simp only[cmpA,FS.mk.injEq];split
 ·rename_i e;rw[I8,I8.1 e];simp
 ·rename_i e;constructor
  ·omega
  ·rintro⟨rfl,_⟩;exact absurd (I8.2 rfl) e
def DF (a b:FS):cmpA b a = - cmpA a b:=by
 have h1:=SE a.host b.host;have h2:=SE a.path b.path;unfold cmpA;split<;>split<;>omega
def H7 {a b c:FS} (h1:cmpA a b<0) (h2:cmpA b c<0):cmpA a c<0:=by
 unfold cmpA at *
 split at h1
 ·rename_i e1;rw[I8.1 e1];split at h2
  ·rename_i e2;rw[G_ e2];exact OM h1 h2
  ·omega
 ·rename_i e1;split at h2
  ·rename_i e2;rw[<-I8.1 e2,F_ e1];exact h1
  ·rename_i e2;have:=OM h1 h2;omega
def ltF (cf:FS->FS->Int) (a b:FS):Bool:=decide (cf a b<0)
def ltA (a b:FS):ltF cmpA a b=decide (cmpA a b<0):=rfl
def Am4:SWO (ltF cmpA) where
 irrefl x:=by rw[ltA,EJ.2 rfl];rfl
 trans x y z h1 h2:=by simp only[ltA,av] at *;exact H7 h1 h2
 ntrans x y z h1 h2:=by
  simp only[ltA,cy,Int.not_lt] at *
  have a1:=DF x y;have a2:=DF y z;have a3:=DF x z;rcases Int.lt_or_eq_of_le h1 with h|h
  ·rcases Int.lt_or_eq_of_le h2 with h'|h'
   ·have:=H7 (a:=z) (b:=y) (c:=x) o_ o_;omega
   ·rw[<-EJ.1 h'.symm];omega
  ·rw[EJ.1 h.symm];omega
def Aoi (x y:FS) (h1:ltF cmpA x y=false) (h2:ltF cmpA y x=false):x=y:=by
 simp only[ltA,cy,Int.not_lt] at *
 have:=DF x y;exact EJ.1 o_
abbrev Hj (l:List FS):Prop:=l.Pairwise λa b=>cmpA a b<0
def Q0:∀ {l m:List FS},Hj l->Hj m->(∀ a,a∈l↔a∈m)->l=m:=by
 intro l
 induction l with
 | nil=>intro m _ _ h;cases m with
  | nil=>rfl
  | cons b m=>exact absurd ((h b).2 cW) (by simp)
 | cons a l ih=>
  intro m hl hm h;cases m with
  | nil=>exact absurd ((h a).1 cW) (by simp)
  | cons b m=>
   have hl':=List.pairwise_cons.1 hl;have hm':=List.pairwise_cons.1 hm;have hab:a=b:=by
    rcases ah.1 ((h a).1 cW) with e|hin
    ·exact e
    ·rcases ah.1 ((h b).2 cW) with e|hin2
     ·exact e.symm
     ·have h1:=hm'.1 a hin;have h2:=hl'.1 b hin2;have:=DF a b;omega
   subst hab;refine cB _ (ih hl'.2 hm'.2 λx=>⟨λhx=>?_,λhx=>?_⟩)
   ·grind
   ·rcases ah.1 ((h x).2 (cT _ hx)) with e|hin
    ·subst e;have:=hm'.1 x hx;rw[EJ.2 rfl] at this;omega
    ·exact hin
def Qi:∀ {l:List FS},l.Pairwise (λa b=>cmpA a b<=0)->Hj (A6 l):=by
 intro l
 induction l with
 | nil=>intro _;exact List.Pairwise.nil
 | cons a l ih=>
  intro h;cases l with
  | nil=>exact List.pairwise_singleton _ _
  | cons b l=>
   have h':=List.pairwise_cons.1 h;simp only[A6];split
   ·exact ih h'.2
   ·rename_i e;refine List.pairwise_cons.2 ⟨λx hx=>?_,ih h'.2⟩;have hx':=H8.1 hx;have hb:=h'.1 b cW;have hab:cmpA a b<0:=by
     rcases Int.lt_or_eq_of_le hb with h1|h1
     ·exact h1
     ·exact absurd (EJ.1 h1) e
    rcases ah.1 hx' with e2|hin
    ·rw[e2];exact hab
    ·have h2:=(List.pairwise_cons.1 h'.2).1 x hin;rcases Int.lt_or_eq_of_le h2 with h3|h3
     ·exact H7 hab h3
     ·rw[<-EJ.1 h3];exact hab
def S3 (l:List FS):List FS:=l.mergeSort λa b=>!(ltF cmpA) b a
def Sl (l:List FS):(S3 l).Pairwise (λa b=>cmpA a b<=0):=by
 have:=List.pairwise_mergeSort (le:=λa b=>!(ltF cmpA) b a) (λa b c h1 h2=>by
  simp only[cM] at *
  exact Am4.ntrans _ _ _ h2 h1) (λa b=>by
  have:=DF a b;by_cases h:cmpA a b<0
  ·have:¬ cmpA b a<0:=o_
   simp[ltA,this]
  ·simp[ltA,h]) l
 refine this.imp λ{a b} h=>?_
 have h3:=DF a b;simp only[ltA,cM,cy] at h;omega
def sortAddrs (l:List FS):List FS:=A6 (S3 l)
def Hm (l:List FS):Hj (sortAddrs l):=Qi (Sl l)
def GV {l:List FS} {x:FS}:x∈sortAddrs l↔x∈l:=by
 unfold sortAddrs S3;rw[H8];exact(List.mergeSort_perm _ _).mem_iff
def LF {l m:List FS} (h:Hj m) (hm:∀ x,x∈m↔x∈l):m=sortAddrs l :=
 Q0 h (Hm l) λa=>by rw[hm,GV]
def PX (l:List FS):(sortAddrs l).length<=l.length:=by
 have:=Oj (S3 l);have h2:(S3 l).length=l.length:=(List.mergeSort_perm _ _).length_eq;unfold sortAddrs;omega
end Go.D
