/-
  The library of the proof, part 3.
-/
import Derived.Test.YtfklkhgmgglloaaGreatDoorVLb
import Derived.LoopN
import Derived.Carry
import Derived.ChangeOld
import Derived.ChangeArms
import Derived.ChangeShapes
import Derived.WideShapes
import Derived.ProofKit
import Derived.OpenShut
import Derived.Handed
import Derived.MakeChecks
import GoSem.ClaimGoes
import Derived.Lib.Bytealg
import Derived.Sort.LotA
import Derived.Laws.Strings
set_option linter.defProp false
set_option linter.unusedVariables false
set_option linter.unusedSimpArgs false
namespace Go.D
section
variable {P:Program} {ops:Array Oper} {Q:Exit->Act->World->Prop}
def Ew {l:Array Bool} {i k:Nat} (hi:i<l.size):(l.setIfInBounds i true).getD k false=(l.getD k false||k==i):=by
 by_cases e:k=i
 .subst e;simp[hi]
 .have h1:¬ i=k:=λh=>e h.symm
  simp[h1,e]
def B8 {listed:Array Bool} (hsz:listed.size=ops.size) {i:Nat}:i∈Region.ready .any ops listed↔∃ o,ops[i]? = some o/\listed.getD i false=false/\∀ j∈RA o,listed.getD j false=true:=by
 unfold Region.ready;rw[List.mem_filter,ev];have hg:i<ops.size->(listed.getD i true=listed.getD i false):=by intro h;simp[hsz,h]
 constructor
 .rintro⟨h1,h2⟩;simp only[T_,cO] at h2;obtain⟨h2,h3⟩:=h2;refine⟨ops[i],by simp[h1],by grind,λj hj=>?_⟩;simp only[Array.getElem?_eq_getElem h1,bC,Option.getD_some,Array.all_eq_true'] at h3;unfold RA at hj;grind
 .rintro⟨o,ho,h2,h3⟩;have h1:=(Array.getElem?_eq_some_iff.1 ho).1;refine⟨h1,?_⟩;rw[T_,cO];refine⟨by grind,?_⟩;rw[ho];simp only[bC,Option.getD_some,Array.all_eq_true'];intro e he;cases hb:Region.binds .any e with
  | false=>rfl
  | true=>
   have:=h3 e.on (bM.2 ⟨e,List.mem_filter.2 ⟨by grind,hb⟩,rfl⟩);simpa using this
def IW (t:Tab) {S:Nat->Bool} {i:Nat} (hc:t.Closed S) (hi:∀ j,t.bit i j=true->S j=true):t.Closed (λk=>S k||k==i):=by
 intro k hk j hj;simp at hk ⊢;rcases hk with hk|rfl
 .exact .inl (hc k hk j hj)
 .exact .inl (hi j hj)
def KN (ops:Array Oper) (i k:Nat):Array Oper:=ops.modify i λo=>{ o with after:=o.after.push ⟨k,.phase⟩}
def Aad (ops:Array Oper) (i k:Nat):Bool:=match ops[i]?,ops[k]? with
 | some oi,some ok=>Region.noSelect ops && !(i==k)&&ok.guard.isNone&&(match ok.op with | .extract _ _=>true | .move _=>true|_=>false) &&
  (RA ok).all (λe=>(Aj ops).bit i e)&&(List.range ops.size).all λj=>j==k||((Aj ops).bit k j||match ops[j]? with
   | some oj=>oj.after.any (λe=>Region.binds .any e&&e.on==k)||ok.apart ops oj
   | none=>true)
 | _,_=>false
def U1 (ops:Array Oper):List (Nat×Nat)->Array Oper
 | []=>ops
 | (i,k)::r=>bif Aad ops i k then U1 (KN ops i k) r else U1 ops r
def Amm (o:Oper):Bool:=match o.op with
 | .assign _=>true
 | _=>false
def AlX (o:Oper):Bool:=match o.op with
 | .extract _ _=>true
 | _=>false
def Ap1 (o:Oper):Bool:=match o.op with
 | .move _=>true
 | _=>false
def AmY (o:Oper):Bool:=match o.op with
 | .store _ _ _=>true
 | _=>false
def Ak4 (o:Oper):Bool:=match o.op with
 | .call c=>(match c.callee with
  | .builtin .append=>true
  | _=>false)
 | _=>false
def AiC (ops:Array Oper):List (Nat×Nat) :=
 (ops.toList.zipIdx.filter λx=>Amm x.1||AmY x.1||Ak4 x.1).flatMap λx=>(ops.toList.zipIdx.filter λy=>(AlX y.1||(AmY x.1||Ak4 x.1)&&Ap1 y.1)&&decide (y.2<x.2) && !(Aj ops).bit x.2 y.2).map λy=>(x.2,y.2)
def Iw (i k:Nat):(KN ops i k).size=ops.size:=by simp[KN]
def KL:∀ (ps:List (Nat×Nat)) (ops:Array Oper),(U1 ops ps).size=ops.size
 | [],_=>rfl
 | (i,k)::r,ops=>by
  unfold U1;cases Aad ops i k
  .exact KL r ops
  .exact(KL r _).trans (Iw i k)
def IR {i k j:Nat} {o:Oper} (h:ops[j]? = some o):(KN ops i k)[j]? = some (if j=i then{ o with after:=o.after.push ⟨k,.phase⟩} else o):=by
 unfold KN;grind
def JZ {i k j:Nat} (h:ops[j]? = none):(KN ops i k)[j]? = none:=by
 unfold KN;simp_all
def AeV (i k j:Nat):((KN ops i k)[j]?).bind (·.dst)=(ops[j]?).bind (·.dst):=by
 cases h:ops[j]? with
 | none=>rw[JZ h]
 | some o=>rw[IR h];split<;>rfl
def R1 (i k:Nat) (tmps:Array Value):yielded (KN ops i k) tmps=yielded ops tmps:=by
 funext j;unfold yielded;rw[AeV]
def KE {i k j:Nat} {K:Act->World->Prop} {a:Act} {w:World} (h:wpOp P (KN ops i k) Q j K a w):wpOp P ops Q j K a w:=by
 unfold wpOp at *
 cases ho:ops[j]? with
 | none=>rw[JZ ho] at h;exact h
 | some o=>
  rw[IR ho] at h;rw[R1] at h;by_cases e:j=i
  .simp only[e,aD] at h;exact h
  .simp_all
def Hd {o:Oper} {k:Nat} {j:Nat}:j∈RA { o with after:=o.after.push ⟨k,.phase⟩}↔j∈RA o\/j=k:=by
 unfold RA;have:Region.binds .any ⟨k,.phase⟩=true:=rfl;simp[this]
def Afo (tv:Value) (ix:Nat):(∃ v,Instr.extract tv ix=pure v)\/∃ s,Instr.extract tv ix=stuck s:=by
 unfold Instr.extract;split
 .split
  .exact .inl ⟨_,rfl⟩
  .exact .inr ⟨_,rfl⟩
 .exact .inr ⟨_,rfl⟩
def Yc {i k:Nat} (hpad:Aad ops i k=true) (hN:∀ e a w,Q e a w->e=.normal):∀ (f:Nat) (listed:Array Bool) (a:Act) (w:World),listed.size=ops.size->(Aj ops).Closed (λj=>listed.getD j false) ->
 wpAny P .any (KN ops i k) Q f listed a w->wpAny P .any ops Q f listed a w:=by
 unfold Aad at hpad;split at hpad
 .rename_i oi ok hoi hok;simp only[T_,cO,beq_eq_false_iff_ne,ne_eq] at hpad;obtain⟨⟨⟨⟨⟨hsel,hik⟩,hgk⟩,hek⟩,hdk⟩,hap⟩:=hpad;rw[aM] at hdk hap;have hlet:¬ LetsOut Q:=λ⟨a,w,h⟩=>by grind
  have hsub:∀ (listed:Array Bool),listed.size=ops.size->∀ j,j∈Region.ready .any (KN ops i k) listed↔(j∈Region.ready .any ops listed/\(j=i->listed.getD k false=true)):=by
   intro listed hs j;rw[B8 (ops:=KN ops i k) (by rw[Iw,hs]),B8 hs];constructor
   .rintro⟨o,ho,h1,h2⟩;cases hoj:ops[j]? with
    | none=>rw[JZ hoj] at ho;cases ho
    | some o'=>
     rw[IR hoj] at ho;injection ho with ho
     by_cases e:j=i
     .rw[G_ e] at ho;subst ho;exact⟨⟨o',rfl,h1,λx hx=>h2 x (Hd.2 (.inl hx))⟩,λ_=>h2 k (Hd.2 (.inr rfl))⟩
     .rw[F_ e] at ho;subst ho;exact⟨⟨o',rfl,h1,h2⟩,λe2=>absurd e2 e⟩
   .rintro⟨⟨o,ho,h1,h2⟩,h3⟩;refine⟨_,IR ho,h1,λx hx=>?_⟩;by_cases e:j=i
    .rw[G_ e] at hx;rcases Hd.1 hx with hx|hx
     .exact h2 x hx
     .rw[hx];exact h3 e
    .rw[F_ e] at hx;exact h2 x hx
  have hclo:∀ (listed:Array Bool) (j:Nat) (o:Oper),listed.size=ops.size->(Aj ops).Closed (λj=>listed.getD j false)->ops[j]? = some o->(∀ x∈RA o,listed.getD x false=true)->∀ x,(Aj ops).bit j x=true->listed.getD x false=true:=by
   intro listed j o hs hc ho hd x hb;obtain⟨e,he,hh⟩:=ZX ho hb;rcases hh with rfl|hh
   .exact hd _ he
   .exact hc e (hd e he) x hh
  intro f
  induction f using Nat.strongRecOn with
  | ind f ih=>
   intro listed a w hs hc h;have next:∀ (g:Nat) (j:Nat) (o:Oper) (a:Act) (w:World),g<f->ops[j]? = some o->(∀ x∈RA o,listed.getD x false=true)->wpAny P .any (KN ops i k) Q g (listed.setIfInBounds j true) a w->wpAny P .any ops Q g (listed.setIfInBounds j true) a w:=by
    intro g j o a w hg ho hd hh;refine ih g hg _ a w (by grind) ?_ hh;have hj:j<listed.size:=by grind
    rw[show(λx=>(listed.setIfInBounds j true).getD x false)=λx=>listed.getD x false||x==j from funext λx=>Ew hj];exact IW _ hc (hclo listed j o hs hc ho hd)
   cases f with
   | zero=>
    refine⟨?_,h.2⟩;have h0:=h.1;refine List.eq_nil_iff_forall_not_mem.2 λj hj=>?_
    have hk0:∀ j,j∉Region.ready .any (KN ops i k) listed:=λj=>by grind
    by_cases e:j=i/\listed.getD k false=false
    .obtain⟨e1,e2⟩:=e;subst e1;obtain⟨o,ho,h1,h2⟩:=(B8 hs).1 hj;refine hk0 k ((hsub listed hs k).2 ⟨(B8 hs).2 ⟨ok,hok,e2,λx hx=>hclo listed j o hs hc ho h2 x (hdk x hx)⟩,λe=>absurd e.symm hik⟩)
    .refine hk0 j ((hsub listed hs j).2 ⟨hj,λe1=>?_⟩);cases e2:listed.getD k false with
     | true=>rfl
     | false=>exact absurd ⟨e1,e2⟩ e
   | succ f=>
    refine⟨λhr=>h.1 ?_,λj hj=>?_⟩
    .refine List.eq_nil_iff_forall_not_mem.2 λj hj=>?_
     have:=((hsub listed hs j).1 hj).1;rw[hr] at this;cases this
    .obtain⟨o,ho,h1,h2⟩:=(B8 hs).1 hj;by_cases e:j=i/\listed.getD k false=false
     .obtain⟨e1,e2⟩:=e;subst e1;rw[ho] at hoi;injection hoi with hoi
      have hkr:k∈Region.ready .any (KN ops j k) listed:=(hsub listed hs k).2 ⟨(B8 hs).2 ⟨ok,hok,e2,λx hx=>hclo listed j o hs hc ho h2 x (hdk x hx)⟩,λe=>absurd e.symm hik⟩;have hkd:∀ x∈RA ok,listed.getD x false=true:=λx hx=>hclo listed j o hs hc ho h2 x (hdk x hx)
      have hk1:=KE (h.2 k hkr);have hapj:ok.apart ops o=true:=by
       have:=hap j (ev.2 (Array.getElem?_eq_some_iff.1 ho).1);rw[ho] at this;simp only[dt,da] at this;rcases this with h3|h3|h3|h3
       .exact absurd h3 hik
       .have:=hclo listed k ok hs hc hok hkd j h3;rw[h1] at this;cases this
       .obtain⟨e,he,hb⟩:=Array.any_eq_true'.1 h3;simp at hb;have:=h2 k (bM.2 ⟨e,List.mem_filter.2 ⟨by grind,hb.1⟩,hb.2⟩);rw[e2] at this;cases this
       .exact h3
      have hgk':ok.guard=none:=by simp_all
      have wk:∀ a:Act,Region.wanted ok (yielded ops a.tmps)=true:=λa=>by unfold Region.wanted;rw[hgk']
      obtain⟨v,hy,hk2⟩:∃ v,Yields P ops ok v a/\wpAny P .any (KN ops j k) Q f (listed.setIfInBounds k true) (a.put ok.dst v) w:=by
       unfold wpOp at hk1;rw[hok] at hk1;dsimp only at hk1;rw[wk a,G_ rfl] at hk1;rcases hk1 with hh|hh
       .unfold Oper.wp execOp at hh;cases hop:ok.op<;>rw[hop] at hek<;>first|cases hek;done|skip
        .rename_i x;rw[hop] at hh;exact⟨a.eval x,.inl ⟨wk a,λw=>by unfold execOp;rw[hop];rfl⟩,hh⟩
        .rename_i t ix;rw[hop] at hh;dsimp only at hh;rcases Afo (a.eval t) ix with⟨v,hv⟩|⟨s,hs⟩
         .rw[hv] at hh;exact⟨v,.inl ⟨wk a,λw=>by unfold execOp;rw[hop];dsimp only;rw[hv];rfl⟩,hh⟩
         .rw[hs] at hh;exact hh.elim
       .exact absurd hh.2 hlet
      have sk:(listed.setIfInBounds k true).size=ops.size:=by grind
      have hkl:k<listed.size:=by grind
      have hjl:j<listed.size:=by grind
      have hir:j∈Region.ready .any (KN ops j k) (listed.setIfInBounds k true):=(hsub _ sk j).2 ⟨(B8 sk).2 ⟨o,ho,by simp_all,λx hx=>by rw[Ew hkl,h2 x hx];rfl⟩,λ_=>by rw[Ew hkl];simp⟩;cases f with
      | zero=>rw[hk2.1] at hir;cases hir
      | succ f'=>
       have hi2:=KE (hk2.2 j hir);have hc2:(Aj ops).Closed (λx=>(listed.setIfInBounds k true).getD x false):=by rw[show(λx=>(listed.setIfInBounds k true).getD x false)=λx=>listed.getD x false||x==k from funext λx=>Ew hkl];exact IW _ hc (hclo listed k ok hs hc hok hkd)
       have hc3:(Aj ops).Closed (λx=>((listed.setIfInBounds k true).setIfInBounds j true).getD x false):=by rw[show(λx=>((listed.setIfInBounds k true).setIfInBounds j true).getD x false)=λx=>(listed.setIfInBounds k true).getD x false||x==j from funext λx=>Ew O];exact IW _ hc2 (hclo _ j o sk hc2 ho λx hx=>by rw[Ew hkl,h2 x hx];rfl)
       have hi3:=wpOp_mono (λa' w' hh=>ih f' O _ a' w' (by grind) hc3 hh) hi2;have hQ:∀ c a w,Q (.panic c) (a.put ok.dst v) w->Q (.panic c) a w:=λc a w hq=>by grind
       have hi4:=wpOp_put ho hapj (λcs b=>Region.noSelect_spec hsel k ok cs b hok) (λcs b=>Region.noSelect_spec hsel j o cs b ho) hQ hy hi3;refine wpOp_mono (λa' w' hh=>?_) hi4;obtain⟨hy',hi5⟩:=hh;rw[Array.setIfInBounds_comm _ _ (Ne.symm hik)] at hi5;refine wpAny_first hok (Region.noSelect_spec hsel) hQ f' (listed.setIfInBounds j true) a' w' (λm om hm hmk hun hno=>?_) ?_ hy' hi5
       .have hml:m<listed.size:=by rw[hs];exact(Array.getElem?_eq_some_iff.1 hm).1
        have hunl:listed.getD m false=false:=by
         have h5:(listed.setIfInBounds j true).getD m false=false:=by
          have:m<(listed.setIfInBounds j true).size:=by grind
          simp only[Array.getD_eq_getD_getElem?,Array.getElem?_eq_getElem this,Option.getD_some] at hun ⊢;exact hun
         rw[Ew hjl,Bool.or_eq_false_iff] at h5;exact h5.1
        have:=hap m (ev.2 (Array.getElem?_eq_some_iff.1 hm).1);rw[hm] at this;simp only[dt,da] at this;rcases this with h3|h3|h3|h3
        .exact absurd h3 hmk
        .have:=hclo listed k ok hs hc hok hkd m h3;rw[hunl] at this;cases this
        .obtain⟨e,he,hb⟩:=Array.any_eq_true'.1 h3;simp at hb;exact absurd hb.2 (hno e he hb.1)
        .exact h3
       .exact(B8 (by simp[hs])).2 ⟨ok,hok,by simp_all,λx hx=>by rw[Ew hjl,hkd x hx];rfl⟩
     .have hj2:j∈Region.ready .any (KN ops i k) listed:=(hsub listed hs j).2 ⟨hj,λe1=>by
       cases e2:listed.getD k false with
       | true=>rfl
       | false=>exact absurd ⟨e1,e2⟩ e⟩
      exact KE (wpOp_mono (λa' w' hh=>next f j o a' w' O ho h2 hh) (h.2 j hj2))
 .cases hpad
def Nn (hN:∀ e a w,Q e a w->e=.normal):∀ (ps:List (Nat×Nat)) (ops:Array Oper) (f:Nat) (listed:Array Bool) (a:Act) (w:World),listed.size=ops.size->(∀ k,listed.getD k false=true->False) ->
 wpAny P .any (U1 ops ps) Q f listed a w->wpAny P .any ops Q f listed a w
 | [],_,_,_,_,_,_,_,h=>h
 | (i,k)::r,ops,f,listed,a,w,hs,h0,h=>by
  unfold U1 at h;cases hp:Aad ops i k with
  | false=>rw[hp,cF] at h;exact Nn hN r ops f listed a w hs h0 h
  | true=>
   rw[hp,aX] at h;exact Yc hp hN f listed a w hs (λx hx=>(h0 x hx).elim) (Nn hN r _ f listed a w (by rw[Iw,hs]) h0 h)
end
end Go.D
namespace Go.D
section
variable {P:Program} {E:Env} {F:Fr P} {G G':Gh} {J J' σb:St} {a a':Act} {w w':World} {o:Oper} {K:St->Out} {Q:Post} {Qx:Exit->Act->World->Prop} {ops:Array Oper}
def RB {t:Tab} {S S':Nat->Bool} (h:∀ k,S k=true->S' k=true) {s:Nat} (hs:t.ok S s=true):t.ok S' s=true:=by
 unfold Tab.ok at hs ⊢;grind
def Eh {t:Tab} {S:Nat->Bool} {i:Nat} (h:∀ k,S k=true->k<i) {s:Nat} (hs:t.ok S s=true):H9 t i s:=by
 intro k hk;unfold Tab.ok at hs;simp_all
def NX {t:Tab} {i:Nat} {B S:Nat->Bool} (h:RG F G (σb.view t S) a w) (hB:∀ k,B k=true->k<i) (hS:∀ k,B k=true->S k=true) (hl:Later t i J σb):RG F G (J.view t B) a w:=by
 refine h.weaken ?_ ?_ ?_ hl.fb.symm hl.fl.symm hl.nt.symm
 .intro s x hx;rw[Bu] at hx;split at hx
  .rename_i hs;obtain⟨y,h1,h2⟩:=hl.tm1 s x (Eh hB hs) hx;exact⟨y,by rw[Bu,G_ (RB hS hs)];exact h1,λv=>h2 w G v⟩
  .cases hx
 .intro s cs hx;rw[C6] at hx ⊢;split at hx
  .rename_i hs;rw[G_ (RB hS hs),hl.bx s (Eh hB hs)];exact hx
  .cases hx
 .intro l T hx;rw[C5] at hx ⊢;split at hx
  .rename_i hs;rw[G_ (RB hS hs),hl.hp l (Eh hB hs)];exact hx
  .cases hx
def OP {t:Tab} {i:Nat} {S:Nat->Bool} (h:RG F G J a w) (hS:∀ k,S k=true->k<i) (hl:Later t i J σb):RG F G (σb.view t S) a w:=by
 refine h.weaken ?_ ?_ ?_ hl.fb hl.fl hl.nt
 .intro s x hx;rw[Bu] at hx;split at hx
  .rename_i hs;obtain⟨y,h1,h2⟩:=hl.tm2 s x (Eh hS hs) hx;exact⟨y,h1,λv=>h2 w G v⟩
  .cases hx
 .intro s cs hx;rw[C6] at hx;split at hx
  .rename_i hs;rw[<-hl.bx s (Eh hS hs)];exact hx
  .cases hx
 .intro l T hx;rw[C5] at hx;split at hx
  .rename_i hs;rw[<-hl.hp l (Eh hS hs)];exact hx
  .cases hx
def XH {t:Tab} {i:Nat} {S:Nat->Bool} (h:RG F G (J.view t S) a w) (hS:∀ k,S k=true->k<i) (hl:Later t i J σb):RG F G (σb.view t S) a w:=by
 refine h.weaken ?_ ?_ ?_ hl.fb hl.fl hl.nt
 .intro s x hx;rw[Bu] at hx;split at hx
  .rename_i hs;obtain⟨y,h1,h2⟩:=hl.tm2 s x (Eh hS hs) hx;exact⟨y,by rw[Bu,G_ hs];exact h1,λv=>h2 w G v⟩
  .cases hx
 .intro s cs hx;rw[C6] at hx ⊢;split at hx
  .rename_i hs;rw[G_ hs,<-hl.bx s (Eh hS hs)];exact hx
  .cases hx
 .intro l T hx;rw[C5] at hx ⊢;split at hx
  .rename_i hs;rw[G_ hs,<-hl.hp l (Eh hS hs)];exact hx
  .cases hx
def I0 {t:Tab} {S S':Nat->Bool} (h:RG F G (J.view t S) a w) (he:∀ s,t.ok S' s=true->t.ok S s=true):RG F G (J.view t S') a w:=by
 refine h.weaken ?_ ?_ ?_ rfl rfl rfl
 .intro s x hx;rw[Bu] at hx;split at hx
  .rename_i hs;exact⟨x,by rw[Bu,G_ (he s hs)];exact hx,λ_ h=>h⟩
  .cases hx
 .intro s cs hx;rw[C6] at hx ⊢;simp_all
 .intro l T hx;rw[C5] at hx ⊢;simp_all
def Mp {t:Tab} {S S':Nat->Bool} (h:RG F G (J.view t S) a w) (he:∀ k,S' k=true->S k=true):RG F G (J.view t S') a w:=I0 h λ_ hs=>RB he hs
def WV {n:Nat} (h:RG F G (J.view (Aj ops) λk=>decide (k<ops.size)) a w):RG F G J a w:=by
 have hk:∀ s,(Aj ops).ok (λk=>decide (k<ops.size)) s=true:=by
  intro s;unfold Tab.ok;cases e:look (Aj ops).ws s with
  | none=>rfl
  | some k=>
   obtain⟨o,ho,_⟩:=AdQ e;grind
 refine h.weaken ?_ ?_ ?_ rfl rfl rfl
 .intro s x hx;exact⟨x,by rw[Bu,G_ (hk s)];exact hx,λ_ h=>h⟩
 .intro s cs hx;rw[C6,G_ (hk s)];exact hx
 .intro l T hx;rw[C5,G_ (hk _)];exact hx
def AfZ (hE:EOk P E) (hd:Jj ops=true) {k:Nat} {S:Nat->Bool} {σk σk1:St} (hf:OpFact P E ops k σk σk1) (hl:Later (Aj ops) (k+1) σk1 σb) (hb:I9 (Aj ops) σb=true) (hc:(Aj ops).Closed S) (hS:S k=false)
 (hpre:∀ j,(Aj ops).bit k j=true->S j=true) (h:RG F G (σb.view (Aj ops) S) a w) {Kx:Act->World->Prop} (hK:∀ a' w' G',RG F G' (σb.view (Aj ops) λj=>S j||j==k) a' w'->Kx a' w') :
 wpOp P ops Qx k Kx a w:=by
 have hf0:=hf;obtain⟨o,σr,wanted,ho,hg,hcl,hh⟩:=hf;have hmask:∀ j,(Aj ops).bit k j=true->j<k:=λj hj=>Ah1 hd k j hj
 have lr:Later (Aj ops) k σr σb:=by
  have hd0:=λd0 hd0=>(DU hcl d0 hd0).1
  rcases hh with⟨_,J',_,rfl⟩|⟨_,rfl⟩
  .exact(Later.merge hd0).trans (hl.mono (Nat.le_succ k))
  .exact(Later.merge hd0).trans (hl.mono (Nat.le_succ k))
 have lk:Later (Aj ops) k σk σb:=(Later.guard hg).trans lr;have vk:=NX h hmask hpre lk;have vr:=NX h hmask hpre lr;have hw:=hg.wanted_ok vk;have hu:∀ d,o.dst=some d->∀ s,look (Aj ops).ws s=some k->s=d:=by
  intro d hd s hs;obtain⟨o',ho',hd'⟩:=AdQ hs;rw[ho] at ho';injection ho' with ho'
  subst ho';rw[hd] at hd';injection hd' with hd'
  exact hd'.symm
 have nob:∀ d,o.dst=some d->¬ H9 (Aj ops) k d/\H9 (Aj ops) (k+1) d:=by intro d hd;have h1:=(DU hcl d hd).1;exact⟨λhb=>by have:=hb k h1;omega,λj hj=>by grind⟩
 have dlt:∀ d,o.dst=some d->d<a.tmps.size:=by intro d hd;have h1:=(DU hcl d hd).2;have h2:a.tmps.size=σk.nt:=vk.nt;exact h2▸h1
 have noneOk:o.dst=none->∀ s,(Aj ops).ok (λj=>S j||j==k) s=true->(Aj ops).ok S s=true:=by
  intro hn s hs;unfold Tab.ok at hs ⊢;cases e:look (Aj ops).ws s with
  | none=>rfl
  | some j=>
   rw[e] at hs;obtain⟨o',ho',hd'⟩:=AdQ e;have:¬ j=k:=by
    intro ejk;subst ejk;rw[ho] at ho';injection ho' with ho'
    subst ho';rw[hn] at hd';cases hd'
   simpa [this] using hs
 unfold wpOp;rw[ho];dsimp only;rw[hw];have tmE:∀ d (J':St),o.dst=some d->σk1=σr.merge o.dst J'->(∀ x,look σb.tm d=some x->Imp (J'.get d) x)/\(∀ cs,look σb.bx d=some cs->look J'.bx d=some cs)/\∀ l T,l / 64=d->look σb.hp l=some T->look J'.hp l=some T:=by
  intro d J' hd he;have hb1:=(nob d hd).2;rw[hd] at he;subst he;refine⟨λx hx=>?_,λcs hx=>?_,λl T hld hx=>?_⟩
  .obtain⟨y,h1,h2⟩:=hl.tm2 d x hb1 hx;rw[Ml,G_ rfl] at h1;injection h1 with h1
   rw[h1];exact h2
  .rw[hl.bx d hb1,Ro,G_ rfl] at hx;exact hx
  .rw[hl.hp l (by grind),QC,G_ hld] at hx;exact hx
 rcases hh with⟨rfl,J',hst,he⟩|⟨rfl,he⟩
 .simp only[aD];refine .inl (Oper.wp_mono ?_ (Q3 (cls:=true) hE vr hst));rintro a' w' ⟨J'',G',hG',⟨_,rfl⟩,hext⟩;cases hdst:o.dst with
  | none=>
   obtain⟨v,rfl⟩:=hext.act;rw[hdst];refine hK _ _ G ?_;exact I0 (hext.world h) (noneOk hdst)
  | some d=>
   obtain⟨v,rfl⟩:=hext.act;rw[hdst] at hext hG' ⊢;obtain⟨e1,e2,e3⟩:=tmE d J'' hdst he;refine hK _ _ G' (Rv hc hS (DU hcl d hdst).1 (hu d hdst) hb h (dlt d hdst) hG' hext e1 e2 e3)
 .simp only[cD,aS];cases hdst:o.dst with
  | none=>exact hK _ _ G (I0 h (noneOk hdst))
  | some d=>
   rw[hdst] at he;obtain⟨e1,e2,e3⟩:=tmE d (Gq (some d) σr) hdst (by grind);have hG':RG F G (Gq (some d) σr) (a.put (some d) undef) w:=by
    have:=(vr.skip (some d));refine this.weaken (λs x hx=>?_) (λs cs hx=>by simp[Gq,look] at hx) (λl T hx=>by simp[Gq,look] at hx) rfl rfl rfl;simp only[Gq,look] at hx;split at hx
    .rename_i e;injection hx with hx
     subst hx;refine⟨skp,?_,λ_ h=>h⟩;simp only[St.setTm,St.put,DI,G_ (da.1 e)]
    .cases hx
   refine hK _ _ G (Rv hc hS (DU hcl d hdst).1 (hu d hdst) hb h (dlt d hdst) hG' .same e1 e2 e3)
def AiT (hE:EOk P E) (hd:Jj ops=true) {k:Nat} {S:Nat->Bool} {σk:St} (ho:ops[k]? = some o) (hcl:Jk (Aj ops) k o σk=true) (hc:(Aj ops).Closed S) (hS:S k=false) (hlt:∀ j,S j=true->j<k)
 (hpre:∀ j,(Aj ops).bit k j=true->S j=true) (h:RG F G (σk.view (Aj ops) S) a w) {f:St->Out} {X:St->St->Prop}
 (hf:∀ σ1,(f σ1).holds Q->∃ σb,X σ1 σb/\Later (Aj ops) (k+1) σ1 σb/\I9 (Aj ops) σb=true)
 (hh:(guarded ops o σk (σk.view (Aj ops) ((Aj ops).bit k)) (λσr=>(step P E true o (σr.view (Aj ops) ((Aj ops).bit k)) (.st .normal)).bindL λJ'=>f (σr.merge o.dst J')) λσr=>f (σr.merge o.dst (Gq o.dst σr))).holds Q) {Kx:Act->World->Prop}
 (hK:∀ σ1 σb a' w' G',X σ1 σb->Later (Aj ops) k σk σ1->Later (Aj ops) (k+1) σ1 σb->I9 (Aj ops) σb=true->RG F G' (σb.view (Aj ops) λj=>S j||j==k) a' w'->Kx a' w') :
 wpOp P ops Qx k Kx a w:=by
 obtain⟨σr,wanted,hg,hh⟩:=FL hh;have hmask:∀ j,(Aj ops).bit k j=true->j<k:=λj hj=>Ah1 hd k j hj
 have lg:=Later.guard (i:=k) hg;have vk:RG F G (σk.view (Aj ops) ((Aj ops).bit k)) a w:=Mp h hpre;have vr:=NX (J:=σr) (σb:=σr) (i:=k) (B:=(Aj ops).bit k) (S:=S) (XH h hlt lg) hmask hpre (Later.refl _ _ _);have hw:=hg.wanted_ok vk;have hd0:=λd0 hd0=>(DU hcl d0 hd0).1
 have hu:∀ d,o.dst=some d->∀ s,look (Aj ops).ws s=some k->s=d:=by
  intro d hd s hs;obtain⟨o',ho',hd'⟩:=AdQ hs;rw[ho] at ho';injection ho' with ho'
  subst ho';rw[hd] at hd';injection hd' with hd'
  exact hd'.symm
 have nob:∀ d,o.dst=some d->H9 (Aj ops) (k+1) d:=by intro d hd;have h1:=hd0 d hd;exact λj hj=>by grind
 have dlt:∀ d,o.dst=some d->d<a.tmps.size:=by intro d hd;have h1:=(DU hcl d hd).2;have h2:a.tmps.size=σk.nt:=vk.nt;exact h2▸h1
 have noneOk:o.dst=none->∀ s,(Aj ops).ok (λj=>S j||j==k) s=true->(Aj ops).ok S s=true:=by
  intro hn s hs;unfold Tab.ok at hs ⊢;cases e:look (Aj ops).ws s with
  | none=>rfl
  | some j=>
   rw[e] at hs;obtain⟨o',ho',hd'⟩:=AdQ e;have:¬ j=k:=by
    intro ejk;subst ejk;rw[ho] at ho';injection ho' with ho'
    subst ho';rw[hn] at hd';cases hd'
   simpa [this] using hs
 have fin:∀ (J':St) (G':Gh) (a':Act) (w':World),(f (σr.merge o.dst J')).holds Q->RG F G' J' a' w'->(∃ v,a'=a.put o.dst v)->Ext o.dst G a w G' a' w'->Kx a' w':=by
  intro J' G' a' w' hq hG' hv hext;obtain⟨v,rfl⟩:=hv;obtain⟨σb,hX,hl,hb⟩:=hf _ hq;have lm:Later (Aj ops) k σk (σr.merge o.dst J'):=lg.trans (Later.merge hd0);have lb:Later (Aj ops) k σk σb:=lm.trans (hl.mono (Nat.le_succ k));have hv2:=XH h hlt lb;cases hdst:o.dst with
  | none=>
   refine hK _ σb _ _ G (by rw[hdst] at hX;exact hX) (by grind) (by rw[hdst] at hl;exact hl) hb ?_;exact I0 (hext.world hv2) (noneOk hdst)
  | some d=>
   have hb1:=nob d hdst;rw[hdst] at hext hG' hX lm hl;refine hK _ σb _ _ G' hX lm hl hb (Rv hc hS (hd0 d hdst) (hu d hdst) hb hv2 (dlt d hdst) hG' hext ?_ ?_ ?_)
   .intro x hx;obtain⟨y,h1,h2⟩:=hl.tm2 d x hb1 hx;rw[Ml,G_ rfl] at h1;injection h1 with h1
    rw[h1];exact h2
   .intro cs hx;rw[hl.bx d hb1,Ro,G_ rfl] at hx;exact hx
   .intro l T hld hx;rw[hl.hp l (by grind),QC,G_ hld] at hx;exact hx
 unfold wpOp;rw[ho];dsimp only;rw[hw];cases wanted with
 | true=>
  refine .inl (Oper.wp_mono ?_ (Q3 (cls:=true) hE vr (Out.bindL_holds hh)));rintro a' w' ⟨J'',G',hG',⟨_,hq⟩,hext⟩;exact fin J'' G' a' w' hq hG' hext.act hext
 | false=>
  refine fin (Gq o.dst σr) G _ w hh ?_ ⟨_,rfl⟩ .same;have:=(vr.skip o.dst);refine this.weaken (λs x hx=>?_) (λs cs hx=>by simp[Gq,look] at hx) (λl T hx=>by simp[Gq,look] at hx) ?_ ?_ ?_
  .cases hdst:o.dst with
   | none=>rw[hdst] at hx;simp[Gq,look] at hx
   | some d=>
    rw[hdst] at hx;simp only[Gq,look] at hx;split at hx
    .rename_i e;injection hx with hx
     subst hx;refine⟨skp,?_,λ_ h=>h⟩;simp only[St.setTm,St.put,DI,G_ (da.1 e)]
    .cases hx
  all_goals (cases o.dst<;>rfl)
def unl (S:Nat->Bool):Nat->Nat
 | 0=>0
 | n+1=>unl S n+(if S n then 0 else 1)
def XP {S:Nat->Bool}:∀ {n:Nat},unl S n=0->∀ k,k<n->S k=true:=by
 intro n
 induction n with
 | zero=>intro _ k hk;omega
 | succ n ih=>
  intro h k hk;simp only[unl] at h;grind
def Abi {S:Nat->Bool} {i:Nat} (hS:S i=false):∀ {n:Nat},(n<=i->unl (λk=>S k||k==i) n=unl S n)/\(i<n->unl (λk=>S k||k==i) n+1=unl S n):=by
 intro n
 induction n with
 | zero=>exact⟨λ_=>rfl,λh=>O⟩
 | succ n ih=>
  refine⟨λh=>?_,λh=>?_⟩
  .have:=ih.1 O;have hne:¬ n=i:=O
   simp[unl,this,hne]
  .by_cases e:n=i
   .subst e;have:=ih.1 (X_ _);simp[unl,this,hS]
   .simp only[unl,e,da,dt,or_false];omega
def XB {t:Tab} {b:Nat} (hc:Tw t b=true) {k:Nat} (hk:k<t.n):(k<b->t.bit b k=true)/\(b<k->t.bit k b=true):=by
 unfold Tw at hc;grind
def Al7 (hE:EOk P E) (hd:Jj ops=true):∀ (f b:Nat) (σb:St) (G:Gh) (a:Act) (w:World) (listed:Array Bool),listed.size=ops.size->(∀ k,k<b->listed.getD k false=false->∃ σk σk1,OpFact P E ops k σk σk1/\Later (Aj ops) (k+1) σk1 σb)->b<=ops.size ->
 (∀ k,k<b->listed.getD k false=false->I9 (Aj ops) σb=true)->P6 P E ops K Q ops.size b σb ->
 RG F G (σb.view (Aj ops) λk=>listed.getD k false) a w->(Aj ops).Closed (λk=>listed.getD k false)->(∀ k,b<=k->listed.getD k false=false)->unl (λk=>listed.getD k false) ops.size<=f ->
 wpAny P .any ops (λe a w=>e=.normal/\LK F K Q a w) f listed a w:=by
 intro f
 induction f with
 | zero=>
  intro b σb G a w listed hsz hops hb hok htail h hc hbk hu;have hall:=XP (Nat.le_zero.1 hu);have hbn:b=ops.size:=by
   rcases Nat.lt_or_ge b ops.size with hlt|hge
   .have:=hall b hlt;rw[hbk b (X_ _)] at this;cases this
   .omega
  refine⟨?_,rfl,?_⟩
  .refine List.eq_nil_iff_forall_not_mem.2 λx hx=>?_
   obtain⟨o,ho,hx1,_⟩:=(B8 hsz).1 hx;rw[hall x (Array.getElem?_eq_some_iff.1 ho).1] at hx1;cases hx1
  .rcases htail with⟨_,hh⟩|⟨hlt,_⟩|⟨hlt,_⟩
   .exact⟨σb,⟨G,WV (n:=ops.size) (Mp h λk hk=>hall k (by grind))⟩,hh⟩
   .omega
   .omega
 | succ f ih=>
  intro b σb G a w listed hsz hops hb hok htail h hc hbk hu;have hdir:∀ k o,ops[k]? = some o->(∀ j∈RA o,listed.getD j false=true)->∀ j,(Aj ops).bit k j=true->listed.getD j false=true:=by
   intro k o ho hj j hb;obtain⟨e,he,hh⟩:=ZX ho hb;rcases hh with rfl|hh
   .exact hj _ he
   .exact hc e (hj e he) j hh
  constructor
  .intro hnil;have hall:∀ k,k<ops.size->listed.getD k false=true:=by
    intro k
    induction k using Nat.strongRecOn with
    | ind k ihk=>
     intro hk;cases hl:listed.getD k false with
     | true=>rfl
     | false=>
      have:k∈Region.ready .any ops listed:=(B8 hsz).2 ⟨ops[k],by simp,hl,λj hj=>by
       have hjk:j<k:=by unfold Jj at hd;rw[aM] at hd;have:=hd (ops[k],k) (by grind);rw[aM] at this;simpa using this j hj
       exact ihk j hjk O⟩
      rw[hnil] at this;cases this
   have hbn:b=ops.size:=by
    rcases Nat.lt_or_ge b ops.size with hlt|hge
    .have:=hall b hlt;rw[hbk b (X_ _)] at this;cases this
    .omega
   refine⟨rfl,?_⟩;rcases htail with⟨_,hh⟩|⟨hlt,_⟩|⟨hlt,_⟩
   .exact⟨σb,⟨G,WV (n:=ops.size) (Mp h λk hk=>hall k (by grind))⟩,hh⟩
   .omega
   .omega
  .intro k hk;obtain⟨o,ho,hkl,hkd⟩:=(B8 hsz).1 hk;have hkn:k<ops.size:=(Array.getElem?_eq_some_iff.1 ho).1;have hpre:=hdir k o ho hkd;have hget:∀ j,(listed.setIfInBounds k true).getD j false=(listed.getD j false||j==k):=λj=>Ew O
   have hget':(λj=>(listed.setIfInBounds k true).getD j false)=λj=>listed.getD j false||j==k:=funext hget
   have hold:∀ j,(listed.setIfInBounds k true).getD j false=false->listed.getD j false=false/\j≠k:=by intro j hj;rw[hget,Bool.or_eq_false_iff] at hj;exact⟨hj.1,by grind⟩
   have hu':unl (λj=>(listed.setIfInBounds k true).getD j false) ops.size<=f:=by rw[hget'];have:=(Abi (S:=λj=>listed.getD j false) hkl (n:=ops.size)).2 hkn;omega
   have hcl':(Aj ops).Closed λj=>(listed.setIfInBounds k true).getD j false:=by rw[hget'];exact IW _ hc hpre
   by_cases hkb:k<b
   .obtain⟨σk,σk1,hf,hl⟩:=hops k hkb hkl;refine AfZ hE hd hf hl (hok k hkb hkl) hc hkl hpre h λa' w' G' h'=>?_
    refine ih b σb G' a' w' _ (by simp[hsz]) (λj hj hj2=>hops j hj (hold j hj2).1) hb (λj hj hj2=>hok j hj (hold j hj2).1) htail (by grind) hcl' (λj hj=>?_) hu';rw[hget,hbk j hj];have:¬ j=k:=O
    simpa using this
   .rcases htail with⟨hbn,_⟩|⟨hbn,ob,hob,hcut,hh⟩|⟨hbn,ob,hob,hsemi,hcls,hh⟩
    .omega
    .-- the operation that must stand alone
     have hkb':k=b:=by
      rcases Nat.lt_or_ge b k with hlt|hge
      .have:=hpre b ((XB hcut (show k<(Aj ops).n from hkn)).2 hlt);rw[hbk b (X_ _)] at this;cases this
      .omega
     subst hkb';rw[ho] at hob;injection hob with hob
     subst hob;have hall:∀ j,listed.getD j false=decide (j<k):=by
      intro j;by_cases hj:j<k
      .rw[hpre j ((XB hcut (show j<(Aj ops).n from(by show j<ops.size;omega))).1 hj)];simp[hj]
      .rw[hbk j O];simp[hj]
     have hv:RG F G (σb.view (Aj ops) ((Aj ops).bit k)) a w:=Mp h λj hj=>hpre j hj
     obtain⟨σr,wanted,hg,hh⟩:=FL hh;have hw:=hg.wanted_ok hv;have hr:=hg.retold hv hv;have next:∀ (J':St) (G':Gh) (a':Act) (w':World),RG F G' J' a' w'->(evR P E ops (Aj ops) true (List.range' (k+1) (ops.size-(k+1))) J' K).holds Q->wpAny P .any ops (λe a w=>e=.normal/\LK F K Q a w) f (listed.setIfInBounds k true) a' w':=by
      intro J' G' a' w' h' hh';obtain⟨b',σb',k1,k2,k3,k4⟩:=P4 (ops.size-(k+1)) (k+1) true J' hh';rw[show k+1+(ops.size-(k+1))=ops.size from O] at k2 k4;obtain⟨l1,l2,l3⟩:=k1.later;have hS:∀ j,(listed.setIfInBounds k true).getD j false=decide (j<k+1):=by
       intro j;rw[hget,hall];by_cases h1:j<k
       .simp[h1,show j<k+1 from O]
       .by_cases h2:j=k
        .simp[h2]
        .simp[h1,h2,show ¬ j<k+1 from O]
      have hge:∀ j,(listed.setIfInBounds k true).getD j false=false->k+1<=j:=by intro j hj;rw[hS] at hj;simpa using hj
      refine ih b' σb' G' a' w' _ (by simp[hsz]) (λj hj hj2=>l3 j (hge j hj2) hj) k2 (λj hj hj2=>k3.resolve_right (by grind)) k4 (OP h' (λj hj=>?_) l2) hcl' (λj hj=>by rw[hS];simp;omega) hu';have:=hS j;rw[this] at hj;simpa using hj
     unfold wpOp;rw[ho];dsimp only;rw[hw];cases wanted with
     | true=>
      obtain⟨G2,hr2⟩:=Uf hr;exact .inl (Oper.wp_mono (λa1 w1 ⟨σ1,⟨G1,h1⟩,hh1⟩=>next σ1 G1 a1 w1 h1 hh1) (Q3 (cls:=false) hE hr2 hh))
     | false=>
      exact next _ G _ w (hr.skip o.dst) hh
    .-- a cursor's call: all that comes later stands behind it
     have hkb':k=b:=by
      rcases Nat.lt_or_ge b k with hlt|hge
      .have hb2:(Aj ops).bit k b=true:=by
        unfold Amc at hsemi;rw[aM] at hsemi;have:=hsemi k (ev.2 (show k<(Aj ops).n from hkn));have h2:¬ k<=b:=O
        simpa [h2] using this
       have:=hpre b hb2;rw[hbk b (X_ _)] at this;cases this
      .omega
     subst hkb';rw[ho] at hob;injection hob with hob
     subst hob;have hlt:∀ j,listed.getD j false=true->j<k:=by
      intro j hj;rcases Nat.lt_or_ge j k with h1|h1
      .exact h1
      .rw[hbk j h1] at hj;cases hj
     refine AiT hE hd ho hcls hc hkl hlt hpre h (f:=λσ1=>evR P E ops (Aj ops) false (List.range' (k+1) (ops.size-(k+1))) σ1 K) (X:=λσ1 σb'=>∃ b',Seg P E ops (k+1) σ1 b' σb'/\b'<=ops.size/\P6 P E ops K Q ops.size b' σb') (λσ1 hq=>?_) hh ?_
     .obtain⟨b',σb',k1,k2,k3,k4⟩:=P4 (ops.size-(k+1)) (k+1) false σ1 hq;rw[show k+1+(ops.size-(k+1))=ops.size from O] at k2 k4;exact⟨σb',⟨b',k1,k2,k4⟩,k1.later.2.1,k3.resolve_right (by simp)⟩
     .intro σ1 σb' a' w' G' ⟨b',k1,k2,k4⟩ l1 l2 hs2 h';obtain⟨m1,_,m3⟩:=k1.later;refine ih b' σb' G' a' w' _ (by simp[hsz]) (λj hj hj2=>?_) k2 (λj hj hj2=>hs2) k4 (by grind) hcl' (λj hj=>?_) hu'
      .obtain⟨hj3,hne⟩:=hold j hj2;rcases Nat.lt_or_ge j k with h1|h1
       .obtain⟨σj,σj1,hf,hl⟩:=hops j h1 hj3;exact⟨σj,σj1,hf,hl.trans ((l1.trans (l2.mono (Nat.le_succ k))).mono O)⟩
       .exact m3 j O hj
      .rw[hget,hbk j O];have:¬ j=k:=O
       simpa using this
def TV.weak:TV->TV
 | .capd l _=>.v false [.ref l]
 | x=>x
def St.weak (J:St):St:=J.map id TV.weak
def RG.weak (h:RG F G J a w):RG F G J.weak a w:=h.map (λ_ _ h=>h) (λx v h=>by
 cases x<;>first|exact h|exact⟨_,rfl,h.1⟩)
def QS (P:Program) (E:Env) (ops:Array Oper) (J:St) (K:St->Out):Out :=
 bif P.follows .mixedOrders&&Jj ops then evR P E ops (Aj ops) true (List.range' 0 ops.size) J (λJ'=>K J'.weak.lits) else .bad
def PE (hE:EOk P E) (h:RG F G J a w) (hh:(QS P E ops J K).holds Q):P.follows .mixedOrders=true/\wpAny P .any ops (λe a w=>e=.normal/\LK F (λJ'=>K J'.weak.lits) Q a w) ops.size (Array.replicate ops.size false) a { w with drawn:=w.drawn+1 }:=by
 unfold QS at hh;cases hc:(P.follows .mixedOrders&&Jj ops) with
 | false=>simp[hc,Out.holds] at hh
 | true=>
  simp only[hc,aX] at hh;rw[T_] at hc;obtain⟨b,σb,k1,k2,k3,k4⟩:=P4 ops.size 0 true J hh;rw[cM] at k2 k4;have h0:RG F G J a { w with drawn:=w.drawn+1 }:=h.world ⟨rfl,rfl,⟨rfl,by first|exact DrLe.refl _|exact DrLe.succ _|exact DrLe.add _ _⟩,X_ _⟩ λ_ _=>rfl
  have hf:∀ k,(Array.replicate ops.size false).getD k false=false:=λk=>by by_cases hk:k<ops.size<;>simp[hk]
  refine⟨hc.1,Al7 (K:=λJ'=>K J'.weak.lits) hE hc.2 ops.size b σb G a _ _ (by simp) (λk hk _=>k1.later.2.2 k (Nat.zero_le _) hk) k2 (λk hk _=>k3.resolve_right O) k4 (OP h0 (λk hk=>by rw[hf] at hk;cases hk) k1.later.2.1) (λk hk=>by grind) (λk _=>hf k) ?_⟩;have:∀ n,unl (λk=>(Array.replicate ops.size false).getD k false) n<=n:=by
   intro n
   induction n with
   | zero=>exact X_ _
   | succ n ih=>simp only[unl];split<;>omega
  exact this _
def Ah5:Md->Bool
 | .cur=>true
 | _=>false
def Afw (E:Env) (o:Oper):Bool:=match o.op with
 | .call c=>match c.callee with
  | .value (.func g)=>match E.fn g with
   | some (ms,_)=>ms.any Ah5
   | none=>false
  | _=>false
 | _=>false
def Amj (E:Env) (ops:Array Oper):Option (List Nat) :=
 match (List.range ops.size).filter λi=>Afw E (ops.getD i default) with
 | []=>none
 | cs=>some ((List.range (2*cs.length+2)).flatMap λkey=>(List.range ops.size).filter λk=>key==2*(cs.filter λi=>(Aj ops).bit k i).length+(bif cs.contains k then 1 else 0))
def U2 (P:Program) (E:Env) (ops:Array Oper) (J:St) (K:St->Out):Out :=
 match Amj E ops with
 | none=>QS P E ops J K
 | some ord=>bif Dy ops.size ord then QS P E (Ei ops ord) J K else .bad
def X6 (hE:EOk P E) (h:RG F G J a w) (hh:(U2 P E ops J K).holds Q):P.follows .mixedOrders=true /\
 wpAny P .any ops (λe a w=>e=.normal/\LK F (λJ'=>K J'.weak.lits) Q a w) ops.size (Array.replicate ops.size false) a { w with drawn:=w.drawn+1 }:=by
 unfold U2 at hh;split at hh
 .exact PE hE h hh
 .rename_i ord _;cases hp:Dy ops.size ord with
  | false=>rw[hp] at hh;exact hh.elim
  | true=>
   rw[hp,aX] at hh;obtain⟨h1,h2⟩:=PE hE h hh;rw[Im hp] at h2;exact⟨h1,OG hp _ _ _ _ _ (by simp) (by simp) (λj=>by
    have:∀ k,(Array.replicate ops.size false).getD k false=false:=λk=>by by_cases hk:k<ops.size<;>simp[hk]
    rw[this,this]) h2⟩
end
end Go.D
namespace Go.D
section
variable {P:Program} {E:Env} {F:Fr P} {G G':Gh} {J J' σb:St} {a a':Act} {w w':World} {o:Oper} {K:St->Out} {Q:Post} {R:Exit->Act->World->Prop} {ops:Array Oper}
def AiH (ops:Array Oper):Array Bool->List Nat->Prop
 | listed,[]=>Region.ready .any ops listed=[]
 | listed,i::L=>i∈Region.ready .any ops listed/\AiH ops (listed.setIfInBounds i true) L
def AiG (P:Program) (ops:Array Oper) (R:Exit->Act->World->Prop) (a:Act) (w:World):Prop:=∀ L,AiH ops (Array.replicate ops.size false) L->wpOps P ops R L a w
def RY:∀ (f:Nat) (listed:Array Bool) (a:Act) (w:World),wpAny P .any ops R f listed a w->∀ L,AiH ops listed L->wpOps P ops R L a w:=by
 intro f
 induction f with
 | zero=>
  intro listed a w h L hv;cases L with
  | nil=>exact h.2
  | cons i L=>
   have:=hv.1;rw[h.1] at this;cases this
 | succ f ih=>
  intro listed a w h L hv;cases L with
  | nil=>exact h.1 hv
  | cons i L=>
   rw[wpOps_cons];exact wpOp_mono (λa' w' h'=>ih _ a' w' h' L hv.2) (h.2 i hv.1)
def OT {i k:Nat} {listed:Array Bool} (hs:listed.size=ops.size) (j:Nat):j∈Region.ready .any (KN ops i k) listed↔(j∈Region.ready .any ops listed/\(j=i->listed.getD k false=true)):=by
 rw[B8 (ops:=KN ops i k) (by rw[Iw,hs]),B8 hs];constructor
 .rintro⟨o,ho,h1,h2⟩;cases hoj:ops[j]? with
  | none=>rw[JZ hoj] at ho;cases ho
  | some o'=>
   rw[IR hoj] at ho;injection ho with ho
   by_cases e:j=i
   .rw[G_ e] at ho;subst ho;exact⟨⟨o',rfl,h1,λx hx=>h2 x (Hd.2 (.inl hx))⟩,λ_=>h2 k (Hd.2 (.inr rfl))⟩
   .simp_all
 .rintro⟨⟨o,ho,h1,h2⟩,h3⟩;refine⟨_,IR ho,h1,λx hx=>?_⟩;by_cases e:j=i
  .rw[G_ e] at hx;rcases Hd.1 hx with hx|hx
   .exact h2 x hx
   .rw[hx];exact h3 e
  .simp_all
def AfR (k i:Nat):List Nat->Prop
 | []=>True
 | j::L=>j=k\/(j≠i/\AfR k i L)
def WM (k i:Nat):∀ L:List Nat,AfR k i L\/AfR i k L
 | []=>.inl trivial
 | j::L=>by
  by_cases h1:j=k
  .exact .inl (.inl h1)
  .by_cases h2:j=i
   .exact .inr (.inl h2)
   .rcases WM k i L with h|h
    .exact .inl (.inr ⟨h2,h⟩)
    .exact .inr (.inr ⟨h1,h⟩)
def Tn {i k:Nat} (hik:i≠k):∀ (L:List Nat) (listed:Array Bool),listed.size=ops.size->AiH ops listed L->(listed.getD k false=true\/AfR k i L)->AiH (KN ops i k) listed L:=by
 intro L
 induction L with
 | nil=>
  intro listed hs hv _;refine List.eq_nil_iff_forall_not_mem.2 λj hj=>?_
  have:=((OT hs j).1 hj).1;rw[hv] at this;cases this
 | cons j L ih=>
  intro listed hs hv hk;have hjl:j<listed.size:=by obtain⟨o,ho,_⟩:=(B8 hs).1 hv.1;grind
  refine⟨(OT hs j).2 ⟨hv.1,λe=>?_⟩,ih _ (by simp[hs]) hv.2 ?_⟩
  .rcases hk with hk|hk|hk
   .exact hk
   .omega
   .exact absurd e hk.1
  .rcases hk with hk|hk|hk
   .exact .inl (by rw[Ew hjl,hk];rfl)
   .simp_all
   .exact .inr hk.2
def Lv {i k:Nat}:∀ (L:List Nat) (a:Act) (w:World),wpOps P (KN ops i k) R L a w->wpOps P ops R L a w
 | [],_,_,h=>h
 | j::L,a,w,h=>by rw[wpOps_cons] at h ⊢;exact wpOp_mono (λa' w'=>Lv L a' w') (KE h)
def XX {i k:Nat} (hik:i≠k) (h1:AiG P (KN ops i k) R a w) (h2:AiG P (KN ops k i) R a w):AiG P ops R a w:=by
 intro L hv;unfold AiG at h1 h2;rw[Iw] at h1 h2;rcases WM k i L with h|h
 .exact Lv L a w (h1 L (Tn hik L _ (by simp) hv (.inr h)))
 .exact Lv L a w (h2 L (Tn (Ne.symm hik) L _ (by simp) hv (.inr h)))
def AjL:∀ (f t:Nat) (listed:Array Bool),listed.size=ops.size->unl (λk=>listed.getD k false) ops.size<=f->AiH ops listed (Region.linearise.go .any ops f t listed []):=by
 intro f
 induction f with
 | zero=>
  intro t listed hs hu;have hall:=XP (Nat.le_zero.1 hu);refine List.eq_nil_iff_forall_not_mem.2 λj hj=>?_
  obtain⟨o,ho,h1,_⟩:=(B8 hs).1 hj;grind
 | succ f ih=>
  intro t listed hs hu;simp only[Region.linearise.go]
  change AiH ops listed (match (Region.ready .any ops listed)[t % (Region.ready .any ops listed).length]? with
   | some i=>Region.linearise.go .any ops f (t / (Region.ready .any ops listed).length) (listed.setIfInBounds i true) [i]
   | none=>[].reverse)
  cases hi:(Region.ready .any ops listed)[t % (Region.ready .any ops listed).length]? with
  | none=>
   show Region.ready .any ops listed=[];cases hr:Region.ready .any ops listed with
   | nil=>rfl
   | cons x xs=>
    rw[hr] at hi;have hlt:t % (x::xs).length<(x::xs).length:=Nat.mod_lt _ (by simp);grind
  | some i=>
   simp only[];rw[linearise_go_acc,List.reverse_singleton,List.singleton_append];have hm:=fJ hi;refine⟨hm,ih _ _ (by simp[hs]) ?_⟩;obtain⟨o,ho,h1,_⟩:=(B8 hs).1 hm;have hlt:=(Array.getElem?_eq_some_iff.1 ho).1;rw[show(λk=>(listed.setIfInBounds i true).getD k false)=λk=>listed.getD k false||k==i from funext λk=>Ew O];have:=(Abi (S:=λk=>listed.getD k false) h1 (n:=ops.size)).2 hlt;omega
def T4 {id:Nat} (hm:P.follows .mixedOrders=true) (h:AiG P ops R a { w with drawn:=w.drawn+1 }):(Code.region id ops true).wp P R a w :=
 wp_region_draw λt=>by
  simp only[Region.schedule,hm,Bool.true_or,aD];refine h _ (AjL ops.size t _ (by simp) ?_);have:∀ n,unl (λk=>(Array.replicate ops.size false).getD k false) n<=n:=by
   intro n
   induction n with
   | zero=>exact X_ _
   | succ n ih=>simp only[unl];split<;>omega
  exact this _
def XA (ops:Array Oper):Nat->List Nat->List Nat
 | 0,done=>done
 | f+1,done=>match (List.range ops.size).find? (λj=>!done.contains j&&(RA (ops.getD j default)).all λe=>done.contains e) with
  | some j=>XA ops f (done++[j])
  | none=>done
def Aiz (P:Program) (E:Env) (ops:Array Oper) (J:St) (K:St->Out):Out:=U2 P E (U1 ops (AiC ops)) J K
def Wn (P:Program) (E:Env) (ops:Array Oper) (J:St) (K:St->Out):Out :=
 bif Jj ops then Aiz P E ops J K else bif Dy ops.size (XA ops ops.size []) then Aiz P E (Ei ops (XA ops ops.size [])) J K else .bad
def AhA (ops:Array Oper):Nat->List Nat->List Nat
 | 0,T=>T
 | f+1,T=>AhA ops f (ops.toList.map λo=>LJ T (RA o))
def Ai7 (ops:Array Oper):Option (Nat×Nat) :=
 let st:=(List.range ops.size).filter λi=>AmY (ops.getD i default)
 bif st.isEmpty then none else
  let T:=AhA ops ops.size []
  (st.flatMap λb=>((List.range ops.size).filter λu=>!(Ap1 (ops.getD u default)||AlX (ops.getD u default))).map λu=>(b,u)).find? λx=>!(x.1==x.2) && !(T.getD x.1 0).testBit x.2 && !(T.getD x.2 0).testBit x.1
def MW (P:Program) (E:Env):Nat->Array Oper->St->(St->Out)->Out
 | 0,ops,J,K=>Wn P E ops J K
 | f+1,ops,J,K=>match Ai7 ops with
  | none=>Wn P E ops J K
  | some (b,u)=>bif b==u then .bad else .lp Bool True (λ_=>True) λy=>.br y (MW P E f (KN ops b u) J K) (MW P E f (KN ops u b) J K)
def Ahf (P:Program) (E:Env) (ops:Array Oper) (J:St) (K:St->Out):Out:=MW P E 6 ops J K
def JS (n k:Nat):(Array.replicate n false).getD k false=false:=by by_cases hk:k<n<;>simp[hk]
def WI (hE:EOk P E) (h:RG F G J a w) (hh:(Aiz P E ops J K).holds Q):P.follows .mixedOrders=true /\
 wpAny P .any ops (λe a w=>e=.normal/\LK F (λJ'=>K J'.weak.lits) Q a w) ops.size (Array.replicate ops.size false) a { w with drawn:=w.drawn+1 }:=by
 obtain⟨h1,h2⟩:=X6 hE h hh;rw[KL] at h2;exact⟨h1,Nn (λ_ _ _ h=>h.1) _ _ _ _ _ _ (by simp) (λk hk=>by rw[JS] at hk;cases hk) h2⟩
def S5 (hE:EOk P E) (h:RG F G J a w) (hh:(Wn P E ops J K).holds Q):P.follows .mixedOrders=true /\
 AiG P ops (λe a w=>e=.normal/\LK F (λJ'=>K J'.weak.lits) Q a w) a { w with drawn:=w.drawn+1 }:=by
 unfold Wn at hh;cases hd:Jj ops with
 | true=>
  rw[hd,aX] at hh;obtain⟨h1,h2⟩:=WI hE h hh;exact⟨h1,RY _ _ _ _ h2⟩
 | false=>
  rw[hd,cF] at hh;cases hp:Dy ops.size (XA ops ops.size []) with
  | false=>rw[hp] at hh;exact hh.elim
  | true=>
   rw[hp,aX] at hh;obtain⟨h1,h2⟩:=WI hE h hh;rw[Im hp] at h2;exact⟨h1,RY _ _ _ _ (OG hp _ _ _ _ _ (by simp) (by simp) (λj=>by rw[JS,JS]) h2)⟩
def Zn (hE:EOk P E) (h:RG F G J a w):∀ (f:Nat) (ops:Array Oper),(MW P E f ops J K).holds Q->P.follows .mixedOrders=true /\
 AiG P ops (λe a w=>e=.normal/\LK F (λJ'=>K J'.weak.lits) Q a w) a { w with drawn:=w.drawn+1 }:=by
 intro f
 induction f with
 | zero=>intro ops hh;exact S5 hE h hh
 | succ f ih=>
  intro ops hh;unfold MW at hh;split at hh
  .exact S5 hE h hh
  .rename_i b u _;cases hb:(b==u) with
   | true=>rw[hb] at hh;exact hh.elim
   | false=>
    rw[hb,cF] at hh;obtain⟨h1,h2⟩:=ih _ ((hh.2 true trivial).1 rfl);obtain⟨_,h3⟩:=ih _ ((hh.2 false trivial).2 rfl);exact⟨h1,XX (by simpa using hb) h2 h3⟩
def Ac5 {id:Nat} (hE:EOk P E) (h:RG F G J a w) (hh:(Ahf P E ops J K).holds Q):(Code.region id ops true).wp P (λe a w=>e=.normal/\LK F K Q a w) a w:=by
 obtain⟨h1,h2⟩:=Zn hE h 6 ops hh;refine Code.wp_mono (λe a w ⟨he,J',⟨G',h'⟩,hh'⟩=>?_) (T4 h1 h2);obtain⟨G2,h2⟩:=Uf h'.weak;exact⟨he,J'.weak.lits,⟨G2,h2⟩,hh'⟩
end
end Go.D
namespace Go.D
inductive Sh where
 | el (t:Ty)
 | sl (t:Ty)
abbrev Sh.X:Sh->Type
 | .el t=>El t
 | .sl t=>List (El t)
def Sh.fc:(s:Sh)->s.X->List FC
 | .el t,x=>enc t x
 | .sl t,xs=>[.l t xs]
def Sh.dec:(s:Sh)->List FC->Option s.X
 | .el t,ds=>D.dec t ds
 | .sl t,[c]=>Ame t c
 | .sl _,_=>none
def Ty.agg:Ty->Bool
 | .int=>false
 | .str=>false
 | .bool=>false
 | .u8=>false
 | _=>true
def Sh.agg:Sh->Bool
 | .el t=>t.agg
 | .sl _=>false
def Sh.dec_ok {s:Sh} {ds:List FC} {x:s.X} (h:s.dec ds=some x):FcsLe ds (s.fc x):=by
 cases s with
 | el t=>exact D.dec_ok t ds x h
 | sl t=>
  cases ds with
  | nil=>simp[Sh.dec] at h
  | cons c ds=>
   cases ds with
   | nil=>exact .cons (Abp h) .nil
   | cons d ds=>simp[Sh.dec] at h
def AgO (t:Ty):t.width<=64:=by cases t<;>decide
def Sh.fc_len (s:Sh) (x:s.X):(s.fc x).length<=64:=by
 cases s with
 | el t=>rw[Sh.fc,KI];exact AgO t
 | sl t=>simp[Sh.fc]
inductive Pk where
 | s
 | b
 | t
structure Vr where
 k:Pk
 p:Nat
 own:Bool
 sh:Sh
abbrev Xs:List Vr->Type
 | []=>Unit
 | v::vs=>v.sh.X×Xs vs
def Vr.cells (v:Vr) (J:St):Option (List Cell) :=
 match v.k with
 | .b=>look J.bx v.p
 | .s=>match look J.tm v.p with
  | some (.v agg cs)=>bif agg==v.sh.agg then some cs else none
  | _=>none
 | .t=>none
def Sh.ofTree:(s:Sh)->Tree->Option s.X
 | .sl t,T=>if h:T.t=t then some (h▸T.xs) else none
 | .el _,_=>none
def Sh.toTree:(s:Sh)->s.X->Tree
 | .sl t,xs=>⟨t,xs⟩
 | .el t,x=>⟨t,[x]⟩
def Sh.tree_ok {s:Sh} {T:Tree} {x:s.X} (h:s.ofTree T=some x):s.toTree x=T:=by
 cases s with
 | el t=>simp[Sh.ofTree] at h
 | sl t=>
  obtain⟨t',xs⟩:=T;simp only[Sh.ofTree] at h;split at h
  .rename_i e;subst e;simp only[R_] at h;subst h;rfl
  .cases h
def Vr.isT (v:Vr):Bool:=match v.k with
 | .t=>true
 | _=>false
def Vr.grab (v:Vr) (J:St):Option (v.sh.X×List Nat) :=
 match v.isT with
 | true=>match look J.hp v.p with
  | some T=>match v.sh.ofTree T with
   | some x=>some (x,[])
   | none=>none
  | none=>none
 | false=>match v.cells J with
 | some cs=>match v.own with
  | true=>match Rk J cs with
   | some (ds,ab)=>match v.sh.dec ds with
    | some x=>some (x,ab)
    | none=>none
   | none=>none
  | false=>match Gf cs with
   | some ds=>match v.sh.dec ds with
    | some x=>some (x,[])
    | none=>none
   | none=>none
 | none=>none
def Lk (J:St):(vs:List Vr)->Option (Xs vs×List Nat)
 | []=>some ((),[])
 | v::vs=>match v.grab J,Lk J vs with
  | some (x,ab),some (xs,ab')=>some ((x,xs),ab++ab')
  | _,_=>none
def Vr.q (v:Vr):Nat:=v.p+1000000
def Vr.to (v:Vr) (x:v.sh.X):List Cell:=bif v.own then Cm (64*v.q) (v.sh.fc x) else(v.sh.fc x).map (toCell none)
def Vr.set (v:Vr) (x:v.sh.X) (J:St):St :=
 let σ1:={ J with hp:=(bif v.own then Fa (64*v.q) (v.sh.fc x) else[])++J.hp }
 match v.k with
 | .b=>{ σ1 with bx:=(v.p,v.to x)::σ1.bx }
 | .s=>{ σ1 with tm:=(v.p,.v v.sh.agg (v.to x))::σ1.tm }
 | .t=>{ J with hp:=(v.p,v.sh.toTree x)::J.hp }
def Gj (J:St):(vs:List Vr)->Xs vs->St
 | [],_=>J
 | v::vs,x=>v.set x.1 (Gj J vs x.2)
def Cell.memfree (hs:List Nat):Cell->Bool
 | .sc _=>true
 | .tt=>true
 | .ff=>true
 | .nil=>true
 | .im none _ _=>true
 | .ref l=>hs.contains l
 | .sub l _ _ _=>hs.contains l
 | _=>false
def TV.memfree (hs:List Nat):TV->Bool
 | .v _ cs=>cs.all (·.memfree hs)
 | .ptr _ _=>true
 | .sptr none _ _ _=>true
 | .aptr _ _=>true
 | .clo _ _=>true
 | .cur=>true
 | .dead=>true
 | _=>false
def pOf:List Vr->List Nat
 | []=>[]
 | v::vs=>bif v.isT then pOf vs else v.q::pOf vs
def hOf:List Vr->List Nat
 | []=>[]
 | v::vs=>bif v.isT then v.p::hOf vs else hOf vs
def II (J:St) (vs:List Vr) (ab:List Nat):Bool :=
 AQ ab&&AQ (pOf vs)&&SO J.fl (λm=>(pOf vs).contains (m / 64))&&(hOf vs).all λl=>!(pOf vs).contains (l / 64) && !ab.contains l
section
variable {P:Program} {E:Env} {F:Fr P} {G G':Gh} {J J' σb:St} {a a':Act} {w w':World} {o:Oper} {K:St->Out} {Q:Post} {Qx:Exit->Act->World->Prop}
def LP {hs:List Nat} {c:Cell} (h:c.memfree hs=true):(∀ m,c.refs m=true->m∈hs)/\∀ m,c.mems m=false:=by
 cases c with
 | im s t xs=>cases s with
  | none=>exact⟨λm hm=>by simp[Cell.refs] at hm,λ_=>rfl⟩
  | some l=>simp[Cell.memfree] at h
 | ref l=>exact⟨λm hm=>by simp[Cell.refs] at hm;subst hm;simpa [Cell.memfree] using h,λ_=>rfl⟩
 | sub l k lo n=>exact⟨λm hm=>by simp[Cell.refs] at hm;subst hm;simpa [Cell.memfree] using h,λ_=>rfl⟩
 | dead=>simp[Cell.memfree] at h
 | _=>exact⟨λm hm=>by simp[Cell.refs] at hm,λ_=>rfl⟩
def ON {hs:List Nat} {x:TV} (h:x.memfree hs=true):(∀ m,x.refs m=true->m∈hs)/\∀ m,x.mems m=false:=by
 cases x with
 | v agg cs=>
  refine⟨λm hm=>?_,λm=>?_⟩
  .obtain⟨c,hc,hr⟩:=bI.1 (show cs.any (·.refs m)=true from hm);exact(LP (aM.1 h c hc)).1 m hr
  .simp only[TV.mems,List.any_eq_false];intro c hc;rw[(LP (aM.1 h c hc)).2 m];simp
 | inn l k i off t xs=>simp[TV.memfree] at h
 | nptr l k i off t xs i2 o2=>simp[TV.memfree] at h
 | app l e j tt ts t xs=>simp[TV.memfree] at h
 | capd l c=>simp[TV.memfree] at h
 | sptr s t x off=>cases s with
  | none=>exact⟨λm hm=>by simp[TV.refs] at hm,λ_=>rfl⟩
  | some l=>simp[TV.memfree] at h
 | tup ps=>simp[TV.memfree] at h
 | eptr l k i off=>simp[TV.memfree] at h
 | _=>exact⟨λm hm=>by simp[TV.refs] at hm,λ_=>rfl⟩
def Vr.At (v:Vr) (G:Gh) (a:Act) (w:World) (us:List Value):Prop :=
 match v.k with
 | .t=>True
 | .b=>G.ow (G.be v.p)=.box v.p/\∃ r e,w.heap[G.be v.p]? = some (.cells r e (0,0))/\r.toList=us
 | .s=>∀ (G':Gh) (w':World) (ds:List Cell),ds.length=us.length->(∀ (j:Nat) (c:Cell) (u:Value),ds[j]? = some c->us[j]? = some u->CellR w' G' c u)->TVR w' G' (.v v.sh.agg ds) (a.tmps.getD v.p undef)
def AeW (h:RG F G J a w) {v:Vr} {cs:List Cell} (hc:v.cells J=some cs):∃ us:List Value,us.length=cs.length/\v.At G a w us/\∀ (j:Nat) (c:Cell) (u:Value),cs[j]? = some c->us[j]? = some u->CellR w G c u:=by
 obtain⟨bx,p,own,sh⟩:=v;unfold Vr.cells at hc;cases bx with
 | t=>cases hc
 | b=>
  dsimp only at hc;obtain⟨h1,r,e,h2,h3⟩:=h.bx p cs hc;refine⟨r.toList,by simpa using h3.1,⟨h1,r,e,h2,rfl⟩,λj c u hj hu=>?_⟩;obtain⟨u',hu',hr⟩:=h3.2 j c hj;simp_all
 | s=>
  dsimp only at hc;split at hc
  .rename_i agg cs' hl;cases ha:(agg==sh.agg) with
   | false=>simp[ha] at hc
   | true=>
    simp only[ha,aX,R_] at hc;subst hc;have ha':agg=sh.agg:=by simpa using ha
    have hx:=h.tm p _ hl;cases agg with
    | false=>
     obtain⟨c,rfl,hcr⟩:=hx;refine⟨[a.tmps.getD p undef],rfl,λG' w' ds hl' hds=>?_,λj c' u hj hu=>?_⟩
     .obtain⟨d,rfl⟩:=ek.1 hl';show TVR w' G' (.v sh.agg [d]) _;rw[<-ha'];exact⟨d,rfl,hds 0 d _ rfl rfl⟩
     .grind
    | true=>
     obtain⟨vs,hv,hs,hcr⟩:=hx;refine⟨vs.toList,by simpa using hs,λG' w' ds hl' hds=>?_,λj c u hj hu=>?_⟩
     .show TVR w' G' (.v sh.agg ds) (a.tmps.getD p undef);rw[<-ha',hv];refine⟨vs,rfl,by simpa using hl'.symm,λj c hj=>?_⟩;have hlt:j<vs.size:=by grind
      exact⟨vs[j],by simp[hlt],hds j c vs[j] hj (by simp[hlt])⟩
     .grind
  .cases hc
end
end Go.D
namespace Go.D
section
variable {P:Program} {E:Env} {F:Fr P} {G G1 G':Gh} {J J' σb:St} {a a':Act} {w w':World} {o:Oper} {K:St->Out} {Q:Post} {Qx:Exit->Act->World->Prop}
def RG.consTm (h:RG F G J a w) {p:Nat} {x:TV} (hx:TVR w G x (a.tmps.getD p undef)):RG F G { J with tm:=(p,x)::J.tm } a w:=by
 refine⟨?_,h.bx,h.hp,h.lt,h.os,h.tape,h.output,h.size,h.keep,h.fb,h.fl,h.nt,h.df⟩;intro t tv hl;simp only[look] at hl;split at hl
 .simp_all
 .exact h.tm t tv hl
def RG.consBx (h:RG F G J a w) {b:Nat} {cs:List Cell} {r:Array Value} {e:TypeId} (h1:G.ow (G.be b)=.box b) (h2:w.heap[G.be b]? = some (.cells r e (0,0))) (h3:A4 w G cs r):RG F G { J with bx:=(b,cs)::J.bx } a w:=by
 refine⟨h.tm,?_,h.hp,h.lt,h.os,h.tape,h.output,h.size,h.keep,h.fb,h.fl,h.nt,h.df⟩;intro t cs' hl;simp only[look] at hl;split at hl
 .simp_all
 .exact h.bx t cs' hl
structure PlaceFact (G:Gh) (a:Act) (w:World) (v:Vr) (x:v.sh.X) (ab:List Nat) (us:List Value) (Fs:Nat->Nat->Prop):Prop where
 len:us.length=(v.sh.fc x).length
 at_:v.At G a w us
 own:v.own=true->∀ (j:Nat) (c:FC) (u:Value),(v.sh.fc x)[j]? = some c->us[j]? = some u->TO w (fcC c) u (Fs j)/\u.oneCell'=true
 bor:v.own=false->∀ (j:Nat) (c:FC) (u:Value),(v.sh.fc x)[j]? = some c->us[j]? = some u->TR w (src G none) (fcC c) u
 lab:∀ j b,Fs j b->∃ m,m∈ab/\G.ow b=.lab m
 dis:∀ j j' b,Fs j b->Fs j' b->j=j'
def Aei (h:RG F G J a w) {v:Vr} {x:v.sh.X} {ab:List Nat} (hT:v.isT=false) (hg:v.grab J=some (x,ab)):∃ us Fs,PlaceFact G a w v x ab us Fs:=by
 unfold Vr.grab at hg;rw[hT] at hg;dsimp only at hg;split at hg
 .rename_i cs hcs;obtain⟨us,u1,u2,u3⟩:=AeW h hcs;split at hg
  .rename_i how;split at hg
   .rename_i ds ab' hl;split at hg
    .rename_i y hd;simp only[R_,bW] at hg;obtain⟨rfl,rfl⟩:=hg;obtain⟨l1,l2,l3,l4⟩:=Of h cs ds ab' hl;obtain⟨k1,k2⟩:=(Sh.dec_ok hd).get;refine⟨us,λj b=>∃ c m,cs[j]? = some c/\AV c m/\G.ow b=.lab m,by rw[u1,<-k1,l1],u2,λ_ j c u hc hu=>?_,(λhf=>by rw[how] at hf;cases hf),?_,?_⟩
     .have hlt:j<cs.length:=by rw[<-u1];exact(List.getElem?_eq_some_iff.1 hu).1
      have hcj:=aH hlt;have hr:=u3 j _ u hcj hu;have ht:=l2 j _ u hcj hr;have hle:=(k2 j).le;have hd':(v.sh.fc y).getD j .nl=c:=by simp[List.getD,hc]
      rw[hd'] at hle;exact⟨(TO.le hle ht).frame λb hb _=>⟨rfl,let ⟨m,h1,h2⟩:=hb;⟨_,m,hcj,h1,h2⟩⟩,hr.one⟩
     .rintro j b ⟨c,m,hc,hm,hb⟩;exact⟨m,l3 j c m hc hm,hb⟩
     .rintro j j' b ⟨c,m,hc,hm,hb⟩ ⟨c',m',hc',hm',hb'⟩;rw[hb] at hb';injection hb' with e
      subst e;exact l4 j j' c c' m hc hc' hm hm'
    .cases hg
   .cases hg
  .rename_i how;split at hg
   .rename_i ds hl;split at hg
    .rename_i y hd;simp only[R_,bW] at hg;obtain⟨rfl,rfl⟩:=hg;obtain⟨l1,l2⟩:=Il (w:=w) (G:=G) cs ds hl;obtain⟨k1,k2⟩:=(Sh.dec_ok hd).get;refine⟨us,λ_ _=>False,by rw[u1,<-k1,l1],u2,(λhf=>by rw[how] at hf;cases hf),λ_ j c u hc hu=>?_,(λj b hb=>hb.elim),λj j' b hb=>hb.elim⟩;have hlt:j<cs.length:=by rw[<-u1];exact(List.getElem?_eq_some_iff.1 hu).1
     have hcj:=aH hlt;have ht:=l2 j _ u hcj (u3 j _ u hcj hu);have hle:=(k2 j).le;have hd':(v.sh.fc y).getD j .nl=c:=by simp[List.getD,hc]
     rw[hd'] at hle;exact TR.le hle ht
    .cases hg
   .cases hg
 .cases hg
def Ri {l r:List Nat} (h:AQ (l++r)=true):AQ l=true/\AQ r=true/\∀ m,m∈l->m∉r:=by
 induction l with
 | nil=>exact⟨rfl,h,by simp⟩
 | cons x l ih=>
  simp only[cy,AQ,T_,cO,List.contains_eq_mem,cw,ah,not_or] at h ⊢;simp_all
def YS {c:FC} {m:Nat}:(toCell none c).refs m=false:=by cases c<;>rfl
def AdB {v:Vr} {x:v.sh.X} {l:Nat} (hl:l / 64≠v.q):(v.to x).any (·.refs l)=false:=by
 cases hq:(v.to x).any (·.refs l) with
 | false=>rfl
 | true=>
  exfalso;obtain⟨c,hc,hr⟩:=bI.1 hq;obtain⟨j,hj⟩:=List.mem_iff_getElem?.1 hc;unfold Vr.to at hj;cases hown:v.own with
  | true=>
   simp only[hown,aX] at hj;have h1:=(Lr _ _ _ _ hj).1 l hr;have h2:=Sh.fc_len v.sh x;omega
  | false=>
   simp only[hown,cF,cz] at hj;cases hq':(v.sh.fc x)[j]? with
   | none=>simp[hq'] at hj
   | some d=>
    simp only[hq',bC,R_] at hj;subst hj;rw[YS] at hr;cases hr
def AbH {v:Vr} {x:v.sh.X} {l:Nat} (h:Ky J l) (hl:v.isT=true\/l / 64≠v.q):Ky (v.set x J) l:=by
 obtain⟨bx,p,own,sh⟩:=v;cases bx with
 | t=>exact h
 | b=>
  have hl':l / 64≠p+1000000:=hl.resolve_left (by simp[Vr.isT]);have hr:=AdB (v:=⟨.b,p,own,sh⟩) (x:=x) hl';refine⟨h.1,λb cs hb=>?_⟩;simp only[Vr.set,look] at hb;split at hb
  .simp_all
  .exact h.2 b cs hb
 | s=>
  have hl':l / 64≠p+1000000:=hl.resolve_left (by simp[Vr.isT]);have hr:=AdB (v:=⟨.s,p,own,sh⟩) (x:=x) hl';refine⟨λt tv ht=>?_,h.2⟩;simp only[Vr.set,look] at ht;split at ht
  .simp only[R_] at ht;subst ht;exact hr
  .exact h.1 t tv ht
def AlL {v:Vr} {x:v.sh.X}:(v.set x J).fl=J.fl:=by
 obtain⟨bx,p,own,sh⟩:=v;cases bx<;>rfl
def RG.consHp (h:RG F G J a w) {l:Nat} {T:Tree} (hT:TO w (.sl T.k T.n T.f) (G.hv l) λg=>G.ow g=.lab l):RG F G { J with hp:=(l,T)::J.hp } a w:=by
 refine⟨h.tm,h.bx,?_,h.lt,h.os,h.tape,h.output,h.size,h.keep,h.fb,h.fl,h.nt,h.df⟩;intro m T' hl;simp only[look] at hl;split at hl
 .simp_all
 .exact h.hp m T' hl
def AjZ (h:RG F G J a w) (base:St) (hb:RG F G1 base a w) (hs:List Nat) (hn:∀ l,l∉hs->Ky base l) (hbe:G1.be=G.be) (hhv:G1.hv=G.hv) (AB:List Nat) (hab:∀ b m,G.ow b=.lab m->m∈AB->G1.ow b=.gone) (hfr:∀ b,G.ow b=.free->G1.ow b=.free) (hbo:∀ b m,G.ow b=.box m->G1.ow b=.box m)
 (hlb:∀ b m,G.ow b=.lab m->m∉AB->G1.ow b=.lab m) :
 ∀ (vs:List Vr) (x:Xs vs) (ab:List Nat),Lk J vs=some (x,ab)->(∀ m,m∈ab->m∈AB)->AQ ab=true->AQ (pOf vs)=true->(∀ p∈pOf vs,∀ m,m / 64=p->m∉base.fl/\m∉hs)->(∀ l∈hOf vs,l / 64∉pOf vs/\l∉AB) ->
  ∃ G',RG F G' (Gj base vs x) a w/\Grow (λb=>∃ m,m∈ab/\G.ow b=.lab m) (λl=>l / 64∈pOf vs) G1 G'/\(∀ l,l∉hs->l / 64∉pOf vs->Ky (Gj base vs x) l)/\(Gj base vs x).fl=base.fl:=by
 intro vs
 induction vs with
 | nil=>intro x ab _ _ _ _ _ _;exact⟨G1,hb,Grow.refl _ _ _,λl hl _=>hn l hl,rfl⟩
 | cons v vs ih=>
  intro x ab hg hsub hnd hps hfl hht;simp only[Lk] at hg;split at hg
  .rename_i y abv xs abt hg1 hg2;simp only[R_,bW] at hg;obtain⟨rfl,rfl⟩:=hg;obtain⟨nd1,nd2,nd3⟩:=Ri hnd;cases hvT:v.isT with
   | true=>
    have hpo:pOf (v::vs)=pOf vs:=by simp[pOf,hvT]
    have hho:hOf (v::vs)=v.p::hOf vs:=by simp[hOf,hvT]
    rw[hpo] at hps hfl hht;rw[hho] at hht;obtain⟨hl1,hl2⟩:=hht v.p (by simp);obtain⟨G2,k1,k2,k3,k4⟩:=ih xs abt hg2 (λm hm=>hsub m (ah.2 (.inr hm))) nd2 hps hfl λl hl=>hht l (by simp[hl]);have hgr:=hg1;unfold Vr.grab at hgr;rw[hvT] at hgr;dsimp only at hgr;split at hgr
    .rename_i T hT;split at hgr
     .rename_i y' hy;simp only[R_,bW] at hgr;obtain⟨rfl,rfl⟩:=hgr;have hTT:=Sh.tree_ok hy;have same:∀ g,G.ow g=.lab v.p->G2.ow g=.lab v.p:=λg hg=>by have h1:=hlb g v.p hg hl2;rw[k2.same (by rw[h1];simp),h1]
      have hhv2:G2.hv v.p=G.hv v.p:=by
       rcases k2.hv v.p with e|e
       .rw[e,hhv]
       .exact absurd e hl1
      have main:=k1.consHp (l:=v.p) (T:=v.sh.toTree y') (by rw[hTT,hhv2];exact(h.hp v.p T hT).frame λg hg _=>⟨rfl,same g hg⟩)
      have hset:Gj base (v::vs) (y',xs)={ Gj base vs xs with hp:=(v.p,v.sh.toTree y')::(Gj base vs xs).hp }:=by obtain⟨kk,p,own,sh⟩:=v;cases kk<;>simp[Vr.isT] at hvT;rfl
      rw[hset,hpo];exact⟨G2,main,k2,λl h1 h2=>k3 l h1 h2,k4⟩
     .cases hgr
    .cases hgr
   | false=>
   have hpo:pOf (v::vs)=v.q::pOf vs:=by simp[pOf,hvT]
   have hho:hOf (v::vs)=hOf vs:=by simp[hOf,hvT]
   rw[hpo] at hps hfl hht;rw[hho] at hht;rw[hpo];simp only[AQ,T_,cO,List.contains_eq_mem,cw] at hps;obtain⟨G2,k1,k2,k3,k4⟩:=ih xs abt hg2 (λm hm=>hsub m (ah.2 (.inr hm))) nd2 hps.2 (λp hp=>hfl p (by simp[hp])) λl hl=>⟨λe=>(hht l hl).1 (by simp[e]),(hht l hl).2⟩;obtain⟨us,Fs,pf⟩:=Aei h hvT hg1;have hgone:∀ j b,Fs j b->b<w.heap.size/\G2.ow b=.gone:=by
    intro j b hb';obtain⟨m,hm,hm2⟩:=pf.lab j b hb';refine⟨h.lt b (by simp[hm2]),k2.gone (hab b m hm2 (hsub m (ah.2 (.inl hm)))) ?_⟩;rintro⟨m',hm',hm3⟩;rw[hm2] at hm3;injection hm3 with e
    subst e;exact nd3 m hm hm'
   have hnr:∀ l,l / 64=v.q->Ky (Gj base vs xs) l:=λl hl=>k3 l (hfl v.q (by simp) l hl).2 (by rw[hl];exact hps.1)
   have mem:∃ G3,RG F G3 { Gj base vs xs with hp:=(bif v.own then Fa (64*v.q) (v.sh.fc y) else[])++(Gj base vs xs).hp } a w/\(∀ (j:Nat) (c:Cell) (u:Value),(v.to y)[j]? = some c->us[j]? = some u->CellR w G3 c u)/\(v.to y).length=us.length /\
    Grow (λb=>∃ j,Fs j b) (λl=>l / 64=v.q) G2 G3:=by
    cases hown:v.own with
    | true=>
     obtain⟨G3,m1,m2,m3⟩:=F5 (v.sh.fc y) us Fs G2 (64*v.q) (Gj base vs xs) k1 (λ_ m h1 h2=>by
      have h3:=Sh.fc_len v.sh y;have h4:m / 64=v.q:=O
      exact⟨by rw[k4];exact(hfl v.q (by simp) m h4).1,hnr m h4⟩) pf.len (pf.own hown) hgone pf.dis
     refine⟨G3,m1,?_,?_,m3.mono (λ_ h=>h) λm hm=>by have h3:=Sh.fc_len v.sh y;omega⟩
     .simpa [Vr.to,hown] using m2
     .simp[Vr.to,hown,F4,pf.len]
    | false=>
     refine⟨G2,by simpa using k1,λj c u hc hu=>?_,by simp[Vr.to,hown,pf.len],Grow.refl _ _ _⟩;simp only[Vr.to,hown,cF,cz] at hc;cases hq:(v.sh.fc y)[j]? with
     | none=>simp[hq] at hc
     | some d=>
      simp only[hq,bC,R_] at hc;subst hc;refine Hc ((pf.bor hown j d u hq hu).frame λg hg _=>⟨rfl,?_⟩);have hg':G.ow g=.free:=hg;show G2.ow g=.free;have h1:=hfr g hg';rw[k2.same (by rw[h1];simp),h1]
   obtain⟨G3,m1,m2,m3,m4⟩:=mem;have gr:Grow (λb=>∃ m,m∈abv++abt/\G.ow b=.lab m) (λl=>l / 64∈v.q::pOf vs) G1 G3:=by refine Grow.trans (k2.mono (λb ⟨m,hm,hb'⟩=>⟨m,ah.2 (.inr hm),hb'⟩) λl hl=>by simp[hl]) (m4.mono (λb ⟨j,hj⟩=>?_) λl hl=>by simp[hl]);obtain⟨m,hm,hm2⟩:=pf.lab j b hj;exact⟨m,ah.2 (.inl hm),hm2⟩
   refine⟨G3,?_,gr,λl hl0 hl=>?_,by simp only[Gj];rw[AlL];exact k4⟩
   .obtain⟨bx,p,own,sh⟩:=v;have hat:=pf.at_;cases bx with
    | t=>simp[Vr.isT] at hvT
    | b=>
     obtain⟨q1,r,e,q2,q3⟩:=hat;have hbe3:G3.be=G.be:=(m4.be.trans k2.be).trans hbe;refine m1.consBx (b:=p) (r:=r) (e:=e) ?_ (by rw[hbe3];exact q2) ⟨?_,λj c hc=>?_⟩
     .rw[hbe3];have h1:=hbo _ _ q1;rw[gr.same (by rw[h1];simp),h1]
     .rw[m3,<-q3];simp
     .have hlt:j<us.length:=by rw[<-m3];exact(List.getElem?_eq_some_iff.1 hc).1
      have hlt':j<r.size:=by rw[<-q3] at hlt;simpa using hlt
      refine⟨r[j],by simp[hlt'],m2 j c _ hc ?_⟩;rw[<-q3];simp[hlt']
    | s=>exact m1.consTm (p:=p) (hat G3 w _ m3 m2)
   .simp only[au,not_or] at hl;exact AbH (k3 l hl0 hl.2) (.inr hl.1)
  .cases hg
def AaU (h:RG F G J a w) {vs:List Vr} {x:Xs vs} {ab:List Nat} (hg:Lk J vs=some (x,ab)) (hp:II J vs ab=true) (base:St) (h1:base.bx=[]) (h2:base.hp=[]) (h3:base.fb=J.fb) (h4:base.fl=J.fl) (h5:base.nt=J.nt)
 (htm:∀ t tv,look base.tm t=some tv->tv.memfree (hOf vs)=true/\TVR w G tv (a.tmps.getD t undef)):∃ G',RG F G' (Gj base vs x) a w:=by
 unfold II at hp;simp only[T_] at hp;obtain⟨⟨⟨hp1,hp2⟩,hp3⟩,hp4⟩:=hp;rw[aM] at hp4;have hht:∀ l∈hOf vs,l / 64∉pOf vs/\l∉ab:=λl hl=>by have:=hp4 l hl;simp only[T_,cO,List.contains_eq_mem,cw] at this;exact this
 obtain⟨G1,d1,d2,d3,d4,d5,d6,d7,d8,d9,hfr,hlb',hbo',hcu⟩:=h.drop ab [] [];have hbo:∀ b m,G.ow b=.box m->G1.ow b=.box m:=λb m hb=>hbo' b m hb (by simp)
 have hb:RG F G1 base a w:=by refine⟨λt tv hl=>?_,by simp[h1,look],by simp[h2,look],d1.lt,d1.os,d1.tape,d1.output,d1.size,d1.keep,λb β hb=>by rw[h3];exact d1.fb b β hb,λl v hl=>by rw[h4];exact d1.fl l v hl,by rw[h5];exact d1.nt,d1.df⟩;obtain⟨q1,q2⟩:=htm t tv hl;obtain⟨m1,m2⟩:=ON q1;exact TV.carry ⟨λg hg=>⟨rfl,hfr g hg⟩,hcu⟩ (λm hm=>by rw[d3]) (λm hm=>by rw[m2 m] at hm;cases hm) (λb _=>by rw[d2]) q2
 have hn:∀ l,l∉hOf vs->Ky base l:=λl hl=>⟨λt tv ht=>by
  cases hr:tv.refs l with
  | false=>rfl
  | true=>exact absurd ((ON (htm t tv ht).1).1 l hr) hl,by simp[h1,look]⟩
 obtain⟨G',k1,_⟩:=AjZ h base hb (hOf vs) hn d2 d3 ab (λb m hb hm=>d5 b m hb (.inl hm)) hfr hbo (λb m hb hm=>hlb' b m hb hm (by simp)) vs x ab hg (λ_ h=>h) hp1 hp2 (λp hp m hm=>by refine⟨λhmem=>?_,λhmem=>(hht m hmem).1 (by rw[hm];exact hp)⟩;rw[h4] at hmem;unfold SO at hp3;rw[aM] at hp3;have:=hp3 m hmem;simp only[cO,List.contains_eq_mem,cw] at this;exact this (by rw[hm];exact hp)) hht
 exact⟨G',k1⟩
end
end Go.D
namespace Go.D
def N2:Nat->Nat->St->(St->Out)->Out
 | 0,_,J,K=>K J
 | m+1,t,J,K=>match look J.tm t with
  | some (.v agg cs)=>match Uq cs 0 with
   | some (j,l,k,lo,n)=>match look J.hp l with
    | some T=>bif decide (T.k=k) && !J.fl.contains l then .ob (lo+n<=T.n) (N2 m t (Pt (B7 J l [] ⟨T.t,cut T.xs lo n⟩) t j l) K) else .bad
    | none=>.bad
   | none=>K J
  | _=>K J
def Zj (J:St) (b j l:Nat):St:=match look J.bx b with
 | some cs=>{ J with bx:=D.put J.bx b (cs.set j (.ref l))}
 | none=>J
def JM:Nat->Nat->St->(St->Out)->Out
 | 0,_,J,K=>K J
 | m+1,b,J,K=>match look J.bx b with
  | some cs=>match Uq cs 0 with
   | some (j,l,k,lo,n)=>match look J.hp l with
    | some T=>bif decide (T.k=k) && !J.fl.contains l then .ob (lo+n<=T.n) (JM m b (Zj (B7 J l [] ⟨T.t,cut T.xs lo n⟩) b j l) K) else .bad
    | none=>.bad
   | none=>K J
  | none=>K J
def settle:List ResultVar->St->(St->Out)->Out
 | [],J,K=>K J
 | .tmp t::rs,J,K=>N2 40 t J (λJ'=>settle rs J' K)
 | .cell t _::rs,J,K=>match J.get t with
  | .ptr b 0=>JM 40 b J (λJ'=>settle rs J' K)
  | _=>settle rs J K
def Kz:List Nat->St->(St->Out)->Out
 | [],J,K=>K J
 | b::bs,J,K=>JM 40 b J (λJ'=>Kz bs J' K)
def GC:List Vr->St->(St->Out)->Out
 | [],J,K=>K J
 | v::vs,J,K=>match v.own with
  | true=>match v.k with
   | .s=>N2 40 v.p J (λJ'=>GC vs J' K)
   | .b=>JM 40 v.p J (λJ'=>GC vs J' K)
   | .t=>GC vs J K
  | false=>GC vs J K
section
variable {P:Program} {F:Fr P} {G G':Gh} {J J':St} {a:Act} {w w':World} {K:St->Out} {Q:Post}
def Ajz {t j l k lo n:Nat} {agg:Bool} {cs:List Cell} {T:Tree} (h:RG F G J a w) (ht:look J.tm t=some (.v agg cs)) (hj:cs[j]? = some (.sub l k lo n)) (hT:look J.hp l=some T) (hk:T.k=k) (hfl:l∉J.fl) (hle:lo+n<=T.n) :
 ∃ G',RG F G' (Pt (B7 J l [] ⟨T.t,cut T.xs lo n⟩) t j l) a w:=by
 obtain⟨u,hu,hset⟩:=Wv (h.tm t _ ht) hj;have h1:u.oneCell'=true:=CellR.one hu;subst hk;have hto:=Wp (Lm (h.hp l T hT) hu hle) hle;rw[Cu ⟨T.t,cut T.xs lo n⟩] at hto;obtain⟨G',h2,h3,_⟩:=h.retree l [] ⟨T.t,cut T.xs lo n⟩ u (λg=>G.ow g=.lab l) ⟨rfl,rfl,⟨rfl,by first|exact DrLe.refl _|exact DrLe.succ _|exact DrLe.add _ _⟩,X_ _⟩ (λ_ _ _=>rfl) (λg hg=>⟨h.lt g (by grind),.inr (.inl hg)⟩) hto hfl (by simp);have hlk:look (B7 J l [] ⟨T.t,cut T.xs lo n⟩).tm t=some (.v agg (cs.map (·.kill [l]))):=by simp only[B7,St.kill,St.map];rw[A8 λx:TV=>x.kill [l],ht];rfl
 refine⟨G',?_⟩;unfold Pt;rw[hlk];refine RG.retell h2 ?_;exact hset G' _ _ (h2.tm t _ hlk) (by simp) ⟨h3.symm,h1⟩
def Ps:∀ (m t:Nat) (J:St) (G:Gh) (K:St->Out),RG F G J a w->(N2 m t J K).holds Q->∃ J' G',RG F G' J' a w/\(K J').holds Q:=by
 intro m
 induction m with
 | zero=>intro t J G K h hh;exact⟨J,G,h,hh⟩
 | succ m ih=>
  intro t J G K h hh;unfold N2 at hh;split at hh
  .rename_i agg cs ht;split at hh
   .rename_i j l k lo n hs;split at hh
    .rename_i T hT;cases hc:(decide (T.k=k) && !J.fl.contains l) with
     | false=>rw[hc,cF] at hh;exact hh.elim
     | true=>
      rw[hc,aX] at hh;simp at hc;obtain⟨hle,hh⟩:=hh;obtain⟨_,hj⟩:=MK hs;obtain⟨G',h'⟩:=Ajz h ht (by simpa using hj) hT hc.1 (by grind) hle;grind
    .exact hh.elim
   .exact⟨J,G,h,hh⟩
  .exact⟨J,G,h,hh⟩
def RG.rebox (h:RG F G J a w) {b:Nat} {cs:List Cell} (h1:G.ow (G.be b)=.box b) {r:Array Value} {e:TypeId} (h2:w.heap[G.be b]? = some (.cells r e (0,0))) (h3:A4 w G cs r):RG F G { J with bx:=D.put J.bx b cs } a w:=by
 refine⟨h.tm,?_,h.hp,h.lt,h.os,h.tape,h.output,h.size,h.keep,h.fb,h.fl,h.nt,h.df⟩;intro b' cs' hl;simp only[DI] at hl;by_cases hb:b'=b
 .simp_all
 .simp only[hb,aS] at hl;exact h.bx b' cs' hl
def Ajv {b j l k lo n:Nat} {cs:List Cell} {T:Tree} (h:RG F G J a w) (hb:look J.bx b=some cs) (hj:cs[j]? = some (.sub l k lo n)) (hT:look J.hp l=some T) (hk:T.k=k) (hfl:l∉J.fl) (hle:lo+n<=T.n) :
 ∃ G',RG F G' (Zj (B7 J l [] ⟨T.t,cut T.xs lo n⟩) b j l) a w:=by
 obtain⟨ow,r,e,hr,hc⟩:=h.bx b cs hb;obtain⟨u,hu,hcu⟩:=hc.2 j _ hj;have h1:u.oneCell'=true:=CellR.one hcu;subst hk;have hto:=Wp (Lm (h.hp l T hT) hcu hle) hle;rw[Cu ⟨T.t,cut T.xs lo n⟩] at hto;obtain⟨G',h2,h3,_,_,h4,_⟩:=h.retree l [] ⟨T.t,cut T.xs lo n⟩ u (λg=>G.ow g=.lab l) ⟨rfl,rfl,⟨rfl,by first|exact DrLe.refl _|exact DrLe.succ _|exact DrLe.add _ _⟩,X_ _⟩ (λ_ _ _=>rfl) (λg hg=>⟨h.lt g (by grind),.inr (.inl hg)⟩) hto hfl (by simp);have hlk:look (B7 J l [] ⟨T.t,cut T.xs lo n⟩).bx b=some (cs.map (·.kill [l])):=by simp only[B7,St.kill,St.map];rw[A8 λx:List Cell=>x.map (·.kill [l]),hb];rfl
 obtain⟨ow',r',e',hr',hc'⟩:=h2.bx b _ hlk;refine⟨G',?_⟩;unfold Zj;rw[hlk];have hr2:=hr';rw[h4,hr] at hr2;injection hr2 with hr2
 injection hr2 with e1 e2 e3
 subst e1;exact RG.rebox h2 ow' hr' (Oi hc' hu ⟨h3.symm,h1⟩)
def I6:∀ (m b:Nat) (J:St) (G:Gh) (K:St->Out),RG F G J a w->(JM m b J K).holds Q->∃ J' G',RG F G' J' a w/\(K J').holds Q:=by
 intro m
 induction m with
 | zero=>intro b J G K h hh;exact⟨J,G,h,hh⟩
 | succ m ih=>
  intro b J G K h hh;unfold JM at hh;split at hh
  .rename_i cs hb;split at hh
   .rename_i j l k lo n hs;split at hh
    .rename_i T hT;cases hc:(decide (T.k=k) && !J.fl.contains l) with
     | false=>rw[hc,cF] at hh;exact hh.elim
     | true=>
      rw[hc,aX] at hh;simp at hc;obtain⟨hle,hh⟩:=hh;obtain⟨_,hj⟩:=MK hs;obtain⟨G',h'⟩:=Ajv h hb (by simpa using hj) hT hc.1 (by grind) hle;grind
    .exact hh.elim
   .exact⟨J,G,h,hh⟩
  .exact⟨J,G,h,hh⟩
def AaZ:∀ (rs:List ResultVar) (J:St) (G:Gh) (K:St->Out),RG F G J a w->(settle rs J K).holds Q->∃ J' G',RG F G' J' a w/\(K J').holds Q:=by
 intro rs
 induction rs with
 | nil=>intro J G K h hh;exact⟨J,G,h,hh⟩
 | cons r rs ih=>
  intro J G K h hh;cases r with
  | tmp t=>
   obtain⟨σ1,G1,h1,hh1⟩:=Ps 40 t J G _ h hh;grind
  | cell t T=>
   simp only[settle] at hh;split at hh
   .obtain⟨σ1,G1,h1,hh1⟩:=I6 40 _ J G _ h hh;grind
   .exact ih J G K h hh
def U9:∀ (bs:List Nat) (J:St) (G:Gh) (K:St->Out),RG F G J a w->(Kz bs J K).holds Q->∃ J' G',RG F G' J' a w/\(K J').holds Q:=by
 intro bs
 induction bs with
 | nil=>intro J G K h hh;exact⟨J,G,h,hh⟩
 | cons b bs ih=>
  intro J G K h hh;obtain⟨σ1,G1,h1,hh1⟩:=I6 40 b J G _ h hh;grind
def NQ:∀ (vs:List Vr) (J:St) (G:Gh) (K:St->Out),RG F G J a w->(GC vs J K).holds Q->∃ J' G',RG F G' J' a w/\(K J').holds Q:=by
 intro vs
 induction vs with
 | nil=>intro J G K h hh;exact⟨J,G,h,hh⟩
 | cons v vs ih=>
  intro J G K h hh;unfold GC at hh;split at hh
  .split at hh
   .obtain⟨σ1,G1,h1,hh1⟩:=Ps 40 _ J G _ h hh;grind
   .obtain⟨σ1,G1,h1,hh1⟩:=I6 40 _ J G _ h hh;grind
   .exact ih J G K h hh
  .exact ih J G K h hh
def JN:List Cell->Nat->Option (Nat×Nat)
 | [],_=>none
 | .ref l::cs,j=>bif decide (l<64000000) then some (j,l) else JN cs (j+1)
 | _::cs,j=>JN cs (j+1)
def TY:∀ (cs:List Cell) (i:Nat) {j l:Nat},JN cs i=some (j,l)->i<=j/\cs[j-i]? = some (.ref l):=by
 intro cs
 induction cs with
 | nil=>intro i j l h;simp[JN] at h
 | cons c cs ih=>
  intro i j l h;have nx:JN cs (i+1)=some (j,l)->i<=j/\(c::cs)[j-i]? = some (.ref l):=by grind
  cases c<;>simp only[JN] at h<;>first|exact nx h|skip
  grind
def Amn {b j l q:Nat} {cs:List Cell} {T:Tree} (h:RG F G J a w) (hb:look J.bx b=some cs) (hj:cs[j]? = some (.ref l)) (hT:look J.hp l=some T) (hfl:l∉J.fl) (hq:q∉J.fl) :
 ∃ G',RG F G' (Zj (B7 J q [l] T) b j q) a w:=by
 obtain⟨ow,r,e,hr,hc⟩:=h.bx b cs hb;obtain⟨u,hu,hcu⟩:=hc.2 j _ hj;have h1:u.oneCell'=true:=hcu.2;have hto:=h.hp l T hT;rw[<-hcu.1] at hto;obtain⟨G',h2,h3,_,_,h4,_⟩:=h.retree q [l] T u (λg=>G.ow g=.lab l) ⟨rfl,rfl,⟨rfl,by first|exact DrLe.refl _|exact DrLe.succ _|exact DrLe.add _ _⟩,X_ _⟩ (λ_ _ _=>rfl) (λg hg=>⟨h.lt g (by simp[hg]),.inr (.inr ⟨l,by simp,hg⟩)⟩) hto hq (by grind);have hlk:look (B7 J q [l] T).bx b=some (cs.map (·.kill [q,l])):=by simp only[B7,St.kill,St.map];rw[A8 λx:List Cell=>x.map (·.kill [q,l]),hb];rfl
 obtain⟨ow',r',e',hr',hc'⟩:=h2.bx b _ hlk;refine⟨G',?_⟩;unfold Zj;rw[hlk];have hr2:=hr';rw[h4,hr] at hr2;injection hr2 with hr2
 injection hr2 with e1 e2 e3
 subst e1;exact RG.rebox h2 ow' hr' (Oi hc' hu ⟨h3.symm,h1⟩)
def AeO:Nat->Nat->St->(St->Out)->Out
 | 0,_,J,K=>K J
 | m+1,b,J,K=>match look J.bx b with
  | some cs=>match JN cs 0 with
   | some (j,l)=>match look J.hp l with
    | some T=>bif !J.fl.contains l && !J.fl.contains (64*(3000000+b)+j) then AeO m b (Zj (B7 J (64*(3000000+b)+j) [l] T) b j (64*(3000000+b)+j)) K else .bad
    | none=>.bad
   | none=>K J
  | none=>K J
def Ae2:∀ (m b:Nat) (J:St) (G:Gh) (K:St->Out),RG F G J a w->(AeO m b J K).holds Q->∃ J' G',RG F G' J' a w/\(K J').holds Q:=by
 intro m
 induction m with
 | zero=>intro b J G K h hh;exact⟨J,G,h,hh⟩
 | succ m ih=>
  intro b J G K h hh;unfold AeO at hh;split at hh
  .rename_i cs hb;split at hh
   .rename_i j l hs;split at hh
    .rename_i T hT;cases hc:(!J.fl.contains l && !J.fl.contains (64*(3000000+b)+j)) with
     | false=>rw[hc,cF] at hh;exact hh.elim
     | true=>
      simp at hc;obtain⟨_,hj⟩:=TY cs 0 hs;obtain⟨G',h'⟩:=Amn (q:=64*(3000000+b)+j) h hb (by simpa using hj) hT (by grind) (by simpa using hc.2);grind
    .exact hh.elim
   .exact⟨J,G,h,hh⟩
  .exact⟨J,G,h,hh⟩
def Aet:List Nat->St->(St->Out)->Out
 | [],J,K=>K J
 | b::bs,J,K=>JM 40 b J λJ=>AeO 40 b J λJ=>Aet bs J K
def AbN:∀ (bs:List Nat) (J:St) (G:Gh) (K:St->Out),RG F G J a w->(Aet bs J K).holds Q->∃ J' G',RG F G' J' a w/\(K J').holds Q:=by
 intro bs
 induction bs with
 | nil=>intro J G K h hh;exact⟨J,G,h,hh⟩
 | cons b bs ih=>
  intro J G K h hh;obtain⟨σ1,G1,h1,hh1⟩:=I6 40 b J G _ h hh;obtain⟨σ2,G2,h2,hh2⟩:=Ae2 40 b σ1 G1 _ h1 hh1;grind
end
end Go.D
namespace Go.D
structure LInv where
 ps:List Vr
 inv:Xs ps->Xs ps->Prop
 m:Xs ps->Nat
abbrev W6:=Nat->Option LInv
def ExR:Ex->Exit->Prop
 | .normal,e=>e=.normal
 | .exit id,e=>e=.exit id
 | .ret,e=>e=.ret
def All {P:Program} (F:Fr P) (K:Ex->St->Out) (Q:Post):Exit->Act->World->Prop:=λe a w=>∃ ex J',ExR ex e/\R F J' a w/\(K ex J').holds Q
def Rr:Code->Nat
 | .region i _ _=>i
 | .seq x _=>Rr x
 | .cond _ x _=>Rr x
 | .block _ x=>Rr x
 | .loop x=>Rr x
 | _=>0
def Aie (ops:List Oper):List Nat:=ops.filterMap (·.dst)
def dstsOf:Code->List Nat
 | .region _ ops _=>Aie ops.toList
 | .seq x y=>dstsOf x++dstsOf y
 | .cond _ x y=>dstsOf x++dstsOf y
 | .block _ x=>dstsOf x
 | .loop x=>dstsOf x
 | _=>[]
def St.clean (J:St) (kp:List Nat):St:={ J with tm:=J.tm.filter λp=>kp.contains p.1 }
def St.dropC (J:St) (kp:List Nat):Operand->St
 | .tmp t=>bif kp.contains (t+1000000) then{ J with tm:=J.tm.filter λp=>!(p.1==t)} else J
 | _=>J
def TV.forget (hs:List Nat) (x:TV):TV:=bif x.memfree hs then x else .dead
def XG (kp ds:List Nat) (ps:List Vr) (l:List (Nat×TV)):List (Nat×TV):=(l.filter λx=>kp.contains x.1 && !(ds.contains x.1||ps.any λv=>(match v.k with | .s=>true|_=>false)&&v.p==x.1)).map λx=>(x.1,x.2.forget (hOf ps))
def AbX:Cell->Cell->Option (List Prop)
 | .sc u,.sc v=>some [u=v]
 | .tt,.tt=>some []
 | .ff,.ff=>some []
 | .nil,.nil=>some []
 | .ref l,.ref m=>if l=m then some [] else none
 | .sub l k lo n,.sub l' k' lo' n'=>if l=l'/\k=k' then some [lo=lo',n=n'] else none
 | .sc u,.tt=>some [u=.bool true]
 | .sc u,.ff=>some [u=.bool false]
 | .tt,.sc u=>some [u=.bool true]
 | .ff,.sc u=>some [u=.bool false]
 | .im none t xs,.im none t' ys=>if h:t=t' then some [h▸xs=ys] else none
 | _,_=>none
def KG:List Cell->List Cell->Option (List Prop)
 | [],[]=>some []
 | c::cs,d::ds=>match AbX c d,KG cs ds with
  | some p,some q=>some (p++q)
  | _,_=>none
 | _,_=>none
def Oe:List Cap->List Cap->Option (List Prop)
 | [],[]=>some []
 | .ptr b::cs,.ptr b'::ds=>if b=b' then Oe cs ds else none
 | .aptr x::cs,.aptr y::ds=>match Oe cs ds with
  | some q=>some ((x=y)::q)
  | none=>none
 | _,_=>none
def Amk:TV->TV->Option (List Prop)
 | .v a cs,.v b ds=>if a=b then KG cs ds else none
 | .ptr b o,.ptr b' o'=>if b=b'/\o=o' then some [] else none
 | .aptr cs o,.aptr ds o'=>if o=o' then some [cs=ds] else none
 | .clo f cs,.clo g ds=>if f=g then Oe cs ds else none
 | .cur,.cur=>some []
 | .sptr none t x o,.sptr none t' y o'=>if h:t=t' then if o=o' then some [h▸x=y] else none else none
 | _,_=>none
def Aeh (J:St):List (Nat×TV)->Option (List Prop)
 | []=>some []
 | (_,.dead)::r=>Aeh J r
 | (t,x)::r=>match look J.tm t with
  | some y=>match Amk y x,Aeh J r with
   | some p,some q=>some (p++q)
   | _,_=>none
  | none=>none
def An5 (li:LInv) (x0 x:Xs li.ps) (base J:St):Out :=
 match Lk J li.ps with
 | some (x',ab)=>match Aeh J base.tm with
  | some ps=>bif II J li.ps ab&&J.nt==base.nt&&J.fb==base.fb&&J.fl==base.fl then obs ps (.ob (li.inv x0 x'/\li.m x'<li.m x) .ok) else .bad
  | none=>.bad
 | none=>.bad
def lpx (li:LInv) (x0:Xs li.ps) (f:Xs li.ps->(Xs li.ps->Prop)->Out):Out:=.lp (Xs li.ps) (li.inv x0 x0) (li.inv x0) λx=>f x λx'=>li.inv x0 x'/\li.m x'<li.m x
def QG (kp:List Nat) (id:Nat):Nat:=match kp.find? (λk=>k / 64==1000000+id) with
 | some k=>k % 64
 | none=>0
def AhC (f:St->(Ex->St->Out)->Out) (K:Ex->St->Out):Nat->St->Out
 | 0,_=>.bad
 | n+1,J=>f J λe J'=>match e with
  | .normal=>Aet (J'.bx.map (·.1)) J' (λJ'=>AhC f K n J')
  | e=>K e J'
def Aap (kp:List Nat):Operand->Bool
 | .tmp t=>kp.contains (200000000+t)
 | _=>false
def brC (x:TV) (y n:Out):Out:=match x with
 | .v false [.sc (.bool b)]=>bif b then y else n
 | x=>Aix x y n
def Ak2 {x:TV} {y n:Out} {Q:Post} (h:(brC x y n).holds Q):(Aix x y n).holds Q:=by
 unfold brC at h;split at h
 .rename_i b;cases b with
  | true=>exact⟨λ_=>h,λe=>(by cases e)⟩
  | false=>exact⟨λe=>(by cases e),λ_=>h⟩
 .exact h
def run (P:Program) (E:Env) (L:W6) (kp:List Nat):Code->St->(Ex->St->Out)->Out
 | .skip,J,K=>K .normal J
 | .region _ ops draw,J,K=>bif draw then Ahf P E ops J (λJ'=>K .normal (J'.clean kp)) else YN P E ops (List.range ops.size) J (λJ'=>K .normal (J'.clean kp))
 | .seq x y,J,K=>run P E L kp x J (λe J'=>match e with
  | .normal=>run P E L kp y J' K
  | e=>K e J')
 | .cond c x y,J,K=>bif Aap kp c then brC (J.eval c) (run P E L kp x (J.dropC kp c) K) (run P E L kp y (J.dropC kp c) K) else Aix (J.eval c) (run P E L kp x (J.dropC kp c) K) (run P E L kp y (J.dropC kp c) K)
 | .block id x,J,K=>run P E L kp x J (λe J'=>match e with
  | .exit i=>bif i==id then K .normal J' else K (.exit i) J'
  | e=>K e J')
 | .exit id,J,K=>K (.exit id) J
 | .ret,J,K=>K .ret J
 | .loop b,J,K=>bif QG kp (Rr b) != 0 then AhC (λJ K=>run P E L kp b J K) K (QG kp (Rr b)) J else match L (Rr b) with
  | some li=>GC li.ps J λJ=>match Lk J li.ps with
   | some (x0,ab)=>
    bif II J li.ps ab then
     .lp (Xs li.ps) (li.inv x0 x0) (li.inv x0) λx=>run P E L kp b (Gj { J with tm:=XG kp (dstsOf b) li.ps J.tm,bx:=[],hp:=[]} li.ps x) (λe J'=>match e with
      | .normal=>GC li.ps J' λJ'=>An5 li x0 x { J with tm:=XG kp (dstsOf b) li.ps J.tm,bx:=[],hp:=[]} J'
      | e=>K e J')
    else .bad
   | none=>.bad
  | none=>.bad
 | _,_,_=>.bad
section
variable {P:Program} {E:Env} {F:Fr P} {G:Gh} {J:St} {a:Act} {w:World} {o:Oper} {K:St->Out} {Q:Post} {Qx:Exit->Act->World->Prop}
def RG.clean (h:RG F G J a w) (kp:List Nat):RG F G (J.clean kp) a w:=by
 refine⟨?_,h.bx,h.hp,h.lt,h.os,h.tape,h.output,h.size,h.keep,h.fb,h.fl,h.nt,h.df⟩;intro t tv hl;simp only[St.clean,Bn λt=>kp.contains t] at hl;split at hl
 .exact h.tm t tv hl
 .cases hl
def RG.dropC (h:RG F G J a w) (kp:List Nat) (c:Operand):RG F G (J.dropC kp c) a w:=by
 unfold St.dropC;split
 .rename_i t;cases kp.contains (t+1000000) with
  | false=>exact h
  | true=>
   refine⟨?_,h.bx,h.hp,h.lt,h.os,h.tape,h.output,h.size,h.keep,h.fb,h.fl,h.nt,h.df⟩;intro t' tv hl;simp only[aX,Bn λs=>!(s==t)] at hl;split at hl
   .exact h.tm t' tv hl
   .cases hl
 .exact h
def Ov (hs:List Nat) (x:TV):(x.forget hs).memfree hs=true:=by
 unfold TV.forget;cases h:x.memfree hs
 .rfl
 .exact h
def AaB {hs:List Nat} {x:TV} {v:Value} (h:TVR w G x v):TVR w G (x.forget hs) v:=by
 unfold TV.forget;cases x.memfree hs
 .trivial
 .exact h
def Adl {c d:Cell} {p:List Prop} {v:Value} (h:AbX c d=some p) (hp:∀ q∈p,q) (hc:CellR w G c v):CellR w G d v:=by
 unfold AbX at h;split at h
 .simp at h;subst h;have:=hp _ (eF _);subst this;exact hc
 .exact hc
 .exact hc
 .exact hc
 .simp_all
 .split at h
  .rename_i e;simp at h;subst h;have h1:=hp _ dx;have h2:=hp _ (cY _ (eF _));simp_all
  .cases h
 .simp at h;subst h;have:=hp _ (eF _);subst this;exact hc.1
 .simp at h;subst h;have:=hp _ (eF _);subst this;exact hc.1
 .simp at h;subst h;have:=hp _ (eF _);subst this;exact⟨hc,rfl⟩
 .simp at h;subst h;have:=hp _ (eF _);subst this;exact⟨hc,rfl⟩
 .split at h
  .rename_i e;subst e;simp at h;subst h;have:=hp _ (eF _);subst this;exact hc
  .cases h
 .cases h
def Yq:∀ {cs ds:List Cell} {p:List Prop},KG cs ds=some p->(∀ q∈p,q)->ds.length=cs.length/\∀ (j:Nat) (d:Cell),ds[j]? = some d->∃ c,cs[j]? = some c/\∀ v,CellR w G c v->CellR w G d v:=by
 intro cs
 induction cs with
 | nil=>
  intro ds p h _;cases ds with
  | nil=>simp
  | cons d ds=>simp[KG] at h
 | cons c cs ih=>
  intro ds p h hp;cases ds with
  | nil=>simp[KG] at h
  | cons d ds=>
   simp only[KG] at h;split at h
   .rename_i p1 p2 h1 h2;simp at h;subst h;obtain⟨k1,k2⟩:=ih h2 λq hq=>hp q (ah.2 (.inr hq));refine⟨by grind,λj d' hj=>?_⟩;cases j with
    | zero=>
     simp at hj;subst hj;exact⟨c,rfl,λv hv=>Adl h1 (λq hq=>hp q (ah.2 (.inl hq))) hv⟩
    | succ j=>simpa using k2 j d' (by grind)
   .cases h
def AcC:∀ {cs ds:List Cap} {p:List Prop},Oe cs ds=some p->(∀ q∈p,q)->cs=ds:=by
 intro cs
 induction cs with
 | nil=>
  intro ds p h _;cases ds with
  | nil=>rfl
  | cons d ds=>simp[Oe] at h
 | cons c cs ih=>
  intro ds p h hp;cases ds with
  | nil=>cases c<;>simp[Oe] at h
  | cons d ds=>
   cases c<;>cases d<;>simp only[Oe] at h
   .grind
   .cases h
   .cases h
   .split at h
    .rename_i q h1;simp at h;subst h;rw[hp _ (dx),ih h1 λq hq=>hp q (cY _ hq)]
    .cases h
def AjR {x y:TV} {p:List Prop} {v:Value} (h:Amk x y=some p) (hp:∀ q∈p,q) (hx:TVR w G x v):TVR w G y v:=by
 unfold Amk at h;split at h
 .split at h
  .rename_i e;subst e;obtain⟨h1,h2⟩:=Yq (w:=w) (G:=G) h hp;exact Gy h1 h2 hx
  .cases h
 .simp_all
 .split at h
  .rename_i e;subst e;simp at h;subst h;have:=hp _ (eF _);subst this;exact hx
  .cases h
 .split at h
  .rename_i e;subst e;rw[<-AcC h hp];exact hx
  .cases h
 .exact hx
 .split at h
  .rename_i e;subst e;split at h
   .rename_i e2;subst e2;simp at h;subst h;have:=hp _ (eF _);subst this;exact hx
   .cases h
  .cases h
 .cases h
def AgM (h:RG F G J a w):∀ {l:List (Nat×TV)} {p:List Prop},Aeh J l=some p->(∀ q∈p,q)->∀ t x,(t,x)∈l->TVR w G x (a.tmps.getD t undef):=by
 intro l
 induction l with
 | nil=>intro p _ _ t x hm;simp at hm
 | cons e l ih=>
  obtain⟨t0,x0⟩:=e;intro p hs hp t x hm;unfold Aeh at hs;split at hs
  .rename_i e;cases e
  .rename_i e;injection e with e1 e2
   injection e1 with e3 e4
   subst e2;subst e3;subst e4;rcases au.1 hm with e|hm
   .injection e with e1 e2;subst e2;trivial
   .exact ih hs hp t x hm
  .rename_i t1 x1 r1 _ e;injection e with e1 e2
   injection e1 with e3 e4
   subst e2;subst e3;subst e4;split at hs
   .rename_i y hl;split at hs
    .rename_i p1 p2 h1 h2;simp at hs;subst hs;rcases au.1 hm with e|hm
     .injection e with e1 e2
      subst e1;subst e2;exact AjR h1 (λq hq=>hp q (ah.2 (.inl hq))) (h.tm t y hl)
     .exact ih h2 (λq hq=>hp q (ah.2 (.inr hq))) t x hm
    .cases hs
   .cases hs
def Ale (hE:EOk P E) {L:W6} {kp:List Nat}:∀ (c:Code) (J:St) (a:Act) (w:World) (K:Ex->St->Out),R F J a w->(run P E L kp c J K).holds Q->c.wp P (All F K Q) a w:=by
 intro c
 induction c with
 | skip=>intro J a w K h hh;exact wp_skip ⟨.normal,J,rfl,h,hh⟩
 | region id ops draw=>
  intro J a w K h hh;simp only[run] at hh;obtain⟨G,h⟩:=h;cases draw with
  | true=>
   refine wp_mono (Ac5 (K:=λJ'=>K .normal (J'.clean kp)) hE h hh) ?_;rintro e a' w' ⟨rfl,J',⟨G',h'⟩,hh'⟩;exact⟨.normal,_,rfl,⟨G',h'.clean kp⟩,hh'⟩
  | false=>
   refine wp_mono (wp_region (AfE hE (K:=λJ'=>K .normal (J'.clean kp)) _ J G a w h hh)) ?_;rintro e a' w' ⟨rfl,J',⟨G',h'⟩,hh'⟩;exact⟨.normal,_,rfl,⟨G',h'.clean kp⟩,hh'⟩
 | seq x y ihx ihy=>
  intro J a w K h hh;refine wp_seq (wp_mono (ihx J a w _ h hh) ?_);rintro e a' w' ⟨ex,J',he,h',hh'⟩;cases ex with
  | normal=>obtain rfl:=he;exact ihy J' a' w' K h' hh'
  | exit id=>obtain rfl:=he;exact⟨.exit id,J',rfl,h',hh'⟩
  | ret=>obtain rfl:=he;exact⟨.ret,J',rfl,h',hh'⟩
 | cond c x y ihx ihy=>
  intro J a w K h hh;simp only[run] at hh;obtain⟨G,hG⟩:=h;have hh:(Aix (J.eval c) (run P E L kp x (J.dropC kp c) K) (run P E L kp y (J.dropC kp c) K)).holds Q:=by
   cases hcc:Aap kp c with
   | true=>rw[hcc,aX] at hh;exact Ak2 hh
   | false=>rw[hcc,cF] at hh;exact hh
  obtain⟨b,hb,h1,h2⟩:=Abe (Aw hG c) hh;exact wp_cond_split hb (λe=>ihx _ a w K ⟨G,hG.dropC kp c⟩ (h1 e)) (λe=>ihy _ a w K ⟨G,hG.dropC kp c⟩ (h2 e))
 | block id x ih=>
  intro J a w K h hh;refine wp_block (wp_mono (ih J a w _ h hh) ?_);rintro e a' w' ⟨ex,J',he,h',hh'⟩;cases ex with
  | normal=>obtain rfl:=he;exact⟨.normal,J',rfl,h',hh'⟩
  | exit i=>
   obtain rfl:=he;simp only[Exit.inBlock];split
   .rename_i hi;simp only[hi,BEq.rfl,aX] at hh';exact⟨.normal,J',rfl,h',hh'⟩
   .rename_i hi;have h0:(i==id)=false:=by grind
    simp only[h0,cF] at hh';exact⟨.exit i,J',rfl,h',hh'⟩
  | ret=>obtain rfl:=he;exact⟨.ret,J',rfl,h',hh'⟩
 | exit id=>intro J a w K h hh;exact wp_exit ⟨.exit id,J,rfl,h,hh⟩
 | ret=>intro J a w K h hh;exact wp_ret ⟨.ret,J,rfl,h,hh⟩
 | loop b ih=>
  intro J a w K h hh;simp only[run] at hh;cases hu:(QG kp (Rr b) != 0) with
  | true=>
   rw[hu,aX] at hh;generalize QG kp (Rr b)=m at hh;refine wp_loop_rounds m ?_
   induction m generalizing J a w with
   | zero=>exact hh.elim
   | succ m ihm=>
    refine wp_mono (ih J a w _ h hh) ?_;rintro e a' w' ⟨ex,J',he,h',hh'⟩;cases ex with
    | exit id=>obtain rfl:=he;exact⟨.exit id,J',rfl,h',hh'⟩
    | ret=>obtain rfl:=he;exact⟨.ret,J',rfl,h',hh'⟩
    | normal=>
     obtain rfl:=he;obtain⟨G',hG'⟩:=h';obtain⟨σ2,G2,h2,hh2⟩:=AbN _ J' G' _ hG' hh';exact ihm σ2 a' w' ⟨G2,h2⟩ hh2
  | false=>
  rw[hu,cF] at hh;split at hh
  .rename_i li hli;obtain⟨G,hG⟩:=h;obtain⟨J,G,hG,hh⟩:=NQ _ _ _ _ hG hh;split at hh
   .rename_i x0 ab hg;cases hp:II J li.ps ab with
    | false=>simp[hp,Out.holds] at hh
    | true=>
     simp only[hp,aX] at hh;obtain⟨hinv,hbody⟩:=hh;generalize hbase:({ J with tm:=XG kp (dstsOf b) li.ps J.tm,bx:=[],hp:=[]}:St)=base at hbody;have hbt:∀ t tv,look base.tm t=some tv->tv.memfree (hOf li.ps)=true/\(t,tv)∈base.tm/\TVR w G tv (a.tmps.getD t undef):=by
      intro t tv hl;have h1:=HA hl;subst hbase;simp only[XG] at hl;rw[A8 (TV.forget (hOf li.ps)),Bn λs=>kp.contains s && !((dstsOf b).contains s||li.ps.any λv=>(match v.k with | .s=>true|_=>false)&&v.p==s)] at hl;split at hl
      .cases hq:look J.tm t with
       | none=>rw[hq] at hl;cases hl
       | some x=>
        rw[hq] at hl;simp at hl;subst hl;exact⟨Ov _ x,h1,AaB (hG.tm t x hq)⟩
      .cases hl
     obtain⟨G0,hG0⟩:=AaU hG hg hp base (by grind) (by subst hbase;rfl) (by subst hbase;rfl) (by subst hbase;rfl) (by subst hbase;rfl) λt tv hl=>⟨(hbt t tv hl).1,(hbt t tv hl).2.2⟩;have key:∀ n (x:Xs li.ps) (a:Act) (w:World),li.m x<n->li.inv x0 x->R F (Gj base li.ps x) a w->Code.rounds P b (All F K Q) n a w:=by
      intro n
      induction n with
      | zero=>intro x a w hm _ _;omega
      | succ n ihn=>
       intro x a w hm hx hR;refine wp_mono (ih _ a w _ hR (hbody x hx)) ?_;rintro e a' w' ⟨ex,J',he,⟨G',h'⟩,hh'⟩;cases ex with
       | exit id=>obtain rfl:=he;exact⟨.exit id,J',rfl,⟨G',h'⟩,hh'⟩
       | ret=>obtain rfl:=he;exact⟨.ret,J',rfl,⟨G',h'⟩,hh'⟩
       | normal=>
        obtain rfl:=he;obtain⟨J',G',h',hh2⟩:=NQ _ _ _ _ h' hh';unfold An5 at hh2;split at hh2
        .rename_i x' ab' hg';split at hh2
         .rename_i ps hs;cases hc:(II J' li.ps ab'&&J'.nt==base.nt&&J'.fb==base.fb&&J'.fl==base.fl) with
          | false=>simp[hc,Out.holds] at hh2
          | true=>
           simp only[hc,aX] at hh2;simp at hc;obtain⟨⟨⟨c1,c2⟩,c3⟩,c4⟩:=hc;obtain⟨hps,⟨hinv',hm'⟩,_⟩:=Dz hh2;obtain⟨G2,hG2⟩:=AaU h' hg' c1 base (by grind) (by subst hbase;rfl) c3.symm c4.symm c2.symm λt tv hl=>⟨(hbt t tv hl).1,AgM h' hs hps t tv (hbt t tv hl).2.1⟩;exact ihn x' a' w' O hinv' ⟨G2,hG2⟩
         .exact hh2.elim
        .exact hh2.elim
     exact wp_loop_rounds _ (key _ x0 a w (Nat.lt_succ_self _) hinv ⟨G0,hG0⟩)
   .exact hh.elim
  .exact hh.elim
 | _=>intro J a w K h hh;simp only[run] at hh;exact hh.elim
end
end Go.D
namespace Go.D
def Rn (P:Program) (J:St):ResultVar->Option (Bool×List Cell)
 | .tmp t=>match J.get t with
  | .v agg cs=>some (agg,cs)
  | _=>none
 | .cell t T=>match J.get t,P.underlying T,P.info? T with
  | .ptr b 0,some _,some i=>match look J.bx b with
   | some cs=>if cs.length=i.size/\(Fy.aggOf P T=true\/i.size=1) then some (Fy.aggOf P T,cs) else none
   | none=>none
  | _,_,_=>none
def J1 (P:Program) (J:St):List ResultVar->Option (List (Bool×List Cell))
 | []=>some []
 | r::rs=>match Rn P J r,J1 P J rs with
  | some p,some ps=>some (p::ps)
  | _,_=>none
def Kf (J:St):List (Bool×List Cell)->Option (List (Bool×List FC))
 | []=>some []
 | p::ps=>match Rk J p.2,Kf J ps with
  | some (ds,_),some qs=>some ((p.1,ds)::qs)
  | _,_=>none
def Kk (J:St):List Nat->Option (List (Nat×List FC))
 | []=>some []
 | b::bs=>match look J.bx b with
  | some cs=>match Rk J cs,Kk J bs with
   | some (ds,_),some qs=>some ((b,ds)::qs)
   | _,_=>none
  | none=>none
def keptL (J:St):List Nat->Option (List (Nat×Tree))
 | []=>some []
 | l::ls=>match look J.hp l,keptL J ls with
  | some T,some hs=>some ((l,T)::hs)
  | _,_=>none
def K9 (mk:Nat->Pl):Nat->List Cell->List (Pl×Cell)
 | _,[]=>[]
 | j,c::cs=>(mk j,c)::K9 mk (j+1) cs
def Og:Nat->List (Bool×List Cell)->List (Pl×Cell)
 | _,[]=>[]
 | i,p::ps=>K9 (.res i) 0 p.2++Og (i+1) ps
def Lh (J:St):List Nat->List (Pl×Cell)
 | []=>[]
 | b::bs=>(match look J.bx b with|some cs=>K9 (.box b) 0 cs|none=>[])++Lh J bs
def D2:List (Pl×Cell)->List Nat
 | []=>[]
 | (_,.ref l)::r=>l::D2 r
 | _::r=>D2 r
def Aai:List (Bool×List FC)->Res
 | [p]=>.one p.1 p.2
 | qs=>.tup qs
def SQ (P:Program) (fn:Func) (fb kl:List Nat) (J:St):Out :=
 match J1 P J fn.results.toList with
 | some ps=>match Kf J ps,Kk J fb,keptL J kl with
  | some qs,some bs,some hs=>bif AQ (D2 (Og 0 ps)++(D2 (Lh J fb)++kl))&&AQ fb then .leaf (Aai qs) bs hs else .bad
  | _,_,_=>.bad
 | none=>.bad
def Aqm (P:Program) (fn:Func) (fb kl:List Nat):Ex->St->Out
 | .normal,J=>settle fn.results.toList J λJ=>Kz fb J (SQ P fn fb kl)
 | .ret,J=>settle fn.results.toList J λJ=>Kz fb J (SQ P fn fb kl)
 | .exit _,_=>.bad
def start (nt:Nat) (A:Arg) (kl:List Nat):St:={ nt,tm:=A.tm.zipIdx.map λp=>(p.2,p.1),bx:=A.bx,hp:=A.hp,fb:=A.bx.map (·.1),fl:=kl }
def Sb:FC->FC->Prop
 | .val u,.val v=>u=v
 | .nl,.nl=>True
 | .nl,.l _ ys=>ys=[]
 | .l t xs,.l t' ys=>if h:t=t' then h▸xs=ys else False
 | _,_=>False
def LA:List FC->List FC->Prop
 | [],[]=>True
 | c::cs,d::ds=>Sb c d/\LA cs ds
 | _,_=>False
def Wo:List (Bool×List FC)->List (Bool×List FC)->Prop
 | [],[]=>True
 | p::ps,q::qs=>(p.1=q.1/\LA p.2 q.2)/\Wo ps qs
 | _,_=>False
def KJ:Res->Res->Prop
 | .one a cs,.one b ds=>a=b/\LA cs ds
 | .tup ps,.tup qs=>Wo ps qs
 | _,_=>False
def Wj:List (Nat×List FC)->List (Nat×List FC)->Prop
 | [],[]=>True
 | p::ps,q::qs=>(p.1=q.1/\LA p.2 q.2)/\Wj ps qs
 | _,_=>False
def GU (p q:Pst):Prop:=KJ p.r q.r/\Wj p.bx q.bx/\p.hp=q.hp
def Ctr.post (c:Ctr):Post:=⟨λr bx hp=>match c with
 | .det _ q=>GU ⟨r,hp,bx⟩ q
 | .ex _ X ok q=>∃ x:X,ok x/\GU ⟨r,hp,bx⟩ (q x)
 | .df _ _ e q=>GU ⟨r,hp,bx⟩ (q e),λ_ _=>False⟩
def AcK:∀ {c d:FC},Sb c d->fcLe c d:=by
 intro c d h;cases c with
 | val u=>cases d<;>first|exact h.elim|(obtain rfl:=h;exact fcLe.refl _)
 | nl=>
  cases d with
  | val v=>exact h.elim
  | nl=>exact fcLe.refl _
  | l t ys=>obtain rfl:=h;exact .inr ⟨rfl,t,rfl⟩
 | l t xs=>
  cases d with
  | val v=>exact h.elim
  | nl=>exact h.elim
  | l t' ys=>
   simp only[Sb] at h;split at h
   .rename_i e;subst e;obtain rfl:=h;exact fcLe.refl _
   .exact h.elim
def K1:∀ {cs ds:List FC},LA cs ds->FcsLe cs ds:=by
 intro cs
 induction cs with
 | nil=>intro ds h;cases ds with
  | nil=>exact .nil
  | cons d ds=>exact h.elim
 | cons c cs ih=>intro ds h;cases ds with
  | nil=>exact h.elim
  | cons d ds=>exact .cons (AcK h.1) (ih h.2)
section
variable {P:Program} {E:Env} {F:Fr P} {G:Gh} {J:St} {a:Act} {w w':World} {o:Oper} {K:St->Out} {Q:Post} {Qx:Exit->Act->World->Prop}
def PartO.le {agg:Bool} {cs ds:List FC} {v:Value} {Fs:Nat->Nat->Prop} (h:PartO w agg cs v Fs) (hl:FcsLe cs ds):PartO w agg ds v Fs:=by
 obtain⟨hl1,hl2⟩:=hl.get;have hle:∀ (j:Nat) (c d:FC),cs[j]? = some c->ds[j]? = some d->D.le (fcC c) (fcC d):=by intro j c d hc hd;have:=(hl2 j).le;simp_all
 cases agg with
 | false=>
  obtain⟨c,rfl,h1,h2⟩:=h;obtain⟨d,rfl⟩:=ek.1 hl1.symm;exact⟨d,rfl,TO.le (hle 0 c d rfl rfl) h1,h2⟩
 | true=>
  obtain⟨vs,rfl,hs,h⟩:=h;refine⟨vs,rfl,O,λj d hj=>?_⟩;have hlt:j<cs.length:=by grind
  obtain⟨u,hu,h1,h2⟩:=h j _ (aH hlt);exact⟨u,hu,TO.le (hle j _ d (aH hlt) hj) h1,h2⟩
def Yo:∀ {ps qs:List (Bool×List FC)},Wo ps qs->ps.length=qs.length/\∀ (i:Nat) (q:Bool×List FC),qs[i]? = some q->∃ p,ps[i]? = some p/\p.1=q.1/\FcsLe p.2 q.2:=by
 intro ps
 induction ps with
 | nil=>intro qs h;cases qs with
  | nil=>simp
  | cons q qs=>exact h.elim
 | cons p ps ih=>intro qs h;cases qs with
  | nil=>exact h.elim
  | cons q qs=>
   obtain⟨h1,h2⟩:=ih h.2;refine⟨by grind,λi q' hq=>?_⟩;cases i with
   | zero=>simp only[List.getElem?_cons_zero,R_] at hq;subst hq;exact⟨p,rfl,h.1.1,K1 h.1.2⟩
   | succ i=>simpa using h2 i q' (by grind)
def ResR.le {r r':Res} {v:Value} {Fs:Nat->Nat->Nat->Prop} (h:ResR w r v Fs) (hl:KJ r r'):ResR w r' v Fs:=by
 cases r with
 | one a cs=>
  cases r' with
  | tup qs=>exact hl.elim
  | one b ds=>obtain⟨rfl,hl⟩:=hl;exact PartO.le h (K1 hl)
 | tup ps=>
  cases r' with
  | one b ds=>exact hl.elim
  | tup qs=>
   obtain⟨vs,rfl,hs,hp⟩:=h;obtain⟨h1,h2⟩:=Yo hl;refine⟨vs,rfl,O,λi q hq=>?_⟩;obtain⟨p,hpi,e1,e2⟩:=h2 i q hq;obtain⟨u,hu,hpo⟩:=hp i p hpi;exact⟨u,hu,e1▸PartO.le hpo e2⟩
def MY:∀ {ps qs:List (Nat×List FC)},Wj ps qs->∀ b ds,look qs b=some ds->∃ cs,look ps b=some cs/\FcsLe cs ds:=by
 intro ps
 induction ps with
 | nil=>intro qs h;cases qs with
  | nil=>simp[look]
  | cons q qs=>exact h.elim
 | cons p ps ih=>intro qs h;cases qs with
  | nil=>exact h.elim
  | cons q qs=>
   obtain⟨p1,p2⟩:=p;obtain⟨q1,q2⟩:=q;obtain⟨⟨h1,h2⟩,h3⟩:=h;intro b ds hl;subst h1;simp only[look] at hl ⊢;split at hl
   .rename_i e;simp at hl;subst hl;exact⟨p2,by simp[e],K1 h2⟩
   .grind
def PstF.le {p q:Pst} {v:Value} {Fs:Pl->Nat->Prop} (h:PstF w G w' v p Fs) (hl:GU p q):PstF w G w' v q Fs:=by
 obtain⟨h1,h2,h3⟩:=hl;refine⟨λs b hs=>⟨(h.own s b hs).1,(h.own s b hs).2.1,λb0 hb0=>(h.own s b hs).2.2 b0 ?_⟩,h.dis,h.res.le h1,λl T hT=>h.hp l T (by grind),λb ds hb=>?_⟩
 .obtain⟨ds,hds⟩:=Option.isSome_iff_exists.1 hb0;obtain⟨cs,hcs,_⟩:=MY h2 b0 ds hds;rw[hcs];rfl
 .obtain⟨cs,hcs,hle⟩:=MY h2 b ds hb;obtain⟨r,e,k1,k2,k3⟩:=h.bx b cs hcs;obtain⟨l1,l2⟩:=hle.get;refine⟨r,e,k1,O,λj d hd=>?_⟩;have hlt:j<cs.length:=by grind
  obtain⟨u,hu,ht,h1⟩:=k3 j _ (aH hlt);have:=(l2 j).le;refine⟨u,hu,TO.le ?_ ht,h1⟩;grind
def KV (tmps:Array Value) (r:ResultVar):Sem Value:=match r with
 | .tmp t=>pure (tmps.getD t undef)
 | .cell a t=>do loadVar t (<-asAddr (tmps.getD a undef))
def VY (h:RG F G J a w) {r:ResultVar} {p:Bool×List Cell} (hr:Rn P J r=some p):∃ v,(KV a.tmps r).run P w=.ok v w/\G6 w G p.1 p.2 v:=by
 unfold Rn at hr;split at hr
 .rename_i t;have hx:=OK h t;split at hr
  .rename_i agg cs he;simp at hr;subst hr;rw[he] at hx;exact⟨_,rfl,hx⟩
  .simp at hr
 .rename_i t T;have hx:=OK h t;split at hr
  .rename_i b d i he hd hi;rw[he] at hx;split at hr
   .rename_i cs hb;split at hr
    .rename_i hc;obtain⟨hlen,hs⟩:=hc;simp at hr;subst hr;obtain⟨h1,row,e,h2,h3⟩:=h.bx b cs hb;have hrl:row.toList.length=i.size:=by rw[fp,h3.1,hlen]
     refine⟨HL P T row.toList,?_,AaE (P:=P) T cs row.toList O (λj c hj=>by simpa using h3.2 j c hj) (by rwa [hlen])⟩;have:=GW (P:=P) (w:=w) T d i (G.be b) 0 row e (0,0) hd hi h2 row.toList hrl (λj v hv=>by grind) hs;simp only[TVR] at hx;simp only[KV,hx,asAddr,Sem.run_bind,Sem.run_pure,Result.andThen_ok,this]
    .simp at hr
   .simp at hr
  .simp at hr
def Ua (h:RG F G J a w):∀ (rs:List ResultVar) (ps:List (Bool×List Cell)),J1 P J rs=some ps->∃ vs:List Value,(rs.mapM (KV a.tmps)).run P w=.ok vs w/\vs.length=ps.length /\
 ∀ (i:Nat) (p:Bool×List Cell),ps[i]? = some p->∃ v,vs[i]? = some v/\G6 w G p.1 p.2 v:=by
 intro rs
 induction rs with
 | nil=>intro ps hp;simp only[J1,R_] at hp;subst hp;exact⟨[],by simp,rfl,by simp⟩
 | cons r rs ih=>
  intro ps hp;simp only[J1] at hp;split at hp
  .rename_i p ps' h1 h2;simp at hp;subst hp;obtain⟨v,hv,hpr⟩:=VY h h1;obtain⟨vs,hvs,hl,hps⟩:=ih ps' h2;refine⟨v::vs,?_,by grind,λi q hq=>?_⟩
   .simp_all
   .grind
  .simp at hp
def UI (fn:Func) (tmps:Array Value) (vs:List Value) (h:(fn.results.toList.mapM (KV tmps)).run P w=.ok vs w) :
 (results fn tmps).run P w=.ok (if h:vs.length=1 then vs[0] else .tuple vs.toArray) w:=by
 have e:(fn.results.mapM (KV tmps):Sem (Array Value)).run P w=.ok vs.toArray w:=by rw[Array.mapM_eq_mapM_toList];simp_all
 have e2:results fn tmps=(fn.results.mapM (KV tmps) >>= λvs=>pure (if h:vs.size=1 then vs[0] else .tuple vs)):=rfl;rw[e2,Sem.run_bind,e,Result.andThen_ok];simp
def Wu (h:RG F G J a w) {agg:Bool} {cs:List Cell} {ds:List FC} {ab:List Nat} {v:Value} (hl:Rk J cs=some (ds,ab)) (hv:G6 w G agg cs v) :
 PartO w agg ds v (λj b=>∃ c m,cs[j]? = some c/\AV c m/\G.ow b=.lab m):=by
 obtain⟨l1,l2,l3,l4⟩:=Of h cs ds ab hl;have cell:∀ (j:Nat) (c:Cell) (u:Value),cs[j]? = some c->CellR w G c u->TO w (fcC (ds.getD j .nl)) u (λb=>∃ c m,cs[j]? = some c/\AV c m/\G.ow b=.lab m)/\u.oneCell'=true :=
  λj c u hc hu=>⟨(l2 j c u hc hu).frame λb hb _=>⟨rfl,let ⟨m,hm,hb⟩:=hb;⟨c,m,hc,hm,hb⟩⟩,hu.one⟩
 cases agg with
 | false=>
  obtain⟨c,hcs,hcr⟩:=hv;subst hcs;obtain⟨d,rfl⟩:=ek.1 l1;have:=cell 0 c v rfl hcr;exact⟨d,rfl,by grind,this.2⟩
 | true=>
  obtain⟨vs,rfl,hs,hcr⟩:=hv;refine⟨vs,rfl,O,λj d hj=>?_⟩;have hlt:j<cs.length:=by grind
  obtain⟨u,hu,hcu⟩:=hcr j _ (aH hlt);have:=cell j _ u (aH hlt) hcu;simp_all
def Sf:∀ {ps:List (Bool×List Cell)} {qs:List (Bool×List FC)},Kf J ps=some qs->qs.length=ps.length/\∀ (i:Nat) (q:Bool×List FC),qs[i]? = some q->∃ p ab,ps[i]? = some p/\p.1=q.1/\Rk J p.2=some (q.2,ab):=by
 intro ps
 induction ps with
 | nil=>intro qs h;simp only[Kf,R_] at h;subst h;simp
 | cons p ps ih=>
  intro qs h;simp only[Kf] at h;grind
def Qv:∀ {bs:List Nat} {qs:List (Nat×List FC)},Kk J bs=some qs->qs.map (·.1)=bs/\∀ b ds,look qs b=some ds->b∈bs/\∃ cs ab,look J.bx b=some cs/\Rk J cs=some (ds,ab):=by
 intro bs
 induction bs with
 | nil=>intro qs h;simp only[Kk,R_] at h;subst h;simp[look]
 | cons b bs ih=>
  intro qs h;simp only[Kk] at h;split at h
  .split at h
   .rename_i ds ab qs' h1 h2;simp at h;subst h;obtain⟨k1,k2⟩:=ih h2;refine⟨by grind,λb' ds' hl=>?_⟩;simp only[look] at hl;grind
   .cases h
  .cases h
theorem ey:∀ {ls:List Nat} {hs:List (Nat×Tree)},keptL J ls=some hs->∀ l T,look hs l=some T->l∈ls/\look J.hp l=some T:=by
 intro ls
 induction ls with
 | nil=>intro hs h;simp only[keptL,R_] at h;subst h;simp[look]
 | cons l ls ih=>
  intro hs h;simp only[keptL] at h;split at h
  .rename_i T hs' h1 h2;simp at h;subst h;intro l' T' hl;simp only[look] at hl;grind
  .cases h
def Agp:∀ {L:List (Pl×Cell)} {s:Pl} {c:Cell} {m:Nat},(s,c)∈L->AV c m->m∈D2 L:=by
 intro L
 induction L with
 | nil=>intro s c m h;simp at h
 | cons x L ih=>
  obtain⟨s0,c0⟩:=x;intro s c m h hm;rcases au.1 h with e|h
  .injection e with e1 e2
   subst e2;cases c<;>simp[AV] at hm;subst hm;simp[D2]
  .have:=ih h hm;cases c0<;>simp[D2,this]
def Af1:∀ {L:List (Pl×Cell)} {s s':Pl} {c c':Cell} {m:Nat},AQ (D2 L)=true->(s,c)∈L->(s',c')∈L->AV c m->AV c' m->s=s':=by
 intro L
 induction L with
 | nil=>intro s s' c c' m _ h;simp at h
 | cons x L ih=>
  obtain⟨s0,c0⟩:=x;intro s s' c c' m hn h h' hm hm';have tail:AQ (D2 L)=true:=by cases c0<;>simp only[D2] at hn<;>first|exact hn|(simp only[AQ,T_] at hn;exact hn.2)
  have key:∀ {t:Pl} {d:Cell},(t,d)∈L->AV d m->¬ AV c0 m:=by intro t d hd hdm hc0;cases c0<;>simp[AV] at hc0;subst hc0;simp only[D2,AQ,T_,cO,List.contains_eq_mem,cw] at hn;exact hn.1 (Agp hd hdm)
  grind
def Oh {mk:Nat->Pl}:∀ {cs:List Cell} {s j:Nat} {c:Cell},cs[j]? = some c->(mk (s+j),c)∈K9 mk s cs:=by
 intro cs
 induction cs with
 | nil=>intro s j c h;simp at h
 | cons d cs ih=>
  intro s j c h;cases j with
  | zero=>simp only[List.getElem?_cons_zero,R_] at h;subst h;simp[K9]
  | succ j=>
   have:=ih (s:=s+1) (j:=j) (c:=c) (by grind);rw[show s+1+j=s+(j+1) from O] at this;simp[K9,this]
def UD:∀ {ps:List (Bool×List Cell)} {s i j:Nat} {p:Bool×List Cell} {c:Cell},ps[i]? = some p->p.2[j]? = some c->(Pl.res (s+i) j,c)∈Og s ps:=by
 intro ps
 induction ps with
 | nil=>intro s i j p c h;simp at h
 | cons q ps ih=>
  intro s i j p c h hc;cases i with
  | zero=>
   simp at h;subst h;have:=Oh (mk:=.res s) (s:=0) hc;rw[cM] at this;exact ah.2 (.inl this)
  | succ i=>
   have:=ih (s:=s+1) (i:=i) (by grind) hc;rw[show s+1+i=s+(i+1) from O] at this;exact ah.2 (.inr this)
def TJ:∀ {bs:List Nat} {b j:Nat} {cs:List Cell} {c:Cell},b∈bs->look J.bx b=some cs->cs[j]? = some c->(Pl.box b j,c)∈Lh J bs:=by
 intro bs
 induction bs with
 | nil=>intro b j cs c h;simp at h
 | cons b0 bs ih=>
  intro b j cs c h hl hc;simp only[Lh];rcases au.1 h with rfl|h
  .have:=Oh (mk:=.box b) (s:=0) hc;simp_all
  .simp_all
def Um (L R:List (Pl×Cell)):D2 (L++R)=D2 L++D2 R:=by
 induction L with
 | nil=>rfl
 | cons x L ih=>
  obtain⟨s,c⟩:=x;cases c<;>simp[D2,ih]
def F0 {P:Program} (w:World) (G:Gh) (A:Arg) (kl:List Nat) (hB:Base P w G.ow):Fr P:=⟨w,G.ow,A.bx.map λp=>(p.1,G.be p.1),kl.map λl=>(l,G.hv l),hB⟩
def NB {α:Type} {f:Nat->α}:∀ {l:List Nat} {k:Nat},k∈l->look (l.map λx=>(x,f x)) k=some (f k):=by
 intro l
 induction l with
 | nil=>intro k h;simp at h
 | cons x l ih=>
  simp only[aY,look];grind
def UE {w0:World} {G0:Gh} {A:Arg} {fn:Func} {kl:List Nat} {hB:Base P w0 G0.ow} {S:Pst->Prop} (hA:∀ g,G0.ow g=.free->g<w0.heap.size) (hAc:∀ g,G0.ow g=.cur->g<w0.heap.size) (h:RG (F0 w0 G0 A kl hB) G J a w) (hh:(SQ P fn (A.bx.map (·.1)) kl J).holds ⟨λr bx hp=>S ⟨r,hp,bx⟩,λ_ _=>False⟩) :
 ∃ v p Fs,(results fn a.tmps).run P w=.ok v w/\S p/\PstF w0 G0 w v p Fs:=by
 unfold SQ at hh;split at hh
 .rename_i ps hps;split at hh
  .rename_i qs bs hs h1 h2 h3;generalize hcnd:(AQ (D2 (Og 0 ps)++(D2 (Lh J (A.bx.map (·.1)))++kl))&&AQ (A.bx.map (·.1)))=cnd at hh;cases cnd with
   | false=>exact hh.elim
   | true=>
    rw[T_] at hcnd;obtain⟨hn,hnb⟩:=hcnd;obtain⟨vs,hrun,hlen,hpv⟩:=Ua (P:=P) h fn.results.toList ps hps;have hres:=UI fn a.tmps vs hrun;obtain⟨q1,q2⟩:=Sf h1;obtain⟨b1,b2⟩:=Qv h2;have k2:=ey h3
    let L:List (Pl×Cell):=Og 0 ps++(Lh J (A.bx.map (·.1))++kl.map λl=>(Pl.keep l,Cell.ref l))
    have hlk:D2 (kl.map λl=>(Pl.keep l,Cell.ref l))=kl:=by
     clear hn h3 k2 h hh L
     induction kl with
     | nil=>rfl
     | cons l kl ih=>simp[D2,ih]
    have hL:AQ (D2 L)=true:=by simp only[L,Um,hlk];exact hn
    let Fs:Pl->Nat->Prop:=λs b=>∃ c m,(s,c)∈L/\AV c m/\G.ow b=.lab m
    have hF:PstF w0 G0 w (if h:vs.length=1 then vs[0] else .tuple vs.toArray) ⟨Aai qs,hs,bs⟩ Fs:=by
     refine⟨?_,?_,?_,?_,?_⟩
     .rintro s b ⟨c,m,_,_,hb⟩;refine⟨h.lt b (by grind),⟨λhf=>?_,λhf=>?_⟩,λb0 hb0 e=>?_⟩
      .have:=(h.keep.free b (hA b hf) hf).2;rw[hb] at this;cases this
      .have:=(h.keep.cur b (hAc b hf) hf).1;rw[hb] at this;cases this
      .obtain⟨ds,hds⟩:=Option.isSome_iff_exists.1 hb0;obtain⟨m1,cs,ab,m2,_⟩:=b2 b0 ds hds;have hbe:G.be b0=G0.be b0:=by refine(h.fb b0 (G0.be b0) ?_).1;have:=NB (f:=λb=>G0.be b) m1;simpa [F0,dz,Function.comp_def] using this
       have:=(h.bx b0 cs m2).1;rw[hbe,<-e,hb] at this;cases this
     .rintro s s' b ⟨c,m,hc,hm,hb⟩ ⟨c',m',hc',hm',hb'⟩;rw[hb] at hb';injection hb' with e
      subst e;exact Af1 hL hc hc' hm hm'
     .have part:∀ (i:Nat) (q:Bool×List FC),qs[i]? = some q->∃ u,vs[i]? = some u/\PartO w q.1 q.2 u (λj=>Fs (.res i j)):=by
       intro i q hq;obtain⟨p,ab,hp,e1,hl⟩:=q2 i q hq;obtain⟨u,hu,hpr⟩:=hpv i p hp;refine⟨u,hu,?_⟩;have:=Wu h hl hpr;rw[e1] at this;have fo:∀ j b,(∃ c m,p.2[j]? = some c/\AV c m/\G.ow b=.lab m)->Fs (.res i j) b:=by
        rintro j b ⟨c,m,hc,hm,hb⟩;refine⟨c,m,ah.2 (.inl ?_),hm,hb⟩;have:=UD (s:=0) hp hc
        rwa [cM] at this
       generalize q.1=ag at this;cases ag with
       | false=>obtain⟨c,e1,e2,e3⟩:=this;exact⟨c,e1,e2.frame λb hb _=>⟨rfl,fo 0 b hb⟩,e3⟩
       | true=>obtain⟨us,e1,e2,e3⟩:=this;exact⟨us,e1,e2,λj c hc=>let ⟨u,hu,ht,h1⟩:=e3 j c hc;⟨u,hu,ht.frame λb hb _=>⟨rfl,fo j b hb⟩,h1⟩⟩
      match qs,q1,part with
      | [],q1,part=>
       have hl0:vs.length=0:=by grind
       rw[dif_neg O];exact⟨vs.toArray,rfl,O,by simp⟩
      | [q],q1,part=>
       have hv1:vs.length=1:=by grind
       obtain⟨u,hu,hpo⟩:=part 0 q rfl;obtain⟨v0,rfl⟩:=ek.1 hv1;simp at hu;subst hu;exact hpo
      | q::q'::qs,q1,part=>
       have hl0:vs.length=qs.length+2:=by grind
       rw[dif_neg O];refine⟨vs.toArray,rfl,O,λi p hp=>?_⟩;obtain⟨u,hu,hpo⟩:=part i p hp;exact⟨u,by grind,hpo⟩
     .intro l T hl;obtain⟨m1,m2⟩:=k2 l T hl;have hv:G.hv l=G0.hv l:=(h.fl l (G0.hv l) (NB (f:=λl=>G0.hv l) m1)).1;rw[<-hv];exact(h.hp l T m2).frame λb hb _=>⟨rfl,_,l,ah.2 (.inr (ah.2 (.inr (bM.2 ⟨l,m1,rfl⟩)))),rfl,hb⟩
     .intro b ds hb;obtain⟨m1,cs,ab,m2,m3⟩:=b2 b ds hb;have hbe:G.be b=G0.be b:=by refine(h.fb b (G0.be b) ?_).1;have:=NB (f:=λb=>G0.be b) m1;simpa [F0,dz,Function.comp_def] using this
      obtain⟨_,r,e,n1,n2⟩:=h.bx b cs m2;have hpr:=Wu h (v:=.agg r) (agg:=true) m3 ⟨r,rfl,n2⟩;obtain⟨r',er,e2,e3⟩:=hpr;injection er with er
      subst er;refine⟨r,e,by grind,e2,λj c hc=>?_⟩;obtain⟨u,hu,ht,h1⟩:=e3 j c hc;refine⟨u,hu,ht.frame λx hx _=>⟨rfl,?_⟩,h1⟩;obtain⟨c',m,hc',hm,hx⟩:=hx;exact⟨c',m,ah.2 (.inr (ah.2 (.inl (TJ m1 m2 hc')))),hm,hx⟩
    exact⟨_,_,Fs,hres,hh,hF⟩
  .exact hh.elim
 .exact hh.elim
def Zk (args:List TV) (t:Nat):look (args.zipIdx.map λp=>(p.2,p.1)) t=args[t]?:=by
 have key:∀ (args:List TV) (s t:Nat),look ((args.zipIdx s).map λp=>(p.2,p.1)) t=if t<s then none else args[t-s]?:=by
  intro args
  induction args with
  | nil=>intro s t;simp[look]
  | cons x args ih=>
   simp only[List.zipIdx_cons,aY,look,ih,da];grind
 simp_all
def J5 (P:Program) (E:Env) (L:W6) (kp kl:List Nat) (fn:Func) (A:Arg):Out:=run P E L kp (fn.body.getD .skip) (start fn.ntmps A kl) (Aqm P fn (A.bx.map (·.1)) kl)
def SM {α β:Type} {f:Nat->β}:∀ {l:List (Nat×α)} {b:Nat} {β0:β},look (l.map λp=>(p.1,f p.1)) b=some β0->f b=β0/\(l.map (·.1)).contains b=true:=by
 intro l
 induction l with
 | nil=>intro b β0 h;simp[look] at h
 | cons p l ih=>
  intro b β0 h;simp only[aY,look] at h;grind
def JR {f:Nat} {fn:Func} {A:Arg} {c:Ctr} {L:W6} {kp kl:List Nat} (hE:EOk P E) (hf:P.funcs[f]? = some fn) (hb:fn.body.isSome=true) (hn:decide (A.tm.length<=fn.ntmps)=true)
 (hh:(J5 P E L kp kl fn A).holds c.post):Con P f A c.sat:=by
 obtain⟨code,hc⟩:=Option.isSome_iff_exists.1 hb;intro w vs G hB hA;have hn:=ee hn;refine calls_of_wp hf hc ?_;have h0:RG (F0 w G A kl hB) G (start fn.ntmps A kl) { tmps:=vs++Array.replicate (fn.ntmps-vs.size) undef,defers:=[]} w:=by
  refine⟨?_,hA.bx,hA.hp,hA.lt,rfl,rfl,⟨rfl,DrLe.refl _⟩,X_ _,?_,?_,?_,?_,rfl⟩
  .intro t tv hl;simp only[start,Zk] at hl;obtain⟨v,hv,ht⟩:=hA.tm t tv hl;have hlt:t<vs.size:=(Array.getElem?_eq_some_iff.1 hv).1;have:(vs++Array.replicate (fn.ntmps-vs.size) undef).getD t undef=v:=by rw[Array.getD_eq_getD_getElem?,Array.getElem?_append_left hlt,hv];rfl
   rw[this];exact ht
  .exact⟨λg hg hfree=>⟨rfl,hfree⟩,λg hg hcu=>⟨hcu,(hA.cr g hcu).same rfl⟩,hA.cr⟩
  .intro b β hl;exact SM (f:=λb=>G.be b) (l:=A.bx) hl
  .intro l v hl;have:=HA hl;simp only[F0,bM] at this;obtain⟨l',h1,h2⟩:=this;injection h2 with e1 e2
   subst e1;subst e2;exact⟨rfl,by simpa [start] using h1⟩
  .have:=hA.sz;simp[start];omega
 unfold J5 at hh;rw[hc] at hh;refine wp_mono (Ale hE code _ _ w _ ⟨_,h0⟩ hh) ?_;rintro e a' w' ⟨ex,J',he,⟨G',h'⟩,hh'⟩;have fin:(settle fn.results.toList J' λJ=>Kz (A.bx.map (·.1)) J (SQ P fn (A.bx.map (·.1)) kl)).holds c.post->a'.defers=[]/\∃ v,(results fn a'.tmps).run P w'=.ok v w'/\U3 w G c.sat (.returned v) w':=by
  intro hl;obtain⟨σ1,G1,h',hl⟩:=AaZ _ _ _ _ h' hl;obtain⟨σ2,G2,h',hl⟩:=U9 _ _ _ _ h' hl;have hfr:∀ g,G.ow g=.free->g<w.heap.size:=λg hg=>hA.lt g (by grind)
  have hfc:∀ g,G.ow g=.cur->g<w.heap.size:=λg hg=>hA.lt g (by grind)
  refine⟨h'.df,?_⟩;have on:Onward w w':=⟨h'.os,h'.tape,h'.output,h'.size⟩;have fr:∀ g,G.ow g=.free->w'.heap[g]? = w.heap[g]?:=λg hg=>(h'.keep.free g (hfr g hg) hg).1
  have cu:∀ g,G.ow g=.cur->CurStep w w' g:=λg hg=>(h'.keep.cur g (hfc g hg) hg).2
  cases c with
  | det pre q=>
   obtain⟨v,p,Fs,h1,h2,h3⟩:=UE (S:=λp=>GU p q) hfr hfc h' hl;exact⟨v,h1,v,q,rfl,rfl,on,fr,cu,Fs,h3.le h2⟩
  | ex pre X ok q=>
   obtain⟨v,p,Fs,h1,⟨x,hx,h2⟩,h3⟩:=UE (S:=λp=>∃ x:X,ok x/\GU p (q x)) hfr hfc h' hl;exact⟨v,h1,v,q x,⟨x,hx,rfl⟩,rfl,on,fr,cu,Fs,h3.le h2⟩
  | df pre X e q=>
   obtain⟨v,p,Fs,h1,h2,h3⟩:=UE (S:=λp=>GU p (q e)) hfr hfc h' hl;exact⟨v,h1,v,q e,rfl,rfl,on,fr,cu,Fs,h3.le h2⟩
 cases ex with
 | normal=>obtain rfl:=he;exact fin hh'
 | ret=>obtain rfl:=he;exact fin hh'
 | exit id=>exact hh'.elim
end
end Go.D
namespace Go.D
abbrev Ts:List Sh->Type
 | []=>Unit
 | s::ss=>s.X×Ts ss
inductive Ak where
 | v (s:Sh)
 | p (s:Sh)
 | c (g:Nat) (ss:List Sh)
 | u
abbrev Ak.X:Ak->Type
 | .v s=>s.X
 | .p s=>s.X
 | .c _ ss=>Ts ss
 | .u=>Unit
abbrev As:List Ak->Type
 | []=>Unit
 | s::ss=>s.X×As ss
abbrev aI:Ak:=.v (.el .int)
abbrev aB:Ak:=.v (.el .bool)
abbrev aT:Ak:=.v (.el .str)
abbrev aE (t:Ty):Ak:=.v (.el t)
abbrev aL (t:Ty):Ak:=.v (.sl t)
abbrev rI:Sh:=.el .int
abbrev rB:Sh:=.el .bool
abbrev rT:Sh:=.el .str
abbrev rE (t:Ty):Sh:=.el t
abbrev rL (t:Ty):Sh:=.sl t
def PC (s:Sh) (x:s.X):TV:=.v s.agg ((s.fc x).map (toCell none))
def Ek:(ss:List Sh)->Ts ss->List Cap
 | [],_=>[]
 | s::ss,x=>.aptr (s.fc x.1)::Ek ss x.2
def AeM:(k:Ak)->k.X->TV
 | .v s,x=>PC s x
 | .p s,x=>.aptr (s.fc x) 0
 | .c g ss,x=>.clo g (Ek ss x)
 | .u,_=>.cur
def D3:(ss:List Ak)->As ss->List TV
 | [],_=>[]
 | s::ss,x=>AeM s x.1::D3 ss x.2
def decV (s:Sh):TV->Option s.X
 | .v agg cs=>bif agg==s.agg then(match Gf cs with
  | some ds=>s.dec ds
  | none=>none) else none
 | _=>none
def Jq:(ss:List Sh)->List Cap->Option (Ts ss)
 | [],[]=>some ()
 | s::ss,.aptr ds::cs=>match s.dec ds,Jq ss cs with
  | some y,some ys=>some (y,ys)
  | _,_=>none
 | _,_=>none
def SF:(k:Ak)->TV->Option k.X
 | .v s,x=>decV s x
 | .p s,.aptr ds 0=>s.dec ds
 | .c g ss,.clo g' cs=>bif g==g' then Jq ss cs else none
 | .u,.cur=>some ()
 | _,_=>none
def Oj:(ss:List Ak)->List TV->Option (As ss)
 | [],[]=>some ()
 | s::ss,x::xs=>match SF s x,Oj ss xs with
  | some y,some ys=>some (y,ys)
  | _,_=>none
 | _,_=>none
def JA:(rs:List Sh)->Ts rs->List (Bool×List FC)
 | [],_=>[]
 | s::ss,x=>(s.agg,s.fc x.1)::JA ss x.2
def mkR (rs:List Sh) (y:Ts rs):Res:=Aai (JA rs y)
structure Fct where
 as:List Ak
 rs:List Sh
 pre:As as->Prop
 fn:As as->Ts rs
def Fct.spec (S:Fct):D.Spec:=λA=>match A.bx,A.hp with
 | [],[]=>match Oj S.as A.tm with
  | some x=>some (.df [S.pre x] (Ts S.rs) (S.fn x) λy=>⟨mkR S.rs y,[],[]⟩)
  | none=>none
 | _,_=>none
def Fct.arg (S:Fct) (x:As S.as):Arg:=⟨D3 S.as x,[],[]⟩
def Fct.ctr (S:Fct) (x:As S.as):Ctr:=.det [] ⟨mkR S.rs (S.fn x),[],[]⟩
def Fct.ok (S:Fct) (P:Program) (f:Nat):Prop:=∀ x,S.pre x->Con P f (S.arg x) (S.ctr x).sat
def Aen {w:World} {G:Gh} {s:Sh} {x:TV} {y:s.X} {v:Value} (h:decV s x=some y) (hx:TVR w G x v):TVR w G (PC s y) v:=by
 unfold decV at h;split at h
 .rename_i agg cs;cases ha:(agg==s.agg) with
  | false=>simp[ha] at h
  | true=>
   simp only[ha,aX] at h;split at h
   .rename_i ds hd;obtain⟨l1,l2⟩:=Il (w:=w) (G:=G) cs ds hd;obtain⟨k1,k2⟩:=(Sh.dec_ok h).get;have hlen:((s.fc y).map (toCell none)).length=cs.length:=by rw[cE,<-k1,l1]
    have ha':agg=s.agg:=by simpa using ha
    unfold PC;rw[<-ha'];refine Gy (cs:=cs) hlen (λj d hj=>?_) hx;rw[cz] at hj;cases hq:(s.fc y)[j]? with
    | none=>simp[hq] at hj
    | some fc=>
     simp only[hq,bC,R_] at hj;subst hj;have hlt:j<cs.length:=by rw[<-l1,k1];exact(List.getElem?_eq_some_iff.1 hq).1
     refine⟨_,aH hlt,λu hu=>Hc ?_⟩;have ht:=l2 j _ u (aH hlt) hu;have hle:=(k2 j).le;have hd':(s.fc y).getD j .nl=fc:=by simp[List.getD,hq]
     rw[hd'] at hle;exact TR.le hle ht
   .cases h
 .cases h
def V3 {w:World} {G:Gh} {s:Sh} {ds:List FC} {y:s.X} {r:Array Value} (h:s.dec ds=some y) (hr:Rl w G ds r):Rl w G (s.fc y) r:=by
 obtain⟨k1,k2⟩:=(Sh.dec_ok h).get;intro j c hc;have hlt:j<ds.length:=by rw[k1];exact(List.getElem?_eq_some_iff.1 hc).1
 obtain⟨u,hu,ht⟩:=hr j _ (aH hlt);have hle:=(k2 j).le;have hd':(s.fc y).getD j .nl=c:=by simp[List.getD,hc]
 have hd2:ds.getD j .nl=ds[j]:=by simp[List.getD,aH hlt]
 rw[hd',hd2] at hle;exact⟨u,hu,TR.le hle ht⟩
def YK {w:World} {G:Gh}:∀ {ss:List Sh} {cs:List Cap} {y:Ts ss},Jq ss cs=some y->(Ek ss y).length=cs.length/\∀ (j:Nat) (c:Cap),(Ek ss y)[j]? = some c->∃ c',cs[j]? = some c'/\∀ v,ZF w G c' v->ZF w G c v:=by
 intro ss
 induction ss with
 | nil=>
  intro cs y h;cases cs with
  | nil=>simp[Ek]
  | cons c cs=>cases c<;>simp[Jq] at h
 | cons s ss ih=>
  intro cs y h;cases cs with
  | nil=>simp[Jq] at h
  | cons c cs=>
   cases c with
   | ptr b=>simp[Jq] at h
   | aptr ds=>
    simp only[Jq] at h;split at h
    .rename_i y1 ys h1 h2;simp only[R_] at h;subst h;obtain⟨k1,k2⟩:=ih h2;refine⟨by simp[Ek,k1],λj c hj=>?_⟩;cases j with
     | zero=>
      simp only[Ek,List.getElem?_cons_zero,R_] at hj;subst hj;exact⟨_,rfl,λv ⟨g,r,e,fr,q1,q2,q3,q4⟩=>⟨g,r,e,fr,q1,q2,q3,V3 h1 q4⟩⟩
     | succ j=>simpa [Ek] using k2 j c (by simpa [Ek] using hj)
    .cases h
def Xl {w:World} {G:Gh} {k:Ak} {x:TV} {y:k.X} {v:Value} (h:SF k x=some y) (hx:TVR w G x v):TVR w G (AeM k y) v:=by
 cases k with
 | v s=>exact Aen h hx
 | p s=>
  cases x<;>first|(simp[SF] at h;done)|skip
  rename_i ds off;cases off with
  | succ n=>simp[SF] at h
  | zero=>
   obtain⟨g,r,e,fr,q1,q2,q3,q4⟩:=hx;exact⟨g,r,e,fr,q1,q2,q3,V3 h q4⟩
 | c g ss=>
  cases x<;>first|(simp[SF] at h;done)|skip
  rename_i g' cs;simp only[SF] at h;cases hg:(g==g') with
  | false=>simp[hg] at h
  | true=>
   simp only[hg,aX] at h;have hg':g=g':=by simpa using hg
   subst hg';obtain⟨k1,k2⟩:=YK (w:=w) (G:=G) h;obtain⟨vs,rfl,hs,hc⟩:=hx;refine⟨vs,rfl,by rw[hs,k1],λj c hj=>?_⟩;grind
 | u=>
  cases x<;>first|(simp[SF] at h;done)|skip
  exact hx
def Kt {w:World} {G:Gh}:∀ {ss:List Ak} {xs:List TV} {ys:As ss},Oj ss xs=some ys->(D3 ss ys).length=xs.length/\∀ (j:Nat) (y:TV),(D3 ss ys)[j]? = some y->∃ x,xs[j]? = some x/\∀ v,TVR w G x v->TVR w G y v:=by
 intro ss
 induction ss with
 | nil=>
  intro xs ys h;cases xs with
  | nil=>simp[D3]
  | cons x xs=>simp[Oj] at h
 | cons s ss ih=>
  intro xs ys h;cases xs with
  | nil=>simp[Oj] at h
  | cons x xs=>
   simp only[Oj] at h;split at h
   .rename_i y ys' h1 h2;simp only[R_] at h;subst h;obtain⟨k1,k2⟩:=ih h2;refine⟨by simp[D3,k1],λj y' hj=>?_⟩;cases j with
    | zero=>simp only[D3,List.getElem?_cons_zero,R_] at hj;subst hj;exact⟨x,rfl,λv hv=>Xl h1 hv⟩
    | succ j=>simpa [D3] using k2 j y' (by simpa [D3] using hj)
   .cases h
def Fct.spec_ok {S:Fct} {P:Program} {f:Nat} (h:S.ok P f):L1 P f S.spec:=by
 intro A c hc hp;unfold Fct.spec at hc;split at hc
 .rename_i hb hh;split at hc
  .rename_i x hx;simp only[R_] at hc;subst hc;have hpre:S.pre x:=hp _ (eF _);intro w vs G hB hA;refine(h x hpre w vs G hB ⟨?_,?_,by simp[Fct.arg,look],by simp[Fct.arg,look],hA.lt,hA.cr⟩).mono ?_
   .rw[hA.sz];exact(Kt (w:=w) (G:=G) hx).1.symm
   .intro j y hj;obtain⟨x',hx',hr⟩:=(Kt (w:=w) (G:=G) hx).2 j y hj;obtain⟨v,hv,ht⟩:=hA.tm j x' hx';simp_all
   .rintro e w' ⟨v,p,hs,hrest⟩;exact⟨v,p,hs,hrest⟩
  .cases hc
 .cases hc
abbrev vi (n:Int):FC:=.val (.int .i64 n)
abbrev vb (b:Bool):FC:=.val (.bool b)
abbrev vs (s:ByteArray):FC:=.val (.string s)
def Ahn (g:D.Spec):Option (List Md×D.Spec)->D.Spec
 | some ([],g0)=>λA=>match g A with
  | some c=>some c
  | none=>g0 A
 | _=>g
def Env.add (E:Env) (f:Nat) (S:Fct):Env:=E.ext f [] (Ahn S.spec (E.fn f))
def EOk.add {P:Program} {E:Env} (h:EOk P E) {f:Nat} {S:Fct} (hS:S.ok P f):EOk P (E.add f S):=by
 refine h.ext ?_ (λhn=>by cases hn);have hS':=Fct.spec_ok hS;refine(?_:L1 P f _);unfold Ahn;split
 .rename_i g0 hg0;intro A c hc;dsimp only at hc;split at hc
  .rename_i c' hc';simp only[R_] at hc;subst hc;exact hS' A c' hc'
  .exact(h f [] g0 hg0).1 A c hc
 .exact hS'
structure HoldsE (e:Out) (Q:Post):Prop where
 h:e.holds Q
def Fct.of {S:Fct} {P:Program} {E:Env} {L:As S.as->W6} {kp:List Nat} {f:Nat} {fn:Func} (hE:EOk P E) (hf:P.funcs[f]? = some fn) (hb:fn.body.isSome=true) (hn:decide (S.as.length<=fn.ntmps)=true)
 (hh:∀ x,S.pre x->HoldsE (J5 P E (L x) kp [] fn (S.arg x)) (S.ctr x).post):S.ok P f:=by
 intro x hx;refine JR hE hf hb ?_ (hh x hx).h;have hl:∀ (ss:List Ak) (x:As ss),(D3 ss x).length=ss.length:=by
  intro ss
  induction ss with
  | nil=>intro _;rfl
  | cons s ss ih=>intro x;simp[D3,ih]
 have:(S.arg x).tm.length=S.as.length:=hl _ _;rw[this];exact hn
def UH (c:FC):Sb c c:=by
 cases c with
 | val u=>rfl
 | nl=>trivial
 | l t xs=>simp[Sb]
def GK:∀ cs:List FC,LA cs cs
 | []=>trivial
 | c::cs=>⟨UH c,GK cs⟩
def N9:∀ ps:List (Bool×List FC),Wo ps ps
 | []=>trivial
 | p::ps=>⟨⟨rfl,GK _⟩,N9 ps⟩
def GJ:∀ r:Res,KJ r r
 | .one _ cs=>⟨rfl,GK cs⟩
 | .tup ps=>N9 ps
def Fct.leafY {S:Fct} {x:As S.as} {y:Ts S.rs} (h:y=S.fn x):(Out.leaf (mkR S.rs y) [] []).holds (S.ctr x).post:=by
 subst h;exact⟨GJ _,trivial,rfl⟩
def Fct.leafR {S:Fct} {x:As S.as} {r:Res} (h:KJ r (mkR S.rs (S.fn x))):(Out.leaf r [] []).holds (S.ctr x).post:=⟨h,trivial,rfl⟩
def Fct.leafZ {S:Fct} {x:As S.as} {r:Res} (y:Ts S.rs) (h1:KJ r (mkR S.rs y)) (h:y=S.fn x):(Out.leaf r [] []).holds (S.ctr x).post:=Fct.leafR (h▸h1)
def Ad {Q:Post} {p:Prop} {x:Out} (hp:p) (hx:p->x.holds Q):(Out.ob p x).holds Q:=⟨hp,hx hp⟩
def Z {Q:Post} {b:Bool} {x y:Out} (hx:b=true->x.holds Q) (hy:b=false->y.holds Q):(Out.br b x y).holds Q:=⟨hx,hy⟩
def HT {Q:Post} {X:Type} {p:Prop} {inv:X->Prop} {x:X->Out} (hp:p) (hx:∀ y,inv y->(x y).holds Q):(Out.lp X p inv x).holds Q:=⟨hp,hx⟩
def K6 {Q:Post} {X:Type} {e:X} {x:X->Out} (hx:(x e).holds Q):(Out.lt X e x).holds Q:=hx
def TF {Q:Post} {X:Type} {e:X} {x:X->Out} (hx:∀ y,y=e->(x y).holds Q):(Out.lt X e x).holds Q:=hx e rfl
def Ay {Q:Post} {li:LInv} {x0:Xs li.ps} {f:Xs li.ps->(Xs li.ps->Prop)->Out} (hp:li.inv x0 x0) (hx:∀ y,li.inv x0 y->(f y λx'=>li.inv x0 x'/\li.m x'<li.m y).holds Q):(lpx li x0 f).holds Q:=⟨hp,hx⟩
def Out.cl (S:Fct) (x:As S.as) (k:Ts S.rs->Out):Out:=.ob (S.pre x) (.lt (Ts S.rs) (S.fn x) k)
def Ai {Q:Post} {S:Fct} {x:As S.as} {k:Ts S.rs->Out} (hp:S.pre x) (hx:S.pre x->(k (S.fn x)).holds Q):(Out.cl S x k).holds Q:=⟨hp,hx hp⟩
def Cs {Q:Post} {S:Fct} {x:As S.as} {k:Ts S.rs->Out} (hp:S.pre x) (hx:S.pre x->∀ y,y=S.fn x->(k y).holds Q):(Out.cl S x k).holds Q:=⟨hp,hx hp _ rfl⟩
def Out.lf (S:Fct) (y:Ts S.rs):Out:=.leaf (mkR S.rs y) [] []
def Y {S:Fct} {x:As S.as} {y:Ts S.rs} (h:y=S.fn x):(Out.lf S y).holds (S.ctr x).post:=Fct.leafY h
def wr (x:Int):Int:=IntKind.i64.wrap x
def w1 (x:Int):Int:=IntKind.i64.wrap (x+1)
def inB (i:Int) (n:Nat):Prop:=0<=i/\i<n
def ho {e:Out} {Q:Post} (X:Out) (hX:X.holds Q) (h:e=X:=by kernel_rfl):HoldsE e Q:=⟨h▸hX⟩
def Fct.o {S:Fct} {P:Program} {E:Env} {f:Nat} {fn:Func} (kp:List Nat) (hE:EOk P E) (hf:P.funcs[f]? = some fn)
 (hh:∀ x,S.pre x->HoldsE (J5 P E (λ_=>none) kp [] fn (S.arg x)) (S.ctr x).post) (hc:(fn.body.isSome&&decide (S.as.length<=fn.ntmps))=true:=by kernel_rfl):S.ok P f:=by
 rw[T_] at hc;exact Fct.of (L:=λ_ _=>none) hE hf hc.1 hc.2 hh
end Go.D
namespace Go.D
open Go.RowKit Go.ChangeShapes Go.WideShapes
def JH:Nat->FC->Prop
 | _,.val (.int k n)=>(Lit.int k n).wf=true
 | _,.val (.string s)=>s.size<=maxLen
 | 0,.l _ xs=>xs.length<=maxLen
 | d+1,.l t xs=>xs.length<=maxLen/\∀ x∈xs,∀ c∈enc t x,JH d c
 | _,_=>True
def good (t:Ty) (x:El t):Prop:=∀ c∈enc t x,JH 8 c
def Sh.good (s:Sh) (x:s.X):Prop:=∀ c∈s.fc x,JH 8 c
abbrev Ls (ss:List Sh):List Ak:=ss.map .v
def goods:(ss:List Sh)->As (Ls ss)->Prop
 | [],_=>True
 | s::ss,x=>s.good x.1/\goods ss x.2
def Ym:∀ (d:Nat) (c:FC),JH (d+1) c->JH d c:=by
 intro d
 induction d with
 | zero=>
  intro c h;cases c with
  | val v=>cases v<;>exact h
  | nl=>trivial
  | l t xs=>exact h.1
 | succ d ih=>
  intro c h;cases c with
  | val v=>cases v<;>exact h
  | nl=>trivial
  | l t xs=>exact⟨h.1,λx hx c hc=>ih c (h.2 x hx c hc)⟩
def Ago {d e:Nat} (hde:d<=e) {c:FC} (h:JH e c):JH d c:=by
 induction e with
 | zero=>
  simp_all
 | succ e ih=>
  by_cases hd:d=e+1
  .subst hd;exact h
  .exact ih O (Ym e c h)
def Kj (P:Program) (r:TypeId->Option (List Shp)):List Field->Nat->Option (List Shp)
 | [],_=>some []
 | f::fs,off=>match r f.type,Kj P r fs (off+P.cellsOf f.type) with
  | some s,some s'=>bif f.offset==off&&s.length==P.cellsOf f.type then some (s++s') else none
  | _,_=>none
def shapeOf (P:Program) (ty:TypeId->Option Ty):Nat->TypeId->Option (List Shp)
 | 0,_=>none
 | d+1,T=>match P.underlying T with
  | some .bool=>some [.kb]
  | some (.int .i64)=>some [.ki]
  | some (.int .u8)=>some [.ku]
  | some .string=>some [.ks]
  | some (.slice e)=>match ty e with
   | some t=>some [.kl t]
   | none=>none
  | some (.struct fs)=>match Kj P (shapeOf P ty d) fs.toList 0 with
   | some s=>bif s.length==P.cellsOf T then some s else none
   | none=>none
  | _=>none
def Om:List Shp->List Shp->Bool
 | [],[]=>true
 | a::as,b::bs=>decide (a=b)&&Om as bs
 | _,_=>false
def Ano (P:Program) (ty:TypeId->Option Ty) (l:List TypeId):Bool :=
 l.all λe=>match ty e with
  | some t=>(match shapeOf P ty 20 e with
   | some s=>Om s t.shapes
   | none=>false)&&P.cellsOf e==t.width
  | none=>false
def SG:∀ {a b:List Shp},Om a b=true->a=b:=by
 intro a
 induction a with
 | nil=>intro b h;cases b<;>simp_all [Om]
 | cons x a ih=>intro b h;cases b with
  | nil=>simp[Om] at h
  | cons y b=>simp only[Om,T_,az] at h;rw[h.1,ih h.2]
def UZ {α:Type} [Inhabited α] {p:Nat->α->Prop}:∀ {n:Nat},(∀ i,i<n->∃ y,p i y)->∃ l:List α,l.length=n/\∀ i,i<n->p i (l.getD i default):=by
 intro n
 induction n with
 | zero=>intro _;exact⟨[],rfl,λi h=>O⟩
 | succ n ih=>
  intro h;obtain⟨l,h1,h2⟩:=ih λi hi=>h i O
  obtain⟨y,hy⟩:=h n O;refine⟨l++[y],by simp[h1],λi hi=>?_⟩;grind
section
variable {H:Type} {enc':TypeId×Value->H} {P:Program} {w:World} {ty:TypeId->Option Ty} {spare:Nat->Bool} {held:Bool}
def inW (w:World):Nat->Prop:=λg=>g<w.heap.size
def Told (w:World) (cs:List Value) (sh:List Shp):Prop:=∃ fs:List FC,fs.length=cs.length/\fs.map FC.shp=sh/\(∀ (j:Nat) (c:FC) (u:Value),fs[j]? = some c->cs[j]? = some u->TR w (inW w) (fcC c) u)/\∀ c∈fs,JH 8 c
def Mt {u:Value} {S:Nat->Prop} (h:plain u=true):TR w S (.val u) u:=⟨rfl,h⟩
def IG {c:FC} {u:Value} (h:TR w (inW w) (fcC c) u) (hg:JH 8 c):Told w [u] [c.shp]:=by
 refine⟨[c],rfl,rfl,λj c' u' hc hu=>?_,λc' hc=>by simp at hc;subst hc;exact hg⟩;grind
def Aah {a:Addr} {n:Nat} {cs:List Value} (h:w.cells? 0 a n=some cs):cs.length=n/\∀ j,j<n->w.cell? (a.add j)=cs[j]?:=by
 unfold World.cells? at h;rw[G_ (Nat.zero_le _)] at h;refine⟨by simpa using mapM_some_length h,λj hj=>?_⟩;exact mapM_some_get h j j (by simp[hj])
def Akp {a:Addr} {u:Value} (h:w.cell? a=some u):∃ g o row e fr,a=⟨g,o,none⟩/\w.heap[g]? = some (.cells row e fr)/\row[o]? = some u:=by
 unfold World.cell? at h;split at h
 .rename_i c t fr hb;split at h
  .cases h
  .rename_i hs;obtain⟨g,o,sp⟩:=a;simp only[Option.isSome_iff_ne_none,ne_eq,Decidable.not_not] at hs;grind
 .cases h
def Abl (c:FC) (h:JH 8 c) (d:Nat) (hd:d<=8):JH d c:=Ago hd h
def Jc {t:Ty} {x:El t} {c:FC} (hc:c∈enc t x):c.rank<=t.rank:=by
 have:=Wl t x;simp_all
def Afq:∀ (d:Nat) (c:FC),c.rank<=d->JH d c->JH (d+1) c:=by
 intro d
 induction d with
 | zero=>
  intro c hr h;cases c with
  | val v=>cases v<;>exact h
  | nl=>trivial
  | l t xs=>simp[FC.rank] at hr
 | succ d ih=>
  intro c hr h;cases c with
  | val v=>cases v<;>exact h
  | nl=>trivial
  | l t xs=>
   simp only[FC.rank] at hr;exact⟨h.1,λx hx c hc=>ih c (by have:=Jc hc;omega) (h.2 x hx c hc)⟩
def AaN (hty:∀ e t,ty e=some t->shapeOf P ty 20 e=some t.shapes/\P.cellsOf e=t.width):∀ (fuel:Nat) (T:TypeId) (cs:List Value) (x:DataW H×List MemPlace) (d:Nat) (sh:List Shp),
 DataW.trod enc' P w 0 spare held fuel T cs=some x->shapeOf P ty d T=some sh->Told w cs sh:=by
 intro fuel
 induction fuel with
 | zero=>intro T cs x d sh h;simp[DataW.trod] at h
 | succ n ih=>
  intro T cs x d sh h hs;cases d with
  | zero=>simp[shapeOf] at hs
  | succ d=>
   unfold shapeOf at hs;split at hs
   .rename_i hu;simp only[R_] at hs;subst hs;obtain⟨b,rfl,_⟩:=DataW.trod_bool hu h;exact IG (c:=.val (.bool b)) (Mt rfl) trivial
   .rename_i hu;simp only[R_] at hs;subst hs;obtain⟨m,rfl,_,hw⟩:=DataW.trod_int hu h;exact IG (c:=.val (.int .i64 m)) (Mt rfl) hw
   .rename_i hu;simp only[R_] at hs;subst hs;obtain⟨m,rfl,_,hw⟩:=DataW.trod_int hu h;exact IG (c:=.val (.int .u8 m)) (Mt rfl) hw
   .rename_i hu;simp only[R_] at hs;subst hs;obtain⟨s,rfl,_,hw⟩:=DataW.trod_string hu h;exact IG (c:=.val (.string s)) (Mt rfl) hw
   .rename_i e hu;split at hs
    .rename_i t ht;simp only[R_] at hs;subst hs;obtain⟨hsh,hcw⟩:=hty e t ht;rcases DataW.trod_slice hu h with⟨rfl,_⟩|⟨a,len,cap,elems,rest,n',hn,rfl,_,_,hlc,hcm,hlen,hel,_,_⟩
     .refine IG (c:=.l t []) ?_ ⟨Nat.zero_le _,by simp⟩;rw[Eb];exact⟨none,0,rfl,X_ _,.inl rfl⟩
     .have hn':n=n':=O
      subst hn';have each:∀ i,i<len->∃ y:El t,(∀ j,j<t.width->∃ u,w.cell? ((a.add (i*t.width)).add j)=some u/\TR w (inW w) (fcC ((D.enc t y).getD j .nl)) u)/\∀ c∈D.enc t y,JH 8 c:=by
       intro i hi;have h1:=hel i hi;rw[hcw] at h1;have hlt:i<elems.length:=O
       rw[aH hlt,Option.bind_eq_some_iff] at h1;obtain⟨cs',hcs,htr⟩:=h1;obtain⟨fs,f1,f2,f3,f4⟩:=ih e cs' _ 20 t.shapes htr hsh;obtain⟨y,rfl⟩:=Tv t fs f2;obtain⟨c1,c2⟩:=Aah hcs;refine⟨y,λj hj=>?_,f4⟩;have hj':j<cs'.length:=O
       refine⟨cs'[j],by rw[c2 j hj];simp[hj'],?_⟩;have hje:j<(D.enc t y).length:=by rw[KI];exact hj
       rw[bB,aH hje,Option.getD_some];exact f3 j _ _ (aH hje) (aH hj')
      obtain⟨xs,x1,x2⟩:=UZ each;refine IG (c:=.l t xs) ?_ ⟨O,λy hy c hc=>?_⟩
      .rw[Eb,x1];refine⟨some a,cap,rfl,hlc,?_⟩;by_cases h0:len=0
       .exact .inl h0
       .right;obtain⟨u,hu1,_⟩:=(x2 0 O).1 0 (Fk t);have ha:(a.add (0*t.width)).add 0=a:=by simp[Addr.add]
        rw[ha] at hu1;obtain⟨g,o,row,te,fr,rfl,hg,_⟩:=Akp hu1;refine⟨g,o,row,te,fr,rfl,(Array.getElem?_eq_some_iff.1 hg).1,hg,λi hi j hj=>?_⟩;obtain⟨u,hu1,hu2⟩:=(x2 i hi).1 j hj;rw[FD,FD] at hu1;refine⟨u,?_,?_⟩
        .unfold World.cell? at hu1;rw[hg] at hu1;simpa using hu1
        .simpa [cell] using hu2
      .obtain⟨i,hi⟩:=List.mem_iff_getElem?.1 hy;have hilt:i<len:=by rw[<-x1];exact(List.getElem?_eq_some_iff.1 hi).1
       have:=(x2 i hilt).2;have hxi:xs.getD i default=y:=by simp[List.getD,hi]
       rw[hxi] at this;exact Abl c (this c hc) 7 O
    .cases hs
   .rename_i fs hu;split at hs
    .rename_i s hsf;cases hl:(s.length==P.cellsOf T) with
     | false=>simp[hl] at hs
     | true=>
      simp only[hl,aX,R_] at hs;subst hs;obtain⟨xs,n',hn,_,hcl,hxl,hfld⟩:=DataW.trod_struct hu h;have hn':n=n':=O
      subst hn';have key:∀ (l:List Field) (i0 off:Nat) (s:List Shp),(∀ (i:Nat) (f:Field),l[i]? = some f->fs[i0+i]? = some f)->Kj P (shapeOf P ty d) l off=some s->off+s.length<=cs.length->Told w ((cs.drop off).take s.length) s:=by
       intro l
       induction l with
       | nil=>
        intro i0 off s _ hs _;simp only[Kj,R_] at hs;subst hs;exact⟨[],by simp,rfl,by simp,by simp⟩
       | cons f l ihl=>
        intro i0 off s hget hs hoff;simp only[Kj] at hs;split at hs
        .rename_i s1 s2 h1 h2;cases hc:(f.offset==off&&s1.length==P.cellsOf f.type) with
         | false=>simp[hc] at hs
         | true=>
          simp only[hc,aX,R_] at hs;subst hs;simp only[T_,da] at hc;obtain⟨ho,hsz⟩:=hc;have hf:=hfld i0 f (by simpa using hget 0 f rfl);have hi0:i0<xs.length:=by rw[hxl];exact(Array.getElem?_eq_some_iff.1 (by simpa using hget 0 f rfl)).1
          rw[aH hi0,ho,<-hsz] at hf;obtain⟨fa,a1,a2,a3,a4⟩:=ih f.type _ _ d s1 hf h1;simp only[al] at hoff;obtain⟨fb,b1,b2,b3,b4⟩:=ihl (i0+1) (off+P.cellsOf f.type) s2 (λi f' hi=>by
           have:=hget (i+1) f' (by simpa using hi)
           rwa [show i0+(i+1)=i0+1+i from O] at this) h2 O
          rw[<-hsz] at b1 b3;have hsplit:(cs.drop off).take (s1++s2).length=(cs.drop off).take s1.length++(cs.drop (off+s1.length)).take s2.length:=by rw[al,List.take_add,List.drop_drop]
          rw[hsplit];refine⟨fa++fb,by simp only[al,a1,b1],by rw[fu,a2,b2],λj c u hc hu=>?_,λc hc=>?_⟩
          .by_cases hj:j<fa.length
           .rw[cN hj] at hc;rw[cN (by rw[<-a1];exact hj)] at hu;exact a3 j c u hc hu
           .rw[cX O] at hc;rw[cX (by rw[<-a1];omega),<-a1] at hu;exact b3 _ c u hc hu
          .rcases ah.1 hc with hc|hc
           .exact a4 c hc
           .exact b4 c hc
        .cases hs
      have hlen:s.length=cs.length:=by rw[hcl];simpa using hl
      have:=key fs.toList 0 0 s (λi f hi=>by simpa using hi) hsf O;rw[hlen] at this;simpa using this
    .cases hs
   .cases hs
end
end Go.D
namespace Go.D
open Go.RowKit Go.ChangeShapes Go.WideShapes
def Sh.shapes:Sh->List Shp
 | .el t=>t.shapes
 | .sl t=>[.kl t]
def Sh.of_shape {s:Sh} {fs:List FC} (h:fs.map FC.shp=s.shapes):∃ x:s.X,fs=s.fc x:=by
 cases s with
 | el t=>exact Tv t fs h
 | sl t=>
  obtain⟨a,g,rfl,h2⟩:=sL h;obtain rfl:=sE h2;exact⟨a,rfl⟩
def AlN (as:List Sh):Fct:=⟨Ls as,[.el .bool],λx=>goods as x,λ_=>(true,())⟩
def OD (P:Program) (ty:TypeId->Option Ty):List TypeId->List Sh->Bool
 | [],[]=>true
 | T::ts,s::ss=>(match shapeOf P ty 20 T with
  | some sh=>Om sh s.shapes
  | none=>false)&&(Fy.aggOf P T==s.agg)&&(match P.underlying T with
  | some .bool=>true
  | some (.int _)=>true
  | some .string=>true
  | some (.slice _)=>true
  | some (.struct _)=>true
  | _=>false)&&OD P ty ts ss
 | _,_=>false
section
variable {H:Type} {enc':TypeId×Value->H} {P:Program} {w W W':World} {ty:TypeId->Option Ty} {spare:Nat->Bool} {held:Bool} {base:Nat}
def Q0 {T:TypeId} {cs:Array Value} {d:TypeDesc} (hu:P.underlying T=some d) (hd:d=.bool\/(∃ k,d=.int k)\/d=.string\/∃ e,d=.slice e) (h:Value.okWide P w .any base T (.agg cs)):False:=by
 unfold Value.okWide at h;rw[hu] at h;rcases hd with rfl|⟨k,rfl⟩|rfl|⟨e,rfl⟩<;>simp only[Cell.okWide,hu,Cell.ok] at h
def Agu (hty:∀ e t,ty e=some t->shapeOf P ty 20 e=some t.shapes/\P.cellsOf e=t.width) {T:TypeId} {s:Sh} {v:Value} {d:DataW H} {p:List MemPlace} (h:DataW.Trod enc' P w 0 spare held T v d p) (hv:Value.okWide P w .any base T v)
 (hp:OD P ty [T] [s]=true):∃ x:s.X,s.good x/\∀ G:Gh,(∀ g,g<w.heap.size->G.ow g=.free)->TVR w G (PC s x) v:=by
 simp only[OD,T_,da,and_true] at hp;obtain⟨⟨hsh,hag⟩,hkind⟩:=hp;split at hsh
 .rename_i sh hs;have hse:=SG hsh;subst hse;obtain⟨fuel,htr⟩:=h;obtain⟨fs,f1,f2,f3,f4⟩:=AaN hty fuel T _ _ 20 _ htr hs;obtain⟨x,rfl⟩:=Sh.of_shape f2;refine⟨x,f4,λG hG=>?_⟩;have tr:∀ (j:Nat) (c:FC) (u:Value),(s.fc x)[j]? = some c->v.cells.toList[j]? = some u->CellR w G (toCell none c) u:=λj c u hc hu=>
   Hc ((f3 j c u hc hu).frame λg hg _=>⟨rfl,hG g hg⟩)
  have cells:A4 w G ((s.fc x).map (toCell none)) v.cells:=by
   refine⟨by rw[cE,f1,fp],λj c hj=>?_⟩;rw[cz] at hj;cases hq:(s.fc x)[j]? with
   | none=>simp[hq] at hj
   | some fc=>
    simp only[hq,bC,R_] at hj;subst hj;have hlt:j<v.cells.size:=by have:=(List.getElem?_eq_some_iff.1 hq).1;rw[f1,fp] at this;exact this
    exact⟨v.cells[j],by simp[hlt],tr j fc _ hq (by simp[hlt])⟩
  unfold PC;rw[<-hag];split at hkind
  .rename_i hu;have h0:Fy.aggOf P T=false:=by simp[Fy.aggOf,hu]
   rw[h0];have hna:∀ cs,v≠.agg cs:=λcs e=>Q0 hu (.inl rfl) (e▸hv)
   have hvc:v.cells = #[v]:=by cases v<;>first|rfl|exact absurd rfl (hna _)
   obtain⟨c,hc⟩:=ek.1 (show((s.fc x).map (toCell none)).length=1 by rw[<-cells.1,hvc];rfl);obtain⟨u,hu1,hu2⟩:=cells.2 0 c (by rw[hc];rfl);rw[hvc] at hu1;simp only[List.getElem?_toArray,List.getElem?_cons_zero,R_] at hu1;subst hu1;exact⟨c,hc,hu2⟩
  .rename_i k hu;have h0:Fy.aggOf P T=false:=by simp[Fy.aggOf,hu]
   rw[h0];have hna:∀ cs,v≠.agg cs:=λcs e=>Q0 hu (.inr (.inl ⟨k,rfl⟩)) (e▸hv)
   have hvc:v.cells = #[v]:=by cases v<;>first|rfl|exact absurd rfl (hna _)
   obtain⟨c,hc⟩:=ek.1 (show((s.fc x).map (toCell none)).length=1 by rw[<-cells.1,hvc];rfl);obtain⟨u,hu1,hu2⟩:=cells.2 0 c (by rw[hc];rfl);rw[hvc] at hu1;simp only[List.getElem?_toArray,List.getElem?_cons_zero,R_] at hu1;subst hu1;exact⟨c,hc,hu2⟩
  .rename_i hu;have h0:Fy.aggOf P T=false:=by simp[Fy.aggOf,hu]
   rw[h0];have hna:∀ cs,v≠.agg cs:=λcs e=>Q0 hu (.inr (.inr (.inl rfl))) (e▸hv)
   have hvc:v.cells = #[v]:=by cases v<;>first|rfl|exact absurd rfl (hna _)
   obtain⟨c,hc⟩:=ek.1 (show((s.fc x).map (toCell none)).length=1 by rw[<-cells.1,hvc];rfl);obtain⟨u,hu1,hu2⟩:=cells.2 0 c (by rw[hc];rfl);rw[hvc] at hu1;simp only[List.getElem?_toArray,List.getElem?_cons_zero,R_] at hu1;subst hu1;exact⟨c,hc,hu2⟩
  .rename_i e hu;have h0:Fy.aggOf P T=false:=by simp[Fy.aggOf,hu]
   rw[h0];have hna:∀ cs,v≠.agg cs:=λcs e'=>Q0 hu (.inr (.inr (.inr ⟨e,rfl⟩))) (e'▸hv)
   have hvc:v.cells = #[v]:=by cases v<;>first|rfl|exact absurd rfl (hna _)
   obtain⟨c,hc⟩:=ek.1 (show((s.fc x).map (toCell none)).length=1 by rw[<-cells.1,hvc];rfl);obtain⟨u,hu1,hu2⟩:=cells.2 0 c (by rw[hc];rfl);rw[hvc] at hu1;simp only[List.getElem?_toArray,List.getElem?_cons_zero,R_] at hu1;subst hu1;exact⟨c,hc,hu2⟩
  .rename_i fs hu;have h0:Fy.aggOf P T=true:=by simp[Fy.aggOf,hu]
   rw[h0];unfold Value.okWide at hv;rw[hu] at hv;obtain⟨cs,rfl,_⟩:=hv;exact⟨cs,rfl,cells⟩
  .cases hkind
 .cases hsh
def AaP (hty:∀ e t,ty e=some t->shapeOf P ty 20 e=some t.shapes/\P.cellsOf e=t.width):∀ (ts:List TypeId) (ss:List Sh) (vs:List Value) (ds:List (DataW H)) (ps:List MemPlace),OD P ty ts ss=true->DataW.TrodAll enc' P w 0 spare held ts vs ds ps ->
 (∀ (j:Nat) t v,ts[j]? = some t->vs[j]? = some v->Value.okWide P w .any base t v)->∃ x:As (Ls ss),goods ss x/\∀ G:Gh,(∀ g,g<w.heap.size->G.ow g=.free)->(D3 (Ls ss) x).length=vs.length/\∀ (j:Nat) (y:TV),(D3 (Ls ss) x)[j]? = some y->∃ v,vs[j]? = some v/\TVR w G y v:=by
 intro ts
 induction ts with
 | nil=>
  intro ss vs ds ps hp h _;cases ss with
  | nil=>obtain⟨rfl,_,_⟩:=trodAll_nil h;exact⟨(),trivial,λG _=>⟨rfl,λj y hj=>by cases hj⟩⟩
  | cons s ss=>simp[OD] at hp
 | cons T ts ih=>
  intro ss vs ds ps hp h hv;cases ss with
  | nil=>simp[OD] at hp
  | cons s ss=>
   obtain⟨v,vs',d,ds',p,q,rfl,rfl,rfl,h1,h2⟩:=trodAll_cons h;have hp1:OD P ty [T] [s]=true/\OD P ty ts ss=true:=by simp only[OD,T_,and_true] at hp ⊢;exact hp
   obtain⟨x,g1,x1⟩:=Agu (base:=base) hty h1 (hv 0 T v rfl rfl) hp1.1;obtain⟨xs,g2,x2⟩:=ih ss vs' ds' q hp1.2 h2 λj t v ht hv'=>hv (j+1) t v (by simpa using ht) (by simpa using hv');refine⟨(x,xs),⟨g1,g2⟩,λG hG=>?_⟩;obtain⟨l1,l2⟩:=x2 G hG;refine⟨cG (· + 1) l1,λj y hj=>?_⟩;cases j with
   | zero=>have hj':some (PC s x)=some y:=hj;injection hj' with hj';subst hj';exact⟨v,rfl,x1 G hG⟩
   | succ j=>simpa using l2 j y hj
def PJ (hl:laidOutB P=true) (hb:Below W.heap.size W W'):∀ (ts:List TypeId) (vs:List Value) (ds:List (DataW H)) (ps:List MemPlace),(∀ t∈ts,P.readableRec t=true/\t<P.types.size) ->
 (∀ x∈ps,x.block<W.heap.size)->DataW.TrodAll enc' P W 0 (λ_=>true) true ts vs ds ps->DataW.TrodAll enc' P W' 0 (λb=>decide (b<W.heap.size)) true ts vs ds ps:=by
 intro ts
 induction ts with
 | nil=>intro vs ds ps _ _ h;obtain⟨rfl,rfl,rfl⟩:=trodAll_nil h;exact trodAll_mk0
 | cons t ts ih=>
  intro vs ds ps ht hlt h;obtain⟨v,vs',d,ds',p,q,rfl,rfl,rfl,h1,h2⟩:=trodAll_cons h;obtain⟨hr,hrow⟩:=ht t (by simp);exact trodAll_cons_mk (Below.trod hl hr hrow h1 hb λx hx=>hlt x (by simp[hx])) (ih vs' ds' q (λt' h'=>ht t' (by simp[h'])) (λx hx=>hlt x (by simp[hx])) h2)
def T9 {ts:List TypeId} {vs:List Value} {ds:List (DataW H)} {ps:List MemPlace} {spare:Nat->Bool} {base:Nat} {held:Bool} (h:DataW.TrodAll enc' P w base spare held ts vs ds ps):ds.length=ts.length:=by
 induction ts generalizing vs ds ps with
 | nil=>obtain⟨rfl,rfl,rfl⟩:=trodAll_nil h;rfl
 | cons t ts ih=>obtain⟨v,vs',d,ds',p,q,rfl,rfl,rfl,h1,h2⟩:=trodAll_cons h;simp[ih h2]
def Agg {f:Func} {s:ChangeSpec} {T:TypeId} {args:Array Value} {ds gs:List (DataW H)} {before:List MemPlace} (hl:laidOutB P=true) (hts:∀ t∈f.params.toList,P.readableRec t=true/\t<P.types.size)
 (hres:f.resultTypes = #[T]) (hT:P.underlying T=some .bool) (hv:s.vars=[]) (hW:DataW.Whole enc' P f.params.toList s.vars false W args.toList ds gs before)
 (hfn:∀ xs:List (DataW H),xs.length=f.params.toList.length->s.fn H xs={ results:=[.lit (.bool true)],args:=xs }) (hb:Below W.heap.size W W') :
 s.post enc' P f false true false false W args (.bool true) W':=by
 have hW':=hW;have hlt:=hW.lt;obtain⟨p,q,hA,hV,rfl,_,_⟩:=hW;rw[hv] at hV;obtain⟨rfl,rfl⟩:=trodVars_none hV;have hlen:=T9 hA;have hf:=hfn (ds++[]) (by simpa using hlen);refine⟨ds,[],_,[],p,[],hW',?_,?_,?_,hb.frame _,by simp⟩
 .rw[hf,hres];exact trodAll_cons_mk (shut_bool hT true) trodAll_mk0
 .rw[hf];simpa using PJ hl hb _ _ _ _ hts (λx hx=>hlt x (by simp[hx])) hA
 .rw[hf,hv];rfl
def Ajx (P:Program) (f:Func) (ty:TypeId->Option Ty) (tl:List TypeId) (as:List Sh):Bool :=
 laidOutB P&&f.params.toList.all (λt=>P.readableRec t&&decide (t<P.types.size))&&OD P ty f.params.toList as&&Ano P ty tl
def AaT {g:Nat} {f:Func} {s:ChangeSpec} {T:TypeId} {args:Array Value} {ds gs:List (DataW H)} {before:List MemPlace} {as:List Sh} {tl:List TypeId} (hk:Ajx P f ty tl as=true) (htl:∀ e t,ty e=some t->e∈tl)
 (hres:f.resultTypes = #[T]) (hT:P.underlying T=some .bool) (hv:s.vars=[]) (hW:DataW.Whole enc' P f.params.toList s.vars false W args.toList ds gs before)
 (hfn:∀ xs:List (DataW H),xs.length=f.params.toList.length->s.fn H xs={ results:=[.lit (.bool true)],args:=xs })
 (hok:∀ (j:Nat) t v,f.params[j]? = some t->args[j]? = some v->Value.okWide P W .any base t v)
 (hsh:W.ShapedOpen P) (hld:Laid P W) (hc:(AlN as).ok P g):Calls P g args W λe W'=>∃ v,e=.returned v/\s.post enc' P f false true false false W args v W':=by
 unfold Ajx at hk;simp only[T_,aM,az] at hk;obtain⟨⟨⟨k1,k2⟩,k3⟩,k4⟩:=hk;have hty:∀ e t,ty e=some t->shapeOf P ty 20 e=some t.shapes/\P.cellsOf e=t.width:=by
  intro e t he;unfold Ano at k4;rw[aM] at k4;have:=k4 e (htl e t he);rw[he] at this;simp only[T_,da] at this;obtain⟨h1,h2⟩:=this;split at h1
  .rename_i s hs;exact⟨by rw[hs,SG h1],h2⟩
  .cases h1
 have hW0:=hW;obtain⟨p,q,hA,_⟩:=hW0;obtain⟨x,g1,x1⟩:=AaP (base:=base) hty _ as _ _ _ k3 hA (λj t v ht hv'=>hok j t v (by simpa using ht) (by simpa using hv'))
 let G:Gh:={ ow:=λg=>if g<W.heap.size then .free else .gone,be:=λ_=>0,hv:=λ_=>.slice none 0 0 }
 obtain⟨l1,l2⟩:=x1 G (λg hg=>by simp[G,hg]);refine(hc x g1 W args G ⟨W,hsh,hld,λb hb=>⟨hb,by simp[G,hb],rfl⟩⟩ ⟨?_,?_,by simp[Fct.arg,look],by simp[Fct.arg,look],?_,λb hb=>?_⟩).mono ?_
 .rw[<-fp,<-l1];rfl
 .intro j y hj;obtain⟨v,hv',ht⟩:=l2 j y hj;exact⟨v,by simpa using hv',ht⟩
 .intro b hb;by_cases h:b<W.heap.size
  .exact h
  .simp[G,h] at hb
 .by_cases h:b<W.heap.size<;>simp[G,h] at hb
 .rintro e W' ⟨v,p',hs,rfl,ho,hfr,_,Fs,hpf⟩;have hp:p'=_:=hs;subst hp;have hr:=hpf.res;obtain⟨c,hcs,hto,_⟩:=hr;have hcs':[FC.val (.bool true)]=[c]:=hcs;injection hcs' with hcs'
  subst hcs';obtain rfl:v=.bool true:=hto.1;exact⟨_,rfl,Agg k1 k2 hres hT hv hW hfn ⟨ho.os,ho.tape,ho.output.1,ho.size,λb hb=>hfr b (by simp[G,hb])⟩⟩
end
end Go.D
namespace Go.D
def XQ {H:Type} {enc:TypeId×Value->H} {a:Assume} {C:Checked} {os:Os} {f:FuncId} {fn:Func} {s:ChangeSpec} {conds:List PathCond} {apart fresh handsOn again:Bool} {X:World->Array Value->Prop}
 (hX:∀ (w w':World) (args:Array Value),w.heap=w'.heap->X w args->X w' args)
 (own:ownKnob C.prog.godebug=none) (started:os.Started) (noInit:C.prog.inits.idxOf? f=none) (hfn:C.prog.funcs[f]? = some fn)
 (witness:∃ (w:World) (tape:Tape) (i:Input),w.os=os/\(w.forCall tape i).Shaped C.prog/\i.vars=[]/\Input.okWide C.prog (w.forCall tape i) .any w.heap.size f i /\
  ((s.pre enc C.prog fn conds apart (w.forCall tape i).memory i.args/\X (w.forCall tape i).memory i.args)/\sizedMet enc C.prog fn (OpenSpec.ofChange s) apart (w.forCall tape i).memory i.args)/\a.holds C.prog (lone (Frame.enter C.prog f i.args .normal) [] (w.forCall tape i)))
 (contract:∀ (W:World) (base:Nat) (args:Array Value) (ds gs:List (DataW H)) (before:List MemPlace),
  (∀ (j:Nat) t v,fn.params[j]? = some t->args[j]? = some v->Value.okWide C.prog W .any base t v) ->
  DataW.Whole enc C.prog fn.params.toList s.vars apart W args.toList ds gs before->W.ShapedOpen C.prog->X W args ->
  Calls C.prog f args W λe W'=>∃ v,e=.returned v/\s.post enc C.prog fn apart fresh handsOn again W args v W') :
 ReturnsInHanded a C os f .any (λw args=>(s.pre enc C.prog fn conds apart w args/\X w args)/\sizedMet enc C.prog fn (OpenSpec.ofChange s) apart w args) (s.post enc C.prog fn apart fresh handsOn again):=by
 refine returnsInHanded_of_calls own started noInit witness ?_;intro w tape i _ hsh _ hok hpre _;obtain⟨_,_,_,fn',hfn',_,_,_,_,hval⟩:=hok;have e:fn'=fn:=Option.some.inj (hfn'.symm.trans hfn);subst e;obtain⟨⟨⟨ds,gs,before,hw,hc⟩,hx⟩,_⟩:=hpre;have hw':=DataW.Whole.of_heap (w':=w.forCall tape i) (by rfl) hw;refine(contract (w.forCall tape i) w.heap.size i.args ds gs before hval hw' hsh (hX _ _ _ (by rfl) hx)).mono λe W' ⟨v,he,hp⟩=>?_
 subst he;exact ChangeSpec.post_blind hp
end Go.D
namespace Go.D
def ML {P:Program} {w:World}:∀ {laid:List (String×DataW Unit)} {ps:List MemPlace} {i:Nat} {x:String×DataW Unit},DataW.LaidVars P w laid ps->laid[i]? = some x->∃ rest ps',DataW.LaidVars P w (x::rest) ps'
 | [],_,_,_,_,hi=>by simp at hi
 | y::laid,ps,0,x,h,hi=>by
  grind
 | y::laid,ps,i+1,x,h,hi=>by obtain⟨g',t',cs,fuel,p,q,hg',ht',hvar,hd,hr,_⟩:=h;exact ML hr (by simpa using hi)
def Afh {P:Program} {w:World} {laid:List (String×DataW Unit)} {i g n:Nat} {t e:TypeId} (hp:(laid.all λx=>x.2.handleName?.isNone)=true)
 (hi:laid[i]? = some ("internal/strconv.uint64pow10",Lib.tabData .u64 Lib.pow10Tab)) (hg : P.globalNamed "internal/strconv.uint64pow10" = some g) (hty:(P.globals[g]?).map (·.type)=some t) (ht:P.underlying t=some (.array n e))
 (he:P.underlying e=some (.int .u64)) (hce:P.cellsOf e=1) (hct:P.cellsOf t=n) (h2 : (P.globalNamed "strconv.ErrSyntax").isSome=false) (h3 : (P.globalNamed "strconv.ErrRange").isSome=false) (h:laidMetH P laid w):Laid P w:=by
 rw[MakeChecks.laidMetH_plain _ _ _ hp] at h;obtain⟨ps,hl,_⟩:=h;obtain⟨rest,ps',hl⟩:=ML hl hi;obtain⟨g',t',cs,fuel,p,q,hg',ht',hvar,hd,_,_⟩:=hl;obtain rfl:=Option.some.inj (hg.symm.trans hg');obtain rfl:=Option.some.inj (hty.symm.trans ht');refine⟨λ_=>?_,λh=>(by rw[h2] at h;cases h),λh=>(by rw[h3] at h;cases h)⟩;unfold Lib.TabIs;rw[hvar,<-Lib.cells_of_tab ht he hce hct hd]
def Yd {P:Program} (h:P.funcs.any Func.goes=false) (f:FuncId):P.goes f=false:=by
 unfold Program.goes;grind
def RP {P:Program} (h:P.funcs.any Func.goes=false) (func:String):P.goesAt .entering func=false:=by
 unfold Program.goesAt Program.goesFrom;cases P.funcNamed func with
 | none=>rfl
 | some f=>simp[Yd h]
end Go.D
namespace Go.D
structure MS where
 s:Sh
 pre:s.X->Int->Prop
 fn:s.X->Int->s.X×Int
def MS.arg (S:MS) (x:S.s.X) (k:Int):Arg:=⟨[.v S.s.agg (Cm 0 (S.s.fc x)),.v false [.sc (.int .i64 k)]],[],Fa 0 (S.s.fc x)⟩
def MS.pst (S:MS) (x:S.s.X) (k:Int):Pst:=⟨.one false [vi k],Fa 0 (S.s.fc x),[]⟩
def MS.ctr (S:MS) (x:S.s.X) (k:Int):Ctr:=.det [] (S.pst (S.fn x k).1 (S.fn x k).2)
def MS.ok (S:MS) (P:Program) (f:Nat):Prop:=∀ x k,S.pre x k->Con P f (S.arg x k) (S.ctr x k).sat
def H6:Nat->List Cell->Bool
 | _,[]=>true
 | j,.ref l::cs=>l==j&&H6 (j+1) cs
 | _,.nil::_=>false
 | j,_::cs=>H6 (j+1) cs
def AnK (hp:List (Nat×Tree)):St:={ nt:=0,tm:=[],bx:=[],hp:=hp,fb:=[],fl:=[]}
def MS.spec (S:MS):D.Spec:=λA=>match A.tm,A.bx with
 | [.v agg cs,.v false [.sc (.int .i64 k)]],[]=>bif agg==S.s.agg&&H6 0 cs then(match Rk (AnK A.hp) cs with
  | some (ds,_)=>match S.s.dec ds with
   | some x=>some (.df [S.pre x k] (S.s.X×Int) (S.fn x k) λy=>S.pst y.1 y.2)
   | none=>none
  | none=>none) else none
 | _,_=>none
def WA {J:St}:∀ {cs:List Cell} {ds:List FC} {ab:List Nat},Rk J cs=some (ds,ab)->ds.length=cs.length/\∀ (j:Nat) (c:Cell) (d:FC),cs[j]? = some c->ds[j]? = some d ->
 (c=.nil/\d=.nl)\/(∃ l T,c=.ref l/\look J.hp l=some T/\d=.l T.t T.xs)\/∃ v,c.val? = some v/\d=.val v:=by
 intro cs
 induction cs with
 | nil=>intro ds ab h;simp only[Rk,R_,bW] at h;obtain⟨rfl,rfl⟩:=h;simp
 | cons c cs ih=>
  intro ds ab h;simp only[Rk] at h;split at h
  .rename_i ds0 ab0 h0;obtain⟨h1,h2⟩:=ih h0;have go:∀ d,ds=d::ds0->((c=.nil/\d=.nl)\/(∃ l T,c=.ref l/\look J.hp l=some T/\d=.l T.t T.xs)\/∃ v,c.val? = some v/\d=.val v)->ds.length=(c::cs).length/\∀ (j:Nat) (c':Cell) (d:FC),(c::cs)[j]? = some c'->ds[j]? = some d ->
    (c'=.nil/\d=.nl)\/(∃ l T,c'=.ref l/\look J.hp l=some T/\d=.l T.t T.xs)\/∃ v,c'.val? = some v/\d=.val v:=by
    intro d hd hx;subst hd;refine⟨by simp[h1],λj c' d' hc hd'=>?_⟩;cases j with
    | zero=>simp only[List.getElem?_cons_zero,R_] at hc hd';subst hc;subst hd';exact hx
    | succ j=>exact h2 j c' d' (by simpa using hc) (by simpa using hd')
   split at h
   .simp only[R_,bW] at h;exact go _ h.1.symm (.inl ⟨rfl,rfl⟩)
   .rename_i l;split at h
    .rename_i T hT;split at h
     .cases h
     .simp only[R_,bW] at h;exact go _ h.1.symm (.inr (.inl ⟨l,T,rfl,hT,rfl⟩))
    .cases h
   .split at h
    .rename_i v hv;simp only[R_,bW] at h;exact go _ h.1.symm (.inr (.inr ⟨v,hv,rfl⟩))
    .cases h
  .cases h
def Pz:∀ {cs:List Cell} {s:Nat},H6 s cs=true->(∀ (j l:Nat),cs[j]? = some (.ref l)->l=s+j)/\∀ j:Nat,cs[j]?≠some .nil:=by
 intro cs
 induction cs with
 | nil=>intro s _;simp
 | cons c cs ih=>
  intro s h;have tail:H6 (s+1) cs=true:=by cases c<;>simp only[H6,T_,cD] at h<;>first|exact h|exact h.2
  obtain⟨h1,h2⟩:=ih tail;refine⟨λj l hj=>?_,λj hj=>?_⟩
  .cases j with
   | zero=>
    simp only[List.getElem?_cons_zero,R_] at hj;subst hj;simp only[H6,T_,da] at h;omega
   | succ j=>have:=h1 j l (by simpa using hj);omega
  .cases j with
   | zero=>simp only[List.getElem?_cons_zero,R_] at hj;subst hj;simp[H6] at h
   | succ j=>exact h2 j (by simpa using hj)
def FcsLe.eq_of:∀ {cs ds:List FC},FcsLe cs ds->(∀ (j:Nat),cs[j]?≠some .nl)->cs=ds:=by
 intro cs ds h
 induction h with
 | nil=>intro _;rfl
 | cons h1 h2 ih=>
  intro hn;rcases h1 with rfl|⟨rfl,_⟩
  .rw[ih λj hj=>hn (j+1) (by simpa using hj)]
  .exact absurd rfl (hn 0)
def OS:∀ {cs:List FC} {s l:Nat} {T:Tree},look (Fa s cs) l=some T->s<=l/\cs[l-s]? = some (.l T.t T.xs):=by
 intro cs
 induction cs with
 | nil=>intro s l T h;simp[Fa,look] at h
 | cons c cs ih=>
  intro s l T h;have step:look (Fa (s+1) cs) l=some T->s<=l/\(c::cs)[l-s]? = some (.l T.t T.xs):=by grind
  cases c with
  | val v=>exact step h
  | nl=>exact step h
  | l t xs=>
   simp only[Fa,look] at h;split at h
   .grind
   .exact step h
def Sl:∀ {cs:List FC} {s j:Nat} {c:Cell},(Cm s cs)[j]? = some c->∃ d,cs[j]? = some d/\((∃ v,d=.val v/\c=.sc v)\/(d=.nl/\c=.nil)\/∃ t xs,d=.l t xs/\c=.ref (s+j)):=by
 intro cs
 induction cs with
 | nil=>intro s j c h;simp[Cm] at h
 | cons d cs ih=>
  intro s j c h;cases j with
  | zero=>
   cases d<;>simp only[Cm,List.getElem?_cons_zero,R_] at h<;>subst h
   .simp
   .simp
   .simp
  | succ j=>
   have h':(Cm (s+1) cs)[j]? = some c:=by cases d<;>simpa [Cm] using h
   grind
def MS.spec_ok {S:MS} {P:Program} {f:Nat} (h:S.ok P f):L1 P f S.spec:=by
 intro A c hc hp;unfold MS.spec at hc;split at hc
 .rename_i agg cs k htm hbx;cases hcd:(agg==S.s.agg&&H6 0 cs) with
  | false=>simp[hcd] at hc
  | true=>
   simp only[hcd,aX] at hc;simp only[T_,da] at hcd;obtain⟨rfl,hrefs⟩:=hcd;split at hc
   .rename_i ds ab hl;split at hc
    .rename_i x hx;simp only[R_] at hc;subst hc;have hpre:S.pre x k:=hp _ (eF _);obtain⟨l1,l2⟩:=WA hl;obtain⟨r1,r2⟩:=Pz hrefs;have hds:ds=S.s.fc x:=by
      refine(Sh.dec_ok hx).eq_of λj hj=>?_
      have hlt:j<cs.length:=by rw[<-l1];exact(List.getElem?_eq_some_iff.1 hj).1
      rcases l2 j _ _ (aH hlt) hj with⟨e,_⟩|⟨_,_,_,_,e⟩|⟨_,_,e⟩
      .exact r2 j (by rw[aH hlt,e])
      .cases e
      .cases e
     subst hds;intro w vs G hB hA;refine(h x k hpre w vs G hB ⟨?_,?_,by simp[MS.arg,look],?_,hA.lt,hA.cr⟩).mono ?_
     .rw[hA.sz,htm];rfl
     .intro j y hj;cases j with
      | zero=>
       simp only[MS.arg,List.getElem?_cons_zero,R_] at hj;subst hj;obtain⟨v,hv,ht⟩:=hA.tm 0 (.v S.s.agg cs) (by rw[htm];rfl);refine⟨v,hv,Gy (cs:=cs) (by rw[F4,l1]) (λj d hd=>?_) ht⟩;obtain⟨fc,hfc,hcase⟩:=Sl hd;have hlt:j<cs.length:=by rw[<-l1];exact(List.getElem?_eq_some_iff.1 hfc).1
       refine⟨cs[j],aH hlt,λu hu=>?_⟩;have hrel:=l2 j _ _ (aH hlt) hfc;rcases hcase with⟨v',rfl,rfl⟩|⟨rfl,rfl⟩|⟨t,xs,rfl,rfl⟩
       .rcases hrel with⟨_,e⟩|⟨_,_,_,_,e⟩|⟨v'',hv'',e⟩
        .cases e
        .cases e
        .injection e with e;subst e;exact Cell.val_ok hu hv''
       .rcases hrel with⟨e,_⟩|⟨_,_,_,_,e⟩|⟨_,_,e⟩
        .exact absurd (by rw[aH hlt,e]) (r2 j)
        .cases e
        .cases e
       .rcases hrel with⟨_,e⟩|⟨l,T,e1,_,_⟩|⟨_,_,e⟩
        .cases e
        .have hl':=r1 j l (by rw[aH hlt,e1]);rw[e1] at hu;subst hl';exact hu
        .cases e
      | succ j=>
       obtain⟨v,hv,ht⟩:=hA.tm (j+1) y (by rw[htm];exact hj);exact⟨v,hv,ht⟩
     .intro l T hl';obtain⟨_,hfc⟩:=OS hl';rw[Nat.sub_zero] at hfc;have hlt:l<cs.length:=by rw[<-l1];exact(List.getElem?_eq_some_iff.1 hfc).1
      rcases l2 l _ _ (aH hlt) hfc with⟨_,e⟩|⟨l',T',e1,e2,e3⟩|⟨_,_,e⟩
      .cases e
      .have hl2:=r1 l l' (by rw[aH hlt,e1]);rw[cM] at hl2;subst hl2;obtain⟨t1,x1⟩:=T;obtain⟨t2,x2⟩:=T';injection e3 with e4 e5
       subst e4;have e5:=eq_of_heq e5;subst e5;exact hA.hp l' _ e2
      .cases e
     .rintro e w' ⟨v,p,hs,hrest⟩;exact⟨v,p,hs,hrest⟩
    .cases hc
   .cases hc
 .cases hc
def MS.of {S:MS} {P:Program} {E:Env} {L:S.s.X->Int->W6} {kp kl:List Nat} {f:Nat} {fn:Func} (hE:EOk P E) (hf:P.funcs[f]? = some fn) (hb:fn.body.isSome=true) (hn:decide (2<=fn.ntmps)=true)
 (hh:∀ x k,S.pre x k->HoldsE (J5 P E (L x k) kp kl fn (S.arg x k)) (S.ctr x k).post):S.ok P f:=by
 intro x k hx;exact JR hE hf hb hn (hh x k hx).h
def MS.leaf {S:MS} {x:S.s.X} {k:Int} {r:Res} {bx:List (Nat×List FC)} {hp:List (Nat×Tree)} (h:GU ⟨r,hp,bx⟩ (S.pst (S.fn x k).1 (S.fn x k).2)):(Out.leaf r bx hp).holds (S.ctr x k).post:=h
end Go.D
namespace Go.D
inductive Gk where
 | l (a:Ak)
 | b (s:Sh)
 | k (s:Sh)
 | g (s:Sh)
 | i (m:Nat) (s:Sh)
abbrev Gk.X:Gk->Type
 | .l a=>a.X
 | .b s=>s.X
 | .k s=>s.X
 | .g s=>s.X
 | .i _ s=>s.X
abbrev Gs:List Gk->Type
 | []=>Unit
 | k::ks=>k.X×Gs ks
abbrev Ys:List Gk->Type
 | []=>Unit
 | .l _::ks=>Ys ks
 | .b s::ks=>s.X×Ys ks
 | .k s::ks=>s.X×Ys ks
 | .g _::ks=>Ys ks
 | .i _ _::ks=>Ys ks
def ZG:Nat->(ks:List Gk)->Gs ks->List TV
 | _,[],_=>[]
 | j,.l a::ks,x=>AeM a x.1::ZG (j+1) ks x.2
 | j,.b _::ks,x=>.ptr j 0::ZG (j+1) ks x.2
 | j,.k s::ks,x=>.v s.agg (Cm (64*j) (s.fc x.1))::ZG (j+1) ks x.2
 | j,.g s::ks,x=>.v s.agg (Cm (64*j) (s.fc x.1))::ZG (j+1) ks x.2
 | j,.i m s::ks,x=>.v s.agg ((s.fc x.1).map (toCell (some m)))::ZG (j+1) ks x.2
def Aey:Nat->(ks:List Gk)->Gs ks->List (Nat×List Cell)
 | _,[],_=>[]
 | j,.l _::ks,x=>Aey (j+1) ks x.2
 | j,.b s::ks,x=>(j,Cm (64*j) (s.fc x.1))::Aey (j+1) ks x.2
 | j,.k _::ks,x=>Aey (j+1) ks x.2
 | j,.g _::ks,x=>Aey (j+1) ks x.2
 | j,.i _ _::ks,x=>Aey (j+1) ks x.2
def AeY:Nat->(ks:List Gk)->Gs ks->List (Nat×Tree)
 | _,[],_=>[]
 | j,.l _::ks,x=>AeY (j+1) ks x.2
 | j,.b s::ks,x=>Fa (64*j) (s.fc x.1)++AeY (j+1) ks x.2
 | j,.k s::ks,x=>Fa (64*j) (s.fc x.1)++AeY (j+1) ks x.2
 | j,.g s::ks,x=>Fa (64*j) (s.fc x.1)++AeY (j+1) ks x.2
 | j,.i _ _::ks,x=>AeY (j+1) ks x.2
def AeQ:Nat->(ks:List Gk)->Ys ks->List (Nat×Tree)
 | _,[],_=>[]
 | j,.l _::ks,y=>AeQ (j+1) ks y
 | j,.b _::ks,y=>AeQ (j+1) ks y.2
 | j,.k s::ks,y=>Fa (64*j) (s.fc y.1)++AeQ (j+1) ks y.2
 | j,.g _::ks,y=>AeQ (j+1) ks y
 | j,.i _ _::ks,y=>AeQ (j+1) ks y
def ZI:Nat->(ks:List Gk)->Ys ks->List (Nat×List FC)
 | _,[],_=>[]
 | j,.l _::ks,y=>ZI (j+1) ks y
 | j,.b s::ks,y=>(j,s.fc y.1)::ZI (j+1) ks y.2
 | j,.k _::ks,y=>ZI (j+1) ks y.2
 | j,.g _::ks,y=>ZI (j+1) ks y
 | j,.i _ _::ks,y=>ZI (j+1) ks y
structure GS where
 as:List Gk
 rs:List Sh
 pre:Gs as->Prop
 fn:Gs as->Ts rs×Ys as
def Gk.md:Gk->Md
 | .l _=>.lend
 | .b _=>.box
 | .k _=>.keep
 | .g _=>.give
 | .i _ _=>.lend
def GS.ms (S:GS):List Md:=S.as.map (·.md)
def GS.arg (S:GS) (x:Gs S.as):Arg:=⟨ZG 0 S.as x,Aey 0 S.as x,AeY 0 S.as x⟩
def klOf:Nat->List Gk->List Nat
 | _,[]=>[]
 | j,.k _::ks=>64*j::klOf (j+1) ks
 | j,_::ks=>klOf (j+1) ks
def GS.kl (S:GS):List Nat:=klOf 0 S.as
def GS.pst (S:GS) (y:Ts S.rs×Ys S.as):Pst:=⟨mkR S.rs y.1,AeQ 0 S.as y.2,ZI 0 S.as y.2⟩
def GS.ctr (S:GS) (x:Gs S.as):Ctr:=.det [] (S.pst (S.fn x))
def GS.ok (S:GS) (P:Program) (f:Nat):Prop:=∀ x,S.pre x->Con P f (S.arg x) (S.ctr x).sat
def R6 (hp:List (Nat×Tree)) (s:Sh) (j:Nat) (cs:List Cell):Option s.X:=bif H6 (64*j) cs then(match Rk (AnK hp) cs with
 | some (ds,_)=>s.dec ds
 | none=>none) else none
def WT (m:Nat):Cell->Option Cell
 | .im (some l) t xs=>bif l==m then some (.im none t xs) else none
 | .im none _ _=>none
 | c=>some c
def MJ (m:Nat):List Cell->Option (List Cell)
 | []=>some []
 | c::cs=>match WT m c,MJ m cs with
  | some d,some ds=>some (d::ds)
  | _,_=>none
def Ama (m:Nat) (s:Sh):TV->Option s.X
 | .v agg cs=>match MJ m cs with
  | some ds=>decV s (.v agg ds)
  | none=>none
 | _=>none
def PV (A:Arg):Nat->(ks:List Gk)->List TV->Option (Gs ks)
 | _,[],[]=>some ()
 | j,.l a::ks,t::ts=>match SF a t,PV A (j+1) ks ts with
  | some x,some xs=>some (x,xs)
  | _,_=>none
 | j,.b s::ks,.ptr b 0::ts=>bif b==j then(match look A.bx j with
  | some cs=>match R6 A.hp s j cs,PV A (j+1) ks ts with
   | some x,some xs=>some (x,xs)
   | _,_=>none
  | none=>none) else none
 | j,.k s::ks,.v agg cs::ts=>bif agg==s.agg then(match R6 A.hp s j cs,PV A (j+1) ks ts with
  | some x,some xs=>some (x,xs)
  | _,_=>none) else none
 | j,.g s::ks,.v agg cs::ts=>bif agg==s.agg then(match R6 A.hp s j cs,PV A (j+1) ks ts with
  | some x,some xs=>some (x,xs)
  | _,_=>none) else none
 | j,.i m s::ks,t::ts=>match Ama m s t,PV A (j+1) ks ts with
  | some x,some xs=>some (x,xs)
  | _,_=>none
 | _,_,_=>none
def GS.spec (S:GS):D.Spec:=λA=>match PV A 0 S.as A.tm with
 | some x=>some (.df [S.pre x] (Ts S.rs×Ys S.as) (S.fn x) S.pst)
 | none=>none
section
variable {w:World} {G:Gh} {A:Arg} {vs:Array Value}
def M5 {hp:List (Nat×Tree)} {s:Sh} {j:Nat} {cs:List Cell} {x:s.X} (h:R6 hp s j cs=some x) :
 (Cm (64*j) (s.fc x)).length=cs.length/\(∀ (i:Nat) (d:Cell),(Cm (64*j) (s.fc x))[i]? = some d->∃ c,cs[i]? = some c/\∀ v,CellR w G c v->CellR w G d v) /\
 ∀ l T,look (Fa (64*j) (s.fc x)) l=some T->look hp l=some T:=by
 unfold R6 at h;cases hr:H6 (64*j) cs with
 | false=>simp[hr] at h
 | true=>
  simp only[hr,aX] at h;split at h
  .rename_i ds ab hl;obtain⟨l1,l2⟩:=WA hl;obtain⟨r1,r2⟩:=Pz hr;have hds:ds=s.fc x:=by
    refine(Sh.dec_ok h).eq_of λi hi=>?_
    have hlt:i<cs.length:=by grind
    rcases l2 i _ _ (aH hlt) hi with⟨e,_⟩|⟨_,_,_,_,e⟩|⟨_,_,e⟩
    .exact r2 i (by rw[aH hlt,e])
    .cases e
    .cases e
   subst hds;refine⟨by rw[F4,l1],λi d hd=>?_,λl T hl'=>?_⟩
   .obtain⟨fc,hfc,hcase⟩:=Sl hd;have hlt:i<cs.length:=by grind
    refine⟨cs[i],aH hlt,λu hu=>?_⟩;have hrel:=l2 i _ _ (aH hlt) hfc;rcases hcase with⟨v',rfl,rfl⟩|⟨rfl,rfl⟩|⟨t,xs,rfl,rfl⟩
    .rcases hrel with⟨_,e⟩|⟨_,_,_,_,e⟩|⟨v'',hv'',e⟩
     .cases e
     .cases e
     .injection e with e;subst e;exact Cell.val_ok hu hv''
    .rcases hrel with⟨e,_⟩|⟨_,_,_,_,e⟩|⟨_,_,e⟩
     .exact absurd (by rw[aH hlt,e]) (r2 i)
     .cases e
     .cases e
    .rcases hrel with⟨_,e⟩|⟨l,T,e1,_,_⟩|⟨_,_,e⟩
     .cases e
     .have hl':=r1 i l (by grind);rw[e1] at hu;subst hl';exact hu
     .cases e
   .obtain⟨hle,hfc⟩:=OS hl';have hlt:l-64*j<cs.length:=by grind
    rcases l2 _ _ _ (aH hlt) hfc with⟨_,e⟩|⟨l',T',e1,e2,e3⟩|⟨_,_,e⟩
    .cases e
    .have hl2:=r1 _ l' (by rw[aH hlt,e1]);have hl3:l'=l:=O
     subst hl3;obtain⟨t1,x1⟩:=T;obtain⟨t2,x2⟩:=T';injection e3 with e4 e5
     subst e4;have e5:=eq_of_heq e5;subst e5;exact e2
    .cases e
  .cases h
open Classical in
def AlE (G:Gh) (m:Nat):∃ G':Gh,src G' none=src G (some m)/\G'.hv=G.hv:=by
 refine⟨{ G with ow:=λb=>if G.ow b=.lab m then .free else if G.ow b=.free then .gone else G.ow b },?_,rfl⟩;funext b;simp only[src];grind
def Zx {m:Nat} {G':Gh} (hs:src G' none=src G (some m)) (hh:G'.hv=G.hv):∀ (cs ds:List Cell),MJ m cs=some ds->ds.length=cs.length/\∀ (j:Nat) (d:Cell),ds[j]? = some d->∃ c,cs[j]? = some c/\∀ v,CellR w G c v->CellR w G' d v:=by
 intro cs
 induction cs with
 | nil=>intro ds h;simp only[MJ,R_] at h;subst h;simp
 | cons c cs ih=>
  intro ds h;simp only[MJ] at h;split at h
  .rename_i d ds' h1 h2;simp at h;subst h;obtain⟨k1,k2⟩:=ih ds' h2;refine⟨by grind,λj d' hj=>?_⟩;cases j with
   | succ j=>simpa using k2 j d' (by grind)
   | zero=>
    simp at hj;subst hj;refine⟨c,rfl,λv hv=>?_⟩;cases c with
    | im l t xs=>
     cases l with
     | none=>simp[WT] at h1
     | some l=>
      simp only[WT] at h1;cases hb:(l==m) with
      | false=>simp[hb] at h1
      | true=>
       simp only[hb,aX,R_] at h1;subst h1;have e:l=m:=by grind
       subst e;show TR w (src G' none) _ v;rw[hs];exact hv
    | _=>simp only[WT,R_] at h1;subst h1;first|exact hv|(simp only[CellR,hh] at hv ⊢;exact hv)
  .cases h
def Akd {m:Nat} {s:Sh} {t:TV} {x:s.X} {v:Value} (h:Ama m s t=some x) (hv:TVR w G t v):TVR w G (.v s.agg ((s.fc x).map (toCell (some m)))) v:=by
 cases t<;>first|(simp[Ama] at h;done)|skip
 rename_i agg cs;simp only[Ama] at h;split at h
 .rename_i ds hds;obtain⟨G',hs,hh⟩:=AlE G m;obtain⟨k1,k2⟩:=Zx (w:=w) (G:=G) hs hh _ _ hds;have h1:TVR w G' (.v agg ds) v:=Gy k1 k2 hv;have h2:G6 w G' s.agg ((s.fc x).map (toCell none)) v:=Aen h h1;refine Gy (cs:=(s.fc x).map (toCell none)) (by simp) (λj d hd=>?_) h2;rw[cz] at hd;cases hq:(s.fc x)[j]? with
  | none=>simp[hq] at hd
  | some c=>
   simp only[hq,bC,R_] at hd;subst hd;refine⟨toCell none c,by grind,λu hu=>?_⟩;cases c with
   | l t xs=>
    have hu:TR w (src G' none) _ u:=hu;rw[hs] at hu;exact hu
   | _=>exact hu
 .cases h
def P5 {α:Type} {l m:List (Nat×α)} {t:Nat} {x:α} (h:look (l++m) t=some x):look l t=some x\/look m t=some x:=by
 induction l with
 | nil=>exact .inr h
 | cons p l ih=>
  simp only[cy,look] at h ⊢;grind
def Aby (hA:ArgR w G A vs):∀ (ks:List Gk) (j:Nat) (ts:List TV) (x:Gs ks),PV A j ks ts=some x ->
 (ZG j ks x).length=ts.length/\(∀ (i:Nat) (y:TV),(ZG j ks x)[i]? = some y->∃ t,ts[i]? = some t/\∀ v,TVR w G t v->TVR w G y v) /\
 (∀ b cs,look (Aey j ks x) b=some cs->G.ow (G.be b)=.box b/\∃ r e,w.heap[G.be b]? = some (.cells r e (0,0))/\A4 w G cs r) /\
 ∀ l T,look (AeY j ks x) l=some T->look A.hp l=some T:=by
 intro ks
 induction ks with
 | nil=>
  intro j ts x h;cases ts with
  | nil=>simp[ZG,Aey,AeY,look]
  | cons t ts=>simp[PV] at h
 | cons k ks ih=>
  intro j ts x h;cases ts with
  | nil=>cases k<;>simp[PV] at h
  | cons t ts=>
   have cons:∀ (y:TV) (ys:List TV),ys.length=ts.length->(∀ v,TVR w G t v->TVR w G y v)->(∀ (i:Nat) (z:TV),ys[i]? = some z->∃ t,ts[i]? = some t/\∀ v,TVR w G t v->TVR w G z v) ->
    (y::ys).length=(t::ts).length/\(∀ (i:Nat) (z:TV),(y::ys)[i]? = some z->∃ t',(t::ts)[i]? = some t'/\∀ v,TVR w G t' v->TVR w G z v):=by
    intro y ys hl h0 hs;refine⟨by grind,λi z hz=>?_⟩;cases i with
    | zero=>simp only[List.getElem?_cons_zero,R_] at hz;subst hz;exact⟨t,rfl,h0⟩
    | succ i=>simpa using hs i z (by grind)
   cases k with
   | l a=>
    simp only[PV] at h;split at h
    .rename_i x1 xs h1 h2;simp at h;subst h;obtain⟨k1,k2,k3,k4⟩:=ih _ _ _ h2;obtain⟨c1,c2⟩:=cons _ _ k1 (λv hv=>Xl h1 hv) k2;exact⟨c1,c2,k3,k4⟩
    .cases h
   | b s=>
    cases t<;>first|(simp[PV] at h;done)|skip
    rename_i b off;cases off with
    | succ n=>simp[PV] at h
    | zero=>
     simp only[PV] at h;cases hb:(b==j) with
     | false=>simp[hb] at h
     | true=>
      simp only[hb,aX] at h;have hb':b=j:=by grind
      subst hb';split at h
      .rename_i cs hbx;split at h
       .rename_i x1 xs h1 h2;simp at h;subst h;obtain⟨k1,k2,k3,k4⟩:=ih _ _ _ h2;obtain⟨d1,d2,d3⟩:=M5 (w:=w) (G:=G) h1;obtain⟨c1,c2⟩:=cons (.ptr b 0) _ k1 (λv hv=>hv) k2;refine⟨c1,c2,λb' cs' hl=>?_,λl T hl=>?_⟩
        .simp only[Aey,look] at hl;split at hl
         .rename_i e;have e':b'=b:=by grind
          subst e';simp at hl;subst hl;obtain⟨q1,r,e,q2,q3⟩:=hA.bx b' cs hbx;refine⟨q1,r,e,q2,by rw[d1];exact q3.1,λi d hd=>?_⟩;obtain⟨c,hc,hr⟩:=d2 i d hd;obtain⟨u,hu,hcr⟩:=q3.2 i c hc;exact⟨u,hu,hr u hcr⟩
         .exact k3 b' cs' hl
        .rcases P5 hl with hl|hl
         .exact d3 l T hl
         .exact k4 l T hl
       .cases h
      .cases h
   | k s=>
    cases t<;>first|(simp[PV] at h;done)|skip
    rename_i agg cs;simp only[PV] at h;cases hb:(agg==s.agg) with
    | false=>simp[hb] at h
    | true=>
     simp only[hb,aX] at h;have hb':agg=s.agg:=by grind
     subst hb';split at h
     .rename_i x1 xs h1 h2;simp at h;subst h;obtain⟨k1,k2,k3,k4⟩:=ih _ _ _ h2;obtain⟨d1,d2,d3⟩:=M5 (w:=w) (G:=G) h1;obtain⟨c1,c2⟩:=cons (.v s.agg (Cm (64*j) (s.fc x1))) _ k1 (λv hv=>Gy d1 d2 hv) k2;refine⟨c1,c2,k3,λl T hl=>?_⟩;rcases P5 hl with hl|hl
      .exact d3 l T hl
      .exact k4 l T hl
     .cases h
   | g s=>
    cases t<;>first|(simp[PV] at h;done)|skip
    rename_i agg cs;simp only[PV] at h;cases hb:(agg==s.agg) with
    | false=>simp[hb] at h
    | true=>
     simp only[hb,aX] at h;have hb':agg=s.agg:=by grind
     subst hb';split at h
     .rename_i x1 xs h1 h2;simp at h;subst h;obtain⟨k1,k2,k3,k4⟩:=ih _ _ _ h2;obtain⟨d1,d2,d3⟩:=M5 (w:=w) (G:=G) h1;obtain⟨c1,c2⟩:=cons (.v s.agg (Cm (64*j) (s.fc x1))) _ k1 (λv hv=>Gy d1 d2 hv) k2;refine⟨c1,c2,k3,λl T hl=>?_⟩;rcases P5 hl with hl|hl
      .exact d3 l T hl
      .exact k4 l T hl
     .cases h
   | i m s=>
    simp only[PV] at h;split at h
    .rename_i x1 xs h1 h2;simp at h;subst h;obtain⟨k1,k2,k3,k4⟩:=ih _ _ _ h2;obtain⟨c1,c2⟩:=cons _ _ k1 (λv hv=>Akd h1 hv) k2;exact⟨c1,c2,k3,k4⟩
    .cases h
end
def GS.spec_ok {S:GS} {P:Program} {f:Nat} (h:S.ok P f):L1 P f S.spec:=by
 intro A c hc hp;unfold GS.spec at hc;split at hc
 .rename_i x hx;simp at hc;subst hc;have hpre:S.pre x:=hp _ (eF _);intro w vs G hB hA;obtain⟨k1,k2,k3,k4⟩:=Aby hA _ _ _ _ hx;refine(h x hpre w vs G hB ⟨?_,?_,k3,λl T hl=>hA.hp l T (k4 l T hl),hA.lt,hA.cr⟩).mono ?_
  .rw[hA.sz];exact k1.symm
  .intro j y hj;obtain⟨t,ht,hr⟩:=k2 j y hj;obtain⟨v,hv,hvt⟩:=hA.tm j t ht;simp_all
  .rintro e w' ⟨v,p,hs,hrest⟩;exact⟨v,p,hs,hrest⟩
 .cases hc
def YX:List Md->List Md->Bool
 | [],[]=>true
 | .lend::a,.lend::b=>YX a b
 | .give::a,.give::b=>YX a b
 | .keep::a,.keep::b=>YX a b
 | .box::a,.box::b=>YX a b
 | _,_=>false
def Abs (ms:List Md) (g:D.Spec):Option (List Md×D.Spec)->D.Spec
 | some (ms',g0)=>λA=>match g A with
  | some c=>some c
  | none=>bif YX ms' ms then g0 A else none
 | none=>g
def Env.addG (E:Env) (f:Nat) (S:GS):Env:=E.ext f S.ms (Abs S.ms S.spec (E.fn f))
def Akq:∀ ks:List Gk,K3 (ks.map (·.md))=false
 | []=>rfl
 | [k]=>by cases k<;>rfl
 | k::_::_=>by cases k<;>rfl
def EOk.addG {P:Program} {E:Env} (h:EOk P E) {f:Nat} {S:GS} (hS:S.ok P f):EOk P (E.addG f S):=by
 refine h.ext ?_ (λhn=>by rw[GS.ms,Akq] at hn;cases hn);have hS':=GS.spec_ok hS;unfold Abs;split
 .rename_i ms' g0 hg0;intro A c hc;dsimp only at hc;split at hc
  .rename_i c' hc';simp at hc;subst hc;exact hS' A c' hc'
  .cases hm:YX ms' S.ms with
   | false=>simp[hm] at hc
   | true=>
    simp only[hm,aX] at hc;exact(h f ms' g0 hg0).1 A c hc
 .exact hS'
def Rd:∀ (ks:List Gk) (j:Nat) (x:Gs ks),(ZG j ks x).length=ks.length:=by
 intro ks
 induction ks with
 | nil=>intro _ _;rfl
 | cons k ks ih=>intro j x;cases k<;>simp[ZG,ih]
def GS.of {S:GS} {P:Program} {E:Env} {L:Gs S.as->W6} {kp:List Nat} {f:Nat} {fn:Func} (hE:EOk P E) (hf:P.funcs[f]? = some fn) (hb:fn.body.isSome=true) (hn:decide (S.as.length<=fn.ntmps)=true)
 (hh:∀ x,S.pre x->HoldsE (J5 P E (L x) kp S.kl fn (S.arg x)) (S.ctr x).post):S.ok P f:=by
 intro x hx;refine JR hE hf hb ?_ (hh x hx).h;have:(S.arg x).tm.length=S.as.length:=Rd _ _ _;rw[this];exact hn
def GS.out (S:GS) (y:Ts S.rs×Ys S.as):Out:=.leaf (mkR S.rs y.1) (ZI 0 S.as y.2) (AeQ 0 S.as y.2)
def Jy:∀ ps:List (Nat×List FC),Wj ps ps
 | []=>trivial
 | p::ps=>⟨⟨rfl,GK _⟩,Jy ps⟩
def GS.leafY {S:GS} {x:Gs S.as} {y:Ts S.rs×Ys S.as} (h:y=S.fn x):(S.out y).holds (S.ctr x).post:=by
 subst h;exact⟨GJ _,Jy _,rfl⟩
def GS.leafZ {S:GS} {x:Gs S.as} {r:Res} {bx:List (Nat×List FC)} {hp:List (Nat×Tree)} (y:Ts S.rs×Ys S.as) (h1:GU ⟨r,hp,bx⟩ (S.pst y)) (h:y=S.fn x):(Out.leaf r bx hp).holds (S.ctr x).post:=by
 subst h;exact h1
abbrev GS.lim (S:GS) (m:Gs S.as->Nat) (n:Nat):GS:={ S with pre:=λx=>S.pre x/\m x<n }
abbrev Fct.lim (S:Fct) (m:As S.as->Nat) (n:Nat):Fct:={ S with pre:=λx=>S.pre x/\m x<n }
def GS.ofRec {S:GS} {P:Program} {E:Env} {L:Gs S.as->W6} {kp:List Nat} {f:Nat} {fn:Func} (m:Gs S.as->Nat) (hE:EOk P E) (hf:P.funcs[f]? = some fn) (hb:fn.body.isSome=true) (hn:decide (S.as.length<=fn.ntmps)=true)
 (hh:∀ n x,S.pre x->m x<n+1->HoldsE (J5 P (E.addG f (S.lim m n)) (L x) kp S.kl fn (S.arg x)) (S.ctr x).post):S.ok P f:=by
 have key:∀ n,(S.lim m n).ok P f:=by
  intro n
  induction n with
  | zero=>intro x hx;exact absurd hx.2 (Nat.not_lt_zero _)
  | succ n ih=>
   intro x hx;refine JR (EOk.addG hE ih) hf hb ?_ (hh n x hx.1 hx.2).h;have:((S.lim m (n+1)).arg x).tm.length=S.as.length:=Rd _ _ _;rw[this];exact hn
 intro x hx;exact key (m x+1) x ⟨hx,Nat.lt_succ_self _⟩
def OX:∀ (ss:List Ak) (x:As ss),(D3 ss x).length=ss.length:=by
 intro ss
 induction ss with
 | nil=>intro _;rfl
 | cons s ss ih=>intro x;simp[D3,ih]
def Fct.ofRec {S:Fct} {P:Program} {E:Env} {L:As S.as->W6} {kp:List Nat} {f:Nat} {fn:Func} (m:As S.as->Nat) (hE:EOk P E) (hf:P.funcs[f]? = some fn) (hb:fn.body.isSome=true) (hn:decide (S.as.length<=fn.ntmps)=true)
 (hh:∀ n x,S.pre x->m x<n+1->HoldsE (J5 P (E.add f (S.lim m n)) (L x) kp [] fn (S.arg x)) (S.ctr x).post):S.ok P f:=by
 have key:∀ n,(S.lim m n).ok P f:=by
  intro n
  induction n with
  | zero=>intro x hx;exact absurd hx.2 (Nat.not_lt_zero _)
  | succ n ih=>
   intro x hx;refine JR (EOk.add hE ih) hf hb ?_ (hh n x hx.1 hx.2).h;have:((S.lim m (n+1)).arg x).tm.length=S.as.length:=OX _ _;rw[this];exact hn
 intro x hx;exact key (m x+1) x ⟨hx,Nat.lt_succ_self _⟩
end Go.D
namespace Go.D
def Ak.md:Ak->Md
 | .u=>.cur
 | _=>.lend
structure Xct where
 as:List Ak
 rs:List Sh
 pre:As as->Prop
 is:As as->Ts rs->Prop
def Xct.ms (S:Xct):List Md:=S.as.map (·.md)
def Xct.arg (S:Xct) (x:As S.as):Arg:=⟨D3 S.as x,[],[]⟩
def Xct.ctr (S:Xct) (x:As S.as):Ctr:=.ex [] (Ts S.rs) (S.is x) λy=>⟨mkR S.rs y,[],[]⟩
def Xct.spec (S:Xct):D.Spec:=λA=>match A.bx,A.hp with
 | [],[]=>match Oj S.as A.tm with
  | some x=>some (.ex [S.pre x] (Ts S.rs) (S.is x) λy=>⟨mkR S.rs y,[],[]⟩)
  | none=>none
 | _,_=>none
def Xct.ok (S:Xct) (P:Program) (f:Nat):Prop:=∀ x,S.pre x->Con P f (S.arg x) (S.ctr x).sat
def Xct.spec_ok {S:Xct} {P:Program} {f:Nat} (h:S.ok P f):L1 P f S.spec:=by
 intro A c hc hp;unfold Xct.spec at hc;split at hc
 .rename_i hb hh;split at hc
  .rename_i x hx;simp only[R_] at hc;subst hc;have hpre:S.pre x:=hp _ (eF _);intro w vs G hB hA;refine(h x hpre w vs G hB ⟨?_,?_,by simp[Xct.arg,look],by simp[Xct.arg,look],hA.lt,hA.cr⟩).mono ?_
   .rw[hA.sz];exact(Kt (w:=w) (G:=G) hx).1.symm
   .intro j y hj;obtain⟨x',hx',hr⟩:=(Kt (w:=w) (G:=G) hx).2 j y hj;obtain⟨v,hv,ht⟩:=hA.tm j x' hx';exact⟨v,hv,hr v ht⟩
   .rintro e w' ⟨v,p,hs,hrest⟩;exact⟨v,p,hs,hrest⟩
  .cases hc
 .cases hc
def AiQ:∀ ks:List Ak,K3 (ks.map (·.md))=false
 | []=>rfl
 | [k]=>by cases k<;>rfl
 | k::_::_=>by cases k<;>rfl
def Env.addX (E:Env) (f:Nat) (S:Xct):Env:=E.ext f S.ms S.spec
def EOk.addX {P:Program} {E:Env} (h:EOk P E) {f:Nat} {S:Xct} (hS:S.ok P f):EOk P (E.addX f S) :=
 h.ext (Xct.spec_ok hS) λhn=>by rw[Xct.ms,AiQ] at hn;cases hn
def Xct.of {S:Xct} {P:Program} {E:Env} {L:As S.as->W6} {kp:List Nat} {f:Nat} {fn:Func} (hE:EOk P E) (hf:P.funcs[f]? = some fn) (hb:fn.body.isSome=true) (hn:decide (S.as.length<=fn.ntmps)=true)
 (hh:∀ x,S.pre x->HoldsE (J5 P E (L x) kp [] fn (S.arg x)) (S.ctr x).post):S.ok P f:=by
 intro x hx;refine JR hE hf hb ?_ (hh x hx).h;have:(S.arg x).tm.length=S.as.length:=OX _ _;rw[this];exact hn
def Xct.leafY {S:Xct} {x:As S.as} (y:Ts S.rs) (h:S.is x y):(Out.leaf (mkR S.rs y) [] []).holds (S.ctr x).post:=⟨y,h,GJ _,trivial,rfl⟩
def Xct.leafZ {S:Xct} {x:As S.as} {r:Res} (y:Ts S.rs) (h1:KJ r (mkR S.rs y)) (h:S.is x y):(Out.leaf r [] []).holds (S.ctr x).post:=⟨y,h,h1,trivial,rfl⟩
end Go.D
namespace Go.D
def Gk.mdc:Gk->Md
 | .l a=>a.md
 | .b _=>.box
 | .k _=>.keep
 | .g _=>.give
 | .i _ _=>.lend
structure Zct where
 as:List Gk
 rs:List Sh
 pre:Gs as->Prop
 is:Gs as->Ts rs×Ys as->Prop
def Zct.ms (S:Zct):List Md:=S.as.map (·.mdc)
def Zct.arg (S:Zct) (x:Gs S.as):Arg:=⟨ZG 0 S.as x,Aey 0 S.as x,AeY 0 S.as x⟩
def Zct.kl (S:Zct):List Nat:=klOf 0 S.as
def Zct.pst (S:Zct) (y:Ts S.rs×Ys S.as):Pst:=⟨mkR S.rs y.1,AeQ 0 S.as y.2,ZI 0 S.as y.2⟩
def Zct.ctr (S:Zct) (x:Gs S.as):Ctr:=.ex [] (Ts S.rs×Ys S.as) (S.is x) S.pst
def Zct.spec (S:Zct):D.Spec:=λA=>match PV A 0 S.as A.tm with
 | some x=>some (.ex [S.pre x] (Ts S.rs×Ys S.as) (S.is x) S.pst)
 | none=>none
def Zct.ok (S:Zct) (P:Program) (f:Nat):Prop:=∀ x,S.pre x->Con P f (S.arg x) (S.ctr x).sat
def Zct.spec_ok {S:Zct} {P:Program} {f:Nat} (h:S.ok P f):L1 P f S.spec:=by
 intro A c hc hp;unfold Zct.spec at hc;split at hc
 .rename_i x hx;simp only[R_] at hc;subst hc;have hpre:S.pre x:=hp _ (eF _);intro w vs G hB hA;obtain⟨k1,k2,k3,k4⟩:=Aby hA _ _ _ _ hx;refine(h x hpre w vs G hB ⟨?_,?_,k3,λl T hl=>hA.hp l T (k4 l T hl),hA.lt,hA.cr⟩).mono ?_
  .rw[hA.sz];exact k1.symm
  .intro j y hj;obtain⟨t,ht,hr⟩:=k2 j y hj;obtain⟨v,hv,hvt⟩:=hA.tm j t ht;exact⟨v,hv,hr v hvt⟩
  .rintro e w' ⟨v,p,hs,hrest⟩;exact⟨v,p,hs,hrest⟩
 .cases hc
def Zct.of {S:Zct} {P:Program} {E:Env} {L:Gs S.as->W6} {kp:List Nat} {f:Nat} {fn:Func} (hE:EOk P E) (hf:P.funcs[f]? = some fn) (hb:fn.body.isSome=true) (hn:decide (S.as.length<=fn.ntmps)=true)
 (hh:∀ x,S.pre x->HoldsE (J5 P E (L x) kp S.kl fn (S.arg x)) (S.ctr x).post):S.ok P f:=by
 intro x hx;refine JR hE hf hb ?_ (hh x hx).h;have:(S.arg x).tm.length=S.as.length:=Rd _ _ _;rw[this];exact hn
def Zct.out (S:Zct) (y:Ts S.rs×Ys S.as):Out:=.leaf (mkR S.rs y.1) (ZI 0 S.as y.2) (AeQ 0 S.as y.2)
def Zct.leafY {S:Zct} {x:Gs S.as} (y:Ts S.rs×Ys S.as) (h:S.is x y):(S.out y).holds (S.ctr x).post:=⟨y,h,GJ _,Jy _,rfl⟩
def Zct.leafZ {S:Zct} {x:Gs S.as} {r:Res} {bx:List (Nat×List FC)} {hp:List (Nat×Tree)} (y:Ts S.rs×Ys S.as) (h1:GU ⟨r,hp,bx⟩ (S.pst y)) (h:S.is x y):(Out.leaf r bx hp).holds (S.ctr x).post:=⟨y,h,h1⟩
end Go.D
namespace Go.D
def AE {n:Int} (h : -9223372036854775808<=n/\n<=9223372036854775807):IntKind.i64.wrap n=n:=by
 rw[IntKind.wrap_i64];omega
theorem FS {n:Int} (h1 : -9223372036854775808<=n) (h2:n<=9223372036854775807):IntKind.i64.wrap n=n:=AE ⟨h1,h2⟩
def Am0 (a b:ByteArray):(a.toList==b.toList)=decide (a=b):=by
 have h:a.toList=b.toList↔a=b:=by
  constructor
  .intro h;rw[ByteArray.toList_eq,ByteArray.toList_eq] at h;cases a;cases b;simp_all
  .rintro rfl;rfl
 grind
theorem C_ {i:Int} (h:0<=i):(i+1).toNat=i.toNat+1:=O
def AjO {α:Type} [Inhabited α] {l:List α} {i:Nat} (h:i<l.length):l.getD i default=l[i]:=by simp[h]
theorem Q_ {α:Type} [Inhabited α] {l:List α} {i:Nat} (h:i<l.length):l.take (i+1)=l.take i++[l.getD i default]:=by
 simp_all
def Agc {t:Ty} {l:List (El t)} (h:Sh.good (.sl t) l) {x:El t} (hx:x∈l):Sh.good (.el t) x:=by
 intro c hc;have h1:=h (.l t l) (by simp[Sh.fc]);have h2:=h1.2 x hx c hc;have hr:=Jc hc;have:=AdD t;exact Afq 7 c O h2
def Aa7 {t:Ty} {l:List (El t)} (h:Sh.good (.sl t) l) {i:Nat} (hi:i<l.length):Sh.good (.el t) (l.getD i default):=Agc h (by rw[AjO hi];exact List.getElem_mem hi)
theorem I_ {t:Ty} {l:List (El t)} (h:Sh.good (.sl t) l):l.length<=maxLen:=(h (.l t l) (by simp[Sh.fc])).1
def AkI (left:Int) (n:Nat):Int:=if(n:Int)<=left then left-n else -1
def U {α:Type} (f:α->Nat) (l:List α):Nat:=l.length+(l.map f).sum
def AgE {α:Type} [Inhabited α] (f:α->Nat) {l:List α} {i:Nat} (h:i<l.length):((l.take (i+1)).map f).sum=((l.take i).map f).sum+f (l.getD i default):=by
 rw[Q_ h];simp
def Up {α:Type} (f:α->Nat) (l:List α) (i:Nat):((l.take i).map f).sum<=(l.map f).sum:=by
 have:(l.map f).sum=((l.take i).map f).sum+((l.drop i).map f).sum:=by rw[<-List.sum_append_nat,<-fu,dc]
 omega
def Ac {α:Type} (f:α->Nat) (l:List α):l.length<=U f l:=bN _ _
def An6:Nat->Nat->ByteArray->ByteArray
 | 0,_,out=>out
 | f+1,k,out=>if k=0 then out else An6 f (k / 10) (⟨#[UInt8.ofNat (48+k % 10)]⟩++out)
def Abx (k:Int):ByteArray:=if k<=0 then⟨#[109,48]⟩ else⟨#[109]⟩++An6 64 k.toNat ⟨#[]⟩
section
variable {α:Type} {f:α->Int->α×Int}
theorem B_ [Inhabited α] {l:List α} {i:Nat} (h:i<l.length):l.drop i=l.getD i default::l.drop (i+1):=by
 simp_all
theorem K_ {α:Type} {l:List α} {i:Nat} (h:l.length<=i):l.drop i=[]:=cx h
def ZQ {A r:List α} {x:α} {g:α->α} {i:Nat} (h:A.length=i):(A++x::r).modify i g=A++g x::r:=by
 subst h
 induction A with
 | nil=>rfl
 | cons a A ih=>simp[List.modify_succ_cons,ih]
end
def fidx {α:Type} (p:α->Bool):List α->Int->Int
 | [],_=>-1
 | c::l,i=>if p c then i else fidx p l (i+1)
def GT {α:Type} (p:α->Bool):∀ (l:List α) (i:Int),0<=i->(0<=fidx p l i↔l.any p=true):=by
 intro l
 induction l with
 | nil=>intro i _;simp[fidx]
 | cons c l ih=>
  intro i hi;simp only[fidx,List.any_cons,dt];grind
def BU {α:Type} (p:α->Bool):∀ (l:List α) (i:Int),0<=i->fidx p l i<i+l.length/\-1<=fidx p l i:=by
 intro l
 induction l with
 | nil=>intro i h;simp[fidx];omega
 | cons c l ih=>
  intro i hi;simp only[fidx,aw];grind
def Cy {α:Type} [Inhabited α] (f:α->Nat) {l:List α} {i:Nat} (h:i<l.length):f (l.getD i default)+l.length<=U f l:=by
 have h1:=Up f l (i+1);rw[AgE f h] at h1;simp only[U];omega
def countIf {α:Type} (p:α->Bool):List α->Int
 | []=>0
 | x::l=>(if p x then 1 else 0)+countIf p l
theorem aU {α:Type} (p:α->Bool) (l:List α):0<=countIf p l/\countIf p l<=l.length:=by
 induction l with
 | nil=>simp[countIf]
 | cons x l ih=>simp only[countIf,aw];split<;>omega
def Adh {α:Type} (l:List α) (n:Nat):cut l n (l.length-n)=l.drop n:=by
 unfold cut;rw[cC (by simp)]
def Ahp {α β:Type} [DecidableEq β] (f:α->β):List β->List α->List β
 | out,[]=>out
 | out,x::l=>Ahp f (if out.any (λc=>decide (c=f x)) then out else out++[f x]) l
def DR {a b:Bool} (h:a=true) (h':b=true):(a&&b)=true:=by rw[h,h'];rfl
theorem bO {α:Type} {l:List α} {i:Nat} (h:l.length<=i):l.take i=l:=cC h
def Aqf (a:Array UInt8):(ByteArray.mk a).size=a.size:=rfl
end Go.D
namespace Go.D
def Ako (a b:Nat):IM a b=(a*b<=140737488355328):=rfl
def Amb:(∀ {p:Prop} [inst:Decidable p],(decide p=true)=p)/\(∀ {p:Prop} {x:Decidable p},decide p=false↔¬p)/\(∀ (b:Bool),((!b)=true)=(b=false))/\(∀ (b:Bool),((!b)=false)=(b=true)) /\
 (∀ {α:Type} [inst:BEq α] [LawfulBEq α] {a b:α},(a != b)=true↔a≠b)/\(∀ {α:Type} [inst:BEq α] [LawfulBEq α] {a b:α},(a != b)=false↔a=b)/\(∀ {α:Type} [inst:BEq α] [LawfulBEq α] {a b:α},(a==b)=true↔a=b) /\
 (∀ {α:Type} [inst:BEq α] [LawfulBEq α] {a b:α},(a==b)=false↔a≠b)/\(∀ (a b:ByteArray),(a.toList==b.toList)=decide (a=b))/\(∀ {a b:Int},¬a<b↔b<=a)/\(∀ {a b:Int},¬a<=b↔b<a)/\(∀ {p:Prop} [Decidable p],¬¬p↔p)/\(∀ x,wr x=IntKind.i64.wrap x)/\(∀ x,w1 x=IntKind.i64.wrap (x+1))/\∀ i n,inB i n=(0<=i/\i<(n:Int)) :=
 ⟨@az,@cw,@cO,@Bool.not_eq_false',@bne_iff_ne,@bne_eq_false_iff_eq,@da,@beq_eq_false_iff_ne,@Am0,@Int.not_lt,@Int.not_le,@Decidable.not_not,λ_=>rfl,λ_=>rfl,λ_ _=>rfl⟩
def Ap0:(∀ (a:Array UInt8),ByteArray.size { data:=a }=a.size)/\(∀ {α:Type} {as:List α},as.toArray.size=as.length)/\(∀ {α:Type} {a:α} {as:List α},(a::as).length=as.length+1)/\(∀ {α:Type},([]:List α).length=0) /\
 Int.toNat 0=0/\(∀ {α:Type} {l:List α},List.drop 0 l=l)/\(∀ (b:Bool),(¬b=true)=(b=false))/\(∀ (b:Bool),(¬b=false)=(b=true))/\(∀ {p:Prop} [g:Decidable p] [h:Decidable ¬p],(decide ¬p) = !decide p) /\
 (∀ {α β:Type} (a:α) (b:β) (c:α) (d:β),((a,b)=(c,d))=(a=c/\b=d))/\(∀ (p:Prop),(p/\True)=p)/\(∀ (p:Prop),(True/\p)=p)/\(∀ (a b:Nat),IM a b=(a*b<=140737488355328)) /\
 (∀ {α:Type} (as:List α),[]++as=as)/\∀ (n:Nat),0+n=n :=
 ⟨@Aqf,@List.size_toArray,@aw,@bz,Int.toNat_zero,@fx,@Bool.not_eq_true,@Bool.not_eq_false,@decide_not,@bW,@and_true,@true_and,Ako,@eH,@cM⟩
def WJ:(type_of% @Amb)/\∀ {α:Type} (a b:α),(a≠b) = ¬a=b:=⟨Amb,λ_ _=>rfl⟩
abbrev Ag (x:ByteArray):Nat:=x.size
end Go.D
namespace Go.D
set_option linter.unusedSimpArgs false
section
variable {P:Program} {E:Env} {m:Nat} {fn:Func} {t:Ty}
def szF (s:Sh) (f:s.X->Nat):Fct:=⟨[.v s,aI],[rI],λ(x:s.X×Int×Unit)=>Sh.good s x.1/\0<=x.2.1/\x.2.1<=1048576,λ(x:s.X×Int×Unit)=>(AkI x.2.1 (f x.1),())⟩
inductive SzI:Type
 | p (k:Nat)
 | c (s:Sh) (f:s.X->Nat) (x:s.X)
def SzI.n:SzI->Nat
 | .p k=>k
 | .c _ f x=>f x
def SzI.ok:SzI->Prop
 | .p k=>k<=maxLen
 | .c s _ x=>Sh.good s x
def toF (s:Sh) (f:s.X->Nat):Fct:=⟨[.v s],[s],λ(x:s.X×Unit)=>f x.1<=1048576,λ(x:s.X×Unit)=>(x.1,())⟩
structure ToI where
 s:Sh
 f:s.X->Nat
 x:s.X
def eqF (s:Sh) [DecidableEq s.X] (p:s.X->Nat):Fct:=⟨[.v s,.v s],[rB],λ(x:s.X×s.X×Unit)=>p x.1<=1125899906842624,λ(x:s.X×s.X×Unit)=>(decide (x.1=x.2.1),())⟩
inductive EqI:Type
 | s (x y:ByteArray)
 | i (x y:Int)
 | b (x y:Bool)
 | c (s:Sh) (d:DecidableEq s.X) (p:s.X->Nat) (x y:s.X)
def EqI.ok:EqI->Prop
 | .c _ _ p x _=>p x<=1125899906842624
 | _=>True
end
inductive Fe (α:Type):Type
 | s (g:α->ByteArray) (u:α->ByteArray->α)
 | i (g:α->Int) (u:α->Int->α)
 | b (g:α->Bool) (u:α->Bool->α)
 | l (s:Sh) (n:s.X->Nat) (f:s.X->Int->s.X×Int) (g:α->s.X) (u:α->s.X->α)
def Bd {α:Type} (n:α->Nat) (f:α->Int->α×Int):Prop:=∀ x k,k<=(f x k).2/\(f x k).2<=k+64*n x/\f (f x k).1 k=f x k
section
variable {α:Type}
def Fe.mk1:Fe α->α->Int->α×Int
 | .s _ u,x,k=>(u x (Abx k),k+1)
 | .i _ u,x,k=>(u x k,k+1)
 | .b _ u,x,k=>(u x (k.tmod 3==0),k+1)
 | .l _ _ f g u,x,k=>(u x (f (g x) k).1,(f (g x) k).2)
def mkA:List (Fe α)->α->Int->α×Int
 | [],x,k=>(x,k)
 | d::r,x,k=>mkA r (d.mk1 x k).1 (d.mk1 x k).2
def Fe.law:Fe α->Prop
 | .s g u=>(∀ x v,g (u x v)=v)/\∀ x,u x (g x)=x
 | .i g u=>(∀ x v,g (u x v)=v)/\∀ x,u x (g x)=x
 | .b g u=>(∀ x v,g (u x v)=v)/\∀ x,u x (g x)=x
 | .l _ n f g u=>Bd n f/\(∀ x v,g (u x v)=v)/\∀ x,u x (g x)=x
def Fe.same:Fe α->α->α->Prop
 | .s g _,x,y=>g x=g y
 | .i g _,x,y=>g x=g y
 | .b g _,x,y=>g x=g y
 | .l _ _ _ g _,x,y=>g x=g y
def Ami (d:Fe α):List (Fe α)->Prop
 | []=>True
 | e::r=>(∀ x k,d.same (e.mk1 x k).1 x)/\(∀ x k,e.same (d.mk1 x k).1 x)/\Ami d r
def Laws:List (Fe α)->Prop
 | []=>True
 | d::r=>d.law/\Ami d r/\Laws r
def Fe.isv:Fe α->α->Int->Prop
 | .s g _,x,k=>g x=Abx k
 | .i g _,x,k=>g x=k
 | .b g _,x,k=>g x=(k.tmod 3==0)
 | .l _ _ f g _,x,k=>(f (g x) k).1=g x
def Fe.cost:Fe α->α->Nat
 | .l _ n _ g _,x=>64*n (g x)
 | _,_=>1
def Fe.same_trans {d:Fe α} {x y z:α} (h1:d.same x y) (h2:d.same y z):d.same x z:=by
 cases d<;>exact Eq.trans h1 h2
def Wy {d:Fe α} (h:d.law) (x:α) (k:Int):k<=(d.mk1 x k).2:=by
 cases d with
 | l s n f g u=>exact(h.1 _ _).1
 | _=>exact Int.le_add_one (Int.le_refl _)
def WB:∀ {r:List (Fe α)},Laws r->∀ (x:α) (k:Int),k<=(mkA r x k).2
 | [],_,x,k=>Int.le_refl _
 | d::r,h,x,k=>Int.le_trans (Wy h.1 x k) (WB h.2.2 _ _)
def V9 {d:Fe α}:∀ {r:List (Fe α)},Ami d r->∀ (x:α) (k:Int),d.same (mkA r x k).1 x
 | [],_,x,k=>by cases d<;>rfl
 | e::r,h,x,k=>Fe.same_trans (V9 h.2.2 _ _) (h.1 x k)
def AkV {d:Fe α} (h:d.law) {x:α} {k:Int} (hv:d.isv x k):(d.mk1 x k).1=x:=by
 cases d with
 | s g u=>show u x (Abx k)=x;rw[<-(hv:g x=Abx k)];exact h.2 x
 | i g u=>
  show u x k=x;have hv:g x=k:=hv
  conv=>lhs;rw[<-hv]
  exact h.2 x
 | b g u=>show u x (k.tmod 3==0)=x;rw[<-(hv:g x=(k.tmod 3==0))];exact h.2 x
 | l s n f g u=>show u x (f (g x) k).1=x;rw[(hv:(f (g x) k).1=g x)];exact h.2.2 x
def AkD {d:Fe α} (h:d.law) {x y:α} {k:Int} (hs:d.same y (d.mk1 x k).1):d.isv y k/\(d.mk1 y k).2=(d.mk1 x k).2:=by
 cases d with
 | s g u=>exact⟨(hs:g y=g (u x (Abx k))).trans (h.1 _ _),rfl⟩
 | i g u=>exact⟨(hs:g y=g (u x k)).trans (h.1 _ _),rfl⟩
 | b g u=>exact⟨(hs:g y=g (u x (k.tmod 3==0))).trans (h.1 _ _),rfl⟩
 | l s n f g u=>
  have e:g y=(f (g x) k).1:=(hs:g y=g (u x (f (g x) k).1)).trans (h.2.1 _ _);have e2:=(h.1 (g x) k).2.2;rw[<-e] at e2;refine⟨?_,?_⟩
  .show(f (g y) k).1=g y;rw[e2,e]
  .show(f (g y) k).2=(f (g x) k).2;rw[e2]
def AgR {d:Fe α} {r:List (Fe α)} (h:Laws (d::r)) {x:α} {k:Int} (hx:(mkA (d::r) x k).1=x):d.isv x k/\(d.mk1 x k).1=x/\(mkA r x (d.mk1 x k).2).1=x:=by
 have hs:=V9 h.2.1 (d.mk1 x k).1 (d.mk1 x k).2;have hx':(mkA r (d.mk1 x k).1 (d.mk1 x k).2).1=x:=hx;rw[hx'] at hs;have hv:=(AkD h.1 hs).1;have e:=AkV h.1 hv;simp_all
end
section
variable {P:Program} {E:Env} {m:Nat} {fn:Func} {t:Ty} {s:Sh}
def mkF (s:Sh) (f:s.X->Int->s.X×Int):MS:=⟨s,λ(x:s.X) (k:Int)=>0<=k/\(f x k).2<=4000000000000000000,f⟩
def heF (s:Sh) (f:s.X->Int->s.X×Int):Fct:=⟨[.v s,aI],[rI],λ(x:s.X×Int×Unit)=>0<=x.2.1/\(f x.1 x.2.1).2<=4000000000000000000/\(f x.1 x.2.1).1=x.1,λ(x:s.X×Int×Unit)=>((f x.1 x.2.1).2,())⟩
def AmT {α:Type}:List (Fe α)->Bool
 | []=>true
 | .l ..::r=>AmT r
 | _::_=>false
def hvC (s:Sh) (f:s.X->Int->s.X×Int):List (Fe s.X)->s.X->Int->Out
 | [],x,k=>.lf (heF s f) (k,())
 | .l s' n f' g u::r,x,k=>.cl (heF s' f') (g x,k,()) λz=>.br (decide (z.1<0)) (.lf (heF s f) ((-1:Int),())) (hvC s f r x z.1)
 | _::_,_,_=>.bad
def Ali {Q:Post} {f:s.X->Int->s.X×Int} {x:s.X}:∀ (ds:List (Fe s.X)) (k:Int),Laws ds->AmT ds=true->0<=k->(mkA ds x k).2<=4000000000000000000->(mkA ds x k).1=x->(Out.lf (heF s f) ((mkA ds x k).2,())).holds Q->(hvC s f ds x k).holds Q
 | [],k,_,_,_,_,_,h=>h
 | .l s' n f' g u::r,k,hl,hs,hk,hm,he,h=>by
  obtain⟨hv,hd1,he2⟩:=AgR hl he;have hv:(f' (g x) k).1=g x:=hv;have hd1:u x (f' (g x) k).1=x:=hd1;have hm:(mkA r (u x (f' (g x) k).1) (f' (g x) k).2).2<=4000000000000000000:=hm;have h:(Out.lf (heF s f) ((mkA r (u x (f' (g x) k).1) (f' (g x) k).2).2,())).holds Q:=h;rw[hd1] at hm h;have hmo:=WB hl.2.2 x (f' (g x) k).2;have h1:k<=(f' (g x) k).2:=Wy hl.1 x k;refine Ai ⟨hk,Int.le_trans hmo hm,hv⟩ λ_=>Z (λhc=>?_) (λ_=>Ali r _ hl.2.2 hs (by show 0<=(f' (g x) k).2;omega) hm he2 h)
  have hc:decide ((f' (g x) k).2<0)=true:=hc;grind
def hvT {ds:List (Fe s.X)} (kp:List Nat) (hl:Laws ds) (hE:EOk P E) (hf:P.funcs[m]? = some fn)
 (h:∀ x k,J5 P E (λ_=>none) kp [] fn ((heF s (mkA ds)).arg (x,k,()))=hvC s (mkA ds) ds x k)
 (hc:(fn.body.isSome&&decide (2<=fn.ntmps)&&AmT ds)=true:=by kernel_rfl):(heF s (mkA ds)).ok P m:=by
 rw[T_,T_] at hc;exact Fct.of (S:=heF s (mkA ds)) (L:=λ_ _=>none) (kp:=kp) hE hf hc.1.1 hc.1.2 λx hx=>⟨(h x.1 x.2.1)▸Ali ds x.2.1 hl hc.2 hx.1 hx.2.1 hx.2.2 (Y rfl)⟩
end
end Go.D
namespace Go.D
set_option linter.unusedSimpArgs false
set_option maxRecDepth 100000
set_option maxHeartbeats 2000000
def szAddr (x:HO):Nat:=x.host.size+x.path.size
def B3 (x:cW):Nat:=x.name.size+x.value.size
def szT (x:ai):Nat:=x.name.size+U B3 x.bq+x.text.size
def EQ (x:dv):Nat:=x.rest.size
def AS (x:cT):Nat:=x.name.size+x.text.size+U B3 x.bq
def szB (x:am):Nat:=U AS x.bj+x.bn.length
def OR (x:dL):Nat:=x.name.size
def ET (x:bF):Nat:=U OR x.rules
def EK (x:bU):Nat:=x.text.size
def AG (x:aA):Nat:=U Ag x.bt+U Ag x.styles+U Ag x.images+x.nonce.size
def Ab (x:M_):Nat:=x.body.size+x.bm.size
def A6 (x:ax):Nat:=szAddr x.to+x.from_.size+x.digest.size
def Ha (x:aF):Nat:=x.path.size+Ab x.bd
def Af (x:V_):Nat:=x.host.size+U Ha x.files
def AK (x:bJ):Nat:=x.top.size+szAddr x.to+Ab x.bd
def szCache (x:aZ):Nat:=U AK x.bh
def Fw (x:dA):Nat:=x.top.size+szAddr x.to
def szNet (x:P_):Nat:=U Af x.servers+szCache x.cache+U Fw x.log
def AD (x:av):Nat:=szAddr x.to+x.digest.size+x.body.size
def AA (x:Z_):Nat:=szAddr x.to+x.body.size
def Au (x:A_):Nat:=szAddr x.addr+AG x.bm+EQ x.tok+U szT x.bp+szB x.ba+U AD x.bf+U AA x.bi+U szAddr x.bh+U szAddr x.ran+U Ag x.log
def Fz (x:bv):Nat:=szAddr x.to+Ab x.bd
def GE (x:ao):Nat:=szAddr x.to+Ab x.bd
def Ja (x y:ByteArray):(x==y)=decide (x=y):=by
 rw[Bool.eq_iff_iff,az];constructor
 .intro h;have h':(x.data==y.data)=true:=h;cases x;cases y;simpa using h'
 .rintro rfl;show(x.data==x.data)=true;simp
def DP (x y:HO):(x.host==y.host&&(x.path==y.path&&true))=decide (x=y):=by
 rw[Bool.eq_iff_iff];cases x;cases y;simp[Ja]
def Abr (x y:cW):(x.name==y.name&&(x.value==y.value&&true))=decide (x=y):=by
 rw[Bool.eq_iff_iff];cases x;cases y;simp[Ja]
def LX (x y:dv):(x.rest==y.rest&&true)=decide (x=y):=by
 rw[Bool.eq_iff_iff];cases x;cases y;simp[Ja]
def AaW (x y:dL):(x.name==y.name&&(x.color==y.color&&true))=decide (x=y):=by
 rw[Bool.eq_iff_iff];cases x;cases y;simp[Ja]
def ZL (x y:bU):(x.op==y.op&&(x.text==y.text&&true))=decide (x=y):=by
 rw[Bool.eq_iff_iff];cases x;cases y;simp[Ja]
def Fb (x y:M_):(x.status==y.status&&(x.kind==y.kind&&(x.body==y.body&&(x.age==y.age&&(x.shares==y.shares&&(x.bm==y.bm&&true))))))=decide (x=y):=by
 rw[Bool.eq_iff_iff];cases x;cases y;simp[Ja]
def O7 (x y:ax):(x.kind==y.kind&&((x.to.host==y.to.host&&(x.to.path==y.to.path&&true))&&(x.from_==y.from_&&(x.digest==y.digest&&true))))=decide (x=y):=by
 rw[Bool.eq_iff_iff];simp only[DP];cases x;cases y;simp[Ja]
def Z1 (x y:aF):(x.path==y.path&&((x.bd.status==y.bd.status&&(x.bd.kind==y.bd.kind&&(x.bd.body==y.bd.body&&(x.bd.age==y.bd.age&&(x.bd.shares==y.bd.shares&&(x.bd.bm==y.bd.bm&&true))))))&&true))=decide (x=y):=by
 rw[Bool.eq_iff_iff];simp only[Fb];cases x;cases y;simp[Ja]
def Ws (x y:bJ):(x.top==y.top&&((x.to.host==y.to.host&&(x.to.path==y.to.path&&true))&&((x.bd.status==y.bd.status&&(x.bd.kind==y.bd.kind&&(x.bd.body==y.bd.body&&(x.bd.age==y.bd.age&&(x.bd.shares==y.bd.shares&&(x.bd.bm==y.bd.bm&&true))))))&&(x.until_==y.until_&&true))))=decide (x=y):=by
 rw[Bool.eq_iff_iff];simp only[DP,Fb];cases x;cases y;simp[Ja]
def AdI (x y:dA):(x.top==y.top&&((x.to.host==y.to.host&&(x.to.path==y.to.path&&true))&&(x.guess==y.guess&&true)))=decide (x=y):=by
 rw[Bool.eq_iff_iff];simp only[DP];cases x;cases y;simp[Ja]
def Abt (x y:av):(x.mode==y.mode&&((x.to.host==y.to.host&&(x.to.path==y.to.path&&true))&&(x.digest==y.digest&&(x.node==y.node&&(x.done==y.done&&(x.code==y.code&&(x.body==y.body&&true)))))))=decide (x=y):=by
 rw[Bool.eq_iff_iff];simp only[DP];cases x;cases y;simp[Ja]
def RW (x y:Z_):((x.to.host==y.to.host&&(x.to.path==y.to.path&&true))&&(x.done==y.done&&(x.code==y.code&&(x.body==y.body&&true))))=decide (x=y):=by
 rw[Bool.eq_iff_iff];simp only[DP];cases x;cases y;simp[Ja]
def WU (x y:bv):((x.to.host==y.to.host&&(x.to.path==y.to.path&&true))&&((x.bd.status==y.bd.status&&(x.bd.kind==y.bd.kind&&(x.bd.body==y.bd.body&&(x.bd.age==y.bd.age&&(x.bd.shares==y.bd.shares&&(x.bd.bm==y.bd.bm&&true))))))&&(x.used==y.used&&true)))=decide (x=y):=by
 rw[Bool.eq_iff_iff];simp only[DP,Fb];cases x;cases y;simp[Ja]
def ZT (x y:ao):((x.to.host==y.to.host&&(x.to.path==y.to.path&&true))&&(x.left==y.left&&(x.guess==y.guess&&((x.bd.status==y.bd.status&&(x.bd.kind==y.bd.kind&&(x.bd.body==y.bd.body&&(x.bd.age==y.bd.age&&(x.bd.shares==y.bd.shares&&(x.bd.bm==y.bd.bm&&true))))))&&true))))=decide (x=y):=by
 rw[Bool.eq_iff_iff];simp only[DP,Fb];cases x;cases y;simp[Ja]
end Go.D
namespace Go.D
def Ao2:(∀ x:ai,(⟨x.kind,x.name,x.bq,x.text⟩:ai)=x)/\(∀ x:cT,(⟨x.name,x.text,x.parent,x.bq⟩:cT)=x)/\(∀ x:am,(⟨x.bj,x.bn⟩:am)=x)/\(∀ x:aA,(⟨x.set_,x.bt,x.styles,x.images,x.nonce⟩:aA)=x)/\(∀ x:A_,(⟨x.addr,x.bm,x.tok,x.bp,x.ended,x.ba,x.bf,x.bi,x.bh,x.block,x.inline,x.bo,x.bu,x.ran,x.log,x.loaded⟩:A_)=x)/\(∀ x:V_,(⟨x.host,x.files⟩:V_)=x)/\(∀ x:aZ,(⟨x.bh⟩:aZ)=x)/\(∀ x:P_,(⟨x.servers,x.cache,x.log,x.now⟩:P_)=x)/\(∀ x:N_,(⟨x.net,x.page,x.parts,x.conns,x.guesses⟩:N_)=x)/\(∀ x:bF,(⟨x.rules⟩:bF)=x)/\(∀ x:av,(⟨x.mode,x.to,x.digest,x.node,x.done,x.code,x.body⟩:av)=x)/\(∀ x:Z_,(⟨x.to,x.done,x.code,x.body⟩:Z_)=x)/\(∀ x:HO,(⟨x.host,x.path⟩:HO)=x)/\(∀ x:ax,(⟨x.kind,x.to,x.from_,x.digest⟩:ax)=x)/\(∀ x:M_,(⟨x.status,x.kind,x.body,x.age,x.shares,x.bm⟩:M_)=x)/\(∀ x:ao,(⟨x.to,x.left,x.guess,x.bd⟩:ao)=x)/\(∀ x:bv,(⟨x.to,x.bd,x.used⟩:bv)=x)/\(∀ x:bJ,(⟨x.top,x.to,x.bd,x.until_⟩:bJ)=x)/\(∀ x:dA,(⟨x.top,x.to,x.guess⟩:dA)=x)/\(∀ x:aF,(⟨x.path,x.bd⟩:aF)=x) :=
 by repeat' first|exact λ_=>rfl|constructor
def std:(type_of% @Ao2)/\(type_of% @Amb)/\(type_of% @Ap0)/\∀ {α:Type} (a b:α),(a≠b) = ¬a=b:=⟨Ao2,Amb,Ap0,λ_ _=>rfl⟩
def KP (a b:List Nat):List Nat:=a++(b++b.map (· + 1000000))
def lv:List (Nat×LInv)->W6
 | [],_=>none
 | (m,x)::r,n=>bif n==m then some x else lv r n
def Fct.p {S:Fct} {P:Program} {E:Env} {f:Nat} {fn:Func} (kp:List Nat) (L:As S.as->W6) (hE:EOk P E) (hf:P.funcs[f]? = some fn)
 (hh:∀ x,S.pre x->HoldsE (J5 P E (L x) kp [] fn (S.arg x)) (S.ctr x).post) (hc:(fn.body.isSome&&decide (S.as.length<=fn.ntmps))=true:=by kernel_rfl):S.ok P f:=by
 rw[T_] at hc;exact Fct.of (L:=L) hE hf hc.1 hc.2 hh
def Out.dr (S:Xct) (x:As S.as) (k:Ts S.rs->Out):Out:=.ob (S.pre x) (.lp (Ts S.rs) True (S.is x) k)
def Bk {Q:Post} {S:Xct} {x:As S.as} {k:Ts S.rs->Out} (hp:S.pre x) (hx:∀ y,S.is x y->(k y).holds Q):(Out.dr S x k).holds Q:=⟨hp,trivial,hx⟩
def BV {Q:Post} {S:Xct} {x:As S.as} {k:Ts S.rs->Out} (hp:S.pre x) (hx:S.pre x->∀ y,S.is x y->(k y).holds Q):(Out.dr S x k).holds Q:=⟨hp,trivial,hx hp⟩
def Out.lx (S:Xct) (y:Ts S.rs):Out:=.leaf (mkR S.rs y) [] []
def lxY {S:Xct} {x:As S.as} {y:Ts S.rs} (h:S.is x y):(Out.lx S y).holds (S.ctr x).post:=Xct.leafY y h
def Out.du (x:Out):Out:=.lp Bool True (λ_=>True) λy=>.br y x x
def AhO {Q:Post} {x:Out} (h:x.holds Q):(Out.du x).holds Q:=⟨trivial,λ_ _=>⟨λ_=>h,λ_=>h⟩⟩
def Xct.p {S:Xct} {P:Program} {E:Env} {f:Nat} {fn:Func} (kp:List Nat) (L:As S.as->W6) (hE:EOk P E) (hf:P.funcs[f]? = some fn)
 (hh:∀ x,S.pre x->HoldsE (J5 P E (L x) kp [] fn (S.arg x)) (S.ctr x).post) (hc:(fn.body.isSome&&decide (S.as.length<=fn.ntmps))=true:=by kernel_rfl):S.ok P f:=by
 rw[T_] at hc;exact Xct.of (L:=L) hE hf hc.1 hc.2 hh
def Xct.o {S:Xct} {P:Program} {E:Env} {f:Nat} {fn:Func} (kp:List Nat) (hE:EOk P E) (hf:P.funcs[f]? = some fn)
 (hh:∀ x,S.pre x->HoldsE (J5 P E (λ_=>none) kp [] fn (S.arg x)) (S.ctr x).post) (hc:(fn.body.isSome&&decide (S.as.length<=fn.ntmps))=true:=by kernel_rfl):S.ok P f:=Xct.p kp (λ_ _=>none) hE hf hh hc
def Out.bk (p:Prop):Out:=.ob p .ok
def AR {Q:Post} {p:Prop} (h:p):(Out.bk p).holds Q:=⟨h,trivial⟩
def Out.re {α:Type} (a:α) (x:Out):Out:=.ob (a=a) x
def Al {Q:Post} {α:Type} {a:α} {x:Out} (h:x.holds Q):(Out.re a x).holds Q:=⟨rfl,h⟩
def Out.ap (n k:Nat) (x:Out):Out:=.ob True (.ob (IM n k) x)
def FB {Q:Post} {n k:Nat} {x:Out} (h:IM n k) (hx:IM n k->x.holds Q):(Out.ap n k x).holds Q:=⟨trivial,h,hx h⟩
def Out.ix (i:Int) (n:Nat) (x:Out):Out:=.ob (0<=i/\i<n) (.ob (i.toNat<n) x)
def Ey {Q:Post} {i:Int} {n:Nat} {x:Out} (h:0<=i/\i<n) (hx:0<=i/\i<n->i.toNat<n->x.holds Q):(Out.ix i n x).holds Q:=by
 have:i.toNat<n:=O
 exact⟨h,this,hx h this⟩
def Out.lq (T:Type) (I:T->T->Prop) (m:T->Nat) (x0:T) (f:T->(T->Prop)->Out):Out:=.lp T (I x0 x0) (I x0) λy=>f y λx'=>I x0 x'/\m x'<m y
def Aqk {Q:Post} {T:Type} {I:T->T->Prop} {m:T->Nat} {x0:T} {f:T->(T->Prop)->Out} (hp:I x0 x0) (hx:∀ y,I x0 y->(f y λx'=>I x0 x'/\m x'<m y).holds Q):(Out.lq T I m x0 f).holds Q:=⟨hp,hx⟩
def Aqe:(type_of% @DP)/\(type_of% @Abr)/\(type_of% @LX)/\(type_of% @AaW)/\(type_of% @ZL)/\(type_of% @Fb)/\(type_of% @O7)/\(type_of% @Z1)/\(type_of% @Ws)/\(type_of% @AdI)/\(type_of% @Abt)/\(type_of% @RW)/\(type_of% @WU)/\(type_of% @ZT)/\(type_of% @Ja)/\(type_of% @Am0):=⟨@DP,@Abr,@LX,@AaW,@ZL,@Fb,@O7,@Z1,@Ws,@AdI,@Abt,@RW,@WU,@ZT,@Ja,@Am0⟩
def hy {Q:Post} {X:Out} {L:Prop} (h:L->X.holds Q:=by
 intro hL;repeat' first|(guard_target =~ Out.holds _ _;first|refine Y ?_|refine lxY ?_|refine Ai ?_ λ_=>?_|refine Ey ?_ λ_ _=>?_|refine FB ?_ λ_=>?_|refine Al ?_|refine AR ?_|refine AhO ?_|refine Aqk ?_ λ_ _=>?_|refine K6 ?_|refine Z (λ_=>?_) λ_=>?_|refine Ad ?_ λ_=>?_)|exact trivial
 all_goals (try simp only[↓Aqe,std,Nat.reduceAdd] at *)<;>(try simp(disch:=omega) only[FS,C_] at *)<;>(try simp(disch:=omega) only[G_,F_])<;>(first|trivial|omega|grind[FS,C_,B_,K_,I_,maxLen])):L->X.holds Q:=h
def hq {e:Out} {Q:Post} (X:Out) (hX:True->X.holds Q:=by exact hy) (h:e=X:=by kernel_rfl):HoldsE e Q:=⟨h▸hX trivial⟩
def hg {e:Out} {Q:Post} (X:Out) {L:Prop} (l:L) (hX:L->X.holds Q:=by exact hy) (h:e=X:=by kernel_rfl):HoldsE e Q:=⟨h▸hX l⟩
def hz {Q:Post} {X:Out} {L:Prop} (l:L) (h:L->X.holds Q:=by exact hy):X.holds Q:=h l
def an_ {a b:Prop} (h:a) (k:b):a/\b:=⟨h,k⟩
end Go.D
namespace Go.D
set_option linter.unusedSectionVars false
section
variable {α:Type} [DecidableEq α] [Inhabited α]
def Bw:List α->List α
 | []=>[]
 | [a]=>[a]
 | a::b::l=>if a=b then Bw (b::l) else a::Bw (b::l)
def Y4:∀ {l:List α} {x:α},x∈Bw l↔x∈l:=by
 intro l
 induction l with
 | nil=>simp[Bw]
 | cons a l ih=>
  intro x;cases l with
  | nil=>simp[Bw]
  | cons b l=>
   simp only[Bw];grind
def Gt (a b:α) (l:List α):Bw (a::b::l)=if a=b then Bw (b::l) else a::Bw (b::l):=rfl
def Uh:∀ (l:List α) (x:α),Bw (l++[x])=if l.getLast? = some x then Bw l else Bw l++[x]:=by
 intro l
 induction l with
 | nil=>intro x;rfl
 | cons a l ih=>
  intro x;cases l with
  | nil=>
   simp only[cy,eH,Bw,List.getLast?_singleton,R_];split<;>simp_all
  | cons b l=>
   have h:=ih x;simp only[cy] at h ⊢;rw[Gt,h,Gt,show(a::b::l).getLast? = (b::l).getLast? from by simp];grind
def HJ {l:List α} {k:Nat} (h0:0<k) (hk:k<l.length):Bw (l.take (k+1))=if l.getD k default=l.getD (k-1) default then Bw (l.take k) else Bw (l.take k)++[l.getD k default]:=by
 rw[Q_ hk,Uh];grind
def Px (l:List α) (h:l.length<=1):Bw l=l:=by
 match l,h with
 | [],_=>rfl
 | [_],_=>rfl
def X3:∀ (l:List α),(Bw l).length<=l.length:=by
 intro l
 induction l with
 | nil=>simp[Bw]
 | cons a l ih=>
  cases l with
  | nil=>simp[Bw]
  | cons b l=>simp only[Bw];split<;>simp only[aw] at *<;>omega
structure CompInv (s d:List α) (k0 k k2:Int):Prop where
 c2:1<=k2
 c0:1<=k0
 le:k0+k2<=s.length
 lo:k0<=k
 hi:k<k0+k2
 len:d.length=s.length
 dr:d.drop k.toNat=s.drop k.toNat
 tk:d.take k.toNat=Bw (s.take (k0+k2).toNat)
def LZ {s d:List α} {k i:Nat} (h:d.drop k=s.drop k) (hi:k<=i):d.getD i default=s.getD i default:=by
 have h1:(d.drop k)[i-k]? = (s.drop k)[i-k]?:=by rw[h]
 grind
def Ya {s:List α} {k:Int} (h1:1<=k) (h2:k<s.length) (hd:Bw (s.take k.toNat)=s.take k.toNat) (he:s.getD k.toNat default=s.getD (k-1).toNat default):CompInv s s k k 1:=by
 refine⟨O,h1,O,O,O,rfl,rfl,?_⟩;have:=HJ (l:=s) (k:=k.toNat) O O;rw[show(k-1).toNat=k.toNat-1 from O] at he;grind
def Acq {s:List α} {k:Int} (h1:1<=k) (h2:k<s.length) (hd:Bw (s.take k.toNat)=s.take k.toNat) (he:¬ s.getD k.toNat default=s.getD (k-1).toNat default):Bw (s.take (k+1).toNat)=s.take (k+1).toNat:=by
 have:=HJ (l:=s) (k:=k.toNat) O O;rw[show(k-1).toNat=k.toNat-1 from O] at he;rw[F_ he,hd] at this;rw[show(k+1).toNat=k.toNat+1 from O,this,Q_ O]
def CompInv.at_ {s d:List α} {k0 k k2:Int} (h:CompInv s d k0 k k2) (hlt:k0+k2<s.length) :
 d.getD (k0.toNat+k2.toNat) default=s.getD (k0+k2).toNat default/\d.getD (k0.toNat+(k2-1).toNat) default=s.getD ((k0+k2).toNat-1) default:=by
 obtain⟨a,b,c,e,f,g,i,j⟩:=h;refine⟨?_,?_⟩
 .rw[LZ i O];congr 1;omega
 .rw[LZ i O];congr 1;omega
def AdE {s d:List α} {k0 k k2:Int} (h:CompInv s d k0 k k2) (hlt:k0+k2<s.length) (he:d.getD (k0.toNat+k2.toNat) default=d.getD (k0.toNat+(k2-1).toNat) default):CompInv s d k0 k (k2+1):=by
 obtain⟨e1,e2⟩:=h.at_ hlt;have ht:=h.tk;obtain⟨a,b,c,e,f,g,i,j⟩:=h;refine⟨O,b,O,e,O,g,i,?_⟩;have:=HJ (l:=s) (k:=(k0+k2).toNat) O O;rw[<-e1,<-e2,G_ he] at this;rw[show(k0+(k2+1)).toNat=(k0+k2).toNat+1 from O,this,ht]
def AfQ {s d:List α} {k0 k k2:Int} (h:CompInv s d k0 k k2) (hlt:k0+k2<s.length) (he:¬ d.getD (k0.toNat+k2.toNat) default=d.getD (k0.toNat+(k2-1).toNat) default):CompInv s (d.modify k.toNat λ_=>d.getD (k0.toNat+k2.toNat) default) k0 (k+1) (k2+1):=by
 obtain⟨e1,e2⟩:=h.at_ hlt;have ht:=h.tk;obtain⟨a,b,c,e,f,g,i,j⟩:=h;have hk:k.toNat<d.length:=O
 refine⟨O,b,O,O,O,by simp[g],?_,?_⟩
 .rw[show(k+1).toNat=k.toNat+1 from O];have h1:(d.modify k.toNat λ_=>d.getD (k0.toNat+k2.toNat) default).drop (k.toNat+1)=d.drop (k.toNat+1):=by grind
  rw[h1];have:=cG (List.drop 1) i;simpa [List.drop_drop,Nat.add_comm] using this
 .have:=HJ (l:=s) (k:=(k0+k2).toNat) O O;rw[<-e1,<-e2,F_ he,<-ht] at this;rw[show(k0+(k2+1)).toNat=(k0+k2).toNat+1 from O,this,show(k+1).toNat=k.toNat+1 from O];rw[Q_ (by simpa using hk)];congr 1
  .apply List.ext_getElem?;intro x;simp only[fC,List.getElem?_modify];split
   .have hx:¬ k.toNat=x:=O
    simp_all
   .rfl
  .simp_all
def AfF {s d:List α} {k0 k k2:Int} (h:CompInv s d k0 k k2) (hge:s.length<=k0+k2) (r:List α):cut (Mz d k.toNat r) 0 (k.toNat-0)=Bw s:=by
 obtain⟨a,b,c,e,f,g,i,j⟩:=h;have hk:k.toNat<=d.length:=O
 rw[cC (show s.length<=(k0+k2).toNat from O)] at j;rw[<-j];simp[cut,Mz,cZ,Nat.min_eq_left hk]
end
def VT {α:Type} (xs ys:List α) (e:Nat):(Mz xs e ys).length=min e xs.length+ys.length+(xs.length-(e+ys.length)):=by simp[Mz];omega
def YE {α:Type} (xs:List α) (a n:Nat):(cut xs a n).length=min n (xs.length-a):=by simp[cut]
def Ah9 {α:Type} {l:List α} {i j m:Nat} (hj:j<=l.length) (hi:i<=j) (hm:m=l.length-j):(Mz l i (cut l j m)).take (i+m)=l.take i++l.drop j:=by
 have h1:cut l j m=l.drop j:=by simp[cut,hm,cC]
 rw[h1];have h2:(l.take i++l.drop j).length=i+m:=by simp;omega
 simp only[Mz];grind
end Go.D
namespace Go.D
open Go.Lib Go.Sort
def Uz (a b:ByteArray):Int:=compareBytes a.data.toList b.data.toList
def AgS:∀ l m:List UInt8,compareBytes l m = -1\/compareBytes l m=0\/compareBytes l m=1:=by
 intro l
 induction l with
 | nil=>intro m;cases m<;>simp[compareBytes]
 | cons a l ih=>
  intro m;cases m with
  | nil=>simp[compareBytes]
  | cons b m=>
   simp only[compareBytes];grind
def Ak8:∀ {l m:List UInt8},compareBytes l m=0↔l=m:=by
 intro l
 induction l with
 | nil=>intro m;cases m<;>simp[compareBytes]
 | cons a l ih=>
  intro m;cases m with
  | nil=>simp[compareBytes]
  | cons b m=>
   simp only[compareBytes,List.cons.injEq];grind
def AiP:∀ {l m:List UInt8},compareBytes m l = - compareBytes l m:=by
 intro l
 induction l with
 | nil=>intro m;cases m<;>simp[compareBytes]
 | cons a l ih=>
  intro m;cases m with
  | nil=>simp[compareBytes]
  | cons b m=>
   simp only[compareBytes];grind
def AfB:∀ {l m n:List UInt8},compareBytes l m<0->compareBytes m n<0->compareBytes l n<0:=by
 intro l
 induction l with
 | nil=>intro m n h1 h2;cases n with
  | nil=>cases m<;>simp[compareBytes] at h1 h2
  | cons c n=>simp[compareBytes]
 | cons a l ih=>
  intro m n h1 h2;cases m with
  | nil=>simp[compareBytes] at h1
  | cons b m=>
   cases n with
   | nil=>simp[compareBytes] at h2
   | cons c n=>
    simp only[compareBytes] at h1 h2 ⊢;grind
def Ajc:∀ {l m:List UInt8},Op.bytesLess l m=decide (compareBytes l m<0):=by
 intro l
 induction l with
 | nil=>intro m;cases m<;>simp[Op.bytesLess,compareBytes]
 | cons a l ih=>
  intro m;cases m with
  | nil=>simp[Op.bytesLess,compareBytes]
  | cons b m=>
   simp only[Op.bytesLess,compareBytes,ih];grind
def Acy (a b:ByteArray):Op.bytesLess a.toList b.toList=decide (Uz a b<0):=by
 rw[Ajc,Lib.toList_data,Lib.toList_data];rfl
def AkC {a b:ByteArray} (h:a.data.toList=b.data.toList):a=b:=by
 cases a;cases b;simpa using Array.toList_inj.1 h
def Jn {a b:ByteArray}:Uz a b=0↔a=b:=⟨λh=>AkC (Ak8.1 h),λh=>Ak8.2 (by rw[h])⟩
def Tq (a b:ByteArray):Uz b a = - Uz a b:=AiP
def O8 {a b c:ByteArray} (h1:Uz a b<0) (h2:Uz b c<0):Uz a c<0:=AfB h1 h2
def Lu (a b:ByteArray):Uz a b = -1\/Uz a b=0\/Uz a b=1:=AgS _ _
def fCmpStr:Fct:=⟨[aT,aT],[rI],λ_=>True,λx=>(Uz x.1 x.2.1,())⟩
def cmp (a b:HO):Int:=if Uz a.host b.host=0 then Uz a.path b.path else Uz a.host b.host
def X2 (a b:HO):cmp a b = -1\/cmp a b=0\/cmp a b=1:=by unfold cmp;split<;>exact Lu _ _
def FA {a b:HO}:cmp a b=0↔a=b:=by
 obtain⟨h,p⟩:=a;obtain⟨h',p'⟩:=b;simp only[cmp,HO.mk.injEq];split
 .rename_i e;rw[Jn,Jn.1 e];simp
 .rename_i e;constructor
  .omega
  .rintro⟨rfl,_⟩;exact absurd (Jn.2 rfl) e
def Fx (a b:HO):cmp b a = - cmp a b:=by
 have h1:=Tq a.host b.host;have h2:=Tq a.path b.path;unfold cmp;split<;>split<;>omega
def I3 {a b c:HO} (h1:cmp a b<0) (h2:cmp b c<0):cmp a c<0:=by
 unfold cmp at *
 split at h1
 .rename_i e1;rw[Jn.1 e1];split at h2
  .rename_i e2;rw[G_ e2];exact O8 h1 h2
  .omega
 .rename_i e1;split at h2
  .rename_i e2;rw[<-Jn.1 e2,F_ e1];exact h1
  .rename_i e2;have:=O8 h1 h2;omega
def ltF (cf:HO->HO->Int) (a b:HO):Bool:=decide (cf a b<0)
def ltA (a b:HO):ltF cmp a b=decide (cmp a b<0):=rfl
def AnM:SWO (ltF cmp) where
 irrefl x:=by rw[ltA,FA.2 rfl];rfl
 trans x y z h1 h2:=by simp only[ltA,az] at *;exact I3 h1 h2
 ntrans x y z h1 h2:=by
  simp only[ltA,cw,Int.not_lt] at *
  have a1:=Fx x y;have a2:=Fx y z;have a3:=Fx x z;rcases Int.lt_or_eq_of_le h1 with h|h
  .rcases Int.lt_or_eq_of_le h2 with h'|h'
   .have:=I3 (a:=z) (b:=y) (c:=x) O O;omega
   .rw[<-FA.1 h'.symm];omega
  .rw[FA.1 h.symm];omega
def Aqb (x y:HO) (h1:ltF cmp x y=false) (h2:ltF cmp y x=false):x=y:=by
 simp only[ltA,cw,Int.not_lt] at *
 have:=Fx x y;exact FA.1 O
abbrev Ji (l:List HO):Prop:=l.Pairwise λa b=>cmp a b<0
def QO:∀ {l:List HO},l.Pairwise (λa b=>cmp a b<=0)->Ji (Bw l):=by
 intro l
 induction l with
 | nil=>intro _;exact List.Pairwise.nil
 | cons a l ih=>
  intro h;cases l with
  | nil=>exact List.pairwise_singleton _ _
  | cons b l=>
   have h':=List.pairwise_cons.1 h;simp only[Bw];split
   .exact ih h'.2
   .rename_i e;refine List.pairwise_cons.2 ⟨λx hx=>?_,ih h'.2⟩;have hx':=Y4.1 hx;have hb:=h'.1 b dx;have hab:cmp a b<0:=by
     rcases Int.lt_or_eq_of_le hb with h1|h1
     .exact h1
     .exact absurd (FA.1 h1) e
    rcases au.1 hx' with e2|hin
    .rw[e2];exact hab
    .have h2:=(List.pairwise_cons.1 h'.2).1 x hin;rcases Int.lt_or_eq_of_le h2 with h3|h3
     .exact I3 hab h3
     .rw[<-FA.1 h3];exact hab
def YJ (l:List HO):List HO:=l.mergeSort λa b=>!(ltF cmp) b a
def SZ (l:List HO):(YJ l).Pairwise (λa b=>cmp a b<=0):=by
 have:=List.pairwise_mergeSort (le:=λa b=>!(ltF cmp) b a) (λa b c h1 h2=>by
  simp only[cO] at *
  exact AnM.ntrans _ _ _ h2 h1) (λa b=>by
  have:=Fx a b;by_cases h:cmp a b<0
  .have:¬ cmp b a<0:=O
   simp[ltA,this]
  .simp[ltA,h]) l
 refine this.imp λ{a b} h=>?_
 have h3:=Fx a b;simp only[ltA,cO,cw] at h;omega
def so (l:List HO):List HO:=Bw (YJ l)
def L4 (l:List HO):Ji (so l):=QO (SZ l)
end Go.D
