/-
  The library of the proof, part 3.
-/
import Derived.Test.YtmeicddakaciiaaGreatDoorVMb
import Derived.LoopN
import Derived.Carry
import Derived.ChangeOld
import Derived.ChangeArms
import Derived.ChangeShapes
import Derived.WideShapes
import Derived.ProofKit
import Derived.OpenShut
import Derived.Handed
import Derived.MakeChecks
import GoSem.ClaimGoes
set_option linter.unusedVariables false
set_option linter.unusedSimpArgs false
namespace Go.D
section
variable {P:Program} {E:Env} {F:Fr P} {G G':Gh} {σ σ' σb:St} {a a':Act} {w w':World} {o:Oper} {K:St->Out} {Q:Post} {Qx:Exit->Act->World->Prop} {ops:Array Oper}
theorem Oy {t:Tab} {S S':Nat->Bool} (h:∀ k,S k=true->S' k=true) {s:Nat} (hs:t.ok S s=true):t.ok S' s=true:=by
 unfold Tab.ok at hs ⊢;grind
theorem EK {t:Tab} {S:Nat->Bool} {i:Nat} (h:∀ k,S k=true->k<i) {s:Nat} (hs:t.ok S s=true):Hy t i s:=by
 intro k hk;unfold Tab.ok at hs;simp_all
theorem LW {t:Tab} {i:Nat} {B S:Nat->Bool} (h:RG F G (σb.view t S) a w) (hB:∀ k,B k=true->k<i) (hS:∀ k,B k=true->S k=true) (hl:Later t i σ σb):RG F G (σ.view t B) a w:=by
 refine h.weaken ?_ ?_ ?_ hl.fb.symm hl.fl.symm hl.nt.symm
 ·intro s x hx;rw[CA] at hx;split at hx
  ·rename_i hs;obtain⟨y,h1,h2⟩:=hl.tm1 s x (EK hB hs) hx;exact⟨y,by rw[CA,Qa2 (Oy hS hs)];exact h1,λv=>h2 w G v⟩
  ·cases hx
 ·intro s cs hx;rw[D8] at hx ⊢;split at hx
  ·rename_i hs;rw[Qa2 (Oy hS hs),hl.bx s (EK hB hs)];exact hx
  ·cases hx
 ·intro l T hx;rw[D7] at hx ⊢;split at hx
  ·rename_i hs;rw[Qa2 (Oy hS hs),hl.hp l (EK hB hs)];exact hx
  ·cases hx
theorem Nr {t:Tab} {i:Nat} {S:Nat->Bool} (h:RG F G σ a w) (hS:∀ k,S k=true->k<i) (hl:Later t i σ σb):RG F G (σb.view t S) a w:=by
 refine h.weaken ?_ ?_ ?_ hl.fb hl.fl hl.nt
 ·intro s x hx;rw[CA] at hx;split at hx
  ·rename_i hs;obtain⟨y,h1,h2⟩:=hl.tm2 s x (EK hS hs) hx;exact⟨y,h1,λv=>h2 w G v⟩
  ·cases hx
 ·intro s cs hx;rw[D8] at hx;split at hx
  ·rename_i hs;rw[<-hl.bx s (EK hS hs)];exact hx
  ·cases hx
 ·intro l T hx;rw[D7] at hx;split at hx
  ·rename_i hs;rw[<-hl.hp l (EK hS hs)];exact hx
  ·cases hx
theorem TJ {t:Tab} {i:Nat} {S:Nat->Bool} (h:RG F G (σ.view t S) a w) (hS:∀ k,S k=true->k<i) (hl:Later t i σ σb):RG F G (σb.view t S) a w:=by
 refine h.weaken ?_ ?_ ?_ hl.fb hl.fl hl.nt
 ·intro s x hx;rw[CA] at hx;split at hx
  ·rename_i hs;obtain⟨y,h1,h2⟩:=hl.tm2 s x (EK hS hs) hx;exact⟨y,by rw[CA,Qa2 hs];exact h1,λv=>h2 w G v⟩
  ·cases hx
 ·intro s cs hx;rw[D8] at hx ⊢;split at hx
  ·rename_i hs;rw[Qa2 hs,<-hl.bx s (EK hS hs)];exact hx
  ·cases hx
 ·intro l T hx;rw[D7] at hx ⊢;split at hx
  ·rename_i hs;rw[Qa2 hs,<-hl.hp l (EK hS hs)];exact hx
  ·cases hx
theorem HU {t:Tab} {S S':Nat->Bool} (h:RG F G (σ.view t S) a w) (he:∀ s,t.ok S' s=true->t.ok S s=true):RG F G (σ.view t S') a w:=by
 refine h.weaken ?_ ?_ ?_ rfl rfl rfl
 ·intro s x hx;rw[CA] at hx;split at hx
  ·rename_i hs;exact⟨x,by rw[CA,Qa2 (he s hs)];exact hx,λ_ h=>h⟩
  ·cases hx
 ·intro s cs hx;rw[D8] at hx ⊢;simp_all
 ·intro l T hx;rw[D7] at hx ⊢;simp_all
theorem KI {t:Tab} {S S':Nat->Bool} (h:RG F G (σ.view t S) a w) (he:∀ k,S' k=true->S k=true):RG F G (σ.view t S') a w:=HU h λ_ hs=>Oy he hs
theorem Tt {n:Nat} (h:RG F G (σ.view (AC ops) (λk=>decide (k<ops.size))) a w):RG F G σ a w:=by
 have hk:∀ s,(AC ops).ok (λk=>decide (k<ops.size)) s=true:=by
  intro s;unfold Tab.ok;cases e:look (AC ops).ws s with
  | none=>rfl
  | some k=>
   obtain⟨o,ho,_⟩:=Aan e;grind
 refine h.weaken ?_ ?_ ?_ rfl rfl rfl
 ·intro s x hx;exact⟨x,by rw[CA,Qa2 (hk s)];exact hx,λ_ h=>h⟩
 ·intro s cs hx;rw[D8,Qa2 (hk s)];exact hx
 ·intro l T hx;rw[D7,Qa2 (hk _)];exact hx
theorem AcO (hE:EOk P E) (hd:H7 ops=true) {k:Nat} {S:Nat->Bool} {σk σk1:St} (hf:OpFact P E ops k σk σk1) (hl:Later (AC ops) (k+1) σk1 σb) (hb:H6 (AC ops) σb=true) (hc:(AC ops).Closed S) (hS:S k=false)
 (hpre:∀ j,(AC ops).bit k j=true->S j=true) (h:RG F G (σb.view (AC ops) S) a w) {Kx:Act->World->Prop} (hK:∀ a' w' G',RG F G' (σb.view (AC ops) (λj=>S j||j==k)) a' w'->Kx a' w') :
 wpOp P ops Qx k Kx a w:=by
 have hf0:=hf;obtain⟨o,σr,wanted,ho,hg,hcl,hh⟩:=hf;have hmask:∀ j,(AC ops).bit k j=true->j<k:=λj hj=>AdE hd k j hj
 have lr:Later (AC ops) k σr σb:=by
  have hd0:=λd0 hd0=>(Eu hcl d0 hd0).1
  rcases hh with⟨_,σ',_,rfl⟩|⟨_,rfl⟩
  ·exact(Later.merge hd0).trans (hl.mono (Nat.le_succ k))
  ·exact(Later.merge hd0).trans (hl.mono (Nat.le_succ k))
 have lk:Later (AC ops) k σk σb:=(Later.guard hg).trans lr;have vk:=LW h hmask hpre lk;have vr:=LW h hmask hpre lr;have hw:=hg.wanted_ok vk;have hu:∀ d,o.dst=some d->∀ s,look (AC ops).ws s=some k->s=d:=by
  intro d hd s hs;obtain⟨o',ho',hd'⟩:=Aan hs;rw[ho] at ho';injection ho' with ho'
  subst ho';rw[hd] at hd';injection hd' with hd'
  exact hd'.symm
 have nob:∀ d,o.dst=some d->¬ Hy (AC ops) k d/\Hy (AC ops) (k+1) d:=by intro d hd;have h1:=(Eu hcl d hd).1;exact⟨λhb=>by have:=hb k h1;omega,λj hj=>by grind⟩
 have dlt:∀ d,o.dst=some d->d<a.tmps.size:=by intro d hd;have h1:=(Eu hcl d hd).2;have h2:a.tmps.size=σk.nt:=vk.nt;exact h2▸h1
 have noneOk:o.dst=none->∀ s,(AC ops).ok (λj=>S j||j==k) s=true->(AC ops).ok S s=true:=by
  intro hn s hs;unfold Tab.ok at hs ⊢;cases e:look (AC ops).ws s with
  | none=>rfl
  | some j=>
   rw[e] at hs;obtain⟨o',ho',hd'⟩:=Aan e;have:¬ j=k:=by
    intro ejk;subst ejk;rw[ho] at ho';injection ho' with ho'
    subst ho';rw[hn] at hd';cases hd'
   simpa [this] using hs
 unfold wpOp;rw[ho];dsimp only;rw[hw];have tmE:∀ d (σ':St),o.dst=some d->σk1=σr.merge o.dst σ'->(∀ x,look σb.tm d=some x->Imp (σ'.get d) x)/\(∀ cs,look σb.bx d=some cs->look σ'.bx d=some cs)/\∀ l T,l / 64=d->look σb.hp l=some T->look σ'.hp l=some T:=by
  intro d σ' hd he;have hb1:=(nob d hd).2;rw[hd] at he;subst he;refine⟨λx hx=>?_,λcs hx=>?_,λl T hld hx=>?_⟩
  ·obtain⟨y,h1,h2⟩:=hl.tm2 d x hb1 hx;rw[KX,Qa2 rfl] at h1;injection h1 with h1
   rw[h1];exact h2
  ·rw[hl.bx d hb1,Pg,Qa2 rfl] at hx;exact hx
  ·rw[hl.hp l (by grind),OZ,Qa2 hld] at hx;exact hx
 rcases hh with⟨rfl,σ',hst,he⟩|⟨rfl,he⟩
 ·simp only[Qe8];refine .inl (Oper.wp_mono ?_ (OE (cls:=true) hE vr hst));rintro a' w' ⟨σ'',G',hG',⟨_,rfl⟩,hext⟩;cases hdst:o.dst with
  | none=>
   obtain⟨v,rfl⟩:=hext.act;rw[hdst];refine hK _ _ G ?_;exact HU (hext.world h) (noneOk hdst)
  | some d=>
   obtain⟨v,rfl⟩:=hext.act;rw[hdst] at hext hG' ⊢;obtain⟨e1,e2,e3⟩:=tmE d σ'' hdst he;refine hK _ _ G' (N9 hc hS (Eu hcl d hdst).1 (hu d hdst) hb h (dlt d hdst) hG' hext e1 e2 e3)
 ·simp only[Qd4,Qe6];cases hdst:o.dst with
  | none=>exact hK _ _ G (HU h (noneOk hdst))
  | some d=>
   rw[hdst] at he;obtain⟨e1,e2,e3⟩:=tmE d (FG (some d) σr) hdst (by grind);have hG':RG F G (FG (some d) σr) (a.put (some d) undef) w:=by
    have:=(vr.skip (some d));refine this.weaken (λs x hx=>?_) (λs cs hx=>by simp[FG,look] at hx) (λl T hx=>by simp[FG,look] at hx) rfl rfl rfl;simp only[FG,look] at hx;split at hx
    ·rename_i e;injection hx with hx
     subst hx;refine⟨skp,?_,λ_ h=>h⟩;simp only[St.setTm,St.put,Eh,Qa2 (Qf4.1 e)]
    ·cases hx
   refine hK _ _ G (N9 hc hS (Eu hcl d hdst).1 (hu d hdst) hb h (dlt d hdst) hG' .same e1 e2 e3)
theorem Ae8 (hE:EOk P E) (hd:H7 ops=true) {k:Nat} {S:Nat->Bool} {σk:St} (ho:ops[k]? = some o) (hcl:IG (AC ops) k o σk=true) (hc:(AC ops).Closed S) (hS:S k=false) (hlt:∀ j,S j=true->j<k)
 (hpre:∀ j,(AC ops).bit k j=true->S j=true) (h:RG F G (σk.view (AC ops) S) a w) {f:St->Out} {X:St->St->Prop}
 (hf:∀ σ1,(f σ1).holds Q->∃ σb,X σ1 σb/\Later (AC ops) (k+1) σ1 σb/\H6 (AC ops) σb=true)
 (hh:(guarded ops o σk (σk.view (AC ops) ((AC ops).bit k)) (λσr=>(step P E true o (σr.view (AC ops) ((AC ops).bit k)) (.st .normal)).bindL (λσ'=>f (σr.merge o.dst σ'))) (λσr=>f (σr.merge o.dst (FG o.dst σr)))).holds Q) {Kx:Act->World->Prop}
 (hK:∀ σ1 σb a' w' G',X σ1 σb->Later (AC ops) k σk σ1->Later (AC ops) (k+1) σ1 σb->H6 (AC ops) σb=true->RG F G' (σb.view (AC ops) (λj=>S j||j==k)) a' w'->Kx a' w') :
 wpOp P ops Qx k Kx a w:=by
 obtain⟨σr,wanted,hg,hh⟩:=Fk hh;have hmask:∀ j,(AC ops).bit k j=true->j<k:=λj hj=>AdE hd k j hj
 have lg:=Later.guard (i:=k) hg;have vk:RG F G (σk.view (AC ops) ((AC ops).bit k)) a w:=KI h hpre;have vr:=LW (σ:=σr) (σb:=σr) (i:=k) (B:=(AC ops).bit k) (S:=S) (TJ h hlt lg) hmask hpre (Later.refl _ _ _);have hw:=hg.wanted_ok vk;have hd0:=λd0 hd0=>(Eu hcl d0 hd0).1
 have hu:∀ d,o.dst=some d->∀ s,look (AC ops).ws s=some k->s=d:=by
  intro d hd s hs;obtain⟨o',ho',hd'⟩:=Aan hs;rw[ho] at ho';injection ho' with ho'
  subst ho';rw[hd] at hd';injection hd' with hd'
  exact hd'.symm
 have nob:∀ d,o.dst=some d->Hy (AC ops) (k+1) d:=by intro d hd;have h1:=hd0 d hd;exact λj hj=>by grind
 have dlt:∀ d,o.dst=some d->d<a.tmps.size:=by intro d hd;have h1:=(Eu hcl d hd).2;have h2:a.tmps.size=σk.nt:=vk.nt;exact h2▸h1
 have noneOk:o.dst=none->∀ s,(AC ops).ok (λj=>S j||j==k) s=true->(AC ops).ok S s=true:=by
  intro hn s hs;unfold Tab.ok at hs ⊢;cases e:look (AC ops).ws s with
  | none=>rfl
  | some j=>
   rw[e] at hs;obtain⟨o',ho',hd'⟩:=Aan e;have:¬ j=k:=by
    intro ejk;subst ejk;rw[ho] at ho';injection ho' with ho'
    subst ho';rw[hn] at hd';cases hd'
   simpa [this] using hs
 have fin:∀ (σ':St) (G':Gh) (a':Act) (w':World),(f (σr.merge o.dst σ')).holds Q->RG F G' σ' a' w'->(∃ v,a'=a.put o.dst v)->Ext o.dst G a w G' a' w'->Kx a' w':=by
  intro σ' G' a' w' hq hG' hv hext;obtain⟨v,rfl⟩:=hv;obtain⟨σb,hX,hl,hb⟩:=hf _ hq;have lm:Later (AC ops) k σk (σr.merge o.dst σ'):=lg.trans (Later.merge hd0);have lb:Later (AC ops) k σk σb:=lm.trans (hl.mono (Nat.le_succ k));have hv2:=TJ h hlt lb;cases hdst:o.dst with
  | none=>
   refine hK _ σb _ _ G (by rw[hdst] at hX;exact hX) (by grind) (by rw[hdst] at hl;exact hl) hb ?_;exact HU (hext.world hv2) (noneOk hdst)
  | some d=>
   have hb1:=nob d hdst;rw[hdst] at hext hG' hX lm hl;refine hK _ σb _ _ G' hX lm hl hb (N9 hc hS (hd0 d hdst) (hu d hdst) hb hv2 (dlt d hdst) hG' hext ?_ ?_ ?_)
   ·intro x hx;obtain⟨y,h1,h2⟩:=hl.tm2 d x hb1 hx;rw[KX,Qa2 rfl] at h1;injection h1 with h1
    rw[h1];exact h2
   ·intro cs hx;rw[hl.bx d hb1,Pg,Qa2 rfl] at hx;exact hx
   ·intro l T hld hx;rw[hl.hp l (by grind),OZ,Qa2 hld] at hx;exact hx
 unfold wpOp;rw[ho];dsimp only;rw[hw];cases wanted with
 | true=>
  refine .inl (Oper.wp_mono ?_ (OE (cls:=true) hE vr (Out.bindL_holds hh)));rintro a' w' ⟨σ'',G',hG',⟨_,hq⟩,hext⟩;exact fin σ'' G' a' w' hq hG' hext.act hext
 | false=>
  refine fin (FG o.dst σr) G _ w hh ?_ ⟨_,rfl⟩ .same;have:=(vr.skip o.dst);refine this.weaken (λs x hx=>?_) (λs cs hx=>by simp[FG,look] at hx) (λl T hx=>by simp[FG,look] at hx) ?_ ?_ ?_
  ·cases hdst:o.dst with
   | none=>rw[hdst] at hx;simp[FG,look] at hx
   | some d=>
    rw[hdst] at hx;simp only[FG,look] at hx;split at hx
    ·rename_i e;injection hx with hx
     subst hx;refine⟨skp,?_,λ_ h=>h⟩;simp only[St.setTm,St.put,Eh,Qa2 (Qf4.1 e)]
    ·cases hx
  all_goals (cases o.dst<;>rfl)
def unl (S:Nat->Bool):Nat->Nat
 | 0=>0
 | n+1=>unl S n+(if S n then 0 else 1)
theorem Tn {S:Nat->Bool}:∀ {n:Nat},unl S n=0->∀ k,k<n->S k=true:=by
 intro n
 induction n with
 | zero=>intro _ k hk;omega
 | succ n ih=>
  intro h k hk;simp only[unl] at h;grind
theorem WV {S:Nat->Bool} {i:Nat} (hS:S i=false):∀ {n:Nat},(n<=i->unl (λk=>S k||k==i) n=unl S n)/\(i<n->unl (λk=>S k||k==i) n+1=unl S n):=by
 intro n
 induction n with
 | zero=>exact⟨λ_=>rfl,λh=>o_⟩
 | succ n ih=>
  refine⟨λh=>?_,λh=>?_⟩
  ·have:=ih.1 o_;have hne:¬ n=i:=o_
   simp[unl,this,hne]
  ·by_cases e:n=i
   ·subst e;have:=ih.1 (Qa8 _);simp[unl,this,hS]
   ·simp only[unl,e,Qf4,Qf6,or_false];omega
theorem TD {t:Tab} {b:Nat} (hc:QB t b=true) {k:Nat} (hk:k<t.n):(k<b->t.bit b k=true)/\(b<k->t.bit k b=true):=by
 unfold QB at hc;grind
theorem Ah5 (hE:EOk P E) (hd:H7 ops=true):∀ (f b:Nat) (σb:St) (G:Gh) (a:Act) (w:World) (listed:Array Bool),listed.size=ops.size->(∀ k,k<b->listed.getD k false=false->∃ σk σk1,OpFact P E ops k σk σk1/\Later (AC ops) (k+1) σk1 σb)->b<=ops.size ->
 (∀ k,k<b->listed.getD k false=false->H6 (AC ops) σb=true)->OJ P E ops K Q ops.size b σb ->
 RG F G (σb.view (AC ops) (λk=>listed.getD k false)) a w->(AC ops).Closed (λk=>listed.getD k false)->(∀ k,b<=k->listed.getD k false=false)->unl (λk=>listed.getD k false) ops.size<=f ->
 wpAny P .any ops (λe a w=>e=.normal/\Nz F K Q a w) f listed a w:=by
 intro f
 induction f with
 | zero=>
  intro b σb G a w listed hsz hops hb hok htail h hc hbk hu;have hall:=Tn (Nat.le_zero.1 hu);have hbn:b=ops.size:=by
   rcases Nat.lt_or_ge b ops.size with hlt|hge
   ·have:=hall b hlt;rw[hbk b (Qa8 _)] at this;cases this
   ·omega
  refine⟨?_,rfl,?_⟩
  ·refine List.eq_nil_iff_forall_not_mem.2 λx hx=>?_
   obtain⟨o,ho,hx1,_⟩:=(DD hsz).1 hx;rw[hall x (Array.getElem?_eq_some_iff.1 ho).1] at hx1;cases hx1
  ·rcases htail with⟨_,hh⟩|⟨hlt,_⟩|⟨hlt,_⟩
   ·exact⟨σb,⟨G,Tt (n:=ops.size) (KI h λk hk=>hall k (by grind))⟩,hh⟩
   ·omega
   ·omega
 | succ f ih=>
  intro b σb G a w listed hsz hops hb hok htail h hc hbk hu;have hdir:∀ k o,ops[k]? = some o->(∀ j∈Pw o,listed.getD j false=true)->∀ j,(AC ops).bit k j=true->listed.getD j false=true:=by
   intro k o ho hj j hb;obtain⟨e,he,hh⟩:=W4 ho hb;rcases hh with rfl|hh
   ·exact hj _ he
   ·exact hc e (hj e he) j hh
  constructor
  ·intro hnil;have hall:∀ k,k<ops.size->listed.getD k false=true:=by
    intro k
    induction k using Nat.strongRecOn with
    | ind k ihk=>
     intro hk;cases hl:listed.getD k false with
     | true=>rfl
     | false=>
      have:k∈Region.ready .any ops listed:=(DD hsz).2 ⟨ops[k],by simp,hl,λj hj=>by
       have hjk:j<k:=by unfold H7 at hd;rw[Qc5] at hd;have:=hd (ops[k],k) (by grind);rw[Qc5] at this;simpa using this j hj
       exact ihk j hjk o_⟩
      rw[hnil] at this;cases this
   have hbn:b=ops.size:=by
    rcases Nat.lt_or_ge b ops.size with hlt|hge
    ·have:=hall b hlt;rw[hbk b (Qa8 _)] at this;cases this
    ·omega
   refine⟨rfl,?_⟩;rcases htail with⟨_,hh⟩|⟨hlt,_⟩|⟨hlt,_⟩
   ·exact⟨σb,⟨G,Tt (n:=ops.size) (KI h λk hk=>hall k (by grind))⟩,hh⟩
   ·omega
   ·omega
  ·intro k hk;obtain⟨o,ho,hkl,hkd⟩:=(DD hsz).1 hk;have hkn:k<ops.size:=(Array.getElem?_eq_some_iff.1 ho).1;have hpre:=hdir k o ho hkd;have hget:∀ j,(listed.setIfInBounds k true).getD j false=(listed.getD j false||j==k):=λj=>Ea o_
   have hget':(λj=>(listed.setIfInBounds k true).getD j false)=λj=>listed.getD j false||j==k:=funext hget
   have hold:∀ j,(listed.setIfInBounds k true).getD j false=false->listed.getD j false=false/\j≠k:=by intro j hj;rw[hget,Bool.or_eq_false_iff] at hj;exact⟨hj.1,by grind⟩
   have hu':unl (λj=>(listed.setIfInBounds k true).getD j false) ops.size<=f:=by rw[hget'];have:=(WV (S:=λj=>listed.getD j false) hkl (n:=ops.size)).2 hkn;omega
   have hcl':(AC ops).Closed λj=>(listed.setIfInBounds k true).getD j false:=by rw[hget'];exact H3 _ hc hpre
   by_cases hkb:k<b
   ·obtain⟨σk,σk1,hf,hl⟩:=hops k hkb hkl;refine AcO hE hd hf hl (hok k hkb hkl) hc hkl hpre h λa' w' G' h'=>?_
    refine ih b σb G' a' w' _ (by simp[hsz]) (λj hj hj2=>hops j hj (hold j hj2).1) hb (λj hj hj2=>hok j hj (hold j hj2).1) htail (by grind) hcl' (λj hj=>?_) hu';rw[hget,hbk j hj];have:¬ j=k:=o_
    simpa using this
   ·rcases htail with⟨hbn,_⟩|⟨hbn,ob,hob,hcut,hh⟩|⟨hbn,ob,hob,hsemi,hcls,hh⟩
    ·omega
    ·-- the operation that must stand alone
     have hkb':k=b:=by
      rcases Nat.lt_or_ge b k with hlt|hge
      ·have:=hpre b ((TD hcut (show k<(AC ops).n from hkn)).2 hlt);rw[hbk b (Qa8 _)] at this;cases this
      ·omega
     subst hkb';rw[ho] at hob;injection hob with hob
     subst hob;have hall:∀ j,listed.getD j false=decide (j<k):=by
      intro j;by_cases hj:j<k
      ·rw[hpre j ((TD hcut (show j<(AC ops).n from(by show j<ops.size;omega))).1 hj)];simp[hj]
      ·rw[hbk j o_];simp[hj]
     have hv:RG F G (σb.view (AC ops) ((AC ops).bit k)) a w:=KI h λj hj=>hpre j hj
     obtain⟨σr,wanted,hg,hh⟩:=Fk hh;have hw:=hg.wanted_ok hv;have hr:=hg.retold hv hv;have next:∀ (σ':St) (G':Gh) (a':Act) (w':World),RG F G' σ' a' w'->(evR P E ops (AC ops) true (List.range' (k+1) (ops.size-(k+1))) σ' K).holds Q->wpAny P .any ops (λe a w=>e=.normal/\Nz F K Q a w) f (listed.setIfInBounds k true) a' w':=by
      intro σ' G' a' w' h' hh';obtain⟨b',σb',k1,k2,k3,k4⟩:=O2 (ops.size-(k+1)) (k+1) true σ' hh';rw[show k+1+(ops.size-(k+1))=ops.size from o_] at k2 k4;obtain⟨l1,l2,l3⟩:=k1.later;have hS:∀ j,(listed.setIfInBounds k true).getD j false=decide (j<k+1):=by
       intro j;rw[hget,hall];by_cases h1:j<k
       ·simp[h1,show j<k+1 from o_]
       ·by_cases h2:j=k
        ·simp[h2]
        ·simp[h1,h2,show ¬ j<k+1 from o_]
      have hge:∀ j,(listed.setIfInBounds k true).getD j false=false->k+1<=j:=by intro j hj;rw[hS] at hj;simpa using hj
      refine ih b' σb' G' a' w' _ (by simp[hsz]) (λj hj hj2=>l3 j (hge j hj2) hj) k2 (λj hj hj2=>k3.resolve_right (by grind)) k4 (Nr h' (λj hj=>?_) l2) hcl' (λj hj=>by rw[hS];simp;omega) hu';have:=hS j;rw[this] at hj;simpa using hj
     unfold wpOp;rw[ho];dsimp only;rw[hw];cases wanted with
     | true=>
      obtain⟨G2,hr2⟩:=Ta hr;exact .inl (Oper.wp_mono (λa1 w1 ⟨σ1,⟨G1,h1⟩,hh1⟩=>next σ1 G1 a1 w1 h1 hh1) (OE (cls:=false) hE hr2 hh))
     | false=>
      exact next _ G _ w (hr.skip o.dst) hh
    ·-- a cursor's call: all that comes later stands behind it
     have hkb':k=b:=by
      rcases Nat.lt_or_ge b k with hlt|hge
      ·have hb2:(AC ops).bit k b=true:=by
        unfold AiA at hsemi;rw[Qc5] at hsemi;have:=hsemi k (Qg5.2 (show k<(AC ops).n from hkn));have h2:¬ k<=b:=o_
        simpa [h2] using this
       have:=hpre b hb2;rw[hbk b (Qa8 _)] at this;cases this
      ·omega
     subst hkb';rw[ho] at hob;injection hob with hob
     subst hob;have hlt:∀ j,listed.getD j false=true->j<k:=by
      intro j hj;rcases Nat.lt_or_ge j k with h1|h1
      ·exact h1
      ·rw[hbk j h1] at hj;cases hj
     refine Ae8 hE hd ho hcls hc hkl hlt hpre h (f:=λσ1=>evR P E ops (AC ops) false (List.range' (k+1) (ops.size-(k+1))) σ1 K) (X:=λσ1 σb'=>∃ b',Seg P E ops (k+1) σ1 b' σb'/\b'<=ops.size/\OJ P E ops K Q ops.size b' σb') (λσ1 hq=>?_) hh ?_
     ·obtain⟨b',σb',k1,k2,k3,k4⟩:=O2 (ops.size-(k+1)) (k+1) false σ1 hq;rw[show k+1+(ops.size-(k+1))=ops.size from o_] at k2 k4;exact⟨σb',⟨b',k1,k2,k4⟩,k1.later.2.1,k3.resolve_right (by simp)⟩
     ·intro σ1 σb' a' w' G' ⟨b',k1,k2,k4⟩ l1 l2 hs2 h';obtain⟨m1,_,m3⟩:=k1.later;refine ih b' σb' G' a' w' _ (by simp[hsz]) (λj hj hj2=>?_) k2 (λj hj hj2=>hs2) k4 (by grind) hcl' (λj hj=>?_) hu'
      ·obtain⟨hj3,hne⟩:=hold j hj2;rcases Nat.lt_or_ge j k with h1|h1
       ·obtain⟨σj,σj1,hf,hl⟩:=hops j h1 hj3;exact⟨σj,σj1,hf,hl.trans ((l1.trans (l2.mono (Nat.le_succ k))).mono o_)⟩
       ·exact m3 j o_ hj
      ·rw[hget,hbk j o_];have:¬ j=k:=o_
       simpa using this
def TV.weak:TV->TV
 | .capd l _=>.v false [.ref l]
 | x=>x
def St.weak (σ:St):St:=σ.map id TV.weak
theorem RG.weak (h:RG F G σ a w):RG F G σ.weak a w:=h.map (λ_ _ h=>h) (λx v h=>by
 cases x<;>first|exact h|exact⟨_,rfl,h.1⟩)
def O1 (P:Program) (E:Env) (ops:Array Oper) (σ:St) (K:St->Out):Out :=
 bif P.follows .mixedOrders&&H7 ops then evR P E ops (AC ops) true (List.range' 0 ops.size) σ (λσ'=>K σ'.weak.lits) else .bad
theorem Ny (hE:EOk P E) (h:RG F G σ a w) (hh:(O1 P E ops σ K).holds Q):P.follows .mixedOrders=true/\wpAny P .any ops (λe a w=>e=.normal/\Nz F (λσ'=>K σ'.weak.lits) Q a w) ops.size (Array.replicate ops.size false) a { w with drawn:=w.drawn+1 }:=by
 unfold O1 at hh;cases hc:(P.follows .mixedOrders&&H7 ops) with
 | false=>simp[hc,Out.holds] at hh
 | true=>
  simp only[hc,Qd1] at hh;rw[Qa1] at hc;obtain⟨b,σb,k1,k2,k3,k4⟩:=O2 ops.size 0 true σ hh;rw[Qd6] at k2 k4;have h0:RG F G σ a { w with drawn:=w.drawn+1 }:=h.world ⟨rfl,rfl,⟨rfl,by first|exact DrLe.refl _|exact DrLe.succ _|exact DrLe.add _ _⟩,Qa8 _⟩ λ_ _=>rfl
  have hf:∀ k,(Array.replicate ops.size false).getD k false=false:=λk=>by by_cases hk:k<ops.size<;>simp[hk]
  refine⟨hc.1,Ah5 (K:=λσ'=>K σ'.weak.lits) hE hc.2 ops.size b σb G a _ _ (by simp) (λk hk _=>k1.later.2.2 k (Nat.zero_le _) hk) k2 (λk hk _=>k3.resolve_right o_) k4 (Nr h0 (λk hk=>by rw[hf] at hk;cases hk) k1.later.2.1) (λk hk=>by grind) (λk _=>hf k) ?_⟩;have:∀ n,unl (λk=>(Array.replicate ops.size false).getD k false) n<=n:=by
   intro n
   induction n with
   | zero=>exact Qa8 _
   | succ n ih=>simp only[unl];split<;>omega
  exact this _
def Agy:Md->Bool
 | .cur=>true
 | _=>false
def AbF (E:Env) (o:Oper):Bool:=match o.op with
 | .call c=>match c.callee with
  | .value (.func g)=>match E.fn g with
   | some (ms,_)=>ms.any Agy
   | none=>false
  | _=>false
 | _=>false
def Ajr (E:Env) (ops:Array Oper):Option (List Nat) :=
 match (List.range ops.size).filter λi=>AbF E (ops.getD i default) with
 | []=>none
 | cs=>some ((List.range (2*cs.length+2)).flatMap λkey=>(List.range ops.size).filter λk=>key==2*(cs.filter λi=>(AC ops).bit k i).length+(bif cs.contains k then 1 else 0))
def Sq (P:Program) (E:Env) (ops:Array Oper) (σ:St) (K:St->Out):Out :=
 match Ajr E ops with
 | none=>O1 P E ops σ K
 | some ord=>bif Ef ops.size ord then O1 P E (EH ops ord) σ K else .bad
theorem UJ (hE:EOk P E) (h:RG F G σ a w) (hh:(Sq P E ops σ K).holds Q):P.follows .mixedOrders=true /\
 wpAny P .any ops (λe a w=>e=.normal/\Nz F (λσ'=>K σ'.weak.lits) Q a w) ops.size (Array.replicate ops.size false) a { w with drawn:=w.drawn+1 }:=by
 unfold Sq at hh;split at hh
 ·exact Ny hE h hh
 ·rename_i ord _;cases hp:Ef ops.size ord with
  | false=>rw[hp] at hh;exact hh.elim
  | true=>
   rw[hp,Qd1] at hh;obtain⟨h1,h2⟩:=Ny hE h hh;rw[Hs hp] at h2;exact⟨h1,Nh hp _ _ _ _ _ (by simp) (by simp) (λj=>by
    have:∀ k,(Array.replicate ops.size false).getD k false=false:=λk=>by by_cases hk:k<ops.size<;>simp[hk]
    rw[this,this]) h2⟩
end
end Go.D
namespace Go.D
section
variable {P:Program} {E:Env} {F:Fr P} {G G':Gh} {σ σ' σb:St} {a a':Act} {w w':World} {o:Oper} {K:St->Out} {Q:Post} {R:Exit->Act->World->Prop} {ops:Array Oper}
def Agg (ops:Array Oper):Array Bool->List Nat->Prop
 | listed,[]=>Region.ready .any ops listed=[]
 | listed,i::L=>i∈Region.ready .any ops listed/\Agg ops (listed.setIfInBounds i true) L
def AeT (P:Program) (ops:Array Oper) (R:Exit->Act->World->Prop) (a:Act) (w:World):Prop:=∀ L,Agg ops (Array.replicate ops.size false) L->wpOps P ops R L a w
theorem Qj:∀ (f:Nat) (listed:Array Bool) (a:Act) (w:World),wpAny P .any ops R f listed a w->∀ L,Agg ops listed L->wpOps P ops R L a w:=by
 intro f
 induction f with
 | zero=>
  intro listed a w h L hv;cases L with
  | nil=>exact h.2
  | cons i L=>
   have:=hv.1;rw[h.1] at this;cases this
 | succ f ih=>
  intro listed a w h L hv;cases L with
  | nil=>exact h.1 hv
  | cons i L=>
   rw[wpOps_cons];exact wpOp_mono (λa' w' h'=>ih _ a' w' h' L hv.2) (h.2 i hv.1)
theorem NY {i k:Nat} {listed:Array Bool} (hs:listed.size=ops.size) (j:Nat):j∈Region.ready .any (JS ops i k) listed↔(j∈Region.ready .any ops listed/\(j=i->listed.getD k false=true)):=by
 rw[DD (ops:=JS ops i k) (by rw[Hu,hs]),DD hs];constructor
 ·rintro⟨o,ho,h1,h2⟩;cases hoj:ops[j]? with
  | none=>rw[IV hoj] at ho;cases ho
  | some o'=>
   rw[HN hoj] at ho;injection ho with ho
   by_cases e:j=i
   ·rw[Qa2 e] at ho;subst ho;exact⟨⟨o',rfl,h1,λx hx=>h2 x (Gz.2 (.inl hx))⟩,λ_=>h2 k (Gz.2 (.inr rfl))⟩
   ·simp_all
 ·rintro⟨⟨o,ho,h1,h2⟩,h3⟩;refine⟨_,HN ho,h1,λx hx=>?_⟩;by_cases e:j=i
  ·rw[Qa2 e] at hx;rcases Gz.1 hx with hx|hx
   ·exact h2 x hx
   ·rw[hx];exact h3 e
  ·simp_all
def AbI (k i:Nat):List Nat->Prop
 | []=>True
 | j::L=>j=k\/(j≠i/\AbI k i L)
theorem Ur (k i:Nat):∀ L:List Nat,AbI k i L\/AbI i k L
 | []=>.inl trivial
 | j::L=>by
  by_cases h1:j=k
  ·exact .inl (.inl h1)
  ·by_cases h2:j=i
   ·exact .inr (.inl h2)
   ·rcases Ur k i L with h|h
    ·exact .inl (.inr ⟨h2,h⟩)
    ·exact .inr (.inr ⟨h1,h⟩)
theorem Qg {i k:Nat} (hik:i≠k):∀ (L:List Nat) (listed:Array Bool),listed.size=ops.size->Agg ops listed L->(listed.getD k false=true\/AbI k i L)->Agg (JS ops i k) listed L:=by
 intro L
 induction L with
 | nil=>
  intro listed hs hv _;refine List.eq_nil_iff_forall_not_mem.2 λj hj=>?_
  have:=((NY hs j).1 hj).1;rw[hv] at this;cases this
 | cons j L ih=>
  intro listed hs hv hk;have hjl:j<listed.size:=by obtain⟨o,ho,_⟩:=(DD hs).1 hv.1;grind
  refine⟨(NY hs j).2 ⟨hv.1,λe=>?_⟩,ih _ (by simp[hs]) hv.2 ?_⟩
  ·rcases hk with hk|hk|hk
   ·exact hk
   ·omega
   ·exact absurd e hk.1
  ·rcases hk with hk|hk|hk
   ·exact .inl (by rw[Ea hjl,hk];rfl)
   ·simp_all
   ·exact .inr hk.2
theorem Jx {i k:Nat}:∀ (L:List Nat) (a:Act) (w:World),wpOps P (JS ops i k) R L a w->wpOps P ops R L a w
 | [],_,_,h=>h
 | j::L,a,w,h=>by rw[wpOps_cons] at h ⊢;exact wpOp_mono (λa' w'=>Jx L a' w') (I6 h)
theorem UX {i k:Nat} (hik:i≠k) (h1:AeT P (JS ops i k) R a w) (h2:AeT P (JS ops k i) R a w):AeT P ops R a w:=by
 intro L hv;unfold AeT at h1 h2;rw[Hu] at h1 h2;rcases Ur k i L with h|h
 ·exact Jx L a w (h1 L (Qg hik L _ (by simp) hv (.inr h)))
 ·exact Jx L a w (h2 L (Qg (Ne.symm hik) L _ (by simp) hv (.inr h)))
theorem Ae1:∀ (f t:Nat) (listed:Array Bool),listed.size=ops.size->unl (λk=>listed.getD k false) ops.size<=f->Agg ops listed (Region.linearise.go .any ops f t listed []):=by
 intro f
 induction f with
 | zero=>
  intro t listed hs hu;have hall:=Tn (Nat.le_zero.1 hu);refine List.eq_nil_iff_forall_not_mem.2 λj hj=>?_
  obtain⟨o,ho,h1,_⟩:=(DD hs).1 hj;grind
 | succ f ih=>
  intro t listed hs hu;simp only[Region.linearise.go]
  change Agg ops listed (match (Region.ready .any ops listed)[t % (Region.ready .any ops listed).length]? with
   | some i=>Region.linearise.go .any ops f (t / (Region.ready .any ops listed).length) (listed.setIfInBounds i true) [i]
   | none=>[].reverse)
  cases hi:(Region.ready .any ops listed)[t % (Region.ready .any ops listed).length]? with
  | none=>
   show Region.ready .any ops listed=[];cases hr:Region.ready .any ops listed with
   | nil=>rfl
   | cons x xs=>
    rw[hr] at hi;have hlt:t % (x::xs).length<(x::xs).length:=Nat.mod_lt _ (by simp);grind
  | some i=>
   simp only[];rw[linearise_go_acc,List.reverse_singleton,List.singleton_append];have hm:=Qf7 hi;refine⟨hm,ih _ _ (by simp[hs]) ?_⟩;obtain⟨o,ho,h1,_⟩:=(DD hs).1 hm;have hlt:=(Array.getElem?_eq_some_iff.1 ho).1;rw[show(λk=>(listed.setIfInBounds i true).getD k false)=λk=>listed.getD k false||k==i from funext λk=>Ea o_];have:=(WV (S:=λk=>listed.getD k false) h1 (n:=ops.size)).2 hlt;omega
theorem S7 {id:Nat} (hm:P.follows .mixedOrders=true) (h:AeT P ops R a { w with drawn:=w.drawn+1 }):(Code.region id ops true).wp P R a w :=
 wp_region_draw λt=>by
  simp only[Region.schedule,hm,Bool.true_or,Qe8];refine h _ (Ae1 ops.size t _ (by simp) ?_);have:∀ n,unl (λk=>(Array.replicate ops.size false).getD k false) n<=n:=by
   intro n
   induction n with
   | zero=>exact Qa8 _
   | succ n ih=>simp only[unl];split<;>omega
  exact this _
def Ua (ops:Array Oper):Nat->List Nat->List Nat
 | 0,done=>done
 | f+1,done=>match (List.range ops.size).find? (λj=>!done.contains j&&(Pw (ops.getD j default)).all λe=>done.contains e) with
  | some j=>Ua ops f (done++[j])
  | none=>done
def Aep (P:Program) (E:Env) (ops:Array Oper) (σ:St) (K:St->Out):Out:=Sq P E (SJ ops (Af3 ops)) σ K
def TH (P:Program) (E:Env) (ops:Array Oper) (σ:St) (K:St->Out):Out :=
 bif H7 ops then Aep P E ops σ K else bif Ef ops.size (Ua ops ops.size []) then Aep P E (EH ops (Ua ops ops.size [])) σ K else .bad
def AdW (ops:Array Oper):Nat->List Nat->List Nat
 | 0,T=>T
 | f+1,T=>AdW ops f (ops.toList.map λo=>Kj T (Pw o))
def Aft (ops:Array Oper):Option (Nat×Nat) :=
 let st:=(List.range ops.size).filter λi=>Ajp (ops.getD i default)
 bif st.isEmpty then none else
  let T:=AdW ops ops.size []
  (st.flatMap λb=>((List.range ops.size).filter λu=>!(Aku (ops.getD u default)||Aik (ops.getD u default))).map λu=>(b,u)).find? λx=>!(x.1==x.2) && !(T.getD x.1 0).testBit x.2 && !(T.getD x.2 0).testBit x.1
def MV (P:Program) (E:Env):Nat->Array Oper->St->(St->Out)->Out
 | 0,ops,σ,K=>TH P E ops σ K
 | f+1,ops,σ,K=>match Aft ops with
  | none=>TH P E ops σ K
  | some (b,u)=>bif b==u then .bad else .lp Bool True (λ_=>True) λy=>.br y (MV P E f (JS ops b u) σ K) (MV P E f (JS ops u b) σ K)
def AdN (P:Program) (E:Env) (ops:Array Oper) (σ:St) (K:St->Out):Out:=MV P E 6 ops σ K
theorem Ir (n k:Nat):(Array.replicate n false).getD k false=false:=by by_cases hk:k<n<;>simp[hk]
theorem TU (hE:EOk P E) (h:RG F G σ a w) (hh:(Aep P E ops σ K).holds Q):P.follows .mixedOrders=true /\
 wpAny P .any ops (λe a w=>e=.normal/\Nz F (λσ'=>K σ'.weak.lits) Q a w) ops.size (Array.replicate ops.size false) a { w with drawn:=w.drawn+1 }:=by
 obtain⟨h1,h2⟩:=UJ hE h hh;rw[J7] at h2;exact⟨h1,L9 (λ_ _ _ h=>h.1) _ _ _ _ _ _ (by simp) (λk hk=>by rw[Ir] at hk;cases hk) h2⟩
theorem Qt (hE:EOk P E) (h:RG F G σ a w) (hh:(TH P E ops σ K).holds Q):P.follows .mixedOrders=true /\
 AeT P ops (λe a w=>e=.normal/\Nz F (λσ'=>K σ'.weak.lits) Q a w) a { w with drawn:=w.drawn+1 }:=by
 unfold TH at hh;cases hd:H7 ops with
 | true=>
  rw[hd,Qd1] at hh;obtain⟨h1,h2⟩:=TU hE h hh;exact⟨h1,Qj _ _ _ _ h2⟩
 | false=>
  rw[hd,Qe7] at hh;cases hp:Ef ops.size (Ua ops ops.size []) with
  | false=>rw[hp] at hh;exact hh.elim
  | true=>
   rw[hp,Qd1] at hh;obtain⟨h1,h2⟩:=TU hE h hh;rw[Hs hp] at h2;exact⟨h1,Qj _ _ _ _ (Nh hp _ _ _ _ _ (by simp) (by simp) (λj=>by rw[Ir,Ir]) h2)⟩
theorem Wl (hE:EOk P E) (h:RG F G σ a w):∀ (f:Nat) (ops:Array Oper),(MV P E f ops σ K).holds Q->P.follows .mixedOrders=true /\
 AeT P ops (λe a w=>e=.normal/\Nz F (λσ'=>K σ'.weak.lits) Q a w) a { w with drawn:=w.drawn+1 }:=by
 intro f
 induction f with
 | zero=>intro ops hh;exact Qt hE h hh
 | succ f ih=>
  intro ops hh;unfold MV at hh;split at hh
  ·exact Qt hE h hh
  ·rename_i b u _;cases hb:(b==u) with
   | true=>rw[hb] at hh;exact hh.elim
   | false=>
    rw[hb,Qe7] at hh;obtain⟨h1,h2⟩:=ih _ ((hh.2 true trivial).1 rfl);obtain⟨_,h3⟩:=ih _ ((hh.2 false trivial).2 rfl);exact⟨h1,UX (by simpa using hb) h2 h3⟩
theorem Zu {id:Nat} (hE:EOk P E) (h:RG F G σ a w) (hh:(AdN P E ops σ K).holds Q):(Code.region id ops true).wp P (λe a w=>e=.normal/\Nz F K Q a w) a w:=by
 obtain⟨h1,h2⟩:=Wl hE h 6 ops hh;refine Code.wp_mono (λe a w ⟨he,σ',⟨G',h'⟩,hh'⟩=>?_) (S7 h1 h2);obtain⟨G2,h2⟩:=Ta h'.weak;exact⟨he,σ'.weak.lits,⟨G2,h2⟩,hh'⟩
end
end Go.D
namespace Go.D
inductive Sh where
 | el (t:Ty)
 | sl (t:Ty)
abbrev Sh.X:Sh->Type
 | .el t=>El t
 | .sl t=>List (El t)
def Sh.fc:(s:Sh)->s.X->List FC
 | .el t,x=>enc t x
 | .sl t,xs=>[.l t xs]
def Sh.dec:(s:Sh)->List FC->Option s.X
 | .el t,ds=>D.dec t ds
 | .sl t,[c]=>Ais t c
 | .sl _,_=>none
def Ty.agg:Ty->Bool
 | .int=>false
 | .str=>false
 | .bool=>false
 | .u8=>false
 | _=>true
def Sh.agg:Sh->Bool
 | .el t=>t.agg
 | .sl _=>false
theorem Sh.dec_ok {s:Sh} {ds:List FC} {x:s.X} (h:s.dec ds=some x):FcsLe ds (s.fc x):=by
 cases s with
 | el t=>exact D.dec_ok t ds x h
 | sl t=>
  cases ds with
  | nil=>simp[Sh.dec] at h
  | cons c ds=>
   cases ds with
   | nil=>exact .cons (W7 h) .nil
   | cons d ds=>simp[Sh.dec] at h
theorem AcP (t:Ty):t.width<=64:=by cases t<;>decide
theorem Sh.fc_len (s:Sh) (x:s.X):(s.fc x).length<=64:=by
 cases s with
 | el t=>rw[Sh.fc,Lg];exact AcP t
 | sl t=>simp[Sh.fc]
inductive Pk where
 | s
 | b
 | t
structure Vr where
 k:Pk
 p:Nat
 own:Bool
 sh:Sh
abbrev Xs:List Vr->Type
 | []=>Unit
 | v::vs=>v.sh.X×Xs vs
def Vr.cells (v:Vr) (σ:St):Option (List Cell) :=
 match v.k with
 | .b=>look σ.bx v.p
 | .s=>match look σ.tm v.p with
  | some (.v agg cs)=>bif agg==v.sh.agg then some cs else none
  | _=>none
 | .t=>none
def Sh.ofTree:(s:Sh)->Tree->Option s.X
 | .sl t,T=>if h:T.t=t then some (h▸T.xs) else none
 | .el _,_=>none
def Sh.toTree:(s:Sh)->s.X->Tree
 | .sl t,xs=>⟨t,xs⟩
 | .el t,x=>⟨t,[x]⟩
theorem Sh.tree_ok {s:Sh} {T:Tree} {x:s.X} (h:s.ofTree T=some x):s.toTree x=T:=by
 cases s with
 | el t=>simp[Sh.ofTree] at h
 | sl t=>
  obtain⟨t',xs⟩:=T;simp only[Sh.ofTree] at h;split at h
  ·rename_i e;subst e;simp only[Qa0] at h;subst h;rfl
  ·cases h
def Vr.isT (v:Vr):Bool:=match v.k with
 | .t=>true
 | _=>false
def Vr.grab (v:Vr) (σ:St):Option (v.sh.X×List Nat) :=
 match v.isT with
 | true=>match look σ.hp v.p with
  | some T=>match v.sh.ofTree T with
   | some x=>some (x,[])
   | none=>none
  | none=>none
 | false=>match v.cells σ with
 | some cs=>match v.own with
  | true=>match Pu σ cs with
   | some (ds,ab)=>match v.sh.dec ds with
    | some x=>some (x,ab)
    | none=>none
   | none=>none
  | false=>match FJ cs with
   | some ds=>match v.sh.dec ds with
    | some x=>some (x,[])
    | none=>none
   | none=>none
 | none=>none
def J0 (σ:St):(vs:List Vr)->Option (Xs vs×List Nat)
 | []=>some ((),[])
 | v::vs=>match v.grab σ,J0 σ vs with
  | some (x,ab),some (xs,ab')=>some ((x,xs),ab++ab')
  | _,_=>none
def Vr.q (v:Vr):Nat:=v.p+1000000
def Vr.to (v:Vr) (x:v.sh.X):List Cell:=bif v.own then DL (64*v.q) (v.sh.fc x) else(v.sh.fc x).map (toCell none)
def Vr.set (v:Vr) (x:v.sh.X) (σ:St):St :=
 let σ1:={ σ with hp:=(bif v.own then ED (64*v.q) (v.sh.fc x) else[])++σ.hp }
 match v.k with
 | .b=>{ σ1 with bx:=(v.p,v.to x)::σ1.bx }
 | .s=>{ σ1 with tm:=(v.p,.v v.sh.agg (v.to x))::σ1.tm }
 | .t=>{ σ with hp:=(v.p,v.sh.toTree x)::σ.hp }
def FL (σ:St):(vs:List Vr)->Xs vs->St
 | [],_=>σ
 | v::vs,x=>v.set x.1 (FL σ vs x.2)
def Cell.memfree (hs:List Nat):Cell->Bool
 | .sc _=>true
 | .tt=>true
 | .ff=>true
 | .nil=>true
 | .im none _ _=>true
 | .ref l=>hs.contains l
 | .sub l _ _ _=>hs.contains l
 | _=>false
def TV.memfree (hs:List Nat):TV->Bool
 | .v _ cs=>cs.all (·.memfree hs)
 | .ptr _ _=>true
 | .sptr none _ _ _=>true
 | .aptr _ _=>true
 | .clo _ _=>true
 | .cur=>true
 | .dead=>true
 | _=>false
def pOf:List Vr->List Nat
 | []=>[]
 | v::vs=>bif v.isT then pOf vs else v.q::pOf vs
def hOf:List Vr->List Nat
 | []=>[]
 | v::vs=>bif v.isT then v.p::hOf vs else hOf vs
def HY (σ:St) (vs:List Vr) (ab:List Nat):Bool :=
 Bn ab&&Bn (pOf vs)&&Qz σ.fl (λm=>(pOf vs).contains (m / 64))&&(hOf vs).all λl=>!(pOf vs).contains (l / 64) && !ab.contains l
section
variable {P:Program} {E:Env} {F:Fr P} {G G':Gh} {σ σ' σb:St} {a a':Act} {w w':World} {o:Oper} {K:St->Out} {Q:Post} {Qx:Exit->Act->World->Prop}
theorem Kt {hs:List Nat} {c:Cell} (h:c.memfree hs=true):(∀ m,c.refs m=true->m∈hs)/\∀ m,c.mems m=false:=by
 cases c with
 | im s t xs=>cases s with
  | none=>exact⟨λm hm=>by simp[Cell.refs] at hm,λ_=>rfl⟩
  | some l=>simp[Cell.memfree] at h
 | ref l=>exact⟨λm hm=>by simp[Cell.refs] at hm;subst hm;simpa [Cell.memfree] using h,λ_=>rfl⟩
 | sub l k lo n=>exact⟨λm hm=>by simp[Cell.refs] at hm;subst hm;simpa [Cell.memfree] using h,λ_=>rfl⟩
 | dead=>simp[Cell.memfree] at h
 | _=>exact⟨λm hm=>by simp[Cell.refs] at hm,λ_=>rfl⟩
theorem Nc {hs:List Nat} {x:TV} (h:x.memfree hs=true):(∀ m,x.refs m=true->m∈hs)/\∀ m,x.mems m=false:=by
 cases x with
 | v agg cs=>
  refine⟨λm hm=>?_,λm=>?_⟩
  ·obtain⟨c,hc,hr⟩:=Qc4.1 (show cs.any (·.refs m)=true from hm);exact(Kt (Qc5.1 h c hc)).1 m hr
  ·simp only[TV.mems,List.any_eq_false];intro c hc;rw[(Kt (Qc5.1 h c hc)).2 m];simp
 | inn l k i off t xs=>simp[TV.memfree] at h
 | capd l c=>simp[TV.memfree] at h
 | sptr s t x off=>cases s with
  | none=>exact⟨λm hm=>by simp[TV.refs] at hm,λ_=>rfl⟩
  | some l=>simp[TV.memfree] at h
 | tup ps=>simp[TV.memfree] at h
 | eptr l k i off=>simp[TV.memfree] at h
 | _=>exact⟨λm hm=>by simp[TV.refs] at hm,λ_=>rfl⟩
def Vr.At (v:Vr) (G:Gh) (a:Act) (w:World) (us:List Value):Prop :=
 match v.k with
 | .t=>True
 | .b=>G.ow (G.be v.p)=.box v.p/\∃ r e,w.heap[G.be v.p]? = some (.cells r e (0,0))/\r.toList=us
 | .s=>∀ (G':Gh) (w':World) (ds:List Cell),ds.length=us.length->(∀ (j:Nat) (c:Cell) (u:Value),ds[j]? = some c->us[j]? = some u->CellR w' G' c u)->TVR w' G' (.v v.sh.agg ds) (a.tmps.getD v.p undef)
theorem Aco (h:RG F G σ a w) {v:Vr} {cs:List Cell} (hc:v.cells σ=some cs):∃ us:List Value,us.length=cs.length/\v.At G a w us/\∀ (j:Nat) (c:Cell) (u:Value),cs[j]? = some c->us[j]? = some u->CellR w G c u:=by
 obtain⟨bx,p,own,sh⟩:=v;unfold Vr.cells at hc;cases bx with
 | t=>cases hc
 | b=>
  dsimp only at hc;obtain⟨h1,r,e,h2,h3⟩:=h.bx p cs hc;refine⟨r.toList,by simpa using h3.1,⟨h1,r,e,h2,rfl⟩,λj c u hj hu=>?_⟩;obtain⟨u',hu',hr⟩:=h3.2 j c hj;simp_all
 | s=>
  dsimp only at hc;split at hc
  ·rename_i agg cs' hl;cases ha:(agg==sh.agg) with
   | false=>simp[ha] at hc
   | true=>
    simp only[ha,Qd1,Qa0] at hc;subst hc;have ha':agg=sh.agg:=by simpa using ha
    have hx:=h.tm p _ hl;cases agg with
    | false=>
     obtain⟨c,rfl,hcr⟩:=hx;refine⟨[a.tmps.getD p undef],rfl,λG' w' ds hl' hds=>?_,λj c' u hj hu=>?_⟩
     ·obtain⟨d,rfl⟩:=Qe4.1 hl';show TVR w' G' (.v sh.agg [d]) _;rw[<-ha'];exact⟨d,rfl,hds 0 d _ rfl rfl⟩
     ·grind
    | true=>
     obtain⟨vs,hv,hs,hcr⟩:=hx;refine⟨vs.toList,by simpa using hs,λG' w' ds hl' hds=>?_,λj c u hj hu=>?_⟩
     ·show TVR w' G' (.v sh.agg ds) (a.tmps.getD p undef);rw[<-ha',hv];refine⟨vs,rfl,by simpa using hl'.symm,λj c hj=>?_⟩;have hlt:j<vs.size:=by grind
      exact⟨vs[j],by simp[hlt],hds j c vs[j] hj (by simp[hlt])⟩
     ·grind
  ·cases hc
end
end Go.D
namespace Go.D
section
variable {P:Program} {E:Env} {F:Fr P} {G G1 G':Gh} {σ σ' σb:St} {a a':Act} {w w':World} {o:Oper} {K:St->Out} {Q:Post} {Qx:Exit->Act->World->Prop}
theorem RG.consTm (h:RG F G σ a w) {p:Nat} {x:TV} (hx:TVR w G x (a.tmps.getD p undef)):RG F G { σ with tm:=(p,x)::σ.tm } a w:=by
 refine⟨?_,h.bx,h.hp,h.lt,h.os,h.tape,h.output,h.size,h.keep,h.fb,h.fl,h.nt,h.df⟩;intro t tv hl;simp only[look] at hl;split at hl
 ·simp_all
 ·exact h.tm t tv hl
theorem RG.consBx (h:RG F G σ a w) {b:Nat} {cs:List Cell} {r:Array Value} {e:TypeId} (h1:G.ow (G.be b)=.box b) (h2:w.heap[G.be b]? = some (.cells r e (0,0))) (h3:BM w G cs r):RG F G { σ with bx:=(b,cs)::σ.bx } a w:=by
 refine⟨h.tm,?_,h.hp,h.lt,h.os,h.tape,h.output,h.size,h.keep,h.fb,h.fl,h.nt,h.df⟩;intro t cs' hl;simp only[look] at hl;split at hl
 ·simp_all
 ·exact h.bx t cs' hl
structure PlaceFact (G:Gh) (a:Act) (w:World) (v:Vr) (x:v.sh.X) (ab:List Nat) (us:List Value) (Fs:Nat->Nat->Prop):Prop where
 len:us.length=(v.sh.fc x).length
 at_:v.At G a w us
 own:v.own=true->∀ (j:Nat) (c:FC) (u:Value),(v.sh.fc x)[j]? = some c->us[j]? = some u->TO w (fcC c) u (Fs j)/\u.oneCell'=true
 bor:v.own=false->∀ (j:Nat) (c:FC) (u:Value),(v.sh.fc x)[j]? = some c->us[j]? = some u->TR w (src G none) (fcC c) u
 lab:∀ j b,Fs j b->∃ m,m∈ab/\G.ow b=.lab m
 dis:∀ j j' b,Fs j b->Fs j' b->j=j'
theorem Yn (h:RG F G σ a w) {v:Vr} {x:v.sh.X} {ab:List Nat} (hT:v.isT=false) (hg:v.grab σ=some (x,ab)):∃ us Fs,PlaceFact G a w v x ab us Fs:=by
 unfold Vr.grab at hg;rw[hT] at hg;dsimp only at hg;split at hg
 ·rename_i cs hcs;obtain⟨us,u1,u2,u3⟩:=Aco h hcs;split at hg
  ·rename_i how;split at hg
   ·rename_i ds ab' hl;split at hg
    ·rename_i y hd;simp only[Qa0,Qb7] at hg;obtain⟨rfl,rfl⟩:=hg;obtain⟨l1,l2,l3,l4⟩:=MR h cs ds ab' hl;obtain⟨k1,k2⟩:=(Sh.dec_ok hd).get;refine⟨us,λj b=>∃ c m,cs[j]? = some c/\Bu c m/\G.ow b=.lab m,by rw[u1,<-k1,l1],u2,λ_ j c u hc hu=>?_,(λhf=>by rw[how] at hf;cases hf),?_,?_⟩
     ·have hlt:j<cs.length:=by rw[<-u1];exact(List.getElem?_eq_some_iff.1 hu).1
      have hcj:=Qa5 hlt;have hr:=u3 j _ u hcj hu;have ht:=l2 j _ u hcj hr;have hle:=(k2 j).le;have hd':(v.sh.fc y).getD j .nl=c:=by simp[List.getD,hc]
      rw[hd'] at hle;exact⟨(TO.le hle ht).frame λb hb _=>⟨rfl,let ⟨m,h1,h2⟩:=hb;⟨_,m,hcj,h1,h2⟩⟩,hr.one⟩
     ·rintro j b ⟨c,m,hc,hm,hb⟩;exact⟨m,l3 j c m hc hm,hb⟩
     ·rintro j j' b ⟨c,m,hc,hm,hb⟩ ⟨c',m',hc',hm',hb'⟩;rw[hb] at hb';injection hb' with e
      subst e;exact l4 j j' c c' m hc hc' hm hm'
    ·cases hg
   ·cases hg
  ·rename_i how;split at hg
   ·rename_i ds hl;split at hg
    ·rename_i y hd;simp only[Qa0,Qb7] at hg;obtain⟨rfl,rfl⟩:=hg;obtain⟨l1,l2⟩:=Hi (w:=w) (G:=G) cs ds hl;obtain⟨k1,k2⟩:=(Sh.dec_ok hd).get;refine⟨us,λ_ _=>False,by rw[u1,<-k1,l1],u2,(λhf=>by rw[how] at hf;cases hf),λ_ j c u hc hu=>?_,(λj b hb=>hb.elim),λj j' b hb=>hb.elim⟩;have hlt:j<cs.length:=by rw[<-u1];exact(List.getElem?_eq_some_iff.1 hu).1
     have hcj:=Qa5 hlt;have ht:=l2 j _ u hcj (u3 j _ u hcj hu);have hle:=(k2 j).le;have hd':(v.sh.fc y).getD j .nl=c:=by simp[List.getD,hc]
     rw[hd'] at hle;exact TR.le hle ht
    ·cases hg
   ·cases hg
 ·cases hg
theorem Ot {l r:List Nat} (h:Bn (l++r)=true):Bn l=true/\Bn r=true/\∀ m,m∈l->m∉r:=by
 induction l with
 | nil=>exact⟨rfl,h,by simp⟩
 | cons x l ih=>
  simp only[Qf3,Bn,Qa1,Qc7,List.contains_eq_mem,Qa9,Qc0,not_or] at h ⊢;simp_all
theorem U0 {c:FC} {m:Nat}:(toCell none c).refs m=false:=by cases c<;>rfl
theorem Zf {v:Vr} {x:v.sh.X} {l:Nat} (hl:l / 64≠v.q):(v.to x).any (·.refs l)=false:=by
 cases hq:(v.to x).any (·.refs l) with
 | false=>rfl
 | true=>
  exfalso;obtain⟨c,hc,hr⟩:=Qc4.1 hq;obtain⟨j,hj⟩:=List.mem_iff_getElem?.1 hc;unfold Vr.to at hj;cases hown:v.own with
  | true=>
   simp only[hown,Qd1] at hj;have h1:=(J8 _ _ _ _ hj).1 l hr;have h2:=Sh.fc_len v.sh x;omega
  | false=>
   simp only[hown,Qe7,Qc3] at hj;cases hq':(v.sh.fc x)[j]? with
   | none=>simp[hq'] at hj
   | some d=>
    simp only[hq',Qb6,Qa0] at hj;subst hj;rw[U0] at hr;cases hr
theorem YC {v:Vr} {x:v.sh.X} {l:Nat} (h:Jg σ l) (hl:v.isT=true\/l / 64≠v.q):Jg (v.set x σ) l:=by
 obtain⟨bx,p,own,sh⟩:=v;cases bx with
 | t=>exact h
 | b=>
  have hl':l / 64≠p+1000000:=hl.resolve_left (by simp[Vr.isT]);have hr:=Zf (v:=⟨.b,p,own,sh⟩) (x:=x) hl';refine⟨h.1,λb cs hb=>?_⟩;simp only[Vr.set,look] at hb;split at hb
  ·simp_all
  ·exact h.2 b cs hb
 | s=>
  have hl':l / 64≠p+1000000:=hl.resolve_left (by simp[Vr.isT]);have hr:=Zf (v:=⟨.s,p,own,sh⟩) (x:=x) hl';refine⟨λt tv ht=>?_,h.2⟩;simp only[Vr.set,look] at ht;split at ht
  ·simp only[Qa0] at ht;subst ht;exact hr
  ·exact h.1 t tv ht
theorem Ahj {v:Vr} {x:v.sh.X}:(v.set x σ).fl=σ.fl:=by
 obtain⟨bx,p,own,sh⟩:=v;cases bx<;>rfl
theorem RG.consHp (h:RG F G σ a w) {l:Nat} {T:Tree} (hT:TO w (.sl T.k T.n T.f) (G.hv l) (λg=>G.ow g=.lab l)):RG F G { σ with hp:=(l,T)::σ.hp } a w:=by
 refine⟨h.tm,h.bx,?_,h.lt,h.os,h.tape,h.output,h.size,h.keep,h.fb,h.fl,h.nt,h.df⟩;intro m T' hl;simp only[look] at hl;split at hl
 ·simp_all
 ·exact h.hp m T' hl
theorem Agw (h:RG F G σ a w) (base:St) (hb:RG F G1 base a w) (hs:List Nat) (hn:∀ l,l∉hs->Jg base l) (hbe:G1.be=G.be) (hhv:G1.hv=G.hv) (AB:List Nat) (hab:∀ b m,G.ow b=.lab m->m∈AB->G1.ow b=.gone) (hfr:∀ b,G.ow b=.free->G1.ow b=.free) (hbo:∀ b m,G.ow b=.box m->G1.ow b=.box m)
 (hlb:∀ b m,G.ow b=.lab m->m∉AB->G1.ow b=.lab m) :
 ∀ (vs:List Vr) (x:Xs vs) (ab:List Nat),J0 σ vs=some (x,ab)->(∀ m,m∈ab->m∈AB)->Bn ab=true->Bn (pOf vs)=true->(∀ p∈pOf vs,∀ m,m / 64=p->m∉base.fl/\m∉hs)->(∀ l∈hOf vs,l / 64∉pOf vs/\l∉AB) ->
  ∃ G',RG F G' (FL base vs x) a w/\Grow (λb=>∃ m,m∈ab/\G.ow b=.lab m) (λl=>l / 64∈pOf vs) G1 G'/\(∀ l,l∉hs->l / 64∉pOf vs->Jg (FL base vs x) l)/\(FL base vs x).fl=base.fl:=by
 intro vs
 induction vs with
 | nil=>intro x ab _ _ _ _ _ _;exact⟨G1,hb,Grow.refl _ _ _,λl hl _=>hn l hl,rfl⟩
 | cons v vs ih=>
  intro x ab hg hsub hnd hps hfl hht;simp only[J0] at hg;split at hg
  ·rename_i y abv xs abt hg1 hg2;simp only[Qa0,Qb7] at hg;obtain⟨rfl,rfl⟩:=hg;obtain⟨nd1,nd2,nd3⟩:=Ot hnd;cases hvT:v.isT with
   | true=>
    have hpo:pOf (v::vs)=pOf vs:=by simp[pOf,hvT]
    have hho:hOf (v::vs)=v.p::hOf vs:=by simp[hOf,hvT]
    rw[hpo] at hps hfl hht;rw[hho] at hht;obtain⟨hl1,hl2⟩:=hht v.p (by simp);obtain⟨G2,k1,k2,k3,k4⟩:=ih xs abt hg2 (λm hm=>hsub m (Qc0.2 (.inr hm))) nd2 hps hfl (λl hl=>hht l (by simp[hl]));have hgr:=hg1;unfold Vr.grab at hgr;rw[hvT] at hgr;dsimp only at hgr;split at hgr
    ·rename_i T hT;split at hgr
     ·rename_i y' hy;simp only[Qa0,Qb7] at hgr;obtain⟨rfl,rfl⟩:=hgr;have hTT:=Sh.tree_ok hy;have same:∀ g,G.ow g=.lab v.p->G2.ow g=.lab v.p:=λg hg=>by have h1:=hlb g v.p hg hl2;rw[k2.same (by rw[h1];simp),h1]
      have hhv2:G2.hv v.p=G.hv v.p:=by
       rcases k2.hv v.p with e|e
       ·rw[e,hhv]
       ·exact absurd e hl1
      have main:=k1.consHp (l:=v.p) (T:=v.sh.toTree y') (by rw[hTT,hhv2];exact(h.hp v.p T hT).frame λg hg _=>⟨rfl,same g hg⟩)
      have hset:FL base (v::vs) (y',xs)={ FL base vs xs with hp:=(v.p,v.sh.toTree y')::(FL base vs xs).hp }:=by obtain⟨kk,p,own,sh⟩:=v;cases kk<;>simp[Vr.isT] at hvT;rfl
      rw[hset,hpo];exact⟨G2,main,k2,λl h1 h2=>k3 l h1 h2,k4⟩
     ·cases hgr
    ·cases hgr
   | false=>
   have hpo:pOf (v::vs)=v.q::pOf vs:=by simp[pOf,hvT]
   have hho:hOf (v::vs)=hOf vs:=by simp[hOf,hvT]
   rw[hpo] at hps hfl hht;rw[hho] at hht;rw[hpo];simp only[Bn,Qa1,Qc7,List.contains_eq_mem,Qa9] at hps;obtain⟨G2,k1,k2,k3,k4⟩:=ih xs abt hg2 (λm hm=>hsub m (Qc0.2 (.inr hm))) nd2 hps.2 (λp hp=>hfl p (by simp[hp])) (λl hl=>⟨λe=>(hht l hl).1 (by simp[e]),(hht l hl).2⟩);obtain⟨us,Fs,pf⟩:=Yn h hvT hg1;have hgone:∀ j b,Fs j b->b<w.heap.size/\G2.ow b=.gone:=by
    intro j b hb';obtain⟨m,hm,hm2⟩:=pf.lab j b hb';refine⟨h.lt b (by simp[hm2]),k2.gone (hab b m hm2 (hsub m (Qc0.2 (.inl hm)))) ?_⟩;rintro⟨m',hm',hm3⟩;rw[hm2] at hm3;injection hm3 with e
    subst e;exact nd3 m hm hm'
   have hnr:∀ l,l / 64=v.q->Jg (FL base vs xs) l:=λl hl=>k3 l (hfl v.q (by simp) l hl).2 (by rw[hl];exact hps.1)
   have mem:∃ G3,RG F G3 { FL base vs xs with hp:=(bif v.own then ED (64*v.q) (v.sh.fc y) else[])++(FL base vs xs).hp } a w/\(∀ (j:Nat) (c:Cell) (u:Value),(v.to y)[j]? = some c->us[j]? = some u->CellR w G3 c u)/\(v.to y).length=us.length /\
    Grow (λb=>∃ j,Fs j b) (λl=>l / 64=v.q) G2 G3:=by
    cases hown:v.own with
    | true=>
     obtain⟨G3,m1,m2,m3⟩:=Ob (v.sh.fc y) us Fs G2 (64*v.q) (FL base vs xs) k1 (λ_ m h1 h2=>by
      have h3:=Sh.fc_len v.sh y;have h4:m / 64=v.q:=o_
      exact⟨by rw[k4];exact(hfl v.q (by simp) m h4).1,hnr m h4⟩) pf.len (pf.own hown) hgone pf.dis
     refine⟨G3,m1,?_,?_,m3.mono (λ_ h=>h) λm hm=>by have h3:=Sh.fc_len v.sh y;omega⟩
     ·simpa [Vr.to,hown] using m2
     ·simp[Vr.to,hown,FM,pf.len]
    | false=>
     refine⟨G2,by simpa using k1,λj c u hc hu=>?_,by simp[Vr.to,hown,pf.len],Grow.refl _ _ _⟩;simp only[Vr.to,hown,Qe7,Qc3] at hc;cases hq:(v.sh.fc y)[j]? with
     | none=>simp[hq] at hc
     | some d=>
      simp only[hq,Qb6,Qa0] at hc;subst hc;refine Gx ((pf.bor hown j d u hq hu).frame λg hg _=>⟨rfl,?_⟩);have hg':G.ow g=.free:=hg;show G2.ow g=.free;have h1:=hfr g hg';rw[k2.same (by rw[h1];simp),h1]
   obtain⟨G3,m1,m2,m3,m4⟩:=mem;have gr:Grow (λb=>∃ m,m∈abv++abt/\G.ow b=.lab m) (λl=>l / 64∈v.q::pOf vs) G1 G3:=by refine Grow.trans (k2.mono (λb ⟨m,hm,hb'⟩=>⟨m,Qc0.2 (.inr hm),hb'⟩) λl hl=>by simp[hl]) (m4.mono (λb ⟨j,hj⟩=>?_) λl hl=>by simp[hl]);obtain⟨m,hm,hm2⟩:=pf.lab j b hj;exact⟨m,Qc0.2 (.inl hm),hm2⟩
   refine⟨G3,?_,gr,λl hl0 hl=>?_,by simp only[FL];rw[Ahj];exact k4⟩
   ·obtain⟨bx,p,own,sh⟩:=v;have hat:=pf.at_;cases bx with
    | t=>simp[Vr.isT] at hvT
    | b=>
     obtain⟨q1,r,e,q2,q3⟩:=hat;have hbe3:G3.be=G.be:=(m4.be.trans k2.be).trans hbe;refine m1.consBx (b:=p) (r:=r) (e:=e) ?_ (by rw[hbe3];exact q2) ⟨?_,λj c hc=>?_⟩
     ·rw[hbe3];have h1:=hbo _ _ q1;rw[gr.same (by rw[h1];simp),h1]
     ·rw[m3,<-q3];simp
     ·have hlt:j<us.length:=by rw[<-m3];exact(List.getElem?_eq_some_iff.1 hc).1
      have hlt':j<r.size:=by rw[<-q3] at hlt;simpa using hlt
      refine⟨r[j],by simp[hlt'],m2 j c _ hc ?_⟩;rw[<-q3];simp[hlt']
    | s=>exact m1.consTm (p:=p) (hat G3 w _ m3 m2)
   ·simp only[Qe5,not_or] at hl;exact YC (k3 l hl0 hl.2) (.inr hl.1)
  ·cases hg
theorem X1 (h:RG F G σ a w) {vs:List Vr} {x:Xs vs} {ab:List Nat} (hg:J0 σ vs=some (x,ab)) (hp:HY σ vs ab=true) (base:St) (h1:base.bx=[]) (h2:base.hp=[]) (h3:base.fb=σ.fb) (h4:base.fl=σ.fl) (h5:base.nt=σ.nt)
 (htm:∀ t tv,look base.tm t=some tv->tv.memfree (hOf vs)=true/\TVR w G tv (a.tmps.getD t undef)):∃ G',RG F G' (FL base vs x) a w:=by
 unfold HY at hp;simp only[Qa1] at hp;obtain⟨⟨⟨hp1,hp2⟩,hp3⟩,hp4⟩:=hp;rw[Qc5] at hp4;have hht:∀ l∈hOf vs,l / 64∉pOf vs/\l∉ab:=λl hl=>by have:=hp4 l hl;simp only[Qa1,Qc7,List.contains_eq_mem,Qa9] at this;exact this
 obtain⟨G1,d1,d2,d3,d4,d5,d6,d7,d8,d9,hfr,hlb',hbo',hcu⟩:=h.drop ab [] [];have hbo:∀ b m,G.ow b=.box m->G1.ow b=.box m:=λb m hb=>hbo' b m hb (by simp)
 have hb:RG F G1 base a w:=by refine⟨λt tv hl=>?_,by simp[h1,look],by simp[h2,look],d1.lt,d1.os,d1.tape,d1.output,d1.size,d1.keep,λb β hb=>by rw[h3];exact d1.fb b β hb,λl v hl=>by rw[h4];exact d1.fl l v hl,by rw[h5];exact d1.nt,d1.df⟩;obtain⟨q1,q2⟩:=htm t tv hl;obtain⟨m1,m2⟩:=Nc q1;exact TV.carry ⟨λg hg=>⟨rfl,hfr g hg⟩,hcu⟩ (λm hm=>by rw[d3]) (λm hm=>by rw[m2 m] at hm;cases hm) (λb _=>by rw[d2]) q2
 have hn:∀ l,l∉hOf vs->Jg base l:=λl hl=>⟨λt tv ht=>by
  cases hr:tv.refs l with
  | false=>rfl
  | true=>exact absurd ((Nc (htm t tv ht).1).1 l hr) hl,by simp[h1,look]⟩
 obtain⟨G',k1,_⟩:=Agw h base hb (hOf vs) hn d2 d3 ab (λb m hb hm=>d5 b m hb (.inl hm)) hfr hbo (λb m hb hm=>hlb' b m hb hm (by simp)) vs x ab hg (λ_ h=>h) hp1 hp2 (λp hp m hm=>by refine⟨λhmem=>?_,λhmem=>(hht m hmem).1 (by rw[hm];exact hp)⟩;rw[h4] at hmem;unfold Qz at hp3;rw[Qc5] at hp3;have:=hp3 m hmem;simp only[Qc7,List.contains_eq_mem,Qa9] at this;exact this (by rw[hm];exact hp)) hht
 exact⟨G',k1⟩
end
end Go.D
namespace Go.D
def L1:Nat->Nat->St->(St->Out)->Out
 | 0,_,σ,K=>K σ
 | m+1,t,σ,K=>match look σ.tm t with
  | some (.v agg cs)=>match S3 cs 0 with
   | some (j,l,k,lo,n)=>match look σ.hp l with
    | some T=>bif decide (T.k=k) && !σ.fl.contains l then .ob (lo+n<=T.n) (L1 m t (NQ (DF σ l [] ⟨T.t,cut T.xs lo n⟩) t j l) K) else .bad
    | none=>.bad
   | none=>K σ
  | _=>K σ
def U6 (σ:St) (b j l:Nat):St:=match look σ.bx b with
 | some cs=>{ σ with bx:=D.put σ.bx b (cs.set j (.ref l))}
 | none=>σ
def Iq:Nat->Nat->St->(St->Out)->Out
 | 0,_,σ,K=>K σ
 | m+1,b,σ,K=>match look σ.bx b with
  | some cs=>match S3 cs 0 with
   | some (j,l,k,lo,n)=>match look σ.hp l with
    | some T=>bif decide (T.k=k) && !σ.fl.contains l then .ob (lo+n<=T.n) (Iq m b (U6 (DF σ l [] ⟨T.t,cut T.xs lo n⟩) b j l) K) else .bad
    | none=>.bad
   | none=>K σ
  | none=>K σ
def settle:List ResultVar->St->(St->Out)->Out
 | [],σ,K=>K σ
 | .tmp t::rs,σ,K=>L1 40 t σ (λσ'=>settle rs σ' K)
 | .cell t _::rs,σ,K=>match σ.get t with
  | .ptr b 0=>Iq 40 b σ (λσ'=>settle rs σ' K)
  | _=>settle rs σ K
def IM:List Nat->St->(St->Out)->Out
 | [],σ,K=>K σ
 | b::bs,σ,K=>Iq 40 b σ (λσ'=>IM bs σ' K)
def UO:List Cell->Nat->Option (Nat×Nat)
 | [],_=>none
 | .ref l::_,j=>some (j,l)
 | _::cs,j=>UO cs (j+1)
def Qh (σ:St) (l:Nat):St:=({ σ with hp:=σ.hp.filter (λp=>!(p.1==l))}:St).kill [l]
def RK (σ:St) (b j:Nat) (c:Cell):St:=match look σ.bx b with
 | some cs=>{ σ with bx:=D.put σ.bx b (cs.set j c)}
 | none=>σ
def Aiz:Nat->Nat->St->(St->Out)->Out
 | 0,_,σ,K=>K σ
 | m+1,b,σ,K=>match look σ.bx b with
  | some cs=>match UO cs 0 with
   | some (j,l)=>match look σ.hp l with
    | some T=>bif !σ.fl.contains l then Aiz m b (RK (Qh σ l) b j (.im none T.t T.xs)) K else .bad
    | none=>.bad
   | none=>K σ
  | none=>K σ
def Fm:List Vr->St->(St->Out)->Out
 | [],σ,K=>K σ
 | v::vs,σ,K=>match v.own with
  | true=>match v.k with
   | .s=>L1 40 v.p σ (λσ'=>Fm vs σ' K)
   | .b=>Iq 40 v.p σ (λσ'=>Fm vs σ' K)
   | .t=>Fm vs σ K
  | false=>match v.k with
   | .b=>Aiz 40 v.p σ (λσ'=>Fm vs σ' K)
   | _=>Fm vs σ K
section
variable {P:Program} {F:Fr P} {G G':Gh} {σ σ':St} {a:Act} {w w':World} {K:St->Out} {Q:Post}
theorem Ae5 {t j l k lo n:Nat} {agg:Bool} {cs:List Cell} {T:Tree} (h:RG F G σ a w) (ht:look σ.tm t=some (.v agg cs)) (hj:cs[j]? = some (.sub l k lo n)) (hT:look σ.hp l=some T) (hk:T.k=k) (hfl:l∉σ.fl) (hle:lo+n<=T.n) :
 ∃ G',RG F G' (NQ (DF σ l [] ⟨T.t,cut T.xs lo n⟩) t j l) a w:=by
 obtain⟨u,hu,hset⟩:=TI (h.tm t _ ht) hj;have h1:u.oneCell'=true:=CellR.one hu;subst hk;have hto:=Uv (J2 (h.hp l T hT) hu hle) hle;rw[DE ⟨T.t,cut T.xs lo n⟩] at hto;obtain⟨G',h2,h3,_⟩:=h.retree l [] ⟨T.t,cut T.xs lo n⟩ u (λg=>G.ow g=.lab l) ⟨rfl,rfl,⟨rfl,by first|exact DrLe.refl _|exact DrLe.succ _|exact DrLe.add _ _⟩,Qa8 _⟩ (λ_ _ _=>rfl) (λg hg=>⟨h.lt g (by rw[hg];intro e;cases e),.inr (.inl hg)⟩) hto hfl (by simp);have hlk:look (DF σ l [] ⟨T.t,cut T.xs lo n⟩).tm t=some (.v agg (cs.map (·.kill [l]))):=by simp only[DF,St.kill,St.map];rw[BL (λx:TV=>x.kill [l]),ht];rfl
 refine⟨G',?_⟩;unfold NQ;rw[hlk];refine RG.retell h2 ?_;exact hset G' _ _ (h2.tm t _ hlk) (by simp) ⟨h3.symm,h1⟩
theorem Nm:∀ (m t:Nat) (σ:St) (G:Gh) (K:St->Out),RG F G σ a w->(L1 m t σ K).holds Q->∃ σ' G',RG F G' σ' a w/\(K σ').holds Q:=by
 intro m
 induction m with
 | zero=>intro t σ G K h hh;exact⟨σ,G,h,hh⟩
 | succ m ih=>
  intro t σ G K h hh;unfold L1 at hh;split at hh
  ·rename_i agg cs ht;split at hh
   ·rename_i j l k lo n hs;split at hh
    ·rename_i T hT;cases hc:(decide (T.k=k) && !σ.fl.contains l) with
     | false=>rw[hc,Qe7] at hh;exact hh.elim
     | true=>
      rw[hc,Qd1] at hh;simp only[Qa1,Qa7,Qc7] at hc;obtain⟨hle,hh⟩:=hh;obtain⟨_,hj⟩:=K8 hs;obtain⟨G',h'⟩:=Ae5 h ht (by simpa using hj) hT hc.1 (by simpa using hc.2) hle;grind
    ·exact hh.elim
   ·exact⟨σ,G,h,hh⟩
  ·exact⟨σ,G,h,hh⟩
theorem RG.rebox (h:RG F G σ a w) {b:Nat} {cs:List Cell} (h1:G.ow (G.be b)=.box b) {r:Array Value} {e:TypeId} (h2:w.heap[G.be b]? = some (.cells r e (0,0))) (h3:BM w G cs r):RG F G { σ with bx:=D.put σ.bx b cs } a w:=by
 refine⟨h.tm,?_,h.hp,h.lt,h.os,h.tape,h.output,h.size,h.keep,h.fb,h.fl,h.nt,h.df⟩;intro b' cs' hl;simp only[Eh] at hl;by_cases hb:b'=b
 ·simp_all
 ·simp only[hb,Qe6] at hl;exact h.bx b' cs' hl
theorem AgB {b j l k lo n:Nat} {cs:List Cell} {T:Tree} (h:RG F G σ a w) (hb:look σ.bx b=some cs) (hj:cs[j]? = some (.sub l k lo n)) (hT:look σ.hp l=some T) (hk:T.k=k) (hfl:l∉σ.fl) (hle:lo+n<=T.n) :
 ∃ G',RG F G' (U6 (DF σ l [] ⟨T.t,cut T.xs lo n⟩) b j l) a w:=by
 obtain⟨ow,r,e,hr,hc⟩:=h.bx b cs hb;obtain⟨u,hu,hcu⟩:=hc.2 j _ hj;have h1:u.oneCell'=true:=CellR.one hcu;subst hk;have hto:=Uv (J2 (h.hp l T hT) hcu hle) hle;rw[DE ⟨T.t,cut T.xs lo n⟩] at hto;obtain⟨G',h2,h3,_,_,h4,_⟩:=h.retree l [] ⟨T.t,cut T.xs lo n⟩ u (λg=>G.ow g=.lab l) ⟨rfl,rfl,⟨rfl,by first|exact DrLe.refl _|exact DrLe.succ _|exact DrLe.add _ _⟩,Qa8 _⟩ (λ_ _ _=>rfl) (λg hg=>⟨h.lt g (by rw[hg];intro e;cases e),.inr (.inl hg)⟩) hto hfl (by simp);have hlk:look (DF σ l [] ⟨T.t,cut T.xs lo n⟩).bx b=some (cs.map (·.kill [l])):=by simp only[DF,St.kill,St.map];rw[BL (λx:List Cell=>x.map (·.kill [l])),hb];rfl
 obtain⟨ow',r',e',hr',hc'⟩:=h2.bx b _ hlk;refine⟨G',?_⟩;unfold U6;rw[hlk];have hr2:=hr';rw[h4,hr] at hr2;injection hr2 with hr2
 injection hr2 with e1 e2 e3
 subst e1;exact RG.rebox h2 ow' hr' (I3 hc' hu ⟨h3.symm,h1⟩)
theorem HZ:∀ (m b:Nat) (σ:St) (G:Gh) (K:St->Out),RG F G σ a w->(Iq m b σ K).holds Q->∃ σ' G',RG F G' σ' a w/\(K σ').holds Q:=by
 intro m
 induction m with
 | zero=>intro b σ G K h hh;exact⟨σ,G,h,hh⟩
 | succ m ih=>
  intro b σ G K h hh;unfold Iq at hh;split at hh
  ·rename_i cs hb;split at hh
   ·rename_i j l k lo n hs;split at hh
    ·rename_i T hT;cases hc:(decide (T.k=k) && !σ.fl.contains l) with
     | false=>rw[hc,Qe7] at hh;exact hh.elim
     | true=>
      rw[hc,Qd1] at hh;simp only[Qa1,Qa7,Qc7] at hc;obtain⟨hle,hh⟩:=hh;obtain⟨_,hj⟩:=K8 hs;obtain⟨G',h'⟩:=AgB h hb (by simpa using hj) hT hc.1 (by simpa using hc.2) hle;grind
    ·exact hh.elim
   ·exact⟨σ,G,h,hh⟩
  ·exact⟨σ,G,h,hh⟩
theorem YB:∀ (rs:List ResultVar) (σ:St) (G:Gh) (K:St->Out),RG F G σ a w->(settle rs σ K).holds Q->∃ σ' G',RG F G' σ' a w/\(K σ').holds Q:=by
 intro rs
 induction rs with
 | nil=>intro σ G K h hh;exact⟨σ,G,h,hh⟩
 | cons r rs ih=>
  intro σ G K h hh;cases r with
  | tmp t=>
   obtain⟨σ1,G1,h1,hh1⟩:=Nm 40 t σ G _ h hh;grind
  | cell t T=>
   simp only[settle] at hh;split at hh
   ·obtain⟨σ1,G1,h1,hh1⟩:=HZ 40 _ σ G _ h hh;grind
   ·exact ih σ G K h hh
theorem Sz:∀ (bs:List Nat) (σ:St) (G:Gh) (K:St->Out),RG F G σ a w->(IM bs σ K).holds Q->∃ σ' G',RG F G' σ' a w/\(K σ').holds Q:=by
 intro bs
 induction bs with
 | nil=>intro σ G K h hh;exact⟨σ,G,h,hh⟩
 | cons b bs ih=>
  intro σ G K h hh;obtain⟨σ1,G1,h1,hh1⟩:=HZ 40 b σ G _ h hh;grind
theorem Aaj:∀ (cs:List Cell) (i:Nat) {j l:Nat},UO cs i=some (j,l)->i<=j/\cs[j-i]? = some (.ref l):=by
 intro cs
 induction cs with
 | nil=>intro i j l h;simp[UO] at h
 | cons c cs ih=>
  intro i j l h;have nx:UO cs (i+1)=some (j,l)->i<=j/\(c::cs)[j-i]? = some (.ref l):=by grind
  cases c<;>simp only[UO] at h<;>first|exact nx h|skip
  simp_all
open Classical in
theorem RG.release (h:RG F G σ a w) (l:Nat):∃ G',RG F G' (Qh σ l) a w/\(∀ g,G.ow g=.lab l->G'.ow g=.free)/\G'.be=G.be:=by
 let G1:Gh:={ G with ow:=λg=>if G.ow g=.lab l then .free else G.ow g }
 have hf:DY w w G G1:=⟨λg hg=>⟨rfl,by simp[G1,hg]⟩,λg hg=>by simp[G1,hg]⟩;have hm:∀ m,m≠l->FB w w G G1 m:=λm hm g hg=>⟨rfl,by simp[G1,hg,hm]⟩
 refine⟨G1,⟨?_,?_,?_,?_,h.os,h.tape,h.output,h.size,?_,h.fb,h.fl,h.nt,h.df⟩,λg hg=>by simp[G1,hg],rfl⟩
 ·intro s tv hlk;simp only[Qh,St.kill,St.map] at hlk;rw[BL (λx:TV=>x.kill [l])] at hlk;cases hq:look σ.tm s with
  | none=>simp[hq] at hlk
  | some x=>
   simp only[hq,Qb6,Qa0] at hlk;subst hlk;have hx:=TV.map_ok (f:=λc=>c.kill [l]) (bad:=λx=>[l].any λl=>x.refs l||x.mems l) (λ_ _=>Cell.kill_ok [l]) (h.tm s x hq);exact TV.carry hf (λ_ _=>rfl) (λm e=>hm m (by simpa using TV.kill_mems e)) (λ_ _=>rfl) hx
 ·intro b cs hlk;simp only[Qh,St.kill,St.map] at hlk;rw[BL (λcs:List Cell=>cs.map (·.kill [l]))] at hlk;cases hq:look σ.bx b with
  | none=>simp[hq] at hlk
  | some x=>
   simp only[hq,Qb6,Qa0] at hlk;subst hlk;obtain⟨h1,r,e,h2,h3⟩:=h.bx b x hq;refine⟨by simp[G1,h1],r,e,h2,by simpa using h3.1,λj c hj=>?_⟩;rw[Qc3] at hj;cases hq2:x[j]? with
   | none=>simp[hq2] at hj
   | some c0=>
    simp only[hq2,Qb6,Qa0] at hj;subst hj;obtain⟨u,hu,ht⟩:=h3.2 j c0 hq2;exact⟨u,hu,Cell.carry hf (λ_ _=>rfl) (λm e=>hm m (by simpa using(Cell.kill_mems e).2)) (Cell.kill_ok [l] ht)⟩
 ·intro m T hlk;simp only[Qh,St.kill,St.map] at hlk;have:=B9 (λq=>!(q==l)) σ.hp m;rw[this] at hlk;by_cases e:m=l
  ·simp[e] at hlk
  ·simp only[e,Qc7,beq_eq_false_iff_ne,ne_eq,not_false_eq_true,Qe8] at hlk;exact(h.hp m T hlk).frame λg hg _=>⟨rfl,(hm m e g hg).2⟩
 ·exact λg hg=>h.lt g λe=>hg (by simp[G1,e])
 ·exact h.keep.step hf (λg hg=>(h.keep.at_ g hg).same rfl) λg hg=>by grind
theorem Apn {b j l:Nat} {cs:List Cell} {T:Tree} (h:RG F G σ a w) (hb:look σ.bx b=some cs) (hj:cs[j]? = some (.ref l)) (hT:look σ.hp l=some T) :
 ∃ G',RG F G' (RK (Qh σ l) b j (.im none T.t T.xs)) a w:=by
 obtain⟨ow,r,e,hr,hc⟩:=h.bx b cs hb;obtain⟨u,hu,hcu⟩:=hc.2 j _ hj;have hto:=h.hp l T hT;rw[<-hcu.1,<-DE] at hto;obtain⟨G',h2,h3,h4⟩:=h.release l;have hlk:look (Qh σ l).bx b=some (cs.map (·.kill [l])):=by simp only[Qh,St.kill,St.map];rw[BL (λx:List Cell=>x.map (·.kill [l])),hb];rfl
 obtain⟨ow',r',e',hr',hc'⟩:=h2.bx b _ hlk;refine⟨G',?_⟩;unfold RK;rw[hlk];have hr2:=hr';rw[h4,hr] at hr2;injection hr2 with hr2
 injection hr2 with e1 e2 e3
 subst e1;exact RG.rebox h2 ow' hr' (I3 hc' hu (hto.read.frame λg hg _=>⟨rfl,h3 g hg⟩))
theorem AeY:∀ (m b:Nat) (σ:St) (G:Gh) (K:St->Out),RG F G σ a w->(Aiz m b σ K).holds Q->∃ σ' G',RG F G' σ' a w/\(K σ').holds Q:=by
 intro m
 induction m with
 | zero=>intro b σ G K h hh;exact⟨σ,G,h,hh⟩
 | succ m ih=>
  intro b σ G K h hh;unfold Aiz at hh;split at hh
  ·rename_i cs hb;split at hh
   ·rename_i j l hs;split at hh
    ·rename_i T hT;cases hc:(!σ.fl.contains l) with
     | false=>rw[hc,Qe7] at hh;exact hh.elim
     | true=>
      rw[hc,Qd1] at hh;obtain⟨_,hj⟩:=Aaj cs 0 hs;obtain⟨G',h'⟩:=Apn h hb (by simpa using hj) hT;grind
    ·exact hh.elim
   ·exact⟨σ,G,h,hh⟩
  ·exact⟨σ,G,h,hh⟩
theorem Lx:∀ (vs:List Vr) (σ:St) (G:Gh) (K:St->Out),RG F G σ a w->(Fm vs σ K).holds Q->∃ σ' G',RG F G' σ' a w/\(K σ').holds Q:=by
 intro vs
 induction vs with
 | nil=>intro σ G K h hh;exact⟨σ,G,h,hh⟩
 | cons v vs ih=>
  intro σ G K h hh;unfold Fm at hh;split at hh
  ·split at hh
   ·obtain⟨σ1,G1,h1,hh1⟩:=Nm 40 _ σ G _ h hh;grind
   ·obtain⟨σ1,G1,h1,hh1⟩:=HZ 40 _ σ G _ h hh;grind
   ·exact ih σ G K h hh
  ·split at hh
   ·obtain⟨σ1,G1,h1,hh1⟩:=AeY 40 _ σ G _ h hh;grind
   ·exact ih σ G K h hh
def Ip:List Cell->Nat->Option (Nat×Nat)
 | [],_=>none
 | .ref l::cs,j=>bif decide (l<64000000) then some (j,l) else Ip cs (j+1)
 | _::cs,j=>Ip cs (j+1)
theorem RJ:∀ (cs:List Cell) (i:Nat) {j l:Nat},Ip cs i=some (j,l)->i<=j/\cs[j-i]? = some (.ref l):=by
 intro cs
 induction cs with
 | nil=>intro i j l h;simp[Ip] at h
 | cons c cs ih=>
  intro i j l h;have nx:Ip cs (i+1)=some (j,l)->i<=j/\(c::cs)[j-i]? = some (.ref l):=by grind
  cases c<;>simp only[Ip] at h<;>first|exact nx h|skip
  grind
theorem AiG {b j l q:Nat} {cs:List Cell} {T:Tree} (h:RG F G σ a w) (hb:look σ.bx b=some cs) (hj:cs[j]? = some (.ref l)) (hT:look σ.hp l=some T) (hfl:l∉σ.fl) (hq:q∉σ.fl) :
 ∃ G',RG F G' (U6 (DF σ q [l] T) b j q) a w:=by
 obtain⟨ow,r,e,hr,hc⟩:=h.bx b cs hb;obtain⟨u,hu,hcu⟩:=hc.2 j _ hj;have h1:u.oneCell'=true:=hcu.2;have hto:=h.hp l T hT;rw[<-hcu.1] at hto;obtain⟨G',h2,h3,_,_,h4,_⟩:=h.retree q [l] T u (λg=>G.ow g=.lab l) ⟨rfl,rfl,⟨rfl,by first|exact DrLe.refl _|exact DrLe.succ _|exact DrLe.add _ _⟩,Qa8 _⟩ (λ_ _ _=>rfl) (λg hg=>⟨h.lt g (by simp[hg]),.inr (.inr ⟨l,by simp,hg⟩)⟩) hto hq (by simpa using hfl);have hlk:look (DF σ q [l] T).bx b=some (cs.map (·.kill [q,l])):=by simp only[DF,St.kill,St.map];rw[BL (λx:List Cell=>x.map (·.kill [q,l])),hb];rfl
 obtain⟨ow',r',e',hr',hc'⟩:=h2.bx b _ hlk;refine⟨G',?_⟩;unfold U6;rw[hlk];have hr2:=hr';rw[h4,hr] at hr2;injection hr2 with hr2
 injection hr2 with e1 e2 e3
 subst e1;exact RG.rebox h2 ow' hr' (I3 hc' hu ⟨h3.symm,h1⟩)
def Ac0:Nat->Nat->St->(St->Out)->Out
 | 0,_,σ,K=>K σ
 | m+1,b,σ,K=>match look σ.bx b with
  | some cs=>match Ip cs 0 with
   | some (j,l)=>match look σ.hp l with
    | some T=>bif !σ.fl.contains l && !σ.fl.contains (64*(3000000+b)+j) then Ac0 m b (U6 (DF σ (64*(3000000+b)+j) [l] T) b j (64*(3000000+b)+j)) K else .bad
    | none=>.bad
   | none=>K σ
  | none=>K σ
theorem AcI:∀ (m b:Nat) (σ:St) (G:Gh) (K:St->Out),RG F G σ a w->(Ac0 m b σ K).holds Q->∃ σ' G',RG F G' σ' a w/\(K σ').holds Q:=by
 intro m
 induction m with
 | zero=>intro b σ G K h hh;exact⟨σ,G,h,hh⟩
 | succ m ih=>
  intro b σ G K h hh;unfold Ac0 at hh;split at hh
  ·rename_i cs hb;split at hh
   ·rename_i j l hs;split at hh
    ·rename_i T hT;cases hc:(!σ.fl.contains l && !σ.fl.contains (64*(3000000+b)+j)) with
     | false=>rw[hc,Qe7] at hh;exact hh.elim
     | true=>
      rw[hc,Qd1] at hh;simp only[Qa1,Qc7] at hc;obtain⟨_,hj⟩:=RJ cs 0 hs;obtain⟨G',h'⟩:=AiG (q:=64*(3000000+b)+j) h hb (by simpa using hj) hT (by simpa using hc.1) (by simpa using hc.2);grind
    ·exact hh.elim
   ·exact⟨σ,G,h,hh⟩
  ·exact⟨σ,G,h,hh⟩
def Y2:List Nat->St->(St->Out)->Out
 | [],σ,K=>K σ
 | b::bs,σ,K=>Iq 40 b σ λσ=>Ac0 40 b σ λσ=>Y2 bs σ K
theorem Y9:∀ (bs:List Nat) (σ:St) (G:Gh) (K:St->Out),RG F G σ a w->(Y2 bs σ K).holds Q->∃ σ' G',RG F G' σ' a w/\(K σ').holds Q:=by
 intro bs
 induction bs with
 | nil=>intro σ G K h hh;exact⟨σ,G,h,hh⟩
 | cons b bs ih=>
  intro σ G K h hh;obtain⟨σ1,G1,h1,hh1⟩:=HZ 40 b σ G _ h hh;obtain⟨σ2,G2,h2,hh2⟩:=AcI 40 b σ1 G1 _ h1 hh1;grind
end
end Go.D
namespace Go.D
structure LInv where
 ps:List Vr
 inv:Xs ps->Xs ps->Prop
 m:Xs ps->Nat
abbrev VR:=Nat->Option LInv
def ExR:Ex->Exit->Prop
 | .normal,e=>e=.normal
 | .exit id,e=>e=.exit id
 | .ret,e=>e=.ret
def AeG {P:Program} (F:Fr P) (K:Ex->St->Out) (Q:Post):Exit->Act->World->Prop:=λe a w=>∃ ex σ',ExR ex e/\R F σ' a w/\(K ex σ').holds Q
def OF:Code->Nat
 | .region i _ _=>i
 | .seq x _=>OF x
 | .cond _ x _=>OF x
 | .block _ x=>OF x
 | .loop x=>OF x
 | _=>0
def AfR (ops:List Oper):List Nat:=ops.filterMap (·.dst)
def dstsOf:Code->List Nat
 | .region _ ops _=>AfR ops.toList
 | .seq x y=>dstsOf x++dstsOf y
 | .cond _ x y=>dstsOf x++dstsOf y
 | .block _ x=>dstsOf x
 | .loop x=>dstsOf x
 | _=>[]
def St.clean (σ:St) (kp:List Nat):St:={ σ with tm:=σ.tm.filter λp=>kp.contains p.1 }
def St.dropC (σ:St) (kp:List Nat):Operand->St
 | .tmp t=>bif kp.contains (t+1000000) then{ σ with tm:=σ.tm.filter λp=>!(p.1==t)} else σ
 | _=>σ
def TV.forget (hs:List Nat) (x:TV):TV:=bif x.memfree hs then x else .dead
def Uz (kp ds:List Nat) (ps:List Vr) (l:List (Nat×TV)):List (Nat×TV):=(l.filter λx=>kp.contains x.1 && !(ds.contains x.1||ps.any λv=>(match v.k with | .s=>true|_=>false)&&v.p==x.1)).map λx=>(x.1,x.2.forget (hOf ps))
def WH:Cell->Cell->Option (List Prop)
 | .sc u,.sc v=>some [u=v]
 | .tt,.tt=>some []
 | .ff,.ff=>some []
 | .nil,.nil=>some []
 | .ref l,.ref m=>if l=m then some [] else none
 | .sub l k lo n,.sub l' k' lo' n'=>if l=l'/\k=k' then some [lo=lo',n=n'] else none
 | .sc u,.tt=>some [u=.bool true]
 | .sc u,.ff=>some [u=.bool false]
 | .tt,.sc u=>some [u=.bool true]
 | .ff,.sc u=>some [u=.bool false]
 | .im none t xs,.im none t' ys=>if h:t=t' then some [h▸xs=ys] else none
 | _,_=>none
def JG:List Cell->List Cell->Option (List Prop)
 | [],[]=>some []
 | c::cs,d::ds=>match WH c d,JG cs ds with
  | some p,some q=>some (p++q)
  | _,_=>none
 | _,_=>none
def Lt:List Cap->List Cap->Option (List Prop)
 | [],[]=>some []
 | .ptr b::cs,.ptr b'::ds=>if b=b' then Lt cs ds else none
 | .aptr x::cs,.aptr y::ds=>match Lt cs ds with
  | some q=>some ((x=y)::q)
  | none=>none
 | _,_=>none
def AiP:TV->TV->Option (List Prop)
 | .v a cs,.v b ds=>if a=b then JG cs ds else none
 | .ptr b o,.ptr b' o'=>if b=b'/\o=o' then some [] else none
 | .aptr cs o,.aptr ds o'=>if o=o' then some [cs=ds] else none
 | .clo f cs,.clo g ds=>if f=g then Lt cs ds else none
 | .cur,.cur=>some []
 | .sptr none t x o,.sptr none t' y o'=>if h:t=t' then if o=o' then some [h▸x=y] else none else none
 | _,_=>none
def Xr (σ:St):List (Nat×TV)->Option (List Prop)
 | []=>some []
 | (_,.dead)::r=>Xr σ r
 | (t,x)::r=>match look σ.tm t with
  | some y=>match AiP y x,Xr σ r with
   | some p,some q=>some (p++q)
   | _,_=>none
  | none=>none
def AiU (li:LInv) (x0 x:Xs li.ps) (base σ:St):Out :=
 match J0 σ li.ps with
 | some (x',ab)=>match Xr σ base.tm with
  | some ps=>bif HY σ li.ps ab&&σ.nt==base.nt&&σ.fb==base.fb&&σ.fl==base.fl then obs ps (.ob (li.inv x0 x'/\li.m x'<li.m x) .ok) else .bad
  | none=>.bad
 | none=>.bad
def lpx (li:LInv) (x0:Xs li.ps) (f:Xs li.ps->(Xs li.ps->Prop)->Out):Out:=.lp (Xs li.ps) (li.inv x0 x0) (li.inv x0) λx=>f x λx'=>li.inv x0 x'/\li.m x'<li.m x
def OG (kp:List Nat) (id:Nat):Nat:=match kp.find? (λk=>k / 64==1000000+id) with
 | some k=>k % 64
 | none=>0
def Ad4 (f:St->(Ex->St->Out)->Out) (K:Ex->St->Out):Nat->St->Out
 | 0,_=>.bad
 | n+1,σ=>f σ λe σ'=>match e with
  | .normal=>Y2 (σ'.bx.map (·.1)) σ' (λσ'=>Ad4 f K n σ')
  | e=>K e σ'
def XS (kp:List Nat):Operand->Bool
 | .tmp t=>kp.contains (200000000+t)
 | _=>false
def brC (x:TV) (y n:Out):Out:=match x with
 | .v false [.sc (.bool b)]=>bif b then y else n
 | x=>AfQ x y n
theorem AhQ {x:TV} {y n:Out} {Q:Post} (h:(brC x y n).holds Q):(AfQ x y n).holds Q:=by
 unfold brC at h;split at h
 ·rename_i b;cases b with
  | true=>exact⟨λ_=>h,λe=>(by cases e)⟩
  | false=>exact⟨λe=>(by cases e),λ_=>h⟩
 ·exact h
def run (P:Program) (E:Env) (L:VR) (kp:List Nat):Code->St->(Ex->St->Out)->Out
 | .skip,σ,K=>K .normal σ
 | .region _ ops draw,σ,K=>bif draw then AdN P E ops σ (λσ'=>K .normal (σ'.clean kp)) else Vi P E ops (List.range ops.size) σ (λσ'=>K .normal (σ'.clean kp))
 | .seq x y,σ,K=>run P E L kp x σ (λe σ'=>match e with
  | .normal=>run P E L kp y σ' K
  | e=>K e σ')
 | .cond c x y,σ,K=>bif XS kp c then brC (σ.eval c) (run P E L kp x (σ.dropC kp c) K) (run P E L kp y (σ.dropC kp c) K) else AfQ (σ.eval c) (run P E L kp x (σ.dropC kp c) K) (run P E L kp y (σ.dropC kp c) K)
 | .block id x,σ,K=>run P E L kp x σ (λe σ'=>match e with
  | .exit i=>bif i==id then K .normal σ' else K (.exit i) σ'
  | e=>K e σ')
 | .exit id,σ,K=>K (.exit id) σ
 | .ret,σ,K=>K .ret σ
 | .loop b,σ,K=>bif OG kp (OF b) != 0 then Ad4 (λσ K=>run P E L kp b σ K) K (OG kp (OF b)) σ else match L (OF b) with
  | some li=>Fm li.ps σ λσ=>match J0 σ li.ps with
   | some (x0,ab)=>
    bif HY σ li.ps ab then
     .lp (Xs li.ps) (li.inv x0 x0) (li.inv x0) λx=>run P E L kp b (FL { σ with tm:=Uz kp (dstsOf b) li.ps σ.tm,bx:=[],hp:=[]} li.ps x) (λe σ'=>match e with
      | .normal=>Fm li.ps σ' λσ'=>AiU li x0 x { σ with tm:=Uz kp (dstsOf b) li.ps σ.tm,bx:=[],hp:=[]} σ'
      | e=>K e σ')
    else .bad
   | none=>.bad
  | none=>.bad
 | _,_,_=>.bad
section
variable {P:Program} {E:Env} {F:Fr P} {G:Gh} {σ:St} {a:Act} {w:World} {o:Oper} {K:St->Out} {Q:Post} {Qx:Exit->Act->World->Prop}
theorem RG.clean (h:RG F G σ a w) (kp:List Nat):RG F G (σ.clean kp) a w:=by
 refine⟨?_,h.bx,h.hp,h.lt,h.os,h.tape,h.output,h.size,h.keep,h.fb,h.fl,h.nt,h.df⟩;intro t tv hl;simp only[St.clean,B9 (λt=>kp.contains t)] at hl;split at hl
 ·exact h.tm t tv hl
 ·cases hl
theorem RG.dropC (h:RG F G σ a w) (kp:List Nat) (c:Operand):RG F G (σ.dropC kp c) a w:=by
 unfold St.dropC;split
 ·rename_i t;cases kp.contains (t+1000000) with
  | false=>exact h
  | true=>
   refine⟨?_,h.bx,h.hp,h.lt,h.os,h.tape,h.output,h.size,h.keep,h.fb,h.fl,h.nt,h.df⟩;intro t' tv hl;simp only[Qd1,B9 (λs=>!(s==t))] at hl;split at hl
   ·exact h.tm t' tv hl
   ·cases hl
 ·exact h
theorem MX (hs:List Nat) (x:TV):(x.forget hs).memfree hs=true:=by
 unfold TV.forget;cases h:x.memfree hs
 ·rfl
 ·exact h
theorem XL {hs:List Nat} {x:TV} {v:Value} (h:TVR w G x v):TVR w G (x.forget hs) v:=by
 unfold TV.forget;cases x.memfree hs
 ·trivial
 ·exact h
theorem XC {c d:Cell} {p:List Prop} {v:Value} (h:WH c d=some p) (hp:∀ q∈p,q) (hc:CellR w G c v):CellR w G d v:=by
 unfold WH at h;split at h
 ·simp only[Qa0] at h;subst h;have:=hp _ (Qd9 _);subst this;exact hc
 ·exact hc
 ·exact hc
 ·exact hc
 ·simp_all
 ·split at h
  ·rename_i e;obtain⟨rfl,rfl⟩:=e;simp only[Qa0] at h;subst h;have h1:=hp _ Qg0;have h2:=hp _ (Qe2 _ (Qd9 _));simp_all
  ·cases h
 ·simp only[Qa0] at h;subst h;have:=hp _ (Qd9 _);subst this;exact hc.1
 ·simp only[Qa0] at h;subst h;have:=hp _ (Qd9 _);subst this;exact hc.1
 ·simp only[Qa0] at h;subst h;have:=hp _ (Qd9 _);subst this;exact⟨hc,rfl⟩
 ·simp only[Qa0] at h;subst h;have:=hp _ (Qd9 _);subst this;exact⟨hc,rfl⟩
 ·rename_i t xs t' ys;split at h
  ·rename_i e;subst e;simp only[Qa0] at h;subst h;have:=hp _ (Qd9 _);subst this;exact hc
  ·cases h
 ·cases h
theorem Wc:∀ {cs ds:List Cell} {p:List Prop},JG cs ds=some p->(∀ q∈p,q)->ds.length=cs.length/\∀ (j:Nat) (d:Cell),ds[j]? = some d->∃ c,cs[j]? = some c/\∀ v,CellR w G c v->CellR w G d v:=by
 intro cs
 induction cs with
 | nil=>
  intro ds p h _;cases ds with
  | nil=>simp
  | cons d ds=>simp[JG] at h
 | cons c cs ih=>
  intro ds p h hp;cases ds with
  | nil=>simp[JG] at h
  | cons d ds=>
   simp only[JG] at h;split at h
   ·rename_i p1 p2 h1 h2;simp only[Qa0] at h;subst h;obtain⟨k1,k2⟩:=ih h2 (λq hq=>hp q (Qc0.2 (.inr hq)));refine⟨by simp[k1],λj d' hj=>?_⟩;cases j with
    | zero=>
     simp only[List.getElem?_cons_zero,Qa0] at hj;subst hj;exact⟨c,rfl,λv hv=>XC h1 (λq hq=>hp q (Qc0.2 (.inl hq))) hv⟩
    | succ j=>simpa using k2 j d' (by simpa using hj)
   ·cases h
theorem ZI:∀ {cs ds:List Cap} {p:List Prop},Lt cs ds=some p->(∀ q∈p,q)->cs=ds:=by
 intro cs
 induction cs with
 | nil=>
  intro ds p h _;cases ds with
  | nil=>rfl
  | cons d ds=>simp[Lt] at h
 | cons c cs ih=>
  intro ds p h hp;cases ds with
  | nil=>cases c<;>simp[Lt] at h
  | cons d ds=>
   cases c<;>cases d<;>simp only[Lt] at h
   ·grind
   ·cases h
   ·cases h
   ·split at h
    ·rename_i q h1;simp only[Qa0] at h;subst h;rw[hp _ (Qg0),ih h1 (λq hq=>hp q (Qe2 _ hq))]
    ·cases h
theorem AfT {x y:TV} {p:List Prop} {v:Value} (h:AiP x y=some p) (hp:∀ q∈p,q) (hx:TVR w G x v):TVR w G y v:=by
 unfold AiP at h;split at h
 ·rename_i a cs b ds;split at h
  ·rename_i e;subst e;obtain⟨h1,h2⟩:=Wc (w:=w) (G:=G) h hp;exact FV h1 h2 hx
  ·cases h
 ·simp_all
 ·split at h
  ·rename_i e;subst e;simp only[Qa0] at h;subst h;have:=hp _ (Qd9 _);subst this;exact hx
  ·cases h
 ·split at h
  ·rename_i e;subst e;rw[<-ZI h hp];exact hx
  ·cases h
 ·exact hx
 ·split at h
  ·rename_i e;subst e;split at h
   ·rename_i e2;subst e2;simp only[Qa0] at h;subst h;have:=hp _ (Qd9 _);subst this;exact hx
   ·cases h
  ·cases h
 ·cases h
theorem AaT (h:RG F G σ a w):∀ {l:List (Nat×TV)} {p:List Prop},Xr σ l=some p->(∀ q∈p,q)->∀ t x,(t,x)∈l->TVR w G x (a.tmps.getD t undef):=by
 intro l
 induction l with
 | nil=>intro p _ _ t x hm;simp at hm
 | cons e l ih=>
  obtain⟨t0,x0⟩:=e;intro p hs hp t x hm;unfold Xr at hs;split at hs
  ·rename_i e;cases e
  ·rename_i e;injection e with e1 e2
   injection e1 with e3 e4
   subst e2;subst e3;subst e4;rcases Qe5.1 hm with e|hm
   ·injection e with e1 e2;subst e2;trivial
   ·exact ih hs hp t x hm
  ·rename_i t1 x1 r1 _ e;injection e with e1 e2
   injection e1 with e3 e4
   subst e2;subst e3;subst e4;split at hs
   ·rename_i y hl;split at hs
    ·rename_i p1 p2 h1 h2;simp only[Qa0] at hs;subst hs;rcases Qe5.1 hm with e|hm
     ·injection e with e1 e2
      subst e1;subst e2;exact AfT h1 (λq hq=>hp q (Qc0.2 (.inl hq))) (h.tm t y hl)
     ·exact ih h2 (λq hq=>hp q (Qc0.2 (.inr hq))) t x hm
    ·cases hs
   ·cases hs
theorem Ahh (hE:EOk P E) {L:VR} {kp:List Nat}:∀ (c:Code) (σ:St) (a:Act) (w:World) (K:Ex->St->Out),R F σ a w->(run P E L kp c σ K).holds Q->c.wp P (AeG F K Q) a w:=by
 intro c
 induction c with
 | skip=>intro σ a w K h hh;exact wp_skip ⟨.normal,σ,rfl,h,hh⟩
 | region id ops draw=>
  intro σ a w K h hh;simp only[run] at hh;obtain⟨G,h⟩:=h;cases draw with
  | true=>
   simp only[Qd1] at hh;refine wp_mono (Zu (K:=λσ'=>K .normal (σ'.clean kp)) hE h hh) ?_;rintro e a' w' ⟨rfl,σ',⟨G',h'⟩,hh'⟩;exact⟨.normal,_,rfl,⟨G',h'.clean kp⟩,hh'⟩
  | false=>
   simp only[Qe7] at hh;refine wp_mono (wp_region (Acg hE (K:=λσ'=>K .normal (σ'.clean kp)) _ σ G a w h hh)) ?_;rintro e a' w' ⟨rfl,σ',⟨G',h'⟩,hh'⟩;exact⟨.normal,_,rfl,⟨G',h'.clean kp⟩,hh'⟩
 | seq x y ihx ihy=>
  intro σ a w K h hh;simp only[run] at hh;refine wp_seq (wp_mono (ihx σ a w _ h hh) ?_);rintro e a' w' ⟨ex,σ',he,h',hh'⟩;cases ex with
  | normal=>obtain rfl:=he;exact ihy σ' a' w' K h' hh'
  | exit id=>obtain rfl:=he;exact⟨.exit id,σ',rfl,h',hh'⟩
  | ret=>obtain rfl:=he;exact⟨.ret,σ',rfl,h',hh'⟩
 | cond c x y ihx ihy=>
  intro σ a w K h hh;simp only[run] at hh;obtain⟨G,hG⟩:=h;have hh:(AfQ (σ.eval c) (run P E L kp x (σ.dropC kp c) K) (run P E L kp y (σ.dropC kp c) K)).holds Q:=by
   cases hcc:XS kp c with
   | true=>rw[hcc,Qd1] at hh;exact AhQ hh
   | false=>rw[hcc,Qe7] at hh;exact hh
  obtain⟨b,hb,h1,h2⟩:=Zq (AW hG c) hh;exact wp_cond_split hb (λe=>ihx _ a w K ⟨G,hG.dropC kp c⟩ (h1 e)) (λe=>ihy _ a w K ⟨G,hG.dropC kp c⟩ (h2 e))
 | block id x ih=>
  intro σ a w K h hh;simp only[run] at hh;refine wp_block (wp_mono (ih σ a w _ h hh) ?_);rintro e a' w' ⟨ex,σ',he,h',hh'⟩;cases ex with
  | normal=>obtain rfl:=he;exact⟨.normal,σ',rfl,h',hh'⟩
  | exit i=>
   obtain rfl:=he;simp only[Exit.inBlock];split
   ·rename_i hi;simp only[hi,BEq.rfl,Qd1] at hh';exact⟨.normal,σ',rfl,h',hh'⟩
   ·rename_i hi;have h0:(i==id)=false:=by simpa using hi
    simp only[h0,Qe7] at hh';exact⟨.exit i,σ',rfl,h',hh'⟩
  | ret=>obtain rfl:=he;exact⟨.ret,σ',rfl,h',hh'⟩
 | exit id=>intro σ a w K h hh;exact wp_exit ⟨.exit id,σ,rfl,h,hh⟩
 | ret=>intro σ a w K h hh;exact wp_ret ⟨.ret,σ,rfl,h,hh⟩
 | loop b ih=>
  intro σ a w K h hh;simp only[run] at hh;cases hu:(OG kp (OF b) != 0) with
  | true=>
   rw[hu,Qd1] at hh;generalize OG kp (OF b)=m at hh;refine wp_loop_rounds m ?_;clear hu
   induction m generalizing σ a w with
   | zero=>exact hh.elim
   | succ m ihm=>
    rw[rounds_succ];refine wp_mono (ih σ a w _ h hh) ?_;rintro e a' w' ⟨ex,σ',he,h',hh'⟩;cases ex with
    | exit id=>obtain rfl:=he;exact⟨.exit id,σ',rfl,h',hh'⟩
    | ret=>obtain rfl:=he;exact⟨.ret,σ',rfl,h',hh'⟩
    | normal=>
     obtain rfl:=he;obtain⟨G',hG'⟩:=h';obtain⟨σ2,G2,h2,hh2⟩:=Y9 _ σ' G' _ hG' hh';exact ihm σ2 a' w' ⟨G2,h2⟩ hh2
  | false=>
  rw[hu,Qe7] at hh;split at hh
  ·rename_i li hli;obtain⟨G,hG⟩:=h;obtain⟨σ,G,hG,hh⟩:=Lx _ _ _ _ hG hh;split at hh
   ·rename_i x0 ab hg;cases hp:HY σ li.ps ab with
    | false=>simp[hp,Out.holds] at hh
    | true=>
     simp only[hp,Qd1] at hh;obtain⟨hinv,hbody⟩:=hh;generalize hbase:({ σ with tm:=Uz kp (dstsOf b) li.ps σ.tm,bx:=[],hp:=[]}:St)=base at hbody;have hbt:∀ t tv,look base.tm t=some tv->tv.memfree (hOf li.ps)=true/\(t,tv)∈base.tm/\TVR w G tv (a.tmps.getD t undef):=by
      intro t tv hl;have h1:=GD hl;subst hbase;simp only[Uz] at hl;rw[BL (TV.forget (hOf li.ps)),B9 (λs=>kp.contains s && !((dstsOf b).contains s||li.ps.any λv=>(match v.k with | .s=>true|_=>false)&&v.p==s))] at hl;split at hl
      ·cases hq:look σ.tm t with
       | none=>rw[hq] at hl;cases hl
       | some x=>
        rw[hq] at hl;simp only[Qb6,Qa0] at hl;subst hl;exact⟨MX _ x,h1,XL (hG.tm t x hq)⟩
      ·cases hl
     obtain⟨G0,hG0⟩:=X1 hG hg hp base (by subst hbase;rfl) (by subst hbase;rfl) (by subst hbase;rfl) (by subst hbase;rfl) (by subst hbase;rfl) (λt tv hl=>⟨(hbt t tv hl).1,(hbt t tv hl).2.2⟩);have key:∀ n (x:Xs li.ps) (a:Act) (w:World),li.m x<n->li.inv x0 x->R F (FL base li.ps x) a w->Code.rounds P b (AeG F K Q) n a w:=by
      intro n
      induction n with
      | zero=>intro x a w hm _ _;omega
      | succ n ihn=>
       intro x a w hm hx hR;rw[rounds_succ];refine wp_mono (ih _ a w _ hR (hbody x hx)) ?_;rintro e a' w' ⟨ex,σ',he,⟨G',h'⟩,hh'⟩;cases ex with
       | exit id=>obtain rfl:=he;exact⟨.exit id,σ',rfl,⟨G',h'⟩,hh'⟩
       | ret=>obtain rfl:=he;exact⟨.ret,σ',rfl,⟨G',h'⟩,hh'⟩
       | normal=>
        obtain rfl:=he;show Code.rounds P b (AeG F K Q) n a' w';obtain⟨σ',G',h',hh2⟩:=Lx _ _ _ _ h' hh';have hh2:(AiU li x0 x base σ').holds Q:=hh2;unfold AiU at hh2;split at hh2
        ·rename_i x' ab' hg';split at hh2
         ·rename_i ps hs;cases hc:(HY σ' li.ps ab'&&σ'.nt==base.nt&&σ'.fb==base.fb&&σ'.fl==base.fl) with
          | false=>simp[hc,Out.holds] at hh2
          | true=>
           simp only[hc,Qd1] at hh2;simp only[Qa1,Qf4] at hc;obtain⟨⟨⟨c1,c2⟩,c3⟩,c4⟩:=hc;obtain⟨hps,⟨hinv',hm'⟩,_⟩:=Ee hh2;obtain⟨G2,hG2⟩:=X1 h' hg' c1 base (by subst hbase;rfl) (by subst hbase;rfl) c3.symm c4.symm c2.symm (λt tv hl=>⟨(hbt t tv hl).1,AaT h' hs hps t tv (hbt t tv hl).2.1⟩);exact ihn x' a' w' o_ hinv' ⟨G2,hG2⟩
         ·exact hh2.elim
        ·exact hh2.elim
     exact wp_loop_rounds _ (key _ x0 a w (Nat.lt_succ_self _) hinv ⟨G0,hG0⟩)
   ·exact hh.elim
  ·exact hh.elim
 | _=>intro σ a w K h hh;simp only[run] at hh;exact hh.elim
end
end Go.D
namespace Go.D
def Pb (P:Program) (σ:St):ResultVar->Option (Bool×List Cell)
 | .tmp t=>match σ.get t with
  | .v agg cs=>some (agg,cs)
  | _=>none
 | .cell t T=>match σ.get t,P.underlying T,P.info? T with
  | .ptr b 0,some _,some i=>match look σ.bx b with
   | some cs=>if cs.length=i.size/\(Fb.aggOf P T=true\/i.size=1) then some (Fb.aggOf P T,cs) else none
   | none=>none
  | _,_,_=>none
def Jd (P:Program) (σ:St):List ResultVar->Option (List (Bool×List Cell))
 | []=>some []
 | r::rs=>match Pb P σ r,Jd P σ rs with
  | some p,some ps=>some (p::ps)
  | _,_=>none
def I9 (σ:St):List (Bool×List Cell)->Option (List (Bool×List FC))
 | []=>some []
 | p::ps=>match Pu σ p.2,I9 σ ps with
  | some (ds,_),some qs=>some ((p.1,ds)::qs)
  | _,_=>none
def Je (σ:St):List Nat->Option (List (Nat×List FC))
 | []=>some []
 | b::bs=>match look σ.bx b with
  | some cs=>match Pu σ cs,Je σ bs with
   | some (ds,_),some qs=>some ((b,ds)::qs)
   | _,_=>none
  | none=>none
def keptL (σ:St):List Nat->Option (List (Nat×Tree))
 | []=>some []
 | l::ls=>match look σ.hp l,keptL σ ls with
  | some T,some hs=>some ((l,T)::hs)
  | _,_=>none
def Jt (mk:Nat->Pl):Nat->List Cell->List (Pl×Cell)
 | _,[]=>[]
 | j,c::cs=>(mk j,c)::Jt mk (j+1) cs
def LU:Nat->List (Bool×List Cell)->List (Pl×Cell)
 | _,[]=>[]
 | i,p::ps=>Jt (.res i) 0 p.2++LU (i+1) ps
def JM (σ:St):List Nat->List (Pl×Cell)
 | []=>[]
 | b::bs=>(match look σ.bx b with|some cs=>Jt (.box b) 0 cs|none=>[])++JM σ bs
def Ew:List (Pl×Cell)->List Nat
 | []=>[]
 | (_,.ref l)::r=>l::Ew r
 | _::r=>Ew r
def V6:List (Bool×List FC)->Res
 | [p]=>.one p.1 p.2
 | qs=>.tup qs
def PL (P:Program) (fn:Func) (fb kl:List Nat) (σ:St):Out :=
 match Jd P σ fn.results.toList with
 | some ps=>match I9 σ ps,Je σ fb,keptL σ kl with
  | some qs,some bs,some hs=>bif Bn (Ew (LU 0 ps)++(Ew (JM σ fb)++kl))&&Bn fb then .leaf (V6 qs) bs hs else .bad
  | _,_,_=>.bad
 | none=>.bad
def Ao8 (P:Program) (fn:Func) (fb kl:List Nat):Ex->St->Out
 | .normal,σ=>settle fn.results.toList σ λσ=>IM fb σ (PL P fn fb kl)
 | .ret,σ=>settle fn.results.toList σ λσ=>IM fb σ (PL P fn fb kl)
 | .exit _,_=>.bad
def start (nt:Nat) (A:Arg) (kl:List Nat):St:={ nt,tm:=A.tm.zipIdx.map (λp=>(p.2,p.1)),bx:=A.bx,hp:=A.hp,fb:=A.bx.map (·.1),fl:=kl }
def QU:FC->FC->Prop
 | .val u,.val v=>u=v
 | .nl,.nl=>True
 | .nl,.l _ ys=>ys=[]
 | .l t xs,.l t' ys=>if h:t=t' then h▸xs=ys else False
 | _,_=>False
def Jy:List FC->List FC->Prop
 | [],[]=>True
 | c::cs,d::ds=>QU c d/\Jy cs ds
 | _,_=>False
def T9:List (Bool×List FC)->List (Bool×List FC)->Prop
 | [],[]=>True
 | p::ps,q::qs=>(p.1=q.1/\Jy p.2 q.2)/\T9 ps qs
 | _,_=>False
def J9:Res->Res->Prop
 | .one a cs,.one b ds=>a=b/\Jy cs ds
 | .tup ps,.tup qs=>T9 ps qs
 | _,_=>False
def TY:List (Nat×List FC)->List (Nat×List FC)->Prop
 | [],[]=>True
 | p::ps,q::qs=>(p.1=q.1/\Jy p.2 q.2)/\TY ps qs
 | _,_=>False
def FE (p q:Pst):Prop:=J9 p.r q.r/\TY p.bx q.bx/\p.hp=q.hp
def Ctr.post (c:Ctr):Post:=⟨λr bx hp=>match c with
 | .det _ q=>FE ⟨r,hp,bx⟩ q
 | .ex _ X ok q=>∃ x:X,ok x/\FE ⟨r,hp,bx⟩ (q x)
 | .df _ _ e q=>FE ⟨r,hp,bx⟩ (q e),λ_ _=>False⟩
theorem ZX:∀ {c d:FC},QU c d->fcLe c d:=by
 intro c d h;cases c with
 | val u=>cases d<;>first|exact h.elim|(obtain rfl:=h;exact fcLe.refl _)
 | nl=>
  cases d with
  | val v=>exact h.elim
  | nl=>exact fcLe.refl _
  | l t ys=>obtain rfl:=h;exact .inr ⟨rfl,t,rfl⟩
 | l t xs=>
  cases d with
  | val v=>exact h.elim
  | nl=>exact h.elim
  | l t' ys=>
   simp only[QU] at h;split at h
   ·rename_i e;subst e;obtain rfl:=h;exact fcLe.refl _
   ·exact h.elim
theorem JH:∀ {cs ds:List FC},Jy cs ds->FcsLe cs ds:=by
 intro cs
 induction cs with
 | nil=>intro ds h;cases ds with
  | nil=>exact .nil
  | cons d ds=>exact h.elim
 | cons c cs ih=>intro ds h;cases ds with
  | nil=>exact h.elim
  | cons d ds=>exact .cons (ZX h.1) (ih h.2)
section
variable {P:Program} {E:Env} {F:Fr P} {G:Gh} {σ:St} {a:Act} {w w':World} {o:Oper} {K:St->Out} {Q:Post} {Qx:Exit->Act->World->Prop}
theorem PartO.le {agg:Bool} {cs ds:List FC} {v:Value} {Fs:Nat->Nat->Prop} (h:PartO w agg cs v Fs) (hl:FcsLe cs ds):PartO w agg ds v Fs:=by
 obtain⟨hl1,hl2⟩:=hl.get;have hle:∀ (j:Nat) (c d:FC),cs[j]? = some c->ds[j]? = some d->D.le (fcC c) (fcC d):=by intro j c d hc hd;have:=(hl2 j).le;simp_all
 cases agg with
 | false=>
  obtain⟨c,rfl,h1,h2⟩:=h;obtain⟨d,rfl⟩:=Qe4.1 hl1.symm;exact⟨d,rfl,TO.le (hle 0 c d rfl rfl) h1,h2⟩
 | true=>
  obtain⟨vs,rfl,hs,h⟩:=h;refine⟨vs,rfl,by rw[hs,hl1],λj d hj=>?_⟩;have hlt:j<cs.length:=by rw[hl1];exact(List.getElem?_eq_some_iff.1 hj).1
  obtain⟨u,hu,h1,h2⟩:=h j _ (Qa5 hlt);exact⟨u,hu,TO.le (hle j _ d (Qa5 hlt) hj) h1,h2⟩
theorem UY:∀ {ps qs:List (Bool×List FC)},T9 ps qs->ps.length=qs.length/\∀ (i:Nat) (q:Bool×List FC),qs[i]? = some q->∃ p,ps[i]? = some p/\p.1=q.1/\FcsLe p.2 q.2:=by
 intro ps
 induction ps with
 | nil=>intro qs h;cases qs with
  | nil=>simp
  | cons q qs=>exact h.elim
 | cons p ps ih=>intro qs h;cases qs with
  | nil=>exact h.elim
  | cons q qs=>
   obtain⟨h1,h2⟩:=ih h.2;refine⟨by simp[h1],λi q' hq=>?_⟩;cases i with
   | zero=>simp only[List.getElem?_cons_zero,Qa0] at hq;subst hq;exact⟨p,rfl,h.1.1,JH h.1.2⟩
   | succ i=>simpa using h2 i q' (by simpa using hq)
theorem ResR.le {r r':Res} {v:Value} {Fs:Nat->Nat->Nat->Prop} (h:ResR w r v Fs) (hl:J9 r r'):ResR w r' v Fs:=by
 cases r with
 | one a cs=>
  cases r' with
  | tup qs=>exact hl.elim
  | one b ds=>obtain⟨rfl,hl⟩:=hl;exact PartO.le h (JH hl)
 | tup ps=>
  cases r' with
  | one b ds=>exact hl.elim
  | tup qs=>
   obtain⟨vs,rfl,hs,hp⟩:=h;obtain⟨h1,h2⟩:=UY hl;refine⟨vs,rfl,by rw[hs,h1],λi q hq=>?_⟩;obtain⟨p,hpi,e1,e2⟩:=h2 i q hq;obtain⟨u,hu,hpo⟩:=hp i p hpi;exact⟨u,hu,e1▸PartO.le hpo e2⟩
theorem MA:∀ {ps qs:List (Nat×List FC)},TY ps qs->∀ b ds,look qs b=some ds->∃ cs,look ps b=some cs/\FcsLe cs ds:=by
 intro ps
 induction ps with
 | nil=>intro qs h;cases qs with
  | nil=>simp[look]
  | cons q qs=>exact h.elim
 | cons p ps ih=>intro qs h;cases qs with
  | nil=>exact h.elim
  | cons q qs=>
   obtain⟨p1,p2⟩:=p;obtain⟨q1,q2⟩:=q;obtain⟨⟨h1,h2⟩,h3⟩:=h;intro b ds hl;have h1:p1=q1:=h1;subst h1;simp only[look] at hl ⊢;split at hl
   ·rename_i e;simp only[Qa0] at hl;subst hl;exact⟨p2,by simp[e],JH h2⟩
   ·grind
theorem PstF.le {p q:Pst} {v:Value} {Fs:Pl->Nat->Prop} (h:PstF w G w' v p Fs) (hl:FE p q):PstF w G w' v q Fs:=by
 obtain⟨h1,h2,h3⟩:=hl;refine⟨λs b hs=>⟨(h.own s b hs).1,(h.own s b hs).2.1,λb0 hb0=>(h.own s b hs).2.2 b0 ?_⟩,h.dis,h.res.le h1,λl T hT=>h.hp l T (by rw[h3];exact hT),λb ds hb=>?_⟩
 ·obtain⟨ds,hds⟩:=Option.isSome_iff_exists.1 hb0;obtain⟨cs,hcs,_⟩:=MA h2 b0 ds hds;rw[hcs];rfl
 ·obtain⟨cs,hcs,hle⟩:=MA h2 b ds hb;obtain⟨r,e,k1,k2,k3⟩:=h.bx b cs hcs;obtain⟨l1,l2⟩:=hle.get;refine⟨r,e,k1,by rw[k2,l1],λj d hd=>?_⟩;have hlt:j<cs.length:=by rw[l1];exact(List.getElem?_eq_some_iff.1 hd).1
  obtain⟨u,hu,ht,h1⟩:=k3 j _ (Qa5 hlt);have:=(l2 j).le;refine⟨u,hu,TO.le ?_ ht,h1⟩;grind
def JV (tmps:Array Value) (r:ResultVar):Sem Value:=match r with
 | .tmp t=>pure (tmps.getD t undef)
 | .cell a t=>do loadVar t (<-asAddr (tmps.getD a undef))
theorem Sp (h:RG F G σ a w) {r:ResultVar} {p:Bool×List Cell} (hr:Pb P σ r=some p):∃ v,(JV a.tmps r).run P w=.ok v w/\Gv w G p.1 p.2 v:=by
 unfold Pb at hr;split at hr
 ·rename_i t;have hx:=NO h t;split at hr
  ·rename_i agg cs he;simp only[Qa0] at hr;subst hr;rw[he] at hx;exact⟨_,rfl,hx⟩
  ·simp at hr
 ·rename_i t T;have hx:=NO h t;split at hr
  ·rename_i b d i he hd hi;rw[he] at hx;split at hr
   ·rename_i cs hb;split at hr
    ·rename_i hc;obtain⟨hlen,hs⟩:=hc;simp only[Qa0] at hr;subst hr;obtain⟨h1,row,e,h2,h3⟩:=h.bx b cs hb;have hrl:row.toList.length=i.size:=by rw[Qc6,h3.1,hlen]
     refine⟨GQ P T row.toList,?_,Zn (P:=P) T cs row.toList (by rw[hrl,hlen]) (λj c hj=>by simpa using h3.2 j c hj) (by rwa [hlen])⟩;have:=F2 (P:=P) (w:=w) T d i (G.be b) 0 row e (0,0) hd hi h2 row.toList hrl (λj v hv=>by simpa using hv) hs;simp only[TVR] at hx;simp only[JV,hx,asAddr,Sem.run_bind,Sem.run_pure,Result.andThen_ok,this]
    ·simp at hr
   ·simp at hr
  ·simp at hr
theorem Sk (h:RG F G σ a w):∀ (rs:List ResultVar) (ps:List (Bool×List Cell)),Jd P σ rs=some ps->∃ vs:List Value,(rs.mapM (JV a.tmps)).run P w=.ok vs w/\vs.length=ps.length /\
 ∀ (i:Nat) (p:Bool×List Cell),ps[i]? = some p->∃ v,vs[i]? = some v/\Gv w G p.1 p.2 v:=by
 intro rs
 induction rs with
 | nil=>intro ps hp;simp only[Jd,Qa0] at hp;subst hp;exact⟨[],by simp,rfl,by simp⟩
 | cons r rs ih=>
  intro ps hp;simp only[Jd] at hp;split at hp
  ·rename_i p ps' h1 h2;simp only[Qa0] at hp;subst hp;obtain⟨v,hv,hpr⟩:=Sp h h1;obtain⟨vs,hvs,hl,hps⟩:=ih ps' h2;refine⟨v::vs,?_,by simp[hl],λi q hq=>?_⟩
   ·simp_all
   ·grind
  ·simp at hp
theorem R4 (fn:Func) (tmps:Array Value) (vs:List Value) (h:(fn.results.toList.mapM (JV tmps)).run P w=.ok vs w) :
 (results fn tmps).run P w=.ok (if h:vs.length=1 then vs[0] else .tuple vs.toArray) w:=by
 have e:(fn.results.mapM (JV tmps):Sem (Array Value)).run P w=.ok vs.toArray w:=by rw[Array.mapM_eq_mapM_toList];simp_all
 have e2:results fn tmps=(fn.results.mapM (JV tmps) >>= λvs=>pure (if h:vs.size=1 then vs[0] else .tuple vs)):=rfl;rw[e2,Sem.run_bind,e,Result.andThen_ok];simp
theorem TW (h:RG F G σ a w) {agg:Bool} {cs:List Cell} {ds:List FC} {ab:List Nat} {v:Value} (hl:Pu σ cs=some (ds,ab)) (hv:Gv w G agg cs v) :
 PartO w agg ds v (λj b=>∃ c m,cs[j]? = some c/\Bu c m/\G.ow b=.lab m):=by
 obtain⟨l1,l2,l3,l4⟩:=MR h cs ds ab hl;have cell:∀ (j:Nat) (c:Cell) (u:Value),cs[j]? = some c->CellR w G c u->TO w (fcC (ds.getD j .nl)) u (λb=>∃ c m,cs[j]? = some c/\Bu c m/\G.ow b=.lab m)/\u.oneCell'=true :=
  λj c u hc hu=>⟨(l2 j c u hc hu).frame λb hb _=>⟨rfl,let ⟨m,hm,hb⟩:=hb;⟨c,m,hc,hm,hb⟩⟩,hu.one⟩
 cases agg with
 | false=>
  obtain⟨c,hcs,hcr⟩:=hv;subst hcs;obtain⟨d,rfl⟩:=Qe4.1 l1;have:=cell 0 c v rfl hcr;exact⟨d,rfl,by simpa using this.1,this.2⟩
 | true=>
  obtain⟨vs,rfl,hs,hcr⟩:=hv;refine⟨vs,rfl,by rw[hs,l1],λj d hj=>?_⟩;have hlt:j<cs.length:=by rw[<-l1];exact(List.getElem?_eq_some_iff.1 hj).1
  obtain⟨u,hu,hcu⟩:=hcr j _ (Qa5 hlt);have:=cell j _ u (Qa5 hlt) hcu;simp_all
theorem Q6:∀ {ps:List (Bool×List Cell)} {qs:List (Bool×List FC)},I9 σ ps=some qs->qs.length=ps.length/\∀ (i:Nat) (q:Bool×List FC),qs[i]? = some q->∃ p ab,ps[i]? = some p/\p.1=q.1/\Pu σ p.2=some (q.2,ab):=by
 intro ps
 induction ps with
 | nil=>intro qs h;simp only[I9,Qa0] at h;subst h;simp
 | cons p ps ih=>
  intro qs h;simp only[I9] at h;grind
theorem Pm:∀ {bs:List Nat} {qs:List (Nat×List FC)},Je σ bs=some qs->qs.map (·.1)=bs/\∀ b ds,look qs b=some ds->b∈bs/\∃ cs ab,look σ.bx b=some cs/\Pu σ cs=some (ds,ab):=by
 intro bs
 induction bs with
 | nil=>intro qs h;simp only[Je,Qa0] at h;subst h;simp[look]
 | cons b bs ih=>
  intro qs h;simp only[Je] at h;split at h
  ·rename_i cs hcs;split at h
   ·rename_i ds ab qs' h1 h2;simp only[Qa0] at h;subst h;obtain⟨k1,k2⟩:=ih h2;refine⟨by simp[k1],λb' ds' hl=>?_⟩;simp only[look] at hl;grind
   ·cases h
  ·cases h
theorem keptL_look:∀ {ls:List Nat} {hs:List (Nat×Tree)},keptL σ ls=some hs->∀ l T,look hs l=some T->l∈ls/\look σ.hp l=some T:=by
 intro ls
 induction ls with
 | nil=>intro hs h;simp only[keptL,Qa0] at h;subst h;simp[look]
 | cons l ls ih=>
  intro hs h;simp only[keptL] at h;split at h
  ·rename_i T hs' h1 h2;simp only[Qa0] at h;subst h;intro l' T' hl;simp only[look] at hl;grind
  ·cases h
theorem Abf:∀ {L:List (Pl×Cell)} {s:Pl} {c:Cell} {m:Nat},(s,c)∈L->Bu c m->m∈Ew L:=by
 intro L
 induction L with
 | nil=>intro s c m h;simp at h
 | cons x L ih=>
  obtain⟨s0,c0⟩:=x;intro s c m h hm;rcases Qe5.1 h with e|h
  ·injection e with e1 e2
   subst e2;cases c<;>simp[Bu] at hm;subst hm;simp[Ew]
  ·have:=ih h hm;cases c0<;>simp[Ew,this]
theorem Aa8:∀ {L:List (Pl×Cell)} {s s':Pl} {c c':Cell} {m:Nat},Bn (Ew L)=true->(s,c)∈L->(s',c')∈L->Bu c m->Bu c' m->s=s':=by
 intro L
 induction L with
 | nil=>intro s s' c c' m _ h;simp at h
 | cons x L ih=>
  obtain⟨s0,c0⟩:=x;intro s s' c c' m hn h h' hm hm';have tail:Bn (Ew L)=true:=by cases c0<;>simp only[Ew] at hn<;>first|exact hn|(simp only[Bn,Qa1] at hn;exact hn.2)
  have key:∀ {t:Pl} {d:Cell},(t,d)∈L->Bu d m->¬ Bu c0 m:=by intro t d hd hdm hc0;cases c0<;>simp[Bu] at hc0;subst hc0;simp only[Ew,Bn,Qa1,Qc7,List.contains_eq_mem,Qa9] at hn;exact hn.1 (Abf hd hdm)
  grind
theorem LH {mk:Nat->Pl}:∀ {cs:List Cell} {s j:Nat} {c:Cell},cs[j]? = some c->(mk (s+j),c)∈Jt mk s cs:=by
 intro cs
 induction cs with
 | nil=>intro s j c h;simp at h
 | cons d cs ih=>
  intro s j c h;cases j with
  | zero=>simp only[List.getElem?_cons_zero,Qa0] at h;subst h;simp[Jt]
  | succ j=>
   have:=ih (s:=s+1) (j:=j) (c:=c) (by simpa using h);rw[show s+1+j=s+(j+1) from o_] at this;simp[Jt,this]
theorem Sv:∀ {ps:List (Bool×List Cell)} {s i j:Nat} {p:Bool×List Cell} {c:Cell},ps[i]? = some p->p.2[j]? = some c->(Pl.res (s+i) j,c)∈LU s ps:=by
 intro ps
 induction ps with
 | nil=>intro s i j p c h;simp at h
 | cons q ps ih=>
  intro s i j p c h hc;cases i with
  | zero=>
   simp only[List.getElem?_cons_zero,Qa0] at h;subst h;have:=LH (mk:=.res s) (s:=0) hc;rw[Qd6] at this;exact Qc0.2 (.inl this)
  | succ i=>
   have:=ih (s:=s+1) (i:=i) (by simpa using h) hc;rw[show s+1+i=s+(i+1) from o_] at this;exact Qc0.2 (.inr this)
theorem S0:∀ {bs:List Nat} {b j:Nat} {cs:List Cell} {c:Cell},b∈bs->look σ.bx b=some cs->cs[j]? = some c->(Pl.box b j,c)∈JM σ bs:=by
 intro bs
 induction bs with
 | nil=>intro b j cs c h;simp at h
 | cons b0 bs ih=>
  intro b j cs c h hl hc;simp only[JM];rcases Qe5.1 h with rfl|h
  ·have:=LH (mk:=.box b) (s:=0) hc;simp_all
  ·simp_all
theorem SB (L R:List (Pl×Cell)):Ew (L++R)=Ew L++Ew R:=by
 induction L with
 | nil=>rfl
 | cons x L ih=>
  obtain⟨s,c⟩:=x;cases c<;>simp[Ew,ih]
def F0 {P:Program} (w:World) (G:Gh) (A:Arg) (kl:List Nat) (hB:Base P w G.ow):Fr P:=⟨w,G.ow,A.bx.map (λp=>(p.1,G.be p.1)),kl.map λl=>(l,G.hv l),hB⟩
theorem Lu {α:Type} {f:Nat->α}:∀ {l:List Nat} {k:Nat},k∈l->look (l.map λx=>(x,f x)) k=some (f k):=by
 intro l
 induction l with
 | nil=>intro k h;simp at h
 | cons x l ih=>
  intro k h;simp only[Qd0,look];grind
theorem S5 {w0:World} {G0:Gh} {A:Arg} {fn:Func} {kl:List Nat} {hB:Base P w0 G0.ow} {S:Pst->Prop} (hA:∀ g,G0.ow g=.free->g<w0.heap.size) (hAc:∀ g,G0.ow g=.cur->g<w0.heap.size) (h:RG (F0 w0 G0 A kl hB) G σ a w) (hh:(PL P fn (A.bx.map (·.1)) kl σ).holds ⟨λr bx hp=>S ⟨r,hp,bx⟩,λ_ _=>False⟩) :
 ∃ v p Fs,(results fn a.tmps).run P w=.ok v w/\S p/\PstF w0 G0 w v p Fs:=by
 unfold PL at hh;split at hh
 ·rename_i ps hps;split at hh
  ·rename_i qs bs hs h1 h2 h3;generalize hcnd:(Bn (Ew (LU 0 ps)++(Ew (JM σ (A.bx.map (·.1)))++kl))&&Bn (A.bx.map (·.1)))=cnd at hh;cases cnd with
   | false=>exact hh.elim
   | true=>
    simp only[Qd1] at hh;rw[Qa1] at hcnd;obtain⟨hn,hnb⟩:=hcnd;obtain⟨vs,hrun,hlen,hpv⟩:=Sk (P:=P) h fn.results.toList ps hps;have hres:=R4 fn a.tmps vs hrun;obtain⟨q1,q2⟩:=Q6 h1;obtain⟨b1,b2⟩:=Pm h2;have k2:=keptL_look h3
    let L:List (Pl×Cell):=LU 0 ps++(JM σ (A.bx.map (·.1))++kl.map λl=>(Pl.keep l,Cell.ref l))
    have hlk:Ew (kl.map λl=>(Pl.keep l,Cell.ref l))=kl:=by
     clear hn h3 k2 h hh L
     induction kl with
     | nil=>rfl
     | cons l kl ih=>simp[Ew,ih]
    have hL:Bn (Ew L)=true:=by simp only[L,SB,hlk];exact hn
    let Fs:Pl->Nat->Prop:=λs b=>∃ c m,(s,c)∈L/\Bu c m/\G.ow b=.lab m
    have hF:PstF w0 G0 w (if h:vs.length=1 then vs[0] else .tuple vs.toArray) ⟨V6 qs,hs,bs⟩ Fs:=by
     refine⟨?_,?_,?_,?_,?_⟩
     ·rintro s b ⟨c,m,_,_,hb⟩;refine⟨h.lt b (by simp[hb]),⟨λhf=>?_,λhf=>?_⟩,λb0 hb0 e=>?_⟩
      ·have:=(h.keep.free b (hA b hf) hf).2;rw[hb] at this;cases this
      ·have:=(h.keep.cur b (hAc b hf) hf).1;rw[hb] at this;cases this
      ·obtain⟨ds,hds⟩:=Option.isSome_iff_exists.1 hb0;obtain⟨m1,cs,ab,m2,_⟩:=b2 b0 ds hds;have hbe:G.be b0=G0.be b0:=by refine(h.fb b0 (G0.be b0) ?_).1;have:=Lu (f:=λb=>G0.be b) m1;simpa [F0,Qg2,Function.comp_def] using this
       have:=(h.bx b0 cs m2).1;rw[hbe,<-e,hb] at this;cases this
     ·rintro s s' b ⟨c,m,hc,hm,hb⟩ ⟨c',m',hc',hm',hb'⟩;rw[hb] at hb';injection hb' with e
      subst e;exact Aa8 hL hc hc' hm hm'
     ·have part:∀ (i:Nat) (q:Bool×List FC),qs[i]? = some q->∃ u,vs[i]? = some u/\PartO w q.1 q.2 u (λj=>Fs (.res i j)):=by
       intro i q hq;obtain⟨p,ab,hp,e1,hl⟩:=q2 i q hq;obtain⟨u,hu,hpr⟩:=hpv i p hp;refine⟨u,hu,?_⟩;have:=TW h hl hpr;rw[e1] at this;have fo:∀ j b,(∃ c m,p.2[j]? = some c/\Bu c m/\G.ow b=.lab m)->Fs (.res i j) b:=by
        rintro j b ⟨c,m,hc,hm,hb⟩;refine⟨c,m,Qc0.2 (.inl ?_),hm,hb⟩;have:=Sv (s:=0) hp hc
        rwa [Qd6] at this
       generalize q.1=ag at this;cases ag with
       | false=>obtain⟨c,e1,e2,e3⟩:=this;exact⟨c,e1,e2.frame λb hb _=>⟨rfl,fo 0 b hb⟩,e3⟩
       | true=>obtain⟨us,e1,e2,e3⟩:=this;exact⟨us,e1,e2,λj c hc=>let ⟨u,hu,ht,h1⟩:=e3 j c hc;⟨u,hu,ht.frame λb hb _=>⟨rfl,fo j b hb⟩,h1⟩⟩
      match qs,q1,part with
      | [],q1,part=>
       have hl0:vs.length=0:=by rw[hlen,<-q1];rfl
       rw[dif_neg o_];exact⟨vs.toArray,rfl,by simpa using hl0,by simp⟩
      | [q],q1,part=>
       have hv1:vs.length=1:=by rw[hlen,<-q1];rfl
       obtain⟨u,hu,hpo⟩:=part 0 q rfl;obtain⟨v0,rfl⟩:=Qe4.1 hv1;simp only[List.getElem?_cons_zero,Qa0] at hu;subst hu;exact hpo
      | q::q'::qs,q1,part=>
       have hl0:vs.length=qs.length+2:=by rw[hlen,<-q1];rfl
       rw[dif_neg o_];refine⟨vs.toArray,rfl,by simpa using hl0,λi p hp=>?_⟩;obtain⟨u,hu,hpo⟩:=part i p hp;exact⟨u,by simpa using hu,hpo⟩
     ·intro l T hl;obtain⟨m1,m2⟩:=k2 l T hl;have hv:G.hv l=G0.hv l:=(h.fl l (G0.hv l) (Lu (f:=λl=>G0.hv l) m1)).1;rw[<-hv];exact(h.hp l T m2).frame λb hb _=>⟨rfl,_,l,Qc0.2 (.inr (Qc0.2 (.inr (Qg7.2 ⟨l,m1,rfl⟩)))),rfl,hb⟩
     ·intro b ds hb;obtain⟨m1,cs,ab,m2,m3⟩:=b2 b ds hb;have hbe:G.be b=G0.be b:=by refine(h.fb b (G0.be b) ?_).1;have:=Lu (f:=λb=>G0.be b) m1;simpa [F0,Qg2,Function.comp_def] using this
      obtain⟨_,r,e,n1,n2⟩:=h.bx b cs m2;have hpr:=TW h (v:=.agg r) (agg:=true) m3 ⟨r,rfl,n2⟩;obtain⟨r',er,e2,e3⟩:=hpr;injection er with er
      subst er;refine⟨r,e,by rw[<-hbe];exact n1,e2,λj c hc=>?_⟩;obtain⟨u,hu,ht,h1⟩:=e3 j c hc;refine⟨u,hu,ht.frame λx hx _=>⟨rfl,?_⟩,h1⟩;obtain⟨c',m,hc',hm,hx⟩:=hx;exact⟨c',m,Qc0.2 (.inr (Qc0.2 (.inl (S0 m1 m2 hc')))),hm,hx⟩
    exact⟨_,_,Fs,hres,hh,hF⟩
  ·exact hh.elim
 ·exact hh.elim
theorem VW (args:List TV) (t:Nat):look (args.zipIdx.map (λp=>(p.2,p.1))) t=args[t]?:=by
 have key:∀ (args:List TV) (s t:Nat),look ((args.zipIdx s).map (λp=>(p.2,p.1))) t=if t<s then none else args[t-s]?:=by
  intro args
  induction args with
  | nil=>intro s t;simp[look]
  | cons x args ih=>
   intro s t;simp only[List.zipIdx_cons,Qd0,look,ih,Qf4];grind
 simp_all
def F5 (P:Program) (E:Env) (L:VR) (kp kl:List Nat) (fn:Func) (A:Arg):Out:=run P E L kp (fn.body.getD .skip) (start fn.ntmps A kl) (Ao8 P fn (A.bx.map (·.1)) kl)
theorem PU {α β:Type} {f:Nat->β}:∀ {l:List (Nat×α)} {b:Nat} {β0:β},look (l.map λp=>(p.1,f p.1)) b=some β0->f b=β0/\(l.map (·.1)).contains b=true:=by
 intro l
 induction l with
 | nil=>intro b β0 h;simp[look] at h
 | cons p l ih=>
  intro b β0 h;simp only[Qd0,look] at h;grind
theorem Iu {f:Nat} {fn:Func} {A:Arg} {c:Ctr} {L:VR} {kp kl:List Nat} (hE:EOk P E) (hf:P.funcs[f]? = some fn) (hb:fn.body.isSome=true) (hn:decide (A.tm.length<=fn.ntmps)=true)
 (hh:(F5 P E L kp kl fn A).holds c.post):Con P f A c.sat:=by
 obtain⟨code,hc⟩:=Option.isSome_iff_exists.1 hb;intro w vs G hB hA;have hn:=Qg1 hn;refine calls_of_wp hf hc ?_;have h0:RG (F0 w G A kl hB) G (start fn.ntmps A kl) { tmps:=vs++Array.replicate (fn.ntmps-vs.size) undef,defers:=[]} w:=by
  refine⟨?_,hA.bx,hA.hp,hA.lt,rfl,rfl,⟨rfl,DrLe.refl _⟩,Qa8 _,?_,?_,?_,?_,rfl⟩
  ·intro t tv hl;simp only[start,VW] at hl;obtain⟨v,hv,ht⟩:=hA.tm t tv hl;have hlt:t<vs.size:=(Array.getElem?_eq_some_iff.1 hv).1;have:(vs++Array.replicate (fn.ntmps-vs.size) undef).getD t undef=v:=by rw[Array.getD_eq_getD_getElem?,Array.getElem?_append_left hlt,hv];rfl
   rw[this];exact ht
  ·exact⟨λg hg hfree=>⟨rfl,hfree⟩,λg hg hcu=>⟨hcu,(hA.cr g hcu).same rfl⟩,hA.cr⟩
  ·intro b β hl;exact PU (f:=λb=>G.be b) (l:=A.bx) hl
  ·intro l v hl;have:=GD hl;simp only[F0,Qg7] at this;obtain⟨l',h1,h2⟩:=this;injection h2 with e1 e2
   subst e1;subst e2;exact⟨rfl,by simpa [start] using h1⟩
  ·have:=hA.sz;simp[start];omega
 unfold F5 at hh;rw[hc] at hh;refine wp_mono (Ahh hE code _ _ w _ ⟨_,h0⟩ hh) ?_;rintro e a' w' ⟨ex,σ',he,⟨G',h'⟩,hh'⟩;have fin:(settle fn.results.toList σ' λσ=>IM (A.bx.map (·.1)) σ (PL P fn (A.bx.map (·.1)) kl)).holds c.post->a'.defers=[]/\∃ v,(results fn a'.tmps).run P w'=.ok v w'/\S9 w G c.sat (.returned v) w':=by
  intro hl;obtain⟨σ1,G1,h',hl⟩:=YB _ _ _ _ h' hl;obtain⟨σ2,G2,h',hl⟩:=Sz _ _ _ _ h' hl;have hfr:∀ g,G.ow g=.free->g<w.heap.size:=λg hg=>hA.lt g (by simp[hg])
  have hfc:∀ g,G.ow g=.cur->g<w.heap.size:=λg hg=>hA.lt g (by simp[hg])
  refine⟨h'.df,?_⟩;have on:Onward w w':=⟨h'.os,h'.tape,h'.output,h'.size⟩;have fr:∀ g,G.ow g=.free->w'.heap[g]? = w.heap[g]?:=λg hg=>(h'.keep.free g (hfr g hg) hg).1
  have cu:∀ g,G.ow g=.cur->CurStep w w' g:=λg hg=>(h'.keep.cur g (hfc g hg) hg).2
  cases c with
  | det pre q=>
   obtain⟨v,p,Fs,h1,h2,h3⟩:=S5 (S:=λp=>FE p q) hfr hfc h' hl;exact⟨v,h1,v,q,rfl,rfl,on,fr,cu,Fs,h3.le h2⟩
  | ex pre X ok q=>
   obtain⟨v,p,Fs,h1,⟨x,hx,h2⟩,h3⟩:=S5 (S:=λp=>∃ x:X,ok x/\FE p (q x)) hfr hfc h' hl;exact⟨v,h1,v,q x,⟨x,hx,rfl⟩,rfl,on,fr,cu,Fs,h3.le h2⟩
  | df pre X e q=>
   obtain⟨v,p,Fs,h1,h2,h3⟩:=S5 (S:=λp=>FE p (q e)) hfr hfc h' hl;exact⟨v,h1,v,q e,rfl,rfl,on,fr,cu,Fs,h3.le h2⟩
 cases ex with
 | normal=>obtain rfl:=he;exact fin hh'
 | ret=>obtain rfl:=he;exact fin hh'
 | exit id=>exact hh'.elim
end
end Go.D
namespace Go.D
abbrev Ts:List Sh->Type
 | []=>Unit
 | s::ss=>s.X×Ts ss
inductive Ak where
 | v (s:Sh)
 | p (s:Sh)
 | c (g:Nat) (ss:List Sh)
 | u
abbrev Ak.X:Ak->Type
 | .v s=>s.X
 | .p s=>s.X
 | .c _ ss=>Ts ss
 | .u=>Unit
abbrev As:List Ak->Type
 | []=>Unit
 | s::ss=>s.X×As ss
abbrev aI:Ak:=.v (.el .int)
abbrev aB:Ak:=.v (.el .bool)
abbrev aT:Ak:=.v (.el .str)
abbrev aE (t:Ty):Ak:=.v (.el t)
abbrev aL (t:Ty):Ak:=.v (.sl t)
abbrev rI:Sh:=.el .int
abbrev rB:Sh:=.el .bool
abbrev rT:Sh:=.el .str
abbrev rE (t:Ty):Sh:=.el t
abbrev rL (t:Ty):Sh:=.sl t
def M8 (s:Sh) (x:s.X):TV:=.v s.agg ((s.fc x).map (toCell none))
def EB:(ss:List Sh)->Ts ss->List Cap
 | [],_=>[]
 | s::ss,x=>.aptr (s.fc x.1)::EB ss x.2
def Ac6:(k:Ak)->k.X->TV
 | .v s,x=>M8 s x
 | .p s,x=>.aptr (s.fc x) 0
 | .c g ss,x=>.clo g (EB ss x)
 | .u,_=>.cur
def Et:(ss:List Ak)->As ss->List TV
 | [],_=>[]
 | s::ss,x=>Ac6 s x.1::Et ss x.2
def decV (s:Sh):TV->Option s.X
 | .v agg cs=>bif agg==s.agg then(match FJ cs with
  | some ds=>s.dec ds
  | none=>none) else none
 | _=>none
def Iw:(ss:List Sh)->List Cap->Option (Ts ss)
 | [],[]=>some ()
 | s::ss,.aptr ds::cs=>match s.dec ds,Iw ss cs with
  | some y,some ys=>some (y,ys)
  | _,_=>none
 | _,_=>none
def Qf:(k:Ak)->TV->Option k.X
 | .v s,x=>decV s x
 | .p s,.aptr ds 0=>s.dec ds
 | .c g ss,.clo g' cs=>bif g==g' then Iw ss cs else none
 | .u,.cur=>some ()
 | _,_=>none
def Mr:(ss:List Ak)->List TV->Option (As ss)
 | [],[]=>some ()
 | s::ss,x::xs=>match Qf s x,Mr ss xs with
  | some y,some ys=>some (y,ys)
  | _,_=>none
 | _,_=>none
def JE:(rs:List Sh)->Ts rs->List (Bool×List FC)
 | [],_=>[]
 | s::ss,x=>(s.agg,s.fc x.1)::JE ss x.2
def mkR (rs:List Sh) (y:Ts rs):Res:=V6 (JE rs y)
structure Fct where
 as:List Ak
 rs:List Sh
 pre:As as->Prop
 fn:As as->Ts rs
def Fct.spec (S:Fct):D.Spec:=λA=>match A.bx,A.hp with
 | [],[]=>match Mr S.as A.tm with
  | some x=>some (.df [S.pre x] (Ts S.rs) (S.fn x) λy=>⟨mkR S.rs y,[],[]⟩)
  | none=>none
 | _,_=>none
def Fct.arg (S:Fct) (x:As S.as):Arg:=⟨Et S.as x,[],[]⟩
def Fct.ctr (S:Fct) (x:As S.as):Ctr:=.det [] ⟨mkR S.rs (S.fn x),[],[]⟩
def Fct.ok (S:Fct) (P:Program) (f:Nat):Prop:=∀ x,S.pre x->Con P f (S.arg x) (S.ctr x).sat
theorem ZE {w:World} {G:Gh} {s:Sh} {x:TV} {y:s.X} {v:Value} (h:decV s x=some y) (hx:TVR w G x v):TVR w G (M8 s y) v:=by
 unfold decV at h;split at h
 ·rename_i agg cs;cases ha:(agg==s.agg) with
  | false=>simp[ha] at h
  | true=>
   simp only[ha,Qd1] at h;split at h
   ·rename_i ds hd;obtain⟨l1,l2⟩:=Hi (w:=w) (G:=G) cs ds hd;obtain⟨k1,k2⟩:=(Sh.dec_ok h).get;have hlen:((s.fc y).map (toCell none)).length=cs.length:=by rw[Qe9,<-k1,l1]
    have ha':agg=s.agg:=by simpa using ha
    unfold M8;rw[<-ha'];refine FV (cs:=cs) hlen (λj d hj=>?_) hx;rw[Qc3] at hj;cases hq:(s.fc y)[j]? with
    | none=>simp[hq] at hj
    | some fc=>
     simp only[hq,Qb6,Qa0] at hj;subst hj;have hlt:j<cs.length:=by rw[<-l1,k1];exact(List.getElem?_eq_some_iff.1 hq).1
     refine⟨_,Qa5 hlt,λu hu=>Gx ?_⟩;have ht:=l2 j _ u (Qa5 hlt) hu;have hle:=(k2 j).le;have hd':(s.fc y).getD j .nl=fc:=by simp[List.getD,hq]
     rw[hd'] at hle;exact TR.le hle ht
   ·cases h
 ·cases h
theorem TT {w:World} {G:Gh} {s:Sh} {ds:List FC} {y:s.X} {r:Array Value} (h:s.dec ds=some y) (hr:Og w G ds r):Og w G (s.fc y) r:=by
 obtain⟨k1,k2⟩:=(Sh.dec_ok h).get;intro j c hc;have hlt:j<ds.length:=by rw[k1];exact(List.getElem?_eq_some_iff.1 hc).1
 obtain⟨u,hu,ht⟩:=hr j _ (Qa5 hlt);have hle:=(k2 j).le;have hd':(s.fc y).getD j .nl=c:=by simp[List.getD,hc]
 have hd2:ds.getD j .nl=ds[j]:=by simp[List.getD,Qa5 hlt]
 rw[hd',hd2] at hle;exact⟨u,hu,TR.le hle ht⟩
theorem Wm {w:World} {G:Gh}:∀ {ss:List Sh} {cs:List Cap} {y:Ts ss},Iw ss cs=some y->(EB ss y).length=cs.length/\∀ (j:Nat) (c:Cap),(EB ss y)[j]? = some c->∃ c',cs[j]? = some c'/\∀ v,Wx w G c' v->Wx w G c v:=by
 intro ss
 induction ss with
 | nil=>
  intro cs y h;cases cs with
  | nil=>simp[EB]
  | cons c cs=>cases c<;>simp[Iw] at h
 | cons s ss ih=>
  intro cs y h;cases cs with
  | nil=>simp[Iw] at h
  | cons c cs=>
   cases c with
   | ptr b=>simp[Iw] at h
   | aptr ds=>
    simp only[Iw] at h;split at h
    ·rename_i y1 ys h1 h2;simp only[Qa0] at h;subst h;obtain⟨k1,k2⟩:=ih h2;refine⟨by simp[EB,k1],λj c hj=>?_⟩;cases j with
     | zero=>
      simp only[EB,List.getElem?_cons_zero,Qa0] at hj;subst hj;exact⟨_,rfl,λv ⟨g,r,e,fr,q1,q2,q3,q4⟩=>⟨g,r,e,fr,q1,q2,q3,TT h1 q4⟩⟩
     | succ j=>simpa [EB] using k2 j c (by simpa [EB] using hj)
    ·cases h
theorem Uq {w:World} {G:Gh} {k:Ak} {x:TV} {y:k.X} {v:Value} (h:Qf k x=some y) (hx:TVR w G x v):TVR w G (Ac6 k y) v:=by
 cases k with
 | v s=>exact ZE h hx
 | p s=>
  cases x<;>first|(simp[Qf] at h;done)|skip
  rename_i ds off;cases off with
  | succ n=>simp[Qf] at h
  | zero=>
   obtain⟨g,r,e,fr,q1,q2,q3,q4⟩:=hx;exact⟨g,r,e,fr,q1,q2,q3,TT h q4⟩
 | c g ss=>
  cases x<;>first|(simp[Qf] at h;done)|skip
  rename_i g' cs;simp only[Qf] at h;cases hg:(g==g') with
  | false=>simp[hg] at h
  | true=>
   simp only[hg,Qd1] at h;have hg':g=g':=by simpa using hg
   subst hg';obtain⟨k1,k2⟩:=Wm (w:=w) (G:=G) h;obtain⟨vs,rfl,hs,hc⟩:=hx;refine⟨vs,rfl,by rw[hs,k1],λj c hj=>?_⟩;grind
 | u=>
  cases x<;>first|(simp[Qf] at h;done)|skip
  exact hx
theorem IJ {w:World} {G:Gh}:∀ {ss:List Ak} {xs:List TV} {ys:As ss},Mr ss xs=some ys->(Et ss ys).length=xs.length/\∀ (j:Nat) (y:TV),(Et ss ys)[j]? = some y->∃ x,xs[j]? = some x/\∀ v,TVR w G x v->TVR w G y v:=by
 intro ss
 induction ss with
 | nil=>
  intro xs ys h;cases xs with
  | nil=>simp[Et]
  | cons x xs=>simp[Mr] at h
 | cons s ss ih=>
  intro xs ys h;cases xs with
  | nil=>simp[Mr] at h
  | cons x xs=>
   simp only[Mr] at h;split at h
   ·rename_i y ys' h1 h2;simp only[Qa0] at h;subst h;obtain⟨k1,k2⟩:=ih h2;refine⟨by simp[Et,k1],λj y' hj=>?_⟩;cases j with
    | zero=>simp only[Et,List.getElem?_cons_zero,Qa0] at hj;subst hj;exact⟨x,rfl,λv hv=>Uq h1 hv⟩
    | succ j=>simpa [Et] using k2 j y' (by simpa [Et] using hj)
   ·cases h
theorem Fct.spec_ok {S:Fct} {P:Program} {f:Nat} (h:S.ok P f):Ky P f S.spec:=by
 intro A c hc hp;unfold Fct.spec at hc;split at hc
 ·rename_i hb hh;split at hc
  ·rename_i x hx;simp only[Qa0] at hc;subst hc;have hpre:S.pre x:=hp _ (Qd9 _);intro w vs G hB hA;refine(h x hpre w vs G hB ⟨?_,?_,by simp[Fct.arg,look],by simp[Fct.arg,look],hA.lt,hA.cr⟩).mono ?_
   ·rw[hA.sz];exact(IJ (w:=w) (G:=G) hx).1.symm
   ·intro j y hj;obtain⟨x',hx',hr⟩:=(IJ (w:=w) (G:=G) hx).2 j y hj;obtain⟨v,hv,ht⟩:=hA.tm j x' hx';simp_all
   ·rintro e w' ⟨v,p,hs,hrest⟩;exact⟨v,p,hs,hrest⟩
  ·cases hc
 ·cases hc
abbrev vi (n:Int):FC:=.val (.int .i64 n)
abbrev vb (b:Bool):FC:=.val (.bool b)
abbrev vs (s:ByteArray):FC:=.val (.string s)
def AdD (g:D.Spec):Option (List Md×D.Spec)->D.Spec
 | some ([],g0)=>λA=>match g A with
  | some c=>some c
  | none=>g0 A
 | _=>g
def Env.add (E:Env) (f:Nat) (S:Fct):Env:=E.ext f [] (AdD S.spec (E.fn f))
theorem EOk.add {P:Program} {E:Env} (h:EOk P E) {f:Nat} {S:Fct} (hS:S.ok P f):EOk P (E.add f S):=by
 refine h.ext ?_ (λhn=>by cases hn);have hS':=Fct.spec_ok hS;refine(?_:Ky P f _);unfold AdD;split
 ·rename_i g0 hg0;intro A c hc;dsimp only at hc;split at hc
  ·rename_i c' hc';simp only[Qa0] at hc;subst hc;exact hS' A c' hc'
  ·exact(h f [] g0 hg0).1 A c hc
 ·exact hS'
structure HoldsE (e:Out) (Q:Post):Prop where
 h:e.holds Q
theorem Fct.of {S:Fct} {P:Program} {E:Env} {L:As S.as->VR} {kp:List Nat} {f:Nat} {fn:Func} (hE:EOk P E) (hf:P.funcs[f]? = some fn) (hb:fn.body.isSome=true) (hn:decide (S.as.length<=fn.ntmps)=true)
 (hh:∀ x,S.pre x->HoldsE (F5 P E (L x) kp [] fn (S.arg x)) (S.ctr x).post):S.ok P f:=by
 intro x hx;refine Iu hE hf hb ?_ (hh x hx).h;have hl:∀ (ss:List Ak) (x:As ss),(Et ss x).length=ss.length:=by
  intro ss
  induction ss with
  | nil=>intro _;rfl
  | cons s ss ih=>intro x;simp[Et,ih]
 have:(S.arg x).tm.length=S.as.length:=hl _ _;rw[this];exact hn
theorem RD (c:FC):QU c c:=by
 cases c with
 | val u=>rfl
 | nl=>trivial
 | l t xs=>simp[QU]
theorem FW:∀ cs:List FC,Jy cs cs
 | []=>trivial
 | c::cs=>⟨RD c,FW cs⟩
theorem LL:∀ ps:List (Bool×List FC),T9 ps ps
 | []=>trivial
 | p::ps=>⟨⟨rfl,FW _⟩,LL ps⟩
theorem Fa:∀ r:Res,J9 r r
 | .one _ cs=>⟨rfl,FW cs⟩
 | .tup ps=>LL ps
theorem Fct.leafY {S:Fct} {x:As S.as} {y:Ts S.rs} (h:y=S.fn x):(Out.leaf (mkR S.rs y) [] []).holds (S.ctr x).post:=by
 subst h;exact⟨Fa _,trivial,rfl⟩
theorem Fct.leafR {S:Fct} {x:As S.as} {r:Res} (h:J9 r (mkR S.rs (S.fn x))):(Out.leaf r [] []).holds (S.ctr x).post:=⟨h,trivial,rfl⟩
theorem Fct.leafZ {S:Fct} {x:As S.as} {r:Res} (y:Ts S.rs) (h1:J9 r (mkR S.rs y)) (h:y=S.fn x):(Out.leaf r [] []).holds (S.ctr x).post:=Fct.leafR (h▸h1)
theorem Aa {Q:Post} {p:Prop} {x:Out} (hp:p) (hx:p->x.holds Q):(Out.ob p x).holds Q:=⟨hp,hx hp⟩
theorem Ab {Q:Post} {b:Bool} {x y:Out} (hx:b=true->x.holds Q) (hy:b=false->y.holds Q):(Out.br b x y).holds Q:=⟨hx,hy⟩
theorem J4 {Q:Post} {X:Type} {p:Prop} {inv:X->Prop} {x:X->Out} (hp:p) (hx:∀ y,inv y->(x y).holds Q):(Out.lp X p inv x).holds Q:=⟨hp,hx⟩
theorem DQ {Q:Post} {X:Type} {e:X} {x:X->Out} (hx:(x e).holds Q):(Out.lt X e x).holds Q:=hx
theorem AlY {Q:Post} {X:Type} {e:X} {x:X->Out} (hx:∀ y,y=e->(x y).holds Q):(Out.lt X e x).holds Q:=hx e rfl
theorem An {Q:Post} {li:LInv} {x0:Xs li.ps} {f:Xs li.ps->(Xs li.ps->Prop)->Out} (hp:li.inv x0 x0) (hx:∀ y,li.inv x0 y->(f y λx'=>li.inv x0 x'/\li.m x'<li.m y).holds Q):(lpx li x0 f).holds Q:=⟨hp,hx⟩
def Out.cl (S:Fct) (x:As S.as) (k:Ts S.rs->Out):Out:=.ob (S.pre x) (.lt (Ts S.rs) (S.fn x) k)
theorem Af {Q:Post} {S:Fct} {x:As S.as} {k:Ts S.rs->Out} (hp:S.pre x) (hx:S.pre x->(k (S.fn x)).holds Q):(Out.cl S x k).holds Q:=⟨hp,hx hp⟩
theorem Fi {Q:Post} {S:Fct} {x:As S.as} {k:Ts S.rs->Out} (hp:S.pre x) (hx:S.pre x->∀ y,y=S.fn x->(k y).holds Q):(Out.cl S x k).holds Q:=⟨hp,hx hp _ rfl⟩
def Out.lf (S:Fct) (y:Ts S.rs):Out:=.leaf (mkR S.rs y) [] []
theorem lfY {S:Fct} {x:As S.as} {y:Ts S.rs} (h:y=S.fn x):(Out.lf S y).holds (S.ctr x).post:=Fct.leafY h
def wr (x:Int):Int:=IntKind.i64.wrap x
def w1 (x:Int):Int:=IntKind.i64.wrap (x+1)
def inB (i:Int) (n:Nat):Prop:=0<=i/\i<n
theorem ho {e:Out} {Q:Post} (X:Out) (hX:X.holds Q) (h:e=X:=by kernel_rfl):HoldsE e Q:=⟨h▸hX⟩
theorem Fct.o {S:Fct} {P:Program} {E:Env} {f:Nat} {fn:Func} (kp:List Nat) (hE:EOk P E) (hf:P.funcs[f]? = some fn)
 (hh:∀ x,S.pre x->HoldsE (F5 P E (λ_=>none) kp [] fn (S.arg x)) (S.ctr x).post) (hc:(fn.body.isSome&&decide (S.as.length<=fn.ntmps))=true:=by kernel_rfl):S.ok P f:=by
 rw[Qa1] at hc;exact Fct.of (L:=λ_ _=>none) hE hf hc.1 hc.2 hh
end Go.D
namespace Go.D
open Go.RowKit Go.ChangeShapes Go.WideShapes
def D6:Nat->FC->Prop
 | _,.val (.int k n)=>(Lit.int k n).wf=true
 | _,.val (.string s)=>s.size<=maxLen
 | 0,.l _ xs=>xs.length<=maxLen
 | d+1,.l t xs=>xs.length<=maxLen/\∀ x∈xs,∀ c∈enc t x,D6 d c
 | _,_=>True
def good (t:Ty) (x:El t):Prop:=∀ c∈enc t x,D6 8 c
def Sh.good (s:Sh) (x:s.X):Prop:=∀ c∈s.fc x,D6 8 c
abbrev Ls (ss:List Sh):List Ak:=ss.map .v
def Ag9:(ss:List Sh)->As (Ls ss)->Prop
 | [],_=>True
 | s::ss,x=>s.good x.1/\Ag9 ss x.2
theorem Vt:∀ (d:Nat) (c:FC),D6 (d+1) c->D6 d c:=by
 intro d
 induction d with
 | zero=>
  intro c h;cases c with
  | val v=>cases v<;>exact h
  | nl=>trivial
  | l t xs=>exact h.1
 | succ d ih=>
  intro c h;cases c with
  | val v=>cases v<;>exact h
  | nl=>trivial
  | l t xs=>exact⟨h.1,λx hx c hc=>ih c (h.2 x hx c hc)⟩
theorem Aa4 {d e:Nat} (hde:d<=e) {c:FC} (h:D6 e c):D6 d c:=by
 induction e with
 | zero=>
  simp_all
 | succ e ih=>
  by_cases hd:d=e+1
  ·subst hd;exact h
  ·exact ih o_ (Vt e c h)
def Jl (P:Program) (r:TypeId->Option (List Shp)):List Field->Nat->Option (List Shp)
 | [],_=>some []
 | f::fs,off=>match r f.type,Jl P r fs (off+P.cellsOf f.type) with
  | some s,some s'=>bif f.offset==off&&s.length==P.cellsOf f.type then some (s++s') else none
  | _,_=>none
def shapeOf (P:Program) (ty:TypeId->Option Ty):Nat->TypeId->Option (List Shp)
 | 0,_=>none
 | d+1,T=>match P.underlying T with
  | some .bool=>some [.kb]
  | some (.int .i64)=>some [.ki]
  | some (.int .u8)=>some [.ku]
  | some .string=>some [.ks]
  | some (.slice e)=>match ty e with
   | some t=>some [.kl t]
   | none=>none
  | some (.struct fs)=>match Jl P (shapeOf P ty d) fs.toList 0 with
   | some s=>bif s.length==P.cellsOf T then some s else none
   | none=>none
  | _=>none
def Me:List Shp->List Shp->Bool
 | [],[]=>true
 | a::as,b::bs=>decide (a=b)&&Me as bs
 | _,_=>false
def Aou (P:Program) (ty:TypeId->Option Ty) (l:List TypeId):Bool :=
 l.all λe=>match ty e with
  | some t=>(match shapeOf P ty 20 e with
   | some s=>Me s t.shapes
   | none=>false)&&P.cellsOf e==t.width
  | none=>false
theorem Rf:∀ {a b:List Shp},Me a b=true->a=b:=by
 intro a
 induction a with
 | nil=>intro b h;cases b<;>simp_all [Me]
 | cons x a ih=>intro b h;cases b with
  | nil=>simp[Me] at h
  | cons y b=>simp only[Me,Qa1,Qa7] at h;rw[h.1,ih h.2]
theorem Td {α:Type} [Inhabited α] {p:Nat->α->Prop}:∀ {n:Nat},(∀ i,i<n->∃ y,p i y)->∃ l:List α,l.length=n/\∀ i,i<n->p i (l.getD i default):=by
 intro n
 induction n with
 | zero=>intro _;exact⟨[],rfl,λi h=>o_⟩
 | succ n ih=>
  intro h;obtain⟨l,h1,h2⟩:=ih λi hi=>h i o_
  obtain⟨y,hy⟩:=h n o_;refine⟨l++[y],by simp[h1],λi hi=>?_⟩;grind
section
variable {H:Type} {enc':TypeId×Value->H} {P:Program} {w:World} {ty:TypeId->Option Ty} {spare:Nat->Bool} {held:Bool}
def inW (w:World):Nat->Prop:=λg=>g<w.heap.size
def Told (w:World) (cs:List Value) (sh:List Shp):Prop:=∃ fs:List FC,fs.length=cs.length/\fs.map FC.shp=sh/\(∀ (j:Nat) (c:FC) (u:Value),fs[j]? = some c->cs[j]? = some u->TR w (inW w) (fcC c) u)/\∀ c∈fs,D6 8 c
theorem KF {u:Value} {S:Nat->Prop} (h:plain u=true):TR w S (.val u) u:=⟨rfl,h⟩
theorem HP {c:FC} {u:Value} (h:TR w (inW w) (fcC c) u) (hg:D6 8 c):Told w [u] [c.shp]:=by
 refine⟨[c],rfl,rfl,λj c' u' hc hu=>?_,λc' hc=>by simp at hc;subst hc;exact hg⟩;grind
theorem YF {a:Addr} {n:Nat} {cs:List Value} (h:w.cells? 0 a n=some cs):cs.length=n/\∀ j,j<n->w.cell? (a.add j)=cs[j]?:=by
 unfold World.cells? at h;rw[Qa2 (Nat.zero_le _)] at h;refine⟨by simpa using mapM_some_length h,λj hj=>?_⟩;exact mapM_some_get h j j (by simp[hj])
theorem Afj {a:Addr} {u:Value} (h:w.cell? a=some u):∃ g o row e fr,a=⟨g,o,none⟩/\w.heap[g]? = some (.cells row e fr)/\row[o]? = some u:=by
 unfold World.cell? at h;split at h
 ·rename_i c t fr hb;split at h
  ·cases h
  ·rename_i hs;obtain⟨g,o,sp⟩:=a;simp only[Option.isSome_iff_ne_none,ne_eq,Decidable.not_not] at hs;grind
 ·cases h
theorem Z0 (c:FC) (h:D6 8 c) (d:Nat) (hd:d<=8):D6 d c:=Aa4 hd h
theorem H8 {t:Ty} {x:El t} {c:FC} (hc:c∈enc t x):c.rank<=t.rank:=by
 have:=TG t x;simp_all
theorem AcR:∀ (d:Nat) (c:FC),c.rank<=d->D6 d c->D6 (d+1) c:=by
 intro d
 induction d with
 | zero=>
  intro c hr h;cases c with
  | val v=>cases v<;>exact h
  | nl=>trivial
  | l t xs=>simp[FC.rank] at hr
 | succ d ih=>
  intro c hr h;cases c with
  | val v=>cases v<;>exact h
  | nl=>trivial
  | l t xs=>
   simp only[FC.rank] at hr;exact⟨h.1,λx hx c hc=>ih c (by have:=H8 hc;omega) (h.2 x hx c hc)⟩
theorem Yb (hty:∀ e t,ty e=some t->shapeOf P ty 20 e=some t.shapes/\P.cellsOf e=t.width):∀ (fuel:Nat) (T:TypeId) (cs:List Value) (x:DataW H×List MemPlace) (d:Nat) (sh:List Shp),
 DataW.trod enc' P w 0 spare held fuel T cs=some x->shapeOf P ty d T=some sh->Told w cs sh:=by
 intro fuel
 induction fuel with
 | zero=>intro T cs x d sh h;simp[DataW.trod] at h
 | succ n ih=>
  intro T cs x d sh h hs;cases d with
  | zero=>simp[shapeOf] at hs
  | succ d=>
   unfold shapeOf at hs;split at hs
   ·rename_i hu;simp only[Qa0] at hs;subst hs;obtain⟨b,rfl,_⟩:=DataW.trod_bool hu h;exact HP (c:=.val (.bool b)) (KF rfl) trivial
   ·rename_i hu;simp only[Qa0] at hs;subst hs;obtain⟨m,rfl,_,hw⟩:=DataW.trod_int hu h;exact HP (c:=.val (.int .i64 m)) (KF rfl) hw
   ·rename_i hu;simp only[Qa0] at hs;subst hs;obtain⟨m,rfl,_,hw⟩:=DataW.trod_int hu h;exact HP (c:=.val (.int .u8 m)) (KF rfl) hw
   ·rename_i hu;simp only[Qa0] at hs;subst hs;obtain⟨s,rfl,_,hw⟩:=DataW.trod_string hu h;exact HP (c:=.val (.string s)) (KF rfl) hw
   ·rename_i e hu;split at hs
    ·rename_i t ht;simp only[Qa0] at hs;subst hs;obtain⟨hsh,hcw⟩:=hty e t ht;rcases DataW.trod_slice hu h with⟨rfl,_⟩|⟨a,len,cap,elems,rest,n',hn,rfl,_,_,hlc,hcm,hlen,hel,_,_⟩
     ·refine HP (c:=.l t []) ?_ ⟨Nat.zero_le _,by simp⟩;rw[EC];exact⟨none,0,rfl,Qa8 _,.inl rfl⟩
     ·have hn':n=n':=o_
      subst hn';have each:∀ i,i<len->∃ y:El t,(∀ j,j<t.width->∃ u,w.cell? ((a.add (i*t.width)).add j)=some u/\TR w (inW w) (fcC ((D.enc t y).getD j .nl)) u)/\∀ c∈D.enc t y,D6 8 c:=by
       intro i hi;have h1:=hel i hi;rw[hcw] at h1;have hlt:i<elems.length:=o_
       rw[Qa5 hlt,Option.bind_eq_some_iff] at h1;obtain⟨cs',hcs,htr⟩:=h1;obtain⟨fs,f1,f2,f3,f4⟩:=ih e cs' _ 20 t.shapes htr hsh;obtain⟨y,rfl⟩:=Qe t fs f2;obtain⟨c1,c2⟩:=YF hcs;refine⟨y,λj hj=>?_,f4⟩;have hj':j<cs'.length:=o_
       refine⟨cs'[j],by rw[c2 j hj];simp[hj'],?_⟩;have hje:j<(D.enc t y).length:=by rw[Lg];exact hj
       rw[Qb2,Qa5 hje,Option.getD_some];exact f3 j _ _ (Qa5 hje) (Qa5 hj')
      obtain⟨xs,x1,x2⟩:=Td each;refine HP (c:=.l t xs) ?_ ⟨o_,λy hy c hc=>?_⟩
      ·rw[EC,x1];refine⟨some a,cap,rfl,hlc,?_⟩;by_cases h0:len=0
       ·exact .inl h0
       ·right;obtain⟨u,hu1,_⟩:=(x2 0 o_).1 0 (EY t);have ha:(a.add (0*t.width)).add 0=a:=by simp[Addr.add]
        rw[ha] at hu1;obtain⟨g,o,row,te,fr,rfl,hg,_⟩:=Afj hu1;refine⟨g,o,row,te,fr,rfl,(Array.getElem?_eq_some_iff.1 hg).1,hg,λi hi j hj=>?_⟩;obtain⟨u,hu1,hu2⟩:=(x2 i hi).1 j hj;rw[FZ,FZ] at hu1;refine⟨u,?_,?_⟩
        ·unfold World.cell? at hu1;rw[hg] at hu1;simpa using hu1
        ·simpa [cell] using hu2
      ·obtain⟨i,hi⟩:=List.mem_iff_getElem?.1 hy;have hilt:i<len:=by rw[<-x1];exact(List.getElem?_eq_some_iff.1 hi).1
       have:=(x2 i hilt).2;have hxi:xs.getD i default=y:=by simp[List.getD,hi]
       rw[hxi] at this;exact Z0 c (this c hc) 7 o_
    ·cases hs
   ·rename_i fs hu;split at hs
    ·rename_i s hsf;cases hl:(s.length==P.cellsOf T) with
     | false=>simp[hl] at hs
     | true=>
      simp only[hl,Qd1,Qa0] at hs;subst hs;obtain⟨xs,n',hn,_,hcl,hxl,hfld⟩:=DataW.trod_struct hu h;have hn':n=n':=o_
      subst hn';have key:∀ (l:List Field) (i0 off:Nat) (s:List Shp),(∀ (i:Nat) (f:Field),l[i]? = some f->fs[i0+i]? = some f)->Jl P (shapeOf P ty d) l off=some s->off+s.length<=cs.length->Told w ((cs.drop off).take s.length) s:=by
       intro l
       induction l with
       | nil=>
        intro i0 off s _ hs _;simp only[Jl,Qa0] at hs;subst hs;exact⟨[],by simp,rfl,by simp,by simp⟩
       | cons f l ihl=>
        intro i0 off s hget hs hoff;simp only[Jl] at hs;split at hs
        ·rename_i s1 s2 h1 h2;cases hc:(f.offset==off&&s1.length==P.cellsOf f.type) with
         | false=>simp[hc] at hs
         | true=>
          simp only[hc,Qd1,Qa0] at hs;subst hs;simp only[Qa1,Qf4] at hc;obtain⟨ho,hsz⟩:=hc;have hf:=hfld i0 f (by simpa using hget 0 f rfl);have hi0:i0<xs.length:=by rw[hxl];exact(Array.getElem?_eq_some_iff.1 (by simpa using hget 0 f rfl)).1
          rw[Qa5 hi0,ho,<-hsz] at hf;obtain⟨fa,a1,a2,a3,a4⟩:=ih f.type _ _ d s1 hf h1;simp only[Qa3] at hoff;obtain⟨fb,b1,b2,b3,b4⟩:=ihl (i0+1) (off+P.cellsOf f.type) s2 (λi f' hi=>by
           have:=hget (i+1) f' (by simpa using hi)
           rwa [show i0+(i+1)=i0+1+i from o_] at this) h2 o_
          rw[<-hsz] at b1 b3;have hsplit:(cs.drop off).take (s1++s2).length=(cs.drop off).take s1.length++(cs.drop (off+s1.length)).take s2.length:=by rw[Qa3,List.take_add,List.drop_drop]
          rw[hsplit];refine⟨fa++fb,by simp only[Qa3,a1,b1],by rw[List.map_append,a2,b2],λj c u hc hu=>?_,λc hc=>?_⟩
          ·by_cases hj:j<fa.length
           ·rw[Qb5 hj] at hc;rw[Qb5 (by rw[<-a1];exact hj)] at hu;exact a3 j c u hc hu
           ·rw[Qb8 o_] at hc;rw[Qb8 (by rw[<-a1];omega),<-a1] at hu;exact b3 _ c u hc hu
          ·rcases Qc0.1 hc with hc|hc
           ·exact a4 c hc
           ·exact b4 c hc
        ·cases hs
      have hlen:s.length=cs.length:=by rw[hcl];simpa using hl
      have:=key fs.toList 0 0 s (λi f hi=>by simpa using hi) hsf o_;rw[hlen] at this;simpa using this
    ·cases hs
   ·cases hs
end
end Go.D
namespace Go.D
open Go.RowKit Go.ChangeShapes Go.WideShapes
def Sh.shapes:Sh->List Shp
 | .el t=>t.shapes
 | .sl t=>[.kl t]
theorem Sh.of_shape {s:Sh} {fs:List FC} (h:fs.map FC.shp=s.shapes):∃ x:s.X,fs=s.fc x:=by
 cases s with
 | el t=>exact Qe t fs h
 | sl t=>
  obtain⟨a,g,rfl,h2⟩:=sL h;obtain rfl:=sE h2;exact⟨a,rfl⟩
def Aih (as:List Sh):Fct:=⟨Ls as,[.el .bool],λx=>Ag9 as x,λ_=>(true,())⟩
def MY (P:Program) (ty:TypeId->Option Ty):List TypeId->List Sh->Bool
 | [],[]=>true
 | T::ts,s::ss=>(match shapeOf P ty 20 T with
  | some sh=>Me sh s.shapes
  | none=>false)&&(Fb.aggOf P T==s.agg)&&(match P.underlying T with
  | some .bool=>true
  | some (.int _)=>true
  | some .string=>true
  | some (.slice _)=>true
  | some (.struct _)=>true
  | _=>false)&&MY P ty ts ss
 | _,_=>false
section
variable {H:Type} {enc':TypeId×Value->H} {P:Program} {w W W':World} {ty:TypeId->Option Ty} {spare:Nat->Bool} {held:Bool} {base:Nat}
theorem Pj {T:TypeId} {cs:Array Value} {d:TypeDesc} (hu:P.underlying T=some d) (hd:d=.bool\/(∃ k,d=.int k)\/d=.string\/∃ e,d=.slice e) (h:Value.okWide P w .any base T (.agg cs)):False:=by
 unfold Value.okWide at h;rw[hu] at h;rcases hd with rfl|⟨k,rfl⟩|rfl|⟨e,rfl⟩<;>simp only[Cell.okWide,hu,Cell.ok] at h
theorem AaV (hty:∀ e t,ty e=some t->shapeOf P ty 20 e=some t.shapes/\P.cellsOf e=t.width) {T:TypeId} {s:Sh} {v:Value} {d:DataW H} {p:List MemPlace} (h:DataW.Trod enc' P w 0 spare held T v d p) (hv:Value.okWide P w .any base T v)
 (hp:MY P ty [T] [s]=true):∃ x:s.X,s.good x/\∀ G:Gh,(∀ g,g<w.heap.size->G.ow g=.free)->TVR w G (M8 s x) v:=by
 simp only[MY,Qa1,Qf4,Qe0] at hp;obtain⟨⟨hsh,hag⟩,hkind⟩:=hp;split at hsh
 ·rename_i sh hs;have hse:=Rf hsh;subst hse;obtain⟨fuel,htr⟩:=h;obtain⟨fs,f1,f2,f3,f4⟩:=Yb hty fuel T _ _ 20 _ htr hs;obtain⟨x,rfl⟩:=Sh.of_shape f2;refine⟨x,f4,λG hG=>?_⟩;have tr:∀ (j:Nat) (c:FC) (u:Value),(s.fc x)[j]? = some c->v.cells.toList[j]? = some u->CellR w G (toCell none c) u:=λj c u hc hu=>
   Gx ((f3 j c u hc hu).frame λg hg _=>⟨rfl,hG g hg⟩)
  have cells:BM w G ((s.fc x).map (toCell none)) v.cells:=by
   refine⟨by rw[Qe9,f1,Qc6],λj c hj=>?_⟩;rw[Qc3] at hj;cases hq:(s.fc x)[j]? with
   | none=>simp[hq] at hj
   | some fc=>
    simp only[hq,Qb6,Qa0] at hj;subst hj;have hlt:j<v.cells.size:=by have:=(List.getElem?_eq_some_iff.1 hq).1;rw[f1,Qc6] at this;exact this
    exact⟨v.cells[j],by simp[hlt],tr j fc _ hq (by simp[hlt])⟩
  unfold M8;rw[<-hag];split at hkind
  ·rename_i hu;have h0:Fb.aggOf P T=false:=by simp[Fb.aggOf,hu]
   rw[h0];have hna:∀ cs,v≠.agg cs:=λcs e=>Pj hu (.inl rfl) (e▸hv)
   have hvc:v.cells = #[v]:=by cases v<;>first|rfl|exact absurd rfl (hna _)
   obtain⟨c,hc⟩:=Qe4.1 (show((s.fc x).map (toCell none)).length=1 by rw[<-cells.1,hvc];rfl);obtain⟨u,hu1,hu2⟩:=cells.2 0 c (by rw[hc];rfl);rw[hvc] at hu1;simp only[List.getElem?_toArray,List.getElem?_cons_zero,Qa0] at hu1;subst hu1;exact⟨c,hc,hu2⟩
  ·rename_i k hu;have h0:Fb.aggOf P T=false:=by simp[Fb.aggOf,hu]
   rw[h0];have hna:∀ cs,v≠.agg cs:=λcs e=>Pj hu (.inr (.inl ⟨k,rfl⟩)) (e▸hv)
   have hvc:v.cells = #[v]:=by cases v<;>first|rfl|exact absurd rfl (hna _)
   obtain⟨c,hc⟩:=Qe4.1 (show((s.fc x).map (toCell none)).length=1 by rw[<-cells.1,hvc];rfl);obtain⟨u,hu1,hu2⟩:=cells.2 0 c (by rw[hc];rfl);rw[hvc] at hu1;simp only[List.getElem?_toArray,List.getElem?_cons_zero,Qa0] at hu1;subst hu1;exact⟨c,hc,hu2⟩
  ·rename_i hu;have h0:Fb.aggOf P T=false:=by simp[Fb.aggOf,hu]
   rw[h0];have hna:∀ cs,v≠.agg cs:=λcs e=>Pj hu (.inr (.inr (.inl rfl))) (e▸hv)
   have hvc:v.cells = #[v]:=by cases v<;>first|rfl|exact absurd rfl (hna _)
   obtain⟨c,hc⟩:=Qe4.1 (show((s.fc x).map (toCell none)).length=1 by rw[<-cells.1,hvc];rfl);obtain⟨u,hu1,hu2⟩:=cells.2 0 c (by rw[hc];rfl);rw[hvc] at hu1;simp only[List.getElem?_toArray,List.getElem?_cons_zero,Qa0] at hu1;subst hu1;exact⟨c,hc,hu2⟩
  ·rename_i e hu;have h0:Fb.aggOf P T=false:=by simp[Fb.aggOf,hu]
   rw[h0];have hna:∀ cs,v≠.agg cs:=λcs e'=>Pj hu (.inr (.inr (.inr ⟨e,rfl⟩))) (e'▸hv)
   have hvc:v.cells = #[v]:=by cases v<;>first|rfl|exact absurd rfl (hna _)
   obtain⟨c,hc⟩:=Qe4.1 (show((s.fc x).map (toCell none)).length=1 by rw[<-cells.1,hvc];rfl);obtain⟨u,hu1,hu2⟩:=cells.2 0 c (by rw[hc];rfl);rw[hvc] at hu1;simp only[List.getElem?_toArray,List.getElem?_cons_zero,Qa0] at hu1;subst hu1;exact⟨c,hc,hu2⟩
  ·rename_i fs hu;have h0:Fb.aggOf P T=true:=by simp[Fb.aggOf,hu]
   rw[h0];unfold Value.okWide at hv;rw[hu] at hv;obtain⟨cs,rfl,_⟩:=hv;exact⟨cs,rfl,cells⟩
  ·cases hkind
 ·cases hsh
theorem Ye (hty:∀ e t,ty e=some t->shapeOf P ty 20 e=some t.shapes/\P.cellsOf e=t.width):∀ (ts:List TypeId) (ss:List Sh) (vs:List Value) (ds:List (DataW H)) (ps:List MemPlace),MY P ty ts ss=true->DataW.TrodAll enc' P w 0 spare held ts vs ds ps ->
 (∀ (j:Nat) t v,ts[j]? = some t->vs[j]? = some v->Value.okWide P w .any base t v)->∃ x:As (Ls ss),Ag9 ss x/\∀ G:Gh,(∀ g,g<w.heap.size->G.ow g=.free)->(Et (Ls ss) x).length=vs.length/\∀ (j:Nat) (y:TV),(Et (Ls ss) x)[j]? = some y->∃ v,vs[j]? = some v/\TVR w G y v:=by
 intro ts
 induction ts with
 | nil=>
  intro ss vs ds ps hp h _;cases ss with
  | nil=>obtain⟨rfl,_,_⟩:=trodAll_nil h;exact⟨(),trivial,λG _=>⟨rfl,λj y hj=>by cases hj⟩⟩
  | cons s ss=>simp[MY] at hp
 | cons T ts ih=>
  intro ss vs ds ps hp h hv;cases ss with
  | nil=>simp[MY] at hp
  | cons s ss=>
   obtain⟨v,vs',d,ds',p,q,rfl,rfl,rfl,h1,h2⟩:=trodAll_cons h;have hp1:MY P ty [T] [s]=true/\MY P ty ts ss=true:=by simp only[MY,Qa1,Qe0] at hp ⊢;exact hp
   obtain⟨x,g1,x1⟩:=AaV (base:=base) hty h1 (hv 0 T v rfl rfl) hp1.1;obtain⟨xs,g2,x2⟩:=ih ss vs' ds' q hp1.2 h2 (λj t v ht hv'=>hv (j+1) t v (by simpa using ht) (by simpa using hv'));refine⟨(x,xs),⟨g1,g2⟩,λG hG=>?_⟩;obtain⟨l1,l2⟩:=x2 G hG;refine⟨Qg8 (· + 1) l1,λj y hj=>?_⟩;cases j with
   | zero=>have hj':some (M8 s x)=some y:=hj;injection hj' with hj';subst hj';exact⟨v,rfl,x1 G hG⟩
   | succ j=>simpa using l2 j y hj
theorem Oo (hl:laidOutB P=true) (hb:Below W.heap.size W W'):∀ (ts:List TypeId) (vs:List Value) (ds:List (DataW H)) (ps:List MemPlace),(∀ t∈ts,P.readableRec t=true/\t<P.types.size) ->
 (∀ x∈ps,x.block<W.heap.size)->DataW.TrodAll enc' P W 0 (λ_=>true) true ts vs ds ps->DataW.TrodAll enc' P W' 0 (λb=>decide (b<W.heap.size)) true ts vs ds ps:=by
 intro ts
 induction ts with
 | nil=>intro vs ds ps _ _ h;obtain⟨rfl,rfl,rfl⟩:=trodAll_nil h;exact trodAll_mk0
 | cons t ts ih=>
  intro vs ds ps ht hlt h;obtain⟨v,vs',d,ds',p,q,rfl,rfl,rfl,h1,h2⟩:=trodAll_cons h;obtain⟨hr,hrow⟩:=ht t (by simp);exact trodAll_cons_mk (Below.trod hl hr hrow h1 hb (λx hx=>hlt x (by simp[hx]))) (ih vs' ds' q (λt' h'=>ht t' (by simp[h'])) (λx hx=>hlt x (by simp[hx])) h2)
theorem Sc {ts:List TypeId} {vs:List Value} {ds:List (DataW H)} {ps:List MemPlace} {spare:Nat->Bool} {base:Nat} {held:Bool} (h:DataW.TrodAll enc' P w base spare held ts vs ds ps):ds.length=ts.length:=by
 induction ts generalizing vs ds ps with
 | nil=>obtain⟨rfl,rfl,rfl⟩:=trodAll_nil h;rfl
 | cons t ts ih=>obtain⟨v,vs',d,ds',p,q,rfl,rfl,rfl,h1,h2⟩:=trodAll_cons h;simp[ih h2]
theorem AbL {f:Func} {s:ChangeSpec} {T:TypeId} {args:Array Value} {ds gs:List (DataW H)} {before:List MemPlace} (hl:laidOutB P=true) (hts:∀ t∈f.params.toList,P.readableRec t=true/\t<P.types.size)
 (hres:f.resultTypes = #[T]) (hT:P.underlying T=some .bool) (hv:s.vars=[]) (hW:DataW.Whole enc' P f.params.toList s.vars false W args.toList ds gs before)
 (hfn:∀ xs:List (DataW H),xs.length=f.params.toList.length->s.fn H xs={ results:=[.lit (.bool true)],args:=xs }) (hb:Below W.heap.size W W') :
 s.post enc' P f false true false false W args (.bool true) W':=by
 have hW':=hW;have hlt:=hW.lt;obtain⟨p,q,hA,hV,rfl,_,_⟩:=hW;rw[hv] at hV;obtain⟨rfl,rfl⟩:=trodVars_none hV;have hlen:=Sc hA;have hf:=hfn (ds++[]) (by simpa using hlen);refine⟨ds,[],_,[],p,[],hW',?_,?_,?_,hb.frame _,by simp⟩
 ·rw[hf,hres];exact trodAll_cons_mk (shut_bool hT true) trodAll_mk0
 ·rw[hf];simpa using Oo hl hb _ _ _ _ hts (λx hx=>hlt x (by simp[hx])) hA
 ·rw[hf,hv];rfl
def Af0 (P:Program) (f:Func) (ty:TypeId->Option Ty) (tl:List TypeId) (as:List Sh):Bool :=
 laidOutB P&&f.params.toList.all (λt=>P.readableRec t&&decide (t<P.types.size))&&MY P ty f.params.toList as&&Aou P ty tl
theorem XH {g:Nat} {f:Func} {s:ChangeSpec} {T:TypeId} {args:Array Value} {ds gs:List (DataW H)} {before:List MemPlace} {as:List Sh} {tl:List TypeId} (hk:Af0 P f ty tl as=true) (htl:∀ e t,ty e=some t->e∈tl)
 (hres:f.resultTypes = #[T]) (hT:P.underlying T=some .bool) (hv:s.vars=[]) (hW:DataW.Whole enc' P f.params.toList s.vars false W args.toList ds gs before)
 (hfn:∀ xs:List (DataW H),xs.length=f.params.toList.length->s.fn H xs={ results:=[.lit (.bool true)],args:=xs })
 (hok:∀ (j:Nat) t v,f.params[j]? = some t->args[j]? = some v->Value.okWide P W .any base t v)
 (hsh:W.ShapedOpen P) (hld:Laid P W) (hc:(Aih as).ok P g):Calls P g args W λe W'=>∃ v,e=.returned v/\s.post enc' P f false true false false W args v W':=by
 unfold Af0 at hk;simp only[Qa1,Qc5,Qa7] at hk;obtain⟨⟨⟨k1,k2⟩,k3⟩,k4⟩:=hk;have hty:∀ e t,ty e=some t->shapeOf P ty 20 e=some t.shapes/\P.cellsOf e=t.width:=by
  intro e t he;unfold Aou at k4;rw[Qc5] at k4;have:=k4 e (htl e t he);rw[he] at this;simp only[Qa1,Qf4] at this;obtain⟨h1,h2⟩:=this;split at h1
  ·rename_i s hs;exact⟨by rw[hs,Rf h1],h2⟩
  ·cases h1
 have hW0:=hW;obtain⟨p,q,hA,_⟩:=hW0;obtain⟨x,g1,x1⟩:=Ye (base:=base) hty _ as _ _ _ k3 hA (λj t v ht hv'=>hok j t v (by simpa using ht) (by simpa using hv'))
 let G:Gh:={ ow:=λg=>if g<W.heap.size then .free else .gone,be:=λ_=>0,hv:=λ_=>.slice none 0 0 }
 obtain⟨l1,l2⟩:=x1 G (λg hg=>by simp[G,hg]);refine(hc x g1 W args G ⟨W,hsh,hld,λb hb=>⟨hb,by simp[G,hb],rfl⟩⟩ ⟨?_,?_,by simp[Fct.arg,look],by simp[Fct.arg,look],?_,λb hb=>?_⟩).mono ?_
 ·rw[<-Qc6,<-l1];rfl
 ·intro j y hj;obtain⟨v,hv',ht⟩:=l2 j y hj;exact⟨v,by simpa using hv',ht⟩
 ·intro b hb;by_cases h:b<W.heap.size
  ·exact h
  ·simp[G,h] at hb
 ·by_cases h:b<W.heap.size<;>simp[G,h] at hb
 ·rintro e W' ⟨v,p',hs,rfl,ho,hfr,_,Fs,hpf⟩;have hp:p'=_:=hs;subst hp;have hr:=hpf.res;obtain⟨c,hcs,hto,_⟩:=hr;have hcs':[FC.val (.bool true)]=[c]:=hcs;injection hcs' with hcs'
  subst hcs';obtain rfl:v=.bool true:=hto.1;exact⟨_,rfl,AbL k1 k2 hres hT hv hW hfn ⟨ho.os,ho.tape,ho.output.1,ho.size,λb hb=>hfr b (by simp[G,hb])⟩⟩
end
end Go.D
namespace Go.D
theorem V0 {H:Type} {enc:TypeId×Value->H} {a:Assume} {C:Checked} {os:Os} {f:FuncId} {fn:Func} {s:ChangeSpec} {conds:List PathCond} {apart fresh handsOn again:Bool} {X:World->Array Value->Prop}
 (hX:∀ (w w':World) (args:Array Value),w.heap=w'.heap->X w args->X w' args)
 (own:ownKnob C.prog.godebug=none) (started:os.Started) (noInit:C.prog.inits.idxOf? f=none) (hfn:C.prog.funcs[f]? = some fn)
 (witness:∃ (w:World) (tape:Tape) (i:Input),w.os=os/\(w.forCall tape i).Shaped C.prog/\i.vars=[]/\Input.okWide C.prog (w.forCall tape i) .any w.heap.size f i /\
  ((s.pre enc C.prog fn conds apart (w.forCall tape i).memory i.args/\X (w.forCall tape i).memory i.args)/\sizedMet enc C.prog fn (OpenSpec.ofChange s) apart (w.forCall tape i).memory i.args)/\a.holds C.prog (lone (Frame.enter C.prog f i.args .normal) [] (w.forCall tape i)))
 (contract:∀ (W:World) (base:Nat) (args:Array Value) (ds gs:List (DataW H)) (before:List MemPlace),
  (∀ (j:Nat) t v,fn.params[j]? = some t->args[j]? = some v->Value.okWide C.prog W .any base t v) ->
  DataW.Whole enc C.prog fn.params.toList s.vars apart W args.toList ds gs before->W.ShapedOpen C.prog->X W args ->
  Calls C.prog f args W λe W'=>∃ v,e=.returned v/\s.post enc C.prog fn apart fresh handsOn again W args v W') :
 ReturnsInHanded a C os f .any (λw args=>(s.pre enc C.prog fn conds apart w args/\X w args)/\sizedMet enc C.prog fn (OpenSpec.ofChange s) apart w args) (s.post enc C.prog fn apart fresh handsOn again):=by
 refine returnsInHanded_of_calls own started noInit witness ?_;intro w tape i _ hsh _ hok hpre _;obtain⟨_,_,_,fn',hfn',_,_,_,_,hval⟩:=hok;have e:fn'=fn:=Option.some.inj (hfn'.symm.trans hfn);subst e;obtain⟨⟨⟨ds,gs,before,hw,hc⟩,hx⟩,_⟩:=hpre;have hw':=DataW.Whole.of_heap (w':=w.forCall tape i) (by rfl) hw;refine(contract (w.forCall tape i) w.heap.size i.args ds gs before hval hw' hsh (hX _ _ _ (by rfl) hx)).mono λe W' ⟨v,he,hp⟩=>?_
 subst he;exact ChangeSpec.post_blind hp
end Go.D
namespace Go.D
theorem Il {P:Program} {w:World}:∀ {laid:List (String×DataW Unit)} {ps:List MemPlace} {i:Nat} {x:String×DataW Unit},DataW.LaidVars P w laid ps->laid[i]? = some x->∃ rest ps',DataW.LaidVars P w (x::rest) ps'
 | [],_,_,_,_,hi=>by simp at hi
 | y::laid,ps,0,x,h,hi=>by
  grind
 | y::laid,ps,i+1,x,h,hi=>by obtain⟨g',t',cs,fuel,p,q,hg',ht',hvar,hd,hr,_⟩:=h;exact Il hr (by simpa using hi)
theorem iface_of_trod {H:Type} {enc:TypeId×Value->H} {P:Program} {w:World} {base fuel:Nat} {sp:Nat->Bool} {t:TypeId} {ms:Array (String×TypeId)} {cs:List Value} {nm:String} {d:DataW H} {p:List MemPlace}
 (hi:P.underlying t=some (.interface ms)) (h:DataW.trod enc P w base sp false fuel t cs=some (.iface nm d,p)):∃ u v,cs=[.iface u v]:=by
 cases fuel with
 | zero=>simp[DataW.trod] at h
 | succ fuel=>
  unfold DataW.trod at h;grind
theorem QA {P:Program} {w:World} {laid:List (String×DataW Unit)} {i:Nat} {n nm:String} {d:DataW Unit} (hp:(laid.all λx=>x.2.handleName?.isNone)=true) (hi:laid[i]? = some (n,.iface nm d))
 (ht:((P.globalNamed n).bind λg=>(P.globals[g]?).bind λv=>(P.underlying v.type).map λu=>match u with | .interface _=>true|_=>false)=some true) (h:laidMetH P laid w) :
 ∃ tp p,w.var? P n=some #[.iface tp p]:=by
 rw[MakeChecks.laidMetH_plain _ _ _ hp] at h;obtain⟨ps,hl,_⟩:=h;obtain⟨rest,ps',hl⟩:=Il hl hi;obtain⟨g',t',cs,fuel,p,q,hg',ht',hvar,hd,_,_⟩:=hl;rw[hg',Option.bind_some] at ht;cases hq:P.globals[g']? with
 | none=>rw[hq] at ht';simp at ht'
 | some v=>
  rw[hq] at ht' ht;simp only[Qb6,Qa0,Option.bind_some] at ht' ht;rw[ht'] at ht;obtain⟨u0,hu,hu2⟩:=Option.map_eq_some_iff.1 ht;split at hu2
  ·obtain⟨u,v2,e⟩:=iface_of_trod hu hd;refine⟨u,v2,?_⟩;rw[hvar];congr 1;grind
  ·cases hu2
theorem VA {P:Program} {w:World} {laid:List (String×DataW Unit)} {i g n i2 i3:Nat} {t e:TypeId} {nm2 nm3:String} {d2 d3:DataW Unit} (hp:(laid.all λx=>x.2.handleName?.isNone)=true)
 (hi:laid[i]? = some ("internal/strconv.uint64pow10",Lib.tabData .u64 Lib.pow10Tab)) (hg : P.globalNamed "internal/strconv.uint64pow10" = some g) (hty:(P.globals[g]?).map (·.type)=some t) (ht:P.underlying t=some (.array n e))
 (he:P.underlying e=some (.int .u64)) (hce:P.cellsOf e=1) (hct:P.cellsOf t=n) (h2:laid[i2]? = some ("strconv.ErrSyntax",.iface nm2 d2)) (h3:laid[i3]? = some ("strconv.ErrRange",.iface nm3 d3))
 (t2 : ((P.globalNamed "strconv.ErrSyntax").bind λg=>(P.globals[g]?).bind λv=>(P.underlying v.type).map λu=>match u with | .interface _=>true|_=>false)=some true) (t3 : ((P.globalNamed "strconv.ErrRange").bind λg=>(P.globals[g]?).bind λv=>(P.underlying v.type).map λu=>match u with | .interface _=>true|_=>false)=some true) (h:laidMetH P laid w):Laid P w:=by
 refine⟨λ_=>?_,λ_=>QA hp h2 t2 h,λ_=>QA hp h3 t3 h⟩;rw[MakeChecks.laidMetH_plain _ _ _ hp] at h;obtain⟨ps,hl,_⟩:=h;obtain⟨rest,ps',hl⟩:=Il hl hi;obtain⟨g',t',cs,fuel,p,q,hg',ht',hvar,hd,_,_⟩:=hl;obtain rfl:=Option.some.inj (hg.symm.trans hg');obtain rfl:=Option.some.inj (hty.symm.trans ht');unfold Lib.TabIs;rw[hvar,<-Lib.cells_of_tab ht he hce hct hd]
theorem Wu {P:Program} (h:P.funcs.any Func.goes=false) (f:FuncId):P.goes f=false:=by
 unfold Program.goes;grind
theorem QH {P:Program} (h:P.funcs.any Func.goes=false) (func:String):P.goesAt .entering func=false:=by
 unfold Program.goesAt Program.goesFrom;cases P.funcNamed func with
 | none=>rfl
 | some f=>simp[Wu h]
end Go.D
namespace Go.D
structure MS where
 s:Sh
 pre:s.X->Int->Prop
 fn:s.X->Int->s.X×Int
def MS.arg (S:MS) (x:S.s.X) (k:Int):Arg:=⟨[.v S.s.agg (DL 0 (S.s.fc x)),.v false [.sc (.int .i64 k)]],[],ED 0 (S.s.fc x)⟩
def MS.pst (S:MS) (x:S.s.X) (k:Int):Pst:=⟨.one false [vi k],ED 0 (S.s.fc x),[]⟩
def MS.ctr (S:MS) (x:S.s.X) (k:Int):Ctr:=.det [] (S.pst (S.fn x k).1 (S.fn x k).2)
def MS.ok (S:MS) (P:Program) (f:Nat):Prop:=∀ x k,S.pre x k->Con P f (S.arg x k) (S.ctr x k).sat
def Hw:Nat->List Cell->Bool
 | _,[]=>true
 | j,.ref l::cs=>l==j&&Hw (j+1) cs
 | _,.nil::_=>false
 | j,_::cs=>Hw (j+1) cs
def Am3 (hp:List (Nat×Tree)):St:={ nt:=0,tm:=[],bx:=[],hp:=hp,fb:=[],fl:=[]}
def MS.spec (S:MS):D.Spec:=λA=>match A.tm,A.bx with
 | [.v agg cs,.v false [.sc (.int .i64 k)]],[]=>bif agg==S.s.agg&&Hw 0 cs then(match Pu (Am3 A.hp) cs with
  | some (ds,_)=>match S.s.dec ds with
   | some x=>some (.df [S.pre x k] (S.s.X×Int) (S.fn x k) λy=>S.pst y.1 y.2)
   | none=>none
  | none=>none) else none
 | _,_=>none
theorem TB {σ:St}:∀ {cs:List Cell} {ds:List FC} {ab:List Nat},Pu σ cs=some (ds,ab)->ds.length=cs.length/\∀ (j:Nat) (c:Cell) (d:FC),cs[j]? = some c->ds[j]? = some d ->
 (c=.nil/\d=.nl)\/(∃ l T,c=.ref l/\look σ.hp l=some T/\d=.l T.t T.xs)\/∃ v,c.val? = some v/\d=.val v:=by
 intro cs
 induction cs with
 | nil=>intro ds ab h;simp only[Pu,Qa0,Qb7] at h;obtain⟨rfl,rfl⟩:=h;simp
 | cons c cs ih=>
  intro ds ab h;simp only[Pu] at h;split at h
  ·rename_i ds0 ab0 h0;obtain⟨h1,h2⟩:=ih h0;have go:∀ d,ds=d::ds0->((c=.nil/\d=.nl)\/(∃ l T,c=.ref l/\look σ.hp l=some T/\d=.l T.t T.xs)\/∃ v,c.val? = some v/\d=.val v)->ds.length=(c::cs).length/\∀ (j:Nat) (c':Cell) (d:FC),(c::cs)[j]? = some c'->ds[j]? = some d ->
    (c'=.nil/\d=.nl)\/(∃ l T,c'=.ref l/\look σ.hp l=some T/\d=.l T.t T.xs)\/∃ v,c'.val? = some v/\d=.val v:=by
    intro d hd hx;subst hd;refine⟨by simp[h1],λj c' d' hc hd'=>?_⟩;cases j with
    | zero=>simp only[List.getElem?_cons_zero,Qa0] at hc hd';subst hc;subst hd';exact hx
    | succ j=>exact h2 j c' d' (by simpa using hc) (by simpa using hd')
   split at h
   ·simp only[Qa0,Qb7] at h;exact go _ h.1.symm (.inl ⟨rfl,rfl⟩)
   ·rename_i l;split at h
    ·rename_i T hT;split at h
     ·cases h
     ·simp only[Qa0,Qb7] at h;exact go _ h.1.symm (.inr (.inl ⟨l,T,rfl,hT,rfl⟩))
    ·cases h
   ·split at h
    ·rename_i v hv;simp only[Qa0,Qb7] at h;exact go _ h.1.symm (.inr (.inr ⟨v,hv,rfl⟩))
    ·cases h
  ·cases h
theorem NU:∀ {cs:List Cell} {s:Nat},Hw s cs=true->(∀ (j l:Nat),cs[j]? = some (.ref l)->l=s+j)/\∀ j:Nat,cs[j]?≠some .nil:=by
 intro cs
 induction cs with
 | nil=>intro s _;simp
 | cons c cs ih=>
  intro s h;have tail:Hw (s+1) cs=true:=by cases c<;>simp only[Hw,Qa1,Qd4] at h<;>first|exact h|exact h.2
  obtain⟨h1,h2⟩:=ih tail;refine⟨λj l hj=>?_,λj hj=>?_⟩
  ·cases j with
   | zero=>
    simp only[List.getElem?_cons_zero,Qa0] at hj;subst hj;simp only[Hw,Qa1,Qf4] at h;omega
   | succ j=>have:=h1 j l (by simpa using hj);omega
  ·cases j with
   | zero=>simp only[List.getElem?_cons_zero,Qa0] at hj;subst hj;simp[Hw] at h
   | succ j=>exact h2 j (by simpa using hj)
theorem FcsLe.eq_of:∀ {cs ds:List FC},FcsLe cs ds->(∀ (j:Nat),cs[j]?≠some .nl)->cs=ds:=by
 intro cs ds h
 induction h with
 | nil=>intro _;rfl
 | cons h1 h2 ih=>
  intro hn;rcases h1 with rfl|⟨rfl,_⟩
  ·rw[ih λj hj=>hn (j+1) (by simpa using hj)]
  ·exact absurd rfl (hn 0)
theorem NL:∀ {cs:List FC} {s l:Nat} {T:Tree},look (ED s cs) l=some T->s<=l/\cs[l-s]? = some (.l T.t T.xs):=by
 intro cs
 induction cs with
 | nil=>intro s l T h;simp[ED,look] at h
 | cons c cs ih=>
  intro s l T h;have step:look (ED (s+1) cs) l=some T->s<=l/\(c::cs)[l-s]? = some (.l T.t T.xs):=by grind
  cases c with
  | val v=>exact step h
  | nl=>exact step h
  | l t xs=>
   simp only[ED,look] at h;split at h
   ·grind
   ·exact step h
theorem PH:∀ {cs:List FC} {s j:Nat} {c:Cell},(DL s cs)[j]? = some c->∃ d,cs[j]? = some d/\((∃ v,d=.val v/\c=.sc v)\/(d=.nl/\c=.nil)\/∃ t xs,d=.l t xs/\c=.ref (s+j)):=by
 intro cs
 induction cs with
 | nil=>intro s j c h;simp[DL] at h
 | cons d cs ih=>
  intro s j c h;cases j with
  | zero=>
   cases d<;>simp only[DL,List.getElem?_cons_zero,Qa0] at h<;>subst h
   ·simp
   ·simp
   ·simp
  | succ j=>
   have h':(DL (s+1) cs)[j]? = some c:=by cases d<;>simpa [DL] using h
   grind
theorem MS.spec_ok {S:MS} {P:Program} {f:Nat} (h:S.ok P f):Ky P f S.spec:=by
 intro A c hc hp;unfold MS.spec at hc;split at hc
 ·rename_i agg cs k htm hbx;cases hcd:(agg==S.s.agg&&Hw 0 cs) with
  | false=>simp[hcd] at hc
  | true=>
   simp only[hcd,Qd1] at hc;simp only[Qa1,Qf4] at hcd;obtain⟨rfl,hrefs⟩:=hcd;split at hc
   ·rename_i ds ab hl;split at hc
    ·rename_i x hx;simp only[Qa0] at hc;subst hc;have hpre:S.pre x k:=hp _ (Qd9 _);obtain⟨l1,l2⟩:=TB hl;obtain⟨r1,r2⟩:=NU hrefs;have hds:ds=S.s.fc x:=by
      refine(Sh.dec_ok hx).eq_of λj hj=>?_
      have hlt:j<cs.length:=by rw[<-l1];exact(List.getElem?_eq_some_iff.1 hj).1
      rcases l2 j _ _ (Qa5 hlt) hj with⟨e,_⟩|⟨_,_,_,_,e⟩|⟨_,_,e⟩
      ·exact r2 j (by rw[Qa5 hlt,e])
      ·cases e
      ·cases e
     subst hds;intro w vs G hB hA;refine(h x k hpre w vs G hB ⟨?_,?_,by simp[MS.arg,look],?_,hA.lt,hA.cr⟩).mono ?_
     ·rw[hA.sz,htm];rfl
     ·intro j y hj;cases j with
      | zero=>
       simp only[MS.arg,List.getElem?_cons_zero,Qa0] at hj;subst hj;obtain⟨v,hv,ht⟩:=hA.tm 0 (.v S.s.agg cs) (by rw[htm];rfl);refine⟨v,hv,FV (cs:=cs) (by rw[FM,l1]) (λj d hd=>?_) ht⟩;obtain⟨fc,hfc,hcase⟩:=PH hd;have hlt:j<cs.length:=by rw[<-l1];exact(List.getElem?_eq_some_iff.1 hfc).1
       refine⟨cs[j],Qa5 hlt,λu hu=>?_⟩;have hrel:=l2 j _ _ (Qa5 hlt) hfc;rcases hcase with⟨v',rfl,rfl⟩|⟨rfl,rfl⟩|⟨t,xs,rfl,rfl⟩
       ·rcases hrel with⟨_,e⟩|⟨_,_,_,_,e⟩|⟨v'',hv'',e⟩
        ·cases e
        ·cases e
        ·injection e with e;subst e;exact Cell.val_ok hu hv''
       ·rcases hrel with⟨e,_⟩|⟨_,_,_,_,e⟩|⟨_,_,e⟩
        ·exact absurd (by rw[Qa5 hlt,e]) (r2 j)
        ·cases e
        ·cases e
       ·rcases hrel with⟨_,e⟩|⟨l,T,e1,_,_⟩|⟨_,_,e⟩
        ·cases e
        ·have hl':=r1 j l (by rw[Qa5 hlt,e1]);rw[e1] at hu;subst hl';exact hu
        ·cases e
      | succ j=>
       obtain⟨v,hv,ht⟩:=hA.tm (j+1) y (by rw[htm];exact hj);exact⟨v,hv,ht⟩
     ·intro l T hl';obtain⟨_,hfc⟩:=NL hl';rw[Nat.sub_zero] at hfc;have hlt:l<cs.length:=by rw[<-l1];exact(List.getElem?_eq_some_iff.1 hfc).1
      rcases l2 l _ _ (Qa5 hlt) hfc with⟨_,e⟩|⟨l',T',e1,e2,e3⟩|⟨_,_,e⟩
      ·cases e
      ·have hl2:=r1 l l' (by rw[Qa5 hlt,e1]);rw[Qd6] at hl2;subst hl2;obtain⟨t1,x1⟩:=T;obtain⟨t2,x2⟩:=T';injection e3 with e4 e5
       subst e4;have e5:=eq_of_heq e5;subst e5;exact hA.hp l' _ e2
      ·cases e
     ·rintro e w' ⟨v,p,hs,hrest⟩;exact⟨v,p,hs,hrest⟩
    ·cases hc
   ·cases hc
 ·cases hc
def Env.addM (E:Env) (f:Nat) (S:MS):Env:=E.ext f [.keep] S.spec
theorem EOk.addM {P:Program} {E:Env} (h:EOk P E) {f:Nat} {S:MS} (hS:S.ok P f):EOk P (E.addM f S):=h.ext (MS.spec_ok hS) λhn=>by cases hn
theorem MS.of {S:MS} {P:Program} {E:Env} {L:S.s.X->Int->VR} {kp kl:List Nat} {f:Nat} {fn:Func} (hE:EOk P E) (hf:P.funcs[f]? = some fn) (hb:fn.body.isSome=true) (hn:decide (2<=fn.ntmps)=true)
 (hh:∀ x k,S.pre x k->HoldsE (F5 P E (L x k) kp kl fn (S.arg x k)) (S.ctr x k).post):S.ok P f:=by
 intro x k hx;exact Iu hE hf hb hn (hh x k hx).h
theorem MS.leaf {S:MS} {x:S.s.X} {k:Int} {r:Res} {bx:List (Nat×List FC)} {hp:List (Nat×Tree)} (h:FE ⟨r,hp,bx⟩ (S.pst (S.fn x k).1 (S.fn x k).2)):(Out.leaf r bx hp).holds (S.ctr x k).post:=h
theorem MS.leafL {t:Ty} {pre:List (El t)->Int->Prop} {fn:List (El t)->Int->List (El t)×Int} {l xs':List (El t)} {k k':Int} (h:(xs',k')=fn l k):(Out.leaf (.one false [vi k']) [] [(0,⟨t,xs'⟩)]).holds ((MS.mk (.sl t) pre fn).ctr l k).post:=by
 show FE _ (MS.pst (MS.mk (.sl t) pre fn) (fn l k).1 (fn l k).2);rw[<-h];exact⟨⟨rfl,rfl,trivial⟩,trivial,rfl⟩
end Go.D
namespace Go.D
inductive Gk where
 | l (a:Ak)
 | b (s:Sh)
 | k (s:Sh)
 | g (s:Sh)
 | i (m:Nat) (s:Sh)
abbrev Gk.X:Gk->Type
 | .l a=>a.X
 | .b s=>s.X
 | .k s=>s.X
 | .g s=>s.X
 | .i _ s=>s.X
abbrev Gs:List Gk->Type
 | []=>Unit
 | k::ks=>k.X×Gs ks
abbrev Ys:List Gk->Type
 | []=>Unit
 | .l _::ks=>Ys ks
 | .b s::ks=>s.X×Ys ks
 | .k s::ks=>s.X×Ys ks
 | .g _::ks=>Ys ks
 | .i _ _::ks=>Ys ks
def Ww:Nat->(ks:List Gk)->Gs ks->List TV
 | _,[],_=>[]
 | j,.l a::ks,x=>Ac6 a x.1::Ww (j+1) ks x.2
 | j,.b _::ks,x=>.ptr j 0::Ww (j+1) ks x.2
 | j,.k s::ks,x=>.v s.agg (DL (64*j) (s.fc x.1))::Ww (j+1) ks x.2
 | j,.g s::ks,x=>.v s.agg (DL (64*j) (s.fc x.1))::Ww (j+1) ks x.2
 | j,.i m s::ks,x=>.v s.agg ((s.fc x.1).map (toCell (some m)))::Ww (j+1) ks x.2
def AaB:Nat->(ks:List Gk)->Gs ks->List (Nat×List Cell)
 | _,[],_=>[]
 | j,.l _::ks,x=>AaB (j+1) ks x.2
 | j,.b s::ks,x=>(j,DL (64*j) (s.fc x.1))::AaB (j+1) ks x.2
 | j,.k _::ks,x=>AaB (j+1) ks x.2
 | j,.g _::ks,x=>AaB (j+1) ks x.2
 | j,.i _ _::ks,x=>AaB (j+1) ks x.2
def AaR:Nat->(ks:List Gk)->Gs ks->List (Nat×Tree)
 | _,[],_=>[]
 | j,.l _::ks,x=>AaR (j+1) ks x.2
 | j,.b s::ks,x=>ED (64*j) (s.fc x.1)++AaR (j+1) ks x.2
 | j,.k s::ks,x=>ED (64*j) (s.fc x.1)++AaR (j+1) ks x.2
 | j,.g s::ks,x=>ED (64*j) (s.fc x.1)++AaR (j+1) ks x.2
 | j,.i _ _::ks,x=>AaR (j+1) ks x.2
def AaJ:Nat->(ks:List Gk)->Ys ks->List (Nat×Tree)
 | _,[],_=>[]
 | j,.l _::ks,y=>AaJ (j+1) ks y
 | j,.b _::ks,y=>AaJ (j+1) ks y.2
 | j,.k s::ks,y=>ED (64*j) (s.fc y.1)++AaJ (j+1) ks y.2
 | j,.g _::ks,y=>AaJ (j+1) ks y
 | j,.i _ _::ks,y=>AaJ (j+1) ks y
def Aby:Nat->(ks:List Gk)->Ys ks->List (Nat×List FC)
 | _,[],_=>[]
 | j,.l _::ks,y=>Aby (j+1) ks y
 | j,.b s::ks,y=>(j,s.fc y.1)::Aby (j+1) ks y.2
 | j,.k _::ks,y=>Aby (j+1) ks y.2
 | j,.g _::ks,y=>Aby (j+1) ks y
 | j,.i _ _::ks,y=>Aby (j+1) ks y
structure GS where
 as:List Gk
 rs:List Sh
 pre:Gs as->Prop
 fn:Gs as->Ts rs×Ys as
def Gk.md:Gk->Md
 | .l _=>.lend
 | .b _=>.box
 | .k _=>.keep
 | .g _=>.give
 | .i _ _=>.lend
def GS.ms (S:GS):List Md:=S.as.map (·.md)
def GS.arg (S:GS) (x:Gs S.as):Arg:=⟨Ww 0 S.as x,AaB 0 S.as x,AaR 0 S.as x⟩
def klOf:Nat->List Gk->List Nat
 | _,[]=>[]
 | j,.k _::ks=>64*j::klOf (j+1) ks
 | j,_::ks=>klOf (j+1) ks
def GS.kl (S:GS):List Nat:=klOf 0 S.as
def GS.pst (S:GS) (y:Ts S.rs×Ys S.as):Pst:=⟨mkR S.rs y.1,AaJ 0 S.as y.2,Aby 0 S.as y.2⟩
def GS.ctr (S:GS) (x:Gs S.as):Ctr:=.det [] (S.pst (S.fn x))
def GS.ok (S:GS) (P:Program) (f:Nat):Prop:=∀ x,S.pre x->Con P f (S.arg x) (S.ctr x).sat
def Q1 (hp:List (Nat×Tree)) (s:Sh) (j:Nat) (cs:List Cell):Option s.X:=bif Hw (64*j) cs then(match Pu (Am3 hp) cs with
 | some (ds,_)=>s.dec ds
 | none=>none) else none
def Tk (m:Nat):Cell->Option Cell
 | .im (some l) t xs=>bif l==m then some (.im none t xs) else none
 | .im none _ _=>none
 | c=>some c
def L5 (m:Nat):List Cell->Option (List Cell)
 | []=>some []
 | c::cs=>match Tk m c,L5 m cs with
  | some d,some ds=>some (d::ds)
  | _,_=>none
def Ait (m:Nat) (s:Sh):TV->Option s.X
 | .v agg cs=>match L5 m cs with
  | some ds=>decV s (.v agg ds)
  | none=>none
 | _=>none
def Pd (A:Arg):Nat->(ks:List Gk)->List TV->Option (Gs ks)
 | _,[],[]=>some ()
 | j,.l a::ks,t::ts=>match Qf a t,Pd A (j+1) ks ts with
  | some x,some xs=>some (x,xs)
  | _,_=>none
 | j,.b s::ks,.ptr b 0::ts=>bif b==j then(match look A.bx j with
  | some cs=>match Q1 A.hp s j cs,Pd A (j+1) ks ts with
   | some x,some xs=>some (x,xs)
   | _,_=>none
  | none=>none) else none
 | j,.k s::ks,.v agg cs::ts=>bif agg==s.agg then(match Q1 A.hp s j cs,Pd A (j+1) ks ts with
  | some x,some xs=>some (x,xs)
  | _,_=>none) else none
 | j,.g s::ks,.v agg cs::ts=>bif agg==s.agg then(match Q1 A.hp s j cs,Pd A (j+1) ks ts with
  | some x,some xs=>some (x,xs)
  | _,_=>none) else none
 | j,.i m s::ks,t::ts=>match Ait m s t,Pd A (j+1) ks ts with
  | some x,some xs=>some (x,xs)
  | _,_=>none
 | _,_,_=>none
def GS.spec (S:GS):D.Spec:=λA=>match Pd A 0 S.as A.tm with
 | some x=>some (.df [S.pre x] (Ts S.rs×Ys S.as) (S.fn x) S.pst)
 | none=>none
section
variable {w:World} {G:Gh} {A:Arg} {vs:Array Value}
theorem Mk {hp:List (Nat×Tree)} {s:Sh} {j:Nat} {cs:List Cell} {x:s.X} (h:Q1 hp s j cs=some x) :
 (DL (64*j) (s.fc x)).length=cs.length/\(∀ (i:Nat) (d:Cell),(DL (64*j) (s.fc x))[i]? = some d->∃ c,cs[i]? = some c/\∀ v,CellR w G c v->CellR w G d v) /\
 ∀ l T,look (ED (64*j) (s.fc x)) l=some T->look hp l=some T:=by
 unfold Q1 at h;cases hr:Hw (64*j) cs with
 | false=>simp[hr] at h
 | true=>
  simp only[hr,Qd1] at h;split at h
  ·rename_i ds ab hl;obtain⟨l1,l2⟩:=TB hl;obtain⟨r1,r2⟩:=NU hr;have hds:ds=s.fc x:=by
    refine(Sh.dec_ok h).eq_of λi hi=>?_
    have hlt:i<cs.length:=by rw[<-l1];exact(List.getElem?_eq_some_iff.1 hi).1
    rcases l2 i _ _ (Qa5 hlt) hi with⟨e,_⟩|⟨_,_,_,_,e⟩|⟨_,_,e⟩
    ·exact r2 i (by rw[Qa5 hlt,e])
    ·cases e
    ·cases e
   subst hds;refine⟨by rw[FM,l1],λi d hd=>?_,λl T hl'=>?_⟩
   ·obtain⟨fc,hfc,hcase⟩:=PH hd;have hlt:i<cs.length:=by rw[<-l1];exact(List.getElem?_eq_some_iff.1 hfc).1
    refine⟨cs[i],Qa5 hlt,λu hu=>?_⟩;have hrel:=l2 i _ _ (Qa5 hlt) hfc;rcases hcase with⟨v',rfl,rfl⟩|⟨rfl,rfl⟩|⟨t,xs,rfl,rfl⟩
    ·rcases hrel with⟨_,e⟩|⟨_,_,_,_,e⟩|⟨v'',hv'',e⟩
     ·cases e
     ·cases e
     ·injection e with e;subst e;exact Cell.val_ok hu hv''
    ·rcases hrel with⟨e,_⟩|⟨_,_,_,_,e⟩|⟨_,_,e⟩
     ·exact absurd (by rw[Qa5 hlt,e]) (r2 i)
     ·cases e
     ·cases e
    ·rcases hrel with⟨_,e⟩|⟨l,T,e1,_,_⟩|⟨_,_,e⟩
     ·cases e
     ·have hl':=r1 i l (by rw[Qa5 hlt,e1]);rw[e1] at hu;subst hl';exact hu
     ·cases e
   ·obtain⟨hle,hfc⟩:=NL hl';have hlt:l-64*j<cs.length:=by rw[<-l1];exact(List.getElem?_eq_some_iff.1 hfc).1
    rcases l2 _ _ _ (Qa5 hlt) hfc with⟨_,e⟩|⟨l',T',e1,e2,e3⟩|⟨_,_,e⟩
    ·cases e
    ·have hl2:=r1 _ l' (by rw[Qa5 hlt,e1]);have hl3:l'=l:=o_
     subst hl3;obtain⟨t1,x1⟩:=T;obtain⟨t2,x2⟩:=T';injection e3 with e4 e5
     subst e4;have e5:=eq_of_heq e5;subst e5;exact e2
    ·cases e
  ·cases h
open Classical in
theorem AhU (G:Gh) (m:Nat):∃ G':Gh,src G' none=src G (some m)/\G'.hv=G.hv:=by
 refine⟨{ G with ow:=λb=>if G.ow b=.lab m then .free else if G.ow b=.free then .gone else G.ow b },?_,rfl⟩;funext b;simp only[src];grind
theorem UZ {m:Nat} {G':Gh} (hs:src G' none=src G (some m)) (hh:G'.hv=G.hv):∀ (cs ds:List Cell),L5 m cs=some ds->ds.length=cs.length/\∀ (j:Nat) (d:Cell),ds[j]? = some d->∃ c,cs[j]? = some c/\∀ v,CellR w G c v->CellR w G' d v:=by
 intro cs
 induction cs with
 | nil=>intro ds h;simp only[L5,Qa0] at h;subst h;simp
 | cons c cs ih=>
  intro ds h;simp only[L5] at h;split at h
  ·rename_i d ds' h1 h2;simp only[Qa0] at h;subst h;obtain⟨k1,k2⟩:=ih ds' h2;refine⟨by simp[k1],λj d' hj=>?_⟩;cases j with
   | succ j=>simpa using k2 j d' (by simpa using hj)
   | zero=>
    simp only[List.getElem?_cons_zero,Qa0] at hj;subst hj;refine⟨c,rfl,λv hv=>?_⟩;cases c with
    | im l t xs=>
     cases l with
     | none=>simp[Tk] at h1
     | some l=>
      simp only[Tk] at h1;cases hb:(l==m) with
      | false=>simp[hb] at h1
      | true=>
       simp only[hb,Qd1,Qa0] at h1;subst h1;have e:l=m:=by simpa using hb
       subst e;show TR w (src G' none) _ v;rw[hs];exact hv
    | _=>simp only[Tk,Qa0] at h1;subst h1;first|exact hv|(simp only[CellR,hh] at hv ⊢;exact hv)
  ·cases h
theorem Aev {m:Nat} {s:Sh} {t:TV} {x:s.X} {v:Value} (h:Ait m s t=some x) (hv:TVR w G t v):TVR w G (.v s.agg ((s.fc x).map (toCell (some m)))) v:=by
 cases t<;>first|(simp[Ait] at h;done)|skip
 rename_i agg cs;simp only[Ait] at h;split at h
 ·rename_i ds hds;obtain⟨G',hs,hh⟩:=AhU G m;obtain⟨k1,k2⟩:=UZ (w:=w) (G:=G) hs hh _ _ hds;have h1:TVR w G' (.v agg ds) v:=FV k1 k2 hv;have h2:Gv w G' s.agg ((s.fc x).map (toCell none)) v:=ZE h h1;refine FV (cs:=(s.fc x).map (toCell none)) (by simp) (λj d hd=>?_) h2;rw[Qc3] at hd;cases hq:(s.fc x)[j]? with
  | none=>simp[hq] at hd
  | some c=>
   simp only[hq,Qb6,Qa0] at hd;subst hd;refine⟨toCell none c,by rw[Qc3,hq];rfl,λu hu=>?_⟩;cases c with
   | l t xs=>
    have hu:TR w (src G' none) _ u:=hu;rw[hs] at hu;exact hu
   | _=>exact hu
 ·cases h
theorem O0 {α:Type} {l m:List (Nat×α)} {t:Nat} {x:α} (h:look (l++m) t=some x):look l t=some x\/look m t=some x:=by
 induction l with
 | nil=>exact .inr h
 | cons p l ih=>
  obtain⟨s,u⟩:=p;simp only[Qf3,look] at h ⊢;grind
theorem Wz (hA:ArgR w G A vs):∀ (ks:List Gk) (j:Nat) (ts:List TV) (x:Gs ks),Pd A j ks ts=some x ->
 (Ww j ks x).length=ts.length/\(∀ (i:Nat) (y:TV),(Ww j ks x)[i]? = some y->∃ t,ts[i]? = some t/\∀ v,TVR w G t v->TVR w G y v) /\
 (∀ b cs,look (AaB j ks x) b=some cs->G.ow (G.be b)=.box b/\∃ r e,w.heap[G.be b]? = some (.cells r e (0,0))/\BM w G cs r) /\
 ∀ l T,look (AaR j ks x) l=some T->look A.hp l=some T:=by
 intro ks
 induction ks with
 | nil=>
  intro j ts x h;cases ts with
  | nil=>simp[Ww,AaB,AaR,look]
  | cons t ts=>simp[Pd] at h
 | cons k ks ih=>
  intro j ts x h;cases ts with
  | nil=>cases k<;>simp[Pd] at h
  | cons t ts=>
   have cons:∀ (y:TV) (ys:List TV),ys.length=ts.length->(∀ v,TVR w G t v->TVR w G y v)->(∀ (i:Nat) (z:TV),ys[i]? = some z->∃ t,ts[i]? = some t/\∀ v,TVR w G t v->TVR w G z v) ->
    (y::ys).length=(t::ts).length/\(∀ (i:Nat) (z:TV),(y::ys)[i]? = some z->∃ t',(t::ts)[i]? = some t'/\∀ v,TVR w G t' v->TVR w G z v):=by
    intro y ys hl h0 hs;refine⟨by simp[hl],λi z hz=>?_⟩;cases i with
    | zero=>simp only[List.getElem?_cons_zero,Qa0] at hz;subst hz;exact⟨t,rfl,h0⟩
    | succ i=>simpa using hs i z (by simpa using hz)
   cases k with
   | l a=>
    simp only[Pd] at h;split at h
    ·rename_i x1 xs h1 h2;simp only[Qa0] at h;subst h;obtain⟨k1,k2,k3,k4⟩:=ih _ _ _ h2;obtain⟨c1,c2⟩:=cons _ _ k1 (λv hv=>Uq h1 hv) k2;exact⟨c1,c2,k3,k4⟩
    ·cases h
   | b s=>
    cases t<;>first|(simp[Pd] at h;done)|skip
    rename_i b off;cases off with
    | succ n=>simp[Pd] at h
    | zero=>
     simp only[Pd] at h;cases hb:(b==j) with
     | false=>simp[hb] at h
     | true=>
      simp only[hb,Qd1] at h;have hb':b=j:=by simpa using hb
      subst hb';split at h
      ·rename_i cs hbx;split at h
       ·rename_i x1 xs h1 h2;simp only[Qa0] at h;subst h;obtain⟨k1,k2,k3,k4⟩:=ih _ _ _ h2;obtain⟨d1,d2,d3⟩:=Mk (w:=w) (G:=G) h1;obtain⟨c1,c2⟩:=cons (.ptr b 0) _ k1 (λv hv=>hv) k2;refine⟨c1,c2,λb' cs' hl=>?_,λl T hl=>?_⟩
        ·simp only[AaB,look] at hl;split at hl
         ·rename_i e;have e':b'=b:=by simpa using e
          subst e';simp only[Qa0] at hl;subst hl;obtain⟨q1,r,e,q2,q3⟩:=hA.bx b' cs hbx;refine⟨q1,r,e,q2,by rw[d1];exact q3.1,λi d hd=>?_⟩;obtain⟨c,hc,hr⟩:=d2 i d hd;obtain⟨u,hu,hcr⟩:=q3.2 i c hc;exact⟨u,hu,hr u hcr⟩
         ·exact k3 b' cs' hl
        ·rcases O0 hl with hl|hl
         ·exact d3 l T hl
         ·exact k4 l T hl
       ·cases h
      ·cases h
   | k s=>
    cases t<;>first|(simp[Pd] at h;done)|skip
    rename_i agg cs;simp only[Pd] at h;cases hb:(agg==s.agg) with
    | false=>simp[hb] at h
    | true=>
     simp only[hb,Qd1] at h;have hb':agg=s.agg:=by simpa using hb
     subst hb';split at h
     ·rename_i x1 xs h1 h2;simp only[Qa0] at h;subst h;obtain⟨k1,k2,k3,k4⟩:=ih _ _ _ h2;obtain⟨d1,d2,d3⟩:=Mk (w:=w) (G:=G) h1;obtain⟨c1,c2⟩:=cons (.v s.agg (DL (64*j) (s.fc x1))) _ k1 (λv hv=>FV d1 d2 hv) k2;refine⟨c1,c2,k3,λl T hl=>?_⟩;rcases O0 hl with hl|hl
      ·exact d3 l T hl
      ·exact k4 l T hl
     ·cases h
   | g s=>
    cases t<;>first|(simp[Pd] at h;done)|skip
    rename_i agg cs;simp only[Pd] at h;cases hb:(agg==s.agg) with
    | false=>simp[hb] at h
    | true=>
     simp only[hb,Qd1] at h;have hb':agg=s.agg:=by simpa using hb
     subst hb';split at h
     ·rename_i x1 xs h1 h2;simp only[Qa0] at h;subst h;obtain⟨k1,k2,k3,k4⟩:=ih _ _ _ h2;obtain⟨d1,d2,d3⟩:=Mk (w:=w) (G:=G) h1;obtain⟨c1,c2⟩:=cons (.v s.agg (DL (64*j) (s.fc x1))) _ k1 (λv hv=>FV d1 d2 hv) k2;refine⟨c1,c2,k3,λl T hl=>?_⟩;rcases O0 hl with hl|hl
      ·exact d3 l T hl
      ·exact k4 l T hl
     ·cases h
   | i m s=>
    simp only[Pd] at h;split at h
    ·rename_i x1 xs h1 h2;simp only[Qa0] at h;subst h;obtain⟨k1,k2,k3,k4⟩:=ih _ _ _ h2;obtain⟨c1,c2⟩:=cons _ _ k1 (λv hv=>Aev h1 hv) k2;exact⟨c1,c2,k3,k4⟩
    ·cases h
end
theorem GS.spec_ok {S:GS} {P:Program} {f:Nat} (h:S.ok P f):Ky P f S.spec:=by
 intro A c hc hp;unfold GS.spec at hc;split at hc
 ·rename_i x hx;simp only[Qa0] at hc;subst hc;have hpre:S.pre x:=hp _ (Qd9 _);intro w vs G hB hA;obtain⟨k1,k2,k3,k4⟩:=Wz hA _ _ _ _ hx;refine(h x hpre w vs G hB ⟨?_,?_,k3,λl T hl=>hA.hp l T (k4 l T hl),hA.lt,hA.cr⟩).mono ?_
  ·rw[hA.sz];exact k1.symm
  ·intro j y hj;obtain⟨t,ht,hr⟩:=k2 j y hj;obtain⟨v,hv,hvt⟩:=hA.tm j t ht;simp_all
  ·rintro e w' ⟨v,p,hs,hrest⟩;exact⟨v,p,hs,hrest⟩
 ·cases hc
def UW:List Md->List Md->Bool
 | [],[]=>true
 | .lend::a,.lend::b=>UW a b
 | .give::a,.give::b=>UW a b
 | .keep::a,.keep::b=>UW a b
 | .box::a,.box::b=>UW a b
 | _,_=>false
def ZL (ms:List Md) (g:D.Spec):Option (List Md×D.Spec)->D.Spec
 | some (ms',g0)=>λA=>match g A with
  | some c=>some c
  | none=>bif UW ms' ms then g0 A else none
 | none=>g
def Env.addG (E:Env) (f:Nat) (S:GS):Env:=E.ext f S.ms (ZL S.ms S.spec (E.fn f))
theorem Agt:∀ ks:List Gk,LN (ks.map (·.md))=false
 | []=>rfl
 | [k]=>by cases k<;>rfl
 | k::_::_=>by cases k<;>rfl
theorem EOk.addG {P:Program} {E:Env} (h:EOk P E) {f:Nat} {S:GS} (hS:S.ok P f):EOk P (E.addG f S):=by
 refine h.ext ?_ (λhn=>by rw[GS.ms,Agt] at hn;cases hn);have hS':=GS.spec_ok hS;unfold ZL;split
 ·rename_i ms' g0 hg0;intro A c hc;dsimp only at hc;split at hc
  ·rename_i c' hc';simp only[Qa0] at hc;subst hc;exact hS' A c' hc'
  ·cases hm:UW ms' S.ms with
   | false=>simp[hm] at hc
   | true=>
    simp only[hm,Qd1] at hc;exact(h f ms' g0 hg0).1 A c hc
 ·exact hS'
theorem Oz:∀ (ks:List Gk) (j:Nat) (x:Gs ks),(Ww j ks x).length=ks.length:=by
 intro ks
 induction ks with
 | nil=>intro _ _;rfl
 | cons k ks ih=>intro j x;cases k<;>simp[Ww,ih]
theorem GS.of {S:GS} {P:Program} {E:Env} {L:Gs S.as->VR} {kp:List Nat} {f:Nat} {fn:Func} (hE:EOk P E) (hf:P.funcs[f]? = some fn) (hb:fn.body.isSome=true) (hn:decide (S.as.length<=fn.ntmps)=true)
 (hh:∀ x,S.pre x->HoldsE (F5 P E (L x) kp S.kl fn (S.arg x)) (S.ctr x).post):S.ok P f:=by
 intro x hx;refine Iu hE hf hb ?_ (hh x hx).h;have:(S.arg x).tm.length=S.as.length:=Oz _ _ _;rw[this];exact hn
def GS.out (S:GS) (y:Ts S.rs×Ys S.as):Out:=.leaf (mkR S.rs y.1) (Aby 0 S.as y.2) (AaJ 0 S.as y.2)
theorem Iy:∀ ps:List (Nat×List FC),TY ps ps
 | []=>trivial
 | p::ps=>⟨⟨rfl,FW _⟩,Iy ps⟩
theorem GS.leafY {S:GS} {x:Gs S.as} {y:Ts S.rs×Ys S.as} (h:y=S.fn x):(S.out y).holds (S.ctr x).post:=by
 subst h;exact⟨Fa _,Iy _,rfl⟩
theorem GS.leafZ {S:GS} {x:Gs S.as} {r:Res} {bx:List (Nat×List FC)} {hp:List (Nat×Tree)} (y:Ts S.rs×Ys S.as) (h1:FE ⟨r,hp,bx⟩ (S.pst y)) (h:y=S.fn x):(Out.leaf r bx hp).holds (S.ctr x).post:=by
 subst h;exact h1
abbrev GS.lim (S:GS) (m:Gs S.as->Nat) (n:Nat):GS:={ S with pre:=λx=>S.pre x/\m x<n }
abbrev Fct.lim (S:Fct) (m:As S.as->Nat) (n:Nat):Fct:={ S with pre:=λx=>S.pre x/\m x<n }
theorem GS.ofRec {S:GS} {P:Program} {E:Env} {L:Gs S.as->VR} {kp:List Nat} {f:Nat} {fn:Func} (m:Gs S.as->Nat) (hE:EOk P E) (hf:P.funcs[f]? = some fn) (hb:fn.body.isSome=true) (hn:decide (S.as.length<=fn.ntmps)=true)
 (hh:∀ n x,S.pre x->m x<n+1->HoldsE (F5 P (E.addG f (S.lim m n)) (L x) kp S.kl fn (S.arg x)) (S.ctr x).post):S.ok P f:=by
 have key:∀ n,(S.lim m n).ok P f:=by
  intro n
  induction n with
  | zero=>intro x hx;exact absurd hx.2 (Nat.not_lt_zero _)
  | succ n ih=>
   intro x hx;refine Iu (EOk.addG hE ih) hf hb ?_ (hh n x hx.1 hx.2).h;have:((S.lim m (n+1)).arg x).tm.length=S.as.length:=Oz _ _ _;rw[this];exact hn
 intro x hx;exact key (m x+1) x ⟨hx,Nat.lt_succ_self _⟩
theorem No:∀ (ss:List Ak) (x:As ss),(Et ss x).length=ss.length:=by
 intro ss
 induction ss with
 | nil=>intro _;rfl
 | cons s ss ih=>intro x;simp[Et,ih]
theorem Fct.ofRec {S:Fct} {P:Program} {E:Env} {L:As S.as->VR} {kp:List Nat} {f:Nat} {fn:Func} (m:As S.as->Nat) (hE:EOk P E) (hf:P.funcs[f]? = some fn) (hb:fn.body.isSome=true) (hn:decide (S.as.length<=fn.ntmps)=true)
 (hh:∀ n x,S.pre x->m x<n+1->HoldsE (F5 P (E.add f (S.lim m n)) (L x) kp [] fn (S.arg x)) (S.ctr x).post):S.ok P f:=by
 have key:∀ n,(S.lim m n).ok P f:=by
  intro n
  induction n with
  | zero=>intro x hx;exact absurd hx.2 (Nat.not_lt_zero _)
  | succ n ih=>
   intro x hx;refine Iu (EOk.add hE ih) hf hb ?_ (hh n x hx.1 hx.2).h;have:((S.lim m (n+1)).arg x).tm.length=S.as.length:=No _ _;rw[this];exact hn
 intro x hx;exact key (m x+1) x ⟨hx,Nat.lt_succ_self _⟩
end Go.D
namespace Go.D
def Ak.md:Ak->Md
 | .u=>.cur
 | _=>.lend
structure Xct where
 as:List Ak
 rs:List Sh
 pre:As as->Prop
 is:As as->Ts rs->Prop
def Xct.ms (S:Xct):List Md:=S.as.map (·.md)
def Xct.arg (S:Xct) (x:As S.as):Arg:=⟨Et S.as x,[],[]⟩
def Xct.ctr (S:Xct) (x:As S.as):Ctr:=.ex [] (Ts S.rs) (S.is x) λy=>⟨mkR S.rs y,[],[]⟩
def Xct.spec (S:Xct):D.Spec:=λA=>match A.bx,A.hp with
 | [],[]=>match Mr S.as A.tm with
  | some x=>some (.ex [S.pre x] (Ts S.rs) (S.is x) λy=>⟨mkR S.rs y,[],[]⟩)
  | none=>none
 | _,_=>none
def Xct.ok (S:Xct) (P:Program) (f:Nat):Prop:=∀ x,S.pre x->Con P f (S.arg x) (S.ctr x).sat
theorem Xct.spec_ok {S:Xct} {P:Program} {f:Nat} (h:S.ok P f):Ky P f S.spec:=by
 intro A c hc hp;unfold Xct.spec at hc;split at hc
 ·rename_i hb hh;split at hc
  ·rename_i x hx;simp only[Qa0] at hc;subst hc;have hpre:S.pre x:=hp _ (Qd9 _);intro w vs G hB hA;refine(h x hpre w vs G hB ⟨?_,?_,by simp[Xct.arg,look],by simp[Xct.arg,look],hA.lt,hA.cr⟩).mono ?_
   ·rw[hA.sz];exact(IJ (w:=w) (G:=G) hx).1.symm
   ·intro j y hj;obtain⟨x',hx',hr⟩:=(IJ (w:=w) (G:=G) hx).2 j y hj;obtain⟨v,hv,ht⟩:=hA.tm j x' hx';exact⟨v,hv,hr v ht⟩
   ·rintro e w' ⟨v,p,hs,hrest⟩;exact⟨v,p,hs,hrest⟩
  ·cases hc
 ·cases hc
theorem Xct.of {S:Xct} {P:Program} {E:Env} {L:As S.as->VR} {kp:List Nat} {f:Nat} {fn:Func} (hE:EOk P E) (hf:P.funcs[f]? = some fn) (hb:fn.body.isSome=true) (hn:decide (S.as.length<=fn.ntmps)=true)
 (hh:∀ x,S.pre x->HoldsE (F5 P E (L x) kp [] fn (S.arg x)) (S.ctr x).post):S.ok P f:=by
 intro x hx;refine Iu hE hf hb ?_ (hh x hx).h;have:(S.arg x).tm.length=S.as.length:=No _ _;rw[this];exact hn
theorem Xct.leafY {S:Xct} {x:As S.as} (y:Ts S.rs) (h:S.is x y):(Out.leaf (mkR S.rs y) [] []).holds (S.ctr x).post:=⟨y,h,Fa _,trivial,rfl⟩
theorem Xct.leafZ {S:Xct} {x:As S.as} {r:Res} (y:Ts S.rs) (h1:J9 r (mkR S.rs y)) (h:S.is x y):(Out.leaf r [] []).holds (S.ctr x).post:=⟨y,h,h1,trivial,rfl⟩
end Go.D
namespace Go.D
def Gk.mdc:Gk->Md
 | .l a=>a.md
 | .b _=>.box
 | .k _=>.keep
 | .g _=>.give
 | .i _ _=>.lend
structure Zct where
 as:List Gk
 rs:List Sh
 pre:Gs as->Prop
 is:Gs as->Ts rs×Ys as->Prop
def Zct.ms (S:Zct):List Md:=S.as.map (·.mdc)
def Zct.arg (S:Zct) (x:Gs S.as):Arg:=⟨Ww 0 S.as x,AaB 0 S.as x,AaR 0 S.as x⟩
def Zct.kl (S:Zct):List Nat:=klOf 0 S.as
def Zct.pst (S:Zct) (y:Ts S.rs×Ys S.as):Pst:=⟨mkR S.rs y.1,AaJ 0 S.as y.2,Aby 0 S.as y.2⟩
def Zct.ctr (S:Zct) (x:Gs S.as):Ctr:=.ex [] (Ts S.rs×Ys S.as) (S.is x) S.pst
def Zct.spec (S:Zct):D.Spec:=λA=>match Pd A 0 S.as A.tm with
 | some x=>some (.ex [S.pre x] (Ts S.rs×Ys S.as) (S.is x) S.pst)
 | none=>none
def Zct.ok (S:Zct) (P:Program) (f:Nat):Prop:=∀ x,S.pre x->Con P f (S.arg x) (S.ctr x).sat
theorem Zct.spec_ok {S:Zct} {P:Program} {f:Nat} (h:S.ok P f):Ky P f S.spec:=by
 intro A c hc hp;unfold Zct.spec at hc;split at hc
 ·rename_i x hx;simp only[Qa0] at hc;subst hc;have hpre:S.pre x:=hp _ (Qd9 _);intro w vs G hB hA;obtain⟨k1,k2,k3,k4⟩:=Wz hA _ _ _ _ hx;refine(h x hpre w vs G hB ⟨?_,?_,k3,λl T hl=>hA.hp l T (k4 l T hl),hA.lt,hA.cr⟩).mono ?_
  ·rw[hA.sz];exact k1.symm
  ·intro j y hj;obtain⟨t,ht,hr⟩:=k2 j y hj;obtain⟨v,hv,hvt⟩:=hA.tm j t ht;exact⟨v,hv,hr v hvt⟩
  ·rintro e w' ⟨v,p,hs,hrest⟩;exact⟨v,p,hs,hrest⟩
 ·cases hc
theorem Zct.of {S:Zct} {P:Program} {E:Env} {L:Gs S.as->VR} {kp:List Nat} {f:Nat} {fn:Func} (hE:EOk P E) (hf:P.funcs[f]? = some fn) (hb:fn.body.isSome=true) (hn:decide (S.as.length<=fn.ntmps)=true)
 (hh:∀ x,S.pre x->HoldsE (F5 P E (L x) kp S.kl fn (S.arg x)) (S.ctr x).post):S.ok P f:=by
 intro x hx;refine Iu hE hf hb ?_ (hh x hx).h;have:(S.arg x).tm.length=S.as.length:=Oz _ _ _;rw[this];exact hn
def Zct.out (S:Zct) (y:Ts S.rs×Ys S.as):Out:=.leaf (mkR S.rs y.1) (Aby 0 S.as y.2) (AaJ 0 S.as y.2)
theorem Zct.leafY {S:Zct} {x:Gs S.as} (y:Ts S.rs×Ys S.as) (h:S.is x y):(S.out y).holds (S.ctr x).post:=⟨y,h,Fa _,Iy _,rfl⟩
theorem Zct.leafZ {S:Zct} {x:Gs S.as} {r:Res} {bx:List (Nat×List FC)} {hp:List (Nat×Tree)} (y:Ts S.rs×Ys S.as) (h1:FE ⟨r,hp,bx⟩ (S.pst y)) (h:S.is x y):(Out.leaf r bx hp).holds (S.ctr x).post:=⟨y,h,h1⟩
end Go.D
namespace Go.D
theorem Ag {n:Int} (h : -9223372036854775808<=n/\n<=9223372036854775807):IntKind.i64.wrap n=n:=by
 rw[IntKind.wrap_i64];omega
theorem wrapId' {n:Int} (h1 : -9223372036854775808<=n) (h2:n<=9223372036854775807):IntKind.i64.wrap n=n:=Ag ⟨h1,h2⟩
theorem AhB (a b:ByteArray):(a.toList==b.toList)=decide (a=b):=by
 have h:a.toList=b.toList↔a=b:=by
  constructor
  ·intro h;rw[ByteArray.toList_eq,ByteArray.toList_eq] at h;cases a;cases b;simp_all
  ·rintro rfl;rfl
 grind
theorem toNat1 {i:Int} (h:0<=i):(i+1).toNat=i.toNat+1:=o_
theorem Agl {α:Type} [Inhabited α] {l:List α} {i:Nat} (h:i<l.length):l.getD i default=l[i]:=by simp[h]
theorem take_succ {α:Type} [Inhabited α] {l:List α} {i:Nat} (h:i<l.length):l.take (i+1)=l.take i++[l.getD i default]:=by
 simp_all
theorem Acl {t:Ty} {l:List (El t)} (h:Sh.good (.sl t) l) {x:El t} (hx:x∈l):Sh.good (.el t) x:=by
 intro c hc;have h1:=h (.l t l) (by simp[Sh.fc]);have h2:=h1.2 x hx c hc;have hr:=H8 hc;have:=Xg t;exact AcR 7 c o_ h2
theorem QZ {t:Ty} {l:List (El t)} (h:Sh.good (.sl t) l) {i:Nat} (hi:i<l.length):Sh.good (.el t) (l.getD i default):=Acl h (by rw[Agl hi];exact List.getElem_mem hi)
theorem good_len {t:Ty} {l:List (El t)} (h:Sh.good (.sl t) l):l.length<=maxLen:=(h (.l t l) (by simp[Sh.fc])).1
def lessen (left:Int) (n:Nat):Int:=if(n:Int)<=left then left-n else -1
def szL {α:Type} (f:α->Nat) (l:List α):Nat:=l.length+(l.map f).sum
theorem Ji {α:Type} [Inhabited α] (f:α->Nat) {l:List α} {i:Nat} (h:i<l.length):((l.take (i+1)).map f).sum=((l.take i).map f).sum+f (l.getD i default):=by
 rw[take_succ h];simp
theorem GE {α:Type} (f:α->Nat) (l:List α) (i:Nat):((l.take i).map f).sum<=(l.map f).sum:=by
 have:(l.map f).sum=((l.take i).map f).sum+((l.drop i).map f).sum:=by rw[<-List.sum_append_nat,<-List.map_append,Qd3]
 omega
theorem Ht {left:Int} {n:Nat} (h0:0<=left):lessen left n<0↔left<n:=by unfold lessen;split<;>omega
theorem Hn {left:Int} {n:Nat} (h:(n:Int)<=left):lessen left n=left-n:=Qa2 h
theorem Ge {left:Int} {n:Nat} (h:left<n):lessen left n = -1:=Qa4 o_
theorem Ac {α:Type} (f:α->Nat) (l:List α):l.length<=szL f l:=Qf8 _ _
def Adh:Nat->Nat->ByteArray->ByteArray
 | 0,_,out=>out
 | f+1,k,out=>if k=0 then out else Adh f (k / 10) (⟨#[UInt8.ofNat (48+k % 10)]⟩++out)
def KD (k:Int):ByteArray:=if k<=0 then⟨#[109,48]⟩ else⟨#[109]⟩++Adh 64 k.toNat ⟨#[]⟩
def Aq {α:Type} (f:α->Int->α×Int):List α->Int->List α×Int
 | [],k=>([],k)
 | x::xs,k=>((f x k).1::(Aq f xs (f x k).2).1,(Aq f xs (f x k).2).2)
def AkE {α:Type} (f:α->Int->α×Int):Prop:=∀ x k,k<=(f x k).2
section
variable {α:Type} {f:α->Int->α×Int}
theorem HK:∀ (xs ys:List α) (k:Int),Aq f (xs++ys) k=((Aq f xs k).1++(Aq f ys (Aq f xs k).2).1,(Aq f ys (Aq f xs k).2).2):=by
 intro xs
 induction xs with
 | nil=>intro ys k;simp[Aq]
 | cons x xs ih=>intro ys k;simp[Aq,ih]
theorem LA:∀ (xs:List α) (k:Int),(Aq f xs k).1.length=xs.length:=by
 intro xs
 induction xs with
 | nil=>intro k;rfl
 | cons x xs ih=>intro k;simp[Aq,ih]
theorem JU (h:AkE f):∀ (xs:List α) (k:Int),k<=(Aq f xs k).2:=by
 intro xs
 induction xs with
 | nil=>intro k;exact Int.le_refl _
 | cons x xs ih=>intro k;have h1:=h x k;have h2:=ih (f x k).2;simp only[Aq];omega
theorem Qk (h:∀ x k,k+1<=(f x k).2):∀ (xs:List α) (k:Int),k+xs.length<=(Aq f xs k).2:=by
 intro xs
 induction xs with
 | nil=>intro k;simp[Aq]
 | cons x xs ih=>intro k;have h1:=h x k;have h2:=ih (f x k).2;simp only[Aq,Qa6];omega
theorem Jr [Inhabited α] {l:List α} {i:Nat} (h:i<l.length) (k:Int):Aq f (l.take (i+1)) k=((Aq f (l.take i) k).1++[(f (l.getD i default) (Aq f (l.take i) k).2).1],(f (l.getD i default) (Aq f (l.take i) k).2).2):=by
 rw[take_succ h,HK];rfl
theorem Fu (h:AkE f) (l:List α) (i:Nat) (k:Int):k<=(Aq f (l.take i) k).2/\(Aq f (l.take i) k).2<=(Aq f l k).2:=by
 refine⟨JU h _ _,?_⟩;have e:Aq f l k=Aq f (l.take i++l.drop i) k:=by rw[Qd3]
 rw[e,HK];exact JU h _ _
theorem drop_cons [Inhabited α] {l:List α} {i:Nat} (h:i<l.length):l.drop i=l.getD i default::l.drop (i+1):=by
 simp_all
theorem drop_end {α:Type} {l:List α} {i:Nat} (h:l.length<=i):l.drop i=[]:=Qb0 h
theorem Wd [Inhabited α] {l:List α} {k:Int} (h:(Aq f l k).1=l) {i:Nat} (hi:i<l.length):(f (l.getD i default) (Aq f (l.take i) k).2).1=l.getD i default:=by
 have e:(Aq f l k).1=(Aq f (l.take (i+1)) k).1++(Aq f (l.drop (i+1)) (Aq f (l.take (i+1)) k).2).1:=by
  have:Aq f l k=Aq f (l.take (i+1)++l.drop (i+1)) k:=by rw[Qd3]
  rw[this,HK]
 rw[e,Jr hi] at h;have h2:=Qg8 (·[i]?) h;have hl:(Aq f (l.take i) k).1.length=i:=by rw[LA,Qc1];omega
 grind
theorem Hz {A r:List α} {x:α} {g:α->α} {i:Nat} (h:A.length=i):(A++x::r).modify i g=A++g x::r:=by
 subst h
 induction A with
 | nil=>rfl
 | cons a A ih=>simp[List.modify_succ_cons,ih]
theorem getD_at [Inhabited α] {A r:List α} {x:α} {i:Nat} (h:A.length=i):(A++x::r).getD i default=x:=by
 subst h;simp
end
theorem AgD {k:Int} (h0:0<=k):List.foldl (λ(r:ByteArray) (n:Int)=>r.push (UInt8.ofNat n.toNat)) ByteArray.empty [IntKind.u8.wrap (IntKind.i64.wrap ((48:Int)+k.tmod (10:Int)))]=⟨#[UInt8.ofNat (48+k.toNat % 10)]⟩:=by
 rw[Int.tmod_eq_emod_of_nonneg h0,Ag o_];have hu:IntKind.u8.wrap (48+k % 10)=48+k % 10:=by simp[IntKind.wrap,IntKind.bits,IntKind.signed];omega
 rw[hu];have:(48+k % 10).toNat=48+k.toNat % 10:=o_
 rw[List.foldl_cons,List.foldl_nil,this];rfl
theorem sz1 (b:UInt8) (out:ByteArray):((⟨#[b]⟩:ByteArray)++out).size=out.size+1:=by
 rfl
theorem Ah6 {k:Int} (h0:0<=k):IntKind.i64.wrap (k.tdiv 10)=k / 10\/9223372036854775807<k:=by
 rw[Int.tdiv_eq_ediv_of_nonneg h0];by_cases h:9223372036854775807<k
 ·exact .inr h
 ·exact .inl (Ag o_)
theorem Aao {f k:Nat} {out:ByteArray} (hk:0<k):Adh (f+1) k out=Adh f (k / 10) (⟨#[UInt8.ofNat (48+k % 10)]⟩++out):=by
 rw[Adh,Qa4 o_]
theorem AbO {f:Nat} {out:ByteArray}:Adh f 0 out=out:=by
 cases f<;>simp[Adh]
def fidx {α:Type} (p:α->Bool):List α->Int->Int
 | [],_=>-1
 | c::l,i=>if p c then i else fidx p l (i+1)
theorem Im {α:Type} (p:α->Bool):∀ (l:List α) (i:Int),0<=i->(0<=fidx p l i↔l.any p=true):=by
 intro l
 induction l with
 | nil=>intro i _;simp[fidx]
 | cons c l ih=>
  intro i hi;simp only[fidx,List.any_cons,Qf6];grind
theorem EQ {α:Type} (p:α->Bool):∀ (l:List α) (i:Int),0<=i->fidx p l i<i+l.length/\-1<=fidx p l i:=by
 intro l
 induction l with
 | nil=>intro i h;simp[fidx];omega
 | cons c l ih=>
  intro i hi;simp only[fidx,Qa6];grind
theorem UU {α:Type} {f:α->Int->α×Int} (h:∀ x k,f (f x k).1 k=f x k):∀ (xs:List α) (k:Int),Aq f (Aq f xs k).1 k=Aq f xs k:=by
 intro xs
 induction xs with
 | nil=>intro k;rfl
 | cons x xs ih=>intro k;simp only[Aq,h,ih]
theorem DH {α:Type} [Inhabited α] (f:α->Nat) {l:List α} {i:Nat} (h:i<l.length):f (l.getD i default)+l.length<=szL f l:=by
 have h1:=GE f l (i+1);rw[Ji f h] at h1;simp only[szL];omega
def countIf {α:Type} (p:α->Bool):List α->Int
 | []=>0
 | x::l=>(if p x then 1 else 0)+countIf p l
theorem countIf_le {α:Type} (p:α->Bool) (l:List α):0<=countIf p l/\countIf p l<=l.length:=by
 induction l with
 | nil=>simp[countIf]
 | cons x l ih=>simp only[countIf,Qa6];split<;>omega
theorem Yf {α:Type} (l:List α) (n:Nat):cut l n (l.length-n)=l.drop n:=by
 unfold cut;rw[Qb1 (by simp)]
theorem Ajc {t:Ty} {x:El t} (n:Int) (h:Sh.good (.el t) x) (hm:FC.val (.int .i64 n)∈enc t x) : -9223372036854775808<=n/\n<=9223372036854775807:=by
 have h1:=h _ hm;simp only[D6,Lit.wf,Qa1,Qa7] at h1;exact h1
theorem Es {a b:Bool} (h:a=true) (h':b=true):(a&&b)=true:=by rw[h,h'];rfl
theorem V5 {α:Type} {f:α->Int->α×Int} {g:α->Nat} (h:∀ x k,(f x k).2<=k+64*(g x+1)):∀ (xs:List α) (k:Int),(Aq f xs k).2<=k+64*szL g xs:=by
 intro xs
 induction xs with
 | nil=>intro k;simp[Aq,szL]
 | cons x xs ih=>
  intro k;have h1:=h x k;have h2:=ih (f x k).2;simp only[Aq,szL,Qd0,List.sum_cons,Qa6] at h2 ⊢;omega
theorem take_end {α:Type} {l:List α} {i:Nat} (h:l.length<=i):l.take i=l:=Qb1 h
theorem Apk (a:Array UInt8):(ByteArray.mk a).size=a.size:=rfl
end Go.D
namespace Go.D
theorem Afl (a b:Nat):Bz a b=(a*b<=140737488355328):=rfl
theorem Ahd:(∀ {p:Prop} [inst:Decidable p],(decide p=true)=p)/\(∀ {p:Prop} {x:Decidable p},decide p=false↔¬p)/\(∀ (b:Bool),((!b)=true)=(b=false))/\(∀ (b:Bool),((!b)=false)=(b=true)) /\
 (∀ {α:Type} [inst:BEq α] [LawfulBEq α] {a b:α},(a != b)=true↔a≠b)/\(∀ {α:Type} [inst:BEq α] [LawfulBEq α] {a b:α},(a != b)=false↔a=b)/\(∀ {α:Type} [inst:BEq α] [LawfulBEq α] {a b:α},(a==b)=true↔a=b) /\
 (∀ {α:Type} [inst:BEq α] [LawfulBEq α] {a b:α},(a==b)=false↔a≠b)/\(∀ (a b:ByteArray),(a.toList==b.toList)=decide (a=b))/\(∀ {a b:Int},¬a<b↔b<=a)/\(∀ {a b:Int},¬a<=b↔b<a)/\(∀ {p:Prop} [Decidable p],¬¬p↔p)/\(∀ x,wr x=IntKind.i64.wrap x)/\(∀ x,w1 x=IntKind.i64.wrap (x+1))/\∀ i n,inB i n=(0<=i/\i<(n:Int)) :=
 ⟨@Qa7,@Qa9,@Qc7,@Bool.not_eq_false',@bne_iff_ne,@bne_eq_false_iff_eq,@Qf4,@beq_eq_false_iff_ne,@AhB,@Int.not_lt,@Int.not_le,@Decidable.not_not,λ_=>rfl,λ_=>rfl,λ_ _=>rfl⟩
theorem Aix:(∀ (a:Array UInt8),ByteArray.size { data:=a }=a.size)/\(∀ {α:Type} {as:List α},as.toArray.size=as.length)/\(∀ {α:Type} {a:α} {as:List α},(a::as).length=as.length+1)/\(∀ {α:Type},([]:List α).length=0) /\
 Int.toNat 0=0/\(∀ {α:Type} {l:List α},List.drop 0 l=l)/\(∀ (b:Bool),(¬b=true)=(b=false))/\(∀ (b:Bool),(¬b=false)=(b=true))/\(∀ {p:Prop} [g:Decidable p] [h:Decidable ¬p],(decide ¬p) = !decide p) /\
 (∀ {α β:Type} (a:α) (b:β) (c:α) (d:β),((a,b)=(c,d))=(a=c/\b=d))/\(∀ (p:Prop),(p/\True)=p)/\(∀ (p:Prop),(True/\p)=p)/\(∀ (a b:Nat),Bz a b=(a*b<=140737488355328)) /\
 (∀ {α:Type} (as:List α),[]++as=as)/\∀ (n:Nat),0+n=n :=
 ⟨@Apk,@List.size_toArray,@Qa6,@Qb9,Int.toNat_zero,@Qf5,@Bool.not_eq_true,@Bool.not_eq_false,@decide_not,@Qb7,@Qe0,@true_and,Afl,@Qg3,@Qd6⟩
theorem Hg:(type_of% @Ahd)/\∀ {α:Type} (a b:α),(a≠b) = ¬a=b:=⟨Ahd,λ_ _=>rfl⟩
theorem Ao9:(∀ x,wr x=IntKind.i64.wrap x)/\(∀ x,w1 x=IntKind.i64.wrap (x+1))/\∀ i n,inB i n=(0<=i/\i<(n:Int)):=⟨λ_=>rfl,λ_=>rfl,λ_ _=>rfl⟩
theorem AiE:(type_of% @Ahd)/\(type_of% @Aix)/\∀ {α:Type} (a b:α),(a≠b) = ¬a=b:=⟨Ahd,Aix,λ_ _=>rfl⟩
abbrev Ad (x:ByteArray):Nat:=x.size
def Gr:Fct:=⟨[aI],[rT],λ(x:Int×Unit)=>0<=x.1/\x.1<=4000000000000000000,λ(x:Int×Unit)=>(KD x.1,())⟩
abbrev AiN (k:Int):LInv:=⟨[⟨.s,0,true,.el .int⟩,⟨.s,3,true,.el .str⟩],λ_ (x:Int×ByteArray×Unit)=>0<=x.1/\x.1<=k/\∃ f,f+x.2.1.size=64/\x.1.toNat<10 ^ f/\Adh 64 k.toNat ⟨#[]⟩=Adh f x.1.toNat x.2.1,λ(x:Int×ByteArray×Unit)=>x.1.toNat⟩
abbrev Afp (t:Ty) (f:El t->Nat) (l:List (El t)) (n:Int):LInv:=⟨[⟨.s,1,true,.el .int⟩,⟨.s,5,true,.el .int⟩],λ_ (x:Int×Int×Unit)=>0<=x.2.1/\x.2.1<=l.length/\0<=x.1/\x.1=n-l.length-((l.take x.2.1.toNat).map f).sum,λ(x:Int×Int×Unit)=>l.length-x.2.1.toNat⟩
abbrev Aaz (t:Ty) (l:List (El t)):LInv:=⟨[⟨.s,4,true,.el .int⟩,⟨.s,3,true,.sl t⟩],λ_ (x:Int×List (El t)×Unit)=>0<=x.1/\x.1<=l.length/\x.2.1=l.take x.1.toNat++List.replicate (l.length-x.1.toNat) default,λ(x:Int×List (El t)×Unit)=>l.length-x.1.toNat⟩
abbrev AaC (t:Ty) (l m:List (El t)):LInv:=⟨[⟨.s,5,true,.el .int⟩],λ_ (x:Int×Unit)=>0<=x.1/\x.1<=l.length/\l.take x.1.toNat=m.take x.1.toNat,λ(x:Int×Unit)=>l.length-x.1.toNat⟩
abbrev Ai2 (t:Ty) (f:El t->Int->El t×Int) (l:List (El t)) (k:Int):LInv:=⟨[⟨.s,1,true,.el .int⟩,⟨.s,5,true,.el .int⟩,⟨.t,0,true,.sl t⟩],λ_ (x:Int×Int×List (El t)×Unit)=>0<=x.2.1/\x.2.1<=l.length/\x.1=(Aq f (l.take x.2.1.toNat) k).2/\x.2.2.1=(Aq f (l.take x.2.1.toNat) k).1++l.drop x.2.1.toNat,λ(x:Int×Int×List (El t)×Unit)=>l.length-x.2.1.toNat⟩
abbrev Ajt (t:Ty) (f:El t->Int->El t×Int) (l:List (El t)) (k:Int):LInv:=⟨[⟨.s,1,true,.el .int⟩,⟨.s,5,true,.el .int⟩],λ_ (x:Int×Int×Unit)=>0<=x.2.1/\x.2.1<=l.length/\x.1=(Aq f (l.take x.2.1.toNat) k).2,λ(x:Int×Int×Unit)=>l.length-x.2.1.toNat⟩
end Go.D
