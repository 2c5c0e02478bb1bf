/-
  The library of the proof, part 3.
-/
import Derived.Test.YtglhphmnikpkfaaGreatDoorVLb
import Derived.LoopN
import Derived.Carry
import Derived.ChangeOld
import Derived.ChangeArms
import Derived.ChangeShapes
import Derived.WideShapes
import Derived.ProofKit
import Derived.OpenShut
import Derived.Handed
import Derived.MakeChecks
import GoSem.ClaimGoes
set_option linter.defProp false
set_option linter.unusedVariables false
set_option linter.unusedSimpArgs false
namespace Go.D
inductive Sh where
 | el (t:Ty)
 | sl (t:Ty)
abbrev Sh.X:Sh->Type
 | .el t=>El t
 | .sl t=>List (El t)
def Sh.fc:(s:Sh)->s.X->List FC
 | .el t,x=>enc t x
 | .sl t,xs=>[.l t xs]
def Sh.dec:(s:Sh)->List FC->Option s.X
 | .el t,ds=>D.dec t ds
 | .sl t,[c]=>AhQ t c
 | .sl _,_=>none
def Ty.agg:Ty->Bool
 | .int=>false
 | .str=>false
 | .bool=>false
 | .u8=>false
 | _=>true
def Sh.agg:Sh->Bool
 | .el t=>t.agg
 | .sl _=>false
def Sh.dec_ok {s:Sh} {ds:List FC} {x:s.X} (h:s.dec ds=some x):FcsLe ds (s.fc x):=by
 cases s with
 | el t=>exact D.dec_ok t ds x h
 | sl t=>
  cases ds with
  | nil=>simp[Sh.dec] at h
  | cons c ds=>
   cases ds with
   | nil=>exact .cons (Ym h) .nil
   | cons d ds=>simp[Sh.dec] at h
def AbM (t:Ty):t.width<=64:=by cases t<;>decide
def Sh.fc_len (s:Sh) (x:s.X):(s.fc x).length<=64:=by
 cases s with
 | el t=>rw[Sh.fc,LO];exact AbM t
 | sl t=>simp[Sh.fc]
inductive Pk where
 | s
 | b
 | t
structure Vr where
 k:Pk
 p:Nat
 own:Bool
 sh:Sh
abbrev Xs:List Vr->Type
 | []=>Unit
 | v::vs=>v.sh.X×Xs vs
def Vr.cells (v:Vr) (σ:St):Option (List Cell) :=
 match v.k with
 | .b=>look σ.bx v.p
 | .s=>match look σ.tm v.p with
  | some (.v agg cs)=>bif agg==v.sh.agg then some cs else none
  | _=>none
 | .t=>none
def Sh.ofTree:(s:Sh)->Tree->Option s.X
 | .sl t,T=>if h:T.t=t then some (h▸T.xs) else none
 | .el _,_=>none
def Sh.toTree:(s:Sh)->s.X->Tree
 | .sl t,xs=>⟨t,xs⟩
 | .el t,x=>⟨t,[x]⟩
def Sh.tree_ok {s:Sh} {T:Tree} {x:s.X} (h:s.ofTree T=some x):s.toTree x=T:=by
 cases s with
 | el t=>simp[Sh.ofTree] at h
 | sl t=>
  obtain⟨t',xs⟩:=T;simp only[Sh.ofTree] at h;split at h
  ·rename_i e;subst e;simp only[Qa0] at h;subst h;rfl
  ·cases h
def Vr.isT (v:Vr):Bool:=match v.k with
 | .t=>true
 | _=>false
def Vr.grab (v:Vr) (σ:St):Option (v.sh.X×List Nat) :=
 match v.isT with
 | true=>match look σ.hp v.p with
  | some T=>match v.sh.ofTree T with
   | some x=>some (x,[])
   | none=>none
  | none=>none
 | false=>match v.cells σ with
 | some cs=>match v.own with
  | true=>match P2 σ cs with
   | some (ds,ab)=>match v.sh.dec ds with
    | some x=>some (x,ab)
    | none=>none
   | none=>none
  | false=>match FZ cs with
   | some ds=>match v.sh.dec ds with
    | some x=>some (x,[])
    | none=>none
   | none=>none
 | none=>none
def JQ (σ:St):(vs:List Vr)->Option (Xs vs×List Nat)
 | []=>some ((),[])
 | v::vs=>match v.grab σ,JQ σ vs with
  | some (x,ab),some (xs,ab')=>some ((x,xs),ab++ab')
  | _,_=>none
def Vr.q (v:Vr):Nat:=v.p+1000000
def Vr.to (v:Vr) (x:v.sh.X):List Cell:=bif v.own then DX (64*v.q) (v.sh.fc x) else(v.sh.fc x).map (toCell none)
def Vr.set (v:Vr) (x:v.sh.X) (σ:St):St :=
 let σ1:={ σ with hp:=(bif v.own then EQ (64*v.q) (v.sh.fc x) else[])++σ.hp }
 match v.k with
 | .b=>{ σ1 with bx:=(v.p,v.to x)::σ1.bx }
 | .s=>{ σ1 with tm:=(v.p,.v v.sh.agg (v.to x))::σ1.tm }
 | .t=>{ σ with hp:=(v.p,v.sh.toTree x)::σ.hp }
def FT (σ:St):(vs:List Vr)->Xs vs->St
 | [],_=>σ
 | v::vs,x=>v.set x.1 (FT σ vs x.2)
def Cell.memfree (hs:List Nat):Cell->Bool
 | .sc _=>true
 | .tt=>true
 | .ff=>true
 | .nil=>true
 | .im none _ _=>true
 | .ref l=>hs.contains l
 | .sub l _ _ _=>hs.contains l
 | _=>false
def TV.memfree (hs:List Nat):TV->Bool
 | .v _ cs=>cs.all (·.memfree hs)
 | .ptr _ _=>true
 | .sptr none _ _ _=>true
 | .aptr _ _=>true
 | .clo _ _=>true
 | .cur=>true
 | .dead=>true
 | _=>false
def pOf:List Vr->List Nat
 | []=>[]
 | v::vs=>bif v.isT then pOf vs else v.q::pOf vs
def hOf:List Vr->List Nat
 | []=>[]
 | v::vs=>bif v.isT then v.p::hOf vs else hOf vs
def H7 (σ:St) (vs:List Vr) (ab:List Nat):Bool :=
 Bi ab&&Bi (pOf vs)&&Rx σ.fl (λm=>(pOf vs).contains (m / 64))&&(hOf vs).all λl=>!(pOf vs).contains (l / 64) && !ab.contains l
section
variable {P:Program} {E:Env} {F:Fr P} {G G':Gh} {σ σ' σb:St} {a a':Act} {w w':World} {o:Oper} {K:St->Out} {Q:Post} {Qx:Exit->Act->World->Prop}
def KS {hs:List Nat} {c:Cell} (h:c.memfree hs=true):(∀ m,c.refs m=true->m∈hs)/\∀ m,c.mems m=false:=by
 cases c with
 | im s t xs=>cases s with
  | none=>exact⟨λm hm=>by simp[Cell.refs] at hm,λ_=>rfl⟩
  | some l=>simp[Cell.memfree] at h
 | ref l=>exact⟨λm hm=>by simp[Cell.refs] at hm;subst hm;simpa [Cell.memfree] using h,λ_=>rfl⟩
 | sub l k lo n=>exact⟨λm hm=>by simp[Cell.refs] at hm;subst hm;simpa [Cell.memfree] using h,λ_=>rfl⟩
 | dead=>simp[Cell.memfree] at h
 | _=>exact⟨λm hm=>by simp[Cell.refs] at hm,λ_=>rfl⟩
def OB {hs:List Nat} {x:TV} (h:x.memfree hs=true):(∀ m,x.refs m=true->m∈hs)/\∀ m,x.mems m=false:=by
 cases x with
 | v agg cs=>
  refine⟨λm hm=>?_,λm=>?_⟩
  ·obtain⟨c,hc,hr⟩:=Qc2.1 (show cs.any (·.refs m)=true from hm);exact(KS (Qc5.1 h c hc)).1 m hr
  ·simp only[TV.mems,List.any_eq_false];intro c hc;rw[(KS (Qc5.1 h c hc)).2 m];simp
 | inn l k i off t xs=>simp[TV.memfree] at h
 | capd l c=>simp[TV.memfree] at h
 | sptr s t x off=>cases s with
  | none=>exact⟨λm hm=>by simp[TV.refs] at hm,λ_=>rfl⟩
  | some l=>simp[TV.memfree] at h
 | tup ps=>simp[TV.memfree] at h
 | eptr l k i off=>simp[TV.memfree] at h
 | _=>exact⟨λm hm=>by simp[TV.refs] at hm,λ_=>rfl⟩
def Vr.At (v:Vr) (G:Gh) (a:Act) (w:World) (us:List Value):Prop :=
 match v.k with
 | .t=>True
 | .b=>G.ow (G.be v.p)=.box v.p/\∃ r e,w.heap[G.be v.p]? = some (.cells r e (0,0))/\r.toList=us
 | .s=>∀ (G':Gh) (w':World) (ds:List Cell),ds.length=us.length->(∀ (j:Nat) (c:Cell) (u:Value),ds[j]? = some c->us[j]? = some u->CellR w' G' c u)->TVR w' G' (.v v.sh.agg ds) (a.tmps.getD v.p undef)
def AcY (h:RG F G σ a w) {v:Vr} {cs:List Cell} (hc:v.cells σ=some cs):∃ us:List Value,us.length=cs.length/\v.At G a w us/\∀ (j:Nat) (c:Cell) (u:Value),cs[j]? = some c->us[j]? = some u->CellR w G c u:=by
 obtain⟨bx,p,own,sh⟩:=v;unfold Vr.cells at hc;cases bx with
 | t=>cases hc
 | b=>
  dsimp only at hc;obtain⟨h1,r,e,h2,h3⟩:=h.bx p cs hc;refine⟨r.toList,by simpa using h3.1,⟨h1,r,e,h2,rfl⟩,λj c u hj hu=>?_⟩;obtain⟨u',hu',hr⟩:=h3.2 j c hj;simp_all
 | s=>
  dsimp only at hc;split at hc
  ·rename_i agg cs' hl;cases ha:(agg==sh.agg) with
   | false=>simp[ha] at hc
   | true=>
    simp only[ha,Qd5,Qa0] at hc;subst hc;have ha':agg=sh.agg:=by simpa using ha
    have hx:=h.tm p _ hl;cases agg with
    | false=>
     obtain⟨c,rfl,hcr⟩:=hx;refine⟨[a.tmps.getD p undef],rfl,λG' w' ds hl' hds=>?_,λj c' u hj hu=>?_⟩
     ·obtain⟨d,rfl⟩:=Qe2.1 hl';show TVR w' G' (.v sh.agg [d]) _;rw[<-ha'];exact⟨d,rfl,hds 0 d _ rfl rfl⟩
     ·grind
    | true=>
     obtain⟨vs,hv,hs,hcr⟩:=hx;refine⟨vs.toList,by simpa using hs,λG' w' ds hl' hds=>?_,λj c u hj hu=>?_⟩
     ·show TVR w' G' (.v sh.agg ds) (a.tmps.getD p undef);rw[<-ha',hv];refine⟨vs,rfl,by simpa using hl'.symm,λj c hj=>?_⟩;have hlt:j<vs.size:=by grind
      exact⟨vs[j],by simp[hlt],hds j c vs[j] hj (by simp[hlt])⟩
     ·grind
  ·cases hc
end
end Go.D
namespace Go.D
section
variable {P:Program} {E:Env} {F:Fr P} {G G1 G':Gh} {σ σ' σb:St} {a a':Act} {w w':World} {o:Oper} {K:St->Out} {Q:Post} {Qx:Exit->Act->World->Prop}
def RG.consTm (h:RG F G σ a w) {p:Nat} {x:TV} (hx:TVR w G x (a.tmps.getD p undef)):RG F G { σ with tm:=(p,x)::σ.tm } a w:=by
 refine⟨?_,h.bx,h.hp,h.lt,h.os,h.tape,h.output,h.size,h.keep,h.fb,h.fl,h.nt,h.df⟩;intro t tv hl;simp only[look] at hl;split at hl
 ·simp_all
 ·exact h.tm t tv hl
def RG.consBx (h:RG F G σ a w) {b:Nat} {cs:List Cell} {r:Array Value} {e:TypeId} (h1:G.ow (G.be b)=.box b) (h2:w.heap[G.be b]? = some (.cells r e (0,0))) (h3:BJ w G cs r):RG F G { σ with bx:=(b,cs)::σ.bx } a w:=by
 refine⟨h.tm,?_,h.hp,h.lt,h.os,h.tape,h.output,h.size,h.keep,h.fb,h.fl,h.nt,h.df⟩;intro t cs' hl;simp only[look] at hl;split at hl
 ·simp_all
 ·exact h.bx t cs' hl
structure PlaceFact (G:Gh) (a:Act) (w:World) (v:Vr) (x:v.sh.X) (ab:List Nat) (us:List Value) (Fs:Nat->Nat->Prop):Prop where
 len:us.length=(v.sh.fc x).length
 at_:v.At G a w us
 own:v.own=true->∀ (j:Nat) (c:FC) (u:Value),(v.sh.fc x)[j]? = some c->us[j]? = some u->TO w (fcC c) u (Fs j)/\u.oneCell'=true
 bor:v.own=false->∀ (j:Nat) (c:FC) (u:Value),(v.sh.fc x)[j]? = some c->us[j]? = some u->TR w (src G none) (fcC c) u
 lab:∀ j b,Fs j b->∃ m,m∈ab/\G.ow b=.lab m
 dis:∀ j j' b,Fs j b->Fs j' b->j=j'
def Zv (h:RG F G σ a w) {v:Vr} {x:v.sh.X} {ab:List Nat} (hT:v.isT=false) (hg:v.grab σ=some (x,ab)):∃ us Fs,PlaceFact G a w v x ab us Fs:=by
 unfold Vr.grab at hg;rw[hT] at hg;dsimp only at hg;split at hg
 ·rename_i cs hcs;obtain⟨us,u1,u2,u3⟩:=AcY h hcs;split at hg
  ·rename_i how;split at hg
   ·rename_i ds ab' hl;split at hg
    ·rename_i y hd;simp only[Qa0,Qc9] at hg;obtain⟨rfl,rfl⟩:=hg;obtain⟨l1,l2,l3,l4⟩:=L0 h cs ds ab' hl;obtain⟨k1,k2⟩:=(Sh.dec_ok hd).get;refine⟨us,λj b=>∃ c m,cs[j]? = some c/\Bq c m/\G.ow b=.lab m,by rw[u1,<-k1,l1],u2,λ_ j c u hc hu=>?_,(λhf=>by rw[how] at hf;cases hf),?_,?_⟩
     ·have hlt:j<cs.length:=by rw[<-u1];exact(List.getElem?_eq_some_iff.1 hu).1
      have hcj:=Qa5 hlt;have hr:=u3 j _ u hcj hu;have ht:=l2 j _ u hcj hr;have hle:=(k2 j).le;have hd':(v.sh.fc y).getD j .nl=c:=by simp[List.getD,hc]
      rw[hd'] at hle;exact⟨(TO.le hle ht).frame λb hb _=>⟨rfl,let ⟨m,h1,h2⟩:=hb;⟨_,m,hcj,h1,h2⟩⟩,hr.one⟩
     ·rintro j b ⟨c,m,hc,hm,hb⟩;exact⟨m,l3 j c m hc hm,hb⟩
     ·rintro j j' b ⟨c,m,hc,hm,hb⟩ ⟨c',m',hc',hm',hb'⟩;rw[hb] at hb';injection hb' with e
      subst e;exact l4 j j' c c' m hc hc' hm hm'
    ·cases hg
   ·cases hg
  ·rename_i how;split at hg
   ·rename_i ds hl;split at hg
    ·rename_i y hd;simp only[Qa0,Qc9] at hg;obtain⟨rfl,rfl⟩:=hg;obtain⟨l1,l2⟩:=HV (w:=w) (G:=G) cs ds hl;obtain⟨k1,k2⟩:=(Sh.dec_ok hd).get;refine⟨us,λ_ _=>False,by rw[u1,<-k1,l1],u2,(λhf=>by rw[how] at hf;cases hf),λ_ j c u hc hu=>?_,(λj b hb=>hb.elim),λj j' b hb=>hb.elim⟩;have hlt:j<cs.length:=by rw[<-u1];exact(List.getElem?_eq_some_iff.1 hu).1
     have hcj:=Qa5 hlt;have ht:=l2 j _ u hcj (u3 j _ u hcj hu);have hle:=(k2 j).le;have hd':(v.sh.fc y).getD j .nl=c:=by simp[List.getD,hc]
     rw[hd'] at hle;exact TR.le hle ht
    ·cases hg
   ·cases hg
 ·cases hg
def PN {l r:List Nat} (h:Bi (l++r)=true):Bi l=true/\Bi r=true/\∀ m,m∈l->m∉r:=by
 induction l with
 | nil=>exact⟨rfl,h,by simp⟩
 | cons x l ih=>
  simp only[Qe6,Bi,Qa2,Qe4,List.contains_eq_mem,Qa8,Qb8,not_or] at h ⊢;simp_all
def WP {c:FC} {m:Nat}:(toCell none c).refs m=false:=by cases c<;>rfl
def Zu {v:Vr} {x:v.sh.X} {l:Nat} (hl:l / 64≠v.q):(v.to x).any (·.refs l)=false:=by
 cases hq:(v.to x).any (·.refs l) with
 | false=>rfl
 | true=>
  exfalso;obtain⟨c,hc,hr⟩:=Qc2.1 hq;obtain⟨j,hj⟩:=List.mem_iff_getElem?.1 hc;unfold Vr.to at hj;cases hown:v.own with
  | true=>
   simp only[hown,Qd5] at hj;have h1:=(KD _ _ _ _ hj).1 l hr;have h2:=Sh.fc_len v.sh x;omega
  | false=>
   simp only[hown,Qf2,Qc3] at hj;cases hq':(v.sh.fc x)[j]? with
   | none=>simp[hq'] at hj
   | some d=>
    simp only[hq',Qb9,Qa0] at hj;subst hj;rw[WP] at hr;cases hr
def W2 {v:Vr} {x:v.sh.X} {l:Nat} (h:I4 σ l) (hl:v.isT=true\/l / 64≠v.q):I4 (v.set x σ) l:=by
 obtain⟨bx,p,own,sh⟩:=v;cases bx with
 | t=>exact h
 | b=>
  have hl':l / 64≠p+1000000:=hl.resolve_left (by simp[Vr.isT]);have hr:=Zu (v:=⟨.b,p,own,sh⟩) (x:=x) hl';refine⟨h.1,λb cs hb=>?_⟩;simp only[Vr.set,look] at hb;split at hb
  ·simp_all
  ·exact h.2 b cs hb
 | s=>
  have hl':l / 64≠p+1000000:=hl.resolve_left (by simp[Vr.isT]);have hr:=Zu (v:=⟨.s,p,own,sh⟩) (x:=x) hl';refine⟨λt tv ht=>?_,h.2⟩;simp only[Vr.set,look] at ht;split at ht
  ·simp only[Qa0] at ht;subst ht;exact hr
  ·exact h.1 t tv ht
def Ahh {v:Vr} {x:v.sh.X}:(v.set x σ).fl=σ.fl:=by
 obtain⟨bx,p,own,sh⟩:=v;cases bx<;>rfl
def RG.consHp (h:RG F G σ a w) {l:Nat} {T:Tree} (hT:TO w (.sl T.k T.n T.f) (G.hv l) (λg=>G.ow g=.lab l)):RG F G { σ with hp:=(l,T)::σ.hp } a w:=by
 refine⟨h.tm,h.bx,?_,h.lt,h.os,h.tape,h.output,h.size,h.keep,h.fb,h.fl,h.nt,h.df⟩;intro m T' hl;simp only[look] at hl;split at hl
 ·simp_all
 ·exact h.hp m T' hl
def Ae0 (h:RG F G σ a w) (base:St) (hb:RG F G1 base a w) (hs:List Nat) (hn:∀ l,l∉hs->I4 base l) (hbe:G1.be=G.be) (hhv:G1.hv=G.hv) (AB:List Nat) (hab:∀ b m,G.ow b=.lab m->m∈AB->G1.ow b=.gone) (hfr:∀ b,G.ow b=.free->G1.ow b=.free) (hbo:∀ b m,G.ow b=.box m->G1.ow b=.box m)
 (hlb:∀ b m,G.ow b=.lab m->m∉AB->G1.ow b=.lab m) :
 ∀ (vs:List Vr) (x:Xs vs) (ab:List Nat),JQ σ vs=some (x,ab)->(∀ m,m∈ab->m∈AB)->Bi ab=true->Bi (pOf vs)=true->(∀ p∈pOf vs,∀ m,m / 64=p->m∉base.fl/\m∉hs)->(∀ l∈hOf vs,l / 64∉pOf vs/\l∉AB) ->
  ∃ G',RG F G' (FT base vs x) a w/\Grow (λb=>∃ m,m∈ab/\G.ow b=.lab m) (λl=>l / 64∈pOf vs) G1 G'/\(∀ l,l∉hs->l / 64∉pOf vs->I4 (FT base vs x) l)/\(FT base vs x).fl=base.fl:=by
 intro vs
 induction vs with
 | nil=>intro x ab _ _ _ _ _ _;exact⟨G1,hb,Grow.refl _ _ _,λl hl _=>hn l hl,rfl⟩
 | cons v vs ih=>
  intro x ab hg hsub hnd hps hfl hht;simp only[JQ] at hg;split at hg
  ·rename_i y abv xs abt hg1 hg2;simp only[Qa0,Qc9] at hg;obtain⟨rfl,rfl⟩:=hg;obtain⟨nd1,nd2,nd3⟩:=PN hnd;cases hvT:v.isT with
   | true=>
    have hpo:pOf (v::vs)=pOf vs:=by simp[pOf,hvT]
    have hho:hOf (v::vs)=v.p::hOf vs:=by simp[hOf,hvT]
    rw[hpo] at hps hfl hht;rw[hho] at hht;obtain⟨hl1,hl2⟩:=hht v.p (by simp);obtain⟨G2,k1,k2,k3,k4⟩:=ih xs abt hg2 (λm hm=>hsub m (Qb8.2 (.inr hm))) nd2 hps hfl (λl hl=>hht l (by simp[hl]));have hgr:=hg1;unfold Vr.grab at hgr;rw[hvT] at hgr;dsimp only at hgr;split at hgr
    ·rename_i T hT;split at hgr
     ·rename_i y' hy;simp only[Qa0,Qc9] at hgr;obtain⟨rfl,rfl⟩:=hgr;have hTT:=Sh.tree_ok hy;have same:∀ g,G.ow g=.lab v.p->G2.ow g=.lab v.p:=λg hg=>by have h1:=hlb g v.p hg hl2;rw[k2.same (by rw[h1];simp),h1]
      have hhv2:G2.hv v.p=G.hv v.p:=by
       rcases k2.hv v.p with e|e
       ·rw[e,hhv]
       ·exact absurd e hl1
      have main:=k1.consHp (l:=v.p) (T:=v.sh.toTree y') (by rw[hTT,hhv2];exact(h.hp v.p T hT).frame λg hg _=>⟨rfl,same g hg⟩)
      have hset:FT base (v::vs) (y',xs)={ FT base vs xs with hp:=(v.p,v.sh.toTree y')::(FT base vs xs).hp }:=by obtain⟨kk,p,own,sh⟩:=v;cases kk<;>simp[Vr.isT] at hvT;rfl
      rw[hset,hpo];exact⟨G2,main,k2,λl h1 h2=>k3 l h1 h2,k4⟩
     ·cases hgr
    ·cases hgr
   | false=>
   have hpo:pOf (v::vs)=v.q::pOf vs:=by simp[pOf,hvT]
   have hho:hOf (v::vs)=hOf vs:=by simp[hOf,hvT]
   rw[hpo] at hps hfl hht;rw[hho] at hht;rw[hpo];simp only[Bi,Qa2,Qe4,List.contains_eq_mem,Qa8] at hps;obtain⟨G2,k1,k2,k3,k4⟩:=ih xs abt hg2 (λm hm=>hsub m (Qb8.2 (.inr hm))) nd2 hps.2 (λp hp=>hfl p (by simp[hp])) (λl hl=>⟨λe=>(hht l hl).1 (by simp[e]),(hht l hl).2⟩);obtain⟨us,Fs,pf⟩:=Zv h hvT hg1;have hgone:∀ j b,Fs j b->b<w.heap.size/\G2.ow b=.gone:=by
    intro j b hb';obtain⟨m,hm,hm2⟩:=pf.lab j b hb';refine⟨h.lt b (by simp[hm2]),k2.gone (hab b m hm2 (hsub m (Qb8.2 (.inl hm)))) ?_⟩;rintro⟨m',hm',hm3⟩;rw[hm2] at hm3;injection hm3 with e
    subst e;exact nd3 m hm hm'
   have hnr:∀ l,l / 64=v.q->I4 (FT base vs xs) l:=λl hl=>k3 l (hfl v.q (by simp) l hl).2 (by rw[hl];exact hps.1)
   have mem:∃ G3,RG F G3 { FT base vs xs with hp:=(bif v.own then EQ (64*v.q) (v.sh.fc y) else[])++(FT base vs xs).hp } a w/\(∀ (j:Nat) (c:Cell) (u:Value),(v.to y)[j]? = some c->us[j]? = some u->CellR w G3 c u)/\(v.to y).length=us.length /\
    Grow (λb=>∃ j,Fs j b) (λl=>l / 64=v.q) G2 G3:=by
    cases hown:v.own with
    | true=>
     obtain⟨G3,m1,m2,m3⟩:=O4 (v.sh.fc y) us Fs G2 (64*v.q) (FT base vs xs) k1 (λ_ m h1 h2=>by
      have h3:=Sh.fc_len v.sh y;have h4:m / 64=v.q:=o_
      exact⟨by rw[k4];exact(hfl v.q (by simp) m h4).1,hnr m h4⟩) pf.len (pf.own hown) hgone pf.dis
     refine⟨G3,m1,?_,?_,m3.mono (λ_ h=>h) λm hm=>by have h3:=Sh.fc_len v.sh y;omega⟩
     ·simpa [Vr.to,hown] using m2
     ·simp[Vr.to,hown,FO,pf.len]
    | false=>
     refine⟨G2,by simpa using k1,λj c u hc hu=>?_,by simp[Vr.to,hown,pf.len],Grow.refl _ _ _⟩;simp only[Vr.to,hown,Qf2,Qc3] at hc;cases hq:(v.sh.fc y)[j]? with
     | none=>simp[hq] at hc
     | some d=>
      simp only[hq,Qb9,Qa0] at hc;subst hc;refine Gy ((pf.bor hown j d u hq hu).frame λg hg _=>⟨rfl,?_⟩);have hg':G.ow g=.free:=hg;show G2.ow g=.free;have h1:=hfr g hg';rw[k2.same (by rw[h1];simp),h1]
   obtain⟨G3,m1,m2,m3,m4⟩:=mem;have gr:Grow (λb=>∃ m,m∈abv++abt/\G.ow b=.lab m) (λl=>l / 64∈v.q::pOf vs) G1 G3:=by refine Grow.trans (k2.mono (λb ⟨m,hm,hb'⟩=>⟨m,Qb8.2 (.inr hm),hb'⟩) λl hl=>by simp[hl]) (m4.mono (λb ⟨j,hj⟩=>?_) λl hl=>by simp[hl]);obtain⟨m,hm,hm2⟩:=pf.lab j b hj;exact⟨m,Qb8.2 (.inl hm),hm2⟩
   refine⟨G3,?_,gr,λl hl0 hl=>?_,by simp only[FT];rw[Ahh];exact k4⟩
   ·obtain⟨bx,p,own,sh⟩:=v;have hat:=pf.at_;cases bx with
    | t=>simp[Vr.isT] at hvT
    | b=>
     obtain⟨q1,r,e,q2,q3⟩:=hat;have hbe3:G3.be=G.be:=(m4.be.trans k2.be).trans hbe;refine m1.consBx (b:=p) (r:=r) (e:=e) ?_ (by rw[hbe3];exact q2) ⟨?_,λj c hc=>?_⟩
     ·rw[hbe3];have h1:=hbo _ _ q1;rw[gr.same (by rw[h1];simp),h1]
     ·rw[m3,<-q3];simp
     ·have hlt:j<us.length:=by rw[<-m3];exact(List.getElem?_eq_some_iff.1 hc).1
      have hlt':j<r.size:=by rw[<-q3] at hlt;simpa using hlt
      refine⟨r[j],by simp[hlt'],m2 j c _ hc ?_⟩;rw[<-q3];simp[hlt']
    | s=>exact m1.consTm (p:=p) (hat G3 w _ m3 m2)
   ·simp only[Qd6,not_or] at hl;exact W2 (k3 l hl0 hl.2) (.inr hl.1)
  ·cases hg
def Aal (h:RG F G σ a w) {vs:List Vr} {x:Xs vs} {ab:List Nat} (hg:JQ σ vs=some (x,ab)) (hp:H7 σ vs ab=true) (base:St) (h1:base.bx=[]) (h2:base.hp=[]) (h3:base.fb=σ.fb) (h4:base.fl=σ.fl) (h5:base.nt=σ.nt)
 (htm:∀ t tv,look base.tm t=some tv->tv.memfree (hOf vs)=true/\TVR w G tv (a.tmps.getD t undef)):∃ G',RG F G' (FT base vs x) a w:=by
 unfold H7 at hp;simp only[Qa2] at hp;obtain⟨⟨⟨hp1,hp2⟩,hp3⟩,hp4⟩:=hp;rw[Qc5] at hp4;have hht:∀ l∈hOf vs,l / 64∉pOf vs/\l∉ab:=λl hl=>by have:=hp4 l hl;simp only[Qa2,Qe4,List.contains_eq_mem,Qa8] at this;exact this
 obtain⟨G1,d1,d2,d3,d4,d5,d6,d7,d8,d9,hfr,hlb',hbo',hcu⟩:=h.drop ab [] [];have hbo:∀ b m,G.ow b=.box m->G1.ow b=.box m:=λb m hb=>hbo' b m hb (by simp)
 have hb:RG F G1 base a w:=by refine⟨λt tv hl=>?_,by simp[h1,look],by simp[h2,look],d1.lt,d1.os,d1.tape,d1.output,d1.size,d1.keep,λb β hb=>by rw[h3];exact d1.fb b β hb,λl v hl=>by rw[h4];exact d1.fl l v hl,by rw[h5];exact d1.nt,d1.df⟩;obtain⟨q1,q2⟩:=htm t tv hl;obtain⟨m1,m2⟩:=OB q1;exact TV.carry ⟨λg hg=>⟨rfl,hfr g hg⟩,hcu⟩ (λm hm=>by rw[d3]) (λm hm=>by rw[m2 m] at hm;cases hm) (λb _=>by rw[d2]) q2
 have hn:∀ l,l∉hOf vs->I4 base l:=λl hl=>⟨λt tv ht=>by
  cases hr:tv.refs l with
  | false=>rfl
  | true=>exact absurd ((OB (htm t tv ht).1).1 l hr) hl,by simp[h1,look]⟩
 obtain⟨G',k1,_⟩:=Ae0 h base hb (hOf vs) hn d2 d3 ab (λb m hb hm=>d5 b m hb (.inl hm)) hfr hbo (λb m hb hm=>hlb' b m hb hm (by simp)) vs x ab hg (λ_ h=>h) hp1 hp2 (λp hp m hm=>by refine⟨λhmem=>?_,λhmem=>(hht m hmem).1 (by rw[hm];exact hp)⟩;rw[h4] at hmem;unfold Rx at hp3;rw[Qc5] at hp3;have:=hp3 m hmem;simp only[Qe4,List.contains_eq_mem,Qa8] at this;exact this (by rw[hm];exact hp)) hht
 exact⟨G',k1⟩
end
end Go.D
namespace Go.D
def Mf:Nat->Nat->St->(St->Out)->Out
 | 0,_,σ,K=>K σ
 | m+1,t,σ,K=>match look σ.tm t with
  | some (.v agg cs)=>match Sd cs 0 with
   | some (j,l,k,lo,n)=>match look σ.hp l with
    | some T=>bif decide (T.k=k) && !σ.fl.contains l then .ob (lo+n<=T.n) (Mf m t (Ok (DN σ l [] ⟨T.t,cut T.xs lo n⟩) t j l) K) else .bad
    | none=>.bad
   | none=>K σ
  | _=>K σ
def Wz (σ:St) (b j l:Nat):St:=match look σ.bx b with
 | some cs=>{ σ with bx:=D.put σ.bx b (cs.set j (.ref l))}
 | none=>σ
def IN:Nat->Nat->St->(St->Out)->Out
 | 0,_,σ,K=>K σ
 | m+1,b,σ,K=>match look σ.bx b with
  | some cs=>match Sd cs 0 with
   | some (j,l,k,lo,n)=>match look σ.hp l with
    | some T=>bif decide (T.k=k) && !σ.fl.contains l then .ob (lo+n<=T.n) (IN m b (Wz (DN σ l [] ⟨T.t,cut T.xs lo n⟩) b j l) K) else .bad
    | none=>.bad
   | none=>K σ
  | none=>K σ
def settle:List ResultVar->St->(St->Out)->Out
 | [],σ,K=>K σ
 | .tmp t::rs,σ,K=>Mf 40 t σ (λσ'=>settle rs σ' K)
 | .cell t _::rs,σ,K=>match σ.get t with
  | .ptr b 0=>IN 40 b σ (λσ'=>settle rs σ' K)
  | _=>settle rs σ K
def I7:List Nat->St->(St->Out)->Out
 | [],σ,K=>K σ
 | b::bs,σ,K=>IN 40 b σ (λσ'=>I7 bs σ' K)
def Gj:List Vr->St->(St->Out)->Out
 | [],σ,K=>K σ
 | v::vs,σ,K=>match v.own with
  | true=>match v.k with
   | .s=>Mf 40 v.p σ (λσ'=>Gj vs σ' K)
   | .b=>IN 40 v.p σ (λσ'=>Gj vs σ' K)
   | .t=>Gj vs σ K
  | false=>Gj vs σ K
section
variable {P:Program} {F:Fr P} {G G':Gh} {σ σ':St} {a:Act} {w w':World} {K:St->Out} {Q:Post}
def Ags {t j l k lo n:Nat} {agg:Bool} {cs:List Cell} {T:Tree} (h:RG F G σ a w) (ht:look σ.tm t=some (.v agg cs)) (hj:cs[j]? = some (.sub l k lo n)) (hT:look σ.hp l=some T) (hk:T.k=k) (hfl:l∉σ.fl) (hle:lo+n<=T.n) :
 ∃ G',RG F G' (Ok (DN σ l [] ⟨T.t,cut T.xs lo n⟩) t j l) a w:=by
 obtain⟨u,hu,hset⟩:=T5 (h.tm t _ ht) hj;have h1:u.oneCell'=true:=CellR.one hu;subst hk;have hto:=UH (Ku (h.hp l T hT) hu hle) hle;rw[D2 ⟨T.t,cut T.xs lo n⟩] at hto;obtain⟨G',h2,h3,_⟩:=h.retree l [] ⟨T.t,cut T.xs lo n⟩ u (λg=>G.ow g=.lab l) ⟨rfl,rfl,⟨rfl,by first|exact DrLe.refl _|exact DrLe.succ _|exact DrLe.add _ _⟩,Qa7 _⟩ (λ_ _ _=>rfl) (λg hg=>⟨h.lt g (by grind),.inr (.inl hg)⟩) hto hfl (by simp);have hlk:look (DN σ l [] ⟨T.t,cut T.xs lo n⟩).tm t=some (.v agg (cs.map (·.kill [l]))):=by simp only[DN,St.kill,St.map];rw[Cb (λx:TV=>x.kill [l]),ht];rfl
 refine⟨G',?_⟩;unfold Ok;rw[hlk];refine RG.retell h2 ?_;exact hset G' _ _ (h2.tm t _ hlk) (by simp) ⟨h3.symm,h1⟩
def Ox:∀ (m t:Nat) (σ:St) (G:Gh) (K:St->Out),RG F G σ a w->(Mf m t σ K).holds Q->∃ σ' G',RG F G' σ' a w/\(K σ').holds Q:=by
 intro m
 induction m with
 | zero=>intro t σ G K h hh;exact⟨σ,G,h,hh⟩
 | succ m ih=>
  intro t σ G K h hh;unfold Mf at hh;split at hh
  ·rename_i agg cs ht;split at hh
   ·rename_i j l k lo n hs;split at hh
    ·rename_i T hT;cases hc:(decide (T.k=k) && !σ.fl.contains l) with
     | false=>rw[hc,Qf2] at hh;exact hh.elim
     | true=>
      rw[hc,Qd5] at hh;simp at hc;obtain⟨hle,hh⟩:=hh;obtain⟨_,hj⟩:=L3 hs;obtain⟨G',h'⟩:=Ags h ht (by simpa using hj) hT hc.1 (by grind) hle;grind
    ·exact hh.elim
   ·exact⟨σ,G,h,hh⟩
  ·exact⟨σ,G,h,hh⟩
def RG.rebox (h:RG F G σ a w) {b:Nat} {cs:List Cell} (h1:G.ow (G.be b)=.box b) {r:Array Value} {e:TypeId} (h2:w.heap[G.be b]? = some (.cells r e (0,0))) (h3:BJ w G cs r):RG F G { σ with bx:=D.put σ.bx b cs } a w:=by
 refine⟨h.tm,?_,h.hp,h.lt,h.os,h.tape,h.output,h.size,h.keep,h.fb,h.fl,h.nt,h.df⟩;intro b' cs' hl;simp only[Ew] at hl;by_cases hb:b'=b
 ·simp_all
 ·simp only[hb,Qe5] at hl;exact h.bx b' cs' hl
def AeJ {b j l k lo n:Nat} {cs:List Cell} {T:Tree} (h:RG F G σ a w) (hb:look σ.bx b=some cs) (hj:cs[j]? = some (.sub l k lo n)) (hT:look σ.hp l=some T) (hk:T.k=k) (hfl:l∉σ.fl) (hle:lo+n<=T.n) :
 ∃ G',RG F G' (Wz (DN σ l [] ⟨T.t,cut T.xs lo n⟩) b j l) a w:=by
 obtain⟨ow,r,e,hr,hc⟩:=h.bx b cs hb;obtain⟨u,hu,hcu⟩:=hc.2 j _ hj;have h1:u.oneCell'=true:=CellR.one hcu;subst hk;have hto:=UH (Ku (h.hp l T hT) hcu hle) hle;rw[D2 ⟨T.t,cut T.xs lo n⟩] at hto;obtain⟨G',h2,h3,_,_,h4,_⟩:=h.retree l [] ⟨T.t,cut T.xs lo n⟩ u (λg=>G.ow g=.lab l) ⟨rfl,rfl,⟨rfl,by first|exact DrLe.refl _|exact DrLe.succ _|exact DrLe.add _ _⟩,Qa7 _⟩ (λ_ _ _=>rfl) (λg hg=>⟨h.lt g (by grind),.inr (.inl hg)⟩) hto hfl (by simp);have hlk:look (DN σ l [] ⟨T.t,cut T.xs lo n⟩).bx b=some (cs.map (·.kill [l])):=by simp only[DN,St.kill,St.map];rw[Cb (λx:List Cell=>x.map (·.kill [l])),hb];rfl
 obtain⟨ow',r',e',hr',hc'⟩:=h2.bx b _ hlk;refine⟨G',?_⟩;unfold Wz;rw[hlk];have hr2:=hr';rw[h4,hr] at hr2;injection hr2 with hr2
 injection hr2 with e1 e2 e3
 subst e1;exact RG.rebox h2 ow' hr' (Ly hc' hu ⟨h3.symm,h1⟩)
def H1:∀ (m b:Nat) (σ:St) (G:Gh) (K:St->Out),RG F G σ a w->(IN m b σ K).holds Q->∃ σ' G',RG F G' σ' a w/\(K σ').holds Q:=by
 intro m
 induction m with
 | zero=>intro b σ G K h hh;exact⟨σ,G,h,hh⟩
 | succ m ih=>
  intro b σ G K h hh;unfold IN at hh;split at hh
  ·rename_i cs hb;split at hh
   ·rename_i j l k lo n hs;split at hh
    ·rename_i T hT;cases hc:(decide (T.k=k) && !σ.fl.contains l) with
     | false=>rw[hc,Qf2] at hh;exact hh.elim
     | true=>
      rw[hc,Qd5] at hh;simp at hc;obtain⟨hle,hh⟩:=hh;obtain⟨_,hj⟩:=L3 hs;obtain⟨G',h'⟩:=AeJ h hb (by simpa using hj) hT hc.1 (by grind) hle;grind
    ·exact hh.elim
   ·exact⟨σ,G,h,hh⟩
  ·exact⟨σ,G,h,hh⟩
def Xh:∀ (rs:List ResultVar) (σ:St) (G:Gh) (K:St->Out),RG F G σ a w->(settle rs σ K).holds Q->∃ σ' G',RG F G' σ' a w/\(K σ').holds Q:=by
 intro rs
 induction rs with
 | nil=>intro σ G K h hh;exact⟨σ,G,h,hh⟩
 | cons r rs ih=>
  intro σ G K h hh;cases r with
  | tmp t=>
   obtain⟨σ1,G1,h1,hh1⟩:=Ox 40 t σ G _ h hh;grind
  | cell t T=>
   simp only[settle] at hh;split at hh
   ·obtain⟨σ1,G1,h1,hh1⟩:=H1 40 _ σ G _ h hh;grind
   ·exact ih σ G K h hh
def TG:∀ (bs:List Nat) (σ:St) (G:Gh) (K:St->Out),RG F G σ a w->(I7 bs σ K).holds Q->∃ σ' G',RG F G' σ' a w/\(K σ').holds Q:=by
 intro bs
 induction bs with
 | nil=>intro σ G K h hh;exact⟨σ,G,h,hh⟩
 | cons b bs ih=>
  intro σ G K h hh;obtain⟨σ1,G1,h1,hh1⟩:=H1 40 b σ G _ h hh;grind
def M5:∀ (vs:List Vr) (σ:St) (G:Gh) (K:St->Out),RG F G σ a w->(Gj vs σ K).holds Q->∃ σ' G',RG F G' σ' a w/\(K σ').holds Q:=by
 intro vs
 induction vs with
 | nil=>intro σ G K h hh;exact⟨σ,G,h,hh⟩
 | cons v vs ih=>
  intro σ G K h hh;unfold Gj at hh;split at hh
  ·split at hh
   ·obtain⟨σ1,G1,h1,hh1⟩:=Ox 40 _ σ G _ h hh;grind
   ·obtain⟨σ1,G1,h1,hh1⟩:=H1 40 _ σ G _ h hh;grind
   ·exact ih σ G K h hh
  ·exact ih σ G K h hh
def IV:List Cell->Nat->Option (Nat×Nat)
 | [],_=>none
 | .ref l::cs,j=>bif decide (l<64000000) then some (j,l) else IV cs (j+1)
 | _::cs,j=>IV cs (j+1)
def Sn:∀ (cs:List Cell) (i:Nat) {j l:Nat},IV cs i=some (j,l)->i<=j/\cs[j-i]? = some (.ref l):=by
 intro cs
 induction cs with
 | nil=>intro i j l h;simp[IV] at h
 | cons c cs ih=>
  intro i j l h;have nx:IV cs (i+1)=some (j,l)->i<=j/\(c::cs)[j-i]? = some (.ref l):=by grind
  cases c<;>simp only[IV] at h<;>first|exact nx h|skip
  grind
def Aiq {b j l q:Nat} {cs:List Cell} {T:Tree} (h:RG F G σ a w) (hb:look σ.bx b=some cs) (hj:cs[j]? = some (.ref l)) (hT:look σ.hp l=some T) (hfl:l∉σ.fl) (hq:q∉σ.fl) :
 ∃ G',RG F G' (Wz (DN σ q [l] T) b j q) a w:=by
 obtain⟨ow,r,e,hr,hc⟩:=h.bx b cs hb;obtain⟨u,hu,hcu⟩:=hc.2 j _ hj;have h1:u.oneCell'=true:=hcu.2;have hto:=h.hp l T hT;rw[<-hcu.1] at hto;obtain⟨G',h2,h3,_,_,h4,_⟩:=h.retree q [l] T u (λg=>G.ow g=.lab l) ⟨rfl,rfl,⟨rfl,by first|exact DrLe.refl _|exact DrLe.succ _|exact DrLe.add _ _⟩,Qa7 _⟩ (λ_ _ _=>rfl) (λg hg=>⟨h.lt g (by simp[hg]),.inr (.inr ⟨l,by simp,hg⟩)⟩) hto hq (by grind);have hlk:look (DN σ q [l] T).bx b=some (cs.map (·.kill [q,l])):=by simp only[DN,St.kill,St.map];rw[Cb (λx:List Cell=>x.map (·.kill [q,l])),hb];rfl
 obtain⟨ow',r',e',hr',hc'⟩:=h2.bx b _ hlk;refine⟨G',?_⟩;unfold Wz;rw[hlk];have hr2:=hr';rw[h4,hr] at hr2;injection hr2 with hr2
 injection hr2 with e1 e2 e3
 subst e1;exact RG.rebox h2 ow' hr' (Ly hc' hu ⟨h3.symm,h1⟩)
def Acj:Nat->Nat->St->(St->Out)->Out
 | 0,_,σ,K=>K σ
 | m+1,b,σ,K=>match look σ.bx b with
  | some cs=>match IV cs 0 with
   | some (j,l)=>match look σ.hp l with
    | some T=>bif !σ.fl.contains l && !σ.fl.contains (64*(3000000+b)+j) then Acj m b (Wz (DN σ (64*(3000000+b)+j) [l] T) b j (64*(3000000+b)+j)) K else .bad
    | none=>.bad
   | none=>K σ
  | none=>K σ
def AbP:∀ (m b:Nat) (σ:St) (G:Gh) (K:St->Out),RG F G σ a w->(Acj m b σ K).holds Q->∃ σ' G',RG F G' σ' a w/\(K σ').holds Q:=by
 intro m
 induction m with
 | zero=>intro b σ G K h hh;exact⟨σ,G,h,hh⟩
 | succ m ih=>
  intro b σ G K h hh;unfold Acj at hh;split at hh
  ·rename_i cs hb;split at hh
   ·rename_i j l hs;split at hh
    ·rename_i T hT;cases hc:(!σ.fl.contains l && !σ.fl.contains (64*(3000000+b)+j)) with
     | false=>rw[hc,Qf2] at hh;exact hh.elim
     | true=>
      simp at hc;obtain⟨_,hj⟩:=Sn cs 0 hs;obtain⟨G',h'⟩:=Aiq (q:=64*(3000000+b)+j) h hb (by simpa using hj) hT (by grind) (by simpa using hc.2);grind
    ·exact hh.elim
   ·exact⟨σ,G,h,hh⟩
  ·exact⟨σ,G,h,hh⟩
def AaH:List Nat->St->(St->Out)->Out
 | [],σ,K=>K σ
 | b::bs,σ,K=>IN 40 b σ λσ=>Acj 40 b σ λσ=>AaH bs σ K
def Yl:∀ (bs:List Nat) (σ:St) (G:Gh) (K:St->Out),RG F G σ a w->(AaH bs σ K).holds Q->∃ σ' G',RG F G' σ' a w/\(K σ').holds Q:=by
 intro bs
 induction bs with
 | nil=>intro σ G K h hh;exact⟨σ,G,h,hh⟩
 | cons b bs ih=>
  intro σ G K h hh;obtain⟨σ1,G1,h1,hh1⟩:=H1 40 b σ G _ h hh;obtain⟨σ2,G2,h2,hh2⟩:=AbP 40 b σ1 G1 _ h1 hh1;grind
end
end Go.D
namespace Go.D
structure LInv where
 ps:List Vr
 inv:Xs ps->Xs ps->Prop
 m:Xs ps->Nat
abbrev Wk:=Nat->Option LInv
def ExR:Ex->Exit->Prop
 | .normal,e=>e=.normal
 | .exit id,e=>e=.exit id
 | .ret,e=>e=.ret
def Ahx {P:Program} (F:Fr P) (K:Ex->St->Out) (Q:Post):Exit->Act->World->Prop:=λe a w=>∃ ex σ',ExR ex e/\R F σ' a w/\(K ex σ').holds Q
def Pe:Code->Nat
 | .region i _ _=>i
 | .seq x _=>Pe x
 | .cond _ x _=>Pe x
 | .block _ x=>Pe x
 | .loop x=>Pe x
 | _=>0
def AfU (ops:List Oper):List Nat:=ops.filterMap (·.dst)
def dstsOf:Code->List Nat
 | .region _ ops _=>AfU ops.toList
 | .seq x y=>dstsOf x++dstsOf y
 | .cond _ x y=>dstsOf x++dstsOf y
 | .block _ x=>dstsOf x
 | .loop x=>dstsOf x
 | _=>[]
def St.clean (σ:St) (kp:List Nat):St:={ σ with tm:=σ.tm.filter λp=>kp.contains p.1 }
def St.dropC (σ:St) (kp:List Nat):Operand->St
 | .tmp t=>bif kp.contains (t+1000000) then{ σ with tm:=σ.tm.filter λp=>!(p.1==t)} else σ
 | _=>σ
def TV.forget (hs:List Nat) (x:TV):TV:=bif x.memfree hs then x else .dead
def UI (kp ds:List Nat) (ps:List Vr) (l:List (Nat×TV)):List (Nat×TV):=(l.filter λx=>kp.contains x.1 && !(ds.contains x.1||ps.any λv=>(match v.k with | .s=>true|_=>false)&&v.p==x.1)).map λx=>(x.1,x.2.forget (hOf ps))
def ZP:Cell->Cell->Option (List Prop)
 | .sc u,.sc v=>some [u=v]
 | .tt,.tt=>some []
 | .ff,.ff=>some []
 | .nil,.nil=>some []
 | .ref l,.ref m=>if l=m then some [] else none
 | .sub l k lo n,.sub l' k' lo' n'=>if l=l'/\k=k' then some [lo=lo',n=n'] else none
 | .sc u,.tt=>some [u=.bool true]
 | .sc u,.ff=>some [u=.bool false]
 | .tt,.sc u=>some [u=.bool true]
 | .ff,.sc u=>some [u=.bool false]
 | .im none t xs,.im none t' ys=>if h:t=t' then some [h▸xs=ys] else none
 | _,_=>none
def J6:List Cell->List Cell->Option (List Prop)
 | [],[]=>some []
 | c::cs,d::ds=>match ZP c d,J6 cs ds with
  | some p,some q=>some (p++q)
  | _,_=>none
 | _,_=>none
def M8:List Cap->List Cap->Option (List Prop)
 | [],[]=>some []
 | .ptr b::cs,.ptr b'::ds=>if b=b' then M8 cs ds else none
 | .aptr x::cs,.aptr y::ds=>match M8 cs ds with
  | some q=>some ((x=y)::q)
  | none=>none
 | _,_=>none
def AhV:TV->TV->Option (List Prop)
 | .v a cs,.v b ds=>if a=b then J6 cs ds else none
 | .ptr b o,.ptr b' o'=>if b=b'/\o=o' then some [] else none
 | .aptr cs o,.aptr ds o'=>if o=o' then some [cs=ds] else none
 | .clo f cs,.clo g ds=>if f=g then M8 cs ds else none
 | .cur,.cur=>some []
 | .sptr none t x o,.sptr none t' y o'=>if h:t=t' then if o=o' then some [h▸x=y] else none else none
 | _,_=>none
def Zh (σ:St):List (Nat×TV)->Option (List Prop)
 | []=>some []
 | (_,.dead)::r=>Zh σ r
 | (t,x)::r=>match look σ.tm t with
  | some y=>match AhV y x,Zh σ r with
   | some p,some q=>some (p++q)
   | _,_=>none
  | none=>none
def Aju (li:LInv) (x0 x:Xs li.ps) (base σ:St):Out :=
 match JQ σ li.ps with
 | some (x',ab)=>match Zh σ base.tm with
  | some ps=>bif H7 σ li.ps ab&&σ.nt==base.nt&&σ.fb==base.fb&&σ.fl==base.fl then obs ps (.ob (li.inv x0 x'/\li.m x'<li.m x) .ok) else .bad
  | none=>.bad
 | none=>.bad
def lpx (li:LInv) (x0:Xs li.ps) (f:Xs li.ps->(Xs li.ps->Prop)->Out):Out:=.lp (Xs li.ps) (li.inv x0 x0) (li.inv x0) λx=>f x λx'=>li.inv x0 x'/\li.m x'<li.m x
def P8 (kp:List Nat) (id:Nat):Nat:=match kp.find? (λk=>k / 64==1000000+id) with
 | some k=>k % 64
 | none=>0
def Adl (f:St->(Ex->St->Out)->Out) (K:Ex->St->Out):Nat->St->Out
 | 0,_=>.bad
 | n+1,σ=>f σ λe σ'=>match e with
  | .normal=>AaH (σ'.bx.map (·.1)) σ' (λσ'=>Adl f K n σ')
  | e=>K e σ'
def ZD (kp:List Nat):Operand->Bool
 | .tmp t=>kp.contains (200000000+t)
 | _=>false
def brC (x:TV) (y n:Out):Out:=match x with
 | .v false [.sc (.bool b)]=>bif b then y else n
 | x=>Afx x y n
def AhI {x:TV} {y n:Out} {Q:Post} (h:(brC x y n).holds Q):(Afx x y n).holds Q:=by
 unfold brC at h;split at h
 ·rename_i b;cases b with
  | true=>exact⟨λ_=>h,λe=>(by cases e)⟩
  | false=>exact⟨λe=>(by cases e),λ_=>h⟩
 ·exact h
def run (P:Program) (E:Env) (L:Wk) (kp:List Nat):Code->St->(Ex->St->Out)->Out
 | .skip,σ,K=>K .normal σ
 | .region _ ops draw,σ,K=>bif draw then AdF P E ops σ (λσ'=>K .normal (σ'.clean kp)) else Vf P E ops (List.range ops.size) σ (λσ'=>K .normal (σ'.clean kp))
 | .seq x y,σ,K=>run P E L kp x σ (λe σ'=>match e with
  | .normal=>run P E L kp y σ' K
  | e=>K e σ')
 | .cond c x y,σ,K=>bif ZD kp c then brC (σ.eval c) (run P E L kp x (σ.dropC kp c) K) (run P E L kp y (σ.dropC kp c) K) else Afx (σ.eval c) (run P E L kp x (σ.dropC kp c) K) (run P E L kp y (σ.dropC kp c) K)
 | .block id x,σ,K=>run P E L kp x σ (λe σ'=>match e with
  | .exit i=>bif i==id then K .normal σ' else K (.exit i) σ'
  | e=>K e σ')
 | .exit id,σ,K=>K (.exit id) σ
 | .ret,σ,K=>K .ret σ
 | .loop b,σ,K=>bif P8 kp (Pe b) != 0 then Adl (λσ K=>run P E L kp b σ K) K (P8 kp (Pe b)) σ else match L (Pe b) with
  | some li=>Gj li.ps σ λσ=>match JQ σ li.ps with
   | some (x0,ab)=>
    bif H7 σ li.ps ab then
     .lp (Xs li.ps) (li.inv x0 x0) (li.inv x0) λx=>run P E L kp b (FT { σ with tm:=UI kp (dstsOf b) li.ps σ.tm,bx:=[],hp:=[]} li.ps x) (λe σ'=>match e with
      | .normal=>Gj li.ps σ' λσ'=>Aju li x0 x { σ with tm:=UI kp (dstsOf b) li.ps σ.tm,bx:=[],hp:=[]} σ'
      | e=>K e σ')
    else .bad
   | none=>.bad
  | none=>.bad
 | _,_,_=>.bad
section
variable {P:Program} {E:Env} {F:Fr P} {G:Gh} {σ:St} {a:Act} {w:World} {o:Oper} {K:St->Out} {Q:Post} {Qx:Exit->Act->World->Prop}
def RG.clean (h:RG F G σ a w) (kp:List Nat):RG F G (σ.clean kp) a w:=by
 refine⟨?_,h.bx,h.hp,h.lt,h.os,h.tape,h.output,h.size,h.keep,h.fb,h.fl,h.nt,h.df⟩;intro t tv hl;simp only[St.clean,Cl (λt=>kp.contains t)] at hl;split at hl
 ·exact h.tm t tv hl
 ·cases hl
def RG.dropC (h:RG F G σ a w) (kp:List Nat) (c:Operand):RG F G (σ.dropC kp c) a w:=by
 unfold St.dropC;split
 ·rename_i t;cases kp.contains (t+1000000) with
  | false=>exact h
  | true=>
   refine⟨?_,h.bx,h.hp,h.lt,h.os,h.tape,h.output,h.size,h.keep,h.fb,h.fl,h.nt,h.df⟩;intro t' tv hl;simp only[Qd5,Cl (λs=>!(s==t))] at hl;split at hl
   ·exact h.tm t' tv hl
   ·cases hl
 ·exact h
def No (hs:List Nat) (x:TV):(x.forget hs).memfree hs=true:=by
 unfold TV.forget;cases h:x.memfree hs
 ·rfl
 ·exact h
def YX {hs:List Nat} {x:TV} {v:Value} (h:TVR w G x v):TVR w G (x.forget hs) v:=by
 unfold TV.forget;cases x.memfree hs
 ·trivial
 ·exact h
def Yy {c d:Cell} {p:List Prop} {v:Value} (h:ZP c d=some p) (hp:∀ q∈p,q) (hc:CellR w G c v):CellR w G d v:=by
 unfold ZP at h;split at h
 ·simp at h;subst h;have:=hp _ (Qe0 _);subst this;exact hc
 ·exact hc
 ·exact hc
 ·exact hc
 ·simp_all
 ·split at h
  ·rename_i e;simp at h;subst h;have h1:=hp _ Qd7;have h2:=hp _ (Qc4 _ (Qe0 _));simp_all
  ·cases h
 ·simp at h;subst h;have:=hp _ (Qe0 _);subst this;exact hc.1
 ·simp at h;subst h;have:=hp _ (Qe0 _);subst this;exact hc.1
 ·simp at h;subst h;have:=hp _ (Qe0 _);subst this;exact⟨hc,rfl⟩
 ·simp at h;subst h;have:=hp _ (Qe0 _);subst this;exact⟨hc,rfl⟩
 ·split at h
  ·rename_i e;subst e;simp at h;subst h;have:=hp _ (Qe0 _);subst this;exact hc
  ·cases h
 ·cases h
def Ww:∀ {cs ds:List Cell} {p:List Prop},J6 cs ds=some p->(∀ q∈p,q)->ds.length=cs.length/\∀ (j:Nat) (d:Cell),ds[j]? = some d->∃ c,cs[j]? = some c/\∀ v,CellR w G c v->CellR w G d v:=by
 intro cs
 induction cs with
 | nil=>
  intro ds p h _;cases ds with
  | nil=>simp
  | cons d ds=>simp[J6] at h
 | cons c cs ih=>
  intro ds p h hp;cases ds with
  | nil=>simp[J6] at h
  | cons d ds=>
   simp only[J6] at h;split at h
   ·rename_i p1 p2 h1 h2;simp at h;subst h;obtain⟨k1,k2⟩:=ih h2 (λq hq=>hp q (Qb8.2 (.inr hq)));refine⟨by grind,λj d' hj=>?_⟩;cases j with
    | zero=>
     simp at hj;subst hj;exact⟨c,rfl,λv hv=>Yy h1 (λq hq=>hp q (Qb8.2 (.inl hq))) hv⟩
    | succ j=>simpa using k2 j d' (by grind)
   ·cases h
def XX:∀ {cs ds:List Cap} {p:List Prop},M8 cs ds=some p->(∀ q∈p,q)->cs=ds:=by
 intro cs
 induction cs with
 | nil=>
  intro ds p h _;cases ds with
  | nil=>rfl
  | cons d ds=>simp[M8] at h
 | cons c cs ih=>
  intro ds p h hp;cases ds with
  | nil=>cases c<;>simp[M8] at h
  | cons d ds=>
   cases c<;>cases d<;>simp only[M8] at h
   ·grind
   ·cases h
   ·cases h
   ·split at h
    ·rename_i q h1;simp at h;subst h;rw[hp _ (Qd7),ih h1 (λq hq=>hp q (Qc4 _ hq))]
    ·cases h
def Agh {x y:TV} {p:List Prop} {v:Value} (h:AhV x y=some p) (hp:∀ q∈p,q) (hx:TVR w G x v):TVR w G y v:=by
 unfold AhV at h;split at h
 ·split at h
  ·rename_i e;subst e;obtain⟨h1,h2⟩:=Ww (w:=w) (G:=G) h hp;exact Gf h1 h2 hx
  ·cases h
 ·simp_all
 ·split at h
  ·rename_i e;subst e;simp at h;subst h;have:=hp _ (Qe0 _);subst this;exact hx
  ·cases h
 ·split at h
  ·rename_i e;subst e;rw[<-XX h hp];exact hx
  ·cases h
 ·exact hx
 ·split at h
  ·rename_i e;subst e;split at h
   ·rename_i e2;subst e2;simp at h;subst h;have:=hp _ (Qe0 _);subst this;exact hx
   ·cases h
  ·cases h
 ·cases h
def AcA (h:RG F G σ a w):∀ {l:List (Nat×TV)} {p:List Prop},Zh σ l=some p->(∀ q∈p,q)->∀ t x,(t,x)∈l->TVR w G x (a.tmps.getD t undef):=by
 intro l
 induction l with
 | nil=>intro p _ _ t x hm;simp at hm
 | cons e l ih=>
  obtain⟨t0,x0⟩:=e;intro p hs hp t x hm;unfold Zh at hs;split at hs
  ·rename_i e;cases e
  ·rename_i e;injection e with e1 e2
   injection e1 with e3 e4
   subst e2;subst e3;subst e4;rcases Qd6.1 hm with e|hm
   ·injection e with e1 e2;subst e2;trivial
   ·exact ih hs hp t x hm
  ·rename_i t1 x1 r1 _ e;injection e with e1 e2
   injection e1 with e3 e4
   subst e2;subst e3;subst e4;split at hs
   ·rename_i y hl;split at hs
    ·rename_i p1 p2 h1 h2;simp at hs;subst hs;rcases Qd6.1 hm with e|hm
     ·injection e with e1 e2
      subst e1;subst e2;exact Agh h1 (λq hq=>hp q (Qb8.2 (.inl hq))) (h.tm t y hl)
     ·exact ih h2 (λq hq=>hp q (Qb8.2 (.inr hq))) t x hm
    ·cases hs
   ·cases hs
def AgP (hE:EOk P E) {L:Wk} {kp:List Nat}:∀ (c:Code) (σ:St) (a:Act) (w:World) (K:Ex->St->Out),R F σ a w->(run P E L kp c σ K).holds Q->c.wp P (Ahx F K Q) a w:=by
 intro c
 induction c with
 | skip=>intro σ a w K h hh;exact wp_skip ⟨.normal,σ,rfl,h,hh⟩
 | region id ops draw=>
  intro σ a w K h hh;simp only[run] at hh;obtain⟨G,h⟩:=h;cases draw with
  | true=>
   refine wp_mono (YK (K:=λσ'=>K .normal (σ'.clean kp)) hE h hh) ?_;rintro e a' w' ⟨rfl,σ',⟨G',h'⟩,hh'⟩;exact⟨.normal,_,rfl,⟨G',h'.clean kp⟩,hh'⟩
  | false=>
   refine wp_mono (wp_region (Acw hE (K:=λσ'=>K .normal (σ'.clean kp)) _ σ G a w h hh)) ?_;rintro e a' w' ⟨rfl,σ',⟨G',h'⟩,hh'⟩;exact⟨.normal,_,rfl,⟨G',h'.clean kp⟩,hh'⟩
 | seq x y ihx ihy=>
  intro σ a w K h hh;refine wp_seq (wp_mono (ihx σ a w _ h hh) ?_);rintro e a' w' ⟨ex,σ',he,h',hh'⟩;cases ex with
  | normal=>obtain rfl:=he;exact ihy σ' a' w' K h' hh'
  | exit id=>obtain rfl:=he;exact⟨.exit id,σ',rfl,h',hh'⟩
  | ret=>obtain rfl:=he;exact⟨.ret,σ',rfl,h',hh'⟩
 | cond c x y ihx ihy=>
  intro σ a w K h hh;simp only[run] at hh;obtain⟨G,hG⟩:=h;have hh:(Afx (σ.eval c) (run P E L kp x (σ.dropC kp c) K) (run P E L kp y (σ.dropC kp c) K)).holds Q:=by
   cases hcc:ZD kp c with
   | true=>rw[hcc,Qd5] at hh;exact AhI hh
   | false=>rw[hcc,Qf2] at hh;exact hh
  obtain⟨b,hb,h1,h2⟩:=Zf (AU hG c) hh;exact wp_cond_split hb (λe=>ihx _ a w K ⟨G,hG.dropC kp c⟩ (h1 e)) (λe=>ihy _ a w K ⟨G,hG.dropC kp c⟩ (h2 e))
 | block id x ih=>
  intro σ a w K h hh;refine wp_block (wp_mono (ih σ a w _ h hh) ?_);rintro e a' w' ⟨ex,σ',he,h',hh'⟩;cases ex with
  | normal=>obtain rfl:=he;exact⟨.normal,σ',rfl,h',hh'⟩
  | exit i=>
   obtain rfl:=he;simp only[Exit.inBlock];split
   ·rename_i hi;simp only[hi,BEq.rfl,Qd5] at hh';exact⟨.normal,σ',rfl,h',hh'⟩
   ·rename_i hi;have h0:(i==id)=false:=by grind
    simp only[h0,Qf2] at hh';exact⟨.exit i,σ',rfl,h',hh'⟩
  | ret=>obtain rfl:=he;exact⟨.ret,σ',rfl,h',hh'⟩
 | exit id=>intro σ a w K h hh;exact wp_exit ⟨.exit id,σ,rfl,h,hh⟩
 | ret=>intro σ a w K h hh;exact wp_ret ⟨.ret,σ,rfl,h,hh⟩
 | loop b ih=>
  intro σ a w K h hh;simp only[run] at hh;cases hu:(P8 kp (Pe b) != 0) with
  | true=>
   rw[hu,Qd5] at hh;generalize P8 kp (Pe b)=m at hh;refine wp_loop_rounds m ?_
   induction m generalizing σ a w with
   | zero=>exact hh.elim
   | succ m ihm=>
    refine wp_mono (ih σ a w _ h hh) ?_;rintro e a' w' ⟨ex,σ',he,h',hh'⟩;cases ex with
    | exit id=>obtain rfl:=he;exact⟨.exit id,σ',rfl,h',hh'⟩
    | ret=>obtain rfl:=he;exact⟨.ret,σ',rfl,h',hh'⟩
    | normal=>
     obtain rfl:=he;obtain⟨G',hG'⟩:=h';obtain⟨σ2,G2,h2,hh2⟩:=Yl _ σ' G' _ hG' hh';exact ihm σ2 a' w' ⟨G2,h2⟩ hh2
  | false=>
  rw[hu,Qf2] at hh;split at hh
  ·rename_i li hli;obtain⟨G,hG⟩:=h;obtain⟨σ,G,hG,hh⟩:=M5 _ _ _ _ hG hh;split at hh
   ·rename_i x0 ab hg;cases hp:H7 σ li.ps ab with
    | false=>simp[hp,Out.holds] at hh
    | true=>
     simp only[hp,Qd5] at hh;obtain⟨hinv,hbody⟩:=hh;generalize hbase:({ σ with tm:=UI kp (dstsOf b) li.ps σ.tm,bx:=[],hp:=[]}:St)=base at hbody;have hbt:∀ t tv,look base.tm t=some tv->tv.memfree (hOf li.ps)=true/\(t,tv)∈base.tm/\TVR w G tv (a.tmps.getD t undef):=by
      intro t tv hl;have h1:=GU hl;subst hbase;simp only[UI] at hl;rw[Cb (TV.forget (hOf li.ps)),Cl (λs=>kp.contains s && !((dstsOf b).contains s||li.ps.any λv=>(match v.k with | .s=>true|_=>false)&&v.p==s))] at hl;split at hl
      ·cases hq:look σ.tm t with
       | none=>rw[hq] at hl;cases hl
       | some x=>
        rw[hq] at hl;simp at hl;subst hl;exact⟨No _ x,h1,YX (hG.tm t x hq)⟩
      ·cases hl
     obtain⟨G0,hG0⟩:=Aal hG hg hp base (by grind) (by subst hbase;rfl) (by subst hbase;rfl) (by subst hbase;rfl) (by subst hbase;rfl) (λt tv hl=>⟨(hbt t tv hl).1,(hbt t tv hl).2.2⟩);have key:∀ n (x:Xs li.ps) (a:Act) (w:World),li.m x<n->li.inv x0 x->R F (FT base li.ps x) a w->Code.rounds P b (Ahx F K Q) n a w:=by
      intro n
      induction n with
      | zero=>intro x a w hm _ _;omega
      | succ n ihn=>
       intro x a w hm hx hR;refine wp_mono (ih _ a w _ hR (hbody x hx)) ?_;rintro e a' w' ⟨ex,σ',he,⟨G',h'⟩,hh'⟩;cases ex with
       | exit id=>obtain rfl:=he;exact⟨.exit id,σ',rfl,⟨G',h'⟩,hh'⟩
       | ret=>obtain rfl:=he;exact⟨.ret,σ',rfl,⟨G',h'⟩,hh'⟩
       | normal=>
        obtain rfl:=he;obtain⟨σ',G',h',hh2⟩:=M5 _ _ _ _ h' hh';unfold Aju at hh2;split at hh2
        ·rename_i x' ab' hg';split at hh2
         ·rename_i ps hs;cases hc:(H7 σ' li.ps ab'&&σ'.nt==base.nt&&σ'.fb==base.fb&&σ'.fl==base.fl) with
          | false=>simp[hc,Out.holds] at hh2
          | true=>
           simp only[hc,Qd5] at hh2;simp at hc;obtain⟨⟨⟨c1,c2⟩,c3⟩,c4⟩:=hc;obtain⟨hps,⟨hinv',hm'⟩,_⟩:=Et hh2;obtain⟨G2,hG2⟩:=Aal h' hg' c1 base (by grind) (by subst hbase;rfl) c3.symm c4.symm c2.symm (λt tv hl=>⟨(hbt t tv hl).1,AcA h' hs hps t tv (hbt t tv hl).2.1⟩);exact ihn x' a' w' o_ hinv' ⟨G2,hG2⟩
         ·exact hh2.elim
        ·exact hh2.elim
     exact wp_loop_rounds _ (key _ x0 a w (Nat.lt_succ_self _) hinv ⟨G0,hG0⟩)
   ·exact hh.elim
  ·exact hh.elim
 | _=>intro σ a w K h hh;simp only[run] at hh;exact hh.elim
end
end Go.D
namespace Go.D
def PB (P:Program) (σ:St):ResultVar->Option (Bool×List Cell)
 | .tmp t=>match σ.get t with
  | .v agg cs=>some (agg,cs)
  | _=>none
 | .cell t T=>match σ.get t,P.underlying T,P.info? T with
  | .ptr b 0,some _,some i=>match look σ.bx b with
   | some cs=>if cs.length=i.size/\(Fo.aggOf P T=true\/i.size=1) then some (Fo.aggOf P T,cs) else none
   | none=>none
  | _,_,_=>none
def Jz (P:Program) (σ:St):List ResultVar->Option (List (Bool×List Cell))
 | []=>some []
 | r::rs=>match PB P σ r,Jz P σ rs with
  | some p,some ps=>some (p::ps)
  | _,_=>none
def Jd (σ:St):List (Bool×List Cell)->Option (List (Bool×List FC))
 | []=>some []
 | p::ps=>match P2 σ p.2,Jd σ ps with
  | some (ds,_),some qs=>some ((p.1,ds)::qs)
  | _,_=>none
def I9 (σ:St):List Nat->Option (List (Nat×List FC))
 | []=>some []
 | b::bs=>match look σ.bx b with
  | some cs=>match P2 σ cs,I9 σ bs with
   | some (ds,_),some qs=>some ((b,ds)::qs)
   | _,_=>none
  | none=>none
def keptL (σ:St):List Nat->Option (List (Nat×Tree))
 | []=>some []
 | l::ls=>match look σ.hp l,keptL σ ls with
  | some T,some hs=>some ((l,T)::hs)
  | _,_=>none
def Kb (mk:Nat->Pl):Nat->List Cell->List (Pl×Cell)
 | _,[]=>[]
 | j,c::cs=>(mk j,c)::Kb mk (j+1) cs
def Mg:Nat->List (Bool×List Cell)->List (Pl×Cell)
 | _,[]=>[]
 | i,p::ps=>Kb (.res i) 0 p.2++Mg (i+1) ps
def Kr (σ:St):List Nat->List (Pl×Cell)
 | []=>[]
 | b::bs=>(match look σ.bx b with|some cs=>Kb (.box b) 0 cs|none=>[])++Kr σ bs
def EI:List (Pl×Cell)->List Nat
 | []=>[]
 | (_,.ref l)::r=>l::EI r
 | _::r=>EI r
def Vw:List (Bool×List FC)->Res
 | [p]=>.one p.1 p.2
 | qs=>.tup qs
def Qh (P:Program) (fn:Func) (fb kl:List Nat) (σ:St):Out :=
 match Jz P σ fn.results.toList with
 | some ps=>match Jd σ ps,I9 σ fb,keptL σ kl with
  | some qs,some bs,some hs=>bif Bi (EI (Mg 0 ps)++(EI (Kr σ fb)++kl))&&Bi fb then .leaf (Vw qs) bs hs else .bad
  | _,_,_=>.bad
 | none=>.bad
def AnU (P:Program) (fn:Func) (fb kl:List Nat):Ex->St->Out
 | .normal,σ=>settle fn.results.toList σ λσ=>I7 fb σ (Qh P fn fb kl)
 | .ret,σ=>settle fn.results.toList σ λσ=>I7 fb σ (Qh P fn fb kl)
 | .exit _,_=>.bad
def start (nt:Nat) (A:Arg) (kl:List Nat):St:={ nt,tm:=A.tm.zipIdx.map (λp=>(p.2,p.1)),bx:=A.bx,hp:=A.hp,fb:=A.bx.map (·.1),fl:=kl }
def Rp:FC->FC->Prop
 | .val u,.val v=>u=v
 | .nl,.nl=>True
 | .nl,.l _ ys=>ys=[]
 | .l t xs,.l t' ys=>if h:t=t' then h▸xs=ys else False
 | _,_=>False
def Kn:List FC->List FC->Prop
 | [],[]=>True
 | c::cs,d::ds=>Rp c d/\Kn cs ds
 | _,_=>False
def TX:List (Bool×List FC)->List (Bool×List FC)->Prop
 | [],[]=>True
 | p::ps,q::qs=>(p.1=q.1/\Kn p.2 q.2)/\TX ps qs
 | _,_=>False
def Kk:Res->Res->Prop
 | .one a cs,.one b ds=>a=b/\Kn cs ds
 | .tup ps,.tup qs=>TX ps qs
 | _,_=>False
def U4:List (Nat×List FC)->List (Nat×List FC)->Prop
 | [],[]=>True
 | p::ps,q::qs=>(p.1=q.1/\Kn p.2 q.2)/\U4 ps qs
 | _,_=>False
def FN (p q:Pst):Prop:=Kk p.r q.r/\U4 p.bx q.bx/\p.hp=q.hp
def Ctr.post (c:Ctr):Post:=⟨λr bx hp=>match c with
 | .det _ q=>FN ⟨r,hp,bx⟩ q
 | .ex _ X ok q=>∃ x:X,ok x/\FN ⟨r,hp,bx⟩ (q x)
 | .df _ _ e q=>FN ⟨r,hp,bx⟩ (q e),λ_ _=>False⟩
def Aai:∀ {c d:FC},Rp c d->fcLe c d:=by
 intro c d h;cases c with
 | val u=>cases d<;>first|exact h.elim|(obtain rfl:=h;exact fcLe.refl _)
 | nl=>
  cases d with
  | val v=>exact h.elim
  | nl=>exact fcLe.refl _
  | l t ys=>obtain rfl:=h;exact .inr ⟨rfl,t,rfl⟩
 | l t xs=>
  cases d with
  | val v=>exact h.elim
  | nl=>exact h.elim
  | l t' ys=>
   simp only[Rp] at h;split at h
   ·rename_i e;subst e;obtain rfl:=h;exact fcLe.refl _
   ·exact h.elim
def J1:∀ {cs ds:List FC},Kn cs ds->FcsLe cs ds:=by
 intro cs
 induction cs with
 | nil=>intro ds h;cases ds with
  | nil=>exact .nil
  | cons d ds=>exact h.elim
 | cons c cs ih=>intro ds h;cases ds with
  | nil=>exact h.elim
  | cons d ds=>exact .cons (Aai h.1) (ih h.2)
section
variable {P:Program} {E:Env} {F:Fr P} {G:Gh} {σ:St} {a:Act} {w w':World} {o:Oper} {K:St->Out} {Q:Post} {Qx:Exit->Act->World->Prop}
def PartO.le {agg:Bool} {cs ds:List FC} {v:Value} {Fs:Nat->Nat->Prop} (h:PartO w agg cs v Fs) (hl:FcsLe cs ds):PartO w agg ds v Fs:=by
 obtain⟨hl1,hl2⟩:=hl.get;have hle:∀ (j:Nat) (c d:FC),cs[j]? = some c->ds[j]? = some d->D.le (fcC c) (fcC d):=by intro j c d hc hd;have:=(hl2 j).le;simp_all
 cases agg with
 | false=>
  obtain⟨c,rfl,h1,h2⟩:=h;obtain⟨d,rfl⟩:=Qe2.1 hl1.symm;exact⟨d,rfl,TO.le (hle 0 c d rfl rfl) h1,h2⟩
 | true=>
  obtain⟨vs,rfl,hs,h⟩:=h;refine⟨vs,rfl,o_,λj d hj=>?_⟩;have hlt:j<cs.length:=by grind
  obtain⟨u,hu,h1,h2⟩:=h j _ (Qa5 hlt);exact⟨u,hu,TO.le (hle j _ d (Qa5 hlt) hj) h1,h2⟩
def We:∀ {ps qs:List (Bool×List FC)},TX ps qs->ps.length=qs.length/\∀ (i:Nat) (q:Bool×List FC),qs[i]? = some q->∃ p,ps[i]? = some p/\p.1=q.1/\FcsLe p.2 q.2:=by
 intro ps
 induction ps with
 | nil=>intro qs h;cases qs with
  | nil=>simp
  | cons q qs=>exact h.elim
 | cons p ps ih=>intro qs h;cases qs with
  | nil=>exact h.elim
  | cons q qs=>
   obtain⟨h1,h2⟩:=ih h.2;refine⟨by grind,λi q' hq=>?_⟩;cases i with
   | zero=>simp only[List.getElem?_cons_zero,Qa0] at hq;subst hq;exact⟨p,rfl,h.1.1,J1 h.1.2⟩
   | succ i=>simpa using h2 i q' (by grind)
def ResR.le {r r':Res} {v:Value} {Fs:Nat->Nat->Nat->Prop} (h:ResR w r v Fs) (hl:Kk r r'):ResR w r' v Fs:=by
 cases r with
 | one a cs=>
  cases r' with
  | tup qs=>exact hl.elim
  | one b ds=>obtain⟨rfl,hl⟩:=hl;exact PartO.le h (J1 hl)
 | tup ps=>
  cases r' with
  | one b ds=>exact hl.elim
  | tup qs=>
   obtain⟨vs,rfl,hs,hp⟩:=h;obtain⟨h1,h2⟩:=We hl;refine⟨vs,rfl,o_,λi q hq=>?_⟩;obtain⟨p,hpi,e1,e2⟩:=h2 i q hq;obtain⟨u,hu,hpo⟩:=hp i p hpi;exact⟨u,hu,e1▸PartO.le hpo e2⟩
def Nk:∀ {ps qs:List (Nat×List FC)},U4 ps qs->∀ b ds,look qs b=some ds->∃ cs,look ps b=some cs/\FcsLe cs ds:=by
 intro ps
 induction ps with
 | nil=>intro qs h;cases qs with
  | nil=>simp[look]
  | cons q qs=>exact h.elim
 | cons p ps ih=>intro qs h;cases qs with
  | nil=>exact h.elim
  | cons q qs=>
   obtain⟨p1,p2⟩:=p;obtain⟨q1,q2⟩:=q;obtain⟨⟨h1,h2⟩,h3⟩:=h;intro b ds hl;subst h1;simp only[look] at hl ⊢;split at hl
   ·rename_i e;simp at hl;subst hl;exact⟨p2,by simp[e],J1 h2⟩
   ·grind
def PstF.le {p q:Pst} {v:Value} {Fs:Pl->Nat->Prop} (h:PstF w G w' v p Fs) (hl:FN p q):PstF w G w' v q Fs:=by
 obtain⟨h1,h2,h3⟩:=hl;refine⟨λs b hs=>⟨(h.own s b hs).1,(h.own s b hs).2.1,λb0 hb0=>(h.own s b hs).2.2 b0 ?_⟩,h.dis,h.res.le h1,λl T hT=>h.hp l T (by grind),λb ds hb=>?_⟩
 ·obtain⟨ds,hds⟩:=Option.isSome_iff_exists.1 hb0;obtain⟨cs,hcs,_⟩:=Nk h2 b0 ds hds;rw[hcs];rfl
 ·obtain⟨cs,hcs,hle⟩:=Nk h2 b ds hb;obtain⟨r,e,k1,k2,k3⟩:=h.bx b cs hcs;obtain⟨l1,l2⟩:=hle.get;refine⟨r,e,k1,o_,λj d hd=>?_⟩;have hlt:j<cs.length:=by grind
  obtain⟨u,hu,ht,h1⟩:=k3 j _ (Qa5 hlt);have:=(l2 j).le;refine⟨u,hu,TO.le ?_ ht,h1⟩;grind
def KF (tmps:Array Value) (r:ResultVar):Sem Value:=match r with
 | .tmp t=>pure (tmps.getD t undef)
 | .cell a t=>do loadVar t (<-asAddr (tmps.getD a undef))
def SQ (h:RG F G σ a w) {r:ResultVar} {p:Bool×List Cell} (hr:PB P σ r=some p):∃ v,(KF a.tmps r).run P w=.ok v w/\Gx w G p.1 p.2 v:=by
 unfold PB at hr;split at hr
 ·rename_i t;have hx:=OA h t;split at hr
  ·rename_i agg cs he;simp at hr;subst hr;rw[he] at hx;exact⟨_,rfl,hx⟩
  ·simp at hr
 ·rename_i t T;have hx:=OA h t;split at hr
  ·rename_i b d i he hd hi;rw[he] at hx;split at hr
   ·rename_i cs hb;split at hr
    ·rename_i hc;obtain⟨hlen,hs⟩:=hc;simp at hr;subst hr;obtain⟨h1,row,e,h2,h3⟩:=h.bx b cs hb;have hrl:row.toList.length=i.size:=by rw[Qc8,h3.1,hlen]
     refine⟨Hd P T row.toList,?_,YC (P:=P) T cs row.toList o_ (λj c hj=>by simpa using h3.2 j c hj) (by rwa [hlen])⟩;have:=Gt (P:=P) (w:=w) T d i (G.be b) 0 row e (0,0) hd hi h2 row.toList hrl (λj v hv=>by grind) hs;simp only[TVR] at hx;simp only[KF,hx,asAddr,Sem.run_bind,Sem.run_pure,Result.andThen_ok,this]
    ·simp at hr
   ·simp at hr
  ·simp at hr
def Tj (h:RG F G σ a w):∀ (rs:List ResultVar) (ps:List (Bool×List Cell)),Jz P σ rs=some ps->∃ vs:List Value,(rs.mapM (KF a.tmps)).run P w=.ok vs w/\vs.length=ps.length /\
 ∀ (i:Nat) (p:Bool×List Cell),ps[i]? = some p->∃ v,vs[i]? = some v/\Gx w G p.1 p.2 v:=by
 intro rs
 induction rs with
 | nil=>intro ps hp;simp only[Jz,Qa0] at hp;subst hp;exact⟨[],by simp,rfl,by simp⟩
 | cons r rs ih=>
  intro ps hp;simp only[Jz] at hp;split at hp
  ·rename_i p ps' h1 h2;simp at hp;subst hp;obtain⟨v,hv,hpr⟩:=SQ h h1;obtain⟨vs,hvs,hl,hps⟩:=ih ps' h2;refine⟨v::vs,?_,by grind,λi q hq=>?_⟩
   ·simp_all
   ·grind
  ·simp at hp
def Tf (fn:Func) (tmps:Array Value) (vs:List Value) (h:(fn.results.toList.mapM (KF tmps)).run P w=.ok vs w) :
 (results fn tmps).run P w=.ok (if h:vs.length=1 then vs[0] else .tuple vs.toArray) w:=by
 have e:(fn.results.mapM (KF tmps):Sem (Array Value)).run P w=.ok vs.toArray w:=by rw[Array.mapM_eq_mapM_toList];simp_all
 have e2:results fn tmps=(fn.results.mapM (KF tmps) >>= λvs=>pure (if h:vs.size=1 then vs[0] else .tuple vs)):=rfl;rw[e2,Sem.run_bind,e,Result.andThen_ok];simp
def Ur (h:RG F G σ a w) {agg:Bool} {cs:List Cell} {ds:List FC} {ab:List Nat} {v:Value} (hl:P2 σ cs=some (ds,ab)) (hv:Gx w G agg cs v) :
 PartO w agg ds v (λj b=>∃ c m,cs[j]? = some c/\Bq c m/\G.ow b=.lab m):=by
 obtain⟨l1,l2,l3,l4⟩:=L0 h cs ds ab hl;have cell:∀ (j:Nat) (c:Cell) (u:Value),cs[j]? = some c->CellR w G c u->TO w (fcC (ds.getD j .nl)) u (λb=>∃ c m,cs[j]? = some c/\Bq c m/\G.ow b=.lab m)/\u.oneCell'=true :=
  λj c u hc hu=>⟨(l2 j c u hc hu).frame λb hb _=>⟨rfl,let ⟨m,hm,hb⟩:=hb;⟨c,m,hc,hm,hb⟩⟩,hu.one⟩
 cases agg with
 | false=>
  obtain⟨c,hcs,hcr⟩:=hv;subst hcs;obtain⟨d,rfl⟩:=Qe2.1 l1;have:=cell 0 c v rfl hcr;exact⟨d,rfl,by grind,this.2⟩
 | true=>
  obtain⟨vs,rfl,hs,hcr⟩:=hv;refine⟨vs,rfl,o_,λj d hj=>?_⟩;have hlt:j<cs.length:=by grind
  obtain⟨u,hu,hcu⟩:=hcr j _ (Qa5 hlt);have:=cell j _ u (Qa5 hlt) hcu;simp_all
def Qw:∀ {ps:List (Bool×List Cell)} {qs:List (Bool×List FC)},Jd σ ps=some qs->qs.length=ps.length/\∀ (i:Nat) (q:Bool×List FC),qs[i]? = some q->∃ p ab,ps[i]? = some p/\p.1=q.1/\P2 σ p.2=some (q.2,ab):=by
 intro ps
 induction ps with
 | nil=>intro qs h;simp only[Jd,Qa0] at h;subst h;simp
 | cons p ps ih=>
  intro qs h;simp only[Jd] at h;grind
def PZ:∀ {bs:List Nat} {qs:List (Nat×List FC)},I9 σ bs=some qs->qs.map (·.1)=bs/\∀ b ds,look qs b=some ds->b∈bs/\∃ cs ab,look σ.bx b=some cs/\P2 σ cs=some (ds,ab):=by
 intro bs
 induction bs with
 | nil=>intro qs h;simp only[I9,Qa0] at h;subst h;simp[look]
 | cons b bs ih=>
  intro qs h;simp only[I9] at h;split at h
  ·split at h
   ·rename_i ds ab qs' h1 h2;simp at h;subst h;obtain⟨k1,k2⟩:=ih h2;refine⟨by grind,λb' ds' hl=>?_⟩;simp only[look] at hl;grind
   ·cases h
  ·cases h
theorem keptL_look:∀ {ls:List Nat} {hs:List (Nat×Tree)},keptL σ ls=some hs->∀ l T,look hs l=some T->l∈ls/\look σ.hp l=some T:=by
 intro ls
 induction ls with
 | nil=>intro hs h;simp only[keptL,Qa0] at h;subst h;simp[look]
 | cons l ls ih=>
  intro hs h;simp only[keptL] at h;split at h
  ·rename_i T hs' h1 h2;simp at h;subst h;intro l' T' hl;simp only[look] at hl;grind
  ·cases h
def AcB:∀ {L:List (Pl×Cell)} {s:Pl} {c:Cell} {m:Nat},(s,c)∈L->Bq c m->m∈EI L:=by
 intro L
 induction L with
 | nil=>intro s c m h;simp at h
 | cons x L ih=>
  obtain⟨s0,c0⟩:=x;intro s c m h hm;rcases Qd6.1 h with e|h
  ·injection e with e1 e2
   subst e2;cases c<;>simp[Bq] at hm;subst hm;simp[EI]
  ·have:=ih h hm;cases c0<;>simp[EI,this]
def AaU:∀ {L:List (Pl×Cell)} {s s':Pl} {c c':Cell} {m:Nat},Bi (EI L)=true->(s,c)∈L->(s',c')∈L->Bq c m->Bq c' m->s=s':=by
 intro L
 induction L with
 | nil=>intro s s' c c' m _ h;simp at h
 | cons x L ih=>
  obtain⟨s0,c0⟩:=x;intro s s' c c' m hn h h' hm hm';have tail:Bi (EI L)=true:=by cases c0<;>simp only[EI] at hn<;>first|exact hn|(simp only[Bi,Qa2] at hn;exact hn.2)
  have key:∀ {t:Pl} {d:Cell},(t,d)∈L->Bq d m->¬ Bq c0 m:=by intro t d hd hdm hc0;cases c0<;>simp[Bq] at hc0;subst hc0;simp only[EI,Bi,Qa2,Qe4,List.contains_eq_mem,Qa8] at hn;exact hn.1 (AcB hd hdm)
  grind
def MY {mk:Nat->Pl}:∀ {cs:List Cell} {s j:Nat} {c:Cell},cs[j]? = some c->(mk (s+j),c)∈Kb mk s cs:=by
 intro cs
 induction cs with
 | nil=>intro s j c h;simp at h
 | cons d cs ih=>
  intro s j c h;cases j with
  | zero=>simp only[List.getElem?_cons_zero,Qa0] at h;subst h;simp[Kb]
  | succ j=>
   have:=ih (s:=s+1) (j:=j) (c:=c) (by grind);rw[show s+1+j=s+(j+1) from o_] at this;simp[Kb,this]
def Th:∀ {ps:List (Bool×List Cell)} {s i j:Nat} {p:Bool×List Cell} {c:Cell},ps[i]? = some p->p.2[j]? = some c->(Pl.res (s+i) j,c)∈Mg s ps:=by
 intro ps
 induction ps with
 | nil=>intro s i j p c h;simp at h
 | cons q ps ih=>
  intro s i j p c h hc;cases i with
  | zero=>
   simp at h;subst h;have:=MY (mk:=.res s) (s:=0) hc;rw[Qd9] at this;exact Qb8.2 (.inl this)
  | succ i=>
   have:=ih (s:=s+1) (i:=i) (by grind) hc;rw[show s+1+i=s+(i+1) from o_] at this;exact Qb8.2 (.inr this)
def SN:∀ {bs:List Nat} {b j:Nat} {cs:List Cell} {c:Cell},b∈bs->look σ.bx b=some cs->cs[j]? = some c->(Pl.box b j,c)∈Kr σ bs:=by
 intro bs
 induction bs with
 | nil=>intro b j cs c h;simp at h
 | cons b0 bs ih=>
  intro b j cs c h hl hc;simp only[Kr];rcases Qd6.1 h with rfl|h
  ·have:=MY (mk:=.box b) (s:=0) hc;simp_all
  ·simp_all
def R7 (L R:List (Pl×Cell)):EI (L++R)=EI L++EI R:=by
 induction L with
 | nil=>rfl
 | cons x L ih=>
  obtain⟨s,c⟩:=x;cases c<;>simp[EI,ih]
def F0 {P:Program} (w:World) (G:Gh) (A:Arg) (kl:List Nat) (hB:Base P w G.ow):Fr P:=⟨w,G.ow,A.bx.map (λp=>(p.1,G.be p.1)),kl.map λl=>(l,G.hv l),hB⟩
def LF {α:Type} {f:Nat->α}:∀ {l:List Nat} {k:Nat},k∈l->look (l.map λx=>(x,f x)) k=some (f k):=by
 intro l
 induction l with
 | nil=>intro k h;simp at h
 | cons x l ih=>
  simp only[Qc7,look];grind
def Sa {w0:World} {G0:Gh} {A:Arg} {fn:Func} {kl:List Nat} {hB:Base P w0 G0.ow} {S:Pst->Prop} (hA:∀ g,G0.ow g=.free->g<w0.heap.size) (hAc:∀ g,G0.ow g=.cur->g<w0.heap.size) (h:RG (F0 w0 G0 A kl hB) G σ a w) (hh:(Qh P fn (A.bx.map (·.1)) kl σ).holds ⟨λr bx hp=>S ⟨r,hp,bx⟩,λ_ _=>False⟩) :
 ∃ v p Fs,(results fn a.tmps).run P w=.ok v w/\S p/\PstF w0 G0 w v p Fs:=by
 unfold Qh at hh;split at hh
 ·rename_i ps hps;split at hh
  ·rename_i qs bs hs h1 h2 h3;generalize hcnd:(Bi (EI (Mg 0 ps)++(EI (Kr σ (A.bx.map (·.1)))++kl))&&Bi (A.bx.map (·.1)))=cnd at hh;cases cnd with
   | false=>exact hh.elim
   | true=>
    rw[Qa2] at hcnd;obtain⟨hn,hnb⟩:=hcnd;obtain⟨vs,hrun,hlen,hpv⟩:=Tj (P:=P) h fn.results.toList ps hps;have hres:=Tf fn a.tmps vs hrun;obtain⟨q1,q2⟩:=Qw h1;obtain⟨b1,b2⟩:=PZ h2;have k2:=keptL_look h3
    let L:List (Pl×Cell):=Mg 0 ps++(Kr σ (A.bx.map (·.1))++kl.map λl=>(Pl.keep l,Cell.ref l))
    have hlk:EI (kl.map λl=>(Pl.keep l,Cell.ref l))=kl:=by
     clear hn h3 k2 h hh L
     induction kl with
     | nil=>rfl
     | cons l kl ih=>simp[EI,ih]
    have hL:Bi (EI L)=true:=by simp only[L,R7,hlk];exact hn
    let Fs:Pl->Nat->Prop:=λs b=>∃ c m,(s,c)∈L/\Bq c m/\G.ow b=.lab m
    have hF:PstF w0 G0 w (if h:vs.length=1 then vs[0] else .tuple vs.toArray) ⟨Vw qs,hs,bs⟩ Fs:=by
     refine⟨?_,?_,?_,?_,?_⟩
     ·rintro s b ⟨c,m,_,_,hb⟩;refine⟨h.lt b (by grind),⟨λhf=>?_,λhf=>?_⟩,λb0 hb0 e=>?_⟩
      ·have:=(h.keep.free b (hA b hf) hf).2;rw[hb] at this;cases this
      ·have:=(h.keep.cur b (hAc b hf) hf).1;rw[hb] at this;cases this
      ·obtain⟨ds,hds⟩:=Option.isSome_iff_exists.1 hb0;obtain⟨m1,cs,ab,m2,_⟩:=b2 b0 ds hds;have hbe:G.be b0=G0.be b0:=by refine(h.fb b0 (G0.be b0) ?_).1;have:=LF (f:=λb=>G0.be b) m1;simpa [F0,Qg1,Function.comp_def] using this
       have:=(h.bx b0 cs m2).1;rw[hbe,<-e,hb] at this;cases this
     ·rintro s s' b ⟨c,m,hc,hm,hb⟩ ⟨c',m',hc',hm',hb'⟩;rw[hb] at hb';injection hb' with e
      subst e;exact AaU hL hc hc' hm hm'
     ·have part:∀ (i:Nat) (q:Bool×List FC),qs[i]? = some q->∃ u,vs[i]? = some u/\PartO w q.1 q.2 u (λj=>Fs (.res i j)):=by
       intro i q hq;obtain⟨p,ab,hp,e1,hl⟩:=q2 i q hq;obtain⟨u,hu,hpr⟩:=hpv i p hp;refine⟨u,hu,?_⟩;have:=Ur h hl hpr;rw[e1] at this;have fo:∀ j b,(∃ c m,p.2[j]? = some c/\Bq c m/\G.ow b=.lab m)->Fs (.res i j) b:=by
        rintro j b ⟨c,m,hc,hm,hb⟩;refine⟨c,m,Qb8.2 (.inl ?_),hm,hb⟩;have:=Th (s:=0) hp hc
        rwa [Qd9] at this
       generalize q.1=ag at this;cases ag with
       | false=>obtain⟨c,e1,e2,e3⟩:=this;exact⟨c,e1,e2.frame λb hb _=>⟨rfl,fo 0 b hb⟩,e3⟩
       | true=>obtain⟨us,e1,e2,e3⟩:=this;exact⟨us,e1,e2,λj c hc=>let ⟨u,hu,ht,h1⟩:=e3 j c hc;⟨u,hu,ht.frame λb hb _=>⟨rfl,fo j b hb⟩,h1⟩⟩
      match qs,q1,part with
      | [],q1,part=>
       have hl0:vs.length=0:=by grind
       rw[dif_neg o_];exact⟨vs.toArray,rfl,o_,by simp⟩
      | [q],q1,part=>
       have hv1:vs.length=1:=by grind
       obtain⟨u,hu,hpo⟩:=part 0 q rfl;obtain⟨v0,rfl⟩:=Qe2.1 hv1;simp at hu;subst hu;exact hpo
      | q::q'::qs,q1,part=>
       have hl0:vs.length=qs.length+2:=by grind
       rw[dif_neg o_];refine⟨vs.toArray,rfl,o_,λi p hp=>?_⟩;obtain⟨u,hu,hpo⟩:=part i p hp;exact⟨u,by grind,hpo⟩
     ·intro l T hl;obtain⟨m1,m2⟩:=k2 l T hl;have hv:G.hv l=G0.hv l:=(h.fl l (G0.hv l) (LF (f:=λl=>G0.hv l) m1)).1;rw[<-hv];exact(h.hp l T m2).frame λb hb _=>⟨rfl,_,l,Qb8.2 (.inr (Qb8.2 (.inr (Qg6.2 ⟨l,m1,rfl⟩)))),rfl,hb⟩
     ·intro b ds hb;obtain⟨m1,cs,ab,m2,m3⟩:=b2 b ds hb;have hbe:G.be b=G0.be b:=by refine(h.fb b (G0.be b) ?_).1;have:=LF (f:=λb=>G0.be b) m1;simpa [F0,Qg1,Function.comp_def] using this
      obtain⟨_,r,e,n1,n2⟩:=h.bx b cs m2;have hpr:=Ur h (v:=.agg r) (agg:=true) m3 ⟨r,rfl,n2⟩;obtain⟨r',er,e2,e3⟩:=hpr;injection er with er
      subst er;refine⟨r,e,by grind,e2,λj c hc=>?_⟩;obtain⟨u,hu,ht,h1⟩:=e3 j c hc;refine⟨u,hu,ht.frame λx hx _=>⟨rfl,?_⟩,h1⟩;obtain⟨c',m,hc',hm,hx⟩:=hx;exact⟨c',m,Qb8.2 (.inr (Qb8.2 (.inl (SN m1 m2 hc')))),hm,hx⟩
    exact⟨_,_,Fs,hres,hh,hF⟩
  ·exact hh.elim
 ·exact hh.elim
def VX (args:List TV) (t:Nat):look (args.zipIdx.map (λp=>(p.2,p.1))) t=args[t]?:=by
 have key:∀ (args:List TV) (s t:Nat),look ((args.zipIdx s).map (λp=>(p.2,p.1))) t=if t<s then none else args[t-s]?:=by
  intro args
  induction args with
  | nil=>intro s t;simp[look]
  | cons x args ih=>
   simp only[List.zipIdx_cons,Qc7,look,ih,Qf7];grind
 simp_all
def Gl (P:Program) (E:Env) (L:Wk) (kp kl:List Nat) (fn:Func) (A:Arg):Out:=run P E L kp (fn.body.getD .skip) (start fn.ntmps A kl) (AnU P fn (A.bx.map (·.1)) kl)
def RR {α β:Type} {f:Nat->β}:∀ {l:List (Nat×α)} {b:Nat} {β0:β},look (l.map λp=>(p.1,f p.1)) b=some β0->f b=β0/\(l.map (·.1)).contains b=true:=by
 intro l
 induction l with
 | nil=>intro b β0 h;simp[look] at h
 | cons p l ih=>
  intro b β0 h;simp only[Qc7,look] at h;grind
def IL {f:Nat} {fn:Func} {A:Arg} {c:Ctr} {L:Wk} {kp kl:List Nat} (hE:EOk P E) (hf:P.funcs[f]? = some fn) (hb:fn.body.isSome=true) (hn:decide (A.tm.length<=fn.ntmps)=true)
 (hh:(Gl P E L kp kl fn A).holds c.post):Con P f A c.sat:=by
 obtain⟨code,hc⟩:=Option.isSome_iff_exists.1 hb;intro w vs G hB hA;have hn:=Qg3 hn;refine calls_of_wp hf hc ?_;have h0:RG (F0 w G A kl hB) G (start fn.ntmps A kl) { tmps:=vs++Array.replicate (fn.ntmps-vs.size) undef,defers:=[]} w:=by
  refine⟨?_,hA.bx,hA.hp,hA.lt,rfl,rfl,⟨rfl,DrLe.refl _⟩,Qa7 _,?_,?_,?_,?_,rfl⟩
  ·intro t tv hl;simp only[start,VX] at hl;obtain⟨v,hv,ht⟩:=hA.tm t tv hl;have hlt:t<vs.size:=(Array.getElem?_eq_some_iff.1 hv).1;have:(vs++Array.replicate (fn.ntmps-vs.size) undef).getD t undef=v:=by rw[Array.getD_eq_getD_getElem?,Array.getElem?_append_left hlt,hv];rfl
   rw[this];exact ht
  ·exact⟨λg hg hfree=>⟨rfl,hfree⟩,λg hg hcu=>⟨hcu,(hA.cr g hcu).same rfl⟩,hA.cr⟩
  ·intro b β hl;exact RR (f:=λb=>G.be b) (l:=A.bx) hl
  ·intro l v hl;have:=GU hl;simp only[F0,Qg6] at this;obtain⟨l',h1,h2⟩:=this;injection h2 with e1 e2
   subst e1;subst e2;exact⟨rfl,by simpa [start] using h1⟩
  ·have:=hA.sz;simp[start];omega
 unfold Gl at hh;rw[hc] at hh;refine wp_mono (AgP hE code _ _ w _ ⟨_,h0⟩ hh) ?_;rintro e a' w' ⟨ex,σ',he,⟨G',h'⟩,hh'⟩;have fin:(settle fn.results.toList σ' λσ=>I7 (A.bx.map (·.1)) σ (Qh P fn (A.bx.map (·.1)) kl)).holds c.post->a'.defers=[]/\∃ v,(results fn a'.tmps).run P w'=.ok v w'/\Sv w G c.sat (.returned v) w':=by
  intro hl;obtain⟨σ1,G1,h',hl⟩:=Xh _ _ _ _ h' hl;obtain⟨σ2,G2,h',hl⟩:=TG _ _ _ _ h' hl;have hfr:∀ g,G.ow g=.free->g<w.heap.size:=λg hg=>hA.lt g (by grind)
  have hfc:∀ g,G.ow g=.cur->g<w.heap.size:=λg hg=>hA.lt g (by grind)
  refine⟨h'.df,?_⟩;have on:Onward w w':=⟨h'.os,h'.tape,h'.output,h'.size⟩;have fr:∀ g,G.ow g=.free->w'.heap[g]? = w.heap[g]?:=λg hg=>(h'.keep.free g (hfr g hg) hg).1
  have cu:∀ g,G.ow g=.cur->CurStep w w' g:=λg hg=>(h'.keep.cur g (hfc g hg) hg).2
  cases c with
  | det pre q=>
   obtain⟨v,p,Fs,h1,h2,h3⟩:=Sa (S:=λp=>FN p q) hfr hfc h' hl;exact⟨v,h1,v,q,rfl,rfl,on,fr,cu,Fs,h3.le h2⟩
  | ex pre X ok q=>
   obtain⟨v,p,Fs,h1,⟨x,hx,h2⟩,h3⟩:=Sa (S:=λp=>∃ x:X,ok x/\FN p (q x)) hfr hfc h' hl;exact⟨v,h1,v,q x,⟨x,hx,rfl⟩,rfl,on,fr,cu,Fs,h3.le h2⟩
  | df pre X e q=>
   obtain⟨v,p,Fs,h1,h2,h3⟩:=Sa (S:=λp=>FN p (q e)) hfr hfc h' hl;exact⟨v,h1,v,q e,rfl,rfl,on,fr,cu,Fs,h3.le h2⟩
 cases ex with
 | normal=>obtain rfl:=he;exact fin hh'
 | ret=>obtain rfl:=he;exact fin hh'
 | exit id=>exact hh'.elim
end
end Go.D
namespace Go.D
abbrev Ts:List Sh->Type
 | []=>Unit
 | s::ss=>s.X×Ts ss
inductive Ak where
 | v (s:Sh)
 | p (s:Sh)
 | c (g:Nat) (ss:List Sh)
 | u
abbrev Ak.X:Ak->Type
 | .v s=>s.X
 | .p s=>s.X
 | .c _ ss=>Ts ss
 | .u=>Unit
abbrev As:List Ak->Type
 | []=>Unit
 | s::ss=>s.X×As ss
abbrev aI:Ak:=.v (.el .int)
abbrev aB:Ak:=.v (.el .bool)
abbrev aT:Ak:=.v (.el .str)
abbrev aE (t:Ty):Ak:=.v (.el t)
abbrev aL (t:Ty):Ak:=.v (.sl t)
abbrev rI:Sh:=.el .int
abbrev rB:Sh:=.el .bool
abbrev rT:Sh:=.el .str
abbrev rE (t:Ty):Sh:=.el t
abbrev rL (t:Ty):Sh:=.sl t
def Oe (s:Sh) (x:s.X):TV:=.v s.agg ((s.fc x).map (toCell none))
def ER:(ss:List Sh)->Ts ss->List Cap
 | [],_=>[]
 | s::ss,x=>.aptr (s.fc x.1)::ER ss x.2
def Aca:(k:Ak)->k.X->TV
 | .v s,x=>Oe s x
 | .p s,x=>.aptr (s.fc x) 0
 | .c g ss,x=>.clo g (ER ss x)
 | .u,_=>.cur
def EH:(ss:List Ak)->As ss->List TV
 | [],_=>[]
 | s::ss,x=>Aca s x.1::EH ss x.2
def decV (s:Sh):TV->Option s.X
 | .v agg cs=>bif agg==s.agg then(match FZ cs with
  | some ds=>s.dec ds
  | none=>none) else none
 | _=>none
def IT:(ss:List Sh)->List Cap->Option (Ts ss)
 | [],[]=>some ()
 | s::ss,.aptr ds::cs=>match s.dec ds,IT ss cs with
  | some y,some ys=>some (y,ys)
  | _,_=>none
 | _,_=>none
def RS:(k:Ak)->TV->Option k.X
 | .v s,x=>decV s x
 | .p s,.aptr ds 0=>s.dec ds
 | .c g ss,.clo g' cs=>bif g==g' then IT ss cs else none
 | .u,.cur=>some ()
 | _,_=>none
def LG:(ss:List Ak)->List TV->Option (As ss)
 | [],[]=>some ()
 | s::ss,x::xs=>match RS s x,LG ss xs with
  | some y,some ys=>some (y,ys)
  | _,_=>none
 | _,_=>none
def HH:(rs:List Sh)->Ts rs->List (Bool×List FC)
 | [],_=>[]
 | s::ss,x=>(s.agg,s.fc x.1)::HH ss x.2
def mkR (rs:List Sh) (y:Ts rs):Res:=Vw (HH rs y)
structure Fct where
 as:List Ak
 rs:List Sh
 pre:As as->Prop
 fn:As as->Ts rs
def Fct.spec (S:Fct):D.Spec:=λA=>match A.bx,A.hp with
 | [],[]=>match LG S.as A.tm with
  | some x=>some (.df [S.pre x] (Ts S.rs) (S.fn x) λy=>⟨mkR S.rs y,[],[]⟩)
  | none=>none
 | _,_=>none
def Fct.arg (S:Fct) (x:As S.as):Arg:=⟨EH S.as x,[],[]⟩
def Fct.ctr (S:Fct) (x:As S.as):Ctr:=.det [] ⟨mkR S.rs (S.fn x),[],[]⟩
def Fct.ok (S:Fct) (P:Program) (f:Nat):Prop:=∀ x,S.pre x->Con P f (S.arg x) (S.ctr x).sat
def Z8 {w:World} {G:Gh} {s:Sh} {x:TV} {y:s.X} {v:Value} (h:decV s x=some y) (hx:TVR w G x v):TVR w G (Oe s y) v:=by
 unfold decV at h;split at h
 ·rename_i agg cs;cases ha:(agg==s.agg) with
  | false=>simp[ha] at h
  | true=>
   simp only[ha,Qd5] at h;split at h
   ·rename_i ds hd;obtain⟨l1,l2⟩:=HV (w:=w) (G:=G) cs ds hd;obtain⟨k1,k2⟩:=(Sh.dec_ok h).get;have hlen:((s.fc y).map (toCell none)).length=cs.length:=by rw[Qe9,<-k1,l1]
    have ha':agg=s.agg:=by simpa using ha
    unfold Oe;rw[<-ha'];refine Gf (cs:=cs) hlen (λj d hj=>?_) hx;rw[Qc3] at hj;cases hq:(s.fc y)[j]? with
    | none=>simp[hq] at hj
    | some fc=>
     simp only[hq,Qb9,Qa0] at hj;subst hj;have hlt:j<cs.length:=by rw[<-l1,k1];exact(List.getElem?_eq_some_iff.1 hq).1
     refine⟨_,Qa5 hlt,λu hu=>Gy ?_⟩;have ht:=l2 j _ u (Qa5 hlt) hu;have hle:=(k2 j).le;have hd':(s.fc y).getD j .nl=fc:=by simp[List.getD,hq]
     rw[hd'] at hle;exact TR.le hle ht
   ·cases h
 ·cases h
def UZ {w:World} {G:Gh} {s:Sh} {ds:List FC} {y:s.X} {r:Array Value} (h:s.dec ds=some y) (hr:OT w G ds r):OT w G (s.fc y) r:=by
 obtain⟨k1,k2⟩:=(Sh.dec_ok h).get;intro j c hc;have hlt:j<ds.length:=by rw[k1];exact(List.getElem?_eq_some_iff.1 hc).1
 obtain⟨u,hu,ht⟩:=hr j _ (Qa5 hlt);have hle:=(k2 j).le;have hd':(s.fc y).getD j .nl=c:=by simp[List.getD,hc]
 have hd2:ds.getD j .nl=ds[j]:=by simp[List.getD,Qa5 hlt]
 rw[hd',hd2] at hle;exact⟨u,hu,TR.le hle ht⟩
def VV {w:World} {G:Gh}:∀ {ss:List Sh} {cs:List Cap} {y:Ts ss},IT ss cs=some y->(ER ss y).length=cs.length/\∀ (j:Nat) (c:Cap),(ER ss y)[j]? = some c->∃ c',cs[j]? = some c'/\∀ v,WZ w G c' v->WZ w G c v:=by
 intro ss
 induction ss with
 | nil=>
  intro cs y h;cases cs with
  | nil=>simp[ER]
  | cons c cs=>cases c<;>simp[IT] at h
 | cons s ss ih=>
  intro cs y h;cases cs with
  | nil=>simp[IT] at h
  | cons c cs=>
   cases c with
   | ptr b=>simp[IT] at h
   | aptr ds=>
    simp only[IT] at h;split at h
    ·rename_i y1 ys h1 h2;simp only[Qa0] at h;subst h;obtain⟨k1,k2⟩:=ih h2;refine⟨by simp[ER,k1],λj c hj=>?_⟩;cases j with
     | zero=>
      simp only[ER,List.getElem?_cons_zero,Qa0] at hj;subst hj;exact⟨_,rfl,λv ⟨g,r,e,fr,q1,q2,q3,q4⟩=>⟨g,r,e,fr,q1,q2,q3,UZ h1 q4⟩⟩
     | succ j=>simpa [ER] using k2 j c (by simpa [ER] using hj)
    ·cases h
def TQ {w:World} {G:Gh} {k:Ak} {x:TV} {y:k.X} {v:Value} (h:RS k x=some y) (hx:TVR w G x v):TVR w G (Aca k y) v:=by
 cases k with
 | v s=>exact Z8 h hx
 | p s=>
  cases x<;>first|(simp[RS] at h;done)|skip
  rename_i ds off;cases off with
  | succ n=>simp[RS] at h
  | zero=>
   obtain⟨g,r,e,fr,q1,q2,q3,q4⟩:=hx;exact⟨g,r,e,fr,q1,q2,q3,UZ h q4⟩
 | c g ss=>
  cases x<;>first|(simp[RS] at h;done)|skip
  rename_i g' cs;simp only[RS] at h;cases hg:(g==g') with
  | false=>simp[hg] at h
  | true=>
   simp only[hg,Qd5] at h;have hg':g=g':=by simpa using hg
   subst hg';obtain⟨k1,k2⟩:=VV (w:=w) (G:=G) h;obtain⟨vs,rfl,hs,hc⟩:=hx;refine⟨vs,rfl,by rw[hs,k1],λj c hj=>?_⟩;grind
 | u=>
  cases x<;>first|(simp[RS] at h;done)|skip
  exact hx
def JA {w:World} {G:Gh}:∀ {ss:List Ak} {xs:List TV} {ys:As ss},LG ss xs=some ys->(EH ss ys).length=xs.length/\∀ (j:Nat) (y:TV),(EH ss ys)[j]? = some y->∃ x,xs[j]? = some x/\∀ v,TVR w G x v->TVR w G y v:=by
 intro ss
 induction ss with
 | nil=>
  intro xs ys h;cases xs with
  | nil=>simp[EH]
  | cons x xs=>simp[LG] at h
 | cons s ss ih=>
  intro xs ys h;cases xs with
  | nil=>simp[LG] at h
  | cons x xs=>
   simp only[LG] at h;split at h
   ·rename_i y ys' h1 h2;simp only[Qa0] at h;subst h;obtain⟨k1,k2⟩:=ih h2;refine⟨by simp[EH,k1],λj y' hj=>?_⟩;cases j with
    | zero=>simp only[EH,List.getElem?_cons_zero,Qa0] at hj;subst hj;exact⟨x,rfl,λv hv=>TQ h1 hv⟩
    | succ j=>simpa [EH] using k2 j y' (by simpa [EH] using hj)
   ·cases h
def Fct.spec_ok {S:Fct} {P:Program} {f:Nat} (h:S.ok P f):KN P f S.spec:=by
 intro A c hc hp;unfold Fct.spec at hc;split at hc
 ·rename_i hb hh;split at hc
  ·rename_i x hx;simp only[Qa0] at hc;subst hc;have hpre:S.pre x:=hp _ (Qe0 _);intro w vs G hB hA;refine(h x hpre w vs G hB ⟨?_,?_,by simp[Fct.arg,look],by simp[Fct.arg,look],hA.lt,hA.cr⟩).mono ?_
   ·rw[hA.sz];exact(JA (w:=w) (G:=G) hx).1.symm
   ·intro j y hj;obtain⟨x',hx',hr⟩:=(JA (w:=w) (G:=G) hx).2 j y hj;obtain⟨v,hv,ht⟩:=hA.tm j x' hx';simp_all
   ·rintro e w' ⟨v,p,hs,hrest⟩;exact⟨v,p,hs,hrest⟩
  ·cases hc
 ·cases hc
abbrev vi (n:Int):FC:=.val (.int .i64 n)
abbrev vb (b:Bool):FC:=.val (.bool b)
abbrev vs (s:ByteArray):FC:=.val (.string s)
def AdB (g:D.Spec):Option (List Md×D.Spec)->D.Spec
 | some ([],g0)=>λA=>match g A with
  | some c=>some c
  | none=>g0 A
 | _=>g
def Env.add (E:Env) (f:Nat) (S:Fct):Env:=E.ext f [] (AdB S.spec (E.fn f))
def EOk.add {P:Program} {E:Env} (h:EOk P E) {f:Nat} {S:Fct} (hS:S.ok P f):EOk P (E.add f S):=by
 refine h.ext ?_ (λhn=>by cases hn);have hS':=Fct.spec_ok hS;refine(?_:KN P f _);unfold AdB;split
 ·rename_i g0 hg0;intro A c hc;dsimp only at hc;split at hc
  ·rename_i c' hc';simp only[Qa0] at hc;subst hc;exact hS' A c' hc'
  ·exact(h f [] g0 hg0).1 A c hc
 ·exact hS'
structure HoldsE (e:Out) (Q:Post):Prop where
 h:e.holds Q
def Fct.of {S:Fct} {P:Program} {E:Env} {L:As S.as->Wk} {kp:List Nat} {f:Nat} {fn:Func} (hE:EOk P E) (hf:P.funcs[f]? = some fn) (hb:fn.body.isSome=true) (hn:decide (S.as.length<=fn.ntmps)=true)
 (hh:∀ x,S.pre x->HoldsE (Gl P E (L x) kp [] fn (S.arg x)) (S.ctr x).post):S.ok P f:=by
 intro x hx;refine IL hE hf hb ?_ (hh x hx).h;have hl:∀ (ss:List Ak) (x:As ss),(EH ss x).length=ss.length:=by
  intro ss
  induction ss with
  | nil=>intro _;rfl
  | cons s ss ih=>intro x;simp[EH,ih]
 have:(S.arg x).tm.length=S.as.length:=hl _ _;rw[this];exact hn
def Sl (c:FC):Rp c c:=by
 cases c with
 | val u=>rfl
 | nl=>trivial
 | l t xs=>simp[Rp]
def F8:∀ cs:List FC,Kn cs cs
 | []=>trivial
 | c::cs=>⟨Sl c,F8 cs⟩
def MI:∀ ps:List (Bool×List FC),TX ps ps
 | []=>trivial
 | p::ps=>⟨⟨rfl,F8 _⟩,MI ps⟩
def Fj:∀ r:Res,Kk r r
 | .one _ cs=>⟨rfl,F8 cs⟩
 | .tup ps=>MI ps
def Fct.leafY {S:Fct} {x:As S.as} {y:Ts S.rs} (h:y=S.fn x):(Out.leaf (mkR S.rs y) [] []).holds (S.ctr x).post:=by
 subst h;exact⟨Fj _,trivial,rfl⟩
def Fct.leafR {S:Fct} {x:As S.as} {r:Res} (h:Kk r (mkR S.rs (S.fn x))):(Out.leaf r [] []).holds (S.ctr x).post:=⟨h,trivial,rfl⟩
def Fct.leafZ {S:Fct} {x:As S.as} {r:Res} (y:Ts S.rs) (h1:Kk r (mkR S.rs y)) (h:y=S.fn x):(Out.leaf r [] []).holds (S.ctr x).post:=Fct.leafR (h▸h1)
def Aa {Q:Post} {p:Prop} {x:Out} (hp:p) (hx:p->x.holds Q):(Out.ob p x).holds Q:=⟨hp,hx hp⟩
def Ab {Q:Post} {b:Bool} {x y:Out} (hx:b=true->x.holds Q) (hy:b=false->y.holds Q):(Out.br b x y).holds Q:=⟨hx,hy⟩
def JB {Q:Post} {X:Type} {p:Prop} {inv:X->Prop} {x:X->Out} (hp:p) (hx:∀ y,inv y->(x y).holds Q):(Out.lp X p inv x).holds Q:=⟨hp,hx⟩
def DU {Q:Post} {X:Type} {e:X} {x:X->Out} (hx:(x e).holds Q):(Out.lt X e x).holds Q:=hx
def Ahv {Q:Post} {X:Type} {e:X} {x:X->Out} (hx:∀ y,y=e->(x y).holds Q):(Out.lt X e x).holds Q:=hx e rfl
def Ai {Q:Post} {li:LInv} {x0:Xs li.ps} {f:Xs li.ps->(Xs li.ps->Prop)->Out} (hp:li.inv x0 x0) (hx:∀ y,li.inv x0 y->(f y λx'=>li.inv x0 x'/\li.m x'<li.m y).holds Q):(lpx li x0 f).holds Q:=⟨hp,hx⟩
def Out.cl (S:Fct) (x:As S.as) (k:Ts S.rs->Out):Out:=.ob (S.pre x) (.lt (Ts S.rs) (S.fn x) k)
def Ae {Q:Post} {S:Fct} {x:As S.as} {k:Ts S.rs->Out} (hp:S.pre x) (hx:S.pre x->(k (S.fn x)).holds Q):(Out.cl S x k).holds Q:=⟨hp,hx hp⟩
def DP {Q:Post} {S:Fct} {x:As S.as} {k:Ts S.rs->Out} (hp:S.pre x) (hx:S.pre x->∀ y,y=S.fn x->(k y).holds Q):(Out.cl S x k).holds Q:=⟨hp,hx hp _ rfl⟩
def Out.lf (S:Fct) (y:Ts S.rs):Out:=.leaf (mkR S.rs y) [] []
def lfY {S:Fct} {x:As S.as} {y:Ts S.rs} (h:y=S.fn x):(Out.lf S y).holds (S.ctr x).post:=Fct.leafY h
def wr (x:Int):Int:=IntKind.i64.wrap x
def w1 (x:Int):Int:=IntKind.i64.wrap (x+1)
def inB (i:Int) (n:Nat):Prop:=0<=i/\i<n
def ho {e:Out} {Q:Post} (X:Out) (hX:X.holds Q) (h:e=X:=by kernel_rfl):HoldsE e Q:=⟨h▸hX⟩
def Fct.o {S:Fct} {P:Program} {E:Env} {f:Nat} {fn:Func} (kp:List Nat) (hE:EOk P E) (hf:P.funcs[f]? = some fn)
 (hh:∀ x,S.pre x->HoldsE (Gl P E (λ_=>none) kp [] fn (S.arg x)) (S.ctr x).post) (hc:(fn.body.isSome&&decide (S.as.length<=fn.ntmps))=true:=by kernel_rfl):S.ok P f:=by
 rw[Qa2] at hc;exact Fct.of (L:=λ_ _=>none) hE hf hc.1 hc.2 hh
end Go.D
namespace Go.D
open Go.RowKit Go.ChangeShapes Go.WideShapes
def F2:Nat->FC->Prop
 | _,.val (.int k n)=>(Lit.int k n).wf=true
 | _,.val (.string s)=>s.size<=maxLen
 | 0,.l _ xs=>xs.length<=maxLen
 | d+1,.l t xs=>xs.length<=maxLen/\∀ x∈xs,∀ c∈enc t x,F2 d c
 | _,_=>True
def good (t:Ty) (x:El t):Prop:=∀ c∈enc t x,F2 8 c
def Sh.good (s:Sh) (x:s.X):Prop:=∀ c∈s.fc x,F2 8 c
abbrev Ls (ss:List Sh):List Ak:=ss.map .v
def AeG:(ss:List Sh)->As (Ls ss)->Prop
 | [],_=>True
 | s::ss,x=>s.good x.1/\AeG ss x.2
def VK:∀ (d:Nat) (c:FC),F2 (d+1) c->F2 d c:=by
 intro d
 induction d with
 | zero=>
  intro c h;cases c with
  | val v=>cases v<;>exact h
  | nl=>trivial
  | l t xs=>exact h.1
 | succ d ih=>
  intro c h;cases c with
  | val v=>cases v<;>exact h
  | nl=>trivial
  | l t xs=>exact⟨h.1,λx hx c hc=>ih c (h.2 x hx c hc)⟩
def AcZ {d e:Nat} (hde:d<=e) {c:FC} (h:F2 e c):F2 d c:=by
 induction e with
 | zero=>
  simp_all
 | succ e ih=>
  by_cases hd:d=e+1
  ·subst hd;exact h
  ·exact ih o_ (VK e c h)
def Jf (P:Program) (r:TypeId->Option (List Shp)):List Field->Nat->Option (List Shp)
 | [],_=>some []
 | f::fs,off=>match r f.type,Jf P r fs (off+P.cellsOf f.type) with
  | some s,some s'=>bif f.offset==off&&s.length==P.cellsOf f.type then some (s++s') else none
  | _,_=>none
def shapeOf (P:Program) (ty:TypeId->Option Ty):Nat->TypeId->Option (List Shp)
 | 0,_=>none
 | d+1,T=>match P.underlying T with
  | some .bool=>some [.kb]
  | some (.int .i64)=>some [.ki]
  | some (.int .u8)=>some [.ku]
  | some .string=>some [.ks]
  | some (.slice e)=>match ty e with
   | some t=>some [.kl t]
   | none=>none
  | some (.struct fs)=>match Jf P (shapeOf P ty d) fs.toList 0 with
   | some s=>bif s.length==P.cellsOf T then some s else none
   | none=>none
  | _=>none
def MM:List Shp->List Shp->Bool
 | [],[]=>true
 | a::as,b::bs=>decide (a=b)&&MM as bs
 | _,_=>false
def AnE (P:Program) (ty:TypeId->Option Ty) (l:List TypeId):Bool :=
 l.all λe=>match ty e with
  | some t=>(match shapeOf P ty 20 e with
   | some s=>MM s t.shapes
   | none=>false)&&P.cellsOf e==t.width
  | none=>false
def Qr:∀ {a b:List Shp},MM a b=true->a=b:=by
 intro a
 induction a with
 | nil=>intro b h;cases b<;>simp_all [MM]
 | cons x a ih=>intro b h;cases b with
  | nil=>simp[MM] at h
  | cons y b=>simp only[MM,Qa2,Qa9] at h;rw[h.1,ih h.2]
def Tg {α:Type} [Inhabited α] {p:Nat->α->Prop}:∀ {n:Nat},(∀ i,i<n->∃ y,p i y)->∃ l:List α,l.length=n/\∀ i,i<n->p i (l.getD i default):=by
 intro n
 induction n with
 | zero=>intro _;exact⟨[],rfl,λi h=>o_⟩
 | succ n ih=>
  intro h;obtain⟨l,h1,h2⟩:=ih λi hi=>h i o_
  obtain⟨y,hy⟩:=h n o_;refine⟨l++[y],by simp[h1],λi hi=>?_⟩;grind
section
variable {H:Type} {enc':TypeId×Value->H} {P:Program} {w:World} {ty:TypeId->Option Ty} {spare:Nat->Bool} {held:Bool}
def inW (w:World):Nat->Prop:=λg=>g<w.heap.size
def Told (w:World) (cs:List Value) (sh:List Shp):Prop:=∃ fs:List FC,fs.length=cs.length/\fs.map FC.shp=sh/\(∀ (j:Nat) (c:FC) (u:Value),fs[j]? = some c->cs[j]? = some u->TR w (inW w) (fcC c) u)/\∀ c∈fs,F2 8 c
def Lk {u:Value} {S:Nat->Prop} (h:plain u=true):TR w S (.val u) u:=⟨rfl,h⟩
def H2 {c:FC} {u:Value} (h:TR w (inW w) (fcC c) u) (hg:F2 8 c):Told w [u] [c.shp]:=by
 refine⟨[c],rfl,rfl,λj c' u' hc hu=>?_,λc' hc=>by simp at hc;subst hc;exact hg⟩;grind
def YY {a:Addr} {n:Nat} {cs:List Value} (h:w.cells? 0 a n=some cs):cs.length=n/\∀ j,j<n->w.cell? (a.add j)=cs[j]?:=by
 unfold World.cells? at h;rw[Qa1 (Nat.zero_le _)] at h;refine⟨by simpa using mapM_some_length h,λj hj=>?_⟩;exact mapM_some_get h j j (by simp[hj])
def AeE {a:Addr} {u:Value} (h:w.cell? a=some u):∃ g o row e fr,a=⟨g,o,none⟩/\w.heap[g]? = some (.cells row e fr)/\row[o]? = some u:=by
 unfold World.cell? at h;split at h
 ·rename_i c t fr hb;split at h
  ·cases h
  ·rename_i hs;obtain⟨g,o,sp⟩:=a;simp only[Option.isSome_iff_ne_none,ne_eq,Decidable.not_not] at hs;grind
 ·cases h
def YN (c:FC) (h:F2 8 c) (d:Nat) (hd:d<=8):F2 d c:=AcZ hd h
def Iy {t:Ty} {x:El t} {c:FC} (hc:c∈enc t x):c.rank<=t.rank:=by
 have:=Ux t x;simp_all
def Ada:∀ (d:Nat) (c:FC),c.rank<=d->F2 d c->F2 (d+1) c:=by
 intro d
 induction d with
 | zero=>
  intro c hr h;cases c with
  | val v=>cases v<;>exact h
  | nl=>trivial
  | l t xs=>simp[FC.rank] at hr
 | succ d ih=>
  intro c hr h;cases c with
  | val v=>cases v<;>exact h
  | nl=>trivial
  | l t xs=>
   simp only[FC.rank] at hr;exact⟨h.1,λx hx c hc=>ih c (by have:=Iy hc;omega) (h.2 x hx c hc)⟩
def ZK (hty:∀ e t,ty e=some t->shapeOf P ty 20 e=some t.shapes/\P.cellsOf e=t.width):∀ (fuel:Nat) (T:TypeId) (cs:List Value) (x:DataW H×List MemPlace) (d:Nat) (sh:List Shp),
 DataW.trod enc' P w 0 spare held fuel T cs=some x->shapeOf P ty d T=some sh->Told w cs sh:=by
 intro fuel
 induction fuel with
 | zero=>intro T cs x d sh h;simp[DataW.trod] at h
 | succ n ih=>
  intro T cs x d sh h hs;cases d with
  | zero=>simp[shapeOf] at hs
  | succ d=>
   unfold shapeOf at hs;split at hs
   ·rename_i hu;simp only[Qa0] at hs;subst hs;obtain⟨b,rfl,_⟩:=DataW.trod_bool hu h;exact H2 (c:=.val (.bool b)) (Lk rfl) trivial
   ·rename_i hu;simp only[Qa0] at hs;subst hs;obtain⟨m,rfl,_,hw⟩:=DataW.trod_int hu h;exact H2 (c:=.val (.int .i64 m)) (Lk rfl) hw
   ·rename_i hu;simp only[Qa0] at hs;subst hs;obtain⟨m,rfl,_,hw⟩:=DataW.trod_int hu h;exact H2 (c:=.val (.int .u8 m)) (Lk rfl) hw
   ·rename_i hu;simp only[Qa0] at hs;subst hs;obtain⟨s,rfl,_,hw⟩:=DataW.trod_string hu h;exact H2 (c:=.val (.string s)) (Lk rfl) hw
   ·rename_i e hu;split at hs
    ·rename_i t ht;simp only[Qa0] at hs;subst hs;obtain⟨hsh,hcw⟩:=hty e t ht;rcases DataW.trod_slice hu h with⟨rfl,_⟩|⟨a,len,cap,elems,rest,n',hn,rfl,_,_,hlc,hcm,hlen,hel,_,_⟩
     ·refine H2 (c:=.l t []) ?_ ⟨Nat.zero_le _,by simp⟩;rw[EW];exact⟨none,0,rfl,Qa7 _,.inl rfl⟩
     ·have hn':n=n':=o_
      subst hn';have each:∀ i,i<len->∃ y:El t,(∀ j,j<t.width->∃ u,w.cell? ((a.add (i*t.width)).add j)=some u/\TR w (inW w) (fcC ((D.enc t y).getD j .nl)) u)/\∀ c∈D.enc t y,F2 8 c:=by
       intro i hi;have h1:=hel i hi;rw[hcw] at h1;have hlt:i<elems.length:=o_
       rw[Qa5 hlt,Option.bind_eq_some_iff] at h1;obtain⟨cs',hcs,htr⟩:=h1;obtain⟨fs,f1,f2,f3,f4⟩:=ih e cs' _ 20 t.shapes htr hsh;obtain⟨y,rfl⟩:=QK t fs f2;obtain⟨c1,c2⟩:=YY hcs;refine⟨y,λj hj=>?_,f4⟩;have hj':j<cs'.length:=o_
       refine⟨cs'[j],by rw[c2 j hj];simp[hj'],?_⟩;have hje:j<(D.enc t y).length:=by rw[LO];exact hj
       rw[Qb2,Qa5 hje,Option.getD_some];exact f3 j _ _ (Qa5 hje) (Qa5 hj')
      obtain⟨xs,x1,x2⟩:=Tg each;refine H2 (c:=.l t xs) ?_ ⟨o_,λy hy c hc=>?_⟩
      ·rw[EW,x1];refine⟨some a,cap,rfl,hlc,?_⟩;by_cases h0:len=0
       ·exact .inl h0
       ·right;obtain⟨u,hu1,_⟩:=(x2 0 o_).1 0 (FU t);have ha:(a.add (0*t.width)).add 0=a:=by simp[Addr.add]
        rw[ha] at hu1;obtain⟨g,o,row,te,fr,rfl,hg,_⟩:=AeE hu1;refine⟨g,o,row,te,fr,rfl,(Array.getElem?_eq_some_iff.1 hg).1,hg,λi hi j hj=>?_⟩;obtain⟨u,hu1,hu2⟩:=(x2 i hi).1 j hj;rw[F4,F4] at hu1;refine⟨u,?_,?_⟩
        ·unfold World.cell? at hu1;rw[hg] at hu1;simpa using hu1
        ·simpa [cell] using hu2
      ·obtain⟨i,hi⟩:=List.mem_iff_getElem?.1 hy;have hilt:i<len:=by rw[<-x1];exact(List.getElem?_eq_some_iff.1 hi).1
       have:=(x2 i hilt).2;have hxi:xs.getD i default=y:=by simp[List.getD,hi]
       rw[hxi] at this;exact YN c (this c hc) 7 o_
    ·cases hs
   ·rename_i fs hu;split at hs
    ·rename_i s hsf;cases hl:(s.length==P.cellsOf T) with
     | false=>simp[hl] at hs
     | true=>
      simp only[hl,Qd5,Qa0] at hs;subst hs;obtain⟨xs,n',hn,_,hcl,hxl,hfld⟩:=DataW.trod_struct hu h;have hn':n=n':=o_
      subst hn';have key:∀ (l:List Field) (i0 off:Nat) (s:List Shp),(∀ (i:Nat) (f:Field),l[i]? = some f->fs[i0+i]? = some f)->Jf P (shapeOf P ty d) l off=some s->off+s.length<=cs.length->Told w ((cs.drop off).take s.length) s:=by
       intro l
       induction l with
       | nil=>
        intro i0 off s _ hs _;simp only[Jf,Qa0] at hs;subst hs;exact⟨[],by simp,rfl,by simp,by simp⟩
       | cons f l ihl=>
        intro i0 off s hget hs hoff;simp only[Jf] at hs;split at hs
        ·rename_i s1 s2 h1 h2;cases hc:(f.offset==off&&s1.length==P.cellsOf f.type) with
         | false=>simp[hc] at hs
         | true=>
          simp only[hc,Qd5,Qa0] at hs;subst hs;simp only[Qa2,Qf7] at hc;obtain⟨ho,hsz⟩:=hc;have hf:=hfld i0 f (by simpa using hget 0 f rfl);have hi0:i0<xs.length:=by rw[hxl];exact(Array.getElem?_eq_some_iff.1 (by simpa using hget 0 f rfl)).1
          rw[Qa5 hi0,ho,<-hsz] at hf;obtain⟨fa,a1,a2,a3,a4⟩:=ih f.type _ _ d s1 hf h1;simp only[Qa4] at hoff;obtain⟨fb,b1,b2,b3,b4⟩:=ihl (i0+1) (off+P.cellsOf f.type) s2 (λi f' hi=>by
           have:=hget (i+1) f' (by simpa using hi)
           rwa [show i0+(i+1)=i0+1+i from o_] at this) h2 o_
          rw[<-hsz] at b1 b3;have hsplit:(cs.drop off).take (s1++s2).length=(cs.drop off).take s1.length++(cs.drop (off+s1.length)).take s2.length:=by rw[Qa4,List.take_add,List.drop_drop]
          rw[hsplit];refine⟨fa++fb,by simp only[Qa4,a1,b1],by rw[List.map_append,a2,b2],λj c u hc hu=>?_,λc hc=>?_⟩
          ·by_cases hj:j<fa.length
           ·rw[Qb5 hj] at hc;rw[Qb5 (by rw[<-a1];exact hj)] at hu;exact a3 j c u hc hu
           ·rw[Qb6 o_] at hc;rw[Qb6 (by rw[<-a1];omega),<-a1] at hu;exact b3 _ c u hc hu
          ·rcases Qb8.1 hc with hc|hc
           ·exact a4 c hc
           ·exact b4 c hc
        ·cases hs
      have hlen:s.length=cs.length:=by rw[hcl];simpa using hl
      have:=key fs.toList 0 0 s (λi f hi=>by simpa using hi) hsf o_;rw[hlen] at this;simpa using this
    ·cases hs
   ·cases hs
end
end Go.D
namespace Go.D
open Go.RowKit Go.ChangeShapes Go.WideShapes
def Sh.shapes:Sh->List Shp
 | .el t=>t.shapes
 | .sl t=>[.kl t]
def Sh.of_shape {s:Sh} {fs:List FC} (h:fs.map FC.shp=s.shapes):∃ x:s.X,fs=s.fc x:=by
 cases s with
 | el t=>exact QK t fs h
 | sl t=>
  obtain⟨a,g,rfl,h2⟩:=sL h;obtain rfl:=sE h2;exact⟨a,rfl⟩
def AgW (as:List Sh):Fct:=⟨Ls as,[.el .bool],λx=>AeG as x,λ_=>(true,())⟩
def Ns (P:Program) (ty:TypeId->Option Ty):List TypeId->List Sh->Bool
 | [],[]=>true
 | T::ts,s::ss=>(match shapeOf P ty 20 T with
  | some sh=>MM sh s.shapes
  | none=>false)&&(Fo.aggOf P T==s.agg)&&(match P.underlying T with
  | some .bool=>true
  | some (.int _)=>true
  | some .string=>true
  | some (.slice _)=>true
  | some (.struct _)=>true
  | _=>false)&&Ns P ty ts ss
 | _,_=>false
section
variable {H:Type} {enc':TypeId×Value->H} {P:Program} {w W W':World} {ty:TypeId->Option Ty} {spare:Nat->Bool} {held:Bool} {base:Nat}
def OY {T:TypeId} {cs:Array Value} {d:TypeDesc} (hu:P.underlying T=some d) (hd:d=.bool\/(∃ k,d=.int k)\/d=.string\/∃ e,d=.slice e) (h:Value.okWide P w .any base T (.agg cs)):False:=by
 unfold Value.okWide at h;rw[hu] at h;rcases hd with rfl|⟨k,rfl⟩|rfl|⟨e,rfl⟩<;>simp only[Cell.okWide,hu,Cell.ok] at h
def Ab1 (hty:∀ e t,ty e=some t->shapeOf P ty 20 e=some t.shapes/\P.cellsOf e=t.width) {T:TypeId} {s:Sh} {v:Value} {d:DataW H} {p:List MemPlace} (h:DataW.Trod enc' P w 0 spare held T v d p) (hv:Value.okWide P w .any base T v)
 (hp:Ns P ty [T] [s]=true):∃ x:s.X,s.good x/\∀ G:Gh,(∀ g,g<w.heap.size->G.ow g=.free)->TVR w G (Oe s x) v:=by
 simp only[Ns,Qa2,Qf7,Qe8] at hp;obtain⟨⟨hsh,hag⟩,hkind⟩:=hp;split at hsh
 ·rename_i sh hs;have hse:=Qr hsh;subst hse;obtain⟨fuel,htr⟩:=h;obtain⟨fs,f1,f2,f3,f4⟩:=ZK hty fuel T _ _ 20 _ htr hs;obtain⟨x,rfl⟩:=Sh.of_shape f2;refine⟨x,f4,λG hG=>?_⟩;have tr:∀ (j:Nat) (c:FC) (u:Value),(s.fc x)[j]? = some c->v.cells.toList[j]? = some u->CellR w G (toCell none c) u:=λj c u hc hu=>
   Gy ((f3 j c u hc hu).frame λg hg _=>⟨rfl,hG g hg⟩)
  have cells:BJ w G ((s.fc x).map (toCell none)) v.cells:=by
   refine⟨by rw[Qe9,f1,Qc8],λj c hj=>?_⟩;rw[Qc3] at hj;cases hq:(s.fc x)[j]? with
   | none=>simp[hq] at hj
   | some fc=>
    simp only[hq,Qb9,Qa0] at hj;subst hj;have hlt:j<v.cells.size:=by have:=(List.getElem?_eq_some_iff.1 hq).1;rw[f1,Qc8] at this;exact this
    exact⟨v.cells[j],by simp[hlt],tr j fc _ hq (by simp[hlt])⟩
  unfold Oe;rw[<-hag];split at hkind
  ·rename_i hu;have h0:Fo.aggOf P T=false:=by simp[Fo.aggOf,hu]
   rw[h0];have hna:∀ cs,v≠.agg cs:=λcs e=>OY hu (.inl rfl) (e▸hv)
   have hvc:v.cells = #[v]:=by cases v<;>first|rfl|exact absurd rfl (hna _)
   obtain⟨c,hc⟩:=Qe2.1 (show((s.fc x).map (toCell none)).length=1 by rw[<-cells.1,hvc];rfl);obtain⟨u,hu1,hu2⟩:=cells.2 0 c (by rw[hc];rfl);rw[hvc] at hu1;simp only[List.getElem?_toArray,List.getElem?_cons_zero,Qa0] at hu1;subst hu1;exact⟨c,hc,hu2⟩
  ·rename_i k hu;have h0:Fo.aggOf P T=false:=by simp[Fo.aggOf,hu]
   rw[h0];have hna:∀ cs,v≠.agg cs:=λcs e=>OY hu (.inr (.inl ⟨k,rfl⟩)) (e▸hv)
   have hvc:v.cells = #[v]:=by cases v<;>first|rfl|exact absurd rfl (hna _)
   obtain⟨c,hc⟩:=Qe2.1 (show((s.fc x).map (toCell none)).length=1 by rw[<-cells.1,hvc];rfl);obtain⟨u,hu1,hu2⟩:=cells.2 0 c (by rw[hc];rfl);rw[hvc] at hu1;simp only[List.getElem?_toArray,List.getElem?_cons_zero,Qa0] at hu1;subst hu1;exact⟨c,hc,hu2⟩
  ·rename_i hu;have h0:Fo.aggOf P T=false:=by simp[Fo.aggOf,hu]
   rw[h0];have hna:∀ cs,v≠.agg cs:=λcs e=>OY hu (.inr (.inr (.inl rfl))) (e▸hv)
   have hvc:v.cells = #[v]:=by cases v<;>first|rfl|exact absurd rfl (hna _)
   obtain⟨c,hc⟩:=Qe2.1 (show((s.fc x).map (toCell none)).length=1 by rw[<-cells.1,hvc];rfl);obtain⟨u,hu1,hu2⟩:=cells.2 0 c (by rw[hc];rfl);rw[hvc] at hu1;simp only[List.getElem?_toArray,List.getElem?_cons_zero,Qa0] at hu1;subst hu1;exact⟨c,hc,hu2⟩
  ·rename_i e hu;have h0:Fo.aggOf P T=false:=by simp[Fo.aggOf,hu]
   rw[h0];have hna:∀ cs,v≠.agg cs:=λcs e'=>OY hu (.inr (.inr (.inr ⟨e,rfl⟩))) (e'▸hv)
   have hvc:v.cells = #[v]:=by cases v<;>first|rfl|exact absurd rfl (hna _)
   obtain⟨c,hc⟩:=Qe2.1 (show((s.fc x).map (toCell none)).length=1 by rw[<-cells.1,hvc];rfl);obtain⟨u,hu1,hu2⟩:=cells.2 0 c (by rw[hc];rfl);rw[hvc] at hu1;simp only[List.getElem?_toArray,List.getElem?_cons_zero,Qa0] at hu1;subst hu1;exact⟨c,hc,hu2⟩
  ·rename_i fs hu;have h0:Fo.aggOf P T=true:=by simp[Fo.aggOf,hu]
   rw[h0];unfold Value.okWide at hv;rw[hu] at hv;obtain⟨cs,rfl,_⟩:=hv;exact⟨cs,rfl,cells⟩
  ·cases hkind
 ·cases hsh
def YA (hty:∀ e t,ty e=some t->shapeOf P ty 20 e=some t.shapes/\P.cellsOf e=t.width):∀ (ts:List TypeId) (ss:List Sh) (vs:List Value) (ds:List (DataW H)) (ps:List MemPlace),Ns P ty ts ss=true->DataW.TrodAll enc' P w 0 spare held ts vs ds ps ->
 (∀ (j:Nat) t v,ts[j]? = some t->vs[j]? = some v->Value.okWide P w .any base t v)->∃ x:As (Ls ss),AeG ss x/\∀ G:Gh,(∀ g,g<w.heap.size->G.ow g=.free)->(EH (Ls ss) x).length=vs.length/\∀ (j:Nat) (y:TV),(EH (Ls ss) x)[j]? = some y->∃ v,vs[j]? = some v/\TVR w G y v:=by
 intro ts
 induction ts with
 | nil=>
  intro ss vs ds ps hp h _;cases ss with
  | nil=>obtain⟨rfl,_,_⟩:=trodAll_nil h;exact⟨(),trivial,λG _=>⟨rfl,λj y hj=>by cases hj⟩⟩
  | cons s ss=>simp[Ns] at hp
 | cons T ts ih=>
  intro ss vs ds ps hp h hv;cases ss with
  | nil=>simp[Ns] at hp
  | cons s ss=>
   obtain⟨v,vs',d,ds',p,q,rfl,rfl,rfl,h1,h2⟩:=trodAll_cons h;have hp1:Ns P ty [T] [s]=true/\Ns P ty ts ss=true:=by simp only[Ns,Qa2,Qe8] at hp ⊢;exact hp
   obtain⟨x,g1,x1⟩:=Ab1 (base:=base) hty h1 (hv 0 T v rfl rfl) hp1.1;obtain⟨xs,g2,x2⟩:=ih ss vs' ds' q hp1.2 h2 (λj t v ht hv'=>hv (j+1) t v (by simpa using ht) (by simpa using hv'));refine⟨(x,xs),⟨g1,g2⟩,λG hG=>?_⟩;obtain⟨l1,l2⟩:=x2 G hG;refine⟨congrArg (· + 1) l1,λj y hj=>?_⟩;cases j with
   | zero=>have hj':some (Oe s x)=some y:=hj;injection hj' with hj';subst hj';exact⟨v,rfl,x1 G hG⟩
   | succ j=>simpa using l2 j y hj
def O3 (hl:laidOutB P=true) (hb:Below W.heap.size W W'):∀ (ts:List TypeId) (vs:List Value) (ds:List (DataW H)) (ps:List MemPlace),(∀ t∈ts,P.readableRec t=true/\t<P.types.size) ->
 (∀ x∈ps,x.block<W.heap.size)->DataW.TrodAll enc' P W 0 (λ_=>true) true ts vs ds ps->DataW.TrodAll enc' P W' 0 (λb=>decide (b<W.heap.size)) true ts vs ds ps:=by
 intro ts
 induction ts with
 | nil=>intro vs ds ps _ _ h;obtain⟨rfl,rfl,rfl⟩:=trodAll_nil h;exact trodAll_mk0
 | cons t ts ih=>
  intro vs ds ps ht hlt h;obtain⟨v,vs',d,ds',p,q,rfl,rfl,rfl,h1,h2⟩:=trodAll_cons h;obtain⟨hr,hrow⟩:=ht t (by simp);exact trodAll_cons_mk (Below.trod hl hr hrow h1 hb (λx hx=>hlt x (by simp[hx]))) (ih vs' ds' q (λt' h'=>ht t' (by simp[h'])) (λx hx=>hlt x (by simp[hx])) h2)
def SS {ts:List TypeId} {vs:List Value} {ds:List (DataW H)} {ps:List MemPlace} {spare:Nat->Bool} {base:Nat} {held:Bool} (h:DataW.TrodAll enc' P w base spare held ts vs ds ps):ds.length=ts.length:=by
 induction ts generalizing vs ds ps with
 | nil=>obtain⟨rfl,rfl,rfl⟩:=trodAll_nil h;rfl
 | cons t ts ih=>obtain⟨v,vs',d,ds',p,q,rfl,rfl,rfl,h1,h2⟩:=trodAll_cons h;simp[ih h2]
def AaW {f:Func} {s:ChangeSpec} {T:TypeId} {args:Array Value} {ds gs:List (DataW H)} {before:List MemPlace} (hl:laidOutB P=true) (hts:∀ t∈f.params.toList,P.readableRec t=true/\t<P.types.size)
 (hres:f.resultTypes = #[T]) (hT:P.underlying T=some .bool) (hv:s.vars=[]) (hW:DataW.Whole enc' P f.params.toList s.vars false W args.toList ds gs before)
 (hfn:∀ xs:List (DataW H),xs.length=f.params.toList.length->s.fn H xs={ results:=[.lit (.bool true)],args:=xs }) (hb:Below W.heap.size W W') :
 s.post enc' P f false true false false W args (.bool true) W':=by
 have hW':=hW;have hlt:=hW.lt;obtain⟨p,q,hA,hV,rfl,_,_⟩:=hW;rw[hv] at hV;obtain⟨rfl,rfl⟩:=trodVars_none hV;have hlen:=SS hA;have hf:=hfn (ds++[]) (by simpa using hlen);refine⟨ds,[],_,[],p,[],hW',?_,?_,?_,hb.frame _,by simp⟩
 ·rw[hf,hres];exact trodAll_cons_mk (shut_bool hT true) trodAll_mk0
 ·rw[hf];simpa using O3 hl hb _ _ _ _ hts (λx hx=>hlt x (by simp[hx])) hA
 ·rw[hf,hv];rfl
def AfP (P:Program) (f:Func) (ty:TypeId->Option Ty) (tl:List TypeId) (as:List Sh):Bool :=
 laidOutB P&&f.params.toList.all (λt=>P.readableRec t&&decide (t<P.types.size))&&Ns P ty f.params.toList as&&AnE P ty tl
def X2 {g:Nat} {f:Func} {s:ChangeSpec} {T:TypeId} {args:Array Value} {ds gs:List (DataW H)} {before:List MemPlace} {as:List Sh} {tl:List TypeId} (hk:AfP P f ty tl as=true) (htl:∀ e t,ty e=some t->e∈tl)
 (hres:f.resultTypes = #[T]) (hT:P.underlying T=some .bool) (hv:s.vars=[]) (hW:DataW.Whole enc' P f.params.toList s.vars false W args.toList ds gs before)
 (hfn:∀ xs:List (DataW H),xs.length=f.params.toList.length->s.fn H xs={ results:=[.lit (.bool true)],args:=xs })
 (hok:∀ (j:Nat) t v,f.params[j]? = some t->args[j]? = some v->Value.okWide P W .any base t v)
 (hsh:W.ShapedOpen P) (hld:Laid P W) (hc:(AgW as).ok P g):Calls P g args W λe W'=>∃ v,e=.returned v/\s.post enc' P f false true false false W args v W':=by
 unfold AfP at hk;simp only[Qa2,Qc5,Qa9] at hk;obtain⟨⟨⟨k1,k2⟩,k3⟩,k4⟩:=hk;have hty:∀ e t,ty e=some t->shapeOf P ty 20 e=some t.shapes/\P.cellsOf e=t.width:=by
  intro e t he;unfold AnE at k4;rw[Qc5] at k4;have:=k4 e (htl e t he);rw[he] at this;simp only[Qa2,Qf7] at this;obtain⟨h1,h2⟩:=this;split at h1
  ·rename_i s hs;exact⟨by rw[hs,Qr h1],h2⟩
  ·cases h1
 have hW0:=hW;obtain⟨p,q,hA,_⟩:=hW0;obtain⟨x,g1,x1⟩:=YA (base:=base) hty _ as _ _ _ k3 hA (λj t v ht hv'=>hok j t v (by simpa using ht) (by simpa using hv'))
 let G:Gh:={ ow:=λg=>if g<W.heap.size then .free else .gone,be:=λ_=>0,hv:=λ_=>.slice none 0 0 }
 obtain⟨l1,l2⟩:=x1 G (λg hg=>by simp[G,hg]);refine(hc x g1 W args G ⟨W,hsh,hld,λb hb=>⟨hb,by simp[G,hb],rfl⟩⟩ ⟨?_,?_,by simp[Fct.arg,look],by simp[Fct.arg,look],?_,λb hb=>?_⟩).mono ?_
 ·rw[<-Qc8,<-l1];rfl
 ·intro j y hj;obtain⟨v,hv',ht⟩:=l2 j y hj;exact⟨v,by simpa using hv',ht⟩
 ·intro b hb;by_cases h:b<W.heap.size
  ·exact h
  ·simp[G,h] at hb
 ·by_cases h:b<W.heap.size<;>simp[G,h] at hb
 ·rintro e W' ⟨v,p',hs,rfl,ho,hfr,_,Fs,hpf⟩;have hp:p'=_:=hs;subst hp;have hr:=hpf.res;obtain⟨c,hcs,hto,_⟩:=hr;have hcs':[FC.val (.bool true)]=[c]:=hcs;injection hcs' with hcs'
  subst hcs';obtain rfl:v=.bool true:=hto.1;exact⟨_,rfl,AaW k1 k2 hres hT hv hW hfn ⟨ho.os,ho.tape,ho.output.1,ho.size,λb hb=>hfr b (by simp[G,hb])⟩⟩
end
end Go.D
namespace Go.D
def Wd {H:Type} {enc:TypeId×Value->H} {a:Assume} {C:Checked} {os:Os} {f:FuncId} {fn:Func} {s:ChangeSpec} {conds:List PathCond} {apart fresh handsOn again:Bool} {X:World->Array Value->Prop}
 (hX:∀ (w w':World) (args:Array Value),w.heap=w'.heap->X w args->X w' args)
 (own:ownKnob C.prog.godebug=none) (started:os.Started) (noInit:C.prog.inits.idxOf? f=none) (hfn:C.prog.funcs[f]? = some fn)
 (witness:∃ (w:World) (tape:Tape) (i:Input),w.os=os/\(w.forCall tape i).Shaped C.prog/\i.vars=[]/\Input.okWide C.prog (w.forCall tape i) .any w.heap.size f i /\
  ((s.pre enc C.prog fn conds apart (w.forCall tape i).memory i.args/\X (w.forCall tape i).memory i.args)/\sizedMet enc C.prog fn (OpenSpec.ofChange s) apart (w.forCall tape i).memory i.args)/\a.holds C.prog (lone (Frame.enter C.prog f i.args .normal) [] (w.forCall tape i)))
 (contract:∀ (W:World) (base:Nat) (args:Array Value) (ds gs:List (DataW H)) (before:List MemPlace),
  (∀ (j:Nat) t v,fn.params[j]? = some t->args[j]? = some v->Value.okWide C.prog W .any base t v) ->
  DataW.Whole enc C.prog fn.params.toList s.vars apart W args.toList ds gs before->W.ShapedOpen C.prog->X W args ->
  Calls C.prog f args W λe W'=>∃ v,e=.returned v/\s.post enc C.prog fn apart fresh handsOn again W args v W') :
 ReturnsInHanded a C os f .any (λw args=>(s.pre enc C.prog fn conds apart w args/\X w args)/\sizedMet enc C.prog fn (OpenSpec.ofChange s) apart w args) (s.post enc C.prog fn apart fresh handsOn again):=by
 refine returnsInHanded_of_calls own started noInit witness ?_;intro w tape i _ hsh _ hok hpre _;obtain⟨_,_,_,fn',hfn',_,_,_,_,hval⟩:=hok;have e:fn'=fn:=Option.some.inj (hfn'.symm.trans hfn);subst e;obtain⟨⟨⟨ds,gs,before,hw,hc⟩,hx⟩,_⟩:=hpre;have hw':=DataW.Whole.of_heap (w':=w.forCall tape i) (by rfl) hw;refine(contract (w.forCall tape i) w.heap.size i.args ds gs before hval hw' hsh (hX _ _ _ (by rfl) hx)).mono λe W' ⟨v,he,hp⟩=>?_
 subst he;exact ChangeSpec.post_blind hp
end Go.D
namespace Go.D
def IP {P:Program} {w:World}:∀ {laid:List (String×DataW Unit)} {ps:List MemPlace} {i:Nat} {x:String×DataW Unit},DataW.LaidVars P w laid ps->laid[i]? = some x->∃ rest ps',DataW.LaidVars P w (x::rest) ps'
 | [],_,_,_,_,hi=>by simp at hi
 | y::laid,ps,0,x,h,hi=>by
  grind
 | y::laid,ps,i+1,x,h,hi=>by obtain⟨g',t',cs,fuel,p,q,hg',ht',hvar,hd,hr,_⟩:=h;exact IP hr (by simpa using hi)
def iface_of_trod {H:Type} {enc:TypeId×Value->H} {P:Program} {w:World} {base fuel:Nat} {sp:Nat->Bool} {t:TypeId} {ms:Array (String×TypeId)} {cs:List Value} {nm:String} {d:DataW H} {p:List MemPlace}
 (hi:P.underlying t=some (.interface ms)) (h:DataW.trod enc P w base sp false fuel t cs=some (.iface nm d,p)):∃ u v,cs=[.iface u v]:=by
 cases fuel with
 | zero=>simp[DataW.trod] at h
 | succ fuel=>
  unfold DataW.trod at h;grind
def Rt {P:Program} {w:World} {laid:List (String×DataW Unit)} {i:Nat} {n nm:String} {d:DataW Unit} (hp:(laid.all λx=>x.2.handleName?.isNone)=true) (hi:laid[i]? = some (n,.iface nm d))
 (ht:((P.globalNamed n).bind λg=>(P.globals[g]?).bind λv=>(P.underlying v.type).map λu=>match u with | .interface _=>true|_=>false)=some true) (h:laidMetH P laid w) :
 ∃ tp p,w.var? P n=some #[.iface tp p]:=by
 rw[MakeChecks.laidMetH_plain _ _ _ hp] at h;obtain⟨ps,hl,_⟩:=h;obtain⟨rest,ps',hl⟩:=IP hl hi;obtain⟨g',t',cs,fuel,p,q,hg',ht',hvar,hd,_,_⟩:=hl;rw[hg',Option.bind_some] at ht;cases hq:P.globals[g']? with
 | none=>rw[hq] at ht';simp at ht'
 | some v=>
  rw[hq] at ht' ht;simp only[Qb9,Qa0,Option.bind_some] at ht' ht;rw[ht'] at ht;obtain⟨u0,hu,hu2⟩:=Option.map_eq_some_iff.1 ht;split at hu2
  ·obtain⟨u,v2,e⟩:=iface_of_trod hu hd;refine⟨u,v2,?_⟩;rw[hvar];congr 1;grind
  ·cases hu2
def Vx {P:Program} {w:World} {laid:List (String×DataW Unit)} {i g n i2 i3:Nat} {t e:TypeId} {nm2 nm3:String} {d2 d3:DataW Unit} (hp:(laid.all λx=>x.2.handleName?.isNone)=true)
 (hi:laid[i]? = some ("internal/strconv.uint64pow10",Lib.tabData .u64 Lib.pow10Tab)) (hg : P.globalNamed "internal/strconv.uint64pow10" = some g) (hty:(P.globals[g]?).map (·.type)=some t) (ht:P.underlying t=some (.array n e))
 (he:P.underlying e=some (.int .u64)) (hce:P.cellsOf e=1) (hct:P.cellsOf t=n) (h2:laid[i2]? = some ("strconv.ErrSyntax",.iface nm2 d2)) (h3:laid[i3]? = some ("strconv.ErrRange",.iface nm3 d3))
 (t2 : ((P.globalNamed "strconv.ErrSyntax").bind λg=>(P.globals[g]?).bind λv=>(P.underlying v.type).map λu=>match u with | .interface _=>true|_=>false)=some true) (t3 : ((P.globalNamed "strconv.ErrRange").bind λg=>(P.globals[g]?).bind λv=>(P.underlying v.type).map λu=>match u with | .interface _=>true|_=>false)=some true) (h:laidMetH P laid w):Laid P w:=by
 refine⟨λ_=>?_,λ_=>Rt hp h2 t2 h,λ_=>Rt hp h3 t3 h⟩;rw[MakeChecks.laidMetH_plain _ _ _ hp] at h;obtain⟨ps,hl,_⟩:=h;obtain⟨rest,ps',hl⟩:=IP hl hi;obtain⟨g',t',cs,fuel,p,q,hg',ht',hvar,hd,_,_⟩:=hl;obtain rfl:=Option.some.inj (hg.symm.trans hg');obtain rfl:=Option.some.inj (hty.symm.trans ht');unfold Lib.TabIs;rw[hvar,<-Lib.cells_of_tab ht he hce hct hd]
def Vq {P:Program} (h:P.funcs.any Func.goes=false) (f:FuncId):P.goes f=false:=by
 unfold Program.goes;grind
def QJ {P:Program} (h:P.funcs.any Func.goes=false) (func:String):P.goesAt .entering func=false:=by
 unfold Program.goesAt Program.goesFrom;cases P.funcNamed func with
 | none=>rfl
 | some f=>simp[Vq h]
end Go.D
namespace Go.D
structure MS where
 s:Sh
 pre:s.X->Int->Prop
 fn:s.X->Int->s.X×Int
def MS.arg (S:MS) (x:S.s.X) (k:Int):Arg:=⟨[.v S.s.agg (DX 0 (S.s.fc x)),.v false [.sc (.int .i64 k)]],[],EQ 0 (S.s.fc x)⟩
def MS.pst (S:MS) (x:S.s.X) (k:Int):Pst:=⟨.one false [vi k],EQ 0 (S.s.fc x),[]⟩
def MS.ctr (S:MS) (x:S.s.X) (k:Int):Ctr:=.det [] (S.pst (S.fn x k).1 (S.fn x k).2)
def MS.ok (S:MS) (P:Program) (f:Nat):Prop:=∀ x k,S.pre x k->Con P f (S.arg x k) (S.ctr x k).sat
def HN:Nat->List Cell->Bool
 | _,[]=>true
 | j,.ref l::cs=>l==j&&HN (j+1) cs
 | _,.nil::_=>false
 | j,_::cs=>HN (j+1) cs
def Ai4 (hp:List (Nat×Tree)):St:={ nt:=0,tm:=[],bx:=[],hp:=hp,fb:=[],fl:=[]}
def MS.spec (S:MS):D.Spec:=λA=>match A.tm,A.bx with
 | [.v agg cs,.v false [.sc (.int .i64 k)]],[]=>bif agg==S.s.agg&&HN 0 cs then(match P2 (Ai4 A.hp) cs with
  | some (ds,_)=>match S.s.dec ds with
   | some x=>some (.df [S.pre x k] (S.s.X×Int) (S.fn x k) λy=>S.pst y.1 y.2)
   | none=>none
  | none=>none) else none
 | _,_=>none
def Uq {σ:St}:∀ {cs:List Cell} {ds:List FC} {ab:List Nat},P2 σ cs=some (ds,ab)->ds.length=cs.length/\∀ (j:Nat) (c:Cell) (d:FC),cs[j]? = some c->ds[j]? = some d ->
 (c=.nil/\d=.nl)\/(∃ l T,c=.ref l/\look σ.hp l=some T/\d=.l T.t T.xs)\/∃ v,c.val? = some v/\d=.val v:=by
 intro cs
 induction cs with
 | nil=>intro ds ab h;simp only[P2,Qa0,Qc9] at h;obtain⟨rfl,rfl⟩:=h;simp
 | cons c cs ih=>
  intro ds ab h;simp only[P2] at h;split at h
  ·rename_i ds0 ab0 h0;obtain⟨h1,h2⟩:=ih h0;have go:∀ d,ds=d::ds0->((c=.nil/\d=.nl)\/(∃ l T,c=.ref l/\look σ.hp l=some T/\d=.l T.t T.xs)\/∃ v,c.val? = some v/\d=.val v)->ds.length=(c::cs).length/\∀ (j:Nat) (c':Cell) (d:FC),(c::cs)[j]? = some c'->ds[j]? = some d ->
    (c'=.nil/\d=.nl)\/(∃ l T,c'=.ref l/\look σ.hp l=some T/\d=.l T.t T.xs)\/∃ v,c'.val? = some v/\d=.val v:=by
    intro d hd hx;subst hd;refine⟨by simp[h1],λj c' d' hc hd'=>?_⟩;cases j with
    | zero=>simp only[List.getElem?_cons_zero,Qa0] at hc hd';subst hc;subst hd';exact hx
    | succ j=>exact h2 j c' d' (by simpa using hc) (by simpa using hd')
   split at h
   ·simp only[Qa0,Qc9] at h;exact go _ h.1.symm (.inl ⟨rfl,rfl⟩)
   ·rename_i l;split at h
    ·rename_i T hT;split at h
     ·cases h
     ·simp only[Qa0,Qc9] at h;exact go _ h.1.symm (.inr (.inl ⟨l,T,rfl,hT,rfl⟩))
    ·cases h
   ·split at h
    ·rename_i v hv;simp only[Qa0,Qc9] at h;exact go _ h.1.symm (.inr (.inr ⟨v,hv,rfl⟩))
    ·cases h
  ·cases h
def N4:∀ {cs:List Cell} {s:Nat},HN s cs=true->(∀ (j l:Nat),cs[j]? = some (.ref l)->l=s+j)/\∀ j:Nat,cs[j]?≠some .nil:=by
 intro cs
 induction cs with
 | nil=>intro s _;simp
 | cons c cs ih=>
  intro s h;have tail:HN (s+1) cs=true:=by cases c<;>simp only[HN,Qa2,Qd4] at h<;>first|exact h|exact h.2
  obtain⟨h1,h2⟩:=ih tail;refine⟨λj l hj=>?_,λj hj=>?_⟩
  ·cases j with
   | zero=>
    simp only[List.getElem?_cons_zero,Qa0] at hj;subst hj;simp only[HN,Qa2,Qf7] at h;omega
   | succ j=>have:=h1 j l (by simpa using hj);omega
  ·cases j with
   | zero=>simp only[List.getElem?_cons_zero,Qa0] at hj;subst hj;simp[HN] at h
   | succ j=>exact h2 j (by simpa using hj)
def FcsLe.eq_of:∀ {cs ds:List FC},FcsLe cs ds->(∀ (j:Nat),cs[j]?≠some .nl)->cs=ds:=by
 intro cs ds h
 induction h with
 | nil=>intro _;rfl
 | cons h1 h2 ih=>
  intro hn;rcases h1 with rfl|⟨rfl,_⟩
  ·rw[ih λj hj=>hn (j+1) (by simpa using hj)]
  ·exact absurd rfl (hn 0)
def NT:∀ {cs:List FC} {s l:Nat} {T:Tree},look (EQ s cs) l=some T->s<=l/\cs[l-s]? = some (.l T.t T.xs):=by
 intro cs
 induction cs with
 | nil=>intro s l T h;simp[EQ,look] at h
 | cons c cs ih=>
  intro s l T h;have step:look (EQ (s+1) cs) l=some T->s<=l/\(c::cs)[l-s]? = some (.l T.t T.xs):=by grind
  cases c with
  | val v=>exact step h
  | nl=>exact step h
  | l t xs=>
   simp only[EQ,look] at h;split at h
   ·grind
   ·exact step h
def QF:∀ {cs:List FC} {s j:Nat} {c:Cell},(DX s cs)[j]? = some c->∃ d,cs[j]? = some d/\((∃ v,d=.val v/\c=.sc v)\/(d=.nl/\c=.nil)\/∃ t xs,d=.l t xs/\c=.ref (s+j)):=by
 intro cs
 induction cs with
 | nil=>intro s j c h;simp[DX] at h
 | cons d cs ih=>
  intro s j c h;cases j with
  | zero=>
   cases d<;>simp only[DX,List.getElem?_cons_zero,Qa0] at h<;>subst h
   ·simp
   ·simp
   ·simp
  | succ j=>
   have h':(DX (s+1) cs)[j]? = some c:=by cases d<;>simpa [DX] using h
   grind
def MS.spec_ok {S:MS} {P:Program} {f:Nat} (h:S.ok P f):KN P f S.spec:=by
 intro A c hc hp;unfold MS.spec at hc;split at hc
 ·rename_i agg cs k htm hbx;cases hcd:(agg==S.s.agg&&HN 0 cs) with
  | false=>simp[hcd] at hc
  | true=>
   simp only[hcd,Qd5] at hc;simp only[Qa2,Qf7] at hcd;obtain⟨rfl,hrefs⟩:=hcd;split at hc
   ·rename_i ds ab hl;split at hc
    ·rename_i x hx;simp only[Qa0] at hc;subst hc;have hpre:S.pre x k:=hp _ (Qe0 _);obtain⟨l1,l2⟩:=Uq hl;obtain⟨r1,r2⟩:=N4 hrefs;have hds:ds=S.s.fc x:=by
      refine(Sh.dec_ok hx).eq_of λj hj=>?_
      have hlt:j<cs.length:=by rw[<-l1];exact(List.getElem?_eq_some_iff.1 hj).1
      rcases l2 j _ _ (Qa5 hlt) hj with⟨e,_⟩|⟨_,_,_,_,e⟩|⟨_,_,e⟩
      ·exact r2 j (by rw[Qa5 hlt,e])
      ·cases e
      ·cases e
     subst hds;intro w vs G hB hA;refine(h x k hpre w vs G hB ⟨?_,?_,by simp[MS.arg,look],?_,hA.lt,hA.cr⟩).mono ?_
     ·rw[hA.sz,htm];rfl
     ·intro j y hj;cases j with
      | zero=>
       simp only[MS.arg,List.getElem?_cons_zero,Qa0] at hj;subst hj;obtain⟨v,hv,ht⟩:=hA.tm 0 (.v S.s.agg cs) (by rw[htm];rfl);refine⟨v,hv,Gf (cs:=cs) (by rw[FO,l1]) (λj d hd=>?_) ht⟩;obtain⟨fc,hfc,hcase⟩:=QF hd;have hlt:j<cs.length:=by rw[<-l1];exact(List.getElem?_eq_some_iff.1 hfc).1
       refine⟨cs[j],Qa5 hlt,λu hu=>?_⟩;have hrel:=l2 j _ _ (Qa5 hlt) hfc;rcases hcase with⟨v',rfl,rfl⟩|⟨rfl,rfl⟩|⟨t,xs,rfl,rfl⟩
       ·rcases hrel with⟨_,e⟩|⟨_,_,_,_,e⟩|⟨v'',hv'',e⟩
        ·cases e
        ·cases e
        ·injection e with e;subst e;exact Cell.val_ok hu hv''
       ·rcases hrel with⟨e,_⟩|⟨_,_,_,_,e⟩|⟨_,_,e⟩
        ·exact absurd (by rw[Qa5 hlt,e]) (r2 j)
        ·cases e
        ·cases e
       ·rcases hrel with⟨_,e⟩|⟨l,T,e1,_,_⟩|⟨_,_,e⟩
        ·cases e
        ·have hl':=r1 j l (by rw[Qa5 hlt,e1]);rw[e1] at hu;subst hl';exact hu
        ·cases e
      | succ j=>
       obtain⟨v,hv,ht⟩:=hA.tm (j+1) y (by rw[htm];exact hj);exact⟨v,hv,ht⟩
     ·intro l T hl';obtain⟨_,hfc⟩:=NT hl';rw[Nat.sub_zero] at hfc;have hlt:l<cs.length:=by rw[<-l1];exact(List.getElem?_eq_some_iff.1 hfc).1
      rcases l2 l _ _ (Qa5 hlt) hfc with⟨_,e⟩|⟨l',T',e1,e2,e3⟩|⟨_,_,e⟩
      ·cases e
      ·have hl2:=r1 l l' (by rw[Qa5 hlt,e1]);rw[Qd9] at hl2;subst hl2;obtain⟨t1,x1⟩:=T;obtain⟨t2,x2⟩:=T';injection e3 with e4 e5
       subst e4;have e5:=eq_of_heq e5;subst e5;exact hA.hp l' _ e2
      ·cases e
     ·rintro e w' ⟨v,p,hs,hrest⟩;exact⟨v,p,hs,hrest⟩
    ·cases hc
   ·cases hc
 ·cases hc
def Env.addM (E:Env) (f:Nat) (S:MS):Env:=E.ext f [.keep] S.spec
def EOk.addM {P:Program} {E:Env} (h:EOk P E) {f:Nat} {S:MS} (hS:S.ok P f):EOk P (E.addM f S):=h.ext (MS.spec_ok hS) λhn=>by cases hn
def MS.of {S:MS} {P:Program} {E:Env} {L:S.s.X->Int->Wk} {kp kl:List Nat} {f:Nat} {fn:Func} (hE:EOk P E) (hf:P.funcs[f]? = some fn) (hb:fn.body.isSome=true) (hn:decide (2<=fn.ntmps)=true)
 (hh:∀ x k,S.pre x k->HoldsE (Gl P E (L x k) kp kl fn (S.arg x k)) (S.ctr x k).post):S.ok P f:=by
 intro x k hx;exact IL hE hf hb hn (hh x k hx).h
def MS.leaf {S:MS} {x:S.s.X} {k:Int} {r:Res} {bx:List (Nat×List FC)} {hp:List (Nat×Tree)} (h:FN ⟨r,hp,bx⟩ (S.pst (S.fn x k).1 (S.fn x k).2)):(Out.leaf r bx hp).holds (S.ctr x k).post:=h
def MS.leafL {t:Ty} {pre:List (El t)->Int->Prop} {fn:List (El t)->Int->List (El t)×Int} {l xs':List (El t)} {k k':Int} (h:(xs',k')=fn l k):(Out.leaf (.one false [vi k']) [] [(0,⟨t,xs'⟩)]).holds ((MS.mk (.sl t) pre fn).ctr l k).post:=by
 show FN _ (MS.pst (MS.mk (.sl t) pre fn) (fn l k).1 (fn l k).2);rw[<-h];exact⟨⟨rfl,rfl,trivial⟩,trivial,rfl⟩
end Go.D
namespace Go.D
inductive Gk where
 | l (a:Ak)
 | b (s:Sh)
 | k (s:Sh)
 | g (s:Sh)
 | i (m:Nat) (s:Sh)
abbrev Gk.X:Gk->Type
 | .l a=>a.X
 | .b s=>s.X
 | .k s=>s.X
 | .g s=>s.X
 | .i _ s=>s.X
abbrev Gs:List Gk->Type
 | []=>Unit
 | k::ks=>k.X×Gs ks
abbrev Ys:List Gk->Type
 | []=>Unit
 | .l _::ks=>Ys ks
 | .b s::ks=>s.X×Ys ks
 | .k s::ks=>s.X×Ys ks
 | .g _::ks=>Ys ks
 | .i _ _::ks=>Ys ks
def W0:Nat->(ks:List Gk)->Gs ks->List TV
 | _,[],_=>[]
 | j,.l a::ks,x=>Aca a x.1::W0 (j+1) ks x.2
 | j,.b _::ks,x=>.ptr j 0::W0 (j+1) ks x.2
 | j,.k s::ks,x=>.v s.agg (DX (64*j) (s.fc x.1))::W0 (j+1) ks x.2
 | j,.g s::ks,x=>.v s.agg (DX (64*j) (s.fc x.1))::W0 (j+1) ks x.2
 | j,.i m s::ks,x=>.v s.agg ((s.fc x.1).map (toCell (some m)))::W0 (j+1) ks x.2
def AaM:Nat->(ks:List Gk)->Gs ks->List (Nat×List Cell)
 | _,[],_=>[]
 | j,.l _::ks,x=>AaM (j+1) ks x.2
 | j,.b s::ks,x=>(j,DX (64*j) (s.fc x.1))::AaM (j+1) ks x.2
 | j,.k _::ks,x=>AaM (j+1) ks x.2
 | j,.g _::ks,x=>AaM (j+1) ks x.2
 | j,.i _ _::ks,x=>AaM (j+1) ks x.2
def Aa3:Nat->(ks:List Gk)->Gs ks->List (Nat×Tree)
 | _,[],_=>[]
 | j,.l _::ks,x=>Aa3 (j+1) ks x.2
 | j,.b s::ks,x=>EQ (64*j) (s.fc x.1)++Aa3 (j+1) ks x.2
 | j,.k s::ks,x=>EQ (64*j) (s.fc x.1)++Aa3 (j+1) ks x.2
 | j,.g s::ks,x=>EQ (64*j) (s.fc x.1)++Aa3 (j+1) ks x.2
 | j,.i _ _::ks,x=>Aa3 (j+1) ks x.2
def Ab9:Nat->(ks:List Gk)->Ys ks->List (Nat×Tree)
 | _,[],_=>[]
 | j,.l _::ks,y=>Ab9 (j+1) ks y
 | j,.b _::ks,y=>Ab9 (j+1) ks y.2
 | j,.k s::ks,y=>EQ (64*j) (s.fc y.1)++Ab9 (j+1) ks y.2
 | j,.g _::ks,y=>Ab9 (j+1) ks y
 | j,.i _ _::ks,y=>Ab9 (j+1) ks y
def WX:Nat->(ks:List Gk)->Ys ks->List (Nat×List FC)
 | _,[],_=>[]
 | j,.l _::ks,y=>WX (j+1) ks y
 | j,.b s::ks,y=>(j,s.fc y.1)::WX (j+1) ks y.2
 | j,.k _::ks,y=>WX (j+1) ks y.2
 | j,.g _::ks,y=>WX (j+1) ks y
 | j,.i _ _::ks,y=>WX (j+1) ks y
structure GS where
 as:List Gk
 rs:List Sh
 pre:Gs as->Prop
 fn:Gs as->Ts rs×Ys as
def Gk.md:Gk->Md
 | .l _=>.lend
 | .b _=>.box
 | .k _=>.keep
 | .g _=>.give
 | .i _ _=>.lend
def GS.ms (S:GS):List Md:=S.as.map (·.md)
def GS.arg (S:GS) (x:Gs S.as):Arg:=⟨W0 0 S.as x,AaM 0 S.as x,Aa3 0 S.as x⟩
def klOf:Nat->List Gk->List Nat
 | _,[]=>[]
 | j,.k _::ks=>64*j::klOf (j+1) ks
 | j,_::ks=>klOf (j+1) ks
def GS.kl (S:GS):List Nat:=klOf 0 S.as
def GS.pst (S:GS) (y:Ts S.rs×Ys S.as):Pst:=⟨mkR S.rs y.1,Ab9 0 S.as y.2,WX 0 S.as y.2⟩
def GS.ctr (S:GS) (x:Gs S.as):Ctr:=.det [] (S.pst (S.fn x))
def GS.ok (S:GS) (P:Program) (f:Nat):Prop:=∀ x,S.pre x->Con P f (S.arg x) (S.ctr x).sat
def Rw (hp:List (Nat×Tree)) (s:Sh) (j:Nat) (cs:List Cell):Option s.X:=bif HN (64*j) cs then(match P2 (Ai4 hp) cs with
 | some (ds,_)=>s.dec ds
 | none=>none) else none
def UL (m:Nat):Cell->Option Cell
 | .im (some l) t xs=>bif l==m then some (.im none t xs) else none
 | .im none _ _=>none
 | c=>some c
def Mr (m:Nat):List Cell->Option (List Cell)
 | []=>some []
 | c::cs=>match UL m c,Mr m cs with
  | some d,some ds=>some (d::ds)
  | _,_=>none
def AhN (m:Nat) (s:Sh):TV->Option s.X
 | .v agg cs=>match Mr m cs with
  | some ds=>decV s (.v agg ds)
  | none=>none
 | _=>none
def Pp (A:Arg):Nat->(ks:List Gk)->List TV->Option (Gs ks)
 | _,[],[]=>some ()
 | j,.l a::ks,t::ts=>match RS a t,Pp A (j+1) ks ts with
  | some x,some xs=>some (x,xs)
  | _,_=>none
 | j,.b s::ks,.ptr b 0::ts=>bif b==j then(match look A.bx j with
  | some cs=>match Rw A.hp s j cs,Pp A (j+1) ks ts with
   | some x,some xs=>some (x,xs)
   | _,_=>none
  | none=>none) else none
 | j,.k s::ks,.v agg cs::ts=>bif agg==s.agg then(match Rw A.hp s j cs,Pp A (j+1) ks ts with
  | some x,some xs=>some (x,xs)
  | _,_=>none) else none
 | j,.g s::ks,.v agg cs::ts=>bif agg==s.agg then(match Rw A.hp s j cs,Pp A (j+1) ks ts with
  | some x,some xs=>some (x,xs)
  | _,_=>none) else none
 | j,.i m s::ks,t::ts=>match AhN m s t,Pp A (j+1) ks ts with
  | some x,some xs=>some (x,xs)
  | _,_=>none
 | _,_,_=>none
def GS.spec (S:GS):D.Spec:=λA=>match Pp A 0 S.as A.tm with
 | some x=>some (.df [S.pre x] (Ts S.rs×Ys S.as) (S.fn x) S.pst)
 | none=>none
section
variable {w:World} {G:Gh} {A:Arg} {vs:Array Value}
def Mb {hp:List (Nat×Tree)} {s:Sh} {j:Nat} {cs:List Cell} {x:s.X} (h:Rw hp s j cs=some x) :
 (DX (64*j) (s.fc x)).length=cs.length/\(∀ (i:Nat) (d:Cell),(DX (64*j) (s.fc x))[i]? = some d->∃ c,cs[i]? = some c/\∀ v,CellR w G c v->CellR w G d v) /\
 ∀ l T,look (EQ (64*j) (s.fc x)) l=some T->look hp l=some T:=by
 unfold Rw at h;cases hr:HN (64*j) cs with
 | false=>simp[hr] at h
 | true=>
  simp only[hr,Qd5] at h;split at h
  ·rename_i ds ab hl;obtain⟨l1,l2⟩:=Uq hl;obtain⟨r1,r2⟩:=N4 hr;have hds:ds=s.fc x:=by
    refine(Sh.dec_ok h).eq_of λi hi=>?_
    have hlt:i<cs.length:=by grind
    rcases l2 i _ _ (Qa5 hlt) hi with⟨e,_⟩|⟨_,_,_,_,e⟩|⟨_,_,e⟩
    ·exact r2 i (by rw[Qa5 hlt,e])
    ·cases e
    ·cases e
   subst hds;refine⟨by rw[FO,l1],λi d hd=>?_,λl T hl'=>?_⟩
   ·obtain⟨fc,hfc,hcase⟩:=QF hd;have hlt:i<cs.length:=by grind
    refine⟨cs[i],Qa5 hlt,λu hu=>?_⟩;have hrel:=l2 i _ _ (Qa5 hlt) hfc;rcases hcase with⟨v',rfl,rfl⟩|⟨rfl,rfl⟩|⟨t,xs,rfl,rfl⟩
    ·rcases hrel with⟨_,e⟩|⟨_,_,_,_,e⟩|⟨v'',hv'',e⟩
     ·cases e
     ·cases e
     ·injection e with e;subst e;exact Cell.val_ok hu hv''
    ·rcases hrel with⟨e,_⟩|⟨_,_,_,_,e⟩|⟨_,_,e⟩
     ·exact absurd (by rw[Qa5 hlt,e]) (r2 i)
     ·cases e
     ·cases e
    ·rcases hrel with⟨_,e⟩|⟨l,T,e1,_,_⟩|⟨_,_,e⟩
     ·cases e
     ·have hl':=r1 i l (by grind);rw[e1] at hu;subst hl';exact hu
     ·cases e
   ·obtain⟨hle,hfc⟩:=NT hl';have hlt:l-64*j<cs.length:=by grind
    rcases l2 _ _ _ (Qa5 hlt) hfc with⟨_,e⟩|⟨l',T',e1,e2,e3⟩|⟨_,_,e⟩
    ·cases e
    ·have hl2:=r1 _ l' (by rw[Qa5 hlt,e1]);have hl3:l'=l:=o_
     subst hl3;obtain⟨t1,x1⟩:=T;obtain⟨t2,x2⟩:=T';injection e3 with e4 e5
     subst e4;have e5:=eq_of_heq e5;subst e5;exact e2
    ·cases e
  ·cases h
open Classical in
def Ag1 (G:Gh) (m:Nat):∃ G':Gh,src G' none=src G (some m)/\G'.hv=G.hv:=by
 refine⟨{ G with ow:=λb=>if G.ow b=.lab m then .free else if G.ow b=.free then .gone else G.ow b },?_,rfl⟩;funext b;simp only[src];grind
def Vu {m:Nat} {G':Gh} (hs:src G' none=src G (some m)) (hh:G'.hv=G.hv):∀ (cs ds:List Cell),Mr m cs=some ds->ds.length=cs.length/\∀ (j:Nat) (d:Cell),ds[j]? = some d->∃ c,cs[j]? = some c/\∀ v,CellR w G c v->CellR w G' d v:=by
 intro cs
 induction cs with
 | nil=>intro ds h;simp only[Mr,Qa0] at h;subst h;simp
 | cons c cs ih=>
  intro ds h;simp only[Mr] at h;split at h
  ·rename_i d ds' h1 h2;simp at h;subst h;obtain⟨k1,k2⟩:=ih ds' h2;refine⟨by grind,λj d' hj=>?_⟩;cases j with
   | succ j=>simpa using k2 j d' (by grind)
   | zero=>
    simp at hj;subst hj;refine⟨c,rfl,λv hv=>?_⟩;cases c with
    | im l t xs=>
     cases l with
     | none=>simp[UL] at h1
     | some l=>
      simp only[UL] at h1;cases hb:(l==m) with
      | false=>simp[hb] at h1
      | true=>
       simp only[hb,Qd5,Qa0] at h1;subst h1;have e:l=m:=by grind
       subst e;show TR w (src G' none) _ v;rw[hs];exact hv
    | _=>simp only[UL,Qa0] at h1;subst h1;first|exact hv|(simp only[CellR,hh] at hv ⊢;exact hv)
  ·cases h
def AeY {m:Nat} {s:Sh} {t:TV} {x:s.X} {v:Value} (h:AhN m s t=some x) (hv:TVR w G t v):TVR w G (.v s.agg ((s.fc x).map (toCell (some m)))) v:=by
 cases t<;>first|(simp[AhN] at h;done)|skip
 rename_i agg cs;simp only[AhN] at h;split at h
 ·rename_i ds hds;obtain⟨G',hs,hh⟩:=Ag1 G m;obtain⟨k1,k2⟩:=Vu (w:=w) (G:=G) hs hh _ _ hds;have h1:TVR w G' (.v agg ds) v:=Gf k1 k2 hv;have h2:Gx w G' s.agg ((s.fc x).map (toCell none)) v:=Z8 h h1;refine Gf (cs:=(s.fc x).map (toCell none)) (by simp) (λj d hd=>?_) h2;rw[Qc3] at hd;cases hq:(s.fc x)[j]? with
  | none=>simp[hq] at hd
  | some c=>
   simp only[hq,Qb9,Qa0] at hd;subst hd;refine⟨toCell none c,by grind,λu hu=>?_⟩;cases c with
   | l t xs=>
    have hu:TR w (src G' none) _ u:=hu;rw[hs] at hu;exact hu
   | _=>exact hu
 ·cases h
def O6 {α:Type} {l m:List (Nat×α)} {t:Nat} {x:α} (h:look (l++m) t=some x):look l t=some x\/look m t=some x:=by
 induction l with
 | nil=>exact .inr h
 | cons p l ih=>
  simp only[Qe6,look] at h ⊢;grind
def YZ (hA:ArgR w G A vs):∀ (ks:List Gk) (j:Nat) (ts:List TV) (x:Gs ks),Pp A j ks ts=some x ->
 (W0 j ks x).length=ts.length/\(∀ (i:Nat) (y:TV),(W0 j ks x)[i]? = some y->∃ t,ts[i]? = some t/\∀ v,TVR w G t v->TVR w G y v) /\
 (∀ b cs,look (AaM j ks x) b=some cs->G.ow (G.be b)=.box b/\∃ r e,w.heap[G.be b]? = some (.cells r e (0,0))/\BJ w G cs r) /\
 ∀ l T,look (Aa3 j ks x) l=some T->look A.hp l=some T:=by
 intro ks
 induction ks with
 | nil=>
  intro j ts x h;cases ts with
  | nil=>simp[W0,AaM,Aa3,look]
  | cons t ts=>simp[Pp] at h
 | cons k ks ih=>
  intro j ts x h;cases ts with
  | nil=>cases k<;>simp[Pp] at h
  | cons t ts=>
   have cons:∀ (y:TV) (ys:List TV),ys.length=ts.length->(∀ v,TVR w G t v->TVR w G y v)->(∀ (i:Nat) (z:TV),ys[i]? = some z->∃ t,ts[i]? = some t/\∀ v,TVR w G t v->TVR w G z v) ->
    (y::ys).length=(t::ts).length/\(∀ (i:Nat) (z:TV),(y::ys)[i]? = some z->∃ t',(t::ts)[i]? = some t'/\∀ v,TVR w G t' v->TVR w G z v):=by
    intro y ys hl h0 hs;refine⟨by grind,λi z hz=>?_⟩;cases i with
    | zero=>simp only[List.getElem?_cons_zero,Qa0] at hz;subst hz;exact⟨t,rfl,h0⟩
    | succ i=>simpa using hs i z (by grind)
   cases k with
   | l a=>
    simp only[Pp] at h;split at h
    ·rename_i x1 xs h1 h2;simp at h;subst h;obtain⟨k1,k2,k3,k4⟩:=ih _ _ _ h2;obtain⟨c1,c2⟩:=cons _ _ k1 (λv hv=>TQ h1 hv) k2;exact⟨c1,c2,k3,k4⟩
    ·cases h
   | b s=>
    cases t<;>first|(simp[Pp] at h;done)|skip
    rename_i b off;cases off with
    | succ n=>simp[Pp] at h
    | zero=>
     simp only[Pp] at h;cases hb:(b==j) with
     | false=>simp[hb] at h
     | true=>
      simp only[hb,Qd5] at h;have hb':b=j:=by grind
      subst hb';split at h
      ·rename_i cs hbx;split at h
       ·rename_i x1 xs h1 h2;simp at h;subst h;obtain⟨k1,k2,k3,k4⟩:=ih _ _ _ h2;obtain⟨d1,d2,d3⟩:=Mb (w:=w) (G:=G) h1;obtain⟨c1,c2⟩:=cons (.ptr b 0) _ k1 (λv hv=>hv) k2;refine⟨c1,c2,λb' cs' hl=>?_,λl T hl=>?_⟩
        ·simp only[AaM,look] at hl;split at hl
         ·rename_i e;have e':b'=b:=by grind
          subst e';simp at hl;subst hl;obtain⟨q1,r,e,q2,q3⟩:=hA.bx b' cs hbx;refine⟨q1,r,e,q2,by rw[d1];exact q3.1,λi d hd=>?_⟩;obtain⟨c,hc,hr⟩:=d2 i d hd;obtain⟨u,hu,hcr⟩:=q3.2 i c hc;exact⟨u,hu,hr u hcr⟩
         ·exact k3 b' cs' hl
        ·rcases O6 hl with hl|hl
         ·exact d3 l T hl
         ·exact k4 l T hl
       ·cases h
      ·cases h
   | k s=>
    cases t<;>first|(simp[Pp] at h;done)|skip
    rename_i agg cs;simp only[Pp] at h;cases hb:(agg==s.agg) with
    | false=>simp[hb] at h
    | true=>
     simp only[hb,Qd5] at h;have hb':agg=s.agg:=by grind
     subst hb';split at h
     ·rename_i x1 xs h1 h2;simp at h;subst h;obtain⟨k1,k2,k3,k4⟩:=ih _ _ _ h2;obtain⟨d1,d2,d3⟩:=Mb (w:=w) (G:=G) h1;obtain⟨c1,c2⟩:=cons (.v s.agg (DX (64*j) (s.fc x1))) _ k1 (λv hv=>Gf d1 d2 hv) k2;refine⟨c1,c2,k3,λl T hl=>?_⟩;rcases O6 hl with hl|hl
      ·exact d3 l T hl
      ·exact k4 l T hl
     ·cases h
   | g s=>
    cases t<;>first|(simp[Pp] at h;done)|skip
    rename_i agg cs;simp only[Pp] at h;cases hb:(agg==s.agg) with
    | false=>simp[hb] at h
    | true=>
     simp only[hb,Qd5] at h;have hb':agg=s.agg:=by grind
     subst hb';split at h
     ·rename_i x1 xs h1 h2;simp at h;subst h;obtain⟨k1,k2,k3,k4⟩:=ih _ _ _ h2;obtain⟨d1,d2,d3⟩:=Mb (w:=w) (G:=G) h1;obtain⟨c1,c2⟩:=cons (.v s.agg (DX (64*j) (s.fc x1))) _ k1 (λv hv=>Gf d1 d2 hv) k2;refine⟨c1,c2,k3,λl T hl=>?_⟩;rcases O6 hl with hl|hl
      ·exact d3 l T hl
      ·exact k4 l T hl
     ·cases h
   | i m s=>
    simp only[Pp] at h;split at h
    ·rename_i x1 xs h1 h2;simp at h;subst h;obtain⟨k1,k2,k3,k4⟩:=ih _ _ _ h2;obtain⟨c1,c2⟩:=cons _ _ k1 (λv hv=>AeY h1 hv) k2;exact⟨c1,c2,k3,k4⟩
    ·cases h
end
def GS.spec_ok {S:GS} {P:Program} {f:Nat} (h:S.ok P f):KN P f S.spec:=by
 intro A c hc hp;unfold GS.spec at hc;split at hc
 ·rename_i x hx;simp at hc;subst hc;have hpre:S.pre x:=hp _ (Qe0 _);intro w vs G hB hA;obtain⟨k1,k2,k3,k4⟩:=YZ hA _ _ _ _ hx;refine(h x hpre w vs G hB ⟨?_,?_,k3,λl T hl=>hA.hp l T (k4 l T hl),hA.lt,hA.cr⟩).mono ?_
  ·rw[hA.sz];exact k1.symm
  ·intro j y hj;obtain⟨t,ht,hr⟩:=k2 j y hj;obtain⟨v,hv,hvt⟩:=hA.tm j t ht;simp_all
  ·rintro e w' ⟨v,p,hs,hrest⟩;exact⟨v,p,hs,hrest⟩
 ·cases hc
def Wg:List Md->List Md->Bool
 | [],[]=>true
 | .lend::a,.lend::b=>Wg a b
 | .give::a,.give::b=>Wg a b
 | .keep::a,.keep::b=>Wg a b
 | .box::a,.box::b=>Wg a b
 | _,_=>false
def Aax (ms:List Md) (g:D.Spec):Option (List Md×D.Spec)->D.Spec
 | some (ms',g0)=>λA=>match g A with
  | some c=>some c
  | none=>bif Wg ms' ms then g0 A else none
 | none=>g
def Env.addG (E:Env) (f:Nat) (S:GS):Env:=E.ext f S.ms (Aax S.ms S.spec (E.fn f))
def AfN:∀ ks:List Gk,LN (ks.map (·.md))=false
 | []=>rfl
 | [k]=>by cases k<;>rfl
 | k::_::_=>by cases k<;>rfl
def EOk.addG {P:Program} {E:Env} (h:EOk P E) {f:Nat} {S:GS} (hS:S.ok P f):EOk P (E.addG f S):=by
 refine h.ext ?_ (λhn=>by rw[GS.ms,AfN] at hn;cases hn);have hS':=GS.spec_ok hS;unfold Aax;split
 ·rename_i ms' g0 hg0;intro A c hc;dsimp only at hc;split at hc
  ·rename_i c' hc';simp at hc;subst hc;exact hS' A c' hc'
  ·cases hm:Wg ms' S.ms with
   | false=>simp[hm] at hc
   | true=>
    simp only[hm,Qd5] at hc;exact(h f ms' g0 hg0).1 A c hc
 ·exact hS'
def Pc:∀ (ks:List Gk) (j:Nat) (x:Gs ks),(W0 j ks x).length=ks.length:=by
 intro ks
 induction ks with
 | nil=>intro _ _;rfl
 | cons k ks ih=>intro j x;cases k<;>simp[W0,ih]
def GS.of {S:GS} {P:Program} {E:Env} {L:Gs S.as->Wk} {kp:List Nat} {f:Nat} {fn:Func} (hE:EOk P E) (hf:P.funcs[f]? = some fn) (hb:fn.body.isSome=true) (hn:decide (S.as.length<=fn.ntmps)=true)
 (hh:∀ x,S.pre x->HoldsE (Gl P E (L x) kp S.kl fn (S.arg x)) (S.ctr x).post):S.ok P f:=by
 intro x hx;refine IL hE hf hb ?_ (hh x hx).h;have:(S.arg x).tm.length=S.as.length:=Pc _ _ _;rw[this];exact hn
def GS.out (S:GS) (y:Ts S.rs×Ys S.as):Out:=.leaf (mkR S.rs y.1) (WX 0 S.as y.2) (Ab9 0 S.as y.2)
def I1:∀ ps:List (Nat×List FC),U4 ps ps
 | []=>trivial
 | p::ps=>⟨⟨rfl,F8 _⟩,I1 ps⟩
def GS.leafY {S:GS} {x:Gs S.as} {y:Ts S.rs×Ys S.as} (h:y=S.fn x):(S.out y).holds (S.ctr x).post:=by
 subst h;exact⟨Fj _,I1 _,rfl⟩
def GS.leafZ {S:GS} {x:Gs S.as} {r:Res} {bx:List (Nat×List FC)} {hp:List (Nat×Tree)} (y:Ts S.rs×Ys S.as) (h1:FN ⟨r,hp,bx⟩ (S.pst y)) (h:y=S.fn x):(Out.leaf r bx hp).holds (S.ctr x).post:=by
 subst h;exact h1
abbrev GS.lim (S:GS) (m:Gs S.as->Nat) (n:Nat):GS:={ S with pre:=λx=>S.pre x/\m x<n }
abbrev Fct.lim (S:Fct) (m:As S.as->Nat) (n:Nat):Fct:={ S with pre:=λx=>S.pre x/\m x<n }
def GS.ofRec {S:GS} {P:Program} {E:Env} {L:Gs S.as->Wk} {kp:List Nat} {f:Nat} {fn:Func} (m:Gs S.as->Nat) (hE:EOk P E) (hf:P.funcs[f]? = some fn) (hb:fn.body.isSome=true) (hn:decide (S.as.length<=fn.ntmps)=true)
 (hh:∀ n x,S.pre x->m x<n+1->HoldsE (Gl P (E.addG f (S.lim m n)) (L x) kp S.kl fn (S.arg x)) (S.ctr x).post):S.ok P f:=by
 have key:∀ n,(S.lim m n).ok P f:=by
  intro n
  induction n with
  | zero=>intro x hx;exact absurd hx.2 (Nat.not_lt_zero _)
  | succ n ih=>
   intro x hx;refine IL (EOk.addG hE ih) hf hb ?_ (hh n x hx.1 hx.2).h;have:((S.lim m (n+1)).arg x).tm.length=S.as.length:=Pc _ _ _;rw[this];exact hn
 intro x hx;exact key (m x+1) x ⟨hx,Nat.lt_succ_self _⟩
def N7:∀ (ss:List Ak) (x:As ss),(EH ss x).length=ss.length:=by
 intro ss
 induction ss with
 | nil=>intro _;rfl
 | cons s ss ih=>intro x;simp[EH,ih]
def Fct.ofRec {S:Fct} {P:Program} {E:Env} {L:As S.as->Wk} {kp:List Nat} {f:Nat} {fn:Func} (m:As S.as->Nat) (hE:EOk P E) (hf:P.funcs[f]? = some fn) (hb:fn.body.isSome=true) (hn:decide (S.as.length<=fn.ntmps)=true)
 (hh:∀ n x,S.pre x->m x<n+1->HoldsE (Gl P (E.add f (S.lim m n)) (L x) kp [] fn (S.arg x)) (S.ctr x).post):S.ok P f:=by
 have key:∀ n,(S.lim m n).ok P f:=by
  intro n
  induction n with
  | zero=>intro x hx;exact absurd hx.2 (Nat.not_lt_zero _)
  | succ n ih=>
   intro x hx;refine IL (EOk.add hE ih) hf hb ?_ (hh n x hx.1 hx.2).h;have:((S.lim m (n+1)).arg x).tm.length=S.as.length:=N7 _ _;rw[this];exact hn
 intro x hx;exact key (m x+1) x ⟨hx,Nat.lt_succ_self _⟩
end Go.D
namespace Go.D
def Ak.md:Ak->Md
 | .u=>.cur
 | _=>.lend
structure Xct where
 as:List Ak
 rs:List Sh
 pre:As as->Prop
 is:As as->Ts rs->Prop
def Xct.ms (S:Xct):List Md:=S.as.map (·.md)
def Xct.arg (S:Xct) (x:As S.as):Arg:=⟨EH S.as x,[],[]⟩
def Xct.ctr (S:Xct) (x:As S.as):Ctr:=.ex [] (Ts S.rs) (S.is x) λy=>⟨mkR S.rs y,[],[]⟩
def Xct.spec (S:Xct):D.Spec:=λA=>match A.bx,A.hp with
 | [],[]=>match LG S.as A.tm with
  | some x=>some (.ex [S.pre x] (Ts S.rs) (S.is x) λy=>⟨mkR S.rs y,[],[]⟩)
  | none=>none
 | _,_=>none
def Xct.ok (S:Xct) (P:Program) (f:Nat):Prop:=∀ x,S.pre x->Con P f (S.arg x) (S.ctr x).sat
def Xct.spec_ok {S:Xct} {P:Program} {f:Nat} (h:S.ok P f):KN P f S.spec:=by
 intro A c hc hp;unfold Xct.spec at hc;split at hc
 ·rename_i hb hh;split at hc
  ·rename_i x hx;simp only[Qa0] at hc;subst hc;have hpre:S.pre x:=hp _ (Qe0 _);intro w vs G hB hA;refine(h x hpre w vs G hB ⟨?_,?_,by simp[Xct.arg,look],by simp[Xct.arg,look],hA.lt,hA.cr⟩).mono ?_
   ·rw[hA.sz];exact(JA (w:=w) (G:=G) hx).1.symm
   ·intro j y hj;obtain⟨x',hx',hr⟩:=(JA (w:=w) (G:=G) hx).2 j y hj;obtain⟨v,hv,ht⟩:=hA.tm j x' hx';exact⟨v,hv,hr v ht⟩
   ·rintro e w' ⟨v,p,hs,hrest⟩;exact⟨v,p,hs,hrest⟩
  ·cases hc
 ·cases hc
def Xct.of {S:Xct} {P:Program} {E:Env} {L:As S.as->Wk} {kp:List Nat} {f:Nat} {fn:Func} (hE:EOk P E) (hf:P.funcs[f]? = some fn) (hb:fn.body.isSome=true) (hn:decide (S.as.length<=fn.ntmps)=true)
 (hh:∀ x,S.pre x->HoldsE (Gl P E (L x) kp [] fn (S.arg x)) (S.ctr x).post):S.ok P f:=by
 intro x hx;refine IL hE hf hb ?_ (hh x hx).h;have:(S.arg x).tm.length=S.as.length:=N7 _ _;rw[this];exact hn
def Xct.leafY {S:Xct} {x:As S.as} (y:Ts S.rs) (h:S.is x y):(Out.leaf (mkR S.rs y) [] []).holds (S.ctr x).post:=⟨y,h,Fj _,trivial,rfl⟩
def Xct.leafZ {S:Xct} {x:As S.as} {r:Res} (y:Ts S.rs) (h1:Kk r (mkR S.rs y)) (h:S.is x y):(Out.leaf r [] []).holds (S.ctr x).post:=⟨y,h,h1,trivial,rfl⟩
end Go.D
namespace Go.D
def Gk.mdc:Gk->Md
 | .l a=>a.md
 | .b _=>.box
 | .k _=>.keep
 | .g _=>.give
 | .i _ _=>.lend
structure Zct where
 as:List Gk
 rs:List Sh
 pre:Gs as->Prop
 is:Gs as->Ts rs×Ys as->Prop
def Zct.ms (S:Zct):List Md:=S.as.map (·.mdc)
def Zct.arg (S:Zct) (x:Gs S.as):Arg:=⟨W0 0 S.as x,AaM 0 S.as x,Aa3 0 S.as x⟩
def Zct.kl (S:Zct):List Nat:=klOf 0 S.as
def Zct.pst (S:Zct) (y:Ts S.rs×Ys S.as):Pst:=⟨mkR S.rs y.1,Ab9 0 S.as y.2,WX 0 S.as y.2⟩
def Zct.ctr (S:Zct) (x:Gs S.as):Ctr:=.ex [] (Ts S.rs×Ys S.as) (S.is x) S.pst
def Zct.spec (S:Zct):D.Spec:=λA=>match Pp A 0 S.as A.tm with
 | some x=>some (.ex [S.pre x] (Ts S.rs×Ys S.as) (S.is x) S.pst)
 | none=>none
def Zct.ok (S:Zct) (P:Program) (f:Nat):Prop:=∀ x,S.pre x->Con P f (S.arg x) (S.ctr x).sat
def Zct.spec_ok {S:Zct} {P:Program} {f:Nat} (h:S.ok P f):KN P f S.spec:=by
 intro A c hc hp;unfold Zct.spec at hc;split at hc
 ·rename_i x hx;simp only[Qa0] at hc;subst hc;have hpre:S.pre x:=hp _ (Qe0 _);intro w vs G hB hA;obtain⟨k1,k2,k3,k4⟩:=YZ hA _ _ _ _ hx;refine(h x hpre w vs G hB ⟨?_,?_,k3,λl T hl=>hA.hp l T (k4 l T hl),hA.lt,hA.cr⟩).mono ?_
  ·rw[hA.sz];exact k1.symm
  ·intro j y hj;obtain⟨t,ht,hr⟩:=k2 j y hj;obtain⟨v,hv,hvt⟩:=hA.tm j t ht;exact⟨v,hv,hr v hvt⟩
  ·rintro e w' ⟨v,p,hs,hrest⟩;exact⟨v,p,hs,hrest⟩
 ·cases hc
def Zct.of {S:Zct} {P:Program} {E:Env} {L:Gs S.as->Wk} {kp:List Nat} {f:Nat} {fn:Func} (hE:EOk P E) (hf:P.funcs[f]? = some fn) (hb:fn.body.isSome=true) (hn:decide (S.as.length<=fn.ntmps)=true)
 (hh:∀ x,S.pre x->HoldsE (Gl P E (L x) kp S.kl fn (S.arg x)) (S.ctr x).post):S.ok P f:=by
 intro x hx;refine IL hE hf hb ?_ (hh x hx).h;have:(S.arg x).tm.length=S.as.length:=Pc _ _ _;rw[this];exact hn
def Zct.out (S:Zct) (y:Ts S.rs×Ys S.as):Out:=.leaf (mkR S.rs y.1) (WX 0 S.as y.2) (Ab9 0 S.as y.2)
def Zct.leafY {S:Zct} {x:Gs S.as} (y:Ts S.rs×Ys S.as) (h:S.is x y):(S.out y).holds (S.ctr x).post:=⟨y,h,Fj _,I1 _,rfl⟩
def Zct.leafZ {S:Zct} {x:Gs S.as} {r:Res} {bx:List (Nat×List FC)} {hp:List (Nat×Tree)} (y:Ts S.rs×Ys S.as) (h1:FN ⟨r,hp,bx⟩ (S.pst y)) (h:S.is x y):(Out.leaf r bx hp).holds (S.ctr x).post:=⟨y,h,h1⟩
end Go.D
namespace Go.D
def Ag {n:Int} (h : -9223372036854775808<=n/\n<=9223372036854775807):IntKind.i64.wrap n=n:=by
 rw[IntKind.wrap_i64];omega
theorem wrapId' {n:Int} (h1 : -9223372036854775808<=n) (h2:n<=9223372036854775807):IntKind.i64.wrap n=n:=Ag ⟨h1,h2⟩
def AgG (a b:ByteArray):(a.toList==b.toList)=decide (a=b):=by
 have h:a.toList=b.toList↔a=b:=by
  constructor
  ·intro h;rw[ByteArray.toList_eq,ByteArray.toList_eq] at h;cases a;cases b;simp_all
  ·rintro rfl;rfl
 grind
theorem toNat1 {i:Int} (h:0<=i):(i+1).toNat=i.toNat+1:=o_
def XT {α:Type} [Inhabited α] {l:List α} {i:Nat} (h:i<l.length):l.getD i default=l[i]:=by simp[h]
theorem take_succ {α:Type} [Inhabited α] {l:List α} {i:Nat} (h:i<l.length):l.take (i+1)=l.take i++[l.getD i default]:=by
 simp_all
def Acz {t:Ty} {l:List (El t)} (h:Sh.good (.sl t) l) {x:El t} (hx:x∈l):Sh.good (.el t) x:=by
 intro c hc;have h1:=h (.l t l) (by simp[Sh.fc]);have h2:=h1.2 x hx c hc;have hr:=Iy hc;have:=Z3 t;exact Ada 7 c o_ h2
def Aab {t:Ty} {l:List (El t)} (h:Sh.good (.sl t) l) {i:Nat} (hi:i<l.length):Sh.good (.el t) (l.getD i default):=Acz h (by rw[XT hi];exact List.getElem_mem hi)
theorem good_len {t:Ty} {l:List (El t)} (h:Sh.good (.sl t) l):l.length<=maxLen:=(h (.l t l) (by simp[Sh.fc])).1
def lessen (left:Int) (n:Nat):Int:=if(n:Int)<=left then left-n else -1
def szL {α:Type} (f:α->Nat) (l:List α):Nat:=l.length+(l.map f).sum
def Lp {α:Type} [Inhabited α] (f:α->Nat) {l:List α} {i:Nat} (h:i<l.length):((l.take (i+1)).map f).sum=((l.take i).map f).sum+f (l.getD i default):=by
 rw[take_succ h];simp
def IJ {α:Type} (f:α->Nat) (l:List α) (i:Nat):((l.take i).map f).sum<=(l.map f).sum:=by
 have:(l.map f).sum=((l.take i).map f).sum+((l.drop i).map f).sum:=by rw[<-List.sum_append_nat,<-List.map_append,Qd2]
 omega
def Hw {left:Int} {n:Nat} (h0:0<=left):lessen left n<0↔left<n:=by unfold lessen;split<;>omega
def Jm {left:Int} {n:Nat} (h:(n:Int)<=left):lessen left n=left-n:=Qa1 h
def JI {left:Int} {n:Nat} (h:left<n):lessen left n = -1:=Qa3 o_
def Ac {α:Type} (f:α->Nat) (l:List α):l.length<=szL f l:=Qc6 _ _
def Acm:Nat->Nat->ByteArray->ByteArray
 | 0,_,out=>out
 | f+1,k,out=>if k=0 then out else Acm f (k / 10) (⟨#[UInt8.ofNat (48+k % 10)]⟩++out)
def K4 (k:Int):ByteArray:=if k<=0 then⟨#[109,48]⟩ else⟨#[109]⟩++Acm 64 k.toNat ⟨#[]⟩
def Au {α:Type} (f:α->Int->α×Int):List α->Int->List α×Int
 | [],k=>([],k)
 | x::xs,k=>((f x k).1::(Au f xs (f x k).2).1,(Au f xs (f x k).2).2)
def All {α:Type} (f:α->Int->α×Int):Prop:=∀ x k,k<=(f x k).2
section
variable {α:Type} {f:α->Int->α×Int}
def HP:∀ (xs ys:List α) (k:Int),Au f (xs++ys) k=((Au f xs k).1++(Au f ys (Au f xs k).2).1,(Au f ys (Au f xs k).2).2):=by
 intro xs
 induction xs with
 | nil=>intro ys k;simp[Au]
 | cons x xs ih=>intro ys k;simp[Au,ih]
def Ng:∀ (xs:List α) (k:Int),(Au f xs k).1.length=xs.length:=by
 intro xs
 induction xs with
 | nil=>intro k;rfl
 | cons x xs ih=>intro k;simp[Au,ih]
def JN (h:All f):∀ (xs:List α) (k:Int),k<=(Au f xs k).2:=by
 intro xs
 induction xs with
 | nil=>intro k;exact Int.le_refl _
 | cons x xs ih=>intro k;have h1:=h x k;have h2:=ih (f x k).2;simp only[Au];omega
def Qb (h:∀ x k,k+1<=(f x k).2):∀ (xs:List α) (k:Int),k+xs.length<=(Au f xs k).2:=by
 intro xs
 induction xs with
 | nil=>intro k;simp[Au]
 | cons x xs ih=>intro k;have h1:=h x k;have h2:=ih (f x k).2;simp only[Au,Qa6];omega
def Kz [Inhabited α] {l:List α} {i:Nat} (h:i<l.length) (k:Int):Au f (l.take (i+1)) k=((Au f (l.take i) k).1++[(f (l.getD i default) (Au f (l.take i) k).2).1],(f (l.getD i default) (Au f (l.take i) k).2).2):=by
 rw[take_succ h,HP];rfl
def FE (h:All f) (l:List α) (i:Nat) (k:Int):k<=(Au f (l.take i) k).2/\(Au f (l.take i) k).2<=(Au f l k).2:=by
 refine⟨JN h _ _,?_⟩;have e:Au f l k=Au f (l.take i++l.drop i) k:=by rw[Qd2]
 rw[e,HP];exact JN h _ _
theorem drop_cons [Inhabited α] {l:List α} {i:Nat} (h:i<l.length):l.drop i=l.getD i default::l.drop (i+1):=by
 simp_all
theorem drop_end {α:Type} {l:List α} {i:Nat} (h:l.length<=i):l.drop i=[]:=Qb1 h
def VJ [Inhabited α] {l:List α} {k:Int} (h:(Au f l k).1=l) {i:Nat} (hi:i<l.length):(f (l.getD i default) (Au f (l.take i) k).2).1=l.getD i default:=by
 have e:(Au f l k).1=(Au f (l.take (i+1)) k).1++(Au f (l.drop (i+1)) (Au f (l.take (i+1)) k).2).1:=by
  have:Au f l k=Au f (l.take (i+1)++l.drop (i+1)) k:=by rw[Qd2]
  rw[this,HP]
 rw[e,Kz hi] at h;have h2:=congrArg (·[i]?) h;have hl:(Au f (l.take i) k).1.length=i:=by rw[Ng,Qc0];omega
 grind
def Iu {A r:List α} {x:α} {g:α->α} {i:Nat} (h:A.length=i):(A++x::r).modify i g=A++g x::r:=by
 subst h
 induction A with
 | nil=>rfl
 | cons a A ih=>simp[List.modify_succ_cons,ih]
def getD_at [Inhabited α] {A r:List α} {x:α} {i:Nat} (h:A.length=i):(A++x::r).getD i default=x:=by
 subst h;simp
end
def AfG {k:Int} (h0:0<=k):List.foldl (λ(r:ByteArray) (n:Int)=>r.push (UInt8.ofNat n.toNat)) ByteArray.empty [IntKind.u8.wrap (IntKind.i64.wrap ((48:Int)+k.tmod (10:Int)))]=⟨#[UInt8.ofNat (48+k.toNat % 10)]⟩:=by
 rw[Int.tmod_eq_emod_of_nonneg h0,Ag o_];have hu:IntKind.u8.wrap (48+k % 10)=48+k % 10:=by simp[IntKind.wrap,IntKind.bits,IntKind.signed];omega
 rw[hu];have:(48+k % 10).toNat=48+k.toNat % 10:=o_
 rw[Qg7,List.foldl_nil,this];rfl
def sz1 (b:UInt8) (out:ByteArray):((⟨#[b]⟩:ByteArray)++out).size=out.size+1:=by
 rfl
def AgM {k:Int} (h0:0<=k):IntKind.i64.wrap (k.tdiv 10)=k / 10\/9223372036854775807<k:=by
 rw[Int.tdiv_eq_ediv_of_nonneg h0];by_cases h:9223372036854775807<k
 ·exact .inr h
 ·exact .inl (Ag o_)
def Y3 {f k:Nat} {out:ByteArray} (hk:0<k):Acm (f+1) k out=Acm f (k / 10) (⟨#[UInt8.ofNat (48+k % 10)]⟩++out):=by
 rw[Acm,Qa3 o_]
def Abn {f:Nat} {out:ByteArray}:Acm f 0 out=out:=by
 cases f<;>simp[Acm]
def fidx {α:Type} (p:α->Bool):List α->Int->Int
 | [],_=>-1
 | c::l,i=>if p c then i else fidx p l (i+1)
def IQ {α:Type} (p:α->Bool):∀ (l:List α) (i:Int),0<=i->(0<=fidx p l i↔l.any p=true):=by
 intro l
 induction l with
 | nil=>intro i _;simp[fidx]
 | cons c l ih=>
  intro i hi;simp only[fidx,List.any_cons,Qf9];grind
def EY {α:Type} (p:α->Bool):∀ (l:List α) (i:Int),0<=i->fidx p l i<i+l.length/\-1<=fidx p l i:=by
 intro l
 induction l with
 | nil=>intro i h;simp[fidx];omega
 | cons c l ih=>
  intro i hi;simp only[fidx,Qa6];grind
def WG {α:Type} {f:α->Int->α×Int} (h:∀ x k,f (f x k).1 k=f x k):∀ (xs:List α) (k:Int),Au f (Au f xs k).1 k=Au f xs k:=by
 intro xs
 induction xs with
 | nil=>intro k;rfl
 | cons x xs ih=>intro k;simp only[Au,h,ih]
def DZ {α:Type} [Inhabited α] (f:α->Nat) {l:List α} {i:Nat} (h:i<l.length):f (l.getD i default)+l.length<=szL f l:=by
 have h1:=IJ f l (i+1);rw[Lp f h] at h1;simp only[szL];omega
def countIf {α:Type} (p:α->Bool):List α->Int
 | []=>0
 | x::l=>(if p x then 1 else 0)+countIf p l
theorem countIf_le {α:Type} (p:α->Bool) (l:List α):0<=countIf p l/\countIf p l<=l.length:=by
 induction l with
 | nil=>simp[countIf]
 | cons x l ih=>simp only[countIf,Qa6];split<;>omega
def Zw {α:Type} (l:List α) (n:Nat):cut l n (l.length-n)=l.drop n:=by
 unfold cut;rw[Qb0 (by simp)]
def Ez {a b:Bool} (h:a=true) (h':b=true):(a&&b)=true:=by rw[h,h'];rfl
def VO {α:Type} {f:α->Int->α×Int} {g:α->Nat} (h:∀ x k,(f x k).2<=k+64*(g x+1)):∀ (xs:List α) (k:Int),(Au f xs k).2<=k+64*szL g xs:=by
 intro xs
 induction xs with
 | nil=>intro k;simp[Au,szL]
 | cons x xs ih=>
  intro k;have h1:=h x k;have h2:=ih (f x k).2;simp only[Au,szL,Qc7,List.sum_cons,Qa6] at h2 ⊢;omega
theorem take_end {α:Type} {l:List α} {i:Nat} (h:l.length<=i):l.take i=l:=Qb0 h
def An6 (a:Array UInt8):(ByteArray.mk a).size=a.size:=rfl
end Go.D
namespace Go.D
def Ae3 (a b:Nat):Br a b=(a*b<=140737488355328):=rfl
def AgA:(∀ {p:Prop} [inst:Decidable p],(decide p=true)=p)/\(∀ {p:Prop} {x:Decidable p},decide p=false↔¬p)/\(∀ (b:Bool),((!b)=true)=(b=false))/\(∀ (b:Bool),((!b)=false)=(b=true)) /\
 (∀ {α:Type} [inst:BEq α] [LawfulBEq α] {a b:α},(a != b)=true↔a≠b)/\(∀ {α:Type} [inst:BEq α] [LawfulBEq α] {a b:α},(a != b)=false↔a=b)/\(∀ {α:Type} [inst:BEq α] [LawfulBEq α] {a b:α},(a==b)=true↔a=b) /\
 (∀ {α:Type} [inst:BEq α] [LawfulBEq α] {a b:α},(a==b)=false↔a≠b)/\(∀ (a b:ByteArray),(a.toList==b.toList)=decide (a=b))/\(∀ {a b:Int},¬a<b↔b<=a)/\(∀ {a b:Int},¬a<=b↔b<a)/\(∀ {p:Prop} [Decidable p],¬¬p↔p)/\(∀ x,wr x=IntKind.i64.wrap x)/\(∀ x,w1 x=IntKind.i64.wrap (x+1))/\∀ i n,inB i n=(0<=i/\i<(n:Int)) :=
 ⟨@Qa9,@Qa8,@Qe4,@Bool.not_eq_false',@bne_iff_ne,@bne_eq_false_iff_eq,@Qf7,@beq_eq_false_iff_ne,@AgG,@Int.not_lt,@Int.not_le,@Decidable.not_not,λ_=>rfl,λ_=>rfl,λ_ _=>rfl⟩
def AhT:(∀ (a:Array UInt8),ByteArray.size { data:=a }=a.size)/\(∀ {α:Type} {as:List α},as.toArray.size=as.length)/\(∀ {α:Type} {a:α} {as:List α},(a::as).length=as.length+1)/\(∀ {α:Type},([]:List α).length=0) /\
 Int.toNat 0=0/\(∀ {α:Type} {l:List α},List.drop 0 l=l)/\(∀ (b:Bool),(¬b=true)=(b=false))/\(∀ (b:Bool),(¬b=false)=(b=true))/\(∀ {p:Prop} [g:Decidable p] [h:Decidable ¬p],(decide ¬p) = !decide p) /\
 (∀ {α β:Type} (a:α) (b:β) (c:α) (d:β),((a,b)=(c,d))=(a=c/\b=d))/\(∀ (p:Prop),(p/\True)=p)/\(∀ (p:Prop),(True/\p)=p)/\(∀ (a b:Nat),Br a b=(a*b<=140737488355328)) /\
 (∀ {α:Type} (as:List α),[]++as=as)/\∀ (n:Nat),0+n=n :=
 ⟨@An6,@List.size_toArray,@Qa6,@Qb7,Int.toNat_zero,@Qe7,@Bool.not_eq_true,@Bool.not_eq_false,@decide_not,@Qc9,@Qe8,@true_and,Ae3,@Qf8,@Qd9⟩
def Hv:(type_of% @AgA)/\∀ {α:Type} (a b:α),(a≠b) = ¬a=b:=⟨AgA,λ_ _=>rfl⟩
def AnW:(∀ x,wr x=IntKind.i64.wrap x)/\(∀ x,w1 x=IntKind.i64.wrap (x+1))/\∀ i n,inB i n=(0<=i/\i<(n:Int)):=⟨λ_=>rfl,λ_=>rfl,λ_ _=>rfl⟩
def AhZ:(type_of% @AgA)/\(type_of% @AhT)/\∀ {α:Type} (a b:α),(a≠b) = ¬a=b:=⟨AgA,AhT,λ_ _=>rfl⟩
abbrev Af (x:ByteArray):Nat:=x.size
def GE:Fct:=⟨[aI],[rT],λ(x:Int×Unit)=>0<=x.1/\x.1<=4000000000000000000,λ(x:Int×Unit)=>(K4 x.1,())⟩
abbrev Ah2 (k:Int):LInv:=⟨[⟨.s,0,true,.el .int⟩,⟨.s,3,true,.el .str⟩],λ_ (x:Int×ByteArray×Unit)=>0<=x.1/\x.1<=k/\∃ f,f+x.2.1.size=64/\x.1.toNat<10 ^ f/\Acm 64 k.toNat ⟨#[]⟩=Acm f x.1.toNat x.2.1,λ(x:Int×ByteArray×Unit)=>x.1.toNat⟩
abbrev AhP (t:Ty) (f:El t->Nat) (l:List (El t)) (n:Int):LInv:=⟨[⟨.s,1,true,.el .int⟩,⟨.s,5,true,.el .int⟩],λ_ (x:Int×Int×Unit)=>0<=x.2.1/\x.2.1<=l.length/\0<=x.1/\x.1=n-l.length-((l.take x.2.1.toNat).map f).sum,λ(x:Int×Int×Unit)=>l.length-x.2.1.toNat⟩
abbrev Afr (t:Ty) (l:List (El t)):LInv:=⟨[⟨.s,4,true,.el .int⟩,⟨.s,3,true,.sl t⟩],λ_ (x:Int×List (El t)×Unit)=>0<=x.1/\x.1<=l.length/\x.2.1=l.take x.1.toNat++List.replicate (l.length-x.1.toNat) default,λ(x:Int×List (El t)×Unit)=>l.length-x.1.toNat⟩
abbrev AaL (t:Ty) (l m:List (El t)):LInv:=⟨[⟨.s,5,true,.el .int⟩],λ_ (x:Int×Unit)=>0<=x.1/\x.1<=l.length/\l.take x.1.toNat=m.take x.1.toNat,λ(x:Int×Unit)=>l.length-x.1.toNat⟩
abbrev Aiw (t:Ty) (f:El t->Int->El t×Int) (l:List (El t)) (k:Int):LInv:=⟨[⟨.s,1,true,.el .int⟩,⟨.s,5,true,.el .int⟩,⟨.t,0,true,.sl t⟩],λ_ (x:Int×Int×List (El t)×Unit)=>0<=x.2.1/\x.2.1<=l.length/\x.1=(Au f (l.take x.2.1.toNat) k).2/\x.2.2.1=(Au f (l.take x.2.1.toNat) k).1++l.drop x.2.1.toNat,λ(x:Int×Int×List (El t)×Unit)=>l.length-x.2.1.toNat⟩
abbrev Ah8 (t:Ty) (f:El t->Int->El t×Int) (l:List (El t)) (k:Int):LInv:=⟨[⟨.s,1,true,.el .int⟩,⟨.s,5,true,.el .int⟩],λ_ (x:Int×Int×Unit)=>0<=x.2.1/\x.2.1<=l.length/\x.1=(Au f (l.take x.2.1.toNat) k).2,λ(x:Int×Int×Unit)=>l.length-x.2.1.toNat⟩
end Go.D
namespace Go.D
set_option linter.unusedSimpArgs false
section
variable {P:Program} {E:Env} {m:Nat} {fn:Func} {t:Ty}
def szF (s:Sh) (f:s.X->Nat):Fct:=⟨[.v s,aI],[rI],λ(x:s.X×Int×Unit)=>Sh.good s x.1/\0<=x.2.1/\x.2.1<=1048576,λ(x:s.X×Int×Unit)=>(lessen x.2.1 (f x.1),())⟩
def szX (t:Ty) (f:El t->Nat) (l:List (El t)) (n:Int):Out :=
 .br (decide (wr (n-(l.length:Int))<0)) (.lf (szF (.sl t) (szL f)) ((-1:Int),()))
  (lpx (AhP t f l n) (wr (n-(l.length:Int)),((0:Int),())) λ(y2:Int×Int×PUnit) bk2=>
   .br (decide (y2.2.1<(l.length:Int)))
    (.ob (inB y2.2.1 l.length)<|.cl (szF (.el t) f) (l.getD y2.2.1.toNat default,y2.1,()) λz2=>.br (decide (z2.1<0)) (.lf (szF (.sl t) (szL f)) ((-1:Int),())) (.ob (l=l)<|.ob (bk2 (z2.1,(w1 y2.2.1,())))<|.ok))
    (.lf (szF (.sl t) (szL f)) (y2.1,())))
def Aib {f:El t->Nat} {l:List (El t)} {n:Int} (hp0:(szF (.sl t) (szL f)).pre (l,n,())):(szX t f l n).holds ((szF (.sl t) (szL f)).ctr (l,n,())).post:=by
 have hp:Sh.good (.sl t) l/\0<=n/\n<=1048576:=hp0;clear hp0;refine Ab (λh1=>lfY ?_) (λh1=>Ai ?_ λ(y2:Int×Int×PUnit) i2=>Ab (λh3=>Aa ?_ λo4=>Ae ?_ λo5=>(Ab (λh6=>lfY ?_) (λh6=>Aa rfl λ_=>Aa ?_ λo7=>trivial))) (λh3=>lfY ?_));all_goals try simp only[Hv] at *
 all_goals try simp only[AhP,szF,AhZ,Nat.reduceAdd] at *
 ·have:=good_len hp.1;simp only[maxLen] at this;rw[Ag o_] at h1;rw[JI (by simp only[szL];omega)]
 ·have:=good_len hp.1;simp only[maxLen] at this;rw[Ag o_] at h1 ⊢;simp_all
 ·omega
 ·exact⟨Aab hp.1 o_,o_,o_⟩
 ·have hs:=IJ f l (y2.2.1.toNat+1);rw[Lp f o_] at hs;rw[Hw o_] at h6;rw[JI (by simp only[szL];omega)]
 ·have hw:IntKind.i64.wrap (y2.2.1+1)=y2.2.1+1:=Ag (by have:=good_len hp.1;simp only[maxLen] at this;omega);have h7:¬ lessen y2.1 (f (l.getD y2.2.1.toNat default))<0:=o_
  rw[Hw o_] at h7;rw[hw,toNat1 o_,Lp f o_,Jm o_];omega
 ·have e:l.take y2.2.1.toNat=l:=Qb0 o_;rw[e] at i2;have hz:((szL f l:Nat):Int)=l.length+(l.map f).sum:=by simp only[szL];omega
  rw[Jm o_];grind
def szS {f:El t->Nat} (kp:List Nat) (hE:EOk P E) (hf:P.funcs[m]? = some fn)
 (h:∀ l k,Gl P E (λ|5=>some (AhP t f l k)|_=>none) kp [] fn ((szF (.sl t) (szL f)).arg (l,k,()))=szX t f l k)
 (hc:(fn.body.isSome&&decide (2<=fn.ntmps))=true:=by kernel_rfl):(szF (.sl t) (szL f)).ok P m:=by
 rw[Qa2] at hc;exact Fct.of (S:=szF (.sl t) (szL f)) (L:=λx=>λ|5=>some (AhP t f x.1 x.2.1)|_=>none) hE hf hc.1 hc.2 λx hx=>⟨(h x.1 x.2.1)▸Aib hx⟩
inductive SzI:Type
 | p (k:Nat)
 | c (s:Sh) (f:s.X->Nat) (x:s.X)
def SzI.n:SzI->Nat
 | .p k=>k
 | .c _ f x=>f x
def SzI.ok:SzI->Prop
 | .p k=>k<=maxLen
 | .c s _ x=>Sh.good s x
def AhO (a:Nat):List SzI->Nat
 | []=>a
 | i::is=>AhO (a+i.n) is
def Aei:List SzI->Nat
 | []=>0
 | i::is=>AhO i.n is
def OW:List SzI->Prop
 | []=>True
 | i::is=>i.ok/\OW is
def QC:List SzI->Nat
 | []=>0
 | i::is=>i.n+QC is
def Z6:∀ (is:List SzI) (a:Nat),AhO a is=a+QC is
 | [],a=>rfl
 | i::is,a=>by rw[AhO,Z6 is,QC];omega
def Acd (is:List SzI):Aei is=QC is:=by
 cases is with
 | nil=>rfl
 | cons i is=>rw[Aei,Z6];rfl
def szC (s:Sh) (f:s.X->Nat):List SzI->Int->Out
 | [],k=>.lf (szF s f) (k,())
 | .p a::r,k=>.br (decide (wr (k-(a:Int))<0)) (.lf (szF s f) ((-1:Int),())) (szC s f r (wr (k-(a:Int))))
 | .c s' f' x::r,k=>.cl (szF s' f') (x,k,()) λz=>.br (decide (z.1<0)) (.lf (szF s f) ((-1:Int),())) (szC s f r z.1)
def AfK {s:Sh} {f:s.X->Nat} {x:s.X} {n:Int}:∀ (is:List SzI) (k:Int),0<=k->k<=1048576->OW is->lessen n (f x)=lessen k (QC is)->(szC s f is k).holds ((szF s f).ctr (x,n,())).post
 | [],k,h0,h1,_,h=>lfY (by show(k,())=(lessen n (f x),());rw[h,QC,Jm o_];simp)
 | .p a::r,k,h0,h1,ho,h=>by
  have ha:a<=maxLen:=ho.1;simp only[maxLen] at ha;have e:wr (k-(a:Int))=k-a:=Ag o_;simp only[QC,SzI.n] at h;refine Ab (λhb=>lfY ?_) (λhb=>?_)
  ·rw[e] at hb;simp only[Qa9] at hb;show((-1:Int),())=(lessen n (f x),());rw[h,JI o_]
  ·rw[e] at hb ⊢;simp only[Qa8] at hb;refine AfK r _ o_ o_ ho.2 ?_;rw[h];unfold lessen;omega
 | .c s' f' y::r,k,h0,h1,ho,h=>by
  simp only[QC,SzI.n] at h;refine Ae ⟨ho.1,h0,h1⟩ λ_=>?_
  refine Ab (λhb=>lfY ?_) (λhb=>?_)
  ·have hb:decide (lessen k (f' y)<0)=true:=hb;simp only[Qa9] at hb;rw[Hw h0] at hb;show((-1:Int),())=(lessen n (f x),());rw[h,JI o_]
  ·have hb:decide (lessen k (f' y)<0)=false:=hb;simp only[Qa8] at hb;have e:lessen k (f' y)=k-f' y:=by rw[Hw h0] at hb;exact Jm o_
   rw[Hw h0] at hb;show(szC s f r (lessen k (f' y))).holds _;rw[e];refine AfK r _ o_ o_ ho.2 ?_;rw[h];unfold lessen;omega
def szT {s:Sh} {f:s.X->Nat} (kp:List Nat) (is:s.X->List SzI) (hE:EOk P E) (hf:P.funcs[m]? = some fn)
 (h:∀ x k,Gl P E (λ_=>none) kp [] fn ((szF s f).arg (x,k,()))=szC s f (is x) k)
 (hs:∀ x,f x=Aei (is x)) (hg:∀ x,Sh.good s x->OW (is x))
 (hc:(fn.body.isSome&&decide (2<=fn.ntmps))=true:=by kernel_rfl):(szF s f).ok P m:=by
 rw[Qa2] at hc;refine Fct.of (S:=szF s f) (L:=λ_ _=>none) hE hf hc.1 hc.2 λx hx=>⟨(h x.1 x.2.1)▸AfK (is x.1) x.2.1 hx.2.1 hx.2.2 (hg _ hx.1) ?_⟩
 rw[hs,Acd]
def toF (s:Sh) (f:s.X->Nat):Fct:=⟨[.v s],[s],λ(x:s.X×Unit)=>f x.1<=1048576,λ(x:s.X×Unit)=>(x.1,())⟩
def toX (t:Ty) (f:El t->Nat) (c:Int) (l:List (El t)):Out :=
 .ob ((l.length:Int)=(l.length:Int)/\(0:Int)<=(l.length:Int)/\c*(l.length:Int)<=140737488355328/\(l.length:Int)<=140737488355328) <|
 lpx (Afr t l) ((0:Int),(List.replicate (l.length:Int).toNat default,())) λ(y2:Int×List (El t)×PUnit) bk2=>
  .br (decide (y2.1<(l.length:Int)))
   (.ob (inB y2.1 l.length)<|.cl (toF (.el t) f) (l.getD y2.1.toNat default,()) λz2=>.ob (inB y2.1 y2.2.1.length)<|.ob (y2.1.toNat<y2.2.1.length) <|
    .lt (List (El t)) (y2.2.1.modify y2.1.toNat λz=>z2.1) λz3=>.ob (l=l)<|.ob (bk2 (w1 y2.1,(z3,())))<|.ok)
   (.lf (toF (.sl t) (szL f)) (y2.2.1,()))
def Aig {f:El t->Nat} {c:Int} (hc:0<=c/\c<=100000000) {l:List (El t)} (hp0:(toF (.sl t) (szL f)).pre (l,())):(toX t f c l).holds ((toF (.sl t) (szL f)).ctr (l,())).post:=by
 have hp:szL f l<=1048576:=hp0;clear hp0;refine Aa ?_ λo1=>Ai ?_ λ(y2:Int×List (El t)×PUnit) i2=>Ab (λh3=>Aa ?_ λo4=>Ae ?_ λo5=>(Aa ?_ λo6=>Aa ?_ λo7=>DU (Aa rfl λ_=>Aa ?_ λo8=>trivial))) (λh3=>lfY ?_)
 all_goals try simp only[Hv] at *
 all_goals try simp only[Afr,toF,AhZ,Nat.reduceAdd] at *
 all_goals have hL:=Ac f l
 ·refine⟨o_,?_,o_⟩;have:=Int.mul_le_mul hc.2 (show(l.length:Int)<=1048576 from o_) o_ o_;omega
 ·simp
 ·omega
 ·have hs:=IJ f l (y2.1.toNat+1);rw[Lp f o_] at hs;simp only[szL] at hp;omega
 ·simp_all
 ·omega
 ·have hw:IntKind.i64.wrap (y2.1+1)=y2.1+1:=Ag o_;rw[hw,toNat1 o_,i2.2.2];refine⟨⟨o_,o_,?_⟩,o_⟩;rw[show l.length-y2.1.toNat=(l.length-(y2.1.toNat+1))+1 from o_,List.replicate_succ,Iu (by simp;omega),take_succ o_];simp
 ·have e:l.take y2.1.toNat=l:=Qb0 o_;simp_all
def toS {f:El t->Nat} (kp:List Nat) (c:Int) (hE:EOk P E) (hf:P.funcs[m]? = some fn)
 (h:∀ l,Gl P E (λ|3=>some (Afr t l)|_=>none) kp [] fn ((toF (.sl t) (szL f)).arg (l,()))=toX t f c l)
 (hc:(fn.body.isSome&&decide (1<=fn.ntmps)&&decide (0<=c/\c<=100000000))=true:=by kernel_rfl):(toF (.sl t) (szL f)).ok P m:=by
 rw[Qa2,Qa2] at hc;exact Fct.of (S:=toF (.sl t) (szL f)) (L:=λx=>λ|3=>some (Afr t x.1)|_=>none) hE hf hc.1.1 hc.1.2 λx hx=>⟨(h x.1)▸Aig (Qg3 hc.2) hx⟩
structure ToI where
 s:Sh
 f:s.X->Nat
 x:s.X
abbrev ToX:List ToI->Type
 | []=>Unit
 | i::is=>i.s.X×ToX is
def Ait:(is:List ToI)->ToX is
 | []=>()
 | i::is=>(i.x,Ait is)
def toC:(is:List ToI)->(ToX is->Out)->Out
 | [],K=>K ()
 | i::is,K=>.cl (toF i.s i.f) (i.x,()) λz=>toC is λzs=>K (z.1,zs)
def O1:List ToI->Prop
 | []=>True
 | i::is=>i.f i.x<=1048576/\O1 is
def Ag9 {Q:Post}:∀ (is:List ToI) (K:ToX is->Out),O1 is->(K (Ait is)).holds Q->(toC is K).holds Q
 | [],K,_,h=>h
 | i::is,K,ho,h=>Ae ho.1 λ_=>Ag9 is (λzs=>K (i.x,zs)) ho.2 h
def toT {s:Sh} {f:s.X->Nat} (kp:List Nat) (is:s.X->List ToI) (K:(x:s.X)->ToX (is x)->s.X) (hE:EOk P E) (hf:P.funcs[m]? = some fn)
 (h:∀ x,Gl P E (λ_=>none) kp [] fn ((toF s f).arg (x,()))=toC (is x) λz=>.lf (toF s f) (K x z,()))
 (hk:∀ x,K x (Ait (is x))=x) (hg:∀ x,f x<=1048576->O1 (is x))
 (hc:(fn.body.isSome&&decide (1<=fn.ntmps))=true:=by kernel_rfl):(toF s f).ok P m:=by
 rw[Qa2] at hc;exact Fct.of (S:=toF s f) (L:=λ_ _=>none) hE hf hc.1 hc.2 λx hx=>⟨(h x.1)▸Ag9 (is x.1) _ (hg _ hx) (lfY (by rw[hk];rfl))⟩
def eqF (s:Sh) [DecidableEq s.X] (p:s.X->Nat):Fct:=⟨[.v s,.v s],[rB],λ(x:s.X×s.X×Unit)=>p x.1<=1125899906842624,λ(x:s.X×s.X×Unit)=>(decide (x.1=x.2.1),())⟩
def obB (b:Bool) (x:Bool) (X:Out):Out:=match b with
 | true=>.ob (Value.bool x=Value.bool x) X
 | false=>X
def eqX (t:Ty) [DecidableEq (El t)] (v:Bool) (p:El t->Nat) (l m:List (El t)):Out :=
 .br ((l.length:Int) != (m.length:Int)) (.lf (eqF (.sl t) (szL p)) (false,()))
  (lpx (AaL t l m) ((0:Int),()) λ(y2:Int×PUnit) bk2=>
   .br (decide (y2.1<(l.length:Int)))
    (.ob (inB y2.1 l.length)<|.ob (inB y2.1 m.length)<|.cl (eqF (.el t) p) (l.getD y2.1.toNat default,m.getD y2.1.toNat default,()) λz2=>
     .br (!z2.1) (.lf (eqF (.sl t) (szL p)) (false,()))
      (.ob (l=l)<|.ob (m=m)<|obB v ((l.length:Int) != (m.length:Int))<|.ob (bk2 (w1 y2.1,()))<|.ok))
    (.lf (eqF (.sl t) (szL p)) (true,())))
def AiL {Q:Post} {b x:Bool} {X:Out} (h:X.holds Q):(obB b x X).holds Q:=by cases b<;>first|exact h|exact⟨rfl,h⟩
def AiE [DecidableEq (El t)] {v:Bool} {p:El t->Nat} {l m:List (El t)} (hp0:(eqF (.sl t) (szL p)).pre (l,m,())):(eqX t v p l m).holds ((eqF (.sl t) (szL p)).ctr (l,m,())).post:=by
 have hp0:szL p l<=1125899906842624:=hp0;have hp:l.length<=1125899906842624:=Qd8 (Ac p l) hp0;have hm:∀ i,i<l.length->p (l.getD i default)<=1125899906842624:=λi hi=>by have:=DZ p hi;omega
 clear hp0;refine Ab (λh1=>lfY ?_) (λh1=>Ai ?_ λ(y2:Int×PUnit) i2=>Ab (λh3=>Aa ?_ λo4=>Aa ?_ λo4'=>Ae ?_ λo5=>(Ab (λh6=>lfY ?_) (λh6=>Aa rfl λ_=>Aa rfl λ_=>AiL (Aa ?_ λo7=>trivial)))) (λh3=>lfY ?_));all_goals try simp only[Hv] at *
 all_goals try simp only[AaL,eqF,AhZ,Nat.reduceAdd] at *
 ·grind
 ·simp
 ·omega
 ·omega
 ·exact hm _ o_
 ·grind
 ·have hw:IntKind.i64.wrap (y2.1+1)=y2.1+1:=Ag o_;rw[hw,toNat1 o_];refine⟨⟨o_,o_,?_⟩,o_⟩;rw[take_succ o_,take_succ o_,i2.2.2,h6]
 ·have e:l.take y2.1.toNat=l:=Qb0 o_;grind
def eqS [DecidableEq (El t)] {p:El t->Nat} (kp:List Nat) (v:Bool) (hE:EOk P E) (hf:P.funcs[m]? = some fn)
 (h:∀ l r,Gl P E (λ|4=>some (AaL t l r)|_=>none) kp [] fn ((eqF (.sl t) (szL p)).arg (l,r,()))=eqX t v p l r)
 (hc:(fn.body.isSome&&decide (2<=fn.ntmps))=true:=by kernel_rfl):(eqF (.sl t) (szL p)).ok P m:=by
 rw[Qa2] at hc;exact Fct.of (S:=eqF (.sl t) (szL p)) (L:=λx=>λ|4=>some (AaL t x.1 x.2.1)|_=>none) hE hf hc.1 hc.2 λx hx=>⟨(h x.1 x.2.1)▸AiE hx⟩
inductive EqI:Type
 | s (x y:ByteArray)
 | i (x y:Int)
 | b (x y:Bool)
 | c (s:Sh) (d:DecidableEq s.X) (p:s.X->Nat) (x y:s.X)
def EqI.tru:EqI->Prop
 | .s x y=>x=y
 | .i x y=>x=y
 | .b x y=>x=y
 | .c _ _ _ x y=>x=y
def EqI.ok:EqI->Prop
 | .c _ _ p x _=>p x<=1125899906842624
 | _=>True
def Ec:List EqI->Prop
 | []=>True
 | i::is=>i.tru/\Ec is
def Hu:List EqI->Prop
 | []=>True
 | i::is=>i.ok/\Hu is
def eqC (s:Sh) [DecidableEq s.X] (p:s.X->Nat):List EqI->Out
 | []=>.lf (eqF s p) (true,())
 | .s u v::r=>.br (!u.toList==v.toList) (.lf (eqF s p) (false,())) (eqC s p r)
 | .i u v::r=>.br (u != v) (.lf (eqF s p) (false,())) (eqC s p r)
 | .b u v::r=>.br (!u==v) (.lf (eqF s p) (false,())) (eqC s p r)
 | .c s' d p' x y::r=>.cl (@eqF s' d p') (x,y,()) λz=>.br (!z.1) (.lf (eqF s p) (false,())) (eqC s p r)
def AhH {s:Sh} [DecidableEq s.X] {p:s.X->Nat} {x y:s.X}:∀ (is:List EqI),Hu is->(x=y↔Ec is)->(eqC s p is).holds ((eqF s p).ctr (x,y,())).post
 | [],_,h=>lfY (by show(true,())=(decide (x=y),());rw[Qf1 (h.2 trivial)])
 | i::r,ho,h=>by
  have no:¬ i.tru->(Out.lf (eqF s p) (false,())).holds ((eqF s p).ctr (x,y,())).post:=λhb=>lfY (by show(false,())=(decide (x=y),());rw[Qg5 λe=>hb (h.1 e).1])
  have yes:i.tru->(eqC s p r).holds ((eqF s p).ctr (x,y,())).post:=λhb=>AhH r ho.2 ⟨λe=>(h.1 e).2,λe=>h.2 ⟨hb,e⟩⟩
  cases i with
  | s u v=>exact Ab (λhb=>no (by simpa [AgG,EqI.tru] using hb)) (λhb=>yes (by simpa [AgG,EqI.tru] using hb))
  | i u v=>exact Ab (λhb=>no (by simpa [EqI.tru] using hb)) (λhb=>yes (by simpa [EqI.tru] using hb))
  | b u v=>exact Ab (λhb=>no (by simpa [EqI.tru] using hb)) (λhb=>yes (by simpa [EqI.tru] using hb))
  | c s' d p' u v=>exact Ae ho.1 λ_=>Ab (λhb=>no (by simpa [EqI.tru,eqF] using hb)) (λhb=>yes (by simpa [EqI.tru,eqF] using hb))
def eqT {s:Sh} [DecidableEq s.X] {p:s.X->Nat} (kp:List Nat) (is:s.X->s.X->List EqI) (hE:EOk P E) (hf:P.funcs[m]? = some fn)
 (h:∀ x y,Gl P E (λ_=>none) kp [] fn ((eqF s p).arg (x,y,()))=eqC s p (is x y))
 (hs:∀ x y,x=y↔Ec (is x y)) (hg:∀ x y,p x<=1125899906842624->Hu (is x y))
 (hc:(fn.body.isSome&&decide (2<=fn.ntmps))=true:=by kernel_rfl):(eqF s p).ok P m:=by
 rw[Qa2] at hc;exact Fct.of (S:=eqF s p) (L:=λ_ _=>none) hE hf hc.1 hc.2 λx hx=>⟨(h x.1 x.2.1)▸AhH (is x.1 x.2.1) (hg _ _ hx) (hs _ _)⟩
end
inductive Fe (α:Type):Type
 | s (g:α->ByteArray) (u:α->ByteArray->α)
 | i (g:α->Int) (u:α->Int->α)
 | b (g:α->Bool) (u:α->Bool->α)
 | l (s:Sh) (n:s.X->Nat) (f:s.X->Int->s.X×Int) (g:α->s.X) (u:α->s.X->α)
def Bd {α:Type} (n:α->Nat) (f:α->Int->α×Int):Prop:=∀ x k,k<=(f x k).2/\(f x k).2<=k+64*n x/\f (f x k).1 k=f x k
section
variable {α:Type}
def Fe.mk1:Fe α->α->Int->α×Int
 | .s _ u,x,k=>(u x (K4 k),k+1)
 | .i _ u,x,k=>(u x k,k+1)
 | .b _ u,x,k=>(u x (k.tmod 3==0),k+1)
 | .l _ _ f g u,x,k=>(u x (f (g x) k).1,(f (g x) k).2)
def mkA:List (Fe α)->α->Int->α×Int
 | [],x,k=>(x,k)
 | d::r,x,k=>mkA r (d.mk1 x k).1 (d.mk1 x k).2
def Fe.law:Fe α->Prop
 | .s g u=>(∀ x v,g (u x v)=v)/\∀ x,u x (g x)=x
 | .i g u=>(∀ x v,g (u x v)=v)/\∀ x,u x (g x)=x
 | .b g u=>(∀ x v,g (u x v)=v)/\∀ x,u x (g x)=x
 | .l _ n f g u=>Bd n f/\(∀ x v,g (u x v)=v)/\∀ x,u x (g x)=x
def Fe.same:Fe α->α->α->Prop
 | .s g _,x,y=>g x=g y
 | .i g _,x,y=>g x=g y
 | .b g _,x,y=>g x=g y
 | .l _ _ _ g _,x,y=>g x=g y
def AhR (d:Fe α):List (Fe α)->Prop
 | []=>True
 | e::r=>(∀ x k,d.same (e.mk1 x k).1 x)/\(∀ x k,e.same (d.mk1 x k).1 x)/\AhR d r
def Laws:List (Fe α)->Prop
 | []=>True
 | d::r=>d.law/\AhR d r/\Laws r
def Fe.isv:Fe α->α->Int->Prop
 | .s g _,x,k=>g x=K4 k
 | .i g _,x,k=>g x=k
 | .b g _,x,k=>g x=(k.tmod 3==0)
 | .l _ _ f g _,x,k=>(f (g x) k).1=g x
def Fe.cost:Fe α->α->Nat
 | .l _ n _ g _,x=>64*n (g x)
 | _,_=>1
def Fl:List (Fe α)->α->Nat
 | [],_=>0
 | d::r,x=>d.cost x+Fl r x
def Aby:List (Fe α)->Bool
 | []=>false
 | .l ..::r=>Aby r
 | _::_=>true
def Fe.same_trans {d:Fe α} {x y z:α} (h1:d.same x y) (h2:d.same y z):d.same x z:=by
 cases d<;>exact Eq.trans h1 h2
def Ic {d:Fe α} (h:d.law) (x:α) (k:Int):k<=(d.mk1 x k).2:=by
 cases d with
 | l s n f g u=>exact(h.1 _ _).1
 | _=>exact Int.le_add_one (Int.le_refl _)
def Ey:∀ {r:List (Fe α)},Laws r->∀ (x:α) (k:Int),k<=(mkA r x k).2
 | [],_,x,k=>Int.le_refl _
 | d::r,h,x,k=>Int.le_trans (Ic h.1 x k) (Ey h.2.2 _ _)
def RZ:∀ {r:List (Fe α)},Laws r->Aby r=true->∀ (x:α) (k:Int),k+1<=(mkA r x k).2
 | d::r,h,hp,x,k=>by
  have h2:=Ey h.2.2 (d.mk1 x k).1 (d.mk1 x k).2;cases d with
  | l s n f g u=>exact Int.le_trans (Int.add_le_add_right (Ic h.1 x k) 1) (RZ h.2.2 hp _ _)
  | _=>exact h2
def Pa {d:Fe α}:∀ {r:List (Fe α)},AhR d r->∀ (x:α) (k:Int),d.same (mkA r x k).1 x
 | [],_,x,k=>by cases d<;>rfl
 | e::r,h,x,k=>Fe.same_trans (Pa h.2.2 _ _) (h.1 x k)
def AdP {d:Fe α} (h:d.law) {x:α} {k:Int} (hv:d.isv x k):(d.mk1 x k).1=x:=by
 cases d with
 | s g u=>show u x (K4 k)=x;rw[<-(hv:g x=K4 k)];exact h.2 x
 | i g u=>
  show u x k=x;have hv:g x=k:=hv
  conv=>lhs;rw[<-hv]
  exact h.2 x
 | b g u=>show u x (k.tmod 3==0)=x;rw[<-(hv:g x=(k.tmod 3==0))];exact h.2 x
 | l s n f g u=>show u x (f (g x) k).1=x;rw[(hv:(f (g x) k).1=g x)];exact h.2.2 x
def Ad1 {d:Fe α} (h:d.law) {x y:α} {k:Int} (hs:d.same y (d.mk1 x k).1):d.isv y k/\(d.mk1 y k).2=(d.mk1 x k).2:=by
 cases d with
 | s g u=>exact⟨(hs:g y=g (u x (K4 k))).trans (h.1 _ _),rfl⟩
 | i g u=>exact⟨(hs:g y=g (u x k)).trans (h.1 _ _),rfl⟩
 | b g u=>exact⟨(hs:g y=g (u x (k.tmod 3==0))).trans (h.1 _ _),rfl⟩
 | l s n f g u=>
  have e:g y=(f (g x) k).1:=(hs:g y=g (u x (f (g x) k).1)).trans (h.2.1 _ _);have e2:=(h.1 (g x) k).2.2;rw[<-e] at e2;refine⟨?_,?_⟩
  ·show(f (g y) k).1=g y;rw[e2,e]
  ·show(f (g y) k).2=(f (g x) k).2;rw[e2]
def TW {d:Fe α} {r:List (Fe α)} (h:Laws (d::r)) {x:α} {k:Int} (hx:(mkA (d::r) x k).1=x):d.isv x k/\(d.mk1 x k).1=x/\(mkA r x (d.mk1 x k).2).1=x:=by
 have hs:=Pa h.2.1 (d.mk1 x k).1 (d.mk1 x k).2;have hx':(mkA r (d.mk1 x k).1 (d.mk1 x k).2).1=x:=hx;rw[hx'] at hs;have hv:=(Ad1 h.1 hs).1;have e:=AdP h.1 hv;simp_all
def PL:∀ {r:List (Fe α)},Laws r->∀ (x:α) (k:Int),mkA r (mkA r x k).1 k=mkA r x k
 | [],_,x,k=>rfl
 | d::r,h,x,k=>by have hs:=Pa h.2.1 (d.mk1 x k).1 (d.mk1 x k).2;obtain⟨hv,e2⟩:=Ad1 h.1 hs;have e:=AdP h.1 hv;have ih:=PL h.2.2 (d.mk1 x k).1 (d.mk1 x k).2;show mkA r (d.mk1 (mkA r (d.mk1 x k).1 (d.mk1 x k).2).1 k).1 (d.mk1 (mkA r (d.mk1 x k).1 (d.mk1 x k).2).1 k).2=mkA r (d.mk1 x k).1 (d.mk1 x k).2;rw[e,e2,ih]
def Yn {d:Fe α} {x y:α} (h:d.same x y):d.cost x=d.cost y:=by
 cases d with
 | l s n f g u=>show 64*n (g x)=64*n (g y);rw[(h:g x=g y)]
 | _=>rfl
def AgC {d:Fe α} (h:d.law) (x:α) (k:Int):(d.mk1 x k).2<=k+d.cost x:=by
 cases d with
 | l s n f g u=>have:=(h.1 (g x) k).2.1;show(f (g x) k).2<=k+((64*n (g x):Nat):Int);omega
 | _=>exact Int.le_refl _
def NU {d:Fe α}:∀ {r:List (Fe α)},AhR d r->∀ (x:α) (k:Int),Fl r (d.mk1 x k).1=Fl r x
 | [],_,_,_=>rfl
 | e::r,h,x,k=>by show e.cost _+Fl r _=e.cost _+Fl r _;rw[Yn (h.2.1 x k),NU h.2.2 x k]
def YD:∀ {r:List (Fe α)},Laws r->∀ (x:α) (k:Int),(mkA r x k).2<=k+Fl r x
 | [],_,x,k=>by show k<=k+((0:Nat):Int);omega
 | d::r,h,x,k=>by have h1:=AgC h.1 x k;have h2:=YD h.2.2 (d.mk1 x k).1 (d.mk1 x k).2;rw[NU h.2.1] at h2;show(mkA r (d.mk1 x k).1 (d.mk1 x k).2).2<=k+((d.cost x+Fl r x:Nat):Int);omega
def bdV {n:α->Nat} {ds:List (Fe α)} (h:Laws ds) (hc:∀ x,Fl ds x<=64*n x):Bd n (mkA ds):=λx k=>⟨Ey h x k,by have:=YD h x k;have:=hc x;omega,PL h x k⟩
def bdL {n:α->Nat} {ds:List (Fe α)} (h:Laws ds) (hc:∀ x,Fl ds x<=64*(n x+1)):Bd (szL n) (Au (mkA ds)):=λl k=>
 ⟨JN (λx k=>Ey h x k) l k,VO (λx k=>by have:=YD h x k;have:=hc x;omega) l k,WG (λx k=>PL h x k) l k⟩
end
section
variable {P:Program} {E:Env} {m:Nat} {fn:Func} {t:Ty} {s:Sh}
def mkF (s:Sh) (f:s.X->Int->s.X×Int):MS:=⟨s,λ(x:s.X) (k:Int)=>0<=k/\(f x k).2<=4000000000000000000,f⟩
def heF (s:Sh) (f:s.X->Int->s.X×Int):Fct:=⟨[.v s,aI],[rI],λ(x:s.X×Int×Unit)=>0<=x.2.1/\(f x.1 x.2.1).2<=4000000000000000000/\(f x.1 x.2.1).1=x.1,λ(x:s.X×Int×Unit)=>((f x.1 x.2.1).2,())⟩
def obI (b:Bool) (X:Out):Out:=match b with
 | true=>.ob (Value.int .i64 0=Value.int .i64 0) X
 | false=>X
def mkC (t:Ty) (v:Bool) (bk:Int×Int×List (El t)×PUnit->Prop):List (Fe (El t))->Int->List (El t)->Int->Out
 | [],i,l,k=>obI v<|.ob (bk (k,(w1 i,(l,())))) .ok
 | .s g u::r,i,l,k=>.cl GE (k,()) λz=>.ob (inB i l.length)<|.ob (i.toNat<l.length)<|.lt (List (El t)) (l.modify i.toNat λa=>u a z.1) λl'=>mkC t v bk r i l' (w1 k)
 | .i g u::r,i,l,k=>.ob (inB i l.length)<|.ob (i.toNat<l.length)<|.lt (List (El t)) (l.modify i.toNat λa=>u a k) λl'=>mkC t v bk r i l' (w1 k)
 | .b g u::r,i,l,k=>.ob ((3:Int)≠0)<|.ob (inB i l.length)<|.ob (i.toNat<l.length)<|.lt (List (El t)) (l.modify i.toNat λa=>u a (k.tmod 3==0)) λl'=>mkC t v bk r i l' (w1 k)
 | .l s n f g u::r,i,l,k=>.ob (inB i l.length)<|.ob (i.toNat<l.length)<|.ob ((mkF s f).pre (g (l.getD i.toNat default)) k)<|.lt (s.X×Int) ((mkF s f).fn (g (l.getD i.toNat default)) k) λz=>.lt (List (El t)) (l.modify i.toNat λa=>u a z.1) λl'=>mkC t v bk r i l' z.2
def Ml {k:Int} (h0:0<=k) (h1:k<=4000000000000000000):w1 k=k+1:=Ag ⟨o_,o_⟩
def Aha {v:Bool} {bk:Int×Int×List (El t)×PUnit->Prop} {Q:Post} {A R:List (El t)} {i:Int} (h0:0<=i) (hA:A.length=i.toNat) :
 ∀ (ds:List (Fe (El t))) (x:El t) (k:Int),Laws ds->0<=k->(mkA ds x k).2<=4000000000000000000->bk ((mkA ds x k).2,(w1 i,(A++(mkA ds x k).1::R,())))->(mkC t v bk ds i (A++x::R) k).holds Q
 | [],x,k,_,_,_,hb=>by cases v<;>first|exact Aa hb λ_=>trivial|exact Aa rfl λ_=>Aa hb λ_=>trivial
 | d::r,x,k,hl,hk,hm,hb=>by
  have hin:inB i (A++x::R).length:=⟨h0,by simp only[Qa4,Qa6];omega⟩;have hlt:i.toNat<(A++x::R).length:=by simp only[Qa4,Qa6];omega
  have hmo:=Ey hl.2.2 (d.mk1 x k).1 (d.mk1 x k).2;have hm':(mkA r (d.mk1 x k).1 (d.mk1 x k).2).2<=4000000000000000000:=hm;have h1:=Ic hl.1 x k;have ih:=Aha (v:=v) (Q:=Q) h0 hA r (d.mk1 x k).1 (d.mk1 x k).2 hl.2.2 o_ hm' hb;have hw:w1 k=k+1:=Ml hk o_;cases d with
  | s g u=>
   refine Ae ⟨hk,by show k<=_;omega⟩ λ_=>Aa hin λ_=>Aa hlt λ_=>DU ?_
   show(mkC t v bk r i ((A++x::R).modify i.toNat λa=>u a (K4 k)) (w1 k)).holds Q;rw[Iu hA,hw];exact ih
  | i g u=>
   refine Aa hin λ_=>Aa hlt λ_=>DU ?_
   rw[Iu hA,hw];exact ih
  | b g u=>
   refine Aa (by decide) λ_=>Aa hin λ_=>Aa hlt λ_=>DU ?_
   rw[Iu hA,hw];exact ih
  | l s n f g u=>
   refine Aa hin λ_=>Aa hlt λ_=>?_
   rw[getD_at hA];refine Aa ⟨hk,by show(f (g x) k).2<=_;exact Int.le_trans hmo hm'⟩ λ_=>DU (DU ?_)
   show(mkC t v bk r i ((A++x::R).modify i.toNat λa=>u a (f (g x) k).1) (f (g x) k).2).holds Q;rw[Iu hA];exact ih
def mkX (t:Ty) (f:El t->Int->El t×Int) (v:Bool) (ds:List (Fe (El t))) (l:List (El t)) (k:Int):Out :=
 lpx (Aiw t f l k) (k,((0:Int),(l,()))) λ(y1:Int×Int×List (El t)×PUnit) bk1=>
  .br (decide (y1.2.1<(y1.2.2.1.length:Int))) (mkC t v bk1 ds y1.2.1 y1.2.2.1 y1.1) (.leaf (.one false [vi y1.1]) [] [((0:Nat),⟨t,y1.2.2.1⟩)])
def AiI {v:Bool} {ds:List (Fe (El t))} (hl:Laws ds) {l:List (El t)} {k:Int} (hp:0<=k/\(Au (mkA ds) l k).2<=4000000000000000000) (hlen:l.length<=4000000000000000000):(mkX t (mkA ds) v ds l k).holds ((mkF (.sl t) (Au (mkA ds))).ctr l k).post:=by
 refine Ai ⟨by simp,by simp,by simp[Au],by simp[Au]⟩ λ(y1:Int×Int×List (El t)×PUnit) i1=>Ab (λh2=>?_) (λh2=>?_)
 all_goals have i3:0<=y1.2.1/\y1.2.1<=l.length/\y1.1=(Au (mkA ds) (l.take y1.2.1.toNat) k).2/\y1.2.2.1=(Au (mkA ds) (l.take y1.2.1.toNat) k).1++l.drop y1.2.1.toNat:=i1
 all_goals have hx:y1.2.2.1.length=l.length:=by rw[i3.2.2.2,Qa4,Ng,Qc0,Qe3];omega
 all_goals simp only[Qa9,Qa8,hx] at h2
 all_goals clear i1
 ·have hlt:y1.2.1.toNat<l.length:=o_
  have ht:=Kz (f:=mkA ds) hlt k;have hle:=(FE (f:=mkA ds) (λx k=>Ey hl x k) l (y1.2.1.toNat+1) k).2;have hl0:=(FE (f:=mkA ds) (λx k=>Ey hl x k) l y1.2.1.toNat k).1;have hA:(Au (mkA ds) (l.take y1.2.1.toNat) k).1.length=y1.2.1.toNat:=by rw[Ng,Qc0];omega
  rw[ht] at hle;rw[<-i3.2.2.1] at hle hl0 ht;rw[i3.2.2.2,drop_cons hlt];refine Aha i3.1 hA ds _ _ hl o_ (Int.le_trans hle hp.2) ⟨⟨?_,?_,?_,?_⟩,?_⟩
  ·show 0<=w1 y1.2.1;rw[Ml i3.1 o_];omega
  ·show w1 y1.2.1<=_;rw[Ml i3.1 o_];omega
  ·show(mkA ds _ y1.1).2=(Au (mkA ds) (l.take (w1 y1.2.1).toNat) k).2;rw[Ml i3.1 o_,toNat1 i3.1,ht]
  ·show _=(Au (mkA ds) (l.take (w1 y1.2.1).toNat) k).1++l.drop (w1 y1.2.1).toNat;rw[Ml i3.1 o_,toNat1 i3.1,ht];simp
  ·show l.length-(w1 y1.2.1).toNat<l.length-y1.2.1.toNat;rw[Ml i3.1 o_,toNat1 i3.1];omega
 ·refine MS.leafL (t:=t) (fn:=λl k=>Au (mkA ds) l k) ?_;have e1:l.take y1.2.1.toNat=l:=Qb0 o_;grind
def mkS {ds:List (Fe (El t))} (kp:List Nat) (v:Bool) (hl:Laws ds) (hE:EOk P E) (hf:P.funcs[m]? = some fn)
 (h:∀ l k,Gl P E (λ|2=>some (Aiw t (mkA ds) l k)|_=>none) kp [0] fn ((mkF (.sl t) (Au (mkA ds))).arg l k)=mkX t (mkA ds) v ds l k)
 (hc:(fn.body.isSome&&decide (2<=fn.ntmps)&&Aby ds)=true:=by kernel_rfl):(mkF (.sl t) (Au (mkA ds))).ok P m:=by
 rw[Qa2,Qa2] at hc;refine MS.of (S:=mkF (.sl t) (Au (mkA ds))) (L:=λl k=>λ|2=>some (Aiw t (mkA ds) l k)|_=>none) hE hf hc.1.1 hc.1.2 λl k hx=>⟨(h l k)▸AiI hl hx ?_⟩
 have h1:0<=k/\(Au (mkA ds) l k).2<=4000000000000000000:=hx;have:=Qb (f:=mkA ds) (RZ hl hc.2) l k;omega
def heC (t:Ty) (f:El t->Int->El t×Int) (l:List (El t)) (bk:Int×Int×PUnit->Prop):List (Fe (El t))->Int->Int->Out
 | [],i,k=>.ob (l=l)<|.ob (bk (k,(w1 i,()))) .ok
 | .s g u::r,i,k=>.ob (inB i l.length)<|.cl GE (k,()) λz=>.br (!(g (l.getD i.toNat default)).toList==z.1.toList) (.lf (heF (.sl t) (Au f)) ((-1:Int),())) (heC t f l bk r i (w1 k))
 | .i g u::r,i,k=>.ob (inB i l.length)<|.br (g (l.getD i.toNat default) != k) (.lf (heF (.sl t) (Au f)) ((-1:Int),())) (heC t f l bk r i (w1 k))
 | .b g u::r,i,k=>.ob (inB i l.length)<|.ob ((3:Int)≠0)<|.br (!g (l.getD i.toNat default)==(k.tmod 3==0)) (.lf (heF (.sl t) (Au f)) ((-1:Int),())) (heC t f l bk r i (w1 k))
 | .l s n f' g u::r,i,k=>.ob (inB i l.length)<|.cl (heF s f') (g (l.getD i.toNat default),k,()) λz=>.br (decide (z.1<0)) (.lf (heF (.sl t) (Au f)) ((-1:Int),())) (heC t f l bk r i z.1)
def Aho {f:El t->Int->El t×Int} {l:List (El t)} {bk:Int×Int×PUnit->Prop} {Q:Post} {i:Int} (hi:inB i l.length) {x:El t} (hx:l.getD i.toNat default=x) :
 ∀ (ds:List (Fe (El t))) (k:Int),Laws ds->0<=k->(mkA ds x k).2<=4000000000000000000->(mkA ds x k).1=x->bk ((mkA ds x k).2,(w1 i,()))->(heC t f l bk ds i k).holds Q
 | [],k,_,_,_,_,hb=>Aa rfl λ_=>Aa hb λ_=>trivial
 | d::r,k,hl,hk,hm,he,hb=>by
  obtain⟨hv,hd1,he2⟩:=TW hl he;have hmo:=Ey hl.2.2 (d.mk1 x k).1 (d.mk1 x k).2;have hm':(mkA r (d.mk1 x k).1 (d.mk1 x k).2).2<=4000000000000000000:=hm;have h1:=Ic hl.1 x k;have hk4:k<=4000000000000000000:=o_
  have hw:w1 k=k+1:=Ml hk hk4;have hb':bk ((mkA r (d.mk1 x k).1 (d.mk1 x k).2).2,(w1 i,())):=hb;rw[hd1] at hm' hb' hmo;have ih:=Aho (f:=f) (Q:=Q) hi hx r (d.mk1 x k).2 hl.2.2 o_ hm' he2 hb';cases d with
  | s g u=>
   have hv:g x=K4 k:=hv;refine Aa hi λ_=>Ae ⟨hk,hk4⟩ λ_=>Ab (λhc=>?_) (λ_=>?_)
   ·rw[hx,hv] at hc;exact absurd hc (by show ¬ ((!(K4 k).toList==(K4 k).toList)=true);simp)
   ·rw[hw];exact ih
  | i g u=>
   have hv:g x=k:=hv;refine Aa hi λ_=>Ab (λhc=>?_) (λ_=>?_)
   ·simp_all
   ·rw[hw];exact ih
  | b g u=>
   have hv:g x=(k.tmod 3==0):=hv;refine Aa hi λ_=>Aa (by decide) λ_=>Ab (λhc=>?_) (λ_=>?_)
   ·simp_all
   ·rw[hw];exact ih
  | l s n f' g u=>
   have hv:(f' (g x) k).1=g x:=hv;refine Aa hi λ_=>?_
   rw[hx];refine Ae ⟨hk,Int.le_trans hmo hm',hv⟩ λ_=>Ab (λhc=>?_) (λ_=>ih)
   have hc:decide ((f' (g x) k).2<0)=true:=hc;simp only[Qa9] at hc;have h1:k<=(f' (g x) k).2:=h1;omega
def heX (t:Ty) (f:El t->Int->El t×Int) (ds:List (Fe (El t))) (l:List (El t)) (k:Int):Out :=
 lpx (Ah8 t f l k) (k,((0:Int),())) λ(y1:Int×Int×PUnit) bk1=>
  .br (decide (y1.2.1<(l.length:Int))) (heC t f l bk1 ds y1.2.1 y1.1) (.lf (heF (.sl t) (Au f)) (y1.1,()))
def Aim {ds:List (Fe (El t))} (hl:Laws ds) {l:List (El t)} {k:Int} (hp:0<=k/\(Au (mkA ds) l k).2<=4000000000000000000/\(Au (mkA ds) l k).1=l) (hlen:l.length<=4000000000000000000):(heX t (mkA ds) ds l k).holds ((heF (.sl t) (Au (mkA ds))).ctr (l,k,())).post:=by
 refine Ai ⟨by simp,by simp,by simp[Au]⟩ λ(y1:Int×Int×PUnit) i1=>Ab (λh2=>?_) (λh2=>?_)
 all_goals have i3:0<=y1.2.1/\y1.2.1<=l.length/\y1.1=(Au (mkA ds) (l.take y1.2.1.toNat) k).2:=i1
 all_goals simp only[Qa9,Qa8] at h2
 all_goals clear i1
 ·have hlt:y1.2.1.toNat<l.length:=o_
  have ht:=Kz (f:=mkA ds) hlt k;have hle:=(FE (f:=mkA ds) (λx k=>Ey hl x k) l (y1.2.1.toNat+1) k).2;have hl0:=(FE (f:=mkA ds) (λx k=>Ey hl x k) l y1.2.1.toNat k).1;have heq:=VJ hp.2.2 hlt;rw[ht] at hle;rw[<-i3.2.2] at hle hl0 ht heq;refine Aho (show inB y1.2.1 l.length from⟨i3.1,h2⟩) rfl ds _ hl o_ (Int.le_trans hle hp.2.1) heq ⟨⟨?_,?_,?_⟩,?_⟩
  ·show 0<=w1 y1.2.1;rw[Ml i3.1 o_];omega
  ·show w1 y1.2.1<=_;rw[Ml i3.1 o_];omega
  ·show(mkA ds _ y1.1).2=(Au (mkA ds) (l.take (w1 y1.2.1).toNat) k).2;rw[Ml i3.1 o_,toNat1 i3.1,ht]
  ·show l.length-(w1 y1.2.1).toNat<l.length-y1.2.1.toNat;rw[Ml i3.1 o_,toNat1 i3.1];omega
 ·have e1:l.take y1.2.1.toNat=l:=Qb0 o_;rw[e1] at i3;exact lfY (by show(y1.1,())=((Au (mkA ds) l k).2,());rw[i3.2.2])
def heS {ds:List (Fe (El t))} (kp:List Nat) (hl:Laws ds) (hE:EOk P E) (hf:P.funcs[m]? = some fn)
 (h:∀ l k,Gl P E (λ|2=>some (Ah8 t (mkA ds) l k)|_=>none) kp [] fn ((heF (.sl t) (Au (mkA ds))).arg (l,k,()))=heX t (mkA ds) ds l k)
 (hc:(fn.body.isSome&&decide (2<=fn.ntmps)&&Aby ds)=true:=by kernel_rfl):(heF (.sl t) (Au (mkA ds))).ok P m:=by
 rw[Qa2,Qa2] at hc;refine Fct.of (S:=heF (.sl t) (Au (mkA ds))) (L:=λx=>λ|2=>some (Ah8 t (mkA ds) x.1 x.2.1)|_=>none) (kp:=kp) hE hf hc.1.1 hc.1.2 ?_;rintro⟨(l:List (El t)),(k:Int),_⟩ hx;refine⟨(h l k)▸Aim hl hx ?_⟩;have h1:0<=k/\(Au (mkA ds) l k).2<=4000000000000000000/\(Au (mkA ds) l k).1=l:=hx;have:=Qb (f:=mkA ds) (RZ hl hc.2) l k;omega
def mvC (s:Sh):List (Fe s.X)->s.X->Int->Out
 | [],x,k=>.leaf (.one false [vi k]) [] (EQ 0 (s.fc x))
 | .l s' n f g u::r,x,k=>.ob ((mkF s' f).pre (g x) k)<|.lt (s'.X×Int) ((mkF s' f).fn (g x) k) λz=>mvC s r (u x z.1) z.2
 | _::_,_,_=>.bad
def AgF {α:Type}:List (Fe α)->Bool
 | []=>true
 | .l ..::r=>AgF r
 | _::_=>false
def Ahp {Q:Post}:∀ (ds:List (Fe s.X)) (x:s.X) (k:Int),Laws ds->AgF ds=true->0<=k->(mkA ds x k).2<=4000000000000000000->(Out.leaf (.one false [vi (mkA ds x k).2]) [] (EQ 0 (s.fc (mkA ds x k).1))).holds Q->(mvC s ds x k).holds Q
 | [],x,k,_,_,_,_,h=>h
 | .l s' n f g u::r,x,k,hl,hs,hk,hm,h=>by have hmo:=Ey hl.2.2 (u x (f (g x) k).1) (f (g x) k).2;have h1:k<=(f (g x) k).2:=Ic hl.1 x k;exact Aa ⟨hk,Int.le_trans hmo hm⟩ λ_=>DU (Ahp r _ _ hl.2.2 hs (by show 0<=(f (g x) k).2;omega) hm h)
def mvT {ds:List (Fe s.X)} (kp kl:List Nat) (hl:Laws ds) (hE:EOk P E) (hf:P.funcs[m]? = some fn)
 (h:∀ x k,Gl P E (λ_=>none) kp kl fn ((mkF s (mkA ds)).arg x k)=mvC s ds x k)
 (hc:(fn.body.isSome&&decide (2<=fn.ntmps)&&AgF ds)=true:=by kernel_rfl):(mkF s (mkA ds)).ok P m:=by
 rw[Qa2,Qa2] at hc;exact MS.of (S:=mkF s (mkA ds)) (L:=λ_ _ _=>none) (kp:=kp) (kl:=kl) hE hf hc.1.1 hc.1.2 λx k hx=>⟨(h x k)▸Ahp ds x k hl hc.2 hx.1 hx.2 (MS.leaf ⟨Fj _,trivial,rfl⟩)⟩
def hvC (s:Sh) (f:s.X->Int->s.X×Int):List (Fe s.X)->s.X->Int->Out
 | [],x,k=>.lf (heF s f) (k,())
 | .l s' n f' g u::r,x,k=>.cl (heF s' f') (g x,k,()) λz=>.br (decide (z.1<0)) (.lf (heF s f) ((-1:Int),())) (hvC s f r x z.1)
 | _::_,_,_=>.bad
def Ahz {Q:Post} {f:s.X->Int->s.X×Int} {x:s.X}:∀ (ds:List (Fe s.X)) (k:Int),Laws ds->AgF ds=true->0<=k->(mkA ds x k).2<=4000000000000000000->(mkA ds x k).1=x->(Out.lf (heF s f) ((mkA ds x k).2,())).holds Q->(hvC s f ds x k).holds Q
 | [],k,_,_,_,_,_,h=>h
 | .l s' n f' g u::r,k,hl,hs,hk,hm,he,h=>by
  obtain⟨hv,hd1,he2⟩:=TW hl he;have hv:(f' (g x) k).1=g x:=hv;have hd1:u x (f' (g x) k).1=x:=hd1;have hm:(mkA r (u x (f' (g x) k).1) (f' (g x) k).2).2<=4000000000000000000:=hm;have h:(Out.lf (heF s f) ((mkA r (u x (f' (g x) k).1) (f' (g x) k).2).2,())).holds Q:=h;rw[hd1] at hm h;have hmo:=Ey hl.2.2 x (f' (g x) k).2;have h1:k<=(f' (g x) k).2:=Ic hl.1 x k;refine Ae ⟨hk,Int.le_trans hmo hm,hv⟩ λ_=>Ab (λhc=>?_) (λ_=>Ahz r _ hl.2.2 hs (by show 0<=(f' (g x) k).2;omega) hm he2 h)
  have hc:decide ((f' (g x) k).2<0)=true:=hc;grind
def hvT {ds:List (Fe s.X)} (kp:List Nat) (hl:Laws ds) (hE:EOk P E) (hf:P.funcs[m]? = some fn)
 (h:∀ x k,Gl P E (λ_=>none) kp [] fn ((heF s (mkA ds)).arg (x,k,()))=hvC s (mkA ds) ds x k)
 (hc:(fn.body.isSome&&decide (2<=fn.ntmps)&&AgF ds)=true:=by kernel_rfl):(heF s (mkA ds)).ok P m:=by
 rw[Qa2,Qa2] at hc;exact Fct.of (S:=heF s (mkA ds)) (L:=λ_ _=>none) (kp:=kp) hE hf hc.1.1 hc.1.2 λx hx=>⟨(h x.1 x.2.1)▸Ahz ds x.2.1 hl hc.2 hx.1 hx.2.1 hx.2.2 (lfY rfl)⟩
end
end Go.D
namespace Go.D
set_option linter.unusedSimpArgs false
set_option maxRecDepth 100000
set_option maxHeartbeats 2000000
def szAddr (x:Sb_):Nat:=x.host.size+x.path.size
def Bm (x:St_):Nat:=x.name.size+x.value.size
def szToken (x:Sh_):Nat:=x.name.size+szL Bm x.bo+x.text.size
def Dv (x:So_):Nat:=x.rest.size
def szNode (x:Su_):Nat:=x.name.size+x.text.size+szL Bm x.bo
def szBuilder (x:Se_):Nat:=szL szNode x.bi+x.bl.length
def LP (x:Sx_):Nat:=x.name.size
def Eb (x:Sm_):Nat:=szL LP x.rules
def Dl (x:Sr_):Nat:=x.text.size
def szPolicy (x:Si_):Nat:=szL Af x.bp+szL Af x.styles+szL Af x.images+x.nonce.size
def Ad (x:Sd_):Nat:=x.body.size+x.bj.size
def szRequest (x:Sf_):Nat:=szAddr x.to+x.from_.size+x.digest.size
def EJ (x:Sv_):Nat:=x.path.size+Ad x.bd
def A1 (x:Sk_):Nat:=x.host.size+szL EJ x.files
def AM (x:Sq_):Nat:=x.top.size+szAddr x.to+Ad x.bd
def szCache (x:Sl_):Nat:=szL AM x.bg
def DO (x:Sw_):Nat:=x.top.size+szAddr x.to
def szNet (x:Ss_):Nat:=szL A1 x.servers+szCache x.cache+szL DO x.log
def AP (x:Sn_):Nat:=szAddr x.to+x.digest.size+x.body.size
def Az (x:Sg_):Nat:=szAddr x.to+x.body.size
def szPage (x:Sa_):Nat:=szAddr x.addr+szPolicy x.bj+Dv x.tok+szL szToken x.bn+szBuilder x.ba+szL AP x.bf+szL Az x.bh+szL szAddr x.bg+szL szAddr x.ran+szL Af x.log
def EV (x:Sp_):Nat:=szAddr x.to+Ad x.bd
def FV (x:Sj_):Nat:=szAddr x.to+Ad x.bd
def Uu (x:Sc_):Nat:=szNet x.net+szPage x.page+szL Af x.parts+szL FV x.conns+szL EV x.guesses
def AgV (x y:ByteArray):(x==y)=decide (x=y):=by
 rw[Bool.eq_iff_iff,Qa9];constructor
 ·intro h;have h':(x.data==y.data)=true:=h;cases x;cases y;simpa using h'
 ·rintro rfl;show(x.data==x.data)=true;simp
def Dh (x y:Sb_):(x.host==y.host&&(x.path==y.path&&true))=decide (x=y):=by
 rw[Bool.eq_iff_iff];cases x;cases y;simp[AgV]
def SL:List (Fe ByteArray):=[.s (λx=>x) λ_ v=>v]
def G8:ByteArray->Int->ByteArray×Int:=mkA SL
def LX:Laws SL:=by repeat' first|exact λ_ _=>rfl|exact λ_=>rfl|constructor
def KJ:Bd (szL Af) (Au G8):=bdL LX (λx=>by simp only[Fl,Fe.cost,SL];omega)
def Aio:List (Fe Int):=[.i (λx=>x) λ_ v=>v]
def AcE:Int->Int->Int×Int:=mkA Aio
def Yr:Laws Aio:=by repeat' first|exact λ_ _=>rfl|exact λ_=>rfl|constructor
def Mj:Bd List.length (Au AcE):=λl k=>by
 have h:=bdL (n:=λ_=>0) Yr (λx=>by simp only[Fl,Fe.cost,Aio];omega) l k;have e:∀ l:List Int,szL (λ_=>0) l=l.length:=λl=>by
  induction l with
  | nil=>rfl
  | cons a l ih=>simp only[szL,Qc7,List.sum_cons,Qa6] at *;omega
 rw[e] at h;exact h
def AfY:List (Fe Sb_):=[.s (λx=>x.host) λx v=>{x with host:=v},.s (λx=>x.path) λx v=>{x with path:=v}]
def RC:Sb_->Int->Sb_×Int:=mkA AfY
def SC:Laws AfY:=by repeat' first|exact λ_ _=>rfl|exact λ_=>rfl|constructor
def WW:Bd (szL szAddr) (Au RC):=bdL SC (λx=>by simp only[Fl,Fe.cost,AfY,szAddr];omega)
def Af1:List (Fe St_):=[.s (λx=>x.name) λx v=>{x with name:=v},.s (λx=>x.value) λx v=>{x with value:=v}]
def QN:St_->Int->St_×Int:=mkA Af1
def S6:Laws Af1:=by repeat' first|exact λ_ _=>rfl|exact λ_=>rfl|constructor
def Oh:Bd (szL Bm) (Au QN):=bdL S6 (λx=>by simp only[Fl,Fe.cost,Af1,Bm];omega)
def ZJ:List (Fe Sh_):=[.i (λx=>x.kind) λx v=>{x with kind:=v},.s (λx=>x.name) λx v=>{x with name:=v},.l (.sl .attr) (szL Bm) (Au QN) (λx=>x.bo) λx v=>{x with bo:=v},.s (λx=>x.text) λx v=>{x with text:=v}]
def OC:Sh_->Int->Sh_×Int:=mkA ZJ
def PR:Laws ZJ:=by repeat' first|exact λ_ _=>rfl|exact λ_=>rfl|exact Oh|constructor
def Ta:Bd (szL szToken) (Au OC):=bdL PR (λx=>by simp only[Fl,Fe.cost,ZJ,szToken];omega)
def Aes:List (Fe Su_):=[.s (λx=>x.name) λx v=>{x with name:=v},.s (λx=>x.text) λx v=>{x with text:=v},.i (λx=>x.parent) λx v=>{x with parent:=v},.l (.sl .attr) (szL Bm) (Au QN) (λx=>x.bo) λx v=>{x with bo:=v}]
def T8:Su_->Int->Su_×Int:=mkA Aes
def TE:Laws Aes:=by repeat' first|exact λ_ _=>rfl|exact λ_=>rfl|exact Oh|constructor
def VU:Bd (szL szNode) (Au T8):=bdL TE (λx=>by simp only[Fl,Fe.cost,Aes,szNode];omega)
def O7:List (Fe Se_):=[.l (.sl .node) (szL szNode) (Au T8) (λx=>x.bi) λx v=>{x with bi:=v},.l (.sl .int) List.length (Au AcE) (λx=>x.bl) λx v=>{x with bl:=v}]
def JH:Se_->Int->Se_×Int:=mkA O7
def J5:Laws O7:=by repeat' first|exact λ_ _=>rfl|exact λ_=>rfl|exact Mj|exact VU|constructor
def Qo:Bd szBuilder JH:=bdV J5 (λx=>by simp only[Fl,Fe.cost,O7,szBuilder];omega)
def SV:List (Fe Si_):=[.l (.sl .str) (szL Af) (Au G8) (λx=>x.bp) λx v=>{x with bp:=v},.l (.sl .str) (szL Af) (Au G8) (λx=>x.styles) λx v=>{x with styles:=v},.l (.sl .str) (szL Af) (Au G8) (λx=>x.images) λx v=>{x with images:=v}]
def Lh:Si_->Int->Si_×Int:=mkA SV
def MT:Laws SV:=by repeat' first|exact λ_ _=>rfl|exact λ_=>rfl|exact KJ|constructor
def To:Bd szPolicy Lh:=bdV MT (λx=>by simp only[Fl,Fe.cost,SV,szPolicy];omega)
def Aft:List (Fe Sv_):=[.s (λx=>x.path) λx v=>{x with path:=v},.i (λx=>x.bd.status) λx v=>{x with bd:={x.bd with status:=v}},.i (λx=>x.bd.kind) λx v=>{x with bd:={x.bd with kind:=v}},.s (λx=>x.bd.body) λx v=>{x with bd:={x.bd with body:=v}},.i (λx=>x.bd.age) λx v=>{x with bd:={x.bd with age:=v}},.b (λx=>x.bd.shares) λx v=>{x with bd:={x.bd with shares:=v}},.s (λx=>x.bd.bj) λx v=>{x with bd:={x.bd with bj:=v}}]
def UN:Sv_->Int->Sv_×Int:=mkA Aft
def Te:Laws Aft:=by repeat' first|exact λ_ _=>rfl|exact λ_=>rfl|constructor
def VP:Bd (szL EJ) (Au UN):=bdL Te (λx=>by simp only[Fl,Fe.cost,Aft,EJ,Ad];omega)
def Sr:List (Fe Sk_):=[.s (λx=>x.host) λx v=>{x with host:=v},.l (.sl .file) (szL EJ) (Au UN) (λx=>x.files) λx v=>{x with files:=v}]
def Lr:Sk_->Int->Sk_×Int:=mkA Sr
def Lv:Laws Sr:=by repeat' first|exact λ_ _=>rfl|exact λ_=>rfl|exact VP|constructor
def RM:Bd (szL A1) (Au Lr):=bdL Lv (λx=>by simp only[Fl,Fe.cost,Sr,A1];omega)
def Y8:List (Fe Sq_):=[.s (λx=>x.top) λx v=>{x with top:=v},.s (λx=>x.to.host) λx v=>{x with to:={x.to with host:=v}},.s (λx=>x.to.path) λx v=>{x with to:={x.to with path:=v}},.i (λx=>x.bd.status) λx v=>{x with bd:={x.bd with status:=v}},.i (λx=>x.bd.kind) λx v=>{x with bd:={x.bd with kind:=v}},.s (λx=>x.bd.body) λx v=>{x with bd:={x.bd with body:=v}},.i (λx=>x.bd.age) λx v=>{x with bd:={x.bd with age:=v}},.b (λx=>x.bd.shares) λx v=>{x with bd:={x.bd with shares:=v}},.s (λx=>x.bd.bj) λx v=>{x with bd:={x.bd with bj:=v}},.i (λx=>x.until_) λx v=>{x with until_:=v}]
def PS:Sq_->Int->Sq_×Int:=mkA Y8
def OJ:Laws Y8:=by repeat' first|exact λ_ _=>rfl|exact λ_=>rfl|constructor
def SX:Bd (szL AM) (Au PS):=bdL OJ (λx=>by simp only[Fl,Fe.cost,Y8,szAddr,AM,Ad];omega)
def Yk:List (Fe Sl_):=[.l (.sl .entry) (szL AM) (Au PS) (λx=>x.bg) λx v=>{x with bg:=v}]
def OK:Sl_->Int->Sl_×Int:=mkA Yk
def Ps:Laws Yk:=by repeat' first|exact λ_ _=>rfl|exact λ_=>rfl|exact SX|constructor
def VL:Bd szCache OK:=bdV Ps (λx=>by simp only[Fl,Fe.cost,Yk,szCache];omega)
def AfV:List (Fe Sw_):=[.s (λx=>x.top) λx v=>{x with top:=v},.s (λx=>x.to.host) λx v=>{x with to:={x.to with host:=v}},.s (λx=>x.to.path) λx v=>{x with to:={x.to with path:=v}},.b (λx=>x.guess) λx v=>{x with guess:=v}]
def Ud:Sw_->Int->Sw_×Int:=mkA AfV
def Sk:Laws AfV:=by repeat' first|exact λ_ _=>rfl|exact λ_=>rfl|constructor
def Wr:Bd (szL DO) (Au Ud):=bdL Sk (λx=>by simp only[Fl,Fe.cost,AfV,szAddr,DO];omega)
def AiA:List (Fe Ss_):=[.l (.sl .server) (szL A1) (Au Lr) (λx=>x.servers) λx v=>{x with servers:=v},.l (.el .cache) szCache OK (λx=>x.cache) λx v=>{x with cache:=v},.l (.sl .sent) (szL DO) (Au Ud) (λx=>x.log) λx v=>{x with log:=v}]
def Tx:Ss_->Int->Ss_×Int:=mkA AiA
def Ya:Laws AiA:=by repeat' first|exact λ_ _=>rfl|exact λ_=>rfl|exact Wr|exact RM|exact VL|constructor
def UJ:Bd szNet Tx:=bdV Ya (λx=>by simp only[Fl,Fe.cost,AiA,szNet];omega)
def AeP:List (Fe Sn_):=[.i (λx=>x.mode) λx v=>{x with mode:=v},.s (λx=>x.to.host) λx v=>{x with to:={x.to with host:=v}},.s (λx=>x.to.path) λx v=>{x with to:={x.to with path:=v}},.s (λx=>x.digest) λx v=>{x with digest:=v},.i (λx=>x.node) λx v=>{x with node:=v},.b (λx=>x.done) λx v=>{x with done:=v},.i (λx=>x.code) λx v=>{x with code:=v},.s (λx=>x.body) λx v=>{x with body:=v}]
def TN:Sn_->Int->Sn_×Int:=mkA AeP
def Sg:Laws AeP:=by repeat' first|exact λ_ _=>rfl|exact λ_=>rfl|constructor
def WJ:Bd (szL AP) (Au TN):=bdL Sg (λx=>by simp only[Fl,Fe.cost,AeP,szAddr,AP];omega)
def R4:List (Fe Sg_):=[.s (λx=>x.to.host) λx v=>{x with to:={x.to with host:=v}},.s (λx=>x.to.path) λx v=>{x with to:={x.to with path:=v}},.b (λx=>x.done) λx v=>{x with done:=v},.i (λx=>x.code) λx v=>{x with code:=v},.s (λx=>x.body) λx v=>{x with body:=v}]
def Lt:Sg_->Int->Sg_×Int:=mkA R4
def Mq:Laws R4:=by repeat' first|exact λ_ _=>rfl|exact λ_=>rfl|constructor
def Qm:Bd (szL Az) (Au Lt):=bdL Mq (λx=>by simp only[Fl,Fe.cost,R4,szAddr,Az];omega)
def Aew:List (Fe Sa_):=[.l (.el .bj) szPolicy Lh (λx=>x.bj) λx v=>{x with bj:=v},.l (.sl .token) (szL szToken) (Au OC) (λx=>x.bn) λx v=>{x with bn:=v},.l (.el .ba) szBuilder JH (λx=>x.ba) λx v=>{x with ba:=v},.l (.sl .slot) (szL AP) (Au TN) (λx=>x.bf) λx v=>{x with bf:=v},.l (.sl .module) (szL Az) (Au Lt) (λx=>x.bh) λx v=>{x with bh:=v},.l (.sl .addr) (szL szAddr) (Au RC) (λx=>x.bg) λx v=>{x with bg:=v},.l (.sl .addr) (szL szAddr) (Au RC) (λx=>x.ran) λx v=>{x with ran:=v},.l (.sl .str) (szL Af) (Au G8) (λx=>x.log) λx v=>{x with log:=v}]
def F6:Sa_->Int->Sa_×Int:=mkA Aew
def Sy:Laws Aew:=by repeat' first|exact λ_ _=>rfl|exact λ_=>rfl|exact WW|exact Qm|exact WJ|exact KJ|exact Ta|exact Qo|exact To|constructor
def ZF:Bd szPage F6:=bdV Sy (λx=>by simp only[Fl,Fe.cost,Aew,szPage];omega)
def Ac2 (x:Ss_) (k:Int):{ servers:=(Tx x k).1.servers,cache:=(Tx x k).1.cache,log:=(Tx x k).1.log,now:=x.now:Ss_ }=(Tx x k).1:=k_
def Yv (x:Sa_) (k:Int):{ addr:=x.addr,bj:={ set_:=x.bj.set_,bp:=(F6 x k).1.bj.bp,styles:=(F6 x k).1.bj.styles,images:=(F6 x k).1.bj.images,nonce:=x.bj.nonce:Si_ },tok:=x.tok,bn:=(F6 x k).1.bn,ended:=x.ended,ba:=(F6 x k).1.ba,bf:=(F6 x k).1.bf,bh:=(F6 x k).1.bh,bg:=(F6 x k).1.bg,block:=x.block,inline:=x.inline,bm:=x.bm,bq:=x.bq,ran:=(F6 x k).1.ran,log:=(F6 x k).1.log,loaded:=x.loaded:Sa_ }=(F6 x k).1:=k_
def Ae9 (x:Sb_):List SzI:=[.p x.host.size,.p x.path.size]
def Afz (x:Sb_) (h:Sh.good (.el .addr) x):OW (Ae9 x):=by simp only[Ae9,Sh.good,Sh.fc,enc,Qg0,Qg8,false_implies,implies_true,F2,OW,SzI.ok,maxLen] at *;grind
def AeQ (x:Sb_):List ToI:=[]
def AiC (x:Sb_) (z:Unit):Sb_:=⟨x.host,x.path⟩
def AfQ (x:Sb_) (h:szAddr x<=1048576):O1 (AeQ x):=by simp only[szAddr,AeQ,O1,Qe8] at *<;>omega
def Yc (x y:Sb_):List EqI:=[.s x.host y.host,.s x.path y.path]
def Afv (x y:Sb_):x=y↔Ec (Yc x y):=by cases x;cases y;simp[Yc,Ec,EqI.tru]
def Af5 (x y:Sb_) (h:szAddr x<=1125899906842624):Hu (Yc x y):=by simp only[szAddr,Yc,Hu,EqI.ok,Qe8,true_and] at *<;>omega
def Z0 (x y:St_):List EqI:=[.s x.name y.name,.s x.value y.value]
def Aev (x y:St_):x=y↔Ec (Z0 x y):=by cases x;cases y;simp[Z0,Ec,EqI.tru]
def AeV (x y:St_) (h:Bm x<=1125899906842624):Hu (Z0 x y):=by simp only[Bm,Z0,Hu,EqI.ok,Qe8,true_and] at *<;>omega
def Qi (x y:Sh_):List EqI:=[.i x.kind y.kind,.s x.name y.name,.c (.sl .attr) inferInstance (szL Bm) x.bo y.bo,.s x.text y.text]
def Acl (x y:Sh_):x=y↔Ec (Qi x y):=by cases x;cases y;simp[Qi,Ec,EqI.tru]
def AbY (x y:Sh_) (h:szToken x<=1125899906842624):Hu (Qi x y):=by simp only[szToken,Qi,Hu,EqI.ok,Qe8,true_and] at *<;>omega
def GO (x y:So_):List EqI:=[.s x.rest y.rest]
def QQ (x y:So_):x=y↔Ec (GO x y):=by cases x;cases y;simp[GO,Ec,EqI.tru]
def Q5 (x y:So_) (h:Dv x<=1125899906842624):Hu (GO x y):=by simp only[Dv,GO,Hu,EqI.ok,Qe8,true_and] at *<;>omega
def X4 (x y:Su_):List EqI:=[.s x.name y.name,.s x.text y.text,.i x.parent y.parent,.c (.sl .attr) inferInstance (szL Bm) x.bo y.bo]
def Agd (x y:Su_):x=y↔Ec (X4 x y):=by cases x;cases y;simp[X4,Ec,EqI.tru]
def Aet (x y:Su_) (h:szNode x<=1125899906842624):Hu (X4 x y):=by simp only[szNode,X4,Hu,EqI.ok,Qe8,true_and] at *<;>omega
def Jy (x y:Se_):List EqI:=[.c (.sl .node) inferInstance (szL szNode) x.bi y.bi,.c (.sl .int) inferInstance List.length x.bl y.bl]
def VG (x y:Se_):x=y↔Ec (Jy x y):=by cases x;cases y;simp[Jy,Ec,EqI.tru]
def Vo (x y:Se_) (h:szBuilder x<=1125899906842624):Hu (Jy x y):=by simp only[szBuilder,Jy,Hu,EqI.ok,Qe8,true_and] at *<;>omega
def MX (x y:Si_):List EqI:=[.b x.set_ y.set_,.c (.sl .str) inferInstance (szL Af) x.bp y.bp,.c (.sl .str) inferInstance (szL Af) x.styles y.styles,.c (.sl .str) inferInstance (szL Af) x.images y.images,.s x.nonce y.nonce]
def XK (x y:Si_):x=y↔Ec (MX x y):=by cases x;cases y;simp[MX,Ec,EqI.tru]
def XG (x y:Si_) (h:szPolicy x<=1125899906842624):Hu (MX x y):=by simp only[szPolicy,MX,Hu,EqI.ok,Qe8,true_and] at *<;>omega
def MR (x:Sd_):List SzI:=[.p x.body.size,.p x.bj.size]
def S1 (x:Sd_) (h:Sh.good (.el .bd) x):OW (MR x):=by simp only[MR,Sh.good,Sh.fc,enc,Qg0,Qg8,false_implies,implies_true,F2,OW,SzI.ok,maxLen] at *;grind
def LY (x:Sd_):List ToI:=[]
def Y1 (x:Sd_) (z:Unit):Sd_:=⟨x.status,x.kind,x.body,x.age,x.shares,x.bj⟩
def TH (x:Sd_) (h:Ad x<=1048576):O1 (LY x):=by simp only[Ad,LY,O1,Qe8] at *<;>omega
def HQ (x y:Sd_):List EqI:=[.i x.status y.status,.i x.kind y.kind,.s x.body y.body,.i x.age y.age,.b x.shares y.shares,.s x.bj y.bj]
def SO (x y:Sd_):x=y↔Ec (HQ x y):=by cases x;cases y;simp[HQ,Ec,EqI.tru]
def SR (x y:Sd_) (h:Ad x<=1125899906842624):Hu (HQ x y):=by simp only[Ad,HQ,Hu,EqI.ok,Qe8,true_and] at *<;>omega
def Agv (x:Sv_):List SzI:=[.p x.path.size,.c (.el .bd) Ad x.bd]
def Agy (x:Sv_) (h:Sh.good (.el .file) x):OW (Agv x):=by simp only[Agv,Sh.good,Sh.fc,enc,Qg0,Qg8,false_implies,implies_true,F2,OW,SzI.ok,maxLen] at *;grind
def Afm (x:Sv_):List ToI:=[⟨(.el .bd),Ad,x.bd⟩]
def Aix (x:Sv_) (z:Sd_×Unit):Sv_:=⟨x.path,z.1⟩
def Afi (x:Sv_) (h:EJ x<=1048576):O1 (Afm x):=by simp only[EJ,Afm,O1,Qe8] at *<;>omega
def ZB (x y:Sv_):List EqI:=[.s x.path y.path,.c (.el .bd) inferInstance Ad x.bd y.bd]
def Af2 (x y:Sv_):x=y↔Ec (ZB x y):=by cases x;cases y;simp[ZB,Ec,EqI.tru]
def Agm (x y:Sv_) (h:EJ x<=1125899906842624):Hu (ZB x y):=by simp only[EJ,ZB,Hu,EqI.ok,Qe8,true_and] at *<;>omega
def S2 (x:Sk_):List SzI:=[.p x.host.size,.c (.sl .file) (szL EJ) x.files]
def Zm (x:Sk_) (h:Sh.good (.el .server) x):OW (S2 x):=by simp only[S2,Sh.good,Sh.fc,enc,Qg0,Qg8,false_implies,implies_true,F2,OW,SzI.ok,maxLen] at *;grind
def SZ (x:Sk_):List ToI:=[⟨(.sl .file),(szL EJ),x.files⟩]
def Afl (x:Sk_) (z:(List Sv_)×Unit):Sk_:=⟨x.host,z.1⟩
def ZL (x:Sk_) (h:A1 x<=1048576):O1 (SZ x):=by simp only[A1,SZ,O1,Qe8] at *<;>omega
def MD (x y:Sk_):List EqI:=[.s x.host y.host,.c (.sl .file) inferInstance (szL EJ) x.files y.files]
def YS (x y:Sk_):x=y↔Ec (MD x y):=by cases x;cases y;simp[MD,Ec,EqI.tru]
def XN (x y:Sk_) (h:A1 x<=1125899906842624):Hu (MD x y):=by simp only[A1,MD,Hu,EqI.ok,Qe8,true_and] at *<;>omega
def Xc (x:Sq_):List SzI:=[.p x.top.size,.c (.el .addr) szAddr x.to,.c (.el .bd) Ad x.bd]
def Aco (x:Sq_) (h:Sh.good (.el .entry) x):OW (Xc x):=by simp only[Xc,Sh.good,Sh.fc,enc,Qg0,Qg8,false_implies,implies_true,F2,OW,SzI.ok,maxLen] at *;grind
def Zd (x:Sq_):List ToI:=[⟨(.el .addr),szAddr,x.to⟩,⟨(.el .bd),Ad,x.bd⟩]
def AhD (x:Sq_) (z:Sb_×Sd_×Unit):Sq_:=⟨x.top,z.1,z.2.1,x.until_⟩
def Abm (x:Sq_) (h:AM x<=1048576):O1 (Zd x):=by simp only[AM,Zd,O1,Qe8] at *<;>omega
def QE (x y:Sq_):List EqI:=[.s x.top y.top,.c (.el .addr) inferInstance szAddr x.to y.to,.c (.el .bd) inferInstance Ad x.bd y.bd,.i x.until_ y.until_]
def Aa0 (x y:Sq_):x=y↔Ec (QE x y):=by cases x;cases y;simp[QE,Ec,EqI.tru]
def Adg (x y:Sq_) (h:AM x<=1125899906842624):Hu (QE x y):=by simp only[AM,QE,Hu,EqI.ok,Qe8,true_and] at *<;>omega
def W4 (x:Sl_):List SzI:=[.c (.sl .entry) (szL AM) x.bg]
def Ac8 (x:Sl_) (h:Sh.good (.el .cache) x):OW (W4 x):=by simp only[W4,Sh.good,Sh.fc,enc,Qg0,Qg8,false_implies,implies_true,F2,OW,SzI.ok,maxLen] at *;grind
def X1 (x:Sl_):List ToI:=[⟨(.sl .entry),(szL AM),x.bg⟩]
def Ahs (x:Sl_) (z:(List Sq_)×Unit):Sl_:=⟨z.1⟩
def AcG (x:Sl_) (h:szCache x<=1048576):O1 (X1 x):=by simp only[szCache,X1,O1,Qe8] at *<;>omega
def Rj (x y:Sl_):List EqI:=[.c (.sl .entry) inferInstance (szL AM) x.bg y.bg]
def AcJ (x y:Sl_):x=y↔Ec (Rj x y):=by cases x;cases y;simp[Rj,Ec,EqI.tru]
def Adh (x y:Sl_) (h:szCache x<=1125899906842624):Hu (Rj x y):=by simp only[szCache,Rj,Hu,EqI.ok,Qe8,true_and] at *<;>omega
def Afe (x:Sw_):List SzI:=[.p x.top.size,.c (.el .addr) szAddr x.to]
def AeB (x:Sw_) (h:Sh.good (.el .sent) x):OW (Afe x):=by simp only[Afe,Sh.good,Sh.fc,enc,Qg0,Qg8,false_implies,implies_true,F2,OW,SzI.ok,maxLen] at *;grind
def Ael (x:Sw_):List ToI:=[⟨(.el .addr),szAddr,x.to⟩]
def Aic (x:Sw_) (z:Sb_×Unit):Sw_:=⟨x.top,z.1,x.guess⟩
def AeW (x:Sw_) (h:DO x<=1048576):O1 (Ael x):=by simp only[DO,Ael,O1,Qe8] at *<;>omega
def AaG (x y:Sw_):List EqI:=[.s x.top y.top,.c (.el .addr) inferInstance szAddr x.to y.to,.b x.guess y.guess]
def Aeq (x y:Sw_):x=y↔Ec (AaG x y):=by cases x;cases y;simp[AaG,Ec,EqI.tru]
def AfX (x y:Sw_) (h:DO x<=1125899906842624):Hu (AaG x y):=by simp only[DO,AaG,Hu,EqI.ok,Qe8,true_and] at *<;>omega
def Aik (x:Ss_):List SzI:=[.c (.sl .server) (szL A1) x.servers,.c (.el .cache) szCache x.cache,.c (.sl .sent) (szL DO) x.log]
def AgJ (x:Ss_) (h:Sh.good (.el .net) x):OW (Aik x):=by simp only[Aik,Sh.good,Sh.fc,enc,Qg0,Qg8,false_implies,implies_true,F2,OW,SzI.ok,maxLen] at *;grind
def AiF (x:Ss_):List ToI:=[⟨(.sl .server),(szL A1),x.servers⟩,⟨(.el .cache),szCache,x.cache⟩,⟨(.sl .sent),(szL DO),x.log⟩]
def AnX (x:Ss_) (z:(List Sk_)×Sl_×(List Sw_)×Unit):Ss_:=⟨z.1,z.2.1,z.2.2.1,x.now⟩
def AgZ (x:Ss_) (h:szNet x<=1048576):O1 (AiF x):=by simp only[szNet,AiF,O1,Qe8] at *<;>omega
def AgL (x y:Ss_):List EqI:=[.c (.sl .server) inferInstance (szL A1) x.servers y.servers,.c (.el .cache) inferInstance szCache x.cache y.cache,.c (.sl .sent) inferInstance (szL DO) x.log y.log,.i x.now y.now]
def AhE (x y:Ss_):x=y↔Ec (AgL x y):=by cases x;cases y;simp[AgL,Ec,EqI.tru]
def Ag8 (x y:Ss_) (h:szNet x<=1125899906842624):Hu (AgL x y):=by simp only[szNet,AgL,Hu,EqI.ok,Qe8,true_and] at *<;>omega
def AaJ (x y:Sn_):List EqI:=[.i x.mode y.mode,.c (.el .addr) inferInstance szAddr x.to y.to,.s x.digest y.digest,.i x.node y.node,.b x.done y.done,.i x.code y.code,.s x.body y.body]
def Aef (x y:Sn_):x=y↔Ec (AaJ x y):=by cases x;cases y;simp[AaJ,Ec,EqI.tru]
def Af9 (x y:Sn_) (h:AP x<=1125899906842624):Hu (AaJ x y):=by simp only[AP,AaJ,Hu,EqI.ok,Qe8,true_and] at *<;>omega
def Nl (x y:Sg_):List EqI:=[.c (.el .addr) inferInstance szAddr x.to y.to,.b x.done y.done,.i x.code y.code,.s x.body y.body]
def ZG (x y:Sg_):x=y↔Ec (Nl x y):=by cases x;cases y;simp[Nl,Ec,EqI.tru]
def YM (x y:Sg_) (h:Az x<=1125899906842624):Hu (Nl x y):=by simp only[Az,Nl,Hu,EqI.ok,Qe8,true_and] at *<;>omega
def AaF (x y:Sa_):List EqI:=[.c (.el .addr) inferInstance szAddr x.addr y.addr,.c (.el .bj) inferInstance szPolicy x.bj y.bj,.c (.el .tokenizer) inferInstance Dv x.tok y.tok,.c (.sl .token) inferInstance (szL szToken) x.bn y.bn,.b x.ended y.ended,.c (.el .ba) inferInstance szBuilder x.ba y.ba,.c (.sl .slot) inferInstance (szL AP) x.bf y.bf,.c (.sl .module) inferInstance (szL Az) x.bh y.bh,.c (.sl .addr) inferInstance (szL szAddr) x.bg y.bg,.i x.block y.block,.i x.inline y.inline,.i x.bm y.bm,.i x.bq y.bq,.c (.sl .addr) inferInstance (szL szAddr) x.ran y.ran,.c (.sl .str) inferInstance (szL Af) x.log y.log,.b x.loaded y.loaded]
def Aek (x y:Sa_):x=y↔Ec (AaF x y):=by cases x;cases y;simp[AaF,Ec,EqI.tru]
def Afy (x y:Sa_) (h:szPage x<=1125899906842624):Hu (AaF x y):=by simp only[szPage,AaF,Hu,EqI.ok,Qe8,true_and] at *<;>omega
def GN:Fct:=eqF (.sl .str) (szL Af)
def Qu:MS:=mkF (.sl .str) (Au G8)
def Qf:Fct:=heF (.sl .str) (Au G8)
def Fq:Fct:=toF (.sl .int) List.length
def HW:Fct:=eqF (.sl .int) List.length
def Gz:MS:=mkF (.sl .int) (Au AcE)
def XP:Fct:=heF (.sl .int) (Au AcE)
def AbX:Fct:=eqF (.sl .addr) (szL szAddr)
def VD:MS:=mkF (.sl .addr) (Au RC)
def V0:Fct:=heF (.sl .addr) (Au RC)
def Tr:Fct:=szF (.el .addr) szAddr
def My:Fct:=toF (.el .addr) szAddr
def AeA:Fct:=eqF (.el .addr) szAddr
def AaT:Fct:=eqF (.sl .attr) (szL Bm)
def Vt:MS:=mkF (.sl .attr) (Au QN)
def Vp:Fct:=heF (.sl .attr) (Au QN)
def AfR:Fct:=eqF (.el .attr) Bm
def Zz:Fct:=eqF (.sl .token) (szL szToken)
def SI:MS:=mkF (.sl .token) (Au OC)
def Tv:Fct:=heF (.sl .token) (Au OC)
def AcI:Fct:=eqF (.el .token) szToken
def RD:Fct:=eqF (.el .tokenizer) Dv
def Abg:Fct:=eqF (.sl .node) (szL szNode)
def Ws:MS:=mkF (.sl .node) (Au T8)
def VN:Fct:=heF (.sl .node) (Au T8)
def AfZ:Fct:=eqF (.el .node) szNode
def Wh:Fct:=eqF (.el .ba) szBuilder
def QR:MS:=mkF (.el .ba) JH
def QT:Fct:=heF (.el .ba) JH
def Xz:Fct:=eqF (.el .bj) szPolicy
def R8:MS:=mkF (.el .bj) Lh
def TA:Fct:=heF (.el .bj) Lh
def SA:Fct:=szF (.el .bd) Ad
def SD:Fct:=toF (.el .bd) Ad
def Sw:Fct:=eqF (.el .bd) Ad
def Abt:Fct:=szF (.sl .file) (szL EJ)
def AbZ:Fct:=toF (.sl .file) (szL EJ)
def Abv:Fct:=eqF (.sl .file) (szL EJ)
def VT:MS:=mkF (.sl .file) (Au UN)
def WV:Fct:=heF (.sl .file) (Au UN)
def Aea:Fct:=szF (.el .file) EJ
def Agq:Fct:=toF (.el .file) EJ
def Agg:Fct:=eqF (.el .file) EJ
def VH:Fct:=szF (.sl .server) (szL A1)
def V8:Fct:=toF (.sl .server) (szL A1)
def V2:Fct:=eqF (.sl .server) (szL A1)
def RO:MS:=mkF (.sl .server) (Au Lr)
def QM:Fct:=heF (.sl .server) (Au Lr)
def Y4:Fct:=szF (.el .server) A1
def Xr:Fct:=toF (.el .server) A1
def X9:Fct:=eqF (.el .server) A1
def Aam:Fct:=szF (.sl .entry) (szL AM)
def ZY:Fct:=toF (.sl .entry) (szL AM)
def AaI:Fct:=eqF (.sl .entry) (szL AM)
def S0:MS:=mkF (.sl .entry) (Au PS)
def Tp:Fct:=heF (.sl .entry) (Au PS)
def Aa9:Fct:=szF (.el .entry) AM
def AbL:Fct:=toF (.el .entry) AM
def AbC:Fct:=eqF (.el .entry) AM
def Acp:Fct:=szF (.el .cache) szCache
def AcQ:Fct:=toF (.el .cache) szCache
def Ab2:Fct:=eqF (.el .cache) szCache
def Wf:MS:=mkF (.el .cache) OK
def Wj:Fct:=heF (.el .cache) OK
def Ac5:Fct:=szF (.sl .sent) (szL DO)
def Adf:Fct:=toF (.sl .sent) (szL DO)
def AcO:Fct:=eqF (.sl .sent) (szL DO)
def WE:MS:=mkF (.sl .sent) (Au Ud)
def Wy:Fct:=heF (.sl .sent) (Au Ud)
def Agi:Fct:=szF (.el .sent) DO
def Aed:Fct:=toF (.el .sent) DO
def Aen:Fct:=eqF (.el .sent) DO
def Aah:Fct:=szF (.el .net) szNet
def NI:Fct:=toF (.el .net) szNet
def N5:Fct:=eqF (.el .net) szNet
def Ig:MS:=mkF (.el .net) Tx
def Lm:Fct:=heF (.el .net) Tx
def Abs:Fct:=eqF (.sl .slot) (szL AP)
def Wi:MS:=mkF (.sl .slot) (Au TN)
def VY:Fct:=heF (.sl .slot) (Au TN)
def AfD:Fct:=eqF (.el .slot) AP
def Wc:Fct:=eqF (.sl .module) (szL Az)
def Qs:MS:=mkF (.sl .module) (Au Lt)
def QW:Fct:=heF (.sl .module) (Au Lt)
def XO:Fct:=eqF (.el .module) Az
def L4:Fct:=eqF (.el .page) szPage
def Jr:MS:=mkF (.el .page) F6
def Je:Fct:=heF (.el .page) F6
end Go.D
namespace Go.D
def AlP:(∀ x:Sh_,(⟨x.kind,x.name,x.bo,x.text⟩:Sh_)=x)/\(∀ x:Su_,(⟨x.name,x.text,x.parent,x.bo⟩:Su_)=x)/\(∀ x:Se_,(⟨x.bi,x.bl⟩:Se_)=x)/\(∀ x:Si_,(⟨x.set_,x.bp,x.styles,x.images,x.nonce⟩:Si_)=x)/\(∀ x:Sa_,(⟨x.addr,x.bj,x.tok,x.bn,x.ended,x.ba,x.bf,x.bh,x.bg,x.block,x.inline,x.bm,x.bq,x.ran,x.log,x.loaded⟩:Sa_)=x)/\(∀ x:Sk_,(⟨x.host,x.files⟩:Sk_)=x)/\(∀ x:Sl_,(⟨x.bg⟩:Sl_)=x)/\(∀ x:Ss_,(⟨x.servers,x.cache,x.log,x.now⟩:Ss_)=x)/\(∀ x:Sc_,(⟨x.net,x.page,x.parts,x.conns,x.guesses⟩:Sc_)=x)/\(∀ x:Sm_,(⟨x.rules⟩:Sm_)=x)/\(∀ x:Sn_,(⟨x.mode,x.to,x.digest,x.node,x.done,x.code,x.body⟩:Sn_)=x)/\(∀ x:Sg_,(⟨x.to,x.done,x.code,x.body⟩:Sg_)=x)/\(∀ x:Sb_,(⟨x.host,x.path⟩:Sb_)=x)/\(∀ x:Sf_,(⟨x.kind,x.to,x.from_,x.digest⟩:Sf_)=x)/\(∀ x:Sd_,(⟨x.status,x.kind,x.body,x.age,x.shares,x.bj⟩:Sd_)=x)/\(∀ x:Sj_,(⟨x.to,x.left,x.guess,x.bd⟩:Sj_)=x)/\(∀ x:Sp_,(⟨x.to,x.bd,x.used⟩:Sp_)=x)/\(∀ x:Sq_,(⟨x.top,x.to,x.bd,x.until_⟩:Sq_)=x)/\(∀ x:Sw_,(⟨x.top,x.to,x.guess⟩:Sw_)=x)/\(∀ x:Sv_,(⟨x.path,x.bd⟩:Sv_)=x) :=
 by repeat' first|exact λ_=>rfl|constructor
def std:(type_of% @AlP)/\(type_of% @AgA)/\(type_of% @AhT)/\∀ {α:Type} (a b:α),(a≠b) = ¬a=b:=⟨AlP,AgA,AhT,λ_ _=>rfl⟩
def KP (a b:List Nat):List Nat:=a++(b++b.map (· + 1000000))
def lv:List (Nat×LInv)->Wk
 | [],_=>none
 | (m,x)::r,n=>bif n==m then some x else lv r n
def Fct.p {S:Fct} {P:Program} {E:Env} {f:Nat} {fn:Func} (kp:List Nat) (L:As S.as->Wk) (hE:EOk P E) (hf:P.funcs[f]? = some fn)
 (hh:∀ x,S.pre x->HoldsE (Gl P E (L x) kp [] fn (S.arg x)) (S.ctr x).post) (hc:(fn.body.isSome&&decide (S.as.length<=fn.ntmps))=true:=by kernel_rfl):S.ok P f:=by
 rw[Qa2] at hc;exact Fct.of (L:=L) hE hf hc.1 hc.2 hh
end Go.D
namespace Go.D
set_option linter.unusedSectionVars false
section
variable {α:Type} [DecidableEq α] [Inhabited α]
def CU:List α->List α
 | []=>[]
 | [a]=>[a]
 | a::b::l=>if a=b then CU (b::l) else a::CU (b::l)
def J4:∀ {l:List α} {x:α},x∈CU l↔x∈l:=by
 intro l
 induction l with
 | nil=>simp[CU]
 | cons a l ih=>
  intro x;cases l with
  | nil=>simp[CU]
  | cons b l=>
   simp only[CU];grind
def KI (a b:α) (l:List α):CU (a::b::l)=if a=b then CU (b::l) else a::CU (b::l):=rfl
def SK:∀ (l:List α) (x:α),CU (l++[x])=if l.getLast? = some x then CU l else CU l++[x]:=by
 intro l
 induction l with
 | nil=>intro x;rfl
 | cons a l ih=>
  intro x;cases l with
  | nil=>
   simp only[Qe6,Qf8,CU,List.getLast?_singleton,Qa0];split<;>simp_all
  | cons b l=>
   have h:=ih x;simp only[Qe6] at h ⊢;rw[KI,h,KI,show(a::b::l).getLast? = (b::l).getLast? from by simp];grind
def GV {l:List α} {k:Nat} (h0:0<k) (hk:k<l.length):CU (l.take (k+1))=if l.getD k default=l.getD (k-1) default then CU (l.take k) else CU (l.take k)++[l.getD k default]:=by
 rw[take_succ hk,SK];grind
def NK (l:List α) (h:l.length<=1):CU l=l:=by
 match l,h with
 | [],_=>rfl
 | [_],_=>rfl
def V7:∀ (l:List α),(CU l).length<=l.length:=by
 intro l
 induction l with
 | nil=>simp[CU]
 | cons a l ih=>
  cases l with
  | nil=>simp[CU]
  | cons b l=>simp only[CU];split<;>simp only[Qa6] at *<;>omega
structure CompInv (s d:List α) (k0 k k2:Int):Prop where
 c2:1<=k2
 c0:1<=k0
 le:k0+k2<=s.length
 lo:k0<=k
 hi:k<k0+k2
 len:d.length=s.length
 dr:d.drop k.toNat=s.drop k.toNat
 tk:d.take k.toNat=CU (s.take (k0+k2).toNat)
def K0 {s d:List α} {k i:Nat} (h:d.drop k=s.drop k) (hi:k<=i):d.getD i default=s.getD i default:=by
 have h1:(d.drop k)[i-k]? = (s.drop k)[i-k]?:=by rw[h]
 grind
def Vh {s:List α} {k:Int} (h1:1<=k) (h2:k<s.length) (hd:CU (s.take k.toNat)=s.take k.toNat) (he:s.getD k.toNat default=s.getD (k-1).toNat default):CompInv s s k k 1:=by
 refine⟨o_,h1,o_,o_,o_,rfl,rfl,?_⟩;have:=GV (l:=s) (k:=k.toNat) o_ o_;rw[show(k-1).toNat=k.toNat-1 from o_] at he;grind
def Z4 {s:List α} {k:Int} (h1:1<=k) (h2:k<s.length) (hd:CU (s.take k.toNat)=s.take k.toNat) (he:¬ s.getD k.toNat default=s.getD (k-1).toNat default):CU (s.take (k+1).toNat)=s.take (k+1).toNat:=by
 have:=GV (l:=s) (k:=k.toNat) o_ o_;rw[show(k-1).toNat=k.toNat-1 from o_] at he;rw[Qa3 he,hd] at this;rw[show(k+1).toNat=k.toNat+1 from o_,this,take_succ o_]
def CompInv.at_ {s d:List α} {k0 k k2:Int} (h:CompInv s d k0 k k2) (hlt:k0+k2<s.length) :
 d.getD (k0.toNat+k2.toNat) default=s.getD (k0+k2).toNat default/\d.getD (k0.toNat+(k2-1).toNat) default=s.getD ((k0+k2).toNat-1) default:=by
 obtain⟨a,b,c,e,f,g,i,j⟩:=h;refine⟨?_,?_⟩
 ·rw[K0 i o_];congr 1;omega
 ·rw[K0 i o_];congr 1;omega
def Xj {s d:List α} {k0 k k2:Int} (h:CompInv s d k0 k k2) (hlt:k0+k2<s.length) (he:d.getD (k0.toNat+k2.toNat) default=d.getD (k0.toNat+(k2-1).toNat) default):CompInv s d k0 k (k2+1):=by
 obtain⟨e1,e2⟩:=h.at_ hlt;have ht:=h.tk;obtain⟨a,b,c,e,f,g,i,j⟩:=h;refine⟨o_,b,o_,e,o_,g,i,?_⟩;have:=GV (l:=s) (k:=(k0+k2).toNat) o_ o_;rw[<-e1,<-e2,Qa1 he] at this;rw[show(k0+(k2+1)).toNat=(k0+k2).toNat+1 from o_,this,ht]
def Acy {s d:List α} {k0 k k2:Int} (h:CompInv s d k0 k k2) (hlt:k0+k2<s.length) (he:¬ d.getD (k0.toNat+k2.toNat) default=d.getD (k0.toNat+(k2-1).toNat) default):CompInv s (d.modify k.toNat λ_=>d.getD (k0.toNat+k2.toNat) default) k0 (k+1) (k2+1):=by
 obtain⟨e1,e2⟩:=h.at_ hlt;have ht:=h.tk;obtain⟨a,b,c,e,f,g,i,j⟩:=h;have hk:k.toNat<d.length:=o_
 refine⟨o_,b,o_,o_,o_,by simp[g],?_,?_⟩
 ·rw[show(k+1).toNat=k.toNat+1 from o_];have h1:(d.modify k.toNat λ_=>d.getD (k0.toNat+k2.toNat) default).drop (k.toNat+1)=d.drop (k.toNat+1):=by grind
  rw[h1];have:=congrArg (List.drop 1) i;simpa [List.drop_drop,Nat.add_comm] using this
 ·have:=GV (l:=s) (k:=(k0+k2).toNat) o_ o_;rw[<-e1,<-e2,Qa3 he,<-ht] at this;rw[show(k0+(k2+1)).toNat=(k0+k2).toNat+1 from o_,this,show(k+1).toNat=k.toNat+1 from o_];rw[take_succ (by simpa using hk)];congr 1
  ·apply List.ext_getElem?;intro x;simp only[Qf4,List.getElem?_modify];split
   ·have hx:¬ k.toNat=x:=o_
    simp_all
   ·rfl
  ·simp_all
def AbV {s d:List α} {k0 k k2:Int} (h:CompInv s d k0 k k2) (hge:s.length<=k0+k2) (r:List α):cut (I3 d k.toNat r) 0 (k.toNat-0)=CU s:=by
 obtain⟨a,b,c,e,f,g,i,j⟩:=h;have hk:k.toNat<=d.length:=o_
 rw[Qb0 (show s.length<=(k0+k2).toNat from o_)] at j;rw[<-j];simp[cut,I3,Qc0,Nat.min_eq_left hk]
end
def Hc {α:Type} (xs ys:List α) (e:Nat):(I3 xs e ys).length=min e xs.length+ys.length+(xs.length-(e+ys.length)):=by simp[I3];omega
def Kg {α:Type} (xs:List α) (a n:Nat):(cut xs a n).length=min n (xs.length-a):=by simp[cut]
def AcP {α:Type} (xs ys:List α) (k:Nat) (h:k<=xs.length):cut (I3 xs k ys) 0 k=xs.take k:=by
 simp[cut,I3,Qc0,Nat.min_eq_left h]
def YJ {α:Type} {l:List α} {i j m:Nat} (hj:j<=l.length) (hi:i<=j) (hm:m=l.length-j):(I3 l i (cut l j m)).take (i+m)=l.take i++l.drop j:=by
 have h1:cut l j m=l.drop j:=by simp[cut,hm,Qb0]
 rw[h1];have h2:(l.take i++l.drop j).length=i+m:=by simp;omega
 simp only[I3];grind
def UY {α:Type} [DecidableEq α] [Inhabited α] {le lt:α->α->Prop} (h0:∀ a b,le a b->a≠b->lt a b) (h1:∀ a b c,lt a b->le b c->lt a c):∀ {l:List α},l.Pairwise le->(CU l).Pairwise lt:=by
 intro l
 induction l with
 | nil=>intro _;exact List.Pairwise.nil
 | cons a l ih=>
  intro h;cases l with
  | nil=>exact List.pairwise_singleton _ _
  | cons b l=>
   have h':=List.pairwise_cons.1 h;simp only[CU];split
   ·exact ih h'.2
   ·rename_i e;refine List.pairwise_cons.2 ⟨λx hx=>?_,ih h'.2⟩;have hx':=J4.1 hx;have hab:=h0 _ _ (h'.1 b Qd7) e;rcases Qd6.1 hx' with e2|hin
    ·rw[e2];exact hab
    ·exact h1 _ _ _ hab ((List.pairwise_cons.1 h'.2).1 x hin)
end Go.D
