/-
  Contracts of functions that the law of FnExactRightUses reaches, part 8.
-/
import Derived.Test.YtfklkhgmgglloaaGreatDoorVPRightUses4
namespace Go.Proofs.YtfklkhgmgglloaaGreatDoor.fnRightUses
open Go.Proofs.YtfklkhgmgglloaaGreatDoor
open Go.D Go.Proofs.Tryz
set_option maxRecDepth 100000
set_option maxHeartbeats 2000000
set_option linter.defProp false
set_option linter.unusedVariables false
set_option linter.unusedSimpArgs false
def LD (p:A_):Prop:=p.loaded=true->isParsed p=true/\(∀ s,s∈p.bf->s.done=true)/\∀ m,m∈p.bi->m.done=true
def AfV {p:A_} (hp:isParsed p=true) (hl:p.loaded=true):(step1 p).2=false:=by
 unfold isParsed at hp;have hp0:=hp;simp only[T_,az] at hp;have hn:¬ (stepP p).2=true:=by unfold stepP;rw[F_ (by simp only[Classical.not_not];exact hp.2.2.2),F_ (by simp only[Classical.not_not];exact hp.2.2.1)];unfold takeToke;rw[G_ (.inl hp.2.1)];exact Bool.false_ne_true
 unfold step1;rw[F_ hn];unfold stepT;rw[G_ (.inr (.inl hl))]
def AhX {R:HO->M_} {Q:List Z_} {p:A_} (hp:isParsed p=true) (hl:p.loaded=true):(iS R Q (cq R p [])).2=false:=by
 unfold isParsed at hp;simp only[T_,az] at hp;have hn:¬ (stepP (cq R p [])).2=true:=by unfold stepP;rw[F_ (show ¬ (cq R p []).inline≠0 by simp only[Classical.not_not];exact hp.2.2.2),F_ (show ¬ (cq R p []).block≠0 by simp only[Classical.not_not];exact hp.2.2.1)];unfold takeToke;rw[G_ (.inl (show(p.bp++[]).length=0 by rw[cS];exact hp.2.1))];exact Bool.false_ne_true
 unfold iS;rw[F_ hn,F_];unfold stepT;rw[G_ (.inr (.inl (show(wM (cq R p []) Q).loaded=true from hl)))];exact Bool.false_ne_true
abbrev isA (a:HO):Bool:=isName a.host&&isName a.path
def nR (R:HO->M_) (n:P_):Prop:=(∀ a,isA a=true->answerTo n.servers a=R a)/\(∀ a,isA a=false->R a=notF)/\∀ e,e∈n.cache.bh->isA e.to=true->e.bd=R e.to
def Als {R:HO->M_} {n:P_} (h:nR R n) {t:ByteArray} {a:HO} (ha:isA a=true) (hl:(lookUp n.cache t a n.now).isSome=true):(lookUp n.cache t a n.now).getD notF=R a:=by
 unfold lookUp at *
 cases q:n.cache.bh.find? (freshEntry t a n.now) with
 | none=>rw[q] at hl;exact absurd hl (by decide)
 | some e=>
  have h1:=List.find?_some q;simp only[freshEntry,T_,az] at h1;have:=h.2.2 e (List.mem_of_find?_eq_some q) (by rw[h1.2.1];exact ha);rw[h1.2.1] at this;exact this
def keep_R {R:HO->M_} {n:P_} (h:nR R n) (t:ByteArray) (a:HO):nR R (keepA n t a (R a)):=by
 unfold keepA;split
 .refine⟨h.1,h.2.1,λe he hA=>?_⟩;have he:e∈(sto n.cache t a (R a) n.now).bh:=he;unfold sto at he;split at he
  .unfold putE at he;split at he
   .obtain⟨i,hi,e2⟩:=List.getElem_of_mem he;simp only[List.getElem_modify] at e2;split at e2
    .rw[<-e2];rfl
    .rw[<-e2] at hA ⊢;exact h.2.2 _ (List.getElem_mem _) hA
   .rcases ah.1 he with he|he
    .exact h.2.2 e he hA
    .rw[List.mem_singleton.1 he];rfl
  .exact h.2.2 e he hA
 .exact h
def H2 {R:HO->M_} {n:P_} (h:nR R n) (t:ByteArray) (a:HO) (g:Bool):nR R (fetchNo n t a g).1/\(fetchNo n t a g).2=R a:=by
 unfold fetchNo;split
 .rename_i h1;exact⟨h,(h.2.1 a h1).symm⟩
 .rename_i h1;have hA:isA a=true:=by simpa using h1
  split
  .rename_i h2;exact⟨h,Als h hA h2⟩
  .refine⟨?_,h.1 a hA⟩;have hl:nR R (logS n t a g):=by unfold logS;split<;>exact h
   dsimp only;split
   .exact hl
   .have:=keep_R hl t a;rw[<-h.1 a hA] at this;exact this
def Ajs (x y:ByteArray):toke (x++y)=(feedA x).1++toke ((feedA x).2++y):=by
 unfold toke;rw[Wb];simp only[bK]
def ND (x:ByteArray):x++(⟨#[]⟩:ByteArray)=x:=by rw[<-AM (x++_),Ar];simp[I,ofL]
def Afg (x:ByteArray):toke (feedA x).2=endT (feedA x).2:=by
 have h:=Wb x ⟨#[]⟩;rw[ND,ND] at h;have h1:(feedA x).1=(feedA x).1++(feedA (feedA x).2).1:=by have:=cG Prod.fst h;exact this
 have h2:(feedA x).2=(feedA (feedA x).2).2:=by have:=cG Prod.snd h;exact this
 have h3:(feedA (feedA x).2).1=[]:=by have:=cG List.length h1;rw[al] at this;exact List.length_eq_zero_iff.1 O
 unfold toke;rw[h3,<-h2];rfl
def Vc:toke ⟨#[]⟩=[]:=by decide +kernel
def Aca (p:A_):(stepP p).1.loaded=p.loaded:=by
 have hr:∀ (q:A_) (c:ByteArray) (w:Bool),(runC q c w).loaded=q.loaded:=λq c w=>by unfold runC;split<;>rfl
 have hs:∀ (q:A_) (m:Int) (to dg:ByteArray) (n:Int),(addS q m to dg n).1.loaded=q.loaded:=λq m to dg n=>by unfold addS;split<;>rfl
 unfold stepP;split
 .unfold stepI;split
  .exact hr p _ true
  .rfl
 .split
  .unfold stepB;split
   .rfl
   .split
    .rfl
    .split
     .exact hr p _ true
     .rfl
  .unfold takeToke;split
   .rfl
   .show(takeT p (p.bp.getD 0 default)).loaded=_;unfold takeT;split
    .unfold ele;split
     .exact hs _ _ _ _ _
     .split
      .exact hs _ _ _ _ _
      .rfl
    .split
     .unfold scri;split
      .split<;>rfl
      .split
       .exact hs _ _ _ _ _
       .split
        .unfold addE;split
         .rw[LQ];rfl
         .rfl
        .exact hs (taken p (p.bp.getD 0 default)) 3 _ _ _
     .rfl
def On {J:Type} [Inhabited J] {f:J->Bool} {l:List J} (h:openI f l 0=[]):∀ x,x∈l->f x=false:=by
 intro x hx;obtain⟨i,hi,e⟩:=List.getElem_of_mem hx;have e2:l.getD i default=x:=by rw[bB,aH hi,e];rfl
 cases hf:f x with
 | false=>rfl
 | true=>
  have:(0:Int)+i∈openI f l 0:=(EZ f l 0 _).2 ⟨i,hi,rfl,by rw[e2];exact hf⟩;rw[h] at this;simp at this
def Afv {p:A_} (h:p.loaded=false):LD (step1 p).1:=by
 unfold step1;split
 .intro hl;rw[Aca,h] at hl;exact absurd hl (by decide)
 .unfold stepT;split
  .intro hl;exact absurd (h.symm.trans hl) (by decide)
  .rename_i h0;simp only[not_or,Bool.not_eq_false] at h0;split
   .unfold tai;split
    .intro hl;exact absurd (h.symm.trans hl) (by decide)
    .split
     .intro hl;have:(runC p (defS p).body false).loaded=p.loaded:=by unfold runC;split<;>rfl
      have hl:(runC p (defS p).body false).loaded=true:=hl;rw[this,h] at hl;exact absurd hl (by decide)
     .intro hl;exact absurd (h.symm.trans hl) (by decide)
   .split
    .unfold tailE;split
     .intro hl;exact absurd (h.symm.trans hl) (by decide)
     .intro hl;have hl:(enter p (entN p)).loaded=true:=hl;rw[(FY p (entN p)).2.2.1,h] at hl;exact absurd hl (by decide)
    .split
     .intro hl;exact absurd (h.symm.trans hl) (by decide)
     .rename_i h3;intro _;simp only[not_or,Nat.not_lt,Nat.le_zero_eq] at h3;have e1:=On (List.length_eq_zero_iff.1 h3.1);have e2:=On (List.length_eq_zero_iff.1 h3.2);have hp:=h0.1;unfold say;split
      .exact⟨hp,λs hs=>by simpa using e1 s hs,λm hm=>by simpa using e2 m hm⟩
      .exact⟨hp,λs hs=>by simpa using e1 s hs,λm hm=>by simpa using e2 m hm⟩
def AdP:∀ (n:Nat) {p:A_},LD p->LD (adv n p)
 | 0,p,h=>h
 | n+1,p,h=>by
  rw[adv];split
  .rename_i hs;refine AdP n (Afv ?_);cases hl:p.loaded with
   | false=>rfl
   | true=>rw[AfV (h hl).1 hl] at hs;exact absurd hs (by decide)
  .exact h
def ZN {p:A_} (h:LD p) (a:HO) (x:M_):LD (tak p a x):=by
 refine AdP 2000 ?_;have hl:∀ q:A_,(fillMo q a x).loaded=q.loaded:=λq=>by
  unfold fillMo;split
  .rfl
  .have hf:∀ (l:List HO) (y:A_),(l.foldl askM y).loaded=y.loaded:=by
    intro l
    induction l with
    | nil=>intro y;rfl
    | cons b l ih=>intro y;rw[dy,ih,LQ]
   exact hf _ _
 intro h2;rw[hl] at h2;have h3:=h h2;have e1:fil p a x=p:=by
  have:p.bf.map (fillF p a x)=p.bf:=by rw[List.map_congr_left (g:=id) λs hs=>(Di p a x s).2.1 (h3.2.1 s hs),List.map_id]
  unfold fil;rw[this]
 rw[e1];have e2:fillMo p a x=p:=by
  unfold fillMo;rw[G_];rcases Int.lt_or_le (findM p.bi a) 0 with e|e
  .exact .inl e
  .exact .inr (h3.2.2 _ (HI e))
 rw[e2];exact h3
structure SI (R:HO->M_) (Q:List Z_) (C0:A_) (l:N_):Prop where
 ri:RI R l.page
 qi:QI R Q l.page.bm
 co:∃ k,cq R l.page (toke (ofL (txt l)))=iN R Q k C0
 tk:l.parts.length=0->l.page.tok=default
 cn:∀ c,c∈l.conns->c.bd=R c.to
 gs:∀ g,g∈l.guesses->g.bd=R g.to
 nt:nR R l.net
 ld:LD l.page
def AbV {R:HO->M_} {Q:List Z_} {C0:A_} {l:N_} (hl:LI l) (h:SI R Q C0 l) (he:l.page.ended=true):toke (ofL (txt l))=[]:=by
 have hp:l.parts.length=0:=by rw[hl.ed] at he;exact ee he
 have:txt l=[]:=by unfold txt;rw[h.tk hp,List.length_eq_zero_iff.1 hp];rfl
 rw[this];exact Vc
def IC {R:HO->M_} {Q:List Z_} {C0:A_} (hR:∀ a,rOk (R a)) {l:N_} (hl:LI l) (h:SI R Q C0 l) (a:HO) {n:P_} (hn:nR R n) {gs:List bv} (hg:∀ g,g∈gs->g.bd=R g.to) {cs:List ao} (hc:∀ c,c∈cs->c.bd=R c.to):SI R Q C0 { l with net:=n,guesses:=gs,conns:=cs,page:=tak l.page a (R a)}:=by
 have h1:=AaF (q0:=toke (ofL (txt l))) a h.ri (hR a) h.qi (AbV hl h);obtain⟨k,hk⟩:=h1.2;obtain⟨k0,hk0⟩:=h.co;have ht:=(F5 (a:=a) hl.pi hl.mi (hR a) (by have:=hl.bg;omega)).2.2.2.2.2.2.2;refine⟨h1.1,by show QI R Q (tak l.page a (R a)).bm;rw[ht.2.1];exact h.qi,⟨k0+k,?_⟩,λe=>by show(tak l.page a (R a)).tok=_;rw[ht.2.2.2];exact h.tk e,hc,hg,hn,ZN h.ld a _⟩;have e:txt { l with net:=n,guesses:=gs,conns:=cs,page:=tak l.page a (R a)}=txt l:=by show I (tak l.page a (R a)).tok.rest++_=_;rw[ht.2.2.2];rfl
 rw[e];show cq R (tak l.page a (R a)) _=_;rw[hk,hk0,Tt]
def Tz {R:HO->M_} {Q:List Z_} {C0:A_} {l:N_} (h:SI R Q C0 l) {n:P_} (hn:nR R n) {gs:List bv} (hg:∀ g,g∈gs->g.bd=R g.to) {cs:List ao} (hc:∀ c,c∈cs->c.bd=R c.to):SI R Q C0 { l with net:=n,guesses:=gs,conns:=cs }:=⟨h.ri,h.qi,h.co,h.tk,hc,hg,hn,h.ld⟩
def Ag6 {R:HO->M_} {Q:List Z_} {C0:A_} {l:N_} (hl:LI l) (h:SI R Q C0 l):SI R Q C0 (arri l).1:=by
 unfold arri;split
 .exact h
 .rename_i hp;obtain⟨s,r,hps⟩:∃ s r,l.parts=s::r:=by
   cases hc:l.parts with
   | nil=>rw[hc] at hp;exact absurd rfl hp
   | cons s r=>exact⟨s,r,rfl⟩
  have he:l.page.ended=false:=by rw[hl.ed,decide_eq_false hp]
  have hnl:l.page.loaded=false:=by
   cases hq:l.page.loaded with
   | false=>rfl
   | true=>
    have:=(h.ld hq).1;unfold isParsed at this;rw[he] at this;exact absurd (show false=true from this) (by decide)
  have hg:l.parts.getD 0 default=s:=by rw[hps];rfl
  have hd:l.parts.drop 1=r:=by rw[hps];rfl
  have ht:ofL (txt l)=(l.page.tok.rest++s)++ofL (r.flatMap I):=by unfold txt;rw[hps,Dh,AM,List.flatMap_cons,Dh,AM];rw[<-AM (l.page.tok.rest++(s++_)),<-AM (l.page.tok.rest++s++_),Ar,Ar,Ar,Ar,bK]
  have ha:arriveT l.page s=atP l.page (feedA (l.page.tok.rest++s)).1 ⟨(feedA (l.page.tok.rest++s)).2⟩ false:=by unfold arriveT atP;rw[F_ (by rw[he];decide)];rw[<-he]
  have htx:=hl.tx;have htl:txt l=I (l.page.tok.rest++s)++r.flatMap I:=by unfold txt;rw[hps,Ar];simp
  rw[htl] at htx;have hf:=Abw (l.page.tok.rest++s) (r.flatMap I) htx;have h1:=Mn hl.pi ⟨(feedA (l.page.tok.rest++s)).2⟩ false hf.1;obtain⟨k0,hk0⟩:=h.co;rw[ht,Ajs] at hk0;have hq:∃ q,arr l=q/\RI R q/\q.bm=l.page.bm/\q.loaded=false/\(r.length=0->q.tok=default)/\(q.ended=true->r.length=0)/\cq R q (toke (ofL (I q.tok.rest++r.flatMap I)))=cq R l.page ((feedA (l.page.tok.rest++s)).1++toke ((feedA (l.page.tok.rest++s)).2++ofL (r.flatMap I))):=by
   refine⟨_,rfl,?_⟩;unfold arr;rw[hg,ha];split
   .rename_i h3;have hr:r=[]:=by rw[hps] at h3;simpa using h3
    subst hr;rw[List.flatMap_nil,cS] at hf;have h4:=Ahc _ hf.2;have h8:endPage (atP l.page (feedA (l.page.tok.rest++s)).1 ⟨(feedA (l.page.tok.rest++s)).2⟩ false)=atP (atP l.page (feedA (l.page.tok.rest++s)).1 ⟨(feedA (l.page.tok.rest++s)).2⟩ false) (endT (feedA (l.page.tok.rest++s)).2) default true:=by unfold endPage;exact F_ (by simp[atP])
    rw[h8];have h5:=Mn h1.1 default true (ts:=endT (feedA (l.page.tok.rest++s)).2) λt ht=>(h4 t ht).1
    refine⟨⟨h5.1,Cl h.ri.mi rfl rfl rfl,Lj h.ri.mr rfl rfl rfl,QV h.ri.me rfl rfl rfl rfl,P8 h.ri.sr rfl rfl rfl⟩,rfl,hnl,λ_=>rfl,λ_=>rfl,?_⟩;rw[VR,VR];have e1:toke (ofL (I (default:dv).rest++([]:List ByteArray).flatMap I))=[]:=Vc;have e2:(feedA (l.page.tok.rest++s)).2++ofL (([]:List ByteArray).flatMap I)=(feedA (l.page.tok.rest++s)).2:=ND _;show cq R l.page ((feedA (l.page.tok.rest++s)).1++(endT (feedA (l.page.tok.rest++s)).2++toke (ofL (I (default:dv).rest++([]:List ByteArray).flatMap I))))=_;rw[e1,e2,Afg,cS]
   .rename_i h3;have hrl:r.length≠0:=by rw[hps] at h3;simp at h3;simpa using h3
    refine⟨⟨h1.1,Cl h.ri.mi rfl rfl rfl,Lj h.ri.mr rfl rfl rfl,QV h.ri.me rfl rfl rfl rfl,P8 h.ri.sr rfl rfl rfl⟩,rfl,hnl,λe=>absurd e hrl,λe=>absurd (show false=true from e) (by decide),?_⟩;rw[VR];have e2:ofL (I (feedA (l.page.tok.rest++s)).2++r.flatMap I)=(feedA (l.page.tok.rest++s)).2++ofL (r.flatMap I):=by rw[Dh,AM]
    show cq R l.page ((feedA (l.page.tok.rest++s)).1++toke (ofL (I (feedA (l.page.tok.rest++s)).2++r.flatMap I)))=_;rw[e2]
  obtain⟨q,hq0,q1,q2,q3,q4,q5,q6⟩:=hq;have hG:=Tf 2000 q;obtain⟨k,hk⟩:=Acz (Q:=Q) (q0:=toke (ofL (I q.tok.rest++r.flatMap I))) 2000 q1 (by rw[q2];exact h.qi) (λe=>by have:=q5 e;rw[q4 this,List.length_eq_zero_iff.1 this];exact Vc)
  rw[hq0,hd];refine⟨AaH 2000 q1,by show QI R Q (adv 2000 q).bm;rw[hG.po,q2];exact h.qi,⟨k0+k,?_⟩,λe=>by show(adv 2000 q).tok=_;rw[hG.tk];exact q4 e,h.cn,h.gs,h.nt,AdP 2000 λe=>absurd (q3.symm.trans e) (by decide)⟩;have e:txt { l with parts:=r,page:=adva q }=I q.tok.rest++r.flatMap I:=by show I (adv 2000 q).tok.rest++_=_;rw[hG.tk]
  rw[e];show cq R (adv 2000 q) _=_;rw[hk,q6,hk0,Tt]
def Fg {J:Type} [Inhabited J] (p:J->Bool):∀ (l:List J) (i:Int),0<=i->0<=fidx p l i->i<=fidx p l i/\(fidx p l i-i).toNat<l.length/\p (l.getD (fidx p l i-i).toNat default)=true
 | [],i,_,h=>by simp[fidx] at h
 | x::l,i,hi,h=>by
  rw[fidx] at h ⊢;split at h
  .rename_i hp;rw[G_ hp];refine⟨Int.le_refl _,by simp,?_⟩;rw[Int.sub_self];exact hp
  .rename_i hp;rw[F_ hp];have ih:=Fg p l (i+1) O h;refine⟨O,by simp only[aw];omega,?_⟩;have e:(fidx p l (i+1)-i).toNat=(fidx p l (i+1)-(i+1)).toNat+1:=O
   rw[e];exact ih.2.2
def Ka {l:List bv} {a:HO} (h:0<=findGuess l a):(findGuess l a).toNat<l.length/\(l.getD (findGuess l a).toNat default).to=a:=by
 have:=Fg (λg:bv=>decide (g.to=a)) l 0 O h;rw[Int.sub_zero] at this;exact⟨this.2.1,ee this.2.2⟩
section
variable {R:HO->M_} {Q:List Z_} {C0:A_} (hR:∀ a,rOk (R a))
include hR
omit hR in
def Aea {l:N_} (h:SI R Q C0 l) (t:ByteArray) (a:HO) (g b:Bool):SI R Q C0 { l with net:=(fetchNo l.net t a b).1,conns:=(ope l.conns a (fetchNo l.net t a b).2 g).1 }:=by
 have hf:=H2 h.nt t a b;refine Tz h hf.1 h.gs λc hc=>?_
 rcases VM l.conns a (fetchNo l.net t a b).2 g with e|e
 .rw[e] at hc;exact h.cn c hc
 .rw[e] at hc;rcases ah.1 hc with hc|hc
  .exact h.cn c hc
  .rw[List.mem_singleton.1 hc];exact hf.2
def AlY {l:N_} (hl:LI l) (h:SI R Q C0 l):SI R Q C0 (requ l).1:=by
 unfold requ;split
 .exact h
 .split
  .rename_i h3;have hf:0<=findGuess l.guesses (reqT l):=by
    unfold useGuess at h3;split at h3
    .exact absurd (show false=true from h3) (by decide)
    .omega
   have hi:=Ka hf;have eu:useGuess l.guesses (reqT l)=(l.guesses.modify (findGuess l.guesses (reqT l)).toNat λg=>{ g with used:=true },(l.guesses.getD (findGuess l.guesses (reqT l)).toNat default).bd,true):=by unfold useGuess;rw[F_ O]
   have er:(l.guesses.getD (findGuess l.guesses (reqT l)).toNat default).bd=R (reqT l):=by have:=h.gs _ (Ae hi.1);rw[hi.2] at this;exact this
   rw[eu,er];exact IC hR hl h (reqT l) (keep_R h.nt _ _) (λg hg=>by
    rcases Kw hi.1 hg with hg|hg
    .exact h.gs g hg
    .rw[hg];exact h.gs (l.guesses.getD (findGuess l.guesses (reqT l)).toNat default) (Ae hi.1)) h.cn
  .split
   .exact h
   .exact Aea h _ _ _ _
omit hR in
def Wt {l:N_} (h:SI R Q C0 l):∀ m:List HO,SI R Q C0 (nex l m).1
 | []=>h
 | a::m=>by
  rw[nex];split
  .exact Wt h m
  .exact Aea h _ _ _ _
omit hR in
def AgA {l:N_} (h:SI R Q C0 l):SI R Q C0 (guessN l).1:=by
 unfold guessN;split
 .exact h
 .exact Wt h _
def Ahs {l:N_} (hl:LI l) (h:SI R Q C0 l) {k:Int} (h0:0<=k) (hk:k<l.conns.length):SI R Q C0 (fini l k):=by
 have hc:l.conns.getD k.toNat default∈l.conns:=Ae O;have hcs:∀ c,c∈closeC l.conns k->c.bd=R c.to:=λc hm=>by
  rw[Hr h0 hk] at hm;rcases ah.1 hm with hm|hm
  .exact h.cn c (fw hm)
  .exact h.cn c (ft hm)
 have er:=h.cn _ hc;unfold fini finis;rw[er];split
 .split
  .exact IC hR hl h _ (keep_R h.nt _ _) h.gs hcs
  .exact IC hR hl h _ h.nt h.gs hcs
 .split
  .refine Tz h h.nt (λg hg=>?_) hcs;have hg:g∈(addGuess l.guesses (l.conns.getD k.toNat default).to (R (l.conns.getD k.toNat default).to)).1:=hg;unfold addGuess at hg;split at hg
   .exact h.gs g hg
   .rcases ah.1 hg with hg|hg
    .exact h.gs g hg
    .rw[List.mem_singleton.1 hg]
  .exact Tz h h.nt h.gs hcs
def Z4:∀ (n:Nat) {l:N_},LI l->SI R Q C0 l->SI R Q C0 (xfer n l)
 | 0,l,_,h=>h
 | n+1,l,hl,h=>by
  rw[xfer];split
  .exact h
  .rename_i h1;have h2:=Ct l.conns 0 O;exact Z4 n (ZS hl (k:=fir l.conns 0) O O).1 (Ahs hR hl h O O)
def AkQ {l:N_} (hl:LI l) (h:SI R Q C0 l) {b:Int} (hb:20<=b/\b<=1000):SI R Q C0 (tra l b).1:=by
 unfold tra;split
 .exact h
 .refine Z4 hR _ (Qi hl hb).1 ?_;refine Tz h h.nt h.gs λc hc=>?_
  have hc:c∈mov l.conns b:=hc;unfold mov at hc;split at hc
  .obtain⟨d,hd,rfl⟩:=bM.1 hc;exact h.cn d hd
  .exact h.cn c hc
def AlM {l:N_} (hl:LI l) (h:SI R Q C0 l) (n:Int):SI R Q C0 (ac l n).1:=by
 unfold ac;split
 .exact Ag6 hl h
 .split
  .exact AlY hR hl h
  .split
   .exact AgA h
   .split
    .exact AkQ hR hl h O
    .exact AkQ hR hl h O
def XF {l:N_} (hl:LI l) (h:SI R Q C0 l) (c:Int):∀ n:Nat,SI R Q C0 (stepR l c n).1
 | 0=>h
 | n+1=>by
  rw[stepR];split
  .exact AlM hR hl h _
  .exact XF hl h c n
def Q7 {l:N_} (hl:LI l) (h:SI R Q C0 l) (c:Int):SI R Q C0 (stepTo l c):=XF hR hl h c 5
def Vh:∀ (cs:List Int) {l:N_},LI l->SI R Q C0 l->SI R Q C0 (cs.foldl stepTo l)
 | [],l,_,h=>h
 | c::cs,l,hl,h=>by rw[dy];exact Vh cs (K2 hl c).1 (Q7 hR hl h c)
def AcB:∀ (n:Nat) {l:N_},LI l->SI R Q C0 l->SI R Q C0 (runB n l)
 | 0,l,_,h=>h
 | n+1,l,hl,h=>by
  rw[runB];split
  .exact h
  .split
   .exact AcB n (K2 hl 0).1 (Q7 hR hl h 0)
   .exact h
def Al8 {l:N_} (hl:LI l) (h:SI R Q C0 l) (cs:List Int):SI R Q C0 (runLo l cs):=AcB hR 1000 (Qh (cs.take 100) hl).1 (Vh hR _ hl h)
end
def fet (h:ByteArray):Nat->P_->A_->P_×A_
 | 0,n,p=>(n,p)
 | k+1,n,p=>if(nextN p).length=0 then(n,p) else fet h k (fetchNo n h ((nextN p).getD 0 default).to false).1 (tak p ((nextN p).getD 0 default).to (fetchNo n h ((nextN p).getD 0 default).to false).2)
def loadP (n:P_) (a:HO):P_×A_×Bool :=
 if(newP a (fetchNo n a.host a false).2).2=true then
  ((fet a.host 200 (fetchNo n a.host a false).1 (adva (endPage (arriveT (newP a (fetchNo n a.host a false).2).1 (fetchNo n a.host a false).2.body)))).1,
   (fet a.host 200 (fetchNo n a.host a false).1 (adva (endPage (arriveT (newP a (fetchNo n a.host a false).2).1 (fetchNo n a.host a false).2.body)))).2,true)
 else((fetchNo n a.host a false).1,default,false)
def pl (n:P_) (p:A_):N_:=⟨n,p,[],[],[]⟩
def O5 {p:A_} (h:¬ (nextN p).length=0):need p ((nextN p).getD 0 default).to:=(Ix _ _).1 ⟨_,Ae (Nat.pos_of_ne_zero h),rfl⟩
def WQ {R:HO->M_} {Q:List Z_} {C0:A_} (hR:∀ a,rOk (R a)) (ho:ByteArray):∀ (k:Nat) (n:P_) (p:A_),LI (pl n p)->SI R Q C0 (pl n p)->29<k+dnP p->LI (pl (fet ho k n p).1 (fet ho k n p).2)/\SI R Q C0 (pl (fet ho k n p).1 (fet ho k n p).2)/\(fet ho k n p).2.loaded=true
 | 0,n,p,hl,h,hk=>by have:=Aih hl.pi hl.mi;have e:(pl n p).page=p:=rfl;rw[e] at this;omega
 | k+1,n,p,hl,h,hk=>by
  rw[fet];split
  .rename_i h1;refine⟨hl,h,?_⟩;have hn:∀ a,¬ need p a:=λa ha=>by obtain⟨r,hr,_⟩:=(Ix _ _).2 ha;rw[List.length_eq_zero_iff.1 h1] at hr;simp at hr
   refine LR hl.pi hl.mi hl.ed (λs hs=>?_) (λm hm=>?_) hl.st
   .cases hd:s.done with
    | true=>rfl
    | false=>exact absurd (.inl ⟨s,hs,hd,rfl⟩) (hn s.to)
   .cases hd:m.done with
    | true=>rfl
    | false=>exact absurd (.inr ⟨m,hm,hd,rfl⟩) (hn m.to)
  .rename_i h1;have hf:=H2 (n:=n) h.nt ho ((nextN p).getD 0 default).to false;have hfo:=F3 (n:=n) hl.nt ho ((nextN p).getD 0 default).to false;have hn:=O5 h1;rw[hf.2];have h2:=Ku hl (a:=((nextN p).getD 0 default).to) (x:=R ((nextN p).getD 0 default).to) (n:=(fetchNo n ho ((nextN p).getD 0 default).to false).1) (gs:=[]) (hR _) hfo.1 hn (by show _∉([]:List ao).map _;simp) (by simp) (Int.le_refl _) (show S []<=S []+1 from O);have h3:=IC hR hl h ((nextN p).getD 0 default).to (n:=(fetchNo n ho ((nextN p).getD 0 default).to false).1) hf.1 (gs:=[]) (by simp) (cs:=[]) (by simp);have h4:=(F5 (a:=((nextN p).getD 0 default).to) (x:=R ((nextN p).getD 0 default).to) hl.pi hl.mi (hR _) (by have:=hl.bg;omega)).2.2.2.2.2.1 hn;have e:(pl n p).page=p:=rfl;rw[e] at h4;exact WQ hR ho k _ _ h2.1 h3 O
def clo (R:HO->M_):Nat->A_->A_
 | 0,p=>p
 | n+1,p=>match p.bi.find? (λm=>!m.done) with
  | none=>p
  | some m=>clo R n (fillMo p m.to (R m.to))
def V7 {p:A_} (a:HO) (x:M_) {b:HO} (h:hasM p b):hasM (fillMo p a x) b:=by
 unfold fillMo;split
 .exact h
 .rename_i h1;simp only[not_or,Int.not_lt] at h1;obtain⟨l,m,r,e1,e2,e3,e4⟩:=Ge x h1.1;have h0:hasM (fillM0 p a x) b:=by
   unfold hasM at *
   rw[e4];rw[e1] at h;simp only[fu,aY] at h ⊢;exact h
  have hf:∀ (l:List HO) (q:A_),hasM q b->hasM (l.foldl askM q) b:=by
   intro l
   induction l with
   | nil=>intro q hq;exact hq
   | cons c l ih=>intro q hq;exact ih _ (VU hq)
  exact hf _ _ h0
def AhD {R:HO->M_} (hR:∀ a,rOk (R a)):∀ (n:Nat) {p:A_},PI p->MI p->MR R p->hasM p HU->9<n+don p.bi->PI (clo R n p)/\MI (clo R n p)/\MR R (clo R n p)/\hasM (clo R n p) HU/\(∀ m,m∈(clo R n p).bi->m.done=true)/\(clo R n p).bm=p.bm/\(clo R n p).addr=p.addr
 | 0,p,hp,hm,_,_,hk=>by
  have h1:don p.bi<=p.bi.length:=List.countP_le_length;have:=TB hm;omega
 | n+1,p,hp,hm,hr,hh,hk=>by
  rw[clo];split
  .rename_i e;refine⟨hp,hm,hr,hh,λm hq=>?_,rfl,rfl⟩;have:=List.find?_eq_none.1 e m hq;simpa using this
  .rename_i m e;have h1:=List.mem_of_find?_eq_some e;have h2:=List.find?_some e;have hd:m.done=false:=by simpa using h2
   have hf:=VA (p:=p) (a:=m.to) (x:=R m.to) hp hm (hR _);have hdm:=hf.2.2.2.2.2.2.1 ⟨m,h1,hd,rfl⟩;have ih:=AhD hR n hf.1 hf.2.1 (Ue hr m.to) (V7 _ _ hh) O;exact⟨ih.1,ih.2.1,ih.2.2.1,ih.2.2.2.1,ih.2.2.2.2.1,ih.2.2.2.2.2.1.trans hf.2.2.2.2.2.2.2.2.1,ih.2.2.2.2.2.2.trans hf.2.2.2.2.2.2.2.1⟩
def pa (a:HO) (po:aA):A_:=⟨a,po,default,[],false,newBuilder,[],[],[],0,0,0,0,[],[],false⟩
def Amh (a:HO) (po:aA):PI (pa a po)/\N (pa a po)=41:=by
 refine⟨⟨⟨λn hn=>?_,λk hk=>?_,rfl,show 0<[(0:Int)].length by decide⟩,λt ht=>?_,Nat.zero_le _,Nat.zero_le _,λs hs=>?_,λe=>absurd rfl e,.inl rfl,Int.le_refl _,Int.le_refl _⟩,?_⟩
 .rw[List.mem_singleton.1 (show n∈[_] from hn)];exact⟨Ic,λe=>absurd (show(⟨#[112,97,103,101]⟩:ByteArray)=scrW from e) (by decide)⟩
 .rw[List.mem_singleton.1 (show k∈[_] from hk)];exact⟨Int.le_refl _,show(0:Int)<(newBuilder.bj.length:Int) by decide⟩
 .exact absurd (show t∈[] from ht) (by simp)
 .exact absurd (show s∈[] from hs) (by simp)
 .have e:openS newBuilder=0:=by decide +kernel
  show([]:List ai).length+362*(nScr []+openS newBuilder+(if(0:Int)=0/\(0:Int)=0 then 0 else 1))+(20-(0:Int)).toNat+(20-(0:Int)).toNat+(if false=true then 0 else 1)=41;rw[e];rfl
def AoR {a:HO} {po:aA} (h:a.host=⟨#[104,111,109,101]⟩):MI (pa a po) :=
 ⟨by show List.Pairwise _ _;simp[pa],λm hm=>absurd (show m∈[] from hm) (by simp),λb hb=>absurd (show b∈[] from hb) (by simp),λm hm=>absurd (show m∈[] from hm) (by simp),h,λb hb=>absurd (show b∈[] from hb) (by simp)⟩
def AnS {R:HO->M_} {a:HO} {po:aA} (h:a.host=⟨#[104,111,109,101]⟩):RI R (pa a po) :=
 ⟨(Amh a po).1,AoR h,λm hm=>absurd (show m∈[] from hm) (by simp),λm hm=>absurd (show m∈[] from hm) (by simp),λm hm=>absurd (show m∈[] from hm) (by simp)⟩
def QQ (R:HO->M_) (a:HO) (po:aA):List Z_:=(clo R 10 (askM (pa a po) HU)).bi
def Aqc {R:HO->M_} (hR:∀ a,rOk (R a)) {a:HO} {po:aA} (h:a.host=⟨#[104,111,109,101]⟩):QI R (QQ R a po) po:=by
 have h0:=AnS (R:=R) (po:=po) h;have hp:PI (askM (pa a po) HU):=by rw[LQ];exact UG h0.pi _
 have hm:=Ah0 h0.mi (show HU∈A9 by decide);have hr:=Ael h0.mr HU;have hpo:(askM (pa a po) HU).bm=po/\(askM (pa a po) HU).addr=a:=by rw[LQ];exact⟨rfl,rfl⟩
 obtain⟨c1,c2,c3,c4,c5,c6,c7⟩:=AhD hR 10 hp hm hr (UN _ _) O;refine⟨c2.st,c2.ad,c4,c5,λm hq=>?_,λm hq h1 b hb=>c2.im m hq (c5 m hq) h1 b hb⟩;have:=(c3 m hq).1 (c5 m hq);unfold mP at this;rw[c6,c7,hpo.1,hpo.2,h] at this;exact this
def AgP {R:HO->M_} (hR:∀ a,rOk (R a)) {a:HO} {po:aA} (ha:a.host=⟨#[104,111,109,101]⟩) {n:P_} (hn:nOk n) (hr:nR R n) {parts:List ByteArray} {B:List UInt8} (hp:parts≠[]) (hB:parts.flatMap I=B) (hg:pgT B) (hw:wL B+362*csN B<=1900):LI ⟨n,pa a po,parts,[],[]⟩/\SI R (QQ R a po) (cq R (pa a po) (toke (ofL B))) ⟨n,pa a po,parts,[],[]⟩/\T ⟨n,pa a po,parts,[],[]⟩=parts.length:=by
 have hpl:parts.length≠0:=λe=>hp (List.length_eq_zero_iff.1 e)
 have ht:txt ⟨n,pa a po,parts,[],[]⟩=B:=by show I (default:dv).rest++parts.flatMap I=B;rw[hB];rfl
 refine⟨⟨(Amh a po).1,AoR ha,rfl,by rw[ht];exact hg,?_,?_,by simp,by simp,by simp,by simp,by simp,show(0:Int)+((0:Nat):Int)<=6 by decide,hn,Nat.zero_le _⟩,⟨AnS ha,Aqc hR ha,⟨0,by rw[ht];rfl⟩,λe=>absurd e hpl,by simp,by simp,hr,λe=>absurd (show false=true from e) (by decide)⟩,?_⟩
 .rw[ht];show N (pa a po)+_+_<=2000;rw[(Amh a po).2];omega
 .show false=decide (parts.length=0);rw[decide_eq_false hpl]
 .show(parts.length:Int)-24*(0:Int)-23*0-23*0+0=_;omega
structure EP (R:HO->M_) (Q:List Z_) (C0 p:A_):Prop where
 ri:RI R p
 ld:p.loaded=true
 ps:isParsed p=true
 sd:∀ s,s∈p.bf->s.done=true
 md:∀ m,m∈p.bi->m.done=true
 co:∃ k,cq R p []=iN R Q k C0
def AhY {R:HO->M_} {Q:List Z_} {C0:A_} {l:N_} (hl:LI l) (h:SI R Q C0 l) (hf:l.page.loaded=true):EP R Q C0 l.page:=by
 have h1:=h.ld hf;have he:l.page.ended=true:=by have:=h1.1;unfold isParsed at this;simp only[T_] at this;exact this.1
 obtain⟨k,hk⟩:=h.co;rw[AbV hl h he] at hk;exact⟨h.ri,hf,h1.1,h1.2.1,h1.2.2,k,hk⟩
def stU:∀ {l m:List HO},Ji l->Ji m->(∀ a,a∈l↔a∈m)->l=m
 | [],[],_,_,_=>rfl
 | [],b::m,_,_,h=>absurd ((h b).2 (by simp)) (by simp)
 | a::l,[],_,_,h=>absurd ((h a).1 (by simp)) (by simp)
 | a::l,b::m,h1,h2,h=>by
  unfold Ji at h1 h2;rw[List.pairwise_cons] at h1 h2;have e:a=b:=by
   rcases au.1 ((h a).1 (by simp)) with e|e
   .exact e
   .rcases au.1 ((h b).2 (by simp)) with e2|e2
    .exact e2.symm
    .have:=h2.1 a e;have h3:=h1.1 b e2;rw[Fx] at h3;omega
  subst e;rw[stU h1.2 h2.2 λc=>?_];have hne:∀ {k:List HO},(∀ x,x∈k->cmp a x<0)->c∈k->c≠a:=λhk hc e=>by have:=hk c hc;rw[e,FA.2 rfl] at this;omega
  constructor
  .intro hc;rcases au.1 ((h c).1 (by simp[hc])) with e|e
   .exact absurd e (hne h1.1 hc)
   .exact e
  .intro hc;rcases au.1 ((h c).2 (by simp[hc])) with e|e
   .exact absurd e (hne h2.1 hc)
   .exact e
def Ahy {R:HO->M_} {Q:List Z_} {C0 p:A_} (h:EP R Q C0 p) (a:HO):hasM p a↔RS (gI R p) p.bh a:=by
 constructor
 .intro ha;obtain⟨m,hm,e⟩:=bM.1 ha;rw[<-e];exact h.ri.me m hm
 .intro ha
  induction ha with
  | base h1=>exact h.ri.mi.en _ h1
  | @step x y _ h2 ih=>
   have h0:=Mc ih;have hd:hasD p _:=⟨h0,h.md _ (HI h0)⟩;refine AaC h.ri.mi x y ?_;rw[SK (PX h.ri.mr) hd];exact h2
def Acr {R:HO->M_} {Q:List Z_} {C0 p:A_} (h:EP R Q C0 p):p.bi=(p.bi.map (·.to)).map (mP R p):=by
 rw[dz];have:p.bi.map (mP R p ∘ λm=>m.to)=p.bi.map id:=List.map_congr_left λm hm=>((h.ri.mr m hm).1 (h.md m hm)).symm
 rw[this,List.map_id]
def Afz {R:HO->M_} {Q:List Z_} {C0 p q:A_} (hp:EP R Q C0 p) (hq:EP R Q C0 q):q.bf=p.bf/\q.bi=p.bi/\q.bh=p.bh/\q.bm=p.bm/\q.addr=p.addr:=by
 obtain⟨k,hk⟩:=hp.co;obtain⟨m,hm⟩:=hq.co;have e:=AcP (R:=R) (Q:=Q) (P:=C0) (m:=k) (n:=m) (by rw[<-hk];exact AhX hp.ps hp.ld) (by rw[<-hm];exact AhX hq.ps hq.ld);rw[<-hk,<-hm] at e;have e1:p.bm=q.bm:=by have:=cG A_.bm e;exact this
 have e2:p.addr=q.addr:=by have:=cG A_.addr e;exact this
 have e3:p.bh=q.bh:=by have:=cG A_.bh e;exact this
 have e4:p.bf.map (fR R p)=q.bf.map (fR R q):=by have:=cG A_.bf e;exact this
 have hid:∀ {x:A_},(∀ s,s∈x.bf->s.done=true)->x.bf.map (fR R x)=x.bf:=λ{x} h=>by
  have e:x.bf.map (fR R x)=x.bf.map id:=List.map_congr_left λs hs=>MT x (h s hs)
  rw[e,List.map_id]
 rw[hid hp.sd,hid hq.sd] at e4;have eg:gI R q=gI R p:=by funext b;unfold gI mP;rw[e1,e2]
 have em:q.bi.map (·.to)=p.bi.map (·.to):=stU hq.ri.mi.st hp.ri.mi.st λa=>by have h1:=Ahy hp a;have h2:=Ahy hq a;rw[eg,<-e3] at h2;exact h2.trans h1.symm
 refine⟨e4.symm,?_,e3.symm,e1.symm,e2.symm⟩;rw[Acr hq,Acr hp,em];unfold mP;rw[e1,e2]
def Yg (p:A_):(stepP p).1.ran=p.ran:=by
 have hr:∀ (q:A_) (c:ByteArray) (w:Bool),(runC q c w).ran=q.ran:=λq c w=>by unfold runC;split<;>rfl
 have hs:∀ (q:A_) (m:Int) (to dg:ByteArray) (n:Int),(addS q m to dg n).1.ran=q.ran:=λq m to dg n=>by unfold addS;split<;>rfl
 unfold stepP;split
 .unfold stepI;split
  .exact hr p _ true
  .rfl
 .split
  .unfold stepB;split
   .rfl
   .split
    .rfl
    .split
     .exact hr p _ true
     .rfl
  .unfold takeToke;split
   .rfl
   .show(takeT p (p.bp.getD 0 default)).ran=_;unfold takeT;split
    .unfold ele;split
     .exact hs _ _ _ _ _
     .split
      .exact hs _ _ _ _ _
      .rfl
    .split
     .unfold scri;split
      .split<;>rfl
      .split
       .exact hs _ _ _ _ _
       .split
        .unfold addE;split
         .rw[LQ];rfl
         .rfl
        .exact hs (taken p (p.bp.getD 0 default)) 3 _ _ _
     .rfl
def Sn:∀ (l:List HO) (p q:A_),q.ran.Nodup->(enterA p q l).ran.Nodup
 | [],p,q,h=>h
 | b::l,p,q,h=>by
  have e:enterA p q (b::l)=enterA p (enter1 p q b) l:=rfl;rw[e];refine Sn l p _ ?_;unfold enter1;split
  .exact h
  .rename_i hn;show(q.ran++[b]).Nodup;rw[List.nodup_append];refine⟨h,by simp,λx hx y hy=>?_⟩;rw[List.mem_singleton] at hy;rw[hy];rintro rfl;exact hn (bI.2 ⟨_,hx,cP rfl⟩)
def AeF {p:A_} (h:p.ran.Nodup):(stepT p).1.ran.Nodup:=by
 unfold stepT;split
 .exact h
 .split
  .unfold tai;split
   .exact h
   .split
    .have:(runC p (defS p).body false).ran=p.ran:=by unfold runC;split<;>rfl
     show(runC p (defS p).body false).ran.Nodup;rw[this];exact h
    .exact h
  .split
   .unfold tailE;split
    .exact h
    .show(enter p (entN p)).ran.Nodup;unfold enter;split
     .unfold say;split<;>exact h
     .exact Sn _ _ _ h
   .split
    .exact h
    .unfold say;split<;>exact h
def AhG {R:HO->M_} {Q:List Z_}:∀ (n:Nat) {P:A_},P.ran.Nodup->(iN R Q n P).ran.Nodup
 | 0,P,h=>h
 | n+1,P,h=>by
  rw[iN];split
  .refine AhG n ?_;unfold iS;split
   .show(stepP P).1.ran.Nodup;rw[Yg];exact h
   .split
    .show(stepT (wM P Q)).1.ran.Nodup;exact AeF h
    .exact h
  .exact h
def Alb {R:HO->M_} {Q:List Z_} {C0 p:A_} (h:EP R Q C0 p) (h0:C0.ran=[]):p.ran.Nodup:=by
 obtain⟨k,hk⟩:=h.co;have:=AhG (R:=R) (Q:=Q) k (P:=C0) (by rw[h0];simp);rw[<-hk] at this;exact this
abbrev E:ByteArray:=⟨#[104,111,109,101]⟩
def ck (n:P_) (a:HO):Prop:=∃ e,e∈n.cache.bh/\freshEntry E a n.now e=true
def Ac2 (n:P_) (a:HO):(lookUp n.cache E a n.now).isSome=true↔ck n a:=by
 unfold lookUp ck;rw[Option.isSome_map,List.find?_isSome]
def keep_now (n:P_) (t:ByteArray) (a:HO) (x:M_):(keepA n t a x).now=n.now/\(keepA n t a x).log=n.log:=by
 unfold keepA;split<;>exact⟨rfl,rfl⟩
def keep_ck (n:P_) (a b:HO) (x:M_):(ck (keepA n E a x) b->ck n b\/b=a)/\(ck n b->ck (keepA n E a x) b):=by
 have hnow:=(keep_now n E a x).1;unfold keepA at *
 split
 .rename_i hc;have hno:¬ ck n a:=λh=>by rw[(Ac2 n a).2 h] at hc;exact absurd hc.1 (by decide)
  have key:∀ c:aZ,(∀ e,e∈c.bh->e∈n.cache.bh\/e.to=a)->(∀ e,e∈n.cache.bh->e.to≠a->e∈c.bh)->(ck { n with cache:=c } b->ck n b\/b=a)/\(ck n b->ck { n with cache:=c } b):=λc h1 h2=>by
   constructor
   .rintro⟨e,he,hf⟩;rcases h1 e he with h|h
    .exact .inl ⟨e,h,hf⟩
    .right;simp only[freshEntry,T_,az] at hf;exact hf.2.1.symm.trans h
   .rintro⟨e,he,hf⟩;refine⟨e,h2 e he λq=>hno ⟨e,he,?_⟩,hf⟩;simp only[freshEntry,T_,az] at hf ⊢;exact⟨hf.1,q,hf.2.2⟩
  refine key _ ?_ ?_
  .intro e he;unfold sto at he;split at he
   .unfold putE at he;split at he
    .rename_i hi;have hx:=Fg (λe:bJ=>decide (e.top=E)&&decide (e.to=a)) n.cache.bh 0 O hi;rw[Int.sub_zero] at hx;rcases Kw hx.2.1 he with he|he
     .exact .inl he
     .rw[he];exact .inr rfl
    .rcases ah.1 he with he|he
     .exact .inl he
     .rw[List.mem_singleton.1 he];exact .inr rfl
   .exact .inl he
  .intro e he hne;unfold sto;split
   .unfold putE;split
    .rename_i hi;have hx:=Fg (λe:bJ=>decide (e.top=E)&&decide (e.to=a)) n.cache.bh 0 O hi;rw[Int.sub_zero] at hx;simp only[T_,az] at hx;show e∈n.cache.bh.modify _ _;rw[Ci _ hx.2.1];have e2:n.cache.bh=n.cache.bh.take (fidx (λe:bJ=>decide (e.top=E)&&decide (e.to=a)) n.cache.bh 0).toNat++n.cache.bh.getD (fidx (λe:bJ=>decide (e.top=E)&&decide (e.to=a)) n.cache.bh 0).toNat default::n.cache.bh.drop ((fidx (λe:bJ=>decide (e.top=E)&&decide (e.to=a)) n.cache.bh 0).toNat+1):=by
      have h1:=Q_ (l:=n.cache.bh) hx.2.1
      calc n.cache.bh=n.cache.bh.take (_+1)++n.cache.bh.drop (_+1):=(dc _ _).symm
       _=_:=by rw[h1];simp
     rw[e2] at he;simp only[ah,au] at he ⊢;rcases he with he|he|he
     .exact .inl he
     .exact absurd (by rw[he];exact hx.2.2.2) hne
     .exact .inr (.inr he)
    .exact List.mem_append_left _ he
   .exact he
 .exact⟨.inl,id⟩
def okSl (p:A_) (s:av):Prop:=checkRequest p.bm (reqO p s)=1
def okMd (p:A_) (a:HO):Prop:=checkRequest p.bm ⟨5,a,p.addr.host,⟨#[]⟩⟩=1
def wntd (p:A_) (a:HO):Prop:=(∃ s,s∈p.bf/\s.to=a/\okSl p s)\/(hasM p a/\okMd p a)
def ansd (L:HO->Prop) (p:A_):Prop:=(∀ s,s∈p.bf->s.done=true->okSl p s->L s.to)/\∀ m,m∈p.bi->m.done=true->okMd p m.to->L m.to
def Ak1 (p:A_) (m:Int) (to dg:ByteArray) (n:Int) (h:(newS p m to dg n).done=true):¬ okSl p (newS p m to dg n):=by
 have:=AcN (λ_=>notF) p m to dg n;intro hc;unfold newS at h;split at h
 .exact absurd (show false=true from h) (by decide)
 .rename_i h2;apply h2;have hc:checkRequest p.bm (reqO p (raw p m to dg n))=1:=by unfold okSl newS at hc;rw[F_ h2] at hc;exact hc
  refine⟨?_,hc⟩;unfold sRt newS at this;rw[F_ h2,G_ (by rfl)] at this;have hc2:checkRequest p.bm (reqO p (⟨m,(par to p.addr.host).1,dg,n,true,2,⟨#[]⟩⟩:av))=1:=hc;rw[G_ hc2] at this;have h3:=this.1;cases hp:(par to p.addr.host).2 with
  | true=>rfl
  | false=>
   exfalso;have e:(par to p.addr.host).1=default:=by
    unfold par at hp ⊢;split at hp
    .exact absurd (show true=false from hp) (by decide)
    .rename_i h2;rw[F_ h2]
   unfold checkRequest isRequest reqO raw at hc;rw[e] at hc;have:isName (default:HO).host=false:=by decide +kernel
   simp only[this,Bool.false_and,Bool.and_false,cD,aS] at hc;exact absurd hc (by decide)
def Aaa {L:HO->Prop} {p:A_} (h:ansd L p):ansd L (step1 p).1:=by
 obtain⟨h0,h1,hs⟩:=MF p;obtain⟨_,_,hm⟩:=NN p;have es:∀ s,okSl (step1 p).1 s↔okSl p s:=λs=>by unfold okSl reqO;rw[h0,h1]
 have em:∀ a,okMd (step1 p).1 a↔okMd p a:=λa=>by unfold okMd;rw[h0,h1]
 constructor
 .intro s hq hd hk;rw[es] at hk;rcases hs with hs|⟨m,to,dg,n,hs⟩
  .rw[hs] at hq;exact h.1 s hq hd hk
  .rw[hs] at hq;rcases ah.1 hq with hq|hq
   .exact h.1 s hq hd hk
   .rw[List.mem_singleton.1 hq] at hd hk;exact absurd hk (Ak1 p m to dg n hd)
 .intro m hq hd hk;rw[em] at hk;rcases hm with hm|⟨a,hm,_⟩
  .rw[hm.1] at hq;exact h.2 m hq hd hk
  .rw[hm] at hq;rcases Fh hq with hq|hq
   .exact h.2 m hq hd hk
   .rw[hq] at hd;unfold newM at hd hq;split at hd
    .exact absurd (show false=true from hd) (by decide)
    .rename_i hn;rw[F_ hn] at hq;rw[hq] at hk;exact absurd hk hn
def TG {L:HO->Prop}:∀ (n:Nat) {p:A_},ansd L p->ansd L (adv n p)
 | 0,p,h=>h
 | n+1,p,h=>by
  rw[adv];split
  .exact TG n (Aaa h)
  .exact h
def Ae8 {p:A_} {a:HO} (h:wntd p a):wntd (step1 p).1 a:=by
 obtain⟨h0,h1,hs⟩:=MF p;have hg:=Qs p;rcases h with⟨s,q1,q2,q3⟩|⟨q1,q2⟩
 .refine .inl ⟨s,?_,q2,?_⟩
  .obtain⟨ss,e⟩:=hg.sl;rw[e];exact List.mem_append_left _ q1
  .unfold okSl reqO at *;rw[h0,h1];exact q3
 .refine .inr ⟨Ahi hg q1,?_⟩;unfold okMd at *;rw[h0,h1];exact q2
def Acs:∀ (n:Nat) {p:A_} {a:HO},wntd p a->wntd (adv n p) a
 | 0,p,a,h=>h
 | n+1,p,a,h=>by
  rw[adv];split
  .exact Acs n (Ae8 h)
  .exact h
def JU (p:A_) (a:HO) (x:M_) (s:av):reqO p (fillF p a x s)=reqO p s/\(fillF p a x s).to=s.to:=by
 unfold fillF fillS;split
 .split<;>exact⟨rfl,rfl⟩
 .exact⟨rfl,rfl⟩
def OI (p:A_) (a:HO) (x:M_):(fillMo p a x).bf=p.bf/\(fillMo p a x).bm=p.bm/\(fillMo p a x).addr=p.addr:=by
 unfold fillMo;split
 .exact⟨rfl,rfl,rfl⟩
 .have hf:∀ (l:List HO) (y:A_),(l.foldl askM y).bf=y.bf/\(l.foldl askM y).bm=y.bm/\(l.foldl askM y).addr=y.addr:=by
   intro l
   induction l with
   | nil=>intro y;exact⟨rfl,rfl,rfl⟩
   | cons b l ih=>intro y;rw[dy];have:=ih (askM y b);rw[LQ] at this ⊢;exact this
  exact hf _ _
def SD {p:A_} {b:HO} (h:wntd p b) (a:HO) (x:M_):wntd (tak p a x) b:=by
 refine Acs 2000 ?_;have hs:=OI (fil p a x) a x;rcases h with⟨s,q1,q2,q3⟩|⟨q1,q2⟩
 .refine .inl ⟨fillF p a x s,by rw[hs.1];exact List.mem_map_of_mem q1,(JU p a x s).2.trans q2,?_⟩;unfold okSl at *
  have e:reqO (fillMo (fil p a x) a x) (fillF p a x s)=reqO p (fillF p a x s):=by unfold reqO;rw[hs.2.2];rfl
  rw[hs.2.1,e,(JU p a x s).1];exact q3
 .refine .inr ⟨V7 (p:=fil p a x) a x q1,?_⟩;unfold okMd at *;rw[hs.2.1,hs.2.2];exact q2
def OM {L:HO->Prop} {p:A_} (h:ansd L p) {a:HO} (ha:L a) (x:M_):ansd L (tak p a x):=by
 refine TG 2000 ?_;have hs:=OI (fil p a x) a x;constructor
 .intro s hq hd hk;rw[hs.1] at hq;obtain⟨t,ht,rfl⟩:=bM.1 (show s∈p.bf.map (fillF p a x) from hq);by_cases e:t.to=a
  .rw[(JU p a x t).2,e];exact ha
  .rw[(Di p a x t).2.2.1 e] at hd hk ⊢;refine h.1 t ht hd ?_;unfold okSl reqO at *;rw[hs.2.1,hs.2.2] at hk;exact hk
 .have hmm:∀ (q:A_),ansd L q->∀ m,m∈(fillMo q a x).bi->m.done=true->okMd q m.to->L m.to:=λq hq=>by
   unfold fillMo;split
   .exact hq.2
   .rename_i h1;simp only[not_or,Int.not_lt] at h1;obtain⟨l,m,r,e1,e2,e3,e4⟩:=Ge x h1.1;have hf:∀ (k:List HO) (y:A_),y.bm=q.bm->y.addr=q.addr->(∀ m,m∈y.bi->m.done=true->okMd q m.to->L m.to)->∀ m,m∈(k.foldl askM y).bi->m.done=true->okMd q m.to->L m.to:=by
     intro k
     induction k with
     | nil=>intro y _ _ hy;exact hy
     | cons b k ih=>
      intro y y1 y2 hy;rw[dy];refine ih _ (by rw[LQ];exact y1) (by rw[LQ];exact y2) ?_;rw[LQ];intro m hm hd hk;rcases Fh hm with hm|hm
      .exact hy m hm hd hk
      .rw[hm] at hd;unfold newM at hd hm;split at hd
       .exact absurd (show false=true from hd) (by decide)
       .rename_i hn;rw[F_ hn] at hm;rw[hm] at hk;unfold okMd at hk;rw[y1,y2] at hn;exact absurd hk hn
    refine hf _ _ rfl rfl ?_;intro y hy hd hk;rw[e4] at hy;simp only[ah,au] at hy;rcases hy with hy|hy|hy
    .exact hq.2 y (by rw[e1];simp[hy]) hd hk
    .have:y.to=a:=by rw[hy];exact e2
     rw[this];exact ha
    .exact hq.2 y (by rw[e1];simp[hy]) hd hk
  have h1:ansd L (fil p a x):=by
   constructor
   .intro s hq hd hk;obtain⟨t,ht,rfl⟩:=bM.1 (show s∈p.bf.map (fillF p a x) from hq);by_cases e:t.to=a
    .rw[(JU p a x t).2,e];exact ha
    .rw[(Di p a x t).2.2.1 e] at hd hk ⊢;exact h.1 t ht hd hk
   .exact h.2
  intro m hm hd hk;refine hmm _ h1 m hm hd ?_;unfold okMd at *;rw[hs.2.1,hs.2.2] at hk;exact hk
def Lg (n0 n:P_) (a:HO):Prop:=ck n0 a\/∃ s,s∈n.log.drop n0.log.length/\s.to=a
structure NG (n0 n:P_) (W:dA->Prop) (k:Nat):Prop where
 nw:n.now=n0.now
 pf:∃ r,n.log=n0.log++r/\r.length<=k/\∀ s,s∈r->¬ ck n0 s.to/\W s
 cm:∀ a,ck n0 a->ck n a
 cl:∀ a,ck n a->Lg n0 n a
def Ir {n0 n:P_} {W V:dA->Prop} {k j:Nat} (h:NG n0 n W k) (h1:∀ s,W s->V s) (h2:k<=j):NG n0 n V j:=by
 obtain⟨r,e1,e2,e3⟩:=h.pf;exact⟨h.nw,⟨r,e1,O,λs hs=>⟨(e3 s hs).1,h1 s (e3 s hs).2⟩⟩,h.cm,h.cl⟩
def AlC {n0 n m:P_} {a:HO} (h:Lg n0 n a) (e:∃ r,m.log=n.log++r) (hl:n0.log.length<=n.log.length):Lg n0 m a:=by
 rcases h with h|⟨s,hs,e2⟩
 .exact .inl h
 .obtain⟨r,e⟩:=e;refine .inr ⟨s,?_,e2⟩;rw[e,List.drop_append_of_le_length hl];exact List.mem_append_left _ hs
def AkR {n0 n:P_} {W:dA->Prop} {k:Nat} (h:NG n0 n W k):n0.log.length<=n.log.length/\n.log.length<=n0.log.length+k:=by
 obtain⟨r,e1,e2,_⟩:=h.pf;rw[e1,al];omega
def keep_NG {n0 n:P_} {W:dA->Prop} {k:Nat} (h:NG n0 n W k) {a:HO} (ha:Lg n0 n a) (x:M_):NG n0 (keepA n E a x) W k/\∀ b,Lg n0 n b->Lg n0 (keepA n E a x) b:=by
 have hk:=keep_now n E a x;have hL:∀ b,Lg n0 n b->Lg n0 (keepA n E a x) b:=λb hb=>by unfold Lg at *;rw[hk.2];exact hb
 refine⟨⟨hk.1.trans h.nw,by rw[hk.2];exact h.pf,λb hb=>(keep_ck n a b x).2 (h.cm b hb),λb hb=>?_⟩,hL⟩;rcases(keep_ck n a b x).1 hb with hb|hb
 .exact hL b (h.cl b hb)
 .rw[hb];exact hL a ha
def Qo {n0 n:P_} {W:dA->Prop} {k:Nat} (h:NG n0 n W k) {a:HO} (hA:isA a=true) (hk:n0.log.length+k<400) {g:Bool} (hW:W ⟨E,a,g⟩):NG n0 (fetchNo n E a g).1 W (k+1)/\Lg n0 (fetchNo n E a g).1 a/\∀ b,Lg n0 n b->Lg n0 (fetchNo n E a g).1 b:=by
 unfold fetchNo;rw[F_ (show ¬ (isName a.host&&isName a.path)=false by rw[show(isName a.host&&isName a.path)=true from hA];decide)];split
 .rename_i hl;have hc:=(Ac2 n a).1 hl;exact⟨Ir h (λ_ q=>q) O,h.cl a hc,λ_ q=>q⟩
 .rename_i hl;have hc:¬ ck n a:=λq=>hl ((Ac2 n a).2 q)
  have hlen:=AkR h;have hlog:(logS n E a g).log=n.log++[⟨E,a,g⟩]:=by unfold logS;rw[G_ O]
  have hnow:(logS n E a g).now=n.now/\(logS n E a g).cache=n.cache:=by unfold logS;split<;>exact⟨rfl,rfl⟩
  have hck:∀ b,ck (logS n E a g) b↔ck n b:=λb=>by unfold ck;rw[hnow.1,hnow.2]
  have hL:∀ b,Lg n0 n b->Lg n0 (logS n E a g) b:=λb hb=>AlC hb ⟨_,hlog⟩ hlen.1
  have hla:Lg n0 (logS n E a g) a:=by refine .inr ⟨⟨E,a,g⟩,?_,rfl⟩;rw[hlog,List.drop_append_of_le_length hlen.1];simp
  obtain⟨r,e1,e2,e3⟩:=h.pf;have hN:NG n0 (logS n E a g) W (k+1):=by
   refine⟨hnow.1.trans h.nw,⟨r++[⟨E,a,g⟩],by rw[hlog,e1,bK],by rw[al];simp;omega,λs hs=>?_⟩,λb hb=>(hck b).2 (h.cm b hb),λb hb=>hL b (h.cl b ((hck b).1 hb))⟩;rcases ah.1 hs with hs|hs
   .exact e3 s hs
   .rw[List.mem_singleton.1 hs];exact⟨λq=>hc (h.cm a q),hW⟩
  show NG n0 (if g=true then logS n E a g else keepA (logS n E a g) E a (answerTo n.servers a)) W (k+1)/\Lg n0 (if g=true then logS n E a g else keepA (logS n E a g) E a (answerTo n.servers a)) a/\∀ b,Lg n0 n b->Lg n0 (if g=true then logS n E a g else keepA (logS n E a g) E a (answerTo n.servers a)) b;split
  .exact⟨hN,hla,hL⟩
  .have hq:=keep_NG hN hla (answerTo n.servers a);exact⟨hq.1,hq.2 a hla,λb hb=>hq.2 b (hL b hb)⟩
def Wf (a0:HO) (p:A_) (s:dA):Prop:=(s.guess=true->s.to.host=s.top)/\(s.to=a0\/s.to.host=E/\s.guess=true\/wntd p s.to)
def UB {a0:HO} {p q:A_} (h:∀ a,wntd p a->wntd q a) {s:dA} (hs:Wf a0 p s):Wf a0 q s:=⟨hs.1,hs.2.imp id (Or.imp id (h _))⟩
def kG (l:N_):Nat:=1+l.conns.length+2*dnP l.page+(S l.guesses).toNat
structure GI (n0:P_) (a0:HO) (l:N_):Prop where
 ng:NG n0 l.net (Wf a0 l.page) (kG l)
 cn:∀ c,c∈l.conns->Lg n0 l.net c.to
 gs:∀ g,g∈l.guesses->Lg n0 l.net g.to
 an:ansd (Lg n0 l.net) l.page
 a0:Lg n0 l.net a0
def kG_le {l:N_} (hl:LI l):kG l<=68:=by
 have h1:=Aih hl.pi hl.mi;have h2:=hl.u6;have h3:=hl.l3;unfold kG;omega
def NZ {L M:HO->Prop} {p:A_} (h:ansd L p) (hm:∀ a,L a->M a):ansd M p:=⟨λs a b c=>hm _ (h.1 s a b c),λm a b c=>hm _ (h.2 m a b c)⟩
def Vt {po:aA} {r:ax} (h:checkRequest po r=1):isA r.to=true:=by
 unfold checkRequest at h;split at h
 .rename_i h1;simp only[T_] at h1;have:=h1.1;unfold isRequest at this;simp only[T_] at this;have h2:=this.1.1.2;unfold isA;simp only[T_];exact h2
 .exact absurd h (by decide)
def Adq {R:HO->M_} {p:A_} (h:RI R p) {a:HO} (hn:need p a):isA a=true/\wntd p a:=by
 rcases hn with⟨s,h1,h2,h3⟩|⟨m,h1,h2,h3⟩
 .have:=h.sr s h1;unfold sRt at this;rw[F_ (by rw[h2];decide)] at this;have hA:=Vt this;unfold reqO at hA;rw[<-h3];exact⟨hA,.inl ⟨s,h1,rfl,this⟩⟩
 .have:=(h.mr m h1).2 h2;rw[<-h3];exact⟨Vt this,.inr ⟨List.mem_map_of_mem h1,this⟩⟩
section
variable {R:HO->M_} {Q:List Z_} {C0:A_} {n0:P_} {a0:HO} (h400:n0.log.length<=300)
include h400
def AaX {l:N_} (hl:LI l) (h:GI n0 a0 l) {a:HO} (hA:isA a=true) {g:Bool} (hW:Wf a0 l.page ⟨E,a,g⟩) (hc:(ope l.conns a (fetchNo l.net E a g).2 g).1=l.conns++[⟨a,siz (fetchNo l.net E a g).2,g,(fetchNo l.net E a g).2⟩]):GI n0 a0 { l with net:=(fetchNo l.net E a g).1,conns:=(ope l.conns a (fetchNo l.net E a g).2 g).1 }:=by
 have hk:=kG_le hl;have hf:=Qo h.ng hA (g:=g) O hW;refine⟨Ir hf.1 (λ_ q=>q) ?_,λc hm=>?_,λy hy=>hf.2.2 _ (h.gs y hy),NZ h.an hf.2.2,hf.2.2 _ h.a0⟩
 .unfold kG;show _<=1+(ope l.conns a (fetchNo l.net E a g).2 g).1.length+2*dnP l.page+(S l.guesses).toNat;rw[hc,al];simp;omega
 .rw[hc] at hm;rcases ah.1 hm with hm|hm
  .exact hf.2.2 _ (h.cn c hm)
  .rw[List.mem_singleton.1 hm];exact hf.2.1
omit h400 in
def N8 {l:N_} (hl:LI l) (h:GI n0 a0 l) {a:HO} {x:M_} (hx:rOk x) (hn:need l.page a) (ha:Lg n0 l.net a) {n:P_} (hng:NG n0 n (Wf a0 l.page) (kG l)) (hL:∀ b,Lg n0 l.net b->Lg n0 n b) {gs:List bv} (hg:∀ g,g∈gs->∃ y,y∈l.guesses/\g.to=y.to) (hu:S l.guesses<=S gs+1) {cs:List ao} (hc:∀ c,c∈cs->c∈l.conns) (hcl:l.conns.length<=cs.length+1) (hcu:S l.guesses+l.conns.length<=S gs+cs.length+1):GI n0 a0 { l with net:=n,guesses:=gs,conns:=cs,page:=tak l.page a x }:=by
 have t6:=(F5 (a:=a) hl.pi hl.mi hx (by have:=hl.bg;omega)).2.2.2.2.2.1 hn;have hge:=WD gs;have hge2:=WD l.guesses;refine⟨Ir hng (λs hs=>UB (λb hb=>SD hb a x) hs) ?_,λc hm=>hL _ (h.cn c (hc c hm)),λg hm=>?_,OM (NZ h.an hL) (hL a ha) x,hL _ h.a0⟩
 .unfold kG;show 1+l.conns.length+2*dnP l.page+(S l.guesses).toNat<=1+cs.length+2*dnP (tak l.page a x)+(S gs).toNat;omega
 .obtain⟨y,y1,y2⟩:=hg g hm;rw[y2];exact hL _ (h.gs y y1)
def Al2 {l:N_} (hl:LI l) (hs:SI R Q C0 l) (h:GI n0 a0 l):GI n0 a0 (requ l).1:=by
 unfold requ;split
 .exact h
 .rename_i h0;obtain⟨s1,s2⟩:=OQ (l:=l) O;have hw:=Adq hs.ri s1;rw[hl.mi.ho];split
  .rename_i h3;have hf:0<=findGuess l.guesses (reqT l):=by
    unfold useGuess at h3;split at h3
    .exact absurd (show false=true from h3) (by decide)
    .omega
   have hi:=Ka hf;have eu:useGuess l.guesses (reqT l)=(l.guesses.modify (findGuess l.guesses (reqT l)).toNat λg=>{ g with used:=true },(l.guesses.getD (findGuess l.guesses (reqT l)).toNat default).bd,true):=by unfold useGuess;rw[F_ O]
   rw[eu];have hx:=hl.gr _ (Ae hi.1);have hu:=Aax hi.1;have hla:Lg n0 l.net (reqT l):=by have:=h.gs _ (Ae hi.1);rw[hi.2] at this;exact this
   have hk:=keep_NG h.ng hla (l.guesses.getD (findGuess l.guesses (reqT l)).toNat default).bd;exact N8 hl h hx s1 hla hk.1 hk.2 (λg hg=>by
    rcases Kw hi.1 hg with hg|hg
    .exact⟨g,hg,rfl⟩
    .exact⟨l.guesses.getD (findGuess l.guesses (reqT l)).toNat default,Ae hi.1,by rw[hg]⟩) hu.2 (λc hc=>hc) O (by have:=hu.2;omega)
  .split
   .exact h
   .rename_i h4;exact AaX h400 hl h hw.1 ⟨λe=>absurd (show false=true from e) (by decide),.inr (.inr hw.2)⟩ (RH O s2 _ _)
def XL {l:N_} (hl:LI l) (h:GI n0 a0 l) (h3:l.conns.length<3):∀ m:List HO,(∀ a,a∈m->isA a=true/\a.host=E)->GI n0 a0 (nex l m).1
 | [],_=>h
 | a::m,hm=>by
  rw[nex];split
  .exact XL hl h h3 m λb hb=>hm b (by simp[hb])
  .rename_i h4;simp only[not_or,Int.not_le] at h4;have ha:=hm a (by simp);rw[hl.mi.ho];exact AaX h400 hl h ha.1 ⟨λ_=>ha.2,.inr (.inl ⟨ha.2,rfl⟩)⟩ (RH h3 (It O h4.2) _ _)
omit h400 in
def MM {b:ByteArray}:∀ {l:List ai} {r:ax},r∈scanTokens b l->r.from_=b
 | t::l,r,h=>by
  rw[scanTokens] at h;split at h
  .rename_i h1;rcases au.1 h with h|h
   .rw[h];unfold scanTok at h1 ⊢;split at h1
    .rename_i h2;rw[G_ h2]
    .exact absurd (show false=true from h1) (by decide)
   .exact MM h
  .exact MM h
omit h400 in
def XT {p:A_} (hh:p.addr.host=E):∀ a,a∈guessesOf p->isA a=true/\a.host=E:=by
 have key:∀ (l:List ax) (out:List HO),(∀ r,r∈l->r.from_=E)->(∀ a,a∈out->isA a=true/\a.host=E)->∀ a,a∈gue p l out->isA a=true/\a.host=E:=by
  intro l
  induction l with
  | nil=>intro out _ h2 a ha;exact h2 a ha
  | cons r l ih=>
   intro out h1 h2 a ha;rw[gue] at ha;split at ha
   .rename_i hg;refine ih _ (λr hr=>h1 r (by simp[hr])) (λb hb=>?_) a ha;rcases ah.1 hb with hb|hb
    .exact h2 b hb
    .rw[List.mem_singleton.1 hb];unfold guessOk canGuess at hg;simp only[T_,az] at hg;exact⟨Vt hg.2.1,by rw[hg.1.2.2];exact h1 r (by simp)⟩
   .exact ih _ (λr hr=>h1 r (by simp[hr])) h2 a ha
 exact key _ [] (λr hr=>by rw[MM hr];exact hh) (by simp)
def AeB {l:N_} (hl:LI l) (h:GI n0 a0 l):GI n0 a0 (guessN l).1:=by
 unfold guessN;split
 .exact h
 .rename_i h4;simp only[not_or,Nat.not_le] at h4;exact XL h400 hl h h4.1 _ (XT hl.mi.ho)
omit h400 in
def AkX {l:N_} (hl:LI l) (hs:SI R Q C0 l) (h:GI n0 a0 l) {k:Int} (h0:0<=k) (hk:k<l.conns.length):GI n0 a0 (fini l k):=by
 have hc:l.conns.getD k.toNat default∈l.conns:=Ae O;have hcs:∀ c,c∈closeC l.conns k->c∈l.conns:=λc hm=>by
  rw[Hr h0 hk] at hm;rcases ah.1 hm with hm|hm
  .exact fw hm
  .exact ft hm
 have hlen:=J9 h0 hk;have hx:=(hl.cr _ hc).1;have hLc:=h.cn _ hc;have hge:=WD l.guesses;unfold fini finis;split
 .rename_i h1;have hnd:=(HG _ _).1 h1;split
  .have hq:=keep_NG h.ng hLc (l.conns.getD k.toNat default).bd;have:=N8 hl h hx hnd hLc hq.1 hq.2 (gs:=l.guesses) (λg hg=>⟨g,hg,rfl⟩) O hcs O O;show GI n0 a0 { l with net:=keepA l.net l.page.addr.host _ _,conns:=closeC l.conns k,page:=tak l.page _ _ };rw[hl.mi.ho];exact this
  .exact N8 hl h hx hnd hLc h.ng (λ_ q=>q) (cs:=closeC l.conns k) (gs:=l.guesses) (λg hg=>⟨g,hg,rfl⟩) O hcs O O
 .rename_i h1;have hng:¬ need l.page (l.conns.getD k.toNat default).to:=λq=>h1 ((HG _ _).2 q)
  have hg:(l.conns.getD k.toNat default).guess=true:=by
   cases hg:(l.conns.getD k.toNat default).guess with
   | true=>rfl
   | false=>exact absurd (hl.ng _ hc hg) hng
  rw[G_ hg];have hno:=hl.gg _ hc hg;have hf:findGuess l.guesses (l.conns.getD k.toNat default).to<0:=by
   rcases Int.lt_or_le (findGuess l.guesses (l.conns.getD k.toNat default).to) 0 with e|e
   .exact e
   .exact absurd (Ka e).2 (hno _ (Ae (Ka e).1))
  have hgc:1<=countGuess l.conns:=by rw[GH];exact List.countP_pos_iff.2 ⟨_,hc,hg⟩
  have hu6:=hl.u6;have ea:(addGuess l.guesses (l.conns.getD k.toNat default).to (l.conns.getD k.toNat default).bd).1=l.guesses++[⟨(l.conns.getD k.toNat default).to,(l.conns.getD k.toNat default).bd,false⟩]:=by
   unfold addGuess;have:S l.guesses<6:=O
   unfold S at this;rw[F_ O]
  show GI n0 a0 { l with conns:=closeC l.conns k,guesses:=(addGuess l.guesses _ _).1 };rw[ea];have hu:S (l.guesses++[⟨(l.conns.getD k.toNat default).to,(l.conns.getD k.toNat default).bd,false⟩])=S l.guesses+1:=by rw[Q9];rfl
  refine⟨Ir h.ng (λ_ q=>q) ?_,λc hm=>h.cn c (hcs c hm),λg hm=>?_,h.an,h.a0⟩
  .unfold kG;show 1+l.conns.length+2*dnP l.page+(S l.guesses).toNat<=1+(closeC l.conns k).length+2*dnP l.page+(S (l.guesses++[_])).toNat;rw[hu];omega
  .rcases ah.1 hm with hm|hm
   .exact h.gs g hm
   .rw[List.mem_singleton.1 hm];exact hLc
end
section
variable {R:HO->M_} {Q:List Z_} {C0:A_} {n0:P_} {a0:HO}
def AhZ {l:N_} (h:GI n0 a0 l) (hd:dnP l.page<=dnP (arri l).1.page):GI n0 a0 (arri l).1:=by
 unfold arri at *
 split
 .exact h
 .rename_i hp;rw[F_ hp] at hd;have hsame:∃ ts k e,arr l=atP l.page ts k e:=by
   unfold arr endPage arriveT;split
   .split
    .exact⟨[],l.page.tok,l.page.ended,by unfold atP;rw[cS]⟩
    .exact⟨(feedA (l.page.tok.rest++l.parts.getD 0 default)).1++endT (feedA (l.page.tok.rest++l.parts.getD 0 default)).2,default,true,by unfold atP;simp only[bK]⟩
   .split
    .exact⟨[],l.page.tok,l.page.ended,by unfold atP;rw[cS]⟩
    .exact⟨_,_,l.page.ended,rfl⟩
  obtain⟨ts,k,e,ea⟩:=hsame;have hw:∀ a,wntd l.page a->wntd (adva (arr l)) a:=λa ha=>Acs 2000 (by rw[ea];exact ha)
  refine⟨Ir h.ng (λs hs=>UB hw hs) ?_,h.cn,h.gs,TG 2000 (by rw[ea];exact h.an),h.a0⟩;unfold kG;show 1+l.conns.length+2*dnP l.page+(S l.guesses).toNat<=1+l.conns.length+2*dnP (adva (arr l))+(S l.guesses).toNat;have:dnP l.page<=dnP (adva (arr l)):=hd;omega
def AhI (l:N_):dnP l.page<=dnP (arri l).1.page:=by
 unfold arri;split
 .exact X_ _
 .have hg:=Ai5 (Tf 2000 (arr l));have e:dnP (arr l)=dnP l.page:=by
   unfold arr endPage arriveT
   (repeat' split)<;>rfl
  show dnP l.page<=dnP (adv 2000 (arr l));omega
def AdK:∀ (n:Nat) {l:N_},(∀ a,rOk (R a))->LI l->SI R Q C0 l->GI n0 a0 l->GI n0 a0 (xfer n l)
 | 0,l,_,_,_,h=>h
 | n+1,l,hR,hl,hs,h=>by
  rw[xfer];split
  .exact h
  .have h2:=Ct l.conns 0 O;have h3:0<=fir l.conns 0:=O
   have h4:fir l.conns 0<l.conns.length:=O
   exact AdK n hR (ZS hl h3 h4).1 (Ahs hR hl hs h3 h4) (AkX hl hs h h3 h4)
def Alu (hR:∀ a,rOk (R a)) {l:N_} (hl:LI l) (hs:SI R Q C0 l) (h:GI n0 a0 l) {b:Int} (hb:20<=b/\b<=1000):GI n0 a0 (tra l b).1:=by
 unfold tra;split
 .exact h
 .have hmem:∀ c,c∈mov l.conns b->∃ d,d∈l.conns/\c.to=d.to/\c.bd=d.bd:=λc hc=>by
   unfold mov at hc;split at hc
   .obtain⟨d,hd,rfl⟩:=bM.1 hc;exact⟨d,hd,rfl,rfl⟩
   .exact⟨c,hc,rfl,rfl⟩
  have hlen:(mov l.conns b).length=l.conns.length:=by
   unfold mov;split
   .rw[cE]
   .rfl
  refine AdK _ hR (Qi hl hb).1 (Tz hs hs.nt hs.gs λc hc=>?_) ⟨?_,λc hc=>?_,h.gs,h.an,h.a0⟩
  .obtain⟨d,d1,d2,d3⟩:=hmem c hc;rw[d2,d3];exact hs.cn d d1
  .refine Ir h.ng (λ_ q=>q) ?_;unfold kG;show 1+l.conns.length+2*dnP l.page+(S l.guesses).toNat<=1+(mov l.conns b).length+2*dnP l.page+(S l.guesses).toNat;rw[hlen];exact X_ _
  .obtain⟨d,d1,d2,_⟩:=hmem c hc;rw[d2];exact h.cn d d1
variable (hR:∀ a,rOk (R a)) (h400:n0.log.length<=300)
include hR h400
def AkO {l:N_} (hl:LI l) (hs:SI R Q C0 l) (h:GI n0 a0 l) (n:Int):GI n0 a0 (ac l n).1:=by
 unfold ac;split
 .exact AhZ h (AhI l)
 .split
  .exact Al2 h400 hl hs h
  .split
   .exact AeB h400 hl h
   .split
    .exact Alu hR hl hs h O
    .exact Alu hR hl hs h O
def QA {l:N_} (hl:LI l) (hs:SI R Q C0 l) (h:GI n0 a0 l) (c:Int):∀ n:Nat,GI n0 a0 (stepR l c n).1
 | 0=>h
 | n+1=>by
  rw[stepR];split
  .exact AkO hR h400 hl hs h _
  .exact QA hl hs h c n
def Ab4:∀ (cs:List Int) {l:N_},LI l->SI R Q C0 l->GI n0 a0 l->GI n0 a0 (cs.foldl stepTo l)
 | [],l,_,_,h=>h
 | c::cs,l,hl,hs,h=>by rw[dy];exact Ab4 cs (K2 hl c).1 (Q7 hR hl hs c) (QA hR h400 hl hs h c 5)
def Aeo:∀ (n:Nat) {l:N_},LI l->SI R Q C0 l->GI n0 a0 l->GI n0 a0 (runB n l)
 | 0,l,_,_,h=>h
 | n+1,l,hl,hs,h=>by
  rw[runB];split
  .exact h
  .split
   .exact Aeo n (K2 hl 0).1 (Q7 hR hl hs 0) (QA hR h400 hl hs h 0 5)
   .exact h
def AlD {l:N_} (hl:LI l) (hs:SI R Q C0 l) (h:GI n0 a0 l) (cs:List Int):GI n0 a0 (runLo l cs):=Aeo hR h400 1000 (Qh (cs.take 100) hl).1 (Vh hR _ hl hs) (Ab4 hR h400 _ hl hs h)
def WG:∀ (k:Nat) (n:P_) (p:A_),LI (pl n p)->SI R Q C0 (pl n p)->GI n0 a0 (pl n p)->GI n0 a0 (pl (fet E k n p).1 (fet E k n p).2)
 | 0,n,p,_,_,h=>h
 | k+1,n,p,hl,hs,h=>by
  rw[fet];split
  .exact h
  .rename_i h1;have hn:=O5 h1;have hw:=Adq hs.ri hn;have hk:=kG_le hl;have hf:=Qo h.ng (g:=false) hw.1 O ⟨λe=>absurd (show false=true from e) (by decide),.inr (.inr hw.2)⟩;have hfr:=H2 (n:=n) hs.nt E ((nextN p).getD 0 default).to false;have hfo:=F3 (n:=n) hl.nt E ((nextN p).getD 0 default).to false;have e:(pl n p).page=p:=rfl;have h2:=Ku hl (a:=((nextN p).getD 0 default).to) (x:=R ((nextN p).getD 0 default).to) (n:=(fetchNo n E ((nextN p).getD 0 default).to false).1) (gs:=[]) (hR _) hfo.1 hn (by show _∉([]:List ao).map _;simp) (by simp) (Int.le_refl _) (show S []<=S []+1 from O);have h3:=IC hR hl hs ((nextN p).getD 0 default).to (n:=(fetchNo n E ((nextN p).getD 0 default).to false).1) hfr.1 (gs:=[]) (by simp) (cs:=[]) (by simp);have t6:=(F5 (a:=((nextN p).getD 0 default).to) (x:=R ((nextN p).getD 0 default).to) hl.pi hl.mi (hR _) (by have:=hl.bg;omega)).2.2.2.2.2.1 hn;rw[hfr.2];refine WG k _ _ h2.1 h3 ⟨Ir hf.1 (λs q=>UB (λb hb=>SD hb _ _) q) ?_,λc hc=>absurd (show c∈[] from hc) (by simp),λc hc=>absurd (show c∈[] from hc) (by simp),OM (NZ h.an hf.2.2) hf.2.1 _,hf.2.2 _ h.a0⟩;unfold kG;show 1+0+2*dnP p+(S []).toNat+1<=1+0+2*dnP (tak p ((nextN p).getD 0 default).to (R ((nextN p).getD 0 default).to))+(S []).toNat;have:dnP p<dnP (tak p ((nextN p).getD 0 default).to (R ((nextN p).getD 0 default).to)):=t6;omega
end
abbrev Ot:Xct:=⟨[.u,.v (.sl .str)],[.el .str],λ(x:dB)=>0<x.2.1.length/\x.2.1.length<=256,λ(x:dB) (y:E_)=>y.1∈x.2.1⟩
def Aom:=AoL.X Ot<|Xct.o [0,1,4] AoL.2 func48 (by
 rintro⟨(c:PUnit),(l:List ByteArray),_⟩ hp;refine ho (.dr A7 ((),(↑(List.length l):Int),()) λ(y1:D_)=>.ob (0<=y1.1/\y1.1<(↑(List.length l):Int))<|.lx Ot (List.getD l y1.1.toNat default,())) ?_;refine Bk trivial λ(y1:D_) i1=>Ad ?_ λ_=>lxY ?_<;>(try simp only[std,Nat.reduceAdd] at *)<;>(first|trivial|omega|skip)<;>(refine Ae ?_;omega))
def tx8B (s:ByteArray):Bool:=hB (I s)&&(!(I s).contains 60&&hdB (λy=>y != 105&&y != 59) (I s))
def tx8 (s:ByteArray):Prop:=gdT s/\hdB (λy=>y != 105&&y != 59) (I s)=true
def AkE {s:ByteArray} (h:tx8B s=true):tx8 s:=by
 unfold tx8B at h;simp only[T_,cO,List.contains_eq_mem,cw] at h;exact⟨⟨h.1,h.2.1⟩,h.2.2⟩
def Aan {l:List ByteArray} (h:l.all (λs=>tx8B s&&decide (s.size<=23))=true) {y:ByteArray} (hy:y∈l):tx8 y/\y.size<=23:=by
 have:=aM.1 h y hy;simp only[T_,az] at this;exact⟨AkE this.1,this.2⟩
def Akf {a b:ByteArray} (h:tx8 a) (h2:tx8 b):tx8 (a++⟨#[59]⟩++b):=by
 refine⟨UA (UA h.1 ⟨by decide,by decide⟩) h2.1,?_⟩;rw[Ar,Ar];exact QU (QU h.2)
def tx8e (s:ByteArray):Prop:=s=⟨#[]⟩\/tx8 s
def AaD {s:ByteArray} (h:tx8e s):gdT s:=by
 rcases h with h|h
 .rw[h];exact Ic
 .exact h.1
def AiK (x:ByteArray):(⟨#[]⟩:ByteArray)++x=x:=by rw[<-AM (_++x),Ar];simp[I,ofL]
abbrev Ru:Xct:=⟨[.u,.v (.el .int)],[.el .str],λ(x:aC)=>1<=x.2.1/\x.2.1<=100,λ(x:aC) (y:E_)=>tx8e y.1/\y.1.size<=24*x.2.1⟩
abbrev Et (c:Unit) (most:Int):LInv:=⟨[⟨.s,5,true,.el .str⟩,⟨.s,6,true,.el .int⟩],λ_ (x:aa)=>0<=x.2.1/\x.2.1<=most/\x.1.size+24*x.2.1<=24*most/\tx8e x.1,λ(x:aa)=>x.2.1.toNat⟩
def AoJ:=Aom.X Ru<|Xct.p (KP [0,1,4,5,6] [12,16]) (λ⟨c,most,_⟩=>lv [(3,Et c most)]) Aom.2 func88 (by
 rintro⟨(c:PUnit),(most:Int),_⟩ hp;refine ho (let bX:=Value.int IntKind.i64 most;let bP:=(⟨#[97,100,100,32,98]⟩:ByteArray);let aO:=(⟨#[97,100,100,32,112]⟩:ByteArray);let aK:=(⟨#[59]⟩:ByteArray);let bQ:=(⟨#[108,111,111,107,32,98]⟩:ByteArray);let bD:=(⟨#[115,97,121,32,104,105]⟩:ByteArray);let aJ:=(⟨#[108,111,111,107,32,112]⟩:ByteArray);let ay:=(⟨#[99,111,117,110,116,32,112]⟩:ByteArray);let aq:=(⟨#[119,114,105,116,101,32,91,98,93]⟩:ByteArray);let Y_:=(⟨#[]⟩:ByteArray);let O_:=(⟨#[99,111,117,110,116,32,115,99,114,105,112,116]⟩:ByteArray);let L_:=(⟨#[119,114,105,116,101,32,91,112,93,120,91,47,112,93]⟩:ByteArray);let J_:=(⟨#[119,114,105,116,101,32,91,105,109,103,32,115,114,99,61,108,111,103,111,93]⟩:ByteArray);let H_:=(⟨#[119,114,105,116,101,32,91,108,105,110,107,32,104,114,101,102,61,115,116,121,108,101,93]⟩:ByteArray);.dr A7 ((),most,()) λ(y1:D_)=>lpx (Et c most) (Y_,(wr ((1:Int)+y1.1),())) λ(y2:aa) bk2=>.br (decide (y2.2.1>0)) (.br (!y2.1.toList==Y_.toList) (.ob (sameSize y2.1 aK)<|.dr Ot ((),[bD,ay,O_,aJ,bQ,bP,aO,L_,J_,H_,aq],()) λ(y7:E_)=>.ob (sameSize (y2.1++aK) y7.1)<|.re bX<|.re (Value.string Y_)<|.bk (bk2 (y2.1++aK++y7.1,(wr (y2.2.1-(1:Int)),())))) (.dr Ot ((),[bD,ay,O_,aJ,bQ,bP,aO,L_,J_,H_,aq],()) λ(y11:E_)=>.ob (sameSize y2.1 y11.1)<|.re bX<|.re (Value.string Y_)<|.bk (bk2 (y2.1++y11.1,(wr (y2.2.1-(1:Int)),()))))) (.lx Ru (y2.1,()))) ?_;refine Bk trivial λ(y1:D_) i1=>Ay ?_ λ(y2:aa) i2=>Z (λh3=>Z (λh4=>Ad ?_ λ_=>BV ?_ λo6 (y7:E_) i7=>Ad ?_ λ_=>Al<|Al<|AR ?_) λh4=>BV ?_ λo10 (y11:E_) i11=>Ad ?_ λ_=>Al<|Al<|AR ?_) (λh3=>lxY ?_)<;>(try simp only[std,Nat.reduceAdd,sameSize,aQ] at *)<;>(try simp(disch:=omega) only[FS,C_] at *)<;>(first|omega|exact⟨O,O,by show(0:Int)+_<=_;omega,.inl rfl⟩|exact⟨by decide,by decide⟩|skip)<;>obtain⟨a1,a2,a3,a4⟩:=i2<;>(first|exact⟨a4,O⟩|(have m:=Aan (by decide +kernel) i7)|(have m:=Aan (by decide +kernel) i11)|skip)<;>(first|omega|skip)<;>(first|exact⟨⟨O,O,O,.inr (Akf (a4.resolve_left h4) m.1)⟩,O⟩|exact⟨⟨O,O,O,.inr (by rw[h4,AiK];exact m.1)⟩,O⟩|skip))
def AlP {w:ByteArray} (h:hasIm w):∃ l,I w=105::l:=by
 have e:I (w.extract 0 7)=I impW:=cG I h.2;rw[AI,fx] at e;cases hw:I w with
 | nil=>rw[hw] at e;exact absurd e (by decide)
 | cons x l=>
  rw[hw] at e;have e2:x=105:=by have:=cG List.head? e;simpa [impW,I] using this
  exact⟨l,by rw[e2]⟩
def AiY {s h:ByteArray} (hn:∀ w r,K 59 s=w::r->¬ hasIm w):(parseM s h).1=[]:=by
 unfold parseM;cases hs:K 59 s with
 | nil=>rfl
 | cons w r=>
  rw[pmGo,F_ (hn w r hs)];split<;>rfl
def Aj1 {s:ByteArray} (h:tx8e s) (b:ByteArray):(parseM s b).1=[]:=by
 refine AiY λw r hw hi=>?_
 obtain⟨l,hl⟩:=AlP hi;rw[F8] at hw;rcases h with h|h
 .subst h;have:GZ 59 (I ⟨#[]⟩)=none:=rfl;rw[this] at hw;simp only[List.cons.injEq] at hw;rw[<-hw.1] at hl;exact absurd hl (by simp[I])
 .have hd:=h.2;cases hc:GZ 59 (I s) with
  | none=>
   rw[hc] at hw;simp only[List.cons.injEq] at hw;rw[hw.1,hl] at hd;exact absurd hd (by simp[hdB])
  | some q=>
   obtain⟨p,q⟩:=q;rw[hc] at hw;simp only[List.cons.injEq] at hw;obtain⟨e,_⟩:=Mq hc;rw[<-hw.1,BS] at hl;rw[e,hl] at hd;exact absurd hd (by simp[hdB])
def impB (y:ByteArray):Bool:=H3.all λh=>((parseM y h).1).all λb=>decide (b∈A9)
def AiO {la lb:List ByteArray} (h:(la.all λa=>lb.all λb=>impB (a++b)&&decide (a.size+b.size<=400))=true) {a b:ByteArray} (ha:a∈la) (hb:b∈lb):impB (a++b)=true/\a.size+b.size<=400:=by
 have:=aM.1 (aM.1 h a ha) b hb;simp only[T_,az] at this;exact this
abbrev Hq:Xct:=⟨[.u,.v (.el .int)],[.el .str],λ(x:aC)=>True,λ(x:aC) (y:E_)=>y.1.size<=400/\(x.2.1=2->tx8e y.1)/\(x.2.1=5->impB y.1=true)⟩
def ApS:=AoJ.X Hq<|Xct.o (KP [0,1,4,5] [6,10,14,23]) AoJ.2 func143 (by
 rintro⟨(c:PUnit),(k:Int),_⟩ hp;refine ho (.br (k==2) (.dr Ru ((),(3:Int),()) λ(y3:E_)=>.lx Hq (y3.1,())) (.br (k==3) (.dr Wa ((),()) λ(y5:E_)=>.lx Hq (y5.1,())) (.br (k==5) (.dr Ot ((),[(⟨#[]⟩:ByteArray),(⟨#[105,109,112,111,114,116,32,117,116,105,108,59]⟩:ByteArray),(⟨#[105,109,112,111,114,116,32,108,105,98,59]⟩:ByteArray),(⟨#[105,109,112,111,114,116,32,99,100,110,47,108,105,98,59]⟩:ByteArray),(⟨#[105,109,112,111,114,116,32,97,112,112,59,105,109,112,111,114,116,32,117,116,105,108,59]⟩:ByteArray)],()) λ(y8:E_)=>.dr Ot ((),[(⟨#[115,97,121,32,109]⟩:ByteArray),(⟨#[99,111,117,110,116,32,112]⟩:ByteArray),(⟨#[97,100,100,32,98]⟩:ByteArray),(⟨#[108,111,111,107,32,112]⟩:ByteArray)],()) λ(y10:E_)=>.ob (sameSize y8.1 y10.1)<|.lx Hq (y8.1++y10.1,())) (.br (k==4) (.lx Hq ((⟨#[112,105,120,101,108,115]⟩:ByteArray),())) (.dr RX ((),(8:Int),()) λ(y14:E_)=>.lx Hq (y14.1,())))))) ?_;refine Z (λh1=>BV ?_ λo2 (y3:E_) i3=>lxY ?_) λh1=>Z (λh4=>Bk trivial λ(y5:E_) i5=>lxY ?_) λh4=>Z (λh6=>BV ?_ λo7 (y8:E_) i8=>BV ?_ λo9 (y10:E_) i10=>Ad ?_ λ_=>lxY ?_) λh6=>Z (λh12=>lxY ?_) λh12=>BV ?_ λo13 (y14:E_) i14=>lxY ?_;all_goals try simp only[std,Nat.reduceAdd,sameSize,aQ] at *
 all_goals (try have m:=AiO (by decide +kernel) i8 i10)<;>(first|omega|exact⟨by decide,by decide⟩|exact⟨O,λ_=>i3.1,λe=>O⟩|exact⟨m.2,λe=>absurd e h1,λ_=>m.1⟩|exact⟨O,λe=>absurd e h1,λe=>O⟩|exact⟨by decide,λe=>absurd e h1,λe=>absurd e h6⟩|exact⟨O,λe=>absurd e h1,λe=>absurd e h6⟩|skip))
def Alm {x:M_} (h1:x.kind=2->tx8e x.body) (h2:x.kind=5->impB x.body=true) (h3:x.body.size<=400):rOk x:=by
 refine⟨λe=>AaD (h1 e),λe h hh b hb=>?_,h3⟩;rcases e with e|e
 .rw[Aj1 (h1 e) h] at hb;simp at hb
 .have:=aM.1 (aM.1 (h2 e) h hh) b hb;exact ee this
abbrev CR:Xct:=⟨[.u,.v (.el .int)],[.el .bd],λ(x:aC)=>1<=x.2.1/\x.2.1<=5,λ(x:aC) (y:ar)=>isResponse y.1=true/\y.1.status=200/\y.1.body.size<=400/\y.1.bm.size<=200/\y.1.kind=x.2.1/\rOk y.1⟩
def Aog:=ApS.X CR<|Xct.o (KP [0,1,4,5] [17]) ApS.2 func86 (by
 rintro⟨(c:PUnit),(k:Int),_⟩ hp;refine ho (.dr Hq ((),k,()) λ(y1:E_)=>.dr Nu ((),[(0:Int),(5:Int),(50:Int)],()) λ(y3:D_)=>.dr Gi ((),(2:Int),()) λ(y4:W_)=>.br (k==1) (.dr FG ((),()) λ(y6:bw)=>.cl Ax (y6.1,()) λz2=>.lx CR (⟨(200:Int),k,y1.1,y3.1,y4.1,z2.1⟩,())) (.lx CR (⟨(200:Int),k,y1.1,y3.1,y4.1,(⟨#[]⟩:ByteArray)⟩,()))) ?_;refine Bk trivial λ(y1:E_) i1=>BV ?_ λo2 (y3:D_) i3=>Bk trivial λ(y4:W_) i4=>Z (λh5=>Bk trivial λ(y6:bw) i6=>Cs ?_ λo7 z2 ez2=>lxY ?_) (λh5=>lxY ?_)<;>(try subst_vars)<;>(try have q:=Gg i6)<;>(try have q2:=Cg y6.1)<;>(try have q3:=H0 i6)<;>(try simp only[std,Nat.reduceAdd] at *)<;>(try simp only[au,fL,or_false] at i3)<;>(first|omega|decide|skip)<;>(refine⟨?_,i1.1,?_,Alm i1.2.1 i1.2.2 i1.1⟩)<;>(first|omega|(simp only[isResponse,inRange,T_,az];first|exact⟨⟨O,O⟩,hp,i1.1,⟨O,O⟩,q3⟩|exact⟨⟨O,O⟩,hp,i1.1,⟨O,O⟩,rfl⟩)|skip))
def pcB (s:ByteArray):Bool:=hB (I s)&&(tgB tgF (I s)&&(decide ((I s).count 60<=2)&&(decide (csN (I s)<=1)&&decide (s.size<=64))))
structure pcP (s:ByteArray) (c k m:Nat):Prop where
 hb:hB (I s)=true
 tg:tgB tgF (I s)=true
 c6:(I s).count 60<=c
 cs:csN (I s)<=k
 sz:s.size<=m
def Aky {s:ByteArray} (h:pcB s=true):pcP s 2 1 64:=by
 unfold pcB at h;simp only[T_,az] at h;exact⟨h.1,h.2.1,h.2.2.1,h.2.2.2.1,h.2.2.2.2⟩
def VF:∀ {a:List UInt8} (c:List UInt8),tgB tgF a=true->csN (a++c)<=csN a+csN c
 | [],c,_=>by simp[csN]
 | x::a,c,h=>by
  simp only[tgB,T_,dt,bne_iff_ne] at h;have ih:=VF c h.2;rw[cy,csN,csN];have:(if x=60/\hdB (λy=>y==115) (a++c)=true then 1 else 0)<=(if x=60/\hdB (λy=>y==115) a=true then 1 else 0):=by
   cases a with
   | nil=>
    have hx:x≠60:=by
     rcases h.1 with h1|h1
     .exact h1
     .exact absurd h1 (by decide)
    rw[F_ λq=>hx q.1];exact Nat.zero_le _
   | cons y a=>exact X_ _
  omega
def Aa6 {a b:ByteArray} {c k m c2 k2 m2:Nat} (h:pcP a c k m) (h2:pcP b c2 k2 m2):pcP (a++b) (c+c2) (k+k2) (m+m2):=by
 refine⟨?_,?_,?_,?_,by rw[aQ];have:=h.sz;have:=h2.sz;omega⟩
 .rw[Ar];exact JV h.hb h2.hb
 .rw[Ar];exact XN h.tg h2.tg
 .rw[Ar,List.count_append];have:=h.c6;have:=h2.c6;omega
 .rw[Ar];have:=VF (I b) h.tg;have:=h.cs;have:=h2.cs;omega
def Adv {a:ByteArray} {c k m c2 k2 m2:Nat} (h:pcP a c k m) (h1:c<=c2) (h2:k<=k2) (h3:m<=m2):pcP a c2 k2 m2:=⟨h.hb,h.tg,aP h.c6 h1,aP h.cs h2,aP h.sz h3⟩
def Akb {t:ByteArray} (h:gdT t) {m:Nat} (hm:t.size<=m):pcP t 0 0 m:=by
 have h0:(I t).count 60=0:=List.count_eq_zero.2 h.2;have hc:∀ l:List UInt8,(60:UInt8)∉l->csN l=0/\tgB tgF l=true:=by
  intro l
  induction l with
  | nil=>intro _;exact⟨rfl,rfl⟩
  | cons x l ih=>
   intro hx;simp only[au,not_or] at hx;have i:=ih hx.2;refine⟨?_,?_⟩
   .rw[csN,F_ λq=>hx.1 q.1.symm,i.1]
   .simp only[tgB,T_,dt,bne_iff_ne];exact⟨.inl λe=>hx.1 e.symm,i.2⟩
 have:=hc (I t) h.2;exact⟨h.1,this.2,O,O,hm⟩
def Al6 {t:ByteArray} (h:gdT t) (hm:t.size<=48):pcP ((⟨#[60,115,99,114,105,112,116,62]⟩:ByteArray)++t++⟨#[60,47,115,99,114,105,112,116,62]⟩) 2 1 65:=by
 have a:pcP (⟨#[60,115,99,114,105,112,116,62]⟩:ByteArray) 1 1 8:=⟨by decide +kernel,by decide +kernel,by decide +kernel,by decide +kernel,by decide⟩;have b:pcP (⟨#[60,47,115,99,114,105,112,116,62]⟩:ByteArray) 1 0 9:=⟨by decide +kernel,by decide +kernel,by decide +kernel,by decide +kernel,by decide⟩;exact Aa6 (Aa6 a (Akb h hm)) b
def sfB (s:ByteArray):Bool:=hB (I s)&&(tgB tgE (I s)&&(decide ((I s).count 60<=2)&&(decide (csN (I s)=0)&&decide (s.size<=10))))
structure pgP (s:ByteArray):Prop where
 pg:pgT (I s)
 w:wL (I s)+362*csN (I s)<=1900
 sz:s.size<=400
def AmF {s t:ByteArray} {m:Nat} (h:pcP s 12 5 m) (hm:m<=390) (ht:sfB t=true):pgP (s++t):=by
 unfold sfB at ht;simp only[T_,az] at ht;refine⟨⟨?_,?_⟩,?_,by rw[aQ];have:=h.sz;omega⟩
 .rw[Ar];exact JV h.hb ht.1
 .rw[Ar];exact AdO h.tg ht.2.1
 .have h1:wL (I (s++t))<=2*(I (s++t)).count 60+1:=by unfold wL;split<;>omega
  rw[Ar] at h1 ⊢;rw[List.count_append] at h1;have h2:=VF (I t) h.tg;have:=h.c6;have:=h.cs;omega
def pfB (s:ByteArray):Bool:=hB (I s)&&(tgB tgF (I s)&&(decide ((I s).count 60<=2)&&(decide (csN (I s)<=0)&&decide (s.size<=20))))
def Alk {l:List ByteArray} (h:l.all pfB=true) {y:ByteArray} (hy:y∈l):pcP y 2 0 20:=by
 have:=aM.1 h y hy;unfold pfB at this;simp only[T_,az] at this;exact⟨this.1,this.2.1,this.2.2.1,this.2.2.2.1,this.2.2.2.2⟩
def AlJ {p t:ByteArray} {l:List ByteArray} (h:(p::l).all pcB=true) (ht:gdT t) (hm:t.size<=48) {y:ByteArray} (hy:y∈p::((⟨#[60,115,99,114,105,112,116,62]⟩:ByteArray)++t++⟨#[60,47,115,99,114,105,112,116,62]⟩)::l):pcP y 2 1 65:=by
 simp only[au] at hy;rcases hy with hy|hy|hy
 .exact Adv (Aky (aM.1 h y (by simp[hy]))) (X_ _) (X_ _) O
 .rw[hy];exact Al6 ht hm
 .exact Adv (Aky (aM.1 h y (by simp[hy]))) (X_ _) (X_ _) O
def Alt {l:List ByteArray} (h:l.all sfB=true) {y:ByteArray} (hy:y∈l):y.size<=10/\sfB y=true:=by
 have:=aM.1 h y hy;refine⟨?_,this⟩;unfold sfB at this;simp only[T_,az] at this;exact this.2.2.2.2
abbrev PW:Xct:=⟨[.u],[.el .str],λ(x:S_)=>True,λ(x:S_) (y:E_)=>pgP y.1⟩
abbrev Dv (c:Unit):LInv:=⟨[⟨.s,3,true,.el .str⟩,⟨.s,4,true,.el .int⟩],λ_ (x:aa)=>0<=x.2.1/\x.2.1<=5/\pcP x.1 (12-2*x.2.1.toNat) (5-x.2.1.toNat) (345-65*x.2.1.toNat),λ(x:aa)=>x.2.1.toNat⟩
def AoC:=Aog.X PW<|Xct.p (KP [0,2,3,4] [11]) (λ⟨c,_⟩=>lv [(3,Dv c)]) Aog.2 func42 (by
 rintro⟨(c:PUnit),_⟩ hp;refine ho (let L_:=(⟨#[60,47,115,99,114,105,112,116,62]⟩:ByteArray);let J_:=(⟨#[]⟩:ByteArray);let H_:=(⟨#[60,115,99,114,105,112,116,62]⟩:ByteArray);.dr Ot ((),[J_,(⟨#[60,112,62,104,105,60,47,112,62]⟩:ByteArray),(⟨#[60,108,105,110,107,32,104,114,101,102,61,115,116,121,108,101,62]⟩:ByteArray)],()) λ(y2:E_)=>.dr A7 ((),(6:Int),()) λ(y3:D_)=>lpx (Dv c) (y2.1,(y3.1,())) λ(y4:aa) bk4=>.br (decide (y4.2.1>0)) (.dr Ru ((),(2:Int),()) λ(y7:E_)=>.ob (sameSize H_ y7.1)<|.ob (sameSize (H_++y7.1) L_)<|.dr Ot ((),[(⟨#[60,115,99,114,105,112,116,32,115,114,99,61,97,112,112,62,60,47,115,99,114,105,112,116,62]⟩:ByteArray),H_++y7.1++L_,(⟨#[60,115,99,114,105,112,116,32,115,114,99,61,99,100,110,47,108,105,98,62,60,47,115,99,114,105,112,116,62]⟩:ByteArray),(⟨#[60,115,99,114,105,112,116,32,115,114,99,61,117,116,105,108,32,107,105,110,100,61,109,111,100,117,108,101,62,60,47,115,99,114,105,112,116,62]⟩:ByteArray),(⟨#[60,115,99,114,105,112,116,32,115,114,99,61,108,105,98,32,107,105,110,100,61,100,101,102,101,114,62,60,47,115,99,114,105,112,116,62]⟩:ByteArray),(⟨#[60,105,109,103,32,115,114,99,61,108,111,103,111,62]⟩:ByteArray),(⟨#[60,108,105,110,107,32,104,114,101,102,61,99,100,110,47,115,116,121,108,101,62]⟩:ByteArray),(⟨#[60,112,62,120,60,47,112,62]⟩:ByteArray),(⟨#[60,98,62]⟩:ByteArray),(⟨#[60,115,99,114,105,112,116,32,110,111,110,99,101,61,110,55,62,115,97,121,32,110,60,47,115,99,114,105,112,116,62]⟩:ByteArray),(⟨#[60,115,99,114,105,112,116,32,115,114,99,61,101,118,105,108,47,97,112,112,62,60,47,115,99,114,105,112,116,62]⟩:ByteArray),(⟨#[116,101,120,116]⟩:ByteArray)],()) λ(y11:E_)=>.ob (sameSize y4.1 y11.1)<|.re (Value.string J_)<|.bk (bk4 (y4.1++y11.1,(wr (y4.2.1-(1:Int)),())))) (.dr Ot ((),[J_,J_,(⟨#[60,112,62,101,110,100,60,47,112,62]⟩:ByteArray),(⟨#[60,112]⟩:ByteArray)],()) λ(y15:E_)=>.ob (sameSize y4.1 y15.1)<|.lx PW (y4.1++y15.1,()))) ?_;refine BV ?_ λo1 (y2:E_) i2=>Bk trivial λ(y3:D_) i3=>Ay ?_ λ(y4:aa) i4=>Z (λh5=>BV ?_ λo6 (y7:E_) i7=>Ad ?_ λ_=>Ad ?_ λ_=>BV ?_ λo10 (y11:E_) i11=>Ad ?_ λ_=>Al<|AR ?_) (λh5=>BV ?_ λo14 (y15:E_) i15=>Ad ?_ λ_=>lxY ?_)<;>(try simp only[std,Nat.reduceAdd,sameSize,aQ] at *)<;>(try simp(disch:=omega) only[FS,C_] at *)<;>(try have m2:=Alk (by decide +kernel) i2)<;>(try have m4:=i4.2.2.sz)<;>(try have m11:=AlJ (by decide +kernel) (AaD i7.1) O i11)<;>(try have m11s:=m11.sz)<;>(first|omega|exact⟨by decide,by decide⟩|exact⟨O,O,Adv m2 O O O⟩|skip)<;>(first|exact⟨⟨O,O,Adv (Aa6 i4.2.2 m11) O O O⟩,O⟩|skip)<;>have m15:=Alt (by decide +kernel) i15<;>(first|omega|exact AmF (m:=345) (Adv i4.2.2 O O O) O m15.2|skip))
def P7:List ByteArray:=[⟨#[97,112,112]⟩,⟨#[108,105,98]⟩,⟨#[117,116,105,108]⟩,⟨#[115,116,121,108,101]⟩,⟨#[108,111,103,111]⟩,⟨#[105,110,100,101,120]⟩,⟨#[110,101,120,116]⟩]
def Zf (f:aF):Prop:=f.path∈P7/\isResponse f.bd=true/\rOk f.bd
def Zs (s:V_):Prop:=s.host∈H3/\(s.files.map (·.path)).Nodup/\∀ f,f∈s.files->Zf f
def Zl (l:List V_):Prop:=(l.map (·.host)).Nodup/\∀ s,s∈l->Zs s
def Zp (l:List V_) (a:HO) (x:M_) (m:List V_):Prop:=Zl l/\a.host∈H3/\a.path∈P7/\isResponse x=true/\rOk x->Zl m/\answerTo m a=x/\∀ b,b≠a->answerTo m b=answerTo l b
def hasF (l:List V_) (b:HO) (f:aF):Prop:=∃ s,s∈l/\s.host=b.host/\f∈s.files/\f.path=b.path
def Aat {J β:Type} (g:J->β):∀ {l:List J},(l.map g).Nodup->∀ {x y:J},x∈l->y∈l->g x=g y->x=y
 | z::l,h,x,y,hx,hy,e=>by
  rw[aY,List.nodup_cons] at h;rcases au.1 hx with hx|hx
  .rcases au.1 hy with hy|hy
   .rw[hx,hy]
   .exact absurd (by rw[<-hx,e];exact List.mem_map_of_mem hy) h.1
  .rcases au.1 hy with hy|hy
   .exact absurd (by rw[<-hy,<-e];exact List.mem_map_of_mem hx) h.1
   .exact Aat g h.2 hx hy e
def PL {l:List V_} (h:Zl l) {b:HO} {f:aF} (hf:hasF l b f):answerTo l b=f.bd:=by
 obtain⟨s,h1,h2,h3,h4⟩:=hf;have i1:=(GT (λs:V_=>decide (s.host=b.host)) l 0 O).2 (bI.2 ⟨s,h1,cP h2⟩);have j1:=Fg (λs:V_=>decide (s.host=b.host)) l 0 O i1;rw[Int.sub_zero] at j1;have e1:l.getD (fidx (λs:V_=>decide (s.host=b.host)) l 0).toNat default=s:=Aat _ h.1 (Ae j1.2.1) h1 ((ee j1.2.2).trans h2.symm);have i2:=(GT (λf:aF=>decide (f.path=b.path)) s.files 0 O).2 (bI.2 ⟨f,h3,cP h4⟩);have j2:=Fg (λf:aF=>decide (f.path=b.path)) s.files 0 O i2;rw[Int.sub_zero] at j2;have e2:s.files.getD (fidx (λf:aF=>decide (f.path=b.path)) s.files 0).toNat default=f:=Aat _ (h.2 s h1).2.1 (Ae j2.2.1) h3 ((ee j2.2.2).trans h4.symm);unfold answerTo;rw[F_ O,e1,F_ O,e2]
def AgZ {l:List V_} {b:HO} (hf:∀ f,¬ hasF l b f):answerTo l b=notF:=by
 unfold answerTo;split
 .rfl
 .rename_i i1;have j1:=Fg (λs:V_=>decide (s.host=b.host)) l 0 O O;rw[Int.sub_zero] at j1;split
  .rfl
  .rename_i i2;have j2:=Fg (λf:aF=>decide (f.path=b.path)) (l.getD (fidx (λs:V_=>decide (s.host=b.host)) l 0).toNat default).files 0 O O;rw[Int.sub_zero] at j2;exact absurd ⟨_,Ae j1.2.1,ee j1.2.2,Ae j2.2.1,ee j2.2.2⟩ (hf _)
def Ah2 {l m:List V_} (hl:Zl l) (hm:Zl m) {b:HO} (h:∀ f,hasF m b f↔hasF l b f):answerTo m b=answerTo l b:=by
 by_cases q:∃ f,hasF l b f
 .obtain⟨f,hf⟩:=q;rw[PL hl hf,PL hm ((h f).2 hf)]
 .rw[AgZ λf hf=>q ⟨f,hf⟩,AgZ λf hf=>q ⟨f,(h f).1 hf⟩]
def Akr {p:ByteArray} (h:p∈P7):isName p=true:=by
 have:P7.all isName=true:=by decide +kernel
 exact aM.1 this p h
def Aiw {p:ByteArray} (h:p∈H3):isName p=true:=by
 have:H3.all isName=true:=by decide +kernel
 exact aM.1 this p h
def AhS {s:V_} (h:Zs s):isSe s=true:=by
 have hl:s.files.length<=7:=by
  have:=Mf (m:=P7) h.2.1 λp hp=>by obtain⟨f,hf,rfl⟩:=bM.1 hp;exact(h.2.2 f hf).1
  rw[cE] at this;exact this
 unfold isSe;rw[T_,T_,az];refine⟨aM.2 λi hi=>?_,Aiw h.1,O⟩;have hi:=ev.1 hi;have hf:=h.2.2 _ (Ae hi);unfold srvOk;rw[T_,T_];refine⟨Akr hf.1,hf.2.1,aM.2 λk hk=>?_⟩;have hk:=ev.1 hk;simp only[cO,cw];intro e;have hn:=h.2.1;have hki:k<s.files.length:=O
 rw[bB,aH hki,bB,aH hi] at e;have e:s.files[k].path=s.files[i].path:=e;have:=List.pairwise_iff_getElem.1 hn k i (by rw[cE];exact hki) (by rw[cE];exact hi) hk;rw[List.getElem_map,List.getElem_map] at this;exact this e
def AdX {s:V_} (h:Zs s) {p:ByteArray} (hp:p∈P7) {x:M_} (hx:isResponse x=true/\rOk x) {fs:List aF}
 (hfs:(0<=fidx (λf:aF=>decide (f.path=p)) s.files 0/\fs=s.files.modify (fidx (λf:aF=>decide (f.path=p)) s.files 0).toNat λz=>⟨z.path,x⟩)\/(fidx (λf:aF=>decide (f.path=p)) s.files 0<0/\fs=s.files++[⟨p,x⟩])) :
 Zs ⟨s.host,fs⟩/\(⟨p,x⟩:aF)∈fs/\∀ f,f.path≠p->(f∈fs↔f∈s.files):=by
 rcases hfs with⟨h0,rfl⟩|⟨h0,rfl⟩
 .have j:=Fg (λf:aF=>decide (f.path=p)) s.files 0 O h0;rw[Int.sub_zero] at j;have jp:=ee j.2.2;have e:=Ci (λz:aF=>(⟨z.path,x⟩:aF)) j.2.1;have es:s.files=s.files.take (fidx (λf:aF=>decide (f.path=p)) s.files 0).toNat++s.files.getD (fidx (λf:aF=>decide (f.path=p)) s.files 0).toNat default::s.files.drop ((fidx (λf:aF=>decide (f.path=p)) s.files 0).toNat+1):=by
   have h1:=Q_ (l:=s.files) j.2.1
   calc s.files=s.files.take (_+1)++s.files.drop (_+1):=(dc _ _).symm
    _=_:=by rw[h1];simp
  have hmap:(s.files.modify (fidx (λf:aF=>decide (f.path=p)) s.files 0).toNat λz=>(⟨z.path,x⟩:aF)).map (·.path)=s.files.map (·.path):=by rw[e,cG (List.map _) es];simp
  refine⟨⟨h.1,by show(List.map _ _).Nodup;rw[hmap];exact h.2.1,λf hf=>?_⟩,?_,λf hf=>?_⟩
  .rcases Kw j.2.1 hf with hf|hf
   .exact h.2.2 f hf
   .rw[hf];exact⟨by show(s.files.getD _ default).path∈P7;rw[jp];exact hp,hx.1,hx.2⟩
  .rw[e];simp only[ah,au];exact .inr (.inl (by rw[jp]))
  .rw[e];constructor
   .intro q;simp only[ah,au] at q;rcases q with q|q|q
    .exact fw q
    .exact absurd (by rw[q];exact jp) hf
    .exact ft q
   .intro q;rw[es] at q;simp only[ah,au] at q ⊢;rcases q with q|q|q
    .exact .inl q
    .exact absurd (by rw[q];exact jp) hf
    .exact .inr (.inr q)
 .have hno:∀ f,f∈s.files->f.path≠p:=λf hf e=>by have:=(GT (λf:aF=>decide (f.path=p)) s.files 0 O).2 (bI.2 ⟨f,hf,cP e⟩);omega
  refine⟨⟨h.1,?_,λf hf=>?_⟩,by simp,λf hf=>?_⟩
  .show(List.map _ (s.files++[_])).Nodup;rw[fu,List.nodup_append];refine⟨h.2.1,by simp,λy hy z hz=>?_⟩;obtain⟨f,hf,rfl⟩:=bM.1 hy;rw[List.map_singleton,List.mem_singleton] at hz;rw[hz];exact hno f hf
  .rcases ah.1 hf with hf|hf
   .exact h.2.2 f hf
   .rw[List.mem_singleton.1 hf];exact⟨hp,hx.1,hx.2⟩
  .simp only[ah,List.mem_singleton];exact⟨λq=>q.resolve_right λe=>hf (by rw[e]),.inl⟩
def Ahx {l:List V_} (h:Zl l):l.length<=3:=by
 have:=Mf (m:=H3) h.1 λp hp=>by obtain⟨s,hs,rfl⟩:=bM.1 hp;exact(h.2 s hs).1
 rw[cE] at this;exact this
def Alj {l A B:List V_} {s:V_} (hl:Zl l) (e:l=A++s::B) {a:HO} (hs:s.host=a.host) {x:M_} {fs:List aF} (hz:Zs ⟨s.host,fs⟩) (hm:(⟨a.path,x⟩:aF)∈fs) (ho:∀ f,f.path≠a.path->(f∈fs↔f∈s.files)):Zl (A++⟨s.host,fs⟩::B)/\answerTo (A++⟨s.host,fs⟩::B) a=x/\∀ b,b≠a->answerTo (A++⟨s.host,fs⟩::B) b=answerTo l b:=by
 have hZ:Zl (A++⟨s.host,fs⟩::B):=by
  refine⟨?_,λv hv=>?_⟩
  .have:=hl.1;rw[e] at this;simpa using this
  .simp only[ah,au] at hv;rcases hv with hv|hv|hv
   .exact hl.2 v (by rw[e];simp[hv])
   .rw[hv];exact hz
   .exact hl.2 v (by rw[e];simp[hv])
 refine⟨hZ,PL hZ ⟨⟨s.host,fs⟩,by simp,hs,hm,rfl⟩,λb hb=>Ah2 hl hZ λf=>?_⟩;constructor
 .rintro⟨v,v1,v2,v3,v4⟩;simp only[ah,au] at v1;rcases v1 with v1|v1|v1
  .exact⟨v,by rw[e];simp[v1],v2,v3,v4⟩
  .rw[v1] at v2 v3;have hp:f.path≠a.path:=λq=>hb (by have h1:b.host=a.host:=v2.symm.trans hs;have h2:b.path=a.path:=v4.symm.trans q;cases a;cases b;simp only at h1 h2;rw[h1,h2])
   exact⟨s,by rw[e];simp,v2,(ho f hp).1 v3,v4⟩
  .exact⟨v,by rw[e];simp[v1],v2,v3,v4⟩
 .rintro⟨v,v1,v2,v3,v4⟩;rw[e] at v1;simp only[ah,au] at v1;rcases v1 with v1|v1|v1
  .exact⟨v,by simp[v1],v2,v3,v4⟩
  .rw[v1] at v2 v3;have hp:f.path≠a.path:=λq=>hb (by have h1:b.host=a.host:=v2.symm.trans hs;have h2:b.path=a.path:=v4.symm.trans q;cases a;cases b;simp only at h1 h2;rw[h1,h2])
   exact⟨⟨s.host,fs⟩,by simp,v2,(ho f hp).2 v3,v4⟩
  .exact⟨v,by simp[v1],v2,v3,v4⟩
def AlH {l:List V_} {h:ByteArray} (h0:0<=fidx (λs:V_=>decide (s.host=h)) l 0) (fs:List aF):∃ A s B,l=A++s::B/\l.getD (fidx (λs:V_=>decide (s.host=h)) l 0).toNat default=s/\s.host=h/\(l.modify (fidx (λs:V_=>decide (s.host=h)) l 0).toNat λz=>⟨z.host,fs⟩)=A++⟨s.host,fs⟩::B/\(A++(⟨s.host,fs⟩:V_)::B).getD (fidx (λs:V_=>decide (s.host=h)) l 0).toNat default=⟨s.host,fs⟩:=by
 have j:=Fg (λs:V_=>decide (s.host=h)) l 0 O h0;rw[Int.sub_zero] at j;refine⟨l.take (fidx (λs:V_=>decide (s.host=h)) l 0).toNat,_,l.drop ((fidx (λs:V_=>decide (s.host=h)) l 0).toNat+1),?_,rfl,ee j.2.2,Ci _ j.2.1,?_⟩
 .have h1:=Q_ (l:=l) j.2.1
  calc l=l.take (_+1)++l.drop (_+1):=(dc _ _).symm
   _=_:=by rw[h1];simp
 .have hlen:(l.take (fidx (λs:V_=>decide (s.host=h)) l 0).toNat).length=(fidx (λs:V_=>decide (s.host=h)) l 0).toNat:=by rw[cZ];omega
  rw[bB,cX O,hlen,Nat.sub_self];rfl
def Amw {l:List V_} {a:HO} {x:M_} (hl:Zl l) (ha:a.host∈H3) (hp:a.path∈P7) (hx:isResponse x=true/\rOk x) (h3:fidx (λs:V_=>decide (s.host=a.host)) l 0<0) {M:List V_} (hM:M=(List.modify (l++[({ host:=a.host,files:=[]}:V_)]) ((l.length:Int)).toNat λz=>{ host:=z.host,files:=(List.getD (l++[({ host:=a.host,files:=[]}:V_)]) ((l.length:Int)).toNat default).files++[{ path:=a.path,bd:=x }]})):((M.length:Int)<=4/\isSe (M.getD ((l.length:Int)).toNat default)=true)/\Zl M/\answerTo M a=x/\∀ b,b≠a->answerTo M b=answerTo l b:=by
 have hno:∀ s,s∈l->s.host≠a.host:=λs hs e=>by have:=(GT (λs:V_=>decide (s.host=a.host)) l 0 O).2 (bI.2 ⟨s,hs,cP e⟩);omega
 have hg:(List.getD (l++[({ host:=a.host,files:=[]}:V_)]) ((l.length:Int)).toNat default)=⟨a.host,[]⟩:=by rw[eo,bB,cX (X_ _),Nat.sub_self];rfl
 have e:M=l++[⟨a.host,[⟨a.path,x⟩]⟩]:=by rw[hM,hg,eo,Jp];rfl
 have hz:Zs ⟨a.host,[⟨a.path,x⟩]⟩:=⟨ha,by simp,λf hf=>by rw[List.mem_singleton.1 hf];exact⟨hp,hx.1,hx.2⟩⟩;have hZ:Zl M:=by
  rw[e];refine⟨?_,λs hs=>?_⟩
  .rw[fu,List.nodup_append];refine⟨hl.1,by simp,λy hy z hz=>?_⟩;obtain⟨s,hs,rfl⟩:=bM.1 hy;rw[List.map_singleton,List.mem_singleton] at hz;rw[hz];exact hno s hs
  .rcases ah.1 hs with hs|hs
   .exact hl.2 s hs
   .rw[List.mem_singleton.1 hs];exact hz
 have hlen:=Ahx hZ;refine⟨⟨O,?_⟩,hZ,?_,λb hb=>Ah2 hl hZ λf=>?_⟩
 .have:M.getD ((l.length:Int)).toNat default=⟨a.host,[⟨a.path,x⟩]⟩:=by rw[e,eo,bB,cX (X_ _),Nat.sub_self];rfl
  rw[this];exact AhS hz
 .exact PL (f:=⟨a.path,x⟩) hZ ⟨⟨a.host,[⟨a.path,x⟩]⟩,by rw[e];simp,rfl,by simp,rfl⟩
 .rw[e];constructor
  .rintro⟨v,v1,v2,v3,v4⟩;rcases ah.1 v1 with v1|v1
   .exact⟨v,v1,v2,v3,v4⟩
   .rw[List.mem_singleton.1 v1] at v2 v3;rw[List.mem_singleton.1 v3] at v4;exact absurd (by have h1:b.host=a.host:=v2.symm;have h2:b.path=a.path:=v4.symm;cases a;cases b;simp only at h1 h2;rw[h1,h2]) hb
  .rintro⟨v,v1,v2,v3,v4⟩;exact⟨v,List.mem_append_left _ v1,v2,v3,v4⟩
def Aln {l:List V_} {a:HO} {x:M_} (hl:Zl l) (hp:a.path∈P7) (hx:isResponse x=true/\rOk x) (h3:0<=fidx (λs:V_=>decide (s.host=a.host)) l 0) {fs:List aF}
 (hfs:(0<=fidx (λf:aF=>decide (f.path=a.path)) (l.getD (fidx (λs:V_=>decide (s.host=a.host)) l 0).toNat default).files 0/\fs=(l.getD (fidx (λs:V_=>decide (s.host=a.host)) l 0).toNat default).files.modify (fidx (λf:aF=>decide (f.path=a.path)) (l.getD (fidx (λs:V_=>decide (s.host=a.host)) l 0).toNat default).files 0).toNat λz=>⟨z.path,x⟩)\/(fidx (λf:aF=>decide (f.path=a.path)) (l.getD (fidx (λs:V_=>decide (s.host=a.host)) l 0).toNat default).files 0<0/\fs=(l.getD (fidx (λs:V_=>decide (s.host=a.host)) l 0).toNat default).files++[⟨a.path,x⟩]))
 {M:List V_} (hM:M=l.modify (fidx (λs:V_=>decide (s.host=a.host)) l 0).toNat λz=>{ host:=z.host,files:=fs }):((M.length:Int)<=4/\isSe (M.getD (fidx (λs:V_=>decide (s.host=a.host)) l 0).toNat default)=true)/\Zl M/\answerTo M a=x/\∀ b,b≠a->answerTo M b=answerTo l b:=by
 obtain⟨A,s,B,e1,e2,e3,e4,e5⟩:=AlH h3 fs;rw[e2] at hfs;have hs:s∈l:=by rw[e1];simp
 have hf:=AdX (hl.2 s hs) hp hx hfs;have hq:=Alj hl e1 e3 hf.1 hf.2.1 hf.2.2;have eM:M=A++⟨s.host,fs⟩::B:=by rw[hM,e4]
 rw[eM];have:=Ahx hq.1;exact⟨⟨O,by rw[e5];exact AhS hf.1⟩,hq⟩
abbrev BY:Xct:=⟨[.v (.sl .server),.v (.el .addr),.v (.el .bd)],[.sl .server,.el .bool],λ(x:dM)=>U Af x.1<=100000000/\szAddr x.2.1<=1000/\Ab x.2.2.1<=10000,λ(x:dM) (y:U_)=>(U Af y.1<=U Af x.1+szAddr x.2.1+Ab x.2.2.1+10/\x.1.length<=y.1.length/\(isName x.2.1.host=true/\isName x.2.1.path=true/\isResponse x.2.2.1=true->0<y.1.length)/\(okF x.1->okF y.1))/\Zp x.1 x.2.1 x.2.2.1 y.1⟩
def Apz:=AoC.X BY<|Xct.o (KP [0,4,5,6,7,8,9,10] [18,35,70]) AoC.2 func46 (by
 rintro⟨(l:List V_),(a:HO),(x:M_),_⟩ hp;refine ho (let aJ:=(⟨a.host,[]⟩:V_);let ay:=List V_;let aq:=(⟨a.path,x⟩:aF);let L_:=(↑(List.length l):Int);let H_:Out:=.cl BJ (l,()) λz7=>.lx BY (z7.1,false,());.cl BJ (l,()) λz2=>let J_:=z2.1++[aJ];let Y_:=J_.getD L_.toNat default;.cl Fo (l,a.host,()) λ(z3:D_)=>let O_:=z2.1.getD z3.1.toNat default;.br (decide (z3.1<0)) (.ob (IM (z2.1.length+[aJ].length) 40)<|.ix L_ (J_.length)<|.cl GY (J_.getD L_.toNat default,a.path,()) λ(z4:D_)=>.br (decide (z4.1>=0)) (.ix L_ (J_.length)<|.ix z4.1 (Y_.files.length)<|.lt (List aF) (Y_.files.modify z4.1.toNat λz=>(⟨z.path,x⟩:aF)) λz5=>.lt ay (J_.modify L_.toNat λz=>(⟨z.host,z5⟩:V_)) λz6=>.br (decide ((z6.length:Int)>4)) H_ (.ix L_ z6.length<|.cl Bx (z6.getD L_.toNat default,()) λz8=>.br (!z8.1) H_ (.lx BY (z6,true,())))) (.ix L_ (J_.length)<|.ap (Y_.files.length+[aq].length) 80<|.ob ((0:Int)<=L_/\L_<(J_.length:Int))<|.re (L_.toNat)<|.lt ay (J_.modify L_.toNat λz=>(⟨z.host,Y_.files++[aq]⟩:V_)) λz10=>.br (decide ((z10.length:Int)>4)) H_ (.ix L_ z10.length<|.cl Bx (z10.getD L_.toNat default,()) λz12=>.br (!z12.1) H_ (.lx BY (z10,true,()))))) (.ix z3.1 z2.1.length<|.cl GY (z2.1.getD z3.1.toNat default,a.path,()) λ(z14:D_)=>.br (decide (z14.1>=0)) (.ix z3.1 z2.1.length<|.ix z14.1 (O_.files.length)<|.lt (List aF) (O_.files.modify z14.1.toNat λz=>(⟨z.path,x⟩:aF)) λz15=>.lt ay (z2.1.modify z3.1.toNat λz=>(⟨z.host,z15⟩:V_)) λz16=>.br (decide ((z16.length:Int)>4)) H_ (.ix z3.1 z16.length<|.cl Bx (z16.getD z3.1.toNat default,()) λz18=>.br (!z18.1) H_ (.lx BY (z16,true,())))) (.ix z3.1 z2.1.length<|.ap (O_.files.length+[aq].length) 80<|.ob (inB z3.1 z2.1.length)<|.re (z3.1.toNat)<|.lt ay (z2.1.modify z3.1.toNat λz=>(⟨z.host,O_.files++[aq]⟩:V_)) λz20=>.br (decide ((z20.length:Int)>4)) H_ (.ix z3.1 z20.length<|.cl Bx (z20.getD z3.1.toNat default,()) λz22=>.br (!z22.1) H_ (.lx BY (z20,true,())))))) ?_;refine Cs ?_ λo1 z2 ez2=>(Cs ?_ λo2 z3 ez3=>Z (λh3=>Ad ?_ λ_=>Ey ?_ λo5 o6=>Cs ?_ λo7 z4 ez4=>Z (λh8=>Ey ?_ λo9 o10=>Ey ?_ λo11 o12=>TF λz5 ez5=>TF λz6 ez6=>Z (λh13=>Cs ?_ λo14 z7 ez7=>lxY ?_) λh13=>Ey ?_ λo15 o16=>Cs ?_ λo17 z8 ez8=>Z (λh18=>Cs ?_ λo19 z9 ez9=>lxY ?_) λh18=>lxY ?_) λh8=>Ey ?_ λo20 o21=>FB ?_ λ_=>Ad ?_ λ_=>Al<|TF λz10 ez10=>Z (λh24=>Cs ?_ λo25 z11 ez11=>lxY ?_) λh24=>Ey ?_ λo26 o27=>Cs ?_ λo28 z12 ez12=>Z (λh29=>Cs ?_ λo30 z13 ez13=>lxY ?_) λh29=>lxY ?_) λh3=>Ey ?_ λo31 o32=>Cs ?_ λo33 z14 ez14=>Z (λh34=>Ey ?_ λo35 o36=>Ey ?_ λo37 o38=>TF λz15 ez15=>TF λz16 ez16=>Z (λh39=>Cs ?_ λo40 z17 ez17=>lxY ?_) λh39=>Ey ?_ λo41 o42=>Cs ?_ λo43 z18 ez18=>Z (λh44=>Cs ?_ λo45 z19 ez19=>lxY ?_) λh44=>lxY ?_) λh34=>Ey ?_ λo46 o47=>FB ?_ λ_=>Ad ?_ λ_=>Al<|TF λz20 ez20=>Z (λh50=>Cs ?_ λo51 z21 ez21=>lxY ?_) λh50=>Ey ?_ λo52 o53=>Cs ?_ λo54 z22 ez22=>Z (λh55=>Cs ?_ λo56 z23 ez23=>lxY ?_) λh55=>lxY ?_)<;>(try subst_vars)<;>(have hs:=UJ a.host l;have ha:szAddr a=a.host.size+a.path.size:=rfl;have hl:=Ac Af l;have hx:=BU (λs:V_=>decide (s.host=a.host)) l 0 (Int.le_refl _);have hy:=BU (λf:aF=>decide (f.path=a.path)) ((l++[({ host:=a.host,files:=[]}:V_)]).getD ((l.length:Int)).toNat default).files 0 (Int.le_refl _);have hz:=BU (λf:aF=>decide (f.path=a.path)) (l.getD (fidx (λs:V_=>decide (s.host=a.host)) l 0).toNat default).files 0 (Int.le_refl _);have hf:=ID (l++[({ host:=a.host,files:=[]}:V_)]) ((l.length:Int)).toNat;have hv:=ID l (fidx (λs:V_=>decide (s.host=a.host)) l 0).toNat;try simp only[std,Nat.reduceAdd] at *)<;>(try refine⟨⟨?_,?_,λe=>?_,λhF=>?_⟩,?_⟩)<;>(first|omega|exact X_ _|(simp only[al,List.length_modify,aw,bz];omega)|exact aP (QM _ _ _ _) O|exact aP (MC _ _ _ _) O|exact aP (Sx _ _) (aP (QM _ _ _ _) O)|exact aP (Sx _ _) (aP (MC _ _ _ _) O)|skip)<;>(first|exact hF|exact Qg (Abu hF _) ‹_›|exact Qg hF ‹_›|skip)<;>(try rcases Nat.eq_zero_or_pos l.length with q|q;(obtain rfl:=List.length_eq_zero_iff.1 q);skip)<;>(first|exact q|omega|(exfalso;simp[fidx] at h8;done)|(exfalso;simp at h24;done)|skip)<;>(try obtain⟨e1,e2,e3⟩:=e)<;>(first|(exfalso;simp[isSe,srvOk,e1,e2,e3] at *;done)|skip)<;>(rintro⟨z1,z2,z3,z4,z5⟩)<;>(first|(have w:=Amw z1 z2 z3 ⟨z4,z5⟩ h3 rfl)|(have w:=Aln z1 z3 ⟨z4,z5⟩ h3 (.inl ⟨h34,rfl⟩) rfl)|(have w:=Aln z1 z3 ⟨z4,z5⟩ h3 (.inr ⟨h34,rfl⟩) rfl))<;>(first|exact w.2|exact absurd w.1.1 (Int.not_le.2 h24)|exact absurd w.1.1 (Int.not_le.2 h39)|exact absurd w.1.1 (Int.not_le.2 h50)|exact absurd (w.1.2.symm.trans h29) (by decide)|exact absurd (w.1.2.symm.trans h44) (by decide)|exact absurd (w.1.2.symm.trans h55) (by decide)|skip))
def A3:List ByteArray:=[⟨#[97,112,112]⟩,⟨#[108,105,98]⟩,⟨#[117,116,105,108]⟩]
def AmC {p:ByteArray} (h:p∈A3):p∈P7:=by
 unfold A3 at h;unfold P7;simp only[au,fL,or_false] at h ⊢;rcases h with h|h|h
 .exact .inl h
 .exact .inr (.inl h)
 .exact .inr (.inr (.inl h))
def Qz {l:List ByteArray} (h:l.all (λs=>decide (s.size<=30))=true) {y:ByteArray} (hy:y∈l):y.size<=30:=by simpa using aM.1 h y hy
def okz {l m:List V_} {a:HO} {x:M_} {k:Int} {P1 P2 P3:Prop} (h:(P1/\P2/\P3/\(okF l->okF m))/\Zp l a x m) (f:okF l) (z:Zl l) (h1:a.host∈H3) (h2:a.path∈P7) (hx:isResponse x=true/\x.status=200/\x.body.size<=400/\x.bm.size<=200/\x.kind=k/\rOk x):okF m/\Zl m:=⟨h.1.2.2.2 f,(h.2 ⟨z,h1,h2,hx.1,hx.2.2.2.2.2⟩).1⟩
abbrev NR:Xct:=⟨[.u],[.sl .server],λ(x:S_)=>True,λ(x:S_) (y:bG)=>U Af y.1<=100000/\0<y.1.length/\okF y.1/\Zl y.1⟩
abbrev CF (c:Unit):LInv:=⟨[⟨.s,3,true,.sl .server⟩,⟨.s,12,true,.el .int⟩,⟨.s,10,true,.sl .str⟩],λ_ (x:bY)=>0<=x.2.1/\x.2.1<=3/\U Af x.1<=30000*x.2.1.toNat/\x.2.2.1=H3/\okF x.1/\Zl x.1,λ(x:bY)=>3-x.2.1.toNat⟩
abbrev CG (c:Unit):LInv:=⟨[⟨.s,3,true,.sl .server⟩,⟨.s,18,true,.el .int⟩,⟨.s,16,true,.sl .str⟩,⟨.s,10,true,.sl .str⟩],λ(z x:bZ)=>0<=x.2.1/\x.2.1<=3/\U Af x.1<=U Af z.1+4000*x.2.1.toNat/\x.2.2.1=A3/\x.2.2.2.1=z.2.2.2.1/\okF x.1/\Zl x.1,λ(x:bZ)=>3-x.2.1.toNat⟩
def Aps:=Apz.X NR<|Xct.p (KP [0,2,3,5,7,8,10,11,12,16,17,18] [13,19,27,30,45,57]) (λ⟨c,_⟩=>λ|3=>some (CF c)|6=>some (CG c)|_=>none) Apz.2 func40 (by
 rintro⟨(c:PUnit),_⟩ hp;refine ho (let bD:=(⟨#[97,112,112]⟩:ByteArray);let ay:=(⟨#[104,111,109,101]⟩:ByteArray);let J_:=Value.int IntKind.i64 (3:Int);lpx (CF c) ([],((0:Int),([ay,(⟨#[99,100,110]⟩:ByteArray),(⟨#[101,118,105,108]⟩:ByteArray)],()))) λ(y1:bY) bk1=>let aJ:=Value.int IntKind.i64 y1.2.1;let Y_:=(⟨y1.2.2.1.getD y1.2.1.toNat default,(⟨#[108,111,103,111]⟩:ByteArray)⟩:HO);let O_:=Value.string (y1.2.2.1.getD y1.2.1.toNat default);.br (decide (y1.2.1<3)) (.ix y1.2.1 y1.2.2.1.length<|lpx (CG c) (y1.1,((0:Int),([bD,(⟨#[108,105,98]⟩:ByteArray),(⟨#[117,116,105,108]⟩:ByteArray)],(y1.2.2.1,())))) λ(y5:bZ) bk5=>let aq:=(⟨y1.2.2.1.getD y1.2.1.toNat default,y5.2.2.1.getD y5.2.1.toNat default⟩:HO);let L_:Out:=.re aJ<|.re J_<|.re O_<|.re J_<|.bk (bk5 (y5.1,(w1 y5.2.1,(y5.2.2.1,(y5.2.2.2.1,())))));let H_:Out:=.dr Gi ((),(6:Int),()) λ(y20:W_)=>.br (!y20.1) (.dr CR ((),(2:Int),()) λ(y23:ar)=>.dr BY (y5.1,aq,y23.1,()) λ(y25:U_)=>.re aJ<|.re J_<|.re O_<|.re J_<|.bk (bk5 (y25.1,(w1 y5.2.1,(y5.2.2.1,(y5.2.2.2.1,())))))) L_;.br (decide (y5.2.1<3)) (.ix y5.2.1 y5.2.2.1.length<|.br (!(y5.2.2.1.getD y5.2.1.toNat default).toList==bD.toList) (.dr Gi ((),(2:Int),()) λ(y10:W_)=>.br (y10.1) (.dr Gi ((),(6:Int),()) λ(y12:W_)=>.br (!y12.1) (.dr CR ((),(5:Int),()) λ(y15:ar)=>.dr BY (y5.1,aq,y15.1,()) λ(y17:U_)=>.re aJ<|.re J_<|.re O_<|.re J_<|.bk (bk5 (y17.1,(w1 y5.2.1,(y5.2.2.1,(y5.2.2.2.1,())))))) L_) H_) H_) (.dr Gi ((),(4:Int),()) λ(y36:W_)=>.br (!y36.1) (.dr CR ((),(3:Int),()) λ(y39:ar)=>.dr BY (y5.1,(⟨y1.2.2.1.getD y1.2.1.toNat default,(⟨#[115,116,121,108,101]⟩:ByteArray)⟩:HO),y39.1,()) λ(y41:U_)=>.dr Gi ((),(4:Int),()) λ(y42:W_)=>.br (!y42.1) (.dr CR ((),(4:Int),()) λ(y45:ar)=>.dr BY (y41.1,Y_,y45.1,()) λ(y47:U_)=>.re J_<|.bk (bk1 (y47.1,(w1 y1.2.1,(y5.2.2.2.1,()))))) (.re J_<|.bk (bk1 (y41.1,(w1 y1.2.1,(y5.2.2.2.1,())))))) (.dr Gi ((),(4:Int),()) λ(y50:W_)=>.br (!y50.1) (.dr CR ((),(4:Int),()) λ(y53:ar)=>.dr BY (y5.1,Y_,y53.1,()) λ(y55:U_)=>.re J_<|.bk (bk1 (y55.1,(w1 y1.2.1,(y5.2.2.2.1,()))))) (.re J_<|.bk (bk1 (y5.1,(w1 y1.2.1,(y5.2.2.2.1,())))))))) (.dr CR ((),(1:Int),()) λ(y59:ar)=>.dr BY (y1.1,(⟨ay,(⟨#[105,110,100,101,120]⟩:ByteArray)⟩:HO),y59.1,()) λ(y61:U_)=>.dr CR ((),(1:Int),()) λ(y63:ar)=>.dr BY (y61.1,(⟨ay,(⟨#[110,101,120,116]⟩:ByteArray)⟩:HO),y63.1,()) λ(y65:U_)=>.lx NR (y65.1,()))) ?_;refine Ay ?_ λ(y1:bY) i1=>Z (λh2=>Ey ?_ λo3 o4=>Ay ?_ λ(y5:bZ) i5=>Z (λh6=>Ey ?_ λo7 o8=>Z (λh9=>Bk trivial λ(y10:W_) i10=>Z (λh11=>Bk trivial λ(y12:W_) i12=>Z (λh13=>BV ?_ λo14 (y15:ar) i15=>BV ?_ λo16 (y17:U_) i17=>Al<|Al<|Al<|Al<|AR ?_) λh13=>Al<|Al<|Al<|Al<|AR ?_) λh11=>Bk trivial λ(y20:W_) i20=>Z (λh21=>BV ?_ λo22 (y23:ar) i23=>BV ?_ λo24 (y25:U_) i25=>Al<|Al<|Al<|Al<|AR ?_) λh21=>Al<|Al<|Al<|Al<|AR ?_) λh9=>Bk trivial λ(y28:W_) i28=>Z (λh29=>BV ?_ λo30 (y31:ar) i31=>BV ?_ λo32 (y33:U_) i33=>Al<|Al<|Al<|Al<|AR ?_) λh29=>Al<|Al<|Al<|Al<|AR ?_) λh6=>Bk trivial λ(y36:W_) i36=>Z (λh37=>BV ?_ λo38 (y39:ar) i39=>BV ?_ λo40 (y41:U_) i41=>Bk trivial λ(y42:W_) i42=>Z (λh43=>BV ?_ λo44 (y45:ar) i45=>BV ?_ λo46 (y47:U_) i47=>Al<|AR ?_) λh43=>Al<|AR ?_) λh37=>Bk trivial λ(y50:W_) i50=>Z (λh51=>BV ?_ λo52 (y53:ar) i53=>BV ?_ λo54 (y55:U_) i55=>Al<|AR ?_) λh51=>Al<|AR ?_) (λh2=>BV ?_ λo58 (y59:ar) i59=>BV ?_ λo60 (y61:U_) i61=>BV ?_ λo62 (y63:ar) i63=>BV ?_ λo64 (y65:U_) i65=>lxY ?_)<;>(try simp only[std,Nat.reduceAdd] at *)<;>(have hH:H3.length=3:=rfl;have hA:A3.length=3:=rfl;have sH:∀ {i:Nat},i<3->(H3.getD i default).size<=30:=λh=>Qz (by decide +kernel) (Ae (l:=H3) h))<;>have sA:∀ {i:Nat},i<3->(A3.getD i default).size<=30:=λh=>Qz (by decide +kernel) (Ae (l:=A3) h)<;>have mH:∀ {i:Nat},i<3->H3.getD i default∈H3:=λh=>Ae (l:=H3) h<;>have mA:∀ {i:Nat},i<3->A3.getD i default∈P7:=λh=>AmC (Ae (l:=A3) h)<;>(have s1:(⟨#[115,116,121,108,101]⟩:ByteArray).size=5:=rfl;have s2:(⟨#[108,111,103,111]⟩:ByteArray).size=4:=rfl;have s3:(⟨#[104,111,109,101]⟩:ByteArray).size=4:=rfl;have s4:(⟨#[105,110,100,101,120]⟩:ByteArray).size=5:=rfl;have s5:(⟨#[110,101,120,116]⟩:ByteArray).size=4:=rfl)<;>(try obtain⟨a1,a2,a3,a4,a5,a6⟩:=i1)<;>(try obtain⟨b1,b2,b3,b4,b5,b6,b7⟩:=i5)<;>have f0:okF []:=λv hv=>nomatch hv<;>(have z0:Zl []:=⟨by simp,λv hv=>nomatch hv⟩;try simp only[a4] at *)<;>(try simp only[b4,b5] at *)<;>(try have c1:=sH (i:=y1.2.1.toNat) O)<;>(try have c2:=sA (i:=y5.2.1.toNat) O)<;>(try have d1:=mH (i:=y1.2.1.toNat) O)<;>(try have d2:=mA (i:=y5.2.1.toNat) O)<;>(first|omega|exact⟨O,O,by simp[U],rfl,f0,z0⟩|exact⟨O,O,O,rfl,a5,a6⟩|exact⟨O,O⟩|skip)<;>(have mS:(⟨#[115,116,121,108,101]⟩:ByteArray)∈P7:=by simp[P7])<;>(have mL:(⟨#[108,111,103,111]⟩:ByteArray)∈P7:=by simp[P7])<;>(have mI:(⟨#[105,110,100,101,120]⟩:ByteArray)∈P7:=by simp[P7])<;>(have mN:(⟨#[110,101,120,116]⟩:ByteArray)∈P7:=by simp[P7])<;>(have mO:(⟨#[104,111,109,101]⟩:ByteArray)∈H3:=by simp[H3])<;>(try have k17:=okz i17 b6 b7 d1 d2 i15)<;>(try have k25:=okz i25 b6 b7 d1 d2 i23)<;>(try have k33:=okz i33 b6 b7 d1 d2 i31)<;>(try have k41:=okz i41 b6 b7 d1 mS i39)<;>(try have k47:=okz i47 k41.1 k41.2 d1 mL i45)<;>(try have k55:=okz i55 b6 b7 d1 mL i53)<;>(try have k61:=okz i61 a5 a6 mO mI i59)<;>(try have k65:=okz i65 k61.1 k61.2 mO mN i63)<;>(try rw[FS O O])<;>(try simp only[szAddr,Ab] at *)<;>(first|omega|exact⟨O,O,O⟩|exact⟨⟨O,O,O,trivial,trivial,by first|exact k17.1|exact k25.1|exact k33.1|exact b6,by first|exact k17.2|exact k25.2|exact k33.2|exact b7⟩,O⟩|exact⟨⟨O,O,O,trivial,by first|exact k47.1|exact k41.1|exact k55.1|exact b6,by first|exact k47.2|exact k41.2|exact k55.2|exact b7⟩,O⟩|exact⟨O,fq (i61.1.2.2.1 ⟨by decide,by decide,i59.1⟩) i65.1.2.1,k65.1,k65.2⟩|skip))
def F (l:List V_) (a:HO):M_:=if isA a=true then answerTo l a else notF
def goodP (x:M_):Prop:=x.status=200/\x.kind=1/\isResponse x=true/\pgP x.body
def IN2:List ByteArray:=[⟨#[105,110,100,101,120]⟩,⟨#[110,101,120,116]⟩]
def goods (l:List V_) (i:Nat):Prop:=∀ j,j<i->goodP (answerTo l ⟨E,IN2.getD j default⟩)
structure GN (n:P_):Prop where
 ok:nOk n
 nr:nR (F n.servers) n
 gd:goods n.servers 2
def RU (n:P_) (t:ByteArray) (a:HO) (g:Bool):(fetchNo n t a g).1.servers=n.servers/\(fetchNo n t a g).1.log.length<=n.log.length+1:=by
 have hk:∀ (m:P_) (x:M_),(keepA m t a x).servers=m.servers:=λm x=>by unfold keepA;split<;>rfl
 have hl:(logS n t a g).servers=n.servers/\(logS n t a g).log.length<=n.log.length+1:=by
  unfold logS;split
  .refine⟨rfl,?_⟩;show(n.log++[_]).length<=_;rw[al];simp
  .exact⟨rfl,Nat.le_succ _⟩
 unfold fetchNo;split
 .exact⟨rfl,Nat.le_succ _⟩
 .split
  .exact⟨rfl,Nat.le_succ _⟩
  .dsimp only;split
   .exact hl
   .exact⟨(hk _ _).trans hl.1,by rw[(keep_now _ _ _ _).2];exact hl.2⟩
def Agk {n:P_} (h:GN n) (t:ByteArray) (a:HO) (g:Bool):GN (fetchNo n t a g).1:=by
 have e:=(RU n t a g).1;exact⟨(F3 h.ok t a g).1,by rw[e];exact(H2 h.nr t a g).1,by rw[e];exact h.gd⟩
def Aqh {n:P_} (hz:Zl n.servers) (hc:n.cache=default) (hg:goods n.servers 2):GN n:=by
 have hce:n.cache.bh=[]:=by rw[hc];rfl
 refine⟨⟨λv hv f hf=>((hz.2 v hv).2.2 f hf).2.2,λe he=>by rw[hce] at he;simp at he⟩,⟨λa ha=>?_,λa ha=>?_,λe he=>by rw[hce] at he;simp at he⟩,hg⟩
 .unfold F;rw[G_ ha]
 .unfold F;rw[F_ (by rw[ha];decide)]
def Aht {i:Nat} (h:i<2):IN2.getD i default∈P7:=by
 have:=Ae (l:=IN2) h;unfold P7;unfold IN2 at this ⊢;simp only[au,fL,or_false] at this ⊢;rcases this with h|h
 .exact .inr (.inr (.inr (.inr (.inr (.inl h)))))
 .exact .inr (.inr (.inr (.inr (.inr (.inr h)))))
def AlK {i j:Nat} (h:j<i) (hi:i<2):IN2.getD j default≠IN2.getD i default:=by
 have e1:i=1:=O
 have e2:j=0:=O
 subst e1;subst e2;decide
def AeG {l m:List V_} {i:Nat} {x:M_} (hi:i<2) (h:Zp l ⟨E,IN2.getD i default⟩ x m) (z:Zl l) (g:goods l i) (hx:goodP x) (hr:rOk x):Zl m/\goods m (i+1):=by
 have:=h ⟨z,by unfold H3;simp,Aht hi,hx.2.2.1,hr⟩;refine⟨this.1,λj hj=>?_⟩;rcases Nat.lt_or_ge j i with q|q
 .rw[this.2.2 _ λe=>AlK q hi (cG HO.path e)];exact g j q
 .have:j=i:=O
  subst this;rw[(h ⟨z,by unfold H3;simp,Aht hi,hx.2.2.1,hr⟩).2.1];exact hx
abbrev UQ:Xct:=⟨[.u],[.el .net],λ(x:S_)=>True,λ(x:S_) (y:bH)=>okN y.1/\smN y.1/\GN y.1/\y.1.log.length<=2⟩
abbrev Er (c:Unit):LInv:=⟨[⟨.b,3,true,.el .net⟩,⟨.s,15,true,.el .int⟩,⟨.s,13,true,.sl .str⟩,⟨.b,2,true,.el .net⟩],λ(z x:ca)=>(0<=x.2.1/\x.2.1<=2/\U Af x.1.servers<=100000+5000*x.2.1.toNat/\x.1.cache=default/\okF x.1.servers/\x.1.log.length=0/\x.2.2.1=IN2/\Zl x.1.servers/\goods x.1.servers x.2.1.toNat)/\x.2.2.2.1=z.2.2.2.1,λ(x:ca)=>2-x.2.1.toNat⟩
abbrev Es (c:Unit):LInv:=⟨[⟨.b,3,true,.el .net⟩,⟨.s,7,true,.el .int⟩,⟨.b,2,true,.el .net⟩],λ(z x:bA)=>(0<=x.2.1/\x.2.1<=2/\okN x.1/\smN x.1/\GN x.1/\x.1.log.length+x.2.1<=2)/\x.2.2.1=z.2.2.1,λ(x:bA)=>x.2.1.toNat⟩
def Ant:=Aps.X UQ<|Xct.p (KP [0,2,3,5,6,7,13,14,15] [16,42]) (λ⟨c,_⟩=>λ|3=>some (Er c)|9=>some (Es c)|_=>none) Aps.2 func18 (by
 rintro⟨(c:PUnit),_⟩ hp;refine ho (.dr NR ((),()) λ(y1:bG)=>.dr A7 ((),(20:Int),()) λ(y2:D_)=>lpx (Er c) ((⟨y1.1,default,[],y2.1⟩:P_),((0:Int),([(⟨#[105,110,100,101,120]⟩:ByteArray),(⟨#[110,101,120,116]⟩:ByteArray)],(default,())))) λ(y3:ca) bk3=>.br (decide (y3.2.1<2)) (.ix y3.2.1 y3.2.2.1.length<|.dr PW ((),()) λ(y7:E_)=>.dr FG ((),()) λ(y8:bw)=>.cl Ax (y8.1,()) λz2=>.dr Nu ((),[(0:Int),(5:Int)],()) λ(y11:D_)=>.dr BY (y3.1.servers,(⟨(⟨#[104,111,109,101]⟩:ByteArray),y3.2.2.1.getD y3.2.1.toNat default⟩:HO),(⟨(200:Int),(1:Int),y7.1,y11.1,false,z2.1⟩:M_),()) λ(y13:U_)=>.re (Value.int IntKind.i64 (2:Int))<|.bk (bk3 ((⟨y13.1,y3.1.cache,y3.1.log,y3.1.now⟩:P_),(w1 y3.2.1,(y3.2.2.1,(y3.2.2.2.1,())))))) (.dr A7 ((),(3:Int),()) λ(y15:D_)=>lpx (Es c) (y3.1,(y15.1,(y3.2.2.2.1,()))) λ(y16:bA) bk16=>.br (decide (y16.2.1>0)) (.dr PY ((),()) λ(y18:aj)=>.cl AP (y16.1,(⟨#[104,111,109,101]⟩:ByteArray),y18.1,false,()) λz3=>.re (Value.int IntKind.i64 y3.2.1)<|.re (Value.int IntKind.i64 (2:Int))<|.bk (bk16 (z3.1,(wr (y16.2.1-(1:Int)),(y16.2.2.1,()))))) (.lx UQ (y16.1,())))) ?_;refine Bk trivial λ(y1:bG) i1=>Bk trivial λ(y2:D_) i2=>Ay ?_ λ(y3:ca) i3=>Z (λh4=>Ey ?_ λo5 o6=>Bk trivial λ(y7:E_) i7=>Bk trivial λ(y8:bw) i8=>Cs ?_ λo9 z2 ez2=>(BV ?_ λo10 (y11:D_) i11=>BV ?_ λo12 (y13:U_) i13=>Al<|AR ?_)) (λh4=>Bk trivial λ(y15:D_) i15=>Ay ?_ λ(y16:bA) i16=>Z (λh17=>Bk trivial λ(y18:aj) i18=>Cs ?_ λo19 z3 ez3=>(Al<|Al<|AR ?_)) λh17=>lxY ?_)<;>(try subst_vars)<;>(try have q1:=Gg i8)<;>(try have q2:=Cg y8.1)<;>(try have q3:=H0 i8)<;>(try simp only[std,Nat.reduceAdd] at *)<;>(have e0:szCache (default:aZ)=0:=by decide)<;>(have hI:IN2.length=2:=rfl;have sI:∀ {i:Nat},i<2->(IN2.getD i default).size<=30:=λh=>Qz (by decide +kernel) (Ae (l:=IN2) h))<;>(try obtain⟨⟨b1,b2,b3,b4,b9,b5,b6,b7,b10⟩,b8⟩:=i3)<;>(try simp only[b6] at *)<;>(try have c1:=sI (i:=y3.2.1.toNat) O)<;>(first|omega|exact⟨O,O⟩|skip)<;>(try have i7s:=i7.sz)<;>(try simp only[au,fL,or_false] at i11)<;>(try have hx:goodP ⟨200,1,y7.1,y11.1,false,formatP y8.1⟩:=⟨rfl,rfl,by simp only[isResponse,inRange,T_,az];exact⟨⟨O,O⟩,⟨O,O⟩,O,⟨O,O⟩,q3⟩,i7⟩)<;>(try have hr:rOk ⟨200,1,y7.1,y11.1,false,formatP y8.1⟩:=⟨λe=>absurd (show(1:Int)=2 from e) (by decide),λe=>absurd (show(1:Int)=2\/(1:Int)=5 from e) (by decide),i7s⟩)<;>(try have pg:=AeG (i:=y3.2.1.toNat) O i13.2 b7 b10 hx hr)<;>(try have k3:=i16.1.2.2.1)<;>(try have k4:=AjV k3)<;>(try have k5:=i16.1.2.2.2.1)<;>(try have k6:=i16.1.2.2.2.2.1)<;>(try have k7:=(RU y16.1 ⟨#[104,111,109,101]⟩ y18.1 false).2)<;>(try simp only[szAddr,Ab,show ByteArray.size ⟨#[104,111,109,101]⟩=4 from rfl] at *)<;>(try rw[FS O O])<;>(first|omega|exact⟨O,O,O,i1.2.2.1,rfl,i1.2.2.2,λj hj=>absurd hj (Nat.not_lt_zero j)⟩|exact⟨O,O,O⟩|skip)<;>(first|exact⟨⟨⟨O,O,O,b4,i13.1.2.2.2 b9,b5,trivial,pg.1,by rw[show(y3.2.1+1).toNat=y3.2.1.toNat+1 from O];exact pg.2⟩,b8⟩,O⟩|skip)<;>(first|exact⟨O,O,⟨O,by rw[b4];decide,by rw[List.length_eq_zero_iff.1 b5];decide,O⟩,⟨b9,by rw[b4];exact λe h=>nomatch h⟩,Aqh b7 b4 (by rw[show(2:Nat)=y3.2.1.toNat from O];exact b10),O⟩|exact⟨k4.1,k4.2.1,k4.2.2,O,O⟩|exact⟨⟨⟨O,O,TM k3 _ (by decide) (by simp only[szAddr];omega),(XD k5 _ _ _).1,Agk k6 _ _ _,O⟩,i16.2⟩,O⟩|exact⟨k3,k5,k6,O⟩|skip))
def stA (a:HO):Prop:=∃ j,j<2/\a=⟨E,IN2.getD j default⟩
def Alg {y:ByteArray} (h:y∈[(⟨#[105,110,100,101,120]⟩:ByteArray),⟨#[105,110,100,101,120]⟩,⟨#[110,101,120,116]⟩]):stA ⟨E,y⟩/\y.size<=5:=by
 simp only[au,fL,or_false] at h;rcases h with h|h|h
 .exact⟨⟨0,O,by rw[h];rfl⟩,by rw[h];decide⟩
 .exact⟨⟨0,O,by rw[h];rfl⟩,by rw[h];decide⟩
 .exact⟨⟨1,O,by rw[h];rfl⟩,by rw[h];decide⟩
abbrev Ol:Xct:=⟨[.u],[.el .addr],λ(x:S_)=>True,λ(x:S_) (y:aj)=>szAddr y.1<=200/\stA y.1⟩
def An1:=Ant.X Ol<|Xct.o [0,2] Ant.2 func19 (by
 rintro⟨(c:PUnit),_⟩ hp;refine ho (.dr Ot ((),[(⟨#[105,110,100,101,120]⟩:ByteArray),(⟨#[105,110,100,101,120]⟩:ByteArray),(⟨#[110,101,120,116]⟩:ByteArray)],()) λ(y2:E_)=>.lx Ol (⟨(⟨#[104,111,109,101]⟩:ByteArray),y2.1⟩,())) ?_;refine BV ?_ λo1 (y2:E_) i2=>lxY ?_<;>(try simp only[std,Nat.reduceAdd] at *)<;>(first|exact⟨by decide,by decide⟩|skip)<;>have w:=Alg i2<;>exact⟨by simp only[szAddr,show ByteArray.size ⟨#[104,111,109,101]⟩=4 from rfl];omega,w.1⟩)
abbrev IX:Xct:=⟨[.v (.sl .u8)],[.el .net,.el .addr,.sl .int,.sl .int],λ(x:ak)=>x.1.length<=1000000000000000000/\(∀ j,j<x.1.length->0<=x.1.getD j default/\x.1.getD j default<=255),λ(x:ak) (y:di)=>okN y.1/\smN y.1/\GN y.1/\y.1.log.length<=2/\szAddr y.2.1<=200/\stA y.2.1/\y.2.2.1.length<=4/\y.2.2.2.1.length<=42⟩
def Aon:=An1.X IX<|Xct.o [0,2,3,4,5,6,7,8,9] An1.2 func5 (by
 rintro⟨(b:List Int),_⟩ hp;refine ho (.ob (∀ (j:Nat),j<List.length (b,()).1->0<=List.getD b j default/\List.getD b j default<=255)<|.ob (List.length b<=1000000000000000000)<|.dr UQ ((),()) λ(y3:bH)=>.dr Ol ((),()) λ(y4:aj)=>.dr MB ((),()) λ(y5:ak)=>let H_:Out:=.cl R4 (b,(30:Int),()) λ(z2:D_)=>.dr IU ((),wr ((12:Int)+z2.1),()) λ(y10:ak)=>.lx IX (y3.1,y4.1,y5.1,y10.1,());.lp (Bool) (True) (λx=>True) λy6=>.br (y6) H_ H_) ?_;refine Ad ?_ λ_=>Ad ?_ λ_=>Bk trivial λ(y3:bH) i3=>Bk trivial λ(y4:aj) i4=>Bk trivial λ(y5:ak) i5=>HT trivial λy6 i6=>Z (λh7=>Cs ?_ λo8 z2 ez2=>BV ?_ λo9 (y10:ak) i10=>lxY ?_) (λh7=>Cs ?_ λo11 z3 ez3=>BV ?_ λo12 (y13:ak) i13=>lxY ?_)<;>(try subst_vars)<;>(try simp only[std,Nat.reduceAdd] at *)<;>(first|exact hp.2|exact hp.1|skip)<;>(have hm:(0:Int)<=(if 30<3+(b.length:Int) / 12 then 30 else 3+(b.length:Int) / 12)/\(if 30<3+(b.length:Int) / 12 then 30 else 3+(b.length:Int) / 12)<=30:=by split<;>omega)<;>generalize (if 30<3+(b.length:Int) / 12 then 30 else 3+(b.length:Int) / 12)=q at *<;>have hw:IntKind.i64.wrap (12+q)=12+q:=FS O O<;>simp only[hw] at *<;>(first|omega|exact⟨O,O⟩|exact⟨i3.1,i3.2.1,i3.2.2.1,i3.2.2.2,i4.1,i4.2,O,O⟩|skip))
def Akl (s:ByteArray):cutText s []=[s]:=by
 have h:∀ (f:Nat) (i a:Int),cutG s [] f i a=[s.extract a.toNat s.size]:=by
  intro f
  induction f with
  | zero=>intro i a;rfl
  | succ f ih=>intro i a;rw[cutG,F_ (by simp[isCut,hasI]),ih]
 unfold cutText;rw[h];have:s.extract (0:Int).toNat s.size=s:=by rw[<-AM (s.extract _ _),AI,cC (by rw[AU];exact X_ _)];show ofL (I s)=s;exact AM s
 rw[this]
def AdF {G:Nat} {n:P_} {p:A_} (h:okL (G+1) (pl n p)) {ho:ByteArray} (hh:ho.size<=2097152) (a:HO):okL G (pl (fetchNo n ho a false).1 (tak p a (fetchNo n ho a false).2)):=by
 obtain⟨⟨Q,M,R,h1,h2,h3,h4⟩,⟨k1,k2,k3⟩,⟨h6,h7,h8,h9⟩,h10⟩:=h;have hw:wB (fetchNo n ho a false).2<=400:=Nat.min_le_left _ _;have et:(tak p a (fetchNo n ho a false).2).tok=p.tok:=KU ..;have ea:(tak p a (fetchNo n ho a false).2).addr=p.addr:=Ju ..;have e0:wCs ([]:List ao)=0:=rfl;have h2:Q+740000*0+8000000*(G+1)<=889000000000:=h2;have h3:M+600*0+250000*(G+1)<=48000000000:=h3;have h4:R+20*0+10000*(G+1)<=18000000000:=h4;have h8:0+0+(G+1)<=4194304:=h8;refine⟨⟨_,_,_,IK h1 a (fetchNo n ho a false).2,?_,?_,?_⟩,⟨Mw k1 _ _,?_,?_⟩,⟨h6,Nat.zero_le _,?_,h9⟩,L8 h10 _ _ hh⟩
 .show Q+740000+740000*0+8000000*G<=889000000000;omega
 .show M+600*wB (fetchNo n ho a false).2+600*0+250000*G<=48000000000;omega
 .show R+20*wB (fetchNo n ho a false).2+20*0+10000*G<=18000000000;omega
 .show(tak p a _).addr.host.size<=2097152;rw[ea];exact k2
 .show(tak p a _).tok.rest.size+_<=2900000;rw[et];exact k3
 .show 0+0+G<=4194304;omega
def plS (n:P_) (a:HO):A_:=adva (endPage (arriveT (newP a (fetchNo n a.host a false).2).1 (fetchNo n a.host a false).2.body))
def IE {n:P_} {a:HO} (q1:szNet n<=1048576) (q2:szAddr a<=1048576) (hk:(newP a (fetchNo n a.host a false).2).2=true):(Au (newP a (fetchNo n a.host a false).2).1<=1000000000000/\(newP a (fetchNo n a.host a false).2).1.tok.rest.size<=10000000/\(fetchNo n a.host a false).2.body.size<=10000000)/\Au (arriveT (newP a (fetchNo n a.host a false).2).1 (fetchNo n a.host a false).2.body)<=1000000000000/\okAdv (endPage (arriveT (newP a (fetchNo n a.host a false).2).1 (fetchNo n a.host a false).2.body))/\okL 1199 (pl (fetchNo n a.host a false).1 (plS n a)):=by
 have hW:=(PP (n:=n) (a:=a) [] q1 q2).1;have hx:=Qt n a.host a false;have hb:(fetchNo n a.host a false).2.body.size<=Ab (fetchNo n a.host a false).2:=bN _ _;have es:(startL n a []).1=⟨(fetchNo n a.host a false).1,(newP a (fetchNo n a.host a false).2).1,[(fetchNo n a.host a false).2.body],[],[]⟩:=by unfold startL;rw[G_ hk,Akl]
 rw[es] at hW;have hA:=Qu hW;obtain⟨⟨Q,M,R,h1,h2,h3,h4⟩,⟨k1,k2,k3⟩,_,_⟩:=hW;have h1:okAl (newP a (fetchNo n a.host a false).2).1 Q M R:=h1;have h2:Q+740000*0+8000000*1200<=889000000000:=h2;have h3:M+600*0+250000*1200<=48000000000:=h3;have h4:R+20*0+10000*1200<=18000000000:=h4;have hr:(newP a (fetchNo n a.host a false).2).1.tok.rest.size=0:=by unfold newP;split<;>rfl
 have a1:=I5 h1 O O O;have a2:=So (s:=(fetchNo n a.host a false).2.body) h1 O;have a3:=I5 a2.1 O O O;have a4:=Ahq a2.1 O;exact⟨⟨a1,O,O⟩,a3,⟨_,_,_,a4.1,O,O,O⟩,hA⟩
def XC {G:Nat} {n:P_} {p:A_} (h:okL G (pl n p)):(∀ t a g,Ab (fetchNo n t a g).2<=1048576)/\szNet n<=9000000000/\szCache n.cache<=90000000/\U Af n.servers<=10000000/\okFM p/\p.bf.length+p.bi.length<=1000000000000/\(∀ i,i<(nextN p).length->szAddr ((nextN p).getD i default).to<=4000000):=by
 obtain⟨⟨Q,M,R,h1,h2,h3,h4⟩,⟨k1,k2,k3⟩,_,h10⟩:=h;have hn:=UK h10;have h2:Q+740000*0+8000000*G<=889000000000:=h2;have h3:M+600*0+250000*G<=48000000000:=h3;have h4:R+20*0+10000*G<=18000000000:=h4;have hf:okFM p:=⟨Q,M,R,h1,O,O,O⟩;have hp:=Ep (FU hf);refine⟨λt a g=>DV hn,aP (show szNet n<=8000000000 from hn.1) O,aP (show szCache n.cache<=80000000 from hn.2.1) O,aP (show U Af n.servers<=1048576 from hn.2.2.1) O,hf,?_,λi hi=>?_⟩
 .have a3:=Ac AA p.bi;have a4:=Ac AD p.bf;have hz:=hp.1;simp only[Au] at hz;omega
 .rcases WO (Ae hi) with⟨s,hs,e⟩|⟨m,hm,e⟩
  .rw[e];exact k1.1.1 s hs
  .rw[e];exact k1.1.2 m hm
def VC {ho:ByteArray} {k:Nat} {n:P_} {p:A_} (h:¬ (nextN p).length=0):fet ho (k+1) n p=fet ho k (fetchNo n ho ((nextN p).getD 0 default).to false).1 (tak p ((nextN p).getD 0 default).to (fetchNo n ho ((nextN p).getD 0 default).to false).2):=by rw[fet,F_ h]
def Zm {ho:ByteArray} {k:Nat} {n:P_} {p:A_} (h:k=0\/(nextN p).length=0):fet ho k n p=(n,p):=by
 cases k with
 | zero=>rfl
 | succ k=>rw[fet,G_ (h.resolve_left O)]
def Ac4 {n:P_} {a:HO} {k:Nat} {m:P_} {p:A_} (h3:(newP a (fetchNo n a.host a false).2).2=true) (h:fet a.host k m p=fet a.host 200 (fetchNo n a.host a false).1 (plS n a)) (hk:k=0\/(nextN p).length=0):m=(loadP n a).1/\p=(loadP n a).2.1/\true=(loadP n a).2.2:=by
 rw[Zm hk] at h;unfold loadP;rw[G_ h3];exact⟨cG Prod.fst h,cG Prod.snd h,rfl⟩
def Ac1 {n:P_} {a:HO} (h3:(newP a (fetchNo n a.host a false).2).2=false):(fetchNo n a.host a false).1=(loadP n a).1/\default=(loadP n a).2.1/\false=(loadP n a).2.2:=by
 unfold loadP;rw[F_ (by rw[h3];decide)];exact⟨rfl,rfl,rfl⟩
def X9 {n:P_} {a:HO} {i:Int} {m:P_} {p:A_} (q2:szAddr a<=1048576) (h0:0<=i) (h2:i<200) (h:okL (1199-i.toNat) (pl m p)) (hf:fet a.host (200-i.toNat) m p=fet a.host 200 (fetchNo n a.host a false).1 (plS n a)) (hn:¬ (nextN p).length=0):okL (1199-(i+1).toNat) (pl (fetchNo m a.host ((nextN p).getD 0 default).to false).1 (tak p ((nextN p).getD 0 default).to (fetchNo m a.host ((nextN p).getD 0 default).to false).2))/\fet a.host (200-(i+1).toNat) (fetchNo m a.host ((nextN p).getD 0 default).to false).1 (tak p ((nextN p).getD 0 default).to (fetchNo m a.host ((nextN p).getD 0 default).to false).2)=fet a.host 200 (fetchNo n a.host a false).1 (plS n a):=by
 have e1:1199-i.toNat=1199-(i+1).toNat+1:=O
 have e2:200-i.toNat=200-(i+1).toNat+1:=O
 have hd:a.host.size<=szAddr a:=bN _ _;rw[e1] at h;rw[e2,VC hn] at hf;exact⟨AdF h O _,hf⟩
abbrev LB:Fct:=⟨[.v (.el .net),.v (.el .addr)],[.el .net,.el .page,.el .bool],λ(x:dj)=>szNet x.1<=1048576/\szAddr x.2.1<=1048576,λ(x:dj)=>((loadP x.1 x.2.1).1,(loadP x.1 x.2.1).2.1,(loadP x.1 x.2.1).2.2,())⟩
abbrev CQ (n:P_) (a:HO):LInv:=⟨[⟨.b,7,true,.el .net⟩,⟨.b,9,true,.el .page⟩,⟨.s,11,true,.el .int⟩,⟨.b,3,true,.el .addr⟩,⟨.b,4,true,.el .net⟩,⟨.b,5,true,.el .page⟩],λ(z x:dN)=>(((0<=x.2.2.1/\x.2.2.1<=200/\okL (1199-x.2.2.1.toNat) (pl x.1 x.2.1)/\fet a.host (200-x.2.2.1.toNat) x.1 x.2.1=fet a.host 200 (fetchNo n a.host a false).1 (plS n a))/\x.2.2.2.1=z.2.2.2.1)/\x.2.2.2.2.1=z.2.2.2.2.1)/\x.2.2.2.2.2.1=z.2.2.2.2.2.1,λ(x:dN)=>200-x.2.2.1.toNat⟩
def Anv:=Aon.a LB<|Fct.p (KP [2,3,4,5,6,7,8,9,10,11,12,13,14] [30,40,47]) (λ⟨n,a,_⟩=>lv [(7,CQ n a)]) Aon.2 func7 (by
 rintro⟨(n:P_),(a:HO),_⟩ hp;refine ho (let J_:=(⟨#[]⟩:ByteArray);.cl AP (n,a.host,a,false,()) λz2=>.cl QX (a,z2.2.1,()) λz3=>.br (!z3.2.1) (.leaf (.tup [(true,[.l Ty.server (z2.1.servers),.l Ty.entry (z2.1.cache.bh),.l Ty.sent (z2.1.log),vi (z2.1.now)]),(true,[vs J_,vs J_,vb (false),.nl,.nl,.nl,vs J_,vs J_,.nl,vb (false),.nl,.nl,.nl,.nl,.nl,vi ((0:Int)),vi ((0:Int)),vi ((0:Int)),vi ((0:Int)),.nl,.nl,vb (false)]),(false,[vb (false)])]) [] []) (.cl Gm (z3.1,z2.2.1.body,()) λz4=>.cl JW (z4.1,()) λz5=>.cl GM (z5.1,()) λz6=>lpx (CQ n a) (z2.1,(z6.1,((0:Int),(a,(default,(default,())))))) λ(y7:dN) bk7=>let H_:Out:=.lf LB (y7.1,y7.2.1,true,());.br (decide (y7.2.2.1<200)) (.cl Hm (y7.2.1,()) λz7=>let Y_:=z7.1.getD 0 default;let O_:=(z7.1.length:Int);let L_:=(0:Int)<=(0:Int)/\(0:Int)<O_;.br (O_==0) (.lp (Bool) (True) (λx=>True) λy11=>.br (y11) H_ H_) (.ob L_<|.ob (0<z7.1.length)<|.cl AP (y7.1,y7.2.2.2.1.host,Y_.to,false,()) λz8=>.ob L_<|.ob (0<z7.1.length)<|.cl EY (y7.2.1,Y_.to,z8.2.1,()) λz9=>.re (Value.bool z3.2.1)<|.bk (bk7 (z8.1,(z9.1,(w1 y7.2.2.1,(y7.2.2.2.1,(y7.2.2.2.2.1,(y7.2.2.2.2.2.1,()))))))))) (.lp (Bool) (True) (λx=>True) λy20=>.br (y20) H_ H_))) ?_;refine Cs ?_ λo1 z2 ez2=>(Cs ?_ λo2 z3 ez3=>Z (λh3=>Fct.leafZ (z2.fst,default,false,()) (by repeat' first|exact rfl|exact trivial|refine And.intro ?_ ?_) ?_) λh3=>Cs ?_ λo4 z4 ez4=>Cs ?_ λo5 z5 ez5=>Cs ?_ λo6 z6 ez6=>Ay ?_ λ(y7:dN) i7=>Z (λh8=>Cs ?_ λo9 z7 ez7=>Z (λh10=>HT trivial λy11 i11=>Z (λh12=>Y ?_) λh12=>Y ?_) λh10=>Ad ?_ λ_=>Ad ?_ λ_=>Cs ?_ λo15 z8 ez8=>Ad ?_ λ_=>Ad ?_ λ_=>Cs ?_ λo18 z9 ez9=>(Al<|AR ?_)) λh8=>HT trivial λy20 i20=>Z (λh21=>Y ?_) λh21=>Y ?_)<;>subst_vars<;>obtain⟨q1,q2⟩:=(show szNet n<=1048576/\szAddr a<=1048576 from hp)<;>(have hf:=Qt n a.host a false;have hd:a.host.size<=szAddr a:=bN _ _;have he:(fetchNo n a.host a false).2.bm.size<=Ab (fetchNo n a.host a false).2:=Nat.le_add_left _ _;have hz:U Af n.servers+szCache n.cache<=szNet n:=bN _ _;try simp only[std,Nat.reduceAdd] at *)<;>(try refine⟨?_,?_⟩<;>omega)<;>(try omega)<;>(try exact Ac1 h3)<;>(try exact(IE q1 q2 h3).1)<;>(try exact(IE q1 q2 h3).2.1)<;>(try exact(IE q1 q2 h3).2.2.1)<;>(try exact⟨O,O,(IE q1 q2 h3).2.2.2,rfl⟩)<;>(obtain⟨⟨⟨⟨z1,z2,z3,z4⟩,z5⟩,z6⟩,z7⟩:=i7)<;>(try exact(XC z3).2.2.2.2.2.1)<;>(try exact Ac4 h3 z4 O)<;>(obtain⟨w0,w1,w2,w3,w4,w5,w6⟩:=XC z3)<;>(have hw:(fetchNo y7.1 a.host ((nextN y7.2.1).getD 0 default).to false).2.body.size+(fetchNo y7.1 a.host ((nextN y7.2.1).getD 0 default).to false).2.bm.size<=_:=w0 _ _ _)<;>(rw[z5])<;>(try exact⟨w1,w2,w3,O,aP (w6 0 O) O⟩)<;>(try exact⟨w4,aP (w6 0 O) O,O,O⟩)<;>(rw[FS O O])<;>(exact⟨⟨⟨⟨⟨O,O,X9 q2 z1 h8 z3 z4 O⟩,rfl⟩,z6⟩,z7⟩,O⟩))
def Aa8 {n:P_} (h:GN n) (a:HO):rOk (F n.servers a):=by
 have:=(F3 h.ok E a false).2;rw[(H2 h.nr E a false).2] at this;exact this
def Q6 (s:ByteArray) (cs:List Int):∀ (f:Nat) (i a:Int),0<=a->a<i->i+f<=max s.size 1->(cutG s cs f i a).flatMap I=(I s).drop a.toNat/\1<=(cutG s cs f i a).length
 | 0,i,a,h0,h1,h2=>by
  rw[cutG];refine⟨?_,X_ _⟩;rw[List.flatMap_cons,List.flatMap_nil,cS,AI,cC (by rw[AU];exact X_ _)]
 | f+1,i,a,h0,h1,h2=>by
  rw[cutG];split
  .have ih:=Q6 s cs f (i+1) i O O O;refine⟨?_,by simp⟩;rw[List.flatMap_cons,ih.1,AI];have e:(I s).drop a.toNat=((I s).take i.toNat++(I s).drop i.toNat).drop a.toNat:=by rw[dc]
   rw[e,List.drop_append_of_le_length (by rw[cZ,AU];omega)]
  .exact Q6 s cs f (i+1) a h0 O O
def AjM (s:ByteArray) (cs:List Int):(cutText s cs).flatMap I=I s/\cutText s cs≠[]/\(cutText s cs).length<=8:=by
 have h:=Q6 s cs (s.size-1) 1 0 O O O;exact⟨h.1,λe=>by have:=h.2;rw[show cutG s cs (s.size-1) 1 0=[] from e] at this;simp at this,Nr s cs⟩
def Tp {a:HO} (h:stA a):a.host=E/\isA a=true/\∃ j,j<2/\a=⟨E,IN2.getD j default⟩:=by
 obtain⟨j,hj,e⟩:=h;refine⟨by rw[e],?_,j,hj,e⟩;have h2:∀ b,b∈IN2->isA ⟨E,b⟩=true:=by
  intro b hb;simp only[IN2,au,fL,or_false] at hb;rcases hb with hb|hb
  .rw[hb];decide +kernel
  .rw[hb];decide +kernel
 rw[e];exact h2 _ (Ae (l:=IN2) hj)
def Hi {n:P_} (h:GN n) {a:HO} (ha:stA a):(fetchNo n a.host a false).2=F n.servers a/\goodP (F n.servers a)/\(newP a (F n.servers a))=(pa a (parseP (F n.servers a).bm).1,true):=by
 obtain⟨e1,e2,j,hj,e3⟩:=Tp ha;have e4:F n.servers a=answerTo n.servers a:=by unfold F;rw[G_ e2]
 have hg:goodP (F n.servers a):=by rw[e4,e3];exact h.gd j hj
 refine⟨(H2 h.nr a.host a false).2,hg,?_⟩;unfold newP;rw[G_ ⟨e2,hg.2.2.1,hg.1,hg.2.1⟩];rfl
structure ST (n:P_) (a:HO) (Q:List Z_) (C0:A_) (l:N_):Prop where
 li:LI l
 si:SI (F n.servers) Q C0 l
 gi:GI n a l
def po0 (n:P_) (a:HO):aA:=(parseP (F n.servers a).bm).1
def C00 (n:P_) (a:HO):A_:=cq (F n.servers) (pa a (po0 n a)) (toke (ofL (I (F n.servers a).body)))
def Xn {n:P_} (h:GN n) {a:HO} (ha:stA a) (hl:n.log.length<=2) {parts:List ByteArray} (hp:parts≠[]) (hB:parts.flatMap I=I (F n.servers a).body):ST n a (QQ (F n.servers) a (po0 n a)) (C00 n a) ⟨(fetchNo n E a false).1,pa a (po0 n a),parts,[],[]⟩/\T ⟨(fetchNo n E a false).1,pa a (po0 n a),parts,[],[]⟩=parts.length:=by
 obtain⟨e1,e2,_⟩:=Tp ha;obtain⟨f1,f2,f3⟩:=Hi h ha;have hs:=AgP (R:=F n.servers) (Aa8 h) (po:=po0 n a) e1 (F3 h.ok E a false).1 (H2 h.nr E a false).1 hp hB f2.2.2.2.pg f2.2.2.2.w;have hn:NG n n (Wf a (pa a (po0 n a))) 0:=⟨rfl,⟨[],by simp,by simp,λs hs=>absurd hs (by simp)⟩,λ_ q=>q,λ_ q=>.inl q⟩;have hf:=Qo hn e2 O (g:=false) ⟨λe=>absurd (show false=true from e) (by decide),.inl rfl⟩;refine⟨⟨hs.1,hs.2.1,⟨Ir hf.1 (λ_ q=>q) ?_,λc hc=>absurd (show c∈[] from hc) (by simp),λc hc=>absurd (show c∈[] from hc) (by simp),⟨λs hs=>absurd (show s∈[] from hs) (by simp),λs hs=>absurd (show s∈[] from hs) (by simp)⟩,hf.2.1⟩⟩,hs.2.2⟩;unfold kG;omega
def Wh {n:P_} (h:GN n) {a:HO} (ha:stA a) (cs:List Int):startL n a cs=(⟨(fetchNo n E a false).1,pa a (po0 n a),cutText (F n.servers a).body cs,[],[]⟩,true):=by
 obtain⟨f1,f2,f3⟩:=Hi h ha;unfold startL;rw[f1,f3,G_ rfl,(Tp ha).1];rfl
structure RES (n:P_) (a:HO) (Q:List Z_) (C0:A_) (x:P_×A_×Bool) (l:N_):Prop where
 st:ST n a Q C0 l
 ep:EP (F n.servers) Q C0 l.page
 eq:x=(l.net,l.page,true)
def AfM {n:P_} (h:GN n) {a:HO} (ha:stA a) (hl:n.log.length<=2) (cs ch:List Int):RES n a (QQ (F n.servers) a (po0 n a)) (C00 n a) (loa n a cs ch) (runLo (startL n a cs).1 ch):=by
 have hc:=AjM (F n.servers a).body cs;have hs:=Xn h ha hl hc.2.1 hc.1;have hR:=Aa8 h;rw[Wh h ha cs];have h1:=Aik hs.1.li (by rw[hs.2];omega) ch;have h2:=Al8 hR hs.1.li hs.1.si ch;have h3:=AlD hR O hs.1.li hs.1.si hs.1.gi ch;have h4:=h1.1;unfold finL at h4;rw[T_] at h4;refine⟨⟨h1.2,h2,h3⟩,AhY h1.2 h2 h4.1,?_⟩;unfold loa;rw[Wh h ha cs,G_ rfl]
def VV {n:P_} (h:GN n) {a:HO} (ha:stA a):(arri ⟨(fetchNo n E a false).1,pa a (po0 n a),[(F n.servers a).body],[],[]⟩)=(pl (fetchNo n E a false).1 (plS n a),true):=by
 obtain⟨f1,f2,f3⟩:=Hi h ha;unfold plS;rw[f1,f3];rfl
def Acm {n:P_} (h:GN n) {a:HO} (ha:stA a) (hl:n.log.length<=2):RES n a (QQ (F n.servers) a (po0 n a)) (C00 n a) (loadP n a) (pl (fet E 200 (fetchNo n E a false).1 (plS n a)).1 (fet E 200 (fetchNo n E a false).1 (plS n a)).2):=by
 obtain⟨f1,f2,f3⟩:=Hi h ha;have hs:=(Xn h ha hl (parts:=[(F n.servers a).body]) (by simp) (by simp)).1;have hR:=Aa8 h;have e:=VV h ha;have a1:=(AhQ hs.li (by rw[e])).1;have a2:=Ag6 hs.li hs.si;have a3:=AhZ hs.gi (AhI _);rw[e] at a1 a2 a3;have h1:=WQ hR E 200 _ _ a1 a2 O;have h2:=WG hR O 200 _ _ a1 a2 a3;refine⟨⟨h1.1,h1.2.1,h2⟩,AhY h1.1 h1.2.1 h1.2.2,?_⟩;unfold loadP;rw[f1,f3,G_ rfl,(Tp ha).1];unfold plS;rw[f1,f3];rfl
def okU (n:P_) (p:A_):Prop:=okNt n/\okTo p/\U AD p.bf<=13000000008/\AG p.bm+szAddr p.addr<=4000000/\p.bi.length<=900000000000
def Aa4 {G:Nat} {l:N_} (h:okL G l):okU l.net l.page/\U AD l.page.bf<=13000000000/\l.page.ran.length<=800000000000:=by
 obtain⟨⟨Q,M,R,h1,h2,h3,h4⟩,⟨k1,k2,k3⟩,_,h10⟩:=h;obtain⟨_,_,c3,c4,_,c6⟩:=h1;have a3:=Ac AA l.page.bi;have a5:=Ac szAddr l.page.ran;have c7:=c3.1;have c8:=c4.2.1;have c9:=c4.2.2.1;unfold slotP at c7;unfold modP at c8;unfold ranP at c9;exact⟨⟨UK h10,k1.1,O,c6.1,O⟩,O,O⟩
def Aio {n:P_} (h:okNt n) (t:ByteArray) (a:HO):(resp n t a).bm.size<=1048576/\(resp n t a).body.size<=1048576:=by
 have:=DV (t:=t) (a:=a) (g:=true) h;unfold resp;simp only[Ab] at this;omega
abbrev BK:Fct:=⟨[.v (.el .net),.v (.el .page),.v (.el .request),.v (.el .bool),.v (.el .int),.v (.el .str)],[.el .bool],λ(x:fA)=>okNt x.1/\AG x.2.1.bm+szAddr x.2.1.addr<=4000000/\szAddr x.2.2.1.to<=4000000/\A6 x.2.2.1<=1050000000000,λ(x:fA)=>(usedR x.1 x.2.1 x.2.2.1 x.2.2.2.1 x.2.2.2.2.1 x.2.2.2.2.2.1,())⟩
theorem q2 (n:P_) (p:A_) (r:ax) (done:Bool) (code:Int) (body:ByteArray) (hp:BK.pre (n,p,r,done,code,body,())):Out.holds (BK.ctr (n,p,r,done,code,body,())).post (.br (!done) (.lf BK (true,())) (.cl AJ (p.bm,r,()) λ(z2:D_)=>.br (z2.1 != 1) (.br (code==2) (.lf BK (ByteArray.toList body==(⟨#[]⟩:ByteArray).toList,())) (.lf BK (false,()))) (.cl FV (n,p.addr.host,r.to,()) λz3=>.cl Cw (p.bm,r,z3.1,()) λz4=>.cl An (p.bm,r,z3.1,()) λ(z5:D_)=>.br (code==z5.1) (.lf BK (ByteArray.toList body==z4.1.toList,())) (.lf BK (false,()))))):=by
 repeat' (guard_target =~ Out.holds _ _;first|refine Y ?_|refine Z (λ_=>?_) λ_=>?_|refine Ai ?_ λ_=>?_)
 all_goals (have h1:=Aio hp.1 p.addr.host r.to;have h2:=hp.1;have h4:p.addr.host.size<=szAddr p.addr:=bN _ _)<;>unfold okNt at h2<;>(try simp only[std,Nat.reduceAdd,usedR] at *)<;>(try simp(disch:=omega) only[FS,C_] at *)<;>(try simp(disch:=omega) only[G_,F_])<;>(first|trivial|omega|grind[FS,C_,B_,K_,I_,maxLen,usedR])
def AoK:=Anv.a BK<|Fct.o (KP [3,4,5,6,7,8,12,13,14] [17,22]) Anv.2 func84 (λ⟨(n:P_),(p:A_),(r:ax),(done:Bool),(code:Int),(body:ByteArray),_⟩ hp=>ho _ (q2 n p r done code body hp))
def Anq:=AoK.a BK<|Fct.o (KP [3,4,5,6,7,8,12,13,14] [17,22]) AoK.2 func34 (λ⟨(n:P_),(p:A_),(r:ax),(done:Bool),(code:Int),(body:ByteArray),_⟩ hp=>ho _ (q2 n p r done code body hp))
def Pj {n:P_} {p:A_} (h:okU n p) (k:Int):szAddr (slotRequest p k).to<=4000000/\A6 (slotRequest p k)<=1050000000000:=by
 obtain⟨_,h2,h3,h4,_⟩:=h;have h5:p.addr.host.size<=szAddr p.addr:=bN _ _;unfold slotRequest;split
 .have h1:=Cy AD (l:=p.bf) (i:=k.toNat) O;have h7:=h2.1 _ (Ae (l:=p.bf) (i:=k.toNat) O);refine⟨h7,?_⟩;simp only[A6,AD] at *;omega
 .decide
def SB {n:P_} {p:A_} (h:okU n p) (k:Int):szAddr (modRequest p k).to<=4000000/\A6 (modRequest p k)<=1050000000000:=by
 obtain⟨_,h2,h3,h4,_⟩:=h;have h5:p.addr.host.size<=szAddr p.addr:=bN _ _;unfold modRequest;split
 .have h7:=h2.2 _ (Ae (l:=p.bi) (i:=k.toNat) O);have h8:ByteArray.size ⟨#[]⟩=0:=rfl;refine⟨h7,?_⟩;simp only[A6,h8] at *;omega
 .decide
abbrev Ce:Fct:=⟨[.v (.el .net),.v (.el .page),.v (.el .int)],[.el .bool],λ(x:dO)=>okU x.1 x.2.1/\-9223372036854775808<=x.2.2.1/\x.2.2.1<=9223372036854775807,λ(x:dO)=>(slotRi x.1 x.2.1 x.2.2.1,())⟩
def Aox:=Anq.a Ce<|Fct.o (KP [2,3,4,6,7] [14]) Anq.2 func37 (by
 rintro⟨(n:P_),(p:A_),(k:Int),_⟩ hp;refine ho (.cl Ap (k,(0:Int),wr ((p.bf.length:Int)-(1:Int)),()) λz2=>.br (!z2.1) (.lf Ce (false,())) (.ob (inB k p.bf.length)<|.cl Bl (p,k,()) λz3=>.cl BK (n,p,z3.1,(p.bf.getD (Int.toNat k) default).done,(p.bf.getD (Int.toNat k) default).code,(p.bf.getD (Int.toNat k) default).body,()) λz4=>.lf Ce (z4.1,()))) ?_;refine Ai trivial λ_=>(Z (λh1=>Y ?_) λh1=>Ad ?_ λ_=>Ai ?_ λ_=>Ai ?_ λ_=>Y ?_)<;>(have h1:=Pj hp.1 k;have h2:=hp.1;have h3:=Ac AD p.bf)<;>unfold okU at h2<;>(try simp only[std,Nat.reduceAdd,slotRi,inRange] at *)<;>(try simp(disch:=omega) only[FS,C_] at *)<;>(try simp(disch:=omega) only[G_,F_])<;>(first|trivial|omega|grind[FS,C_,B_,K_,I_,maxLen,slotRi,inRange]))
def AnX:=Aox.a Ce<|Fct.o (KP [2,3,4,6,7] [16]) Aox.2 func12 (by
 rintro⟨(n:P_),(p:A_),(k:Int),_⟩ hp;refine ho (.br (decide (k<0)) (.lf Ce (false,())) (.br (decide (k>=(p.bf.length:Int))) (.lf Ce (false,())) (.ob (inB k p.bf.length)<|.cl Bl (p,k,()) λz2=>.cl BK (n,p,z2.1,(p.bf.getD (Int.toNat k) default).done,(p.bf.getD (Int.toNat k) default).code,(p.bf.getD (Int.toNat k) default).body,()) λz3=>.lf Ce (z3.1,())))) ?_;refine Z (λh1=>Y ?_) λh1=>Z (λh2=>Y ?_) λh2=>Ad ?_ λ_=>Ai ?_ λ_=>Ai ?_ λ_=>Y ?_;all_goals
  have h1:=Pj hp.1 k;have h2:=hp.1;have h3:=Ac AD p.bf
 all_goals unfold okU at h2<;>(try simp only[std,Nat.reduceAdd,slotRi,inRange] at *)<;>(try simp(disch:=omega) only[FS,C_] at *)<;>(try simp(disch:=omega) only[G_,F_])<;>(first|trivial|omega|grind[FS,C_,B_,K_,I_,maxLen,slotRi,inRange]))
abbrev Bt:Fct:=⟨[.v (.el .net),.v (.el .page),.v (.el .int)],[.el .bool],λ(x:dO)=>okU x.1 x.2.1/\-9223372036854775808<=x.2.2.1/\x.2.2.1<=9223372036854775807,λ(x:dO)=>(modu x.1 x.2.1 x.2.2.1,())⟩
def ApO:=AnX.a Bt<|Fct.o (KP [2,3,4,6,7] [14]) AnX.2 func38 (by
 rintro⟨(n:P_),(p:A_),(k:Int),_⟩ hp;refine ho (.cl Ap (k,(0:Int),wr ((p.bi.length:Int)-(1:Int)),()) λz2=>.br (!z2.1) (.lf Bt (false,())) (.ob (inB k p.bi.length)<|.cl BO (p,k,()) λz3=>.cl BK (n,p,z3.1,(p.bi.getD (Int.toNat k) default).done,(p.bi.getD (Int.toNat k) default).code,(p.bi.getD (Int.toNat k) default).body,()) λz4=>.lf Bt (z4.1,()))) ?_;refine Ai trivial λ_=>(Z (λh1=>Y ?_) λh1=>Ad ?_ λ_=>Ai ?_ λ_=>Ai ?_ λ_=>Y ?_)<;>(have h1:=SB hp.1 k;have h2:=hp.1)<;>unfold okU at h2<;>(try simp only[std,Nat.reduceAdd,modu,inRange] at *)<;>(try simp(disch:=omega) only[FS,C_] at *)<;>(try simp(disch:=omega) only[G_,F_])<;>(first|trivial|omega|grind[FS,C_,B_,K_,I_,maxLen,modu,inRange]))
def AnV:=ApO.a Bt<|Fct.o (KP [2,3,4,6,7] [16]) ApO.2 func13 (by
 rintro⟨(n:P_),(p:A_),(k:Int),_⟩ hp;refine ho (.br (decide (k<0)) (.lf Bt (false,())) (.br (decide (k>=(p.bi.length:Int))) (.lf Bt (false,())) (.ob (inB k p.bi.length)<|.cl BO (p,k,()) λz2=>.cl BK (n,p,z2.1,(p.bi.getD (Int.toNat k) default).done,(p.bi.getD (Int.toNat k) default).code,(p.bi.getD (Int.toNat k) default).body,()) λz3=>.lf Bt (z3.1,())))) ?_;refine Z (λh1=>Y ?_) λh1=>Z (λh2=>Y ?_) λh2=>Ad ?_ λ_=>Ai ?_ λ_=>Ai ?_ λ_=>Y ?_;all_goals
  have h1:=SB hp.1 k;have h2:=hp.1
 all_goals unfold okU at h2<;>(try simp only[std,Nat.reduceAdd,modu,inRange] at *)<;>(try simp(disch:=omega) only[FS,C_] at *)<;>(try simp(disch:=omega) only[G_,F_])<;>(first|trivial|omega|grind[FS,C_,B_,K_,I_,maxLen,modu,inRange]))
abbrev Fc:Fct:=⟨[.v (.el .net),.v (.el .page)],[.el .int],λ(x:bT)=>okU x.1 x.2.1,λ(x:bT)=>(wro x.1 x.2.1,())⟩
abbrev CP (n:P_) (p:A_):LInv:=⟨[⟨.s,5,true,.el .int⟩,⟨.s,6,true,.el .int⟩,⟨.b,2,false,.el .net⟩,⟨.b,3,false,.el .page⟩],λ(z x:af)=>((0<=x.2.1/\x.2.1<=p.bf.length/\x.1=cntW (slotRi n p) x.2.1.toNat)/\x.2.2.1=z.2.2.1)/\x.2.2.2.1=z.2.2.2.1,λ(x:af)=>p.bf.length-x.2.1.toNat⟩
abbrev CO (n:P_) (p:A_):LInv:=⟨[⟨.s,5,true,.el .int⟩,⟨.s,7,true,.el .int⟩,⟨.b,2,false,.el .net⟩,⟨.b,3,false,.el .page⟩],λ(z x:af)=>((0<=x.2.1/\x.2.1<=p.bi.length/\x.1=cntW (slotRi n p) p.bf.length+cntW (modu n p) x.2.1.toNat)/\x.2.2.1=z.2.2.1)/\x.2.2.2.1=z.2.2.2.1,λ(x:af)=>p.bi.length-x.2.1.toNat⟩
def Ap9:=AnV.a Fc<|Fct.p (KP [2,3,4,5,6,7] [12,19,26,33]) (λ⟨n,p,_⟩=>λ|3=>some (CP n p)|8=>some (CO n p)|_=>none) AnV.2 func15 (by
 rintro⟨(n:P_),(p:A_),_⟩ hp;refine ho (lpx (CP n p) ((0:Int),((0:Int),(n,(p,())))) λ(y1:af) bk1=>.br (decide (y1.2.1<(y1.2.2.2.1.bf.length:Int))) (.cl Ce (y1.2.2.1,y1.2.2.2.1,y1.2.1,()) λz2=>.br (!z2.1) (.re (Value.int IntKind.i64 (0:Int))<|.bk (bk1 (w1 y1.1,(w1 y1.2.1,(y1.2.2.1,(y1.2.2.2.1,())))))) (.re (Value.int IntKind.i64 (0:Int))<|.bk (bk1 (y1.1,(w1 y1.2.1,(y1.2.2.1,(y1.2.2.2.1,()))))))) (lpx (CO n p) (y1.1,((0:Int),(y1.2.2.1,(y1.2.2.2.1,())))) λ(y7:af) bk7=>.br (decide (y7.2.1<(y7.2.2.2.1.bi.length:Int))) (.cl Bt (y7.2.2.1,y7.2.2.2.1,y7.2.1,()) λz3=>.br (!z3.1) (.re (Value.int IntKind.i64 y1.2.1)<|.re (Value.int IntKind.i64 (0:Int))<|.bk (bk7 (w1 y7.1,(w1 y7.2.1,(y7.2.2.1,(y7.2.2.2.1,())))))) (.re (Value.int IntKind.i64 y1.2.1)<|.re (Value.int IntKind.i64 (0:Int))<|.bk (bk7 (y7.1,(w1 y7.2.1,(y7.2.2.1,(y7.2.2.2.1,()))))))) (.lf Fc (y7.1,())))) ?_;refine Ay ?_ λ(y1:af) i1=>Z (λh2=>Ai ?_ λ_=>Z (λh4=>Al<|AR ?_) λh4=>Al<|AR ?_) (λh2=>Ay ?_ λ(y7:af) i7=>Z (λh8=>Ai ?_ λ_=>Z (λh10=>Al<|Al<|AR ?_) λh10=>Al<|Al<|AR ?_) λh8=>Y ?_)<;>obtain⟨_,_,g2,_,g4⟩:=(show okU n p from hp)<;>have g3:=Ac AD p.bf<;>(try obtain⟨⟨⟨a1,a2,a3⟩,a4⟩,a5⟩:=i1;have e1:=CS (slotRi n p) y1.2.1.toNat;have e2:=Iu (slotRi n p) a1)<;>(try obtain⟨⟨⟨b1,b2,b3⟩,b4⟩,b5⟩:=i7;have e3:=CS (modu n p) y7.2.1.toNat;have e4:=Iu (modu n p) b1;have e5:=CS (slotRi n p) p.bf.length)<;>(try simp only[std,Nat.reduceAdd,wro,cntW] at *)<;>(try simp(disch:=omega) only[FS,C_] at *)<;>(try simp(disch:=omega) only[G_,F_])<;>(try simp only[a4,a5] at *)<;>(try simp only[b4,b5] at *)<;>(first|trivial|omega|skip)<;>(try simp only[h4,h10,aD,cD,aS] at *)<;>(first|omega|(refine⟨⟨⟨⟨O,O,O⟩,rfl⟩,rfl⟩,O⟩)|(rw[show y1.2.1.toNat=p.bf.length from O] at *;omega)|(rw[show y7.2.1.toNat=p.bi.length from O] at *;omega)|grind))
abbrev CD (n:P_) (p:A_):LInv:=⟨[⟨.s,5,true,.el .int⟩,⟨.s,11,true,.el .int⟩,⟨.b,2,false,.el .net⟩,⟨.b,3,false,.el .page⟩],λ(z x:af)=>((0<=x.2.1/\x.2.1<=p.bf.length/\x.1=cntW (slotRi n p) x.2.1.toNat)/\x.2.2.1=z.2.2.1)/\x.2.2.2.1=z.2.2.2.1,λ(x:af)=>p.bf.length-x.2.1.toNat⟩
abbrev CH (n:P_) (p:A_):LInv:=⟨[⟨.s,5,true,.el .int⟩,⟨.s,25,true,.el .int⟩,⟨.b,2,false,.el .net⟩,⟨.b,3,false,.el .page⟩],λ(z x:af)=>((0<=x.2.1/\x.2.1<=p.bi.length/\x.1=cntW (slotRi n p) p.bf.length+cntW (modu n p) x.2.1.toNat)/\x.2.2.1=z.2.2.1)/\x.2.2.2.1=z.2.2.2.1,λ(x:af)=>p.bi.length-x.2.1.toNat⟩
def Ape:=Ap9.a Fc<|Fct.p (KP [2,3,4,5,6,7,10,11,24,25] [12,18,26,32]) (λ⟨n,p,_⟩=>λ|3=>some (CD n p)|9=>some (CH n p)|_=>none) Ap9.2 func14 (by
 rintro⟨(n:P_),(p:A_),_⟩ hp;refine ho (let aq:=(p.bf.length:Int);let J_:=Value.int IntKind.i64 (0:Int);let H_:=Value.int IntKind.i64 aq;lpx (CD n p) ((0:Int),((0:Int),(n,(p,())))) λ(y1:af) bk1=>let O_:=Value.int IntKind.i64 y1.2.1;let L_:=(y1.2.2.2.1.bi.length:Int);let Y_:=Value.int IntKind.i64 L_;.br (decide (y1.2.1<aq)) (.cl Ce (y1.2.2.1,y1.2.2.2.1,y1.2.1,()) λz2=>.br (!z2.1) (.re J_<|.re H_<|.bk (bk1 (w1 y1.1,(w1 y1.2.1,(y1.2.2.1,(y1.2.2.2.1,())))))) (.re J_<|.re H_<|.bk (bk1 (y1.1,(w1 y1.2.1,(y1.2.2.1,(y1.2.2.2.1,()))))))) (lpx (CH n p) (y1.1,((0:Int),(y1.2.2.1,(y1.2.2.2.1,())))) λ(y7:af) bk7=>.br (decide (y7.2.1<L_)) (.cl Bt (y7.2.2.1,y7.2.2.2.1,y7.2.1,()) λz3=>.br (!z3.1) (.re O_<|.re J_<|.re H_<|.re Y_<|.bk (bk7 (w1 y7.1,(w1 y7.2.1,(y7.2.2.1,(y7.2.2.2.1,())))))) (.re O_<|.re J_<|.re H_<|.re Y_<|.bk (bk7 (y7.1,(w1 y7.2.1,(y7.2.2.1,(y7.2.2.2.1,()))))))) (.lf Fc (y7.1,())))) ?_;refine Ay ?_ λ(y1:af) i1=>Z (λh2=>Ai ?_ λ_=>Z (λh4=>Al<|Al<|AR ?_) λh4=>Al<|Al<|AR ?_) (λh2=>Ay ?_ λ(y7:af) i7=>Z (λh8=>Ai ?_ λ_=>Z (λh10=>Al<|Al<|Al<|Al<|AR ?_) λh10=>Al<|Al<|Al<|Al<|AR ?_) λh8=>Y ?_)<;>obtain⟨_,_,g2,_,g4⟩:=(show okU n p from hp)<;>have g3:=Ac AD p.bf<;>(try obtain⟨⟨⟨a1,a2,a3⟩,a4⟩,a5⟩:=i1;have e1:=CS (slotRi n p) y1.2.1.toNat;have e2:=Iu (slotRi n p) a1)<;>(try obtain⟨⟨⟨b1,b2,b3⟩,b4⟩,b5⟩:=i7;have e3:=CS (modu n p) y7.2.1.toNat;have e4:=Iu (modu n p) b1;have e5:=CS (slotRi n p) p.bf.length)<;>(try simp only[std,Nat.reduceAdd,wro,cntW] at *)<;>(try simp(disch:=omega) only[FS,C_] at *)<;>(try simp(disch:=omega) only[G_,F_])<;>(try simp only[a4,a5] at *)<;>(try simp only[b4,b5] at *)<;>(first|trivial|omega|skip)<;>(try simp only[h4,h10,aD,cD,aS] at *)<;>(first|omega|(refine⟨⟨⟨⟨O,O,O⟩,rfl⟩,rfl⟩,O⟩)|(rw[show y1.2.1.toNat=p.bf.length from O] at *;omega)|(rw[show y7.2.1.toNat=p.bi.length from O] at *;omega)|grind))
abbrev Hf:Fct:=⟨[.v (.el .net),.v (.el .page)],[.el .bool],λ(x:bT)=>okU x.1 x.2.1,λ(x:bT)=>(decide (wro x.1 x.2.1=0),())⟩
def Ao5:=Ape.a Hf<|Fct.o [2,3,4] Ape.2 func8 (by
 rintro⟨(n:P_),(p:A_),_⟩ hp;refine ho (.cl Fc (n,p,()) λ(z2:D_)=>.lf Hf (z2.1==0,())) ?_;refine Ai ?_ λ_=>(Y ?_)<;>(try simp only[std,Nat.reduceAdd] at *)<;>(try simp(disch:=omega) only[FS,C_] at *)<;>(try simp(disch:=omega) only[G_,F_])<;>(first|trivial|omega|grind[FS,C_,B_,K_,I_,maxLen]))
def AjS {n:P_} {p:A_} (h:okU n p) (hz:U AD p.bf<=13000000000) {f:av->av} (hf:∀ s,(f s).to=s.to/\AD (f s)<=AD s+8):okU n { p with bf:=p.bf.modify 0 f }:=by
 obtain⟨h1,h2,h3,h4,h5⟩:=h;cases hs:p.bf with
 | nil=>rw[List.modify_nil,<-hs];exact⟨h1,h2,h3,h4,h5⟩
 | cons s l=>
  unfold okTo at h2;rw[hs] at h2 hz;rw[Ah] at hz;have:=hf s;refine⟨h1,⟨λx hx=>?_,h2.2⟩,?_,h4,h5⟩
  .rcases au.1 (show x∈f s::l from hx) with hx|hx
   .rw[hx,this.1];exact h2.1 s dx
   .exact h2.1 x (cY _ hx)
  .show U AD (f s::l)<=_;rw[Ah];omega
def Ab8 {J:Type} (l:List J) (f g:J->J):(l.modify 0 f).modify 0 g=l.modify 0 λx=>g (f x):=by cases l<;>rfl
abbrev NE:Xct:=⟨[.u],[.el .net,.el .page],λ(x:S_)=>True,λ(x:S_) (y:bT)=>okU y.1 y.2.1/\y.2.1.ran.length<=900000000000⟩
def AnA:=Ao5.X NE<|Xct.o (KP [0,2,3,4,5,11] [12,17,30]) Ao5.2 func33 (by
 rintro⟨(c:PUnit),_⟩ hp;refine ho (.dr Nt ((),()) λ(y1:bR)=>let J_:=(y1.1.page.bf.length:Int);let H_:Out:=.du (.lx NE (y1.1.net,y1.1.page,()));.dr A7 ((),(6:Int),()) λ(y2:D_)=>.br (y2.1==0) (.br (decide (J_>0)) (.ob ((0:Int)<=(0:Int)/\(0:Int)<J_)<|.ob (0<y1.1.page.bf.length)<|.lt (List av) (y1.1.page.bf.modify 0 λz=>({z with done:=true}:av)) λz2=>.ob ((0:Int)<=(0:Int)/\(0:Int)<(z2.length:Int))<|.ob (0<z2.length)<|.lt (List av) (z2.modify 0 λz=>({z with code:=(1:Int)}:av)) λz3=>.ob ((0:Int)<=(0:Int)/\(0:Int)<(z3.length:Int))<|.ob (0<z3.length)<|.lt (List av) (z3.modify 0 λz=>({z with body:=(⟨#[115,97,121,32,101,118,105,108]⟩:ByteArray)}:av)) λz4=>.du (.lx NE (y1.1.net,{y1.1.page with bf:=z4},()))) H_) (.br (y2.1==1) (.dr UP ((),()) λ(y16:dl)=>.ap (y1.1.page.ran.length+y16.1.length) 32<|.du (.lx NE (y1.1.net,{y1.1.page with ran:=y1.1.page.ran++y16.1},()))) H_)) ?_;refine Bk trivial λ(y1:bR) i1=>Bk trivial λ(y2:D_) i2=>Z (λh3=>Z (λh4=>Ad ?_ λ_=>Ad ?_ λ_=>TF λz2 ez2=>Ad ?_ λ_=>Ad ?_ λ_=>TF λz3 ez3=>Ad ?_ λ_=>Ad ?_ λ_=>TF λz4 ez4=>AhO (lxY ?_)) λh4=>AhO (lxY ?_)) (λh3=>Z (λh15=>Bk trivial λ(y16:dl) i16=>FB ?_ λ_=>AhO (lxY ?_)) λh15=>AhO (lxY ?_))<;>(try subst_vars)<;>(try simp only[std,Nat.reduceAdd] at *)<;>(have u:=Aa4 i1.1.1;try subst_vars)<;>(try simp only[List.length_modify])<;>(first|omega|exact⟨O,O⟩|exact⟨u.1,O⟩|exact⟨u.1,by rw[al];omega⟩|skip)<;>rw[Ab8,Ab8]<;>exact⟨AjS u.1 u.2.1 λs=>⟨rfl,by simp only[AD];show _+_+8<=_;omega⟩,O⟩)
abbrev JT:Xct:=⟨[.v (.sl .u8)],[.el .net,.el .page],λ(x:ak)=>x.1.length<=1000000000000000000/\(∀ j,j<x.1.length->0<=x.1.getD j default/\x.1.getD j default<=255),λ(x:ak) (y:bT)=>okU y.1 y.2.1/\y.2.1.ran.length<=900000000000⟩
def Aoy:=AnA.X JT<|Xct.o [0,2,3,4] AnA.2 func11 (by
 rintro⟨(b:List Int),_⟩ hp;refine ho (.ob (∀ (j:Nat),j<List.length (b,()).1->0<=List.getD b j default/\List.getD b j default<=255)<|.ob (List.length b<=1000000000000000000)<|.dr NE ((),()) λ(y3:bT)=>.lx JT (y3.1,y3.2.1,())) ?_;refine Ad ?_ λ_=>Ad ?_ λ_=>Bk trivial λ(y3:bT) i3=>lxY ?_<;>(try simp only[std,Nat.reduceAdd] at *)<;>(first|exact hp.2|exact hp.1|exact i3))
def VP {f:Int->Bool}:∀ n:Nat,(∀ k:Nat,k<n->f k=true)->cntW f n=0
 | 0,_=>rfl
 | n+1,h=>by rw[cntW,VP n λk hk=>h k O,h n O];rfl
def AcY {R:HO->M_} {n:P_} {p:A_} (hn:nR R n) (hs:SR R p) (hm:MR R p):wro n p=0:=by
 have e:∀ t a,resp n t a=R a:=λt a=>(H2 hn t a true).2
 unfold wro;rw[VP,VP]
 .rfl
 .intro k hk;have h:=hm _ (Ae hk);unfold modu usedR;rw[G_ ⟨O,O⟩,e,show modRequest p k=⟨5,(p.bi.getD k default).to,p.addr.host,⟨#[]⟩⟩ by unfold modRequest;rw[G_ ⟨O,O⟩];rfl];rw[show((k:Nat):Int).toNat=k from rfl];split
  .rfl
  .rename_i hd;have h2:=h.1 (by simpa using hd);unfold mP mR at h2;split at h2
   .rename_i hc;rw[F_ (by rw[hc];decide),h2];simp
   .rename_i hc;rw[G_ hc,h2];rfl
 .intro k hk;have h:=hs _ (Ae hk);unfold sRt at h;unfold slotRi usedR;rw[G_ ⟨O,O⟩,e,show slotRequest p k=reqO p (p.bf.getD k default) by unfold slotRequest;rw[G_ ⟨O,O⟩];rfl];rw[show((k:Nat):Int).toNat=k from rfl];split
  .rfl
  .rename_i hd;rw[G_ (by simpa using hd)] at h;split at h
   .rename_i hc;rw[F_ (by rw[hc];decide)];show(decide (_=checkResponse p.bm _ (R (p.bf.getD k default).to))&&decide (_=(usable p.bm _ (R (p.bf.getD k default).to)).1))=true;rw[h.1,h.2];simp
   .rename_i hc;rw[G_ hc,h.1,h.2];rfl
def SW {ho:ByteArray} (hh:ho.size<=2097152):∀ (k:Nat) {G:Nat} {n:P_} {p:A_},okL (G+k) (pl n p)->okL G (pl (fet ho k n p).1 (fet ho k n p).2)
 | 0,G,n,p,h=>h
 | k+1,G,n,p,h=>by
  rw[fet];split
  .exact Abg h O
  .exact SW hh k (AdF h hh _)
structure RGT (x y:P_×A_×Bool):Prop where
 ok:x.2.2=true
 wx:wro x.1 x.2.1=0
 wy:wro y.1 y.2.1=0
 rf:y.2.1.bf=x.2.1.bf/\y.2.1.bi=x.2.1.bi
 rn:(so x.2.1.ran).length=x.2.1.ran.length
 ux:okU x.1 x.2.1/\x.2.1.ran.length<=900000000000
 uy:okU y.1 y.2.1
 sl:x.2.1.bf.length<=20/\x.2.1.bi.length<=9
def AbB {n:P_} (h:GN n) {a:HO} (ha:stA a) (hl:n.log.length<=2) (q1:szNet n<=1048576) (q2:szAddr a<=1048576) (cs ch:List Int):RGT (loa n a cs ch) (loadP n a):=by
 have h1:=AfM h ha hl cs ch;have h2:=Acm h ha hl;have s:=Afz h1.ep h2.ep;have u1:=Aa4 (Amt (O3 (PP cs q1 q2) O) ch).1;have f:=Hi h ha;have hk:(newP a (fetchNo n a.host a false).2).2=true:=by rw[f.1,f.2.2]
 have p4:=(IE q1 q2 hk).2.2.2;have hd:a.host.size<=szAddr a:=bN _ _;have u2:=Aa4 (SW (ho:=a.host) O 200 (G:=999) p4);have hn:=Alb h1.ep rfl;have r1:=h1.st.si.ri;have r2:=h2.st.si.ri;have w1:=AcY h1.st.si.nt r1.sr r1.mr;have w2:=AcY h2.st.si.nt r2.sr r2.mr;rw[(Tp ha).1] at u2;rw[h1.eq,h2.eq];exact⟨rfl,w1,w2,⟨s.1,s.2.1⟩,(Lq _).2 hn,⟨u1.1,aP u1.2.2 O⟩,u2.1,r1.pi.sl,TB r1.mi⟩
def Xw {f:Int->Bool} {k v:Int} {L:Nat} (h0:0<=k) (hk:k<L) (hL:L<=900000000000) (v0:0<=v) (v1:v<=900000000000) {x:Int} (hx:x=if f k=true then v+cntW f k.toNat else IntKind.i64.wrap (v+cntW f k.toNat+1)):0<=IntKind.i64.wrap (k+1)/\IntKind.i64.wrap (k+1)<=L/\x=v+cntW f (IntKind.i64.wrap (k+1)).toNat/\L-(IntKind.i64.wrap (k+1)).toNat<L-k.toNat:=by
 have h1:=Iu f h0;have h2:=CS f k.toNat;rw[FS (n:=k+1) O O];refine⟨O,O,?_,O⟩;rw[hx,h1];split
 .omega
 .rw[FS O O];omega
def AjW (n:P_) (p:A_):slotRi n p p.bf.length=false/\modu n p (-1)=false:=by
 unfold slotRi modu;rw[F_ O,F_ O];exact⟨rfl,rfl⟩
def lBytesR:Fct:=AlN [.sl .u8]
abbrev CL (b:(List Int)):LInv:=⟨[⟨.s,15,true,.el .int⟩,⟨.s,16,true,.el .int⟩,⟨.b,13,true,.el .net⟩,⟨.b,14,true,.el .page⟩],λ(z x:af)=>x.2.2.1=z.2.2.1/\x.2.2.2.1=z.2.2.2.1/\0<=x.2.1/\x.2.1<=x.2.2.2.1.bf.length/\x.1=cntW (slotRi x.2.2.1 x.2.2.2.1) x.2.1.toNat,λ(x:af)=>x.2.2.2.1.bf.length-x.2.1.toNat⟩
abbrev CK (b:(List Int)):LInv:=⟨[⟨.s,15,true,.el .int⟩,⟨.s,17,true,.el .int⟩,⟨.b,13,true,.el .net⟩,⟨.b,14,true,.el .page⟩],λ(z x:af)=>x.2.2.1=z.2.2.1/\x.2.2.2.1=z.2.2.2.1/\0<=x.2.1/\x.2.1<=x.2.2.2.1.bi.length/\x.1=z.1+cntW (modu x.2.2.1 x.2.2.2.1) x.2.1.toNat,λ(x:af)=>x.2.2.2.1.bi.length-x.2.1.toNat⟩
theorem k3_269:lBytesR.ok Tryz.prog 3:=Fct.p (KP [0,2,3,4,5,6,7,8,9,10,11,13,14,15,16,17] [19,67,77,84,91,98]) (λ⟨b,_⟩=>λ|11=>some (CL b)|16=>some (CK b)|_=>none) Aoy.2 func3 (by
 rintro⟨(b:List Int),_⟩ hp;refine ho (let J_:Out:=.leaf (mkR lBytesR.rs (false,())) [] [];.cl AmI (b,()) λz2=>.br (z2.1) (.leaf (mkR lBytesR.rs (true,())) [] []) (.ob (IX.pre (b,()))<|.lp di (True) (IX.is (b,())) λy3=>.cl Nf (y3.1,y3.2.1,y3.2.2.1,y3.2.2.2.1,()) λz3=>let L_:=Value.bool z3.2.2.1;let H_:Out:=.ob (JT.pre (b,()))<|.lp bT (True) (JT.is (b,())) λy17=>lpx (CL b) ((0:Int),((0:Int),(y17.1,(y17.2.1,())))) λ(y18:af) bk18=>let O_:=Value.int IntKind.i64 y18.2.1;.br (decide (y18.2.1<(y18.2.2.2.1.bf.length:Int))) (.cl Ce (y18.2.2.1,y18.2.2.2.1,y18.2.1,()) λz10=>.br (!z10.1) (.re (b)<|.re L_<|.bk (bk18 (w1 y18.1,(w1 y18.2.1,(y18.2.2.1,(y18.2.2.2.1,())))))) (.re (b)<|.re L_<|.bk (bk18 (y18.1,(w1 y18.2.1,(y18.2.2.1,(y18.2.2.2.1,()))))))) (lpx (CK b) (y18.1,((0:Int),(y18.2.2.1,(y18.2.2.2.1,())))) λ(y24:af) bk24=>.br (decide (y24.2.1<(y24.2.2.2.1.bi.length:Int))) (.cl Bt (y24.2.2.1,y24.2.2.2.1,y24.2.1,()) λz11=>.br (!z11.1) (.re O_<|.re (b)<|.re L_<|.bk (bk24 (w1 y24.1,(w1 y24.2.1,(y24.2.2.1,(y24.2.2.2.1,())))))) (.re O_<|.re (b)<|.re L_<|.bk (bk24 (y24.1,(w1 y24.2.1,(y24.2.2.1,(y24.2.2.2.1,()))))))) (.cl Fc (y24.2.2.1,y24.2.2.2.1,()) λ(z12:D_)=>.br (z12.1==y24.1) (.cl Hf (y24.2.2.1,y24.2.2.2.1,()) λz13=>.br (z13.1==(y24.1==0)) (.cl Fc (y24.2.2.1,y24.2.2.2.1,()) λ(z14:D_)=>.br (y24.1==z14.1) (.cl Gv (y24.2.2.2.1,()) λz15=>.cl Gv (y24.2.2.2.1,()) λz16=>.br (z15.1==z16.1) (.cl Ce (y24.2.2.1,y24.2.2.2.1,(y24.2.2.2.1.bf.length:Int),()) λz17=>.br (!z17.1) (.cl Bt (y24.2.2.1,y24.2.2.2.1,(-1:Int),()) λz18=>.leaf (mkR lBytesR.rs (!z18.1,())) [] []) J_) J_) J_) J_) J_));.cl LB (y3.1,y3.2.1,()) λz4=>.br (z3.2.2.1) (.cl Hf (z3.1,z3.2.1,()) λz5=>.br (!z5.1) J_ (.cl Hf (z4.1,z4.2.1,()) λz6=>.br (!z6.1) J_ (.cl Gz (z3.2.1,()) λ(z7:D_)=>.cl Gz (z4.2.1,()) λ(z8:D_)=>.br (z7.1 != z8.1) J_ (.cl Gv (z3.2.1,()) λz9=>.br (!z9.1) J_ H_)))) H_)) ?_;refine Ai trivial λ_=>(Z (λh1=>Fct.leafY ?_) λh1=>Ad ?_ λo2=>HT trivial λy3 i3=>Ai ?_ λo4=>Ai ?_ λo5=>Z (λh6=>Ai ?_ λo7=>Z (λh8=>Fct.leafY ?_) λh8=>Ai ?_ λo9=>Z (λh10=>Fct.leafY ?_) λh10=>Ai ?_ λo11=>Ai ?_ λo12=>Z (λh13=>Fct.leafY ?_) λh13=>Ai ?_ λo14=>Z (λh15=>Fct.leafY ?_) λh15=>Ad ?_ λo16=>HT trivial λy17 i17=>Ay ?_ λ(y18:af) i18=>Z (λh19=>Ai ?_ λ_=>Z (λh21=>Al<|Al<|AR ?_) λh21=>Al<|Al<|AR ?_) λh19=>Ay ?_ λ(y24:af) i24=>Z (λh25=>Ai ?_ λ_=>Z (λh27=>Al<|Al<|Al<|AR ?_) λh27=>Al<|Al<|Al<|AR ?_) λh25=>Ai ?_ λ_=>Z (λh31=>Ai ?_ λ_=>Z (λh33=>Ai ?_ λ_=>Z (λh35=>Ai ?_ λ_=>Ai ?_ λ_=>Z (λh38=>Ai ?_ λ_=>Z (λh40=>Ai ?_ λ_=>Fct.leafY ?_) λh40=>Fct.leafY ?_) λh38=>Fct.leafY ?_) λh35=>Fct.leafY ?_) λh33=>Fct.leafY ?_) λh31=>Fct.leafY ?_) λh6=>Ad ?_ λ_=>HT trivial λy43 i43=>Ay ?_ λ(y44:af) i44=>Z (λh45=>Ai ?_ λ_=>Z (λh47=>Al<|Al<|AR ?_) λh47=>Al<|Al<|AR ?_) λh45=>Ay ?_ λ(y50:af) i50=>Z (λh51=>Ai ?_ λ_=>Z (λh53=>Al<|Al<|Al<|AR ?_) λh53=>Al<|Al<|Al<|AR ?_) λh51=>Ai ?_ λ_=>Z (λh57=>Ai ?_ λ_=>Z (λh59=>Ai ?_ λ_=>Z (λh61=>Ai ?_ λ_=>Ai ?_ λ_=>Z (λh64=>Ai ?_ λ_=>Z (λh66=>Ai ?_ λ_=>Fct.leafY ?_) λh66=>Fct.leafY ?_) λh64=>Fct.leafY ?_) λh61=>Fct.leafY ?_) λh59=>Fct.leafY ?_) λh57=>Fct.leafY ?_)<;>(try simp only[lBytesR,std,Nat.reduceAdd,szF,toF,eqF,mkF,heF] at *)<;>have hb:=Ai4 hp.1<;>(first|rfl|exact⟨O,hb⟩|skip)<;>obtain⟨g1,g2,g3,g4,g5,g6,g7,g8⟩:=i3<;>have gz:=WL g1<;>obtain⟨ok,wx,wy,⟨rs,rm⟩,rn,⟨ux,ul⟩,uy,sx,mx⟩:=AbB g3 g6 g4 O O y3.2.2.1 y3.2.2.2.1<;>(first|exact⟨O,O⟩|exact⟨O,O,O,O⟩|(rw[ok] at h6;exact absurd h6 (by decide))|exact ux|exact uy|exact ul|(rw[rs,rm];exact⟨O,O⟩)|skip)<;>(first|exact absurd wx ‹_›|exact absurd wy ‹_›|exact absurd rn ‹_›|(simp only[rs,rm] at *;contradiction)|exact⟨O,hb⟩|skip)<;>(clear ok wx wy rs rm rn ux ul uy sx mx gz g1 g2 g3 g4 g5 g6 g7 g8 hb;clear h8 h10 h13 h15 h6;have m1:=Ac AD y17.2.1.bf)<;>obtain⟨hU,hr⟩:=i17<;>have hV:=hU<;>obtain⟨_,_,s3,_,s5⟩:=hV<;>(first|exact⟨O,O,rfl⟩|skip)<;>obtain⟨w18,k18,m18,u18,t18⟩:=y18<;>dsimp only at *<;>obtain⟨z1,z2,z3,z4,z5⟩:=i18<;>subst z1 z2<;>have e1:=CS (slotRi y17.1 y17.2.1) k18.toNat<;>(first|exact⟨hU,O,O⟩|(have c:=Xw (f:=slotRi y17.1 y17.2.1) (v:=0) (x:=IntKind.i64.wrap (w18+1)) z3 h19 O O O (by rw[F_ (by rw[h21];decide),z5,Int.zero_add]);exact⟨⟨rfl,rfl,c.1,c.2.1,by rw[c.2.2.1,Int.zero_add]⟩,c.2.2.2⟩)|(have c:=Xw (f:=slotRi y17.1 y17.2.1) (v:=0) (x:=w18) z3 h19 O O O (by rw[G_ h21,z5,Int.zero_add]);exact⟨⟨rfl,rfl,c.1,c.2.1,by rw[c.2.2.1,Int.zero_add]⟩,c.2.2.2⟩)|exact⟨O,O,(Int.add_zero _).symm⟩|skip)<;>obtain⟨w24,k24,m24,u24,t24⟩:=y24<;>dsimp only at *<;>obtain⟨r1,r2,r3,r4,r5⟩:=i24<;>subst r1 r2<;>have e2:=CS (modu y17.1 y17.2.1) k24.toNat<;>(first|exact⟨hU,O,O⟩|(have c:=Xw (f:=modu y17.1 y17.2.1) (v:=w18) (x:=IntKind.i64.wrap (w24+1)) r3 h25 O O O (by rw[F_ (by rw[h27];decide),r5]);exact⟨⟨rfl,rfl,c.1,c.2.1,c.2.2.1⟩,c.2.2.2⟩)|(have c:=Xw (f:=modu y17.1 y17.2.1) (v:=w18) (x:=w24) r3 h25 O O O (by rw[G_ h27,r5]);exact⟨⟨rfl,rfl,c.1,c.2.1,c.2.2.1⟩,c.2.2.2⟩)|exact hU|exact hr|skip)<;>(have ew:wro y17.1 y17.2.1=w24:=by unfold wro;rw[r5,z5,show k18.toNat=y17.2.1.bf.length from O,show k24.toNat=y17.2.1.bi.length from O])<;>(have el:=AjW y17.1 y17.2.1;clear o2 o4 o5 o7 o9 o11 o12 o14 o16 e1 e2 s3 s5 z5 r5)<;>(first|rfl|exact absurd ew ‹_›|exact absurd ew.symm ‹_›|(rw[el.1] at h40;exact absurd h40 (by decide))|exact absurd (by rw[ew];rfl) h33|skip))
def Aqn:=Aoy.a lBytesR k3_269
section
open Go.ChangeShapes Go.WideShapes Go.ChangeAt Go.RowKit
theorem rowFacts:Ajx Tryz.prog Tryz.f3 tyOf [3,4,5,9,27,30,32,38,40,44,49,70,75,85,88,90,118,151,154,160,165,174,215,246,253,271,274,293] [.sl .u8]=true:=by kernel_rfl
end
end Go.Proofs.YtfklkhgmgglloaaGreatDoor.fnRightUses
