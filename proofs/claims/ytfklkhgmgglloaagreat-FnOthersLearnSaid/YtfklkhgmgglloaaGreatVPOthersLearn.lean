/-
  The law FnOthersLearn returns true for all codes, whatever is drawn from them. No condition.
-/
import Derived.Test.YtfklkhgmgglloaaGreatVPOthersLearn4
namespace Go.Proofs.YtfklkhgmgglloaaGreat.fnOthersLearn
open Go.Proofs.YtfklkhgmgglloaaGreat
open Go.D Go.Proofs.Tryz
set_option maxRecDepth 100000
set_option maxHeartbeats 2000000
set_option linter.defProp false
set_option linter.unusedVariables false
set_option linter.unusedSimpArgs false
def ansd (L:FS->Prop) (p:HO):Prop:=(∀ s,s∈p.bf->s.done=true->okSl p s->L s.to)/\∀ m,m∈p.bi->m.done=true->okMd p m.to->L m.to
def AjR (p:HO) (m:Int) (to dg:ByteArray) (n:Int) (h:(newSlot p m to dg n).done=true):¬ okSl p (newSlot p m to dg n):=by
 have:=Aau (λ_=>notFound) p m to dg n;intro hc;unfold newSlot at h;split at h
 ·exact absurd (show false=true from h) (by decide)
 ·rename_i h2;apply h2;have hc:checkRequest p.bm (reqOf p (rawSlot p m to dg n))=1:=by unfold okSl newSlot at hc;rw[F_ h2] at hc;exact hc
  refine⟨?_,hc⟩;unfold sRt newSlot at this;rw[F_ h2,G_ (by rfl)] at this;have hc2:checkRequest p.bm (reqOf p (⟨m,(parseAddr to p.addr.host).1,dg,n,true,2,⟨#[]⟩⟩:aw))=1:=hc;rw[G_ hc2] at this;have h3:=this.1;cases hp:(parseAddr to p.addr.host).2 with
  | true=>rfl
  | false=>
   exfalso;have e:(parseAddr to p.addr.host).1=default:=by
    unfold parseAddr at hp ⊢;split at hp
    ·exact absurd (show true=false from hp) (by decide)
    ·rename_i h2;rw[F_ h2]
   unfold checkRequest isRequest reqOf rawSlot at hc;rw[e] at hc;have:isName (default:FS).host=false:=by decide +kernel
   simp only[this,Bool.false_and,Bool.and_false,cD,aP] at hc;exact absurd hc (by decide)
def Aal {L:FS->Prop} {p:HO} (h:ansd L p):ansd L (step1 p).1:=by
 obtain⟨h0,h1,hs⟩:=Nf p;obtain⟨_,_,hm⟩:=MZ p;have es:∀ s,okSl (step1 p).1 s↔okSl p s:=λs=>by unfold okSl reqOf;rw[h0,h1]
 have em:∀ a,okMd (step1 p).1 a↔okMd p a:=λa=>by unfold okMd;rw[h0,h1]
 constructor
 ·intro s hq hd hk;rw[es] at hk;rcases hs with hs|⟨m,to,dg,n,hs⟩
  ·rw[hs] at hq;exact h.1 s hq hd hk
  ·rw[hs] at hq;rcases ae.1 hq with hq|hq
   ·exact h.1 s hq hd hk
   ·rw[List.mem_singleton.1 hq] at hd hk;exact absurd hk (AjR p m to dg n hd)
 ·intro m hq hd hk;rw[em] at hk;rcases hm with hm|⟨a,hm,_⟩
  ·rw[hm.1] at hq;exact h.2 m hq hd hk
  ·rw[hm] at hq;rcases Ew hq with hq|hq
   ·exact h.2 m hq hd hk
   ·rw[hq] at hd;unfold newMod at hd hq;split at hd
    ·exact absurd (show false=true from hd) (by decide)
    ·rename_i hn;rw[F_ hn] at hq;rw[hq] at hk;exact absurd hk hn
def TC {L:FS->Prop}:∀ (n:Nat) {p:HO},ansd L p->ansd L (adv n p)
 | 0,p,h=>h
 | n+1,p,h=>by
  rw[adv];split
  ·exact TC n (Aal h)
  ·exact h
def Aes {p:HO} {a:FS} (h:wntd p a):wntd (step1 p).1 a:=by
 obtain⟨h0,h1,hs⟩:=Nf p;have hg:=Pn p;rcases h with⟨s,q1,q2,q3⟩|⟨q1,q2⟩
 ·refine .inl ⟨s,?_,q2,?_⟩
  ·obtain⟨ss,e⟩:=hg.sl;rw[e];exact List.mem_append_left _ q1
  ·unfold okSl reqOf at *;rw[h0,h1];exact q3
 ·refine .inr ⟨Ag9 hg q1,?_⟩;unfold okMd at *;rw[h0,h1];exact q2
def AaK:∀ (n:Nat) {p:HO} {a:FS},wntd p a->wntd (adv n p) a
 | 0,p,a,h=>h
 | n+1,p,a,h=>by
  rw[adv];split
  ·exact AaK n (Aes h)
  ·exact h
def J1 (p:HO) (a:FS) (x:L_) (s:aw):reqOf p (fillF p a x s)=reqOf p s/\(fillF p a x s).to=s.to:=by
 unfold fillF fillS;split
 ·split<;>exact⟨rfl,rfl⟩
 ·exact⟨rfl,rfl⟩
def Oc (p:HO) (a:FS) (x:L_):(fillModule p a x).bf=p.bf/\(fillModule p a x).bm=p.bm/\(fillModule p a x).addr=p.addr:=by
 unfold fillModule;split
 ·exact⟨rfl,rfl,rfl⟩
 ·have hf:∀ (l:List FS) (y:HO),(l.foldl askModule y).bf=y.bf/\(l.foldl askModule y).bm=y.bm/\(l.foldl askModule y).addr=y.addr:=by
   intro l
   induction l with
   | nil=>intro y;exact⟨rfl,rfl,rfl⟩
   | cons b l ih=>intro y;rw[dD];have:=ih (askModule y b);rw[LC] at this ⊢;exact this
  exact hf _ _
def Rq {p:HO} {b:FS} (h:wntd p b) (a:FS) (x:L_):wntd (takeAnswer p a x) b:=by
 refine AaK 2000 ?_;have hs:=Oc (fillAll p a x) a x;rcases h with⟨s,q1,q2,q3⟩|⟨q1,q2⟩
 ·refine .inl ⟨fillF p a x s,by rw[hs.1];exact List.mem_map_of_mem q1,(J1 p a x s).2.trans q2,?_⟩;unfold okSl at *
  have e:reqOf (fillModule (fillAll p a x) a x) (fillF p a x s)=reqOf p (fillF p a x s):=by unfold reqOf;rw[hs.2.2];rfl
  rw[hs.2.1,e,(J1 p a x s).1];exact q3
 ·refine .inr ⟨Vu (p:=fillAll p a x) a x q1,?_⟩;unfold okMd at *;rw[hs.2.1,hs.2.2];exact q2
def OX {L:FS->Prop} {p:HO} (h:ansd L p) {a:FS} (ha:L a) (x:L_):ansd L (takeAnswer p a x):=by
 refine TC 2000 ?_;have hs:=Oc (fillAll p a x) a x;constructor
 ·intro s hq hd hk;rw[hs.1] at hq;obtain⟨t,ht,rfl⟩:=bG.1 (show s∈p.bf.map (fillF p a x) from hq);by_cases e:t.to=a
  ·rw[(J1 p a x t).2,e];exact ha
  ·rw[(CS p a x t).2.2.1 e] at hd hk ⊢;refine h.1 t ht hd ?_;unfold okSl reqOf at *;rw[hs.2.1,hs.2.2] at hk;exact hk
 ·have hmm:∀ (q:HO),ansd L q->∀ m,m∈(fillModule q a x).bi->m.done=true->okMd q m.to->L m.to:=λq hq=>by
   unfold fillModule;split
   ·exact hq.2
   ·rename_i h1;simp only[not_or,Int.not_lt] at h1;obtain⟨l,m,r,e1,e2,e3,e4⟩:=FF x h1.1;have hf:∀ (k:List FS) (y:HO),y.bm=q.bm->y.addr=q.addr->(∀ m,m∈y.bi->m.done=true->okMd q m.to->L m.to)->∀ m,m∈(k.foldl askModule y).bi->m.done=true->okMd q m.to->L m.to:=by
     intro k
     induction k with
     | nil=>intro y _ _ hy;exact hy
     | cons b k ih=>
      intro y y1 y2 hy;rw[dD];refine ih _ (by rw[LC];exact y1) (by rw[LC];exact y2) ?_;rw[LC];intro m hm hd hk;rcases Ew hm with hm|hm
      ·exact hy m hm hd hk
      ·rw[hm] at hd;unfold newMod at hd hm;split at hd
       ·exact absurd (show false=true from hd) (by decide)
       ·rename_i hn;rw[F_ hn] at hm;rw[hm] at hk;unfold okMd at hk;rw[y1,y2] at hn;exact absurd hk hn
    refine hf _ _ rfl rfl ?_;intro y hy hd hk;rw[e4] at hy;simp only[ae,ah] at hy;rcases hy with hy|hy|hy
    ·exact hq.2 y (by rw[e1];simp[hy]) hd hk
    ·have:y.to=a:=by rw[hy];exact e2
     rw[this];exact ha
    ·exact hq.2 y (by rw[e1];simp[hy]) hd hk
  have h1:ansd L (fillAll p a x):=by
   constructor
   ·intro s hq hd hk;obtain⟨t,ht,rfl⟩:=bG.1 (show s∈p.bf.map (fillF p a x) from hq);by_cases e:t.to=a
    ·rw[(J1 p a x t).2,e];exact ha
    ·rw[(CS p a x t).2.2.1 e] at hd hk ⊢;exact h.1 t ht hd hk
   ·exact h.2
  intro m hm hd hk;refine hmm _ h1 m hm hd ?_;unfold okMd at *;rw[hs.2.1,hs.2.2] at hk;exact hk
def Lg (n0 n:N_) (a:FS):Prop:=ck n0 a\/∃ s,s∈n.log.drop n0.log.length/\s.to=a
structure NG (n0 n:N_) (W:bE->Prop) (k:Nat):Prop where
 nw:n.now=n0.now
 pf:∃ r,n.log=n0.log++r/\r.length<=k/\∀ s,s∈r->¬ ck n0 s.to/\W s
 cm:∀ a,ck n0 a->ck n a
 cl:∀ a,ck n a->Lg n0 n a
def Hx {n0 n:N_} {W V:bE->Prop} {k j:Nat} (h:NG n0 n W k) (h1:∀ s,W s->V s) (h2:k<=j):NG n0 n V j:=by
 obtain⟨r,e1,e2,e3⟩:=h.pf;exact⟨h.nw,⟨r,e1,o_,λs hs=>⟨(e3 s hs).1,h1 s (e3 s hs).2⟩⟩,h.cm,h.cl⟩
def Akp {n0 n m:N_} {a:FS} (h:Lg n0 n a) (e:∃ r,m.log=n.log++r) (hl:n0.log.length<=n.log.length):Lg n0 m a:=by
 rcases h with h|⟨s,hs,e2⟩
 ·exact .inl h
 ·obtain⟨r,e⟩:=e;refine .inr ⟨s,?_,e2⟩;rw[e,List.drop_append_of_le_length hl];exact List.mem_append_left _ hs
def ZS {n0 n:N_} {W:bE->Prop} {k:Nat} (h:NG n0 n W k):n0.log.length<=n.log.length/\n.log.length<=n0.log.length+k:=by
 obtain⟨r,e1,e2,_⟩:=h.pf;rw[e1,ak];omega
def keep_NG {n0 n:N_} {W:bE->Prop} {k:Nat} (h:NG n0 n W k) {a:FS} (ha:Lg n0 n a) (x:L_):NG n0 (keepAnswer n hom a x) W k/\∀ b,Lg n0 n b->Lg n0 (keepAnswer n hom a x) b:=by
 have hk:=keep_now n hom a x;have hL:∀ b,Lg n0 n b->Lg n0 (keepAnswer n hom a x) b:=λb hb=>by unfold Lg at *;rw[hk.2];exact hb
 refine⟨⟨hk.1.trans h.nw,by rw[hk.2];exact h.pf,λb hb=>(keep_ck n a b x).2 (h.cm b hb),λb hb=>?_⟩,hL⟩;rcases(keep_ck n a b x).1 hb with hb|hb
 ·exact hL b (h.cl b hb)
 ·rw[hb];exact hL a ha
def Qb {n0 n:N_} {W:bE->Prop} {k:Nat} (h:NG n0 n W k) {a:FS} (hA:isA a=true) (hk:n0.log.length+k<400) {g:Bool} (hW:W ⟨hom,a,g⟩):NG n0 (fetchNow n hom a g).1 W (k+1)/\Lg n0 (fetchNow n hom a g).1 a/\∀ b,Lg n0 n b->Lg n0 (fetchNow n hom a g).1 b:=by
 unfold fetchNow;rw[F_ (show ¬ (isName a.host&&isName a.path)=false by rw[show(isName a.host&&isName a.path)=true from hA];decide)];split
 ·rename_i hl;have hc:=(AbP n a).1 hl;exact⟨Hx h (λ_ q=>q) o_,h.cl a hc,λ_ q=>q⟩
 ·rename_i hl;have hc:¬ ck n a:=λq=>hl ((AbP n a).2 q)
  have hlen:=ZS h;have hlog:(logSent n hom a g).log=n.log++[⟨hom,a,g⟩]:=by unfold logSent;rw[G_ o_]
  have hnow:(logSent n hom a g).now=n.now/\(logSent n hom a g).cache=n.cache:=by unfold logSent;split<;>exact⟨rfl,rfl⟩
  have hck:∀ b,ck (logSent n hom a g) b↔ck n b:=λb=>by unfold ck;rw[hnow.1,hnow.2]
  have hL:∀ b,Lg n0 n b->Lg n0 (logSent n hom a g) b:=λb hb=>Akp hb ⟨_,hlog⟩ hlen.1
  have hla:Lg n0 (logSent n hom a g) a:=by refine .inr ⟨⟨hom,a,g⟩,?_,rfl⟩;rw[hlog,List.drop_append_of_le_length hlen.1];simp
  obtain⟨r,e1,e2,e3⟩:=h.pf;have hN:NG n0 (logSent n hom a g) W (k+1):=by
   refine⟨hnow.1.trans h.nw,⟨r++[⟨hom,a,g⟩],by rw[hlog,e1,bF],by rw[ak];simp;omega,λs hs=>?_⟩,λb hb=>(hck b).2 (h.cm b hb),λb hb=>hL b (h.cl b ((hck b).1 hb))⟩;rcases ae.1 hs with hs|hs
   ·exact e3 s hs
   ·rw[List.mem_singleton.1 hs];exact⟨λq=>hc (h.cm a q),hW⟩
  show NG n0 (if g=true then logSent n hom a g else keepAnswer (logSent n hom a g) hom a (answerTo n.servers a)) W (k+1)/\Lg n0 (if g=true then logSent n hom a g else keepAnswer (logSent n hom a g) hom a (answerTo n.servers a)) a/\∀ b,Lg n0 n b->Lg n0 (if g=true then logSent n hom a g else keepAnswer (logSent n hom a g) hom a (answerTo n.servers a)) b;split
  ·exact⟨hN,hla,hL⟩
  ·have hq:=keep_NG hN hla (answerTo n.servers a);exact⟨hq.1,hq.2 a hla,λb hb=>hq.2 b (hL b hb)⟩
def Wf (a0:FS) (p:HO) (s:bE):Prop:=(s.guess=true->s.to.host=s.top)/\(s.to=a0\/s.to.host=hom/\s.guess=true\/wntd p s.to)
def Ue {a0:FS} {p q:HO} (h:∀ a,wntd p a->wntd q a) {s:bE} (hs:Wf a0 p s):Wf a0 q s:=⟨hs.1,hs.2.imp id (Or.imp id (h _))⟩
def kG (l:O_):Nat:=1+l.conns.length+2*dnP l.page+(unU l.guesses).toNat
structure GI (n0:N_) (a0:FS) (l:O_):Prop where
 ng:NG n0 l.net (Wf a0 l.page) (kG l)
 cn:∀ c,c∈l.conns->Lg n0 l.net c.to
 gs:∀ g,g∈l.guesses->Lg n0 l.net g.to
 an:ansd (Lg n0 l.net) l.page
 a0:Lg n0 l.net a0
def kG_le {l:O_} (hl:LI l):kG l<=68:=by
 have h1:=Ahp hl.pi hl.mi;have h2:=hl.u6;have h3:=hl.l3;unfold kG;omega
def M6 {L M:FS->Prop} {p:HO} (h:ansd L p) (hm:∀ a,L a->M a):ansd M p:=⟨λs a b c=>hm _ (h.1 s a b c),λm a b c=>hm _ (h.2 m a b c)⟩
def Ur {po:aQ} {r:ay} (h:checkRequest po r=1):isA r.to=true:=by
 unfold checkRequest at h;split at h
 ·rename_i h1;simp only[S_] at h1;have:=h1.1;unfold isRequest at this;simp only[S_] at this;have h2:=this.1.1.2;unfold isA;simp only[S_];exact h2
 ·exact absurd h (by decide)
def AcF {R:FS->L_} {p:HO} (h:RI R p) {a:FS} (hn:need p a):isA a=true/\wntd p a:=by
 rcases hn with⟨s,h1,h2,h3⟩|⟨m,h1,h2,h3⟩
 ·have:=h.sr s h1;unfold sRt at this;rw[F_ (by rw[h2];decide)] at this;have hA:=Ur this;unfold reqOf at hA;rw[<-h3];exact⟨hA,.inl ⟨s,h1,rfl,this⟩⟩
 ·have:=(h.mr m h1).2 h2;rw[<-h3];exact⟨Ur this,.inr ⟨List.mem_map_of_mem h1,this⟩⟩
section
variable {R:FS->L_} {Q:List X_} {C0:HO} {n0:N_} {a0:FS} (h400:n0.log.length<=300)
include h400
def Abl {l:O_} (hl:LI l) (h:GI n0 a0 l) {a:FS} (hA:isA a=true) {g:Bool} (hW:Wf a0 l.page ⟨hom,a,g⟩) (hc:(openConn l.conns a (fetchNow l.net hom a g).2 g).1=l.conns++[⟨a,sizeResponse (fetchNow l.net hom a g).2,g,(fetchNow l.net hom a g).2⟩]):GI n0 a0 { l with net:=(fetchNow l.net hom a g).1,conns:=(openConn l.conns a (fetchNow l.net hom a g).2 g).1 }:=by
 have hk:=kG_le hl;have hf:=Qb h.ng hA (g:=g) o_ hW;refine⟨Hx hf.1 (λ_ q=>q) ?_,λc hm=>?_,λy hy=>hf.2.2 _ (h.gs y hy),M6 h.an hf.2.2,hf.2.2 _ h.a0⟩
 ·unfold kG;show _<=1+(openConn l.conns a (fetchNow l.net hom a g).2 g).1.length+2*dnP l.page+(unU l.guesses).toNat;rw[hc,ak];simp;omega
 ·rw[hc] at hm;rcases ae.1 hm with hm|hm
  ·exact hf.2.2 _ (h.cn c hm)
  ·rw[List.mem_singleton.1 hm];exact hf.2.1
omit h400 in
def Nl {l:O_} (hl:LI l) (h:GI n0 a0 l) {a:FS} {x:L_} (hx:rOk x) (hn:need l.page a) (ha:Lg n0 l.net a) {n:N_} (hng:NG n0 n (Wf a0 l.page) (kG l)) (hL:∀ b,Lg n0 l.net b->Lg n0 n b) {gs:List aZ} (hg:∀ g,g∈gs->∃ y,y∈l.guesses/\g.to=y.to) (hu:unU l.guesses<=unU gs+1) {cs:List ao} (hc:∀ c,c∈cs->c∈l.conns) (hcl:l.conns.length<=cs.length+1) (hcu:unU l.guesses+l.conns.length<=unU gs+cs.length+1):GI n0 a0 { l with net:=n,guesses:=gs,conns:=cs,page:=takeAnswer l.page a x }:=by
 have t6:=(FH (a:=a) hl.pi hl.mi hx (by have:=hl.bg;omega)).2.2.2.2.2.1 hn;have hge:=WG gs;have hge2:=WG l.guesses;refine⟨Hx hng (λs hs=>Ue (λb hb=>Rq hb a x) hs) ?_,λc hm=>hL _ (h.cn c (hc c hm)),λg hm=>?_,OX (M6 h.an hL) (hL a ha) x,hL _ h.a0⟩
 ·unfold kG;show 1+l.conns.length+2*dnP l.page+(unU l.guesses).toNat<=1+cs.length+2*dnP (takeAnswer l.page a x)+(unU gs).toNat;omega
 ·obtain⟨y,y1,y2⟩:=hg g hm;rw[y2];exact hL _ (h.gs y y1)
def AkY {l:O_} (hl:LI l) (hs:SI R Q C0 l) (h:GI n0 a0 l):GI n0 a0 (requestNext l).1:=by
 unfold requestNext;split
 ·exact h
 ·rename_i h0;obtain⟨s1,s2⟩:=Oo (l:=l) o_;have hw:=AcF hs.ri s1;rw[hl.mi.ho];split
  ·rename_i h3;have hf:0<=findGuess l.guesses (reqTo l):=by
    unfold useGuess at h3;split at h3
    ·exact absurd (show false=true from h3) (by decide)
    ·omega
   have hi:=J0 hf;have eu:useGuess l.guesses (reqTo l)=(l.guesses.modify (findGuess l.guesses (reqTo l)).toNat λg=>{ g with used:=true },(l.guesses.getD (findGuess l.guesses (reqTo l)).toNat default).bd,true):=by unfold useGuess;rw[F_ o_]
   rw[eu];have hx:=hl.gr _ (Ae hi.1);have hu:=AbR hi.1;have hla:Lg n0 l.net (reqTo l):=by have:=h.gs _ (Ae hi.1);rw[hi.2] at this;exact this
   have hk:=keep_NG h.ng hla (l.guesses.getD (findGuess l.guesses (reqTo l)).toNat default).bd;exact Nl hl h hx s1 hla hk.1 hk.2 (λg hg=>by
    rcases JS hi.1 hg with hg|hg
    ·exact⟨g,hg,rfl⟩
    ·exact⟨l.guesses.getD (findGuess l.guesses (reqTo l)).toNat default,Ae hi.1,by rw[hg]⟩) hu.2 (λc hc=>hc) o_ (by have:=hu.2;omega)
  ·split
   ·exact h
   ·rename_i h4;exact Abl h400 hl h hw.1 ⟨λe=>absurd (show false=true from e) (by decide),.inr (.inr hw.2)⟩ (Px o_ s2 _ _)
def W2 {l:O_} (hl:LI l) (h:GI n0 a0 l) (h3:l.conns.length<3):∀ m:List FS,(∀ a,a∈m->isA a=true/\a.host=hom)->GI n0 a0 (nextGuess l m).1
 | [],_=>h
 | a::m,hm=>by
  rw[nextGuess];split
  ·exact W2 hl h h3 m λb hb=>hm b (by simp[hb])
  ·rename_i h4;simp only[not_or,Int.not_le] at h4;have ha:=hm a (by simp);rw[hl.mi.ho];exact Abl h400 hl h ha.1 ⟨λ_=>ha.2,.inr (.inl ⟨ha.2,rfl⟩)⟩ (Px h3 (Hq o_ h4.2) _ _)
omit h400 in
def NP {b:ByteArray}:∀ {l:List af} {r:ay},r∈scanTokens b l->r.from_=b
 | t::l,r,h=>by
  rw[scanTokens] at h;split at h
  ·rename_i h1;rcases ah.1 h with h|h
   ·rw[h];unfold scanToken at h1 ⊢;split at h1
    ·rename_i h2;rw[G_ h2]
    ·exact absurd (show false=true from h1) (by decide)
   ·exact NP h
  ·exact NP h
omit h400 in
def Xz {p:HO} (hh:p.addr.host=hom):∀ a,a∈guessesOf p->isA a=true/\a.host=hom:=by
 have key:∀ (l:List ay) (out:List FS),(∀ r,r∈l->r.from_=hom)->(∀ a,a∈out->isA a=true/\a.host=hom)->∀ a,a∈guessL p l out->isA a=true/\a.host=hom:=by
  intro l
  induction l with
  | nil=>intro out _ h2 a ha;exact h2 a ha
  | cons r l ih=>
   intro out h1 h2 a ha;rw[guessL] at ha;split at ha
   ·rename_i hg;refine ih _ (λr hr=>h1 r (by simp[hr])) (λb hb=>?_) a ha;rcases ae.1 hb with hb|hb
    ·exact h2 b hb
    ·rw[List.mem_singleton.1 hb];unfold guessOk canGuess at hg;simp only[S_,av] at hg;exact⟨Ur hg.2.1,by rw[hg.1.2.2];exact h1 r (by simp)⟩
   ·exact ih _ (λr hr=>h1 r (by simp[hr])) h2 a ha
 exact key _ [] (λr hr=>by rw[NP hr];exact hh) (by simp)
def Aez {l:O_} (hl:LI l) (h:GI n0 a0 l):GI n0 a0 (guessNext l).1:=by
 unfold guessNext;split
 ·exact h
 ·rename_i h4;simp only[not_or,Nat.not_le] at h4;exact W2 h400 hl h h4.1 _ (Xz hl.mi.ho)
omit h400 in
def AkQ {l:O_} (hl:LI l) (hs:SI R Q C0 l) (h:GI n0 a0 l) {k:Int} (h0:0<=k) (hk:k<l.conns.length):GI n0 a0 (finish1 l k):=by
 have hc:l.conns.getD k.toNat default∈l.conns:=Ae o_;have hcs:∀ c,c∈closeConn l.conns k->c∈l.conns:=λc hm=>by
  rw[Ia h0 hk] at hm;rcases ae.1 hm with hm|hm
  ·exact fH hm
  ·exact fC hm
 have hlen:=JI h0 hk;have hx:=(hl.cr _ hc).1;have hLc:=h.cn _ hc;have hge:=WG l.guesses;unfold finish1 finishC;split
 ·rename_i h1;have hnd:=(Hd _ _).1 h1;split
  ·have hq:=keep_NG h.ng hLc (l.conns.getD k.toNat default).bd;have:=Nl hl h hx hnd hLc hq.1 hq.2 (gs:=l.guesses) (λg hg=>⟨g,hg,rfl⟩) o_ hcs o_ o_;show GI n0 a0 { l with net:=keepAnswer l.net l.page.addr.host _ _,conns:=closeConn l.conns k,page:=takeAnswer l.page _ _ };rw[hl.mi.ho];exact this
  ·exact Nl hl h hx hnd hLc h.ng (λ_ q=>q) (cs:=closeConn l.conns k) (gs:=l.guesses) (λg hg=>⟨g,hg,rfl⟩) o_ hcs o_ o_
 ·rename_i h1;have hng:¬ need l.page (l.conns.getD k.toNat default).to:=λq=>h1 ((Hd _ _).2 q)
  have hg:(l.conns.getD k.toNat default).guess=true:=by
   cases hg:(l.conns.getD k.toNat default).guess with
   | true=>rfl
   | false=>exact absurd (hl.ng _ hc hg) hng
  rw[G_ hg];have hno:=hl.gg _ hc hg;have hf:findGuess l.guesses (l.conns.getD k.toNat default).to<0:=by
   rcases Int.lt_or_le (findGuess l.guesses (l.conns.getD k.toNat default).to) 0 with e|e
   ·exact e
   ·exact absurd (J0 e).2 (hno _ (Ae (J0 e).1))
  have hgc:1<=countGuess l.conns:=by rw[FV];exact List.countP_pos_iff.2 ⟨_,hc,hg⟩
  have hu6:=hl.u6;have ea:(addGuess l.guesses (l.conns.getD k.toNat default).to (l.conns.getD k.toNat default).bd).1=l.guesses++[⟨(l.conns.getD k.toNat default).to,(l.conns.getD k.toNat default).bd,false⟩]:=by
   unfold addGuess;have:unU l.guesses<6:=o_
   unfold unU at this;rw[F_ o_]
  show GI n0 a0 { l with conns:=closeConn l.conns k,guesses:=(addGuess l.guesses _ _).1 };rw[ea];have hu:unU (l.guesses++[⟨(l.conns.getD k.toNat default).to,(l.conns.getD k.toNat default).bd,false⟩])=unU l.guesses+1:=by rw[P5];rfl
  refine⟨Hx h.ng (λ_ q=>q) ?_,λc hm=>h.cn c (hcs c hm),λg hm=>?_,h.an,h.a0⟩
  ·unfold kG;show 1+l.conns.length+2*dnP l.page+(unU l.guesses).toNat<=1+(closeConn l.conns k).length+2*dnP l.page+(unU (l.guesses++[_])).toNat;rw[hu];omega
  ·rcases ae.1 hm with hm|hm
   ·exact h.gs g hm
   ·rw[List.mem_singleton.1 hm];exact hLc
end
section
variable {R:FS->L_} {Q:List X_} {C0:HO} {n0:N_} {a0:FS}
def AgD {l:O_} (h:GI n0 a0 l) (hd:dnP l.page<=dnP (arrivePart l).1.page):GI n0 a0 (arrivePart l).1:=by
 unfold arrivePart at *
 split
 ·exact h
 ·rename_i hp;rw[F_ hp] at hd;have hsame:∃ ts k e,arrPage l=atP l.page ts k e:=by
   unfold arrPage endPage arriveText;split
   ·split
    ·exact⟨[],l.page.tok,l.page.ended,by unfold atP;rw[cz]⟩
    ·exact⟨(feedAll (l.page.tok.rest++l.parts.getD 0 default)).1++endText (feedAll (l.page.tok.rest++l.parts.getD 0 default)).2,default,true,by unfold atP;simp only[bF]⟩
   ·split
    ·exact⟨[],l.page.tok,l.page.ended,by unfold atP;rw[cz]⟩
    ·exact⟨_,_,l.page.ended,rfl⟩
  obtain⟨ts,k,e,ea⟩:=hsame;have hw:∀ a,wntd l.page a->wntd (advance (arrPage l)) a:=λa ha=>AaK 2000 (by rw[ea];exact ha)
  refine⟨Hx h.ng (λs hs=>Ue hw hs) ?_,h.cn,h.gs,TC 2000 (by rw[ea];exact h.an),h.a0⟩;unfold kG;show 1+l.conns.length+2*dnP l.page+(unU l.guesses).toNat<=1+l.conns.length+2*dnP (advance (arrPage l))+(unU l.guesses).toNat;have:dnP l.page<=dnP (advance (arrPage l)):=hd;omega
def AgN (l:O_):dnP l.page<=dnP (arrivePart l).1.page:=by
 unfold arrivePart;split
 ·exact Y_ _
 ·have hg:=AhD (Ry 2000 (arrPage l));have e:dnP (arrPage l)=dnP l.page:=by
   unfold arrPage endPage arriveText
   (repeat' split)<;>rfl
  show dnP l.page<=dnP (adv 2000 (arrPage l));omega
def AcA:∀ (n:Nat) {l:O_},(∀ a,rOk (R a))->LI l->SI R Q C0 l->GI n0 a0 l->GI n0 a0 (xfer n l)
 | 0,l,_,_,_,h=>h
 | n+1,l,hR,hl,hs,h=>by
  rw[xfer];split
  ·exact h
  ·have h2:=CI l.conns 0 o_;have h3:0<=firstDone l.conns 0:=o_
   have h4:firstDone l.conns 0<l.conns.length:=o_
   exact AcA n hR (ZO hl h3 h4).1 (AgY hR hl hs h3 h4) (AkQ hl hs h h3 h4)
def AjZ (hR:∀ a,rOk (R a)) {l:O_} (hl:LI l) (hs:SI R Q C0 l) (h:GI n0 a0 l) {b:Int} (hb:20<=b/\b<=1000):GI n0 a0 (transfer l b).1:=by
 unfold transfer;split
 ·exact h
 ·have hmem:∀ c,c∈moveConns l.conns b->∃ d,d∈l.conns/\c.to=d.to/\c.bd=d.bd:=λc hc=>by
   unfold moveConns at hc;split at hc
   ·obtain⟨d,hd,rfl⟩:=bG.1 hc;exact⟨d,hd,rfl,rfl⟩
   ·exact⟨c,hc,rfl,rfl⟩
  have hlen:(moveConns l.conns b).length=l.conns.length:=by
   unfold moveConns;split
   ·rw[cC]
   ·rfl
  refine AcA _ hR (P4 hl hb).1 (RV hs hs.nt hs.gs λc hc=>?_) ⟨?_,λc hc=>?_,h.gs,h.an,h.a0⟩
  ·obtain⟨d,d1,d2,d3⟩:=hmem c hc;rw[d2,d3];exact hs.cn d d1
  ·refine Hx h.ng (λ_ q=>q) ?_;unfold kG;show 1+l.conns.length+2*dnP l.page+(unU l.guesses).toNat<=1+(moveConns l.conns b).length+2*dnP l.page+(unU l.guesses).toNat;rw[hlen];exact Y_ _
  ·obtain⟨d,d1,d2,_⟩:=hmem c hc;rw[d2];exact h.cn d d1
variable (hR:∀ a,rOk (R a)) (h400:n0.log.length<=300)
include hR h400
def Akn {l:O_} (hl:LI l) (hs:SI R Q C0 l) (h:GI n0 a0 l) (n:Int):GI n0 a0 (actOf l n).1:=by
 unfold actOf;split
 ·exact AgD h (AgN l)
 ·split
  ·exact AkY h400 hl hs h
  ·split
   ·exact Aez h400 hl h
   ·split
    ·exact AjZ hR hl hs h o_
    ·exact AjZ hR hl hs h o_
def QC {l:O_} (hl:LI l) (hs:SI R Q C0 l) (h:GI n0 a0 l) (c:Int):∀ n:Nat,GI n0 a0 (stepR l c n).1
 | 0=>h
 | n+1=>by
  rw[stepR];split
  ·exact Akn hR h400 hl hs h _
  ·exact QC hl hs h c n
def Acs:∀ (cs:List Int) {l:O_},LI l->SI R Q C0 l->GI n0 a0 l->GI n0 a0 (cs.foldl stepTo l)
 | [],l,_,_,h=>h
 | c::cs,l,hl,hs,h=>by rw[dD];exact Acs cs (K3 hl c).1 (Q7 hR hl hs c) (QC hR h400 hl hs h c 5)
def AcJ:∀ (n:Nat) {l:O_},LI l->SI R Q C0 l->GI n0 a0 l->GI n0 a0 (runB n l)
 | 0,l,_,_,h=>h
 | n+1,l,hl,hs,h=>by
  rw[runB];split
  ·exact h
  ·split
   ·exact AcJ n (K3 hl 0).1 (Q7 hR hl hs 0) (QC hR h400 hl hs h 0 5)
   ·exact h
def Ak5 {l:O_} (hl:LI l) (hs:SI R Q C0 l) (h:GI n0 a0 l) (cs:List Int):GI n0 a0 (runLoad l cs):=AcJ hR h400 1000 (Pp (cs.take 100) hl).1 (UI hR _ hl hs) (Acs hR h400 _ hl hs h)
def Wz:∀ (k:Nat) (n:N_) (p:HO),LI (pl n p)->SI R Q C0 (pl n p)->GI n0 a0 (pl n p)->GI n0 a0 (pl (fetchN hom k n p).1 (fetchN hom k n p).2)
 | 0,n,p,_,_,h=>h
 | k+1,n,p,hl,hs,h=>by
  rw[fetchN];split
  ·exact h
  ·rename_i h1;have hn:=OG h1;have hw:=AcF hs.ri hn;have hk:=kG_le hl;have hf:=Qb h.ng (g:=false) hw.1 o_ ⟨λe=>absurd (show false=true from e) (by decide),.inr (.inr hw.2)⟩;have hfr:=Jn (n:=n) hs.nt hom ((nextNeeds p).getD 0 default).to false;have hfo:=FD (n:=n) hl.nt hom ((nextNeeds p).getD 0 default).to false;have e:(pl n p).page=p:=rfl;have h2:=JO hl (a:=((nextNeeds p).getD 0 default).to) (x:=R ((nextNeeds p).getD 0 default).to) (n:=(fetchNow n hom ((nextNeeds p).getD 0 default).to false).1) (gs:=[]) (hR _) hfo.1 hn (by show _∉([]:List ao).map _;simp) (by simp) (Int.le_refl _) (show unU []<=unU []+1 from o_);have h3:=HN hR hl hs ((nextNeeds p).getD 0 default).to (n:=(fetchNow n hom ((nextNeeds p).getD 0 default).to false).1) hfr.1 (gs:=[]) (by simp) (cs:=[]) (by simp);have t6:=(FH (a:=((nextNeeds p).getD 0 default).to) (x:=R ((nextNeeds p).getD 0 default).to) hl.pi hl.mi (hR _) (by have:=hl.bg;omega)).2.2.2.2.2.1 hn;rw[hfr.2];refine Wz k _ _ h2.1 h3 ⟨Hx hf.1 (λs q=>Ue (λb hb=>Rq hb _ _) q) ?_,λc hc=>absurd (show c∈[] from hc) (by simp),λc hc=>absurd (show c∈[] from hc) (by simp),OX (M6 h.an hf.2.2) hf.2.1 _,hf.2.2 _ h.a0⟩;unfold kG;show 1+0+2*dnP p+(unU []).toNat+1<=1+0+2*dnP (takeAnswer p ((nextNeeds p).getD 0 default).to (R ((nextNeeds p).getD 0 default).to))+(unU []).toNat;have:dnP p<dnP (takeAnswer p ((nextNeeds p).getD 0 default).to (R ((nextNeeds p).getD 0 default).to)):=t6;omega
end
def AkA {R:FS->L_} {Q:List X_} {C0:HO} {n0:N_} {a0:FS} {l:O_} (h:GI n0 a0 l) (he:EP R Q C0 l.page) {a:FS} (hw:wntd l.page a):Lg n0 l.net a:=by
 rcases hw with⟨s,h1,h2,h3⟩|⟨h1,h3⟩
 ·rw[<-h2];exact h.an.1 s h1 (he.sd s h1) h3
 ·obtain⟨m,hm,e⟩:=bG.1 h1;rw[<-e] at h3 ⊢;exact h.an.2 m hm (he.md m hm) h3
def Agw {n0:N_} {a0:FS} {l:O_} (h:GI n0 a0 l):∀ s,s∈l.net.log.drop n0.log.length->¬ ck n0 s.to/\Wf a0 l.page s:=by
 obtain⟨r,e1,_,e3⟩:=h.ng.pf;intro s hs;rw[e1,List.drop_append_of_le_length (Y_ _),List.drop_length] at hs;exact e3 s (by simpa using hs)
def Ajs {p q:HO} (h1:q.bf=p.bf) (h2:q.bi=p.bi) (h3:q.bm=p.bm) (h4:q.addr=p.addr) (a:FS):wntd q a↔wntd p a:=by
 unfold wntd okSl okMd hasM reqOf;rw[h1,h2,h3,h4]
def K2 {R:FS->L_} {Q:List X_} {C0:HO} {n0:N_} {a0:FS} {l m:O_} (hl:GI n0 a0 l) (hm:GI n0 a0 m) (el:EP R Q C0 l.page) (em:EP R Q C0 m.page) {s:bE} (hs:s∈l.net.log.drop n0.log.length) (hg:s.to.host≠hom\/s.guess=false):∃ t,t∈m.net.log.drop n0.log.length/\t.to=s.to:=by
 have h1:=Agw hl s hs;have hsame:=Ad6 em el;have hL:Lg n0 m.net s.to:=by
  rcases h1.2.2 with h2|h2|h2
  ·rw[h2];exact hm.a0
  ·rcases hg with hg|hg
   ·exact absurd h2.1 hg
   ·rw[hg] at h2;exact absurd h2.2 (by decide)
  ·exact AkA hm em ((Ajs hsame.1 hsame.2.1 hsame.2.2.2.1 hsame.2.2.2.2 _).1 h2)
 rcases hL with hL|hL
 ·exact absurd hL h1.1
 ·exact hL
abbrev NZ:Xct:=⟨[.u,.v (.sl .str)],[.el .str],λ(x:dq)=>0<x.2.1.length/\x.2.1.length<=256,λ(x:dq) (y:D_)=>y.1∈x.2.1⟩
def Anx:=Amz.X NZ<|Xct.o [0,1,4] Amz.2 func49 (by
 rintro⟨(c:PUnit),(l:List ByteArray),_⟩ hp;refine ho (.dr Bc ((),(↑(List.length l):Int),()) λ(y1:E_)=>.ob (0<=y1.1/\y1.1<(↑(List.length l):Int))<|.lx NZ (List.getD l y1.1.toNat default,())) ?_;refine Bn trivial λ(y1:E_) i1=>Ac ?_ λ_=>lxY ?_<;>(try simp only[AA] at *)<;>(try simp only[std,Nat.reduceAdd] at *)<;>(first|trivial|omega|skip)<;>(refine Ae ?_;omega))
def tx8B (s:ByteArray):Bool:=hB (toL s)&&(!(toL s).contains 60&&hdB (λy=>y != 105&&y != 59) (toL s))
def tx8 (s:ByteArray):Prop:=gdT s/\hdB (λy=>y != 105&&y != 59) (toL s)=true
def AkE {s:ByteArray} (h:tx8B s=true):tx8 s:=by
 unfold tx8B at h;simp only[S_,cM,List.contains_eq_mem,cy] at h;exact⟨⟨h.1,h.2.1⟩,h.2.2⟩
def Acp {l:List ByteArray} (h:l.all (λs=>tx8B s&&decide (s.size<=23))=true) {y:ByteArray} (hy:y∈l):tx8 y/\y.size<=23:=by
 have:=aH.1 h y hy;simp only[S_,av] at this;exact⟨AkE this.1,this.2⟩
def AiZ {a b:ByteArray} (h:tx8 a) (h2:tx8 b):tx8 (a++⟨#[59]⟩++b):=by
 refine⟨S7 (S7 h.1 ⟨by decide,by decide⟩) h2.1,?_⟩;rw[Au,Au];exact Qo (Qo h.2)
def tx8e (s:ByteArray):Prop:=s=⟨#[]⟩\/tx8 s
def Zb {s:ByteArray} (h:tx8e s):gdT s:=by
 rcases h with h|h
 ·rw[h];exact Hr
 ·exact h.1
def Aiq (x:ByteArray):(⟨#[]⟩:ByteArray)++x=x:=by rw[<-AH (_++x),Au];simp[toL,ofL]
abbrev PY:Xct:=⟨[.u,.v (.el .int)],[.el .str],λ(x:az)=>1<=x.2.1/\x.2.1<=100,λ(x:az) (y:D_)=>tx8e y.1/\y.1.size<=24*x.2.1⟩
abbrev DZ (c:Unit) (most:Int):LInv:=⟨[⟨.s,5,true,.el .str⟩,⟨.s,6,true,.el .int⟩],λ_ (x:aa)=>0<=x.2.1/\x.2.1<=most/\x.1.size+24*x.2.1<=24*most/\tx8e x.1,λ(x:aa)=>x.2.1.toNat⟩
def AmP:=Anx.X PY<|Xct.p (KP [0,1,4,5,6] [12,16]) (λ⟨c,most,_⟩=>lv [(3,DZ c most)]) Anx.2 func84 (by
 rintro⟨(c:PUnit),(most:Int),_⟩ hp;refine ho (let bS:=Value.int IntKind.i64 most;let bH:=(⟨#[97,100,100,32,98]⟩:ByteArray);let aW:=(⟨#[97,100,100,32,112]⟩:ByteArray);let aJ:=(⟨#[59]⟩:ByteArray);let cg:=(⟨#[108,111,111,107,32,98]⟩:ByteArray);let bK:=(⟨#[115,97,121,32,104,105]⟩:ByteArray);let aK:=(⟨#[108,111,111,107,32,112]⟩:ByteArray);let ax:=(⟨#[99,111,117,110,116,32,112]⟩:ByteArray);let ar:=(⟨#[119,114,105,116,101,32,91,98,93]⟩:ByteArray);let Z_:=(⟨#[]⟩:ByteArray);let R_:=(⟨#[99,111,117,110,116,32,115,99,114,105,112,116]⟩:ByteArray);let M_:=(⟨#[119,114,105,116,101,32,91,112,93,120,91,47,112,93]⟩:ByteArray);let J_:=(⟨#[119,114,105,116,101,32,91,105,109,103,32,115,114,99,61,108,111,103,111,93]⟩:ByteArray);let H_:=(⟨#[119,114,105,116,101,32,91,108,105,110,107,32,104,114,101,102,61,115,116,121,108,101,93]⟩:ByteArray);.dr Bc ((),most,()) λ(y1:E_)=>lpx (DZ c most) (Z_,(wr ((1:Int)+y1.1),())) λ(y2:aa) bk2=>.br (decide (y2.2.1>0)) (.br (!y2.1.toList==Z_.toList) (.ob (sameSize y2.1 aJ)<|.dr NZ ((),[bK,ax,R_,aK,cg,bH,aW,M_,J_,H_,ar],()) λ(y7:D_)=>.ob (sameSize (y2.1++aJ) y7.1)<|.re bS<|.re (Value.string Z_)<|.bk (bk2 (y2.1++aJ++y7.1,(wr (y2.2.1-(1:Int)),())))) (.dr NZ ((),[bK,ax,R_,aK,cg,bH,aW,M_,J_,H_,ar],()) λ(y11:D_)=>.ob (sameSize y2.1 y11.1)<|.re bS<|.re (Value.string Z_)<|.bk (bk2 (y2.1++y11.1,(wr (y2.2.1-(1:Int)),()))))) (.lx PY (y2.1,()))) ?_;refine Bn trivial λ(y1:E_) i1=>Aq ?_ λ(y2:aa) i2=>Aa (λh3=>Aa (λh4=>Ac ?_ λ_=>BA ?_ λo6 (y7:D_) i7=>Ac ?_ λ_=>An<|An<|AR ?_) λh4=>BA ?_ λo10 (y11:D_) i11=>Ac ?_ λ_=>An<|An<|AR ?_) (λh3=>lxY ?_)<;>(try simp only[AA] at *)<;>(try simp only[std,Nat.reduceAdd,sameSize,aN] at *)<;>(try simp(disch:=omega) only[A_,C_] at *)<;>(first|omega|exact⟨o_,o_,by show(0:Int)+_<=_;omega,.inl rfl⟩|exact⟨by decide,by decide⟩|skip)<;>obtain⟨a1,a2,a3,a4⟩:=i2<;>(first|exact⟨a4,o_⟩|(have m:=Acp (by decide +kernel) i7)|(have m:=Acp (by decide +kernel) i11)|skip)<;>(first|omega|skip)<;>(first|exact⟨⟨o_,o_,o_,.inr (AiZ (a4.resolve_left h4) m.1)⟩,o_⟩|exact⟨⟨o_,o_,o_,.inr (by rw[h4,Aiq];exact m.1)⟩,o_⟩|skip))
def AkC {w:ByteArray} (h:hasImp w):∃ l,toL w=105::l:=by
 have e:toL (w.extract 0 7)=toL impW:=cB toL h.2;rw[Az,fI] at e;cases hw:toL w with
 | nil=>rw[hw] at e;exact absurd e (by decide)
 | cons x l=>
  rw[hw] at e;have e2:x=105:=by have:=cB List.head? e;simpa [impW,toL] using this
  exact⟨l,by rw[e2]⟩
def Ai4 {s h:ByteArray} (hn:∀ w r,spl 59 s=w::r->¬ hasImp w):(parseModule s h).1=[]:=by
 unfold parseModule;cases hs:spl 59 s with
 | nil=>rfl
 | cons w r=>
  rw[pmGo,F_ (hn w r hs)];split<;>rfl
def Ah9 {s:ByteArray} (h:tx8e s) (b:ByteArray):(parseModule s b).1=[]:=by
 refine Ai4 λw r hw hi=>?_
 obtain⟨l,hl⟩:=AkC hi;rw[FG] at hw;rcases h with h|h
 ·subst h;have:Ge 59 (toL ⟨#[]⟩)=none:=rfl;rw[this] at hw;simp only[List.cons.injEq] at hw;rw[<-hw.1] at hl;exact absurd hl (by simp[toL])
 ·have hd:=h.2;cases hc:Ge 59 (toL s) with
  | none=>
   rw[hc] at hw;simp only[List.cons.injEq] at hw;rw[hw.1,hl] at hd;exact absurd hd (by simp[hdB])
  | some q=>
   obtain⟨p,q⟩:=q;rw[hc] at hw;simp only[List.cons.injEq] at hw;obtain⟨e,_⟩:=L9 hc;rw[<-hw.1,BC] at hl;rw[e,hl] at hd;exact absurd hd (by simp[hdB])
def impB (y:ByteArray):Bool:=H3.all λh=>((parseModule y h).1).all λb=>decide (b∈A9)
def Aif {la lb:List ByteArray} (h:(la.all λa=>lb.all λb=>impB (a++b)&&decide (a.size+b.size<=400))=true) {a b:ByteArray} (ha:a∈la) (hb:b∈lb):impB (a++b)=true/\a.size+b.size<=400:=by
 have:=aH.1 (aH.1 h a ha) b hb;simp only[S_,av] at this;exact this
abbrev Hf:Xct:=⟨[.u,.v (.el .int)],[.el .str],λ(x:az)=>True,λ(x:az) (y:D_)=>y.1.size<=400/\(x.2.1=2->tx8e y.1)/\(x.2.1=5->impB y.1=true)⟩
def Anb:=AmP.X Hf<|Xct.o (KP [0,1,4,5] [6,10,14,23]) AmP.2 func129 (by
 rintro⟨(c:PUnit),(k:Int),_⟩ hp;refine ho (.br (k==2) (.dr PY ((),(3:Int),()) λ(y3:D_)=>.lx Hf (y3.1,())) (.br (k==3) (.dr VZ ((),()) λ(y5:D_)=>.lx Hf (y5.1,())) (.br (k==5) (.dr NZ ((),[(⟨#[]⟩:ByteArray),(⟨#[105,109,112,111,114,116,32,117,116,105,108,59]⟩:ByteArray),(⟨#[105,109,112,111,114,116,32,108,105,98,59]⟩:ByteArray),(⟨#[105,109,112,111,114,116,32,99,100,110,47,108,105,98,59]⟩:ByteArray),(⟨#[105,109,112,111,114,116,32,97,112,112,59,105,109,112,111,114,116,32,117,116,105,108,59]⟩:ByteArray)],()) λ(y8:D_)=>.dr NZ ((),[(⟨#[115,97,121,32,109]⟩:ByteArray),(⟨#[99,111,117,110,116,32,112]⟩:ByteArray),(⟨#[97,100,100,32,98]⟩:ByteArray),(⟨#[108,111,111,107,32,112]⟩:ByteArray)],()) λ(y10:D_)=>.ob (sameSize y8.1 y10.1)<|.lx Hf (y8.1++y10.1,())) (.br (k==4) (.lx Hf ((⟨#[112,105,120,101,108,115]⟩:ByteArray),())) (.dr RR ((),(8:Int),()) λ(y14:D_)=>.lx Hf (y14.1,())))))) ?_;refine Aa (λh1=>BA ?_ λo2 (y3:D_) i3=>lxY ?_) λh1=>Aa (λh4=>Bn trivial λ(y5:D_) i5=>lxY ?_) λh4=>Aa (λh6=>BA ?_ λo7 (y8:D_) i8=>BA ?_ λo9 (y10:D_) i10=>Ac ?_ λ_=>lxY ?_) λh6=>Aa (λh12=>lxY ?_) λh12=>BA ?_ λo13 (y14:D_) i14=>lxY ?_;all_goals
  try simp only[AA] at *
  try simp only[std,Nat.reduceAdd,sameSize,aN] at *
 all_goals (try have m:=Aif (by decide +kernel) i8 i10)<;>(first|omega|exact⟨by decide,by decide⟩|exact⟨o_,λ_=>i3.1,λe=>o_⟩|exact⟨m.2,λe=>absurd e h1,λ_=>m.1⟩|exact⟨o_,λe=>absurd e h1,λe=>o_⟩|exact⟨by decide,λe=>absurd e h1,λe=>absurd e h6⟩|exact⟨o_,λe=>absurd e h1,λe=>absurd e h6⟩|skip))
def Ak0 {x:L_} (h1:x.kind=2->tx8e x.body) (h2:x.kind=5->impB x.body=true) (h3:x.body.size<=400):rOk x:=by
 refine⟨λe=>Zb (h1 e),λe h hh b hb=>?_,h3⟩;rcases e with e|e
 ·rw[Ah9 (h1 e) h] at hb;simp at hb
 ·have:=aH.1 (aH.1 (h2 e) h hh) b hb;exact dZ this
abbrev Cs:Xct:=⟨[.u,.v (.el .int)],[.el .bd],λ(x:az)=>1<=x.2.1/\x.2.1<=5,λ(x:az) (y:al)=>isResponse y.1=true/\y.1.status=200/\y.1.body.size<=400/\y.1.bm.size<=200/\y.1.kind=x.2.1/\rOk y.1⟩
def Ank:=Anb.X Cs<|Xct.o (KP [0,1,4,5] [17]) Anb.2 func82 (by
 rintro⟨(c:PUnit),(k:Int),_⟩ hp;refine ho (.dr Hf ((),k,()) λ(y1:D_)=>.dr Mm ((),[(0:Int),(5:Int),(50:Int)],()) λ(y3:E_)=>.dr Fv ((),(2:Int),()) λ(y4:U_)=>.br (k==1) (.dr EW ((),()) λ(y6:aS)=>.cl AG (y6.1,()) λz2=>.lx Cs (⟨(200:Int),k,y1.1,y3.1,y4.1,z2.1⟩,())) (.lx Cs (⟨(200:Int),k,y1.1,y3.1,y4.1,(⟨#[]⟩:ByteArray)⟩,()))) ?_;refine Bn trivial λ(y1:D_) i1=>BA ?_ λo2 (y3:E_) i3=>Bn trivial λ(y4:U_) i4=>Aa (λh5=>Bn trivial λ(y6:aS) i6=>Cu ?_ λo7 z2 ez2=>lxY ?_) (λh5=>lxY ?_)<;>(try subst_vars)<;>(try have q:=Fl i6)<;>(try have q2:=BV y6.1)<;>(try have q3:=HX i6)<;>(try simp only[AA] at *)<;>(try simp only[std,Nat.reduceAdd] at *)<;>(try simp only[ah,fZ,or_false] at i3)<;>(first|omega|decide|skip)<;>(refine⟨?_,i1.1,?_,Ak0 i1.2.1 i1.2.2 i1.1⟩)<;>(first|omega|(simp only[isResponse,inRange,S_,av];first|exact⟨⟨o_,o_⟩,hp,i1.1,⟨o_,o_⟩,q3⟩|exact⟨⟨o_,o_⟩,hp,i1.1,⟨o_,o_⟩,rfl⟩)|skip))
def pcB (s:ByteArray):Bool:=hB (toL s)&&(tgB tgF (toL s)&&(decide ((toL s).count 60<=2)&&(decide (csN (toL s)<=1)&&decide (s.size<=64))))
structure pcP (s:ByteArray) (c k m:Nat):Prop where
 hb:hB (toL s)=true
 tg:tgB tgF (toL s)=true
 c6:(toL s).count 60<=c
 cs:csN (toL s)<=k
 sz:s.size<=m
def AjE {s:ByteArray} (h:pcB s=true):pcP s 2 1 64:=by
 unfold pcB at h;simp only[S_,av] at h;exact⟨h.1,h.2.1,h.2.2.1,h.2.2.2.1,h.2.2.2.2⟩
def T9:∀ {a:List UInt8} (c:List UInt8),tgB tgF a=true->csN (a++c)<=csN a+csN c
 | [],c,_=>by simp[csN]
 | x::a,c,h=>by
  simp only[tgB,S_,db,bne_iff_ne] at h;have ih:=T9 c h.2;rw[cj,csN,csN];have:(if x=60/\hdB (λy=>y==115) (a++c)=true then 1 else 0)<=(if x=60/\hdB (λy=>y==115) a=true then 1 else 0):=by
   cases a with
   | nil=>
    have hx:x≠60:=by
     rcases h.1 with h1|h1
     ·exact h1
     ·exact absurd h1 (by decide)
    rw[F_ λq=>hx q.1];exact Nat.zero_le _
   | cons y a=>exact Y_ _
  omega
def Abf {a b:ByteArray} {c k m c2 k2 m2:Nat} (h:pcP a c k m) (h2:pcP b c2 k2 m2):pcP (a++b) (c+c2) (k+k2) (m+m2):=by
 refine⟨?_,?_,?_,?_,by rw[aN];have:=h.sz;have:=h2.sz;omega⟩
 ·rw[Au];exact JY h.hb h2.hb
 ·rw[Au];exact Wn h.tg h2.tg
 ·rw[Au,List.count_append];have:=h.c6;have:=h2.c6;omega
 ·rw[Au];have:=T9 (toL b) h.tg;have:=h.cs;have:=h2.cs;omega
def Ace {a:ByteArray} {c k m c2 k2 m2:Nat} (h:pcP a c k m) (h1:c<=c2) (h2:k<=k2) (h3:m<=m2):pcP a c2 k2 m2:=⟨h.hb,h.tg,aR h.c6 h1,aR h.cs h2,aR h.sz h3⟩
def AiX {t:ByteArray} (h:gdT t) {m:Nat} (hm:t.size<=m):pcP t 0 0 m:=by
 have h0:(toL t).count 60=0:=List.count_eq_zero.2 h.2;have hc:∀ l:List UInt8,(60:UInt8)∉l->csN l=0/\tgB tgF l=true:=by
  intro l
  induction l with
  | nil=>intro _;exact⟨rfl,rfl⟩
  | cons x l ih=>
   intro hx;simp only[ah,not_or] at hx;have i:=ih hx.2;refine⟨?_,?_⟩
   ·rw[csN,F_ λq=>hx.1 q.1.symm,i.1]
   ·simp only[tgB,S_,db,bne_iff_ne];exact⟨.inl λe=>hx.1 e.symm,i.2⟩
 have:=hc (toL t) h.2;exact⟨h.1,this.2,o_,o_,hm⟩
def AjG {t:ByteArray} (h:gdT t) (hm:t.size<=48):pcP ((⟨#[60,115,99,114,105,112,116,62]⟩:ByteArray)++t++⟨#[60,47,115,99,114,105,112,116,62]⟩) 2 1 65:=by
 have a:pcP (⟨#[60,115,99,114,105,112,116,62]⟩:ByteArray) 1 1 8:=⟨by decide +kernel,by decide +kernel,by decide +kernel,by decide +kernel,by decide⟩;have b:pcP (⟨#[60,47,115,99,114,105,112,116,62]⟩:ByteArray) 1 0 9:=⟨by decide +kernel,by decide +kernel,by decide +kernel,by decide +kernel,by decide⟩;exact Abf (Abf a (AiX h hm)) b
def sfB (s:ByteArray):Bool:=hB (toL s)&&(tgB tgE (toL s)&&(decide ((toL s).count 60<=2)&&(decide (csN (toL s)=0)&&decide (s.size<=10))))
structure pgP (s:ByteArray):Prop where
 pg:pgT (toL s)
 w:wL (toL s)+362*csN (toL s)<=1900
 sz:s.size<=400
def AlX {s t:ByteArray} {m:Nat} (h:pcP s 12 5 m) (hm:m<=390) (ht:sfB t=true):pgP (s++t):=by
 unfold sfB at ht;simp only[S_,av] at ht;refine⟨⟨?_,?_⟩,?_,by rw[aN];have:=h.sz;omega⟩
 ·rw[Au];exact JY h.hb ht.1
 ·rw[Au];exact AdG h.tg ht.2.1
 ·have h1:wL (toL (s++t))<=2*(toL (s++t)).count 60+1:=by unfold wL;split<;>omega
  rw[Au] at h1 ⊢;rw[List.count_append] at h1;have h2:=T9 (toL t) h.tg;have:=h.c6;have:=h.cs;omega
def pfB (s:ByteArray):Bool:=hB (toL s)&&(tgB tgF (toL s)&&(decide ((toL s).count 60<=2)&&(decide (csN (toL s)<=0)&&decide (s.size<=20))))
def Aj4 {l:List ByteArray} (h:l.all pfB=true) {y:ByteArray} (hy:y∈l):pcP y 2 0 20:=by
 have:=aH.1 h y hy;unfold pfB at this;simp only[S_,av] at this;exact⟨this.1,this.2.1,this.2.2.1,this.2.2.2.1,this.2.2.2.2⟩
def Ake {p t:ByteArray} {l:List ByteArray} (h:(p::l).all pcB=true) (ht:gdT t) (hm:t.size<=48) {y:ByteArray} (hy:y∈p::((⟨#[60,115,99,114,105,112,116,62]⟩:ByteArray)++t++⟨#[60,47,115,99,114,105,112,116,62]⟩)::l):pcP y 2 1 65:=by
 simp only[ah] at hy;rcases hy with hy|hy|hy
 ·exact Ace (AjE (aH.1 h y (by simp[hy]))) (Y_ _) (Y_ _) o_
 ·rw[hy];exact AjG ht hm
 ·exact Ace (AjE (aH.1 h y (by simp[hy]))) (Y_ _) (Y_ _) o_
def AkL {l:List ByteArray} (h:l.all sfB=true) {y:ByteArray} (hy:y∈l):y.size<=10/\sfB y=true:=by
 have:=aH.1 h y hy;refine⟨?_,this⟩;unfold sfB at this;simp only[S_,av] at this;exact this.2.2.2.2
abbrev Q2:Xct:=⟨[.u],[.el .str],λ(x:W_)=>True,λ(x:W_) (y:D_)=>pgP y.1⟩
abbrev Db (c:Unit):LInv:=⟨[⟨.s,3,true,.el .str⟩,⟨.s,4,true,.el .int⟩],λ_ (x:aa)=>0<=x.2.1/\x.2.1<=5/\pcP x.1 (12-2*x.2.1.toNat) (5-x.2.1.toNat) (345-65*x.2.1.toNat),λ(x:aa)=>x.2.1.toNat⟩
def Anp:=Ank.X Q2<|Xct.p (KP [0,2,3,4] [11]) (λ⟨c,_⟩=>lv [(3,Db c)]) Ank.2 func43 (by
 rintro⟨(c:PUnit),_⟩ hp;refine ho (let M_:=(⟨#[60,47,115,99,114,105,112,116,62]⟩:ByteArray);let J_:=(⟨#[]⟩:ByteArray);let H_:=(⟨#[60,115,99,114,105,112,116,62]⟩:ByteArray);.dr NZ ((),[J_,(⟨#[60,112,62,104,105,60,47,112,62]⟩:ByteArray),(⟨#[60,108,105,110,107,32,104,114,101,102,61,115,116,121,108,101,62]⟩:ByteArray)],()) λ(y2:D_)=>.dr Bc ((),(6:Int),()) λ(y3:E_)=>lpx (Db c) (y2.1,(y3.1,())) λ(y4:aa) bk4=>.br (decide (y4.2.1>0)) (.dr PY ((),(2:Int),()) λ(y7:D_)=>.ob (sameSize H_ y7.1)<|.ob (sameSize (H_++y7.1) M_)<|.dr NZ ((),[(⟨#[60,115,99,114,105,112,116,32,115,114,99,61,97,112,112,62,60,47,115,99,114,105,112,116,62]⟩:ByteArray),H_++y7.1++M_,(⟨#[60,115,99,114,105,112,116,32,115,114,99,61,99,100,110,47,108,105,98,62,60,47,115,99,114,105,112,116,62]⟩:ByteArray),(⟨#[60,115,99,114,105,112,116,32,115,114,99,61,117,116,105,108,32,107,105,110,100,61,109,111,100,117,108,101,62,60,47,115,99,114,105,112,116,62]⟩:ByteArray),(⟨#[60,115,99,114,105,112,116,32,115,114,99,61,108,105,98,32,107,105,110,100,61,100,101,102,101,114,62,60,47,115,99,114,105,112,116,62]⟩:ByteArray),(⟨#[60,105,109,103,32,115,114,99,61,108,111,103,111,62]⟩:ByteArray),(⟨#[60,108,105,110,107,32,104,114,101,102,61,99,100,110,47,115,116,121,108,101,62]⟩:ByteArray),(⟨#[60,112,62,120,60,47,112,62]⟩:ByteArray),(⟨#[60,98,62]⟩:ByteArray),(⟨#[60,115,99,114,105,112,116,32,110,111,110,99,101,61,110,55,62,115,97,121,32,110,60,47,115,99,114,105,112,116,62]⟩:ByteArray),(⟨#[60,115,99,114,105,112,116,32,115,114,99,61,101,118,105,108,47,97,112,112,62,60,47,115,99,114,105,112,116,62]⟩:ByteArray),(⟨#[116,101,120,116]⟩:ByteArray)],()) λ(y11:D_)=>.ob (sameSize y4.1 y11.1)<|.re (Value.string J_)<|.bk (bk4 (y4.1++y11.1,(wr (y4.2.1-(1:Int)),())))) (.dr NZ ((),[J_,J_,(⟨#[60,112,62,101,110,100,60,47,112,62]⟩:ByteArray),(⟨#[60,112]⟩:ByteArray)],()) λ(y15:D_)=>.ob (sameSize y4.1 y15.1)<|.lx Q2 (y4.1++y15.1,()))) ?_;refine BA ?_ λo1 (y2:D_) i2=>Bn trivial λ(y3:E_) i3=>Aq ?_ λ(y4:aa) i4=>Aa (λh5=>BA ?_ λo6 (y7:D_) i7=>Ac ?_ λ_=>Ac ?_ λ_=>BA ?_ λo10 (y11:D_) i11=>Ac ?_ λ_=>An<|AR ?_) (λh5=>BA ?_ λo14 (y15:D_) i15=>Ac ?_ λ_=>lxY ?_)<;>(try simp only[AA] at *)<;>(try simp only[std,Nat.reduceAdd,sameSize,aN] at *)<;>(try simp(disch:=omega) only[A_,C_] at *)<;>(try have m2:=Aj4 (by decide +kernel) i2)<;>(try have m4:=i4.2.2.sz)<;>(try have m11:=Ake (by decide +kernel) (Zb i7.1) o_ i11)<;>(try have m11s:=m11.sz)<;>(first|omega|exact⟨by decide,by decide⟩|exact⟨o_,o_,Ace m2 o_ o_ o_⟩|skip)<;>(first|exact⟨⟨o_,o_,Ace (Abf i4.2.2 m11) o_ o_ o_⟩,o_⟩|skip)<;>have m15:=AkL (by decide +kernel) i15<;>(first|omega|exact AlX (m:=345) (Ace i4.2.2 o_ o_ o_) o_ m15.2|skip))
def P7:List ByteArray:=[⟨#[97,112,112]⟩,⟨#[108,105,98]⟩,⟨#[117,116,105,108]⟩,⟨#[115,116,121,108,101]⟩,⟨#[108,111,103,111]⟩,⟨#[105,110,100,101,120]⟩,⟨#[110,101,120,116]⟩]
def Zf (f:aD):Prop:=f.path∈P7/\isResponse f.bd=true/\rOk f.bd
def Zs (s:V_):Prop:=s.host∈H3/\(s.files.map (·.path)).Nodup/\∀ f,f∈s.files->Zf f
def Zl (l:List V_):Prop:=(l.map (·.host)).Nodup/\∀ s,s∈l->Zs s
def Zp (l:List V_) (a:FS) (x:L_) (m:List V_):Prop:=Zl l/\a.host∈H3/\a.path∈P7/\isResponse x=true/\rOk x->Zl m/\answerTo m a=x/\∀ b,b≠a->answerTo m b=answerTo l b
def hasF (l:List V_) (b:FS) (f:aD):Prop:=∃ s,s∈l/\s.host=b.host/\f∈s.files/\f.path=b.path
def Aby {α β:Type} (g:α->β):∀ {l:List α},(l.map g).Nodup->∀ {x y:α},x∈l->y∈l->g x=g y->x=y
 | z::l,h,x,y,hx,hy,e=>by
  rw[bz,List.nodup_cons] at h;rcases ah.1 hx with hx|hx
  ·rcases ah.1 hy with hy|hy
   ·rw[hx,hy]
   ·exact absurd (by rw[<-hx,e];exact List.mem_map_of_mem hy) h.1
  ·rcases ah.1 hy with hy|hy
   ·exact absurd (by rw[<-hy,<-e];exact List.mem_map_of_mem hx) h.1
   ·exact Aby g h.2 hx hy e
def QM {l:List V_} (h:Zl l) {b:FS} {f:aD} (hf:hasF l b f):answerTo l b=f.bd:=by
 obtain⟨s,h1,h2,h3,h4⟩:=hf;have i1:=(Gb (λs:V_=>decide (s.host=b.host)) l 0 o_).2 (bw.2 ⟨s,h1,bR h2⟩);have j1:=Ev (λs:V_=>decide (s.host=b.host)) l 0 o_ i1;rw[Int.sub_zero] at j1;have e1:l.getD (AQ (λs:V_=>decide (s.host=b.host)) l 0).toNat default=s:=Aby _ h.1 (Ae j1.2.1) h1 ((dZ j1.2.2).trans h2.symm);have i2:=(Gb (λf:aD=>decide (f.path=b.path)) s.files 0 o_).2 (bw.2 ⟨f,h3,bR h4⟩);have j2:=Ev (λf:aD=>decide (f.path=b.path)) s.files 0 o_ i2;rw[Int.sub_zero] at j2;have e2:s.files.getD (AQ (λf:aD=>decide (f.path=b.path)) s.files 0).toNat default=f:=Aby _ (h.2 s h1).2.1 (Ae j2.2.1) h3 ((dZ j2.2.2).trans h4.symm);unfold answerTo;rw[F_ o_,e1,F_ o_,e2]
def AgG {l:List V_} {b:FS} (hf:∀ f,¬ hasF l b f):answerTo l b=notFound:=by
 unfold answerTo;split
 ·rfl
 ·rename_i i1;have j1:=Ev (λs:V_=>decide (s.host=b.host)) l 0 o_ o_;rw[Int.sub_zero] at j1;split
  ·rfl
  ·rename_i i2;have j2:=Ev (λf:aD=>decide (f.path=b.path)) (l.getD (AQ (λs:V_=>decide (s.host=b.host)) l 0).toNat default).files 0 o_ o_;rw[Int.sub_zero] at j2;exact absurd ⟨_,Ae j1.2.1,dZ j1.2.2,Ae j2.2.1,dZ j2.2.2⟩ (hf _)
def Agp {l m:List V_} (hl:Zl l) (hm:Zl m) {b:FS} (h:∀ f,hasF m b f↔hasF l b f):answerTo m b=answerTo l b:=by
 by_cases q:∃ f,hasF l b f
 ·obtain⟨f,hf⟩:=q;rw[QM hl hf,QM hm ((h f).2 hf)]
 ·rw[AgG λf hf=>q ⟨f,hf⟩,AgG λf hf=>q ⟨f,(h f).1 hf⟩]
def Ah0 {p:ByteArray} (h:p∈P7):isName p=true:=by
 have:P7.all isName=true:=by decide +kernel
 exact aH.1 this p h
def Ai8 {p:ByteArray} (h:p∈H3):isName p=true:=by
 have:H3.all isName=true:=by decide +kernel
 exact aH.1 this p h
def AgK {s:V_} (h:Zs s):isServer s=true:=by
 have hl:s.files.length<=7:=by
  have:=LP (m:=P7) h.2.1 λp hp=>by obtain⟨f,hf,rfl⟩:=bG.1 hp;exact(h.2.2 f hf).1
  rw[cC] at this;exact this
 unfold isServer;rw[S_,S_,av];refine⟨aH.2 λi hi=>?_,Ai8 h.1,o_⟩;have hi:=eA.1 hi;have hf:=h.2.2 _ (Ae hi);unfold srvOk;rw[S_,S_];refine⟨Ah0 hf.1,hf.2.1,aH.2 λk hk=>?_⟩;have hk:=eA.1 hk;simp only[cM,cy];intro e;have hn:=h.2.1;have hki:k<s.files.length:=o_
 rw[aV,aG hki,aV,aG hi] at e;have e:s.files[k].path=s.files[i].path:=e;have:=List.pairwise_iff_getElem.1 hn k i (by rw[cC];exact hki) (by rw[cC];exact hi) hk;rw[List.getElem_map,List.getElem_map] at this;exact this e
def AaG {s:V_} (h:Zs s) {p:ByteArray} (hp:p∈P7) {x:L_} (hx:isResponse x=true/\rOk x) {fs:List aD}
 (hfs:(0<=AQ (λf:aD=>decide (f.path=p)) s.files 0/\fs=s.files.modify (AQ (λf:aD=>decide (f.path=p)) s.files 0).toNat λz=>⟨z.path,x⟩)\/(AQ (λf:aD=>decide (f.path=p)) s.files 0<0/\fs=s.files++[⟨p,x⟩])) :
 Zs ⟨s.host,fs⟩/\(⟨p,x⟩:aD)∈fs/\∀ f,f.path≠p->(f∈fs↔f∈s.files):=by
 rcases hfs with⟨h0,rfl⟩|⟨h0,rfl⟩
 ·have j:=Ev (λf:aD=>decide (f.path=p)) s.files 0 o_ h0;rw[Int.sub_zero] at j;have jp:=dZ j.2.2;have e:=BT (λz:aD=>(⟨z.path,x⟩:aD)) j.2.1;have es:s.files=s.files.take (AQ (λf:aD=>decide (f.path=p)) s.files 0).toNat++s.files.getD (AQ (λf:aD=>decide (f.path=p)) s.files 0).toNat default::s.files.drop ((AQ (λf:aD=>decide (f.path=p)) s.files 0).toNat+1):=by
   have h1:=P_ (l:=s.files) j.2.1
   calc s.files=s.files.take (_+1)++s.files.drop (_+1):=(di _ _).symm
    _=_:=by rw[h1];simp
  have hmap:(s.files.modify (AQ (λf:aD=>decide (f.path=p)) s.files 0).toNat λz=>(⟨z.path,x⟩:aD)).map (·.path)=s.files.map (·.path):=by rw[e,cB (List.map _) es];simp
  refine⟨⟨h.1,by show(List.map _ _).Nodup;rw[hmap];exact h.2.1,λf hf=>?_⟩,?_,λf hf=>?_⟩
  ·rcases JS j.2.1 hf with hf|hf
   ·exact h.2.2 f hf
   ·rw[hf];exact⟨by show(s.files.getD _ default).path∈P7;rw[jp];exact hp,hx.1,hx.2⟩
  ·rw[e];simp only[ae,ah];exact .inr (.inl (by rw[jp]))
  ·rw[e];constructor
   ·intro q;simp only[ae,ah] at q;rcases q with q|q|q
    ·exact fH q
    ·exact absurd (by rw[q];exact jp) hf
    ·exact fC q
   ·intro q;rw[es] at q;simp only[ae,ah] at q ⊢;rcases q with q|q|q
    ·exact .inl q
    ·exact absurd (by rw[q];exact jp) hf
    ·exact .inr (.inr q)
 ·have hno:∀ f,f∈s.files->f.path≠p:=λf hf e=>by have:=(Gb (λf:aD=>decide (f.path=p)) s.files 0 o_).2 (bw.2 ⟨f,hf,bR e⟩);omega
  refine⟨⟨h.1,?_,λf hf=>?_⟩,by simp,λf hf=>?_⟩
  ·show(List.map _ (s.files++[_])).Nodup;rw[fG,List.nodup_append];refine⟨h.2.1,by simp,λy hy z hz=>?_⟩;obtain⟨f,hf,rfl⟩:=bG.1 hy;rw[List.map_singleton,List.mem_singleton] at hz;rw[hz];exact hno f hf
  ·rcases ae.1 hf with hf|hf
   ·exact h.2.2 f hf
   ·rw[List.mem_singleton.1 hf];exact⟨hp,hx.1,hx.2⟩
  ·simp only[ae,List.mem_singleton];exact⟨λq=>q.resolve_right λe=>hf (by rw[e]),.inl⟩
def AgL {l:List V_} (h:Zl l):l.length<=3:=by
 have:=LP (m:=H3) h.1 λp hp=>by obtain⟨s,hs,rfl⟩:=bG.1 hp;exact(h.2 s hs).1
 rw[cC] at this;exact this
def AjS {l A B:List V_} {s:V_} (hl:Zl l) (e:l=A++s::B) {a:FS} (hs:s.host=a.host) {x:L_} {fs:List aD} (hz:Zs ⟨s.host,fs⟩) (hm:(⟨a.path,x⟩:aD)∈fs) (ho:∀ f,f.path≠a.path->(f∈fs↔f∈s.files)):Zl (A++⟨s.host,fs⟩::B)/\answerTo (A++⟨s.host,fs⟩::B) a=x/\∀ b,b≠a->answerTo (A++⟨s.host,fs⟩::B) b=answerTo l b:=by
 have hZ:Zl (A++⟨s.host,fs⟩::B):=by
  refine⟨?_,λv hv=>?_⟩
  ·have:=hl.1;rw[e] at this;simpa using this
  ·simp only[ae,ah] at hv;rcases hv with hv|hv|hv
   ·exact hl.2 v (by rw[e];simp[hv])
   ·rw[hv];exact hz
   ·exact hl.2 v (by rw[e];simp[hv])
 refine⟨hZ,QM hZ ⟨⟨s.host,fs⟩,by simp,hs,hm,rfl⟩,λb hb=>Agp hl hZ λf=>?_⟩;constructor
 ·rintro⟨v,v1,v2,v3,v4⟩;simp only[ae,ah] at v1;rcases v1 with v1|v1|v1
  ·exact⟨v,by rw[e];simp[v1],v2,v3,v4⟩
  ·rw[v1] at v2 v3;have hp:f.path≠a.path:=λq=>hb (by have h1:b.host=a.host:=v2.symm.trans hs;have h2:b.path=a.path:=v4.symm.trans q;cases a;cases b;simp only at h1 h2;rw[h1,h2])
   exact⟨s,by rw[e];simp,v2,(ho f hp).1 v3,v4⟩
  ·exact⟨v,by rw[e];simp[v1],v2,v3,v4⟩
 ·rintro⟨v,v1,v2,v3,v4⟩;rw[e] at v1;simp only[ae,ah] at v1;rcases v1 with v1|v1|v1
  ·exact⟨v,by simp[v1],v2,v3,v4⟩
  ·rw[v1] at v2 v3;have hp:f.path≠a.path:=λq=>hb (by have h1:b.host=a.host:=v2.symm.trans hs;have h2:b.path=a.path:=v4.symm.trans q;cases a;cases b;simp only at h1 h2;rw[h1,h2])
   exact⟨⟨s.host,fs⟩,by simp,v2,(ho f hp).2 v3,v4⟩
  ·exact⟨v,by simp[v1],v2,v3,v4⟩
def Aj7 {l:List V_} {h:ByteArray} (h0:0<=AQ (λs:V_=>decide (s.host=h)) l 0) (fs:List aD):∃ A s B,l=A++s::B/\l.getD (AQ (λs:V_=>decide (s.host=h)) l 0).toNat default=s/\s.host=h/\(l.modify (AQ (λs:V_=>decide (s.host=h)) l 0).toNat λz=>⟨z.host,fs⟩)=A++⟨s.host,fs⟩::B/\(A++(⟨s.host,fs⟩:V_)::B).getD (AQ (λs:V_=>decide (s.host=h)) l 0).toNat default=⟨s.host,fs⟩:=by
 have j:=Ev (λs:V_=>decide (s.host=h)) l 0 o_ h0;rw[Int.sub_zero] at j;refine⟨l.take (AQ (λs:V_=>decide (s.host=h)) l 0).toNat,_,l.drop ((AQ (λs:V_=>decide (s.host=h)) l 0).toNat+1),?_,rfl,dZ j.2.2,BT _ j.2.1,?_⟩
 ·have h1:=P_ (l:=l) j.2.1
  calc l=l.take (_+1)++l.drop (_+1):=(di _ _).symm
   _=_:=by rw[h1];simp
 ·have hlen:(l.take (AQ (λs:V_=>decide (s.host=h)) l 0).toNat).length=(AQ (λs:V_=>decide (s.host=h)) l 0).toNat:=by rw[cX];omega
  rw[aV,cV o_,hlen,Nat.sub_self];rfl
def All {l:List V_} {a:FS} {x:L_} (hl:Zl l) (ha:a.host∈H3) (hp:a.path∈P7) (hx:isResponse x=true/\rOk x) (h3:AQ (λs:V_=>decide (s.host=a.host)) l 0<0) {M:List V_} (hM:M=(List.modify (l++[({ host:=a.host,files:=[]}:V_)]) ((l.length:Int)).toNat λz=>{ host:=z.host,files:=(List.getD (l++[({ host:=a.host,files:=[]}:V_)]) ((l.length:Int)).toNat default).files++[{ path:=a.path,bd:=x }]})):((M.length:Int)<=4/\isServer (M.getD ((l.length:Int)).toNat default)=true)/\Zl M/\answerTo M a=x/\∀ b,b≠a->answerTo M b=answerTo l b:=by
 have hno:∀ s,s∈l->s.host≠a.host:=λs hs e=>by have:=(Gb (λs:V_=>decide (s.host=a.host)) l 0 o_).2 (bw.2 ⟨s,hs,bR e⟩);omega
 have hg:(List.getD (l++[({ host:=a.host,files:=[]}:V_)]) ((l.length:Int)).toNat default)=⟨a.host,[]⟩:=by rw[ev,aV,cV (Y_ _),Nat.sub_self];rfl
 have e:M=l++[⟨a.host,[⟨a.path,x⟩]⟩]:=by rw[hM,hg,ev,I4];rfl
 have hz:Zs ⟨a.host,[⟨a.path,x⟩]⟩:=⟨ha,by simp,λf hf=>by rw[List.mem_singleton.1 hf];exact⟨hp,hx.1,hx.2⟩⟩;have hZ:Zl M:=by
  rw[e];refine⟨?_,λs hs=>?_⟩
  ·rw[fG,List.nodup_append];refine⟨hl.1,by simp,λy hy z hz=>?_⟩;obtain⟨s,hs,rfl⟩:=bG.1 hy;rw[List.map_singleton,List.mem_singleton] at hz;rw[hz];exact hno s hs
  ·rcases ae.1 hs with hs|hs
   ·exact hl.2 s hs
   ·rw[List.mem_singleton.1 hs];exact hz
 have hlen:=AgL hZ;refine⟨⟨o_,?_⟩,hZ,?_,λb hb=>Agp hl hZ λf=>?_⟩
 ·have:M.getD ((l.length:Int)).toNat default=⟨a.host,[⟨a.path,x⟩]⟩:=by rw[e,ev,aV,cV (Y_ _),Nat.sub_self];rfl
  rw[this];exact AgK hz
 ·exact QM (f:=⟨a.path,x⟩) hZ ⟨⟨a.host,[⟨a.path,x⟩]⟩,by rw[e];simp,rfl,by simp,rfl⟩
 ·rw[e];constructor
  ·rintro⟨v,v1,v2,v3,v4⟩;rcases ae.1 v1 with v1|v1
   ·exact⟨v,v1,v2,v3,v4⟩
   ·rw[List.mem_singleton.1 v1] at v2 v3;rw[List.mem_singleton.1 v3] at v4;exact absurd (by have h1:b.host=a.host:=v2.symm;have h2:b.path=a.path:=v4.symm;cases a;cases b;simp only at h1 h2;rw[h1,h2]) hb
  ·rintro⟨v,v1,v2,v3,v4⟩;exact⟨v,List.mem_append_left _ v1,v2,v3,v4⟩
def AkV {l:List V_} {a:FS} {x:L_} (hl:Zl l) (hp:a.path∈P7) (hx:isResponse x=true/\rOk x) (h3:0<=AQ (λs:V_=>decide (s.host=a.host)) l 0) {fs:List aD}
 (hfs:(0<=AQ (λf:aD=>decide (f.path=a.path)) (l.getD (AQ (λs:V_=>decide (s.host=a.host)) l 0).toNat default).files 0/\fs=(l.getD (AQ (λs:V_=>decide (s.host=a.host)) l 0).toNat default).files.modify (AQ (λf:aD=>decide (f.path=a.path)) (l.getD (AQ (λs:V_=>decide (s.host=a.host)) l 0).toNat default).files 0).toNat λz=>⟨z.path,x⟩)\/(AQ (λf:aD=>decide (f.path=a.path)) (l.getD (AQ (λs:V_=>decide (s.host=a.host)) l 0).toNat default).files 0<0/\fs=(l.getD (AQ (λs:V_=>decide (s.host=a.host)) l 0).toNat default).files++[⟨a.path,x⟩]))
 {M:List V_} (hM:M=l.modify (AQ (λs:V_=>decide (s.host=a.host)) l 0).toNat λz=>{ host:=z.host,files:=fs }):((M.length:Int)<=4/\isServer (M.getD (AQ (λs:V_=>decide (s.host=a.host)) l 0).toNat default)=true)/\Zl M/\answerTo M a=x/\∀ b,b≠a->answerTo M b=answerTo l b:=by
 obtain⟨A,s,B,e1,e2,e3,e4,e5⟩:=Aj7 h3 fs;rw[e2] at hfs;have hs:s∈l:=by rw[e1];simp
 have hf:=AaG (hl.2 s hs) hp hx hfs;have hq:=AjS hl e1 e3 hf.1 hf.2.1 hf.2.2;have eM:M=A++⟨s.host,fs⟩::B:=by rw[hM,e4]
 rw[eM];have:=AgL hq.1;exact⟨⟨o_,by rw[e5];exact AgK hf.1⟩,hq⟩
abbrev BJ:Xct:=⟨[.v (.sl .server),.v (.el .addr),.v (.el .bd)],[.sl .server,.el .bool],λ(x:dF)=>szL Af x.1<=100000000/\szAddr x.2.1<=1000/\Ab x.2.2.1<=10000,λ(x:dF) (y:T_)=>(szL Af y.1<=szL Af x.1+szAddr x.2.1+Ab x.2.2.1+10/\x.1.length<=y.1.length/\(isName x.2.1.host=true/\isName x.2.1.path=true/\isResponse x.2.2.1=true->0<y.1.length)/\(okF x.1->okF y.1))/\Zp x.1 x.2.1 x.2.2.1 y.1⟩
def Ame:=Anp.X BJ<|Xct.o (KP [0,4,5,6,7,8,9,10] [18,35,70]) Anp.2 func47 (by
 rintro⟨(l:List V_),(a:FS),(x:L_),_⟩ hp;refine ho (let aK:=(⟨a.host,[]⟩:V_);let ax:=List V_;let ar:=(⟨a.path,x⟩:aD);let M_:=(↑(List.length l):Int);let H_:Out:=.cl CH (l,()) λz7=>.lx BJ (z7.1,false,());.cl CH (l,()) λz2=>let J_:=z2.1++[aK];let Z_:=J_.getD M_.toNat default;.cl Gi (l,a.host,()) λ(z3:E_)=>let R_:=z2.1.getD z3.1.toNat default;.br (decide (z3.1<0)) (.ob (IJ (z2.1.length+[aK].length) 40)<|.ix M_ (J_.length)<|.cl HP (J_.getD M_.toNat default,a.path,()) λ(z4:E_)=>.br (decide (z4.1>=0)) (.ix M_ (J_.length)<|.ix z4.1 (Z_.files.length)<|.lt (List aD) (Z_.files.modify z4.1.toNat λz=>(⟨z.path,x⟩:aD)) λz5=>.lt ax (J_.modify M_.toNat λz=>(⟨z.host,z5⟩:V_)) λz6=>.br (decide ((z6.length:Int)>4)) H_ (.ix M_ z6.length<|.cl Be (z6.getD M_.toNat default,()) λz8=>.br (!z8.1) H_ (.lx BJ (z6,true,())))) (.ix M_ (J_.length)<|.ap (Z_.files.length+[ar].length) 80<|.ob ((0:Int)<=M_/\M_<(J_.length:Int))<|.re (M_.toNat)<|.lt ax (J_.modify M_.toNat λz=>(⟨z.host,Z_.files++[ar]⟩:V_)) λz10=>.br (decide ((z10.length:Int)>4)) H_ (.ix M_ z10.length<|.cl Be (z10.getD M_.toNat default,()) λz12=>.br (!z12.1) H_ (.lx BJ (z10,true,()))))) (.ix z3.1 z2.1.length<|.cl HP (z2.1.getD z3.1.toNat default,a.path,()) λ(z14:E_)=>.br (decide (z14.1>=0)) (.ix z3.1 z2.1.length<|.ix z14.1 (R_.files.length)<|.lt (List aD) (R_.files.modify z14.1.toNat λz=>(⟨z.path,x⟩:aD)) λz15=>.lt ax (z2.1.modify z3.1.toNat λz=>(⟨z.host,z15⟩:V_)) λz16=>.br (decide ((z16.length:Int)>4)) H_ (.ix z3.1 z16.length<|.cl Be (z16.getD z3.1.toNat default,()) λz18=>.br (!z18.1) H_ (.lx BJ (z16,true,())))) (.ix z3.1 z2.1.length<|.ap (R_.files.length+[ar].length) 80<|.ob (inB z3.1 z2.1.length)<|.re (z3.1.toNat)<|.lt ax (z2.1.modify z3.1.toNat λz=>(⟨z.host,R_.files++[ar]⟩:V_)) λz20=>.br (decide ((z20.length:Int)>4)) H_ (.ix z3.1 z20.length<|.cl Be (z20.getD z3.1.toNat default,()) λz22=>.br (!z22.1) H_ (.lx BJ (z20,true,())))))) ?_;refine Cu ?_ λo1 z2 ez2=>(Cu ?_ λo2 z3 ez3=>Aa (λh3=>Ac ?_ λ_=>CW ?_ λo5 o6=>Cu ?_ λo7 z4 ez4=>Aa (λh8=>CW ?_ λo9 o10=>CW ?_ λo11 o12=>YA λz5 ez5=>YA λz6 ez6=>Aa (λh13=>Cu ?_ λo14 z7 ez7=>lxY ?_) λh13=>CW ?_ λo15 o16=>Cu ?_ λo17 z8 ez8=>Aa (λh18=>Cu ?_ λo19 z9 ez9=>lxY ?_) λh18=>lxY ?_) λh8=>CW ?_ λo20 o21=>EG ?_ λ_=>Ac ?_ λ_=>An<|YA λz10 ez10=>Aa (λh24=>Cu ?_ λo25 z11 ez11=>lxY ?_) λh24=>CW ?_ λo26 o27=>Cu ?_ λo28 z12 ez12=>Aa (λh29=>Cu ?_ λo30 z13 ez13=>lxY ?_) λh29=>lxY ?_) λh3=>CW ?_ λo31 o32=>Cu ?_ λo33 z14 ez14=>Aa (λh34=>CW ?_ λo35 o36=>CW ?_ λo37 o38=>YA λz15 ez15=>YA λz16 ez16=>Aa (λh39=>Cu ?_ λo40 z17 ez17=>lxY ?_) λh39=>CW ?_ λo41 o42=>Cu ?_ λo43 z18 ez18=>Aa (λh44=>Cu ?_ λo45 z19 ez19=>lxY ?_) λh44=>lxY ?_) λh34=>CW ?_ λo46 o47=>EG ?_ λ_=>Ac ?_ λ_=>An<|YA λz20 ez20=>Aa (λh50=>Cu ?_ λo51 z21 ez21=>lxY ?_) λh50=>CW ?_ λo52 o53=>Cu ?_ λo54 z22 ez22=>Aa (λh55=>Cu ?_ λo56 z23 ez23=>lxY ?_) λh55=>lxY ?_)<;>(try subst_vars)<;>(have hs:=Tq a.host l;have ha:szAddr a=a.host.size+a.path.size:=rfl;have hl:=Ad Af l;have hx:=BP (λs:V_=>decide (s.host=a.host)) l 0 (Int.le_refl _);have hy:=BP (λf:aD=>decide (f.path=a.path)) ((l++[({ host:=a.host,files:=[]}:V_)]).getD ((l.length:Int)).toNat default).files 0 (Int.le_refl _);have hz:=BP (λf:aD=>decide (f.path=a.path)) (l.getD (AQ (λs:V_=>decide (s.host=a.host)) l 0).toNat default).files 0 (Int.le_refl _);have hf:=HA (l++[({ host:=a.host,files:=[]}:V_)]) ((l.length:Int)).toNat;have hv:=HA l (AQ (λs:V_=>decide (s.host=a.host)) l 0).toNat;try simp only[AA] at *)<;>(try simp only[std,Nat.reduceAdd] at *)<;>(try refine⟨⟨?_,?_,λe=>?_,λhF=>?_⟩,?_⟩)<;>(first|omega|exact Y_ _|(simp only[ak,List.length_modify,aq,aU];omega)|exact aR (Qe _ _ _ _) o_|exact aR (Nj _ _ _ _) o_|exact aR (SQ _ _) (aR (Qe _ _ _ _) o_)|exact aR (SQ _ _) (aR (Nj _ _ _ _) o_)|skip)<;>(first|exact hF|exact PL (Abm hF _) ‹_›|exact PL hF ‹_›|skip)<;>(try rcases Nat.eq_zero_or_pos l.length with q|q;(obtain rfl:=List.length_eq_zero_iff.1 q);skip)<;>(first|exact q|omega|(exfalso;simp[AQ] at h8;done)|(exfalso;simp at h24;done)|skip)<;>(try obtain⟨e1,e2,e3⟩:=e)<;>(first|(exfalso;simp[isServer,srvOk,e1,e2,e3] at *;done)|skip)<;>(rintro⟨z1,z2,z3,z4,z5⟩)<;>(first|(have w:=All z1 z2 z3 ⟨z4,z5⟩ h3 rfl)|(have w:=AkV z1 z3 ⟨z4,z5⟩ h3 (.inl ⟨h34,rfl⟩) rfl)|(have w:=AkV z1 z3 ⟨z4,z5⟩ h3 (.inr ⟨h34,rfl⟩) rfl))<;>(first|exact w.2|exact absurd w.1.1 (Int.not_le.2 h24)|exact absurd w.1.1 (Int.not_le.2 h39)|exact absurd w.1.1 (Int.not_le.2 h50)|exact absurd (w.1.2.symm.trans h29) (by decide)|exact absurd (w.1.2.symm.trans h44) (by decide)|exact absurd (w.1.2.symm.trans h55) (by decide)|skip))
def A3:List ByteArray:=[⟨#[97,112,112]⟩,⟨#[108,105,98]⟩,⟨#[117,116,105,108]⟩]
def AlB {p:ByteArray} (h:p∈A3):p∈P7:=by
 unfold A3 at h;unfold P7;simp only[ah,fZ,or_false] at h ⊢;rcases h with h|h|h
 ·exact .inl h
 ·exact .inr (.inl h)
 ·exact .inr (.inr (.inl h))
def Rd {l:List ByteArray} (h:l.all (λs=>decide (s.size<=30))=true) {y:ByteArray} (hy:y∈l):y.size<=30:=by simpa using aH.1 h y hy
def okz {l m:List V_} {a:FS} {x:L_} {k:Int} {P1 P2 P3:Prop} (h:(P1/\P2/\P3/\(okF l->okF m))/\Zp l a x m) (f:okF l) (z:Zl l) (h1:a.host∈H3) (h2:a.path∈P7) (hx:isResponse x=true/\x.status=200/\x.body.size<=400/\x.bm.size<=200/\x.kind=k/\rOk x):okF m/\Zl m:=⟨h.1.2.2.2 f,(h.2 ⟨z,h1,h2,hx.1,hx.2.2.2.2.2⟩).1⟩
abbrev MT:Xct:=⟨[.u],[.sl .server],λ(x:W_)=>True,λ(x:W_) (y:bB)=>szL Af y.1<=100000/\0<y.1.length/\okF y.1/\Zl y.1⟩
abbrev Ck (c:Unit):LInv:=⟨[⟨.s,3,true,.sl .server⟩,⟨.s,12,true,.el .int⟩,⟨.s,10,true,.sl .str⟩],λ_ (x:bT)=>0<=x.2.1/\x.2.1<=3/\szL Af x.1<=30000*x.2.1.toNat/\x.2.2.1=H3/\okF x.1/\Zl x.1,λ(x:bT)=>3-x.2.1.toNat⟩
abbrev Cn (c:Unit):LInv:=⟨[⟨.s,3,true,.sl .server⟩,⟨.s,18,true,.el .int⟩,⟨.s,16,true,.sl .str⟩,⟨.s,10,true,.sl .str⟩],λ(z x:bU)=>0<=x.2.1/\x.2.1<=3/\szL Af x.1<=szL Af z.1+4000*x.2.1.toNat/\x.2.2.1=A3/\x.2.2.2.1=z.2.2.2.1/\okF x.1/\Zl x.1,λ(x:bU)=>3-x.2.1.toNat⟩
def Ane:=Ame.X MT<|Xct.p (KP [0,2,3,5,7,8,10,11,12,16,17,18] [13,19,27,30,45,57]) (λ⟨c,_⟩=>λ|3=>some (Ck c)|6=>some (Cn c)|_=>none) Ame.2 func41 (by
 rintro⟨(c:PUnit),_⟩ hp;refine ho (let bK:=(⟨#[97,112,112]⟩:ByteArray);let ax:=(⟨#[104,111,109,101]⟩:ByteArray);let J_:=Value.int IntKind.i64 (3:Int);lpx (Ck c) ([],((0:Int),([ax,(⟨#[99,100,110]⟩:ByteArray),(⟨#[101,118,105,108]⟩:ByteArray)],()))) λ(y1:bT) bk1=>let aK:=Value.int IntKind.i64 y1.2.1;let Z_:=(⟨y1.2.2.1.getD y1.2.1.toNat default,(⟨#[108,111,103,111]⟩:ByteArray)⟩:FS);let R_:=Value.string (y1.2.2.1.getD y1.2.1.toNat default);.br (decide (y1.2.1<3)) (.ix y1.2.1 y1.2.2.1.length<|lpx (Cn c) (y1.1,((0:Int),([bK,(⟨#[108,105,98]⟩:ByteArray),(⟨#[117,116,105,108]⟩:ByteArray)],(y1.2.2.1,())))) λ(y5:bU) bk5=>let ar:=(⟨y1.2.2.1.getD y1.2.1.toNat default,y5.2.2.1.getD y5.2.1.toNat default⟩:FS);let M_:Out:=.re aK<|.re J_<|.re R_<|.re J_<|.bk (bk5 (y5.1,(w1 y5.2.1,(y5.2.2.1,(y5.2.2.2.1,())))));let H_:Out:=.dr Fv ((),(6:Int),()) λ(y20:U_)=>.br (!y20.1) (.dr Cs ((),(2:Int),()) λ(y23:al)=>.dr BJ (y5.1,ar,y23.1,()) λ(y25:T_)=>.re aK<|.re J_<|.re R_<|.re J_<|.bk (bk5 (y25.1,(w1 y5.2.1,(y5.2.2.1,(y5.2.2.2.1,())))))) M_;.br (decide (y5.2.1<3)) (.ix y5.2.1 y5.2.2.1.length<|.br (!(y5.2.2.1.getD y5.2.1.toNat default).toList==bK.toList) (.dr Fv ((),(2:Int),()) λ(y10:U_)=>.br (y10.1) (.dr Fv ((),(6:Int),()) λ(y12:U_)=>.br (!y12.1) (.dr Cs ((),(5:Int),()) λ(y15:al)=>.dr BJ (y5.1,ar,y15.1,()) λ(y17:T_)=>.re aK<|.re J_<|.re R_<|.re J_<|.bk (bk5 (y17.1,(w1 y5.2.1,(y5.2.2.1,(y5.2.2.2.1,())))))) M_) H_) H_) (.dr Fv ((),(4:Int),()) λ(y36:U_)=>.br (!y36.1) (.dr Cs ((),(3:Int),()) λ(y39:al)=>.dr BJ (y5.1,(⟨y1.2.2.1.getD y1.2.1.toNat default,(⟨#[115,116,121,108,101]⟩:ByteArray)⟩:FS),y39.1,()) λ(y41:T_)=>.dr Fv ((),(4:Int),()) λ(y42:U_)=>.br (!y42.1) (.dr Cs ((),(4:Int),()) λ(y45:al)=>.dr BJ (y41.1,Z_,y45.1,()) λ(y47:T_)=>.re J_<|.bk (bk1 (y47.1,(w1 y1.2.1,(y5.2.2.2.1,()))))) (.re J_<|.bk (bk1 (y41.1,(w1 y1.2.1,(y5.2.2.2.1,())))))) (.dr Fv ((),(4:Int),()) λ(y50:U_)=>.br (!y50.1) (.dr Cs ((),(4:Int),()) λ(y53:al)=>.dr BJ (y5.1,Z_,y53.1,()) λ(y55:T_)=>.re J_<|.bk (bk1 (y55.1,(w1 y1.2.1,(y5.2.2.2.1,()))))) (.re J_<|.bk (bk1 (y5.1,(w1 y1.2.1,(y5.2.2.2.1,())))))))) (.dr Cs ((),(1:Int),()) λ(y59:al)=>.dr BJ (y1.1,(⟨ax,(⟨#[105,110,100,101,120]⟩:ByteArray)⟩:FS),y59.1,()) λ(y61:T_)=>.dr Cs ((),(1:Int),()) λ(y63:al)=>.dr BJ (y61.1,(⟨ax,(⟨#[110,101,120,116]⟩:ByteArray)⟩:FS),y63.1,()) λ(y65:T_)=>.lx MT (y65.1,()))) ?_;refine Aq ?_ λ(y1:bT) i1=>Aa (λh2=>CW ?_ λo3 o4=>Aq ?_ λ(y5:bU) i5=>Aa (λh6=>CW ?_ λo7 o8=>Aa (λh9=>Bn trivial λ(y10:U_) i10=>Aa (λh11=>Bn trivial λ(y12:U_) i12=>Aa (λh13=>BA ?_ λo14 (y15:al) i15=>BA ?_ λo16 (y17:T_) i17=>An<|An<|An<|An<|AR ?_) λh13=>An<|An<|An<|An<|AR ?_) λh11=>Bn trivial λ(y20:U_) i20=>Aa (λh21=>BA ?_ λo22 (y23:al) i23=>BA ?_ λo24 (y25:T_) i25=>An<|An<|An<|An<|AR ?_) λh21=>An<|An<|An<|An<|AR ?_) λh9=>Bn trivial λ(y28:U_) i28=>Aa (λh29=>BA ?_ λo30 (y31:al) i31=>BA ?_ λo32 (y33:T_) i33=>An<|An<|An<|An<|AR ?_) λh29=>An<|An<|An<|An<|AR ?_) λh6=>Bn trivial λ(y36:U_) i36=>Aa (λh37=>BA ?_ λo38 (y39:al) i39=>BA ?_ λo40 (y41:T_) i41=>Bn trivial λ(y42:U_) i42=>Aa (λh43=>BA ?_ λo44 (y45:al) i45=>BA ?_ λo46 (y47:T_) i47=>An<|AR ?_) λh43=>An<|AR ?_) λh37=>Bn trivial λ(y50:U_) i50=>Aa (λh51=>BA ?_ λo52 (y53:al) i53=>BA ?_ λo54 (y55:T_) i55=>An<|AR ?_) λh51=>An<|AR ?_) (λh2=>BA ?_ λo58 (y59:al) i59=>BA ?_ λo60 (y61:T_) i61=>BA ?_ λo62 (y63:al) i63=>BA ?_ λo64 (y65:T_) i65=>lxY ?_)<;>(try simp only[AA] at *)<;>(try simp only[std,Nat.reduceAdd] at *)<;>(have hH:H3.length=3:=rfl;have hA:A3.length=3:=rfl;have sH:∀ {i:Nat},i<3->(H3.getD i default).size<=30:=λh=>Rd (by decide +kernel) (Ae (l:=H3) h))<;>have sA:∀ {i:Nat},i<3->(A3.getD i default).size<=30:=λh=>Rd (by decide +kernel) (Ae (l:=A3) h)<;>have mH:∀ {i:Nat},i<3->H3.getD i default∈H3:=λh=>Ae (l:=H3) h<;>have mA:∀ {i:Nat},i<3->A3.getD i default∈P7:=λh=>AlB (Ae (l:=A3) h)<;>(have s1:(⟨#[115,116,121,108,101]⟩:ByteArray).size=5:=rfl;have s2:(⟨#[108,111,103,111]⟩:ByteArray).size=4:=rfl;have s3:(⟨#[104,111,109,101]⟩:ByteArray).size=4:=rfl;have s4:(⟨#[105,110,100,101,120]⟩:ByteArray).size=5:=rfl;have s5:(⟨#[110,101,120,116]⟩:ByteArray).size=4:=rfl)<;>(try obtain⟨a1,a2,a3,a4,a5,a6⟩:=i1)<;>(try obtain⟨b1,b2,b3,b4,b5,b6,b7⟩:=i5)<;>have f0:okF []:=λv hv=>nomatch hv<;>(have z0:Zl []:=⟨by simp,λv hv=>nomatch hv⟩;try simp only[a4] at *)<;>(try simp only[b4,b5] at *)<;>(try have c1:=sH (i:=y1.2.1.toNat) o_)<;>(try have c2:=sA (i:=y5.2.1.toNat) o_)<;>(try have d1:=mH (i:=y1.2.1.toNat) o_)<;>(try have d2:=mA (i:=y5.2.1.toNat) o_)<;>(first|omega|exact⟨o_,o_,by simp[szL],rfl,f0,z0⟩|exact⟨o_,o_,o_,rfl,a5,a6⟩|exact⟨o_,o_⟩|skip)<;>(have mS:(⟨#[115,116,121,108,101]⟩:ByteArray)∈P7:=by simp[P7])<;>(have mL:(⟨#[108,111,103,111]⟩:ByteArray)∈P7:=by simp[P7])<;>(have mI:(⟨#[105,110,100,101,120]⟩:ByteArray)∈P7:=by simp[P7])<;>(have mN:(⟨#[110,101,120,116]⟩:ByteArray)∈P7:=by simp[P7])<;>(have mO:(⟨#[104,111,109,101]⟩:ByteArray)∈H3:=by simp[H3])<;>(try have k17:=okz i17 b6 b7 d1 d2 i15)<;>(try have k25:=okz i25 b6 b7 d1 d2 i23)<;>(try have k33:=okz i33 b6 b7 d1 d2 i31)<;>(try have k41:=okz i41 b6 b7 d1 mS i39)<;>(try have k47:=okz i47 k41.1 k41.2 d1 mL i45)<;>(try have k55:=okz i55 b6 b7 d1 mL i53)<;>(try have k61:=okz i61 a5 a6 mO mI i59)<;>(try have k65:=okz i65 k61.1 k61.2 mO mN i63)<;>(try rw[A_ o_ o_])<;>(try simp only[szAddr,Ab] at *)<;>(first|omega|exact⟨o_,o_,o_⟩|exact⟨⟨o_,o_,o_,trivial,trivial,by first|exact k17.1|exact k25.1|exact k33.1|exact b6,by first|exact k17.2|exact k25.2|exact k33.2|exact b7⟩,o_⟩|exact⟨⟨o_,o_,o_,trivial,by first|exact k47.1|exact k41.1|exact k55.1|exact b6,by first|exact k47.2|exact k41.2|exact k55.2|exact b7⟩,o_⟩|exact⟨o_,fE (i61.1.2.2.1 ⟨by decide,by decide,i59.1⟩) i65.1.2.1,k65.1,k65.2⟩|skip))
def rsp (l:List V_) (a:FS):L_:=if isA a=true then answerTo l a else notFound
def goodP (x:L_):Prop:=x.status=200/\x.kind=1/\isResponse x=true/\pgP x.body
def IN2:List ByteArray:=[⟨#[105,110,100,101,120]⟩,⟨#[110,101,120,116]⟩]
def goods (l:List V_) (i:Nat):Prop:=∀ j,j<i->goodP (answerTo l ⟨hom,IN2.getD j default⟩)
structure GN (n:N_):Prop where
 ok:nOk n
 nr:nR (rsp n.servers) n
 gd:goods n.servers 2
def SF (n:N_) (t:ByteArray) (a:FS) (g:Bool):(fetchNow n t a g).1.servers=n.servers/\(fetchNow n t a g).1.log.length<=n.log.length+1:=by
 have hk:∀ (m:N_) (x:L_),(keepAnswer m t a x).servers=m.servers:=λm x=>by unfold keepAnswer;split<;>rfl
 have hl:(logSent n t a g).servers=n.servers/\(logSent n t a g).log.length<=n.log.length+1:=by
  unfold logSent;split
  ·refine⟨rfl,?_⟩;show(n.log++[_]).length<=_;rw[ak];simp
  ·exact⟨rfl,Nat.le_succ _⟩
 unfold fetchNow;split
 ·exact⟨rfl,Nat.le_succ _⟩
 ·split
  ·exact⟨rfl,Nat.le_succ _⟩
  ·dsimp only;split
   ·exact hl
   ·exact⟨(hk _ _).trans hl.1,by rw[(keep_now _ _ _ _).2];exact hl.2⟩
def Aga {n:N_} (h:GN n) (t:ByteArray) (a:FS) (g:Bool):GN (fetchNow n t a g).1:=by
 have e:=(SF n t a g).1;exact⟨(FD h.ok t a g).1,by rw[e];exact(Jn h.nr t a g).1,by rw[e];exact h.gd⟩
def Aog {n:N_} (hz:Zl n.servers) (hc:n.cache=default) (hg:goods n.servers 2):GN n:=by
 have hce:n.cache.bh=[]:=by rw[hc];rfl
 refine⟨⟨λv hv f hf=>((hz.2 v hv).2.2 f hf).2.2,λe he=>by rw[hce] at he;simp at he⟩,⟨λa ha=>?_,λa ha=>?_,λe he=>by rw[hce] at he;simp at he⟩,hg⟩
 ·unfold rsp;rw[G_ ha]
 ·unfold rsp;rw[F_ (by rw[ha];decide)]
def Agy {i:Nat} (h:i<2):IN2.getD i default∈P7:=by
 have:=Ae (l:=IN2) h;unfold P7;unfold IN2 at this ⊢;simp only[ah,fZ,or_false] at this ⊢;rcases this with h|h
 ·exact .inr (.inr (.inr (.inr (.inr (.inl h)))))
 ·exact .inr (.inr (.inr (.inr (.inr (.inr h)))))
def Akg {i j:Nat} (h:j<i) (hi:i<2):IN2.getD j default≠IN2.getD i default:=by
 have e1:i=1:=o_
 have e2:j=0:=o_
 subst e1;subst e2;decide
def Af3 {l m:List V_} {i:Nat} {x:L_} (hi:i<2) (h:Zp l ⟨hom,IN2.getD i default⟩ x m) (z:Zl l) (g:goods l i) (hx:goodP x) (hr:rOk x):Zl m/\goods m (i+1):=by
 have:=h ⟨z,by unfold H3;simp,Agy hi,hx.2.2.1,hr⟩;refine⟨this.1,λj hj=>?_⟩;rcases Nat.lt_or_ge j i with q|q
 ·rw[this.2.2 _ λe=>Akg q hi (cB FS.path e)];exact g j q
 ·have:j=i:=o_
  subst this;rw[(h ⟨z,by unfold H3;simp,Agy hi,hx.2.2.1,hr⟩).2.1];exact hx
abbrev U0:Xct:=⟨[.u],[.el .net],λ(x:W_)=>True,λ(x:W_) (y:bC)=>okN y.1/\smN y.1/\GN y.1/\y.1.log.length<=2⟩
abbrev DR (c:Unit):LInv:=⟨[⟨.b,3,true,.el .net⟩,⟨.s,15,true,.el .int⟩,⟨.s,13,true,.sl .str⟩,⟨.b,2,true,.el .net⟩],λ(z x:bV)=>(0<=x.2.1/\x.2.1<=2/\szL Af x.1.servers<=100000+5000*x.2.1.toNat/\x.1.cache=default/\okF x.1.servers/\x.1.log.length=0/\x.2.2.1=IN2/\Zl x.1.servers/\goods x.1.servers x.2.1.toNat)/\x.2.2.2.1=z.2.2.2.1,λ(x:bV)=>2-x.2.1.toNat⟩
abbrev DJ (c:Unit):LInv:=⟨[⟨.b,3,true,.el .net⟩,⟨.s,7,true,.el .int⟩,⟨.b,2,true,.el .net⟩],λ(z x:aX)=>(0<=x.2.1/\x.2.1<=2/\okN x.1/\smN x.1/\GN x.1/\x.1.log.length+x.2.1<=2)/\x.2.2.1=z.2.2.1,λ(x:aX)=>x.2.1.toNat⟩
def Am0:=Ane.X U0<|Xct.p (KP [0,2,3,5,6,7,13,14,15] [16,42]) (λ⟨c,_⟩=>λ|3=>some (DR c)|9=>some (DJ c)|_=>none) Ane.2 func20 (by
 rintro⟨(c:PUnit),_⟩ hp;refine ho (.dr MT ((),()) λ(y1:bB)=>.dr Bc ((),(20:Int),()) λ(y2:E_)=>lpx (DR c) ((⟨y1.1,default,[],y2.1⟩:N_),((0:Int),([(⟨#[105,110,100,101,120]⟩:ByteArray),(⟨#[110,101,120,116]⟩:ByteArray)],(default,())))) λ(y3:bV) bk3=>.br (decide (y3.2.1<2)) (.ix y3.2.1 y3.2.2.1.length<|.dr Q2 ((),()) λ(y7:D_)=>.dr EW ((),()) λ(y8:aS)=>.cl AG (y8.1,()) λz2=>.dr Mm ((),[(0:Int),(5:Int)],()) λ(y11:E_)=>.dr BJ (y3.1.servers,(⟨(⟨#[104,111,109,101]⟩:ByteArray),y3.2.2.1.getD y3.2.1.toNat default⟩:FS),(⟨(200:Int),(1:Int),y7.1,y11.1,false,z2.1⟩:L_),()) λ(y13:T_)=>.re (Value.int IntKind.i64 (2:Int))<|.bk (bk3 ((⟨y13.1,y3.1.cache,y3.1.log,y3.1.now⟩:N_),(w1 y3.2.1,(y3.2.2.1,(y3.2.2.2.1,())))))) (.dr Bc ((),(3:Int),()) λ(y15:E_)=>lpx (DJ c) (y3.1,(y15.1,(y3.2.2.2.1,()))) λ(y16:aX) bk16=>.br (decide (y16.2.1>0)) (.dr SC ((),()) λ(y18:au)=>.cl Bw (y16.1,(⟨#[104,111,109,101]⟩:ByteArray),y18.1,false,()) λz3=>.re (Value.int IntKind.i64 y3.2.1)<|.re (Value.int IntKind.i64 (2:Int))<|.bk (bk16 (z3.1,(wr (y16.2.1-(1:Int)),(y16.2.2.1,()))))) (.lx U0 (y16.1,())))) ?_;refine Bn trivial λ(y1:bB) i1=>Bn trivial λ(y2:E_) i2=>Aq ?_ λ(y3:bV) i3=>Aa (λh4=>CW ?_ λo5 o6=>Bn trivial λ(y7:D_) i7=>Bn trivial λ(y8:aS) i8=>Cu ?_ λo9 z2 ez2=>(BA ?_ λo10 (y11:E_) i11=>BA ?_ λo12 (y13:T_) i13=>An<|AR ?_)) (λh4=>Bn trivial λ(y15:E_) i15=>Aq ?_ λ(y16:aX) i16=>Aa (λh17=>Bn trivial λ(y18:au) i18=>Cu ?_ λo19 z3 ez3=>(An<|An<|AR ?_)) λh17=>lxY ?_)<;>(try subst_vars)<;>(try have q1:=Fl i8)<;>(try have q2:=BV y8.1)<;>(try have q3:=HX i8)<;>(try simp only[AA] at *)<;>(try simp only[std,Nat.reduceAdd] at *)<;>(have e0:szCache (default:bD)=0:=by decide)<;>(have hI:IN2.length=2:=rfl;have sI:∀ {i:Nat},i<2->(IN2.getD i default).size<=30:=λh=>Rd (by decide +kernel) (Ae (l:=IN2) h))<;>(try obtain⟨⟨b1,b2,b3,b4,b9,b5,b6,b7,b10⟩,b8⟩:=i3)<;>(try simp only[b6] at *)<;>(try have c1:=sI (i:=y3.2.1.toNat) o_)<;>(first|omega|exact⟨o_,o_⟩|skip)<;>(try have i7s:=i7.sz)<;>(try simp only[ah,fZ,or_false] at i11)<;>(try have hx:goodP ⟨200,1,y7.1,y11.1,false,formatPolicy y8.1⟩:=⟨rfl,rfl,by simp only[isResponse,inRange,S_,av];exact⟨⟨o_,o_⟩,⟨o_,o_⟩,o_,⟨o_,o_⟩,q3⟩,i7⟩)<;>(try have hr:rOk ⟨200,1,y7.1,y11.1,false,formatPolicy y8.1⟩:=⟨λe=>absurd (show(1:Int)=2 from e) (by decide),λe=>absurd (show(1:Int)=2\/(1:Int)=5 from e) (by decide),i7s⟩)<;>(try have pg:=Af3 (i:=y3.2.1.toNat) o_ i13.2 b7 b10 hx hr)<;>(try have k3:=i16.1.2.2.1)<;>(try have k4:=AiY k3)<;>(try have k5:=i16.1.2.2.2.1)<;>(try have k6:=i16.1.2.2.2.2.1)<;>(try have k7:=(SF y16.1 ⟨#[104,111,109,101]⟩ y18.1 false).2)<;>(try simp only[szAddr,Ab,show ByteArray.size ⟨#[104,111,109,101]⟩=4 from rfl] at *)<;>(try rw[A_ o_ o_])<;>(first|omega|exact⟨o_,o_,o_,i1.2.2.1,rfl,i1.2.2.2,λj hj=>absurd hj (Nat.not_lt_zero j)⟩|exact⟨o_,o_,o_⟩|skip)<;>(first|exact⟨⟨⟨o_,o_,o_,b4,i13.1.2.2.2 b9,b5,trivial,pg.1,by rw[show(y3.2.1+1).toNat=y3.2.1.toNat+1 from o_];exact pg.2⟩,b8⟩,o_⟩|skip)<;>(first|exact⟨o_,o_,⟨o_,by rw[b4];decide,by rw[List.length_eq_zero_iff.1 b5];decide,o_⟩,⟨b9,by rw[b4];exact λe h=>nomatch h⟩,Aog b7 b4 (by rw[show(2:Nat)=y3.2.1.toNat from o_];exact b10),o_⟩|exact⟨k4.1,k4.2.1,k4.2.2,o_,o_⟩|exact⟨⟨⟨o_,o_,T7 k3 _ (by decide) (by simp only[szAddr];omega),(Wh k5 _ _ _).1,Aga k6 _ _ _,o_⟩,i16.2⟩,o_⟩|exact⟨k3,k5,k6,o_⟩|skip))
def stA (a:FS):Prop:=∃ j,j<2/\a=⟨hom,IN2.getD j default⟩
def Ak2 {y:ByteArray} (h:y∈[(⟨#[105,110,100,101,120]⟩:ByteArray),⟨#[105,110,100,101,120]⟩,⟨#[110,101,120,116]⟩]):stA ⟨hom,y⟩/\y.size<=5:=by
 simp only[ah,fZ,or_false] at h;rcases h with h|h|h
 ·exact⟨⟨0,o_,by rw[h];rfl⟩,by rw[h];decide⟩
 ·exact⟨⟨0,o_,by rw[h];rfl⟩,by rw[h];decide⟩
 ·exact⟨⟨1,o_,by rw[h];rfl⟩,by rw[h];decide⟩
abbrev M1:Xct:=⟨[.u],[.el .addr],λ(x:W_)=>True,λ(x:W_) (y:au)=>szAddr y.1<=200/\stA y.1⟩
def Am8:=Am0.X M1<|Xct.o [0,2] Am0.2 func21 (by
 rintro⟨(c:PUnit),_⟩ hp;refine ho (.dr NZ ((),[(⟨#[105,110,100,101,120]⟩:ByteArray),(⟨#[105,110,100,101,120]⟩:ByteArray),(⟨#[110,101,120,116]⟩:ByteArray)],()) λ(y2:D_)=>.lx M1 (⟨(⟨#[104,111,109,101]⟩:ByteArray),y2.1⟩,())) ?_;refine BA ?_ λo1 (y2:D_) i2=>lxY ?_<;>(try simp only[AA] at *)<;>(try simp only[std,Nat.reduceAdd] at *)<;>(first|exact⟨by decide,by decide⟩|skip)<;>have w:=Ak2 i2<;>exact⟨by simp only[szAddr,show ByteArray.size ⟨#[104,111,109,101]⟩=4 from rfl];omega,w.1⟩)
abbrev Ik:Xct:=⟨[.v (.sl .u8)],[.el .net,.el .addr,.sl .int,.sl .int],λ(x:am)=>x.1.length<=1000000000000000000/\(∀ j,j<x.1.length->0<=x.1.getD j default/\x.1.getD j default<=255),λ(x:am) (y:de)=>okN y.1/\smN y.1/\GN y.1/\y.1.log.length<=2/\szAddr y.2.1<=200/\stA y.2.1/\y.2.2.1.length<=4/\y.2.2.2.1.length<=42⟩
def An8:=Am8.X Ik<|Xct.o [0,2,3,4,5,6,7,8,9] Am8.2 func5 (by
 rintro⟨(b:List Int),_⟩ hp;refine ho (.ob (∀ (j:Nat),j<List.length (b,()).1->0<=List.getD b j default/\List.getD b j default<=255)<|.ob (List.length b<=1000000000000000000)<|.dr U0 ((),()) λ(y3:bC)=>.dr M1 ((),()) λ(y4:au)=>.dr QK ((),()) λ(y5:am)=>let H_:Out:=.cl RE (b,(30:Int),()) λ(z2:E_)=>.dr Ip ((),wr ((12:Int)+z2.1),()) λ(y10:am)=>.lx Ik (y3.1,y4.1,y5.1,y10.1,());.lp (Bool) (True) (λx=>True) λy6=>.br (y6) H_ H_) ?_;refine Ac ?_ λ_=>Ac ?_ λ_=>Bn trivial λ(y3:bC) i3=>Bn trivial λ(y4:au) i4=>Bn trivial λ(y5:am) i5=>Ju trivial λy6 i6=>Aa (λh7=>Cu ?_ λo8 z2 ez2=>BA ?_ λo9 (y10:am) i10=>lxY ?_) (λh7=>Cu ?_ λo11 z3 ez3=>BA ?_ λo12 (y13:am) i13=>lxY ?_)<;>(try subst_vars)<;>(try simp only[AA] at *)<;>(try simp only[std,Nat.reduceAdd] at *)<;>(first|exact hp.2|exact hp.1|skip)<;>(have hm:(0:Int)<=(if 30<3+(b.length:Int) / 12 then 30 else 3+(b.length:Int) / 12)/\(if 30<3+(b.length:Int) / 12 then 30 else 3+(b.length:Int) / 12)<=30:=by split<;>omega)<;>generalize (if 30<3+(b.length:Int) / 12 then 30 else 3+(b.length:Int) / 12)=q at *<;>have hw:IntKind.i64.wrap (12+q)=12+q:=A_ o_ o_<;>simp only[hw] at *<;>(first|omega|exact⟨o_,o_⟩|exact⟨i3.1,i3.2.1,i3.2.2.1,i3.2.2.2,i4.1,i4.2,o_,o_⟩|skip))
def Aih (s:ByteArray):cutText s []=[s]:=by
 have h:∀ (f:Nat) (i a:Int),cutGo s [] f i a=[s.extract a.toNat s.size]:=by
  intro f
  induction f with
  | zero=>intro i a;rfl
  | succ f ih=>intro i a;rw[cutGo,F_ (by simp[isCut,hasI]),ih]
 unfold cutText;rw[h];have:s.extract (0:Int).toNat s.size=s:=by rw[<-AH (s.extract _ _),Az,ci (by rw[AN];exact Y_ _)];show ofL (toL s)=s;exact AH s
 rw[this]
def AhX {G:Nat} {n:N_} {p:HO} (h:okL (G+1) (pl n p)) {ho:ByteArray} (hh:ho.size<=2097152) (a:FS):okL G (pl (fetchNow n ho a false).1 (takeAnswer p a (fetchNow n ho a false).2)):=by
 obtain⟨⟨Q,M,R,h1,h2,h3,h4⟩,⟨k1,k2,k3⟩,⟨h6,h7,h8,h9⟩,h10⟩:=h;have hw:wB (fetchNow n ho a false).2<=400:=Nat.min_le_left _ _;have et:(takeAnswer p a (fetchNow n ho a false).2).tok=p.tok:=KS ..;have ea:(takeAnswer p a (fetchNow n ho a false).2).addr=p.addr:=IU ..;have e0:wCs ([]:List ao)=0:=rfl;have h2:Q+740000*0+8000000*(G+1)<=889000000000:=h2;have h3:M+600*0+250000*(G+1)<=48000000000:=h3;have h4:R+20*0+10000*(G+1)<=18000000000:=h4;have h8:0+0+(G+1)<=4194304:=h8;refine⟨⟨_,_,_,Ie h1 a (fetchNow n ho a false).2,?_,?_,?_⟩,⟨LW k1 _ _,?_,?_⟩,⟨h6,Nat.zero_le _,?_,h9⟩,L8 h10 _ _ hh⟩
 ·show Q+740000+740000*0+8000000*G<=889000000000;omega
 ·show M+600*wB (fetchNow n ho a false).2+600*0+250000*G<=48000000000;omega
 ·show R+20*wB (fetchNow n ho a false).2+20*0+10000*G<=18000000000;omega
 ·show(takeAnswer p a _).addr.host.size<=2097152;rw[ea];exact k2
 ·show(takeAnswer p a _).tok.rest.size+_<=2900000;rw[et];exact k3
 ·show 0+0+G<=4194304;omega
def plS (n:N_) (a:FS):HO:=advance (endPage (arriveText (newPage a (fetchNow n a.host a false).2).1 (fetchNow n a.host a false).2.body))
def Jx {n:N_} {a:FS} (q1:szNet n<=1048576) (q2:szAddr a<=1048576) (hk:(newPage a (fetchNow n a.host a false).2).2=true):(Al (newPage a (fetchNow n a.host a false).2).1<=1000000000000/\(newPage a (fetchNow n a.host a false).2).1.tok.rest.size<=10000000/\(fetchNow n a.host a false).2.body.size<=10000000)/\Al (arriveText (newPage a (fetchNow n a.host a false).2).1 (fetchNow n a.host a false).2.body)<=1000000000000/\okAdv (endPage (arriveText (newPage a (fetchNow n a.host a false).2).1 (fetchNow n a.host a false).2.body))/\okL 1199 (pl (fetchNow n a.host a false).1 (plS n a)):=by
 have hW:=(Abh (n:=n) (a:=a) [] q1 q2).1;have hx:=P6 n a.host a false;have hb:(fetchNow n a.host a false).2.body.size<=Ab (fetchNow n a.host a false).2:=cO _ _;have es:(startLoad n a []).1=⟨(fetchNow n a.host a false).1,(newPage a (fetchNow n a.host a false).2).1,[(fetchNow n a.host a false).2.body],[],[]⟩:=by unfold startLoad;rw[G_ hk,Aih]
 rw[es] at hW;have hA:=Vp hW;obtain⟨⟨Q,M,R,h1,h2,h3,h4⟩,⟨k1,k2,k3⟩,_,_⟩:=hW;have h1:okAll (newPage a (fetchNow n a.host a false).2).1 Q M R:=h1;have h2:Q+740000*0+8000000*1200<=889000000000:=h2;have h3:M+600*0+250000*1200<=48000000000:=h3;have h4:R+20*0+10000*1200<=18000000000:=h4;have hr:(newPage a (fetchNow n a.host a false).2).1.tok.rest.size=0:=by unfold newPage;split<;>rfl
 have a1:=IE h1 o_ o_ o_;have a2:=Rv (s:=(fetchNow n a.host a false).2.body) h1 o_;have a3:=IE a2.1 o_ o_ o_;have a4:=AgT a2.1 o_;exact⟨⟨a1,o_,o_⟩,a3,⟨_,_,_,a4.1,o_,o_,o_⟩,hA⟩
def VK {G:Nat} {n:N_} {p:HO} (h:okL G (pl n p)):(∀ t a g,Ab (fetchNow n t a g).2<=1048576)/\szNet n<=9000000000/\szCache n.cache<=90000000/\szL Af n.servers<=10000000/\okFM p/\p.bf.length+p.bi.length<=1000000000000/\(∀ i,i<(nextNeeds p).length->szAddr ((nextNeeds p).getD i default).to<=4000000):=by
 obtain⟨⟨Q,M,R,h1,h2,h3,h4⟩,⟨k1,k2,k3⟩,_,h10⟩:=h;have hn:=AfJ h10;have h2:Q+740000*0+8000000*G<=889000000000:=h2;have h3:M+600*0+250000*G<=48000000000:=h3;have h4:R+20*0+10000*G<=18000000000:=h4;have hf:okFM p:=⟨Q,M,R,h1,o_,o_,o_⟩;have hp:=D1 (EV hf);refine⟨λt a g=>Gy hn,aR (show szNet n<=8000000000 from hn.1) o_,aR (show szCache n.cache<=80000000 from hn.2.1) o_,aR (show szL Af n.servers<=1048576 from hn.2.2.1) o_,hf,?_,λi hi=>?_⟩
 ·have a3:=Ad Ar p.bi;have a4:=Ad AO p.bf;have hz:=hp.1;simp only[Al] at hz;omega
 ·rcases VO (Ae hi) with⟨s,hs,e⟩|⟨m,hm,e⟩
  ·rw[e];exact k1.1.1 s hs
  ·rw[e];exact k1.1.2 m hm
def Tt {ho:ByteArray} {k:Nat} {n:N_} {p:HO} (h:¬ (nextNeeds p).length=0):fetchN ho (k+1) n p=fetchN ho k (fetchNow n ho ((nextNeeds p).getD 0 default).to false).1 (takeAnswer p ((nextNeeds p).getD 0 default).to (fetchNow n ho ((nextNeeds p).getD 0 default).to false).2):=by rw[fetchN,F_ h]
def X4 {ho:ByteArray} {k:Nat} {n:N_} {p:HO} (h:k=0\/(nextNeeds p).length=0):fetchN ho k n p=(n,p):=by
 cases k with
 | zero=>rfl
 | succ k=>rw[fetchN,G_ (h.resolve_left o_)]
def AcB {n:N_} {a:FS} {k:Nat} {m:N_} {p:HO} (h3:(newPage a (fetchNow n a.host a false).2).2=true) (h:fetchN a.host k m p=fetchN a.host 200 (fetchNow n a.host a false).1 (plS n a)) (hk:k=0\/(nextNeeds p).length=0):m=(loadPlain n a).1/\p=(loadPlain n a).2.1/\true=(loadPlain n a).2.2:=by
 rw[X4 hk] at h;unfold loadPlain;rw[G_ h3];exact⟨cB Prod.fst h,cB Prod.snd h,rfl⟩
def Aa2 {n:N_} {a:FS} (h3:(newPage a (fetchNow n a.host a false).2).2=false):(fetchNow n a.host a false).1=(loadPlain n a).1/\default=(loadPlain n a).2.1/\false=(loadPlain n a).2.2:=by
 unfold loadPlain;rw[F_ (by rw[h3];decide)];exact⟨rfl,rfl,rfl⟩
def Yj {n:N_} {a:FS} {i:Int} {m:N_} {p:HO} (q2:szAddr a<=1048576) (h0:0<=i) (h2:i<200) (h:okL (1199-i.toNat) (pl m p)) (hf:fetchN a.host (200-i.toNat) m p=fetchN a.host 200 (fetchNow n a.host a false).1 (plS n a)) (hn:¬ (nextNeeds p).length=0):okL (1199-(i+1).toNat) (pl (fetchNow m a.host ((nextNeeds p).getD 0 default).to false).1 (takeAnswer p ((nextNeeds p).getD 0 default).to (fetchNow m a.host ((nextNeeds p).getD 0 default).to false).2))/\fetchN a.host (200-(i+1).toNat) (fetchNow m a.host ((nextNeeds p).getD 0 default).to false).1 (takeAnswer p ((nextNeeds p).getD 0 default).to (fetchNow m a.host ((nextNeeds p).getD 0 default).to false).2)=fetchN a.host 200 (fetchNow n a.host a false).1 (plS n a):=by
 have e1:1199-i.toNat=1199-(i+1).toNat+1:=o_
 have e2:200-i.toNat=200-(i+1).toNat+1:=o_
 have hd:a.host.size<=szAddr a:=cO _ _;rw[e1] at h;rw[e2,Tt hn] at hf;exact⟨AhX h o_ _,hf⟩
abbrev Kq:Fct:=⟨[.v (.el .net),.v (.el .addr)],[.el .net,.el .page,.el .bool],λ(x:N_×FS×Unit)=>szNet x.1<=1048576/\szAddr x.2.1<=1048576,λ(x:N_×FS×Unit)=>((loadPlain x.1 x.2.1).1,(loadPlain x.1 x.2.1).2.1,(loadPlain x.1 x.2.1).2.2,())⟩
abbrev Cg (n:N_) (a:FS):LInv:=⟨[⟨.b,7,true,.el .net⟩,⟨.b,9,true,.el .page⟩,⟨.s,11,true,.el .int⟩,⟨.b,3,true,.el .addr⟩,⟨.b,4,true,.el .net⟩,⟨.b,5,true,.el .page⟩],λ(z x:dG)=>(((0<=x.2.2.1/\x.2.2.1<=200/\okL (1199-x.2.2.1.toNat) (pl x.1 x.2.1)/\fetchN a.host (200-x.2.2.1.toNat) x.1 x.2.1=fetchN a.host 200 (fetchNow n a.host a false).1 (plS n a))/\x.2.2.2.1=z.2.2.2.1)/\x.2.2.2.2.1=z.2.2.2.2.1)/\x.2.2.2.2.2.1=z.2.2.2.2.2.1,λ(x:dG)=>200-x.2.2.1.toNat⟩
def An0:=An8.a Kq<|Fct.p (KP [2,3,4,5,6,7,8,9,10,11,12,13,14] [30,40,47]) (λ⟨n,a,_⟩=>lv [(7,Cg n a)]) An8.2 func7 (by
 rintro⟨(n:N_),(a:FS),_⟩ hp;refine ho (let J_:=(⟨#[]⟩:ByteArray);.cl Bw (n,a.host,a,false,()) λz2=>.cl PH (a,z2.2.1,()) λz3=>.br (!z3.2.1) (.leaf (.tup [(true,[.l Ty.server (z2.1.servers),.l Ty.entry (z2.1.cache.bh),.l Ty.sent (z2.1.log),vi (z2.1.now)]),(true,[vs J_,vs J_,vb (false),.nl,.nl,.nl,vs J_,vs J_,.nl,vb (false),.nl,.nl,.nl,.nl,.nl,vi ((0:Int)),vi ((0:Int)),vi ((0:Int)),vi ((0:Int)),.nl,.nl,vb (false)]),(false,[vb (false)])]) [] []) (.cl Fx (z3.1,z2.2.1.body,()) λz4=>.cl J5 (z4.1,()) λz5=>.cl FY (z5.1,()) λz6=>lpx (Cg n a) (z2.1,(z6.1,((0:Int),(a,(default,(default,())))))) λ(y7:dG) bk7=>let H_:Out:=.lf Kq (y7.1,y7.2.1,true,());.br (decide (y7.2.2.1<200)) (.cl Gp (y7.2.1,()) λz7=>let Z_:=z7.1.getD 0 default;let R_:=(z7.1.length:Int);let M_:=(0:Int)<=(0:Int)/\(0:Int)<R_;.br (R_==0) (.lp (Bool) (True) (λx=>True) λy11=>.br (y11) H_ H_) (.ob M_<|.ob (0<z7.1.length)<|.cl Bw (y7.1,y7.2.2.2.1.host,Z_.to,false,()) λz8=>.ob M_<|.ob (0<z7.1.length)<|.cl Ej (y7.2.1,Z_.to,z8.2.1,()) λz9=>.re (Value.bool z3.2.1)<|.bk (bk7 (z8.1,(z9.1,(w1 y7.2.2.1,(y7.2.2.2.1,(y7.2.2.2.2.1,(y7.2.2.2.2.2.1,()))))))))) (.lp (Bool) (True) (λx=>True) λy20=>.br (y20) H_ H_))) ?_;refine Cu ?_ λo1 z2 ez2=>(Cu ?_ λo2 z3 ez3=>Aa (λh3=>Fct.leafZ (z2.fst,default,false,()) (by repeat' first|exact rfl|exact trivial|refine And.intro ?_ ?_) ?_) λh3=>Cu ?_ λo4 z4 ez4=>Cu ?_ λo5 z5 ez5=>Cu ?_ λo6 z6 ez6=>Aq ?_ λ(y7:dG) i7=>Aa (λh8=>Cu ?_ λo9 z7 ez7=>Aa (λh10=>Ju trivial λy11 i11=>Aa (λh12=>lfY ?_) λh12=>lfY ?_) λh10=>Ac ?_ λ_=>Ac ?_ λ_=>Cu ?_ λo15 z8 ez8=>Ac ?_ λ_=>Ac ?_ λ_=>Cu ?_ λo18 z9 ez9=>(An<|AR ?_)) λh8=>Ju trivial λy20 i20=>Aa (λh21=>lfY ?_) λh21=>lfY ?_)<;>subst_vars<;>obtain⟨q1,q2⟩:=(show szNet n<=1048576/\szAddr a<=1048576 from hp)<;>(have hf:=P6 n a.host a false;have hd:a.host.size<=szAddr a:=cO _ _;have he:(fetchNow n a.host a false).2.bm.size<=Ab (fetchNow n a.host a false).2:=Nat.le_add_left _ _;have hz:szL Af n.servers+szCache n.cache<=szNet n:=cO _ _;try simp only[AA] at *)<;>(try simp only[std,Nat.reduceAdd] at *)<;>(try refine⟨?_,?_⟩<;>omega)<;>(try omega)<;>(try exact Aa2 h3)<;>(try exact(Jx q1 q2 h3).1)<;>(try exact(Jx q1 q2 h3).2.1)<;>(try exact(Jx q1 q2 h3).2.2.1)<;>(try exact⟨o_,o_,(Jx q1 q2 h3).2.2.2,rfl⟩)<;>(obtain⟨⟨⟨⟨z1,z2,z3,z4⟩,z5⟩,z6⟩,z7⟩:=i7)<;>(try exact(VK z3).2.2.2.2.2.1)<;>(try exact AcB h3 z4 o_)<;>(obtain⟨w0,w1,w2,w3,w4,w5,w6⟩:=VK z3)<;>(have hw:(fetchNow y7.1 a.host ((nextNeeds y7.2.1).getD 0 default).to false).2.body.size+(fetchNow y7.1 a.host ((nextNeeds y7.2.1).getD 0 default).to false).2.bm.size<=_:=w0 _ _ _)<;>(rw[z5])<;>(try exact⟨w1,w2,w3,o_,aR (w6 0 o_) o_⟩)<;>(try exact⟨w4,aR (w6 0 o_) o_,o_,o_⟩)<;>(rw[A_ o_ o_])<;>(exact⟨⟨⟨⟨⟨o_,o_,Yj q2 z1 h8 z3 z4 o_⟩,rfl⟩,z6⟩,z7⟩,o_⟩))
def Aa9 {n:N_} (h:GN n) (a:FS):rOk (rsp n.servers a):=by
 have:=(FD h.ok hom a false).2;rw[(Jn h.nr hom a false).2] at this;exact this
def Pv (s:ByteArray) (cs:List Int):∀ (f:Nat) (i a:Int),0<=a->a<i->i+f<=max s.size 1->(cutGo s cs f i a).flatMap toL=(toL s).drop a.toNat/\1<=(cutGo s cs f i a).length
 | 0,i,a,h0,h1,h2=>by
  rw[cutGo];refine⟨?_,Y_ _⟩;rw[List.flatMap_cons,List.flatMap_nil,cz,Az,ci (by rw[AN];exact Y_ _)]
 | f+1,i,a,h0,h1,h2=>by
  rw[cutGo];split
  ·have ih:=Pv s cs f (i+1) i o_ o_ o_;refine⟨?_,by simp⟩;rw[List.flatMap_cons,ih.1,Az];have e:(toL s).drop a.toNat=((toL s).take i.toNat++(toL s).drop i.toNat).drop a.toNat:=by rw[di]
   rw[e,List.drop_append_of_le_length (by rw[cX,AN];omega)]
  ·exact Pv s cs f (i+1) a h0 o_ o_
def AcK (i:Int):∀ l:List Int,l.countP (λc=>decide (i+1<=c))+(if hasI l i=true then 1 else 0)<=l.countP (λc=>decide (i<=c))
 | []=>by simp[hasI]
 | x::l=>by
  have ih:=AcK i l;have e:hasI (x::l) i=(decide (x=i)||hasI l i):=rfl;rw[List.countP_cons,List.countP_cons,e];have hb:(if hasI l i=true then 1 else 0)<=1:=by split<;>omega
  rcases Int.lt_trichotomy x i with h|h|h
  ·simp only[show ¬ i+1<=x from o_,show ¬ i<=x from o_,show ¬ x=i from o_,decide_false,Bool.false_or,cD,aP];omega
  ·subst h;simp only[show ¬ x+1<=x from o_,Int.le_refl,decide_false,decide_true,Bool.true_or,cD,aP,aC];omega
  ·simp only[show i+1<=x from o_,show i<=x from o_,show ¬ x=i from o_,decide_false,decide_true,Bool.false_or,aC];omega
def U3 (s:ByteArray) (cs:List Int):∀ (f:Nat) (i a:Int),(cutGo s cs f i a).length<=1+(cs.take 7).countP (λc=>decide (i<=c))
 | 0,i,a=>by rw[cutGo];simp
 | f+1,i,a=>by
  have h:=AcK i (cs.take 7);rw[cutGo];split
  ·rename_i hc;have hc:hasI (cs.take 7) i=true:=hc;rw[G_ hc] at h;have:=U3 s cs f (i+1) i;rw[aq];omega
  ·have:=U3 s cs f (i+1) a;split at h<;>omega
def Ajm (s:ByteArray) (cs:List Int):(cutText s cs).flatMap toL=toL s/\cutText s cs≠[]/\(cutText s cs).length<=8:=by
 have h:=Pv s cs (s.size-1) 1 0 o_ o_ o_;have h2:=U3 s cs (s.size-1) 1 0;have h3:(cs.take 7).countP (λc=>decide ((1:Int)<=c))<=(cs.take 7).length:=List.countP_le_length;have h4:(cs.take 7).length<=7:=by rw[cX];omega
 exact⟨h.1,λe=>by have:=h.2;rw[show cutGo s cs (s.size-1) 1 0=[] from e] at this;simp at this,show(cutGo s cs (s.size-1) 1 0).length<=8 from o_⟩
def Sj {a:FS} (h:stA a):a.host=hom/\isA a=true/\∃ j,j<2/\a=⟨hom,IN2.getD j default⟩:=by
 obtain⟨j,hj,e⟩:=h;refine⟨by rw[e],?_,j,hj,e⟩;have h2:∀ b,b∈IN2->isA ⟨hom,b⟩=true:=by
  intro b hb;simp only[IN2,ah,fZ,or_false] at hb;rcases hb with hb|hb
  ·rw[hb];decide +kernel
  ·rw[hb];decide +kernel
 rw[e];exact h2 _ (Ae (l:=IN2) hj)
def H9 {n:N_} (h:GN n) {a:FS} (ha:stA a):(fetchNow n a.host a false).2=rsp n.servers a/\goodP (rsp n.servers a)/\(newPage a (rsp n.servers a))=(page0 a (parsePolicy (rsp n.servers a).bm).1,true):=by
 obtain⟨e1,e2,j,hj,e3⟩:=Sj ha;have e4:rsp n.servers a=answerTo n.servers a:=by unfold rsp;rw[G_ e2]
 have hg:goodP (rsp n.servers a):=by rw[e4,e3];exact h.gd j hj
 refine⟨(Jn h.nr a.host a false).2,hg,?_⟩;unfold newPage;rw[G_ ⟨e2,hg.2.2.1,hg.1,hg.2.1⟩];rfl
structure ST (n:N_) (a:FS) (Q:List X_) (C0:HO) (l:O_):Prop where
 li:LI l
 si:SI (rsp n.servers) Q C0 l
 gi:GI n a l
def po0 (n:N_) (a:FS):aQ:=(parsePolicy (rsp n.servers a).bm).1
def C00 (n:N_) (a:FS):HO:=cq (rsp n.servers) (page0 a (po0 n a)) (tokensOf (ofL (toL (rsp n.servers a).body)))
def Wd {n:N_} (h:GN n) {a:FS} (ha:stA a) (hl:n.log.length<=2) {parts:List ByteArray} (hp:parts≠[]) (hB:parts.flatMap toL=toL (rsp n.servers a).body):ST n a (QQ (rsp n.servers) a (po0 n a)) (C00 n a) ⟨(fetchNow n hom a false).1,page0 a (po0 n a),parts,[],[]⟩/\Lam ⟨(fetchNow n hom a false).1,page0 a (po0 n a),parts,[],[]⟩=parts.length:=by
 obtain⟨e1,e2,_⟩:=Sj ha;obtain⟨f1,f2,f3⟩:=H9 h ha;have hs:=AfD (R:=rsp n.servers) (Aa9 h) (po:=po0 n a) e1 (FD h.ok hom a false).1 (Jn h.nr hom a false).1 hp hB f2.2.2.2.pg f2.2.2.2.w;have hn:NG n n (Wf a (page0 a (po0 n a))) 0:=⟨rfl,⟨[],by simp,by simp,λs hs=>absurd hs (by simp)⟩,λ_ q=>q,λ_ q=>.inl q⟩;have hf:=Qb hn e2 o_ (g:=false) ⟨λe=>absurd (show false=true from e) (by decide),.inl rfl⟩;refine⟨⟨hs.1,hs.2.1,⟨Hx hf.1 (λ_ q=>q) ?_,λc hc=>absurd (show c∈[] from hc) (by simp),λc hc=>absurd (show c∈[] from hc) (by simp),⟨λs hs=>absurd (show s∈[] from hs) (by simp),λs hs=>absurd (show s∈[] from hs) (by simp)⟩,hf.2.1⟩⟩,hs.2.2⟩;unfold kG;omega
def Vq {n:N_} (h:GN n) {a:FS} (ha:stA a) (cs:List Int):startLoad n a cs=(⟨(fetchNow n hom a false).1,page0 a (po0 n a),cutText (rsp n.servers a).body cs,[],[]⟩,true):=by
 obtain⟨f1,f2,f3⟩:=H9 h ha;unfold startLoad;rw[f1,f3,G_ rfl,(Sj ha).1];rfl
structure RES (n:N_) (a:FS) (Q:List X_) (C0:HO) (x:N_×HO×Bool) (l:O_):Prop where
 st:ST n a Q C0 l
 ep:EP (rsp n.servers) Q C0 l.page
 eq:x=(l.net,l.page,true)
def AfS {n:N_} (h:GN n) {a:FS} (ha:stA a) (hl:n.log.length<=2) (cs ch:List Int):RES n a (QQ (rsp n.servers) a (po0 n a)) (C00 n a) (loadFast n a cs ch) (runLoad (startLoad n a cs).1 ch):=by
 have hc:=Ajm (rsp n.servers a).body cs;have hs:=Wd h ha hl hc.2.1 hc.1;have hR:=Aa9 h;rw[Vq h ha cs];have h1:=Ah2 hs.1.li (by rw[hs.2];omega) ch;have h2:=AjB hR hs.1.li hs.1.si ch;have h3:=Ak5 hR o_ hs.1.li hs.1.si hs.1.gi ch;have h4:=h1.1;unfold finL at h4;rw[S_] at h4;refine⟨⟨h1.2,h2,h3⟩,AgB h1.2 h2 h4.1,?_⟩;unfold loadFast;rw[Vq h ha cs,G_ rfl]
def TU {n:N_} (h:GN n) {a:FS} (ha:stA a):(arrivePart ⟨(fetchNow n hom a false).1,page0 a (po0 n a),[(rsp n.servers a).body],[],[]⟩)=(pl (fetchNow n hom a false).1 (plS n a),true):=by
 obtain⟨f1,f2,f3⟩:=H9 h ha;unfold plS;rw[f1,f3];rfl
def Zd {n:N_} (h:GN n) {a:FS} (ha:stA a) (hl:n.log.length<=2):RES n a (QQ (rsp n.servers) a (po0 n a)) (C00 n a) (loadPlain n a) (pl (fetchN hom 200 (fetchNow n hom a false).1 (plS n a)).1 (fetchN hom 200 (fetchNow n hom a false).1 (plS n a)).2):=by
 obtain⟨f1,f2,f3⟩:=H9 h ha;have hs:=(Wd h ha hl (parts:=[(rsp n.servers a).body]) (by simp) (by simp)).1;have hR:=Aa9 h;have e:=TU h ha;have a1:=(Agg hs.li (by rw[e])).1;have a2:=Agj hs.li hs.si;have a3:=AgD hs.gi (AgN _);rw[e] at a1 a2 a3;have h1:=Wb hR hom 200 _ _ a1 a2 o_;have h2:=Wz hR o_ 200 _ _ a1 a2 a3;refine⟨⟨h1.1,h1.2.1,h2⟩,AgB h1.1 h1.2.1 h1.2.2,?_⟩;unfold loadPlain;rw[f1,f3,G_ rfl,(Sj ha).1];unfold plS;rw[f1,f3];rfl
def Ob (n:N_) (t:ByteArray) (a:FS):∃ r,(fetchNow n t a false).1.log=n.log++r/\∀ s,s∈r->s.guess=false:=by
 have hl:∃ r,(logSent n t a false).log=n.log++r/\∀ s,s∈r->s.guess=false:=by
  unfold logSent;split
  ·exact⟨[⟨t,a,false⟩],rfl,λs hs=>by rw[List.mem_singleton.1 hs]⟩
  ·exact⟨[],(cz _).symm,by simp⟩
 unfold fetchNow;split
 ·exact⟨[],(cz _).symm,by simp⟩
 ·split
  ·exact⟨[],(cz _).symm,by simp⟩
  ·dsimp only;rw[F_ (by decide),(keep_now _ _ _ _).2];exact hl
def NU (ho:ByteArray):∀ (k:Nat) (n:N_) (p:HO),∃ r,(fetchN ho k n p).1.log=n.log++r/\∀ s,s∈r->s.guess=false
 | 0,n,p=>⟨[],(cz _).symm,by simp⟩
 | k+1,n,p=>by
  rw[fetchN];split
  ·exact⟨[],(cz _).symm,by simp⟩
  ·obtain⟨r,e,h⟩:=Ob n ho ((nextNeeds p).getD 0 default).to;obtain⟨q,e2,h2⟩:=NU ho k (fetchNow n ho ((nextNeeds p).getD 0 default).to false).1 (takeAnswer p ((nextNeeds p).getD 0 default).to (fetchNow n ho ((nextNeeds p).getD 0 default).to false).2);refine⟨r++q,by rw[e2,e,bF],λs hs=>?_⟩;rcases ae.1 hs with hs|hs
   ·exact h s hs
   ·exact h2 s hs
def Sn {h:ByteArray} {a:FS}:∀ {l:List bE},a∈tosAt h l↔a.host=h/\∃ s,s∈l/\s.to=a
 | []=>by simp[tosAt]
 | s::l=>by
  have ih:=Sn (h:=h) (a:=a) (l:=l);rw[tosAt];split
  ·rename_i e;rw[ah,ih];constructor
   ·rintro(q|⟨q,t,ht,e2⟩)
    ·exact⟨by rw[q];exact e,s,by simp,q.symm⟩
    ·exact⟨q,t,by simp[ht],e2⟩
   ·rintro⟨q,t,ht,e2⟩;rcases ah.1 ht with ht|ht
    ·left;rw[<-e2,ht]
    ·exact .inr ⟨q,t,ht,e2⟩
  ·rename_i e;rw[ih];constructor
   ·rintro⟨q,t,ht,e2⟩;exact⟨q,t,by simp[ht],e2⟩
   ·rintro⟨q,t,ht,e2⟩;rcases ah.1 ht with ht|ht
    ·exact absurd (by rw[<-ht,e2];exact q) e
    ·exact⟨q,t,ht,e2⟩
def RT {b x:N_} {h:ByteArray} {a:FS}:a∈learnedBy b x h↔a.host=h/\∃ s,s∈x.log.drop b.log.length/\s.to=a:=by
 unfold learnedBy;rw[GV,Sn]
def Ahy {b x y:N_} {h:ByteArray} (h1:∀ s,s∈x.log.drop b.log.length->s.to.host=h->∃ t,t∈y.log.drop b.log.length/\t.to=s.to) (h2:∀ s,s∈y.log.drop b.log.length->s.to.host=h->∃ t,t∈x.log.drop b.log.length/\t.to=s.to):learnedBy b x h=learnedBy b y h:=by
 refine LF (Hm _) λa=>?_
 have e:a∈learnedBy b x h↔a∈learnedBy b y h:=by
  rw[RT,RT];constructor
  ·rintro⟨q,s,hs,e⟩;obtain⟨t,ht,e2⟩:=h1 s hs (by rw[e];exact q);exact⟨q,t,ht,e2.trans e⟩
  ·rintro⟨q,s,hs,e⟩;obtain⟨t,ht,e2⟩:=h2 s hs (by rw[e];exact q);exact⟨q,t,ht,e2.trans e⟩
 have e3:a∈learnedBy b y h↔a∈tosAt h (y.log.drop b.log.length):=by unfold learnedBy;rw[GV]
 exact e.trans e3
def Ae2 {n:N_} {a:FS} {Q:List X_} {C0:HO} {x y:N_×HO×Bool} {l m:O_} (h1:RES n a Q C0 x l) (h2:RES n a Q C0 y m):sameOthers n x.1 y.1 hom=true:=by
 unfold sameOthers;rw[aH];intro g _;unfold sameOk;rw[db,av,av];by_cases hg:g=hom
 ·exact .inl hg
 ·right;rw[h1.eq,h2.eq];exact Ahy (λs hs e=>K2 h1.st.gi h2.st.gi h1.ep h2.ep hs (.inl (by rw[e];exact hg))) (λs hs e=>K2 h2.st.gi h1.st.gi h2.ep h1.ep hs (.inl (by rw[e];exact hg)))
def Ajh {n:N_} {a:FS} {Q:List X_} {C0:HO} {x:N_×HO×Bool} {l:O_} (h1:RES n a Q C0 x l) {i:Nat} (h0:n.log.length<=i) (hi:i<x.1.log.length):isOwnGuess (x.1.log.getD i default)=true:=by
 have e:x.1.log.getD i default∈x.1.log.drop n.log.length:=by have:=Ae (l:=x.1.log.drop n.log.length) (i:=i-n.log.length) (by rw[fP];omega);rw[aV,List.getElem?_drop,show n.log.length+(i-n.log.length)=i from o_,<-aV] at this;exact this
 rw[h1.eq] at e;have:=(Agw h1.st.gi _ e).2.1;rw[h1.eq];unfold isOwnGuess;cases hg:(l.net.log.getD i default).guess with
 | false=>rfl
 | true=>rw[bR (this hg)];rfl
def AjO {b x y:N_} {h:ByteArray} {a:FS} (hm:a∈learnedMore b x y h):a.host=h/\(learnedBy b y h).any (λc=>decide (c=a))=true:=by
 unfold learnedMore at hm;have:=(List.mem_filter.1 hm).1;exact⟨(RT.1 this).1,bw.2 ⟨a,this,bR rfl⟩⟩
def Ala {n:N_} {a:FS} {Q:List X_} {C0:HO} {x y:N_×HO×Bool} {l m:O_} (h1:RES n a Q C0 x l) (h2:RES n a Q C0 y m) (hg:∀ s,s∈m.net.log.drop n.log.length->s.guess=false):learnedMore n x.1 y.1 hom=[]:=by
 unfold learnedMore;rw[List.filter_eq_nil_iff];intro b hb;rw[h2.eq] at hb;obtain⟨e1,s,hs,e2⟩:=RT.1 hb;obtain⟨t,ht,e3⟩:=K2 h2.st.gi h1.st.gi h2.ep h1.ep hs (.inr (hg s hs));rw[h1.eq];have:(learnedBy n l.net hom).any (λc=>decide (c=b))=true:=bw.2 ⟨b,RT.2 ⟨e1,t,ht,e3.trans e2⟩,bR rfl⟩;rw[show(l.net,l.page,true).1=l.net from rfl,this];decide
def sumH (L:List bE):List ByteArray->Int
 | []=>0
 | h::D=>((L.filter λs=>decide (s.to.host=h)).length:Int)+sumH L D
def W5:∀ D:List ByteArray,sumH [] D=0
 | []=>rfl
 | h::D=>by rw[sumH,W5 D];rfl
def RX (s:bE) (L:List bE):∀ D:List ByteArray,sumH (s::L) D=sumH L D+(D.countP (λh=>decide (h=s.to.host)):Int)
 | []=>rfl
 | h::D=>by
  rw[sumH,sumH,RX s L D,List.filter_cons,List.countP_cons];by_cases e:s.to.host=h
  ·rw[bR e,bR e.symm,G_ rfl,G_ rfl,aq];omega
  ·rw[ey e,ey λq=>e q.symm,F_ (by decide),F_ (by decide)];omega
def Ack {h:ByteArray}:∀ {D:List ByteArray},D.Nodup->h∈D->D.countP (λc=>decide (c=h))=1
 | [],_,hm=>absurd hm (by simp)
 | c::D,hn,hm=>by
  rw[List.nodup_cons] at hn;rw[List.countP_cons];by_cases e:c=h
  ·have:D.countP (λc=>decide (c=h))=0:=List.countP_eq_zero.2 λx hx=>by rw[av];rintro rfl;exact hn.1 (e▸hx)
   rw[this,bR e,G_ rfl]
  ·rw[ey e,F_ (by decide),Ack hn.2 ((ah.1 hm).resolve_left λq=>e q.symm)]
def Wu {D:List ByteArray} (hn:D.Nodup):∀ {L:List bE},(∀ s,s∈L->s.to.host∈D)->sumH L D=L.length
 | [],_=>by rw[W5];rfl
 | s::L,h=>by rw[RX,Wu hn λt ht=>h t (by simp[ht]),Ack hn (h s (by simp)),aq];omega
def SD {α β:Type} [DecidableEq β] (f:α->β):∀ (l:List α) (out:List β),out.Nodup->(uniqBy f out l).Nodup
 | [],out,h=>h
 | x::l,out,h=>by
  rw[uniqBy];refine SD f l _ ?_;split
  ·exact h
  ·rename_i hn;rw[List.nodup_append];refine⟨h,by simp,λy hy z hz=>?_⟩;rw[List.mem_singleton] at hz;rw[hz];rintro rfl;exact hn (bw.2 ⟨_,hy,bR rfl⟩)
def Adq (n:N_):sumH n.log (uniqBy (λs=>s.to.host) [] n.log)=n.log.length :=
 Wu (SD _ _ _ (by simp)) λs hs=>(OI _ _ _ _).2 (.inr ⟨s,hs,rfl⟩)
structure OTH (n:N_) (x y:N_×HO×Bool):Prop where
 sm:sameOthers n y.1 x.1 hom=true
 ow:∀ i,n.log.length<=i->i<x.1.log.length->isOwnGuess (x.1.log.getD i default)=true
 nl:learnedMore n x.1 y.1 hom=[]
 ge:n.log.length<=x.1.log.length
 lx:x.1.log.length<=1000
 ly:y.1.log.length<=1000
def W9 {n:N_} (h:GN n) {a:FS} (ha:stA a) (hl:n.log.length<=2) (cs ch:List Int):OTH n (loadFast n a cs ch) (loadPlain n a):=by
 have h1:=AfS h ha hl cs ch;have h2:=Zd h ha hl;have k1:=ZS h1.st.gi.ng;have k2:=ZS h2.st.gi.ng;have g1:=kG_le h1.st.li;have g2:=kG_le h2.st.li;refine⟨Ae2 h2 h1,λi h0 hi=>Ajh h1 h0 hi,Ala h1 h2 ?_,by rw[h1.eq];exact k1.1,by rw[h1.eq];exact aR k1.2 o_,by rw[h2.eq];exact aR k2.2 o_⟩;obtain⟨r,e1,q1⟩:=Ob n hom a;obtain⟨q,e2,q2⟩:=NU hom 200 (fetchNow n hom a false).1 (plS n a);intro s hs;have e:(pl (fetchN hom 200 (fetchNow n hom a false).1 (plS n a)).1 (fetchN hom 200 (fetchNow n hom a false).1 (plS n a)).2).net.log=n.log++(r++q):=by show(fetchN hom 200 (fetchNow n hom a false).1 (plS n a)).1.log=_;rw[e2,e1,bF]
 rw[e,List.drop_append_of_le_length (Y_ _),List.drop_length,ew] at hs;rcases ae.1 hs with hs|hs
 ·exact q1 s hs
 ·exact q2 s hs
abbrev JA:Fct:=⟨[.v (.sl .str),.v (.sl .str)],[.el .bool],λ(x:fK)=>x.1.length<=1000000000000000000/\x.2.1.length<=1000000000000000000,λ(x:fK)=>(decide (x.1=x.2.1),())⟩
abbrev Cl (a:(List ByteArray)) (b:(List ByteArray)):LInv:=⟨[⟨.s,5,true,.el .int⟩],λ_ (x:E_)=>0<=x.1/\x.1<=a.length/\a.length=b.length/\a.take x.1.toNat=b.take x.1.toNat,λ(x:E_)=>a.length-x.1.toNat⟩
def Ama:=An0.a JA<|Fct.p (KP [0,1,4,5] [10,14,25]) (λ⟨a,b,_⟩=>lv [(4,Cl a b)]) An0.2 func16 (by
 rintro⟨(a:List ByteArray),(b:List ByteArray),_⟩ hp;refine ho (.br ((a.length:Int) != (b.length:Int)) (.lf JA (false,())) (lpx (Cl a b) ((0:Int),()) λ(y2:E_) bk2=>.br (decide (y2.1<(a.length:Int))) (.ob (inB y2.1 a.length)<|.ob (inB y2.1 b.length)<|.br (!(a.getD y2.1.toNat default).toList==(b.getD y2.1.toNat default).toList) (.lf JA (false,())) (.re (a)<|.re (b)<|.bk (bk2 (w1 y2.1,())))) (.lf JA (true,())))) ?_;refine Aa (λh1=>lfY ?_) λh1=>Aq ?_ λ(y2:E_) i2=>Aa (λh3=>Ac ?_ λ_=>Ac ?_ λ_=>Aa (λh6=>lfY ?_) λh6=>An<|An<|AR ?_) λh3=>lfY ?_;all_goals
  try simp only[AA] at *
  try simp only[std,Nat.reduceAdd,szF,toF,eqF,mkF,heF] at *
  try obtain⟨z1,z2,z3,z4⟩:=i2
 all_goals (first|omega|exact⟨o_,o_⟩|exact⟨o_,o_,o_,rfl⟩|skip)<;>(first|exact(ey λe=>h1 (by rw[e])).symm|exact(ey λe=>h6 (by rw[e])).symm|skip)<;>(first|(rw[A_ o_ o_,show(y2.1+1).toNat=y2.1.toNat+1 from o_];exact⟨⟨o_,o_,z3,by rw[P_ o_,P_ o_,z4,h6]⟩,o_⟩)|(rw[ci o_,ci o_] at z4;exact(bR z4).symm)))
abbrev Fk:Xct:=⟨[.v (.sl .u8)],[.el .net,.el .str],λ(x:am)=>x.1.length<=1000000000000000000/\(∀ j,j<x.1.length->0<=x.1.getD j default/\x.1.getD j default<=255),λ(x:am) (y:cQ)=>okN y.1/\y.2.1.size<=30⟩
def Anh:=Ama.X Fk<|Xct.o [0,2,3,4,5] Ama.2 func38 (by
 rintro⟨(b:List Int),_⟩ hp;refine ho (.ob (∀ (j:Nat),j<List.length (b,()).1->0<=List.getD b j default/\List.getD b j default<=255)<|.ob (List.length b<=1000000000000000000)<|.dr AdN ((),()) λ(y3:bC)=>.dr SL ((),()) λ(y4:D_)=>.lx Fk (y3.1,y4.1,())) ?_;refine Ac ?_ λ_=>Ac ?_ λ_=>Bn trivial λ(y3:bC) i3=>Bn trivial λ(y4:D_) i4=>lxY ?_<;>(try simp only[AA] at *)<;>(try simp only[std,Nat.reduceAdd] at *)<;>(first|exact hp.2|exact hp.1|exact⟨i3,i4⟩))
def AnM:=Anh.X Fk<|Xct.o [0,2,3] Anh.2 func15 (by
 rintro⟨(b:List Int),_⟩ hp;refine ho (.dr Fk (b,()) λ(y2:cQ)=>.lx Fk (y2.1,y2.2.1,())) ?_;refine BA ?_ λo1 (y2:cQ) i2=>lxY ?_<;>(try simp only[AA] at *)<;>(try simp only[std,Nat.reduceAdd] at *)<;>(first|exact hp|exact i2))
def AcL (L:List bE):∀ D:List ByteArray,0<=sumH L D
 | []=>Int.le_refl _
 | h::D=>by rw[sumH];have:=AcL L D;omega
def AeE {L:List bE} {hs:List ByteArray} {t i:Int} (h0:0<=i) (hi:i<hs.length) (ht:0<=t) (e:t+sumH L (hs.drop i.toNat)=sumH L hs) (hL:L.length<=1000) (hh:sumH L hs=L.length):(IntKind.i64.wrap (t+((L.filter λs=>decide (s.to.host=hs.getD i.toNat default)).length:Int))+sumH L (hs.drop (i+1).toNat)=sumH L hs/\0<=IntKind.i64.wrap (t+((L.filter λs=>decide (s.to.host=hs.getD i.toNat default)).length:Int))):=by
 have hf:(L.filter λs=>decide (s.to.host=hs.getD i.toNat default)).length<=L.length:=List.length_filter_le _ _;have hg:=AcL L (hs.drop (i.toNat+1));rw[B_ o_,sumH] at e;rw[A_ o_ o_,show(i+1).toNat=i.toNat+1 from o_];omega
def Aaa (n:N_) (h:ByteArray):(topsOf n h).length<=n.log.length:=by
 have h1:=KX (λs:bE=>s.top) (n.log.filter λs=>decide (s.to.host=h)) [];have h2:=List.length_filter_le (λs:bE=>decide (s.to.host=h)) n.log;rw[aU] at h1;unfold topsOf;omega
def lBytesO:Fct:=AkN [.sl .u8]
abbrev B5 (b:(List Int)):LInv:=⟨[⟨.s,13,true,.el .int⟩,⟨.b,3,true,.el .net⟩,⟨.b,7,true,.el .net⟩,⟨.b,4,true,.el .addr⟩,⟨.b,10,true,.el .net⟩],λ(z x:dH)=>((x.2.1=z.2.1/\x.2.2.1=z.2.2.1/\x.2.1.log.length<=x.1/\x.1<=x.2.2.1.log.length)/\x.2.2.2.1=z.2.2.2.1)/\x.2.2.2.2.1=z.2.2.2.2.1,λ(x:dH)=>x.2.2.1.log.length-x.1.toNat⟩
abbrev BY (b:(List Int)):LInv:=⟨[⟨.s,16,true,.el .int⟩,⟨.s,14,true,.sl .addr⟩,⟨.b,3,true,.el .net⟩,⟨.b,4,true,.el .addr⟩,⟨.b,7,true,.el .net⟩,⟨.b,10,true,.el .net⟩,⟨.s,15,true,.sl .addr⟩],λ(z x:dI)=>(((((x.2.1=z.2.1/\0<=x.1/\x.1<=x.2.1.length)/\x.2.2.1=z.2.2.1)/\x.2.2.2.1=z.2.2.2.1)/\x.2.2.2.2.1=z.2.2.2.2.1)/\x.2.2.2.2.2.1=z.2.2.2.2.2.1)/\x.2.2.2.2.2.2.1=z.2.2.2.2.2.2.1,λ(x:dI)=>x.2.1.length-x.1.toNat⟩
abbrev BR (b:(List Int)):LInv:=⟨[⟨.s,18,true,.el .int⟩,⟨.s,19,true,.el .int⟩,⟨.s,17,true,.sl .str⟩,⟨.b,7,true,.el .net⟩,⟨.b,3,true,.el .net⟩,⟨.b,4,true,.el .addr⟩,⟨.b,10,true,.el .net⟩],λ(z x:dJ)=>(((x.2.2.1=z.2.2.1/\x.2.2.2.1=z.2.2.2.1/\0<=x.2.1/\x.2.1<=x.2.2.1.length/\x.1+sumH x.2.2.2.1.log (x.2.2.1.drop x.2.1.toNat)=sumH x.2.2.2.1.log x.2.2.1/\0<=x.1)/\x.2.2.2.2.1=z.2.2.2.2.1)/\x.2.2.2.2.2.1=z.2.2.2.2.2.1)/\x.2.2.2.2.2.2.1=z.2.2.2.2.2.2.1,λ(x:dJ)=>x.2.2.1.length-x.2.1.toNat⟩
theorem k3_212:lBytesO.ok Tryz.prog 3:=Fct.p (KP [0,2,3,4,5,6,7,10,13,14,15,16,17,18,19,20,21] [23,53,61,70,85,104,110]) (λ⟨b,_⟩=>λ|9=>some (B5 b)|16=>some (BY b)|23=>some (BR b)|_=>none) AnM.2 func3 (by
 rintro⟨(b:List Int),_⟩ hp;refine ho (let H_:Out:=.leaf (mkR lBytesO.rs (false,())) [] [];.cl Alz (b,()) λz2=>.br (z2.1) (.leaf (mkR lBytesO.rs (true,())) [] []) (.ob (Ik.pre (b,()))<|.lp de (True) (Ik.is (b,())) λy3=>.cl MG (y3.1,y3.2.1,y3.2.2.1,y3.2.2.2.1,()) λz3=>.cl Kq (y3.1,y3.2.1,()) λz4=>.cl Er (y3.1,z4.1,z3.1,y3.2.1.host,()) λz5=>.br (!z5.1) H_ (lpx (B5 b) ((y3.1.log.length:Int),(y3.1,(z3.1,(y3.2.1,(z4.1,()))))) λ(y8:dH) bk8=>let J_:=Value.int IntKind.i64 y8.1;.br (decide (y8.1<(y8.2.2.1.log.length:Int))) (.ix y8.1 y8.2.2.1.log.length<|.cl GH (y8.2.2.1.log.getD y8.1.toNat default,()) λz6=>.br (!z6.1) H_ (.re (b)<|.bk (bk8 (w1 y8.1,(y8.2.1,(y8.2.2.1,(y8.2.2.2.1,(y8.2.2.2.2.1,())))))))) (.cl FX (y8.2.1,y8.2.2.2.2.1,y8.2.2.1,y8.2.2.2.1.host,()) λz7=>.cl Ei (y8.2.1,y8.2.2.1,y8.2.2.2.1.host,()) λz8=>lpx (BY b) ((0:Int),(z7.1,(y8.2.1,(y8.2.2.2.1,(y8.2.2.1,(y8.2.2.2.2.1,(z8.1,()))))))) λ(y16:dI) bk16=>.br (decide (y16.1<(y16.2.1.length:Int))) (.ix y16.1 y16.2.1.length<|.br (!(y16.2.1.getD y16.1.toNat default).host.toList==y16.2.2.2.1.host.toList) H_ (.ix y16.1 y16.2.1.length<|.cl DC (y16.2.2.2.2.2.2.1,y16.2.1.getD y16.1.toNat default,()) λz9=>.br (!z9.1) H_ (.re J_<|.re (b)<|.bk (bk16 (w1 y16.1,(y16.2.1,(y16.2.2.1,(y16.2.2.2.1,(y16.2.2.2.2.1,(y16.2.2.2.2.2.1,(y16.2.2.2.2.2.2.1,()))))))))))) (.cl LQ (y16.2.2.2.2.1,()) λz10=>lpx (BR b) ((0:Int),((0:Int),(z10.1,(y16.2.2.2.2.1,(y16.2.2.1,(y16.2.2.2.1,(y16.2.2.2.2.2.1,()))))))) λ(y27:dJ) bk27=>.br (decide (y27.2.1<(y27.2.2.1.length:Int))) (.ix y27.2.1 y27.2.2.1.length<|.cl Jr (y27.2.2.2.1,y27.2.2.1.getD y27.2.1.toNat default,()) λz11=>.re (Value.int IntKind.i64 y16.1)<|.re J_<|.re (b)<|.bk (bk27 (wr (y27.1+(z11.1.length:Int)),(w1 y27.2.1,(y27.2.2.1,(y27.2.2.2.1,(y27.2.2.2.2.1,(y27.2.2.2.2.2.1,(y27.2.2.2.2.2.2.1,()))))))))) (.ob (Fk.pre (b,()))<|.lp cQ (True) (Fk.is (b,())) λy34=>.br (y27.1==(y27.2.2.2.1.log.length:Int)) (.cl FX (y27.2.2.2.2.1,y27.2.2.2.1,y27.2.2.2.2.2.2.1,y27.2.2.2.2.2.1.host,()) λz12=>.br ((z12.1.length:Int)==0) (.cl Kw (y34.1,y34.2.1,()) λz13=>.cl Kw (y34.1,y34.2.1,()) λz14=>.cl JA (z13.1,z14.1,()) λz15=>.leaf (mkR lBytesO.rs (z15.1,())) [] []) H_) H_)))))) ?_;refine Aj trivial λ_=>(Aa (λh1=>Fct.leafY ?_) λh1=>Ac ?_ λ_=>Ju trivial λy3 i3=>Aj ?_ λ_=>Aj ?_ λ_=>Aj ?_ λ_=>Aa (λh7=>Fct.leafY ?_) λh7=>Aq ?_ λ(y8:dH) i8=>Aa (λh9=>CW ?_ λo10 o11=>Aj trivial λ_=>Aa (λh12=>Fct.leafY ?_) λh12=>An<|AR ?_) λh9=>Aj ?_ λ_=>Aj ?_ λ_=>Aq ?_ λ(y16:dI) i16=>Aa (λh17=>CW ?_ λo18 o19=>Aa (λh20=>Fct.leafY ?_) λh20=>CW ?_ λo21 o22=>Aj ?_ λ_=>Aa (λh24=>Fct.leafY ?_) λh24=>An<|An<|AR ?_) λh17=>Aj ?_ λ_=>Aq ?_ λ(y27:dJ) i27=>Aa (λh28=>CW ?_ λo29 o30=>Aj ?_ λ_=>(An<|An<|An<|AR ?_)) λh28=>Ac ?_ λ_=>Ju trivial λy34 i34=>Aa (λh35=>Aj ?_ λ_=>Aa (λh37=>Aj ?_ λ_=>Aj ?_ λ_=>Aj ?_ λ_=>Fct.leafY ?_) λh37=>Fct.leafY ?_) λh35=>Fct.leafY ?_)<;>(try simp only[AA] at *)<;>(try simp only[lBytesO,std,Nat.reduceAdd,szF,toF,eqF,mkF,heF] at *)<;>have hb:=AhF hp.1<;>(first|rfl|exact⟨o_,hb⟩|skip)<;>obtain⟨g1,g2,g3,g4,g5,g6,g7,g8⟩:=i3<;>(have gz:=Agq g1;have q:=W9 g3 g6 g4 y3.2.2.1 y3.2.2.2.1;have eh:=(Sj g6).1;have u1:=q.lx;have u2:=q.ly;have u3:=q.ge)<;>(first|exact⟨o_,o_⟩|exact⟨o_,o_,o_⟩|exact⟨o_,o_,o_,o_⟩|(rw[eh,q.sm] at h7;exact absurd h7 (by decide))|skip)<;>obtain⟨k8,n8,x8,a8,w8,v8⟩:=y8<;>dsimp only at *<;>obtain⟨⟨⟨z1,z2,z3,z4⟩,z5⟩,z6⟩:=i8<;>subst z1 z2 z5 z6<;>(first|exact⟨o_,o_⟩|exact⟨o_,o_,o_⟩|(rw[q.ow _ o_ o_] at h12;exact absurd h12 (by decide))|(rw[A_ o_ o_];exact⟨⟨⟨⟨rfl,rfl,o_,o_⟩,rfl⟩,rfl⟩,o_⟩)|skip)<;>obtain⟨k16,m16,n16,a16,x16,w16,l16,v16⟩:=y16<;>dsimp only at *<;>obtain⟨⟨⟨⟨⟨⟨r1,r2,r3⟩,r4⟩,r5⟩,r6⟩,r7⟩,r8⟩:=i16<;>subst r1 r4 r5 r6 r7 r8<;>(have hlb:=DD y3.1 (loadFast y3.1 y3.2.1 y3.2.2.1 y3.2.2.2.1).1 y3.2.1.host;have hlm:(learnedMore y3.1 (loadPlain y3.1 y3.2.1).1 (loadFast y3.1 y3.2.1 y3.2.2.1 y3.2.2.2.1).1 y3.2.1.host).length<=(learnedBy y3.1 (loadFast y3.1 y3.2.1 y3.2.2.1 y3.2.2.2.1).1 y3.2.1.host).length:=List.length_filter_le _ _)<;>(first|omega|(have hm:=AjO (Ae (i:=k16.toNat) o_);first|exact absurd hm.1 h20|(rw[hm.2] at h24;exact absurd h24 (by decide))|(rw[A_ o_ o_];exact⟨⟨⟨⟨⟨⟨⟨rfl,o_,o_⟩,rfl⟩,rfl⟩,rfl⟩,rfl⟩,rfl⟩,o_⟩))|skip)<;>(try have hsum:=Adq (loadFast y3.1 y3.2.1 y3.2.2.1 y3.2.2.2.1).1)<;>(first|exact⟨o_,o_,Int.zero_add _,Int.le_refl _⟩|skip)<;>obtain⟨t27,k27,d27,x27,n27,a27,w27,v27⟩:=y27<;>dsimp only at *<;>obtain⟨⟨⟨⟨s1,s2,s3,s4,s5,s6⟩,s7⟩,s8⟩,s9⟩:=i27<;>subst s1 s2 s7 s8 s9<;>have hul:=KX (λs:bE=>s.to.host) (loadFast y3.1 y3.2.1 y3.2.2.1 y3.2.2.2.1).1.log []<;>rw[aU,cE] at hul<;>(first|omega|exact⟨o_,o_,o_⟩|(have ss:=AeE s3 h28 s6 s5 u1 hsum;rw[A_ (n:=k27+1) o_ o_];exact⟨⟨⟨⟨⟨rfl,rfl,o_,o_,ss.1,ss.2⟩,rfl⟩,rfl⟩,rfl⟩,o_⟩)|skip)<;>rw[bQ o_] at s5<;>(have s10:t27=(loadFast y3.1 y3.2.1 y3.2.2.1 y3.2.2.2.1).1.log.length:=by rw[hsum] at s5;exact(Int.add_zero _).symm.trans s5)<;>(first|exact absurd s10 h35|(rw[eh,q.nl] at h37;exact absurd rfl h37)|skip)<;>(try obtain⟨⟨v1,v2,v3,v4⟩,v5⟩:=i34)<;>(try have v6:=Aaa y34.1 y34.2.1)<;>(first|rfl|omega|exact⟨o_,o_⟩|skip))
def Aom:=AnM.a lBytesO k3_212
section
open Go.ChangeShapes Go.WideShapes Go.ChangeAt Go.RowKit
theorem own:ownKnob Tryz.prog.godebug=none:=k_
theorem types:∀ e t,tyOf e=some t->e∈([3,4,5,9,27,30,32,38,40,44,49,56,76,81,91,144,147,154,160,167,171,177,213,245,252,273,276,287]:List TypeId):=by
 intro e t h;unfold tyOf at h;split at h<;>first|(simp;done)|cases h
theorem gU (os:Os) (started:os.Started) (H:Type) (enc:TypeId×Value->H) :
 ReturnsInHanded {} Tryz.checked os 3 .any (Rows.fnOthersLearnSpec.pre6 enc Tryz.prog Tryz.f3 Rows.fnOthersLearnRow.domain false) (Rows.fnOthersLearnSpec.post enc Tryz.prog Tryz.f3 false true false false):=by
 refine ZZ (C:=Tryz.checked) own started k_ func3
  (ChangeSpec.witness6 (enc:=enc) (C:=Tryz.checked) false ⟨#[],#[.slice none 0 0],[]⟩ 8 k_ k_ k_ k_) ?_
 intro W base args ds gs before hval0 hW hsh;have hval:∀ (j:Nat) t v,Tryz.f3.params[j]? = some t->args[j]? = some v->Value.okWide Tryz.prog W .any base t v:=hval0;refine Y7 (show Ai5 Tryz.prog Tryz.f3 tyOf [3,4,5,9,27,30,32,38,40,44,49,56,76,81,91,144,147,154,160,167,171,177,213,245,252,273,276,287] [.sl .u8]=true from k_) types rfl Tryz.underlying4 rfl hW (λxs h=>?_) hval hsh (Z2 k_ k_ k_) k3_212
 ·rw[Tryz.params3] at h;obtain⟨x,rfl⟩:=eo.1 (show xs.length=1 from h);rfl
set_option maxHeartbeats 0 in
theorem closed:joinedFacts Tryz.prog 3 Tryz.f3 Rows.fnOthersLearnSpec Rows.fnOthersLearnRow=true:=by
 unfold joinedFacts;refine(Dj (Dj (Dj (Dj (Dj (Dj (Dj (Dj (Dj (Dj (Dj (Dj (Dj (Dj (Dj (Dj (Dj (Dj (Dj (Dj (Dj (Dj (Dj (Dj (Dj (Dj (Dj (Dj (Dj (Dj (Dj ?_ ?_) ?_) ?_) ?_) ?_) ?_) ?_) ?_) ?_) ?_) ?_) ?_) ?_) ?_) ?_) ?_) ?_) ?_) ?_) ?_) ?_) ?_) ?_) ?_) ?_) ?_) ?_) ?_) ?_) ?_) ?_);all_goals decide +kernel
theorem hU:Rows.fnOthersLearnRow.holds Tryz.pinned (OpenSpec.ofChange Rows.fnOthersLearnSpec) :=
 OpenClaim.holds_of_wide 3 Tryz.f3 rfl rfl rfl rfl rfl rfl rfl ⟨rfl,rfl,rfl,rfl,rfl⟩ rfl rfl rfl rfl rfl k_ func3 closed
  (dZ k_) (by unfold Func.isWrapper;first|(rw[G_ (by decide +kernel)];kernel_rfl)|(rw[F_ (by decide +kernel)];exact⟨rfl,rfl⟩))
  (λos started H enc _=>gU os started H enc)
theorem proved:Rows.FnOthersLearnSaid:=hU
end
end Go.Proofs.YtfklkhgmgglloaaGreat.fnOthersLearn
