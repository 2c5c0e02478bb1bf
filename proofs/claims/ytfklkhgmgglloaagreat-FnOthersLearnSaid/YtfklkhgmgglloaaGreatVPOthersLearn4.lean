/-
  Contracts of functions that the law of FnOthersLearn reaches, part 4.
-/
import Derived.Test.YtfklkhgmgglloaaGreatVPOthersLearn3
namespace Go.Proofs.YtfklkhgmgglloaaGreat.fnOthersLearn
open Go.Proofs.YtfklkhgmgglloaaGreat
open Go.D Go.Proofs.Tryz
set_option maxRecDepth 100000
set_option maxHeartbeats 2000000
set_option linter.defProp false
set_option linter.unusedVariables false
set_option linter.unusedSimpArgs false
def Amz:=Amc.X Sp<|Xct.o [0,2,3,4,5,6,7,8,9] Amc.2 func5 (by
 rintro⟨(b:List Int),_⟩ hp;refine ho (.ob (∀ (j:Nat),j<List.length (b,()).1->0<=List.getD b j default/\List.getD b j default<=255)<|.ob (List.length b<=1000000000000000000)<|.dr AbN ((),()) λ(y3:bC)=>.dr QF ((),()) λ(y4:au)=>.dr QK ((),()) λ(y5:am)=>let H_:Out:=.cl RE (b,(30:Int),()) λ(z2:E_)=>.dr Ip ((),wr ((12:Int)+z2.1),()) λ(y10:am)=>.lx Sp (y3.1,y4.1,y5.1,y10.1,());.lp (Bool) (True) (λx=>True) λy6=>.br (y6) H_ H_) ?_;refine Ac ?_ λ_=>Ac ?_ λ_=>Bn trivial λ(y3:bC) i3=>Bn trivial λ(y4:au) i4=>Bn trivial λ(y5:am) i5=>Ju trivial λy6 i6=>Aa (λh7=>Cu ?_ λo8 z2 ez2=>BA ?_ λo9 (y10:am) i10=>lxY ?_) (λh7=>Cu ?_ λo11 z3 ez3=>BA ?_ λo12 (y13:am) i13=>lxY ?_)<;>(try subst_vars)<;>(try simp only[AA] at *)<;>(try simp only[std,Nat.reduceAdd] at *)<;>(first|exact hp.2|exact hp.1|skip)<;>(have hm:(0:Int)<=(if 30<3+(b.length:Int) / 12 then 30 else 3+(b.length:Int) / 12)/\(if 30<3+(b.length:Int) / 12 then 30 else 3+(b.length:Int) / 12)<=30:=by split<;>omega)<;>generalize (if 30<3+(b.length:Int) / 12 then 30 else 3+(b.length:Int) / 12)=q at *<;>have hw:IntKind.i64.wrap (12+q)=12+q:=A_ o_ o_<;>simp only[hw] at *<;>(first|omega|exact⟨o_,o_⟩|exact⟨i3.1,i3.2,o_,o_,o_⟩|skip))
def LU {b:UInt8} {p q:List UInt8} (h:b∉p):idxB b (ofL (p++b::q))=p.length:=by
 unfold idxB;rw[BC,List.findIdx_append,List.findIdx_cons];have h2:p.findIdx (λx=>x==b)=p.length:=by
  rw[List.findIdx_eq_length_of_false λx hx=>by
   have:x≠b:=λe=>h (e▸hx)
   simpa using this]
 rw[h2];simp
def Tr {b:UInt8} {p:List UInt8} (h:b∉p):idxB b (ofL p)=p.length:=by
 unfold idxB;rw[BC,List.findIdx_eq_length_of_false λx hx=>by
  have:x≠b:=λe=>h (e▸hx)
  simpa using this]
def Pi (l:List UInt8) (a b:Nat):(ofL l).extract a b=ofL ((l.take b).drop a):=by
 rw[<-AH ((ofL l).extract a b),Az,BC]
def AkI {p q:List UInt8} (hp:p≠[]) (h:(60:UInt8)∉p):feedAll (ofL (p++60::q))=(⟨3,⟨#[]⟩,[],ofL p⟩::(feedAll (ofL (60::q))).1,(feedAll (ofL (60::q))).2):=by
 have h1:0<p.length:=List.length_pos_iff.2 hp;have e:=LU (q:=q) h;rw[Rs (by rw[e];exact h1) (by rw[e,Dd];simp),e,Pi,Pi,Dd];have e1:(List.take p.length (p++60::q)).drop 0=p:=by simp
 have e2:(List.take (p++60::q).length (p++60::q)).drop p.length=60::q:=by rw[ci (Y_ _)];simp
 rw[e1,e2]
def Aj3 {c q:List UInt8} (h:(62:UInt8)∉c):feedAll (ofL (60::c++62::q))=((if(tagOf (ofL c)).2 then[(tagOf (ofL c)).1] else[])++(feedAll (ofL q)).1,(feedAll (ofL q)).2):=by
 have e:idxB 62 (ofL (60::c++62::q))=(60::c).length:=LU (by simp[h]);have e0:idxB 60 (ofL (60::c++62::q))=0:=LU (p:=[]) (by simp);rw[VF e0 (by rw[e,Dd];simp),e,Pi,Pi,Dd];have e1:(List.take (60::c).length (60::c++62::q)).drop 1=c:=by rw[List.take_left];rfl
 have e2:(List.take (60::c++62::q).length (60::c++62::q)).drop ((60::c).length+1)=q:=by rw[ci (Y_ _),<-List.drop_drop,List.drop_left];rfl
 rw[e1,e2];split<;>simp_all
def AjC {l:List UInt8} (h:(60:UInt8)∉l):feedAll (ofL l)=([],ofL l):=by
 have e:=Tr h;by_cases hl:l=[]
 ·subst hl;exact JX (by rw[e];rintro⟨h1,_⟩;exact absurd h1 (by simp)) (.inr (by rw[Tr (by simp)];rfl))
 ·exact JX (by rw[e,Dd];omega) (.inl (by rw[e];exact λh=>hl (List.length_eq_zero_iff.1 h)))
def Ak7 {q:List UInt8} (h:(62:UInt8)∉q):feedAll (ofL (60::q))=([],ofL (60::q)):=by
 have e0:idxB 60 (ofL (60::q))=0:=LU (p:=[]) (by simp);exact JX (by rw[e0];omega) (.inr (by rw[Tr (by simp[h]),Dd]))
def UL {b:UInt8}:∀ {l:List UInt8},b∈l->∃ p q,l=p++b::q/\b∉p
 | x::l,h=>by
  by_cases e:x=b
  ·exact⟨[],l,by rw[e];rfl,by simp⟩
  ·obtain⟨p,q,h1,h2⟩:=UL (l:=l) (by
    rcases ah.1 h with h|h
    ·exact absurd h.symm e
    ·exact h)
   exact⟨x::p,q,by rw[h1];rfl,by simp only[ah,not_or];exact⟨λh=>e h.symm,h2⟩⟩
def Qz (P:List UInt8->List af->List UInt8->Prop)
 (s0:∀ l,(60:UInt8)∉l->P l [] l) (s1:∀ q,(62:UInt8)∉q->P (60::q) [] (60::q))
 (tx:∀ p q ts r,p≠[]->(60:UInt8)∉p->P (60::q) ts r->P (p++60::q) (⟨3,⟨#[]⟩,[],ofL p⟩::ts) r)
 (tg:∀ c q ts r,(62:UInt8)∉c->P q ts r->P (60::c++62::q) ((if(tagOf (ofL c)).2 then[(tagOf (ofL c)).1] else[])++ts) r) :
 ∀ (n:Nat) (l:List UInt8),2*l.length+(if l.head? = some 60 then 0 else 1)<=n->P l (feedAll (ofL l)).1 (toL (feedAll (ofL l)).2)
 | n,l,hn=>by
  by_cases h:(60:UInt8)∈l
  ·obtain⟨p,q,rfl,hp⟩:=UL h;by_cases hp0:p=[]
   ·subst hp0;by_cases h2:(62:UInt8)∈q
    ·obtain⟨c,r,rfl,hc⟩:=UL h2;have e:=Aj3 (q:=r) hc;rw[show([]:List UInt8)++60::(c++62::r)=60::c++62::r from rfl,e];refine tg c r _ _ hc (Qz P s0 s1 tx tg (n-1) r ?_);simp only[ew,aq,ak,List.head?_cons,aC] at hn;split<;>omega
    ·rw[ew,Ak7 h2,BC];exact s1 q h2
   ·rw[AkI hp0 hp];have hl:0<p.length:=List.length_pos_iff.2 hp0;have hh:(p++60::q).head?≠some 60:=by
     cases p with
     | nil=>exact absurd rfl hp0
     | cons x p=>intro e;simp only[cj,List.head?_cons,Q_] at e;exact hp (by rw[e];simp)
    refine tx p q _ _ hp0 hp (Qz P s0 s1 tx tg (n-1) (60::q) ?_);rw[F_ hh] at hn;simp only[aq,ak,List.head?_cons,aC] at hn ⊢;omega
  ·rw[AjC h,BC];exact s0 l h
 termination_by n=>n
 decreasing_by
  all_goals
   simp only[ew,aq,ak] at hn;have:0<n:=by
    rcases Nat.eq_zero_or_pos n with h|h
    ·subst h;exfalso;revert hn;simp
    ·exact h
   omega
def YJ (P:List UInt8->List af->List UInt8->Prop)
 (s0:∀ l,(60:UInt8)∉l->P l [] l) (s1:∀ q,(62:UInt8)∉q->P (60::q) [] (60::q))
 (tx:∀ p q ts r,p≠[]->(60:UInt8)∉p->P (60::q) ts r->P (p++60::q) (⟨3,⟨#[]⟩,[],ofL p⟩::ts) r)
 (tg:∀ c q ts r,(62:UInt8)∉c->P q ts r->P (60::c++62::q) ((if(tagOf (ofL c)).2 then[(tagOf (ofL c)).1] else[])++ts) r) (x:ByteArray) :
 P (toL x) (feedAll x).1 (toL (feedAll x).2):=by
 have:=Qz P s0 s1 tx tg _ (toL x) (Y_ _)
 rwa [AH] at this
def WO (x y:ByteArray):feedAll (x++y)=((feedAll x).1++(feedAll ((feedAll x).2++y)).1,(feedAll ((feedAll x).2++y)).2):=by
 have:=YJ (λl ts r=>feedAll (ofL l++y)=(ts++(feedAll (ofL r++y)).1,(feedAll (ofL r++y)).2)) (λl _=>by simp) (λq _=>by simp)
  (λp q ts r hp h ih=>by
   have e:ofL (p++60::q)++y=ofL (p++60::(q++toL y)):=by rw[<-AH y,<-CR,BC];simp
   have e2:ofL (60::q)++y=ofL (60::(q++toL y)):=by rw[<-AH y,<-CR,BC];simp
   rw[e2] at ih;rw[e,AkI hp h,ih];simp)
  (λc q ts r h ih=>by
   have e:ofL (60::c++62::q)++y=ofL (60::c++62::(q++toL y)):=by rw[<-AH y,<-CR,BC];simp
   have e2:ofL q++y=ofL (q++toL y):=by rw[<-AH y,<-CR,BC]
   rw[e2] at ih;rw[e,Aj3 h,ih];simp) x
 simpa only[AH] using this
def gC (x:UInt8):Bool:=x != 115&&(x != 59&&(x != 32&&(x != 91&&x != 60)))
def hdB (f:UInt8->Bool):List UInt8->Bool
 | []=>false
 | y::_=>f y
def folB (b:UInt8) (f:UInt8->Bool):List UInt8->Bool
 | []=>true
 | x::l=>(x != b||hdB f l)&&folB b f l
def JY {b:UInt8} {f:UInt8->Bool}:∀ {a c:List UInt8},folB b f a=true->folB b f c=true->folB b f (a++c)=true
 | [],_,_,h=>h
 | x::a,c,h,h2=>by
  simp only[folB,S_,cj] at h ⊢;refine⟨?_,JY h.2 h2⟩;cases a with
  | nil=>simp only[hdB,Bool.or_false] at h;rw[h.1];rfl
  | cons y a=>exact h.1
def IC {b:UInt8} {f:UInt8->Bool}:∀ {a c:List UInt8},folB b f (a++c)=true->folB b f c=true
 | [],_,h=>h
 | x::a,c,h=>by simp only[folB,S_,cj] at h;exact IC h.2
def QR {b y:UInt8} {f:UInt8->Bool} (hy:f y=false):∀ {a c:List UInt8},folB b f (a++y::c)=true->folB b f a=true
 | [],_,_=>rfl
 | x::a,c,h=>by
  simp only[folB,S_,cj] at h ⊢;refine⟨?_,QR hy h.2⟩;cases a with
  | nil=>simp only[ew,hdB,hy,Bool.or_false] at h ⊢;exact h.1
  | cons y a=>exact h.1
def US {b:UInt8} {f:UInt8->Bool}:∀ {a:List UInt8},b∉a->folB b f a=true
 | [],_=>rfl
 | x::a,h=>by simp only[ah,not_or] at h;simp only[folB,S_,db,bne_iff_ne];exact⟨.inl λe=>h.1 e.symm,US h.2⟩
def Aja {b:UInt8} {f:UInt8->Bool} {l:List UInt8} (h:folB b f (b::l)=true):hdB f l=true:=by
 simp only[folB,S_,db,bne_iff_ne,ne_eq,not_true_eq_false,false_or] at h;exact h.1
abbrev hB:List UInt8->Bool:=folB 91 gC
def gdT (s:ByteArray):Prop:=hB (toL s)=true/\(60:UInt8)∉toL s
def Hr:gdT ⟨#[]⟩:=⟨rfl,by simp[toL]⟩
def S7 {a b:ByteArray} (h:gdT a) (h2:gdT b):gdT (a++b):=by
 unfold gdT at *
 rw[Au];exact⟨JY h.1 h2.1,by simp only[ae,not_or];exact⟨h.2,h2.2⟩⟩
def AaS:∀ (n:Nat) {l:List UInt8},l.length<=n->hB l=true->(60:UInt8)∉l->∀ w,w∈LX 59 l->hB w=true/\(60:UInt8)∉w
 | n,l,hn,h,h2,w,hw=>by
  rw[VY] at hw;cases hc:Ge 59 l with
  | none=>rw[hc] at hw;simp only[List.mem_singleton] at hw;subst hw;exact⟨h,h2⟩
  | some r=>
   obtain⟨p,q⟩:=r;obtain⟨rfl,hp⟩:=L9 hc;rw[hc] at hw;simp only[ah] at hw;rcases hw with rfl|hw
   ·exact⟨QR (y:=59) (by decide) h,λq=>h2 (by simp[q])⟩
   ·cases n with
    | zero=>simp at hn
    | succ n=>exact AaS n (by simp at hn;omega) (by have:=IC (a:=p++[59]) (c:=q) (by simpa using h);exact this) (λq=>h2 (by simp[q])) w hw
def AhK {s w:ByteArray} (h:gdT s) (hw:w∈spl 59 s):gdT w:=by
 unfold spl at hw;obtain⟨v,hv,rfl⟩:=bG.1 hw;unfold gdT;rw[BC];exact AaS _ (Y_ _) h.1 h.2 v hv
def Ai7 {s:ByteArray} (h:gdT s) (i:Nat):gdT (s.extract i s.size):=by
 unfold gdT at *
 rw[Az,ci (by rw[AN];exact Y_ _)];refine⟨IC (a:=(toL s).take i) (by rw[di];exact h.1),λq=>h.2 (fC q)⟩
def Sg {s:ByteArray} (h:gdT s):∀ (l:List ByteArray) (op:Int),gdT (line8L s l op).1.text/\((line8L s l op).2=true->(line8L s l op).1.op=1->(line8L s l op).1.text.size<=60)
 | [],op=>⟨Hr,by simp[line8L]⟩
 | w::l,op=>by
  rw[line8L];split
  ·refine⟨Ai7 h _,λh1 h2=>?_⟩;simp only at h1 h2;rw[G_ (.inl h2)] at h1;have:=dZ h1;rw[cZ];omega
  ·exact Sg h l (op+1)
def Afo {c:ByteArray} (h:gdT c) (h1:(parseScript c).2=true):(parseScript c).1.length<=6/\∀ x,x∈(parseScript c).1->gdT x.text/\(x.op=1->x.text.size<=60):=by
 unfold parseScript at *
 split at h1
 ·rename_i e;rw[G_ e];simp
 ·rename_i e;rw[F_ e];split at h1
  ·rename_i e2;rw[G_ e2];refine⟨by simp only[lines8,cC];exact e2.1,λx hx=>?_⟩;simp only[lines8,bG] at hx;obtain⟨w,hw,rfl⟩:=hx;have:=Sg (AhK h hw) (words8.drop 1) 1;exact⟨this.1,λho=>this.2 (aH.1 e2.2 w hw) ho⟩
  ·exact absurd h1 (by decide)
abbrev kB:List UInt8->Bool:=folB 60 λy=>y != 115
def wrT (s:ByteArray):Prop:=kB (toL s)=true/\(91:UInt8)∉toL s
def AkM (x:UInt8):mk8 x=60↔x=91\/x=60:=by
 unfold mk8;split
 ·rename_i e;simp[e]
 ·split
  ·rename_i e1 e;subst e;decide
  ·rename_i e1 e2;exact⟨.inr,λh=>h.elim (λh=>absurd h e1) id⟩
def Aio (x:UInt8) (h:mk8 x=115):x=115:=by
 unfold mk8 at h;split at h
 ·exact absurd h (by decide)
 ·split at h
  ·exact absurd h (by decide)
  ·exact h
def Ajz (x:UInt8):mk8 x≠91:=by
 unfold mk8;split
 ·decide
 ·split
  ·decide
  ·assumption
def SJ:∀ {l:List UInt8},hB l=true->(60:UInt8)∉l->kB (l.map mk8)=true/\(91:UInt8)∉l.map mk8
 | [],_,_=>⟨rfl,by simp⟩
 | x::l,h,h2=>by
  simp only[ah,not_or] at h2;simp only[folB,S_,bz,db,bne_iff_ne] at h ⊢;have ih:=SJ h.2 h2.2;refine⟨⟨?_,ih.1⟩,by simp only[ah,not_or];exact⟨λe=>Ajz x e.symm,ih.2⟩⟩;rcases h.1 with h1|h1
  ·exact .inl λe=>((AkM x).1 e).elim h1 λe=>h2.1 e.symm
  ·right;cases l with
   | nil=>exact h1
   | cons y l=>
    simp only[hdB,bz,bne_iff_ne] at h1 ⊢;intro e;rw[Aio _ e] at h1;exact absurd h1 (by decide)
def Ajq {a b:ByteArray} (h:wrT a) (h2:wrT b):wrT (a++b):=by
 unfold wrT at *
 rw[Au];exact⟨JY h.1 h2.1,by simp only[ae,not_or];exact⟨h.2,h2.2⟩⟩
def AcP:wrT ⟨#[]⟩:=⟨rfl,by simp[toL]⟩
def XB (b:aj) (l:List bA) {x:bM} (h:gdT x.text) (h2:x.op=1->x.text.size<=60):wrT (runLine b l x).2.1/\(runLine b l x).2.1.size<=60:=by
 unfold runLine;split
 ·rename_i e;refine⟨?_,?_⟩
  ·unfold wrT markup;rw[BC];exact SJ h.1 h.2
  ·unfold markup;rw[Dd,cC,AN];exact h2 e
 all_goals (repeat' split)<;>exact⟨AcP,show(⟨#[]⟩:ByteArray).size<=60 by decide⟩
def Ng (l:List bA):∀ (r:List bM) (b:aj) (w:ByteArray) (g:List ByteArray),(∀ x,x∈r->gdT x.text/\(x.op=1->x.text.size<=60))->wrT w->wrT (runLines l r b w g).2.1/\(runLines l r b w g).2.1.size<=w.size+60*r.length
 | [],b,w,g,_,hw=>⟨hw,cO _ _⟩
 | x::r,b,w,g,h,hw=>by have h1:=XB b l (h x (by simp)).1 (h x (by simp)).2;have ih:=Ng l r (runLine b l x).1 (w++(runLine b l x).2.1) (if(runLine b l x).2.2=⟨#[]⟩ then g else g++[(runLine b l x).2.2]) (λy hy=>h y (by simp[hy])) (Ajq hw h1.1);rw[runLines];refine⟨ih.1,?_⟩;have:=ih.2;rw[aN] at this;simp only[aq];omega
def Aki {c:ByteArray} (p:HO) (h:gdT c) (h1:(parseScript c).2=true):wrT (rsOf p c).2.1/\(rsOf p c).2.1.size<=360:=by
 obtain⟨h2,h3⟩:=Afo h h1;have:=Ng (sheetsOf p.bf) (parseScript c).1 p.ba ⟨#[]⟩ [] h3 AcP;refine⟨this.1,?_⟩;have h4:(rsOf p c).2.1.size<=(⟨#[]⟩:ByteArray).size+60*(parseScript c).1.length:=this.2;have h5:(⟨#[]⟩:ByteArray).size=0:=rfl;omega
abbrev scrW:ByteArray:=⟨#[115,99,114,105,112,116]⟩
def isScr (t:af):Bool:=decide (t.kind=1)&&decide (t.name=scrW)
def modAt (l:List cU):Bool:=!decide ((findAttr l ⟨#[107,105,110,100]⟩).getD ⟨#[]⟩=⟨#[109,111,100,117,108,101]⟩)||decide ((findAttr l ⟨#[115,114,99]⟩).getD ⟨#[]⟩=⟨#[117,116,105,108]⟩)
def okTk (t:af):Prop:=gdT t.text/\(isScr t=true->modAt t.bq=true)
def Af6 (b:UInt8) (s:ByteArray):∃ r,toL s=toL ((spl b s).getD 0 default)++r:=by
 rw[FG];cases hc:Ge b (toL s) with
 | none=>exact⟨[],by simp⟩
 | some r=>
  obtain⟨p,q⟩:=r;obtain⟨e,_⟩:=L9 hc;exact⟨b::q,by rw[e];simp[BC]⟩
def Kf (s:ByteArray) (h:(tagOf s).2=true):(tagOf s).1.text=⟨#[]⟩/\((tagOf s).1.kind=1->(tagOf s).1.name=(spl 32 s).getD 0 default)/\((tagOf s).1.kind=1\/(tagOf s).1.kind=2):=by
 unfold tagOf at *
 split at h
 ·exact absurd h (by decide)
 ·rename_i h1;split at h
  ·rename_i h2;rw[F_ h1,G_ h2];split
   ·exact⟨rfl,λe=>absurd (show(2:Int)=1 from e) (by decide),.inr rfl⟩
   ·rename_i h3;rw[F_ h3] at h;exact absurd h (by decide)
  ·rename_i h2;rw[F_ h1,F_ h2];cases ha:tagAttrs ((spl 32 s).drop 1) [] with
   | none=>rw[ha] at h;simp[tagFin] at h
   | some ats=>
    rw[ha] at h;simp only[tagFin] at h ⊢;split
    ·exact⟨rfl,λ_=>rfl,.inl rfl⟩
    ·rename_i h3;rw[F_ h3] at h;exact absurd h (by decide)
def Wp {c:List UInt8} (h:(tagOf (ofL c)).2=true) (hs:isScr (tagOf (ofL c)).1=true):hdB (λy=>y==115) c=true:=by
 simp only[isScr,S_,av] at hs;have hn:=(Kf _ h).2.1 hs.1;obtain⟨r,hr⟩:=Af6 32 (ofL c);rw[<-hn,hs.2,BC] at hr;rw[hr];rfl
def wL (l:List UInt8):Nat:=2*l.count 60+(if hdB (λy=>y != 60) l then 1 else 0)
def csN:List UInt8->Nat
 | []=>0
 | x::l=>(if x=60/\hdB (λy=>y==115) l=true then 1 else 0)+csN l
def nScr (l:List af):Nat:=l.countP isScr
def Uu:∀ (a c:List UInt8),csN c<=csN (a++c)
 | [],_=>Y_ _
 | x::a,c=>by have:=Uu a c;rw[cj,csN];omega
def Qo {f:UInt8->Bool} {a c:List UInt8} (h:hdB f a=true):hdB f (a++c)=true:=by
 cases a with
 | nil=>simp[hdB] at h
 | cons x a=>exact h
def AeF (x:ByteArray) (tl:List UInt8):(feedAll x).1.length+wL (toL (feedAll x).2++tl)<=wL (toL x++tl)/\nScr (feedAll x).1+csN (toL (feedAll x).2++tl)<=csN (toL x++tl):=by
 refine YJ (λl ts r=>ts.length+wL (r++tl)<=wL (l++tl)/\nScr ts+csN (r++tl)<=csN (l++tl)) (λl _=>⟨by simp,by simp[nScr]⟩) (λq _=>⟨by simp,by simp[nScr]⟩) ?_ ?_ x
 ·intro p q ts r hp h ih;refine⟨?_,?_⟩
  ·have h1:=ih.1;simp only[wL,cj,bF,hdB,List.count_append,List.count_cons] at h1 ⊢;cases p with
   | nil=>exact absurd rfl hp
   | cons y p=>
    have hy:y≠60:=λe=>h (by simp[e])
    simp only[cj,hdB,bne_iff_ne,ne_eq,hy,not_false_eq_true,aC,aq] at h1 ⊢;simp at h1;simp;omega
  ·have h1:=ih.2;have h2:=Uu p (60::q++tl);simp only[nScr,List.countP_cons,isScr,bF,cj] at h1 h2 ⊢;simp;omega
 ·intro c q ts r h ih;refine⟨?_,?_⟩
  ·have h1:=ih.1;have h2:wL (q++tl)<=2*(q++tl).count 60+1:=by unfold wL;split<;>omega
   have h3:((if(tagOf (ofL c)).2 then[(tagOf (ofL c)).1] else[])++ts).length<=1+ts.length:=by split<;>simp<;>omega
   have h4:2*(q++tl).count 60+2<=wL (60::c++62::q++tl):=by unfold wL;simp only[cj,List.count_cons,bF,List.count_append];simp;omega
   omega
  ·have h1:=ih.2;have h2:=Uu (c++[62]) (q++tl);have e:60::c++62::q++tl=60::((c++[62])++(q++tl)):=by simp
   rw[e,csN];have h3:nScr ((if(tagOf (ofL c)).2 then[(tagOf (ofL c)).1] else[])++ts)<=(if(60:UInt8)=60/\hdB (λy=>y==115) ((c++[62])++(q++tl))=true then 1 else 0)+nScr ts:=by
    unfold nScr;rw[List.countP_append];split
    ·rename_i ht;by_cases hs:isScr (tagOf (ofL c)).1=true
     ·rw[G_ ⟨rfl,Qo (Qo (Wp ht hs))⟩];rw[List.countP_cons,G_ hs];simp
     ·rw[List.countP_cons,F_ hs];simp
    ·simp
   omega
def Afp (x:ByteArray):(feedAll x).1.length+(feedAll x).2.size<=x.size:=by
 have:=YJ (λl ts r=>ts.length+r.length<=l.length) (λl _=>by simp) (λq _=>by simp)
  (λp q ts r hp h ih=>by have:=List.length_pos_iff.2 hp;simp only[aq,ak] at ih ⊢;omega)
  (λc q ts r h ih=>by
   have h3:((if(tagOf (ofL c)).2 then[(tagOf (ofL c)).1] else[])++ts).length<=1+ts.length:=by split<;>simp<;>omega
   simp only[aq,ak] at ih h3 ⊢;omega) x
 simpa only[AN] using this
def AcD (r:ByteArray):(endText r).length<=r.size:=by
 unfold endText;split
 ·exact Nat.zero_le _
 ·rename_i h;simp only[not_or] at h;have:r.size≠0:=λe=>h.1 (by have:toL r=[]:=List.length_eq_zero_iff.1 (by rw[AN];exact e);rw[<-AH r,this];rfl)
  simp;omega
def R3 (x:ByteArray):(tokensOf x).length<=x.size:=by
 unfold tokensOf;have h1:=Afp x;have h2:=AcD (feedAll x).2;rw[ak];omega
def S0 (x:ByteArray):(feedAll x).2.data.getD 0 0=60\/(60:UInt8)∉toL (feedAll x).2:=by
 have:=YJ (λl ts r=>(ofL r).data.getD 0 0=60\/(60:UInt8)∉r) (λl h=>.inr h) (λq _=>.inl rfl)
  (λp q ts r hp h ih=>ih) (λc q ts r h ih=>ih) x
 simpa only[AH] using this
def Alc (x:ByteArray) (h:wrT x):∀ t,t∈tokensOf x->okTk t/\isScr t=false:=by
 have hw:=YJ (λl ts r=>kB l=true->(91:UInt8)∉l->(∀ t,t∈ts->okTk t/\isScr t=false)/\(91:UInt8)∉r) (λl _ h1 h2=>⟨by simp,h2⟩) (λq _ h1 h2=>⟨by simp,h2⟩)
  (λp q ts r hp h ih h1 h2=>by
   have i:=ih (IC h1) λe=>h2 (by simp only[ae];exact .inr e);refine⟨λt ht=>?_,i.2⟩;rcases ah.1 ht with rfl|ht
   ·refine⟨⟨⟨?_,?_⟩,λe=>absurd e (by simp[isScr])⟩,by simp[isScr]⟩
    ·show hB (toL (ofL p))=true;rw[BC];exact US λe=>h2 (by simp[e])
    ·show(60:UInt8)∉toL (ofL p);rw[BC];exact h
   ·exact i.1 t ht)
  (λc q ts r h ih h1 h2=>by
   have i:=ih (IC (a:=60::c++[62]) (by simpa using h1)) λe=>h2 (by simp[e]);refine⟨λt ht=>?_,i.2⟩;rcases ae.1 ht with ht|ht
   ·split at ht
    ·rename_i hk;simp only[List.mem_singleton] at ht;have hs:isScr t=false:=by
      cases hs:isScr t with
      | false=>rfl
      | true=>
       rw[ht] at hs;have a1:=Wp hk hs;have a2:hdB (λy=>y != 115) (c++62::q)=true:=by have:=Aja (l:=c++62::q) (by simpa using h1);exact this
       cases c with
       | nil=>simp[hdB] at a1
       | cons y c=>
        simp only[hdB,cj,bne_iff_ne,cY] at a1 a2;exact absurd a1 a2
     refine⟨⟨?_,λe=>absurd e (by rw[hs];decide)⟩,hs⟩;rw[ht,(Kf _ hk).1];exact Hr
    ·simp at ht
   ·exact i.1 t ht) x h.1 h.2
 intro t ht;unfold tokensOf at ht;rcases ae.1 ht with ht|ht
 ·exact hw.1 t ht
 ·unfold endText at ht;split at ht
  ·simp at ht
  ·rename_i h1;simp only[not_or] at h1;simp only[List.mem_singleton] at ht;subst ht;refine⟨⟨⟨US hw.2,(S0 x).resolve_left h1.2⟩,λe=>absurd e (by simp[isScr])⟩,by simp[isScr]⟩
def tagsP:List (List UInt8):=[[112],[47,112],[108,105,110,107,32,104,114,101,102,61,115,116,121,108,101],[115,99,114,105,112,116,32,115,114,99,61,97,112,112],[47,115,99,114,105,112,116],[115,99,114,105,112,116],[115,99,114,105,112,116,32,115,114,99,61,99,100,110,47,108,105,98],[115,99,114,105,112,116,32,115,114,99,61,117,116,105,108,32,107,105,110,100,61,109,111,100,117,108,101],[115,99,114,105,112,116,32,115,114,99,61,108,105,98,32,107,105,110,100,61,100,101,102,101,114],[105,109,103,32,115,114,99,61,108,111,103,111],[108,105,110,107,32,104,114,101,102,61,99,100,110,47,115,116,121,108,101],[98],[115,99,114,105,112,116,32,110,111,110,99,101,61,110,55],[115,99,114,105,112,116,32,115,114,99,61,101,118,105,108,47,97,112,112]]
def tgF (l:List UInt8):Bool:=tagsP.any λt=>(t++[62]).isPrefixOf l
def tgE (l:List UInt8):Bool:=tgF l||l==[112]
def tgB (F:List UInt8->Bool):List UInt8->Bool
 | []=>true
 | x::l=>(x != 60||F l)&&tgB F l
def Aa6 {a:List UInt8} (c:List UInt8) (h:tgF a=true):tgF (a++c)=true:=by
 unfold tgF at *
 obtain⟨t,ht,h1⟩:=bw.1 h;refine bw.2 ⟨t,ht,?_⟩;rw[List.isPrefixOf_iff_prefix] at *
 exact h1.trans (List.prefix_append _ _)
def AdG:∀ {a c:List UInt8},tgB tgF a=true->tgB tgE c=true->tgB tgE (a++c)=true
 | [],_,_,h=>h
 | x::a,c,h,h2=>by simp only[tgB,S_,db,cj] at h ⊢;refine⟨h.1.imp id λh=>?_,AdG h.2 h2⟩;unfold tgE;rw[Aa6 c h];rfl
def Wn:∀ {a c:List UInt8},tgB tgF a=true->tgB tgF c=true->tgB tgF (a++c)=true
 | [],_,_,h=>h
 | x::a,c,h,h2=>by simp only[tgB,S_,db,cj] at h ⊢;exact⟨h.1.imp id λh=>Aa6 c h,Wn h.2 h2⟩
def AaF {F:List UInt8->Bool}:∀ {a c:List UInt8},tgB F (a++c)=true->tgB F c=true
 | [],_,h=>h
 | x::a,c,h=>by simp only[tgB,S_,cj] at h;exact AaF h.2
def Ahi:(tagsP.all λt=>!(t.contains 62)&&modAt (tagOf (ofL t)).1.bq)=true:=by decide +kernel
def AiU {c q:List UInt8} (hc:(62:UInt8)∉c) (h:tgE (c++62::q)=true):modAt (tagOf (ofL c)).1.bq=true:=by
 unfold tgE at h;rcases db _ _▸h with h|h
 ·obtain⟨t,ht,h1⟩:=bw.1 h;have h2:=aH.1 Ahi t ht;simp only[S_,cM,List.contains_eq_mem,cy] at h2;rw[List.isPrefixOf_iff_prefix] at h1;obtain⟨s,hs⟩:=h1;have e1:=L0 (b:=62) s h2.1;have e2:=L0 (b:=62) q hc;rw[<-hs,bF] at e2;rw[cj,ew] at e2;rw[e1] at e2;simp only[Q_,bP] at e2;rw[<-e2.1];exact h2.2
 ·simp only[cY] at h;cases c with
  | nil=>simp at h
  | cons y c=>simp at h
def pgT (l:List UInt8):Prop:=hB l=true/\tgB tgE l=true
def Aav {a c:List UInt8} (h:pgT (a++c)):pgT c:=⟨IC h.1,AaF h.2⟩
def AbJ (x:ByteArray) (tl:List UInt8) (h:pgT (toL x++tl)):(∀ t,t∈(feedAll x).1->okTk t)/\pgT (toL (feedAll x).2++tl):=by
 refine YJ (λl ts r=>pgT (l++tl)->(∀ t,t∈ts->okTk t)/\pgT (r++tl)) (λl _ h=>⟨by simp,h⟩) (λq _ h=>⟨by simp,h⟩) ?_ ?_ x h
 ·intro p q ts r hp h ih h1;have i:=ih (Aav (a:=p) (by simpa using h1));refine⟨λt ht=>?_,i.2⟩;rcases ah.1 ht with rfl|ht
  ·refine⟨⟨?_,?_⟩,λe=>absurd e (by simp[isScr])⟩
   ·show hB (toL (ofL p))=true;rw[BC];exact QR (y:=60) (c:=q++tl) (by decide) (by simpa using h1.1)
   ·show(60:UInt8)∉toL (ofL p);rw[BC];exact h
  ·exact i.1 t ht
 ·intro c q ts r h ih h1;have i:=ih (Aav (a:=60::c++[62]) (by simpa using h1));refine⟨λt ht=>?_,i.2⟩;rcases ae.1 ht with ht|ht
  ·split at ht
   ·rename_i hk;simp only[List.mem_singleton] at ht;refine⟨by rw[ht,(Kf _ hk).1];exact Hr,λ_=>?_⟩;rw[ht];have h2:=h1.2;simp only[cj,tgB,S_,db,bne_iff_ne,ne_eq,not_true_eq_false,false_or,bF] at h2;exact AiU h h2.1
   ·simp at ht
  ·exact i.1 t ht
def AgV (x:ByteArray) (h:pgT (toL (feedAll x).2)):∀ t,t∈endText (feedAll x).2->okTk t/\isScr t=false:=by
 intro t ht;unfold endText at ht;split at ht
 ·simp at ht
 ·rename_i h1;simp only[not_or] at h1;simp only[List.mem_singleton] at ht;subst ht;exact⟨⟨⟨h.1,(S0 x).resolve_left h1.2⟩,λe=>absurd e (by simp[isScr])⟩,by simp[isScr]⟩
def bOk (b:aj):Prop:=(∀ n,n∈b.bj->gdT n.text/\(n.name=scrW->modAt n.bq=true))/\(∀ k,k∈b.bn->0<=k/\k<b.bj.length)/\b.bn.getD 0 default=0/\0<b.bn.length
def scNode (b:aj) (k:Int):Bool:=decide (0<=k/\k<b.bj.length)&&decide ((b.bj.getD k.toNat default).name=scrW)
def openScr (b:aj):Nat:=b.bn.countP (scNode b)
def Xp {b:aj} {n:cP} {o:List Int} {k:Int} (h:0<=k/\k<b.bj.length):scNode ⟨b.bj++[n],o⟩ k=scNode b k:=by
 unfold scNode;have e:(b.bj++[n]).getD k.toNat default=b.bj.getD k.toNat default:=by rw[aV,aV,cL o_]
 rw[e];have e2:(0<=k/\k<((b.bj++[n]).length:Int)):=by rw[ak];omega
 rw[bR h,bR e2]
def Jd {b:aj} (n:cP) (h:bOk b):openScr ⟨b.bj++[n],b.bn⟩=openScr b:=by
 unfold openScr;exact List.countP_congr λk hk=>by rw[Xp (h.2.1 k hk)]
def UZ {b:aj} {n:cP} (h:bOk b) (h1:gdT n.text) (h2:n.name=scrW->modAt n.bq=true):bOk ⟨b.bj++[n],b.bn⟩:=by
 refine⟨λx hx=>?_,λk hk=>?_,h.2.2⟩
 ·rcases ae.1 hx with hx|hx
  ·exact h.1 x hx
  ·rw[List.mem_singleton.1 hx];exact⟨h1,h2⟩
 ·have:=h.2.1 k hk;simp only[ak];omega
def M8 (b:aj) (n:ByteArray) (h:0<b.bn.length):∀ k,k<=b.bn.length->∃ j,closeN b n k=b.bn.take j/\1<=j
 | 0,_=>⟨b.bn.length,by rw[ci (Y_ _)];rfl,h⟩
 | 1,_=>⟨b.bn.length,by rw[ci (Y_ _)];rfl,h⟩
 | m+2,hk=>by
  rw[closeN];split
  ·exact⟨m+1,rfl,o_⟩
  ·exact M8 b n h (m+1) o_
def AcS {b:aj} (n:ByteArray) (h:bOk b):bOk (closeB b n)/\openScr (closeB b n)<=openScr b:=by
 obtain⟨j,e,hj⟩:=M8 b n h.2.2.2 b.bn.length (Y_ _);unfold closeB;rw[e];refine⟨⟨h.1,λk hk=>h.2.1 k (fH hk),?_,?_⟩,?_⟩
 ·have e1:=h.2.2.1;have e2:=h.2.2.2;rw[aV] at e1 ⊢;show((b.bn.take j)[0]?).getD default=0;rw[fQ,G_ o_];exact e1
 ·show 0<(b.bn.take j).length;rw[cX];have:=h.2.2.2;omega
 ·exact List.Sublist.countP_le (List.take_sublist _ _)
def Acx {b:aj} {n:ByteArray} (h:bOk b) (h1:1<=lastOpen b) (hn:n=scrW) (h3:(b.bj.getD (lastOpen b).toNat default).name=scrW):openScr (closeB b n)+1<=openScr b:=by
 have hl:=h.2.2.2;have h2:2<=b.bn.length:=by
  rcases Nat.lt_or_ge b.bn.length 2 with h4|h4
  ·exfalso;have e:b.bn.length-1=0:=o_
   unfold lastOpen at h1;rw[e,h.2.2.1] at h1;omega
  ·exact h4
 obtain⟨m,hm⟩:∃ m,b.bn.length=m+2:=⟨b.bn.length-2,o_⟩;have el:b.bn.getD (m+1) default=lastOpen b:=by unfold lastOpen;rw[hm];rfl
 have hin:lastOpen b∈b.bn:=by rw[<-el];exact Ae o_
 have hr:=h.2.1 _ hin;have ec:closeN b n b.bn.length=b.bn.take (m+1):=by rw[hm,closeN,G_];rw[el,hn];exact⟨hr.1,hr.2,h3⟩
 have es:b.bn=b.bn.take (m+1)++[lastOpen b]:=by have:=P_ (l:=b.bn) (i:=m+1) o_;rw[el] at this;rw[<-this,ci o_]
 have eq:openScr b=(b.bn.take (m+1)).countP (scNode b)+1:=by
  unfold openScr;rw[cB (List.countP (scNode b)) es,List.countP_append];have:scNode b (lastOpen b)=true:=by unfold scNode;rw[h3,bR hr];rfl
  rw[List.countP_singleton,G_ this]
 rw[eq];unfold openScr closeB;rw[ec];exact Y_ _
def SY {b:aj} {t:af} (h:bOk b) (ht:okTk t):bOk (addToken b t).1/\openScr (addToken b t).1<=openScr b+(if isScr t=true then 1 else 0):=by
 unfold addToken;split
 ·have:=AcS t.name h;exact⟨this.1,aR this.2 (cO _ _)⟩
 ·split
  ·rename_i h1 h2;split
   ·rename_i h3;have hb:=UZ (n:=⟨t.name,⟨#[]⟩,lastOpen b,t.bq⟩) h Hr λe=>ht.2 (by simp only[isScr,S_,av];exact⟨h3,e⟩);have ho:=Jd (b:=b) ⟨t.name,⟨#[]⟩,lastOpen b,t.bq⟩ h;split
    ·exact⟨hb,by rw[ho];omega⟩
    ·refine⟨⟨hb.1,λk hk=>?_,?_,?_⟩,?_⟩
     ·rcases ae.1 hk with hk|hk
      ·exact hb.2.1 k hk
      ·rw[List.mem_singleton.1 hk];simp only[ak,aq];omega
     ·have e1:=h.2.2.1;have e2:=h.2.2.2;show(b.bn++[(b.bj.length:Int)]).getD 0 default=0;rw[aV] at e1 ⊢;rw[cL e2];exact e1
     ·show 0<(b.bn++[(b.bj.length:Int)]).length;rw[ak];omega
     ·have e:openScr ⟨b.bj++[⟨t.name,⟨#[]⟩,lastOpen b,t.bq⟩],b.bn++[(b.bj.length:Int)]⟩=openScr ⟨b.bj++[⟨t.name,⟨#[]⟩,lastOpen b,t.bq⟩],b.bn⟩+(if scNode ⟨b.bj++[⟨t.name,⟨#[]⟩,lastOpen b,t.bq⟩],b.bn++[(b.bj.length:Int)]⟩ (b.bj.length:Int)=true then 1 else 0):=by unfold openScr;rw[List.countP_append,List.countP_singleton];rfl
      rw[e,ho];have:(if scNode ⟨b.bj++[⟨t.name,⟨#[]⟩,lastOpen b,t.bq⟩],b.bn++[(b.bj.length:Int)]⟩ (b.bj.length:Int)=true then 1 else 0)<=(if isScr t=true then 1 else 0):=by
       split
       ·rename_i hs;rw[G_];exact Y_ _;simp only[scNode,S_,av] at hs;have e2:=hs.2;rw[ev,aV,cV (Y_ _),Nat.sub_self] at e2;simp only[isScr,S_,av];exact⟨h3,e2⟩
       ·exact Nat.zero_le _
      omega
   ·have hb:=UZ (n:=⟨⟨#[]⟩,t.text,lastOpen b,[]⟩) h ht.1 λe=>absurd (show(⟨#[]⟩:ByteArray)=scrW from e) (by decide);exact⟨hb,by have:=Jd (b:=b) ⟨⟨#[]⟩,t.text,lastOpen b,[]⟩ h;rw[this];omega⟩
  ·exact⟨h,cO _ _⟩
def XR {b:aj} (l:List bA) (x:bM) (h:bOk b):bOk (runLine b l x).1/\openScr (runLine b l x).1=openScr b:=by
 unfold runLine;split
 ·exact⟨h,rfl⟩
 ·split
  ·split
   ·exact⟨UZ h Hr λ_=>by rfl,Jd _ h⟩
   ·exact⟨h,rfl⟩
  ·(repeat' split)<;>exact⟨h,rfl⟩
def I7 (l:List bA):∀ (r:List bM) {b:aj} (w:ByteArray) (g:List ByteArray),bOk b->bOk (runLines l r b w g).1/\openScr (runLines l r b w g).1=openScr b
 | [],b,w,g,h=>⟨h,rfl⟩
 | x::r,b,w,g,h=>by have h1:=XR l x h;rw[runLines,<-h1.2];exact I7 l r _ _ h1.1
def RP (n:Int):∀ (l:List cP) (s:ByteArray),(∀ x,x∈l->gdT x.text)->gdT s->gdT (textOf n l s)
 | [],s,_,h=>h
 | x::l,s,hl,h=>by
  rw[textOf];refine RP n l _ (λy hy=>hl y (by simp[hy])) ?_;split
  ·exact S7 h (hl x (by simp))
  ·exact h
structure PI (p:HO):Prop where
 b:bOk p.ba
 q:∀ t,t∈p.bp->okTk t
 sl:p.bf.length<=20
 el:p.bh.length<=20
 sb:∀ s,s∈p.bf->s.done=true->s.code=1->s.mode=3->gdT s.body
 bl:p.block≠0->∃ k:Nat,p.block=k+1/\k<p.bf.length/\(p.bf.getD k default).mode=3
 ib:p.inline=0\/p.block=0
 df:0<=p.bo
 en:0<=p.bu
def scP (p:HO):Nat:=nScr p.bp+openScr p.ba+(if p.inline=0/\p.block=0 then 0 else 1)
def muP (p:HO):Nat:=p.bp.length+362*scP p+(20-p.bo).toNat+(20-p.bu).toNat+(if p.loaded=true then 0 else 1)
def It (p:HO) (m:Int) (to dg:ByteArray) (n:Int):addSlot p m to dg n=(p,-1)\/∃ s,addSlot p m to dg n=({ p with bf:=p.bf++[s]},(p.bf.length:Int))/\s=newSlot p m to dg n/\s.mode=m/\(s.done=true->s.code=2)/\p.bf.length<20:=by
 unfold addSlot;split
 ·rename_i h;refine .inr ⟨_,rfl,rfl,?_,?_,h.1⟩
  ·unfold newSlot;split<;>rfl
  ·unfold newSlot;split
   ·exact λe=>absurd (show false=true from e) (by decide)
   ·exact λ_=>rfl
 ·exact .inl rfl
def Z9 {p:HO} (h:PI p) {s:aw} (h1:s.done=true->s.code=2) (h2:p.bf.length<20):PI { p with bf:=p.bf++[s]} where
 b:=h.b
 q:=h.q
 sl:=by simp only[ak,dY];omega
 el:=h.el
 sb:=λx hx a1 a2 a3=>by
  rcases ae.1 hx with hx|hx
  ·exact h.sb x hx a1 a2 a3
  ·rw[List.mem_singleton.1 hx] at a1 a2;rw[h1 a1] at a2;exact absurd a2 (by decide)
 bl:=λe=>by obtain⟨k,e1,e2,e3⟩:=h.bl e;refine⟨k,e1,by simp only[ak];omega,?_⟩;rw[aV] at e3 ⊢;show((p.bf++[s])[k]?.getD default).mode=3;rw[cL e2];exact e3
 ib:=h.ib
 df:=h.df
 en:=h.en
def GA {p:HO} (h:PI p) (m:Int) (to dg:ByteArray) (n:Int):PI (addSlot p m to dg n).1/\muP (addSlot p m to dg n).1=muP p/\(addSlot p m to dg n).1.block=p.block/\(addSlot p m to dg n).1.inline=p.inline:=by
 rcases It p m to dg n with e|⟨s,e,_,_,h2,h3⟩
 ·rw[e];exact⟨h,rfl,rfl,rfl⟩
 ·rw[e];exact⟨Z9 h h2 h3,rfl,rfl,rfl⟩
def Yl {p:HO} (h:PI p) (t:af) (n:Int):PI (element p t n)/\muP (element p t n)=muP p:=by
 unfold element;split
 ·exact⟨(GA h _ _ _ _).1,(GA h _ _ _ _).2.1⟩
 ·split
  ·exact⟨(GA h _ _ _ _).1,(GA h _ _ _ _).2.1⟩
  ·exact⟨h,rfl⟩
def Ug {p:HO} (h:PI p) (m:List X_):PI { p with bi:=m }:=⟨h.b,h.q,h.sl,h.el,h.sb,h.bl,h.ib,h.df,h.en⟩
def Alb (p:HO) (a:FS):∃ m,askModule p a={ p with bi:=m }:=by
 unfold askModule;split
 ·exact⟨p.bi,rfl⟩
 ·exact⟨_,rfl⟩
def Aea {p:HO} (h:PI p) (to:ByteArray):PI (addEntry p to)/\muP (addEntry p to)=muP p:=by
 unfold addEntry;split
 ·rename_i h1;obtain⟨m,e⟩:=Alb p (parseAddr to p.addr.host).1;rw[e];exact⟨⟨h.b,h.q,h.sl,by simp only[ak,dY];omega,h.sb,h.bl,h.ib,h.df,h.en⟩,rfl⟩
 ·exact⟨h,rfl⟩
def Adz {p:HO} (h:PI p) (h0:p.inline=0/\p.block=0) {n:Int} (hn:1<=n):PI (script p n)/\muP (script p n)<=muP p+362:=by
 unfold script;split
 ·split
  ·refine⟨⟨h.b,h.q,h.sl,h.el,h.sb,h.bl,.inr h0.2,h.df,h.en⟩,?_⟩;simp only[muP,scP];have:(if n=0/\p.block=0 then 0 else 1)<=1:=by split<;>omega
   omega
  ·exact⟨h,o_⟩
 ·split
  ·have:=GA h 4 ((findAttr (p.ba.bj.getD n.toNat default).bq ⟨#[115,114,99]⟩).getD ⟨#[]⟩) ((findAttr (p.ba.bj.getD n.toNat default).bq ⟨#[100,105,103,101,115,116]⟩).getD ⟨#[]⟩) n;exact⟨this.1,by rw[this.2.1];omega⟩
  ·split
   ·have:=Aea h ((findAttr (p.ba.bj.getD n.toNat default).bq ⟨#[115,114,99]⟩).getD ⟨#[]⟩);exact⟨this.1,by rw[this.2];omega⟩
   ·rcases It p 3 ((findAttr (p.ba.bj.getD n.toNat default).bq ⟨#[115,114,99]⟩).getD ⟨#[]⟩) ((findAttr (p.ba.bj.getD n.toNat default).bq ⟨#[100,105,103,101,115,116]⟩).getD ⟨#[]⟩) n with e|⟨s,e,_,e1,e2,e3⟩
    ·rw[e];refine⟨⟨h.b,h.q,h.sl,h.el,h.sb,λe=>absurd (show(-1:Int)+1=0 from rfl) e,.inl h0.1,h.df,h.en⟩,?_⟩;simp only[muP,scP];have:(if p.inline=0/\(-1:Int)+1=0 then 0 else 1)<=1:=by split<;>omega
     omega
    ·rw[e];have h1:=Z9 h e2 e3;refine⟨⟨h.b,h.q,h1.sl,h.el,h1.sb,λ_=>⟨p.bf.length,rfl,by simp,by simp[e1]⟩,.inl h0.1,h.df,h.en⟩,?_⟩;simp only[muP,scP];have:(if p.inline=0/\(p.bf.length:Int)+1=0 then 0 else 1)<=1:=by split<;>omega
     omega
def Ae5 {p:HO} (h:PI p) (h0:p.inline=0/\p.block=0) (hq:0<p.bp.length):PI (taken p (p.bp.getD 0 default))/\muP (taken p (p.bp.getD 0 default))+362*(openScr p.ba+(if isScr (p.bp.getD 0 default)=true then 1 else 0))+1=muP p+362*openScr (addToken p.ba (p.bp.getD 0 default)).1:=by
 obtain⟨t,l,hl⟩:∃ t l,p.bp=t::l:=by
  cases hc:p.bp with
  | nil=>rw[hc] at hq;simp at hq
  | cons t l=>exact⟨t,l,rfl⟩
 have ht:p.bp.getD 0 default=t:=by rw[hl];rfl
 rw[ht];have hk:=h.q t (by rw[hl];simp);have hb:=SY h.b hk;refine⟨⟨hb.1,λx hx=>h.q x (fC hx),h.sl,h.el,h.sb,h.bl,h.ib,h.df,h.en⟩,?_⟩;have e1:nScr p.bp=nScr l+(if isScr t=true then 1 else 0):=by rw[hl];unfold nScr;rw[List.countP_cons]
 have e2:p.bp.drop 1=l:=by rw[hl];rfl
 have e3:p.bp.length=l.length+1:=by rw[hl];rfl
 have e4:scP (taken p t)=nScr l+openScr (addToken p.ba t).1+(if p.inline=0/\p.block=0 then 0 else 1):=by show nScr (p.bp.drop 1)+_+_=_;rw[e2];rfl
 have e5:muP (taken p t)=l.length+362*scP (taken p t)+(20-p.bo).toNat+(20-p.bu).toNat+(if p.loaded=true then 0 else 1):=by show(p.bp.drop 1).length+_+_+_+_=_;rw[e2];rfl
 rw[e5,e4];unfold muP scP;rw[e1,e3];omega
def JB {p:HO} {t:af} (h:isScript p t=true):t.kind=2/\t.name=scrW/\1<=lastOpen p.ba/\lastOpen p.ba<p.ba.bj.length/\(p.ba.bj.getD (lastOpen p.ba).toNat default).name=scrW:=by
 simp only[isScript,S_,av] at h;exact⟨h.1,h.2.1,h.2.2.1.2.1,h.2.2.1.2.2,h.2.2.2⟩
def Aho {p:HO} (h:PI p) (h2:(takeToken p).2=true):PI (takeToken p).1/\muP (takeToken p).1<muP p:=by
 unfold takeToken at *
 split at h2
 ·exact absurd (show false=true from h2) (by decide)
 ·rename_i hc;simp only[not_or] at hc;have hq:0<p.bp.length:=Nat.pos_of_ne_zero hc.1;have h0:p.inline=0/\p.block=0:=⟨Decidable.not_not.1 hc.2.2,Decidable.not_not.1 hc.2.1⟩;rw[F_ (by simp only[not_or];exact hc)];have ht:=Ae5 h h0 hq;have hk:okTk (p.bp.getD 0 default):=h.q _ (Ae hq);have hb:=(SY h.b hk).2;simp only;unfold takeTok;split
  ·have he:=Yl ht.1 (p.bp.getD 0 default) (addToken p.ba (p.bp.getD 0 default)).2;exact⟨he.1,by rw[he.2];omega⟩
  ·split
   ·rename_i hs;obtain⟨s1,s2,s3,s4,s5⟩:=JB hs;have he:=Adz ht.1 h0 s3;refine⟨he.1,?_⟩;have hp:=Acx h.b s3 s2 s5;have ha:(addToken p.ba (p.bp.getD 0 default)).1=closeB p.ba (p.bp.getD 0 default).name:=by unfold addToken;rw[G_ s1]
    rw[ha] at ht;have hi:isScr (p.bp.getD 0 default)=false:=by unfold isScr;rw[s1];rfl
    rw[hi] at ht;have h3:=ht.2;simp only[cD,aP,Nat.add_zero] at h3;have h4:=he.2;omega
   ·exact⟨ht.1,o_⟩
def AkP (p:HO) (c:ByteArray) (h:bOk p.ba):bOk (rsOf p c).1/\openScr (rsOf p c).1=openScr p.ba:=I7 _ _ _ _ h
def Ag1 {p:HO} (h:PI p) {c:ByteArray} (hc:gdT c) (w:Bool):PI (runCode p c w)/\muP (runCode p c w)<=muP p+(if w=true then 360 else 0)/\(runCode p c w).block=p.block/\(runCode p c w).inline=p.inline/\scP (runCode p c w)=scP p:=by
 unfold runCode;split
 ·rename_i h1;have hr:=AkP p c h.b;have hw:=Aki p hc h1;have ht:=Alc _ hw.1;have hl:=R3 (rsOf p c).2.1;have hn:nScr (tokensOf (rsOf p c).2.1)=0:=by unfold nScr;rw[List.countP_eq_zero];intro t hm;rw[(ht t hm).2];decide
  cases w with
  | false=>
   refine⟨⟨hr.1,h.q,h.sl,h.el,h.sb,h.bl,h.ib,h.df,h.en⟩,?_,rfl,rfl,?_⟩
   ·simp only[muP,scP,hr.2,cD,aP];omega
   ·simp only[scP,hr.2,cD,aP]
  | true=>
   refine⟨⟨hr.1,λt hm=>?_,h.sl,h.el,h.sb,h.bl,h.ib,h.df,h.en⟩,?_,rfl,rfl,?_⟩
   ·rcases ae.1 hm with hm|hm
    ·exact(ht t hm).1
    ·exact h.q t hm
   ·have e:nScr (tokensOf (rsOf p c).2.1++p.bp)=nScr p.bp:=by unfold nScr at *;rw[List.countP_append,hn,cE]
    simp only[muP,scP,hr.2,aC,e,ak];omega
   ·have e:nScr (tokensOf (rsOf p c).2.1++p.bp)=nScr p.bp:=by unfold nScr at *;rw[List.countP_append,hn,cE]
    simp only[scP,hr.2,aC,e]
 ·refine⟨⟨h.b,h.q,h.sl,h.el,h.sb,h.bl,h.ib,h.df,h.en⟩,?_,rfl,rfl,rfl⟩;simp only[muP,scP];omega
def Aci {p:HO} (h:PI p) (h0:p.inline≠0) (h2:(stepInline p).2=true):PI (stepInline p).1/\muP (stepInline p).1<muP p:=by
 unfold stepInline at *
 split at h2
 ·rename_i hs;rw[G_ hs];have hr:=Ag1 h (RP p.inline p.ba.bj ⟨#[]⟩ (λx hx=>(h.b.1 x hx).1) Hr) true;have hb:p.block=0:=h.ib.resolve_left h0;refine⟨⟨hr.1.b,hr.1.q,hr.1.sl,hr.1.el,hr.1.sb,hr.1.bl,.inl rfl,hr.1.df,hr.1.en⟩,?_⟩;have h3:=hr.2.1;have h4:=hr.2.2.1;have h5:=hr.2.2.2.1;simp only[muP,scP,aC] at h3 ⊢;rw[h4,h5] at h3;rw[h4];rw[G_ ⟨trivial,hb⟩];have e1:(if p.inline=0/\p.block=0 then 0 else 1)=1:=F_ λe=>h0 e.1
  rw[e1] at h3 ⊢;omega
 ·exact absurd (show false=true from h2) (by decide)
def Sd {p:HO} (h:PI p) (h0:p.block≠0):PI { p with block:=0 }/\muP { p with block:=0 }+362=muP p:=by
 have hi:p.inline=0:=(h.ib.symm).resolve_left h0;refine⟨⟨h.b,h.q,h.sl,h.el,h.sb,λe=>absurd rfl e,.inr rfl,h.df,h.en⟩,?_⟩;simp only[muP,scP];rw[G_ ⟨hi,trivial⟩,F_ (c:=p.inline=0/\p.block=0) λe=>h0 e.2];omega
def Ae9 {p:HO} (h:PI p) (h0:p.block≠0) (h2:(stepBlock p).2=true):PI (stepBlock p).1/\muP (stepBlock p).1<muP p:=by
 have hz:=Sd h h0;unfold stepBlock at *
 split at h2
 ·rename_i hs;rw[G_ hs];exact⟨hz.1,by have:=hz.2;simp only;omega⟩
 ·rename_i hs;rw[F_ hs];split at h2
  ·exact absurd (show false=true from h2) (by decide)
  ·rename_i h3;rw[F_ h3];split
   ·rename_i h4;obtain⟨k,k1,k2,k3⟩:=h.bl h0;have hk:blk p=k:=by unfold blk;rw[k1,Aw ⟨o_,by have:=h.sl;omega⟩];omega
    have hd:(p.bf.getD k default).done=true:=by simp only[not_or] at h3;rw[hk,ev] at h3;exact(Bool.not_eq_false _).mp h3.1
    rw[hk,ev] at h4 ⊢;have hb:=h.sb _ (Ae k2) hd h4 k3;have hr:=Ag1 h hb true;have hz2:=Sd hr.1 (by rw[hr.2.2.1];exact h0);refine⟨hz2.1,?_⟩;have h6:=hz2.2;have h7:=hr.2.1;simp only[aC] at h7;simp only;omega
   ·exact⟨hz.1,by have:=hz.2;simp only;omega⟩
def AaQ {p:HO} (h:PI p) (h2:(stepParser p).2=true):PI (stepParser p).1/\muP (stepParser p).1<muP p:=by
 unfold stepParser at *
 split at h2
 ·rename_i h0;rw[G_ h0];exact Aci h h0 h2
 ·rename_i h0;rw[F_ h0];split at h2
  ·rename_i h1;rw[G_ h1];exact Ae9 h h1 h2
  ·rename_i h1;rw[F_ h1];exact Aho h h2
def AhY {p:HO} (h:PI p) (c:ByteArray):PI (runCode p c false)/\muP (runCode p c false)=muP p:=by
 unfold runCode;split
 ·have hr:=AkP p c h.b;exact⟨⟨hr.1,h.q,h.sl,h.el,h.sb,h.bl,h.ib,h.df,h.en⟩,by simp only[muP,scP,hr.2,cD,aP]⟩
 ·exact⟨⟨h.b,h.q,h.sl,h.el,h.sb,h.bl,h.ib,h.df,h.en⟩,rfl⟩
def Agd {p:HO} (h:PI p) (s:ByteArray):PI (say p s)/\muP (say p s)=muP p:=by
 unfold say;split
 ·exact⟨⟨h.b,h.q,h.sl,h.el,h.sb,h.bl,h.ib,h.df,h.en⟩,rfl⟩
 ·exact⟨h,rfl⟩
def ZM {p q:HO} (h:PI q) (a:FS):PI (enter1 p q a)/\muP (enter1 p q a)=muP q:=by
 unfold enter1;split
 ·exact⟨h,rfl⟩
 ·have hr:bOk (entRun p q a).1/\openScr (entRun p q a).1=openScr q.ba:=I7 _ _ _ _ h.b;exact⟨⟨hr.1,h.q,h.sl,h.el,h.sb,h.bl,h.ib,h.df,h.en⟩,by simp only[muP,scP,hr.2]⟩
def NK {p:HO}:∀ (l:List FS) {q:HO},PI q->PI (enterAll p q l)/\muP (enterAll p q l)=muP q
 | [],q,h=>⟨h,rfl⟩
 | a::l,q,h=>by have h1:=ZM (p:=p) h a;have h2:=NK (p:=p) l h1.1;exact⟨h2.1,h2.2.trans h1.2⟩
def Aee {p:HO} (h:PI p) (a:FS):PI (enter p a)/\muP (enter p a)=muP p:=by
 unfold enter;split
 ·exact Agd h _
 ·exact NK _ h
def Fg (p:HO) (a:FS):(enter p a).bo=p.bo/\(enter p a).bu=p.bu/\(enter p a).loaded=p.loaded/\(enter p a).bf=p.bf/\(enter p a).bi=p.bi/\(enter p a).bh=p.bh/\(enter p a).bp=p.bp/\(enter p a).block=p.block/\(enter p a).inline=p.inline/\(enter p a).addr=p.addr/\(enter p a).bm=p.bm/\(enter p a).ended=p.ended/\(enter p a).tok=p.tok:=by
 have h:∀ (l:List FS) (q:HO),(enterAll p q l).bo=q.bo/\(enterAll p q l).bu=q.bu/\(enterAll p q l).loaded=q.loaded/\(enterAll p q l).bf=q.bf/\(enterAll p q l).bi=q.bi/\(enterAll p q l).bh=q.bh/\(enterAll p q l).bp=q.bp/\(enterAll p q l).block=q.block/\(enterAll p q l).inline=q.inline/\(enterAll p q l).addr=q.addr/\(enterAll p q l).bm=q.bm/\(enterAll p q l).ended=q.ended/\(enterAll p q l).tok=q.tok:=by
  intro l
  induction l with
  | nil=>intro q;exact⟨rfl,rfl,rfl,rfl,rfl,rfl,rfl,rfl,rfl,rfl,rfl,rfl,rfl⟩
  | cons b l ih=>
   intro q;have h2:=ih (enter1 p q b);have e:enterAll p q (b::l)=enterAll p (enter1 p q b) l:=rfl;rw[e];unfold enter1 at h2 ⊢;split at h2
   ·rename_i h3;rw[G_ h3];exact h2
   ·rename_i h3;rw[F_ h3];exact h2
 unfold enter;split
 ·unfold say;split<;>exact⟨rfl,rfl,rfl,rfl,rfl,rfl,rfl,rfl,rfl,rfl,rfl,rfl,rfl⟩
 ·exact h _ _
def ZI (p:HO) (h:PI p):(deferredSlots p).length<=20:=aR (Dh _ _ _) h.sl
def Alx (p:HO) (d:Int):muP { p with bo:=d }+(20-p.bo).toNat=muP p+(20-d).toNat:=by simp only[muP,scP];omega
def Alw (p:HO) (d:Int):muP { p with bu:=d }+(20-p.bu).toNat=muP p+(20-d).toNat:=by simp only[muP,scP];omega
def AlJ {p:HO} (h:p.loaded=false):muP { p with loaded:=true }+1=muP p:=by simp only[muP,scP,h,cD,aP,aC]
def Ag2 {p q:HO} (hq:q.bo=p.bo) (h:muP q=muP p) (h0:0<=p.bo) (h1:p.bo<20):muP { q with bo:=p.bo+1 }<muP p:=by
 have:=Alx q (p.bo+1);rw[hq] at this;omega
def Akf {p q:HO} (hq:q.bu=p.bu) (h:muP q=muP p) (h0:0<=p.bu) (h1:p.bu<20):muP { q with bu:=p.bu+1 }<muP p:=by
 have:=Alw q (p.bu+1);rw[hq] at this;omega
def Akx {p q:HO} (hq:q.loaded=false) (h:muP q=muP p):muP { q with loaded:=true }<muP p:=by
 have:=AlJ hq;omega
def Aig {p:HO} (h:PI p) (h2:(stepTail p).2=true):PI (stepTail p).1/\muP (stepTail p).1<muP p:=by
 unfold stepTail at *
 split at h2
 ·exact absurd (show false=true from h2) (by decide)
 ·rename_i h0;rw[F_ h0];simp only[not_or] at h0;have hl:p.loaded=false:=by cases hp:p.loaded with|false=>rfl|true=>exact absurd hp h0.2.1
  split at h2
  ·rename_i h1;rw[G_ h1];have hd:=ZI p h;have h3:=h.df;unfold tailDefer at *
   split at h2
   ·exact absurd (show false=true from h2) (by decide)
   ·rename_i h4;rw[F_ h4];split
    ·have hr:=AhY h (defSlot p).body;have hz:(runCode p (defSlot p).body false).bo=p.bo:=by unfold runCode;split<;>rfl
     refine⟨⟨hr.1.b,hr.1.q,hr.1.sl,hr.1.el,hr.1.sb,hr.1.bl,hr.1.ib,by show 0<=p.bo+1;omega,hr.1.en⟩,?_⟩;exact Ag2 hz hr.2 h3 o_
    ·refine⟨⟨h.b,h.q,h.sl,h.el,h.sb,h.bl,h.ib,by show 0<=p.bo+1;omega,h.en⟩,?_⟩;exact Ag2 rfl rfl h3 o_
  ·rename_i h1;rw[F_ h1];split at h2
   ·rename_i h3;rw[G_ h3];unfold tailEnter at *
    split at h2
    ·exact absurd (show false=true from h2) (by decide)
    ·rename_i h4;rw[F_ h4];have hr:=Aee h (entNow p);have hz:=(Fg p (entNow p)).2.1;have he:=h.en;have hel:=h.el;refine⟨⟨hr.1.b,hr.1.q,hr.1.sl,hr.1.el,hr.1.sb,hr.1.bl,hr.1.ib,hr.1.df,by show 0<=p.bu+1;omega⟩,?_⟩;exact Akf hz hr.2 he o_
   ·rename_i h3;rw[F_ h3];split at h2
    ·exact absurd (show false=true from h2) (by decide)
    ·rename_i h4;rw[F_ h4];have hr:=Agd h ⟨#[108,111,97,100]⟩;have hz:(say p ⟨#[108,111,97,100]⟩).loaded=false:=by unfold say;split<;>exact hl
     refine⟨⟨hr.1.b,hr.1.q,hr.1.sl,hr.1.el,hr.1.sb,hr.1.bl,hr.1.ib,hr.1.df,hr.1.en⟩,?_⟩;exact Akx hz hr.2
def LL {p:HO} (h:PI p) (h2:(step1 p).2=true):PI (step1 p).1/\muP (step1 p).1<muP p:=by
 unfold step1 at *
 split at h2
 ·rename_i h3;rw[G_ h3];exact AaQ h h3
 ·rename_i h3;rw[F_ h3];exact Aig h h2
def AaM:∀ (n:Nat) {p:HO},PI p->PI (adv n p)/\muP (adv n p)<=muP p/\(muP p<=n->(step1 (adv n p)).2=false)
 | 0,p,h=>by
  refine⟨h,Y_ _,λhn=>?_⟩;cases hs:(step1 p).2 with
  | false=>exact hs
  | true=>have:=LL h hs;omega
 | n+1,p,h=>by
  rw[adv];split
  ·rename_i hs;have h1:=LL h hs;have ih:=AaM n h1.1;exact⟨ih.1,o_,λhn=>ih.2.2 o_⟩
  ·rename_i hs;exact⟨h,Y_ _,λ_=>by simpa using hs⟩
def insM (n:X_):List X_->List X_
 | []=>[n]
 | x::l=>if cmpA x.to n.to<0 then x::insM n l else if x.to=n.to then x::l else n::x::l
def AaE (n:X_):∀ l:List X_,(if askFrom n.to l<l.length/\(l.getD (askFrom n.to l) default).to=n.to then l else l.take (askFrom n.to l)++n::l.drop (askFrom n.to l))=insM n l
 | []=>by simp[askFrom,insM]
 | x::l=>by
  have ih:=AaE n l;rw[askFrom,insM];by_cases h:cmpA x.to n.to<0
  ·rw[G_ h,G_ h,<-ih];have e:(x::l).getD (askFrom n.to l+1) default=l.getD (askFrom n.to l) default:=rfl;rw[e];by_cases h2:askFrom n.to l<l.length/\(l.getD (askFrom n.to l) default).to=n.to
   ·rw[G_ h2,G_ ⟨by simp only[aq];omega,h2.2⟩]
   ·rw[F_ h2,F_ λh3=>h2 ⟨by have:=h3.1;simp only[aq] at this;omega,h3.2⟩];rfl
  ·rw[F_ h,F_ h];have e:(x::l).getD 0 default=x:=rfl;rw[e];by_cases h2:x.to=n.to
   ·rw[G_ h2,G_ ⟨by simp,h2⟩]
   ·rw[F_ h2,F_ λh3=>h2 h3.2];rfl
def Gg (p:HO) (a:FS):(newMod p a).to=a:=by unfold newMod;split<;>rfl
def LC (p:HO) (a:FS):askModule p a={ p with bi:=insM (newMod p a) p.bi }:=by
 have:=AaE (newMod p a) p.bi;rw[Gg] at this;rw[<-this];unfold askModule;split<;>rfl
def Ew {n x:X_}:∀ {l:List X_},x∈insM n l->x∈l\/x=n
 | [],h=>.inr (List.mem_singleton.1 h)
 | y::l,h=>by
  rw[insM] at h;split at h
  ·rcases ah.1 h with h|h
   ·exact .inl (by simp[h])
   ·exact(Ew h).imp (λh=>by simp[h]) id
  ·split at h
   ·exact .inl h
   ·rcases ah.1 h with h|h
    ·exact .inr h
    ·exact .inl h
def QH {n x:X_}:∀ {l:List X_},x∈l->x∈insM n l
 | y::l,h=>by
  rw[insM];split
  ·rcases ah.1 h with h|h
   ·simp[h]
   ·simp[QH h]
  ·split
   ·exact h
   ·exact cT _ h
def Wc (n:X_):∀ l:List X_,n.to∈(insM n l).map (·.to)
 | []=>by simp[insM]
 | y::l=>by
  rw[insM];split
  ·simp only[bz,ah];exact .inr (Wc n l)
  ·split
   ·rename_i h;simp[h]
   ·simp
abbrev stM (l:List X_):Prop:=Hj (l.map (·.to))
def Jk (n:X_):∀ {l:List X_},stM l->stM (insM n l)
 | [],_=>by simp[insM,stM,Hj]
 | y::l,h=>by
  unfold stM Hj at h;rw[bz,List.pairwise_cons] at h;rw[insM];split
  ·rename_i h1;show List.Pairwise _ (List.map _ (y::insM n l));rw[bz,List.pairwise_cons];refine⟨λa ha=>?_,Jk n h.2⟩;obtain⟨x,hx,rfl⟩:=bG.1 ha;rcases Ew hx with hx|hx
   ·exact h.1 _ (List.mem_map_of_mem hx)
   ·rw[hx];exact h1
  ·split
   ·show List.Pairwise _ (List.map _ (y::l));rw[bz,List.pairwise_cons];exact h
   ·rename_i h1 h2;have h3:cmpA n.to y.to<0:=by
     have e:=DF y.to n.to;have e2:cmpA y.to n.to≠0:=λe=>h2 (EJ.1 e)
     omega
    show List.Pairwise _ (List.map _ (n::y::l));rw[bz,List.pairwise_cons,bz,List.pairwise_cons];refine⟨λa ha=>?_,h⟩;rcases ah.1 ha with ha|ha
    ·rw[ha];exact h3
    ·exact H7 h3 (h.1 a ha)
def LP {α:Type} [DecidableEq α]:∀ {l m:List α},l.Nodup->(∀ x,x∈l->x∈m)->l.length<=m.length
 | [],m,_,_=>Nat.zero_le _
 | x::l,m,h,hs=>by
  rw[List.nodup_cons] at h;have ih:=LP (m:=m.erase x) h.2 λy hy=>by
   rw[List.mem_erase_of_ne]
   ·exact hs y (by simp[hy])
   ·rintro rfl;exact h.1 hy
  have:=List.length_erase_of_mem (hs x (by simp));have h2:0<m.length:=List.length_pos_of_mem (hs x (by simp));simp only[aq];omega
def H3:List ByteArray:=[⟨#[104,111,109,101]⟩,⟨#[99,100,110]⟩,⟨#[101,118,105,108]⟩]
def A9:List FS:=H3.flatMap λh=>[⟨h,⟨#[97,112,112]⟩⟩,⟨h,⟨#[108,105,98]⟩⟩,⟨h,⟨#[117,116,105,108]⟩⟩]
def AhJ {a:FS} (h:a∈A9):a.host∈H3:=by
 unfold A9 at h;obtain⟨x,hx,h⟩:=List.mem_flatMap.1 h;simp only[ah,fZ,or_false] at h;rcases h with rfl|rfl|rfl<;>exact hx
def HU:FS:=⟨⟨#[104,111,109,101]⟩,⟨#[117,116,105,108]⟩⟩
abbrev hasM (p:HO) (a:FS):Prop:=a∈p.bi.map (·.to)
structure MI (p:HO):Prop where
 st:stM p.bi
 ad:∀ m,m∈p.bi->m.to∈A9
 en:∀ a,a∈p.bh->hasM p a
 im:∀ m,m∈p.bi->m.done=true->m.code=1->∀ b,b∈(parseModule m.body m.to.host).1->hasM p b
 ho:p.addr.host=⟨#[104,111,109,101]⟩
 eu:∀ a,a∈p.bh->a=HU
def VD {p:HO} (h:MI p):p.bi.length<=9:=by
 have:=LP (m:=A9) (h.st.imp λ{a b} h=>by rintro rfl;rw[EJ.2 rfl] at h;omega) λx hx=>by obtain⟨m,hm,rfl⟩:=bG.1 hx;exact h.ad m hm
 rw[cC] at this;exact aR this (by decide)
def UO {p:HO} {a b:FS} (h:hasM p b):hasM (askModule p a) b:=by
 rw[LC];obtain⟨m,hm,rfl⟩:=bG.1 h;exact List.mem_map_of_mem (QH hm)
def UD (p:HO) (a:FS):hasM (askModule p a) a:=by
 rw[LC];have:=Wc (newMod p a) p.bi
 rwa [Gg] at this
def MO (p:HO) (a:FS) (h:(newMod p a).done=true):(newMod p a).code=2:=by
 unfold newMod at *;split at h
 ·exact absurd (show false=true from h) (by decide)
 ·rename_i e;rw[F_ e]
def AgZ {p:HO} {a:FS} (h:MI p) (ha:a∈A9):MI (askModule p a):=by
 have hh:∀ {b},hasM p b->hasM (askModule p a) b:=UO;rw[LC] at hh ⊢;refine⟨Jk _ h.st,λm hm=>?_,λb hb=>hh (h.en b hb),λm hm h1 h2 b hb=>?_,h.ho,h.eu⟩
 ·rcases Ew hm with hm|hm
  ·exact h.ad m hm
  ·rw[hm,Gg];exact ha
 ·rcases Ew hm with hm|hm
  ·exact hh (h.im m hm h1 h2 b hb)
  ·rw[hm] at h1 h2;rw[MO p a h1] at h2;exact absurd h2 (by decide)
def BX {p q:HO} (h:MI p) (h1:q.bi=p.bi) (h2:q.bh=p.bh) (h3:q.addr=p.addr):MI q:=by
 refine⟨by rw[h1];exact h.st,by rw[h1];exact h.ad,?_,?_,by rw[h3];exact h.ho,by rw[h2];exact h.eu⟩
 ·intro a ha;rw[h2] at ha;have:=h.en a ha;unfold hasM at *;rw[h1];exact this
 ·intro m hm;rw[h1] at hm;have:=h.im m hm;unfold hasM at *;rw[h1];exact this
def Aca {h:ByteArray} (e:h=⟨#[104,111,109,101]⟩):(parseAddr ⟨#[117,116,105,108]⟩ h).1∈A9:=by
 subst e;decide +kernel
def AhS {h:ByteArray} (e:h=⟨#[104,111,109,101]⟩):(parseAddr ⟨#[117,116,105,108]⟩ h).1=HU:=by
 subst e;decide +kernel
def Aff {p:HO} (h:MI p):MI (addEntry p ⟨#[117,116,105,108]⟩):=by
 unfold addEntry;split
 ·have ha:=Aca h.ho;have h1:=AgZ h ha;refine⟨h1.st,h1.ad,λa hm=>?_,h1.im,h1.ho,λa hm=>?_⟩;have h2:(askModule p (parseAddr ⟨#[117,116,105,108]⟩ p.addr.host).1).bh=p.bh:=by rw[LC]
  ·rcases ae.1 hm with hm|hm
   ·exact UO (h.en a hm)
   ·rw[List.mem_singleton.1 hm];exact UD _ _
  ·rcases ae.1 hm with hm|hm
   ·exact h.eu a hm
   ·rw[List.mem_singleton.1 hm];exact AhS h.ho
 ·exact h
def Iy {p:HO} (h:MI p) (m:Int) (to dg:ByteArray) (n:Int):MI (addSlot p m to dg n).1:=by
 rcases It p m to dg n with e|⟨s,e,_⟩
 ·rw[e];exact h
 ·rw[e];exact BX h rfl rfl rfl
def Zz {p:HO} (h:MI p) {n:Int} (hm:modAt (p.ba.bj.getD n.toNat default).bq=true):MI (script p n):=by
 unfold script;split
 ·split
  ·exact BX h rfl rfl rfl
  ·exact h
 ·split
  ·exact Iy h _ _ _ _
  ·split
   ·rename_i h3;unfold modAt at hm;rw[h3] at hm;simp only[decide_true,Bool.not_true,Bool.false_or,av] at hm;rw[hm];exact Aff h
   ·exact BX (Iy h 3 _ _ _) rfl rfl rfl
def Yq {p:HO} (h:MI p) (t:af) (n:Int):MI (element p t n):=by
 unfold element;split
 ·exact Iy h _ _ _ _
 ·split
  ·exact Iy h _ _ _ _
  ·exact h
def Ah8 {p:HO} (h:MI p) (hp:PI p):MI (takeToken p).1:=by
 unfold takeToken;split
 ·exact h
 ·rename_i hc;simp only[not_or] at hc;have hq:0<p.bp.length:=Nat.pos_of_ne_zero hc.1;have ht:MI (taken p (p.bp.getD 0 default)):=BX h rfl rfl rfl;show MI (takeTok p (p.bp.getD 0 default));unfold takeTok;split
  ·exact Yq ht _ _
  ·split
   ·rename_i hs;obtain⟨s1,s2,s3,s4,s5⟩:=JB hs;refine Zz ht ?_;have e:(taken p (p.bp.getD 0 default)).ba.bj=p.ba.bj:=by show(addToken p.ba (p.bp.getD 0 default)).1.bj=_;unfold addToken;rw[G_ s1];rfl
    rw[e];exact(hp.b.1 _ (Ae o_)).2 s5
   ·exact ht
def Acz {p:HO} (h:MI p) (c:ByteArray) (w:Bool):MI (runCode p c w):=by
 unfold runCode;split<;>exact BX h rfl rfl rfl
def Adw {p:HO} (h:MI p) (hp:PI p):MI (stepParser p).1:=by
 unfold stepParser;split
 ·unfold stepInline;split
  ·exact BX (Acz h (textOf p.inline p.ba.bj ⟨#[]⟩) true) rfl rfl rfl
  ·exact h
 ·split
  ·unfold stepBlock;split
   ·exact BX h rfl rfl rfl
   ·split
    ·exact h
    ·split
     ·exact BX (Acz h (p.bf.getD (blk p).toNat default).body true) rfl rfl rfl
     ·exact BX h rfl rfl rfl
  ·exact Ah8 h hp
def Aii {p:HO} (h:MI p):MI (stepTail p).1:=by
 unfold stepTail;split
 ·exact h
 ·split
  ·unfold tailDefer;split
   ·exact h
   ·split
    ·exact BX (Acz h (defSlot p).body false) rfl rfl rfl
    ·exact BX h rfl rfl rfl
  ·split
   ·unfold tailEnter;split
    ·exact h
    ·have e:=Fg p (entNow p);exact BX h e.2.2.2.2.1 e.2.2.2.2.2.1 e.2.2.2.2.2.2.2.2.2.1
   ·split
    ·exact h
    ·unfold say;split<;>exact BX h rfl rfl rfl
def V6 {p:HO} (h:MI p) (hp:PI p):MI (step1 p).1:=by
 unfold step1;split
 ·exact Adw h hp
 ·exact Aii h
def Acd:∀ (n:Nat) {p:HO},MI p->PI p->MI (adv n p)
 | 0,p,h,_=>h
 | n+1,p,h,hp=>by
  rw[adv];split
  ·rename_i hs;exact Acd n (V6 h hp) (LL hp hs).1
  ·exact h
def O8:∀ {l:List X_},stM l->∀ {m n:X_},m∈l->n∈l->m.to=n.to->m=n
 | x::l,h,m,n,hm,hn,e=>by
  unfold stM Hj at h;rw[bz,List.pairwise_cons] at h;have hne:∀ y,y∈l->x.to≠y.to:=λy hy e=>by have:=h.1 _ (List.mem_map_of_mem (f:=(·.to)) hy);rw[EJ.2 e] at this;omega
  rcases ah.1 hm with hm|hm
  ·rcases ah.1 hn with hn|hn
   ·rw[hm,hn]
   ·rw[hm] at e;exact absurd e (hne n hn)
  ·rcases ah.1 hn with hn|hn
   ·rw[hn] at e;exact absurd e.symm (hne m hm)
   ·exact O8 h.2 hm hn e
def doneS (l:List aw):Nat:=l.countP (·.done)
def doneM (l:List X_):Nat:=l.countP (·.done)
def dnP (p:HO):Nat:=doneS p.bf+doneM p.bi
def need (p:HO) (a:FS):Prop:=(∃ s,s∈p.bf/\s.done=false/\s.to=a)\/∃ m,m∈p.bi/\m.done=false/\m.to=a
structure Gr (p q:HO):Prop where
 sl:∃ ss,q.bf=p.bf++ss
 md:∀ m,m∈p.bi->m∈q.bi
 dm:doneM p.bi<=doneM q.bi
 ad:q.addr=p.addr
 po:q.bm=p.bm
 ed:q.ended=p.ended
 tk:q.tok=p.tok
def DK (p:HO):Gr p p:=⟨⟨[],by simp⟩,λ_ h=>h,Y_ _,rfl,rfl,rfl,rfl⟩
def EZ {p q r:HO} (h1:Gr p q) (h2:Gr q r):Gr p r:=by
 obtain⟨s1,e1⟩:=h1.sl;obtain⟨s2,e2⟩:=h2.sl;exact⟨⟨s1++s2,by rw[e2,e1,bF]⟩,λm h=>h2.md m (h1.md m h),aR h1.dm h2.dm,h2.ad.trans h1.ad,h2.po.trans h1.po,h2.ed.trans h1.ed,h2.tk.trans h1.tk⟩
def Ef {p q:HO} (h1:q.bf=p.bf) (h2:q.bi=p.bi) (h3:q.addr=p.addr) (h4:q.bm=p.bm) (h5:q.ended=p.ended) (h6:q.tok=p.tok):Gr p q :=
 ⟨⟨[],by rw[h1];simp⟩,λm h=>by rw[h2];exact h,by rw[h2];exact Y_ _,h3,h4,h5,h6⟩
def Rk (n:X_):∀ l:List X_,doneM l<=doneM (insM n l)
 | []=>Nat.zero_le _
 | x::l=>by
  rw[insM];split
  ·unfold doneM;rw[List.countP_cons,List.countP_cons];have:=Rk n l;unfold doneM at this;omega
  ·split
   ·exact Y_ _
   ·unfold doneM;rw[List.countP_cons (a:=n)];omega
def AgF (p:HO) (a:FS):Gr p (askModule p a):=by
 rw[LC];exact⟨⟨[],by simp⟩,λm h=>QH h,Rk _ _,rfl,rfl,rfl,rfl⟩
def Ir (p:HO) (m:Int) (to dg:ByteArray) (n:Int):Gr p (addSlot p m to dg n).1:=by
 rcases It p m to dg n with e|⟨s,e,_⟩
 ·rw[e];exact DK _
 ·rw[e];exact⟨⟨[s],rfl⟩,λ_ h=>h,Y_ _,rfl,rfl,rfl,rfl⟩
def Ad7 (p:HO) (to:ByteArray):Gr p (addEntry p to):=by
 unfold addEntry;split
 ·exact EZ (AgF p _) (Ef rfl rfl rfl rfl rfl rfl)
 ·exact DK _
def Y1 (p:HO) (n:Int):Gr p (script p n):=by
 unfold script;split
 ·split
  ·exact Ef rfl rfl rfl rfl rfl rfl
  ·exact DK _
 ·split
  ·exact Ir _ _ _ _ _
  ·split
   ·exact Ad7 _ _
   ·exact EZ (Ir p 3 _ _ _) (Ef rfl rfl rfl rfl rfl rfl)
def Aip (p:HO):Gr p (takeToken p).1:=by
 unfold takeToken;split
 ·exact DK _
 ·have ht:Gr p (taken p (p.bp.getD 0 default)):=Ef rfl rfl rfl rfl rfl rfl;show Gr p (takeTok p (p.bp.getD 0 default));unfold takeTok;split
  ·refine EZ ht ?_;unfold element;split
   ·exact Ir _ _ _ _ _
   ·split
    ·exact Ir _ _ _ _ _
    ·exact DK _
  ·split
   ·exact EZ ht (Y1 _ _)
   ·exact ht
def ZT (p:HO) (c:ByteArray) (w:Bool):Gr p (runCode p c w):=by
 unfold runCode;split<;>exact Ef rfl rfl rfl rfl rfl rfl
def Pn (p:HO):Gr p (step1 p).1:=by
 unfold step1;split
 ·unfold stepParser;split
  ·unfold stepInline;split
   ·exact EZ (ZT p (textOf p.inline p.ba.bj ⟨#[]⟩) true) (Ef rfl rfl rfl rfl rfl rfl)
   ·exact DK _
  ·split
   ·unfold stepBlock;split
    ·exact Ef rfl rfl rfl rfl rfl rfl
    ·split
     ·exact DK _
     ·split
      ·exact EZ (ZT p (p.bf.getD (blk p).toNat default).body true) (Ef rfl rfl rfl rfl rfl rfl)
      ·exact Ef rfl rfl rfl rfl rfl rfl
   ·exact Aip p
 ·unfold stepTail;split
  ·exact DK _
  ·split
   ·unfold tailDefer;split
    ·exact DK _
    ·split
     ·exact EZ (ZT p (defSlot p).body false) (Ef rfl rfl rfl rfl rfl rfl)
     ·exact Ef rfl rfl rfl rfl rfl rfl
   ·split
    ·unfold tailEnter;split
     ·exact DK _
     ·have e:=Fg p (entNow p);exact Ef e.2.2.2.1 e.2.2.2.2.1 e.2.2.2.2.2.2.2.2.2.1 e.2.2.2.2.2.2.2.2.2.2.1 e.2.2.2.2.2.2.2.2.2.2.2.1 e.2.2.2.2.2.2.2.2.2.2.2.2
    ·split
     ·exact DK _
     ·unfold say;split<;>exact Ef rfl rfl rfl rfl rfl rfl
def Ry:∀ (n:Nat) (p:HO),Gr p (adv n p)
 | 0,p=>DK _
 | n+1,p=>by
  rw[adv];split
  ·exact EZ (Pn p) (Ry n _)
  ·exact DK _
def Adb {p q:HO} (h:Gr p q) {a:FS} (hn:need p a):need q a:=by
 rcases hn with⟨s,h1,h2⟩|⟨m,h1,h2⟩
 ·obtain⟨ss,e⟩:=h.sl;exact .inl ⟨s,by rw[e];exact List.mem_append_left _ h1,h2⟩
 ·exact .inr ⟨m,h.md m h1,h2⟩
def AhD {p q:HO} (h:Gr p q):dnP p<=dnP q:=by
 obtain⟨ss,e⟩:=h.sl;unfold dnP doneS;rw[e,List.countP_append];have:=h.dm;omega
def Ahp {p:HO} (h:PI p) (h2:MI p):dnP p<=29:=by
 have h3:doneS p.bf<=p.bf.length:=List.countP_le_length;have h4:doneM p.bi<=p.bi.length:=List.countP_le_length;have:=h.sl;have:=VD h2;unfold dnP;omega
def L2 {p:HO} {a:FS} (h:hasM p a):0<=findMod p.bi a:=by
 obtain⟨m,hm,e⟩:=bG.1 h;exact(Gb (λm:X_=>decide (m.to=a)) p.bi 0 o_).2 (bw.2 ⟨m,hm,bR e⟩)
def G8 {p:HO} {a:FS} (h:0<=findMod p.bi a):p.bi.getD (findMod p.bi a).toNat default∈p.bi:=Ae (by have:=(Bu p.bi a).1;omega)
def AbW {p:HO} (h:MI p) (a b:FS) (hb:b∈(imports p a).1):hasM p b:=by
 unfold imports at hb;split at hb
 ·simp at hb
 ·rename_i h1;simp only[not_or,Bool.not_eq_false,Classical.not_not] at h1;have h0:0<=findMod p.bi a:=o_
  have:=h.im _ (G8 h0) h1.2.1 h1.2.2 b;rw[Dg h0] at this;exact this hb
def RO {p:HO} (h:MI p):∀ (f:Nat) (a:FS) (st:aA),hasM p a->(∀ b,b∈st.2->hasM p b)->∀ b,b∈(visitF f p a st).2->hasM p b
 | 0,a,st,_,hs,b,hb=>hs b hb
 | f+1,a,st,ha,hs,b,hb=>by
  rw[visitF] at hb;split at hb
  ·exact hs b hb
  ·have hf:∀ (l:List FS) (st:aA),(∀ b,b∈l->hasM p b)->(∀ b,b∈st.2->hasM p b)->∀ b,b∈(l.foldl (λst b=>visitF f p b st) st).2->hasM p b:=by
    intro l
    induction l with
    | nil=>intro st _ h2 b hb;exact h2 b hb
    | cons c l ih=>
     intro st h1 h2;exact ih _ (λb hb=>h1 b (by simp[hb])) (RO h f c st (h1 c (by simp)) h2)
   rcases ae.1 hb with hb|hb
   ·exact hf _ (st.1++[a],st.2) (λb hb=>AbW h a b hb) hs b hb
   ·rw[List.mem_singleton.1 hb];exact ha
def Ss {p:HO} (h:MI p) {a:FS} (ha:hasM p a) {b:FS} (hb:b∈reachOf p a):hasM p b:=RO h _ a ([],[]) ha (by simp) b hb
def J4 {α:Type} (f:α->Bool):∀ (l:List α) (k:Int),(∀ x,x∈l->f x=false)->openIdx f l k=[]
 | [],_,_=>rfl
 | x::l,k,h=>by rw[openIdx,h x (by simp)];exact J4 f l (k+1) λy hy=>h y (by simp[hy])
def Mf {l:List aw} (h:∀ s,s∈l->s.done=true):stylesReady l=true:=by
 unfold stylesReady;refine aH.2 λs hs=>?_
 rw[h s hs];simp
def Lp {p:HO} (hp:PI p) (hm:MI p) (he:p.ended=true) (h1:∀ s,s∈p.bf->s.done=true) (h2:∀ m,m∈p.bi->m.done=true) (hs:(step1 p).2=false):p.loaded=true:=by
 have hst:=Mf h1;unfold step1 at hs;split at hs
 ·rename_i h3;rw[h3] at hs;exact absurd hs (by decide)
 ·rename_i h3;have hi:p.inline=0:=by
   rcases Int.decEq p.inline 0 with e|e
   ·exfalso;apply h3;unfold stepParser;rw[G_ e];unfold stepInline;rw[G_ hst]
   ·exact e
  have hb:p.block=0:=by
   rcases Int.decEq p.block 0 with e|e
   ·exfalso;apply h3;unfold stepParser;rw[F_ (by rw[hi];simp),G_ e];obtain⟨k,k1,k2,k3⟩:=hp.bl e;have hk:blk p=k:=by unfold blk;rw[k1,Aw ⟨o_,by have:=hp.sl;omega⟩];omega
    unfold stepBlock;rw[hk,ev,F_ (by simp only[Classical.not_not];omega),F_ (by rw[h1 _ (Ae k2),hst];simp)];split<;>rfl
   ·exact e
  have hq:p.bp.length=0:=by
   rcases Nat.eq_zero_or_pos p.bp.length with e|e
   ·exact e
   ·exfalso;apply h3;unfold stepParser;rw[F_ (by rw[hi];simp),F_ (by rw[hb];simp)];unfold takeToken;rw[F_ (by rw[hb,hi];simp;intro e2;rw[e2] at e;simp at e)]
  have hps:isParsed p=true:=by unfold isParsed;rw[he,hq,hb,hi];rfl
  cases hl:p.loaded with
  | true=>rfl
  | false=>
   exfalso;unfold stepTail at hs;have hd:=hp.df;have hn:=hp.en;rw[F_ (by rw[hps,hl];simp;omega)] at hs;split at hs
   ·rename_i h4;unfold tailDefer at hs;have hin:defSlot p∈p.bf:=by
     unfold defSlot;have:=Dm (λs:aw=>decide (s.mode=4)) p.bf 0 _ (Ae (l:=deferredSlots p) (i:=p.bo.toNat) o_);have e2:=this.1;have e3:=this.2;refine Ae ?_;show((deferredSlots p).getD p.bo.toNat default).toNat<p.bf.length;unfold deferredSlots at *
     omega
    rw[F_ (by rw[h1 _ hin,hst];simp)] at hs;split at hs<;>exact absurd hs (by simp)
   ·split at hs
    ·rename_i h5;unfold tailEnter at hs;have hg:graphReady p (entNow p)=true:=by
      unfold graphReady;refine aH.2 λb hb=>?_
      have hh:=Ss hm (hm.en _ (Ae (l:=p.bh) (i:=p.bu.toNat) o_)) hb;have h0:=L2 hh;rw[bR h0,h2 _ (G8 h0)];rfl
     rw[F_ (by rw[hg,hst];simp)] at hs;exact absurd hs (by simp)
    ·have e1:openSlots p=[]:=J4 _ _ _ λs hs=>by rw[h1 s hs];rfl
     have e2:openMods p=[]:=J4 _ _ _ λm hm=>by rw[h2 m hm];rfl
     rw[F_ (by rw[e1,e2];simp)] at hs;exact absurd hs (by simp)
structure rOk (x:L_):Prop where
 sc:x.kind=2->gdT x.body
 im:x.kind=2\/x.kind=5->∀ h,h∈H3->∀ b,b∈(parseModule x.body h).1->b∈A9
 sz:x.body.size<=400
def CS (p:HO) (a:FS) (x:L_) (s:aw):(fillF p a x s).mode=s.mode/\(s.done=true->fillF p a x s=s)/\(s.to≠a->fillF p a x s=s)/\(s.to=a->(fillF p a x s).done=true):=by
 unfold fillF fillS;refine⟨?_,?_,?_,?_⟩
 ·split
  ·split<;>rfl
  ·rfl
 ·intro h;rw[G_ h];split<;>rfl
 ·intro h;rw[F_ h]
 ·intro h;rw[G_ h];split
  ·assumption
  ·rfl
def OB {p:HO} (h:PI p) (a:FS) {x:L_} (hx:rOk x):PI (fillAll p a x)/\muP (fillAll p a x)=muP p:=by
 refine⟨⟨h.b,h.q,by show(p.bf.map _).length<=20;rw[cC];exact h.sl,h.el,?_,?_,h.ib,h.df,h.en⟩,rfl⟩
 ·intro s hs h1 h2 h3;obtain⟨t,ht,rfl⟩:=bG.1 hs;by_cases hd:t.done=true
  ·rw[(CS p a x t).2.1 hd] at h1 h2 h3 ⊢;exact h.sb t ht h1 h2 h3
  ·rw[(CS p a x t).1] at h3;unfold fillF at h1 h2 ⊢;split at h1
   ·rename_i he;rw[G_ he] at h2;unfold fillS at h1 h2 ⊢;rw[F_ hd] at h1 h2 ⊢;simp only at h2;have hk:x.kind=2:=by
     unfold checkResponse at h2;split at h2
     ·exact absurd h2 (by decide)
     ·split at h2
      ·exact absurd h2 (by decide)
      ·split at h2
       ·exact absurd h2 (by decide)
       ·rename_i h6;unfold reqOf at h6;rw[h3] at h6;simpa [kindOf] using h6
    rw[G_ he];show gdT (usable p.bm (reqOf p t) x).1;unfold usable;rw[G_ h2];exact hx.sc hk
   ·exact absurd h1 hd
 ·intro e;obtain⟨k,k1,k2,k3⟩:=h.bl e;refine⟨k,k1,by show k<(p.bf.map _).length;rw[cC];exact k2,?_⟩;show((p.bf.map (fillF p a x)).getD k default).mode=3;rw[aV,cp,aG k2];rw[aV,aG k2] at k3;exact(CS p a x _).1.trans k3
def Ow (p:HO) (a:FS) (x:L_):∀ l:List aw,doneS l<=doneS (l.map (fillF p a x))/\((∃ s,s∈l/\s.done=false/\s.to=a)->doneS l<doneS (l.map (fillF p a x)))
 | []=>⟨Y_ _,λ⟨s,h,_⟩=>by simp at h⟩
 | s::l=>by
  have ih:=Ow p a x l;have hf:=CS p a x s;unfold doneS at *
  rw[bz,List.countP_cons,List.countP_cons];have h1:(if s.done=true then 1 else 0)<=(if(fillF p a x s).done=true then 1 else 0):=by
   split
   ·rename_i hd;rw[hf.2.1 hd,G_ hd];exact Y_ _
   ·exact Nat.zero_le _
  refine⟨o_,?_⟩;rintro⟨t,ht,h2,h3⟩;rcases ah.1 ht with ht|ht
  ·rw[<-ht];rw[<-ht] at hf;rw[F_ (by rw[h2];simp),G_ (hf.2.2.2 h3)];have:=ih.1;omega
  ·have:=ih.2 ⟨t,ht,h2,h3⟩;omega
def AaL {p:HO} {a b:FS} (x:L_) (h:need p b) (hb:b≠a):need (fillAll p a x) b:=by
 rcases h with⟨s,h1,h2,h3⟩|h
 ·refine .inl ⟨s,?_,h2,h3⟩;have:=List.mem_map_of_mem (f:=fillF p a x) h1
  rwa [(CS p a x s).2.2.1 (by rw[h3];exact hb)] at this
 ·exact .inr h
def FF {p:HO} {a:FS} (x:L_) (h0:0<=findMod p.bi a):∃ l m r,p.bi=l++m::r/\m.to=a/\m=p.bi.getD (findMod p.bi a).toNat default/\(fillM0 p a x).bi=l++fillM p x m::r:=by
 have hl:=(Bu p.bi a).1;have hi:(findMod p.bi a).toNat<p.bi.length:=o_
 refine⟨p.bi.take (findMod p.bi a).toNat,p.bi.getD (findMod p.bi a).toNat default,p.bi.drop ((findMod p.bi a).toNat+1),?_,Dg h0,rfl,?_⟩
 ·have h1:=P_ (l:=p.bi) hi
  calc p.bi=p.bi.take ((findMod p.bi a).toNat+1)++p.bi.drop ((findMod p.bi a).toNat+1):=(di _ _).symm
   _=_:=by rw[h1];simp
 ·show p.bi.modify (findMod p.bi a).toNat (fillM p x)=_;rw[BT _ hi]
def Ag9 {p q:HO} (h:Gr p q) {b:FS} (hb:hasM p b):hasM q b:=by
 obtain⟨m,hm,e⟩:=bG.1 hb;rw[<-e];exact List.mem_map_of_mem (h.md m hm)
def Tn {p:HO} {a:FS} {x:L_} (hp:PI p) (hm:MI p) (hx:rOk x):PI (fillModule p a x)/\MI (fillModule p a x)/\muP (fillModule p a x)=muP p/\(fillModule p a x).bf=p.bf/\doneM p.bi<=doneM (fillModule p a x).bi/\(∀ m,m∈p.bi->m.to≠a->m∈(fillModule p a x).bi)/\((∃ m,m∈p.bi/\m.done=false/\m.to=a)->doneM p.bi<doneM (fillModule p a x).bi)/\(fillModule p a x).addr=p.addr/\(fillModule p a x).bm=p.bm/\(fillModule p a x).ended=p.ended/\(fillModule p a x).tok=p.tok:=by
 unfold fillModule;split
 ·rename_i h1;refine⟨hp,hm,rfl,rfl,Y_ _,λm h _=>h,?_,rfl,rfl,rfl,rfl⟩;rintro⟨m,m1,m2,m3⟩;exfalso;have h0:=L2 (p:=p) (a:=a) (by rw[<-m3];exact List.mem_map_of_mem m1);rcases h1 with h1|h1
  ·omega
  ·have e:=O8 hm.st m1 (G8 h0) (by rw[m3,Dg h0]);rw[<-e,m2] at h1;exact absurd h1 (by decide)
 ·rename_i h1;simp only[not_or,Int.not_lt] at h1;have h0:=h1.1;obtain⟨l,m,r,e1,e2,e3,e4⟩:=FF x h0;have hmm:m∈p.bi:=by rw[e1];simp
  have hto:((fillM0 p a x).bi).map (·.to)=p.bi.map (·.to):=by rw[e4,e1];simp[fillM]
  have hA:a∈A9:=by rw[<-e2];exact hm.ad m hmm
  have hhas:∀ {b},hasM p b->hasM (fillM0 p a x) b:=λh=>by unfold hasM at *;rw[hto];exact h
  have himp:∀ b,b∈(imports (fillM0 p a x) a).1->b∈A9:=by
   intro b hb;have hf:=FN p a x h0;unfold imports at hb;rw[hf.1,hf.2] at hb;split at hb
   ·simp at hb
   ·rename_i h6;simp only[not_or,Classical.not_not] at h6;have hc:checkResponse p.bm ⟨5,m.to,p.addr.host,⟨#[]⟩⟩ x=1:=by rw[e3];exact h6.2.2
    have hb2:(fillM p x (p.bi.getD (findMod p.bi a).toNat default)).body=x.body:=by show(usable p.bm _ x).1=x.body;unfold usable;rw[G_ (by rw[<-e3];exact hc)]
    rw[hb2] at hb;have hk:x.kind=2\/x.kind=5:=by
     unfold checkResponse at hc;split at hc
     ·exact absurd hc (by decide)
     ·split at hc
      ·exact absurd hc (by decide)
      ·split at hc
       ·exact absurd hc (by decide)
       ·rename_i h7;simp at h7;exact(Classical.em (x.kind=5)).elim .inr λe=>.inl (h7 e)
    exact hx.im hk _ (AhJ hA) b hb
  have hP0:PI (fillM0 p a x):=Ug hp _;have hstr:∀ (k:List FS) (q:HO),stM q.bi->stM (k.foldl askModule q).bi:=by
   intro k
   induction k with
   | nil=>intro q h;exact h
   | cons c k ih=>intro q h;exact ih _ (by rw[LC];exact Jk _ h)
  have hgr:∀ (k:List FS) (q:HO),Gr q (k.foldl askModule q)/\(k.foldl askModule q).bf=q.bf/\(k.foldl askModule q).bh=q.bh/\muP (k.foldl askModule q)=muP q/\(PI q->PI (k.foldl askModule q))/\(∀ b,b∈k->hasM (k.foldl askModule q) b)/\(∀ y,y∈(k.foldl askModule q).bi->y∈q.bi\/(y.to∈k/\(y.done=true->y.code=2))):=by
   intro k
   induction k with
   | nil=>intro q;exact⟨DK _,rfl,rfl,rfl,id,by simp,λy hy=>.inl hy⟩
   | cons c k ih=>
    intro q;have e:(askModule q c).bf=q.bf/\(askModule q c).bh=q.bh/\muP (askModule q c)=muP q/\(PI q->PI (askModule q c)):=by rw[LC];exact⟨rfl,rfl,rfl,λh=>Ug h _⟩
    have i:=ih (askModule q c);rw[dD];refine⟨EZ (AgF q c) i.1,i.2.1.trans e.1,i.2.2.1.trans e.2.1,i.2.2.2.1.trans e.2.2.1,λh=>i.2.2.2.2.1 (e.2.2.2 h),λb hb=>?_,λy hy=>?_⟩
    ·rcases ah.1 hb with hb|hb
     ·rw[hb];exact Ag9 i.1 (UD q c)
     ·exact i.2.2.2.2.2.1 b hb
    ·rcases i.2.2.2.2.2.2 y hy with hy|hy
     ·rw[LC] at hy;rcases Ew hy with hy|hy
      ·exact .inl hy
      ·refine .inr ⟨by rw[hy,Gg];simp,λh=>?_⟩;rw[hy] at h ⊢;exact MO q c h
     ·exact .inr ⟨by simp[hy.1],hy.2⟩
  obtain⟨g1,g2,g3,g4,g5,g6,g7⟩:=hgr (imports (fillM0 p a x) a).1 (fillM0 p a x);have hm0:m.done=false:=by have:=h1.2;rw[<-e3] at this;simpa using this
  have hdm:doneM (fillM0 p a x).bi=doneM p.bi+1:=by unfold doneM;rw[e4,cB (List.countP _) e1,List.countP_append,List.countP_append,List.countP_cons,List.countP_cons,G_ (by rfl),F_ (by rw[hm0];simp)];omega
  have hsub:∀ y,y∈p.bi->y.to≠a->y∈(fillM0 p a x).bi:=by
   intro y hy hne;rw[e4];rw[e1] at hy;simp only[ae,ah] at hy ⊢;rcases hy with hy|hy|hy
   ·exact .inl hy
   ·exact absurd (hy▸e2) hne
   ·exact .inr (.inr hy)
  refine⟨g5 hP0,⟨hstr _ _ (by unfold stM;rw[hto];exact hm.st),?_,?_,?_,?_,?_⟩,g4,g2,by have:=g1.dm;omega,λy hy hne=>g1.md y (hsub y hy hne),λ_=>by have:=g1.dm;omega,g1.ad,g1.po,g1.ed,g1.tk⟩
  ·intro y hy;rcases g7 y hy with hy|hy
   ·have:y.to∈p.bi.map (·.to):=by rw[<-hto];exact List.mem_map_of_mem hy
    obtain⟨z,hz,ez⟩:=bG.1 this;rw[<-ez];exact hm.ad z hz
   ·exact himp _ hy.1
  ·intro b hb;have h2:hasM p b:=hm.en b (by rw[g3] at hb;exact hb);obtain⟨z,hz,ez⟩:=bG.1 (hhas h2);rw[<-ez];exact List.mem_map_of_mem (g1.md z hz)
  ·intro y hy h2 h3 b hb;rcases g7 y hy with hy|hy
   ·rw[e4] at hy;simp only[ae,ah] at hy;have hold:y∈p.bi->hasM ((imports (fillM0 p a x) a).1.foldl askModule (fillM0 p a x)) b:=λhy=>by obtain⟨z,hz,ez⟩:=bG.1 (hhas (hm.im y hy h2 h3 b hb));rw[<-ez];exact List.mem_map_of_mem (g1.md z hz)
    rcases hy with hy|hy|hy
    ·exact hold (by rw[e1];simp[hy])
    ·refine g6 b ?_;have hf:=FN p a x h0;unfold imports;rw[hf.1,hf.2,<-e3,<-hy,F_ (by rw[h2,h3];simp;exact h0)];have:y.to.host=a.host:=by rw[hy];exact cB FS.host e2
     rw[<-this];exact hb
    ·exact hold (by rw[e1];simp[hy])
   ·rw[hy.2 h2] at h3;exact absurd h3 (by decide)
  ·rw[g1.ad];exact hm.ho
  ·rw[g3];exact hm.eu
def FH {p:HO} {a:FS} {x:L_} (hp:PI p) (hm:MI p) (hx:rOk x) (hb:muP p<=2000):PI (takeAnswer p a x)/\MI (takeAnswer p a x)/\muP (takeAnswer p a x)<=muP p/\(step1 (takeAnswer p a x)).2=false/\dnP p<=dnP (takeAnswer p a x)/\(need p a->dnP p<dnP (takeAnswer p a x))/\(∀ b,b≠a->need p b->need (takeAnswer p a x) b)/\(takeAnswer p a x).addr=p.addr/\(takeAnswer p a x).bm=p.bm/\(takeAnswer p a x).ended=p.ended/\(takeAnswer p a x).tok=p.tok:=by
 have h1:=OB hp a hx;have hm1:MI (fillAll p a x):=BX hm rfl rfl rfl;have h2:=Tn (p:=fillAll p a x) (a:=a) h1.1 hm1 hx;obtain⟨f1,f2,f3,f4,f5,f6,f7,f8,f9,f10,f11⟩:=h2;have h3:=AaM 2000 f1;have hg:=Ry 2000 (fillModule (fillAll p a x) a x);have hd:=AhD hg;have hds:=Ow p a x p.bf;have e0:dnP (fillModule (fillAll p a x) a x)=doneS (p.bf.map (fillF p a x))+doneM (fillModule (fillAll p a x) a x).bi:=by unfold dnP;rw[f4];rfl
 have e1:doneM p.bi<=doneM (fillModule (fillAll p a x) a x).bi:=f5;have hmu:muP (fillModule (fillAll p a x) a x)=muP p:=f3.trans h1.2;show PI (adv 2000 _)/\_;refine⟨h3.1,Acd 2000 f2 f1,by have:=h3.2.1;unfold takeAnswer advance;omega,h3.2.2 o_,?_,?_,?_,?_,?_,?_,?_⟩
 ·show dnP p<=dnP (adv 2000 _);have:dnP p=doneS p.bf+doneM p.bi:=rfl;omega
 ·intro hn;show dnP p<dnP (adv 2000 _);have e2:dnP p=doneS p.bf+doneM p.bi:=rfl;rcases hn with hn|hn
  ·have:=hds.2 hn;omega
  ·have:=f7 hn;have e3:doneM (fillAll p a x).bi=doneM p.bi:=rfl;omega
 ·intro b hne hn;refine Adb hg ?_;rcases AaL x hn hne with⟨s,s1,s2⟩|⟨m,m1,m2,m3⟩
  ·exact .inl ⟨s,by rw[f4];exact s1,s2⟩
  ·exact .inr ⟨m,f6 m m1 (by rw[m3];exact hne),m2,m3⟩
 ·exact hg.ad.trans f8
 ·exact hg.po.trans f9
 ·exact hg.ed.trans f10
 ·exact hg.tk.trans f11
def Ep {α:Type} [Inhabited α] (f:α->Bool):∀ (l:List α) (k:Int) (x:Int),x∈openIdx f l k↔∃ i:Nat,i<l.length/\x=k+i/\f (l.getD i default)=true
 | [],k,x=>by simp[openIdx]
 | y::l,k,x=>by
  have ih:=Ep f l (k+1) x;have e:(∃ i:Nat,i<(y::l).length/\x=k+i/\f ((y::l).getD i default)=true)↔(x=k/\f y=true)\/∃ i:Nat,i<l.length/\x=k+1+i/\f (l.getD i default)=true:=by
   constructor
   ·rintro⟨i,h1,h2,h3⟩;cases i with
    | zero=>exact .inl ⟨by simpa using h2,h3⟩
    | succ i=>exact .inr ⟨i,by simpa using h1,by rw[h2];push_cast;omega,h3⟩
   ·rintro(⟨h1,h2⟩|⟨i,h1,h2,h3⟩)
    ·exact⟨0,by simp,by simp[h1],h2⟩
    ·exact⟨i+1,by simp;omega,by rw[h2];push_cast;omega,h3⟩
  rw[e,openIdx];split
  ·rename_i h;rw[ah,ih];simp[h]
  ·rename_i h;rw[ih];simp[h]
def HV (p:HO) (a:FS):(∃ r,r∈nextNeeds p/\r.to=a)↔need p a:=by
 unfold nextNeeds need;constructor
 ·rintro⟨r,hr,e⟩;rcases ae.1 hr with hr|hr
  ·obtain⟨k,hk,rfl⟩:=bG.1 hr;obtain⟨i,h1,h2,h3⟩:=(Ep _ _ _ _).1 hk;refine .inl ⟨_,Ae h1,by simpa using h3,?_⟩;rw[h2] at e;unfold slotRequest at e;rw[G_ o_] at e;simpa using e
  ·obtain⟨k,hk,rfl⟩:=bG.1 hr;obtain⟨i,h1,h2,h3⟩:=(Ep _ _ _ _).1 hk;refine .inr ⟨_,Ae h1,by simpa using h3,?_⟩;rw[h2] at e;unfold modRequest at e;rw[G_ o_] at e;simpa using e
 ·rintro(⟨s,h1,h2,h3⟩|⟨m,h1,h2,h3⟩)
  ·obtain⟨i,hi,e⟩:=List.getElem_of_mem h1;have eD:p.bf.getD i default=s:=by rw[aV,aG hi,e];rfl
   refine⟨slotRequest p i,List.mem_append_left _ (List.mem_map_of_mem ((Ep _ _ _ _).2 ⟨i,hi,by simp,by rw[eD,h2];rfl⟩)),?_⟩;unfold slotRequest;rw[G_ o_,ev,eD];exact h3
  ·obtain⟨i,hi,e⟩:=List.getElem_of_mem h1;have eD:p.bi.getD i default=m:=by rw[aV,aG hi,e];rfl
   refine⟨modRequest p i,List.mem_append_right _ (List.mem_map_of_mem ((Ep _ _ _ _).2 ⟨i,hi,by simp,by rw[eD,h2];rfl⟩)),?_⟩;unfold modRequest;rw[G_ o_,ev,eD];exact h3
def Hd (p:HO) (a:FS):needsTo p a=true↔need p a:=by
 rw[<-HV];unfold needsTo;rw[bw];constructor
 ·rintro⟨r,h1,h2⟩;exact⟨r,h1,dZ h2⟩
 ·rintro⟨r,h1,h2⟩;exact⟨r,h1,bR h2⟩
def nOk (n:N_):Prop:=(∀ v,v∈n.servers->∀ f,f∈v.files->rOk f.bd)/\∀ e,e∈n.cache.bh->rOk e.bd
def WZ:rOk notFound:=⟨λh=>absurd (show(1:Int)=2 from h) (by decide),λh=>absurd (show(1:Int)=2\/(1:Int)=5 from h) (by decide),Nat.zero_le _⟩
def Rm {n:N_} (h:nOk n) (a:FS):rOk (answerTo n.servers a):=by
 unfold answerTo;split
 ·exact WZ
 ·rename_i h1;split
  ·exact WZ
  ·rename_i h2;have h3:=BP (λs:V_=>decide (s.host=a.host)) n.servers 0 o_;have h4:=BP (λf:aD=>decide (f.path=a.path)) (n.servers.getD (AQ (λs=>decide (s.host=a.host)) n.servers 0).toNat default).files 0 o_;exact h.1 _ (Ae o_) _ (Ae o_)
def AiL {n:N_} (h:nOk n) (t:ByteArray) (a:FS):rOk ((lookUp n.cache t a n.now).getD notFound):=by
 unfold lookUp;cases q:n.cache.bh.find? (freshEntry t a n.now) with
 | none=>exact WZ
 | some e=>exact h.2 e (List.mem_of_find?_eq_some q)
def keep_nOk {n:N_} (h:nOk n) (t:ByteArray) (a:FS) {x:L_} (hx:rOk x):nOk (keepAnswer n t a x):=by
 unfold keepAnswer;split
 ·refine⟨h.1,λe he=>?_⟩;have he:e∈(storeEntry n.cache t a x n.now).bh:=he;unfold storeEntry at he;split at he
  ·unfold putEntry at he;split at he
   ·obtain⟨i,hi,e2⟩:=List.getElem_of_mem he;simp only[List.getElem_modify] at e2;split at e2
    ·rw[<-e2];exact hx
    ·rw[<-e2];exact h.2 _ (List.getElem_mem _)
   ·rcases ae.1 he with he|he
    ·exact h.2 e he
    ·rw[List.mem_singleton.1 he];exact hx
  ·exact h.2 e he
 ·exact h
def Z5 {n:N_} (h:nOk n) (t:ByteArray) (a:FS) (g:Bool):nOk (logSent n t a g):=by
 unfold logSent;split<;>exact h
def FD {n:N_} (h:nOk n) (t:ByteArray) (a:FS) (g:Bool):nOk (fetchNow n t a g).1/\rOk (fetchNow n t a g).2:=by
 unfold fetchNow;split
 ·exact⟨h,WZ⟩
 ·split
  ·exact⟨h,AiL h t a⟩
  ·refine⟨?_,Rm h a⟩;dsimp only;split
   ·exact Z5 h t a g
   ·exact keep_nOk (Z5 h t a g) _ _ (Rm h a)
def cost (c:ao):Int:=1+(c.left+19) / 20
def sumC (l:List ao):Int:=(l.map cost).sum
def unU (l:List aZ):Int:=BB (λg:aZ=>!g.used) l
def txt (l:O_):List UInt8:=toL l.page.tok.rest++l.parts.flatMap toL
structure LI (l:O_):Prop where
 pi:PI l.page
 mi:MI l.page
 st:(step1 l.page).2=false
 tx:pgT (txt l)
 bg:muP l.page+wL (txt l)+362*csN (txt l)<=2000
 ed:l.page.ended=decide (l.parts.length=0)
 cr:∀ c,c∈l.conns->rOk c.bd/\0<=c.left/\c.left<=420
 nd:(l.conns.map (·.to)).Nodup
 ng:∀ c,c∈l.conns->c.guess=false->need l.page c.to
 gg:∀ c,c∈l.conns->c.guess=true->∀ g,g∈l.guesses->g.to≠c.to
 gr:∀ g,g∈l.guesses->rOk g.bd
 u6:unU l.guesses+(countGuess l.conns:Int)<=6
 nt:nOk l.net
 l3:l.conns.length<=3
def Lam (l:O_):Int:=l.parts.length-24*(dnP l.page:Int)-23*unU l.guesses-23*(l.conns.length:Int)+sumC l.conns
def QY (a b:List ao):sumC (a++b)=sumC a+sumC b:=by unfold sumC;rw[fG,List.sum_append]
def HD (c:ao) (b:List ao):sumC (c::b)=cost c+sumC b:=by unfold sumC;rw[bz,List.sum_cons]
def FV:∀ l:List ao,countGuess l=l.countP (·.guess)
 | []=>rfl
 | c::l=>by rw[countGuess,FV l,List.countP_cons]
def P5 (a b:List aZ):unU (a++b)=unU a+unU b:=by
 unfold unU
 induction a with
 | nil=>simp[BB]
 | cons x a ih=>simp only[cj,BB,ih];omega
def WG:∀ l:List aZ,0<=unU l
 | []=>by simp[unU,BB]
 | x::l=>by have:=WG l;unfold unU at *;rw[BB];split<;>omega
def JS {α:Type} [Inhabited α] {f:α->α} {l:List α} {i:Nat} {x:α} (h:i<l.length) (hx:x∈l.modify i f):x∈l\/x=f (l.getD i default):=by
 rw[BT f h] at hx;simp only[ae,ah] at hx;rcases hx with hx|hx|hx
 ·exact .inl (fH hx)
 ·exact .inr hx
 ·exact .inl (fC hx)
def AjQ {l:O_} (h:LI l) : -903<=Lam l:=by
 have h1:=Ahp h.pi h.mi;have h2:=h.u6;have h3:=h.l3;have h5:0<=sumC l.conns:=by
  have:∀ m:List ao,(∀ c,c∈m->0<=c.left)->0<=sumC m:=by
   intro m
   induction m with
   | nil=>intro _;exact Int.le_refl _
   | cons c m ih=>intro hc;rw[HD];have:=ih λd hd=>hc d (by simp[hd]);have:=hc c (by simp);unfold cost;omega
  exact this _ λc hc=>(h.cr c hc).2.1
 unfold Lam;omega
def Z7 (r:ByteArray):(endText r).length<=wL (toL r):=by
 unfold endText;split
 ·exact Nat.zero_le _
 ·rename_i h;simp only[not_or] at h;have:hdB (λy=>y != 60) (toL r)=true:=by
   cases hc:toL r with
   | nil=>exact absurd (by rw[<-AH r,hc];rfl) h.1
   | cons x l=>
    have h2:=h.2;rw[<-AH r,hc] at h2;simp only[hdB,bne_iff_ne];intro e;apply h2;rw[e];rfl
  unfold wL;rw[G_ this];simp
def atP (p:HO) (ts:List af) (k:dj) (e:Bool):HO:={ p with bp:=p.bp++ts,tok:=k,ended:=e }
def Mb {p:HO} (h:PI p) {ts:List af} (k:dj) (e:Bool) (ht:∀ t,t∈ts->okTk t):PI (atP p ts k e)/\muP (atP p ts k e)=muP p+ts.length+362*nScr ts:=by
 refine⟨⟨h.b,λt hm=>?_,h.sl,h.el,h.sb,h.bl,h.ib,h.df,h.en⟩,?_⟩
 ·rcases ae.1 hm with hm|hm
  ·exact h.q t hm
  ·exact ht t hm
 ·have e1:nScr (p.bp++ts)=nScr p.bp+nScr ts:=by unfold nScr;rw[List.countP_append]
  have e2:muP (atP p ts k e)=(p.bp++ts).length+362*(nScr (p.bp++ts)+openScr p.ba+(if p.inline=0/\p.block=0 then 0 else 1))+(20-p.bo).toNat+(20-p.bu).toNat+(if p.loaded=true then 0 else 1):=rfl;rw[e2,e1,ak];unfold muP scP;omega
def Agg {l:O_} (h:LI l) (h2:(arrivePart l).2=true):LI (arrivePart l).1/\Lam (arrivePart l).1<Lam l:=by
 unfold arrivePart at *
 split at h2
 ·exact absurd (show false=true from h2) (by decide)
 ·rename_i hp;rw[F_ hp];obtain⟨s,r,hl⟩:∃ s r,l.parts=s::r:=by
   cases hc:l.parts with
   | nil=>rw[hc] at hp;exact absurd rfl hp
   | cons s r=>exact⟨s,r,rfl⟩
  have he:l.page.ended=false:=by rw[h.ed,ey hp]
  have hg:l.parts.getD 0 default=s:=by rw[hl];rfl
  have hd:l.parts.drop 1=r:=by rw[hl];rfl
  have ht:txt l=toL (l.page.tok.rest++s)++r.flatMap toL:=by unfold txt;rw[hl,Au];simp
  have htx:=h.tx;have hbg:=h.bg;rw[ht] at htx hbg;have hf:=AbJ (l.page.tok.rest++s) (r.flatMap toL) htx;have hpt:=AeF (l.page.tok.rest++s) (r.flatMap toL);have ha:arriveText l.page s=atP l.page (feedAll (l.page.tok.rest++s)).1 ⟨(feedAll (l.page.tok.rest++s)).2⟩ false:=by unfold arriveText atP;rw[F_ (by rw[he];decide)];rw[<-he]
  have hq:∃ q,arrPage l=q/\PI q/\MI q/\pgT (toL q.tok.rest++r.flatMap toL)/\muP q+wL (toL q.tok.rest++r.flatMap toL)+362*csN (toL q.tok.rest++r.flatMap toL)<=2000/\q.ended=decide (r.length=0)/\q.bf=l.page.bf/\q.bi=l.page.bi:=by
   refine⟨_,rfl,?_⟩;unfold arrPage;rw[hg,ha];have h1:=Mb h.pi ⟨(feedAll (l.page.tok.rest++s)).2⟩ false hf.1;split
   ·rename_i h3;have hr:r=[]:=by rw[hl] at h3;simpa using h3
    subst hr;rw[List.flatMap_nil,cz] at hf hpt;have h4:=AgV _ hf.2;have h5:=Mb h1.1 default true (ts:=endText (feedAll (l.page.tok.rest++s)).2) λt ht=>(h4 t ht).1
    have h8:endPage (atP l.page (feedAll (l.page.tok.rest++s)).1 ⟨(feedAll (l.page.tok.rest++s)).2⟩ false)=atP (atP l.page (feedAll (l.page.tok.rest++s)).1 ⟨(feedAll (l.page.tok.rest++s)).2⟩ false) (endText (feedAll (l.page.tok.rest++s)).2) default true:=by unfold endPage;exact F_ (by simp[atP])
    rw[h8];have h6:nScr (endText (feedAll (l.page.tok.rest++s)).2)=0:=by unfold nScr;rw[List.countP_eq_zero];intro t hm;rw[(h4 t hm).2];decide
    have h7:=Z7 (feedAll (l.page.tok.rest++s)).2;refine⟨h5.1,BX h.mi rfl rfl rfl,⟨rfl,rfl⟩,?_,rfl,rfl,rfl⟩;have e1:=h5.2;have e2:=h1.2;rw[h6,e2] at e1;rw[e1];simp only[List.flatMap_nil,cz] at hbg hpt;have e5:=hpt.1;have e6:=hpt.2;show _+wL []+362*csN []<=2000;have e3:wL []=0:=rfl;have e4:csN []=0:=rfl;rw[e3,e4];omega
   ·rename_i h3;refine⟨h1.1,BX h.mi rfl rfl rfl,hf.2,?_,?_,rfl,rfl⟩
    ·rw[h1.2];have e5:=hpt.1;have e6:=hpt.2;show _+wL (toL (feedAll (l.page.tok.rest++s)).2++r.flatMap toL)+362*csN (toL (feedAll (l.page.tok.rest++s)).2++r.flatMap toL)<=2000;omega
    ·have:r.length≠0:=by rw[hl] at h3;simp at h3;simpa using h3
     rw[ey this];rfl
  obtain⟨q,hq0,q1,q2,q3,q4,q5,q6,q7⟩:=hq;have hA:=AaM 2000 q1;have hG:=Ry 2000 q;have hdn:dnP l.page<=dnP (adv 2000 q):=by
   have:=AhD hG;have e:dnP q=dnP l.page:=by unfold dnP;rw[q6,q7]
   omega
  have hneed:∀ a,need l.page a->need (adv 2000 q) a:=λa hn=>Adb hG (by unfold need at *;rw[q6,q7];exact hn)
  have htxt:toL (adv 2000 q).tok.rest++r.flatMap toL=toL q.tok.rest++r.flatMap toL:=by rw[hG.tk]
  rw[hq0,hd];refine⟨⟨hA.1,Acd 2000 q2 q1,hA.2.2 o_,?_,?_,?_,h.cr,h.nd,λc hc h1=>hneed _ (h.ng c hc h1),h.gg,h.gr,h.u6,h.nt,h.l3⟩,?_⟩
  ·show pgT (toL (adv 2000 q).tok.rest++r.flatMap toL);rw[htxt];exact q3
  ·show muP (adv 2000 q)+wL (toL (adv 2000 q).tok.rest++r.flatMap toL)+362*csN (toL (adv 2000 q).tok.rest++r.flatMap toL)<=2000;rw[htxt];have:=hA.2.1;omega
  ·show(adv 2000 q).ended=_;rw[hG.ed];exact q5
  ·show((r.length:Int))-24*(dnP (adv 2000 q):Int)-23*unU l.guesses-23*(l.conns.length:Int)+sumC l.conns<Lam l;unfold Lam;rw[hl,aq];omega
def Nz {a:FS}:∀ {l:List ao} (i:Int),a∉l.map (·.to)->findConn a l i = -1
 | [],_,_=>rfl
 | c::l,i,h=>by simp only[bz,ah,not_or] at h;rw[findConn,F_ λe=>h.1 e.symm];exact Nz _ h.2
def Hq {a:FS}:∀ {l:List ao} {i:Int},0<=i->findConn a l i<0->a∉l.map (·.to)
 | [],_,_,_=>by simp
 | c::l,i,hi,h=>by
  rw[findConn] at h;split at h
  ·omega
  ·rename_i e;simp only[bz,ah,not_or];exact⟨λq=>e q.symm,Hq o_ h⟩
def AaY {l:List aZ} {a:FS} (h:findGuess l a<0):∀ g,g∈l->g.to≠a:=by
 intro g hg e;have:=(Gb (λg:aZ=>decide (g.to=a)) l 0 o_).2 (bw.2 ⟨g,hg,bR e⟩);unfold findGuess at h;omega
def IW {d:List FS}:∀ {l:List ay} {r:ay},r∈withoutAddrs d l->r∈l/\r.to∉d
 | x::l,r,h=>by
  rw[withoutAddrs] at h;split at h
  ·have:=IW h;exact⟨by simp[this.1],this.2⟩
  ·rename_i e;rcases ah.1 h with h|h
   ·rw[h];refine⟨by simp,λq=>e (bw.2 ⟨_,q,bR rfl⟩)⟩
   ·have:=IW h;exact⟨by simp[this.1],this.2⟩
def MJ:∀ l:List ay,withoutAddrs [] l=l
 | []=>rfl
 | x::l=>by rw[withoutAddrs,F_ (by simp),MJ l]
def Te (p:HO):∀ (l:List ay) (i b c:Int),0<=b->0<=i->0<=pickReq p l i b c
 | [],_,_,_,h,_=>h
 | r::l,i,b,c,h,hi=>by
  rw[pickReq];split
  ·exact Te p l _ _ _ hi o_
  ·exact Te p l _ _ _ h o_
def UX (p:HO) {l:List ay} (h:l≠[]):0<=pickReq p l 0 (-1) 0:=by
 cases l with
 | nil=>exact absurd rfl h
 | cons r l=>rw[pickReq,G_ (.inl o_)];exact Te p l _ _ _ o_ o_
def Oo {l:O_} (h:0<=reqPick l):need l.page (reqTo l)/\reqTo l∉l.conns.map (·.to):=by
 have h1:=Il l.page (reqNeeds l) 0 (-1) 0 o_ o_;have hm:(reqNeeds l).getD (reqPick l).toNat default∈reqNeeds l:=Ae (by unfold reqPick at *;omega);have:=IW hm;exact⟨(HV _ _).1 ⟨_,this.1,rfl⟩,this.2⟩
def Px {l:List ao} {a:FS} (h:l.length<3) (ha:a∉l.map (·.to)) (x:L_) (g:Bool):(openConn l a x g).1=l++[⟨a,sizeResponse x,g,x⟩]:=by
 unfold openConn;rw[F_ (by rw[Nz 0 ha];omega)]
def Ad5 {x:L_} (h:rOk x) (a:FS) (g:Bool):cost ⟨a,sizeResponse x,g,x⟩<=22/\0<=sizeResponse x/\sizeResponse x<=420:=by
 have:=h.sz;unfold cost sizeResponse;simp only;omega
def Abt {l:O_} (h:LI l) {a:FS} {x:L_} {g:Bool} {n:N_} (hx:rOk x) (hn:nOk n) (h3:l.conns.length<3) (ha:a∉l.conns.map (·.to)) (h0:g=false->need l.page a) (h1:g=true->(∀ y,y∈l.guesses->y.to≠a)/\unU l.guesses+(countGuess l.conns:Int)<6) :
 LI { l with net:=n,conns:=(openConn l.conns a x g).1 }/\Lam { l with net:=n,conns:=(openConn l.conns a x g).1 }<Lam l:=by
 rw[Px h3 ha];have hc:=Ad5 hx a g;refine⟨⟨h.pi,h.mi,h.st,h.tx,h.bg,h.ed,?_,?_,?_,?_,h.gr,?_,hn,?_⟩,?_⟩
 ·intro c hm;rcases ae.1 hm with hm|hm
  ·exact h.cr c hm
  ·rw[List.mem_singleton.1 hm];exact⟨hx,hc.2⟩
 ·show((l.conns++[(⟨a,sizeResponse x,g,x⟩:ao)]).map (·.to)).Nodup;rw[fG,List.nodup_append];refine⟨h.nd,by simp,λy hy z hz=>?_⟩;rw[List.map_singleton,List.mem_singleton] at hz;rw[hz];rintro rfl;exact ha hy
 ·intro c hm hg;rcases ae.1 hm with hm|hm
  ·exact h.ng c hm hg
  ·rw[List.mem_singleton.1 hm] at hg ⊢;exact h0 hg
 ·intro c hm hg;rcases ae.1 hm with hm|hm
  ·exact h.gg c hm hg
  ·rw[List.mem_singleton.1 hm] at hg ⊢;exact(h1 hg).1
 ·show unU l.guesses+(countGuess (l.conns++[(⟨a,sizeResponse x,g,x⟩:ao)]):Int)<=6;have:=h.u6;rw[FV] at this ⊢;rw[List.countP_append,List.countP_singleton];cases g with
  | false=>simp;omega
  | true=>have:=(h1 rfl).2;rw[FV] at this;simp;omega
 ·show(l.conns++[_]).length<=3;rw[ak];simp;omega
 ·unfold Lam;show(l.parts.length:Int)-24*(dnP l.page:Int)-23*unU l.guesses-23*((l.conns++[(⟨a,sizeResponse x,g,x⟩:ao)]).length:Int)+sumC (l.conns++[⟨a,sizeResponse x,g,x⟩])<_;rw[QY,HD,ak];have:sumC []=0:=rfl;simp only[dY];omega
def JO {l:O_} (h:LI l) {a:FS} {x:L_} {n:N_} {gs:List aZ} (hx:rOk x) (hn:nOk n) (hd:need l.page a) (ha:a∉l.conns.map (·.to))
 (hg:∀ g,g∈gs->∃ y,y∈l.guesses/\g.to=y.to/\g.bd=y.bd) (hu:unU gs<=unU l.guesses) (hu2:unU l.guesses<=unU gs+1) :
 LI { l with guesses:=gs,net:=n,page:=takeAnswer l.page a x }/\Lam { l with guesses:=gs,net:=n,page:=takeAnswer l.page a x }<Lam l:=by
 have hb:=h.bg;obtain⟨t1,t2,t3,t4,t5,t6,t7,t8,t9,t10,t11⟩:=FH (a:=a) h.pi h.mi hx o_;have htx:toL (takeAnswer l.page a x).tok.rest++l.parts.flatMap toL=txt l:=by rw[t11];rfl
 refine⟨⟨t1,t2,t4,?_,?_,?_,h.cr,h.nd,?_,?_,?_,?_,hn,h.l3⟩,?_⟩
 ·show pgT (toL (takeAnswer l.page a x).tok.rest++l.parts.flatMap toL);rw[htx];exact h.tx
 ·show muP (takeAnswer l.page a x)+wL (toL (takeAnswer l.page a x).tok.rest++l.parts.flatMap toL)+362*csN (toL (takeAnswer l.page a x).tok.rest++l.parts.flatMap toL)<=2000;rw[htx];omega
 ·show(takeAnswer l.page a x).ended=_;rw[t10];exact h.ed
 ·intro c hc h1;exact t7 _ (λe=>ha (by rw[<-e];exact List.mem_map_of_mem hc)) (h.ng c hc h1)
 ·intro c hc h1 g hm;obtain⟨y,y1,y2,_⟩:=hg g hm;rw[y2];exact h.gg c hc h1 y y1
 ·intro g hm;obtain⟨y,y1,_,y3⟩:=hg g hm;rw[y3];exact h.gr y y1
 ·show unU gs+(countGuess l.conns:Int)<=6;have:=h.u6;omega
 ·have:=t6 hd;unfold Lam;show(l.parts.length:Int)-24*(dnP (takeAnswer l.page a x):Int)-23*unU gs-23*(l.conns.length:Int)+sumC l.conns<_;omega
def AbR {l:List aZ} {i:Nat} (h:i<l.length):unU (l.modify i λg=>{ g with used:=true })<=unU l/\unU l<=unU (l.modify i λg=>{ g with used:=true })+1:=by
 rw[BT _ h];have e:l=l.take i++l.getD i default::l.drop (i+1):=by
  have h1:=P_ (l:=l) h
  calc l=l.take (i+1)++l.drop (i+1):=(di _ _).symm
   _=_:=by rw[h1];simp
 have e1:unU l=unU (l.take i)+unU (l.getD i default::l.drop (i+1)):=by rw[<-P5,<-e]
 rw[P5,e1];unfold unU;simp only[BB,Bool.not_true,cD,aP];split<;>omega
def Akm {l:O_} (h:LI l) (h2:(requestNext l).2=true):LI (requestNext l).1/\Lam (requestNext l).1<Lam l:=by
 unfold requestNext at *
 split at h2
 ·exact absurd (show false=true from h2) (by decide)
 ·rename_i h0;rw[F_ h0];obtain⟨s1,s2⟩:=Oo (l:=l) o_;split at h2
  ·rename_i h3;rw[G_ h3];have hf:0<=findGuess l.guesses (reqTo l):=by
    unfold useGuess at h3;split at h3
    ·exact absurd (show false=true from h3) (by decide)
    ·omega
   have hlt:=BP (λg:aZ=>decide (g.to=reqTo l)) l.guesses 0 o_;have hi:(findGuess l.guesses (reqTo l)).toNat<l.guesses.length:=by unfold findGuess at *;omega
   have eu:useGuess l.guesses (reqTo l)=(l.guesses.modify (findGuess l.guesses (reqTo l)).toNat λg=>{ g with used:=true },(l.guesses.getD (findGuess l.guesses (reqTo l)).toNat default).bd,true):=by unfold useGuess;rw[F_ o_]
   rw[eu];have hx:=h.gr _ (Ae hi);have hu:=AbR hi;exact JO h hx (keep_nOk h.nt _ _ hx) s1 s2 (λg hg=>by
    rcases JS hi hg with hg|hg
    ·exact⟨g,hg,rfl,rfl⟩
    ·exact⟨_,Ae hi,by rw[hg],by rw[hg]⟩) hu.1 hu.2
  ·rename_i h3;rw[F_ h3];split at h2
   ·exact absurd (show false=true from h2) (by decide)
   ·rename_i h4;rw[F_ h4];have hf:=FD h.nt l.page.addr.host (reqTo l) false;exact Abt h hf.2 hf.1 o_ s2 (λ_=>s1) (λe=>absurd e (by decide))
def V8 {l:O_} (h:LI l) (h3:l.conns.length<3) (hu:unU l.guesses+(countGuess l.conns:Int)<6):∀ m:List FS,(nextGuess l m).2=true->LI (nextGuess l m).1/\Lam (nextGuess l m).1<Lam l
 | [],h2=>absurd (show false=true from h2) (by decide)
 | a::m,h2=>by
  rw[nextGuess] at *
  split at h2
  ·rename_i h4;rw[G_ h4];exact V8 h h3 hu m h2
  ·rename_i h4;rw[F_ h4];simp only[not_or,Int.not_le] at h4;have hf:=FD h.nt l.page.addr.host a true;exact Abt h hf.2 hf.1 h3 (Hq o_ h4.2) (λe=>absurd e (by decide)) λ_=>⟨AaY h4.1,hu⟩
def AfX {l:O_} (h:LI l) (h2:(guessNext l).2=true):LI (guessNext l).1/\Lam (guessNext l).1<Lam l:=by
 unfold guessNext at *
 split at h2
 ·exact absurd (show false=true from h2) (by decide)
 ·rename_i h4;rw[F_ h4];simp only[not_or,Nat.not_le,Int.not_le] at h4;exact V8 h h4.1 h4.2 _ h2
def ZO {l:O_} (h:LI l) {k:Int} (h0:0<=k) (hk:k<l.conns.length):LI (finish1 l k)/\Lam (finish1 l k)<Lam l:=by
 have hi:k.toNat<l.conns.length:=o_
 obtain⟨A,c,B,eC,eG,eD⟩:∃ A c B,l.conns=A++c::B/\l.conns.getD k.toNat default=c/\closeConn l.conns k=A++B:=by
  refine⟨l.conns.take k.toNat,_,l.conns.drop (k.toNat+1),?_,rfl,Ia h0 hk⟩;have h1:=P_ (l:=l.conns) hi
  calc l.conns=l.conns.take (k.toNat+1)++l.conns.drop (k.toNat+1):=(di _ _).symm
   _=_:=by rw[h1];simp
 have hmem:∀ d,d∈A++B->d∈l.conns:=λd hd=>by rw[eC];simp only[ae,ah] at hd ⊢;exact hd.imp id .inr
 have hc:c∈l.conns:=by rw[eC];simp
 have hn:(c.to::(A++B).map (·.to)).Nodup:=by
  have h1:=h.nd;rw[eC] at h1;have h2:(A++c::B).map (·.to) |>.Perm (c.to::(A++B).map (·.to)):=by simp
  exact h2.nodup_iff.1 h1
 rw[List.nodup_cons] at hn;have hrc:=h.cr c hc;have hcost:1<=cost c:=by unfold cost;have:=hrc.2.1;omega
 have hsum:sumC l.conns=cost c+sumC (A++B):=by rw[eC,QY,HD,QY];omega
 have hlen:l.conns.length=(A++B).length+1:=by rw[eC];simp;omega
 have hgc:(countGuess l.conns:Int)=countGuess (A++B)+(if c.guess=true then 1 else 0):=by rw[FV,FV,eC,List.countP_append,List.countP_cons,List.countP_append];split<;>simp<;>omega
 have hbase:∀ gs:List aZ,(∀ g,g∈gs->rOk g.bd)->(∀ d,d∈A++B->d.guess=true->∀ g,g∈gs->g.to≠d.to)->unU gs+(countGuess (A++B):Int)<=6->LI { l with conns:=A++B,guesses:=gs }:=λgs g1 g2 g3=>
  ⟨h.pi,h.mi,h.st,h.tx,h.bg,h.ed,λd hd=>h.cr d (hmem d hd),hn.2,λd hd=>h.ng d (hmem d hd),g2,g1,g3,h.nt,by show(A++B).length<=3;have:=h.l3;omega⟩
 have hu6:=h.u6;have hl0:LI { l with conns:=A++B }:=hbase l.guesses h.gr (λd hd=>h.gg d (hmem d hd)) (show unU l.guesses+(countGuess (A++B):Int)<=6 by split at hgc<;>omega);have eq0:Lam { l with conns:=A++B }+cost c=Lam l+23:=by unfold Lam;show(l.parts.length:Int)-24*(dnP l.page:Int)-23*unU l.guesses-23*((A++B).length:Int)+sumC (A++B)+cost c=_;omega
 unfold finish1;rw[eG,eD];unfold finishC;split
 ·rename_i h1;have hnd:=(Hd _ _).1 h1;have key:∀ n:N_,nOk n->LI { l with conns:=A++B,net:=n,page:=takeAnswer l.page c.to c.bd }/\Lam { l with conns:=A++B,net:=n,page:=takeAnswer l.page c.to c.bd }<Lam l:=λn hn2=>by
   have h2:=JO hl0 (n:=n) (gs:=l.guesses) hrc.1 hn2 hnd hn.1 (λg hg=>⟨g,hg,rfl,rfl⟩) (Int.le_refl _) (show unU l.guesses<=unU l.guesses+1 from o_);refine⟨h2.1,?_⟩;have hb:=h.bg;have t6:=(FH (a:=c.to) h.pi h.mi hrc.1 o_).2.2.2.2.2.1 hnd;have e:Lam { l with conns:=A++B,net:=n,page:=takeAnswer l.page c.to c.bd }=Lam { l with conns:=A++B }+24*(dnP l.page:Int)-24*(dnP (takeAnswer l.page c.to c.bd):Int):=by unfold Lam;show(l.parts.length:Int)-24*(dnP (takeAnswer l.page c.to c.bd):Int)-23*unU l.guesses-23*((A++B).length:Int)+sumC (A++B)=(l.parts.length:Int)-24*(dnP l.page:Int)-23*unU l.guesses-23*((A++B).length:Int)+sumC (A++B)+_-_;omega
   omega
  split
  ·exact key _ (keep_nOk h.nt _ _ hrc.1)
  ·exact key _ h.nt
 ·rename_i h1;have hg:c.guess=true:=by
   cases hg:c.guess with
   | true=>rfl
   | false=>exact absurd ((Hd _ _).2 (h.ng c hc hg)) h1
  rw[G_ hg];rw[G_ hg] at hgc;have hcg:(0:Int)<=countGuess (A++B):=o_
  have hno:=h.gg c hc hg;have hf:findGuess l.guesses c.to<0:=by
   rcases Int.lt_or_le (findGuess l.guesses c.to) 0 with e|e
   ·exact e
   ·exfalso;have:=(Gb (λg:aZ=>decide (g.to=c.to)) l.guesses 0 o_).1 e;obtain⟨g,g1,g2⟩:=bw.1 this;exact hno g g1 (dZ g2)
  have ea:(addGuess l.guesses c.to c.bd).1=l.guesses++[⟨c.to,c.bd,false⟩]:=by
   unfold addGuess;have:unU l.guesses<6:=o_
   unfold unU at this;rw[F_ o_]
  show LI { l with conns:=A++B,guesses:=(addGuess l.guesses c.to c.bd).1 }/\Lam { l with conns:=A++B,guesses:=(addGuess l.guesses c.to c.bd).1 }<Lam l;rw[ea];have hu:unU (l.guesses++[⟨c.to,c.bd,false⟩])=unU l.guesses+1:=by rw[P5];rfl
  refine⟨hbase _ (λg hg=>?_) (λd hd hdg g hg=>?_) (by rw[hu];omega),?_⟩
  ·rcases ae.1 hg with hg|hg
   ·exact h.gr g hg
   ·rw[List.mem_singleton.1 hg];exact hrc.1
  ·rcases ae.1 hg with hg|hg
   ·exact h.gg d (hmem d hd) hdg g hg
   ·rw[List.mem_singleton.1 hg];show c.to≠d.to;intro e;exact hn.1 (by rw[e];exact List.mem_map_of_mem hd)
  ·have e:Lam { l with conns:=A++B,guesses:=l.guesses++[⟨c.to,c.bd,false⟩]}=Lam { l with conns:=A++B }-23:=by unfold Lam;show(l.parts.length:Int)-24*(dnP l.page:Int)-23*unU (l.guesses++[⟨c.to,c.bd,false⟩])-23*((A++B).length:Int)+sumC (A++B)=(l.parts.length:Int)-24*(dnP l.page:Int)-23*unU l.guesses-23*((A++B).length:Int)+sumC (A++B)-23;rw[hu];omega
   omega
def R1:∀ (l:List ao) (z:Int),0<=z->firstDone l z<0->∀ c,c∈l->0<c.left
 | [],_,_,_,c,h=>by simp at h
 | d::l,z,hz,h,c,hc=>by
  rw[firstDone] at h;split at h
  ·omega
  ·rename_i e;rcases ah.1 hc with hc|hc
   ·rw[hc];omega
   ·exact R1 l (z+1) o_ h c hc
def Adr:∀ (n:Nat) {l:O_},LI l->LI (xfer n l)/\Lam (xfer n l)<=Lam l/\(1<=n->0<=firstDone l.conns 0->Lam (xfer n l)<Lam l)
 | 0,l,h=>⟨h,Int.le_refl _,λh=>o_⟩
 | n+1,l,h=>by
  rw[xfer];split
  ·exact⟨h,Int.le_refl _,λ_ _=>o_⟩
  ·rename_i h1;have h2:=CI l.conns 0 o_;have h3:=ZO h (k:=firstDone l.conns 0) o_ o_;have ih:=Adr n h3.1;exact⟨ih.1,o_,λ_ _=>o_⟩
def P4 {l:O_} (h:LI l) {b:Int} (hb:20<=b/\b<=1000):LI (moved l b)/\Lam (moved l b)<=Lam l/\((∃ c,c∈l.conns/\0<c.left)->Lam (moved l b)<Lam l):=by
 have em:moveConns l.conns b=l.conns.map (moveOne b):=by unfold moveConns;rw[G_ (by unfold inRange;simp;omega)]
 have hw:∀ c:ao,0<=c.left->c.left<=420->(moveOne b c).left=max 0 (c.left-b):=λc h1 h2=>by unfold moveOne;simp only;rw[Aw ⟨o_,o_⟩]
 have hto:∀ m:List ao,(m.map (moveOne b)).map (·.to)=m.map (·.to):=λm=>by rw[ee];rfl
 have hcg:∀ m:List ao,countGuess (m.map (moveOne b))=countGuess m:=λm=>by rw[FV,FV,List.countP_map];rfl
 have hs:∀ m:List ao,(∀ c,c∈m->0<=c.left/\c.left<=420)->sumC (m.map (moveOne b))<=sumC m/\((∃ c,c∈m/\0<c.left)->sumC (m.map (moveOne b))<sumC m):=by
  intro m
  induction m with
  | nil=>intro _;exact⟨Int.le_refl _,λ⟨c,hc,_⟩=>by simp at hc⟩
  | cons d m ih=>
   intro hc;have i:=ih λc h1=>hc c (by simp[h1])
   have hd:=hc d (by simp);rw[bz,HD,HD];have e1:cost (moveOne b d)<=cost d:=by unfold cost;rw[hw d hd.1 hd.2];omega
   refine⟨o_,?_⟩;rintro⟨c,h1,h2⟩;rcases ah.1 h1 with h1|h1
   ·have e2:cost (moveOne b d)<cost d:=by rw[h1] at h2;unfold cost;rw[hw d hd.1 hd.2];omega
    omega
   ·have:=i.2 ⟨c,h1,h2⟩;omega
 have hsl:=hs l.conns λc hc=>(h.cr c hc).2
 unfold moved;rw[em];refine⟨⟨h.pi,h.mi,h.st,h.tx,h.bg,h.ed,?_,?_,?_,?_,h.gr,?_,h.nt,?_⟩,?_,?_⟩
 ·intro c hc;obtain⟨d,hd,rfl⟩:=bG.1 hc;have h1:=h.cr d hd;refine⟨h1.1,?_⟩;rw[hw d h1.2.1 h1.2.2];have:=h1.2;omega
 ·show((l.conns.map (moveOne b)).map (·.to)).Nodup;rw[hto];exact h.nd
 ·intro c hc;obtain⟨d,hd,rfl⟩:=bG.1 hc;exact h.ng d hd
 ·intro c hc;obtain⟨d,hd,rfl⟩:=bG.1 hc;exact h.gg d hd
 ·show unU l.guesses+(countGuess (l.conns.map (moveOne b)):Int)<=6;rw[hcg];exact h.u6
 ·show(l.conns.map (moveOne b)).length<=3;rw[cC];exact h.l3
 ·unfold Lam;show(l.parts.length:Int)-24*(dnP l.page:Int)-23*unU l.guesses-23*((l.conns.map (moveOne b)).length:Int)+sumC (l.conns.map (moveOne b))<=_;rw[cC];have:=hsl.1;omega
 ·intro hx;unfold Lam;show(l.parts.length:Int)-24*(dnP l.page:Int)-23*unU l.guesses-23*((l.conns.map (moveOne b)).length:Int)+sumC (l.conns.map (moveOne b))<_;rw[cC];have:=hsl.2 hx;omega
def Aj6 {l:O_} (h:LI l) {b:Int} (hb:20<=b/\b<=1000) (h2:(transfer l b).2=true):LI (transfer l b).1/\Lam (transfer l b).1<Lam l:=by
 unfold transfer at *
 split at h2
 ·exact absurd (show false=true from h2) (by decide)
 ·rename_i h3;rw[F_ h3];simp only[not_or] at h3;have hm:=P4 h hb;have hx:=Adr l.conns.length hm.1;refine⟨hx.1,?_⟩;show Lam (xfer l.conns.length (moved l b))<Lam l;rcases Int.lt_or_le (firstDone (moved l b).conns 0) 0 with e|e
  ·-- none has ended: some had bytes left
   have h4:=R1 _ 0 o_ e;obtain⟨c,r,hc⟩:∃ c r,l.conns=c::r:=by
    cases hq:l.conns with
    | nil=>rw[hq] at h3;exact absurd rfl h3.1
    | cons c r=>exact⟨c,r,rfl⟩
   have hcm:c∈l.conns:=by rw[hc];simp
   have hmv:moveOne b c∈(moved l b).conns:=by unfold moved moveConns;rw[G_ (by unfold inRange;simp;omega)];exact List.mem_map_of_mem hcm
   have h5:=h4 _ hmv;have h6:=(h.cr c hcm).2;have:0<c.left:=by unfold moveOne at h5;simp only at h5;rw[Aw ⟨o_,o_⟩] at h5;omega
   have:=hm.2.2 ⟨c,hcm,this⟩;have:=hx.2.1;omega
  ·have:=hx.2.2 o_ e;have:=hm.2.1;omega
def AkX {l:O_} (h:LI l) (n:Int) (h2:(actOf l n).2=true):LI (actOf l n).1/\Lam (actOf l n).1<Lam l:=by
 unfold actOf at *
 split at h2
 ·rename_i e;rw[G_ e];exact Agg h h2
 ·rename_i e;rw[F_ e];split at h2
  ·rename_i e;rw[G_ e];exact Akm h h2
  ·rename_i e;rw[F_ e];split at h2
   ·rename_i e;rw[G_ e];exact AfX h h2
   ·rename_i e;rw[F_ e];split at h2
    ·rename_i e;rw[G_ e];exact Aj6 h o_ h2
    ·rename_i e;rw[F_ e];exact Aj6 h o_ h2
def VA {l:O_} (h:LI l) (c:Int):∀ n:Nat,LI (stepR l c n).1/\((stepR l c n).2=true->Lam (stepR l c n).1<Lam l)/\((stepR l c n).2=false->(stepR l c n).1=l/\∀ k:Nat,k<n->(actOf l ((max 0 c % 5+(4-(k:Int))) % 5)).2=false)
 | 0=>⟨h,λe=>absurd (show false=true from e) (by decide),λ_=>⟨rfl,λk hk=>o_⟩⟩
 | n+1=>by
  have ih:=VA h c n;rw[stepR];split
  ·rename_i e;have h1:=AkX h _ e;exact⟨h1.1,λ_=>h1.2,λe2=>absurd (e.symm.trans e2) (by decide)⟩
  ·rename_i e;refine⟨ih.1,ih.2.1,λe2=>⟨(ih.2.2 e2).1,λk hk=>?_⟩⟩;rcases Nat.lt_or_ge k n with q|q
   ·exact(ih.2.2 e2).2 k q
   ·have:k=n:=o_
    rw[this];exact Bool.eq_false_iff.2 e
def Afh {l:O_} {c:Int} (h:∀ k:Nat,k<5->(actOf l ((max 0 c % 5+(4-(k:Int))) % 5)).2=false):∀ n:Int,0<=n->n<5->(actOf l n).2=false:=by
 intro n h0 h5;have e:∃ k:Nat,k<5/\(max 0 c % 5+(4-(k:Int))) % 5=n:=by refine⟨((max 0 c % 5+4-n) % 5).toNat,o_,o_⟩
 obtain⟨k,k1,k2⟩:=e;rw[<-k2];exact h k k1
def AbZ {l:O_} (h:LI l) (h2:∀ n:Int,0<=n->n<5->(actOf l n).2=false):finL l=true:=by
 have hp:l.parts.length=0:=by
  have:=h2 0 o_ o_;unfold actOf at this;rw[G_ rfl] at this;unfold arrivePart at this;split at this
  ·assumption
  ·exact absurd this (by simp)
 have hc:l.conns=[]:=by
  have:=h2 4 o_ o_;unfold actOf at this;rw[F_ o_,F_ o_,F_ o_,F_ o_] at this;unfold transfer at this;split at this
  ·rename_i e;rcases e with e|e
   ·exact List.length_eq_zero_iff.1 e
   ·exact absurd e (by decide)
  ·exact absurd this (by simp)
 have hn:∀ a,¬ need l.page a:=by
  intro a ha;obtain⟨r,hr,_⟩:=(HV _ _).2 ha;have h1:=h2 1 o_ o_;unfold actOf at h1;rw[F_ o_,G_ rfl] at h1;have hq:0<=reqPick l:=by unfold reqPick reqNeeds busyOf;rw[hc,List.map_nil,MJ];exact UX _ (λe=>by rw[e] at hr;simp at hr)
  unfold requestNext at h1;rw[F_ o_] at h1;split at h1
  ·exact absurd h1 (by simp)
  ·rw[F_ (by rw[hc];simp)] at h1;exact absurd h1 (by simp)
 have e1:∀ s,s∈l.page.bf->s.done=true:=λs hs=>by
  cases hd:s.done with
  | true=>rfl
  | false=>exact absurd (.inl ⟨s,hs,hd,rfl⟩) (hn s.to)
 have e2:∀ m,m∈l.page.bi->m.done=true:=λm hm=>by
  cases hd:m.done with
  | true=>rfl
  | false=>exact absurd (.inr ⟨m,hm,hd,rfl⟩) (hn m.to)
 have:=Lp h.pi h.mi (by rw[h.ed,hp];rfl) e1 e2 h.st;unfold finL;rw[this,hp];rfl
def K3 {l:O_} (h:LI l) (c:Int):LI (stepTo l c)/\Lam (stepTo l c)<=Lam l/\((stepLoad l c).2=true->Lam (stepTo l c)<Lam l)/\((stepLoad l c).2=false->finL l=true):=by
 have h1:=VA h c 5;unfold stepTo stepLoad;refine⟨h1.1,?_,h1.2.1,λe=>AbZ h (Afh (h1.2.2 e).2)⟩;cases e:(stepR l c 5).2 with
 | true=>have:=h1.2.1 e;omega
 | false=>rw[(h1.2.2 e).1];exact Int.le_refl _
def Abd:∀ (n:Nat) {l:O_},LI l->Lam l+903<n->finL (runB n l)=true/\LI (runB n l)
 | 0,l,h,hn=>by have:=AjQ h;omega
 | n+1,l,h,hn=>by
  have hs:=K3 h 0;rw[runB];split
  ·rename_i e;exact⟨e,h⟩
  ·split
   ·rename_i e2;have:=hs.2.2.1 e2;exact Abd n hs.1 o_
   ·rename_i e1 e2;exact absurd (hs.2.2.2 (Bool.eq_false_iff.2 e2)) e1
def Pp:∀ (cs:List Int) {l:O_},LI l->LI (cs.foldl stepTo l)/\Lam (cs.foldl stepTo l)<=Lam l
 | [],l,h=>⟨h,Int.le_refl _⟩
 | c::cs,l,h=>by have h1:=K3 h c;have ih:=Pp cs h1.1;rw[dD];exact⟨ih.1,o_⟩
def Ah2 {l:O_} (h:LI l) (hl:Lam l<=90) (cs:List Int):finL (runLoad l cs)=true/\LI (runLoad l cs):=by
 have h1:=Pp (cs.take 100) h;exact Abd 1000 h1.1 o_
def fR (R:FS->L_) (p:HO) (s:aw):aw:=fillS p (R s.to) s
def cq (R:FS->L_) (p:HO) (q0:List af):HO:={ p with bf:=p.bf.map (fR R p),bi:=[],bp:=p.bp++q0,tok:=default,ended:=true }
def KP_ (R:FS->L_) (p:HO):HO:={ p with bf:=p.bf.map (fR R p),bi:=[]}
def NF {R:FS->L_} (p:HO) {s:aw} (h:s.done=true):fR R p s=s:=by unfold fR fillS;rw[G_ h]
def Y4 (R:FS->L_) (p:HO) (s:aw):(fR R p s).done=true/\(fR R p s).mode=s.mode/\(fR R p s).to=s.to:=by
 unfold fR fillS;split
 ·rename_i h;exact⟨h,rfl,rfl⟩
 ·exact⟨rfl,rfl,rfl⟩
def Y0 (R:FS->L_) (p q:HO) (s:aw):fR R q (fR R p s)=fR R p s:=NF q (Y4 R p s).1
def ZR (R:FS->L_) (p q:HO) (l:List aw):(l.map (fR R p)).map (fR R q)=l.map (fR R p):=by
 rw[ee];exact List.map_congr_left λs _=>Y0 R p q s
def Uo (R:FS->L_) (p:HO) (q0:List af):KP_ R (cq R p q0)=cq R p q0:=by
 unfold KP_ cq;simp only[ZR]
def Qw (R:FS->L_) (p:HO) (l:List aw):stylesReady (l.map (fR R p))=true:=by
 refine Mf λs hs=>?_
 obtain⟨t,_,rfl⟩:=bG.1 hs;exact(Y4 R p t).1
def S9 (R:FS->L_) (p:HO):∀ l:List aw,stylesReady l=true->sheetsOf (l.map (fR R p))=sheetsOf l
 | [],_=>rfl
 | s::l,h=>by
  unfold stylesReady at h;rw[List.all_cons,S_] at h;have ih:=S9 R p l h.2;unfold sheetsOf at *
  rw[bz,List.filter_cons,List.filter_cons];by_cases hm:s.mode=2
  ·have hd:s.done=true:=by have:=h.1;rw[hm] at this;simpa using this
   rw[NF p hd];split
   ·rw[bz,bz,ih]
   ·exact ih
  ·rw[F_ (by rw[(Y4 R p s).2.1];simp[hm]),F_ (by simp[hm])];exact ih
def Ab1 {R:FS->L_} {p:HO} (q0:List af) (c:ByteArray) (w:Bool) (h:stylesReady p.bf=true):runCode (cq R p q0) c w=cq R (runCode p c w) q0:=by
 have hs:rsOf (cq R p q0) c=rsOf p c:=by unfold rsOf;show runScript p.ba (sheetsOf (p.bf.map (fR R p))) _=_;rw[S9 R p p.bf h]
 unfold runCode;rw[hs];split
 ·cases w with
  | true=>
   simp only[aC];unfold cq;simp only[HO.mk.injEq,true_and,and_true];exact⟨(bF _ _ _).symm,rfl⟩
  | false=>rfl
 ·rfl
def PT (R:FS->L_) (p:HO) (q0:List af) (m:Int) (to dg:ByteArray) (n:Int):KP_ R (addSlot (cq R p q0) m to dg n).1=cq R (addSlot p m to dg n).1 q0/\(addSlot (cq R p q0) m to dg n).2=(addSlot p m to dg n).2:=by
 have hl:(cq R p q0).bf.length=p.bf.length:=by show(p.bf.map _).length=_;rw[cC]
 unfold addSlot;rw[hl];split
 ·refine⟨?_,by rfl⟩;show KP_ R { cq R p q0 with bf:=p.bf.map (fR R p)++[newSlot p m to dg n]}=cq R { p with bf:=p.bf++[newSlot p m to dg n]} q0;unfold KP_ cq;simp only[HO.mk.injEq,true_and,and_true,fG];show(p.bf.map (fR R p)).map (fR R p)++_=_;rw[ZR];rfl
 ·exact⟨Uo R p q0,rfl⟩
def Aec (R:FS->L_) (p:HO) (q0:List af) (to:ByteArray):KP_ R (addEntry (cq R p q0) to)=cq R (addEntry p to) q0:=by
 unfold addEntry;show KP_ R (if(parseAddr to p.addr.host).2=true/\p.bh.length<20 then _ else _)=_;split
 ·rw[LC,LC];show KP_ R { cq R p q0 with bi:=_,bh:=_ }=_;unfold KP_ cq;simp only[HO.mk.injEq,true_and,and_true];show(p.bf.map (fR R p)).map (fR R p)=_;rw[ZR];rfl
 ·exact Uo R p q0
def AeA {R:FS->L_} {p:HO} (q0:List af) (h:0<p.bp.length) (t:af):taken (cq R p q0) t=cq R (taken p t) q0:=by
 unfold taken cq;simp only[HO.mk.injEq,true_and,and_true];refine⟨?_,rfl⟩;rw[List.drop_append_of_le_length o_]
def Zk (R:FS->L_) (p:HO) (q0:List af) (n:Int):KP_ R (script (cq R p q0) n)=cq R (script p n) q0:=by
 have e1:(cq R p q0).ba=p.ba:=rfl;have e2:(cq R p q0).bm=p.bm:=rfl;unfold script;rw[e1,e2];split
 ·split
  ·exact Uo R { p with inline:=n } q0
  ·exact Uo R p q0
 ·split
  ·exact(PT R p q0 4 _ _ n).1
  ·split
   ·exact Aec R p q0 _
   ·have hs:=PT R p q0 3 ((findAttr (p.ba.bj.getD n.toNat default).bq ⟨#[115,114,99]⟩).getD ⟨#[]⟩) ((findAttr (p.ba.bj.getD n.toNat default).bq ⟨#[100,105,103,101,115,116]⟩).getD ⟨#[]⟩) n;have e:∀ (q:HO) (b:Int),KP_ R { q with block:=b }={ KP_ R q with block:=b }:=λ_ _=>rfl
    rw[e,hs.1,hs.2];rfl
def Aik {R:FS->L_} {p:HO} (q0:List af) (h:(takeToken p).2=true):(takeToken (cq R p q0)).2=true/\KP_ R (takeToken (cq R p q0)).1=cq R (takeToken p).1 q0:=by
 unfold takeToken at *
 split at h
 ·exact absurd (show false=true from h) (by decide)
 ·rename_i hc;simp only[not_or] at hc;have hq:0<p.bp.length:=Nat.pos_of_ne_zero hc.1;have hq2:(cq R p q0).bp=p.bp++q0:=rfl;rw[F_ (by rw[hq2];simp only[not_or];exact⟨by rw[ak];omega,hc.2⟩)];rw[F_ (by simp only[not_or];exact hc)];refine⟨rfl,?_⟩;have hh:(cq R p q0).bp.getD 0 default=p.bp.getD 0 default:=by rw[hq2,aV,aV,cL hq]
  simp only;rw[hh];unfold takeTok;rw[AeA q0 hq];show KP_ R (if(p.bp.getD 0 default).kind=1/\0<=(addToken p.ba (p.bp.getD 0 default)).2 then _ else if isScript p (p.bp.getD 0 default)=true then _ else _)=_;split
  ·unfold element;split
   ·exact(PT R _ q0 _ _ _ _).1
   ·split
    ·exact(PT R _ q0 _ _ _ _).1
    ·exact Uo R _ q0
  ·split
   ·exact Zk R _ q0 _
   ·exact Uo R _ q0
def Abq {R:FS->L_} {p:HO} (q0:List af) (h:(stepParser p).2=true):(stepParser (cq R p q0)).2=true/\KP_ R (stepParser (cq R p q0)).1=cq R (stepParser p).1 q0:=by
 unfold stepParser at *
 split at h
 ·rename_i h0;rw[G_ h0,G_ (show(cq R p q0).inline≠0 from h0)];unfold stepInline at *
  split at h
  ·rename_i h1;rw[G_ h1,G_ (show stylesReady (cq R p q0).bf=true from Qw R p p.bf)];refine⟨rfl,?_⟩;show KP_ R { runCode (cq R p q0) (textOf p.inline p.ba.bj ⟨#[]⟩) true with inline:=0 }=_;rw[Ab1 q0 _ _ h1];exact Uo R { runCode p (textOf p.inline p.ba.bj ⟨#[]⟩) true with inline:=0 } q0
  ·exact absurd (show false=true from h) (by decide)
 ·rename_i h0;rw[F_ h0,F_ (show ¬ (cq R p q0).inline≠0 from h0)];split at h
  ·rename_i h1;rw[G_ h1,G_ (show(cq R p q0).block≠0 from h1)];have hl:(cq R p q0).bf.length=p.bf.length:=by show(p.bf.map _).length=_;rw[cC]
   unfold stepBlock at *
   rw[hl];show((if ¬ (0<=blk p/\blk p<p.bf.length) then _ else _:HO×Bool)).2=true/\KP_ R ((if ¬ (0<=blk p/\blk p<p.bf.length) then _ else _:HO×Bool)).1=_;split at h
   ·rename_i h2;rw[G_ h2,G_ h2];exact⟨rfl,Uo R { p with block:=0 } q0⟩
   ·rename_i h2;rw[F_ h2,F_ h2];split at h
    ·exact absurd (show false=true from h) (by decide)
    ·rename_i h3;rw[F_ h3];simp only[not_or,Bool.not_eq_false] at h3;have hin:(blk p).toNat<p.bf.length:=o_
     have hg:(cq R p q0).bf.getD (blk p).toNat default=p.bf.getD (blk p).toNat default:=by
      show(p.bf.map (fR R p)).getD _ default=_;rw[aV,cp,aG hin];have e:p.bf.getD (blk p).toNat default=p.bf[(blk p).toNat]:=by rw[aV,aG hin];rfl
      rw[e] at h3 ⊢;exact NF p h3.1
     show((if((cq R p q0).bf.getD (blk p).toNat default).done=false\/stylesReady (cq R p q0).bf=false then _ else if((cq R p q0).bf.getD (blk p).toNat default).code=1 then _ else _:HO×Bool)).2=true/\KP_ R ((if((cq R p q0).bf.getD (blk p).toNat default).done=false\/stylesReady (cq R p q0).bf=false then _ else if((cq R p q0).bf.getD (blk p).toNat default).code=1 then _ else _:HO×Bool)).1=_;have hn:¬ (((cq R p q0).bf.getD (blk p).toNat default).done=false\/stylesReady (cq R p q0).bf=false):=by rw[hg];simp only[not_or,Bool.not_eq_false];exact⟨h3.1,Qw R p p.bf⟩
     rw[F_ hn];rw[hg];split
     ·refine⟨rfl,?_⟩;show KP_ R { runCode (cq R p q0) ((cq R p q0).bf.getD (blk p).toNat default).body true with block:=0 }=_;rw[hg,Ab1 q0 _ _ h3.2];exact Uo R { runCode p (p.bf.getD (blk p).toNat default).body true with block:=0 } q0
     ·exact⟨rfl,Uo R { p with block:=0 } q0⟩
  ·rename_i h1;rw[F_ h1,F_ (show ¬ (cq R p q0).block≠0 from h1)];exact Aik q0 h
def mR (R:FS->L_) (po:aQ) (ho:ByteArray) (a:FS):X_:=if checkRequest po ⟨5,a,ho,⟨#[]⟩⟩=1 then⟨a,true,checkResponse po ⟨5,a,ho,⟨#[]⟩⟩ (R a),(usable po ⟨5,a,ho,⟨#[]⟩⟩ (R a)).1⟩ else⟨a,true,2,⟨#[]⟩⟩
abbrev mP (R:FS->L_) (p:HO) (a:FS):X_:=mR R p.bm p.addr.host a
def mRight (R:FS->L_) (p:HO):Prop:=∀ m,m∈p.bi->m.done=true->m=mP R p m.to
def Al1 (R:FS->L_) (po:aQ) (ho:ByteArray) (a:FS):(mR R po ho a).to=a:=by unfold mR;split<;>rfl
def impR (m:X_):List FS×List bM×Bool:=if m.code=1 then parseModule m.body m.to.host else([],[],false)
def hasD (p:HO) (a:FS):Prop:=0<=findMod p.bi a/\(p.bi.getD (findMod p.bi a).toNat default).done=true
def Ahd {R:FS->L_} {p:HO} (hr:mRight R p) {a:FS} (h:hasD p a):p.bi.getD (findMod p.bi a).toNat default=mP R p a:=by
 have:=hr _ (G8 h.1) h.2;rw[Dg h.1] at this;exact this
def RZ {R:FS->L_} {p:HO} (hr:mRight R p) {a:FS} (h:hasD p a):imports p a=((impR (mP R p a)).1,(impR (mP R p a)).2.2):=by
 have hg:=Ahd hr h;have h2:=h.2;unfold imports impR;rw[hg] at h2 ⊢;by_cases hc:(mP R p a).code=1
 ·rw[F_ (by rw[h2,hc];simp;exact h.1),G_ hc,Al1]
 ·rw[G_ (.inr (.inr hc)),F_ hc]
def visitR (g:FS->List FS):Nat->FS->List FS×List FS->List FS×List FS
 | 0,_,st=>st
 | f+1,a,st=>if inL st.1 a=true then st else
  (((g a).foldl (λst b=>visitR g f b st) (st.1++[a],st.2)).1,((g a).foldl (λst b=>visitR g f b st) (st.1++[a],st.2)).2++[a])
def Oz:∀ (f:Nat) (p:HO) (a:FS) (st:aA),∃ l,(visitF f p a st).2=st.2++l
 | 0,p,a,st=>⟨[],by simp[visitF]⟩
 | f+1,p,a,st=>by
  have hf:∀ (l:List FS) (st:aA),∃ r,(l.foldl (λst b=>visitF f p b st) st).2=st.2++r:=by
   intro l
   induction l with
   | nil=>intro st;exact⟨[],by simp⟩
   | cons b l ih=>
    intro st;obtain⟨r1,e1⟩:=Oz f p b st;obtain⟨r2,e2⟩:=ih (visitF f p b st);exact⟨r1++r2,by rw[dD,e2,e1,bF]⟩
  rw[visitF];split
  ·exact⟨[],by simp⟩
  ·obtain⟨r,e⟩:=hf (imports p a).1 (st.1++[a],st.2);exact⟨r++[a],by rw[e];simp⟩
def R4 (f:Nat) (p:HO):∀ (l:List FS) (st:aA),∃ r,(l.foldl (λst b=>visitF f p b st) st).2=st.2++r
 | [],st=>⟨[],by simp⟩
 | b::l,st=>by obtain⟨r1,e1⟩:=Oz f p b st;obtain⟨r2,e2⟩:=R4 f p l (visitF f p b st);exact⟨r1++r2,by rw[dD,e2,e1,bF]⟩
def ZQ {p:HO} {g:FS->List FS} (hg:∀ a,hasD p a->(imports p a).1=g a):∀ (f:Nat) (a:FS) (st:aA),(∀ b,b∈(visitF f p a st).2->hasD p b)->visitF f p a st=visitR g f a st
 | 0,a,st,_=>rfl
 | f+1,a,st,h=>by
  rw[visitF] at h ⊢;rw[visitR];split
  ·rfl
  ·rename_i hs;rw[F_ hs] at h;have hf:∀ (l:List FS) (st0:aA),(∀ b,b∈(l.foldl (λst b=>visitF f p b st) st0).2->hasD p b)->l.foldl (λst b=>visitF f p b st) st0=l.foldl (λst b=>visitR g f b st) st0:=by
    intro l
    induction l with
    | nil=>intro st0 _;rfl
    | cons b l ih=>
     intro st0 h0;rw[dD] at h0;obtain⟨r,e⟩:=R4 f p l (visitF f p b st0);have hb:visitF f p b st0=visitR g f b st0:=ZQ hg f b st0 λc hc=>h0 c (by rw[e];exact List.mem_append_left _ hc)
     rw[dD,dD,ih _ h0,hb]
   have hda:hasD p a:=h a (List.mem_append_right _ (by simp));rw[<-hg a hda,hf (imports p a).1 (st.1++[a],st.2) λb hb=>h b (List.mem_append_left _ hb)]
def Ach {R:FS->L_} {p:HO} (hr:mRight R p) (hl:p.bi.length<=9) {a:FS} (h:∀ b,b∈reachOf p a->hasD p b):reachOf p a=(visitR (λb=>(impR (mP R p b)).1) 100 a ([],[])).2:=by
 have hm:muV p []<=p.bi.length:=List.length_filter_le _ _;have hs:=HL (p.bi.length+1) 100 p a ([],[]) (show muV p []<_ from o_) (show muV p []<_ from o_);have e:reachOf p a=(visitF 100 p a ([],[])).2:=cB Prod.snd hs;rw[e] at h ⊢;rw[ZQ (g:=λb=>(impR (mP R p b)).1) (λb hb=>by rw[RZ hr hb]) 100 a ([],[]) h]
def ZW {p:HO} {a:FS} (h:graphReady p a=true):∀ b,b∈reachOf p a->hasD p b:=λb hb=>by
 have:=aH.1 h b hb;simp only[S_,av] at this;exact this
def Aj1 {R:FS->L_} {p:HO} (hr:mRight R p) {b:FS} (h:hasD p b):entLines p b=(parseModule (mP R p b).body b.host).2.1:=by unfold entLines;rw[Ahd hr h]
def JE {R:FS->L_} {p q:HO} (hp:mRight R p) (hq:mRight R q) (h1:q.bm=p.bm) (h2:q.addr=p.addr) (h3:sheetsOf q.bf=sheetsOf p.bf):∀ (l:List FS) (x y:HO),(∀ b,b∈l->hasD p b/\hasD q b)->x.ba=y.ba->x.ran=y.ran->x.log=y.log->(enterAll p x l).ba=(enterAll q y l).ba/\(enterAll p x l).ran=(enterAll q y l).ran/\(enterAll p x l).log=(enterAll q y l).log
 | [],x,y,_,e1,e2,e3=>⟨e1,e2,e3⟩
 | b::l,x,y,h,e1,e2,e3=>by
  have hb:=h b (by simp);have er:entRun p x b=entRun q y b:=by unfold entRun;rw[h3,e1,Aj1 hp hb.1,Aj1 hq hb.2];unfold mP;rw[h1,h2]
  have hx:(enter1 p x b).ba=(enter1 q y b).ba/\(enter1 p x b).ran=(enter1 q y b).ran/\(enter1 p x b).log=(enter1 q y b).log:=by
   unfold enter1;rw[er,e2,e3];split
   ·exact⟨e1,e2,e3⟩
   ·exact⟨rfl,rfl,rfl⟩
  exact JE hp hq h1 h2 h3 l _ _ (λc hc=>h c (by simp[hc])) hx.1 hx.2.1 hx.2.2
def Wr (p:HO) (a:FS):enter p a={ p with ba:=(enter p a).ba,ran:=(enter p a).ran,log:=(enter p a).log }:=by
 have h:∀ (l:List FS) (q:HO),enterAll p q l={ q with ba:=(enterAll p q l).ba,ran:=(enterAll p q l).ran,log:=(enterAll p q l).log }:=by
  intro l
  induction l with
  | nil=>intro q;rfl
  | cons b l ih=>
   intro q;have e:enterAll p q (b::l)=enterAll p (enter1 p q b) l:=rfl;rw[e,ih];unfold enter1;split<;>rfl
 unfold enter;split
 ·unfold say;split<;>rfl
 ·exact h _ _
def T6 {R:FS->L_} {p q:HO} (hp:mRight R p) (hq:mRight R q) (hlp:p.bi.length<=9) (hlq:q.bi.length<=9) (h1:q.bm=p.bm) (h2:q.addr=p.addr) (h3:sheetsOf q.bf=sheetsOf p.bf) (e1:p.ba=q.ba) (e2:p.ran=q.ran) (e3:p.log=q.log) {a:FS} (hap:∀ b,b∈reachOf p a->hasD p b) (haq:∀ b,b∈reachOf q a->hasD q b):(enter p a).ba=(enter q a).ba/\(enter p a).ran=(enter q a).ran/\(enter p a).log=(enter q a).log:=by
 have hr:reachOf q a=reachOf p a:=by rw[Ach hp hlp hap,Ach hq hlq haq];unfold mP;rw[h1,h2]
 have hf:graphFails q a=graphFails p a:=by
  unfold graphFails;rw[hr];have:∀ l:List FS,(∀ b,b∈l->hasD p b/\hasD q b)->l.any (λb=>!(imports q b).2)=l.any (λb=>!(imports p b).2):=by
   intro l
   induction l with
   | nil=>intro _;rfl
   | cons b l ih=>
    intro h;rw[List.any_cons,List.any_cons,ih λc hc=>h c (by simp[hc]),RZ hp (h b (by simp)).1,RZ hq (h b (by simp)).2];unfold mP;rw[h1,h2]
  exact this _ λb hb=>⟨hap b hb,haq b (by rw[hr];exact hb)⟩
 unfold enter;rw[hf];split
 ·unfold say;rw[e3];split
  ·exact⟨e1,e2,rfl⟩
  ·exact⟨e1,e2,e3⟩
 ·rw[hr];exact JE hp hq h1 h2 h3 _ _ _ (λb hb=>⟨hap b hb,haq b (by rw[hr];exact hb)⟩) e1 e2 e3
def Mc {α:Type} (f:α->Bool) (g:α->α) (h:∀ x,f (g x)=f x):∀ (l:List α) (k:Int),openIdx f (l.map g) k=openIdx f l k
 | [],_=>rfl
 | x::l,k=>by rw[bz,openIdx,openIdx,h x,Mc f g h l]
def wM (p:HO) (Q:List X_):HO:={ p with bi:=Q }
def Ait {R:FS->L_} {p:HO} {Q:List X_} (hpi:PI p) (hmi:MI p) (hr:mRight R p) (hQ:MI (wM p Q)) (hQd:∀ m,m∈Q->m.done=true) (hQr:mRight R (wM p Q)) (h:(stepTail p).2=true):(stepTail (wM (cq R p []) Q)).2=true/\KP_ R (stepTail (wM (cq R p []) Q)).1=cq R (stepTail p).1 []:=by
 have hsz:(cq R p []).bf.length=p.bf.length:=by show(p.bf.map _).length=_;rw[cC]
 unfold stepTail at *
 split at h
 ·exact absurd (show false=true from h) (by decide)
 ·rename_i h0;rw[F_ h0];simp only[not_or,Bool.not_eq_false] at h0;have hps:isParsed (wM (cq R p []) Q)=true:=by have h1:=h0.1;unfold isParsed at h1 ⊢;simp only[S_,av] at h1 ⊢;refine⟨rfl,?_,h1.2.2⟩;show(p.bp++[]).length=0;rw[cz];exact h1.2.1
  have hed:p.ended=true:=by have h1:=h0.1;unfold isParsed at h1;simp only[S_] at h1;exact h1.1
  rw[F_ (by simp only[not_or,Bool.not_eq_false];exact⟨hps,h0.2⟩)];have hdf:deferredSlots (wM (cq R p []) Q)=deferredSlots p:=Mc _ _ (λs=>by rw[(Y4 R p s).2.1]) _ _;rw[hdf];split at h
  ·rename_i h1;rw[G_ h1,G_ (show(wM (cq R p []) Q).bo<((deferredSlots p).length:Int) from h1)];unfold tailDefer at *
   split at h
   ·exact absurd (show false=true from h) (by decide)
   ·rename_i h2;rw[F_ h2];simp only[not_or,Bool.not_eq_false] at h2;have hin:((deferredSlots p).getD p.bo.toNat default).toNat<p.bf.length:=by
     have hd:=hpi.df;have:=Dm (λs:aw=>decide (s.mode=4)) p.bf 0 _ (Ae (l:=deferredSlots p) (i:=p.bo.toNat) o_);have e2:=this.1;have e3:=this.2;show((deferredSlots p).getD p.bo.toNat default).toNat<p.bf.length;unfold deferredSlots at *
     omega
    have hd:defSlot (wM (cq R p []) Q)=defSlot p:=by
     have h3:=h2.1;unfold defSlot at h3 ⊢;rw[hdf];show(p.bf.map (fR R p)).getD ((deferredSlots p).getD p.bo.toNat default).toNat default=_;rw[aV,cp,aG hin];have e:p.bf.getD ((deferredSlots p).getD p.bo.toNat default).toNat default=p.bf[((deferredSlots p).getD p.bo.toNat default).toNat]:=by rw[aV,aG hin];rfl
     rw[e] at h3 ⊢;exact NF p h3
    rw[hd];rw[F_ (by simp only[not_or,Bool.not_eq_false];exact⟨h2.1,Qw R p p.bf⟩)];split
    ·refine⟨rfl,?_⟩;have e:runCode (wM (cq R p []) Q) (defSlot p).body false=wM (runCode (cq R p []) (defSlot p).body false) Q:=by unfold runCode;split<;>rfl
     show KP_ R { runCode (wM (cq R p []) Q) (defSlot p).body false with bo:=p.bo+1 }=_;rw[e,Ab1 [] _ _ h2.2];exact Uo R { runCode p (defSlot p).body false with bo:=p.bo+1 } []
    ·exact⟨rfl,Uo R { p with bo:=p.bo+1 } []⟩
  ·rename_i h1;rw[F_ h1,F_ (show ¬ (wM (cq R p []) Q).bo<((deferredSlots p).length:Int) from h1)];split at h
   ·rename_i h2;rw[G_ h2,G_ (show(wM (cq R p []) Q).bu<((wM (cq R p []) Q).bh.length:Int) from h2)];unfold tailEnter at *
    split at h
    ·exact absurd (show false=true from h) (by decide)
    ·rename_i h3;rw[F_ h3];simp only[not_or,Bool.not_eq_false] at h3;have hen:=hpi.en;have hea:entNow p∈p.bh:=Ae o_;have hce:entNow (wM (cq R p []) Q)=entNow p:=rfl;rw[hce];have hhq:∀ b,b∈reachOf (wM (cq R p []) Q) (entNow p)->hasD (wM (cq R p []) Q) b:=λb hb=>by have hmq:MI (wM (cq R p []) Q):=BX hQ rfl rfl rfl;have hh:=Ss hmq (hmq.en _ hea) hb;have h5:=L2 hh;exact⟨h5,hQd _ (G8 h5)⟩
     have hgr:graphReady (wM (cq R p []) Q) (entNow p)=true:=aH.2 λb hb=>by have:=hhq b hb;rw[bR this.1,this.2];rfl
     rw[F_ (by simp only[not_or,Bool.not_eq_false];exact⟨hgr,Qw R p p.bf⟩)];refine⟨rfl,?_⟩;have hlQ:(wM p Q).bi.length<=9:=VD hQ;have hs:=T6 (R:=R) (p:=p) (q:=(wM (cq R p []) Q)) hr hQr (VD hmi) hlQ rfl rfl (S9 R p p.bf h3.2) rfl rfl rfl (ZW h3.1) hhq;show KP_ R { enter (wM (cq R p []) Q) (entNow p) with bu:=p.bu+1 }=cq R { enter p (entNow p) with bu:=p.bu+1 } [];rw[Wr (wM (cq R p []) Q),Wr p,<-hs.1,<-hs.2.1,<-hs.2.2];exact Uo R { p with ba:=(enter p (entNow p)).ba,ran:=(enter p (entNow p)).ran,log:=(enter p (entNow p)).log,bu:=p.bu+1 } []
   ·rename_i h2;rw[F_ h2,F_ (show ¬ (wM (cq R p []) Q).bu<((wM (cq R p []) Q).bh.length:Int) from h2)];split at h
    ·exact absurd (show false=true from h) (by decide)
    ·rename_i h3;rw[F_ h3];have e1:openSlots (wM (cq R p []) Q)=[]:=J4 _ _ _ λs hs=>by obtain⟨t,_,rfl⟩:=bG.1 (show s∈p.bf.map (fR R p) from hs);rw[(Y4 R p t).1];rfl
     have e2:openMods (wM (cq R p []) Q)=[]:=J4 _ _ _ λm hm=>by rw[hQd m hm];rfl
     rw[F_ (by rw[e1,e2];simp)];refine⟨rfl,?_⟩;unfold say;show KP_ R { (if p.log.length<40 then _ else _:HO) with loaded:=true }=cq R { (if p.log.length<40 then _ else _:HO) with loaded:=true } [];split
     ·exact Uo R { p with log:=p.log++[_],loaded:=true } []
     ·exact Uo R { p with loaded:=true } []
def iS (R:FS->L_) (Q:List X_) (P:HO):HO×Bool :=
 if(stepParser P).2=true then(KP_ R (stepParser P).1,true)
 else if(stepTail (wM P Q)).2=true then(KP_ R (stepTail (wM P Q)).1,true) else(P,false)
def iN (R:FS->L_) (Q:List X_):Nat->HO->HO
 | 0,P=>P
 | n+1,P=>if(iS R Q P).2=true then iN R Q n (iS R Q P).1 else P
def WK {R:FS->L_} {Q:List X_} {P:HO} (h:(iS R Q P).2=false):∀ n,iN R Q n P=P
 | 0=>rfl
 | n+1=>by rw[iN,F_ (by rw[h];decide)]
def Rz (R:FS->L_) (Q:List X_):∀ (m n:Nat) (P:HO),iN R Q n (iN R Q m P)=iN R Q (m+n) P
 | 0,n,P=>by rw[cE];rfl
 | m+1,n,P=>by
  rw[iN];split
  ·rename_i h;rw[Rz R Q m n,Nat.add_right_comm m 1 n,iN,G_ h]
  ·rename_i h;have h:=Bool.eq_false_iff.2 h;rw[WK h,WK h]
def Ac7 {R:FS->L_} {Q:List X_} {P:HO} {m n:Nat} (h1:(iS R Q (iN R Q m P)).2=false) (h2:(iS R Q (iN R Q n P)).2=false):iN R Q m P=iN R Q n P:=by
 rcases Nat.le_total m n with h|h
 ·have:=Rz R Q m (n-m) P;rw[WK h1,Nat.add_sub_of_le h] at this;exact this
 ·have:=Rz R Q n (m-n) P;rw[WK h2,Nat.add_sub_of_le h] at this;exact this.symm
def MR (R:FS->L_) (p:HO):Prop:=∀ m,m∈p.bi->(m.done=true->m=mP R p m.to)/\(m.done=false->checkRequest p.bm ⟨5,m.to,p.addr.host,⟨#[]⟩⟩=1)
def PE {R:FS->L_} {p:HO} (h:MR R p):mRight R p:=λm hm=>(h m hm).1
def Kg {R:FS->L_} {p q:HO} (h:MR R p) (h1:q.bi=p.bi) (h2:q.bm=p.bm) (h3:q.addr=p.addr):MR R q:=by
 intro m hm;rw[h1] at hm;have:=h m hm;unfold mP at *
 rw[h2,h3];exact this
def Zw {R:FS->L_} {p:HO} (h:MR R p) (a:FS):MR R (askModule p a):=by
 rw[LC];intro m hm;rcases Ew hm with hm|hm
 ·exact h m hm
 ·have e:newMod p a=if checkRequest p.bm ⟨5,a,p.addr.host,⟨#[]⟩⟩=1 then⟨a,false,0,⟨#[]⟩⟩ else⟨a,true,2,⟨#[]⟩⟩:=rfl
  by_cases hc:checkRequest p.bm ⟨5,a,p.addr.host,⟨#[]⟩⟩=1
  ·rw[G_ hc] at e;rw[hm,e];exact⟨λq=>absurd (show false=true from q) (by decide),λ_=>hc⟩
  ·rw[F_ hc] at e;rw[hm,e];refine⟨λ_=>?_,λq=>absurd (show true=false from q) (by decide)⟩;unfold mP mR;exact(F_ hc).symm
def mdE (p q:HO):Prop:=q.bm=p.bm/\q.addr=p.addr/\((q.bi=p.bi/\q.bh=p.bh)\/∃ a,q.bi=insM (newMod p a) p.bi/\q.bh=p.bh++[a])
def Bz {p q:HO} (h0:q.bm=p.bm) (h1:q.addr=p.addr) (h2:q.bi=p.bi) (h3:q.bh=p.bh):mdE p q:=⟨h0,h1,.inl ⟨h2,h3⟩⟩
def L3 (p:HO) (m:Int) (to dg:ByteArray) (n:Int):mdE p (addSlot p m to dg n).1:=by
 unfold addSlot;split<;>exact Bz rfl rfl rfl rfl
def To (p:HO) (c:ByteArray) (w:Bool):mdE p (runCode p c w):=by
 unfold runCode;split<;>exact Bz rfl rfl rfl rfl
def MZ (p:HO):mdE p (step1 p).1:=by
 unfold step1;split
 ·unfold stepParser;split
  ·unfold stepInline;split
   ·exact To p (textOf p.inline p.ba.bj ⟨#[]⟩) true
   ·exact Bz rfl rfl rfl rfl
  ·split
   ·unfold stepBlock;split
    ·exact Bz rfl rfl rfl rfl
    ·split
     ·exact Bz rfl rfl rfl rfl
     ·split
      ·exact To p (p.bf.getD (blk p).toNat default).body true
      ·exact Bz rfl rfl rfl rfl
   ·unfold takeToken;split
    ·exact Bz rfl rfl rfl rfl
    ·show mdE p (takeTok p (p.bp.getD 0 default));unfold takeTok;split
     ·unfold element;split
      ·exact L3 (taken p (p.bp.getD 0 default)) _ _ _ _
      ·split
       ·exact L3 (taken p (p.bp.getD 0 default)) _ _ _ _
       ·exact Bz rfl rfl rfl rfl
     ·split
      ·unfold script;split
       ·split<;>exact Bz rfl rfl rfl rfl
       ·split
        ·exact L3 (taken p (p.bp.getD 0 default)) _ _ _ _
        ·split
         ·unfold addEntry;split
          ·rw[LC];exact⟨rfl,rfl,.inr ⟨_,rfl,rfl⟩⟩
          ·exact Bz rfl rfl rfl rfl
         ·exact L3 (taken p (p.bp.getD 0 default)) 3 _ _ _
      ·exact Bz rfl rfl rfl rfl
 ·unfold stepTail;split
  ·exact Bz rfl rfl rfl rfl
  ·split
   ·unfold tailDefer;split
    ·exact Bz rfl rfl rfl rfl
    ·split
     ·exact To p (defSlot p).body false
     ·exact Bz rfl rfl rfl rfl
   ·split
    ·unfold tailEnter;split
     ·exact Bz rfl rfl rfl rfl
     ·have e:=Fg p (entNow p);exact Bz e.2.2.2.2.2.2.2.2.2.2.1 e.2.2.2.2.2.2.2.2.2.1 e.2.2.2.2.1 e.2.2.2.2.2.1
    ·split
     ·exact Bz rfl rfl rfl rfl
     ·unfold say;split<;>exact Bz rfl rfl rfl rfl
def AfM {R:FS->L_} {p:HO} (h:MR R p):MR R (step1 p).1:=by
 obtain⟨h0,h1,h2|⟨a,h2,h3⟩⟩:=MZ p
 ·exact Kg h h2.1 h0 h1
 ·have:=Zw h a;rw[LC] at this;exact Kg this h2 h0 h1
inductive RS (g:FS->List FS) (E:List FS):FS->Prop where
 | base {a:FS}:a∈E->RS g E a
 | step {a b:FS}:RS g E a->b∈g a->RS g E b
abbrev gI (R:FS->L_) (p:HO):FS->List FS:=λb=>(impR (mP R p b)).1
def ME (R:FS->L_) (p:HO):Prop:=∀ m,m∈p.bi->RS (gI R p) p.bh m.to
def AhE {g:FS->List FS} {E F:List FS} (h:∀ a,a∈E->a∈F) {a:FS} (ha:RS g E a):RS g F a:=by
 induction ha with
 | base h1=>exact .base (h _ h1)
 | step _ h2 ih=>exact .step ih h2
def PZ {R:FS->L_} {p q:HO} (h:ME R p) (h1:q.bi=p.bi) (h2:q.bm=p.bm) (h3:q.addr=p.addr) (h4:q.bh=p.bh):ME R q:=by
 have e:gI R q=gI R p:=by funext b;unfold gI mP;rw[h2,h3]
 unfold ME at *
 rw[e,h1,h4];exact h
def Aed {R:FS->L_} {p:HO} (h:ME R p):ME R (step1 p).1:=by
 obtain⟨h0,h1,h2|⟨a,h2,h3⟩⟩:=MZ p
 ·exact PZ h h2.1 h0 h1 h2.2
 ·have e:gI R (step1 p).1=gI R p:=by funext b;unfold gI mP;rw[h0,h1]
  unfold ME;rw[e,h2,h3];intro m hm;rcases Ew hm with hm|hm
  ·exact AhE (λb hb=>List.mem_append_left _ hb) (h m hm)
  ·rw[hm,Gg];exact .base (by simp)
def sRt (R:FS->L_) (p:HO) (s:aw):Prop:=if s.done=true then(if checkRequest p.bm (reqOf p s)=1 then s.code=checkResponse p.bm (reqOf p s) (R s.to)/\s.body=(usable p.bm (reqOf p s) (R s.to)).1 else s.code=2/\s.body=⟨#[]⟩) else checkRequest p.bm (reqOf p s)=1
def SR (R:FS->L_) (p:HO):Prop:=∀ s,s∈p.bf->sRt R p s
def slE (p q:HO):Prop:=q.bm=p.bm/\q.addr=p.addr/\(q.bf=p.bf\/∃ m to dg n,q.bf=p.bf++[newSlot p m to dg n])
def Br {p q:HO} (h0:q.bm=p.bm) (h1:q.addr=p.addr) (h2:q.bf=p.bf):slE p q:=⟨h0,h1,.inl h2⟩
def L6 (p:HO) (m:Int) (to dg:ByteArray) (n:Int):slE p (addSlot p m to dg n).1:=by
 unfold addSlot;split
 ·exact⟨rfl,rfl,.inr ⟨m,to,dg,n,rfl⟩⟩
 ·exact Br rfl rfl rfl
def TL (p:HO) (c:ByteArray) (w:Bool):slE p (runCode p c w):=by
 unfold runCode;split<;>exact Br rfl rfl rfl
def Nf (p:HO):slE p (step1 p).1:=by
 unfold step1;split
 ·unfold stepParser;split
  ·unfold stepInline;split
   ·exact TL p (textOf p.inline p.ba.bj ⟨#[]⟩) true
   ·exact Br rfl rfl rfl
  ·split
   ·unfold stepBlock;split
    ·exact Br rfl rfl rfl
    ·split
     ·exact Br rfl rfl rfl
     ·split
      ·exact TL p (p.bf.getD (blk p).toNat default).body true
      ·exact Br rfl rfl rfl
   ·unfold takeToken;split
    ·exact Br rfl rfl rfl
    ·show slE p (takeTok p (p.bp.getD 0 default));unfold takeTok;split
     ·unfold element;split
      ·exact L6 (taken p (p.bp.getD 0 default)) _ _ _ _
      ·split
       ·exact L6 (taken p (p.bp.getD 0 default)) _ _ _ _
       ·exact Br rfl rfl rfl
     ·split
      ·unfold script;split
       ·split<;>exact Br rfl rfl rfl
       ·split
        ·exact L6 (taken p (p.bp.getD 0 default)) _ _ _ _
        ·split
         ·unfold addEntry;split
          ·rw[LC];exact Br rfl rfl rfl
          ·exact Br rfl rfl rfl
         ·exact L6 (taken p (p.bp.getD 0 default)) 3 _ _ _
      ·exact Br rfl rfl rfl
 ·unfold stepTail;split
  ·exact Br rfl rfl rfl
  ·split
   ·unfold tailDefer;split
    ·exact Br rfl rfl rfl
    ·split
     ·exact TL p (defSlot p).body false
     ·exact Br rfl rfl rfl
   ·split
    ·unfold tailEnter;split
     ·exact Br rfl rfl rfl
     ·have e:=Fg p (entNow p);exact Br e.2.2.2.2.2.2.2.2.2.2.1 e.2.2.2.2.2.2.2.2.2.1 e.2.2.2.1
    ·split
     ·exact Br rfl rfl rfl
     ·unfold say;split<;>exact Br rfl rfl rfl
def V0 {R:FS->L_} {p q:HO} (h0:q.bm=p.bm) (h1:q.addr=p.addr) (s:aw):sRt R q s=sRt R p s:=by
 unfold sRt reqOf;rw[h0,h1]
def Q4 {R:FS->L_} {p q:HO} (h:SR R p) (h0:q.bm=p.bm) (h1:q.addr=p.addr) (h2:q.bf=p.bf):SR R q:=λs hs=>by
 rw[V0 h0 h1];exact h s (by rw[<-h2];exact hs)
def Aau (R:FS->L_) (p:HO) (m:Int) (to dg:ByteArray) (n:Int):sRt R p (newSlot p m to dg n):=by
 unfold newSlot;split
 ·rename_i h;unfold sRt;rw[F_ (show ¬ ((rawSlot p m to dg n).done=true) from Bool.false_ne_true)];exact h.2
 ·rename_i h;unfold sRt;rw[G_ (by rfl),F_]
  ·exact⟨rfl,rfl⟩
  ·intro hc;apply h;have hc:checkRequest p.bm (reqOf p (rawSlot p m to dg n))=1:=hc;refine⟨?_,hc⟩;cases hp:(parseAddr to p.addr.host).2 with
   | true=>rfl
   | false=>
    exfalso;have e:(parseAddr to p.addr.host).1=default:=by
     unfold parseAddr at hp ⊢;split at hp
     ·exact absurd (show true=false from hp) (by decide)
     ·rename_i h2;rw[F_ h2]
    unfold checkRequest isRequest reqOf rawSlot at hc;rw[e] at hc;have:isName (default:FS).host=false:=by decide +kernel
    simp only[this,Bool.false_and,Bool.and_false,cD,aP] at hc;exact absurd hc (by decide)
def Ae6 {R:FS->L_} {p:HO} (h:SR R p):SR R (step1 p).1:=by
 obtain⟨h0,h1,h2|⟨m,to,dg,n,h2⟩⟩:=Nf p
 ·exact Q4 h h0 h1 h2
 ·intro s hs;rw[V0 h0 h1];rw[h2] at hs;rcases ae.1 hs with hs|hs
  ·exact h s hs
  ·rw[List.mem_singleton.1 hs];exact Aau R p m to dg n
def Aiz {R:FS->L_} {p:HO} (h:SR R p) (a:FS):SR R (fillAll p a (R a)):=by
 intro s hs;obtain⟨t,ht,rfl⟩:=bG.1 hs;have h1:=h t ht;show sRt R p _;unfold fillF fillS;split
 ·rename_i e;split
  ·exact h1
  ·rename_i hd;unfold sRt at h1 ⊢;rw[F_ hd] at h1;have e2:reqOf p { t with done:=true,code:=checkResponse p.bm (reqOf p t) (R a),body:=(usable p.bm (reqOf p t) (R a)).1 }=reqOf p t:=rfl;rw[G_ rfl,e2,G_ h1,<-e];exact⟨rfl,rfl⟩
 ·exact h1
structure RI (R:FS->L_) (p:HO):Prop where
 pi:PI p
 mi:MI p
 mr:MR R p
 me:ME R p
 sr:SR R p
def VI {R:FS->L_} {p:HO} (h:RI R p) (h2:(step1 p).2=true):RI R (step1 p).1:=⟨(LL h.pi h2).1,V6 h.mi h.pi,AfM h.mr,Aed h.me,Ae6 h.sr⟩
def Aak {R:FS->L_}:∀ (n:Nat) {p:HO},RI R p->RI R (adv n p)
 | 0,p,h=>h
 | n+1,p,h=>by
  rw[adv];split
  ·rename_i hs;exact Aak n (VI h hs)
  ·exact h
structure QI (R:FS->L_) (Q:List X_) (po:aQ):Prop where
 st:stM Q
 ad:∀ m,m∈Q->m.to∈A9
 hu:HU∈Q.map (·.to)
 dn:∀ m,m∈Q->m.done=true
 mr:∀ m,m∈Q->m=mR R po ⟨#[104,111,109,101]⟩ m.to
 im:∀ m,m∈Q->m.code=1->∀ b,b∈(parseModule m.body m.to.host).1->b∈Q.map (·.to)
def AlE {R:FS->L_} {Q:List X_} {p:HO} (h:QI R Q p.bm) (hm:MI p):MI (wM p Q)/\mRight R (wM p Q):=by
 refine⟨⟨h.st,h.ad,λa ha=>?_,λm hm _ h2 b hb=>h.im m hm h2 b hb,hm.ho,hm.eu⟩,λm hq _=>?_⟩
 ·rw[hm.eu a ha];exact h.hu
 ·have:=h.mr m hq;show m=mR R p.bm p.addr.host m.to;rw[hm.ho];exact this
def Air {R:FS->L_} {Q:List X_} {p:HO} {q0:List af} (h:RI R p) (hQ:QI R Q p.bm) (he:p.ended=true->q0=[]) (h2:(step1 p).2=true):iS R Q (cq R p q0)=(cq R (step1 p).1 q0,true):=by
 unfold step1 at *
 split at h2
 ·rename_i h3;rw[G_ h3];have:=Abq (R:=R) q0 h3;unfold iS;rw[G_ this.1,this.2]
 ·rename_i h3;rw[F_ h3];have hps:isParsed p=true:=by
   cases hp:isParsed p with
   | true=>rfl
   | false=>unfold stepTail at h2;rw[G_ (.inl hp)] at h2;exact absurd (show false=true from h2) (by decide)
  have hp2:=hps;unfold isParsed at hp2;simp only[S_,av] at hp2;rw[he hp2.1];have hQ2:=AlE hQ h.mi;have ht:=Ait h.pi h.mi (PE h.mr) hQ2.1 hQ.dn hQ2.2 h2;have hn:¬ (stepParser (cq R p [])).2=true:=by unfold stepParser;rw[F_ (show ¬ (cq R p []).inline≠0 by simp only[Classical.not_not];exact hp2.2.2.2),F_ (show ¬ (cq R p []).block≠0 by simp only[Classical.not_not];exact hp2.2.2.1)];unfold takeToken;rw[G_ (.inl (show(p.bp++[]).length=0 by rw[cz];exact hp2.2.1))];exact Bool.false_ne_true
  unfold iS;rw[F_ hn,G_ ht.1,ht.2]
def AbE {R:FS->L_} {Q:List X_} {q0:List af}:∀ (n:Nat) {p:HO},RI R p->QI R Q p.bm->(p.ended=true->q0=[])->∃ k,cq R (adv n p) q0=iN R Q k (cq R p q0)
 | 0,p,_,_,_=>⟨0,rfl⟩
 | n+1,p,h,hQ,he=>by
  rw[adv];split
  ·rename_i hs;have hg:=Pn p;obtain⟨k,hk⟩:=AbE (q0:=q0) n (VI h hs) (by rw[hg.po];exact hQ) (by rw[hg.ed];exact he);refine⟨k+1,?_⟩;have e:=Air (q0:=q0) h hQ he hs;rw[hk,iN,G_ (by rw[e]),e]
  ·exact⟨0,rfl⟩
def TH {R:FS->L_} {p:HO} (h:MR R p) (a:FS):MR R (fillModule p a (R a)):=by
 unfold fillModule;split
 ·exact h
 ·rename_i h1;simp only[not_or,Int.not_lt] at h1;have hf:∀ (l:List FS) (q:HO),MR R q->MR R (l.foldl askModule q):=by
   intro l
   induction l with
   | nil=>intro q hq;exact hq
   | cons b l ih=>intro q hq;exact ih _ (Zw hq b)
  refine hf _ _ ?_;obtain⟨l,m,r,e1,e2,e3,e4⟩:=FF (R a) h1.1;have hmm:m∈p.bi:=by rw[e1];simp
  subst e2;intro y hy;rw[e4] at hy;simp only[ae,ah] at hy;rcases hy with hy|hy|hy
  ·exact h y (by rw[e1];simp[hy])
  ·have hd:m.done=false:=by have:=h1.2;rw[<-e3] at this;simpa using this
   have hc:=(h m hmm).2 hd;refine⟨λ_=>?_,λq=>absurd (show true=false by rw[<-q,hy];rfl) (by decide)⟩;have ht:y.to=m.to:=by rw[hy];rfl
   rw[ht];unfold mP mR;show y=if checkRequest p.bm ⟨5,m.to,p.addr.host,⟨#[]⟩⟩=1 then _ else _
   rw[G_ hc,hy];rfl
  ·exact h y (by rw[e1];simp[hy])
def Ajc {R:FS->L_} {p:HO} (hr:MR R p) (h:ME R p) (a:FS):ME R (fillModule p a (R a)):=by
 have hm:=TH hr a;unfold fillModule at *
 split
 ·exact h
 ·rename_i h1;rw[F_ h1] at hm;simp only[not_or,Int.not_lt] at h1;have hf:∀ (l:List FS) (q:HO),ME R q->(∀ b,b∈l->RS (gI R q) q.bh b)->ME R (l.foldl askModule q):=by
   intro l
   induction l with
   | nil=>intro q hq _;exact hq
   | cons b l ih=>
    intro q hq hl;refine ih _ ?_ ?_
    ·rw[LC];intro m hm;rcases Ew hm with hm|hm
     ·exact hq m hm
     ·rw[hm,Gg];exact hl b (by simp)
    ·rw[LC];exact λc hc=>hl c (by simp[hc])
  obtain⟨l,m,r,e1,e2,e3,e4⟩:=FF (R a) h1.1;have hto:∀ y,y∈(fillM0 p a (R a)).bi->∃ z,z∈p.bi/\z.to=y.to:=by
   intro y hy;rw[e4] at hy;simp only[ae,ah] at hy;rcases hy with hy|hy|hy
   ·exact⟨y,by rw[e1];simp[hy],rfl⟩
   ·exact⟨m,by rw[e1];simp,by rw[hy];rfl⟩
   ·exact⟨y,by rw[e1];simp[hy],rfl⟩
  have h0:ME R (fillM0 p a (R a)):=λy hy=>by obtain⟨z,hz,ez⟩:=hto y hy;rw[<-ez];exact h z hz
  refine hf _ _ h0 λb hb=>?_
  have hff:=FN p a (R a) h1.1;have hd:hasD (fillM0 p a (R a)) a:=by refine⟨by rw[hff.1];exact h1.1,?_⟩;rw[hff.1,hff.2];rfl
  have hr0:MR R (fillM0 p a (R a)):=by
   have hmm:m∈p.bi:=by rw[e1];simp
   subst e2;intro y hy;rw[e4] at hy;simp only[ae,ah] at hy;rcases hy with hy|hy|hy
   ·exact hr y (by rw[e1];simp[hy])
   ·have hd:m.done=false:=by have:=h1.2;rw[<-e3] at this;simpa using this
    have hc:=(hr m hmm).2 hd;refine⟨λ_=>?_,λq=>absurd (show true=false by rw[<-q,hy];rfl) (by decide)⟩;have ht:y.to=m.to:=by rw[hy];rfl
    rw[ht];unfold mP mR;show y=if checkRequest p.bm ⟨5,m.to,p.addr.host,⟨#[]⟩⟩=1 then _ else _
    rw[G_ hc,hy];rfl
   ·exact hr y (by rw[e1];simp[hy])
  have hi:=RZ (PE hr0) hd;rw[hi] at hb;have hma:RS (gI R p) p.bh a:=by rw[<-e2];exact h m (by rw[e1];simp)
  exact .step hma hb
def AiQ (R:FS->L_) (p:HO) (a:FS) (q0:List af):cq R (fillModule (fillAll p a (R a)) a (R a)) q0=cq R p q0:=by
 have h1:∀ (q:HO) (x:L_),∃ m,fillModule q a x={ q with bi:=m }:=λq x=>by
  unfold fillModule;split
  ·exact⟨q.bi,rfl⟩
  ·have hf:∀ (l:List FS) (y:HO),∃ m,l.foldl askModule y={ y with bi:=m }:=by
    intro l
    induction l with
    | nil=>intro y;exact⟨y.bi,rfl⟩
    | cons b l ih=>
     intro y;obtain⟨m,e⟩:=ih (askModule y b);refine⟨m,?_⟩;rw[dD,e,LC]
   obtain⟨m,e⟩:=hf (imports (fillM0 q a x) a).1 (fillM0 q a x);exact⟨m,by rw[e];rfl⟩
 obtain⟨m,e⟩:=h1 (fillAll p a (R a)) (R a);rw[e]
 suffices hS:(p.bf.map (fillF p a (R a))).map (fR R p)=p.bf.map (fR R p) by show({ p with bf:=(p.bf.map (fillF p a (R a))).map (fR R p),bi:=[],bp:=p.bp++q0,tok:=default,ended:=true }:HO)=_;rw[hS];rfl
 rw[ee];refine List.map_congr_left λs _=>?_
 show fR R p (fillF p a (R a) s)=fR R p s;by_cases hs:s.to=a
 ·have:fillF p a (R a) s=fR R p s:=by unfold fillF fR;rw[G_ hs,hs]
  rw[this,Y0]
 ·rw[(CS p a (R a) s).2.2.1 hs]
def Y8 {R:FS->L_} {Q:List X_} {p:HO} (a:FS) {q0:List af} (h:RI R p) (hx:rOk (R a)) (hQ:QI R Q p.bm) (he:p.ended=true->q0=[]):RI R (takeAnswer p a (R a))/\∃ k,cq R (takeAnswer p a (R a)) q0=iN R Q k (cq R p q0):=by
 have h1:=OB h.pi a hx;have hm1:MI (fillAll p a (R a)):=BX h.mi rfl rfl rfl;have h2:=Tn (p:=fillAll p a (R a)) (a:=a) h1.1 hm1 hx;obtain⟨f1,f2,f3,f4,f5,f6,f7,f8,f9,f10,f11⟩:=h2;have hr:RI R (fillModule (fillAll p a (R a)) a (R a)):=⟨f1,f2,TH (p:=fillAll p a (R a)) (Kg h.mr rfl rfl rfl) a,Ajc (p:=fillAll p a (R a)) (Kg h.mr rfl rfl rfl) (PZ h.me rfl rfl rfl rfl) a,Q4 (Aiz h.sr a) f9 f8 f4⟩;obtain⟨k,hk⟩:=AbE (q0:=q0) 2000 hr (by rw[f9];exact hQ) (by rw[f10];exact he);refine⟨Aak 2000 hr,k,?_⟩;rw[AiQ] at hk;exact hk
def Up (R:FS->L_) (p:HO) (ts:List af) (k:dj) (e:Bool) (q0:List af):cq R (atP p ts k e) q0=cq R p (ts++q0):=by
 unfold cq atP;simp only[HO.mk.injEq,true_and,and_true];exact⟨bF _ _ _,rfl⟩
def LD (p:HO):Prop:=p.loaded=true->isParsed p=true/\(∀ s,s∈p.bf->s.done=true)/\∀ m,m∈p.bi->m.done=true
def Aeh {p:HO} (hp:isParsed p=true) (hl:p.loaded=true):(step1 p).2=false:=by
 unfold isParsed at hp;have hp0:=hp;simp only[S_,av] at hp;have hn:¬ (stepParser p).2=true:=by unfold stepParser;rw[F_ (by simp only[Classical.not_not];exact hp.2.2.2),F_ (by simp only[Classical.not_not];exact hp.2.2.1)];unfold takeToken;rw[G_ (.inl hp.2.1)];exact Bool.false_ne_true
 unfold step1;rw[F_ hn];unfold stepTail;rw[G_ (.inr (.inl hl))]
def Ag5 {R:FS->L_} {Q:List X_} {p:HO} (hp:isParsed p=true) (hl:p.loaded=true):(iS R Q (cq R p [])).2=false:=by
 unfold isParsed at hp;simp only[S_,av] at hp;have hn:¬ (stepParser (cq R p [])).2=true:=by unfold stepParser;rw[F_ (show ¬ (cq R p []).inline≠0 by simp only[Classical.not_not];exact hp.2.2.2),F_ (show ¬ (cq R p []).block≠0 by simp only[Classical.not_not];exact hp.2.2.1)];unfold takeToken;rw[G_ (.inl (show(p.bp++[]).length=0 by rw[cz];exact hp.2.1))];exact Bool.false_ne_true
 unfold iS;rw[F_ hn,F_];unfold stepTail;rw[G_ (.inr (.inl (show(wM (cq R p []) Q).loaded=true from hl)))];exact Bool.false_ne_true
abbrev isA (a:FS):Bool:=isName a.host&&isName a.path
def nR (R:FS->L_) (n:N_):Prop:=(∀ a,isA a=true->answerTo n.servers a=R a)/\(∀ a,isA a=false->R a=notFound)/\∀ e,e∈n.cache.bh->isA e.to=true->e.bd=R e.to
def AjI {R:FS->L_} {n:N_} (h:nR R n) {t:ByteArray} {a:FS} (ha:isA a=true) (hl:(lookUp n.cache t a n.now).isSome=true):(lookUp n.cache t a n.now).getD notFound=R a:=by
 unfold lookUp at *
 cases q:n.cache.bh.find? (freshEntry t a n.now) with
 | none=>rw[q] at hl;exact absurd hl (by decide)
 | some e=>
  have h1:=List.find?_some q;simp only[freshEntry,S_,av] at h1;have:=h.2.2 e (List.mem_of_find?_eq_some q) (by rw[h1.2.1];exact ha);rw[h1.2.1] at this;exact this
def keep_R {R:FS->L_} {n:N_} (h:nR R n) (t:ByteArray) (a:FS):nR R (keepAnswer n t a (R a)):=by
 unfold keepAnswer;split
 ·refine⟨h.1,h.2.1,λe he hA=>?_⟩;have he:e∈(storeEntry n.cache t a (R a) n.now).bh:=he;unfold storeEntry at he;split at he
  ·unfold putEntry at he;split at he
   ·obtain⟨i,hi,e2⟩:=List.getElem_of_mem he;simp only[List.getElem_modify] at e2;split at e2
    ·rw[<-e2];rfl
    ·rw[<-e2] at hA ⊢;exact h.2.2 _ (List.getElem_mem _) hA
   ·rcases ae.1 he with he|he
    ·exact h.2.2 e he hA
    ·rw[List.mem_singleton.1 he];rfl
  ·exact h.2.2 e he hA
 ·exact h
def Jn {R:FS->L_} {n:N_} (h:nR R n) (t:ByteArray) (a:FS) (g:Bool):nR R (fetchNow n t a g).1/\(fetchNow n t a g).2=R a:=by
 unfold fetchNow;split
 ·rename_i h1;exact⟨h,(h.2.1 a h1).symm⟩
 ·rename_i h1;have hA:isA a=true:=by simpa using h1
  split
  ·rename_i h2;exact⟨h,AjI h hA h2⟩
  ·refine⟨?_,h.1 a hA⟩;have hl:nR R (logSent n t a g):=by unfold logSent;split<;>exact h
   dsimp only;split
   ·exact hl
   ·have:=keep_R hl t a;rw[<-h.1 a hA] at this;exact this
def Ajp (x y:ByteArray):tokensOf (x++y)=(feedAll x).1++tokensOf ((feedAll x).2++y):=by
 unfold tokensOf;rw[WO];simp only[bF]
def Mo (x:ByteArray):x++(⟨#[]⟩:ByteArray)=x:=by rw[<-AH (x++_),Au];simp[toL,ofL]
def Ae3 (x:ByteArray):tokensOf (feedAll x).2=endText (feedAll x).2:=by
 have h:=WO x ⟨#[]⟩;rw[Mo,Mo] at h;have h1:(feedAll x).1=(feedAll x).1++(feedAll (feedAll x).2).1:=by have:=cB Prod.fst h;exact this
 have h2:(feedAll x).2=(feedAll (feedAll x).2).2:=by have:=cB Prod.snd h;exact this
 have h3:(feedAll (feedAll x).2).1=[]:=by have:=cB List.length h1;rw[ak] at this;exact List.length_eq_zero_iff.1 o_
 unfold tokensOf;rw[h3,<-h2];rfl
def Vb:tokensOf ⟨#[]⟩=[]:=by decide +kernel
def AaV (p:HO):(stepParser p).1.loaded=p.loaded:=by
 have hr:∀ (q:HO) (c:ByteArray) (w:Bool),(runCode q c w).loaded=q.loaded:=λq c w=>by unfold runCode;split<;>rfl
 have hs:∀ (q:HO) (m:Int) (to dg:ByteArray) (n:Int),(addSlot q m to dg n).1.loaded=q.loaded:=λq m to dg n=>by unfold addSlot;split<;>rfl
 unfold stepParser;split
 ·unfold stepInline;split
  ·exact hr p _ true
  ·rfl
 ·split
  ·unfold stepBlock;split
   ·rfl
   ·split
    ·rfl
    ·split
     ·exact hr p _ true
     ·rfl
  ·unfold takeToken;split
   ·rfl
   ·show(takeTok p (p.bp.getD 0 default)).loaded=_;unfold takeTok;split
    ·unfold element;split
     ·exact hs _ _ _ _ _
     ·split
      ·exact hs _ _ _ _ _
      ·rfl
    ·split
     ·unfold script;split
      ·split<;>rfl
      ·split
       ·exact hs _ _ _ _ _
       ·split
        ·unfold addEntry;split
         ·rw[LC];rfl
         ·rfl
        ·exact hs (taken p (p.bp.getD 0 default)) 3 _ _ _
     ·rfl
def Mh {α:Type} [Inhabited α] {f:α->Bool} {l:List α} (h:openIdx f l 0=[]):∀ x,x∈l->f x=false:=by
 intro x hx;obtain⟨i,hi,e⟩:=List.getElem_of_mem hx;have e2:l.getD i default=x:=by rw[aV,aG hi,e];rfl
 cases hf:f x with
 | false=>rfl
 | true=>
  have:(0:Int)+i∈openIdx f l 0:=(Ep f l 0 _).2 ⟨i,hi,rfl,by rw[e2];exact hf⟩;rw[h] at this;simp at this
def Afi {p:HO} (h:p.loaded=false):LD (step1 p).1:=by
 unfold step1;split
 ·intro hl;rw[AaV,h] at hl;exact absurd hl (by decide)
 ·unfold stepTail;split
  ·intro hl;exact absurd (h.symm.trans hl) (by decide)
  ·rename_i h0;simp only[not_or,Bool.not_eq_false] at h0;split
   ·unfold tailDefer;split
    ·intro hl;exact absurd (h.symm.trans hl) (by decide)
    ·split
     ·intro hl;have:(runCode p (defSlot p).body false).loaded=p.loaded:=by unfold runCode;split<;>rfl
      have hl:(runCode p (defSlot p).body false).loaded=true:=hl;rw[this,h] at hl;exact absurd hl (by decide)
     ·intro hl;exact absurd (h.symm.trans hl) (by decide)
   ·split
    ·unfold tailEnter;split
     ·intro hl;exact absurd (h.symm.trans hl) (by decide)
     ·intro hl;have hl:(enter p (entNow p)).loaded=true:=hl;rw[(Fg p (entNow p)).2.2.1,h] at hl;exact absurd hl (by decide)
    ·split
     ·intro hl;exact absurd (h.symm.trans hl) (by decide)
     ·rename_i h3;intro _;simp only[not_or,Nat.not_lt,Nat.le_zero_eq] at h3;have e1:=Mh (List.length_eq_zero_iff.1 h3.1);have e2:=Mh (List.length_eq_zero_iff.1 h3.2);have hp:=h0.1;unfold say;split
      ·exact⟨hp,λs hs=>by simpa using e1 s hs,λm hm=>by simpa using e2 m hm⟩
      ·exact⟨hp,λs hs=>by simpa using e1 s hs,λm hm=>by simpa using e2 m hm⟩
def Ac9:∀ (n:Nat) {p:HO},LD p->LD (adv n p)
 | 0,p,h=>h
 | n+1,p,h=>by
  rw[adv];split
  ·rename_i hs;refine Ac9 n (Afi ?_);cases hl:p.loaded with
   | false=>rfl
   | true=>rw[Aeh (h hl).1 hl] at hs;exact absurd hs (by decide)
  ·exact h
def Aad {p:HO} (h:LD p) (a:FS) (x:L_):LD (takeAnswer p a x):=by
 refine Ac9 2000 ?_;have hl:∀ q:HO,(fillModule q a x).loaded=q.loaded:=λq=>by
  unfold fillModule;split
  ·rfl
  ·have hf:∀ (l:List FS) (y:HO),(l.foldl askModule y).loaded=y.loaded:=by
    intro l
    induction l with
    | nil=>intro y;rfl
    | cons b l ih=>intro y;rw[dD,ih,LC]
   exact hf _ _
 intro h2;rw[hl] at h2;have h3:=h h2;have e1:fillAll p a x=p:=by
  have:p.bf.map (fillF p a x)=p.bf:=by rw[List.map_congr_left (g:=id) λs hs=>(CS p a x s).2.1 (h3.2.1 s hs),List.map_id]
  unfold fillAll;rw[this]
 rw[e1];have e2:fillModule p a x=p:=by
  unfold fillModule;rw[G_];rcases Int.lt_or_le (findMod p.bi a) 0 with e|e
  ·exact .inl e
  ·exact .inr (h3.2.2 _ (G8 e))
 rw[e2];exact h3
structure SI (R:FS->L_) (Q:List X_) (C0:HO) (l:O_):Prop where
 ri:RI R l.page
 qi:QI R Q l.page.bm
 co:∃ k,cq R l.page (tokensOf (ofL (txt l)))=iN R Q k C0
 tk:l.parts.length=0->l.page.tok=default
 cn:∀ c,c∈l.conns->c.bd=R c.to
 gs:∀ g,g∈l.guesses->g.bd=R g.to
 nt:nR R l.net
 ld:LD l.page
def Ac5 {R:FS->L_} {Q:List X_} {C0:HO} {l:O_} (hl:LI l) (h:SI R Q C0 l) (he:l.page.ended=true):tokensOf (ofL (txt l))=[]:=by
 have hp:l.parts.length=0:=by rw[hl.ed] at he;exact dZ he
 have:txt l=[]:=by unfold txt;rw[h.tk hp,List.length_eq_zero_iff.1 hp];rfl
 rw[this];exact Vb
def HN {R:FS->L_} {Q:List X_} {C0:HO} (hR:∀ a,rOk (R a)) {l:O_} (hl:LI l) (h:SI R Q C0 l) (a:FS) {n:N_} (hn:nR R n) {gs:List aZ} (hg:∀ g,g∈gs->g.bd=R g.to) {cs:List ao} (hc:∀ c,c∈cs->c.bd=R c.to):SI R Q C0 { l with net:=n,guesses:=gs,conns:=cs,page:=takeAnswer l.page a (R a)}:=by
 have h1:=Y8 (q0:=tokensOf (ofL (txt l))) a h.ri (hR a) h.qi (Ac5 hl h);obtain⟨k,hk⟩:=h1.2;obtain⟨k0,hk0⟩:=h.co;have ht:=(FH (a:=a) hl.pi hl.mi (hR a) (by have:=hl.bg;omega)).2.2.2.2.2.2.2;refine⟨h1.1,by show QI R Q (takeAnswer l.page a (R a)).bm;rw[ht.2.1];exact h.qi,⟨k0+k,?_⟩,λe=>by show(takeAnswer l.page a (R a)).tok=_;rw[ht.2.2.2];exact h.tk e,hc,hg,hn,Aad h.ld a _⟩;have e:txt { l with net:=n,guesses:=gs,conns:=cs,page:=takeAnswer l.page a (R a)}=txt l:=by show toL (takeAnswer l.page a (R a)).tok.rest++_=_;rw[ht.2.2.2];rfl
 rw[e];show cq R (takeAnswer l.page a (R a)) _=_;rw[hk,hk0,Rz]
def RV {R:FS->L_} {Q:List X_} {C0:HO} {l:O_} (h:SI R Q C0 l) {n:N_} (hn:nR R n) {gs:List aZ} (hg:∀ g,g∈gs->g.bd=R g.to) {cs:List ao} (hc:∀ c,c∈cs->c.bd=R c.to):SI R Q C0 { l with net:=n,guesses:=gs,conns:=cs }:=⟨h.ri,h.qi,h.co,h.tk,hc,hg,hn,h.ld⟩
def Agj {R:FS->L_} {Q:List X_} {C0:HO} {l:O_} (hl:LI l) (h:SI R Q C0 l):SI R Q C0 (arrivePart l).1:=by
 unfold arrivePart;split
 ·exact h
 ·rename_i hp;obtain⟨s,r,hps⟩:∃ s r,l.parts=s::r:=by
   cases hc:l.parts with
   | nil=>rw[hc] at hp;exact absurd rfl hp
   | cons s r=>exact⟨s,r,rfl⟩
  have he:l.page.ended=false:=by rw[hl.ed,ey hp]
  have hnl:l.page.loaded=false:=by
   cases hq:l.page.loaded with
   | false=>rfl
   | true=>
    have:=(h.ld hq).1;unfold isParsed at this;rw[he] at this;exact absurd (show false=true from this) (by decide)
  have hg:l.parts.getD 0 default=s:=by rw[hps];rfl
  have hd:l.parts.drop 1=r:=by rw[hps];rfl
  have ht:ofL (txt l)=(l.page.tok.rest++s)++ofL (r.flatMap toL):=by unfold txt;rw[hps,CR,AH,List.flatMap_cons,CR,AH];rw[<-AH (l.page.tok.rest++(s++_)),<-AH (l.page.tok.rest++s++_),Au,Au,Au,Au,bF]
  have ha:arriveText l.page s=atP l.page (feedAll (l.page.tok.rest++s)).1 ⟨(feedAll (l.page.tok.rest++s)).2⟩ false:=by unfold arriveText atP;rw[F_ (by rw[he];decide)];rw[<-he]
  have htx:=hl.tx;have htl:txt l=toL (l.page.tok.rest++s)++r.flatMap toL:=by unfold txt;rw[hps,Au];simp
  rw[htl] at htx;have hf:=AbJ (l.page.tok.rest++s) (r.flatMap toL) htx;have h1:=Mb hl.pi ⟨(feedAll (l.page.tok.rest++s)).2⟩ false hf.1;obtain⟨k0,hk0⟩:=h.co;rw[ht,Ajp] at hk0;have hq:∃ q,arrPage l=q/\RI R q/\q.bm=l.page.bm/\q.loaded=false/\(r.length=0->q.tok=default)/\(q.ended=true->r.length=0)/\cq R q (tokensOf (ofL (toL q.tok.rest++r.flatMap toL)))=cq R l.page ((feedAll (l.page.tok.rest++s)).1++tokensOf ((feedAll (l.page.tok.rest++s)).2++ofL (r.flatMap toL))):=by
   refine⟨_,rfl,?_⟩;unfold arrPage;rw[hg,ha];split
   ·rename_i h3;have hr:r=[]:=by rw[hps] at h3;simpa using h3
    subst hr;rw[List.flatMap_nil,cz] at hf;have h4:=AgV _ hf.2;have h8:endPage (atP l.page (feedAll (l.page.tok.rest++s)).1 ⟨(feedAll (l.page.tok.rest++s)).2⟩ false)=atP (atP l.page (feedAll (l.page.tok.rest++s)).1 ⟨(feedAll (l.page.tok.rest++s)).2⟩ false) (endText (feedAll (l.page.tok.rest++s)).2) default true:=by unfold endPage;exact F_ (by simp[atP])
    rw[h8];have h5:=Mb h1.1 default true (ts:=endText (feedAll (l.page.tok.rest++s)).2) λt ht=>(h4 t ht).1
    refine⟨⟨h5.1,BX h.ri.mi rfl rfl rfl,Kg h.ri.mr rfl rfl rfl,PZ h.ri.me rfl rfl rfl rfl,Q4 h.ri.sr rfl rfl rfl⟩,rfl,hnl,λ_=>rfl,λ_=>rfl,?_⟩;rw[Up,Up];have e1:tokensOf (ofL (toL (default:dj).rest++([]:List ByteArray).flatMap toL))=[]:=Vb;have e2:(feedAll (l.page.tok.rest++s)).2++ofL (([]:List ByteArray).flatMap toL)=(feedAll (l.page.tok.rest++s)).2:=Mo _;show cq R l.page ((feedAll (l.page.tok.rest++s)).1++(endText (feedAll (l.page.tok.rest++s)).2++tokensOf (ofL (toL (default:dj).rest++([]:List ByteArray).flatMap toL))))=_;rw[e1,e2,Ae3,cz]
   ·rename_i h3;have hrl:r.length≠0:=by rw[hps] at h3;simp at h3;simpa using h3
    refine⟨⟨h1.1,BX h.ri.mi rfl rfl rfl,Kg h.ri.mr rfl rfl rfl,PZ h.ri.me rfl rfl rfl rfl,Q4 h.ri.sr rfl rfl rfl⟩,rfl,hnl,λe=>absurd e hrl,λe=>absurd (show false=true from e) (by decide),?_⟩;rw[Up];have e2:ofL (toL (feedAll (l.page.tok.rest++s)).2++r.flatMap toL)=(feedAll (l.page.tok.rest++s)).2++ofL (r.flatMap toL):=by rw[CR,AH]
    show cq R l.page ((feedAll (l.page.tok.rest++s)).1++tokensOf (ofL (toL (feedAll (l.page.tok.rest++s)).2++r.flatMap toL)))=_;rw[e2]
  obtain⟨q,hq0,q1,q2,q3,q4,q5,q6⟩:=hq;have hG:=Ry 2000 q;obtain⟨k,hk⟩:=AbE (Q:=Q) (q0:=tokensOf (ofL (toL q.tok.rest++r.flatMap toL))) 2000 q1 (by rw[q2];exact h.qi) (λe=>by have:=q5 e;rw[q4 this,List.length_eq_zero_iff.1 this];exact Vb)
  rw[hq0,hd];refine⟨Aak 2000 q1,by show QI R Q (adv 2000 q).bm;rw[hG.po,q2];exact h.qi,⟨k0+k,?_⟩,λe=>by show(adv 2000 q).tok=_;rw[hG.tk];exact q4 e,h.cn,h.gs,h.nt,Ac9 2000 λe=>absurd (q3.symm.trans e) (by decide)⟩;have e:txt { l with parts:=r,page:=advance q }=toL q.tok.rest++r.flatMap toL:=by show toL (adv 2000 q).tok.rest++_=_;rw[hG.tk]
  rw[e];show cq R (adv 2000 q) _=_;rw[hk,q6,hk0,Rz]
def Ev {α:Type} [Inhabited α] (p:α->Bool):∀ (l:List α) (i:Int),0<=i->0<=AQ p l i->i<=AQ p l i/\(AQ p l i-i).toNat<l.length/\p (l.getD (AQ p l i-i).toNat default)=true
 | [],i,_,h=>by simp[AQ] at h
 | x::l,i,hi,h=>by
  rw[AQ] at h ⊢;split at h
  ·rename_i hp;rw[G_ hp];refine⟨Int.le_refl _,by simp,?_⟩;rw[Int.sub_self];exact hp
  ·rename_i hp;rw[F_ hp];have ih:=Ev p l (i+1) o_ h;refine⟨o_,by simp only[aq];omega,?_⟩;have e:(AQ p l (i+1)-i).toNat=(AQ p l (i+1)-(i+1)).toNat+1:=o_
   rw[e];exact ih.2.2
def J0 {l:List aZ} {a:FS} (h:0<=findGuess l a):(findGuess l a).toNat<l.length/\(l.getD (findGuess l a).toNat default).to=a:=by
 have:=Ev (λg:aZ=>decide (g.to=a)) l 0 o_ h;rw[Int.sub_zero] at this;exact⟨this.2.1,dZ this.2.2⟩
section
variable {R:FS->L_} {Q:List X_} {C0:HO} (hR:∀ a,rOk (R a))
include hR
omit hR in
def ZK {l:O_} (h:SI R Q C0 l) (t:ByteArray) (a:FS) (g b:Bool):SI R Q C0 { l with net:=(fetchNow l.net t a b).1,conns:=(openConn l.conns a (fetchNow l.net t a b).2 g).1 }:=by
 have hf:=Jn h.nt t a b;refine RV h hf.1 h.gs λc hc=>?_
 rcases UC l.conns a (fetchNow l.net t a b).2 g with e|e
 ·rw[e] at hc;exact h.cn c hc
 ·rw[e] at hc;rcases ae.1 hc with hc|hc
  ·exact h.cn c hc
  ·rw[List.mem_singleton.1 hc];exact hf.2
def AkO {l:O_} (hl:LI l) (h:SI R Q C0 l):SI R Q C0 (requestNext l).1:=by
 unfold requestNext;split
 ·exact h
 ·split
  ·rename_i h3;have hf:0<=findGuess l.guesses (reqTo l):=by
    unfold useGuess at h3;split at h3
    ·exact absurd (show false=true from h3) (by decide)
    ·omega
   have hi:=J0 hf;have eu:useGuess l.guesses (reqTo l)=(l.guesses.modify (findGuess l.guesses (reqTo l)).toNat λg=>{ g with used:=true },(l.guesses.getD (findGuess l.guesses (reqTo l)).toNat default).bd,true):=by unfold useGuess;rw[F_ o_]
   have er:(l.guesses.getD (findGuess l.guesses (reqTo l)).toNat default).bd=R (reqTo l):=by have:=h.gs _ (Ae hi.1);rw[hi.2] at this;exact this
   rw[eu,er];exact HN hR hl h (reqTo l) (keep_R h.nt _ _) (λg hg=>by
    rcases JS hi.1 hg with hg|hg
    ·exact h.gs g hg
    ·rw[hg];exact h.gs (l.guesses.getD (findGuess l.guesses (reqTo l)).toNat default) (Ae hi.1)) h.cn
  ·split
   ·exact h
   ·exact ZK h _ _ _ _
omit hR in
def V1 {l:O_} (h:SI R Q C0 l):∀ m:List FS,SI R Q C0 (nextGuess l m).1
 | []=>h
 | a::m=>by
  rw[nextGuess];split
  ·exact V1 h m
  ·exact ZK h _ _ _ _
omit hR in
def Afj {l:O_} (h:SI R Q C0 l):SI R Q C0 (guessNext l).1:=by
 unfold guessNext;split
 ·exact h
 ·exact V1 h _
def AgY {l:O_} (hl:LI l) (h:SI R Q C0 l) {k:Int} (h0:0<=k) (hk:k<l.conns.length):SI R Q C0 (finish1 l k):=by
 have hc:l.conns.getD k.toNat default∈l.conns:=Ae o_;have hcs:∀ c,c∈closeConn l.conns k->c.bd=R c.to:=λc hm=>by
  rw[Ia h0 hk] at hm;rcases ae.1 hm with hm|hm
  ·exact h.cn c (fH hm)
  ·exact h.cn c (fC hm)
 have er:=h.cn _ hc;unfold finish1 finishC;rw[er];split
 ·split
  ·exact HN hR hl h _ (keep_R h.nt _ _) h.gs hcs
  ·exact HN hR hl h _ h.nt h.gs hcs
 ·split
  ·refine RV h h.nt (λg hg=>?_) hcs;have hg:g∈(addGuess l.guesses (l.conns.getD k.toNat default).to (R (l.conns.getD k.toNat default).to)).1:=hg;unfold addGuess at hg;split at hg
   ·exact h.gs g hg
   ·rcases ae.1 hg with hg|hg
    ·exact h.gs g hg
    ·rw[List.mem_singleton.1 hg]
  ·exact RV h h.nt h.gs hcs
def Aa8:∀ (n:Nat) {l:O_},LI l->SI R Q C0 l->SI R Q C0 (xfer n l)
 | 0,l,_,h=>h
 | n+1,l,hl,h=>by
  rw[xfer];split
  ·exact h
  ·rename_i h1;have h2:=CI l.conns 0 o_;exact Aa8 n (ZO hl (k:=firstDone l.conns 0) o_ o_).1 (AgY hR hl h o_ o_)
def AjH {l:O_} (hl:LI l) (h:SI R Q C0 l) {b:Int} (hb:20<=b/\b<=1000):SI R Q C0 (transfer l b).1:=by
 unfold transfer;split
 ·exact h
 ·refine Aa8 hR _ (P4 hl hb).1 ?_;refine RV h h.nt h.gs λc hc=>?_
  have hc:c∈moveConns l.conns b:=hc;unfold moveConns at hc;split at hc
  ·obtain⟨d,hd,rfl⟩:=bG.1 hc;exact h.cn d hd
  ·exact h.cn c hc
def Ajy {l:O_} (hl:LI l) (h:SI R Q C0 l) (n:Int):SI R Q C0 (actOf l n).1:=by
 unfold actOf;split
 ·exact Agj hl h
 ·split
  ·exact AkO hR hl h
  ·split
   ·exact Afj h
   ·split
    ·exact AjH hR hl h o_
    ·exact AjH hR hl h o_
def V7 {l:O_} (hl:LI l) (h:SI R Q C0 l) (c:Int):∀ n:Nat,SI R Q C0 (stepR l c n).1
 | 0=>h
 | n+1=>by
  rw[stepR];split
  ·exact Ajy hR hl h _
  ·exact V7 hl h c n
def Q7 {l:O_} (hl:LI l) (h:SI R Q C0 l) (c:Int):SI R Q C0 (stepTo l c):=V7 hR hl h c 5
def UI:∀ (cs:List Int) {l:O_},LI l->SI R Q C0 l->SI R Q C0 (cs.foldl stepTo l)
 | [],l,_,h=>h
 | c::cs,l,hl,h=>by rw[dD];exact UI cs (K3 hl c).1 (Q7 hR hl h c)
def AcX:∀ (n:Nat) {l:O_},LI l->SI R Q C0 l->SI R Q C0 (runB n l)
 | 0,l,_,h=>h
 | n+1,l,hl,h=>by
  rw[runB];split
  ·exact h
  ·split
   ·exact AcX n (K3 hl 0).1 (Q7 hR hl h 0)
   ·exact h
def AjB {l:O_} (hl:LI l) (h:SI R Q C0 l) (cs:List Int):SI R Q C0 (runLoad l cs):=AcX hR 1000 (Pp (cs.take 100) hl).1 (UI hR _ hl h)
end
def fetchN (h:ByteArray):Nat->N_->HO->N_×HO
 | 0,n,p=>(n,p)
 | k+1,n,p=>if(nextNeeds p).length=0 then(n,p) else fetchN h k (fetchNow n h ((nextNeeds p).getD 0 default).to false).1 (takeAnswer p ((nextNeeds p).getD 0 default).to (fetchNow n h ((nextNeeds p).getD 0 default).to false).2)
def loadPlain (n:N_) (a:FS):N_×HO×Bool :=
 if(newPage a (fetchNow n a.host a false).2).2=true then
  ((fetchN a.host 200 (fetchNow n a.host a false).1 (advance (endPage (arriveText (newPage a (fetchNow n a.host a false).2).1 (fetchNow n a.host a false).2.body)))).1,
   (fetchN a.host 200 (fetchNow n a.host a false).1 (advance (endPage (arriveText (newPage a (fetchNow n a.host a false).2).1 (fetchNow n a.host a false).2.body)))).2,true)
 else((fetchNow n a.host a false).1,default,false)
def pl (n:N_) (p:HO):O_:=⟨n,p,[],[],[]⟩
def OG {p:HO} (h:¬ (nextNeeds p).length=0):need p ((nextNeeds p).getD 0 default).to:=(HV _ _).1 ⟨_,Ae (Nat.pos_of_ne_zero h),rfl⟩
def Wb {R:FS->L_} {Q:List X_} {C0:HO} (hR:∀ a,rOk (R a)) (ho:ByteArray):∀ (k:Nat) (n:N_) (p:HO),LI (pl n p)->SI R Q C0 (pl n p)->29<k+dnP p->LI (pl (fetchN ho k n p).1 (fetchN ho k n p).2)/\SI R Q C0 (pl (fetchN ho k n p).1 (fetchN ho k n p).2)/\(fetchN ho k n p).2.loaded=true
 | 0,n,p,hl,h,hk=>by have:=Ahp hl.pi hl.mi;have e:(pl n p).page=p:=rfl;rw[e] at this;omega
 | k+1,n,p,hl,h,hk=>by
  rw[fetchN];split
  ·rename_i h1;refine⟨hl,h,?_⟩;have hn:∀ a,¬ need p a:=λa ha=>by obtain⟨r,hr,_⟩:=(HV _ _).2 ha;rw[List.length_eq_zero_iff.1 h1] at hr;simp at hr
   refine Lp hl.pi hl.mi hl.ed (λs hs=>?_) (λm hm=>?_) hl.st
   ·cases hd:s.done with
    | true=>rfl
    | false=>exact absurd (.inl ⟨s,hs,hd,rfl⟩) (hn s.to)
   ·cases hd:m.done with
    | true=>rfl
    | false=>exact absurd (.inr ⟨m,hm,hd,rfl⟩) (hn m.to)
  ·rename_i h1;have hf:=Jn (n:=n) h.nt ho ((nextNeeds p).getD 0 default).to false;have hfo:=FD (n:=n) hl.nt ho ((nextNeeds p).getD 0 default).to false;have hn:=OG h1;rw[hf.2];have h2:=JO hl (a:=((nextNeeds p).getD 0 default).to) (x:=R ((nextNeeds p).getD 0 default).to) (n:=(fetchNow n ho ((nextNeeds p).getD 0 default).to false).1) (gs:=[]) (hR _) hfo.1 hn (by show _∉([]:List ao).map _;simp) (by simp) (Int.le_refl _) (show unU []<=unU []+1 from o_);have h3:=HN hR hl h ((nextNeeds p).getD 0 default).to (n:=(fetchNow n ho ((nextNeeds p).getD 0 default).to false).1) hf.1 (gs:=[]) (by simp) (cs:=[]) (by simp);have h4:=(FH (a:=((nextNeeds p).getD 0 default).to) (x:=R ((nextNeeds p).getD 0 default).to) hl.pi hl.mi (hR _) (by have:=hl.bg;omega)).2.2.2.2.2.1 hn;have e:(pl n p).page=p:=rfl;rw[e] at h4;exact Wb hR ho k _ _ h2.1 h3 o_
def clo (R:FS->L_):Nat->HO->HO
 | 0,p=>p
 | n+1,p=>match p.bi.find? (λm=>!m.done) with
  | none=>p
  | some m=>clo R n (fillModule p m.to (R m.to))
def Vu {p:HO} (a:FS) (x:L_) {b:FS} (h:hasM p b):hasM (fillModule p a x) b:=by
 unfold fillModule;split
 ·exact h
 ·rename_i h1;simp only[not_or,Int.not_lt] at h1;obtain⟨l,m,r,e1,e2,e3,e4⟩:=FF x h1.1;have h0:hasM (fillM0 p a x) b:=by
   unfold hasM at *
   rw[e4];rw[e1] at h;simp only[fG,bz] at h ⊢;exact h
  have hf:∀ (l:List FS) (q:HO),hasM q b->hasM (l.foldl askModule q) b:=by
   intro l
   induction l with
   | nil=>intro q hq;exact hq
   | cons c l ih=>intro q hq;exact ih _ (UO hq)
  exact hf _ _ h0
def Ag6 {R:FS->L_} (hR:∀ a,rOk (R a)):∀ (n:Nat) {p:HO},PI p->MI p->MR R p->hasM p HU->9<n+doneM p.bi->PI (clo R n p)/\MI (clo R n p)/\MR R (clo R n p)/\hasM (clo R n p) HU/\(∀ m,m∈(clo R n p).bi->m.done=true)/\(clo R n p).bm=p.bm/\(clo R n p).addr=p.addr
 | 0,p,hp,hm,_,_,hk=>by
  have h1:doneM p.bi<=p.bi.length:=List.countP_le_length;have:=VD hm;omega
 | n+1,p,hp,hm,hr,hh,hk=>by
  rw[clo];split
  ·rename_i e;refine⟨hp,hm,hr,hh,λm hq=>?_,rfl,rfl⟩;have:=List.find?_eq_none.1 e m hq;simpa using this
  ·rename_i m e;have h1:=List.mem_of_find?_eq_some e;have h2:=List.find?_some e;have hd:m.done=false:=by simpa using h2
   have hf:=Tn (p:=p) (a:=m.to) (x:=R m.to) hp hm (hR _);have hdm:=hf.2.2.2.2.2.2.1 ⟨m,h1,hd,rfl⟩;have ih:=Ag6 hR n hf.1 hf.2.1 (TH hr m.to) (Vu _ _ hh) o_;exact⟨ih.1,ih.2.1,ih.2.2.1,ih.2.2.2.1,ih.2.2.2.2.1,ih.2.2.2.2.2.1.trans hf.2.2.2.2.2.2.2.2.1,ih.2.2.2.2.2.2.trans hf.2.2.2.2.2.2.2.1⟩
def page0 (a:FS) (po:aQ):HO:=⟨a,po,default,[],false,newBuilder,[],[],[],0,0,0,0,[],[],false⟩
def Al4 (a:FS) (po:aQ):PI (page0 a po)/\muP (page0 a po)=41:=by
 refine⟨⟨⟨λn hn=>?_,λk hk=>?_,rfl,show 0<[(0:Int)].length by decide⟩,λt ht=>?_,Nat.zero_le _,Nat.zero_le _,λs hs=>?_,λe=>absurd rfl e,.inl rfl,Int.le_refl _,Int.le_refl _⟩,?_⟩
 ·rw[List.mem_singleton.1 (show n∈[_] from hn)];exact⟨Hr,λe=>absurd (show(⟨#[112,97,103,101]⟩:ByteArray)=scrW from e) (by decide)⟩
 ·rw[List.mem_singleton.1 (show k∈[_] from hk)];exact⟨Int.le_refl _,show(0:Int)<(newBuilder.bj.length:Int) by decide⟩
 ·exact absurd (show t∈[] from ht) (by simp)
 ·exact absurd (show s∈[] from hs) (by simp)
 ·have e:openScr newBuilder=0:=by decide +kernel
  show([]:List af).length+362*(nScr []+openScr newBuilder+(if(0:Int)=0/\(0:Int)=0 then 0 else 1))+(20-(0:Int)).toNat+(20-(0:Int)).toNat+(if false=true then 0 else 1)=41;rw[e];rfl
def AnC {a:FS} {po:aQ} (h:a.host=⟨#[104,111,109,101]⟩):MI (page0 a po) :=
 ⟨by show List.Pairwise _ _;simp[page0],λm hm=>absurd (show m∈[] from hm) (by simp),λb hb=>absurd (show b∈[] from hb) (by simp),λm hm=>absurd (show m∈[] from hm) (by simp),h,λb hb=>absurd (show b∈[] from hb) (by simp)⟩
def AnQ {R:FS->L_} {a:FS} {po:aQ} (h:a.host=⟨#[104,111,109,101]⟩):RI R (page0 a po) :=
 ⟨(Al4 a po).1,AnC h,λm hm=>absurd (show m∈[] from hm) (by simp),λm hm=>absurd (show m∈[] from hm) (by simp),λm hm=>absurd (show m∈[] from hm) (by simp)⟩
def QQ (R:FS->L_) (a:FS) (po:aQ):List X_:=(clo R 10 (askModule (page0 a po) HU)).bi
def Aoj {R:FS->L_} (hR:∀ a,rOk (R a)) {a:FS} {po:aQ} (h:a.host=⟨#[104,111,109,101]⟩):QI R (QQ R a po) po:=by
 have h0:=AnQ (R:=R) (po:=po) h;have hp:PI (askModule (page0 a po) HU):=by rw[LC];exact Ug h0.pi _
 have hm:=AgZ h0.mi (show HU∈A9 by decide);have hr:=Zw h0.mr HU;have hpo:(askModule (page0 a po) HU).bm=po/\(askModule (page0 a po) HU).addr=a:=by rw[LC];exact⟨rfl,rfl⟩
 obtain⟨c1,c2,c3,c4,c5,c6,c7⟩:=Ag6 hR 10 hp hm hr (UD _ _) o_;refine⟨c2.st,c2.ad,c4,c5,λm hq=>?_,λm hq h1 b hb=>c2.im m hq (c5 m hq) h1 b hb⟩;have:=(c3 m hq).1 (c5 m hq);unfold mP at this;rw[c6,c7,hpo.1,hpo.2,h] at this;exact this
def AfD {R:FS->L_} (hR:∀ a,rOk (R a)) {a:FS} {po:aQ} (ha:a.host=⟨#[104,111,109,101]⟩) {n:N_} (hn:nOk n) (hr:nR R n) {parts:List ByteArray} {B:List UInt8} (hp:parts≠[]) (hB:parts.flatMap toL=B) (hg:pgT B) (hw:wL B+362*csN B<=1900):LI ⟨n,page0 a po,parts,[],[]⟩/\SI R (QQ R a po) (cq R (page0 a po) (tokensOf (ofL B))) ⟨n,page0 a po,parts,[],[]⟩/\Lam ⟨n,page0 a po,parts,[],[]⟩=parts.length:=by
 have hpl:parts.length≠0:=λe=>hp (List.length_eq_zero_iff.1 e)
 have ht:txt ⟨n,page0 a po,parts,[],[]⟩=B:=by show toL (default:dj).rest++parts.flatMap toL=B;rw[hB];rfl
 refine⟨⟨(Al4 a po).1,AnC ha,rfl,by rw[ht];exact hg,?_,?_,by simp,by simp,by simp,by simp,by simp,show(0:Int)+((0:Nat):Int)<=6 by decide,hn,Nat.zero_le _⟩,⟨AnQ ha,Aoj hR ha,⟨0,by rw[ht];rfl⟩,λe=>absurd e hpl,by simp,by simp,hr,λe=>absurd (show false=true from e) (by decide)⟩,?_⟩
 ·rw[ht];show muP (page0 a po)+_+_<=2000;rw[(Al4 a po).2];omega
 ·show false=decide (parts.length=0);rw[ey hpl]
 ·show(parts.length:Int)-24*(0:Int)-23*0-23*0+0=_;omega
structure EP (R:FS->L_) (Q:List X_) (C0 p:HO):Prop where
 ri:RI R p
 ld:p.loaded=true
 ps:isParsed p=true
 sd:∀ s,s∈p.bf->s.done=true
 md:∀ m,m∈p.bi->m.done=true
 co:∃ k,cq R p []=iN R Q k C0
def AgB {R:FS->L_} {Q:List X_} {C0:HO} {l:O_} (hl:LI l) (h:SI R Q C0 l) (hf:l.page.loaded=true):EP R Q C0 l.page:=by
 have h1:=h.ld hf;have he:l.page.ended=true:=by have:=h1.1;unfold isParsed at this;simp only[S_] at this;exact this.1
 obtain⟨k,hk⟩:=h.co;rw[Ac5 hl h he] at hk;exact⟨h.ri,hf,h1.1,h1.2.1,h1.2.2,k,hk⟩
def stU:∀ {l m:List FS},Hj l->Hj m->(∀ a,a∈l↔a∈m)->l=m
 | [],[],_,_,_=>rfl
 | [],b::m,_,_,h=>absurd ((h b).2 (by simp)) (by simp)
 | a::l,[],_,_,h=>absurd ((h a).1 (by simp)) (by simp)
 | a::l,b::m,h1,h2,h=>by
  unfold Hj at h1 h2;rw[List.pairwise_cons] at h1 h2;have e:a=b:=by
   rcases ah.1 ((h a).1 (by simp)) with e|e
   ·exact e
   ·rcases ah.1 ((h b).2 (by simp)) with e2|e2
    ·exact e2.symm
    ·have:=h2.1 a e;have h3:=h1.1 b e2;rw[DF] at h3;omega
  subst e;rw[stU h1.2 h2.2 λc=>?_];have hne:∀ {k:List FS},(∀ x,x∈k->cmpA a x<0)->c∈k->c≠a:=λhk hc e=>by have:=hk c hc;rw[e,EJ.2 rfl] at this;omega
  constructor
  ·intro hc;rcases ah.1 ((h c).1 (by simp[hc])) with e|e
   ·exact absurd e (hne h1.1 hc)
   ·exact e
  ·intro hc;rcases ah.1 ((h c).2 (by simp[hc])) with e|e
   ·exact absurd e (hne h2.1 hc)
   ·exact e
def AgX {R:FS->L_} {Q:List X_} {C0 p:HO} (h:EP R Q C0 p) (a:FS):hasM p a↔RS (gI R p) p.bh a:=by
 constructor
 ·intro ha;obtain⟨m,hm,e⟩:=bG.1 ha;rw[<-e];exact h.ri.me m hm
 ·intro ha
  induction ha with
  | base h1=>exact h.ri.mi.en _ h1
  | @step x y _ h2 ih=>
   have h0:=L2 ih;have hd:hasD p _:=⟨h0,h.md _ (G8 h0)⟩;refine AbW h.ri.mi x y ?_;rw[RZ (PE h.ri.mr) hd];exact h2
def Aac {R:FS->L_} {Q:List X_} {C0 p:HO} (h:EP R Q C0 p):p.bi=(p.bi.map (·.to)).map (mP R p):=by
 rw[ee];have:p.bi.map (mP R p ∘ λm=>m.to)=p.bi.map id:=List.map_congr_left λm hm=>((h.ri.mr m hm).1 (h.md m hm)).symm
 rw[this,List.map_id]
def Ad6 {R:FS->L_} {Q:List X_} {C0 p q:HO} (hp:EP R Q C0 p) (hq:EP R Q C0 q):q.bf=p.bf/\q.bi=p.bi/\q.bh=p.bh/\q.bm=p.bm/\q.addr=p.addr:=by
 obtain⟨k,hk⟩:=hp.co;obtain⟨m,hm⟩:=hq.co;have e:=Ac7 (R:=R) (Q:=Q) (P:=C0) (m:=k) (n:=m) (by rw[<-hk];exact Ag5 hp.ps hp.ld) (by rw[<-hm];exact Ag5 hq.ps hq.ld);rw[<-hk,<-hm] at e;have e1:p.bm=q.bm:=by have:=cB HO.bm e;exact this
 have e2:p.addr=q.addr:=by have:=cB HO.addr e;exact this
 have e3:p.bh=q.bh:=by have:=cB HO.bh e;exact this
 have e4:p.bf.map (fR R p)=q.bf.map (fR R q):=by have:=cB HO.bf e;exact this
 have hid:∀ {x:HO},(∀ s,s∈x.bf->s.done=true)->x.bf.map (fR R x)=x.bf:=λ{x} h=>by
  have e:x.bf.map (fR R x)=x.bf.map id:=List.map_congr_left λs hs=>NF x (h s hs)
  rw[e,List.map_id]
 rw[hid hp.sd,hid hq.sd] at e4;have eg:gI R q=gI R p:=by funext b;unfold gI mP;rw[e1,e2]
 have em:q.bi.map (·.to)=p.bi.map (·.to):=stU hq.ri.mi.st hp.ri.mi.st λa=>by have h1:=AgX hp a;have h2:=AgX hq a;rw[eg,<-e3] at h2;exact h2.trans h1.symm
 refine⟨e4.symm,?_,e3.symm,e1.symm,e2.symm⟩;rw[Aac hq,Aac hp,em];unfold mP;rw[e1,e2]
abbrev hom:ByteArray:=⟨#[104,111,109,101]⟩
def ck (n:N_) (a:FS):Prop:=∃ e,e∈n.cache.bh/\freshEntry hom a n.now e=true
def AbP (n:N_) (a:FS):(lookUp n.cache hom a n.now).isSome=true↔ck n a:=by
 unfold lookUp ck;rw[Option.isSome_map,List.find?_isSome]
def keep_now (n:N_) (t:ByteArray) (a:FS) (x:L_):(keepAnswer n t a x).now=n.now/\(keepAnswer n t a x).log=n.log:=by
 unfold keepAnswer;split<;>exact⟨rfl,rfl⟩
def keep_ck (n:N_) (a b:FS) (x:L_):(ck (keepAnswer n hom a x) b->ck n b\/b=a)/\(ck n b->ck (keepAnswer n hom a x) b):=by
 have hnow:=(keep_now n hom a x).1;unfold keepAnswer at *
 split
 ·rename_i hc;have hno:¬ ck n a:=λh=>by rw[(AbP n a).2 h] at hc;exact absurd hc.1 (by decide)
  have key:∀ c:bD,(∀ e,e∈c.bh->e∈n.cache.bh\/e.to=a)->(∀ e,e∈n.cache.bh->e.to≠a->e∈c.bh)->(ck { n with cache:=c } b->ck n b\/b=a)/\(ck n b->ck { n with cache:=c } b):=λc h1 h2=>by
   constructor
   ·rintro⟨e,he,hf⟩;rcases h1 e he with h|h
    ·exact .inl ⟨e,h,hf⟩
    ·right;simp only[freshEntry,S_,av] at hf;exact hf.2.1.symm.trans h
   ·rintro⟨e,he,hf⟩;refine⟨e,h2 e he λq=>hno ⟨e,he,?_⟩,hf⟩;simp only[freshEntry,S_,av] at hf ⊢;exact⟨hf.1,q,hf.2.2⟩
  refine key _ ?_ ?_
  ·intro e he;unfold storeEntry at he;split at he
   ·unfold putEntry at he;split at he
    ·rename_i hi;have hx:=Ev (λe:ce=>decide (e.top=hom)&&decide (e.to=a)) n.cache.bh 0 o_ hi;rw[Int.sub_zero] at hx;rcases JS hx.2.1 he with he|he
     ·exact .inl he
     ·rw[he];exact .inr rfl
    ·rcases ae.1 he with he|he
     ·exact .inl he
     ·rw[List.mem_singleton.1 he];exact .inr rfl
   ·exact .inl he
  ·intro e he hne;unfold storeEntry;split
   ·unfold putEntry;split
    ·rename_i hi;have hx:=Ev (λe:ce=>decide (e.top=hom)&&decide (e.to=a)) n.cache.bh 0 o_ hi;rw[Int.sub_zero] at hx;simp only[S_,av] at hx;show e∈n.cache.bh.modify _ _;rw[BT _ hx.2.1];have e2:n.cache.bh=n.cache.bh.take (AQ (λe:ce=>decide (e.top=hom)&&decide (e.to=a)) n.cache.bh 0).toNat++n.cache.bh.getD (AQ (λe:ce=>decide (e.top=hom)&&decide (e.to=a)) n.cache.bh 0).toNat default::n.cache.bh.drop ((AQ (λe:ce=>decide (e.top=hom)&&decide (e.to=a)) n.cache.bh 0).toNat+1):=by
      have h1:=P_ (l:=n.cache.bh) hx.2.1
      calc n.cache.bh=n.cache.bh.take (_+1)++n.cache.bh.drop (_+1):=(di _ _).symm
       _=_:=by rw[h1];simp
     rw[e2] at he;simp only[ae,ah] at he ⊢;rcases he with he|he|he
     ·exact .inl he
     ·exact absurd (by rw[he];exact hx.2.2.2) hne
     ·exact .inr (.inr he)
    ·exact List.mem_append_left _ he
   ·exact he
 ·exact⟨.inl,id⟩
def okSl (p:HO) (s:aw):Prop:=checkRequest p.bm (reqOf p s)=1
def okMd (p:HO) (a:FS):Prop:=checkRequest p.bm ⟨5,a,p.addr.host,⟨#[]⟩⟩=1
def wntd (p:HO) (a:FS):Prop:=(∃ s,s∈p.bf/\s.to=a/\okSl p s)\/(hasM p a/\okMd p a)
end Go.Proofs.YtfklkhgmgglloaaGreat.fnOthersLearn
