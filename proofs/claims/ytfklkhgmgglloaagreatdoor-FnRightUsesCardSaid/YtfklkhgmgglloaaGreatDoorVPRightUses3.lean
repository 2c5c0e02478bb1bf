/-
  Contracts of functions that the law of FnRightUses reaches, part 3.
-/
import Derived.Test.YtfklkhgmgglloaaGreatDoorVPRightUses2
namespace Go.Proofs.YtfklkhgmgglloaaGreatDoor.fnRightUses
open Go.Proofs.YtfklkhgmgglloaaGreatDoor
open Go.D Go.Proofs.Tryz
set_option maxRecDepth 100000
set_option maxHeartbeats 2000000
set_option linter.defProp false
set_option linter.unusedVariables false
set_option linter.unusedSimpArgs false
def Apt:=ApF.G Aew<|GS.of (S:=Aew) (L:=λ_ _=>none) (kp:=(KP [1,2,4] [8])) ApF.2 func117 k_ k_ (by
 rintro⟨(p:A_),(s:ByteArray),_⟩ hp;refine ho (.br (decide ((p.log.length:Int)<40)) (.ap (p.log.length+[s].length) 16<|GS.out Aew (({p with log:=p.log++[s]},()),(()))) (GS.out Aew ((p,()),(())))) ?_;refine Z (λh1=>FB ?_ λ_=>GS.leafY ?_) λh1=>GS.leafY ?_;all_goals
  try simp only[std,Nat.reduceAdd,say] at *
  try simp(disch:=omega) only[FS,C_] at *
  try simp(disch:=omega) only[G_,F_]
 all_goals first|trivial|omega|grind[FS,C_,B_,K_,I_,maxLen,say])
def findM (l:List Z_) (a:HO):Int:=fidx (λm=>decide (m.to=a)) l 0
def Tj (l:List Z_) (a:HO):fidx (λm=>decide (m.to=a)) l 0=findM l a:=rfl
def BL (l:List Z_) (a:HO):findM l a<l.length/\-1<=findM l a:=by
 have:=BU (λm:Z_=>decide (m.to=a)) l 0 O;unfold findM;omega
def DM {l:List Z_} {a:HO} (h:0<=findM l a):(l.getD (findM l a).toNat default).to=a:=by
 have e:=Sw (λm:Z_=>decide (m.to=a)) l 0 O;rw[Tj,G_ h,Int.sub_zero] at e;grind
def impo (p:A_) (a:HO):List HO×Bool :=
 if findM p.bi a<0\/(p.bi.getD (findM p.bi a).toNat default).done=false\/¬ (p.bi.getD (findM p.bi a).toNat default).code=1 then([],false)
 else((parseM (p.bi.getD (findM p.bi a).toNat default).body a.host).1,(parseM (p.bi.getD (findM p.bi a).toNat default).body a.host).2.2)
def okMb (p:A_):Prop:=∀ i,i<p.bi.length->(p.bi.getD i default).body.size<=4000000000
abbrev GD:Fct:=⟨[.v (.el .page),.v (.el .addr)],[.sl .addr,.el .bool],λ(x:bE)=>x.1.bi.length<=1000000000000/\okMb x.1/\x.2.1.host.size<=4000000000,λ(x:bE)=>((impo x.1 x.2.1).1,(impo x.1 x.2.1).2,())⟩
def Aoe:=Apt.a GD<|Fct.o (KP [2,3,4,5,6,7,9] [32]) Apt.2 func124 (by
 rintro⟨(p:A_),(a:HO),_⟩ hp;refine ho (.cl LO (p,a,()) λ(z2:D_)=>.br (decide (z2.1<0)) (.lf GD ([],false,())) (.ob (inB z2.1 p.bi.length)<|.br (!(p.bi.getD z2.1.toNat default).done) (.lf GD ([],false,())) (.ob (inB z2.1 p.bi.length)<|.br ((p.bi.getD z2.1.toNat default).code != 1) (.lf GD ([],false,())) (.ob (inB z2.1 p.bi.length)<|.cl Fl ((p.bi.getD z2.1.toNat default).body,a.host,()) λz3=>.lf GD (z3.1,z3.2.2.1,()))))) ?_;repeat' (guard_target =~ Out.holds _ _;first|refine Y ?_|refine Z (λ_=>?_) λ_=>?_|refine Ai ?_ λ_=>?_|refine Ad ?_ λ_=>?_)
 all_goals have hf:=BL p.bi a<;>obtain⟨q1,q2,q3⟩:=(show p.bi.length<=1000000000000/\okMb p/\a.host.size<=4000000000 from hp)<;>(try simp only[WJ] at *)<;>(try simp only[std,Nat.reduceAdd,Tj] at *)<;>(first|omega|exact⟨q2 _ O,q3⟩|skip)<;>unfold impo<;>(first|rw[G_ (by exact .inl ‹_›)]|rw[G_ (by exact .inr (.inl ‹_›))]|rw[G_ (by exact .inr (.inr ‹_›))]|rw[F_ (by rintro(q|q|q)<;>first|omega|exact tf ‹_› q|exact q ‹_›)])<;>exact⟨rfl,rfl⟩)
def O2 (b:ByteArray):∀ (l:List ByteArray) (acc:List HO),(∀ x,x∈acc->x.host.size<=8/\x.path.size<=8)->(∀ x,x∈(pmGo b l acc).1->x.host.size<=8/\x.path.size<=8)/\(pmGo b l acc).1.length+l.length<=acc.length+U Ag l
 | [],acc,h=>⟨h,X_ _⟩
 | w::l,acc,h=>by
  rw[pmGo,Ah];have hnil:∀ x:HO,x∈([]:List HO)->x.host.size<=8/\x.path.size<=8:=λx h=>by cases h
  have hll:=Ac Ag l;split
  .rename_i hi;split
   .rename_i hc;obtain⟨i1,i2⟩:=O2 b l (acc++[(par (w.extract 7 w.size) b).1]) (λx hx=>by
     rcases ah.1 hx with hx|hx
     .exact h x hx
     .rw[List.mem_singleton] at hx;subst hx;unfold par at hc ⊢;split at hc
      .rename_i hn;rw[G_ hn];rw[T_] at hn;exact⟨Bb hn.1,Bb hn.2⟩
      .cases hc)
    refine⟨i1,?_⟩;rw[al] at i2;have:=hi.1;grind
   .grind
  .grind
def Ow (s b:ByteArray):(∀ x,x∈(parseM s b).1->x.host.size<=8/\x.path.size<=8)/\(parseM s b).1.length<=s.size:=by
 obtain⟨h1,h2⟩:=O2 b (K 59 s) [] (λx h=>by cases h);have h3:=(Eg 59 s).1;rw[PH] at h2;exact⟨h1,by simp only[bz,parseM] at *;omega⟩
def D8 (p:A_) (a:HO):(∀ x,x∈(impo p a).1->x.host.size<=8/\x.path.size<=8)/\((impo p a).1=[]\/0<=findM p.bi a/\(impo p a).1.length<=(p.bi.getD (findM p.bi a).toNat default).body.size):=by
 unfold impo;split
 .simp
 .rename_i h;have:=Ow (p.bi.getD (findM p.bi a).toNat default).body a.host;simp_all
def inL (l:List HO) (a:HO):Bool:=l.any λc=>decide (c=a)
def visitF:Nat->A_->HO->List HO×List HO->List HO×List HO
 | 0,_,_,st=>st
 | f+1,p,a,st=>if inL st.1 a=true then st else
  (((impo p a).1.foldl (λst b=>visitF f p b st) (st.1++[a],st.2)).1,((impo p a).1.foldl (λst b=>visitF f p b st) (st.1++[a],st.2)).2++[a])
def muV (p:A_) (s:List HO):Nat:=(p.bi.filter λm=>!inL s m.to).length
def wtV (p:A_) (s:List HO):Nat:=((p.bi.filter λm=>!inL s m.to).map λm=>m.body.size+1).sum
def JI (s l:List HO) (a:HO):inL (s++l) a=(inL s a||inL l a):=by unfold inL;rw[List.any_append]
def Ul (a b:HO):inL [a] b=decide (a=b):=by unfold inL;simp
def HC {J:Type} {f g:J->Bool}:∀ {l:List J},(∀ x,x∈l->g x=true->f x=true)->(l.filter g).length<=(l.filter f).length
 | [],_=>X_ _
 | x::l,h=>by
  have ih:=HC (f:=f) (g:=g) (l:=l) λy hy=>h y (cY _ hy)
  grind
def AdG (p:A_) (s l:List HO):muV p (s++l)<=muV p s:=by
 unfold muV;refine HC λm _ h=>?_
 rw[JI] at h;simp_all
def wtL (g:Z_->Bool):List Z_->Nat
 | []=>0
 | m::l=>(if g m=true then m.body.size+1 else 0)+wtL g l
def Ah3 (g:Z_->Bool):∀ l:List Z_,wtL g l=((l.filter g).map λm=>m.body.size+1).sum
 | []=>rfl
 | m::l=>by rw[wtL,List.filter_cons,Ah3 g l];grind
def Ab9 {f g:Z_->Bool}:∀ {l:List Z_},(∀ m,g m=true->f m=true)->wtL g l<=wtL f l
 | [],_=>X_ _
 | m::l,h=>by have:=Ab9 (l:=l) h;rw[wtL,wtL];grind
def Xy {f g:Z_->Bool}:∀ {l:List Z_} {i:Nat},i<l.length->(∀ m,g m=true->f m=true)->f (l.getD i default)=true->g (l.getD i default)=false->wtL g l+(l.getD i default).body.size+1<=wtL f l
 | [],i,h,_,_,_=>absurd h (Nat.not_lt_zero _)
 | m::l,0,_,hl,h1,h2=>by
  have:=Ab9 (l:=l) hl;have h1:f m=true:=h1;have h2:g m=false:=h2;show wtL g (m::l)+m.body.size+1<=_;rw[wtL,wtL,F_ (by rw[h2];decide),G_ h1];omega
 | m::l,i+1,h,hl,h1,h2=>by have ih:=Xy (l:=l) (i:=i) (by simpa using h) hl h1 h2;show wtL g (m::l)+(l.getD i default).body.size+1<=_;rw[wtL,wtL];grind
def Tg (p:A_) (s:List HO):wtV p s=wtL (λm=>!inL s m.to) p.bi:=(Ah3 _ _).symm
def Mr {s:List HO} (l:List HO) {m:Z_} (h:(!inL (s++l) m.to)=true):(!inL s m.to)=true:=by
 rw[JI] at h;simp_all
def ZY (p:A_) (s l:List HO):wtV p (s++l)<=wtV p s:=by
 rw[Tg,Tg];exact Ab9 λm h=>Mr l h
def ZJ (p:A_) (s:List HO) (a:HO) (h:inL s a=false) (hf:0<=findM p.bi a):wtV p (s++[a])+(p.bi.getD (findM p.bi a).toNat default).body.size+1<=wtV p s:=by
 rw[Tg,Tg];have hr:=BL p.bi a;have hg:=DM hf;refine Xy O (λm h=>Mr [a] h) ?_ ?_
 .rw[hg,h];rfl
 .rw[hg,JI,h,Ul,cP rfl];rfl
def AbP (p:A_) (s:List HO) (a:HO) (h:inL s a=false) (hf:0<=findM p.bi a):muV p (s++[a])<muV p s:=by
 have hr:=BL p.bi a;have hg:=DM hf;have key:∀ (l:List Z_) (i:Nat),i<l.length->(l.getD i default).to=a->(l.filter λm=>!inL (s++[a]) m.to).length<(l.filter λm=>!inL s m.to).length:=by
  intro l
  induction l with
  | nil=>intro i hi;exact absurd hi (Nat.not_lt_zero _)
  | cons m l ih=>
   intro i hi he;have hle:(l.filter λm=>!inL (s++[a]) m.to).length<=(l.filter λm=>!inL s m.to).length:=HC λm _ h=>Mr [a] h
   rw[List.filter_cons,List.filter_cons];cases i with
   | zero=>
    have he:m.to=a:=he;rw[he,JI,h,Ul,cP rfl];grind
   | succ i=>
    have:=ih i (by simpa using hi) he;by_cases h1:(!inL (s++[a]) m.to)=true
    .rw[G_ h1,G_ (Mr [a] h1)];simp only[aw];omega
    .grind
 exact key _ _ O hg
def TA {J β:Type} (P:β->Prop) (f:β->J->β) (hf:∀ b a,P b->P (f b a)):∀ (l:List J) (b:β),P b->P (l.foldl f b)
 | [],_,h=>h
 | a::l,b,h=>TA P f hf l (f b a) (hf b a h)
def No:∀ (f:Nat) (p:A_) (a:HO) (st:aG),∃ l,(visitF f p a st).1=st.1++l
 | 0,p,a,st=>⟨[],(cS _).symm⟩
 | f+1,p,a,st=>by
  rw[visitF];split
  .exact⟨[],(cS _).symm⟩
  .have:=TA (λb:List HO×List HO=>∃ l,b.1=st.1++l) (λst b=>visitF f p b st) (λb x ⟨l,hl⟩=>by obtain⟨m,hm⟩:=No f p x b;exact⟨l++m,by rw[hm,hl,bK]⟩) (impo p a).1 (st.1++[a],st.2) ⟨[a],rfl⟩
   exact this
def H8:∀ (f g:Nat) (p:A_) (a:HO) (st:aG),muV p st.1<f->muV p st.1<g->visitF f p a st=visitF g p a st
 | 0,_,_,_,_,h,_=>absurd h (Nat.not_lt_zero _)
 | _+1,0,_,_,_,_,h=>absurd h (Nat.not_lt_zero _)
 | f+1,g+1,p,a,st,h1,h2=>by
  rw[visitF,visitF];split
  .rfl
  .rename_i hn;have hn:inL st.1 a=false:=by simpa using hn
   have hfold:∀ (l:List HO) (s:aG),muV p s.1<f->muV p s.1<g->l.foldl (λst b=>visitF f p b st) s=l.foldl (λst b=>visitF g p b st) s:=by
    intro l
    induction l with
    | nil=>intro s _ _;rfl
    | cons b l ih=>
     intro s q1 q2;rw[dy,dy,<-H8 f g p b s q1 q2];obtain⟨m,hm⟩:=No f p b s;have:=AdG p s.1 m;grind
   rcases(D8 p a).2 with he|⟨hm,_⟩
   .rw[he];rfl
   .have:=AbP p st.1 a hn hm;grind
def visi (p:A_) (a:HO) (st:aG):List HO×List HO:=visitF (p.bi.length+1) p a st
def AhM (p:A_) (s:List HO):muV p s<=p.bi.length:=List.length_filter_le _ _
def AbM {p:A_} {a:HO} {st:List HO×List HO} (h:inL st.1 a=true):visi p a st=st:=by unfold visi;rw[visitF,G_ h]
def AgT {p:A_} {a:HO} {st:List HO×List HO} (h:inL st.1 a=false):visi p a st=(((impo p a).1.foldl (λst b=>visi p b st) (st.1++[a],st.2)).1,((impo p a).1.foldl (λst b=>visi p b st) (st.1++[a],st.2)).2++[a]):=by
 have e:visi p a st=visitF (p.bi.length+2) p a st:=H8 _ _ p a st (by have:=AhM p st.1;omega) (by have:=AhM p st.1;omega);rw[e,visitF,F_ (by rw[h];decide)];rfl
def totV (p:A_) (s:List HO):Nat:=s.length+wtV p s
def RZ:∀ (f:Nat) (p:A_) (a:HO) (st:aG),totV p (visitF f p a st).1<=totV p st.1+1/\(visitF f p a st).2.length+st.1.length=st.2.length+(visitF f p a st).1.length
 | 0,p,a,st=>⟨Nat.le_succ _,rfl⟩
 | f+1,p,a,st=>by
  rw[visitF];split
  .omega
  .rename_i hn;have hn:inL st.1 a=false:=by simpa using hn
   have hfold:∀ (l:List HO) (s:aG),totV p (l.foldl (λst b=>visitF f p b st) s).1<=totV p s.1+l.length/\(l.foldl (λst b=>visitF f p b st) s).2.length+s.1.length=s.2.length+(l.foldl (λst b=>visitF f p b st) s).1.length:=by
    intro l
    induction l with
    | nil=>intro s;exact⟨X_ _,rfl⟩
    | cons b l ih=>
     intro s;rw[dy];have h1:=RZ f p b s;grind
   have h1:=hfold (impo p a).1 (st.1++[a],st.2);rw[al,dZ];have h3:(st.1++[a]).length=st.1.length+1:=by simp
   rcases(D8 p a).2 with he|⟨hm,hl⟩
   .rw[he] at h1 ⊢;have:=ZY p st.1 [a];simp only[totV,bz,List.foldl_nil] at *
    omega
   .have:=ZJ p st.1 a hn hm;simp only[totV] at *
    omega
def rea (p:A_) (a:HO):List HO:=(visi p a ([],[])).2
def YV {p:A_} {a:HO} {s:List HO} {i:Nat} (h:inL s a=false) (hi:i<(impo p a).1.length):totV p (s++[a])+i<totV p s/\muV p (s++[a])<muV p s:=by
 rcases(D8 p a).2 with he|⟨hm,hl⟩
 .simp_all
 .have h1:=ZJ p s a h hm;refine⟨?_,AbP p s a h hm⟩;simp only[totV,al,aw,bz];omega
def XZ {p:A_} {l:List HO} {i:Nat} {st:List HO×List HO} (h:i<l.length):(l.drop i).foldl (λst b=>visi p b st) st=(l.drop (i+1)).foldl (λst b=>visi p b st) (visi p (l.getD i default) st):=by rw[B_ h];rfl
def UL {p:A_} {l:List HO} {i:Nat} {st:List HO×List HO} (h:l.length<=i):(l.drop i).foldl (λst b=>visi p b st) st=st:=by rw[cx h];rfl
def PA (p:A_) (a:HO) (st:aG):totV p (visi p a st).1<=totV p st.1+1/\(visi p a st).2.length+st.1.length=st.2.length+(visi p a st).1.length:=RZ _ _ _ _
abbrev mVis (x:eB):Nat:=muV x.1 x.2.2.1
def okVis (p:A_) (a:HO) (s o:List HO):Prop:=p.bi.length<=1000000000000/\okMb p/\a.host.size<=4000000000/\totV p s<=100000000000/\o.length<=s.length
abbrev LH:GS:=⟨[.l (.v (.el .page)),.l (.v (.el .addr)),.g (.sl .addr),.g (.sl .addr)],[.sl .addr,.sl .addr],λ(x:eB)=>okVis x.1 x.2.1 x.2.2.1 x.2.2.2.1,λ(x:eB)=>(((visi x.1 x.2.1 (x.2.2.1,x.2.2.2.1)).1,(visi x.1 x.2.1 (x.2.2.1,x.2.2.2.1)).2,()),(()))⟩
def visInv (p:A_) (a:HO) (s o se od:List HO) (i:Int):Prop:=0<=i/\i<=(impo p a).1.length/\((impo p a).1.drop i.toNat).foldl (λst b=>visi p b st) (se,od)=(impo p a).1.foldl (λst b=>visi p b st) (s++[a],o)/\(∃ m,se=(s++[a])++m)/\totV p se<=totV p (s++[a])+i.toNat/\od.length+(s.length+1)=o.length+se.length
def AcH {p:A_} {a:HO} {s o se od:List HO} {i:Int} (h:visInv p a s o se od i) (hi:i<(impo p a).1.length):visInv p a s o (visi p ((impo p a).1.getD i.toNat default) (se,od)).1 (visi p ((impo p a).1.getD i.toNat default) (se,od)).2 (i+1):=by
 obtain⟨h1,h2,h3,⟨m,hm⟩,h5,h6⟩:=h;have ht:=PA p ((impo p a).1.getD i.toNat default) (se,od);rw[XZ O] at h3;obtain⟨l,hl⟩:=No (p.bi.length+1) p ((impo p a).1.getD i.toNat default) (se,od);dsimp only at ht;refine⟨O,O,?_,⟨m++l,?_⟩,?_,?_⟩
 .grind
 .show(visi p _ (se,od)).1=_;unfold visi;simp_all
 .omega
 .omega
def O0 {p:A_} {a:HO} {s o se od:List HO} {i:Int} (h:visInv p a s o se od i) (hi:i<(impo p a).1.length) (hn:inL s a=false) (hp:okVis p a s o):okVis p ((impo p a).1.getD i.toNat default) se od/\muV p se<muV p s:=by
 obtain⟨h1,h2,h3,⟨m,hm⟩,h5,h6⟩:=h;obtain⟨p1,p2,p3,p4,p5⟩:=hp;have hr:=YV hn (show i.toNat<(impo p a).1.length from O);have hm2:=AdG p (s++[a]) m;rw[<-hm] at hm2;have hb:=(D8 p a).1 _ (Ae (show i.toNat<(impo p a).1.length from O));exact⟨⟨p1,p2,O,O,O⟩,O⟩
def Nj {p:A_} (a:HO) (h:okMb p):(impo p a).1.length<=4000000000:=by
 have hr:=BL p.bi a;rcases(D8 p a).2 with he|⟨q1,q2⟩
 .rw[he];decide
 .have:=h (findM p.bi a).toNat O;omega
def XR {p:A_} {a:HO} {s o se od:List HO} {i:Int} (h:visInv p a s o se od i) (hp:okVis p a s o):od.length<=200000000000:=by
 obtain⟨h1,h2,h3,_,h5,h6⟩:=h;obtain⟨p1,p2,p3,p4,p5⟩:=hp;have h7:=Nj a p2;have h8:=ZY p s [a];simp only[totV,al,aw,bz] at *
 omega
def XU {p:A_} {a:HO} {s o se od:List HO} {i:Int} (h:visInv p a s o se od i) (hi:¬ i<(impo p a).1.length) (hn:inL s a=false):(se,od++[a])=visi p a (s,o):=by
 obtain⟨h1,h2,h3,_⟩:=h;rw[UL O] at h3;rw[AgT (st:=(s,o)) hn,<-h3]
def Agx (p:A_) (a:HO) (s o:List HO) (ho:o.length<=s.length):visInv p a s o (s++[a]) o 0:=by
 refine⟨O,O,rfl,⟨[],(cS _).symm⟩,X_ _,?_⟩;simp
def Adz (s:List HO) (a:HO):(s.any λc=>decide (c=a))=inL s a:=rfl
abbrev D5 (p:A_) (a:HO) (s:(List HO)) (o:(List HO)):LInv:=⟨[⟨.s,2,true,.sl .addr⟩,⟨.s,3,true,.sl .addr⟩,⟨.s,12,true,.el .int⟩,⟨.b,4,false,.el .page⟩,⟨.b,5,true,.el .addr⟩,⟨.s,10,true,.sl .addr⟩],λ(z x:dQ)=>(((visInv p a s o x.1 x.2.1 x.2.2.1)/\x.2.2.2.1=z.2.2.2.1)/\x.2.2.2.2.1=z.2.2.2.2.1)/\x.2.2.2.2.2.1=z.2.2.2.2.2.1,λ(x:dQ)=>(impo p a).1.length-x.2.2.1.toNat⟩
def AoM:=Aoe.G LH<|GS.ofRec (S:=LH) (L:=λ⟨p,a,s,o,_⟩=>λ|6=>some (D5 p a s o)|_=>none) (kp:=[2,3,4,5,8,9,10,12,15,33,1000015,1000033]) mVis Aoe.2 func215 k_ k_ (by
 intro n0;rintro⟨(p:A_),(a:HO),(s:List HO),(o:List HO),_⟩ hp hm;refine ho (.cl Gw (s,a,()) λz2=>.br (z2.1) (GS.out LH ((s,o,()),(()))) (.ap s.length 32<|.ap (s.length+[a].length) 32<|.cl GD (p,a,()) λz3=>lpx (D5 p a s o) (s++[a],(o,((0:Int),(p,(a,(z3.1,())))))) λ(y6:dQ) bk6=>.br (decide (y6.2.2.1<(y6.2.2.2.2.2.1.length:Int))) (.ix y6.2.2.1 y6.2.2.2.2.2.1.length<|.ob (LH.pre (y6.2.2.2.1,y6.2.2.2.2.2.1.getD y6.2.2.1.toNat default,y6.1,y6.2.1,())/\mVis (y6.2.2.2.1,y6.2.2.2.2.2.1.getD y6.2.2.1.toNat default,y6.1,y6.2.1,())<n0)<|.lt _ (LH.fn (y6.2.2.2.1,y6.2.2.2.2.2.1.getD y6.2.2.1.toNat default,y6.1,y6.2.1,())) λz4=>.bk (bk6 (z4.1.1,(z4.1.2.1,(w1 y6.2.2.1,(y6.2.2.2.1,(y6.2.2.2.2.1,(y6.2.2.2.2.2.1,())))))))) (.ap y6.2.1.length 32<|.ap (y6.2.1.length+[y6.2.2.2.2.1].length) 32<|GS.out LH ((y6.1,y6.2.1++[y6.2.2.2.2.1],()),(()))))) ?_;refine Ai ?_ λ_=>(Z (λh2=>GS.leafY ?_) λh2=>FB ?_ λ_=>FB ?_ λ_=>Ai ?_ λ_=>Ay ?_ λ(y6:dQ) i6=>Z (λh7=>Ey ?_ λo8 o9=>Ad ?_ λ_=>K6 (AR ?_)) λh7=>FB ?_ λ_=>FB ?_ λ_=>GS.leafY ?_)<;>have hq:okVis p a s o:=hp<;>obtain⟨p1,p2,p3,p4,p5⟩:=(show okVis p a s o from hp)<;>(have hsl:s.length<=100000000000:=by(simp only[totV] at p4;omega))<;>(have hil:=Nj a p2;try simp only[std,Nat.reduceAdd,Adz] at *)<;>(first|trivial|omega|exact⟨p1,p2,p3⟩|exact Agx p a s o p5|(rw[AbM ‹_›];exact⟨rfl,rfl⟩)|skip)<;>(obtain⟨⟨⟨i1,e1⟩,e2⟩,e3⟩:=i6;simp only[e1,e2,e3] at *)<;>(have i2:=i1.1;have i3:=XR i1 hq)<;>(first|trivial|omega|exact⟨i2,‹_›⟩|skip)<;>(first|exact⟨(O0 i1 ‹_› ‹_› hq).1,fq (O0 i1 ‹_› ‹_› hq).2 (Nat.le_of_lt_succ hm)⟩|(rw[AE O];simp only[and_true];exact⟨AcH i1 ‹_›,O⟩)|(rw[<-XU i1 O ‹_›];exact⟨rfl,rfl⟩)))
abbrev J2:Fct:=⟨[.v (.el .page),.v (.el .addr)],[.sl .addr],λ(x:bE)=>okVis x.1 x.2.1 [] [],λ(x:bE)=>(rea x.1 x.2.1,())⟩
def ApW:=AoM.a J2<|Fct.o [2,3,4,6] AoM.2 func156 (by
 rintro⟨(p:A_),(a:HO),_⟩ hp;refine ho (.ob (LH.pre (p,a,[],[],()))<|.lt _ (LH.fn (p,a,[],[],())) λz2=>.lf J2 (z2.1.2.1,())) ?_;refine Ad ?_ λ_=>K6 (Y ?_)<;>(try simp only[std,Nat.reduceAdd] at *)<;>(first|assumption|rfl))
def Th:∀ (f:Nat) (p:A_) (a:HO) (st:aG) (x:HO),x∈(visitF f p a st).2->x∈st.2\/x=a\/x.host.size<=8
 | 0,p,a,st,x,h=>.inl h
 | f+1,p,a,st,x,h=>by
  rw[visitF] at h;split at h
  .exact .inl h
  .have hfold:∀ (l:List HO) (s:aG),(∀ y,y∈l->y.host.size<=8)->x∈(l.foldl (λst b=>visitF f p b st) s).2->x∈s.2\/x.host.size<=8:=by
    intro l
    induction l with
    | nil=>intro s _ h;exact .inl h
    | cons b l ih=>
     intro s hl h;rcases ih _ (λy hy=>hl y (cY _ hy)) h with h|h
     .rcases Th f p b s x h with h|h|h
      .exact .inl h
      .simp_all
      .exact .inr h
     .exact .inr h
   rcases ah.1 h with h|h
   .rcases hfold _ _ (λy hy=>((D8 p a).1 y hy).1) h with h|h
    .exact .inl h
    .exact .inr (.inr h)
   .simp_all
def OV {p:A_} {a x:HO} (h:x∈rea p a) (ha:a.host.size<=4000000000):x.host.size<=4000000000:=by
 rcases Th _ p a ([],[]) x h with h|h|h
 .cases h
 .exact h▸ha
 .omega
def NK {p:A_} {a:HO} (h:totV p []<=100000000000):(rea p a).length<=100000000001:=by
 have:=PA p a ([],[]);unfold rea;simp only[bz] at this;have h2:(visi p a ([],[])).1.length<=totV p (visi p a ([],[])).1:=bN _ _;omega
def grap (p:A_) (a:HO):Bool:=(rea p a).all λb=>decide (0<=findM p.bi b)&&(p.bi.getD (findM p.bi b).toNat default).done
def gra (p:A_) (a:HO):Bool:=(rea p a).any λb=>!(impo p b).2
def Alf {J:Type} [Inhabited J] {f:J->Bool} {l:List J} {i:Nat} (h:i<l.length):(l.drop i).all f=(f (l.getD i default)&&(l.drop (i+1)).all f):=by rw[B_ h];rfl
def AkA {J:Type} [Inhabited J] {f:J->Bool} {l:List J} {i:Nat} (h:i<l.length):(l.drop i).any f=(f (l.getD i default)||(l.drop (i+1)).any f):=by rw[B_ h];rfl
def Ajb {J:Type} {f:J->Bool} {l:List J} {i:Nat} (h:l.length<=i):(l.drop i).all f=true:=by rw[cx h];rfl
def Aj4 {J:Type} {f:J->Bool} {l:List J} {i:Nat} (h:l.length<=i):(l.drop i).any f=false:=by rw[cx h];rfl
abbrev Ga:Fct:=⟨[.v (.el .page),.v (.el .addr)],[.el .bool],λ(x:bE)=>okVis x.1 x.2.1 [] [],λ(x:bE)=>(grap x.1 x.2.1,())⟩
abbrev Cd (p:A_) (a:HO):LInv:=⟨[⟨.s,6,true,.el .int⟩,⟨.b,2,false,.el .page⟩,⟨.s,5,true,.sl .addr⟩],λ(z x:cd)=>((0<=x.1/\x.1<=(rea p a).length/\((rea p a).drop x.1.toNat).all (λb=>decide (0<=findM p.bi b)&&(p.bi.getD (findM p.bi b).toNat default).done)=grap p a)/\x.2.1=z.2.1)/\x.2.2.1=z.2.2.1,λ(x:cd)=>(rea p a).length-x.1.toNat⟩
def Apn:=ApW.a Ga<|Fct.p (KP [2,3,4,5,6,7] [14,33]) (λ⟨p,a,_⟩=>lv [(3,Cd p a)]) ApW.2 func115 (by
 rintro⟨(p:A_),(a:HO),_⟩ hp;refine ho (.cl J2 (p,a,()) λz2=>lpx (Cd p a) ((0:Int),(p,(z2.1,()))) λ(y2:cd) bk2=>.br (decide (y2.1<(y2.2.2.1.length:Int))) (.ix y2.1 y2.2.2.1.length<|.cl LO (y2.2.1,y2.2.2.1.getD y2.1.toNat default,()) λ(z3:D_)=>.br (decide (z3.1<0)) (.lf Ga (false,())) (.ob (inB z3.1 y2.2.1.bi.length)<|.br (!(y2.2.1.bi.getD z3.1.toNat default).done) (.lf Ga (false,())) (.bk (bk2 (w1 y2.1,(y2.2.1,(y2.2.2.1,()))))))) (.lf Ga (true,()))) ?_;refine Ai ?_ λ_=>(Ay ?_ λ(y2:cd) i2=>Z (λh3=>Ey ?_ λo4 o5=>Ai ?_ λ_=>Z (λh7=>Y ?_) λh7=>Ad ?_ λ_=>Z (λh9=>Y ?_) λh9=>AR ?_) λh3=>Y ?_)<;>obtain⟨p1,p2,p3,p4,p5⟩:=(show okVis p a [] [] from hp)<;>(have hl:=NK (a:=a) p4;try simp only[WJ] at *)<;>(try simp only[std,Nat.reduceAdd,Tj] at *)<;>(first|trivial|omega|exact⟨p1,p2,p3,p4,p5⟩|exact⟨O,O,rfl⟩|skip)<;>(obtain⟨⟨⟨i0,i1,i3⟩,e1⟩,e2⟩:=i2;simp only[e1,e2] at *)<;>have hf:=BL p.bi ((rea p a).getD y2.1.toNat default)<;>(first|assumption|omega|skip)<;>(first|(rw[Ajb O] at i3;exact i3)|rw[Alf O] at i3)<;>(first|(rw[<-i3,decide_eq_false O];rfl)|(rw[<-i3,cP O,show Z_.done _=false from ‹_›];rfl)|(rw[cP O,show Z_.done _=true from ‹_›,Bool.true_and,Bool.true_and] at i3;rw[AE O,show(y2.1+1).toNat=y2.1.toNat+1 from O];simp only[and_true];exact⟨⟨O,O,i3⟩,O⟩)))
abbrev Hv:Fct:=⟨[.v (.el .page),.v (.el .addr)],[.el .bool],λ(x:bE)=>okVis x.1 x.2.1 [] [],λ(x:bE)=>(gra x.1 x.2.1,())⟩
abbrev Cb (p:A_) (a:HO):LInv:=⟨[⟨.s,6,true,.el .int⟩,⟨.b,2,false,.el .page⟩,⟨.s,5,true,.sl .addr⟩],λ(z x:cd)=>((0<=x.1/\x.1<=(rea p a).length/\((rea p a).drop x.1.toNat).any (λb=>!(impo p b).2)=gra p a)/\x.2.1=z.2.1)/\x.2.2.1=z.2.2.1,λ(x:cd)=>(rea p a).length-x.1.toNat⟩
def Aos:=Apn.a Hv<|Fct.p (KP [2,3,4,5,6,8] [15,28]) (λ⟨p,a,_⟩=>lv [(3,Cb p a)]) Apn.2 func157 (by
 rintro⟨(p:A_),(a:HO),_⟩ hp;refine ho (.cl J2 (p,a,()) λz2=>lpx (Cb p a) ((0:Int),(p,(z2.1,()))) λ(y2:cd) bk2=>.br (decide (y2.1<(y2.2.2.1.length:Int))) (.ix y2.1 y2.2.2.1.length<|.cl GD (y2.2.1,y2.2.2.1.getD y2.1.toNat default,()) λz3=>.br (!z3.2.1) (.lf Hv (true,())) (.bk (bk2 (w1 y2.1,(y2.2.1,(y2.2.2.1,())))))) (.lf Hv (false,()))) ?_;refine Ai ?_ λ_=>(Ay ?_ λ(y2:cd) i2=>Z (λh3=>Ey ?_ λo4 o5=>Ai ?_ λ_=>Z (λh7=>Y ?_) λh7=>AR ?_) λh3=>Y ?_)<;>obtain⟨p1,p2,p3,p4,p5⟩:=(show okVis p a [] [] from hp)<;>(have hl:=NK (a:=a) p4;try simp only[WJ] at *)<;>(try simp only[std,Nat.reduceAdd] at *)<;>(first|trivial|omega|exact⟨p1,p2,p3,p4,p5⟩|exact⟨O,O,rfl⟩|skip)<;>(obtain⟨⟨⟨i0,i1,i3⟩,e1⟩,e2⟩:=i2;simp only[e1,e2] at *)<;>(first|assumption|omega|exact⟨p1,p2,OV (Ae O) p3⟩|skip)<;>(first|(rw[Aj4 O] at i3;exact i3)|rw[AkA O] at i3)<;>(first|(rw[<-i3,show Prod.snd (impo p _)=false from ‹_›];rfl)|(rw[show Prod.snd (impo p _)=true from ‹_›,Bool.not_true,Bool.false_or] at i3;rw[AE O,show(y2.1+1).toNat=y2.1.toNat+1 from O];simp only[and_true];exact⟨⟨O,O,i3⟩,O⟩)))
def bpot (b:am):Nat:=szB b+10*(40-b.bj.length)
def Vz (b:am) (l:List bF) (x:bU):bpot (runL b l x).1<=bpot b:=by
 unfold runL;split
 .exact X_ _
 .split
  .dsimp only;split
   .rename_i h;obtain⟨h1,h2,h3⟩:=h;have:=Bb h3;have h0:U AS []=0:=rfl;have h4:U B3 []=0:=rfl;have h5:ByteArray.size ⟨#[]⟩=0:=rfl;simp only[bpot,szB,BR,Ah,h0,AS,h4,h5,al,aw,bz];omega
   .exact X_ _
  .grind
def LM (l:List bF):∀ (r:List bU) (b:am) (w:ByteArray) (g:List ByteArray),bpot (runLi l r b w g).1<=bpot b
 | [],b,w,g=>X_ _
 | x::r,b,w,g=>by rw[runLi];exact aP (LM l r _ _ _) (Vz b l x)
def RJ (b:am) (l:List bF) (r:List bU):bpot (runS b l r).1<=bpot b:=LM l r b _ _
def RF (b:am) (l:List bF) (r:List bU):(runS b l r).2.2.length<=r.length:=by
 have:=(Jv l r b ⟨#[]⟩ []).2.2;show(runLi l r b ⟨#[]⟩ []).2.2.length<=_;simpa using this
def OZ (b:ByteArray):∀ (l:List ByteArray) (acc:List HO),U EK (pmGo b l acc).2.1<=366/\(pmGo b l acc).2.1.length<=6
 | [],acc=>⟨Nat.zero_le _,Nat.zero_le _⟩
 | w::l,acc=>by
  rw[pmGo];split
  .split
   .exact OZ b l _
   .exact⟨Nat.zero_le _,Nat.zero_le _⟩
  .split
   .exact GX _
   .exact⟨Nat.zero_le _,Nat.zero_le _⟩
def entL (p:A_) (b:HO):List bU:=(parseM (p.bi.getD (findM p.bi b).toNat default).body b.host).2.1
def Nw (p:A_) (b:HO):U EK (entL p b)<=366/\(entL p b).length<=6:=OZ _ _ _
def entRun (p q:A_) (b:HO):am×ByteArray×List ByteArray:=runS q.ba (she p.bf) (entL p b)
def enter1 (p q:A_) (b:HO):A_:=if inL q.ran b=true then q else{ q with ran:=q.ran++[b],ba:=(entRun p q b).1,log:=addL q.log (entRun p q b).2.2 }
def enterA (p q:A_) (l:List HO):A_:=l.foldl (enter1 p) q
def enter (p:A_) (a:HO):A_:=if gra p a=true then say p (⟨#[102,97,105,108,32]⟩++form a) else enterA p p (rea p a)
def U6 {p q:A_} {l:List HO} {i:Nat} (h:i<l.length):enterA p q (l.drop i)=enterA p (enter1 p q (l.getD i default)) (l.drop (i+1)):=by rw[B_ h];rfl
def SE {p q:A_} {l:List HO} {i:Nat} (h:l.length<=i):enterA p q (l.drop i)=q:=by rw[cx h];rfl
def Yi (l:List ByteArray):∀ g:List ByteArray,(addL g l).length<=max g.length 40:=by
 induction l with
 | nil=>intro g;rw[I2];omega
 | cons x l ih=>
  intro g;rw[addL];grind
def okEnt (p:A_) (a:HO):Prop:=Au p<=1000000000000/\okVis p a [] []/\szAddr a<=1000000000000/\szB p.ba<=20000000000/\U AD p.bf<=40000000000/\okBod p
def entInv (p:A_) (a:HO) (q:A_) (i:Int):Prop:=0<=i/\i<=(rea p a).length/\enterA p q ((rea p a).drop i.toNat)=enterA p p (rea p a)/\q={ p with ran:=q.ran,ba:=q.ba,log:=q.log }/\bpot q.ba<=bpot p.ba/\q.ran.length<=p.ran.length+i.toNat/\q.log.length<=max p.log.length 40
def logInv (q1:A_) (g:List ByteArray) (q:A_) (k:Int):Prop:=0<=k/\k<=g.length/\q={ q1 with log:=q.log }/\addL q.log (g.drop k.toNat)=addL q1.log g
def Agj (q:A_) (g:List ByteArray):logInv q g q 0:=⟨O,O,rfl,rfl⟩
def Adm {q1 q:A_} {g:List ByteArray} {k:Int} (h:logInv q1 g q k) (hk:k<g.length):logInv q1 g (say q (g.getD k.toNat default)) (k+1):=by
 obtain⟨h1,h2,h3,h4⟩:=h;rw[Sk O] at h4;refine⟨O,O,?_,?_⟩
 .unfold say;grind
 .rw[show(k+1).toNat=k.toNat+1 from O];unfold say;split
  .grind
  .rename_i hc;rw[F_ hc] at h4;rw[Jx hc];exact h4
def Yp {q1 q:A_} {g:List ByteArray} {k:Int} (h:logInv q1 g q k) (hk:¬ k<g.length):q={ q1 with log:=addL q1.log g }:=by
 obtain⟨h1,h2,h3,h4⟩:=h;rw[OO O] at h4;rw[<-h4];exact h3
def R2 {p:A_} {x:HO} (h:(impo p x).2=true):0<=findM p.bi x:=by
 unfold impo at h;grind
def Pq {p:A_} {a x:HO} (h:gra p a=false) (hx:x∈rea p a):0<=findM p.bi x:=by
 unfold gra at h;rw[List.any_eq_false] at h;have:=h x hx;refine R2 ?_;simp_all
def Afk (p:A_) (a:HO):entInv p a p 0:=⟨O,O,rfl,rfl,X_ _,X_ _,Nat.le_max_left _ _⟩
def Nd {p q:A_} {a:HO} {i:Int} (h:entInv p a q i):q.bi=p.bi/\q.bf=p.bf:=by
 have e:=h.2.2.2.1;grind
def Ack {p q:A_} {a:HO} {i:Int} (h:entInv p a q i) (hp:okEnt p a):q.ran.length<=1200000000000/\szB q.ba<=30000000000/\U ET (she p.bf)<=80000000000/\okSh (she p.bf)/\U AD p.bf<=40000000000/\(rea p a).length<=100000000001/\p.bi.length<=1000000000000:=by
 obtain⟨h1,h2,h3,h4,h5,h6,h7⟩:=h;obtain⟨p1,⟨q1,q2,q3,q4,q5⟩,p3,p4,p5,p6⟩:=hp;have hl:=NK (a:=a) q4;have hs:=F7 p.bf;have hpp:=H1 p;have hr:=Ac szAddr p.ran;have hm:=Ac AA p.bi;have hb:szB q.ba<=bpot q.ba:=bN _ _;have hb2:bpot p.ba<=szB p.ba+400:=by unfold bpot;omega
 grind
def Sv {p q:A_} {a:HO} {i:Int} (h:entInv p a q i) (hi:i<(rea p a).length):entInv p a (enter1 p q ((rea p a).getD i.toNat default)) (i+1):=by
 obtain⟨h1,h2,h3,h4,h5,h6,h7⟩:=h;rw[U6 O] at h3;refine⟨O,O,by rw[show(i+1).toNat=i.toNat+1 from O];exact h3,?_,?_,?_,?_⟩
 .unfold enter1;grind
 .unfold enter1;split
  .exact h5
  .exact aP (RJ _ _ _) h5
 .unfold enter1;grind
 .unfold enter1;split
  .exact h7
  .have:=Yi (entRun p q ((rea p a).getD i.toNat default)).2.2 q.log;grind
def X7 (p q:A_) (b:HO):runS q.ba (she p.bf) (parseM (p.bi.getD (findM p.bi b).toNat default).body b.host).2.1=entRun p q b:=rfl
def Zg (a:HO):(form a).size<=szAddr a+1:=by
 unfold form;split
 .rw[aQ,aQ];simp only[szAddr,show ByteArray.size ⟨#[47]⟩=1 from rfl];omega
 .exact Nat.zero_le _
abbrev W8:Fct:=⟨[.v (.el .page),.v (.el .addr)],[.el .page],λ(x:bE)=>okEnt x.1 x.2.1,λ(x:bE)=>(enter x.1 x.2.1,())⟩
abbrev D9 (p:A_) (a:HO):LInv:=⟨[⟨.b,5,true,.el .page⟩,⟨.s,7,true,.el .int⟩,⟨.b,4,true,.el .page⟩,⟨.s,6,true,.sl .addr⟩],λ(z x:ce)=>((entInv p a x.1 x.2.1)/\x.2.2.1=z.2.2.1)/\x.2.2.2.1=z.2.2.2.1,λ(x:ce)=>(rea p a).length-x.2.1.toNat⟩
abbrev Ds (p:A_) (a:HO):LInv:=⟨[⟨.b,5,true,.el .page⟩,⟨.s,14,true,.el .int⟩,⟨.s,13,true,.sl .str⟩,⟨.s,6,true,.sl .addr⟩,⟨.b,4,true,.el .page⟩],λ(z x:dR)=>(x.2.2.1=z.2.2.1/\x.2.2.2.1=z.2.2.2.1/\logInv z.1 z.2.2.1 x.1 x.2.1)/\x.2.2.2.2.1=z.2.2.2.2.1,λ(x:dR)=>x.2.2.1.length-x.2.1.toNat⟩
def ApD:=Aos.a W8<|Fct.p (KP [2,3,4,5,6,7,9,11,13,14] [19,31,40,86]) (λ⟨p,a,_⟩=>λ|6=>some (D9 p a)|14=>some (Ds p a)|_=>none) Aos.2 func116 (by
 rintro⟨(p:A_),(a:HO),_⟩ hp;refine ho (let H_:=(⟨#[102,97,105,108,32]⟩:ByteArray);.cl Be (p,()) λz2=>.cl Hv (p,a,()) λz3=>.br (z3.1) (.cl Hu (a,()) λz4=>.ob (sameSize H_ z4.1)<|.ob (Aew.pre (z2.1,H_++z4.1,()))<|.lt _ (Aew.fn (z2.1,H_++z4.1,())) λz5=>.lf W8 (z5.1.1,())) (.cl J2 (p,a,()) λz6=>lpx (D9 p a) (z2.1,((0:Int),(default,(z6.1,())))) λ(y7:ce) bk7=>let J_:=({y7.1 with ran:=y7.1.ran++[y7.2.2.2.1.getD y7.2.1.toNat default]}:A_);.br (decide (y7.2.1<(y7.2.2.2.1.length:Int))) (.ix y7.2.1 y7.2.2.2.1.length<|.cl Gw (y7.1.ran,y7.2.2.2.1.getD y7.2.1.toNat default,()) λz7=>.br (z7.1) (.bk (bk7 (y7.1,(w1 y7.2.1,(y7.2.2.1,(y7.2.2.2.1,())))))) (.ix y7.2.1 y7.2.2.2.1.length<|.ap (y7.1.ran.length+[y7.2.2.2.1.getD y7.2.1.toNat default].length) 32<|.ix y7.2.1 y7.2.2.2.1.length<|.cl LO (J_,y7.2.2.2.1.getD y7.2.1.toNat default,()) λ(z8:D_)=>.ix z8.1 y7.1.bi.length<|.ix y7.2.1 y7.2.2.2.1.length<|.cl Fl ((y7.1.bi.getD z8.1.toNat default).body,(y7.2.2.2.1.getD y7.2.1.toNat default).host,()) λz9=>.cl KC (J_,()) λz10=>.cl IZ (y7.1.ba,z10.1,z9.2.1,()) λz11=>lpx (Ds p a) (({y7.1 with ba:=z11.1,ran:=y7.1.ran++[y7.2.2.2.1.getD y7.2.1.toNat default]}:A_),((0:Int),(z11.2.2.1,(y7.2.2.2.1,(y7.2.2.1,()))))) λ(y27:dR) bk27=>.br (decide (y27.2.1<(y27.2.2.1.length:Int))) (.ix y27.2.1 y27.2.2.1.length<|.ob (Aew.pre (y27.1,y27.2.2.1.getD y27.2.1.toNat default,()))<|.lt _ (Aew.fn (y27.1,y27.2.2.1.getD y27.2.1.toNat default,())) λz12=>.re (Value.int IntKind.i64 y7.2.1)<|.bk (bk27 (z12.1.1,(w1 y27.2.1,(y27.2.2.1,(y27.2.2.2.1,(y27.2.2.2.2.1,()))))))) (.bk (bk7 (y27.1,(w1 y7.2.1,(y27.2.2.2.2.1,(y27.2.2.2.1,())))))))) (.lf W8 (y7.1,())))) ?_;refine Ai ?_ λ_=>(Ai ?_ λ_=>Z (λh3=>Ai ?_ λ_=>Ad ?_ λ_=>Ad trivial λ_=>K6 (Y ?_)) λh3=>Ai ?_ λ_=>Ay ?_ λ(y7:ce) i7=>Z (λh8=>Ey ?_ λo9 o10=>Ai ?_ λ_=>Z (λh12=>AR ?_) λh12=>Ey ?_ λo14 o15=>FB ?_ λ_=>Ey ?_ λo17 o18=>Ai ?_ λ_=>Ey ?_ λo20 o21=>Ey ?_ λo22 o23=>Ai ?_ λ_=>Ai ?_ λ_=>Ai ?_ λ_=>Ay ?_ λ(y27:dR) i27=>Z (λh28=>Ey ?_ λo29 o30=>Ad trivial λ_=>K6 (Al<|AR ?_)) λh28=>AR ?_) λh8=>Y ?_)<;>have hq:okEnt p a:=hp<;>obtain⟨p1,p2,p3,p4,p5,p6⟩:=(show okEnt p a from hp)<;>(have hfa:=Zg a;try simp only[std,Nat.reduceAdd,Tj,Adz] at *)<;>(first|trivial|omega|exact p2|(unfold sameSize;rw[show ByteArray.size ⟨#[102,97,105,108,32]⟩=5 from rfl];omega)|exact Afk p a|(unfold enter;rw[G_ ‹_›])|skip)<;>(obtain⟨⟨i1,e1⟩,e2⟩:=i7;have em:=(Nd i1).1;have es:=(Nd i1).2;have i0:=i1.1;have iz:=Ack i1 hq)<;>(try simp only[e2,em,es,X7] at *)<;>(first|trivial|omega|skip)<;>(try have hmem:=Ae (l:=rea p a) (i:=y7.2.1.toNat) O;have hfnd:=Pq ‹_› hmem;have hfi:=BL p.bi ((rea p a).getD y7.2.1.toNat default))<;>(first|exact⟨hfnd,hfi.1⟩|exact⟨O,p6⟩|exact⟨p2.2.1 _ O,OV hmem p2.2.2.1⟩|exact⟨O,O,aP (Nw p _).1 (by decide),iz.2.2.2.1⟩|exact Agj _ _|(rw[AE O];have e:=Sv i1 O;unfold enter1 at e;rw[G_ ‹_›] at e;exact⟨⟨⟨e,e1⟩,trivial⟩,O⟩)|(unfold enter;rw[F_ (by intro q;exact tf q ‹_›)];have e:=i1.2.2.1;rw[SE O] at e;exact e)|skip)<;>(obtain⟨⟨j1,j2,j3⟩,j4⟩:=i27;simp only[j1,j2,j4] at *;have j0:=j3.1;have hgl:=aP (RF y7.1.ba (she p.bf) (entL p ((rea p a).getD y7.2.1.toNat default))) (Nw p _).2;rw[show runS y7.1.ba (she p.bf) (entL p ((rea p a).getD y7.2.1.toNat default))=entRun p y7.1 ((rea p a).getD y7.2.1.toNat default) from rfl] at hgl)<;>(first|exact⟨j0,‹_›⟩|(rw[AE O];simp only[and_true,true_and];exact⟨Adm j3 ‹_›,O⟩)|skip)<;>(have e:=Yp j3 O;have em2:=Nd i1;have e5:y27.1=enter1 p y7.1 ((rea p a).getD y7.2.1.toNat default):=by rw[e];unfold enter1;rw[F_ (by intro q;exact tf q ‹_›)];simp only[em2.1,em2.2])<;>rw[AE O,e5]<;>exact⟨⟨⟨Sv i1 O,by first|trivial|assumption⟩,by first|trivial|assumption⟩,O⟩)
def Ahk (g:Z_->Bool):∀ l:List Z_,wtL g l<=U AA l
 | []=>X_ _
 | m::l=>by have:=Ahk g l;rw[wtL,Ah];split<;>simp only[AA]<;>omega
def Aql (p:A_):totV p []<=U AA p.bi:=by
 unfold totV;rw[Tg,bz,cM];exact Ahk _ _
def okTail (p:A_):Prop:=okParse p/\okMb p/\U AA p.bi<=50000000000/\∀ i,i<p.bh.length->(p.bh.getD i default).host.size<=4000000000
def XS {p:A_} (h:okTail p) {i:Nat} (hi:i<p.bh.length):okEnt p (p.bh.getD i default):=by
 obtain⟨⟨⟨h1,h1a,h1b,h1c,h1e⟩,h1d,h1f⟩,h2,h2a,h3⟩:=h;have hpp:=H1 p;have ht:=Aql p;have hm:=Ac AA p.bi;have ha:=Cy szAddr hi;exact⟨h1,⟨O,h2,h3 i hi,O,X_ _⟩,O,by unfold szB;omega,h1d,h1f⟩
def defS (p:A_):av:=p.bf.getD ((defe p).getD p.bo.toNat default).toNat default
def entN (p:A_):HO:=p.bh.getD p.bu.toNat default
def tai (p:A_):A_×Bool :=
 if(defS p).done=false\/sty p.bf=false then(p,false)
 else if(defS p).code=1 then({ runC p (defS p).body false with bo:=p.bo+1 },true)
 else({ p with bo:=p.bo+1 },true)
def tailE (p:A_):A_×Bool :=
 if grap p (entN p)=false\/sty p.bf=false then(p,false)
 else({ enter p (entN p) with bu:=p.bu+1 },true)
def stepT (p:A_):A_×Bool :=
 if isParsed p=false\/p.loaded=true\/p.bo<0\/p.bu<0 then(p,false)
 else if p.bo<(defe p).length then tai p
 else if p.bu<p.bh.length then tailE p
 else if 0<(openSl p).length\/0<(openM p).length then(p,false)
 else({ say p ⟨#[108,111,97,100]⟩ with loaded:=true },true)
def OL (p:A_) (h:0<=p.bo) (h2:p.bo<(defe p).length):0<=(defe p).getD p.bo.toNat default/\(defe p).getD p.bo.toNat default<p.bf.length:=by
 have hm:=Ae (l:=defe p) (i:=p.bo.toNat) O;have:=DT (λs:av=>decide (s.mode=4)) p.bf 0 _ hm;omega
def Ug (p:A_):p.bf.getD ((defe p).getD p.bo.toNat default).toNat default=defS p:=rfl
def Yz (p:A_):p.bh.getD p.bu.toNat default=entN p:=rfl
abbrev F1:Fct:=⟨[.v (.el .page)],[.el .page,.el .bool],λ(x:ae)=>okTail x.1,λ(x:ae)=>((stepT x.1).1,(stepT x.1).2,())⟩
def ApC:=ApD.a F1<|Fct.o (KP [1,2,3,4,5,6,7] [26,34,51,59,78,93,112]) ApD.2 func64 (by
 rintro⟨(p:A_),_⟩ hp;refine ho (let O_:=(⟨#[108,111,97,100]⟩:ByteArray);.cl Be (p,()) λz2=>let H_:Out:=.lf F1 (z2.1,false,());.cl Hb (p,()) λz3=>.br (!z3.1) H_ (.br (p.loaded) H_ (.br (decide (p.bo<0)) H_ (.br (decide (p.bu<0)) H_ (.cl GP (p,()) λ(z4:ak)=>let L_:=p.bf.getD (z4.1.getD p.bo.toNat default).toNat default;let J_:=0<=z4.1.getD p.bo.toNat default/\z4.1.getD p.bo.toNat default<(p.bf.length:Int);.br (decide (p.bo<(z4.1.length:Int))) (.ix p.bo z4.1.length<|.ob J_<|.br (!L_.done) H_ (.cl Da (p,()) λz5=>.br (!z5.1) H_ (.ob J_<|.br (L_.code==1) (.ob J_<|.cl GA (p,L_.body,false,()) λz6=>.lf F1 ({z6.1 with bo:=w1 p.bo},true,())) (.lf F1 ({z2.1 with bo:=w1 p.bo},true,()))))) (.br (decide (p.bu<(p.bh.length:Int))) (.ob (inB p.bu p.bh.length)<|.cl Ga (p,p.bh.getD p.bu.toNat default,()) λz7=>.br (!z7.1) H_ (.cl Da (p,()) λz8=>.br (!z8.1) H_ (.cl W8 (p,p.bh.getD p.bu.toNat default,()) λz9=>.lf F1 ({z9.1 with bu:=w1 p.bu},true,())))) (.cl IH (p,()) λ(z10:ak)=>.br (decide ((z10.1.length:Int)>0)) H_ (.cl Kl (p,()) λ(z11:ak)=>.br (decide ((z11.1.length:Int)>0)) H_ (.ob (Aew.pre (z2.1,O_,()))<|.lt _ (Aew.fn (z2.1,O_,())) λz12=>.lf F1 ({z12.1.1 with loaded:=true},true,())))))))))) ?_;refine Ai ?_ λ_=>(Ai trivial λ_=>Z (λh2=>Y ?_) λh2=>Z (λh3=>Y ?_) λh3=>Z (λh4=>Y ?_) λh4=>Z (λh5=>Y ?_) λh5=>Ai ?_ λ_=>Z (λh7=>Ey ?_ λo8 o9=>Ad ?_ λ_=>Z (λh11=>Y ?_) λh11=>Ai ?_ λ_=>Z (λh13=>Y ?_) λh13=>Ad ?_ λ_=>Z (λh15=>Ad ?_ λ_=>Ai ?_ λ_=>Y ?_) λh15=>Y ?_) λh7=>Z (λh18=>Ad ?_ λ_=>Ai ?_ λ_=>Z (λh21=>Y ?_) λh21=>Ai ?_ λ_=>Z (λh23=>Y ?_) λh23=>Ai ?_ λ_=>Y ?_) λh18=>Ai ?_ λ_=>Z (λh26=>Y ?_) λh26=>Ai ?_ λ_=>Z (λh28=>Y ?_) λh28=>Ad trivial λ_=>K6 (Y ?_))<;>have hq:okTail p:=hp<;>obtain⟨⟨⟨hp1,hp2,hp3,hp4,hp9⟩,hp8,hp5⟩,hp6,hp10,hp7⟩:=(show okTail p from hp)<;>(have hbb:szB p.ba<=2000000000:=by(unfold szB;omega))<;>(have hpp:=H1 p;have hsl:=Ac AD p.bf;have hml:=Ac AA p.bi;have hel:=Ac szAddr p.bh;have hdl:(defe p).length<=p.bf.length:=DJ _ _ _;try simp only[WJ] at *)<;>(try simp only[std,Nat.reduceAdd,Ug,Yz] at *)<;>(first|trivial|omega|skip)<;>have hds:0<=p.bo->p.bo<(defe p).length->(defS p).body.size<=4200000000:=λa b=>hp5 _ (by have:=OL p a b;omega)<;>have hes:0<=p.bu->p.bu<p.bh.length->okEnt p (entN p):=λa b=>XS hq O<;>(first|exact OL p ‹_› ‹_›|exact⟨hp1,O,O,hds ‹_› ‹_›,hp5⟩|exact hes ‹_› ‹_›|exact(hes ‹_› ‹_›).2.1|skip)<;>unfold stepT<;>(repeat first|rw[G_ (by first|assumption|omega|exact .inl ‹_›|exact .inr ‹_›|exact .inr (.inl ‹_›)|exact .inr (.inr (.inl O))|exact .inr (.inr (.inr O))|exact .inl O|exact .inr O)]|rw[F_ (by first|omega|(rintro(q|q|q|q)<;>first|omega|exact tf ‹_› q|exact tf q ‹_›)|(rintro(q|q)<;>first|omega|exact tf ‹_› q))]|unfold tai|unfold tailE)<;>(first|exact⟨rfl,rfl⟩|(rw[AE O];exact⟨rfl,rfl⟩)))
def undS:List av->Nat
 | []=>0
 | s::l=>(if s.done=true then 0 else 1)+undS l
def undM:List Z_->Nat
 | []=>0
 | m::l=>(if m.done=true then 0 else 1)+undM l
def nrL (r:List HO):List Z_->Nat
 | []=>0
 | m::l=>(if inL r m.to=true then 0 else szAddr m.to+1)+nrL r l
def Mm:∀ l k:List av,undS (l++k)=undS l+undS k
 | [],k=>(cM _).symm
 | s::l,k=>by rw[cy,undS,undS,Mm l k];omega
def Mx:∀ l k:List Z_,undM (l++k)=undM l+undM k
 | [],k=>(cM _).symm
 | s::l,k=>by rw[cy,undM,undM,Mx l k];omega
def PK (r:List HO):∀ l k:List Z_,nrL r (l++k)=nrL r l+nrL r k
 | [],k=>(cM _).symm
 | s::l,k=>by rw[cy,nrL,nrL,PK r l k];omega
def Xt (r:List HO) (b:HO):∀ l:List Z_,nrL (r++[b]) l<=nrL r l
 | []=>X_ _
 | m::l=>by
  have:=Xt r b l;rw[nrL,nrL,JI];cases inL r m.to with
  | true=>rw[Bool.true_or,G_ rfl];omega
  | false=>
   rw[Bool.false_or,F_ (show ¬ false=true by decide)];split<;>omega
def Wz (r:List HO) (b:HO) (hb:inL r b=false):∀ (l:List Z_) (i:Nat),i<l.length->(l.getD i default).to=b->nrL (r++[b]) l+szAddr b+1<=nrL r l
 | [],i,h,_=>absurd h (Nat.not_lt_zero _)
 | m::l,0,_,he=>by
  have he:m.to=b:=he;have:=Xt r b l;rw[nrL,nrL,he,JI,hb,Ul,cP rfl,Bool.false_or,G_ rfl,F_ (by decide)];omega
 | m::l,i+1,h,he=>by
  have ih:=Wz r b hb l i (by simpa using h) he;rw[nrL,nrL,JI];cases inL r m.to with
  | true=>rw[Bool.true_or,G_ rfl];omega
  | false=>
   rw[Bool.false_or,F_ (show ¬ false=true by decide)];split<;>omega
def nodeP (b:am):Nat:=U AS b.bj+4000010*(40-b.bj.length)
def openP (b:am):Nat:=b.bn.length+(40-b.bj.length)
def slotP (l:List av):Nat:=U AD l+400*undS l+500000800*(20-l.length)
def entP (l:List HO):Nat:=U szAddr l+100*(20-l.length)
def modP (l:List Z_) (n:Nat):Nat:=U AA l+500*undM l+600*(20-n)
def logP (l:List ByteArray):Nat:=U Ag l+200*(40-l.length)
def ranP (l:List Z_) (r:List HO) (n:Nat):Nat:=U szAddr r+nrL r l+100*(20-n)
def okQ (q:List ai) (Q:Nat):Prop:=(∀ t,t∈q->szT t<=4000000)/\U szT q<=Q
def okB (b:am):Prop:=nodeP b<=200000000/\openP b<=3000000
def okS (l:List av):Prop:=slotP l<=13000000000/\∀ s,s∈l->s.body.size<=2000000
def okE (l:List Z_) (e r:List HO) (M R:Nat):Prop:=entP e<=3000000/\modP l e.length<=M/\ranP l r e.length<=R/\∀ m,m∈l->m.body.size<=2000000
def okLg (g:List ByteArray):Prop:=logP g<=3000000
def okCm (p:A_):Prop:=AG p.bm+szAddr p.addr<=4000000/\p.tok.rest.size<=4000000
def okAl (p:A_) (Q M R:Nat):Prop:=okQ p.bp Q/\okB p.ba/\okS p.bf/\okE p.bi p.bh p.ran M R/\okLg p.log/\okCm p
def PS {q:List ai} {Q Q':Nat} (h:okQ q Q) (hq:Q<=Q'):okQ q Q':=⟨h.1,aP h.2 hq⟩
def ER {p:A_} {Q Q' M R:Nat} (h:okAl p Q M R) (hq:Q<=Q'):okAl p Q' M R:=⟨PS h.1 hq,h.2⟩
def Aim {b:am} {t:ai} (h:okB b) (ht:szT t<=4000000):okB (addT b t).1:=by
 obtain⟨h1,h2⟩:=h;unfold addT;split
 .have:=KZ b t.name _ (X_ _);refine⟨h1,?_⟩;unfold openP at *
  show(closeN b t.name b.bn.length).length+(40-b.bj.length)<=_;omega
 .split
  .rename_i hc;have hc:=hc.1;have h0:U AS []=0:=rfl;have h3:U B3 []=0:=rfl;have h4:ByteArray.size ⟨#[]⟩=0:=rfl;split
   .refine⟨?_,?_⟩
    .unfold nodeP at *
     dsimp only;rw[BR,Ah,h0,al,dZ];simp only[AS,szT,h4] at *;omega
    .unfold openP at *
     dsimp only;rw[al,dZ];split
     .omega
     .rw[al,dZ];omega
   .refine⟨?_,?_⟩
    .unfold nodeP at *
     dsimp only;rw[BR,Ah,h0,al,dZ];simp only[AS,szT,h4,h3] at *;omega
    .unfold openP at *
     dsimp only;rw[al,dZ];omega
  .exact⟨h1,h2⟩
def WE {b:am} (l:List bF) (x:bU) (h:okB b):okB (runL b l x).1:=by
 unfold runL;split
 .exact h
 .split
  .dsimp only;split
   .rename_i hc;obtain⟨c1,c2,c3⟩:=hc;obtain⟨h1,h2⟩:=h;have:=Bb c3;have h0:U AS []=0:=rfl;have h3:U B3 []=0:=rfl;have h4:ByteArray.size ⟨#[]⟩=0:=rfl;refine⟨?_,?_⟩
    .unfold nodeP at *
     dsimp only;rw[BR,Ah,h0,al,dZ];simp only[AS,h4,h3] at *;omega
    .unfold openP at *
     dsimp only;rw[al,dZ];omega
   .exact h
  .split
   .exact h
   .split
    .exact h
    .split<;>exact h
def NL (l:List bF):∀ (r:List bU) (b:am) (w:ByteArray) (g:List ByteArray),okB b->okB (runLi l r b w g).1
 | [],b,w,g,h=>h
 | x::r,b,w,g,h=>by rw[runLi];exact NL l r _ _ _ (WE l x h)
def AeP {b:am} {l:List bF} {x:bU} (hl:okSh l) (hb:b.bj.length<=9000000000000000000) (hx:x.text.size<=60):(runL b l x).2.2.size<=199:=by
 have h0:ByteArray.size ⟨#[]⟩=0:=rfl;have hc:=L2 x.text b.bj;have hk:=OU hl x.text;have f1:=NS (n:=countName x.text b.bj) O O;have f2:=NS (n:=colorOf l x.text) hk.1 hk.2;have s1:ByteArray.size ⟨#[99,111,117,110,116,32]⟩=6:=rfl;have s2:ByteArray.size ⟨#[32]⟩=1:=rfl;have s3:ByteArray.size ⟨#[108,111,111,107,32]⟩=5:=rfl;have s4:ByteArray.size ⟨#[115,97,121,32]⟩=4:=rfl;unfold runL;split
 .dsimp only;omega
 .split
  .dsimp only;omega
  .split
   .dsimp only;rw[aQ,aQ,aQ];omega
   .split
    .dsimp only;rw[aQ,aQ,aQ];omega
    .split
     .dsimp only;rw[aQ];omega
     .dsimp only;omega
def Ns (l:List bF) (hl:okSh l):∀ (r:List bU) (b:am) (w:ByteArray) (g:List ByteArray),okB b->(∀ x,x∈r->x.text.size<=60)->(∀ s,s∈g->s.size<=199)->∀ s,s∈(runLi l r b w g).2.2->s.size<=199
 | [],b,w,g,_,_,hg=>hg
 | x::r,b,w,g,hb,hr,hg=>by
  rw[runLi];have hn:b.bj.length<=9000000000000000000:=by have:=Ac AS b.bj;have h1:=hb.1;unfold nodeP at h1;omega
  have hx:=AeP hl hn (hr x dx);refine Ns l hl r _ _ _ (WE l x hb) (λy hy=>hr y (cY _ hy)) λs hs=>?_
  split at hs
  .exact hg s hs
  .rcases ah.1 hs with hs|hs
   .exact hg s hs
   .rw[List.mem_singleton] at hs;rw[hs];exact hx
def NH:∀ (l g:List ByteArray),(∀ s,s∈l->s.size<=199)->okLg g->okLg (addL g l)
 | [],g,_,h=>by rw[I2];exact h
 | x::l,g,hl,h=>by
  rw[addL];split
  .refine NH l _ (λs hs=>hl s (cY _ hs)) ?_;have:=hl x dx;have h0:U Ag []=0:=rfl;unfold okLg logP at *
   rw[BR,Ah,h0,al,dZ];simp only[Ag] at *;omega
  .exact h
def AcX {p:A_} {Q M R:Nat} (h:okAl p Q M R) {s:ByteArray} (hs:s.size<=199):okAl (say p s) Q M R:=by
 obtain⟨h1,h2,h3,h4,h5,h6⟩:=h;have e:=NH [s] p.log (λx hx=>by rw[List.mem_singleton] at hx;rw[hx];exact hs) h5;unfold say;split
 .rename_i hc;rw[addL,G_ hc,I2] at e;exact⟨h1,h2,h3,h4,e,h6⟩
 .exact⟨h1,h2,h3,h4,h5,h6⟩
def Pp (s:ByteArray):∀ x,x∈(parseS s).1->x.text.size<=60:=by
 intro x hx;unfold parseS at hx;split at hx
 .cases hx
 .split at hx
  .rename_i hc;obtain⟨w,hw,rfl⟩:=bM.1 hx;have:=hc.2;rw[allOk8,aM] at this;exact Nm w _ _ (this w hw)
  .cases hx
def Acx {p:A_} {Q M R:Nat} (h:okAl p Q M R) (c:ByteArray) (w:Bool):okAl (runC p c w) (Q+370) M R:=by
 obtain⟨h1,h2,h3,h4,h5,h6⟩:=h;unfold runC;split
 .refine⟨?_,NL _ _ _ _ _ h2,h3,h4,NH _ _ (Ns _ (F7 _).2 _ _ _ _ h2 (Pp c) λs hs=>by cases hs) h5,h6⟩;dsimp only;split
  .have ht:=Jw (rsOf p c).2.1;have hr:=(Acj p c).2.1;refine⟨λt ht2=>?_,?_⟩
   .rcases ah.1 ht2 with q|q
    .have hg:=Iz szT q;omega
    .exact h1.1 t q
   .rw[BR];have:=h1.2;omega
  .exact PS h1 O
 .exact⟨PS h1 O,h2,h3,h4,NH _ _ (λs hs=>by rw[List.mem_singleton] at hs;rw[hs];decide) h5,h6⟩
def FT (s b:ByteArray):szAddr (par s b).1<=16:=by
 unfold par;split
 .rename_i h;rw[T_] at h;have h1:=Bb h.1;have h2:=Bb h.2;simp only[szAddr];omega
 .decide
def XW (p:A_) (m:Int) (to d:ByteArray) (n:Int):AD (newS p m to d n)<=16+d.size/\(newS p m to d n).body.size=0:=by
 have h:=FT to p.addr.host;have h4:ByteArray.size ⟨#[]⟩=0:=rfl;unfold newS;split
 .exact⟨by simp only[raw,AD,h4];omega,h4⟩
 .exact⟨by simp only[AD,h4];omega,h4⟩
def PN {p:A_} {Q M R:Nat} (h:okAl p Q M R) (m:Int) (to d:ByteArray) (n:Int) (hd:d.size<=200000000):okAl (addS p m to d n).1 Q M R:=by
 obtain⟨h1,h2,h3,h4,h5,h6⟩:=h;unfold addS;split
 .rename_i hc;have hn:=XW p m to d n;refine⟨h1,h2,⟨?_,λs hs=>?_⟩,h4,h5,h6⟩
  .have h0:U AD []=0:=rfl;have hu:undS [newS p m to d n]<=1:=by rw[undS,undS];split<;>omega
   have h7:=h3.1;unfold slotP at *
   dsimp only;rw[BR,Ah,h0,Mm,al,dZ];omega
  .rcases ah.1 hs with hs|hs
   .exact h3.2 s hs
   .rw[List.mem_singleton] at hs;rw[hs,hn.2];decide
 .exact⟨h1,h2,h3,h4,h5,h6⟩
def AcZ (p:A_) (a:HO):(newM p a).to=a/\(newM p a).body.size=0:=by
 unfold newM;split<;>exact⟨rfl,rfl⟩
def Aab {J:Type} (f:J->Nat) (l:List J) (i:Nat):U f (l.take i)+U f (l.drop i)=U f l:=by
 rw[<-BR,dc]
def Aac (l:List Z_) (i:Nat):undM (l.take i)+undM (l.drop i)=undM l:=by rw[<-Mx,dc]
def AhK (r:List HO) (l:List Z_) (i:Nat):nrL r (l.take i)+nrL r (l.drop i)=nrL r l:=by rw[<-PK,dc]
def AhF (p:A_) (a:HO):U AA (askM p a).bi<=U AA p.bi+szAddr a+1/\undM (askM p a).bi<=undM p.bi+1/\nrL p.ran (askM p a).bi<=nrL p.ran p.bi+szAddr a+1/\(∀ m,m∈(askM p a).bi->m∈p.bi\/m.body.size=0)/\askM p a={ p with bi:=(askM p a).bi }:=by
 unfold askM;split
 .exact⟨O,O,O,λm h=>.inl h,rfl⟩
 .obtain⟨n1,n2⟩:=AcZ p a;have e1:=Aab AA p.bi (ask a p.bi);have e2:=Aac p.bi (ask a p.bi);have e3:=AhK p.ran p.bi (ask a p.bi);refine⟨?_,?_,?_,λm h=>?_,rfl⟩
  .dsimp only;rw[BR,Ah];simp only[AA,n1,n2] at *;omega
  .dsimp only;rw[Mx,undM];split<;>omega
  .dsimp only;rw[PK,nrL,n1];split<;>omega
  .rcases ah.1 h with h|h
   .exact .inl (fw h)
   .rcases au.1 h with h|h
    .rw[h];exact .inr n2
    .exact .inl (ft h)
def AgG {p:A_} {Q M R:Nat} (h:okAl p Q M R) (to:ByteArray):okAl (addE p to) Q M R:=by
 unfold addE;split
 .rename_i hc;obtain⟨h1,h2,h3,⟨h4,h7,h8,h9⟩,h5,h6⟩:=h;obtain⟨a1,a2,a3,a4,a5⟩:=AhF p (par to p.addr.host).1;have ha:=FT to p.addr.host;have h0:U szAddr []=0:=rfl;rw[a5];refine⟨h1,h2,h3,⟨?_,?_,?_,λm hm=>?_⟩,h5,h6⟩
  .unfold entP at *
   rw[BR,Ah,h0,al,dZ];omega
  .unfold modP at *
   dsimp only;rw[al,dZ];omega
  .unfold ranP at *
   dsimp only;rw[al,dZ];omega
  .rcases a4 m hm with hm|hm
   .exact h9 m hm
   .omega
 .exact h
def Ze {p:A_} {Q M R:Nat} (h:okAl p Q M R) (t:ai) (n:Int) (ht:szT t<=4000000):okAl (ele p t n) Q M R:=by
 have hd:=BB t.bq ⟨#[100,105,103,101,115,116]⟩;have hs:U B3 t.bq<=szT t:=by simp only[szT];omega
 unfold ele;split
 .exact PN h _ _ _ _ O
 .split
  .exact PN h _ _ _ _ O
  .exact h
def AbI {p:A_} {Q M R:Nat} (h:okAl p Q M R) (n:Int):okAl (scri p n) Q M R:=by
 have hd:=BB (p.ba.bj.getD n.toNat default).bq ⟨#[100,105,103,101,115,116]⟩;have hs:U B3 (p.ba.bj.getD n.toNat default).bq<=200000000:=by
  by_cases hn:n.toNat<p.ba.bj.length
  .have:=Pf p.ba.bj n.toNat hn;have h2:=h.2.1.1;unfold nodeP at h2;omega
  .rw[bB,List.getElem?_eq_none O];exact Nat.zero_le _
 unfold scri;split
 .split
  .exact h
  .exact h
 .split
  .exact PN h _ _ _ _ O
  .split
   .exact AgG h _
   .exact PN h _ _ _ _ O
def AeK {p:A_} {Q M R:Nat} (h:okAl p Q M R) (hq:0<p.bp.length):okAl (taken p (p.bp.getD 0 default)) Q M R:=by
 obtain⟨h1,h2,h3,h4,h5,h6⟩:=h;have ht:=h1.1 _ (Ae hq);have hz:=(Ww p hq).2;exact⟨⟨λt hm=>h1.1 t (ft hm),by have:=h1.2;show U szT (p.bp.drop 1)<=Q;omega⟩,Aim h2 ht,h3,h4,h5,h6⟩
def Aju {p:A_} {Q M R:Nat} (h:okAl p Q M R):okAl (takeToke p).1 Q M R:=by
 unfold takeToke;split
 .exact h
 .rename_i hc;have hq:0<p.bp.length:=O
  have ht:=h.1.1 _ (Ae hq);have hk:=AeK h hq;unfold takeT;split
  .exact Ze hk _ _ ht
  .split
   .exact AbI hk _
   .exact hk
def AaV {p:A_} {Q M R:Nat} (h:okAl p Q M R):okAl (stepP p).1 (Q+370) M R:=by
 have hm:=ER h (bN Q 370);unfold stepP;split
 .unfold stepI;split
  .exact Acx h _ _
  .exact hm
 .split
  .unfold stepB;split
   .exact hm
   .split
    .exact hm
    .split
     .exact Acx h _ _
     .exact hm
  .exact Aju hm
def ZR (b:ByteArray):∀ (l:List ByteArray) (acc:List HO),∀ x,x∈(pmGo b l acc).2.1->x.text.size<=60
 | [],acc,x,h=>by cases h
 | w::l,acc,x,h=>by
  rw[pmGo] at h;split at h
  .split at h
   .exact ZR b l _ x h
   .cases h
  .split at h
   .exact Pp _ x h
   .cases h
def Ade {p q:A_} {Q M R:Nat} (h:okAl q Q M R) (he:q.bi=p.bi) (b:HO) (hb:0<=findM p.bi b):okAl (enter1 p q b) Q M R/\(enter1 p q b).bi=p.bi:=by
 unfold enter1;split
 .exact⟨h,he⟩
 .rename_i hn;have hn:inL q.ran b=false:=by simpa using hn
  obtain⟨h1,h2,h3,⟨h4,h7,h8,h9⟩,h5,h6⟩:=h;have hf:=BL p.bi b;have hd:=Wz q.ran b hn p.bi _ (show(findM p.bi b).toNat<p.bi.length from O) (DM hb);have h0:U szAddr []=0:=rfl;refine⟨⟨h1,NL _ _ _ _ _ h2,h3,⟨h4,h7,?_,h9⟩,NH _ _ (Ns _ (F7 _).2 _ _ _ _ h2 (ZR _ _ _) λs hs=>by cases hs) h5,h6⟩,he⟩;unfold ranP at *
  dsimp only;rw[he] at h8 ⊢;rw[BR,Ah,h0];omega
def MO {p:A_} {Q M R:Nat}:∀ (l:List HO) (q:A_),okAl q Q M R->q.bi=p.bi->(∀ b,b∈l->0<=findM p.bi b)->okAl (enterA p q l) Q M R
 | [],q,h,_,_=>h
 | b::l,q,h,he,hb=>by obtain⟨i1,i2⟩:=Ade h he b (hb b dx);exact MO l _ i1 i2 λx hx=>hb x (cY _ hx)
def Uk (a:HO):(form a).size<=17:=by
 unfold form;split
 .rename_i h;rw[T_] at h;have h1:=Bb h.1;have h2:=Bb h.2;rw[aQ,aQ,show ByteArray.size ⟨#[47]⟩=1 from rfl];omega
 .exact Nat.zero_le _
def AfI {p:A_} {Q M R:Nat} (h:okAl p Q M R) (a:HO):okAl (enter p a) Q M R:=by
 unfold enter;split
 .refine AcX h ?_;have:=Uk a;rw[aQ,show ByteArray.size ⟨#[102,97,105,108,32]⟩=5 from rfl];omega
 .rename_i hf;exact MO _ _ h rfl λb hb=>Pq (by simpa using hf) hb
def Ajh {p:A_} {Q M R:Nat} (h:okAl p Q M R):okAl (stepT p).1 (Q+370) M R:=by
 have hm:=ER h (bN Q 370);unfold stepT;split
 .exact hm
 .split
  .unfold tai;split
   .exact hm
   .split
    .exact Acx h _ _
    .exact hm
  .split
   .unfold tailE;split
    .exact hm
    .exact AfI hm _
   .split
    .exact hm
    .exact AcX hm (by decide)
def Pd {p:A_} {Q M R:Nat} (h:okAl p Q M R) (hQ:Q<=900000000000) (hM:M<=50000000000) (hR:R<=20000000000):okTail p:=by
 obtain⟨⟨a1,a2⟩,⟨b1,b2⟩,⟨c1,c2⟩,⟨d1,d2,d3,d4⟩,e1,f1⟩:=h;have hg:logP p.log<=3000000:=e1;have hc:AG p.bm+szAddr p.addr+p.tok.rest.size<=9000000:=by(unfold okCm at f1;omega)
 unfold nodeP at b1;unfold openP at b2;unfold slotP at c1;unfold entP at d1;unfold modP at d2;unfold ranP at d3;unfold logP at hg;have hn:=Ac AS p.ba.bj;have hb:szB p.ba=U AS p.ba.bj+p.ba.bn.length:=rfl;have hh:p.addr.host.size<=szAddr p.addr:=by simp only[szAddr];omega
 refine⟨⟨⟨?_,O,λi hi=>?_,O,O⟩,O,λi hi=>?_⟩,λi hi=>?_,O,λi hi=>?_⟩
 .simp only[Au,EQ];omega
 .have:=a1 _ (Ae hi);omega
 .have:=c2 _ (Ae hi);omega
 .have:=d4 _ (Ae hi);omega
 .have:=Cy szAddr hi;have h3:(p.bh.getD i default).host.size<=szAddr (p.bh.getD i default):=by simp only[szAddr];omega
  omega
def step1 (p:A_):A_×Bool:=if(stepP p).2=true then stepP p else stepT p
def adv:Nat->A_->A_
 | 0,p=>p
 | n+1,p=>if(step1 p).2=true then adv n (step1 p).1 else p
def adva (p:A_):A_:=adv 2000 p
def Aaj {p:A_} (h:(stepP p).2=true):step1 p=stepP p:=by unfold step1;rw[G_ h]
def Uv {p:A_} (h:(stepP p).2=false):step1 p=stepT p:=by unfold step1;rw[F_ (by rw[h];decide)]
def WH {p:A_} {Q M R:Nat} (h:okAl p Q M R):okAl (step1 p).1 (Q+370) M R:=by
 unfold step1;split
 .exact AaV h
 .exact Ajh h
def AhW {M R:Nat}:∀ (n:Nat) (p:A_) (Q:Nat),okAl p Q M R->okAl (adv n p) (Q+370*n) M R
 | 0,p,Q,h=>h
 | n+1,p,Q,h=>by
  rw[adv];split
  .have:=AhW n _ _ (WH h);rw[show Q+370+370*n=Q+370*(n+1) from O] at this;exact this
  .exact ER h O
def Pu {p:A_} {Q M R:Nat} (h:okAl p Q M R):okAl (adva p) (Q+740000) M R:=AhW 2000 p Q h
def okAdv (p:A_):Prop:=∃ Q M R,okAl p Q M R/\Q<=899000000000/\M<=50000000000/\R<=20000000000
def advInv (p q:A_) (i:Int):Prop:=0<=i/\i<=2000/\adv (2000-i.toNat) q=adva p/\∃ Q M R,okAl q (Q+370*i.toNat) M R/\Q<=899000000000/\M<=50000000000/\R<=20000000000
def Q4 {p:A_} (h:okAdv p):advInv p p 0:=by
 obtain⟨Q,M,R,h1,h2⟩:=h;exact⟨O,O,rfl,Q,M,R,h1,h2⟩
def Nb {p q:A_} {i:Int} (h:advInv p q i):okTail q:=by
 obtain⟨h1,h2,_,Q,M,R,h3,h4,h5,h6⟩:=h;exact Pd h3 O h5 h6
def Tx {p q:A_} {i:Int} (h:advInv p q i) (hi:i<2000) (hs:(step1 q).2=true):advInv p (step1 q).1 (i+1):=by
 obtain⟨h1,h2,h0,Q,M,R,h3,h4⟩:=h;rw[show 2000-i.toNat=(2000-(i+1).toNat)+1 from O,adv,G_ hs] at h0;refine⟨O,O,h0,Q,M,R,?_,h4⟩;have:=WH h3;rw[show Q+370*i.toNat+370=Q+370*(i+1).toNat from O] at this;exact this
def MG {p q:A_} {i:Int} (h:advInv p q i) (hs:i<2000->(step1 q).2=false):q=adva p:=by
 obtain⟨h1,h2,h0,_⟩:=h;rcases Nat.eq_zero_or_pos (2000-i.toNat) with hz|hz
 .rw[hz] at h0;exact h0
 .obtain⟨n,hn⟩:∃ n,2000-i.toNat=n+1:=⟨2000-i.toNat-1,O⟩;rw[hn,adv,F_ (by rw[hs O];decide)] at h0;exact h0
abbrev GM:Fct:=⟨[.v (.el .page)],[.el .page],λ(x:ae)=>okAdv x.1,λ(x:ae)=>(adva x.1,())⟩
abbrev Dw (p:A_):LInv:=⟨[⟨.b,3,true,.el .page⟩,⟨.s,4,true,.el .int⟩,⟨.b,2,true,.el .page⟩],λ(z x:dS)=>(advInv p x.1 x.2.1)/\x.2.2.1=z.2.2.1,λ(x:dS)=>(2000-x.2.1).toNat⟩
def Ao9:=ApC.a GM<|Fct.p (KP [1,2,3,4,5,6] [10,19,26]) (λ⟨p,_⟩=>lv [(3,Dw p)]) ApC.2 func27 (by
 rintro⟨(p:A_),_⟩ hp;refine ho (.cl Be (p,()) λz2=>lpx (Dw p) (z2.1,((0:Int),(default,()))) λ(y2:dS) bk2=>.br (decide (y2.2.1<2000)) (.cl Dd (y2.1,()) λz3=>.br (!z3.2.1) (.cl F1 (y2.1,()) λz4=>.br (!z4.2.1) (.lf GM (y2.1,())) (.bk (bk2 (z4.1,(w1 y2.2.1,(y2.2.2.1,())))))) (.br (!z3.2.1) (.lf GM (y2.1,())) (.bk (bk2 (z3.1,(w1 y2.2.1,(y2.2.2.1,()))))))) (.lf GM (y2.1,()))) ?_;refine Ai ?_ λ_=>(Ay ?_ λ(y2:dS) i2=>Z (λh3=>Ai ?_ λ_=>Z (λh5=>Ai ?_ λ_=>Z (λh7=>Y ?_) λh7=>AR ?_) λh5=>Z (λh9=>Y ?_) λh9=>AR ?_) λh3=>Y ?_)<;>(have hq:okAdv p:=hp;have h0:=(Nb (Q4 hq)).1.1.1;try simp only[std,Nat.reduceAdd] at *)<;>(first|trivial|omega|skip)<;>(first|exact Q4 hq|exact⟨Q4 hq,rfl⟩|(obtain⟨i3,e1⟩:=i2;have ht:=Nb i3))<;>(first|exact ht|exact ht.1|exact(tf ‹_› ‹_›).elim|skip)<;>(first|exact MG i3 (λh=>absurd h O)|exact MG i3 (λ_=>by rw[Uv ‹_›];assumption)|skip)<;>rw[AE (by have:=i3.1;omega)]<;>(first|(have e:=Tx i3 ‹_› (by rw[Uv ‹_›];assumption);rw[Uv ‹_›] at e;exact⟨⟨e,e1⟩,O⟩)|(have e:=Tx i3 ‹_› (by rw[Aaj ‹_›];assumption);rw[Aaj ‹_›] at e;exact⟨⟨e,e1⟩,O⟩)))
def arr (l:N_):A_:=if l.parts.length=1 then endPage (arriveT l.page (l.parts.getD 0 default)) else arriveT l.page (l.parts.getD 0 default)
def arri (l:N_):N_×Bool:=if l.parts.length=0 then(l,false) else({ l with parts:=l.parts.drop 1,page:=adva (arr l)},true)
def Ahg:∀ l:List av,undS l<=l.length
 | []=>X_ _
 | s::l=>by have:=Ahg l;rw[undS,aw];split<;>omega
def AbE:∀ l:List Z_,undM l<=l.length
 | []=>X_ _
 | s::l=>by have:=AbE l;rw[undM,aw];split<;>omega
def Ahe (r:List HO):∀ l:List Z_,nrL r l<=U AA l
 | []=>X_ _
 | s::l=>by have:=Ahe r l;rw[nrL,Ah];split<;>simp only[AA]<;>omega
def Vi {p:A_} (h:Au p<=2000000):okAl p 2000000 1100000000 10000000:=by
 have h1:=Ac AD p.bf;have h2:=Ac AA p.bi;have h3:=Ahg p.bf;have h4:=AbE p.bi;have h5:=Ahe p.ran p.bi;have h6:=Ac AS p.ba.bj;simp only[Au,EQ,szB] at h;refine⟨⟨λt ht=>?_,O⟩,⟨?_,?_⟩,⟨?_,λs hs=>?_⟩,⟨?_,?_,?_,λm hm=>?_⟩,?_,?_⟩
 .have:=Iz szT ht;omega
 .unfold nodeP;omega
 .unfold openP;omega
 .unfold slotP;omega
 .have:=Iz AD hs;simp only[AD] at this;omega
 .unfold entP;omega
 .unfold modP;omega
 .unfold ranP;omega
 .have:=Iz AA hm;simp only[AA] at this;omega
 .unfold okLg logP;omega
 .unfold okCm;omega
def So {p:A_} {Q M R:Nat} {s:ByteArray} (h:okAl p Q M R) (hs:p.tok.rest.size+s.size<=3000000):okAl (arriveT p s) (Q+3000001) M R/\(arriveT p s).tok.rest.size<=p.tok.rest.size+s.size+1:=by
 unfold arriveT;split
 .exact⟨ER h O,O⟩
 .obtain⟨h1,h2,h3,h4,h5,h6⟩:=h;have hz:=KH (p.tok.rest++s);rw[aQ] at hz;refine⟨⟨⟨λt ht=>?_,?_⟩,h2,h3,h4,h5,?_⟩,?_⟩
  .rcases ah.1 ht with q|q
   .exact h1.1 t q
   .have:=Iz szT q;omega
  .dsimp only;rw[BR];have:=h1.2;omega
  .unfold okCm at *;dsimp only;omega
  .dsimp only;omega
def Ahq {p:A_} {Q M R:Nat} (h:okAl p Q M R) (hs:p.tok.rest.size<=3000010):okAl (endPage p) (Q+3000020) M R/\(endPage p).tok.rest.size<=p.tok.rest.size:=by
 unfold endPage;split
 .exact⟨ER h O,X_ _⟩
 .obtain⟨h1,h2,h3,h4,h5,h6⟩:=h;have hz:=OY p.tok.rest;have h0:(default:dv).rest.size=0:=rfl;refine⟨⟨⟨λt ht=>?_,?_⟩,h2,h3,h4,h5,?_⟩,?_⟩
  .rcases ah.1 ht with q|q
   .exact h1.1 t q
   .have:=Iz szT q;omega
  .dsimp only;rw[BR];have:=h1.2;omega
  .unfold okCm at *;dsimp only;omega
  .dsimp only;omega
def AhJ {l:N_} {Q M R:Nat} (h:okAl l.page Q M R) (hs:l.page.tok.rest.size+(l.parts.getD 0 default).size<=3000000):okAl (arriveT l.page (l.parts.getD 0 default)) (Q+3000001) M R/\okAl (arr l) (Q+6000021) M R/\(arr l).tok.rest.size<=l.page.tok.rest.size+(l.parts.getD 0 default).size+1:=by
 have h1:=So h hs;unfold arr;split
 .have h2:=Ahq h1.1 O;exact⟨h1.1,ER h2.1 O,O⟩
 .exact⟨h1.1,ER h1.1 O,h1.2⟩
def I5 {p:A_} {Q M R:Nat} (h:okAl p Q M R) (hQ:Q<=900000000000) (hM:M<=50000000000) (hR:R<=20000000000):Au p<=1000000000000:=(Pd h hQ hM hR).1.1.1
def okLd (l:N_):Prop:=∃ Q M R,okAl l.page Q M R/\Q<=890000000000/\M<=50000000000/\R<=20000000000
def okArr (l:N_):Prop:=(szNet l.net<=68719476736/\l.conns.length<=1048576/\l.guesses.length<=4194304)/\l.page.tok.rest.size+U Ag l.parts<=2900000/\okLd l
def Afx {l:N_} (h:okArr l) (hl:l.parts.length≠0):Au l.page<=1000000000000/\l.page.tok.rest.size<=10000000/\(l.parts.getD 0 default).size<=10000000/\Au (arriveT l.page (l.parts.getD 0 default))<=1000000000000/\okAdv (arr l):=by
 obtain⟨h1,h2,Q,M,R,h3,h4,h5,h6⟩:=h;have hg:=Cy Ag (l:=l.parts) (i:=0) O;simp only[Ag] at hg;obtain⟨a1,a2,a3⟩:=AhJ h3 O;exact⟨I5 h3 O h5 h6,O,O,I5 a1 O h5 h6,Q+6000021,M,R,a2,O,h5,h6⟩
def T6 {l:N_} (h:l.parts.length≠0):arri l=({ l with parts:=l.parts.drop 1,page:=adva (arr l)},true):=by unfold arri;rw[F_ h]
def Ag2 {l:N_} (h:l.parts.length=0):arri l=(l,false):=by unfold arri;rw[G_ h]
def Z8 {l:N_} (h:l.parts.length=1):arr l=endPage (arriveT l.page (l.parts.getD 0 default)):=by unfold arr;rw[G_ h]
def AdY {l:N_} (h:l.parts.length≠1):arr l=arriveT l.page (l.parts.getD 0 default):=by unfold arr;rw[F_ h]
def Xo {J:Type} {l:List J}:cut l 1 (l.length-1)=l.drop 1:=by
 unfold cut;rw[cC (by simp)]
abbrev EV:Fct:=⟨[.v (.el .loader)],[.el .loader,.el .bool],λ(x:bR)=>okArr x.1,λ(x:bR)=>((arri x.1).1,(arri x.1).2,())⟩
def Ap7:=Ao9.a EV<|Fct.o (KP [1,2,3,4,5] [11,27]) Ao9.2 func131 (by
 rintro⟨(l:N_),_⟩ hp;refine ho (.cl C8 (l,()) λz2=>.br ((l.parts.length:Int)==0) (.lf EV (z2.1,false,())) (.ob ((0:Int)<=(0:Int)/\(0:Int)<(l.parts.length:Int))<|.cl Gm (l.page,l.parts.getD 0 default,()) λz3=>.ob ((0:Int)<=(1:Int)/\(1:Int)<=(z2.1.parts.length:Int))<|.br ((↑(z2.1.parts.length-1):Int)==0) (.cl JW (z3.1,()) λz4=>.cl GM (z4.1,()) λz5=>.ob (1+(z2.1.parts.length-1)<=z2.1.parts.length)<|.lf EV (⟨z2.1.net,z5.1,cut z2.1.parts 1 (z2.1.parts.length-1),z2.1.conns,z2.1.guesses⟩,true,())) (.cl GM (z3.1,()) λz6=>.ob (1+(z2.1.parts.length-1)<=z2.1.parts.length)<|.lf EV (⟨z2.1.net,z6.1,cut z2.1.parts 1 (z2.1.parts.length-1),z2.1.conns,z2.1.guesses⟩,true,())))) ?_;refine Ai ?_ λ_=>(Z (λh2=>Y ?_) λh2=>Ad ?_ λ_=>Ai ?_ λ_=>Ad ?_ λ_=>Z (λh6=>Ai ?_ λ_=>Ai ?_ λ_=>Ad ?_ λ_=>Y ?_) λh6=>Ai ?_ λ_=>Ad ?_ λ_=>Y ?_)<;>have hq:okArr l:=hp<;>obtain⟨hsz1,hsz2,hsz3⟩:=hq.1<;>(have hpg:Au l.page<=1000000000000:=by(obtain⟨Q,M,R,h1,h2,h3,h4⟩:=hq.2.2;exact I5 h1 O h3 h4))<;>(have hpl:l.parts.length<=2900000:=by(have h1:=hq.2.1;have:=Ac Ag l.parts;omega))<;>(try simp only[std,Nat.reduceAdd] at *)<;>(first|trivial|omega|(rw[Ag2 O];exact⟨rfl,rfl⟩)|(obtain⟨g1,g2,g3,g4,g5⟩:=Afx hq O)|skip)<;>(first|trivial|omega|exact⟨g1,g2,g3⟩|skip)<;>(first|(rw[Z8 O] at g5;first|exact g5|(rw[T6 O,Z8 O,Xo];exact⟨rfl,rfl⟩))|(rw[AdY O] at g5;first|exact g5|(rw[T6 O,AdY O,Xo];exact⟨rfl,rfl⟩))))
def Mq {b:UInt8}:∀ {l p q:List UInt8},GZ b l=some (p,q)->l=p++b::q/\b∉p
 | [],p,q,h=>by cases h
 | x::l,p,q,h=>by
  rw[GZ] at h;split at h
  .rename_i hx;obtain⟨rfl,rfl⟩:=Prod.mk.inj (Option.some.inj h);exact⟨by rw[hx];rfl,by simp⟩
  .rename_i hx;obtain⟨r,hr,he⟩:=Option.map_eq_some_iff.1 h;obtain⟨rfl,rfl⟩:=Prod.mk.inj he;obtain⟨h1,h2⟩:=Mq (p:=r.1) (q:=r.2) hr;refine⟨by rw[h1];rfl,?_⟩;rw[au];rintro(h|h)
   .exact hx h.symm
   .exact h2 h
def hasPre (s p:ByteArray):Bool:=decide (p.size<=s.size/\s.extract 0 p.size=p)
abbrev T5:Fct:=⟨[.v (.el .str),.v (.el .str)],[.el .bool],λ(x:cU)=>x.1.size<=1000000000000/\x.2.1.size<=1000000000000,λ(x:cU)=>(hasPre x.1 x.2.1,())⟩
def ApV:=Ap7.a T5<|Fct.o [0,1,4] Ap7.2 func281 (λ⟨(s:ByteArray),(p:ByteArray),_⟩ hp=>hg (.br (decide ((↑(ByteArray.size s):Int)>=(↑(ByteArray.size p):Int))) (.ob ((0:Int)<=(↑(ByteArray.size p):Int)/\(↑(ByteArray.size p):Int)<=(↑(ByteArray.size s):Int))<|.lf T5 ((ByteArray.extract s 0 (↑(ByteArray.size p):Int).toNat).toList==ByteArray.toList p,())) (.lf T5 (false,()))) (@hasPre.eq_1))
open Go.RowKit Go.Lib Go.Sort in
def mN (w:World) (cap:Nat) (x:Array Value):World :=
 ((w.alloc (.cells (#[.string ⟨#[91]⟩,.string ⟨#[60]⟩,.string ⟨#[93]⟩,.string ⟨#[62]⟩]++x) 9)).alloc (.cells #[.int .u32 0,.int .i32 0,.int .u32 0,.nilIface,.slice (some ⟨w.heap.size,0,none⟩) 4 cap] 0)).drew
def KA (p:aA) (r:ax) (x:M_):(usable p r x).1.size<=400:=by
 unfold usable;split
 .rename_i h;by_cases hi:isResponse x=true
  .unfold isResponse at hi;simp only[T_,az] at hi;exact hi.2.2.1
  .exfalso;unfold checkResponse at h;split at h
   .cases h
   .rw[G_ (.inl (by simpa using hi))] at h;cases h
 .exact Nat.zero_le _
def VH {J:Type} (f:J->J) (m:J) (B:List J):∀ A:List J,(A++m::B).modify A.length f=A++f m::B
 | []=>rfl
 | a::A=>cG (List.cons a) (VH f m B A)
def Ci {J:Type} [Inhabited J] (f:J->J) {l:List J} {i:Nat} (h:i<l.length):l.modify i f=l.take i++f (l.getD i default)::l.drop (i+1):=by
 have e:(l.take i).length=i:=by rw[cZ];omega
 have:=VH f (l.getD i default) (l.drop (i+1)) (l.take i);rw[e,<-B_ h,dc] at this;exact this
def Hk {J:Type} (f g:J->J):∀ (l:List J) (i:Nat),(l.modify i f).modify i g=l.modify i λz=>g (f z)
 | [],0=>rfl
 | [],_+1=>rfl
 | _::_,0=>rfl
 | a::l,i+1=>cG (List.cons a) (Hk f g l i)
def Pv {p:A_} {k:Int} (h0:0<=k) (h:k<p.bf.length):slotRequest p k=reqO p (p.bf.getD k.toNat default):=by unfold slotRequest;rw[G_ ⟨h0,h⟩];rfl
def AkL {p:A_} {k:Int} {x:M_} (h0:0<=k) (h:k<p.bf.length) (hd:(p.bf.getD k.toNat default).done=false):(((p.bf.modify k.toNat λz=>(⟨z.mode,z.to,z.digest,z.node,true,z.code,z.body⟩:av)).modify k.toNat λz=>(⟨z.mode,z.to,z.digest,z.node,z.done,checkResponse p.bm (slotRequest p k) x,z.body⟩:av)).modify k.toNat λz=>(⟨z.mode,z.to,z.digest,z.node,z.done,z.code,(usable p.bm (slotRequest p k) x).1⟩:av))=p.bf.modify k.toNat (fillS p x):=by
 have hi:k.toNat<p.bf.length:=O
 rw[Hk,Hk,Ci _ hi,Ci _ hi,Pv h0 h];unfold fillS;rw[F_ (by rw[hd];decide)]
def Zq {p:A_} {k:Int} {x:M_} (h0:0<=k) (h:k<p.bf.length) (hd:(p.bf.getD k.toNat default).done=true):fillSl p k x=p:=by
 have hi:k.toNat<p.bf.length:=O
 have e:p.bf.modify k.toNat (fillS p x)=p.bf:=by rw[Ci _ hi];unfold fillS;rw[G_ hd,<-B_ hi,dc]
 unfold fillSl;rw[G_ ⟨h0,h⟩,e]
def Anh:=ApV.a J0<|Fct.o (KP [1,3,5,6,7,8] [25]) ApV.2 func126 (by
 rintro⟨(p:A_),(k:Int),(x:M_),_⟩ hp;refine ho (.cl Be (p,()) λz2=>let H_:Out:=.lf J0 (z2.1,());.cl Ap (k,(0:Int),wr ((p.bf.length:Int)-(1:Int)),()) λz3=>.br (!z3.1) H_ (.ob (inB k p.bf.length)<|.br ((p.bf.getD (Int.toNat k) default).done) H_ (.cl Bl (p,k,()) λz4=>.ob (inB k z2.1.bf.length)<|.ob (Int.toNat k<z2.1.bf.length)<|.lt (List av) (z2.1.bf.modify (Int.toNat k) λz=>({z with done:=true}:av)) λz5=>.cl An (p.bm,z4.1,x,()) λ(z6:D_)=>.ob (inB k z5.length)<|.ob (Int.toNat k<z5.length)<|.lt (List av) (z5.modify (Int.toNat k) λz=>({z with code:=z6.1}:av)) λz7=>.cl Cw (p.bm,z4.1,x,()) λz8=>.ob (inB k z7.length)<|.ob (Int.toNat k<z7.length)<|.lt (List av) (z7.modify (Int.toNat k) λz=>({z with body:=z8.1}:av)) λz9=>.lf J0 ({z2.1 with bf:=z9},())))) ?_;refine Ai ?_ λ_=>(Ai trivial λ_=>Z (λh2=>Y ?_) λh2=>Ad ?_ λ_=>Z (λh4=>Y ?_) λh4=>Ai ?_ λ_=>Ad ?_ λ_=>Ad ?_ λ_=>K6 (Ai ?_ λ_=>Ad ?_ λ_=>Ad ?_ λ_=>K6 (Ai ?_ λ_=>Ad ?_ λ_=>Ad ?_ λ_=>K6 (Y ?_))))<;>obtain⟨q1,q2,q3,q4,q5,q6,q7⟩:=(show Au p<=1000000000000/\p.addr.host.size<=4000000000/\(∀ i,i<p.bf.length->AD (p.bf.getD i default)<=50000000000)/\-9223372036854775808<=k/\k<=9223372036854775807/\x.bm.size<=200000000/\x.body.size<=1000000000 from hp)<;>(have hl:p.bf.length<=1000000000000:=by have:=Ac AD p.bf;simp only[Au] at q1;omega)<;>(have hpo:AG p.bm<=1000000000000:=by simp only[Au] at q1;omega)<;>(try simp only[std,Nat.reduceAdd,inRange] at *)<;>(try rw[AE O] at h2)<;>(try simp only[T_,fB,az,cw] at h2)<;>(first|trivial|omega|(unfold fillSl;rw[F_ O])|exact(Zq O O ‹_›).symm|(simp only[List.length_modify];omega)|skip)<;>(first|(rw[Pv O O];have:=q3 k.toNat O;simp only[AD] at this;exact⟨O,by simp only[A6,reqO];simp only[szAddr] at *;omega,q6,q7⟩)|(unfold fillSl;rw[G_ O,<-AkL O O ‹_›])))
def fillF (p:A_) (a:HO) (x:M_) (s:av):av:=if s.to=a then fillS p x s else s
def fillT (p:A_) (a:HO) (x:M_) (i:Nat):A_:={ p with bf:=(p.bf.take i).map (fillF p a x)++p.bf.drop i }
def fil (p:A_) (a:HO) (x:M_):A_:={ p with bf:=p.bf.map (fillF p a x)}
def und1 (s:av):Nat:=if s.done=true then 0 else 1
def WS (p:A_) (a:HO) (x:M_) (s:av):AD (fillF p a x s)+400*und1 (fillF p a x s)<=AD s+400*und1 s/\(fillF p a x s).body.size<=s.body.size+400/\(s.body.size<=2000000->(fillF p a x s).body.size<=2000000):=by
 unfold fillF;split
 .unfold fillS;split
  .exact⟨X_ _,O,id⟩
  .rename_i h;have hu:=KA p.bm (reqO p s) x;refine⟨?_,by dsimp only;omega,λ_=>by dsimp only;omega⟩;unfold und1 AD;dsimp only;rw[G_ rfl,F_ h];omega
 .exact⟨X_ _,O,id⟩
def WK (p:A_) (a:HO) (x:M_):∀ l:List av,U AD (l.map (fillF p a x))+400*undS (l.map (fillF p a x))<=U AD l+400*undS l
 | []=>X_ _
 | s::l=>by have h:=WK p a x l;have h1:=(WS p a x s).1;rw[aY,Ah,Ah,undS,undS];unfold und1 at h1;omega
def AjE (l:List av) (i:Nat):undS (l.take i)+undS (l.drop i)=undS l:=by rw[<-Mm,dc]
def MD {p:A_} {Q M R:Nat} (h:okAl p Q M R) (a:HO) (x:M_) (i:Nat):okAl (fillT p a x i) Q M R:=by
 obtain⟨h1,h2,⟨h3,h4⟩,h5,h6,h7⟩:=h;refine⟨h1,h2,⟨?_,λs hs=>?_⟩,h5,h6,h7⟩
 .unfold slotP at *
  have e1:=Aab AD p.bf i;have e2:=AjE p.bf i;have e3:=WK p a x (p.bf.take i);have e4:((p.bf.take i).map (fillF p a x)++p.bf.drop i).length=p.bf.length:=by rw[al,cE,<-al,dc]
  show U AD ((p.bf.take i).map (fillF p a x)++p.bf.drop i)+400*undS ((p.bf.take i).map (fillF p a x)++p.bf.drop i)+500000800*(20-((p.bf.take i).map (fillF p a x)++p.bf.drop i).length)<=_;rw[BR,Mm,e4];omega
 .rcases ah.1 hs with q|q
  .obtain⟨s0,q0,rfl⟩:=bM.1 q;exact(WS p a x s0).2.2 (h4 s0 (fw q0))
  .exact h4 s (ft q)
def AfW (p:A_) (a:HO) (x:M_):fillT p a x 0=p:=rfl
def LF {p:A_} {a:HO} {x:M_} {i:Nat} (h:p.bf.length<=i):fillT p a x i=fil p a x:=by
 unfold fillT fil;rw[cC h,cx h,cS]
def Y0 (p:A_) (a:HO) (x:M_) (i:Nat):(fillT p a x i).bf.length=p.bf.length:=by
 show((p.bf.take i).map (fillF p a x)++p.bf.drop i).length=_;rw[al,cE,<-al,dc]
def M0 {p:A_} {a:HO} {x:M_} {i:Nat} (h:i<p.bf.length):fillT p a x (i+1)={ p with bf:=(p.bf.take i).map (fillF p a x)++fillF p a x (p.bf.getD i default)::p.bf.drop (i+1)}:=by
 unfold fillT;rw[Q_ h,fu,bK];rfl
def VJ {p:A_} {a:HO} {x:M_} {i:Nat} (h:i<p.bf.length) (hs:¬ (p.bf.getD i default).to=a\/(p.bf.getD i default).done=true):fillT p a x (i+1)=fillT p a x i:=by
 have e:fillF p a x (p.bf.getD i default)=p.bf.getD i default:=by
  unfold fillF;rcases hs with hs|hs
  .rw[F_ hs]
  .split
   .unfold fillS;rw[G_ hs]
   .rfl
 rw[M0 h,e,<-B_ h];rfl
def AcO {p:A_} {a:HO} {x:M_} {i:Nat} (h:i<p.bf.length) (hs:(p.bf.getD i default).to=a):fillSl (fillT p a x i) (i:Int) x=fillT p a x (i+1):=by
 unfold fillSl;rw[Y0,G_ O,M0 h];have e:fillF p a x (p.bf.getD i default)=fillS p x (p.bf.getD i default):=by unfold fillF;rw[G_ hs]
 have el:((p.bf.take i).map (fillF p a x)).length=i:=by rw[cE,cZ];omega
 show({ p with bf:=((p.bf.take i).map (fillF p a x)++p.bf.drop i).modify (i:Int).toNat (fillS p x)}:A_)=_;have:=VH (fillS p x) (p.bf.getD i default) (p.bf.drop (i+1)) ((p.bf.take i).map (fillF p a x));rw[el] at this;rw[B_ h,eo,this,e]
def Ep {p:A_} (h:okAdv p):Au p<=1000000000000/\AG p.bm+szAddr p.addr<=4000000/\p.bf.length<=100000000000/\(∀ i,i<p.bf.length->AD (p.bf.getD i default)<=50000000000)/\p.bi.length<=60000000000/\okMb p:=by
 obtain⟨Q,M,R,h1,h2,h3,h4⟩:=h;have hz:=I5 h1 O h3 h4;have hs:U AD p.bf<=13000000000:=by have:=h1.2.2.1.1;unfold slotP at this;omega
 have hm:U AA p.bi<=50000000000:=by have:=h1.2.2.2.1.2.1;unfold modP at this;omega
 have l1:=Ac AD p.bf;have l2:=Ac AA p.bi;refine⟨hz,h1.2.2.2.2.2.1,O,λi hi=>?_,O,λi hi=>?_⟩
 .have:=Cy AD hi;omega
 .have:=h1.2.2.2.1.2.2.2 _ (Ae hi);omega
def Zb {p:A_} (h:okAdv p) (a:HO) (x:M_) (i:Nat):okAdv (fillT p a x i):=by
 obtain⟨Q,M,R,h1,h2⟩:=h;exact⟨Q,M,R,MD h1 a x i,h2⟩
def YZ {p:A_} {a:HO} {x:M_} {k:Int} (h0:0<=k) (h:k<p.bf.length) (hs:(p.bf.getD k.toNat default).to=a):fillSl (fillT p a x k.toNat) k x=fillT p a x (k.toNat+1):=by
 obtain⟨i,rfl⟩:∃ i:Nat,k=i:=⟨k.toNat,O⟩;exact AcO O hs
abbrev P9:Fct:=⟨[.v (.el .page),.v (.el .addr),.v (.el .bd)],[.el .page],λ(x:cQ)=>okAdv x.1/\x.2.2.1.bm.size<=200000000/\x.2.2.1.body.size<=1000000000,λ(x:cQ)=>(fil x.1 x.2.1 x.2.2.1,())⟩
abbrev DB (p:A_) (a:HO) (x:M_):LInv:=⟨[⟨.b,7,true,.el .page⟩,⟨.s,8,true,.el .int⟩,⟨.b,3,false,.el .page⟩,⟨.b,4,true,.el .addr⟩,⟨.b,5,true,.el .bd⟩,⟨.b,6,true,.el .page⟩],λ(z x_:dT)=>((((0<=x_.2.1/\x_.2.1<=p.bf.length/\x_.1=fillT p a x x_.2.1.toNat)/\x_.2.2.1=z.2.2.1)/\x_.2.2.2.1=z.2.2.2.1)/\x_.2.2.2.2.1=z.2.2.2.2.1)/\x_.2.2.2.2.2.1=z.2.2.2.2.2.1,λ(x_:dT)=>p.bf.length-x_.2.1.toNat⟩
def Anl:=Anh.a P9<|Fct.p (KP [3,4,5,6,7,8] [15,34]) (λ⟨p,a,x,_⟩=>lv [(3,DB p a x)]) Anh.2 func72 (by
 rintro⟨(p:A_),(a:HO),(x:M_),_⟩ hp;refine ho (.cl Be (p,()) λz2=>lpx (DB p a x) (z2.1,((0:Int),(p,(a,(x,(default,())))))) λ(y2:dT) bk2=>let L_:=inB y2.2.1 y2.2.2.1.bf.length;let J_:=y2.2.2.1.bf.getD y2.2.1.toNat default;let H_:Out:=.bk (bk2 (y2.1,(w1 y2.2.1,(y2.2.2.1,(y2.2.2.2.1,(y2.2.2.2.2.1,(y2.2.2.2.2.2.1,())))))));.br (decide (y2.2.1<(y2.2.2.1.bf.length:Int))) (.ob L_<|.br (!J_.done) (.ob L_<|.br (J_.to.host==y2.2.2.2.1.host&&(J_.to.path==y2.2.2.2.1.path&&true)) (.cl J0 (y2.1,y2.2.1,y2.2.2.2.2.1,()) λz3=>.bk (bk2 (z3.1,(w1 y2.2.1,(y2.2.2.1,(y2.2.2.2.1,(y2.2.2.2.2.1,(y2.2.2.2.2.2.1,())))))))) H_) H_) (.lf P9 (y2.1,()))) ?_;refine Ai ?_ λ_=>(Ay ?_ λ(y2:dT) i2=>Z (λh3=>Ad ?_ λ_=>Z (λh5=>Ad ?_ λ_=>Z (λh7=>Ai ?_ λ_=>AR ?_) λh7=>AR ?_) λh5=>AR ?_) λh3=>Y ?_)<;>obtain⟨q1,q2,q3⟩:=(show okAdv p/\x.bm.size<=200000000/\x.body.size<=1000000000 from hp)<;>(have hok:=Ep q1;try simp only[std,Nat.reduceAdd] at *)<;>(first|trivial|omega|exact⟨O,O,(AfW p a x).symm⟩|skip)<;>(obtain⟨⟨⟨⟨⟨a1,a2,a3⟩,e1⟩,e2⟩,e3⟩,e4⟩:=i2;simp only[a3,e1,e2,e3,DP,az,cw] at *)<;>(first|trivial|omega|(rw[LF O])|skip)<;>(have hk:=Ep (Zb q1 a x y2.2.1.toNat);have hh:(fillT p a x y2.2.1.toNat).addr.host.size<=4000000:=by have:=hk.2.1;simp only[szAddr] at this;omega)<;>(first|exact⟨hk.1,O,hk.2.2.2.1,O,O,q2,q3⟩|skip)<;>rw[AE O,show(y2.2.1+1).toNat=y2.2.1.toNat+1 from O]<;>(first|(rw[YZ a1 O ‹_›];exact⟨⟨⟨⟨⟨⟨O,O,rfl⟩,by trivial⟩,by trivial⟩,by trivial⟩,e4⟩,O⟩)|(rw[VJ O (by first|exact .inl ‹_›|exact .inr ‹_›)];exact⟨⟨⟨⟨⟨⟨O,O,rfl⟩,by trivial⟩,by trivial⟩,by trivial⟩,e4⟩,O⟩)|skip))
def fillM (p:A_) (x:M_) (m:Z_):Z_:={ m with done:=true,code:=checkResponse p.bm ⟨5,m.to,p.addr.host,⟨#[]⟩⟩ x,body:=(usable p.bm ⟨5,m.to,p.addr.host,⟨#[]⟩⟩ x).1 }
def fillM0 (p:A_) (a:HO) (x:M_):A_:={ p with bi:=p.bi.modify (findM p.bi a).toNat (fillM p x)}
def fillMo (p:A_) (a:HO) (x:M_):A_:=if findM p.bi a<0\/(p.bi.getD (findM p.bi a).toNat default).done=true then p else(impo (fillM0 p a x) a).1.foldl askM (fillM0 p a x)
def NP {p:A_} {Q M R:Nat} (h:okAl p Q M R) (a:HO) (x:M_) (h0:0<=findM p.bi a) (hd:(p.bi.getD (findM p.bi a).toNat default).done=false):okAl (fillM0 p a x) Q M R:=by
 have hf:=BL p.bi a;have hi:(findM p.bi a).toNat<p.bi.length:=O
 obtain⟨h1,h2,h3,⟨h4,h5,h6,h7⟩,h8⟩:=h;have hu:=KA p.bm ⟨5,(p.bi.getD (findM p.bi a).toNat default).to,p.addr.host,⟨#[]⟩⟩ x;have e:=Ci (fillM p x) hi;have t1:=Aab AA p.bi (findM p.bi a).toNat;have t2:=Aac p.bi (findM p.bi a).toNat;have t3:=AhK p.ran p.bi (findM p.bi a).toNat;rw[B_ hi] at t1 t2 t3;rw[Ah] at t1;rw[undM,hd,F_ (by decide)] at t2;rw[nrL] at t3;refine⟨h1,h2,h3,⟨h4,?_,?_,λm hm=>?_⟩,h8⟩
 .unfold modP at *
  show U AA (p.bi.modify (findM p.bi a).toNat (fillM p x))+500*undM (p.bi.modify (findM p.bi a).toNat (fillM p x))+600*(20-p.bh.length)<=M;rw[e,BR,Ah,Mx,undM];have e1:AA (fillM p x (p.bi.getD (findM p.bi a).toNat default))<=AA (p.bi.getD (findM p.bi a).toNat default)+400:=by unfold AA fillM;dsimp only;omega
  have e2:(fillM p x (p.bi.getD (findM p.bi a).toNat default)).done=true:=rfl;rw[G_ e2];omega
 .unfold ranP at *
  show U szAddr p.ran+nrL p.ran (p.bi.modify (findM p.bi a).toNat (fillM p x))+100*(20-p.bh.length)<=R;rw[e,PK,nrL];have e3:(fillM p x (p.bi.getD (findM p.bi a).toNat default)).to=(p.bi.getD (findM p.bi a).toNat default).to:=rfl;rw[e3];omega
 .have hm:m∈p.bi.modify (findM p.bi a).toNat (fillM p x):=hm;rw[e] at hm;rcases ah.1 hm with q|q
  .exact h7 m (fw q)
  .rcases au.1 q with q|q
   .rw[q];exact aP hu (by decide)
   .exact h7 m (ft q)
def AhV {p:A_} {Q M R:Nat} (h:okAl p Q M R) {b:HO} (hb:b.host.size<=8/\b.path.size<=8):okAl (askM p b) Q (M+600) (R+20):=by
 obtain⟨h1,h2,h3,⟨h4,h5,h6,h7⟩,h8⟩:=h;obtain⟨a1,a2,a3,a4,a5⟩:=AhF p b;have hs:szAddr b<=16:=by unfold szAddr;omega
 rw[a5];refine⟨h1,h2,h3,⟨h4,?_,?_,λm hm=>?_⟩,h8⟩
 .unfold modP at *;dsimp only;omega
 .unfold ranP at *;dsimp only;omega
 .rcases a4 m hm with q|q
  .exact h7 m q
  .omega
def TQ {Q:Nat}:∀ (l:List HO) (p:A_) (M R:Nat),okAl p Q M R->(∀ b,b∈l->b.host.size<=8/\b.path.size<=8)->okAl (l.foldl askM p) Q (M+600*l.length) (R+20*l.length)
 | [],p,M,R,h,_=>h
 | b::l,p,M,R,h,hb=>by
  have:=TQ l (askM p b) (M+600) (R+20) (AhV h (hb b dx)) λc hc=>hb c (cY _ hc)
  rw[dy,aw];rw[show M+600*(l.length+1)=M+600+600*l.length from O,show R+20*(l.length+1)=R+20+20*l.length from O];exact this
def Gb (p:A_) (a:HO) (x:M_) (h0:0<=findM p.bi a):findM (fillM0 p a x).bi a=findM p.bi a/\(fillM0 p a x).bi.getD (findM p.bi a).toNat default=fillM p x (p.bi.getD (findM p.bi a).toNat default):=by
 have hf:=BL p.bi a;have hi:(findM p.bi a).toNat<p.bi.length:=O
 have gen:∀ (l:List Z_) (k:Int) (i:Nat) (f:Z_->Z_),(∀ m,(f m).to=m.to)->fidx (λm:Z_=>decide (m.to=a)) (l.modify i f) k=fidx (λm:Z_=>decide (m.to=a)) l k:=by
  intro l
  induction l with
  | nil=>intro k i f hf;cases i<;>rfl
  | cons m l ih=>
   intro k i f hf;cases i with
   | zero=>
    show fidx _ (f m::l) k=_;rw[fidx,fidx,hf m]
   | succ i=>
    show fidx _ (m::l.modify i f) k=_;rw[fidx,fidx,ih (k+1) i f hf]
 refine⟨gen p.bi 0 _ _ λ_=>rfl,?_⟩;show(p.bi.modify (findM p.bi a).toNat (fillM p x)).getD (findM p.bi a).toNat default=_;rw[Ci _ hi];have e:(p.bi.take (findM p.bi a).toNat).length=(findM p.bi a).toNat:=by rw[cZ];omega
 rw[bB,cX O,e,Nat.sub_self];rfl
def Ng {p:A_} {a:HO} {x:M_} (h0:0<=findM p.bi a):(∀ b,b∈(impo (fillM0 p a x) a).1->b.host.size<=8/\b.path.size<=8)/\(impo (fillM0 p a x) a).1.length<=400:=by
 obtain⟨h1,h2⟩:=D8 (fillM0 p a x) a;refine⟨h1,?_⟩;obtain⟨f1,f2⟩:=Gb p a x h0;rw[f1,f2] at h2;have hu:=KA p.bm ⟨5,(p.bi.getD (findM p.bi a).toNat default).to,p.addr.host,⟨#[]⟩⟩ x;rcases h2 with h2|⟨_,h2⟩
 .rw[h2];exact Nat.zero_le _
 .exact aP h2 hu
def Qq {p:A_} {Q M R:Nat} (h:okAl p Q M R) (a:HO) (x:M_):okAl (fillMo p a x) Q (M+240000) (R+8000):=by
 have mono:∀ {q:A_} {M' R':Nat},okAl q Q M' R'->M'<=M+240000->R'<=R+8000->okAl q Q (M+240000) (R+8000):=λh hM hR=>by obtain⟨h1,h2,h3,⟨h4,h5,h6,h7⟩,h8⟩:=h;exact⟨h1,h2,h3,⟨h4,O,O,h7⟩,h8⟩
 unfold fillMo;split
 .exact mono h O O
 .rename_i hc;have h0:0<=findM p.bi a:=O
  have hd:(p.bi.getD (findM p.bi a).toNat default).done=false:=by
   cases hq:(p.bi.getD (findM p.bi a).toNat default).done with
   | false=>rfl
   | true=>exact absurd (.inr hq) hc
  obtain⟨i1,i2⟩:=Ng (x:=x) h0;exact mono (TQ _ _ M R (NP h a x h0 hd) i1) O O
def fmInv (p:A_) (a:HO) (x:M_) (q:A_) (i:Int):Prop:=0<=i/\i<=(impo (fillM0 p a x) a).1.length/\((impo (fillM0 p a x) a).1.drop i.toNat).foldl askM q=(impo (fillM0 p a x) a).1.foldl askM (fillM0 p a x)/\∃ Q M R,okAl q Q (M+600*i.toNat) (R+20*i.toNat)/\Q<=899000000000/\M<=49000000000/\R<=19000000000
def okFM (p:A_):Prop:=∃ Q M R,okAl p Q M R/\Q<=899000000000/\M<=49000000000/\R<=19000000000
def FU {p:A_} (h:okFM p):okAdv p:=by
 obtain⟨Q,M,R,h1,h2,h3,h4⟩:=h;exact⟨Q,M,R,h1,h2,O,O⟩
def SV {p q:A_} {a:HO} {x:M_} {i:Int} (h:fmInv p a x q i) (hi:(impo (fillM0 p a x) a).1.length<=400):okAdv q:=by
 obtain⟨h1,h2,_,Q,M,R,h3,h4,h5,h6⟩:=h;exact⟨Q,_,_,h3,h4,O,O⟩
def AcA {p:A_} {a:HO} {x:M_} (h:okFM p) (h0:0<=findM p.bi a) (hd:(p.bi.getD (findM p.bi a).toNat default).done=false):fmInv p a x (fillM0 p a x) 0:=by
 obtain⟨Q,M,R,h1,h2⟩:=h;exact⟨O,O,rfl,Q,M,R,NP h1 a x h0 hd,h2⟩
def Agl {p q:A_} {a:HO} {x:M_} {i:Int} (h:fmInv p a x q i) (h0:0<=findM p.bi a) (hi:i<(impo (fillM0 p a x) a).1.length):fmInv p a x (askM q ((impo (fillM0 p a x) a).1.getD i.toNat default)) (i+1):=by
 obtain⟨h1,h2,h3,Q,M,R,h4,h5⟩:=h;have hb:=(Ng (x:=x) h0).1 _ (Ae (show i.toNat<(impo (fillM0 p a x) a).1.length from O));rw[B_ (show i.toNat<(impo (fillM0 p a x) a).1.length from O),dy] at h3;refine⟨O,O,by rw[show(i+1).toNat=i.toNat+1 from O];exact h3,Q,M,R,?_,h5⟩;have:=AhV h4 hb;rw[show(i+1).toNat=i.toNat+1 from O,show M+600*(i.toNat+1)=M+600*i.toNat+600 from O,show R+20*(i.toNat+1)=R+20*i.toNat+20 from O];exact this
def AaI {p q:A_} {a:HO} {x:M_} {i:Int} (h:fmInv p a x q i) (h0:0<=findM p.bi a) (hd:(p.bi.getD (findM p.bi a).toNat default).done=false) (hi:(impo (fillM0 p a x) a).1.length<=i):q=fillMo p a x:=by
 have e:=h.2.2.1;rw[cx O] at e;unfold fillMo;rw[F_ (by rintro(q|q);exact absurd q O;rw[hd] at q;cases q)];exact e
def MZ {p:A_} {k:Int} (h0:0<=k) (h:k<p.bi.length):modRequest p k=⟨5,(p.bi.getD k.toNat default).to,p.addr.host,⟨#[]⟩⟩:=by unfold modRequest;rw[G_ ⟨h0,h⟩]
def Amv {p:A_} {a:HO} {x:M_} (h0:0<=findM p.bi a):(((p.bi.modify (findM p.bi a).toNat λz=>(⟨z.to,true,z.code,z.body⟩:Z_)).modify (findM p.bi a).toNat λz=>(⟨z.to,z.done,checkResponse p.bm (modRequest p (findM p.bi a)) x,z.body⟩:Z_)).modify (findM p.bi a).toNat λz=>(⟨z.to,z.done,z.code,(usable p.bm (modRequest p (findM p.bi a)) x).1⟩:Z_))=(fillM0 p a x).bi:=by
 have hf:=BL p.bi a;have hi:(findM p.bi a).toNat<p.bi.length:=O
 rw[Hk,Hk];show _=p.bi.modify (findM p.bi a).toNat (fillM p x);rw[Ci _ hi,Ci _ hi,MZ h0 hf.1];rfl
def fmp (p:A_) (a:HO) (x:M_):(⟨p.addr,p.bm,p.tok,p.bp,p.ended,p.ba,p.bf,(fillM0 p a x).bi,p.bh,p.block,p.inline,p.bo,p.bu,p.ran,p.log,p.loaded⟩:A_)=fillM0 p a x:=rfl
def Aml (p:A_) (a:HO) (x:M_):(fillM0 p a x).bi.length=p.bi.length:=List.length_modify ..
def Ads {p:A_} (h:okAdv p) {k:Int} (h0:0<=k) (hk:k<p.bi.length):A6 (modRequest p k)<=60000000000:=by
 obtain⟨Q,M,R,h1,h2,h3,h4⟩:=h;have hm:U AA p.bi<=50000000000:=by have:=h1.2.2.2.1.2.1;unfold modP at this;omega
 have:=Cy AA (l:=p.bi) (i:=k.toNat) O;have ha:=h1.2.2.2.2.2.1;have hz:ByteArray.size ⟨#[]⟩=0:=rfl;rw[MZ h0 hk];simp only[AA,A6,szAddr,hz] at *;omega
abbrev HE:Fct:=⟨[.v (.el .page),.v (.el .addr),.v (.el .bd)],[.el .page],λ(x:cQ)=>okFM x.1/\szAddr x.2.1<=4000000000/\x.2.2.1.bm.size<=200000000/\x.2.2.1.body.size<=1000000000,λ(x:cQ)=>(fillMo x.1 x.2.1 x.2.2.1,())⟩
abbrev Bm (p:A_) (a:HO) (x:M_):LInv:=⟨[⟨.b,7,true,.el .page⟩,⟨.s,12,true,.el .int⟩,⟨.b,6,true,.el .page⟩,⟨.s,10,true,.sl .addr⟩],λ(z x_:ce)=>((fmInv p a x x_.1 x_.2.1)/\x_.2.2.1=z.2.2.1)/\x_.2.2.2.1=z.2.2.2.1,λ(x_:ce)=>(impo (fillM0 p a x) a).1.length-x_.2.1.toNat⟩
def An8:=Anl.a HE<|Fct.p (KP [3,4,5,6,7,8,9,10,12] [27,69]) (λ⟨p,a,x,_⟩=>lv [(11,Bm p a x)]) Anl.2 func71 (by
 rintro⟨(p:A_),(a:HO),(x:M_),_⟩ hp;refine ho (let L_:=List Z_;.cl Be (p,()) λz2=>let J_:Out:=.lf HE (z2.1,());.cl LO (p,a,()) λ(z3:D_)=>.br (decide (z3.1<0)) J_ (.ob (inB z3.1 p.bi.length)<|.br ((p.bi.getD z3.1.toNat default).done) J_ (.cl BO (p,z3.1,()) λz4=>.ix z3.1 z2.1.bi.length<|.lt L_ (z2.1.bi.modify z3.1.toNat λz=>({z with done:=true}:Z_)) λz5=>.cl An (p.bm,z4.1,x,()) λ(z6:D_)=>.ix z3.1 z5.length<|.lt L_ (z5.modify z3.1.toNat λz=>({z with code:=z6.1}:Z_)) λz7=>.cl Cw (p.bm,z4.1,x,()) λz8=>.ix z3.1 z7.length<|.lt L_ (z7.modify z3.1.toNat λz=>({z with body:=z8.1}:Z_)) λz9=>let H_:=({z2.1 with bi:=z9}:A_);.cl GD (H_,a,()) λz10=>lpx (Bm p a x) (H_,((0:Int),(default,(z10.1,())))) λ(y16:ce) bk16=>.br (decide (y16.2.1<(y16.2.2.2.1.length:Int))) (.ix y16.2.1 y16.2.2.2.1.length<|.cl FX (y16.1,y16.2.2.2.1.getD y16.2.1.toNat default,()) λz11=>.re (Value.int IntKind.i64 z3.1)<|.bk (bk16 (z11.1,(w1 y16.2.1,(y16.2.2.1,(y16.2.2.2.1,())))))) (.lf HE (y16.1,()))))) ?_;repeat' (guard_target =~ Out.holds _ _;first|refine Ay (li:=Bm p a x) ?_ λ(y16:ce) i16=>?_|refine Y ?_|refine Z (λ_=>?_) λ_=>?_|refine Ai ?_ λ_=>?_|refine Ad ?_ λ_=>?_|refine K6 ?_|refine AR ?_|refine Al ?_|refine Ey ?_ λ_ _=>?_)
 all_goals obtain⟨q1,q0,q2,q3⟩:=(show okFM p/\szAddr a<=4000000000/\x.bm.size<=200000000/\x.body.size<=1000000000 from hp)<;>(have hok:=Ep (FU q1);have hf:=BL p.bi a;try simp only[WJ] at *)<;>(try simp only[std,Nat.reduceAdd,Tj] at *)<;>(first|trivial|omega|skip)<;>(first|(unfold fillMo;rw[G_ (by first|exact .inl ‹_›|exact .inr ‹_›)];done)|skip)<;>have h0:0<=findM p.bi a:=O<;>have hd:(p.bi.getD (findM p.bi a).toNat default).done=false:=‹_›<;>(have hq:=Ads (FU q1) h0 hf.1;have hI:=Ng (x:=x) h0;have hA:=SV (AcA (x:=x) q1 h0 hd) hI.2;have hB:=Ep hA;try simp only[Amv h0,fmp,Aml,List.length_modify] at *)<;>(first|trivial|omega|exact⟨O,O,q2,q3⟩|exact⟨O,hB.2.2.2.2.2,by simp only[szAddr] at q0;omega⟩|exact AcA q1 h0 hd|skip)<;>(obtain⟨⟨i1,e1⟩,e2⟩:=i16;simp only[e2] at *;have hi0:=i1.1;have hi1:=i1.2.1)<;>(first|trivial|omega|(rw[AaI i1 h0 hd O];done)|skip)<;>(have hj:=Ep (SV i1 hI.2);have hb:=hI.1 _ (Ae (show y16.2.1.toNat<(impo (fillM0 p a x) a).1.length from O)))<;>(first|exact⟨O,by have h7:=hj.2.1;simp only[szAddr] at h7;omega,by simp only[szAddr];omega⟩|(rw[AE O];exact⟨⟨⟨Agl i1 h0 O,e1⟩,trivial⟩,O⟩)|skip))
def tak (p:A_) (a:HO) (x:M_):A_:=adva (fillMo (fil p a x) a x)
def TC {p:A_} (h:okFM p) (a:HO) (x:M_):okFM (fil p a x):=by
 obtain⟨Q,M,R,h1,h2⟩:=h;have:=MD h1 a x p.bf.length;rw[LF (X_ _)] at this;exact⟨Q,M,R,this,h2⟩
def Afb {p:A_} (h:okFM p) (a:HO) (x:M_):okAdv (fillMo p a x):=by
 obtain⟨Q,M,R,h1,h2,h3,h4⟩:=h;exact⟨Q,_,_,Qq h1 a x,h2,O,O⟩
abbrev EY:Fct:=⟨[.v (.el .page),.v (.el .addr),.v (.el .bd)],[.el .page],λ(x:cQ)=>okFM x.1/\szAddr x.2.1<=4000000000/\x.2.2.1.bm.size<=200000000/\x.2.2.1.body.size<=1000000000,λ(x:cQ)=>(tak x.1 x.2.1 x.2.2.1,())⟩
def Ane:=An8.a EY<|Fct.o [3,4,5,6] An8.2 func31 (by
 rintro⟨(p:A_),(a:HO),(x:M_),_⟩ hp;refine ho (.cl P9 (p,a,x,()) λz2=>.cl HE (z2.1,a,x,()) λz3=>.cl GM (z3.1,()) λz4=>.lf EY (z4.1,())) ?_;refine Ai ?_ λ_=>(Ai ?_ λ_=>Ai ?_ λ_=>Y ?_)<;>obtain⟨q1,q0,q2,q3⟩:=(show okFM p/\szAddr a<=4000000000/\x.bm.size<=200000000/\x.body.size<=1000000000 from hp)<;>(try simp only[std,Nat.reduceAdd] at *)<;>(first|exact⟨FU q1,q2,q3⟩|exact⟨TC q1 a x,q0,q2,q3⟩|exact Afb (TC q1 a x) a x|rfl|trivial))
def nextN (p:A_):List ax:=(openSl p).map (slotRequest p)++(openM p).map (modRequest p)
def AfT {p:A_} {i:Nat} (h:i<(openSl p).length):0<=(openSl p).getD i default/\(openSl p).getD i default<p.bf.length:=by
 have:=DT (λs:av=>!s.done) p.bf 0 _ (Ae h);unfold openSl at *;omega
def AgQ {p:A_} {i:Nat} (h:i<(openM p).length):0<=(openM p).getD i default/\(openM p).getD i default<p.bi.length:=by
 have:=DT (λs:Z_=>!s.done) p.bi 0 _ (Ae h);unfold openM at *;omega
def Aa0 {J β:Type} [Inhabited J] (f:J->β) {l:List J} {i:Nat} (h:i<l.length):(l.drop i).map f=f (l.getD i default)::(l.drop (i+1)).map f:=by rw[B_ h];rfl
def U4 {J β:Type} (f:J->β) {l:List J} {i:Nat} (h:l.length<=i):(l.drop i).map f=[]:=by rw[cx h];rfl
abbrev Hm:Fct:=⟨[.v (.el .page)],[.sl .request],λ(x:ae)=>x.1.bf.length+x.1.bi.length<=1000000000000,λ(x:ae)=>(nextN x.1,())⟩
abbrev CJ (p:A_):LInv:=⟨[⟨.s,3,true,.sl .request⟩,⟨.s,5,true,.el .int⟩,⟨.b,1,false,.el .page⟩,⟨.s,4,true,.sl .int⟩],λ(z x:cg)=>((0<=x.2.1/\x.2.1<=(openSl p).length/\x.1.length<=x.2.1/\x.1++((openSl p).drop x.2.1.toNat).map (slotRequest p)=(openSl p).map (slotRequest p))/\x.2.2.1=z.2.2.1)/\x.2.2.2.1=z.2.2.2.1,λ(x:cg)=>(openSl p).length-x.2.1.toNat⟩
abbrev CM (p:A_):LInv:=⟨[⟨.s,3,true,.sl .request⟩,⟨.s,7,true,.el .int⟩,⟨.b,1,false,.el .page⟩,⟨.s,6,true,.sl .int⟩],λ(z x:cg)=>((0<=x.2.1/\x.2.1<=(openM p).length/\x.1.length<=(openSl p).length+x.2.1/\x.1++((openM p).drop x.2.1.toNat).map (modRequest p)=nextN p)/\x.2.2.1=z.2.2.1)/\x.2.2.2.1=z.2.2.2.1,λ(x:cg)=>(openM p).length-x.2.1.toNat⟩
def AnT:=Ane.a Hm<|Fct.p (KP [1,2,3,4,5,6,7] [14,31]) (λ⟨p,_⟩=>λ|4=>some (CJ p)|9=>some (CM p)|_=>none) Ane.2 func30 (by
 rintro⟨(p:A_),_⟩ hp;refine ho (.cl IH (p,()) λ(z2:ak)=>lpx (CJ p) ([],((0:Int),(p,(z2.1,())))) λ(y2:cg) bk2=>.br (decide (y2.2.1<(y2.2.2.2.1.length:Int))) (.ix y2.2.1 y2.2.2.2.1.length<|.cl Bl (y2.2.2.1,y2.2.2.2.1.getD y2.2.1.toNat default,()) λz3=>.ap (y2.1.length+[z3.1].length) 72<|.bk (bk2 (y2.1++[z3.1],(w1 y2.2.1,(y2.2.2.1,(y2.2.2.2.1,())))))) (.cl Kl (y2.2.2.1,()) λ(z4:ak)=>lpx (CM p) (y2.1,((0:Int),(y2.2.2.1,(z4.1,())))) λ(y10:cg) bk10=>.br (decide (y10.2.1<(y10.2.2.2.1.length:Int))) (.ix y10.2.1 y10.2.2.2.1.length<|.cl BO (y10.2.2.1,y10.2.2.2.1.getD y10.2.1.toNat default,()) λz5=>.ap (y10.1.length+[z5.1].length) 72<|.re (Value.int IntKind.i64 y2.2.1)<|.bk (bk10 (y10.1++[z5.1],(w1 y10.2.1,(y10.2.2.1,(y10.2.2.2.1,())))))) (.lf Hm (y10.1,())))) ?_;refine Ai ?_ λ_=>(Ay ?_ λ(y2:cg) i2=>Z (λh3=>Ey ?_ λo4 o5=>Ai ?_ λ_=>FB ?_ λ_=>AR ?_) λh3=>Ai ?_ λ_=>Ay ?_ λ(y10:cg) i10=>Z (λh11=>Ey ?_ λo12 o13=>Ai ?_ λ_=>(FB ?_ λ_=>Al<|AR ?_)) λh11=>Y ?_)<;>(have hl1:(openSl p).length<=p.bf.length:=DJ _ _ _;have hl2:(openM p).length<=p.bi.length:=DJ _ _ _;try simp only[std,Nat.reduceAdd] at *)<;>(first|trivial|omega|exact⟨O,O,by simp,rfl⟩|skip)<;>(obtain⟨⟨⟨a1,a2,a3,a4⟩,e1⟩,e2⟩:=i2;simp only[e1,e2] at *)<;>(first|trivial|omega|skip)<;>(try obtain⟨⟨⟨b1,b2,b3,b4⟩,f1⟩,f2⟩:=i10;simp only[f1,f2] at *)<;>(first|trivial|omega|skip)<;>(first|(have ho:=AgQ (p:=p) (i:=y10.2.1.toNat) O)|(have ho:=AfT (p:=p) (i:=y2.2.1.toNat) O)|skip)<;>(first|exact⟨O,O,O⟩|skip)<;>(first|(rw[U4 (modRequest p) (l:=openM p) (i:=y10.2.1.toNat) O] at b4;rw[cS] at b4;exact b4)|(rw[Aa0 (modRequest p) (l:=openM p) (i:=y10.2.1.toNat) O] at b4;rw[AE O,show(y10.2.1+1).toNat=y10.2.1.toNat+1 from O];exact⟨⟨⟨⟨O,O,by simp only[al,aw,bz];omega,by rw[bK];exact b4⟩,by trivial⟩,by trivial⟩,O⟩)|(rw[Aa0 (slotRequest p) (l:=openSl p) (i:=y2.2.1.toNat) O] at a4;rw[AE O,show(y2.2.1+1).toNat=y2.2.1.toNat+1 from O];exact⟨⟨⟨⟨O,O,by simp only[al,aw,bz];omega,by rw[bK];exact a4⟩,by trivial⟩,by trivial⟩,O⟩)|(rw[U4 (slotRequest p) (l:=openSl p) (i:=y2.2.1.toNat) O] at a4;rw[cS] at a4;exact⟨O,O,O,by rw[a4];rfl⟩)|skip))
def busyOf (l:List ao):List HO:=l.map λc=>c.to
abbrev AjT:Fct:=⟨[.v (.sl .conn)],[.sl .addr],λ(x:eA)=>x.1.length<=1048576,λ(x:eA)=>(busyOf x.1,())⟩
abbrev EJ (l:(List ao)):LInv:=⟨[⟨.s,3,true,.sl .addr⟩,⟨.s,4,true,.el .int⟩],λ_ (x:ci)=>0<=x.2.1/\x.2.1<=l.length/\x.1.length<=x.2.1/\x.1++busyOf (l.drop x.2.1.toNat)=busyOf l,λ(x:ci)=>l.length-x.2.1.toNat⟩
def Anu:=AnT.a AjT<|Fct.p (KP [0,2,3,4] [9]) (λ⟨l,_⟩=>lv [(3,EJ l)]) AnT.2 func178 (by
 rintro⟨(l:List ao),_⟩ hp;refine ho (lpx (EJ l) ([],((0:Int),())) λ(y1:ci) bk1=>.br (decide (y1.2.1<(l.length:Int))) (.ob (inB y1.2.1 l.length)<|.ap (y1.1.length+[(l.getD y1.2.1.toNat default).to].length) 32<|.re (l)<|.bk (bk1 (y1.1++[(l.getD y1.2.1.toNat default).to],(w1 y1.2.1,())))) (.lf AjT (y1.1,()))) ?_;refine Ay ?_ λ(y1:ci) i1=>Z (λh2=>Ad ?_ λ_=>FB ?_ λ_=>Al<|AR ?_) (λh2=>Y ?_)<;>(try simp only[std,Nat.reduceAdd,busyOf] at *)<;>(first|trivial|omega|skip)<;>(obtain⟨a1,a2,a3,a4⟩:=i1)<;>(first|(rw[U4 (λc:ao=>c.to) (l:=l) (i:=y1.2.1.toNat) O,cS] at a4;exact a4)|(rw[Aa0 (λc:ao=>c.to) (l:=l) (i:=y1.2.1.toNat) O] at a4;rw[AE O,show(y1.2.1+1).toNat=y1.2.1.toNat+1 from O];exact⟨⟨O,O,by simp only[al,aw,bz];omega,by rw[bK];exact a4⟩,O⟩)))
def req (l:N_):List ax:=withoutAddrs (busyOf l.conns) (nextN l.page)
def reqP (l:N_):Int:=pickReq l.page (req l) 0 (-1) 0
def reqT (l:N_):HO:=((req l).getD (reqP l).toNat default).to
def requ (l:N_):N_×Bool :=
 if reqP l<0 then(l,false)
 else if(useGuess l.guesses (reqT l)).2.2=true then
  ({ l with guesses:=(useGuess l.guesses (reqT l)).1,net:=keepA l.net l.page.addr.host (reqT l) (useGuess l.guesses (reqT l)).2.1,page:=tak l.page (reqT l) (useGuess l.guesses (reqT l)).2.1 },true)
 else if 3<=l.conns.length then(l,false)
 else({ l with net:=(fetchNo l.net l.page.addr.host (reqT l) false).1,conns:=(ope l.conns (reqT l) (fetchNo l.net l.page.addr.host (reqT l) false).2 false).1 },true)
def okGs (l:List bv):Prop:=∀ g,g∈l->Ab g.bd<=1048576
def okCs (l:List ao):Prop:=∀ c,c∈l->Ab c.bd<=1048576/\szAddr c.to<=4000000
def okTo (p:A_):Prop:=(∀ s,s∈p.bf->szAddr s.to<=4000000)/\∀ m,m∈p.bi->szAddr m.to<=4000000
def okRN (l:N_):Prop:=((okFM l.page/\okTo l.page/\l.parts.length<=1000000000)/\-9223372036854775808<=l.page.block/\l.page.block<=9223372036854775807/\l.page.bf.length+l.page.bi.length<=1000000000000)/\(l.conns.length<=1048576/\okCs l.conns)/\(l.guesses.length<=4194304/\okGs l.guesses)/\okNt l.net
def Ks (p:A_):(nextN p).length<=p.bf.length+p.bi.length:=by
 have h1:(openSl p).length<=p.bf.length:=DJ _ _ _;have h2:(openM p).length<=p.bi.length:=DJ _ _ _;unfold nextN;rw[al,cE,cE];omega
def Rh {d:List HO} {r:ax}:∀ {l:List ax},r∈withoutAddrs d l->r∈l
 | [],h=>h
 | x::l,h=>by
  rw[withoutAddrs] at h;split at h
  .exact cY _ (Rh h)
  .rcases au.1 h with q|q
   .rw[q];exact dx
   .exact cY _ (Rh q)
def WO {p:A_} {r:ax} (h:r∈nextN p):(∃ s,s∈p.bf/\r.to=s.to)\/∃ m,m∈p.bi/\r.to=m.to:=by
 unfold nextN at h;rcases ah.1 h with q|q
 .obtain⟨k,hk,rfl⟩:=bM.1 q;have:=DT (λs:av=>!s.done) p.bf 0 k hk;left;refine⟨p.bf.getD k.toNat default,Ae O,?_⟩;unfold slotRequest;rw[G_ O]
 .obtain⟨k,hk,rfl⟩:=bM.1 q;have:=DT (λm:Z_=>!m.done) p.bi 0 k hk;right;refine⟨p.bi.getD k.toNat default,Ae O,?_⟩;rw[MZ O O]
def IV (p:A_):∀ (l:List ax) (i b c:Int),-1<=b->b<i->-1<=pickReq p l i b c/\pickReq p l i b c<i+l.length
 | [],i,b,c,h1,h2=>by
  rw[pickReq];simp only[bz];omega
 | r::l,i,b,c,h1,h2=>by
  rw[pickReq,aw];split
  .have:=IV p l (i+1) i (classOf p r) O O;omega
  .have:=IV p l (i+1) b c h1 O;omega
def rn1 (l:N_):withoutAddrs (busyOf l.conns) (nextN l.page)=req l:=rfl
def rn2 (l:N_):pickReq l.page (req l) 0 (-1) 0=reqP l:=rfl
def rn3 (l:N_):((req l).getD (reqP l).toNat default).to=reqT l:=rfl
def AkW (l:N_) : -1<=reqP l/\reqP l<(req l).length:=by
 have:=IV l.page (req l) 0 (-1) 0 O O;unfold reqP;omega
def Aja {l:N_} (h:okTo l.page) (h0:0<=reqP l):szAddr (reqT l)<=4000000:=by
 have hi:=(AkW l).2;have hm:(req l).getD (reqP l).toNat default∈nextN l.page:=Rh (Ae (show(reqP l).toNat<(req l).length from O));unfold reqT;rcases WO hm with⟨s,hs,e⟩|⟨m,hm2,e⟩
 .rw[e];exact h.1 s hs
 .rw[e];exact h.2 m hm2
def Ain {l:List bv} {a:HO} (h:okGs l):Ab (useGuess l a).2.1<=1048576:=by
 unfold useGuess;split
 .exact(show Ab notF<=1048576 by decide)
 .rename_i hc;have hf:=BU (λg:bv=>decide (g.to=a)) l 0 O;have:(findGuess l a).toNat<l.length:=by unfold findGuess at *;omega
  exact h _ (Ae this)
abbrev DW:Fct:=⟨[.v (.el .loader)],[.el .loader,.el .bool],λ(x:bR)=>okRN x.1,λ(x:bR)=>((requ x.1).1,(requ x.1).2,())⟩
def Ang:=Anu.a DW<|Fct.o (KP [1,2,3,4,5,6,7,8,9,10,11,12,13] [28,47,67]) Anu.2 func132 (by
 rintro⟨(l:N_),_⟩ hp;refine ho (.cl C8 (l,()) λz2=>let J_:Out:=.lf DW (z2.1,false,());.cl Hm (l.page,()) λz3=>.cl AjT (l.conns,()) λz4=>.cl HB (z3.1,z4.1,()) λz5=>.cl Ie (l.page,z5.1,()) λ(z6:D_)=>let H_:=z5.1.getD z6.1.toNat default;.br (decide (z6.1<0)) J_ (.ix z6.1 z5.1.length<|.cl JX (l.guesses,H_.to,()) λz7=>.br (z7.2.2.1) (.cl AW (l.net,l.page.addr.host,H_.to,z7.2.1,()) λz8=>.cl EY (l.page,H_.to,z7.2.1,()) λz9=>.lf DW (⟨z8.1,z9.1,z2.1.parts,z2.1.conns,z7.1⟩,true,())) (.br (decide ((l.conns.length:Int)>=3)) J_ (.cl AP (l.net,l.page.addr.host,H_.to,false,()) λz10=>.cl Zh (l.conns,H_.to,z10.2.1,false,()) λz11=>.lf DW ({z2.1 with net:=z10.1,conns:=z11.1},true,()))))) ?_;repeat' (guard_target =~ Out.holds _ _;first|refine Y ?_|refine Z (λ_=>?_) λ_=>?_|refine Ai ?_ λ_=>?_|refine Ey ?_ λ_ _=>?_)
 all_goals obtain⟨⟨⟨q1,qt,qp⟩,q2,q3,q4⟩,⟨q5,q6⟩,⟨q7,q8⟩,q9⟩:=(show okRN l from hp)<;>(have hok:=Ep (FU q1);have hh:l.page.addr.host.size<=4000000:=by have:=hok.2.1;simp only[szAddr] at this;omega)<;>(have hn:=Ks l.page;have hb:(busyOf l.conns).length=l.conns.length:=cE ..;have hw:=L5 (busyOf l.conns) (nextN l.page);have hk:=AkW l;have ht:=λh=>Aja (l:=l) qt h)<;>(have hu:=Ain (a:=reqT l) q8;have hf:=DV (t:=l.page.addr.host) (a:=reqT l) (g:=false) q9)<;>obtain⟨n1,n2,n3,n4⟩:=q9<;>(try simp only[WJ] at *)<;>(try simp only[std,Nat.reduceAdd,rn1,rn2,rn3] at *)<;>(first|trivial|omega|skip)<;>(first|exact⟨O,O,O,O,O⟩|exact⟨O,O⟩|exact⟨O,⟨O,O⟩,O⟩|skip)<;>(have hs1:(useGuess l.guesses (reqT l)).2.1.body.size+(useGuess l.guesses (reqT l)).2.1.bm.size<=1048576:=hu;have hs2:(fetchNo l.net l.page.addr.host (reqT l) false).2.body.size+(fetchNo l.net l.page.addr.host (reqT l) false).2.bm.size<=1048576:=hf)<;>(first|exact⟨q1,O,O,O⟩|exact⟨O,O⟩|skip)<;>unfold requ<;>(first|(rw[G_ ‹_›];exact⟨rfl,rfl⟩)|(rw[F_ O]))<;>(first|(rw[G_ ‹_›];exact⟨rfl,rfl⟩)|(rw[F_ (by rw[show(useGuess l.guesses (reqT l)).2.2=false from ‹_›];decide)]))<;>(first|(rw[G_ O];exact⟨rfl,rfl⟩)|(rw[F_ O];exact⟨rfl,rfl⟩)|skip))
def AdA (l:List ao) (a:HO) (x:M_) (g:Bool):U GE (ope l a x g).1<=U GE l+(szAddr a+Ab x+1):=by
 unfold ope;split
 .simp only;omega
 .simp only;rw[Dj];simp only[GE];omega
def Gx (p:A_) (m:Int) (to d:ByteArray) (n:Int):(addS p m to d n).1.addr=p.addr:=by unfold addS;split<;>rfl
def XI (p:A_) (a:HO):(askM p a).addr=p.addr:=by unfold askM;split<;>rfl
def Ra (p:A_) (to:ByteArray):(addE p to).addr=p.addr:=by
 unfold addE;split
 .exact XI p _
 .rfl
def Sc (p:A_) (t:ai) (n:Int):(ele p t n).addr=p.addr:=by
 unfold ele;split
 .exact Gx ..
 .split
  .exact Gx ..
  .rfl
def Uo (p:A_) (n:Int):(scri p n).addr=p.addr:=by
 unfold scri;split
 .split<;>rfl
 .split
  .exact Gx ..
  .split
   .exact Ra ..
   .exact Gx p ..
def Xk (p:A_) (s:ByteArray):(say p s).addr=p.addr:=by unfold say;split<;>rfl
def Iq (p:A_) (c:ByteArray) (w:Bool):(runC p c w).addr=p.addr:=by unfold runC;split<;>rfl
def OE (p:A_):(takeToke p).1.addr=p.addr:=by
 unfold takeToke;split
 .rfl
 .show(takeT p _).addr=_;unfold takeT;split
  .exact Sc _ _ _
  .split
   .exact Uo _ _
   .rfl
def VD (p:A_):(stepP p).1.addr=p.addr:=by
 unfold stepP;split
 .unfold stepI;split
  .exact Iq _ _ _
  .rfl
 .split
  .unfold stepB;split
   .rfl
   .split
    .rfl
    .split
     .exact Iq _ _ _
     .rfl
  .exact OE p
def Kd (p:A_):∀ (l:List HO) (q:A_),(enterA p q l).addr=q.addr
 | [],q=>rfl
 | b::l,q=>by have:=Kd p l (enter1 p q b);refine this.trans ?_;unfold enter1;split<;>rfl
def Yy (p:A_) (a:HO):(enter p a).addr=p.addr:=by
 unfold enter;split
 .exact Xk _ _
 .exact Kd p _ p
def Z5 (p:A_):(stepT p).1.addr=p.addr:=by
 unfold stepT;split
 .rfl
 .split
  .unfold tai;split
   .rfl
   .split
    .exact Iq _ _ _
    .rfl
  .split
   .unfold tailE;split
    .rfl
    .exact Yy _ _
   .split
    .rfl
    .exact Xk _ _
def Qd:∀ (n:Nat) (p:A_),(adv n p).addr=p.addr
 | 0,p=>rfl
 | n+1,p=>by
  rw[adv];split
  .refine(Qd n _).trans ?_;unfold step1;split
   .exact VD p
   .exact Z5 p
  .rfl
def RR:∀ (l:List HO) (p:A_),(l.foldl askM p).addr=p.addr
 | [],p=>rfl
 | b::l,p=>(RR l (askM p b)).trans (XI p b)
def Ju (p:A_) (a:HO) (x:M_):(tak p a x).addr=p.addr:=by
 refine(Qd 2000 _).trans ?_;unfold fillMo;split
 .rfl
 .exact RR _ _
def needsTo (p:A_) (a:HO):Bool:=(nextN p).any λr=>decide (r.to=a)
def finis (l:N_) (c:ao):N_ :=
 if needsTo l.page c.to=true then(if c.guess=true then{ l with net:=keepA l.net l.page.addr.host c.to c.bd,page:=tak l.page c.to c.bd } else{ l with page:=tak l.page c.to c.bd })
 else if c.guess=true then{ l with guesses:=(addGuess l.guesses c.to c.bd).1 } else l
def fini (l:N_) (k:Int):N_:=finis { l with conns:=closeC l.conns k } (l.conns.getD k.toNat default)
def okFin (l:N_):Prop:=(okFM l.page/\l.page.bf.length+l.page.bi.length<=1000000000000)/\(l.conns.length<=1048576/\okCs l.conns)/\l.guesses.length<=4194304/\szNet l.net<=10000000000/\szCache l.net.cache<=90000000
def AjB {J:Type} [Inhabited J] (f:J->Bool) {l:List J} {i:Nat} (h:i<l.length):(l.drop i).any f=(f (l.getD i default)||(l.drop (i+1)).any f):=by rw[B_ h];rfl
def AfU {J:Type} (f:J->Bool) {l:List J} {i:Nat} (h:l.length<=i):(l.drop i).any f=false:=by rw[cx h];rfl
abbrev HZ:GS:=⟨[.g (.el .loader),.l (.v (.el .int))],[.el .loader],λ(x:cj)=>okFin x.1/\0<=x.2.1/\x.2.1<x.1.conns.length,λ(x:cj)=>((fini x.1 x.2.1,()),(()))⟩
abbrev BT (l:N_) (k:Int):LInv:=⟨[⟨.s,7,true,.el .int⟩,⟨.b,2,true,.el .loader⟩,⟨.b,4,true,.el .loader⟩,⟨.b,5,true,.el .conn⟩,⟨.s,6,true,.sl .request⟩],λ_ (x:dU)=>x.2.1={ l with conns:=closeC l.conns k }/\x.2.2.2.1=l.conns.getD k.toNat default/\x.2.2.2.2.1=nextN l.page/\0<=x.1/\x.1<=(nextN l.page).length/\((nextN l.page).drop x.1.toNat).any (λr=>decide (r.to=(l.conns.getD k.toNat default).to))=needsTo l.page (l.conns.getD k.toNat default).to,λ(x:dU)=>(nextN l.page).length-x.1.toNat⟩
def AnO:=Ang.G HZ<|GS.of (S:=HZ) (L:=λ⟨l,k,_⟩=>λ|5=>some (BT l k)|_=>none) (kp:=(KP [1,2,4,5,6,7] [24,34,36,59])) Ang.2 func189 k_ k_ (by
 rintro⟨(l:N_),(k:Int),_⟩ hp;refine ho (.ix k l.conns.length<|.cl IN (l.conns,k,()) λz2=>.cl Hm (l.page,()) λz3=>lpx (BT l k) ((0:Int),(({l with conns:=z2.1}:N_),(default,(l.conns.getD k.toNat default,(z3.1,()))))) λ(y5:dU) bk5=>let H_:=y5.2.2.2.2.1.getD y5.1.toNat default;.br (decide (y5.1<(y5.2.2.2.2.1.length:Int))) (.ix y5.1 y5.2.2.2.2.1.length<|.br (H_.to.host==y5.2.2.2.1.to.host&&(H_.to.path==y5.2.2.2.1.to.path&&true)) (.br (y5.2.2.2.1.guess) (.cl AW (y5.2.1.net,y5.2.1.page.addr.host,y5.2.2.2.1.to,y5.2.2.2.1.bd,()) λz4=>.cl EY (y5.2.1.page,y5.2.2.2.1.to,y5.2.2.2.1.bd,()) λz5=>GS.out HZ (({y5.2.1 with net:=z4.1,page:=z5.1},()),(()))) (.cl EY (y5.2.1.page,y5.2.2.2.1.to,y5.2.2.2.1.bd,()) λz6=>GS.out HZ (({y5.2.1 with page:=z6.1},()),(())))) (.re (Value.int IntKind.i64 k)<|.bk (bk5 (w1 y5.1,(y5.2.1,(y5.2.2.1,(y5.2.2.2.1,(y5.2.2.2.2.1,())))))))) (.br (y5.2.2.2.1.guess) (.cl Iy (y5.2.1.guesses,y5.2.2.2.1.to,y5.2.2.2.1.bd,()) λz7=>GS.out HZ (({y5.2.1 with guesses:=z7.1},()),(()))) (GS.out HZ ((y5.2.1,()),(()))))) ?_;repeat' (guard_target =~ Out.holds _ _;first|refine Ay (li:=BT l k) ?_ λ(y5:dU) i5=>?_|refine GS.leafY ?_|refine Z (λ_=>?_) λ_=>?_|refine Ai ?_ λ_=>?_|refine AR ?_|refine Al ?_|refine Ey ?_ λ_ _=>?_)
 all_goals obtain⟨⟨⟨q1,q2⟩,⟨q3,q4⟩,q5,q6,q7⟩,q8,q9⟩:=(show okFin l/\0<=k/\k<l.conns.length from hp)<;>(try simp only[WJ] at *)<;>(try simp only[std,Nat.reduceAdd] at *)<;>(first|trivial|omega|exact⟨O,O,rfl⟩|skip)<;>(have hc:=q4 _ (Ae (show k.toNat<l.conns.length from O));have hc1:(l.conns.getD k.toNat default).bd.body.size+(l.conns.getD k.toNat default).bd.bm.size<=1048576:=hc.1;have hok:=Ep (FU q1);have hn:=Ks l.page;have hh:l.page.addr.host.size<=4000000:=by have:=hok.2.1;simp only[szAddr] at this;omega)<;>(obtain⟨e1,e2,e3,a1,a2,a3⟩:=i5;simp only[e1,e2,e3,DP,az,cw] at *)<;>(first|trivial|omega|exact⟨O,O,O,O,O⟩|exact⟨q1,O,O,O⟩|skip)<;>(first|(have e:=AjB (λr:ax=>decide (r.to=(l.conns.getD k.toNat default).to)) (l:=nextN l.page) (i:=y5.1.toNat) O)|(have e:=AfU (λr:ax=>decide (r.to=(l.conns.getD k.toNat default).to)) (l:=nextN l.page) (i:=y5.1.toNat) O))<;>rw[a3] at e<;>(first|(rw[show decide (((nextN l.page).getD y5.1.toNat default).to=(l.conns.getD k.toNat default).to)=false from decide_eq_false ‹_›,Bool.false_or] at e;rw[AE O,show(y5.1+1).toNat=y5.1.toNat+1 from O];exact⟨⟨trivial,trivial,trivial,O,O,e.symm⟩,O⟩)|skip)<;>(first|(rw[show decide (((nextN l.page).getD y5.1.toNat default).to=(l.conns.getD k.toNat default).to)=true from cP ‹_›,Bool.true_or] at e)|skip)<;>(first|(have hg:(l.conns.getD k.toNat default).guess=true:=by assumption)|(have hg:(l.conns.getD k.toNat default).guess=false:=by assumption)|skip)<;>(unfold fini finis;dsimp only;simp only[e,hg,cD,aD,aS]))
def Gn {s:ByteArray} (h:isName s=true):s.size<=8:=by
 unfold isName at h;simp only[T_,az] at h;exact h.2.2
def Aak (p:aA):(formatP p).size<=300:=by
 unfold formatP;split
 .rename_i h;simp only[T_] at h;obtain⟨a1,a2,a3,a4,a5,a6,a7⟩:=Ea h.1 h.2;have b1:=Hy p.bt ⟨#[115,99,114,105,112,116]⟩ a1;have b2:=Hy p.styles ⟨#[115,116,121,108,101]⟩ a3;have b3:=Hy p.images ⟨#[105,109,103]⟩ a5;have c1:(⟨#[115,99,114,105,112,116]⟩:ByteArray).size=6:=rfl;have c2:(⟨#[115,116,121,108,101]⟩:ByteArray).size=5:=rfl;have c3:(⟨#[105,109,103]⟩:ByteArray).size=3:=rfl;have c4:(⟨#[59]⟩:ByteArray).size=1:=rfl;have c5:(⟨#[59,110,111,110,99,101,32]⟩:ByteArray).size=7:=rfl;split<;>(simp only[aQ];omega)
 .exact Nat.zero_le _
def Kr {x:M_} (h:isResponse x=true):Ab x<=700:=by
 unfold isResponse at h;simp only[T_,az] at h;obtain⟨_,_,h1,_,h2⟩:=h;have h3:x.bm.size<=300:=by
  unfold parseP at h2;split at h2
  .rename_i e;rw[e];exact Nat.zero_le _
  .split at h2
   .rename_i e;rw[<-e.2];exact Aak _
   .cases h2
 simp only[Ab];omega
def Xj {all:List bJ}:∀ {l:List bJ} {k:Int},entOk all l k=true->U AK l<=800*l.length
 | [],_,_=>X_ _
 | e::l,k,h=>by simp only[entOk,T_] at h;obtain⟨⟨⟨⟨⟨h1,h2,h3⟩,h4⟩,_⟩,_⟩,h5⟩:=h;have a1:=Gn h1;have a2:=Gn h2;have a3:=Gn h3;have a4:=Kr h4;have a5:=Xj h5;rw[Ah,aw];simp only[AK,szAddr];omega
def X5 {c:aZ} (h:isCache c=true):szCache c<=80000:=by
 unfold isCache at h;simp only[T_,az] at h;have:=Xj h.1;simp only[szCache];omega
def KB (c:aZ) (t:ByteArray) (a:HO) (x:M_) (now:Int) {B:Nat} (h:szCache c<=B) (hB:80000<=B):szCache (sto c t a x now)<=B:=by
 unfold sto;split
 .rename_i q;exact aP (X5 q.2.2.2) hB
 .exact h
def okNk (n:P_):Prop:=szNet n<=szCache n.cache+9000000000/\szCache n.cache<=90000000
def keep_okNk {n:P_} (h:okNk n) (t:ByteArray) (a:HO) (x:M_):okNk (keepA n t a x):=by
 unfold keepA;split
 .have:=KB n.cache t a x n.now h.2 O;refine⟨?_,this⟩;have h1:=h.1;simp only[szNet] at *;omega
 .exact h
def wB (x:M_):Nat:=min 400 x.body.size
def wCs (l:List ao):Nat:=(l.map λc=>wB c.bd).sum
def Aaw (p:aA) (r:ax) (x:M_):(usable p r x).1.size<=wB x:=by
 have h1:=KA p r x;have h2:(usable p r x).1.size<=x.body.size:=by
  unfold usable;split
  .exact X_ _
  .exact Nat.zero_le _
 unfold wB;omega
def OA {p:A_} {Q M R:Nat} (h:okAl p Q M R) (a:HO) (x:M_):okAl (fillMo p a x) Q (M+600*wB x) (R+20*wB x):=by
 have mono:∀ {q:A_} {M' R':Nat},okAl q Q M' R'->M'<=M+600*wB x->R'<=R+20*wB x->okAl q Q (M+600*wB x) (R+20*wB x):=λh hM hR=>by obtain⟨h1,h2,h3,⟨h4,h5,h6,h7⟩,h8⟩:=h;exact⟨h1,h2,h3,⟨h4,O,O,h7⟩,h8⟩
 unfold fillMo;split
 .exact mono h O O
 .rename_i hc;have h0:0<=findM p.bi a:=O
  have hd:(p.bi.getD (findM p.bi a).toNat default).done=false:=by
   cases hq:(p.bi.getD (findM p.bi a).toNat default).done with
   | false=>rfl
   | true=>exact absurd (.inr hq) hc
  obtain⟨i1,_⟩:=Ng (x:=x) h0;have i2:(impo (fillM0 p a x) a).1.length<=wB x:=by
   obtain⟨_,h2⟩:=D8 (fillM0 p a x) a;obtain⟨f1,f2⟩:=Gb p a x h0;rw[f1,f2] at h2;rcases h2 with h2|⟨_,h2⟩
   .rw[h2];exact Nat.zero_le _
   .exact aP h2 (Aaw ..)
  exact mono (TQ _ _ M R (NP h a x h0 hd) i1) O O
def IK {p:A_} {Q M R:Nat} (h:okAl p Q M R) (a:HO) (x:M_):okAl (tak p a x) (Q+740000) (M+600*wB x) (R+20*wB x):=by
 have:=MD h a x p.bf.length;rw[LF (X_ _)] at this;exact Pu (OA this a x)
def okPot (l:N_):Prop:=∃ Q M R,okAl l.page Q M R/\Q+740000*l.conns.length<=899000000000/\M+600*wCs l.conns<=49000000000/\R+20*wCs l.conns<=19000000000
def okT (l:N_):Prop:=okPot l/\(okCs l.conns/\l.conns.length<=1048576/\l.guesses.length+l.conns.length<=4194304)/\okNk l.net
def AaY {l:N_} (h:okT l):okFin l:=by
 obtain⟨⟨Q,M,R,h1,h2,h3,h4⟩,⟨h5,h6a,h6⟩,h7,h8⟩:=h;have hf:okFM l.page:=⟨Q,M,R,h1,O,O,O⟩;have hp:=Ep (FU hf);exact⟨⟨hf,O⟩,⟨O,h5⟩,O,O,h8⟩
def Hr {l:List ao} {k:Int} (h0:0<=k) (h:k<l.length):closeC l k=l.take k.toNat++l.drop (k.toNat+1):=by unfold closeC;rw[G_ ⟨h0,h⟩]
def J9 {l:List ao} {k:Int} (h0:0<=k) (h:k<l.length):(closeC l k).length+1=l.length:=by
 rw[Hr h0 h,al,cZ,fK];omega
def SX {l:List ao} {k:Int} (h0:0<=k) (h:k<l.length):wCs (closeC l k)+wB (l.getD k.toNat default).bd=wCs l:=by
 have e:l.take k.toNat++l.getD k.toNat default::l.drop (k.toNat+1)=l:=by rw[<-B_ (show k.toNat<l.length from O),dc]
 have g:wCs (l.take k.toNat++l.getD k.toNat default::l.drop (k.toNat+1))=wCs l:=by rw[e]
 rw[Hr h0 h];unfold wCs at *
 simp only[fu,aY,List.sum_append,List.sum_cons] at *
 omega
def AeJ {l:List ao} {k:Int} (h0:0<=k) (h:k<l.length):U GE (closeC l k)+(GE (l.getD k.toNat default)+1)=U GE l:=by
 have e:l.take k.toNat++l.getD k.toNat default::l.drop (k.toNat+1)=l:=by rw[<-B_ (show k.toNat<l.length from O),dc]
 have g:U GE (l.take k.toNat++l.getD k.toNat default::l.drop (k.toNat+1))=U GE l:=by rw[e]
 rw[Hr h0 h];rw[BR,Ah] at g;rw[BR];omega
def Xr {l:List ao} {k:Int} (h0:0<=k) (h:k<l.length) (ho:okCs l):okCs (closeC l k):=by
 rw[Hr h0 h];intro c hc;rcases ah.1 hc with q|q
 .exact ho c (fw q)
 .exact ho c (ft q)
def Xd (l:List bv) (a:HO) (x:M_):(addGuess l a x).1.length<=l.length+1:=by
 unfold addGuess;split
 .exact Nat.le_succ _
 .simp only[al,aw,bz];omega
def Akh (l:List bv) (a:HO) (x:M_):U Fz (addGuess l a x).1<=U Fz l+(szAddr a+Ab x+1):=by
 unfold addGuess;split
 .simp only;omega
 .simp only;rw[Dj];simp only[Fz];omega
def RT (l:N_) (k:Int):(fini l k).conns=closeC l.conns k:=by
 unfold fini finis;split
 .split<;>rfl
 .split<;>rfl
def Aez {l:N_} {k:Int} (h:okT l) (h0:0<=k) (hk:k<l.conns.length):okT (fini l k):=by
 obtain⟨⟨Q,M,R,h1,h2,h3,h4⟩,⟨h5,h6a,h6⟩,h7⟩:=h;have c1:=J9 h0 hk;have c2:=SX h0 hk;have c3:=Xr h0 hk h5;have ha:=IK h1 (l.conns.getD k.toNat default).to (l.conns.getD k.toNat default).bd;have hg:=Xd l.guesses (l.conns.getD k.toNat default).to (l.conns.getD k.toNat default).bd;unfold fini finis;dsimp only;split
 .split
  .exact⟨⟨_,_,_,ha,by dsimp only;omega,by dsimp only;omega,by dsimp only;omega⟩,⟨c3,by dsimp only;omega,by dsimp only;omega⟩,keep_okNk h7 _ _ _⟩
  .exact⟨⟨_,_,_,ha,by dsimp only;omega,by dsimp only;omega,by dsimp only;omega⟩,⟨c3,by dsimp only;omega,by dsimp only;omega⟩,h7⟩
 .split
  .exact⟨⟨_,_,_,h1,by dsimp only;omega,by dsimp only;omega,by dsimp only;omega⟩,⟨c3,by dsimp only;omega,by dsimp only;omega⟩,h7⟩
  .exact⟨⟨_,_,_,h1,by dsimp only;omega,by dsimp only;omega,by dsimp only;omega⟩,⟨c3,by dsimp only;omega,by dsimp only;omega⟩,h7⟩
def Ct:∀ (l:List ao) (z:Int),0<=z->-1<=fir l z/\fir l z<z+l.length/\(fir l z<0\/z<=fir l z)
 | [],z,h=>by
  rw[fir,bz];omega
 | c::l,z,h=>by have:=Ct l (z+1) O;rw[fir,aw];split<;>omega
def xfer:Nat->N_->N_
 | 0,l=>l
 | n+1,l=>if fir l.conns 0<0 then l else xfer n (fini l (fir l.conns 0))
def Adc {l:N_} (h:fir l.conns 0<0):∀ n,xfer n l=l
 | 0=>rfl
 | n+1=>by rw[xfer,G_ h]
def AjQ {l:N_} {n:Nat} (h:0<=fir l.conns 0):xfer (n+1) l=xfer n (fini l (fir l.conns 0)):=by rw[xfer,F_ O]
def moved (l:N_) (b:Int):N_:={ l with conns:=mov l.conns b }
def tra (l:N_) (b:Int):N_×Bool:=if l.conns.length=0\/inRange b 1 1000=false then(l,false) else(xfer l.conns.length (moved l b),true)
def AhH (l:List ao) (b:Int):wCs (mov l b)=wCs l:=by
 unfold mov;split
 .unfold wCs;rw[dz];rfl
 .rfl
def Ajt (l:List ao) (b:Int):U GE (mov l b)=U GE l:=by
 unfold mov;split
 .unfold U;rw[dz,cE];rfl
 .rfl
def Acd {l:List ao} (b:Int) (h:okCs l):okCs (mov l b):=by
 unfold mov;split
 .intro c hc;obtain⟨d,hd,rfl⟩:=bM.1 hc;exact h d hd
 .exact h
def Agm {l:N_} (h:okT l) (b:Int):okT (moved l b):=by
 obtain⟨⟨Q,M,R,h1,h2,h3,h4⟩,⟨h5,h6a,h6⟩,h7⟩:=h;have e1:=Dm l.conns b;have e2:=AhH l.conns b;unfold moved;exact⟨⟨Q,M,R,h1,by dsimp only;omega,by dsimp only;omega,by dsimp only;omega⟩,⟨Acd b h5,by dsimp only;omega,by dsimp only;omega⟩,h7⟩
def xInv (l0 l:N_) (n:Nat):Prop:=okT l/\l.conns.length<=n/\xfer n l=l0
def AaG {l0 l:N_} {n:Nat} (h:xInv l0 l (n+1)) (h0:0<=fir l.conns 0):xInv l0 (fini l (fir l.conns 0)) n:=by
 obtain⟨h1,h2,h3⟩:=h;have hd:=Ct l.conns 0 O;rw[AjQ h0] at h3;have hl:=J9 h0 (show fir l.conns 0<l.conns.length from O);exact⟨Aez h1 h0 O,by rw[RT];omega,h3⟩
def Acu {l0 l:N_} {n:Nat} (h:xInv l0 l n) (h0:fir l.conns 0<0):l=l0:=by
 have:=h.2.2
 rwa [Adc h0] at this
def okTr (l:N_):Prop:=okT l/\l.parts.length<=1000000000
def Rj {l:N_} (h:okT l) (hp:l.parts.length<=1000000000):szNet l.net<=68719476736/\Au l.page<=1099511627776/\l.parts.length<=1000000000/\l.conns.length<=1048576/\l.guesses.length<=4194304:=by
 have hf:=AaY h;have hq:=Ep (FU hf.1.1);exact⟨by have:=hf.2.2.2.1;omega,O,hp,hf.2.1.1,hf.2.2.1⟩
def AkT {l:N_} {b:Int} (h:l.conns.length=0\/inRange b 1 1000=false):tra l b=(l,false):=by unfold tra;rw[G_ h]
def AkG {l:N_} {b:Int} (h1:¬ l.conns.length=0) (h2:inRange b 1 1000=true):tra l b=(xfer l.conns.length (moved l b),true):=by
 unfold tra;rw[F_ (by rintro(q|q);exact h1 q;rw[h2] at q;cases q)]
def AkS {l:N_} (h:okT l) (b:Int):xInv (xfer l.conns.length (moved l b)) { net:=l.net,page:=l.page,parts:=l.parts,conns:=mov l.conns b,guesses:=l.guesses } l.conns.length:=⟨Agm h b,Nat.le_of_eq (Dm l.conns b),rfl⟩
abbrev Fq:Fct:=⟨[.v (.el .loader),.v (.el .int)],[.el .loader,.el .bool],λ(x:cj)=>okTr x.1,λ(x:cj)=>((tra x.1 x.2.1).1,(tra x.1 x.2.1).2,())⟩
abbrev Db (l:N_) (b:Int):LInv:=⟨[⟨.b,6,true,.el .loader⟩,⟨.s,7,true,.el .int⟩,⟨.b,2,false,.el .loader⟩,⟨.b,4,true,.el .loader⟩],λ(z x:dV)=>((0<=x.2.1/\x.2.1<=l.conns.length/\xInv (xfer l.conns.length (moved l b)) x.1 (l.conns.length-x.2.1.toNat))/\x.2.2.1=z.2.2.1)/\x.2.2.2.1=z.2.2.2.1,λ(x:dV)=>l.conns.length-x.2.1.toNat⟩
def ApX:=AnO.a Fq<|Fct.p (KP [1,2,4,5,6,7,8] [19,30,37]) (λ⟨l,b,_⟩=>lv [(6,Db l b)]) AnO.2 func134 (by
 rintro⟨(l:N_),(b:Int),_⟩ hp;refine ho (.cl C8 (l,()) λz2=>.br ((l.conns.length:Int)==0) (.lf Fq (z2.1,false,())) (.cl Ap (b,(1:Int),(1000:Int),()) λz3=>.br (!z3.1) (.lf Fq (z2.1,false,())) (.cl Af3 (l.conns,b,()) λz4=>lpx (Db l b) ((⟨z2.1.net,z2.1.page,z2.1.parts,z4.1,z2.1.guesses⟩:N_),((0:Int),(l,(default,())))) λ(y5:dV) bk5=>.br (decide (y5.2.1<(y5.2.2.1.conns.length:Int))) (.cl Wm (y5.1.conns,()) λ(z5:D_)=>.br (decide (z5.1<0)) (.lf Fq (y5.1,true,())) (.ob (HZ.pre (y5.1,z5.1,()))<|.lt _ (HZ.fn (y5.1,z5.1,())) λz6=>.re (Value.int IntKind.i64 b)<|.bk (bk5 (z6.1.1,(w1 y5.2.1,(y5.2.2.1,(y5.2.2.2.1,()))))))) (.lf Fq (y5.1,true,()))))) ?_;refine Ai ?_ λ_=>(Z (λh2=>Y ?_) λh2=>Ai trivial λ_=>Z (λh3=>Y ?_) λh3=>Ai ?_ λ_=>Ay ?_ λ(y5:dV) i5=>Z (λh6=>Ai ?_ λ_=>Z (λh8=>Y ?_) λh8=>Ad ?_ λ_=>K6 (Al<|AR ?_)) λh6=>Y ?_)<;>obtain⟨q1,q2⟩:=(show okTr l from hp)<;>(have hc:=Rj q1 q2;try simp only[WJ] at *)<;>(try simp only[std,Nat.reduceAdd] at *)<;>(first|trivial|omega|exact hc|exact hc.2.2.2.1|(rw[AkT (.inl O)];exact⟨rfl,rfl⟩)|(rw[AkT (.inr ‹_›)];exact⟨rfl,rfl⟩)|exact⟨O,O,AkS q1 b⟩|skip)<;>(obtain⟨⟨⟨a1,a2,a3⟩,e1⟩,e2⟩:=i5;simp only[e1] at *)<;>(have hf:=AaY a3.1;have hd:=Ct y5.1.conns 0 O;have ha:=a3.2.1)<;>(first|trivial|omega|exact hf.2.1.1|exact⟨hf,O,O⟩|(rw[AkG O ‹_›];exact⟨Acu a3 O,rfl⟩)|skip)<;>rw[show l.conns.length-y5.2.1.toNat=(l.conns.length-(y5.2.1.toNat+1))+1 from O] at a3<;>rw[AE O,show(y5.2.1+1).toNat=y5.2.1.toNat+1 from O]<;>exact⟨⟨⟨⟨O,O,AaG a3 O⟩,by trivial⟩,e2⟩,O⟩)
def AlF {l:N_} {k:Int} (h0:0<=k) (hk:k<l.conns.length):U GE (fini l k).conns+U Fz (fini l k).guesses<=U GE l.conns+U Fz l.guesses:=by
 have c1:=AeJ h0 hk;have hg:=Akh l.guesses (l.conns.getD k.toNat default).to (l.conns.getD k.toNat default).bd;rw[RT];simp only[GE] at c1;unfold fini finis;split
 .split<;>(dsimp only;omega)
 .split<;>(dsimp only;omega)
def ac (l:N_) (n:Int):N_×Bool:=if n=0 then arri l else if n=1 then requ l else if n=2 then guessN l else if n=3 then tra l 20 else tra l 200
def okAct (l:N_):Prop:=okArr l/\okRN l/\okGN l/\okTr l
abbrev Aig:Fct:=⟨[.v (.el .loader),.v (.el .int)],[.el .loader,.el .bool],λ(x:cj)=>okAct x.1,λ(x:cj)=>((ac x.1 x.2.1).1,(ac x.1 x.2.1).2,())⟩
def Aod:=ApX.a Aig<|Fct.o (KP [1,2,4,5,6] [7,13,19,25]) ApX.2 func100 (by
 rintro⟨(l:N_),(n:Int),_⟩ hp;refine ho (.br (n==0) (.cl EV (l,()) λz2=>.lf Aig (z2.1,z2.2.1,())) (.br (n==1) (.cl DW (l,()) λz3=>.lf Aig (z3.1,z3.2.1,())) (.br (n==2) (.cl EW (l,()) λz4=>.lf Aig (z4.1,z4.2.1,())) (.br (n==3) (.cl Fq (l,(20:Int),()) λz5=>.lf Aig (z5.1,z5.2.1,())) (.cl Fq (l,(200:Int),()) λz6=>.lf Aig (z6.1,z6.2.1,())))))) ?_;repeat' (guard_target =~ Out.holds _ _;first|refine Y ?_|refine Z (λ_=>?_) λ_=>?_|refine Ai ?_ λ_=>?_)
 all_goals obtain⟨w1,w2,w4,w3⟩:=(show okAct l from hp)<;>(try simp only[std,Nat.reduceAdd] at *)<;>(first|trivial|omega|exact w1|exact w2|exact w3|exact w4|skip)<;>unfold ac<;>(repeat first|(rw[G_ O];exact⟨rfl,rfl⟩)|rw[F_ O])<;>(first|exact⟨rfl,rfl⟩|skip))
def stepR (l:N_) (c:Int):Nat->N_×Bool
 | 0=>(l,false)
 | n+1=>if(ac l ((max 0 c % 5+(4-(n:Int))) % 5)).2=true then(ac l ((max 0 c % 5+(4-(n:Int))) % 5)) else stepR l c n
def stepL (l:N_) (c:Int):N_×Bool:=stepR l c 5
def tm5 {a:Int} (h:0<=a):Int.tmod a 5=a % 5:=Int.tmod_eq_emod_of_nonneg h
def AmZ {l:N_} {c i:Int} (h0:0<=i) (h5:i<5):stepR l c (5-i.toNat)=if(ac l ((IntKind.i64.wrap (Int.tmod (max 0 c) 5+i)).tmod 5)).2=true then ac l ((IntKind.i64.wrap (Int.tmod (max 0 c) 5+i)).tmod 5) else stepR l c (5-(i.toNat+1)):=by
 have e:(IntKind.i64.wrap (Int.tmod (max 0 c) 5+i)).tmod 5=(max 0 c % 5+(4-((5-(i.toNat+1):Nat):Int))) % 5:=by rw[tm5 (show 0<=max 0 c from O),AE O,tm5 O,show(4-((5-(i.toNat+1):Nat):Int))=i from O]
 rw[e,show 5-i.toNat=(5-(i.toNat+1))+1 from O];rw[stepR]
def AmV {l:N_} {c i:Int} (h:5<=i):stepR l c (5-i.toNat)=(l,false):=by rw[show 5-i.toNat=0 from O];rfl
abbrev Ij:Fct:=⟨[.v (.el .loader),.v (.el .int)],[.el .loader,.el .bool],λ(x:cj)=>okAct x.1,λ(x:cj)=>((stepL x.1 x.2.1).1,(stepL x.1 x.2.1).2,())⟩
abbrev C4 (l:N_) (c:Int):LInv:=⟨[⟨.s,7,true,.el .int⟩,⟨.b,2,false,.el .loader⟩,⟨.b,4,true,.el .loader⟩],λ(z x:dW)=>((0<=x.1/\x.1<=5/\stepR l c (5-x.1.toNat)=stepL l c)/\x.2.1=z.2.1)/\x.2.2.1=z.2.2.1,λ(x:dW)=>5-x.1.toNat⟩
def AnZ:=Aod.a Ij<|Fct.p (KP [1,2,4,5,6,7,8,9] [14,26]) (λ⟨l,c,_⟩=>lv [(3,C4 l c)]) Aod.2 func51 (by
 rintro⟨(l:N_),(c:Int),_⟩ hp;refine ho (.cl Akt ((0:Int),c,()) λ(z2:D_)=>.ob ((5:Int)≠(0:Int))<|lpx (C4 l c) ((0:Int),(l,(default,()))) λ(y2:dW) bk2=>.br (decide (y2.1<5)) (.ob ((5:Int)≠(0:Int))<|.cl Aig (y2.2.1,(wr (z2.1.tmod (5:Int)+y2.1)).tmod (5:Int),()) λz3=>.br (z3.2.1) (.lf Ij (z3.1,true,())) (.re (Value.int IntKind.i64 c)<|.re (Value.int IntKind.i64 (z2.1.tmod (5:Int)))<|.bk (bk2 (w1 y2.1,(y2.2.1,(y2.2.2.1,())))))) (.cl C8 (y2.2.1,()) λz4=>.lf Ij (z4.1,false,()))) ?_;refine Ai trivial λ_=>(Ad ?_ λ_=>Ay ?_ λ(y2:dW) i2=>Z (λh3=>Ad ?_ λ_=>Ai ?_ λ_=>Z (λh6=>Y ?_) λh6=>Al<|Al<|AR ?_) λh3=>Ai ?_ λ_=>Y ?_)<;>(have hq:=(show okAct l from hp);have hw:=hq.2.2.2;try simp only[std,Nat.reduceAdd] at *)<;>(first|trivial|omega|exact⟨O,O,rfl⟩|skip)<;>(obtain⟨⟨⟨a1,a2,a3⟩,e1⟩,e2⟩:=i2;simp only[e1] at *)<;>(first|trivial|omega|exact hq|exact Rj hw.1 hw.2|skip)<;>(first|(rw[AmV O] at a3;rw[<-a3];exact⟨rfl,rfl⟩)|rw[AmZ a1 O] at a3)<;>(first|(rw[G_ ‹_›] at a3;rw[<-a3];exact⟨rfl,Eq.symm ‹_›⟩)|(rw[F_ λq=>tf q ‹_›] at a3;rw[AE O,show(y2.1+1).toNat=y2.1.toNat+1 from O];exact⟨⟨⟨⟨O,O,a3⟩,by trivial⟩,e2⟩,O⟩)))
def Kp (p:A_):Prop:=okTo p/\-9223372036854775808<=p.block/\p.block<=9223372036854775807
def Xg {p q:A_} (h:Kp p) (hs:q.bf=p.bf) (hm:q.bi=p.bi) (hb:q.block=p.block):Kp q:=by
 unfold Kp okTo at *
 rw[hs,hm,hb];exact h
def Yk (p:A_) (m:Int) (to d:ByteArray) (n:Int):(newS p m to d n).to=(par to p.addr.host).1:=by unfold newS;split<;>rfl
def V6 {p:A_} (h:Kp p) (m:Int) (to d:ByteArray) (n:Int):Kp (addS p m to d n).1:=by
 unfold addS;split
 .refine⟨⟨λs hs=>?_,h.1.2⟩,h.2⟩;rcases ah.1 hs with q|q
  .exact h.1.1 s q
  .rw[List.mem_singleton.1 q,Yk];have:=FT to p.addr.host;omega
 .exact h
def Al1 {p:A_} (h:Kp p) {a:HO} (ha:szAddr a<=16):Kp (askM p a):=by
 unfold askM;split
 .exact h
 .refine⟨⟨h.1.1,λm hm=>?_⟩,h.2⟩;rcases ah.1 hm with q|q
  .exact h.1.2 m (fw q)
  .rcases au.1 q with q|q
   .rw[q];have e:(newM p a).to=a:=by unfold newM;first|rfl|(split<;>rfl)
    rw[e];omega
   .exact h.1.2 m (ft q)
def AiN {p:A_} (h:Kp p) (to:ByteArray):Kp (addE p to):=by
 unfold addE;split
 .exact Xg (Al1 h (FT to p.addr.host)) rfl rfl rfl
 .exact h
def Aci {p:A_} (h:Kp p) (t:ai) (n:Int):Kp (ele p t n):=by
 unfold ele;split
 .exact V6 h ..
 .split
  .exact V6 h ..
  .exact h
def AfC {p:A_} (h:Kp p) (n:Int):Kp (scri p n):=by
 unfold scri;split
 .split
  .exact Xg h rfl rfl rfl
  .exact h
 .split
  .exact V6 h ..
  .split
   .exact AiN h ..
   .have hb:=O9 p 3 ((findAttr (p.ba.bj.getD n.toNat default).bq ⟨#[115,114,99]⟩).getD ⟨#[]⟩) ((findAttr (p.ba.bj.getD n.toNat default).bq ⟨#[100,105,103,101,115,116]⟩).getD ⟨#[]⟩) n;exact⟨(V6 h ..).1,by dsimp only;omega,by dsimp only;omega⟩
def Alz {p:A_} (h:Kp p) (s:ByteArray):Kp (say p s):=by
 unfold say;split
 .exact Xg h rfl rfl rfl
 .exact h
def Aj9 {p:A_} (h:Kp p) (c:ByteArray) (w:Bool):Kp (runC p c w):=by
 unfold runC;split
 .exact Xg h rfl rfl rfl
 .exact Xg h rfl rfl rfl
def AiR {p:A_} (h:Kp p):Kp (takeToke p).1:=by
 unfold takeToke;split
 .exact h
 .have ht:Kp (taken p (p.bp.getD 0 default)):=Xg h rfl rfl rfl;show Kp (takeT p _);unfold takeT;split
  .exact Aci ht _ _
  .split
   .exact AfC ht _
   .exact ht
def Aj0 {p:A_} (h:Kp p):Kp { p with block:=0 }:=⟨h.1,by dsimp only;omega,by dsimp only;omega⟩
def Af9 {p:A_} (h:Kp p):Kp (stepP p).1:=by
 unfold stepP;split
 .unfold stepI;split
  .exact Xg (Aj9 h _ _) rfl rfl rfl
  .exact h
 .split
  .unfold stepB;split
   .exact Aj0 h
   .split
    .exact h
    .split
     .exact Aj0 (Aj9 h _ _)
     .exact Aj0 h
  .exact AiR h
def O1 (p:A_):∀ (l:List HO) (q:A_),Kp q->Kp (enterA p q l)
 | [],q,h=>h
 | b::l,q,h=>by
  refine O1 p l (enter1 p q b) ?_;unfold enter1;split
  .exact h
  .exact Xg h rfl rfl rfl
def Aiu {p:A_} (h:Kp p) (a:HO):Kp (enter p a):=by
 unfold enter;split
 .exact Alz h _
 .exact O1 p _ p h
def Ak6 {p:A_} (h:Kp p):Kp (stepT p).1:=by
 unfold stepT;split
 .exact h
 .split
  .unfold tai;split
   .exact h
   .split
    .exact Xg (Aj9 h _ _) rfl rfl rfl
    .exact Xg h rfl rfl rfl
  .split
   .unfold tailE;split
    .exact h
    .exact Xg (Aiu h _) rfl rfl rfl
   .split
    .exact h
    .exact Xg (Alz h _) rfl rfl rfl
def AiM:∀ (n:Nat) (p:A_),Kp p->Kp (adv n p)
 | 0,p,h=>h
 | n+1,p,h=>by
  rw[adv];split
  .refine AiM n _ ?_;unfold step1;split
   .exact Af9 h
   .exact Ak6 h
  .exact h
def Ag1:∀ (l:List HO) (p:A_),Kp p->(∀ b,b∈l->b.host.size<=8/\b.path.size<=8)->Kp (l.foldl askM p)
 | [],p,h,_=>h
 | b::l,p,h,hb=>Ag1 l (askM p b) (Al1 h (by have:=hb b dx;simp only[szAddr];omega)) λc hc=>hb c (cY _ hc)
def AgJ (p:A_) (a:HO) (x:M_) (s:av):(fillF p a x s).to=s.to:=by
 unfold fillF;split
 .unfold fillS;split<;>rfl
 .rfl
def KO {J:Type} {f:J->J} {m:J}:∀ {l:List J} {i:Nat},m∈l.modify i f->m∈l\/∃ z,z∈l/\m=f z
 | [],0,h=>.inl h
 | [],_+1,h=>.inl h
 | z::l,0,h=>by
  rcases au.1 (show m∈f z::l from h) with q|q
  .exact .inr ⟨z,dx,q⟩
  .exact .inl (cY _ q)
 | z::l,i+1,h=>by
  rcases au.1 (show m∈z::l.modify i f from h) with q|q
  .exact .inl (by rw[q];exact dx)
  .rcases KO q with q|⟨w,h1,h2⟩
   .exact .inl (cY _ q)
   .exact .inr ⟨w,cY _ h1,h2⟩
def AgF {p:A_} (h:Kp p) (a:HO) (x:M_):Kp (fillM0 p a x):=by
 refine⟨⟨h.1.1,λm hm=>?_⟩,h.2⟩;rcases KO (show m∈p.bi.modify (findM p.bi a).toNat (fillM p x) from hm) with q|⟨z,h1,h2⟩
 .exact h.1.2 m q
 .rw[h2];exact h.1.2 z h1
def Mw {p:A_} (h:Kp p) (a:HO) (x:M_):Kp (tak p a x):=by
 have h1:Kp (fil p a x):=by refine⟨⟨λs hs=>?_,h.1.2⟩,h.2⟩;obtain⟨z,hz,rfl⟩:=bM.1 (show s∈p.bf.map (fillF p a x) from hs);rw[AgJ];exact h.1.1 z hz
 refine AiM 2000 _ ?_;unfold fillMo;split
 .exact h1
 .rename_i hc;exact Ag1 _ _ (AgF h1 a x) (Ng (x:=x) (show 0<=findM (fil p a x).bi a from O)).1
def Ak7 {p:A_} (h:Kp p) (s:ByteArray):Kp (arriveT p s):=by
 unfold arriveT;split
 .exact h
 .exact Xg h rfl rfl rfl
def Ams {p:A_} (h:Kp p):Kp (endPage p):=by
 unfold endPage;split
 .exact h
 .exact Xg h rfl rfl rfl
def Hz (p:A_) (m:Int) (to d:ByteArray) (n:Int):(addS p m to d n).1.tok=p.tok:=by unfold addS;split<;>rfl
def Acv (p:A_) (a:HO):(askM p a).tok=p.tok:=by unfold askM;split<;>rfl
def SU (p:A_) (to:ByteArray):(addE p to).tok=p.tok:=by
 unfold addE;split
 .exact Acv p _
 .rfl
def TS (p:A_) (t:ai) (n:Int):(ele p t n).tok=p.tok:=by
 unfold ele;split
 .exact Hz ..
 .split
  .exact Hz ..
  .rfl
def Y9 (p:A_) (n:Int):(scri p n).tok=p.tok:=by
 unfold scri;split
 .split<;>rfl
 .split
  .exact Hz ..
  .split
   .exact SU ..
   .exact Hz p ..
def AaM (p:A_) (s:ByteArray):(say p s).tok=p.tok:=by unfold say;split<;>rfl
def JJ (p:A_) (c:ByteArray) (w:Bool):(runC p c w).tok=p.tok:=by unfold runC;split<;>rfl
def QT (p:A_):(takeToke p).1.tok=p.tok:=by
 unfold takeToke;split
 .rfl
 .show(takeT p _).tok=_;unfold takeT;split
  .exact TS _ _ _
  .split
   .exact Y9 _ _
   .rfl
def Za (p:A_):(stepP p).1.tok=p.tok:=by
 unfold stepP;split
 .unfold stepI;split
  .exact JJ _ _ _
  .rfl
 .split
  .unfold stepB;split
   .rfl
   .split
    .rfl
    .split
     .exact JJ _ _ _
     .rfl
  .exact QT p
def LN (p:A_):∀ (l:List HO) (q:A_),(enterA p q l).tok=q.tok
 | [],q=>rfl
 | b::l,q=>by have:=LN p l (enter1 p q b);refine this.trans ?_;unfold enter1;split<;>rfl
def AbU (p:A_) (a:HO):(enter p a).tok=p.tok:=by
 unfold enter;split
 .exact AaM _ _
 .exact LN p _ p
def Ae7 (p:A_):(stepT p).1.tok=p.tok:=by
 unfold stepT;split
 .rfl
 .split
  .unfold tai;split
   .rfl
   .split
    .exact JJ _ _ _
    .rfl
  .split
   .unfold tailE;split
    .rfl
    .exact AbU _ _
   .split
    .rfl
    .exact AaM _ _
def Ve:∀ (n:Nat) (p:A_),(adv n p).tok=p.tok
 | 0,p=>rfl
 | n+1,p=>by
  rw[adv];split
  .refine(Ve n _).trans ?_;unfold step1;split
   .exact Za p
   .exact Ae7 p
  .rfl
def W4:∀ (l:List HO) (p:A_),(l.foldl askM p).tok=p.tok
 | [],p=>rfl
 | b::l,p=>(W4 l (askM p b)).trans (Acv p b)
def KU (p:A_) (a:HO) (x:M_):(tak p a x).tok=p.tok:=by
 refine(Ve 2000 _).trans ?_;unfold fillMo;split
 .rfl
 .exact W4 _ _
def Aal {all:List bJ}:∀ {l:List bJ} {k:Int},entOk all l k=true->∀ e,e∈l->Ab e.bd<=700
 | [],_,_,e,he=>by cases he
 | y::l,k,h,e,he=>Kr (I4 h e he)
def okNg (G:Nat) (n:P_):Prop:=U Af n.servers<=1048576/\szCache n.cache<=2097152/\(∀ e,e∈n.cache.bh->Ab e.bd<=1048576)/\U Fw n.log+2100000*G<=7000000000
def UK {G:Nat} {n:P_} (h:okNg G n):okNt n:=⟨by simp only[szNet];have:=h.1;have:=h.2.1;have:=h.2.2.2;omega,by have:=h.2.1;omega,h.1,h.2.2.1⟩
def Am3 {G:Nat} {n:P_} (h:okNg G n):okNk n:=⟨by simp only[szNet];have:=h.1;have:=h.2.2.2;omega,by have:=h.2.1;omega⟩
def KF {G:Nat} {n:P_} (h:okNg (G+1) n):okNg G n:=⟨h.1,h.2.1,h.2.2.1,by have:=h.2.2.2;omega⟩
def keep_ng {G:Nat} {n:P_} (h:okNg G n) (t:ByteArray) (a:HO) (x:M_):okNg G (keepA n t a x):=by
 unfold keepA;split
 .refine⟨h.1,KB n.cache t a x n.now h.2.1 O,λe he=>?_,h.2.2.2⟩;have he:e∈(sto n.cache t a x n.now).bh:=he;unfold sto at he;split at he
  .rename_i q;have q:=q.2.2.2;unfold isCache at q;rw[T_] at q;exact aP (Aal q.1 e he) O
  .exact h.2.2.1 e he
 .exact h
def AhR {G:Nat} {n:P_} (h:okNg (G+1) n) {t:ByteArray} {a:HO} (g:Bool) (ht:t.size<=2097152) (ha:szAddr a<=16):okNg G (logS n t a g):=by
 have h4:=h.2.2.2;unfold logS;split
 .refine⟨h.1,h.2.1,h.2.2.1,?_⟩;show U Fw (n.log++[⟨t,a,g⟩])+2100000*G<=7000000000;rw[Dj];simp only[Fw];omega
 .exact KF h
def L8 {G:Nat} {n:P_} (h:okNg (G+1) n) {t:ByteArray} (a:HO) (g:Bool) (ht:t.size<=2097152):okNg G (fetchNo n t a g).1:=by
 unfold fetchNo;split
 .exact KF h
 .rename_i hn;split
  .exact KF h
  .have ha:szAddr a<=16:=by
    have e:(isName a.host&&isName a.path)=true:=by
     cases q:(isName a.host&&isName a.path) with
     | true=>rfl
     | false=>exact absurd (by first|exact q|(rw[q];rfl)|(simp[q])) hn
    rw[T_] at e;have a1:=Gn e.1;have a2:=Gn e.2;simp only[szAddr];omega
   dsimp only;split
   .exact AhR h g ht ha
   .exact keep_ng (AhR h g ht ha) _ _ _
def okL (G:Nat) (l:N_):Prop:=(∃ Q M R,okAl l.page Q M R/\Q+740000*l.conns.length+8000000*G<=889000000000/\M+600*wCs l.conns+250000*G<=48000000000/\R+20*wCs l.conns+10000*G<=18000000000)/\(Kp l.page/\l.page.addr.host.size<=2097152/\l.page.tok.rest.size+U Ag l.parts<=2900000)/\(okCs l.conns/\l.conns.length<=1048576/\l.guesses.length+l.conns.length+G<=4194304/\okGs l.guesses)/\okNg G l.net
def Gu {G:Nat} {l:N_} (h:okL (G+1) l):okL G l:=by
 obtain⟨⟨Q,M,R,h1,h2,h3,h4⟩,h5,⟨h6,h7,h8,h9⟩,h10⟩:=h;exact⟨⟨Q,M,R,h1,O,O,O⟩,h5,⟨h6,h7,O,h9⟩,KF h10⟩
def M7 {G:Nat} {l:N_} (h:okL G l):okAct l:=by
 obtain⟨⟨Q,M,R,h1,h2,h3,h4⟩,⟨k1,k2,k3⟩,⟨h6,h7,h8,h9⟩,h10⟩:=h;have hf:okFM l.page:=⟨Q,M,R,h1,O,O,O⟩;have hp:=Ep (FU hf);have hn:=UK h10;have hl:=Ac Ag l.parts;refine⟨⟨⟨by have:=hn.1;omega,h7,O⟩,k3,Q,M,R,h1,O,O,O⟩,⟨⟨⟨hf,k1.1,O⟩,k1.2.1,k1.2.2,O⟩,⟨h7,h6⟩,⟨O,h9⟩,hn⟩,⟨hn,⟨hp.1,λt ht=>?_,O⟩,O,h7,O⟩,⟨⟨Q,M,R,h1,O,O,O⟩,⟨h6,h7,O⟩,Am3 h10⟩,O⟩;have:=h1.1.1 t ht;omega
def Aki {l:N_}:(arr l).addr=l.page.addr:=by
 unfold arr;have e:(arriveT l.page (l.parts.getD 0 default)).addr=l.page.addr:=by unfold arriveT;split<;>rfl
 split
 .refine Eq.trans ?_ e;unfold endPage;split<;>rfl
 .exact e
def Qu {G:Nat} {l:N_} (h:okL (G+1) l):okL G (arri l).1:=by
 by_cases hp:l.parts.length=0
 .rw[Ag2 hp];exact Gu h
 .rw[T6 hp];obtain⟨⟨Q,M,R,h1,h2,h3,h4⟩,⟨k1,k2,k3⟩,⟨h6,h7,h8,h9⟩,h10⟩:=h;have hg:=B_ (l:=l.parts) (i:=0) O;have hz:U Ag l.parts=(l.parts.getD 0 default).size+1+U Ag (l.parts.drop 1):=by have e:U Ag l.parts=U Ag (l.parts.drop 0):=rfl;rw[e,hg,Ah]
  obtain⟨a1,a2,a3⟩:=AhJ h1 O;have hk:Kp (arr l):=by
   unfold arr;split
   .exact Ams (Ak7 k1 _)
   .exact Ak7 k1 _
  have et:(adva (arr l)).tok=(arr l).tok:=Ve 2000 _;have ea:(adva (arr l)).addr=l.page.addr:=(Qd 2000 _).trans Aki;refine⟨⟨_,_,_,Pu a2,by dsimp only;omega,by dsimp only;omega,by dsimp only;omega⟩,⟨AiM 2000 _ hk,by dsimp only;rw[ea];exact k2,by dsimp only;rw[et];omega⟩,⟨h6,h7,by dsimp only;omega,h9⟩,KF h10⟩
def Ab1 {l:List ao} {a:HO} {x:M_} {g:Bool} (h:okCs l) (ha:szAddr a<=4000000) (hx:Ab x<=1048576):okCs (ope l a x g).1/\(ope l a x g).1.length<=l.length+1/\((ope l a x g).1.length<=3\/(ope l a x g).1.length<=l.length)/\wCs (ope l a x g).1<=wCs l+400:=by
 unfold ope;split
 .exact⟨h,Nat.le_succ _,.inr (X_ _),bN _ _⟩
 .rename_i q;refine⟨λc hc=>?_,by simp only[al,aw,bz];omega,.inl (by simp only[al,aw,bz];omega),?_⟩
  .rcases ah.1 hc with q|q
   .exact h c q
   .rw[List.mem_singleton.1 q];exact⟨hx,ha⟩
  .unfold wCs;simp only[fu,aY,List.map_nil,List.sum_append,List.sum_cons,List.sum_nil];have:wB x<=400:=Nat.min_le_left _ _;omega
def Ai3 {l:List bv} (h:okGs l) (a:HO):okGs (useGuess l a).1/\(useGuess l a).1.length=l.length:=by
 unfold useGuess;split
 .exact⟨h,rfl⟩
 .refine⟨λg hg=>?_,List.length_modify ..⟩;rcases KO hg with q|⟨z,h1,h2⟩
  .exact h g q
  .rw[h2];exact h z h1
def Sa {G:Nat} {l:N_} (h:okL (G+1) l):okL G (requ l).1:=by
 have hm:=Gu h;obtain⟨⟨Q,M,R,h1,h2,h3,h4⟩,⟨k1,k2,k3⟩,⟨h6,h7,h8,h9⟩,h10⟩:=h;have hn:=UK h10;unfold requ;split
 .exact hm
 .rename_i hk;have ht:=Aja (l:=l) k1.1 O;split
  .obtain⟨g1,g2⟩:=Ai3 h9 (reqT l);have hw:wB (useGuess l.guesses (reqT l)).2.1<=400:=Nat.min_le_left _ _;have et:(tak l.page (reqT l) (useGuess l.guesses (reqT l)).2.1).tok=l.page.tok:=KU ..;have ea:(tak l.page (reqT l) (useGuess l.guesses (reqT l)).2.1).addr=l.page.addr:=Ju ..;exact⟨⟨_,_,_,IK h1 (reqT l) (useGuess l.guesses (reqT l)).2.1,by dsimp only;omega,by dsimp only;omega,by dsimp only;omega⟩,⟨Mw k1 _ _,by dsimp only;rw[ea];exact k2,by dsimp only;rw[et];exact k3⟩,⟨h6,h7,by dsimp only;omega,g1⟩,keep_ng (KF h10) _ _ _⟩
  .split
   .exact hm
   .obtain⟨o1,o2,o3,o4⟩:=Ab1 (g:=false) h6 ht (DV (t:=l.page.addr.host) (a:=reqT l) (g:=false) hn);exact⟨⟨Q,M,R,h1,by dsimp only;omega,by dsimp only;omega,by dsimp only;omega⟩,⟨k1,k2,k3⟩,⟨o1,by dsimp only;omega,by dsimp only;omega,h9⟩,L8 h10 _ _ k2⟩
def Ag8 {G:Nat} {l:N_} (h:okL (G+1) l):∀ m:List HO,(∀ a,a∈m->szAddr a<=16)->okL G (nex l m).1
 | [],_=>Gu h
 | a::m,hm=>by
  rw[nex];split
  .exact Ag8 h m λb hb=>hm b (cY _ hb)
  .obtain⟨⟨Q,M,R,h1,h2,h3,h4⟩,⟨k1,k2,k3⟩,⟨h6,h7,h8,h9⟩,h10⟩:=h;have ha:=hm a dx;obtain⟨o1,o2,o3,o4⟩:=Ab1 (g:=true) h6 (show szAddr a<=4000000 from O) (DV (t:=l.page.addr.host) (a:=a) (g:=true) (UK h10));exact⟨⟨Q,M,R,h1,by dsimp only;omega,by dsimp only;omega,by dsimp only;omega⟩,⟨k1,k2,k3⟩,⟨o1,by dsimp only;omega,by dsimp only;omega,h9⟩,L8 h10 _ _ k2⟩
def AbJ {G:Nat} {l:N_} (h:okL (G+1) l):okL G (guessN l).1:=by
 unfold guessN;split
 .exact Gu h
 .refine Ag8 h _ λa ha=>?_
  obtain⟨i,hi,he⟩:=List.mem_iff_getElem.1 ha;have:=IB (p:=l.page) hi;rw[bB,aH hi,he] at this;exact this
def Aj3 {l:List bv} {a:HO} {x:M_} (h:okGs l) (hx:Ab x<=1048576):okGs (addGuess l a x).1:=by
 unfold addGuess;split
 .exact h
 .intro g hg;rcases ah.1 hg with q|q
  .exact h g q
  .rw[List.mem_singleton.1 q];exact hx
def AfD {G:Nat} {l:N_} {k:Int} (h:okL G l) (h0:0<=k) (hk:k<l.conns.length):okL G (fini l k):=by
 obtain⟨⟨Q,M,R,h1,h2,h3,h4⟩,⟨k1,k2,k3⟩,⟨h6,h7,h8,h9⟩,h10⟩:=h;have c1:=J9 h0 hk;have c2:=SX h0 hk;have c3:=Xr h0 hk h6;have ha:=IK h1 (l.conns.getD k.toNat default).to (l.conns.getD k.toNat default).bd;have hg:=Xd l.guesses (l.conns.getD k.toNat default).to (l.conns.getD k.toNat default).bd;have hr:=(h6 _ (Ae (show k.toNat<l.conns.length from O))).1;have hgo:=Aj3 (a:=(l.conns.getD k.toNat default).to) h9 hr;have et:(tak l.page (l.conns.getD k.toNat default).to (l.conns.getD k.toNat default).bd).tok=l.page.tok:=KU ..;have ea:(tak l.page (l.conns.getD k.toNat default).to (l.conns.getD k.toNat default).bd).addr=l.page.addr:=Ju ..;unfold fini finis;dsimp only;split
 .split
  .exact⟨⟨_,_,_,ha,by dsimp only;omega,by dsimp only;omega,by dsimp only;omega⟩,⟨Mw k1 _ _,by dsimp only;rw[ea];exact k2,by dsimp only;rw[et];exact k3⟩,⟨c3,by dsimp only;omega,by dsimp only;omega,h9⟩,keep_ng h10 _ _ _⟩
  .exact⟨⟨_,_,_,ha,by dsimp only;omega,by dsimp only;omega,by dsimp only;omega⟩,⟨Mw k1 _ _,by dsimp only;rw[ea];exact k2,by dsimp only;rw[et];exact k3⟩,⟨c3,by dsimp only;omega,by dsimp only;omega,h9⟩,h10⟩
 .split
  .exact⟨⟨_,_,_,h1,by dsimp only;omega,by dsimp only;omega,by dsimp only;omega⟩,⟨k1,k2,k3⟩,⟨c3,by dsimp only;omega,by dsimp only;omega,hgo⟩,h10⟩
  .exact⟨⟨_,_,_,h1,by dsimp only;omega,by dsimp only;omega,by dsimp only;omega⟩,⟨k1,k2,k3⟩,⟨c3,by dsimp only;omega,by dsimp only;omega,h9⟩,h10⟩
def Aho {G:Nat}:∀ (n:Nat) (l:N_),okL G l->okL G (xfer n l)
 | 0,l,h=>h
 | n+1,l,h=>by
  rw[xfer];split
  .exact h
  .have hd:=Ct l.conns 0 O;exact Aho n _ (AfD h O O)
def Aj6 {G:Nat} {l:N_} (h:okL G l) (b:Int):okL G (moved l b):=by
 obtain⟨⟨Q,M,R,h1,h2,h3,h4⟩,⟨k1,k2,k3⟩,⟨h6,h7,h8,h9⟩,h10⟩:=h;have e1:=Dm l.conns b;have e2:=AhH l.conns b;unfold moved;exact⟨⟨Q,M,R,h1,by dsimp only;omega,by dsimp only;omega,by dsimp only;omega⟩,⟨k1,k2,k3⟩,⟨Acd b h6,by dsimp only;omega,by dsimp only;omega,h9⟩,h10⟩
def KQ {G:Nat} {l:N_} (h:okL G l) (b:Int):okL G (tra l b).1:=by
 unfold tra;split
 .exact h
 .exact Aho _ _ (Aj6 h b)
def AmJ {G:Nat} {l:N_} (h:okL (G+1) l) (n:Int):okL G (ac l n).1:=by
 unfold ac;split
 .exact Qu h
 .split
  .exact Sa h
  .split
   .exact AbJ h
   .split
    .exact KQ (Gu h) 20
    .exact KQ (Gu h) 200
def AbK {G:Nat} {l:N_} (h:okL (G+1) l) (c:Int):∀ n,okL G (stepR l c n).1
 | 0=>Gu h
 | n+1=>by
  rw[stepR];split
  .exact AmJ h _
  .exact AbK h c n
def Aae {G:Nat} {l:N_} (h:okL (G+1) l) (c:Int):okL G (stepL l c).1:=AbK h c 5
def finL (l:N_):Bool:=l.page.loaded&&decide (l.parts.length=0)
def stepTo (l:N_) (c:Int):N_:=(stepL l c).1
def runB:Nat->N_->N_
 | 0,l=>l
 | n+1,l=>if finL l=true then l else if(stepL l 0).2=true then runB n (stepTo l 0) else l
def runLo (l:N_) (cs:List Int):N_:=runB 1000 ((cs.take 100).foldl stepTo l)
def Abg {G H:Nat} {l:N_} (h:okL H l) (hle:G<=H):okL G l:=by
 obtain⟨⟨Q,M,R,h1,h2,h3,h4⟩,h5,⟨h6,h7,h8,h9⟩,n1,n2,n3,n4⟩:=h;exact⟨⟨Q,M,R,h1,O,O,O⟩,h5,⟨h6,h7,O,h9⟩,n1,n2,n3,O⟩
def Rq {G:Nat} {l:N_} (h:okL G l):szNet l.net<=68719476736/\Au l.page<=1099511627776/\l.parts.length<=1000000000/\l.conns.length<=1048576/\l.guesses.length<=4194304:=Rj (M7 h).2.2.2.1 (M7 h).2.2.2.2
def Aij {cs:List Int} {i:Nat} {o T:N_} (h:((cs.take 100).drop i).foldl stepTo o=T) (hi:i<(cs.take 100).length):((cs.take 100).drop (i+1)).foldl stepTo (stepL o (cs.getD i default)).1=T:=by
 rw[B_ hi,dy] at h;have e:(cs.take 100).getD i default=cs.getD i default:=by rw[cZ] at hi;rw[bB,bB,List.getElem?_take_of_lt O]
 rw[e] at h;exact h
def Agi {cs:List Int} {i:Nat} {o T:N_} (h:((cs.take 100).drop i).foldl stepTo o=T) (hi:(cs.take 100).length<=i):o=T:=by
 rw[cx hi] at h;exact h
def Aff {l:N_} (h:finL l=true):∀ n,runB n l=l
 | 0=>rfl
 | n+1=>by rw[runB,G_ h]
def Ake {l:N_} (h:finL l=false) (h2:(stepL l 0).2=false):∀ n,runB n l=l
 | 0=>rfl
 | n+1=>by rw[runB,F_ (by rw[h];decide),F_ (by rw[h2];decide)]
def Ai2 {l:N_} {n:Nat} (h:finL l=false) (h2:(stepL l 0).2=true):runB (n+1) l=runB n (stepL l 0).1:=by
 rw[runB,F_ (by rw[h];decide),G_ h2];rfl
def AkB {l T:N_} {i:Int} (h:runB (1000-i.toNat) l=T) (hi:1000<=i):l=T:=by
 rw[show 1000-i.toNat=0 from O] at h;exact h
abbrev RD:Fct:=⟨[.v (.el .loader),.v (.sl .int)],[.el .loader],λ(x:N_×(List Int)×Unit)=>okL 1100 x.1/\x.2.1.length<=1048576,λ(x:N_×(List Int)×Unit)=>(runLo x.1 x.2.1,())⟩
abbrev DH (l:N_) (cs:(List Int)):LInv:=⟨[⟨.b,5,true,.el .loader⟩,⟨.s,6,true,.el .int⟩,⟨.b,4,true,.el .loader⟩],λ(z x:aV)=>(0<=x.2.1/\x.2.1<=(cs.take 100).length/\((cs.take 100).drop x.2.1.toNat).foldl stepTo x.1=(cs.take 100).foldl stepTo l/\okL (1100-x.2.1.toNat) x.1)/\x.2.2.1=z.2.2.1,λ(x:aV)=>100-x.2.1.toNat⟩
abbrev DD (l:N_) (cs:(List Int)):LInv:=⟨[⟨.b,5,true,.el .loader⟩,⟨.s,9,true,.el .int⟩,⟨.b,4,true,.el .loader⟩],λ(z x:aV)=>(0<=x.2.1/\x.2.1<=1000/\runB (1000-x.2.1.toNat) x.1=runLo l cs/\okL (1000-x.2.1.toNat) x.1)/\x.2.2.1=z.2.2.1,λ(x:aV)=>1000-x.2.1.toNat⟩
def ApU:=AnZ.a RD<|Fct.p (KP [1,2,4,5,6,7,9,10,11] [21,40,49]) (λ⟨l,cs,_⟩=>λ|3=>some (DH l cs)|8=>some (DD l cs)|_=>none) AnZ.2 func24 (by
 rintro⟨(l:N_),(cs:List Int),_⟩ hp;refine ho (.cl C8 (l,()) λz2=>lpx (DH l cs) (z2.1,((0:Int),(default,()))) λ(y2:aV) bk2=>let H_:=lpx (DD l cs) (y2.1,((0:Int),(y2.2.2.1,()))) λ(y8:aV) bk8=>let J_:Out:=.lf RD (y8.1,());.br (decide (y8.2.1<1000)) (.cl HM (y8.1,()) λz4=>.br (!z4.1) (.cl Ij (y8.1,(0:Int),()) λz5=>.br (!z5.2.1) J_ (.re (Value.int IntKind.i64 y2.2.1)<|.re (cs)<|.bk (bk8 (z5.1,(w1 y8.2.1,(y8.2.2.1,())))))) J_) J_;.br (decide (y2.2.1<(cs.length:Int))) (.br (decide (y2.2.1<100)) (.ob (inB y2.2.1 cs.length)<|.cl Ij (y2.1,cs.getD y2.2.1.toNat default,()) λz3=>.re (cs)<|.bk (bk2 (z3.1,(w1 y2.2.1,(y2.2.2.1,()))))) H_) H_) ?_;refine Ai ?_ λ_=>(Ay ?_ λ(y2:aV) i2=>Z (λh3=>Z (λh4=>Ad ?_ λ_=>Ai ?_ λ_=>(Al<|AR ?_)) λh4=>Ay ?_ λ(y8:aV) i8=>Z (λh9=>Ai trivial λ_=>Z (λh10=>Ai ?_ λ_=>Z (λh12=>Y ?_) λh12=>Al<|Al<|AR ?_) λh10=>Y ?_) λh9=>Y ?_) λh3=>Ay ?_ λ(y14:aV) i14=>Z (λh15=>Ai trivial λ_=>Z (λh16=>Ai ?_ λ_=>Z (λh18=>Y ?_) λh18=>Al<|Al<|AR ?_) λh16=>Y ?_) λh15=>Y ?_)<;>obtain⟨q1,q2⟩:=(show okL 1100 l/\cs.length<=1048576 from hp)<;>(try simp only[std,Nat.reduceAdd] at *)<;>have hk:(cs.take 100).length=min 100 cs.length:=cZ ..<;>(first|trivial|omega|exact Rq q1|exact⟨O,O,rfl,q1⟩|exact⟨O,O,q1⟩|skip)<;>(obtain⟨⟨a1,a2,a3,a4⟩,e1⟩:=i2)<;>(first|omega|exact M7 a4|exact Rq a4|skip)<;>(first|(rw[AE O,show(y2.2.1+1).toNat=y2.2.1.toNat+1 from O];rw[show 1100-y2.2.1.toNat=1100-(y2.2.1.toNat+1)+1 from O] at a4;exact⟨⟨⟨O,O,Aij a3 O,Aae a4 _⟩,e1⟩,O⟩)|skip)<;>have hT:=Agi a3 O<;>(first|exact⟨O,O,(show runB 1000 _=_ by unfold runLo;rw[<-hT]),Abg a4 O⟩|skip)<;>(first|(obtain⟨⟨b1,b2,b3,b4⟩,f1⟩:=i8;obtain⟨yo,yi,yz⟩:=y8)|(obtain⟨⟨b1,b2,b3,b4⟩,f1⟩:=i14;obtain⟨yo,yi,yz⟩:=y14))<;>dsimp only at *<;>(first|omega|exact M7 b4|exact Rq b4|exact AkB b3 O|(rw[Aff ‹_›] at b3;exact b3)|(rw[Ake ‹_› ‹_›] at b3;exact b3)|skip)<;>rw[AE O,show(yi+1).toNat=yi.toNat+1 from O]<;>rw[show 1000-yi.toNat=1000-(yi.toNat+1)+1 from O] at b3 b4<;>rw[Ai2 ‹_› ‹_›] at b3<;>exact⟨⟨⟨O,O,b3,Aae b4 _⟩,f1⟩,O⟩)
def wS (l:N_):Nat:=U GE l.conns+U Fz l.guesses
def AjU (l:List bv) (a:HO):U Fz (useGuess l a).1=U Fz l:=by
 unfold useGuess;split
 .rfl
 .have key:∀ (m:List bv) (i:Nat),U Fz (m.modify i λg=>{ g with used:=true })=U Fz m:=by
   intro m
   induction m with
   | nil=>intro i;cases i<;>rfl
   | cons g m ih=>
    intro i;cases i with
    | zero=>show U Fz (_::m)=_;rw[Ah,Ah];rfl
    | succ i=>show U Fz (g::m.modify i _)=_;rw[Ah,Ah,ih]
  exact key _ _
def YM {G:Nat} {l:N_} (h:okL (G+1) l):wS (requ l).1<=wS l+5100000:=by
 obtain⟨⟨Q,M,R,h1,h2,h3,h4⟩,⟨k1,k2,k3⟩,⟨h6,h7,h8,h9⟩,h10⟩:=h;unfold requ;split
 .exact bN _ _
 .rename_i hk;have ht:=Aja (l:=l) k1.1 O;split
  .have e:=AjU l.guesses (reqT l);unfold wS;dsimp only;omega
  .split
   .exact bN _ _
   .have o:=AdA l.conns (reqT l) (fetchNo l.net l.page.addr.host (reqT l) false).2 false;have r:=DV (t:=l.page.addr.host) (a:=reqT l) (g:=false) (UK h10);unfold wS;dsimp only;omega
def Adt {G:Nat} {l:N_} (h:okL (G+1) l):∀ m:List HO,(∀ a,a∈m->szAddr a<=16)->wS (nex l m).1<=wS l+5100000
 | [],_=>bN _ _
 | a::m,hm=>by
  rw[nex];split
  .exact Adt h m λb hb=>hm b (cY _ hb)
  .obtain⟨_,_,_,h10⟩:=h;have ha:=hm a dx;have o:=AdA l.conns a (fetchNo l.net l.page.addr.host a true).2 true;have r:=DV (t:=l.page.addr.host) (a:=a) (g:=true) (UK h10);unfold wS;dsimp only;omega
def Ae3 {G:Nat} {l:N_} (h:okL (G+1) l):wS (guessN l).1<=wS l+5100000:=by
 unfold guessN;split
 .exact bN _ _
 .refine Adt h _ λa ha=>?_
  obtain⟨i,hi,he⟩:=List.mem_iff_getElem.1 ha;have:=IB (p:=l.page) hi;rw[bB,aH hi,he] at this;exact this
def AcE:∀ (n:Nat) (l:N_),wS (xfer n l)<=wS l
 | 0,l=>X_ _
 | n+1,l=>by
  rw[xfer];split
  .exact X_ _
  .have hd:=Ct l.conns 0 O;exact aP (AcE n _) (AlF O O)
def JP (l:N_) (b:Int):wS (tra l b).1<=wS l:=by
 unfold tra;split
 .exact X_ _
 .refine aP (AcE _ _) ?_;have:=Ajt l.conns b;unfold wS moved;dsimp only;omega
def Xq {G:Nat} {l:N_} (h:okL (G+1) l) (n:Int):wS (ac l n).1<=wS l+5100000:=by
 unfold ac;split
 .unfold arri;split
  .exact bN _ _
  .exact bN _ _
 .split
  .exact YM h
  .split
   .exact Ae3 h
   .split
    .exact aP (JP l 20) (bN _ _)
    .exact aP (JP l 200) (bN _ _)
def Abm {G:Nat} {l:N_} (h:okL (G+1) l) (c:Int):∀ n,wS (stepR l c n).1<=wS l+5100000
 | 0=>bN _ _
 | n+1=>by
  rw[stepR];split
  .exact Xq h _
  .exact Abm h c n
def okW (G:Nat) (l:N_):Prop:=okL G l/\wS l+5100000*G<=10000000000
def Ahd {G:Nat} {l:N_} (h:okW (G+1) l) (c:Int):okW G (stepL l c).1:=by
 have:=Abm h.1 c 5;have h2:=h.2;exact⟨Aae h.1 c,by unfold stepL;omega⟩
def Ahb:∀ (cs:List Int) (G:Nat) (l:N_),okW (G+cs.length) l->okW G (cs.foldl stepTo l)
 | [],G,l,h=>h
 | c::cs,G,l,h=>by rw[dy];refine Ahb cs G _ (Ahd (G:=G+cs.length) ?_ c);rw[aw] at h;exact h
def O3 {G H:Nat} {l:N_} (h:okW H l) (hle:G<=H):okW G l:=⟨Abg h.1 hle,by have:=h.2;omega⟩
def Ahh:∀ (n:Nat) (l:N_),okW n l->okW 0 (runB n l)
 | 0,l,h=>h
 | n+1,l,h=>by
  rw[runB];split
  .exact O3 h O
  .split
   .exact Ahh n _ (Ahd h 0)
   .exact O3 h O
def Amt {l:N_} (h:okW 1100 l) (cs:List Int):okW 0 (runLo l cs):=by
 unfold runLo;refine Ahh 1000 _ (Ahb _ _ _ (O3 h ?_));rw[cZ];omega
def Ail (a:HO) (x:M_):okAl (newP a x).1 2000000 1100000000 10000000/\Kp (newP a x).1/\(newP a x).1.addr.host.size<=2097152/\(newP a x).1.tok.rest.size=0/\((newP a x).2=true->isResponse x=true):=by
 unfold newP;split
 .rename_i h;obtain⟨h0,h1,_⟩:=h;rw[T_] at h0;have a1:=Gn h0.1;have a2:=Gn h0.2;have h2:=Kr h1;have hp:=Afy x.bm;have hx:x.bm.size<=Ab x:=Nat.le_add_left _ _;refine⟨Vi ?_,⟨⟨(λs hs=>nomatch (show s∈[] from hs)),(λs hs=>nomatch (show s∈[] from hs))⟩,(by decide:(-9223372036854775808:Int)<=0),(by decide:(0:Int)<=9223372036854775807)⟩,?_,rfl,λ_=>h1⟩
  .show szAddr a+AG (parseP x.bm).1+_+_+szB newBuilder+_+_+_+_+_<=2000000;have e2:szB newBuilder<=100:=by decide
   simp only[EQ,U,List.map_nil,List.sum_nil,bz,szAddr];have e3:ByteArray.size (default:dv).rest=0:=rfl;omega
  .show a.host.size<=2097152;omega
 .refine⟨Vi (by decide),⟨⟨(λs hs=>nomatch (show s∈[] from hs)),(λs hs=>nomatch (show s∈[] from hs))⟩,(by decide:(-9223372036854775808:Int)<=0),(by decide:(0:Int)<=9223372036854775807)⟩,(by decide),rfl,λh=>by cases h⟩
def Aiq {n:P_} (h:szNet n<=1048576):okNg 1201 n:=by
 simp only[szNet] at h;refine⟨O,O,λe he=>?_,O⟩;have:=Iz AK (show e∈n.cache.bh from he);simp only[szCache] at h;simp only[AK] at this;omega
def PP {n:P_} {a:HO} (cs:List Int) (h:szNet n<=1048576) (ha:szAddr a<=1048576):okW 1200 (startL n a cs).1:=by
 have hh:a.host.size<=szAddr a:=bN _ _;have hf:=L8 (Aiq h) (t:=a.host) a false O;obtain⟨p1,p2,p3,p4,p5⟩:=Ail a (fetchNo n a.host a false).2;have hcs:okCs []:=λc hc=>nomatch hc
 have hgs:okGs []:=λc hc=>nomatch hc
 unfold startL;split
 .rename_i hb;have hr:=Kr (p5 hb);have hc:=Y1 (fetchNo n a.host a false).2.body cs;have hx:(fetchNo n a.host a false).2.body.size<=Ab (fetchNo n a.host a false).2:=bN _ _;refine⟨⟨⟨_,_,_,p1,?_,?_,?_⟩,⟨p2,p3,?_⟩,⟨hcs,?_,?_,hgs⟩,hf⟩,?_⟩
  .show 2000000+740000*0+8000000*1200<=889000000000;omega
  .show 1100000000+600*0+250000*1200<=48000000000;omega
  .show 10000000+20*0+10000*1200<=18000000000;omega
  .show(newP a (fetchNo n a.host a false).2).1.tok.rest.size+U Ag (cutText (fetchNo n a.host a false).2.body cs)<=2900000;omega
  .show 0<=1048576;omega
  .show 0+0+1200<=4194304;omega
  .show 0+0+5100000*1200<=10000000000;omega
 .refine⟨⟨⟨2000000,1100000000,10000000,Vi (show Au (default:A_)<=2000000 by decide),?_,?_,?_⟩,⟨⟨⟨(λs hs=>nomatch (show s∈[] from hs)),(λs hs=>nomatch (show s∈[] from hs))⟩,(by decide:(-9223372036854775808:Int)<=0),(by decide:(0:Int)<=9223372036854775807)⟩,(show(default:A_).addr.host.size<=2097152 by decide),(show(default:A_).tok.rest.size+U Ag []<=2900000 by decide)⟩,⟨hcs,?_,?_,hgs⟩,hf⟩,?_⟩
  .show 2000000+740000*0+8000000*1200<=889000000000;omega
  .show 1100000000+600*0+250000*1200<=48000000000;omega
  .show 10000000+20*0+10000*1200<=18000000000;omega
  .show 0<=1048576;omega
  .show 0+0+1200<=4194304;omega
  .show 0+0+5100000*1200<=10000000000;omega
def loa (n:P_) (a:HO) (cs ch:List Int):P_×A_×Bool:=if(startL n a cs).2=true then((runLo (startL n a cs).1 ch).net,(runLo (startL n a cs).1 ch).page,true) else((startL n a cs).1.net,default,false)
abbrev Nf:Fct:=⟨[.v (.el .net),.v (.el .addr),.v (.sl .int),.v (.sl .int)],[.el .net,.el .page,.el .bool],λ(x:di)=>szNet x.1<=1048576/\szAddr x.2.1<=1048576/\x.2.2.1.length<=1048576/\x.2.2.2.1.length<=1048576,λ(x:di)=>((loa x.1 x.2.1 x.2.2.1 x.2.2.2.1).1,(loa x.1 x.2.1 x.2.2.1 x.2.2.2.1).2.1,(loa x.1 x.2.1 x.2.2.1 x.2.2.2.1).2.2,())⟩
def ApT:=ApU.a Nf<|Fct.o (KP [2,3,4,5,8,9,10,11,12,13] [22]) ApU.2 func6 (by
 rintro⟨(n:P_),(a:HO),(cs:List Int),(ch:List Int),_⟩ hp;refine ho (let J_:=(⟨#[]⟩:ByteArray);.cl KT (n,a,cs,()) λz2=>.br (!z2.2.1) (.leaf (.tup [(true,[.l Ty.server (z2.1.net.servers),.l Ty.entry (z2.1.net.cache.bh),.l Ty.sent (z2.1.net.log),vi (z2.1.net.now)]),(true,[vs J_,vs J_,vb (false),.nl,.nl,.nl,vs J_,vs J_,.nl,vb (false),.nl,.nl,.nl,.nl,.nl,vi ((0:Int)),vi ((0:Int)),vi ((0:Int)),vi ((0:Int)),.nl,.nl,vb (false)]),(false,[vb (false)])]) [] []) (.cl RD (z2.1,ch,()) λz3=>let H_:Out:=.lf Nf (z3.1.net,z3.1.page,true,());.lp (Bool) (True) (λx=>True) λy4=>.br (y4) (.lp (Bool) (True) (λx=>True) λy6=>.br (y6) H_ H_) H_)) ?_;refine Cs ?_ λo1 z2 ez2=>(Z (λh2=>Fct.leafZ (z2.fst.net,default,false,()) (by repeat' first|exact rfl|exact trivial|refine And.intro ?_ ?_) ?_) λh2=>Cs ?_ λo3 z3 ez3=>HT trivial λy4 i4=>Z (λh5=>HT trivial λy6 i6=>Z (λh7=>Y ?_) λh7=>Y ?_) λh5=>Y ?_)<;>subst_vars<;>obtain⟨q1,q2,q3,q4⟩:=(show szNet n<=1048576/\szAddr a<=1048576/\cs.length<=1048576/\ch.length<=1048576 from hp)<;>(try simp only[std,Nat.reduceAdd] at *)<;>have hw:=O3 (G:=1100) (PP cs q1 q2) O<;>(first|trivial|omega|exact⟨q1,q2,q3⟩|exact⟨hw.1,q4⟩|skip)<;>unfold loa<;>(first|rw[G_ ‹_›]|rw[F_ (by intro q;simp_all)])<;>exact⟨rfl,rfl,rfl⟩)
abbrev L7:Xct:=⟨[.u,.v (.sl .str)],[.el .str],λ(x:dB)=>0<x.2.1.length/\x.2.1.length<=256/\x.2.1.all (λs=>decide (s.size<=150))=true,λ(x:dB) (y:E_)=>y.1.size<=150⟩
def Ao8:=ApT.X L7<|Xct.o [0,1,4] ApT.2 func48 (by
 rintro⟨(c:PUnit),(l:List ByteArray),_⟩ hp;refine ho (.dr A7 ((),(↑(List.length l):Int),()) λ(y1:D_)=>.ob (0<=y1.1/\y1.1<(↑(List.length l):Int))<|.lx L7 (List.getD l y1.1.toNat default,())) ?_;refine Bk trivial λ(y1:D_) i1=>Ad ?_ λ_=>lxY ?_<;>(try simp only[std,Nat.reduceAdd] at *)<;>(first|trivial|omega|skip)
 have hm:=Ae (i:=y1.fst.toNat) (l:=l) O;simpa using aM.1 hp.2.2 _ hm)
abbrev Vx:Xct:=⟨[.u],[.el .str],λ(x:S_)=>True,λ(x:S_) (y:E_)=>y.1.size<=2000⟩
abbrev DX (c:Unit):LInv:=⟨[⟨.s,3,true,.el .str⟩,⟨.s,4,true,.el .int⟩],λ_ (x:aa)=>0<=x.2.1/\x.2.1<=5/\x.1.size+150*x.2.1<=1000,λ(x:aa)=>x.2.1.toNat⟩
def ApL:=Ao8.X Vx<|Xct.p (KP [0,2,3,4] [11]) (λ⟨c,_⟩=>lv [(3,DX c)]) Ao8.2 func42 (by
 rintro⟨(c:PUnit),_⟩ hp;refine ho (let L_:=(⟨#[60,47,115,99,114,105,112,116,62]⟩:ByteArray);let J_:=(⟨#[]⟩:ByteArray);let H_:=(⟨#[60,115,99,114,105,112,116,62]⟩:ByteArray);.dr L7 ((),[J_,(⟨#[60,112,62,104,105,60,47,112,62]⟩:ByteArray),(⟨#[60,108,105,110,107,32,104,114,101,102,61,115,116,121,108,101,62]⟩:ByteArray)],()) λ(y2:E_)=>.dr A7 ((),(6:Int),()) λ(y3:D_)=>lpx (DX c) (y2.1,(y3.1,())) λ(y4:aa) bk4=>.br (decide (y4.2.1>0)) (.dr Xp ((),(2:Int),()) λ(y7:E_)=>.ob (sameSize H_ y7.1)<|.ob (sameSize (H_++y7.1) L_)<|.dr L7 ((),[(⟨#[60,115,99,114,105,112,116,32,115,114,99,61,97,112,112,62,60,47,115,99,114,105,112,116,62]⟩:ByteArray),H_++y7.1++L_,(⟨#[60,115,99,114,105,112,116,32,115,114,99,61,99,100,110,47,108,105,98,62,60,47,115,99,114,105,112,116,62]⟩:ByteArray),(⟨#[60,115,99,114,105,112,116,32,115,114,99,61,117,116,105,108,32,107,105,110,100,61,109,111,100,117,108,101,62,60,47,115,99,114,105,112,116,62]⟩:ByteArray),(⟨#[60,115,99,114,105,112,116,32,115,114,99,61,108,105,98,32,107,105,110,100,61,100,101,102,101,114,62,60,47,115,99,114,105,112,116,62]⟩:ByteArray),(⟨#[60,105,109,103,32,115,114,99,61,108,111,103,111,62]⟩:ByteArray),(⟨#[60,108,105,110,107,32,104,114,101,102,61,99,100,110,47,115,116,121,108,101,62]⟩:ByteArray),(⟨#[60,112,62,120,60,47,112,62]⟩:ByteArray),(⟨#[60,98,62]⟩:ByteArray),(⟨#[60,115,99,114,105,112,116,32,110,111,110,99,101,61,110,55,62,115,97,121,32,110,60,47,115,99,114,105,112,116,62]⟩:ByteArray),(⟨#[60,115,99,114,105,112,116,32,115,114,99,61,101,118,105,108,47,97,112,112,62,60,47,115,99,114,105,112,116,62]⟩:ByteArray),(⟨#[116,101,120,116]⟩:ByteArray)],()) λ(y11:E_)=>.ob (sameSize y4.1 y11.1)<|.re (Value.string J_)<|.bk (bk4 (y4.1++y11.1,(wr (y4.2.1-(1:Int)),())))) (.dr L7 ((),[J_,J_,(⟨#[60,112,62,101,110,100,60,47,112,62]⟩:ByteArray),(⟨#[60,112]⟩:ByteArray)],()) λ(y15:E_)=>.ob (sameSize y4.1 y15.1)<|.lx Vx (y4.1++y15.1,()))) ?_;refine BV ?_ λo1 (y2:E_) i2=>Bk trivial λ(y3:D_) i3=>Ay ?_ λ(y4:aa) i4=>Z (λh5=>BV ?_ λo6 (y7:E_) i7=>Ad ?_ λ_=>Ad ?_ λ_=>BV ?_ λo10 (y11:E_) i11=>Ad ?_ λ_=>Al<|AR ?_) (λh5=>BV ?_ λo14 (y15:E_) i15=>Ad ?_ λ_=>lxY ?_)<;>(first|trivial|(refine⟨?_,?_,?_⟩<;>decide)|skip)<;>(try simp only[std,Nat.reduceAdd,sameSize,aQ,List.all_cons,List.all_nil] at *)<;>(try simp only[std,Nat.reduceAdd,sameSize,aQ] at *)<;>(try simp(disch:=omega) only[FS,C_] at *)<;>(try simp(disch:=omega) only[G_,F_])<;>(first|trivial|omega|grind[FS,C_,B_,K_,I_,maxLen,sameSize,ByteArray.size_append]))
abbrev YO:Xct:=⟨[.u],[.el .addr],λ(x:S_)=>True,λ(x:S_) (y:aj)=>y.1.host.size<=150/\y.1.path.size<=150⟩
def Ans:=ApL.X YO<|Xct.o (KP [0,2,3,7] [8,14]) ApL.2 func176 (by
 rintro⟨(c:PUnit),_⟩ hp;refine ho (.dr PY ((),()) λ(y1:aj)=>.dr A7 ((),(12:Int),()) λ(y2:D_)=>.br (y2.1==0) (.dr L7 ((),[(⟨#[]⟩:ByteArray),(⟨#[65]⟩:ByteArray),(⟨#[97,98,99,100,101,102,103,104,105]⟩:ByteArray),(⟨#[97,98,99,100,101,102,103,104]⟩:ByteArray)],()) λ(y5:E_)=>.lx YO (⟨y5.1,y1.1.path⟩,())) (.br (y2.1==1) (.dr L7 ((),[(⟨#[]⟩:ByteArray),(⟨#[97,47,98]⟩:ByteArray),(⟨#[97,49]⟩:ByteArray)],()) λ(y8:E_)=>.lx YO (⟨y1.1.host,y8.1⟩,())) (.lx YO (y1.1,())))) ?_;refine Bk trivial λ(y1:aj) i1=>Bk trivial λ(y2:D_) i2=>Z (λh3=>BV ?_ λo4 (y5:E_) i5=>lxY ?_) (λh3=>Z (λh6=>BV ?_ λo7 (y8:E_) i8=>lxY ?_) λh6=>lxY ?_)<;>(try simp only[std,Nat.reduceAdd] at *)<;>(first|trivial|omega|decide|exact⟨by decide,by decide,by decide⟩|exact⟨O,O⟩|exact⟨O,O,O⟩|skip))
abbrev UP:Xct:=⟨[.u],[.sl .addr],λ(x:S_)=>True,λ(x:S_) (y:dl)=>y.1.length<=5⟩
abbrev DZ (c:Unit):LInv:=⟨[⟨.s,3,true,.sl .addr⟩,⟨.s,4,true,.el .int⟩],λ_ (x:ci)=>0<=x.2.1/\x.2.1<=5/\x.1.length+x.2.1<=5,λ(x:ci)=>x.2.1.toNat⟩
def AoT:=Ans.X UP<|Xct.p (KP [0,2,3,4] [9]) (λ⟨c,_⟩=>lv [(3,DZ c)]) Ans.2 func77 (by
 rintro⟨(c:PUnit),_⟩ hp;refine ho (.dr A7 ((),(6:Int),()) λ(y1:D_)=>lpx (DZ c) ([],(y1.1,())) λ(y2:ci) bk2=>.br (decide (y2.2.1>0)) (.dr PY ((),()) λ(y4:aj)=>.ap (y2.1.length+[y4.1].length) 32<|.bk (bk2 (y2.1++[y4.1],(wr (y2.2.1-(1:Int)),())))) (.lx UP (y2.1,()))) ?_;refine Bk trivial λ(y1:D_) i1=>Ay ?_ λ(y2:ci) i2=>Z (λh3=>Bk trivial λ(y4:aj) i4=>FB ?_ λ_=>AR ?_) (λh3=>lxY ?_)<;>(try simp only[std,Nat.reduceAdd,al,aw,bz] at *)<;>(try simp(disch:=omega) only[FS] at *)<;>(first|omega|exact⟨O,O,O⟩|exact⟨⟨O,O,O⟩,O⟩|skip))
def wdsL (l:List ByteArray):List UInt8:=(l.map λx=>32::I x).flatten
def Qa:∀ (l:List ByteArray) (w:ByteArray),I (words9 w l)=I w++wdsL l
 | [],w=>by simp[words9,wdsL]
 | x::l,w=>by rw[words9,Qa l,Ar,Ar];simp[wdsL,I]
def XO:∀ (l:List ByteArray) (p:List UInt8),(32:UInt8)∉p->(∀ x,x∈l->(32:UInt8)∉I x)->L3 32 (p++wdsL l)=p::l.map I
 | [],p,hp,_=>by simp[wdsL,HY hp]
 | x::l,p,hp,h=>by
  have e:p++wdsL (x::l)=p++32::(I x++wdsL l):=by simp[wdsL]
  rw[e,GB _ hp,XO l (I x) (h x dx) λy hy=>h y (cY _ hy)];rfl
def Li {p:UInt8->Bool} {b:UInt8} {l:List UInt8} (h:l.all p=true) (hb:p b=false):b∉l:=λq=>by
 have:=aM.1 h b q;rw[hb] at this;cases this
def Xv {s:ByteArray} (h:isName s=true):(32:UInt8)∉I s/\(59:UInt8)∉I s:=by
 unfold isName allB at h;rw[T_] at h;exact⟨Li h.1 (by decide),Li h.1 (by decide)⟩
def Aip {s:ByteArray} (h:isValue s=true):(59:UInt8)∉I s:=by
 unfold isValue allB at h;rw[T_] at h;exact Li h.1 (by decide)
def Nq {w:ByteArray} {l:List ByteArray} (hw:(32:UInt8)∉I w) (h:l.all isName=true):(K 32 (words9 w l)).drop 1=l:=by
 unfold K;rw[Qa,XO l _ hw λx hx=>(Xv (aM.1 h x hx)).1,aY,List.drop_succ_cons,fx,dz]
 conv=>rhs;rw[<-List.map_id l]
 exact List.map_congr_left λx _=>AM x
def VQ {w:ByteArray} {l:List ByteArray} (hw:(59:UInt8)∉I w) (h:l.all isName=true):(59:UInt8)∉I (words9 w l):=by
 rw[Qa];intro q;rcases ah.1 q with q|q
 .exact hw q
 .simp only[wdsL,List.mem_flatten,bM] at q;obtain⟨m,⟨x,hx,rfl⟩,q⟩:=q;rcases au.1 q with q|q
  .exact absurd q (by decide)
  .exact(Xv (aM.1 h x hx)).2 q
def Am4 {a b c:ByteArray} (ha:(59:UInt8)∉I a) (hb:(59:UInt8)∉I b) (hc:(59:UInt8)∉I c):K 59 (a++⟨#[59]⟩++b++⟨#[59]⟩++c)=[a,b,c]:=by
 have e:I (a++⟨#[59]⟩++b++⟨#[59]⟩++c)=I a++59::(I b++59::I c):=by simp[I]
 unfold K;rw[e,GB _ ha,GB _ hb,HY hc];simp[AM]
def AmG {a b c d:ByteArray} (ha:(59:UInt8)∉I a) (hb:(59:UInt8)∉I b) (hc:(59:UInt8)∉I c) (hd:(59:UInt8)∉I d):K 59 (a++⟨#[59]⟩++b++⟨#[59]⟩++c++⟨#[59,110,111,110,99,101,32]⟩++d)=[a,b,c,⟨#[110,111,110,99,101,32]⟩++d]:=by
 have e:I (a++⟨#[59]⟩++b++⟨#[59]⟩++c++⟨#[59,110,111,110,99,101,32]⟩++d)=I a++59::(I b++59::(I c++59::I (⟨#[110,111,110,99,101,32]⟩++d))):=by simp[I]
 have hn:(59:UInt8)∉I (⟨#[110,111,110,99,101,32]⟩++d):=by
  rw[Ar];intro q;rcases ah.1 q with q|q
  .exact absurd q (by decide)
  .exact hd q
 unfold K;rw[e,GB _ ha,GB _ hb,GB _ hc,HY hn];simp[AM]
def H0 {p:aA} (h:isPolicy p=true):(parseP (formatP p)).2=true:=by
 cases hs:p.set_ with
 | false=>
  have e:formatP p=⟨#[]⟩:=by unfold formatP;rw[F_ (by rw[hs,Bool.and_false];exact Bool.false_ne_true)]
  unfold parseP;rw[G_ e]
 | true=>
  have h0:=h;simp only[isPolicy,hs,aD,T_,dt,az] at h;obtain⟨⟨⟨⟨a1,a2⟩,a3,a4⟩,a5,a6⟩,a7⟩:=h;have k1:=VQ (w:=⟨#[115,99,114,105,112,116]⟩) (by decide) a1;have k2:=VQ (w:=⟨#[115,116,121,108,101]⟩) (by decide) a3;have k3:=VQ (w:=⟨#[105,109,103]⟩) (by decide) a5;have d1:=Nq (w:=⟨#[115,99,114,105,112,116]⟩) (by decide) a1;have d2:=Nq (w:=⟨#[115,116,121,108,101]⟩) (by decide) a3;have d3:=Nq (w:=⟨#[105,109,103]⟩) (by decide) a5;have key:3<=(K 59 (formatP p)).length/\pol (formatP p)=p/\0<(formatP p).size:=by
   by_cases hn:p.nonce=⟨#[]⟩
   .have e:formatP p=words9 ⟨#[115,99,114,105,112,116]⟩ p.bt++⟨#[59]⟩++words9 ⟨#[115,116,121,108,101]⟩ p.styles++⟨#[59]⟩++words9 ⟨#[105,109,103]⟩ p.images:=by unfold formatP;rw[G_ (by rw[h0,hs];rfl),G_ hn]
    have e2:=Am4 k1 k2 k3;rw[e];refine⟨by rw[e2];simp,?_,?_⟩
    .unfold pol;rw[e2];simp only[List.getD_cons_zero,List.getD_cons_succ,aw,bz,d1,d2,d3];rw[F_ O,<-hn,<-hs]
    .rw[aQ,aQ,aQ,aQ,show ByteArray.size ⟨#[59]⟩=1 from rfl];omega
   .have hv:isValue p.nonce=true:=by rcases a7 with q|q;exact absurd q hn;exact q
    have hz:0<p.nonce.size:=by simp only[isValue,T_,az] at hv;omega
    have e:formatP p=words9 ⟨#[115,99,114,105,112,116]⟩ p.bt++⟨#[59]⟩++words9 ⟨#[115,116,121,108,101]⟩ p.styles++⟨#[59]⟩++words9 ⟨#[105,109,103]⟩ p.images++⟨#[59,110,111,110,99,101,32]⟩++p.nonce:=by unfold formatP;rw[G_ (by rw[h0,hs];rfl),F_ hn]
    have e2:=AmG k1 k2 k3 (Aip hv);rw[e];have e3:(⟨#[110,111,110,99,101,32]⟩++p.nonce:ByteArray).size=6+p.nonce.size:=by rw[aQ];rfl
    refine⟨by rw[e2];simp,?_,?_⟩
    .unfold pol;rw[e2];simp only[List.getD_cons_zero,List.getD_cons_succ,aw,bz,d1,d2,d3,e3];rw[G_ ⟨O,O⟩];have e4:(⟨#[110,111,110,99,101,32]⟩++p.nonce:ByteArray).extract 6 (6+p.nonce.size)=p.nonce:=by rw[<-AM ((⟨#[110,111,110,99,101,32]⟩++p.nonce:ByteArray).extract 6 (6+p.nonce.size)),AI,Ar];have e5:I (⟨#[110,111,110,99,101,32]⟩:ByteArray)=[110,111,110,99,101,32]:=rfl;rw[e5,cC (by rw[al,AU];exact X_ _)];show ofL (I p.nonce)=_;exact AM _
     rw[e4,<-hs]
    .rw[aQ];omega
  obtain⟨q1,q2,q3⟩:=key;unfold parseP;rw[F_ (λq=>by rw[q] at q3;exact absurd q3 (by decide)),G_ ⟨q1,by rw[q2]⟩]
abbrev B9:Xct:=⟨[.u,.v (.el .int)],[.el .bd],λ(x:aC)=>1<=x.2.1/\x.2.1<=5,λ(x:aC) (y:ar)=>isResponse y.1=true/\y.1.status=200/\y.1.body.size<=400/\y.1.bm.size<=200⟩
def Apb:=AoT.X B9<|Xct.o (KP [0,1,4,5] [17]) AoT.2 func86 (by
 rintro⟨(c:PUnit),(k:Int),_⟩ hp;refine ho (.dr HX ((),k,()) λ(y1:E_)=>.dr Nu ((),[(0:Int),(5:Int),(50:Int)],()) λ(y3:D_)=>.dr Gi ((),(2:Int),()) λ(y4:W_)=>.br (k==1) (.dr FG ((),()) λ(y6:bw)=>.cl Ax (y6.1,()) λz2=>.lx B9 (⟨(200:Int),k,y1.1,y3.1,y4.1,z2.1⟩,())) (.lx B9 (⟨(200:Int),k,y1.1,y3.1,y4.1,(⟨#[]⟩:ByteArray)⟩,()))) ?_;refine Bk trivial λ(y1:E_) i1=>BV ?_ λo2 (y3:D_) i3=>Bk trivial λ(y4:W_) i4=>Z (λh5=>Bk trivial λ(y6:bw) i6=>Cs ?_ λo7 z2 ez2=>lxY ?_) (λh5=>lxY ?_)<;>(try subst_vars)<;>(try have q:=Gg i6)<;>(try have q2:=Cg y6.1)<;>(try have q3:=H0 i6)<;>(try simp only[std,Nat.reduceAdd] at *)<;>(try simp only[au,fL,or_false] at *)<;>(first|omega|decide|skip)<;>simp only[isResponse,inRange,T_,az]<;>(first|exact⟨⟨⟨O,O⟩,hp,O,⟨O,O⟩,q3⟩,trivial,O,O⟩|exact⟨⟨⟨O,O⟩,hp,O,⟨O,O⟩,rfl⟩,trivial,O,by decide⟩|exact⟨⟨⟨O,O⟩,hp,O,⟨O,O⟩,q3⟩,O,O⟩|exact⟨⟨⟨O,O⟩,hp,O,⟨O,O⟩,rfl⟩,O,by decide⟩|skip))
def srvOk (l:List aF) (i:Nat):Bool:=isName (l.getD i default).path&&(isResponse (l.getD i default).bd&&(List.range i).all λk=>!decide ((l.getD k default).path=(l.getD i default).path))
def isSe (s:V_):Bool:=(List.range s.files.length).all (srvOk s.files)&&(isName s.host&&decide (s.files.length<=10))
def Xe {f:Nat->Bool} {n:Nat} (h:(List.range n).all f=true) (h2:f n=true):(List.range (n+1)).all f=true:=by rw[List.range_succ,List.all_append,h];simp[h2]
def Ag0 {f:Nat->Bool} {n m:Nat} (h:m<n) (h2:f m=false):(List.range n).all f=false:=by
 rw[Bool.eq_false_iff];intro q;rw[aM.1 q m (ev.2 h)] at h2;cases h2
def Vw {s:V_} {i:Nat} (h:i<s.files.length) (h2:srvOk s.files i=false):isSe s=false:=by
 unfold isSe;rw[Ag0 h h2];rfl
def Qk {J:Type} [Inhabited J] (f:J->Nat) (g:J->J) (k:Nat):∀ (l:List J) (i:Nat),(i<l.length->f (g (l.getD i default))<=f (l.getD i default)+k)->U f (l.modify i g)<=U f l+k:=by
 intro l
 induction l with
 | nil=>intro i _;cases i<;>exact bN _ _
 | cons x l ih=>
  intro i h;cases i with
  | zero=>
   have h2:f (g x)<=f x+k:=h (by simp);show U f (g x::l)<=_;rw[Ah,Ah];omega
  | succ i=>
   have h2:=ih i λq=>h (by simpa using q);show U f (x::l.modify i g)<=_;rw[Ah,Ah];omega
def QM (L:List V_) (n k:Nat) (x:M_):U Af (L.modify n λz=>{ host:=z.host,files:=(L.getD n default).files.modify k λz=>{ path:=z.path,bd:=x }})<=U Af L+Ab x:=by
 refine Qk _ _ _ _ _ λh=>?_
 have h2:=Qk Ha (λz=>{ path:=z.path,bd:=x }) (Ab x) (L.getD n default).files k (λ_=>by simp only[Ha];omega);simp only[Af] at *;omega
def MC (L:List V_) (n:Nat) (p:ByteArray) (x:M_):U Af (L.modify n λz=>{ host:=z.host,files:=(L.getD n default).files++[{ path:=p,bd:=x }]})<=U Af L+(p.size+Ab x+1):=by
 refine Qk _ _ _ _ _ λh=>?_
 have h2:U Ha [({ path:=p,bd:=x }:aF)]=p.size+Ab x+1:=by simp[U,Ha];omega
 simp only[Af,Ur,h2];omega
def Sx (L:List V_) (n:Nat):Af (L.getD n default)<=U Af L:=by
 rcases Nat.lt_or_ge n L.length with h|h
 .have:=Cy Af h;omega
 .rw[bB,List.getElem?_eq_none h];exact Nat.zero_le _
def ID (L:List V_) (n:Nat):(L.getD n default).files.length<=U Af L:=by
 have h1:=Sx L n;have h2:=Ac Ha (L.getD n default).files;simp only[Af] at h1;omega
def UJ (h:ByteArray) (l:List V_):U Af (l++[{ host:=h,files:=[]}])=U Af l+h.size+1:=by
 rw[Ur];simp[U,Af];omega
def U8 {s:V_} {i:Nat} (h:i<s.files.length) (h2:srvOk s.files i=false):false=isSe s:=(Vw h h2).symm
def Al5 {l:List aF} {i:Nat} (h:isName (l.getD i default).path=false):srvOk l i=false:=by unfold srvOk;rw[h];rfl
def AkP {l:List aF} {i:Nat} (h:isResponse (l.getD i default).bd=false):srvOk l i=false:=by unfold srvOk;rw[h,Bool.false_and,Bool.and_false]
def Ak3 {l:List aF} {i k:Nat} (hk:k<i) (h:(l.getD k default).path=(l.getD i default).path):srvOk l i=false:=by
 unfold srvOk;rw[Ag0 hk (by rw[cP h];rfl),Bool.and_false,Bool.and_false]
def Alp {l:List aF} {i:Nat} (h1:isName (l.getD i default).path=true) (h2:isResponse (l.getD i default).bd=true) (h3:((List.range i).all λk=>!decide ((l.getD k default).path=(l.getD i default).path))=true):srvOk l i=true:=by unfold srvOk;rw[h1,h2,h3];rfl
def AiW {s:V_} {i:Nat} (h:i=s.files.length) (h2:(List.range i).all (srvOk s.files)=true):isSe s=(isName s.host&&decide (s.files.length<=10)):=by unfold isSe;rw[<-h,h2,Bool.true_and]
abbrev Bx:Fct:=⟨[.v (.el .server)],[.el .bool],λ(x:V_×Unit)=>Af x.1<=200000000,λ(x:V_×Unit)=>(isSe x.1,())⟩
abbrev CY (s:V_):LInv:=⟨[⟨.s,3,true,.el .int⟩,⟨.b,1,false,.el .server⟩],λ(z x:dG)=>(0<=x.1/\x.1<=s.files.length/\(List.range x.1.toNat).all (srvOk s.files)=true)/\x.2.1=z.2.1,λ(x:dG)=>s.files.length-x.1.toNat⟩
abbrev CU (s:V_):LInv:=⟨[⟨.s,4,true,.el .int⟩,⟨.s,3,true,.el .int⟩,⟨.b,1,false,.el .server⟩],λ(z x:dX)=>(x.2.1=z.2.1/\0<=x.1/\x.1<=x.2.1/\((List.range x.1.toNat).all λj=>!decide ((s.files.getD j default).path=(s.files.getD x.2.1.toNat default).path))=true)/\x.2.2.1=z.2.2.1,λ(x:dX)=>(x.2.1-x.1).toNat⟩
def AnY:=Apb.a Bx<|Fct.p (KP [1,2,3,4] [9,29,32,47]) (λ⟨s,_⟩=>λ|2=>some (CY s)|7=>some (CU s)|_=>none) Apb.2 func95 (by
 rintro⟨(s:V_),_⟩ hp;refine ho (lpx (CY s) ((0:Int),(s,())) λ(y1:dG) bk1=>.br (decide (y1.1<(y1.2.1.files.length:Int))) (.ob (inB y1.1 y1.2.1.files.length)<|.cl By ((y1.2.1.files.getD y1.1.toNat default).path,()) λz2=>.br (!z2.1) (.lf Bx (false,())) (.ob (inB y1.1 y1.2.1.files.length)<|.cl AC ((y1.2.1.files.getD y1.1.toNat default).bd,()) λz3=>.br (!z3.1) (.lf Bx (false,())) (lpx (CU s) ((0:Int),(y1.1,(y1.2.1,()))) λ(y9:dX) bk9=>.br (decide (y9.1<y9.2.1)) (.ob (inB y9.1 y9.2.2.1.files.length)<|.ob (inB y9.2.1 y9.2.2.1.files.length)<|.br ((y9.2.2.1.files.getD y9.1.toNat default).path.toList==(y9.2.2.1.files.getD y9.2.1.toNat default).path.toList) (.lf Bx (false,())) (.bk (bk9 (w1 y9.1,(y9.2.1,(y9.2.2.1,())))))) (.bk (bk1 (w1 y9.2.1,(y9.2.2.1,()))))))) (.cl By (y1.2.1.host,()) λz4=>.br (z4.1) (.lf Bx (decide ((y1.2.1.files.length:Int)<=10),())) (.lf Bx (false,())))) ?_;refine Ay ?_ λ(y1:dG) i1=>Z (λh2=>Ad ?_ λ_=>Ai ?_ λ_=>Z (λh5=>Y ?_) λh5=>Ad ?_ λ_=>Ai ?_ λ_=>Z (λh8=>Y ?_) λh8=>Ay ?_ λ(y9:dX) i9=>Z (λh10=>Ad ?_ λ_=>Ad ?_ λ_=>Z (λh13=>Y ?_) λh13=>AR ?_) λh10=>AR ?_) (λh2=>Ai ?_ λ_=>Z (λh17=>Y ?_) λh17=>Y ?_)<;>(have hl:=Ac Ha s.files;have hs:Af s=s.host.size+U Ha s.files:=rfl;have hg:=λ(i:Nat) (h:i<s.files.length)=>Cy Ha h)<;>(try simp only[std,Nat.reduceAdd] at *)<;>(try obtain⟨⟨j1,j2,j3⟩,e1⟩:=i1;simp only[e1] at *)<;>(try obtain⟨⟨k1,k2,k3,k4⟩,e9⟩:=i9;simp only[e9,k1] at *)<;>(first|omega|exact⟨O,O,rfl⟩|exact⟨O,O⟩|skip)<;>(first|(have q:=hg y1.1.toNat O;simp only[Ha,Ab] at q;omega)|skip)<;>(first|exact U8 (i:=y1.1.toNat) O (Al5 ‹_›)|exact U8 (i:=y1.1.toNat) O (AkP ‹_›)|exact U8 (i:=y1.1.toNat) O (Ak3 (k:=y9.1.toNat) O ‹_›)|skip)<;>(try simp(disch:=omega) only[FS,C_] at *)<;>(first|exact⟨⟨⟨by first|rfl|trivial,O,O,Xe k4 (by rw[decide_eq_false ‹_›];rfl)⟩,by first|rfl|trivial⟩,O⟩|skip)<;>(try have q9:y9.1.toNat=y1.1.toNat:=O)<;>(try rw[q9] at k4)<;>(first|exact⟨⟨⟨O,O,Xe j3 (Alp ‹_› ‹_› k4)⟩,by first|rfl|trivial⟩,O⟩|skip)<;>(try rw[AiW (i:=y1.1.toNat) O j3])<;>(first|(simp_all;done)|(simp_all;omega)|skip))
def okF (l:List V_):Prop:=∀ v,v∈l->∀ f,f∈v.files->f.bd.body.size<=400
def W9 {x:M_} (h:isResponse x=true):x.body.size<=400:=by
 simp only[isResponse,T_,az] at h;exact h.2.2.1
def Ai9 {s:V_} (h:isSe s=true):∀ f,f∈s.files->f.bd.body.size<=400:=λf hf=>by
 obtain⟨i,hi,rfl⟩:=List.mem_iff_getElem.1 hf;unfold isSe at h;rw[T_] at h;have q:=aM.1 h.1 i (ev.2 hi);unfold srvOk at q;simp only[T_] at q;have:=W9 q.2.1;rw[bB,aH hi] at this;exact this
def Pm {J:Type} [Inhabited J] {f:J->J} {m:J}:∀ {l:List J} {i:Nat},m∈l.modify i f->m∈l\/m=(l.modify i f).getD i default
 | [],0,h=>.inl h
 | [],_+1,h=>.inl h
 | z::l,0,h=>by
  rcases au.1 (show m∈f z::l from h) with q|q
  .exact .inr q
  .exact .inl (cY _ q)
 | z::l,i+1,h=>by
  rcases au.1 (show m∈z::l.modify i f from h) with q|q
  .exact .inl (q▸dx)
  .rcases Pm q with q|q
   .exact .inl (cY _ q)
   .exact .inr q
def Qg {L:List V_} {k:Nat} {g:V_->V_} (h:okF L) (hs:isSe ((L.modify k g).getD k default)=true):okF (L.modify k g):=λv hv=>by
 rcases Pm hv with q|q
 .exact h v q
 .rw[q];exact Ai9 hs
def Abu {L:List V_} (h:okF L) (x:ByteArray):okF (L++[{ host:=x,files:=[]}]):=λv hv=>by
 rcases ah.1 hv with q|q
 .exact h v q
 .rw[List.mem_singleton.1 q];exact λf hf=>nomatch hf
abbrev BX:Xct:=⟨[.v (.sl .server),.v (.el .addr),.v (.el .bd)],[.sl .server,.el .bool],λ(x:dM)=>U Af x.1<=100000000/\szAddr x.2.1<=1000/\Ab x.2.2.1<=10000,λ(x:dM) (y:U_)=>U Af y.1<=U Af x.1+szAddr x.2.1+Ab x.2.2.1+10/\x.1.length<=y.1.length/\(isName x.2.1.host=true/\isName x.2.1.path=true/\isResponse x.2.2.1=true->0<y.1.length)/\(okF x.1->okF y.1)⟩
end Go.Proofs.YtfklkhgmgglloaaGreatDoor.fnRightUses
