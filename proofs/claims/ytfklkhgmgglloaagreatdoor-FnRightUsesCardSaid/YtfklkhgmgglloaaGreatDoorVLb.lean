/-
  The library of the proof, part 2.
-/
import Derived.Test.YtfklkhgmgglloaaGreatDoorVLa
import Derived.Lib.ConvBytes
import Derived.Orders
set_option linter.defProp false
set_option linter.unusedVariables false
set_option linter.unusedSimpArgs false
namespace Go.D
section
variable {P:Program} {F:Fr P} {G:Gh} {J:St} {a:Act} {w:World} {o:Oper} {K:St->Out} {Q:Post} {Qx:Exit->Act->World->Prop}
def Oq (k:Nat):List Cell->List (Nat×TV)->Option (List Cell)
 | cells,[]=>some cells
 | cells,(j,.v _ cs)::rest=>if cs.length=k/\j*k+cs.length<=cells.length then Oq k (cells.take (j*k)++cs++cells.drop (j*k+cs.length)) rest else none
 | _,_=>none
def WZ {k:Nat}:∀ (ps:List (Nat×TV)) (vs:List (Nat×Value)) (cells:List Cell) (cur:Array Value) (cs:List Cell),A4 w G cells cur->vs.length=ps.length->(∀ (j:Nat) (p:Nat×TV),ps[j]? = some p->∃ v,vs[j]? = some (p.1,v)/\TVR w G p.2 v) ->
 Oq k cells ps=some cs->∃ r,Instr.fill (λi=>some (i*k,k)) cur vs=some r/\A4 w G cs r:=by
 intro ps
 induction ps with
 | nil=>
  intro vs cells cur cs hc hl _ hb;simp only[Oq,R_] at hb;subst hb;have:vs=[]:=List.eq_nil_of_length_eq_zero (by simpa using hl);subst this;exact⟨cur,rfl,hc⟩
 | cons p ps ih=>
  intro vs cells cur cs hc hl hv hb;obtain⟨j,tv⟩:=p;obtain⟨v,hv0,htv⟩:=hv 0 (j,tv) rfl;cases vs with
  | nil=>simp at hl
  | cons q vs=>
   simp only[List.getElem?_cons_zero,R_] at hv0;subst hv0;cases tv<;>simp only[Oq,reduceCtorEq] at hb;rename_i agg cs0;split at hb
   .rename_i hcond;have hcs0:=I1 htv;simp only[Instr.fill];have hsz:v.cells.size=k:=by rw[hcs0.1];exact hcond.1
    have hle:j*k+v.cells.size<=cur.size:=by rw[hc.1,hcs0.1];exact hcond.2
    simp only[ne_eq,hsz,not_true_eq_false,decide_false,Bool.false_or,az];rw[F_ O];rw[NW v.cells cur (j*k) hle];exact ih vs _ _ cs (H4 hc hcs0 hcond.2) (by simpa using hl) (λj' p' hp'=>by simpa using hv (j'+1) p' (by simpa using hp')) hb
   .simp at hb
def Jm (t:Ty):Nat->List FC->Option (List (El t))
 | 0,_=>some []
 | n+1,ds=>match dec t (ds.take t.width),Jm t n (ds.drop t.width) with
  | some x,some xs=>some (x::xs)
  | _,_=>none
def Lt {t:Ty}:∀ (n:Nat) (ds:List FC) (xs:List (El t)),Jm t n ds=some xs->xs.length=n/\∀ i,i<n->∀ j,j<t.width->fcLe (ds.getD (i*t.width+j) .nl) (cell t xs i j):=by
 intro n
 induction n with
 | zero=>intro ds xs h;simp only[Jm,R_] at h;subst h;simp
 | succ n ih=>
  intro ds xs h;simp only[Jm] at h;split at h
  .rename_i x xs' h1 h2;simp only[R_] at h;subst h;obtain⟨h3,h4⟩:=ih _ _ h2;refine⟨by simp[h3],λi hi j hj=>?_⟩;cases i with
   | zero=>
    have:=(dec_ok t _ x h1).get.2 j;have e1:cell t (x::xs') 0 j=(enc t x).getD j .nl:=GF rfl j;simp_all
   | succ i=>
    have:=h4 i O j hj;have e1:cell t (x::xs') (i+1) j=cell t xs' i j:=by simp[cell,bB]
    grind
  .simp at h
def IA (P:Program) (ty:TypeId->Option Ty) (cls:Bool) (o:Oper) (T:TypeId) (n:Nat) (parts:Array (Nat×Operand)) (J:St) (K:St->Out):Out :=
 match P.underlying T with
 | some (.slice e)=>match P.info? e,ty e with
  | some i,some t=>match i.zero with
   | some z=>if t.width=i.size/\z.cells.size=i.size/\n*i.size<=16777216/\z.cells.toList.all (λv=>v.oneCell')=true then(match Oq i.size (List.replicate (n*i.size) .dead) (parts.toList.map λp=>(p.1,J.eval p.2)) with
    | some cs=>match Rk J cs with
     | some (ds,ab)=>if cls && !ab.isEmpty then .bad else match Jm t n ds with
      | some xs=>bif cls then AbT o J n ⟨t,xs⟩ K else Nc o J (64*o.dst.getD 0) ab ⟨t,xs⟩ K
      | none=>.bad
     | none=>.bad
    | none=>.bad) else .bad
   | none=>.bad
  | _,_=>.bad
 | _=>.bad
def L6 {ty:TypeId->Option Ty} {cls:Bool} {T:TypeId} {n:Nat} {parts:Array (Nat×Operand)} (h:RG F G J a w) (ho:o.op=.buildSlice T n parts) (hh:(IA P ty cls o T n parts J K).holds Q) :
 o.wp P a w (if cls then ContE F G a w o.dst K Q else LK F K Q) Qx:=by
 unfold IA at hh;split at hh
 .rename_i e hu;split at hh
  .rename_i i t hi hty;split at hh
   .rename_i z hz;split at hh
    .rename_i hc;obtain⟨hwd,hzs,hbig,hz1⟩:=hc;have hk:0<i.size:=by rw[<-hwd];exact Fk t
     split at hh
     .rename_i cs hf;split at hh
      .rename_i ds ab hlit;split at hh
       .exact hh.elim
       .rename_i hcls;split at hh
        .rename_i xs hxs
         let cur:Array Value:=(Array.range (n*i.size)).map (z.cells[· % z.cells.size]!)
         have hcur:A4 w G (List.replicate (n*i.size) .dead) cur:=by
          refine⟨by simp[cur],λj c hj=>?_⟩;have hlt:j<n*i.size:=by have:=(List.getElem?_eq_some_iff.1 hj).1;simpa using this
          have hm:j % z.cells.size<z.cells.size:=Nat.mod_lt _ O;rw[List.getElem?_replicate,G_ hlt] at hj;injection hj with hj
          subst hj;refine⟨z.cells[j % z.cells.size],by simp[cur,hlt,hm],?_⟩;rw[aM] at hz1;exact hz1 _ (by simp)
         obtain⟨r,hfill,hr⟩:=WZ (k:=i.size) (parts.toList.map λp=>(p.1,J.eval p.2)) (parts.toList.map λp=>(p.1,a.eval p.2)) _ cur cs hcur (by simp) (λj p hj=>by
          rw[cz] at hj;cases hq:parts.toList[j]? with
          | none=>simp[hq] at hj
          | some q=>
           simp only[hq,bC,R_] at hj;subst hj;exact⟨a.eval q.2,by simp[cz,hq],Aw h q.2⟩) hf
         obtain⟨l1,l2,l3,l4⟩:=Of h cs ds ab hlit;obtain⟨d1,d2⟩:=Lt n ds xs hxs;have e1:(parts.map λ(i,x)=>(i,a.eval x)).toList=parts.toList.map λp=>(p.1,a.eval p.2):=by simp
         have hlen:cs.length=n*i.size:=by
          have key:∀ (ps:List (Nat×TV)) (c0 c1:List Cell),Oq i.size c0 ps=some c1->c1.length=c0.length:=by
           intro ps
           induction ps with
           | nil=>intro c0 c1 h;simp only[Oq,R_] at h;rw[h]
           | cons p ps ih=>
            intro c0 c1 h;obtain⟨j,tv⟩:=p;cases tv<;>simp only[Oq,reduceCtorEq] at h;split at h
            .rename_i hcnd;rw[ih _ _ h];simp;omega
            .simp at h
          rw[key _ _ _ hf];simp
         have he:(execOp a.eval o).run P w=.ok (.value (.slice (some ⟨w.heap.size,0,none⟩) n n)) (w.alloc (.cells r e)):=by
          have hnb:¬ (16777216<n*i.size):=O
          by_cases hz0:n*i.size=0
          .have hn0:n=0:=by
            rcases Nat.mul_eq_zero.1 hz0 with h|h
            .exact h
            .omega
           subst hn0;have hc0:cur = #[]:=by simp[cur]
           rw[hc0] at hfill;simp[execOp,ho,Instr.buildSlice,run_underlying hu,sizeOf,typeInfo,hi,newRow,hfill,Array.range_zero']
          .simp only[cur] at hfill;simp[execOp,ho,Instr.buildSlice,run_underlying hu,sizeOf,typeInfo,hi,hnb,hz0,zeroValue,hz,newRow,hfill]
         have old:∀ b,b<w.heap.size->(w.alloc (.cells r e)).heap[b]? = w.heap[b]?:=λb hb=>heap_alloc_old w _ b hb
         have hTn:(⟨t,xs⟩:Tree).n=n:=d1;have hTk:(⟨t,xs⟩:Tree).k=i.size:=hwd;have at_:∀ i',i'<n->∀ j,j<i.size->∃ c u,cs[i'*i.size+j]? = some c/\r[i'*i.size+j]? = some u/\CellR w G c u:=by
          intro i' hi' j hj;have hlt:i'*i.size+j<n*i.size:=by have:(i'+1)*i.size<=n*i.size:=de _ hi';rw[Nat.add_mul] at this;omega
          obtain⟨u,hu',hr'⟩:=hr.2 _ _ (aH (show i'*i.size+j<cs.length from O));exact⟨_,u,aH O,hu',hr'⟩
         have hT:TO (w.alloc (.cells r e)) (.sl (⟨t,xs⟩:Tree).k (⟨t,xs⟩:Tree).n (⟨t,xs⟩:Tree).f) (.slice (some ⟨w.heap.size,0,none⟩) n n) (λb=>(w.heap.size<=b/\b<(w.alloc (.cells r e)).heap.size)\/ZE G ab b):=by
          rw[hTn,hTk];refine .inr ⟨w.heap.size,0,n,r,e,λi' j b=>∃ c m,cs[i'*i.size+j]? = some c/\AV c m/\G.ow b=.lab m,rfl,X_ _,?_,heap_alloc_new w _,.inl ⟨X_ _,by simp⟩,λi' hi' j hj=>?_,λi' hi' j hj b hb=>?_,λi' hi' j hj i2 hi2 j2 hj2 b hb hb2=>?_⟩
          .rw[hr.1,hlen];simp
          .obtain⟨c,u,hcj,huj,hcu⟩:=at_ i' hi' j hj;refine⟨u,by rw[cM];exact huj,?_⟩;have hd2:=d2 i' hi' j O;rw[hwd] at hd2;exact TO.le hd2.le ((l2 _ c u hcj hcu).frame λb hb _=>by obtain⟨m,hm,hb⟩:=hb;exact⟨old b (h.lt b (by simp[hb])),c,m,hcj,hm,hb⟩)
          .obtain⟨c,m,hcj,hm,hbm⟩:=hb;exact⟨.inr ⟨m,l3 _ c m hcj hm,hbm⟩,Nat.ne_of_lt (h.lt b (by simp[hbm]))⟩
          .obtain⟨c,m,hcj,hm,hbm⟩:=hb;obtain⟨c2,m2,hcj2,hm2,hbm2⟩:=hb2;rw[hbm] at hbm2;injection hbm2 with e2
           subst e2;exact XJ hj2 hj (l4 _ _ c c2 m hcj hcj2 hm hm2)
         cases cls with
         | true=>
          have hab:ab=[]:=by simpa using hcls
          subst hab;exact EM he (YH h hh ⟨rfl,rfl,⟨rfl,by first|exact DrLe.refl _|exact DrLe.succ _|exact DrLe.add _ _⟩,by simp⟩ old rfl ⟨_,_,rfl⟩ (hT.frame λb hb _=>⟨rfl,hb.resolve_right (by rintro⟨m,hm,_⟩;cases hm)⟩))
         | false=>exact EM he (Ms h hh ⟨rfl,rfl,⟨rfl,by first|exact DrLe.refl _|exact DrLe.succ _|exact DrLe.add _ _⟩,by simp⟩ (λb hb _=>old b (h.lt b hb)) rfl (hT.frame λb hb _=>⟨rfl,hb.imp id .inr⟩))
        .exact hh.elim
      .exact hh.elim
     .exact hh.elim
    .exact hh.elim
   .exact hh.elim
  .exact hh.elim
 .exact hh.elim
end
end Go.D
namespace Go.D
structure Arg where
 tm:List TV
 bx:List (Nat×List Cell)
 hp:List (Nat×Tree)
structure Pst where
 r:Res
 hp:List (Nat×Tree)
 bx:List (Nat×List FC)
structure ArgR (w:World) (G:Gh) (A:Arg) (vs:Array Value):Prop where
 sz:vs.size=A.tm.length
 tm:∀ (j:Nat) (x:TV),A.tm[j]? = some x->∃ v,vs[j]? = some v/\TVR w G x v
 bx:∀ b cs,look A.bx b=some cs->G.ow (G.be b)=.box b/\∃ r e,w.heap[G.be b]? = some (.cells r e (0,0))/\A4 w G cs r
 hp:∀ l T,look A.hp l=some T->TO w (.sl T.k T.n T.f) (G.hv l) (λg=>G.ow g=.lab l)
 lt:∀ g,G.ow g≠.gone->g<w.heap.size
 cr:∀ g,G.ow g=.cur->CurOk w G g
inductive Pl where
 | res (p j:Nat)
 | keep (l:Nat)
 | box (b j:Nat)
def PartO (w:World) (agg:Bool) (cs:List FC) (v:Value) (Fs:Nat->Nat->Prop):Prop :=
 match agg with
 | false=>∃ c,cs=[c]/\TO w (fcC c) v (Fs 0)/\v.oneCell'=true
 | true=>∃ vs:Array Value,v=.agg vs/\vs.size=cs.length/\∀ (j:Nat) (c:FC),cs[j]? = some c->∃ u,vs[j]? = some u/\TO w (fcC c) u (Fs j)/\u.oneCell'=true
def ResR (w:World) (r:Res) (v:Value) (Fs:Nat->Nat->Nat->Prop):Prop :=
 match r with
 | .one agg cs=>PartO w agg cs v (Fs 0)
 | .tup ps=>∃ vs:Array Value,v=.tuple vs/\vs.size=ps.length/\∀ (i:Nat) (p:Bool×List FC),ps[i]? = some p->∃ u,vs[i]? = some u/\PartO w p.1 p.2 u (Fs i)
structure PstF (w:World) (G:Gh) (w':World) (v:Value) (p:Pst) (Fs:Pl->Nat->Prop):Prop where
 own:∀ s b,Fs s b->b<w'.heap.size/\(G.ow b≠.free/\G.ow b≠.cur)/\∀ b0,(look p.bx b0).isSome=true->b≠G.be b0
 dis:∀ s s' b,Fs s b->Fs s' b->s=s'
 res:ResR w' p.r v (λi j=>Fs (.res i j))
 hp:∀ l T,look p.hp l=some T->TO w' (.sl T.k T.n T.f) (G.hv l) (Fs (.keep l))
 bx:∀ b cs,look p.bx b=some cs->∃ r e,w'.heap[G.be b]? = some (.cells r e (0,0))/\r.size=cs.length/\∀ (j:Nat) (c:FC),cs[j]? = some c->∃ u,r[j]? = some u/\TO w' (fcC c) u (Fs (.box b j))/\u.oneCell'=true
def U3 (w:World) (G:Gh) (S:Pst->Prop):Ending->World->Prop:=λe w'=>∃ v p,S p/\e=.returned v/\Onward w w'/\(∀ g,G.ow g=.free->w'.heap[g]? = w.heap[g]?)/\(∀ g,G.ow g=.cur->CurStep w w' g)/\∃ Fs,PstF w G w' v p Fs
def Con (P:Program) (f:Nat) (A:Arg) (S:Pst->Prop):Prop:=∀ (w:World) (vs:Array Value) (G:Gh),Base P w G.ow->ArgR w G A vs->Calls P f vs w (U3 w G S)
inductive Ctr:Type 1 where
 | det (pre:List Prop) (p:Pst)
 | ex (pre:List Prop) (X:Type) (ok:X->Prop) (p:X->Pst)
 | df (pre:List Prop) (X:Type) (e:X) (p:X->Pst)
def Ctr.pre:Ctr->List Prop
 | .det pre _=>pre
 | .ex pre _ _ _=>pre
 | .df pre _ _ _=>pre
def Ctr.sat:Ctr->Pst->Prop
 | .det _ q,p=>p=q
 | .ex _ X ok q,p=>∃ x:X,ok x/\p=q x
 | .df _ _ e q,p=>p=q e
inductive Md where
 | lend
 | give
 | keep
 | box
 | cur
 | new
 deriving DecidableEq
abbrev Spec:=Arg->Option Ctr
structure Env:Type 1 where
 fn:Nat->Option (List Md×Spec)
 ty:TypeId->Option Ty
def L1 (P:Program) (f:Nat) (g:Spec):Prop:=∀ A c,g A=some c->(∀ q∈c.pre,q)->Con P f A c.sat
def Vo (P:Program) (f:Nat):Prop:=∀ (w:World) (v:Value) (S:Nat->Prop) (xs:List (El .u8)),TR w S (fcC (.l .u8 xs)) v->(∀ j,j<xs.length->0<=(show Int from xs.getD j default)/\(show Int from xs.getD j default)<=255)->xs.length<=1000000000000000000 ->
 Calls P f #[v] w λe w'=>∃ (g:Nat) (h:Int) (ty:TypeId),e=.returned (.pointer (some ⟨g,0,none⟩))/\Onward w w'/\(∀ b,b<w.heap.size->w'.heap[b]? = w.heap[b]?)/\w.heap.size<=g /\
  w'.heap[g]? = some (.cells #[v,.int .i64 0,.int .i64 h] ty (0,0))/\-9223372036854775808<=h/\h<=9223372036854775807
def K3:List Md->Bool
 | [.new]=>true
 | _=>false
def EOk (P:Program) (E:Env):Prop:=∀ f m g,E.fn f=some (m,g)->L1 P f g/\(K3 m=true->Vo P f)
def Env.ext (E:Env) (f:Nat) (m:List Md) (g:Spec):Env:={ E with fn:=λf'=>if f'=f then some (m,g) else E.fn f' }
def Env.empty (ty:TypeId->Option Ty):Env:=⟨λ_=>none,ty⟩
def EOk.empty (P:Program) (ty:TypeId->Option Ty):EOk P (Env.empty ty):=by intro f m g h;simp[Env.empty] at h
def EOk.ext {P:Program} {E:Env} (h:EOk P E) {f:Nat} {m:List Md} {g:Spec} (hg:L1 P f g) (hm:K3 m=true->Vo P f):EOk P (E.ext f m g):=by
 intro f' m' g' h';unfold Env.ext at h';dsimp only at h';split at h'
 .simp_all
 .exact h f' m' g' h'
def Env.addN (E:Env) (f:Nat):Env:=E.ext f [.new] λ_=>none
def EOk.addN {P:Program} {E:Env} (h:EOk P E) {f:Nat} (hf:Vo P f):EOk P (E.addN f):=h.ext (λ_ _ hc=>by cases hc) λ_=>hf
def Aas (P:Program) (ty:TypeId->Option Ty):Nat->TypeId->List (Option Ty)
 | 0,_=>[]
 | d+1,T=>match P.underlying T with
  | some (.slice e)=>[ty e]
  | some (.struct fs)=>fs.toList.flatMap λf=>Aas P ty d f.type
  | _=>[none]
abbrev GL:=List (Nat×Option Nat×Tree)
def Qb:List (Nat×Option Nat×Tree)->Nat->Option Nat
 | [],_=>none
 | (cl,some m',_)::r,m=>if m'==m then some cl else Qb r m
 | (_,none,_)::r,m=>Qb r m
section
variable {P:Program} {F:Fr P} {G Gc:Gh} {J:St} {a:Act} {w:World} {o:Oper} {K:St->Out} {Q:Post} {Qx:Exit->Act->World->Prop}
def AeH (G Gc:Gh) (gl:GL) (gb:List Nat):Prop:=(∀ g,(G.ow g=.free\/(∃ m,G.ow g=.lab m/\Qb gl m=none)\/∃ b,G.ow g=.box b/\b∉gb)->Gc.ow g=.free)/\(∀ g,G.ow g=.cur->Gc.ow g=.cur)/\∀ g m cl,G.ow g=.lab m->Qb gl m=some cl->Gc.ow g=.lab cl
def Rt (J:St) (gl:GL) (t:Option Ty):Cell->Option (List Prop×Cell)
 | .sc v=>some ([],.sc v)
 | .tt=>some ([],.sc (.bool true))
 | .ff=>some ([],.sc (.bool false))
 | .nil=>match t with
  | some t=>some ([],.im none t [])
  | none=>none
 | .ref l=>match look J.hp l with
  | some T=>if(Qb gl l).isSome then none else some ([],.im none T.t T.xs)
  | none=>none
 | .sub l k lo n=>match look J.hp l with
  | some T=>if T.k=k/\Qb gl l=none then some ([lo+n<=T.n],.im none T.t (cut T.xs lo n)) else none
  | none=>none
 | .im none t xs=>some ([],.im none t xs)
 | .im (some m) t xs=>match Qb gl m with
  | some cl=>some ([],.im (some cl) t xs)
  | none=>some ([],.im none t xs)
 | .dead=>none
def T8 {gl:GL} {gb:List Nat} {t:Option Ty} {c c':Cell} {p:List Prop} {v:Value} (hL:AeH G Gc gl gb) (h:RG F G J a w) (hc:CellR w G c v) (hl:Rt J gl t c=some (p,c')) (hp:∀ q∈p,q):CellR w Gc c' v:=by
 have lab:∀ {l:Nat} {c:C} {v:Value},Qb gl l=none->TR w (λg=>G.ow g=.lab l) c v->TR w (src Gc none) c v:=λhn ht=>ht.frame λg hg _=>⟨rfl,hL.1 g (.inr (.inl ⟨_,hg,hn⟩))⟩
 unfold Rt at hl;split at hl
 .simp at hl;obtain⟨rfl,rfl⟩:=hl;exact hc
 .simp at hl;obtain⟨rfl,rfl⟩:=hl;exact⟨hc,rfl⟩
 .simp at hl;obtain⟨rfl,rfl⟩:=hl;exact⟨hc,rfl⟩
 .split at hl
  .obtain⟨rfl,rfl⟩:=hl;exact⟨none,0,hc,X_ _,.inl rfl⟩
  .simp at hl
 .split at hl
  .rename_i l T hT;split at hl
   .simp at hl
   .rename_i hn;obtain⟨rfl,rfl⟩:=hl;show TR w (src Gc none) _ v;rw[hc.1,Cu];exact lab (by simp_all) (h.hp _ T hT).read
  .simp at hl
 .split at hl
  .rename_i l k lo n T hT;split at hl
   .rename_i hk;obtain⟨rfl,rfl⟩:=hl;have hle:=hp _ (List.mem_singleton.2 rfl);have hto:=h.hp _ T hT;rw[hk.1] at hto;have h2:=(Lm hto hc hle).read;rw[<-hk.1] at h2;exact Ahv (lab hk.2 h2) hle
   .simp at hl
  .simp at hl
 .obtain⟨rfl,rfl⟩:=hl;exact TR.frame (λg hg _=>⟨rfl,hL.1 g (.inl hg)⟩) hc
 .split at hl
  .rename_i cl hn;obtain⟨rfl,rfl⟩:=hl;exact TR.frame (λg hg _=>⟨rfl,hL.2.2 g _ cl hg hn⟩) hc
  .rename_i hn;obtain⟨rfl,rfl⟩:=hl;exact lab hn hc
 .simp at hl
def Hl (J:St) (gl:GL):List (Option Ty)->List Cell->Option (List Prop×List Cell)
 | _,[]=>some ([],[])
 | ts,c::cs=>match Rt J gl (ts.headD none) c,Hl J gl ts.tail cs with
  | some (p,c'),some (q,cs')=>some (p++q,c'::cs')
  | _,_=>none
def LS {gl:GL} {gb:List Nat} (hL:AeH G Gc gl gb) (h:RG F G J a w):∀ (cs:List Cell) (ts:List (Option Ty)) (p:List Prop) (cs':List Cell),Hl J gl ts cs=some (p,cs')->(∀ q∈p,q)->cs'.length=cs.length /\
 ∀ (j:Nat) (c':Cell),cs'[j]? = some c'->∃ c,cs[j]? = some c/\∀ v,CellR w G c v->CellR w Gc c' v:=by
 intro cs
 induction cs with
 | nil=>intro ts p cs' hl _;simp only[Hl,R_,bW] at hl;obtain⟨rfl,rfl⟩:=hl;simp
 | cons c cs ih=>
  intro ts p cs' hl hp;simp only[Hl] at hl;split at hl
  .rename_i p1 c1 q1 cs1 h1 h2;obtain⟨rfl,rfl⟩:=hl;obtain⟨h3,h4⟩:=ih _ _ _ h2 λq hq=>hp q (ah.2 (.inr hq));refine⟨by grind,λj c' hj=>?_⟩;cases j with
   | zero=>simp only[List.getElem?_cons_zero,R_] at hj;subst hj;exact⟨c,rfl,λv hv=>T8 hL h hv h1 λq hq=>hp q (ah.2 (.inl hq))⟩
   | succ j=>simpa using h4 j c' (by grind)
  .simp at hl
def M4:Cell->Option FC
 | .sc v=>some (.val v)
 | .im none t xs=>some (.l t xs)
 | _=>none
def JY:List Cell->Option (List FC)
 | []=>some []
 | c::cs=>match M4 c,JY cs with
  | some d,some ds=>some (d::ds)
  | _,_=>none
def O4 {c:Cell} {d:FC} {v:Value} {G:Gh} (h:CellR w G c v) (hd:M4 c=some d):TR w (src G none) (fcC d) v:=by
 unfold M4 at hd;split at hd<;>simp at hd<;>subst hd<;>exact h
def U7:∀ (cs:List Cell) (ds:List FC),JY cs=some ds->ds.length=cs.length/\∀ (j:Nat) (d:FC),ds[j]? = some d->∃ c,cs[j]? = some c/\M4 c=some d:=by
 intro cs
 induction cs with
 | nil=>intro ds h;simp only[JY,R_] at h;subst h;simp
 | cons c cs ih=>
  intro ds h;simp only[JY] at h;grind
def QE (J:St) (gl:GL) (gb:List Nat) (ts:List (Option Ty)) (b:Nat):Option (List Prop×List FC) :=
 if gb.contains b then none else match look J.bx b with
 | some cs=>match Hl J gl ts cs with
  | some (p,cs')=>match JY cs' with
   | some ds=>some (p,ds)
   | none=>none
  | none=>none
 | none=>none
def OJ {gl:GL} {gb:List Nat} {ts:List (Option Ty)} {b:Nat} {p:List Prop} {ds:List FC} (hL:AeH G Gc gl gb) (h:RG F G J a w) (hl:QE J gl gb ts b=some (p,ds)) (hp:∀ q∈p,q):∃ r e fr,w.heap[G.be b]? = some (.cells r e fr)/\Gc.ow (G.be b)=.free/\Rl w Gc ds r:=by
 unfold QE at hl;split at hl
 .simp at hl
 .rename_i hgb;split at hl
  .rename_i cs hb;split at hl
   .rename_i q cs' hl';split at hl
    .rename_i ds' hd;obtain⟨rfl,rfl⟩:=hl;obtain⟨h1,r,e,h2,h3⟩:=h.bx b cs hb;obtain⟨h4,h5⟩:=LS hL h cs _ _ _ hl' hp;obtain⟨h6,h7⟩:=U7 _ _ hd;refine⟨r,e,_,h2,hL.1 _ (.inr (.inr ⟨b,h1,by grind⟩)),λj d hj=>?_⟩;obtain⟨c',hc',hcd⟩:=h7 j d hj;obtain⟨c,hc,hcv⟩:=h5 j c' hc';obtain⟨u,hu,hr⟩:=h3.2 j c hc;exact⟨u,hu,O4 (hcv u hr) hcd⟩
    .simp at hl
   .simp at hl
  .simp at hl
def Uw (J:St) (gl:GL) (gb:List Nat):Cap->Option (List Prop×Cap)
 | .ptr b=>match QE J gl gb [] b with
  | some (p,ds)=>some (p,.aptr ds)
  | none=>none
 | .aptr cs=>some ([],.aptr cs)
def Kv (J:St) (gl:GL) (gb:List Nat):List Cap->Option (List Prop×List Cap)
 | []=>some ([],[])
 | c::cs=>match Uw J gl gb c,Kv J gl gb cs with
  | some (p,c'),some (q,cs')=>some (p++q,c'::cs')
  | _,_=>none
def W3 {gl:GL} {gb:List Nat} {cs:List FC} {r:Array Value} (hL:AeH G Gc gl gb) (h:Rl w G cs r):Rl w Gc cs r:=λj c hc=>let ⟨u,hu,ht⟩:=h j c hc;⟨u,hu,ht.frame λg hg _=>⟨rfl,hL.1 g (.inl hg)⟩⟩
def Yl {gl:GL} {gb:List Nat} {c c':Cap} {p:List Prop} {v:Value} (hL:AeH G Gc gl gb) (h:RG F G J a w) (hc:ZF w G c v) (hl:Uw J gl gb c=some (p,c')) (hp:∀ q∈p,q):ZF w Gc c' v:=by
 unfold Uw at hl;split at hl
 .split at hl
  .rename_i q ds hb;obtain⟨rfl,rfl⟩:=hl;obtain⟨r,e,fr,h1,h2,h3⟩:=OJ hL h hb hp;exact⟨_,r,e,fr,hc,h2,h1,h3⟩
  .simp at hl
 .obtain⟨rfl,rfl⟩:=hl;obtain⟨g,r,e,fr,h1,h2,h3,h4⟩:=hc;exact⟨g,r,e,fr,h1,hL.1 g (.inl h2),h3,W3 hL h4⟩
def Vm {gl:GL} {gb:List Nat} (hL:AeH G Gc gl gb) (h:RG F G J a w):∀ (cs:List Cap) (p:List Prop) (cs':List Cap),Kv J gl gb cs=some (p,cs')->(∀ q∈p,q)->cs'.length=cs.length/\∀ (j:Nat) (c':Cap),cs'[j]? = some c'->∃ c,cs[j]? = some c/\∀ v,ZF w G c v->ZF w Gc c' v:=by
 intro cs
 induction cs with
 | nil=>intro p cs' hl _;simp only[Kv,R_,bW] at hl;obtain⟨rfl,rfl⟩:=hl;simp
 | cons c cs ih=>
  intro p cs' hl hp;simp only[Kv] at hl;split at hl
  .rename_i p1 c1 q1 cs1 h1 h2;obtain⟨rfl,rfl⟩:=hl;obtain⟨h3,h4⟩:=ih _ _ h2 λq hq=>hp q (ah.2 (.inr hq));refine⟨by grind,λj c' hj=>?_⟩;cases j with
   | zero=>simp only[List.getElem?_cons_zero,R_] at hj;subst hj;exact⟨c,rfl,λv hv=>Yl hL h hv h1 λq hq=>hp q (ah.2 (.inl hq))⟩
   | succ j=>simpa using h4 j c' (by grind)
  .simp at hl
def Ad3 (J:St) (gl:GL) (gb:List Nat) (ts:List (Option Ty)):TV->Option (List Prop×TV)
 | .v agg cs=>match Hl J gl ts cs with
  | some (p,cs')=>some (p,.v agg cs')
  | none=>none
 | .ptr b off=>match QE J gl gb [] b with
  | some (p,ds)=>some (p,.aptr ds off)
  | none=>none
 | .aptr cs off=>some ([],.aptr cs off)
 | .clo fn caps=>match Kv J gl gb caps with
  | some (p,caps')=>some (p,.clo fn caps')
  | none=>none
 | .cur=>some ([],.cur)
 | _=>none
def ZU {gl:GL} {gb:List Nat} {ts:List (Option Ty)} {x x':TV} {p:List Prop} {v:Value} (hL:AeH G Gc gl gb) (h:RG F G J a w) (hx:TVR w G x v) (hl:Ad3 J gl gb ts x=some (p,x')) (hp:∀ q∈p,q):TVR w Gc x' v:=by
 unfold Ad3 at hl;split at hl
 .rename_i agg cs;split at hl
  .rename_i q cs' hl';obtain⟨rfl,rfl⟩:=hl;obtain⟨h1,h2⟩:=LS hL h cs _ _ _ hl' hp;cases agg with
   | false=>
    obtain⟨c,rfl,hc⟩:=hx;obtain⟨c',rfl⟩:=ek.1 h1;obtain⟨c0,hc0,hr⟩:=h2 0 c' rfl;simp at hc0;subst hc0;exact⟨c',rfl,hr v hc⟩
   | true=>
    obtain⟨vs,rfl,hs,hc⟩:=hx;refine⟨vs,rfl,O,λj c' hj=>?_⟩;grind
  .simp at hl
 .split at hl
  .rename_i q ds hb;obtain⟨rfl,rfl⟩:=hl;obtain⟨r,e,fr,h1,h2,h3⟩:=OJ hL h hb hp;exact⟨_,r,e,fr,hx,h2,h1,h3⟩
  .simp at hl
 .obtain⟨rfl,rfl⟩:=hl;obtain⟨g,r,e,fr,h1,h2,h3,h4⟩:=hx;exact⟨g,r,e,fr,h1,hL.1 g (.inl h2),h3,W3 hL h4⟩
 .rename_i fn caps;split at hl
  .rename_i q caps' hl';obtain⟨rfl,rfl⟩:=hl;obtain⟨h1,h2⟩:=Vm hL h caps _ _ hl' hp;obtain⟨vs,rfl,hs,hc⟩:=hx;refine⟨vs,rfl,O,λj c' hj=>?_⟩;grind
  .simp at hl
 .obtain⟨rfl,rfl⟩:=hl;obtain⟨g,hv,hg⟩:=hx;exact⟨g,hv,hL.2.1 g hg⟩
 .simp at hl
def AfG:Cap->TV
 | .ptr b=>.ptr b 0
 | .aptr cs=>.aptr cs 0
def AeE {c:Cap} {v:Value} (h:ZF w G c v):TVR w G (AfG c) v:=by
 cases c with
 | ptr b=>exact h
 | aptr cs=>obtain⟨g,r,e,fr,h1,h2⟩:=h;exact⟨g,r,e,fr,h1,h2⟩
end
end Go.D
namespace Go.D
def AQ:List Nat->Bool
 | []=>true
 | x::xs=>!xs.contains x&&AQ xs
structure Giv where
 gv:List (Nat×Option Nat×Tree)
 bs:List (Nat×Nat)
def Giv.gl (g:Giv):List Nat:=g.gv.filterMap (·.2.1)
def Giv.gb (g:Giv):List Nat:=g.bs.map (·.2)
def ZH:List (Nat×Nat)->Nat->Option Nat
 | [],_=>none
 | (cb,b')::r,b=>if b'==b then some cb else ZH r b
def Kh {α:Type} {l:List (Nat×α)} (hn:AQ (l.map (·.1))=true) {e:Nat×α} (h:e∈l):look l e.1=some e.2:=by
 induction l with
 | nil=>cases h
 | cons p r ih=>
  simp only[aY,AQ,T_,cO] at hn;simp only[look];grind
def HA {α:Type} {l:List (Nat×α)} {t:Nat} {x:α} (h:look l t=some x):(t,x)∈l:=by
 induction l with
 | nil=>simp[look] at h
 | cons p r ih=>
  simp only[look] at h;grind
def Wk {l:List (Nat×Option Nat×Tree)} {m cl:Nat} (h:Qb l m=some cl):∃ T,(cl,some m,T)∈l:=by
 induction l with
 | nil=>simp[Qb] at h
 | cons p r ih=>
  obtain⟨c,o,T⟩:=p;cases o with
  | none=>
   simp only[Qb] at h;simp_all
  | some m'=>
   simp only[Qb] at h;grind
def AhL {l:List (Nat×Option Nat×Tree)} {cl m:Nat} {T:Tree} (h:(cl,some m,T)∈l):m∈l.filterMap (λe=>e.2.1):=List.mem_filterMap.2 ⟨(cl,some m,T),h,rfl⟩
def Aj5 {l:List (Nat×Option Nat×Tree)} {m cl:Nat} {T:Tree} (hn:AQ (l.filterMap (·.2.1))=true) (h:(cl,some m,T)∈l):Qb l m=some cl:=by
 induction l with
 | nil=>cases h
 | cons p r ih=>
  obtain⟨c,o,T'⟩:=p;rcases au.1 h with h'|h'
  .injection h' with h1 h2
   injection h2 with h2 h3
   subst h1;subst h2;simp[Qb]
  .cases o with
   | none=>simp only[Qb];exact ih (by grind) h'
   | some m'=>
    simp only[List.filterMap_cons,AQ,T_,cO] at hn;have hne:(m'==m)=false:=by grind
    simp only[Qb,hne,cD,aS];exact ih hn.2 h'
def Ace {l:List (Nat×Option Nat×Tree)} {m:Nat} (h:m∉l.filterMap (·.2.1)):Qb l m=none:=by
 cases hq:Qb l m with
 | none=>rfl
 | some cl=>
  obtain⟨T,hm⟩:=Wk hq;simp_all
def WC {l:List (Nat×Nat)} {b cb:Nat} (h:ZH l b=some cb):(cb,b)∈l:=by
 induction l with
 | nil=>simp[ZH] at h
 | cons p r ih=>
  simp only[ZH] at h;grind
def AiD {l:List (Nat×Nat)} {b cb:Nat} (hn:AQ (l.map (·.2))=true) (h:(cb,b)∈l):ZH l b=some cb:=by
 induction l with
 | nil=>cases h
 | cons p r ih=>
  obtain⟨c,b'⟩:=p;simp only[aY,AQ,T_,cO] at hn;rcases au.1 h with h|h
  .injection h with h1 h2
   subst h1;subst h2;simp[ZH]
  .have hne:(b'==b)=false:=by grind
   simp only[ZH,hne,cD,aS];exact ih hn.2 h
def Su {l:List (Nat×Nat)} {b:Nat} (h:b∉l.map (·.2)):ZH l b=none:=by
 cases hq:ZH l b with
 | none=>rfl
 | some cb=>exact absurd (bM.2 ⟨_,WC hq,rfl⟩) h
def RM (g:Giv):Own->Own
 | .lab m=>match Qb g.gv m with
  | some cl=>.lab cl
  | none=>.free
 | .box b=>match ZH g.bs b with
  | some cb=>.box cb
  | none=>.free
 | .cur=>.cur
 | _=>.free
def gc (w:World) (G:Gh) (g:Giv):Gh where
 ow b:=if b<w.heap.size then RM g (G.ow b) else .gone
 be cb:=match look g.bs cb with
  | some b=>G.be b
  | none=>0
 hv cl:=match look g.gv cl with
  | some (some m,_)=>G.hv m
  | _=>.slice none 0 0
section
variable {P:Program} {F:Fr P} {G:Gh} {J:St} {a:Act} {w:World} {o:Oper} {K:St->Out} {Q:Post} {Qx:Exit->Act->World->Prop}
def AbC (h:RG F G J a w) (g:Giv):AeH G (gc w G g) g.gv g.gb:=by
 refine⟨λb hb=>?_,λb hb=>?_,λb m cl hb hm=>?_⟩
 rotate_left
 rotate_left
 .have hlt:b<w.heap.size:=h.lt b (by grind);simp only[gc,hlt,aD,hb,RM,hm]
 rotate_left
 .have hlt:b<w.heap.size:=h.lt b (by grind);simp only[gc,hlt,aD,hb,RM]
 have hlt:b<w.heap.size:=h.lt b (by grind);simp only[gc,hlt,aD];rcases hb with e|⟨m,e,hm⟩|⟨m,e,hm⟩
 .rw[e];rfl
 .rw[e];simp only[RM,hm]
 .rw[e];simp only[RM,Su hm]
def AlV {g:Giv} {b:Nat} (h:(gc w G g).ow b=.cur):b<w.heap.size/\G.ow b=.cur:=by
 simp only[gc] at h;split at h
 .rename_i hlt;refine⟨hlt,?_⟩;cases hq:G.ow b with
  | gone=>simp[hq,RM] at h
  | free=>simp[hq,RM] at h
  | lab m=>simp only[hq,RM] at h;split at h<;>cases h
  | box b'=>simp only[hq,RM] at h;split at h<;>cases h
  | cur=>rfl
 .cases h
def Vd {g:Giv} {b:Nat} (hlt:b<w.heap.size) (h0:G.ow b≠.cur) (h:∀ m,G.ow b=.lab m->m∉g.gl) (h2:∀ m,G.ow b=.box m->m∉g.gb):(gc w G g).ow b=.free:=by
 simp only[gc,hlt,aD];cases hq:G.ow b with
 | gone=>rfl
 | free=>rfl
 | lab m=>simp only[RM,Ace (h m hq)]
 | box m=>simp only[RM,Su (h2 m hq)]
 | cur=>exact absurd hq h0
def Aiv (g:Giv) (h:Base P w G.ow):Base P w (gc w G g).ow :=
 let ⟨w1,h1,hl,h2⟩:=h
 ⟨w1,h1,hl,λb hb=>let ⟨x,y,z⟩:=h2 b hb;⟨x,Vd x (by simp[y]) (by simp[y]) (by simp[y]),z⟩⟩
def Q5 (J:St) (e:Nat×Option Nat×Tree):Prop:=match e.2.1 with
 | some l=>look J.hp l=some e.2.2
 | none=>e.2.2.xs=[]
def RE (J:St) (cl:Nat) (t:Option Ty):Cell->Option (Cell×List (Nat×Option Nat×Tree))
 | .sc v=>some (.sc v,[])
 | .tt=>some (.sc (.bool true),[])
 | .ff=>some (.sc (.bool false),[])
 | .nil=>match t with
  | some t=>some (.ref cl,[(cl,none,⟨t,[]⟩)])
  | none=>none
 | .ref l=>match look J.hp l with
  | some T=>some (.ref cl,[(cl,some l,T)])
  | none=>none
 | _=>none
def Uj {g:Giv} {cl:Nat} {t:Option Ty} {c d:Cell} {gs:List (Nat×Option Nat×Tree)} (hg:RE J cl t c=some (d,gs)) (hgs:∀ e∈gs,look g.gv e.1=some e.2) :
 (∀ v,CellR w G c v->CellR w (gc w G g) d v)/\∀ e∈gs,Q5 J e:=by
 unfold RE at hg;split at hg
 .simp only[R_,bW] at hg;obtain⟨rfl,rfl⟩:=hg;exact⟨λv h=>h,by simp⟩
 .simp only[R_,bW] at hg;obtain⟨rfl,rfl⟩:=hg;exact⟨λv h=>⟨h,rfl⟩,by simp⟩
 .simp only[R_,bW] at hg;obtain⟨rfl,rfl⟩:=hg;exact⟨λv h=>⟨h,rfl⟩,by simp⟩
 .split at hg
  .simp only[R_,bW] at hg;obtain⟨rfl,rfl⟩:=hg;have h1:=hgs _ (List.mem_singleton.2 rfl);refine⟨λv h=>⟨?_,CellR.one h⟩,by simp[Q5]⟩;simp only[gc,h1];exact h
  .simp at hg
 .split at hg
  .rename_i l T hT;simp only[R_,bW] at hg;obtain⟨rfl,rfl⟩:=hg;have h1:=hgs _ (List.mem_singleton.2 rfl);refine⟨λv h=>⟨?_,h.2⟩,by simp[Q5,hT]⟩;simp only[gc,h1];exact h.1
  .simp at hg
 .simp at hg
def Ft (J:St):Nat->List (Option Ty)->List Cell->Option (List Cell×List (Nat×Option Nat×Tree))
 | _,_,[]=>some ([],[])
 | cl,ts,c::cs=>match RE J cl (ts.headD none) c,Ft J (cl+1) ts.tail cs with
  | some (d,gs),some (ds,gs')=>some (d::ds,gs++gs')
  | _,_=>none
def LW {g:Giv}:∀ (cs:List Cell) (cl:Nat) (ts:List (Option Ty)) (ds:List Cell) (gs:List (Nat×Option Nat×Tree)),Ft J cl ts cs=some (ds,gs)->(∀ e∈gs,look g.gv e.1=some e.2) ->
 ds.length=cs.length/\(∀ (j:Nat) (d:Cell),ds[j]? = some d->∃ c,cs[j]? = some c/\∀ v,CellR w G c v->CellR w (gc w G g) d v)/\∀ e∈gs,Q5 J e:=by
 intro cs
 induction cs with
 | nil=>intro cl ts ds gs hg _;simp only[Ft,R_,bW] at hg;obtain⟨rfl,rfl⟩:=hg;simp
 | cons c cs ih=>
  intro cl ts ds gs hg hgs;simp only[Ft] at hg;split at hg
  .rename_i d gs1 ds1 gs2 h1 h2;obtain⟨rfl,rfl⟩:=hg;obtain⟨k1,k2⟩:=Uj (w:=w) (G:=G) h1 λe he=>hgs e (ah.2 (.inl he));obtain⟨l1,l2,l3⟩:=ih _ _ _ _ h2 λe he=>hgs e (ah.2 (.inr he));grind
  .simp at hg
def Sm {G':Gh} {cs ds:List Cell} {vs:Array Value} (hl:ds.length=cs.length) (h:∀ (j:Nat) (d:Cell),ds[j]? = some d->∃ c,cs[j]? = some c/\∀ v,CellR w G c v->CellR w G' d v) (hc:A4 w G cs vs):A4 w G' ds vs:=by
 refine⟨by rw[hc.1,hl],λj d hj=>?_⟩;obtain⟨c,hcj,hr⟩:=h j d hj;obtain⟨u,hu,hcu⟩:=hc.2 j c hcj;simp_all
def Gy {G':Gh} {agg:Bool} {cs ds:List Cell} {v:Value} (hl:ds.length=cs.length) (h:∀ (j:Nat) (d:Cell),ds[j]? = some d->∃ c,cs[j]? = some c/\∀ v,CellR w G c v->CellR w G' d v) (hc:G6 w G agg cs v):G6 w G' agg ds v:=by
 cases agg with
 | false=>
  obtain⟨c,rfl,hc⟩:=hc;obtain⟨d,rfl⟩:=ek.1 hl;obtain⟨c0,hc0,hr⟩:=h 0 d rfl;simp at hc0;subst hc0;exact⟨d,rfl,hr v hc⟩
 | true=>
  obtain⟨vs,rfl,hc⟩:=hc;exact⟨vs,rfl,Sm hl h hc⟩
def Aje (J:St) (j:Nat) (ts:List (Option Ty)):Md->TV->Option (Option TV×List (Nat×List Cell)×Giv)
 | .lend,_=>some (none,[],⟨[],[]⟩)
 | .give,.v agg cs=>match Ft J (64*j) ts cs with
  | some (ds,gs)=>some (some (.v agg ds),[],⟨gs,[]⟩)
  | none=>none
 | .keep,.v agg cs=>match Ft J (64*j) ts cs with
  | some (ds,gs)=>some (some (.v agg ds),[],⟨gs,[]⟩)
  | none=>none
 | .box,.ptr b 0=>match look J.bx b with
  | some cs=>match Ft J (64*j) ts cs with
   | some (ds,gs)=>some (some (.ptr j 0),[(j,ds)],⟨gs,[(j,b)]⟩)
   | none=>none
  | none=>none
 | .cur,.cur=>some (none,[],⟨[],[]⟩)
 | _,_=>none
def Afc {g:Giv} {j:Nat} {ts:List (Option Ty)} {m:Md} {x:TV} {y:Option TV} {bx:List (Nat×List Cell)} {g1:Giv} (h:RG F G J a w) (hg:Aje J j ts m x=some (y,bx,g1)) (hgv:∀ e∈g1.gv,look g.gv e.1=some e.2) (hbs:∀ e∈g1.bs,look g.bs e.1=some e.2/\ZH g.bs e.2=some e.1) :
 (∀ y',y=some y'->∀ v,TVR w G x v->TVR w (gc w G g) y' v)/\(∀ e∈g1.gv,Q5 J e) /\
 (∀ e∈bx,(gc w G g).ow ((gc w G g).be e.1)=.box e.1/\∃ r t,w.heap[(gc w G g).be e.1]? = some (.cells r t (0,0))/\A4 w (gc w G g) e.2 r):=by
 unfold Aje at hg;have agg:∀ (agg:Bool) (cs:List Cell),(match Ft J (64*j) ts cs with
  | some (ds,gs)=>some (some (TV.v agg ds),([]:List (Nat×List Cell)),(⟨gs,[]⟩:Giv))
  | none=>none)=some (y,bx,g1)->(∀ y',y=some y'->∀ v,TVR w G (.v agg cs) v->TVR w (gc w G g) y' v)/\(∀ e∈g1.gv,Q5 J e) /\
  (∀ e∈bx,(gc w G g).ow ((gc w G g).be e.1)=.box e.1/\∃ r t,w.heap[(gc w G g).be e.1]? = some (.cells r t (0,0))/\A4 w (gc w G g) e.2 r):=by
  intro agg cs hg;split at hg
  .rename_i ds gs hgc;simp only[R_,bW] at hg;obtain⟨rfl,rfl,rfl⟩:=hg;obtain⟨k1,k2,k3⟩:=LW (w:=w) (G:=G) cs _ _ _ _ hgc hgv;refine⟨λy' hy v hv=>?_,k3,by simp⟩;injection hy with hy
   subst hy;exact Gy k1 k2 hv
  .simp at hg
 split at hg
 .simp only[R_,bW] at hg;obtain⟨rfl,rfl,rfl⟩:=hg;simp
 .exact agg _ _ hg
 .exact agg _ _ hg
 .split at hg
  .rename_i b _ cs hb;split at hg
   .rename_i ds gs hgc;simp only[R_,bW] at hg;obtain⟨rfl,rfl,rfl⟩:=hg;obtain⟨k1,k2,k3⟩:=LW (w:=w) (G:=G) cs _ _ _ _ hgc hgv;obtain⟨b1,b2⟩:=hbs _ (List.mem_singleton.2 rfl);have hbe:(gc w G g).be j=G.be b:=by simp only[gc,b1]
    refine⟨λy' hy v hv=>?_,k3,λe he=>?_⟩
    .injection hy with hy
     subst hy;simp only[TVR] at hv ⊢;rw[hbe];exact hv
    .have:=List.mem_singleton.1 he;subst this;obtain⟨h1,r,t,h2,h3⟩:=h.bx b cs hb;dsimp only;rw[hbe];refine⟨?_,r,t,h2,Sm k1 k2 h3⟩;have hlt:G.be b<w.heap.size:=h.lt _ (by grind);simp only[gc,hlt,aD,h1,RM,b2]
   .simp at hg
  .simp at hg
 .simp only[R_,bW] at hg;obtain⟨rfl,rfl,rfl⟩:=hg;simp
 .simp at hg
abbrev Ai0:=Md×List (Option Ty)×TV
def MN (J:St):Nat->List Ai0->Option (List (Option TV)×List (Nat×List Cell)×Giv)
 | _,[]=>some ([],[],⟨[],[]⟩)
 | j,(m,ts,x)::r=>match Aje J j ts m x,MN J (j+1) r with
  | some (y,bx,g),some (ys,bxs,g')=>some (y::ys,bx++bxs,⟨g.gv++g'.gv,g.bs++g'.bs⟩)
  | _,_=>none
def FJ (J:St) (gl:GL) (gb:List Nat):List (Option TV)->List Ai0->Option (List Prop×List TV)
 | [],[]=>some ([],[])
 | some y::ys,_::r=>match FJ J gl gb ys r with
  | some (p,zs)=>some (p,y::zs)
  | none=>none
 | none::ys,(_,ts,x)::r=>match Ad3 J gl gb ts x,FJ J gl gb ys r with
  | some (p,z),some (q,zs)=>some (p++q,z::zs)
  | _,_=>none
 | _,_=>none
def QZ (J:St) (xs:List Ai0):Option (List Prop×Arg×Giv) :=
 match MN J 0 xs with
 | some (ys,bxs,g)=>if AQ (g.gv.map (·.1))&&AQ g.gl&&AQ (g.bs.map (·.1))&&AQ g.gb then(match FJ J g.gv g.gb ys xs with
  | some (p,zs)=>some (p,⟨zs,bxs,g.gv.map λe=>(e.1,e.2.2)⟩,g)
  | none=>none) else none
 | none=>none
def Yb {g:Giv} (h:RG F G J a w):∀ (xs:List Ai0) (j:Nat) (ys:List (Option TV)) (bxs:List (Nat×List Cell)) (g1:Giv),MN J j xs=some (ys,bxs,g1)->(∀ e∈g1.gv,look g.gv e.1=some e.2)->(∀ e∈g1.bs,look g.bs e.1=some e.2/\ZH g.bs e.2=some e.1) ->
 ys.length=xs.length/\(∀ (i:Nat) (y:TV),ys[i]? = some (some y)->∃ x,xs[i]? = some x/\∀ v,TVR w G x.2.2 v->TVR w (gc w G g) y v)/\(∀ e∈g1.gv,Q5 J e) /\
 (∀ e∈bxs,(gc w G g).ow ((gc w G g).be e.1)=.box e.1/\∃ r t,w.heap[(gc w G g).be e.1]? = some (.cells r t (0,0))/\A4 w (gc w G g) e.2 r):=by
 intro xs
 induction xs with
 | nil=>intro j ys bxs g1 hg _ _;simp only[MN,R_,bW] at hg;obtain⟨rfl,rfl,rfl⟩:=hg;simp
 | cons x xs ih=>
  intro j ys bxs g1 hg hgv hbs;simp only[MN] at hg;split at hg
  .rename_i y bx g2 ys' bxs' g3 h1 h2;obtain⟨rfl,rfl,rfl⟩:=hg;obtain⟨k1,k2,k3⟩:=Afc h h1 (λe he=>hgv e (ah.2 (.inl he))) λe he=>hbs e (ah.2 (.inl he));obtain⟨l1,l2,l3,l4⟩:=ih _ _ _ _ h2 (λe he=>hgv e (ah.2 (.inr he))) λe he=>hbs e (ah.2 (.inr he));refine⟨by grind,λi z hi=>?_,λe he=>?_,λe he=>?_⟩
   .cases i with
    | zero=>simp only[List.getElem?_cons_zero,R_] at hi;exact⟨_,rfl,k1 z hi⟩
    | succ i=>simpa using l2 i z (by grind)
   .grind
   .grind
  .simp at hg
def Vk {Gc:Gh} {gl:GL} {gb:List Nat} (hL:AeH G Gc gl gb) (h:RG F G J a w):∀ (xs:List Ai0) (ys:List (Option TV)) (p:List Prop) (zs:List TV),FJ J gl gb ys xs=some (p,zs)->(∀ q∈p,q) ->
 (∀ (i:Nat) (y:TV),ys[i]? = some (some y)->∃ x,xs[i]? = some x/\∀ v,TVR w G x.2.2 v->TVR w Gc y v)->zs.length=xs.length/\∀ (i:Nat) (z:TV),zs[i]? = some z->∃ x,xs[i]? = some x/\∀ v,TVR w G x.2.2 v->TVR w Gc z v:=by
 intro xs
 induction xs with
 | nil=>
  intro ys p zs hl hp hy;cases ys with
  | nil=>simp only[FJ,R_,bW] at hl;obtain⟨rfl,rfl⟩:=hl;simp
  | cons y ys=>cases y<;>simp[FJ] at hl
 | cons x xs ih=>
  intro ys p zs hl hp hy;cases ys with
  | nil=>simp[FJ] at hl
  | cons y ys=>
   have hy':∀ (i:Nat) (y:TV),ys[i]? = some (some y)->∃ x,xs[i]? = some x/\∀ v,TVR w G x.2.2 v->TVR w Gc y v:=λi y hi=>by simpa using hy (i+1) y (by grind)
   cases y with
   | some y=>
    simp only[FJ] at hl;split at hl
    .rename_i q zs' h1;obtain⟨rfl,rfl⟩:=hl;obtain⟨k1,k2⟩:=ih ys _ _ h1 hp hy';refine⟨by grind,λi z hi=>?_⟩;cases i with
     | zero=>simp only[List.getElem?_cons_zero,R_] at hi;subst hi;exact hy 0 _ rfl
     | succ i=>simpa using k2 i z (by grind)
    .simp at hl
   | none=>
    simp only[FJ] at hl;split at hl
    .rename_i p1 z1 q1 zs1 h1 h2;obtain⟨rfl,rfl⟩:=hl;obtain⟨k1,k2⟩:=ih ys _ _ h2 (λq hq=>hp q (ah.2 (.inr hq))) hy';refine⟨by grind,λi z hi=>?_⟩;cases i with
     | zero=>simp only[List.getElem?_cons_zero,R_] at hi;subst hi;exact⟨_,rfl,λv hv=>ZU hL h hv h1 λq hq=>hp q (ah.2 (.inl hq))⟩
     | succ i=>simpa using k2 i z (by grind)
    .simp at hl
def Vq {xs:List Ai0} {p:List Prop} {A:Arg} {g:Giv} {vs:Array Value} (h:RG F G J a w) (hl:QZ J xs=some (p,A,g)) (hp:∀ q∈p,q) (hsz:vs.size=xs.length) (hx:∀ (j:Nat) (x:Ai0),xs[j]? = some x->∃ v,vs[j]? = some v/\TVR w G x.2.2 v) :
 ArgR w (gc w G g) A vs/\A.hp=(g.gv.map λe=>(e.1,e.2.2))/\AQ (g.gv.map (·.1))=true/\AQ g.gl=true/\AQ (g.bs.map (·.1))=true/\AQ g.gb=true/\(∀ e∈g.gv,Q5 J e)/\A.tm.length=xs.length:=by
 unfold QZ at hl;split at hl
 .rename_i ys bxs g1 hg;split at hl
  .rename_i hn;simp only[T_] at hn;obtain⟨⟨⟨n1,n2⟩,n3⟩,n4⟩:=hn;split at hl
   .rename_i q zs hr;simp only[R_,bW] at hl;obtain⟨rfl,rfl,rfl⟩:=hl;obtain⟨k1,k2,k3,k4⟩:=Yb h xs 0 ys bxs g1 hg (λe he=>Kh n1 he) λe he=>⟨Kh n3 he,AiD n4 he⟩;obtain⟨l1,l2⟩:=Vk (AbC h g1) h xs ys q zs hr hp k2;refine⟨⟨by grind,λj z hj=>?_,λb cs hb=>?_,λl T hT=>?_,λb hb=>?_,λb hb=>?_⟩,rfl,n1,n2,n3,n4,k3,l1⟩
    .obtain⟨x,hxj,hr⟩:=l2 j z hj;obtain⟨v,hv,ht⟩:=hx j x hxj;exact⟨v,hv,hr v ht⟩
    .exact k4 _ (HA hb)
    .dsimp only at hT;rw[A8 λe:Option Nat×Tree=>e.2] at hT;cases hq:look g1.gv l with
     | none=>simp[hq] at hT
     | some e=>
      obtain⟨om,T'⟩:=e;simp only[hq,bC,R_] at hT;subst hT;have hv:=k3 _ (HA hq);cases om with
      | none=>
       simp only[Q5] at hv;have:(gc w G g1).hv l=.slice none 0 0:=by simp only[gc,hq]
       rw[this];exact .inl ⟨⟨none,rfl⟩,by simp[Tree.n,hv]⟩
      | some m=>
       have:(gc w G g1).hv l=G.hv m:=by simp only[gc,hq]
       rw[this];refine(h.hp m T' hv).frame λb hb _=>⟨rfl,?_⟩
       have hlt:b<w.heap.size:=h.lt b (by grind);simp only[gc,hlt,aD,hb,RM,Aj5 n2 (HA hq)]
    .by_cases hlt:b<w.heap.size
     .exact hlt
     .simp[gc,hlt] at hb
    .have hL:=AbC h g1;exact(h.keep.at_ b (AlV hb).2).carry ⟨λc hc=>⟨rfl,hL.1 c (.inl hc)⟩,hL.2.1⟩ rfl
   .simp at hl
  .simp at hl
 .simp at hl
end
end Go.D
namespace Go.D
def Cell.hit (p q:Nat->Bool):Cell->Bool
 | .ref m=>p m
 | .sub m _ _ _=>p m
 | .im (some m) _ _=>q m
 | _=>false
def Cell.zap (p q:Nat->Bool) (c:Cell):Cell:=bif c.hit p q then .dead else c
def TV.hit (p q:Nat->Bool):TV->Bool
 | .eptr m _ _ _=>p m
 | .sptr (some m) _ _ _=>q m
 | .inn m _ _ _ _ _=>p m||q m
 | .nptr m _ _ _ _ _ _ _=>p m||q m
 | .app m _ _ _ _ _ _=>p m||q m
 | .capd m _=>p m||q m
 | _=>false
def TV.zap (p q:Nat->Bool):TV->TV
 | .v a cs=>.v a (cs.map (·.zap p q))
 | .tup ps=>.tup (ps.map λx=>(x.1,x.2.map (·.zap p q)))
 | x=>bif x.hit p q then .dead else x
def St.zap (J:St) (p q:Nat->Bool):St:=J.map (·.zap p q) (·.zap p q)
section
variable {P:Program} {F:Fr P} {G G1 G2:Gh} {J:St} {a:Act} {w w':World} {o:Oper} {K:St->Out} {Q:Post} {Qx:Exit->Act->World->Prop} {p q:Nat->Bool}
def Cell.zap_ok {c:Cell} {v:Value} (h:CellR w G c v):CellR w G (c.zap p q) v:=by
 unfold Cell.zap;cases c.hit p q with
 | true=>exact h.one
 | false=>exact h
def TV.zap_ok {x:TV} {v:Value} (h:TVR w G x v):TVR w G (x.zap p q) v:=by
 cases x with
 | v agg cs=>exact Part.map_ok (λ_ _=>Cell.zap_ok) h
 | tup ps=>exact TV.map_ok (x:=.tup ps) (bad:=λ_=>false) (λ_ _=>Cell.zap_ok) h
 | _=>
  simp only[TV.zap];generalize TV.hit p q _=b;cases b with
  | true=>trivial
  | false=>exact h
def RG.zap (h:RG F G J a w) (p q:Nat->Bool):RG F G (J.zap p q) a w:=h.map (λ_ _=>Cell.zap_ok) (λ_ _=>TV.zap_ok)
def Cell.zap_refs {c:Cell} {m:Nat} (h:(c.zap p q).refs m=true):p m=false:=by
 unfold Cell.zap at h;cases hb:c.hit p q with
 | true=>simp[hb,Cell.refs] at h
 | false=>
  simp only[hb,cF] at h;cases c<;>simp[Cell.refs] at h<;>subst h<;>simpa [Cell.hit] using hb
def Cell.zap_mems {c:Cell} {m:Nat} (h:(c.zap p q).mems m=true):q m=false:=by
 unfold Cell.zap at h;cases hb:c.hit p q with
 | true=>simp[hb,Cell.mems] at h
 | false=>
  simp only[hb,cF] at h;cases c with
  | im s t xs=>
   cases s with
   | none=>simp[Cell.mems] at h
   | some l=>simp[Cell.mems] at h;subst h;simpa [Cell.hit] using hb
  | _=>simp[Cell.mems] at h
def Fi {cs:List Cell} {m:Nat} (h:(cs.map (·.zap p q)).any (·.refs m)=true):p m=false:=by
 simp only[List.any_map,bI,Function.comp] at h;obtain⟨c,_,hc⟩:=h;exact Cell.zap_refs hc
def GO {cs:List Cell} {m:Nat} (h:(cs.map (·.zap p q)).any (·.mems m)=true):q m=false:=by
 simp only[List.any_map,bI,Function.comp] at h;obtain⟨c,_,hc⟩:=h;exact Cell.zap_mems hc
def TV.zap_refs {x:TV} {m:Nat} (h:(x.zap p q).refs m=true):p m=false:=by
 cases x<;>simp only[TV.zap] at h
 case v agg cs=>exact Fi h
 case tup ps=>
  simp only[TV.refs,List.any_map,bI] at h;obtain⟨p,_,hp⟩:=h;exact Fi (by simpa using hp)
 case eptr l k i off=>
  simp only[TV.hit] at h;cases hb:p l with
  | true=>simp[hb,TV.refs] at h
  | false=>simp[hb,TV.refs] at h;subst h;exact hb
 case inn l k i off t xs=>
  simp only[TV.hit] at h;cases hb:(p l||q l) with
  | true=>simp[hb,TV.refs] at h
  | false=>simp[hb,TV.refs] at h;subst h;exact(Bool.or_eq_false_iff.1 hb).1
 case nptr l k i off t xs i2 o2=>
  simp only[TV.hit] at h;cases hb:(p l||q l) with
  | true=>simp[hb,TV.refs] at h
  | false=>simp[hb,TV.refs] at h;subst h;exact(Bool.or_eq_false_iff.1 hb).1
 case app l e j tt ts t xs=>
  simp only[TV.hit] at h;cases hb:(p l||q l) with
  | true=>simp[hb,TV.refs] at h
  | false=>simp[hb,TV.refs] at h;subst h;exact(Bool.or_eq_false_iff.1 hb).1
 case capd l c=>
  simp only[TV.hit] at h;cases hb:(p l||q l) with
  | true=>simp[hb,TV.refs] at h
  | false=>simp[hb,TV.refs] at h;subst h;exact(Bool.or_eq_false_iff.1 hb).1
 all_goals
  generalize TV.hit p q _=b at h;cases b<;>simp[TV.refs] at h
def TV.zap_mems {x:TV} {m:Nat} (h:(x.zap p q).mems m=true):q m=false:=by
 cases x<;>simp only[TV.zap] at h
 case v agg cs=>exact GO h
 case tup ps=>
  simp only[TV.mems,List.any_map,bI] at h;obtain⟨p,_,hp⟩:=h;exact GO (by simpa using hp)
 case inn l k i off t xs=>
  simp only[TV.hit] at h;cases hb:(p l||q l) with
  | true=>simp[hb,TV.mems] at h
  | false=>simp[hb,TV.mems] at h;subst h;exact(Bool.or_eq_false_iff.1 hb).2
 case nptr l k i off t xs i2 o2=>
  simp only[TV.hit] at h;cases hb:(p l||q l) with
  | true=>simp[hb,TV.mems] at h
  | false=>simp[hb,TV.mems] at h;subst h;exact(Bool.or_eq_false_iff.1 hb).2
 case app l e j tt ts t xs=>
  simp only[TV.hit] at h;cases hb:(p l||q l) with
  | true=>simp[hb,TV.mems] at h
  | false=>simp[hb,TV.mems] at h;subst h;exact(Bool.or_eq_false_iff.1 hb).2
 case capd l c=>
  simp only[TV.hit] at h;cases hb:(p l||q l) with
  | true=>simp[hb,TV.mems] at h
  | false=>simp[hb,TV.mems] at h;subst h;exact(Bool.or_eq_false_iff.1 hb).2
 case sptr s t x off=>
  cases s with
  | none=>simp[TV.hit,TV.mems] at h
  | some l=>
   simp only[TV.hit] at h;cases hb:q l with
   | true=>simp[hb,TV.mems] at h
   | false=>simp[hb,TV.mems] at h;subst h;exact hb
 all_goals
  generalize TV.hit p q _=b at h;cases b<;>simp[TV.mems] at h
def Ky (J:St) (l:Nat):Prop:=(∀ t tv,look J.tm t=some tv->tv.refs l=false)/\∀ b cs,look J.bx b=some cs->cs.any (·.refs l)=false
def Ad7 {l:Nat} (hl:p l=true):Ky (J.zap p q) l:=by
 constructor
 .intro t tv h;simp only[St.zap,St.map,A8 λx:TV=>x.zap p q] at h;cases hq:look J.tm t with
  | none=>simp[hq] at h
  | some x=>
   simp only[hq,bC,R_] at h;subst h;cases hb:(x.zap p q).refs l with
   | false=>rfl
   | true=>have:=TV.zap_refs hb;simp[hl] at this
 .intro b cs h;simp only[St.zap,St.map,A8 λcs:List Cell=>cs.map (·.zap p q)] at h;cases hq:look J.bx b with
  | none=>simp[hq] at h
  | some x=>
   simp only[hq,bC,R_] at h;subst h;cases hb:(x.map (·.zap p q)).any (·.refs l) with
   | false=>rfl
   | true=>have:=Fi hb;simp[hl] at this
structure Grow (U:Nat->Prop) (L:Nat->Prop) (G G':Gh):Prop where
 ow:∀ b,G'.ow b=G.ow b\/(U b/\G.ow b=.gone)
 be:G'.be=G.be
 hv:∀ m,G'.hv m=G.hv m\/L m
def Grow.refl (U L:Nat->Prop) (G:Gh):Grow U L G G:=⟨λ_=>.inl rfl,rfl,λ_=>.inl rfl⟩
def Grow.mono {U U' L L':Nat->Prop} (h:Grow U L G G1) (hu:∀ b,U b->U' b) (hl:∀ m,L m->L' m):Grow U' L' G G1 :=
 ⟨λb=>(h.ow b).imp id λx=>⟨hu b x.1,x.2⟩,h.be,λm=>(h.hv m).imp id (hl m)⟩
def Grow.trans {U L:Nat->Prop} (h:Grow U L G G1) (h':Grow U L G1 G2):Grow U L G G2:=by
 refine⟨λb=>?_,h'.be.trans h.be,λm=>?_⟩
 .rcases h'.ow b with e|⟨u,e⟩
  .rcases h.ow b with e'|x
   .simp_all
   .exact .inr x
  .rcases h.ow b with e'|x
   .simp_all
   .exact .inr x
 .rcases h'.hv m with e|x
  .rcases h.hv m with e'|x
   .simp_all
   .exact .inr x
  .exact .inr x
def Grow.same {U L:Nat->Prop} (h:Grow U L G G1) {b:Nat} (hb:G.ow b≠.gone):G1.ow b=G.ow b:=by
 rcases h.ow b with e|⟨_,e⟩
 .exact e
 .exact absurd e hb
def Grow.gone {U L:Nat->Prop} (h:Grow U L G G1) {b:Nat} (hb:G.ow b=.gone) (hu:¬ U b):G1.ow b=.gone:=by
 rcases h.ow b with e|⟨u,_⟩
 .exact e.trans hb
 .exact absurd u hu
def Grow.carry {U L:Nat->Prop} (h:Grow U L G G1):Cf w w G G1/\∀ m,En w w G G1 m :=
 ⟨⟨λg hg=>⟨rfl,(h.same (by simp[hg])).trans hg⟩,λg hg=>(h.same (by simp[hg])).trans hg⟩,λm g hg=>⟨rfl,(h.same (by simp[hg])).trans hg⟩⟩
open Classical in
def RG.addTree (h:RG F G J a w) (l:Nat) (T:Tree) (v:Value) (N:Nat->Prop) (hN:∀ g,N g->g<w.heap.size/\G.ow g=.gone) (hT:TO w (.sl T.k T.n T.f) v N)
 (hv:G.hv l=v\/(l∉J.fl/\Ky J l)):∃ G',RG F G' { J with hp:=(l,T)::J.hp } a w/\G'.hv l=v/\Grow N (· = l) G G'/\∀ g,N g->G'.ow g=.lab l:=by
 let G':Gh:={ ow:=λg=>if N g then .lab l else G.ow g,be:=G.be,hv:=λm=>if m=l then v else G.hv m }
 have gr:Grow N (· = l) G G':=by
  refine⟨λb=>?_,rfl,λm=>?_⟩
  .grind
  .grind
 obtain⟨fo,mo⟩:=gr.carry (w:=w);have hvm:∀ m,(m=l->G.hv l=v)->G'.hv m=G.hv m:=by grind
 refine⟨G',?_,by simp[G'],gr,λg hg=>by simp[G',hg]⟩;constructor
 case tm=>
  intro t tv hl;refine TV.carry fo (λm hm=>hvm m λe=>?_) (λm _=>mo m) (λ_ _=>rfl) (h.tm t tv hl);rcases hv with hv|⟨_,hn⟩
  .exact hv
  .subst e;rw[hn.1 t tv hl] at hm;simp at hm
 case bx=>
  intro b cs hl;obtain⟨h1,r,e,h2,h3⟩:=h.bx b cs hl;refine⟨(gr.same (b:=G.be b) (by simp[h1])).trans h1,r,e,h2,Cells.carry fo (λm hm=>hvm m λe=>?_) (λm _=>mo m) h3⟩;rcases hv with hv|⟨_,hn⟩
  .exact hv
  .subst e;rw[hn.2 b cs hl] at hm;simp at hm
 case hp=>
  intro m T' hl;simp only[look] at hl;by_cases hm:m=l
  .subst hm;simp only[BEq.rfl,aD,R_] at hl;subst hl;simp only[G',aD];exact hT.frame λg hg _=>⟨rfl,by simp[hg]⟩
  .have h0:(m==l)=false:=by simpa using hm
   simp only[h0,cD,aS] at hl;have:G'.hv m=G.hv m:=F_ hm;rw[this];exact(h.hp m T' hl).frame λg hg _=>mo m g hg
 case lt=>
  intro g hg;by_cases hn:N g
  .exact(hN g hn).1
  .exact h.lt g (by simpa [G',hn] using hg)
 case os=>exact h.os
 case tape=>exact h.tape
 case output=>exact h.output
 case size=>exact h.size
 case keep=>
  refine h.keep.next fo (λ_ _=>rfl) λg hg=>?_
  grind
 case fb=>exact h.fb
 case fl=>
  intro m u hm;obtain⟨h1,h2⟩:=h.fl m u hm;grind
 case nt=>exact h.nt
 case df=>exact h.df
open Classical in
def RG.addBox (h:RG F G J a w) (b:Nat) (cs:List Cell) (r:Array Value) (e:TypeId) (h0:G.ow (G.be b)=.gone) (hg:w.heap[G.be b]? = some (.cells r e (0,0))) (hc:A4 w G cs r) :
 ∃ G',RG F G' { J with bx:=(b,cs)::J.bx } a w/\Grow (· = G.be b) (λ_=>False) G G':=by
 let G':Gh:={ ow:=λg=>if g=G.be b then .box b else G.ow g,be:=G.be,hv:=G.hv }
 have gr:Grow (· = G.be b) (λ_=>False) G G':=by refine⟨λg=>?_,rfl,λm=>.inl rfl⟩;grind
 obtain⟨fo,mo⟩:=gr.carry (w:=w);refine⟨G',?_,gr⟩;constructor
 case tm=>exact λt tv hl=>TV.carry fo (λ_ _=>rfl) (λm _=>mo m) (λ_ _=>rfl) (h.tm t tv hl)
 case bx=>
  intro b' cs' hl;simp only[look] at hl;by_cases hbb:b'=b
  .subst hbb;simp only[BEq.rfl,aD,R_] at hl;subst hl;exact⟨by simp[G'],r,e,hg,Cells.carry fo (λ_ _=>rfl) (λm _=>mo m) hc⟩
  .have h0':(b'==b)=false:=by simpa using hbb
   simp only[h0',cD,aS] at hl;obtain⟨h1,r',e',h2,h3⟩:=h.bx b' cs' hl;exact⟨(gr.same (b:=G.be b') (by simp[h1])).trans h1,r',e',h2,Cells.carry fo (λ_ _=>rfl) (λm _=>mo m) h3⟩
 case hp=>exact λl T hl=>(h.hp l T hl).frame λg hg _=>mo l g hg
 case lt=>
  intro g hgo;by_cases e0:g=G.be b
  .grind
  .exact h.lt g (by simpa [G',e0] using hgo)
 case os=>exact h.os
 case tape=>exact h.tape
 case output=>exact h.output
 case size=>exact h.size
 case keep=>
  refine h.keep.next fo (λ_ _=>rfl) λg hg=>?_
  grind
 case fb=>exact h.fb
 case fl=>exact h.fl
 case nt=>exact h.nt
 case df=>exact h.df
def FE (gl kl gb:List Nat):Own->Own
 | .lab m=>if m∈gl\/m∈kl then .gone else .lab m
 | .box b=>if b∈gb then .gone else .box b
 | x=>x
def RG.drop (h:RG F G J a w) (gl kl gb:List Nat):∃ G',RG F G' ({ J with hp:=J.hp.filter λx=>!(gl.contains x.1||kl.contains x.1),bx:=J.bx.filter λx=>!gb.contains x.1 }.zap gl.contains λm=>gl.contains m||kl.contains m) a w/\G'.be=G.be/\G'.hv=G.hv /\
 (∀ b,G.ow b=.gone->G'.ow b=.gone)/\(∀ b m,G.ow b=.lab m->(m∈gl\/m∈kl)->G'.ow b=.gone)/\(∀ b m,G.ow b=.box m->m∈gb->G'.ow b=.gone)/\(∀ b,G'.ow b≠.gone->G'.ow b=G.ow b) /\
 (∀ b m,G'.ow b=.lab m->m∉gl/\m∉kl)/\(∀ b m,G'.ow b=.box m->m∉gb)/\(∀ b,G.ow b=.free->G'.ow b=.free)/\(∀ b m,G.ow b=.lab m->m∉gl->m∉kl->G'.ow b=.lab m)/\(∀ b m,G.ow b=.box m->m∉gb->G'.ow b=.box m)/\∀ b,G.ow b=.cur->G'.ow b=.cur:=by
 let G':Gh:={ ow:=λg=>FE gl kl gb (G.ow g),be:=G.be,hv:=G.hv }
 have sm:∀ g,G'.ow g≠.gone->G'.ow g=G.ow g:=by intro g hg;simp only[G'] at hg ⊢;cases hq:G.ow g<;>simp only[hq,FE] at hg ⊢<;>split<;>simp_all
 have fo:Cf w w G G':=⟨λg hg=>⟨rfl,by simp[G',FE,hg]⟩,λg hg=>by simp[G',FE,hg]⟩;have mo:∀ m,m∉gl->m∉kl->En w w G G' m:=λm h1 h2 g hg=>⟨rfl,by simp[G',FE,hg,h1,h2]⟩
 have mo':∀ m,(gl.contains m||kl.contains m)=false->En w w G G' m:=by simp_all
 refine⟨G',?_,rfl,rfl,λb hb=>by simp[G',FE,hb],λb m hb hm=>by simp[G',FE,hb,hm],λb m hb hm=>by simp[G',FE,hb,hm],sm,λb m hb=>?_,λb m hb=>?_,λb hb=>by simp[G',FE,hb],λb m hb h1 h2=>by simp[G',FE,hb,h1,h2],λb m hb hm=>by simp[G',FE,hb,hm],λb hb=>by simp[G',FE,hb]⟩
 rotate_left
 .have h1:=sm b (by simp[hb]);rw[hb] at h1;simp only[G',<-h1,FE] at hb;split at hb
  .simp at hb
  .rename_i hn;exact⟨λx=>hn (.inl x),λx=>hn (.inr x)⟩
 .have h1:=sm b (by simp[hb]);rw[hb] at h1;simp only[G',<-h1,FE] at hb;split at hb
  .simp at hb
  .rename_i hn;exact hn
 constructor
 case tm=>
  intro t tv hl;simp only[St.zap,St.map,A8 λx:TV=>x.zap gl.contains λm=>gl.contains m||kl.contains m] at hl;cases hq:look J.tm t with
  | none=>simp[hq] at hl
  | some x=>
   simp only[hq,bC,R_] at hl;subst hl;exact TV.carry fo (λ_ _=>rfl) (λm hm=>mo' m (TV.zap_mems hm)) (λ_ _=>rfl) (TV.zap_ok (h.tm t x hq))
 case bx=>
  intro b cs hl;simp only[St.zap,St.map,A8 λcs:List Cell=>cs.map (·.zap gl.contains λm=>gl.contains m||kl.contains m),Bn λx=>!gb.contains x] at hl;split at hl
  .rename_i hgb;cases hq:look J.bx b with
   | none=>simp[hq] at hl
   | some x=>
    simp only[hq,bC,R_] at hl;subst hl;obtain⟨h1,r,e,h2,h3⟩:=h.bx b x hq;refine⟨?_,r,e,h2,Cells.carry fo (λ_ _=>rfl) (λm hm=>mo' m (GO hm)) (Cells.map_ok (λ_ _=>Cell.zap_ok) h3)⟩;have:b∉gb:=by simpa using hgb
    simp[G',FE,h1,this]
  .simp at hl
 case hp=>
  intro l T hl;simp only[St.zap,St.map,Bn λx=>!(gl.contains x||kl.contains x)] at hl;split at hl
  .rename_i hgl;have h1:(gl.contains l||kl.contains l)=false:=by simpa only[cO] using hgl
   exact(h.hp l T hl).frame λg hg _=>mo' l h1 g hg
  .cases hl
 case lt=>exact λg hg=>h.lt g λe=>hg (by simp[G',FE,e])
 case os=>exact h.os
 case tape=>exact h.tape
 case output=>exact h.output
 case size=>exact h.size
 case keep=>exact h.keep.next fo (λ_ _=>rfl) λg hg=>(sm g (by rw[hg];intro e;cases e))▸hg
 case fb=>exact h.fb
 case fl=>exact h.fl
 case nt=>exact h.nt
 case df=>exact h.df
def Cm:Nat->List FC->List Cell
 | _,[]=>[]
 | l,.val v::cs=>.sc v::Cm (l+1) cs
 | l,.nl::cs=>.nil::Cm (l+1) cs
 | l,.l _ _::cs=>.ref l::Cm (l+1) cs
def Fa:Nat->List FC->List (Nat×Tree)
 | _,[]=>[]
 | l,.l t xs::cs=>(l,⟨t,xs⟩)::Fa (l+1) cs
 | l,_::cs=>Fa (l+1) cs
def F4:∀ (cs:List FC) (l:Nat),(Cm l cs).length=cs.length:=by
 intro cs
 induction cs with
 | nil=>intro l;rfl
 | cons c cs ih=>intro l;cases c<;>simp[Cm,ih]
def Fresh (J:St) (l n:Nat):Prop:=∀ m,l<=m->m<l+n->m∉J.fl/\Ky J m
def Fresh.hp {l n:Nat} (h:Fresh J l n) (hp:List (Nat×Tree)):Fresh { J with hp:=hp } l n:=h
def F5:∀ (cs:List FC) (us:List Value) (Fs:Nat->Nat->Prop) (G:Gh) (l:Nat) (J:St),RG F G J a w->(Fa l cs≠[]->Fresh J l cs.length)->us.length=cs.length ->
 (∀ (j:Nat) (c:FC) (u:Value),cs[j]? = some c->us[j]? = some u->TO w (fcC c) u (Fs j)/\u.oneCell'=true)->(∀ j b,Fs j b->b<w.heap.size/\G.ow b=.gone)->(∀ j j' b,Fs j b->Fs j' b->j=j') ->
 ∃ G',RG F G' { J with hp:=Fa l cs++J.hp } a w/\(∀ (j:Nat) (c:Cell) (u:Value),(Cm l cs)[j]? = some c->us[j]? = some u->CellR w G' c u)/\Grow (λb=>∃ j,Fs j b) (λm=>l<=m/\m<l+cs.length) G G':=by
 intro cs
 induction cs with
 | nil=>intro us Fs G l J h _ _ _ _ _;exact⟨G,h,by simp[Cm],Grow.refl _ _ _⟩
 | cons c cs ih=>
  intro us Fs G l J h hfr hlen hT hF hd;cases us with
  | nil=>simp at hlen
  | cons u us=>
   obtain⟨hT0,hone⟩:=hT 0 c u rfl rfl;have hfr':Fa (l+1) cs≠[]->Fresh J (l+1) cs.length:=λhne m h1 h2=>hfr (by cases c<;>simp[Fa,hne]) m O (by simp only[aw];omega)
   obtain⟨G1,k1,k2,k3⟩:=ih us (λj=>Fs (j+1)) G (l+1) J h hfr' (by simpa using hlen) (λj c' u' hc hu=>hT (j+1) c' u' (by simpa using hc) (by simpa using hu)) (λj b hb=>hF (j+1) b hb) (λj j' b hb hb'=>by have:=hd (j+1) (j'+1) b hb hb';omega);have gr:Grow (λb=>∃ j,Fs j b) (λm=>l<=m/\m<l+(c::cs).length) G G1:=k3.mono (λb ⟨j,hj⟩=>⟨j+1,hj⟩) (λm hm=>by simp only[aw];omega);have easy:∀ d:Cell,Cm l (c::cs)=d::Cm (l+1) cs->Fa l (c::cs)=Fa (l+1) cs->(∀ G',CellR w G' d u)->∃ G',RG F G' { J with hp:=Fa l (c::cs)++J.hp } a w/\(∀ (j:Nat) (c':Cell) (u':Value),(Cm l (c::cs))[j]? = some c'->(u::us)[j]? = some u'->CellR w G' c' u')/\Grow (λb=>∃ j,Fs j b) (λm=>l<=m/\m<l+(c::cs).length) G G':=by
    intro d e1 e2 hd';rw[e1,e2];refine⟨G1,k1,λj c' u' hc hu=>?_,gr⟩;cases j with
    | zero=>simp only[List.getElem?_cons_zero,R_] at hc hu;subst hc;subst hu;exact hd' G1
    | succ j=>exact k2 j c' u' (by simpa using hc) (by simpa using hu)
   cases c with
   | val v=>exact easy (.sc v) rfl rfl λG'=>hT0
   | nl=>exact easy .nil rfl rfl λG'=>hT0
   | l t xs=>
    have hT1:TO w (.sl (Tree.mk t xs).k (Tree.mk t xs).n (Tree.mk t xs).f) u (Fs 0):=by rw[<-Cu ⟨t,xs⟩];exact hT0
    obtain⟨h1,h2⟩:=hfr (by simp[Fa]) l (X_ _) (by simp);have hg0:∀ g,Fs 0 g->g<w.heap.size/\G1.ow g=.gone:=λg hg=>⟨(hF 0 g hg).1,k3.gone (hF 0 g hg).2 λ⟨j,hj⟩=>by have:=hd (j+1) 0 g hj hg;omega⟩
    obtain⟨G2,m1,m2,m3,_⟩:=k1.addTree l ⟨t,xs⟩ u (Fs 0) hg0 hT1 (.inr ⟨h1,h2⟩);refine⟨G2,m1,λj c' u' hc hu=>?_,gr.trans (m3.mono (λb hb=>⟨0,hb⟩) λm hm=>by subst hm;simp)⟩;cases j with
    | zero=>
     simp only[Cm,List.getElem?_cons_zero,R_] at hc hu;subst hc;subst hu;exact⟨m2.symm,hone⟩
    | succ j=>
     have hc':=k2 j c' u' (by simpa [Cm] using hc) (by simpa using hu);obtain⟨fo,mo⟩:=m3.carry (w:=w);refine Cell.carry fo (λm hm=>?_) (λm _=>mo m) hc';rcases m3.hv m with e|e
     .exact e
     .subst e;have:∀ (cs:List FC) (l' j:Nat) (c:Cell),(Cm l' cs)[j]? = some c->∀ m,c.refs m=true->l'<=m:=by
       intro cs
       induction cs with
       | nil=>intro l' j c h;simp[Cm] at h
       | cons d cs ih=>
        intro l' j c h m hm;cases d<;>simp only[Cm] at h<;>cases j with
         | zero=>simp only[List.getElem?_cons_zero,R_] at h;subst h;simp[Cell.refs] at hm<;>omega
         | succ j=>have:=ih _ j c (by simpa using h) m hm;omega
      have:=this cs (m+1) j c' (by simpa [Cm] using hc) m hm;omega
end
end Go.D
namespace Go.D
def Gp:Nat->List (Bool×List FC)->List (Bool×List Cell)×List (Nat×Tree)
 | _,[]=>([],[])
 | l,p::ps=>((p.1,Cm l p.2)::(Gp (l+p.2.length) ps).1,(Gp (l+p.2.length) ps).2++Fa l p.2)
def Res.take (l:Nat):Res->TV×List (Nat×Tree)
 | .one a cs=>(.v a (Cm l cs),Fa l cs)
 | .tup ps=>(.tup (Gp l ps).1,(Gp l ps).2)
def Tl:List (Bool×List FC)->Nat
 | []=>0
 | p::ps=>p.2.length+Tl ps
def Res.len:Res->Nat
 | .one _ cs=>cs.length
 | .tup ps=>Tl ps
def Aqi:List Md->Nat->Bool
 | ms,j=>match ms[j]? with
  | some .keep=>true
  | _=>false
def keptO (ms:List Md):List (Nat×Option Nat×Tree)->List (Nat×Nat)
 | []=>[]
 | (cl,some l,_)::r=>bif Aqi ms (cl / 64) then(cl,l)::keptO ms r else keptO ms r
 | (_,none,_)::r=>keptO ms r
def keptH (p:Pst):List (Nat×Nat)->Option (List (Nat×Tree))
 | []=>some []
 | (cl,l)::r=>match look p.hp cl,keptH p r with
  | some T,some hs=>some ((l,T)::hs)
  | _,_=>none
def Ah6 (p:Pst):List (Nat×Nat)->Option (List (Nat×Tree)×List (Nat×List Cell))
 | []=>some ([],[])
 | (cb,b)::r=>match look p.bx cb,Ah6 p r with
  | some ds,some (hs,bs)=>bif decide (ds.length<=64) then some (Fa (64*b) ds++hs,(b,Cm (64*b) ds)::bs) else none
  | _,_=>none
def SO (fl:List Nat) (p:Nat->Bool):Bool:=fl.all λm=>!p m
def AbS (o:Oper) (J:St):Nat:=match o.dst with|some d=>d|none=>J.nt
def HP (d:Nat) (gb:List Nat) (m:Nat):Bool:=m / 64==d||gb.contains (m / 64)
def Ed (J:St) (g:Giv) (ks:List (Nat×Nat)):St :=
 bif g.gl.isEmpty&&g.gb.isEmpty then J else
 let kl:=ks.map (·.2)
 let gl:=g.gl.filter λl=>!kl.contains l
 { J with hp:=J.hp.filter λx=>!(gl.contains x.1||kl.contains x.1),bx:=J.bx.filter λx=>!g.gb.contains x.1 }.zap gl.contains (λm=>gl.contains m||kl.contains m)
def MX (d:Nat) (J:St) (ms:List Md) (g:Giv) (p:Pst):Option (St×TV) :=
 let ks:=keptO ms g.gv
 match keptH p ks,Ah6 p g.bs with
 | some hk,some (hb,bs)=>
  let r:=p.r.take (64*d)
  let σ1:=Ed J g ks
  let σ2:=bif hb.isEmpty&&r.2.isEmpty then σ1 else σ1.zap (HP d g.gb) (λ_=>false)
  bif (hb.isEmpty&&r.2.isEmpty||SO J.fl (HP d g.gb))&&decide (p.r.len<=64)&&AQ (ks.map (·.1)) && !g.gb.contains d&&g.bs.all (λe=>(look J.bx e.2).isSome) then
   some ({ σ2 with hp:=r.2++(hb++(hk++σ2.hp)),bx:=bs++σ2.bx },r.1)
  else none
 | _,_=>none
def IS (o:Oper) (J:St) (ms:List Md) (g:Giv) (K:St->Out) (p:Pst):Out :=
 match MX (AbS o J) J ms g p with
 | some (J',x)=>match o.dst with
  | some d=>bif decide (d<J.nt) then K (J'.put d x) else .bad
  | none=>K J'
 | none=>.bad
def ZA (P:Program) (E:Env) (cls:Bool) (o:Oper) (f:Nat) (xs:List (List (Option Ty)×TV)) (J:St) (K:St->Out):Out :=
 match E.fn f,P.funcs[f]? with
 | some (ms,sp),some fn=>bif fn.body.isSome && !(fn.name == "runtime.NumGoroutine") then(match QZ J (xs.zipIdx.map λx=>((ms[x.2]?).getD .lend,x.1.1,x.1.2)) with
  | some (p,A,g)=>bif cls && !(g.gl.isEmpty&&g.gb.isEmpty&&o.dst.isSome) then .bad else(match sp A with
   | some (.det q r)=>obs p (obs q (IS o J ms g K r))
   | some (.ex q X ok r)=>obs p (obs q (.lp X True ok λx=>IS o J ms g K (r x)))
   | some (.df q X e r)=>obs p (obs q (.lt X e λx=>IS o J ms g K (r x)))
   | none=>.bad)
  | none=>.bad) else .bad
 | _,_=>.bad
section
variable {P:Program} {E:Env} {F:Fr P} {G:Gh} {J:St} {a:Act} {w:World} {o:Oper} {K:St->Out} {Q:Post} {Qx:Exit->Act->World->Prop}
def Pa {agg:Bool} {cs:List FC} {v:Value} {Fs:Nat->Nat->Prop} (h:PartO w agg cs v Fs):∃ us:List Value,us.length=cs.length/\(∀ (j:Nat) (c:FC) (u:Value),cs[j]? = some c->us[j]? = some u->TO w (fcC c) u (Fs j)/\u.oneCell'=true) /\
 ∀ (G:Gh) (ds:List Cell),ds.length=cs.length->(∀ (j:Nat) (c:Cell) (u:Value),ds[j]? = some c->us[j]? = some u->CellR w G c u)->G6 w G agg ds v:=by
 cases agg with
 | false=>
  obtain⟨c,rfl,h1,h2⟩:=h;refine⟨[v],rfl,λj c' u hc hu=>?_,λG ds hl hd=>?_⟩
  .grind
  .obtain⟨d,rfl⟩:=ek.1 hl;exact⟨d,rfl,hd 0 d v rfl rfl⟩
 | true=>
  obtain⟨vs,rfl,hs,h⟩:=h;refine⟨vs.toList,by simpa using hs,λj c u hc hu=>?_,λG ds hl hd=>⟨vs,rfl,by rw[hs,hl],λj c hc=>?_⟩⟩
  .grind
  .have hlt:j<vs.size:=by rw[hs,<-hl];exact(List.getElem?_eq_some_iff.1 hc).1
   exact⟨vs[j],by simp[hlt],hd j c vs[j] hc (by simp[hlt])⟩
def Lr:∀ (cs:List FC) (l j:Nat) (c:Cell),(Cm l cs)[j]? = some c->(∀ m,c.refs m=true->l<=m/\m<l+cs.length)/\∀ m,c.mems m=false:=by
 intro cs
 induction cs with
 | nil=>intro l j c h;simp[Cm] at h
 | cons d cs ih=>
  intro l j c h;cases j with
  | zero=>
   cases d<;>simp only[Cm,List.getElem?_cons_zero,R_] at h<;>subst h<;>refine⟨λm hm=>?_,λm=>rfl⟩<;>simp[Cell.refs] at hm;subst hm;simp
  | succ j=>
   have h':(Cm (l+1) cs)[j]? = some c:=by cases d<;>simpa [Cm] using h
   grind
def Pi:∀ (ps:List (Bool×List FC)) (l:Nat),(Gp l ps).1.length=ps.length:=by
 intro ps
 induction ps with
 | nil=>intro l;rfl
 | cons p ps ih=>intro l;simp[Gp,ih]
def Aee:∀ (ps:List (Bool×List FC)) (vs:List Value) (Fs:Nat->Nat->Nat->Prop) (G:Gh) (l:Nat) (J:St),RG F G J a w->((Gp l ps).2≠[]->Fresh J l (Tl ps))->vs.length=ps.length ->
 (∀ (i:Nat) (p:Bool×List FC) (u:Value),ps[i]? = some p->vs[i]? = some u->PartO w p.1 p.2 u (Fs i))->(∀ i j b,Fs i j b->b<w.heap.size/\G.ow b=.gone)->(∀ i j i' j' b,Fs i j b->Fs i' j' b->i=i'/\j=j') ->
 ∃ G',RG F G' { J with hp:=(Gp l ps).2++J.hp } a w/\(∀ (i:Nat) (p:Bool×List Cell) (u:Value),(Gp l ps).1[i]? = some p->vs[i]? = some u->G6 w G' p.1 p.2 u)/\Grow (λb=>∃ i j,Fs i j b) (λm=>l<=m/\m<l+Tl ps) G G':=by
 intro ps
 induction ps with
 | nil=>intro vs Fs G l J h _ _ _ _ _;exact⟨G,h,by simp[Gp],Grow.refl _ _ _⟩
 | cons p ps ih=>
  intro vs Fs G l J h hfr hlen hT hF hd;cases vs with
  | nil=>simp at hlen
  | cons v vs=>
   obtain⟨us,u1,u2,u3⟩:=Pa (hT 0 p v rfl rfl);obtain⟨G1,k1,k2,k3⟩:=F5 p.2 us (Fs 0) G l J h (λhne m h1 h2=>hfr (by simp[Gp,hne]) m h1 (by simp only[Tl];omega)) u1 u2 (λj b hb=>hF 0 j b hb) λj j' b hb hb'=>(hd 0 j 0 j' b hb hb').2;obtain⟨G2,m1,m2,m3⟩:=ih vs (λi=>Fs (i+1)) G1 (l+p.2.length) { J with hp:=Fa l p.2++J.hp } k1 (λhne m h1 h2=>hfr (by simp[Gp,hne]) m O (by simp only[Tl];omega)) (by simpa using hlen)
    (λi q u hq hu=>hT (i+1) q u (by simpa using hq) (by simpa using hu)) (λi j b hb=>⟨(hF (i+1) j b hb).1,k3.gone (hF (i+1) j b hb).2 λ⟨j',hb'⟩=>by have:=(hd (i+1) j 0 j' b hb hb').1;omega⟩)
    (λi j i' j' b hb hb'=>by have:=hd (i+1) j (i'+1) j' b hb hb';omega)
   refine⟨G2,?_,λi q u hq hu=>?_,(k3.mono (λb ⟨j,hj⟩=>⟨0,j,hj⟩) λm hm=>by simp only[Tl];omega).trans (m3.mono (λb ⟨i,j,hj⟩=>⟨i+1,j,hj⟩) λm hm=>by simp only[Tl];omega)⟩
   .simpa only[Gp,bK] using m1
   .cases i with
    | succ i=>exact m2 i q u (by simpa [Gp] using hq) (by simpa using hu)
    | zero=>
     simp only[Gp,List.getElem?_cons_zero,R_] at hq hu;subst hq;subst hu;refine u3 G2 _ (F4 _ _) λj c u hc hu=>?_
     obtain⟨fo,mo⟩:=m3.carry (w:=w);obtain⟨r1,r2⟩:=Lr _ _ _ _ hc;refine Cell.carry fo (λm hm=>?_) (λm hm=>by rw[r2 m] at hm;cases hm) (k2 j c u hc hu);rcases m3.hv m with e|e
     .exact e
     .have:=r1 m hm;omega
def Y7 (r:Res) {v:Value} {Fs:Nat->Nat->Nat->Prop} (h:RG F G J a w) (l:Nat) (hfr:(r.take l).2≠[]->Fresh J l r.len) (hr:ResR w r v Fs) (hF:∀ i j b,Fs i j b->b<w.heap.size/\G.ow b=.gone) (hd:∀ i j i' j' b,Fs i j b->Fs i' j' b->i=i'/\j=j') :
 ∃ G',RG F G' { J with hp:=(r.take l).2++J.hp } a w/\TVR w G' (r.take l).1 v/\Grow (λb=>∃ i j,Fs i j b) (λm=>l<=m/\m<l+r.len) G G':=by
 cases r with
 | one agg cs=>
  obtain⟨us,u1,u2,u3⟩:=Pa hr;obtain⟨G1,k1,k2,k3⟩:=F5 cs us (Fs 0) G l J h hfr u1 u2 (λj b hb=>hF 0 j b hb) λj j' b hb hb'=>(hd 0 j 0 j' b hb hb').2;exact⟨G1,k1,u3 G1 _ (F4 _ _) k2,k3.mono (λb ⟨j,hj⟩=>⟨0,j,hj⟩) λm hm=>hm⟩
 | tup ps=>
  obtain⟨vs,rfl,hs,hp⟩:=hr;obtain⟨G1,k1,k2,k3⟩:=Aee ps vs.toList Fs G l J h hfr (by simpa using hs) (λi p u hpi hu=>by
   obtain⟨u',hu',ht⟩:=hp i p hpi;have:u=u':=by
    have h2:vs.toList[i]? = some u':=by simpa using hu'
    rw[hu] at h2;injection h2
   subst this;exact ht) hF hd
  refine⟨G1,k1,⟨vs,rfl,by rw[hs,Pi],λi p hpi=>?_⟩,k3⟩;have hlt:i<vs.size:=by rw[hs,<-Pi ps l];exact(List.getElem?_eq_some_iff.1 hpi).1
  exact⟨vs[i],by simp[hlt],k2 i p vs[i] hpi (by simp[hlt])⟩
end
end Go.D
namespace Go.D
section
variable {P:Program} {E:Env} {F:Fr P} {G:Gh} {J:St} {a:Act} {w w':World} {o:Oper} {K:St->Out} {Q:Post} {Qx:Exit->Act->World->Prop}
theorem fy {p:Pst} {hvc:Nat->Value} {Fs:Pl->Nat->Prop} (hT:∀ l T,look p.hp l=some T->TO w (.sl T.k T.n T.f) (hvc l) (Fs (.keep l))) (hd:∀ s s' b,Fs s b->Fs s' b->s=s') (hlt:∀ s b,Fs s b->b<w.heap.size) :
 ∀ (ks:List (Nat×Nat)) (hs:List (Nat×Tree)) (J:St) (G:Gh),RG F G J a w->keptH p ks=some hs->AQ (ks.map (·.1))=true->(∀ e∈ks,hvc e.1=G.hv e.2)->(∀ e∈ks,∀ b,Fs (.keep e.1) b->G.ow b=.gone) ->
 ∃ G',RG F G' { J with hp:=hs++J.hp } a w/\Grow (λb=>∃ e∈ks,Fs (.keep e.1) b) (λ_=>False) G G':=by
 intro ks
 induction ks with
 | nil=>intro hs J G h hk _ _ _;simp only[keptH,R_] at hk;subst hk;exact⟨G,h,Grow.refl _ _ _⟩
 | cons e ks ih=>
  obtain⟨cl,l⟩:=e;intro hs J G h hk hn hv hg;simp only[keptH] at hk;split at hk
  .rename_i T hs' h1 h2;simp at hk;subst hk;simp only[aY,AQ,T_,cO,List.contains_eq_mem,cw] at hn;obtain⟨G1,k1,k2⟩:=ih hs' J G h h2 hn.2 (λe he=>hv e (by grind)) λe he=>hg e (by simp[he]);have hv1:∀ m,G1.hv m=G.hv m:=λm=>(k2.hv m).resolve_right id
   have hg1:∀ b,Fs (.keep cl) b->G1.ow b=.gone:=λb hb=>k2.gone (hg (cl,l) (by simp) b hb) λ⟨e,he,hb'⟩=>by grind
   obtain⟨G2,m1,m2,m3,_⟩:=k1.addTree l T (hvc cl) (Fs (.keep cl)) (λb hb=>⟨hlt _ _ hb,hg1 b hb⟩) (hT cl T h1) (.inl (by simp_all));refine⟨G2,m1,Grow.trans (k2.mono (λb ⟨e,he,hb⟩=>⟨e,by grind,hb⟩) λ_ h=>h) ⟨λb=>(m3.ow b).imp id λx=>⟨⟨(cl,l),by simp,x.1⟩,x.2⟩,m3.be,λm=>.inl ?_⟩⟩;rcases m3.hv m with e|e
   .exact e
   .simp_all
  .simp at hk
def AaA {J:St} {l b:Nat} {cs:List Cell} (h:Ky J l) (hc:cs.any (·.refs l)=false):Ky { J with bx:=(b,cs)::J.bx } l:=by
 refine⟨h.1,λb' cs' hl=>?_⟩;simp only[look] at hl;split at hl
 .simp_all
 .exact h.2 b' cs' hl
def Akk {p:Pst} {bec:Nat->Nat} {Fs:Pl->Nat->Prop} (hT:∀ b cs,look p.bx b=some cs->∃ r e,w.heap[bec b]? = some (.cells r e (0,0))/\r.size=cs.length/\∀ (j:Nat) (c:FC),cs[j]? = some c->∃ u,r[j]? = some u/\TO w (fcC c) u (Fs (.box b j))/\u.oneCell'=true)
 (hd:∀ s s' b,Fs s b->Fs s' b->s=s') (hlt:∀ s b,Fs s b->b<w.heap.size) :
 ∀ (bs:List (Nat×Nat)) (hb:List (Nat×Tree)) (bb:List (Nat×List Cell)) (J:St) (G:Gh),RG F G J a w->Ah6 p bs=some (hb,bb)->AQ (bs.map (·.1))=true->AQ (bs.map (·.2))=true->(∀ e∈bs,bec e.1=G.be e.2) ->
 (∀ e∈bs,∀ e'∈bs,G.be e.2=G.be e'.2->e.2=e'.2)->(∀ e∈bs,G.ow (G.be e.2)=.gone/\∀ s,¬ Fs s (G.be e.2))->(∀ e∈bs,∀ j b,Fs (.box e.1 j) b->G.ow b=.gone)->(hb≠[]->∀ e∈bs,Fresh J (64*e.2) 64) ->
 ∃ G',RG F G' { J with hp:=hb++J.hp,bx:=bb++J.bx } a w/\Grow (λb=>(∃ e∈bs,∃ j,Fs (.box e.1 j) b)\/∃ e∈bs,b=G.be e.2) (λm=>m / 64∈bs.map (·.2)) G G' /\
  ∀ l,Ky J l->l / 64∉bs.map (·.2)->Ky { J with hp:=hb++J.hp,bx:=bb++J.bx } l:=by
 intro bs
 induction bs with
 | nil=>intro hb bb J G h hk _ _ _ _ _ _ _;simp only[Ah6,R_,bW] at hk;obtain⟨rfl,rfl⟩:=hk;exact⟨G,h,Grow.refl _ _ _,λl hl _=>hl⟩
 | cons e bs ih=>
  obtain⟨cb,b⟩:=e;intro hb bb J G h hk hn hn2 hbe hinj hgb hgt hfr;simp only[Ah6] at hk;split at hk
  .rename_i ds hs' bs' h1 h2;cases hc:decide (ds.length<=64) with
   | false=>simp[hc] at hk
   | true=>
    simp only[hc,aX,R_,bW] at hk;obtain⟨rfl,rfl⟩:=hk;have hlen:ds.length<=64:=ee hc;simp only[aY,AQ,T_,cO,List.contains_eq_mem,cw] at hn hn2;obtain⟨G1,k1,k2,k3⟩:=ih hs' bs' J G h h2 hn.2 hn2.2 (λe he=>hbe e (by simp[he])) (λe he e' he'=>hinj e (by simp[he]) e' (by grind)) (λe he=>hgb e (by simp[he])) (λe he=>hgt e (by simp[he]))
     (λhne e he=>hfr (by simp[hne]) e (by grind))
    obtain⟨r,t,r1,r2,r3⟩:=hT cb ds h1;have hbeb:bec cb=G.be b:=hbe (cb,b) (by simp);have hgone:∀ j x,Fs (.box cb j) x->G1.ow x=.gone:=λj x hx=>k2.gone (hgt (cb,b) (by simp) j x hx) λhu=>by
     rcases hu with⟨e,he,j',hx'⟩|⟨e,he,rfl⟩
     .have:=hd _ _ _ hx hx';injection this with this
      exact hn.1 (this▸List.mem_map_of_mem he)
     .exact(hgb e (by grind)).2 _ hx
    have hnl:∀ m,64*b<=m->m<64*b+ds.length->m / 64=b:=λm h1 h2=>O
    obtain⟨G2,m1,m2,m3⟩:=F5 ds r.toList (λj=>Fs (.box cb j)) G1 (64*b) { J with hp:=hs'++J.hp,bx:=bs'++J.bx } k1
     (λhne m h1 h2=>⟨(hfr (by simp[hne]) (cb,b) (by simp) m h1 O).1,k3 m (hfr (by simp[hne]) (cb,b) (by simp) m h1 O).2 (by grind)⟩)
     O (λj c u hj hu=>by
      obtain⟨u',hu',ht⟩:=r3 j c hj;have h2:r.toList[j]? = some u':=by grind
      rw[hu] at h2;injection h2 with h2
      subst h2;exact ht) (λj x hx=>⟨hlt _ _ hx,hgone j x hx⟩) (λj j' x hx hx'=>by grind)
    have hbe2:G2.be=G.be:=m3.be.trans k2.be;have hg2:G2.ow (G2.be b)=.gone:=by
     rw[hbe2];refine m3.gone (k2.gone (hgb (cb,b) (by simp)).1 λhu=>?_) λ⟨j,hj⟩=>(hgb (cb,b) (by simp)).2 _ hj
     rcases hu with⟨e,he,j',hx'⟩|⟨e,he,hx⟩
     .exact(hgb (cb,b) (by simp)).2 _ hx'
     .have:=hinj (cb,b) (by simp) e (by grind) hx;have h3:b=e.2:=this;exact hn2.1 (h3▸List.mem_map_of_mem he)
    obtain⟨G3,n1,n2⟩:=m1.addBox b (Cm (64*b) ds) r t hg2 (by grind) ⟨by rw[F4];exact r2,λj c hj=>by
     have hlt:j<r.size:=by rw[r2,<-F4 ds (64*b)];exact(List.getElem?_eq_some_iff.1 hj).1
     exact⟨r[j],by simp,m2 j c r[j] hj (by simp[hlt])⟩⟩
    refine⟨G3,?_,?_,λl hl hml=>?_⟩
    .simpa only[bK,cy] using n1
    .refine Grow.trans (k2.mono (λx hx=>?_) λm hm=>by simp[hm]) (Grow.trans (m3.mono (λx ⟨j,hx⟩=>.inl ⟨(cb,b),by simp,j,hx⟩) λm hm=>by grind) (n2.mono (λx hx=>.inr ⟨(cb,b),by simp,by rw[<-hbe2];exact hx⟩) λm hm=>hm.elim));rcases hx with⟨e,he,j,hx⟩|⟨e,he,hx⟩
     .exact .inl ⟨e,by grind,j,hx⟩
     .exact .inr ⟨e,by grind,hx⟩
    .have hml':l / 64≠b/\l / 64∉bs.map (·.2):=by simpa using hml
     have hk:=k3 l hl hml'.2;refine AaA (J:={ J with hp:=_,bx:=bs'++J.bx }) hk ?_;cases hq:(Cm (64*b) ds).any (·.refs l) with
     | false=>rfl
     | true=>
      obtain⟨c,hc,hr⟩:=bI.1 hq;obtain⟨j,hj⟩:=List.mem_iff_getElem?.1 hc;have:=(Lr _ _ _ _ hj).1 l hr;exact absurd (hnl l this.1 this.2) hml'.1
  .simp at hk
def Ac6 {p:Pst}:∀ {bs:List (Nat×Nat)} {r:List (Nat×Tree)×List (Nat×List Cell)},Ah6 p bs=some r->∀ e∈bs,(look p.bx e.1).isSome=true:=by
 intro bs
 induction bs with
 | nil=>intro r _ e he;simp at he
 | cons x bs ih=>
  intro r h e he;simp only[Ah6] at h;grind
theorem dh {ms:List Md}:∀ {gv:List (Nat×Option Nat×Tree)} {e:Nat×Nat},e∈keptO ms gv->∃ T,(e.1,some e.2,T)∈gv:=by
 intro gv
 induction gv with
 | nil=>intro e h;simp[keptO] at h
 | cons x gv ih=>
  obtain⟨cl,m,T⟩:=x;intro e h;cases m with
  | none=>obtain⟨T',h'⟩:=ih (e:=e) (by simpa [keptO] using h);exact⟨T',by grind⟩
  | some l=>
   simp only[keptO] at h;grind
def YG (h:RG F G J a w) (g:Giv) (ks:List (Nat×Nat)) (hks:∀ e∈ks,e.2∈g.gl):∃ G',RG F G' (Ed J g ks) a w/\G'.be=G.be/\G'.hv=G.hv/\(∀ b,G.ow b=.gone->G'.ow b=.gone)/\(∀ b m,G.ow b=.lab m->m∈g.gl->G'.ow b=.gone) /\
 (∀ b m,G.ow b=.box m->m∈g.gb->G'.ow b=.gone)/\(∀ b,G'.ow b≠.gone->G'.ow b=G.ow b)/\(∀ b m,G'.ow b=.lab m->m∉g.gl)/\(∀ b m,G'.ow b=.box m->m∉g.gb)/\(g.gl=[]->g.gb=[]->G'=G):=by
 unfold Ed;cases hc:(g.gl.isEmpty&&g.gb.isEmpty) with
 | true=>
  grind
 | false=>
  obtain⟨G',k1,k2,k3,k4,k5,k6,k7,k8,k9,_⟩:=h.drop (g.gl.filter λl=>!(ks.map (·.2)).contains l) (ks.map (·.2)) g.gb;grind
def RQ {d:Nat} {ms:List Md} {g:Giv} {p:Pst} {v:Value} {Fs:Pl->Nat->Prop} {J':St} {x:TV} (h:RG F G J a w) (hng:AQ (g.gv.map (·.1))=true) (hbs:AQ (g.bs.map (·.1))=true) (hgb:AQ g.gb=true) (ho:Onward w w')
 (hfree:∀ b,(gc w G g).ow b=.free->w'.heap[b]? = w.heap[b]?) (hcur:∀ b,(gc w G g).ow b=.cur->CurStep w w' b) (hp:PstF w (gc w G g) w' v p Fs) (hk:MX d J ms g p=some (J',x)) :
 ∃ G',RG F G' J' a w'/\TVR w' G' x v/\(g.gl=[]->g.gb=[]->(∀ b,G.ow b≠.gone->G'.ow b=G.ow b)/\G'.be=G.be/\∀ l,(l<64*d\/64*d+64<=l)->G'.hv l=G.hv l):=by
 unfold MX at hk;dsimp only at hk;split at hk
 .rename_i hkp hb bs e1 e2;generalize hcnd:((hb.isEmpty&&(p.r.take (64*d)).2.isEmpty||SO J.fl (HP d g.gb))&&decide (p.r.len<=64)&&AQ ((keptO ms g.gv).map (·.1)) && !g.gb.contains d&&g.bs.all λe=>(look J.bx e.2).isSome)=cnd at hk;cases cnd with
  | false=>simp at hk
  | true=>
   obtain⟨rfl,rfl⟩:=hk;simp only[T_,dt,cO,az,List.contains_eq_mem,cw,aM] at hcnd;obtain⟨⟨⟨⟨c1,c2⟩,c3⟩,c4⟩,c5⟩:=hcnd;have kmem:∀ e∈keptO ms g.gv,e.2∈g.gl:=λe he=>let ⟨T,hT⟩:=dh he;AhL hT
   obtain⟨G1,d1,d2,d3,d4,d5,d6,d7,d8,d9,d10⟩:=YG h g (keptO ms g.gv) kmem;have hlt:∀ b,w.heap.size<=b->G.ow b=.gone:=by
    intro b hb1;cases hq:G.ow b with
    | gone=>rfl
    | _=>exact absurd (h.lt b (by grind)) O
   have w1:RG F G1 (Ed J g (keptO ms g.gv)) a w':=d1.world2 ho (λb hb1 hb2=>by
    have e:=d7 b hb1;refine hfree b (Vd ?_ (e▸hb2) (λm hm=>?_) λm hm=>?_)
    .exact h.lt b (e▸hb1)
    .exact d8 b m (e.trans hm)
    .exact d9 b m (e.trans hm)) λb hb1=>by
    have e:=d7 b (by grind);have hc:G.ow b=.cur:=e▸hb1;have hlt1:b<w.heap.size:=h.lt b (by grind);exact hcur b (by simp only[gc,hlt1,aD,hc,RM])
   have hgn:∀ s b,Fs s b->G1.ow b=.gone:=by
    intro s b hs;have e:=(hp.own s b hs).2.1.1;have e0:=(hp.own s b hs).2.1.2;by_cases hb1:b<w.heap.size
    .simp only[gc,hb1,aD] at e e0;cases hq:G.ow b with
     | gone=>exact d4 b hq
     | free=>simp[hq,RM] at e
     | lab m=>
      rw[hq] at e;simp only[RM] at e;split at e
      .rename_i cl hl2;obtain⟨T,hT⟩:=Wk hl2;exact d5 b m hq (AhL hT)
      .simp at e
     | box m=>
      rw[hq] at e;simp only[RM] at e;split at e
      .rename_i cb hl2;exact d6 b m hq (List.mem_map_of_mem (f:=(·.2)) (WC hl2))
      .simp at e
     | cur=>rw[hq] at e0;exact absurd rfl e0
    .exact d4 b (hlt b O)
   have hbo:∀ e∈g.bs,G.ow (G.be e.2)=.box e.2:=by intro e he;obtain⟨cs,hcs⟩:=Option.isSome_iff_exists.1 (c5 e he);exact(h.bx e.2 cs hcs).1
   have hnb:∀ e∈g.bs,∀ s,¬ Fs s (G.be e.2):=by
    intro e he s hs;have hbe1:(gc w G g).be e.1=G.be e.2:=by have:=Kh (l:=g.bs) hbs he;simp only[gc,this]
    exact(hp.own s _ hs).2.2 e.1 (Ac6 e2 e he) hbe1.symm
   have w2:RG F G1 (bif hb.isEmpty&&(p.r.take (64*d)).2.isEmpty then Ed J g (keptO ms g.gv) else(Ed J g (keptO ms g.gv)).zap (HP d g.gb) λ_=>false) a w':=by
    cases hb.isEmpty&&(p.r.take (64*d)).2.isEmpty with
    | true=>exact w1
    | false=>exact w1.zap _ _
   have hfl:(bif hb.isEmpty&&(p.r.take (64*d)).2.isEmpty then Ed J g (keptO ms g.gv) else(Ed J g (keptO ms g.gv)).zap (HP d g.gb) λ_=>false).fl=J.fl:=by
    have:(Ed J g (keptO ms g.gv)).fl=J.fl:=by unfold Ed;cases (g.gl.isEmpty&&g.gb.isEmpty)<;>rfl
    cases hb.isEmpty&&(p.r.take (64*d)).2.isEmpty
    .exact this
    .exact this
   have fresh:∀ m,(hb≠[]\/(p.r.take (64*d)).2≠[])->HP d g.gb m=true->m∉J.fl/\Ky (bif hb.isEmpty&&(p.r.take (64*d)).2.isEmpty then Ed J g (keptO ms g.gv) else(Ed J g (keptO ms g.gv)).zap (HP d g.gb) λ_=>false) m:=by
    intro m hne hm;have hf:(hb.isEmpty&&(p.r.take (64*d)).2.isEmpty)=false:=by rcases hne with hne|hne<;>simp[hne]
    rw[hf];refine⟨λhmem=>?_,Ad7 hm⟩;rcases c1 with c1|c1
    .simp[c1.1,c1.2] at hf
    .unfold SO at c1;rw[aM] at c1;have:=c1 m hmem;simp[hm] at this
   generalize (bif hb.isEmpty&&(p.r.take (64*d)).2.isEmpty then Ed J g (keptO ms g.gv) else(Ed J g (keptO ms g.gv)).zap (HP d g.gb) λ_=>false)=σ2 at w2 hfl fresh;obtain⟨G2,k1,k2⟩:=fy (hvc:=(gc w G g).hv) hp.hp hp.dis (λs b hs=>(hp.own s b hs).1) (keptO ms g.gv) hkp σ2 G1 w2 e1 c3 (λe he=>by obtain⟨T,hT⟩:=dh he;have:=Kh (l:=g.gv) hng hT;rw[d3];simp only[gc,this]) (λe he b hb1=>hgn _ _ hb1)
   have hmb:∀ e∈g.bs,e.2∈g.gb:=λe he=>List.mem_map_of_mem he
   have hbe1:∀ e∈g.bs,(gc w G g).be e.1=G.be e.2:=λe he=>by have:=Kh (l:=g.bs) hbs he;simp only[gc,this]
   have hbe2:G2.be=G.be:=k2.be.trans d2;obtain⟨G3,m1,m2,m3⟩:=Akk (bec:=(gc w G g).be) hp.bx hp.dis (λs b hs=>(hp.own s b hs).1) g.bs hb bs { σ2 with hp:=hkp++σ2.hp } G2 k1 e2 hbs hgb (λe he=>by grind)
    (λe he e' he' hee=>by grind)
    (λe he=>by rw[hbe2];refine⟨k2.gone (d6 _ _ (hbo e he) (hmb e he)) λ⟨e',_,hx⟩=>hnb e he _ hx,hnb e he⟩)
    (λe he j b hb1=>k2.gone (hgn _ _ hb1) λ⟨e',_,hx⟩=>by have:=hp.dis _ _ _ hb1 hx;cases this)
    (λhne e he m h1 h2=>by
     have hr:HP d g.gb m=true:=by
      have:m / 64=e.2:=O
      simp[HP,this,hmb e he]
     have:=fresh m (.inl hne) hr;exact⟨by grind,this.2⟩)
   obtain⟨G4,n1,n2,n3⟩:=Y7 p.r m1 (64*d) (λhne m h1 h2=>by
    have hmd:m / 64=d:=O
    have hr:HP d g.gb m=true:=by simp[HP,hmd]
    have:=fresh m (.inr hne) hr;exact⟨by grind,m3 m this.2 (by rw[hmd];exact c4)⟩) hp.res
    (λi j b hb1=>⟨(hp.own _ _ hb1).1,m2.gone (k2.gone (hgn _ _ hb1) λ⟨e',_,hx⟩=>by have:=hp.dis _ _ _ hb1 hx;cases this) λhu=>by
     rcases hu with⟨e',_,j',hx⟩|⟨e',he',hx⟩
     .have:=hp.dis _ _ _ hb1 hx;cases this
     .rw[hbe2] at hx;exact hnb e' he' _ (hx▸hb1)⟩)
    (λi j i' j' b hb1 hb2=>by have:=hp.dis _ _ _ hb1 hb2;injection this with x1 x2;exact⟨x1,x2⟩)
   refine⟨G4,n1,n2,λhgl hgb0=>?_⟩;have hG:G1=G:=d10 hgl hgb0;have hbs0:g.bs=[]:=by simpa [Giv.gb] using hgb0
   subst hG;refine⟨λb hb1=>?_,n3.be.trans (m2.be.trans k2.be),λl hl=>?_⟩
   .rw[n3.same,m2.same,k2.same hb1]
    .rw[k2.same hb1];exact hb1
    .rw[m2.same (by rw[k2.same hb1];exact hb1),k2.same hb1];exact hb1
   .have q1:G4.hv l=G3.hv l:=(n3.hv l).resolve_right O;have q2:G3.hv l=G2.hv l:=(m2.hv l).resolve_right (by grind);have q3:G2.hv l=G1.hv l:=(k2.hv l).resolve_right id;rw[q1,q2,q3]
 .simp at hk
end
end Go.D
namespace Go.D
def Cell.isFree:Cell->Bool
 | .im none _ _=>true
 | _=>false
def Cell.unfree (c:Cell):Cell:=bif c.isFree then .dead else c
def TV.unfree:TV->TV
 | .v a cs=>.v a (cs.map Cell.unfree)
 | .tup ps=>.tup (ps.map λp=>(p.1,p.2.map Cell.unfree))
 | .sptr none _ _ _=>.dead
 | .cur=>.dead
 | .aptr _ _=>.dead
 | .clo _ _=>.dead
 | x=>x
def OF (J:St) (l lp:Nat) (t:Ty) (xs:List (El t)):St :=
 ({ J with hp:=(lp,⟨t,xs⟩)::J.hp.filter λp=>!(p.1==l||p.1==lp),fl:=lp::l::J.fl }.kill [lp]).loose [l]
def St.unfree (J:St):St:=J.map Cell.unfree TV.unfree
def OW (J:St) (fl:List Nat) (l lp:Nat) (T:Tree):St :=
 (({ J with hp:=(l,T)::J.hp.filter λp=>!(p.1==l||p.1==lp),fl:=fl }.kill [lp]).loose [l]).unfree
section
variable {P:Program} {F:Fr P} {G G1:Gh} {J:St} {a:Act} {w w':World}
def HS (hp:List (Nat×Tree)) (l lp m:Nat) (T:Tree) (x:Nat) (hx:x=l\/x=lp):look ((x,T)::hp.filter λp=>!(p.1==l||p.1==lp)) m=if m=x then some T else if m=l\/m=lp then none else look hp m:=by
 simp only[look,da];by_cases h1:m=x
 .simp[h1]
 .have:=Bn (λq=>!(q==l||q==lp)) hp m;grind
def UU {G G':Gh} {l lp:Nat} {c:Cell} {v:Value} (hr:∀ m,m≠lp->G'.hv m=G.hv m) (hf:Cf w w' G G') (hm:∀ m,m≠l->m≠lp->En w w' G G' m) (h:CellR w G c v):CellR w' G' ((c.kill [lp]).loose [l]) v:=by
 refine Cell.carry hf (λm e=>?_) (λm e=>?_) (Cell.loose_ok [l] (Cell.kill_ok [lp] h))
 .have e1:(c.kill [lp]).refs m=true:=by
   unfold Cell.loose at e;split at e
   .simp[Cell.refs] at e
   .exact e
  exact hr m (by simpa using(Cell.kill_refs e1).2)
 .obtain⟨h1,h2⟩:=Cell.loose_mems e;exact hm m (by grind) (by simpa using(Cell.kill_mems h1).2)
def Vg {x:TV} {ls:List Nat} {m:Nat} (h:(x.loose ls).refs m=true):x.refs m=true:=by
 have hc:∀ c:Cell,(c.loose ls).refs m=true->c.refs m=true:=by
  intro c e;unfold Cell.loose at e;split at e
  .simp[Cell.refs] at e
  .exact e
 have hcs:∀ cs:List Cell,(cs.map (·.loose ls)).any (·.refs m)=true->cs.any (·.refs m)=true:=by grind
 cases x<;>simp only[TV.loose,TV.map] at h
 case v agg cs=>exact hcs cs h
 case tup ps=>
  simp only[TV.refs,List.any_map,bI] at h;obtain⟨p,hm,hp⟩:=h;exact bI.2 ⟨p,hm,hcs _ (by grind)⟩
 all_goals
  split at h
  .simp[TV.refs] at h
  .exact h
def AbG {G G':Gh} {l lp:Nat} {x:TV} {v:Value} (hr:∀ m,m≠lp->G'.hv m=G.hv m) (hb:G'.be=G.be) (hf:Cf w w' G G') (hm:∀ m,m≠l->m≠lp->En w w' G G' m) (h:TVR w G x v):TVR w' G' ((x.kill [lp]).loose [l]) v:=by
 have hx:=TV.map_ok (f:=λc=>c.loose [l]) (bad:=λx=>[l].any λl=>x.mems l) (λ_ _=>Cell.loose_ok [l]) (TV.map_ok (f:=λc=>c.kill [lp]) (bad:=λx=>[lp].any λl=>x.refs l||x.mems l) (λ_ _=>Cell.kill_ok [lp]) h);refine TV.carry hf (λm e=>?_) (λm e=>?_) (λ_ _=>by rw[hb]) hx
 .exact hr m (by simpa using TV.kill_refs (Vg e))
 .exact hm m (by simpa using TV.loose_mems e) (by simpa using TV.kill_mems (TV.loose_mems' e))
def ZP {l k e j:Nat} {T:Tree} {v:Value} (h:RG F G J a w) (hT:look J.hp l=some T) (hk:T.k=k) (hx:InnR w G l k e j v) :
 ∃ g o cap row ety GG,InnAt w G l e j T v g o cap row ety GG:=by
 obtain⟨g,o,n,cap,r,ety,h1,h2,h3,h4,h5,h6⟩:=hx;rcases h.hp l T hT with⟨⟨ad,hz⟩,_⟩|⟨g2,o2,cap2,row2,e2,GG,hv2,hn2,hc2,hg2,hF2,hrow2,hsub2,hdis2⟩
 .rw[h1] at hz;injection hz with _ hz _
  omega
 rw[h1] at hv2;injection hv2 with ha hn hcap
 injection ha with ha
 injection ha with hgg hoo
 subst hgg hoo hn hcap;rw[h5] at hg2;injection hg2 with hg2
 injection hg2 with hr2 he2 hfr2
 subst hr2 he2;subst hk;exact⟨g,o,cap,r,ety,GG,h1,hn2,hc2,h5,h4,hrow2,hsub2,hdis2,h2,h3,h6⟩
def Ag7 {l k e j:Nat} {t:Ty} {xs:List (El t)} {T:Tree} {v:Value} (h:RG F G J a w) (hT:look J.hp l=some T) (hk:T.k=k) (hx:TVR w G (.inn l k e j t xs) v):∃ g o cap row ety GG,InnAt w G l e j T v g o cap row ety GG:=ZP h hT hk hx.1
structure InnG (G G1:Gh) (S:Nat->Prop) (l lp:Nat) (v:Value):Prop where
 be:G1.be=G.be
 hv:∀ m,G1.hv m=if m=lp then v else G.hv m
 ins:∀ b,S b->G1.ow b=.lab lp
 out:∀ b,¬ S b->G1.ow b=match G.ow b with
  | .lab m=>if m=l then .free else if m=lp then .gone else .lab m
  | x=>x
open Classical in
def Vb (G:Gh) (S:Nat->Prop) (l lp:Nat) (v:Value):∃ G1,InnG G G1 S l lp v :=
 ⟨⟨λb=>if S b then .lab lp else match G.ow b with
  | .lab m=>if m=l then .free else if m=lp then .gone else .lab m
  | x=>x,G.be,λm=>if m=lp then v else G.hv m⟩,rfl,λm=>rfl,λb hb=>by simp[hb],λb hb=>by simp[hb]⟩
def InnG.base {P:Program} {G G1:Gh} {S:Nat->Prop} {l lp:Nat} {v:Value} {w:World} (h:Base P w G.ow) (hS:∀ b,S b->G.ow b=.lab l) (hG:InnG G G1 S l lp v):Base P w G1.ow :=
 let ⟨w1,h1,hl,h2⟩:=h
 ⟨w1,h1,hl,λb hb=>let ⟨x,y,z⟩:=h2 b hb;⟨x,by rw[hG.out b (λhs=>by grind),y],z⟩⟩
def Yt {P:Program} (F:Fr P) (G G1:Gh) (w:World) (l lp:Nat) (v:Value) (hb:Base P w G1.ow):Fr P:={ w0:=w,ow0:=G1.ow,be0:=F.be0,hv0:=(lp,v)::(l,G.hv l)::F.hv0,ok:=hb }
def N5 {l e j lp:Nat} {t:Ty} {xs:List (El t)} {T:Tree} {v:Value} {g o cap:Nat} {row:Array Value} {ety:TypeId} {GG:Nat->Nat->Nat->Prop} (h:RG F G J a w) (hT:look J.hp l=some T) (hI:InnAt w G l e j T v g o cap row ety GG)
 (hcell:cell T.t T.xs e j=.l t xs) (hne:lp≠l) (hfl:lp∉J.fl) (hG:InnG G G1 (GG e j) l lp v) (hb:Base P w G1.ow) :
 RG (Yt F G G1 w l lp v hb) G1 (OF J l lp t xs) a w:=by
 have hS:∀ b,GG e j b->G.ow b=.lab l/\b≠g:=hI.sub e hI.he j hI.hj;have how:∀ b x,G.ow b=x->(∀ m,x=.lab m->m≠l/\m≠lp)->G1.ow b=x:=by
  intro b x hb hx;have hn:¬ GG e j b:=λhs=>by grind
  rw[hG.out b hn,hb];grind
 have hr:∀ m,m≠lp->G1.hv m=G.hv m:=λm hm=>by rw[hG.hv,F_ hm]
 have hf:Cf w w G G1:=⟨λb hb=>⟨rfl,how b _ hb λm e=>by cases e⟩,λb hb=>how b _ hb λm e=>by cases e⟩;have hm:∀ m,m≠l->m≠lp->En w w G G1 m:=λm h1 h2 b hb=>⟨rfl,how b _ hb λm' e=>by grind⟩
 constructor
 case tm=>
  intro s tv hlk;simp only[OF,St.loose,St.kill,St.map,dz,Function.comp_def] at hlk;rw[A8 λx:TV=>(x.kill [lp]).loose [l]] at hlk;cases hq:look J.tm s with
  | none=>simp[hq] at hlk
  | some x=>
   simp only[hq,bC,R_] at hlk;subst hlk;exact AbG hr hG.be hf hm (h.tm s x hq)
 case bx=>
  intro b cs hlk;simp only[OF,St.loose,St.kill,St.map,dz,Function.comp_def] at hlk;rw[A8 λcs:List Cell=>cs.map λc=>(c.kill [lp]).loose [l]] at hlk;cases hq:look J.bx b with
  | none=>simp[hq] at hlk
  | some x=>
   simp only[hq,bC,R_] at hlk;subst hlk;obtain⟨h1,r,e',h2,h3⟩:=h.bx b x hq;rw[hG.be];refine⟨how _ _ h1 (λm e=>by cases e),r,e',h2,by simpa using h3.1,λjj c hjj=>?_⟩;rw[cz] at hjj;cases hq2:x[jj]? with
   | none=>simp[hq2] at hjj
   | some c0=>
    simp only[hq2,bC,R_] at hjj;subst hjj;obtain⟨u,hu,ht⟩:=h3.2 jj c0 hq2;exact⟨u,hu,UU hr hf hm ht⟩
 case hp=>
  intro m T' hlk;simp only[OF,St.loose,St.kill,St.map] at hlk;rw[HS J.hp l lp m ⟨t,xs⟩ lp (.inr rfl)] at hlk;by_cases h1:m=lp
  .subst h1;simp at hlk;subst hlk;obtain⟨u,hu,ht⟩:=hI.cells e hI.he j hI.hj;rw[hI.at_] at hu;injection hu with hu
   subst hu;have e1:G1.hv m=v:=by rw[hG.hv,G_ rfl]
   rw[e1];have e2:T.f e j=.sl (Tree.k ⟨t,xs⟩) (Tree.n ⟨t,xs⟩) (Tree.f ⟨t,xs⟩):=by rw[<-Cu ⟨t,xs⟩];show fcC (cell T.t T.xs e j)=_;rw[hcell]
   rw[e2] at ht;exact ht.frame λb hb _=>⟨rfl,hG.ins b hb⟩
  .simp only[h1,aS] at hlk;by_cases h2:m=l
   .simp[h2] at hlk
   .simp only[h2,false_or,aS] at hlk;rw[hr m h1];exact(h.hp m T' hlk).frame λb hb _=>⟨rfl,how b _ hb λm' e=>by grind⟩
 case lt=>
  intro b hb;apply h.lt b;grind
 case os=>rfl
 case tape=>rfl
 case output=>exact⟨rfl,DrLe.refl _⟩
 case size=>exact X_ _
 case keep=>
  have hcb:∀ b,G1.ow b=.cur->G.ow b=.cur:=by
   intro b hb;by_cases hs:GG e j b
   .rw[hG.ins b hs] at hb;cases hb
   .rw[hG.out b hs] at hb;grind
  exact⟨λb _ hb=>⟨rfl,hb⟩,λb _ hb=>⟨hb,(h.keep.at_ b (hcb b hb)).same rfl⟩,λb hb=>(h.keep.at_ b (hcb b hb)).carry hf rfl⟩
 case fb=>exact λb β hb=>by rw[hG.be];exact h.fb b β hb
 case fl=>
  intro m u hlk;simp only[Yt,look,da] at hlk;by_cases h1:m=lp
  .simp only[h1,aD,R_] at hlk;subst hlk;exact⟨by rw[hG.hv,G_ h1],by simp[OF,St.loose,St.kill,St.map,h1]⟩
  .simp only[h1,aS] at hlk;by_cases h2:m=l
   .simp only[h2,aD,R_] at hlk;subst hlk;rw[hr m h1];exact⟨by rw[h2],by simp[OF,St.loose,St.kill,St.map,h2]⟩
   .simp only[h2,aS] at hlk;obtain⟨h3,h4⟩:=h.fl m u hlk;rw[hr m h1];refine⟨h3,?_⟩;simp only[OF,St.loose,St.kill,St.map,List.contains_eq_mem,au,az] at h4 ⊢;exact .inr (.inr h4)
 case nt=>exact h.nt
 case df=>exact h.df
def JL {G G':Gh} {c:Cell} {v:Value} (hr:G'.hv=G.hv) (hm:∀ m,c.mems m=true->En w w G G' m) (h:CellR w G c v):CellR w G' c.unfree v:=by
 cases c with
 | sc u=>exact h
 | tt=>exact h
 | ff=>exact h
 | nil=>exact h
 | ref l=>exact⟨by rw[hr];exact h.1,h.2⟩
 | sub l k lo n=>show Amd _ _ _ _ _;rw[hr];exact h
 | im s t xs=>
  cases s with
  | none=>exact h.one
  | some l=>exact TR.frame (λb hb _=>hm l (by simp[Cell.mems]) b hb) h
 | dead=>exact h
def SC {G G':Gh} {cs:List Cell} {vs:Array Value} (hr:G'.hv=G.hv) (hm:∀ m,cs.any (·.mems m)=true->En w w G G' m) (h:A4 w G cs vs):A4 w G' (cs.map Cell.unfree) vs:=by
 refine⟨by simpa using h.1,λj c hj=>?_⟩;rw[cz] at hj;cases hq:cs[j]? with
 | none=>simp[hq] at hj
 | some c0=>
  simp only[hq,bC,R_] at hj;subst hj;obtain⟨u,hu,ht⟩:=h.2 j c0 hq;exact⟨u,hu,JL hr (λm hc=>hm m (bI.2 ⟨c0,fJ hq,hc⟩)) ht⟩
def Na {G G':Gh} {agg:Bool} {cs:List Cell} {v:Value} (hr:G'.hv=G.hv) (hm:∀ m,cs.any (·.mems m)=true->En w w G G' m) (h:G6 w G agg cs v):G6 w G' agg (cs.map Cell.unfree) v:=by
 cases agg with
 | false=>
  obtain⟨c,rfl,h⟩:=h;exact⟨_,rfl,JL hr (λm hc=>hm m (by grind)) h⟩
 | true=>
  obtain⟨vs,hv,h⟩:=h;exact⟨vs,hv,SC hr hm h⟩
def Adj {G G':Gh} {x:TV} {v:Value} (hr:G'.hv=G.hv) (hb:G'.be=G.be) (hm:∀ m,x.mems m=true->En w w G G' m) (h:TVR w G x v):TVR w G' x.unfree v:=by
 cases x with
 | v agg cs=>exact Na hr hm h
 | tup ps=>
  obtain⟨vs,hv,hs,h⟩:=h;refine⟨vs,hv,by grind,λj p hp=>?_⟩;rw[cz] at hp;cases hq:ps[j]? with
  | none=>simp[hq] at hp
  | some p0=>
   simp only[hq,bC,R_] at hp;subst hp;obtain⟨u,hu,ht⟩:=h j p0 hq;exact⟨u,hu,Na hr (λm hc=>hm m (bI.2 ⟨p0,fJ hq,hc⟩)) ht⟩
 | ptr b off=>show _=_;rw[hb];exact h
 | lit b n t=>show _=_;rw[hb];exact h
 | eptr l k i off=>show ∃ _,_;rw[hr];exact h
 | sptr s t x off=>
  cases s with
  | none=>trivial
  | some l=>
   obtain⟨g,o,r,e,fr,hv,ho,hg,h⟩:=h;have hml:=hm l (by simp[TV.mems]);refine⟨g,o,r,e,fr,hv,(hml g ho).2,hg,λj hj=>?_⟩;obtain⟨u,hu,ht⟩:=h j hj;exact⟨u,hu,ht.frame λb hb' _=>hml b hb'⟩
 | capd l c=>
  obtain⟨⟨h1,h2⟩,a,n,h3⟩:=h;exact⟨⟨by grind,h2⟩,a,n,by rw[hr];exact h3⟩
 | inn l k i off t xs=>
  have hml:=hm l (by simp[TV.mems]);exact⟨h.1.carry (by rw[hr]) hml,h.2.frame λb hb' _=>hml b hb'⟩
 | nptr l k i off t xs i2 o2=>exact Pe (by rw[hr]) (hm l (by simp[TV.mems])) h
 | app l e j tt ts t xs=>exact Si (by rw[hr]) (hm l (by simp[TV.mems])) h
 | aptr cs off=>trivial
 | clo fn caps=>trivial
 | cur=>trivial
 | dead=>trivial
open Classical in
def Xc {l e j lp:Nat} {t:Ty} {ys:List (El t)} {T:Tree} {v:Value} {g o cap:Nat} {row:Array Value} {ety:TypeId} {GG:Nat->Nat->Nat->Prop} {J':St} {a':Act} {G':Gh} (h:RG F G J a w) (hI:InnAt w G l e j T v g o cap row ety GG)
 (hne:lp≠l) (hfl:lp∉J.fl) (hG:InnG G G1 (GG e j) l lp v) {hb:Base P w G1.ow} (h':RG (Yt F G G1 w l lp v hb) G' J' a' w') (hl:look J'.hp lp=some ⟨t,ys⟩)
 (hd:(dec T.t (G5 (enc T.t (T.xs.getD e default)) j [.l t ys])).isSome=true) :
 ∃ G2,RG F G2 (OW J' J.fl l lp ⟨T.t,T.xs.modify e (upd T.t j [.l t ys])⟩) a' w'/\Cf w w' G G2:=by
 have hS:∀ b,GG e j b->G.ow b=.lab l/\b≠g:=hI.sub e hI.he j hI.hj;have rest:∀ b,G.ow b=.lab l->¬ GG e j b->w'.heap[b]? = w.heap[b]?/\G'.ow b=.free:=by
  intro b hb hn;have e1:G1.ow b=.free:=by rw[hG.out b hn,hb];simp
  exact h'.keep.free b (h.lt b (by rw[hb];intro e;cases e)) e1
 have hvl:G'.hv l=G.hv l:=(h'.fl l (G.hv l) (by simp[Yt,look,Ne.symm hne])).1;have hvp:G'.hv lp=v:=(h'.fl lp v (by simp[Yt,look])).1
 let G2:Gh:=⟨λb=>(match G'.ow b with
  | .lab m=>if m=lp then .lab l else if m=l then .gone else .lab m
  | .free=>if G.ow b=.lab l/\¬ GG e j b then .lab l else .free
  | .cur=>if G.ow b=.cur then .cur else .gone
  | x=>x),G'.be,G'.hv⟩
 have ow2:∀ b m,m≠l->m≠lp->G'.ow b=.lab m->G2.ow b=.lab m:=λb m h1 h2 hb=>by simp[G2,hb,h1,h2]
 have hm2:∀ m,m≠l->m≠lp->En w' w' G' G2 m:=λm h1 h2 b hb=>⟨rfl,ow2 b m h1 h2 hb⟩
 have fr:∀ b,G.ow b=.free->w'.heap[b]? = w.heap[b]?/\G2.ow b=.free:=by
  intro b h2;have hn:¬ GG e j b:=λhg=>by have:=(hS b hg).1;rw[h2] at this;cases this
  have e1:G1.ow b=.free:=by rw[hG.out b hn,h2]
  obtain⟨h3,h4⟩:=h'.keep.free b (h.lt b (by rw[h2];intro e;cases e)) e1;exact⟨h3,by simp[G2,h4,h2]⟩
 have cu:∀ b,G.ow b=.cur->CurStep w w' b/\G2.ow b=.cur:=by
  intro b h2;have hn:¬ GG e j b:=λhg=>by have:=(hS b hg).1;rw[h2] at this;cases this
  have e1:G1.ow b=.cur:=by rw[hG.out b hn,h2]
  obtain⟨h3,h4⟩:=h'.keep.cur b (h.lt b (by rw[h2];intro e;cases e)) e1;exact⟨h4,by simp[G2,h3,h2]⟩
 refine⟨G2,?_,fr,λb hb=>(cu b hb).2⟩;have tvs:∀ (x:TV) (u:Value),TVR w' G' x u->TVR w' G2 ((x.kill [lp]).loose [l]).unfree u:=by intro x u hx;have hx1:=TV.map_ok (f:=λc=>c.loose [l]) (bad:=λx=>[l].any λl=>x.mems l) (λ_ _=>Cell.loose_ok [l]) (TV.map_ok (f:=λc=>c.kill [lp]) (bad:=λx=>[lp].any λl=>x.refs l||x.mems l) (λ_ _=>Cell.kill_ok [lp]) hx);exact Adj (G:=G') (G':=G2) rfl rfl (λm em=>hm2 m (by simpa using TV.loose_mems em) (by simpa using TV.kill_mems (TV.loose_mems' em))) hx1
 constructor
 case tm=>
  intro s tv hlk;simp only[OW,St.unfree,St.loose,St.kill,St.map,dz,Function.comp_def] at hlk;rw[A8 λx:TV=>((x.kill [lp]).loose [l]).unfree] at hlk;cases hq:look J'.tm s with
  | none=>simp[hq] at hlk
  | some x=>
   simp only[hq,bC,R_] at hlk;subst hlk;exact tvs x _ (h'.tm s x hq)
 case bx=>
  intro b cs hlk;simp only[OW,St.unfree,St.loose,St.kill,St.map,dz,Function.comp_def] at hlk;rw[A8 λcs:List Cell=>cs.map λc=>((c.kill [lp]).loose [l]).unfree] at hlk;cases hq:look J'.bx b with
  | none=>simp[hq] at hlk
  | some x=>
   simp only[hq,bC,R_] at hlk;subst hlk;obtain⟨h1,r,e',h2,h3⟩:=h'.bx b x hq;refine⟨by simp[G2,h1],r,e',h2,by simpa using h3.1,λjj c hjj=>?_⟩;rw[cz] at hjj;cases hq2:x[jj]? with
   | none=>simp[hq2] at hjj
   | some c0=>
    simp only[hq2,bC,R_] at hjj;subst hjj;obtain⟨u,hu,ht⟩:=h3.2 jj c0 hq2;refine⟨u,hu,JL (G:=G') (G':=G2) rfl (λm em=>?_) (Cell.loose_ok [l] (Cell.kill_ok [lp] ht))⟩;obtain⟨e1,e2⟩:=Cell.loose_mems em;exact hm2 m (by simpa using e2) (by simpa using(Cell.kill_mems e1).2)
 case hp=>
  intro m T' hlk;simp only[OW,St.unfree,St.loose,St.kill,St.map] at hlk;rw[HS J'.hp l lp m _ l (.inl rfl)] at hlk;by_cases h1:m=l
  .subst h1;simp only[aD,R_] at hlk;subst hlk;have hxn:(T.xs.modify e (upd T.t j [.l t ys])).length=T.n:=by simp[Tree.n]
   have hlen:e<T.xs.length:=hI.he;have hw:(enc T.t (T.xs.getD e default)).length=T.k:=KI _ _;have hup:=(FcsLe.get (AcM hd)).2;have hfr:∀ b,G.ow b=.lab m->¬ GG e j b->w'.heap[b]? = w.heap[b]?/\G2.ow b=.lab m:=λb hb hn=>⟨(rest b hb hn).1,by simp[G2,(rest b hb hn).2,hb,hn]⟩
   have hgn:¬ GG e j g:=λhg=>(hS g hg).2 rfl
   show TO w' _ (G'.hv m) _;rw[hvl];refine .inr ⟨g,o,cap,row,ety,λi' j' b=>if i'=e/\j'=j then G'.ow b=.lab lp else GG i' j' b,?_,?_,hI.hc,(hfr g hI.own hgn).1.trans hI.hg,(hfr g hI.own hgn).2,?_,?_,?_⟩
   .rw[hI.hv];simp[Tree.n]
   .show(T.xs.modify e _).length<=cap;rw[hxn];exact hI.hn
   .intro i' hi' j' hj';have hi2:i'<T.n:=by rw[<-hxn];exact hi'
    obtain⟨u,hu,ht⟩:=hI.cells i' hi2 j' hj';refine⟨u,hu,?_⟩;show TO w' (fcC (cell T.t (T.xs.modify e (upd T.t j [.l t ys])) i' j')) u _;rw[Js hlen];by_cases hij:i'=e/\j'=j
    .obtain⟨rfl,rfl⟩:=hij;rw[G_ rfl];rw[hI.at_] at hu;injection hu with hu
     subst hu;have hp:=h'.hp lp _ hl;rw[hvp,<-Cu] at hp;have hle:=hup j';rw[EO (by rw[hw];simp;exact hI.hj),G_ ⟨X_ _,by simp⟩,Nat.sub_self,List.getD_cons_zero] at hle;refine TO.le hle.le (hp.frame λb hb _=>⟨rfl,?_⟩);simpa using hb
    .have hdj:∀ b,GG i' j' b->¬ GG e j b:=λb h1 h2=>hij (hI.dis i' hi2 j' hj' e hI.he j hI.hj b h1 h2)
     have hto:TO w' (T.f i' j') u (GG i' j'):=ht.frame λb hb _=>⟨(hfr b (hI.sub i' hi2 j' hj' b hb).1 (hdj b hb)).1,hb⟩
     have hto2:TO w' (T.f i' j') u (λb=>if i'=e/\j'=j then G'.ow b=.lab lp else GG i' j' b):=by simp only[F_ hij];exact hto
     by_cases hie:i'=e
     .subst hie;rw[G_ rfl];have hne2:j'≠j:=λe0=>hij ⟨rfl,e0⟩
      have hle:=hup j';rw[EO (by rw[hw];simp;exact hI.hj),F_ (by simp;omega)] at hle;exact TO.le hle.le hto2
     .rw[F_ hie];exact hto2
   .intro i' hi' j' hj' b hb;have hi2:i'<T.n:=by rw[<-hxn];exact hi'
    try dsimp only at hb
    split at hb
    .refine⟨by simp[G2,hb],?_⟩;rintro rfl;rw[(rest b hI.own hgn).2] at hb;cases hb
    .rename_i hij;have hdj:¬ GG e j b:=λh2=>hij (hI.dis i' hi2 j' hj' e hI.he j hI.hj b hb h2)
     exact⟨(hfr b (hI.sub i' hi2 j' hj' b hb).1 hdj).2,(hI.sub i' hi2 j' hj' b hb).2⟩
   .intro i1 hi1 j1 hj1 i2 hi2 j2 hj2 b hb1 hb2;have hi1':i1<T.n:=by rw[<-hxn];exact hi1
    have hi2':i2<T.n:=by rw[<-hxn];exact hi2
    try dsimp only at hb1 hb2
    split at hb1
    .rename_i e1;split at hb2
     .rename_i e2;exact⟨e1.1.trans e2.1.symm,e1.2.trans e2.2.symm⟩
     .rename_i e2;have hdj:¬ GG e j b:=λh2=>e2 (hI.dis i2 hi2' j2 hj2 e hI.he j hI.hj b hb2 h2)
      rw[(rest b (hI.sub i2 hi2' j2 hj2 b hb2).1 hdj).2] at hb1;cases hb1
    .rename_i e1;split at hb2
     .have hdj:¬ GG e j b:=λh2=>e1 (hI.dis i1 hi1' j1 hj1 e hI.he j hI.hj b hb1 h2)
      rw[(rest b (hI.sub i1 hi1' j1 hj1 b hb1).1 hdj).2] at hb2;cases hb2
     .exact hI.dis i1 hi1' j1 hj1 i2 hi2' j2 hj2 b hb1 hb2
  .simp only[h1,aS] at hlk;by_cases h2:m=lp
   .simp[h2] at hlk
   .simp only[h2,false_or,aS] at hlk;exact(h'.hp m T' hlk).frame λb hb _=>⟨rfl,ow2 b m h1 h2 hb⟩
 case lt=>
  intro b hb;by_cases e0:G'.ow b=.gone
  .simp[G2,e0] at hb
  .exact h'.lt b e0
 case os=>exact h'.os.trans h.os
 case tape=>exact h'.tape.trans h.tape
 case output=>exact⟨h'.output.1.trans h.output.1,DrLe.trans h.output.2 h'.output.2⟩
 case size=>exact aP h.size h'.size
 case keep=>
  refine h.keep.step ⟨fr,λb hb=>(cu b hb).2⟩ (λb hb=>(cu b hb).1) λb hb=>?_
  cases hq:G'.ow b with
  | cur=>
   simp only[G2,hq] at hb;split at hb
   .rename_i hc;exact hc
   .cases hb
  | free=>
   simp only[G2,hq] at hb;split at hb<;>cases hb
  | lab m=>
   simp only[G2,hq] at hb;split at hb
   .cases hb
   .split at hb<;>cases hb
  | _=>simp[G2,hq] at hb
 case fb=>
  intro b β hb;exact h'.fb b β hb
 case fl=>
  intro m u hlk;obtain⟨h3,h4⟩:=h.fl m u hlk;refine⟨?_,h4⟩;have hmp:m≠lp:=by rintro rfl;exact hfl (by simpa using h4)
  show G'.hv m=u;by_cases h2:m=l
  .rw[h2,hvl,<-h2,h3]
  .exact(h'.fl m u (by simp[Yt,look,hmp,h2,hlk])).1
 case nt=>exact h'.nt
 case df=>exact h'.df
end
end Go.D
namespace Go.D
section
variable {P:Program} {F:Fr P} {G G1:Gh} {J:St} {a:Act} {w w':World} {o:Oper} {K:St->Out} {Q:Post} {Qx:Exit->Act->World->Prop}
def Vv (P:Program) (o:Oper) (T:TypeId) (l k e j:Nat) (t:Ty) (xs:List (El t)) (i:Operand) (J:St) (K:St->Out):Out :=
 match P.underlying T with
 | some (.slice et)=>match P.info? et,(J.eval i).scal with
  | some ie,some (.int _ n)=>if t.width=ie.size then .ob (0<=n/\n<xs.length) (ret J o (.nptr l k e j t xs n.toNat 0) K) else .bad
  | _,_=>.bad
 | _=>.bad
def Ye {T:TypeId} {s:Nat} {i:Operand} {l k e j:Nat} {t:Ty} {xs:List (El t)} (h:RG F G J a w) (ho:o.op=.indexAddr T (.tmp s) i) (hs:J.get s=.inn l k e j t xs) (hh:(Vv P o T l k e j t xs i J K).holds Q):o.wp P a w (ContE F G a w o.dst K Q) Qx:=by
 unfold Vv at hh;have hx:=Hg h s;rw[hs] at hx;obtain⟨hi1,hcr⟩:=hx;rw[Eb] at hcr;split at hh
 .rename_i et hu;split at hh
  .rename_i ie kk n hie hn;split at hh
   .rename_i hk;obtain⟨⟨h0,h1⟩,hh⟩:=hh;obtain⟨ad,cap,hav,_,hz|⟨g,off,row,e',fr,rfl,hS,hg,hrow⟩⟩:=hcr
    .omega
    .have hav':a.eval (.tmp s)=.slice (some ⟨g,off,none⟩) xs.length cap:=hav;refine AH h hh ⟨⟨_,g,off,xs.length,cap,hi1,hav,O,rfl⟩,g,off+n.toNat*t.width,row,e',fr,rfl,hS,hg,λj hj=>?_⟩ ?_
     .obtain⟨u,hu',ht⟩:=hrow n.toNat O j hj;exact⟨u,hu',ht⟩
     .simp[execOp,ho,hav',(C9 (Aw h i) hn).1,Instr.indexAt,asIntOf,run_underlying hu,h0,h1,sizeOf,typeInfo,hie,FD,hk]
   .exact hh.elim
  .exact hh.elim
 .exact hh.elim
def TL (P:Program) (o:Oper) (T:TypeId) (l k e j:Nat) (t:Ty) (xs:List (El t)) (i2 o2:Nat) (f:Nat) (J:St) (K:St->Out):Out :=
 match P.underlying T with
 | some (.struct fs)=>match fs[f]? with
  | some f=>match P.info? f.type with
   | some i=>if i.size=0 then .bad else ret J o (.nptr l k e j t xs i2 (o2+f.offset)) K
   | none=>.bad
  | none=>.bad
 | _=>.bad
def Yf {T:TypeId} {s f:Nat} {l k e j:Nat} {t:Ty} {xs:List (El t)} {i2 o2:Nat} (h:RG F G J a w) (ho:o.op=.fieldAddr T (.tmp s) f) (hs:J.get s=.nptr l k e j t xs i2 o2) (hh:(TL P o T l k e j t xs i2 o2 f J K).holds Q):o.wp P a w (ContE F G a w o.dst K Q) Qx:=by
 unfold TL at hh;have hx:=Hg h s;rw[hs] at hx;obtain⟨⟨u,g,off,n,cap,h1,h2,h3,h4⟩,g',off',r,e',fr,h5,h6⟩:=hx;have hv:a.eval (.tmp s)=.pointer (some ⟨g,off+i2*t.width+o2,none⟩):=h4;split at hh
 .rename_i fs hu;split at hh
  .rename_i f hf;split at hh
   .rename_i i hi;split at hh
    .exact hh.elim
    .rename_i hne;have e1:g'=g/\off'+o2=off+i2*t.width+o2:=by
      rw[h4] at h5;injection h5 with h5
      injection h5 with h5
      injection h5 with q1 q2
      exact⟨q1.symm,q2.symm⟩
     refine AH h hh (v:=.pointer (some ⟨g,off+i2*t.width+o2+f.offset,none⟩)) ⟨⟨u,g,off,n,cap,h1,h2,h3,by rw[Nat.add_assoc]⟩,g',off',r,e',fr,?_,h6⟩ ?_
     .rw[e1.1,<-Nat.add_assoc,e1.2]
     .simp[execOp,ho,hv,Instr.fieldAt,Instr.sureAddr,run_underlying hu,hf,fieldPlace,sizeOf,typeInfo,hi,hne,FD]
   .exact hh.elim
  .exact hh.elim
 .exact hh.elim
def Abf (o:Oper) (s:Nat) (J:St) (K:St->Out):Out:=ret J o (J.get s) K
def Zy {s:Nat} {l k e j:Nat} {t:Ty} {xs:List (El t)} {i2 o2:Nat} (h:RG F G J a w) (ho:o.op=.nilCheck (.tmp s)) (hs:J.get s=.nptr l k e j t xs i2 o2) (hh:(Abf o s J K).holds Q):o.wp P a w (ContE F G a w o.dst K Q) Qx:=by
 have hx:=Hg h s;refine AH h hh hx ?_;rw[hs] at hx;obtain⟨⟨u,g,off,n,cap,h1,h2,h3,h4⟩,_⟩:=hx;have hv:a.eval (.tmp s)=.pointer (some ⟨g,off+i2*t.width+o2,none⟩):=h4;have hv2:a.tmps.getD s undef=.pointer (some ⟨g,off+i2*t.width+o2,none⟩):=h4;rw[hv2];simp[execOp,ho,hv]
def Af2 {d:Nat} (hd:d<a.tmps.size):a.put (some d) (a.tmps.getD d undef)=a:=by
 have e:a.tmps.setIfInBounds d (a.tmps.getD d undef)=a.tmps:=by
  rw[Array.getD_eq_getD_getElem?,Array.getElem?_eq_getElem hd,Option.getD_some];apply Array.ext
  .exact Array.size_setIfInBounds
  .intro i h1 h2;rw[Array.getElem_setIfInBounds];split
   .rename_i e;subst e;rfl
   .rfl
 simp only[Act.put,e]
def TV.frees:TV->Bool
 | .v _ cs=>cs.all λc=>match c with
  | .sc _=>true
  | .tt=>true
  | .ff=>true
  | .nil=>true
  | .im none _ _=>true
  | _=>false
 | _=>false
def Afd {x:TV} (h:x.frees=true):(∀ m,x.refs m=false)/\(∀ m,x.mems m=false)/\∀ b,x.hasB b=false:=by
 cases x with
 | v agg cs=>
  refine⟨λm=>?_,λm=>?_,λb=>rfl⟩<;>simp only[TV.refs,TV.mems,List.any_eq_false]<;>intro c hc<;>have:=aM.1 h c hc
  .cases c<;>simp_all [Cell.refs]
  .cases c with
   | im s t xs=>cases s<;>simp_all [Cell.mems]
   | _=>simp_all [Cell.mems]
 | _=>simp[TV.frees] at h
def AmH (J J':St):St:={ J' with tm:=J'.tm.map λp=>(p.1,bif (J.get p.1).frees then J.get p.1 else p.2)}
def RO {α:Type} (f:Nat->α->α):∀ (l:List (Nat×α)) (t:Nat),look (l.map λp=>(p.1,f p.1 p.2)) t=(look l t).map (f t)
 | [],_=>rfl
 | (s,v)::l,t=>by
  simp only[aY,look];split
  .rename_i e;rw[da.1 e];rfl
  .exact RO f l t
def AjN {G2:Gh} {J':St} {a':Act} (h:RG F G J a w) (hf:Cf w w' G G2) (ht:a'.tmps=a.tmps) (h':RG F G2 J' a' w'):RG F G2 (AmH J J') a' w':=by
 refine⟨λt tv hl=>?_,h'.bx,h'.hp,h'.lt,h'.os,h'.tape,h'.output,h'.size,h'.keep,h'.fb,h'.fl,h'.nt,h'.df⟩;simp only[AmH] at hl;rw[RO λs x=>bif (J.get s).frees then J.get s else x] at hl;cases hq:look J'.tm t with
 | none=>simp[hq] at hl
 | some y=>
  simp only[hq,bC,R_] at hl;subst hl;cases hc:(J.get t).frees with
  | false=>exact h'.tm t y hq
  | true=>
   obtain⟨q1,q2,q3⟩:=Afd hc;rw[aX,ht];exact TV.carry hf (λm e=>by rw[q1 m] at e;cases e) (λm e=>by rw[q2 m] at e;cases e) (λb e=>by rw[q3 b] at e;cases e) (Hg h t)
def Ah8 {K:Act->World->Prop} (hd:o.dst=none) (h:o.wp P a w K Qx):o.wp P a w (λa' w'=>a'.tmps=a.tmps/\K a' w') Qx:=by
 unfold Oper.wp Oper.upon at *
 split at h<;>simp_all [Act.put]
def NJ (P:Program) (o:Oper) (T:TypeId) (d l k e j:Nat) (t0:Ty) (i2 o2:Nat) (x:Operand) (J:St) (K:St->Out):Out :=
 match look J.hp l with
 | some TT=>match cell TT.t TT.xs e j with
  | .l t xs=>bif decide (TT.k=k)&&decide (64*d+63≠l) && !J.fl.contains (64*d+63)&&decide (d<J.nt)&&decide (t0=t) then
   M1 P o T (.tmp d) x ((OF J l (64*d+63) t xs).put d (.eptr (64*d+63) t.width i2 o2)) (λJ'=>
    match look J'.hp (64*d+63) with
    | some ⟨t',ys⟩=>bif (dec TT.t (G5 (enc TT.t (TT.xs.getD e default)) j [.l t' ys])).isSome&&decide (t'=t) then .lt (List (El TT.t)) (TT.xs.modify e (upd TT.t j [.l t' ys])) λzs=>K (AmH J (OW J' J.fl l (64*d+63) ⟨TT.t,zs⟩)) else .bad
    | none=>.bad)
   else .bad
  | _=>.bad
 | none=>.bad
def Tb {T:TypeId} {d l k e j:Nat} {t0:Ty} {xs0:List (El t0)} {i2 o2:Nat} {x:Operand} (h:RG F G J a w) (ho:o.op=.store T (.tmp d) x) (hdst:o.dst=none) (hs:J.get d=.nptr l k e j t0 xs0 i2 o2) (hh:(NJ P o T d l k e j t0 i2 o2 x J K).holds Q):o.wp P a w (LK F K Q) Qx:=by
 unfold NJ at hh;have hx:=Hg h d;rw[hs] at hx;obtain⟨⟨v,pg,po,pn,pcap,p1,p2,p3,p4⟩,_⟩:=hx;split at hh
 .rename_i TT hT;split at hh
  .rename_i t xs hcell;cases hc:(decide (TT.k=k)&&decide (64*d+63≠l) && !J.fl.contains (64*d+63)&&decide (d<J.nt)&&decide (t0=t)) with
   | false=>rw[hc,cF] at hh;exact hh.elim
   | true=>
    simp only[hc,aX] at hh;simp only[T_,az,cO] at hc;obtain⟨⟨⟨⟨hk,hne⟩,hfl⟩,hd⟩,ht0⟩:=hc;subst ht0;have hfl:64*d+63∉J.fl:=by simpa using hfl
    obtain⟨g0,o0,cap,row,ety,GG,hI⟩:=ZP h hT hk p1;obtain⟨G1,hG⟩:=Vb G (GG e j) l (64*d+63) v;have h1:=N5 h hT hI hcell hne hfl hG (hG.base h.base λb hb=>(hI.sub e hI.he j hI.hj b hb).1);have h2:=RG.put (d:=d) (x:=.eptr (64*d+63) t0.width i2 o2) (v:=a.tmps.getD d undef) h1 hd ⟨pg,po,pn,pcap,by rw[hG.hv,G_ rfl,p2],p4⟩;rw[Af2 (by rw[h.nt];exact hd)] at h2;have:=Ah8 hdst (LC (Qx:=Qx) h2 ho hdst hh);refine Oper.wp_mono ?_ this;rintro a' w' ⟨ht,J',⟨G',h'⟩,hh'⟩;dsimp only at hh';split at hh'
    .rename_i t' ys hl;cases hc2:((dec TT.t (G5 (enc TT.t (TT.xs.getD e default)) j [.l t' ys])).isSome&&decide (t'=t0)) with
     | false=>rw[hc2,cF] at hh';exact hh'.elim
     | true=>
      simp only[hc2,aX] at hh';simp only[T_,az] at hc2;obtain⟨hd2,rfl⟩:=hc2;obtain⟨G2,h3,h4⟩:=Xc h hI hne hfl hG h' hl hd2;exact⟨_,⟨G2,AjN h h4 ht h3⟩,hh'⟩
    .exact hh'.elim
  .exact hh.elim
 .exact hh.elim
open Classical in
def RG.grow1 (h:RG F G J a w) (l:Nat) (T0:Tree) (hl:look J.hp l=some T0) (ho:Onward w w') (hs:∀ g,G.ow g≠.gone->G.ow g≠.lab l->w'.heap[g]? = w.heap[g]?) (N:Nat->Prop) (hN:∀ b,N b->b<w'.heap.size/\G.ow b=.gone)
 (hT:TO w' (.sl T0.k T0.n T0.f) (G.hv l) λg=>G.ow g=.lab l):∃ G',RG F G' (J.loose [l]) a w'/\G'.hv=G.hv/\G'.be=G.be/\(∀ b,N b->G'.ow b=.lab l)/\∀ b,¬ N b->G'.ow b=G.ow b:=by
 let G':Gh:={ ow:=λg=>if N g then .lab l else G.ow g,be:=G.be,hv:=G.hv }
 have hsame:∀ g,G.ow g≠.gone->G'.ow g=G.ow g:=λg hg=>F_ λq=>hg (hN g q).2
 have fo:Cf w w' G G':=⟨λg hg=>⟨hs g (by simp[hg]) (by simp[hg]),by rw[hsame g (by simp[hg]),hg]⟩,λg hg=>by rw[hsame g (by simp[hg]),hg]⟩;have mo:∀ m,m≠l->En w w' G G' m:=λm hm g hg=>⟨hs g (by simp[hg]) (by rw[hg];intro e;injection e with e;exact hm e),by rw[hsame g (by simp[hg]),hg]⟩
 refine⟨G',?_,rfl,rfl,λb hb=>G_ hb,λb hb=>F_ hb⟩;constructor
 case tm=>
  intro t tv hlk;simp only[St.loose,St.map] at hlk;rw[A8 λx:TV=>x.loose [l]] at hlk;cases hq:look J.tm t with
  | none=>simp[hq] at hlk
  | some x=>
   simp only[hq,bC,R_] at hlk;subst hlk;have hx:=TV.map_ok (f:=λc=>c.loose [l]) (bad:=λx=>[l].any λl=>x.mems l) (λ_ _=>Cell.loose_ok [l]) (h.tm t x hq);exact TV.carry fo (λ_ _=>rfl) (λm hm=>mo m (by simpa using TV.loose_mems hm)) (λ_ _=>rfl) hx
 case bx=>
  intro b cs hlk;simp only[St.loose,St.map] at hlk;rw[A8 λcs:List Cell=>cs.map λc=>c.loose [l]] at hlk;cases hq:look J.bx b with
  | none=>simp[hq] at hlk
  | some x=>
   simp only[hq,bC,R_] at hlk;subst hlk;obtain⟨h1,r,e,h2,h3⟩:=h.bx b x hq;refine⟨(hsame (G.be b) (by simp[h1])).trans h1,r,e,(hs (G.be b) (by simp[h1]) (by simp[h1])).trans h2,by simpa using h3.1,λj c hj=>?_⟩;rw[cz] at hj;cases hq2:x[j]? with
   | none=>simp[hq2] at hj
   | some c0=>
    simp only[hq2,bC,R_] at hj;subst hj;obtain⟨u,hu,ht⟩:=h3.2 j c0 hq2;exact⟨u,hu,Cell.carry fo (λ_ _=>rfl) (λm hm=>mo m (by simpa using(Cell.loose_mems hm).2)) (Cell.loose_ok [l] ht)⟩
 case hp=>
  intro m T' hlk;by_cases hml:m=l
  .subst hml;have e:T'=T0:=by
    have q:look J.hp m=some T':=hlk;rw[hl] at q;injection q with q
    exact q.symm
   subst e;exact hT.frame λg hg _=>⟨rfl,by rw[hsame g (by simp[hg]),hg]⟩
  .exact(h.hp m T' hlk).frame λg hg _=>mo m hml g hg
 case lt=>
  intro g hg;by_cases hn:N g
  .exact(hN g hn).1
  .exact fq (h.lt g λe=>hg ((F_ hn).trans e)) ho.size
 case os=>exact ho.os.trans h.os
 case tape=>exact ho.tape.trans h.tape
 case output=>exact⟨ho.output.1.trans h.output.1,DrLe.trans h.output.2 ho.output.2⟩
 case size=>exact aP h.size ho.size
 case keep=>
  refine h.keep.next fo (λg hg=>hs g (by simp[hg]) (by simp[hg])) λg hg=>?_
  by_cases hn:N g
  .have q:G'.ow g=.lab l:=G_ hn;rw[q] at hg;cases hg
  .have q:G'.ow g=G.ow g:=F_ hn;rw[q] at hg;exact hg
 case fb=>exact h.fb
 case fl=>exact h.fl
 case nt=>exact h.nt
 case df=>exact h.df
def AgY {i n k j:Nat} (hi:i<n) (hj:j<k):i*k+j<n*k:=by
 have:(i+1)*k<=n*k:=de _ hi;rw[Nat.add_mul,Nat.one_mul] at this;omega
def PG (P:Program) (o:Oper) (T:TypeId) (l k e j:Nat) (x:Operand) (J:St) (K:St->Out):Out :=
 match P.underlying T with
 | some (.slice et)=>match P.info? et with
  | some i=>match i.zero,look J.hp l,o.dst with
   | some z,some TT,some d=>match cell TT.t TT.xs e j with
    | .l t xs=>if 0<i.bytes/\z.cells.size=i.size/\t.width=i.size/\TT.k=k/\Je t=true/\d<J.nt/\64*d+63≠l/\J.fl.contains (64*d+63)=false then(match Rg J (J.eval x) with
     | some (q,⟨t',ys⟩)=>if h:t'=t then .ob q (.ob (IM (xs.length+ys.length) i.bytes) (K ((J.loose [l]).put d (.app l e j TT.t TT.xs t (xs++(h▸ys)))))) else .bad
     | none=>.bad) else .bad
    | _=>.bad
   | _,_,_=>.bad
  | none=>.bad
 | _=>.bad
def TN {T:TypeId} {s:Nat} {x:Operand} {l k e j:Nat} {t0:Ty} {xs0:List (El t0)} (h:RG F G J a w) (ho:o.op=.call { callee:=.builtin .append,args := #[.tmp s,x],argTypes := #[T,T]}) (hs:J.get s=.inn l k e j t0 xs0) (hh:(PG P o T l k e j x J K).holds Q):o.wp P a w (LK F K Q) Qx:=by
 unfold PG at hh;have hx:=Hg h s;rw[hs] at hx;have hxv:=Aw h x;split at hh
 .rename_i et hu;split at hh
  .rename_i i hi;split at hh
   .rename_i z TT d hz hT hdst;split at hh
    .rename_i t xs hcell;split at hh
     .rename_i hc;obtain⟨hby,hzs,hw,hk,hflat,hd,hne,hfl⟩:=hc;have hfl:64*d+63∉J.fl:=by simpa using hfl
      split at hh
      .rename_i q t' ys hq;split at hh
       .rename_i he;subst he;obtain⟨hqq,hroom,hh⟩:=hh;obtain⟨S,htr⟩:=IF h hxv hq hqq;rw[Eb,hw] at htr;have hk0:0<i.size:=by rw[<-hw];exact Fk t'
        obtain⟨news,hn1,hn2,hn3⟩:=L0 (P:=P) hk0 htr;generalize hv0:a.tmps.getD s undef=v at hx;obtain⟨g,o0,cap,row,ety,GG,hI⟩:=Ag7 h hT hk hx;obtain⟨G1,hG⟩:=Vb G (GG e j) l (64*d+63) v;have h1:=N5 h hT hI hcell hne hfl hG (hG.base h.base λb hb=>(hI.sub e hI.he j hI.hj b hb).1);obtain⟨u0,hu0,hto⟩:=hI.cells e hI.he j hI.hj;rw[hI.at_] at hu0;injection hu0 with hu0
        subst hu0;have ef:TT.f e j=.sl i.size xs.length (λi j=>fcC (cell t' xs i j)):=by show fcC (cell TT.t TT.xs e j)=_;rw[hcell,Eb,hw]
        rw[ef] at hto;obtain⟨v',w',hr,hon,_,h1c,hext,hT'⟩:=Tc (P:=P) (g:=λi j=>fcC (cell t' ys i j)) h1 T o.type et i z hu hi hz hk0 hzs (64*d+63) [] (by simp) (hto.frame λb hb _=>⟨rfl,hG.ins b hb⟩) news (λ_ _ _=>False) hn1 hn2
         (λi' hi' j hj=>by obtain⟨u,hu',ht⟩:=hn3 i' hi' j hj;obtain⟨u2,hu2⟩:=Fm hflat ys i' j O;refine⟨u,hu',?_⟩;rw[hu2] at ht ⊢;exact ht)
         (by simp) (by simp) hby hroom
        have hlp:∀ b,G1.ow b=.lab (64*d+63)->GG e j b:=by
         intro b hb;refine Classical.byContradiction λhn=>?_
         rw[hG.out b hn] at hb;grind
        have hsame:∀ b,b<w.heap.size->¬ GG e j b->w'.heap[b]? = w.heap[b]?:=λb hb hn=>(hext b hb).resolve_right λq=>hn (hlp b q.1)
        have ltl:∀ b,G.ow b=.lab l->b<w.heap.size:=λb e=>h.lt b (by simp[e])
        have hold:TO w' (TT.f e j) v (GG e j):=by
         rw[ef];rcases hto with hz0|⟨g3,o3,cap3,row3,e3,G3,hv3,hn3',hc3,hg3,hF3,hrow3,_,_⟩
         .exact .inl hz0
         have hlt3:=ltl g3 (hI.sub e hI.he j hI.hj g3 hF3).1;have val:∀ i',i'<xs.length->∀ j',j'<i.size->∃ u,row3[o3+i'*i.size+j']? = some u/\TO w' (fcC (cell t' xs i' j')) u (λ_=>False):=by intro i' hi' j' hj';obtain⟨u,hu',ht⟩:=hrow3 i' hi' j' hj';obtain⟨u2,hu2⟩:=Fm hflat xs i' j' O;refine⟨u,hu',?_⟩;dsimp only at ht;rw[hu2] at ht ⊢;exact ht
         rcases hext g3 hlt3 with hsm|⟨_,r1,r2,e4,off4,cap4,q1,q2,q3,q4,q5⟩
         .exact .inr ⟨g3,o3,cap3,row3,e3,λ_ _ _=>False,hv3,hn3',hc3,hsm.trans hg3,hF3,val,by simp,by simp⟩
         .rw[hg3] at q1;injection q1 with q1
          injection q1 with q1 q1b q1c
          subst q1 q1b;rw[hv3] at q4;injection q4 with q4
          injection q4 with q4
          injection q4 with _ q4
          subst q4;refine .inr ⟨g3,o3,cap3,r2,e3,λ_ _ _=>False,hv3,hn3',by rw[q3];exact hc3,q2,hF3,λi' hi' j' hj'=>?_,by simp,by simp⟩;obtain⟨u,hu',ht⟩:=val i' hi' j' hj';exact⟨u,by rw[q5 _ (by have:=AgY hi' hj';omega)];exact hu',ht⟩
        have gne:¬ GG e j g:=λq=>(hI.sub e hI.he j hI.hj g q).2 rfl
        have hI':InnAt w' G l e j TT v g o0 cap row ety GG:=⟨hI.hv,hI.hn,hI.hc,(hsame g (ltl g hI.own) gne).trans hI.hg,hI.own,λi' hi' j' hj'=>by
         obtain⟨u,hu',ht⟩:=hI.cells i' hi' j' hj';refine⟨u,hu',?_⟩;by_cases hij:i'=e/\j'=j
         .obtain⟨rfl,rfl⟩:=hij;rw[hI.at_] at hu';injection hu' with hu'
          subst hu';exact hold
         .exact ht.frame λb hb _=>⟨hsame b (ltl b (hI.sub i' hi' j' hj' b hb).1) λq=>hij (hI.dis i' hi' j' hj' e hI.he j hI.hj b hb q),hb⟩,hI.sub,hI.dis,hI.he,hI.hj,hI.at_⟩
        have gone:∀ b,(b=w.heap.size/\b<w'.heap.size)->b<w'.heap.size/\G.ow b=.gone:=λb hb=>⟨hb.2,by rw[hb.1];exact KW h⟩
        obtain⟨G',hG',e1,e2,e3,e4⟩:=h.grow1 l TT hT hon (λb hb hbl=>hsame b (h.lt b hb) λq=>hbl (hI.sub e hI.he j hI.hj b q).1) (λb=>b=w.heap.size/\b<w'.heap.size) gone
         (.inr ⟨g,o0,cap,row,ety,GG,hI'.hv,hI'.hn,hI'.hc,hI'.hg,hI'.own,hI'.cells,hI'.sub,hI'.dis⟩)
        have keepG:En w' w' G G' l:=λb hb=>⟨rfl,by rw[e4 b (λq=>by rw[(gone b q).2] at hb;cases hb),hb]⟩
        have hTO:TO w' (fcC (.l t' (xs++ys))) v' (λb=>(b=w.heap.size/\b<w'.heap.size)\/GG e j b):=TO.le (Xi hw) (hT'.frame λb hb _=>⟨rfl,by
         rcases hb with hb|hb|⟨m,hm,_⟩
         .exact .inl hb
         .exact .inr (hlp b hb)
         .simp at hm⟩)
        have hown:∀ b,((b=w.heap.size/\b<w'.heap.size)\/GG e j b)->G'.ow b=.lab l:=by
         intro b hb;rcases hb with hb|hb
         .exact e3 b hb
         .exact(keepG b (hI.sub e hI.he j hI.hj b hb).1).2
        have hav:a.eval (.tmp s)=v:=hv0;refine EM (v:=v') (w':=w') (by simp[execOp,ho,resolve,invoke,builtin,hav,hr]) ?_;rw[hdst];refine⟨_,⟨G',RG.put (x:=.app l e j TT.t TT.xs t' (xs++ys)) hG' hd ⟨⟨v,g,o0,cap,row,ety,GG,_,hI'.carry (by rw[e1]) keepG,hTO,λb hb=>⟨⟨hown b hb,?_⟩,λi' hi' j' hj' hb'=>?_⟩⟩,hTO.read.frame λb hb _=>⟨rfl,hown b hb⟩⟩⟩,hh⟩
        .rintro rfl;rcases hb with hb|hb
         .have:=ltl b hI.own;omega
         .exact gne hb
        .rcases hb with hb|hb
         .have:=ltl b (hI.sub i' hi' j' hj' b hb').1;omega
         .exact hI.dis i' hi' j' hj' e hI.he j hI.hj b hb' hb
       .exact hh.elim
      .exact hh.elim
     .exact hh.elim
    .exact hh.elim
   .exact hh.elim
  .exact hh.elim
 .exact hh.elim
def Lf (P:Program) (T:TypeId) (p:Operand) (l e j:Nat) (tt:Ty) (ts:List (El tt)) (t:Ty) (zs:List (El t)) (J:St) (K:St->Out):Out :=
 match P.info? T,J.eval p with
 | some i,.eptr l2 k e2 off=>bif decide (i.size=1)&&decide (l2=l)&&decide (tt.width=k)&&decide (off=j)&&(look J.hp l).isSome&&(dec tt (G5 (enc tt (ts.getD e default)) j [.l t zs])).isSome then
  .ob (e2=e) (.lt (List (El tt)) (ts.modify e (upd tt j [.l t zs])) λys=>K ((({ J with hp:=(l,⟨tt,ys⟩)::J.hp.filter λp=>!([]:List Nat).contains p.1 }:St).kill []).loose [l])) else .bad
 | _,_=>.bad
def QR {T:TypeId} {p:Operand} {s l e j:Nat} {tt:Ty} {ts:List (El tt)} {t:Ty} {zs:List (El t)} (h:RG F G J a w) (ho:o.op=.store T p (.tmp s)) (hdst:o.dst=none) (hs:J.get s=.app l e j tt ts t zs) (hh:(Lf P T p l e j tt ts t zs J K).holds Q):o.wp P a w (LK F K Q) Qx:=by
 unfold Lf at hh;have hx:=Hg h s;rw[hs] at hx;have hp:=Aw h p;split at hh
 .rename_i i l2 k e2 off hi hpe;rw[hpe] at hp;cases hc:(decide (i.size=1)&&decide (l2=l)&&decide (tt.width=k)&&decide (off=j)&&(look J.hp l).isSome&&(dec tt (G5 (enc tt (ts.getD e default)) j [.l t zs])).isSome) with
  | false=>rw[hc,cF] at hh;exact hh.elim
  | true=>
   rw[hc,aX] at hh;simp only[T_,az] at hc;obtain⟨⟨⟨⟨⟨hsz,rfl⟩,rfl⟩,rfl⟩,hl⟩,hd⟩:=hc;obtain⟨rfl,hh⟩:=hh;obtain⟨T0,hT0⟩:=Option.isSome_iff_exists.1 hl;generalize hv:a.tmps.getD s undef=v at hx;have hav:a.eval (.tmp s)=v:=hv;obtain⟨⟨v0,g,o0,cap,row,ety,GG,H,hI,hTO,hH⟩,htr⟩:=hx;obtain⟨g',o',n',cap',hv',hpv⟩:=hp;rw[hI.hv] at hv';injection hv' with q1 q2 q3
   injection q1 with q1
   injection q1 with q1 q4
   subst q1 q4;have h1c:v.oneCell'=true:=TR.one htr;have hcl:v.cells = #[v]:=by cases v<;>simp_all [Value.oneCell',Value.cells]
   have hlen:e2<ts.length:=hI.he;have hjw:off<tt.width:=hI.hj;have hpos:o0+e2*tt.width+off<row.size:=by
    have a1:=hI.hc;have a2:=hI.hn;have a3:ts.length*tt.width<=cap*tt.width:=de _ a2;have a4:=AgY hlen hjw
    change o0+cap*tt.width<=row.size at a1
    omega
   generalize hpo:o0+e2*tt.width+off=po at hpos hpv;have hrun:=Is (a:=a) ho hi hav hpv hI.hg (by rw[hcl,hsz];rfl) (by rw[hcl];simp;omega) (by rw[hcl];simpa using h1c);rw[hcl] at hrun;generalize hw':w.setRow g (row.toList.take po ++ #[v].toList++row.toList.drop (po + #[v].toList.length)).toArray=w' at hrun;have old:∀ b,b≠g->w'.heap[b]? = w.heap[b]?:=λb hb=>by rw[<-hw'];exact setRow_other w g b _ hb
   have new:w'.heap[g]? = some (.cells (row.toList.take po ++ #[v].toList++row.toList.drop (po + #[v].toList.length)).toArray ety (0,0)):=by rw[<-hw'];exact setRow_heap w g row _ ety _ hI.hg
   have get:∀ x,(row.toList.take po ++ #[v].toList++row.toList.drop (po + #[v].toList.length)).toArray[x]? = if x=po then some v else row[x]?:=by
    intro x;simp only[List.getElem?_toArray,bK];by_cases h1:x<po
    .rw[cN (by simp;omega),fC,G_ h1,F_ O];simp
    .rw[cX (by simp;omega)];have e1:(List.take po row.toList).length=po:=by simp;omega
     rw[e1];by_cases h2:x=po
     .subst h2;simp
     .rw[F_ h2,cX (by simp;omega),List.getElem?_drop];have e2:po + #[v].toList.length+(x-po - #[v].toList.length)=x:=by simp;omega
      rw[e2];simp
   have hw3:(enc tt (ts.getD e2 default)).length=tt.width:=KI _ _;have hup:=(FcsLe.get (AcM hd)).2;obtain⟨G',hG',_⟩:=h.setTree (w':=w') l2 [] T0 ⟨tt,ts.modify e2 (upd tt off [.l t zs])⟩ hT0 (by simp) (by simp) ⟨by rw[<-hw'];rfl,by rw[<-hw'];rfl,⟨by rw[<-hw'];rfl,by rw[<-hw'];exact DrLe.refl _⟩,by rw[<-hw'];simp⟩
    (λb hb hbl=>old b λe=>hbl (e▸hI.own)) (by
     refine .inr ⟨g,o0,cap,_,ety,λi' j' b=>if i'=e2/\j'=off then H b else GG i' j' b,?_,?_,?_,new,.inl hI.own,?_,?_,?_⟩
     .rw[hI.hv];simp[Tree.n]
     .have:=hI.hn;simpa [Tree.n] using this
     .have:=hI.hc
      change o0+cap*tt.width<=_
      change o0+cap*tt.width<=row.size at this
      simp only[List.size_toArray,al,cZ,fK,fp,aw,bz];omega
     .intro i' hi' j' hj';have hi2:i'<ts.length:=by simpa [Tree.n] using hi'
      have hj2:j'<tt.width:=hj'
      change ∃ u,_[o0+i'*tt.width+j']? = some u/\TO w' (fcC (cell tt (ts.modify e2 (upd tt off [.l t zs])) i' j')) u _
      rw[get,Js hlen];by_cases hij:i'=e2/\j'=off
      .obtain⟨rfl,rfl⟩:=hij;refine⟨v,by rw[G_ hpo],?_⟩;rw[G_ rfl];have hle:=hup j';rw[EO (by rw[hw3];simp;exact hj2),G_ ⟨X_ _,by simp⟩,Nat.sub_self,List.getD_cons_zero] at hle;refine TO.le hle.le (hTO.frame λb hb _=>⟨old b (hH b hb).1.2,?_⟩);simpa using hb
      .have hne:¬ o0+i'*tt.width+j'=po:=by rw[<-hpo];intro e;obtain⟨e1,e3⟩:=XJ hjw hj2 (show i'*tt.width+j'=e2*tt.width+off from O);exact hij ⟨e1,e3⟩
       obtain⟨u,hu,ht⟩:=hI.cells i' hi2 j' hj2;refine⟨u,by rw[F_ hne];exact hu,?_⟩;have hto2:TO w' (fcC (cell tt ts i' j')) u (λb=>if i'=e2/\j'=off then H b else GG i' j' b):=by simp only[F_ hij];exact ht.frame λb hb _=>⟨old b (hI.sub i' hi2 j' hj2 b hb).2,hb⟩
       by_cases hie:i'=e2
       .subst hie;rw[G_ rfl];have hne2:j'≠off:=λe0=>hij ⟨rfl,e0⟩
        have hle:=hup j';rw[EO (by rw[hw3];simp;exact hjw),F_ (by simp;omega)] at hle;exact TO.le hle.le hto2
       .rw[F_ hie];exact hto2
     .intro i' hi' j' hj' b hb;have hi2:i'<ts.length:=by simpa [Tree.n] using hi'
      by_cases hij:i'=e2/\j'=off
      .simp only[G_ hij] at hb;exact⟨.inl (hH b hb).1.1,(hH b hb).1.2⟩
      .simp only[F_ hij] at hb;obtain⟨q1,q2⟩:=hI.sub i' hi2 j' hj' b hb;exact⟨.inl q1,q2⟩
     .intro i1 hi1 j1 hj1 i3 hi3 j3 hj3 b hb1 hb3;have hi1':i1<ts.length:=by simpa [Tree.n] using hi1
      have hi3':i3<ts.length:=by simpa [Tree.n] using hi3
      by_cases hij1:i1=e2/\j1=off
      .simp only[G_ hij1] at hb1;by_cases hij3:i3=e2/\j3=off
       .exact⟨hij1.1.trans hij3.1.symm,hij1.2.trans hij3.2.symm⟩
       .simp only[F_ hij3] at hb3;exact absurd ((hH b hb1).2 i3 hi3' j3 hj3 hb3) hij3
      .simp only[F_ hij1] at hb1;by_cases hij3:i3=e2/\j3=off
       .simp only[G_ hij3] at hb3;exact absurd ((hH b hb3).2 i1 hi1' j1 hj1 hb1) hij1
       .simp only[F_ hij3] at hb3;exact hI.dis i1 hi1' j1 hj1 i3 hi3' j3 hj3 b hb1 hb3)
   refine Aeu hrun ?_;have hput:∀ u,a.put o.dst u=a:=by intro u;rw[hdst];rfl
   rw[hput];exact⟨_,⟨G',hG'⟩,hh⟩
 .exact hh.elim
def Ac3 (P:Program) (o:Oper) (T:TypeId) (x i:Operand) (J:St) (K:St->Out):Out:=match x with
 | .tmp s=>(match J.get s with
  | .inn l k e j t xs=>Vv P o T l k e j t xs i J K
  | _=>HF P o T (.tmp s) i J K)
 | x=>HF P o T x i J K
def Acw {T:TypeId} {x i:Operand} (h:RG F G J a w) (ho:o.op=.indexAddr T x i) (hh:(Ac3 P o T x i J K).holds Q):o.wp P a w (ContE F G a w o.dst K Q) Qx:=by
 unfold Ac3 at hh;split at hh
 .split at hh
  .rename_i hs;exact Ye h ho hs hh
  .exact Jf h ho hh
 .exact Jf h ho hh
def Aef (P:Program) (o:Oper) (T:TypeId) (x:Operand) (f:Nat) (J:St) (K:St->Out):Out:=match x with
 | .tmp s=>(match J.get s with
  | .nptr l k e j t xs i2 o2=>TL P o T l k e j t xs i2 o2 f J K
  | _=>HD P o T (.tmp s) f J K)
 | x=>HD P o T x f J K
def AdL {T:TypeId} {x:Operand} {f:Nat} (h:RG F G J a w) (ho:o.op=.fieldAddr T x f) (hh:(Aef P o T x f J K).holds Q):o.wp P a w (ContE F G a w o.dst K Q) Qx:=by
 unfold Aef at hh;split at hh
 .split at hh
  .rename_i hs;exact Yf h ho hs hh
  .exact Jg h ho hh
 .exact Jg h ho hh
def Ad9 (o:Oper) (x:Operand) (J:St) (K:St->Out):Out:=match x with
 | .tmp s=>(match J.get s with
  | .nptr _ _ _ _ _ _ _ _=>Abf o s J K
  | _=>Af0 o (.tmp s) J K)
 | x=>Af0 o x J K
def Aaq {x:Operand} (h:RG F G J a w) (ho:o.op=.nilCheck x) (hh:(Ad9 o x J K).holds Q):o.wp P a w (ContE F G a w o.dst K Q) Qx:=by
 unfold Ad9 at hh;split at hh
 .split at hh
  .rename_i hs;exact Zy h ho hs hh
  .exact Wg h ho hh
 .exact Wg h ho hh
def Mv (P:Program) (o:Oper) (T:TypeId) (p x:Operand) (J:St) (K:St->Out):Out:=match p with
 | .tmp d=>(match J.get d with
  | .nptr l k e j t _ i2 o2=>NJ P o T d l k e j t i2 o2 x J K
  | _=>M1 P o T (.tmp d) x J K)
 | p=>M1 P o T p x J K
def MQ {T:TypeId} {p x:Operand} (h:RG F G J a w) (ho:o.op=.store T p x) (hd:o.dst=none) (hh:(Mv P o T p x J K).holds Q):o.wp P a w (LK F K Q) Qx:=by
 unfold Mv at hh;split at hh
 .split at hh
  .rename_i hs;exact Tb h ho hd hs hh
  .exact LC h ho hd hh
 .exact LC h ho hd hh
def Q1 (P:Program) (o:Oper) (T:TypeId) (p x:Operand) (J:St) (K:St->Out):Out:=match x with
 | .tmp s=>(match J.get s with
  | .app l e j tt ts t zs=>Lf P T p l e j tt ts t zs J K
  | _=>Mv P o T p (.tmp s) J K)
 | x=>Mv P o T p x J K
def TI {T:TypeId} {p x:Operand} (h:RG F G J a w) (ho:o.op=.store T p x) (hd:o.dst=none) (hh:(Q1 P o T p x J K).holds Q):o.wp P a w (LK F K Q) Qx:=by
 unfold Q1 at hh;split at hh
 .split at hh
  .rename_i hs;exact QR h ho hd hs hh
  .exact MQ h ho hd hh
 .exact MQ h ho hd hh
def AdW (P:Program) (ty:TypeId->Option Ty) (o:Oper) (T:TypeId) (s x:Operand) (J:St) (K:St->Out):Out:=match s with
 | .tmp d=>(match J.get d with
  | .inn l k e j _ _=>PG P o T l k e j x J K
  | _=>Kq P ty o T (.tmp d) x J K)
 | s=>Kq P ty o T s x J K
def AaS {ty:TypeId->Option Ty} {T:TypeId} {s x:Operand} (h:RG F G J a w) (ho:o.op=.call { callee:=.builtin .append,args := #[s,x],argTypes := #[T,T]}) (hh:(AdW P ty o T s x J K).holds Q):o.wp P a w (LK F K Q) Qx:=by
 unfold AdW at hh;split at hh
 .split at hh
  .rename_i hs;exact TN h ho hs hh
  .exact JQ h ho hh
 .exact JQ h ho hh
end
end Go.D
namespace Go.D
section
variable {P:Program} {F:Fr P} {G:Gh} {J:St} {a:Act} {w:World} {o:Oper} {K:St->Out} {Q:Post} {Qx:Exit->Act->World->Prop}
def RG.retell (h:RG F G J a w) {t:Nat} {x:TV} (hx:TVR w G x (a.tmps.getD t undef)):RG F G (J.put t x) a w:=by
 refine⟨?_,h.bx,h.hp,h.lt,h.os,h.tape,h.output,h.size,h.keep,h.fb,h.fl,h.nt,h.df⟩;intro t' tv hl;simp only[St.put,DI] at hl;by_cases ht:t'=t
 .simp_all
 .simp only[ht,aS] at hl;exact h.tm t' tv hl
def Gf:List Cell->Option (List FC)
 | []=>some []
 | c::cs=>match (match c with | .tt=>some (.val (.bool true)) | .ff=>some (.val (.bool false))|c=>M4 c),Gf cs with
  | some d,some ds=>some (d::ds)
  | _,_=>none
def Il:∀ (cs:List Cell) (ds:List FC),Gf cs=some ds->ds.length=cs.length/\∀ (j:Nat) (c:Cell) (u:Value),cs[j]? = some c->CellR w G c u->TR w (src G none) (fcC (ds.getD j .nl)) u:=by
 intro cs
 induction cs with
 | nil=>intro ds h;simp only[Gf,R_] at h;subst h;simp
 | cons c cs ih=>
  intro ds h;unfold Gf at h;split at h
  .rename_i d ds' h1 h2;simp at h;subst h;obtain⟨h3,h4⟩:=ih ds' h2;refine⟨by grind,λj c' u hj hu=>?_⟩;cases j with
   | succ j=>simpa using h4 j c' u (by grind) hu
   | zero=>
    simp at hj;subst hj;split at h1
    .simp at h1;subst h1;exact⟨hu,rfl⟩
    .simp at h1;subst h1;exact⟨hu,rfl⟩
    .exact O4 hu h1
  .cases h
def AjG (P:Program) (ty:TypeId->Option Ty) (o:Oper) (T:TypeId) (n:Nat) (parts:Array (Nat×Operand)) (J:St) (K:St->Out):Out :=
 match P.underlying T,o.dst with
 | some (.slice e),some d=>match P.info? e,ty e with
  | some i,some t=>match i.zero with
   | some z=>if(t.width=i.size/\z.cells.size=i.size/\n*i.size<=16777216/\z.cells.toList.all (λv=>v.oneCell')=true)/\J.hasB d=false/\d<J.nt then(match Oq i.size (List.replicate (n*i.size) .dead) (parts.toList.map λp=>(p.1,J.eval p.2)) with
    | some cs=>K (({ J with bx:=D.put J.bx d cs }:St).put d (.lit d n t))
    | none=>.bad) else .bad
   | none=>.bad
  | _,_=>.bad
 | _,_=>.bad
def Agh {ty:TypeId->Option Ty} {T:TypeId} {n:Nat} {parts:Array (Nat×Operand)} (h:RG F G J a w) (ho:o.op=.buildSlice T n parts) (hh:(AjG P ty o T n parts J K).holds Q):o.wp P a w (ContE F G a w o.dst K Q) Qx:=by
 unfold AjG at hh;split at hh
 .rename_i e d hu hd;split at hh
  .rename_i i t hi hty;split at hh
   .rename_i z hz;split at hh
    .rename_i hc;obtain⟨⟨hwd,hzs,hbig,hz1⟩,hbb,hlt⟩:=hc;have hk:0<i.size:=by rw[<-hwd];exact Fk t
     split at hh
     .rename_i cs hf
      let cur:Array Value:=(Array.range (n*i.size)).map (z.cells[· % z.cells.size]!)
      have hcur:A4 w G (List.replicate (n*i.size) .dead) cur:=by
       refine⟨by grind,λj c hj=>?_⟩;have hlt:j<n*i.size:=by grind
       have hm:j % z.cells.size<z.cells.size:=Nat.mod_lt _ O;rw[List.getElem?_replicate,G_ hlt] at hj;injection hj with hj
       subst hj;refine⟨z.cells[j % z.cells.size],by grind,?_⟩;rw[aM] at hz1;exact hz1 _ (by simp)
      obtain⟨r,hfill,hr⟩:=WZ (k:=i.size) (parts.toList.map λp=>(p.1,J.eval p.2)) (parts.toList.map λp=>(p.1,a.eval p.2)) _ cur cs hcur (by simp) (λj p hj=>by
       rw[cz] at hj;cases hq:parts.toList[j]? with
       | none=>simp[hq] at hj
       | some q=>
        simp only[hq,bC,R_] at hj;subst hj;exact⟨a.eval q.2,by grind,Aw h q.2⟩) hf
      have he:(execOp a.eval o).run P w=.ok (.value (.slice (some ⟨w.heap.size,0,none⟩) n n)) (w.alloc (.cells r e)):=by
       have hnb:¬ (16777216<n*i.size):=O
       by_cases hz0:n*i.size=0
       .have hn0:n=0:=by
         rcases Nat.mul_eq_zero.1 hz0 with h|h
         .exact h
         .omega
        subst hn0;have hc0:cur = #[]:=by grind
        rw[hc0] at hfill;simp[execOp,ho,Instr.buildSlice,run_underlying hu,sizeOf,typeInfo,hi,newRow,hfill,Array.range_zero']
       .simp only[cur] at hfill;simp[execOp,ho,Instr.buildSlice,run_underlying hu,sizeOf,typeInfo,hi,hnb,hz0,zeroValue,hz,newRow,hfill]
      obtain⟨G',hG,hbe,how,hob,hhv⟩:=(h.alloc (.cells r e)).newBox d cs w.heap.size r e hbb (KW h) (heap_alloc_new w _) (Cells.alloc h _ hr);refine EM he ?_;rw[hd];exact⟨_,G',hG.put hlt (by simp[TVR,hbe]),hh,⟨_,rfl⟩,⟨rfl,rfl,⟨rfl,by first|exact DrLe.refl _|exact DrLe.succ _|exact DrLe.add _ _⟩,by simp⟩,λg hg=>.inl (heap_alloc_old w _ g hg),how,λb hb=>hob b λe=>hb (e▸rfl),λl _=>by rw[hhv]⟩
     .exact hh.elim
    .exact hh.elim
   .exact hh.elim
  .exact hh.elim
 .exact hh.elim
def RG.freeze (h:RG F G J a w) {g0:Nat} (h0:G.ow g0=.gone) (hlt:g0<w.heap.size):∃ G',RG F G' J a w/\G'.ow g0=.free/\(∀ g,G.ow g≠.gone->G'.ow g=G.ow g)/\G'.hv=G.hv/\G'.be=G.be:=by
 let G':Gh:={ ow:=λg=>if g=g0 then .free else G.ow g,be:=G.be,hv:=G.hv }
 have hne:∀ g,G.ow g≠.gone->G'.ow g=G.ow g:=by grind
 have fo:Cf w w G G':=⟨λg hg=>⟨rfl,by grind⟩,λg hg=>by rw[hne g (by simp[hg]),hg]⟩;have mo:∀ m,En w w G G' m:=λm g hg=>⟨rfl,by grind⟩
 refine⟨G',?_,by grind,hne,rfl,rfl⟩;constructor
 case tm=>exact λt tv hl=>TV.carry fo (λ_ _=>rfl) (λm _=>mo m) (λ_ _=>rfl) (h.tm t tv hl)
 case bx=>
  intro b cs hl;obtain⟨h1,r,e,h2,h3⟩:=h.bx b cs hl;exact⟨(hne (G.be b) (by grind)).trans h1,r,e,h2,Cells.carry fo (λ_ _=>rfl) (λm _=>mo m) h3⟩
 case hp=>exact λl T hl=>(h.hp l T hl).frame λg hg _=>mo l g hg
 case lt=>
  intro g hg;by_cases e:g=g0
  .subst e;exact hlt
  .exact h.lt g λe2=>hg (by grind)
 case os=>exact h.os
 case tape=>exact h.tape
 case output=>exact h.output
 case size=>exact h.size
 case keep=>
  refine h.keep.next fo (λ_ _=>rfl) λg hg=>?_
  grind
 case fb=>exact h.fb
 case fl=>exact h.fl
 case nt=>exact h.nt
 case df=>exact h.df
def AF (s:ByteArray):List Int:=s.data.toList.map λb=>(b.toNat:Int)
def Amf (P:Program) (S T:TypeId):Bool:=match P.underlying S,P.underlying T with
 | some .string,some (.slice e)=>(match P.underlying e with
  | some (.int .u8)=>true
  | _=>false)
 | _,_=>false
def Am9 (o:Oper) (x:Operand) (J:St) (K:St->Out):Out :=
 match (J.eval x).scal,o.dst with
 | some (.string s),some d=>bif decide (d<J.nt) then K (J.put d (.v false [.im none .u8 (AF s)])) else .bad
 | _,_=>.bad
def AiS {S T:TypeId} {x:Operand} (h:RG F G J a w) (ho:o.op=.convert S T x) (hs:Amf P S T=true) (hh:(Am9 o x J K).holds Q):o.wp P a w (ContE F G a w o.dst K Q) Qx:=by
 unfold Amf at hs;split at hs
 .rename_i e hS hT;split at hs
  .rename_i he;unfold Am9 at hh;split at hh
   .rename_i s d hx hd;cases hc:decide (d<J.nt) with
    | false=>rw[hc,cF] at hh;exact hh.elim
    | true=>
     rw[hc,aX] at hh;have hlt:=ee hc;have hxe:=(C9 (Aw h x) hx).1;have hrun:=Lib.run_convert_string_bytes w S T e s hS hT he;have hon:Onward w (Lib.bytesWorld w e s):=⟨rfl,rfl,⟨rfl,by first|exact DrLe.refl _|exact DrLe.succ _|exact DrLe.add _ _⟩,by rw[Lib.bytesWorld_size];exact Nat.le_succ _⟩;have hold:∀ g,g<w.heap.size->(Lib.bytesWorld w e s).heap[g]? = w.heap[g]?:=λg hg=>Lib.bytesWorld_at_old w e s g hg
     have h1:=h.world hon λg hg=>hold g (h.lt g hg)
     have hg0:G.ow w.heap.size=.gone:=by
      cases hq:G.ow w.heap.size with
      | gone=>rfl
      | _=>exact absurd (h.lt w.heap.size (by grind)) (Nat.lt_irrefl _)
     obtain⟨G2,h2,f2,k2,v2,b2⟩:=h1.freeze hg0 (by rw[Lib.bytesWorld_size];exact Nat.lt_succ_self _);have hT2:TVR (Lib.bytesWorld w e s) G2 (.v false [.im none .u8 (AF s)]) (.slice (some ⟨w.heap.size,0,none⟩) s.size (grownCap w s.size 0 e)):=by
      refine⟨_,rfl,?_⟩;show TR _ (src G2 none) (fcC (.l .u8 (AF s))) _;have hl:(AF s).length=s.size:=by simp[AF]
      rw[Eb,hl];refine⟨_,_,rfl,grownCap_ge w s.size 0 e,.inr ⟨w.heap.size,0,_,e,_,rfl,f2,Lib.bytesWorld_at_new w e s,λi hi j hj=>?_⟩⟩;have hj0:j=0:=by simp only[Ty.width] at hj;omega
      subst hj0;have hi2:i<s.data.size:=hi;refine⟨.int .u8 s.data[i].toNat,?_,?_⟩
      .have hrow:(Lib.bytesCells w e s)[i]? = some (.int .u8 s.data[i].toNat):=by unfold Lib.bytesCells;grind
       rw[show 0+i*Ty.u8.width+0=i by simp[Ty.width]];exact hrow
      .have e1:cell .u8 (AF s) i 0=.val (.int .u8 s.data[i].toNat):=by
        unfold cell;have:(AF s).getD i default=(s.data[i].toNat:Int):=by rw[AF,bB,cz,Array.getElem?_toList,Array.getElem?_eq_getElem hi2];rfl
        rw[this];rfl
       show TR _ _ (fcC (cell .u8 (AF s) i 0)) _;rw[e1];exact⟨rfl,rfl⟩
     have hev:(execOp a.eval o).run P w=.ok (.value (.slice (some ⟨w.heap.size,0,none⟩) s.size (grownCap w s.size 0 e))) (Lib.bytesWorld w e s):=by simp[execOp,ho,hxe,hrun]
     refine EM hev ?_;rw[hd];exact⟨_,G2,h2.put hlt hT2,hh,⟨_,rfl⟩,hon,λg hg=>.inl (hold g hg),k2,λb _=>by rw[b2],λl _=>by rw[v2]⟩
   .exact hh.elim
  .cases hs
 .cases hs
def Aao (J:St) (b:Nat):St:=({ J with hp:=J.hp.filter λx=>!(([]:List Nat).contains x.1||([]:List Nat).contains x.1),bx:=J.bx.filter λx=>!([b]:List Nat).contains x.1 }:St).zap ([]:List Nat).contains (λm=>([]:List Nat).contains m||([]:List Nat).contains m)
def Ac0 (J:St) (s:Nat):St :=
 match J.get s with
 | .lit b n t=>match look J.bx b with
  | some cs=>match Rk (Aao J b) cs with
   | some (ds,ab)=>match Jm t n ds with
    | some xs=>if cs.length=n*t.width/\J.fl.contains (64*b)=false/\ab.all (λm=>!J.fl.contains m)=true then(B7 (Aao J b) (64*b) ab ⟨t,xs⟩).put s (.v false [.ref (64*b)]) else J
    | none=>J
   | none=>match Gf cs with
    | some ds=>match Jm t n ds with
     | some xs=>if cs.length=n*t.width then(Aao J b).put s (.v false [.im none t xs]) else J
     | none=>J
    | none=>J
  | none=>J
 | _=>J
def Adp (h:RG F G J a w) (s:Nat):∃ G',RG F G' (Ac0 J s) a w:=by
 unfold Ac0;split
 .rename_i b n t hs;have hx:=Hg h s;rw[hs] at hx;split
  .rename_i cs hb;obtain⟨hbo,r,e,hg,hcs⟩:=h.bx b cs hb;obtain⟨G1,hR1,hbe,hhv,hgone,_,hbox,hsm,_,_,hfree,hlab,_,hcu⟩:=h.drop [] [] [b];have hcs1:A4 w G1 cs r:=Cells.carry ⟨λg hg=>⟨rfl,hfree g hg⟩,hcu⟩ (λm _=>by rw[hhv]) (λm _ g hg=>⟨rfl,hlab g m hg (by simp) (by simp)⟩) hcs;have hg0:G1.ow (G.be b)=.gone:=hbox _ b hbo (by simp);have hlt0:G.be b<w.heap.size:=(Array.getElem?_eq_some_iff.1 hg).1;have at_:∀ i',i'<n->∀ j,j<t.width->cs.length=n*t.width->∃ c u,cs[i'*t.width+j]? = some c/\r[i'*t.width+j]? = some u/\CellR w G1 c u:=by
    intro i' hi' j hj hlen;have hlt:i'*t.width+j<n*t.width:=by have:(i'+1)*t.width<=n*t.width:=de _ hi';rw[Nat.add_mul] at this;omega
    obtain⟨u,hu',hr'⟩:=hcs1.2 _ _ (aH (show i'*t.width+j<cs.length from O));exact⟨_,u,aH O,hu',hr'⟩
   split
   .rename_i ds ab hlit;split
    .rename_i xs hxs;split
     .rename_i hc;obtain⟨hlen,hfl,hab⟩:=hc;obtain⟨l1,l2,l3,l4⟩:=Of hR1 cs ds ab hlit;obtain⟨d1,d2⟩:=Lt n ds xs hxs;have hTn:(⟨t,xs⟩:Tree).n=n:=d1;have hT:TO w (.sl (⟨t,xs⟩:Tree).k (⟨t,xs⟩:Tree).n (⟨t,xs⟩:Tree).f) (.slice (some ⟨G.be b,0,none⟩) n n) (λg=>g=G.be b\/ZE G1 ab g):=by
       rw[hTn];refine .inr ⟨G.be b,0,n,r,e,λi' j g=>∃ c m,cs[i'*t.width+j]? = some c/\AV c m/\G1.ow g=.lab m,rfl,X_ _,?_,hg,.inl rfl,λi' hi' j hj=>?_,λi' hi' j hj g hg'=>?_,λi' hi' j hj i2 hi2 j2 hj2 g hg' hg2=>?_⟩
       .rw[hcs.1,hlen];simp[Tree.k]
       .obtain⟨c,u,hcj,huj,hcu⟩:=at_ i' hi' j hj hlen;refine⟨u,by rw[cM];exact huj,?_⟩;have hd2:=d2 i' hi' j hj;exact TO.le hd2.le ((l2 _ c u hcj hcu).frame λg hg' _=>by obtain⟨m,hm,hg'⟩:=hg';exact⟨rfl,c,m,hcj,hm,hg'⟩)
       .obtain⟨c,m,hcj,hm,hgm⟩:=hg';exact⟨.inr ⟨m,l3 _ c m hcj hm,hgm⟩,λe=>by grind⟩
       .obtain⟨c,m,hcj,hm,hgm⟩:=hg';obtain⟨c2,m2,hcj2,hm2,hgm2⟩:=hg2;rw[hgm] at hgm2;injection hgm2 with e2
        subst e2;exact XJ hj2 hj (l4 _ _ c c2 m hcj hcj2 hm hm2)
      obtain⟨G2,hR2,hv2,_⟩:=hR1.retree (64*b) ab ⟨t,xs⟩ _ _ ⟨rfl,rfl,⟨rfl,by first|exact DrLe.refl _|exact DrLe.succ _|exact DrLe.add _ _⟩,X_ _⟩ (λ_ _ _=>rfl) (λg hg'=>by
       rcases hg' with rfl|⟨m,hm,hgm⟩
       .exact⟨hlt0,.inl hg0⟩
       .exact⟨hR1.lt g (by simp[hgm]),.inr (.inr ⟨m,hm,hgm⟩)⟩) hT (show 64*b∉J.fl by grind) (show ∀ m,m∈ab->m∉J.fl by simpa using hab)
      refine⟨G2,RG.retell (J:=B7 (Aao J b) (64*b) ab ⟨t,xs⟩) hR2 ⟨_,rfl,?_,?_⟩⟩
      .rw[hx,hv2]
      .rw[hx];rfl
     .exact⟨G,h⟩
    .exact⟨G,h⟩
   .split
    .rename_i ds hl;split
     .rename_i xs hxs;split
      .rename_i hlen;obtain⟨G2,hR2,hf2,hk2,hh2,_⟩:=hR1.freeze hg0 hlt0;obtain⟨l1,l2⟩:=Il (w:=w) (G:=G2) cs ds hl;obtain⟨d1,d2⟩:=Lt n ds xs hxs;refine⟨G2,RG.retell (J:=Aao J b) hR2 ⟨_,rfl,?_⟩⟩;show TR w (src G2 none) (fcC (.l t xs)) _;rw[hx,Eb,<-d1];refine⟨_,_,rfl,X_ _,.inr ⟨G.be b,0,r,e,(0,0),rfl,hf2,hg,λi' hi' j hj=>?_⟩⟩;obtain⟨c,u,hcj,huj,hcu⟩:=at_ i' O j hj hlen;refine⟨u,by grind,?_⟩;have hcu2:CellR w G2 c u:=by refine Cell.carry ⟨λg hg=>⟨rfl,(hk2 g (by grind)).trans hg⟩,λg hg=>(hk2 g (by rw[hg];simp)).trans hg⟩ (λm _=>by rw[hh2]) (λm _ g hg=>⟨rfl,(hk2 g (by rw[hg];simp)).trans hg⟩) hcu
       exact TR.le (d2 i' O j hj).le (l2 _ c u hcj hcu2)
      .exact⟨G,h⟩
     .exact⟨G,h⟩
    .exact⟨G,h⟩
  .exact⟨G,h⟩
 .exact⟨G,h⟩
def AaK:List Nat->St->St
 | [],J=>J
 | s::ss,J=>AaK ss (Ac0 J s)
def Aco:∀ (ss:List Nat) {J:St} {G:Gh},RG F G J a w->∃ G',RG F G' (AaK ss J) a w:=by
 intro ss
 induction ss with
 | nil=>intro J G h;exact⟨G,h⟩
 | cons s ss ih=>
  intro J G h;obtain⟨G1,h1⟩:=Adp h s;exact ih h1
def AmK:TV->Bool
 | .lit _ _ _=>true
 | _=>false
def St.lits (J:St):St:=AaK ((J.tm.filter λp=>AmK p.2).map (·.1)) J
def Uf (h:RG F G J a w):∃ G',RG F G' J.lits a w:=Aco _ h
def ZK (P:Program) (cls:Bool) (T:TypeId) (n:Nat) (parts:Array (Nat×Operand)) (J:St):Bool :=
 match P.underlying T with
 | some (.slice e)=>match P.info? e with
  | some i=>match Oq i.size (List.replicate (n*i.size) .dead) (parts.toList.map λp=>(p.1,J.eval p.2)) with
   | some cs=>match Rk J cs with
    | some (_,ab)=>!(cls && !ab.isEmpty)
    | none=>false
   | none=>true
  | none=>true
 | _=>true
end
end Go.D
namespace Go.D
section
variable {P:Program} {E:Env} {F:Fr P} {G:Gh} {J:St} {a:Act} {w w':World} {o:Oper} {K:St->Out} {Q:Post} {Qx:Exit->Act->World->Prop}
open Classical in
def RG.addCur (h:RG F G J a w) {g:Nat} (h0:G.ow g=.gone) (hg:CurOk w G g) (hs:g<w.heap.size):∃ G',RG F G' J a w/\G'.ow g=.cur:=by
 let G':Gh:={ ow:=λb=>if b=g then .cur else G.ow b,be:=G.be,hv:=G.hv }
 have same:∀ b,G.ow b≠.gone->G'.ow b=G.ow b:=λb hb=>F_ λe=>hb (by rw[e];exact h0)
 have fo:Cf w w G G':=⟨λb hb=>⟨rfl,(same b (by simp[hb])).trans hb⟩,λb hb=>(same b (by simp[hb])).trans hb⟩;have mo:∀ m,En w w G G' m:=λm b hb=>⟨rfl,(same b (by simp[hb])).trans hb⟩
 refine⟨G',?_,G_ rfl⟩;constructor
 case tm=>exact λt tv hl=>TV.carry fo (λ_ _=>rfl) (λm _=>mo m) (λ_ _=>rfl) (h.tm t tv hl)
 case bx=>
  intro b' cs' hl;obtain⟨h1,r',e',h2,h3⟩:=h.bx b' cs' hl;exact⟨(same (G.be b') (by rw[h1];intro e;cases e)).trans h1,r',e',h2,Cells.carry fo (λ_ _=>rfl) (λm _=>mo m) h3⟩
 case hp=>exact λl T hl=>(h.hp l T hl).frame λg hg _=>mo l g hg
 case lt=>
  intro b hb;by_cases e:b=g
  .subst e;exact hs
  .exact h.lt b (by simpa [G',e] using hb)
 case os=>exact h.os
 case tape=>exact h.tape
 case output=>exact h.output
 case size=>exact h.size
 case keep=>
  refine⟨λb h1 h2=>?_,λb h1 h2=>?_,λb hb=>?_⟩
  .obtain⟨k1,k2⟩:=h.keep.free b h1 h2;exact⟨k1,(same b (by simp[k2])).trans k2⟩
  .obtain⟨k1,k2⟩:=h.keep.cur b h1 h2;exact⟨(same b (by simp[k1])).trans k1,k2⟩
  .by_cases e:b=g
   .subst e;exact hg.carry fo rfl
   .exact(h.keep.at_ b (by simpa [G',e] using hb)).carry fo rfl
 case fb=>exact h.fb
 case fl=>exact h.fl
 case nt=>exact h.nt
 case df=>exact h.df
def Ai1 (P:Program) (o:Oper) (f t:Nat) (J:St) (K:St->Out):Out :=
 match J.eval (.tmp t),o.dst,P.funcs[f]? with
 | .v false [.im none .u8 xs],some d,some fn=>bif fn.body.isSome && !(fn.name == "runtime.NumGoroutine")&&decide (d<J.nt) then
  .ob (∀ j,j<xs.length->0<=(show Int from xs.getD j default)/\(show Int from xs.getD j default)<=255) (.ob (xs.length<=1000000000000000000) (K (J.put d .cur))) else .bad
 | _,_,_=>.bad
def Agf {f t:Nat} (h:RG F G J a w) (hf:Vo P f) (he:(execOp a.eval o).run P w=(callFunc f #[a.eval (.tmp t)]).run P w) (hh:(Ai1 P o f t J K).holds Q):o.wp P a w (LK F K Q) Qx:=by
 unfold Ai1 at hh;split at hh
 .rename_i xs d fn hx hd hfn
  cases hc:(fn.body.isSome && !(fn.name == "runtime.NumGoroutine")&&decide (d<J.nt)) with
  | false=>rw[hc,cF] at hh;exact hh.elim
  | true=>
   rw[hc,aX] at hh;simp only[T_,cO,az] at hc;obtain⟨⟨hbody,hname⟩,hlt⟩:=hc;obtain⟨h1,h2,hh⟩:=hh;have hv:=Aw h (.tmp t);rw[hx] at hv;obtain⟨c,hc,hv⟩:=hv;injection hc with hc
   subst hc;have hrun:(execOp a.eval o).run P w=.ok (.enter f #[a.eval (.tmp t)]) w:=by
    rw[he];obtain⟨cb,hb2⟩:=Option.isSome_iff_exists.1 hbody
    have hn2:¬ fn.name = "runtime.NumGoroutine":=by simpa using hname
    simp[callFunc,hfn,hb2,hn2]
   unfold Oper.wp;rw[hrun,Oper.upon_enter];refine(hf w _ (src G none) xs hv h1 h2).mono ?_;rintro e w' ⟨g,n,ty,rfl,ho,hs,hg,hcell,hn1,hn2⟩;have hgone:G.ow g=.gone:=by
    cases hq:G.ow g with
    | gone=>rfl
    | _=>have:=h.lt g (by rw[hq];intro e;cases e);omega
   have h3:RG F G J a w':=h.world ho λb hb=>hs b (h.lt b hb)
   have hfr:∀ b,src G none b->w'.heap[b]? = w.heap[b]?/\src G none b:=λb hb=>⟨hs b (h.lt b (by rw[show G.ow b=.free from hb];intro e;cases e)),hb⟩
   obtain⟨G',h4,h5⟩:=h3.addCur hgone ⟨xs,_,0,n,ty,hcell,TR.frame (λb hb _=>hfr b hb) hv,h2,O,O,hn1,hn2⟩ (Aav hcell);rw[hd];exact⟨_,⟨G',h4.put (x:=.cur) hlt ⟨g,rfl,h5⟩⟩,hh⟩
 .exact hh.elim
end
end Go.D
namespace Go.D
def Uq:List Cell->Nat->Option (Nat×Nat×Nat×Nat×Nat)
 | [],_=>none
 | .sub l k lo n::_,j=>some (j,l,k,lo,n)
 | _::cs,j=>Uq cs (j+1)
def MK:∀ {cs:List Cell} {s j l k lo n:Nat},Uq cs s=some (j,l,k,lo,n)->s<=j/\cs[j-s]? = some (.sub l k lo n):=by
 intro cs
 induction cs with
 | nil=>intro s j l k lo n h;simp[Uq] at h
 | cons c cs ih=>
  intro s j l k lo n h;cases c with
  | sub l' k' lo' n'=>
   simp only[Uq,R_,bW] at h;obtain⟨rfl,rfl,rfl,rfl,rfl⟩:=h;exact⟨X_ _,by simp⟩
  | _=>
   obtain⟨h1,h2⟩:=ih (s:=s+1) h;refine⟨O,?_⟩;rw[show j-s=(j-(s+1))+1 from O];simpa using h2
def Pt (J:St) (t j l:Nat):St:=match look J.tm t with
 | some (.v agg cs)=>J.put t (.v agg (cs.set j (.ref l)))
 | _=>J
section
variable {P:Program} {F:Fr P} {G G':Gh} {J J':St} {a:Act} {w w':World} {K:St->Out} {Q:Post}
def Oi {cs:List Cell} {vs:Array Value} {j:Nat} {c:Cell} {u:Value} (h:A4 w G cs vs) (hu:vs[j]? = some u) (hc:CellR w G c u):A4 w G (cs.set j c) vs:=by
 refine⟨by simpa using h.1,λi d hd=>?_⟩;rw[List.getElem?_set] at hd;by_cases e:j=i
 .simp_all
 .simp only[e,aS] at hd;exact h.2 i d hd
def Wv {agg:Bool} {cs:List Cell} {v:Value} {j:Nat} {c:Cell} (h:G6 w G agg cs v) (hc:cs[j]? = some c):∃ u,CellR w G c u/\∀ (G':Gh) (cs':List Cell) (c':Cell),G6 w G' agg cs' v->cs'.length=cs.length->CellR w G' c' u->G6 w G' agg (cs'.set j c') v:=by
 cases agg with
 | false=>
  obtain⟨c0,rfl,h⟩:=h;cases j with
  | zero=>
   simp only[List.getElem?_cons_zero,R_] at hc;subst hc;refine⟨v,h,λG' cs' c' h' _ hc'=>?_⟩;obtain⟨c1,rfl,_⟩:=h';exact⟨c',rfl,hc'⟩
  | succ j=>simp at hc
 | true=>
  obtain⟨vs,hv,h⟩:=h;obtain⟨u,hu,hr⟩:=h.2 j c hc;refine⟨u,hr,λG' cs' c' h' _ hc'=>?_⟩;obtain⟨vs',hv',h'⟩:=h';rw[hv] at hv';injection hv' with hv'
  subst hv';exact⟨vs,hv,Oi h' hu hc'⟩
def keepSt (J:St) (l:Nat) (T:Tree):St:=({ J with hp:=(l,T)::J.hp }:St).zap (λm=>m==l) (λ_=>false)
def RG.keepT (h:RG F G J a w) (l:Nat) (T:Tree) (u:Value) (hT:TO w (.sl T.k T.n T.f) u λg=>G.ow g=.lab l) (hl:l∉J.fl):RG F { G with hv:=λm=>if m=l then u else G.hv m } (keepSt J l T) a w:=by
 have h0:=h.zap (λm=>m==l) λ_=>false;have fo:Cf w w G { G with hv:=λm=>if m=l then u else G.hv m }:=⟨λg hg=>⟨rfl,hg⟩,λg hg=>hg⟩;constructor
 case tm=>
  intro t tv hlk;refine TV.carry fo (λm hm=>?_) (λm hm g hg=>⟨rfl,hg⟩) (λ_ _=>rfl) (h0.tm t tv hlk);simp only[keepSt,St.zap,St.map,A8 λx:TV=>x.zap (λm=>m==l) λ_=>false] at hlk;cases hq:look J.tm t with
  | none=>simp[hq] at hlk
  | some x=>
   simp only[hq,bC,R_] at hlk;subst hlk;have:=TV.zap_refs hm;simp_all
 case bx=>
  intro b cs hlk;obtain⟨h1,r,e,h2,h3⟩:=h0.bx b cs hlk;refine⟨h1,r,e,h2,Cells.carry fo (λm hm=>?_) (λm hm g hg=>⟨rfl,hg⟩) h3⟩;simp only[keepSt,St.zap,St.map,A8 λcs:List Cell=>cs.map (·.zap (λm=>m==l) λ_=>false)] at hlk;cases hq:look J.bx b with
  | none=>simp[hq] at hlk
  | some x=>
   simp only[hq,bC,R_] at hlk;subst hlk;have:=Fi hm;simp_all
 case hp=>
  intro m T' hlk;simp only[keepSt,St.zap,St.map,look] at hlk;by_cases hml:m=l
  .simp_all
  .have e0:(m==l)=false:=by simpa using hml
   simp only[e0,cD,aS] at hlk;simpa [hml] using h.hp m T' hlk
 case lt=>exact h.lt
 case os=>exact h.os
 case tape=>exact h.tape
 case output=>exact h.output
 case size=>exact h.size
 case keep=>exact h.keep.next fo (λg hg=>rfl) λg hg=>hg
 case fb=>exact h.fb
 case fl=>
  intro m v hm;obtain⟨h1,h2⟩:=h.fl m v hm;have hml:m≠l:=λe=>hl (by simpa [e] using h2)
  exact⟨by simp only[hml,aS];exact h1,h2⟩
 case nt=>exact h.nt
 case df=>exact h.df
def keep1 {t j l k lo n:Nat} {agg:Bool} {cs:List Cell} {T:Tree} (h:RG F G J a w) (ht:look J.tm t=some (.v agg cs)) (hj:cs[j]? = some (.sub l k lo n)) (hT:look J.hp l=some T) (hk:T.k=k) (hfl:l∉J.fl) (hle:lo+n<=T.n) :
 ∃ G',RG F G' (Pt (keepSt J l ⟨T.t,cut T.xs lo n⟩) t j l) a w:=by
 obtain⟨u,hu,hset⟩:=Wv (h.tm t _ ht) hj;have h1:u.oneCell'=true:=CellR.one hu;subst hk;have hto:=Wp (Lm (h.hp l T hT) hu hle) hle;rw[Cu ⟨T.t,cut T.xs lo n⟩] at hto;have h2:=h.keepT l ⟨T.t,cut T.xs lo n⟩ u hto hfl;have hlk:look (keepSt J l ⟨T.t,cut T.xs lo n⟩).tm t=some (.v agg (cs.map (·.zap (λm=>m==l) λ_=>false))):=by simp only[keepSt,St.zap,St.map];rw[A8 λx:TV=>x.zap (λm=>m==l) λ_=>false,ht];rfl
 refine⟨{ G with hv:=λm=>if m=l then u else G.hv m },?_⟩;unfold Pt;rw[hlk];refine RG.retell h2 ?_;exact hset { G with hv:=λm=>if m=l then u else G.hv m } _ (.ref l) (h2.tm t _ hlk) (by simp) ⟨by simp,h1⟩
def Ql:Nat->Nat->St->(St->Out)->Out
 | 0,_,J,K=>K J
 | m+1,t,J,K=>match look J.tm t with
  | some (.v agg cs)=>match Uq cs 0 with
   | some (j,l,k,lo,n)=>match look J.hp l with
    | some T=>bif decide (T.k=k) && !J.fl.contains l then .ob (lo+n<=T.n) (Ql m t (Pt (keepSt J l ⟨T.t,cut T.xs lo n⟩) t j l) K) else .bad
    | none=>.bad
   | none=>K J
  | _=>K J
def Yw:∀ (m t:Nat) (J:St) (G:Gh) (K:St->Out),RG F G J a w->(Ql m t J K).holds Q->∃ J' G',RG F G' J' a w/\(K J').holds Q:=by
 intro m
 induction m with
 | zero=>intro t J G K h hh;exact⟨J,G,h,hh⟩
 | succ m ih=>
  intro t J G K h hh;unfold Ql at hh;split at hh
  .rename_i agg cs ht;split at hh
   .rename_i j l k lo n hs;split at hh
    .rename_i T hT;cases hc:(decide (T.k=k) && !J.fl.contains l) with
     | false=>rw[hc,cF] at hh;exact hh.elim
     | true=>
      rw[hc,aX] at hh;simp only[T_,az,cO] at hc;obtain⟨hle,hh⟩:=hh;obtain⟨_,hj⟩:=MK hs;obtain⟨G',h'⟩:=keep1 h ht (by simpa using hj) hT hc.1 (by simpa using hc.2) hle;grind
    .exact hh.elim
   .exact⟨J,G,h,hh⟩
  .exact⟨J,G,h,hh⟩
def JE:List Md->List Operand->St->(St->Out)->Out
 | .give::ms,.tmp t::xs,J,K=>Ql 8 t J (λJ'=>JE ms xs J' K)
 | _::ms,_::xs,J,K=>JE ms xs J K
 | _,_,J,K=>K J
def YR:∀ (ms:List Md) (xs:List Operand) (J:St) (G:Gh) (K:St->Out),RG F G J a w->(JE ms xs J K).holds Q->∃ J' G',RG F G' J' a w/\(K J').holds Q:=by
 intro ms
 induction ms with
 | nil=>intro xs J G K h hh;exact⟨J,G,h,by simpa [JE] using hh⟩
 | cons m ms ih=>
  intro xs J G K h hh;cases xs with
  | nil=>exact⟨J,G,h,by cases m<;>simpa [JE] using hh⟩
  | cons x xs=>
   have rest:(JE ms xs J K).holds Q->∃ J' G',RG F G' J' a w/\(K J').holds Q:=λq=>ih xs J G K h q
   cases m<;>cases x<;>first|exact rest hh|skip
   obtain⟨J',G',h',hh'⟩:=Yw _ _ J G _ h hh;grind
end
end Go.D
namespace Go.D
section
variable {P:Program} {E:Env} {F:Fr P} {G:Gh} {J:St} {a:Act} {w w':World} {o:Oper} {K:St->Out} {Q:Post} {Qx:Exit->Act->World->Prop}
def ContC (cls:Bool) {P:Program} (F:Fr P) (G:Gh) (a:Act) (w:World) (d:Option Nat) (K:St->Out) (Q:Post):Act->World->Prop:=if cls then ContE F G a w d K Q else LK F K Q
def ContC.of {cls:Bool} {d:Option Nat} {a':Act} {w':World} (h:ContE F G a w d K Q a' w'):ContC cls F G a w d K Q a' w':=by
 cases cls
 .exact h.cont
 .exact h
def CX {cls:Bool} {d:Option Nat} (h:o.wp P a w (ContE F G a w d K Q) Qx):o.wp P a w (ContC cls F G a w d K Q) Qx:=Oper.wp_mono (λ_ _ h=>ContC.of h) h
def UR {cls:Bool} {ms:List Md} {g:Giv} {p:Pst} {v:Value} {Fs:Pl->Nat->Prop} (h:RG F G J a w) (hng:AQ (g.gv.map (·.1))=true) (hbs:AQ (g.bs.map (·.1))=true) (hgb:AQ g.gb=true) (ho:Onward w w')
 (hfree:∀ b,(gc w G g).ow b=.free->w'.heap[b]? = w.heap[b]?) (hcur:∀ b,(gc w G g).ow b=.cur->CurStep w w' b) (hp:PstF w (gc w G g) w' v p Fs) (hcls:cls=true->g.gl=[]/\g.gb=[]/\o.dst.isSome=true) (hh:(IS o J ms g K p).holds Q):ContC cls F G a w o.dst K Q (a.put o.dst v) w':=by
 unfold IS at hh;split at hh
 .rename_i J' x hk;obtain⟨G',k1,k2,k3⟩:=RQ h hng hbs hgb ho hfree hcur hp hk;have main:∀ J'',RG F G' J'' (a.put o.dst v) w'->(K J'').holds Q->ContC cls F G a w o.dst K Q (a.put o.dst v) w':=by
   intro J'' h2 hh2;cases cls with
   | false=>exact⟨J'',⟨G',h2⟩,hh2⟩
   | true=>
    obtain⟨e1,e2,e3⟩:=hcls rfl;obtain⟨k4,k5,k6⟩:=k3 e1 e2;refine⟨J'',G',h2,hh2,⟨v,rfl⟩,ho,λb hb=>?_,k4,λb _=>by rw[k5],λl hl=>k6 l ?_⟩
    .have hbs0:g.bs=[]:=by simpa [Giv.gb] using e2
     by_cases hc:G.ow b=.cur
     .exact .inr ⟨hc,hcur b (by simp only[gc,hb,aD,hc,RM])⟩
     .exact .inl (hfree b (Vd hb hc (λm _=>by simp[e1]) λm _=>by simp[e2]))
    .cases hd:o.dst with
     | none=>
      simp[hd] at e3
     | some d0=>simpa [AbS,hd] using hl d0 hd
  cases hd:o.dst with
  | none=>
   rw[hd] at hh;rw[hd] at main;exact main J' k1 hh
  | some d=>
   rw[hd] at hh;dsimp only at hh;cases hlt:decide (d<J.nt) with
   | false=>simp[hlt,Out.holds] at hh
   | true=>
    simp only[hlt,aX] at hh;rw[hd] at main;have hnt:J'.nt=J.nt:=by have h1:=k1.nt;rw[h.nt] at h1;exact h1.symm
    exact main _ (k1.put (by rw[hnt];exact ee hlt) k2) hh
 .exact hh.elim
def PU {cls:Bool} {f:Nat} {xs:List (List (Option Ty)×TV)} {vs:Array Value} (hE:EOk P E) (h:RG F G J a w) (hsz:vs.size=xs.length) (hx:∀ (j:Nat) (kx:List (Option Ty)×TV),xs[j]? = some kx->∃ v,vs[j]? = some v/\TVR w G kx.2 v)
 (he:(execOp a.eval o).run P w=(callFunc f vs).run P w) (hh:(ZA P E cls o f xs J K).holds Q):o.wp P a w (ContC cls F G a w o.dst K Q) Qx:=by
 unfold ZA at hh;split at hh
 .rename_i ms sp fn hg hfn
  cases hc:(fn.body.isSome && !(fn.name == "runtime.NumGoroutine")) with
  | false=>simp[hc,Out.holds] at hh
  | true=>
   simp only[hc,aX] at hh;simp only[T_,cO] at hc;obtain⟨hbody,hname⟩:=hc;split at hh
   .rename_i p A g hl;cases hcl:(cls && !(g.gl.isEmpty&&g.gb.isEmpty&&o.dst.isSome)) with
    | true=>rw[hcl,aX] at hh;exact hh.elim
    | false=>
     rw[hcl,cF] at hh;have hcls:cls=true->g.gl=[]/\g.gb=[]/\o.dst.isSome=true:=by intro e;rw[e] at hcl;simpa [and_assoc] using hcl
     have hrun:(execOp a.eval o).run P w=.ok (.enter f vs) w:=by
      rw[he];obtain⟨cb,hb2⟩:=Option.isSome_iff_exists.1 hbody
      have hn2:¬ fn.name = "runtime.NumGoroutine":=by simpa using hname
      simp[callFunc,hfn,hb2,hn2]
     have main:∀ (c:Ctr),sp A=some c->(∀ q∈p,q)->(∀ q∈c.pre,q)->(∀ r,c.sat r->(IS o J ms g K r).holds Q)->o.wp P a w (ContC cls F G a w o.dst K Q) Qx:=by
      intro c hsp hp hq hr;obtain⟨l1,_,l3,l4,l5,l6,_,l7⟩:=Vq (vs:=vs) h hl hp (by simp[hsz]) (λj x hj=>by
       rw[cz,List.getElem?_zipIdx] at hj;cases hq2:xs[j]? with
       | none=>simp[hq2] at hj
       | some kx=>
        simp only[hq2,bC,R_] at hj;subst hj;exact hx j kx hq2)
      unfold Oper.wp;rw[hrun,Oper.upon_enter];refine((hE f ms sp hg).1 A c hsp hq w vs _ (Aiv g h.base) l1).mono ?_;rintro e w' ⟨v,r,hsat,rfl,ho,hs,hcu,Fs,hpf⟩;exact UR h l3 l5 l6 ho hs hcu hpf hcls (hr r hsat)
     split at hh
     .rename_i q r hsp;obtain⟨hp,hh⟩:=Dz hh;obtain⟨hq,hh⟩:=Dz hh;exact main _ hsp hp hq λr' (hr:r'=r)=>hr▸hh
     .rename_i q X ok r hsp;obtain⟨hp,hh⟩:=Dz hh;obtain⟨hq,_,hh⟩:=Dz hh;exact main _ hsp hp hq λr' ⟨x,hx,hr⟩=>hr▸hh x hx
     .rename_i q X e r hsp;obtain⟨hp,hh⟩:=Dz hh;obtain⟨hq,hh⟩:=Dz hh;exact main _ hsp hp hq λr' (hr:r'=r e)=>hr▸hh
     .exact hh.elim
   .exact hh.elim
 .exact hh.elim
def NT:List TV->Option (List Value)
 | []=>some []
 | x::xs=>match x.scal,NT xs with
  | some v,some vs=>some (v::vs)
  | _,_=>none
def AlR (P:Program) (o:Oper) (b:Builtin) (tys:Array TypeId) (args:List Operand) (J:St) (K:St->Out):Out :=
 match NT (args.map J.eval) with
 | some us=>match b with
  | .max=>MU P o (Builtin.max_ tys o.type us.toArray) J K
  | .min=>MU P o (Builtin.min_ tys o.type us.toArray) J K
  | _=>.bad
 | none=>.bad
def YB (h:RG F G J a w):∀ (args:List Operand) (us:List Value),NT (args.map J.eval)=some us->args.map a.eval=us:=by
 intro args
 induction args with
 | nil=>intro us hu;simp only[List.map_nil,NT,R_] at hu;exact hu
 | cons x xs ih=>
  intro us hu;simp only[aY,NT] at hu;split at hu
  .rename_i v vs hv hvs;simp only[R_] at hu;subst hu;rw[aY,ih vs hvs,(C9 (Aw h x) hv).1]
  .simp at hu
def H5 (P:Program) (ty:TypeId->Option Ty) (J:St):List Operand->List TypeId->List (List (Option Ty)×TV)
 | [],_=>[]
 | x::xs,ts=>(Aas P ty 8 (ts.headD 0),J.eval x)::H5 P ty J xs ts.tail
def N1 {ty:TypeId->Option Ty} (h:RG F G J a w):∀ (xs:List Operand) (ts:List TypeId),(H5 P ty J xs ts).length=xs.length/\∀ (j:Nat) (kx:List (Option Ty)×TV),(H5 P ty J xs ts)[j]? = some kx->∃ v,(xs.map a.eval)[j]? = some v/\TVR w G kx.2 v:=by
 intro xs
 induction xs with
 | nil=>intro ts;simp[H5]
 | cons x xs ih=>
  intro ts;obtain⟨h1,h2⟩:=ih ts.tail;refine⟨by simp[H5,h1],λj kx hj=>?_⟩;cases j with
  | zero=>simp only[H5,List.getElem?_cons_zero,R_] at hj;subst hj;exact⟨_,rfl,Aw h x⟩
  | succ j=>simpa using h2 j kx (by simpa [H5] using hj)
def keeps (ms:List Md):Bool:=match ms with
 | .keep::_=>true
 | _=>false
def Ig (o:Oper):Nat:=64*o.dst.getD 0+63
def Aer (P:Program) (E:Env) (o:Oper) (g l k e j:Nat) (args:List Operand) (tys:List TypeId) (J:St) (K:St->Out):Out :=
 match look J.hp l with
 | some T=>match cell T.t T.xs e j with
  | .l t xs=>bif decide (T.k=k)&&decide (Ig o≠l) && !J.fl.contains (Ig o) then
   ZA P E false o g ((Aas P E.ty 8 (tys.headD 0),.v false [.ref (Ig o)])::H5 P E.ty (OF J l (Ig o) t xs) args tys.tail) (OF J l (Ig o) t xs) (λJ'=>
    match look J'.hp (Ig o) with
    | some ⟨t',ys⟩=>bif (dec T.t (G5 (enc T.t (T.xs.getD e default)) j [.l t' ys])).isSome&&decide (t'=t) then .lt (List (El T.t)) (T.xs.modify e (upd T.t j [.l t' ys])) λzs=>K (OW J' J.fl l (Ig o) ⟨T.t,zs⟩) else .bad
    | none=>.bad)
   else .bad
  | _=>.bad
 | none=>.bad
def Ab0 {g l k e j:Nat} {t0:Ty} {xs0:List (El t0)} {args:List Operand} {tys:List TypeId} {v:Value} (hE:EOk P E) (h:RG F G J a w) (hx:TVR w G (.inn l k e j t0 xs0) v)
 (he:(execOp a.eval o).run P w=(callFunc g (v::args.map a.eval).toArray).run P w) (hh:(Aer P E o g l k e j args tys J K).holds Q):o.wp P a w (LK F K Q) Qx:=by
 unfold Aer at hh;split at hh
 .rename_i T hT;split at hh
  .rename_i t xs hcell;cases hc:(decide (T.k=k)&&decide (Ig o≠l) && !J.fl.contains (Ig o)) with
   | false=>rw[hc,cF] at hh;exact hh.elim
   | true=>
    simp only[hc,aX] at hh;simp only[T_,az,cO] at hc;obtain⟨⟨hk,hne⟩,hfl⟩:=hc;have hfl:Ig o∉J.fl:=by simpa using hfl
    obtain⟨g0,o0,cap,row,ety,GG,hI⟩:=Ag7 h hT hk hx;obtain⟨G1,hG⟩:=Vb G (GG e j) l (Ig o) v;have h1:=N5 h hT hI hcell hne hfl hG (hG.base h.base λb hb=>(hI.sub e hI.he j hI.hj b hb).1);obtain⟨a1,a2⟩:=N1 (P:=P) (ty:=E.ty) h1 args tys.tail;have:=PU (vs:=(v::args.map a.eval).toArray) (Qx:=Qx) hE h1 (by simp[a1]) (λjj kx hj=>by
     cases jj with
     | zero=>
      simp only[List.getElem?_cons_zero,R_] at hj;subst hj;refine⟨v,by simp,_,rfl,?_,?_⟩
      .rw[hG.hv,G_ rfl]
      .obtain⟨u,hu,ht⟩:=hI.cells e hI.he j hI.hj;rw[hI.at_] at hu;injection hu with hu
       subst hu;exact TR.one ht.read
     | succ jj=>
      obtain⟨u,hu,ht⟩:=a2 jj kx (by simpa using hj);exact⟨u,by simpa using hu,ht⟩) he hh
    refine Oper.wp_mono ?_ this;rintro a' w' ⟨J',⟨G',h'⟩,hh'⟩;dsimp only at hh';split at hh'
    .rename_i t' ys hl;cases hc2:((dec T.t (G5 (enc T.t (T.xs.getD e default)) j [.l t' ys])).isSome&&decide (t'=t)) with
     | false=>rw[hc2,cF] at hh';exact hh'.elim
     | true=>
      simp only[hc2,aX] at hh';simp only[T_,az] at hc2;obtain⟨hd,rfl⟩:=hc2;obtain⟨G2,h2,_⟩:=Xc h hI hne hfl hG h' hl hd;exact⟨_,⟨G2,h2⟩,hh'⟩
    .exact hh'.elim
  .exact hh.elim
 .exact hh.elim
def Aem (P:Program) (E:Env) (cls:Bool) (o:Oper) (c:Call) (J:St) (K:St->Out):Out :=
 match c.callee,c.args.toList,c.argTypes.toList with
 | .builtin .len,[x],[T]=>Ah7 P o T x J K
 | .builtin .append,[s,x],[T,T']=>bif T==T' then(bif cls then UM P E.ty o T s x J K else(match J.eval s,J.eval x with
  | .v false [.sub l k lo m],.v false [.sub l2 k2 lo2 m2]=>bif l==l2 then VG P o T l k lo m k2 lo2 m2 J K else Kq P E.ty o T s x J K
  | _,_=>AdW P E.ty o T s x J K)) else .bad
 | .builtin .clear,[x],[T]=>bif cls then .bad else Vu P o T x J K
 | .builtin b,args,_=>AlR P o b c.argTypes args J K
 | .value f,args,tys=>match J.eval f with
  | .clo g caps=>match cls,args,caps,E.fn g with
   | false,.tmp t::rest,[],some (ms,sp)=>match keeps ms,J.get t with
    | true,.inn l k e j _ _=>Aer P E o g l k e j rest tys J K
    | _,_=>bif K3 ms&&rest.isEmpty then Ai1 P o g t J K else JE ms args J λJ'=>ZA P E false o g (H5 P E.ty J' args tys++([]:List Cap).map λc=>([],AfG c)) J' K
   | _,_,_,_=>ZA P E cls o g (H5 P E.ty J args tys++caps.map λc=>([],AfG c)) J K
  | _=>.bad
 | _,_,_=>.bad
def AbA {cls:Bool} {c:Call} (hE:EOk P E) (h:RG F G J a w) (ho:o.op=.call c) (hh:(Aem P E cls o c J K).holds Q):o.wp P a w (ContC cls F G a w o.dst K Q) Qx:=by
 obtain⟨callee,args,tys⟩:=c;unfold Aem at hh;dsimp only at hh;split at hh
 .rename_i x T h1 h2;have e1:args = #[x]:=by simpa using cG List.toArray h1
  have e2:tys = #[T]:=by simpa using cG List.toArray h2
  subst e1;subst e2;exact CX (Af6 h ho hh)
 .rename_i s x T T' h1 h2;have e1:args = #[s,x]:=by simpa using cG List.toArray h1
  have e2:tys = #[T,T']:=by simpa using cG List.toArray h2
  subst e1;subst e2;cases hc:(T==T') with
  | false=>simp[hc,Out.holds] at hh
  | true=>
   simp only[hc,aX] at hh;rw[da] at hc;subst hc;cases cls with
   | true=>exact CX (YW (ty:=E.ty) h ho hh)
   | false=>
    simp only[cF] at hh;split at hh
    .rename_i l k lo m l2 k2 lo2 m2 hs2 hx2;cases he:(l==l2) with
     | false=>rw[he,cF] at hh;exact JQ (ty:=E.ty) h ho hh
     | true=>
      rw[he,aX] at hh;have he':l=l2:=by simpa using he
      subst he';exact Yu h ho hs2 hx2 hh
    .exact AaS (ty:=E.ty) h ho hh
 .rename_i x T h1 h2;have e1:args = #[x]:=by simpa using cG List.toArray h1
  have e2:tys = #[T]:=by simpa using cG List.toArray h2
  subst e1;subst e2;cases cls with
  | true=>exact hh.elim
  | false=>exact X8 h ho hh
 .rename_i b _ _ _ _;unfold AlR at hh;split at hh
  .rename_i us hus;have e1:=YB h args.toList us hus;have e2:args.map a.eval=us.toArray:=by rw[<-e1];apply Array.ext';simp
   split at hh
   .exact CX (Ii h hh (by simp[execOp,ho,resolve,invoke,builtin,e2]))
   .exact CX (Ii h hh (by simp[execOp,ho,resolve,invoke,builtin,e2]))
   .exact hh.elim
  .exact hh.elim
 .rename_i f;split at hh
  .rename_i g caps hf;have hfv:=Aw h f;rw[hf] at hfv;obtain⟨cv,hcv,hcs,hcc⟩:=hfv;have gen:∀ cls,(ZA P E cls o g (H5 P E.ty J args.toList tys.toList++caps.map λc=>([],AfG c)) J K).holds Q->o.wp P a w (ContC cls F G a w o.dst K Q) Qx:=by
    intro cls hh;obtain⟨h1,h2⟩:=N1 (P:=P) (ty:=E.ty) h args.toList tys.toList;refine PU (vs:=args.map a.eval++cv) hE h ?_ ?_ ?_ hh
    .simp only[Array.size_append,Array.size_map,hcs,al,h1,cE,fp]
    .intro j kx hj;by_cases hlt:j<args.size
     .rw[cN (by rw[h1];simpa using hlt)] at hj;obtain⟨v,hv,ht⟩:=h2 j kx hj;refine⟨v,?_,ht⟩;rw[Array.getElem?_append_left (by simpa using hlt)];simpa using hv
     .rw[cX (by rw[h1];simp;omega),h1,cz,fp] at hj;cases hq:caps[j-args.size]? with
      | none=>simp[hq] at hj
      | some c0=>
       simp only[hq,bC,R_] at hj;subst hj;obtain⟨u,hu,hr⟩:=hcc _ c0 hq;refine⟨u,?_,AeE hr⟩;rw[Array.getElem?_append_right (by simp;omega)];simpa using hu
    .simp[execOp,ho,resolve,Deferred.ofValue,hcv,invoke]
   split at hh
   .rename_i _ _ _ _ t rest ms sp hargs hfn;split at hh
    .rename_i l k e j t0 xs0 hkeep hinn;have hx:=Hg h t;rw[hinn] at hx;have hcv0:cv = #[]:=by
      have:cv.size=0:=by simpa using hcs
      exact Array.eq_empty_of_size_eq_zero this
     subst hcv0;have e1:args.map a.eval=(a.tmps.getD t undef::rest.map a.eval).toArray:=by apply Array.ext';rw[Array.toList_map,hargs];rfl
     exact Ab0 hE h hx (by simp[execOp,ho,resolve,Deferred.ofValue,hcv,invoke,e1]) hh
    .cases hnw:(K3 ms&&rest.isEmpty) with
     | false=>
      rw[hnw,cF] at hh;obtain⟨J',G',h',hh'⟩:=YR _ _ J G _ h hh;have hcv0:cv = #[]:=by
       have:cv.size=0:=by simpa using hcs
       exact Array.eq_empty_of_size_eq_zero this
      subst hcv0;obtain⟨h1,h2⟩:=N1 (P:=P) (ty:=E.ty) h' args.toList tys.toList;refine Oper.wp_mono (λ_ _ q=>q) (PU (G:=G') (cls:=false) (vs:=args.map a.eval ++ #[]) hE h' ?_ ?_ ?_ hh')
      .simp[h1]
      .intro j kx hj;obtain⟨v,hv,ht⟩:=h2 j kx (by simpa using hj);exact⟨v,by simpa using hv,ht⟩
      .simp[execOp,ho,resolve,Deferred.ofValue,hcv,invoke]
     | true=>
      rw[hnw,aX] at hh;rw[T_] at hnw;have hr:rest=[]:=by simpa using hnw.2
      subst hr;have hcv0:cv = #[]:=by
       have:cv.size=0:=by simpa using hcs
       exact Array.eq_empty_of_size_eq_zero this
      subst hcv0;have e1:args.map a.eval = #[a.eval (.tmp t)]:=by apply Array.ext';rw[Array.toList_map,hargs];rfl
      exact Agf h ((hE g ms sp hfn).2 hnw.1) (by simp[execOp,ho,resolve,Deferred.ofValue,hcv,invoke,e1]) hh
   .exact gen _ hh
  .exact hh.elim
 .exact hh.elim
def step (P:Program) (E:Env) (cls:Bool) (o:Oper) (J:St) (K:St->Out):Out :=
 match o.op with
 | .move x=>AcF o x J K
 | .assign x=>AcF o x J K
 | .pick c x y=>Ag5 o c x y J K
 | .alloc T=>TU P o T J K
 | .box _ x=>Aii o x J K
 | .build T ps=>Un P o T ps J K
 | .buildSlice T n ps=>bif ZK P cls T n ps J then IA P E.ty cls o T n ps J K else AjG P E.ty o T n ps J (λJ'=>K (bif cls then J' else J'.lits))
 | .load T x=>Aar P o T x J K
 | .store T p x=>bif !cls&&o.dst.isNone then Q1 P o T p x J K else .bad
 | .nilCheck x=>Ad9 o x J K
 | .binOp op T x y _=>AiU P o op T x y J K
 | .unOp op _ x=>AmD P o op x J K
 | .convert S T x=>bif Amf P S T then Am9 o x J K else Ub P o S T x J K
 | .makeFunc fn first captured=>Ly o fn first captured J K
 | .makeSlice T l c=>AbQ P E.ty o T l c J K
 | .slice T x lo hi mx=>VO P o T x lo hi mx J K
 | .fieldAddr T x j=>Aef P o T x j J K
 | .indexAddr T x i=>Ac3 P o T x i J K
 | .index T x i=>match P.underlying T with
  | some .string=>Rc o x i J K
  | _=>.bad
 | .extract x ix=>Ob o x ix J K
 | .call c=>Aem P E cls o c J K
 | _=>.bad
def Q3 {cls:Bool} (hE:EOk P E) (h:RG F G J a w) (hh:(step P E cls o J K).holds Q):o.wp P a w (ContC cls F G a w o.dst K Q) Qx:=by
 unfold step at hh;split at hh
 .exact CX (R0 h (.inl ‹_›) hh)
 .exact CX (R0 h (.inr ‹_›) hh)
 .exact CX (Ad0 h ‹_› hh)
 .exact CX (ZC h ‹_› hh)
 .exact CX (Afp h ‹_› hh)
 .exact CX (XY h ‹_› hh)
 .rename_i T n ps hop;cases hf:ZK P cls T n ps J with
  | true=>
   rw[hf,aX] at hh;have:=L6 (Qx:=Qx) h hop hh;cases cls with
   | false=>simpa [ContC] using this
   | true=>simpa [ContC] using this
  | false=>
   rw[hf,cF] at hh;have:=Agh (Qx:=Qx) h hop hh;cases cls with
   | true=>exact CX this
   | false=>
    refine Oper.wp_mono (λa' w' h'=>?_) this;obtain⟨J',⟨G',hG'⟩,hh'⟩:=h'.cont;exact⟨_,Uf hG',hh'⟩
 .exact CX (Ada h ‹_› hh)
 .rename_i T p x hop;cases hc:(!cls&&o.dst.isNone) with
  | false=>simp[hc,Out.holds] at hh
  | true=>
   simp only[hc,aX] at hh;simp only[T_,cO,Option.isNone_iff_eq_none] at hc;obtain⟨rfl,hd⟩:=hc;exact TI h hop hd hh
 .exact CX (Aaq h ‹_› hh)
 .exact CX (Agr h ‹_› hh)
 .exact CX (Ajf h ‹_› hh)
 .rename_i S T x hop;cases hb:Amf P S T with
  | true=>rw[hb,aX] at hh;exact CX (AiS h hop hb hh)
  | false=>rw[hb,cF] at hh;exact CX (Zr h hop hh)
 .exact CX (PF h ‹_› hh)
 .exact CX (Aeg h ‹_› hh)
 .exact CX (YA h ‹_› hh)
 .exact CX (AdL h ‹_› hh)
 .exact CX (Acw h ‹_› hh)
 .split at hh
  .exact CX (UW h ‹_› ‹_› hh)
  .exact hh.elim
 .exact CX (SP h ‹_› hh)
 .exact AbA hE h ‹_› hh
 .exact hh.elim
end
end Go.D
namespace Go.D
def Out.bind:Out->(St->Out)->Out
 | .st .normal J,f=>f J
 | .br b x y,f=>.br b (x.bind f) (y.bind f)
 | .ob p x,f=>.ob p (x.bind f)
 | .lt X e x,f=>.lt X e λy=>(x y).bind f
 | _,_=>.bad
def is1 (J':St):Post:=⟨λ_ _ _=>False,λe J=>e=.normal/\J=J'⟩
def Out.bind_holds {Q:Post} {f:St->Out}:∀ {x:Out},(x.bind f).holds Q->∃ J',x.holds (is1 J')/\(f J').holds Q:=by
 intro x
 induction x with
 | leaf r bx hp=>intro h;exact h.elim
 | st e J=>
  intro h;cases e with
  | normal=>exact⟨J,⟨rfl,rfl⟩,h⟩
  | exit id=>exact h.elim
  | ret=>exact h.elim
 | br b x y ihx ihy=>
  intro h;cases b with
  | true=>obtain⟨J',h1,h2⟩:=ihx (h.1 rfl);exact⟨J',⟨λ_=>h1,λh=>by simp at h⟩,h2⟩
  | false=>obtain⟨J',h1,h2⟩:=ihy (h.2 rfl);exact⟨J',⟨λh=>by simp at h,λ_=>h1⟩,h2⟩
 | ob p x ih=>intro h;obtain⟨J',h1,h2⟩:=ih h.2;exact⟨J',⟨h.1,h1⟩,h2⟩
 | lp X p inv x ih=>intro h;exact h.elim
 | lt X e x ih=>intro h;exact ih e h
 | ok=>intro h;exact h.elim
 | bad=>intro h;exact h.elim
def Out.bindL:Out->(St->Out)->Out
 | .st .normal J,f=>f J
 | .br b x y,f=>.br b (x.bindL f) (y.bindL f)
 | .ob p x,f=>.ob p (x.bindL f)
 | .lt X e x,f=>.lt X e λy=>(x y).bindL f
 | .lp X p inv x,f=>.lp X p inv λy=>(x y).bindL f
 | _,_=>.bad
def behind (Q:Post) (f:St->Out):Post:=⟨λ_ _ _=>False,λe J=>e=.normal/\(f J).holds Q⟩
def Out.bindL_holds {Q:Post} {f:St->Out}:∀ {x:Out},(x.bindL f).holds Q->x.holds (behind Q f):=by
 intro x
 induction x with
 | leaf r bx hp=>intro h;exact h.elim
 | st e J=>
  intro h;cases e with
  | normal=>exact⟨rfl,h⟩
  | exit id=>exact h.elim
  | ret=>exact h.elim
 | br b x y ihx ihy=>intro h;exact⟨λe=>ihx (h.1 e),λe=>ihy (h.2 e)⟩
 | ob p x ih=>intro h;exact⟨h.1,ih h.2⟩
 | lp X p inv x ih=>intro h;exact⟨h.1,λy hy=>ih y (h.2 y hy)⟩
 | lt X e x ih=>intro h;exact ih e h
 | ok=>intro h;exact h.elim
 | bad=>intro h;exact h.elim
def guarded (ops:Array Oper) (o:Oper) (J v:St) (yes no:St->Out):Out :=
 match o.guard with
 | none=>yes J
 | some (j,want)=>match (ops[j]?).bind (·.dst) with
  | some t=>match v.get t with
   | .v false [.tt]=>bif want then yes J else no J
   | .v false [.ff]=>bif want then no J else yes J
   | .v false [.sc (.bool b)]=>.br b
    (bif want then yes (J.put t (.v false [.tt])) else no (J.put t (.v false [.tt])))
    (bif want then no (J.put t (.v false [.ff])) else yes (J.put t (.v false [.ff])))
   | .tup []=>no J
   | _=>.bad
  | none=>.bad
def skp:TV:=.tup []
def YN (P:Program) (E:Env) (ops:Array Oper):List Nat->St->(St->Out)->Out
 | [],J,K=>K J
 | i::rest,J,K=>match ops[i]? with
  | none=>YN P E ops rest J K
  | some o=>guarded ops o J J (λJ=>step P E false o J λJ'=>YN P E ops rest J' K) (λJ=>YN P E ops rest (J.setTm o.dst skp) K)
section
variable {P:Program} {E:Env} {F:Fr P} {G:Gh} {J:St} {a:Act} {w:World} {o:Oper} {K:St->Out} {Q:Post} {Qx:Exit->Act->World->Prop}
def RG.dead (h:RG F G J a w) (d:Option Nat) (v:Value):RG F G (J.setTm d .dead) (a.put d v) w:=by
 cases d with
 | none=>exact h
 | some d=>
  refine⟨?_,h.bx,h.hp,h.lt,h.os,h.tape,h.output,h.size,h.keep,h.fb,h.fl,by simpa [Act.put,St.setTm,St.put] using h.nt,h.df⟩;intro t tv hl;simp only[St.setTm,St.put,DI] at hl;by_cases ht:t=d
  .simp only[ht,aD,R_] at hl;subst hl;trivial
  .simp only[ht,aS] at hl;have:=h.tm t tv hl;simpa [Act.put,Array.getElem?_setIfInBounds_ne (Ne.symm ht)] using this
def RG.skip (h:RG F G J a w) (d:Option Nat):RG F G (J.setTm d skp) (a.put d undef) w:=by
 cases d with
 | none=>exact h
 | some d=>
  refine⟨?_,h.bx,h.hp,h.lt,h.os,h.tape,h.output,h.size,h.keep,h.fb,h.fl,by simpa [Act.put,St.setTm,St.put] using h.nt,h.df⟩;intro t tv hl;simp only[St.setTm,St.put,DI] at hl;by_cases ht:t=d
  .simp only[ht,aD,R_] at hl;subst hl;refine⟨#[],?_,rfl,λj p hj=>by simp at hj⟩;subst ht;simp only[Act.put,Array.getD_eq_getD_getElem?,Array.getElem?_setIfInBounds];split
   .split<;>simp[undef]
   .simp_all
  .simp only[ht,aS] at hl;have:=h.tm t tv hl;simpa [Act.put,Array.getElem?_setIfInBounds_ne (Ne.symm ht)] using this
def OK (h:RG F G J a w) (t:Nat):TVR w G (J.get t) (a.tmps.getD t undef):=Hg h t
def Yn {ops:Array Oper} {j t:Nat} {b:Bool} (hj:(ops[j]?).bind (·.dst)=some t) (hv:a.tmps.getD t undef=.bool b):yielded ops a.tmps j=some b:=by
 unfold yielded;rw[hj];simp only[Option.bind_some];rw[Array.getD_eq_getD_getElem?] at hv;cases hq:a.tmps[t]? with
 | none=>rw[hq] at hv;simp[undef] at hv
 | some v=>rw[hq] at hv;simp only[Option.getD_some] at hv;subst hv;rfl
def BoolIs (x:TV) (b:Bool):Prop:=x=.v false [.sc (.bool b)]\/x=.v false [if b then .tt else .ff]
def BoolIs.val {x:TV} {b:Bool} {v:Value} (h:BoolIs x b) (hx:TVR w G x v):v=.bool b:=by
 rcases h with rfl|rfl
 .obtain⟨c,hc,h⟩:=hx;injection hc with hc;subst hc;exact h.1
 .obtain⟨c,hc,h⟩:=hx;injection hc with hc;subst hc;cases b<;>exact h
def BoolIs.mk {x:TV} {b:Bool} (h:BoolIs x b):TVR w G x (.bool b):=by
 rcases h with rfl|rfl
 .exact⟨_,rfl,rfl,rfl⟩
 .exact⟨_,rfl,by cases b<;>rfl⟩
def GuardIs (ops:Array Oper) (o:Oper) (J v σr:St) (wanted:Bool):Prop :=
 (o.guard=none/\wanted=true/\σr=J)\/(∃ j want t b,o.guard=some (j,want)/\(ops[j]?).bind (·.dst)=some t/\BoolIs (v.get t) b/\wanted=(b==want)/\(σr=J\/σr=J.put t (.v false [if b then .tt else .ff]))) \/
 ∃ j want t,o.guard=some (j,want)/\(ops[j]?).bind (·.dst)=some t/\v.get t=.tup []/\wanted=false/\σr=J
def FL {ops:Array Oper} {v:St} {yes no:St->Out} (h:(guarded ops o J v yes no).holds Q):∃ σr wanted,GuardIs ops o J v σr wanted/\((if wanted then yes σr else no σr).holds Q):=by
 unfold guarded at h;split at h
 .rename_i hg;exact⟨J,true,.inl ⟨hg,rfl,rfl⟩,h⟩
 .rename_i j want hg;split at h
  .rename_i t hj;split at h
   .rename_i he;refine⟨J,true==want,.inr (.inl ⟨j,want,t,true,hg,hj,.inr he,rfl,.inl rfl⟩),?_⟩;grind
   .rename_i he;refine⟨J,false==want,.inr (.inl ⟨j,want,t,false,hg,hj,.inr he,rfl,.inl rfl⟩),?_⟩;grind
   .rename_i b he;cases b with
    | true=>
     have h:=h.1 rfl;refine⟨_,true==want,.inr (.inl ⟨j,want,t,true,hg,hj,.inl he,rfl,.inr rfl⟩),?_⟩;grind
    | false=>
     have h:=h.2 rfl;refine⟨_,false==want,.inr (.inl ⟨j,want,t,false,hg,hj,.inl he,rfl,.inr rfl⟩),?_⟩;grind
   .rename_i he;exact⟨J,false,.inr (.inr ⟨j,want,t,hg,hj,he,rfl,rfl⟩),by simpa using h⟩
   .exact h.elim
  .exact h.elim
def GuardIs.wanted_ok {ops:Array Oper} {v σr:St} {wanted:Bool} (hg:GuardIs ops o J v σr wanted) (h:RG F G v a w):Region.wanted o (yielded ops a.tmps)=wanted:=by
 rcases hg with⟨h1,rfl,_⟩|⟨j,want,t,b,h1,h2,h3,rfl,_⟩|⟨j,want,t,h1,h2,h3,rfl,_⟩
 .simp[Region.wanted,h1]
 .have hv:=h3.val (OK h t);simp only[Region.wanted,h1,Yn h2 hv];rfl
 .have hv:=OK h t;rw[h3] at hv;obtain⟨vs,hv,_⟩:=hv;have hy:yielded ops a.tmps j=none:=by unfold yielded;rw[h2];simp only[Option.bind_some];rw[Array.getD_eq_getD_getElem?] at hv;grind
  simp only[Region.wanted,h1,hy];rfl
def GuardIs.retold {ops:Array Oper} {v σr:St} {wanted:Bool} (hg:GuardIs ops o J v σr wanted) (hv:RG F G v a w) (h:RG F G J a w):RG F G σr a w:=by
 rcases hg with⟨_,_,rfl⟩|⟨j,want,t,b,_,_,h3,_,rfl|rfl⟩|⟨j,want,t,_,_,_,_,rfl⟩
 .exact h
 .exact h
 .refine h.retell ?_;rw[h3.val (OK hv t)];exact(BoolIs.mk (.inr rfl))
 .exact h
def AfE (hE:EOk P E) {ops:Array Oper}:∀ (l:List Nat) (J:St) (G:Gh) (a:Act) (w:World),RG F G J a w->(YN P E ops l J K).holds Q ->
 wpOps P ops (λe a w=>e=.normal/\LK F K Q a w) l a w:=by
 intro l
 induction l with
 | nil=>intro J G a w h hh;exact⟨rfl,_,⟨G,h⟩,hh⟩
 | cons i rest ih=>
  intro J G a w h hh;simp only[wpOps];simp only[YN] at hh;cases ho:ops[i]? with
  | none=>simp only[ho] at hh ⊢;exact ih J G a w h hh
  | some o=>
   simp only[ho] at hh ⊢;obtain⟨σr,wanted,hg,hh⟩:=FL hh;rw[hg.wanted_ok h];have hr:=hg.retold h h;cases wanted with
   | true=>
    simp only[aD] at hh ⊢;exact .inl (Oper.wp_mono (λa1 w1 ⟨σ1,⟨G1,h1⟩,hh1⟩=>ih σ1 G1 a1 w1 h1 hh1) (Q3 (cls:=false) hE hr hh))
   | false=>
    simp only[cD,aS] at hh ⊢;exact ih _ G _ w (hr.skip o.dst) hh
end
end Go.D
namespace Go.D
def RA (o:Oper):List Nat:=(o.after.toList.filter (Region.binds .any)).map (·.on)
def LJ (acc:List Nat) (ds:List Nat):Nat:=ds.foldr (λj s=>s ||| 2 ^ j ||| acc.getD j 0) 0
def Ee:List Oper->List Nat->List Nat
 | [],acc=>acc
 | o::os,acc=>Ee os (acc++[LJ acc (RA o)])
def Zc {acc ds:List Nat} {j:Nat} (h:(LJ acc ds).testBit j=true):∃ e∈ds,j=e\/(acc.getD e 0).testBit j=true:=by
 induction ds with
 | nil=>simp[LJ] at h
 | cons d ds ih=>
  simp only[LJ,List.foldr_cons,Nat.testBit_or,dt] at h;rcases h with(h|h)|h
  .obtain⟨e,he,hh⟩:=ih h;exact⟨e,by simp[he],hh⟩
  .grind
  .simp_all
def NC:∀ (os:List Oper) (acc:List Nat),(∀ i,i<acc.length->(Ee os acc)[i]? = acc[i]?)/\(Ee os acc).length=acc.length+os.length /\
 ∀ i o,os[i]? = some o->∀ j,((Ee os acc).getD (acc.length+i) 0).testBit j=true->∃ e∈RA o,j=e\/((Ee os acc).getD e 0).testBit j=true:=by
 intro os
 induction os with
 | nil=>intro acc;exact⟨λi h=>rfl,rfl,by simp⟩
 | cons o os ih=>
  intro acc;obtain⟨h1,h2,h3⟩:=ih (acc++[LJ acc (RA o)]);have hget:∀ i,i<acc.length->(Ee os (acc++[LJ acc (RA o)]))[i]? = acc[i]?:=by intro i hi;rw[h1 i (by simp;omega),cN hi]
  refine⟨hget,by simp[Ee,h2];omega,λi o' ho j hj=>?_⟩;cases i with
  | zero=>
   simp only[List.getElem?_cons_zero,R_] at ho;subst ho;have:(Ee (o::os) acc).getD (acc.length+0) 0=LJ acc (RA o):=by simp only[Ee,Nat.add_zero,bB];rw[h1 acc.length (by simp)];simp
   rw[this] at hj;obtain⟨e,he,hh⟩:=Zc hj;refine⟨e,he,hh.imp id λhb=>?_⟩;by_cases hlt:e<acc.length
   .simp only[Ee,bB] at hb ⊢;rw[hget e hlt];exact hb
   .simp[bB,List.getElem?_eq_none (by omega:acc.length<=e)] at hb
  | succ i=>
   have:=h3 i o' (by simpa using ho) j (by simpa [Ee,Nat.add_assoc,Nat.add_comm 1] using hj);simpa [Ee] using this
def Akv:Nat->List Oper->List (Nat×Nat)
 | _,[]=>[]
 | i,o::os=>match o.dst with
  | some d=>(d,i)::Akv (i+1) os
  | none=>Akv (i+1) os
structure Tab where
 n:Nat
 ws:List (Nat×Nat)
 T:List Nat
def Al3 (ops:Array Oper) (T:List Nat) (i:Nat):Bool:=(match (ops[i]?).map (λo:Oper=>o.op) with
 | some (Op.assign _)=>true
 | _=>false)&&(List.range ops.size).all λk=>k==i||(bif decide (k<i) then(T.getD i 0).testBit k else(T.getD k 0).testBit i)
def Aj (ops:Array Oper):Tab:=⟨ops.size,(Akv 0 ops.toList).filter λp=>!Al3 ops (Ee ops.toList []) p.2,Ee ops.toList []⟩
def Tab.ok (t:Tab) (S:Nat->Bool) (s:Nat):Bool:=match look t.ws s with
 | none=>true
 | some j=>S j
def Tab.bit (t:Tab) (i j:Nat):Bool:=(t.T.getD i 0).testBit j
def St.view (J:St) (t:Tab) (S:Nat->Bool):St:={ J with tm:=J.tm.filter λp=>t.ok S p.1,bx:=J.bx.filter λp=>t.ok S p.1,hp:=J.hp.filter λp=>t.ok S (p.1 / 64)}
def Tab.sees (t:Tab) (s d:Nat):Bool:=match look t.ws d with
 | none=>true
 | some i=>match look t.ws s with
  | none=>false
  | some k=>i==k||t.bit k i
def Cell.refsAll (p:Nat->Bool):Cell->Bool
 | .ref m=>p m
 | .sub m _ _ _=>p m
 | _=>true
def TV.refsAll (p:Nat->Bool):TV->Bool
 | .v _ cs=>cs.all (·.refsAll p)
 | .tup ps=>ps.all λx=>x.2.all (·.refsAll p)
 | .eptr m _ _ _=>p m
 | .inn m _ _ _ _ _=>p m
 | .nptr m _ _ _ _ _ _ _=>p m
 | .app m _ _ _ _ _ _=>p m
 | .capd m _=>p m
 | _=>true
def Cap.boxAll (p:Nat->Bool):Cap->Bool
 | .ptr b=>p b
 | _=>true
def TV.boxAll (p:Nat->Bool):TV->Bool
 | .ptr b _=>p b
 | .lit b _ _=>p b
 | .clo _ caps=>caps.all (·.boxAll p)
 | _=>true
def I9 (t:Tab) (J:St):Bool :=
 J.tm.all (λx=>x.2.refsAll (λm=>t.sees x.1 (m / 64))&&x.2.boxAll λb=>t.sees x.1 b)&&J.bx.all λx=>x.2.all (·.refsAll λm=>t.sees x.1 (m / 64))
def Cell.refsAll_ok {p:Nat->Bool} {c:Cell} {m:Nat} (h:c.refsAll p=true) (hm:c.refs m=true):p m=true:=by
 cases c<;>simp[Cell.refs] at hm<;>subst hm<;>exact h
def Hp {p:Nat->Bool} {cs:List Cell} {m:Nat} (h:cs.all (·.refsAll p)=true) (hm:cs.any (·.refs m)=true):p m=true:=by
 obtain⟨c,hc,hr⟩:=bI.1 hm;exact Cell.refsAll_ok (aM.1 h c hc) hr
def TV.refsAll_ok {p:Nat->Bool} {x:TV} {m:Nat} (h:x.refsAll p=true) (hm:x.refs m=true):p m=true:=by
 cases x<;>simp only[TV.refs,cD] at hm
 case v a cs=>exact Hp h hm
 case tup ps=>
  obtain⟨x,hx,hr⟩:=bI.1 hm;exact Hp (aM.1 h x hx) hr
 case eptr l k i off=>simp at hm;subst hm;exact h
 case inn l k i off t xs=>simp at hm;subst hm;exact h
 case nptr l k i off t xs i2 o2=>simp at hm;subst hm;exact h
 case app l e j tt ts t xs=>simp at hm;subst hm;exact h
 case capd l c=>simp at hm;subst hm;exact h
def TV.boxAll_ok {p:Nat->Bool} {x:TV} {b:Nat} (h:x.boxAll p=true) (hb:x.hasB b=true):p b=true:=by
 cases x<;>simp only[TV.hasB,cD] at hb
 case ptr c off=>simp at hb;subst hb;exact h
 case lit c n t=>simp at hb;subst hb;exact h
 case clo fn caps=>
  obtain⟨c,hc,hr⟩:=bI.1 hb;have:=aM.1 h c hc;cases c with
  | ptr d=>simp[Cap.hasB] at hr;subst hr;exact this
  | aptr cs=>simp[Cap.hasB] at hr
def Wr {α:Type} {l:List (Nat×α)} {t:Nat} {x:α} {p:Nat×α->Bool} (h:l.all p=true) (hl:look l t=some x):p (t,x)=true:=aM.1 h _ (HA hl)
def Agy {t:Tab} {J:St} (h:I9 t J=true) {s:Nat} {x:TV} (hl:look J.tm s=some x):(∀ m,x.refs m=true->t.sees s (m / 64)=true)/\∀ b,x.hasB b=true->t.sees s b=true:=by
 unfold I9 at h;rw[T_] at h;have:=Wr h.1 hl;rw[T_] at this;exact⟨λm hm=>TV.refsAll_ok (p:=λm=>t.sees s (m / 64)) this.1 hm,λb hb=>TV.boxAll_ok (p:=λb=>t.sees s b) this.2 hb⟩
def AgK {t:Tab} {J:St} (h:I9 t J=true) {s:Nat} {cs:List Cell} (hl:look J.bx s=some cs):∀ m,cs.any (·.refs m)=true->t.sees s (m / 64)=true:=by
 unfold I9 at h;rw[T_] at h;exact λm hm=>Hp (p:=λm=>t.sees s (m / 64)) (Wr h.2 hl) hm
def Tab.Closed (t:Tab) (S:Nat->Bool):Prop:=∀ k,S k=true->∀ j,t.bit k j=true->S j=true
def AiA {t:Tab} {S:Nat->Bool} (hc:t.Closed S) {s d i:Nat} (hi:look t.ws d=some i) (hS:S i=false) (hs:t.ok S s=true):t.sees s d=false:=by
 unfold Tab.sees;rw[hi];dsimp only;unfold Tab.ok at hs;cases e:look t.ws s with
 | none=>rfl
 | some k=>
  rw[e] at hs;dsimp only at hs ⊢;rw[Bool.or_eq_false_iff];constructor
  .grind
  .cases hb:t.bit k i with
   | false=>rfl
   | true=>rw[hc k hs i hb] at hS;cases hS
def Bu {J:St} {t:Tab} {S:Nat->Bool} {s:Nat}:look (J.view t S).tm s=if t.ok S s then look J.tm s else none:=Bn (λs=>t.ok S s) J.tm s
def C6 {J:St} {t:Tab} {S:Nat->Bool} {s:Nat}:look (J.view t S).bx s=if t.ok S s then look J.bx s else none:=Bn (λs=>t.ok S s) J.bx s
def C5 {J:St} {t:Tab} {S:Nat->Bool} {l:Nat}:look (J.view t S).hp l=if t.ok S (l / 64) then look J.hp l else none:=Bn (λl=>t.ok S (l / 64)) J.hp l
def St.merge (J:St) (d:Option Nat) (J':St):St:=match d with
 | none=>J
 | some d=>{ J with tm:=D.put J.tm d (J'.get d),bx:=J'.bx.filter (λp=>p.1==d)++J.bx.filter λp=>!(p.1==d),hp:=J'.hp.filter (λp=>p.1 / 64==d)++J.hp.filter (λp=>!(p.1 / 64==d))}
def Ss {α:Type} (q:Nat->Bool) (l r:List (Nat×α)) (t:Nat):look (l.filter (λp=>q p.1)++r.filter λp=>!q p.1) t=if q t then look l t else look r t:=by
 rw[U5,Bn q l t,Bn (λt=>!q t) r t];grind
section
variable {P:Program} {E:Env} {F:Fr P} {G G':Gh} {J J' σb:St} {a a':Act} {w w':World} {o:Oper} {K:St->Out} {Q:Post} {Qx:Exit->Act->World->Prop} {t:Tab}
def Ml {d s:Nat}:look (J.merge (some d) J').tm s=if s=d then some (J'.get d) else look J.tm s:=DI J.tm d s (J'.get d)
def Ro {d s:Nat}:look (J.merge (some d) J').bx s=if s=d then look J'.bx s else look J.bx s:=by
 have:=Ss (λp=>p==d) J'.bx J.bx s;simpa [St.merge] using this
def QC {d l:Nat}:look (J.merge (some d) J').hp l=if l / 64=d then look J'.hp l else look J.hp l:=by
 have:=Ss (λp=>p / 64==d) J'.hp J.hp l;simpa [St.merge] using this
def RG.weaken (h:RG F G J a w) (h1:∀ s x,look J'.tm s=some x->∃ y,look J.tm s=some y/\∀ v,TVR w G y v->TVR w G x v) (h2:∀ s cs,look J'.bx s=some cs->look J.bx s=some cs) (h3:∀ l T,look J'.hp l=some T->look J.hp l=some T)
 (h4:J'.fb=J.fb) (h5:J'.fl=J.fl) (h6:J'.nt=J.nt):RG F G J' a w :=
 ⟨λs x hx=>let ⟨y,hy,hi⟩:=h1 s x hx;hi _ (h.tm s y hy),λs cs hc=>h.bx s cs (h2 s cs hc),λl T hl=>h.hp l T (h3 l T hl),h.lt,h.os,h.tape,h.output,h.size,h.keep,
  λb β hb=>by rw[h4];exact h.fb b β hb,λl v hl=>by rw[h5];exact h.fl l v hl,by rw[h6];exact h.nt,h.df⟩
def Imp (x y:TV):Prop:=∀ (w:World) (G:Gh) (v:Value),TVR w G x v->TVR w G y v
def Rv {S:Nat->Bool} {i d:Nat} {v:Value} (hc:t.Closed S) (hS:S i=false) (hw:look t.ws d=some i) (hu:∀ s,look t.ws s=some i->s=d) (hb:I9 t σb=true) (h:RG F G (σb.view t S) a w) (hd:d<a.tmps.size) (h':RG F G' J' (a.put (some d) v) w') (he:Ext (some d) G a w G' (a.put (some d) v) w')
 (e1:∀ x,look σb.tm d=some x->Imp (J'.get d) x) (e2:∀ cs,look σb.bx d=some cs->look J'.bx d=some cs) (e3:∀ l T,l / 64=d->look σb.hp l=some T->look J'.hp l=some T) :
 RG F G' (σb.view t λk=>S k||k==i) (a.put (some d) v) w':=by
 have okS:∀ s,s≠d->t.ok (λk=>S k||k==i) s=true->t.ok S s=true:=by
  intro s hsd hs;unfold Tab.ok at hs ⊢;cases e:look t.ws s with
  | none=>rfl
  | some k=>
   rw[e] at hs;have:¬ k=i:=λe'=>hsd (hu s (e'▸e))
   simpa [this] using hs
 have fo:Cf w w' G G':=⟨λg hg=>⟨he.sm (h.lt g (by simp[hg])) (by simp[hg]),(he.ow g (by simp[hg])).trans hg⟩,λg hg=>(he.ow g (by simp[hg])).trans hg⟩;have mo:∀ m,En w w' G G' m:=λm g hg=>⟨he.sm (h.lt g (by simp[hg])) (by simp[hg]),(he.ow g (by simp[hg])).trans hg⟩
 have hvs:∀ m,m / 64≠d->G'.hv m=G.hv m:=λm hm=>he.hv m λd0 hd0=>by injection hd0 with hd0;subst hd0;omega
 have ne:∀ s m,t.ok S s=true->t.sees s m=true->m≠d:=by intro s m hs hm e;subst e;rw[AiA hc hw hS hs] at hm;cases hm
 constructor
 case tm=>
  intro s x hl;rw[Bu] at hl;split at hl
  .rename_i hs;by_cases hsd:s=d
   .subst hsd;exact e1 x hl _ _ _ (OK h' s)
   .have hs':=okS s hsd hs;have hx:=h.tm s x (by rw[Bu,G_ hs'];exact hl);have hget:(a.put (some d) v).tmps.getD s undef=a.tmps.getD s undef:=by simp[Act.put,Array.getElem?_setIfInBounds_ne (Ne.symm hsd)]
    rw[hget];obtain⟨q1,q2⟩:=Agy hb hl;exact TV.carry fo (λm hm=>hvs m (ne s _ hs' (q1 m hm))) (λm _=>mo m) (λb hb'=>he.be b λe=>by injection e with e;exact ne s b hs' (q2 b hb') e.symm) hx
  .cases hl
 case bx=>
  intro s cs hl;rw[C6] at hl;split at hl
  .rename_i hs;by_cases hsd:s=d
   .subst hsd;exact h'.bx s cs (e2 cs hl)
   .have hs':=okS s hsd hs;obtain⟨k1,r,e,k2,k3⟩:=h.bx s cs (by rw[C6,G_ hs'];exact hl);have hbe:G'.be s=G.be s:=he.be s λe=>by injection e with e;exact hsd e.symm
    rw[hbe];refine⟨(he.ow _ (by simp[k1])).trans k1,r,e,(he.sm (h.lt _ (by simp[k1])) (by simp[k1])).trans k2,Cells.carry fo (λm hm=>hvs m (ne s _ hs' (AgK hb hl m hm))) (λm _=>mo m) k3⟩
  .cases hl
 case hp=>
  intro l T hl;rw[C5] at hl;split at hl
  .rename_i hs;by_cases hsd:l / 64=d
   .exact h'.hp l T (e3 l T hsd hl)
   .have hs':=okS _ hsd hs;rw[hvs l hsd];exact(h.hp l T (by rw[C5,G_ hs'];exact hl)).frame λg hg _=>mo l g hg
  .cases hl
 case lt=>exact h'.lt
 case os=>exact h'.os
 case tape=>exact h'.tape
 case output=>exact h'.output
 case size=>exact h'.size
 case keep=>exact h'.keep
 case fb=>exact λb β hb'=>⟨(h'.fb b β hb').1,(h.fb b β hb').2⟩
 case fl=>exact λl u hl=>⟨(h'.fl l u hl).1,(h.fl l u hl).2⟩
 case nt=>exact(show(a.put (some d) v).tmps.size=a.tmps.size by simp[Act.put]).trans h.nt
 case df=>exact h'.df
end
end Go.D
namespace Go.D
def Gq (d:Option Nat) (J:St):St:={ J with tm:=(match d with|some d=>[(d,skp)]|none=>[]),bx:=[],hp:=[]}
def isCut (E:Env) (o:Oper) (v:St):Bool:=match o.op with
 | .store _ _ _=>true
 | .call c=>match c.callee with
  | .builtin .append=>(match c.args.toList with
   | .tmp t::_=>(match v.get t with
    | .capd _ 0=>false
    | .capd l c=>!(match look v.hp l with|some T=>T.n==c&&Je T.t|none=>false)
    | _=>true)
   | _=>true)
  | .builtin .clear=>true
  | .value f=>match v.eval f with
   | .clo g _=>match E.fn g with
    | some (ms,_)=>ms.any λm=>match m with
     | .lend=>false
     | .cur=>false
     | _=>true
    | none=>false
   | _=>false
  | _=>false
 | .buildSlice _ _ ps=>!(ps.toList.all λp=>(v.eval p.2).refsAll λ_=>false)
 | _=>false
def Tw (t:Tab) (i:Nat):Bool:=(List.range t.n).all λk=>k==i||(bif decide (k<i) then t.bit i k else t.bit k i)
def AoG (o:Oper):Bool:=match o.op with
 | .buildSlice _ _ _=>true
 | _=>false
def ApK (t:Tab) (o:Oper) (i:Nat):Bool:=(match o.op with | .assign _=>true|_=>false)&&Tw t i
def Jk (t:Tab) (i:Nat) (o:Oper) (J:St):Bool:=match o.dst with
 | none=>true
 | some d=>(match look t.ws d with|some k=>k==i|none=>false)&&decide (d<J.nt)
def TV.isCur:TV->Bool
 | .cur=>true
 | _=>false
def Sj (o:Oper) (v:St):Bool:=match o.op with
 | .call c=>c.args.toList.any λx=>(v.eval x).isCur
 | _=>false
def Amc (t:Tab) (i:Nat):Bool:=(List.range t.n).all λk=>decide (k<=i)||t.bit k i
def evR (P:Program) (E:Env) (ops:Array Oper) (t:Tab):Bool->List Nat->St->(St->Out)->Out
 | fr,[],J,K=>bif fr||I9 t J then K J else .bad
 | fr,i::rest,J,K=>match ops[i]? with
  | none=>.bad
  | some o=>
   bif (isCut E o (J.view t (t.bit i))&&(Tw t i || !AoG o))||ApK t o i then
    bif (fr||I9 t J)&&Tw t i then guarded ops o (J.view t (t.bit i)) (J.view t (t.bit i)) (λv=>step P E false o v.lits λJ'=>evR P E ops t true rest J' K) (λv=>evR P E ops t true rest (v.setTm o.dst skp) K) else .bad
   else bif Jk t i o J then
    bif Sj o (J.view t (t.bit i)) then
     bif (fr||I9 t J)&&Amc t i then guarded ops o J (J.view t (t.bit i)) (λσr=>(step P E true o (σr.view t (t.bit i)) (.st .normal)).bindL λJ'=>evR P E ops t false rest (σr.merge o.dst J') K) (λσr=>evR P E ops t false rest (σr.merge o.dst (Gq o.dst σr)) K) else .bad
    else
    guarded ops o J (J.view t (t.bit i)) (λσr=>(step P E true o (σr.view t (t.bit i)) (.st .normal)).bind λJ'=>evR P E ops t false rest (σr.merge o.dst J') K) (λσr=>evR P E ops t false rest (σr.merge o.dst (Gq o.dst σr)) K) else .bad
def Jj (ops:Array Oper):Bool:=ops.toList.zipIdx.all λx=>(RA x.1).all λj=>decide (j<x.2)
section
variable {P:Program} {E:Env} {F:Fr P} {G G':Gh} {J J' σb:St} {a a':Act} {w w':World} {o:Oper} {K:St->Out} {Q:Post} {Qx:Exit->Act->World->Prop} {ops:Array Oper}
def AgW:∀ (os:List Oper) (i s k:Nat),(s,k)∈Akv i os->i<=k/\∃ o,os[k-i]? = some o/\o.dst=some s:=by
 intro os
 induction os with
 | nil=>intro i s k h;simp[Akv] at h
 | cons o os ih=>
  intro i s k h;simp only[Akv] at h;grind
def AdQ {s k:Nat} (h:look (Aj ops).ws s=some k):∃ o,ops[k]? = some o/\o.dst=some s:=by
 have hm:=HA h;simp only[Aj,List.mem_filter] at hm;obtain⟨_,o,h1,h2⟩:=AgW ops.toList 0 s k hm.1;simp_all
def ZX {i j:Nat} {o:Oper} (ho:ops[i]? = some o) (h:(Aj ops).bit i j=true):∃ e∈RA o,j=e\/(Aj ops).bit e j=true:=by
 have:=(NC ops.toList []).2.2 i o (by simpa using ho) j (by simpa [Aj,Tab.bit] using h);simpa [Aj,Tab.bit] using this
def Ah1 (hd:Jj ops=true):∀ (i j:Nat),(Aj ops).bit i j=true->j<i:=by
 intro i
 induction i using Nat.strongRecOn with
 | ind i ih=>
  intro j h;cases ho:ops[i]? with
  | none=>
   have hlen:(Aj ops).T.length=ops.size:=by simpa [Aj] using(NC ops.toList []).2.1
   have:ops.size<=i:=by simpa using ho
   have h0:(Aj ops).T.getD i 0=0:=by rw[bB,List.getElem?_eq_none O];rfl
   rw[Tab.bit,h0] at h;simp at h
  | some o=>
   obtain⟨e,he,hh⟩:=ZX ho h;have hlt:e<i:=by unfold Jj at hd;rw[aM] at hd;have:=hd (o,i) (by rw[List.mem_zipIdx_iff_getElem?];simpa using ho);simp_all
   grind
def H9 (t:Tab) (i s:Nat):Prop:=∀ k,look t.ws s=some k->k<i
structure Later (t:Tab) (i:Nat) (J J':St):Prop where
 tm1:∀ s x,H9 t i s->look J.tm s=some x->∃ y,look J'.tm s=some y/\Imp y x
 tm2:∀ s y,H9 t i s->look J'.tm s=some y->∃ x,look J.tm s=some x/\Imp x y
 bx:∀ s,H9 t i s->look J'.bx s=look J.bx s
 hp:∀ l,H9 t i (l / 64)->look J'.hp l=look J.hp l
 fb:J'.fb=J.fb
 fl:J'.fl=J.fl
 nt:J'.nt=J.nt
def Later.refl (t:Tab) (i:Nat) (J:St):Later t i J J:=⟨λs x _ h=>⟨x,h,λ_ _ _ h=>h⟩,λs x _ h=>⟨x,h,λ_ _ _ h=>h⟩,λ_ _=>rfl,λ_ _=>rfl,rfl,rfl,rfl⟩
def Later.trans {t:Tab} {i:Nat} {σ1 σ2 σ3:St} (h:Later t i σ1 σ2) (h':Later t i σ2 σ3):Later t i σ1 σ3 :=
 ⟨λs x hb hl=>let ⟨y,h1,h2⟩:=h.tm1 s x hb hl;let ⟨z,h3,h4⟩:=h'.tm1 s y hb h1;⟨z,h3,λw G v hv=>h2 w G v (h4 w G v hv)⟩,
  λs z hb hl=>let ⟨y,h1,h2⟩:=h'.tm2 s z hb hl;let ⟨x,h3,h4⟩:=h.tm2 s y hb h1;⟨x,h3,λw G v hv=>h2 w G v (h4 w G v hv)⟩,
  λs hb=>(h'.bx s hb).trans (h.bx s hb),λl hb=>(h'.hp l hb).trans (h.hp l hb),h'.fb.trans h.fb,h'.fl.trans h.fl,h'.nt.trans h.nt⟩
def Later.mono {t:Tab} {i j:Nat} (hij:i<=j) (h:Later t j J J'):Later t i J J':=by
 have hb:∀ s,H9 t i s->H9 t j s:=λs hb k hk=>fq (hb k hk) hij
 exact⟨λs x hs=>h.tm1 s x (hb s hs),λs x hs=>h.tm2 s x (hb s hs),λs hs=>h.bx s (hb s hs),λl hs=>h.hp l (hb _ hs),h.fb,h.fl,h.nt⟩
def Later.merge {t:Tab} {i:Nat} {d:Option Nat} (hd:∀ d0,d=some d0->look t.ws d0=some i):Later t i J (J.merge d J'):=by
 cases d with
 | none=>exact Later.refl _ _ _
 | some d0=>
  have hne:∀ s,H9 t i s->s≠d0:=λs hs e=>by have:=hs i (e▸hd d0 rfl);omega
  refine⟨λs x hs hl=>⟨x,?_,λ_ _ _ h=>h⟩,λs x hs hl=>⟨x,?_,λ_ _ _ h=>h⟩,λs hs=>?_,λl hs=>?_,rfl,rfl,rfl⟩
  .rw[Ml,F_ (hne s hs)];exact hl
  .rw[Ml,F_ (hne s hs)] at hl;exact hl
  .rw[Ro,F_ (hne s hs)]
  .rw[QC,F_ (hne _ hs)]
def BoolIs.imp {x y:TV} {b:Bool} (hx:BoolIs x b) (hy:BoolIs y b):Imp x y:=λw G v h=>by rw[hx.val h];exact hy.mk
def Ae9 {J:St} {t:Nat} {x:TV} (h:J.get t=x) (hx:x≠.dead):look J.tm t=some x:=by
 unfold St.get at h;cases hq:look J.tm t with
 | none=>rw[hq] at h;exact absurd h.symm hx
 | some y=>rw[hq] at h;simp only[Option.getD_some] at h;rw[h]
def Later.guard {t:Tab} {S:Nat->Bool} {i:Nat} {σr:St} {wanted:Bool} (hg:GuardIs ops o J (J.view t S) σr wanted):Later t i J σr:=by
 rcases hg with⟨_,_,rfl⟩|⟨j,want,s0,b,_,_,h3,_,rfl|rfl⟩|⟨j,want,s0,_,_,_,_,rfl⟩
 .exact Later.refl _ _ _
 .exact Later.refl _ _ _
 .have hl:look J.tm s0=some ((J.view t S).get s0):=by have:=Ae9 (J:=J.view t S) (t:=s0) rfl (by rcases h3 with e|e<;>rw[e]<;>simp);rw[Bu] at this;simp_all
  have hy:BoolIs (.v false [if b then Cell.tt else .ff]) b:=.inr rfl;refine⟨λs x hs hx=>?_,λs x hs hx=>?_,λ_ _=>rfl,λ_ _=>rfl,rfl,rfl,rfl⟩
  .simp only[St.put,DI];by_cases e:s=s0
   .subst e;rw[hl] at hx;injection hx with hx
    subst hx;exact⟨_,by simp,hy.imp h3⟩
   .exact⟨x,by simp[e,hx],λ_ _ _ h=>h⟩
  .simp only[St.put,DI] at hx;by_cases e:s=s0
   .subst e;simp only[aD,R_] at hx;subst hx;exact⟨_,hl,h3.imp hy⟩
   .simp only[e,aS] at hx;exact⟨x,hx,λ_ _ _ h=>h⟩
 .exact Later.refl _ _ _
def OpFact (P:Program) (E:Env) (ops:Array Oper) (i:Nat) (J σ1:St):Prop:=∃ o σr wanted,ops[i]? = some o/\GuardIs ops o J (J.view (Aj ops) ((Aj ops).bit i)) σr wanted/\Jk (Aj ops) i o J=true /\
 ((wanted=true/\∃ J',(step P E true o (σr.view (Aj ops) ((Aj ops).bit i)) (.st .normal)).holds (is1 J')/\σ1=σr.merge o.dst J')\/(wanted=false/\σ1=σr.merge o.dst (Gq o.dst σr)))
inductive Seg (P:Program) (E:Env) (ops:Array Oper):Nat->St->Nat->St->Prop where
 | nil (i:Nat) (J:St):Seg P E ops i J i J
 | cons {i b:Nat} {J σ1 σb:St}:OpFact P E ops i J σ1->Seg P E ops (i+1) σ1 b σb->Seg P E ops i J b σb
def DU {t:Tab} {i:Nat} (h:Jk t i o J=true):∀ d,o.dst=some d->look t.ws d=some i/\d<J.nt:=by
 intro d hd;unfold Jk at h;grind
def OpFact.later {i:Nat} {σ1:St} (h:OpFact P E ops i J σ1):Later (Aj ops) i J σ1:=by
 obtain⟨o,σr,wanted,ho,hg,hc,h⟩:=h;have h1:=Later.guard (i:=i) hg;have hd:=λd0 hd0=>(DU hc d0 hd0).1
 rcases h with⟨_,J',_,rfl⟩|⟨_,rfl⟩
 .exact h1.trans (Later.merge hd)
 .exact h1.trans (Later.merge hd)
def Seg.later {i b:Nat} (h:Seg P E ops i J b σb):i<=b/\Later (Aj ops) i J σb/\∀ k,i<=k->k<b->∃ σk σk1,OpFact P E ops k σk σk1/\Later (Aj ops) (k+1) σk1 σb:=by
 induction h with
 | nil i J=>exact⟨X_ _,Later.refl _ _ _,λk h1 h2=>O⟩
 | @cons i b J σ1 σb hf _ ih=>
  obtain⟨h1,h2,h3⟩:=ih;refine⟨O,hf.later.trans (h2.mono O),λk hk1 hk2=>?_⟩;grind
def P6 (P:Program) (E:Env) (ops:Array Oper) (K:St->Out) (Q:Post) (n b:Nat) (σb:St):Prop :=
 (b=n/\(K σb).holds Q)\/(b<n/\∃ o,ops[b]? = some o/\Tw (Aj ops) b=true /\
  (guarded ops o (σb.view (Aj ops) ((Aj ops).bit b)) (σb.view (Aj ops) ((Aj ops).bit b)) (λv=>step P E false o v.lits λJ'=>evR P E ops (Aj ops) true (List.range' (b+1) (n-(b+1))) J' K) λv=>evR P E ops (Aj ops) true (List.range' (b+1) (n-(b+1))) (v.setTm o.dst skp) K).holds Q) \/
 (b<n/\∃ o,ops[b]? = some o/\Amc (Aj ops) b=true/\Jk (Aj ops) b o σb=true /\
  (guarded ops o σb (σb.view (Aj ops) ((Aj ops).bit b)) (λσr=>(step P E true o (σr.view (Aj ops) ((Aj ops).bit b)) (.st .normal)).bindL λJ'=>evR P E ops (Aj ops) false (List.range' (b+1) (n-(b+1))) (σr.merge o.dst J') K) λσr=>evR P E ops (Aj ops) false (List.range' (b+1) (n-(b+1))) (σr.merge o.dst (Gq o.dst σr)) K).holds Q)
def P4:∀ (m i:Nat) (fr:Bool) (J:St),(evR P E ops (Aj ops) fr (List.range' i m) J K).holds Q->∃ b σb,Seg P E ops i J b σb/\b<=i+m/\(I9 (Aj ops) σb=true\/(fr=true/\b=i))/\P6 P E ops K Q (i+m) b σb:=by
 intro m
 induction m with
 | zero=>
  intro i fr J h;simp only[List.range'_zero,evR] at h;cases hs:(fr||I9 (Aj ops) J) with
  | false=>simp[hs,Out.holds] at h
  | true=>
   simp only[hs,aX] at h;rw[dt] at hs;exact⟨i,J,.nil i J,X_ _,hs.symm.imp id λe=>⟨e,rfl⟩,.inl ⟨rfl,h⟩⟩
 | succ m ih=>
  intro i fr J h;simp only[List.range'_succ,evR] at h;split at h
  .exact h.elim
  .rename_i o ho;cases hcut:((isCut E o (J.view (Aj ops) ((Aj ops).bit i))&&(Tw (Aj ops) i || !AoG o))||ApK (Aj ops) o i) with
   | true=>
    simp only[hcut,aX] at h;cases hc:((fr||I9 (Aj ops) J)&&Tw (Aj ops) i) with
    | false=>simp[hc,Out.holds] at h
    | true=>
     simp only[hc,aX] at h;rw[T_,dt] at hc;refine⟨i,J,.nil i J,O,hc.1.symm.imp id λe=>⟨e,rfl⟩,.inr (.inl ⟨O,o,ho,hc.2,?_⟩)⟩;grind
   | false=>
    simp only[hcut,cF] at h;cases hc:Jk (Aj ops) i o J with
    | false=>simp[hc,Out.holds] at h
    | true=>
     simp only[hc,aX] at h;cases hcur:Sj o (J.view (Aj ops) ((Aj ops).bit i)) with
     | true=>
      simp only[hcur,aX] at h;cases hc2:((fr||I9 (Aj ops) J)&&Amc (Aj ops) i) with
      | false=>simp[hc2,Out.holds] at h
      | true=>
       simp only[hc2,aX] at h;rw[T_,dt] at hc2;refine⟨i,J,.nil i J,O,hc2.1.symm.imp id λe=>⟨e,rfl⟩,.inr (.inr ⟨O,o,ho,hc2.2,hc,?_⟩)⟩;grind
     | false=>
     simp only[hcur,cF] at h;obtain⟨σr,wanted,hg,h⟩:=FL h;cases wanted with
     | true=>
      simp only[aD] at h;obtain⟨J',h1,h2⟩:=Out.bind_holds h;obtain⟨b,σb,k1,k2,k3,k4⟩:=ih (i+1) false _ h2;rw[show i+1+m=i+(m+1) from O] at k2 k4;exact⟨b,σb,.cons ⟨o,σr,true,ho,hg,hc,.inl ⟨rfl,J',h1,rfl⟩⟩ k1,k2,.inl (k3.resolve_right (by simp)),k4⟩
     | false=>
      simp only[cD,aS] at h;obtain⟨b,σb,k1,k2,k3,k4⟩:=ih (i+1) false _ h;rw[show i+1+m=i+(m+1) from O] at k2 k4;exact⟨b,σb,.cons ⟨o,σr,false,ho,hg,hc,.inr ⟨rfl,rfl⟩⟩ k1,k2,.inl (k3.resolve_right (by simp)),k4⟩
end
end Go.D
namespace Go.D
def ren (ord:List Nat) (o:Oper):Oper:={ o with after:=o.after.map λe=>{ e with on:=ord.idxOf e.on },guard:=o.guard.map λg=>(ord.idxOf g.1,g.2)}
def Ei (ops:Array Oper) (ord:List Nat):Array Oper:=(ord.map λi=>ren ord (ops.getD i default)).toArray
def Dy (n:Nat) (ord:List Nat):Bool:=(ord.length==n)&&((List.range n).all (λi=>ord[ord.idxOf i]?==some i)&&(List.range n).all λp=>match ord[p]? with
 | some i=>decide (i<n)&&ord.idxOf i==p
 | none=>false)
section
variable {P:Program} {Q:Exit->Act->World->Prop} {ops:Array Oper} {ord:List Nat}
def Mk (h:Dy ops.size ord=true):ord.length=ops.size:=by
 unfold Dy at h;rw[T_] at h;simpa using h.1
def Us (h:Dy ops.size ord=true) {i:Nat} (hi:i<ops.size):ord[ord.idxOf i]? = some i:=by
 unfold Dy at h;simp only[T_] at h;simp_all
def QL (h:Dy ops.size ord=true) {i:Nat} (hi:i<ops.size):ord.idxOf i<ops.size:=by
 have:=(List.getElem?_eq_some_iff.1 (Us h hi)).1;rw[Mk h] at this;exact this
def Ab3 (h:Dy ops.size ord=true) {p:Nat} (hp:p<ops.size):∃ i,i<ops.size/\ord.idxOf i=p:=by
 unfold Dy at h;simp only[T_] at h;have:=aM.1 h.2.2 p (ev.2 hp);grind
def Wx (h:Dy ops.size ord=true) {i:Nat} (hi:ops.size<=i):ord.idxOf i=ops.size:=by
 rw[<-Mk h];refine List.idxOf_eq_length ?_;intro hm;obtain⟨p,hp,hpe⟩:=List.getElem_of_mem hm;have hp2:p<ops.size:=by rw[<-Mk h];exact hp
 unfold Dy at h;simp only[T_] at h;have:=aM.1 h.2.2 p (ev.2 hp2);grind
def Afn (h:Dy ops.size ord=true) {i j:Nat} (hi:i<ops.size) (he:ord.idxOf j=ord.idxOf i):j=i:=by
 rcases Nat.lt_or_ge j ops.size with hj|hj
 .have h1:=Us h hj;grind
 .have h1:=Wx h hj;have h2:=QL h hi;omega
def Im (h:Dy ops.size ord=true):(Ei ops ord).size=ops.size:=by simp[Ei,Mk h]
def PR (h:Dy ops.size ord=true) {i:Nat} {o:Oper} (ho:ops[i]? = some o):(Ei ops ord)[ord.idxOf i]? = some (ren ord o):=by
 have hi:=(Array.getElem?_eq_some_iff.1 ho).1;simp only[Ei,List.getElem?_toArray,cz,Us h hi,bC];simp_all
def AcW (h:Dy ops.size ord=true) {i:Nat} (ho:ops[i]? = none):(Ei ops ord)[ord.idxOf i]? = none:=by
 have hi:ops.size<=i:=by simpa using ho
 rw[Wx h hi];simp[Im h]
def Afa (h:Dy ops.size ord=true) (i:Nat):((Ei ops ord)[ord.idxOf i]?).bind (·.dst)=(ops[i]?).bind (·.dst):=by
 cases ho:ops[i]? with
 | none=>rw[AcW h ho]
 | some o=>rw[PR h ho];rfl
def Vj (h:Dy ops.size ord=true) (o:Oper) (tmps:Array Value):Region.wanted (ren ord o) (yielded (Ei ops ord) tmps)=Region.wanted o (yielded ops tmps):=by
 unfold Region.wanted ren;cases o.guard with
 | none=>rfl
 | some g=>
  obtain⟨j,want⟩:=g;simp only[bC];have:yielded (Ei ops ord) tmps (ord.idxOf j)=yielded ops tmps j:=by unfold yielded;rw[Afa h j]
  rw[this]
def Lx (h:Dy ops.size ord=true) {listed listed':Array Bool} (hs:listed.size=ops.size) (hs':listed'.size=ops.size) (hl:∀ j,listed.getD j false=listed'.getD (ord.idxOf j) false) {i:Nat} (hi:i<ops.size) :
 i∈Region.ready .any ops listed↔ord.idxOf i∈Region.ready .any (Ei ops ord) listed':=by
 unfold Region.ready;rw[List.mem_filter,List.mem_filter,ev,ev,Im h];have ht:∀ (a:Array Bool) (k:Nat),k<a.size->a.getD k true=a.getD k false:=λa k hk=>by simp[hk]
 have e1:listed.getD i true=listed'.getD (ord.idxOf i) true:=by rw[ht _ _ O,ht _ _ (by have:=QL h hi;omega),hl]
 have ho:ops[i]? = some ops[i]:=by simp[hi]
 rw[e1,ho,PR h ho];simp only[hi,QL h hi,true_and,bC,Option.getD_some];have e2:((ren ord ops[i]).after.all λe=>!Region.binds .any e||listed'.getD e.on false)=(ops[i].after.all λe=>!Region.binds .any e||listed.getD e.on false):=by unfold ren;rw[Array.all_map];congr 1;funext e;simp only[Function.comp];rw[hl e.on];rfl
 rw[e2]
def OG (h:Dy ops.size ord=true):∀ (f:Nat) (listed listed':Array Bool) (a:Act) (w:World),listed.size=ops.size->listed'.size=ops.size->(∀ j,listed.getD j false=listed'.getD (ord.idxOf j) false) ->
 wpAny P .any (Ei ops ord) Q f listed' a w->wpAny P .any ops Q f listed a w:=by
 have hnil:∀ (listed listed':Array Bool),listed.size=ops.size->listed'.size=ops.size->(∀ j,listed.getD j false=listed'.getD (ord.idxOf j) false)->(Region.ready .any (Ei ops ord) listed'=[]↔Region.ready .any ops listed=[]):=by
  intro listed listed' hs hs' hl;constructor
  .intro hn;refine List.eq_nil_iff_forall_not_mem.2 λi hi=>?_
   have hin:i<ops.size:=by unfold Region.ready at hi;exact ev.1 (List.mem_filter.1 hi).1
   have:=(Lx h hs hs' hl hin).1 hi;rw[hn] at this;cases this
  .intro hn;refine List.eq_nil_iff_forall_not_mem.2 λp hp=>?_
   have hpn:p<ops.size:=by unfold Region.ready at hp;have:=ev.1 (List.mem_filter.1 hp).1;rw[Im h] at this;exact this
   obtain⟨i,hi,rfl⟩:=Ab3 h hpn;have:=(Lx h hs hs' hl hi).2 hp;rw[hn] at this;cases this
 intro f
 induction f with
 | zero=>
  intro listed listed' a w hs hs' hl hh;exact⟨(hnil listed listed' hs hs' hl).1 hh.1,hh.2⟩
 | succ f ih=>
  intro listed listed' a w hs hs' hl hh;refine⟨λhn=>hh.1 ((hnil listed listed' hs hs' hl).2 hn),λi hi=>?_⟩;have hin:i<ops.size:=by unfold Region.ready at hi;exact ev.1 (List.mem_filter.1 hi).1
  have h1:=hh.2 _ ((Lx h hs hs' hl hin).1 hi);have hk:∀ a w,wpAny P .any (Ei ops ord) Q f (listed'.setIfInBounds (ord.idxOf i) true) a w->wpAny P .any ops Q f (listed.setIfInBounds i true) a w:=by
   intro a w hk;refine ih _ _ a w (by simp[hs]) (by simp[hs']) (λj=>?_) hk;by_cases e:j=i
   .subst e;have:=QL h hin;simp[hs,hs',hin,this]
   .have e2:¬ ord.idxOf j=ord.idxOf i:=λe2=>e (Afn h hin e2)
    have:=hl j;simp only[Array.getD_eq_getD_getElem?] at this ⊢;rw[Array.getElem?_setIfInBounds_ne λx=>e x.symm,Array.getElem?_setIfInBounds_ne λx=>e2 x.symm];exact this
  have ho:ops[i]? = some ops[i]:=by simp[hin]
  unfold wpOp at h1 ⊢;rw[ho];rw[PR h ho] at h1;dsimp only at h1 ⊢;rw[Vj h] at h1;split
  .rename_i hw;rw[G_ hw] at h1;exact h1.imp (λhx=>Oper.wp_mono (o:=ops[i]) hk hx) id
  .rename_i hw;rw[F_ hw] at h1;exact hk _ _ h1
end
end Go.D
