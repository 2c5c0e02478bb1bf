/-
  The library of the proof, part 4.
-/
import Derived.Test.YthpiiodbmkjmjaaGreatDoorVMc
import Derived.Sort.Grow
import Derived.Deep.Draws
import Derived.Deep.WholeRow
import Derived.Laws.CopyRow
import Derived.Laws.NewBlocks
import Derived.Lib.ConvBytes
set_option linter.defProp false
set_option linter.unusedVariables false
set_option linter.unusedSimpArgs false
namespace Go.D
def Nn (b:UInt8):List UInt8->List (List UInt8)
 | []=>[[]]
 | x::l=>if x=b then[]::Nn b l else match Nn b l with
  | []=>[[x]]
  | h::t=>(x::h)::t
def Ms (b:UInt8) (l:List UInt8):Nn b l≠[]:=by
 cases l with
 | nil=>simp[Nn]
 | cons x l=>
  unfold Nn;grind
def O2 (p:List UInt8):List (List UInt8)->List (List UInt8)
 | []=>[p]
 | h::t=>(p++h)::t
def Sf {l:List (List UInt8)} (h:l≠[]):O2 [] l=l:=by
 cases l with
 | nil=>exact absurd rfl h
 | cons x l=>rfl
def FN (b x:UInt8) (l:List UInt8):Nn b (x::l)=if x=b then[]::Nn b l else O2 [x] (Nn b l):=by
 rfl
def Uh (p q:List UInt8) {l:List (List UInt8)} (h:l≠[]):O2 p (O2 q l)=O2 (p++q) l:=by
 cases l with
 | nil=>exact absurd rfl h
 | cons x l=>simp[O2]
def Px (p h:List UInt8) (t:List (List UInt8)):O2 p (h::t)=(p++h)::t:=rfl
def HV {b:UInt8}:∀ {p:List UInt8} (l:List UInt8),b∉p->Nn b (p++b::l)=p::Nn b l
 | [],l,_=>by rw[fi,FN,I_ rfl]
 | x::p,l,h=>by simp only[cp,not_or] at h;rw[dp,FN,J_ λe=>h.1 e.symm,HV l h.2];rfl
def Jv {b:UInt8}:∀ {p:List UInt8},b∉p->Nn b p=[p]
 | [],_=>rfl
 | x::p,h=>by simp only[cp,not_or] at h;rw[FN,J_ λe=>h.1 e.symm,Jv h.2];rfl
def R4 (b:UInt8):∀ l:List UInt8,(Nn b l).length<=l.length+1/\∀ p∈Nn b l,p.length<=l.length
 | []=>by simp[Nn]
 | x::l=>by
  obtain⟨h1,h2⟩:=R4 b l;rw[FN];split
  ·grind
  ·cases h:Nn b l with
   | nil=>exact absurd h (Ms b l)
   | cons y t=>
    rw[h] at h1 h2;refine⟨by simp only[O2,aw] at h1 ⊢;omega,λp hp=>?_⟩;simp only[O2,cp] at hp;grind
def ofL (l:List UInt8):ByteArray:=⟨l.toArray⟩
def toL (s:ByteArray):List UInt8:=s.data.toList
def Cg (s:ByteArray):ofL (toL s)=s:=by simp[ofL,toL]
def Mc (l:List UInt8):toL (ofL l)=l:=by simp[ofL,toL]
def Br (s:ByteArray):(toL s).length=s.size:=rfl
def HW (l:List UInt8):(ofL l).size=l.length:=by simp[ofL,ByteArray.size]
def C2 (s t:ByteArray):toL (s++t)=toL s++toL t:=by simp[toL]
def J0 (l m:List UInt8):ofL (l++m)=ofL l++ofL m:=by
 rfl
def A4 (s:ByteArray) (a b:Nat):toL (s.extract a b)=((toL s).take b).drop a:=by
 simp[toL,List.drop_take]
def spl (b:UInt8) (s:ByteArray):List ByteArray:=(Nn b (toL s)).map ofL
def Mx (b:UInt8) (s:ByteArray) (a i:Nat):List ByteArray:=if i<=s.size then(O2 (((toL s).take i).drop a) (Nn b ((toL s).drop i))).map ofL else[]
def W9 (b:UInt8) (s:ByteArray):Mx b s 0 0=spl b s:=by
 unfold Mx spl;rw[I_ (Nat.zero_le _)];simp[Sf (Ms b _)]
def Ss (b:UInt8) {s:ByteArray} {a i:Nat} (h:s.size<i):Mx b s a i=[]:=by
 unfold Mx;rw[J_ o_]
def XW (b:UInt8) {s:ByteArray} {a i:Nat} (h:i=s.size):Mx b s a i=[s.extract a i]:=by
 subst h;unfold Mx;rw[I_ (aa _),bR (l:=toL s) (i:=s.size) (by rw[Br];exact aa _)];rw[Nn,Px,cF,bZ,<-A4,Cg];rfl
def Ka {s:ByteArray} {i:Nat} (h:i<s.size):(toL s).drop i=s.data.getD i 0::(toL s).drop (i+1):=by
 have h2:i<s.data.size:=h;have e:s.data.getD i 0=s.data[i]:=by unfold Array.getD;rw[dif_pos h2];rfl
 rw[List.drop_eq_getElem_cons (by rw[Br];exact h),e];rfl
def YO {b:UInt8} {s:ByteArray} {a i:Nat} (h:i<s.size) (hb:s.data.getD i 0=b):Mx b s a i=s.extract a i::Mx b s (i+1) (i+1):=by
 unfold Mx;rw[I_ o_,I_ o_,Ka h,FN,I_ hb];rw[Px,cF,bZ,<-A4,Cg,bR (l:=(toL s).take (i+1)) (i:=i+1) (by rw[bS];omega),Sf (Ms b _)]
def XT {b:UInt8} {s:ByteArray} {a i:Nat} (h:i<s.size) (ha:a<=i) (hb:s.data.getD i 0≠b):Mx b s a i=Mx b s a (i+1):=by
 unfold Mx;rw[I_ o_,I_ o_,Ka h,FN,J_ hb,Uh _ _ (Ms b _)];congr 2;have:(toL s).take (i+1)=(toL s).take i++[s.data.getD i 0]:=by
  have h2:i<s.data.size:=h;have e:s.data.getD i 0=s.data[i]:=by unfold Array.getD;rw[dif_pos h2];rfl
  rw[List.take_succ_eq_append_getElem (by rw[Br];exact h),e];rfl
 rw[this,List.drop_append_of_le_length (by rw[bS,Br];omega)]
def Vw (b:UInt8):∀ l:List UInt8,((Nn b l).map λp=>p.length+1).sum=l.length+1
 | []=>rfl
 | x::l=>by
  have h:=Vw b l;rw[FN];split
  ·grind
  ·cases hq:Nn b l with
   | nil=>exact absurd hq (Ms b l)
   | cons y t=>
    rw[hq] at h;simp only[bZ,List.sum_cons,O2,al,aw,aJ] at h ⊢;omega
def DU (b:UInt8) (s:ByteArray):0<(spl b s).length/\(spl b s).length<=s.size+1:=by
 have h:=R4 b (toL s);have h2:=Ms b (toL s);rw[Br] at h;unfold spl;grind
def KX {b:UInt8} {s x:ByteArray} (h:x∈spl b s):x.size<=s.size:=by
 unfold spl at h;obtain⟨p,hp,rfl⟩:=eu.1 h;rw[HW];exact(R4 b (toL s)).2 p hp
def G7 (b:UInt8):List UInt8->Option (List UInt8×List UInt8)
 | []=>none
 | x::l=>if x=b then some ([],l) else(G7 b l).map λr=>(x::r.1,r.2)
def Of {b:UInt8}:∀ {l:List UInt8},b∉l->G7 b l=none
 | [],_=>rfl
 | x::l,h=>by simp only[cp,not_or] at h;rw[G7,J_ λe=>h.1 e.symm,Of h.2];rfl
def Q2 {b:UInt8}:∀ {p:List UInt8} (l:List UInt8),b∉p->G7 b (p++b::l)=some (p,l)
 | [],l,_=>by rw[fi,G7,I_ rfl]
 | x::p,l,h=>by simp only[cp,not_or] at h;rw[dp,G7,J_ λe=>h.1 e.symm,Q2 l h.2];rfl
def Abh {b:UInt8} {s:ByteArray} {i:Nat} (h:i<s.size) (hb:s.data.getD i 0=b) (hn:b∉(toL s).take i):G7 b (toL s)=some ((toL s).take i,(toL s).drop (i+1)):=by
 have e:toL s=(toL s).take i++b::(toL s).drop (i+1):=by rw[<-hb,<-Ka h,eg]
 rw[e,Q2 _ hn,<-e]
def Aau {b:UInt8} {s:ByteArray} {i:Nat} (h:i<s.size) (hb:s.data.getD i 0≠b) (hn:b∉(toL s).take i):b∉(toL s).take (i+1):=by
 have h2:i<s.data.size:=h;have e:s.data.getD i 0=s.data[i]:=by unfold Array.getD;rw[dif_pos h2];rfl
 rw[List.take_succ_eq_append_getElem (by rw[Br];exact h),aR,not_or];refine⟨hn,?_⟩;simp only[List.mem_singleton];intro h3;exact hb (by rw[e];exact h3.symm)
end Go.D
namespace Go.D
open Go.Sort
def pv:Ty->Bool
 | .int=>true
 | .bool=>true
 | .str=>true
 | .u8=>true
 | _=>false
def vOf (t:Ty) (x:El t):Value:=match enc t x with
 | [.val v]=>v
 | _=>undef
def Jp:(as:List Ak)->As as->List Value
 | [],_=>[]
 | .v (.el t)::as,x=>vOf t x.1::Jp as x.2
 | _::as,x=>undef::Jp as x.2
def K0:List Ak->Bool
 | []=>true
 | .v (.el t)::as=>pv t&&K0 as
 | _::_=>false
def IY:List Sh->Bool
 | []=>true
 | .el t::rs=>pv t&&IY rs
 | _::_=>false
def Ky:(rs:List Sh)->Ts rs->List Value
 | [],_=>[]
 | .el t::rs,x=>vOf t x.1::Ky rs x.2
 | .sl _::rs,x=>undef::Ky rs x.2
def Af2:List Value->Value
 | [v]=>v
 | vs=>.tuple vs.toArray
def Abe {t:Ty} (h:pv t=true) (x:El t):enc t x=[.val (vOf t x)]/\plain (vOf t x)=true/\(Sh.el t).agg=false:=by
 cases t<;>first|exact⟨rfl,rfl,rfl⟩|cases h
def Qe {w:World} {G:Gh}:∀ (as:List Ak) (x:As as),K0 as=true->∀ (vs:List Value),vs.length=(FD as x).length->(∀ (j:Nat) (y:TV),(FD as x)[j]? = some y->∃ v,vs[j]? = some v/\TVR w G y v)->vs=Jp as x:=by
 intro as
 induction as with
 | nil=>intro x _ vs hl _;exact List.eq_nil_of_length_eq_zero hl
 | cons a as ih=>
  intro x hp vs hl hh;cases a with
  | v s=>
   cases s with
   | el t=>
    simp only[K0,Z_] at hp;obtain⟨e1,e2,e3⟩:=Abe hp.1 x.1;cases vs with
    | nil=>simp[FD] at hl
    | cons v vs=>
     obtain⟨v',hv,hr⟩:=hh 0 _ rfl;simp only[List.getElem?_cons_zero,P_] at hv;subst hv;have hc:Adi (.v (.el t)) x.1=.v false [.sc (vOf t x.1)]:=by show TV.v (Sh.el t).agg ((enc t x.1).map (toCell none))=_;rw[e1,e3];rfl
     rw[hc] at hr;obtain⟨c,hc1,hc2⟩:=hr;injection hc1 with hc1
     subst hc1;rw[Jp,hc2.1,ih x.2 hp.2 vs (by simpa [FD] using hl) λj y hj=>hh (j+1) y hj]
   | sl t=>simp[K0] at hp
  | _=>simp[K0] at hp
def N1:∀ (rs:List Sh) (y:Ts rs),IY rs=true->JJ rs y=(Ky rs y).map λv=>(false,[FC.val v]):=by
 intro rs
 induction rs with
 | nil=>intro y _;rfl
 | cons s rs ih=>
  intro y hp;cases s with
  | el t=>
   simp only[IY,Z_] at hp;obtain⟨e1,e2,e3⟩:=Abe hp.1 y.1;simp only[JJ,Ky,bZ,ih y.2 hp.2,e3];congr 2
  | sl t=>simp[IY] at hp
def Tr:∀ (rs:List Sh) (y:Ts rs),IY rs=true->∀ v∈Ky rs y,plain v=true:=by
 intro rs
 induction rs with
 | nil=>intro y _ v hv;cases hv
 | cons s rs ih=>
  intro y hp v hv;cases s with
  | el t=>
   simp only[IY,Z_] at hp;rcases cp.1 hv with rfl|hv
   ·exact(Abe hp.1 y.1).2.1
   ·grind
  | sl t=>simp[IY] at hp
def AeT {w:World}:∀ (vs:List Value),(∀ v∈vs,plain v=true)->ResR w (XL (vs.map λv=>(false,[FC.val v]))) (Af2 vs) (λ_ _ _=>False)
 | [],_=>⟨#[],rfl,rfl,by simp⟩
 | [v],h=>by
  refine⟨_,rfl,⟨rfl,h v (by simp)⟩,Oy (h v (by simp))⟩
 | v::u::vs,h=>by
  refine⟨(v::u::vs).toArray,rfl,by simp,λi p hp=>?_⟩;have hp:((v::u::vs).map λv=>(false,[FC.val v]))[i]? = some p:=hp;rw[cE] at hp;cases hq:(v::u::vs)[i]? with
  | none=>rw[hq] at hp;cases hp
  | some x=>
   rw[hq] at hp;injection hp with hp
   subst hp;have:=h x (fu hq);exact⟨x,by simpa using hq,_,rfl,⟨rfl,this⟩,Oy this⟩
def WB {P:Program} {f:Nat} {S:Fct} (ha:K0 S.as=true) (hr:IY S.rs=true)
 (h:∀ x,S.pre x->∀ (w:World) (ow:Nat->Own),Base P w ow->Calls P f (Jp S.as x).toArray w λe w'=>e=.returned (Af2 (Ky S.rs (S.fn x)))/\∃ n os,w'=grow (w.drewN n) os):S.ok P f:=by
 intro x hx w vs G hB hA;have hvs:vs=(Jp S.as x).toArray:=by
  have:=Qe (w:=w) (G:=G) S.as x ha vs.toList (by simpa [Fct.arg] using hA.sz) λj y hj=>by obtain⟨v,hv,hr⟩:=hA.tm j y hj;simp_all
  rw[<-this]
 subst hvs;refine(h x hx w _ hB).mono ?_;rintro e w' ⟨rfl,n,os,rfl⟩;have hold:∀ g,g<w.heap.size->(grow (w.drewN n) os).heap[g]? = w.heap[g]?:=λg hg=>by rw[heap_grow_old _ _ (show g<(w.drewN n).heap.size from hg)];rfl
 refine⟨_,⟨mkR S.rs (S.fn x),[],[]⟩,rfl,rfl,⟨rfl,rfl,⟨rfl,by first|exact DrLe.refl _|exact DrLe.succ _|exact DrLe.add _ _⟩,?_⟩,λg hg=>hold g (hA.lt g (by simp[hg])),λg hg=>(hA.cr g hg).same (hold g (hA.lt g (by simp[hg]))),λ_ _=>False,by simp,by simp,?_,?_,?_⟩
 ·show w.heap.size<=(w.heap++os).size;simp
 ·show ResR _ (XL (JJ S.rs (S.fn x))) _ _;rw[N1 _ _ hr];exact AeT _ (Tr _ _ hr)
 ·intro m T hm;cases hm
 ·intro b cs hb;cases hb
def Acq (w:World):w=grow (w.drewN 0) #[]:=by
 rfl
end Go.D
namespace Go.D
open Go.RowKit
def T1 (w:World) (r:Array Value) (T:TypeId) (j:Nat) (v:Value):(w.alloc (.cells r T)).setCell ⟨w.heap.size,j,none⟩ v=w.alloc (.cells (r.setIfInBounds j v) T):=by
 rw[setCell_eq_setRow _ _ _ r T (0,0) v (heap_alloc_last w _),World.setRow_alloc_new]
def GI (w:World) (r:Array Value) (T:TypeId) (j:Nat):(w.alloc (.cells r T)).cell? ⟨w.heap.size,j,none⟩=r[j]?:=cell_of_row _ _ j r T (0,0) (heap_alloc_last w _)
def QP (w:World) (r:Array Value) (T:TypeId) (j:Nat):(w.alloc (.cells r T)).frozen? ⟨w.heap.size,j,none⟩=false:=by
 simp
def V9 {r:Array Value} {i:Nat} {v:Value} (hi:i<r.size) (t:Nat):(r.setIfInBounds i v)[t]? = if t=i then some v else r[t]?:=by
 grind
structure Neu (w w':World):Prop where
 os:w'.os=w.os
 tape:w'.tape=w.tape
 output:w'.output=w.output
 drawn:DrLe w.drawn w'.drawn
 size:w.heap.size<=w'.heap.size
 old:∀ g,g<w.heap.size->w'.heap[g]? = w.heap[g]?
def Neu.refl (w:World):Neu w w:=⟨rfl,rfl,rfl,DrLe.refl _,aa _,λ_ _=>rfl⟩
def Neu.drew {w w':World} (h:Neu w w'):Neu w w'.drew:=⟨h.os,h.tape,h.output,h.drawn.trans (DrLe.succ _),h.size,h.old⟩
def Neu.alloc {w w':World} (h:Neu w w') (o:Obj):Neu w (w'.alloc o):=⟨h.os,h.tape,h.output,h.drawn,by rw[World.size_alloc];have:=h.size;omega,λg hg=>by
 rw[<-h.old g hg];show(w'.heap.push o)[g]? = _;rw[Array.getElem?_push,J_ (by have:=h.size;omega)]⟩
def Neu.set {w w':World} (h:Neu w w') {a:Addr} (ha:w.heap.size<=a.block) (v:Value):Neu w (w'.setCell a v):=⟨h.os,h.tape,h.output,h.drawn,by rw[World.size_setCell];exact h.size,λg hg=>by
 rw[<-h.old g hg];unfold World.setCell;simp only[Array.getElem?_modify];rw[J_ o_]⟩
def Neu.bytes {w w':World} (h:Neu w w') (e:TypeId) (s:ByteArray):Neu w (Lib.bytesWorld w' e s):=⟨h.os,h.tape,h.output,h.drawn.trans (DrLe.succ _),by rw[Lib.bytesWorld_size];have:=h.size;omega,λg hg=>by
 rw[<-h.old g hg];exact Lib.bytesWorld_at_old w' e s g (by have:=h.size;omega)⟩
def Neu.put {w w':World} (h:Neu w w') {α:Type} [Inhabited α] (enc:α->Value) {b:Nat} (hb:w.heap.size<=b) (off:Nat) (d:Array α):Neu w (Go.Sort.putRow enc w' b off d):=⟨h.os,h.tape,h.output,h.drawn,by
 unfold Go.Sort.putRow Go.Sort.mapBlock;simp only[Array.size_modify];exact h.size,λg hg=>by
 rw[<-h.old g hg];unfold Go.Sort.putRow Go.Sort.mapBlock;simp only[Array.getElem?_modify];rw[J_ o_]⟩
def Neu.trans {a b c:World} (h:Neu a b) (k:Neu b c):Neu a c:=⟨k.os.trans h.os,k.tape.trans h.tape,k.output.trans h.output,h.drawn.trans k.drawn,bT h.size k.size,λg hg=>(k.old g (eC hg h.size)).trans (h.old g hg)⟩
def Neu.below {w w':World} (h:Below w.heap.size w w'):Neu w w':=⟨h.os,h.tape,h.output,trivial,h.size,λg hg=>h.block g hg⟩
def Neu.grow (w:World) (k:Nat) (os:Array Obj):Neu w (Go.Sort.grow (w.drewN k) os):=⟨rfl,rfl,rfl,DrLe.add _ _,by show w.heap.size<=(w.heap++os).size;simp,λg hg=>by
 show(w.heap++os)[g]? = _;rw[Array.getElem?_append_left hg]⟩
def Neu.laid {P:Program} {w w':World} (h:Neu w w') (l:Laid P w):Laid P w' :=
 ⟨λq=>L7 h.old (l.1 q),λq=>let ⟨tp,p,hv⟩:=l.2.1 q;⟨tp,p,L7 h.old hv⟩,λq=>let ⟨tp,p,hv⟩:=l.2.2 q;⟨tp,p,L7 h.old hv⟩⟩
def Vu {P:Program} {w:World} {n:String} {g:Nat} {x:Value} (hg:P.globalNamed n=some g) (h:w.var? P n=some #[x]):w.cell? ⟨g,0,none⟩=some x:=by
 unfold World.var? at h;rw[hg,Option.bind_some] at h;split at h
 ·rename_i cs e z hh;simp only[P_] at h;subst h;simp[World.cell?,hh]
 ·cases h
open Go.Sort in
def Ur {P:Program} {f:Nat} {S:Fct} (ha:K0 S.as=true) (hr:IY S.rs=true)
 (h:∀ x,S.pre x->∀ (w:World) (ow:Nat->Own),Base P w ow->Calls P f (Jp S.as x).toArray w λe w'=>e=.returned (Af2 (Ky S.rs (S.fn x)))/\Neu w w'):S.ok P f:=by
 intro x hx w vs G hB hA;have hvs:vs=(Jp S.as x).toArray:=by
  have:=Qe (w:=w) (G:=G) S.as x ha vs.toList (by simpa [Fct.arg] using hA.sz) λj y hj=>by obtain⟨v,hv,hr⟩:=hA.tm j y hj;simp_all
  rw[<-this]
 subst hvs;refine(h x hx w _ hB).mono ?_;rintro e w' ⟨rfl,hn⟩;refine⟨_,⟨mkR S.rs (S.fn x),[],[]⟩,rfl,rfl,⟨hn.os,hn.tape,⟨hn.output,hn.drawn⟩,hn.size⟩,λg hg=>hn.old g (hA.lt g (by simp[hg])),λg hg=>(hA.cr g hg).same (hn.old g (hA.lt g (by simp[hg]))),λ_ _=>False,by simp,by simp,?_,?_,?_⟩
 ·show ResR _ (XL (JJ S.rs (S.fn x))) _ _;rw[N1 _ _ hr];exact AeT _ (Tr _ _ hr)
 ·intro m T hm;cases hm
 ·intro b cs hb;cases hb
end Go.D
