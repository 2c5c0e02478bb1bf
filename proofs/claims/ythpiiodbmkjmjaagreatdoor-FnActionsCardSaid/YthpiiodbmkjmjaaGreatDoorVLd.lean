/-
  The library of the proof, part 4.
-/
import Derived.Test.YthpiiodbmkjmjaaGreatDoorVLc
import Derived.Sort.Grow
import Derived.Deep.Draws
import Derived.Deep.WholeRow
import Derived.Laws.CopyRow
import Derived.Laws.NewBlocks
import Derived.Lib.ConvBytes
set_option linter.defProp false
set_option linter.unusedVariables false
set_option linter.unusedSimpArgs false
namespace Go.D
def Nq (b:UInt8):List UInt8->List (List UInt8)
 | []=>[[]]
 | x::l=>if x=b then[]::Nq b l else match Nq b l with
  | []=>[[x]]
  | h::t=>(x::h)::t
def MF (b:UInt8) (l:List UInt8):Nq b l≠[]:=by
 cases l with
 | nil=>simp[Nq]
 | cons x l=>
  unfold Nq;grind
def Oz (p:List UInt8):List (List UInt8)->List (List UInt8)
 | []=>[p]
 | h::t=>(p++h)::t
def Tn {l:List (List UInt8)} (h:l≠[]):Oz [] l=l:=by
 cases l with
 | nil=>exact absurd rfl h
 | cons x l=>rfl
def FX (b x:UInt8) (l:List UInt8):Nq b (x::l)=if x=b then[]::Nq b l else Oz [x] (Nq b l):=by
 rfl
def UG (p q:List UInt8) {l:List (List UInt8)} (h:l≠[]):Oz p (Oz q l)=Oz (p++q) l:=by
 cases l with
 | nil=>exact absurd rfl h
 | cons x l=>simp[Oz]
def Qp (p h:List UInt8) (t:List (List UInt8)):Oz p (h::t)=(p++h)::t:=rfl
def HM {b:UInt8}:∀ {p:List UInt8} (l:List UInt8),b∉p->Nq b (p++b::l)=p::Nq b l
 | [],l,_=>by rw[Qf8,FX,Qa3 rfl]
 | x::p,l,h=>by simp only[Qd2,not_or] at h;rw[Qe5,FX,Qa5 (λe=>h.1 e.symm),HM l h.2];rfl
def JQ {b:UInt8}:∀ {p:List UInt8},b∉p->Nq b p=[p]
 | [],_=>rfl
 | x::p,h=>by simp only[Qd2,not_or] at h;rw[FX,Qa5 (λe=>h.1 e.symm),JQ h.2];rfl
def RA (b:UInt8):∀ l:List UInt8,(Nq b l).length<=l.length+1/\∀ p∈Nq b l,p.length<=l.length
 | []=>by simp[Nq]
 | x::l=>by
  obtain⟨h1,h2⟩:=RA b l;rw[FX];split
  ·grind
  ·cases h:Nq b l with
   | nil=>exact absurd h (MF b l)
   | cons y t=>
    rw[h] at h1 h2;refine⟨by simp only[Oz,Qa7] at h1 ⊢;omega,λp hp=>?_⟩;simp only[Oz,Qd2] at hp;grind
def ofL (l:List UInt8):ByteArray:=⟨l.toArray⟩
def toL (s:ByteArray):List UInt8:=s.data.toList
def Ct (s:ByteArray):ofL (toL s)=s:=by simp[ofL,toL]
def LX (l:List UInt8):toL (ofL l)=l:=by simp[ofL,toL]
def BD (s:ByteArray):(toL s).length=s.size:=rfl
def HT (l:List UInt8):(ofL l).size=l.length:=by simp[ofL,ByteArray.size]
def Dg (s t:ByteArray):toL (s++t)=toL s++toL t:=by simp[toL]
def JV (l m:List UInt8):ofL (l++m)=ofL l++ofL m:=by
 rfl
def Be (s:ByteArray) (a b:Nat):toL (s.extract a b)=((toL s).take b).drop a:=by
 simp[toL,List.drop_take]
def spl (b:UInt8) (s:ByteArray):List ByteArray:=(Nq b (toL s)).map ofL
def MN (b:UInt8) (s:ByteArray) (a i:Nat):List ByteArray:=if i<=s.size then(Oz (((toL s).take i).drop a) (Nq b ((toL s).drop i))).map ofL else[]
def XY (b:UInt8) (s:ByteArray):MN b s 0 0=spl b s:=by
 unfold MN spl;rw[Qa3 (Nat.zero_le _)];simp[Tn (MF b _)]
def Ta (b:UInt8) {s:ByteArray} {a i:Nat} (h:s.size<i):MN b s a i=[]:=by
 unfold MN;rw[Qa5 o_]
def W0 (b:UInt8) {s:ByteArray} {a i:Nat} (h:i=s.size):MN b s a i=[s.extract a i]:=by
 subst h;unfold MN;rw[Qa3 (Qa9 _),Qb2 (l:=toL s) (i:=s.size) (by rw[BD];exact Qa9 _)];rw[Nq,Qp,Qd7,Qd0,<-Be,Ct];rfl
def J8 {s:ByteArray} {i:Nat} (h:i<s.size):(toL s).drop i=s.data.getD i 0::(toL s).drop (i+1):=by
 have h2:i<s.data.size:=h;have e:s.data.getD i 0=s.data[i]:=by unfold Array.getD;rw[dif_pos h2];rfl
 rw[List.drop_eq_getElem_cons (by rw[BD];exact h),e];rfl
def ZR {b:UInt8} {s:ByteArray} {a i:Nat} (h:i<s.size) (hb:s.data.getD i 0=b):MN b s a i=s.extract a i::MN b s (i+1) (i+1):=by
 unfold MN;rw[Qa3 o_,Qa3 o_,J8 h,FX,Qa3 hb];rw[Qp,Qd7,Qd0,<-Be,Ct,Qb2 (l:=(toL s).take (i+1)) (i:=i+1) (by rw[Qc2];omega),Tn (MF b _)]
def Xn {b:UInt8} {s:ByteArray} {a i:Nat} (h:i<s.size) (ha:a<=i) (hb:s.data.getD i 0≠b):MN b s a i=MN b s a (i+1):=by
 unfold MN;rw[Qa3 o_,Qa3 o_,J8 h,FX,Qa5 hb,UG _ _ (MF b _)];congr 2;have:(toL s).take (i+1)=(toL s).take i++[s.data.getD i 0]:=by
  have h2:i<s.data.size:=h;have e:s.data.getD i 0=s.data[i]:=by unfold Array.getD;rw[dif_pos h2];rfl
  rw[List.take_succ_eq_append_getElem (by rw[BD];exact h),e];rfl
 rw[this,List.drop_append_of_le_length (by rw[Qc2,BD];omega)]
def Vy (b:UInt8):∀ l:List UInt8,((Nq b l).map λp=>p.length+1).sum=l.length+1
 | []=>rfl
 | x::l=>by
  have h:=Vy b l;rw[FX];split
  ·grind
  ·cases hq:Nq b l with
   | nil=>exact absurd hq (MF b l)
   | cons y t=>
    rw[hq] at h;simp only[Qd0,List.sum_cons,Oz,Qa1,Qa7,Qb1] at h ⊢;omega
def D0 (b:UInt8) (s:ByteArray):0<(spl b s).length/\(spl b s).length<=s.size+1:=by
 have h:=RA b (toL s);have h2:=MF b (toL s);rw[BD] at h;unfold spl;grind
def Kv {b:UInt8} {s x:ByteArray} (h:x∈spl b s):x.size<=s.size:=by
 unfold spl at h;obtain⟨p,hp,rfl⟩:=Qg1.1 h;rw[HT];exact(RA b (toL s)).2 p hp
def G8 (b:UInt8):List UInt8->Option (List UInt8×List UInt8)
 | []=>none
 | x::l=>if x=b then some ([],l) else(G8 b l).map λr=>(x::r.1,r.2)
def O9 {b:UInt8}:∀ {l:List UInt8},b∉l->G8 b l=none
 | [],_=>rfl
 | x::l,h=>by simp only[Qd2,not_or] at h;rw[G8,Qa5 (λe=>h.1 e.symm),O9 h.2];rfl
def QV {b:UInt8}:∀ {p:List UInt8} (l:List UInt8),b∉p->G8 b (p++b::l)=some (p,l)
 | [],l,_=>by rw[Qf8,G8,Qa3 rfl]
 | x::p,l,h=>by simp only[Qd2,not_or] at h;rw[Qe5,G8,Qa5 (λe=>h.1 e.symm),QV l h.2];rfl
def Zn {b:UInt8} {s:ByteArray} {i:Nat} (h:i<s.size) (hb:s.data.getD i 0=b) (hn:b∉(toL s).take i):G8 b (toL s)=some ((toL s).take i,(toL s).drop (i+1)):=by
 have e:toL s=(toL s).take i++b::(toL s).drop (i+1):=by rw[<-hb,<-J8 h,Qd9]
 rw[e,QV _ hn,<-e]
def Zf {b:UInt8} {s:ByteArray} {i:Nat} (h:i<s.size) (hb:s.data.getD i 0≠b) (hn:b∉(toL s).take i):b∉(toL s).take (i+1):=by
 have h2:i<s.data.size:=h;have e:s.data.getD i 0=s.data[i]:=by unfold Array.getD;rw[dif_pos h2];rfl
 rw[List.take_succ_eq_append_getElem (by rw[BD];exact h),Qb8,not_or];refine⟨hn,?_⟩;simp only[List.mem_singleton];intro h3;exact hb (by rw[e];exact h3.symm)
end Go.D
namespace Go.D
open Go.Sort
def pv:Ty->Bool
 | .int=>true
 | .bool=>true
 | .str=>true
 | .u8=>true
 | _=>false
def vOf (t:Ty) (x:El t):Value:=match enc t x with
 | [.val v]=>v
 | _=>undef
def Jy:(as:List Ak)->As as->List Value
 | [],_=>[]
 | .v (.el t)::as,x=>vOf t x.1::Jy as x.2
 | _::as,x=>undef::Jy as x.2
def KS:List Ak->Bool
 | []=>true
 | .v (.el t)::as=>pv t&&KS as
 | _::_=>false
def II:List Sh->Bool
 | []=>true
 | .el t::rs=>pv t&&II rs
 | _::_=>false
def Ky:(rs:List Sh)->Ts rs->List Value
 | [],_=>[]
 | .el t::rs,x=>vOf t x.1::Ky rs x.2
 | .sl _::rs,x=>undef::Ky rs x.2
def AfA:List Value->Value
 | [v]=>v
 | vs=>.tuple vs.toArray
def Abi {t:Ty} (h:pv t=true) (x:El t):enc t x=[.val (vOf t x)]/\plain (vOf t x)=true/\(Sh.el t).agg=false:=by
 cases t<;>first|exact⟨rfl,rfl,rfl⟩|cases h
def PA {w:World} {G:Gh}:∀ (as:List Ak) (x:As as),KS as=true->∀ (vs:List Value),vs.length=(Fz as x).length->(∀ (j:Nat) (y:TV),(Fz as x)[j]? = some y->∃ v,vs[j]? = some v/\TVR w G y v)->vs=Jy as x:=by
 intro as
 induction as with
 | nil=>intro x _ vs hl _;exact List.eq_nil_of_length_eq_zero hl
 | cons a as ih=>
  intro x hp vs hl hh;cases a with
  | v s=>
   cases s with
   | el t=>
    simp only[KS,Qa2] at hp;obtain⟨e1,e2,e3⟩:=Abi hp.1 x.1;cases vs with
    | nil=>simp[Fz] at hl
    | cons v vs=>
     obtain⟨v',hv,hr⟩:=hh 0 _ rfl;simp only[List.getElem?_cons_zero,Qa0] at hv;subst hv;have hc:Adk (.v (.el t)) x.1=.v false [.sc (vOf t x.1)]:=by show TV.v (Sh.el t).agg ((enc t x.1).map (toCell none))=_;rw[e1,e3];rfl
     rw[hc] at hr;obtain⟨c,hc1,hc2⟩:=hr;injection hc1 with hc1
     subst hc1;rw[Jy,hc2.1,ih x.2 hp.2 vs (by simpa [Fz] using hl) λj y hj=>hh (j+1) y hj]
   | sl t=>simp[KS] at hp
  | _=>simp[KS] at hp
def Og:∀ (rs:List Sh) (y:Ts rs),II rs=true->JJ rs y=(Ky rs y).map λv=>(false,[FC.val v]):=by
 intro rs
 induction rs with
 | nil=>intro y _;rfl
 | cons s rs ih=>
  intro y hp;cases s with
  | el t=>
   simp only[II,Qa2] at hp;obtain⟨e1,e2,e3⟩:=Abi hp.1 y.1;simp only[JJ,Ky,Qd0,ih y.2 hp.2,e3];congr 2
  | sl t=>simp[II] at hp
def S7:∀ (rs:List Sh) (y:Ts rs),II rs=true->∀ v∈Ky rs y,plain v=true:=by
 intro rs
 induction rs with
 | nil=>intro y _ v hv;cases hv
 | cons s rs ih=>
  intro y hp v hv;cases s with
  | el t=>
   simp only[II,Qa2] at hp;rcases Qd2.1 hv with rfl|hv
   ·exact(Abi hp.1 y.1).2.1
   ·grind
  | sl t=>simp[II] at hp
def Ad4 {w:World}:∀ (vs:List Value),(∀ v∈vs,plain v=true)->ResR w (Ya (vs.map λv=>(false,[FC.val v]))) (AfA vs) (λ_ _ _=>False)
 | [],_=>⟨#[],rfl,rfl,by simp⟩
 | [v],h=>by
  refine⟨_,rfl,⟨rfl,h v (by simp)⟩,O7 (h v (by simp))⟩
 | v::u::vs,h=>by
  refine⟨(v::u::vs).toArray,rfl,by simp,λi p hp=>?_⟩;have hp:((v::u::vs).map λv=>(false,[FC.val v]))[i]? = some p:=hp;rw[Qc5] at hp;cases hq:(v::u::vs)[i]? with
  | none=>rw[hq] at hp;cases hp
  | some x=>
   rw[hq] at hp;injection hp with hp
   subst hp;have:=h x (Qf5 hq);exact⟨x,by simpa using hq,_,rfl,⟨rfl,this⟩,O7 this⟩
def Wo {P:Program} {f:Nat} {S:Fct} (ha:KS S.as=true) (hr:II S.rs=true)
 (h:∀ x,S.pre x->∀ (w:World) (ow:Nat->Own),Base P w ow->Calls P f (Jy S.as x).toArray w λe w'=>e=.returned (AfA (Ky S.rs (S.fn x)))/\∃ n os,w'=grow (w.drewN n) os):S.ok P f:=by
 intro x hx w vs G hB hA;have hvs:vs=(Jy S.as x).toArray:=by
  have:=PA (w:=w) (G:=G) S.as x ha vs.toList (by simpa [Fct.arg] using hA.sz) λj y hj=>by obtain⟨v,hv,hr⟩:=hA.tm j y hj;simp_all
  rw[<-this]
 subst hvs;refine(h x hx w _ hB).mono ?_;rintro e w' ⟨rfl,n,os,rfl⟩;have hold:∀ g,g<w.heap.size->(grow (w.drewN n) os).heap[g]? = w.heap[g]?:=λg hg=>by rw[heap_grow_old _ _ (show g<(w.drewN n).heap.size from hg)];rfl
 refine⟨_,⟨mkR S.rs (S.fn x),[],[]⟩,rfl,rfl,⟨rfl,rfl,⟨rfl,by first|exact DrLe.refl _|exact DrLe.succ _|exact DrLe.add _ _⟩,?_⟩,λg hg=>hold g (hA.lt g (by simp[hg])),λg hg=>(hA.cr g hg).same (hold g (hA.lt g (by simp[hg]))),λ_ _=>False,by simp,by simp,?_,?_,?_⟩
 ·show w.heap.size<=(w.heap++os).size;simp
 ·show ResR _ (Ya (JJ S.rs (S.fn x))) _ _;rw[Og _ _ hr];exact Ad4 _ (S7 _ _ hr)
 ·intro m T hm;cases hm
 ·intro b cs hb;cases hb
def AdB (w:World):w=grow (w.drewN 0) #[]:=by
 rfl
end Go.D
namespace Go.D
open Go.RowKit
def UL (w:World) (r:Array Value) (T:TypeId) (j:Nat) (v:Value):(w.alloc (.cells r T)).setCell ⟨w.heap.size,j,none⟩ v=w.alloc (.cells (r.setIfInBounds j v) T):=by
 rw[setCell_eq_setRow _ _ _ r T (0,0) v (heap_alloc_last w _),World.setRow_alloc_new]
def GJ (w:World) (r:Array Value) (T:TypeId) (j:Nat):(w.alloc (.cells r T)).cell? ⟨w.heap.size,j,none⟩=r[j]?:=cell_of_row _ _ j r T (0,0) (heap_alloc_last w _)
def Q7 (w:World) (r:Array Value) (T:TypeId) (j:Nat):(w.alloc (.cells r T)).frozen? ⟨w.heap.size,j,none⟩=false:=by
 simp
def VO {r:Array Value} {i:Nat} {v:Value} (hi:i<r.size) (t:Nat):(r.setIfInBounds i v)[t]? = if t=i then some v else r[t]?:=by
 grind
structure Neu (w w':World):Prop where
 os:w'.os=w.os
 tape:w'.tape=w.tape
 output:w'.output=w.output
 drawn:DrLe w.drawn w'.drawn
 size:w.heap.size<=w'.heap.size
 old:∀ g,g<w.heap.size->w'.heap[g]? = w.heap[g]?
def Neu.refl (w:World):Neu w w:=⟨rfl,rfl,rfl,DrLe.refl _,Qa9 _,λ_ _=>rfl⟩
def Neu.drew {w w':World} (h:Neu w w'):Neu w w'.drew:=⟨h.os,h.tape,h.output,h.drawn.trans (DrLe.succ _),h.size,h.old⟩
def Neu.alloc {w w':World} (h:Neu w w') (o:Obj):Neu w (w'.alloc o):=⟨h.os,h.tape,h.output,h.drawn,by rw[World.size_alloc];have:=h.size;omega,λg hg=>by
 rw[<-h.old g hg];show(w'.heap.push o)[g]? = _;rw[Array.getElem?_push,Qa5 (by have:=h.size;omega)]⟩
def Neu.set {w w':World} (h:Neu w w') {a:Addr} (ha:w.heap.size<=a.block) (v:Value):Neu w (w'.setCell a v):=⟨h.os,h.tape,h.output,h.drawn,by rw[World.size_setCell];exact h.size,λg hg=>by
 rw[<-h.old g hg];unfold World.setCell;simp only[Array.getElem?_modify];rw[Qa5 o_]⟩
def Neu.bytes {w w':World} (h:Neu w w') (e:TypeId) (s:ByteArray):Neu w (Lib.bytesWorld w' e s):=⟨h.os,h.tape,h.output,h.drawn.trans (DrLe.succ _),by rw[Lib.bytesWorld_size];have:=h.size;omega,λg hg=>by
 rw[<-h.old g hg];exact Lib.bytesWorld_at_old w' e s g (by have:=h.size;omega)⟩
def Neu.put {w w':World} (h:Neu w w') {α:Type} [Inhabited α] (enc:α->Value) {b:Nat} (hb:w.heap.size<=b) (off:Nat) (d:Array α):Neu w (Go.Sort.putRow enc w' b off d):=⟨h.os,h.tape,h.output,h.drawn,by
 unfold Go.Sort.putRow Go.Sort.mapBlock;simp only[Array.size_modify];exact h.size,λg hg=>by
 rw[<-h.old g hg];unfold Go.Sort.putRow Go.Sort.mapBlock;simp only[Array.getElem?_modify];rw[Qa5 o_]⟩
def Neu.trans {a b c:World} (h:Neu a b) (k:Neu b c):Neu a c:=⟨k.os.trans h.os,k.tape.trans h.tape,k.output.trans h.output,h.drawn.trans k.drawn,Qd1 h.size k.size,λg hg=>(k.old g (Qf0 hg h.size)).trans (h.old g hg)⟩
def Neu.below {w w':World} (h:Below w.heap.size w w'):Neu w w':=⟨h.os,h.tape,h.output,trivial,h.size,λg hg=>h.block g hg⟩
def Neu.grow (w:World) (k:Nat) (os:Array Obj):Neu w (Go.Sort.grow (w.drewN k) os):=⟨rfl,rfl,rfl,DrLe.add _ _,by show w.heap.size<=(w.heap++os).size;simp,λg hg=>by
 show(w.heap++os)[g]? = _;rw[Array.getElem?_append_left hg]⟩
def Neu.laid {P:Program} {w w':World} (h:Neu w w') (l:Laid P w):Laid P w' :=
 ⟨λq=>L4 h.old (l.1 q),λq=>let ⟨tp,p,hv⟩:=l.2.1 q;⟨tp,p,L4 h.old hv⟩,λq=>let ⟨tp,p,hv⟩:=l.2.2 q;⟨tp,p,L4 h.old hv⟩⟩
def WQ {P:Program} {w:World} {n:String} {g:Nat} {x:Value} (hg:P.globalNamed n=some g) (h:w.var? P n=some #[x]):w.cell? ⟨g,0,none⟩=some x:=by
 unfold World.var? at h;rw[hg,Option.bind_some] at h;split at h
 ·rename_i cs e z hh;simp only[Qa0] at h;subst h;simp[World.cell?,hh]
 ·cases h
open Go.Sort in
def Ve {P:Program} {f:Nat} {S:Fct} (ha:KS S.as=true) (hr:II S.rs=true)
 (h:∀ x,S.pre x->∀ (w:World) (ow:Nat->Own),Base P w ow->Calls P f (Jy S.as x).toArray w λe w'=>e=.returned (AfA (Ky S.rs (S.fn x)))/\Neu w w'):S.ok P f:=by
 intro x hx w vs G hB hA;have hvs:vs=(Jy S.as x).toArray:=by
  have:=PA (w:=w) (G:=G) S.as x ha vs.toList (by simpa [Fct.arg] using hA.sz) λj y hj=>by obtain⟨v,hv,hr⟩:=hA.tm j y hj;simp_all
  rw[<-this]
 subst hvs;refine(h x hx w _ hB).mono ?_;rintro e w' ⟨rfl,hn⟩;refine⟨_,⟨mkR S.rs (S.fn x),[],[]⟩,rfl,rfl,⟨hn.os,hn.tape,⟨hn.output,hn.drawn⟩,hn.size⟩,λg hg=>hn.old g (hA.lt g (by simp[hg])),λg hg=>(hA.cr g hg).same (hn.old g (hA.lt g (by simp[hg]))),λ_ _=>False,by simp,by simp,?_,?_,?_⟩
 ·show ResR _ (Ya (JJ S.rs (S.fn x))) _ _;rw[Og _ _ hr];exact Ad4 _ (S7 _ _ hr)
 ·intro m T hm;cases hm
 ·intro b cs hb;cases hb
end Go.D
