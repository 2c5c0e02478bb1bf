/-
  The library of the proof, part 4.
-/
import Derived.Test.YtglhphmnikpkfaaGreatDoorVLc
import Derived.Lib.Bytealg
import Derived.Sort.LotA
import Derived.Laws.Strings
import Derived.Lib.ItoaNum
import Derived.Sort.Grow
import Derived.Deep.Draws
import Derived.Deep.WholeRow
import Derived.Laws.CopyRow
import Derived.Laws.NewBlocks
import Derived.Lib.ConvBytes
set_option linter.defProp false
set_option linter.unusedVariables false
set_option linter.unusedSimpArgs false
namespace Go.D
open Go.Lib Go.Sort
def Abu (a b:ByteArray):Int:=compareBytes a.data.toList b.data.toList
def AbJ:∀ l m:List UInt8,compareBytes l m = -1\/compareBytes l m=0\/compareBytes l m=1:=by
 intro l
 induction l with
 | nil=>intro m;cases m<;>simp[compareBytes]
 | cons a l ih=>
  intro m;cases m with
  | nil=>simp[compareBytes]
  | cons b m=>
   simp only[compareBytes];grind
def AhF:∀ {l m:List UInt8},compareBytes l m=0↔l=m:=by
 intro l
 induction l with
 | nil=>intro m;cases m<;>simp[compareBytes]
 | cons a l ih=>
  intro m;cases m with
  | nil=>simp[compareBytes]
  | cons b m=>
   simp only[compareBytes,List.cons.injEq];grind
def Agu:∀ {l m:List UInt8},Op.bytesLess l m=decide (compareBytes l m<0):=by
 intro l
 induction l with
 | nil=>intro m;cases m<;>simp[Op.bytesLess,compareBytes]
 | cons a l ih=>
  intro m;cases m with
  | nil=>simp[Op.bytesLess,compareBytes]
  | cons b m=>
   simp only[Op.bytesLess,compareBytes,ih];grind
def YO (a b:ByteArray):Op.bytesLess a.toList b.toList=decide (Abu a b<0):=by
 rw[Agu,Lib.toList_data,Lib.toList_data];rfl
def Ahl {a b:ByteArray} (h:a.data.toList=b.data.toList):a=b:=by
 cases a;cases b;simpa using Array.toList_inj.1 h
def MU {a b:ByteArray}:Abu a b=0↔a=b:=⟨λh=>Ahl (AhF.1 h),λh=>AhF.2 (by rw[h])⟩
def Ke (a b:ByteArray):Abu a b = -1\/Abu a b=0\/Abu a b=1:=AbJ _ _
def fCmpStr:Fct:=⟨[aT,aT],[rI],λ_=>True,λx=>(Abu x.1 x.2.1,())⟩
def cmpA (a b:Sb_):Int:=if Abu a.host b.host=0 then Abu a.path b.path else Abu a.host b.host
def Vz (a b:Sb_):cmpA a b = -1\/cmpA a b=0\/cmpA a b=1:=by unfold cmpA;split<;>exact Ke _ _
def AfJ {a b:Sb_}:cmpA a b=0↔a=b:=by
 obtain⟨h,p⟩:=a;obtain⟨h',p'⟩:=b;simp only[cmpA,Sb_.mk.injEq];split
 ·rename_i e;rw[MU,MU.1 e];simp
 ·rename_i e;constructor
  ·omega
  ·rintro⟨rfl,_⟩;exact absurd (MU.2 rfl) e
end Go.D
namespace Go.D
def Iv (n:Int):ByteArray:=⟨(Lib.itoa n).toArray⟩
def AaY (k:Nat) (s:ByteArray):ByteArray:=if k=0 then s else⟨(Lib.decDigits k).toArray⟩++s
def Gr {k:Nat} (h:10<=k):Lib.decDigits k=Lib.decDigits (k / 10)++[UInt8.ofNat (48+k % 10)]:=by
 rw[Lib.decDigits,dif_neg o_]
def EL {k:Nat} (h:k<10):Lib.decDigits k=[UInt8.ofNat (48+k)]:=by
 rw[Lib.decDigits,dif_pos h]
def QU {k:Nat} {s:ByteArray} (h:0<k):AaY k s=AaY (k / 10) (⟨#[UInt8.ofNat (48+k % 10)]⟩++s):=by
 unfold AaY;rw[Qa3 o_];by_cases h1:k<10
 ·rw[Qa1 o_,EL h1,Nat.mod_eq_of_lt h1]
 ·rw[Qa3 o_,Gr o_];rw[<-ByteArray.append_assoc];congr 1
def ZH:Iv 0=⟨#[48]⟩:=by
 unfold Iv Lib.itoa;rw[Qa3 o_,EL (by decide)];rfl
def Adb {n:Int} (h:n<0):Iv n=⟨#[45]⟩++AaY n.natAbs ⟨#[]⟩:=by
 unfold Iv Lib.itoa AaY;rw[Qa1 h,Qa3 o_];apply ByteArray.ext;simp
def AcD {n:Int} (h:0<n):Iv n=AaY n.natAbs ⟨#[]⟩:=by
 unfold Iv Lib.itoa AaY;rw[Qa3 o_,Qa3 o_,show n.toNat=n.natAbs from o_];apply ByteArray.ext;simp
def FQ:∀ (f k:Nat),k<10 ^ (f+1)->(Lib.decDigits k).length<=f+1
 | 0,k,h=>by rw[EL o_];simp
 | f+1,k,h=>by
  by_cases h1:k<10
  ·rw[EL h1];simp
  ·rw[Gr o_,Qa4];have:=FQ f (k / 10) (by rw[Nat.pow_succ] at h;omega);simp only[Qa6,Qb7];omega
def Mo {n:Int} (h0 : -9223372036854775808<=n) (h1:n<=9223372036854775807):(Iv n).size<=20:=by
 have e:(Iv n).size=(Lib.itoa n).length:=by simp[Iv,ByteArray.size]
 rw[e];unfold Lib.itoa;split
 ·have:=FQ 18 n.natAbs o_;simp only[Qa6];omega
 ·have:=FQ 18 n.toNat o_;omega
def AcK (x:Int):(if x.tmod 10<0 then 0-x.tmod 10 else x.tmod 10)=((x.natAbs % 10:Nat):Int):=by
 have h1:(x.tmod 10).natAbs=x.natAbs % 10:=Int.natAbs_tmod x 10;split<;>omega
def Ade (x:Int):(x.tdiv 10).natAbs=x.natAbs / 10:=Int.natAbs_tdiv x 10
def AmT {k:Nat} (h:k<10):IntKind.u8.wrap (IntKind.i64.wrap (48+(k:Int)))=((48+k:Nat):Int):=by
 have e:IntKind.i64.wrap (48+(k:Int))=48+(k:Int):=Ag o_;rw[e];simp only[IntKind.wrap,IntKind.bits,IntKind.signed,Bool.false_and,Qd4,Qe5];have:(2 ^ 8:Int)=256:=rfl;omega
def Xx {k:Nat} (h:k<10):List.foldl (λ(r:ByteArray) (n:Int)=>r.push (UInt8.ofNat n.toNat)) ByteArray.empty [((48+k:Nat):Int)]=⟨#[UInt8.ofNat (48+k)]⟩:=by
 simp only[List.foldl,Qg2];rfl
end Go.D
namespace Go.D
def MG (b:UInt8):List UInt8->List (List UInt8)
 | []=>[[]]
 | x::l=>if x=b then[]::MG b l else match MG b l with
  | []=>[[x]]
  | h::t=>(x::h)::t
def J0 (b:UInt8) (l:List UInt8):MG b l≠[]:=by
 cases l with
 | nil=>simp[MG]
 | cons x l=>
  unfold MG;grind
def MH (p:List UInt8):List (List UInt8)->List (List UInt8)
 | []=>[p]
 | h::t=>(p++h)::t
def QB {l:List (List UInt8)} (h:l≠[]):MH [] l=l:=by
 cases l with
 | nil=>exact absurd rfl h
 | cons x l=>rfl
def ES (b x:UInt8) (l:List UInt8):MG b (x::l)=if x=b then[]::MG b l else MH [x] (MG b l):=by
 rfl
def Tt (p q:List UInt8) {l:List (List UInt8)} (h:l≠[]):MH p (MH q l)=MH (p++q) l:=by
 cases l with
 | nil=>exact absurd rfl h
 | cons x l=>simp[MH]
def NY (p h:List UInt8) (t:List (List UInt8)):MH p (h::t)=(p++h)::t:=rfl
def TS {b:UInt8}:∀ {p:List UInt8} (l:List UInt8),b∉p->MG b (p++b::l)=p::MG b l
 | [],l,_=>by rw[Qf8,ES,Qa1 rfl]
 | x::p,l,h=>by simp only[Qd6,not_or] at h;rw[Qe6,ES,Qa3 (λe=>h.1 e.symm),TS l h.2];rfl
def Q9 {b:UInt8}:∀ {p:List UInt8},b∉p->MG b p=[p]
 | [],_=>rfl
 | x::p,h=>by simp only[Qd6,not_or] at h;rw[ES,Qa3 (λe=>h.1 e.symm),Q9 h.2];rfl
def PM (b:UInt8):∀ l:List UInt8,(MG b l).length<=l.length+1/\∀ p∈MG b l,p.length<=l.length
 | []=>by simp[MG]
 | x::l=>by
  obtain⟨h1,h2⟩:=PM b l;rw[ES];split
  ·grind
  ·cases h:MG b l with
   | nil=>exact absurd h (J0 b l)
   | cons y t=>
    rw[h] at h1 h2;refine⟨by simp only[MH,Qa6] at h1 ⊢;omega,λp hp=>?_⟩;simp only[MH,Qd6] at hp;grind
def ofL (l:List UInt8):ByteArray:=⟨l.toArray⟩
def toL (s:ByteArray):List UInt8:=s.data.toList
def DW (s:ByteArray):ofL (toL s)=s:=by simp[ofL,toL]
def JX (l:List UInt8):toL (ofL l)=l:=by simp[ofL,toL]
def BQ (s:ByteArray):(toL s).length=s.size:=rfl
def F5 (l:List UInt8):(ofL l).size=l.length:=by simp[ofL,ByteArray.size]
def Fb (s t:ByteArray):toL (s++t)=toL s++toL t:=by simp[toL]
def Ia (l m:List UInt8):ofL (l++m)=ofL l++ofL m:=by
 rfl
def Bo (s:ByteArray) (a b:Nat):toL (s.extract a b)=((toL s).take b).drop a:=by
 simp[toL,List.drop_take]
def spl (b:UInt8) (s:ByteArray):List ByteArray:=(MG b (toL s)).map ofL
def KA (b:UInt8) (s:ByteArray) (a i:Nat):List ByteArray:=if i<=s.size then(MH (((toL s).take i).drop a) (MG b ((toL s).drop i))).map ofL else[]
def VA (b:UInt8) (s:ByteArray):KA b s 0 0=spl b s:=by
 unfold KA spl;rw[Qa1 (Nat.zero_le _)];simp[QB (J0 b _)]
def Rk (b:UInt8) {s:ByteArray} {a i:Nat} (h:s.size<i):KA b s a i=[]:=by
 unfold KA;rw[Qa3 o_]
def VS (b:UInt8) {s:ByteArray} {a i:Nat} (h:i=s.size):KA b s a i=[s.extract a i]:=by
 subst h;unfold KA;rw[Qa1 (Qa7 _),Qb1 (l:=toL s) (i:=s.size) (by rw[BQ];exact Qa7 _)];rw[MG,NY,Qd3,Qc7,<-Bo,DW];rfl
def Ij {s:ByteArray} {i:Nat} (h:i<s.size):(toL s).drop i=s.data.getD i 0::(toL s).drop (i+1):=by
 have h2:i<s.data.size:=h;have e:s.data.getD i 0=s.data[i]:=by unfold Array.getD;rw[dif_pos h2];rfl
 rw[List.drop_eq_getElem_cons (by rw[BQ];exact h),e];rfl
def Yh {b:UInt8} {s:ByteArray} {a i:Nat} (h:i<s.size) (hb:s.data.getD i 0=b):KA b s a i=s.extract a i::KA b s (i+1) (i+1):=by
 unfold KA;rw[Qa1 o_,Qa1 o_,Ij h,ES,Qa1 hb];rw[NY,Qd3,Qc7,<-Bo,DW,Qb1 (l:=(toL s).take (i+1)) (i:=i+1) (by rw[Qc0];omega),QB (J0 b _)]
def WC {b:UInt8} {s:ByteArray} {a i:Nat} (h:i<s.size) (ha:a<=i) (hb:s.data.getD i 0≠b):KA b s a i=KA b s a (i+1):=by
 unfold KA;rw[Qa1 o_,Qa1 o_,Ij h,ES,Qa3 hb,Tt _ _ (J0 b _)];congr 2;have:(toL s).take (i+1)=(toL s).take i++[s.data.getD i 0]:=by
  have h2:i<s.data.size:=h;have e:s.data.getD i 0=s.data[i]:=by unfold Array.getD;rw[dif_pos h2];rfl
  rw[List.take_succ_eq_append_getElem (by rw[BQ];exact h),e];rfl
 rw[this,List.drop_append_of_le_length (by rw[Qc0,BQ];omega)]
def UX (b:UInt8):∀ l:List UInt8,((MG b l).map λp=>p.length+1).sum=l.length+1
 | []=>rfl
 | x::l=>by
  have h:=UX b l;rw[ES];split
  ·grind
  ·cases hq:MG b l with
   | nil=>exact absurd hq (J0 b l)
   | cons y t=>
    rw[hq] at h;simp only[Qc7,List.sum_cons,MH,Qa4,Qa6,Qb7] at h ⊢;omega
def Eh (b:UInt8) (s:ByteArray):0<(spl b s).length/\(spl b s).length<=s.size+1:=by
 have h:=PM b (toL s);have h2:=J0 b (toL s);rw[BQ] at h;unfold spl;grind
def IY {b:UInt8} {s x:ByteArray} (h:x∈spl b s):x.size<=s.size:=by
 unfold spl at h;obtain⟨p,hp,rfl⟩:=Qg6.1 h;rw[F5];exact(PM b (toL s)).2 p hp
def Ft (b:UInt8):List UInt8->Option (List UInt8×List UInt8)
 | []=>none
 | x::l=>if x=b then some ([],l) else(Ft b l).map λr=>(x::r.1,r.2)
def Me {b:UInt8}:∀ {l:List UInt8},b∉l->Ft b l=none
 | [],_=>rfl
 | x::l,h=>by simp only[Qd6,not_or] at h;rw[Ft,Qa3 (λe=>h.1 e.symm),Me h.2];rfl
def OE {b:UInt8}:∀ {p:List UInt8} (l:List UInt8),b∉p->Ft b (p++b::l)=some (p,l)
 | [],l,_=>by rw[Qf8,Ft,Qa1 rfl]
 | x::p,l,h=>by simp only[Qd6,not_or] at h;rw[Qe6,Ft,Qa3 (λe=>h.1 e.symm),OE l h.2];rfl
def Z9 {b:UInt8} {s:ByteArray} {i:Nat} (h:i<s.size) (hb:s.data.getD i 0=b) (hn:b∉(toL s).take i):Ft b (toL s)=some ((toL s).take i,(toL s).drop (i+1)):=by
 have e:toL s=(toL s).take i++b::(toL s).drop (i+1):=by rw[<-hb,<-Ij h,Qd2]
 rw[e,OE _ hn,<-e]
def Zc {b:UInt8} {s:ByteArray} {i:Nat} (h:i<s.size) (hb:s.data.getD i 0≠b) (hn:b∉(toL s).take i):b∉(toL s).take (i+1):=by
 have h2:i<s.data.size:=h;have e:s.data.getD i 0=s.data[i]:=by unfold Array.getD;rw[dif_pos h2];rfl
 rw[List.take_succ_eq_append_getElem (by rw[BQ];exact h),Qb8,not_or];refine⟨hn,?_⟩;simp only[List.mem_singleton];intro h3;exact hb (by rw[e];exact h3.symm)
end Go.D
namespace Go.D
open Go.Sort
def pv:Ty->Bool
 | .int=>true
 | .bool=>true
 | .str=>true
 | .u8=>true
 | _=>false
def vOf (t:Ty) (x:El t):Value:=match enc t x with
 | [.val v]=>v
 | _=>undef
def HM:(as:List Ak)->As as->List Value
 | [],_=>[]
 | .v (.el t)::as,x=>vOf t x.1::HM as x.2
 | _::as,x=>undef::HM as x.2
def IH:List Ak->Bool
 | []=>true
 | .v (.el t)::as=>pv t&&IH as
 | _::_=>false
def Hj:List Sh->Bool
 | []=>true
 | .el t::rs=>pv t&&Hj rs
 | _::_=>false
def IA:(rs:List Sh)->Ts rs->List Value
 | [],_=>[]
 | .el t::rs,x=>vOf t x.1::IA rs x.2
 | .sl _::rs,x=>undef::IA rs x.2
def Agt:List Value->Value
 | [v]=>v
 | vs=>.tuple vs.toArray
def Aac {t:Ty} (h:pv t=true) (x:El t):enc t x=[.val (vOf t x)]/\plain (vOf t x)=true/\(Sh.el t).agg=false:=by
 cases t<;>first|exact⟨rfl,rfl,rfl⟩|cases h
def NZ {w:World} {G:Gh}:∀ (as:List Ak) (x:As as),IH as=true->∀ (vs:List Value),vs.length=(EH as x).length->(∀ (j:Nat) (y:TV),(EH as x)[j]? = some y->∃ v,vs[j]? = some v/\TVR w G y v)->vs=HM as x:=by
 intro as
 induction as with
 | nil=>intro x _ vs hl _;exact List.eq_nil_of_length_eq_zero hl
 | cons a as ih=>
  intro x hp vs hl hh;cases a with
  | v s=>
   cases s with
   | el t=>
    simp only[IH,Qa2] at hp;obtain⟨e1,e2,e3⟩:=Aac hp.1 x.1;cases vs with
    | nil=>simp[EH] at hl
    | cons v vs=>
     obtain⟨v',hv,hr⟩:=hh 0 _ rfl;simp only[List.getElem?_cons_zero,Qa0] at hv;subst hv;have hc:Aca (.v (.el t)) x.1=.v false [.sc (vOf t x.1)]:=by show TV.v (Sh.el t).agg ((enc t x.1).map (toCell none))=_;rw[e1,e3];rfl
     rw[hc] at hr;obtain⟨c,hc1,hc2⟩:=hr;injection hc1 with hc1
     subst hc1;rw[HM,hc2.1,ih x.2 hp.2 vs (by simpa [EH] using hl) λj y hj=>hh (j+1) y hj]
   | sl t=>simp[IH] at hp
  | _=>simp[IH] at hp
def Ms:∀ (rs:List Sh) (y:Ts rs),Hj rs=true->HH rs y=(IA rs y).map λv=>(false,[FC.val v]):=by
 intro rs
 induction rs with
 | nil=>intro y _;rfl
 | cons s rs ih=>
  intro y hp;cases s with
  | el t=>
   simp only[Hj,Qa2] at hp;obtain⟨e1,e2,e3⟩:=Aac hp.1 y.1;simp only[HH,IA,Qc7,ih y.2 hp.2,e3];congr 2
  | sl t=>simp[Hj] at hp
def Q4:∀ (rs:List Sh) (y:Ts rs),Hj rs=true->∀ v∈IA rs y,plain v=true:=by
 intro rs
 induction rs with
 | nil=>intro y _ v hv;cases hv
 | cons s rs ih=>
  intro y hp v hv;cases s with
  | el t=>
   simp only[Hj,Qa2] at hp;rcases Qd6.1 hv with rfl|hv
   ·exact(Aac hp.1 y.1).2.1
   ·grind
  | sl t=>simp[Hj] at hp
def Adk {w:World}:∀ (vs:List Value),(∀ v∈vs,plain v=true)->ResR w (Vw (vs.map λv=>(false,[FC.val v]))) (Agt vs) (λ_ _ _=>False)
 | [],_=>⟨#[],rfl,rfl,by simp⟩
 | [v],h=>by
  refine⟨_,rfl,⟨rfl,h v (by simp)⟩,Mw (h v (by simp))⟩
 | v::u::vs,h=>by
  refine⟨(v::u::vs).toArray,rfl,by simp,λi p hp=>?_⟩;have hp:((v::u::vs).map λv=>(false,[FC.val v]))[i]? = some p:=hp;rw[Qc3] at hp;cases hq:(v::u::vs)[i]? with
  | none=>rw[hq] at hp;cases hp
  | some x=>
   rw[hq] at hp;injection hp with hp
   subst hp;have:=h x (Qf6 hq);exact⟨x,by simpa using hq,_,rfl,⟨rfl,this⟩,Mw this⟩
def Ut {P:Program} {f:Nat} {S:Fct} (ha:IH S.as=true) (hr:Hj S.rs=true)
 (h:∀ x,S.pre x->∀ (w:World) (ow:Nat->Own),Base P w ow->Calls P f (HM S.as x).toArray w λe w'=>e=.returned (Agt (IA S.rs (S.fn x)))/\∃ n os,w'=grow (w.drewN n) os):S.ok P f:=by
 intro x hx w vs G hB hA;have hvs:vs=(HM S.as x).toArray:=by
  have:=NZ (w:=w) (G:=G) S.as x ha vs.toList (by simpa [Fct.arg] using hA.sz) λj y hj=>by obtain⟨v,hv,hr⟩:=hA.tm j y hj;simp_all
  rw[<-this]
 subst hvs;refine(h x hx w _ hB).mono ?_;rintro e w' ⟨rfl,n,os,rfl⟩;have hold:∀ g,g<w.heap.size->(grow (w.drewN n) os).heap[g]? = w.heap[g]?:=λg hg=>by rw[heap_grow_old _ _ (show g<(w.drewN n).heap.size from hg)];rfl
 refine⟨_,⟨mkR S.rs (S.fn x),[],[]⟩,rfl,rfl,⟨rfl,rfl,⟨rfl,by first|exact DrLe.refl _|exact DrLe.succ _|exact DrLe.add _ _⟩,?_⟩,λg hg=>hold g (hA.lt g (by simp[hg])),λg hg=>(hA.cr g hg).same (hold g (hA.lt g (by simp[hg]))),λ_ _=>False,by simp,by simp,?_,?_,?_⟩
 ·show w.heap.size<=(w.heap++os).size;simp
 ·show ResR _ (Vw (HH S.rs (S.fn x))) _ _;rw[Ms _ _ hr];exact Adk _ (Q4 _ _ hr)
 ·intro m T hm;cases hm
 ·intro b cs hb;cases hb
def Acn (w:World):w=grow (w.drewN 0) #[]:=by
 rfl
end Go.D
namespace Go.D
open Go.RowKit
def Sf (w:World) (r:Array Value) (T:TypeId) (j:Nat) (v:Value):(w.alloc (.cells r T)).setCell ⟨w.heap.size,j,none⟩ v=w.alloc (.cells (r.setIfInBounds j v) T):=by
 rw[setCell_eq_setRow _ _ _ r T (0,0) v (heap_alloc_last w _),World.setRow_alloc_new]
def Fg (w:World) (r:Array Value) (T:TypeId) (j:Nat):(w.alloc (.cells r T)).cell? ⟨w.heap.size,j,none⟩=r[j]?:=cell_of_row _ _ j r T (0,0) (heap_alloc_last w _)
def OU (w:World) (r:Array Value) (T:TypeId) (j:Nat):(w.alloc (.cells r T)).frozen? ⟨w.heap.size,j,none⟩=false:=by
 simp
def TT {r:Array Value} {i:Nat} {v:Value} (hi:i<r.size) (t:Nat):(r.setIfInBounds i v)[t]? = if t=i then some v else r[t]?:=by
 grind
structure Neu (w w':World):Prop where
 os:w'.os=w.os
 tape:w'.tape=w.tape
 output:w'.output=w.output
 drawn:DrLe w.drawn w'.drawn
 size:w.heap.size<=w'.heap.size
 old:∀ g,g<w.heap.size->w'.heap[g]? = w.heap[g]?
def Neu.refl (w:World):Neu w w:=⟨rfl,rfl,rfl,DrLe.refl _,Qa7 _,λ_ _=>rfl⟩
def Neu.drew {w w':World} (h:Neu w w'):Neu w w'.drew:=⟨h.os,h.tape,h.output,h.drawn.trans (DrLe.succ _),h.size,h.old⟩
def Neu.alloc {w w':World} (h:Neu w w') (o:Obj):Neu w (w'.alloc o):=⟨h.os,h.tape,h.output,h.drawn,by rw[World.size_alloc];have:=h.size;omega,λg hg=>by
 rw[<-h.old g hg];show(w'.heap.push o)[g]? = _;rw[Array.getElem?_push,Qa3 (by have:=h.size;omega)]⟩
def Neu.set {w w':World} (h:Neu w w') {a:Addr} (ha:w.heap.size<=a.block) (v:Value):Neu w (w'.setCell a v):=⟨h.os,h.tape,h.output,h.drawn,by rw[World.size_setCell];exact h.size,λg hg=>by
 rw[<-h.old g hg];unfold World.setCell;simp only[Array.getElem?_modify];rw[Qa3 o_]⟩
def Neu.bytes {w w':World} (h:Neu w w') (e:TypeId) (s:ByteArray):Neu w (Lib.bytesWorld w' e s):=⟨h.os,h.tape,h.output,h.drawn.trans (DrLe.succ _),by rw[Lib.bytesWorld_size];have:=h.size;omega,λg hg=>by
 rw[<-h.old g hg];exact Lib.bytesWorld_at_old w' e s g (by have:=h.size;omega)⟩
def Neu.put {w w':World} (h:Neu w w') {α:Type} [Inhabited α] (enc:α->Value) {b:Nat} (hb:w.heap.size<=b) (off:Nat) (d:Array α):Neu w (Go.Sort.putRow enc w' b off d):=⟨h.os,h.tape,h.output,h.drawn,by
 unfold Go.Sort.putRow Go.Sort.mapBlock;simp only[Array.size_modify];exact h.size,λg hg=>by
 rw[<-h.old g hg];unfold Go.Sort.putRow Go.Sort.mapBlock;simp only[Array.getElem?_modify];rw[Qa3 o_]⟩
def Neu.trans {a b c:World} (h:Neu a b) (k:Neu b c):Neu a c:=⟨k.os.trans h.os,k.tape.trans h.tape,k.output.trans h.output,h.drawn.trans k.drawn,Qd8 h.size k.size,λg hg=>(k.old g (Qf3 hg h.size)).trans (h.old g hg)⟩
def Neu.below {w w':World} (h:Below w.heap.size w w'):Neu w w':=⟨h.os,h.tape,h.output,trivial,h.size,λg hg=>h.block g hg⟩
def Neu.grow (w:World) (k:Nat) (os:Array Obj):Neu w (Go.Sort.grow (w.drewN k) os):=⟨rfl,rfl,rfl,DrLe.add _ _,by show w.heap.size<=(w.heap++os).size;simp,λg hg=>by
 show(w.heap++os)[g]? = _;rw[Array.getElem?_append_left hg]⟩
def Neu.laid {P:Program} {w w':World} (h:Neu w w') (l:Laid P w):Laid P w' :=
 ⟨λq=>JT h.old (l.1 q),λq=>let ⟨tp,p,hv⟩:=l.2.1 q;⟨tp,p,JT h.old hv⟩,λq=>let ⟨tp,p,hv⟩:=l.2.2 q;⟨tp,p,JT h.old hv⟩⟩
def T6 {P:Program} {w:World} {n:String} {g:Nat} {x:Value} (hg:P.globalNamed n=some g) (h:w.var? P n=some #[x]):w.cell? ⟨g,0,none⟩=some x:=by
 unfold World.var? at h;rw[hg,Option.bind_some] at h;split at h
 ·rename_i cs e z hh;simp only[Qa0] at h;subst h;simp[World.cell?,hh]
 ·cases h
open Go.Sort in
def Tc {P:Program} {f:Nat} {S:Fct} (ha:IH S.as=true) (hr:Hj S.rs=true)
 (h:∀ x,S.pre x->∀ (w:World) (ow:Nat->Own),Base P w ow->Calls P f (HM S.as x).toArray w λe w'=>e=.returned (Agt (IA S.rs (S.fn x)))/\Neu w w'):S.ok P f:=by
 intro x hx w vs G hB hA;have hvs:vs=(HM S.as x).toArray:=by
  have:=NZ (w:=w) (G:=G) S.as x ha vs.toList (by simpa [Fct.arg] using hA.sz) λj y hj=>by obtain⟨v,hv,hr⟩:=hA.tm j y hj;simp_all
  rw[<-this]
 subst hvs;refine(h x hx w _ hB).mono ?_;rintro e w' ⟨rfl,hn⟩;refine⟨_,⟨mkR S.rs (S.fn x),[],[]⟩,rfl,rfl,⟨hn.os,hn.tape,⟨hn.output,hn.drawn⟩,hn.size⟩,λg hg=>hn.old g (hA.lt g (by simp[hg])),λg hg=>(hA.cr g hg).same (hn.old g (hA.lt g (by simp[hg]))),λ_ _=>False,by simp,by simp,?_,?_,?_⟩
 ·show ResR _ (Vw (HH S.rs (S.fn x))) _ _;rw[Ms _ _ hr];exact Adk _ (Q4 _ _ hr)
 ·intro m T hm;cases hm
 ·intro b cs hb;cases hb
end Go.D
