/-
  The library of the proof, part 4.
-/
import Derived.Test.YtfklkhgmgglloaaGreatVLc
import Derived.Lib.ItoaNum
import Derived.Sort.Grow
import Derived.Deep.Draws
set_option linter.defProp false
set_option linter.unusedVariables false
set_option linter.unusedSimpArgs false
namespace Go.D
def R0 (n:Int):ByteArray:=⟨(Lib.itoa n).toArray⟩
def Ad2 (k:Nat) (s:ByteArray):ByteArray:=if k=0 then s else⟨(Lib.decDigits k).toArray⟩++s
def IM {k:Nat} (h:10<=k):Lib.decDigits k=Lib.decDigits (k / 10)++[UInt8.ofNat (48+k % 10)]:=by
 rw[Lib.decDigits,dif_neg o_]
def ES {k:Nat} (h:k<10):Lib.decDigits k=[UInt8.ofNat (48+k)]:=by
 rw[Lib.decDigits,dif_pos h]
def Sb {k:Nat} {s:ByteArray} (h:0<k):Ad2 k s=Ad2 (k / 10) (⟨#[UInt8.ofNat (48+k % 10)]⟩++s):=by
 unfold Ad2;rw[F_ o_];by_cases h1:k<10
 ·rw[G_ o_,ES h1,Nat.mod_eq_of_lt h1]
 ·rw[F_ o_,IM o_];rw[<-ByteArray.append_assoc];congr 1
def AcE:R0 0=⟨#[48]⟩:=by
 unfold R0 Lib.itoa;rw[F_ o_,ES (by decide)];rfl
def Afu {n:Int} (h:n<0):R0 n=⟨#[45]⟩++Ad2 n.natAbs ⟨#[]⟩:=by
 unfold R0 Lib.itoa Ad2;rw[G_ h,F_ o_];apply ByteArray.ext;simp
def Ae8 {n:Int} (h:0<n):R0 n=Ad2 n.natAbs ⟨#[]⟩:=by
 unfold R0 Lib.itoa Ad2;rw[F_ o_,F_ o_,show n.toNat=n.natAbs from o_];apply ByteArray.ext;simp
def Fw:∀ (f k:Nat),k<10 ^ (f+1)->(Lib.decDigits k).length<=f+1
 | 0,k,h=>by rw[ES o_];simp
 | f+1,k,h=>by
  by_cases h1:k<10
  ·rw[ES h1];simp
  ·rw[IM o_,ak];have:=Fw f (k / 10) (by rw[Nat.pow_succ] at h;omega);simp only[aq,aU];omega
def MV {n:Int} (h0 : -9223372036854775808<=n) (h1:n<=9223372036854775807):(R0 n).size<=20:=by
 have e:(R0 n).size=(Lib.itoa n).length:=by simp[R0,ByteArray.size]
 rw[e];unfold Lib.itoa;split
 ·have:=Fw 18 n.natAbs o_;simp only[aq];omega
 ·have:=Fw 18 n.toNat o_;omega
def AfT (x:Int):(if x.tmod 10<0 then 0-x.tmod 10 else x.tmod 10)=((x.natAbs % 10:Nat):Int):=by
 have h1:(x.tmod 10).natAbs=x.natAbs % 10:=Int.natAbs_tmod x 10;split<;>omega
def AfO (x:Int):(x.tdiv 10).natAbs=x.natAbs / 10:=Int.natAbs_tdiv x 10
def Anr {k:Nat} (h:k<10):IntKind.u8.wrap (IntKind.i64.wrap (48+(k:Int)))=((48+k:Nat):Int):=by
 have e:IntKind.i64.wrap (48+(k:Int))=48+(k:Int):=Aw o_;rw[e];simp only[IntKind.wrap,IntKind.bits,IntKind.signed,Bool.false_and,cD,aP];have:(2 ^ 8:Int)=256:=rfl;omega
def ZH {k:Nat} (h:k<10):List.foldl (λ(r:ByteArray) (n:Int)=>r.push (UInt8.ofNat n.toNat)) ByteArray.empty [((48+k:Nat):Int)]=⟨#[UInt8.ofNat (48+k)]⟩:=by
 simp only[List.foldl,ev];rfl
end Go.D
namespace Go.D
def LX (b:UInt8):List UInt8->List (List UInt8)
 | []=>[[]]
 | x::l=>if x=b then[]::LX b l else match LX b l with
  | []=>[[x]]
  | h::t=>(x::h)::t
def Kr (b:UInt8) (l:List UInt8):LX b l≠[]:=by
 cases l with
 | nil=>simp[LX]
 | cons x l=>
  unfold LX;grind
def M3 (p:List UInt8):List (List UInt8)->List (List UInt8)
 | []=>[p]
 | h::t=>(p++h)::t
def Sa {l:List (List UInt8)} (h:l≠[]):M3 [] l=l:=by
 cases l with
 | nil=>exact absurd rfl h
 | cons x l=>rfl
def EE (b x:UInt8) (l:List UInt8):LX b (x::l)=if x=b then[]::LX b l else M3 [x] (LX b l):=by
 rfl
def TQ (p q:List UInt8) {l:List (List UInt8)} (h:l≠[]):M3 p (M3 q l)=M3 (p++q) l:=by
 cases l with
 | nil=>exact absurd rfl h
 | cons x l=>simp[M3]
def OZ (p h:List UInt8) (t:List (List UInt8)):M3 p (h::t)=(p++h)::t:=rfl
def GX {b:UInt8}:∀ {p:List UInt8} (l:List UInt8),b∉p->LX b (p++b::l)=p::LX b l
 | [],l,_=>by rw[ew,EE,G_ rfl]
 | x::p,l,h=>by simp only[ah,not_or] at h;rw[cj,EE,F_ λe=>h.1 e.symm,GX l h.2];rfl
def JW {b:UInt8}:∀ {p:List UInt8},b∉p->LX b p=[p]
 | [],_=>rfl
 | x::p,h=>by simp only[ah,not_or] at h;rw[EE,F_ λe=>h.1 e.symm,JW h.2];rfl
def Qr (b:UInt8):∀ l:List UInt8,(LX b l).length<=l.length+1/\∀ p∈LX b l,p.length<=l.length
 | []=>by simp[LX]
 | x::l=>by
  obtain⟨h1,h2⟩:=Qr b l;rw[EE];split
  ·grind
  ·cases h:LX b l with
   | nil=>exact absurd h (Kr b l)
   | cons y t=>
    rw[h] at h1 h2;refine⟨by simp only[M3,aq] at h1 ⊢;omega,λp hp=>?_⟩;simp only[M3,ah] at hp;grind
def ofL (l:List UInt8):ByteArray:=⟨l.toArray⟩
def toL (s:ByteArray):List UInt8:=s.data.toList
def AH (s:ByteArray):ofL (toL s)=s:=by simp[ofL,toL]
def BC (l:List UInt8):toL (ofL l)=l:=by simp[ofL,toL]
def AN (s:ByteArray):(toL s).length=s.size:=rfl
def Dd (l:List UInt8):(ofL l).size=l.length:=by simp[ofL,ByteArray.size]
def Au (s t:ByteArray):toL (s++t)=toL s++toL t:=by simp[toL]
def CR (l m:List UInt8):ofL (l++m)=ofL l++ofL m:=by
 rfl
def Az (s:ByteArray) (a b:Nat):toL (s.extract a b)=((toL s).take b).drop a:=by
 simp[toL,List.drop_take]
def spl (b:UInt8) (s:ByteArray):List ByteArray:=(LX b (toL s)).map ofL
def KW (b:UInt8) (s:ByteArray) (a i:Nat):List ByteArray:=if i<=s.size then(M3 (((toL s).take i).drop a) (LX b ((toL s).drop i))).map ofL else[]
def YM (b:UInt8) (s:ByteArray):KW b s 0 0=spl b s:=by
 unfold KW spl;rw[G_ (Nat.zero_le _)];simp[Sa (Kr b _)]
def Se (b:UInt8) {s:ByteArray} {a i:Nat} (h:s.size<i):KW b s a i=[]:=by
 unfold KW;rw[F_ o_]
def Xn (b:UInt8) {s:ByteArray} {a i:Nat} (h:i=s.size):KW b s a i=[s.extract a i]:=by
 subst h;unfold KW;rw[G_ (Y_ _),bQ (l:=toL s) (i:=s.size) (by rw[AN];exact Y_ _)];rw[LX,OZ,cz,bz,<-Az,AH];rfl
def Kc {s:ByteArray} {i:Nat} (h:i<s.size):(toL s).drop i=s.data.getD i 0::(toL s).drop (i+1):=by
 have h2:i<s.data.size:=h;have e:s.data.getD i 0=s.data[i]:=by unfold Array.getD;rw[dif_pos h2];rfl
 rw[List.drop_eq_getElem_cons (by rw[AN];exact h),e];rfl
def AcR {b:UInt8} {s:ByteArray} {a i:Nat} (h:i<s.size) (hb:s.data.getD i 0=b):KW b s a i=s.extract a i::KW b s (i+1) (i+1):=by
 unfold KW;rw[G_ o_,G_ o_,Kc h,EE,G_ hb];rw[OZ,cz,bz,<-Az,AH,bQ (l:=(toL s).take (i+1)) (i:=i+1) (by rw[cX];omega),Sa (Kr b _)]
def Xm {b:UInt8} {s:ByteArray} {a i:Nat} (h:i<s.size) (ha:a<=i) (hb:s.data.getD i 0≠b):KW b s a i=KW b s a (i+1):=by
 unfold KW;rw[G_ o_,G_ o_,Kc h,EE,F_ hb,TQ _ _ (Kr b _)];congr 2;have:(toL s).take (i+1)=(toL s).take i++[s.data.getD i 0]:=by
  have h2:i<s.data.size:=h;have e:s.data.getD i 0=s.data[i]:=by unfold Array.getD;rw[dif_pos h2];rfl
  rw[List.take_succ_eq_append_getElem (by rw[AN];exact h),e];rfl
 rw[this,List.drop_append_of_le_length (by rw[cX,AN];omega)]
def VG (b:UInt8):∀ l:List UInt8,((LX b l).map λp=>p.length+1).sum=l.length+1
 | []=>rfl
 | x::l=>by
  have h:=VG b l;rw[EE];split
  ·grind
  ·cases hq:LX b l with
   | nil=>exact absurd hq (Kr b l)
   | cons y t=>
    rw[hq] at h;simp only[bz,List.sum_cons,M3,ak,aq,aU] at h ⊢;omega
def Fy (b:UInt8) (s:ByteArray):0<(spl b s).length/\(spl b s).length<=s.size+1:=by
 have h:=Qr b (toL s);have h2:=Kr b (toL s);rw[AN] at h;unfold spl;grind
def Rc {b:UInt8} {s x:ByteArray} (h:x∈spl b s):x.size<=s.size:=by
 unfold spl at h;obtain⟨p,hp,rfl⟩:=bG.1 h;rw[Dd];exact(Qr b (toL s)).2 p hp
def Ge (b:UInt8):List UInt8->Option (List UInt8×List UInt8)
 | []=>none
 | x::l=>if x=b then some ([],l) else(Ge b l).map λr=>(x::r.1,r.2)
def Nc {b:UInt8}:∀ {l:List UInt8},b∉l->Ge b l=none
 | [],_=>rfl
 | x::l,h=>by simp only[ah,not_or] at h;rw[Ge,F_ λe=>h.1 e.symm,Nc h.2];rfl
def L0 {b:UInt8}:∀ {p:List UInt8} (l:List UInt8),b∉p->Ge b (p++b::l)=some (p,l)
 | [],l,_=>by rw[ew,Ge,G_ rfl]
 | x::p,l,h=>by simp only[ah,not_or] at h;rw[cj,Ge,F_ λe=>h.1 e.symm,L0 l h.2];rfl
def AcQ {b:UInt8} {s:ByteArray} {i:Nat} (h:i<s.size) (hb:s.data.getD i 0=b) (hn:b∉(toL s).take i):Ge b (toL s)=some ((toL s).take i,(toL s).drop (i+1)):=by
 have e:toL s=(toL s).take i++b::(toL s).drop (i+1):=by rw[<-hb,<-Kc h,di]
 rw[e,L0 _ hn,<-e]
def Aa5 {b:UInt8} {s:ByteArray} {i:Nat} (h:i<s.size) (hb:s.data.getD i 0≠b) (hn:b∉(toL s).take i):b∉(toL s).take (i+1):=by
 have h2:i<s.data.size:=h;have e:s.data.getD i 0=s.data[i]:=by unfold Array.getD;rw[dif_pos h2];rfl
 rw[List.take_succ_eq_append_getElem (by rw[AN];exact h),ae,not_or];refine⟨hn,?_⟩;simp only[List.mem_singleton];intro h3;exact hb (by rw[e];exact h3.symm)
end Go.D
namespace Go.D
open Go.Sort
def pv:Ty->Bool
 | .int=>true
 | .bool=>true
 | .str=>true
 | .u8=>true
 | _=>false
def vOf (t:Ty) (x:El t):Value:=match enc t x with
 | [.val v]=>v
 | _=>undef
def KZ:(as:List Ak)->As as->List Value
 | [],_=>[]
 | .v (.el t)::as,x=>vOf t x.1::KZ as x.2
 | _::as,x=>undef::KZ as x.2
def Ku:List Ak->Bool
 | []=>true
 | .v (.el t)::as=>pv t&&Ku as
 | _::_=>false
def HK:List Sh->Bool
 | []=>true
 | .el t::rs=>pv t&&HK rs
 | _::_=>false
def KG:(rs:List Sh)->Ts rs->List Value
 | [],_=>[]
 | .el t::rs,x=>vOf t x.1::KG rs x.2
 | .sl _::rs,x=>undef::KG rs x.2
def AkF:List Value->Value
 | [v]=>v
 | vs=>.tuple vs.toArray
def Z3 {t:Ty} (h:pv t=true) (x:El t):enc t x=[.val (vOf t x)]/\plain (vOf t x)=true/\(Sh.el t).agg=false:=by
 cases t<;>first|exact⟨rfl,rfl,rfl⟩|cases h
def Yd {w:World} {G:Gh}:∀ (as:List Ak) (x:As as),Ku as=true->∀ (vs:List Value),vs.length=(Du as x).length->(∀ (j:Nat) (y:TV),(Du as x)[j]? = some y->∃ v,vs[j]? = some v/\TVR w G y v)->vs=KZ as x:=by
 intro as
 induction as with
 | nil=>intro x _ vs hl _;exact List.eq_nil_of_length_eq_zero hl
 | cons a as ih=>
  intro x hp vs hl hh;cases a with
  | v s=>
   cases s with
   | el t=>
    simp only[Ku,S_] at hp;obtain⟨e1,e2,e3⟩:=Z3 hp.1 x.1;cases vs with
    | nil=>simp[Du] at hl
    | cons v vs=>
     obtain⟨v',hv,hr⟩:=hh 0 _ rfl;simp only[List.getElem?_cons_zero,Q_] at hv;subst hv;have hc:Aev (.v (.el t)) x.1=.v false [.sc (vOf t x.1)]:=by show TV.v (Sh.el t).agg ((enc t x.1).map (toCell none))=_;rw[e1,e3];rfl
     rw[hc] at hr;obtain⟨c,hc1,hc2⟩:=hr;injection hc1 with hc1
     subst hc1;rw[KZ,hc2.1,ih x.2 hp.2 vs (by simpa [Du] using hl) λj y hj=>hh (j+1) y hj]
   | sl t=>simp[Ku] at hp
  | _=>simp[Ku] at hp
def Ta:∀ (rs:List Sh) (y:Ts rs),HK rs=true->Jq rs y=(KG rs y).map λv=>(false,[FC.val v]):=by
 intro rs
 induction rs with
 | nil=>intro y _;rfl
 | cons s rs ih=>
  intro y hp;cases s with
  | el t=>
   simp only[HK,S_] at hp;obtain⟨e1,e2,e3⟩:=Z3 hp.1 y.1;simp only[Jq,KG,bz,ih y.2 hp.2,e3];congr 2
  | sl t=>simp[HK] at hp
def AbY:∀ (rs:List Sh) (y:Ts rs),HK rs=true->∀ v∈KG rs y,plain v=true:=by
 intro rs
 induction rs with
 | nil=>intro y _ v hv;cases hv
 | cons s rs ih=>
  intro y hp v hv;cases s with
  | el t=>
   simp only[HK,S_] at hp;rcases ah.1 hv with rfl|hv
   ·exact(Z3 hp.1 y.1).2.1
   ·grind
  | sl t=>simp[HK] at hp
def Aj9 {w:World}:∀ (vs:List Value),(∀ v∈vs,plain v=true)->ResR w (AaD (vs.map λv=>(false,[FC.val v]))) (AkF vs) (λ_ _ _=>False)
 | [],_=>⟨#[],rfl,rfl,by simp⟩
 | [v],h=>by
  refine⟨_,rfl,⟨rfl,h v (by simp)⟩,MX (h v (by simp))⟩
 | v::u::vs,h=>by
  refine⟨(v::u::vs).toArray,rfl,by simp,λi p hp=>?_⟩;have hp:((v::u::vs).map λv=>(false,[FC.val v]))[i]? = some p:=hp;rw[cp] at hp;cases hq:(v::u::vs)[i]? with
  | none=>rw[hq] at hp;cases hp
  | some x=>
   rw[hq] at hp;injection hp with hp
   subst hp;have:=h x (fY hq);exact⟨x,by simpa using hq,_,rfl,⟨rfl,this⟩,MX this⟩
def Akd {P:Program} {f:Nat} {S:Fct} (ha:Ku S.as=true) (hr:HK S.rs=true)
 (h:∀ x,S.pre x->∀ (w:World) (ow:Nat->Own),Xh P w ow->Calls P f (KZ S.as x).toArray w λe w'=>e=.returned (AkF (KG S.rs (S.fn x)))/\∃ n os,w'=grow (w.drewN n) os):S.ok P f:=by
 intro x hx w vs G hB hA;have hvs:vs=(KZ S.as x).toArray:=by
  have:=Yd (w:=w) (G:=G) S.as x ha vs.toList (by simpa [Fct.arg] using hA.sz) λj y hj=>by obtain⟨v,hv,hr⟩:=hA.tm j y hj;simp_all
  rw[<-this]
 subst hvs;refine(h x hx w _ hB).mono ?_;rintro e w' ⟨rfl,n,os,rfl⟩;have hold:∀ g,g<w.heap.size->(grow (w.drewN n) os).heap[g]? = w.heap[g]?:=λg hg=>by rw[heap_grow_old _ _ (show g<(w.drewN n).heap.size from hg)];rfl
 refine⟨_,⟨mkR S.rs (S.fn x),[],[]⟩,rfl,rfl,⟨rfl,rfl,⟨rfl,by first|exact DrLe.refl _|exact DrLe.succ _|exact DrLe.add _ _⟩,?_⟩,λg hg=>hold g (hA.lt g (by simp[hg])),λg hg=>(hA.cr g hg).same (hold g (hA.lt g (by simp[hg]))),λ_ _=>False,by simp,by simp,?_,?_,?_⟩
 ·show w.heap.size<=(w.heap++os).size;simp
 ·show ResR _ (AaD (Jq S.rs (S.fn x))) _ _;rw[Ta _ _ hr];exact Aj9 _ (AbY _ _ hr)
 ·intro m T hm;cases hm
 ·intro b cs hb;cases hb
end Go.D
