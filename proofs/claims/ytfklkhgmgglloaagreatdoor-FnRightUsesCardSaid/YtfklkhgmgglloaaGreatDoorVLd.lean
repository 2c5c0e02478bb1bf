/-
  The library of the proof, part 4.
-/
import Derived.Test.YtfklkhgmgglloaaGreatDoorVLc
import Derived.Lib.ItoaNum
import Derived.Sort.Grow
import Derived.Deep.Draws
set_option linter.defProp false
set_option linter.unusedVariables false
set_option linter.unusedSimpArgs false
namespace Go.D
def RL (n:Int):ByteArray:=⟨(Lib.itoa n).toArray⟩
def Agt (k:Nat) (s:ByteArray):ByteArray:=if k=0 then s else⟨(Lib.decDigits k).toArray⟩++s
def Jb {k:Nat} (h:10<=k):Lib.decDigits k=Lib.decDigits (k / 10)++[UInt8.ofNat (48+k % 10)]:=by
 rw[Lib.decDigits,dif_neg O]
def FK {k:Nat} (h:k<10):Lib.decDigits k=[UInt8.ofNat (48+k)]:=by
 rw[Lib.decDigits,dif_pos h]
def RV {k:Nat} {s:ByteArray} (h:0<k):Agt k s=Agt (k / 10) (⟨#[UInt8.ofNat (48+k % 10)]⟩++s):=by
 unfold Agt;rw[F_ O];by_cases h1:k<10
 .rw[G_ O,FK h1,Nat.mod_eq_of_lt h1]
 .rw[F_ O,Jb O];rw[<-ByteArray.append_assoc];congr 1
def Aaf:RL 0=⟨#[48]⟩:=by
 unfold RL Lib.itoa;rw[F_ O,FK (by decide)];rfl
def Afr {n:Int} (h:n<0):RL n=⟨#[45]⟩++Agt n.natAbs ⟨#[]⟩:=by
 unfold RL Lib.itoa Agt;rw[G_ h,F_ O];apply ByteArray.ext;simp
def AfP {n:Int} (h:0<n):RL n=Agt n.natAbs ⟨#[]⟩:=by
 unfold RL Lib.itoa Agt;rw[F_ O,F_ O,show n.toNat=n.natAbs from O];apply ByteArray.ext;simp
def Gd:∀ (f k:Nat),k<10 ^ (f+1)->(Lib.decDigits k).length<=f+1
 | 0,k,h=>by rw[FK O];simp
 | f+1,k,h=>by
  by_cases h1:k<10
  .rw[FK h1];simp
  .rw[Jb O,al];have:=Gd f (k / 10) (by rw[Nat.pow_succ] at h;omega);simp only[aw,bz];omega
def NS {n:Int} (h0 : -9223372036854775808<=n) (h1:n<=9223372036854775807):(RL n).size<=20:=by
 have e:(RL n).size=(Lib.itoa n).length:=by simp[RL,ByteArray.size]
 rw[e];unfold Lib.itoa;split
 .have:=Gd 18 n.natAbs O;simp only[aw];omega
 .have:=Gd 18 n.toNat O;omega
def AfL (x:Int):(if x.tmod 10<0 then 0-x.tmod 10 else x.tmod 10)=((x.natAbs % 10:Nat):Int):=by
 have h1:(x.tmod 10).natAbs=x.natAbs % 10:=Int.natAbs_tmod x 10;split<;>omega
def AeA (x:Int):(x.tdiv 10).natAbs=x.natAbs / 10:=Int.natAbs_tdiv x 10
def AoW {k:Nat} (h:k<10):IntKind.u8.wrap (IntKind.i64.wrap (48+(k:Int)))=((48+k:Nat):Int):=by
 have e:IntKind.i64.wrap (48+(k:Int))=48+(k:Int):=AE O;rw[e];simp only[IntKind.wrap,IntKind.bits,IntKind.signed,Bool.false_and,cD,aS];have:(2 ^ 8:Int)=256:=rfl;omega
def Adk {k:Nat} (h:k<10):List.foldl (λ(r:ByteArray) (n:Int)=>r.push (UInt8.ofNat n.toNat)) ByteArray.empty [((48+k:Nat):Int)]=⟨#[UInt8.ofNat (48+k)]⟩:=by
 simp only[List.foldl,eo];rfl
end Go.D
namespace Go.D
def L3 (b:UInt8):List UInt8->List (List UInt8)
 | []=>[[]]
 | x::l=>if x=b then[]::L3 b l else match L3 b l with
  | []=>[[x]]
  | h::t=>(x::h)::t
def KK (b:UInt8) (l:List UInt8):L3 b l≠[]:=by
 cases l with
 | nil=>simp[L3]
 | cons x l=>
  unfold L3;grind
def Ok (p:List UInt8):List (List UInt8)->List (List UInt8)
 | []=>[p]
 | h::t=>(p++h)::t
def Sq {l:List (List UInt8)} (h:l≠[]):Ok [] l=l:=by
 cases l with
 | nil=>exact absurd rfl h
 | cons x l=>rfl
def Ec (b x:UInt8) (l:List UInt8):L3 b (x::l)=if x=b then[]::L3 b l else Ok [x] (L3 b l):=by
 rfl
def UV (p q:List UInt8) {l:List (List UInt8)} (h:l≠[]):Ok p (Ok q l)=Ok (p++q) l:=by
 cases l with
 | nil=>exact absurd rfl h
 | cons x l=>simp[Ok]
def Pr (p h:List UInt8) (t:List (List UInt8)):Ok p (h::t)=(p++h)::t:=rfl
def GB {b:UInt8}:∀ {p:List UInt8} (l:List UInt8),b∉p->L3 b (p++b::l)=p::L3 b l
 | [],l,_=>by rw[eH,Ec,G_ rfl]
 | x::p,l,h=>by simp only[au,not_or] at h;rw[cy,Ec,F_ λe=>h.1 e.symm,GB l h.2];rfl
def HY {b:UInt8}:∀ {p:List UInt8},b∉p->L3 b p=[p]
 | [],_=>rfl
 | x::p,h=>by simp only[au,not_or] at h;rw[Ec,F_ λe=>h.1 e.symm,HY h.2];rfl
def QH (b:UInt8):∀ l:List UInt8,(L3 b l).length<=l.length+1/\∀ p∈L3 b l,p.length<=l.length
 | []=>by simp[L3]
 | x::l=>by
  obtain⟨h1,h2⟩:=QH b l;rw[Ec];split
  .grind
  .cases h:L3 b l with
   | nil=>exact absurd h (KK b l)
   | cons y t=>
    rw[h] at h1 h2;refine⟨by simp only[Ok,aw] at h1 ⊢;omega,λp hp=>?_⟩;simp only[Ok,au] at hp;grind
def ofL (l:List UInt8):ByteArray:=⟨l.toArray⟩
def I (s:ByteArray):List UInt8:=s.data.toList
def AM (s:ByteArray):ofL (I s)=s:=by simp[ofL,I]
def BS (l:List UInt8):I (ofL l)=l:=by simp[ofL,I]
def AU (s:ByteArray):(I s).length=s.size:=rfl
def Df (l:List UInt8):(ofL l).size=l.length:=by simp[ofL,ByteArray.size]
def Ar (s t:ByteArray):I (s++t)=I s++I t:=by simp[I]
def Dh (l m:List UInt8):ofL (l++m)=ofL l++ofL m:=by
 rfl
def AI (s:ByteArray) (a b:Nat):I (s.extract a b)=((I s).take b).drop a:=by
 simp[I,List.drop_take]
def K (b:UInt8) (s:ByteArray):List ByteArray:=(L3 b (I s)).map ofL
def Lp (b:UInt8) (s:ByteArray) (a i:Nat):List ByteArray:=if i<=s.size then(Ok (((I s).take i).drop a) (L3 b ((I s).drop i))).map ofL else[]
def YY (b:UInt8) (s:ByteArray):Lp b s 0 0=K b s:=by
 unfold Lp K;rw[G_ (Nat.zero_le _)];simp[Sq (KK b _)]
def Tk (b:UInt8) {s:ByteArray} {a i:Nat} (h:s.size<i):Lp b s a i=[]:=by
 unfold Lp;rw[F_ O]
def YC (b:UInt8) {s:ByteArray} {a i:Nat} (h:i=s.size):Lp b s a i=[s.extract a i]:=by
 subst h;unfold Lp;rw[G_ (X_ _),cx (l:=I s) (i:=s.size) (by rw[AU];exact X_ _)];rw[L3,Pr,cS,aY,<-AI,AM];rfl
def Kn {s:ByteArray} {i:Nat} (h:i<s.size):(I s).drop i=s.data.getD i 0::(I s).drop (i+1):=by
 have h2:i<s.data.size:=h;have e:s.data.getD i 0=s.data[i]:=by unfold Array.getD;rw[dif_pos h2];rfl
 rw[List.drop_eq_getElem_cons (by rw[AU];exact h),e];rfl
def Aay {b:UInt8} {s:ByteArray} {a i:Nat} (h:i<s.size) (hb:s.data.getD i 0=b):Lp b s a i=s.extract a i::Lp b s (i+1) (i+1):=by
 unfold Lp;rw[G_ O,G_ O,Kn h,Ec,G_ hb];rw[Pr,cS,aY,<-AI,AM,cx (l:=(I s).take (i+1)) (i:=i+1) (by rw[cZ];omega),Sq (KK b _)]
def Y3 {b:UInt8} {s:ByteArray} {a i:Nat} (h:i<s.size) (ha:a<=i) (hb:s.data.getD i 0≠b):Lp b s a i=Lp b s a (i+1):=by
 unfold Lp;rw[G_ O,G_ O,Kn h,Ec,F_ hb,UV _ _ (KK b _)];congr 2;have:(I s).take (i+1)=(I s).take i++[s.data.getD i 0]:=by
  have h2:i<s.data.size:=h;have e:s.data.getD i 0=s.data[i]:=by unfold Array.getD;rw[dif_pos h2];rfl
  rw[List.take_succ_eq_append_getElem (by rw[AU];exact h),e];rfl
 rw[this,List.drop_append_of_le_length (by rw[cZ,AU];omega)]
def Xm (b:UInt8):∀ l:List UInt8,((L3 b l).map λp=>p.length+1).sum=l.length+1
 | []=>rfl
 | x::l=>by
  have h:=Xm b l;rw[Ec];split
  .grind
  .cases hq:L3 b l with
   | nil=>exact absurd hq (KK b l)
   | cons y t=>
    rw[hq] at h;simp only[aY,List.sum_cons,Ok,al,aw,bz] at h ⊢;omega
def Eg (b:UInt8) (s:ByteArray):0<(K b s).length/\(K b s).length<=s.size+1:=by
 have h:=QH b (I s);have h2:=KK b (I s);rw[AU] at h;unfold K;grind
def RC {b:UInt8} {s x:ByteArray} (h:x∈K b s):x.size<=s.size:=by
 unfold K at h;obtain⟨p,hp,rfl⟩:=bM.1 h;rw[Df];exact(QH b (I s)).2 p hp
def GZ (b:UInt8):List UInt8->Option (List UInt8×List UInt8)
 | []=>none
 | x::l=>if x=b then some ([],l) else(GZ b l).map λr=>(x::r.1,r.2)
def NF {b:UInt8}:∀ {l:List UInt8},b∉l->GZ b l=none
 | [],_=>rfl
 | x::l,h=>by simp only[au,not_or] at h;rw[GZ,F_ λe=>h.1 e.symm,NF h.2];rfl
def Mb {b:UInt8}:∀ {p:List UInt8} (l:List UInt8),b∉p->GZ b (p++b::l)=some (p,l)
 | [],l,_=>by rw[eH,GZ,G_ rfl]
 | x::p,l,h=>by simp only[au,not_or] at h;rw[cy,GZ,F_ λe=>h.1 e.symm,Mb l h.2];rfl
def Aes {b:UInt8} {s:ByteArray} {i:Nat} (h:i<s.size) (hb:s.data.getD i 0=b) (hn:b∉(I s).take i):GZ b (I s)=some ((I s).take i,(I s).drop (i+1)):=by
 have e:I s=(I s).take i++b::(I s).drop (i+1):=by rw[<-hb,<-Kn h,dc]
 rw[e,Mb _ hn,<-e]
def Ad8 {b:UInt8} {s:ByteArray} {i:Nat} (h:i<s.size) (hb:s.data.getD i 0≠b) (hn:b∉(I s).take i):b∉(I s).take (i+1):=by
 have h2:i<s.data.size:=h;have e:s.data.getD i 0=s.data[i]:=by unfold Array.getD;rw[dif_pos h2];rfl
 rw[List.take_succ_eq_append_getElem (by rw[AU];exact h),ah,not_or];refine⟨hn,?_⟩;simp only[List.mem_singleton];intro h3;exact hb (by rw[e];exact h3.symm)
end Go.D
namespace Go.D
open Go.Sort
def pv:Ty->Bool
 | .int=>true
 | .bool=>true
 | .str=>true
 | .u8=>true
 | _=>false
def vOf (t:Ty) (x:El t):Value:=match enc t x with
 | [.val v]=>v
 | _=>undef
def K5:(as:List Ak)->As as->List Value
 | [],_=>[]
 | .v (.el t)::as,x=>vOf t x.1::K5 as x.2
 | _::as,x=>undef::K5 as x.2
def KX:List Ak->Bool
 | []=>true
 | .v (.el t)::as=>pv t&&KX as
 | _::_=>false
def HV:List Sh->Bool
 | []=>true
 | .el t::rs=>pv t&&HV rs
 | _::_=>false
def KM:(rs:List Sh)->Ts rs->List Value
 | [],_=>[]
 | .el t::rs,x=>vOf t x.1::KM rs x.2
 | .sl _::rs,x=>undef::KM rs x.2
def Alv:List Value->Value
 | [v]=>v
 | vs=>.tuple vs.toArray
def Ach {t:Ty} (h:pv t=true) (x:El t):enc t x=[.val (vOf t x)]/\plain (vOf t x)=true/\(Sh.el t).agg=false:=by
 cases t<;>first|exact⟨rfl,rfl,rfl⟩|cases h
def Y5 {w:World} {G:Gh}:∀ (as:List Ak) (x:As as),KX as=true->∀ (vs:List Value),vs.length=(D3 as x).length->(∀ (j:Nat) (y:TV),(D3 as x)[j]? = some y->∃ v,vs[j]? = some v/\TVR w G y v)->vs=K5 as x:=by
 intro as
 induction as with
 | nil=>intro x _ vs hl _;exact List.eq_nil_of_length_eq_zero hl
 | cons a as ih=>
  intro x hp vs hl hh;cases a with
  | v s=>
   cases s with
   | el t=>
    simp only[KX,T_] at hp;obtain⟨e1,e2,e3⟩:=Ach hp.1 x.1;cases vs with
    | nil=>simp[D3] at hl
    | cons v vs=>
     obtain⟨v',hv,hr⟩:=hh 0 _ rfl;simp only[List.getElem?_cons_zero,R_] at hv;subst hv;have hc:AeM (.v (.el t)) x.1=.v false [.sc (vOf t x.1)]:=by show TV.v (Sh.el t).agg ((enc t x.1).map (toCell none))=_;rw[e1,e3];rfl
     rw[hc] at hr;obtain⟨c,hc1,hc2⟩:=hr;injection hc1 with hc1
     subst hc1;rw[K5,hc2.1,ih x.2 hp.2 vs (by simpa [D3] using hl) λj y hj=>hh (j+1) y hj]
   | sl t=>simp[KX] at hp
  | _=>simp[KX] at hp
def UO:∀ (rs:List Sh) (y:Ts rs),HV rs=true->JA rs y=(KM rs y).map λv=>(false,[FC.val v]):=by
 intro rs
 induction rs with
 | nil=>intro y _;rfl
 | cons s rs ih=>
  intro y hp;cases s with
  | el t=>
   simp only[HV,T_] at hp;obtain⟨e1,e2,e3⟩:=Ach hp.1 y.1;simp only[JA,KM,aY,ih y.2 hp.2,e3];congr 2
  | sl t=>simp[HV] at hp
def AbZ:∀ (rs:List Sh) (y:Ts rs),HV rs=true->∀ v∈KM rs y,plain v=true:=by
 intro rs
 induction rs with
 | nil=>intro y _ v hv;cases hv
 | cons s rs ih=>
  intro y hp v hv;cases s with
  | el t=>
   simp only[HV,T_] at hp;rcases au.1 hv with rfl|hv
   .exact(Ach hp.1 y.1).2.1
   .grind
  | sl t=>simp[HV] at hp
def AkK {w:World}:∀ (vs:List Value),(∀ v∈vs,plain v=true)->ResR w (Aai (vs.map λv=>(false,[FC.val v]))) (Alv vs) (λ_ _ _=>False)
 | [],_=>⟨#[],rfl,rfl,by simp⟩
 | [v],h=>by
  refine⟨_,rfl,⟨rfl,h v (by simp)⟩,Nv (h v (by simp))⟩
 | v::u::vs,h=>by
  refine⟨(v::u::vs).toArray,rfl,by simp,λi p hp=>?_⟩;have hp:((v::u::vs).map λv=>(false,[FC.val v]))[i]? = some p:=hp;rw[cz] at hp;cases hq:(v::u::vs)[i]? with
  | none=>rw[hq] at hp;cases hp
  | some x=>
   rw[hq] at hp;injection hp with hp
   subst hp;have:=h x (fJ hq);exact⟨x,by simpa using hq,_,rfl,⟨rfl,this⟩,Nv this⟩
def AdU {P:Program} {f:Nat} {S:Fct} (ha:KX S.as=true) (hr:HV S.rs=true)
 (h:∀ x,S.pre x->∀ (w:World) (ow:Nat->Own),Base P w ow->Calls P f (K5 S.as x).toArray w λe w'=>e=.returned (Alv (KM S.rs (S.fn x)))/\∃ n os,w'=grow (w.drewN n) os):S.ok P f:=by
 intro x hx w vs G hB hA;have hvs:vs=(K5 S.as x).toArray:=by
  have:=Y5 (w:=w) (G:=G) S.as x ha vs.toList (by simpa [Fct.arg] using hA.sz) λj y hj=>by obtain⟨v,hv,hr⟩:=hA.tm j y hj;simp_all
  rw[<-this]
 subst hvs;refine(h x hx w _ hB).mono ?_;rintro e w' ⟨rfl,n,os,rfl⟩;have hold:∀ g,g<w.heap.size->(grow (w.drewN n) os).heap[g]? = w.heap[g]?:=λg hg=>by rw[heap_grow_old _ _ (show g<(w.drewN n).heap.size from hg)];rfl
 refine⟨_,⟨mkR S.rs (S.fn x),[],[]⟩,rfl,rfl,⟨rfl,rfl,⟨rfl,by first|exact DrLe.refl _|exact DrLe.succ _|exact DrLe.add _ _⟩,?_⟩,λg hg=>hold g (hA.lt g (by simp[hg])),λg hg=>(hA.cr g hg).same (hold g (hA.lt g (by simp[hg]))),λ_ _=>False,by simp,by simp,?_,?_,?_⟩
 .show w.heap.size<=(w.heap++os).size;simp
 .show ResR _ (Aai (JA S.rs (S.fn x))) _ _;rw[UO _ _ hr];exact AkK _ (AbZ _ _ hr)
 .intro m T hm;cases hm
 .intro b cs hb;cases hb
def Amr (w:World):w=grow (w.drewN 0) #[]:=by
 rfl
end Go.D
