/-
  The library of the proof, part 4.
-/
import Derived.Test.YtgjngkplonejjaaGreatDoorVLc
import Derived.Lib.Bytealg
import Derived.Sort.LotA
import Derived.Laws.Strings
import Derived.Lib.ItoaNum
import Derived.Sort.Grow
import Derived.Deep.Draws
import Derived.Deep.WholeRow
import Derived.Laws.CopyRow
import Derived.Laws.NewBlocks
import Derived.Lib.ConvBytes
set_option linter.unusedVariables false
set_option linter.unusedSimpArgs false
namespace Go.D
theorem An {n:Int} (h : -9223372036854775808≤n∧n≤9223372036854775807):IntKind.i64.wrap n=n:=by
 rw[IntKind.wrap_i64]
 omega
theorem wrapId' {n:Int} (h1 : -9223372036854775808≤n) (h2:n≤9223372036854775807):IntKind.i64.wrap n=n:=An ⟨h1,h2⟩
theorem XN (a b:ByteArray):(a.toList==b.toList)=decide (a=b):=by
 have h:a.toList=b.toList↔a=b:=by
  constructor
  ·intro h
   rw[ByteArray.toList_eq,ByteArray.toList_eq] at h
   cases a;cases b
   simp only[ByteArray.mk.injEq]
   exact Array.ext' h
  ·rintro rfl;rfl
 by_cases hab:a=b
 ·simp[hab]
 ·have:¬ a.toList=b.toList:=fun e=>hab (h.1 e)
  simp[hab,this]
theorem toNat1 {i:Int} (h:0≤i):(i+1).toNat=i.toNat+1:=by omega
theorem HI {α:Type} [Inhabited α] {l:List α} {i:Nat} (h:i<l.length):l.getD i default=l[i]:=by simp[h]
theorem take_succ {α:Type} [Inhabited α] {l:List α} {i:Nat} (h:i<l.length):l.take (i+1)=l.take i++[l.getD i default]:=by
 rw[HI h,List.take_succ_eq_append_getElem h]
theorem T3 {t:Ty} {l:List (El t)} (h:Sh.good (.sl t) l) {x:El t} (hx:x∈l):Sh.good (.el t) x:=by
 intro c hc
 have h1:=h (.l t l) (by simp[Sh.fc])
 have h2:=h1.2 x hx c hc
 have hr:=Ft hc
 have:=Py t
 exact Sw 7 c (by omega) h2
theorem JX {t:Ty} {l:List (El t)} (h:Sh.good (.sl t) l) {i:Nat} (hi:i<l.length):Sh.good (.el t) (l.getD i default):=T3 h (by rw[HI hi];exact List.getElem_mem hi)
theorem good_len {t:Ty} {l:List (El t)} (h:Sh.good (.sl t) l):l.length≤maxLen:=(h (.l t l) (by simp[Sh.fc])).1
def lessen (left:Int) (n:Nat):Int:=if(n:Int)≤left then left-n else -1
def szL {α:Type} (f:α→Nat) (l:List α):Nat:=l.length+(l.map f).sum
theorem FV {α:Type} [Inhabited α] (f:α→Nat) {l:List α} {i:Nat} (h:i<l.length):((l.take (i+1)).map f).sum=((l.take i).map f).sum+f (l.getD i default):=by
 rw[take_succ h];simp
theorem Et {α:Type} (f:α→Nat) (l:List α) (i:Nat):((l.take i).map f).sum≤(l.map f).sum:=by
 have:(l.map f).sum=((l.take i).map f).sum+((l.drop i).map f).sum:=by rw[←List.sum_append_nat,←List.map_append,List.take_append_drop]
 omega
theorem EF {left:Int} {n:Nat} (h0:0≤left):lessen left n<0↔left<n:=by unfold lessen;split<;>omega
theorem EV {left:Int} {n:Nat} (h:(n:Int)≤left):lessen left n=left-n:=if_pos h
theorem D7 {left:Int} {n:Nat} (h:left<n):lessen left n = -1:=if_neg (by omega)
theorem Ad {α:Type} (f:α→Nat) (l:List α):l.length≤szL f l:=Nat.le_add_right _ _
def S7:Nat→Nat→ByteArray→ByteArray
 | 0,_,out=>out
 | f+1,k,out=>if k=0 then out else S7 f (k / 10) (⟨#[UInt8.ofNat (48+k % 10)]⟩++out)
def GZ (k:Int):ByteArray:=if k≤0 then⟨#[109,48]⟩ else⟨#[109]⟩++S7 64 k.toNat ⟨#[]⟩
def Ai {α:Type} (f:α→Int→α×Int):List α→Int→List α×Int
 | [],k=>([],k)
 | x::xs,k=>((f x k).1::(Ai f xs (f x k).2).1,(Ai f xs (f x k).2).2)
def YN {α:Type} (f:α→Int→α×Int):Prop:=∀ x k,k≤(f x k).2
section
variable {α:Type} {f:α→Int→α×Int}
theorem EW:∀ (xs ys:List α) (k:Int),Ai f (xs++ys) k=((Ai f xs k).1++(Ai f ys (Ai f xs k).2).1,(Ai f ys (Ai f xs k).2).2):=by
 intro xs
 induction xs with
 | nil=>intro ys k;simp[Ai]
 | cons x xs ih=>intro ys k;simp[Ai,ih]
theorem Hz:∀ (xs:List α) (k:Int),(Ai f xs k).1.length=xs.length:=by
 intro xs
 induction xs with
 | nil=>intro k;rfl
 | cons x xs ih=>intro k;simp[Ai,ih]
theorem Gr (h:YN f):∀ (xs:List α) (k:Int),k≤(Ai f xs k).2:=by
 intro xs
 induction xs with
 | nil=>intro k;exact Int.le_refl _
 | cons x xs ih=>intro k;have h1:=h x k;have h2:=ih (f x k).2;simp only[Ai];omega
theorem Kk (h:∀ x k,k+1≤(f x k).2):∀ (xs:List α) (k:Int),k+xs.length≤(Ai f xs k).2:=by
 intro xs
 induction xs with
 | nil=>intro k;simp[Ai]
 | cons x xs ih=>intro k;have h1:=h x k;have h2:=ih (f x k).2;simp only[Ai,List.length_cons];omega
theorem Gq [Inhabited α] {l:List α} {i:Nat} (h:i<l.length) (k:Int):Ai f (l.take (i+1)) k=((Ai f (l.take i) k).1++[(f (l.getD i default) (Ai f (l.take i) k).2).1],(f (l.getD i default) (Ai f (l.take i) k).2).2):=by
 rw[take_succ h,EW];rfl
theorem Dw (h:YN f) (l:List α) (i:Nat) (k:Int):k≤(Ai f (l.take i) k).2∧(Ai f (l.take i) k).2≤(Ai f l k).2:=by
 refine⟨Gr h _ _,?_⟩
 have e:Ai f l k=Ai f (l.take i++l.drop i) k:=by rw[List.take_append_drop]
 rw[e,EW]
 exact Gr h _ _
theorem drop_cons [Inhabited α] {l:List α} {i:Nat} (h:i<l.length):l.drop i=l.getD i default::l.drop (i+1):=by
 rw[HI h];exact List.drop_eq_getElem_cons h
theorem drop_end {α:Type} {l:List α} {i:Nat} (h:l.length≤i):l.drop i=[]:=List.drop_of_length_le h
theorem NV [Inhabited α] {l:List α} {k:Int} (h:(Ai f l k).1=l) {i:Nat} (hi:i<l.length):(f (l.getD i default) (Ai f (l.take i) k).2).1=l.getD i default:=by
 have e:(Ai f l k).1=(Ai f (l.take (i+1)) k).1++(Ai f (l.drop (i+1)) (Ai f (l.take (i+1)) k).2).1:=by
  have:Ai f l k=Ai f (l.take (i+1)++l.drop (i+1)) k:=by rw[List.take_append_drop]
  rw[this,EW]
 rw[e,Gq hi] at h
 have h2:=congrArg (·[i]?) h
 have hl:(Ai f (l.take i) k).1.length=i:=by rw[Hz,List.length_take];omega
 simp only[List.append_assoc] at h2
 rw[List.getElem?_append_right (by omega),hl,Nat.sub_self] at h2
 simp only[List.cons_append,List.nil_append,List.getElem?_cons_zero] at h2
 rw[HI hi]
 rw[List.getElem?_eq_getElem hi,HI hi] at h2
 injection h2
theorem mod_at {A r:List α} {x:α} {g:α→α} {i:Nat} (h:A.length=i):(A++x::r).modify i g=A++g x::r:=by
 subst h
 induction A with
 | nil=>rfl
 | cons a A ih=>simp[List.modify_succ_cons,ih]
theorem getD_at [Inhabited α] {A r:List α} {x:α} {i:Nat} (h:A.length=i):(A++x::r).getD i default=x:=by
 subst h;simp
end
theorem UP {k:Int} (h0:0≤k):List.foldl (fun(r:ByteArray) (n:Int)=>r.push (UInt8.ofNat n.toNat)) ByteArray.empty [IntKind.u8.wrap (IntKind.i64.wrap ((48:Int)+k.tmod (10:Int)))]=⟨#[UInt8.ofNat (48+k.toNat % 10)]⟩:=by
 rw[Int.tmod_eq_emod_of_nonneg h0,An (by omega)]
 have hu:IntKind.u8.wrap (48+k % 10)=48+k % 10:=by
  simp[IntKind.wrap,IntKind.bits,IntKind.signed]
  omega
 rw[hu]
 have:(48+k % 10).toNat=48+k.toNat % 10:=by omega
 rw[List.foldl_cons,List.foldl_nil,this]
 rfl
theorem sz1 (b:UInt8) (out:ByteArray):((⟨#[b]⟩:ByteArray)++out).size=out.size+1:=by
 rw[ByteArray.size_append,Nat.add_comm];rfl
theorem XT {k:Int} (h0:0≤k):IntKind.i64.wrap (k.tdiv 10)=k / 10∨9223372036854775807<k:=by
 rw[Int.tdiv_eq_ediv_of_nonneg h0]
 by_cases h:9223372036854775807<k
 ·exact .inr h
 ·exact .inl (An (by omega))
theorem Qi {f k:Nat} {out:ByteArray} (hk:0<k):S7 (f+1) k out=S7 f (k / 10) (⟨#[UInt8.ofNat (48+k % 10)]⟩++out):=by
 rw[S7,if_neg (by omega)]
theorem SI {f:Nat} {out:ByteArray}:S7 f 0 out=out:=by
 cases f<;>simp[S7]
def fidx {α:Type} (p:α→Bool):List α→Int→Int
 | [],_=>-1
 | c::l,i=>if p c then i else fidx p l (i+1)
theorem Rj {α:Type} (p:α→Bool):∀ (l:List α) (i:Int),0≤i→(0≤fidx p l i↔l.any p=true):=by
 intro l
 induction l with
 | nil=>intro i _;simp[fidx]
 | cons c l ih=>
  intro i hi
  simp only[fidx,List.any_cons,Bool.or_eq_true]
  split
  ·rename_i h;simp[h,hi]
  ·rename_i h;rw[ih (i+1) (by omega)];simp[h]
theorem LH {α:Type} (p:α→Bool):∀ (l:List α) (i:Int),0≤i→fidx p l i<i+l.length∧-1≤fidx p l i:=by
 intro l
 induction l with
 | nil=>intro i h;simp[fidx];omega
 | cons c l ih=>
  intro i hi
  simp only[fidx,List.length_cons]
  have:=ih (i+1) (by omega)
  split<;>omega
theorem Ol {α:Type} {f:α→Int→α×Int} (h:∀ x k,f (f x k).1 k=f x k):∀ (xs:List α) (k:Int),Ai f (Ai f xs k).1 k=Ai f xs k:=by
 intro xs
 induction xs with
 | nil=>intro k;rfl
 | cons x xs ih=>intro k;simp only[Ai,h,ih]
theorem Dk {α:Type} [Inhabited α] (f:α→Nat) {l:List α} {i:Nat} (h:i<l.length):f (l.getD i default)+l.length≤szL f l:=by
 have h1:=Et f l (i+1)
 rw[FV f h] at h1
 simp only[szL];omega
def countIf {α:Type} (p:α→Bool):List α→Int
 | []=>0
 | x::l=>(if p x then 1 else 0)+countIf p l
theorem countIf_le {α:Type} (p:α→Bool) (l:List α):0≤countIf p l∧countIf p l≤l.length:=by
 induction l with
 | nil=>simp[countIf]
 | cons x l ih=>simp only[countIf,List.length_cons];split<;>omega
theorem CX {a b:Bool} (h:a=true) (h':b=true):(a&&b)=true:=by rw[h,h'];rfl
theorem Ny {α:Type} {f:α→Int→α×Int} {g:α→Nat} (h:∀ x k,(f x k).2≤k+64*(g x+1)):∀ (xs:List α) (k:Int),(Ai f xs k).2≤k+64*szL g xs:=by
 intro xs
 induction xs with
 | nil=>intro k;simp[Ai,szL]
 | cons x xs ih=>
  intro k
  have h1:=h x k
  have h2:=ih (f x k).2
  simp only[Ai,szL,List.map_cons,List.sum_cons,List.length_cons] at h2 ⊢
  omega
theorem take_end {α:Type} {l:List α} {i:Nat} (h:l.length≤i):l.take i=l:=List.take_of_length_le h
theorem Ab8 (a:Array UInt8):(ByteArray.mk a).size=a.size:=rfl
end Go.D
namespace Go.D
theorem WB (a b:Nat):Bi a b=(a*b≤140737488355328):=rfl
theorem Xa:(∀ {p:Prop} [inst:Decidable p],(decide p=true)=p)∧(∀ {p:Prop} {x:Decidable p},decide p=false↔¬p)∧(∀ (b:Bool),((!b)=true)=(b=false))∧(∀ (b:Bool),((!b)=false)=(b=true)) ∧
 (∀ {α:Type} [inst:BEq α] [LawfulBEq α] {a b:α},(a != b)=true↔a≠b)∧(∀ {α:Type} [inst:BEq α] [LawfulBEq α] {a b:α},(a != b)=false↔a=b)∧(∀ {α:Type} [inst:BEq α] [LawfulBEq α] {a b:α},(a==b)=true↔a=b) ∧
 (∀ {α:Type} [inst:BEq α] [LawfulBEq α] {a b:α},(a==b)=false↔a≠b)∧(∀ (a b:ByteArray),(a.toList==b.toList)=decide (a=b))∧(∀ {a b:Int},¬a<b↔b≤a)∧(∀ {a b:Int},¬a≤b↔b<a)∧(∀ {p:Prop} [Decidable p],¬¬p↔p)∧(∀ x,wr x=IntKind.i64.wrap x)∧(∀ x,w1 x=IntKind.i64.wrap (x+1))∧∀ i n,inB i n=(0≤i∧i<(n:Int)) :=
 ⟨@decide_eq_true_eq,@decide_eq_false_iff_not,@Bool.not_eq_true',@Bool.not_eq_false',@bne_iff_ne,@bne_eq_false_iff_eq,@beq_iff_eq,@beq_eq_false_iff_ne,@XN,@Int.not_lt,@Int.not_le,@Decidable.not_not,fun _=>rfl,fun _=>rfl,fun _ _=>rfl⟩
theorem XU:(∀ (a:Array UInt8),ByteArray.size { data:=a }=a.size)∧(∀ {α:Type} {as:List α},as.toArray.size=as.length)∧(∀ {α:Type} {a:α} {as:List α},(a::as).length=as.length+1)∧(∀ {α:Type},([]:List α).length=0) ∧
 Int.toNat 0=0∧(∀ {α:Type} {l:List α},List.drop 0 l=l)∧(∀ (b:Bool),(¬b=true)=(b=false))∧(∀ (b:Bool),(¬b=false)=(b=true))∧(∀ {p:Prop} [g:Decidable p] [h:Decidable ¬p],(decide ¬p) = !decide p) ∧
 (∀ {α β:Type} (a:α) (b:β) (c:α) (d:β),((a,b)=(c,d))=(a=c∧b=d))∧(∀ (p:Prop),(p∧True)=p)∧(∀ (p:Prop),(True∧p)=p)∧(∀ (a b:Nat),Bi a b=(a*b≤140737488355328)) ∧
 (∀ {α:Type} (as:List α),[]++as=as)∧∀ (n:Nat),0+n=n :=
 ⟨@Ab8,@List.size_toArray,@List.length_cons,@List.length_nil,Int.toNat_zero,@List.drop_zero,@Bool.not_eq_true,@Bool.not_eq_false,@decide_not,@Prod.mk.injEq,@and_true,@true_and,WB,@List.nil_append,@Nat.zero_add⟩
theorem AH:(type_of% @Xa)∧∀ {α:Type} (a b:α),(a≠b) = ¬a=b:=⟨Xa,fun _ _=>rfl⟩
theorem Acb:(∀ x,wr x=IntKind.i64.wrap x)∧(∀ x,w1 x=IntKind.i64.wrap (x+1))∧∀ i n,inB i n=(0≤i∧i<(n:Int)):=⟨fun _=>rfl,fun _=>rfl,fun _ _=>rfl⟩
theorem Yu:(type_of% @Xa)∧(type_of% @XU)∧∀ {α:Type} (a b:α),(a≠b) = ¬a=b:=⟨Xa,XU,fun _ _=>rfl⟩
abbrev Ac (x:ByteArray):Nat:=x.size
def Ek:Fct:=⟨[aI],[rT],fun(x:Int×Unit)=>0≤x.1∧x.1≤4000000000000000000,fun(x:Int×Unit)=>(GZ x.1,())⟩
abbrev Yr (k:Int):LInv:=⟨[⟨.s,0,true,.el .int⟩,⟨.s,3,true,.el .str⟩],fun _ (x:Int×ByteArray×Unit)=>0≤x.1∧x.1≤k∧∃ f,f+x.2.1.size=64∧x.1.toNat<10 ^ f∧S7 64 k.toNat ⟨#[]⟩=S7 f x.1.toNat x.2.1,fun(x:Int×ByteArray×Unit)=>x.1.toNat⟩
abbrev Wv (t:Ty) (f:El t→Nat) (l:List (El t)) (n:Int):LInv:=⟨[⟨.s,1,true,.el .int⟩,⟨.s,5,true,.el .int⟩],fun _ (x:Int×Int×Unit)=>0≤x.2.1∧x.2.1≤l.length∧0≤x.1∧x.1=n-l.length-((l.take x.2.1.toNat).map f).sum,fun(x:Int×Int×Unit)=>l.length-x.2.1.toNat⟩
abbrev RW (t:Ty) (l:List (El t)):LInv:=⟨[⟨.s,4,true,.el .int⟩,⟨.s,3,true,.sl t⟩],fun _ (x:Int×List (El t)×Unit)=>0≤x.1∧x.1≤l.length∧x.2.1=l.take x.1.toNat++List.replicate (l.length-x.1.toNat) default,fun(x:Int×List (El t)×Unit)=>l.length-x.1.toNat⟩
abbrev RU (t:Ty) (l m:List (El t)):LInv:=⟨[⟨.s,5,true,.el .int⟩],fun _ (x:Int×Unit)=>0≤x.1∧x.1≤l.length∧l.take x.1.toNat=m.take x.1.toNat,fun(x:Int×Unit)=>l.length-x.1.toNat⟩
abbrev Yv (t:Ty) (f:El t→Int→El t×Int) (l:List (El t)) (k:Int):LInv:=⟨[⟨.s,1,true,.el .int⟩,⟨.s,5,true,.el .int⟩,⟨.t,0,true,.sl t⟩],fun _ (x:Int×Int×List (El t)×Unit)=>0≤x.2.1∧x.2.1≤l.length∧x.1=(Ai f (l.take x.2.1.toNat) k).2∧x.2.2.1=(Ai f (l.take x.2.1.toNat) k).1++l.drop x.2.1.toNat,fun(x:Int×Int×List (El t)×Unit)=>l.length-x.2.1.toNat⟩
abbrev Yi (t:Ty) (f:El t→Int→El t×Int) (l:List (El t)) (k:Int):LInv:=⟨[⟨.s,1,true,.el .int⟩,⟨.s,5,true,.el .int⟩],fun _ (x:Int×Int×Unit)=>0≤x.2.1∧x.2.1≤l.length∧x.1=(Ai f (l.take x.2.1.toNat) k).2,fun(x:Int×Int×Unit)=>l.length-x.2.1.toNat⟩
end Go.D
namespace Go.D
set_option linter.unusedSimpArgs false
section
variable {P:Program} {E:Env} {m:Nat} {fn:Func} {t:Ty}
def szF (s:Sh) (f:s.X→Nat):Fct:=⟨[.v s,aI],[rI],fun(x:s.X×Int×Unit)=>Sh.good s x.1∧0≤x.2.1∧x.2.1≤1048576,fun(x:s.X×Int×Unit)=>(lessen x.2.1 (f x.1),())⟩
def szX (t:Ty) (f:El t→Nat) (l:List (El t)) (n:Int):Out :=
 .br (decide (wr (n-(l.length:Int))<0)) (.lf (szF (.sl t) (szL f)) ((-1:Int),()))
  (lpx (Wv t f l n) (wr (n-(l.length:Int)),((0:Int),())) fun(y2:Int×Int×PUnit) bk2=>
   .br (decide (y2.2.1<(l.length:Int)))
    (.ob (inB y2.2.1 l.length)<|.cl (szF (.el t) f) (l.getD y2.2.1.toNat default,y2.1,()) fun z2=>.br (decide (z2.1<0)) (.lf (szF (.sl t) (szL f)) ((-1:Int),())) (.ob (l=l)<|.ob (bk2 (z2.1,(w1 y2.2.1,())))<|.ok))
    (.lf (szF (.sl t) (szL f)) (y2.1,())))
theorem Yn {f:El t→Nat} {l:List (El t)} {n:Int} (hp0:(szF (.sl t) (szL f)).pre (l,n,())):(szX t f l n).holds ((szF (.sl t) (szL f)).ctr (l,n,())).post:=by
 have hp:Sh.good (.sl t) l∧0≤n∧n≤1048576:=hp0
 clear hp0
 refine Ab (fun h1=>lfY ?_) (fun h1=>AG ?_ fun(y2:Int×Int×PUnit) i2=>Ab (fun h3=>Aa ?_ fun o4=>Ae ?_ fun o5=>(Ab (fun h6=>lfY ?_) (fun h6=>Aa rfl fun _=>Aa ?_ fun o7=>trivial))) (fun h3=>lfY ?_))
 all_goals try simp only[AH] at *
 all_goals try simp only[Wv,szF,Yu,Nat.reduceAdd] at *
 ·have:=good_len hp.1;simp only[maxLen] at this;rw[An (by omega)] at h1
  rw[D7 (by simp only[szL];omega)]
 ·have:=good_len hp.1;simp only[maxLen] at this
  rw[An (by omega)] at h1 ⊢
  exact⟨by omega,by omega,h1,by simp⟩
 ·omega
 ·exact⟨JX hp.1 (by omega),by omega,by omega⟩
 ·have hs:=Et f l (y2.2.1.toNat+1)
  rw[FV f (by omega)] at hs
  rw[EF (by omega)] at h6
  rw[D7 (by simp only[szL];omega)]
 ·have hw:IntKind.i64.wrap (y2.2.1+1)=y2.2.1+1:=An (by have:=good_len hp.1;simp only[maxLen] at this;omega)
  have h7:¬ lessen y2.1 (f (l.getD y2.2.1.toNat default))<0:=by omega
  rw[EF (by omega)] at h7
  rw[hw,toNat1 (by omega),FV f (by omega),EV (by omega)]
  exact⟨⟨by omega,by omega,by omega,by omega⟩,by omega⟩
 ·have e:l.take y2.2.1.toNat=l:=List.take_of_length_le (by omega)
  rw[e] at i2
  have hz:((szL f l:Nat):Int)=l.length+(l.map f).sum:=by simp only[szL];omega
  rw[EV (by omega)]
  show y2.1=n-((szL f l:Nat):Int)
  omega
theorem szS {f:El t→Nat} (kp:List Nat) (hE:EOk P E) (hf:P.funcs[m]? = some fn)
 (h:∀ l k,Eg P E (fun|5=>some (Wv t f l k)|_=>none) kp [] fn ((szF (.sl t) (szL f)).arg (l,k,()))=szX t f l k)
 (hc:(fn.body.isSome&&decide (2≤fn.ntmps))=true:=by kernel_rfl):(szF (.sl t) (szL f)).ok P m:=by
 rw[Bool.and_eq_true] at hc
 exact Fct.of (S:=szF (.sl t) (szL f)) (L:=fun x=>fun|5=>some (Wv t f x.1 x.2.1)|_=>none) hE hf hc.1 hc.2 fun x hx=>⟨(h x.1 x.2.1)▸Yn hx⟩
inductive SzI:Type
 | p (k:Nat)
 | c (s:Sh) (f:s.X→Nat) (x:s.X)
def SzI.n:SzI→Nat
 | .p k=>k
 | .c _ f x=>f x
def SzI.ok:SzI→Prop
 | .p k=>k≤maxLen
 | .c s _ x=>Sh.good s x
def X2 (a:Nat):List SzI→Nat
 | []=>a
 | i::is=>X2 (a+i.n) is
def V5:List SzI→Nat
 | []=>0
 | i::is=>X2 i.n is
def DW:List SzI→Prop
 | []=>True
 | i::is=>i.ok∧DW is
def JZ:List SzI→Nat
 | []=>0
 | i::is=>i.n+JZ is
theorem PZ:∀ (is:List SzI) (a:Nat),X2 a is=a+JZ is
 | [],a=>rfl
 | i::is,a=>by rw[X2,PZ is,JZ];omega
theorem Sk (is:List SzI):V5 is=JZ is:=by
 cases is with
 | nil=>rfl
 | cons i is=>rw[V5,PZ];rfl
def szC (s:Sh) (f:s.X→Nat):List SzI→Int→Out
 | [],k=>.lf (szF s f) (k,())
 | .p a::r,k=>.br (decide (wr (k-(a:Int))<0)) (.lf (szF s f) ((-1:Int),())) (szC s f r (wr (k-(a:Int))))
 | .c s' f' x::r,k=>.cl (szF s' f') (x,k,()) fun z=>.br (decide (z.1<0)) (.lf (szF s f) ((-1:Int),())) (szC s f r z.1)
theorem VN {s:Sh} {f:s.X→Nat} {x:s.X} {n:Int}:∀ (is:List SzI) (k:Int),0≤k→k≤1048576→DW is→lessen n (f x)=lessen k (JZ is)→(szC s f is k).holds ((szF s f).ctr (x,n,())).post
 | [],k,h0,h1,_,h=>lfY (by show(k,())=(lessen n (f x),());rw[h,JZ,EV (by omega)];simp)
 | .p a::r,k,h0,h1,ho,h=>by
  have ha:a≤maxLen:=ho.1
  simp only[maxLen] at ha
  have e:wr (k-(a:Int))=k-a:=An (by omega)
  simp only[JZ,SzI.n] at h
  refine Ab (fun hb=>lfY ?_) (fun hb=>?_)
  ·rw[e] at hb
   simp only[decide_eq_true_eq] at hb
   show((-1:Int),())=(lessen n (f x),())
   rw[h,D7 (by omega)]
  ·rw[e] at hb ⊢
   simp only[decide_eq_false_iff_not] at hb
   refine VN r _ (by omega) (by omega) ho.2 ?_
   rw[h]
   unfold lessen
   split<;>split<;>omega
 | .c s' f' y::r,k,h0,h1,ho,h=>by
  simp only[JZ,SzI.n] at h
  refine Ae ⟨ho.1,h0,h1⟩ fun _=>?_
  refine Ab (fun hb=>lfY ?_) (fun hb=>?_)
  ·have hb:decide (lessen k (f' y)<0)=true:=hb
   simp only[decide_eq_true_eq] at hb
   rw[EF h0] at hb
   show((-1:Int),())=(lessen n (f x),())
   rw[h,D7 (by omega)]
  ·have hb:decide (lessen k (f' y)<0)=false:=hb
   simp only[decide_eq_false_iff_not] at hb
   have e:lessen k (f' y)=k-f' y:=by rw[EF h0] at hb;exact EV (by omega)
   rw[EF h0] at hb
   show(szC s f r (lessen k (f' y))).holds _
   rw[e]
   refine VN r _ (by omega) (by omega) ho.2 ?_
   rw[h]
   unfold lessen
   split<;>split<;>omega
theorem szT {s:Sh} {f:s.X→Nat} (kp:List Nat) (is:s.X→List SzI) (hE:EOk P E) (hf:P.funcs[m]? = some fn)
 (h:∀ x k,Eg P E (fun _=>none) kp [] fn ((szF s f).arg (x,k,()))=szC s f (is x) k)
 (hs:∀ x,f x=V5 (is x)) (hg:∀ x,Sh.good s x→DW (is x))
 (hc:(fn.body.isSome&&decide (2≤fn.ntmps))=true:=by kernel_rfl):(szF s f).ok P m:=by
 rw[Bool.and_eq_true] at hc
 refine Fct.of (S:=szF s f) (L:=fun _ _=>none) hE hf hc.1 hc.2 fun x hx=>⟨(h x.1 x.2.1)▸VN (is x.1) x.2.1 hx.2.1 hx.2.2 (hg _ hx.1) ?_⟩
 rw[hs,Sk]
def toF (s:Sh) (f:s.X→Nat):Fct:=⟨[.v s],[s],fun(x:s.X×Unit)=>f x.1≤1048576,fun(x:s.X×Unit)=>(x.1,())⟩
def toX (t:Ty) (f:El t→Nat) (c:Int) (l:List (El t)):Out :=
 .ob ((l.length:Int)=(l.length:Int)∧(0:Int)≤(l.length:Int)∧c*(l.length:Int)≤140737488355328∧(l.length:Int)≤140737488355328) <|
 lpx (RW t l) ((0:Int),(List.replicate (l.length:Int).toNat default,())) fun(y2:Int×List (El t)×PUnit) bk2=>
  .br (decide (y2.1<(l.length:Int)))
   (.ob (inB y2.1 l.length)<|.cl (toF (.el t) f) (l.getD y2.1.toNat default,()) fun z2=>.ob (inB y2.1 y2.2.1.length)<|.ob (y2.1.toNat<y2.2.1.length) <|
    .lt (List (El t)) (y2.2.1.modify y2.1.toNat fun z=>z2.1) fun z3=>.ob (l=l)<|.ob (bk2 (w1 y2.1,(z3,())))<|.ok)
   (.lf (toF (.sl t) (szL f)) (y2.2.1,()))
theorem YE {f:El t→Nat} {c:Int} (hc:0≤c∧c≤100000000) {l:List (El t)} (hp0:(toF (.sl t) (szL f)).pre (l,())):(toX t f c l).holds ((toF (.sl t) (szL f)).ctr (l,())).post:=by
 have hp:szL f l≤1048576:=hp0
 clear hp0
 refine Aa ?_ fun o1=>AG ?_ fun(y2:Int×List (El t)×PUnit) i2=>Ab (fun h3=>Aa ?_ fun o4=>Ae ?_ fun o5=>(Aa ?_ fun o6=>Aa ?_ fun o7=>Co (Aa rfl fun _=>Aa ?_ fun o8=>trivial))) (fun h3=>lfY ?_)
 all_goals try simp only[AH] at *
 all_goals try simp only[RW,toF,Yu,Nat.reduceAdd] at *
 all_goals have hL:=Ad f l
 ·refine⟨by omega,?_,by omega⟩
  have:=Int.mul_le_mul hc.2 (show(l.length:Int)≤1048576 by omega) (by omega) (by omega)
  omega
 ·exact⟨by omega,by omega,by simp⟩
 ·omega
 ·have hs:=Et f l (y2.1.toNat+1)
  rw[FV f (by omega)] at hs
  simp only[szL] at hp;omega
 ·rw[i2.2.2];simp;omega
 ·rw[i2.2.2];simp;omega
 ·have hw:IntKind.i64.wrap (y2.1+1)=y2.1+1:=An (by omega)
  rw[hw,toNat1 (by omega),i2.2.2]
  refine⟨⟨by omega,by omega,?_⟩,by omega⟩
  rw[show l.length-y2.1.toNat=(l.length-(y2.1.toNat+1))+1 from by omega,List.replicate_succ,mod_at (by simp;omega),take_succ (by omega)]
  simp
 ·have e:l.take y2.1.toNat=l:=List.take_of_length_le (by omega)
  rw[i2.2.2,e];simp;omega
theorem toS {f:El t→Nat} (kp:List Nat) (c:Int) (hE:EOk P E) (hf:P.funcs[m]? = some fn)
 (h:∀ l,Eg P E (fun|3=>some (RW t l)|_=>none) kp [] fn ((toF (.sl t) (szL f)).arg (l,()))=toX t f c l)
 (hc:(fn.body.isSome&&decide (1≤fn.ntmps)&&decide (0≤c∧c≤100000000))=true:=by kernel_rfl):(toF (.sl t) (szL f)).ok P m:=by
 rw[Bool.and_eq_true,Bool.and_eq_true] at hc
 exact Fct.of (S:=toF (.sl t) (szL f)) (L:=fun x=>fun|3=>some (RW t x.1)|_=>none) hE hf hc.1.1 hc.1.2 fun x hx=>⟨(h x.1)▸YE (of_decide_eq_true hc.2) hx⟩
structure ToI where
 s:Sh
 f:s.X→Nat
 x:s.X
abbrev ToX:List ToI→Type
 | []=>Unit
 | i::is=>i.s.X×ToX is
def Yt:(is:List ToI)→ToX is
 | []=>()
 | i::is=>(i.x,Yt is)
def toC:(is:List ToI)→(ToX is→Out)→Out
 | [],K=>K ()
 | i::is,K=>.cl (toF i.s i.f) (i.x,()) fun z=>toC is fun zs=>K (z.1,zs)
def D3:List ToI→Prop
 | []=>True
 | i::is=>i.f i.x≤1048576∧D3 is
theorem XL {Q:Post}:∀ (is:List ToI) (K:ToX is→Out),D3 is→(K (Yt is)).holds Q→(toC is K).holds Q
 | [],K,_,h=>h
 | i::is,K,ho,h=>Ae ho.1 fun _=>XL is (fun zs=>K (i.x,zs)) ho.2 h
theorem toT {s:Sh} {f:s.X→Nat} (kp:List Nat) (is:s.X→List ToI) (K:(x:s.X)→ToX (is x)→s.X) (hE:EOk P E) (hf:P.funcs[m]? = some fn)
 (h:∀ x,Eg P E (fun _=>none) kp [] fn ((toF s f).arg (x,()))=toC (is x) fun z=>.lf (toF s f) (K x z,()))
 (hk:∀ x,K x (Yt (is x))=x) (hg:∀ x,f x≤1048576→D3 (is x))
 (hc:(fn.body.isSome&&decide (1≤fn.ntmps))=true:=by kernel_rfl):(toF s f).ok P m:=by
 rw[Bool.and_eq_true] at hc
 exact Fct.of (S:=toF s f) (L:=fun _ _=>none) hE hf hc.1 hc.2 fun x hx=>⟨(h x.1)▸XL (is x.1) _ (hg _ hx) (lfY (by rw[hk];rfl))⟩
def eqF (s:Sh) [DecidableEq s.X] (p:s.X→Nat):Fct:=⟨[.v s,.v s],[rB],fun(x:s.X×s.X×Unit)=>p x.1≤1125899906842624,fun(x:s.X×s.X×Unit)=>(decide (x.1=x.2.1),())⟩
def obB (b:Bool) (x:Bool) (X:Out):Out:=match b with
 | true=>.ob (Value.bool x=Value.bool x) X
 | false=>X
def eqX (t:Ty) [DecidableEq (El t)] (v:Bool) (p:El t→Nat) (l m:List (El t)):Out :=
 .br ((l.length:Int) != (m.length:Int)) (.lf (eqF (.sl t) (szL p)) (false,()))
  (lpx (RU t l m) ((0:Int),()) fun(y2:Int×PUnit) bk2=>
   .br (decide (y2.1<(l.length:Int)))
    (.ob (inB y2.1 l.length)<|.ob (inB y2.1 m.length)<|.cl (eqF (.el t) p) (l.getD y2.1.toNat default,m.getD y2.1.toNat default,()) fun z2=>
     .br (!z2.1) (.lf (eqF (.sl t) (szL p)) (false,()))
      (.ob (l=l)<|.ob (m=m)<|obB v ((l.length:Int) != (m.length:Int))<|.ob (bk2 (w1 y2.1,()))<|.ok))
    (.lf (eqF (.sl t) (szL p)) (true,())))
theorem X9 {Q:Post} {b x:Bool} {X:Out} (h:X.holds Q):(obB b x X).holds Q:=by cases b<;>first|exact h|exact⟨rfl,h⟩
theorem Yb [DecidableEq (El t)] {v:Bool} {p:El t→Nat} {l m:List (El t)} (hp0:(eqF (.sl t) (szL p)).pre (l,m,())):(eqX t v p l m).holds ((eqF (.sl t) (szL p)).ctr (l,m,())).post:=by
 have hp0:szL p l≤1125899906842624:=hp0
 have hp:l.length≤1125899906842624:=Nat.le_trans (Ad p l) hp0
 have hm:∀ i,i<l.length→p (l.getD i default)≤1125899906842624:=fun i hi=>by have:=Dk p hi;omega
 clear hp0
 refine Ab (fun h1=>lfY ?_) (fun h1=>AG ?_ fun(y2:Int×PUnit) i2=>Ab (fun h3=>Aa ?_ fun o4=>Aa ?_ fun o4'=>Ae ?_ fun o5=>(Ab (fun h6=>lfY ?_) (fun h6=>Aa rfl fun _=>Aa rfl fun _=>X9 (Aa ?_ fun o7=>trivial)))) (fun h3=>lfY ?_))
 all_goals try simp only[AH] at *
 all_goals try simp only[RU,eqF,Yu,Nat.reduceAdd] at *
 ·rw[decide_eq_false];rintro rfl;omega
 ·exact⟨by omega,by omega,by simp⟩
 ·omega
 ·omega
 ·exact hm _ (by omega)
 ·rw[decide_eq_false];rintro rfl;exact absurd rfl h6
 ·have hw:IntKind.i64.wrap (y2.1+1)=y2.1+1:=An (by omega)
  rw[hw,toNat1 (by omega)]
  refine⟨⟨by omega,by omega,?_⟩,by omega⟩
  rw[take_succ (by omega),take_succ (by omega),i2.2.2,h6]
 ·have e:l.take y2.1.toNat=l:=List.take_of_length_le (by omega)
  have e2:m.take y2.1.toNat=m:=List.take_of_length_le (by omega)
  rw[decide_eq_true];rw[←e,←e2,i2.2.2]
theorem eqS [DecidableEq (El t)] {p:El t→Nat} (kp:List Nat) (v:Bool) (hE:EOk P E) (hf:P.funcs[m]? = some fn)
 (h:∀ l r,Eg P E (fun|4=>some (RU t l r)|_=>none) kp [] fn ((eqF (.sl t) (szL p)).arg (l,r,()))=eqX t v p l r)
 (hc:(fn.body.isSome&&decide (2≤fn.ntmps))=true:=by kernel_rfl):(eqF (.sl t) (szL p)).ok P m:=by
 rw[Bool.and_eq_true] at hc
 exact Fct.of (S:=eqF (.sl t) (szL p)) (L:=fun x=>fun|4=>some (RU t x.1 x.2.1)|_=>none) hE hf hc.1 hc.2 fun x hx=>⟨(h x.1 x.2.1)▸Yb hx⟩
inductive EqI:Type
 | s (x y:ByteArray)
 | i (x y:Int)
 | b (x y:Bool)
 | c (s:Sh) (d:DecidableEq s.X) (p:s.X→Nat) (x y:s.X)
def EqI.tru:EqI→Prop
 | .s x y=>x=y
 | .i x y=>x=y
 | .b x y=>x=y
 | .c _ _ _ x y=>x=y
def EqI.ok:EqI→Prop
 | .c _ _ p x _=>p x≤1125899906842624
 | _=>True
def Ce:List EqI→Prop
 | []=>True
 | i::is=>i.tru∧Ce is
def D0:List EqI→Prop
 | []=>True
 | i::is=>i.ok∧D0 is
def eqC (s:Sh) [DecidableEq s.X] (p:s.X→Nat):List EqI→Out
 | []=>.lf (eqF s p) (true,())
 | .s u v::r=>.br (!u.toList==v.toList) (.lf (eqF s p) (false,())) (eqC s p r)
 | .i u v::r=>.br (u != v) (.lf (eqF s p) (false,())) (eqC s p r)
 | .b u v::r=>.br (!u==v) (.lf (eqF s p) (false,())) (eqC s p r)
 | .c s' d p' x y::r=>.cl (@eqF s' d p') (x,y,()) fun z=>.br (!z.1) (.lf (eqF s p) (false,())) (eqC s p r)
theorem XK {s:Sh} [DecidableEq s.X] {p:s.X→Nat} {x y:s.X}:∀ (is:List EqI),D0 is→(x=y↔Ce is)→(eqC s p is).holds ((eqF s p).ctr (x,y,())).post
 | [],_,h=>lfY (by show(true,())=(decide (x=y),());rw[decide_eq_true (h.2 trivial)])
 | i::r,ho,h=>by
  have no:¬ i.tru→(Out.lf (eqF s p) (false,())).holds ((eqF s p).ctr (x,y,())).post:=fun hb=>lfY (by show(false,())=(decide (x=y),());rw[decide_eq_false fun e=>hb (h.1 e).1])
  have yes:i.tru→(eqC s p r).holds ((eqF s p).ctr (x,y,())).post:=fun hb=>XK r ho.2 ⟨fun e=>(h.1 e).2,fun e=>h.2 ⟨hb,e⟩⟩
  cases i with
  | s u v=>exact Ab (fun hb=>no (by simpa [XN,EqI.tru] using hb)) (fun hb=>yes (by simpa [XN,EqI.tru] using hb))
  | i u v=>exact Ab (fun hb=>no (by simpa [EqI.tru] using hb)) (fun hb=>yes (by simpa [EqI.tru] using hb))
  | b u v=>exact Ab (fun hb=>no (by simpa [EqI.tru] using hb)) (fun hb=>yes (by simpa [EqI.tru] using hb))
  | c s' d p' u v=>exact Ae ho.1 fun _=>Ab (fun hb=>no (by simpa [EqI.tru,eqF] using hb)) (fun hb=>yes (by simpa [EqI.tru,eqF] using hb))
theorem eqT {s:Sh} [DecidableEq s.X] {p:s.X→Nat} (kp:List Nat) (is:s.X→s.X→List EqI) (hE:EOk P E) (hf:P.funcs[m]? = some fn)
 (h:∀ x y,Eg P E (fun _=>none) kp [] fn ((eqF s p).arg (x,y,()))=eqC s p (is x y))
 (hs:∀ x y,x=y↔Ce (is x y)) (hg:∀ x y,p x≤1125899906842624→D0 (is x y))
 (hc:(fn.body.isSome&&decide (2≤fn.ntmps))=true:=by kernel_rfl):(eqF s p).ok P m:=by
 rw[Bool.and_eq_true] at hc
 exact Fct.of (S:=eqF s p) (L:=fun _ _=>none) hE hf hc.1 hc.2 fun x hx=>⟨(h x.1 x.2.1)▸XK (is x.1 x.2.1) (hg _ _ hx) (hs _ _)⟩
end
inductive Fe (α:Type):Type
 | s (g:α→ByteArray) (u:α→ByteArray→α)
 | i (g:α→Int) (u:α→Int→α)
 | b (g:α→Bool) (u:α→Bool→α)
 | l (s:Sh) (n:s.X→Nat) (f:s.X→Int→s.X×Int) (g:α→s.X) (u:α→s.X→α)
def Bd {α:Type} (n:α→Nat) (f:α→Int→α×Int):Prop:=∀ x k,k≤(f x k).2∧(f x k).2≤k+64*n x∧f (f x k).1 k=f x k
section
variable {α:Type}
def Fe.mk1:Fe α→α→Int→α×Int
 | .s _ u,x,k=>(u x (GZ k),k+1)
 | .i _ u,x,k=>(u x k,k+1)
 | .b _ u,x,k=>(u x (k.tmod 3==0),k+1)
 | .l _ _ f g u,x,k=>(u x (f (g x) k).1,(f (g x) k).2)
def mkA:List (Fe α)→α→Int→α×Int
 | [],x,k=>(x,k)
 | d::r,x,k=>mkA r (d.mk1 x k).1 (d.mk1 x k).2
def Fe.law:Fe α→Prop
 | .s g u=>(∀ x v,g (u x v)=v)∧∀ x,u x (g x)=x
 | .i g u=>(∀ x v,g (u x v)=v)∧∀ x,u x (g x)=x
 | .b g u=>(∀ x v,g (u x v)=v)∧∀ x,u x (g x)=x
 | .l _ n f g u=>Bd n f∧(∀ x v,g (u x v)=v)∧∀ x,u x (g x)=x
def Fe.same:Fe α→α→α→Prop
 | .s g _,x,y=>g x=g y
 | .i g _,x,y=>g x=g y
 | .b g _,x,y=>g x=g y
 | .l _ _ _ g _,x,y=>g x=g y
def XV (d:Fe α):List (Fe α)→Prop
 | []=>True
 | e::r=>(∀ x k,d.same (e.mk1 x k).1 x)∧(∀ x k,e.same (d.mk1 x k).1 x)∧XV d r
def Laws:List (Fe α)→Prop
 | []=>True
 | d::r=>d.law∧XV d r∧Laws r
def Fe.isv:Fe α→α→Int→Prop
 | .s g _,x,k=>g x=GZ k
 | .i g _,x,k=>g x=k
 | .b g _,x,k=>g x=(k.tmod 3==0)
 | .l _ _ f g _,x,k=>(f (g x) k).1=g x
def Fe.cost:Fe α→α→Nat
 | .l _ n _ g _,x=>64*n (g x)
 | _,_=>1
def C7:List (Fe α)→α→Nat
 | [],_=>0
 | d::r,x=>d.cost x+C7 r x
def Sz:List (Fe α)→Bool
 | []=>false
 | .l ..::r=>Sz r
 | _::_=>true
theorem Fe.same_trans {d:Fe α} {x y z:α} (h1:d.same x y) (h2:d.same y z):d.same x z:=by
 cases d<;>exact Eq.trans h1 h2
theorem Fc {d:Fe α} (h:d.law) (x:α) (k:Int):k≤(d.mk1 x k).2:=by
 cases d with
 | l s n f g u=>exact(h.1 _ _).1
 | _=>exact Int.le_add_one (Int.le_refl _)
theorem CW:∀ {r:List (Fe α)},Laws r→∀ (x:α) (k:Int),k≤(mkA r x k).2
 | [],_,x,k=>Int.le_refl _
 | d::r,h,x,k=>Int.le_trans (Fc h.1 x k) (CW h.2.2 _ _)
theorem LB:∀ {r:List (Fe α)},Laws r→Sz r=true→∀ (x:α) (k:Int),k+1≤(mkA r x k).2
 | d::r,h,hp,x,k=>by
  have h2:=CW h.2.2 (d.mk1 x k).1 (d.mk1 x k).2
  cases d with
  | l s n f g u=>exact Int.le_trans (Int.add_le_add_right (Fc h.1 x k) 1) (LB h.2.2 hp _ _)
  | _=>exact h2
theorem JR {d:Fe α}:∀ {r:List (Fe α)},XV d r→∀ (x:α) (k:Int),d.same (mkA r x k).1 x
 | [],_,x,k=>by cases d<;>rfl
 | e::r,h,x,k=>Fe.same_trans (JR h.2.2 _ _) (h.1 x k)
theorem Ux {d:Fe α} (h:d.law) {x:α} {k:Int} (hv:d.isv x k):(d.mk1 x k).1=x:=by
 cases d with
 | s g u=>show u x (GZ k)=x;rw[←(hv:g x=GZ k)];exact h.2 x
 | i g u=>
  show u x k=x
  have hv:g x=k:=hv
  conv=>lhs;rw[←hv]
  exact h.2 x
 | b g u=>show u x (k.tmod 3==0)=x;rw[←(hv:g x=(k.tmod 3==0))];exact h.2 x
 | l s n f g u=>show u x (f (g x) k).1=x;rw[(hv:(f (g x) k).1=g x)];exact h.2.2 x
theorem Uo {d:Fe α} (h:d.law) {x y:α} {k:Int} (hs:d.same y (d.mk1 x k).1):d.isv y k∧(d.mk1 y k).2=(d.mk1 x k).2:=by
 cases d with
 | s g u=>exact⟨(hs:g y=g (u x (GZ k))).trans (h.1 _ _),rfl⟩
 | i g u=>exact⟨(hs:g y=g (u x k)).trans (h.1 _ _),rfl⟩
 | b g u=>exact⟨(hs:g y=g (u x (k.tmod 3==0))).trans (h.1 _ _),rfl⟩
 | l s n f g u=>
  have e:g y=(f (g x) k).1:=(hs:g y=g (u x (f (g x) k).1)).trans (h.2.1 _ _)
  have e2:=(h.1 (g x) k).2.2
  rw[←e] at e2
  refine⟨?_,?_⟩
  ·show(f (g y) k).1=g y
   rw[e2,e]
  ·show(f (g y) k).2=(f (g x) k).2
   rw[e2]
theorem MK {d:Fe α} {r:List (Fe α)} (h:Laws (d::r)) {x:α} {k:Int} (hx:(mkA (d::r) x k).1=x):d.isv x k∧(d.mk1 x k).1=x∧(mkA r x (d.mk1 x k).2).1=x:=by
 have hs:=JR h.2.1 (d.mk1 x k).1 (d.mk1 x k).2
 have hx':(mkA r (d.mk1 x k).1 (d.mk1 x k).2).1=x:=hx
 rw[hx'] at hs
 have hv:=(Uo h.1 hs).1
 have e:=Ux h.1 hv
 rw[e] at hx'
 exact⟨hv,e,hx'⟩
theorem JO:∀ {r:List (Fe α)},Laws r→∀ (x:α) (k:Int),mkA r (mkA r x k).1 k=mkA r x k
 | [],_,x,k=>rfl
 | d::r,h,x,k=>by
  have hs:=JR h.2.1 (d.mk1 x k).1 (d.mk1 x k).2
  obtain⟨hv,e2⟩:=Uo h.1 hs
  have e:=Ux h.1 hv
  have ih:=JO h.2.2 (d.mk1 x k).1 (d.mk1 x k).2
  show mkA r (d.mk1 (mkA r (d.mk1 x k).1 (d.mk1 x k).2).1 k).1 (d.mk1 (mkA r (d.mk1 x k).1 (d.mk1 x k).2).1 k).2=mkA r (d.mk1 x k).1 (d.mk1 x k).2
  rw[e,e2,ih]
theorem PB {d:Fe α} {x y:α} (h:d.same x y):d.cost x=d.cost y:=by
 cases d with
 | l s n f g u=>show 64*n (g x)=64*n (g y);rw[(h:g x=g y)]
 | _=>rfl
theorem XH {d:Fe α} (h:d.law) (x:α) (k:Int):(d.mk1 x k).2≤k+d.cost x:=by
 cases d with
 | l s n f g u=>have:=(h.1 (g x) k).2.1;show(f (g x) k).2≤k+((64*n (g x):Nat):Int);omega
 | _=>exact Int.le_refl _
theorem IJ {d:Fe α}:∀ {r:List (Fe α)},XV d r→∀ (x:α) (k:Int),C7 r (d.mk1 x k).1=C7 r x
 | [],_,_,_=>rfl
 | e::r,h,x,k=>by
  show e.cost _+C7 r _=e.cost _+C7 r _
  rw[PB (h.2.1 x k),IJ h.2.2 x k]
theorem Pn:∀ {r:List (Fe α)},Laws r→∀ (x:α) (k:Int),(mkA r x k).2≤k+C7 r x
 | [],_,x,k=>by show k≤k+((0:Nat):Int);omega
 | d::r,h,x,k=>by
  have h1:=XH h.1 x k
  have h2:=Pn h.2.2 (d.mk1 x k).1 (d.mk1 x k).2
  rw[IJ h.2.1] at h2
  show(mkA r (d.mk1 x k).1 (d.mk1 x k).2).2≤k+((d.cost x+C7 r x:Nat):Int)
  omega
theorem bdV {n:α→Nat} {ds:List (Fe α)} (h:Laws ds) (hc:∀ x,C7 ds x≤64*n x):Bd n (mkA ds):=fun x k=>⟨CW h x k,by have:=Pn h x k;have:=hc x;omega,JO h x k⟩
theorem bdL {n:α→Nat} {ds:List (Fe α)} (h:Laws ds) (hc:∀ x,C7 ds x≤64*(n x+1)):Bd (szL n) (Ai (mkA ds)):=fun l k=>
 ⟨Gr (fun x k=>CW h x k) l k,Ny (fun x k=>by have:=Pn h x k;have:=hc x;omega) l k,Ol (fun x k=>JO h x k) l k⟩
end
section
variable {P:Program} {E:Env} {m:Nat} {fn:Func} {t:Ty} {s:Sh}
def mkF (s:Sh) (f:s.X→Int→s.X×Int):MS:=⟨s,fun(x:s.X) (k:Int)=>0≤k∧(f x k).2≤4000000000000000000,f⟩
def heF (s:Sh) (f:s.X→Int→s.X×Int):Fct:=⟨[.v s,aI],[rI],fun(x:s.X×Int×Unit)=>0≤x.2.1∧(f x.1 x.2.1).2≤4000000000000000000∧(f x.1 x.2.1).1=x.1,fun(x:s.X×Int×Unit)=>((f x.1 x.2.1).2,())⟩
def obI (b:Bool) (X:Out):Out:=match b with
 | true=>.ob (Value.int .i64 0=Value.int .i64 0) X
 | false=>X
def mkC (t:Ty) (v:Bool) (bk:Int×Int×List (El t)×PUnit→Prop):List (Fe (El t))→Int→List (El t)→Int→Out
 | [],i,l,k=>obI v<|.ob (bk (k,(w1 i,(l,())))) .ok
 | .s g u::r,i,l,k=>.cl Ek (k,()) fun z=>.ob (inB i l.length)<|.ob (i.toNat<l.length)<|.lt (List (El t)) (l.modify i.toNat fun a=>u a z.1) fun l'=>mkC t v bk r i l' (w1 k)
 | .i g u::r,i,l,k=>.ob (inB i l.length)<|.ob (i.toNat<l.length)<|.lt (List (El t)) (l.modify i.toNat fun a=>u a k) fun l'=>mkC t v bk r i l' (w1 k)
 | .b g u::r,i,l,k=>.ob ((3:Int)≠0)<|.ob (inB i l.length)<|.ob (i.toNat<l.length)<|.lt (List (El t)) (l.modify i.toNat fun a=>u a (k.tmod 3==0)) fun l'=>mkC t v bk r i l' (w1 k)
 | .l s n f g u::r,i,l,k=>.ob (inB i l.length)<|.ob (i.toNat<l.length)<|.ob ((mkF s f).pre (g (l.getD i.toNat default)) k)<|.lt (s.X×Int) ((mkF s f).fn (g (l.getD i.toNat default)) k) fun z=>.lt (List (El t)) (l.modify i.toNat fun a=>u a z.1) fun l'=>mkC t v bk r i l' z.2
theorem HR {k:Int} (h0:0≤k) (h1:k≤4000000000000000000):w1 k=k+1:=An ⟨by omega,by omega⟩
theorem XI {v:Bool} {bk:Int×Int×List (El t)×PUnit→Prop} {Q:Post} {A R:List (El t)} {i:Int} (h0:0≤i) (hA:A.length=i.toNat) :
 ∀ (ds:List (Fe (El t))) (x:El t) (k:Int),Laws ds→0≤k→(mkA ds x k).2≤4000000000000000000→bk ((mkA ds x k).2,(w1 i,(A++(mkA ds x k).1::R,())))→(mkC t v bk ds i (A++x::R) k).holds Q
 | [],x,k,_,_,_,hb=>by cases v<;>first|exact Aa hb fun _=>trivial|exact Aa rfl fun _=>Aa hb fun _=>trivial
 | d::r,x,k,hl,hk,hm,hb=>by
  have hin:inB i (A++x::R).length:=⟨h0,by simp only[List.length_append,List.length_cons];omega⟩
  have hlt:i.toNat<(A++x::R).length:=by simp only[List.length_append,List.length_cons];omega
  have hmo:=CW hl.2.2 (d.mk1 x k).1 (d.mk1 x k).2
  have hm':(mkA r (d.mk1 x k).1 (d.mk1 x k).2).2≤4000000000000000000:=hm
  have h1:=Fc hl.1 x k
  have ih:=XI (v:=v) (Q:=Q) h0 hA r (d.mk1 x k).1 (d.mk1 x k).2 hl.2.2 (by omega) hm' hb
  have hw:w1 k=k+1:=HR hk (by omega)
  cases d with
  | s g u=>
   refine Ae ⟨hk,by show k≤_;omega⟩ fun _=>Aa hin fun _=>Aa hlt fun _=>Co ?_
   show(mkC t v bk r i ((A++x::R).modify i.toNat fun a=>u a (GZ k)) (w1 k)).holds Q
   rw[mod_at hA,hw]
   exact ih
  | i g u=>
   refine Aa hin fun _=>Aa hlt fun _=>Co ?_
   rw[mod_at hA,hw]
   exact ih
  | b g u=>
   refine Aa (by decide) fun _=>Aa hin fun _=>Aa hlt fun _=>Co ?_
   rw[mod_at hA,hw]
   exact ih
  | l s n f g u=>
   refine Aa hin fun _=>Aa hlt fun _=>?_
   rw[getD_at hA]
   refine Aa ⟨hk,by show(f (g x) k).2≤_;exact Int.le_trans hmo hm'⟩ fun _=>Co (Co ?_)
   show(mkC t v bk r i ((A++x::R).modify i.toNat fun a=>u a (f (g x) k).1) (f (g x) k).2).holds Q
   rw[mod_at hA]
   exact ih
def mkX (t:Ty) (f:El t→Int→El t×Int) (v:Bool) (ds:List (Fe (El t))) (l:List (El t)) (k:Int):Out :=
 lpx (Yv t f l k) (k,((0:Int),(l,()))) fun(y1:Int×Int×List (El t)×PUnit) bk1=>
  .br (decide (y1.2.1<(y1.2.2.1.length:Int))) (mkC t v bk1 ds y1.2.1 y1.2.2.1 y1.1) (.leaf (.one false [vi y1.1]) [] [((0:Nat),⟨t,y1.2.2.1⟩)])
theorem X8 {v:Bool} {ds:List (Fe (El t))} (hl:Laws ds) {l:List (El t)} {k:Int} (hp:0≤k∧(Ai (mkA ds) l k).2≤4000000000000000000) (hlen:l.length≤4000000000000000000):(mkX t (mkA ds) v ds l k).holds ((mkF (.sl t) (Ai (mkA ds))).ctr l k).post:=by
 refine AG ⟨by simp,by simp,by simp[Ai],by simp[Ai]⟩ fun(y1:Int×Int×List (El t)×PUnit) i1=>Ab (fun h2=>?_) (fun h2=>?_)
 all_goals have i3:0≤y1.2.1∧y1.2.1≤l.length∧y1.1=(Ai (mkA ds) (l.take y1.2.1.toNat) k).2∧y1.2.2.1=(Ai (mkA ds) (l.take y1.2.1.toNat) k).1++l.drop y1.2.1.toNat:=i1
 all_goals have hx:y1.2.2.1.length=l.length:=by rw[i3.2.2.2,List.length_append,Hz,List.length_take,List.length_drop];omega
 all_goals simp only[decide_eq_true_eq,decide_eq_false_iff_not,hx] at h2
 all_goals clear i1
 ·have hlt:y1.2.1.toNat<l.length:=by omega
  have ht:=Gq (f:=mkA ds) hlt k
  have hle:=(Dw (f:=mkA ds) (fun x k=>CW hl x k) l (y1.2.1.toNat+1) k).2
  have hl0:=(Dw (f:=mkA ds) (fun x k=>CW hl x k) l y1.2.1.toNat k).1
  have hA:(Ai (mkA ds) (l.take y1.2.1.toNat) k).1.length=y1.2.1.toNat:=by rw[Hz,List.length_take];omega
  rw[ht] at hle
  rw[←i3.2.2.1] at hle hl0 ht
  rw[i3.2.2.2,drop_cons hlt]
  refine XI i3.1 hA ds _ _ hl (by omega) (Int.le_trans hle hp.2) ⟨⟨?_,?_,?_,?_⟩,?_⟩
  ·show 0≤w1 y1.2.1;rw[HR i3.1 (by omega)];omega
  ·show w1 y1.2.1≤_;rw[HR i3.1 (by omega)];omega
  ·show(mkA ds _ y1.1).2=(Ai (mkA ds) (l.take (w1 y1.2.1).toNat) k).2
   rw[HR i3.1 (by omega),toNat1 i3.1,ht]
  ·show _=(Ai (mkA ds) (l.take (w1 y1.2.1).toNat) k).1++l.drop (w1 y1.2.1).toNat
   rw[HR i3.1 (by omega),toNat1 i3.1,ht]
   simp
  ·show l.length-(w1 y1.2.1).toNat<l.length-y1.2.1.toNat
   rw[HR i3.1 (by omega),toNat1 i3.1];omega
 ·refine MS.leafL (t:=t) (fn:=fun l k=>Ai (mkA ds) l k) ?_
  have e1:l.take y1.2.1.toNat=l:=List.take_of_length_le (by omega)
  have e2:l.drop y1.2.1.toNat=[]:=List.drop_of_length_le (by omega)
  rw[i3.2.2.2,i3.2.2.1,e1,e2,List.append_nil]
theorem mkS {ds:List (Fe (El t))} (kp:List Nat) (v:Bool) (hl:Laws ds) (hE:EOk P E) (hf:P.funcs[m]? = some fn)
 (h:∀ l k,Eg P E (fun|2=>some (Yv t (mkA ds) l k)|_=>none) kp [0] fn ((mkF (.sl t) (Ai (mkA ds))).arg l k)=mkX t (mkA ds) v ds l k)
 (hc:(fn.body.isSome&&decide (2≤fn.ntmps)&&Sz ds)=true:=by kernel_rfl):(mkF (.sl t) (Ai (mkA ds))).ok P m:=by
 rw[Bool.and_eq_true,Bool.and_eq_true] at hc
 refine MS.of (S:=mkF (.sl t) (Ai (mkA ds))) (L:=fun l k=>fun|2=>some (Yv t (mkA ds) l k)|_=>none) hE hf hc.1.1 hc.1.2 fun l k hx=>⟨(h l k)▸X8 hl hx ?_⟩
 have h1:0≤k∧(Ai (mkA ds) l k).2≤4000000000000000000:=hx
 have:=Kk (f:=mkA ds) (LB hl hc.2) l k
 omega
def heC (t:Ty) (f:El t→Int→El t×Int) (l:List (El t)) (bk:Int×Int×PUnit→Prop):List (Fe (El t))→Int→Int→Out
 | [],i,k=>.ob (l=l)<|.ob (bk (k,(w1 i,()))) .ok
 | .s g u::r,i,k=>.ob (inB i l.length)<|.cl Ek (k,()) fun z=>.br (!(g (l.getD i.toNat default)).toList==z.1.toList) (.lf (heF (.sl t) (Ai f)) ((-1:Int),())) (heC t f l bk r i (w1 k))
 | .i g u::r,i,k=>.ob (inB i l.length)<|.br (g (l.getD i.toNat default) != k) (.lf (heF (.sl t) (Ai f)) ((-1:Int),())) (heC t f l bk r i (w1 k))
 | .b g u::r,i,k=>.ob (inB i l.length)<|.ob ((3:Int)≠0)<|.br (!g (l.getD i.toNat default)==(k.tmod 3==0)) (.lf (heF (.sl t) (Ai f)) ((-1:Int),())) (heC t f l bk r i (w1 k))
 | .l s n f' g u::r,i,k=>.ob (inB i l.length)<|.cl (heF s f') (g (l.getD i.toNat default),k,()) fun z=>.br (decide (z.1<0)) (.lf (heF (.sl t) (Ai f)) ((-1:Int),())) (heC t f l bk r i z.1)
theorem Xz {f:El t→Int→El t×Int} {l:List (El t)} {bk:Int×Int×PUnit→Prop} {Q:Post} {i:Int} (hi:inB i l.length) {x:El t} (hx:l.getD i.toNat default=x) :
 ∀ (ds:List (Fe (El t))) (k:Int),Laws ds→0≤k→(mkA ds x k).2≤4000000000000000000→(mkA ds x k).1=x→bk ((mkA ds x k).2,(w1 i,()))→(heC t f l bk ds i k).holds Q
 | [],k,_,_,_,_,hb=>Aa rfl fun _=>Aa hb fun _=>trivial
 | d::r,k,hl,hk,hm,he,hb=>by
  obtain⟨hv,hd1,he2⟩:=MK hl he
  have hmo:=CW hl.2.2 (d.mk1 x k).1 (d.mk1 x k).2
  have hm':(mkA r (d.mk1 x k).1 (d.mk1 x k).2).2≤4000000000000000000:=hm
  have h1:=Fc hl.1 x k
  have hk4:k≤4000000000000000000:=by omega
  have hw:w1 k=k+1:=HR hk hk4
  have hb':bk ((mkA r (d.mk1 x k).1 (d.mk1 x k).2).2,(w1 i,())):=hb
  rw[hd1] at hm' hb' hmo
  have ih:=Xz (f:=f) (Q:=Q) hi hx r (d.mk1 x k).2 hl.2.2 (by omega) hm' he2 hb'
  cases d with
  | s g u=>
   have hv:g x=GZ k:=hv
   refine Aa hi fun _=>Ae ⟨hk,hk4⟩ fun _=>Ab (fun hc=>?_) (fun _=>?_)
   ·rw[hx,hv] at hc
    exact absurd hc (by show ¬ ((!(GZ k).toList==(GZ k).toList)=true);simp)
   ·rw[hw];exact ih
  | i g u=>
   have hv:g x=k:=hv
   refine Aa hi fun _=>Ab (fun hc=>?_) (fun _=>?_)
   ·rw[hx,hv] at hc;simp at hc
   ·rw[hw];exact ih
  | b g u=>
   have hv:g x=(k.tmod 3==0):=hv
   refine Aa hi fun _=>Aa (by decide) fun _=>Ab (fun hc=>?_) (fun _=>?_)
   ·rw[hx,hv] at hc;simp at hc
   ·rw[hw];exact ih
  | l s n f' g u=>
   have hv:(f' (g x) k).1=g x:=hv
   refine Aa hi fun _=>?_
   rw[hx]
   refine Ae ⟨hk,Int.le_trans hmo hm',hv⟩ fun _=>Ab (fun hc=>?_) (fun _=>ih)
   have hc:decide ((f' (g x) k).2<0)=true:=hc
   simp only[decide_eq_true_eq] at hc
   have h1:k≤(f' (g x) k).2:=h1
   omega
def heX (t:Ty) (f:El t→Int→El t×Int) (ds:List (Fe (El t))) (l:List (El t)) (k:Int):Out :=
 lpx (Yi t f l k) (k,((0:Int),())) fun(y1:Int×Int×PUnit) bk1=>
  .br (decide (y1.2.1<(l.length:Int))) (heC t f l bk1 ds y1.2.1 y1.1) (.lf (heF (.sl t) (Ai f)) (y1.1,()))
theorem YB {ds:List (Fe (El t))} (hl:Laws ds) {l:List (El t)} {k:Int} (hp:0≤k∧(Ai (mkA ds) l k).2≤4000000000000000000∧(Ai (mkA ds) l k).1=l) (hlen:l.length≤4000000000000000000):(heX t (mkA ds) ds l k).holds ((heF (.sl t) (Ai (mkA ds))).ctr (l,k,())).post:=by
 refine AG ⟨by simp,by simp,by simp[Ai]⟩ fun(y1:Int×Int×PUnit) i1=>Ab (fun h2=>?_) (fun h2=>?_)
 all_goals have i3:0≤y1.2.1∧y1.2.1≤l.length∧y1.1=(Ai (mkA ds) (l.take y1.2.1.toNat) k).2:=i1
 all_goals simp only[decide_eq_true_eq,decide_eq_false_iff_not] at h2
 all_goals clear i1
 ·have hlt:y1.2.1.toNat<l.length:=by omega
  have ht:=Gq (f:=mkA ds) hlt k
  have hle:=(Dw (f:=mkA ds) (fun x k=>CW hl x k) l (y1.2.1.toNat+1) k).2
  have hl0:=(Dw (f:=mkA ds) (fun x k=>CW hl x k) l y1.2.1.toNat k).1
  have heq:=NV hp.2.2 hlt
  rw[ht] at hle
  rw[←i3.2.2] at hle hl0 ht heq
  refine Xz (show inB y1.2.1 l.length from⟨i3.1,h2⟩) rfl ds _ hl (by omega) (Int.le_trans hle hp.2.1) heq ⟨⟨?_,?_,?_⟩,?_⟩
  ·show 0≤w1 y1.2.1;rw[HR i3.1 (by omega)];omega
  ·show w1 y1.2.1≤_;rw[HR i3.1 (by omega)];omega
  ·show(mkA ds _ y1.1).2=(Ai (mkA ds) (l.take (w1 y1.2.1).toNat) k).2
   rw[HR i3.1 (by omega),toNat1 i3.1,ht]
  ·show l.length-(w1 y1.2.1).toNat<l.length-y1.2.1.toNat
   rw[HR i3.1 (by omega),toNat1 i3.1];omega
 ·have e1:l.take y1.2.1.toNat=l:=List.take_of_length_le (by omega)
  rw[e1] at i3
  exact lfY (by show(y1.1,())=((Ai (mkA ds) l k).2,());rw[i3.2.2])
theorem heS {ds:List (Fe (El t))} (kp:List Nat) (hl:Laws ds) (hE:EOk P E) (hf:P.funcs[m]? = some fn)
 (h:∀ l k,Eg P E (fun|2=>some (Yi t (mkA ds) l k)|_=>none) kp [] fn ((heF (.sl t) (Ai (mkA ds))).arg (l,k,()))=heX t (mkA ds) ds l k)
 (hc:(fn.body.isSome&&decide (2≤fn.ntmps)&&Sz ds)=true:=by kernel_rfl):(heF (.sl t) (Ai (mkA ds))).ok P m:=by
 rw[Bool.and_eq_true,Bool.and_eq_true] at hc
 refine Fct.of (S:=heF (.sl t) (Ai (mkA ds))) (L:=fun x=>fun|2=>some (Yi t (mkA ds) x.1 x.2.1)|_=>none) (kp:=kp) hE hf hc.1.1 hc.1.2 ?_
 rintro⟨(l:List (El t)),(k:Int),_⟩ hx
 refine⟨(h l k)▸YB hl hx ?_⟩
 have h1:0≤k∧(Ai (mkA ds) l k).2≤4000000000000000000∧(Ai (mkA ds) l k).1=l:=hx
 have:=Kk (f:=mkA ds) (LB hl hc.2) l k
 omega
def mvC (s:Sh):List (Fe s.X)→s.X→Int→Out
 | [],x,k=>.leaf (.one false [vi k]) [] (De 0 (s.fc x))
 | .l s' n f g u::r,x,k=>.ob ((mkF s' f).pre (g x) k)<|.lt (s'.X×Int) ((mkF s' f).fn (g x) k) fun z=>mvC s r (u x z.1) z.2
 | _::_,_,_=>.bad
def XJ {α:Type}:List (Fe α)→Bool
 | []=>true
 | .l ..::r=>XJ r
 | _::_=>false
theorem XE {Q:Post}:∀ (ds:List (Fe s.X)) (x:s.X) (k:Int),Laws ds→XJ ds=true→0≤k→(mkA ds x k).2≤4000000000000000000→(Out.leaf (.one false [vi (mkA ds x k).2]) [] (De 0 (s.fc (mkA ds x k).1))).holds Q→(mvC s ds x k).holds Q
 | [],x,k,_,_,_,_,h=>h
 | .l s' n f g u::r,x,k,hl,hs,hk,hm,h=>by
  have hmo:=CW hl.2.2 (u x (f (g x) k).1) (f (g x) k).2
  have h1:k≤(f (g x) k).2:=Fc hl.1 x k
  exact Aa ⟨hk,Int.le_trans hmo hm⟩ fun _=>Co (XE r _ _ hl.2.2 hs (by show 0≤(f (g x) k).2;omega) hm h)
theorem mvT {ds:List (Fe s.X)} (kp kl:List Nat) (hl:Laws ds) (hE:EOk P E) (hf:P.funcs[m]? = some fn)
 (h:∀ x k,Eg P E (fun _=>none) kp kl fn ((mkF s (mkA ds)).arg x k)=mvC s ds x k)
 (hc:(fn.body.isSome&&decide (2≤fn.ntmps)&&XJ ds)=true:=by kernel_rfl):(mkF s (mkA ds)).ok P m:=by
 rw[Bool.and_eq_true,Bool.and_eq_true] at hc
 exact MS.of (S:=mkF s (mkA ds)) (L:=fun _ _ _=>none) (kp:=kp) (kl:=kl) hE hf hc.1.1 hc.1.2 fun x k hx=>⟨(h x k)▸XE ds x k hl hc.2 hx.1 hx.2 (MS.leaf ⟨DU _,trivial,rfl⟩)⟩
def hvC (s:Sh) (f:s.X→Int→s.X×Int):List (Fe s.X)→s.X→Int→Out
 | [],x,k=>.lf (heF s f) (k,())
 | .l s' n f' g u::r,x,k=>.cl (heF s' f') (g x,k,()) fun z=>.br (decide (z.1<0)) (.lf (heF s f) ((-1:Int),())) (hvC s f r x z.1)
 | _::_,_,_=>.bad
theorem XS {Q:Post} {f:s.X→Int→s.X×Int} {x:s.X}:∀ (ds:List (Fe s.X)) (k:Int),Laws ds→XJ ds=true→0≤k→(mkA ds x k).2≤4000000000000000000→(mkA ds x k).1=x→(Out.lf (heF s f) ((mkA ds x k).2,())).holds Q→(hvC s f ds x k).holds Q
 | [],k,_,_,_,_,_,h=>h
 | .l s' n f' g u::r,k,hl,hs,hk,hm,he,h=>by
  obtain⟨hv,hd1,he2⟩:=MK hl he
  have hv:(f' (g x) k).1=g x:=hv
  have hd1:u x (f' (g x) k).1=x:=hd1
  have hm:(mkA r (u x (f' (g x) k).1) (f' (g x) k).2).2≤4000000000000000000:=hm
  have h:(Out.lf (heF s f) ((mkA r (u x (f' (g x) k).1) (f' (g x) k).2).2,())).holds Q:=h
  rw[hd1] at hm h
  have hmo:=CW hl.2.2 x (f' (g x) k).2
  have h1:k≤(f' (g x) k).2:=Fc hl.1 x k
  refine Ae ⟨hk,Int.le_trans hmo hm,hv⟩ fun _=>Ab (fun hc=>?_) (fun _=>XS r _ hl.2.2 hs (by show 0≤(f' (g x) k).2;omega) hm he2 h)
  have hc:decide ((f' (g x) k).2<0)=true:=hc
  simp only[decide_eq_true_eq] at hc
  omega
theorem hvT {ds:List (Fe s.X)} (kp:List Nat) (hl:Laws ds) (hE:EOk P E) (hf:P.funcs[m]? = some fn)
 (h:∀ x k,Eg P E (fun _=>none) kp [] fn ((heF s (mkA ds)).arg (x,k,()))=hvC s (mkA ds) ds x k)
 (hc:(fn.body.isSome&&decide (2≤fn.ntmps)&&XJ ds)=true:=by kernel_rfl):(heF s (mkA ds)).ok P m:=by
 rw[Bool.and_eq_true,Bool.and_eq_true] at hc
 exact Fct.of (S:=heF s (mkA ds)) (L:=fun _ _=>none) (kp:=kp) hE hf hc.1.1 hc.1.2 fun x hx=>⟨(h x.1 x.2.1)▸XS ds x.2.1 hl hc.2 hx.1 hx.2.1 hx.2.2 (lfY rfl)⟩
end
end Go.D
namespace Go.D
set_option linter.unusedSimpArgs false
set_option maxRecDepth 100000
set_option maxHeartbeats 2000000
def szAddr (x:SAddr):Nat:=x.host.size+x.path.size
def AK (x:SAttr):Nat:=x.name.size+x.value.size
def Af (x:SToken):Nat:=x.name.size+szL AK x.attrs+x.text.size
def AJ (x:STokenizer):Nat:=x.rest.size
def szNode (x:SNode):Nat:=x.name.size+x.text.size+szL AK x.attrs
def szBuilder (x:SBuilder):Nat:=szL szNode x.nodes+x.open_.length
def HH (x:SRule):Nat:=x.name.size
def Cq (x:SSheet):Nat:=szL HH x.rules
def B2 (x:SLine):Nat:=x.text.size
def szPolicy (x:SPolicy):Nat:=szL Ac x.scripts+szL Ac x.styles+szL Ac x.images+x.nonce.size
def Av (x:SResponse):Nat:=x.body.size+x.policy.size
def szRequest (x:SRequest):Nat:=szAddr x.to+x.from_.size+x.digest.size
def Dh (x:SFile):Nat:=x.path.size+Av x.response
def AZ (x:SServer):Nat:=x.host.size+szL Dh x.files
def Cs (x:SEntry):Nat:=x.top.size+szAddr x.to+Av x.response
def szCache (x:SCache):Nat:=szL Cs x.entries
def C8 (x:SSent):Nat:=x.top.size+szAddr x.to
def szNet (x:SNet):Nat:=szL AZ x.servers+szCache x.cache+szL C8 x.log
def AL (x:SSlot):Nat:=szAddr x.to+x.digest.size+x.body.size
def Ar (x:SModule):Nat:=szAddr x.to+x.body.size
def szPage (x:SPage):Nat:=szAddr x.addr+szPolicy x.policy+AJ x.tok+szL Af x.queue+szBuilder x.builder+szL AL x.slots+szL Ar x.mods+szL szAddr x.entries+szL szAddr x.ran+szL Ac x.log
def CB (x:SGuess):Nat:=szAddr x.to+Av x.response
def Di (x:SConn):Nat:=szAddr x.to+Av x.response
def CN (x:SLoader):Nat:=szNet x.net+szPage x.page+szL Ac x.parts+szL Di x.conns+szL CB x.guesses
theorem Vu (x:SAddr):(⟨x.host,x.path⟩:SAddr)=x:=rfl
theorem Sc (x:SToken):(⟨x.kind,x.name,x.attrs,x.text⟩:SToken)=x:=rfl
theorem Vq (x:SNode):(⟨x.name,x.text,x.parent,x.attrs⟩:SNode)=x:=rfl
theorem NX (x:SBuilder):(⟨x.nodes,x.open_⟩:SBuilder)=x:=rfl
theorem SD (x:SSheet):(⟨x.rules⟩:SSheet)=x:=rfl
theorem PE (x:SPolicy):(⟨x.set_,x.scripts,x.styles,x.images,x.nonce⟩:SPolicy)=x:=rfl
theorem MC (x:SResponse):(⟨x.status,x.kind,x.body,x.age,x.shares,x.policy⟩:SResponse)=x:=rfl
theorem OZ (x:SRequest):(⟨x.kind,x.to,x.from_,x.digest⟩:SRequest)=x:=rfl
theorem U7 (x:SFile):(⟨x.path,x.response⟩:SFile)=x:=rfl
theorem RS (x:SServer):(⟨x.host,x.files⟩:SServer)=x:=rfl
theorem Ta (x:SEntry):(⟨x.top,x.to,x.response,x.until_⟩:SEntry)=x:=rfl
theorem Tl (x:SCache):(⟨x.entries⟩:SCache)=x:=rfl
theorem WY (x:SSent):(⟨x.top,x.to,x.guess⟩:SSent)=x:=rfl
theorem Xu (x:SNet):(⟨x.servers,x.cache,x.log,x.now⟩:SNet)=x:=rfl
theorem WJ (x:SSlot):(⟨x.mode,x.to,x.digest,x.node,x.done,x.code,x.body⟩:SSlot)=x:=rfl
theorem QO (x:SModule):(⟨x.to,x.done,x.code,x.body⟩:SModule)=x:=rfl
theorem Vy (x:SPage):(⟨x.addr,x.policy,x.tok,x.queue,x.ended,x.builder,x.slots,x.mods,x.entries,x.block,x.inline,x.deferred,x.entered,x.ran,x.log,x.loaded⟩:SPage)=x:=rfl
theorem PW (x:SResult):(⟨x.builder,x.log,x.verdicts,x.sheet,x.loaded⟩:SResult)=x:=rfl
theorem S0 (x:SGuess):(⟨x.to,x.response,x.used⟩:SGuess)=x:=rfl
theorem UN (x:SConn):(⟨x.to,x.left,x.guess,x.response⟩:SConn)=x:=rfl
theorem Pw (x:SLoader):(⟨x.net,x.page,x.parts,x.conns,x.guesses⟩:SLoader)=x:=rfl
theorem TN (x:SVisit):(⟨x.addr,x.page,x.kept⟩:SVisit)=x:=rfl
theorem Xw (x:STab):(⟨x.visits,x.at_⟩:STab)=x:=rfl
theorem Xi (x y:ByteArray):(x==y)=decide (x=y):=by
 rw[Bool.eq_iff_iff,decide_eq_true_eq]
 constructor
 ·intro h
  have h':(x.data==y.data)=true:=h
  cases x;cases y;simpa using h'
 ·rintro rfl
  show(x.data==x.data)=true
  simp
theorem EK (x y:SAddr):(x.host==y.host&&(x.path==y.path&&true))=decide (x=y):=by
 rw[Bool.eq_iff_iff];cases x;cases y;simp[Xi]
def Lq:List (Fe ByteArray):=[.s (fun x=>x) fun _ v=>v]
def DR:ByteArray→Int→ByteArray×Int:=mkA Lq
theorem HJ:Laws Lq:=by repeat' first|exact fun _ _=>rfl|exact fun _=>rfl|constructor
theorem EX:Bd (szL Ac) (Ai DR):=bdL HJ (fun x=>by simp only[C7,Fe.cost,Lq];omega)
def Yl:List (Fe Int):=[.i (fun x=>x) fun _ v=>v]
def Tp:Int→Int→Int×Int:=mkA Yl
theorem Rb:Laws Yl:=by repeat' first|exact fun _ _=>rfl|exact fun _=>rfl|constructor
theorem PK:Bd List.length (Ai Tp):=fun l k=>by
 have h:=bdL (n:=fun _=>0) Rb (fun x=>by simp only[C7,Fe.cost,Yl];omega) l k
 have e:∀ l:List Int,szL (fun _=>0) l=l.length:=fun l=>by
  induction l with
  | nil=>rfl
  | cons a l ih=>simp only[szL,List.map_cons,List.sum_cons,List.length_cons] at *;omega
 rw[e] at h
 exact h
def UB:List (Fe SAddr):=[.s (fun x=>x.host) fun x v=>{x with host:=v},.s (fun x=>x.path) fun x v=>{x with path:=v}]
def Kp:SAddr→Int→SAddr×Int:=mkA UB
theorem Lj:Laws UB:=by repeat' first|exact fun _ _=>rfl|exact fun _=>rfl|constructor
theorem Om:Bd (szL szAddr) (Ai Kp):=bdL Lj (fun x=>by simp only[C7,Fe.cost,UB,szAddr];omega)
def UM:List (Fe SAttr):=[.s (fun x=>x.name) fun x v=>{x with name:=v},.s (fun x=>x.value) fun x v=>{x with value:=v}]
def Kj:SAttr→Int→SAttr×Int:=mkA UM
theorem LP:Laws UM:=by repeat' first|exact fun _ _=>rfl|exact fun _=>rfl|constructor
theorem Ix:Bd (szL AK) (Ai Kj):=bdL LP (fun x=>by simp only[C7,Fe.cost,UM,AK];omega)
def Qv:List (Fe SToken):=[.i (fun x=>x.kind) fun x v=>{x with kind:=v},.s (fun x=>x.name) fun x v=>{x with name:=v},.l (.sl .attr) (szL AK) (Ai Kj) (fun x=>x.attrs) fun x v=>{x with attrs:=v},.s (fun x=>x.text) fun x v=>{x with text:=v}]
def I6:SToken→Int→SToken×Int:=mkA Qv
theorem IY:Laws Qv:=by repeat' first|exact fun _ _=>rfl|exact fun _=>rfl|exact Ix|constructor
theorem Lf:Bd (szL Af) (Ai I6):=bdL IY (fun x=>by simp only[C7,Fe.cost,Qv,Af];omega)
def WE:List (Fe SNode):=[.s (fun x=>x.name) fun x v=>{x with name:=v},.s (fun x=>x.text) fun x v=>{x with text:=v},.i (fun x=>x.parent) fun x v=>{x with parent:=v},.l (.sl .attr) (szL AK) (Ai Kj) (fun x=>x.attrs) fun x v=>{x with attrs:=v}]
def MN:SNode→Int→SNode×Int:=mkA WE
theorem K7:Laws WE:=by repeat' first|exact fun _ _=>rfl|exact fun _=>rfl|exact Ix|constructor
theorem Ok:Bd (szL szNode) (Ai MN):=bdL K7 (fun x=>by simp only[C7,Fe.cost,WE,szNode];omega)
def JQ:List (Fe SBuilder):=[.l (.sl .node) (szL szNode) (Ai MN) (fun x=>x.nodes) fun x v=>{x with nodes:=v},.l (.sl .int) List.length (Ai Tp) (fun x=>x.open_) fun x v=>{x with open_:=v}]
def FU:SBuilder→Int→SBuilder×Int:=mkA JQ
theorem Gz:Laws JQ:=by repeat' first|exact fun _ _=>rfl|exact fun _=>rfl|exact PK|exact Ok|constructor
theorem Kh:Bd szBuilder FU:=bdV Gz (fun x=>by simp only[C7,Fe.cost,JQ,szBuilder];omega)
def Mz:List (Fe SPolicy):=[.l (.sl .str) (szL Ac) (Ai DR) (fun x=>x.scripts) fun x v=>{x with scripts:=v},.l (.sl .str) (szL Ac) (Ai DR) (fun x=>x.styles) fun x v=>{x with styles:=v},.l (.sl .str) (szL Ac) (Ai DR) (fun x=>x.images) fun x v=>{x with images:=v}]
def G6:SPolicy→Int→SPolicy×Int:=mkA Mz
theorem Hq:Laws Mz:=by repeat' first|exact fun _ _=>rfl|exact fun _=>rfl|exact EX|constructor
theorem LY:Bd szPolicy G6:=bdV Hq (fun x=>by simp only[C7,Fe.cost,Mz,szPolicy];omega)
def Vs:List (Fe SFile):=[.s (fun x=>x.path) fun x v=>{x with path:=v},.i (fun x=>x.response.status) fun x v=>{x with response:={x.response with status:=v}},.i (fun x=>x.response.kind) fun x v=>{x with response:={x.response with kind:=v}},.s (fun x=>x.response.body) fun x v=>{x with response:={x.response with body:=v}},.i (fun x=>x.response.age) fun x v=>{x with response:={x.response with age:=v}},.b (fun x=>x.response.shares) fun x v=>{x with response:={x.response with shares:=v}},.s (fun x=>x.response.policy) fun x v=>{x with response:={x.response with policy:=v}}]
def MZ:SFile→Int→SFile×Int:=mkA Vs
theorem Mx:Laws Vs:=by repeat' first|exact fun _ _=>rfl|exact fun _=>rfl|constructor
theorem N4:Bd (szL Dh) (Ai MZ):=bdL Mx (fun x=>by simp only[C7,Fe.cost,Vs,Dh,Av];omega)
def L0:List (Fe SServer):=[.s (fun x=>x.host) fun x v=>{x with host:=v},.l (.sl .file) (szL Dh) (Ai MZ) (fun x=>x.files) fun x v=>{x with files:=v}]
def Hc:SServer→Int→SServer×Int:=mkA L0
theorem H2:Laws L0:=by repeat' first|exact fun _ _=>rfl|exact fun _=>rfl|exact N4|constructor
theorem JW:Bd (szL AZ) (Ai Hc):=bdL H2 (fun x=>by simp only[C7,Fe.cost,L0,AZ];omega)
def QF:List (Fe SEntry):=[.s (fun x=>x.top) fun x v=>{x with top:=v},.s (fun x=>x.to.host) fun x v=>{x with to:={x.to with host:=v}},.s (fun x=>x.to.path) fun x v=>{x with to:={x.to with path:=v}},.i (fun x=>x.response.status) fun x v=>{x with response:={x.response with status:=v}},.i (fun x=>x.response.kind) fun x v=>{x with response:={x.response with kind:=v}},.s (fun x=>x.response.body) fun x v=>{x with response:={x.response with body:=v}},.i (fun x=>x.response.age) fun x v=>{x with response:={x.response with age:=v}},.b (fun x=>x.response.shares) fun x v=>{x with response:={x.response with shares:=v}},.s (fun x=>x.response.policy) fun x v=>{x with response:={x.response with policy:=v}},.i (fun x=>x.until_) fun x v=>{x with until_:=v}]
def I4:SEntry→Int→SEntry×Int:=mkA QF
theorem I5:Laws QF:=by repeat' first|exact fun _ _=>rfl|exact fun _=>rfl|constructor
theorem LW:Bd (szL Cs) (Ai I4):=bdL I5 (fun x=>by simp only[C7,Fe.cost,QF,szAddr,Cs,Av];omega)
def Q2:List (Fe SCache):=[.l (.sl .entry) (szL Cs) (Ai I4) (fun x=>x.entries) fun x v=>{x with entries:=v}]
def IZ:SCache→Int→SCache×Int:=mkA Q2
theorem Ja:Laws Q2:=by repeat' first|exact fun _ _=>rfl|exact fun _=>rfl|exact LW|constructor
theorem OW:Bd szCache IZ:=bdV Ja (fun x=>by simp only[C7,Fe.cost,Q2,szCache];omega)
def WC:List (Fe SSent):=[.s (fun x=>x.top) fun x v=>{x with top:=v},.s (fun x=>x.to.host) fun x v=>{x with to:={x.to with host:=v}},.s (fun x=>x.to.path) fun x v=>{x with to:={x.to with path:=v}},.b (fun x=>x.guess) fun x v=>{x with guess:=v}]
def MO:SSent→Int→SSent×Int:=mkA WC
theorem Lx:Laws WC:=by repeat' first|exact fun _ _=>rfl|exact fun _=>rfl|constructor
theorem Oq:Bd (szL C8) (Ai MO):=bdL Lx (fun x=>by simp only[C7,Fe.cost,WC,szAddr,C8];omega)
def Yk:List (Fe SNet):=[.l (.sl .server) (szL AZ) (Ai Hc) (fun x=>x.servers) fun x v=>{x with servers:=v},.l (.el .cache) szCache IZ (fun x=>x.cache) fun x v=>{x with cache:=v},.l (.sl .sent) (szL C8) (Ai MO) (fun x=>x.log) fun x v=>{x with log:=v}]
def Uj:SNet→Int→SNet×Int:=mkA Yk
theorem Pa:Laws Yk:=by repeat' first|exact fun _ _=>rfl|exact fun _=>rfl|exact Oq|exact JW|exact OW|constructor
theorem TS:Bd szNet Uj:=bdV Pa (fun x=>by simp only[C7,Fe.cost,Yk,szNet];omega)
def UU:List (Fe SSlot):=[.i (fun x=>x.mode) fun x v=>{x with mode:=v},.s (fun x=>x.to.host) fun x v=>{x with to:={x.to with host:=v}},.s (fun x=>x.to.path) fun x v=>{x with to:={x.to with path:=v}},.s (fun x=>x.digest) fun x v=>{x with digest:=v},.i (fun x=>x.node) fun x v=>{x with node:=v},.b (fun x=>x.done) fun x v=>{x with done:=v},.i (fun x=>x.code) fun x v=>{x with code:=v},.s (fun x=>x.body) fun x v=>{x with body:=v}]
def M4:SSlot→Int→SSlot×Int:=mkA UU
theorem LR:Laws UU:=by repeat' first|exact fun _ _=>rfl|exact fun _=>rfl|constructor
theorem OS:Bd (szL AL) (Ai M4):=bdL LR (fun x=>by simp only[C7,Fe.cost,UU,szAddr,AL];omega)
def Ml:List (Fe SModule):=[.s (fun x=>x.to.host) fun x v=>{x with to:={x.to with host:=v}},.s (fun x=>x.to.path) fun x v=>{x with to:={x.to with path:=v}},.b (fun x=>x.done) fun x v=>{x with done:=v},.i (fun x=>x.code) fun x v=>{x with code:=v},.s (fun x=>x.body) fun x v=>{x with body:=v}]
def Hd:SModule→Int→SModule×Int:=mkA Ml
theorem Ig:Laws Ml:=by repeat' first|exact fun _ _=>rfl|exact fun _=>rfl|constructor
theorem Ka:Bd (szL Ar) (Ai Hd):=bdL Ig (fun x=>by simp only[C7,Fe.cost,Ml,szAddr,Ar];omega)
def WZ:List (Fe SPage):=[.l (.el .policy) szPolicy G6 (fun x=>x.policy) fun x v=>{x with policy:=v},.l (.sl .token) (szL Af) (Ai I6) (fun x=>x.queue) fun x v=>{x with queue:=v},.l (.el .builder) szBuilder FU (fun x=>x.builder) fun x v=>{x with builder:=v},.l (.sl .slot) (szL AL) (Ai M4) (fun x=>x.slots) fun x v=>{x with slots:=v},.l (.sl .module) (szL Ar) (Ai Hd) (fun x=>x.mods) fun x v=>{x with mods:=v},.l (.sl .addr) (szL szAddr) (Ai Kp) (fun x=>x.entries) fun x v=>{x with entries:=v},.l (.sl .addr) (szL szAddr) (Ai Kp) (fun x=>x.ran) fun x v=>{x with ran:=v},.l (.sl .str) (szL Ac) (Ai DR) (fun x=>x.log) fun x v=>{x with log:=v}]
def M8:SPage→Int→SPage×Int:=mkA WZ
theorem LZ:Laws WZ:=by repeat' first|exact fun _ _=>rfl|exact fun _=>rfl|exact Om|exact Ka|exact OS|exact EX|exact Lf|exact Kh|exact LY|constructor
theorem Rt:Bd szPage M8:=bdV LZ (fun x=>by simp only[C7,Fe.cost,WZ,szPage];omega)
def RJ:List (Fe SGuess):=[.s (fun x=>x.to.host) fun x v=>{x with to:={x.to with host:=v}},.s (fun x=>x.to.path) fun x v=>{x with to:={x.to with path:=v}},.i (fun x=>x.response.status) fun x v=>{x with response:={x.response with status:=v}},.i (fun x=>x.response.kind) fun x v=>{x with response:={x.response with kind:=v}},.s (fun x=>x.response.body) fun x v=>{x with response:={x.response with body:=v}},.i (fun x=>x.response.age) fun x v=>{x with response:={x.response with age:=v}},.b (fun x=>x.response.shares) fun x v=>{x with response:={x.response with shares:=v}},.s (fun x=>x.response.policy) fun x v=>{x with response:={x.response with policy:=v}},.b (fun x=>x.used) fun x v=>{x with used:=v}]
def IX:SGuess→Int→SGuess×Int:=mkA RJ
theorem IW:Laws RJ:=by repeat' first|exact fun _ _=>rfl|exact fun _=>rfl|constructor
theorem K3:Bd (szL CB) (Ai IX):=bdL IW (fun x=>by simp only[C7,Fe.cost,RJ,szAddr,CB,Av];omega)
def WA:List (Fe SConn):=[.s (fun x=>x.to.host) fun x v=>{x with to:={x.to with host:=v}},.s (fun x=>x.to.path) fun x v=>{x with to:={x.to with path:=v}},.i (fun x=>x.left) fun x v=>{x with left:=v},.b (fun x=>x.guess) fun x v=>{x with guess:=v},.i (fun x=>x.response.status) fun x v=>{x with response:={x.response with status:=v}},.i (fun x=>x.response.kind) fun x v=>{x with response:={x.response with kind:=v}},.s (fun x=>x.response.body) fun x v=>{x with response:={x.response with body:=v}},.i (fun x=>x.response.age) fun x v=>{x with response:={x.response with age:=v}},.b (fun x=>x.response.shares) fun x v=>{x with response:={x.response with shares:=v}},.s (fun x=>x.response.policy) fun x v=>{x with response:={x.response with policy:=v}}]
def Np:SConn→Int→SConn×Int:=mkA WA
theorem Mg:Laws WA:=by repeat' first|exact fun _ _=>rfl|exact fun _=>rfl|constructor
theorem N6:Bd (szL Di) (Ai Np):=bdL Mg (fun x=>by simp only[C7,Fe.cost,WA,szAddr,Di,Av];omega)
def LF:List (Fe SLoader):=[.l (.el .net) szNet Uj (fun x=>x.net) fun x v=>{x with net:=v},.l (.el .page) szPage M8 (fun x=>x.page) fun x v=>{x with page:=v},.l (.sl .str) (szL Ac) (Ai DR) (fun x=>x.parts) fun x v=>{x with parts:=v},.l (.sl .conn) (szL Di) (Ai Np) (fun x=>x.conns) fun x v=>{x with conns:=v},.l (.sl .guess) (szL CB) (Ai IX) (fun x=>x.guesses) fun x v=>{x with guesses:=v}]
def Bv:SLoader→Int→SLoader×Int:=mkA LF
theorem HU:Laws LF:=by repeat' first|exact fun _ _=>rfl|exact fun _=>rfl|exact N6|exact K3|exact EX|exact TS|exact Rt|constructor
theorem Hg:Bd CN Bv:=bdV HU (fun x=>by simp only[C7,Fe.cost,LF,CN];omega)
theorem Lu (x:SLoader) (k:Int):{ net:={ servers:=(Bv x k).1.net.servers,cache:=(Bv x k).1.net.cache,log:=(Bv x k).1.net.log,now:=x.net.now:SNet },page:={ addr:=x.page.addr,policy:={ set_:=x.page.policy.set_,scripts:=(Bv x k).1.page.policy.scripts,styles:=(Bv x k).1.page.policy.styles,images:=(Bv x k).1.page.policy.images,nonce:=x.page.policy.nonce:SPolicy },tok:=x.page.tok,queue:=(Bv x k).1.page.queue,ended:=x.page.ended,builder:=(Bv x k).1.page.builder,slots:=(Bv x k).1.page.slots,mods:=(Bv x k).1.page.mods,entries:=(Bv x k).1.page.entries,block:=x.page.block,inline:=x.page.inline,deferred:=x.page.deferred,entered:=x.page.entered,ran:=(Bv x k).1.page.ran,log:=(Bv x k).1.page.log,loaded:=x.page.loaded:SPage },parts:=(Bv x k).1.parts,conns:=(Bv x k).1.conns,guesses:=(Bv x k).1.guesses:SLoader }=(Bv x k).1:=by kernel_rfl
def Wf (x:SAddr):List SzI:=[.p x.host.size,.p x.path.size]
theorem Vj (x:SAddr) (h:Sh.good (.el .addr) x):DW (Wf x):=by simp only[Wf,Sh.good,Sh.fc,enc,List.forall_mem_cons,List.not_mem_nil,false_implies,implies_true,CL,DW,SzI.ok,maxLen] at *;grind
def Wt (x:SAddr):List ToI:=[]
def Yf (x:SAddr) (z:Unit):SAddr:=⟨x.host,x.path⟩
theorem Wu (x:SAddr) (h:szAddr x≤1048576):D3 (Wt x):=by simp only[szAddr,Wt,D3,and_true] at *<;>omega
def QK (x y:SAddr):List EqI:=[.s x.host y.host,.s x.path y.path]
theorem Wb (x y:SAddr):x=y↔Ce (QK x y):=by cases x;cases y;simp[QK,Ce,EqI.tru]
theorem V0 (x y:SAddr) (h:szAddr x≤1125899906842624):D0 (QK x y):=by simp only[szAddr,QK,D0,EqI.ok,and_true,true_and] at *<;>omega
def US (x:SAttr):List SzI:=[.p x.name.size,.p x.value.size]
theorem Vw (x:SAttr) (h:Sh.good (.el .attr) x):DW (US x):=by simp only[US,Sh.good,Sh.fc,enc,List.forall_mem_cons,List.not_mem_nil,false_implies,implies_true,CL,DW,SzI.ok,maxLen] at *;grind
def WT (x:SAttr):List ToI:=[]
def YA (x:SAttr) (z:Unit):SAttr:=⟨x.name,x.value⟩
theorem UZ (x:SAttr) (h:AK x≤1048576):D3 (WT x):=by simp only[AK,WT,D3,and_true] at *<;>omega
def Rs (x y:SAttr):List EqI:=[.s x.name y.name,.s x.value y.value]
theorem VW (x y:SAttr):x=y↔Ce (Rs x y):=by cases x;cases y;simp[Rs,Ce,EqI.tru]
theorem UQ (x y:SAttr) (h:AK x≤1125899906842624):D0 (Rs x y):=by simp only[AK,Rs,D0,EqI.ok,and_true,true_and] at *<;>omega
def P3 (x:SToken):List SzI:=[.p x.name.size,.c (.sl .attr) (szL AK) x.attrs,.p x.text.size]
theorem TT (x:SToken) (h:Sh.good (.el .token) x):DW (P3 x):=by simp only[P3,Sh.good,Sh.fc,enc,List.forall_mem_cons,List.not_mem_nil,false_implies,implies_true,CL,DW,SzI.ok,maxLen] at *;grind
def Qy (x:SToken):List ToI:=[⟨(.sl .attr),(szL AK),x.attrs⟩]
def XP (x:SToken) (z:(List SAttr)×Unit):SToken:=⟨x.kind,x.name,z.1,x.text⟩
theorem R4 (x:SToken) (h:Af x≤1048576):D3 (Qy x):=by simp only[Af,Qy,D3,and_true] at *<;>omega
def J4 (x y:SToken):List EqI:=[.i x.kind y.kind,.s x.name y.name,.c (.sl .attr) inferInstance (szL AK) x.attrs y.attrs,.s x.text y.text]
theorem TQ (x y:SToken):x=y↔Ce (J4 x y):=by cases x;cases y;simp[J4,Ce,EqI.tru]
theorem TK (x y:SToken) (h:Af x≤1125899906842624):D0 (J4 x y):=by simp only[Af,J4,D0,EqI.ok,and_true,true_and] at *<;>omega
def Gm (x:STokenizer):List SzI:=[.p x.rest.size]
theorem Kb (x:STokenizer) (h:Sh.good (.el .tokenizer) x):DW (Gm x):=by simp only[Gm,Sh.good,Sh.fc,enc,List.forall_mem_cons,List.not_mem_nil,false_implies,implies_true,CL,DW,SzI.ok,maxLen] at *;grind
def Gj (x:STokenizer):List ToI:=[]
def OR (x:STokenizer) (z:Unit):STokenizer:=⟨x.rest⟩
theorem Ke (x:STokenizer) (h:AJ x≤1048576):D3 (Gj x):=by simp only[AJ,Gj,D3,and_true] at *<;>omega
def D4 (x y:STokenizer):List EqI:=[.s x.rest y.rest]
theorem Ku (x y:STokenizer):x=y↔Ce (D4 x y):=by cases x;cases y;simp[D4,Ce,EqI.tru]
theorem KZ (x y:STokenizer) (h:AJ x≤1125899906842624):D0 (D4 x y):=by simp only[AJ,D4,D0,EqI.ok,and_true,true_and] at *<;>omega
def WX (x:SNode):List SzI:=[.p x.name.size,.p x.text.size,.c (.sl .attr) (szL AK) x.attrs]
theorem VS (x:SNode) (h:Sh.good (.el .node) x):DW (WX x):=by simp only[WX,Sh.good,Sh.fc,enc,List.forall_mem_cons,List.not_mem_nil,false_implies,implies_true,CL,DW,SzI.ok,maxLen] at *;grind
def UK (x:SNode):List ToI:=[⟨(.sl .attr),(szL AK),x.attrs⟩]
def X5 (x:SNode) (z:(List SAttr)×Unit):SNode:=⟨x.name,x.text,x.parent,z.1⟩
theorem Vm (x:SNode) (h:szNode x≤1048576):D3 (UK x):=by simp only[szNode,UK,D3,and_true] at *<;>omega
def PD (x y:SNode):List EqI:=[.s x.name y.name,.s x.text y.text,.i x.parent y.parent,.c (.sl .attr) inferInstance (szL AK) x.attrs y.attrs]
theorem Vk (x y:SNode):x=y↔Ce (PD x y):=by cases x;cases y;simp[PD,Ce,EqI.tru]
theorem Wr (x y:SNode) (h:szNode x≤1125899906842624):D0 (PD x y):=by simp only[szNode,PD,D0,EqI.ok,and_true,true_and] at *<;>omega
def Jn (x:SBuilder):List SzI:=[.c (.sl .node) (szL szNode) x.nodes,.c (.sl .int) List.length x.open_]
theorem Oj (x:SBuilder) (h:Sh.good (.el .builder) x):DW (Jn x):=by simp only[Jn,Sh.good,Sh.fc,enc,List.forall_mem_cons,List.not_mem_nil,false_implies,implies_true,CL,DW,SzI.ok,maxLen] at *;grind
def Jm (x:SBuilder):List ToI:=[⟨(.sl .node),(szL szNode),x.nodes⟩,⟨(.sl .int),List.length,x.open_⟩]
def SS (x:SBuilder) (z:(List SNode)×(List Int)×Unit):SBuilder:=⟨z.1,z.2.1⟩
theorem NB (x:SBuilder) (h:szBuilder x≤1048576):D3 (Jm x):=by simp only[szBuilder,Jm,D3,and_true] at *<;>omega
def F2 (x y:SBuilder):List EqI:=[.c (.sl .node) inferInstance (szL szNode) x.nodes y.nodes,.c (.sl .int) inferInstance List.length x.open_ y.open_]
theorem ND (x y:SBuilder):x=y↔Ce (F2 x y):=by cases x;cases y;simp[F2,Ce,EqI.tru]
theorem NA (x y:SBuilder) (h:szBuilder x≤1125899906842624):D0 (F2 x y):=by simp only[szBuilder,F2,D0,EqI.ok,and_true,true_and] at *<;>omega
def Ly (x:SPolicy):List SzI:=[.c (.sl .str) (szL Ac) x.scripts,.c (.sl .str) (szL Ac) x.styles,.c (.sl .str) (szL Ac) x.images,.p x.nonce.size]
theorem Rf (x:SPolicy) (h:Sh.good (.el .policy) x):DW (Ly x):=by simp only[Ly,Sh.good,Sh.fc,enc,List.forall_mem_cons,List.not_mem_nil,false_implies,implies_true,CL,DW,SzI.ok,maxLen] at *;grind
def K4 (x:SPolicy):List ToI:=[⟨(.sl .str),(szL Ac),x.scripts⟩,⟨(.sl .str),(szL Ac),x.styles⟩,⟨(.sl .str),(szL Ac),x.images⟩]
def VT (x:SPolicy) (z:(List ByteArray)×(List ByteArray)×(List ByteArray)×Unit):SPolicy:=⟨x.set_,z.1,z.2.1,z.2.2.1,x.nonce⟩
theorem Pd (x:SPolicy) (h:szPolicy x≤1048576):D3 (K4 x):=by simp only[szPolicy,K4,D3,and_true] at *<;>omega
def HV (x y:SPolicy):List EqI:=[.b x.set_ y.set_,.c (.sl .str) inferInstance (szL Ac) x.scripts y.scripts,.c (.sl .str) inferInstance (szL Ac) x.styles y.styles,.c (.sl .str) inferInstance (szL Ac) x.images y.images,.s x.nonce y.nonce]
theorem Qm (x y:SPolicy):x=y↔Ce (HV x y):=by cases x;cases y;simp[HV,Ce,EqI.tru]
theorem Qs (x y:SPolicy) (h:szPolicy x≤1125899906842624):D0 (HV x y):=by simp only[szPolicy,HV,D0,EqI.ok,and_true,true_and] at *<;>omega
def Hh (x:SResponse):List SzI:=[.p x.body.size,.p x.policy.size]
theorem LK (x:SResponse) (h:Sh.good (.el .response) x):DW (Hh x):=by simp only[Hh,Sh.good,Sh.fc,enc,List.forall_mem_cons,List.not_mem_nil,false_implies,implies_true,CL,DW,SzI.ok,maxLen] at *;grind
def HG (x:SResponse):List ToI:=[]
def Qu (x:SResponse) (z:Unit):SResponse:=⟨x.status,x.kind,x.body,x.age,x.shares,x.policy⟩
theorem Mb (x:SResponse) (h:Av x≤1048576):D3 (HG x):=by simp only[Av,HG,D3,and_true] at *<;>omega
def EI (x y:SResponse):List EqI:=[.i x.status y.status,.i x.kind y.kind,.s x.body y.body,.i x.age y.age,.b x.shares y.shares,.s x.policy y.policy]
theorem Lv (x y:SResponse):x=y↔Ce (EI x y):=by cases x;cases y;simp[EI,Ce,EqI.tru]
theorem Ll (x y:SResponse) (h:Av x≤1125899906842624):D0 (EI x y):=by simp only[Av,EI,D0,EqI.ok,and_true,true_and] at *<;>omega
def Wi (x:SFile):List SzI:=[.p x.path.size,.c (.el .response) Av x.response]
theorem W2 (x:SFile) (h:Sh.good (.el .file) x):DW (Wi x):=by simp only[Wi,Sh.good,Sh.fc,enc,List.forall_mem_cons,List.not_mem_nil,false_implies,implies_true,CL,DW,SzI.ok,maxLen] at *;grind
def VG (x:SFile):List ToI:=[⟨(.el .response),Av,x.response⟩]
def Yc (x:SFile) (z:SResponse×Unit):SFile:=⟨x.path,z.1⟩
theorem VO (x:SFile) (h:Dh x≤1048576):D3 (VG x):=by simp only[Dh,VG,D3,and_true] at *<;>omega
def Pb (x y:SFile):List EqI:=[.s x.path y.path,.c (.el .response) inferInstance Av x.response y.response]
theorem VU (x y:SFile):x=y↔Ce (Pb x y):=by cases x;cases y;simp[Pb,Ce,EqI.tru]
theorem Wq (x y:SFile) (h:Dh x≤1125899906842624):D0 (Pb x y):=by simp only[Dh,Pb,D0,EqI.ok,and_true,true_and] at *<;>omega
def LA (x:SServer):List SzI:=[.p x.host.size,.c (.sl .file) (szL Dh) x.files]
theorem Q8 (x:SServer) (h:Sh.good (.el .server) x):DW (LA x):=by simp only[LA,Sh.good,Sh.fc,enc,List.forall_mem_cons,List.not_mem_nil,false_implies,implies_true,CL,DW,SzI.ok,maxLen] at *;grind
def LM (x:SServer):List ToI:=[⟨(.sl .file),(szL Dh),x.files⟩]
def U9 (x:SServer) (z:(List SFile)×Unit):SServer:=⟨x.host,z.1⟩
theorem Pm (x:SServer) (h:AZ x≤1048576):D3 (LM x):=by simp only[AZ,LM,D3,and_true] at *<;>omega
def Hi (x y:SServer):List EqI:=[.s x.host y.host,.c (.sl .file) inferInstance (szL Dh) x.files y.files]
theorem QZ (x y:SServer):x=y↔Ce (Hi x y):=by cases x;cases y;simp[Hi,Ce,EqI.tru]
theorem PR (x y:SServer) (h:AZ x≤1125899906842624):D0 (Hi x y):=by simp only[AZ,Hi,D0,EqI.ok,and_true,true_and] at *<;>omega
def RE (x:SEntry):List SzI:=[.p x.top.size,.c (.el .addr) szAddr x.to,.c (.el .response) Av x.response]
theorem Tw (x:SEntry) (h:Sh.good (.el .entry) x):DW (RE x):=by simp only[RE,Sh.good,Sh.fc,enc,List.forall_mem_cons,List.not_mem_nil,false_implies,implies_true,CL,DW,SzI.ok,maxLen] at *;grind
def RL (x:SEntry):List ToI:=[⟨(.el .addr),szAddr,x.to⟩,⟨(.el .response),Av,x.response⟩]
def Xg (x:SEntry) (z:SAddr×SResponse×Unit):SEntry:=⟨x.top,z.1,z.2.1,x.until_⟩
theorem TP (x:SEntry) (h:Cs x≤1048576):D3 (RL x):=by simp only[Cs,RL,D3,and_true] at *<;>omega
def KT (x y:SEntry):List EqI:=[.s x.top y.top,.c (.el .addr) inferInstance szAddr x.to y.to,.c (.el .response) inferInstance Av x.response y.response,.i x.until_ y.until_]
theorem Sg (x y:SEntry):x=y↔Ce (KT x y):=by cases x;cases y;simp[KT,Ce,EqI.tru]
theorem Ub (x y:SEntry) (h:Cs x≤1125899906842624):D0 (KT x y):=by simp only[Cs,KT,D0,EqI.ok,and_true,true_and] at *<;>omega
def Ru (x:SCache):List SzI:=[.c (.sl .entry) (szL Cs) x.entries]
theorem Sr (x:SCache) (h:Sh.good (.el .cache) x):DW (Ru x):=by simp only[Ru,Sh.good,Sh.fc,enc,List.forall_mem_cons,List.not_mem_nil,false_implies,implies_true,CL,DW,SzI.ok,maxLen] at *;grind
def PT (x:SCache):List ToI:=[⟨(.sl .entry),(szL Cs),x.entries⟩]
def XQ (x:SCache) (z:(List SEntry)×Unit):SCache:=⟨z.1⟩
theorem R3 (x:SCache) (h:szCache x≤1048576):D3 (PT x):=by simp only[szCache,PT,D3,and_true] at *<;>omega
def KQ (x y:SCache):List EqI:=[.c (.sl .entry) inferInstance (szL Cs) x.entries y.entries]
theorem Sq (x y:SCache):x=y↔Ce (KQ x y):=by cases x;cases y;simp[KQ,Ce,EqI.tru]
theorem Sd (x y:SCache) (h:szCache x≤1125899906842624):D0 (KQ x y):=by simp only[szCache,KQ,D0,EqI.ok,and_true,true_and] at *<;>omega
def VM (x:SSent):List SzI:=[.p x.top.size,.c (.el .addr) szAddr x.to]
theorem UD (x:SSent) (h:Sh.good (.el .sent) x):DW (VM x):=by simp only[VM,Sh.good,Sh.fc,enc,List.forall_mem_cons,List.not_mem_nil,false_implies,implies_true,CL,DW,SzI.ok,maxLen] at *;grind
def W3 (x:SSent):List ToI:=[⟨(.el .addr),szAddr,x.to⟩]
def YC (x:SSent) (z:SAddr×Unit):SSent:=⟨x.top,z.1,x.guess⟩
theorem UO (x:SSent) (h:C8 x≤1048576):D3 (W3 x):=by simp only[C8,W3,D3,and_true] at *<;>omega
def P2 (x y:SSent):List EqI:=[.s x.top y.top,.c (.el .addr) inferInstance szAddr x.to y.to,.b x.guess y.guess]
theorem UW (x y:SSent):x=y↔Ce (P2 x y):=by cases x;cases y;simp[P2,Ce,EqI.tru]
theorem Wa (x y:SSent) (h:C8 x≤1125899906842624):D0 (P2 x y):=by simp only[C8,P2,D0,EqI.ok,and_true,true_and] at *<;>omega
def X4 (x:SNet):List SzI:=[.c (.sl .server) (szL AZ) x.servers,.c (.el .cache) szCache x.cache,.c (.sl .sent) (szL C8) x.log]
theorem Xv (x:SNet) (h:Sh.good (.el .net) x):DW (X4 x):=by simp only[X4,Sh.good,Sh.fc,enc,List.forall_mem_cons,List.not_mem_nil,false_implies,implies_true,CL,DW,SzI.ok,maxLen] at *;grind
def Yz (x:SNet):List ToI:=[⟨(.sl .server),(szL AZ),x.servers⟩,⟨(.el .cache),szCache,x.cache⟩,⟨(.sl .sent),(szL C8),x.log⟩]
def Ab9 (x:SNet) (z:(List SServer)×SCache×(List SSent)×Unit):SNet:=⟨z.1,z.2.1,z.2.2.1,x.now⟩
theorem Xx (x:SNet) (h:szNet x≤1048576):D3 (Yz x):=by simp only[szNet,Yz,D3,and_true] at *<;>omega
def Xn (x y:SNet):List EqI:=[.c (.sl .server) inferInstance (szL AZ) x.servers y.servers,.c (.el .cache) inferInstance szCache x.cache y.cache,.c (.sl .sent) inferInstance (szL C8) x.log y.log,.i x.now y.now]
theorem Xc (x y:SNet):x=y↔Ce (Xn x y):=by cases x;cases y;simp[Xn,Ce,EqI.tru]
theorem Xj (x y:SNet) (h:szNet x≤1125899906842624):D0 (Xn x y):=by simp only[szNet,Xn,D0,EqI.ok,and_true,true_and] at *<;>omega
def U1 (x:SSlot):List SzI:=[.c (.el .addr) szAddr x.to,.p x.digest.size,.p x.body.size]
theorem Wo (x:SSlot) (h:Sh.good (.el .slot) x):DW (U1 x):=by simp only[U1,Sh.good,Sh.fc,enc,List.forall_mem_cons,List.not_mem_nil,false_implies,implies_true,CL,DW,SzI.ok,maxLen] at *;grind
def Wn (x:SSlot):List ToI:=[⟨(.el .addr),szAddr,x.to⟩]
def Ya (x:SSlot) (z:SAddr×Unit):SSlot:=⟨x.mode,z.1,x.digest,x.node,x.done,x.code,x.body⟩
theorem WP (x:SSlot) (h:AL x≤1048576):D3 (Wn x):=by simp only[AL,Wn,D3,and_true] at *<;>omega
def Ql (x y:SSlot):List EqI:=[.i x.mode y.mode,.c (.el .addr) inferInstance szAddr x.to y.to,.s x.digest y.digest,.i x.node y.node,.b x.done y.done,.i x.code y.code,.s x.body y.body]
theorem Ws (x y:SSlot):x=y↔Ce (Ql x y):=by cases x;cases y;simp[Ql,Ce,EqI.tru]
theorem UA (x y:SSlot) (h:AL x≤1125899906842624):D0 (Ql x y):=by simp only[AL,Ql,D0,EqI.ok,and_true,true_and] at *<;>omega
def L6 (x:SModule):List SzI:=[.c (.el .addr) szAddr x.to,.p x.body.size]
theorem Re (x:SModule) (h:Sh.good (.el .module) x):DW (L6 x):=by simp only[L6,Sh.good,Sh.fc,enc,List.forall_mem_cons,List.not_mem_nil,false_implies,implies_true,CL,DW,SzI.ok,maxLen] at *;grind
def Ln (x:SModule):List ToI:=[⟨(.el .addr),szAddr,x.to⟩]
def UF (x:SModule) (z:SAddr×Unit):SModule:=⟨z.1,x.done,x.code,x.body⟩
theorem QP (x:SModule) (h:Ar x≤1048576):D3 (Ln x):=by simp only[Ar,Ln,D3,and_true] at *<;>omega
def Hp (x y:SModule):List EqI:=[.c (.el .addr) inferInstance szAddr x.to y.to,.b x.done y.done,.i x.code y.code,.s x.body y.body]
theorem PA (x y:SModule):x=y↔Ce (Hp x y):=by cases x;cases y;simp[Hp,Ce,EqI.tru]
theorem Pv (x y:SModule) (h:Ar x≤1125899906842624):D0 (Hp x y):=by simp only[Ar,Hp,D0,EqI.ok,and_true,true_and] at *<;>omega
def VR (x:SPage):List SzI:=[.c (.el .addr) szAddr x.addr,.c (.el .policy) szPolicy x.policy,.c (.el .tokenizer) AJ x.tok,.c (.sl .token) (szL Af) x.queue,.c (.el .builder) szBuilder x.builder,.c (.sl .slot) (szL AL) x.slots,.c (.sl .module) (szL Ar) x.mods,.c (.sl .addr) (szL szAddr) x.entries,.c (.sl .addr) (szL szAddr) x.ran,.c (.sl .str) (szL Ac) x.log]
theorem Wx (x:SPage) (h:Sh.good (.el .page) x):DW (VR x):=by simp only[VR,Sh.good,Sh.fc,enc,List.forall_mem_cons,List.not_mem_nil,false_implies,implies_true,CL,DW,SzI.ok,maxLen] at *;grind
def Vp (x:SPage):List ToI:=[⟨(.el .addr),szAddr,x.addr⟩,⟨(.el .policy),szPolicy,x.policy⟩,⟨(.el .tokenizer),AJ,x.tok⟩,⟨(.sl .token),(szL Af),x.queue⟩,⟨(.el .builder),szBuilder,x.builder⟩,⟨(.sl .slot),(szL AL),x.slots⟩,⟨(.sl .module),(szL Ar),x.mods⟩,⟨(.sl .addr),(szL szAddr),x.entries⟩,⟨(.sl .addr),(szL szAddr),x.ran⟩,⟨(.sl .str),(szL Ac),x.log⟩]
def Yp (x:SPage) (z:SAddr×SPolicy×STokenizer×(List SToken)×SBuilder×(List SSlot)×(List SModule)×(List SAddr)×(List SAddr)×(List ByteArray)×Unit):SPage:=⟨z.1,z.2.1,z.2.2.1,z.2.2.2.1,x.ended,z.2.2.2.2.1,z.2.2.2.2.2.1,z.2.2.2.2.2.2.1,z.2.2.2.2.2.2.2.1,x.block,x.inline,x.deferred,x.entered,z.2.2.2.2.2.2.2.2.1,z.2.2.2.2.2.2.2.2.2.1,x.loaded⟩
theorem We (x:SPage) (h:szPage x≤1048576):D3 (Vp x):=by simp only[szPage,Vp,D3,and_true] at *<;>omega
def Qn (x y:SPage):List EqI:=[.c (.el .addr) inferInstance szAddr x.addr y.addr,.c (.el .policy) inferInstance szPolicy x.policy y.policy,.c (.el .tokenizer) inferInstance AJ x.tok y.tok,.c (.sl .token) inferInstance (szL Af) x.queue y.queue,.b x.ended y.ended,.c (.el .builder) inferInstance szBuilder x.builder y.builder,.c (.sl .slot) inferInstance (szL AL) x.slots y.slots,.c (.sl .module) inferInstance (szL Ar) x.mods y.mods,.c (.sl .addr) inferInstance (szL szAddr) x.entries y.entries,.i x.block y.block,.i x.inline y.inline,.i x.deferred y.deferred,.i x.entered y.entered,.c (.sl .addr) inferInstance (szL szAddr) x.ran y.ran,.c (.sl .str) inferInstance (szL Ac) x.log y.log,.b x.loaded y.loaded]
theorem UJ (x y:SPage):x=y↔Ce (Qn x y):=by cases x;cases y;simp[Qn,Ce,EqI.tru]
theorem VH (x y:SPage) (h:szPage x≤1125899906842624):D0 (Qn x y):=by simp only[szPage,Qn,D0,EqI.ok,and_true,true_and] at *<;>omega
def QS (x:SGuess):List SzI:=[.c (.el .addr) szAddr x.to,.c (.el .response) Av x.response]
theorem Sb (x:SGuess) (h:Sh.good (.el .guess) x):DW (QS x):=by simp only[QS,Sh.good,Sh.fc,enc,List.forall_mem_cons,List.not_mem_nil,false_implies,implies_true,CL,DW,SzI.ok,maxLen] at *;grind
def Qq (x:SGuess):List ToI:=[⟨(.el .addr),szAddr,x.to⟩,⟨(.el .response),Av,x.response⟩]
def Xm (x:SGuess) (z:SAddr×SResponse×Unit):SGuess:=⟨z.1,z.2.1,x.used⟩
theorem Sv (x:SGuess) (h:CB x≤1048576):D3 (Qq x):=by simp only[CB,Qq,D3,and_true] at *<;>omega
def KL (x y:SGuess):List EqI:=[.c (.el .addr) inferInstance szAddr x.to y.to,.c (.el .response) inferInstance Av x.response y.response,.b x.used y.used]
theorem RX (x y:SGuess):x=y↔Ce (KL x y):=by cases x;cases y;simp[KL,Ce,EqI.tru]
theorem Ua (x y:SGuess) (h:CB x≤1125899906842624):D0 (KL x y):=by simp only[CB,KL,D0,EqI.ok,and_true,true_and] at *<;>omega
def VQ (x:SConn):List SzI:=[.c (.el .addr) szAddr x.to,.c (.el .response) Av x.response]
theorem UG (x:SConn) (h:Sh.good (.el .conn) x):DW (VQ x):=by simp only[VQ,Sh.good,Sh.fc,enc,List.forall_mem_cons,List.not_mem_nil,false_implies,implies_true,CL,DW,SzI.ok,maxLen] at *;grind
def WV (x:SConn):List ToI:=[⟨(.el .addr),szAddr,x.to⟩,⟨(.el .response),Av,x.response⟩]
def X3 (x:SConn) (z:SAddr×SResponse×Unit):SConn:=⟨z.1,x.left,x.guess,z.2.1⟩
theorem WM (x:SConn) (h:Di x≤1048576):D3 (WV x):=by simp only[Di,WV,D3,and_true] at *<;>omega
def Qr (x y:SConn):List EqI:=[.c (.el .addr) inferInstance szAddr x.to y.to,.i x.left y.left,.b x.guess y.guess,.c (.el .response) inferInstance Av x.response y.response]
theorem UY (x y:SConn):x=y↔Ce (Qr x y):=by cases x;cases y;simp[Qr,Ce,EqI.tru]
theorem UC (x y:SConn) (h:Di x≤1125899906842624):D0 (Qr x y):=by simp only[Di,Qr,D0,EqI.ok,and_true,true_and] at *<;>omega
def Mj (x:SLoader):List SzI:=[.c (.el .net) szNet x.net,.c (.el .page) szPage x.page,.c (.sl .str) (szL Ac) x.parts,.c (.sl .conn) (szL Di) x.conns,.c (.sl .guess) (szL CB) x.guesses]
theorem Rx (x:SLoader) (h:Sh.good (.el .loader) x):DW (Mj x):=by simp only[Mj,Sh.good,Sh.fc,enc,List.forall_mem_cons,List.not_mem_nil,false_implies,implies_true,CL,DW,SzI.ok,maxLen] at *;grind
def Mk (x:SLoader):List ToI:=[⟨(.el .net),szNet,x.net⟩,⟨(.el .page),szPage,x.page⟩,⟨(.sl .str),(szL Ac),x.parts⟩,⟨(.sl .conn),(szL Di),x.conns⟩,⟨(.sl .guess),(szL CB),x.guesses⟩]
def UX (x:SLoader) (z:SNet×SPage×(List ByteArray)×(List SConn)×(List SGuess)×Unit):SLoader:=⟨z.1,z.2.1,z.2.2.1,z.2.2.2.1,z.2.2.2.2.1⟩
theorem QG (x:SLoader) (h:CN x≤1048576):D3 (Mk x):=by simp only[CN,Mk,D3,and_true] at *<;>omega
def Hw (x y:SLoader):List EqI:=[.c (.el .net) inferInstance szNet x.net y.net,.c (.el .page) inferInstance szPage x.page y.page,.c (.sl .str) inferInstance (szL Ac) x.parts y.parts,.c (.sl .conn) inferInstance (szL Di) x.conns y.conns,.c (.sl .guess) inferInstance (szL CB) x.guesses y.guesses]
theorem Rv (x y:SLoader):x=y↔Ce (Hw x y):=by cases x;cases y;simp[Hw,Ce,EqI.tru]
theorem QQ (x y:SLoader) (h:CN x≤1125899906842624):D0 (Hw x y):=by simp only[CN,Hw,D0,EqI.ok,and_true,true_and] at *<;>omega
def Ej:Fct:=szF (.sl .str) (szL Ac)
def GK:Fct:=toF (.sl .str) (szL Ac)
def D6:Fct:=eqF (.sl .str) (szL Ac)
def KG:MS:=mkF (.sl .str) (Ai DR)
def J1:Fct:=heF (.sl .str) (Ai DR)
def JF:Fct:=szF (.sl .int) List.length
def K8:Fct:=toF (.sl .int) List.length
def HK:Fct:=eqF (.sl .int) List.length
def QB:MS:=mkF (.sl .int) (Ai Tp)
def Qd:Fct:=heF (.sl .int) (Ai Tp)
def Tb:Fct:=szF (.sl .addr) (szL szAddr)
def R7:Fct:=toF (.sl .addr) (szL szAddr)
def Sx:Fct:=eqF (.sl .addr) (szL szAddr)
def NN:MS:=mkF (.sl .addr) (Ai Kp)
def OA:Fct:=heF (.sl .addr) (Ai Kp)
def U5:Fct:=szF (.el .addr) szAddr
def VL:Fct:=toF (.el .addr) szAddr
def VP:Fct:=eqF (.el .addr) szAddr
def Sn:Fct:=szF (.sl .attr) (szL AK)
def SB:Fct:=toF (.sl .attr) (szL AK)
def SM:Fct:=eqF (.sl .attr) (szL AK)
def OI:MS:=mkF (.sl .attr) (Ai Kj)
def NH:Fct:=heF (.sl .attr) (Ai Kj)
def VI:Fct:=szF (.el .attr) AK
def Vz:Fct:=toF (.el .attr) AK
def W4:Fct:=eqF (.el .attr) AK
def Rn:Fct:=szF (.sl .token) (szL Af)
def PO:Fct:=toF (.sl .token) (szL Af)
def Rg:Fct:=eqF (.sl .token) (szL Af)
def Lo:MS:=mkF (.sl .token) (Ai I6)
def L8:Fct:=heF (.sl .token) (Ai I6)
def Sl:Fct:=szF (.el .token) Af
def S2:Fct:=toF (.el .token) Af
def Ug:Fct:=eqF (.el .token) Af
def JU:Fct:=szF (.el .tokenizer) AJ
def KK:Fct:=toF (.el .tokenizer) AJ
def Kw:Fct:=eqF (.el .tokenizer) AJ
def T4:Fct:=szF (.sl .node) (szL szNode)
def TU:Fct:=toF (.sl .node) (szL szNode)
def Sp:Fct:=eqF (.sl .node) (szL szNode)
def OO:MS:=mkF (.sl .node) (Ai MN)
def NG:Fct:=heF (.sl .node) (Ai MN)
def VA:Fct:=szF (.el .node) szNode
def WW:Fct:=toF (.el .node) szNode
def VX:Fct:=eqF (.el .node) szNode
def NT:Fct:=szF (.el .builder) szBuilder
def O1:Fct:=toF (.el .builder) szBuilder
def Og:Fct:=eqF (.el .builder) szBuilder
def J5:MS:=mkF (.el .builder) FU
def KE:Fct:=heF (.el .builder) FU
def Qo:Fct:=szF (.el .policy) szPolicy
def PU:Fct:=toF (.el .policy) szPolicy
def P7:Fct:=eqF (.el .policy) szPolicy
def ME:MS:=mkF (.el .policy) G6
def Li:Fct:=heF (.el .policy) G6
def LV:Fct:=szF (.el .response) Av
def Ms:Fct:=toF (.el .response) Av
def Lz:Fct:=eqF (.el .response) Av
def Tt:Fct:=szF (.sl .file) (szL Dh)
def T6:Fct:=toF (.sl .file) (szL Dh)
def SC:Fct:=eqF (.sl .file) (szL Dh)
def Nx:MS:=mkF (.sl .file) (Ai MZ)
def OY:Fct:=heF (.sl .file) (Ai MZ)
def Ve:Fct:=szF (.el .file) Dh
def U2:Fct:=toF (.el .file) Dh
def Wg:Fct:=eqF (.el .file) Dh
def OL:Fct:=szF (.sl .server) (szL AZ)
def Ow:Fct:=toF (.sl .server) (szL AZ)
def OE:Fct:=eqF (.sl .server) (szL AZ)
def KJ:MS:=mkF (.sl .server) (Ai Hc)
def KY:Fct:=heF (.sl .server) (Ai Hc)
def Q4:Fct:=szF (.el .server) AZ
def Qa:Fct:=toF (.el .server) AZ
def QC:Fct:=eqF (.el .server) AZ
def Rw:Fct:=szF (.sl .entry) (szL Cs)
def QJ:Fct:=toF (.sl .entry) (szL Cs)
def Pe:Fct:=eqF (.sl .entry) (szL Cs)
def L1:MS:=mkF (.sl .entry) (Ai I4)
def My:Fct:=heF (.sl .entry) (Ai I4)
def SO:Fct:=szF (.el .entry) Cs
def T9:Fct:=toF (.el .entry) Cs
def TL:Fct:=eqF (.el .entry) Cs
def SZ:Fct:=szF (.el .cache) szCache
def RY:Fct:=toF (.el .cache) szCache
def S6:Fct:=eqF (.el .cache) szCache
def OC:MS:=mkF (.el .cache) IZ
def OQ:Fct:=heF (.el .cache) IZ
def Tr:Fct:=szF (.sl .sent) (szL C8)
def Tf:Fct:=toF (.sl .sent) (szL C8)
def TW:Fct:=eqF (.sl .sent) (szL C8)
def Nq:MS:=mkF (.sl .sent) (Ai MO)
def OU:Fct:=heF (.sl .sent) (Ai MO)
def W7:Fct:=szF (.el .sent) C8
def Wh:Fct:=toF (.el .sent) C8
def Vf:Fct:=eqF (.el .sent) C8
def Xd:Fct:=szF (.el .net) szNet
def XB:Fct:=toF (.el .net) szNet
def XF:Fct:=eqF (.el .net) szNet
def SW:MS:=mkF (.el .net) Uj
def RZ:Fct:=heF (.el .net) Uj
def SH:Fct:=szF (.sl .slot) (szL AL)
def Tq:Fct:=toF (.sl .slot) (szL AL)
def So:Fct:=eqF (.sl .slot) (szL AL)
def Oi:MS:=mkF (.sl .slot) (Ai M4)
def Nv:Fct:=heF (.sl .slot) (Ai M4)
def Va:Fct:=szF (.el .slot) AL
def Wc:Fct:=toF (.el .slot) AL
def Vx:Fct:=eqF (.el .slot) AL
def Oc:Fct:=szF (.sl .module) (szL Ar)
def OV:Fct:=toF (.sl .module) (szL Ar)
def Ob:Fct:=eqF (.sl .module) (szL Ar)
def J3:MS:=mkF (.sl .module) (Ai Hd)
def Kq:Fct:=heF (.sl .module) (Ai Hd)
def Pr:Fct:=szF (.el .module) Ar
def PY:Fct:=toF (.el .module) Ar
def QU:Fct:=eqF (.el .module) Ar
def Vg:Fct:=szF (.el .page) szPage
def WG:Fct:=toF (.el .page) szPage
def Wz:Fct:=eqF (.el .page) szPage
def Qk:MS:=mkF (.el .page) M8
def Qg:Fct:=heF (.el .page) M8
def Pi:Fct:=szF (.sl .guess) (szL CB)
def RK:Fct:=toF (.sl .guess) (szL CB)
def O6:Fct:=eqF (.sl .guess) (szL CB)
def MA:MS:=mkF (.sl .guess) (Ai IX)
def Mc:Fct:=heF (.sl .guess) (Ai IX)
def Sy:Fct:=szF (.el .guess) CB
def Td:Fct:=toF (.el .guess) CB
def Tg:Fct:=eqF (.el .guess) CB
def S9:Fct:=szF (.sl .conn) (szL Di)
def TY:Fct:=toF (.sl .conn) (szL Di)
def T5:Fct:=eqF (.sl .conn) (szL Di)
def N2:MS:=mkF (.sl .conn) (Ai Np)
def N3:Fct:=heF (.sl .conn) (Ai Np)
def V3:Fct:=szF (.el .conn) Di
def W9:Fct:=toF (.el .conn) Di
def WU:Fct:=eqF (.el .conn) Di
def H1:Fct:=szF (.el .loader) CN
def Eh:Fct:=toF (.el .loader) CN
def D5:Fct:=eqF (.el .loader) CN
def Dj:MS:=mkF (.el .loader) Bv
def Er:Fct:=heF (.el .loader) Bv
end Go.D
namespace Go.D
theorem AaK:(∀ x:SToken,(⟨x.kind,x.name,x.attrs,x.text⟩:SToken)=x)∧(∀ x:SNode,(⟨x.name,x.text,x.parent,x.attrs⟩:SNode)=x)∧(∀ x:SBuilder,(⟨x.nodes,x.open_⟩:SBuilder)=x)∧(∀ x:SPolicy,(⟨x.set_,x.scripts,x.styles,x.images,x.nonce⟩:SPolicy)=x)∧(∀ x:SPage,(⟨x.addr,x.policy,x.tok,x.queue,x.ended,x.builder,x.slots,x.mods,x.entries,x.block,x.inline,x.deferred,x.entered,x.ran,x.log,x.loaded⟩:SPage)=x)∧(∀ x:SVisit,(⟨x.addr,x.page,x.kept⟩:SVisit)=x)∧(∀ x:STab,(⟨x.visits,x.at_⟩:STab)=x)∧(∀ x:SServer,(⟨x.host,x.files⟩:SServer)=x)∧(∀ x:SCache,(⟨x.entries⟩:SCache)=x)∧(∀ x:SNet,(⟨x.servers,x.cache,x.log,x.now⟩:SNet)=x)∧(∀ x:SLoader,(⟨x.net,x.page,x.parts,x.conns,x.guesses⟩:SLoader)=x)∧(∀ x:SSheet,(⟨x.rules⟩:SSheet)=x)∧(∀ x:SResult,(⟨x.builder,x.log,x.verdicts,x.sheet,x.loaded⟩:SResult)=x)∧(∀ x:SSlot,(⟨x.mode,x.to,x.digest,x.node,x.done,x.code,x.body⟩:SSlot)=x)∧(∀ x:SModule,(⟨x.to,x.done,x.code,x.body⟩:SModule)=x)∧(∀ x:SAddr,(⟨x.host,x.path⟩:SAddr)=x)∧(∀ x:SRequest,(⟨x.kind,x.to,x.from_,x.digest⟩:SRequest)=x)∧(∀ x:SResponse,(⟨x.status,x.kind,x.body,x.age,x.shares,x.policy⟩:SResponse)=x)∧(∀ x:SConn,(⟨x.to,x.left,x.guess,x.response⟩:SConn)=x)∧(∀ x:SGuess,(⟨x.to,x.response,x.used⟩:SGuess)=x)∧(∀ x:SEntry,(⟨x.top,x.to,x.response,x.until_⟩:SEntry)=x)∧(∀ x:SSent,(⟨x.top,x.to,x.guess⟩:SSent)=x)∧(∀ x:SFile,(⟨x.path,x.response⟩:SFile)=x) :=
 ⟨Sc,Vq,NX,PE,Vy,TN,Xw,RS,Tl,Xu,Pw,SD,PW,WJ,QO,Vu,OZ,MC,UN,S0,Ta,WY,U7⟩
theorem std:(type_of% @AaK)∧(type_of% @Xa)∧(type_of% @XU)∧∀ {α:Type} (a b:α),(a≠b) = ¬a=b:=⟨AaK,Xa,XU,fun _ _=>rfl⟩
def KP (a b:List Nat):List Nat:=a++(b++b.map (· + 1000000))
def lv:List (Nat×LInv)→O2
 | [],_=>none
 | (m,x)::r,n=>bif n==m then some x else lv r n
theorem Fct.p {S:Fct} {P:Program} {E:Env} {f:Nat} {fn:Func} (kp:List Nat) (L:As S.as→O2) (hE:EOk P E) (hf:P.funcs[f]? = some fn)
 (hh:∀ x,S.pre x→HoldsE (Eg P E (L x) kp [] fn (S.arg x)) (S.ctr x).post) (hc:(fn.body.isSome&&decide (S.as.length≤fn.ntmps))=true:=by kernel_rfl):S.ok P f:=by
 rw[Bool.and_eq_true] at hc
 exact Fct.of (L:=L) hE hf hc.1 hc.2 hh
end Go.D
namespace Go.D
set_option linter.unusedSectionVars false
section
variable {α:Type} [DecidableEq α] [Inhabited α]
def PL:List α→List α
 | []=>[]
 | [a]=>[a]
 | a::b::l=>if a=b then PL (b::l) else a::PL (b::l)
structure CompInv (s d:List α) (k0 k k2:Int):Prop where
 c2:1≤k2
 c0:1≤k0
 le:k0+k2≤s.length
 lo:k0≤k
 hi:k<k0+k2
 len:d.length=s.length
 dr:d.drop k.toNat=s.drop k.toNat
 tk:d.take k.toNat=PL (s.take (k0+k2).toNat)
theorem GU {s d:List α} {k i:Nat} (h:d.drop k=s.drop k) (hi:k≤i):d.getD i default=s.getD i default:=by
 have h1:(d.drop k)[i-k]? = (s.drop k)[i-k]?:=by rw[h]
 simp only[List.getElem?_drop,show k+(i-k)=i by omega] at h1
 simp[List.getD_eq_getElem?_getD,h1]
theorem CompInv.at_ {s d:List α} {k0 k k2:Int} (h:CompInv s d k0 k k2) (hlt:k0+k2<s.length) :
 d.getD (k0.toNat+k2.toNat) default=s.getD (k0+k2).toNat default∧d.getD (k0.toNat+(k2-1).toNat) default=s.getD ((k0+k2).toNat-1) default:=by
 obtain⟨a,b,c,e,f,g,i,j⟩:=h
 refine⟨?_,?_⟩
 ·rw[GU i (by omega)];congr 1;omega
 ·rw[GU i (by omega)];congr 1;omega
end
end Go.D
namespace Go.D
open Go.Lib Go.Sort
def SE (a b:ByteArray):Int:=compareBytes a.data.toList b.data.toList
theorem SU:∀ l m:List UInt8,compareBytes l m = -1∨compareBytes l m=0∨compareBytes l m=1:=by
 intro l
 induction l with
 | nil=>intro m;cases m<;>simp[compareBytes]
 | cons a l ih=>
  intro m
  cases m with
  | nil=>simp[compareBytes]
  | cons b m=>
   simp only[compareBytes]
   split
   ·simp
   ·split
    ·simp
    ·exact ih m
theorem Xl:∀ {l m:List UInt8},compareBytes l m=0↔l=m:=by
 intro l
 induction l with
 | nil=>intro m;cases m<;>simp[compareBytes]
 | cons a l ih=>
  intro m
  cases m with
  | nil=>simp[compareBytes]
  | cons b m=>
   simp only[compareBytes,List.cons.injEq]
   split
   ·rename_i h;simp;intro e;subst e;exact absurd h (UInt8.lt_irrefl _)
   ·split
    ·rename_i h;simp;intro e;subst e;exact absurd h (UInt8.lt_irrefl _)
    ·rename_i h1 h2
     have e:a=b:=UInt8.le_antisymm (UInt8.not_lt.1 h2) (UInt8.not_lt.1 h1)
     simp[e,ih]
theorem VF:∀ {l m:List UInt8},Op.bytesLess l m=decide (compareBytes l m<0):=by
 intro l
 induction l with
 | nil=>intro m;cases m<;>simp[Op.bytesLess,compareBytes]
 | cons a l ih=>
  intro m
  cases m with
  | nil=>simp[Op.bytesLess,compareBytes]
  | cons b m=>
   simp only[Op.bytesLess,compareBytes,ih]
   by_cases h1:a<b
   ·simp[h1]
   ·by_cases h2:b<a
    ·have:¬ a=b:=fun e=>UInt8.lt_irrefl _ (e▸h2)
     simp[h1,h2,this]
    ·have e:a=b:=UInt8.le_antisymm (UInt8.not_lt.1 h2) (UInt8.not_lt.1 h1)
     simp[e,UInt8.lt_irrefl]
theorem Rq (a b:ByteArray):Op.bytesLess a.toList b.toList=decide (SE a b<0):=by
 rw[VF,Lib.toList_data,Lib.toList_data];rfl
theorem Xp {a b:ByteArray} (h:a.data.toList=b.data.toList):a=b:=by
 cases a;cases b;simpa using Array.toList_inj.1 h
theorem Ho {a b:ByteArray}:SE a b=0↔a=b:=⟨fun h=>Xp (Xl.1 h),fun h=>Xl.2 (by rw[h])⟩
theorem GD (a b:ByteArray):SE a b = -1∨SE a b=0∨SE a b=1:=SU _ _
def fCmpStr:Fct:=⟨[aT,aT],[rI],fun _=>True,fun x=>(SE x.1 x.2.1,())⟩
def cmpA (a b:SAddr):Int:=if SE a.host b.host=0 then SE a.path b.path else SE a.host b.host
theorem Od (a b:SAddr):cmpA a b = -1∨cmpA a b=0∨cmpA a b=1:=by unfold cmpA;split<;>exact GD _ _
theorem V4 {a b:SAddr}:cmpA a b=0↔a=b:=by
 obtain⟨h,p⟩:=a;obtain⟨h',p'⟩:=b
 simp only[cmpA,SAddr.mk.injEq]
 split
 ·rename_i e;rw[Ho,Ho.1 e];simp
 ·rename_i e;constructor
  ·intro h;exact absurd h e
  ·rintro⟨rfl,_⟩;exact absurd (Ho.2 rfl) e
end Go.D
namespace Go.D
def FO (n:Int):ByteArray:=⟨(Lib.itoa n).toArray⟩
def Te (k:Nat) (s:ByteArray):ByteArray:=if k=0 then s else⟨(Lib.decDigits k).toArray⟩++s
theorem D2 {k:Nat} (h:10≤k):Lib.decDigits k=Lib.decDigits (k / 10)++[UInt8.ofNat (48+k % 10)]:=by
 rw[Lib.decDigits,dif_neg (by omega)]
theorem Dc {k:Nat} (h:k<10):Lib.decDigits k=[UInt8.ofNat (48+k)]:=by
 rw[Lib.decDigits,dif_pos h]
theorem Ko {k:Nat} {s:ByteArray} (h:0<k):Te k s=Te (k / 10) (⟨#[UInt8.ofNat (48+k % 10)]⟩++s):=by
 unfold Te
 rw[if_neg (by omega)]
 by_cases h1:k<10
 ·rw[if_pos (by omega),Dc h1,Nat.mod_eq_of_lt h1]
 ·rw[if_neg (by omega),D2 (by omega)]
  rw[←ByteArray.append_assoc]
  congr 1
theorem Pg:FO 0=⟨#[48]⟩:=by
 unfold FO Lib.itoa
 rw[if_neg (by omega),Dc (by decide)]
 rfl
theorem SR {n:Int} (h:n<0):FO n=⟨#[45]⟩++Te n.natAbs ⟨#[]⟩:=by
 unfold FO Lib.itoa Te
 rw[if_pos h,if_neg (by omega)]
 apply ByteArray.ext
 simp
theorem Uh {n:Int} (h:0<n):FO n=Te n.natAbs ⟨#[]⟩:=by
 unfold FO Lib.itoa Te
 rw[if_neg (by omega),if_neg (by omega),show n.toNat=n.natAbs by omega]
 apply ByteArray.ext
 simp
theorem DD:∀ (f k:Nat),k<10 ^ (f+1)→(Lib.decDigits k).length≤f+1
 | 0,k,h=>by rw[Dc (by omega)];simp
 | f+1,k,h=>by
  by_cases h1:k<10
  ·rw[Dc h1];simp
  ·rw[D2 (by omega),List.length_append]
   have:=DD f (k / 10) (by rw[Nat.pow_succ] at h;omega)
   simp only[List.length_cons,List.length_nil];omega
theorem F3 {n:Int} (h0 : -9223372036854775808≤n) (h1:n≤9223372036854775807):(FO n).size≤20:=by
 have e:(FO n).size=(Lib.itoa n).length:=by simp[FO,ByteArray.size]
 rw[e]
 unfold Lib.itoa
 split
 ·have:=DD 18 n.natAbs (by omega)
  simp only[List.length_cons];omega
 ·have:=DD 18 n.toNat (by omega)
  omega
theorem Si (x:Int):(if x.tmod 10<0 then 0-x.tmod 10 else x.tmod 10)=((x.natAbs % 10:Nat):Int):=by
 have h1:(x.tmod 10).natAbs=x.natAbs % 10:=Int.natAbs_tmod x 10
 split<;>omega
theorem To (x:Int):(x.tdiv 10).natAbs=x.natAbs / 10:=Int.natAbs_tdiv x 10
theorem Aad {k:Nat} (h:k<10):IntKind.u8.wrap (IntKind.i64.wrap (48+(k:Int)))=((48+k:Nat):Int):=by
 have e:IntKind.i64.wrap (48+(k:Int))=48+(k:Int):=An (by omega)
 rw[e]
 simp only[IntKind.wrap,IntKind.bits,IntKind.signed,Bool.false_and,Bool.false_eq_true,if_false]
 have:(2 ^ 8:Int)=256:=rfl
 omega
theorem Qb {k:Nat} (h:k<10):List.foldl (fun(r:ByteArray) (n:Int)=>r.push (UInt8.ofNat n.toNat)) ByteArray.empty [((48+k:Nat):Int)]=⟨#[UInt8.ofNat (48+k)]⟩:=by
 simp only[List.foldl,Int.toNat_natCast]
 rfl
end Go.D
namespace Go.D
def Ik (b:UInt8):List UInt8→List (List UInt8)
 | []=>[[]]
 | x::l=>if x=b then[]::Ik b l else match Ik b l with
  | []=>[[x]]
  | h::t=>(x::h)::t
theorem Fz (b:UInt8) (l:List UInt8):Ik b l≠[]:=by
 cases l with
 | nil=>simp[Ik]
 | cons x l=>
  unfold Ik
  split
  ·simp
  ·split<;>simp
def HW (p:List UInt8):List (List UInt8)→List (List UInt8)
 | []=>[p]
 | h::t=>(p++h)::t
theorem KB {l:List (List UInt8)} (h:l≠[]):HW [] l=l:=by
 cases l with
 | nil=>exact absurd rfl h
 | cons x l=>rfl
theorem Ee (b x:UInt8) (l:List UInt8):Ik b (x::l)=if x=b then[]::Ik b l else HW [x] (Ik b l):=by
 rw[Ik]
 split
 ·rfl
 ·have:=Fz b l
  cases h:Ik b l with
  | nil=>exact absurd h this
  | cons y t=>rfl
theorem LC (p q:List UInt8) {l:List (List UInt8)} (h:l≠[]):HW p (HW q l)=HW (p++q) l:=by
 cases l with
 | nil=>exact absurd rfl h
 | cons x l=>simp[HW]
theorem IQ (p h:List UInt8) (t:List (List UInt8)):HW p (h::t)=(p++h)::t:=rfl
theorem I0 (b:UInt8):∀ l:List UInt8,(Ik b l).length≤l.length+1∧∀ p∈Ik b l,p.length≤l.length
 | []=>by simp[Ik]
 | x::l=>by
  obtain⟨h1,h2⟩:=I0 b l
  rw[Ee]
  split
  ·refine⟨by simp only[List.length_cons];omega,fun p hp=>?_⟩
   rcases List.mem_cons.1 hp with rfl|hp
   ·simp
   ·have:=h2 p hp;simp only[List.length_cons];omega
  ·cases h:Ik b l with
   | nil=>exact absurd h (Fz b l)
   | cons y t=>
    rw[h] at h1 h2
    refine⟨by simp only[HW,List.length_cons] at h1 ⊢;omega,fun p hp=>?_⟩
    simp only[HW,List.mem_cons] at hp
    rcases hp with rfl|hp
    ·have:=h2 y List.mem_cons_self;simp only[List.length_append,List.length_cons,List.length_nil];omega
    ·have:=h2 p (List.mem_cons_of_mem _ hp);simp only[List.length_cons];omega
def ofL (l:List UInt8):ByteArray:=⟨l.toArray⟩
def toL (s:ByteArray):List UInt8:=s.data.toList
theorem CO (s:ByteArray):ofL (toL s)=s:=by simp[ofL,toL]
theorem GB (l:List UInt8):toL (ofL l)=l:=by simp[ofL,toL]
theorem Bg (s:ByteArray):(toL s).length=s.size:=rfl
theorem DQ (l:List UInt8):(ofL l).size=l.length:=by simp[ofL,ByteArray.size]
theorem NJ (s t:ByteArray):toL (s++t)=toL s++toL t:=by simp[toL]
theorem Fm (l m:List UInt8):ofL (l++m)=ofL l++ofL m:=by
 apply ByteArray.ext;simp[ofL]
theorem AO (s:ByteArray) (a b:Nat):toL (s.extract a b)=((toL s).take b).drop a:=by
 simp[toL,List.drop_take]
def spl (b:UInt8) (s:ByteArray):List ByteArray:=(Ik b (toL s)).map ofL
def Gw (b:UInt8) (s:ByteArray) (a i:Nat):List ByteArray:=if i≤s.size then(HW (((toL s).take i).drop a) (Ik b ((toL s).drop i))).map ofL else[]
theorem N5 (b:UInt8) (s:ByteArray):Gw b s 0 0=spl b s:=by
 unfold Gw spl
 rw[if_pos (Nat.zero_le _)]
 simp[KB (Fz b _)]
theorem KR (b:UInt8) {s:ByteArray} {a i:Nat} (h:s.size<i):Gw b s a i=[]:=by
 unfold Gw;rw[if_neg (by omega)]
theorem OM (b:UInt8) {s:ByteArray} {a i:Nat} (h:i=s.size):Gw b s a i=[s.extract a i]:=by
 subst h
 unfold Gw
 rw[if_pos (Nat.le_refl _),List.drop_of_length_le (l:=toL s) (i:=s.size) (by rw[Bg];exact Nat.le_refl _)]
 rw[Ik,IQ,List.append_nil,List.map_cons,←AO,CO];rfl
theorem Fi {s:ByteArray} {i:Nat} (h:i<s.size):(toL s).drop i=s.data.getD i 0::(toL s).drop (i+1):=by
 have h2:i<s.data.size:=h
 have e:s.data.getD i 0=s.data[i]:=by unfold Array.getD;rw[dif_pos h2];rfl
 rw[List.drop_eq_getElem_cons (by rw[Bg];exact h),e]
 rfl
theorem QI {b:UInt8} {s:ByteArray} {a i:Nat} (h:i<s.size) (hb:s.data.getD i 0=b):Gw b s a i=s.extract a i::Gw b s (i+1) (i+1):=by
 unfold Gw
 rw[if_pos (by omega),if_pos (by omega),Fi h,Ee,if_pos hb]
 rw[IQ,List.append_nil,List.map_cons,←AO,CO,List.drop_of_length_le (l:=(toL s).take (i+1)) (i:=i+1) (by rw[List.length_take];omega),KB (Fz b _)]
theorem ON {b:UInt8} {s:ByteArray} {a i:Nat} (h:i<s.size) (ha:a≤i) (hb:s.data.getD i 0≠b):Gw b s a i=Gw b s a (i+1):=by
 unfold Gw
 rw[if_pos (by omega),if_pos (by omega),Fi h,Ee,if_neg hb,LC _ _ (Fz b _)]
 congr 2
 have:(toL s).take (i+1)=(toL s).take i++[s.data.getD i 0]:=by
  have h2:i<s.data.size:=h
  have e:s.data.getD i 0=s.data[i]:=by unfold Array.getD;rw[dif_pos h2];rfl
  rw[List.take_succ_eq_append_getElem (by rw[Bg];exact h),e]
  rfl
 rw[this,List.drop_append_of_le_length (by rw[List.length_take,Bg];omega)]
theorem MU (b:UInt8):∀ l:List UInt8,((Ik b l).map fun p=>p.length+1).sum=l.length+1
 | []=>rfl
 | x::l=>by
  have h:=MU b l
  rw[Ee]
  split
  ·simp only[List.map_cons,List.sum_cons,List.length_nil,List.length_cons,h];omega
  ·cases hq:Ik b l with
   | nil=>exact absurd hq (Fz b l)
   | cons y t=>
    rw[hq] at h
    simp only[List.map_cons,List.sum_cons,HW,List.length_append,List.length_cons,List.length_nil] at h ⊢
    omega
theorem DH (b:UInt8) (s:ByteArray):0<(spl b s).length∧(spl b s).length≤s.size+1:=by
 have h:=I0 b (toL s)
 have h2:=Fz b (toL s)
 rw[Bg] at h
 unfold spl
 rw[List.length_map]
 exact⟨List.length_pos_iff.2 h2,h.1⟩
theorem FM {b:UInt8} {s x:ByteArray} (h:x∈spl b s):x.size≤s.size:=by
 unfold spl at h
 obtain⟨p,hp,rfl⟩:=List.mem_map.1 h
 rw[DQ]
 exact(I0 b (toL s)).2 p hp
def Dr (b:UInt8):List UInt8→Option (List UInt8×List UInt8)
 | []=>none
 | x::l=>if x=b then some ([],l) else(Dr b l).map fun r=>(x::r.1,r.2)
theorem HC {b:UInt8}:∀ {l:List UInt8},b∉l→Dr b l=none
 | [],_=>rfl
 | x::l,h=>by
  simp only[List.mem_cons,not_or] at h
  rw[Dr,if_neg (fun e=>h.1 e.symm),HC h.2];rfl
theorem I7 {b:UInt8}:∀ {p:List UInt8} (l:List UInt8),b∉p→Dr b (p++b::l)=some (p,l)
 | [],l,_=>by rw[List.nil_append,Dr,if_pos rfl]
 | x::p,l,h=>by
  simp only[List.mem_cons,not_or] at h
  rw[List.cons_append,Dr,if_neg (fun e=>h.1 e.symm),I7 l h.2];rfl
theorem Q7 {b:UInt8} {s:ByteArray} {i:Nat} (h:i<s.size) (hb:s.data.getD i 0=b) (hn:b∉(toL s).take i):Dr b (toL s)=some ((toL s).take i,(toL s).drop (i+1)):=by
 have e:toL s=(toL s).take i++b::(toL s).drop (i+1):=by
  rw[←hb,←Fi h,List.take_append_drop]
 rw[e,I7 _ hn,←e]
theorem QN {b:UInt8} {s:ByteArray} {i:Nat} (h:i<s.size) (hb:s.data.getD i 0≠b) (hn:b∉(toL s).take i):b∉(toL s).take (i+1):=by
 have h2:i<s.data.size:=h
 have e:s.data.getD i 0=s.data[i]:=by unfold Array.getD;rw[dif_pos h2];rfl
 rw[List.take_succ_eq_append_getElem (by rw[Bg];exact h),List.mem_append,not_or]
 refine⟨hn,?_⟩
 simp only[List.mem_singleton]
 intro h3
 exact hb (by rw[e];exact h3.symm)
end Go.D
namespace Go.D
open Go.Sort
def pv:Ty→Bool
 | .int=>true
 | .bool=>true
 | .str=>true
 | .u8=>true
 | _=>false
def vOf (t:Ty) (x:El t):Value:=match enc t x with
 | [.val v]=>v
 | _=>undef
def EL:(as:List Ak)→As as→List Value
 | [],_=>[]
 | .v (.el t)::as,x=>vOf t x.1::EL as x.2
 | _::as,x=>undef::EL as x.2
def FJ:List Ak→Bool
 | []=>true
 | .v (.el t)::as=>pv t&&FJ as
 | _::_=>false
def Ep:List Sh→Bool
 | []=>true
 | .el t::rs=>pv t&&Ep rs
 | _::_=>false
def FD:(rs:List Sh)→Ts rs→List Value
 | [],_=>[]
 | .el t::rs,x=>vOf t x.1::FD rs x.2
 | .sl _::rs,x=>undef::FD rs x.2
def WD:List Value→Value
 | [v]=>v
 | vs=>.tuple vs.toArray
theorem Ri {t:Ty} (h:pv t=true) (x:El t):enc t x=[.val (vOf t x)]∧plain (vOf t x)=true∧(Sh.el t).agg=false:=by
 cases t<;>first|exact⟨rfl,rfl,rfl⟩|cases h
theorem IG {w:World} {G:Gh}:∀ (as:List Ak) (x:As as),FJ as=true→∀ (vs:List Value),vs.length=(C0 as x).length→(∀ (j:Nat) (y:TV),(C0 as x)[j]? = some y→∃ v,vs[j]? = some v∧TVR w G y v)→vs=EL as x:=by
 intro as
 induction as with
 | nil=>intro x _ vs hl _;exact List.eq_nil_of_length_eq_zero hl
 | cons a as ih=>
  intro x hp vs hl hh
  cases a with
  | v s=>
   cases s with
   | el t=>
    simp only[FJ,Bool.and_eq_true] at hp
    obtain⟨e1,e2,e3⟩:=Ri hp.1 x.1
    cases vs with
    | nil=>simp[C0] at hl
    | cons v vs=>
     obtain⟨v',hv,hr⟩:=hh 0 _ rfl
     simp only[List.getElem?_cons_zero,Option.some.injEq] at hv
     subst hv
     have hc:TD (.v (.el t)) x.1=.v false [.sc (vOf t x.1)]:=by
      show TV.v (Sh.el t).agg ((enc t x.1).map (toCell none))=_
      rw[e1,e3];rfl
     rw[hc] at hr
     obtain⟨c,hc1,hc2⟩:=hr
     injection hc1 with hc1
     subst hc1
     rw[EL,hc2.1,ih x.2 hp.2 vs (by simpa [C0] using hl) fun j y hj=>hh (j+1) y hj]
   | sl t=>simp[FJ] at hp
  | _=>simp[FJ] at hp
theorem HN:∀ (rs:List Sh) (y:Ts rs),Ep rs=true→GJ rs y=(FD rs y).map fun v=>(false,[FC.val v]):=by
 intro rs
 induction rs with
 | nil=>intro y _;rfl
 | cons s rs ih=>
  intro y hp
  cases s with
  | el t=>
   simp only[Ep,Bool.and_eq_true] at hp
   obtain⟨e1,e2,e3⟩:=Ri hp.1 y.1
   simp only[GJ,FD,List.map_cons,ih y.2 hp.2,e3]
   congr 2
  | sl t=>simp[Ep] at hp
theorem Ks:∀ (rs:List Sh) (y:Ts rs),Ep rs=true→∀ v∈FD rs y,plain v=true:=by
 intro rs
 induction rs with
 | nil=>intro y _ v hv;cases hv
 | cons s rs ih=>
  intro y hp v hv
  cases s with
  | el t=>
   simp only[Ep,Bool.and_eq_true] at hp
   rcases List.mem_cons.1 hv with rfl|hv
   ·exact(Ri hp.1 y.1).2.1
   ·exact ih y.2 hp.2 v hv
  | sl t=>simp[Ep] at hp
theorem Uy {w:World}:∀ (vs:List Value),(∀ v∈vs,plain v=true)→ResR w (NQ (vs.map fun v=>(false,[FC.val v]))) (WD vs) (fun _ _ _=>False)
 | [],_=>⟨#[],rfl,rfl,by simp⟩
 | [v],h=>by
  refine⟨_,rfl,⟨rfl,h v (by simp)⟩,Ii (h v (by simp))⟩
 | v::u::vs,h=>by
  refine⟨(v::u::vs).toArray,rfl,by simp,fun i p hp=>?_⟩
  have hp:((v::u::vs).map fun v=>(false,[FC.val v]))[i]? = some p:=hp
  rw[List.getElem?_map] at hp
  cases hq:(v::u::vs)[i]? with
  | none=>rw[hq] at hp;cases hp
  | some x=>
   rw[hq] at hp
   injection hp with hp
   subst hp
   have:=h x (List.mem_of_getElem? hq)
   exact⟨x,by simpa using hq,_,rfl,⟨rfl,this⟩,Ii this⟩
theorem Ra {P:Program} {f:Nat} {S:Fct} (ha:FJ S.as=true) (hr:Ep S.rs=true)
 (h:∀ x,S.pre x→∀ (w:World) (ow:Nat→Own),Base P w ow→Calls P f (EL S.as x).toArray w fun e w'=>e=.returned (WD (FD S.rs (S.fn x)))∧∃ n os,w'=grow (w.drewN n) os):S.ok P f:=by
 intro x hx w vs G hB hA
 have hvs:vs=(EL S.as x).toArray:=by
  have:=IG (w:=w) (G:=G) S.as x ha vs.toList (by simpa [Fct.arg] using hA.sz) fun j y hj=>by
   obtain⟨v,hv,hr⟩:=hA.tm j y hj
   exact⟨v,by simpa using hv,hr⟩
  rw[←this]
 subst hvs
 refine(h x hx w _ hB).mono ?_
 rintro e w' ⟨rfl,n,os,rfl⟩
 have hold:∀ g,g<w.heap.size→(grow (w.drewN n) os).heap[g]? = w.heap[g]?:=fun g hg=>by
  rw[heap_grow_old _ _ (show g<(w.drewN n).heap.size from hg)];rfl
 refine⟨_,⟨mkR S.rs (S.fn x),[],[]⟩,rfl,rfl,⟨rfl,rfl,⟨rfl,by first|exact DrLe.refl _|exact DrLe.succ _|exact DrLe.add _ _⟩,?_⟩,fun g hg=>hold g (hA.lt g (by simp[hg])),fun g hg=>(hA.cr g hg).same (hold g (hA.lt g (by simp[hg]))),fun _ _=>False,by simp,by simp,?_,?_,?_⟩
 ·show w.heap.size≤(w.heap++os).size
  simp
 ·show ResR _ (NQ (GJ S.rs (S.fn x))) _ _
  rw[HN _ _ hr]
  exact Uy _ (Ks _ _ hr)
 ·intro m T hm;cases hm
 ·intro b cs hb;cases hb
theorem WH (w:World):w=grow (w.drewN 0) #[]:=by
 simp[grow,World.drewN]
end Go.D
namespace Go.D
open Go.RowKit
theorem K2 (w:World) (r:Array Value) (T:TypeId) (j:Nat) (v:Value):(w.alloc (.cells r T)).setCell ⟨w.heap.size,j,none⟩ v=w.alloc (.cells (r.setIfInBounds j v) T):=by
 rw[setCell_eq_setRow _ _ _ r T (0,0) v (heap_alloc_last w _),World.setRow_alloc_new]
theorem Dn (w:World) (r:Array Value) (T:TypeId) (j:Nat):(w.alloc (.cells r T)).cell? ⟨w.heap.size,j,none⟩=r[j]?:=cell_of_row _ _ j r T (0,0) (heap_alloc_last w _)
theorem Jt (w:World) (r:Array Value) (T:TypeId) (j:Nat):(w.alloc (.cells r T)).frozen? ⟨w.heap.size,j,none⟩=false:=by
 simp only[World.frozen?,heap_alloc_last]
 simp
theorem Nc {r:Array Value} {i:Nat} {v:Value} (hi:i<r.size) (t:Nat):(r.setIfInBounds i v)[t]? = if t=i then some v else r[t]?:=by
 rw[Array.getElem?_setIfInBounds]
 by_cases h:i=t
 ·subst h;simp[hi]
 ·rw[if_neg h,if_neg (fun e=>h e.symm)]
structure Neu (w w':World):Prop where
 os:w'.os=w.os
 tape:w'.tape=w.tape
 output:w'.output=w.output
 drawn:DrLe w.drawn w'.drawn
 size:w.heap.size≤w'.heap.size
 old:∀ g,g<w.heap.size→w'.heap[g]? = w.heap[g]?
theorem Neu.refl (w:World):Neu w w:=⟨rfl,rfl,rfl,DrLe.refl _,Nat.le_refl _,fun _ _=>rfl⟩
theorem Neu.drew {w w':World} (h:Neu w w'):Neu w w'.drew:=⟨h.os,h.tape,h.output,h.drawn.trans (DrLe.succ _),h.size,h.old⟩
theorem Neu.alloc {w w':World} (h:Neu w w') (o:Obj):Neu w (w'.alloc o):=⟨h.os,h.tape,h.output,h.drawn,by rw[World.size_alloc];have:=h.size;omega,fun g hg=>by
 rw[←h.old g hg]
 show(w'.heap.push o)[g]? = _
 rw[Array.getElem?_push,if_neg (by have:=h.size;omega)]⟩
theorem Neu.set {w w':World} (h:Neu w w') {a:Addr} (ha:w.heap.size≤a.block) (v:Value):Neu w (w'.setCell a v):=⟨h.os,h.tape,h.output,h.drawn,by rw[World.size_setCell];exact h.size,fun g hg=>by
 rw[←h.old g hg]
 unfold World.setCell
 simp only[Array.getElem?_modify]
 rw[if_neg (by omega)]⟩
theorem Neu.bytes {w w':World} (h:Neu w w') (e:TypeId) (s:ByteArray):Neu w (Lib.bytesWorld w' e s):=⟨h.os,h.tape,h.output,h.drawn.trans (DrLe.succ _),by rw[Lib.bytesWorld_size];have:=h.size;omega,fun g hg=>by
 rw[←h.old g hg];exact Lib.bytesWorld_at_old w' e s g (by have:=h.size;omega)⟩
theorem Neu.put {w w':World} (h:Neu w w') {α:Type} [Inhabited α] (enc:α→Value) {b:Nat} (hb:w.heap.size≤b) (off:Nat) (d:Array α):Neu w (Go.Sort.putRow enc w' b off d):=⟨h.os,h.tape,h.output,h.drawn,by
 unfold Go.Sort.putRow Go.Sort.mapBlock
 simp only[Array.size_modify];exact h.size,fun g hg=>by
 rw[←h.old g hg]
 unfold Go.Sort.putRow Go.Sort.mapBlock
 simp only[Array.getElem?_modify]
 rw[if_neg (by omega)]⟩
theorem Neu.trans {a b c:World} (h:Neu a b) (k:Neu b c):Neu a c:=⟨k.os.trans h.os,k.tape.trans h.tape,k.output.trans h.output,h.drawn.trans k.drawn,Nat.le_trans h.size k.size,fun g hg=>(k.old g (Nat.lt_of_lt_of_le hg h.size)).trans (h.old g hg)⟩
theorem Neu.below {w w':World} (h:Below w.heap.size w w'):Neu w w':=⟨h.os,h.tape,h.output,trivial,h.size,fun g hg=>h.block g hg⟩
theorem Neu.grow (w:World) (k:Nat) (os:Array Obj):Neu w (Go.Sort.grow (w.drewN k) os):=⟨rfl,rfl,rfl,DrLe.add _ _,by show w.heap.size≤(w.heap++os).size;simp,fun g hg=>by
 show(w.heap++os)[g]? = _
 rw[Array.getElem?_append_left hg]⟩
theorem Neu.laid {P:Program} {w w':World} (h:Neu w w') (l:Laid P w):Laid P w' :=
 ⟨fun q=>Gx h.old (l.1 q),fun q=>let ⟨tp,p,hv⟩:=l.2.1 q;⟨tp,p,Gx h.old hv⟩,fun q=>let ⟨tp,p,hv⟩:=l.2.2 q;⟨tp,p,Gx h.old hv⟩⟩
theorem MG {P:Program} {w:World} {n:String} {g:Nat} {x:Value} (hg:P.globalNamed n=some g) (h:w.var? P n=some #[x]):w.cell? ⟨g,0,none⟩=some x:=by
 unfold World.var? at h
 rw[hg,Option.bind_some] at h
 split at h
 ·rename_i cs e z hh
  simp only[Option.some.injEq] at h
  subst h
  simp[World.cell?,hh]
 ·cases h
open Go.Sort in
theorem Mw {P:Program} {f:Nat} {S:Fct} (ha:FJ S.as=true) (hr:Ep S.rs=true)
 (h:∀ x,S.pre x→∀ (w:World) (ow:Nat→Own),Base P w ow→Calls P f (EL S.as x).toArray w fun e w'=>e=.returned (WD (FD S.rs (S.fn x)))∧Neu w w'):S.ok P f:=by
 intro x hx w vs G hB hA
 have hvs:vs=(EL S.as x).toArray:=by
  have:=IG (w:=w) (G:=G) S.as x ha vs.toList (by simpa [Fct.arg] using hA.sz) fun j y hj=>by
   obtain⟨v,hv,hr⟩:=hA.tm j y hj
   exact⟨v,by simpa using hv,hr⟩
  rw[←this]
 subst hvs
 refine(h x hx w _ hB).mono ?_
 rintro e w' ⟨rfl,hn⟩
 refine⟨_,⟨mkR S.rs (S.fn x),[],[]⟩,rfl,rfl,⟨hn.os,hn.tape,⟨hn.output,hn.drawn⟩,hn.size⟩,fun g hg=>hn.old g (hA.lt g (by simp[hg])),fun g hg=>(hA.cr g hg).same (hn.old g (hA.lt g (by simp[hg]))),fun _ _=>False,by simp,by simp,?_,?_,?_⟩
 ·show ResR _ (NQ (GJ S.rs (S.fn x))) _ _
  rw[HN _ _ hr]
  exact Uy _ (Ks _ _ hr)
 ·intro m T hm;cases hm
 ·intro b cs hb;cases hb
end Go.D
