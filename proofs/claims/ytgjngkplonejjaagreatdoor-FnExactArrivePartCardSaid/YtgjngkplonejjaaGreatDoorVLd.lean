/-
  The library of the proof, part 4.
-/
import Derived.Test.YtgjngkplonejjaaGreatDoorVLc
import Derived.Lib.Bytealg
import Derived.Sort.LotA
import Derived.Laws.Strings
import Derived.Lib.ItoaNum
import Derived.Sort.Grow
import Derived.Deep.Draws
import Derived.Deep.WholeRow
import Derived.Laws.CopyRow
import Derived.Laws.NewBlocks
import Derived.Lib.ConvBytes
set_option linter.unusedVariables false
namespace Go.D
theorem Ao {n:Int} (h : -9223372036854775808≤n∧n≤9223372036854775807):IntKind.i64.wrap n=n:=by
 rw[IntKind.wrap_i64]
 omega
theorem wrapId' {n:Int} (h1 : -9223372036854775808≤n) (h2:n≤9223372036854775807):IntKind.i64.wrap n=n:=Ao ⟨h1,h2⟩
theorem XE (a b:ByteArray):(a.toList==b.toList)=decide (a=b):=by
 have h:a.toList=b.toList↔a=b:=by
  constructor
  ·intro h
   rw[ByteArray.toList_eq,ByteArray.toList_eq] at h
   cases a;cases b
   simp only[ByteArray.mk.injEq]
   exact Array.ext' h
  ·rintro rfl;rfl
 by_cases hab:a=b
 ·simp[hab]
 ·have:¬ a.toList=b.toList:=fun e=>hab (h.1 e)
  simp[hab,this]
theorem toNat1 {i:Int} (h:0≤i):(i+1).toNat=i.toNat+1:=by omega
theorem Hz {α:Type} [Inhabited α] {l:List α} {i:Nat} (h:i<l.length):l.getD i default=l[i]:=by simp[h]
theorem take_succ {α:Type} [Inhabited α] {l:List α} {i:Nat} (h:i<l.length):l.take (i+1)=l.take i++[l.getD i default]:=by
 rw[Hz h,List.take_succ_eq_append_getElem h]
theorem T6 {t:Ty} {l:List (El t)} (h:Sh.good (.sl t) l) {x:El t} (hx:x∈l):Sh.good (.el t) x:=by
 intro c hc
 have h1:=h (.l t l) (by simp[Sh.fc])
 have h2:=h1.2 x hx c hc
 have hr:=Fw hc
 have:=Qp t
 exact Ug 7 c (by omega) h2
theorem J1 {t:Ty} {l:List (El t)} (h:Sh.good (.sl t) l) {i:Nat} (hi:i<l.length):Sh.good (.el t) (l.getD i default):=T6 h (by rw[Hz hi];exact List.getElem_mem hi)
theorem good_len {t:Ty} {l:List (El t)} (h:Sh.good (.sl t) l):l.length≤maxLen:=(h (.l t l) (by simp[Sh.fc])).1
def lessen (left:Int) (n:Nat):Int:=if(n:Int)≤left then left-n else -1
def szL {α:Type} (f:α→Nat) (l:List α):Nat:=l.length+(l.map f).sum
theorem F6 {α:Type} [Inhabited α] (f:α→Nat) {l:List α} {i:Nat} (h:i<l.length):((l.take (i+1)).map f).sum=((l.take i).map f).sum+f (l.getD i default):=by
 rw[take_succ h];simp
theorem Ez {α:Type} (f:α→Nat) (l:List α) (i:Nat):((l.take i).map f).sum≤(l.map f).sum:=by
 have:(l.map f).sum=((l.take i).map f).sum+((l.drop i).map f).sum:=by rw[←List.sum_append_nat,←List.map_append,List.take_append_drop]
 omega
theorem EY {left:Int} {n:Nat} (h0:0≤left):lessen left n<0↔left<n:=by unfold lessen;split<;>omega
theorem EL {left:Int} {n:Nat} (h:(n:Int)≤left):lessen left n=left-n:=if_pos h
theorem Ej {left:Int} {n:Nat} (h:left<n):lessen left n = -1:=if_neg (by omega)
theorem Ad {α:Type} (f:α→Nat) (l:List α):l.length≤szL f l:=Nat.le_add_right _ _
def TB:Nat→Nat→ByteArray→ByteArray
 | 0,_,out=>out
 | f+1,k,out=>if k=0 then out else TB f (k / 10) (⟨#[UInt8.ofNat (48+k % 10)]⟩++out)
def G9 (k:Int):ByteArray:=if k≤0 then⟨#[109,48]⟩ else⟨#[109]⟩++TB 64 k.toNat ⟨#[]⟩
def Ai {α:Type} (f:α→Int→α×Int):List α→Int→List α×Int
 | [],k=>([],k)
 | x::xs,k=>((f x k).1::(Ai f xs (f x k).2).1,(Ai f xs (f x k).2).2)
def AaK {α:Type} (f:α→Int→α×Int):Prop:=∀ x k,k≤(f x k).2
section
variable {α:Type} {f:α→Int→α×Int}
theorem Ff:∀ (xs ys:List α) (k:Int),Ai f (xs++ys) k=((Ai f xs k).1++(Ai f ys (Ai f xs k).2).1,(Ai f ys (Ai f xs k).2).2):=by
 intro xs
 induction xs with
 | nil=>intro ys k;simp[Ai]
 | cons x xs ih=>intro ys k;simp[Ai,ih]
theorem HT:∀ (xs:List α) (k:Int),(Ai f xs k).1.length=xs.length:=by
 intro xs
 induction xs with
 | nil=>intro k;rfl
 | cons x xs ih=>intro k;simp[Ai,ih]
theorem Gq (h:AaK f):∀ (xs:List α) (k:Int),k≤(Ai f xs k).2:=by
 intro xs
 induction xs with
 | nil=>intro k;exact Int.le_refl _
 | cons x xs ih=>intro k;have h1:=h x k;have h2:=ih (f x k).2;simp only[Ai];omega
theorem KE (h:∀ x k,k+1≤(f x k).2):∀ (xs:List α) (k:Int),k+xs.length≤(Ai f xs k).2:=by
 intro xs
 induction xs with
 | nil=>intro k;simp[Ai]
 | cons x xs ih=>intro k;have h1:=h x k;have h2:=ih (f x k).2;simp only[Ai,List.length_cons];omega
theorem GI [Inhabited α] {l:List α} {i:Nat} (h:i<l.length) (k:Int):Ai f (l.take (i+1)) k=((Ai f (l.take i) k).1++[(f (l.getD i default) (Ai f (l.take i) k).2).1],(f (l.getD i default) (Ai f (l.take i) k).2).2):=by
 rw[take_succ h,Ff];rfl
theorem Dz (h:AaK f) (l:List α) (i:Nat) (k:Int):k≤(Ai f (l.take i) k).2∧(Ai f (l.take i) k).2≤(Ai f l k).2:=by
 refine⟨Gq h _ _,?_⟩
 have e:Ai f l k=Ai f (l.take i++l.drop i) k:=by rw[List.take_append_drop]
 rw[e,Ff]
 exact Gq h _ _
theorem drop_cons [Inhabited α] {l:List α} {i:Nat} (h:i<l.length):l.drop i=l.getD i default::l.drop (i+1):=by
 rw[Hz h];exact List.drop_eq_getElem_cons h
theorem drop_end {α:Type} {l:List α} {i:Nat} (h:l.length≤i):l.drop i=[]:=List.drop_of_length_le h
theorem Ny [Inhabited α] {l:List α} {k:Int} (h:(Ai f l k).1=l) {i:Nat} (hi:i<l.length):(f (l.getD i default) (Ai f (l.take i) k).2).1=l.getD i default:=by
 have e:(Ai f l k).1=(Ai f (l.take (i+1)) k).1++(Ai f (l.drop (i+1)) (Ai f (l.take (i+1)) k).2).1:=by
  have:Ai f l k=Ai f (l.take (i+1)++l.drop (i+1)) k:=by rw[List.take_append_drop]
  rw[this,Ff]
 rw[e,GI hi] at h
 have h2:=congrArg (·[i]?) h
 have hl:(Ai f (l.take i) k).1.length=i:=by rw[HT,List.length_take];omega
 simp only[List.append_assoc] at h2
 rw[List.getElem?_append_right (by omega),hl,Nat.sub_self] at h2
 simp only[List.cons_append,List.nil_append,List.getElem?_cons_zero] at h2
 rw[Hz hi]
 rw[List.getElem?_eq_getElem hi,Hz hi] at h2
 injection h2
theorem mod_at {A r:List α} {x:α} {g:α→α} {i:Nat} (h:A.length=i):(A++x::r).modify i g=A++g x::r:=by
 subst h
 induction A with
 | nil=>rfl
 | cons a A ih=>simp[List.modify_succ_cons,ih]
theorem Va [Inhabited α] {A r:List α} {x:α} {i:Nat} (h:A.length=i):(A++x::r).getD i default=x:=by
 subst h;simp
end
theorem VX {k:Int} (h0:0≤k):List.foldl (fun(r:ByteArray) (n:Int)=>r.push (UInt8.ofNat n.toNat)) ByteArray.empty [IntKind.u8.wrap (IntKind.i64.wrap ((48:Int)+k.tmod (10:Int)))]=⟨#[UInt8.ofNat (48+k.toNat % 10)]⟩:=by
 rw[Int.tmod_eq_emod_of_nonneg h0,Ao (by omega)]
 have hu:IntKind.u8.wrap (48+k % 10)=48+k % 10:=by
  simp[IntKind.wrap,IntKind.bits,IntKind.signed]
  omega
 rw[hu]
 have:(48+k % 10).toNat=48+k.toNat % 10:=by omega
 rw[List.foldl_cons,List.foldl_nil,this]
 rfl
theorem sz1 (b:UInt8) (out:ByteArray):((⟨#[b]⟩:ByteArray)++out).size=out.size+1:=by
 rw[ByteArray.size_append,Nat.add_comm];rfl
theorem XY {k:Int} (h0:0≤k):IntKind.i64.wrap (k.tdiv 10)=k / 10∨9223372036854775807<k:=by
 rw[Int.tdiv_eq_ediv_of_nonneg h0]
 by_cases h:9223372036854775807<k
 ·exact .inr h
 ·exact .inl (Ao (by omega))
theorem Qu {f k:Nat} {out:ByteArray} (hk:0<k):TB (f+1) k out=TB f (k / 10) (⟨#[UInt8.ofNat (48+k % 10)]⟩++out):=by
 rw[TB,if_neg (by omega)]
theorem SJ {f:Nat} {out:ByteArray}:TB f 0 out=out:=by
 cases f<;>simp[TB]
def fidx {α:Type} (p:α→Bool):List α→Int→Int
 | [],_=>-1
 | c::l,i=>if p c then i else fidx p l (i+1)
theorem QJ {α:Type} (p:α→Bool):∀ (l:List α) (i:Int),0≤i→(0≤fidx p l i↔l.any p=true):=by
 intro l
 induction l with
 | nil=>intro i _;simp[fidx]
 | cons c l ih=>
  intro i hi
  simp only[fidx,List.any_cons,Bool.or_eq_true]
  split
  ·rename_i h;simp[h,hi]
  ·rename_i h;rw[ih (i+1) (by omega)];simp[h]
theorem L8 {α:Type} (p:α→Bool):∀ (l:List α) (i:Int),0≤i→fidx p l i<i+l.length∧-1≤fidx p l i:=by
 intro l
 induction l with
 | nil=>intro i h;simp[fidx];omega
 | cons c l ih=>
  intro i hi
  simp only[fidx,List.length_cons]
  have:=ih (i+1) (by omega)
  split<;>omega
theorem NG {α:Type} {f:α→Int→α×Int} (h:∀ x k,f (f x k).1 k=f x k):∀ (xs:List α) (k:Int),Ai f (Ai f xs k).1 k=Ai f xs k:=by
 intro xs
 induction xs with
 | nil=>intro k;rfl
 | cons x xs ih=>intro k;simp only[Ai,h,ih]
theorem Dm {α:Type} [Inhabited α] (f:α→Nat) {l:List α} {i:Nat} (h:i<l.length):f (l.getD i default)+l.length≤szL f l:=by
 have h1:=Ez f l (i+1)
 rw[F6 f h] at h1
 simp only[szL];omega
def countIf {α:Type} (p:α→Bool):List α→Int
 | []=>0
 | x::l=>(if p x then 1 else 0)+countIf p l
theorem countIf_le {α:Type} (p:α→Bool) (l:List α):0≤countIf p l∧countIf p l≤l.length:=by
 induction l with
 | nil=>simp[countIf]
 | cons x l ih=>simp only[countIf,List.length_cons];split<;>omega
theorem CY {a b:Bool} (h:a=true) (h':b=true):(a&&b)=true:=by rw[h,h'];rfl
theorem Oy {α:Type} {f:α→Int→α×Int} {g:α→Nat} (h:∀ x k,(f x k).2≤k+64*(g x+1)):∀ (xs:List α) (k:Int),(Ai f xs k).2≤k+64*szL g xs:=by
 intro xs
 induction xs with
 | nil=>intro k;simp[Ai,szL]
 | cons x xs ih=>
  intro k
  have h1:=h x k
  have h2:=ih (f x k).2
  simp only[Ai,szL,List.map_cons,List.sum_cons,List.length_cons] at h2 ⊢
  omega
theorem take_end {α:Type} {l:List α} {i:Nat} (h:l.length≤i):l.take i=l:=List.take_of_length_le h
theorem Acl (a:Array UInt8):(ByteArray.mk a).size=a.size:=rfl
end Go.D
namespace Go.D
theorem Wh (a b:Nat):Bk a b=(a*b≤140737488355328):=rfl
theorem Xk:(∀ {p:Prop} [inst:Decidable p],(decide p=true)=p)∧(∀ {p:Prop} {x:Decidable p},decide p=false↔¬p)∧(∀ (b:Bool),((!b)=true)=(b=false))∧(∀ (b:Bool),((!b)=false)=(b=true)) ∧
 (∀ {α:Type} [inst:BEq α] [LawfulBEq α] {a b:α},(a != b)=true↔a≠b)∧(∀ {α:Type} [inst:BEq α] [LawfulBEq α] {a b:α},(a != b)=false↔a=b)∧(∀ {α:Type} [inst:BEq α] [LawfulBEq α] {a b:α},(a==b)=true↔a=b) ∧
 (∀ {α:Type} [inst:BEq α] [LawfulBEq α] {a b:α},(a==b)=false↔a≠b)∧(∀ (a b:ByteArray),(a.toList==b.toList)=decide (a=b))∧(∀ {a b:Int},¬a<b↔b≤a)∧(∀ {a b:Int},¬a≤b↔b<a)∧(∀ {p:Prop} [Decidable p],¬¬p↔p)∧(∀ x,wr x=IntKind.i64.wrap x)∧(∀ x,w1 x=IntKind.i64.wrap (x+1))∧∀ i n,inB i n=(0≤i∧i<(n:Int)) :=
 ⟨@decide_eq_true_eq,@decide_eq_false_iff_not,@Bool.not_eq_true',@Bool.not_eq_false',@bne_iff_ne,@bne_eq_false_iff_eq,@beq_iff_eq,@beq_eq_false_iff_ne,@XE,@Int.not_lt,@Int.not_le,@Decidable.not_not,fun _=>rfl,fun _=>rfl,fun _ _=>rfl⟩
theorem X6:(∀ (a:Array UInt8),ByteArray.size { data:=a }=a.size)∧(∀ {α:Type} {as:List α},as.toArray.size=as.length)∧(∀ {α:Type} {a:α} {as:List α},(a::as).length=as.length+1)∧(∀ {α:Type},([]:List α).length=0) ∧
 Int.toNat 0=0∧(∀ {α:Type} {l:List α},List.drop 0 l=l)∧(∀ (b:Bool),(¬b=true)=(b=false))∧(∀ (b:Bool),(¬b=false)=(b=true))∧(∀ {p:Prop} [g:Decidable p] [h:Decidable ¬p],(decide ¬p) = !decide p) ∧
 (∀ {α β:Type} (a:α) (b:β) (c:α) (d:β),((a,b)=(c,d))=(a=c∧b=d))∧(∀ (p:Prop),(p∧True)=p)∧(∀ (p:Prop),(True∧p)=p)∧(∀ (a b:Nat),Bk a b=(a*b≤140737488355328)) ∧
 (∀ {α:Type} (as:List α),[]++as=as)∧∀ (n:Nat),0+n=n :=
 ⟨@Acl,@List.size_toArray,@List.length_cons,@List.length_nil,Int.toNat_zero,@List.drop_zero,@Bool.not_eq_true,@Bool.not_eq_false,@decide_not,@Prod.mk.injEq,@and_true,@true_and,Wh,@List.nil_append,@Nat.zero_add⟩
theorem AI:(type_of% @Xk)∧∀ {α:Type} (a b:α),(a≠b) = ¬a=b:=⟨Xk,fun _ _=>rfl⟩
theorem Acm:(∀ x,wr x=IntKind.i64.wrap x)∧(∀ x,w1 x=IntKind.i64.wrap (x+1))∧∀ i n,inB i n=(0≤i∧i<(n:Int)):=⟨fun _=>rfl,fun _=>rfl,fun _ _=>rfl⟩
theorem YK:(type_of% @Xk)∧(type_of% @X6)∧∀ {α:Type} (a b:α),(a≠b) = ¬a=b:=⟨Xk,X6,fun _ _=>rfl⟩
abbrev Ac (x:ByteArray):Nat:=x.size
def Ee:Fct:=⟨[aI],[rT],fun(x:Int×Unit)=>0≤x.1∧x.1≤4000000000000000000,fun(x:Int×Unit)=>(G9 x.1,())⟩
abbrev Yn (k:Int):LInv:=⟨[⟨.s,0,true,.el .int⟩,⟨.s,3,true,.el .str⟩],fun _ (x:Int×ByteArray×Unit)=>0≤x.1∧x.1≤k∧∃ f,f+x.2.1.size=64∧x.1.toNat<10 ^ f∧TB 64 k.toNat ⟨#[]⟩=TB f x.1.toNat x.2.1,fun(x:Int×ByteArray×Unit)=>x.1.toNat⟩
abbrev UZ (t:Ty) (f:El t→Nat) (l:List (El t)) (n:Int):LInv:=⟨[⟨.s,1,true,.el .int⟩,⟨.s,5,true,.el .int⟩],fun _ (x:Int×Int×Unit)=>0≤x.2.1∧x.2.1≤l.length∧0≤x.1∧x.1=n-l.length-((l.take x.2.1.toNat).map f).sum,fun(x:Int×Int×Unit)=>l.length-x.2.1.toNat⟩
abbrev R7 (t:Ty) (l:List (El t)):LInv:=⟨[⟨.s,4,true,.el .int⟩,⟨.s,3,true,.sl t⟩],fun _ (x:Int×List (El t)×Unit)=>0≤x.1∧x.1≤l.length∧x.2.1=l.take x.1.toNat++List.replicate (l.length-x.1.toNat) default,fun(x:Int×List (El t)×Unit)=>l.length-x.1.toNat⟩
abbrev R5 (t:Ty) (l m:List (El t)):LInv:=⟨[⟨.s,5,true,.el .int⟩],fun _ (x:Int×Unit)=>0≤x.1∧x.1≤l.length∧l.take x.1.toNat=m.take x.1.toNat,fun(x:Int×Unit)=>l.length-x.1.toNat⟩
abbrev YA (t:Ty) (f:El t→Int→El t×Int) (l:List (El t)) (k:Int):LInv:=⟨[⟨.s,1,true,.el .int⟩,⟨.s,5,true,.el .int⟩,⟨.t,0,true,.sl t⟩],fun _ (x:Int×Int×List (El t)×Unit)=>0≤x.2.1∧x.2.1≤l.length∧x.1=(Ai f (l.take x.2.1.toNat) k).2∧x.2.2.1=(Ai f (l.take x.2.1.toNat) k).1++l.drop x.2.1.toNat,fun(x:Int×Int×List (El t)×Unit)=>l.length-x.2.1.toNat⟩
abbrev Yg (t:Ty) (f:El t→Int→El t×Int) (l:List (El t)) (k:Int):LInv:=⟨[⟨.s,1,true,.el .int⟩,⟨.s,5,true,.el .int⟩],fun _ (x:Int×Int×Unit)=>0≤x.2.1∧x.2.1≤l.length∧x.1=(Ai f (l.take x.2.1.toNat) k).2,fun(x:Int×Int×Unit)=>l.length-x.2.1.toNat⟩
end Go.D
namespace Go.D
set_option linter.unusedSimpArgs false
section
variable {P:Program} {E:Env} {m:Nat} {fn:Func} {t:Ty}
def szF (s:Sh) (f:s.X→Nat):Fct:=⟨[.v s,aI],[rI],fun(x:s.X×Int×Unit)=>Sh.good s x.1∧0≤x.2.1∧x.2.1≤1048576,fun(x:s.X×Int×Unit)=>(lessen x.2.1 (f x.1),())⟩
def szX (t:Ty) (f:El t→Nat) (l:List (El t)) (n:Int):Out :=
 .br (decide (wr (n-(l.length:Int))<0)) (.lf (szF (.sl t) (szL f)) ((-1:Int),()))
  (lpx (UZ t f l n) (wr (n-(l.length:Int)),((0:Int),())) fun(y2:Int×Int×PUnit) bk2=>
   .br (decide (y2.2.1<(l.length:Int)))
    (.ob (inB y2.2.1 l.length)<|.cl (szF (.el t) f) (l.getD y2.2.1.toNat default,y2.1,()) fun z2=>.br (decide (z2.1<0)) (.lf (szF (.sl t) (szL f)) ((-1:Int),())) (.ob (l=l)<|.ob (bk2 (z2.1,(w1 y2.2.1,())))<|.ok))
    (.lf (szF (.sl t) (szL f)) (y2.1,())))
theorem YP {f:El t→Nat} {l:List (El t)} {n:Int} (hp0:(szF (.sl t) (szL f)).pre (l,n,())):(szX t f l n).holds ((szF (.sl t) (szL f)).ctr (l,n,())).post:=by
 have hp:Sh.good (.sl t) l∧0≤n∧n≤1048576:=hp0
 clear hp0
 refine Ab (fun h1=>lfY ?_) (fun h1=>AH ?_ fun(y2:Int×Int×PUnit) i2=>Ab (fun h3=>Aa ?_ fun o4=>Ae ?_ fun o5=>(Ab (fun h6=>lfY ?_) (fun h6=>Aa rfl fun _=>Aa ?_ fun o7=>trivial))) (fun h3=>lfY ?_))
 all_goals try simp only[AI] at *
 all_goals try simp only[UZ,szF,YK,Nat.reduceAdd] at *
 ·have:=good_len hp.1;simp only[maxLen] at this;rw[Ao (by omega)] at h1
  rw[Ej (by simp only[szL];omega)]
 ·have:=good_len hp.1;simp only[maxLen] at this
  rw[Ao (by omega)] at h1 ⊢
  exact⟨by omega,by omega,h1,by simp⟩
 ·omega
 ·exact⟨J1 hp.1 (by omega),by omega,by omega⟩
 ·have hs:=Ez f l (y2.2.1.toNat+1)
  rw[F6 f (by omega)] at hs
  rw[EY (by omega)] at h6
  rw[Ej (by simp only[szL];omega)]
 ·have hw:IntKind.i64.wrap (y2.2.1+1)=y2.2.1+1:=Ao (by have:=good_len hp.1;simp only[maxLen] at this;omega)
  have h7:¬ lessen y2.1 (f (l.getD y2.2.1.toNat default))<0:=by omega
  rw[EY (by omega)] at h7
  rw[hw,toNat1 (by omega),F6 f (by omega),EL (by omega)]
  exact⟨⟨by omega,by omega,by omega,by omega⟩,by omega⟩
 ·have e:l.take y2.2.1.toNat=l:=List.take_of_length_le (by omega)
  rw[e] at i2
  have hz:((szL f l:Nat):Int)=l.length+(l.map f).sum:=by simp only[szL];omega
  rw[EL (by omega)]
  show y2.1=n-((szL f l:Nat):Int)
  omega
theorem szS {f:El t→Nat} (kp:List Nat) (hE:EOk P E) (hf:P.funcs[m]? = some fn)
 (h:∀ l k,D8 P E (fun|5=>some (UZ t f l k)|_=>none) kp [] fn ((szF (.sl t) (szL f)).arg (l,k,()))=szX t f l k)
 (hc:(fn.body.isSome&&decide (2≤fn.ntmps))=true:=by kernel_rfl):(szF (.sl t) (szL f)).ok P m:=by
 rw[Bool.and_eq_true] at hc
 exact Fct.of (S:=szF (.sl t) (szL f)) (L:=fun x=>fun|5=>some (UZ t f x.1 x.2.1)|_=>none) hE hf hc.1 hc.2 fun x hx=>⟨(h x.1 x.2.1)▸YP hx⟩
inductive SzI:Type
 | p (k:Nat)
 | c (s:Sh) (f:s.X→Nat) (x:s.X)
def SzI.n:SzI→Nat
 | .p k=>k
 | .c _ f x=>f x
def SzI.ok:SzI→Prop
 | .p k=>k≤maxLen
 | .c s _ x=>Sh.good s x
def Yc (a:Nat):List SzI→Nat
 | []=>a
 | i::is=>Yc (a+i.n) is
def Wz:List SzI→Nat
 | []=>0
 | i::is=>Yc i.n is
def D5:List SzI→Prop
 | []=>True
 | i::is=>i.ok∧D5 is
def KJ:List SzI→Nat
 | []=>0
 | i::is=>i.n+KJ is
theorem QW:∀ (is:List SzI) (a:Nat),Yc a is=a+KJ is
 | [],a=>rfl
 | i::is,a=>by rw[Yc,QW is,KJ];omega
theorem TI (is:List SzI):Wz is=KJ is:=by
 cases is with
 | nil=>rfl
 | cons i is=>rw[Wz,QW];rfl
def szC (s:Sh) (f:s.X→Nat):List SzI→Int→Out
 | [],k=>.lf (szF s f) (k,())
 | .p a::r,k=>.br (decide (wr (k-(a:Int))<0)) (.lf (szF s f) ((-1:Int),())) (szC s f r (wr (k-(a:Int))))
 | .c s' f' x::r,k=>.cl (szF s' f') (x,k,()) fun z=>.br (decide (z.1<0)) (.lf (szF s f) ((-1:Int),())) (szC s f r z.1)
theorem WC {s:Sh} {f:s.X→Nat} {x:s.X} {n:Int}:∀ (is:List SzI) (k:Int),0≤k→k≤1048576→D5 is→lessen n (f x)=lessen k (KJ is)→(szC s f is k).holds ((szF s f).ctr (x,n,())).post
 | [],k,h0,h1,_,h=>lfY (by show(k,())=(lessen n (f x),());rw[h,KJ,EL (by omega)];simp)
 | .p a::r,k,h0,h1,ho,h=>by
  have ha:a≤maxLen:=ho.1
  simp only[maxLen] at ha
  have e:wr (k-(a:Int))=k-a:=Ao (by omega)
  simp only[KJ,SzI.n] at h
  refine Ab (fun hb=>lfY ?_) (fun hb=>?_)
  ·rw[e] at hb
   simp only[decide_eq_true_eq] at hb
   show((-1:Int),())=(lessen n (f x),())
   rw[h,Ej (by omega)]
  ·rw[e] at hb ⊢
   simp only[decide_eq_false_iff_not] at hb
   refine WC r _ (by omega) (by omega) ho.2 ?_
   rw[h]
   unfold lessen
   split<;>split<;>omega
 | .c s' f' y::r,k,h0,h1,ho,h=>by
  simp only[KJ,SzI.n] at h
  refine Ae ⟨ho.1,h0,h1⟩ fun _=>?_
  refine Ab (fun hb=>lfY ?_) (fun hb=>?_)
  ·have hb:decide (lessen k (f' y)<0)=true:=hb
   simp only[decide_eq_true_eq] at hb
   rw[EY h0] at hb
   show((-1:Int),())=(lessen n (f x),())
   rw[h,Ej (by omega)]
  ·have hb:decide (lessen k (f' y)<0)=false:=hb
   simp only[decide_eq_false_iff_not] at hb
   have e:lessen k (f' y)=k-f' y:=by rw[EY h0] at hb;exact EL (by omega)
   rw[EY h0] at hb
   show(szC s f r (lessen k (f' y))).holds _
   rw[e]
   refine WC r _ (by omega) (by omega) ho.2 ?_
   rw[h]
   unfold lessen
   split<;>split<;>omega
theorem szT {s:Sh} {f:s.X→Nat} (kp:List Nat) (is:s.X→List SzI) (hE:EOk P E) (hf:P.funcs[m]? = some fn)
 (h:∀ x k,D8 P E (fun _=>none) kp [] fn ((szF s f).arg (x,k,()))=szC s f (is x) k)
 (hs:∀ x,f x=Wz (is x)) (hg:∀ x,Sh.good s x→D5 (is x))
 (hc:(fn.body.isSome&&decide (2≤fn.ntmps))=true:=by kernel_rfl):(szF s f).ok P m:=by
 rw[Bool.and_eq_true] at hc
 refine Fct.of (S:=szF s f) (L:=fun _ _=>none) hE hf hc.1 hc.2 fun x hx=>⟨(h x.1 x.2.1)▸WC (is x.1) x.2.1 hx.2.1 hx.2.2 (hg _ hx.1) ?_⟩
 rw[hs,TI]
def toF (s:Sh) (f:s.X→Nat):Fct:=⟨[.v s],[s],fun(x:s.X×Unit)=>f x.1≤1048576,fun(x:s.X×Unit)=>(x.1,())⟩
def toX (t:Ty) (f:El t→Nat) (c:Int) (l:List (El t)):Out :=
 .ob ((l.length:Int)=(l.length:Int)∧(0:Int)≤(l.length:Int)∧c*(l.length:Int)≤140737488355328∧(l.length:Int)≤140737488355328) <|
 lpx (R7 t l) ((0:Int),(List.replicate (l.length:Int).toNat default,())) fun(y2:Int×List (El t)×PUnit) bk2=>
  .br (decide (y2.1<(l.length:Int)))
   (.ob (inB y2.1 l.length)<|.cl (toF (.el t) f) (l.getD y2.1.toNat default,()) fun z2=>.ob (inB y2.1 y2.2.1.length)<|.ob (y2.1.toNat<y2.2.1.length) <|
    .lt (List (El t)) (y2.2.1.modify y2.1.toNat fun z=>z2.1) fun z3=>.ob (l=l)<|.ob (bk2 (w1 y2.1,(z3,())))<|.ok)
   (.lf (toF (.sl t) (szL f)) (y2.2.1,()))
theorem Ym {f:El t→Nat} {c:Int} (hc:0≤c∧c≤100000000) {l:List (El t)} (hp0:(toF (.sl t) (szL f)).pre (l,())):(toX t f c l).holds ((toF (.sl t) (szL f)).ctr (l,())).post:=by
 have hp:szL f l≤1048576:=hp0
 clear hp0
 refine Aa ?_ fun o1=>AH ?_ fun(y2:Int×List (El t)×PUnit) i2=>Ab (fun h3=>Aa ?_ fun o4=>Ae ?_ fun o5=>(Aa ?_ fun o6=>Aa ?_ fun o7=>Cp (Aa rfl fun _=>Aa ?_ fun o8=>trivial))) (fun h3=>lfY ?_)
 all_goals try simp only[AI] at *
 all_goals try simp only[R7,toF,YK,Nat.reduceAdd] at *
 all_goals have hL:=Ad f l
 ·refine⟨by omega,?_,by omega⟩
  have:=Int.mul_le_mul hc.2 (show(l.length:Int)≤1048576 by omega) (by omega) (by omega)
  omega
 ·exact⟨by omega,by omega,by simp⟩
 ·omega
 ·have hs:=Ez f l (y2.1.toNat+1)
  rw[F6 f (by omega)] at hs
  simp only[szL] at hp;omega
 ·rw[i2.2.2];simp;omega
 ·rw[i2.2.2];simp;omega
 ·have hw:IntKind.i64.wrap (y2.1+1)=y2.1+1:=Ao (by omega)
  rw[hw,toNat1 (by omega),i2.2.2]
  refine⟨⟨by omega,by omega,?_⟩,by omega⟩
  rw[show l.length-y2.1.toNat=(l.length-(y2.1.toNat+1))+1 from by omega,List.replicate_succ,mod_at (by simp;omega),take_succ (by omega)]
  simp
 ·have e:l.take y2.1.toNat=l:=List.take_of_length_le (by omega)
  rw[i2.2.2,e];simp;omega
theorem toS {f:El t→Nat} (kp:List Nat) (c:Int) (hE:EOk P E) (hf:P.funcs[m]? = some fn)
 (h:∀ l,D8 P E (fun|3=>some (R7 t l)|_=>none) kp [] fn ((toF (.sl t) (szL f)).arg (l,()))=toX t f c l)
 (hc:(fn.body.isSome&&decide (1≤fn.ntmps)&&decide (0≤c∧c≤100000000))=true:=by kernel_rfl):(toF (.sl t) (szL f)).ok P m:=by
 rw[Bool.and_eq_true,Bool.and_eq_true] at hc
 exact Fct.of (S:=toF (.sl t) (szL f)) (L:=fun x=>fun|3=>some (R7 t x.1)|_=>none) hE hf hc.1.1 hc.1.2 fun x hx=>⟨(h x.1)▸Ym (of_decide_eq_true hc.2) hx⟩
structure ToI where
 s:Sh
 f:s.X→Nat
 x:s.X
abbrev ToX:List ToI→Type
 | []=>Unit
 | i::is=>i.s.X×ToX is
def YN:(is:List ToI)→ToX is
 | []=>()
 | i::is=>(i.x,YN is)
def toC:(is:List ToI)→(ToX is→Out)→Out
 | [],K=>K ()
 | i::is,K=>.cl (toF i.s i.f) (i.x,()) fun z=>toC is fun zs=>K (z.1,zs)
def D1:List ToI→Prop
 | []=>True
 | i::is=>i.f i.x≤1048576∧D1 is
theorem XJ {Q:Post}:∀ (is:List ToI) (K:ToX is→Out),D1 is→(K (YN is)).holds Q→(toC is K).holds Q
 | [],K,_,h=>h
 | i::is,K,ho,h=>Ae ho.1 fun _=>XJ is (fun zs=>K (i.x,zs)) ho.2 h
theorem toT {s:Sh} {f:s.X→Nat} (kp:List Nat) (is:s.X→List ToI) (K:(x:s.X)→ToX (is x)→s.X) (hE:EOk P E) (hf:P.funcs[m]? = some fn)
 (h:∀ x,D8 P E (fun _=>none) kp [] fn ((toF s f).arg (x,()))=toC (is x) fun z=>.lf (toF s f) (K x z,()))
 (hk:∀ x,K x (YN (is x))=x) (hg:∀ x,f x≤1048576→D1 (is x))
 (hc:(fn.body.isSome&&decide (1≤fn.ntmps))=true:=by kernel_rfl):(toF s f).ok P m:=by
 rw[Bool.and_eq_true] at hc
 exact Fct.of (S:=toF s f) (L:=fun _ _=>none) hE hf hc.1 hc.2 fun x hx=>⟨(h x.1)▸XJ (is x.1) _ (hg _ hx) (lfY (by rw[hk];rfl))⟩
def eqF (s:Sh) [DecidableEq s.X] (p:s.X→Nat):Fct:=⟨[.v s,.v s],[rB],fun(x:s.X×s.X×Unit)=>p x.1≤1125899906842624,fun(x:s.X×s.X×Unit)=>(decide (x.1=x.2.1),())⟩
def obB (b:Bool) (x:Bool) (X:Out):Out:=match b with
 | true=>.ob (Value.bool x=Value.bool x) X
 | false=>X
def eqX (t:Ty) [DecidableEq (El t)] (v:Bool) (p:El t→Nat) (l m:List (El t)):Out :=
 .br ((l.length:Int) != (m.length:Int)) (.lf (eqF (.sl t) (szL p)) (false,()))
  (lpx (R5 t l m) ((0:Int),()) fun(y2:Int×PUnit) bk2=>
   .br (decide (y2.1<(l.length:Int)))
    (.ob (inB y2.1 l.length)<|.ob (inB y2.1 m.length)<|.cl (eqF (.el t) p) (l.getD y2.1.toNat default,m.getD y2.1.toNat default,()) fun z2=>
     .br (!z2.1) (.lf (eqF (.sl t) (szL p)) (false,()))
      (.ob (l=l)<|.ob (m=m)<|obB v ((l.length:Int) != (m.length:Int))<|.ob (bk2 (w1 y2.1,()))<|.ok))
    (.lf (eqF (.sl t) (szL p)) (true,())))
theorem Yv {Q:Post} {b x:Bool} {X:Out} (h:X.holds Q):(obB b x X).holds Q:=by cases b<;>first|exact h|exact⟨rfl,h⟩
theorem Ye [DecidableEq (El t)] {v:Bool} {p:El t→Nat} {l m:List (El t)} (hp0:(eqF (.sl t) (szL p)).pre (l,m,())):(eqX t v p l m).holds ((eqF (.sl t) (szL p)).ctr (l,m,())).post:=by
 have hp0:szL p l≤1125899906842624:=hp0
 have hp:l.length≤1125899906842624:=Nat.le_trans (Ad p l) hp0
 have hm:∀ i,i<l.length→p (l.getD i default)≤1125899906842624:=fun i hi=>by have:=Dm p hi;omega
 clear hp0
 refine Ab (fun h1=>lfY ?_) (fun h1=>AH ?_ fun(y2:Int×PUnit) i2=>Ab (fun h3=>Aa ?_ fun o4=>Aa ?_ fun o4'=>Ae ?_ fun o5=>(Ab (fun h6=>lfY ?_) (fun h6=>Aa rfl fun _=>Aa rfl fun _=>Yv (Aa ?_ fun o7=>trivial)))) (fun h3=>lfY ?_))
 all_goals try simp only[AI] at *
 all_goals try simp only[R5,eqF,YK,Nat.reduceAdd] at *
 ·rw[decide_eq_false];rintro rfl;omega
 ·exact⟨by omega,by omega,by simp⟩
 ·omega
 ·omega
 ·exact hm _ (by omega)
 ·rw[decide_eq_false];rintro rfl;exact absurd rfl h6
 ·have hw:IntKind.i64.wrap (y2.1+1)=y2.1+1:=Ao (by omega)
  rw[hw,toNat1 (by omega)]
  refine⟨⟨by omega,by omega,?_⟩,by omega⟩
  rw[take_succ (by omega),take_succ (by omega),i2.2.2,h6]
 ·have e:l.take y2.1.toNat=l:=List.take_of_length_le (by omega)
  have e2:m.take y2.1.toNat=m:=List.take_of_length_le (by omega)
  rw[decide_eq_true];rw[←e,←e2,i2.2.2]
theorem eqS [DecidableEq (El t)] {p:El t→Nat} (kp:List Nat) (v:Bool) (hE:EOk P E) (hf:P.funcs[m]? = some fn)
 (h:∀ l r,D8 P E (fun|4=>some (R5 t l r)|_=>none) kp [] fn ((eqF (.sl t) (szL p)).arg (l,r,()))=eqX t v p l r)
 (hc:(fn.body.isSome&&decide (2≤fn.ntmps))=true:=by kernel_rfl):(eqF (.sl t) (szL p)).ok P m:=by
 rw[Bool.and_eq_true] at hc
 exact Fct.of (S:=eqF (.sl t) (szL p)) (L:=fun x=>fun|4=>some (R5 t x.1 x.2.1)|_=>none) hE hf hc.1 hc.2 fun x hx=>⟨(h x.1 x.2.1)▸Ye hx⟩
inductive EqI:Type
 | s (x y:ByteArray)
 | i (x y:Int)
 | b (x y:Bool)
 | c (s:Sh) (d:DecidableEq s.X) (p:s.X→Nat) (x y:s.X)
def EqI.tru:EqI→Prop
 | .s x y=>x=y
 | .i x y=>x=y
 | .b x y=>x=y
 | .c _ _ _ x y=>x=y
def EqI.ok:EqI→Prop
 | .c _ _ p x _=>p x≤1125899906842624
 | _=>True
def B7:List EqI→Prop
 | []=>True
 | i::is=>i.tru∧B7 is
def D2:List EqI→Prop
 | []=>True
 | i::is=>i.ok∧D2 is
def eqC (s:Sh) [DecidableEq s.X] (p:s.X→Nat):List EqI→Out
 | []=>.lf (eqF s p) (true,())
 | .s u v::r=>.br (!u.toList==v.toList) (.lf (eqF s p) (false,())) (eqC s p r)
 | .i u v::r=>.br (u != v) (.lf (eqF s p) (false,())) (eqC s p r)
 | .b u v::r=>.br (!u==v) (.lf (eqF s p) (false,())) (eqC s p r)
 | .c s' d p' x y::r=>.cl (@eqF s' d p') (x,y,()) fun z=>.br (!z.1) (.lf (eqF s p) (false,())) (eqC s p r)
theorem XO {s:Sh} [DecidableEq s.X] {p:s.X→Nat} {x y:s.X}:∀ (is:List EqI),D2 is→(x=y↔B7 is)→(eqC s p is).holds ((eqF s p).ctr (x,y,())).post
 | [],_,h=>lfY (by show(true,())=(decide (x=y),());rw[decide_eq_true (h.2 trivial)])
 | i::r,ho,h=>by
  have no:¬ i.tru→(Out.lf (eqF s p) (false,())).holds ((eqF s p).ctr (x,y,())).post:=fun hb=>lfY (by show(false,())=(decide (x=y),());rw[decide_eq_false fun e=>hb (h.1 e).1])
  have yes:i.tru→(eqC s p r).holds ((eqF s p).ctr (x,y,())).post:=fun hb=>XO r ho.2 ⟨fun e=>(h.1 e).2,fun e=>h.2 ⟨hb,e⟩⟩
  cases i with
  | s u v=>exact Ab (fun hb=>no (by simpa [XE,EqI.tru] using hb)) (fun hb=>yes (by simpa [XE,EqI.tru] using hb))
  | i u v=>exact Ab (fun hb=>no (by simpa [EqI.tru] using hb)) (fun hb=>yes (by simpa [EqI.tru] using hb))
  | b u v=>exact Ab (fun hb=>no (by simpa [EqI.tru] using hb)) (fun hb=>yes (by simpa [EqI.tru] using hb))
  | c s' d p' u v=>exact Ae ho.1 fun _=>Ab (fun hb=>no (by simpa [EqI.tru,eqF] using hb)) (fun hb=>yes (by simpa [EqI.tru,eqF] using hb))
theorem eqT {s:Sh} [DecidableEq s.X] {p:s.X→Nat} (kp:List Nat) (is:s.X→s.X→List EqI) (hE:EOk P E) (hf:P.funcs[m]? = some fn)
 (h:∀ x y,D8 P E (fun _=>none) kp [] fn ((eqF s p).arg (x,y,()))=eqC s p (is x y))
 (hs:∀ x y,x=y↔B7 (is x y)) (hg:∀ x y,p x≤1125899906842624→D2 (is x y))
 (hc:(fn.body.isSome&&decide (2≤fn.ntmps))=true:=by kernel_rfl):(eqF s p).ok P m:=by
 rw[Bool.and_eq_true] at hc
 exact Fct.of (S:=eqF s p) (L:=fun _ _=>none) hE hf hc.1 hc.2 fun x hx=>⟨(h x.1 x.2.1)▸XO (is x.1 x.2.1) (hg _ _ hx) (hs _ _)⟩
end
inductive Fe (α:Type):Type
 | s (g:α→ByteArray) (u:α→ByteArray→α)
 | i (g:α→Int) (u:α→Int→α)
 | b (g:α→Bool) (u:α→Bool→α)
 | l (s:Sh) (n:s.X→Nat) (f:s.X→Int→s.X×Int) (g:α→s.X) (u:α→s.X→α)
def Bd {α:Type} (n:α→Nat) (f:α→Int→α×Int):Prop:=∀ x k,k≤(f x k).2∧(f x k).2≤k+64*n x∧f (f x k).1 k=f x k
section
variable {α:Type}
def Fe.mk1:Fe α→α→Int→α×Int
 | .s _ u,x,k=>(u x (G9 k),k+1)
 | .i _ u,x,k=>(u x k,k+1)
 | .b _ u,x,k=>(u x (k.tmod 3==0),k+1)
 | .l _ _ f g u,x,k=>(u x (f (g x) k).1,(f (g x) k).2)
def mkA:List (Fe α)→α→Int→α×Int
 | [],x,k=>(x,k)
 | d::r,x,k=>mkA r (d.mk1 x k).1 (d.mk1 x k).2
def Fe.law:Fe α→Prop
 | .s g u=>(∀ x v,g (u x v)=v)∧∀ x,u x (g x)=x
 | .i g u=>(∀ x v,g (u x v)=v)∧∀ x,u x (g x)=x
 | .b g u=>(∀ x v,g (u x v)=v)∧∀ x,u x (g x)=x
 | .l _ n f g u=>Bd n f∧(∀ x v,g (u x v)=v)∧∀ x,u x (g x)=x
def Fe.same:Fe α→α→α→Prop
 | .s g _,x,y=>g x=g y
 | .i g _,x,y=>g x=g y
 | .b g _,x,y=>g x=g y
 | .l _ _ _ g _,x,y=>g x=g y
def X5 (d:Fe α):List (Fe α)→Prop
 | []=>True
 | e::r=>(∀ x k,d.same (e.mk1 x k).1 x)∧(∀ x k,e.same (d.mk1 x k).1 x)∧X5 d r
def Laws:List (Fe α)→Prop
 | []=>True
 | d::r=>d.law∧X5 d r∧Laws r
def Fe.isv:Fe α→α→Int→Prop
 | .s g _,x,k=>g x=G9 k
 | .i g _,x,k=>g x=k
 | .b g _,x,k=>g x=(k.tmod 3==0)
 | .l _ _ f g _,x,k=>(f (g x) k).1=g x
def Fe.cost:Fe α→α→Nat
 | .l _ n _ g _,x=>64*n (g x)
 | _,_=>1
def Dc:List (Fe α)→α→Nat
 | [],_=>0
 | d::r,x=>d.cost x+Dc r x
def SK:List (Fe α)→Bool
 | []=>false
 | .l ..::r=>SK r
 | _::_=>true
theorem Fe.same_trans {d:Fe α} {x y z:α} (h1:d.same x y) (h2:d.same y z):d.same x z:=by
 cases d<;>exact Eq.trans h1 h2
theorem Fj {d:Fe α} (h:d.law) (x:α) (k:Int):k≤(d.mk1 x k).2:=by
 cases d with
 | l s n f g u=>exact(h.1 _ _).1
 | _=>exact Int.le_add_one (Int.le_refl _)
theorem CX:∀ {r:List (Fe α)},Laws r→∀ (x:α) (k:Int),k≤(mkA r x k).2
 | [],_,x,k=>Int.le_refl _
 | d::r,h,x,k=>Int.le_trans (Fj h.1 x k) (CX h.2.2 _ _)
theorem Lv:∀ {r:List (Fe α)},Laws r→SK r=true→∀ (x:α) (k:Int),k+1≤(mkA r x k).2
 | d::r,h,hp,x,k=>by
  have h2:=CX h.2.2 (d.mk1 x k).1 (d.mk1 x k).2
  cases d with
  | l s n f g u=>exact Int.le_trans (Int.add_le_add_right (Fj h.1 x k) 1) (Lv h.2.2 hp _ _)
  | _=>exact h2
theorem Je {d:Fe α}:∀ {r:List (Fe α)},X5 d r→∀ (x:α) (k:Int),d.same (mkA r x k).1 x
 | [],_,x,k=>by cases d<;>rfl
 | e::r,h,x,k=>Fe.same_trans (Je h.2.2 _ _) (h.1 x k)
theorem UB {d:Fe α} (h:d.law) {x:α} {k:Int} (hv:d.isv x k):(d.mk1 x k).1=x:=by
 cases d with
 | s g u=>show u x (G9 k)=x;rw[←(hv:g x=G9 k)];exact h.2 x
 | i g u=>
  show u x k=x
  have hv:g x=k:=hv
  conv=>lhs;rw[←hv]
  exact h.2 x
 | b g u=>show u x (k.tmod 3==0)=x;rw[←(hv:g x=(k.tmod 3==0))];exact h.2 x
 | l s n f g u=>show u x (f (g x) k).1=x;rw[(hv:(f (g x) k).1=g x)];exact h.2.2 x
theorem Uw {d:Fe α} (h:d.law) {x y:α} {k:Int} (hs:d.same y (d.mk1 x k).1):d.isv y k∧(d.mk1 y k).2=(d.mk1 x k).2:=by
 cases d with
 | s g u=>exact⟨(hs:g y=g (u x (G9 k))).trans (h.1 _ _),rfl⟩
 | i g u=>exact⟨(hs:g y=g (u x k)).trans (h.1 _ _),rfl⟩
 | b g u=>exact⟨(hs:g y=g (u x (k.tmod 3==0))).trans (h.1 _ _),rfl⟩
 | l s n f g u=>
  have e:g y=(f (g x) k).1:=(hs:g y=g (u x (f (g x) k).1)).trans (h.2.1 _ _)
  have e2:=(h.1 (g x) k).2.2
  rw[←e] at e2
  refine⟨?_,?_⟩
  ·show(f (g y) k).1=g y
   rw[e2,e]
  ·show(f (g y) k).2=(f (g x) k).2
   rw[e2]
theorem MO {d:Fe α} {r:List (Fe α)} (h:Laws (d::r)) {x:α} {k:Int} (hx:(mkA (d::r) x k).1=x):d.isv x k∧(d.mk1 x k).1=x∧(mkA r x (d.mk1 x k).2).1=x:=by
 have hs:=Je h.2.1 (d.mk1 x k).1 (d.mk1 x k).2
 have hx':(mkA r (d.mk1 x k).1 (d.mk1 x k).2).1=x:=hx
 rw[hx'] at hs
 have hv:=(Uw h.1 hs).1
 have e:=UB h.1 hv
 rw[e] at hx'
 exact⟨hv,e,hx'⟩
theorem JK:∀ {r:List (Fe α)},Laws r→∀ (x:α) (k:Int),mkA r (mkA r x k).1 k=mkA r x k
 | [],_,x,k=>rfl
 | d::r,h,x,k=>by
  have hs:=Je h.2.1 (d.mk1 x k).1 (d.mk1 x k).2
  obtain⟨hv,e2⟩:=Uw h.1 hs
  have e:=UB h.1 hv
  have ih:=JK h.2.2 (d.mk1 x k).1 (d.mk1 x k).2
  show mkA r (d.mk1 (mkA r (d.mk1 x k).1 (d.mk1 x k).2).1 k).1 (d.mk1 (mkA r (d.mk1 x k).1 (d.mk1 x k).2).1 k).2=mkA r (d.mk1 x k).1 (d.mk1 x k).2
  rw[e,e2,ih]
theorem QI {d:Fe α} {x y:α} (h:d.same x y):d.cost x=d.cost y:=by
 cases d with
 | l s n f g u=>show 64*n (g x)=64*n (g y);rw[(h:g x=g y)]
 | _=>rfl
theorem XW {d:Fe α} (h:d.law) (x:α) (k:Int):(d.mk1 x k).2≤k+d.cost x:=by
 cases d with
 | l s n f g u=>have:=(h.1 (g x) k).2.1;show(f (g x) k).2≤k+((64*n (g x):Nat):Int);omega
 | _=>exact Int.le_refl _
theorem IS {d:Fe α}:∀ {r:List (Fe α)},X5 d r→∀ (x:α) (k:Int),Dc r (d.mk1 x k).1=Dc r x
 | [],_,_,_=>rfl
 | e::r,h,x,k=>by
  show e.cost _+Dc r _=e.cost _+Dc r _
  rw[QI (h.2.1 x k),IS h.2.2 x k]
theorem Rk:∀ {r:List (Fe α)},Laws r→∀ (x:α) (k:Int),(mkA r x k).2≤k+Dc r x
 | [],_,x,k=>by show k≤k+((0:Nat):Int);omega
 | d::r,h,x,k=>by
  have h1:=XW h.1 x k
  have h2:=Rk h.2.2 (d.mk1 x k).1 (d.mk1 x k).2
  rw[IS h.2.1] at h2
  show(mkA r (d.mk1 x k).1 (d.mk1 x k).2).2≤k+((d.cost x+Dc r x:Nat):Int)
  omega
theorem bdV {n:α→Nat} {ds:List (Fe α)} (h:Laws ds) (hc:∀ x,Dc ds x≤64*n x):Bd n (mkA ds):=fun x k=>⟨CX h x k,by have:=Rk h x k;have:=hc x;omega,JK h x k⟩
theorem bdL {n:α→Nat} {ds:List (Fe α)} (h:Laws ds) (hc:∀ x,Dc ds x≤64*(n x+1)):Bd (szL n) (Ai (mkA ds)):=fun l k=>
 ⟨Gq (fun x k=>CX h x k) l k,Oy (fun x k=>by have:=Rk h x k;have:=hc x;omega) l k,NG (fun x k=>JK h x k) l k⟩
end
section
variable {P:Program} {E:Env} {m:Nat} {fn:Func} {t:Ty} {s:Sh}
def mkF (s:Sh) (f:s.X→Int→s.X×Int):MS:=⟨s,fun(x:s.X) (k:Int)=>0≤k∧(f x k).2≤4000000000000000000,f⟩
def heF (s:Sh) (f:s.X→Int→s.X×Int):Fct:=⟨[.v s,aI],[rI],fun(x:s.X×Int×Unit)=>0≤x.2.1∧(f x.1 x.2.1).2≤4000000000000000000∧(f x.1 x.2.1).1=x.1,fun(x:s.X×Int×Unit)=>((f x.1 x.2.1).2,())⟩
def obI (b:Bool) (X:Out):Out:=match b with
 | true=>.ob (Value.int .i64 0=Value.int .i64 0) X
 | false=>X
def mkC (t:Ty) (v:Bool) (bk:Int×Int×List (El t)×PUnit→Prop):List (Fe (El t))→Int→List (El t)→Int→Out
 | [],i,l,k=>obI v<|.ob (bk (k,(w1 i,(l,())))) .ok
 | .s g u::r,i,l,k=>.cl Ee (k,()) fun z=>.ob (inB i l.length)<|.ob (i.toNat<l.length)<|.lt (List (El t)) (l.modify i.toNat fun a=>u a z.1) fun l'=>mkC t v bk r i l' (w1 k)
 | .i g u::r,i,l,k=>.ob (inB i l.length)<|.ob (i.toNat<l.length)<|.lt (List (El t)) (l.modify i.toNat fun a=>u a k) fun l'=>mkC t v bk r i l' (w1 k)
 | .b g u::r,i,l,k=>.ob ((3:Int)≠0)<|.ob (inB i l.length)<|.ob (i.toNat<l.length)<|.lt (List (El t)) (l.modify i.toNat fun a=>u a (k.tmod 3==0)) fun l'=>mkC t v bk r i l' (w1 k)
 | .l s n f g u::r,i,l,k=>.ob (inB i l.length)<|.ob (i.toNat<l.length)<|.ob ((mkF s f).pre (g (l.getD i.toNat default)) k)<|.lt (s.X×Int) ((mkF s f).fn (g (l.getD i.toNat default)) k) fun z=>.lt (List (El t)) (l.modify i.toNat fun a=>u a z.1) fun l'=>mkC t v bk r i l' z.2
theorem HX {k:Int} (h0:0≤k) (h1:k≤4000000000000000000):w1 k=k+1:=Ao ⟨by omega,by omega⟩
theorem XH {v:Bool} {bk:Int×Int×List (El t)×PUnit→Prop} {Q:Post} {A R:List (El t)} {i:Int} (h0:0≤i) (hA:A.length=i.toNat) :
 ∀ (ds:List (Fe (El t))) (x:El t) (k:Int),Laws ds→0≤k→(mkA ds x k).2≤4000000000000000000→bk ((mkA ds x k).2,(w1 i,(A++(mkA ds x k).1::R,())))→(mkC t v bk ds i (A++x::R) k).holds Q
 | [],x,k,_,_,_,hb=>by cases v<;>first|exact Aa hb fun _=>trivial|exact Aa rfl fun _=>Aa hb fun _=>trivial
 | d::r,x,k,hl,hk,hm,hb=>by
  have hin:inB i (A++x::R).length:=⟨h0,by simp only[List.length_append,List.length_cons];omega⟩
  have hlt:i.toNat<(A++x::R).length:=by simp only[List.length_append,List.length_cons];omega
  have hmo:=CX hl.2.2 (d.mk1 x k).1 (d.mk1 x k).2
  have hm':(mkA r (d.mk1 x k).1 (d.mk1 x k).2).2≤4000000000000000000:=hm
  have h1:=Fj hl.1 x k
  have ih:=XH (v:=v) (Q:=Q) h0 hA r (d.mk1 x k).1 (d.mk1 x k).2 hl.2.2 (by omega) hm' hb
  have hw:w1 k=k+1:=HX hk (by omega)
  cases d with
  | s g u=>
   refine Ae ⟨hk,by show k≤_;omega⟩ fun _=>Aa hin fun _=>Aa hlt fun _=>Cp ?_
   show(mkC t v bk r i ((A++x::R).modify i.toNat fun a=>u a (G9 k)) (w1 k)).holds Q
   rw[mod_at hA,hw]
   exact ih
  | i g u=>
   refine Aa hin fun _=>Aa hlt fun _=>Cp ?_
   rw[mod_at hA,hw]
   exact ih
  | b g u=>
   refine Aa (by decide) fun _=>Aa hin fun _=>Aa hlt fun _=>Cp ?_
   rw[mod_at hA,hw]
   exact ih
  | l s n f g u=>
   refine Aa hin fun _=>Aa hlt fun _=>?_
   rw[Va hA]
   refine Aa ⟨hk,by show(f (g x) k).2≤_;exact Int.le_trans hmo hm'⟩ fun _=>Cp (Cp ?_)
   show(mkC t v bk r i ((A++x::R).modify i.toNat fun a=>u a (f (g x) k).1) (f (g x) k).2).holds Q
   rw[mod_at hA]
   exact ih
def mkX (t:Ty) (f:El t→Int→El t×Int) (v:Bool) (ds:List (Fe (El t))) (l:List (El t)) (k:Int):Out :=
 lpx (YA t f l k) (k,((0:Int),(l,()))) fun(y1:Int×Int×List (El t)×PUnit) bk1=>
  .br (decide (y1.2.1<(y1.2.2.1.length:Int))) (mkC t v bk1 ds y1.2.1 y1.2.2.1 y1.1) (.leaf (.one false [vi y1.1]) [] [((0:Nat),⟨t,y1.2.2.1⟩)])
theorem Yp {v:Bool} {ds:List (Fe (El t))} (hl:Laws ds) {l:List (El t)} {k:Int} (hp:0≤k∧(Ai (mkA ds) l k).2≤4000000000000000000) (hlen:l.length≤4000000000000000000):(mkX t (mkA ds) v ds l k).holds ((mkF (.sl t) (Ai (mkA ds))).ctr l k).post:=by
 refine AH ⟨by simp,by simp,by simp[Ai],by simp[Ai]⟩ fun(y1:Int×Int×List (El t)×PUnit) i1=>Ab (fun h2=>?_) (fun h2=>?_)
 all_goals have i3:0≤y1.2.1∧y1.2.1≤l.length∧y1.1=(Ai (mkA ds) (l.take y1.2.1.toNat) k).2∧y1.2.2.1=(Ai (mkA ds) (l.take y1.2.1.toNat) k).1++l.drop y1.2.1.toNat:=i1
 all_goals have hx:y1.2.2.1.length=l.length:=by rw[i3.2.2.2,List.length_append,HT,List.length_take,List.length_drop];omega
 all_goals simp only[decide_eq_true_eq,decide_eq_false_iff_not,hx] at h2
 all_goals clear i1
 ·have hlt:y1.2.1.toNat<l.length:=by omega
  have ht:=GI (f:=mkA ds) hlt k
  have hle:=(Dz (f:=mkA ds) (fun x k=>CX hl x k) l (y1.2.1.toNat+1) k).2
  have hl0:=(Dz (f:=mkA ds) (fun x k=>CX hl x k) l y1.2.1.toNat k).1
  have hA:(Ai (mkA ds) (l.take y1.2.1.toNat) k).1.length=y1.2.1.toNat:=by rw[HT,List.length_take];omega
  rw[ht] at hle
  rw[←i3.2.2.1] at hle hl0 ht
  rw[i3.2.2.2,drop_cons hlt]
  refine XH i3.1 hA ds _ _ hl (by omega) (Int.le_trans hle hp.2) ⟨⟨?_,?_,?_,?_⟩,?_⟩
  ·show 0≤w1 y1.2.1;rw[HX i3.1 (by omega)];omega
  ·show w1 y1.2.1≤_;rw[HX i3.1 (by omega)];omega
  ·show(mkA ds _ y1.1).2=(Ai (mkA ds) (l.take (w1 y1.2.1).toNat) k).2
   rw[HX i3.1 (by omega),toNat1 i3.1,ht]
  ·show _=(Ai (mkA ds) (l.take (w1 y1.2.1).toNat) k).1++l.drop (w1 y1.2.1).toNat
   rw[HX i3.1 (by omega),toNat1 i3.1,ht]
   simp
  ·show l.length-(w1 y1.2.1).toNat<l.length-y1.2.1.toNat
   rw[HX i3.1 (by omega),toNat1 i3.1];omega
 ·refine MS.leafL (t:=t) (fn:=fun l k=>Ai (mkA ds) l k) ?_
  have e1:l.take y1.2.1.toNat=l:=List.take_of_length_le (by omega)
  have e2:l.drop y1.2.1.toNat=[]:=List.drop_of_length_le (by omega)
  rw[i3.2.2.2,i3.2.2.1,e1,e2,List.append_nil]
theorem mkS {ds:List (Fe (El t))} (kp:List Nat) (v:Bool) (hl:Laws ds) (hE:EOk P E) (hf:P.funcs[m]? = some fn)
 (h:∀ l k,D8 P E (fun|2=>some (YA t (mkA ds) l k)|_=>none) kp [0] fn ((mkF (.sl t) (Ai (mkA ds))).arg l k)=mkX t (mkA ds) v ds l k)
 (hc:(fn.body.isSome&&decide (2≤fn.ntmps)&&SK ds)=true:=by kernel_rfl):(mkF (.sl t) (Ai (mkA ds))).ok P m:=by
 rw[Bool.and_eq_true,Bool.and_eq_true] at hc
 refine MS.of (S:=mkF (.sl t) (Ai (mkA ds))) (L:=fun l k=>fun|2=>some (YA t (mkA ds) l k)|_=>none) hE hf hc.1.1 hc.1.2 fun l k hx=>⟨(h l k)▸Yp hl hx ?_⟩
 have h1:0≤k∧(Ai (mkA ds) l k).2≤4000000000000000000:=hx
 have:=KE (f:=mkA ds) (Lv hl hc.2) l k
 omega
def heC (t:Ty) (f:El t→Int→El t×Int) (l:List (El t)) (bk:Int×Int×PUnit→Prop):List (Fe (El t))→Int→Int→Out
 | [],i,k=>.ob (l=l)<|.ob (bk (k,(w1 i,()))) .ok
 | .s g u::r,i,k=>.ob (inB i l.length)<|.cl Ee (k,()) fun z=>.br (!(g (l.getD i.toNat default)).toList==z.1.toList) (.lf (heF (.sl t) (Ai f)) ((-1:Int),())) (heC t f l bk r i (w1 k))
 | .i g u::r,i,k=>.ob (inB i l.length)<|.br (g (l.getD i.toNat default) != k) (.lf (heF (.sl t) (Ai f)) ((-1:Int),())) (heC t f l bk r i (w1 k))
 | .b g u::r,i,k=>.ob (inB i l.length)<|.ob ((3:Int)≠0)<|.br (!g (l.getD i.toNat default)==(k.tmod 3==0)) (.lf (heF (.sl t) (Ai f)) ((-1:Int),())) (heC t f l bk r i (w1 k))
 | .l s n f' g u::r,i,k=>.ob (inB i l.length)<|.cl (heF s f') (g (l.getD i.toNat default),k,()) fun z=>.br (decide (z.1<0)) (.lf (heF (.sl t) (Ai f)) ((-1:Int),())) (heC t f l bk r i z.1)
theorem XF {f:El t→Int→El t×Int} {l:List (El t)} {bk:Int×Int×PUnit→Prop} {Q:Post} {i:Int} (hi:inB i l.length) {x:El t} (hx:l.getD i.toNat default=x) :
 ∀ (ds:List (Fe (El t))) (k:Int),Laws ds→0≤k→(mkA ds x k).2≤4000000000000000000→(mkA ds x k).1=x→bk ((mkA ds x k).2,(w1 i,()))→(heC t f l bk ds i k).holds Q
 | [],k,_,_,_,_,hb=>Aa rfl fun _=>Aa hb fun _=>trivial
 | d::r,k,hl,hk,hm,he,hb=>by
  obtain⟨hv,hd1,he2⟩:=MO hl he
  have hmo:=CX hl.2.2 (d.mk1 x k).1 (d.mk1 x k).2
  have hm':(mkA r (d.mk1 x k).1 (d.mk1 x k).2).2≤4000000000000000000:=hm
  have h1:=Fj hl.1 x k
  have hk4:k≤4000000000000000000:=by omega
  have hw:w1 k=k+1:=HX hk hk4
  have hb':bk ((mkA r (d.mk1 x k).1 (d.mk1 x k).2).2,(w1 i,())):=hb
  rw[hd1] at hm' hb' hmo
  have ih:=XF (f:=f) (Q:=Q) hi hx r (d.mk1 x k).2 hl.2.2 (by omega) hm' he2 hb'
  cases d with
  | s g u=>
   have hv:g x=G9 k:=hv
   refine Aa hi fun _=>Ae ⟨hk,hk4⟩ fun _=>Ab (fun hc=>?_) (fun _=>?_)
   ·rw[hx,hv] at hc
    exact absurd hc (by show ¬ ((!(G9 k).toList==(G9 k).toList)=true);simp)
   ·rw[hw];exact ih
  | i g u=>
   have hv:g x=k:=hv
   refine Aa hi fun _=>Ab (fun hc=>?_) (fun _=>?_)
   ·rw[hx,hv] at hc;simp at hc
   ·rw[hw];exact ih
  | b g u=>
   have hv:g x=(k.tmod 3==0):=hv
   refine Aa hi fun _=>Aa (by decide) fun _=>Ab (fun hc=>?_) (fun _=>?_)
   ·rw[hx,hv] at hc;simp at hc
   ·rw[hw];exact ih
  | l s n f' g u=>
   have hv:(f' (g x) k).1=g x:=hv
   refine Aa hi fun _=>?_
   rw[hx]
   refine Ae ⟨hk,Int.le_trans hmo hm',hv⟩ fun _=>Ab (fun hc=>?_) (fun _=>ih)
   have hc:decide ((f' (g x) k).2<0)=true:=hc
   simp only[decide_eq_true_eq] at hc
   have h1:k≤(f' (g x) k).2:=h1
   omega
def heX (t:Ty) (f:El t→Int→El t×Int) (ds:List (Fe (El t))) (l:List (El t)) (k:Int):Out :=
 lpx (Yg t f l k) (k,((0:Int),())) fun(y1:Int×Int×PUnit) bk1=>
  .br (decide (y1.2.1<(l.length:Int))) (heC t f l bk1 ds y1.2.1 y1.1) (.lf (heF (.sl t) (Ai f)) (y1.1,()))
theorem YM {ds:List (Fe (El t))} (hl:Laws ds) {l:List (El t)} {k:Int} (hp:0≤k∧(Ai (mkA ds) l k).2≤4000000000000000000∧(Ai (mkA ds) l k).1=l) (hlen:l.length≤4000000000000000000):(heX t (mkA ds) ds l k).holds ((heF (.sl t) (Ai (mkA ds))).ctr (l,k,())).post:=by
 refine AH ⟨by simp,by simp,by simp[Ai]⟩ fun(y1:Int×Int×PUnit) i1=>Ab (fun h2=>?_) (fun h2=>?_)
 all_goals have i3:0≤y1.2.1∧y1.2.1≤l.length∧y1.1=(Ai (mkA ds) (l.take y1.2.1.toNat) k).2:=i1
 all_goals simp only[decide_eq_true_eq,decide_eq_false_iff_not] at h2
 all_goals clear i1
 ·have hlt:y1.2.1.toNat<l.length:=by omega
  have ht:=GI (f:=mkA ds) hlt k
  have hle:=(Dz (f:=mkA ds) (fun x k=>CX hl x k) l (y1.2.1.toNat+1) k).2
  have hl0:=(Dz (f:=mkA ds) (fun x k=>CX hl x k) l y1.2.1.toNat k).1
  have heq:=Ny hp.2.2 hlt
  rw[ht] at hle
  rw[←i3.2.2] at hle hl0 ht heq
  refine XF (show inB y1.2.1 l.length from⟨i3.1,h2⟩) rfl ds _ hl (by omega) (Int.le_trans hle hp.2.1) heq ⟨⟨?_,?_,?_⟩,?_⟩
  ·show 0≤w1 y1.2.1;rw[HX i3.1 (by omega)];omega
  ·show w1 y1.2.1≤_;rw[HX i3.1 (by omega)];omega
  ·show(mkA ds _ y1.1).2=(Ai (mkA ds) (l.take (w1 y1.2.1).toNat) k).2
   rw[HX i3.1 (by omega),toNat1 i3.1,ht]
  ·show l.length-(w1 y1.2.1).toNat<l.length-y1.2.1.toNat
   rw[HX i3.1 (by omega),toNat1 i3.1];omega
 ·have e1:l.take y1.2.1.toNat=l:=List.take_of_length_le (by omega)
  rw[e1] at i3
  exact lfY (by show(y1.1,())=((Ai (mkA ds) l k).2,());rw[i3.2.2])
theorem heS {ds:List (Fe (El t))} (kp:List Nat) (hl:Laws ds) (hE:EOk P E) (hf:P.funcs[m]? = some fn)
 (h:∀ l k,D8 P E (fun|2=>some (Yg t (mkA ds) l k)|_=>none) kp [] fn ((heF (.sl t) (Ai (mkA ds))).arg (l,k,()))=heX t (mkA ds) ds l k)
 (hc:(fn.body.isSome&&decide (2≤fn.ntmps)&&SK ds)=true:=by kernel_rfl):(heF (.sl t) (Ai (mkA ds))).ok P m:=by
 rw[Bool.and_eq_true,Bool.and_eq_true] at hc
 refine Fct.of (S:=heF (.sl t) (Ai (mkA ds))) (L:=fun x=>fun|2=>some (Yg t (mkA ds) x.1 x.2.1)|_=>none) (kp:=kp) hE hf hc.1.1 hc.1.2 ?_
 rintro⟨(l:List (El t)),(k:Int),_⟩ hx
 refine⟨(h l k)▸YM hl hx ?_⟩
 have h1:0≤k∧(Ai (mkA ds) l k).2≤4000000000000000000∧(Ai (mkA ds) l k).1=l:=hx
 have:=KE (f:=mkA ds) (Lv hl hc.2) l k
 omega
def mvC (s:Sh):List (Fe s.X)→s.X→Int→Out
 | [],x,k=>.leaf (.one false [vi k]) [] (Db 0 (s.fc x))
 | .l s' n f g u::r,x,k=>.ob ((mkF s' f).pre (g x) k)<|.lt (s'.X×Int) ((mkF s' f).fn (g x) k) fun z=>mvC s r (u x z.1) z.2
 | _::_,_,_=>.bad
def XI {α:Type}:List (Fe α)→Bool
 | []=>true
 | .l ..::r=>XI r
 | _::_=>false
theorem XQ {Q:Post}:∀ (ds:List (Fe s.X)) (x:s.X) (k:Int),Laws ds→XI ds=true→0≤k→(mkA ds x k).2≤4000000000000000000→(Out.leaf (.one false [vi (mkA ds x k).2]) [] (Db 0 (s.fc (mkA ds x k).1))).holds Q→(mvC s ds x k).holds Q
 | [],x,k,_,_,_,_,h=>h
 | .l s' n f g u::r,x,k,hl,hs,hk,hm,h=>by
  have hmo:=CX hl.2.2 (u x (f (g x) k).1) (f (g x) k).2
  have h1:k≤(f (g x) k).2:=Fj hl.1 x k
  exact Aa ⟨hk,Int.le_trans hmo hm⟩ fun _=>Cp (XQ r _ _ hl.2.2 hs (by show 0≤(f (g x) k).2;omega) hm h)
theorem mvT {ds:List (Fe s.X)} (kp kl:List Nat) (hl:Laws ds) (hE:EOk P E) (hf:P.funcs[m]? = some fn)
 (h:∀ x k,D8 P E (fun _=>none) kp kl fn ((mkF s (mkA ds)).arg x k)=mvC s ds x k)
 (hc:(fn.body.isSome&&decide (2≤fn.ntmps)&&XI ds)=true:=by kernel_rfl):(mkF s (mkA ds)).ok P m:=by
 rw[Bool.and_eq_true,Bool.and_eq_true] at hc
 exact MS.of (S:=mkF s (mkA ds)) (L:=fun _ _ _=>none) (kp:=kp) (kl:=kl) hE hf hc.1.1 hc.1.2 fun x k hx=>⟨(h x k)▸XQ ds x k hl hc.2 hx.1 hx.2 (MS.leaf ⟨DY _,trivial,rfl⟩)⟩
def hvC (s:Sh) (f:s.X→Int→s.X×Int):List (Fe s.X)→s.X→Int→Out
 | [],x,k=>.lf (heF s f) (k,())
 | .l s' n f' g u::r,x,k=>.cl (heF s' f') (g x,k,()) fun z=>.br (decide (z.1<0)) (.lf (heF s f) ((-1:Int),())) (hvC s f r x z.1)
 | _::_,_,_=>.bad
theorem Xq {Q:Post} {f:s.X→Int→s.X×Int} {x:s.X}:∀ (ds:List (Fe s.X)) (k:Int),Laws ds→XI ds=true→0≤k→(mkA ds x k).2≤4000000000000000000→(mkA ds x k).1=x→(Out.lf (heF s f) ((mkA ds x k).2,())).holds Q→(hvC s f ds x k).holds Q
 | [],k,_,_,_,_,_,h=>h
 | .l s' n f' g u::r,k,hl,hs,hk,hm,he,h=>by
  obtain⟨hv,hd1,he2⟩:=MO hl he
  have hv:(f' (g x) k).1=g x:=hv
  have hd1:u x (f' (g x) k).1=x:=hd1
  have hm:(mkA r (u x (f' (g x) k).1) (f' (g x) k).2).2≤4000000000000000000:=hm
  have h:(Out.lf (heF s f) ((mkA r (u x (f' (g x) k).1) (f' (g x) k).2).2,())).holds Q:=h
  rw[hd1] at hm h
  have hmo:=CX hl.2.2 x (f' (g x) k).2
  have h1:k≤(f' (g x) k).2:=Fj hl.1 x k
  refine Ae ⟨hk,Int.le_trans hmo hm,hv⟩ fun _=>Ab (fun hc=>?_) (fun _=>Xq r _ hl.2.2 hs (by show 0≤(f' (g x) k).2;omega) hm he2 h)
  have hc:decide ((f' (g x) k).2<0)=true:=hc
  simp only[decide_eq_true_eq] at hc
  omega
theorem hvT {ds:List (Fe s.X)} (kp:List Nat) (hl:Laws ds) (hE:EOk P E) (hf:P.funcs[m]? = some fn)
 (h:∀ x k,D8 P E (fun _=>none) kp [] fn ((heF s (mkA ds)).arg (x,k,()))=hvC s (mkA ds) ds x k)
 (hc:(fn.body.isSome&&decide (2≤fn.ntmps)&&XI ds)=true:=by kernel_rfl):(heF s (mkA ds)).ok P m:=by
 rw[Bool.and_eq_true,Bool.and_eq_true] at hc
 exact Fct.of (S:=heF s (mkA ds)) (L:=fun _ _=>none) (kp:=kp) hE hf hc.1.1 hc.1.2 fun x hx=>⟨(h x.1 x.2.1)▸Xq ds x.2.1 hl hc.2 hx.1 hx.2.1 hx.2.2 (lfY rfl)⟩
end
end Go.D
namespace Go.D
set_option linter.unusedSimpArgs false
set_option maxRecDepth 100000
set_option maxHeartbeats 2000000
def szAddr (x:SAddr):Nat:=x.host.size+x.path.size
def AM (x:SAttr):Nat:=x.name.size+x.value.size
def Af (x:SToken):Nat:=x.name.size+szL AM x.attrs+x.text.size
def AK (x:STokenizer):Nat:=x.rest.size
def szNode (x:SNode):Nat:=x.name.size+x.text.size+szL AM x.attrs
def szBuilder (x:SBuilder):Nat:=szL szNode x.nodes+x.open_.length
def Hm (x:SRule):Nat:=x.name.size
def Cs (x:SSheet):Nat:=szL Hm x.rules
def B3 (x:SLine):Nat:=x.text.size
def szPolicy (x:SPolicy):Nat:=szL Ac x.scripts+szL Ac x.styles+szL Ac x.images+x.nonce.size
def Ax (x:SResponse):Nat:=x.body.size+x.policy.size
def szRequest (x:SRequest):Nat:=szAddr x.to+x.from_.size+x.digest.size
def Dj (x:SFile):Nat:=x.path.size+Ax x.response
def A0 (x:SServer):Nat:=x.host.size+szL Dj x.files
def Cv (x:SEntry):Nat:=x.top.size+szAddr x.to+Ax x.response
def szCache (x:SCache):Nat:=szL Cv x.entries
def Df (x:SSent):Nat:=x.top.size+szAddr x.to
def szNet (x:SNet):Nat:=szL A0 x.servers+szCache x.cache+szL Df x.log
def AL (x:SSlot):Nat:=szAddr x.to+x.digest.size+x.body.size
def Au (x:SModule):Nat:=szAddr x.to+x.body.size
def szPage (x:SPage):Nat:=szAddr x.addr+szPolicy x.policy+AK x.tok+szL Af x.queue+szBuilder x.builder+szL AL x.slots+szL Au x.mods+szL szAddr x.entries+szL szAddr x.ran+szL Ac x.log
def CC (x:SGuess):Nat:=szAddr x.to+Ax x.response
def Dk (x:SConn):Nat:=szAddr x.to+Ax x.response
def CO (x:SLoader):Nat:=szNet x.net+szPage x.page+szL Ac x.parts+szL Dk x.conns+szL CC x.guesses
theorem VS (x:SAddr):(⟨x.host,x.path⟩:SAddr)=x:=rfl
theorem Ta (x:SToken):(⟨x.kind,x.name,x.attrs,x.text⟩:SToken)=x:=rfl
theorem Wk (x:SNode):(⟨x.name,x.text,x.parent,x.attrs⟩:SNode)=x:=rfl
theorem OS (x:SBuilder):(⟨x.nodes,x.open_⟩:SBuilder)=x:=rfl
theorem SI (x:SSheet):(⟨x.rules⟩:SSheet)=x:=rfl
theorem RZ (x:SPolicy):(⟨x.set_,x.scripts,x.styles,x.images,x.nonce⟩:SPolicy)=x:=rfl
theorem Mr (x:SResponse):(⟨x.status,x.kind,x.body,x.age,x.shares,x.policy⟩:SResponse)=x:=rfl
theorem N1 (x:SRequest):(⟨x.kind,x.to,x.from_,x.digest⟩:SRequest)=x:=rfl
theorem Vi (x:SFile):(⟨x.path,x.response⟩:SFile)=x:=rfl
theorem P9 (x:SServer):(⟨x.host,x.files⟩:SServer)=x:=rfl
theorem SZ (x:SEntry):(⟨x.top,x.to,x.response,x.until_⟩:SEntry)=x:=rfl
theorem SF (x:SCache):(⟨x.entries⟩:SCache)=x:=rfl
theorem WK (x:SSent):(⟨x.top,x.to,x.guess⟩:SSent)=x:=rfl
theorem XN (x:SNet):(⟨x.servers,x.cache,x.log,x.now⟩:SNet)=x:=rfl
theorem U5 (x:SSlot):(⟨x.mode,x.to,x.digest,x.node,x.done,x.code,x.body⟩:SSlot)=x:=rfl
theorem PR (x:SModule):(⟨x.to,x.done,x.code,x.body⟩:SModule)=x:=rfl
theorem V5 (x:SPage):(⟨x.addr,x.policy,x.tok,x.queue,x.ended,x.builder,x.slots,x.mods,x.entries,x.block,x.inline,x.deferred,x.entered,x.ran,x.log,x.loaded⟩:SPage)=x:=rfl
theorem RV (x:SResult):(⟨x.builder,x.log,x.verdicts,x.sheet,x.loaded⟩:SResult)=x:=rfl
theorem SS (x:SGuess):(⟨x.to,x.response,x.used⟩:SGuess)=x:=rfl
theorem Vm (x:SConn):(⟨x.to,x.left,x.guess,x.response⟩:SConn)=x:=rfl
theorem RS (x:SLoader):(⟨x.net,x.page,x.parts,x.conns,x.guesses⟩:SLoader)=x:=rfl
theorem SL (x:SVisit):(⟨x.addr,x.page,x.kept⟩:SVisit)=x:=rfl
theorem Xr (x:STab):(⟨x.visits,x.at_⟩:STab)=x:=rfl
theorem X0 (x y:ByteArray):(x==y)=decide (x=y):=by
 rw[Bool.eq_iff_iff,decide_eq_true_eq]
 constructor
 ·intro h
  have h':(x.data==y.data)=true:=h
  cases x;cases y;simpa using h'
 ·rintro rfl
  show(x.data==x.data)=true
  simp
theorem EW (x y:SAddr):(x.host==y.host&&(x.path==y.path&&true))=decide (x=y):=by
 rw[Bool.eq_iff_iff];cases x;cases y;simp[X0]
def LR:List (Fe ByteArray):=[.s (fun x=>x) fun _ v=>v]
def DS:ByteArray→Int→ByteArray×Int:=mkA LR
theorem Ij:Laws LR:=by repeat' first|exact fun _ _=>rfl|exact fun _=>rfl|constructor
theorem EM:Bd (szL Ac) (Ai DS):=bdL Ij (fun x=>by simp only[Dc,Fe.cost,LR];omega)
def Yd:List (Fe Int):=[.i (fun x=>x) fun _ v=>v]
def SB:Int→Int→Int×Int:=mkA Yd
theorem Rq:Laws Yd:=by repeat' first|exact fun _ _=>rfl|exact fun _=>rfl|constructor
theorem RH:Bd List.length (Ai SB):=fun l k=>by
 have h:=bdL (n:=fun _=>0) Rq (fun x=>by simp only[Dc,Fe.cost,Yd];omega) l k
 have e:∀ l:List Int,szL (fun _=>0) l=l.length:=fun l=>by
  induction l with
  | nil=>rfl
  | cons a l ih=>simp only[szL,List.map_cons,List.sum_cons,List.length_cons] at *;omega
 rw[e] at h
 exact h
def UR:List (Fe SAddr):=[.s (fun x=>x.host) fun x v=>{x with host:=v},.s (fun x=>x.path) fun x v=>{x with path:=v}]
def Ky:SAddr→Int→SAddr×Int:=mkA UR
theorem MK:Laws UR:=by repeat' first|exact fun _ _=>rfl|exact fun _=>rfl|constructor
theorem NA:Bd (szL szAddr) (Ai Ky):=bdL MK (fun x=>by simp only[Dc,Fe.cost,UR,szAddr];omega)
def WQ:List (Fe SAttr):=[.s (fun x=>x.name) fun x v=>{x with name:=v},.s (fun x=>x.value) fun x v=>{x with value:=v}]
def KF:SAttr→Int→SAttr×Int:=mkA WQ
theorem LX:Laws WQ:=by repeat' first|exact fun _ _=>rfl|exact fun _=>rfl|constructor
theorem IX:Bd (szL AM) (Ai KF):=bdL LX (fun x=>by simp only[Dc,Fe.cost,WQ,AM];omega)
def Ra:List (Fe SToken):=[.i (fun x=>x.kind) fun x v=>{x with kind:=v},.s (fun x=>x.name) fun x v=>{x with name:=v},.l (.sl .attr) (szL AM) (Ai KF) (fun x=>x.attrs) fun x v=>{x with attrs:=v},.s (fun x=>x.text) fun x v=>{x with text:=v}]
def Jr:SToken→Int→SToken×Int:=mkA Ra
theorem JJ:Laws Ra:=by repeat' first|exact fun _ _=>rfl|exact fun _=>rfl|exact IX|constructor
theorem L4:Bd (szL Af) (Ai Jr):=bdL JJ (fun x=>by simp only[Dc,Fe.cost,Ra,Af];omega)
def VL:List (Fe SNode):=[.s (fun x=>x.name) fun x v=>{x with name:=v},.s (fun x=>x.text) fun x v=>{x with text:=v},.i (fun x=>x.parent) fun x v=>{x with parent:=v},.l (.sl .attr) (szL AM) (Ai KF) (fun x=>x.attrs) fun x v=>{x with attrs:=v}]
def Nj:SNode→Int→SNode×Int:=mkA VL
theorem LS:Laws VL:=by repeat' first|exact fun _ _=>rfl|exact fun _=>rfl|exact IX|constructor
theorem OB:Bd (szL szNode) (Ai Nj):=bdL LS (fun x=>by simp only[Dc,Fe.cost,VL,szNode];omega)
def JI:List (Fe SBuilder):=[.l (.sl .node) (szL szNode) (Ai Nj) (fun x=>x.nodes) fun x v=>{x with nodes:=v},.l (.sl .int) List.length (Ai SB) (fun x=>x.open_) fun x v=>{x with open_:=v}]
def Gm:SBuilder→Int→SBuilder×Int:=mkA JI
theorem GR:Laws JI:=by repeat' first|exact fun _ _=>rfl|exact fun _=>rfl|exact RH|exact OB|constructor
theorem Kd:Bd szBuilder Gm:=bdV GR (fun x=>by simp only[Dc,Fe.cost,JI,szBuilder];omega)
def LI:List (Fe SPolicy):=[.l (.sl .str) (szL Ac) (Ai DS) (fun x=>x.scripts) fun x v=>{x with scripts:=v},.l (.sl .str) (szL Ac) (Ai DS) (fun x=>x.styles) fun x v=>{x with styles:=v},.l (.sl .str) (szL Ac) (Ai DS) (fun x=>x.images) fun x v=>{x with images:=v}]
def Hk:SPolicy→Int→SPolicy×Int:=mkA LI
theorem H2:Laws LI:=by repeat' first|exact fun _ _=>rfl|exact fun _=>rfl|exact EM|constructor
theorem LM:Bd szPolicy Hk:=bdV H2 (fun x=>by simp only[Dc,Fe.cost,LI,szPolicy];omega)
def Wn:List (Fe SFile):=[.s (fun x=>x.path) fun x v=>{x with path:=v},.i (fun x=>x.response.status) fun x v=>{x with response:={x.response with status:=v}},.i (fun x=>x.response.kind) fun x v=>{x with response:={x.response with kind:=v}},.s (fun x=>x.response.body) fun x v=>{x with response:={x.response with body:=v}},.i (fun x=>x.response.age) fun x v=>{x with response:={x.response with age:=v}},.b (fun x=>x.response.shares) fun x v=>{x with response:={x.response with shares:=v}},.s (fun x=>x.response.policy) fun x v=>{x with response:={x.response with policy:=v}}]
def M5:SFile→Int→SFile×Int:=mkA Wn
theorem L7:Laws Wn:=by repeat' first|exact fun _ _=>rfl|exact fun _=>rfl|constructor
theorem O7:Bd (szL Dj) (Ai M5):=bdL L7 (fun x=>by simp only[Dc,Fe.cost,Wn,Dj,Ax];omega)
def LY:List (Fe SServer):=[.s (fun x=>x.host) fun x v=>{x with host:=v},.l (.sl .file) (szL Dj) (Ai M5) (fun x=>x.files) fun x v=>{x with files:=v}]
def Hd:SServer→Int→SServer×Int:=mkA LY
theorem HI:Laws LY:=by repeat' first|exact fun _ _=>rfl|exact fun _=>rfl|exact O7|constructor
theorem KI:Bd (szL A0) (Ai Hd):=bdL HI (fun x=>by simp only[Dc,Fe.cost,LY,A0];omega)
def PC:List (Fe SEntry):=[.s (fun x=>x.top) fun x v=>{x with top:=v},.s (fun x=>x.to.host) fun x v=>{x with to:={x.to with host:=v}},.s (fun x=>x.to.path) fun x v=>{x with to:={x.to with path:=v}},.i (fun x=>x.response.status) fun x v=>{x with response:={x.response with status:=v}},.i (fun x=>x.response.kind) fun x v=>{x with response:={x.response with kind:=v}},.s (fun x=>x.response.body) fun x v=>{x with response:={x.response with body:=v}},.i (fun x=>x.response.age) fun x v=>{x with response:={x.response with age:=v}},.b (fun x=>x.response.shares) fun x v=>{x with response:={x.response with shares:=v}},.s (fun x=>x.response.policy) fun x v=>{x with response:={x.response with policy:=v}},.i (fun x=>x.until_) fun x v=>{x with until_:=v}]
def I2:SEntry→Int→SEntry×Int:=mkA PC
theorem I0:Laws PC:=by repeat' first|exact fun _ _=>rfl|exact fun _=>rfl|constructor
theorem LO:Bd (szL Cv) (Ai I2):=bdL I0 (fun x=>by simp only[Dc,Fe.cost,PC,szAddr,Cv,Ax];omega)
def Qr:List (Fe SCache):=[.l (.sl .entry) (szL Cv) (Ai I2) (fun x=>x.entries) fun x v=>{x with entries:=v}]
def Jo:SCache→Int→SCache×Int:=mkA Qr
theorem Js:Laws Qr:=by repeat' first|exact fun _ _=>rfl|exact fun _=>rfl|exact LO|constructor
theorem OG:Bd szCache Jo:=bdV Js (fun x=>by simp only[Dc,Fe.cost,Qr,szCache];omega)
def U6:List (Fe SSent):=[.s (fun x=>x.top) fun x v=>{x with top:=v},.s (fun x=>x.to.host) fun x v=>{x with to:={x.to with host:=v}},.s (fun x=>x.to.path) fun x v=>{x with to:={x.to with path:=v}},.b (fun x=>x.guess) fun x v=>{x with guess:=v}]
def Nt:SSent→Int→SSent×Int:=mkA U6
theorem Mt:Laws U6:=by repeat' first|exact fun _ _=>rfl|exact fun _=>rfl|constructor
theorem OE:Bd (szL Df) (Ai Nt):=bdL Mt (fun x=>by simp only[Dc,Fe.cost,U6,szAddr,Df];omega)
def Yi:List (Fe SNet):=[.l (.sl .server) (szL A0) (Ai Hd) (fun x=>x.servers) fun x v=>{x with servers:=v},.l (.el .cache) szCache Jo (fun x=>x.cache) fun x v=>{x with cache:=v},.l (.sl .sent) (szL Df) (Ai Nt) (fun x=>x.log) fun x v=>{x with log:=v}]
def S3:SNet→Int→SNet×Int:=mkA Yi
theorem Pz:Laws Yi:=by repeat' first|exact fun _ _=>rfl|exact fun _=>rfl|exact OE|exact KI|exact OG|constructor
theorem Un:Bd szNet S3:=bdV Pz (fun x=>by simp only[Dc,Fe.cost,Yi,szNet];omega)
def Vp:List (Fe SSlot):=[.i (fun x=>x.mode) fun x v=>{x with mode:=v},.s (fun x=>x.to.host) fun x v=>{x with to:={x.to with host:=v}},.s (fun x=>x.to.path) fun x v=>{x with to:={x.to with path:=v}},.s (fun x=>x.digest) fun x v=>{x with digest:=v},.i (fun x=>x.node) fun x v=>{x with node:=v},.b (fun x=>x.done) fun x v=>{x with done:=v},.i (fun x=>x.code) fun x v=>{x with code:=v},.s (fun x=>x.body) fun x v=>{x with body:=v}]
def Nd:SSlot→Int→SSlot×Int:=mkA Vp
theorem LW:Laws Vp:=by repeat' first|exact fun _ _=>rfl|exact fun _=>rfl|constructor
theorem Og:Bd (szL AL) (Ai Nd):=bdL LW (fun x=>by simp only[Dc,Fe.cost,Vp,szAddr,AL];omega)
def LA:List (Fe SModule):=[.s (fun x=>x.to.host) fun x v=>{x with to:={x.to with host:=v}},.s (fun x=>x.to.path) fun x v=>{x with to:={x.to with path:=v}},.b (fun x=>x.done) fun x v=>{x with done:=v},.i (fun x=>x.code) fun x v=>{x with code:=v},.s (fun x=>x.body) fun x v=>{x with body:=v}]
def Hh:SModule→Int→SModule×Int:=mkA LA
theorem H5:Laws LA:=by repeat' first|exact fun _ _=>rfl|exact fun _=>rfl|constructor
theorem K0:Bd (szL Au) (Ai Hh):=bdL H5 (fun x=>by simp only[Dc,Fe.cost,LA,szAddr,Au];omega)
def V1:List (Fe SPage):=[.l (.el .policy) szPolicy Hk (fun x=>x.policy) fun x v=>{x with policy:=v},.l (.sl .token) (szL Af) (Ai Jr) (fun x=>x.queue) fun x v=>{x with queue:=v},.l (.el .builder) szBuilder Gm (fun x=>x.builder) fun x v=>{x with builder:=v},.l (.sl .slot) (szL AL) (Ai Nd) (fun x=>x.slots) fun x v=>{x with slots:=v},.l (.sl .module) (szL Au) (Ai Hh) (fun x=>x.mods) fun x v=>{x with mods:=v},.l (.sl .addr) (szL szAddr) (Ai Ky) (fun x=>x.entries) fun x v=>{x with entries:=v},.l (.sl .addr) (szL szAddr) (Ai Ky) (fun x=>x.ran) fun x v=>{x with ran:=v},.l (.sl .str) (szL Ac) (Ai DS) (fun x=>x.log) fun x v=>{x with log:=v}]
def Nu:SPage→Int→SPage×Int:=mkA V1
theorem Lz:Laws V1:=by repeat' first|exact fun _ _=>rfl|exact fun _=>rfl|exact NA|exact K0|exact Og|exact EM|exact L4|exact Kd|exact LM|constructor
theorem QM:Bd szPage Nu:=bdV Lz (fun x=>by simp only[Dc,Fe.cost,V1,szPage];omega)
def QL:List (Fe SGuess):=[.s (fun x=>x.to.host) fun x v=>{x with to:={x.to with host:=v}},.s (fun x=>x.to.path) fun x v=>{x with to:={x.to with path:=v}},.i (fun x=>x.response.status) fun x v=>{x with response:={x.response with status:=v}},.i (fun x=>x.response.kind) fun x v=>{x with response:={x.response with kind:=v}},.s (fun x=>x.response.body) fun x v=>{x with response:={x.response with body:=v}},.i (fun x=>x.response.age) fun x v=>{x with response:={x.response with age:=v}},.b (fun x=>x.response.shares) fun x v=>{x with response:={x.response with shares:=v}},.s (fun x=>x.response.policy) fun x v=>{x with response:={x.response with policy:=v}},.b (fun x=>x.used) fun x v=>{x with used:=v}]
def JP:SGuess→Int→SGuess×Int:=mkA QL
theorem JN:Laws QL:=by repeat' first|exact fun _ _=>rfl|exact fun _=>rfl|constructor
theorem LP:Bd (szL CC) (Ai JP):=bdL JN (fun x=>by simp only[Dc,Fe.cost,QL,szAddr,CC,Ax];omega)
def WX:List (Fe SConn):=[.s (fun x=>x.to.host) fun x v=>{x with to:={x.to with host:=v}},.s (fun x=>x.to.path) fun x v=>{x with to:={x.to with path:=v}},.i (fun x=>x.left) fun x v=>{x with left:=v},.b (fun x=>x.guess) fun x v=>{x with guess:=v},.i (fun x=>x.response.status) fun x v=>{x with response:={x.response with status:=v}},.i (fun x=>x.response.kind) fun x v=>{x with response:={x.response with kind:=v}},.s (fun x=>x.response.body) fun x v=>{x with response:={x.response with body:=v}},.i (fun x=>x.response.age) fun x v=>{x with response:={x.response with age:=v}},.b (fun x=>x.response.shares) fun x v=>{x with response:={x.response with shares:=v}},.s (fun x=>x.response.policy) fun x v=>{x with response:={x.response with policy:=v}}]
def M9:SConn→Int→SConn×Int:=mkA WX
theorem Mz:Laws WX:=by repeat' first|exact fun _ _=>rfl|exact fun _=>rfl|constructor
theorem Ob:Bd (szL Dk) (Ai M9):=bdL Mz (fun x=>by simp only[Dc,Fe.cost,WX,szAddr,Dk,Ax];omega)
def Lg:List (Fe SLoader):=[.l (.el .net) szNet S3 (fun x=>x.net) fun x v=>{x with net:=v},.l (.el .page) szPage Nu (fun x=>x.page) fun x v=>{x with page:=v},.l (.sl .str) (szL Ac) (Ai DS) (fun x=>x.parts) fun x v=>{x with parts:=v},.l (.sl .conn) (szL Dk) (Ai M9) (fun x=>x.conns) fun x v=>{x with conns:=v},.l (.sl .guess) (szL CC) (Ai JP) (fun x=>x.guesses) fun x v=>{x with guesses:=v}]
def Bw:SLoader→Int→SLoader×Int:=mkA Lg
theorem Hw:Laws Lg:=by repeat' first|exact fun _ _=>rfl|exact fun _=>rfl|exact Ob|exact LP|exact EM|exact Un|exact QM|constructor
theorem HZ:Bd CO Bw:=bdV Hw (fun x=>by simp only[Dc,Fe.cost,Lg,CO];omega)
theorem K9 (x:SLoader) (k:Int):{ net:={ servers:=(Bw x k).1.net.servers,cache:=(Bw x k).1.net.cache,log:=(Bw x k).1.net.log,now:=x.net.now:SNet },page:={ addr:=x.page.addr,policy:={ set_:=x.page.policy.set_,scripts:=(Bw x k).1.page.policy.scripts,styles:=(Bw x k).1.page.policy.styles,images:=(Bw x k).1.page.policy.images,nonce:=x.page.policy.nonce:SPolicy },tok:=x.page.tok,queue:=(Bw x k).1.page.queue,ended:=x.page.ended,builder:=(Bw x k).1.page.builder,slots:=(Bw x k).1.page.slots,mods:=(Bw x k).1.page.mods,entries:=(Bw x k).1.page.entries,block:=x.page.block,inline:=x.page.inline,deferred:=x.page.deferred,entered:=x.page.entered,ran:=(Bw x k).1.page.ran,log:=(Bw x k).1.page.log,loaded:=x.page.loaded:SPage },parts:=(Bw x k).1.parts,conns:=(Bw x k).1.conns,guesses:=(Bw x k).1.guesses:SLoader }=(Bw x k).1:=by kernel_rfl
def Wt (x:SAddr):List SzI:=[.p x.host.size,.p x.path.size]
theorem WN (x:SAddr) (h:Sh.good (.el .addr) x):D5 (Wt x):=by simp only[Wt,Sh.good,Sh.fc,enc,List.forall_mem_cons,List.not_mem_nil,false_implies,implies_true,CK,D5,SzI.ok,maxLen] at *;grind
def U1 (x:SAddr):List ToI:=[]
def Yy (x:SAddr) (z:Unit):SAddr:=⟨x.host,x.path⟩
theorem W3 (x:SAddr) (h:szAddr x≤1048576):D1 (U1 x):=by simp only[szAddr,U1,D1,and_true] at *<;>omega
def Q0 (x y:SAddr):List EqI:=[.s x.host y.host,.s x.path y.path]
theorem W4 (x y:SAddr):x=y↔B7 (Q0 x y):=by cases x;cases y;simp[Q0,B7,EqI.tru]
theorem UV (x y:SAddr) (h:szAddr x≤1125899906842624):D2 (Q0 x y):=by simp only[szAddr,Q0,D2,EqI.ok,and_true,true_and] at *<;>omega
def Wg (x:SAttr):List SzI:=[.p x.name.size,.p x.value.size]
theorem Ve (x:SAttr) (h:Sh.good (.el .attr) x):D5 (Wg x):=by simp only[Wg,Sh.good,Sh.fc,enc,List.forall_mem_cons,List.not_mem_nil,false_implies,implies_true,CK,D5,SzI.ok,maxLen] at *;grind
def VC (x:SAttr):List ToI:=[]
def YF (x:SAttr) (z:Unit):SAttr:=⟨x.name,x.value⟩
theorem WR (x:SAttr) (h:AM x≤1048576):D1 (VC x):=by simp only[AM,VC,D1,and_true] at *<;>omega
def PV (x y:SAttr):List EqI:=[.s x.name y.name,.s x.value y.value]
theorem Wa (x y:SAttr):x=y↔B7 (PV x y):=by cases x;cases y;simp[PV,B7,EqI.tru]
theorem UI (x y:SAttr) (h:AM x≤1125899906842624):D2 (PV x y):=by simp only[AM,PV,D2,EqI.ok,and_true,true_and] at *<;>omega
def RU (x:SToken):List SzI:=[.p x.name.size,.c (.sl .attr) (szL AM) x.attrs,.p x.text.size]
theorem SG (x:SToken) (h:Sh.good (.el .token) x):D5 (RU x):=by simp only[RU,Sh.good,Sh.fc,enc,List.forall_mem_cons,List.not_mem_nil,false_implies,implies_true,CK,D5,SzI.ok,maxLen] at *;grind
def Pg (x:SToken):List ToI:=[⟨(.sl .attr),(szL AM),x.attrs⟩]
def Xp (x:SToken) (z:(List SAttr)×Unit):SToken:=⟨x.kind,x.name,z.1,x.text⟩
theorem TG (x:SToken) (h:Af x≤1048576):D1 (Pg x):=by simp only[Af,Pg,D1,and_true] at *<;>omega
def Kn (x y:SToken):List EqI:=[.i x.kind y.kind,.s x.name y.name,.c (.sl .attr) inferInstance (szL AM) x.attrs y.attrs,.s x.text y.text]
theorem Tc (x y:SToken):x=y↔B7 (Kn x y):=by cases x;cases y;simp[Kn,B7,EqI.tru]
theorem Ti (x y:SToken) (h:Af x≤1125899906842624):D2 (Kn x y):=by simp only[Af,Kn,D2,EqI.ok,and_true,true_and] at *<;>omega
def Gz (x:STokenizer):List SzI:=[.p x.rest.size]
theorem J6 (x:STokenizer) (h:Sh.good (.el .tokenizer) x):D5 (Gz x):=by simp only[Gz,Sh.good,Sh.fc,enc,List.forall_mem_cons,List.not_mem_nil,false_implies,implies_true,CK,D5,SzI.ok,maxLen] at *;grind
def GJ (x:STokenizer):List ToI:=[]
def N8 (x:STokenizer) (z:Unit):STokenizer:=⟨x.rest⟩
theorem K1 (x:STokenizer) (h:AK x≤1048576):D1 (GJ x):=by simp only[AK,GJ,D1,and_true] at *<;>omega
def Ec (x y:STokenizer):List EqI:=[.s x.rest y.rest]
theorem Ke (x y:STokenizer):x=y↔B7 (Ec x y):=by cases x;cases y;simp[Ec,B7,EqI.tru]
theorem KT (x y:STokenizer) (h:AK x≤1125899906842624):D2 (Ec x y):=by simp only[AK,Ec,D2,EqI.ok,and_true,true_and] at *<;>omega
def VK (x:SNode):List SzI:=[.p x.name.size,.p x.text.size,.c (.sl .attr) (szL AM) x.attrs]
theorem UY (x:SNode) (h:Sh.good (.el .node) x):D5 (VK x):=by simp only[VK,Sh.good,Sh.fc,enc,List.forall_mem_cons,List.not_mem_nil,false_implies,implies_true,CK,D5,SzI.ok,maxLen] at *;grind
def UU (x:SNode):List ToI:=[⟨(.sl .attr),(szL AM),x.attrs⟩]
def YG (x:SNode) (z:(List SAttr)×Unit):SNode:=⟨x.name,x.text,x.parent,z.1⟩
theorem U8 (x:SNode) (h:szNode x≤1048576):D1 (UU x):=by simp only[szNode,UU,D1,and_true] at *<;>omega
def Qv (x y:SNode):List EqI:=[.s x.name y.name,.s x.text y.text,.i x.parent y.parent,.c (.sl .attr) inferInstance (szL AM) x.attrs y.attrs]
theorem Wo (x y:SNode):x=y↔B7 (Qv x y):=by cases x;cases y;simp[Qv,B7,EqI.tru]
theorem U3 (x y:SNode) (h:szNode x≤1125899906842624):D2 (Qv x y):=by simp only[szNode,Qv,D2,EqI.ok,and_true,true_and] at *<;>omega
def JD (x:SBuilder):List SzI:=[.c (.sl .node) (szL szNode) x.nodes,.c (.sl .int) List.length x.open_]
theorem OP (x:SBuilder) (h:Sh.good (.el .builder) x):D5 (JD x):=by simp only[JD,Sh.good,Sh.fc,enc,List.forall_mem_cons,List.not_mem_nil,false_implies,implies_true,CK,D5,SzI.ok,maxLen] at *;grind
def I6 (x:SBuilder):List ToI:=[⟨(.sl .node),(szL szNode),x.nodes⟩,⟨(.sl .int),List.length,x.open_⟩]
def Tz (x:SBuilder) (z:(List SNode)×(List Int)×Unit):SBuilder:=⟨z.1,z.2.1⟩
theorem O8 (x:SBuilder) (h:szBuilder x≤1048576):D1 (I6 x):=by simp only[szBuilder,I6,D1,and_true] at *<;>omega
def F3 (x y:SBuilder):List EqI:=[.c (.sl .node) inferInstance (szL szNode) x.nodes y.nodes,.c (.sl .int) inferInstance List.length x.open_ y.open_]
theorem Nx (x y:SBuilder):x=y↔B7 (F3 x y):=by cases x;cases y;simp[F3,B7,EqI.tru]
theorem OU (x y:SBuilder) (h:szBuilder x≤1125899906842624):D2 (F3 x y):=by simp only[szBuilder,F3,D2,EqI.ok,and_true,true_and] at *<;>omega
def Mi (x:SPolicy):List SzI:=[.c (.sl .str) (szL Ac) x.scripts,.c (.sl .str) (szL Ac) x.styles,.c (.sl .str) (szL Ac) x.images,.p x.nonce.size]
theorem Qj (x:SPolicy) (h:Sh.good (.el .policy) x):D5 (Mi x):=by simp only[Mi,Sh.good,Sh.fc,enc,List.forall_mem_cons,List.not_mem_nil,false_implies,implies_true,CK,D5,SzI.ok,maxLen] at *;grind
def LD (x:SPolicy):List ToI:=[⟨(.sl .str),(szL Ac),x.scripts⟩,⟨(.sl .str),(szL Ac),x.styles⟩,⟨(.sl .str),(szL Ac),x.images⟩]
def V6 (x:SPolicy) (z:(List ByteArray)×(List ByteArray)×(List ByteArray)×Unit):SPolicy:=⟨x.set_,z.1,z.2.1,z.2.2.1,x.nonce⟩
theorem Q2 (x:SPolicy) (h:szPolicy x≤1048576):D1 (LD x):=by simp only[szPolicy,LD,D1,and_true] at *<;>omega
def Hu (x y:SPolicy):List EqI:=[.b x.set_ y.set_,.c (.sl .str) inferInstance (szL Ac) x.scripts y.scripts,.c (.sl .str) inferInstance (szL Ac) x.styles y.styles,.c (.sl .str) inferInstance (szL Ac) x.images y.images,.s x.nonce y.nonce]
theorem Rh (x y:SPolicy):x=y↔B7 (Hu x y):=by cases x;cases y;simp[Hu,B7,EqI.tru]
theorem QK (x y:SPolicy) (h:szPolicy x≤1125899906842624):D2 (Hu x y):=by simp only[szPolicy,Hu,D2,EqI.ok,and_true,true_and] at *<;>omega
def HM (x:SResponse):List SzI:=[.p x.body.size,.p x.policy.size]
theorem MG (x:SResponse) (h:Sh.good (.el .response) x):D5 (HM x):=by simp only[HM,Sh.good,Sh.fc,enc,List.forall_mem_cons,List.not_mem_nil,false_implies,implies_true,CK,D5,SzI.ok,maxLen] at *;grind
def Ii (x:SResponse):List ToI:=[]
def Rr (x:SResponse) (z:Unit):SResponse:=⟨x.status,x.kind,x.body,x.age,x.shares,x.policy⟩
theorem Lf (x:SResponse) (h:Ax x≤1048576):D1 (Ii x):=by simp only[Ax,Ii,D1,and_true] at *<;>omega
def ET (x y:SResponse):List EqI:=[.i x.status y.status,.i x.kind y.kind,.s x.body y.body,.i x.age y.age,.b x.shares y.shares,.s x.policy y.policy]
theorem Lj (x y:SResponse):x=y↔B7 (ET x y):=by cases x;cases y;simp[ET,B7,EqI.tru]
theorem L2 (x y:SResponse) (h:Ax x≤1125899906842624):D2 (ET x y):=by simp only[Ax,ET,D2,EqI.ok,and_true,true_and] at *<;>omega
def Vy (x:SFile):List SzI:=[.p x.path.size,.c (.el .response) Ax x.response]
theorem Vn (x:SFile) (h:Sh.good (.el .file) x):D5 (Vy x):=by simp only[Vy,Sh.good,Sh.fc,enc,List.forall_mem_cons,List.not_mem_nil,false_implies,implies_true,CK,D5,SzI.ok,maxLen] at *;grind
def WS (x:SFile):List ToI:=[⟨(.el .response),Ax,x.response⟩]
def Yq (x:SFile) (z:SResponse×Unit):SFile:=⟨x.path,z.1⟩
theorem Vo (x:SFile) (h:Dj x≤1048576):D1 (WS x):=by simp only[Dj,WS,D1,and_true] at *<;>omega
def Qt (x y:SFile):List EqI:=[.s x.path y.path,.c (.el .response) inferInstance Ax x.response y.response]
theorem W2 (x y:SFile):x=y↔B7 (Qt x y):=by cases x;cases y;simp[Qt,B7,EqI.tru]
theorem Vq (x y:SFile) (h:Dj x≤1125899906842624):D2 (Qt x y):=by simp only[Dj,Qt,D2,EqI.ok,and_true,true_and] at *<;>omega
def Mp (x:SServer):List SzI:=[.p x.host.size,.c (.sl .file) (szL Dj) x.files]
theorem QP (x:SServer) (h:Sh.good (.el .server) x):D5 (Mp x):=by simp only[Mp,Sh.good,Sh.fc,enc,List.forall_mem_cons,List.not_mem_nil,false_implies,implies_true,CK,D5,SzI.ok,maxLen] at *;grind
def Ll (x:SServer):List ToI:=[⟨(.sl .file),(szL Dj),x.files⟩]
def Xb (x:SServer) (z:(List SFile)×Unit):SServer:=⟨x.host,z.1⟩
theorem PW (x:SServer) (h:A0 x≤1048576):D1 (Ll x):=by simp only[A0,Ll,D1,and_true] at *<;>omega
def Ig (x y:SServer):List EqI:=[.s x.host y.host,.c (.sl .file) inferInstance (szL Dj) x.files y.files]
theorem R4 (x y:SServer):x=y↔B7 (Ig x y):=by cases x;cases y;simp[Ig,B7,EqI.tru]
theorem Qb (x y:SServer) (h:A0 x≤1125899906842624):D2 (Ig x y):=by simp only[A0,Ig,D2,EqI.ok,and_true,true_and] at *<;>omega
def Qk (x:SEntry):List SzI:=[.p x.top.size,.c (.el .addr) szAddr x.to,.c (.el .response) Ax x.response]
theorem Up (x:SEntry) (h:Sh.good (.el .entry) x):D5 (Qk x):=by simp only[Qk,Sh.good,Sh.fc,enc,List.forall_mem_cons,List.not_mem_nil,false_implies,implies_true,CK,D5,SzI.ok,maxLen] at *;grind
def QA (x:SEntry):List ToI:=[⟨(.el .addr),szAddr,x.to⟩,⟨(.el .response),Ax,x.response⟩]
def X2 (x:SEntry) (z:SAddr×SResponse×Unit):SEntry:=⟨x.top,z.1,z.2.1,x.until_⟩
theorem Uf (x:SEntry) (h:Cv x≤1048576):D1 (QA x):=by simp only[Cv,QA,D1,and_true] at *<;>omega
def KV (x y:SEntry):List EqI:=[.s x.top y.top,.c (.el .addr) inferInstance szAddr x.to y.to,.c (.el .response) inferInstance Ax x.response y.response,.i x.until_ y.until_]
theorem SV (x y:SEntry):x=y↔B7 (KV x y):=by cases x;cases y;simp[KV,B7,EqI.tru]
theorem TT (x y:SEntry) (h:Cv x≤1125899906842624):D2 (KV x y):=by simp only[Cv,KV,D2,EqI.ok,and_true,true_and] at *<;>omega
def Qn (x:SCache):List SzI:=[.c (.sl .entry) (szL Cv) x.entries]
theorem Tj (x:SCache) (h:Sh.good (.el .cache) x):D5 (Qn x):=by simp only[Qn,Sh.good,Sh.fc,enc,List.forall_mem_cons,List.not_mem_nil,false_implies,implies_true,CK,D5,SzI.ok,maxLen] at *;grind
def PH (x:SCache):List ToI:=[⟨(.sl .entry),(szL Cv),x.entries⟩]
def XM (x:SCache) (z:(List SEntry)×Unit):SCache:=⟨z.1⟩
theorem SD (x:SCache) (h:szCache x≤1048576):D1 (PH x):=by simp only[szCache,PH,D1,and_true] at *<;>omega
def Kr (x y:SCache):List EqI:=[.c (.sl .entry) inferInstance (szL Cv) x.entries y.entries]
theorem Tg (x y:SCache):x=y↔B7 (Kr x y):=by cases x;cases y;simp[Kr,B7,EqI.tru]
theorem T8 (x y:SCache) (h:szCache x≤1125899906842624):D2 (Kr x y):=by simp only[szCache,Kr,D2,EqI.ok,and_true,true_and] at *<;>omega
def UQ (x:SSent):List SzI:=[.p x.top.size,.c (.el .addr) szAddr x.to]
theorem We (x:SSent) (h:Sh.good (.el .sent) x):D5 (UQ x):=by simp only[UQ,Sh.good,Sh.fc,enc,List.forall_mem_cons,List.not_mem_nil,false_implies,implies_true,CK,D5,SzI.ok,maxLen] at *;grind
def Ww (x:SSent):List ToI:=[⟨(.el .addr),szAddr,x.to⟩]
def Yz (x:SSent) (z:SAddr×Unit):SSent:=⟨x.top,z.1,x.guess⟩
theorem VZ (x:SSent) (h:Df x≤1048576):D1 (Ww x):=by simp only[Df,Ww,D1,and_true] at *<;>omega
def QV (x y:SSent):List EqI:=[.s x.top y.top,.c (.el .addr) inferInstance szAddr x.to y.to,.b x.guess y.guess]
theorem V9 (x y:SSent):x=y↔B7 (QV x y):=by cases x;cases y;simp[QV,B7,EqI.tru]
theorem VN (x y:SSent) (h:Df x≤1125899906842624):D2 (QV x y):=by simp only[Df,QV,D2,EqI.ok,and_true,true_and] at *<;>omega
def YQ (x:SNet):List SzI:=[.c (.sl .server) (szL A0) x.servers,.c (.el .cache) szCache x.cache,.c (.sl .sent) (szL Df) x.log]
theorem XP (x:SNet) (h:Sh.good (.el .net) x):D5 (YQ x):=by simp only[YQ,Sh.good,Sh.fc,enc,List.forall_mem_cons,List.not_mem_nil,false_implies,implies_true,CK,D5,SzI.ok,maxLen] at *;grind
def Yh (x:SNet):List ToI:=[⟨(.sl .server),(szL A0),x.servers⟩,⟨(.el .cache),szCache,x.cache⟩,⟨(.sl .sent),(szL Df),x.log⟩]
def Acn (x:SNet) (z:(List SServer)×SCache×(List SSent)×Unit):SNet:=⟨z.1,z.2.1,z.2.2.1,x.now⟩
theorem Xx (x:SNet) (h:szNet x≤1048576):D1 (Yh x):=by simp only[szNet,Yh,D1,and_true] at *<;>omega
def Xz (x y:SNet):List EqI:=[.c (.sl .server) inferInstance (szL A0) x.servers y.servers,.c (.el .cache) inferInstance szCache x.cache y.cache,.c (.sl .sent) inferInstance (szL Df) x.log y.log,.i x.now y.now]
theorem XZ (x y:SNet):x=y↔B7 (Xz x y):=by cases x;cases y;simp[Xz,B7,EqI.tru]
theorem Xm (x y:SNet) (h:szNet x≤1125899906842624):D2 (Xz x y):=by simp only[szNet,Xz,D2,EqI.ok,and_true,true_and] at *<;>omega
def UX (x:SSlot):List SzI:=[.c (.el .addr) szAddr x.to,.p x.digest.size,.p x.body.size]
theorem Wi (x:SSlot) (h:Sh.good (.el .slot) x):D5 (UX x):=by simp only[UX,Sh.good,Sh.fc,enc,List.forall_mem_cons,List.not_mem_nil,false_implies,implies_true,CK,D5,SzI.ok,maxLen] at *;grind
def W6 (x:SSlot):List ToI:=[⟨(.el .addr),szAddr,x.to⟩]
def YC (x:SSlot) (z:SAddr×Unit):SSlot:=⟨x.mode,z.1,x.digest,x.node,x.done,x.code,x.body⟩
theorem VM (x:SSlot) (h:AL x≤1048576):D1 (W6 x):=by simp only[AL,W6,D1,and_true] at *<;>omega
def Qg (x y:SSlot):List EqI:=[.i x.mode y.mode,.c (.el .addr) inferInstance szAddr x.to y.to,.s x.digest y.digest,.i x.node y.node,.b x.done y.done,.i x.code y.code,.s x.body y.body]
theorem U2 (x y:SSlot):x=y↔B7 (Qg x y):=by cases x;cases y;simp[Qg,B7,EqI.tru]
theorem Wy (x y:SSlot) (h:AL x≤1125899906842624):D2 (Qg x y):=by simp only[AL,Qg,D2,EqI.ok,and_true,true_and] at *<;>omega
def LC (x:SModule):List SzI:=[.c (.el .addr) szAddr x.to,.p x.body.size]
theorem PP (x:SModule) (h:Sh.good (.el .module) x):D5 (LC x):=by simp only[LC,Sh.good,Sh.fc,enc,List.forall_mem_cons,List.not_mem_nil,false_implies,implies_true,CK,D5,SzI.ok,maxLen] at *;grind
def L5 (x:SModule):List ToI:=[⟨(.el .addr),szAddr,x.to⟩]
def W8 (x:SModule) (z:SAddr×Unit):SModule:=⟨z.1,x.done,x.code,x.body⟩
theorem Rw (x:SModule) (h:Au x≤1048576):D1 (L5 x):=by simp only[Au,L5,D1,and_true] at *<;>omega
def H7 (x y:SModule):List EqI:=[.c (.el .addr) inferInstance szAddr x.to y.to,.b x.done y.done,.i x.code y.code,.s x.body y.body]
theorem Pm (x y:SModule):x=y↔B7 (H7 x y):=by cases x;cases y;simp[H7,B7,EqI.tru]
theorem QS (x y:SModule) (h:Au x≤1125899906842624):D2 (H7 x y):=by simp only[Au,H7,D2,EqI.ok,and_true,true_and] at *<;>omega
def U9 (x:SPage):List SzI:=[.c (.el .addr) szAddr x.addr,.c (.el .policy) szPolicy x.policy,.c (.el .tokenizer) AK x.tok,.c (.sl .token) (szL Af) x.queue,.c (.el .builder) szBuilder x.builder,.c (.sl .slot) (szL AL) x.slots,.c (.sl .module) (szL Au) x.mods,.c (.sl .addr) (szL szAddr) x.entries,.c (.sl .addr) (szL szAddr) x.ran,.c (.sl .str) (szL Ac) x.log]
theorem Wv (x:SPage) (h:Sh.good (.el .page) x):D5 (U9 x):=by simp only[U9,Sh.good,Sh.fc,enc,List.forall_mem_cons,List.not_mem_nil,false_implies,implies_true,CK,D5,SzI.ok,maxLen] at *;grind
def WJ (x:SPage):List ToI:=[⟨(.el .addr),szAddr,x.addr⟩,⟨(.el .policy),szPolicy,x.policy⟩,⟨(.el .tokenizer),AK,x.tok⟩,⟨(.sl .token),(szL Af),x.queue⟩,⟨(.el .builder),szBuilder,x.builder⟩,⟨(.sl .slot),(szL AL),x.slots⟩,⟨(.sl .module),(szL Au),x.mods⟩,⟨(.sl .addr),(szL szAddr),x.entries⟩,⟨(.sl .addr),(szL szAddr),x.ran⟩,⟨(.sl .str),(szL Ac),x.log⟩]
def Yk (x:SPage) (z:SAddr×SPolicy×STokenizer×(List SToken)×SBuilder×(List SSlot)×(List SModule)×(List SAddr)×(List SAddr)×(List ByteArray)×Unit):SPage:=⟨z.1,z.2.1,z.2.2.1,z.2.2.2.1,x.ended,z.2.2.2.2.1,z.2.2.2.2.2.1,z.2.2.2.2.2.2.1,z.2.2.2.2.2.2.2.1,x.block,x.inline,x.deferred,x.entered,z.2.2.2.2.2.2.2.2.1,z.2.2.2.2.2.2.2.2.2.1,x.loaded⟩
theorem Vz (x:SPage) (h:szPage x≤1048576):D1 (WJ x):=by simp only[szPage,WJ,D1,and_true] at *<;>omega
def QR (x y:SPage):List EqI:=[.c (.el .addr) inferInstance szAddr x.addr y.addr,.c (.el .policy) inferInstance szPolicy x.policy y.policy,.c (.el .tokenizer) inferInstance AK x.tok y.tok,.c (.sl .token) inferInstance (szL Af) x.queue y.queue,.b x.ended y.ended,.c (.el .builder) inferInstance szBuilder x.builder y.builder,.c (.sl .slot) inferInstance (szL AL) x.slots y.slots,.c (.sl .module) inferInstance (szL Au) x.mods y.mods,.c (.sl .addr) inferInstance (szL szAddr) x.entries y.entries,.i x.block y.block,.i x.inline y.inline,.i x.deferred y.deferred,.i x.entered y.entered,.c (.sl .addr) inferInstance (szL szAddr) x.ran y.ran,.c (.sl .str) inferInstance (szL Ac) x.log y.log,.b x.loaded y.loaded]
theorem V2 (x y:SPage):x=y↔B7 (QR x y):=by cases x;cases y;simp[QR,B7,EqI.tru]
theorem UL (x y:SPage) (h:szPage x≤1125899906842624):D2 (QR x y):=by simp only[szPage,QR,D2,EqI.ok,and_true,true_and] at *<;>omega
def R3 (x:SGuess):List SzI:=[.c (.el .addr) szAddr x.to,.c (.el .response) Ax x.response]
theorem T4 (x:SGuess) (h:Sh.good (.el .guess) x):D5 (R3 x):=by simp only[R3,Sh.good,Sh.fc,enc,List.forall_mem_cons,List.not_mem_nil,false_implies,implies_true,CK,D5,SzI.ok,maxLen] at *;grind
def RY (x:SGuess):List ToI:=[⟨(.el .addr),szAddr,x.to⟩,⟨(.el .response),Ax,x.response⟩]
def XT (x:SGuess) (z:SAddr×SResponse×Unit):SGuess:=⟨z.1,z.2.1,x.used⟩
theorem Uj (x:SGuess) (h:CC x≤1048576):D1 (RY x):=by simp only[CC,RY,D1,and_true] at *<;>omega
def KA (x y:SGuess):List EqI:=[.c (.el .addr) inferInstance szAddr x.to y.to,.c (.el .response) inferInstance Ax x.response y.response,.b x.used y.used]
theorem ST (x y:SGuess):x=y↔B7 (KA x y):=by cases x;cases y;simp[KA,B7,EqI.tru]
theorem TP (x y:SGuess) (h:CC x≤1125899906842624):D2 (KA x y):=by simp only[CC,KA,D2,EqI.ok,and_true,true_and] at *<;>omega
def Xf (x:SConn):List SzI:=[.c (.el .addr) szAddr x.to,.c (.el .response) Ax x.response]
theorem Wq (x:SConn) (h:Sh.good (.el .conn) x):D5 (Xf x):=by simp only[Xf,Sh.good,Sh.fc,enc,List.forall_mem_cons,List.not_mem_nil,false_implies,implies_true,CK,D5,SzI.ok,maxLen] at *;grind
def VP (x:SConn):List ToI:=[⟨(.el .addr),szAddr,x.to⟩,⟨(.el .response),Ax,x.response⟩]
def Yx (x:SConn) (z:SAddr×SResponse×Unit):SConn:=⟨z.1,x.left,x.guess,z.2.1⟩
theorem UJ (x:SConn) (h:Dk x≤1048576):D1 (VP x):=by simp only[Dk,VP,D1,and_true] at *<;>omega
def Ps (x y:SConn):List EqI:=[.c (.el .addr) inferInstance szAddr x.to y.to,.i x.left y.left,.b x.guess y.guess,.c (.el .response) inferInstance Ax x.response y.response]
theorem Wu (x y:SConn):x=y↔B7 (Ps x y):=by cases x;cases y;simp[Ps,B7,EqI.tru]
theorem UN (x y:SConn) (h:Dk x≤1125899906842624):D2 (Ps x y):=by simp only[Dk,Ps,D2,EqI.ok,and_true,true_and] at *<;>omega
def Lr (x:SLoader):List SzI:=[.c (.el .net) szNet x.net,.c (.el .page) szPage x.page,.c (.sl .str) (szL Ac) x.parts,.c (.sl .conn) (szL Dk) x.conns,.c (.sl .guess) (szL CC) x.guesses]
theorem QH (x:SLoader) (h:Sh.good (.el .loader) x):D5 (Lr x):=by simp only[Lr,Sh.good,Sh.fc,enc,List.forall_mem_cons,List.not_mem_nil,false_implies,implies_true,CK,D5,SzI.ok,maxLen] at *;grind
def Mm (x:SLoader):List ToI:=[⟨(.el .net),szNet,x.net⟩,⟨(.el .page),szPage,x.page⟩,⟨(.sl .str),(szL Ac),x.parts⟩,⟨(.sl .conn),(szL Dk),x.conns⟩,⟨(.sl .guess),(szL CC),x.guesses⟩]
def WP (x:SLoader) (z:SNet×SPage×(List ByteArray)×(List SConn)×(List SGuess)×Unit):SLoader:=⟨z.1,z.2.1,z.2.2.1,z.2.2.2.1,z.2.2.2.2.1⟩
theorem Pt (x:SLoader) (h:CO x≤1048576):D1 (Mm x):=by simp only[CO,Mm,D1,and_true] at *<;>omega
def H6 (x y:SLoader):List EqI:=[.c (.el .net) inferInstance szNet x.net y.net,.c (.el .page) inferInstance szPage x.page y.page,.c (.sl .str) inferInstance (szL Ac) x.parts y.parts,.c (.sl .conn) inferInstance (szL Dk) x.conns y.conns,.c (.sl .guess) inferInstance (szL CC) x.guesses y.guesses]
theorem Rn (x y:SLoader):x=y↔B7 (H6 x y):=by cases x;cases y;simp[H6,B7,EqI.tru]
theorem Pv (x y:SLoader) (h:CO x≤1125899906842624):D2 (H6 x y):=by simp only[CO,H6,D2,EqI.ok,and_true,true_and] at *<;>omega
def Ed:Fct:=szF (.sl .str) (szL Ac)
def GD:Fct:=toF (.sl .str) (szL Ac)
def Ea:Fct:=eqF (.sl .str) (szL Ac)
def Kh:MS:=mkF (.sl .str) (Ai DS)
def KU:Fct:=heF (.sl .str) (Ai DS)
def I1:Fct:=szF (.sl .int) List.length
def LB:Fct:=toF (.sl .int) List.length
def Ik:Fct:=eqF (.sl .int) List.length
def QE:MS:=mkF (.sl .int) (Ai SB)
def RT:Fct:=heF (.sl .int) (Ai SB)
def Tu:Fct:=szF (.sl .addr) (szL szAddr)
def Se:Fct:=toF (.sl .addr) (szL szAddr)
def TX:Fct:=eqF (.sl .addr) (szL szAddr)
def OZ:MS:=mkF (.sl .addr) (Ai Ky)
def OL:Fct:=heF (.sl .addr) (Ai Ky)
def Wr:Fct:=szF (.el .addr) szAddr
def Xd:Fct:=toF (.el .addr) szAddr
def V3:Fct:=eqF (.el .addr) szAddr
def TU:Fct:=szF (.sl .attr) (szL AM)
def SP:Fct:=toF (.sl .attr) (szL AM)
def Sq:Fct:=eqF (.sl .attr) (szL AM)
def OQ:MS:=mkF (.sl .attr) (Ai KF)
def Ol:Fct:=heF (.sl .attr) (Ai KF)
def Xe:Fct:=szF (.el .attr) AM
def UT:Fct:=toF (.el .attr) AM
def WM:Fct:=eqF (.el .attr) AM
def Qw:Fct:=szF (.sl .token) (szL Af)
def RF:Fct:=toF (.sl .token) (szL Af)
def Qm:Fct:=eqF (.sl .token) (szL Af)
def LV:MS:=mkF (.sl .token) (Ai Jr)
def Ml:Fct:=heF (.sl .token) (Ai Jr)
def Te:Fct:=szF (.el .token) Af
def S6:Fct:=toF (.el .token) Af
def Uk:Fct:=eqF (.el .token) Af
def Ko:Fct:=szF (.el .tokenizer) AK
def J9:Fct:=toF (.el .tokenizer) AK
def KX:Fct:=eqF (.el .tokenizer) AK
def So:Fct:=szF (.sl .node) (szL szNode)
def SX:Fct:=toF (.sl .node) (szL szNode)
def SA:Fct:=eqF (.sl .node) (szL szNode)
def OI:MS:=mkF (.sl .node) (Ai Nj)
def NH:Fct:=heF (.sl .node) (Ai Nj)
def Wm:Fct:=szF (.el .node) szNode
def V4:Fct:=toF (.el .node) szNode
def VQ:Fct:=eqF (.el .node) szNode
def OM:Fct:=szF (.el .builder) szBuilder
def NO:Fct:=toF (.el .builder) szBuilder
def Oe:Fct:=eqF (.el .builder) szBuilder
def KG:MS:=mkF (.el .builder) Gm
def J8:Fct:=heF (.el .builder) Gm
def P8:Fct:=szF (.el .policy) szPolicy
def Rc:Fct:=toF (.el .policy) szPolicy
def Rf:Fct:=eqF (.el .policy) szPolicy
def LK:MS:=mkF (.el .policy) Hk
def Mg:Fct:=heF (.el .policy) Hk
def L1:Fct:=szF (.el .response) Ax
def L6:Fct:=toF (.el .response) Ax
def K6:Fct:=eqF (.el .response) Ax
def SU:Fct:=szF (.sl .file) (szL Dj)
def Su:Fct:=toF (.sl .file) (szL Dj)
def Uo:Fct:=eqF (.sl .file) (szL Dj)
def O3:MS:=mkF (.sl .file) (Ai M5)
def ND:Fct:=heF (.sl .file) (Ai M5)
def WB:Fct:=szF (.el .file) Dj
def WW:Fct:=toF (.el .file) Dj
def WA:Fct:=eqF (.el .file) Dj
def OT:Fct:=szF (.sl .server) (szL A0)
def NF:Fct:=toF (.sl .server) (szL A0)
def NV:Fct:=eqF (.sl .server) (szL A0)
def J0:MS:=mkF (.sl .server) (Ai Hd)
def Km:Fct:=heF (.sl .server) (Ai Hd)
def PM:Fct:=szF (.el .server) A0
def Qq:Fct:=toF (.el .server) A0
def QT:Fct:=eqF (.el .server) A0
def RW:Fct:=szF (.sl .entry) (szL Cv)
def Qy:Fct:=toF (.sl .entry) (szL Cv)
def Qc:Fct:=eqF (.sl .entry) (szL Cv)
def LL:MS:=mkF (.sl .entry) (Ai I2)
def MD:Fct:=heF (.sl .entry) (Ai I2)
def Um:Fct:=szF (.el .entry) Cv
def Sa:Fct:=toF (.el .entry) Cv
def SO:Fct:=eqF (.el .entry) Cv
def SW:Fct:=szF (.el .cache) szCache
def Tl:Fct:=toF (.el .cache) szCache
def T1:Fct:=eqF (.el .cache) szCache
def OX:MS:=mkF (.el .cache) Jo
def NB:Fct:=heF (.el .cache) Jo
def TH:Fct:=szF (.sl .sent) (szL Df)
def TF:Fct:=toF (.sl .sent) (szL Df)
def TY:Fct:=eqF (.sl .sent) (szL Df)
def Oi:MS:=mkF (.sl .sent) (Ai Nt)
def NE:Fct:=heF (.sl .sent) (Ai Nt)
def Vg:Fct:=szF (.el .sent) Df
def U4:Fct:=toF (.el .sent) Df
def U7:Fct:=eqF (.el .sent) Df
def XV:Fct:=szF (.el .net) szNet
def Xv:Fct:=toF (.el .net) szNet
def Xy:Fct:=eqF (.el .net) szNet
def Sz:MS:=mkF (.el .net) S3
def TZ:Fct:=heF (.el .net) S3
def Uh:Fct:=szF (.sl .slot) (szL AL)
def TM:Fct:=toF (.sl .slot) (szL AL)
def T2:Fct:=eqF (.sl .slot) (szL AL)
def Oj:MS:=mkF (.sl .slot) (Ai Nd)
def Ou:Fct:=heF (.sl .slot) (Ai Nd)
def WF:Fct:=szF (.el .slot) AL
def UP:Fct:=toF (.el .slot) AL
def VF:Fct:=eqF (.el .slot) AL
def OY:Fct:=szF (.sl .module) (szL Au)
def NQ:Fct:=toF (.sl .module) (szL Au)
def OW:Fct:=eqF (.sl .module) (szL Au)
def Ki:MS:=mkF (.sl .module) (Ai Hh)
def KY:Fct:=heF (.sl .module) (Ai Hh)
def RM:Fct:=szF (.el .module) Au
def Ru:Fct:=toF (.el .module) Au
def P7:Fct:=eqF (.el .module) Au
def VH:Fct:=szF (.el .page) szPage
def Vv:Fct:=toF (.el .page) szPage
def US:Fct:=eqF (.el .page) szPage
def Ph:MS:=mkF (.el .page) Nu
def PL:Fct:=heF (.el .page) Nu
def QF:Fct:=szF (.sl .guess) (szL CC)
def Pw:Fct:=toF (.sl .guess) (szL CC)
def RK:Fct:=eqF (.sl .guess) (szL CC)
def L3:MS:=mkF (.sl .guess) (Ai JP)
def MC:Fct:=heF (.sl .guess) (Ai JP)
def Ud:Fct:=szF (.el .guess) CC
def S8:Fct:=toF (.el .guess) CC
def SN:Fct:=eqF (.el .guess) CC
def TN:Fct:=szF (.sl .conn) (szL Dk)
def SH:Fct:=toF (.sl .conn) (szL Dk)
def T3:Fct:=eqF (.sl .conn) (szL Dk)
def N0:MS:=mkF (.sl .conn) (Ai M9)
def N4:Fct:=heF (.sl .conn) (Ai M9)
def Wd:Fct:=szF (.el .conn) Dk
def WG:Fct:=toF (.el .conn) Dk
def Wp:Fct:=eqF (.el .conn) Dk
def Ih:Fct:=szF (.el .loader) CO
def Eb:Fct:=toF (.el .loader) CO
def Ek:Fct:=eqF (.el .loader) CO
def Do:MS:=mkF (.el .loader) Bw
def Er:Fct:=heF (.el .loader) Bw
end Go.D
namespace Go.D
theorem AbQ:(∀ x:SToken,(⟨x.kind,x.name,x.attrs,x.text⟩:SToken)=x)∧(∀ x:SNode,(⟨x.name,x.text,x.parent,x.attrs⟩:SNode)=x)∧(∀ x:SBuilder,(⟨x.nodes,x.open_⟩:SBuilder)=x)∧(∀ x:SPolicy,(⟨x.set_,x.scripts,x.styles,x.images,x.nonce⟩:SPolicy)=x)∧(∀ x:SPage,(⟨x.addr,x.policy,x.tok,x.queue,x.ended,x.builder,x.slots,x.mods,x.entries,x.block,x.inline,x.deferred,x.entered,x.ran,x.log,x.loaded⟩:SPage)=x)∧(∀ x:SVisit,(⟨x.addr,x.page,x.kept⟩:SVisit)=x)∧(∀ x:STab,(⟨x.visits,x.at_⟩:STab)=x)∧(∀ x:SServer,(⟨x.host,x.files⟩:SServer)=x)∧(∀ x:SCache,(⟨x.entries⟩:SCache)=x)∧(∀ x:SNet,(⟨x.servers,x.cache,x.log,x.now⟩:SNet)=x)∧(∀ x:SLoader,(⟨x.net,x.page,x.parts,x.conns,x.guesses⟩:SLoader)=x)∧(∀ x:SSheet,(⟨x.rules⟩:SSheet)=x)∧(∀ x:SResult,(⟨x.builder,x.log,x.verdicts,x.sheet,x.loaded⟩:SResult)=x)∧(∀ x:SSlot,(⟨x.mode,x.to,x.digest,x.node,x.done,x.code,x.body⟩:SSlot)=x)∧(∀ x:SModule,(⟨x.to,x.done,x.code,x.body⟩:SModule)=x)∧(∀ x:SAddr,(⟨x.host,x.path⟩:SAddr)=x)∧(∀ x:SRequest,(⟨x.kind,x.to,x.from_,x.digest⟩:SRequest)=x)∧(∀ x:SResponse,(⟨x.status,x.kind,x.body,x.age,x.shares,x.policy⟩:SResponse)=x)∧(∀ x:SConn,(⟨x.to,x.left,x.guess,x.response⟩:SConn)=x)∧(∀ x:SGuess,(⟨x.to,x.response,x.used⟩:SGuess)=x)∧(∀ x:SEntry,(⟨x.top,x.to,x.response,x.until_⟩:SEntry)=x)∧(∀ x:SSent,(⟨x.top,x.to,x.guess⟩:SSent)=x)∧(∀ x:SFile,(⟨x.path,x.response⟩:SFile)=x) :=
 ⟨Ta,Wk,OS,RZ,V5,SL,Xr,P9,SF,XN,RS,SI,RV,U5,PR,VS,N1,Mr,Vm,SS,SZ,WK,Vi⟩
theorem std:(type_of% @AbQ)∧(type_of% @Xk)∧(type_of% @X6)∧∀ {α:Type} (a b:α),(a≠b) = ¬a=b:=⟨AbQ,Xk,X6,fun _ _=>rfl⟩
def KP (a b:List Nat):List Nat:=a++(b++b.map (· + 1000000))
def lv:List (Nat×LInv)→Pa
 | [],_=>none
 | (m,x)::r,n=>bif n==m then some x else lv r n
theorem Fct.p {S:Fct} {P:Program} {E:Env} {f:Nat} {fn:Func} (kp:List Nat) (L:As S.as→Pa) (hE:EOk P E) (hf:P.funcs[f]? = some fn)
 (hh:∀ x,S.pre x→HoldsE (D8 P E (L x) kp [] fn (S.arg x)) (S.ctr x).post) (hc:(fn.body.isSome&&decide (S.as.length≤fn.ntmps))=true:=by kernel_rfl):S.ok P f:=by
 rw[Bool.and_eq_true] at hc
 exact Fct.of (L:=L) hE hf hc.1 hc.2 hh
end Go.D
namespace Go.D
set_option linter.unusedSectionVars false
section
variable {α:Type} [DecidableEq α] [Inhabited α]
def Rt:List α→List α
 | []=>[]
 | [a]=>[a]
 | a::b::l=>if a=b then Rt (b::l) else a::Rt (b::l)
structure CompInv (s d:List α) (k0 k k2:Int):Prop where
 c2:1≤k2
 c0:1≤k0
 le:k0+k2≤s.length
 lo:k0≤k
 hi:k<k0+k2
 len:d.length=s.length
 dr:d.drop k.toNat=s.drop k.toNat
 tk:d.take k.toNat=Rt (s.take (k0+k2).toNat)
theorem G7 {s d:List α} {k i:Nat} (h:d.drop k=s.drop k) (hi:k≤i):d.getD i default=s.getD i default:=by
 have h1:(d.drop k)[i-k]? = (s.drop k)[i-k]?:=by rw[h]
 simp only[List.getElem?_drop,show k+(i-k)=i by omega] at h1
 simp[List.getD_eq_getElem?_getD,h1]
theorem CompInv.at_ {s d:List α} {k0 k k2:Int} (h:CompInv s d k0 k k2) (hlt:k0+k2<s.length) :
 d.getD (k0.toNat+k2.toNat) default=s.getD (k0+k2).toNat default∧d.getD (k0.toNat+(k2-1).toNat) default=s.getD ((k0+k2).toNat-1) default:=by
 obtain⟨a,b,c,e,f,g,i,j⟩:=h
 refine⟨?_,?_⟩
 ·rw[G7 i (by omega)];congr 1;omega
 ·rw[G7 i (by omega)];congr 1;omega
end
end Go.D
namespace Go.D
open Go.Lib Go.Sort
def SM (a b:ByteArray):Int:=compareBytes a.data.toList b.data.toList
theorem Th:∀ l m:List UInt8,compareBytes l m = -1∨compareBytes l m=0∨compareBytes l m=1:=by
 intro l
 induction l with
 | nil=>intro m;cases m<;>simp[compareBytes]
 | cons a l ih=>
  intro m
  cases m with
  | nil=>simp[compareBytes]
  | cons b m=>
   simp only[compareBytes]
   split
   ·simp
   ·split
    ·simp
    ·exact ih m
theorem XG:∀ {l m:List UInt8},compareBytes l m=0↔l=m:=by
 intro l
 induction l with
 | nil=>intro m;cases m<;>simp[compareBytes]
 | cons a l ih=>
  intro m
  cases m with
  | nil=>simp[compareBytes]
  | cons b m=>
   simp only[compareBytes,List.cons.injEq]
   split
   ·rename_i h;simp;intro e;subst e;exact absurd h (UInt8.lt_irrefl _)
   ·split
    ·rename_i h;simp;intro e;subst e;exact absurd h (UInt8.lt_irrefl _)
    ·rename_i h1 h2
     have e:a=b:=UInt8.le_antisymm (UInt8.not_lt.1 h2) (UInt8.not_lt.1 h1)
     simp[e,ih]
theorem Ws:∀ {l m:List UInt8},Op.bytesLess l m=decide (compareBytes l m<0):=by
 intro l
 induction l with
 | nil=>intro m;cases m<;>simp[Op.bytesLess,compareBytes]
 | cons a l ih=>
  intro m
  cases m with
  | nil=>simp[Op.bytesLess,compareBytes]
  | cons b m=>
   simp only[Op.bytesLess,compareBytes,ih]
   by_cases h1:a<b
   ·simp[h1]
   ·by_cases h2:b<a
    ·have:¬ a=b:=fun e=>UInt8.lt_irrefl _ (e▸h2)
     simp[h1,h2,this]
    ·have e:a=b:=UInt8.le_antisymm (UInt8.not_lt.1 h2) (UInt8.not_lt.1 h1)
     simp[e,UInt8.lt_irrefl]
theorem Rb (a b:ByteArray):Op.bytesLess a.toList b.toList=decide (SM a b<0):=by
 rw[Ws,Lib.toList_data,Lib.toList_data];rfl
theorem X3 {a b:ByteArray} (h:a.data.toList=b.data.toList):a=b:=by
 cases a;cases b;simpa using Array.toList_inj.1 h
theorem Io {a b:ByteArray}:SM a b=0↔a=b:=⟨fun h=>X3 (XG.1 h),fun h=>XG.2 (by rw[h])⟩
theorem GP (a b:ByteArray):SM a b = -1∨SM a b=0∨SM a b=1:=Th _ _
def fCmpStr:Fct:=⟨[aT,aT],[rI],fun _=>True,fun x=>(SM x.1 x.2.1,())⟩
def cmpA (a b:SAddr):Int:=if SM a.host b.host=0 then SM a.path b.path else SM a.host b.host
theorem NZ (a b:SAddr):cmpA a b = -1∨cmpA a b=0∨cmpA a b=1:=by unfold cmpA;split<;>exact GP _ _
theorem VB {a b:SAddr}:cmpA a b=0↔a=b:=by
 obtain⟨h,p⟩:=a;obtain⟨h',p'⟩:=b
 simp only[cmpA,SAddr.mk.injEq]
 split
 ·rename_i e;rw[Io,Io.1 e];simp
 ·rename_i e;constructor
  ·intro h;exact absurd h e
  ·rintro⟨rfl,_⟩;exact absurd (Io.2 rfl) e
end Go.D
namespace Go.D
def FU (n:Int):ByteArray:=⟨(Lib.itoa n).toArray⟩
def TW (k:Nat) (s:ByteArray):ByteArray:=if k=0 then s else⟨(Lib.decDigits k).toArray⟩++s
theorem DZ {k:Nat} (h:10≤k):Lib.decDigits k=Lib.decDigits (k / 10)++[UInt8.ofNat (48+k % 10)]:=by
 rw[Lib.decDigits,dif_neg (by omega)]
theorem C6 {k:Nat} (h:k<10):Lib.decDigits k=[UInt8.ofNat (48+k)]:=by
 rw[Lib.decDigits,dif_pos h]
theorem J4 {k:Nat} {s:ByteArray} (h:0<k):TW k s=TW (k / 10) (⟨#[UInt8.ofNat (48+k % 10)]⟩++s):=by
 unfold TW
 rw[if_neg (by omega)]
 by_cases h1:k<10
 ·rw[if_pos (by omega),C6 h1,Nat.mod_eq_of_lt h1]
 ·rw[if_neg (by omega),DZ (by omega)]
  rw[←ByteArray.append_assoc]
  congr 1
theorem QB:FU 0=⟨#[48]⟩:=by
 unfold FU Lib.itoa
 rw[if_neg (by omega),C6 (by decide)]
 rfl
theorem Tf {n:Int} (h:n<0):FU n=⟨#[45]⟩++TW n.natAbs ⟨#[]⟩:=by
 unfold FU Lib.itoa TW
 rw[if_pos h,if_neg (by omega)]
 apply ByteArray.ext
 simp
theorem TC {n:Int} (h:0<n):FU n=TW n.natAbs ⟨#[]⟩:=by
 unfold FU Lib.itoa TW
 rw[if_neg (by omega),if_neg (by omega),show n.toNat=n.natAbs by omega]
 apply ByteArray.ext
 simp
theorem DL:∀ (f k:Nat),k<10 ^ (f+1)→(Lib.decDigits k).length≤f+1
 | 0,k,h=>by rw[C6 (by omega)];simp
 | f+1,k,h=>by
  by_cases h1:k<10
  ·rw[C6 h1];simp
  ·rw[DZ (by omega),List.length_append]
   have:=DL f (k / 10) (by rw[Nat.pow_succ] at h;omega)
   simp only[List.length_cons,List.length_nil];omega
theorem F2 {n:Int} (h0 : -9223372036854775808≤n) (h1:n≤9223372036854775807):(FU n).size≤20:=by
 have e:(FU n).size=(Lib.itoa n).length:=by simp[FU,ByteArray.size]
 rw[e]
 unfold Lib.itoa
 split
 ·have:=DL 18 n.natAbs (by omega)
  simp only[List.length_cons];omega
 ·have:=DL 18 n.toNat (by omega)
  omega
theorem Sy (x:Int):(if x.tmod 10<0 then 0-x.tmod 10 else x.tmod 10)=((x.natAbs % 10:Nat):Int):=by
 have h1:(x.tmod 10).natAbs=x.natAbs % 10:=Int.natAbs_tmod x 10
 split<;>omega
theorem R9 (x:Int):(x.tdiv 10).natAbs=x.natAbs / 10:=Int.natAbs_tdiv x 10
theorem Zb {k:Nat} (h:k<10):IntKind.u8.wrap (IntKind.i64.wrap (48+(k:Int)))=((48+k:Nat):Int):=by
 have e:IntKind.i64.wrap (48+(k:Int))=48+(k:Int):=Ao (by omega)
 rw[e]
 simp only[IntKind.wrap,IntKind.bits,IntKind.signed,Bool.false_and,Bool.false_eq_true,if_false]
 have:(2 ^ 8:Int)=256:=rfl
 omega
theorem Rp {k:Nat} (h:k<10):List.foldl (fun(r:ByteArray) (n:Int)=>r.push (UInt8.ofNat n.toNat)) ByteArray.empty [((48+k:Nat):Int)]=⟨#[UInt8.ofNat (48+k)]⟩:=by
 simp only[List.foldl,Int.toNat_natCast]
 rfl
end Go.D
namespace Go.D
def Iq (b:UInt8):List UInt8→List (List UInt8)
 | []=>[[]]
 | x::l=>if x=b then[]::Iq b l else match Iq b l with
  | []=>[[x]]
  | h::t=>(x::h)::t
theorem FB (b:UInt8) (l:List UInt8):Iq b l≠[]:=by
 cases l with
 | nil=>simp[Iq]
 | cons x l=>
  unfold Iq
  split
  ·simp
  ·split<;>simp
def HJ (p:List UInt8):List (List UInt8)→List (List UInt8)
 | []=>[p]
 | h::t=>(p++h)::t
theorem KS {l:List (List UInt8)} (h:l≠[]):HJ [] l=l:=by
 cases l with
 | nil=>exact absurd rfl h
 | cons x l=>rfl
theorem Ep (b x:UInt8) (l:List UInt8):Iq b (x::l)=if x=b then[]::Iq b l else HJ [x] (Iq b l):=by
 rw[Iq]
 split
 ·rfl
 ·have:=FB b l
  cases h:Iq b l with
  | nil=>exact absurd h this
  | cons y t=>rfl
theorem LH (p q:List UInt8) {l:List (List UInt8)} (h:l≠[]):HJ p (HJ q l)=HJ (p++q) l:=by
 cases l with
 | nil=>exact absurd rfl h
 | cons x l=>simp[HJ]
theorem IC (p h:List UInt8) (t:List (List UInt8)):HJ p (h::t)=(p++h)::t:=rfl
theorem JM (b:UInt8):∀ l:List UInt8,(Iq b l).length≤l.length+1∧∀ p∈Iq b l,p.length≤l.length
 | []=>by simp[Iq]
 | x::l=>by
  obtain⟨h1,h2⟩:=JM b l
  rw[Ep]
  split
  ·refine⟨by simp only[List.length_cons];omega,fun p hp=>?_⟩
   rcases List.mem_cons.1 hp with rfl|hp
   ·simp
   ·have:=h2 p hp;simp only[List.length_cons];omega
  ·cases h:Iq b l with
   | nil=>exact absurd h (FB b l)
   | cons y t=>
    rw[h] at h1 h2
    refine⟨by simp only[HJ,List.length_cons] at h1 ⊢;omega,fun p hp=>?_⟩
    simp only[HJ,List.mem_cons] at hp
    rcases hp with rfl|hp
    ·have:=h2 y List.mem_cons_self;simp only[List.length_append,List.length_cons,List.length_nil];omega
    ·have:=h2 p (List.mem_cons_of_mem _ hp);simp only[List.length_cons];omega
def ofL (l:List UInt8):ByteArray:=⟨l.toArray⟩
def toL (s:ByteArray):List UInt8:=s.data.toList
theorem CS (s:ByteArray):ofL (toL s)=s:=by simp[ofL,toL]
theorem Gw (l:List UInt8):toL (ofL l)=l:=by simp[ofL,toL]
theorem Bh (s:ByteArray):(toL s).length=s.size:=rfl
theorem DU (l:List UInt8):(ofL l).size=l.length:=by simp[ofL,ByteArray.size]
theorem OK (s t:ByteArray):toL (s++t)=toL s++toL t:=by simp[toL]
theorem Fo (l m:List UInt8):ofL (l++m)=ofL l++ofL m:=by
 apply ByteArray.ext;simp[ofL]
theorem AO (s:ByteArray) (a b:Nat):toL (s.extract a b)=((toL s).take b).drop a:=by
 simp[toL,List.drop_take]
def spl (b:UInt8) (s:ByteArray):List ByteArray:=(Iq b (toL s)).map ofL
def Gy (b:UInt8) (s:ByteArray) (a i:Nat):List ByteArray:=if i≤s.size then(HJ (((toL s).take i).drop a) (Iq b ((toL s).drop i))).map ofL else[]
theorem N2 (b:UInt8) (s:ByteArray):Gy b s 0 0=spl b s:=by
 unfold Gy spl
 rw[if_pos (Nat.zero_le _)]
 simp[KS (FB b _)]
theorem Kc (b:UInt8) {s:ByteArray} {a i:Nat} (h:s.size<i):Gy b s a i=[]:=by
 unfold Gy;rw[if_neg (by omega)]
theorem O4 (b:UInt8) {s:ByteArray} {a i:Nat} (h:i=s.size):Gy b s a i=[s.extract a i]:=by
 subst h
 unfold Gy
 rw[if_pos (Nat.le_refl _),List.drop_of_length_le (l:=toL s) (i:=s.size) (by rw[Bh];exact Nat.le_refl _)]
 rw[Iq,IC,List.append_nil,List.map_cons,←AO,CS];rfl
theorem Fq {s:ByteArray} {i:Nat} (h:i<s.size):(toL s).drop i=s.data.getD i 0::(toL s).drop (i+1):=by
 have h2:i<s.data.size:=h
 have e:s.data.getD i 0=s.data[i]:=by unfold Array.getD;rw[dif_pos h2];rfl
 rw[List.drop_eq_getElem_cons (by rw[Bh];exact h),e]
 rfl
theorem QG {b:UInt8} {s:ByteArray} {a i:Nat} (h:i<s.size) (hb:s.data.getD i 0=b):Gy b s a i=s.extract a i::Gy b s (i+1) (i+1):=by
 unfold Gy
 rw[if_pos (by omega),if_pos (by omega),Fq h,Ep,if_pos hb]
 rw[IC,List.append_nil,List.map_cons,←AO,CS,List.drop_of_length_le (l:=(toL s).take (i+1)) (i:=i+1) (by rw[List.length_take];omega),KS (FB b _)]
theorem Oh {b:UInt8} {s:ByteArray} {a i:Nat} (h:i<s.size) (ha:a≤i) (hb:s.data.getD i 0≠b):Gy b s a i=Gy b s a (i+1):=by
 unfold Gy
 rw[if_pos (by omega),if_pos (by omega),Fq h,Ep,if_neg hb,LH _ _ (FB b _)]
 congr 2
 have:(toL s).take (i+1)=(toL s).take i++[s.data.getD i 0]:=by
  have h2:i<s.data.size:=h
  have e:s.data.getD i 0=s.data[i]:=by unfold Array.getD;rw[dif_pos h2];rfl
  rw[List.take_succ_eq_append_getElem (by rw[Bh];exact h),e]
  rfl
 rw[this,List.drop_append_of_le_length (by rw[List.length_take,Bh];omega)]
theorem Nr (b:UInt8):∀ l:List UInt8,((Iq b l).map fun p=>p.length+1).sum=l.length+1
 | []=>rfl
 | x::l=>by
  have h:=Nr b l
  rw[Ep]
  split
  ·simp only[List.map_cons,List.sum_cons,List.length_nil,List.length_cons,h];omega
  ·cases hq:Iq b l with
   | nil=>exact absurd hq (FB b l)
   | cons y t=>
    rw[hq] at h
    simp only[List.map_cons,List.sum_cons,HJ,List.length_append,List.length_cons,List.length_nil] at h ⊢
    omega
theorem DM (b:UInt8) (s:ByteArray):0<(spl b s).length∧(spl b s).length≤s.size+1:=by
 have h:=JM b (toL s)
 have h2:=FB b (toL s)
 rw[Bh] at h
 unfold spl
 rw[List.length_map]
 exact⟨List.length_pos_iff.2 h2,h.1⟩
theorem FL {b:UInt8} {s x:ByteArray} (h:x∈spl b s):x.size≤s.size:=by
 unfold spl at h
 obtain⟨p,hp,rfl⟩:=List.mem_map.1 h
 rw[DU]
 exact(JM b (toL s)).2 p hp
def Dt (b:UInt8):List UInt8→Option (List UInt8×List UInt8)
 | []=>none
 | x::l=>if x=b then some ([],l) else(Dt b l).map fun r=>(x::r.1,r.2)
theorem Hy {b:UInt8}:∀ {l:List UInt8},b∉l→Dt b l=none
 | [],_=>rfl
 | x::l,h=>by
  simp only[List.mem_cons,not_or] at h
  rw[Dt,if_neg (fun e=>h.1 e.symm),Hy h.2];rfl
theorem I9 {b:UInt8}:∀ {p:List UInt8} (l:List UInt8),b∉p→Dt b (p++b::l)=some (p,l)
 | [],l,_=>by rw[List.nil_append,Dt,if_pos rfl]
 | x::p,l,h=>by
  simp only[List.mem_cons,not_or] at h
  rw[List.cons_append,Dt,if_neg (fun e=>h.1 e.symm),I9 l h.2];rfl
theorem Qh {b:UInt8} {s:ByteArray} {i:Nat} (h:i<s.size) (hb:s.data.getD i 0=b) (hn:b∉(toL s).take i):Dt b (toL s)=some ((toL s).take i,(toL s).drop (i+1)):=by
 have e:toL s=(toL s).take i++b::(toL s).drop (i+1):=by
  rw[←hb,←Fq h,List.take_append_drop]
 rw[e,I9 _ hn,←e]
theorem RA {b:UInt8} {s:ByteArray} {i:Nat} (h:i<s.size) (hb:s.data.getD i 0≠b) (hn:b∉(toL s).take i):b∉(toL s).take (i+1):=by
 have h2:i<s.data.size:=h
 have e:s.data.getD i 0=s.data[i]:=by unfold Array.getD;rw[dif_pos h2];rfl
 rw[List.take_succ_eq_append_getElem (by rw[Bh];exact h),List.mem_append,not_or]
 refine⟨hn,?_⟩
 simp only[List.mem_singleton]
 intro h3
 exact hb (by rw[e];exact h3.symm)
end Go.D
namespace Go.D
open Go.Sort
def pv:Ty→Bool
 | .int=>true
 | .bool=>true
 | .str=>true
 | .u8=>true
 | _=>false
def vOf (t:Ty) (x:El t):Value:=match enc t x with
 | [.val v]=>v
 | _=>undef
def EX:(as:List Ak)→As as→List Value
 | [],_=>[]
 | .v (.el t)::as,x=>vOf t x.1::EX as x.2
 | _::as,x=>undef::EX as x.2
def FI:List Ak→Bool
 | []=>true
 | .v (.el t)::as=>pv t&&FI as
 | _::_=>false
def Ev:List Sh→Bool
 | []=>true
 | .el t::rs=>pv t&&Ev rs
 | _::_=>false
def FE:(rs:List Sh)→Ts rs→List Value
 | [],_=>[]
 | .el t::rs,x=>vOf t x.1::FE rs x.2
 | .sl _::rs,x=>undef::FE rs x.2
def V7:List Value→Value
 | [v]=>v
 | vs=>.tuple vs.toArray
theorem QC {t:Ty} (h:pv t=true) (x:El t):enc t x=[.val (vOf t x)]∧F7 (vOf t x)=true∧(Sh.el t).agg=false:=by
 cases t<;>first|exact⟨rfl,rfl,rfl⟩|cases h
theorem IJ {w:World} {G:Gh}:∀ (as:List Ak) (x:As as),FI as=true→∀ (vs:List Value),vs.length=(CZ as x).length→(∀ (j:Nat) (y:TV),(CZ as x)[j]? = some y→∃ v,vs[j]? = some v∧TVR w G y v)→vs=EX as x:=by
 intro as
 induction as with
 | nil=>intro x _ vs hl _;exact List.eq_nil_of_length_eq_zero hl
 | cons a as ih=>
  intro x hp vs hl hh
  cases a with
  | v s=>
   cases s with
   | el t=>
    simp only[FI,Bool.and_eq_true] at hp
    obtain⟨e1,e2,e3⟩:=QC hp.1 x.1
    cases vs with
    | nil=>simp[CZ] at hl
    | cons v vs=>
     obtain⟨v',hv,hr⟩:=hh 0 _ rfl
     simp only[List.getElem?_cons_zero,Option.some.injEq] at hv
     subst hv
     have hc:Ue (.v (.el t)) x.1=.v false [.sc (vOf t x.1)]:=by
      show TV.v (Sh.el t).agg ((enc t x.1).map (C0 none))=_
      rw[e1,e3];rfl
     rw[hc] at hr
     obtain⟨c,hc1,hc2⟩:=hr
     injection hc1 with hc1
     subst hc1
     rw[EX,hc2.1,ih x.2 hp.2 vs (by simpa [CZ] using hl) fun j y hj=>hh (j+1) y hj]
   | sl t=>simp[FI] at hp
  | _=>simp[FI] at hp
theorem Hl:∀ (rs:List Sh) (y:Ts rs),Ev rs=true→GE rs y=(FE rs y).map fun v=>(false,[FC.val v]):=by
 intro rs
 induction rs with
 | nil=>intro y _;rfl
 | cons s rs ih=>
  intro y hp
  cases s with
  | el t=>
   simp only[Ev,Bool.and_eq_true] at hp
   obtain⟨e1,e2,e3⟩:=QC hp.1 y.1
   simp only[GE,FE,List.map_cons,ih y.2 hp.2,e3]
   congr 2
  | sl t=>simp[Ev] at hp
theorem Kp:∀ (rs:List Sh) (y:Ts rs),Ev rs=true→∀ v∈FE rs y,F7 v=true:=by
 intro rs
 induction rs with
 | nil=>intro y _ v hv;cases hv
 | cons s rs ih=>
  intro y hp v hv
  cases s with
  | el t=>
   simp only[Ev,Bool.and_eq_true] at hp
   rcases List.mem_cons.1 hv with rfl|hv
   ·exact(QC hp.1 y.1).2.1
   ·exact ih y.2 hp.2 v hv
  | sl t=>simp[Ev] at hp
theorem UD {w:World}:∀ (vs:List Value),(∀ v∈vs,F7 v=true)→ResR w (N3 (vs.map fun v=>(false,[FC.val v]))) (V7 vs) (fun _ _ _=>False)
 | [],_=>⟨#[],rfl,rfl,by simp⟩
 | [v],h=>by
  refine⟨_,rfl,⟨rfl,h v (by simp)⟩,Ip (h v (by simp))⟩
 | v::u::vs,h=>by
  refine⟨(v::u::vs).toArray,rfl,by simp,fun i p hp=>?_⟩
  have hp:((v::u::vs).map fun v=>(false,[FC.val v]))[i]? = some p:=hp
  rw[List.getElem?_map] at hp
  cases hq:(v::u::vs)[i]? with
  | none=>rw[hq] at hp;cases hp
  | some x=>
   rw[hq] at hp
   injection hp with hp
   subst hp
   have:=h x (List.mem_of_getElem? hq)
   exact⟨x,by simpa using hq,_,rfl,⟨rfl,this⟩,Ip this⟩
theorem Pj {P:Program} {f:Nat} {S:Fct} (ha:FI S.as=true) (hr:Ev S.rs=true)
 (h:∀ x,S.pre x→∀ (w:World) (ow:Nat→Own),Base P w ow→Calls P f (EX S.as x).toArray w fun e w'=>e=.returned (V7 (FE S.rs (S.fn x)))∧∃ n os,w'=grow (w.drewN n) os):S.ok P f:=by
 intro x hx w vs G hB hA
 have hvs:vs=(EX S.as x).toArray:=by
  have:=IJ (w:=w) (G:=G) S.as x ha vs.toList (by simpa [Fct.arg] using hA.sz) fun j y hj=>by
   obtain⟨v,hv,hr⟩:=hA.tm j y hj
   exact⟨v,by simpa using hv,hr⟩
  rw[←this]
 subst hvs
 refine(h x hx w _ hB).mono ?_
 rintro e w' ⟨rfl,n,os,rfl⟩
 have hold:∀ g,g<w.heap.size→(grow (w.drewN n) os).heap[g]? = w.heap[g]?:=fun g hg=>by
  rw[heap_grow_old _ _ (show g<(w.drewN n).heap.size from hg)];rfl
 refine⟨_,⟨mkR S.rs (S.fn x),[],[]⟩,rfl,rfl,⟨rfl,rfl,⟨rfl,by first|exact DrLe.refl _|exact DrLe.succ _|exact DrLe.add _ _⟩,?_⟩,fun g hg=>hold g (hA.lt g (by simp[hg])),fun g hg=>(hA.cr g hg).same (hold g (hA.lt g (by simp[hg]))),fun _ _=>False,by simp,by simp,?_,?_,?_⟩
 ·show w.heap.size≤(w.heap++os).size
  simp
 ·show ResR _ (N3 (GE S.rs (S.fn x))) _ _
  rw[Hl _ _ hr]
  exact UD _ (Kp _ _ hr)
 ·intro m T hm;cases hm
 ·intro b cs hb;cases hb
theorem VE (w:World):w=grow (w.drewN 0) #[]:=by
 simp[grow,World.drewN]
end Go.D
namespace Go.D
open Go.RowKit
theorem Mb (w:World) (r:Array Value) (T:TypeId) (j:Nat) (v:Value):(w.alloc (.cells r T)).setCell ⟨w.heap.size,j,none⟩ v=w.alloc (.cells (r.setIfInBounds j v) T):=by
 rw[setCell_eq_setRow _ _ _ r T (0,0) v (heap_alloc_last w _),World.setRow_alloc_new]
theorem Dq (w:World) (r:Array Value) (T:TypeId) (j:Nat):(w.alloc (.cells r T)).cell? ⟨w.heap.size,j,none⟩=r[j]?:=cell_of_row _ _ j r T (0,0) (heap_alloc_last w _)
theorem JA (w:World) (r:Array Value) (T:TypeId) (j:Nat):(w.alloc (.cells r T)).frozen? ⟨w.heap.size,j,none⟩=false:=by
 simp only[World.frozen?,heap_alloc_last]
 simp
theorem Nh {r:Array Value} {i:Nat} {v:Value} (hi:i<r.size) (t:Nat):(r.setIfInBounds i v)[t]? = if t=i then some v else r[t]?:=by
 rw[Array.getElem?_setIfInBounds]
 by_cases h:i=t
 ·subst h;simp[hi]
 ·rw[if_neg h,if_neg (fun e=>h e.symm)]
structure Neu (w w':World):Prop where
 os:w'.os=w.os
 tape:w'.tape=w.tape
 output:w'.output=w.output
 drawn:DrLe w.drawn w'.drawn
 size:w.heap.size≤w'.heap.size
 old:∀ g,g<w.heap.size→w'.heap[g]? = w.heap[g]?
theorem Neu.refl (w:World):Neu w w:=⟨rfl,rfl,rfl,DrLe.refl _,Nat.le_refl _,fun _ _=>rfl⟩
theorem Neu.drew {w w':World} (h:Neu w w'):Neu w w'.drew:=⟨h.os,h.tape,h.output,h.drawn.trans (DrLe.succ _),h.size,h.old⟩
theorem Neu.alloc {w w':World} (h:Neu w w') (o:Obj):Neu w (w'.alloc o):=⟨h.os,h.tape,h.output,h.drawn,by rw[World.size_alloc];have:=h.size;omega,fun g hg=>by
 rw[←h.old g hg]
 show(w'.heap.push o)[g]? = _
 rw[Array.getElem?_push,if_neg (by have:=h.size;omega)]⟩
theorem Neu.set {w w':World} (h:Neu w w') {a:Addr} (ha:w.heap.size≤a.block) (v:Value):Neu w (w'.setCell a v):=⟨h.os,h.tape,h.output,h.drawn,by rw[World.size_setCell];exact h.size,fun g hg=>by
 rw[←h.old g hg]
 unfold World.setCell
 simp only[Array.getElem?_modify]
 rw[if_neg (by omega)]⟩
theorem Neu.bytes {w w':World} (h:Neu w w') (e:TypeId) (s:ByteArray):Neu w (Lib.bytesWorld w' e s):=⟨h.os,h.tape,h.output,h.drawn.trans (DrLe.succ _),by rw[Lib.bytesWorld_size];have:=h.size;omega,fun g hg=>by
 rw[←h.old g hg];exact Lib.bytesWorld_at_old w' e s g (by have:=h.size;omega)⟩
theorem Neu.put {w w':World} (h:Neu w w') {α:Type} [Inhabited α] (enc:α→Value) {b:Nat} (hb:w.heap.size≤b) (off:Nat) (d:Array α):Neu w (Go.Sort.putRow enc w' b off d):=⟨h.os,h.tape,h.output,h.drawn,by
 unfold Go.Sort.putRow Go.Sort.mapBlock
 simp only[Array.size_modify];exact h.size,fun g hg=>by
 rw[←h.old g hg]
 unfold Go.Sort.putRow Go.Sort.mapBlock
 simp only[Array.getElem?_modify]
 rw[if_neg (by omega)]⟩
theorem Neu.trans {a b c:World} (h:Neu a b) (k:Neu b c):Neu a c:=⟨k.os.trans h.os,k.tape.trans h.tape,k.output.trans h.output,h.drawn.trans k.drawn,Nat.le_trans h.size k.size,fun g hg=>(k.old g (Nat.lt_of_lt_of_le hg h.size)).trans (h.old g hg)⟩
theorem Neu.below {w w':World} (h:Below w.heap.size w w'):Neu w w':=⟨h.os,h.tape,h.output,trivial,h.size,fun g hg=>h.block g hg⟩
theorem Neu.grow (w:World) (k:Nat) (os:Array Obj):Neu w (Go.Sort.grow (w.drewN k) os):=⟨rfl,rfl,rfl,DrLe.add _ _,by show w.heap.size≤(w.heap++os).size;simp,fun g hg=>by
 show(w.heap++os)[g]? = _
 rw[Array.getElem?_append_left hg]⟩
theorem Neu.laid {P:Program} {w w':World} (h:Neu w w') (l:Tr P w):Tr P w' :=
 ⟨fun q=>Gr h.old (l.1 q),fun q=>let ⟨tp,p,hv⟩:=l.2.1 q;⟨tp,p,Gr h.old hv⟩,fun q=>let ⟨tp,p,hv⟩:=l.2.2 q;⟨tp,p,Gr h.old hv⟩⟩
theorem MY {P:Program} {w:World} {n:String} {g:Nat} {x:Value} (hg:P.globalNamed n=some g) (h:w.var? P n=some #[x]):w.cell? ⟨g,0,none⟩=some x:=by
 unfold World.var? at h
 rw[hg,Option.bind_some] at h
 split at h
 ·rename_i cs e z hh
  simp only[Option.some.injEq] at h
  subst h
  simp[World.cell?,hh]
 ·cases h
open Go.Sort in
theorem My {P:Program} {f:Nat} {S:Fct} (ha:FI S.as=true) (hr:Ev S.rs=true)
 (h:∀ x,S.pre x→∀ (w:World) (ow:Nat→Own),Base P w ow→Calls P f (EX S.as x).toArray w fun e w'=>e=.returned (V7 (FE S.rs (S.fn x)))∧Neu w w'):S.ok P f:=by
 intro x hx w vs G hB hA
 have hvs:vs=(EX S.as x).toArray:=by
  have:=IJ (w:=w) (G:=G) S.as x ha vs.toList (by simpa [Fct.arg] using hA.sz) fun j y hj=>by
   obtain⟨v,hv,hr⟩:=hA.tm j y hj
   exact⟨v,by simpa using hv,hr⟩
  rw[←this]
 subst hvs
 refine(h x hx w _ hB).mono ?_
 rintro e w' ⟨rfl,hn⟩
 refine⟨_,⟨mkR S.rs (S.fn x),[],[]⟩,rfl,rfl,⟨hn.os,hn.tape,⟨hn.output,hn.drawn⟩,hn.size⟩,fun g hg=>hn.old g (hA.lt g (by simp[hg])),fun g hg=>(hA.cr g hg).same (hn.old g (hA.lt g (by simp[hg]))),fun _ _=>False,by simp,by simp,?_,?_,?_⟩
 ·show ResR _ (N3 (GE S.rs (S.fn x))) _ _
  rw[Hl _ _ hr]
  exact UD _ (Kp _ _ hr)
 ·intro m T hm;cases hm
 ·intro b cs hb;cases hb
end Go.D
