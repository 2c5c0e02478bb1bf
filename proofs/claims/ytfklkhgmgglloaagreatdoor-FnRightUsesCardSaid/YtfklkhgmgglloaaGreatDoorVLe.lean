/-
  The library of the proof, part 5.
-/
import Derived.Test.YtfklkhgmgglloaaGreatDoorVLd
import Derived.Shelf.Strings.Split
import Derived.Shelf.Strings.Prefix
import Derived.Shelf.Vars
import Derived.Shelf.Strings.OnBuilder
import Derived.Shelf.Strconv.Itoa3
import Derived.Shelf.Small.Strs
import Derived.Shelf.SlSortCmp.NoneTotal
set_option linter.defProp false
set_option linter.unusedVariables false
set_option linter.unusedSimpArgs false
namespace Go.D
open Go.Shelf Go.Proofs Go.Lib
def J6 {b c:UInt8} {l:List UInt8} (h:b≠c):index (b::l) [c]=if index l [c] == -1 then -1 else index l [c]+1:=by
 have h0:NoOcc (b::l) [c] 1:=(NoOcc.zero _ _).succ (by simp[occAt,List.isPrefixOf,Ne.symm h]);have:=index_drop (i:=1) h0 (by simp);simpa using this
def Q8 {c:UInt8} {l:List UInt8}:index (c::l) [c]=0:=by
 have:=index_hit (s:=c::l) (sub:=[c]) (i:=0) (NoOcc.zero _ _) (by simp) (by simp[occAt,List.isPrefixOf]);simpa using this
def YD (b:UInt8):∀ l:List UInt8,splitK [b] 0 (count l [b]) l=L3 b l:=by
 intro l
 induction l with
 | nil=>
  rfl
 | cons x l ih=>
  rw[Ec];by_cases hx:x=b
  .subst hx;rw[count_cons_eq,Nat.add_comm,splitK,Q8,F_ (by decide),G_ rfl];simp_all
  .rw[count_cons_ne _ _ _ hx,F_ hx,<-ih];cases hk:count l [b] with
   | zero=>rfl
   | succ k=>
    have hi:(index l [b] == -1)=false:=by
     cases he:(index l [b] == -1) with
     | false=>rfl
     | true=>
      have:=count_miss (s:=l) (sub:=[b]) (by simpa using he);omega
    have hi2:(index (x::l) [b] == -1)=false:=by rw[J6 hx,hi];have hc:=index_ge l [b];grind
    have hc:=index_ge l [b];have hn:index l [b]≠-1:=by simpa using hi
    rw[splitK,splitK,F_ (by rw[hi2];decide),F_ (by rw[hi];decide),J6 hx,F_ (by rw[hi];decide)];have e1:(index l [b]+1).toNat=(index l [b]).toNat+1:=O
    rw[e1];rfl
def Po (b:UInt8) (s:ByteArray):splitB ⟨#[b]⟩ 0 (countB s ⟨#[b]⟩) s=K b s:=by
 have h:=splitB_data ⟨#[b]⟩ 0 (countB s ⟨#[b]⟩) s;have h2:=YD b s.data.toList;unfold K;rw[show I s=s.data.toList from rfl,<-h2];have h3:splitK (⟨#[b]⟩:ByteArray).data.toList 0 (countB s ⟨#[b]⟩) s.data.toList=splitK [b] 0 (count s.data.toList [b]) s.data.toList:=rfl;rw[h3] at h;rw[<-h,dz]
 conv=>lhs;rw[<-List.map_id (splitB _ _ _ _)]
 rfl
def Abk (b:UInt8) (s:ByteArray):(K b s).length=countB s ⟨#[b]⟩+1:=by
 rw[<-Po];exact splitB_all ⟨#[b]⟩ (X_ 1) 0 _ s rfl
def Vl {P:Program} {g:Nat} {t:TypeId} {zero:Array Value} {w:World} (h:w.ShapedOpen P) (hg:g<P.globals.size)
 (h0:((begin P (λ_ _=>0) default).world.heap[g]?).bind Obj.row? = some (zero,t)) (hz:zero.size=1)
 (hb:P.buildable t=true) (hc:P.cellTypes P.depth t=some [t]) (hu:P.underlying t=some (.int .i64)):∃ m,w.cell? ⟨g,0,none⟩=some (.int .i64 m):=cell_of_shapedOpen_int h hg h0 hz hb hc hu
def N0:Fct:=⟨[aT,aT],[.sl .str],λx=>x.1.size<4294967281/\x.2.1.size=1,λx=>(K (x.2.1.data.getD 0 0) x.1,())⟩
def AeD {P:Program} {f:Nat} {e:TypeId}
 (h:∀ (s sep:ByteArray) (w:World),w.ShapedOpen P->s.size<4294967281->1<=sep.size->Calls P f #[.string s,.string sep] w λr w'=>r=.returned (.slice (some ⟨w.heap.size,0,none⟩) (countB s sep+1) (countB s sep+1))/\w'=w.alloc (.cells ((splitB sep 0 (countB s sep) s).map Value.string).toArray e)):N0.ok P f:=by
 rintro⟨s,sep,⟨⟩⟩ ⟨hs,h1⟩ w vs G hB hA;obtain⟨c,rfl⟩:=one_byte sep h1;have hvs:vs = #[.string s,.string ⟨#[c]⟩]:=by
  obtain⟨v0,hv0,hr0⟩:=hA.tm 0 _ rfl;obtain⟨v1,hv1,hr1⟩:=hA.tm 1 _ rfl;obtain⟨c0,e0,r0⟩:=hr0;obtain⟨c1,e1,r1⟩:=hr1;injection e0 with e0;injection e1 with e1
  subst e0 e1;have hsz:vs.size=2:=hA.sz;apply Array.ext_getElem?;intro i
  match i with
  | 0=>rw[hv0,r0.1];rfl
  | 1=>rw[hv1,r1.1];rfl
  | i+2=>rw[Array.getElem?_eq_none O];rfl
 subst hvs;refine(h s ⟨#[c]⟩ w hB.shaped hs (X_ 1)).mono ?_;rintro e2 w' ⟨rfl,rfl⟩;rw[Po,<-Abk];have hg0:(w.alloc (.cells ((K c s).map Value.string).toArray e)).heap[w.heap.size]? = some (.cells ((K c s).map Value.string).toArray e (0,0)):=Array.getElem?_push_size;have hold:∀ g,g<w.heap.size->(w.alloc (.cells ((K c s).map Value.string).toArray e)).heap[g]? = w.heap[g]?:=λg hg=>by show(w.heap.push _)[g]? = _;grind
 refine⟨_,⟨mkR [.sl .str] (K c s,()),[],[]⟩,rfl,rfl,⟨rfl,rfl,⟨rfl,by first|exact DrLe.refl _|exact DrLe.succ _|exact DrLe.add _ _⟩,?_⟩,λg hg=>hold g (hA.lt g (by simp[hg])),λg hg=>(hA.cr g hg).same (hold g (hA.lt g (by simp[hg]))),λp b=>match p with
  | .res 0 0=>b=w.heap.size
  | _=>False,?_,?_,?_,?_,?_⟩
 .show w.heap.size<=(w.heap.push _).size;simp
 .intro p b hp
  match p,hp with
  | .res 0 0,hp=>
   obtain rfl:=hp;refine⟨by show w.heap.size<(w.heap.push _).size;simp,⟨λhf=>?_,λhf=>?_⟩,λb0 hb0=>by simp[look] at hb0⟩
   .exact absurd (hA.lt _ (by rw[hf];simp)) (Nat.lt_irrefl _)
   .exact absurd (hA.lt _ (by rw[hf];simp)) (Nat.lt_irrefl _)
 .intro p p' b h1 h2
  match p,h1,p',h2 with
  | .res 0 0,_,.res 0 0,_=>rfl
 .refine⟨_,rfl,.inr ⟨w.heap.size,0,(K c s).length,_,e,λ_ _ _=>False,rfl,X_ _,?_,hg0,rfl,λi hi j hj=>?_,by simp,by simp⟩,rfl⟩
  .simp[Ty.width]
  .have hj0:j=0:=by simp only[Ty.width] at hj;omega
   subst hj0;refine⟨.string (K c s)[i],?_,?_⟩
   .simp[Ty.width,hi]
   .have e3:cell .str (K c s) i 0=(enc .str (K c s)[i]).getD 0 .nl:=GF (t:=.str) (xs:=K c s) (by simp[hi]) 0;show TO _ (fcC (cell .str (K c s) i 0)) _ _;rw[e3];exact⟨rfl,rfl⟩
 .intro m T hm;cases hm
 .intro b cs hb;cases hb
def R9 (s p:ByteArray):ByteArray:=⟨(trimPrefix s.data.toList p.data.toList).toArray⟩
def Hs:Fct:=⟨[aT,aT],[rT],λ_=>True,λx=>(R9 x.1 x.2.1,())⟩
def Aks {P:Program} {f:Nat} (h:∀ (s p:ByteArray) (w:World),Calls P f #[.string s,.string p] w λe w'=>e=.returned (.string ⟨(trimPrefix s.data.toList p.data.toList).toArray⟩)/\w'=w):Hs.ok P f :=
 AdU rfl rfl λx _ w ow _=>(h x.1 x.2.1 w).mono λe w' ⟨a,b⟩=>⟨a,0,#[],by rw[b];exact Amr w⟩
end Go.D
namespace Go.D
open Go.Shelf Go.Proofs
def Sg (sep:List UInt8):List (List UInt8)->List UInt8
 | []=>[]
 | [x]=>x
 | x::y::l=>x++sep++Sg sep (y::l)
def NV (l:List ByteArray) (sep:ByteArray):ByteArray:=ofL (Sg (I sep) (l.map I))
def Rf (sep:List UInt8):∀ l:List (List UInt8),Lib.join l sep=Sg sep l
 | []=>rfl
 | [x]=>Lib.join_one x sep
 | x::y::l=>by rw[Lib.join_cons,Sg,<-Rf sep (y::l),Lib.join_cons,Lib.joinTail,aY,List.flatten_cons,Lib.joinTail,bK,bK]
def TX:Fct:=⟨[aL .str,aT],[rT],λx=>x.1.length<=140737488355328/\(NV x.1 x.2.1).size<=140737488355328,λx=>(NV x.1 x.2.1,())⟩
def AjI {P:Program} {f:Nat} (hm:∀ a b,DrLe a b)
 (h0:∀ (a:Option Addr) (c:Nat) (sep:ByteArray) (w:World),Calls P f #[.slice a 0 c,.string sep] w λe w'=>e=.returned (.string ⟨#[]⟩)/\w'=w)
 (h:∀ (bk o c:Nat) (xs:List ByteArray) (sep:ByteArray) (w:World),(∀ (j:Nat) x,xs[j]? = some x->w.cell? ⟨bk,o+j,none⟩=some (.string x))->bk<w.heap.size->xs.length<=140737488355328->xs.length<=c ->
  (Lib.join (xs.map (·.data.toList)) sep.data.toList).length<=140737488355328->Calls P f #[.slice (some ⟨bk,o,none⟩) xs.length c,.string sep] w λe w'=>e=.returned (.string ⟨(Lib.join (xs.map (·.data.toList)) sep.data.toList).toArray⟩)/\Go.RowKit.Below w.heap.size w w'):TX.ok P f:=by
 rintro⟨l,sep,⟨⟩⟩ ⟨hl,hs⟩ w vs G hB hA;obtain⟨v0,hv0,hr0⟩:=hA.tm 0 _ rfl;obtain⟨v1,hv1,hr1⟩:=hA.tm 1 _ rfl;obtain⟨c0,e0,r0⟩:=hr0;obtain⟨c1,e1,r1⟩:=hr1;injection e0 with e0
 injection e1 with e1
 subst e0 e1;have hvs:vs = #[v0,.string sep]:=by
  have hsz:vs.size=2:=hA.sz;apply Array.ext_getElem?;intro i
  match i with
  | 0=>rw[hv0];rfl
  | 1=>rw[hv1,r1.1];rfl
  | i+2=>rw[Array.getElem?_eq_none O];rfl
 subst hvs;have hr:TR w (src G none) (fcC (.l .str l)) v0:=r0;rw[Eb] at hr;obtain⟨a,cap,rfl,hcap,hcase⟩:=hr;have hk:Ty.str.width=1:=rfl;have fin:∀ (e:Ending) (w':World),e=.returned (.string (NV l sep))/\Go.RowKit.Below w.heap.size w w'->U3 w G (λp=>p=⟨mkR [rT] (NV l sep,()),[],[]⟩) e w':=by
  rintro e w' ⟨rfl,hb⟩;refine⟨_,⟨mkR [rT] (NV l sep,()),[],[]⟩,rfl,rfl,⟨hb.os,hb.tape,⟨hb.output,hm _ _⟩,hb.size⟩,λg hg=>hb.block g (hA.lt g (by simp[hg])),λg hg=>(hA.cr g hg).same (hb.block g (hA.lt g (by simp[hg]))),λ_ _=>False,by simp,by simp,⟨_,rfl,⟨rfl,rfl⟩,rfl⟩,?_,?_⟩
  .intro m T hm;cases hm
  .intro b cs hb;cases hb
 have ej:∀ xs:List ByteArray,(⟨(Lib.join (xs.map (·.data.toList)) sep.data.toList).toArray⟩:ByteArray)=NV xs sep:=λxs=>by rw[Rf];rfl
 rcases hcase with hn|⟨g,o,row,e,fr,rfl,hg,hrow,hcells⟩
 .have hl0:l=[]:=List.eq_nil_of_length_eq_zero hn;subst hl0;exact(h0 a cap sep w).mono λe w' ⟨h1,h2⟩=>fin e w' ⟨h1,h2▸Go.RowKit.Below.refl _ _⟩
 .refine(h g o cap l sep w (λj x hj=>?_) ?_ hl hcap ?_).mono λe w' ⟨h1,h2⟩=>fin e w' ⟨?_,h2⟩
  .have hjl:j<l.length:=(List.getElem?_eq_some_iff.1 hj).1;obtain⟨u,hu,ht⟩:=hcells j hjl 0 (by rw[hk];omega);have e3:cell .str l j 0=(enc .str l[j]).getD 0 .nl:=GF (t:=.str) (xs:=l) (x:=l[j]) (by rw[aH hjl]) 0;have ht3:TR w (src G none) (fcC (cell .str l j 0)) u:=ht;rw[e3] at ht3;have ht2:u=.string l[j]:=ht3.1;have hx:l[j]=x:=by rw[aH hjl] at hj;injection hj
   rw[hk,Nat.mul_one,Nat.add_zero] at hu;simp only[World.cell?,hrow];rw[<-hx,<-ht2];simpa using hu
  .exact(Array.getElem?_eq_some_iff.1 hrow).1
  .rw[Rf];have:(NV l sep).size=(Sg sep.data.toList (l.map (·.data.toList))).length:=by unfold NV;rw[Df];rfl
   have hs2:(NV l sep).size<=140737488355328:=hs;rw[this] at hs2;exact hs2
  .rw[h1,ej]
end Go.D
namespace Go.D
open Go.Shelf Go.Proofs Go.Sort
def AjX:Fct:=⟨[aI],[rT],λx=>-9223372036854775808<=x.1/\x.1<=9223372036854775807,λx=>(RL x.1,())⟩
def AjK {P:Program} {f:Nat} (hg : (P.globalNamed "internal/strconv.uint64pow10").isSome=true)
 (h:∀ n:Int,-9223372036854775808<=n->n<=9223372036854775807->∀ w:World,Lib.TabIs P w "internal/strconv.uint64pow10" .u64 Lib.pow10Tab->Calls P f #[.int .i64 n] w λe w'=>e=.returned (.string ⟨(Lib.itoa n).toArray⟩)/\∃ k os,w'=grow (w.drewN k) os):AjX.ok P f :=
 AdU rfl rfl λx hx w ow hB=>(h x.1 hx.1 hx.2 w (hB.laid.1 hg)).mono λe w' ⟨a,b⟩=>⟨a,b⟩
end Go.D
namespace Go.D
open Go.Shelf Go.Proofs Go.Sort
def Aj8 {P:Program} {f:Nat} {S:Fct} {a:ByteArray->ByteArray->Int} (hS:S=⟨[aT,aT],[rI],λ_=>True,λx=>(a x.1 x.2.1,())⟩) (h:∀ (x y:ByteArray) (w:World),Calls P f #[.string x,.string y] w λe w'=>e=.returned (.int .i64 (a x y))/\w'=w):S.ok P f:=by
 subst hS;rintro⟨x,y,⟨⟩⟩ _;intro w vs G _ hA;obtain⟨v0,hv0,c0,hc0,hr0⟩:=hA.tm 0 (.v false [.sc (.string x)]) rfl;injection hc0 with hc0
 subst hc0;obtain⟨v1,hv1,c1,hc1,hr1⟩:=hA.tm 1 (.v false [.sc (.string y)]) rfl;injection hc1 with hc1
 subst hc1;have hvs:vs = #[.string x,.string y]:=by
  apply Array.ext
  .rw[hA.sz];rfl
  .intro i h1 h2
   match i,h1,h2 with
   | 0,h1,h2=>rw[Array.getElem?_eq_getElem h1] at hv0;injection hv0 with hv0;rw[hv0];exact hr0.1
   | 1,h1,h2=>rw[Array.getElem?_eq_getElem h1] at hv1;injection hv1 with hv1;rw[hv1];exact hr1.1
   | i+2,h1,h2=>exact absurd (show i+2<2 from h2) O
 subst hvs;refine(h x y w).mono ?_;rintro e w' ⟨rfl,rfl⟩;refine⟨_,_,rfl,rfl,⟨rfl,rfl,⟨rfl,by first|exact DrLe.refl _|exact DrLe.succ _|exact DrLe.add _ _⟩,X_ _⟩,λ_ _=>rfl,λ_ hc=>(hA.cr _ hc).same rfl,λ_ _=>False,by simp,by simp,?_,?_,?_⟩
 .exact⟨_,rfl,⟨rfl,rfl⟩,rfl⟩
 .intro m T hm;cases hm
 .intro b cs hb;cases hb
end Go.D
namespace Go.D
open Go.Shelf Go.Proofs Go.Sort
def Ou (x:HO):List Value:=[.string x.host,.string x.path]
abbrev US (g:Nat) (cf:HO->HO->Int):GS:=⟨[.k (.sl .addr),.l (.c g [])],[],λx=>x.1.length<4611686018427387904,λx=>((),(x.1.mergeSort λa b=>!(ltOf cf) b a,()))⟩
def AfO {d:Array HO} {i j:Nat} (hi:i<d.size) (hj:j<2):(flatK Ou 2 d)[i*2+j]! = (Ou d[i]!)[j]!:=by
 rw[get_flatK _ _ _ _ O];have e1:(i*2+j) / 2=i:=O
 have e2:(i*2+j) % 2=j:=O
 rw[e1,e2]
def Af8 (x:HO) (j:Nat) (hj:j<2):fcC ((enc .addr x).getD j .nl)=.val (Ou x)[j]!/\plain (Ou x)[j]! = true:=by
 match j,hj with
 | 0,_=>exact⟨rfl,rfl⟩
 | 1,_=>exact⟨rfl,rfl⟩
def Alc {l:List HO} {i j:Nat} (hi:i<l.length) (hj:j<2):fcC (cell .addr l i j)=.val (Ou l.toArray[i]!)[j]!/\plain (Ou l.toArray[i]!)[j]! = true:=by
 have e:l.toArray[i]! = l[i]:=by simp[hi]
 have e2:cell .addr l i j=(enc .addr l[i]).getD j .nl:=GF (t:=.addr) (xs:=l) (by simp[hi]) j;rw[e,e2];exact Af8 l[i] j hj
def AeI {P:Program} {J:Ren} {f g:Nat} {cf:HO->HO->Int} (L:SlLaysF0.n6 P J) (hf:J.f 6=f) (aE:∀ w,(isAgg (J.t 24)).run P w=.ok true w) (zE:∀ w,(Go.sizeOf (J.t 24)).run P w=.ok 2 w)
 (hO:SWO (ltOf cf)) (hT:∀ x y,(ltOf cf) x y=false->(ltOf cf) y x=false->x=y) (eg:∀ args w,(callFunc g args).run P w=.ok (.enter g args) w) (hc:∀ x y W,Calls P g #[.agg (Ou x).toArray,.agg (Ou y).toArray] W λe w'=>e=.returned (.int .i64 (cf x y))/\∃ q os,w'=grow (W.drewN q) os):(US g cf).ok P f:=by
 subst hf;rintro⟨l,u,⟨⟩⟩ hlen;intro w vs G hB hA;obtain⟨v0,hv0,c0,hc0,hr0⟩:=hA.tm 0 (.v false [.ref 0]) rfl;injection hc0 with hc0
 subst hc0;obtain⟨v1,hv1,vs1,rfl,hs1,_⟩:=hA.tm 1 (.clo g []) rfl;have hvs1:vs1 = #[]:=Array.eq_empty_of_size_eq_zero (by simpa using hs1);subst hvs1;have hvs:vs = #[v0,.func (.func g) #[] #[]]:=by
  have hsz:=hA.sz;apply Array.ext
  .rw[hsz];rfl
  .intro i h1 h2
   match i,h1,h2 with
   | 0,h1,h2=>rw[Array.getElem?_eq_getElem h1] at hv0;injection hv0
   | 1,h1,h2=>rw[Array.getElem?_eq_getElem h1] at hv1;injection hv1
   | i+2,h1,h2=>exact absurd (show i+2<2 from h2) O
 have hto:=hA.hp 0 ⟨.addr,l⟩ rfl;subst hvs;rw[hr0.1];have lenS:(l.mergeSort λa b=>!(ltOf cf) b a).length=l.length:=(List.mergeSort_perm _ _).length_eq;rcases hto with⟨⟨ad,hv⟩,hz⟩|⟨blk,off,cap,row,e,GG,hv,hnc,hcap,hg,hF,hrow,hsub,hdis⟩
 .have hl:l=[]:=List.eq_nil_of_length_eq_zero hz;subst hl;rw[hv];refine(AnyF.slices_SortFunc_none { L with } ad 0 _ w).mono ?_;rintro e w' ⟨rfl,rfl⟩;refine⟨_,_,rfl,rfl,⟨rfl,rfl,⟨rfl,by first|exact DrLe.refl _|exact DrLe.succ _|exact DrLe.add _ _⟩,X_ _⟩,λ_ _=>rfl,λ_ hc=>(hA.cr _ hc).same rfl,λ_ _=>False,?_,?_,?_,?_,?_⟩
  .simp
  .simp
  .exact⟨#[],rfl,rfl,by simp[JA]⟩
  .intro m T hm;have hm':look [(0,(⟨.addr,([]:List HO).mergeSort λa b=>!(ltOf cf) b a⟩:Tree))] m=some T:=hm;simp only[look] at hm';split at hm'
   .rename_i e0;have e0':m=0:=by simpa using e0
    subst e0';simp only[R_] at hm';subst hm';exact .inl ⟨⟨ad,by rw[hv]⟩,by simp[Tree.n]⟩
   .cases hm'
  .intro b cs hb;simp[GS.pst,ZI,look] at hb
 .have hn:(⟨.addr,l⟩:Tree).n=l.length:=rfl;have hk:(⟨.addr,l⟩:Tree).k=2:=rfl;rw[hn] at hv hnc hrow hsub hdis;rw[hk] at hcap hrow hsub hdis;rw[hv];have hH:HoldsK Ou 2 w blk off l.toArray:=by
   intro t ht;have ht':t<l.length*2:=by simpa using ht
   have h1:t / 2<l.length:=O
   have h2:t % 2<2:=O
   obtain⟨u',hu',htt⟩:=hrow (t / 2) h1 (t % 2) h2;have e1:off+t / 2*2+t % 2=off+t:=O
   rw[e1] at hu';have hcell:=(Alc h1 h2).1;have htt':TO w (fcC (cell .addr l (t / 2) (t % 2))) u' _:=htt;rw[hcell] at htt';obtain⟨rfl,_⟩:=htt';have e2:(flatK Ou 2 l.toArray)[t]! = (Ou l.toArray[t / 2]!)[t % 2]!:=get_flatK _ _ _ _ (by simpa using ht');refine⟨?_,?_⟩
   .rw[e2];simp[World.cell?,hg,hu']
   .simp[World.frozen?,hg]
  have hblk:blk<w.heap.size:=(Array.getElem?_eq_some_iff.1 hg).1;have hcon:=AnyQ.slices_SortFunc_total L 2 aE zE Ou (λ_=>rfl) (by intro x v hv';simp[Ou] at hv';rcases hv' with rfl|rfl<;>rfl) cf hO g #[] blk off cap l.toArray w eg (λ_ _ _ _ x y=>hc x y _) hH hblk (by simpa using hlen) hT;refine hcon.mono ?_;rintro e2 w' ⟨rfl,n,os,hw⟩;generalize hsd:(l.mergeSort λa b=>!(ltOf cf) b a)=sd at lenS;have hpost:(US g cf).fn (l,u,())=((),(sd,())):=by rw[<-hsd]
  have hW:∀ b,b<w.heap.size->b≠blk->(sortWorldK Ou 2 w blk off n sd.toArray os).heap[b]? = w.heap[b]?:=by intro b hb hne;unfold sortWorldK;rw[heap_grow_old _ _ (by rw[size_putRowK];exact hb)];simp[putRowK,putRow,mapBlock,Array.getElem?_modify,Ne.symm hne,Sort.ahead]
  have hcells:∃ row',(sortWorldK Ou 2 w blk off n sd.toArray os).heap[blk]? = some (.cells row' e (0,0))/\row'.size=row.size/\∀ t,t<l.length*2->row'[off+t]? = some (flatK Ou 2 sd.toArray)[t]!:=by
   refine⟨putCells id off (flatK Ou 2 sd.toArray) row,?_,by simp[putCells],λt ht=>?_⟩
   .unfold sortWorldK;rw[heap_grow_old _ _ (by rw[size_putRowK];exact hblk)];simp[putRowK,putRow,mapBlock,Array.getElem?_modify,Sort.ahead,hg,onCells]
   .have hlt:off+t<row.size:=by have:l.length*2<=cap*2:=de _ hnc;omega
    simp only[putCells,Array.getElem?_mapIdx,Array.getElem?_eq_getElem hlt,bC,size_flatK];rw[G_ ⟨O,by simp[lenS];omega⟩,show off+t-off=t from O];rfl
  obtain⟨row',hg',hrs,hcell'⟩:=hcells;have hsdef:l.toArray.toList.mergeSort (λx y=>!(ltOf cf) y x)=sd:=hsd;rw[hsdef] at hw;subst hw;refine⟨_,(US g cf).pst ((),(sd,())),by rw[<-hpost];rfl,rfl,?_,?_,?_,λs b=>match s with
   | .keep 0=>b=blk
   | _=>False,?_,?_,?_,?_,?_⟩
  .refine⟨rfl,rfl,⟨rfl,?_⟩,?_⟩
   .exact DrLe.add _ _
   .unfold sortWorldK;rw[size_grow,size_putRowK];exact bN _ _
  .intro b hb;refine hW b (hA.lt b (by simp[hb])) ?_;rintro rfl;rw[hF] at hb;cases hb
  .intro b hb;refine(hA.cr b hb).same (hW b (hA.lt b (by simp[hb])) ?_);rintro rfl;rw[hF] at hb;cases hb
  .intro s b hs
   match s,hs with
   | .keep 0,hs=>
    obtain rfl:=hs;refine⟨(Array.getElem?_eq_some_iff.1 hg').1,⟨(by rw[hF];intro h;cases h),(by rw[hF];intro h;cases h)⟩,λb0 hb0=>by simp[GS.pst,ZI,look] at hb0⟩
  .intro s s' b h1 h2
   match s,h1,s',h2 with
   | .keep 0,_,.keep 0,_=>rfl
  .exact⟨#[],rfl,rfl,by simp[JA]⟩
  .intro m T hm;have hm':look [(0,(⟨.addr,sd⟩:Tree))] m=some T:=hm;simp only[look] at hm';split at hm'
   .rename_i e0;have e0':m=0:=by simpa using e0
    subst e0';simp only[R_] at hm';subst hm';refine .inr ⟨blk,off,cap,row',e,λ_ _ _=>False,by rw[hv];simp[Tree.n,lenS],by simp[Tree.n,lenS];exact hnc,by rw[hrs];exact hcap,hg',rfl,λi hi j hj=>?_,by simp,by simp⟩;have hi':i<sd.length:=hi;have hj':j<2:=hj;refine⟨_,by rw[show(⟨.addr,sd⟩:Tree).k=2 from rfl,Nat.add_assoc];exact hcell' (i*2+j) O,?_⟩;have h3:(flatK Ou 2 sd.toArray)[i*2+j]! = (Ou sd.toArray[i]!)[j]!:=AfO (by simpa using hi') hj';have h4:=Alc hi' hj';show TO _ (fcC (cell .addr sd i j)) _ _;rw[h4.1,h3];exact⟨rfl,h4.2⟩
   .cases hm'
  .intro b cs hb;simp[GS.pst,ZI,look] at hb
end Go.D
