/-
  The library of the proof, part 5.
-/
import Derived.Test.YthpiiodbmkjmjaaGreatDoorVMd
import Derived.Shelf.Sort.Plain
import Derived.Shelf.Slices.In.SortNone
import Derived.Shelf.Strings.Split
import Derived.Shelf.Strings.Prefix
import Derived.Shelf.Vars
import Derived.Shelf.Strings.OnBuilder
import Derived.Shelf.Strconv.Itoa3
import Derived.Shelf.Strings.Cut
import Derived.Shelf.Small.Strs
set_option linter.defProp false
set_option linter.unusedVariables false
set_option linter.unusedSimpArgs false
namespace Go.D
open Go.Shelf Go.Proofs Go.Sort
abbrev VX (t:Ty) (sf:List (El t)->List (El t)):GS:=⟨[.k (.sl t)],[],λx=>x.1.length<4611686018427387904,λx=>((),(sf x.1,()))⟩
def Aeb {P:Program} {f:Nat} {t:Ty} (en:El t->Value) (hw:t.width=1) (he:∀ x,enc t x=[.val (en x)]) (hpl:∀ x,plain (en x)=true) {sf:List (El t)->List (El t)} (hl:∀ l,(sf l).length=l.length)
 (h0:∀ (p:Option Addr) (cap:Nat) (w:World),Calls P f #[.slice p 0 cap] w λe w'=>e=.returned (.tuple #[])/\w'=w)
 (h1:∀ (blk off cap:Nat) (zs:List (El t)) (w:World),Holds en w blk off zs.toArray->blk<w.heap.size->zs.length<4611686018427387904->Calls P f #[.slice (some ⟨blk,off,none⟩) zs.length cap] w λe w'=>e=.returned (.tuple #[])/\∃ n os,w'=grow (putRow en (Sort.ahead w n) blk off (sf zs).toArray) os) :
 (VX t sf).ok P f:=by
 rintro⟨l,⟨⟩⟩ hlen;intro w vs G _ hA;obtain⟨v0,hv0,c0,hc0,hr0⟩:=hA.tm 0 (.v false [.ref 0]) rfl;injection hc0 with hc0
 subst hc0;have hvs:vs = #[v0]:=by
  have hsz:=hA.sz;apply Array.ext
  ·rw[hsz];rfl
  ·intro i h1 h2
   match i,h1,h2 with
   | 0,h1,h2=>rw[Array.getElem?_eq_getElem h1] at hv0;injection hv0
   | i+1,h1,h2=>exact absurd (show i+1<1 from h2) o_
 have hto:=hA.hp 0 ⟨t,l⟩ rfl;subst hvs;rw[hr0.1];have hcell:∀ (xs:List (El t)) (i:Nat) (hi:i<xs.length),fcC (cell t xs i 0)=.val (en xs[i]):=by intro xs i hi;have e2:cell t xs i 0=(enc t xs[i]).getD 0 .nl:=H0 (t:=t) (xs:=xs) (by simp[hi]) 0;rw[e2,he];rfl
 rcases hto with⟨⟨ad,hv⟩,hz⟩|⟨blk,off,cap,row,e,GG,hv,hnc,hcap,hg,hF,hrow,hsub,hdis⟩
 ·have hll:l=[]:=List.eq_nil_of_length_eq_zero hz;subst hll;have hs0:sf []=[]:=List.eq_nil_of_length_eq_zero (hl []);rw[hv];refine(h0 ad 0 w).mono ?_;rintro e w' ⟨rfl,rfl⟩;refine⟨_,_,rfl,rfl,⟨rfl,rfl,⟨rfl,by first|exact DrLe.refl _|exact DrLe.succ _|exact DrLe.add _ _⟩,aa _⟩,λ_ _=>rfl,λ_ hc=>(hA.cr _ hc).same rfl,λ_ _=>False,?_,?_,?_,?_,?_⟩
  ·simp
  ·simp
  ·exact⟨#[],rfl,rfl,by simp[JJ]⟩
  ·intro m T hm;have hm':look [(0,(⟨t,sf []⟩:Tree))] m=some T:=hm;simp only[look] at hm';split at hm'
   ·rename_i e0;have e0':m=0:=by simpa using e0
    subst e0';simp only[P_] at hm';subst hm';exact .inl ⟨⟨ad,by rw[hv]⟩,by simp[Tree.n,hs0]⟩
   ·cases hm'
  ·intro b cs hb;simp[GS.pst,Yw,look] at hb
 ·have hn:(⟨t,l⟩:Tree).n=l.length:=rfl;have hk:(⟨t,l⟩:Tree).k=1:=hw;rw[hn] at hv hnc hrow hsub hdis;rw[hk] at hcap hrow hsub hdis;rw[hv];have hH:Holds en w blk off l.toArray:=by
   intro j hj;have hj':j<l.length:=by simpa using hj
   obtain⟨u',hu',htt⟩:=hrow j hj' 0 o_;have htt':TO w (fcC (cell t l j 0)) u' _:=htt;rw[hcell l j hj'] at htt';obtain⟨rfl,_⟩:=htt';rw[Nat.mul_one,Nat.add_zero] at hu';have e1:l.toArray[j]! = l[j]:=by simp[hj']
   refine⟨?_,?_⟩
   ·rw[e1];simp[World.cell?,hg,hu']
   ·simp[World.frozen?,hg]
  have hblk:blk<w.heap.size:=(Array.getElem?_eq_some_iff.1 hg).1;refine(h1 blk off cap l w hH hblk hlen).mono ?_;rintro e2 w' ⟨rfl,n,os,hw'⟩;have lenS:=hl l;have hpost:(VX t sf).fn (l,())=((),(sf l,())):=rfl;generalize sf l=sd at lenS hw' hpost;have hW:∀ b,b<w.heap.size->b≠blk->w'.heap[b]? = w.heap[b]?:=by intro b hb hne;subst hw';rw[heap_grow_old _ _ (by rw[size_putRow];exact hb)];simp[putRow,mapBlock,Array.getElem?_modify,Ne.symm hne,Sort.ahead]
  have hcells:∃ row',w'.heap[blk]? = some (.cells row' e (0,0))/\row'.size=row.size/\∀ i (hi:i<l.length),row'[off+i]? = some (en (sd[i]' o_)):=by
   subst hw';refine⟨putCells en off sd.toArray row,?_,by simp[putCells],λi hi=>?_⟩
   ·rw[heap_grow_old _ _ (by rw[size_putRow];exact hblk)];simp[putRow,mapBlock,Array.getElem?_modify,Sort.ahead,hg,onCells]
   ·have hlt:off+i<row.size:=o_
    simp only[putCells,Array.getElem?_mapIdx,Array.getElem?_eq_getElem hlt,aY];rw[I_ ⟨o_,by simp[lenS];omega⟩,show off+i-off=i from o_];simp[show i<sd.length from o_]
  obtain⟨row',hg',hrs,hcell'⟩:=hcells;have hos:Onward w w':=by
   subst hw';refine⟨rfl,rfl,⟨rfl,?_⟩,?_⟩
   ·exact DrLe.add _ _
   ·rw[size_grow,size_putRow];exact cw _ _
  refine⟨_,(VX t sf).pst ((),(sd,())),by rw[<-hpost];rfl,rfl,hos,?_,?_,λs b=>match s with
   | .keep 0=>b=blk
   | _=>False,?_,?_,?_,?_,?_⟩
  ·intro b hb;refine hW b (hA.lt b (by simp[hb])) ?_;rintro rfl;rw[hF] at hb;cases hb
  ·intro b hb;refine(hA.cr b hb).same (hW b (hA.lt b (by simp[hb])) ?_);rintro rfl;rw[hF] at hb;cases hb
  ·intro s b hs
   match s,hs with
   | .keep 0,hs=>
    obtain rfl:=hs;refine⟨(Array.getElem?_eq_some_iff.1 hg').1,⟨(by rw[hF];intro h;cases h),(by rw[hF];intro h;cases h)⟩,λb0 hb0=>by simp[GS.pst,Yw,look] at hb0⟩
  ·intro s s' b h1 h2
   match s,h1,s',h2 with
   | .keep 0,_,.keep 0,_=>rfl
  ·exact⟨#[],rfl,rfl,by simp[JJ]⟩
  ·intro m T hm;have hm':look [(0,(⟨t,sd⟩:Tree))] m=some T:=hm;simp only[look] at hm';split at hm'
   ·rename_i e0;have e0':m=0:=by simpa using e0
    subst e0';simp only[P_] at hm';subst hm';refine .inr ⟨blk,off,cap,row',e,λ_ _ _=>False,by rw[hv];simp[Tree.n,lenS],by simp[Tree.n,lenS];exact hnc,by rw[hrs,show(⟨t,sd⟩:Tree).k=1 from hw];exact hcap,hg',rfl,λi hi j hj=>?_,by simp,by simp⟩;have hi':i<sd.length:=hi;have hj':j<1:=by rw[show(⟨t,sd⟩:Tree).k=1 from hw] at hj;exact hj
    have hj0:j=0:=o_
    subst hj0;refine⟨_,by rw[show(⟨t,sd⟩:Tree).k=1 from hw,Nat.mul_one,Nat.add_zero];exact hcell' i o_,?_⟩;show TO _ (fcC (cell t sd i 0)) _ _;rw[hcell sd i hi'];exact⟨rfl,hpl _⟩
   ·cases hm'
  ·intro b cs hb;simp[GS.pst,Yw,look] at hb
def R5 (l:List Int):List Int:=l.mergeSort λx y=>decide (x<=y)
def M9 (l:List Int):(R5 l).Pairwise (·<=·):=by
 have:=List.pairwise_mergeSort (le:=λx y:Int=>decide (x<=y)) (λa b c h1 h2=>by simp only[aH] at *;omega) (λa b=>by simp only[eD,aH];omega) l;exact this.imp λh=>by simpa using h
def Tm {l:List Int} {x:Int}:x∈R5 l↔x∈l:=(List.mergeSort_perm _ _).mem_iff
def NE (l:List Int):(R5 l).length=l.length:=(List.mergeSort_perm _ _).length_eq
def Vm {P:Program} {ρ:Ren} {f:Nat} (L:Lays.n189 P ρ) (hf:ρ.f 189=f):(VX .int R5).ok P f:=by
 subst hf;exact Aeb (t:=.int) (λn=>.int .i64 n) rfl (λ_=>rfl) (λ_=>rfl) NE (λp cap w=>Any.slices_Sort_int_none L p cap w) λblk off cap zs w h1 h2 h3=>Any.slices_Sort_int L blk off cap zs w h1 h2 h3
end Go.D
namespace Go.D
open Go.Shelf Go.Proofs Go.Lib
def IH {b c:UInt8} {l:List UInt8} (h:b≠c):index (b::l) [c]=if index l [c] == -1 then -1 else index l [c]+1:=by
 have h0:NoOcc (b::l) [c] 1:=(NoOcc.zero _ _).succ (by simp[occAt,List.isPrefixOf,Ne.symm h]);have:=index_drop (i:=1) h0 (by simp);simpa using this
def K9 {c:UInt8} {l:List UInt8}:index (c::l) [c]=0:=by
 have:=index_hit (s:=c::l) (sub:=[c]) (i:=0) (NoOcc.zero _ _) (by simp) (by simp[occAt,List.isPrefixOf]);simpa using this
def Yl (b:UInt8):∀ l:List UInt8,splitK [b] 0 (count l [b]) l=Nn b l:=by
 intro l
 induction l with
 | nil=>
  rfl
 | cons x l ih=>
  rw[FN];by_cases hx:x=b
  ·subst hx;rw[count_cons_eq,Nat.add_comm,splitK,K9,J_ (by decide),I_ rfl];simp_all
  ·rw[count_cons_ne _ _ _ hx,J_ hx,<-ih];cases hk:count l [b] with
   | zero=>rfl
   | succ k=>
    have hi:(index l [b] == -1)=false:=by
     cases he:(index l [b] == -1) with
     | false=>rfl
     | true=>
      have:=count_miss (s:=l) (sub:=[b]) (by simpa using he);omega
    have hi2:(index (x::l) [b] == -1)=false:=by rw[IH hx,hi];have hc:=index_ge l [b];grind
    have hc:=index_ge l [b];have hn:index l [b]≠-1:=by simpa using hi
    rw[splitK,splitK,J_ (by rw[hi2];decide),J_ (by rw[hi];decide),IH hx,J_ (by rw[hi];decide)];have e1:(index l [b]+1).toNat=(index l [b]).toNat+1:=o_
    rw[e1];rfl
def PG (b:UInt8) (s:ByteArray):splitB ⟨#[b]⟩ 0 (countB s ⟨#[b]⟩) s=spl b s:=by
 have h:=splitB_data ⟨#[b]⟩ 0 (countB s ⟨#[b]⟩) s;have h2:=Yl b s.data.toList;unfold spl;rw[show toL s=s.data.toList from rfl,<-h2];have h3:splitK (⟨#[b]⟩:ByteArray).data.toList 0 (countB s ⟨#[b]⟩) s.data.toList=splitK [b] 0 (count s.data.toList [b]) s.data.toList:=rfl;rw[h3] at h;rw[<-h,ek]
 conv=>lhs;rw[<-List.map_id (splitB _ _ _ _)]
 rfl
def YY (b:UInt8) (s:ByteArray):(spl b s).length=countB s ⟨#[b]⟩+1:=by
 rw[<-PG];exact splitB_all ⟨#[b]⟩ (aa 1) 0 _ s rfl
def N9 {P:Program} {g:Nat} {t:TypeId} {zero:Array Value} {w:World} (h:w.ShapedOpen P) (hg:g<P.globals.size)
 (h0:((begin P (λ_ _=>0) default).world.heap[g]?).bind Obj.row? = some (zero,t)) (hz:zero.size=1)
 (hb:P.buildable t=true) (hc:P.cellTypes P.depth t=some [t]) (hu:P.underlying t=some (.int .i64)):∃ m,w.cell? ⟨g,0,none⟩=some (.int .i64 m):=cell_of_shapedOpen_int h hg h0 hz hb hc hu
def Hy:Fct:=⟨[aT,aT],[.sl .str],λx=>x.1.size<4294967281/\x.2.1.size=1,λx=>(spl (x.2.1.data.getD 0 0) x.1,())⟩
def AdB {P:Program} {f:Nat} {e:TypeId}
 (h:∀ (s sep:ByteArray) (w:World),w.ShapedOpen P->s.size<4294967281->1<=sep.size->Calls P f #[.string s,.string sep] w λr w'=>r=.returned (.slice (some ⟨w.heap.size,0,none⟩) (countB s sep+1) (countB s sep+1))/\w'=w.alloc (.cells ((splitB sep 0 (countB s sep) s).map Value.string).toArray e)):Hy.ok P f:=by
 rintro⟨s,sep,⟨⟩⟩ ⟨hs,h1⟩ w vs G hB hA;obtain⟨c,rfl⟩:=one_byte sep h1;have hvs:vs = #[.string s,.string ⟨#[c]⟩]:=by
  obtain⟨v0,hv0,hr0⟩:=hA.tm 0 _ rfl;obtain⟨v1,hv1,hr1⟩:=hA.tm 1 _ rfl;obtain⟨c0,e0,r0⟩:=hr0;obtain⟨c1,e1,r1⟩:=hr1;injection e0 with e0;injection e1 with e1
  subst e0 e1;have hsz:vs.size=2:=hA.sz;apply Array.ext_getElem?;intro i
  match i with
  | 0=>rw[hv0,r0.1];rfl
  | 1=>rw[hv1,r1.1];rfl
  | i+2=>rw[Array.getElem?_eq_none o_];rfl
 subst hvs;refine(h s ⟨#[c]⟩ w hB.shaped hs (aa 1)).mono ?_;rintro e2 w' ⟨rfl,rfl⟩;rw[PG,<-YY];have hg0:(w.alloc (.cells ((spl c s).map Value.string).toArray e)).heap[w.heap.size]? = some (.cells ((spl c s).map Value.string).toArray e (0,0)):=Array.getElem?_push_size;have hold:∀ g,g<w.heap.size->(w.alloc (.cells ((spl c s).map Value.string).toArray e)).heap[g]? = w.heap[g]?:=λg hg=>by show(w.heap.push _)[g]? = _;grind
 refine⟨_,⟨mkR [.sl .str] (spl c s,()),[],[]⟩,rfl,rfl,⟨rfl,rfl,⟨rfl,by first|exact DrLe.refl _|exact DrLe.succ _|exact DrLe.add _ _⟩,?_⟩,λg hg=>hold g (hA.lt g (by simp[hg])),λg hg=>(hA.cr g hg).same (hold g (hA.lt g (by simp[hg]))),λp b=>match p with
  | .res 0 0=>b=w.heap.size
  | _=>False,?_,?_,?_,?_,?_⟩
 ·show w.heap.size<=(w.heap.push _).size;simp
 ·intro p b hp
  match p,hp with
  | .res 0 0,hp=>
   obtain rfl:=hp;refine⟨by show w.heap.size<(w.heap.push _).size;simp,⟨λhf=>?_,λhf=>?_⟩,λb0 hb0=>by simp[look] at hb0⟩
   ·exact absurd (hA.lt _ (by rw[hf];simp)) (Nat.lt_irrefl _)
   ·exact absurd (hA.lt _ (by rw[hf];simp)) (Nat.lt_irrefl _)
 ·intro p p' b h1 h2
  match p,h1,p',h2 with
  | .res 0 0,_,.res 0 0,_=>rfl
 ·refine⟨_,rfl,.inr ⟨w.heap.size,0,(spl c s).length,_,e,λ_ _ _=>False,rfl,aa _,?_,hg0,rfl,λi hi j hj=>?_,by simp,by simp⟩,rfl⟩
  ·simp[Ty.width]
  ·have hj0:j=0:=by simp only[Ty.width] at hj;omega
   subst hj0;refine⟨.string (spl c s)[i],?_,?_⟩
   ·simp[Ty.width,hi]
   ·have e3:cell .str (spl c s) i 0=(enc .str (spl c s)[i]).getD 0 .nl:=H0 (t:=.str) (xs:=spl c s) (by simp[hi]) 0;show TO _ (fcC (cell .str (spl c s) i 0)) _ _;rw[e3];exact⟨rfl,rfl⟩
 ·intro m T hm;cases hm
 ·intro b cs hb;cases hb
def SO (s p:ByteArray):ByteArray:=⟨(trimPrefix s.data.toList p.data.toList).toArray⟩
def I3:Fct:=⟨[aT,aT],[rT],λ_=>True,λx=>(SO x.1 x.2.1,())⟩
def Afi {P:Program} {f:Nat} (h:∀ (s p:ByteArray) (w:World),Calls P f #[.string s,.string p] w λe w'=>e=.returned (.string ⟨(trimPrefix s.data.toList p.data.toList).toArray⟩)/\w'=w):I3.ok P f :=
 WB rfl rfl λx _ w ow _=>(h x.1 x.2.1 w).mono λe w' ⟨a,b⟩=>⟨a,0,#[],by rw[b];exact Acq w⟩
end Go.D
namespace Go.D
open Go.Shelf Go.Proofs
def RT (sep:List UInt8):List (List UInt8)->List UInt8
 | []=>[]
 | [x]=>x
 | x::y::l=>x++sep++RT sep (y::l)
def MF (l:List ByteArray) (sep:ByteArray):ByteArray:=ofL (RT (toL sep) (l.map toL))
def R3 (sep:List UInt8):∀ l:List (List UInt8),Lib.join l sep=RT sep l
 | []=>rfl
 | [x]=>Lib.join_one x sep
 | x::y::l=>by rw[Lib.join_cons,RT,<-R3 sep (y::l),Lib.join_cons,Lib.joinTail,bZ,List.flatten_cons,Lib.joinTail,bB,bB]
def RL:Fct:=⟨[aL .str,aT],[rT],λx=>x.1.length<=140737488355328/\(MF x.1 x.2.1).size<=140737488355328,λx=>(MF x.1 x.2.1,())⟩
def AgH {P:Program} {f:Nat} (hm:∀ a b,DrLe a b)
 (h0:∀ (a:Option Addr) (c:Nat) (sep:ByteArray) (w:World),Calls P f #[.slice a 0 c,.string sep] w λe w'=>e=.returned (.string ⟨#[]⟩)/\w'=w)
 (h:∀ (bk o c:Nat) (xs:List ByteArray) (sep:ByteArray) (w:World),(∀ (j:Nat) x,xs[j]? = some x->w.cell? ⟨bk,o+j,none⟩=some (.string x))->bk<w.heap.size->xs.length<=140737488355328->xs.length<=c ->
  (Lib.join (xs.map (·.data.toList)) sep.data.toList).length<=140737488355328->Calls P f #[.slice (some ⟨bk,o,none⟩) xs.length c,.string sep] w λe w'=>e=.returned (.string ⟨(Lib.join (xs.map (·.data.toList)) sep.data.toList).toArray⟩)/\Go.RowKit.Below w.heap.size w w'):RL.ok P f:=by
 rintro⟨l,sep,⟨⟩⟩ ⟨hl,hs⟩ w vs G hB hA;obtain⟨v0,hv0,hr0⟩:=hA.tm 0 _ rfl;obtain⟨v1,hv1,hr1⟩:=hA.tm 1 _ rfl;obtain⟨c0,e0,r0⟩:=hr0;obtain⟨c1,e1,r1⟩:=hr1;injection e0 with e0
 injection e1 with e1
 subst e0 e1;have hvs:vs = #[v0,.string sep]:=by
  have hsz:vs.size=2:=hA.sz;apply Array.ext_getElem?;intro i
  match i with
  | 0=>rw[hv0];rfl
  | 1=>rw[hv1,r1.1];rfl
  | i+2=>rw[Array.getElem?_eq_none o_];rfl
 subst hvs;have hr:TR w (src G none) (fcC (.l .str l)) v0:=r0;rw[Fo] at hr;obtain⟨a,cap,rfl,hcap,hcase⟩:=hr;have hk:Ty.str.width=1:=rfl;have fin:∀ (e:Ending) (w':World),e=.returned (.string (MF l sep))/\Go.RowKit.Below w.heap.size w w'->Ux w G (λp=>p=⟨mkR [rT] (MF l sep,()),[],[]⟩) e w':=by
  rintro e w' ⟨rfl,hb⟩;refine⟨_,⟨mkR [rT] (MF l sep,()),[],[]⟩,rfl,rfl,⟨hb.os,hb.tape,⟨hb.output,hm _ _⟩,hb.size⟩,λg hg=>hb.block g (hA.lt g (by simp[hg])),λg hg=>(hA.cr g hg).same (hb.block g (hA.lt g (by simp[hg]))),λ_ _=>False,by simp,by simp,⟨_,rfl,⟨rfl,rfl⟩,rfl⟩,?_,?_⟩
  ·intro m T hm;cases hm
  ·intro b cs hb;cases hb
 have ej:∀ xs:List ByteArray,(⟨(Lib.join (xs.map (·.data.toList)) sep.data.toList).toArray⟩:ByteArray)=MF xs sep:=λxs=>by rw[R3];rfl
 rcases hcase with hn|⟨g,o,row,e,fr,rfl,hg,hrow,hcells⟩
 ·have hl0:l=[]:=List.eq_nil_of_length_eq_zero hn;subst hl0;exact(h0 a cap sep w).mono λe w' ⟨h1,h2⟩=>fin e w' ⟨h1,h2▸Go.RowKit.Below.refl _ _⟩
 ·refine(h g o cap l sep w (λj x hj=>?_) ?_ hl hcap ?_).mono λe w' ⟨h1,h2⟩=>fin e w' ⟨?_,h2⟩
  ·have hjl:j<l.length:=(List.getElem?_eq_some_iff.1 hj).1;obtain⟨u,hu,ht⟩:=hcells j hjl 0 (by rw[hk];omega);have e3:cell .str l j 0=(enc .str l[j]).getD 0 .nl:=H0 (t:=.str) (xs:=l) (x:=l[j]) (by rw[aX hjl]) 0;have ht3:TR w (src G none) (fcC (cell .str l j 0)) u:=ht;rw[e3] at ht3;have ht2:u=.string l[j]:=ht3.1;have hx:l[j]=x:=by rw[aX hjl] at hj;injection hj
   rw[hk,Nat.mul_one,Nat.add_zero] at hu;simp only[World.cell?,hrow];rw[<-hx,<-ht2];simpa using hu
  ·exact(Array.getElem?_eq_some_iff.1 hrow).1
  ·rw[R3];have:(MF l sep).size=(RT sep.data.toList (l.map (·.data.toList))).length:=by unfold MF;rw[HW];rfl
   have hs2:(MF l sep).size<=140737488355328:=hs;rw[this] at hs2;exact hs2
  ·rw[h1,ej]
end Go.D
namespace Go.D
open Go.Shelf Go.Proofs Go.Sort
def Afc:Fct:=⟨[aI],[rT],λx=>-9223372036854775808<=x.1/\x.1<=9223372036854775807,λx=>(Kt x.1,())⟩
def AgT {P:Program} {f:Nat} (hg : (P.globalNamed "internal/strconv.uint64pow10").isSome=true)
 (h:∀ n:Int,-9223372036854775808<=n->n<=9223372036854775807->∀ w:World,Lib.TabIs P w "internal/strconv.uint64pow10" .u64 Lib.pow10Tab->Calls P f #[.int .i64 n] w λe w'=>e=.returned (.string ⟨(Lib.itoa n).toArray⟩)/\∃ k os,w'=grow (w.drewN k) os):Afc.ok P f :=
 WB rfl rfl λx hx w ow hB=>(h x.1 hx.1 hx.2 w (hB.laid.1 hg)).mono λe w' ⟨a,b⟩=>⟨a,b⟩
end Go.D
namespace Go.D
open Go.Shelf Go.Proofs Go.Lib Go.Sort
def Ack (b:UInt8):∀ l:List UInt8,Lib.cut l [b]=match G7 b l with|some (p,q)=>(p,q,true)|none=>(l,[],false):=by
 intro l
 induction l with
 | nil=>rfl
 | cons x l ih=>
  unfold Lib.cut at ih ⊢;by_cases hx:x=b
  ·subst hx;rw[K9,I_ (by decide)];simp[G7]
  ·have hg:=index_ge l [b];rw[IH hx];simp only[G7,J_ hx];by_cases hi:0<=index l [b]
   ·rw[I_ hi] at ih;have hn:(index l [b] == -1)=false:=by simp;omega
    simp only[hn,cX,bC];rw[I_ o_];have e1:(index l [b]+1).toNat=(index l [b]).toNat+1:=o_
    cases hc:G7 b l with
    | none=>rw[hc] at ih;simp at ih
    | some r=>
     obtain⟨p,q⟩:=r;rw[hc] at ih;simp only[bW] at ih;rw[e1,List.take_succ_cons,Nat.add_right_comm,List.drop_succ_cons,ih.1,ih.2.1];rfl
   ·rw[J_ hi] at ih;have hn:index l [b] = -1:=o_
    rw[hn];cases hc:G7 b l with
    | none=>rfl
    | some r=>
     obtain⟨p,q⟩:=r;rw[hc] at ih;simp at ih
def Hl (b:UInt8) (s:ByteArray):ByteArray×ByteArray×Bool:=match G7 b (toL s) with
 | some (p,q)=>(ofL p,ofL q,true)
 | none=>(s,⟨#[]⟩,false)
def Ab5:Fct:=⟨[aT,aT],[rT,rT,rB],λx=>x.1.size<4294967281/\x.2.1.size=1,λx=>((Hl (x.2.1.data.getD 0 0) x.1).1,(Hl (x.2.1.data.getD 0 0) x.1).2.1,(Hl (x.2.1.data.getD 0 0) x.1).2.2,())⟩
def AcV (b:UInt8) (s:ByteArray):(⟨(Lib.cut s.data.toList [b]).1.toArray⟩:ByteArray)=(Hl b s).1/\(⟨(Lib.cut s.data.toList [b]).2.1.toArray⟩:ByteArray)=(Hl b s).2.1/\(Lib.cut s.data.toList [b]).2.2=(Hl b s).2.2:=by
 rw[Ack];unfold Hl;rw[show toL s=s.data.toList from rfl];cases G7 b s.data.toList with
 | none=>exact⟨by simp,rfl,rfl⟩
 | some r=>exact⟨rfl,rfl,rfl⟩
def Ahu {P:Program} {f:Nat} (h:∀ (s sep:ByteArray) (w:World),w.ShapedOpen P->s.size<4294967281->Calls P f #[.string s,.string sep] w λe w'=>e=.returned (.tuple #[.string ⟨(Lib.cut s.data.toList sep.data.toList).1.toArray⟩,.string ⟨(Lib.cut s.data.toList sep.data.toList).2.1.toArray⟩,.bool (Lib.cut s.data.toList sep.data.toList).2.2])/\∃ n,w'=w.drewN n):Ab5.ok P f :=
 WB rfl rfl λx hx w ow hB=>(h x.1 x.2.1 w hB.shaped hx.1).mono λe w' ⟨a,n,b⟩=>by obtain⟨c,hc⟩:=one_byte x.2.1 hx.2;obtain⟨s,sep,⟨⟩⟩:=x;dsimp only at hc;subst hc;obtain⟨k1,k2,k3⟩:=AcV c s;refine⟨?_,n,#[],by rw[b];simp[grow,World.drewN]⟩;rw[a];show Ending.returned (.tuple #[.string ⟨(Lib.cut s.data.toList [c]).1.toArray⟩,.string ⟨(Lib.cut s.data.toList [c]).2.1.toArray⟩,.bool (Lib.cut s.data.toList [c]).2.2])=_;rw[k1,k2,k3];rfl
end Go.D
namespace Go.D
open Go.Shelf Go.Proofs Go.Sort
def Afy {P:Program} {f:Nat} {S:Fct} {a:ByteArray->ByteArray->Int} (hS:S=⟨[aT,aT],[rI],λ_=>True,λx=>(a x.1 x.2.1,())⟩) (h:∀ (x y:ByteArray) (w:World),Calls P f #[.string x,.string y] w λe w'=>e=.returned (.int .i64 (a x y))/\w'=w):S.ok P f:=by
 subst hS;rintro⟨x,y,⟨⟩⟩ _;intro w vs G _ hA;obtain⟨v0,hv0,c0,hc0,hr0⟩:=hA.tm 0 (.v false [.sc (.string x)]) rfl;injection hc0 with hc0
 subst hc0;obtain⟨v1,hv1,c1,hc1,hr1⟩:=hA.tm 1 (.v false [.sc (.string y)]) rfl;injection hc1 with hc1
 subst hc1;have hvs:vs = #[.string x,.string y]:=by
  apply Array.ext
  ·rw[hA.sz];rfl
  ·intro i h1 h2
   match i,h1,h2 with
   | 0,h1,h2=>rw[Array.getElem?_eq_getElem h1] at hv0;injection hv0 with hv0;rw[hv0];exact hr0.1
   | 1,h1,h2=>rw[Array.getElem?_eq_getElem h1] at hv1;injection hv1 with hv1;rw[hv1];exact hr1.1
   | i+2,h1,h2=>exact absurd (show i+2<2 from h2) o_
 subst hvs;refine(h x y w).mono ?_;rintro e w' ⟨rfl,rfl⟩;refine⟨_,_,rfl,rfl,⟨rfl,rfl,⟨rfl,by first|exact DrLe.refl _|exact DrLe.succ _|exact DrLe.add _ _⟩,aa _⟩,λ_ _=>rfl,λ_ hc=>(hA.cr _ hc).same rfl,λ_ _=>False,by simp,by simp,?_,?_,?_⟩
 ·exact⟨_,rfl,⟨rfl,rfl⟩,rfl⟩
 ·intro m T hm;cases hm
 ·intro b cs hb;cases hb
end Go.D
