/-
  The library of the proof, part 5.
-/
import Derived.Test.YtfklkhgmgglloaaGreatVLd
import Derived.Shelf.Sort.Plain
import Derived.Shelf.Slices.In.SortNone
import Derived.Shelf.Small.Strs
import Derived.Shelf.SlSortCmp.NoneTotal
set_option linter.defProp false
set_option linter.unusedVariables false
set_option linter.unusedSimpArgs false
namespace Go.D
open Go.Shelf Go.Proofs Go.Sort
def Yz (l:List Int):List Int:=l.mergeSort λx y=>decide (x<=y)
def SK (l:List Int):(Yz l).Pairwise (·<=·):=by
 have:=List.pairwise_mergeSort (le:=λx y:Int=>decide (x<=y)) (λa b c h1 h2=>by simp only[av] at *;omega) (λa b=>by simp only[db,av];omega) l;exact this.imp λh=>by simpa using h
def AaC {l:List Int} {x:Int}:x∈Yz l↔x∈l:=(List.mergeSort_perm _ _).mem_iff
def Zg (l:List Int):(Yz l).length=l.length:=(List.mergeSort_perm _ _).length_eq
end Go.D
namespace Go.D
open Go.Shelf Go.Proofs Go.Sort
def AhN {P:Program} {f:Nat} {S:Fct} {a:ByteArray->ByteArray->Int} (hS:S=⟨[aT,aT],[rI],λ_=>True,λx=>(a x.1 x.2.1,())⟩) (h:∀ (x y:ByteArray) (w:World),Calls P f #[.string x,.string y] w λe w'=>e=.returned (.int .i64 (a x y))/\w'=w):S.ok P f:=by
 subst hS;rintro⟨x,y,⟨⟩⟩ _;intro w vs G _ hA;obtain⟨v0,hv0,c0,hc0,hr0⟩:=hA.tm 0 (.v false [.sc (.string x)]) rfl;injection hc0 with hc0
 subst hc0;obtain⟨v1,hv1,c1,hc1,hr1⟩:=hA.tm 1 (.v false [.sc (.string y)]) rfl;injection hc1 with hc1
 subst hc1;have hvs:vs = #[.string x,.string y]:=by
  apply Array.ext
  ·rw[hA.sz];rfl
  ·intro i h1 h2
   match i,h1,h2 with
   | 0,h1,h2=>rw[Array.getElem?_eq_getElem h1] at hv0;injection hv0 with hv0;rw[hv0];exact hr0.1
   | 1,h1,h2=>rw[Array.getElem?_eq_getElem h1] at hv1;injection hv1 with hv1;rw[hv1];exact hr1.1
   | i+2,h1,h2=>exact absurd (show i+2<2 from h2) o_
 subst hvs;refine(h x y w).mono ?_;rintro e w' ⟨rfl,rfl⟩;refine⟨_,_,rfl,rfl,⟨rfl,rfl,⟨rfl,by first|exact DrLe.refl _|exact DrLe.succ _|exact DrLe.add _ _⟩,Y_ _⟩,λ_ _=>rfl,λ_ hc=>(hA.cr _ hc).same rfl,λ_ _=>False,by simp,by simp,?_,?_,?_⟩
 ·exact⟨_,rfl,⟨rfl,rfl⟩,rfl⟩
 ·intro m T hm;cases hm
 ·intro b cs hb;cases hb
end Go.D
namespace Go.D
open Go.Shelf Go.Proofs Go.Sort
def N2 (x:FS):List Value:=[.string x.host,.string x.path]
abbrev Tv (g:Nat) (cf:FS->FS->Int):GS:=⟨[.k (.sl .addr),.l (.c g [])],[],λx=>x.1.length<4611686018427387904,λx=>((),(x.1.mergeSort λa b=>!(ltOf cf) b a,()))⟩
def AdS {d:Array FS} {i j:Nat} (hi:i<d.size) (hj:j<2):(flatK N2 2 d)[i*2+j]! = (N2 d[i]!)[j]!:=by
 rw[get_flatK _ _ _ _ o_];have e1:(i*2+j) / 2=i:=o_
 have e2:(i*2+j) % 2=j:=o_
 rw[e1,e2]
def AfY (x:FS) (j:Nat) (hj:j<2):fcC ((enc .addr x).getD j .nl)=.val (N2 x)[j]!/\plain (N2 x)[j]! = true:=by
 match j,hj with
 | 0,_=>exact⟨rfl,rfl⟩
 | 1,_=>exact⟨rfl,rfl⟩
def Aka {l:List FS} {i j:Nat} (hi:i<l.length) (hj:j<2):fcC (cell .addr l i j)=.val (N2 l.toArray[i]!)[j]!/\plain (N2 l.toArray[i]!)[j]! = true:=by
 have e:l.toArray[i]! = l[i]:=by simp[hi]
 have e2:cell .addr l i j=(enc .addr l[i]).getD j .nl:=Io (t:=.addr) (xs:=l) (by simp[hi]) j;rw[e,e2];exact AfY l[i] j hj
def AfR {P:Program} {ρ:Ren} {f g:Nat} {cf:FS->FS->Int} (L:SlLaysF0.n6 P ρ) (hf:ρ.f 6=f) (aE:∀ w,(isAgg (ρ.t 24)).run P w=.ok true w) (zE:∀ w,(Go.sizeOf (ρ.t 24)).run P w=.ok 2 w)
 (hO:SWO (ltOf cf)) (hT:∀ x y,(ltOf cf) x y=false->(ltOf cf) y x=false->x=y) (eg:∀ args w,(callFunc g args).run P w=.ok (.enter g args) w) (hc:∀ x y W,Calls P g #[.agg (N2 x).toArray,.agg (N2 y).toArray] W λe w'=>e=.returned (.int .i64 (cf x y))/\∃ q os,w'=grow (W.drewN q) os):(Tv g cf).ok P f:=by
 subst hf;rintro⟨l,u,⟨⟩⟩ hlen;intro w vs G hB hA;obtain⟨v0,hv0,c0,hc0,hr0⟩:=hA.tm 0 (.v false [.ref 0]) rfl;injection hc0 with hc0
 subst hc0;obtain⟨v1,hv1,vs1,rfl,hs1,_⟩:=hA.tm 1 (.clo g []) rfl;have hvs1:vs1 = #[]:=Array.eq_empty_of_size_eq_zero (by simpa using hs1);subst hvs1;have hvs:vs = #[v0,.func (.func g) #[] #[]]:=by
  have hsz:=hA.sz;apply Array.ext
  ·rw[hsz];rfl
  ·intro i h1 h2
   match i,h1,h2 with
   | 0,h1,h2=>rw[Array.getElem?_eq_getElem h1] at hv0;injection hv0
   | 1,h1,h2=>rw[Array.getElem?_eq_getElem h1] at hv1;injection hv1
   | i+2,h1,h2=>exact absurd (show i+2<2 from h2) o_
 have hto:=hA.hp 0 ⟨.addr,l⟩ rfl;subst hvs;rw[hr0.1];have lenS:(l.mergeSort λa b=>!(ltOf cf) b a).length=l.length:=(List.mergeSort_perm _ _).length_eq;rcases hto with⟨⟨ad,hv⟩,hz⟩|⟨blk,off,cap,row,e,GG,hv,hnc,hcap,hg,hF,hrow,hsub,hdis⟩
 ·have hl:l=[]:=List.eq_nil_of_length_eq_zero hz;subst hl;rw[hv];refine(AnyF.slices_SortFunc_none { L with } ad 0 _ w).mono ?_;rintro e w' ⟨rfl,rfl⟩;refine⟨_,_,rfl,rfl,⟨rfl,rfl,⟨rfl,by first|exact DrLe.refl _|exact DrLe.succ _|exact DrLe.add _ _⟩,Y_ _⟩,λ_ _=>rfl,λ_ hc=>(hA.cr _ hc).same rfl,λ_ _=>False,?_,?_,?_,?_,?_⟩
  ·simp
  ·simp
  ·exact⟨#[],rfl,rfl,by simp[Jq]⟩
  ·intro m T hm;have hm':look [(0,(⟨.addr,([]:List FS).mergeSort λa b=>!(ltOf cf) b a⟩:Tree))] m=some T:=hm;simp only[look] at hm';split at hm'
   ·rename_i e0;have e0':m=0:=by simpa using e0
    subst e0';simp only[Q_] at hm';subst hm';exact .inl ⟨⟨ad,by rw[hv]⟩,by simp[Tree.n]⟩
   ·cases hm'
  ·intro b cs hb;simp[GS.pst,YT,look] at hb
 ·have hn:(⟨.addr,l⟩:Tree).n=l.length:=rfl;have hk:(⟨.addr,l⟩:Tree).k=2:=rfl;rw[hn] at hv hnc hrow hsub hdis;rw[hk] at hcap hrow hsub hdis;rw[hv];have hH:HoldsK N2 2 w blk off l.toArray:=by
   intro t ht;have ht':t<l.length*2:=by simpa using ht
   have h1:t / 2<l.length:=o_
   have h2:t % 2<2:=o_
   obtain⟨u',hu',htt⟩:=hrow (t / 2) h1 (t % 2) h2;have e1:off+t / 2*2+t % 2=off+t:=o_
   rw[e1] at hu';have hcell:=(Aka h1 h2).1;have htt':TO w (fcC (cell .addr l (t / 2) (t % 2))) u' _:=htt;rw[hcell] at htt';obtain⟨rfl,_⟩:=htt';have e2:(flatK N2 2 l.toArray)[t]! = (N2 l.toArray[t / 2]!)[t % 2]!:=get_flatK _ _ _ _ (by simpa using ht');refine⟨?_,?_⟩
   ·rw[e2];simp[World.cell?,hg,hu']
   ·simp[World.frozen?,hg]
  have hblk:blk<w.heap.size:=(Array.getElem?_eq_some_iff.1 hg).1;have hcon:=AnyQ.slices_SortFunc_total L 2 aE zE N2 (λ_=>rfl) (by intro x v hv';simp[N2] at hv';rcases hv' with rfl|rfl<;>rfl) cf hO g #[] blk off cap l.toArray w eg (λ_ _ _ _ x y=>hc x y _) hH hblk (by simpa using hlen) hT;refine hcon.mono ?_;rintro e2 w' ⟨rfl,n,os,hw⟩;generalize hsd:(l.mergeSort λa b=>!(ltOf cf) b a)=sd at lenS;have hpost:(Tv g cf).fn (l,u,())=((),(sd,())):=by rw[<-hsd]
  have hW:∀ b,b<w.heap.size->b≠blk->(sortWorldK N2 2 w blk off n sd.toArray os).heap[b]? = w.heap[b]?:=by intro b hb hne;unfold sortWorldK;rw[heap_grow_old _ _ (by rw[size_putRowK];exact hb)];simp[putRowK,putRow,mapBlock,Array.getElem?_modify,Ne.symm hne,Sort.ahead]
  have hcells:∃ row',(sortWorldK N2 2 w blk off n sd.toArray os).heap[blk]? = some (.cells row' e (0,0))/\row'.size=row.size/\∀ t,t<l.length*2->row'[off+t]? = some (flatK N2 2 sd.toArray)[t]!:=by
   refine⟨putCells id off (flatK N2 2 sd.toArray) row,?_,by simp[putCells],λt ht=>?_⟩
   ·unfold sortWorldK;rw[heap_grow_old _ _ (by rw[size_putRowK];exact hblk)];simp[putRowK,putRow,mapBlock,Array.getElem?_modify,Sort.ahead,hg,onCells]
   ·have hlt:off+t<row.size:=by have:l.length*2<=cap*2:=da _ hnc;omega
    simp only[putCells,Array.getElem?_mapIdx,Array.getElem?_eq_getElem hlt,aY,size_flatK];rw[G_ ⟨o_,by simp[lenS];omega⟩,show off+t-off=t from o_];rfl
  obtain⟨row',hg',hrs,hcell'⟩:=hcells;have hsdef:l.toArray.toList.mergeSort (λx y=>!(ltOf cf) y x)=sd:=hsd;rw[hsdef] at hw;subst hw;refine⟨_,(Tv g cf).pst ((),(sd,())),by rw[<-hpost];rfl,rfl,?_,?_,?_,λs b=>match s with
   | .keep 0=>b=blk
   | _=>False,?_,?_,?_,?_,?_⟩
  ·refine⟨rfl,rfl,⟨rfl,?_⟩,?_⟩
   ·exact DrLe.add _ _
   ·unfold sortWorldK;rw[size_grow,size_putRowK];exact cO _ _
  ·intro b hb;refine hW b (hA.lt b (by simp[hb])) ?_;rintro rfl;rw[hF] at hb;cases hb
  ·intro b hb;refine(hA.cr b hb).same (hW b (hA.lt b (by simp[hb])) ?_);rintro rfl;rw[hF] at hb;cases hb
  ·intro s b hs
   match s,hs with
   | .keep 0,hs=>
    obtain rfl:=hs;refine⟨(Array.getElem?_eq_some_iff.1 hg').1,⟨(by rw[hF];intro h;cases h),(by rw[hF];intro h;cases h)⟩,λb0 hb0=>by simp[GS.pst,YT,look] at hb0⟩
  ·intro s s' b h1 h2
   match s,h1,s',h2 with
   | .keep 0,_,.keep 0,_=>rfl
  ·exact⟨#[],rfl,rfl,by simp[Jq]⟩
  ·intro m T hm;have hm':look [(0,(⟨.addr,sd⟩:Tree))] m=some T:=hm;simp only[look] at hm';split at hm'
   ·rename_i e0;have e0':m=0:=by simpa using e0
    subst e0';simp only[Q_] at hm';subst hm';refine .inr ⟨blk,off,cap,row',e,λ_ _ _=>False,by rw[hv];simp[Tree.n,lenS],by simp[Tree.n,lenS];exact hnc,by rw[hrs];exact hcap,hg',rfl,λi hi j hj=>?_,by simp,by simp⟩;have hi':i<sd.length:=hi;have hj':j<2:=hj;refine⟨_,by rw[show(⟨.addr,sd⟩:Tree).k=2 from rfl,Nat.add_assoc];exact hcell' (i*2+j) o_,?_⟩;have h3:(flatK N2 2 sd.toArray)[i*2+j]! = (N2 sd.toArray[i]!)[j]!:=AdS (by simpa using hi') hj';have h4:=Aka hi' hj';show TO _ (fcC (cell .addr sd i j)) _ _;rw[h4.1,h3];exact⟨rfl,h4.2⟩
   ·cases hm'
  ·intro b cs hb;simp[GS.pst,YT,look] at hb
end Go.D
