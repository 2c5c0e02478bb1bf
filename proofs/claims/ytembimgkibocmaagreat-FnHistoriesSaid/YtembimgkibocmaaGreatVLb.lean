/-
  The library of the proof, part 2.
-/
import Derived.Test.YtembimgkibocmaaGreatVLa
import Derived.Lib.ConvBytes
set_option linter.unusedVariables false
set_option linter.unusedSimpArgs false
namespace Go.D
section
variable {P:Program} {F:Fr P} {G:Gh} {σ:St} {a:Act} {w:World} {o:Oper} {K:St→Out} {Q:Post} {Qx:Exit→Act→World→Prop}
theorem splice_at {L N:List Value} {A x:Nat} (h:A+N.length≤L.length):(L.take A++N++L.drop (A+N.length))[x]? = if x<A then L[x]? else if x<A+N.length then N[x-A]? else L[x]?:=by
 grind
def put3 {α:Type} (xs:List α) (e:Nat) (ys:List α):List α:=xs.take e++ys++xs.drop (e+ys.length)
theorem put3_len {α:Type} {xs ys:List α} {e:Nat} (h:e+ys.length≤xs.length):(put3 xs e ys).length=xs.length:=by
 simp only[put3,List.length_append,List.length_take,List.length_drop]
 omega
theorem put3_getD {α:Type} [Inhabited α] {xs ys:List α} {e i:Nat} (h:e+ys.length≤xs.length):(put3 xs e ys).getD i default=if e≤i∧i<e+ys.length then ys.getD (i-e) default else xs.getD i default:=by
 have e1:(xs.take e).length=e:=by simp;omega
 simp only[put3,List.getD_eq_getElem?_getD,List.append_assoc]
 grind
theorem cell_put3 {t:Ty} {xs ys:List (El t)} {e i j:Nat} (h:e+ys.length≤xs.length):cell t (put3 xs e ys) i j=if e≤i∧i<e+ys.length then cell t ys (i-e) j else cell t xs i j:=by
 unfold cell
 rw[put3_getD h]
 split<;>rfl
def putSt (σ:St) (l:Nat) (T:Tree):St:=({ σ with hp:=(l,T)::σ.hp.filter fun p=>!([]:List Nat).contains p.1 }.kill []).loose [l]
theorem put_flat (h:RG F G σ a w) {l e0:Nat} {T0:Tree} (hl:look σ.hp l=some T0) (hf:flatTy T0.t=true) {g off cap:Nat} (hv:G.hv l=.slice (some ⟨g,off,none⟩) T0.n cap) (h0:0<T0.n) {ys:List (El T0.t)} {news:List Value}
 (hle:e0+ys.length≤T0.n) (hlen:news.length=ys.length*T0.k) (hnews:∀ i,i<ys.length→∀ j,j<T0.k→∃ u,news[i*T0.k+j]? = some u∧∃ S,TR w S (fcC (cell T0.t ys i j)) u) :
 ∃ row e,w.heap[g]? = some (.cells row e (0,0))∧off+e0*T0.k+news.length≤row.size∧T0.n≤cap∧∃ G',RG F G' (putSt σ l ⟨T0.t,put3 T0.xs e0 ys⟩) a (w.setRow g (row.toList.take (off+e0*T0.k)++news++row.toList.drop (off+e0*T0.k+news.length)).toArray)∧G'.hv=G.hv:=by
 rcases h.hp l T0 hl with⟨_,hz⟩|⟨g',off',cap',row,e,GG,hv2,hnc,hcap,hg,hF,hrow,hsub,hdis⟩
 ·omega
 ·rw[hv] at hv2
  injection hv2 with e1 e2 e3
  injection e1 with e1
  injection e1 with e4 e5
  subst e4;subst e5;subst e3
  have hk:T0.n=T0.xs.length:=rfl
  have b1:(e0+ys.length)*T0.k≤T0.n*T0.k:=Nat.mul_le_mul_right _ hle
  have b2:T0.n*T0.k≤cap*T0.k:=Nat.mul_le_mul_right _ hnc
  rw[Nat.add_mul] at b1
  have bound:off+e0*T0.k+news.length≤row.size:=by omega
  refine⟨row,e,hg,bound,hnc,?_⟩
  have hlist:off+e0*T0.k+news.length≤row.toList.length:=by simpa using bound
  have hTn:(⟨T0.t,put3 T0.xs e0 ys⟩:Tree).n=T0.n:=put3_len hle
  have hTk:(⟨T0.t,put3 T0.xs e0 ys⟩:Tree).k=T0.k:=rfl
  obtain⟨G',hG',hh,_⟩:=h.setTree (w':=w.setRow g (row.toList.take (off+e0*T0.k)++news++row.toList.drop (off+e0*T0.k+news.length)).toArray) l [] T0 ⟨T0.t,put3 T0.xs e0 ys⟩ hl (by simp) (by simp) ⟨rfl,rfl,⟨rfl,by first|exact DrLe.refl _|exact DrLe.succ _|exact DrLe.add _ _⟩,by simp⟩
   (fun b hb hbl=>setRow_other w g b _ (fun e=>hbl (e▸hF))) (by
    refine .inr ⟨g,off,cap,_,e,fun _ _ _=>False,by rw[hTn];exact hv,by rw[hTn];exact hnc,?_,setRow_heap w g row _ e _ hg,.inl hF,?_,by simp,by simp⟩
    ·rw[hTk]
     simp only[List.size_toArray,List.length_append,List.length_take,List.length_drop,Array.length_toList]
     omega
    ·intro i hi j hj
     rw[hTn] at hi
     rw[hTk] at hj ⊢
     simp only[Tree.f,List.getElem?_toArray]
     rw[cell_put3 hle,splice_at hlist]
     have b3:(i+1)*T0.k≤T0.n*T0.k:=Nat.mul_le_mul_right _ hi
     rw[Nat.add_mul] at b3
     by_cases hin:e0≤i∧i<e0+ys.length
     ·rw[if_pos hin]
      obtain⟨u,hu,S,ht⟩:=hnews (i-e0) (by omega) j hj
      have c1:e0*T0.k≤i*T0.k:=Nat.mul_le_mul_right _ hin.1
      have c2:(i-e0+1)*T0.k≤ys.length*T0.k:=Nat.mul_le_mul_right _ (by omega)
      have c3:(i-e0)*T0.k+e0*T0.k=i*T0.k:=by rw[←Nat.add_mul];congr 1;omega
      rw[Nat.add_mul] at c2
      rw[if_neg (by omega),if_pos (by omega)]
      refine⟨u,?_,?_⟩
      ·rw[←hu];congr 1;omega
      ·obtain⟨u2,hu2⟩:=cell_flat hf ys (i-e0) j hj
       rw[hu2] at ht ⊢
       exact ht
     ·rw[if_neg hin]
      obtain⟨u,hu,ht⟩:=hrow i hi j hj
      have ht2:TO (w.setRow g (row.toList.take (off+e0*T0.k)++news++row.toList.drop (off+e0*T0.k+news.length)).toArray) (fcC (cell T0.t T0.xs i j)) u (fun _=>False):=by
       obtain⟨u2,hu2⟩:=cell_flat hf T0.xs i j hj
       have ht':TO w (fcC (cell T0.t T0.xs i j)) u (GG i j):=ht
       rw[hu2] at ht' ⊢
       exact ht'
      refine⟨u,?_,ht2⟩
      by_cases hlo:i<e0
      ·have c1:(i+1)*T0.k≤e0*T0.k:=Nat.mul_le_mul_right _ hlo
       rw[Nat.add_mul] at c1
       rw[if_pos (by omega)]
       simpa using hu
      ·have c1:(e0+ys.length)*T0.k≤i*T0.k:=Nat.mul_le_mul_right _ (by omega)
       rw[Nat.add_mul] at c1
       rw[if_neg (by omega),if_neg (by omega)]
       simpa using hu)
  exact⟨G',hG',hh⟩
def putK (o:Oper) (σ:St) (x:TV) (K:St→Out):Out:=match o.dst with
 | some d=>bif decide (d<σ.nt) then K (σ.put d x) else .bad
 | none=>K σ
theorem putK_ok {w':World} {x:TV} {v:Value} (h:RG F G σ a w') (hh:(putK o σ x K).holds Q) (hx:TVR w' G x v):Cont F K Q (a.put o.dst v) w':=by
 unfold putK at hh
 split at hh
 ·rename_i d hd
  cases hc:decide (d<σ.nt) with
  | false=>rw[hc,cond_false] at hh;exact hh.elim
  | true=>
   rw[hc,cond_true] at hh
   rw[hd]
   exact⟨_,⟨G,RG.put h (by simpa using hc) hx⟩,hh⟩
 ·rename_i hd
  rw[hd]
  exact⟨_,⟨G,h⟩,hh⟩
def opAppIn (P:Program) (o:Oper) (T:TypeId) (l k lo m k2 lo2 m2:Nat) (σ:St) (K:St→Out):Out :=
 match P.underlying T with
 | some (.slice e)=>match P.info? e,look σ.hp l with
  | some i,some T0=>if T0.k=i.size∧k=i.size∧k2=i.size∧flatTy T0.t=true then
   .ob (lo=0∧0<T0.n∧lo2+m2≤T0.n∧m+m2≤T0.n) (putK o (putSt σ l ⟨T0.t,put3 T0.xs m (cut T0.xs lo2 m2)⟩) (.v false [.sub l k 0 (m+m2)]) K) else .bad
  | _,_=>.bad
 | _=>.bad
theorem opAppIn_ok {T:TypeId} {s x:Operand} {l k lo m k2 lo2 m2:Nat} (h:RG F G σ a w) (ho:o.op=.call { callee:=.builtin .append,args := #[s,x],argTypes := #[T,T]}) (hs:σ.eval s=.v false [.sub l k lo m]) (hx:σ.eval x=.v false [.sub l k2 lo2 m2])
 (hh:(opAppIn P o T l k lo m k2 lo2 m2 σ K).holds Q):o.wp P a w (Cont F K Q) Qx:=by
 unfold opAppIn at hh
 have hsv:=eval_ok h s
 have hxv:=eval_ok h x
 rw[hs] at hsv
 obtain⟨c,hc,hcr⟩:=hsv
 injection hc with hc
 subst hc
 split at hh
 ·rename_i e hu
  split at hh
  ·rename_i i T0 hi hl
   split at hh
   ·rename_i hc
    obtain⟨hk,hk1,hk2,hf⟩:=hc
    obtain⟨⟨hlo,h0,hle2,hle⟩,hh⟩:=hh
    subst hlo
    rcases hcr with⟨ad,e1,_⟩|⟨g,off,mm,cap,off',hv,hlc,hav,hof⟩
    ·rcases h.hp l T0 hl with⟨_,hz⟩|⟨g,off,cap,row,e',GG,hv2,_⟩
     ·omega
     ·rw[e1] at hv2;injection hv2 with _ e2 _;omega
    ·have hmm:mm=T0.n:=by
      rcases h.hp l T0 hl with⟨_,hz⟩|⟨g,off,cap,row,e',GG,hv2,_⟩
      ·omega
      ·rw[hv] at hv2;injection hv2
     subst hmm
     have hsrc:srcOf σ (σ.eval x)=some (lo2+m2≤T0.n,⟨T0.t,cut T0.xs lo2 m2⟩):=by
      rw[hx];simp only[srcOf,hl];rw[if_pos (by omega)]
     obtain⟨S,htr⟩:=srcOf_ok h hxv hsrc hle2
     have hcl:(cut T0.xs lo2 m2).length=m2:=len_cut hle2
     rw[fcC_l] at htr
     have hkt:T0.t.width=i.size:=hk
     rw[hkt,hcl] at htr
     obtain⟨news,hn1,hn2,hn3⟩:=tr_src (P:=P) (by rw[←hkt];exact width_pos _) htr
     obtain⟨row,er,hg,hb,hnc,G',hG',hh2⟩:=put_flat (e0:=m) (ys:=cut T0.xs lo2 m2) (news:=news) h hl hf hv h0 (by rw[hcl];exact hle) (by rw[hcl,hk];exact hn1.len) (by
      intro i' hi' j' hj'
      rw[hcl] at hi'
      rw[hk] at hj' ⊢
      obtain⟨u,hu,ht⟩:=hn3 i' hi' j' hj'
      exact⟨u,hu,S,ht⟩)
     have hoff:off'=off:=by
      omega
     subst hoff
     have hrun:=run_app_room (P:=P) (w:=w) T o.type e i hu hi g off' m cap row er hg (a.eval x) m2 news hn1 hn2 (by omega) (by rw[←hk];exact hb)
     have hav':a.eval s=.slice (some ⟨g,off',none⟩) m cap:=by simpa using hav
     refine wp_val (v:=.slice (some ⟨g,off',none⟩) (m+m2) cap) ?_ (putK_ok (v:=.slice (some ⟨g,off',none⟩) (m+m2) cap) hG' hh ⟨_,rfl,.inr ⟨g,off',T0.n,cap,off',by rw[hh2];exact hv,by omega,by simp,.inl (by simp)⟩⟩)
     rw[hk]
     simp[execOp,ho,resolve,invoke,builtin,hav',hrun]
   ·exact hh.elim
  ·exact hh.elim
 ·exact hh.elim
def winOf (σ:St):TV→Option (Nat×Nat×Nat×Nat)
 | .v false [.ref l]=>match look σ.hp l with
  | some T=>some (l,T.k,0,T.n)
  | none=>none
 | .v false [.sub l k lo n]=>some (l,k,lo,n)
 | _=>none
theorem winOf_ok {x:TV} {v:Value} {l k lo n:Nat} (h:RG F G σ a w) (hx:TVR w G x v) (hw:winOf σ x=some (l,k,lo,n)):SubR (G.hv l) k lo n v:=by
 unfold winOf at hw
 split at hw
 ·rename_i l'
  split at hw
  ·rename_i T hT
   simp only[Option.some.injEq,Prod.mk.injEq] at hw
   obtain⟨rfl,rfl,rfl,rfl⟩:=hw
   obtain⟨c,hc,hcr⟩:=hx
   injection hc with hc
   subst hc
   rcases h.hp _ T hT with⟨⟨ad,e1⟩,e2⟩|⟨g,off,cap,row,e',GG,hv,hnc,_⟩
   ·exact .inl ⟨ad,e1,rfl,e2,by rw[hcr.1,e1]⟩
   ·exact .inr ⟨g,off,T.n,cap,off,hv,by omega,by rw[hcr.1,hv];simp,.inl (by simp)⟩
  ·cases hw
 ·simp only[Option.some.injEq,Prod.mk.injEq] at hw
  obtain⟨rfl,rfl,rfl,rfl⟩:=hw
  obtain⟨c,hc,hcr⟩:=hx
  injection hc with hc
  subst hc
  exact hcr
 ·cases hw
def opClear (P:Program) (o:Oper) (T:TypeId) (x:Operand) (σ:St) (K:St→Out):Out :=
 match P.underlying T,winOf σ (σ.eval x) with
 | some (.slice e),some (l,k,lo,n)=>match P.info? e,look σ.hp l with
  | some i,some T0=>match i.zero with
   | some z=>match constFCs z.cells.toList with
    | some zs=>match dec T0.t zs with
     | some x0=>if T0.k=i.size∧k=i.size∧z.cells.size=i.size∧flatTy T0.t=true then
      .ob (lo+n≤T0.n) (putK o (putSt σ l ⟨T0.t,put3 T0.xs lo (List.replicate n x0)⟩) (.tup []) K) else .bad
     | none=>.bad
    | none=>.bad
   | none=>.bad
  | _,_=>.bad
 | _,_=>.bad
theorem zero_get {z:Array Value} {n k i j:Nat} (hz:z.size=k) (hi:i<n) (hj:j<k):(Builtin.zeroCells z n).toList[i*k+j]? = some z[j]!:=by
 have hlt:i*k+j<n*k:=by
  have:(i+1)*k≤n*k:=Nat.mul_le_mul_right _ hi
  grind
 have hm:(i*k+j) % k=j:=by rw[Nat.mul_comm,Nat.mul_add_mod,Nat.mod_eq_of_lt hj]
 simp[Builtin.zeroCells,hz,hlt,hm]
theorem opClear_ok {T:TypeId} {x:Operand} (h:RG F G σ a w) (ho:o.op=.call { callee:=.builtin .clear,args := #[x],argTypes := #[T]}) (hh:(opClear P o T x σ K).holds Q):o.wp P a w (Cont F K Q) Qx:=by
 unfold opClear at hh
 have hxv:=eval_ok h x
 split at hh
 ·rename_i e l k lo n hu hw
  have hs:=winOf_ok h hxv hw
  split at hh
  ·rename_i i T0 hi hl
   split at hh
   ·rename_i z hz
    split at hh
    ·rename_i zs hzs
     split at hh
     ·rename_i x0 hx0
      split at hh
      ·rename_i hc
       obtain⟨hk,hk1,hzk,hf⟩:=hc
       obtain⟨hle,hh⟩:=hh
       have fin:∀ w',(Builtin.clear_ #[T] o.type #[a.eval x]).run P w=.ok (.tuple #[]) w'→(execOp a.eval o).run P w=.ok (.value (.tuple #[])) w':=by
        intro w' hr
        simp[execOp,ho,resolve,invoke,builtin,hr]
       have htup:∀ (G':Gh) (w':World),TVR w' G' (.tup []) (.tuple #[]):=fun G' w'=>⟨#[],rfl,rfl,by simp⟩
       by_cases hn:n=0
       ·subst hn
        have hsame:put3 T0.xs lo (List.replicate 0 x0)=T0.xs:=by simp[put3]
        rw[hsame] at hh
        obtain⟨G',hG',_⟩:=h.setTree (w':=w) l [] T0 ⟨T0.t,T0.xs⟩ hl (by simp) (by simp) ⟨rfl,rfl,⟨rfl,by first|exact DrLe.refl _|exact DrLe.succ _|exact DrLe.add _ _⟩,Nat.le_refl _⟩ (fun _ _ _=>rfl) ((h.hp l T0 hl).frame fun g hg _=>⟨rfl,.inl hg⟩)
        refine wp_val (fin w ?_) (putK_ok hG' hh (htup _ _))
        rcases hs with⟨ad,_,_,_,e4⟩|⟨g,off,mm,cap,off',_,_,e4,_⟩
        ·rw[e4];cases ad<;>simp[Builtin.clear_,run_underlying hu]
        ·rw[e4];simp[Builtin.clear_,run_underlying hu]
       ·rcases hs with⟨ad,_,_,e3,e4⟩|⟨g,off,mm,cap,off',hv,hlc,hav,hof⟩
        ·exact absurd e3 hn
        ·have hmm:mm=T0.n:=by
          rcases h.hp l T0 hl with⟨_,hz⟩|⟨g,off,cap,row,e',GG,hv2,_⟩
          ·omega
          ·rw[hv] at hv2;injection hv2
         subst hmm
         obtain⟨row,er,hg,hb,hnc,G',hG',hh2⟩:=put_flat (e0:=lo) (ys:=List.replicate n x0) (news:=(Builtin.zeroCells z.cells n).toList) h hl hf hv (by omega) (by simpa using hle) (by simp[size_zeroCells,hzk,hk]) (by
          intro i' hi' j' hj'
          rw[List.length_replicate] at hi'
          rw[hk] at hj' ⊢
          have hjz:j'<z.cells.size:=by omega
          refine⟨_,zero_get hzk hi' hj',fun _=>True,?_⟩
          have hcell:cell T0.t (List.replicate n x0) i' j'=(enc T0.t x0).getD j' .nl:=cell_get (by simp[hi']) j'
          rw[hcell]
          have e1:z.cells[j']! = z.cells[j']:=by simp[hjz]
          rw[e1]
          exact(TO.le ((dec_ok T0.t zs x0 hx0).get.2 j').le (constFC_ok (N:=fun _=>True) ((constFCs_get hzs).2 j' _ (by simp[hjz])))).read)
         have hoff:off'=off+lo*T0.k:=by
          rcases hof with e1|⟨e1,_⟩
          ·rw[e1,hk1,hk]
          ·omega
         have h1:∀ v∈(Builtin.zeroCells z.cells n).toList,v.oneCell'=true:=by
          intro v hv'
          obtain⟨q,hq⟩:=List.getElem?_of_mem hv'
          have hlt:q<n*i.size:=by
           have:=(List.getElem?_eq_some_iff.1 hq).1
           simpa [size_zeroCells,hzk] using this
          have hpos:0<i.size:=by rw[←hk];exact width_pos _
          have h2:q / i.size<n:=(Nat.div_lt_iff_lt_mul hpos).2 hlt
          have h3:q % i.size<i.size:=Nat.mod_lt _ hpos
          have h4:=zero_get hzk h2 h3
          have e2:q / i.size*i.size+q % i.size=q:=by
           have:=Nat.div_add_mod q i.size
           rw[Nat.mul_comm] at this
           omega
          rw[e2,hq] at h4
          injection h4 with h4
          rw[h4]
          have hjz:q % i.size<z.cells.size:=by omega
          have e1:z.cells[q % i.size]! = z.cells[q % i.size]:=by simp[hjz]
          rw[e1]
          exact(constFC_ok (w:=w) (N:=fun _=>True) ((constFCs_get hzs).2 (q % i.size) z.cells[q % i.size] (by simp[hjz]))).read.one
         have hst:=run_storeCells_at P g off' er (Builtin.zeroCells z.cells n).toList 0 row w hg (by rw[hoff];simpa using hb) h1
         simp only[Nat.add_zero] at hst
         rw[←hoff] at hG'
         refine wp_val (fin _ ?_) (putK_ok hG' hh (htup _ _))
         obtain⟨n',rfl⟩:=Nat.exists_eq_succ_of_ne_zero hn
         rw[hav]
         simp only[Nat.succ_eq_add_one] at hst ⊢
         simp[Builtin.clear_,run_underlying hu,zeroValue,typeInfo,hi,hz,hst]
      ·exact hh.elim
     ·exact hh.elim
    ·exact hh.elim
   ·exact hh.elim
  ·exact hh.elim
 ·exact hh.elim
end
end Go.D
namespace Go.D
section
variable {P:Program} {F:Fr P} {G:Gh} {σ:St} {a:Act} {w:World} {o:Oper} {K:St→Out} {Q:Post} {Qx:Exit→Act→World→Prop}
def fillC (k:Nat):List Cell→List (Nat×TV)→Option (List Cell)
 | cells,[]=>some cells
 | cells,(j,.v _ cs)::rest=>if cs.length=k∧j*k+cs.length≤cells.length then fillC k (cells.take (j*k)++cs++cells.drop (j*k+cs.length)) rest else none
 | _,_=>none
theorem fillC_ok {k:Nat}:∀ (ps:List (Nat×TV)) (vs:List (Nat×Value)) (cells:List Cell) (cur:Array Value) (cs:List Cell),CellsR w G cells cur→vs.length=ps.length→(∀ (j:Nat) (p:Nat×TV),ps[j]? = some p→∃ v,vs[j]? = some (p.1,v)∧TVR w G p.2 v) →
 fillC k cells ps=some cs→∃ r,Instr.fill (fun i=>some (i*k,k)) cur vs=some r∧CellsR w G cs r:=by
 intro ps
 induction ps with
 | nil=>
  intro vs cells cur cs hc hl _ hb
  simp only[fillC,Option.some.injEq] at hb
  subst hb
  have:vs=[]:=List.eq_nil_of_length_eq_zero (by simpa using hl)
  subst this
  exact⟨cur,rfl,hc⟩
 | cons p ps ih=>
  intro vs cells cur cs hc hl hv hb
  obtain⟨j,tv⟩:=p
  obtain⟨v,hv0,htv⟩:=hv 0 (j,tv) rfl
  cases vs with
  | nil=>simp at hl
  | cons q vs=>
   simp only[List.getElem?_cons_zero,Option.some.injEq] at hv0
   subst hv0
   cases tv<;>simp only[fillC,reduceCtorEq] at hb
   rename_i agg cs0
   split at hb
   ·rename_i hcond
    have hcs0:=part_cells htv
    simp only[Instr.fill]
    have hsz:v.cells.size=k:=by rw[hcs0.1];exact hcond.1
    have hle:j*k+v.cells.size≤cur.size:=by rw[hc.1,hcs0.1];exact hcond.2
    simp only[ne_eq,hsz,not_true_eq_false,decide_false,Bool.false_or,decide_eq_true_eq]
    rw[if_neg (by omega)]
    rw[fold_splice v.cells cur (j*k) hle]
    exact ih vs _ _ cs (splice_cells hc hcs0 hcond.2) (by simpa using hl) (fun j' p' hp'=>by simpa using hv (j'+1) p' (by simpa using hp')) hb
   ·simp at hb
def decRows (t:Ty):Nat→List FC→Option (List (El t))
 | 0,_=>some []
 | n+1,ds=>match dec t (ds.take t.width),decRows t n (ds.drop t.width) with
  | some x,some xs=>some (x::xs)
  | _,_=>none
theorem decRows_ok {t:Ty}:∀ (n:Nat) (ds:List FC) (xs:List (El t)),decRows t n ds=some xs→xs.length=n∧∀ i,i<n→∀ j,j<t.width→fcLe (ds.getD (i*t.width+j) .nl) (cell t xs i j):=by
 intro n
 induction n with
 | zero=>intro ds xs h;simp only[decRows,Option.some.injEq] at h;subst h;simp
 | succ n ih=>
  intro ds xs h
  simp only[decRows] at h
  split at h
  ·rename_i x xs' h1 h2
   simp only[Option.some.injEq] at h
   subst h
   obtain⟨h3,h4⟩:=ih _ _ h2
   refine⟨by simp[h3],fun i hi j hj=>?_⟩
   cases i with
   | zero=>
    have:=(dec_ok t _ x h1).get.2 j
    have e1:cell t (x::xs') 0 j=(enc t x).getD j .nl:=cell_get rfl j
    simp_all
   | succ i=>
    have:=h4 i (by omega) j hj
    have e1:cell t (x::xs') (i+1) j=cell t xs' i j:=by simp[cell,List.getD_eq_getElem?_getD]
    grind
  ·simp at h
def opBuildSlice (P:Program) (ty:TypeId→Option Ty) (cls:Bool) (o:Oper) (T:TypeId) (n:Nat) (parts:Array (Nat×Operand)) (σ:St) (K:St→Out):Out :=
 match P.underlying T with
 | some (.slice e)=>match P.info? e,ty e with
  | some i,some t=>match i.zero with
   | some z=>if t.width=i.size∧z.cells.size=i.size∧n*i.size≤16777216∧z.cells.toList.all (fun v=>v.oneCell')=true then(match fillC i.size (List.replicate (n*i.size) .dead) (parts.toList.map fun p=>(p.1,σ.eval p.2)) with
    | some cs=>match litC σ cs with
     | some (ds,ab)=>if cls && !ab.isEmpty then .bad else match decRows t n ds with
      | some xs=>bif cls then treeKc o σ n ⟨t,xs⟩ K else treeK o σ (64*o.dst.getD 0) ab ⟨t,xs⟩ K
      | none=>.bad
     | none=>.bad
    | none=>.bad) else .bad
   | none=>.bad
  | _,_=>.bad
 | _=>.bad
theorem opBuildSlice_all {ty:TypeId→Option Ty} {cls:Bool} {T:TypeId} {n:Nat} {parts:Array (Nat×Operand)} (h:RG F G σ a w) (ho:o.op=.buildSlice T n parts) (hh:(opBuildSlice P ty cls o T n parts σ K).holds Q) :
 o.wp P a w (if cls then ContE F G a w o.dst K Q else Cont F K Q) Qx:=by
 unfold opBuildSlice at hh
 split at hh
 ·rename_i e hu
  split at hh
  ·rename_i i t hi hty
   split at hh
   ·rename_i z hz
    split at hh
    ·rename_i hc
     obtain⟨hwd,hzs,hbig,hz1⟩:=hc
     have hk:0<i.size:=by rw[←hwd];exact width_pos t
     split at hh
     ·rename_i cs hf
      split at hh
      ·rename_i ds ab hlit
       split at hh
       ·exact hh.elim
       ·rename_i hcls
        split at hh
        ·rename_i xs hxs
         let cur:Array Value:=(Array.range (n*i.size)).map (z.cells[· % z.cells.size]!)
         have hcur:CellsR w G (List.replicate (n*i.size) .dead) cur:=by
          refine⟨by simp[cur],fun j c hj=>?_⟩
          have hlt:j<n*i.size:=by
           have:=(List.getElem?_eq_some_iff.1 hj).1
           simpa using this
          have hm:j % z.cells.size<z.cells.size:=Nat.mod_lt _ (by omega)
          rw[List.getElem?_replicate,if_pos hlt] at hj
          injection hj with hj
          subst hj
          refine⟨z.cells[j % z.cells.size],by simp[cur,hlt,hm],?_⟩
          rw[List.all_eq_true] at hz1
          exact hz1 _ (by simp)
         obtain⟨r,hfill,hr⟩:=fillC_ok (k:=i.size) (parts.toList.map fun p=>(p.1,σ.eval p.2)) (parts.toList.map fun p=>(p.1,a.eval p.2)) _ cur cs hcur (by simp) (fun j p hj=>by
          rw[List.getElem?_map] at hj
          cases hq:parts.toList[j]? with
          | none=>simp[hq] at hj
          | some q=>
           simp only[hq,Option.map_some,Option.some.injEq] at hj
           subst hj
           exact⟨a.eval q.2,by simp[List.getElem?_map,hq],eval_ok h q.2⟩) hf
         obtain⟨l1,l2,l3,l4⟩:=litC_ok h cs ds ab hlit
         obtain⟨d1,d2⟩:=decRows_ok n ds xs hxs
         have e1:(parts.map fun(i,x)=>(i,a.eval x)).toList=parts.toList.map fun p=>(p.1,a.eval p.2):=by simp
         have hlen:cs.length=n*i.size:=by
          have key:∀ (ps:List (Nat×TV)) (c0 c1:List Cell),fillC i.size c0 ps=some c1→c1.length=c0.length:=by
           intro ps
           induction ps with
           | nil=>intro c0 c1 h;simp only[fillC,Option.some.injEq] at h;rw[h]
           | cons p ps ih=>
            intro c0 c1 h
            obtain⟨j,tv⟩:=p
            cases tv<;>simp only[fillC,reduceCtorEq] at h
            split at h
            ·rename_i hcnd
             rw[ih _ _ h]
             simp
             omega
            ·simp at h
          rw[key _ _ _ hf]
          simp
         have he:(execOp a.eval o).run P w=.ok (.value (.slice (some ⟨w.heap.size,0,none⟩) n n)) (w.alloc (.cells r e)):=by
          have hnb:¬ (16777216<n*i.size):=by omega
          by_cases hz0:n*i.size=0
          ·have hn0:n=0:=by
            rcases Nat.mul_eq_zero.1 hz0 with h|h
            ·exact h
            ·omega
           subst hn0
           have hc0:cur = #[]:=by simp[cur]
           rw[hc0] at hfill
           simp[execOp,ho,Instr.buildSlice,run_underlying hu,sizeOf,typeInfo,hi,newRow,hfill,Array.range_zero']
          ·simp only[cur] at hfill
           simp[execOp,ho,Instr.buildSlice,run_underlying hu,sizeOf,typeInfo,hi,hnb,hz0,zeroValue,hz,newRow,hfill]
         have old:∀ b,b<w.heap.size→(w.alloc (.cells r e)).heap[b]? = w.heap[b]?:=fun b hb=>heap_alloc_old w _ b hb
         have hTn:(⟨t,xs⟩:Tree).n=n:=d1
         have hTk:(⟨t,xs⟩:Tree).k=i.size:=hwd
         have at_:∀ i',i'<n→∀ j,j<i.size→∃ c u,cs[i'*i.size+j]? = some c∧r[i'*i.size+j]? = some u∧CellR w G c u:=by
          intro i' hi' j hj
          have hlt:i'*i.size+j<n*i.size:=by
           have:(i'+1)*i.size≤n*i.size:=Nat.mul_le_mul_right _ hi'
           rw[Nat.add_mul] at this
           omega
          obtain⟨u,hu',hr'⟩:=hr.2 _ _ (List.getElem?_eq_getElem (show i'*i.size+j<cs.length by omega))
          exact⟨_,u,List.getElem?_eq_getElem (by omega),hu',hr'⟩
         have hT:TO (w.alloc (.cells r e)) (.sl (⟨t,xs⟩:Tree).k (⟨t,xs⟩:Tree).n (⟨t,xs⟩:Tree).f) (.slice (some ⟨w.heap.size,0,none⟩) n n) (fun b=>(w.heap.size≤b∧b<(w.alloc (.cells r e)).heap.size)∨inAb G ab b):=by
          rw[hTn,hTk]
          refine .inr ⟨w.heap.size,0,n,r,e,fun i' j b=>∃ c m,cs[i'*i.size+j]? = some c∧cellLab c m∧G.ow b=.lab m,rfl,Nat.le_refl _,?_,heap_alloc_new w _,.inl ⟨Nat.le_refl _,by simp⟩,fun i' hi' j hj=>?_,fun i' hi' j hj b hb=>?_,fun i' hi' j hj i2 hi2 j2 hj2 b hb hb2=>?_⟩
          ·rw[hr.1,hlen];simp
          ·obtain⟨c,u,hcj,huj,hcu⟩:=at_ i' hi' j hj
           refine⟨u,by rw[Nat.zero_add];exact huj,?_⟩
           have hd2:=d2 i' hi' j (by omega)
           rw[hwd] at hd2
           exact TO.le hd2.le ((l2 _ c u hcj hcu).frame fun b hb _=>by
            obtain⟨m,hm,hb⟩:=hb
            exact⟨old b (h.lt b (by simp[hb])),c,m,hcj,hm,hb⟩)
          ·obtain⟨c,m,hcj,hm,hbm⟩:=hb
           exact⟨.inr ⟨m,l3 _ c m hcj hm,hbm⟩,Nat.ne_of_lt (h.lt b (by simp[hbm]))⟩
          ·obtain⟨c,m,hcj,hm,hbm⟩:=hb
           obtain⟨c2,m2,hcj2,hm2,hbm2⟩:=hb2
           rw[hbm] at hbm2
           injection hbm2 with e2
           subst e2
           exact mul_at hj2 hj (l4 _ _ c c2 m hcj hcj2 hm hm2)
         cases cls with
         | true=>
          have hab:ab=[]:=by simpa using hcls
          subst hab
          exact wp_val he (treeKc_new h hh ⟨rfl,rfl,⟨rfl,by first|exact DrLe.refl _|exact DrLe.succ _|exact DrLe.add _ _⟩,by simp⟩ old rfl ⟨_,_,rfl⟩ (hT.frame fun b hb _=>⟨rfl,hb.resolve_right (by rintro⟨m,hm,_⟩;cases hm)⟩))
         | false=>exact wp_val he (treeK_ok h hh ⟨rfl,rfl,⟨rfl,by first|exact DrLe.refl _|exact DrLe.succ _|exact DrLe.add _ _⟩,by simp⟩ (fun b hb _=>old b (h.lt b hb)) rfl (hT.frame fun b hb _=>⟨rfl,hb.imp id .inr⟩))
        ·exact hh.elim
      ·exact hh.elim
     ·exact hh.elim
    ·exact hh.elim
   ·exact hh.elim
  ·exact hh.elim
 ·exact hh.elim
end
end Go.D
namespace Go.D
structure Arg where
 tm:List TV
 bx:List (Nat×List Cell)
 hp:List (Nat×Tree)
structure Pst where
 r:Res
 hp:List (Nat×Tree)
 bx:List (Nat×List FC)
structure ArgR (w:World) (G:Gh) (A:Arg) (vs:Array Value):Prop where
 sz:vs.size=A.tm.length
 tm:∀ (j:Nat) (x:TV),A.tm[j]? = some x→∃ v,vs[j]? = some v∧TVR w G x v
 bx:∀ b cs,look A.bx b=some cs→G.ow (G.be b)=.box b∧∃ r e,w.heap[G.be b]? = some (.cells r e (0,0))∧CellsR w G cs r
 hp:∀ l T,look A.hp l=some T→TO w (.sl T.k T.n T.f) (G.hv l) (fun g=>G.ow g=.lab l)
 lt:∀ g,G.ow g≠.gone→g<w.heap.size
 cr:∀ g,G.ow g=.cur→CurOk w G g
inductive Pl where
 | res (p j:Nat)
 | keep (l:Nat)
 | box (b j:Nat)
def PartO (w:World) (agg:Bool) (cs:List FC) (v:Value) (Fs:Nat→Nat→Prop):Prop :=
 match agg with
 | false=>∃ c,cs=[c]∧TO w (fcC c) v (Fs 0)∧v.oneCell'=true
 | true=>∃ vs:Array Value,v=.agg vs∧vs.size=cs.length∧∀ (j:Nat) (c:FC),cs[j]? = some c→∃ u,vs[j]? = some u∧TO w (fcC c) u (Fs j)∧u.oneCell'=true
def ResR (w:World) (r:Res) (v:Value) (Fs:Nat→Nat→Nat→Prop):Prop :=
 match r with
 | .one agg cs=>PartO w agg cs v (Fs 0)
 | .tup ps=>∃ vs:Array Value,v=.tuple vs∧vs.size=ps.length∧∀ (i:Nat) (p:Bool×List FC),ps[i]? = some p→∃ u,vs[i]? = some u∧PartO w p.1 p.2 u (Fs i)
structure PstF (w:World) (G:Gh) (w':World) (v:Value) (p:Pst) (Fs:Pl→Nat→Prop):Prop where
 own:∀ s b,Fs s b→b<w'.heap.size∧(G.ow b≠.free∧G.ow b≠.cur)∧∀ b0,(look p.bx b0).isSome=true→b≠G.be b0
 dis:∀ s s' b,Fs s b→Fs s' b→s=s'
 res:ResR w' p.r v (fun i j=>Fs (.res i j))
 hp:∀ l T,look p.hp l=some T→TO w' (.sl T.k T.n T.f) (G.hv l) (Fs (.keep l))
 bx:∀ b cs,look p.bx b=some cs→∃ r e,w'.heap[G.be b]? = some (.cells r e (0,0))∧r.size=cs.length∧∀ (j:Nat) (c:FC),cs[j]? = some c→∃ u,r[j]? = some u∧TO w' (fcC c) u (Fs (.box b j))∧u.oneCell'=true
def ConPost (w:World) (G:Gh) (S:Pst→Prop):Ending→World→Prop:=fun e w'=>∃ v p,S p∧e=.returned v∧Onward w w'∧(∀ g,G.ow g=.free→w'.heap[g]? = w.heap[g]?)∧(∀ g,G.ow g=.cur→CurStep w w' g)∧∃ Fs,PstF w G w' v p Fs
def Con (P:Program) (f:Nat) (A:Arg) (S:Pst→Prop):Prop:=∀ (w:World) (vs:Array Value) (G:Gh),Base P w G.ow→ArgR w G A vs→Calls P f vs w (ConPost w G S)
inductive Ctr:Type 1 where
 | det (pre:List Prop) (p:Pst)
 | ex (pre:List Prop) (X:Type) (ok:X→Prop) (p:X→Pst)
 | df (pre:List Prop) (X:Type) (e:X) (p:X→Pst)
def Ctr.pre:Ctr→List Prop
 | .det pre _=>pre
 | .ex pre _ _ _=>pre
 | .df pre _ _ _=>pre
def Ctr.sat:Ctr→Pst→Prop
 | .det _ q,p=>p=q
 | .ex _ X ok q,p=>∃ x:X,ok x∧p=q x
 | .df _ _ e q,p=>p=q e
inductive Md where
 | lend
 | give
 | keep
 | box
 | cur
 | new
 deriving DecidableEq
abbrev Spec:=Arg→Option Ctr
structure Env:Type 1 where
 fn:Nat→Option (List Md×Spec)
 ty:TypeId→Option Ty
def SpecOk (P:Program) (f:Nat) (g:Spec):Prop:=∀ A c,g A=some c→(∀ q∈c.pre,q)→Con P f A c.sat
def NewOk (P:Program) (f:Nat):Prop:=∀ (w:World) (v:Value) (S:Nat→Prop) (xs:List (El .u8)),TR w S (fcC (.l .u8 xs)) v→(∀ j,j<xs.length→0≤(show Int from xs.getD j default)∧(show Int from xs.getD j default)≤255)→xs.length≤1000000000000000000 →
 Calls P f #[v] w fun e w'=>∃ (g:Nat) (h:Int) (ty:TypeId),e=.returned (.pointer (some ⟨g,0,none⟩))∧Onward w w'∧(∀ b,b<w.heap.size→w'.heap[b]? = w.heap[b]?)∧w.heap.size≤g ∧
  w'.heap[g]? = some (.cells #[v,.int .i64 0,.int .i64 h] ty (0,0))∧-9223372036854775808≤h∧h≤9223372036854775807
def isNewMd:List Md→Bool
 | [.new]=>true
 | _=>false
def EOk (P:Program) (E:Env):Prop:=∀ f m g,E.fn f=some (m,g)→SpecOk P f g∧(isNewMd m=true→NewOk P f)
def Env.ext (E:Env) (f:Nat) (m:List Md) (g:Spec):Env:={ E with fn:=fun f'=>if f'=f then some (m,g) else E.fn f' }
def Env.empty (ty:TypeId→Option Ty):Env:=⟨fun _=>none,ty⟩
theorem EOk.empty (P:Program) (ty:TypeId→Option Ty):EOk P (Env.empty ty):=by intro f m g h;simp[Env.empty] at h
theorem EOk.ext {P:Program} {E:Env} (h:EOk P E) {f:Nat} {m:List Md} {g:Spec} (hg:SpecOk P f g) (hm:isNewMd m=true→NewOk P f):EOk P (E.ext f m g):=by
 intro f' m' g' h'
 unfold Env.ext at h'
 dsimp only at h'
 split at h'
 ·simp_all
 ·exact h f' m' g' h'
def Env.addN (E:Env) (f:Nat):Env:=E.ext f [.new] fun _=>none
theorem EOk.addN {P:Program} {E:Env} (h:EOk P E) {f:Nat} (hf:NewOk P f):EOk P (E.addN f):=h.ext (fun _ _ hc=>by cases hc) fun _=>hf
def tcells (P:Program) (ty:TypeId→Option Ty):Nat→TypeId→List (Option Ty)
 | 0,_=>[]
 | d+1,T=>match P.underlying T with
  | some (.slice e)=>[ty e]
  | some (.struct fs)=>fs.toList.flatMap fun f=>tcells P ty d f.type
  | _=>[none]
abbrev GL:=List (Nat×Option Nat×Tree)
def lab2:List (Nat×Option Nat×Tree)→Nat→Option Nat
 | [],_=>none
 | (cl,some m',_)::r,m=>if m'==m then some cl else lab2 r m
 | (_,none,_)::r,m=>lab2 r m
section
variable {P:Program} {F:Fr P} {G Gc:Gh} {σ:St} {a:Act} {w:World} {o:Oper} {K:St→Out} {Q:Post} {Qx:Exit→Act→World→Prop}
def Lent (G Gc:Gh) (gl:GL) (gb:List Nat):Prop:=(∀ g,(G.ow g=.free∨(∃ m,G.ow g=.lab m∧lab2 gl m=none)∨∃ b,G.ow g=.box b∧b∉gb)→Gc.ow g=.free)∧(∀ g,G.ow g=.cur→Gc.ow g=.cur)∧∀ g m cl,G.ow g=.lab m→lab2 gl m=some cl→Gc.ow g=.lab cl
def lendCell (σ:St) (gl:GL) (t:Option Ty):Cell→Option (List Prop×Cell)
 | .sc v=>some ([],.sc v)
 | .tt=>some ([],.sc (.bool true))
 | .ff=>some ([],.sc (.bool false))
 | .nil=>match t with
  | some t=>some ([],.im none t [])
  | none=>none
 | .ref l=>match look σ.hp l with
  | some T=>if(lab2 gl l).isSome then none else some ([],.im none T.t T.xs)
  | none=>none
 | .sub l k lo n=>match look σ.hp l with
  | some T=>if T.k=k∧lab2 gl l=none then some ([lo+n≤T.n],.im none T.t (cut T.xs lo n)) else none
  | none=>none
 | .im none t xs=>some ([],.im none t xs)
 | .im (some m) t xs=>match lab2 gl m with
  | some cl=>some ([],.im (some cl) t xs)
  | none=>some ([],.im none t xs)
 | .dead=>none
theorem lendCell_ok {gl:GL} {gb:List Nat} {t:Option Ty} {c c':Cell} {p:List Prop} {v:Value} (hL:Lent G Gc gl gb) (h:RG F G σ a w) (hc:CellR w G c v) (hl:lendCell σ gl t c=some (p,c')) (hp:∀ q∈p,q):CellR w Gc c' v:=by
 have lab:∀ {l:Nat} {c:C} {v:Value},lab2 gl l=none→TR w (fun g=>G.ow g=.lab l) c v→TR w (src Gc none) c v:=fun hn ht=>ht.frame fun g hg _=>⟨rfl,hL.1 g (.inr (.inl ⟨_,hg,hn⟩))⟩
 unfold lendCell at hl
 split at hl
 ·simp only[Option.some.injEq,Prod.mk.injEq] at hl;obtain⟨rfl,rfl⟩:=hl;exact hc
 ·simp only[Option.some.injEq,Prod.mk.injEq] at hl;obtain⟨rfl,rfl⟩:=hl;exact⟨hc,rfl⟩
 ·simp only[Option.some.injEq,Prod.mk.injEq] at hl;obtain⟨rfl,rfl⟩:=hl;exact⟨hc,rfl⟩
 ·split at hl
  ·simp only[Option.some.injEq,Prod.mk.injEq] at hl
   obtain⟨rfl,rfl⟩:=hl
   simp only[CellR,fcC_l]
   exact⟨none,0,hc,Nat.le_refl _,.inl rfl⟩
  ·simp at hl
 ·split at hl
  ·rename_i l T hT
   split at hl
   ·simp at hl
   ·rename_i hn
    simp only[Option.some.injEq,Prod.mk.injEq] at hl
    obtain⟨rfl,rfl⟩:=hl
    show TR w (src Gc none) _ v
    rw[hc.1,fcC_tree]
    exact lab (by simpa using hn) (h.hp _ T hT).read
  ·simp at hl
 ·split at hl
  ·rename_i l k lo n T hT
   split at hl
   ·rename_i hk
    simp only[Option.some.injEq,Prod.mk.injEq] at hl
    obtain⟨rfl,rfl⟩:=hl
    have hle:=hp _ (List.mem_singleton.2 rfl)
    have hto:=h.hp _ T hT
    rw[hk.1] at hto
    have h2:=(sub_own hto hc hle).read
    rw[←hk.1] at h2
    exact tr_cut (lab hk.2 h2) hle
   ·simp at hl
  ·simp at hl
 ·simp only[Option.some.injEq,Prod.mk.injEq] at hl
  obtain⟨rfl,rfl⟩:=hl
  exact TR.frame (fun g hg _=>⟨rfl,hL.1 g (.inl hg)⟩) hc
 ·split at hl
  ·rename_i cl hn
   simp only[Option.some.injEq,Prod.mk.injEq] at hl
   obtain⟨rfl,rfl⟩:=hl
   exact TR.frame (fun g hg _=>⟨rfl,hL.2.2 g _ cl hg hn⟩) hc
  ·rename_i hn
   simp only[Option.some.injEq,Prod.mk.injEq] at hl
   obtain⟨rfl,rfl⟩:=hl
   exact lab hn hc
 ·simp at hl
def lendCells (σ:St) (gl:GL):List (Option Ty)→List Cell→Option (List Prop×List Cell)
 | _,[]=>some ([],[])
 | ts,c::cs=>match lendCell σ gl (ts.headD none) c,lendCells σ gl ts.tail cs with
  | some (p,c'),some (q,cs')=>some (p++q,c'::cs')
  | _,_=>none
theorem lendCells_ok {gl:GL} {gb:List Nat} (hL:Lent G Gc gl gb) (h:RG F G σ a w):∀ (cs:List Cell) (ts:List (Option Ty)) (p:List Prop) (cs':List Cell),lendCells σ gl ts cs=some (p,cs')→(∀ q∈p,q)→cs'.length=cs.length ∧
 ∀ (j:Nat) (c':Cell),cs'[j]? = some c'→∃ c,cs[j]? = some c∧∀ v,CellR w G c v→CellR w Gc c' v:=by
 intro cs
 induction cs with
 | nil=>intro ts p cs' hl _;simp only[lendCells,Option.some.injEq,Prod.mk.injEq] at hl;obtain⟨rfl,rfl⟩:=hl;simp
 | cons c cs ih=>
  intro ts p cs' hl hp
  simp only[lendCells] at hl
  split at hl
  ·rename_i p1 c1 q1 cs1 h1 h2
   simp only[Option.some.injEq,Prod.mk.injEq] at hl
   obtain⟨rfl,rfl⟩:=hl
   obtain⟨h3,h4⟩:=ih _ _ _ h2 (fun q hq=>hp q (List.mem_append.2 (.inr hq)))
   refine⟨by simp[h3],fun j c' hj=>?_⟩
   cases j with
   | zero=>simp only[List.getElem?_cons_zero,Option.some.injEq] at hj;subst hj;exact⟨c,rfl,fun v hv=>lendCell_ok hL h hv h1 (fun q hq=>hp q (List.mem_append.2 (.inl hq)))⟩
   | succ j=>simpa using h4 j c' (by simpa using hj)
  ·simp at hl
def cellCon:Cell→Option FC
 | .sc v=>some (.val v)
 | .im none t xs=>some (.l t xs)
 | _=>none
def cellCons:List Cell→Option (List FC)
 | []=>some []
 | c::cs=>match cellCon c,cellCons cs with
  | some d,some ds=>some (d::ds)
  | _,_=>none
theorem cellCon_ok {c:Cell} {d:FC} {v:Value} {G:Gh} (h:CellR w G c v) (hd:cellCon c=some d):TR w (src G none) (fcC d) v:=by
 unfold cellCon at hd
 split at hd<;>simp only[Option.some.injEq,reduceCtorEq] at hd<;>subst hd<;>exact h
theorem cellCons_ok:∀ (cs:List Cell) (ds:List FC),cellCons cs=some ds→ds.length=cs.length∧∀ (j:Nat) (d:FC),ds[j]? = some d→∃ c,cs[j]? = some c∧cellCon c=some d:=by
 intro cs
 induction cs with
 | nil=>intro ds h;simp only[cellCons,Option.some.injEq] at h;subst h;simp
 | cons c cs ih=>
  intro ds h
  simp only[cellCons] at h
  grind
def lendBox (σ:St) (gl:GL) (gb:List Nat) (ts:List (Option Ty)) (b:Nat):Option (List Prop×List FC) :=
 if gb.contains b then none else match look σ.bx b with
 | some cs=>match lendCells σ gl ts cs with
  | some (p,cs')=>match cellCons cs' with
   | some ds=>some (p,ds)
   | none=>none
  | none=>none
 | none=>none
theorem lendBox_ok {gl:GL} {gb:List Nat} {ts:List (Option Ty)} {b:Nat} {p:List Prop} {ds:List FC} (hL:Lent G Gc gl gb) (h:RG F G σ a w) (hl:lendBox σ gl gb ts b=some (p,ds)) (hp:∀ q∈p,q):∃ r e fr,w.heap[G.be b]? = some (.cells r e fr)∧Gc.ow (G.be b)=.free∧ConsR w Gc ds r:=by
 unfold lendBox at hl
 split at hl
 ·simp at hl
 ·rename_i hgb
  split at hl
  ·rename_i cs hb
   split at hl
   ·rename_i q cs' hl'
    split at hl
    ·rename_i ds' hd
     simp only[Option.some.injEq,Prod.mk.injEq] at hl
     obtain⟨rfl,rfl⟩:=hl
     obtain⟨h1,r,e,h2,h3⟩:=h.bx b cs hb
     obtain⟨h4,h5⟩:=lendCells_ok hL h cs _ _ _ hl' hp
     obtain⟨h6,h7⟩:=cellCons_ok _ _ hd
     refine⟨r,e,_,h2,hL.1 _ (.inr (.inr ⟨b,h1,by simpa using hgb⟩)),fun j d hj=>?_⟩
     obtain⟨c',hc',hcd⟩:=h7 j d hj
     obtain⟨c,hc,hcv⟩:=h5 j c' hc'
     obtain⟨u,hu,hr⟩:=h3.2 j c hc
     exact⟨u,hu,cellCon_ok (hcv u hr) hcd⟩
    ·simp at hl
   ·simp at hl
  ·simp at hl
def lendCap (σ:St) (gl:GL) (gb:List Nat):Cap→Option (List Prop×Cap)
 | .ptr b=>match lendBox σ gl gb [] b with
  | some (p,ds)=>some (p,.aptr ds)
  | none=>none
 | .aptr cs=>some ([],.aptr cs)
def lendCaps (σ:St) (gl:GL) (gb:List Nat):List Cap→Option (List Prop×List Cap)
 | []=>some ([],[])
 | c::cs=>match lendCap σ gl gb c,lendCaps σ gl gb cs with
  | some (p,c'),some (q,cs')=>some (p++q,c'::cs')
  | _,_=>none
theorem cons_any {gl:GL} {gb:List Nat} {cs:List FC} {r:Array Value} (hL:Lent G Gc gl gb) (h:ConsR w G cs r):ConsR w Gc cs r:=fun j c hc=>let ⟨u,hu,ht⟩:=h j c hc;⟨u,hu,ht.frame fun g hg _=>⟨rfl,hL.1 g (.inl hg)⟩⟩
theorem lendCap_ok {gl:GL} {gb:List Nat} {c c':Cap} {p:List Prop} {v:Value} (hL:Lent G Gc gl gb) (h:RG F G σ a w) (hc:CapR w G c v) (hl:lendCap σ gl gb c=some (p,c')) (hp:∀ q∈p,q):CapR w Gc c' v:=by
 unfold lendCap at hl
 split at hl
 ·rename_i b
  split at hl
  ·rename_i q ds hb
   simp only[Option.some.injEq,Prod.mk.injEq] at hl
   obtain⟨rfl,rfl⟩:=hl
   obtain⟨r,e,fr,h1,h2,h3⟩:=lendBox_ok hL h hb hp
   exact⟨_,r,e,fr,hc,h2,h1,h3⟩
  ·simp at hl
 ·simp only[Option.some.injEq,Prod.mk.injEq] at hl
  obtain⟨rfl,rfl⟩:=hl
  obtain⟨g,r,e,fr,h1,h2,h3,h4⟩:=hc
  exact⟨g,r,e,fr,h1,hL.1 g (.inl h2),h3,cons_any hL h4⟩
theorem lendCaps_ok {gl:GL} {gb:List Nat} (hL:Lent G Gc gl gb) (h:RG F G σ a w):∀ (cs:List Cap) (p:List Prop) (cs':List Cap),lendCaps σ gl gb cs=some (p,cs')→(∀ q∈p,q)→cs'.length=cs.length∧∀ (j:Nat) (c':Cap),cs'[j]? = some c'→∃ c,cs[j]? = some c∧∀ v,CapR w G c v→CapR w Gc c' v:=by
 intro cs
 induction cs with
 | nil=>intro p cs' hl _;simp only[lendCaps,Option.some.injEq,Prod.mk.injEq] at hl;obtain⟨rfl,rfl⟩:=hl;simp
 | cons c cs ih=>
  intro p cs' hl hp
  simp only[lendCaps] at hl
  split at hl
  ·rename_i p1 c1 q1 cs1 h1 h2
   simp only[Option.some.injEq,Prod.mk.injEq] at hl
   obtain⟨rfl,rfl⟩:=hl
   obtain⟨h3,h4⟩:=ih _ _ h2 (fun q hq=>hp q (List.mem_append.2 (.inr hq)))
   refine⟨by simp[h3],fun j c' hj=>?_⟩
   cases j with
   | zero=>simp only[List.getElem?_cons_zero,Option.some.injEq] at hj;subst hj;exact⟨c,rfl,fun v hv=>lendCap_ok hL h hv h1 (fun q hq=>hp q (List.mem_append.2 (.inl hq)))⟩
   | succ j=>simpa using h4 j c' (by simpa using hj)
  ·simp at hl
def lendTV (σ:St) (gl:GL) (gb:List Nat) (ts:List (Option Ty)):TV→Option (List Prop×TV)
 | .v agg cs=>match lendCells σ gl ts cs with
  | some (p,cs')=>some (p,.v agg cs')
  | none=>none
 | .ptr b off=>match lendBox σ gl gb [] b with
  | some (p,ds)=>some (p,.aptr ds off)
  | none=>none
 | .aptr cs off=>some ([],.aptr cs off)
 | .clo fn caps=>match lendCaps σ gl gb caps with
  | some (p,caps')=>some (p,.clo fn caps')
  | none=>none
 | .cur=>some ([],.cur)
 | _=>none
theorem lendTV_ok {gl:GL} {gb:List Nat} {ts:List (Option Ty)} {x x':TV} {p:List Prop} {v:Value} (hL:Lent G Gc gl gb) (h:RG F G σ a w) (hx:TVR w G x v) (hl:lendTV σ gl gb ts x=some (p,x')) (hp:∀ q∈p,q):TVR w Gc x' v:=by
 unfold lendTV at hl
 split at hl
 ·rename_i agg cs
  split at hl
  ·rename_i q cs' hl'
   simp only[Option.some.injEq,Prod.mk.injEq] at hl
   obtain⟨rfl,rfl⟩:=hl
   obtain⟨h1,h2⟩:=lendCells_ok hL h cs _ _ _ hl' hp
   cases agg with
   | false=>
    obtain⟨c,rfl,hc⟩:=hx
    obtain⟨c',rfl⟩:=List.length_eq_one_iff.1 h1
    obtain⟨c0,hc0,hr⟩:=h2 0 c' rfl
    simp only[List.getElem?_cons_zero,Option.some.injEq] at hc0
    subst hc0
    exact⟨c',rfl,hr v hc⟩
   | true=>
    obtain⟨vs,rfl,hs,hc⟩:=hx
    refine⟨vs,rfl,by rw[hs,h1],fun j c' hj=>?_⟩
    grind
  ·simp at hl
 ·rename_i b off
  split at hl
  ·rename_i q ds hb
   simp only[Option.some.injEq,Prod.mk.injEq] at hl
   obtain⟨rfl,rfl⟩:=hl
   obtain⟨r,e,fr,h1,h2,h3⟩:=lendBox_ok hL h hb hp
   exact⟨_,r,e,fr,hx,h2,h1,h3⟩
  ·simp at hl
 ·simp only[Option.some.injEq,Prod.mk.injEq] at hl
  obtain⟨rfl,rfl⟩:=hl
  obtain⟨g,r,e,fr,h1,h2,h3,h4⟩:=hx
  exact⟨g,r,e,fr,h1,hL.1 g (.inl h2),h3,cons_any hL h4⟩
 ·rename_i fn caps
  split at hl
  ·rename_i q caps' hl'
   simp only[Option.some.injEq,Prod.mk.injEq] at hl
   obtain⟨rfl,rfl⟩:=hl
   obtain⟨h1,h2⟩:=lendCaps_ok hL h caps _ _ hl' hp
   obtain⟨vs,rfl,hs,hc⟩:=hx
   refine⟨vs,rfl,by rw[hs,h1],fun j c' hj=>?_⟩
   grind
  ·simp at hl
 ·simp only[Option.some.injEq,Prod.mk.injEq] at hl
  obtain⟨rfl,rfl⟩:=hl
  obtain⟨g,hv,hg⟩:=hx
  exact⟨g,hv,hL.2.1 g hg⟩
 ·simp at hl
def capTV:Cap→TV
 | .ptr b=>.ptr b 0
 | .aptr cs=>.aptr cs 0
theorem capTV_ok {c:Cap} {v:Value} (h:CapR w G c v):TVR w G (capTV c) v:=by
 cases c with
 | ptr b=>exact h
 | aptr cs=>obtain⟨g,r,e,fr,h1,h2⟩:=h;exact⟨g,r,e,fr,h1,h2⟩
end
end Go.D
namespace Go.D
def nodupB:List Nat→Bool
 | []=>true
 | x::xs=>!xs.contains x&&nodupB xs
structure Giv where
 gv:List (Nat×Option Nat×Tree)
 bs:List (Nat×Nat)
def Giv.gl (g:Giv):List Nat:=g.gv.filterMap (·.2.1)
def Giv.gb (g:Giv):List Nat:=g.bs.map (·.2)
def box2:List (Nat×Nat)→Nat→Option Nat
 | [],_=>none
 | (cb,b')::r,b=>if b'==b then some cb else box2 r b
theorem look_mem {α:Type} {l:List (Nat×α)} (hn:nodupB (l.map (·.1))=true) {e:Nat×α} (h:e∈l):look l e.1=some e.2:=by
 induction l with
 | nil=>cases h
 | cons p r ih=>
  simp only[List.map_cons,nodupB,Bool.and_eq_true,Bool.not_eq_true'] at hn
  simp only[look]
  grind
theorem mem_look {α:Type} {l:List (Nat×α)} {t:Nat} {x:α} (h:look l t=some x):(t,x)∈l:=by
 induction l with
 | nil=>simp[look] at h
 | cons p r ih=>
  simp only[look] at h
  grind
theorem lab2_mem {l:List (Nat×Option Nat×Tree)} {m cl:Nat} (h:lab2 l m=some cl):∃ T,(cl,some m,T)∈l:=by
 induction l with
 | nil=>simp[lab2] at h
 | cons p r ih=>
  obtain⟨c,o,T⟩:=p
  cases o with
  | none=>
   simp only[lab2] at h
   simp_all
  | some m'=>
   simp only[lab2] at h
   grind
theorem mem_gl {l:List (Nat×Option Nat×Tree)} {cl m:Nat} {T:Tree} (h:(cl,some m,T)∈l):m∈l.filterMap (fun e=>e.2.1):=List.mem_filterMap.2 ⟨(cl,some m,T),h,rfl⟩
theorem lab2_of {l:List (Nat×Option Nat×Tree)} {m cl:Nat} {T:Tree} (hn:nodupB (l.filterMap (·.2.1))=true) (h:(cl,some m,T)∈l):lab2 l m=some cl:=by
 induction l with
 | nil=>cases h
 | cons p r ih=>
  obtain⟨c,o,T'⟩:=p
  rcases List.mem_cons.1 h with h'|h'
  ·injection h' with h1 h2
   injection h2 with h2 h3
   subst h1
   subst h2
   simp[lab2]
  ·cases o with
   | none=>simp only[lab2];exact ih (by grind) h'
   | some m'=>
    simp only[List.filterMap_cons,nodupB,Bool.and_eq_true,Bool.not_eq_true'] at hn
    have hne:(m'==m)=false:=by
     grind
    simp only[lab2,hne,Bool.false_eq_true,if_false]
    exact ih hn.2 h'
theorem lab2_none {l:List (Nat×Option Nat×Tree)} {m:Nat} (h:m∉l.filterMap (·.2.1)):lab2 l m=none:=by
 cases hq:lab2 l m with
 | none=>rfl
 | some cl=>
  obtain⟨T,hm⟩:=lab2_mem hq
  simp_all
theorem box2_mem {l:List (Nat×Nat)} {b cb:Nat} (h:box2 l b=some cb):(cb,b)∈l:=by
 induction l with
 | nil=>simp[box2] at h
 | cons p r ih=>
  simp only[box2] at h
  grind
theorem box2_of {l:List (Nat×Nat)} {b cb:Nat} (hn:nodupB (l.map (·.2))=true) (h:(cb,b)∈l):box2 l b=some cb:=by
 induction l with
 | nil=>cases h
 | cons p r ih=>
  obtain⟨c,b'⟩:=p
  simp only[List.map_cons,nodupB,Bool.and_eq_true,Bool.not_eq_true'] at hn
  rcases List.mem_cons.1 h with h|h
  ·injection h with h1 h2
   subst h1
   subst h2
   simp[box2]
  ·have hne:(b'==b)=false:=by
    grind
   simp only[box2,hne,Bool.false_eq_true,if_false]
   exact ih hn.2 h
theorem box2_none {l:List (Nat×Nat)} {b:Nat} (h:b∉l.map (·.2)):box2 l b=none:=by
 cases hq:box2 l b with
 | none=>rfl
 | some cb=>exact absurd (List.mem_map.2 ⟨_,box2_mem hq,rfl⟩) h
def gcOw (g:Giv):Own→Own
 | .lab m=>match lab2 g.gv m with
  | some cl=>.lab cl
  | none=>.free
 | .box b=>match box2 g.bs b with
  | some cb=>.box cb
  | none=>.free
 | .cur=>.cur
 | _=>.free
def gc (w:World) (G:Gh) (g:Giv):Gh where
 ow b:=if b<w.heap.size then gcOw g (G.ow b) else .gone
 be cb:=match look g.bs cb with
  | some b=>G.be b
  | none=>0
 hv cl:=match look g.gv cl with
  | some (some m,_)=>G.hv m
  | _=>.slice none 0 0
section
variable {P:Program} {F:Fr P} {G:Gh} {σ:St} {a:Act} {w:World} {o:Oper} {K:St→Out} {Q:Post} {Qx:Exit→Act→World→Prop}
theorem gc_lent (h:RG F G σ a w) (g:Giv):Lent G (gc w G g) g.gv g.gb:=by
 refine⟨fun b hb=>?_,fun b hb=>?_,fun b m cl hb hm=>?_⟩
 rotate_left
 rotate_left
 ·have hlt:b<w.heap.size:=h.lt b (by grind)
  simp only[gc,hlt,if_true,hb,gcOw,hm]
 rotate_left
 ·have hlt:b<w.heap.size:=h.lt b (by grind)
  simp only[gc,hlt,if_true,hb,gcOw]
 have hlt:b<w.heap.size:=h.lt b (by grind)
 simp only[gc,hlt,if_true]
 rcases hb with e|⟨m,e,hm⟩|⟨m,e,hm⟩
 ·rw[e];rfl
 ·rw[e];simp only[gcOw,hm]
 ·rw[e];simp only[gcOw,box2_none hm]
theorem gc_cur {g:Giv} {b:Nat} (h:(gc w G g).ow b=.cur):b<w.heap.size∧G.ow b=.cur:=by
 simp only[gc] at h
 split at h
 ·rename_i hlt
  refine⟨hlt,?_⟩
  cases hq:G.ow b with
  | gone=>simp[hq,gcOw] at h
  | free=>simp[hq,gcOw] at h
  | lab m=>simp only[hq,gcOw] at h;split at h<;>cases h
  | box b'=>simp only[hq,gcOw] at h;split at h<;>cases h
  | cur=>rfl
 ·cases h
theorem gc_free {g:Giv} {b:Nat} (hlt:b<w.heap.size) (h0:G.ow b≠.cur) (h:∀ m,G.ow b=.lab m→m∉g.gl) (h2:∀ m,G.ow b=.box m→m∉g.gb):(gc w G g).ow b=.free:=by
 simp only[gc,hlt,if_true]
 cases hq:G.ow b with
 | gone=>rfl
 | free=>rfl
 | lab m=>simp only[gcOw,lab2_none (h m hq)]
 | box m=>simp only[gcOw,box2_none (h2 m hq)]
 | cur=>exact absurd hq h0
theorem gc_base (g:Giv) (h:Base P w G.ow):Base P w (gc w G g).ow :=
 let ⟨w1,h1,hl,h2⟩:=h
 ⟨w1,h1,hl,fun b hb=>let ⟨x,y,z⟩:=h2 b hb;⟨x,gc_free x (by simp[y]) (by simp[y]) (by simp[y]),z⟩⟩
def Valid (σ:St) (e:Nat×Option Nat×Tree):Prop:=match e.2.1 with
 | some l=>look σ.hp l=some e.2.2
 | none=>e.2.2.xs=[]
def giveCell (σ:St) (cl:Nat) (t:Option Ty):Cell→Option (Cell×List (Nat×Option Nat×Tree))
 | .sc v=>some (.sc v,[])
 | .tt=>some (.sc (.bool true),[])
 | .ff=>some (.sc (.bool false),[])
 | .nil=>match t with
  | some t=>some (.ref cl,[(cl,none,⟨t,[]⟩)])
  | none=>none
 | .ref l=>match look σ.hp l with
  | some T=>some (.ref cl,[(cl,some l,T)])
  | none=>none
 | _=>none
theorem giveCell_ok {g:Giv} {cl:Nat} {t:Option Ty} {c d:Cell} {gs:List (Nat×Option Nat×Tree)} (hg:giveCell σ cl t c=some (d,gs)) (hgs:∀ e∈gs,look g.gv e.1=some e.2) :
 (∀ v,CellR w G c v→CellR w (gc w G g) d v)∧∀ e∈gs,Valid σ e:=by
 unfold giveCell at hg
 split at hg
 ·simp only[Option.some.injEq,Prod.mk.injEq] at hg;obtain⟨rfl,rfl⟩:=hg;exact⟨fun v h=>h,by simp⟩
 ·simp only[Option.some.injEq,Prod.mk.injEq] at hg;obtain⟨rfl,rfl⟩:=hg;exact⟨fun v h=>⟨h,rfl⟩,by simp⟩
 ·simp only[Option.some.injEq,Prod.mk.injEq] at hg;obtain⟨rfl,rfl⟩:=hg;exact⟨fun v h=>⟨h,rfl⟩,by simp⟩
 ·split at hg
  ·simp only[Option.some.injEq,Prod.mk.injEq] at hg
   obtain⟨rfl,rfl⟩:=hg
   have h1:=hgs _ (List.mem_singleton.2 rfl)
   refine⟨fun v h=>⟨?_,CellR.one h⟩,by simp[Valid]⟩
   simp only[gc,h1]
   exact h
  ·simp at hg
 ·split at hg
  ·rename_i l T hT
   simp only[Option.some.injEq,Prod.mk.injEq] at hg
   obtain⟨rfl,rfl⟩:=hg
   have h1:=hgs _ (List.mem_singleton.2 rfl)
   refine⟨fun v h=>⟨?_,h.2⟩,by simp[Valid,hT]⟩
   simp only[gc,h1]
   exact h.1
  ·simp at hg
 ·simp at hg
def giveCells (σ:St):Nat→List (Option Ty)→List Cell→Option (List Cell×List (Nat×Option Nat×Tree))
 | _,_,[]=>some ([],[])
 | cl,ts,c::cs=>match giveCell σ cl (ts.headD none) c,giveCells σ (cl+1) ts.tail cs with
  | some (d,gs),some (ds,gs')=>some (d::ds,gs++gs')
  | _,_=>none
theorem giveCells_ok {g:Giv}:∀ (cs:List Cell) (cl:Nat) (ts:List (Option Ty)) (ds:List Cell) (gs:List (Nat×Option Nat×Tree)),giveCells σ cl ts cs=some (ds,gs)→(∀ e∈gs,look g.gv e.1=some e.2) →
 ds.length=cs.length∧(∀ (j:Nat) (d:Cell),ds[j]? = some d→∃ c,cs[j]? = some c∧∀ v,CellR w G c v→CellR w (gc w G g) d v)∧∀ e∈gs,Valid σ e:=by
 intro cs
 induction cs with
 | nil=>intro cl ts ds gs hg _;simp only[giveCells,Option.some.injEq,Prod.mk.injEq] at hg;obtain⟨rfl,rfl⟩:=hg;simp
 | cons c cs ih=>
  intro cl ts ds gs hg hgs
  simp only[giveCells] at hg
  split at hg
  ·rename_i d gs1 ds1 gs2 h1 h2
   obtain⟨rfl,rfl⟩:=hg
   obtain⟨k1,k2⟩:=giveCell_ok (w:=w) (G:=G) h1 (fun e he=>hgs e (List.mem_append.2 (.inl he)))
   obtain⟨l1,l2,l3⟩:=ih _ _ _ _ h2 (fun e he=>hgs e (List.mem_append.2 (.inr he)))
   grind
  ·simp at hg
theorem cells_map {G':Gh} {cs ds:List Cell} {vs:Array Value} (hl:ds.length=cs.length) (h:∀ (j:Nat) (d:Cell),ds[j]? = some d→∃ c,cs[j]? = some c∧∀ v,CellR w G c v→CellR w G' d v) (hc:CellsR w G cs vs):CellsR w G' ds vs:=by
 refine⟨by rw[hc.1,hl],fun j d hj=>?_⟩
 obtain⟨c,hcj,hr⟩:=h j d hj
 obtain⟨u,hu,hcu⟩:=hc.2 j c hcj
 simp_all
theorem part_map {G':Gh} {agg:Bool} {cs ds:List Cell} {v:Value} (hl:ds.length=cs.length) (h:∀ (j:Nat) (d:Cell),ds[j]? = some d→∃ c,cs[j]? = some c∧∀ v,CellR w G c v→CellR w G' d v) (hc:PartR w G agg cs v):PartR w G' agg ds v:=by
 cases agg with
 | false=>
  obtain⟨c,rfl,hc⟩:=hc
  obtain⟨d,rfl⟩:=List.length_eq_one_iff.1 hl
  obtain⟨c0,hc0,hr⟩:=h 0 d rfl
  simp at hc0
  subst hc0
  exact⟨d,rfl,hr v hc⟩
 | true=>
  obtain⟨vs,rfl,hc⟩:=hc
  exact⟨vs,rfl,cells_map hl h hc⟩
def give1 (σ:St) (j:Nat) (ts:List (Option Ty)):Md→TV→Option (Option TV×List (Nat×List Cell)×Giv)
 | .lend,_=>some (none,[],⟨[],[]⟩)
 | .give,.v agg cs=>match giveCells σ (64*j) ts cs with
  | some (ds,gs)=>some (some (.v agg ds),[],⟨gs,[]⟩)
  | none=>none
 | .keep,.v agg cs=>match giveCells σ (64*j) ts cs with
  | some (ds,gs)=>some (some (.v agg ds),[],⟨gs,[]⟩)
  | none=>none
 | .box,.ptr b 0=>match look σ.bx b with
  | some cs=>match giveCells σ (64*j) ts cs with
   | some (ds,gs)=>some (some (.ptr j 0),[(j,ds)],⟨gs,[(j,b)]⟩)
   | none=>none
  | none=>none
 | .cur,.cur=>some (none,[],⟨[],[]⟩)
 | _,_=>none
theorem give1_ok {g:Giv} {j:Nat} {ts:List (Option Ty)} {m:Md} {x:TV} {y:Option TV} {bx:List (Nat×List Cell)} {g1:Giv} (h:RG F G σ a w) (hg:give1 σ j ts m x=some (y,bx,g1)) (hgv:∀ e∈g1.gv,look g.gv e.1=some e.2) (hbs:∀ e∈g1.bs,look g.bs e.1=some e.2∧box2 g.bs e.2=some e.1) :
 (∀ y',y=some y'→∀ v,TVR w G x v→TVR w (gc w G g) y' v)∧(∀ e∈g1.gv,Valid σ e) ∧
 (∀ e∈bx,(gc w G g).ow ((gc w G g).be e.1)=.box e.1∧∃ r t,w.heap[(gc w G g).be e.1]? = some (.cells r t (0,0))∧CellsR w (gc w G g) e.2 r):=by
 unfold give1 at hg
 have agg:∀ (agg:Bool) (cs:List Cell),(match giveCells σ (64*j) ts cs with
  | some (ds,gs)=>some (some (TV.v agg ds),([]:List (Nat×List Cell)),(⟨gs,[]⟩:Giv))
  | none=>none)=some (y,bx,g1)→(∀ y',y=some y'→∀ v,TVR w G (.v agg cs) v→TVR w (gc w G g) y' v)∧(∀ e∈g1.gv,Valid σ e) ∧
  (∀ e∈bx,(gc w G g).ow ((gc w G g).be e.1)=.box e.1∧∃ r t,w.heap[(gc w G g).be e.1]? = some (.cells r t (0,0))∧CellsR w (gc w G g) e.2 r):=by
  intro agg cs hg
  split at hg
  ·rename_i ds gs hgc
   simp only[Option.some.injEq,Prod.mk.injEq] at hg
   obtain⟨rfl,rfl,rfl⟩:=hg
   obtain⟨k1,k2,k3⟩:=giveCells_ok (w:=w) (G:=G) cs _ _ _ _ hgc hgv
   refine⟨fun y' hy v hv=>?_,k3,by simp⟩
   injection hy with hy
   subst hy
   exact part_map k1 k2 hv
  ·simp at hg
 split at hg
 ·simp only[Option.some.injEq,Prod.mk.injEq] at hg
  obtain⟨rfl,rfl,rfl⟩:=hg
  simp
 ·exact agg _ _ hg
 ·exact agg _ _ hg
 ·split at hg
  ·rename_i b _ cs hb
   split at hg
   ·rename_i ds gs hgc
    simp only[Option.some.injEq,Prod.mk.injEq] at hg
    obtain⟨rfl,rfl,rfl⟩:=hg
    obtain⟨k1,k2,k3⟩:=giveCells_ok (w:=w) (G:=G) cs _ _ _ _ hgc hgv
    obtain⟨b1,b2⟩:=hbs _ (List.mem_singleton.2 rfl)
    have hbe:(gc w G g).be j=G.be b:=by simp only[gc,b1]
    refine⟨fun y' hy v hv=>?_,k3,fun e he=>?_⟩
    ·injection hy with hy
     subst hy
     simp only[TVR] at hv ⊢
     rw[hbe]
     exact hv
    ·have:=List.mem_singleton.1 he
     subst this
     obtain⟨h1,r,t,h2,h3⟩:=h.bx b cs hb
     dsimp only
     rw[hbe]
     refine⟨?_,r,t,h2,cells_map k1 k2 h3⟩
     have hlt:G.be b<w.heap.size:=h.lt _ (by grind)
     simp only[gc,hlt,if_true,h1,gcOw,b2]
   ·simp at hg
  ·simp at hg
 ·simp only[Option.some.injEq,Prod.mk.injEq] at hg
  obtain⟨rfl,rfl,rfl⟩:=hg
  simp
 ·simp at hg
abbrev CArg:=Md×List (Option Ty)×TV
def giveAll (σ:St):Nat→List CArg→Option (List (Option TV)×List (Nat×List Cell)×Giv)
 | _,[]=>some ([],[],⟨[],[]⟩)
 | j,(m,ts,x)::r=>match give1 σ j ts m x,giveAll σ (j+1) r with
  | some (y,bx,g),some (ys,bxs,g')=>some (y::ys,bx++bxs,⟨g.gv++g'.gv,g.bs++g'.bs⟩)
  | _,_=>none
def lendRest (σ:St) (gl:GL) (gb:List Nat):List (Option TV)→List CArg→Option (List Prop×List TV)
 | [],[]=>some ([],[])
 | some y::ys,_::r=>match lendRest σ gl gb ys r with
  | some (p,zs)=>some (p,y::zs)
  | none=>none
 | none::ys,(_,ts,x)::r=>match lendTV σ gl gb ts x,lendRest σ gl gb ys r with
  | some (p,z),some (q,zs)=>some (p++q,z::zs)
  | _,_=>none
 | _,_=>none
def lendArgs (σ:St) (xs:List CArg):Option (List Prop×Arg×Giv) :=
 match giveAll σ 0 xs with
 | some (ys,bxs,g)=>if nodupB (g.gv.map (·.1))&&nodupB g.gl&&nodupB (g.bs.map (·.1))&&nodupB g.gb then(match lendRest σ g.gv g.gb ys xs with
  | some (p,zs)=>some (p,⟨zs,bxs,g.gv.map fun e=>(e.1,e.2.2)⟩,g)
  | none=>none) else none
 | none=>none
theorem giveAll_ok {g:Giv} (h:RG F G σ a w):∀ (xs:List CArg) (j:Nat) (ys:List (Option TV)) (bxs:List (Nat×List Cell)) (g1:Giv),giveAll σ j xs=some (ys,bxs,g1)→(∀ e∈g1.gv,look g.gv e.1=some e.2)→(∀ e∈g1.bs,look g.bs e.1=some e.2∧box2 g.bs e.2=some e.1) →
 ys.length=xs.length∧(∀ (i:Nat) (y:TV),ys[i]? = some (some y)→∃ x,xs[i]? = some x∧∀ v,TVR w G x.2.2 v→TVR w (gc w G g) y v)∧(∀ e∈g1.gv,Valid σ e) ∧
 (∀ e∈bxs,(gc w G g).ow ((gc w G g).be e.1)=.box e.1∧∃ r t,w.heap[(gc w G g).be e.1]? = some (.cells r t (0,0))∧CellsR w (gc w G g) e.2 r):=by
 intro xs
 induction xs with
 | nil=>intro j ys bxs g1 hg _ _;simp only[giveAll,Option.some.injEq,Prod.mk.injEq] at hg;obtain⟨rfl,rfl,rfl⟩:=hg;simp
 | cons x xs ih=>
  intro j ys bxs g1 hg hgv hbs
  simp only[giveAll] at hg
  split at hg
  ·rename_i y bx g2 ys' bxs' g3 h1 h2
   obtain⟨rfl,rfl,rfl⟩:=hg
   obtain⟨k1,k2,k3⟩:=give1_ok h h1 (fun e he=>hgv e (List.mem_append.2 (.inl he))) (fun e he=>hbs e (List.mem_append.2 (.inl he)))
   obtain⟨l1,l2,l3,l4⟩:=ih _ _ _ _ h2 (fun e he=>hgv e (List.mem_append.2 (.inr he))) (fun e he=>hbs e (List.mem_append.2 (.inr he)))
   refine⟨by grind,fun i z hi=>?_,fun e he=>?_,fun e he=>?_⟩
   ·cases i with
    | zero=>simp only[List.getElem?_cons_zero,Option.some.injEq] at hi;exact⟨_,rfl,k1 z hi⟩
    | succ i=>simpa using l2 i z (by grind)
   ·grind
   ·grind
  ·simp at hg
theorem lendRest_ok {Gc:Gh} {gl:GL} {gb:List Nat} (hL:Lent G Gc gl gb) (h:RG F G σ a w):∀ (xs:List CArg) (ys:List (Option TV)) (p:List Prop) (zs:List TV),lendRest σ gl gb ys xs=some (p,zs)→(∀ q∈p,q) →
 (∀ (i:Nat) (y:TV),ys[i]? = some (some y)→∃ x,xs[i]? = some x∧∀ v,TVR w G x.2.2 v→TVR w Gc y v)→zs.length=xs.length∧∀ (i:Nat) (z:TV),zs[i]? = some z→∃ x,xs[i]? = some x∧∀ v,TVR w G x.2.2 v→TVR w Gc z v:=by
 intro xs
 induction xs with
 | nil=>
  intro ys p zs hl hp hy
  cases ys with
  | nil=>simp only[lendRest,Option.some.injEq,Prod.mk.injEq] at hl;obtain⟨rfl,rfl⟩:=hl;simp
  | cons y ys=>cases y<;>simp[lendRest] at hl
 | cons x xs ih=>
  intro ys p zs hl hp hy
  cases ys with
  | nil=>simp[lendRest] at hl
  | cons y ys=>
   have hy':∀ (i:Nat) (y:TV),ys[i]? = some (some y)→∃ x,xs[i]? = some x∧∀ v,TVR w G x.2.2 v→TVR w Gc y v:=fun i y hi=>by simpa using hy (i+1) y (by grind)
   cases y with
   | some y=>
    simp only[lendRest] at hl
    split at hl
    ·rename_i q zs' h1
     obtain⟨rfl,rfl⟩:=hl
     obtain⟨k1,k2⟩:=ih ys _ _ h1 hp hy'
     refine⟨by grind,fun i z hi=>?_⟩
     cases i with
     | zero=>simp only[List.getElem?_cons_zero,Option.some.injEq] at hi;subst hi;exact hy 0 _ rfl
     | succ i=>simpa using k2 i z (by grind)
    ·simp at hl
   | none=>
    simp only[lendRest] at hl
    split at hl
    ·rename_i p1 z1 q1 zs1 h1 h2
     obtain⟨rfl,rfl⟩:=hl
     obtain⟨k1,k2⟩:=ih ys _ _ h2 (fun q hq=>hp q (List.mem_append.2 (.inr hq))) hy'
     refine⟨by grind,fun i z hi=>?_⟩
     cases i with
     | zero=>simp only[List.getElem?_cons_zero,Option.some.injEq] at hi;subst hi;exact⟨_,rfl,fun v hv=>lendTV_ok hL h hv h1 (fun q hq=>hp q (List.mem_append.2 (.inl hq)))⟩
     | succ i=>simpa using k2 i z (by grind)
    ·simp at hl
theorem lendArgs_ok {xs:List CArg} {p:List Prop} {A:Arg} {g:Giv} {vs:Array Value} (h:RG F G σ a w) (hl:lendArgs σ xs=some (p,A,g)) (hp:∀ q∈p,q) (hsz:vs.size=xs.length) (hx:∀ (j:Nat) (x:CArg),xs[j]? = some x→∃ v,vs[j]? = some v∧TVR w G x.2.2 v) :
 ArgR w (gc w G g) A vs∧A.hp=(g.gv.map fun e=>(e.1,e.2.2))∧nodupB (g.gv.map (·.1))=true∧nodupB g.gl=true∧nodupB (g.bs.map (·.1))=true∧nodupB g.gb=true∧(∀ e∈g.gv,Valid σ e)∧A.tm.length=xs.length:=by
 unfold lendArgs at hl
 split at hl
 ·rename_i ys bxs g1 hg
  split at hl
  ·rename_i hn
   simp only[Bool.and_eq_true] at hn
   obtain⟨⟨⟨n1,n2⟩,n3⟩,n4⟩:=hn
   split at hl
   ·rename_i q zs hr
    simp only[Option.some.injEq,Prod.mk.injEq] at hl
    obtain⟨rfl,rfl,rfl⟩:=hl
    obtain⟨k1,k2,k3,k4⟩:=giveAll_ok h xs 0 ys bxs g1 hg (fun e he=>look_mem n1 he) (fun e he=>⟨look_mem n3 he,box2_of n4 he⟩)
    obtain⟨l1,l2⟩:=lendRest_ok (gc_lent h g1) h xs ys q zs hr hp k2
    refine⟨⟨by grind,fun j z hj=>?_,fun b cs hb=>?_,fun l T hT=>?_,fun b hb=>?_,fun b hb=>?_⟩,rfl,n1,n2,n3,n4,k3,l1⟩
    ·obtain⟨x,hxj,hr⟩:=l2 j z hj
     obtain⟨v,hv,ht⟩:=hx j x hxj
     exact⟨v,hv,hr v ht⟩
    ·exact k4 _ (mem_look hb)
    ·dsimp only at hT
     rw[look_map (fun e:Option Nat×Tree=>e.2)] at hT
     cases hq:look g1.gv l with
     | none=>simp[hq] at hT
     | some e=>
      obtain⟨om,T'⟩:=e
      simp only[hq,Option.map_some,Option.some.injEq] at hT
      subst hT
      have hv:=k3 _ (mem_look hq)
      cases om with
      | none=>
       simp only[Valid] at hv
       have:(gc w G g1).hv l=.slice none 0 0:=by simp only[gc,hq]
       rw[this]
       exact .inl ⟨⟨none,rfl⟩,by simp[Tree.n,hv]⟩
      | some m=>
       have:(gc w G g1).hv l=G.hv m:=by simp only[gc,hq]
       rw[this]
       refine(h.hp m T' hv).frame fun b hb _=>⟨rfl,?_⟩
       have hlt:b<w.heap.size:=h.lt b (by grind)
       simp only[gc,hlt,if_true,hb,gcOw,lab2_of n2 (mem_look hq)]
    ·by_cases hlt:b<w.heap.size
     ·exact hlt
     ·simp[gc,hlt] at hb
    ·have hL:=gc_lent h g1
     exact(h.keep.at_ b (gc_cur hb).2).carry ⟨fun c hc=>⟨rfl,hL.1 c (.inl hc)⟩,hL.2.1⟩ rfl
   ·simp at hl
  ·simp at hl
 ·simp at hl
end
end Go.D
namespace Go.D
def Cell.hit (p q:Nat→Bool):Cell→Bool
 | .ref m=>p m
 | .sub m _ _ _=>p m
 | .im (some m) _ _=>q m
 | _=>false
def Cell.zap (p q:Nat→Bool) (c:Cell):Cell:=bif c.hit p q then .dead else c
def TV.hit (p q:Nat→Bool):TV→Bool
 | .eptr m _ _ _=>p m
 | .sptr (some m) _ _ _=>q m
 | .inn m _ _ _ _ _=>p m||q m
 | .nptr m _ _ _ _ _ _ _=>p m||q m
 | .app m _ _ _ _ _ _=>p m||q m
 | .capd m _=>p m||q m
 | _=>false
def TV.zap (p q:Nat→Bool):TV→TV
 | .v a cs=>.v a (cs.map (·.zap p q))
 | .tup ps=>.tup (ps.map fun x=>(x.1,x.2.map (·.zap p q)))
 | x=>bif x.hit p q then .dead else x
def St.zap (σ:St) (p q:Nat→Bool):St:=σ.map (·.zap p q) (·.zap p q)
section
variable {P:Program} {F:Fr P} {G G1 G2:Gh} {σ:St} {a:Act} {w w':World} {o:Oper} {K:St→Out} {Q:Post} {Qx:Exit→Act→World→Prop} {p q:Nat→Bool}
theorem Cell.zap_ok {c:Cell} {v:Value} (h:CellR w G c v):CellR w G (c.zap p q) v:=by
 unfold Cell.zap
 cases c.hit p q with
 | true=>exact h.one
 | false=>exact h
theorem TV.zap_ok {x:TV} {v:Value} (h:TVR w G x v):TVR w G (x.zap p q) v:=by
 cases x with
 | v agg cs=>exact Part.map_ok (fun _ _=>Cell.zap_ok) h
 | tup ps=>exact TV.map_ok (x:=.tup ps) (bad:=fun _=>false) (fun _ _=>Cell.zap_ok) h
 | _=>
  simp only[TV.zap]
  generalize TV.hit p q _=b
  cases b with
  | true=>trivial
  | false=>exact h
theorem RG.zap (h:RG F G σ a w) (p q:Nat→Bool):RG F G (σ.zap p q) a w:=h.map (fun _ _=>Cell.zap_ok) (fun _ _=>TV.zap_ok)
theorem Cell.zap_refs {c:Cell} {m:Nat} (h:(c.zap p q).refs m=true):p m=false:=by
 unfold Cell.zap at h
 cases hb:c.hit p q with
 | true=>simp[hb,Cell.refs] at h
 | false=>
  simp only[hb,cond_false] at h
  cases c<;>simp[Cell.refs] at h<;>subst h<;>simpa [Cell.hit] using hb
theorem Cell.zap_mems {c:Cell} {m:Nat} (h:(c.zap p q).mems m=true):q m=false:=by
 unfold Cell.zap at h
 cases hb:c.hit p q with
 | true=>simp[hb,Cell.mems] at h
 | false=>
  simp only[hb,cond_false] at h
  cases c with
  | im s t xs=>
   cases s with
   | none=>simp[Cell.mems] at h
   | some l=>simp[Cell.mems] at h;subst h;simpa [Cell.hit] using hb
  | _=>simp[Cell.mems] at h
theorem cells_zap_refs {cs:List Cell} {m:Nat} (h:(cs.map (·.zap p q)).any (·.refs m)=true):p m=false:=by
 simp only[List.any_map,List.any_eq_true,Function.comp] at h
 obtain⟨c,_,hc⟩:=h
 exact Cell.zap_refs hc
theorem cells_zap_mems {cs:List Cell} {m:Nat} (h:(cs.map (·.zap p q)).any (·.mems m)=true):q m=false:=by
 simp only[List.any_map,List.any_eq_true,Function.comp] at h
 obtain⟨c,_,hc⟩:=h
 exact Cell.zap_mems hc
theorem TV.zap_refs {x:TV} {m:Nat} (h:(x.zap p q).refs m=true):p m=false:=by
 cases x<;>simp only[TV.zap] at h
 case v agg cs=>exact cells_zap_refs h
 case tup ps=>
  simp only[TV.refs,List.any_map,List.any_eq_true] at h
  obtain⟨p,_,hp⟩:=h
  exact cells_zap_refs (by simpa using hp)
 case eptr l k i off=>
  simp only[TV.hit] at h
  cases hb:p l with
  | true=>simp[hb,TV.refs] at h
  | false=>simp[hb,TV.refs] at h;subst h;exact hb
 case inn l k i off t xs=>
  simp only[TV.hit] at h
  cases hb:(p l||q l) with
  | true=>simp[hb,TV.refs] at h
  | false=>simp[hb,TV.refs] at h;subst h;exact(Bool.or_eq_false_iff.1 hb).1
 case nptr l k i off t xs i2 o2=>
  simp only[TV.hit] at h
  cases hb:(p l||q l) with
  | true=>simp[hb,TV.refs] at h
  | false=>simp[hb,TV.refs] at h;subst h;exact(Bool.or_eq_false_iff.1 hb).1
 case app l e j tt ts t xs=>
  simp only[TV.hit] at h
  cases hb:(p l||q l) with
  | true=>simp[hb,TV.refs] at h
  | false=>simp[hb,TV.refs] at h;subst h;exact(Bool.or_eq_false_iff.1 hb).1
 case capd l c=>
  simp only[TV.hit] at h
  cases hb:(p l||q l) with
  | true=>simp[hb,TV.refs] at h
  | false=>simp[hb,TV.refs] at h;subst h;exact(Bool.or_eq_false_iff.1 hb).1
 all_goals
  generalize TV.hit p q _=b at h
  cases b<;>simp[TV.refs] at h
theorem TV.zap_mems {x:TV} {m:Nat} (h:(x.zap p q).mems m=true):q m=false:=by
 cases x<;>simp only[TV.zap] at h
 case v agg cs=>exact cells_zap_mems h
 case tup ps=>
  simp only[TV.mems,List.any_map,List.any_eq_true] at h
  obtain⟨p,_,hp⟩:=h
  exact cells_zap_mems (by simpa using hp)
 case inn l k i off t xs=>
  simp only[TV.hit] at h
  cases hb:(p l||q l) with
  | true=>simp[hb,TV.mems] at h
  | false=>simp[hb,TV.mems] at h;subst h;exact(Bool.or_eq_false_iff.1 hb).2
 case nptr l k i off t xs i2 o2=>
  simp only[TV.hit] at h
  cases hb:(p l||q l) with
  | true=>simp[hb,TV.mems] at h
  | false=>simp[hb,TV.mems] at h;subst h;exact(Bool.or_eq_false_iff.1 hb).2
 case app l e j tt ts t xs=>
  simp only[TV.hit] at h
  cases hb:(p l||q l) with
  | true=>simp[hb,TV.mems] at h
  | false=>simp[hb,TV.mems] at h;subst h;exact(Bool.or_eq_false_iff.1 hb).2
 case capd l c=>
  simp only[TV.hit] at h
  cases hb:(p l||q l) with
  | true=>simp[hb,TV.mems] at h
  | false=>simp[hb,TV.mems] at h;subst h;exact(Bool.or_eq_false_iff.1 hb).2
 case sptr s t x off=>
  cases s with
  | none=>simp[TV.hit,TV.mems] at h
  | some l=>
   simp only[TV.hit] at h
   cases hb:q l with
   | true=>simp[hb,TV.mems] at h
   | false=>simp[hb,TV.mems] at h;subst h;exact hb
 all_goals
  generalize TV.hit p q _=b at h
  cases b<;>simp[TV.mems] at h
def NoRef (σ:St) (l:Nat):Prop:=(∀ t tv,look σ.tm t=some tv→tv.refs l=false)∧∀ b cs,look σ.bx b=some cs→cs.any (·.refs l)=false
theorem zap_noRef {l:Nat} (hl:p l=true):NoRef (σ.zap p q) l:=by
 constructor
 ·intro t tv h
  simp only[St.zap,St.map,look_map (fun x:TV=>x.zap p q)] at h
  cases hq:look σ.tm t with
  | none=>simp[hq] at h
  | some x=>
   simp only[hq,Option.map_some,Option.some.injEq] at h
   subst h
   cases hb:(x.zap p q).refs l with
   | false=>rfl
   | true=>have:=TV.zap_refs hb;simp[hl] at this
 ·intro b cs h
  simp only[St.zap,St.map,look_map (fun cs:List Cell=>cs.map (·.zap p q))] at h
  cases hq:look σ.bx b with
  | none=>simp[hq] at h
  | some x=>
   simp only[hq,Option.map_some,Option.some.injEq] at h
   subst h
   cases hb:(x.map (·.zap p q)).any (·.refs l) with
   | false=>rfl
   | true=>have:=cells_zap_refs hb;simp[hl] at this
structure Grow (U:Nat→Prop) (L:Nat→Prop) (G G':Gh):Prop where
 ow:∀ b,G'.ow b=G.ow b∨(U b∧G.ow b=.gone)
 be:G'.be=G.be
 hv:∀ m,G'.hv m=G.hv m∨L m
theorem Grow.refl (U L:Nat→Prop) (G:Gh):Grow U L G G:=⟨fun _=>.inl rfl,rfl,fun _=>.inl rfl⟩
theorem Grow.mono {U U' L L':Nat→Prop} (h:Grow U L G G1) (hu:∀ b,U b→U' b) (hl:∀ m,L m→L' m):Grow U' L' G G1 :=
 ⟨fun b=>(h.ow b).imp id fun x=>⟨hu b x.1,x.2⟩,h.be,fun m=>(h.hv m).imp id (hl m)⟩
theorem Grow.trans {U L:Nat→Prop} (h:Grow U L G G1) (h':Grow U L G1 G2):Grow U L G G2:=by
 refine⟨fun b=>?_,h'.be.trans h.be,fun m=>?_⟩
 ·rcases h'.ow b with e|⟨u,e⟩
  ·rcases h.ow b with e'|x
   ·simp_all
   ·exact .inr x
  ·rcases h.ow b with e'|x
   ·simp_all
   ·exact .inr x
 ·rcases h'.hv m with e|x
  ·rcases h.hv m with e'|x
   ·simp_all
   ·exact .inr x
  ·exact .inr x
theorem Grow.same {U L:Nat→Prop} (h:Grow U L G G1) {b:Nat} (hb:G.ow b≠.gone):G1.ow b=G.ow b:=by
 rcases h.ow b with e|⟨_,e⟩
 ·exact e
 ·exact absurd e hb
theorem Grow.gone {U L:Nat→Prop} (h:Grow U L G G1) {b:Nat} (hb:G.ow b=.gone) (hu:¬ U b):G1.ow b=.gone:=by
 rcases h.ow b with e|⟨u,_⟩
 ·exact e.trans hb
 ·exact absurd u hu
theorem Grow.carry {U L:Nat→Prop} (h:Grow U L G G1):FreeOk w w G G1∧∀ m,MemOk w w G G1 m :=
 ⟨⟨fun g hg=>⟨rfl,(h.same (by simp[hg])).trans hg⟩,fun g hg=>(h.same (by simp[hg])).trans hg⟩,fun m g hg=>⟨rfl,(h.same (by simp[hg])).trans hg⟩⟩
open Classical in
theorem RG.addTree (h:RG F G σ a w) (l:Nat) (T:Tree) (v:Value) (N:Nat→Prop) (hN:∀ g,N g→g<w.heap.size∧G.ow g=.gone) (hT:TO w (.sl T.k T.n T.f) v N)
 (hv:G.hv l=v∨(l∉σ.fl∧NoRef σ l)):∃ G',RG F G' { σ with hp:=(l,T)::σ.hp } a w∧G'.hv l=v∧Grow N (· = l) G G'∧∀ g,N g→G'.ow g=.lab l:=by
 let G':Gh:={ ow:=fun g=>if N g then .lab l else G.ow g,be:=G.be,hv:=fun m=>if m=l then v else G.hv m }
 have gr:Grow N (· = l) G G':=by
  refine⟨fun b=>?_,rfl,fun m=>?_⟩
  ·grind
  ·grind
 obtain⟨fo,mo⟩:=gr.carry (w:=w)
 have hvm:∀ m,(m=l→G.hv l=v)→G'.hv m=G.hv m:=by
  grind
 refine⟨G',?_,by simp[G'],gr,fun g hg=>by simp[G',hg]⟩
 constructor
 case tm=>
  intro t tv hl
  refine TV.carry fo (fun m hm=>hvm m fun e=>?_) (fun m _=>mo m) (fun _ _=>rfl) (h.tm t tv hl)
  rcases hv with hv|⟨_,hn⟩
  ·exact hv
  ·subst e;rw[hn.1 t tv hl] at hm;simp at hm
 case bx=>
  intro b cs hl
  obtain⟨h1,r,e,h2,h3⟩:=h.bx b cs hl
  refine⟨(gr.same (b:=G.be b) (by simp[h1])).trans h1,r,e,h2,Cells.carry fo (fun m hm=>hvm m fun e=>?_) (fun m _=>mo m) h3⟩
  rcases hv with hv|⟨_,hn⟩
  ·exact hv
  ·subst e;rw[hn.2 b cs hl] at hm;simp at hm
 case hp=>
  intro m T' hl
  simp only[look] at hl
  by_cases hm:m=l
  ·subst hm
   simp only[BEq.rfl,if_true,Option.some.injEq] at hl
   subst hl
   simp only[G',if_true]
   exact hT.frame fun g hg _=>⟨rfl,by simp[hg]⟩
  ·have h0:(m==l)=false:=by simpa using hm
   simp only[h0,Bool.false_eq_true,if_false] at hl
   have:G'.hv m=G.hv m:=if_neg hm
   rw[this]
   exact(h.hp m T' hl).frame fun g hg _=>mo m g hg
 case lt=>
  intro g hg
  by_cases hn:N g
  ·exact(hN g hn).1
  ·exact h.lt g (by simpa [G',hn] using hg)
 case os=>exact h.os
 case tape=>exact h.tape
 case output=>exact h.output
 case size=>exact h.size
 case keep=>
  refine h.keep.next fo (fun _ _=>rfl) fun g hg=>?_
  grind
 case fb=>exact h.fb
 case fl=>
  intro m u hm
  obtain⟨h1,h2⟩:=h.fl m u hm
  grind
 case nt=>exact h.nt
 case df=>exact h.df
open Classical in
theorem RG.addBox (h:RG F G σ a w) (b:Nat) (cs:List Cell) (r:Array Value) (e:TypeId) (h0:G.ow (G.be b)=.gone) (hg:w.heap[G.be b]? = some (.cells r e (0,0))) (hc:CellsR w G cs r) :
 ∃ G',RG F G' { σ with bx:=(b,cs)::σ.bx } a w∧Grow (· = G.be b) (fun _=>False) G G':=by
 let G':Gh:={ ow:=fun g=>if g=G.be b then .box b else G.ow g,be:=G.be,hv:=G.hv }
 have gr:Grow (· = G.be b) (fun _=>False) G G':=by
  refine⟨fun g=>?_,rfl,fun m=>.inl rfl⟩
  grind
 obtain⟨fo,mo⟩:=gr.carry (w:=w)
 refine⟨G',?_,gr⟩
 constructor
 case tm=>exact fun t tv hl=>TV.carry fo (fun _ _=>rfl) (fun m _=>mo m) (fun _ _=>rfl) (h.tm t tv hl)
 case bx=>
  intro b' cs' hl
  simp only[look] at hl
  by_cases hbb:b'=b
  ·subst hbb
   simp only[BEq.rfl,if_true,Option.some.injEq] at hl
   subst hl
   exact⟨by simp[G'],r,e,hg,Cells.carry fo (fun _ _=>rfl) (fun m _=>mo m) hc⟩
  ·have h0':(b'==b)=false:=by simpa using hbb
   simp only[h0',Bool.false_eq_true,if_false] at hl
   obtain⟨h1,r',e',h2,h3⟩:=h.bx b' cs' hl
   exact⟨(gr.same (b:=G.be b') (by simp[h1])).trans h1,r',e',h2,Cells.carry fo (fun _ _=>rfl) (fun m _=>mo m) h3⟩
 case hp=>exact fun l T hl=>(h.hp l T hl).frame fun g hg _=>mo l g hg
 case lt=>
  intro g hgo
  by_cases e0:g=G.be b
  ·grind
  ·exact h.lt g (by simpa [G',e0] using hgo)
 case os=>exact h.os
 case tape=>exact h.tape
 case output=>exact h.output
 case size=>exact h.size
 case keep=>
  refine h.keep.next fo (fun _ _=>rfl) fun g hg=>?_
  grind
 case fb=>exact h.fb
 case fl=>exact h.fl
 case nt=>exact h.nt
 case df=>exact h.df
def dropOw (gl kl gb:List Nat):Own→Own
 | .lab m=>if m∈gl∨m∈kl then .gone else .lab m
 | .box b=>if b∈gb then .gone else .box b
 | x=>x
theorem RG.drop (h:RG F G σ a w) (gl kl gb:List Nat):∃ G',RG F G' ({ σ with hp:=σ.hp.filter (fun x=>!(gl.contains x.1||kl.contains x.1)),bx:=σ.bx.filter fun x=>!gb.contains x.1 }.zap gl.contains (fun m=>gl.contains m||kl.contains m)) a w∧G'.be=G.be∧G'.hv=G.hv ∧
 (∀ b,G.ow b=.gone→G'.ow b=.gone)∧(∀ b m,G.ow b=.lab m→(m∈gl∨m∈kl)→G'.ow b=.gone)∧(∀ b m,G.ow b=.box m→m∈gb→G'.ow b=.gone)∧(∀ b,G'.ow b≠.gone→G'.ow b=G.ow b) ∧
 (∀ b m,G'.ow b=.lab m→m∉gl∧m∉kl)∧(∀ b m,G'.ow b=.box m→m∉gb)∧(∀ b,G.ow b=.free→G'.ow b=.free)∧(∀ b m,G.ow b=.lab m→m∉gl→m∉kl→G'.ow b=.lab m)∧(∀ b m,G.ow b=.box m→m∉gb→G'.ow b=.box m)∧∀ b,G.ow b=.cur→G'.ow b=.cur:=by
 let G':Gh:={ ow:=fun g=>dropOw gl kl gb (G.ow g),be:=G.be,hv:=G.hv }
 have sm:∀ g,G'.ow g≠.gone→G'.ow g=G.ow g:=by
  intro g hg
  simp only[G'] at hg ⊢
  cases hq:G.ow g<;>simp only[hq,dropOw] at hg ⊢<;>split<;>simp_all
 have fo:FreeOk w w G G':=⟨fun g hg=>⟨rfl,by simp[G',dropOw,hg]⟩,fun g hg=>by simp[G',dropOw,hg]⟩
 have mo:∀ m,m∉gl→m∉kl→MemOk w w G G' m:=fun m h1 h2 g hg=>⟨rfl,by simp[G',dropOw,hg,h1,h2]⟩
 have mo':∀ m,(gl.contains m||kl.contains m)=false→MemOk w w G G' m:=by
  simp_all
 refine⟨G',?_,rfl,rfl,fun b hb=>by simp[G',dropOw,hb],fun b m hb hm=>by simp[G',dropOw,hb,hm],fun b m hb hm=>by simp[G',dropOw,hb,hm],sm,fun b m hb=>?_,fun b m hb=>?_,fun b hb=>by simp[G',dropOw,hb],fun b m hb h1 h2=>by simp[G',dropOw,hb,h1,h2],fun b m hb hm=>by simp[G',dropOw,hb,hm],fun b hb=>by simp[G',dropOw,hb]⟩
 rotate_left
 ·have h1:=sm b (by simp[hb])
  rw[hb] at h1
  simp only[G',←h1,dropOw] at hb
  split at hb
  ·simp at hb
  ·rename_i hn;exact⟨fun x=>hn (.inl x),fun x=>hn (.inr x)⟩
 ·have h1:=sm b (by simp[hb])
  rw[hb] at h1
  simp only[G',←h1,dropOw] at hb
  split at hb
  ·simp at hb
  ·rename_i hn;exact hn
 constructor
 case tm=>
  intro t tv hl
  simp only[St.zap,St.map,look_map (fun x:TV=>x.zap gl.contains (fun m=>gl.contains m||kl.contains m))] at hl
  cases hq:look σ.tm t with
  | none=>simp[hq] at hl
  | some x=>
   simp only[hq,Option.map_some,Option.some.injEq] at hl
   subst hl
   exact TV.carry fo (fun _ _=>rfl) (fun m hm=>mo' m (TV.zap_mems hm)) (fun _ _=>rfl) (TV.zap_ok (h.tm t x hq))
 case bx=>
  intro b cs hl
  simp only[St.zap,St.map,look_map (fun cs:List Cell=>cs.map (·.zap gl.contains (fun m=>gl.contains m||kl.contains m))),look_filter (fun x=>!gb.contains x)] at hl
  split at hl
  ·rename_i hgb
   cases hq:look σ.bx b with
   | none=>simp[hq] at hl
   | some x=>
    simp only[hq,Option.map_some,Option.some.injEq] at hl
    subst hl
    obtain⟨h1,r,e,h2,h3⟩:=h.bx b x hq
    refine⟨?_,r,e,h2,Cells.carry fo (fun _ _=>rfl) (fun m hm=>mo' m (cells_zap_mems hm)) (Cells.map_ok (fun _ _=>Cell.zap_ok) h3)⟩
    have:b∉gb:=by simpa using hgb
    simp[G',dropOw,h1,this]
  ·simp at hl
 case hp=>
  intro l T hl
  simp only[St.zap,St.map,look_filter (fun x=>!(gl.contains x||kl.contains x))] at hl
  split at hl
  ·rename_i hgl
   have h1:(gl.contains l||kl.contains l)=false:=by simpa only[Bool.not_eq_true'] using hgl
   exact(h.hp l T hl).frame fun g hg _=>mo' l h1 g hg
  ·cases hl
 case lt=>exact fun g hg=>h.lt g fun e=>hg (by simp[G',dropOw,e])
 case os=>exact h.os
 case tape=>exact h.tape
 case output=>exact h.output
 case size=>exact h.size
 case keep=>exact h.keep.next fo (fun _ _=>rfl) fun g hg=>(sm g (by rw[hg];intro e;cases e))▸hg
 case fb=>exact h.fb
 case fl=>exact h.fl
 case nt=>exact h.nt
 case df=>exact h.df
def takeC:Nat→List FC→List Cell
 | _,[]=>[]
 | l,.val v::cs=>.sc v::takeC (l+1) cs
 | l,.nl::cs=>.nil::takeC (l+1) cs
 | l,.l _ _::cs=>.ref l::takeC (l+1) cs
def takeH:Nat→List FC→List (Nat×Tree)
 | _,[]=>[]
 | l,.l t xs::cs=>(l,⟨t,xs⟩)::takeH (l+1) cs
 | l,_::cs=>takeH (l+1) cs
theorem takeC_len:∀ (cs:List FC) (l:Nat),(takeC l cs).length=cs.length:=by
 intro cs
 induction cs with
 | nil=>intro l;rfl
 | cons c cs ih=>intro l;cases c<;>simp[takeC,ih]
def Fresh (σ:St) (l n:Nat):Prop:=∀ m,l≤m→m<l+n→m∉σ.fl∧NoRef σ m
theorem Fresh.hp {l n:Nat} (h:Fresh σ l n) (hp:List (Nat×Tree)):Fresh { σ with hp:=hp } l n:=h
theorem take_ok:∀ (cs:List FC) (us:List Value) (Fs:Nat→Nat→Prop) (G:Gh) (l:Nat) (σ:St),RG F G σ a w→(takeH l cs≠[]→Fresh σ l cs.length)→us.length=cs.length →
 (∀ (j:Nat) (c:FC) (u:Value),cs[j]? = some c→us[j]? = some u→TO w (fcC c) u (Fs j)∧u.oneCell'=true)→(∀ j b,Fs j b→b<w.heap.size∧G.ow b=.gone)→(∀ j j' b,Fs j b→Fs j' b→j=j') →
 ∃ G',RG F G' { σ with hp:=takeH l cs++σ.hp } a w∧(∀ (j:Nat) (c:Cell) (u:Value),(takeC l cs)[j]? = some c→us[j]? = some u→CellR w G' c u)∧Grow (fun b=>∃ j,Fs j b) (fun m=>l≤m∧m<l+cs.length) G G':=by
 intro cs
 induction cs with
 | nil=>intro us Fs G l σ h _ _ _ _ _;exact⟨G,h,by simp[takeC],Grow.refl _ _ _⟩
 | cons c cs ih=>
  intro us Fs G l σ h hfr hlen hT hF hd
  cases us with
  | nil=>simp at hlen
  | cons u us=>
   obtain⟨hT0,hone⟩:=hT 0 c u rfl rfl
   have hfr':takeH (l+1) cs≠[]→Fresh σ (l+1) cs.length:=fun hne m h1 h2=>hfr (by cases c<;>simp[takeH,hne]) m (by omega) (by simp only[List.length_cons];omega)
   obtain⟨G1,k1,k2,k3⟩:=ih us (fun j=>Fs (j+1)) G (l+1) σ h hfr' (by simpa using hlen) (fun j c' u' hc hu=>hT (j+1) c' u' (by simpa using hc) (by simpa using hu)) (fun j b hb=>hF (j+1) b hb) (fun j j' b hb hb'=>by have:=hd (j+1) (j'+1) b hb hb';omega)
   have gr:Grow (fun b=>∃ j,Fs j b) (fun m=>l≤m∧m<l+(c::cs).length) G G1:=k3.mono (fun b ⟨j,hj⟩=>⟨j+1,hj⟩) (fun m hm=>by simp only[List.length_cons];omega)
   have easy:∀ d:Cell,takeC l (c::cs)=d::takeC (l+1) cs→takeH l (c::cs)=takeH (l+1) cs→(∀ G',CellR w G' d u)→∃ G',RG F G' { σ with hp:=takeH l (c::cs)++σ.hp } a w∧(∀ (j:Nat) (c':Cell) (u':Value),(takeC l (c::cs))[j]? = some c'→(u::us)[j]? = some u'→CellR w G' c' u')∧Grow (fun b=>∃ j,Fs j b) (fun m=>l≤m∧m<l+(c::cs).length) G G':=by
    intro d e1 e2 hd'
    rw[e1,e2]
    refine⟨G1,k1,fun j c' u' hc hu=>?_,gr⟩
    cases j with
    | zero=>simp only[List.getElem?_cons_zero,Option.some.injEq] at hc hu;subst hc;subst hu;exact hd' G1
    | succ j=>exact k2 j c' u' (by simpa using hc) (by simpa using hu)
   cases c with
   | val v=>exact easy (.sc v) rfl rfl fun G'=>hT0
   | nl=>exact easy .nil rfl rfl fun G'=>hT0
   | l t xs=>
    have hT1:TO w (.sl (Tree.mk t xs).k (Tree.mk t xs).n (Tree.mk t xs).f) u (Fs 0):=by rw[←fcC_tree ⟨t,xs⟩];exact hT0
    obtain⟨h1,h2⟩:=hfr (by simp[takeH]) l (Nat.le_refl _) (by simp)
    have hg0:∀ g,Fs 0 g→g<w.heap.size∧G1.ow g=.gone:=fun g hg=>⟨(hF 0 g hg).1,k3.gone (hF 0 g hg).2 fun⟨j,hj⟩=>by have:=hd (j+1) 0 g hj hg;omega⟩
    obtain⟨G2,m1,m2,m3,_⟩:=k1.addTree l ⟨t,xs⟩ u (Fs 0) hg0 hT1 (.inr ⟨h1,h2⟩)
    refine⟨G2,m1,fun j c' u' hc hu=>?_,gr.trans (m3.mono (fun b hb=>⟨0,hb⟩) (fun m hm=>by subst hm;simp))⟩
    cases j with
    | zero=>
     simp only[takeC,List.getElem?_cons_zero,Option.some.injEq] at hc hu
     subst hc;subst hu
     exact⟨m2.symm,hone⟩
    | succ j=>
     have hc':=k2 j c' u' (by simpa [takeC] using hc) (by simpa using hu)
     obtain⟨fo,mo⟩:=m3.carry (w:=w)
     refine Cell.carry fo (fun m hm=>?_) (fun m _=>mo m) hc'
     rcases m3.hv m with e|e
     ·exact e
     ·subst e
      have:∀ (cs:List FC) (l' j:Nat) (c:Cell),(takeC l' cs)[j]? = some c→∀ m,c.refs m=true→l'≤m:=by
       intro cs
       induction cs with
       | nil=>intro l' j c h;simp[takeC] at h
       | cons d cs ih=>
        intro l' j c h m hm
        cases d<;>simp only[takeC] at h<;>cases j with
         | zero=>simp only[List.getElem?_cons_zero,Option.some.injEq] at h;subst h;simp[Cell.refs] at hm<;>omega
         | succ j=>have:=ih _ j c (by simpa using h) m hm;omega
      have:=this cs (m+1) j c' (by simpa [takeC] using hc) m hm
      omega
end
end Go.D
namespace Go.D
def takePs:Nat→List (Bool×List FC)→List (Bool×List Cell)×List (Nat×Tree)
 | _,[]=>([],[])
 | l,p::ps=>((p.1,takeC l p.2)::(takePs (l+p.2.length) ps).1,(takePs (l+p.2.length) ps).2++takeH l p.2)
def Res.take (l:Nat):Res→TV×List (Nat×Tree)
 | .one a cs=>(.v a (takeC l cs),takeH l cs)
 | .tup ps=>(.tup (takePs l ps).1,(takePs l ps).2)
def lenPs:List (Bool×List FC)→Nat
 | []=>0
 | p::ps=>p.2.length+lenPs ps
def Res.len:Res→Nat
 | .one _ cs=>cs.length
 | .tup ps=>lenPs ps
def mdIs:List Md→Nat→Bool
 | ms,j=>match ms[j]? with
  | some .keep=>true
  | _=>false
def keptOf (ms:List Md):List (Nat×Option Nat×Tree)→List (Nat×Nat)
 | []=>[]
 | (cl,some l,_)::r=>bif mdIs ms (cl / 64) then(cl,l)::keptOf ms r else keptOf ms r
 | (_,none,_)::r=>keptOf ms r
def keptH (p:Pst):List (Nat×Nat)→Option (List (Nat×Tree))
 | []=>some []
 | (cl,l)::r=>match look p.hp cl,keptH p r with
  | some T,some hs=>some ((l,T)::hs)
  | _,_=>none
def boxB (p:Pst):List (Nat×Nat)→Option (List (Nat×Tree)×List (Nat×List Cell))
 | []=>some ([],[])
 | (cb,b)::r=>match look p.bx cb,boxB p r with
  | some ds,some (hs,bs)=>bif decide (ds.length≤64) then some (takeH (64*b) ds++hs,(b,takeC (64*b) ds)::bs) else none
  | _,_=>none
def noneIn (fl:List Nat) (p:Nat→Bool):Bool:=fl.all fun m=>!p m
def dstBase (o:Oper) (σ:St):Nat:=match o.dst with|some d=>d|none=>σ.nt
def ranges (d:Nat) (gb:List Nat) (m:Nat):Bool:=m / 64==d||gb.contains (m / 64)
def dropped (σ:St) (g:Giv) (ks:List (Nat×Nat)):St :=
 bif g.gl.isEmpty&&g.gb.isEmpty then σ else
 let kl:=ks.map (·.2)
 let gl:=g.gl.filter fun l=>!kl.contains l
 { σ with hp:=σ.hp.filter (fun x=>!(gl.contains x.1||kl.contains x.1)),bx:=σ.bx.filter fun x=>!g.gb.contains x.1 }.zap gl.contains (fun m=>gl.contains m||kl.contains m)
def afterCall (d:Nat) (σ:St) (ms:List Md) (g:Giv) (p:Pst):Option (St×TV) :=
 let ks:=keptOf ms g.gv
 match keptH p ks,boxB p g.bs with
 | some hk,some (hb,bs)=>
  let r:=p.r.take (64*d)
  let σ1:=dropped σ g ks
  let σ2:=bif hb.isEmpty&&r.2.isEmpty then σ1 else σ1.zap (ranges d g.gb) (fun _=>false)
  bif (hb.isEmpty&&r.2.isEmpty||noneIn σ.fl (ranges d g.gb))&&decide (p.r.len≤64)&&nodupB (ks.map (·.1)) && !g.gb.contains d&&g.bs.all (fun e=>(look σ.bx e.2).isSome) then
   some ({ σ2 with hp:=r.2++(hb++(hk++σ2.hp)),bx:=bs++σ2.bx },r.1)
  else none
 | _,_=>none
def callRest (o:Oper) (σ:St) (ms:List Md) (g:Giv) (K:St→Out) (p:Pst):Out :=
 match afterCall (dstBase o σ) σ ms g p with
 | some (σ',x)=>match o.dst with
  | some d=>bif decide (d<σ.nt) then K (σ'.put d x) else .bad
  | none=>K σ'
 | none=>.bad
def callK (P:Program) (E:Env) (cls:Bool) (o:Oper) (f:Nat) (xs:List (List (Option Ty)×TV)) (σ:St) (K:St→Out):Out :=
 match E.fn f,P.funcs[f]? with
 | some (ms,sp),some fn=>bif fn.body.isSome && !(fn.name == "runtime.NumGoroutine") then(match lendArgs σ (xs.zipIdx.map fun x=>((ms[x.2]?).getD .lend,x.1.1,x.1.2)) with
  | some (p,A,g)=>bif cls && !(g.gl.isEmpty&&g.gb.isEmpty&&o.dst.isSome) then .bad else(match sp A with
   | some (.det q r)=>obs p (obs q (callRest o σ ms g K r))
   | some (.ex q X ok r)=>obs p (obs q (.lp X True ok fun x=>callRest o σ ms g K (r x)))
   | some (.df q X e r)=>obs p (obs q (.lt X e fun x=>callRest o σ ms g K (r x)))
   | none=>.bad)
  | none=>.bad) else .bad
 | _,_=>.bad
section
variable {P:Program} {E:Env} {F:Fr P} {G:Gh} {σ:St} {a:Act} {w:World} {o:Oper} {K:St→Out} {Q:Post} {Qx:Exit→Act→World→Prop}
theorem partO_vals {agg:Bool} {cs:List FC} {v:Value} {Fs:Nat→Nat→Prop} (h:PartO w agg cs v Fs):∃ us:List Value,us.length=cs.length∧(∀ (j:Nat) (c:FC) (u:Value),cs[j]? = some c→us[j]? = some u→TO w (fcC c) u (Fs j)∧u.oneCell'=true) ∧
 ∀ (G:Gh) (ds:List Cell),ds.length=cs.length→(∀ (j:Nat) (c:Cell) (u:Value),ds[j]? = some c→us[j]? = some u→CellR w G c u)→PartR w G agg ds v:=by
 cases agg with
 | false=>
  obtain⟨c,rfl,h1,h2⟩:=h
  refine⟨[v],rfl,fun j c' u hc hu=>?_,fun G ds hl hd=>?_⟩
  ·grind
  ·obtain⟨d,rfl⟩:=List.length_eq_one_iff.1 hl
   exact⟨d,rfl,hd 0 d v rfl rfl⟩
 | true=>
  obtain⟨vs,rfl,hs,h⟩:=h
  refine⟨vs.toList,by simpa using hs,fun j c u hc hu=>?_,fun G ds hl hd=>⟨vs,rfl,by rw[hs,hl],fun j c hc=>?_⟩⟩
  ·grind
  ·have hlt:j<vs.size:=by rw[hs,←hl];exact(List.getElem?_eq_some_iff.1 hc).1
   exact⟨vs[j],by simp[hlt],hd j c vs[j] hc (by simp[hlt])⟩
theorem takeC_refs:∀ (cs:List FC) (l j:Nat) (c:Cell),(takeC l cs)[j]? = some c→(∀ m,c.refs m=true→l≤m∧m<l+cs.length)∧∀ m,c.mems m=false:=by
 intro cs
 induction cs with
 | nil=>intro l j c h;simp[takeC] at h
 | cons d cs ih=>
  intro l j c h
  cases j with
  | zero=>
   cases d<;>simp only[takeC,List.getElem?_cons_zero,Option.some.injEq] at h<;>subst h<;>refine⟨fun m hm=>?_,fun m=>rfl⟩<;>simp[Cell.refs] at hm
   subst hm
   simp
  | succ j=>
   have h':(takeC (l+1) cs)[j]? = some c:=by cases d<;>simpa [takeC] using h
   grind
theorem takePs_len:∀ (ps:List (Bool×List FC)) (l:Nat),(takePs l ps).1.length=ps.length:=by
 intro ps
 induction ps with
 | nil=>intro l;rfl
 | cons p ps ih=>intro l;simp[takePs,ih]
theorem takePs_ok:∀ (ps:List (Bool×List FC)) (vs:List Value) (Fs:Nat→Nat→Nat→Prop) (G:Gh) (l:Nat) (σ:St),RG F G σ a w→((takePs l ps).2≠[]→Fresh σ l (lenPs ps))→vs.length=ps.length →
 (∀ (i:Nat) (p:Bool×List FC) (u:Value),ps[i]? = some p→vs[i]? = some u→PartO w p.1 p.2 u (Fs i))→(∀ i j b,Fs i j b→b<w.heap.size∧G.ow b=.gone)→(∀ i j i' j' b,Fs i j b→Fs i' j' b→i=i'∧j=j') →
 ∃ G',RG F G' { σ with hp:=(takePs l ps).2++σ.hp } a w∧(∀ (i:Nat) (p:Bool×List Cell) (u:Value),(takePs l ps).1[i]? = some p→vs[i]? = some u→PartR w G' p.1 p.2 u)∧Grow (fun b=>∃ i j,Fs i j b) (fun m=>l≤m∧m<l+lenPs ps) G G':=by
 intro ps
 induction ps with
 | nil=>intro vs Fs G l σ h _ _ _ _ _;exact⟨G,h,by simp[takePs],Grow.refl _ _ _⟩
 | cons p ps ih=>
  intro vs Fs G l σ h hfr hlen hT hF hd
  cases vs with
  | nil=>simp at hlen
  | cons v vs=>
   obtain⟨us,u1,u2,u3⟩:=partO_vals (hT 0 p v rfl rfl)
   obtain⟨G1,k1,k2,k3⟩:=take_ok p.2 us (Fs 0) G l σ h (fun hne m h1 h2=>hfr (by simp[takePs,hne]) m h1 (by simp only[lenPs];omega)) u1 u2 (fun j b hb=>hF 0 j b hb) (fun j j' b hb hb'=>(hd 0 j 0 j' b hb hb').2)
   obtain⟨G2,m1,m2,m3⟩:=ih vs (fun i=>Fs (i+1)) G1 (l+p.2.length) { σ with hp:=takeH l p.2++σ.hp } k1 (fun hne m h1 h2=>hfr (by simp[takePs,hne]) m (by omega) (by simp only[lenPs];omega)) (by simpa using hlen)
    (fun i q u hq hu=>hT (i+1) q u (by simpa using hq) (by simpa using hu)) (fun i j b hb=>⟨(hF (i+1) j b hb).1,k3.gone (hF (i+1) j b hb).2 fun⟨j',hb'⟩=>by have:=(hd (i+1) j 0 j' b hb hb').1;omega⟩)
    (fun i j i' j' b hb hb'=>by have:=hd (i+1) j (i'+1) j' b hb hb';omega)
   refine⟨G2,?_,fun i q u hq hu=>?_,(k3.mono (fun b ⟨j,hj⟩=>⟨0,j,hj⟩) (fun m hm=>by simp only[lenPs];omega)).trans (m3.mono (fun b ⟨i,j,hj⟩=>⟨i+1,j,hj⟩) (fun m hm=>by simp only[lenPs];omega))⟩
   ·simpa only[takePs,List.append_assoc] using m1
   ·cases i with
    | succ i=>exact m2 i q u (by simpa [takePs] using hq) (by simpa using hu)
    | zero=>
     simp only[takePs,List.getElem?_cons_zero,Option.some.injEq] at hq hu
     subst hq
     subst hu
     refine u3 G2 _ (takeC_len _ _) fun j c u hc hu=>?_
     obtain⟨fo,mo⟩:=m3.carry (w:=w)
     obtain⟨r1,r2⟩:=takeC_refs _ _ _ _ hc
     refine Cell.carry fo (fun m hm=>?_) (fun m hm=>by rw[r2 m] at hm;cases hm) (k2 j c u hc hu)
     rcases m3.hv m with e|e
     ·exact e
     ·have:=r1 m hm
      omega
theorem resTake_ok (r:Res) {v:Value} {Fs:Nat→Nat→Nat→Prop} (h:RG F G σ a w) (l:Nat) (hfr:(r.take l).2≠[]→Fresh σ l r.len) (hr:ResR w r v Fs) (hF:∀ i j b,Fs i j b→b<w.heap.size∧G.ow b=.gone) (hd:∀ i j i' j' b,Fs i j b→Fs i' j' b→i=i'∧j=j') :
 ∃ G',RG F G' { σ with hp:=(r.take l).2++σ.hp } a w∧TVR w G' (r.take l).1 v∧Grow (fun b=>∃ i j,Fs i j b) (fun m=>l≤m∧m<l+r.len) G G':=by
 cases r with
 | one agg cs=>
  obtain⟨us,u1,u2,u3⟩:=partO_vals hr
  obtain⟨G1,k1,k2,k3⟩:=take_ok cs us (Fs 0) G l σ h hfr u1 u2 (fun j b hb=>hF 0 j b hb) (fun j j' b hb hb'=>(hd 0 j 0 j' b hb hb').2)
  exact⟨G1,k1,u3 G1 _ (takeC_len _ _) k2,k3.mono (fun b ⟨j,hj⟩=>⟨0,j,hj⟩) (fun m hm=>hm)⟩
 | tup ps=>
  obtain⟨vs,rfl,hs,hp⟩:=hr
  obtain⟨G1,k1,k2,k3⟩:=takePs_ok ps vs.toList Fs G l σ h hfr (by simpa using hs) (fun i p u hpi hu=>by
   obtain⟨u',hu',ht⟩:=hp i p hpi
   have:u=u':=by
    have h2:vs.toList[i]? = some u':=by simpa using hu'
    rw[hu] at h2
    injection h2
   subst this
   exact ht) hF hd
  refine⟨G1,k1,⟨vs,rfl,by rw[hs,takePs_len],fun i p hpi=>?_⟩,k3⟩
  have hlt:i<vs.size:=by rw[hs,←takePs_len ps l];exact(List.getElem?_eq_some_iff.1 hpi).1
  exact⟨vs[i],by simp[hlt],k2 i p vs[i] hpi (by simp[hlt])⟩
end
end Go.D
namespace Go.D
section
variable {P:Program} {E:Env} {F:Fr P} {G:Gh} {σ:St} {a:Act} {w w':World} {o:Oper} {K:St→Out} {Q:Post} {Qx:Exit→Act→World→Prop}
theorem keptH_ok {p:Pst} {hvc:Nat→Value} {Fs:Pl→Nat→Prop} (hT:∀ l T,look p.hp l=some T→TO w (.sl T.k T.n T.f) (hvc l) (Fs (.keep l))) (hd:∀ s s' b,Fs s b→Fs s' b→s=s') (hlt:∀ s b,Fs s b→b<w.heap.size) :
 ∀ (ks:List (Nat×Nat)) (hs:List (Nat×Tree)) (σ:St) (G:Gh),RG F G σ a w→keptH p ks=some hs→nodupB (ks.map (·.1))=true→(∀ e∈ks,hvc e.1=G.hv e.2)→(∀ e∈ks,∀ b,Fs (.keep e.1) b→G.ow b=.gone) →
 ∃ G',RG F G' { σ with hp:=hs++σ.hp } a w∧Grow (fun b=>∃ e∈ks,Fs (.keep e.1) b) (fun _=>False) G G':=by
 intro ks
 induction ks with
 | nil=>intro hs σ G h hk _ _ _;simp only[keptH,Option.some.injEq] at hk;subst hk;exact⟨G,h,Grow.refl _ _ _⟩
 | cons e ks ih=>
  obtain⟨cl,l⟩:=e
  intro hs σ G h hk hn hv hg
  simp only[keptH] at hk
  split at hk
  ·rename_i T hs' h1 h2
   simp only[Option.some.injEq] at hk
   subst hk
   simp only[List.map_cons,nodupB,Bool.and_eq_true,Bool.not_eq_true',List.contains_eq_mem,decide_eq_false_iff_not] at hn
   obtain⟨G1,k1,k2⟩:=ih hs' σ G h h2 hn.2 (fun e he=>hv e (by simp[he])) (fun e he=>hg e (by simp[he]))
   have hv1:∀ m,G1.hv m=G.hv m:=fun m=>(k2.hv m).resolve_right id
   have hg1:∀ b,Fs (.keep cl) b→G1.ow b=.gone:=fun b hb=>k2.gone (hg (cl,l) (by simp) b hb) fun⟨e,he,hb'⟩=>by
    grind
   obtain⟨G2,m1,m2,m3,_⟩:=k1.addTree l T (hvc cl) (Fs (.keep cl)) (fun b hb=>⟨hlt _ _ hb,hg1 b hb⟩) (hT cl T h1) (.inl (by rw[hv1,hv (cl,l) (by simp)]))
   refine⟨G2,m1,Grow.trans (k2.mono (fun b ⟨e,he,hb⟩=>⟨e,by simp[he],hb⟩) fun _ h=>h) ⟨fun b=>(m3.ow b).imp id fun x=>⟨⟨(cl,l),by simp,x.1⟩,x.2⟩,m3.be,fun m=>.inl ?_⟩⟩
   rcases m3.hv m with e|e
   ·exact e
   ·simp_all
  ·simp at hk
theorem noRef_box {σ:St} {l b:Nat} {cs:List Cell} (h:NoRef σ l) (hc:cs.any (·.refs l)=false):NoRef { σ with bx:=(b,cs)::σ.bx } l:=by
 refine⟨h.1,fun b' cs' hl=>?_⟩
 simp only[look] at hl
 split at hl
 ·simp_all
 ·exact h.2 b' cs' hl
theorem boxB_ok {p:Pst} {bec:Nat→Nat} {Fs:Pl→Nat→Prop} (hT:∀ b cs,look p.bx b=some cs→∃ r e,w.heap[bec b]? = some (.cells r e (0,0))∧r.size=cs.length∧∀ (j:Nat) (c:FC),cs[j]? = some c→∃ u,r[j]? = some u∧TO w (fcC c) u (Fs (.box b j))∧u.oneCell'=true)
 (hd:∀ s s' b,Fs s b→Fs s' b→s=s') (hlt:∀ s b,Fs s b→b<w.heap.size) :
 ∀ (bs:List (Nat×Nat)) (hb:List (Nat×Tree)) (bb:List (Nat×List Cell)) (σ:St) (G:Gh),RG F G σ a w→boxB p bs=some (hb,bb)→nodupB (bs.map (·.1))=true→nodupB (bs.map (·.2))=true→(∀ e∈bs,bec e.1=G.be e.2) →
 (∀ e∈bs,∀ e'∈bs,G.be e.2=G.be e'.2→e.2=e'.2)→(∀ e∈bs,G.ow (G.be e.2)=.gone∧∀ s,¬ Fs s (G.be e.2))→(∀ e∈bs,∀ j b,Fs (.box e.1 j) b→G.ow b=.gone)→(hb≠[]→∀ e∈bs,Fresh σ (64*e.2) 64) →
 ∃ G',RG F G' { σ with hp:=hb++σ.hp,bx:=bb++σ.bx } a w∧Grow (fun b=>(∃ e∈bs,∃ j,Fs (.box e.1 j) b)∨∃ e∈bs,b=G.be e.2) (fun m=>m / 64∈bs.map (·.2)) G G' ∧
  ∀ l,NoRef σ l→l / 64∉bs.map (·.2)→NoRef { σ with hp:=hb++σ.hp,bx:=bb++σ.bx } l:=by
 intro bs
 induction bs with
 | nil=>intro hb bb σ G h hk _ _ _ _ _ _ _;simp only[boxB,Option.some.injEq,Prod.mk.injEq] at hk;obtain⟨rfl,rfl⟩:=hk;exact⟨G,h,Grow.refl _ _ _,fun l hl _=>hl⟩
 | cons e bs ih=>
  obtain⟨cb,b⟩:=e
  intro hb bb σ G h hk hn hn2 hbe hinj hgb hgt hfr
  simp only[boxB] at hk
  split at hk
  ·rename_i ds hs' bs' h1 h2
   cases hc:decide (ds.length≤64) with
   | false=>simp[hc] at hk
   | true=>
    simp only[hc,cond_true,Option.some.injEq,Prod.mk.injEq] at hk
    obtain⟨rfl,rfl⟩:=hk
    have hlen:ds.length≤64:=of_decide_eq_true hc
    simp only[List.map_cons,nodupB,Bool.and_eq_true,Bool.not_eq_true',List.contains_eq_mem,decide_eq_false_iff_not] at hn hn2
    obtain⟨G1,k1,k2,k3⟩:=ih hs' bs' σ G h h2 hn.2 hn2.2 (fun e he=>hbe e (by simp[he])) (fun e he e' he'=>hinj e (by simp[he]) e' (by simp[he'])) (fun e he=>hgb e (by simp[he])) (fun e he=>hgt e (by simp[he]))
     (fun hne e he=>hfr (by simp[hne]) e (by simp[he]))
    obtain⟨r,t,r1,r2,r3⟩:=hT cb ds h1
    have hbeb:bec cb=G.be b:=hbe (cb,b) (by simp)
    have hgone:∀ j x,Fs (.box cb j) x→G1.ow x=.gone:=fun j x hx=>k2.gone (hgt (cb,b) (by simp) j x hx) fun hu=>by
     rcases hu with⟨e,he,j',hx'⟩|⟨e,he,rfl⟩
     ·have:=hd _ _ _ hx hx'
      injection this with this
      exact hn.1 (this▸List.mem_map_of_mem he)
     ·exact(hgb e (by simp[he])).2 _ hx
    have hnl:∀ m,64*b≤m→m<64*b+ds.length→m / 64=b:=fun m h1 h2=>by omega
    obtain⟨G2,m1,m2,m3⟩:=take_ok ds r.toList (fun j=>Fs (.box cb j)) G1 (64*b) { σ with hp:=hs'++σ.hp,bx:=bs'++σ.bx } k1
     (fun hne m h1 h2=>⟨(hfr (by simp[hne]) (cb,b) (by simp) m h1 (by omega)).1,k3 m (hfr (by simp[hne]) (cb,b) (by simp) m h1 (by omega)).2 (by rw[hnl m h1 h2];exact hn2.1)⟩)
     (by simpa using r2) (fun j c u hj hu=>by
      obtain⟨u',hu',ht⟩:=r3 j c hj
      have h2:r.toList[j]? = some u':=by simpa using hu'
      rw[hu] at h2
      injection h2 with h2
      subst h2
      exact ht) (fun j x hx=>⟨hlt _ _ hx,hgone j x hx⟩) (fun j j' x hx hx'=>by have:=hd _ _ _ hx hx';injection this)
    have hbe2:G2.be=G.be:=m3.be.trans k2.be
    have hg2:G2.ow (G2.be b)=.gone:=by
     rw[hbe2]
     refine m3.gone (k2.gone (hgb (cb,b) (by simp)).1 fun hu=>?_) fun⟨j,hj⟩=>(hgb (cb,b) (by simp)).2 _ hj
     rcases hu with⟨e,he,j',hx'⟩|⟨e,he,hx⟩
     ·exact(hgb (cb,b) (by simp)).2 _ hx'
     ·have:=hinj (cb,b) (by simp) e (by simp[he]) hx
      have h3:b=e.2:=this
      exact hn2.1 (h3▸List.mem_map_of_mem he)
    obtain⟨G3,n1,n2⟩:=m1.addBox b (takeC (64*b) ds) r t hg2 (by rw[hbe2,←hbeb];exact r1) ⟨by rw[takeC_len];exact r2,fun j c hj=>by
     have hlt:j<r.size:=by rw[r2,←takeC_len ds (64*b)];exact(List.getElem?_eq_some_iff.1 hj).1
     exact⟨r[j],by simp[hlt],m2 j c r[j] hj (by simp[hlt])⟩⟩
    refine⟨G3,?_,?_,fun l hl hml=>?_⟩
    ·simpa only[List.append_assoc,List.cons_append] using n1
    ·refine Grow.trans (k2.mono (fun x hx=>?_) fun m hm=>by simp[hm]) (Grow.trans (m3.mono (fun x ⟨j,hx⟩=>.inl ⟨(cb,b),by simp,j,hx⟩) fun m hm=>by simp[hnl m hm.1 hm.2]) (n2.mono (fun x hx=>.inr ⟨(cb,b),by simp,by rw[←hbe2];exact hx⟩) fun m hm=>hm.elim))
     rcases hx with⟨e,he,j,hx⟩|⟨e,he,hx⟩
     ·exact .inl ⟨e,by simp[he],j,hx⟩
     ·exact .inr ⟨e,by simp[he],hx⟩
    ·have hml':l / 64≠b∧l / 64∉bs.map (·.2):=by simpa using hml
     have hk:=k3 l hl hml'.2
     refine noRef_box (σ:={ σ with hp:=_,bx:=bs'++σ.bx }) hk ?_
     cases hq:(takeC (64*b) ds).any (·.refs l) with
     | false=>rfl
     | true=>
      obtain⟨c,hc,hr⟩:=List.any_eq_true.1 hq
      obtain⟨j,hj⟩:=List.mem_iff_getElem?.1 hc
      have:=(takeC_refs _ _ _ _ hj).1 l hr
      exact absurd (hnl l this.1 this.2) hml'.1
  ·simp at hk
theorem boxB_some {p:Pst}:∀ {bs:List (Nat×Nat)} {r:List (Nat×Tree)×List (Nat×List Cell)},boxB p bs=some r→∀ e∈bs,(look p.bx e.1).isSome=true:=by
 intro bs
 induction bs with
 | nil=>intro r _ e he;simp at he
 | cons x bs ih=>
  obtain⟨cb,b⟩:=x
  intro r h e he
  simp only[boxB] at h
  grind
theorem keptOf_mem {ms:List Md}:∀ {gv:List (Nat×Option Nat×Tree)} {e:Nat×Nat},e∈keptOf ms gv→∃ T,(e.1,some e.2,T)∈gv:=by
 intro gv
 induction gv with
 | nil=>intro e h;simp[keptOf] at h
 | cons x gv ih=>
  obtain⟨cl,m,T⟩:=x
  intro e h
  cases m with
  | none=>obtain⟨T',h'⟩:=ih (e:=e) (by simpa [keptOf] using h);exact⟨T',by simp[h']⟩
  | some l=>
   simp only[keptOf] at h
   grind
theorem dropped_ok (h:RG F G σ a w) (g:Giv) (ks:List (Nat×Nat)) (hks:∀ e∈ks,e.2∈g.gl):∃ G',RG F G' (dropped σ g ks) a w∧G'.be=G.be∧G'.hv=G.hv∧(∀ b,G.ow b=.gone→G'.ow b=.gone)∧(∀ b m,G.ow b=.lab m→m∈g.gl→G'.ow b=.gone) ∧
 (∀ b m,G.ow b=.box m→m∈g.gb→G'.ow b=.gone)∧(∀ b,G'.ow b≠.gone→G'.ow b=G.ow b)∧(∀ b m,G'.ow b=.lab m→m∉g.gl)∧(∀ b m,G'.ow b=.box m→m∉g.gb)∧(g.gl=[]→g.gb=[]→G'=G):=by
 unfold dropped
 cases hc:(g.gl.isEmpty&&g.gb.isEmpty) with
 | true=>
  grind
 | false=>
  simp only[cond_false]
  obtain⟨G',k1,k2,k3,k4,k5,k6,k7,k8,k9,_⟩:=h.drop (g.gl.filter fun l=>!(ks.map (·.2)).contains l) (ks.map (·.2)) g.gb
  grind
theorem afterCall_ok {d:Nat} {ms:List Md} {g:Giv} {p:Pst} {v:Value} {Fs:Pl→Nat→Prop} {σ':St} {x:TV} (h:RG F G σ a w) (hng:nodupB (g.gv.map (·.1))=true) (hbs:nodupB (g.bs.map (·.1))=true) (hgb:nodupB g.gb=true) (ho:Onward w w')
 (hfree:∀ b,(gc w G g).ow b=.free→w'.heap[b]? = w.heap[b]?) (hcur:∀ b,(gc w G g).ow b=.cur→CurStep w w' b) (hp:PstF w (gc w G g) w' v p Fs) (hk:afterCall d σ ms g p=some (σ',x)) :
 ∃ G',RG F G' σ' a w'∧TVR w' G' x v∧(g.gl=[]→g.gb=[]→(∀ b,G.ow b≠.gone→G'.ow b=G.ow b)∧G'.be=G.be∧∀ l,(l<64*d∨64*d+64≤l)→G'.hv l=G.hv l):=by
 unfold afterCall at hk
 dsimp only at hk
 split at hk
 ·rename_i hkp hb bs e1 e2
  generalize hcnd:((hb.isEmpty&&(p.r.take (64*d)).2.isEmpty||noneIn σ.fl (ranges d g.gb))&&decide (p.r.len≤64)&&nodupB ((keptOf ms g.gv).map (·.1)) && !g.gb.contains d&&g.bs.all (fun e=>(look σ.bx e.2).isSome))=cnd at hk
  cases cnd with
  | false=>simp at hk
  | true=>
   simp only[cond_true,Option.some.injEq,Prod.mk.injEq] at hk
   obtain⟨rfl,rfl⟩:=hk
   simp only[Bool.and_eq_true,Bool.or_eq_true,Bool.not_eq_true',decide_eq_true_eq,List.contains_eq_mem,decide_eq_false_iff_not,List.all_eq_true] at hcnd
   obtain⟨⟨⟨⟨c1,c2⟩,c3⟩,c4⟩,c5⟩:=hcnd
   have kmem:∀ e∈keptOf ms g.gv,e.2∈g.gl:=fun e he=>let ⟨T,hT⟩:=keptOf_mem he;mem_gl hT
   obtain⟨G1,d1,d2,d3,d4,d5,d6,d7,d8,d9,d10⟩:=dropped_ok h g (keptOf ms g.gv) kmem
   have hlt:∀ b,w.heap.size≤b→G.ow b=.gone:=by
    intro b hb1
    cases hq:G.ow b with
    | gone=>rfl
    | _=>exact absurd (h.lt b (by simp[hq])) (by omega)
   have w1:RG F G1 (dropped σ g (keptOf ms g.gv)) a w':=d1.world2 ho (fun b hb1 hb2=>by
    have e:=d7 b hb1
    refine hfree b (gc_free ?_ (e▸hb2) (fun m hm=>?_) fun m hm=>?_)
    ·exact h.lt b (e▸hb1)
    ·exact d8 b m (e.trans hm)
    ·exact d9 b m (e.trans hm)) fun b hb1=>by
    have e:=d7 b (by rw[hb1];intro e;cases e)
    have hc:G.ow b=.cur:=e▸hb1
    have hlt1:b<w.heap.size:=h.lt b (by simp[hc])
    exact hcur b (by simp only[gc,hlt1,if_true,hc,gcOw])
   have hgn:∀ s b,Fs s b→G1.ow b=.gone:=by
    intro s b hs
    have e:=(hp.own s b hs).2.1.1
    have e0:=(hp.own s b hs).2.1.2
    by_cases hb1:b<w.heap.size
    ·simp only[gc,hb1,if_true] at e e0
     cases hq:G.ow b with
     | gone=>exact d4 b hq
     | free=>simp[hq,gcOw] at e
     | lab m=>
      rw[hq] at e
      simp only[gcOw] at e
      split at e
      ·rename_i cl hl2
       obtain⟨T,hT⟩:=lab2_mem hl2
       exact d5 b m hq (mem_gl hT)
      ·simp at e
     | box m=>
      rw[hq] at e
      simp only[gcOw] at e
      split at e
      ·rename_i cb hl2
       exact d6 b m hq (List.mem_map_of_mem (f:=(·.2)) (box2_mem hl2))
      ·simp at e
     | cur=>rw[hq] at e0;exact absurd rfl e0
    ·exact d4 b (hlt b (by omega))
   have hbo:∀ e∈g.bs,G.ow (G.be e.2)=.box e.2:=by
    intro e he
    obtain⟨cs,hcs⟩:=Option.isSome_iff_exists.1 (c5 e he)
    exact(h.bx e.2 cs hcs).1
   have hnb:∀ e∈g.bs,∀ s,¬ Fs s (G.be e.2):=by
    intro e he s hs
    have hbe1:(gc w G g).be e.1=G.be e.2:=by
     have:=look_mem (l:=g.bs) hbs he
     simp only[gc,this]
    exact(hp.own s _ hs).2.2 e.1 (boxB_some e2 e he) hbe1.symm
   have w2:RG F G1 (bif hb.isEmpty&&(p.r.take (64*d)).2.isEmpty then dropped σ g (keptOf ms g.gv) else(dropped σ g (keptOf ms g.gv)).zap (ranges d g.gb) (fun _=>false)) a w':=by
    cases hb.isEmpty&&(p.r.take (64*d)).2.isEmpty with
    | true=>exact w1
    | false=>exact w1.zap _ _
   have hfl:(bif hb.isEmpty&&(p.r.take (64*d)).2.isEmpty then dropped σ g (keptOf ms g.gv) else(dropped σ g (keptOf ms g.gv)).zap (ranges d g.gb) (fun _=>false)).fl=σ.fl:=by
    have:(dropped σ g (keptOf ms g.gv)).fl=σ.fl:=by
     unfold dropped
     cases (g.gl.isEmpty&&g.gb.isEmpty)<;>rfl
    cases hb.isEmpty&&(p.r.take (64*d)).2.isEmpty
    ·exact this
    ·exact this
   have fresh:∀ m,(hb≠[]∨(p.r.take (64*d)).2≠[])→ranges d g.gb m=true→m∉σ.fl∧NoRef (bif hb.isEmpty&&(p.r.take (64*d)).2.isEmpty then dropped σ g (keptOf ms g.gv) else(dropped σ g (keptOf ms g.gv)).zap (ranges d g.gb) (fun _=>false)) m:=by
    intro m hne hm
    have hf:(hb.isEmpty&&(p.r.take (64*d)).2.isEmpty)=false:=by
     rcases hne with hne|hne<;>simp[hne]
    rw[hf]
    refine⟨fun hmem=>?_,zap_noRef hm⟩
    rcases c1 with c1|c1
    ·simp[c1.1,c1.2] at hf
    ·unfold noneIn at c1
     rw[List.all_eq_true] at c1
     have:=c1 m hmem
     simp[hm] at this
   generalize (bif hb.isEmpty&&(p.r.take (64*d)).2.isEmpty then dropped σ g (keptOf ms g.gv) else(dropped σ g (keptOf ms g.gv)).zap (ranges d g.gb) (fun _=>false))=σ2 at w2 hfl fresh
   obtain⟨G2,k1,k2⟩:=keptH_ok (hvc:=(gc w G g).hv) hp.hp hp.dis (fun s b hs=>(hp.own s b hs).1) (keptOf ms g.gv) hkp σ2 G1 w2 e1 c3 (fun e he=>by
    obtain⟨T,hT⟩:=keptOf_mem he
    have:=look_mem (l:=g.gv) hng hT
    rw[d3]
    simp only[gc,this]) (fun e he b hb1=>hgn _ _ hb1)
   have hmb:∀ e∈g.bs,e.2∈g.gb:=fun e he=>List.mem_map_of_mem he
   have hbe1:∀ e∈g.bs,(gc w G g).be e.1=G.be e.2:=fun e he=>by
    have:=look_mem (l:=g.bs) hbs he
    simp only[gc,this]
   have hbe2:G2.be=G.be:=k2.be.trans d2
   obtain⟨G3,m1,m2,m3⟩:=boxB_ok (bec:=(gc w G g).be) hp.bx hp.dis (fun s b hs=>(hp.own s b hs).1) g.bs hb bs { σ2 with hp:=hkp++σ2.hp } G2 k1 e2 hbs hgb (fun e he=>by rw[hbe2];exact hbe1 e he)
    (fun e he e' he' hee=>by rw[hbe2] at hee;have h1:=hbo e he;rw[hee,hbo e' he'] at h1;injection h1 with h1;exact h1.symm)
    (fun e he=>by
     rw[hbe2]
     refine⟨k2.gone (d6 _ _ (hbo e he) (hmb e he)) fun⟨e',_,hx⟩=>hnb e he _ hx,hnb e he⟩)
    (fun e he j b hb1=>k2.gone (hgn _ _ hb1) fun⟨e',_,hx⟩=>by have:=hp.dis _ _ _ hb1 hx;cases this)
    (fun hne e he m h1 h2=>by
     have hr:ranges d g.gb m=true:=by
      have:m / 64=e.2:=by omega
      simp[ranges,this,hmb e he]
     have:=fresh m (.inl hne) hr
     exact⟨by show m∉σ2.fl;rw[hfl];exact this.1,this.2⟩)
   obtain⟨G4,n1,n2,n3⟩:=resTake_ok p.r m1 (64*d) (fun hne m h1 h2=>by
    have hmd:m / 64=d:=by have:=c2;omega
    have hr:ranges d g.gb m=true:=by simp[ranges,hmd]
    have:=fresh m (.inr hne) hr
    exact⟨by show m∉σ2.fl;rw[hfl];exact this.1,m3 m this.2 (by rw[hmd];exact c4)⟩) hp.res
    (fun i j b hb1=>⟨(hp.own _ _ hb1).1,m2.gone (k2.gone (hgn _ _ hb1) fun⟨e',_,hx⟩=>by have:=hp.dis _ _ _ hb1 hx;cases this) fun hu=>by
     rcases hu with⟨e',_,j',hx⟩|⟨e',he',hx⟩
     ·have:=hp.dis _ _ _ hb1 hx;cases this
     ·rw[hbe2] at hx;exact hnb e' he' _ (hx▸hb1)⟩)
    (fun i j i' j' b hb1 hb2=>by have:=hp.dis _ _ _ hb1 hb2;injection this with x1 x2;exact⟨x1,x2⟩)
   refine⟨G4,n1,n2,fun hgl hgb0=>?_⟩
   have hG:G1=G:=d10 hgl hgb0
   have hbs0:g.bs=[]:=by simpa [Giv.gb] using hgb0
   subst hG
   refine⟨fun b hb1=>?_,n3.be.trans (m2.be.trans k2.be),fun l hl=>?_⟩
   ·rw[n3.same,m2.same,k2.same hb1]
    ·rw[k2.same hb1];exact hb1
    ·rw[m2.same (by rw[k2.same hb1];exact hb1),k2.same hb1];exact hb1
   ·have q1:G4.hv l=G3.hv l:=(n3.hv l).resolve_right (by omega)
    have q2:G3.hv l=G2.hv l:=(m2.hv l).resolve_right (by simp[hbs0])
    have q3:G2.hv l=G1.hv l:=(k2.hv l).resolve_right id
    rw[q1,q2,q3]
 ·simp at hk
end
end Go.D
namespace Go.D
def Cell.isFree:Cell→Bool
 | .im none _ _=>true
 | _=>false
def Cell.unfree (c:Cell):Cell:=bif c.isFree then .dead else c
def TV.unfree:TV→TV
 | .v a cs=>.v a (cs.map Cell.unfree)
 | .tup ps=>.tup (ps.map fun p=>(p.1,p.2.map Cell.unfree))
 | .sptr none _ _ _=>.dead
 | .cur=>.dead
 | .aptr _ _=>.dead
 | .clo _ _=>.dead
 | x=>x
def innSt (σ:St) (l lp:Nat) (t:Ty) (xs:List (El t)):St :=
 ({ σ with hp:=(lp,⟨t,xs⟩)::σ.hp.filter (fun p=>!(p.1==l||p.1==lp)),fl:=lp::l::σ.fl }.kill [lp]).loose [l]
def St.unfree (σ:St):St:=σ.map Cell.unfree TV.unfree
def backSt (σ:St) (fl:List Nat) (l lp:Nat) (T:Tree):St :=
 (({ σ with hp:=(l,T)::σ.hp.filter (fun p=>!(p.1==l||p.1==lp)),fl:=fl }.kill [lp]).loose [l]).unfree
section
variable {P:Program} {F:Fr P} {G G1:Gh} {σ:St} {a:Act} {w w':World}
theorem look_cons_filter (hp:List (Nat×Tree)) (l lp m:Nat) (T:Tree) (x:Nat) (hx:x=l∨x=lp):look ((x,T)::hp.filter (fun p=>!(p.1==l||p.1==lp))) m=if m=x then some T else if m=l∨m=lp then none else look hp m:=by
 simp only[look,beq_iff_eq]
 by_cases h1:m=x
 ·simp[h1]
 ·have:=look_filter (fun q=>!(q==l||q==lp)) hp m
  grind
theorem cell_carry2 {G G':Gh} {l lp:Nat} {c:Cell} {v:Value} (hr:∀ m,m≠lp→G'.hv m=G.hv m) (hf:FreeOk w w' G G') (hm:∀ m,m≠l→m≠lp→MemOk w w' G G' m) (h:CellR w G c v):CellR w' G' ((c.kill [lp]).loose [l]) v:=by
 refine Cell.carry hf (fun m e=>?_) (fun m e=>?_) (Cell.loose_ok [l] (Cell.kill_ok [lp] h))
 ·have e1:(c.kill [lp]).refs m=true:=by
   unfold Cell.loose at e
   split at e
   ·simp[Cell.refs] at e
   ·exact e
  exact hr m (by simpa using(Cell.kill_refs e1).2)
 ·obtain⟨h1,h2⟩:=Cell.loose_mems e
  exact hm m (by grind) (by simpa using(Cell.kill_mems h1).2)
theorem loose_refs' {x:TV} {ls:List Nat} {m:Nat} (h:(x.loose ls).refs m=true):x.refs m=true:=by
 have hc:∀ c:Cell,(c.loose ls).refs m=true→c.refs m=true:=by
  intro c e
  unfold Cell.loose at e
  split at e
  ·simp[Cell.refs] at e
  ·exact e
 have hcs:∀ cs:List Cell,(cs.map (·.loose ls)).any (·.refs m)=true→cs.any (·.refs m)=true:=by
  grind
 cases x<;>simp only[TV.loose,TV.map] at h
 case v agg cs=>exact hcs cs h
 case tup ps=>
  simp only[TV.refs,List.any_map,List.any_eq_true] at h
  obtain⟨p,hm,hp⟩:=h
  exact List.any_eq_true.2 ⟨p,hm,hcs _ (by grind)⟩
 all_goals
  split at h
  ·simp[TV.refs] at h
  ·exact h
theorem tv_carry2 {G G':Gh} {l lp:Nat} {x:TV} {v:Value} (hr:∀ m,m≠lp→G'.hv m=G.hv m) (hb:G'.be=G.be) (hf:FreeOk w w' G G') (hm:∀ m,m≠l→m≠lp→MemOk w w' G G' m) (h:TVR w G x v):TVR w' G' ((x.kill [lp]).loose [l]) v:=by
 have hx:=TV.map_ok (f:=fun c=>c.loose [l]) (bad:=fun x=>[l].any fun l=>x.mems l) (fun _ _=>Cell.loose_ok [l]) (TV.map_ok (f:=fun c=>c.kill [lp]) (bad:=fun x=>[lp].any fun l=>x.refs l||x.mems l) (fun _ _=>Cell.kill_ok [lp]) h)
 refine TV.carry hf (fun m e=>?_) (fun m e=>?_) (fun _ _=>by rw[hb]) hx
 ·exact hr m (by simpa using TV.kill_refs (loose_refs' e))
 ·exact hm m (by simpa using TV.loose_mems e) (by simpa using TV.kill_mems (TV.loose_mems' e))
theorem inn_atR {l k e j:Nat} {T:Tree} {v:Value} (h:RG F G σ a w) (hT:look σ.hp l=some T) (hk:T.k=k) (hx:InnR w G l k e j v) :
 ∃ g o cap row ety GG,InnAt w G l e j T v g o cap row ety GG:=by
 obtain⟨g,o,n,cap,r,ety,h1,h2,h3,h4,h5,h6⟩:=hx
 rcases h.hp l T hT with⟨⟨ad,hz⟩,_⟩|⟨g2,o2,cap2,row2,e2,GG,hv2,hn2,hc2,hg2,hF2,hrow2,hsub2,hdis2⟩
 ·rw[h1] at hz
  injection hz with _ hz _
  omega
 rw[h1] at hv2
 injection hv2 with ha hn hcap
 injection ha with ha
 injection ha with hgg hoo
 subst hgg hoo hn hcap
 rw[h5] at hg2
 injection hg2 with hg2
 injection hg2 with hr2 he2 hfr2
 subst hr2 he2
 subst hk
 exact⟨g,o,cap,r,ety,GG,h1,hn2,hc2,h5,h4,hrow2,hsub2,hdis2,h2,h3,h6⟩
theorem inn_at {l k e j:Nat} {t:Ty} {xs:List (El t)} {T:Tree} {v:Value} (h:RG F G σ a w) (hT:look σ.hp l=some T) (hk:T.k=k) (hx:TVR w G (.inn l k e j t xs) v):∃ g o cap row ety GG,InnAt w G l e j T v g o cap row ety GG:=inn_atR h hT hk hx.1
structure InnG (G G1:Gh) (S:Nat→Prop) (l lp:Nat) (v:Value):Prop where
 be:G1.be=G.be
 hv:∀ m,G1.hv m=if m=lp then v else G.hv m
 ins:∀ b,S b→G1.ow b=.lab lp
 out:∀ b,¬ S b→G1.ow b=match G.ow b with
  | .lab m=>if m=l then .free else if m=lp then .gone else .lab m
  | x=>x
open Classical in
theorem innG_ex (G:Gh) (S:Nat→Prop) (l lp:Nat) (v:Value):∃ G1,InnG G G1 S l lp v :=
 ⟨⟨fun b=>if S b then .lab lp else match G.ow b with
  | .lab m=>if m=l then .free else if m=lp then .gone else .lab m
  | x=>x,G.be,fun m=>if m=lp then v else G.hv m⟩,rfl,fun m=>rfl,fun b hb=>by simp[hb],fun b hb=>by simp[hb]⟩
theorem InnG.base {P:Program} {G G1:Gh} {S:Nat→Prop} {l lp:Nat} {v:Value} {w:World} (h:Base P w G.ow) (hS:∀ b,S b→G.ow b=.lab l) (hG:InnG G G1 S l lp v):Base P w G1.ow :=
 let ⟨w1,h1,hl,h2⟩:=h
 ⟨w1,h1,hl,fun b hb=>let ⟨x,y,z⟩:=h2 b hb;⟨x,by rw[hG.out b (fun hs=>by grind),y],z⟩⟩
def innFr {P:Program} (F:Fr P) (G G1:Gh) (w:World) (l lp:Nat) (v:Value) (hb:Base P w G1.ow):Fr P:={ w0:=w,ow0:=G1.ow,be0:=F.be0,hv0:=(lp,v)::(l,G.hv l)::F.hv0,ok:=hb }
theorem inn_split {l e j lp:Nat} {t:Ty} {xs:List (El t)} {T:Tree} {v:Value} {g o cap:Nat} {row:Array Value} {ety:TypeId} {GG:Nat→Nat→Nat→Prop} (h:RG F G σ a w) (hT:look σ.hp l=some T) (hI:InnAt w G l e j T v g o cap row ety GG)
 (hcell:cell T.t T.xs e j=.l t xs) (hne:lp≠l) (hfl:lp∉σ.fl) (hG:InnG G G1 (GG e j) l lp v) (hb:Base P w G1.ow) :
 RG (innFr F G G1 w l lp v hb) G1 (innSt σ l lp t xs) a w:=by
 have hS:∀ b,GG e j b→G.ow b=.lab l∧b≠g:=hI.sub e hI.he j hI.hj
 have how:∀ b x,G.ow b=x→(∀ m,x=.lab m→m≠l∧m≠lp)→G1.ow b=x:=by
  intro b x hb hx
  have hn:¬ GG e j b:=fun hs=>by
   grind
  rw[hG.out b hn,hb]
  grind
 have hr:∀ m,m≠lp→G1.hv m=G.hv m:=fun m hm=>by rw[hG.hv,if_neg hm]
 have hf:FreeOk w w G G1:=⟨fun b hb=>⟨rfl,how b _ hb (fun m e=>by cases e)⟩,fun b hb=>how b _ hb (fun m e=>by cases e)⟩
 have hm:∀ m,m≠l→m≠lp→MemOk w w G G1 m:=fun m h1 h2 b hb=>⟨rfl,how b _ hb (fun m' e=>by grind)⟩
 constructor
 case tm=>
  intro s tv hlk
  simp only[innSt,St.loose,St.kill,St.map,List.map_map,Function.comp_def] at hlk
  rw[look_map (fun x:TV=>(x.kill [lp]).loose [l])] at hlk
  cases hq:look σ.tm s with
  | none=>simp[hq] at hlk
  | some x=>
   simp only[hq,Option.map_some,Option.some.injEq] at hlk
   subst hlk
   exact tv_carry2 hr hG.be hf hm (h.tm s x hq)
 case bx=>
  intro b cs hlk
  simp only[innSt,St.loose,St.kill,St.map,List.map_map,Function.comp_def] at hlk
  rw[look_map (fun cs:List Cell=>(cs.map fun c=>(c.kill [lp]).loose [l]))] at hlk
  cases hq:look σ.bx b with
  | none=>simp[hq] at hlk
  | some x=>
   simp only[hq,Option.map_some,Option.some.injEq] at hlk
   subst hlk
   obtain⟨h1,r,e',h2,h3⟩:=h.bx b x hq
   rw[hG.be]
   refine⟨how _ _ h1 (fun m e=>by cases e),r,e',h2,by simpa using h3.1,fun jj c hjj=>?_⟩
   rw[List.getElem?_map] at hjj
   cases hq2:x[jj]? with
   | none=>simp[hq2] at hjj
   | some c0=>
    simp only[hq2,Option.map_some,Option.some.injEq] at hjj
    subst hjj
    obtain⟨u,hu,ht⟩:=h3.2 jj c0 hq2
    exact⟨u,hu,cell_carry2 hr hf hm ht⟩
 case hp=>
  intro m T' hlk
  simp only[innSt,St.loose,St.kill,St.map] at hlk
  rw[look_cons_filter σ.hp l lp m ⟨t,xs⟩ lp (.inr rfl)] at hlk
  by_cases h1:m=lp
  ·subst h1
   simp at hlk
   subst hlk
   obtain⟨u,hu,ht⟩:=hI.cells e hI.he j hI.hj
   rw[hI.at_] at hu
   injection hu with hu
   subst hu
   have e1:G1.hv m=v:=by rw[hG.hv,if_pos rfl]
   rw[e1]
   have e2:T.f e j=.sl (Tree.k ⟨t,xs⟩) (Tree.n ⟨t,xs⟩) (Tree.f ⟨t,xs⟩):=by
    rw[←fcC_tree ⟨t,xs⟩]
    show fcC (cell T.t T.xs e j)=_
    rw[hcell]
   rw[e2] at ht
   exact ht.frame fun b hb _=>⟨rfl,hG.ins b hb⟩
  ·simp only[h1,if_false] at hlk
   by_cases h2:m=l
   ·simp[h2] at hlk
   ·simp only[h2,false_or,if_false] at hlk
    rw[hr m h1]
    exact(h.hp m T' hlk).frame fun b hb _=>⟨rfl,how b _ hb (fun m' e=>by grind)⟩
 case lt=>
  intro b hb
  apply h.lt b
  grind
 case os=>rfl
 case tape=>rfl
 case output=>exact⟨rfl,DrLe.refl _⟩
 case size=>exact Nat.le_refl _
 case keep=>
  have hcb:∀ b,G1.ow b=.cur→G.ow b=.cur:=by
   intro b hb
   by_cases hs:GG e j b
   ·rw[hG.ins b hs] at hb;cases hb
   ·rw[hG.out b hs] at hb
    grind
  exact⟨fun b _ hb=>⟨rfl,hb⟩,fun b _ hb=>⟨hb,(h.keep.at_ b (hcb b hb)).same rfl⟩,fun b hb=>(h.keep.at_ b (hcb b hb)).carry hf rfl⟩
 case fb=>exact fun b β hb=>by rw[hG.be];exact h.fb b β hb
 case fl=>
  intro m u hlk
  simp only[innFr,look,beq_iff_eq] at hlk
  by_cases h1:m=lp
  ·simp only[h1,if_true,Option.some.injEq] at hlk
   subst hlk
   exact⟨by rw[hG.hv,if_pos h1],by simp[innSt,St.loose,St.kill,St.map,h1]⟩
  ·simp only[h1,if_false] at hlk
   by_cases h2:m=l
   ·simp only[h2,if_true,Option.some.injEq] at hlk
    subst hlk
    rw[hr m h1]
    exact⟨by rw[h2],by simp[innSt,St.loose,St.kill,St.map,h2]⟩
   ·simp only[h2,if_false] at hlk
    obtain⟨h3,h4⟩:=h.fl m u hlk
    rw[hr m h1]
    refine⟨h3,?_⟩
    simp only[innSt,St.loose,St.kill,St.map,List.contains_eq_mem,List.mem_cons,decide_eq_true_eq] at h4 ⊢
    exact .inr (.inr h4)
 case nt=>exact h.nt
 case df=>exact h.df
theorem unfree_cell {G G':Gh} {c:Cell} {v:Value} (hr:G'.hv=G.hv) (hm:∀ m,c.mems m=true→MemOk w w G G' m) (h:CellR w G c v):CellR w G' c.unfree v:=by
 cases c with
 | sc u=>exact h
 | tt=>exact h
 | ff=>exact h
 | nil=>exact h
 | ref l=>exact⟨by rw[hr];exact h.1,h.2⟩
 | sub l k lo n=>show SubR _ _ _ _ _;rw[hr];exact h
 | im s t xs=>
  cases s with
  | none=>exact h.one
  | some l=>exact TR.frame (fun b hb _=>hm l (by simp[Cell.mems]) b hb) h
 | dead=>exact h
theorem unfree_cells {G G':Gh} {cs:List Cell} {vs:Array Value} (hr:G'.hv=G.hv) (hm:∀ m,cs.any (·.mems m)=true→MemOk w w G G' m) (h:CellsR w G cs vs):CellsR w G' (cs.map Cell.unfree) vs:=by
 refine⟨by simpa using h.1,fun j c hj=>?_⟩
 rw[List.getElem?_map] at hj
 cases hq:cs[j]? with
 | none=>simp[hq] at hj
 | some c0=>
  simp only[hq,Option.map_some,Option.some.injEq] at hj
  subst hj
  obtain⟨u,hu,ht⟩:=h.2 j c0 hq
  exact⟨u,hu,unfree_cell hr (fun m hc=>hm m (List.any_eq_true.2 ⟨c0,List.mem_of_getElem? hq,hc⟩)) ht⟩
theorem unfree_part {G G':Gh} {agg:Bool} {cs:List Cell} {v:Value} (hr:G'.hv=G.hv) (hm:∀ m,cs.any (·.mems m)=true→MemOk w w G G' m) (h:PartR w G agg cs v):PartR w G' agg (cs.map Cell.unfree) v:=by
 cases agg with
 | false=>
  obtain⟨c,rfl,h⟩:=h
  exact⟨_,rfl,unfree_cell hr (fun m hc=>hm m (by grind)) h⟩
 | true=>
  obtain⟨vs,hv,h⟩:=h
  exact⟨vs,hv,unfree_cells hr hm h⟩
theorem unfree_tv {G G':Gh} {x:TV} {v:Value} (hr:G'.hv=G.hv) (hb:G'.be=G.be) (hm:∀ m,x.mems m=true→MemOk w w G G' m) (h:TVR w G x v):TVR w G' x.unfree v:=by
 cases x with
 | v agg cs=>exact unfree_part hr hm h
 | tup ps=>
  obtain⟨vs,hv,hs,h⟩:=h
  refine⟨vs,hv,by grind,fun j p hp=>?_⟩
  rw[List.getElem?_map] at hp
  cases hq:ps[j]? with
  | none=>simp[hq] at hp
  | some p0=>
   simp only[hq,Option.map_some,Option.some.injEq] at hp
   subst hp
   obtain⟨u,hu,ht⟩:=h j p0 hq
   exact⟨u,hu,unfree_part hr (fun m hc=>hm m (List.any_eq_true.2 ⟨p0,List.mem_of_getElem? hq,hc⟩)) ht⟩
 | ptr b off=>show _=_;rw[hb];exact h
 | lit b n t=>show _=_;rw[hb];exact h
 | eptr l k i off=>show ∃ _,_;rw[hr];exact h
 | sptr s t x off=>
  cases s with
  | none=>trivial
  | some l=>
   obtain⟨g,o,r,e,fr,hv,ho,hg,h⟩:=h
   have hml:=hm l (by simp[TV.mems])
   refine⟨g,o,r,e,fr,hv,(hml g ho).2,hg,fun j hj=>?_⟩
   obtain⟨u,hu,ht⟩:=h j hj
   exact⟨u,hu,ht.frame fun b hb' _=>hml b hb'⟩
 | capd l c=>
  obtain⟨⟨h1,h2⟩,a,n,h3⟩:=h
  exact⟨⟨by grind,h2⟩,a,n,by rw[hr];exact h3⟩
 | inn l k i off t xs=>
  have hml:=hm l (by simp[TV.mems])
  exact⟨h.1.carry (by rw[hr]) hml,h.2.frame fun b hb' _=>hml b hb'⟩
 | nptr l k i off t xs i2 o2=>exact nptr_carry (by rw[hr]) (hm l (by simp[TV.mems])) h
 | app l e j tt ts t xs=>exact app_carry (by rw[hr]) (hm l (by simp[TV.mems])) h
 | aptr cs off=>trivial
 | clo fn caps=>trivial
 | cur=>trivial
 | dead=>trivial
open Classical in
theorem inn_back {l e j lp:Nat} {t:Ty} {ys:List (El t)} {T:Tree} {v:Value} {g o cap:Nat} {row:Array Value} {ety:TypeId} {GG:Nat→Nat→Nat→Prop} {σ':St} {a':Act} {G':Gh} (h:RG F G σ a w) (hI:InnAt w G l e j T v g o cap row ety GG)
 (hne:lp≠l) (hfl:lp∉σ.fl) (hG:InnG G G1 (GG e j) l lp v) {hb:Base P w G1.ow} (h':RG (innFr F G G1 w l lp v hb) G' σ' a' w') (hl:look σ'.hp lp=some ⟨t,ys⟩)
 (hd:(dec T.t (splice (enc T.t (T.xs.getD e default)) j [.l t ys])).isSome=true) :
 ∃ G2,RG F G2 (backSt σ' σ.fl l lp ⟨T.t,T.xs.modify e (upd T.t j [.l t ys])⟩) a' w'∧FreeOk w w' G G2:=by
 have hS:∀ b,GG e j b→G.ow b=.lab l∧b≠g:=hI.sub e hI.he j hI.hj
 have rest:∀ b,G.ow b=.lab l→¬ GG e j b→w'.heap[b]? = w.heap[b]?∧G'.ow b=.free:=by
  intro b hb hn
  have e1:G1.ow b=.free:=by rw[hG.out b hn,hb];simp
  exact h'.keep.free b (h.lt b (by rw[hb];intro e;cases e)) e1
 have hvl:G'.hv l=G.hv l:=(h'.fl l (G.hv l) (by simp[innFr,look,Ne.symm hne])).1
 have hvp:G'.hv lp=v:=(h'.fl lp v (by simp[innFr,look])).1
 let G2:Gh:=⟨fun b=>(match G'.ow b with
  | .lab m=>if m=lp then .lab l else if m=l then .gone else .lab m
  | .free=>if G.ow b=.lab l∧¬ GG e j b then .lab l else .free
  | .cur=>if G.ow b=.cur then .cur else .gone
  | x=>x),G'.be,G'.hv⟩
 have ow2:∀ b m,m≠l→m≠lp→G'.ow b=.lab m→G2.ow b=.lab m:=fun b m h1 h2 hb=>by simp[G2,hb,h1,h2]
 have hm2:∀ m,m≠l→m≠lp→MemOk w' w' G' G2 m:=fun m h1 h2 b hb=>⟨rfl,ow2 b m h1 h2 hb⟩
 have fr:∀ b,G.ow b=.free→w'.heap[b]? = w.heap[b]?∧G2.ow b=.free:=by
  intro b h2
  have hn:¬ GG e j b:=fun hg=>by have:=(hS b hg).1;rw[h2] at this;cases this
  have e1:G1.ow b=.free:=by rw[hG.out b hn,h2]
  obtain⟨h3,h4⟩:=h'.keep.free b (h.lt b (by rw[h2];intro e;cases e)) e1
  exact⟨h3,by simp[G2,h4,h2]⟩
 have cu:∀ b,G.ow b=.cur→CurStep w w' b∧G2.ow b=.cur:=by
  intro b h2
  have hn:¬ GG e j b:=fun hg=>by have:=(hS b hg).1;rw[h2] at this;cases this
  have e1:G1.ow b=.cur:=by rw[hG.out b hn,h2]
  obtain⟨h3,h4⟩:=h'.keep.cur b (h.lt b (by rw[h2];intro e;cases e)) e1
  exact⟨h4,by simp[G2,h3,h2]⟩
 refine⟨G2,?_,fr,fun b hb=>(cu b hb).2⟩
 have tvs:∀ (x:TV) (u:Value),TVR w' G' x u→TVR w' G2 ((x.kill [lp]).loose [l]).unfree u:=by
  intro x u hx
  have hx1:=TV.map_ok (f:=fun c=>c.loose [l]) (bad:=fun x=>[l].any fun l=>x.mems l) (fun _ _=>Cell.loose_ok [l]) (TV.map_ok (f:=fun c=>c.kill [lp]) (bad:=fun x=>[lp].any fun l=>x.refs l||x.mems l) (fun _ _=>Cell.kill_ok [lp]) hx)
  exact unfree_tv (G:=G') (G':=G2) rfl rfl (fun m em=>hm2 m (by simpa using TV.loose_mems em) (by simpa using TV.kill_mems (TV.loose_mems' em))) hx1
 constructor
 case tm=>
  intro s tv hlk
  simp only[backSt,St.unfree,St.loose,St.kill,St.map,List.map_map,Function.comp_def] at hlk
  rw[look_map (fun x:TV=>((x.kill [lp]).loose [l]).unfree)] at hlk
  cases hq:look σ'.tm s with
  | none=>simp[hq] at hlk
  | some x=>
   simp only[hq,Option.map_some,Option.some.injEq] at hlk
   subst hlk
   exact tvs x _ (h'.tm s x hq)
 case bx=>
  intro b cs hlk
  simp only[backSt,St.unfree,St.loose,St.kill,St.map,List.map_map,Function.comp_def] at hlk
  rw[look_map (fun cs:List Cell=>(cs.map fun c=>((c.kill [lp]).loose [l]).unfree))] at hlk
  cases hq:look σ'.bx b with
  | none=>simp[hq] at hlk
  | some x=>
   simp only[hq,Option.map_some,Option.some.injEq] at hlk
   subst hlk
   obtain⟨h1,r,e',h2,h3⟩:=h'.bx b x hq
   refine⟨by simp[G2,h1],r,e',h2,by simpa using h3.1,fun jj c hjj=>?_⟩
   rw[List.getElem?_map] at hjj
   cases hq2:x[jj]? with
   | none=>simp[hq2] at hjj
   | some c0=>
    simp only[hq2,Option.map_some,Option.some.injEq] at hjj
    subst hjj
    obtain⟨u,hu,ht⟩:=h3.2 jj c0 hq2
    refine⟨u,hu,unfree_cell (G:=G') (G':=G2) rfl (fun m em=>?_) (Cell.loose_ok [l] (Cell.kill_ok [lp] ht))⟩
    obtain⟨e1,e2⟩:=Cell.loose_mems em
    exact hm2 m (by simpa using e2) (by simpa using(Cell.kill_mems e1).2)
 case hp=>
  intro m T' hlk
  simp only[backSt,St.unfree,St.loose,St.kill,St.map] at hlk
  rw[look_cons_filter σ'.hp l lp m _ l (.inl rfl)] at hlk
  by_cases h1:m=l
  ·subst h1
   simp only[if_true,Option.some.injEq] at hlk
   subst hlk
   have hxn:(T.xs.modify e (upd T.t j [.l t ys])).length=T.n:=by simp[Tree.n]
   have hlen:e<T.xs.length:=hI.he
   have hw:(enc T.t (T.xs.getD e default)).length=T.k:=enc_len _ _
   have hup:=(FcsLe.get (upd_ok hd)).2
   have hfr:∀ b,G.ow b=.lab m→¬ GG e j b→w'.heap[b]? = w.heap[b]?∧G2.ow b=.lab m:=fun b hb hn=>⟨(rest b hb hn).1,by simp[G2,(rest b hb hn).2,hb,hn]⟩
   have hgn:¬ GG e j g:=fun hg=>(hS g hg).2 rfl
   show TO w' _ (G'.hv m) _
   rw[hvl]
   refine .inr ⟨g,o,cap,row,ety,fun i' j' b=>if i'=e∧j'=j then G'.ow b=.lab lp else GG i' j' b,?_,?_,hI.hc,(hfr g hI.own hgn).1.trans hI.hg,(hfr g hI.own hgn).2,?_,?_,?_⟩
   ·rw[hI.hv];simp[Tree.n]
   ·show(T.xs.modify e _).length≤cap;rw[hxn];exact hI.hn
   ·intro i' hi' j' hj'
    have hi2:i'<T.n:=by rw[←hxn];exact hi'
    obtain⟨u,hu,ht⟩:=hI.cells i' hi2 j' hj'
    refine⟨u,hu,?_⟩
    show TO w' (fcC (cell T.t (T.xs.modify e (upd T.t j [.l t ys])) i' j')) u _
    rw[cell_modify hlen]
    by_cases hij:i'=e∧j'=j
    ·obtain⟨rfl,rfl⟩:=hij
     rw[if_pos rfl]
     rw[hI.at_] at hu
     injection hu with hu
     subst hu
     have hp:=h'.hp lp _ hl
     rw[hvp,←fcC_tree] at hp
     have hle:=hup j'
     rw[getD_splice (by rw[hw];simp;exact hI.hj),if_pos ⟨Nat.le_refl _,by simp⟩,Nat.sub_self,List.getD_cons_zero] at hle
     refine TO.le hle.le (hp.frame fun b hb _=>⟨rfl,?_⟩)
     simpa using hb
    ·have hdj:∀ b,GG i' j' b→¬ GG e j b:=fun b h1 h2=>hij (hI.dis i' hi2 j' hj' e hI.he j hI.hj b h1 h2)
     have hto:TO w' (T.f i' j') u (GG i' j'):=ht.frame fun b hb _=>⟨(hfr b (hI.sub i' hi2 j' hj' b hb).1 (hdj b hb)).1,hb⟩
     have hto2:TO w' (T.f i' j') u (fun b=>if i'=e∧j'=j then G'.ow b=.lab lp else GG i' j' b):=by
      simp only[if_neg hij];exact hto
     by_cases hie:i'=e
     ·subst hie
      rw[if_pos rfl]
      have hne2:j'≠j:=fun e0=>hij ⟨rfl,e0⟩
      have hle:=hup j'
      rw[getD_splice (by rw[hw];simp;exact hI.hj),if_neg (by simp;omega)] at hle
      exact TO.le hle.le hto2
     ·rw[if_neg hie]
      exact hto2
   ·intro i' hi' j' hj' b hb
    have hi2:i'<T.n:=by rw[←hxn];exact hi'
    try dsimp only at hb
    split at hb
    ·refine⟨by simp[G2,hb],?_⟩
     rintro rfl
     rw[(rest b hI.own hgn).2] at hb
     cases hb
    ·rename_i hij
     have hdj:¬ GG e j b:=fun h2=>hij (hI.dis i' hi2 j' hj' e hI.he j hI.hj b hb h2)
     exact⟨(hfr b (hI.sub i' hi2 j' hj' b hb).1 hdj).2,(hI.sub i' hi2 j' hj' b hb).2⟩
   ·intro i1 hi1 j1 hj1 i2 hi2 j2 hj2 b hb1 hb2
    have hi1':i1<T.n:=by rw[←hxn];exact hi1
    have hi2':i2<T.n:=by rw[←hxn];exact hi2
    try dsimp only at hb1 hb2
    split at hb1
    ·rename_i e1
     split at hb2
     ·rename_i e2
      exact⟨e1.1.trans e2.1.symm,e1.2.trans e2.2.symm⟩
     ·rename_i e2
      have hdj:¬ GG e j b:=fun h2=>e2 (hI.dis i2 hi2' j2 hj2 e hI.he j hI.hj b hb2 h2)
      rw[(rest b (hI.sub i2 hi2' j2 hj2 b hb2).1 hdj).2] at hb1
      cases hb1
    ·rename_i e1
     split at hb2
     ·have hdj:¬ GG e j b:=fun h2=>e1 (hI.dis i1 hi1' j1 hj1 e hI.he j hI.hj b hb1 h2)
      rw[(rest b (hI.sub i1 hi1' j1 hj1 b hb1).1 hdj).2] at hb2
      cases hb2
     ·exact hI.dis i1 hi1' j1 hj1 i2 hi2' j2 hj2 b hb1 hb2
  ·simp only[h1,if_false] at hlk
   by_cases h2:m=lp
   ·simp[h2] at hlk
   ·simp only[h2,false_or,if_false] at hlk
    exact(h'.hp m T' hlk).frame fun b hb _=>⟨rfl,ow2 b m h1 h2 hb⟩
 case lt=>
  intro b hb
  by_cases e0:G'.ow b=.gone
  ·simp[G2,e0] at hb
  ·exact h'.lt b e0
 case os=>exact h'.os.trans h.os
 case tape=>exact h'.tape.trans h.tape
 case output=>exact⟨h'.output.1.trans h.output.1,DrLe.trans h.output.2 h'.output.2⟩
 case size=>exact Nat.le_trans h.size h'.size
 case keep=>
  refine h.keep.step ⟨fr,fun b hb=>(cu b hb).2⟩ (fun b hb=>(cu b hb).1) fun b hb=>?_
  cases hq:G'.ow b with
  | cur=>
   simp only[G2,hq] at hb
   split at hb
   ·rename_i hc;exact hc
   ·cases hb
  | free=>
   simp only[G2,hq] at hb
   split at hb<;>cases hb
  | lab m=>
   simp only[G2,hq] at hb
   split at hb
   ·cases hb
   ·split at hb<;>cases hb
  | _=>simp[G2,hq] at hb
 case fb=>
  intro b β hb
  exact h'.fb b β hb
 case fl=>
  intro m u hlk
  obtain⟨h3,h4⟩:=h.fl m u hlk
  refine⟨?_,h4⟩
  have hmp:m≠lp:=by
   rintro rfl
   exact hfl (by simpa using h4)
  show G'.hv m=u
  by_cases h2:m=l
  ·rw[h2,hvl,←h2,h3]
  ·exact(h'.fl m u (by simp[innFr,look,hmp,h2,hlk])).1
 case nt=>exact h'.nt
 case df=>exact h'.df
end
end Go.D
namespace Go.D
section
variable {P:Program} {F:Fr P} {G G1:Gh} {σ:St} {a:Act} {w w':World} {o:Oper} {K:St→Out} {Q:Post} {Qx:Exit→Act→World→Prop}
def opIdxIn (P:Program) (o:Oper) (T:TypeId) (l k e j:Nat) (t:Ty) (xs:List (El t)) (i:Operand) (σ:St) (K:St→Out):Out :=
 match P.underlying T with
 | some (.slice et)=>match P.info? et,(σ.eval i).scal with
  | some ie,some (.int _ n)=>if t.width=ie.size then .ob (0≤n∧n<xs.length) (ret σ o (.nptr l k e j t xs n.toNat 0) K) else .bad
  | _,_=>.bad
 | _=>.bad
theorem opIdxIn_ok {T:TypeId} {s:Nat} {i:Operand} {l k e j:Nat} {t:Ty} {xs:List (El t)} (h:RG F G σ a w) (ho:o.op=.indexAddr T (.tmp s) i) (hs:σ.get s=.inn l k e j t xs) (hh:(opIdxIn P o T l k e j t xs i σ K).holds Q):o.wp P a w (ContE F G a w o.dst K Q) Qx:=by
 unfold opIdxIn at hh
 have hx:=raw_ok h s
 rw[hs] at hx
 obtain⟨hi1,hcr⟩:=hx
 rw[fcC_l] at hcr
 split at hh
 ·rename_i et hu
  split at hh
  ·rename_i ie kk n hie hn
   split at hh
   ·rename_i hk
    obtain⟨⟨h0,h1⟩,hh⟩:=hh
    obtain⟨ad,cap,hav,_,hz|⟨g,off,row,e',fr,rfl,hS,hg,hrow⟩⟩:=hcr
    ·omega
    ·have hav':a.eval (.tmp s)=.slice (some ⟨g,off,none⟩) xs.length cap:=hav
     refine ret_val h hh ⟨⟨_,g,off,xs.length,cap,hi1,hav,by omega,rfl⟩,g,off+n.toNat*t.width,row,e',fr,rfl,hS,hg,fun j hj=>?_⟩ ?_
     ·obtain⟨u,hu',ht⟩:=hrow n.toNat (by omega) j hj
      exact⟨u,hu',ht⟩
     ·simp[execOp,ho,hav',(scal_ok (eval_ok h i) hn).1,Instr.indexAt,asIntOf,run_underlying hu,h0,h1,sizeOf,typeInfo,hie,add_at,hk]
   ·exact hh.elim
  ·exact hh.elim
 ·exact hh.elim
def opFldIn (P:Program) (o:Oper) (T:TypeId) (l k e j:Nat) (t:Ty) (xs:List (El t)) (i2 o2:Nat) (f:Nat) (σ:St) (K:St→Out):Out :=
 match P.underlying T with
 | some (.struct fs)=>match fs[f]? with
  | some f=>match P.info? f.type with
   | some i=>if i.size=0 then .bad else ret σ o (.nptr l k e j t xs i2 (o2+f.offset)) K
   | none=>.bad
  | none=>.bad
 | _=>.bad
theorem opFldIn_ok {T:TypeId} {s f:Nat} {l k e j:Nat} {t:Ty} {xs:List (El t)} {i2 o2:Nat} (h:RG F G σ a w) (ho:o.op=.fieldAddr T (.tmp s) f) (hs:σ.get s=.nptr l k e j t xs i2 o2) (hh:(opFldIn P o T l k e j t xs i2 o2 f σ K).holds Q):o.wp P a w (ContE F G a w o.dst K Q) Qx:=by
 unfold opFldIn at hh
 have hx:=raw_ok h s
 rw[hs] at hx
 obtain⟨⟨u,g,off,n,cap,h1,h2,h3,h4⟩,g',off',r,e',fr,h5,h6⟩:=hx
 have hv:a.eval (.tmp s)=.pointer (some ⟨g,off+i2*t.width+o2,none⟩):=h4
 split at hh
 ·rename_i fs hu
  split at hh
  ·rename_i f hf
   split at hh
   ·rename_i i hi
    split at hh
    ·exact hh.elim
    ·rename_i hne
     have e1:g'=g∧off'+o2=off+i2*t.width+o2:=by
      rw[h4] at h5
      injection h5 with h5
      injection h5 with h5
      injection h5 with q1 q2
      exact⟨q1.symm,q2.symm⟩
     refine ret_val h hh (v:=.pointer (some ⟨g,off+i2*t.width+o2+f.offset,none⟩)) ⟨⟨u,g,off,n,cap,h1,h2,h3,by rw[Nat.add_assoc]⟩,g',off',r,e',fr,?_,h6⟩ ?_
     ·rw[e1.1,←Nat.add_assoc,e1.2]
     ·simp[execOp,ho,hv,Instr.fieldAt,Instr.sureAddr,run_underlying hu,hf,fieldPlace,sizeOf,typeInfo,hi,hne,add_at]
   ·exact hh.elim
  ·exact hh.elim
 ·exact hh.elim
def opNilIn (o:Oper) (s:Nat) (σ:St) (K:St→Out):Out:=ret σ o (σ.get s) K
theorem opNilIn_ok {s:Nat} {l k e j:Nat} {t:Ty} {xs:List (El t)} {i2 o2:Nat} (h:RG F G σ a w) (ho:o.op=.nilCheck (.tmp s)) (hs:σ.get s=.nptr l k e j t xs i2 o2) (hh:(opNilIn o s σ K).holds Q):o.wp P a w (ContE F G a w o.dst K Q) Qx:=by
 have hx:=raw_ok h s
 refine ret_val h hh hx ?_
 rw[hs] at hx
 obtain⟨⟨u,g,off,n,cap,h1,h2,h3,h4⟩,_⟩:=hx
 have hv:a.eval (.tmp s)=.pointer (some ⟨g,off+i2*t.width+o2,none⟩):=h4
 have hv2:a.tmps.getD s undef=.pointer (some ⟨g,off+i2*t.width+o2,none⟩):=h4
 rw[hv2]
 simp[execOp,ho,hv]
theorem put_self {d:Nat} (hd:d<a.tmps.size):a.put (some d) (a.tmps.getD d undef)=a:=by
 have e:a.tmps.setIfInBounds d (a.tmps.getD d undef)=a.tmps:=by
  rw[Array.getD_eq_getD_getElem?,Array.getElem?_eq_getElem hd,Option.getD_some]
  apply Array.ext
  ·exact Array.size_setIfInBounds
  ·intro i h1 h2
   rw[Array.getElem_setIfInBounds]
   split
   ·rename_i e;subst e;rfl
   ·rfl
 simp only[Act.put,e]
def TV.frees:TV→Bool
 | .v _ cs=>cs.all fun c=>match c with
  | .sc _=>true
  | .tt=>true
  | .ff=>true
  | .nil=>true
  | .im none _ _=>true
  | _=>false
 | _=>false
theorem frees_ok {x:TV} (h:x.frees=true):(∀ m,x.refs m=false)∧(∀ m,x.mems m=false)∧∀ b,x.hasB b=false:=by
 cases x with
 | v agg cs=>
  refine⟨fun m=>?_,fun m=>?_,fun b=>rfl⟩<;>simp only[TV.refs,TV.mems,List.any_eq_false]<;>intro c hc<;>have:=List.all_eq_true.1 h c hc
  ·cases c<;>simp_all [Cell.refs]
  ·cases c with
   | im s t xs=>cases s<;>simp_all [Cell.mems]
   | _=>simp_all [Cell.mems]
 | _=>simp[TV.frees] at h
def frSt (σ σ':St):St:={ σ' with tm:=σ'.tm.map fun p=>(p.1,bif (σ.get p.1).frees then σ.get p.1 else p.2)}
theorem look_mapK {α:Type} (f:Nat→α→α):∀ (l:List (Nat×α)) (t:Nat),look (l.map fun p=>(p.1,f p.1 p.2)) t=(look l t).map (f t)
 | [],_=>rfl
 | (s,v)::l,t=>by
  simp only[List.map_cons,look]
  split
  ·rename_i e
   rw[beq_iff_eq.1 e]
   rfl
  ·exact look_mapK f l t
theorem frSt_ok {G2:Gh} {σ':St} {a':Act} (h:RG F G σ a w) (hf:FreeOk w w' G G2) (ht:a'.tmps=a.tmps) (h':RG F G2 σ' a' w'):RG F G2 (frSt σ σ') a' w':=by
 refine⟨fun t tv hl=>?_,h'.bx,h'.hp,h'.lt,h'.os,h'.tape,h'.output,h'.size,h'.keep,h'.fb,h'.fl,h'.nt,h'.df⟩
 simp only[frSt] at hl
 rw[look_mapK (fun s x=>bif (σ.get s).frees then σ.get s else x)] at hl
 cases hq:look σ'.tm t with
 | none=>simp[hq] at hl
 | some y=>
  simp only[hq,Option.map_some,Option.some.injEq] at hl
  subst hl
  cases hc:(σ.get t).frees with
  | false=>exact h'.tm t y hq
  | true=>
   obtain⟨q1,q2,q3⟩:=frees_ok hc
   rw[cond_true,ht]
   exact TV.carry hf (fun m e=>by rw[q1 m] at e;cases e) (fun m e=>by rw[q2 m] at e;cases e) (fun b e=>by rw[q3 b] at e;cases e) (raw_ok h t)
theorem wp_none {K:Act→World→Prop} (hd:o.dst=none) (h:o.wp P a w K Qx):o.wp P a w (fun a' w'=>a'.tmps=a.tmps∧K a' w') Qx:=by
 unfold Oper.wp Oper.upon at *
 split at h<;>simp_all [Act.put]
def opStoreIn (P:Program) (o:Oper) (T:TypeId) (d l k e j:Nat) (t0:Ty) (i2 o2:Nat) (x:Operand) (σ:St) (K:St→Out):Out :=
 match look σ.hp l with
 | some TT=>match cell TT.t TT.xs e j with
  | .l t xs=>bif decide (TT.k=k)&&decide (64*d+63≠l) && !σ.fl.contains (64*d+63)&&decide (d<σ.nt)&&decide (t0=t) then
   opStore P o T (.tmp d) x ((innSt σ l (64*d+63) t xs).put d (.eptr (64*d+63) t.width i2 o2)) (fun σ'=>
    match look σ'.hp (64*d+63) with
    | some ⟨t',ys⟩=>bif (dec TT.t (splice (enc TT.t (TT.xs.getD e default)) j [.l t' ys])).isSome&&decide (t'=t) then .lt (List (El TT.t)) (TT.xs.modify e (upd TT.t j [.l t' ys])) fun zs=>K (frSt σ (backSt σ' σ.fl l (64*d+63) ⟨TT.t,zs⟩)) else .bad
    | none=>.bad)
   else .bad
  | _=>.bad
 | none=>.bad
theorem opStoreIn_ok {T:TypeId} {d l k e j:Nat} {t0:Ty} {xs0:List (El t0)} {i2 o2:Nat} {x:Operand} (h:RG F G σ a w) (ho:o.op=.store T (.tmp d) x) (hdst:o.dst=none) (hs:σ.get d=.nptr l k e j t0 xs0 i2 o2) (hh:(opStoreIn P o T d l k e j t0 i2 o2 x σ K).holds Q):o.wp P a w (Cont F K Q) Qx:=by
 unfold opStoreIn at hh
 have hx:=raw_ok h d
 rw[hs] at hx
 obtain⟨⟨v,pg,po,pn,pcap,p1,p2,p3,p4⟩,_⟩:=hx
 split at hh
 ·rename_i TT hT
  split at hh
  ·rename_i t xs hcell
   cases hc:(decide (TT.k=k)&&decide (64*d+63≠l) && !σ.fl.contains (64*d+63)&&decide (d<σ.nt)&&decide (t0=t)) with
   | false=>rw[hc,cond_false] at hh;exact hh.elim
   | true=>
    simp only[hc,cond_true] at hh
    simp only[Bool.and_eq_true,decide_eq_true_eq,Bool.not_eq_true'] at hc
    obtain⟨⟨⟨⟨hk,hne⟩,hfl⟩,hd⟩,ht0⟩:=hc
    subst ht0
    have hfl:64*d+63∉σ.fl:=by simpa using hfl
    obtain⟨g0,o0,cap,row,ety,GG,hI⟩:=inn_atR h hT hk p1
    obtain⟨G1,hG⟩:=innG_ex G (GG e j) l (64*d+63) v
    have h1:=inn_split h hT hI hcell hne hfl hG (hG.base h.base fun b hb=>(hI.sub e hI.he j hI.hj b hb).1)
    have h2:=RG.put (d:=d) (x:=.eptr (64*d+63) t0.width i2 o2) (v:=a.tmps.getD d undef) h1 hd ⟨pg,po,pn,pcap,by rw[hG.hv,if_pos rfl,p2],p4⟩
    rw[put_self (by rw[h.nt];exact hd)] at h2
    have:=wp_none hdst (opStore_ok (Qx:=Qx) h2 ho hdst hh)
    refine Oper.wp_mono ?_ this
    rintro a' w' ⟨ht,σ',⟨G',h'⟩,hh'⟩
    dsimp only at hh'
    split at hh'
    ·rename_i t' ys hl
     cases hc2:((dec TT.t (splice (enc TT.t (TT.xs.getD e default)) j [.l t' ys])).isSome&&decide (t'=t0)) with
     | false=>rw[hc2,cond_false] at hh';exact hh'.elim
     | true=>
      simp only[hc2,cond_true] at hh'
      simp only[Bool.and_eq_true,decide_eq_true_eq] at hc2
      obtain⟨hd2,rfl⟩:=hc2
      obtain⟨G2,h3,h4⟩:=inn_back h hI hne hfl hG h' hl hd2
      exact⟨_,⟨G2,frSt_ok h h4 ht h3⟩,hh'⟩
    ·exact hh'.elim
  ·exact hh.elim
 ·exact hh.elim
open Classical in
theorem RG.grow1 (h:RG F G σ a w) (l:Nat) (T0:Tree) (hl:look σ.hp l=some T0) (ho:Onward w w') (hs:∀ g,G.ow g≠.gone→G.ow g≠.lab l→w'.heap[g]? = w.heap[g]?) (N:Nat→Prop) (hN:∀ b,N b→b<w'.heap.size∧G.ow b=.gone)
 (hT:TO w' (.sl T0.k T0.n T0.f) (G.hv l) (fun g=>G.ow g=.lab l)):∃ G',RG F G' (σ.loose [l]) a w'∧G'.hv=G.hv∧G'.be=G.be∧(∀ b,N b→G'.ow b=.lab l)∧∀ b,¬ N b→G'.ow b=G.ow b:=by
 let G':Gh:={ ow:=fun g=>if N g then .lab l else G.ow g,be:=G.be,hv:=G.hv }
 have hsame:∀ g,G.ow g≠.gone→G'.ow g=G.ow g:=fun g hg=>if_neg fun q=>hg (hN g q).2
 have fo:FreeOk w w' G G':=⟨fun g hg=>⟨hs g (by simp[hg]) (by simp[hg]),by rw[hsame g (by simp[hg]),hg]⟩,fun g hg=>by rw[hsame g (by simp[hg]),hg]⟩
 have mo:∀ m,m≠l→MemOk w w' G G' m:=fun m hm g hg=>⟨hs g (by simp[hg]) (by rw[hg];intro e;injection e with e;exact hm e),by rw[hsame g (by simp[hg]),hg]⟩
 refine⟨G',?_,rfl,rfl,fun b hb=>if_pos hb,fun b hb=>if_neg hb⟩
 constructor
 case tm=>
  intro t tv hlk
  simp only[St.loose,St.map] at hlk
  rw[look_map (fun x:TV=>x.loose [l])] at hlk
  cases hq:look σ.tm t with
  | none=>simp[hq] at hlk
  | some x=>
   simp only[hq,Option.map_some,Option.some.injEq] at hlk
   subst hlk
   have hx:=TV.map_ok (f:=fun c=>c.loose [l]) (bad:=fun x=>[l].any fun l=>x.mems l) (fun _ _=>Cell.loose_ok [l]) (h.tm t x hq)
   exact TV.carry fo (fun _ _=>rfl) (fun m hm=>mo m (by simpa using TV.loose_mems hm)) (fun _ _=>rfl) hx
 case bx=>
  intro b cs hlk
  simp only[St.loose,St.map] at hlk
  rw[look_map (fun cs:List Cell=>cs.map fun c=>c.loose [l])] at hlk
  cases hq:look σ.bx b with
  | none=>simp[hq] at hlk
  | some x=>
   simp only[hq,Option.map_some,Option.some.injEq] at hlk
   subst hlk
   obtain⟨h1,r,e,h2,h3⟩:=h.bx b x hq
   refine⟨(hsame (G.be b) (by simp[h1])).trans h1,r,e,(hs (G.be b) (by simp[h1]) (by simp[h1])).trans h2,by simpa using h3.1,fun j c hj=>?_⟩
   rw[List.getElem?_map] at hj
   cases hq2:x[j]? with
   | none=>simp[hq2] at hj
   | some c0=>
    simp only[hq2,Option.map_some,Option.some.injEq] at hj
    subst hj
    obtain⟨u,hu,ht⟩:=h3.2 j c0 hq2
    exact⟨u,hu,Cell.carry fo (fun _ _=>rfl) (fun m hm=>mo m (by simpa using(Cell.loose_mems hm).2)) (Cell.loose_ok [l] ht)⟩
 case hp=>
  intro m T' hlk
  by_cases hml:m=l
  ·subst hml
   have e:T'=T0:=by
    have q:look σ.hp m=some T':=hlk
    rw[hl] at q
    injection q with q
    exact q.symm
   subst e
   exact hT.frame fun g hg _=>⟨rfl,by rw[hsame g (by simp[hg]),hg]⟩
  ·exact(h.hp m T' hlk).frame fun g hg _=>mo m hml g hg
 case lt=>
  intro g hg
  by_cases hn:N g
  ·exact(hN g hn).1
  ·exact Nat.lt_of_lt_of_le (h.lt g fun e=>hg ((if_neg hn).trans e)) ho.size
 case os=>exact ho.os.trans h.os
 case tape=>exact ho.tape.trans h.tape
 case output=>exact⟨ho.output.1.trans h.output.1,DrLe.trans h.output.2 ho.output.2⟩
 case size=>exact Nat.le_trans h.size ho.size
 case keep=>
  refine h.keep.next fo (fun g hg=>hs g (by simp[hg]) (by simp[hg])) fun g hg=>?_
  by_cases hn:N g
  ·have q:G'.ow g=.lab l:=if_pos hn
   rw[q] at hg;cases hg
  ·have q:G'.ow g=G.ow g:=if_neg hn
   rw[q] at hg;exact hg
 case fb=>exact h.fb
 case fl=>exact h.fl
 case nt=>exact h.nt
 case df=>exact h.df
theorem mul_lt {i n k j:Nat} (hi:i<n) (hj:j<k):i*k+j<n*k:=by
 have:(i+1)*k≤n*k:=Nat.mul_le_mul_right _ hi
 rw[Nat.add_mul,Nat.one_mul] at this
 omega
def opAppInn (P:Program) (o:Oper) (T:TypeId) (l k e j:Nat) (x:Operand) (σ:St) (K:St→Out):Out :=
 match P.underlying T with
 | some (.slice et)=>match P.info? et with
  | some i=>match i.zero,look σ.hp l,o.dst with
   | some z,some TT,some d=>match cell TT.t TT.xs e j with
    | .l t xs=>if 0<i.bytes∧z.cells.size=i.size∧t.width=i.size∧TT.k=k∧flatTy t=true∧d<σ.nt∧64*d+63≠l∧σ.fl.contains (64*d+63)=false then(match srcOf σ (σ.eval x) with
     | some (q,⟨t',ys⟩)=>if h:t'=t then .ob q (.ob (Room (xs.length+ys.length) i.bytes) (K ((σ.loose [l]).put d (.app l e j TT.t TT.xs t (xs++(h▸ys)))))) else .bad
     | none=>.bad) else .bad
    | _=>.bad
   | _,_,_=>.bad
  | none=>.bad
 | _=>.bad
theorem opAppInn_ok {T:TypeId} {s:Nat} {x:Operand} {l k e j:Nat} {t0:Ty} {xs0:List (El t0)} (h:RG F G σ a w) (ho:o.op=.call { callee:=.builtin .append,args := #[.tmp s,x],argTypes := #[T,T]}) (hs:σ.get s=.inn l k e j t0 xs0) (hh:(opAppInn P o T l k e j x σ K).holds Q):o.wp P a w (Cont F K Q) Qx:=by
 unfold opAppInn at hh
 have hx:=raw_ok h s
 rw[hs] at hx
 have hxv:=eval_ok h x
 split at hh
 ·rename_i et hu
  split at hh
  ·rename_i i hi
   split at hh
   ·rename_i z TT d hz hT hdst
    split at hh
    ·rename_i t xs hcell
     split at hh
     ·rename_i hc
      obtain⟨hby,hzs,hw,hk,hflat,hd,hne,hfl⟩:=hc
      have hfl:64*d+63∉σ.fl:=by simpa using hfl
      split at hh
      ·rename_i q t' ys hq
       split at hh
       ·rename_i he
        subst he
        obtain⟨hqq,hroom,hh⟩:=hh
        obtain⟨S,htr⟩:=srcOf_ok h hxv hq hqq
        rw[fcC_l,hw] at htr
        have hk0:0<i.size:=by rw[←hw];exact width_pos t'
        obtain⟨news,hn1,hn2,hn3⟩:=tr_src (P:=P) hk0 htr
        generalize hv0:a.tmps.getD s undef=v at hx
        obtain⟨g,o0,cap,row,ety,GG,hI⟩:=inn_at h hT hk hx
        obtain⟨G1,hG⟩:=innG_ex G (GG e j) l (64*d+63) v
        have h1:=inn_split h hT hI hcell hne hfl hG (hG.base h.base fun b hb=>(hI.sub e hI.he j hI.hj b hb).1)
        obtain⟨u0,hu0,hto⟩:=hI.cells e hI.he j hI.hj
        rw[hI.at_] at hu0
        injection hu0 with hu0
        subst hu0
        have ef:TT.f e j=.sl i.size xs.length (fun i j=>fcC (cell t' xs i j)):=by
         show fcC (cell TT.t TT.xs e j)=_
         rw[hcell,fcC_l,hw]
        rw[ef] at hto
        obtain⟨v',w',hr,hon,_,h1c,hext,hT'⟩:=app_core2 (P:=P) (g:=fun i j=>fcC (cell t' ys i j)) h1 T o.type et i z hu hi hz hk0 hzs (64*d+63) [] (by simp) (hto.frame fun b hb _=>⟨rfl,hG.ins b hb⟩) news (fun _ _ _=>False) hn1 hn2
         (fun i' hi' j hj=>by
          obtain⟨u,hu',ht⟩:=hn3 i' hi' j hj
          obtain⟨u2,hu2⟩:=cell_flat hflat ys i' j (by omega)
          refine⟨u,hu',?_⟩
          rw[hu2] at ht ⊢
          exact ht)
         (by simp) (by simp) hby hroom
        have hlp:∀ b,G1.ow b=.lab (64*d+63)→GG e j b:=by
         intro b hb
         refine Classical.byContradiction fun hn=>?_
         rw[hG.out b hn] at hb
         grind
        have hsame:∀ b,b<w.heap.size→¬ GG e j b→w'.heap[b]? = w.heap[b]?:=fun b hb hn=>(hext b hb).resolve_right fun q=>hn (hlp b q.1)
        have ltl:∀ b,G.ow b=.lab l→b<w.heap.size:=fun b e=>h.lt b (by simp[e])
        have hold:TO w' (TT.f e j) v (GG e j):=by
         rw[ef]
         rcases hto with hz0|⟨g3,o3,cap3,row3,e3,G3,hv3,hn3',hc3,hg3,hF3,hrow3,_,_⟩
         ·exact .inl hz0
         have hlt3:=ltl g3 (hI.sub e hI.he j hI.hj g3 hF3).1
         have val:∀ i',i'<xs.length→∀ j',j'<i.size→∃ u,row3[o3+i'*i.size+j']? = some u∧TO w' (fcC (cell t' xs i' j')) u (fun _=>False):=by
          intro i' hi' j' hj'
          obtain⟨u,hu',ht⟩:=hrow3 i' hi' j' hj'
          obtain⟨u2,hu2⟩:=cell_flat hflat xs i' j' (by omega)
          refine⟨u,hu',?_⟩
          dsimp only at ht
          rw[hu2] at ht ⊢
          exact ht
         rcases hext g3 hlt3 with hsm|⟨_,r1,r2,e4,off4,cap4,q1,q2,q3,q4,q5⟩
         ·exact .inr ⟨g3,o3,cap3,row3,e3,fun _ _ _=>False,hv3,hn3',hc3,hsm.trans hg3,hF3,val,by simp,by simp⟩
         ·rw[hg3] at q1
          injection q1 with q1
          injection q1 with q1 q1b q1c
          subst q1 q1b
          rw[hv3] at q4
          injection q4 with q4
          injection q4 with q4
          injection q4 with _ q4
          subst q4
          refine .inr ⟨g3,o3,cap3,r2,e3,fun _ _ _=>False,hv3,hn3',by rw[q3];exact hc3,q2,hF3,fun i' hi' j' hj'=>?_,by simp,by simp⟩
          obtain⟨u,hu',ht⟩:=val i' hi' j' hj'
          exact⟨u,by rw[q5 _ (by have:=mul_lt hi' hj';omega)];exact hu',ht⟩
        have gne:¬ GG e j g:=fun q=>(hI.sub e hI.he j hI.hj g q).2 rfl
        have hI':InnAt w' G l e j TT v g o0 cap row ety GG:=⟨hI.hv,hI.hn,hI.hc,(hsame g (ltl g hI.own) gne).trans hI.hg,hI.own,fun i' hi' j' hj'=>by
         obtain⟨u,hu',ht⟩:=hI.cells i' hi' j' hj'
         refine⟨u,hu',?_⟩
         by_cases hij:i'=e∧j'=j
         ·obtain⟨rfl,rfl⟩:=hij
          rw[hI.at_] at hu'
          injection hu' with hu'
          subst hu'
          exact hold
         ·exact ht.frame fun b hb _=>⟨hsame b (ltl b (hI.sub i' hi' j' hj' b hb).1) (fun q=>hij (hI.dis i' hi' j' hj' e hI.he j hI.hj b hb q)),hb⟩,hI.sub,hI.dis,hI.he,hI.hj,hI.at_⟩
        have gone:∀ b,(b=w.heap.size∧b<w'.heap.size)→b<w'.heap.size∧G.ow b=.gone:=fun b hb=>⟨hb.2,by rw[hb.1];exact alloc_gone h⟩
        obtain⟨G',hG',e1,e2,e3,e4⟩:=h.grow1 l TT hT hon (fun b hb hbl=>hsame b (h.lt b hb) (fun q=>hbl (hI.sub e hI.he j hI.hj b q).1)) (fun b=>b=w.heap.size∧b<w'.heap.size) gone
         (.inr ⟨g,o0,cap,row,ety,GG,hI'.hv,hI'.hn,hI'.hc,hI'.hg,hI'.own,hI'.cells,hI'.sub,hI'.dis⟩)
        have keepG:MemOk w' w' G G' l:=fun b hb=>⟨rfl,by rw[e4 b (fun q=>by rw[(gone b q).2] at hb;cases hb),hb]⟩
        have hTO:TO w' (fcC (.l t' (xs++ys))) v' (fun b=>(b=w.heap.size∧b<w'.heap.size)∨GG e j b):=TO.le (le_app hw) (hT'.frame fun b hb _=>⟨rfl,by
         rcases hb with hb|hb|⟨m,hm,_⟩
         ·exact .inl hb
         ·exact .inr (hlp b hb)
         ·simp at hm⟩)
        have hown:∀ b,((b=w.heap.size∧b<w'.heap.size)∨GG e j b)→G'.ow b=.lab l:=by
         intro b hb
         rcases hb with hb|hb
         ·exact e3 b hb
         ·exact(keepG b (hI.sub e hI.he j hI.hj b hb).1).2
        have hav:a.eval (.tmp s)=v:=hv0
        refine wp_val (v:=v') (w':=w') (by simp[execOp,ho,resolve,invoke,builtin,hav,hr]) ?_
        rw[hdst]
        refine⟨_,⟨G',RG.put (x:=.app l e j TT.t TT.xs t' (xs++ys)) hG' hd ⟨⟨v,g,o0,cap,row,ety,GG,_,hI'.carry (by rw[e1]) keepG,hTO,fun b hb=>⟨⟨hown b hb,?_⟩,fun i' hi' j' hj' hb'=>?_⟩⟩,hTO.read.frame fun b hb _=>⟨rfl,hown b hb⟩⟩⟩,hh⟩
        ·rintro rfl
         rcases hb with hb|hb
         ·have:=ltl b hI.own;omega
         ·exact gne hb
        ·rcases hb with hb|hb
         ·have:=ltl b (hI.sub i' hi' j' hj' b hb').1;omega
         ·exact hI.dis i' hi' j' hj' e hI.he j hI.hj b hb' hb
       ·exact hh.elim
      ·exact hh.elim
     ·exact hh.elim
    ·exact hh.elim
   ·exact hh.elim
  ·exact hh.elim
 ·exact hh.elim
def opStoreApp (P:Program) (T:TypeId) (p:Operand) (l e j:Nat) (tt:Ty) (ts:List (El tt)) (t:Ty) (zs:List (El t)) (σ:St) (K:St→Out):Out :=
 match P.info? T,σ.eval p with
 | some i,.eptr l2 k e2 off=>bif decide (i.size=1)&&decide (l2=l)&&decide (tt.width=k)&&decide (off=j)&&(look σ.hp l).isSome&&(dec tt (splice (enc tt (ts.getD e default)) j [.l t zs])).isSome then
  .ob (e2=e) (.lt (List (El tt)) (ts.modify e (upd tt j [.l t zs])) fun ys=>K ((({ σ with hp:=(l,⟨tt,ys⟩)::σ.hp.filter fun p=>!([]:List Nat).contains p.1 }:St).kill []).loose [l])) else .bad
 | _,_=>.bad
theorem opStoreApp_ok {T:TypeId} {p:Operand} {s l e j:Nat} {tt:Ty} {ts:List (El tt)} {t:Ty} {zs:List (El t)} (h:RG F G σ a w) (ho:o.op=.store T p (.tmp s)) (hdst:o.dst=none) (hs:σ.get s=.app l e j tt ts t zs) (hh:(opStoreApp P T p l e j tt ts t zs σ K).holds Q):o.wp P a w (Cont F K Q) Qx:=by
 unfold opStoreApp at hh
 have hx:=raw_ok h s
 rw[hs] at hx
 have hp:=eval_ok h p
 split at hh
 ·rename_i i l2 k e2 off hi hpe
  rw[hpe] at hp
  cases hc:(decide (i.size=1)&&decide (l2=l)&&decide (tt.width=k)&&decide (off=j)&&(look σ.hp l).isSome&&(dec tt (splice (enc tt (ts.getD e default)) j [.l t zs])).isSome) with
  | false=>rw[hc,cond_false] at hh;exact hh.elim
  | true=>
   rw[hc,cond_true] at hh
   simp only[Bool.and_eq_true,decide_eq_true_eq] at hc
   obtain⟨⟨⟨⟨⟨hsz,rfl⟩,rfl⟩,rfl⟩,hl⟩,hd⟩:=hc
   obtain⟨rfl,hh⟩:=hh
   obtain⟨T0,hT0⟩:=Option.isSome_iff_exists.1 hl
   generalize hv:a.tmps.getD s undef=v at hx
   have hav:a.eval (.tmp s)=v:=hv
   obtain⟨⟨v0,g,o0,cap,row,ety,GG,H,hI,hTO,hH⟩,htr⟩:=hx
   obtain⟨g',o',n',cap',hv',hpv⟩:=hp
   rw[hI.hv] at hv'
   injection hv' with q1 q2 q3
   injection q1 with q1
   injection q1 with q1 q4
   subst q1 q4
   have h1c:v.oneCell'=true:=TR.one htr
   have hcl:v.cells = #[v]:=by cases v<;>simp_all [Value.oneCell',Value.cells]
   have hlen:e2<ts.length:=hI.he
   have hjw:off<tt.width:=hI.hj
   have hpos:o0+e2*tt.width+off<row.size:=by
    have a1:=hI.hc
    have a2:=hI.hn
    have a3:ts.length*tt.width≤cap*tt.width:=Nat.mul_le_mul_right _ a2
    have a4:=mul_lt hlen hjw
    change o0+cap*tt.width≤row.size at a1
    omega
   generalize hpo:o0+e2*tt.width+off=po at hpos hpv
   have hrun:=run_store_at (a:=a) ho hi hav hpv hI.hg (by rw[hcl,hsz];rfl) (by rw[hcl];simp;omega) (by rw[hcl];simpa using h1c)
   rw[hcl] at hrun
   generalize hw':w.setRow g (row.toList.take po ++ #[v].toList++row.toList.drop (po + #[v].toList.length)).toArray=w' at hrun
   have old:∀ b,b≠g→w'.heap[b]? = w.heap[b]?:=fun b hb=>by rw[←hw'];exact setRow_other w g b _ hb
   have new:w'.heap[g]? = some (.cells (row.toList.take po ++ #[v].toList++row.toList.drop (po + #[v].toList.length)).toArray ety (0,0)):=by rw[←hw'];exact setRow_heap w g row _ ety _ hI.hg
   have get:∀ x,(row.toList.take po ++ #[v].toList++row.toList.drop (po + #[v].toList.length)).toArray[x]? = if x=po then some v else row[x]?:=by
    intro x
    simp only[List.getElem?_toArray,List.append_assoc]
    by_cases h1:x<po
    ·rw[List.getElem?_append_left (by simp;omega),List.getElem?_take,if_pos h1,if_neg (by omega)]
     simp
    ·rw[List.getElem?_append_right (by simp;omega)]
     have e1:(List.take po row.toList).length=po:=by simp;omega
     rw[e1]
     by_cases h2:x=po
     ·subst h2;simp
     ·rw[if_neg h2,List.getElem?_append_right (by simp;omega),List.getElem?_drop]
      have e2:po + #[v].toList.length+(x-po - #[v].toList.length)=x:=by simp;omega
      rw[e2]
      simp
   have hw3:(enc tt (ts.getD e2 default)).length=tt.width:=enc_len _ _
   have hup:=(FcsLe.get (upd_ok hd)).2
   obtain⟨G',hG',_⟩:=h.setTree (w':=w') l2 [] T0 ⟨tt,ts.modify e2 (upd tt off [.l t zs])⟩ hT0 (by simp) (by simp) ⟨by rw[←hw'];rfl,by rw[←hw'];rfl,⟨by rw[←hw'];rfl,by rw[←hw'];exact DrLe.refl _⟩,by rw[←hw'];simp⟩
    (fun b hb hbl=>old b (fun e=>hbl (e▸hI.own))) (by
     refine .inr ⟨g,o0,cap,_,ety,fun i' j' b=>if i'=e2∧j'=off then H b else GG i' j' b,?_,?_,?_,new,.inl hI.own,?_,?_,?_⟩
     ·rw[hI.hv];simp[Tree.n]
     ·have:=hI.hn;simpa [Tree.n] using this
     ·have:=hI.hc
      change o0+cap*tt.width≤_
      change o0+cap*tt.width≤row.size at this
      simp only[List.size_toArray,List.length_append,List.length_take,List.length_drop,Array.length_toList,List.size_toArray,List.length_cons,List.length_nil]
      omega
     ·intro i' hi' j' hj'
      have hi2:i'<ts.length:=by simpa [Tree.n] using hi'
      have hj2:j'<tt.width:=hj'
      change ∃ u,_[o0+i'*tt.width+j']? = some u∧TO w' (fcC (cell tt (ts.modify e2 (upd tt off [.l t zs])) i' j')) u _
      rw[get,cell_modify hlen]
      by_cases hij:i'=e2∧j'=off
      ·obtain⟨rfl,rfl⟩:=hij
       refine⟨v,by rw[if_pos hpo],?_⟩
       rw[if_pos rfl]
       have hle:=hup j'
       rw[getD_splice (by rw[hw3];simp;exact hj2),if_pos ⟨Nat.le_refl _,by simp⟩,Nat.sub_self,List.getD_cons_zero] at hle
       refine TO.le hle.le (hTO.frame fun b hb _=>⟨old b (hH b hb).1.2,?_⟩)
       simpa using hb
      ·have hne:¬ o0+i'*tt.width+j'=po:=by
        rw[←hpo]
        intro e
        obtain⟨e1,e3⟩:=mul_at hjw hj2 (show i'*tt.width+j'=e2*tt.width+off by omega)
        exact hij ⟨e1,e3⟩
       obtain⟨u,hu,ht⟩:=hI.cells i' hi2 j' hj2
       refine⟨u,by rw[if_neg hne];exact hu,?_⟩
       have hto2:TO w' (fcC (cell tt ts i' j')) u (fun b=>if i'=e2∧j'=off then H b else GG i' j' b):=by
        simp only[if_neg hij]
        exact ht.frame fun b hb _=>⟨old b (hI.sub i' hi2 j' hj2 b hb).2,hb⟩
       by_cases hie:i'=e2
       ·subst hie
        rw[if_pos rfl]
        have hne2:j'≠off:=fun e0=>hij ⟨rfl,e0⟩
        have hle:=hup j'
        rw[getD_splice (by rw[hw3];simp;exact hjw),if_neg (by simp;omega)] at hle
        exact TO.le hle.le hto2
       ·rw[if_neg hie]
        exact hto2
     ·intro i' hi' j' hj' b hb
      have hi2:i'<ts.length:=by simpa [Tree.n] using hi'
      by_cases hij:i'=e2∧j'=off
      ·simp only[if_pos hij] at hb
       exact⟨.inl (hH b hb).1.1,(hH b hb).1.2⟩
      ·simp only[if_neg hij] at hb
       obtain⟨q1,q2⟩:=hI.sub i' hi2 j' hj' b hb
       exact⟨.inl q1,q2⟩
     ·intro i1 hi1 j1 hj1 i3 hi3 j3 hj3 b hb1 hb3
      have hi1':i1<ts.length:=by simpa [Tree.n] using hi1
      have hi3':i3<ts.length:=by simpa [Tree.n] using hi3
      by_cases hij1:i1=e2∧j1=off
      ·simp only[if_pos hij1] at hb1
       by_cases hij3:i3=e2∧j3=off
       ·exact⟨hij1.1.trans hij3.1.symm,hij1.2.trans hij3.2.symm⟩
       ·simp only[if_neg hij3] at hb3
        exact absurd ((hH b hb1).2 i3 hi3' j3 hj3 hb3) hij3
      ·simp only[if_neg hij1] at hb1
       by_cases hij3:i3=e2∧j3=off
       ·simp only[if_pos hij3] at hb3
        exact absurd ((hH b hb3).2 i1 hi1' j1 hj1 hb1) hij1
       ·simp only[if_neg hij3] at hb3
        exact hI.dis i1 hi1' j1 hj1 i3 hi3' j3 hj3 b hb1 hb3)
   refine wp_skp hrun ?_
   have hput:∀ u,a.put o.dst u=a:=by intro u;rw[hdst];rfl
   rw[hput]
   exact⟨_,⟨G',hG'⟩,hh⟩
 ·exact hh.elim
def opIdxX (P:Program) (o:Oper) (T:TypeId) (x i:Operand) (σ:St) (K:St→Out):Out:=match x with
 | .tmp s=>(match σ.get s with
  | .inn l k e j t xs=>opIdxIn P o T l k e j t xs i σ K
  | _=>opIndexAddr P o T (.tmp s) i σ K)
 | x=>opIndexAddr P o T x i σ K
theorem opIdxX_ok {T:TypeId} {x i:Operand} (h:RG F G σ a w) (ho:o.op=.indexAddr T x i) (hh:(opIdxX P o T x i σ K).holds Q):o.wp P a w (ContE F G a w o.dst K Q) Qx:=by
 unfold opIdxX at hh
 split at hh
 ·split at hh
  ·rename_i hs
   exact opIdxIn_ok h ho hs hh
  ·exact opIndexAddr_ok h ho hh
 ·exact opIndexAddr_ok h ho hh
def opFldX (P:Program) (o:Oper) (T:TypeId) (x:Operand) (f:Nat) (σ:St) (K:St→Out):Out:=match x with
 | .tmp s=>(match σ.get s with
  | .nptr l k e j t xs i2 o2=>opFldIn P o T l k e j t xs i2 o2 f σ K
  | _=>opFieldAddr P o T (.tmp s) f σ K)
 | x=>opFieldAddr P o T x f σ K
theorem opFldX_ok {T:TypeId} {x:Operand} {f:Nat} (h:RG F G σ a w) (ho:o.op=.fieldAddr T x f) (hh:(opFldX P o T x f σ K).holds Q):o.wp P a w (ContE F G a w o.dst K Q) Qx:=by
 unfold opFldX at hh
 split at hh
 ·split at hh
  ·rename_i hs
   exact opFldIn_ok h ho hs hh
  ·exact opFieldAddr_ok h ho hh
 ·exact opFieldAddr_ok h ho hh
def opNilX (o:Oper) (x:Operand) (σ:St) (K:St→Out):Out:=match x with
 | .tmp s=>(match σ.get s with
  | .nptr _ _ _ _ _ _ _ _=>opNilIn o s σ K
  | _=>opNil o (.tmp s) σ K)
 | x=>opNil o x σ K
theorem opNilX_ok {x:Operand} (h:RG F G σ a w) (ho:o.op=.nilCheck x) (hh:(opNilX o x σ K).holds Q):o.wp P a w (ContE F G a w o.dst K Q) Qx:=by
 unfold opNilX at hh
 split at hh
 ·split at hh
  ·rename_i hs
   exact opNilIn_ok h ho hs hh
  ·exact opNil_ok h ho hh
 ·exact opNil_ok h ho hh
def opStoreY (P:Program) (o:Oper) (T:TypeId) (p x:Operand) (σ:St) (K:St→Out):Out:=match p with
 | .tmp d=>(match σ.get d with
  | .nptr l k e j t _ i2 o2=>opStoreIn P o T d l k e j t i2 o2 x σ K
  | _=>opStore P o T (.tmp d) x σ K)
 | p=>opStore P o T p x σ K
theorem opStoreY_ok {T:TypeId} {p x:Operand} (h:RG F G σ a w) (ho:o.op=.store T p x) (hd:o.dst=none) (hh:(opStoreY P o T p x σ K).holds Q):o.wp P a w (Cont F K Q) Qx:=by
 unfold opStoreY at hh
 split at hh
 ·split at hh
  ·rename_i hs
   exact opStoreIn_ok h ho hd hs hh
  ·exact opStore_ok h ho hd hh
 ·exact opStore_ok h ho hd hh
def opStoreX (P:Program) (o:Oper) (T:TypeId) (p x:Operand) (σ:St) (K:St→Out):Out:=match x with
 | .tmp s=>(match σ.get s with
  | .app l e j tt ts t zs=>opStoreApp P T p l e j tt ts t zs σ K
  | _=>opStoreY P o T p (.tmp s) σ K)
 | x=>opStoreY P o T p x σ K
theorem opStoreX_ok {T:TypeId} {p x:Operand} (h:RG F G σ a w) (ho:o.op=.store T p x) (hd:o.dst=none) (hh:(opStoreX P o T p x σ K).holds Q):o.wp P a w (Cont F K Q) Qx:=by
 unfold opStoreX at hh
 split at hh
 ·split at hh
  ·rename_i hs
   exact opStoreApp_ok h ho hd hs hh
  ·exact opStoreY_ok h ho hd hh
 ·exact opStoreY_ok h ho hd hh
def opAppX (P:Program) (ty:TypeId→Option Ty) (o:Oper) (T:TypeId) (s x:Operand) (σ:St) (K:St→Out):Out:=match s with
 | .tmp d=>(match σ.get d with
  | .inn l k e j _ _=>opAppInn P o T l k e j x σ K
  | _=>opAppend P ty o T (.tmp d) x σ K)
 | s=>opAppend P ty o T s x σ K
theorem opAppX_ok {ty:TypeId→Option Ty} {T:TypeId} {s x:Operand} (h:RG F G σ a w) (ho:o.op=.call { callee:=.builtin .append,args := #[s,x],argTypes := #[T,T]}) (hh:(opAppX P ty o T s x σ K).holds Q):o.wp P a w (Cont F K Q) Qx:=by
 unfold opAppX at hh
 split at hh
 ·split at hh
  ·rename_i hs
   exact opAppInn_ok h ho hs hh
  ·exact opAppend_ok h ho hh
 ·exact opAppend_ok h ho hh
end
end Go.D
namespace Go.D
section
variable {P:Program} {F:Fr P} {G:Gh} {σ:St} {a:Act} {w:World} {o:Oper} {K:St→Out} {Q:Post} {Qx:Exit→Act→World→Prop}
theorem RG.retell (h:RG F G σ a w) {t:Nat} {x:TV} (hx:TVR w G x (a.tmps.getD t undef)):RG F G (σ.put t x) a w:=by
 refine⟨?_,h.bx,h.hp,h.lt,h.os,h.tape,h.output,h.size,h.keep,h.fb,h.fl,h.nt,h.df⟩
 intro t' tv hl
 simp only[St.put,look_put] at hl
 by_cases ht:t'=t
 ·simp_all
 ·simp only[ht,if_false] at hl
  exact h.tm t' tv hl
def cellCons':List Cell→Option (List FC)
 | []=>some []
 | c::cs=>match (match c with | .tt=>some (.val (.bool true)) | .ff=>some (.val (.bool false))|c=>cellCon c),cellCons' cs with
  | some d,some ds=>some (d::ds)
  | _,_=>none
theorem cellCons'_ok:∀ (cs:List Cell) (ds:List FC),cellCons' cs=some ds→ds.length=cs.length∧∀ (j:Nat) (c:Cell) (u:Value),cs[j]? = some c→CellR w G c u→TR w (src G none) (fcC (ds.getD j .nl)) u:=by
 intro cs
 induction cs with
 | nil=>intro ds h;simp only[cellCons',Option.some.injEq] at h;subst h;simp
 | cons c cs ih=>
  intro ds h
  unfold cellCons' at h
  split at h
  ·rename_i d ds' h1 h2
   simp only[Option.some.injEq] at h
   subst h
   obtain⟨h3,h4⟩:=ih ds' h2
   refine⟨by simp[h3],fun j c' u hj hu=>?_⟩
   cases j with
   | succ j=>simpa using h4 j c' u (by simpa using hj) hu
   | zero=>
    simp only[List.getElem?_cons_zero,Option.some.injEq] at hj
    subst hj
    simp only[List.getD_cons_zero]
    split at h1
    ·simp only[Option.some.injEq] at h1;subst h1;exact⟨hu,rfl⟩
    ·simp only[Option.some.injEq] at h1;subst h1;exact⟨hu,rfl⟩
    ·exact cellCon_ok hu h1
  ·cases h
def opLit (P:Program) (ty:TypeId→Option Ty) (o:Oper) (T:TypeId) (n:Nat) (parts:Array (Nat×Operand)) (σ:St) (K:St→Out):Out :=
 match P.underlying T,o.dst with
 | some (.slice e),some d=>match P.info? e,ty e with
  | some i,some t=>match i.zero with
   | some z=>if(t.width=i.size∧z.cells.size=i.size∧n*i.size≤16777216∧z.cells.toList.all (fun v=>v.oneCell')=true)∧σ.hasB d=false∧d<σ.nt then(match fillC i.size (List.replicate (n*i.size) .dead) (parts.toList.map fun p=>(p.1,σ.eval p.2)) with
    | some cs=>K (({ σ with bx:=D.put σ.bx d cs }:St).put d (.lit d n t))
    | none=>.bad) else .bad
   | none=>.bad
  | _,_=>.bad
 | _,_=>.bad
theorem opLit_ok {ty:TypeId→Option Ty} {T:TypeId} {n:Nat} {parts:Array (Nat×Operand)} (h:RG F G σ a w) (ho:o.op=.buildSlice T n parts) (hh:(opLit P ty o T n parts σ K).holds Q):o.wp P a w (ContE F G a w o.dst K Q) Qx:=by
 unfold opLit at hh
 split at hh
 ·rename_i e d hu hd
  split at hh
  ·rename_i i t hi hty
   split at hh
   ·rename_i z hz
    split at hh
    ·rename_i hc
     obtain⟨⟨hwd,hzs,hbig,hz1⟩,hbb,hlt⟩:=hc
     have hk:0<i.size:=by rw[←hwd];exact width_pos t
     split at hh
     ·rename_i cs hf
      let cur:Array Value:=(Array.range (n*i.size)).map (z.cells[· % z.cells.size]!)
      have hcur:CellsR w G (List.replicate (n*i.size) .dead) cur:=by
       refine⟨by simp[cur],fun j c hj=>?_⟩
       have hlt:j<n*i.size:=by
        grind
       have hm:j % z.cells.size<z.cells.size:=Nat.mod_lt _ (by omega)
       rw[List.getElem?_replicate,if_pos hlt] at hj
       injection hj with hj
       subst hj
       refine⟨z.cells[j % z.cells.size],by simp[cur,hlt,hm],?_⟩
       rw[List.all_eq_true] at hz1
       exact hz1 _ (by simp)
      obtain⟨r,hfill,hr⟩:=fillC_ok (k:=i.size) (parts.toList.map fun p=>(p.1,σ.eval p.2)) (parts.toList.map fun p=>(p.1,a.eval p.2)) _ cur cs hcur (by simp) (fun j p hj=>by
       rw[List.getElem?_map] at hj
       cases hq:parts.toList[j]? with
       | none=>simp[hq] at hj
       | some q=>
        simp only[hq,Option.map_some,Option.some.injEq] at hj
        subst hj
        exact⟨a.eval q.2,by simp[List.getElem?_map,hq],eval_ok h q.2⟩) hf
      have he:(execOp a.eval o).run P w=.ok (.value (.slice (some ⟨w.heap.size,0,none⟩) n n)) (w.alloc (.cells r e)):=by
       have hnb:¬ (16777216<n*i.size):=by omega
       by_cases hz0:n*i.size=0
       ·have hn0:n=0:=by
         rcases Nat.mul_eq_zero.1 hz0 with h|h
         ·exact h
         ·omega
        subst hn0
        have hc0:cur = #[]:=by simp[cur]
        rw[hc0] at hfill
        simp[execOp,ho,Instr.buildSlice,run_underlying hu,sizeOf,typeInfo,hi,newRow,hfill,Array.range_zero']
       ·simp only[cur] at hfill
        simp[execOp,ho,Instr.buildSlice,run_underlying hu,sizeOf,typeInfo,hi,hnb,hz0,zeroValue,hz,newRow,hfill]
      obtain⟨G',hG,hbe,how,hob,hhv⟩:=(h.alloc (.cells r e)).newBox d cs w.heap.size r e hbb (alloc_gone h) (heap_alloc_new w _) (Cells.alloc h _ hr)
      refine wp_val he ?_
      rw[hd]
      exact⟨_,G',hG.put hlt (by simp[TVR,hbe]),hh,⟨_,rfl⟩,⟨rfl,rfl,⟨rfl,by first|exact DrLe.refl _|exact DrLe.succ _|exact DrLe.add _ _⟩,by simp⟩,fun g hg=>.inl (heap_alloc_old w _ g hg),how,fun b hb=>hob b (fun e=>hb (e▸rfl)),fun l _=>by rw[hhv]⟩
     ·exact hh.elim
    ·exact hh.elim
   ·exact hh.elim
  ·exact hh.elim
 ·exact hh.elim
theorem RG.freeze (h:RG F G σ a w) {g0:Nat} (h0:G.ow g0=.gone) (hlt:g0<w.heap.size):∃ G',RG F G' σ a w∧G'.ow g0=.free∧(∀ g,G.ow g≠.gone→G'.ow g=G.ow g)∧G'.hv=G.hv∧G'.be=G.be:=by
 let G':Gh:={ ow:=fun g=>if g=g0 then .free else G.ow g,be:=G.be,hv:=G.hv }
 have hne:∀ g,G.ow g≠.gone→G'.ow g=G.ow g:=by
  grind
 have fo:FreeOk w w G G':=⟨fun g hg=>⟨rfl,by rw[hne g (by simp[hg]),hg]⟩,fun g hg=>by rw[hne g (by simp[hg]),hg]⟩
 have mo:∀ m,MemOk w w G G' m:=fun m g hg=>⟨rfl,by rw[hne g (by simp[hg]),hg]⟩
 refine⟨G',?_,by simp[G'],hne,rfl,rfl⟩
 constructor
 case tm=>exact fun t tv hl=>TV.carry fo (fun _ _=>rfl) (fun m _=>mo m) (fun _ _=>rfl) (h.tm t tv hl)
 case bx=>
  intro b cs hl
  obtain⟨h1,r,e,h2,h3⟩:=h.bx b cs hl
  exact⟨(hne (G.be b) (by rw[h1];simp)).trans h1,r,e,h2,Cells.carry fo (fun _ _=>rfl) (fun m _=>mo m) h3⟩
 case hp=>exact fun l T hl=>(h.hp l T hl).frame fun g hg _=>mo l g hg
 case lt=>
  intro g hg
  by_cases e:g=g0
  ·subst e;exact hlt
  ·exact h.lt g fun e2=>hg (by simp[G',e,e2])
 case os=>exact h.os
 case tape=>exact h.tape
 case output=>exact h.output
 case size=>exact h.size
 case keep=>
  refine h.keep.next fo (fun _ _=>rfl) fun g hg=>?_
  grind
 case fb=>exact h.fb
 case fl=>exact h.fl
 case nt=>exact h.nt
 case df=>exact h.df
def bytesInts (s:ByteArray):List Int:=s.data.toList.map fun b=>(b.toNat:Int)
def isSB (P:Program) (S T:TypeId):Bool:=match P.underlying S,P.underlying T with
 | some .string,some (.slice e)=>(match P.underlying e with
  | some (.int .u8)=>true
  | _=>false)
 | _,_=>false
def opSB (o:Oper) (x:Operand) (σ:St) (K:St→Out):Out :=
 match (σ.eval x).scal,o.dst with
 | some (.string s),some d=>bif decide (d<σ.nt) then K (σ.put d (.v false [.im none .u8 (bytesInts s)])) else .bad
 | _,_=>.bad
theorem opSB_ok {S T:TypeId} {x:Operand} (h:RG F G σ a w) (ho:o.op=.convert S T x) (hs:isSB P S T=true) (hh:(opSB o x σ K).holds Q):o.wp P a w (ContE F G a w o.dst K Q) Qx:=by
 unfold isSB at hs
 split at hs
 ·rename_i e hS hT
  split at hs
  ·rename_i he
   unfold opSB at hh
   split at hh
   ·rename_i s d hx hd
    cases hc:decide (d<σ.nt) with
    | false=>rw[hc,cond_false] at hh;exact hh.elim
    | true=>
     rw[hc,cond_true] at hh
     have hlt:=of_decide_eq_true hc
     have hxe:=(scal_ok (eval_ok h x) hx).1
     have hrun:=Lib.run_convert_string_bytes w S T e s hS hT he
     have hon:Onward w (Lib.bytesWorld w e s):=⟨rfl,rfl,⟨rfl,by first|exact DrLe.refl _|exact DrLe.succ _|exact DrLe.add _ _⟩,by rw[Lib.bytesWorld_size];exact Nat.le_succ _⟩
     have hold:∀ g,g<w.heap.size→(Lib.bytesWorld w e s).heap[g]? = w.heap[g]?:=fun g hg=>Lib.bytesWorld_at_old w e s g hg
     have h1:=h.world hon fun g hg=>hold g (h.lt g hg)
     have hg0:G.ow w.heap.size=.gone:=by
      cases hq:G.ow w.heap.size with
      | gone=>rfl
      | _=>exact absurd (h.lt w.heap.size (by simp[hq])) (Nat.lt_irrefl _)
     obtain⟨G2,h2,f2,k2,v2,b2⟩:=h1.freeze hg0 (by rw[Lib.bytesWorld_size];exact Nat.lt_succ_self _)
     have hT2:TVR (Lib.bytesWorld w e s) G2 (.v false [.im none .u8 (bytesInts s)]) (.slice (some ⟨w.heap.size,0,none⟩) s.size (grownCap w s.size 0 e)):=by
      refine⟨_,rfl,?_⟩
      show TR _ (src G2 none) (fcC (.l .u8 (bytesInts s))) _
      have hl:(bytesInts s).length=s.size:=by simp[bytesInts]
      rw[fcC_l,hl]
      refine⟨_,_,rfl,grownCap_ge w s.size 0 e,.inr ⟨w.heap.size,0,_,e,_,rfl,f2,Lib.bytesWorld_at_new w e s,fun i hi j hj=>?_⟩⟩
      have hj0:j=0:=by simp only[Ty.width] at hj;omega
      subst hj0
      have hi2:i<s.data.size:=hi
      refine⟨.int .u8 s.data[i].toNat,?_,?_⟩
      ·have hrow:(Lib.bytesCells w e s)[i]? = some (.int .u8 s.data[i].toNat):=by
        unfold Lib.bytesCells
        grind
       rw[show 0+i*Ty.u8.width+0=i by simp[Ty.width]]
       exact hrow
      ·have e1:cell .u8 (bytesInts s) i 0=.val (.int .u8 s.data[i].toNat):=by
        unfold cell
        have:(bytesInts s).getD i default=(s.data[i].toNat:Int):=by
         rw[bytesInts,List.getD_eq_getElem?_getD,List.getElem?_map,Array.getElem?_toList,Array.getElem?_eq_getElem hi2]
         rfl
        rw[this];rfl
       show TR _ _ (fcC (cell .u8 (bytesInts s) i 0)) _
       rw[e1]
       exact⟨rfl,rfl⟩
     have hev:(execOp a.eval o).run P w=.ok (.value (.slice (some ⟨w.heap.size,0,none⟩) s.size (grownCap w s.size 0 e))) (Lib.bytesWorld w e s):=by simp[execOp,ho,hxe,hrun]
     refine wp_val hev ?_
     rw[hd]
     exact⟨_,G2,h2.put hlt hT2,hh,⟨_,rfl⟩,hon,fun g hg=>.inl (hold g hg),k2,fun b _=>by rw[b2],fun l _=>by rw[v2]⟩
   ·exact hh.elim
  ·cases hs
 ·cases hs
def dropB (σ:St) (b:Nat):St:=({ σ with hp:=σ.hp.filter (fun x=>!(([]:List Nat).contains x.1||([]:List Nat).contains x.1)),bx:=σ.bx.filter fun x=>!([b]:List Nat).contains x.1 }:St).zap ([]:List Nat).contains (fun m=>([]:List Nat).contains m||([]:List Nat).contains m)
def litOne (σ:St) (s:Nat):St :=
 match σ.get s with
 | .lit b n t=>match look σ.bx b with
  | some cs=>match litC (dropB σ b) cs with
   | some (ds,ab)=>match decRows t n ds with
    | some xs=>if cs.length=n*t.width∧σ.fl.contains (64*b)=false∧ab.all (fun m=>!σ.fl.contains m)=true then(retreeSt (dropB σ b) (64*b) ab ⟨t,xs⟩).put s (.v false [.ref (64*b)]) else σ
    | none=>σ
   | none=>match cellCons' cs with
    | some ds=>match decRows t n ds with
     | some xs=>if cs.length=n*t.width then(dropB σ b).put s (.v false [.im none t xs]) else σ
     | none=>σ
    | none=>σ
  | none=>σ
 | _=>σ
theorem litOne_ok (h:RG F G σ a w) (s:Nat):∃ G',RG F G' (litOne σ s) a w:=by
 unfold litOne
 split
 ·rename_i b n t hs
  have hx:=raw_ok h s
  rw[hs] at hx
  have hx:a.tmps.getD s undef=.slice (some ⟨G.be b,0,none⟩) n n:=hx
  split
  ·rename_i cs hb
   obtain⟨hbo,r,e,hg,hcs⟩:=h.bx b cs hb
   obtain⟨G1,hR1,hbe,hhv,hgone,_,hbox,hsm,_,_,hfree,hlab,_,hcu⟩:=h.drop [] [] [b]
   have hcs1:CellsR w G1 cs r:=Cells.carry ⟨fun g hg=>⟨rfl,hfree g hg⟩,hcu⟩ (fun m _=>by rw[hhv]) (fun m _ g hg=>⟨rfl,hlab g m hg (by simp) (by simp)⟩) hcs
   have hg0:G1.ow (G.be b)=.gone:=hbox _ b hbo (by simp)
   have hlt0:G.be b<w.heap.size:=(Array.getElem?_eq_some_iff.1 hg).1
   have at_:∀ i',i'<n→∀ j,j<t.width→cs.length=n*t.width→∃ c u,cs[i'*t.width+j]? = some c∧r[i'*t.width+j]? = some u∧CellR w G1 c u:=by
    intro i' hi' j hj hlen
    have hlt:i'*t.width+j<n*t.width:=by
     have:(i'+1)*t.width≤n*t.width:=Nat.mul_le_mul_right _ hi'
     rw[Nat.add_mul] at this
     omega
    obtain⟨u,hu',hr'⟩:=hcs1.2 _ _ (List.getElem?_eq_getElem (show i'*t.width+j<cs.length by omega))
    exact⟨_,u,List.getElem?_eq_getElem (by omega),hu',hr'⟩
   split
   ·rename_i ds ab hlit
    split
    ·rename_i xs hxs
     split
     ·rename_i hc
      obtain⟨hlen,hfl,hab⟩:=hc
      obtain⟨l1,l2,l3,l4⟩:=litC_ok hR1 cs ds ab hlit
      obtain⟨d1,d2⟩:=decRows_ok n ds xs hxs
      have hTn:(⟨t,xs⟩:Tree).n=n:=d1
      have hT:TO w (.sl (⟨t,xs⟩:Tree).k (⟨t,xs⟩:Tree).n (⟨t,xs⟩:Tree).f) (.slice (some ⟨G.be b,0,none⟩) n n) (fun g=>g=G.be b∨inAb G1 ab g):=by
       rw[hTn]
       refine .inr ⟨G.be b,0,n,r,e,fun i' j g=>∃ c m,cs[i'*t.width+j]? = some c∧cellLab c m∧G1.ow g=.lab m,rfl,Nat.le_refl _,?_,hg,.inl rfl,fun i' hi' j hj=>?_,fun i' hi' j hj g hg'=>?_,fun i' hi' j hj i2 hi2 j2 hj2 g hg' hg2=>?_⟩
       ·rw[hcs.1,hlen];simp[Tree.k]
       ·obtain⟨c,u,hcj,huj,hcu⟩:=at_ i' hi' j hj hlen
        refine⟨u,by rw[Nat.zero_add];exact huj,?_⟩
        have hd2:=d2 i' hi' j hj
        exact TO.le hd2.le ((l2 _ c u hcj hcu).frame fun g hg' _=>by
         obtain⟨m,hm,hg'⟩:=hg'
         exact⟨rfl,c,m,hcj,hm,hg'⟩)
       ·obtain⟨c,m,hcj,hm,hgm⟩:=hg'
        exact⟨.inr ⟨m,l3 _ c m hcj hm,hgm⟩,fun e=>by rw[e,hg0] at hgm;cases hgm⟩
       ·obtain⟨c,m,hcj,hm,hgm⟩:=hg'
        obtain⟨c2,m2,hcj2,hm2,hgm2⟩:=hg2
        rw[hgm] at hgm2
        injection hgm2 with e2
        subst e2
        exact mul_at hj2 hj (l4 _ _ c c2 m hcj hcj2 hm hm2)
      obtain⟨G2,hR2,hv2,_⟩:=hR1.retree (64*b) ab ⟨t,xs⟩ _ _ ⟨rfl,rfl,⟨rfl,by first|exact DrLe.refl _|exact DrLe.succ _|exact DrLe.add _ _⟩,Nat.le_refl _⟩ (fun _ _ _=>rfl) (fun g hg'=>by
       rcases hg' with rfl|⟨m,hm,hgm⟩
       ·exact⟨hlt0,.inl hg0⟩
       ·exact⟨hR1.lt g (by simp[hgm]),.inr (.inr ⟨m,hm,hgm⟩)⟩) hT (show 64*b∉σ.fl by simpa using hfl) (show ∀ m,m∈ab→m∉σ.fl by simpa using hab)
      refine⟨G2,RG.retell (σ:=retreeSt (dropB σ b) (64*b) ab ⟨t,xs⟩) hR2 ⟨_,rfl,?_,?_⟩⟩
      ·rw[hx,hv2]
      ·rw[hx];rfl
     ·exact⟨G,h⟩
    ·exact⟨G,h⟩
   ·split
    ·rename_i ds hl
     split
     ·rename_i xs hxs
      split
      ·rename_i hlen
       obtain⟨G2,hR2,hf2,hk2,hh2,_⟩:=hR1.freeze hg0 hlt0
       obtain⟨l1,l2⟩:=cellCons'_ok (w:=w) (G:=G2) cs ds hl
       obtain⟨d1,d2⟩:=decRows_ok n ds xs hxs
       refine⟨G2,RG.retell (σ:=dropB σ b) hR2 ⟨_,rfl,?_⟩⟩
       show TR w (src G2 none) (fcC (.l t xs)) _
       rw[hx,fcC_l,←d1]
       refine⟨_,_,rfl,Nat.le_refl _,.inr ⟨G.be b,0,r,e,(0,0),rfl,hf2,hg,fun i' hi' j hj=>?_⟩⟩
       obtain⟨c,u,hcj,huj,hcu⟩:=at_ i' (by omega) j hj hlen
       refine⟨u,by rw[Nat.zero_add];exact huj,?_⟩
       have hcu2:CellR w G2 c u:=by
        refine Cell.carry ⟨fun g hg=>⟨rfl,(hk2 g (by rw[hg];simp)).trans hg⟩,fun g hg=>(hk2 g (by rw[hg];simp)).trans hg⟩ (fun m _=>by rw[hh2]) (fun m _ g hg=>⟨rfl,(hk2 g (by rw[hg];simp)).trans hg⟩) hcu
       exact TR.le (d2 i' (by omega) j hj).le (l2 _ c u hcj hcu2)
      ·exact⟨G,h⟩
     ·exact⟨G,h⟩
    ·exact⟨G,h⟩
  ·exact⟨G,h⟩
 ·exact⟨G,h⟩
def litsGo:List Nat→St→St
 | [],σ=>σ
 | s::ss,σ=>litsGo ss (litOne σ s)
theorem litsGo_ok:∀ (ss:List Nat) {σ:St} {G:Gh},RG F G σ a w→∃ G',RG F G' (litsGo ss σ) a w:=by
 intro ss
 induction ss with
 | nil=>intro σ G h;exact⟨G,h⟩
 | cons s ss ih=>
  intro σ G h
  obtain⟨G1,h1⟩:=litOne_ok h s
  exact ih h1
def isLit:TV→Bool
 | .lit _ _ _=>true
 | _=>false
def St.lits (σ:St):St:=litsGo ((σ.tm.filter fun p=>isLit p.2).map (·.1)) σ
theorem lits_ok (h:RG F G σ a w):∃ G',RG F G' σ.lits a w:=litsGo_ok _ h
def litFits (P:Program) (cls:Bool) (T:TypeId) (n:Nat) (parts:Array (Nat×Operand)) (σ:St):Bool :=
 match P.underlying T with
 | some (.slice e)=>match P.info? e with
  | some i=>match fillC i.size (List.replicate (n*i.size) .dead) (parts.toList.map fun p=>(p.1,σ.eval p.2)) with
   | some cs=>match litC σ cs with
    | some (_,ab)=>!(cls && !ab.isEmpty)
    | none=>false
   | none=>true
  | none=>true
 | _=>true
end
end Go.D
namespace Go.D
section
variable {P:Program} {E:Env} {F:Fr P} {G:Gh} {σ:St} {a:Act} {w w':World} {o:Oper} {K:St→Out} {Q:Post} {Qx:Exit→Act→World→Prop}
open Classical in
theorem RG.addCur (h:RG F G σ a w) {g:Nat} (h0:G.ow g=.gone) (hg:CurOk w G g) (hs:g<w.heap.size):∃ G',RG F G' σ a w∧G'.ow g=.cur:=by
 let G':Gh:={ ow:=fun b=>if b=g then .cur else G.ow b,be:=G.be,hv:=G.hv }
 have same:∀ b,G.ow b≠.gone→G'.ow b=G.ow b:=fun b hb=>if_neg fun e=>hb (by rw[e];exact h0)
 have fo:FreeOk w w G G':=⟨fun b hb=>⟨rfl,(same b (by simp[hb])).trans hb⟩,fun b hb=>(same b (by simp[hb])).trans hb⟩
 have mo:∀ m,MemOk w w G G' m:=fun m b hb=>⟨rfl,(same b (by simp[hb])).trans hb⟩
 refine⟨G',?_,if_pos rfl⟩
 constructor
 case tm=>exact fun t tv hl=>TV.carry fo (fun _ _=>rfl) (fun m _=>mo m) (fun _ _=>rfl) (h.tm t tv hl)
 case bx=>
  intro b' cs' hl
  obtain⟨h1,r',e',h2,h3⟩:=h.bx b' cs' hl
  exact⟨(same (G.be b') (by rw[h1];intro e;cases e)).trans h1,r',e',h2,Cells.carry fo (fun _ _=>rfl) (fun m _=>mo m) h3⟩
 case hp=>exact fun l T hl=>(h.hp l T hl).frame fun g hg _=>mo l g hg
 case lt=>
  intro b hb
  by_cases e:b=g
  ·subst e;exact hs
  ·exact h.lt b (by simpa [G',e] using hb)
 case os=>exact h.os
 case tape=>exact h.tape
 case output=>exact h.output
 case size=>exact h.size
 case keep=>
  refine⟨fun b h1 h2=>?_,fun b h1 h2=>?_,fun b hb=>?_⟩
  ·obtain⟨k1,k2⟩:=h.keep.free b h1 h2
   exact⟨k1,(same b (by simp[k2])).trans k2⟩
  ·obtain⟨k1,k2⟩:=h.keep.cur b h1 h2
   exact⟨(same b (by simp[k1])).trans k1,k2⟩
  ·by_cases e:b=g
   ·subst e;exact hg.carry fo rfl
   ·exact(h.keep.at_ b (by simpa [G',e] using hb)).carry fo rfl
 case fb=>exact h.fb
 case fl=>exact h.fl
 case nt=>exact h.nt
 case df=>exact h.df
def opNew (P:Program) (o:Oper) (f t:Nat) (σ:St) (K:St→Out):Out :=
 match σ.eval (.tmp t),o.dst,P.funcs[f]? with
 | .v false [.im none .u8 xs],some d,some fn=>bif fn.body.isSome && !(fn.name == "runtime.NumGoroutine")&&decide (d<σ.nt) then
  .ob (∀ j,j<xs.length→0≤(show Int from xs.getD j default)∧(show Int from xs.getD j default)≤255) (.ob (xs.length≤1000000000000000000) (K (σ.put d .cur))) else .bad
 | _,_,_=>.bad
theorem opNew_ok {f t:Nat} (h:RG F G σ a w) (hf:NewOk P f) (he:(execOp a.eval o).run P w=(callFunc f #[a.eval (.tmp t)]).run P w) (hh:(opNew P o f t σ K).holds Q):o.wp P a w (Cont F K Q) Qx:=by
 unfold opNew at hh
 split at hh
 ·rename_i xs d fn hx hd hfn
  cases hc:(fn.body.isSome && !(fn.name == "runtime.NumGoroutine")&&decide (d<σ.nt)) with
  | false=>rw[hc,cond_false] at hh;exact hh.elim
  | true=>
   rw[hc,cond_true] at hh
   simp only[Bool.and_eq_true,Bool.not_eq_true',decide_eq_true_eq] at hc
   obtain⟨⟨hbody,hname⟩,hlt⟩:=hc
   obtain⟨h1,h2,hh⟩:=hh
   have hv:=eval_ok h (.tmp t)
   rw[hx] at hv
   obtain⟨c,hc,hv⟩:=hv
   injection hc with hc
   subst hc
   have hrun:(execOp a.eval o).run P w=.ok (.enter f #[a.eval (.tmp t)]) w:=by
    rw[he]
    obtain⟨cb,hb2⟩:=Option.isSome_iff_exists.1 hbody
    have hn2:¬ fn.name = "runtime.NumGoroutine":=by simpa using hname
    simp[callFunc,hfn,hb2,hn2]
   unfold Oper.wp
   rw[hrun,Oper.upon_enter]
   refine(hf w _ (src G none) xs hv h1 h2).mono ?_
   rintro e w' ⟨g,n,ty,rfl,ho,hs,hg,hcell,hn1,hn2⟩
   have hgone:G.ow g=.gone:=by
    cases hq:G.ow g with
    | gone=>rfl
    | _=>have:=h.lt g (by rw[hq];intro e;cases e);omega
   have h3:RG F G σ a w':=h.world ho fun b hb=>hs b (h.lt b hb)
   have hfr:∀ b,src G none b→w'.heap[b]? = w.heap[b]?∧src G none b:=fun b hb=>⟨hs b (h.lt b (by rw[show G.ow b=.free from hb];intro e;cases e)),hb⟩
   obtain⟨G',h4,h5⟩:=h3.addCur hgone ⟨xs,_,0,n,ty,hcell,TR.frame (fun b hb _=>hfr b hb) hv,h2,by omega,by omega,hn1,hn2⟩ (some_lt hcell)
   rw[hd]
   exact⟨_,⟨G',h4.put (x:=.cur) hlt ⟨g,rfl,h5⟩⟩,hh⟩
 ·exact hh.elim
end
end Go.D
namespace Go.D
def subAt:List Cell→Nat→Option (Nat×Nat×Nat×Nat×Nat)
 | [],_=>none
 | .sub l k lo n::_,j=>some (j,l,k,lo,n)
 | _::cs,j=>subAt cs (j+1)
theorem subAt_get:∀ {cs:List Cell} {s j l k lo n:Nat},subAt cs s=some (j,l,k,lo,n)→s≤j∧cs[j-s]? = some (.sub l k lo n):=by
 intro cs
 induction cs with
 | nil=>intro s j l k lo n h;simp[subAt] at h
 | cons c cs ih=>
  intro s j l k lo n h
  cases c with
  | sub l' k' lo' n'=>
   simp only[subAt,Option.some.injEq,Prod.mk.injEq] at h
   obtain⟨rfl,rfl,rfl,rfl,rfl⟩:=h
   exact⟨Nat.le_refl _,by simp⟩
  | _=>
   obtain⟨h1,h2⟩:=ih (s:=s+1) h
   refine⟨by omega,?_⟩
   rw[show j-s=(j-(s+1))+1 by omega]
   simpa using h2
def reCell (σ:St) (t j l:Nat):St:=match look σ.tm t with
 | some (.v agg cs)=>σ.put t (.v agg (cs.set j (.ref l)))
 | _=>σ
section
variable {P:Program} {F:Fr P} {G G':Gh} {σ σ':St} {a:Act} {w w':World} {K:St→Out} {Q:Post}
theorem cells_set {cs:List Cell} {vs:Array Value} {j:Nat} {c:Cell} {u:Value} (h:CellsR w G cs vs) (hu:vs[j]? = some u) (hc:CellR w G c u):CellsR w G (cs.set j c) vs:=by
 refine⟨by simpa using h.1,fun i d hd=>?_⟩
 rw[List.getElem?_set] at hd
 by_cases e:j=i
 ·simp_all
 ·simp only[e,if_false] at hd
  exact h.2 i d hd
theorem part_set {agg:Bool} {cs:List Cell} {v:Value} {j:Nat} {c:Cell} (h:PartR w G agg cs v) (hc:cs[j]? = some c):∃ u,CellR w G c u∧∀ (G':Gh) (cs':List Cell) (c':Cell),PartR w G' agg cs' v→cs'.length=cs.length→CellR w G' c' u→PartR w G' agg (cs'.set j c') v:=by
 cases agg with
 | false=>
  obtain⟨c0,rfl,h⟩:=h
  cases j with
  | zero=>
   simp only[List.getElem?_cons_zero,Option.some.injEq] at hc
   subst hc
   refine⟨v,h,fun G' cs' c' h' _ hc'=>?_⟩
   obtain⟨c1,rfl,_⟩:=h'
   exact⟨c',rfl,hc'⟩
  | succ j=>simp at hc
 | true=>
  obtain⟨vs,hv,h⟩:=h
  obtain⟨u,hu,hr⟩:=h.2 j c hc
  refine⟨u,hr,fun G' cs' c' h' _ hc'=>?_⟩
  obtain⟨vs',hv',h'⟩:=h'
  rw[hv] at hv'
  injection hv' with hv'
  subst hv'
  exact⟨vs,hv,cells_set h' hu hc'⟩
def keepSt (σ:St) (l:Nat) (T:Tree):St:=({ σ with hp:=(l,T)::σ.hp }:St).zap (fun m=>m==l) (fun _=>false)
theorem RG.keepT (h:RG F G σ a w) (l:Nat) (T:Tree) (u:Value) (hT:TO w (.sl T.k T.n T.f) u (fun g=>G.ow g=.lab l)) (hl:l∉σ.fl):RG F { G with hv:=fun m=>if m=l then u else G.hv m } (keepSt σ l T) a w:=by
 have h0:=h.zap (fun m=>m==l) (fun _=>false)
 have fo:FreeOk w w G { G with hv:=fun m=>if m=l then u else G.hv m }:=⟨fun g hg=>⟨rfl,hg⟩,fun g hg=>hg⟩
 constructor
 case tm=>
  intro t tv hlk
  refine TV.carry fo (fun m hm=>?_) (fun m hm g hg=>⟨rfl,hg⟩) (fun _ _=>rfl) (h0.tm t tv hlk)
  simp only[keepSt,St.zap,St.map,look_map (fun x:TV=>x.zap (fun m=>m==l) (fun _=>false))] at hlk
  cases hq:look σ.tm t with
  | none=>simp[hq] at hlk
  | some x=>
   simp only[hq,Option.map_some,Option.some.injEq] at hlk
   subst hlk
   have:=TV.zap_refs hm
   simp_all
 case bx=>
  intro b cs hlk
  obtain⟨h1,r,e,h2,h3⟩:=h0.bx b cs hlk
  refine⟨h1,r,e,h2,Cells.carry fo (fun m hm=>?_) (fun m hm g hg=>⟨rfl,hg⟩) h3⟩
  simp only[keepSt,St.zap,St.map,look_map (fun cs:List Cell=>cs.map (·.zap (fun m=>m==l) (fun _=>false)))] at hlk
  cases hq:look σ.bx b with
  | none=>simp[hq] at hlk
  | some x=>
   simp only[hq,Option.map_some,Option.some.injEq] at hlk
   subst hlk
   have:=cells_zap_refs hm
   simp_all
 case hp=>
  intro m T' hlk
  simp only[keepSt,St.zap,St.map,look] at hlk
  by_cases hml:m=l
  ·simp_all
  ·have e0:(m==l)=false:=by simpa using hml
   simp only[e0,Bool.false_eq_true,if_false] at hlk
   simpa [hml] using h.hp m T' hlk
 case lt=>exact h.lt
 case os=>exact h.os
 case tape=>exact h.tape
 case output=>exact h.output
 case size=>exact h.size
 case keep=>exact h.keep.next fo (fun g hg=>rfl) fun g hg=>hg
 case fb=>exact h.fb
 case fl=>
  intro m v hm
  obtain⟨h1,h2⟩:=h.fl m v hm
  have hml:m≠l:=fun e=>hl (by simpa [e] using h2)
  exact⟨by simp only[hml,if_false];exact h1,h2⟩
 case nt=>exact h.nt
 case df=>exact h.df
theorem keep1 {t j l k lo n:Nat} {agg:Bool} {cs:List Cell} {T:Tree} (h:RG F G σ a w) (ht:look σ.tm t=some (.v agg cs)) (hj:cs[j]? = some (.sub l k lo n)) (hT:look σ.hp l=some T) (hk:T.k=k) (hfl:l∉σ.fl) (hle:lo+n≤T.n) :
 ∃ G',RG F G' (reCell (keepSt σ l ⟨T.t,cut T.xs lo n⟩) t j l) a w:=by
 obtain⟨u,hu,hset⟩:=part_set (h.tm t _ ht) hj
 have h1:u.oneCell'=true:=CellR.one hu
 subst hk
 have hto:=to_cut (sub_own (h.hp l T hT) hu hle) hle
 rw[fcC_tree ⟨T.t,cut T.xs lo n⟩] at hto
 have h2:=h.keepT l ⟨T.t,cut T.xs lo n⟩ u hto hfl
 have hlk:look (keepSt σ l ⟨T.t,cut T.xs lo n⟩).tm t=some (.v agg (cs.map (·.zap (fun m=>m==l) (fun _=>false)))):=by
  simp only[keepSt,St.zap,St.map]
  rw[look_map (fun x:TV=>x.zap (fun m=>m==l) (fun _=>false)),ht]
  rfl
 refine⟨{ G with hv:=fun m=>if m=l then u else G.hv m },?_⟩
 unfold reCell
 rw[hlk]
 refine RG.retell h2 ?_
 exact hset { G with hv:=fun m=>if m=l then u else G.hv m } _ (.ref l) (h2.tm t _ hlk) (by simp) ⟨by simp,h1⟩
def settleK:Nat→Nat→St→(St→Out)→Out
 | 0,_,σ,K=>K σ
 | m+1,t,σ,K=>match look σ.tm t with
  | some (.v agg cs)=>match subAt cs 0 with
   | some (j,l,k,lo,n)=>match look σ.hp l with
    | some T=>bif decide (T.k=k) && !σ.fl.contains l then .ob (lo+n≤T.n) (settleK m t (reCell (keepSt σ l ⟨T.t,cut T.xs lo n⟩) t j l) K) else .bad
    | none=>.bad
   | none=>K σ
  | _=>K σ
theorem settleK_ok:∀ (m t:Nat) (σ:St) (G:Gh) (K:St→Out),RG F G σ a w→(settleK m t σ K).holds Q→∃ σ' G',RG F G' σ' a w∧(K σ').holds Q:=by
 intro m
 induction m with
 | zero=>intro t σ G K h hh;exact⟨σ,G,h,hh⟩
 | succ m ih=>
  intro t σ G K h hh
  unfold settleK at hh
  split at hh
  ·rename_i agg cs ht
   split at hh
   ·rename_i j l k lo n hs
    split at hh
    ·rename_i T hT
     cases hc:(decide (T.k=k) && !σ.fl.contains l) with
     | false=>rw[hc,cond_false] at hh;exact hh.elim
     | true=>
      rw[hc,cond_true] at hh
      simp only[Bool.and_eq_true,decide_eq_true_eq,Bool.not_eq_true'] at hc
      obtain⟨hle,hh⟩:=hh
      obtain⟨_,hj⟩:=subAt_get hs
      obtain⟨G',h'⟩:=keep1 h ht (by simpa using hj) hT hc.1 (by simpa using hc.2) hle
      grind
    ·exact hh.elim
   ·exact⟨σ,G,h,hh⟩
  ·exact⟨σ,G,h,hh⟩
def settleG:List Md→List Operand→St→(St→Out)→Out
 | .give::ms,.tmp t::xs,σ,K=>settleK 8 t σ (fun σ'=>settleG ms xs σ' K)
 | _::ms,_::xs,σ,K=>settleG ms xs σ K
 | _,_,σ,K=>K σ
theorem settleG_ok:∀ (ms:List Md) (xs:List Operand) (σ:St) (G:Gh) (K:St→Out),RG F G σ a w→(settleG ms xs σ K).holds Q→∃ σ' G',RG F G' σ' a w∧(K σ').holds Q:=by
 intro ms
 induction ms with
 | nil=>intro xs σ G K h hh;exact⟨σ,G,h,by simpa [settleG] using hh⟩
 | cons m ms ih=>
  intro xs σ G K h hh
  cases xs with
  | nil=>exact⟨σ,G,h,by cases m<;>simpa [settleG] using hh⟩
  | cons x xs=>
   have rest:(settleG ms xs σ K).holds Q→∃ σ' G',RG F G' σ' a w∧(K σ').holds Q:=fun q=>ih xs σ G K h q
   cases m<;>cases x<;>first|exact rest hh|skip
   obtain⟨σ',G',h',hh'⟩:=settleK_ok _ _ σ G _ h hh
   grind
end
end Go.D
namespace Go.D
section
variable {P:Program} {E:Env} {F:Fr P} {G:Gh} {σ:St} {a:Act} {w w':World} {o:Oper} {K:St→Out} {Q:Post} {Qx:Exit→Act→World→Prop}
def ContC (cls:Bool) {P:Program} (F:Fr P) (G:Gh) (a:Act) (w:World) (d:Option Nat) (K:St→Out) (Q:Post):Act→World→Prop:=if cls then ContE F G a w d K Q else Cont F K Q
theorem ContC.of {cls:Bool} {d:Option Nat} {a':Act} {w':World} (h:ContE F G a w d K Q a' w'):ContC cls F G a w d K Q a' w':=by
 cases cls
 ·exact h.cont
 ·exact h
theorem wp_cls {cls:Bool} {d:Option Nat} (h:o.wp P a w (ContE F G a w d K Q) Qx):o.wp P a w (ContC cls F G a w d K Q) Qx:=Oper.wp_mono (fun _ _ h=>ContC.of h) h
theorem callRest_ok {cls:Bool} {ms:List Md} {g:Giv} {p:Pst} {v:Value} {Fs:Pl→Nat→Prop} (h:RG F G σ a w) (hng:nodupB (g.gv.map (·.1))=true) (hbs:nodupB (g.bs.map (·.1))=true) (hgb:nodupB g.gb=true) (ho:Onward w w')
 (hfree:∀ b,(gc w G g).ow b=.free→w'.heap[b]? = w.heap[b]?) (hcur:∀ b,(gc w G g).ow b=.cur→CurStep w w' b) (hp:PstF w (gc w G g) w' v p Fs) (hcls:cls=true→g.gl=[]∧g.gb=[]∧o.dst.isSome=true) (hh:(callRest o σ ms g K p).holds Q):ContC cls F G a w o.dst K Q (a.put o.dst v) w':=by
 unfold callRest at hh
 split at hh
 ·rename_i σ' x hk
  obtain⟨G',k1,k2,k3⟩:=afterCall_ok h hng hbs hgb ho hfree hcur hp hk
  have main:∀ σ'',RG F G' σ'' (a.put o.dst v) w'→(K σ'').holds Q→ContC cls F G a w o.dst K Q (a.put o.dst v) w':=by
   intro σ'' h2 hh2
   cases cls with
   | false=>exact⟨σ'',⟨G',h2⟩,hh2⟩
   | true=>
    obtain⟨e1,e2,e3⟩:=hcls rfl
    obtain⟨k4,k5,k6⟩:=k3 e1 e2
    refine⟨σ'',G',h2,hh2,⟨v,rfl⟩,ho,fun b hb=>?_,k4,fun b _=>by rw[k5],fun l hl=>k6 l ?_⟩
    ·have hbs0:g.bs=[]:=by simpa [Giv.gb] using e2
     by_cases hc:G.ow b=.cur
     ·exact .inr ⟨hc,hcur b (by simp only[gc,hb,if_true,hc,gcOw])⟩
     ·exact .inl (hfree b (gc_free hb hc (fun m _=>by simp[e1]) fun m _=>by simp[e2]))
    ·cases hd:o.dst with
     | none=>
      simp[hd] at e3
     | some d0=>simpa [dstBase,hd] using hl d0 hd
  cases hd:o.dst with
  | none=>
   rw[hd] at hh
   rw[hd] at main
   exact main σ' k1 hh
  | some d=>
   rw[hd] at hh
   dsimp only at hh
   cases hlt:decide (d<σ.nt) with
   | false=>simp[hlt,Out.holds] at hh
   | true=>
    simp only[hlt,cond_true] at hh
    rw[hd] at main
    have hnt:σ'.nt=σ.nt:=by
     have h1:=k1.nt
     rw[h.nt] at h1
     exact h1.symm
    exact main _ (k1.put (by rw[hnt];exact of_decide_eq_true hlt) k2) hh
 ·exact hh.elim
theorem callK_ok {cls:Bool} {f:Nat} {xs:List (List (Option Ty)×TV)} {vs:Array Value} (hE:EOk P E) (h:RG F G σ a w) (hsz:vs.size=xs.length) (hx:∀ (j:Nat) (kx:List (Option Ty)×TV),xs[j]? = some kx→∃ v,vs[j]? = some v∧TVR w G kx.2 v)
 (he:(execOp a.eval o).run P w=(callFunc f vs).run P w) (hh:(callK P E cls o f xs σ K).holds Q):o.wp P a w (ContC cls F G a w o.dst K Q) Qx:=by
 unfold callK at hh
 split at hh
 ·rename_i ms sp fn hg hfn
  cases hc:(fn.body.isSome && !(fn.name == "runtime.NumGoroutine")) with
  | false=>simp[hc,Out.holds] at hh
  | true=>
   simp only[hc,cond_true] at hh
   simp only[Bool.and_eq_true,Bool.not_eq_true'] at hc
   obtain⟨hbody,hname⟩:=hc
   split at hh
   ·rename_i p A g hl
    cases hcl:(cls && !(g.gl.isEmpty&&g.gb.isEmpty&&o.dst.isSome)) with
    | true=>rw[hcl,cond_true] at hh;exact hh.elim
    | false=>
     rw[hcl,cond_false] at hh
     have hcls:cls=true→g.gl=[]∧g.gb=[]∧o.dst.isSome=true:=by
      intro e
      rw[e] at hcl
      simpa [and_assoc] using hcl
     have hrun:(execOp a.eval o).run P w=.ok (.enter f vs) w:=by
      rw[he]
      obtain⟨cb,hb2⟩:=Option.isSome_iff_exists.1 hbody
      have hn2:¬ fn.name = "runtime.NumGoroutine":=by simpa using hname
      simp[callFunc,hfn,hb2,hn2]
     have main:∀ (c:Ctr),sp A=some c→(∀ q∈p,q)→(∀ q∈c.pre,q)→(∀ r,c.sat r→(callRest o σ ms g K r).holds Q)→o.wp P a w (ContC cls F G a w o.dst K Q) Qx:=by
      intro c hsp hp hq hr
      obtain⟨l1,_,l3,l4,l5,l6,_,l7⟩:=lendArgs_ok (vs:=vs) h hl hp (by simp[hsz]) (fun j x hj=>by
       rw[List.getElem?_map,List.getElem?_zipIdx] at hj
       cases hq2:xs[j]? with
       | none=>simp[hq2] at hj
       | some kx=>
        simp only[hq2,Option.map_some,Option.some.injEq] at hj
        subst hj
        exact hx j kx hq2)
      unfold Oper.wp
      rw[hrun,Oper.upon_enter]
      refine((hE f ms sp hg).1 A c hsp hq w vs _ (gc_base g h.base) l1).mono ?_
      rintro e w' ⟨v,r,hsat,rfl,ho,hs,hcu,Fs,hpf⟩
      exact callRest_ok h l3 l5 l6 ho hs hcu hpf hcls (hr r hsat)
     split at hh
     ·rename_i q r hsp
      obtain⟨hp,hh⟩:=obs_holds hh
      obtain⟨hq,hh⟩:=obs_holds hh
      exact main _ hsp hp hq fun r' (hr:r'=r)=>hr▸hh
     ·rename_i q X ok r hsp
      obtain⟨hp,hh⟩:=obs_holds hh
      obtain⟨hq,_,hh⟩:=obs_holds hh
      exact main _ hsp hp hq fun r' ⟨x,hx,hr⟩=>hr▸hh x hx
     ·rename_i q X e r hsp
      obtain⟨hp,hh⟩:=obs_holds hh
      obtain⟨hq,hh⟩:=obs_holds hh
      exact main _ hsp hp hq fun r' (hr:r'=r e)=>hr▸hh
     ·exact hh.elim
   ·exact hh.elim
 ·exact hh.elim
def scalAll:List TV→Option (List Value)
 | []=>some []
 | x::xs=>match x.scal,scalAll xs with
  | some v,some vs=>some (v::vs)
  | _,_=>none
def opMax (P:Program) (o:Oper) (b:Builtin) (tys:Array TypeId) (args:List Operand) (σ:St) (K:St→Out):Out :=
 match scalAll (args.map σ.eval) with
 | some us=>match b with
  | .max=>opPure P o (Builtin.max_ tys o.type us.toArray) σ K
  | .min=>opPure P o (Builtin.min_ tys o.type us.toArray) σ K
  | _=>.bad
 | none=>.bad
theorem scalAll_ok (h:RG F G σ a w):∀ (args:List Operand) (us:List Value),scalAll (args.map σ.eval)=some us→args.map a.eval=us:=by
 intro args
 induction args with
 | nil=>intro us hu;simp only[List.map_nil,scalAll,Option.some.injEq] at hu;exact hu
 | cons x xs ih=>
  intro us hu
  simp only[List.map_cons,scalAll] at hu
  split at hu
  ·rename_i v vs hv hvs
   simp only[Option.some.injEq] at hu
   subst hu
   rw[List.map_cons,ih vs hvs,(scal_ok (eval_ok h x) hv).1]
  ·simp at hu
def argTVs (P:Program) (ty:TypeId→Option Ty) (σ:St):List Operand→List TypeId→List (List (Option Ty)×TV)
 | [],_=>[]
 | x::xs,ts=>(tcells P ty 8 (ts.headD 0),σ.eval x)::argTVs P ty σ xs ts.tail
theorem argTVs_ok {ty:TypeId→Option Ty} (h:RG F G σ a w):∀ (xs:List Operand) (ts:List TypeId),(argTVs P ty σ xs ts).length=xs.length∧∀ (j:Nat) (kx:List (Option Ty)×TV),(argTVs P ty σ xs ts)[j]? = some kx→∃ v,(xs.map a.eval)[j]? = some v∧TVR w G kx.2 v:=by
 intro xs
 induction xs with
 | nil=>intro ts;simp[argTVs]
 | cons x xs ih=>
  intro ts
  obtain⟨h1,h2⟩:=ih ts.tail
  refine⟨by simp[argTVs,h1],fun j kx hj=>?_⟩
  cases j with
  | zero=>simp only[argTVs,List.getElem?_cons_zero,Option.some.injEq] at hj;subst hj;exact⟨_,rfl,eval_ok h x⟩
  | succ j=>simpa using h2 j kx (by simpa [argTVs] using hj)
def keeps (ms:List Md):Bool:=match ms with
 | .keep::_=>true
 | _=>false
def innLab (o:Oper):Nat:=64*o.dst.getD 0+63
def callIn (P:Program) (E:Env) (o:Oper) (g l k e j:Nat) (args:List Operand) (tys:List TypeId) (σ:St) (K:St→Out):Out :=
 match look σ.hp l with
 | some T=>match cell T.t T.xs e j with
  | .l t xs=>bif decide (T.k=k)&&decide (innLab o≠l) && !σ.fl.contains (innLab o) then
   callK P E false o g ((tcells P E.ty 8 (tys.headD 0),.v false [.ref (innLab o)])::argTVs P E.ty (innSt σ l (innLab o) t xs) args tys.tail) (innSt σ l (innLab o) t xs) (fun σ'=>
    match look σ'.hp (innLab o) with
    | some ⟨t',ys⟩=>bif (dec T.t (splice (enc T.t (T.xs.getD e default)) j [.l t' ys])).isSome&&decide (t'=t) then .lt (List (El T.t)) (T.xs.modify e (upd T.t j [.l t' ys])) fun zs=>K (backSt σ' σ.fl l (innLab o) ⟨T.t,zs⟩) else .bad
    | none=>.bad)
   else .bad
  | _=>.bad
 | none=>.bad
theorem callIn_ok {g l k e j:Nat} {t0:Ty} {xs0:List (El t0)} {args:List Operand} {tys:List TypeId} {v:Value} (hE:EOk P E) (h:RG F G σ a w) (hx:TVR w G (.inn l k e j t0 xs0) v)
 (he:(execOp a.eval o).run P w=(callFunc g (v::args.map a.eval).toArray).run P w) (hh:(callIn P E o g l k e j args tys σ K).holds Q):o.wp P a w (Cont F K Q) Qx:=by
 unfold callIn at hh
 split at hh
 ·rename_i T hT
  split at hh
  ·rename_i t xs hcell
   cases hc:(decide (T.k=k)&&decide (innLab o≠l) && !σ.fl.contains (innLab o)) with
   | false=>rw[hc,cond_false] at hh;exact hh.elim
   | true=>
    simp only[hc,cond_true] at hh
    simp only[Bool.and_eq_true,decide_eq_true_eq,Bool.not_eq_true'] at hc
    obtain⟨⟨hk,hne⟩,hfl⟩:=hc
    have hfl:innLab o∉σ.fl:=by simpa using hfl
    obtain⟨g0,o0,cap,row,ety,GG,hI⟩:=inn_at h hT hk hx
    obtain⟨G1,hG⟩:=innG_ex G (GG e j) l (innLab o) v
    have h1:=inn_split h hT hI hcell hne hfl hG (hG.base h.base fun b hb=>(hI.sub e hI.he j hI.hj b hb).1)
    obtain⟨a1,a2⟩:=argTVs_ok (P:=P) (ty:=E.ty) h1 args tys.tail
    have:=callK_ok (vs:=(v::args.map a.eval).toArray) (Qx:=Qx) hE h1 (by simp[a1]) (fun jj kx hj=>by
     cases jj with
     | zero=>
      simp only[List.getElem?_cons_zero,Option.some.injEq] at hj
      subst hj
      refine⟨v,by simp,_,rfl,?_,?_⟩
      ·rw[hG.hv,if_pos rfl]
      ·obtain⟨u,hu,ht⟩:=hI.cells e hI.he j hI.hj
       rw[hI.at_] at hu
       injection hu with hu
       subst hu
       exact TR.one ht.read
     | succ jj=>
      obtain⟨u,hu,ht⟩:=a2 jj kx (by simpa using hj)
      exact⟨u,by simpa using hu,ht⟩) he hh
    refine Oper.wp_mono ?_ this
    rintro a' w' ⟨σ',⟨G',h'⟩,hh'⟩
    dsimp only at hh'
    split at hh'
    ·rename_i t' ys hl
     cases hc2:((dec T.t (splice (enc T.t (T.xs.getD e default)) j [.l t' ys])).isSome&&decide (t'=t)) with
     | false=>rw[hc2,cond_false] at hh';exact hh'.elim
     | true=>
      simp only[hc2,cond_true] at hh'
      simp only[Bool.and_eq_true,decide_eq_true_eq] at hc2
      obtain⟨hd,rfl⟩:=hc2
      obtain⟨G2,h2,_⟩:=inn_back h hI hne hfl hG h' hl hd
      exact⟨_,⟨G2,h2⟩,hh'⟩
    ·exact hh'.elim
  ·exact hh.elim
 ·exact hh.elim
def opCall (P:Program) (E:Env) (cls:Bool) (o:Oper) (c:Call) (σ:St) (K:St→Out):Out :=
 match c.callee,c.args.toList,c.argTypes.toList with
 | .builtin .len,[x],[T]=>opLen P o T x σ K
 | .builtin .append,[s,x],[T,T']=>bif T==T' then(bif cls then opAppCF P E.ty o T s x σ K else(match σ.eval s,σ.eval x with
  | .v false [.sub l k lo m],.v false [.sub l2 k2 lo2 m2]=>bif l==l2 then opAppIn P o T l k lo m k2 lo2 m2 σ K else opAppend P E.ty o T s x σ K
  | _,_=>opAppX P E.ty o T s x σ K)) else .bad
 | .builtin .clear,[x],[T]=>bif cls then .bad else opClear P o T x σ K
 | .builtin b,args,_=>opMax P o b c.argTypes args σ K
 | .value f,args,tys=>match σ.eval f with
  | .clo g caps=>match cls,args,caps,E.fn g with
   | false,.tmp t::rest,[],some (ms,sp)=>match keeps ms,σ.get t with
    | true,.inn l k e j _ _=>callIn P E o g l k e j rest tys σ K
    | _,_=>bif isNewMd ms&&rest.isEmpty then opNew P o g t σ K else settleG ms args σ fun σ'=>callK P E false o g (argTVs P E.ty σ' args tys++([]:List Cap).map fun c=>([],capTV c)) σ' K
   | _,_,_,_=>callK P E cls o g (argTVs P E.ty σ args tys++caps.map fun c=>([],capTV c)) σ K
  | _=>.bad
 | _,_,_=>.bad
theorem opCall_ok {cls:Bool} {c:Call} (hE:EOk P E) (h:RG F G σ a w) (ho:o.op=.call c) (hh:(opCall P E cls o c σ K).holds Q):o.wp P a w (ContC cls F G a w o.dst K Q) Qx:=by
 obtain⟨callee,args,tys⟩:=c
 unfold opCall at hh
 dsimp only at hh
 split at hh
 ·rename_i x T h1 h2
  have e1:args = #[x]:=by simpa using congrArg List.toArray h1
  have e2:tys = #[T]:=by simpa using congrArg List.toArray h2
  subst e1;subst e2
  exact wp_cls (opLen_ok h ho hh)
 ·rename_i s x T T' h1 h2
  have e1:args = #[s,x]:=by simpa using congrArg List.toArray h1
  have e2:tys = #[T,T']:=by simpa using congrArg List.toArray h2
  subst e1;subst e2
  cases hc:(T==T') with
  | false=>simp[hc,Out.holds] at hh
  | true=>
   simp only[hc,cond_true] at hh
   rw[beq_iff_eq] at hc
   subst hc
   cases cls with
   | true=>exact wp_cls (opAppCF_ok (ty:=E.ty) h ho hh)
   | false=>
    simp only[cond_false] at hh
    split at hh
    ·rename_i l k lo m l2 k2 lo2 m2 hs2 hx2
     cases he:(l==l2) with
     | false=>rw[he,cond_false] at hh;exact opAppend_ok (ty:=E.ty) h ho hh
     | true=>
      rw[he,cond_true] at hh
      have he':l=l2:=by simpa using he
      subst he'
      exact opAppIn_ok h ho hs2 hx2 hh
    ·exact opAppX_ok (ty:=E.ty) h ho hh
 ·rename_i x T h1 h2
  have e1:args = #[x]:=by simpa using congrArg List.toArray h1
  have e2:tys = #[T]:=by simpa using congrArg List.toArray h2
  subst e1;subst e2
  cases cls with
  | true=>exact hh.elim
  | false=>exact opClear_ok h ho hh
 ·rename_i b _ _ _ _
  unfold opMax at hh
  split at hh
  ·rename_i us hus
   have e1:=scalAll_ok h args.toList us hus
   have e2:args.map a.eval=us.toArray:=by rw[←e1];apply Array.ext';simp
   split at hh
   ·exact wp_cls (opPure_ok h hh (by simp[execOp,ho,resolve,invoke,builtin,e2]))
   ·exact wp_cls (opPure_ok h hh (by simp[execOp,ho,resolve,invoke,builtin,e2]))
   ·exact hh.elim
  ·exact hh.elim
 ·rename_i f
  split at hh
  ·rename_i g caps hf
   have hfv:=eval_ok h f
   rw[hf] at hfv
   obtain⟨cv,hcv,hcs,hcc⟩:=hfv
   have gen:∀ cls,(callK P E cls o g (argTVs P E.ty σ args.toList tys.toList++caps.map fun c=>([],capTV c)) σ K).holds Q→o.wp P a w (ContC cls F G a w o.dst K Q) Qx:=by
    intro cls hh
    obtain⟨h1,h2⟩:=argTVs_ok (P:=P) (ty:=E.ty) h args.toList tys.toList
    refine callK_ok (vs:=args.map a.eval++cv) hE h ?_ ?_ ?_ hh
    ·simp only[Array.size_append,Array.size_map,hcs,List.length_append,h1,List.length_map,Array.length_toList]
    ·intro j kx hj
     by_cases hlt:j<args.size
     ·rw[List.getElem?_append_left (by rw[h1];simpa using hlt)] at hj
      obtain⟨v,hv,ht⟩:=h2 j kx hj
      refine⟨v,?_,ht⟩
      rw[Array.getElem?_append_left (by simpa using hlt)]
      simpa using hv
     ·rw[List.getElem?_append_right (by rw[h1];simp;omega),h1,List.getElem?_map,Array.length_toList] at hj
      cases hq:caps[j-args.size]? with
      | none=>simp[hq] at hj
      | some c0=>
       simp only[hq,Option.map_some,Option.some.injEq] at hj
       subst hj
       obtain⟨u,hu,hr⟩:=hcc _ c0 hq
       refine⟨u,?_,capTV_ok hr⟩
       rw[Array.getElem?_append_right (by simp;omega)]
       simpa using hu
    ·simp[execOp,ho,resolve,Deferred.ofValue,hcv,invoke]
   split at hh
   ·rename_i _ _ _ _ t rest ms sp hargs hfn
    split at hh
    ·rename_i l k e j t0 xs0 hkeep hinn
     have hx:=raw_ok h t
     rw[hinn] at hx
     have hcv0:cv = #[]:=by
      have:cv.size=0:=by simpa using hcs
      exact Array.eq_empty_of_size_eq_zero this
     subst hcv0
     have e1:args.map a.eval=(a.tmps.getD t undef::rest.map a.eval).toArray:=by
      apply Array.ext'
      rw[Array.toList_map,hargs]
      rfl
     exact callIn_ok hE h hx (by simp[execOp,ho,resolve,Deferred.ofValue,hcv,invoke,e1]) hh
    ·cases hnw:(isNewMd ms&&rest.isEmpty) with
     | false=>
      rw[hnw,cond_false] at hh
      obtain⟨σ',G',h',hh'⟩:=settleG_ok _ _ σ G _ h hh
      have hcv0:cv = #[]:=by
       have:cv.size=0:=by simpa using hcs
       exact Array.eq_empty_of_size_eq_zero this
      subst hcv0
      obtain⟨h1,h2⟩:=argTVs_ok (P:=P) (ty:=E.ty) h' args.toList tys.toList
      refine Oper.wp_mono (fun _ _ q=>q) (callK_ok (G:=G') (cls:=false) (vs:=args.map a.eval ++ #[]) hE h' ?_ ?_ ?_ hh')
      ·simp[h1]
      ·intro j kx hj
       obtain⟨v,hv,ht⟩:=h2 j kx (by simpa using hj)
       exact⟨v,by simpa using hv,ht⟩
      ·simp[execOp,ho,resolve,Deferred.ofValue,hcv,invoke]
     | true=>
      rw[hnw,cond_true] at hh
      rw[Bool.and_eq_true] at hnw
      have hr:rest=[]:=by simpa using hnw.2
      subst hr
      have hcv0:cv = #[]:=by
       have:cv.size=0:=by simpa using hcs
       exact Array.eq_empty_of_size_eq_zero this
      subst hcv0
      have e1:args.map a.eval = #[a.eval (.tmp t)]:=by
       apply Array.ext'
       rw[Array.toList_map,hargs]
       rfl
      exact opNew_ok h ((hE g ms sp hfn).2 hnw.1) (by simp[execOp,ho,resolve,Deferred.ofValue,hcv,invoke,e1]) hh
   ·exact gen _ hh
  ·exact hh.elim
 ·exact hh.elim
def step (P:Program) (E:Env) (cls:Bool) (o:Oper) (σ:St) (K:St→Out):Out :=
 match o.op with
 | .move x=>opMove o x σ K
 | .assign x=>opMove o x σ K
 | .pick c x y=>opPick o c x y σ K
 | .alloc T=>opAlloc P o T σ K
 | .box _ x=>opBox o x σ K
 | .build T ps=>opBuild P o T ps σ K
 | .buildSlice T n ps=>bif litFits P cls T n ps σ then opBuildSlice P E.ty cls o T n ps σ K else opLit P E.ty o T n ps σ (fun σ'=>K (bif cls then σ' else σ'.lits))
 | .load T x=>opLoad P o T x σ K
 | .store T p x=>bif !cls&&o.dst.isNone then opStoreX P o T p x σ K else .bad
 | .nilCheck x=>opNilX o x σ K
 | .binOp op T x y _=>opBin P o op T x y σ K
 | .unOp op _ x=>opUn P o op x σ K
 | .convert S T x=>bif isSB P S T then opSB o x σ K else opConvX P o S T x σ K
 | .makeFunc fn first captured=>opMakeFunc o fn first captured σ K
 | .makeSlice T l c=>opMake P E.ty o T l c σ K
 | .slice T x lo hi mx=>opSlice P o T x lo hi mx σ K
 | .fieldAddr T x j=>opFldX P o T x j σ K
 | .indexAddr T x i=>opIdxX P o T x i σ K
 | .index T x i=>match P.underlying T with
  | some .string=>opIndexS o x i σ K
  | _=>.bad
 | .extract x ix=>opExtract o x ix σ K
 | .call c=>opCall P E cls o c σ K
 | _=>.bad
theorem step_ok {cls:Bool} (hE:EOk P E) (h:RG F G σ a w) (hh:(step P E cls o σ K).holds Q):o.wp P a w (ContC cls F G a w o.dst K Q) Qx:=by
 unfold step at hh
 split at hh
 ·exact wp_cls (opMove_ok h (.inl (by assumption)) hh)
 ·exact wp_cls (opMove_ok h (.inr (by assumption)) hh)
 ·exact wp_cls (opPick_ok h (by assumption) hh)
 ·exact wp_cls (opAlloc_ok h (by assumption) hh)
 ·exact wp_cls (opBox_ok h (by assumption) hh)
 ·exact wp_cls (opBuild_ok h (by assumption) hh)
 ·rename_i T n ps hop
  cases hf:litFits P cls T n ps σ with
  | true=>
   rw[hf,cond_true] at hh
   have:=opBuildSlice_all (Qx:=Qx) h hop hh
   cases cls with
   | false=>simpa [ContC] using this
   | true=>simpa [ContC] using this
  | false=>
   rw[hf,cond_false] at hh
   have:=opLit_ok (Qx:=Qx) h hop hh
   cases cls with
   | true=>exact wp_cls this
   | false=>
    refine Oper.wp_mono (fun a' w' h'=>?_) this
    obtain⟨σ',⟨G',hG'⟩,hh'⟩:=h'.cont
    exact⟨_,lits_ok hG',hh'⟩
 ·exact wp_cls (opLoad_ok h (by assumption) hh)
 ·rename_i T p x hop
  cases hc:(!cls&&o.dst.isNone) with
  | false=>simp[hc,Out.holds] at hh
  | true=>
   simp only[hc,cond_true] at hh
   simp only[Bool.and_eq_true,Bool.not_eq_true',Option.isNone_iff_eq_none] at hc
   obtain⟨rfl,hd⟩:=hc
   exact opStoreX_ok h hop hd hh
 ·exact wp_cls (opNilX_ok h (by assumption) hh)
 ·exact wp_cls (opBin_ok h (by assumption) hh)
 ·exact wp_cls (opUn_ok h (by assumption) hh)
 ·rename_i S T x hop
  cases hb:isSB P S T with
  | true=>rw[hb,cond_true] at hh;exact wp_cls (opSB_ok h hop hb hh)
  | false=>rw[hb,cond_false] at hh;exact wp_cls (opConvX_ok h hop hh)
 ·exact wp_cls (opMakeFunc_ok h (by assumption) hh)
 ·exact wp_cls (opMake_ok h (by assumption) hh)
 ·exact wp_cls (opSlice_ok h (by assumption) hh)
 ·exact wp_cls (opFldX_ok h (by assumption) hh)
 ·exact wp_cls (opIdxX_ok h (by assumption) hh)
 ·split at hh
  ·exact wp_cls (opIndexS_ok h (by assumption) (by assumption) hh)
  ·exact hh.elim
 ·exact wp_cls (opExtract_ok h (by assumption) hh)
 ·exact opCall_ok hE h (by assumption) hh
 ·exact hh.elim
end
end Go.D
namespace Go.D
def Out.bind:Out→(St→Out)→Out
 | .st .normal σ,f=>f σ
 | .br b x y,f=>.br b (x.bind f) (y.bind f)
 | .ob p x,f=>.ob p (x.bind f)
 | .lt X e x,f=>.lt X e fun y=>(x y).bind f
 | _,_=>.bad
def is1 (σ':St):Post:=⟨fun _ _ _=>False,fun e σ=>e=.normal∧σ=σ'⟩
theorem Out.bind_holds {Q:Post} {f:St→Out}:∀ {x:Out},(x.bind f).holds Q→∃ σ',x.holds (is1 σ')∧(f σ').holds Q:=by
 intro x
 induction x with
 | leaf r bx hp=>intro h;exact h.elim
 | st e σ=>
  intro h
  cases e with
  | normal=>exact⟨σ,⟨rfl,rfl⟩,h⟩
  | exit id=>exact h.elim
  | ret=>exact h.elim
 | br b x y ihx ihy=>
  intro h
  cases b with
  | true=>obtain⟨σ',h1,h2⟩:=ihx (h.1 rfl);exact⟨σ',⟨fun _=>h1,fun h=>by simp at h⟩,h2⟩
  | false=>obtain⟨σ',h1,h2⟩:=ihy (h.2 rfl);exact⟨σ',⟨fun h=>by simp at h,fun _=>h1⟩,h2⟩
 | ob p x ih=>intro h;obtain⟨σ',h1,h2⟩:=ih h.2;exact⟨σ',⟨h.1,h1⟩,h2⟩
 | lp X p inv x ih=>intro h;exact h.elim
 | lt X e x ih=>intro h;exact ih e h
 | ok=>intro h;exact h.elim
 | bad=>intro h;exact h.elim
def Out.bindL:Out→(St→Out)→Out
 | .st .normal σ,f=>f σ
 | .br b x y,f=>.br b (x.bindL f) (y.bindL f)
 | .ob p x,f=>.ob p (x.bindL f)
 | .lt X e x,f=>.lt X e fun y=>(x y).bindL f
 | .lp X p inv x,f=>.lp X p inv fun y=>(x y).bindL f
 | _,_=>.bad
def behind (Q:Post) (f:St→Out):Post:=⟨fun _ _ _=>False,fun e σ=>e=.normal∧(f σ).holds Q⟩
theorem Out.bindL_holds {Q:Post} {f:St→Out}:∀ {x:Out},(x.bindL f).holds Q→x.holds (behind Q f):=by
 intro x
 induction x with
 | leaf r bx hp=>intro h;exact h.elim
 | st e σ=>
  intro h
  cases e with
  | normal=>exact⟨rfl,h⟩
  | exit id=>exact h.elim
  | ret=>exact h.elim
 | br b x y ihx ihy=>intro h;exact⟨fun e=>ihx (h.1 e),fun e=>ihy (h.2 e)⟩
 | ob p x ih=>intro h;exact⟨h.1,ih h.2⟩
 | lp X p inv x ih=>intro h;exact⟨h.1,fun y hy=>ih y (h.2 y hy)⟩
 | lt X e x ih=>intro h;exact ih e h
 | ok=>intro h;exact h.elim
 | bad=>intro h;exact h.elim
def guarded (ops:Array Oper) (o:Oper) (σ v:St) (yes no:St→Out):Out :=
 match o.guard with
 | none=>yes σ
 | some (j,want)=>match (ops[j]?).bind (·.dst) with
  | some t=>match v.get t with
   | .v false [.tt]=>bif want then yes σ else no σ
   | .v false [.ff]=>bif want then no σ else yes σ
   | .v false [.sc (.bool b)]=>.br b
    (bif want then yes (σ.put t (.v false [.tt])) else no (σ.put t (.v false [.tt])))
    (bif want then no (σ.put t (.v false [.ff])) else yes (σ.put t (.v false [.ff])))
   | .tup []=>no σ
   | _=>.bad
  | none=>.bad
def skp:TV:=.tup []
def evOps (P:Program) (E:Env) (ops:Array Oper):List Nat→St→(St→Out)→Out
 | [],σ,K=>K σ
 | i::rest,σ,K=>match ops[i]? with
  | none=>evOps P E ops rest σ K
  | some o=>guarded ops o σ σ (fun σ=>step P E false o σ (fun σ'=>evOps P E ops rest σ' K)) (fun σ=>evOps P E ops rest (σ.setTm o.dst skp) K)
section
variable {P:Program} {E:Env} {F:Fr P} {G:Gh} {σ:St} {a:Act} {w:World} {o:Oper} {K:St→Out} {Q:Post} {Qx:Exit→Act→World→Prop}
theorem RG.dead (h:RG F G σ a w) (d:Option Nat) (v:Value):RG F G (σ.setTm d .dead) (a.put d v) w:=by
 cases d with
 | none=>exact h
 | some d=>
  refine⟨?_,h.bx,h.hp,h.lt,h.os,h.tape,h.output,h.size,h.keep,h.fb,h.fl,by simpa [Act.put,St.setTm,St.put] using h.nt,h.df⟩
  intro t tv hl
  simp only[St.setTm,St.put,look_put] at hl
  by_cases ht:t=d
  ·simp only[ht,if_true,Option.some.injEq] at hl
   subst hl
   trivial
  ·simp only[ht,if_false] at hl
   have:=h.tm t tv hl
   simpa [Act.put,Array.getElem?_setIfInBounds_ne (Ne.symm ht)] using this
theorem RG.skip (h:RG F G σ a w) (d:Option Nat):RG F G (σ.setTm d skp) (a.put d undef) w:=by
 cases d with
 | none=>exact h
 | some d=>
  refine⟨?_,h.bx,h.hp,h.lt,h.os,h.tape,h.output,h.size,h.keep,h.fb,h.fl,by simpa [Act.put,St.setTm,St.put] using h.nt,h.df⟩
  intro t tv hl
  simp only[St.setTm,St.put,look_put] at hl
  by_cases ht:t=d
  ·simp only[ht,if_true,Option.some.injEq] at hl
   subst hl
   refine⟨#[],?_,rfl,fun j p hj=>by simp at hj⟩
   subst ht
   simp only[Act.put,Array.getD_eq_getD_getElem?,Array.getElem?_setIfInBounds]
   split
   ·split<;>simp[undef]
   ·simp_all
  ·simp only[ht,if_false] at hl
   have:=h.tm t tv hl
   simpa [Act.put,Array.getElem?_setIfInBounds_ne (Ne.symm ht)] using this
theorem get_ok (h:RG F G σ a w) (t:Nat):TVR w G (σ.get t) (a.tmps.getD t undef):=raw_ok h t
theorem yielded_of {ops:Array Oper} {j t:Nat} {b:Bool} (hj:(ops[j]?).bind (·.dst)=some t) (hv:a.tmps.getD t undef=.bool b):yielded ops a.tmps j=some b:=by
 unfold yielded
 rw[hj]
 simp only[Option.bind_some]
 rw[Array.getD_eq_getD_getElem?] at hv
 cases hq:a.tmps[t]? with
 | none=>rw[hq] at hv;simp[undef] at hv
 | some v=>rw[hq] at hv;simp only[Option.getD_some] at hv;subst hv;rfl
def BoolIs (x:TV) (b:Bool):Prop:=x=.v false [.sc (.bool b)]∨x=.v false [if b then .tt else .ff]
theorem BoolIs.val {x:TV} {b:Bool} {v:Value} (h:BoolIs x b) (hx:TVR w G x v):v=.bool b:=by
 rcases h with rfl|rfl
 ·obtain⟨c,hc,h⟩:=hx;injection hc with hc;subst hc;exact h.1
 ·obtain⟨c,hc,h⟩:=hx;injection hc with hc;subst hc;cases b<;>exact h
theorem BoolIs.mk {x:TV} {b:Bool} (h:BoolIs x b):TVR w G x (.bool b):=by
 rcases h with rfl|rfl
 ·exact⟨_,rfl,rfl,rfl⟩
 ·exact⟨_,rfl,by cases b<;>rfl⟩
def GuardIs (ops:Array Oper) (o:Oper) (σ v σr:St) (wanted:Bool):Prop :=
 (o.guard=none∧wanted=true∧σr=σ)∨(∃ j want t b,o.guard=some (j,want)∧(ops[j]?).bind (·.dst)=some t∧BoolIs (v.get t) b∧wanted=(b==want)∧(σr=σ∨σr=σ.put t (.v false [if b then .tt else .ff]))) ∨
 ∃ j want t,o.guard=some (j,want)∧(ops[j]?).bind (·.dst)=some t∧v.get t=.tup []∧wanted=false∧σr=σ
theorem guarded_holds {ops:Array Oper} {v:St} {yes no:St→Out} (h:(guarded ops o σ v yes no).holds Q):∃ σr wanted,GuardIs ops o σ v σr wanted∧((if wanted then yes σr else no σr).holds Q):=by
 unfold guarded at h
 split at h
 ·rename_i hg
  exact⟨σ,true,.inl ⟨hg,rfl,rfl⟩,h⟩
 ·rename_i j want hg
  split at h
  ·rename_i t hj
   split at h
   ·rename_i he
    refine⟨σ,true==want,.inr (.inl ⟨j,want,t,true,hg,hj,.inr he,rfl,.inl rfl⟩),?_⟩
    grind
   ·rename_i he
    refine⟨σ,false==want,.inr (.inl ⟨j,want,t,false,hg,hj,.inr he,rfl,.inl rfl⟩),?_⟩
    grind
   ·rename_i b he
    cases b with
    | true=>
     have h:=h.1 rfl
     refine⟨_,true==want,.inr (.inl ⟨j,want,t,true,hg,hj,.inl he,rfl,.inr rfl⟩),?_⟩
     grind
    | false=>
     have h:=h.2 rfl
     refine⟨_,false==want,.inr (.inl ⟨j,want,t,false,hg,hj,.inl he,rfl,.inr rfl⟩),?_⟩
     grind
   ·rename_i he
    exact⟨σ,false,.inr (.inr ⟨j,want,t,hg,hj,he,rfl,rfl⟩),by simpa using h⟩
   ·exact h.elim
  ·exact h.elim
theorem GuardIs.wanted_ok {ops:Array Oper} {v σr:St} {wanted:Bool} (hg:GuardIs ops o σ v σr wanted) (h:RG F G v a w):Region.wanted o (yielded ops a.tmps)=wanted:=by
 rcases hg with⟨h1,rfl,_⟩|⟨j,want,t,b,h1,h2,h3,rfl,_⟩|⟨j,want,t,h1,h2,h3,rfl,_⟩
 ·simp[Region.wanted,h1]
 ·have hv:=h3.val (get_ok h t)
  simp only[Region.wanted,h1,yielded_of h2 hv]
  rfl
 ·have hv:=get_ok h t
  rw[h3] at hv
  obtain⟨vs,hv,_⟩:=hv
  have hy:yielded ops a.tmps j=none:=by
   unfold yielded
   rw[h2]
   simp only[Option.bind_some]
   rw[Array.getD_eq_getD_getElem?] at hv
   grind
  simp only[Region.wanted,h1,hy]
  rfl
theorem GuardIs.retold {ops:Array Oper} {v σr:St} {wanted:Bool} (hg:GuardIs ops o σ v σr wanted) (hv:RG F G v a w) (h:RG F G σ a w):RG F G σr a w:=by
 rcases hg with⟨_,_,rfl⟩|⟨j,want,t,b,_,_,h3,_,rfl|rfl⟩|⟨j,want,t,_,_,_,_,rfl⟩
 ·exact h
 ·exact h
 ·refine h.retell ?_
  rw[h3.val (get_ok hv t)]
  exact(BoolIs.mk (.inr rfl))
 ·exact h
theorem evOps_ok (hE:EOk P E) {ops:Array Oper}:∀ (l:List Nat) (σ:St) (G:Gh) (a:Act) (w:World),RG F G σ a w→(evOps P E ops l σ K).holds Q →
 wpOps P ops (fun e a w=>e=.normal∧Cont F K Q a w) l a w:=by
 intro l
 induction l with
 | nil=>intro σ G a w h hh;exact⟨rfl,_,⟨G,h⟩,hh⟩
 | cons i rest ih=>
  intro σ G a w h hh
  simp only[wpOps]
  simp only[evOps] at hh
  cases ho:ops[i]? with
  | none=>simp only[ho] at hh ⊢;exact ih σ G a w h hh
  | some o=>
   simp only[ho] at hh ⊢
   obtain⟨σr,wanted,hg,hh⟩:=guarded_holds hh
   rw[hg.wanted_ok h]
   have hr:=hg.retold h h
   cases wanted with
   | true=>
    simp only[if_true] at hh ⊢
    exact .inl (Oper.wp_mono (fun a1 w1 ⟨σ1,⟨G1,h1⟩,hh1⟩=>ih σ1 G1 a1 w1 h1 hh1) (step_ok (cls:=false) hE hr hh))
   | false=>
    simp only[Bool.false_eq_true,if_false] at hh ⊢
    exact ih _ G _ w (hr.skip o.dst) hh
end
end Go.D
namespace Go.D
def dirs (o:Oper):List Nat:=(o.after.toList.filter (Region.binds .any)).map (·.on)
def maskOf (acc:List Nat) (ds:List Nat):Nat:=ds.foldr (fun j s=>s ||| 2 ^ j ||| acc.getD j 0) 0
def masksGo:List Oper→List Nat→List Nat
 | [],acc=>acc
 | o::os,acc=>masksGo os (acc++[maskOf acc (dirs o)])
theorem maskOf_bit {acc ds:List Nat} {j:Nat} (h:(maskOf acc ds).testBit j=true):∃ e∈ds,j=e∨(acc.getD e 0).testBit j=true:=by
 induction ds with
 | nil=>simp[maskOf] at h
 | cons d ds ih=>
  simp only[maskOf,List.foldr_cons,Nat.testBit_or,Bool.or_eq_true] at h
  rcases h with(h|h)|h
  ·obtain⟨e,he,hh⟩:=ih h;exact⟨e,by simp[he],hh⟩
  ·grind
  ·simp_all
theorem masksGo_get:∀ (os:List Oper) (acc:List Nat),(∀ i,i<acc.length→(masksGo os acc)[i]? = acc[i]?)∧(masksGo os acc).length=acc.length+os.length ∧
 ∀ i o,os[i]? = some o→∀ j,((masksGo os acc).getD (acc.length+i) 0).testBit j=true→∃ e∈dirs o,j=e∨((masksGo os acc).getD e 0).testBit j=true:=by
 intro os
 induction os with
 | nil=>intro acc;exact⟨fun i h=>rfl,rfl,by simp⟩
 | cons o os ih=>
  intro acc
  obtain⟨h1,h2,h3⟩:=ih (acc++[maskOf acc (dirs o)])
  have hget:∀ i,i<acc.length→(masksGo os (acc++[maskOf acc (dirs o)]))[i]? = acc[i]?:=by
   intro i hi
   rw[h1 i (by simp;omega),List.getElem?_append_left hi]
  refine⟨hget,by simp[masksGo,h2];omega,fun i o' ho j hj=>?_⟩
  cases i with
  | zero=>
   simp only[List.getElem?_cons_zero,Option.some.injEq] at ho
   subst ho
   have:(masksGo (o::os) acc).getD (acc.length+0) 0=maskOf acc (dirs o):=by
    simp only[masksGo,Nat.add_zero,List.getD_eq_getElem?_getD]
    rw[h1 acc.length (by simp)]
    simp
   rw[this] at hj
   obtain⟨e,he,hh⟩:=maskOf_bit hj
   refine⟨e,he,hh.imp id fun hb=>?_⟩
   by_cases hlt:e<acc.length
   ·simp only[masksGo,List.getD_eq_getElem?_getD] at hb ⊢
    rw[hget e hlt]
    exact hb
   ·simp[List.getD_eq_getElem?_getD,List.getElem?_eq_none (by omega:acc.length≤e)] at hb
  | succ i=>
   have:=h3 i o' (by simpa using ho) j (by simpa [masksGo,Nat.add_assoc,Nat.add_comm 1] using hj)
   simpa [masksGo] using this
def wsGo:Nat→List Oper→List (Nat×Nat)
 | _,[]=>[]
 | i,o::os=>match o.dst with
  | some d=>(d,i)::wsGo (i+1) os
  | none=>wsGo (i+1) os
structure Tab where
 n:Nat
 ws:List (Nat×Nat)
 T:List Nat
def asgCut (ops:Array Oper) (T:List Nat) (i:Nat):Bool:=(match (ops[i]?).map (fun o:Oper=>o.op) with
 | some (Op.assign _)=>true
 | _=>false)&&(List.range ops.size).all fun k=>k==i||(bif decide (k<i) then(T.getD i 0).testBit k else(T.getD k 0).testBit i)
def tabOf (ops:Array Oper):Tab:=⟨ops.size,(wsGo 0 ops.toList).filter (fun p=>!asgCut ops (masksGo ops.toList []) p.2),masksGo ops.toList []⟩
def Tab.ok (t:Tab) (S:Nat→Bool) (s:Nat):Bool:=match look t.ws s with
 | none=>true
 | some j=>S j
def Tab.bit (t:Tab) (i j:Nat):Bool:=(t.T.getD i 0).testBit j
def St.view (σ:St) (t:Tab) (S:Nat→Bool):St:={ σ with tm:=σ.tm.filter fun p=>t.ok S p.1,bx:=σ.bx.filter fun p=>t.ok S p.1,hp:=σ.hp.filter fun p=>t.ok S (p.1 / 64)}
def Tab.sees (t:Tab) (s d:Nat):Bool:=match look t.ws d with
 | none=>true
 | some i=>match look t.ws s with
  | none=>false
  | some k=>i==k||t.bit k i
def Cell.refsAll (p:Nat→Bool):Cell→Bool
 | .ref m=>p m
 | .sub m _ _ _=>p m
 | _=>true
def TV.refsAll (p:Nat→Bool):TV→Bool
 | .v _ cs=>cs.all (·.refsAll p)
 | .tup ps=>ps.all fun x=>x.2.all (·.refsAll p)
 | .eptr m _ _ _=>p m
 | .inn m _ _ _ _ _=>p m
 | .nptr m _ _ _ _ _ _ _=>p m
 | .app m _ _ _ _ _ _=>p m
 | .capd m _=>p m
 | _=>true
def Cap.boxAll (p:Nat→Bool):Cap→Bool
 | .ptr b=>p b
 | _=>true
def TV.boxAll (p:Nat→Bool):TV→Bool
 | .ptr b _=>p b
 | .lit b _ _=>p b
 | .clo _ caps=>caps.all (·.boxAll p)
 | _=>true
def segOk (t:Tab) (σ:St):Bool :=
 σ.tm.all (fun x=>x.2.refsAll (fun m=>t.sees x.1 (m / 64))&&x.2.boxAll (fun b=>t.sees x.1 b))&&σ.bx.all fun x=>x.2.all (·.refsAll fun m=>t.sees x.1 (m / 64))
theorem Cell.refsAll_ok {p:Nat→Bool} {c:Cell} {m:Nat} (h:c.refsAll p=true) (hm:c.refs m=true):p m=true:=by
 cases c<;>simp[Cell.refs] at hm<;>subst hm<;>exact h
theorem cells_refsAll {p:Nat→Bool} {cs:List Cell} {m:Nat} (h:cs.all (·.refsAll p)=true) (hm:cs.any (·.refs m)=true):p m=true:=by
 obtain⟨c,hc,hr⟩:=List.any_eq_true.1 hm
 exact Cell.refsAll_ok (List.all_eq_true.1 h c hc) hr
theorem TV.refsAll_ok {p:Nat→Bool} {x:TV} {m:Nat} (h:x.refsAll p=true) (hm:x.refs m=true):p m=true:=by
 cases x<;>simp only[TV.refs,Bool.false_eq_true] at hm
 case v a cs=>exact cells_refsAll h hm
 case tup ps=>
  obtain⟨x,hx,hr⟩:=List.any_eq_true.1 hm
  exact cells_refsAll (List.all_eq_true.1 h x hx) hr
 case eptr l k i off=>simp at hm;subst hm;exact h
 case inn l k i off t xs=>simp at hm;subst hm;exact h
 case nptr l k i off t xs i2 o2=>simp at hm;subst hm;exact h
 case app l e j tt ts t xs=>simp at hm;subst hm;exact h
 case capd l c=>simp at hm;subst hm;exact h
theorem TV.boxAll_ok {p:Nat→Bool} {x:TV} {b:Nat} (h:x.boxAll p=true) (hb:x.hasB b=true):p b=true:=by
 cases x<;>simp only[TV.hasB,Bool.false_eq_true] at hb
 case ptr c off=>simp at hb;subst hb;exact h
 case lit c n t=>simp at hb;subst hb;exact h
 case clo fn caps=>
  obtain⟨c,hc,hr⟩:=List.any_eq_true.1 hb
  have:=List.all_eq_true.1 h c hc
  cases c with
  | ptr d=>simp[Cap.hasB] at hr;subst hr;exact this
  | aptr cs=>simp[Cap.hasB] at hr
theorem look_all {α:Type} {l:List (Nat×α)} {t:Nat} {x:α} {p:Nat×α→Bool} (h:l.all p=true) (hl:look l t=some x):p (t,x)=true:=List.all_eq_true.1 h _ (mem_look hl)
theorem segOk_tm {t:Tab} {σ:St} (h:segOk t σ=true) {s:Nat} {x:TV} (hl:look σ.tm s=some x):(∀ m,x.refs m=true→t.sees s (m / 64)=true)∧∀ b,x.hasB b=true→t.sees s b=true:=by
 unfold segOk at h
 rw[Bool.and_eq_true] at h
 have:=look_all h.1 hl
 rw[Bool.and_eq_true] at this
 exact⟨fun m hm=>TV.refsAll_ok (p:=fun m=>t.sees s (m / 64)) this.1 hm,fun b hb=>TV.boxAll_ok (p:=fun b=>t.sees s b) this.2 hb⟩
theorem segOk_bx {t:Tab} {σ:St} (h:segOk t σ=true) {s:Nat} {cs:List Cell} (hl:look σ.bx s=some cs):∀ m,cs.any (·.refs m)=true→t.sees s (m / 64)=true:=by
 unfold segOk at h
 rw[Bool.and_eq_true] at h
 exact fun m hm=>cells_refsAll (p:=fun m=>t.sees s (m / 64)) (look_all h.2 hl) hm
def Tab.Closed (t:Tab) (S:Nat→Bool):Prop:=∀ k,S k=true→∀ j,t.bit k j=true→S j=true
theorem sees_no {t:Tab} {S:Nat→Bool} (hc:t.Closed S) {s d i:Nat} (hi:look t.ws d=some i) (hS:S i=false) (hs:t.ok S s=true):t.sees s d=false:=by
 unfold Tab.sees
 rw[hi]
 dsimp only
 unfold Tab.ok at hs
 cases e:look t.ws s with
 | none=>rfl
 | some k=>
  rw[e] at hs
  dsimp only at hs ⊢
  rw[Bool.or_eq_false_iff]
  constructor
  ·grind
  ·cases hb:t.bit k i with
   | false=>rfl
   | true=>rw[hc k hs i hb] at hS;cases hS
theorem look_view_tm {σ:St} {t:Tab} {S:Nat→Bool} {s:Nat}:look (σ.view t S).tm s=if t.ok S s then look σ.tm s else none:=look_filter (fun s=>t.ok S s) σ.tm s
theorem look_view_bx {σ:St} {t:Tab} {S:Nat→Bool} {s:Nat}:look (σ.view t S).bx s=if t.ok S s then look σ.bx s else none:=look_filter (fun s=>t.ok S s) σ.bx s
theorem look_view_hp {σ:St} {t:Tab} {S:Nat→Bool} {l:Nat}:look (σ.view t S).hp l=if t.ok S (l / 64) then look σ.hp l else none:=look_filter (fun l=>t.ok S (l / 64)) σ.hp l
def St.merge (σ:St) (d:Option Nat) (σ':St):St:=match d with
 | none=>σ
 | some d=>{ σ with tm:=D.put σ.tm d (σ'.get d),bx:=σ'.bx.filter (fun p=>p.1==d)++σ.bx.filter (fun p=>!(p.1==d)),hp:=σ'.hp.filter (fun p=>p.1 / 64==d)++σ.hp.filter (fun p=>!(p.1 / 64==d))}
theorem look_part {α:Type} (q:Nat→Bool) (l r:List (Nat×α)) (t:Nat):look (l.filter (fun p=>q p.1)++r.filter fun p=>!q p.1) t=if q t then look l t else look r t:=by
 rw[look_append,look_filter q l t,look_filter (fun t=>!q t) r t]
 grind
section
variable {P:Program} {E:Env} {F:Fr P} {G G':Gh} {σ σ' σb:St} {a a':Act} {w w':World} {o:Oper} {K:St→Out} {Q:Post} {Qx:Exit→Act→World→Prop} {t:Tab}
theorem merge_tm {d s:Nat}:look (σ.merge (some d) σ').tm s=if s=d then some (σ'.get d) else look σ.tm s:=look_put σ.tm d s (σ'.get d)
theorem merge_bx {d s:Nat}:look (σ.merge (some d) σ').bx s=if s=d then look σ'.bx s else look σ.bx s:=by
 have:=look_part (fun p=>p==d) σ'.bx σ.bx s
 simpa [St.merge] using this
theorem merge_hp {d l:Nat}:look (σ.merge (some d) σ').hp l=if l / 64=d then look σ'.hp l else look σ.hp l:=by
 have:=look_part (fun p=>p / 64==d) σ'.hp σ.hp l
 simpa [St.merge] using this
theorem RG.weaken (h:RG F G σ a w) (h1:∀ s x,look σ'.tm s=some x→∃ y,look σ.tm s=some y∧∀ v,TVR w G y v→TVR w G x v) (h2:∀ s cs,look σ'.bx s=some cs→look σ.bx s=some cs) (h3:∀ l T,look σ'.hp l=some T→look σ.hp l=some T)
 (h4:σ'.fb=σ.fb) (h5:σ'.fl=σ.fl) (h6:σ'.nt=σ.nt):RG F G σ' a w :=
 ⟨fun s x hx=>let ⟨y,hy,hi⟩:=h1 s x hx;hi _ (h.tm s y hy),fun s cs hc=>h.bx s cs (h2 s cs hc),fun l T hl=>h.hp l T (h3 l T hl),h.lt,h.os,h.tape,h.output,h.size,h.keep,
  fun b β hb=>by rw[h4];exact h.fb b β hb,fun l v hl=>by rw[h5];exact h.fl l v hl,by rw[h6];exact h.nt,h.df⟩
def Imp (x y:TV):Prop:=∀ (w:World) (G:Gh) (v:Value),TVR w G x v→TVR w G y v
theorem merge_ok {S:Nat→Bool} {i d:Nat} {v:Value} (hc:t.Closed S) (hS:S i=false) (hw:look t.ws d=some i) (hu:∀ s,look t.ws s=some i→s=d) (hb:segOk t σb=true) (h:RG F G (σb.view t S) a w) (hd:d<a.tmps.size) (h':RG F G' σ' (a.put (some d) v) w') (he:Ext (some d) G a w G' (a.put (some d) v) w')
 (e1:∀ x,look σb.tm d=some x→Imp (σ'.get d) x) (e2:∀ cs,look σb.bx d=some cs→look σ'.bx d=some cs) (e3:∀ l T,l / 64=d→look σb.hp l=some T→look σ'.hp l=some T) :
 RG F G' (σb.view t (fun k=>S k||k==i)) (a.put (some d) v) w':=by
 have okS:∀ s,s≠d→t.ok (fun k=>S k||k==i) s=true→t.ok S s=true:=by
  intro s hsd hs
  unfold Tab.ok at hs ⊢
  cases e:look t.ws s with
  | none=>rfl
  | some k=>
   rw[e] at hs
   have:¬ k=i:=fun e'=>hsd (hu s (e'▸e))
   simpa [this] using hs
 have fo:FreeOk w w' G G':=⟨fun g hg=>⟨he.sm (h.lt g (by simp[hg])) (by simp[hg]),(he.ow g (by simp[hg])).trans hg⟩,fun g hg=>(he.ow g (by simp[hg])).trans hg⟩
 have mo:∀ m,MemOk w w' G G' m:=fun m g hg=>⟨he.sm (h.lt g (by simp[hg])) (by simp[hg]),(he.ow g (by simp[hg])).trans hg⟩
 have hvs:∀ m,m / 64≠d→G'.hv m=G.hv m:=fun m hm=>he.hv m fun d0 hd0=>by injection hd0 with hd0;subst hd0;omega
 have ne:∀ s m,t.ok S s=true→t.sees s m=true→m≠d:=by
  intro s m hs hm e
  subst e
  rw[sees_no hc hw hS hs] at hm
  cases hm
 constructor
 case tm=>
  intro s x hl
  rw[look_view_tm] at hl
  split at hl
  ·rename_i hs
   by_cases hsd:s=d
   ·subst hsd
    exact e1 x hl _ _ _ (get_ok h' s)
   ·have hs':=okS s hsd hs
    have hx:=h.tm s x (by rw[look_view_tm,if_pos hs'];exact hl)
    have hget:(a.put (some d) v).tmps.getD s undef=a.tmps.getD s undef:=by simp[Act.put,Array.getElem?_setIfInBounds_ne (Ne.symm hsd)]
    rw[hget]
    obtain⟨q1,q2⟩:=segOk_tm hb hl
    exact TV.carry fo (fun m hm=>hvs m (ne s _ hs' (q1 m hm))) (fun m _=>mo m) (fun b hb'=>he.be b fun e=>by injection e with e;exact ne s b hs' (q2 b hb') e.symm) hx
  ·cases hl
 case bx=>
  intro s cs hl
  rw[look_view_bx] at hl
  split at hl
  ·rename_i hs
   by_cases hsd:s=d
   ·subst hsd
    exact h'.bx s cs (e2 cs hl)
   ·have hs':=okS s hsd hs
    obtain⟨k1,r,e,k2,k3⟩:=h.bx s cs (by rw[look_view_bx,if_pos hs'];exact hl)
    have hbe:G'.be s=G.be s:=he.be s fun e=>by injection e with e;exact hsd e.symm
    rw[hbe]
    refine⟨(he.ow _ (by simp[k1])).trans k1,r,e,(he.sm (h.lt _ (by simp[k1])) (by simp[k1])).trans k2,Cells.carry fo (fun m hm=>hvs m (ne s _ hs' (segOk_bx hb hl m hm))) (fun m _=>mo m) k3⟩
  ·cases hl
 case hp=>
  intro l T hl
  rw[look_view_hp] at hl
  split at hl
  ·rename_i hs
   by_cases hsd:l / 64=d
   ·exact h'.hp l T (e3 l T hsd hl)
   ·have hs':=okS _ hsd hs
    rw[hvs l hsd]
    exact(h.hp l T (by rw[look_view_hp,if_pos hs'];exact hl)).frame fun g hg _=>mo l g hg
  ·cases hl
 case lt=>exact h'.lt
 case os=>exact h'.os
 case tape=>exact h'.tape
 case output=>exact h'.output
 case size=>exact h'.size
 case keep=>exact h'.keep
 case fb=>exact fun b β hb'=>⟨(h'.fb b β hb').1,(h.fb b β hb').2⟩
 case fl=>exact fun l u hl=>⟨(h'.fl l u hl).1,(h.fl l u hl).2⟩
 case nt=>exact(show(a.put (some d) v).tmps.size=a.tmps.size by simp[Act.put]).trans h.nt
 case df=>exact h'.df
end
end Go.D
