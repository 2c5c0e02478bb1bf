/-
  Contracts of functions that the law of FnExactTransfer reaches, part 3.
-/
import Derived.Test.YtjgmhdnhlpckeaaGreatDoorVPTransfer2
import Derived.Test.YtjgmhdnhlpckeaaGreatDoorVLe
import Derived.WalkKit
import Derived.BigGuard
import Derived.Deep.QuietTactic
import Derived.BigQuiet
import Derived.Lib.ConvBytes
import Derived.Sort.WalkC
import Derived.Handy
import Derived.Lib.Overlaps
import Derived.Lib.AppendZerosOnto
import Derived.Laws.Externs
import Derived.Shelf.RegionOpenPlain
import Derived.Defers
import Derived.Laws.Pointers
import Derived.Laws.LoneSync
import Derived.RegionCalls
import Derived.ChangeAlike
import Derived.LoopN
import Derived.Lib.SliceRun
import Derived.Shelf.Strconv.AtoiAll
import Derived.Shelf.Small.Strs
import Derived.Test.YtjgmhdnhlpckeaaGreatDoorRows
import Derived.Test.YtjgmhdnhlpckeaaGreatDoorCards
import Derived.LaidMore
import Derived.Lay
import Derived.SevenTiedAt
import Derived.WalkKit
import Derived.ProofKit
import Derived.OpenShut
namespace Go.Proofs.YtjgmhdnhlpckeaaGreatDoor.fnExactTransfer
open Go.Proofs.YtjgmhdnhlpckeaaGreatDoor
open Go.D Go.Proofs.Tryz
set_option maxRecDepth 100000
set_option maxHeartbeats 2000000
set_option linter.unusedVariables false
set_option linter.unusedSimpArgs false
def AmP:=Ajn.a AK<|Fct.p (KP [2,3,4,5,6,7,8] [26,43,55]) (fun⟨p,a,_⟩=>lv [(3,Cq p a)]) Ajn.2 func252 (by
 rintro⟨(p:SPage),(a:SAddr),_⟩ hp;refine ho (let q11_:=(⟨#[]⟩:ByteArray);.cl fCopyPage (p,()) fun z2=>lpx (Cq p a) ((0:Int),(p,(a,(default,(z2.1,()))))) fun(y2:Int×SPage×SAddr×SPage×SPage×PUnit) bk2=>let q15_:=inB y2.1 y2.2.1.bg.length;let q10_:=decide (y2.1<(y2.2.1.bg.length:Int));let q7_:=y2.2.1.bg.getD y2.1.toNat default;let q6_:=y2.1.toNat-0;let q14_:=[]++cut y2.2.2.2.2.1.bg 0 q6_;let q12_:=0+q6_<=y2.2.2.2.2.1.bg.length;let q8_:=BK (0+(cut y2.2.2.2.2.1.bg 0 q6_).length) 64;let q5_:=(⟨y2.2.2.1,true,(2:Int),q11_⟩:SModule);let q4_:=(⟨y2.2.2.1,false,(0:Int),q11_⟩:SModule);let q3_:=0<=y2.1/\y2.1<=(y2.2.2.2.2.1.bg.length:Int);let q2_:=y2.2.2.2.2.1.bg.length-y2.1.toNat;let q13_:=cut y2.2.2.2.2.1.bg y2.1.toNat q2_;let q9_:=y2.1.toNat+q2_<=y2.2.2.2.2.1.bg.length;let q0_:Out:=.cl fCheckRequest (y2.2.1.bi,(⟨(5:Int),y2.2.2.1,y2.2.1.addr.host,q11_⟩:SRequest),()) fun(z4:Int×PUnit)=>.br (z4.1 != 1) (.ob q3_<|.ob q12_<|.ob q8_<|.ob (True)<|.ob (BK (q14_.length+[q5_].length) 64)<|.ob q3_<|.ob q9_<|.ob (BK (([]++cut y2.2.2.2.2.1.bg 0 q6_++[q5_]).length+q13_.length) 64)<|.lf AK ({y2.2.2.2.2.1 with bg:=[]++cut y2.2.2.2.2.1.bg 0 q6_++[q5_]++cut y2.2.2.2.2.1.bg y2.1.toNat q2_},())) (.ob q3_<|.ob q12_<|.ob q8_<|.ob (True)<|.ob (BK (q14_.length+[q4_].length) 64)<|.ob q3_<|.ob q9_<|.ob (BK (([]++cut y2.2.2.2.2.1.bg 0 q6_++[q4_]).length+q13_.length) 64)<|.lf AK ({y2.2.2.2.2.1 with bg:=[]++cut y2.2.2.2.2.1.bg 0 q6_++[q4_]++cut y2.2.2.2.2.1.bg y2.1.toNat q2_},()));let q1_:Out:=.br q10_ (.ob q15_<|.br (q7_.to.host==y2.2.2.1.host&&(q7_.to.path==y2.2.2.1.path&&true)) (.lf AK (y2.2.2.2.2.1,())) q0_) q0_;.br q10_ (.ob q15_<|.cl AT (q7_.to,y2.2.2.1,()) fun(z3:Int×PUnit)=>.br (decide (z3.1<0)) (.ob (bk2 (w1 y2.1,(y2.2.1,(y2.2.2.1,(y2.2.2.2.1,(y2.2.2.2.2.1,()))))))<|.ok) q1_) q1_) ?_;refine Ae ?_ fun o1=>(Aw ?_ fun(y2:Int×SPage×SAddr×SPage×SPage×PUnit) i2=>Ab (fun h3=>Aa ?_ fun o4=>Ae trivial fun _=>(Ab (fun h5=>Aa ?_ fun o6=>trivial) (fun h5=>Ab (fun h7=>Aa ?_ fun o8=>Ab (fun h9=>lfY ?_) (fun h9=>Ae ?_ fun o10=>(Ab (fun h11=>Aa ?_ fun o12=>Aa ?_ fun o13=>Aa ?_ fun o14=>Aa trivial fun _=>Aa ?_ fun o15=>Aa ?_ fun o16=>Aa ?_ fun o17=>Aa ?_ fun o18=>lfY ?_) (fun h11=>Aa ?_ fun o19=>Aa ?_ fun o20=>Aa ?_ fun o21=>Aa trivial fun _=>Aa ?_ fun o22=>Aa ?_ fun o23=>Aa ?_ fun o24=>Aa ?_ fun o25=>lfY ?_)))) (fun h7=>Ae ?_ fun o26=>(Ab (fun h27=>Aa ?_ fun o28=>Aa ?_ fun o29=>Aa ?_ fun o30=>Aa trivial fun _=>Aa ?_ fun o31=>Aa ?_ fun o32=>Aa ?_ fun o33=>Aa ?_ fun o34=>lfY ?_) (fun h27=>Aa ?_ fun o35=>Aa ?_ fun o36=>Aa ?_ fun o37=>Aa trivial fun _=>Aa ?_ fun o38=>Aa ?_ fun o39=>Aa ?_ fun o40=>Aa ?_ fun o41=>lfY ?_)))))) (fun h3=>Ab (fun h42=>Aa ?_ fun o43=>Ab (fun h44=>lfY ?_) (fun h44=>Ae ?_ fun o45=>(Ab (fun h46=>Aa ?_ fun o47=>Aa ?_ fun o48=>Aa ?_ fun o49=>Aa trivial fun _=>Aa ?_ fun o50=>Aa ?_ fun o51=>Aa ?_ fun o52=>Aa ?_ fun o53=>lfY ?_) (fun h46=>Aa ?_ fun o54=>Aa ?_ fun o55=>Aa ?_ fun o56=>Aa trivial fun _=>Aa ?_ fun o57=>Aa ?_ fun o58=>Aa ?_ fun o59=>Aa ?_ fun o60=>lfY ?_)))) (fun h42=>Ae ?_ fun o61=>(Ab (fun h62=>Aa ?_ fun o63=>Aa ?_ fun o64=>Aa ?_ fun o65=>Aa trivial fun _=>Aa ?_ fun o66=>Aa ?_ fun o67=>Aa ?_ fun o68=>Aa ?_ fun o69=>lfY ?_) (fun h62=>Aa ?_ fun o70=>Aa ?_ fun o71=>Aa ?_ fun o72=>Aa trivial fun _=>Aa ?_ fun o73=>Aa ?_ fun o74=>Aa ?_ fun o75=>Aa ?_ fun o76=>lfY ?_)))))
 all_goals
  have hl:p.bg.length<=1090000000000:=by have h1:szPage p<=1090000000000:=hp.1;have:=Ad Ar p.bg;simp only[szPage] at h1;omega
  have hpo:szPolicy p.bi<=1090000000000/\p.addr.host.size<=50000000000:=by have h1:szPage p<=1090000000000:=hp.1;have h2:p.addr.host.size<=4000000000:=hp.2.1;simp only[szPage,szAddr] at h1;omega
  try simp only[AA] at *
  try simp only[Cq,AK,fCheckRequest,AT,fCopyPage,std,Nat.reduceAdd,fCopyPage,AT,fCheckRequest] at *
 all_goals first|trivial|omega|exact⟨by omega,by omega,by simp⟩|skip
 all_goals try (obtain⟨⟨⟨⟨⟨a1,a2,a3⟩,e1⟩,e2⟩,e3⟩,e4⟩:=i2;simp only[e1,e2,e3,e4,Dk,Qa7,Qb0,Nat.sub_zero,Qg1] at *)
 all_goals first|trivial|omega|exact⟨by omega,by simp only[szRequest,szAddr] at *;show _+_+0<=_;omega⟩|skip
 all_goals first|(have hc:(cut p.bg 0 y2.1.toNat).length=y2.1.toNat:=by(simp only[cut,Qc1,Qd6];omega))|skip
 all_goals try simp only[hc,Qd4,Qa4,Qa6,Qb8] at *
 all_goals first|trivial|omega|(simp only[cut,Qc1,Qd6];omega)|skip
 all_goals first|(have e:=MR (a:=a) (l:=p.bg) (i:=y2.1.toNat) (by omega);first|rw[Qa2 (by omega)] at e|rw[Qa3 (by omega)] at e)|(have e:=J2 (a:=a) (l:=p.bg) (i:=y2.1.toNat) (by omega))
 all_goals first|(rw[Ah (by omega),show(y2.1+1).toNat=y2.1.toNat+1 by omega];simp only[Qe1];exact⟨⟨by omega,by omega,by omega⟩,by omega⟩)|skip
 all_goals have e5:askFrom a p.bg=y2.1.toNat:=by omega
 all_goals first|(rw[Ph e5 (by omega) (by assumption)])|(rw[Wl e5 (by omega) (by first|exact .inr (by assumption)|exact .inl (by omega)) _ (by first|exact O5 (by assumption)|exact P7 (by assumption))]))
open Go.RowKit in
theorem Abs {P:Program} (w:World) (dT sT ty elem:TypeId) (g o dLen dCap:Nat) (a:Addr) (sLen sCap k:Nat) (cur:Array Value) (t:TypeId) (cs:List Value)
 (hu:P.underlying dT=some (.slice elem)) (hs:(P.info? elem).map (·.size)=some k)
 (hg:w.heap[g]? = some (.cells cur t (0,0))) (hn:cs.length=Nat.min sLen dLen*k)
 (hsrc:∀ j v,cs[j]? = some v->w.cell? (a.add j)=some v) (hfit:o+cs.length<=cur.size) (h1:∀ v∈cs,v.oneCell'=true) :
 (Builtin.copy_ #[dT,sT] ty #[.slice (some ⟨g,o,none⟩) dLen dCap,.slice (some a) sLen sCap]).run P w =
  .ok (goInt (Nat.min sLen dLen)) (w.setRow g (cur.toList.take o++cs++cur.toList.drop (o+cs.length)).toArray):=by
 have hl:=run_loadCells_list (P:=P) w a cs hsrc;have hst:=run_storeCells_at P g o t cs 0 cur w hg (by simpa using hfit) h1;cases hq:P.info? elem with
 | none=>simp[hq] at hs
 | some i=>
  have hi:i.size=k:=by simpa [hq] using hs
  simp[Builtin.copy_,run_underlying hu,Builtin.lenOf,Builtin.firstCells,sizeOf,typeInfo,hq,hi,<-hn,hl,hst]
open Go.RowKit in
theorem Acv {P:Program} (w:World) {ops:Array Oper} {rest:List Oper} {o:Oper} {a:Act} {Q:Exit->Act->World->Prop} (hgd:o.guard=none) (d s:Operand) (t t':TypeId)
 (ho:o.op=.call { callee:=.builtin .copy,args := #[d,s],argTypes := #[t,t']}) (v u:Value) (hd:a.eval d=v) (hs:a.eval s=u) {v':Value} {w':World}
 (hr:(Builtin.copy_ #[t,t'] o.type #[v,u]).run P w=.ok v' w') (h:wpList P ops Q rest (a.put o.dst v') w'):wpList P ops Q (o::rest) a w :=
 wpList_plain hgd fun K hK=>by unfold Oper.wp execOp;simp only[ho,resolve,invoke,builtin,Sem.run_bind,Sem.run_pure,Result.andThen_ok,List.map_toArray,Qc8,List.map_nil,hd,hs,hr];exact hK _ _ h
open Go.RowKit in
theorem Aco {P:Program} {ops:Array Oper} {o:Oper} {a:Act} {w:World} {K:Act->World->Prop} {Q:Exit->Act->World->Prop} {E:Prop}
 (hg:o.guard=none) (d x:Operand) (dT sT:TypeId) (hop:o.op=Op.call { callee:=Callee.builtin Builtin.copy,args := #[d,x],argTypes := #[dT,sT]})
 (v u:Value) (hd:a.eval d=v) (hx:a.eval x=u) {v':Value} {w':World} (hr:(Builtin.copy_ #[dT,sT] o.type #[v,u]).run P w=.ok v' w') (hK:K (a.put o.dst v') w') :
 if Region.wanted o (yielded ops a.tmps)=true then Oper.wp P o a w K Q else E:=by
 have hw:Region.wanted o (yielded ops a.tmps)=true:=by simp[Region.wanted,hg]
 rw[Qa2 hw];unfold Oper.wp;simp[execOp,hop,resolve,invoke,builtin,hd,hx,hr,Result.andThen];exact hK
open Go.RowKit in
def insRow (row:Array Value) (off n m i:Nat) (vs:List Value) (o:Nat) (row':Array Value):Prop:=∀ x,x<(n+m)*5->row'[o+x]? = if x<i*5 then row[off+x]? else if x<(i+m)*5 then vs[x-i*5]? else row[off+x-m*5]?
open Go.RowKit in
theorem ZX (w:World) (b off n c i vb voff m vc:Nat) (row:Array Value) (e:TypeId) (vs:List Value) (hg:w.heap[b]? = some (.cells row e (0,0))) (hrow:off+c*5<=row.size) (hi:i<n) (hm:0<m) (hroom:n+m<=c) (hnm:n+m<=1100000000001)
 (hvl:vs.length=m*5) (hvb:vb≠b) (hvs:∀ j v,vs[j]? = some v->w.cell? ⟨vb,voff+j,none⟩=some v) (h1v:∀ v∈vs,v.oneCell'=true) (h1c:∀ x v,x<n*5->row[off+x]? = some v->v.oneCell'=true)
 (tA:TypeId) (kA:Nat) (hsa:w.shape? vb=some (tA,kA)) (hfa:w.frozen? ⟨vb,voff,none⟩=false) (hfe:w.frozen? ⟨vb,kA,none⟩=false) :
 Calls Tryz.prog 293 #[.slice (some ⟨b,off,none⟩) n c,.int .i64 i,.slice (some ⟨vb,voff,none⟩) m vc] w fun e' w'=>
  e'=.returned (.slice (some ⟨b,off,none⟩) (n+m) c)/\∃ row',w'=w.drew.setRow b row'/\row'.size=row.size/\insRow row off n m i vs off row':=by
 have u66:Tryz.prog.underlying 66=some (.slice 253):=by kernel_rfl
 have z224:(Tryz.prog.info? 253).map (·.size)=some 5:=by kernel_rfl
 have y224:∀ w,(Go.sizeOf 253).run Tryz.prog w=.ok 5 w:=fun w=>by kernel_rfl
 have hz1:¬ ((m:Int)=0):=by omega
 have hz2:¬ ((i:Int)=(n:Int)):=by omega
 have hsb:w.shape? b=some (e,row.size):=by simp[World.shape?,hg]
 have hov:∀ lb cb,(callFunc 345 #[.slice (some ⟨vb,voff,none⟩) m vc,.slice (some ⟨b,off+(i+m)*5,none⟩) lb cb]).run Tryz.prog w=.ok (.value (.bool false)) w:=fun lb cb=>by
  rw[run_callFunc_extern func345 (by kernel_rfl) (by kernel_rfl) (by kernel_rfl) (e:=Extern.SlicesOverlaps.overlaps #[66,66] #[4]) (by kernel_rfl),
   Lib.run_overlaps_apart w 66 4 253 u66 5 y224 ⟨vb,voff,none⟩ ⟨b,off+(i+m)*5,none⟩ m vc lb cb hvb tA e kA row.size hsa hsb (by omega) hfa hfe]
  rfl
 have hw1:IntKind.i64.wrap ((i:Int)+(m:Int))=(i:Int)+(m:Int):=by rw[IntKind.wrap_i64];omega
 have hb1:(0:Int)<=(i:Int)+(m:Int):=by omega
 have hin:i<=n:=by omega
 have htn:((i:Int)+(m:Int)).toNat=i+m:=by omega
 have hb2:¬ (c=i+m):=by omega
 have hb3:(i:Int)<=(n:Int)+(m:Int):=by omega
 have hb4:¬ (c=i):=by omega
 have hrl:row.toList.length=row.size:=Qc6;obtain⟨cs1,hcs1⟩:∃ cs1,cs1=(row.toList.drop (off+i*5)).take ((n-i)*5):=⟨_,rfl⟩;have hl1:cs1.length=(n-i)*5:=by rw[hcs1,Qc1,Qd6];omega
 have hc1:∀ j,j<(n-i)*5->cs1[j]? = row[off+i*5+j]?:=fun j hj=>by rw[hcs1,Qg0,Qa2 hj,Qe5];simp
 obtain⟨row1,hrow1⟩:∃ r,r=(row.toList.take (off+(i+m)*5)++cs1++row.toList.drop (off+(i+m)*5+cs1.length)).toArray:=⟨_,rfl⟩;have hs1:row1.size=row.size:=by rw[hrow1];simp only[List.size_toArray,Qa4,Qc1,Qd6];omega
 have hgd:w.drew.heap[b]? = some (.cells row e (0,0)):=hg;have hcp1:∀ ty dc sc,(Builtin.copy_ #[66,66] ty #[.slice (some ⟨b,off+(i+m)*5,none⟩) (n+m-(i+m)) dc,.slice (some ⟨b,off+i*5,none⟩) (n+m-i) sc]).run Tryz.prog w.drew=.ok (goInt (n-i:Nat)) (w.drew.setRow b row1):=fun ty dc sc=>by
  have hmin:Nat.min (n+m-i) (n+m-(i+m))=n-i:=by show min _ _=_;omega
  have:=Abs (P:=Tryz.prog) w.drew 66 66 ty 253 b (off+(i+m)*5) (n+m-(i+m)) dc ⟨b,off+i*5,none⟩ (n+m-i) sc 5 row e cs1 u66 z224 hgd (by rw[hmin];exact hl1)
   (fun j v hj=>by have hj2:j<cs1.length:=(List.getElem?_eq_some_iff.1 hj).1;rw[Addr.add_lit];show w.cell? ⟨b,off+i*5+j,none⟩=some v;rw[<-hj,hc1 j (by omega)];simp[World.cell?,hg]) (by omega)
   (fun v hv=>by obtain⟨j,hj⟩:=List.getElem?_of_mem hv;have hj2:j<cs1.length:=(List.getElem?_eq_some_iff.1 hj).1;rw[hc1 j (by omega)] at hj;exact h1c (i*5+j) v (by omega) (by rw[<-hj];congr 1;omega))
  rw[hmin,<-hrow1] at this;exact this
 obtain⟨row2,hrow2⟩:∃ r,r=(row1.toList.take (off+i*5)++vs++row1.toList.drop (off+i*5+vs.length)).toArray:=⟨_,rfl⟩;have hs2:row2.size=row.size:=by rw[hrow2];simp only[List.size_toArray,Qa4,Qc1,Qd6,Qc6];omega
 have hg1:(w.drew.setRow b row1).heap[b]? = some (.cells row1 e (0,0)):=setRow_heap w.drew b row row1 e (0,0) hgd;have hcp2:∀ ty dc,(Builtin.copy_ #[66,66] ty #[.slice (some ⟨b,off+i*5,none⟩) (n+m-i) dc,.slice (some ⟨vb,voff,none⟩) m vc]).run Tryz.prog (w.drew.setRow b row1)=.ok (goInt m) (w.drew.setRow b row2):=fun ty dc=>by
  have hmin:Nat.min m (n+m-i)=m:=by show min _ _=_;omega
  have:=Abs (P:=Tryz.prog) (w.drew.setRow b row1) 66 66 ty 253 b (off+i*5) (n+m-i) dc ⟨vb,voff,none⟩ m vc 5 row1 e vs u66 z224 hg1 (by rw[hmin];exact hvl)
   (fun j v hj=>by have:=hvs j v hj;rw[Addr.add_lit];rw[World.cell?] at this ⊢;rw[setRow_other w.drew b vb row1 hvb];exact this) (by rw[hs1];omega) h1v
  rw[hmin,<-hrow2,setRow_setRow] at this;exact this
 have hr1l:row1.toList.length=row1.size:=Qc6;have hins:insRow row off n m i vs off row2:=by
  intro x hx;have e1:row2[off+x]? = if off+x<off+i*5 then row1[off+x]? else if off+x<off+i*5+vs.length then vs[off+x-(off+i*5)]? else row1[off+x]?:=by rw[hrow2,List.getElem?_toArray,FE (by omega)];simp
  have e2:row1[off+x]? = if off+x<off+(i+m)*5 then row[off+x]? else if off+x<off+(i+m)*5+cs1.length then cs1[off+x-(off+(i+m)*5)]? else row[off+x]?:=by rw[hrow1,List.getElem?_toArray,FE (by omega)];simp
  rw[e1];by_cases h1:x<i*5
  ·rw[Qa2 (by omega),Qa2 h1,e2,Qa2 (by omega)]
  ·rw[Qa3 (by omega),Qa3 h1];by_cases h2:x<(i+m)*5
   ·rw[Qa2 (by omega),Qa2 h2];congr 1;omega
   ·rw[Qa3 (by omega),Qa3 h2,e2,Qa3 (by omega),Qa2 (by omega),hc1 _ (by omega)];congr 1;omega
 clear hr1l hrl hrow2 hrow1 hg1 hgd hcs1 hc1 hl1 hs1
 go_enter func293,Tryz.ntmps293
 go_wp2_with (simp only[hov])
 have mixed:Tryz.prog.follows Departure.mixedOrders=true:=by kernel_rfl
 go_region_law_o (refine Aco rfl _ _ 66 66 rfl (.slice (some ⟨b,off+(i+m)*5,none⟩) (n+m-(i+m)) (c-(i+m))) (.slice (some ⟨b,off+i*5,none⟩) (n+m-i) (c-i)) (by simp[Act.eval,Act.put]) (by simp[Act.eval,Act.put]) (hcp1 66 (c-(i+m)) (c-i)) ?_)
 go_wp2_with (at_builtin;refine Acv _ rfl _ _ 66 66 rfl _ _ rfl rfl (hcp2 _ _) ?_)
 go_ret
 exact⟨rfl,row2,rfl,hs2,hins⟩
open Go.RowKit in
theorem AbK (w:World) (b off n c i vb voff m vc:Nat) (row:Array Value) (e:TypeId) (vs:List Value) (hg:w.heap[b]? = some (.cells row e (0,0))) (hnc:n<=c) (hrow:off+c*5<=row.size) (hi:i<n) (hm:0<m) (hroom:c<n+m) (hnm:n+m<=1100000000001)
 (hvl:vs.length=m*5) (hvb:vb≠b) (hlv:vb<w.heap.size) (hvs:∀ j v,vs[j]? = some v->w.cell? ⟨vb,voff+j,none⟩=some v) (h1v:∀ v∈vs,v.oneCell'=true) (h1c:∀ x v,x<n*5->row[off+x]? = some v->v.oneCell'=true) :
 Calls Tryz.prog 293 #[.slice (some ⟨b,off,none⟩) n c,.int .i64 i,.slice (some ⟨vb,voff,none⟩) m vc] w fun e' w'=>
  ∃ c' row',n+m<=c'/\c'*5<=row'.size/\e'=.returned (.slice (some ⟨w.heap.size,0,none⟩) (n+m) c')/\Neu w w'/\w'.heap[w.heap.size]? = some (.cells row' 253 (0,0))/\insRow row off n m i vs 0 row':=by
 have u66:Tryz.prog.underlying 66=some (.slice 253):=by kernel_rfl
 have u3:Tryz.prog.underlying 3=some (.int .i64):=by kernel_rfl
 have z224:(Tryz.prog.info? 253).map (·.size)=some 5:=by kernel_rfl
 have i224:(Tryz.prog.info? 253).map (fun i=>(i.size,i.bytes,i.zero.map (·.cells.size)))=some (5,64,some 5):=by kernel_rfl
 obtain⟨i0,z0,hi0,hz0,hs0,hb0,hzc⟩:∃ i z,Tryz.prog.info? 253=some i/\i.zero=some z/\i.size=5/\i.bytes=64/\z.cells.size=5:=by
  cases hq:Tryz.prog.info? 253 with
  | none=>rw[hq] at i224;simp at i224
  | some j=>
   rw[hq] at i224;simp only[Qb9,Qa0,Qb4] at i224;obtain⟨a1,a2,a3⟩:=i224;cases hz:j.zero with
   | none=>rw[hz] at a3;simp at a3
   | some z=>rw[hz] at a3;exact⟨j,z,rfl,hz,a1,a2,by simpa using a3⟩
 have hz1:¬ ((m:Int)=0):=by omega
 have hz2:¬ ((i:Int)=(n:Int)):=by omega
 have hz3:(c:Int)<(n:Int)+(m:Int):=by omega
 have hbw:b<w.heap.size:=by
  rcases Nat.lt_or_ge b w.heap.size with h|h
  ·exact h
  ·rw[Array.getElem?_eq_none h] at hg;cases hg
 have hrl:row.toList.length=row.size:=Qc6;obtain⟨cs0,hcs0⟩:∃ cs,cs=(row.toList.drop off).take (i*5):=⟨_,rfl⟩;have hl0:cs0.length=i*5:=by rw[hcs0,Qc1,Qd6];omega
 have hc0:∀ j,j<i*5->cs0[j]? = row[off+j]?:=fun j hj=>by rw[hcs0,Qg0,Qa2 hj,Qe5];simp
 obtain⟨cs1,hcs1⟩:∃ cs1,cs1=(row.toList.drop (off+i*5)).take ((n-i)*5):=⟨_,rfl⟩;have hl1:cs1.length=(n-i)*5:=by rw[hcs1,Qc1,Qd6];omega
 have hc1:∀ j,j<(n-i)*5->cs1[j]? = row[off+i*5+j]?:=fun j hj=>by rw[hcs1,Qg0,Qa2 hj,Qe5];simp
 have hik:i+(n+m-i)=n+m:=by omega
 have hold:(Builtin.firstCells i0.size i (.slice (some ⟨b,off,none⟩) i c)).run Tryz.prog w.drew=.ok cs0.toArray w.drew:=by
  rw[hs0];exact run_firstCells_some w.drew 5 i ⟨b,off,none⟩ i c cs0 hl0 (fun j v hj=>by have hj2:j<cs0.length:=(List.getElem?_eq_some_iff.1 hj).1;rw[Addr.add_lit,<-hj,hc0 j (by omega)];show w.cell? _=_;simp[World.cell?,hg])
 have hkk:(n:Int)+(m:Int)-(i:Int)=((n+m-i:Nat):Int):=by omega
 have hrz:∀ ty,(Builtin.append_ #[66,3] ty #[.slice (some ⟨b,off,none⟩) i c,.int .i64 ((n:Int)+(m:Int)-(i:Int))]).run Tryz.prog w =
  .ok (.slice (some ⟨w.heap.size,0,none⟩) (n+m) (grownCap w (n+m) c 253)) (w.drew.alloc (.cells (cs0.toArray++Builtin.zeroCells z0.cells (n+m-i)++Builtin.zeroCells z0.cells (grownCap w (n+m) c 253-(n+m))) 253)):=fun ty=>by
  have h:=Lib.run_append_grow_zeros w 66 3 ty 253 i0 z0 .i64 .i64 u66 u3 hi0 hz0 (some ⟨b,off,none⟩) i c cs0 hold (n+m-i) (by omega) (by omega) (by omega) (by omega) (by rw[hb0];omega) (by rw[hb0,hik];exact growslice_fits hroom (by omega));rw[hik] at h;rw[hkk];exact h
 obtain⟨cc,hcc⟩:∃ cc,cc=grownCap w (n+m) c 253:=⟨_,rfl⟩;have hge:n+m<=cc:=by rw[hcc];exact grownCap_ge w _ _ _
 obtain⟨R0,hR0⟩:∃ R,R=cs0.toArray++Builtin.zeroCells z0.cells (n+m-i)++Builtin.zeroCells z0.cells (cc-(n+m)):=⟨_,rfl⟩;rw[<-hcc,<-hR0] at hrz;have hRs:R0.size=cc*5:=by rw[hR0];simp only[Array.size_append,size_zeroCells,List.size_toArray,hl0,hzc];omega
 have hR0c:∀ x,x<i*5->R0[x]? = row[off+x]?:=fun x hx=>by rw[hR0,Array.append_assoc,Array.getElem?_append_left (by simp[hl0];omega)];rw[List.getElem?_toArray,hc0 x hx]
 have hcc63:cc<=9223372036854775807:=by have:=grownCap_le_maxLen w (n+m) c 253 (by unfold maxLen;omega);rw[<-hcc] at this;unfold maxLen at this;omega
 obtain⟨w1,hw1⟩:∃ w1,w1=w.drew.alloc (.cells R0 253):=⟨_,rfl⟩;rw[<-hw1] at hrz;have hn1:Neu w w1:=by rw[hw1];exact(Neu.refl w).drew.alloc _
 have hg1:w1.heap[w.heap.size]? = some (.cells R0 253 (0,0)):=by rw[hw1];exact heap_alloc_new w.drew _
 obtain⟨R1,hR1⟩:∃ r,r=(R0.toList.take (i*5)++vs++R0.toList.drop (i*5+vs.length)).toArray:=⟨_,rfl⟩;have hR1s:R1.size=R0.size:=by rw[hR1];simp only[List.size_toArray,Qa4,Qc1,Qd6,Qc6];omega
 have hcp1:∀ ty dc,(Builtin.copy_ #[66,66] ty #[.slice (some ⟨w.heap.size,i*5,none⟩) (n+m-i) dc,.slice (some ⟨vb,voff,none⟩) m vc]).run Tryz.prog w1=.ok (goInt m) (w1.setRow w.heap.size R1):=fun ty dc=>by
  have hmin:Nat.min m (n+m-i)=m:=by show min _ _=_;omega
  have:=Abs (P:=Tryz.prog) w1 66 66 ty 253 w.heap.size (i*5) (n+m-i) dc ⟨vb,voff,none⟩ m vc 5 R0 253 vs u66 z224 hg1 (by rw[hmin];exact hvl)
   (fun j v hj=>by have:=hvs j v hj;rw[Addr.add_lit];rw[World.cell?] at this ⊢;rw[hn1.old vb hlv];exact this) (by omega) h1v
  rw[hmin,<-hR1] at this;exact this
 obtain⟨w2,hw2⟩:∃ w2,w2=w1.setRow w.heap.size R1:=⟨_,rfl⟩;have hg2:w2.heap[w.heap.size]? = some (.cells R1 253 (0,0)):=by rw[hw2];exact setRow_heap w1 w.heap.size R0 R1 253 (0,0) hg1
 rw[<-hw2] at hcp1;have hb2:w2.drew.heap[b]? = some (.cells row e (0,0)):=by show w2.heap[b]? = _;rw[hw2,setRow_other w1 _ b R1 (by omega),hn1.old b hbw,hg]
 obtain⟨R2,hR2⟩:∃ r,r=(R1.toList.take ((i+m)*5)++cs1++R1.toList.drop ((i+m)*5+cs1.length)).toArray:=⟨_,rfl⟩;have hR2s:R2.size=R0.size:=by rw[hR2];simp only[List.size_toArray,Qa4,Qc1,Qd6,Qc6];omega
 have hcp2:∀ ty dc sc,(Builtin.copy_ #[66,66] ty #[.slice (some ⟨w.heap.size,(i+m)*5,none⟩) (n+m-(i+m)) dc,.slice (some ⟨b,off+i*5,none⟩) (n-i) sc]).run Tryz.prog w2.drew=.ok (goInt (n-i:Nat)) (w2.drew.setRow w.heap.size R2):=fun ty dc sc=>by
  have hmin:Nat.min (n-i) (n+m-(i+m))=n-i:=by show min _ _=_;omega
  have:=Abs (P:=Tryz.prog) w2.drew 66 66 ty 253 w.heap.size ((i+m)*5) (n+m-(i+m)) dc ⟨b,off+i*5,none⟩ (n-i) sc 5 R1 253 cs1 u66 z224 hg2 (by rw[hmin];exact hl1)
   (fun j v hj=>by have hj2:j<cs1.length:=(List.getElem?_eq_some_iff.1 hj).1;rw[Addr.add_lit,<-hj,hc1 j (by omega)];simp[World.cell?,hb2]) (by omega)
   (fun v hv=>by obtain⟨j,hj⟩:=List.getElem?_of_mem hv;have hj2:j<cs1.length:=(List.getElem?_eq_some_iff.1 hj).1;rw[hc1 j (by omega)] at hj;exact h1c (i*5+j) v (by omega) (by rw[<-hj];congr 1;omega))
  rw[hmin,<-hR2] at this;exact this
 have hr0l:R0.toList.length=R0.size:=Qc6;have hr1l:R1.toList.length=R1.size:=Qc6;have hins:insRow row off n m i vs 0 R2:=by
  intro x hx;rw[Qd4];have e1:R2[x]? = if x<(i+m)*5 then R1[x]? else if x<(i+m)*5+cs1.length then cs1[x-(i+m)*5]? else R1[x]?:=by rw[hR2,List.getElem?_toArray,FE (by omega)];simp
  have e2:R1[x]? = if x<i*5 then R0[x]? else if x<i*5+vs.length then vs[x-i*5]? else R0[x]?:=by rw[hR1,List.getElem?_toArray,FE (by omega)];simp
  rw[e1];by_cases h1:x<i*5
  ·rw[Qa2 (by omega),Qa2 h1,e2,Qa2 h1,hR0c x h1]
  ·rw[Qa3 h1];by_cases h2:x<(i+m)*5
   ·rw[Qa2 h2,Qa2 h2,e2,Qa3 h1,Qa2 (by omega)]
   ·rw[Qa3 h2,Qa3 h2,Qa2 (by omega),hc1 _ (by omega)];congr 1;omega
 have hN:Neu w (w2.drew.setRow w.heap.size R2):=⟨hn1.os▸(by rw[hw2];rfl),hn1.tape▸(by rw[hw2];rfl),hn1.output▸(by rw[hw2];rfl),(by rw[hw2];exact hn1.drawn.trans (DrLe.succ _)),(by
  have:=hn1.size;have e1:(w2.drew.setRow w.heap.size R2).heap.size=w2.heap.size:=by simp[World.setRow]
  have e2:w2.heap.size=w1.heap.size:=by rw[hw2];simp[World.setRow]
  omega),fun g hgl=>by rw[setRow_other w2.drew _ g R2 (by omega)];show w2.heap[g]? = _;rw[hw2,setRow_other w1 _ g R1 (by omega)];exact hn1.old g hgl⟩
 have hg3:(w2.drew.setRow w.heap.size R2).heap[w.heap.size]? = some (.cells R2 253 (0,0)):=setRow_heap w2.drew w.heap.size R1 R2 253 (0,0) hg2;have hwi:IntKind.i64.wrap ((i:Int)+(m:Int))=(i:Int)+(m:Int):=by rw[IntKind.wrap_i64];omega
 have hb1:(0:Int)<=(i:Int)+(m:Int):=by omega
 have hin:i<=n:=by omega
 have htn:((i:Int)+(m:Int)).toNat=i+m:=by omega
 have hGi:¬ (cc=i):=by omega
 have hGim:¬ (cc=i+m):=by omega
 have hci:¬ (c=i):=by omega
 have hb3:(i:Int)<=(n:Int):=by omega
 clear hcc hr1l hr0l hR2 hR1 hg2 hg1 hw2 hw1 hb2 hR0 hold hkk hik hcs0 hc0 hl0 hcs1 hc1 hl1 hrl hR0c;have mixed:Tryz.prog.follows Departure.mixedOrders=true:=by kernel_rfl
 go_enter func293,Tryz.ntmps293
 go_wp2_with (first
  | (at_builtin;refine Lib.wpList_append_run _ rfl _ _ _ _ rfl _ _ rfl rfl _ _ (hrz _) ?_)
  | (at_builtin;refine Acv _ rfl _ _ 66 66 rfl _ _ rfl rfl (hcp1 _ _) ?_))
 go_region_law_o (refine Aco rfl _ _ 66 66 rfl (.slice (some ⟨w.heap.size,(i+m)*5,none⟩) (n+m-(i+m)) (cc-(i+m))) (.slice (some ⟨b,off+i*5,none⟩) (n-i) (c-i)) (by simp[Act.eval,Act.put]) (by simp[Act.eval,Act.put]) (hcp2 66 (cc-(i+m)) (c-i)) ?_)
 go_wp2
 go_ret
 exact⟨cc,R2,hge,by omega,rfl,hN,hg3,hins⟩
def XP:GS:=⟨[.g (.sl .module),.l (.v (.el .int)),.g (.sl .module)],[.sl .module],fun(x_:(List SModule)×Int×(List SModule)×Unit)=>x_.1.length<=1100000000000/\0<=x_.2.1/\x_.2.1<=x_.1.length/\x_.2.2.1.length=1,fun(x_:(List SModule)×Int×(List SModule)×Unit)=>((x_.1.take x_.2.1.toNat++x_.2.2.1++x_.1.drop x_.2.1.toNat,()),(()))⟩
open Go.RowKit in
theorem WI (w:World) (n:Nat) (ad:Option Addr) (c:Nat) (a:Addr) (m vc:Nat) (hm:0<m) (v':Value) (w':World) (hr:∀ ty,(Builtin.append_ #[66,66] ty #[.slice ad n c,.slice (some a) m vc]).run Tryz.prog w=.ok v' w') (hc:n<=c) :
 Calls Tryz.prog 293 #[.slice ad n c,.int .i64 n,.slice (some a) m vc] w fun e w''=>e=.returned v'/\w''=w':=by
 have u66:Tryz.prog.underlying 66=some (.slice 253):=by kernel_rfl
 have hz1:¬ ((m:Int)=0):=by omega
 cases ad with
 | none=>
  go_enter func293,Tryz.ntmps293
  go_wp2_with (at_builtin;refine Lib.wpList_append_run _ rfl _ _ _ _ rfl _ _ rfl rfl _ _ (hr _) ?_)
  all_goals (go_ret;exact⟨rfl,rfl⟩)
 | some b=>
  go_enter func293,Tryz.ntmps293
  go_wp2_with (at_builtin;refine Lib.wpList_append_run _ rfl _ _ _ _ rfl _ _ rfl rfl _ _ (hr _) ?_)
  all_goals (go_ret;exact⟨rfl,rfl⟩)
open Go.RowKit in
theorem AgV {w w':World} {xs ys:List SModule} {i n:Nat} (hn:xs.length=n) (hy:ys.length=1) (hi:i<=n) {us vs:List Value} {G1 G2:Nat->Nat->Nat->Prop} (hul:us.length=n*5) (hvl:vs.length=5)
 (h1:∀ i',i'<n->∀ j,j<5->∃ u,us[i'*5+j]? = some u/\TO w (fcC (cell .module xs i' j)) u (G1 i' j)) (h2:∀ i',i'<1->∀ j,j<5->∃ u,vs[i'*5+j]? = some u/\TO w (fcC (cell .module ys i' j)) u (G2 i' j)) :
 ∀ i',i'<n+1->∀ j,j<5->∃ u,(us.take (i*5)++vs++us.drop (i*5))[i'*5+j]? = some u/\TO w' (fcC (cell .module (xs.take i++ys++xs.drop i) i' j)) u (fun _=>False):=by
 have flat:∀ (zs:List SModule) (k j:Nat) (u:Value) (F:Nat->Prop),j<5->TO w (fcC (cell .module zs k j)) u F->TO w' (fcC (cell .module zs k j)) u (fun _=>False):=by intro zs k j u F hj h;obtain⟨u2,e2⟩:=EO (t:=.module) rfl zs k j hj;rw[e2] at h ⊢;exact h
 have tl:(us.take (i*5)).length=i*5:=by rw[Qc1];omega
 have tx:(xs.take i).length=i:=by rw[Qc1];omega
 have same:∀ (l1:List SModule) (k k2:Nat) (bs:List SModule),l1.getD k default=bs.getD k2 default->∀ j,cell .module l1 k j=cell .module bs k2 j:=fun l1 k k2 bs e j=>by unfold cell;rw[e]
 intro k hk j hj;by_cases c1:k<i
 ·obtain⟨u,e1,e2⟩:=h1 k (by omega) j hj;refine⟨u,?_,?_⟩
  ·rw[Qb7,Qb2 (by omega),Qg0,Qa2 (by omega),e1]
  ·rw[same _ k k xs (by rw[Qb1,Qb1,Qb7,Qb2 (by omega),Qg0,Qa2 c1]) j];exact flat _ _ _ _ _ hj e2
 ·by_cases c2:k=i
  ·obtain⟨u,e1,e2⟩:=h2 0 (by omega) j hj;refine⟨u,?_,?_⟩
   ·rw[Qb7,Qa9 (by omega),tl,Qb2 (by omega),<-e1];congr 1;omega
   ·rw[same _ k 0 ys (by rw[Qb1,Qb1,Qb7,Qa9 (by omega),tx,Qb2 (by omega)];congr 2;omega) j];exact flat _ _ _ _ _ hj e2
  ·obtain⟨u,e1,e2⟩:=h1 (k-1) (by omega) j hj;refine⟨u,?_,?_⟩
   ·rw[Qb7,Qa9 (by omega),tl,Qa9 (by omega),hvl,Qe5,<-e1];congr 1;omega
   ·rw[same _ k (k-1) xs (by rw[Qb1,Qb1,Qb7,Qa9 (by omega),tx,Qa9 (by omega),hy,Qe5];congr 2;omega) j];exact flat _ _ _ _ _ hj e2
open Go.RowKit in
def InsEnd (w:World) (lab:Nat->Prop) (n:Nat) (L:List Value) (e:Ending) (w':World):Prop :=
 ∃ g o c row t,e=.returned (.slice (some ⟨g,o,none⟩) (n+1) c)/\n+1<=c/\o+c*5<=row.size/\w'.heap[g]? = some (.cells row t (0,0))/\(lab g\/w.heap.size<=g)/\g<w'.heap.size/\Onward w w'/\(∀ b,b<w.heap.size->¬ lab b->w'.heap[b]? = w.heap[b]?)/\∀ x,x<(n+1)*5->row[o+x]? = L[x]?
open Go.RowKit in
theorem lt_of_heap {w:World} {g:Nat} {x:Obj} (h:w.heap[g]? = some x):g<w.heap.size:=by
 rcases Nat.lt_or_ge g w.heap.size with q|q
 ·exact q
 ·rw[Array.getElem?_eq_none q] at h;cases h
open Go.RowKit in
theorem LG {row row':Array Value} {off o n i:Nat} {us vs:List Value} (hul:us.length=n*5) (hvl:vs.length=5) (hi:i<=n) (hu:∀ x,x<n*5->row[off+x]? = us[x]?) (h:insRow row off n 1 i vs o row') :
 ∀ x,x<(n+1)*5->row'[o+x]? = (us.take (i*5)++vs++us.drop (i*5))[x]?:=by
 intro x hx;have tl:(us.take (i*5)).length=i*5:=by rw[Qc1];omega
 rw[h x hx,Qb7];by_cases c1:x<i*5
 ·rw[Qa2 c1,Qb2 (by omega),Qg0,Qa2 c1,hu x (by omega)]
 ·rw[Qa3 c1,Qa9 (by omega),tl];by_cases c2:x<(i+1)*5
  ·rw[Qa2 c2,Qb2 (by omega)]
  ·rw[Qa3 c2,Qa9 (by omega),hvl,Qe5,show off+x-1*5=off+(x-5) by omega,hu _ (by omega)];congr 1;omega
open Go.RowKit in
theorem Afa (w:World) (ow:Nat->Own) (hlt:∀ g,ow g≠.gone->g<w.heap.size) (xs ys:List SModule) (i:Nat) (sv vv:Value) (hn:xs.length<=1100000000000) (hi:i<=xs.length) (hy:ys.length=1)
 (hs:TO w (.sl 5 xs.length fun a b=>fcC (cell .module xs a b)) sv (fun g=>ow g=.lab 0)) (hv:TO w (.sl 5 1 fun a b=>fcC (cell .module ys a b)) vv (fun g=>ow g=.lab 128)) :
 Calls Tryz.prog 293 #[sv,.int .i64 i,vv] w fun e w'=>∃ v',e=.returned v'/\v'.oneCell'=true/\Onward w w'/\(∀ b,b<w.heap.size->ow b≠.lab 0->w'.heap[b]? = w.heap[b]?) /\
  TO w' (.sl 5 (xs.length+1) fun a b=>fcC (cell .module (xs.take i++ys++xs.drop i) a b)) v' (fun b=>b<w'.heap.size/\(ow b=.lab 0\/w.heap.size<=b)):=by
 obtain⟨n,hnn⟩:∃ n,xs.length=n:=⟨_,rfl⟩;rw[hnn] at hs hi hn ⊢;have i224:(Tryz.prog.info? 253).map (fun i=>(i.size,i.bytes,i.zero.map (·.cells.size)))=some (5,64,some 5):=by kernel_rfl
 have u66:Tryz.prog.underlying 66=some (.slice 253):=by kernel_rfl
 obtain⟨i0,z0,hi0,hz0,hs0,hb0,hzc⟩:∃ i z,Tryz.prog.info? 253=some i/\i.zero=some z/\i.size=5/\i.bytes=64/\z.cells.size=5:=by
  cases hq:Tryz.prog.info? 253 with
  | none=>rw[hq] at i224;simp at i224
  | some j=>
   rw[hq] at i224;simp only[Qb9,Qa0,Qb4] at i224;obtain⟨a1,a2,a3⟩:=i224;cases hz:j.zero with
   | none=>rw[hz] at a3;simp at a3
   | some z=>rw[hz] at a3;exact⟨j,z,rfl,hz,a1,a2,by simpa using a3⟩
 obtain⟨us,G1,hus,hu1,hu2,hus1,hud,hub⟩:=Sj (P:=Tryz.prog) (by decide) hs;obtain⟨vs,G2,hvs,hv1,hv2,hvs1,hvd,hvb⟩:=Sj (P:=Tryz.prog) (by decide) hv;have hul:=hus.len;have hvl:vs.length=5:=hvs.len;have hvv:∃ g o c,vv=.slice (some ⟨g,o,none⟩) 1 c/\1<=c:=by
  rcases hv with⟨_,h⟩|⟨g,o,c,row,e,GG,h,hc,_⟩
  ·omega
  ·exact⟨g,o,c,h,hc⟩
 obtain⟨vb,voff,vc,rfl,hvc⟩:=hvv;obtain⟨hvow,vrow,ve,hvg,hvn,hvcap,hvrow,_⟩:=hvb vb voff vc rfl (by omega);have hlv:=lt_of_heap hvg;have hvcell:∀ j v,vs[j]? = some v->w.cell? ⟨vb,voff+j,none⟩=some v:=fun j v hj=>by have hj2:j<vs.length:=(List.getElem?_eq_some_iff.1 hj).1;rw[<-hj,<-hvrow j (by omega)];simp[World.cell?,hvg]
 have key:∀ e w',InsEnd w (fun g=>ow g=.lab 0) n (us.take (i*5)++vs++us.drop (i*5)) e w'->∃ v',e=.returned v'/\v'.oneCell'=true/\Onward w w'/\(∀ b,b<w.heap.size->ow b≠.lab 0->w'.heap[b]? = w.heap[b]?) /\
  TO w' (.sl 5 (n+1) fun a b=>fcC (cell .module (xs.take i++ys++xs.drop i) a b)) v' (fun b=>b<w'.heap.size/\(ow b=.lab 0\/w.heap.size<=b)):=by
  rintro e w' ⟨g,o,c,row,t,rfl,h1,h2,h3,h4,h5,h6,h7,h8⟩;refine⟨_,rfl,rfl,h6,fun b hb hl=>h7 b hb hl,.inr ⟨g,o,c,row,t,fun _ _ _=>False,rfl,h1,h2,h3,⟨h5,h4⟩,?_,by simp,by simp⟩⟩;intro k hk j hj;obtain⟨u,e1,e2⟩:=AgV (w':=w') hnn hy hi hul hvl hu2 hv2 k hk j hj;exact⟨u,by rw[Nat.add_assoc,h8 _ (by omega)];exact e1,e2⟩
 have Aaj:∀ (ad:Option Addr) (c:Nat),sv=.slice ad n c->c<n+1->n<=c->i=n->Calls Tryz.prog 293 #[sv,.int .i64 i,.slice (some ⟨vb,voff,none⟩) 1 vc] w (InsEnd w (fun g=>ow g=.lab 0) n (us.take (i*5)++vs++us.drop (i*5))):=by
  intro ad c hsv hc hnc hin;subst hsv hin;have hr:=fun ty=>EX (P:=Tryz.prog) 66 ty 253 i0 z0 u66 hi0 hz0 ad i c us (by rw[hs0];exact hus) (.slice (some ⟨vb,voff,none⟩) 1 vc) 1 vs (by rw[hs0];exact hvs) hc (by omega) (by rw[hb0];omega)
  refine(WI w i ad c ⟨vb,voff,none⟩ 1 vc (by decide) _ _ hr hnc).mono ?_;rintro e w' ⟨rfl,rfl⟩;have hge:=grownCap_ge w (i+1) c 253;refine⟨w.heap.size,0,_,_,_,rfl,hge,?_,heap_alloc_new w.drew _,.inr (Qa8 _),by simp,⟨rfl,rfl,⟨rfl,by first|exact DrLe.refl _|exact DrLe.succ _|exact DrLe.add _ _⟩,by simp⟩,fun b hb _=>heap_alloc_old w.drew _ hb,?_⟩
  ·simp only[List.size_toArray,Qa4,Qc6,size_zeroCells,hzc];omega
  ·intro x hx;rw[Qd4,List.getElem?_toArray,Qb2 (by rw[Qa4];omega),Qb3 (by omega),Qb6 (by omega),Qd8]
 rcases hs with⟨⟨ad,hsv⟩,hn0⟩|⟨b,off,c,row,e,GG,hsv,hnc,hcap,hg,hF,hrow,hsub,hdis⟩
 ·exact(Aaj ad 0 (by rw[hsv,hn0]) (by omega) (by omega) (by omega)).mono key
 ·by_cases hroom:n+1<=c
  ·obtain⟨_,row2,e2,hg2,_,_,hrw,_⟩:=hub b off c hsv (by omega);rw[hg] at hg2;injection hg2 with hg2
   injection hg2 with q1 q2
   subst q1;have hne:vb≠b:=by rintro rfl;rw[hF] at hvow;cases hvow
   by_cases hin:i=n
   ·subst hin;subst hsv;have hr:=fun ty=>Fg (P:=Tryz.prog) 66 ty 253 i0 u66 hi0 b off i c row e hg (.slice (some ⟨vb,voff,none⟩) 1 vc) 1 vs (by rw[hs0];exact hvs) hv1 hroom (by rw[hs0];omega)
    refine((WI w i (some ⟨b,off,none⟩) c ⟨vb,voff,none⟩ 1 vc (by decide) _ _ hr hnc).mono ?_).mono key;rintro e' w' ⟨rfl,rfl⟩;refine⟨b,off,c,_,e,rfl,hroom,?_,setRow_heap w b row _ e _ hg,.inl hF,by simp[World.setRow];exact lt_of_heap hg,⟨rfl,rfl,⟨rfl,by first|exact DrLe.refl _|exact DrLe.succ _|exact DrLe.add _ _⟩,by simp[World.setRow]⟩,fun b' hb' hl=>setRow_other w b b' _ (by rintro rfl;exact hl hF),?_⟩
    ·simp only[List.size_toArray,Qa4,Qc1,Qd6,Qc6,hs0];omega
    ·intro x hx;have hrl:row.toList.length=row.size:=Qc6;rw[List.getElem?_toArray,hs0,FE (by omega),Qb3 (by omega),Qb6 (by omega),Qd8];by_cases c1:x<i*5
     ·rw[Qa2 (by omega),Qb2 (by omega),<-hrw x c1];simp
     ·rw[Qa3 (by omega),Qa2 (by omega),Qa9 (by omega)];congr 1;omega
   ·subst hsv;have h1c:∀ x v,x<n*5->row[off+x]? = some v->v.oneCell'=true:=fun x v hx h=>hu1 v (by rw[hrw x hx] at h;exact Qf7 h)
    refine((ZX w b off n c i vb voff 1 vc row e vs hg hcap (by omega) (by decide) hroom (by omega) hvl hne hvcell hv1 h1c ve vrow.size (by simp[World.shape?,hvg]) (by simp[World.frozen?,hvg]) (by simp[World.frozen?,hvg])).mono ?_).mono key;rintro e' w' ⟨rfl,row',rfl,hsz,hins⟩;exact⟨b,off,c,row',e,rfl,hroom,by omega,setRow_heap w.drew b row row' e _ hg,.inl hF,by simp[World.setRow];exact lt_of_heap hg,⟨rfl,rfl,⟨rfl,by first|exact DrLe.refl _|exact DrLe.succ _|exact DrLe.add _ _⟩,by simp[World.setRow]⟩,fun b' hb' hl=>setRow_other w.drew b b' _ (by rintro rfl;exact hl hF),LG hul hvl hi hrw hins⟩
  ·by_cases hin:i=n
   ·exact(Aaj (some ⟨b,off,none⟩) c hsv (by omega) hnc hin).mono key
   ·obtain⟨_,row2,e2,hg2,_,_,hrw,_⟩:=hub b off c hsv (by omega);rw[hg] at hg2;injection hg2 with hg2
    injection hg2 with q1 q2
    subst q1;have hne:vb≠b:=by rintro rfl;rw[hF] at hvow;cases hvow
    subst hsv;have h1c:∀ x v,x<n*5->row[off+x]? = some v->v.oneCell'=true:=fun x v hx h=>hu1 v (by rw[hrw x hx] at h;exact Qf7 h)
    refine((AbK w b off n c i vb voff 1 vc row e vs hg hnc hcap (by omega) (by decide) (by omega) (by omega) hvl hne hlv hvcell hv1 h1c).mono ?_).mono key;rintro e' w' ⟨c',row',k1,k2,rfl,k3,k4,k5⟩;exact⟨w.heap.size,0,c',row',253,rfl,k1,by omega,k4,.inr (Qa8 _),lt_of_heap k4,⟨k3.os,k3.tape,⟨k3.output,k3.drawn⟩,k3.size⟩,fun b' hb' _=>k3.old b' hb',LG hul hvl hi hrw k5⟩
def Ah9:=AmP.G XP<|by
 rintro⟨(xs:List SModule),(i:Int),(ys:List SModule),⟨⟩⟩ hx w vs G hB hA;obtain⟨hx1,hx2,hx3,hx4⟩:=(show xs.length<=1100000000000/\0<=i/\i<=xs.length/\ys.length=1 from hx);obtain⟨j,rfl⟩:∃ j:Nat,i=j:=⟨i.toNat,by omega⟩;obtain⟨v0,e0,c0,hc0,r0⟩:=hA.tm 0 (.v false [.ref 0]) rfl;obtain⟨v1,e1,c1,hc1,r1⟩:=hA.tm 1 (.v false [.sc (.int .i64 j)]) rfl;obtain⟨v2,e2,c2,hc2,r2⟩:=hA.tm 2 (.v false [.ref 128]) rfl;injection hc0 with hc0
 injection hc1 with hc1
 injection hc2 with hc2
 subst hc0 hc1 hc2;have r0:v0=G.hv 0/\v0.oneCell'=true:=r0;have r1:v1=.int .i64 j/\_:=r1;have r2:v2=G.hv 128/\v2.oneCell'=true:=r2;have hs:TO w (.sl 5 xs.length fun a b=>fcC (cell .module xs a b)) (G.hv 0) (fun g=>G.ow g=.lab 0):=hA.hp 0 ⟨.module,xs⟩ rfl;have hv:TO w (.sl 5 ys.length fun a b=>fcC (cell .module ys a b)) (G.hv 128) (fun g=>G.ow g=.lab 128):=hA.hp 128 ⟨.module,ys⟩ rfl;rw[hx4] at hv;have hvs:vs = #[v0,v1,v2]:=by
  apply Array.ext_getElem?;intro k;have hsz:vs.size=3:=hA.sz
  match k with
  | 0=>exact e0
  | 1=>exact e1
  | 2=>exact e2
  | k+3=>rw[Array.getElem?_eq_none (by omega),Array.getElem?_eq_none (by simp)]
 rw[hvs,r0.1,r1.1,r2.1];refine(Afa w G.ow hA.lt xs ys j _ _ hx1 (by omega) hx4 hs hv).mono ?_;rintro e w' ⟨v',rfl,h1,h2,h3,h4⟩;have hlen:(xs.take j++ys++xs.drop j).length=xs.length+1:=by simp only[Qa4,Qc1,Qd6];omega
 have hgone:∀ b,w.heap.size<=b->G.ow b=.gone:=by
  intro b hb1;cases hq:G.ow b with
  | gone=>rfl
  | _=>exact absurd (hA.lt b (by simp[hq])) (by omega)
 refine⟨v',_,rfl,rfl,h2,fun g hg=>h3 g (hA.lt g (by simp[hg])) (by simp[hg]),fun g hg=>(hA.cr g hg).same (h3 g (hA.lt g (by simp[hg])) (by simp[hg])),fun p b=>p=.res 0 0/\b<w'.heap.size/\(G.ow b=.lab 0\/w.heap.size<=b),?_,?_,?_,?_,?_⟩
 ·rintro s b ⟨_,k1,k2⟩;refine⟨k1,?_,fun b0 hb0=>by cases hb0⟩;rcases k2 with k2|k2
  ·rw[k2];exact⟨by simp,by simp⟩
  ·rw[hgone b k2];exact⟨by simp,by simp⟩
 ·rintro s s' b ⟨rfl,_⟩ ⟨rfl,_⟩;rfl
 ·refine⟨_,rfl,?_,h1⟩;show TO w' (fcC (.l .module (xs.take j++ys++xs.drop j))) v' (fun b=>Pl.res 0 0=Pl.res 0 0/\b<w'.heap.size/\(G.ow b=.lab 0\/w.heap.size<=b));rw[DZ,hlen];have:(fun b=>Pl.res 0 0=Pl.res 0 0/\b<w'.heap.size/\(G.ow b=.lab 0\/w.heap.size<=b))=fun b=>b<w'.heap.size/\(G.ow b=.lab 0\/w.heap.size<=b):=by funext b;simp
  rw[this];exact h4
 ·intro l T hl;cases hl
 ·intro b cs hb;cases hb
theorem GP (f:SModule->SModule) (m:SModule) (B:List SModule):∀ A:List SModule,(A++[m]++B).modify A.length f=A++[f m]++B
 | []=>rfl
 | a::A=>Qg8 (List.cons a) (GP f m B A)
theorem AfL {l:List SModule} {i:Nat} {m:SModule} (f:SModule->SModule) (h:i<=l.length):(l.take i++[m]++l.drop i).modify i f=l.take i++[f m]++l.drop i:=by
 have e:(l.take i).length=i:=by rw[Qc1];omega
 have:=GP f m (l.drop i) (l.take i)
 rwa [e] at this
theorem Aek {l:List SModule} {i:Nat} {m:SModule} (h:i<=l.length):(l.take i++[m]++l.drop i).getD i default=m:=by
 have e:(l.take i).length=i:=by rw[Qc1];omega
 rw[Qb1,Qb7,Qa9 (by omega),e,Nat.sub_self];rfl
theorem V8 {l:List SModule} {i:Nat} {m:SModule} (h:i<=l.length):(l.take i++[m]++l.drop i).length=l.length+1:=by
 simp only[Qa4,Qc1,Qd6,Qa6,Qb8];omega
theorem Afe {p:SPage} {a:SAddr} {i:Nat} (h:askFrom a p.bg=i) (h0:i<=p.bg.length) (h1:i=p.bg.length\/¬ (p.bg.getD i default).to=a) (m:SModule) (hm:m=newMod p a):askModule p a={ p with bg:=p.bg.take i++[m]++p.bg.drop i }:=by
 rw[Wl h h0 h1 m hm,Acy h0,Qb7];rfl
abbrev Bi (p:SPage) (a:SAddr):LInv:=⟨[⟨.s,6,true,.el .int⟩,⟨.b,2,false,.el .page⟩,⟨.b,3,true,.el .addr⟩,⟨.b,4,true,.el .page⟩,⟨.b,5,true,.el .page⟩],fun(z_ x_:Int×SPage×SAddr×SPage×SPage×Unit)=>((((0<=x_.1/\x_.1<=p.bg.length/\x_.1+askFrom a (p.bg.drop x_.1.toNat)=askFrom a p.bg)/\x_.2.1=z_.2.1)/\x_.2.2.1=z_.2.2.1)/\x_.2.2.2.1=z_.2.2.2.1)/\x_.2.2.2.2.1=z_.2.2.2.2.1,fun(x_:Int×SPage×SAddr×SPage×SPage×Unit)=>p.bg.length-x_.1.toNat⟩
def Ah0:=Ah9.a AK<|Fct.p (KP [2,3,4,5,6] [24,41,57]) (fun⟨p,a,_⟩=>lv [(3,Bi p a)]) Ah9.2 func213 (by
 rintro⟨(p:SPage),(a:SAddr),_⟩ hp;refine ho (let q5_:=List SModule;.cl fCopyPage (p,()) fun z2=>lpx (Bi p a) ((0:Int),(p,(a,(default,(z2.1,()))))) fun(y2:Int×SPage×SAddr×SPage×SPage×PUnit) bk2=>let q8_:Out:=.lf AK (y2.2.2.2.2.1,());let q7_:=inB y2.1 y2.2.1.bg.length;let q6_:=y2.2.1.bg.getD y2.1.toNat default;let q4_:=decide (y2.1<(y2.2.1.bg.length:Int));let q1_:=q6_.to.host==y2.2.2.1.host&&(q6_.to.path==y2.2.2.1.path&&true);let q0_:=(⟨y2.2.2.1,false,(0:Int),(⟨#[]⟩:ByteArray)⟩:SModule);let q3_:=XP.fn (y2.2.2.2.2.1.bg,y2.1,[q0_],());let q2_:=XP.pre (y2.2.2.2.2.1.bg,y2.1,[q0_],());.br q4_ (.ob q7_<|.cl AT (q6_.to,y2.2.2.1,()) fun(z3:Int×PUnit)=>.br (decide (z3.1<0)) (.ob (bk2 (w1 y2.1,(y2.2.1,(y2.2.2.1,(y2.2.2.2.1,(y2.2.2.2.2.1,()))))))<|.ok) (.br q4_ (.ob q7_<|.br q1_ q8_ (.ob q2_<|.lt _ q3_ fun z4=>.cl AD (({y2.2.2.2.2.1 with bg:=z4.1.1}:SPage),y2.1,()) fun z5=>.cl fCheckRequest (y2.2.1.bi,z5.1,()) fun(z6:Int×PUnit)=>.br (z6.1 != 1) (.ob (inB y2.1 z4.1.1.length)<|.ob (y2.1.toNat<z4.1.1.length)<|.lt q5_ (z4.1.1.modify y2.1.toNat fun z=>({z with done:=true}:SModule)) fun z7=>.ob (inB y2.1 z7.length)<|.ob (y2.1.toNat<z7.length)<|.lt q5_ (z7.modify y2.1.toNat fun z=>({z with code:=(2:Int)}:SModule)) fun z8=>.lf AK ({y2.2.2.2.2.1 with bg:=z8},())) (.lf AK ({y2.2.2.2.2.1 with bg:=z4.1.1},())))) (.ob q2_<|.lt _ q3_ fun z9=>.cl AD (({y2.2.2.2.2.1 with bg:=z9.1.1}:SPage),y2.1,()) fun z10=>.cl fCheckRequest (y2.2.1.bi,z10.1,()) fun(z11:Int×PUnit)=>.br (z11.1 != 1) (.ob (inB y2.1 z9.1.1.length)<|.ob (y2.1.toNat<z9.1.1.length)<|.lt q5_ (z9.1.1.modify y2.1.toNat fun z=>({z with done:=true}:SModule)) fun z12=>.ob (inB y2.1 z12.length)<|.ob (y2.1.toNat<z12.length)<|.lt q5_ (z12.modify y2.1.toNat fun z=>({z with code:=(2:Int)}:SModule)) fun z13=>.lf AK ({y2.2.2.2.2.1 with bg:=z13},())) (.lf AK ({y2.2.2.2.2.1 with bg:=z9.1.1},()))))) (.br q4_ (.ob q7_<|.br q1_ q8_ (.ob q2_<|.lt _ q3_ fun z14=>.cl AD (({y2.2.2.2.2.1 with bg:=z14.1.1}:SPage),y2.1,()) fun z15=>.cl fCheckRequest (y2.2.1.bi,z15.1,()) fun(z16:Int×PUnit)=>.br (z16.1 != 1) (.ob (inB y2.1 z14.1.1.length)<|.ob (y2.1.toNat<z14.1.1.length)<|.lt q5_ (z14.1.1.modify y2.1.toNat fun z=>({z with done:=true}:SModule)) fun z17=>.ob (inB y2.1 z17.length)<|.ob (y2.1.toNat<z17.length)<|.lt q5_ (z17.modify y2.1.toNat fun z=>({z with code:=(2:Int)}:SModule)) fun z18=>.lf AK ({y2.2.2.2.2.1 with bg:=z18},())) (.lf AK ({y2.2.2.2.2.1 with bg:=z14.1.1},())))) (.ob q2_<|.lt _ q3_ fun z19=>.cl AD (({y2.2.2.2.2.1 with bg:=z19.1.1}:SPage),y2.1,()) fun z20=>.cl fCheckRequest (y2.2.1.bi,z20.1,()) fun(z21:Int×PUnit)=>.br (z21.1 != 1) (.ob (inB y2.1 z19.1.1.length)<|.ob (y2.1.toNat<z19.1.1.length)<|.lt q5_ (z19.1.1.modify y2.1.toNat fun z=>({z with done:=true}:SModule)) fun z22=>.ob (inB y2.1 z22.length)<|.ob (y2.1.toNat<z22.length)<|.lt q5_ (z22.modify y2.1.toNat fun z=>({z with code:=(2:Int)}:SModule)) fun z23=>.lf AK ({y2.2.2.2.2.1 with bg:=z23},())) (.lf AK ({y2.2.2.2.2.1 with bg:=z19.1.1},()))))) ?_;repeat' first|(guard_target =~ Out.holds _ _;first|refine Aw (li:=Bi p a) ?_ fun(y2:Int×SPage×SAddr×SPage×SPage×PUnit) i2=>?_|refine lfY ?_|refine Ab (fun _=>?_) fun _=>?_|refine Ae ?_ fun _=>?_|refine Aa ?_ fun _=>?_|refine Dh ?_)|exact trivial
 all_goals
  have hl:p.bg.length<=1090000000000:=by have h1:szPage p<=1090000000000:=hp.1;have:=Ad Ar p.bg;simp only[szPage] at h1;omega
  have hpo:szPolicy p.bi<=1090000000000/\p.addr.host.size<=50000000000:=by have h1:szPage p<=1090000000000:=hp.1;have h2:p.addr.host.size<=4000000000:=hp.2.1;simp only[szPage,szAddr] at h1;omega
  try simp only[AA] at *
  try simp only[Bi,AK,fCheckRequest,AT,fCopyPage,XP,AD,std,Nat.reduceAdd,fCopyPage,AT,fCheckRequest,XP,AD] at *
 all_goals first|trivial|omega|exact⟨by omega,by omega,by simp⟩|skip
 all_goals try (obtain⟨⟨⟨⟨⟨a1,a2,a3⟩,e1⟩,e2⟩,e3⟩,e4⟩:=i2;simp only[e1,e2,e3,e4,Dk,Qa7,Qb0] at *)
 all_goals
  have hi:y2.1.toNat<=p.bg.length:=by omega
  have hr:∀ q:SPage,q.bg=p.bg.take y2.1.toNat++[⟨a,false,0,⟨#[]⟩⟩]++p.bg.drop y2.1.toNat->q.addr=p.addr->modRequest q y2.1=⟨5,a,p.addr.host,⟨#[]⟩⟩:=fun q h1 h2=>by unfold modRequest;rw[h1,h2,V8 hi,Aek hi,Qa2 (by omega)]
  try simp only[hr,AfL _ hi,V8 hi,List.length_modify] at *
 all_goals first|trivial|omega|exact⟨by omega,by simp only[szRequest,szAddr] at *;show _+_+0<=_;omega⟩|skip
 all_goals first|(have e:=MR (a:=a) (l:=p.bg) (i:=y2.1.toNat) (by omega);first|rw[Qa2 (by omega)] at e|rw[Qa3 (by omega)] at e)|(have e:=J2 (a:=a) (l:=p.bg) (i:=y2.1.toNat) (by omega))
 all_goals first|(rw[Ah (by omega),show(y2.1+1).toNat=y2.1.toNat+1 by omega];simp only[Qe1];exact⟨⟨by omega,by omega,by omega⟩,by omega⟩)|skip
 all_goals have e5:askFrom a p.bg=y2.1.toNat:=by omega
 all_goals first|(rw[Ph e5 (by omega) (by assumption)];done)|(rw[Afe e5 (by omega) (by first|exact .inr (by assumption)|exact .inl (by omega)) _ (by first|exact O5 (by assumption)|exact P7 (by assumption))])|skip)
def addEntry (p:SPage) (to:ByteArray):SPage :=
 if(parseAddr to p.addr.host).2=true/\p.bf.length<20 then{ askModule p (parseAddr to p.addr.host).1 with bf:=p.bf++[(parseAddr to p.addr.host).1]} else p
theorem XQ (p:SPage) (a:SAddr) (l:List SAddr):askModule { p with bf:=l } a={ askModule p a with bf:=l }:=by
 unfold askModule newMod;split<;>rfl
theorem LA (p:SPage) (a:SAddr):(askModule p a).bf=p.bf:=by unfold askModule;split<;>rfl
def fAddEntry:Fct:=⟨[.v (.el .page),.v (.el .str)],[.el .page],fun(x_:SPage×ByteArray×Unit)=>szPage x_.1<=1050000000000/\x_.1.addr.host.size<=4000000000/\x_.2.1.size<=4000000000,fun(x_:SPage×ByteArray×Unit)=>(addEntry x_.1 x_.2.1,())⟩
def Aml:=Ah0.a fAddEntry<|Fct.o (KP [1,2,4,5,6,7] [23]) Ah0.2 func407 (by
 rintro⟨(p:SPage),(to:ByteArray),_⟩ hp;refine ho (let q0_:Out:=.cl fCopyPage (p,()) fun z3=>.lf fAddEntry (z3.1,());.cl AF (to,p.addr.host,()) fun z2=>.br (!z2.2.1) q0_ (.br (decide ((p.bf.length:Int)>=20)) q0_ (.cl AK (p,z2.1,()) fun z5=>.ob (True)<|.ob (BK (z5.1.bf.length+[z2.1].length) 32)<|.lf fAddEntry ({z5.1 with bf:=z5.1.bf++[z2.1]},())))) ?_;refine Ae ?_ fun o1=>(Ab (fun h2=>Ae ?_ fun o3=>(lfY ?_)) (fun h2=>Ab (fun h4=>Ae ?_ fun o5=>(lfY ?_)) (fun h4=>Ae ?_ fun o6=>(Aa trivial fun _=>Aa ?_ fun o7=>lfY ?_))))
 all_goals
  have hl:szL szAddr p.bf+1<=1050000000001:=by have h1:szPage p<=1050000000000:=hp.1;simp only[szPage] at h1;omega
  have hl2:=Ad szAddr p.bf;have hz:=EZ to p.addr.host;have hs:szPage { p with bf:=p.bf++[(parseAddr to p.addr.host).1]}<=szPage p+szAddr (parseAddr to p.addr.host).1+1:=by simp only[szPage,CV,Ax,show szL szAddr []=0 from rfl];omega
  have ha:szAddr (parseAddr to p.addr.host).1<=16000000000:=by simp only[szAddr];have q1:p.addr.host.size<=4000000000:=hp.2.1;have q2:to.size<=4000000000:=hp.2.2;omega
  try simp only[AA] at *
  try simp only[fAddEntry,AK,fCopyPage,AF,std,Nat.reduceAdd,fCopyPage,AF,AK,XQ,LA] at *
 all_goals first|trivial|omega|skip
 all_goals unfold addEntry
 all_goals first|rw[Qa2 ⟨by assumption,by omega⟩]|rw[Qa3 (by rintro⟨q1,q2⟩;first|omega|(rw[show(parseAddr to p.addr.host).2=false by assumption] at q1;cases q1))])
def Alv:=Aml.a fAddEntry<|Fct.o (KP [1,2,4,5,6,7] [25]) Aml.2 func377 (by
 rintro⟨(p:SPage),(to:ByteArray),_⟩ hp;refine ho (.cl fCopyPage (p,()) fun z2=>let q0_:Out:=.lf fAddEntry (z2.1,());.cl AF (to,p.addr.host,()) fun z3=>.br (!z3.2.1) q0_ (.br (decide ((p.bf.length:Int)>=20)) q0_ (.ob (True)<|.ob (BK (z2.1.bf.length+[z3.1].length) 32)<|.cl AK (({z2.1 with bf:=z2.1.bf++[z3.1]}:SPage),z3.1,()) fun z4=>.lf fAddEntry (z4.1,())))) ?_;refine Ae ?_ fun o1=>(Ae ?_ fun o2=>(Ab (fun h3=>lfY ?_) (fun h3=>Ab (fun h4=>lfY ?_) (fun h4=>Aa trivial fun _=>Aa ?_ fun o5=>Ae ?_ fun o6=>(lfY ?_)))))
 all_goals
  have hl:szL szAddr p.bf+1<=1050000000001:=by have h1:szPage p<=1050000000000:=hp.1;simp only[szPage] at h1;omega
  have hl2:=Ad szAddr p.bf;have hz:=EZ to p.addr.host;have hs:szPage { p with bf:=p.bf++[(parseAddr to p.addr.host).1]}<=szPage p+szAddr (parseAddr to p.addr.host).1+1:=by simp only[szPage,CV,Ax,show szL szAddr []=0 from rfl];omega
  have ha:szAddr (parseAddr to p.addr.host).1<=16000000000:=by simp only[szAddr];have q1:p.addr.host.size<=4000000000:=hp.2.1;have q2:to.size<=4000000000:=hp.2.2;omega
  try simp only[AA] at *
  try simp only[fAddEntry,AK,fCopyPage,AF,std,Nat.reduceAdd,fCopyPage,AF,AK,XQ,LA] at *
 all_goals first|trivial|omega|skip
 all_goals unfold addEntry
 all_goals first|rw[Qa2 ⟨by assumption,by omega⟩]|rw[Qa3 (by rintro⟨q1,q2⟩;first|omega|(rw[show(parseAddr to p.addr.host).2=false by assumption] at q1;cases q1))])
def element (p:SPage) (t:SToken) (n:Int):SPage :=
 if t.name=⟨#[108,105,110,107]⟩/\(findAttr t.bn ⟨#[104,114,101,102]⟩).isSome=true then(addSlot p 2 ((findAttr t.bn ⟨#[104,114,101,102]⟩).getD ⟨#[]⟩) ((findAttr t.bn ⟨#[100,105,103,101,115,116]⟩).getD ⟨#[]⟩) n).1
 else if t.name=⟨#[105,109,103]⟩/\(findAttr t.bn ⟨#[115,114,99]⟩).isSome=true then(addSlot p 1 ((findAttr t.bn ⟨#[115,114,99]⟩).getD ⟨#[]⟩) ((findAttr t.bn ⟨#[100,105,103,101,115,116]⟩).getD ⟨#[]⟩) n).1
 else p
def Bk:GS:=⟨[.g (.el .page),.i 8 (.el .token),.l (.v (.el .int))],[.el .page],fun(x_:SPage×SToken×Int×Unit)=>szPage x_.1<=1050000000000/\x_.1.addr.host.size<=4000000000/\Al x_.2.1<=4000000000,fun(x_:SPage×SToken×Int×Unit)=>((element x_.1 x_.2.1 x_.2.2.1,()),(()))⟩
def AlU:=Alv.G Bk<|GS.of (S:=Bk) (L:=fun _ _=>none) (kp:=(KP [2,3,4,6,7,9,10,11,12] [30,50])) Alv.2 func358 (by kernel_rfl) (by kernel_rfl) (by
 rintro⟨(p:SPage),(t:SToken),(n:Int),_⟩ hp;refine ho (let q4_:=GS.out Bk ((p,()),(()));let q3_:=(⟨#[115,114,99]⟩:ByteArray);let q1_:=t.name.toList==(⟨#[105,109,103]⟩:ByteArray).toList;.cl fFindAttr (t.bn,(⟨#[100,105,103,101,115,116]⟩:ByteArray),()) fun z2=>let q0_:Out:=.cl fFindAttr (t.bn,q3_,()) fun z7=>.br (z7.2.1) (.br q1_ (.cl fAddSlot (p,(1:Int),z7.1,z2.1,n,()) fun(z8:SPage×Int×PUnit)=>GS.out Bk ((z8.1,()),(()))) q4_) q4_;.cl fFindAttr (t.bn,(⟨#[104,114,101,102]⟩:ByteArray),()) fun z3=>.br (z3.2.1) (.br (t.name.toList==(⟨#[108,105,110,107]⟩:ByteArray).toList) (.cl fAddSlot (p,(2:Int),z3.1,z2.1,n,()) fun(z4:SPage×Int×PUnit)=>let q2_:=GS.out Bk ((z4.1,()),(()));.cl fFindAttr (t.bn,q3_,()) fun z5=>.br (z5.2.1) (.br q1_ (.cl fAddSlot (z4.1,(1:Int),z5.1,z2.1,n,()) fun(z6:SPage×Int×PUnit)=>GS.out Bk ((z6.1,()),(()))) q2_) q2_) q0_) q0_) ?_;repeat' (guard_target =~ Out.holds _ _;first|refine GS.leafY ?_|refine Ab (fun _=>?_) fun _=>?_|refine Ae ?_ fun _=>?_)
 all_goals
  have h1:=BA t.bn ⟨#[104,114,101,102]⟩;have h2:=BA t.bn ⟨#[115,114,99]⟩;have h3:=BA t.bn ⟨#[100,105,103,101,115,116]⟩;have h4:szL A0 t.bn<=4000000000/\t.bn.length<=4000000000:=by have q:=hp.2.2;have:=Ad A0 t.bn;simp only[Al] at q;omega
  try simp only[AA] at *
  try simp only[fAddSlot,Bk,fFindAttr,std,Nat.reduceAdd,element,fFindAttr,fAddSlot] at *
  try simp(disch:=omega) only[wrapId',toNat1] at *
  try simp(disch:=omega) only[Qa2,Qa3]
 all_goals first|trivial|omega|grind[wrapId',toNat1,drop_cons,drop_end,good_len,maxLen,element,fFindAttr,fAddSlot])
def script (p:SPage) (n:Int):SPage :=
 if(findAttr (p.ba.bh.getD n.toNat default).bn ⟨#[115,114,99]⟩).isSome=false then(if allowsInline p.bi ((findAttr (p.ba.bh.getD n.toNat default).bn ⟨#[110,111,110,99,101]⟩).getD ⟨#[]⟩)=true then{ p with inline:=n } else p)
 else if(findAttr (p.ba.bh.getD n.toNat default).bn ⟨#[107,105,110,100]⟩).getD ⟨#[]⟩=⟨#[100,101,102,101,114]⟩ then(addSlot p 4 ((findAttr (p.ba.bh.getD n.toNat default).bn ⟨#[115,114,99]⟩).getD ⟨#[]⟩) ((findAttr (p.ba.bh.getD n.toNat default).bn ⟨#[100,105,103,101,115,116]⟩).getD ⟨#[]⟩) n).1
 else if(findAttr (p.ba.bh.getD n.toNat default).bn ⟨#[107,105,110,100]⟩).getD ⟨#[]⟩=⟨#[109,111,100,117,108,101]⟩ then addEntry p ((findAttr (p.ba.bh.getD n.toNat default).bn ⟨#[115,114,99]⟩).getD ⟨#[]⟩)
 else{ (addSlot p 3 ((findAttr (p.ba.bh.getD n.toNat default).bn ⟨#[115,114,99]⟩).getD ⟨#[]⟩) ((findAttr (p.ba.bh.getD n.toNat default).bn ⟨#[100,105,103,101,115,116]⟩).getD ⟨#[]⟩) n).1 with block:=(addSlot p 3 ((findAttr (p.ba.bh.getD n.toNat default).bn ⟨#[115,114,99]⟩).getD ⟨#[]⟩) ((findAttr (p.ba.bh.getD n.toNat default).bn ⟨#[100,105,103,101,115,116]⟩).getD ⟨#[]⟩) n).2+1 }
theorem DJ (p:SPage):szL Al p.bm+szBuilder p.ba+szL AI p.bd+szL Ar p.bg+szL szAddr p.bf+szL szAddr p.ran+szL Ac p.log+szPolicy p.bi+szAddr p.addr<=szPage p:=by simp only[szPage];omega
theorem MC (p:SPage) (m:Int) (to d:ByteArray) (n:Int) : -1<=(addSlot p m to d n).2/\(addSlot p m to d n).2<=20:=by
 unfold addSlot;split
 ·dsimp only;omega
 ·dsimp only;omega
theorem I3 (l:List SNode) (n:Nat) (h:n<l.length):szL A0 (l.getD n default).bn<=szL szNode l:=by
 have:=DO szNode (l:=l) h;simp only[szNode] at *;omega
def A5:GS:=⟨[.g (.el .page),.l (.v (.el .int))],[.el .page],fun(x_:SPage×Int×Unit)=>szPage x_.1<=1050000000000/\x_.1.addr.host.size<=4000000000/\szL szNode x_.1.ba.bh<=4000000000/\0<=x_.2.1/\x_.2.1<x_.1.ba.bh.length,fun(x_:SPage×Int×Unit)=>((script x_.1 x_.2.1,()),(()))⟩
def Ajk:=AlU.G A5<|GS.of (S:=A5) (L:=fun _ _=>none) (kp:=(KP [1,2,4,5,6,7,8,10,12,14,15] [55,61,64,75])) AlU.2 func359 (by kernel_rfl) (by kernel_rfl) (by
 rintro⟨(p:SPage),(n:Int),_⟩ hp;refine ho (let q0_:=p.ba.bh.getD (Int.toNat n) default;.ob (inB n p.ba.bh.length)<|.ob (Int.toNat n<p.ba.bh.length)<|.cl fFindAttr (q0_.bn,(⟨#[115,114,99]⟩:ByteArray),()) fun z2=>.cl fFindAttr (q0_.bn,(⟨#[107,105,110,100]⟩:ByteArray),()) fun z3=>.cl fFindAttr (q0_.bn,(⟨#[100,105,103,101,115,116]⟩:ByteArray),()) fun z4=>.cl fFindAttr (q0_.bn,(⟨#[110,111,110,99,101]⟩:ByteArray),()) fun z5=>.br (!z2.2.1) (.cl fAllowsInline (p.bi,z5.1,()) fun z6=>.br (z6.1) (GS.out A5 (({p with inline:=n},()),(()))) (GS.out A5 ((p,()),(())))) (.br (z3.1.toList==(⟨#[100,101,102,101,114]⟩:ByteArray).toList) (.cl fAddSlot (p,(4:Int),z2.1,z4.1,n,()) fun(z7:SPage×Int×PUnit)=>GS.out A5 ((z7.1,()),(()))) (.br (z3.1.toList==(⟨#[109,111,100,117,108,101]⟩:ByteArray).toList) (.cl fAddEntry (p,z2.1,()) fun z8=>GS.out A5 ((z8.1,()),(()))) (.cl fAddSlot (p,(3:Int),z2.1,z4.1,n,()) fun(z9:SPage×Int×PUnit)=>GS.out A5 (({z9.1 with block:=w1 z9.2.1},()),(())))))) ?_;repeat' first|(guard_target =~ Out.holds _ _;first|refine GS.leafY ?_|refine Ab (fun _=>?_) fun _=>?_|refine Ae ?_ fun _=>?_|refine Aa ?_ fun _=>?_)|exact trivial
 all_goals
  have hn:=I3 p.ba.bh n.toNat (by have q1:0<=n:=hp.2.2.2.1;have q2:n<p.ba.bh.length:=hp.2.2.2.2;omega);have hn2:=Ad A0 (p.ba.bh.getD n.toNat default).bn
 all_goals generalize hat:(p.ba.bh.getD n.toNat default).bn=at_ at *
 all_goals
  have h1:=BA at_ ⟨#[110,111,110,99,101]⟩;have h2:=BA at_ ⟨#[115,114,99]⟩;have h3:=BA at_ ⟨#[100,105,103,101,115,116]⟩;have h4:=fun m to d=>MC p m to d n
  try simp only[AA] at *
  try simp only[fAddEntry,fAddSlot,fAllowsInline,fFindAttr,A5,std,Nat.reduceAdd,script,fFindAttr,fAddSlot,fAllowsInline,fAddEntry] at *
  try simp(disch:=omega) only[wrapId',toNat1] at *
  try simp(disch:=omega) only[Qa2,Qa3]
 all_goals first|trivial|omega|grind[wrapId',toNat1,drop_cons,drop_end,good_len,maxLen,script,fFindAttr,fAddSlot,fAllowsInline,fAddEntry])
def Amp:=Ajk.G Bk<|GS.of (S:=Bk) (L:=fun _ _=>none) (kp:=(KP [2,3,4,6,7,9,10,11,12] [31,46])) Ajk.2 func328 (by kernel_rfl) (by kernel_rfl) (by
 rintro⟨(p:SPage),(t:SToken),(n:Int),_⟩ hp;refine ho (let q1_:=GS.out Bk ((p,()),(()));.cl fFindAttr (t.bn,(⟨#[100,105,103,101,115,116]⟩:ByteArray),()) fun z2=>.cl fFindAttr (t.bn,(⟨#[104,114,101,102]⟩:ByteArray),()) fun z3=>.cl fFindAttr (t.bn,(⟨#[115,114,99]⟩:ByteArray),()) fun z4=>let q0_:Out:=.br (t.name.toList==(⟨#[105,109,103]⟩:ByteArray).toList) (.br (z4.2.1) (.cl fAddSlot (p,(1:Int),z4.1,z2.1,n,()) fun(z6:SPage×Int×PUnit)=>GS.out Bk ((z6.1,()),(()))) q1_) q1_;.br (t.name.toList==(⟨#[108,105,110,107]⟩:ByteArray).toList) (.br (z3.2.1) (.cl fAddSlot (p,(2:Int),z3.1,z2.1,n,()) fun(z5:SPage×Int×PUnit)=>GS.out Bk ((z5.1,()),(()))) q0_) q0_) ?_;repeat' (guard_target =~ Out.holds _ _;first|refine GS.leafY ?_|refine Ab (fun _=>?_) fun _=>?_|refine Ae ?_ fun _=>?_)
 all_goals
  have h1:=BA t.bn ⟨#[104,114,101,102]⟩;have h2:=BA t.bn ⟨#[115,114,99]⟩;have h3:=BA t.bn ⟨#[100,105,103,101,115,116]⟩;have h4:szL A0 t.bn<=4000000000/\t.bn.length<=4000000000:=by have q:=hp.2.2;have:=Ad A0 t.bn;simp only[Al] at q;omega
  try simp only[AA] at *
  try simp only[fAddSlot,Bk,fFindAttr,std,Nat.reduceAdd,element,fFindAttr,fAddSlot] at *
  try simp(disch:=omega) only[wrapId',toNat1] at *
  try simp(disch:=omega) only[Qa2,Qa3]
 all_goals first|trivial|omega|grind[wrapId',toNat1,drop_cons,drop_end,good_len,maxLen,element,fFindAttr,fAddSlot])
def AkS:=Amp.G A5<|GS.of (S:=A5) (L:=fun _ _=>none) (kp:=(KP [1,2,4,5,6,8,10,12,13,14] [53,59,62,73])) Amp.2 func329 (by kernel_rfl) (by kernel_rfl) (by
 rintro⟨(p:SPage),(n:Int),_⟩ hp;refine ho (let q0_:=p.ba.bh.getD (Int.toNat n) default;.ob (inB n p.ba.bh.length)<|.ob (Int.toNat n<p.ba.bh.length)<|.cl fFindAttr (q0_.bn,(⟨#[100,105,103,101,115,116]⟩:ByteArray),()) fun z2=>.cl fFindAttr (q0_.bn,(⟨#[107,105,110,100]⟩:ByteArray),()) fun z3=>.cl fFindAttr (q0_.bn,(⟨#[110,111,110,99,101]⟩:ByteArray),()) fun z4=>.cl fFindAttr (q0_.bn,(⟨#[115,114,99]⟩:ByteArray),()) fun z5=>.br (!z5.2.1) (.cl fAllowsInline (p.bi,z4.1,()) fun z6=>.br (z6.1) (GS.out A5 (({p with inline:=n},()),(()))) (GS.out A5 ((p,()),(())))) (.br (z3.1.toList==(⟨#[100,101,102,101,114]⟩:ByteArray).toList) (.cl fAddSlot (p,(4:Int),z5.1,z2.1,n,()) fun(z7:SPage×Int×PUnit)=>GS.out A5 ((z7.1,()),(()))) (.br (z3.1.toList==(⟨#[109,111,100,117,108,101]⟩:ByteArray).toList) (.cl fAddEntry (p,z5.1,()) fun z8=>GS.out A5 ((z8.1,()),(()))) (.cl fAddSlot (p,(3:Int),z5.1,z2.1,n,()) fun(z9:SPage×Int×PUnit)=>GS.out A5 (({z9.1 with block:=w1 z9.2.1},()),(())))))) ?_;refine Aa ?_ fun o1=>Aa ?_ fun o2=>Ae ?_ fun o3=>(Ae ?_ fun o4=>(Ae ?_ fun o5=>(Ae ?_ fun o6=>(Ab (fun h7=>Ae trivial fun _=>(Ab (fun h8=>GS.leafY ?_) (fun h8=>GS.leafY ?_))) (fun h7=>Ab (fun h9=>Ae ?_ fun o10=>(GS.leafY ?_)) (fun h9=>Ab (fun h11=>Ae ?_ fun o12=>(GS.leafY ?_)) (fun h11=>Ae ?_ fun o13=>(GS.leafY ?_))))))))
 all_goals
  have hn:=I3 p.ba.bh n.toNat (by have q1:0<=n:=hp.2.2.2.1;have q2:n<p.ba.bh.length:=hp.2.2.2.2;omega);have hn2:=Ad A0 (p.ba.bh.getD n.toNat default).bn
 all_goals generalize hat:(p.ba.bh.getD n.toNat default).bn=at_ at *
 all_goals
  have h1:=BA at_ ⟨#[110,111,110,99,101]⟩;have h2:=BA at_ ⟨#[115,114,99]⟩;have h3:=BA at_ ⟨#[100,105,103,101,115,116]⟩;have h4:=fun m to d=>MC p m to d n
  try simp only[AA] at *
  try simp only[fAddEntry,fAddSlot,fAllowsInline,fFindAttr,A5,std,Nat.reduceAdd,script,fFindAttr,fAddSlot,fAllowsInline,fAddEntry] at *
  try simp(disch:=omega) only[wrapId',toNat1] at *
  try simp(disch:=omega) only[Qa2,Qa3]
 all_goals first|trivial|omega|grind[wrapId',toNat1,drop_cons,drop_end,good_len,maxLen,script,fFindAttr,fAddSlot,fAllowsInline,fAddEntry])
def isScript (p:SPage) (t:SToken):Bool:=decide (t.kind=2)&&(decide (t.name=⟨#[115,99,114,105,112,116]⟩)&&(decide (0<p.ba.bj.length/\1<=lastOpen p.ba/\lastOpen p.ba<p.ba.bh.length)&&decide ((p.ba.bh.getD (lastOpen p.ba).toNat default).name=⟨#[115,99,114,105,112,116]⟩)))
def taken (p:SPage) (t:SToken):SPage:={ p with bm:=p.bm.drop 1,ba:=(addToken p.ba t).1 }
def takeTok (p:SPage) (t:SToken):SPage :=
 if t.kind=1/\0<=(addToken p.ba t).2 then element (taken p t) t (addToken p.ba t).2
 else if isScript p t=true then script (taken p t) (lastOpen p.ba)
 else taken p t
def takeToken (p:SPage):SPage×Bool:=if p.bm.length=0\/p.block≠0\/p.inline≠0 then(p,false) else(takeTok p (p.bm.getD 0 default),true)
theorem AcM {l:List SToken}:cut l 1 (l.length-1)=l.drop 1:=by
 unfold cut;rw[Qb3 (by simp)]
theorem Sa (p:SPage) (t:SToken):(⟨p.addr,p.bi,p.tok,cut p.bm 1 (p.bm.length-1),p.ended,(addToken p.ba t).1,p.bd,p.bg,p.bf,p.block,p.inline,p.bl,p.bp,p.ran,p.log,p.loaded⟩:SPage)=taken p t:=by rw[AcM];rfl
theorem IY (b:SBuilder) (n:ByteArray):∀ k,k<=b.bj.length->(closeN b n k).length<=b.bj.length
 | 0,_=>Qa8 _
 | 1,_=>Qa8 _
 | m+2,h=>by
  rw[closeN];split
  ·rw[Qc1];omega
  ·exact IY b n (m+1) (by omega)
theorem HX (b:SBuilder) (t:SToken):szL szNode (addToken b t).1.bh<=szL szNode b.bh+Al t+1/\(addToken b t).1.bj.length<=b.bj.length+1/\(t.kind=2->(addToken b t).1.bh=b.bh):=by
 have h0:szL szNode []=0:=rfl;have h2:szL A0 []=0:=rfl;have h3:ByteArray.size ⟨#[]⟩=0:=rfl;unfold addToken;split
 ·have:=IY b t.name _ (Qa8 _);exact⟨by show szL szNode b.bh<=_;omega,by show(closeN b t.name b.bj.length).length<=_;omega,fun _=>rfl⟩
 ·split
  ·split
   ·refine⟨?_,?_,fun h=>absurd h (by omega)⟩
    ·dsimp only;rw[CV,Ax,h0];simp only[szNode,Al,h3];omega
    ·dsimp only;split
     ·omega
     ·simp
   ·refine⟨?_,?_,fun h=>absurd h (by omega)⟩
    ·dsimp only;rw[CV,Ax,h0];simp only[szNode,Al,h3,h2];omega
    ·exact Nat.le_succ _
  ·exact⟨by dsimp only;omega,Nat.le_succ _,fun _=>rfl⟩
theorem Oq (p:SPage) (h:0<p.bm.length):szPage (taken p (p.bm.getD 0 default))<=szPage p+2/\Al (p.bm.getD 0 default)+1+szL Al (p.bm.drop 1)=szL Al p.bm:=by
 have h1:=KI Al h;rw[Qf0,Qd4] at h1;have h2:=HX p.ba (p.bm.getD 0 default);refine⟨?_,h1.symm⟩;simp only[szPage,taken,szBuilder];omega
theorem Jq {p:SPage} {t:SToken} (h1:t.kind=2) (h2:t.name=⟨#[115,99,114,105,112,116]⟩) (h3:0<p.ba.bj.length) (h4:1<=lastOpen p.ba) (h5:lastOpen p.ba<p.ba.bh.length) (h6:(p.ba.bh.getD (lastOpen p.ba).toNat default).name=⟨#[115,99,114,105,112,116]⟩):isScript p t=true:=by
 unfold isScript;rw[Qf2 h1,Qf2 h2,Qf2 ⟨h3,h4,h5⟩,Qf2 h6];rfl
theorem KS {p:SPage} {t:SToken} (h:¬ t.kind=2\/¬ t.name=⟨#[115,99,114,105,112,116]⟩\/¬ (0<p.ba.bj.length/\1<=lastOpen p.ba/\lastOpen p.ba<p.ba.bh.length)\/¬ (p.ba.bh.getD (lastOpen p.ba).toNat default).name=⟨#[115,99,114,105,112,116]⟩):¬ isScript p t=true:=by
 unfold isScript;simp only[Qa1,Qa7];rintro⟨q1,q2,q3,q4⟩;rcases h with h|h|h|h
 ·exact h q1
 ·exact h q2
 ·exact h q3
 ·exact h q4
theorem Mw {p:SPage} {t:SToken} (h1:t.kind=1) (h2:0<=(addToken p.ba t).2):takeTok p t=element (taken p t) t (addToken p.ba t).2:=by unfold takeTok;rw[Qa2 ⟨h1,h2⟩]
theorem Mc {p:SPage} {t:SToken} (h1:t.kind=2) (h2:isScript p t=true):takeTok p t=script (taken p t) (lastOpen p.ba):=by unfold takeTok;rw[Qa3 (by omega),Qa2 h2]
theorem My {p:SPage} {t:SToken} (h1:¬ t.kind=1\/(addToken p.ba t).2<0) (h2:¬ isScript p t=true):takeTok p t=taken p t:=by unfold takeTok;rw[Qa3 (by omega),Qa3 h2]
def okTok (p:SPage):Prop:=szPage p<=1000000000000/\p.addr.host.size<=4000000000/\(∀ i,i<p.bm.length->Al (p.bm.getD i default)<=1000000000)/\szL szNode p.ba.bh<=1000000000/\p.ba.bj.length<=1000000000
def AL:Fct:=⟨[.v (.el .page)],[.el .page,.el .bool],fun(x_:SPage×Unit)=>okTok x_.1,fun(x_:SPage×Unit)=>((takeToken x_.1).1,(takeToken x_.1).2,())⟩
def Aj6:=AkS.a AL<|Fct.o (KP [1,2,3,4,5,6,7,8] [24,38,64,95]) AkS.2 func306 (by
 rintro⟨(p:SPage),_⟩ hp;refine ho (let q18_:=(p.ba.bj.length:Int);let q8_:=(p.ba.bh.length:Int);let q21_:=q8_-(1:Int);let q20_:=(0:Int)<=(-1:Int)/\(-1:Int)<q8_;let q6_:=(⟨#[115,99,114,105,112,116]⟩:ByteArray);let q19_:=(p.ba.bh.getD 0 default).name.toList==q6_.toList;let q2_:=q18_-(1:Int);let q13_:=0<=p.ba.bj.getD (wr q2_).toNat default/\p.ba.bj.getD (wr q2_).toNat default<q8_;let q12_:=(p.ba.bh.getD (p.ba.bj.getD (wr q2_).toNat default).toNat default).name.toList==q6_.toList;.cl fCopyPage (p,()) fun z2=>let q23_:=(z2.1.bm.length:Int);let q17_:Out:=.lf AL (z2.1,false,());let q7_:=z2.1.bm.getD 0 default;let q22_:=q7_.kind==2;let q16_:=q7_.name.toList==q6_.toList;let q3_:=z2.1.bm.length-1;let q11_:=1+q3_<=z2.1.bm.length;.br ((p.bm.length:Int)==0) q17_ (.br (p.block != 0) q17_ (.br (p.inline != 0) q17_ (.ob ((0:Int)<=(0:Int)/\(0:Int)<q23_)<|.ob (0<z2.1.bm.length)<|.ob ((0:Int)<=(1:Int)/\(1:Int)<=q23_)<|.br (decide (q18_>0)) (.ob (0<=wr q2_/\wr q2_<q18_)<|.cl AS (p.ba,z2.1.bm.getD 0 default,()) fun(z3:SBuilder×Int×PUnit)=>let q10_:=({z2.1 with bm:=cut z2.1.bm 1 q3_,ba:=z3.1}:SPage);let q5_:Out:=.ob q11_<|.lf AL ({z2.1 with bm:=cut z2.1.bm 1 q3_,ba:=z3.1},true,());let q0_:Out:=.br q22_ (.br q16_ (.cl fInRange (p.ba.bj.getD (wr q2_).toNat default,(1:Int),wr q21_,()) fun z7=>.br (z7.1) (.ob q13_<|.br q12_ (.ob q11_<|.ob (A5.pre (q10_,p.ba.bj.getD (wr q2_).toNat default,()))<|.lt _ (A5.fn (q10_,p.ba.bj.getD (wr q2_).toNat default,())) fun z8=>.lf AL (z8.1.1,true,())) q5_) q5_) q5_) q5_;.br (q7_.kind==1) (.br (decide (z3.2.1>=0)) (.ob q11_<|.ob (Bk.pre (q10_,z2.1.bm.getD 0 default,z3.2.1,()))<|.lt _ (Bk.fn (q10_,z2.1.bm.getD 0 default,z3.2.1,())) fun z4=>let q15_:Out:=.lf AL (z4.1.1,true,());.br q22_ (.br q16_ (.cl fInRange (p.ba.bj.getD (wr q2_).toNat default,(1:Int),wr q21_,()) fun z5=>.br (z5.1) (.ob q13_<|.br q12_ (.ob (A5.pre (z4.1.1,p.ba.bj.getD (wr q2_).toNat default,()))<|.lt _ (A5.fn (z4.1.1,p.ba.bj.getD (wr q2_).toNat default,())) fun z6=>.lf AL (z6.1.1,true,())) q15_) q15_) q15_) q15_) q0_) q0_) (.cl AS (p.ba,z2.1.bm.getD 0 default,()) fun(z11:SBuilder×Int×PUnit)=>let q9_:=({z2.1 with bm:=cut z2.1.bm 1 q3_,ba:=z11.1}:SPage);let q4_:Out:=.ob q11_<|.lf AL ({z2.1 with bm:=cut z2.1.bm 1 q3_,ba:=z11.1},true,());let q1_:Out:=.br q22_ (.br q16_ (.cl fInRange ((-1:Int),(1:Int),wr q21_,()) fun z15=>.br (z15.1) (.ob q20_<|.br q19_ (.ob q11_<|.ob (A5.pre (q9_,(-1:Int),()))<|.lt _ (A5.fn (q9_,(-1:Int),())) fun z16=>.lf AL (z16.1.1,true,())) q4_) q4_) q4_) q4_;.br (q7_.kind==1) (.br (decide (z11.2.1>=0)) (.ob q11_<|.ob (Bk.pre (q9_,z2.1.bm.getD 0 default,z11.2.1,()))<|.lt _ (Bk.fn (q9_,z2.1.bm.getD 0 default,z11.2.1,())) fun z12=>let q14_:Out:=.lf AL (z12.1.1,true,());.br q22_ (.br q16_ (.cl fInRange ((-1:Int),(1:Int),wr q21_,()) fun z13=>.br (z13.1) (.ob q20_<|.br q19_ (.ob (A5.pre (z12.1.1,(-1:Int),()))<|.lt _ (A5.fn (z12.1.1,(-1:Int),())) fun z14=>.lf AL (z14.1.1,true,())) q14_) q14_) q14_) q14_) q1_) q1_))))) ?_;repeat' first|(guard_target =~ Out.holds _ _;first|refine lfY ?_|refine Ab (fun _=>?_) fun _=>?_|refine Ae ?_ fun _=>?_|refine Aa ?_ fun _=>?_|refine Dh ?_)|exact trivial
 all_goals have hpp:=DJ p
 all_goals obtain⟨hp1,hp2,hp3,hp4,hp7⟩:=(show okTok p from hp)
 all_goals
  have hl1:=Ad szNode p.ba.bh;have hl2:szBuilder p.ba<=2000000000:=by(unfold szBuilder;omega)
  try simp only[AA] at *
  try simp only[AS,fCopyPage,Bk,fInRange,A5,AL,std,Nat.reduceAdd,fCopyPage,AS,fInRange,inRange,Bk,A5] at *
 all_goals first|trivial|omega|(unfold takeToken;(first|rw[Qa2 (by exact .inl (by omega))]|rw[Qa2 (by exact .inr (.inl (by assumption)))]|rw[Qa2 (by exact .inr (.inr (by assumption)))]);exact⟨rfl,rfl⟩)|skip
 all_goals
  have htz:=Oq p (by omega);have ht0:=hp3 0 (by omega);have haz:=HX p.ba (p.bm.getD 0 default);try simp only[Ah (show -9223372036854775808<=(p.ba.bj.length:Int)-1/\(p.ba.bj.length:Int)-1<=9223372036854775807 by omega),Ah (show -9223372036854775808<=(p.ba.bh.length:Int)-1/\(p.ba.bh.length:Int)-1<=9223372036854775807 by omega),FY,Sa] at *
 all_goals first|trivial|omega|skip
 all_goals try rw[show takeToken p=(takeTok p (p.bm.getD 0 default),true) by(unfold takeToken;rw[Qa3 (by omega)])]
 all_goals generalize p.bm.getD 0 default=t at *
 all_goals try simp only[show(taken p t).addr=p.addr from rfl,show(taken p t).ba=(addToken p.ba t).1 from rfl] at *
 all_goals first|trivial|omega|skip
 all_goals try simp only[Qa1,Qe4,Qa7,Qb0,Qe1] at *
 all_goals first|trivial|omega|skip
 all_goals try (have hnn:(addToken p.ba t).1.bh=p.ba.bh:=haz.2.2 (by assumption);rw[hnn])
 all_goals first|trivial|omega|skip
 all_goals first|rw[Mw (by assumption) (by omega)]|rw[Mc (by assumption) (Jq (by assumption) (by assumption) (by omega) (by omega) (by omega) (by assumption))]|rw[My (by first|exact .inl (by assumption)|exact .inr (by omega)) (KS (by first|exact .inl (by omega)|exact .inr (.inl (by assumption))|exact .inr (.inr (.inl (by omega)))|exact .inr (.inr (.inr (by assumption)))))])
def AkH:=Aj6.a AL<|Fct.o (KP [1,2,3,4,5,6,7,8,9,10] [26,51,78,95,101]) Aj6.2 func276 (by
 rintro⟨(p:SPage),_⟩ hp;refine ho (let q14_:=(p.ba.bh.length:Int);let q13_:=decide ((-1:Int)>=(1:Int));let q12_:=(⟨#[115,99,114,105,112,116]⟩:ByteArray);let q11_:=(p.ba.bj.length:Int);let q3_:=q11_-(1:Int);let q8_:=decide (p.ba.bj.getD (wr q3_).toNat default>=1);.cl fCopyPage (p,()) fun z2=>let q15_:=(z2.1.bm.length:Int);let q10_:Out:=.lf AL (z2.1,false,());let q9_:=z2.1.bm.getD 0 default;let q4_:=z2.1.bm.length-1;let q7_:=1+q4_<=z2.1.bm.length;let q0_:Out:=.cl AS (z2.1.ba,z2.1.bm.getD 0 default,()) fun(z8:SBuilder×Int×PUnit)=>let q5_:=({z2.1 with bm:=cut z2.1.bm 1 q4_,ba:=z8.1}:SPage);let q2_:Out:=.br q13_ (.ob q7_<|.ob (A5.pre (q5_,(-1:Int),()))<|.lt _ (A5.fn (q5_,(-1:Int),())) fun z11=>.lf AL (z11.1.1,true,())) (.ob q7_<|.lf AL ({z2.1 with bm:=cut z2.1.bm 1 q4_,ba:=z8.1},true,()));.br (decide (z8.2.1>=0)) (.br (q9_.kind==1) (.ob q7_<|.ob (Bk.pre (q5_,z2.1.bm.getD 0 default,z8.2.1,()))<|.lt _ (Bk.fn (q5_,z2.1.bm.getD 0 default,z8.2.1,())) fun z9=>.br q13_ (.ob (A5.pre (z9.1.1,(-1:Int),()))<|.lt _ (A5.fn (z9.1.1,(-1:Int),())) fun z10=>.lf AL (z10.1.1,true,())) (.lf AL (z9.1.1,true,()))) q2_) q2_;.br ((p.bm.length:Int)==0) q10_ (.br (p.block != 0) q10_ (.br (p.inline != 0) q10_ (.ob ((0:Int)<=(0:Int)/\(0:Int)<q15_)<|.ob (0<z2.1.bm.length)<|.ob ((0:Int)<=(1:Int)/\(1:Int)<=q15_)<|.br (q9_.kind==2) (.br (q9_.name.toList==q12_.toList) (.br (decide (q11_>0)) (.ob (0<=wr q3_/\wr q3_<q11_)<|.br q8_ (.br (decide (p.ba.bj.getD (wr q3_).toNat default<q14_)) (.ob (0<=p.ba.bj.getD (wr q3_).toNat default/\p.ba.bj.getD (wr q3_).toNat default<q14_)<|.br ((p.ba.bh.getD (p.ba.bj.getD (wr q3_).toNat default).toNat default).name.toList==q12_.toList) (.cl AS (z2.1.ba,z2.1.bm.getD 0 default,()) fun(z3:SBuilder×Int×PUnit)=>let q6_:=({z2.1 with bm:=cut z2.1.bm 1 q4_,ba:=z3.1}:SPage);let q1_:Out:=.br q8_ (.ob q7_<|.ob (A5.pre (q6_,p.ba.bj.getD (wr q3_).toNat default,()))<|.lt _ (A5.fn (q6_,p.ba.bj.getD (wr q3_).toNat default,())) fun z6=>.lf AL (z6.1.1,true,())) (.ob q7_<|.lf AL ({z2.1 with bm:=cut z2.1.bm 1 q4_,ba:=z3.1},true,()));.br (decide (z3.2.1>=0)) (.br (q9_.kind==1) (.ob q7_<|.ob (Bk.pre (q6_,z2.1.bm.getD 0 default,z3.2.1,()))<|.lt _ (Bk.fn (q6_,z2.1.bm.getD 0 default,z3.2.1,())) fun z4=>.br q8_ (.ob (A5.pre (z4.1.1,p.ba.bj.getD (wr q3_).toNat default,()))<|.lt _ (A5.fn (z4.1.1,p.ba.bj.getD (wr q3_).toNat default,())) fun z5=>.lf AL (z5.1.1,true,())) (.lf AL (z4.1.1,true,()))) q1_) q1_) q0_) q0_) q0_) q0_) q0_) q0_)))) ?_;refine Ae ?_ fun o1=>(Ab (fun h2=>lfY ?_) (fun h2=>Ab (fun h3=>lfY ?_) (fun h3=>Ab (fun h4=>lfY ?_) (fun h4=>Aa ?_ fun o5=>Aa ?_ fun o6=>Aa ?_ fun o7=>Ab (fun h8=>Ab (fun h9=>Ab (fun h10=>Aa ?_ fun o11=>Ab (fun h12=>Ab (fun h13=>Aa ?_ fun o14=>Ab (fun h15=>Ae ?_ fun o16=>(Ab (fun h17=>Ab (fun h18=>Aa ?_ fun o19=>Aa ?_ fun o20=>Dh (Ab (fun h21=>Aa ?_ fun o22=>Dh (lfY ?_)) (fun h21=>lfY ?_))) (fun h18=>Ab (fun h23=>Aa ?_ fun o24=>Aa ?_ fun o25=>Dh (lfY ?_)) (fun h23=>Aa ?_ fun o26=>lfY ?_))) (fun h17=>Ab (fun h27=>Aa ?_ fun o28=>Aa ?_ fun o29=>Dh (lfY ?_)) (fun h27=>Aa ?_ fun o30=>lfY ?_)))) (fun h15=>Ae ?_ fun o31=>(Ab (fun h32=>Ab (fun h33=>Aa ?_ fun o34=>Aa ?_ fun o35=>Dh (Ab (fun h36=>Aa ?_ fun o37=>Dh (lfY ?_)) (fun h36=>lfY ?_))) (fun h33=>Ab (fun h38=>Aa ?_ fun o39=>Aa ?_ fun o40=>Dh (lfY ?_)) (fun h38=>Aa ?_ fun o41=>lfY ?_))) (fun h32=>Ab (fun h42=>Aa ?_ fun o43=>Aa ?_ fun o44=>Dh (lfY ?_)) (fun h42=>Aa ?_ fun o45=>lfY ?_))))) (fun h13=>Ae ?_ fun o46=>(Ab (fun h47=>Ab (fun h48=>Aa ?_ fun o49=>Aa ?_ fun o50=>Dh (Ab (fun h51=>Aa ?_ fun o52=>Dh (lfY ?_)) (fun h51=>lfY ?_))) (fun h48=>Ab (fun h53=>Aa ?_ fun o54=>Aa ?_ fun o55=>Dh (lfY ?_)) (fun h53=>Aa ?_ fun o56=>lfY ?_))) (fun h47=>Ab (fun h57=>Aa ?_ fun o58=>Aa ?_ fun o59=>Dh (lfY ?_)) (fun h57=>Aa ?_ fun o60=>lfY ?_))))) (fun h12=>Ae ?_ fun o61=>(Ab (fun h62=>Ab (fun h63=>Aa ?_ fun o64=>Aa ?_ fun o65=>Dh (Ab (fun h66=>Aa ?_ fun o67=>Dh (lfY ?_)) (fun h66=>lfY ?_))) (fun h63=>Ab (fun h68=>Aa ?_ fun o69=>Aa ?_ fun o70=>Dh (lfY ?_)) (fun h68=>Aa ?_ fun o71=>lfY ?_))) (fun h62=>Ab (fun h72=>Aa ?_ fun o73=>Aa ?_ fun o74=>Dh (lfY ?_)) (fun h72=>Aa ?_ fun o75=>lfY ?_))))) (fun h10=>Ae ?_ fun o76=>(Ab (fun h77=>Ab (fun h78=>Aa ?_ fun o79=>Aa ?_ fun o80=>Dh (Ab (fun h81=>Aa ?_ fun o82=>Dh (lfY ?_)) (fun h81=>lfY ?_))) (fun h78=>Ab (fun h83=>Aa ?_ fun o84=>Aa ?_ fun o85=>Dh (lfY ?_)) (fun h83=>Aa ?_ fun o86=>lfY ?_))) (fun h77=>Ab (fun h87=>Aa ?_ fun o88=>Aa ?_ fun o89=>Dh (lfY ?_)) (fun h87=>Aa ?_ fun o90=>lfY ?_))))) (fun h9=>Ae ?_ fun o91=>(Ab (fun h92=>Ab (fun h93=>Aa ?_ fun o94=>Aa ?_ fun o95=>Dh (Ab (fun h96=>Aa ?_ fun o97=>Dh (lfY ?_)) (fun h96=>lfY ?_))) (fun h93=>Ab (fun h98=>Aa ?_ fun o99=>Aa ?_ fun o100=>Dh (lfY ?_)) (fun h98=>Aa ?_ fun o101=>lfY ?_))) (fun h92=>Ab (fun h102=>Aa ?_ fun o103=>Aa ?_ fun o104=>Dh (lfY ?_)) (fun h102=>Aa ?_ fun o105=>lfY ?_))))) (fun h8=>Ae ?_ fun o106=>(Ab (fun h107=>Ab (fun h108=>Aa ?_ fun o109=>Aa ?_ fun o110=>Dh (Ab (fun h111=>Aa ?_ fun o112=>Dh (lfY ?_)) (fun h111=>lfY ?_))) (fun h108=>Ab (fun h113=>Aa ?_ fun o114=>Aa ?_ fun o115=>Dh (lfY ?_)) (fun h113=>Aa ?_ fun o116=>lfY ?_))) (fun h107=>Ab (fun h117=>Aa ?_ fun o118=>Aa ?_ fun o119=>Dh (lfY ?_)) (fun h117=>Aa ?_ fun o120=>lfY ?_))))))))
 all_goals have hpp:=DJ p
 all_goals obtain⟨hp1,hp2,hp3,hp4,hp7⟩:=(show okTok p from hp)
 all_goals
  have hl1:=Ad szNode p.ba.bh;have hl2:szBuilder p.ba<=2000000000:=by(unfold szBuilder;omega)
  try simp only[AA] at *
  try simp only[AS,fCopyPage,Bk,A5,AL,std,Nat.reduceAdd,fCopyPage,AS,fInRange,inRange,Bk,A5] at *
 all_goals first|trivial|omega|(unfold takeToken;(first|rw[Qa2 (by exact .inl (by omega))]|rw[Qa2 (by exact .inr (.inl (by assumption)))]|rw[Qa2 (by exact .inr (.inr (by assumption)))]);exact⟨rfl,rfl⟩)|skip
 all_goals
  have htz:=Oq p (by omega);have ht0:=hp3 0 (by omega);have haz:=HX p.ba (p.bm.getD 0 default);try simp only[Ah (show -9223372036854775808<=(p.ba.bj.length:Int)-1/\(p.ba.bj.length:Int)-1<=9223372036854775807 by omega),Ah (show -9223372036854775808<=(p.ba.bh.length:Int)-1/\(p.ba.bh.length:Int)-1<=9223372036854775807 by omega),FY,Sa] at *
 all_goals first|trivial|omega|skip
 all_goals try rw[show takeToken p=(takeTok p (p.bm.getD 0 default),true) by(unfold takeToken;rw[Qa3 (by omega)])]
 all_goals generalize p.bm.getD 0 default=t at *
 all_goals try simp only[show(taken p t).addr=p.addr from rfl,show(taken p t).ba=(addToken p.ba t).1 from rfl] at *
 all_goals first|trivial|omega|skip
 all_goals try simp only[Qa1,Qe4,Qa7,Qb0,Qe1] at *
 all_goals first|trivial|omega|skip
 all_goals try (have hnn:(addToken p.ba t).1.bh=p.ba.bh:=haz.2.2 (by assumption);rw[hnn])
 all_goals first|trivial|omega|skip
 all_goals first|rw[Mw (by assumption) (by omega)]|rw[Mc (by assumption) (Jq (by assumption) (by assumption) (by omega) (by omega) (by omega) (by assumption))]|rw[My (by first|exact .inl (by assumption)|exact .inr (by omega)) (KS (by first|exact .inl (by omega)|exact .inr (.inl (by assumption))|exact .inr (.inr (.inl (by omega)))|exact .inr (.inr (.inr (by assumption)))))])
def blk (p:SPage):Int:=IntKind.i64.wrap (p.block-1)
def okParse (p:SPage):Prop:=okTok p/\szL AI p.bd<=40000000000/\okBod p
def stepInline (p:SPage):SPage×Bool:=if stylesReady p.bd=true then({ runCode p (textOf p.inline p.ba.bh ⟨#[]⟩) true with inline:=0 },true) else(p,false)
def stepBlock (p:SPage):SPage×Bool :=
 if ¬ (0<=blk p/\blk p<p.bd.length) then({ p with block:=0 },true)
 else if(p.bd.getD (blk p).toNat default).done=false\/stylesReady p.bd=false then(p,false)
 else if(p.bd.getD (blk p).toNat default).code=1 then({ runCode p (p.bd.getD (blk p).toNat default).body true with block:=0 },true)
 else({ p with block:=0 },true)
def stepParser (p:SPage):SPage×Bool:=if p.inline≠0 then stepInline p else if p.block≠0 then stepBlock p else takeToken p
theorem H3 (n:Int):∀ (l:List SNode) (s:ByteArray),(textOf n l s).size<=s.size+szL szNode l
 | [],s=>Qg5 _ _
 | x::l,s=>by
  rw[textOf,Ax];split
  ·have:=H3 n l (s++x.text);rw[Qb5] at this;simp only[szNode];omega
  ·have:=H3 n l s;omega
theorem tf {b:Bool} (h:b=true) (h2:b=false):False:=by rw[h] at h2;cases h2
theorem N1 (p:SPage):IntKind.i64.wrap (p.block-1)=blk p:=rfl
def AV:Fct:=⟨[.v (.el .page)],[.el .page,.el .bool],fun(x_:SPage×Unit)=>okParse x_.1,fun(x_:SPage×Unit)=>((stepParser x_.1).1,(stepParser x_.1).2,())⟩
def Akf:=AkH.a AV<|Fct.o (KP [1,2,3,4,5,6,7] [10,13,27,37,53,64]) AkH.2 func246 (by
 rintro⟨(p:SPage),_⟩ hp;refine ho (let q4_:=(p.bd.length:Int);let q3_:=p.block-(1:Int);let q2_:=p.bd.getD (wr q3_).toNat default;let q1_:Out:=.cl fCopyPage (p,()) fun z3=>.lf AV (z3.1,false,());let q0_:=0<=wr q3_/\wr q3_<q4_;.br (p.inline != 0) (.cl Az (p,()) fun z2=>.br (!z2.1) q1_ (.cl Ew (p.ba,p.inline,()) fun z4=>.cl Bo (p,z4.1,true,()) fun z5=>.lf AV ({z5.1 with inline:=(0:Int)},true,()))) (.br (p.block != 0) (.cl fInRange (wr q3_,(0:Int),wr (q4_-(1:Int)),()) fun z6=>.br (!z6.1) (.cl fCopyPage (p,()) fun z7=>.lf AV ({z7.1 with block:=(0:Int)},true,())) (.ob q0_<|.br (!q2_.done) q1_ (.cl Az (p,()) fun z9=>.br (!z9.1) q1_ (.cl fCopyPage (p,()) fun z11=>.ob q0_<|.br (q2_.code==1) (.ob q0_<|.cl Bo (p,q2_.body,true,()) fun z12=>.lf AV ({z12.1 with block:=(0:Int)},true,())) (.lf AV ({z11.1 with block:=(0:Int)},true,())))))) (.cl AL (p,()) fun z13=>.lf AV (z13.1,z13.2.1,())))) ?_;refine Ab (fun h1=>Ae ?_ fun o2=>(Ab (fun h3=>Ae ?_ fun o4=>(lfY ?_)) (fun h3=>Ae ?_ fun o5=>(Ae ?_ fun o6=>(lfY ?_))))) (fun h1=>Ab (fun h7=>Ae trivial fun _=>(Ab (fun h8=>Ae ?_ fun o9=>(lfY ?_)) (fun h8=>Aa ?_ fun o10=>Ab (fun h11=>Ae ?_ fun o12=>(lfY ?_)) (fun h11=>Ae ?_ fun o13=>(Ab (fun h14=>Ae ?_ fun o15=>(lfY ?_)) (fun h14=>Ae ?_ fun o16=>(Aa ?_ fun o17=>Ab (fun h18=>Aa ?_ fun o19=>Ae ?_ fun o20=>(lfY ?_)) (fun h18=>lfY ?_)))))))) (fun h7=>Ae ?_ fun o21=>(lfY ?_)));all_goals obtain⟨hp0,hp6,hp5⟩:=(show okParse p from hp)
 all_goals obtain⟨hp1,hp2,hp3,hp4,hp7⟩:=(show okTok p from hp0)
 all_goals
  have hbb:szBuilder p.ba<=2000000000:=by(unfold szBuilder;omega)
  have hpp:=DJ p;have hsl:=Ad AI p.bd;have hnl:=Ad szNode p.ba.bh;have htx:=H3 p.inline p.ba.bh ⟨#[]⟩
 all_goals rw[show ByteArray.size ⟨#[]⟩=0 from rfl] at htx
 all_goals
  try simp only[AA] at *
  try simp only[fCopyPage,fInRange,Bo,AV,Az,AL,Ew,std,Nat.reduceAdd,Az,fCopyPage,Ew,Bo,fInRange,inRange,AL,N1] at *
  try simp only[N1,Qa1,Qe4,Qa7,Qb0,Ah (show -9223372036854775808<=(p.bd.length:Int)-1/\(p.bd.length:Int)-1<=9223372036854775807 by omega)] at *
 all_goals first|trivial|omega|exact hp0|exact⟨by omega,by omega,by omega,hp5 _ (by omega),hp5⟩|exact⟨by omega,by omega,by omega,by omega,hp5⟩|skip
 all_goals unfold stepParser
 all_goals first|rw[Qa2 (by assumption)]|(rw[Qa3 (by omega)];first|rw[Qa2 (by assumption)]|rw[Qa3 (by omega)])
 all_goals first|exact⟨rfl,rfl⟩|(unfold stepInline)|(unfold stepBlock)
 all_goals repeat first|rw[Qa2 (by assumption)]|rw[Qa3 (by intro q;first|exact tf q (by assumption)|exact tf (by assumption) q)]|rw[Qa2 (by omega)]|rw[Qa3 (by omega)]|rw[Qa2 (by exact .inl (by assumption))]|rw[Qa2 (by exact .inr (by assumption))]|rw[Qa3 (by rintro(q|q)<;>exact tf (by assumption) q)]|fail
 all_goals exact⟨rfl,rfl⟩)
theorem QZ {b:UInt8} {s:ByteArray} (hl:idxB b s<(toL s).length):(toL s)[idxB b s]=b:=by
 have hg:=List.findIdx_getElem (xs:=toL s) (p:=fun x=>x==b) (w:=hl);exact Qe9.1 hg
theorem S6 {b:UInt8} {s:ByteArray} (h:idxB b s<s.size):Es b (toL s)=some ((toL s).take (idxB b s),(toL s).drop (idxB b s+1)):=by
 have hl:idxB b s<(toL s).length:=h;refine Xc h ?_ ?_
 ·have hd:=G5 h;rw[List.drop_eq_getElem_cons hl] at hd;injection hd with hd
  rw[<-hd];exact QZ hl
 ·intro hm;obtain⟨j,hj,he⟩:=List.mem_take_iff_getElem.1 hm;have:=List.not_of_lt_findIdx (xs:=toL s) (p:=fun x=>x==b) (i:=j) (show j<(toL s).findIdx _ from Qf5 hj (Nat.min_le_left _ _));rw[he] at this;simp at this
theorem Yo {b:UInt8} {s:ByteArray} (h:¬ idxB b s<s.size):Es b (toL s)=none:=by
 refine J5 fun hm=>h ?_
 unfold idxB;rw[<-Bq];exact List.findIdx_lt_length_of_exists ⟨b,hm,by simp⟩
theorem AfU (s:ByteArray) (i:Nat):ofL ((toL s).take i)=s.extract 0 i:=by
 rw[<-C7 (s.extract 0 i),AY,Qf0]
theorem Oi (s:ByteArray) (i:Nat):ofL ((toL s).drop i)=s.extract i s.size:=by
 rw[<-C7 (s.extract i s.size),AY,Qb3 (by rw[Bq];exact Qa8 _)]
theorem GX (b:UInt8) (s:ByteArray):spl b s=if idxB b s<s.size then s.extract 0 (idxB b s)::spl b (s.extract (idxB b s+1) s.size) else[s]:=by
 rw[Gl];split
 ·rename_i hc;rw[Qa3];intro h;rw[S6 h] at hc;cases hc
 ·rename_i p q hc;by_cases h:idxB b s<s.size
  ·rw[Qa2 h];rw[S6 h] at hc;obtain⟨rfl,rfl⟩:=Prod.mk.inj (Option.some.inj hc);rw[AfU,Oi]
  ·rw[Yo h] at hc;cases hc
def gl59:List ByteArray->ByteArray
 | []=>⟨#[]⟩
 | [w]=>w
 | w::x::l=>w++⟨#[59]⟩++gl59 (x::l)
theorem Aea (w:ByteArray) {l:List ByteArray} (h:l≠[]):gl59 (w::l)=w++⟨#[59]⟩++gl59 l:=by
 cases l with
 | nil=>exact absurd rfl h
 | cons x l=>rfl
theorem Z3 {b:UInt8} {s:ByteArray} (h:idxB b s<s.size):s.extract 0 (idxB b s)++⟨#[b]⟩++s.extract (idxB b s+1) s.size=s:=by
 have hl:idxB b s<(toL s).length:=h;have e:toL s=(toL s).take (idxB b s)++b::(toL s).drop (idxB b s+1):=by have e2:(toL s)[idxB b s]=b:=QZ hl;have:=(Qd5 (idxB b s) (toL s)).symm;rw[List.drop_eq_getElem_cons hl,e2] at this;exact this
 rw[<-AfU,<-Oi];have e3:(⟨#[b]⟩:ByteArray)=ofL [b]:=rfl;rw[e3,<-Hj,<-Hj,Qb7,List.singleton_append,<-e,C7]
theorem AgI (b:UInt8) (s:ByteArray):spl b s≠[]:=by
 intro h;have:=(DE b s).1;rw[h] at this;cases this
theorem AcH:∀ (n:Nat) (s:ByteArray),s.size<=n->gl59 (spl 59 s)=s
 | 0,s,hn=>by
  rw[GX,Qa3 (by omega)];rfl
 | n+1,s,hn=>by
  rw[GX];by_cases h:idxB 59 s<s.size
  ·rw[Qa2 h,Aea _ (AgI _ _),AcH n _ (by rw[Qc4];omega)];exact Z3 h
  ·rw[Qa3 h];rfl
def impW:ByteArray:=⟨#[105,109,112,111,114,116,32]⟩
def hasImp (w:ByteArray):Prop:=7<=w.size/\w.extract 0 7=impW
instance (w:ByteArray):Decidable (hasImp w):=by unfold hasImp;exact inferInstance
def pmGo (b:ByteArray):List ByteArray->List SAddr->List SAddr×List SLine×Bool
 | [],acc=>(acc,[],true)
 | w::l,acc=>
  if hasImp w then(if(parseAddr (w.extract 7 w.size) b).2=true then pmGo b l (acc++[(parseAddr (w.extract 7 w.size) b).1]) else([],[],false))
  else if(parseScript (gl59 (w::l))).2=true then(acc,(parseScript (gl59 (w::l))).1,true) else([],[],false)
def parseModule (s b:ByteArray):List SAddr×List SLine×Bool:=pmGo b (spl 59 s) []
theorem Gd:parseScript ⟨#[]⟩=([],true):=rfl
theorem Agc (b:ByteArray) (acc:List SAddr):pmGo b (spl 59 ⟨#[]⟩) acc=(acc,[],true):=by
 rw[GX,Qa3 (by decide),pmGo,Qa3 (by unfold hasImp;decide)];show(if(parseScript ⟨#[]⟩).2=true then _ else _)=_;rw[Gd,Qa2 rfl];show(acc,(parseScript ⟨#[]⟩).1,true)=_;rw[Gd]
theorem Zo (s b:ByteArray):pmGo b (spl 59 s) []=parseModule s b:=rfl
theorem Xh {s:ByteArray} (h:hasImp s):7<=idxB 59 s:=by
 obtain⟨h1,h2⟩:=h;have e:(toL s).take 7=toL impW:=by rw[<-h2,AY,Qf0]
 have hn:(59:UInt8)∉(toL s).take 7:=by rw[e];decide
 rcases Nat.lt_or_ge (idxB 59 s) 7 with h3|h3
 ·exfalso;have h4:idxB 59 s<s.size:=by omega
  have hl:idxB 59 s<(toL s).length:=h4;apply hn;rw[List.mem_take_iff_getElem];exact⟨idxB 59 s,by omega,QZ hl⟩
 ·exact h3
theorem M3 {s:ByteArray} (h:idxB 59 s<s.size):hasImp (s.extract 0 (idxB 59 s))↔hasImp s:=by
 have hx:7<=idxB 59 s->(s.extract 0 (idxB 59 s)).extract 0 7=s.extract 0 7:=fun h7=>by apply ByteArray.ext;apply Array.ext';have:=AY (s.extract 0 (idxB 59 s)) 0 7;have e2:=AY s 0 (idxB 59 s);have e3:=AY s 0 7;rw[e2,Qf0,Qf0,List.take_take,Nat.min_eq_left h7] at this;rw[Qf0] at e3;exact this.trans e3.symm
 constructor
 ·rintro⟨h1,h2⟩;rw[Qc4] at h1;exact⟨by omega,by rw[<-h2,hx (by omega)]⟩
 ·intro hs;have h7:=Xh hs;exact⟨by rw[Qc4];omega,by rw[hx h7];exact hs.2⟩
theorem Xt {s:ByteArray} {k:Nat}:(s.extract 0 k).extract 7 (s.extract 0 k).size=s.extract 7 k:=by
 apply ByteArray.ext;apply Array.ext';have e1:=AY (s.extract 0 k) 7 (s.extract 0 k).size;have e2:=AY s 0 k;have e3:=AY s 7 k;rw[Qb3 (by rw[Bq];exact Qa8 _),e2,Qf0] at e1;exact e1.trans e3.symm
theorem AfA {b s:ByteArray} {acc:List SAddr} (h:hasImp s) (h2:(parseAddr (s.extract 7 (idxB 59 s)) b).2=true):pmGo b (spl 59 s) acc=pmGo b (spl 59 (s.extract (min s.size (idxB 59 s+1)) s.size)) (acc++[(parseAddr (s.extract 7 (idxB 59 s)) b).1]):=by
 by_cases hk:idxB 59 s<s.size
 ·rw[GX,Qa2 hk,pmGo,Qa2 ((M3 hk).2 h),Xt,Qa2 h2,Nat.min_eq_right (by omega)]
 ·have e:idxB 59 s=s.size:=by have:=Ev 59 s;omega
  rw[GX,Qa3 hk,pmGo,Qa2 h];rw[e] at h2 ⊢;rw[Qa2 h2,Nat.min_eq_left (by omega)];have e0:s.extract s.size s.size=⟨#[]⟩:=by rw[<-Oi,Qb6 (by rw[Bq];exact Qa8 _)];rfl
  rw[e0,Agc];rfl
theorem AfV {b s:ByteArray} {acc:List SAddr} (h:hasImp s) (h2:(parseAddr (s.extract 7 (idxB 59 s)) b).2=false):pmGo b (spl 59 s) acc=([],[],false):=by
 by_cases hk:idxB 59 s<s.size
 ·rw[GX,Qa2 hk,pmGo,Qa2 ((M3 hk).2 h),Xt,Qa3 (by rw[h2];decide)]
 ·have e:idxB 59 s=s.size:=by have:=Ev 59 s;omega
  rw[GX,Qa3 hk,pmGo,Qa2 h];rw[e] at h2;rw[Qa3 (by rw[h2];decide)]
theorem Agd {b s:ByteArray} {acc:List SAddr} (h:¬ hasImp s):pmGo b (spl 59 s) acc=if(parseScript s).2=true then(acc,(parseScript s).1,true) else([],[],false):=by
 have hg:=AcH s.size s (Qa8 _);rw[GX] at hg ⊢;by_cases hk:idxB 59 s<s.size
 ·rw[Qa2 hk] at hg ⊢;rw[pmGo,Qa3 (fun q=>h ((M3 hk).1 q)),hg]
 ·rw[Qa3 hk] at hg ⊢;rw[pmGo,Qa3 h,hg]
def Av:Fct:=⟨[.v (.el .str),.v (.el .str)],[.sl .addr,.sl .line,.el .bool],fun(x_:ByteArray×ByteArray×Unit)=>x_.1.size<=4000000000/\x_.2.1.size<=4000000000,fun(x_:ByteArray×ByteArray×Unit)=>((parseModule x_.1 x_.2.1).1,(parseModule x_.1 x_.2.1).2.1,(parseModule x_.1 x_.2.1).2.2,())⟩
abbrev A4 (s:ByteArray) (b:ByteArray):LInv:=⟨[⟨.s,7,true,.sl .addr⟩,⟨.s,8,false,.el .str⟩],fun _ (x_:(List SAddr)×ByteArray×Unit)=>x_.2.1.size<=s.size/\x_.1.length+x_.2.1.size<=s.size/\pmGo b (spl 59 x_.2.1) x_.1=parseModule s b,fun(x_:(List SAddr)×ByteArray×Unit)=>x_.2.1.size⟩
def Aik:=Akf.a Av<|Fct.p (KP [0,1,4,5,6,7,8,9,10,11,12,13] [23,35,55]) (fun⟨s,b,_⟩=>lv [(3,A4 s b)]) Akf.2 func315 (by
 rintro⟨(s:ByteArray),(b:ByteArray),_⟩ hp;refine ho (let q2_:Out:=.lf Av ([],[],false,());lpx (A4 s b) ([],(s,())) fun(y1:List SAddr×ByteArray×PUnit) bk1=>let q1_:=(y1.2.1.size:Int);let q0_:Out:=.cl AC (y1.2.1,()) fun z5=>.br (!z5.2.1) q2_ (.lf Av (y1.1,z5.1,true,()));.br (decide (q1_>=7)) (.ob ((0:Int)<=(7:Int)/\(7:Int)<=q1_)<|.br ((y1.2.1.extract 0 7).toList==(⟨#[105,109,112,111,114,116,32]⟩:ByteArray).toList) (.cl EH (y1.2.1,(59:Int),()) fun(z2:Int×PUnit)=>.ob ((0:Int)<=(7:Int)/\7<=z2.1/\z2.1<=q1_)<|.cl AF (y1.2.1.extract 7 z2.1.toNat,b,()) fun z3=>.br (!z3.2.1) q2_ (.ob (True)<|.ob (BK (y1.1.length+[z3.1].length) 32)<|.cl Ac7 (q1_,w1 z2.1,()) fun(z4:Int×PUnit)=>.ob (0<=z4.1/\z4.1<=q1_)<|.ob (Value.string s=Value.string s)<|.ob (Value.string b=Value.string b)<|.ob (bk1 (y1.1++[z3.1],(y1.2.1.extract z4.1.toNat y1.2.1.size,())))<|.ok)) q0_) q0_) ?_;repeat' first|(guard_target =~ Out.holds _ _;first|refine Aw (li:=A4 s b) ?_ fun(y1:List SAddr×ByteArray×PUnit) i1=>?_|refine lfY ?_|refine Ab (fun _=>?_) fun _=>?_|refine Ae ?_ fun _=>?_|refine Aa ?_ fun _=>?_)|exact trivial
 all_goals
  have hp1:s.size<=4000000000/\b.size<=4000000000:=hp;try simp only[AA] at *
  try simp only[A4,EH,Ac7,AF,Av,AC,std,Nat.reduceAdd,EH,AF,AC,Ac7,show UInt8.ofNat (Int.toNat 59)=59 from rfl] at *
 all_goals first|omega|(simp only[Zo,Qa8,and_self];done)|(obtain⟨acc,x,u⟩:=y1;obtain⟨a1,a2,a3⟩:=i1;dsimp only at *;have k1:=Ev 59 x)
 all_goals first|(have hi:hasImp x:=⟨by omega,by assumption⟩;have k2:=Xh hi)|(have hi:¬ hasImp x:=by rintro⟨q1,q2⟩;first|omega|exact absurd q2 (by assumption))
 all_goals
  have k3:∀ a b,(x.extract a b).size<=x.size:=fun a b=>by rw[Qc4];omega
  have k4:=k3 7 (idxB 59 x);have hw:IntKind.i64.wrap ((idxB 59 x:Int)+1)=(idxB 59 x:Int)+1:=Ah (by constructor<;>omega);have hm:Int.toNat (min (x.size:Int) ((idxB 59 x:Int)+1))=min x.size (idxB 59 x+1):=by omega
 all_goals simp only[Qg6,hw,hm] at *
 all_goals first|omega|exact⟨by omega,Int.ofNat_le.2 k2,Int.ofNat_le.2 k1⟩|exact⟨by omega,by omega⟩|skip
 all_goals first|(rw[<-a3,AfV hi (by assumption)];exact⟨rfl,rfl,rfl⟩)|(rw[<-a3,Agd hi];(first|rw[Qa2 (by assumption)]|rw[Qa3 (by rw[show(parseScript x).2=false by assumption];decide)]);exact⟨rfl,by first|rfl|assumption,rfl⟩)|skip
 all_goals rw[AfA hi (by assumption)] at a3
 all_goals refine⟨⟨Qe7 (k3 _ _) a1,?_,a3⟩,?_⟩
 all_goals rw[Qc4];try simp only[Qa4,Qa6,Qb8]
 all_goals omega)
def isParsed (p:SPage):Bool:=p.ended&&decide (p.bm.length=0/\p.block=0/\p.inline=0)
def CE:Fct:=⟨[.v (.el .page)],[.el .bool],fun(x_:SPage×Unit)=>True,fun(x_:SPage×Unit)=>(isParsed x_.1,())⟩
theorem q17 (p:SPage) (hp:CE.pre (p,())):Out.holds (CE.ctr (p,())).post (.br (p.ended) (.br ((p.bm.length:Int)==0) (.br (p.block==0) (.lf CE (p.inline==0,())) (.lf CE (false,()))) (.lf CE (false,()))) (.lf CE (false,()))):=by
 refine Ab (fun h1=>Ab (fun h2=>Ab (fun h3=>lfY ?_) (fun h3=>lfY ?_)) (fun h2=>lfY ?_)) (fun h1=>lfY ?_);all_goals
  try simp only[AA] at *
  try simp only[CE,std,Nat.reduceAdd,isParsed] at *
  try simp(disch:=omega) only[wrapId',toNat1] at *
  try simp(disch:=omega) only[Qa2,Qa3]
 all_goals first|trivial|omega|grind[wrapId',toNat1,drop_cons,drop_end,good_len,maxLen,isParsed]
def AkN:=Aik.a CE<|Fct.o [1,2] Aik.2 func307 (by
 rintro⟨(p:SPage),_⟩ hp;exact ho _ (q17 p hp))
def Alj:=AkN.a CE<|Fct.o [1,2] AkN.2 func277 (by
 rintro⟨(p:SPage),_⟩ hp;exact ho _ (q17 p hp))
def deferredSlots (p:SPage):List Int:=openIdx (fun s=>decide (s.mode=4)) p.bd 0
def A7:Fct:=⟨[.v (.el .page)],[.sl .int],fun(x_:SPage×Unit)=>x_.1.bd.length<=1000000000000,fun(x_:SPage×Unit)=>(deferredSlots x_.1,())⟩
abbrev Bc (p:SPage):LInv:=⟨[⟨.s,3,true,.sl .int⟩,⟨.s,4,true,.el .int⟩,⟨.b,1,false,.el .page⟩],fun(z_ x_:(List Int)×Int×SPage×Unit)=>(0<=x_.2.1/\x_.2.1<=p.bd.length/\x_.1.length<=x_.2.1/\x_.1++openIdx (fun s=>decide (s.mode=4)) (p.bd.drop x_.2.1.toNat) x_.2.1=deferredSlots p)/\x_.2.2.1=z_.2.2.1,fun(x_:(List Int)×Int×SPage×Unit)=>p.bd.length-x_.2.1.toNat⟩
def Aj9:=Alj.a A7<|Fct.p (KP [1,2,3,4] [10,19]) (fun⟨p,_⟩=>lv [(3,Bc p)]) Alj.2 func308 (by
 rintro⟨(p:SPage),_⟩ hp;refine ho (lpx (Bc p) ([],((0:Int),(p,()))) fun(y1:List Int×Int×SPage×PUnit) bk1=>.br (decide (y1.2.1<(y1.2.2.1.bd.length:Int))) (.ob (inB y1.2.1 y1.2.2.1.bd.length)<|.br ((y1.2.2.1.bd.getD y1.2.1.toNat default).mode==4) (.ob (True)<|.ob (BK (y1.1.length+[y1.2.1].length) 8)<|.ob (bk1 (y1.1++[y1.2.1],(w1 y1.2.1,(y1.2.2.1,()))))<|.ok) (.ob (bk1 (y1.1,(w1 y1.2.1,(y1.2.2.1,()))))<|.ok)) (.lf A7 (y1.1,()))) ?_;refine Aw ?_ fun(y1:List Int×Int×SPage×PUnit) i1=>Ab (fun h2=>Aa ?_ fun o3=>Ab (fun h4=>Aa trivial fun _=>Aa ?_ fun o5=>Aa ?_ fun o6=>trivial) (fun h4=>Aa ?_ fun o7=>trivial)) (fun h2=>lfY ?_)
 all_goals
  have h0:openIdx (fun s:SSlot=>decide (s.mode=4)) (p.bd.drop 0) 0=deferredSlots p:=rfl;try simp only[AA] at *
  try simp only[Bc,A7,std,Nat.reduceAdd,openIdx_at,openIdx_end,Qa4,Qa6,Qb8,Qb7] at *
  try simp(disch:=omega) only[wrapId',toNat1] at *
  try simp(disch:=omega) only[Qa2,Qa3]
 all_goals first|trivial|omega|grind[wrapId',toNat1,drop_cons,drop_end,good_len,maxLen,openIdx_at,openIdx_end,List.length_append,List.length_cons,List.length_nil,List.append_assoc])
abbrev A9 (p:SPage):LInv:=⟨[⟨.s,3,true,.sl .int⟩,⟨.s,10,true,.el .int⟩],fun _ (x_:(List Int)×Int×Unit)=>0<=x_.2.1/\x_.2.1<=p.bd.length/\x_.1.length<=x_.2.1/\x_.1++openIdx (fun s=>decide (s.mode=4)) (p.bd.drop x_.2.1.toNat) x_.2.1=deferredSlots p,fun(x_:(List Int)×Int×Unit)=>p.bd.length-x_.2.1.toNat⟩
def AlY:=Aj9.a A7<|Fct.p (KP [1,2,3,4,5,8,9,10] [11,17]) (fun⟨p,_⟩=>lv [(3,A9 p)]) Aj9.2 func278 (by
 rintro⟨(p:SPage),_⟩ hp;refine ho (lpx (A9 p) ([],((0:Int),())) fun(y1:List Int×Int×PUnit) bk1=>.br (decide (y1.2.1<(p.bd.length:Int))) (.ob (inB y1.2.1 p.bd.length)<|.br ((p.bd.getD y1.2.1.toNat default).mode==4) (.ob (True)<|.ob (BK (y1.1.length+[y1.2.1].length) 8)<|.ob (p.bd=p.bd)<|.ob (Value.int IntKind.i64 (p.bd.length:Int)=Value.int IntKind.i64 (p.bd.length:Int))<|.ob (bk1 (y1.1++[y1.2.1],(w1 y1.2.1,())))<|.ok) (.ob (p.bd=p.bd)<|.ob (Value.int IntKind.i64 (p.bd.length:Int)=Value.int IntKind.i64 (p.bd.length:Int))<|.ob (bk1 (y1.1,(w1 y1.2.1,())))<|.ok)) (.lf A7 (y1.1,()))) ?_;refine Aw ?_ fun(y1:List Int×Int×PUnit) i1=>Ab (fun h2=>Aa ?_ fun o3=>Ab (fun h4=>Aa trivial fun _=>Aa ?_ fun o5=>Aa rfl fun _=>Aa rfl fun _=>Aa ?_ fun o6=>trivial) (fun h4=>Aa rfl fun _=>Aa rfl fun _=>Aa ?_ fun o7=>trivial)) (fun h2=>lfY ?_)
 all_goals
  have h0:openIdx (fun s:SSlot=>decide (s.mode=4)) (p.bd.drop 0) 0=deferredSlots p:=rfl;try simp only[AA] at *
  try simp only[A9,A7,std,Nat.reduceAdd,openIdx_at,openIdx_end,Qa4,Qa6,Qb8,Qb7] at *
  try simp(disch:=omega) only[wrapId',toNat1] at *
  try simp(disch:=omega) only[Qa2,Qa3]
 all_goals first|trivial|omega|grind[wrapId',toNat1,drop_cons,drop_end,good_len,maxLen,openIdx_at,openIdx_end,List.length_append,List.length_cons,List.length_nil,List.append_assoc])
def formatAddr (a:SAddr):ByteArray:=if isName a.host&&isName a.path then a.host++⟨#[47]⟩++a.path else⟨#[]⟩
def BT:Fct:=⟨[.v (.el .addr)],[.el .str],fun(x_:SAddr×Unit)=>szAddr x_.1<=1000000000000,fun(x_:SAddr×Unit)=>(formatAddr x_.1,())⟩
theorem q18 (a:SAddr) (hp:BT.pre (a,())):Out.holds (BT.ctr (a,())).post (.cl fIsAddr (a,()) fun z2=>.br (!z2.1) (.lf BT ((⟨#[]⟩:ByteArray),())) (.ob (sameSize a.host (⟨#[47]⟩:ByteArray))<|.ob (sameSize (a.host++(⟨#[47]⟩:ByteArray)) a.path)<|.lf BT (a.host++(⟨#[47]⟩:ByteArray)++a.path,()))):=by
 refine Ae ?_ fun o1=>(Ab (fun h2=>lfY ?_) (fun h2=>Aa ?_ fun o3=>Aa ?_ fun o4=>lfY ?_))
 all_goals
  try simp only[AA] at *
  try simp only[BT,fIsAddr,std,Nat.reduceAdd,formatAddr,fIsAddr,sameSize,Qb5,szAddr] at *
  try simp(disch:=omega) only[wrapId',toNat1] at *
  try simp(disch:=omega) only[Qa2,Qa3]
 all_goals first|trivial|omega|grind[wrapId',toNat1,drop_cons,drop_end,good_len,maxLen,formatAddr,fIsAddr,sameSize,ByteArray.size_append,szAddr]
def AkD:=AlY.a BT<|Fct.o (KP [1,2] [5]) AlY.2 func362 (by
 rintro⟨(a:SAddr),_⟩ hp;exact ho _ (q18 a hp))
def AjO:=AkD.a BT<|Fct.o (KP [1,2] [5]) AkD.2 func332 (by
 rintro⟨(a:SAddr),_⟩ hp;exact ho _ (q18 a hp))
def say (p:SPage) (s:ByteArray):SPage:=if p.log.length<40 then{ p with log:=p.log++[s]} else p
def RA:GS:=⟨[.g (.el .page),.l (.v (.el .str))],[.el .page],fun(x_:SPage×ByteArray×Unit)=>True,fun(x_:SPage×ByteArray×Unit)=>((say x_.1 x_.2.1,()),(()))⟩
def Akg:=AjO.G RA<|GS.of (S:=RA) (L:=fun _ _=>none) (kp:=(KP [1,2,4] [8])) AjO.2 func311 (by kernel_rfl) (by kernel_rfl) (by
 rintro⟨(p:SPage),(s:ByteArray),_⟩ hp;refine ho (.br (decide ((p.log.length:Int)<40)) (.ob (True)<|.ob (BK (p.log.length+[s].length) 16)<|GS.out RA (({p with log:=p.log++[s]},()),(()))) (GS.out RA ((p,()),(())))) ?_;refine Ab (fun h1=>Aa trivial fun _=>Aa ?_ fun o2=>GS.leafY ?_) (fun h1=>GS.leafY ?_);all_goals
  try simp only[AA] at *
  try simp only[RA,std,Nat.reduceAdd,say] at *
  try simp(disch:=omega) only[wrapId',toNat1] at *
  try simp(disch:=omega) only[Qa2,Qa3]
 all_goals first|trivial|omega|grind[wrapId',toNat1,drop_cons,drop_end,good_len,maxLen,say])
def Fm:GS:=⟨[.b (.el .page),.l (.v (.el .str))],[],fun(x_:SPage×ByteArray×Unit)=>True,fun(x_:SPage×ByteArray×Unit)=>((()),(say x_.1 x_.2.1,()))⟩
def AiC:=Akg.G Fm<|GS.of (S:=Fm) (L:=fun _ _=>none) (kp:=(KP [0,1] [9])) Akg.2 func281 (by kernel_rfl) (by kernel_rfl) (by
 rintro⟨(p:SPage),(s:ByteArray),_⟩ hp;refine ho (.br (decide ((p.log.length:Int)<40)) (.ob (True)<|.ob (BK (p.log.length+[s].length) 16)<|GS.out Fm ((()),({p with log:=p.log++[s]},()))) (GS.out Fm ((()),(p,())))) ?_;refine Ab (fun h1=>Aa trivial fun _=>Aa ?_ fun o2=>GS.leafY ?_) (fun h1=>GS.leafY ?_);all_goals
  try simp only[AA] at *
  try simp only[Fm,std,Nat.reduceAdd,say] at *
  try simp(disch:=omega) only[wrapId',toNat1] at *
  try simp(disch:=omega) only[Qa2,Qa3]
 all_goals first|trivial|omega|grind[wrapId',toNat1,drop_cons,drop_end,good_len,maxLen,say])
def findMod (l:List SModule) (a:SAddr):Int:=fidx (fun m=>decide (m.to=a)) l 0
theorem Ht (l:List SModule) (a:SAddr):fidx (fun m=>decide (m.to=a)) l 0=findMod l a:=rfl
theorem BH (l:List SModule) (a:SAddr):findMod l a<l.length/\-1<=findMod l a:=by
 have:=Jd (fun m:SModule=>decide (m.to=a)) l 0 (by omega);unfold findMod;omega
theorem HK {l:List SModule} {a:SAddr} (h:0<=findMod l a):(l.getD (findMod l a).toNat default).to=a:=by
 have e:=Lu (fun m:SModule=>decide (m.to=a)) l 0 (by omega);rw[Ht,Qa2 h,Int.sub_zero] at e;simpa using List.find?_some e
def imports (p:SPage) (a:SAddr):List SAddr×Bool :=
 if findMod p.bg a<0\/(p.bg.getD (findMod p.bg a).toNat default).done=false\/¬ (p.bg.getD (findMod p.bg a).toNat default).code=1 then([],false)
 else((parseModule (p.bg.getD (findMod p.bg a).toNat default).body a.host).1,(parseModule (p.bg.getD (findMod p.bg a).toNat default).body a.host).2.2)
def okMb (p:SPage):Prop:=∀ i,i<p.bg.length->(p.bg.getD i default).body.size<=4000000000
def Dr:Fct:=⟨[.v (.el .page),.v (.el .addr)],[.sl .addr,.el .bool],fun(x_:SPage×SAddr×Unit)=>x_.1.bg.length<=1000000000000/\okMb x_.1/\x_.2.1.host.size<=4000000000,fun(x_:SPage×SAddr×Unit)=>((imports x_.1 x_.2.1).1,(imports x_.1 x_.2.1).2,())⟩
def AlB:=AiC.a Dr<|Fct.o (KP [2,3,4,5,6,7,9] [32]) AiC.2 func251 (by
 rintro⟨(p:SPage),(a:SAddr),_⟩ hp;refine ho (.cl Ca (p,a,()) fun(z2:Int×PUnit)=>.br (decide (z2.1<0)) (.lf Dr ([],false,())) (.ob (inB z2.1 p.bg.length)<|.br (!(p.bg.getD z2.1.toNat default).done) (.lf Dr ([],false,())) (.ob (inB z2.1 p.bg.length)<|.br ((p.bg.getD z2.1.toNat default).code != 1) (.lf Dr ([],false,())) (.ob (inB z2.1 p.bg.length)<|.cl Av ((p.bg.getD z2.1.toNat default).body,a.host,()) fun z3=>.lf Dr (z3.1,z3.2.2.1,()))))) ?_;refine Ae ?_ fun o1=>(Ab (fun h2=>lfY ?_) (fun h2=>Aa ?_ fun o3=>Ab (fun h4=>lfY ?_) (fun h4=>Aa ?_ fun o5=>Ab (fun h6=>lfY ?_) (fun h6=>Aa ?_ fun o7=>Ae ?_ fun o8=>(lfY ?_)))))
 all_goals have hf:=BH p.bg a
 all_goals obtain⟨q1,q2,q3⟩:=(show p.bg.length<=1000000000000/\okMb p/\a.host.size<=4000000000 from hp)
 all_goals
  try simp only[AA] at *
  try simp only[Dr,Ca,Av,std,Nat.reduceAdd,Ca,Av,Ht] at *
 all_goals first|omega|exact⟨q2 _ (by omega),q3⟩|skip
 all_goals unfold imports
 all_goals first|rw[Qa2 (by exact .inl (by assumption))]|rw[Qa2 (by exact .inr (.inl (by assumption)))]|rw[Qa2 (by exact .inr (.inr (by assumption)))]|rw[Qa3 (by rintro(q|q|q)<;>first|omega|exact tf (by assumption) q|exact q (by assumption))]
 all_goals exact⟨rfl,rfl⟩)
theorem Mg (b:ByteArray):∀ (l:List ByteArray) (acc:List SAddr),(∀ x,x∈acc->x.host.size<=8/\x.path.size<=8)->(∀ x,x∈(pmGo b l acc).1->x.host.size<=8/\x.path.size<=8)/\(pmGo b l acc).1.length+l.length<=acc.length+szL Ac l
 | [],acc,h=>⟨h,Qa8 _⟩
 | w::l,acc,h=>by
  rw[pmGo,Ax];have hnil:∀ x:SAddr,x∈([]:List SAddr)->x.host.size<=8/\x.path.size<=8:=fun x h=>by cases h
  have hll:=Ad Ac l;split
  ·rename_i hi;split
   ·rename_i hc;obtain⟨i1,i2⟩:=Mg b l (acc++[(parseAddr (w.extract 7 w.size) b).1]) (fun x hx=>by
     rcases Qc0.1 hx with hx|hx
     ·exact h x hx
     ·rw[List.mem_singleton] at hx;subst hx;unfold parseAddr at hc ⊢;split at hc
      ·rename_i hn;rw[Qa2 hn];rw[Qa1] at hn;exact⟨CA hn.1,CA hn.2⟩
      ·cases hc)
    refine⟨i1,?_⟩;rw[Qa4] at i2;have:=hi.1;simp only[Qa6,Qb8,Ac] at *
    omega
   ·exact⟨hnil,by simp only[Qa6,Qb8];omega⟩
  ·split
   ·exact⟨h,by simp only[Qa6];omega⟩
   ·exact⟨hnil,by simp only[Qa6,Qb8];omega⟩
theorem L2 (s b:ByteArray):(∀ x,x∈(parseModule s b).1->x.host.size<=8/\x.path.size<=8)/\(parseModule s b).1.length<=s.size:=by
 obtain⟨h1,h2⟩:=Mg b (spl 59 s) [] (fun x h=>by cases h);have h3:=(DE 59 s).1;rw[LQ] at h2;exact⟨h1,by simp only[Qb8,parseModule] at *;omega⟩
theorem DX (p:SPage) (a:SAddr):(∀ x,x∈(imports p a).1->x.host.size<=8/\x.path.size<=8)/\((imports p a).1=[]\/0<=findMod p.bg a/\(imports p a).1.length<=(p.bg.getD (findMod p.bg a).toNat default).body.size):=by
 unfold imports;split
 ·exact⟨fun x h=>(by cases h),.inl rfl⟩
 ·rename_i h;have:=L2 (p.bg.getD (findMod p.bg a).toNat default).body a.host;exact⟨this.1,.inr ⟨by omega,this.2⟩⟩
def inL (l:List SAddr) (a:SAddr):Bool:=l.any fun c=>decide (c=a)
def visitF:Nat->SPage->SAddr->List SAddr×List SAddr->List SAddr×List SAddr
 | 0,_,_,st=>st
 | f+1,p,a,st=>if inL st.1 a=true then st else
  (((imports p a).1.foldl (fun st b=>visitF f p b st) (st.1++[a],st.2)).1,((imports p a).1.foldl (fun st b=>visitF f p b st) (st.1++[a],st.2)).2++[a])
def muV (p:SPage) (s:List SAddr):Nat:=(p.bg.filter fun m=>!inL s m.to).length
def wtV (p:SPage) (s:List SAddr):Nat:=((p.bg.filter fun m=>!inL s m.to).map fun m=>m.body.size+1).sum
theorem HL (s l:List SAddr) (a:SAddr):inL (s++l) a=(inL s a||inL l a):=by unfold inL;rw[List.any_append]
theorem Qy (a b:SAddr):inL [a] b=decide (a=b):=by unfold inL;simp
theorem F8 {α:Type} {f g:α->Bool}:∀ {l:List α},(∀ x,x∈l->g x=true->f x=true)->(l.filter g).length<=(l.filter f).length
 | [],_=>Qa8 _
 | x::l,h=>by
  have ih:=F8 (f:=f) (g:=g) (l:=l) fun y hy=>h y (Qd9 _ hy)
  rw[List.filter_cons,List.filter_cons];cases hg:g x with
  | true=>rw[Qa2 rfl,Qa2 (h x Qf3 hg)];simp only[Qa6];omega
  | false=>
   rw[Qa3 (by decide)];split
   ·simp only[Qa6];omega
   ·exact ih
theorem Zd (p:SPage) (s l:List SAddr):muV p (s++l)<=muV p s:=by
 unfold muV;refine F8 fun m _ h=>?_
 rw[HL] at h;cases hs:inL s m.to with
 | true=>rw[hs] at h;cases h
 | false=>rfl
def wtL (g:SModule->Bool):List SModule->Nat
 | []=>0
 | m::l=>(if g m=true then m.body.size+1 else 0)+wtL g l
theorem Ace (g:SModule->Bool):∀ l:List SModule,wtL g l=((l.filter g).map fun m=>m.body.size+1).sum
 | []=>rfl
 | m::l=>by
  rw[wtL,List.filter_cons,Ace g l];split
  ·rw[Qc8,List.sum_cons]
  ·omega
theorem Xf {f g:SModule->Bool}:∀ {l:List SModule},(∀ m,g m=true->f m=true)->wtL g l<=wtL f l
 | [],_=>Qa8 _
 | m::l,h=>by
  have:=Xf (l:=l) h;rw[wtL,wtL];by_cases hg:g m=true
  ·rw[Qa2 hg,Qa2 (h m hg)];omega
  ·rw[Qa3 hg];omega
theorem Sn {f g:SModule->Bool}:∀ {l:List SModule} {i:Nat},i<l.length->(∀ m,g m=true->f m=true)->f (l.getD i default)=true->g (l.getD i default)=false->wtL g l+(l.getD i default).body.size+1<=wtL f l
 | [],i,h,_,_,_=>absurd h (Nat.not_lt_zero _)
 | m::l,0,_,hl,h1,h2=>by
  have:=Xf (l:=l) hl;have h1:f m=true:=h1;have h2:g m=false:=h2;show wtL g (m::l)+m.body.size+1<=_;rw[wtL,wtL,Qa3 (by rw[h2];decide),Qa2 h1];omega
 | m::l,i+1,h,hl,h1,h2=>by
  have ih:=Sn (l:=l) (i:=i) (by simpa using h) hl h1 h2;show wtL g (m::l)+(l.getD i default).body.size+1<=_;rw[wtL,wtL];by_cases hg:g m=true
  ·rw[Qa2 hg,Qa2 (hl m hg)];omega
  ·rw[Qa3 hg];omega
theorem Pw (p:SPage) (s:List SAddr):wtV p s=wtL (fun m=>!inL s m.to) p.bg:=(Ace _ _).symm
theorem JO {s:List SAddr} (l:List SAddr) {m:SModule} (h:(!inL (s++l) m.to)=true):(!inL s m.to)=true:=by
 rw[HL] at h;cases hs:inL s m.to with
 | true=>rw[hs] at h;cases h
 | false=>rfl
theorem XJ (p:SPage) (s l:List SAddr):wtV p (s++l)<=wtV p s:=by
 rw[Pw,Pw];exact Xf fun m h=>JO l h
theorem WG (p:SPage) (s:List SAddr) (a:SAddr) (h:inL s a=false) (hf:0<=findMod p.bg a):wtV p (s++[a])+(p.bg.getD (findMod p.bg a).toNat default).body.size+1<=wtV p s:=by
 rw[Pw,Pw];have hr:=BH p.bg a;have hg:=HK hf;refine Sn (by omega) (fun m h=>JO [a] h) ?_ ?_
 ·rw[hg,h];rfl
 ·rw[hg,HL,h,Qy,Qf2 rfl];rfl
theorem Yw (p:SPage) (s:List SAddr) (a:SAddr) (h:inL s a=false) (hf:0<=findMod p.bg a):muV p (s++[a])<muV p s:=by
 have hr:=BH p.bg a;have hg:=HK hf;have key:∀ (l:List SModule) (i:Nat),i<l.length->(l.getD i default).to=a->(l.filter fun m=>!inL (s++[a]) m.to).length<(l.filter fun m=>!inL s m.to).length:=by
  intro l
  induction l with
  | nil=>intro i hi;exact absurd hi (Nat.not_lt_zero _)
  | cons m l ih=>
   intro i hi he;have hle:(l.filter fun m=>!inL (s++[a]) m.to).length<=(l.filter fun m=>!inL s m.to).length:=F8 fun m _ h=>JO [a] h
   rw[List.filter_cons,List.filter_cons];cases i with
   | zero=>
    have he:m.to=a:=he;rw[he,HL,h,Qy,Qf2 rfl];simp only[Bool.or_true,Bool.not_true,Bool.not_false,Qe8,Qc7,Qe2,Qa6];omega
   | succ i=>
    have:=ih i (by simpa using hi) he;by_cases h1:(!inL (s++[a]) m.to)=true
    ·rw[Qa2 h1,Qa2 (JO [a] h1)];simp only[Qa6];omega
    ·rw[Qa3 h1];split
     ·simp only[Qa6];omega
     ·exact this
 exact key _ _ (by omega) hg
theorem OV {α β:Type} (P:β->Prop) (f:β->α->β) (hf:∀ b a,P b->P (f b a)):∀ (l:List α) (b:β),P b->P (l.foldl f b)
 | [],_,h=>h
 | a::l,b,h=>OV P f hf l (f b a) (hf b a h)
theorem LC:∀ (f:Nat) (p:SPage) (a:SAddr) (st:List SAddr×List SAddr),∃ l,(visitF f p a st).1=st.1++l
 | 0,p,a,st=>⟨[],(Qd8 _).symm⟩
 | f+1,p,a,st=>by
  rw[visitF];split
  ·exact⟨[],(Qd8 _).symm⟩
  ·have:=OV (fun b:List SAddr×List SAddr=>∃ l,b.1=st.1++l) (fun st b=>visitF f p b st) (fun b x ⟨l,hl⟩=>by obtain⟨m,hm⟩:=LC f p x b;exact⟨l++m,by rw[hm,hl,Qb7]⟩) (imports p a).1 (st.1++[a],st.2) ⟨[a],rfl⟩
   exact this
theorem Js:∀ (f g:Nat) (p:SPage) (a:SAddr) (st:List SAddr×List SAddr),muV p st.1<f->muV p st.1<g->visitF f p a st=visitF g p a st
 | 0,_,_,_,_,h,_=>absurd h (Nat.not_lt_zero _)
 | _+1,0,_,_,_,_,h=>absurd h (Nat.not_lt_zero _)
 | f+1,g+1,p,a,st,h1,h2=>by
  rw[visitF,visitF];split
  ·rfl
  ·rename_i hn;have hn:inL st.1 a=false:=by simpa using hn
   have hfold:∀ (l:List SAddr) (s:List SAddr×List SAddr),muV p s.1<f->muV p s.1<g->l.foldl (fun st b=>visitF f p b st) s=l.foldl (fun st b=>visitF g p b st) s:=by
    intro l
    induction l with
    | nil=>intro s _ _;rfl
    | cons b l ih=>
     intro s q1 q2;rw[List.foldl_cons,List.foldl_cons,<-Js f g p b s q1 q2];obtain⟨m,hm⟩:=LC f p b s;have:=Zd p s.1 m;exact ih _ (by rw[hm];omega) (by rw[hm];omega)
   rcases(DX p a).2 with he|⟨hm,_⟩
   ·rw[he];rfl
   ·have:=Yw p st.1 a hn hm;rw[hfold _ _ (show muV p (st.1++[a])<f by omega) (show muV p (st.1++[a])<g by omega)]
def visit (p:SPage) (a:SAddr) (st:List SAddr×List SAddr):List SAddr×List SAddr:=visitF (p.bg.length+1) p a st
theorem AcF (p:SPage) (s:List SAddr):muV p s<=p.bg.length:=List.length_filter_le _ _
theorem Pm {p:SPage} {a:SAddr} {st:List SAddr×List SAddr} (h:inL st.1 a=true):visit p a st=st:=by unfold visit;rw[visitF,Qa2 h]
theorem Sq {p:SPage} {a:SAddr} {st:List SAddr×List SAddr} (h:inL st.1 a=false):visit p a st=(((imports p a).1.foldl (fun st b=>visit p b st) (st.1++[a],st.2)).1,((imports p a).1.foldl (fun st b=>visit p b st) (st.1++[a],st.2)).2++[a]):=by
 have e:visit p a st=visitF (p.bg.length+2) p a st:=Js _ _ p a st (by have:=AcF p st.1;omega) (by have:=AcF p st.1;omega);rw[e,visitF,Qa3 (by rw[h];decide)];rfl
def totV (p:SPage) (s:List SAddr):Nat:=s.length+wtV p s
theorem Pb:∀ (f:Nat) (p:SPage) (a:SAddr) (st:List SAddr×List SAddr),totV p (visitF f p a st).1<=totV p st.1+1/\(visitF f p a st).2.length+st.1.length=st.2.length+(visitF f p a st).1.length
 | 0,p,a,st=>⟨Nat.le_succ _,rfl⟩
 | f+1,p,a,st=>by
  rw[visitF];split
  ·exact⟨Nat.le_succ _,rfl⟩
  ·rename_i hn;have hn:inL st.1 a=false:=by simpa using hn
   have hfold:∀ (l:List SAddr) (s:List SAddr×List SAddr),totV p (l.foldl (fun st b=>visitF f p b st) s).1<=totV p s.1+l.length/\(l.foldl (fun st b=>visitF f p b st) s).2.length+s.1.length=s.2.length+(l.foldl (fun st b=>visitF f p b st) s).1.length:=by
    intro l
    induction l with
    | nil=>intro s;exact⟨Qa8 _,rfl⟩
    | cons b l ih=>
     intro s;rw[List.foldl_cons];have h1:=Pb f p b s;have h2:=ih (visitF f p b s);simp only[Qa6];omega
   have h1:=hfold (imports p a).1 (st.1++[a],st.2);rw[Qa4,Qd7];have h3:(st.1++[a]).length=st.1.length+1:=by simp
   rcases(DX p a).2 with he|⟨hm,hl⟩
   ·rw[he] at h1 ⊢;have:=XJ p st.1 [a];simp only[totV,Qb8,List.foldl_nil] at *
    omega
   ·have:=WG p st.1 a hn hm;simp only[totV] at *
    omega
def reachOf (p:SPage) (a:SAddr):List SAddr:=(visit p a ([],[])).2
theorem TJ {p:SPage} {a:SAddr} {s:List SAddr} {i:Nat} (h:inL s a=false) (hi:i<(imports p a).1.length):totV p (s++[a])+i<totV p s/\muV p (s++[a])<muV p s:=by
 rcases(DX p a).2 with he|⟨hm,hl⟩
 ·rw[he] at hi;exact absurd hi (Nat.not_lt_zero _)
 ·have h1:=WG p s a h hm;refine⟨?_,Yw p s a h hm⟩;simp only[totV,Qa4,Qa6,Qb8];omega
theorem UC {p:SPage} {l:List SAddr} {i:Nat} {st:List SAddr×List SAddr} (h:i<l.length):(l.drop i).foldl (fun st b=>visit p b st) st=(l.drop (i+1)).foldl (fun st b=>visit p b st) (visit p (l.getD i default) st):=by rw[drop_cons h];rfl
theorem Rw {p:SPage} {l:List SAddr} {i:Nat} {st:List SAddr×List SAddr} (h:l.length<=i):(l.drop i).foldl (fun st b=>visit p b st) st=st:=by rw[Qb6 h];rfl
theorem Mk (p:SPage) (a:SAddr) (st:List SAddr×List SAddr):totV p (visit p a st).1<=totV p st.1+1/\(visit p a st).2.length+st.1.length=st.2.length+(visit p a st).1.length:=Pb _ _ _ _
abbrev mVis (x:SPage×SAddr×List SAddr×List SAddr×Unit):Nat:=muV x.1 x.2.2.1
def okVis (p:SPage) (a:SAddr) (s o:List SAddr):Prop:=p.bg.length<=1000000000000/\okMb p/\a.host.size<=4000000000/\totV p s<=100000000000/\o.length<=s.length
def GV:GS:=⟨[.l (.v (.el .page)),.l (.v (.el .addr)),.g (.sl .addr),.g (.sl .addr)],[.sl .addr,.sl .addr],fun(x_:SPage×SAddr×(List SAddr)×(List SAddr)×Unit)=>okVis x_.1 x_.2.1 x_.2.2.1 x_.2.2.2.1,fun(x_:SPage×SAddr×(List SAddr)×(List SAddr)×Unit)=>(((visit x_.1 x_.2.1 (x_.2.2.1,x_.2.2.2.1)).1,(visit x_.1 x_.2.1 (x_.2.2.1,x_.2.2.2.1)).2,()),(()))⟩
def visInv (p:SPage) (a:SAddr) (s o se od:List SAddr) (i:Int):Prop:=0<=i/\i<=(imports p a).1.length/\((imports p a).1.drop i.toNat).foldl (fun st b=>visit p b st) (se,od)=(imports p a).1.foldl (fun st b=>visit p b st) (s++[a],o)/\(∃ m,se=(s++[a])++m)/\totV p se<=totV p (s++[a])+i.toNat/\od.length+(s.length+1)=o.length+se.length
theorem OT {p:SPage} {a:SAddr} {s o se od:List SAddr} {i:Int} (h:visInv p a s o se od i) (hi:i<(imports p a).1.length):visInv p a s o (visit p ((imports p a).1.getD i.toNat default) (se,od)).1 (visit p ((imports p a).1.getD i.toNat default) (se,od)).2 (i+1):=by
 obtain⟨h1,h2,h3,⟨m,hm⟩,h5,h6⟩:=h;have ht:=Mk p ((imports p a).1.getD i.toNat default) (se,od);rw[UC (by omega)] at h3;obtain⟨l,hl⟩:=LC (p.bg.length+1) p ((imports p a).1.getD i.toNat default) (se,od);dsimp only at ht;refine⟨by omega,by omega,?_,⟨m++l,?_⟩,?_,?_⟩
 ·rw[show(i+1).toNat=i.toNat+1 by omega];exact h3
 ·show(visit p _ (se,od)).1=_;unfold visit;rw[hl,hm,Qb7]
 ·rw[show(i+1).toNat=i.toNat+1 by omega];omega
 ·omega
theorem G7 {p:SPage} {a:SAddr} {s o se od:List SAddr} {i:Int} (h:visInv p a s o se od i) (hi:i<(imports p a).1.length) (hn:inL s a=false) (hp:okVis p a s o):okVis p ((imports p a).1.getD i.toNat default) se od/\muV p se<muV p s:=by
 obtain⟨h1,h2,h3,⟨m,hm⟩,h5,h6⟩:=h;obtain⟨p1,p2,p3,p4,p5⟩:=hp;have hr:=TJ hn (show i.toNat<(imports p a).1.length by omega);have hm2:=Zd p (s++[a]) m;rw[<-hm] at hm2;have hb:=(DX p a).1 _ (Br (show i.toNat<(imports p a).1.length by omega));exact⟨⟨p1,p2,by omega,by omega,by omega⟩,by omega⟩
theorem HI {p:SPage} (a:SAddr) (h:okMb p):(imports p a).1.length<=4000000000:=by
 have hr:=BH p.bg a;rcases(DX p a).2 with he|⟨q1,q2⟩
 ·rw[he];decide
 ·have:=h (findMod p.bg a).toNat (by omega);omega
theorem MX {p:SPage} {a:SAddr} {s o se od:List SAddr} {i:Int} (h:visInv p a s o se od i) (hp:okVis p a s o):od.length<=200000000000:=by
 obtain⟨h1,h2,h3,_,h5,h6⟩:=h;obtain⟨p1,p2,p3,p4,p5⟩:=hp;have h7:=HI a p2;have h8:=XJ p s [a];simp only[totV,Qa4,Qa6,Qb8] at *
 omega
theorem ME {p:SPage} {a:SAddr} {s o se od:List SAddr} {i:Int} (h:visInv p a s o se od i) (hi:¬ i<(imports p a).1.length) (hn:inL s a=false):(se,od++[a])=visit p a (s,o):=by
 obtain⟨h1,h2,h3,_⟩:=h;rw[Rw (by omega)] at h3;rw[Sq (st:=(s,o)) hn,<-h3]
theorem S9 (p:SPage) (a:SAddr) (s o:List SAddr) (ho:o.length<=s.length):visInv p a s o (s++[a]) o 0:=by
 refine⟨by omega,by omega,rfl,⟨[],(Qd8 _).symm⟩,Qa8 _,?_⟩;rw[Qa4,Qd7]
theorem Om (s:List SAddr) (a:SAddr):(s.any fun c=>decide (c=a))=inL s a:=rfl
abbrev B7 (p:SPage) (a:SAddr) (s:(List SAddr)) (o:(List SAddr)):LInv:=⟨[⟨.s,2,true,.sl .addr⟩,⟨.s,3,true,.sl .addr⟩,⟨.s,12,true,.el .int⟩,⟨.b,4,false,.el .page⟩,⟨.b,5,true,.el .addr⟩,⟨.s,10,true,.sl .addr⟩],fun(z_ x_:(List SAddr)×(List SAddr)×Int×SPage×SAddr×(List SAddr)×Unit)=>(((visInv p a s o x_.1 x_.2.1 x_.2.2.1)/\x_.2.2.2.1=z_.2.2.2.1)/\x_.2.2.2.2.1=z_.2.2.2.2.1)/\x_.2.2.2.2.2.1=z_.2.2.2.2.2.1,fun(x_:(List SAddr)×(List SAddr)×Int×SPage×SAddr×(List SAddr)×Unit)=>(imports p a).1.length-x_.2.2.1.toNat⟩
def Aj1:=AlB.G GV<|GS.ofRec (S:=GV) (L:=fun⟨p,a,s,o,_⟩=>fun|6=>some (B7 p a s o)|_=>none) (kp:=[2,3,4,5,8,9,10,12,15,33,1000015,1000033]) mVis AlB.2 func408 (by kernel_rfl) (by kernel_rfl) (by
 intro n0;rintro⟨(p:SPage),(a:SAddr),(s:List SAddr),(o:List SAddr),_⟩ hp hm;refine ho (.cl Da (s,a,()) fun z2=>.br (z2.1) (GS.out GV ((s,o,()),(()))) (.ob (True)<|.ob (BK s.length 32)<|.ob (True)<|.ob (BK (s.length+[a].length) 32)<|.cl Dr (p,a,()) fun z3=>lpx (B7 p a s o) (s++[a],(o,((0:Int),(p,(a,(z3.1,())))))) fun(y6:List SAddr×List SAddr×Int×SPage×SAddr×List SAddr×PUnit) bk6=>.br (decide (y6.2.2.1<(y6.2.2.2.2.2.1.length:Int))) (.ob (inB y6.2.2.1 y6.2.2.2.2.2.1.length)<|.ob (y6.2.2.1.toNat<y6.2.2.2.2.2.1.length)<|.ob (GV.pre (y6.2.2.2.1,y6.2.2.2.2.2.1.getD y6.2.2.1.toNat default,y6.1,y6.2.1,())/\mVis (y6.2.2.2.1,y6.2.2.2.2.2.1.getD y6.2.2.1.toNat default,y6.1,y6.2.1,())<n0)<|.lt _ (GV.fn (y6.2.2.2.1,y6.2.2.2.2.2.1.getD y6.2.2.1.toNat default,y6.1,y6.2.1,())) fun z4=>.ob (bk6 (z4.1.1,(z4.1.2.1,(w1 y6.2.2.1,(y6.2.2.2.1,(y6.2.2.2.2.1,(y6.2.2.2.2.2.1,())))))))<|.ok) (.ob (True)<|.ob (BK y6.2.1.length 32)<|.ob (True)<|.ob (BK (y6.2.1.length+[y6.2.2.2.2.1].length) 32)<|GS.out GV ((y6.1,y6.2.1++[y6.2.2.2.2.1],()),(()))))) ?_;repeat' first|(guard_target =~ Out.holds _ _;first|refine Aw (li:=B7 p a s o) ?_ fun(y6:List SAddr×List SAddr×Int×SPage×SAddr×List SAddr×PUnit) i6=>?_|refine GS.leafY ?_|refine Ab (fun _=>?_) fun _=>?_|refine Ae ?_ fun _=>?_|refine Aa ?_ fun _=>?_|refine Dh ?_)|exact trivial
 all_goals have hq:okVis p a s o:=hp
 all_goals obtain⟨p1,p2,p3,p4,p5⟩:=(show okVis p a s o from hp)
 all_goals
  have hsl:s.length<=100000000000:=by(simp only[totV] at p4;omega)
  have hil:=HI a p2;try simp only[AA] at *
  try simp only[B7,Da,Dr,GV,std,Nat.reduceAdd,Da,Dr,Om] at *
 all_goals first|trivial|omega|exact⟨p1,p2,p3⟩|exact S9 p a s o p5|(rw[Pm (by assumption)];exact⟨rfl,rfl⟩)|skip
 all_goals (obtain⟨⟨⟨i1,e1⟩,e2⟩,e3⟩:=i6;simp only[e1,e2,e3] at *)
 all_goals
  have i2:=i1.1;have i3:=MX i1 hq
 all_goals first|trivial|omega|exact⟨i2,by assumption⟩|skip
 all_goals first|exact⟨(G7 i1 (by assumption) (by assumption) hq).1,Qf5 (G7 i1 (by assumption) (by assumption) hq).2 (Nat.le_of_lt_succ hm)⟩|(rw[Ah (by omega)];simp only[Qe1];exact⟨OT i1 (by assumption),by omega⟩)|(rw[<-ME i1 (by omega) (by assumption)];exact⟨rfl,rfl⟩))
def Bp:Fct:=⟨[.v (.el .page),.v (.el .addr)],[.sl .addr],fun(x_:SPage×SAddr×Unit)=>okVis x_.1 x_.2.1 [] [],fun(x_:SPage×SAddr×Unit)=>(reachOf x_.1 x_.2.1,())⟩
def Ame:=Aj1.a Bp<|Fct.o [2,3,4,6] Aj1.2 func360 (by
 rintro⟨(p:SPage),(a:SAddr),_⟩ hp;refine ho (.ob (GV.pre (p,a,[],[],()))<|.lt _ (GV.fn (p,a,[],[],())) fun z2=>.lf Bp (z2.1.2.1,())) ?_;refine Aa ?_ fun o1=>Dh (lfY ?_)
 all_goals
  try simp only[AA] at *
  try simp only[Bp,GV,std,Nat.reduceAdd,GV] at *
 all_goals first|assumption|rfl)
theorem Pe:∀ (f:Nat) (p:SPage) (a:SAddr) (st:List SAddr×List SAddr) (x:SAddr),x∈(visitF f p a st).2->x∈st.2\/x=a\/x.host.size<=8
 | 0,p,a,st,x,h=>.inl h
 | f+1,p,a,st,x,h=>by
  rw[visitF] at h;split at h
  ·exact .inl h
  ·have hfold:∀ (l:List SAddr) (s:List SAddr×List SAddr),(∀ y,y∈l->y.host.size<=8)->x∈(l.foldl (fun st b=>visitF f p b st) s).2->x∈s.2\/x.host.size<=8:=by
    intro l
    induction l with
    | nil=>intro s _ h;exact .inl h
    | cons b l ih=>
     intro s hl h;rcases ih _ (fun y hy=>hl y (Qd9 _ hy)) h with h|h
     ·rcases Pe f p b s x h with h|h|h
      ·exact .inl h
      ·exact .inr (h▸hl b Qf3)
      ·exact .inr h
     ·exact .inr h
   rcases Qc0.1 h with h|h
   ·rcases hfold _ _ (fun y hy=>((DX p a).1 y hy).1) h with h|h
    ·exact .inl h
    ·exact .inr (.inr h)
   ·rw[List.mem_singleton] at h;exact .inr (.inl h)
theorem Hc {p:SPage} {a x:SAddr} (h:x∈reachOf p a) (ha:a.host.size<=4000000000):x.host.size<=4000000000:=by
 rcases Pe _ p a ([],[]) x h with h|h|h
 ·cases h
 ·exact h▸ha
 ·omega
theorem GA {p:SPage} {a:SAddr} (h:totV p []<=100000000000):(reachOf p a).length<=100000000001:=by
 have:=Mk p a ([],[]);unfold reachOf;simp only[Qb8] at this;have h2:(visit p a ([],[])).1.length<=totV p (visit p a ([],[])).1:=Qg5 _ _;omega
def graphReady (p:SPage) (a:SAddr):Bool:=(reachOf p a).all fun b=>decide (0<=findMod p.bg b)&&(p.bg.getD (findMod p.bg b).toNat default).done
def graphFails (p:SPage) (a:SAddr):Bool:=(reachOf p a).any fun b=>!(imports p b).2
theorem Acu {α:Type} [Inhabited α] {f:α->Bool} {l:List α} {i:Nat} (h:i<l.length):(l.drop i).all f=(f (l.getD i default)&&(l.drop (i+1)).all f):=by rw[drop_cons h];rfl
theorem AcD {α:Type} [Inhabited α] {f:α->Bool} {l:List α} {i:Nat} (h:i<l.length):(l.drop i).any f=(f (l.getD i default)||(l.drop (i+1)).any f):=by rw[drop_cons h];rfl
theorem Wy {α:Type} {f:α->Bool} {l:List α} {i:Nat} (h:l.length<=i):(l.drop i).all f=true:=by rw[Qb6 h];rfl
theorem Xi {α:Type} {f:α->Bool} {l:List α} {i:Nat} (h:l.length<=i):(l.drop i).any f=false:=by rw[Qb6 h];rfl
def Ba:Fct:=⟨[.v (.el .page),.v (.el .addr)],[.el .bool],fun(x_:SPage×SAddr×Unit)=>okVis x_.1 x_.2.1 [] [],fun(x_:SPage×SAddr×Unit)=>(graphReady x_.1 x_.2.1,())⟩
abbrev BO (p:SPage) (a:SAddr):LInv:=⟨[⟨.s,6,true,.el .int⟩,⟨.b,2,false,.el .page⟩,⟨.s,5,true,.sl .addr⟩],fun(z_ x_:Int×SPage×(List SAddr)×Unit)=>((0<=x_.1/\x_.1<=(reachOf p a).length/\((reachOf p a).drop x_.1.toNat).all (fun b=>decide (0<=findMod p.bg b)&&(p.bg.getD (findMod p.bg b).toNat default).done)=graphReady p a)/\x_.2.1=z_.2.1)/\x_.2.2.1=z_.2.2.1,fun(x_:Int×SPage×(List SAddr)×Unit)=>(reachOf p a).length-x_.1.toNat⟩
def Aj7:=Ame.a Ba<|Fct.p (KP [2,3,4,5,6,7] [14,33]) (fun⟨p,a,_⟩=>lv [(3,BO p a)]) Ame.2 func309 (by
 rintro⟨(p:SPage),(a:SAddr),_⟩ hp;refine ho (.cl Bp (p,a,()) fun z2=>lpx (BO p a) ((0:Int),(p,(z2.1,()))) fun(y2:Int×SPage×List SAddr×PUnit) bk2=>.br (decide (y2.1<(y2.2.2.1.length:Int))) (.ob (inB y2.1 y2.2.2.1.length)<|.ob (y2.1.toNat<y2.2.2.1.length)<|.cl Ca (y2.2.1,y2.2.2.1.getD y2.1.toNat default,()) fun(z3:Int×PUnit)=>.br (decide (z3.1<0)) (.lf Ba (false,())) (.ob (inB z3.1 y2.2.1.bg.length)<|.br (!(y2.2.1.bg.getD z3.1.toNat default).done) (.lf Ba (false,())) (.ob (bk2 (w1 y2.1,(y2.2.1,(y2.2.2.1,()))))<|.ok))) (.lf Ba (true,()))) ?_;refine Ae ?_ fun o1=>(Aw ?_ fun(y2:Int×SPage×List SAddr×PUnit) i2=>Ab (fun h3=>Aa ?_ fun o4=>Aa ?_ fun o5=>Ae ?_ fun o6=>(Ab (fun h7=>lfY ?_) (fun h7=>Aa ?_ fun o8=>Ab (fun h9=>lfY ?_) (fun h9=>Aa ?_ fun o10=>trivial)))) (fun h3=>lfY ?_))
 all_goals obtain⟨p1,p2,p3,p4,p5⟩:=(show okVis p a [] [] from hp)
 all_goals
  have hl:=GA (a:=a) p4;try simp only[AA] at *
  try simp only[BO,Ba,Ca,Bp,std,Nat.reduceAdd,Bp,Ca,Ht] at *
 all_goals first|trivial|omega|exact⟨p1,p2,p3,p4,p5⟩|exact⟨by omega,by omega,rfl⟩|skip
 all_goals (obtain⟨⟨⟨i0,i1,i3⟩,e1⟩,e2⟩:=i2;simp only[e1,e2] at *)
 all_goals have hf:=BH p.bg ((reachOf p a).getD y2.1.toNat default)
 all_goals first|assumption|omega|skip
 all_goals first|(rw[Wy (by omega)] at i3;exact i3)|rw[Acu (by omega)] at i3
 all_goals first|(rw[<-i3,Qg2 (by omega)];rfl)|(rw[<-i3,Qf2 (by omega),show SModule.done _=false by assumption];rfl)|(rw[Qf2 (by omega),show SModule.done _=true by assumption,Bool.true_and,Bool.true_and] at i3;rw[Ah (by omega),show(y2.1+1).toNat=y2.1.toNat+1 by omega];simp only[Qe1];exact⟨⟨by omega,by omega,i3⟩,by omega⟩))
def Bs:Fct:=⟨[.v (.el .page),.v (.el .addr)],[.el .bool],fun(x_:SPage×SAddr×Unit)=>okVis x_.1 x_.2.1 [] [],fun(x_:SPage×SAddr×Unit)=>(graphFails x_.1 x_.2.1,())⟩
abbrev BU (p:SPage) (a:SAddr):LInv:=⟨[⟨.s,6,true,.el .int⟩,⟨.b,2,false,.el .page⟩,⟨.s,5,true,.sl .addr⟩],fun(z_ x_:Int×SPage×(List SAddr)×Unit)=>((0<=x_.1/\x_.1<=(reachOf p a).length/\((reachOf p a).drop x_.1.toNat).any (fun b=>!(imports p b).2)=graphFails p a)/\x_.2.1=z_.2.1)/\x_.2.2.1=z_.2.2.1,fun(x_:Int×SPage×(List SAddr)×Unit)=>(reachOf p a).length-x_.1.toNat⟩
def AiJ:=Aj7.a Bs<|Fct.p (KP [2,3,4,5,6,8] [15,28]) (fun⟨p,a,_⟩=>lv [(3,BU p a)]) Aj7.2 func361 (by
 rintro⟨(p:SPage),(a:SAddr),_⟩ hp;refine ho (.cl Bp (p,a,()) fun z2=>lpx (BU p a) ((0:Int),(p,(z2.1,()))) fun(y2:Int×SPage×List SAddr×PUnit) bk2=>.br (decide (y2.1<(y2.2.2.1.length:Int))) (.ob (inB y2.1 y2.2.2.1.length)<|.ob (y2.1.toNat<y2.2.2.1.length)<|.cl Dr (y2.2.1,y2.2.2.1.getD y2.1.toNat default,()) fun z3=>.br (!z3.2.1) (.lf Bs (true,())) (.ob (bk2 (w1 y2.1,(y2.2.1,(y2.2.2.1,()))))<|.ok)) (.lf Bs (false,()))) ?_;refine Ae ?_ fun o1=>(Aw ?_ fun(y2:Int×SPage×List SAddr×PUnit) i2=>Ab (fun h3=>Aa ?_ fun o4=>Aa ?_ fun o5=>Ae ?_ fun o6=>(Ab (fun h7=>lfY ?_) (fun h7=>Aa ?_ fun o8=>trivial))) (fun h3=>lfY ?_))
 all_goals obtain⟨p1,p2,p3,p4,p5⟩:=(show okVis p a [] [] from hp)
 all_goals
  have hl:=GA (a:=a) p4;try simp only[AA] at *
  try simp only[BU,Bs,Dr,Bp,std,Nat.reduceAdd,Bp,Dr] at *
 all_goals first|trivial|omega|exact⟨p1,p2,p3,p4,p5⟩|exact⟨by omega,by omega,rfl⟩|skip
 all_goals (obtain⟨⟨⟨i0,i1,i3⟩,e1⟩,e2⟩:=i2;simp only[e1,e2] at *)
 all_goals first|assumption|omega|exact⟨p1,p2,Hc (Br (by omega)) p3⟩|skip
 all_goals first|(rw[Xi (by omega)] at i3;exact i3)|rw[AcD (by omega)] at i3
 all_goals first|(rw[<-i3,show Prod.snd (imports p _)=false by assumption];rfl)|(rw[show Prod.snd (imports p _)=true by assumption,Bool.not_true,Bool.false_or] at i3;rw[Ah (by omega),show(y2.1+1).toNat=y2.1.toNat+1 by omega];simp only[Qe1];exact⟨⟨by omega,by omega,i3⟩,by omega⟩))
def bpot (b:SBuilder):Nat:=szBuilder b+10*(40-b.bh.length)
theorem QV (b:SBuilder) (l:List SSheet) (x:SLine):bpot (runLine b l x).1<=bpot b:=by
 unfold runLine;split
 ·exact Qa8 _
 ·split
  ·dsimp only;split
   ·rename_i h;obtain⟨h1,h2,h3⟩:=h;have:=CA h3;have h0:szL szNode []=0:=rfl;have h4:szL A0 []=0:=rfl;have h5:ByteArray.size ⟨#[]⟩=0:=rfl;simp only[bpot,szBuilder,CV,Ax,h0,szNode,h4,h5,Qa4,Qa6,Qb8];omega
   ·exact Qa8 _
  ·split
   ·exact Qa8 _
   ·split
    ·exact Qa8 _
    ·split<;>exact Qa8 _
theorem Ju (l:List SSheet):∀ (r:List SLine) (b:SBuilder) (w:ByteArray) (g:List ByteArray),bpot (runLines l r b w g).1<=bpot b
 | [],b,w,g=>Qa8 _
 | x::r,b,w,g=>by rw[runLines];exact Qe7 (Ju l r _ _ _) (QV b l x)
theorem Np (b:SBuilder) (l:List SSheet) (r:List SLine):bpot (runScript b l r).1<=bpot b:=Ju l r b _ _
theorem NH (b:SBuilder) (l:List SSheet) (r:List SLine):(runScript b l r).2.2.length<=r.length:=by
 have:=(F6 l r b ⟨#[]⟩ []).2.2;show(runLines l r b ⟨#[]⟩ []).2.2.length<=_;simpa using this
theorem Mq (b:ByteArray):∀ (l:List ByteArray) (acc:List SAddr),szL CT (pmGo b l acc).2.1<=366/\(pmGo b l acc).2.1.length<=6
 | [],acc=>⟨Nat.zero_le _,Nat.zero_le _⟩
 | w::l,acc=>by
  rw[pmGo];split
  ·split
   ·exact Mq b l _
   ·exact⟨Nat.zero_le _,Nat.zero_le _⟩
  ·split
   ·exact Em _
   ·exact⟨Nat.zero_le _,Nat.zero_le _⟩
def entLines (p:SPage) (b:SAddr):List SLine:=(parseModule (p.bg.getD (findMod p.bg b).toNat default).body b.host).2.1
theorem HM (p:SPage) (b:SAddr):szL CT (entLines p b)<=366/\(entLines p b).length<=6:=Mq _ _ _
def entRun (p q:SPage) (b:SAddr):SBuilder×ByteArray×List ByteArray:=runScript q.ba (sheetsOf p.bd) (entLines p b)
def enter1 (p q:SPage) (b:SAddr):SPage:=if inL q.ran b=true then q else{ q with ran:=q.ran++[b],ba:=(entRun p q b).1,log:=addLog q.log (entRun p q b).2.2 }
def enterAll (p q:SPage) (l:List SAddr):SPage:=l.foldl (enter1 p) q
def enter (p:SPage) (a:SAddr):SPage:=if graphFails p a=true then say p (⟨#[102,97,105,108,32]⟩++formatAddr a) else enterAll p p (reachOf p a)
theorem Rb {p q:SPage} {l:List SAddr} {i:Nat} (h:i<l.length):enterAll p q (l.drop i)=enterAll p (enter1 p q (l.getD i default)) (l.drop (i+1)):=by rw[drop_cons h];rfl
theorem Jz {p q:SPage} {l:List SAddr} {i:Nat} (h:l.length<=i):enterAll p q (l.drop i)=q:=by rw[Qb6 h];rfl
theorem U3 (l:List ByteArray):∀ g:List ByteArray,(addLog g l).length<=max g.length 40:=by
 induction l with
 | nil=>intro g;rw[FO];omega
 | cons x l ih=>
  intro g;rw[addLog];split
  ·have:=ih (g++[x]);rw[Qa4,Qd7] at this;omega
  ·omega
def okEnt (p:SPage) (a:SAddr):Prop:=szPage p<=1000000000000/\okVis p a [] []/\szAddr a<=1000000000000/\szBuilder p.ba<=20000000000/\szL AI p.bd<=40000000000/\okBod p
def entInv (p:SPage) (a:SAddr) (q:SPage) (i:Int):Prop:=0<=i/\i<=(reachOf p a).length/\enterAll p q ((reachOf p a).drop i.toNat)=enterAll p p (reachOf p a)/\q={ p with ran:=q.ran,ba:=q.ba,log:=q.log }/\bpot q.ba<=bpot p.ba/\q.ran.length<=p.ran.length+i.toNat/\q.log.length<=max p.log.length 40
def logInv (q1:SPage) (g:List ByteArray) (q:SPage) (k:Int):Prop:=0<=k/\k<=g.length/\q={ q1 with log:=q.log }/\addLog q.log (g.drop k.toNat)=addLog q1.log g
theorem Sm (q:SPage) (g:List ByteArray):logInv q g q 0:=⟨by omega,by omega,rfl,rfl⟩
theorem P4 {q1 q:SPage} {g:List ByteArray} {k:Int} (h:logInv q1 g q k) (hk:k<g.length):logInv q1 g (say q (g.getD k.toNat default)) (k+1):=by
 obtain⟨h1,h2,h3,h4⟩:=h;rw[P3 (by omega)] at h4;refine⟨by omega,by omega,?_,?_⟩
 ·unfold say;split
  ·rw[h3]
  ·exact h3
 ·rw[show(k+1).toNat=k.toNat+1 by omega];unfold say;split
  ·rename_i hc;rw[Qa2 hc] at h4;exact h4
  ·rename_i hc;rw[Qa3 hc] at h4;rw[FZ hc];exact h4
theorem MO {q1 q:SPage} {g:List ByteArray} {k:Int} (h:logInv q1 g q k) (hk:¬ k<g.length):q={ q1 with log:=addLog q1.log g }:=by
 obtain⟨h1,h2,h3,h4⟩:=h;rw[MM (by omega)] at h4;rw[<-h4];exact h3
theorem Ox {p:SPage} {x:SAddr} (h:(imports p x).2=true):0<=findMod p.bg x:=by
 unfold imports at h;split at h
 ·cases h
 ·rename_i hc;omega
theorem IC {p:SPage} {a x:SAddr} (h:graphFails p a=false) (hx:x∈reachOf p a):0<=findMod p.bg x:=by
 unfold graphFails at h;rw[List.any_eq_false] at h;have:=h x hx;refine Ox ?_;cases hi:(imports p x).2 with
 | true=>rfl
 | false=>rw[hi] at this;exact absurd rfl this
theorem Sg (p:SPage) (a:SAddr):entInv p a p 0:=⟨by omega,by omega,rfl,rfl,Qa8 _,Qa8 _,Nat.le_max_left _ _⟩
theorem EI {p q:SPage} {a:SAddr} {i:Int} (h:entInv p a q i):q.bg=p.bg/\q.bd=p.bd:=by
 have e:=h.2.2.2.1;exact⟨by rw[e],by rw[e]⟩
theorem Ki {p q:SPage} {a:SAddr} {i:Int} (h:entInv p a q i) (hp:okEnt p a):q.ran.length<=1200000000000/\szBuilder q.ba<=30000000000/\szL Dl (sheetsOf p.bd)<=80000000000/\okSheets (sheetsOf p.bd)/\szL AI p.bd<=40000000000/\(reachOf p a).length<=100000000001/\p.bg.length<=1000000000000:=by
 obtain⟨h1,h2,h3,h4,h5,h6,h7⟩:=h;obtain⟨p1,⟨q1,q2,q3,q4,q5⟩,p3,p4,p5,p6⟩:=hp;have hl:=GA (a:=a) q4;have hs:=Ec p.bd;have hpp:=DJ p;have hr:=Ad szAddr p.ran;have hm:=Ad Ar p.bg;have hb:szBuilder q.ba<=bpot q.ba:=Qg5 _ _;have hb2:bpot p.ba<=szBuilder p.ba+400:=by unfold bpot;omega
 exact⟨by omega,by omega,by omega,hs.2,by omega,hl,by omega⟩
theorem Ia {p q:SPage} {a:SAddr} {i:Int} (h:entInv p a q i) (hi:i<(reachOf p a).length):entInv p a (enter1 p q ((reachOf p a).getD i.toNat default)) (i+1):=by
 obtain⟨h1,h2,h3,h4,h5,h6,h7⟩:=h;rw[Rb (by omega)] at h3;refine⟨by omega,by omega,by rw[show(i+1).toNat=i.toNat+1 by omega];exact h3,?_,?_,?_,?_⟩
 ·unfold enter1;split
  ·exact h4
  ·rw[h4]
 ·unfold enter1;split
  ·exact h5
  ·exact Qe7 (Np _ _ _) h5
 ·unfold enter1;split
  ·omega
  ·rw[Qa4,Qd7];omega
 ·unfold enter1;split
  ·exact h7
  ·have:=U3 (entRun p q ((reachOf p a).getD i.toNat default)).2.2 q.log;show(addLog _ _).length<=_;omega
theorem Vk (p q:SPage) (b:SAddr):runScript q.ba (sheetsOf p.bd) (parseModule (p.bg.getD (findMod p.bg b).toNat default).body b.host).2.1=entRun p q b:=rfl
theorem Mm (a:SAddr):(formatAddr a).size<=szAddr a+1:=by
 unfold formatAddr;split
 ·rw[Qb5,Qb5];simp only[szAddr,show ByteArray.size ⟨#[47]⟩=1 from rfl];omega
 ·exact Nat.zero_le _
def Kc:Fct:=⟨[.v (.el .page),.v (.el .addr)],[.el .page],fun(x_:SPage×SAddr×Unit)=>okEnt x_.1 x_.2.1,fun(x_:SPage×SAddr×Unit)=>(enter x_.1 x_.2.1,())⟩
abbrev Df (p:SPage) (a:SAddr):LInv:=⟨[⟨.b,5,true,.el .page⟩,⟨.s,7,true,.el .int⟩,⟨.b,4,true,.el .page⟩,⟨.s,6,true,.sl .addr⟩],fun(z_ x_:SPage×Int×SPage×(List SAddr)×Unit)=>((entInv p a x_.1 x_.2.1)/\x_.2.2.1=z_.2.2.1)/\x_.2.2.2.1=z_.2.2.2.1,fun(x_:SPage×Int×SPage×(List SAddr)×Unit)=>(reachOf p a).length-x_.2.1.toNat⟩
abbrev C6 (p:SPage) (a:SAddr):LInv:=⟨[⟨.b,5,true,.el .page⟩,⟨.s,14,true,.el .int⟩,⟨.s,13,true,.sl .str⟩,⟨.s,6,true,.sl .addr⟩,⟨.b,4,true,.el .page⟩],fun(z_ x_:SPage×Int×(List ByteArray)×(List SAddr)×SPage×Unit)=>(x_.2.2.1=z_.2.2.1/\x_.2.2.2.1=z_.2.2.2.1/\logInv z_.1 z_.2.2.1 x_.1 x_.2.1)/\x_.2.2.2.2.1=z_.2.2.2.2.1,fun(x_:SPage×Int×(List ByteArray)×(List SAddr)×SPage×Unit)=>x_.2.2.1.length-x_.2.1.toNat⟩
def Aj4:=AiJ.a Kc<|Fct.p (KP [2,3,4,5,6,7,9,11,13,14] [19,31,40,86]) (fun⟨p,a,_⟩=>fun|6=>some (Df p a)|14=>some (C6 p a)|_=>none) AiJ.2 func310 (by
 rintro⟨(p:SPage),(a:SAddr),_⟩ hp;refine ho (let q1_:=(⟨#[102,97,105,108,32]⟩:ByteArray);.cl fCopyPage (p,()) fun z2=>.cl Bs (p,a,()) fun z3=>.br (z3.1) (.cl BT (a,()) fun z4=>.ob (sameSize q1_ z4.1)<|.ob (RA.pre (z2.1,q1_++z4.1,()))<|.lt _ (RA.fn (z2.1,q1_++z4.1,())) fun z5=>.lf Kc (z5.1.1,())) (.cl Bp (p,a,()) fun z6=>lpx (Df p a) (z2.1,((0:Int),(default,(z6.1,())))) fun(y7:SPage×Int×SPage×List SAddr×PUnit) bk7=>let q3_:=({y7.1 with ran:=y7.1.ran++[y7.2.2.2.1.getD y7.2.1.toNat default]}:SPage);let q2_:=inB y7.2.1 y7.2.2.2.1.length;let q0_:=y7.2.1.toNat<y7.2.2.2.1.length;.br (decide (y7.2.1<(y7.2.2.2.1.length:Int))) (.ob q2_<|.ob q0_<|.cl Da (y7.1.ran,y7.2.2.2.1.getD y7.2.1.toNat default,()) fun z7=>.br (z7.1) (.ob (bk7 (y7.1,(w1 y7.2.1,(y7.2.2.1,(y7.2.2.2.1,())))))<|.ok) (.ob q2_<|.ob q0_<|.ob (True)<|.ob (BK (y7.1.ran.length+[y7.2.2.2.1.getD y7.2.1.toNat default].length) 32)<|.ob q2_<|.ob q0_<|.cl Ca (q3_,y7.2.2.2.1.getD y7.2.1.toNat default,()) fun(z8:Int×PUnit)=>.ob (inB z8.1 y7.1.bg.length)<|.ob (z8.1.toNat<y7.1.bg.length)<|.ob q2_<|.ob q0_<|.cl Av ((y7.1.bg.getD z8.1.toNat default).body,(y7.2.2.2.1.getD y7.2.1.toNat default).host,()) fun z9=>.cl CH (q3_,()) fun z10=>.cl BR (y7.1.ba,z10.1,z9.2.1,()) fun z11=>lpx (C6 p a) (({y7.1 with ba:=z11.1,ran:=y7.1.ran++[y7.2.2.2.1.getD y7.2.1.toNat default]}:SPage),((0:Int),(z11.2.2.1,(y7.2.2.2.1,(y7.2.2.1,()))))) fun(y27:SPage×Int×List ByteArray×List SAddr×SPage×PUnit) bk27=>.br (decide (y27.2.1<(y27.2.2.1.length:Int))) (.ob (inB y27.2.1 y27.2.2.1.length)<|.ob (y27.2.1.toNat<y27.2.2.1.length)<|.ob (RA.pre (y27.1,y27.2.2.1.getD y27.2.1.toNat default,()))<|.lt _ (RA.fn (y27.1,y27.2.2.1.getD y27.2.1.toNat default,())) fun z12=>.ob (Value.int IntKind.i64 y7.2.1=Value.int IntKind.i64 y7.2.1)<|.ob (bk27 (z12.1.1,(w1 y27.2.1,(y27.2.2.1,(y27.2.2.2.1,(y27.2.2.2.2.1,()))))))<|.ok) (.ob (bk7 (y27.1,(w1 y7.2.1,(y27.2.2.2.2.1,(y27.2.2.2.1,())))))<|.ok))) (.lf Kc (y7.1,())))) ?_;refine Ae ?_ fun o1=>(Ae ?_ fun o2=>(Ab (fun h3=>Ae ?_ fun o4=>(Aa ?_ fun o5=>Aa trivial fun _=>Dh (lfY ?_))) (fun h3=>Ae ?_ fun o6=>(Aw ?_ fun(y7:SPage×Int×SPage×List SAddr×PUnit) i7=>Ab (fun h8=>Aa ?_ fun o9=>Aa ?_ fun o10=>Ae ?_ fun o11=>(Ab (fun h12=>Aa ?_ fun o13=>trivial) (fun h12=>Aa ?_ fun o14=>Aa ?_ fun o15=>Aa trivial fun _=>Aa ?_ fun o16=>Aa ?_ fun o17=>Aa ?_ fun o18=>Ae ?_ fun o19=>(Aa ?_ fun o20=>Aa ?_ fun o21=>Aa ?_ fun o22=>Aa ?_ fun o23=>Ae ?_ fun o24=>(Ae ?_ fun o25=>(Ae ?_ fun o26=>(Aw ?_ fun(y27:SPage×Int×List ByteArray×List SAddr×SPage×PUnit) i27=>Ab (fun h28=>Aa ?_ fun o29=>Aa ?_ fun o30=>Aa trivial fun _=>Dh (Aa rfl fun _=>Aa ?_ fun o31=>trivial)) (fun h28=>Aa ?_ fun o32=>trivial)))))))) (fun h8=>lfY ?_)))))
 all_goals have hq:okEnt p a:=hp
 all_goals obtain⟨p1,p2,p3,p4,p5,p6⟩:=(show okEnt p a from hp)
 all_goals
  have hfa:=Mm a;try simp only[AA] at *
  try simp only[C6,Df,fCopyPage,Kc,BT,Bs,Da,Ca,Av,Bp,BR,RA,CH,std,Nat.reduceAdd,fCopyPage,Bs,BT,RA,Bp,Da,Av,BR,CH,Ca,Ht,Om] at *
 all_goals first|trivial|omega|exact p2|(unfold sameSize;rw[show ByteArray.size ⟨#[102,97,105,108,32]⟩=5 from rfl];omega)|exact Sg p a|(unfold enter;rw[Qa2 (by assumption)])|skip
 all_goals (obtain⟨⟨i1,e1⟩,e2⟩:=i7;have em:=(EI i1).1;have es:=(EI i1).2;have i0:=i1.1;have iz:=Ki i1 hq)
 all_goals try simp only[e2,em,es,Vk] at *
 all_goals first|trivial|omega|skip
 all_goals try (have hmem:=Br (l:=reachOf p a) (i:=y7.2.1.toNat) (by omega);have hfnd:=IC (by assumption) hmem;have hfi:=BH p.bg ((reachOf p a).getD y7.2.1.toNat default))
 all_goals first|exact⟨hfnd,hfi.1⟩|exact⟨by omega,p6⟩|exact⟨p2.2.1 _ (by omega),Hc hmem p2.2.2.1⟩|exact⟨by omega,by omega,Qe7 (HM p _).1 (by decide),iz.2.2.2.1⟩|exact Sm _ _|(rw[Ah (by omega)];have e:=Ia i1 (by omega);unfold enter1 at e;rw[Qa2 (by assumption)] at e;exact⟨⟨⟨e,e1⟩,trivial⟩,by omega⟩)|(unfold enter;rw[Qa3 (by intro q;exact tf q (by assumption))];have e:=i1.2.2.1;rw[Jz (by omega)] at e;exact e)|skip
 all_goals (obtain⟨⟨j1,j2,j3⟩,j4⟩:=i27;simp only[j1,j2,j4] at *;have j0:=j3.1;have hgl:=Qe7 (NH y7.1.ba (sheetsOf p.bd) (entLines p ((reachOf p a).getD y7.2.1.toNat default))) (HM p _).2;rw[show runScript y7.1.ba (sheetsOf p.bd) (entLines p ((reachOf p a).getD y7.2.1.toNat default))=entRun p y7.1 ((reachOf p a).getD y7.2.1.toNat default) from rfl] at hgl)
 all_goals first|exact⟨j0,by assumption⟩|(rw[Ah (by omega)];simp only[Qe1,true_and];exact⟨P4 j3 (by assumption),by omega⟩)|skip
 all_goals
  have e:=MO j3 (by omega);have em2:=EI i1;have e5:y27.1=enter1 p y7.1 ((reachOf p a).getD y7.2.1.toNat default):=by rw[e];unfold enter1;rw[Qa3 (by intro q;exact tf q (by assumption))];simp only[em2.1,em2.2]
 all_goals rw[Ah (by omega),e5]
 all_goals exact⟨⟨⟨Ia i1 (by omega),by first|trivial|assumption⟩,by first|trivial|assumption⟩,by omega⟩)
theorem Acx (g:SModule->Bool):∀ l:List SModule,wtL g l<=szL Ar l
 | []=>Qa8 _
 | m::l=>by have:=Acx g l;rw[wtL,Ax];split<;>simp only[Ar]<;>omega
theorem AmG (p:SPage):totV p []<=szL Ar p.bg:=by
 unfold totV;rw[Pw,Qb8,Qd4];exact Acx _ _
def okTail (p:SPage):Prop:=okParse p/\okMb p/\szL Ar p.bg<=50000000000/\∀ i,i<p.bf.length->(p.bf.getD i default).host.size<=4000000000
theorem MF {p:SPage} (h:okTail p) {i:Nat} (hi:i<p.bf.length):okEnt p (p.bf.getD i default):=by
 obtain⟨⟨⟨h1,h1a,h1b,h1c,h1e⟩,h1d,h1f⟩,h2,h2a,h3⟩:=h;have hpp:=DJ p;have ht:=AmG p;have hm:=Ad Ar p.bg;have ha:=DO szAddr hi;exact⟨h1,⟨by omega,h2,h3 i hi,by omega,Qa8 _⟩,by omega,by unfold szBuilder;omega,h1d,h1f⟩
def defSlot (p:SPage):SSlot:=p.bd.getD ((deferredSlots p).getD p.bl.toNat default).toNat default
def entNow (p:SPage):SAddr:=p.bf.getD p.bp.toNat default
def tailDefer (p:SPage):SPage×Bool :=
 if(defSlot p).done=false\/stylesReady p.bd=false then(p,false)
 else if(defSlot p).code=1 then({ runCode p (defSlot p).body false with bl:=p.bl+1 },true)
 else({ p with bl:=p.bl+1 },true)
def tailEnter (p:SPage):SPage×Bool :=
 if graphReady p (entNow p)=false\/stylesReady p.bd=false then(p,false)
 else({ enter p (entNow p) with bp:=p.bp+1 },true)
def stepTail (p:SPage):SPage×Bool :=
 if isParsed p=false\/p.loaded=true\/p.bl<0\/p.bp<0 then(p,false)
 else if p.bl<(deferredSlots p).length then tailDefer p
 else if p.bp<p.bf.length then tailEnter p
 else if 0<(openSlots p).length\/0<(openMods p).length then(p,false)
 else({ say p ⟨#[108,111,97,100]⟩ with loaded:=true },true)
theorem Hf (p:SPage) (h:0<=p.bl) (h2:p.bl<(deferredSlots p).length):0<=(deferredSlots p).getD p.bl.toNat default/\(deferredSlots p).getD p.bl.toNat default<p.bd.length:=by
 have hm:=Br (l:=deferredSlots p) (i:=p.bl.toNat) (by omega);have:=Hd (fun s:SSlot=>decide (s.mode=4)) p.bd 0 _ hm;omega
theorem KA (p:SPage):p.bd.getD ((deferredSlots p).getD p.bl.toNat default).toNat default=defSlot p:=rfl
theorem L6 (p:SPage):p.bf.getD p.bp.toNat default=entNow p:=rfl
def Bm:Fct:=⟨[.v (.el .page)],[.el .page,.el .bool],fun(x_:SPage×Unit)=>okTail x_.1,fun(x_:SPage×Unit)=>((stepTail x_.1).1,(stepTail x_.1).2,())⟩
def AiV:=Aj4.a Bm<|Fct.o (KP [1,2,3,4,5,6,7] [26,34,51,59,78,93,112]) Aj4.2 func247 (by
 rintro⟨(p:SPage),_⟩ hp;refine ho (let q3_:=(⟨#[108,111,97,100]⟩:ByteArray);.cl fCopyPage (p,()) fun z2=>let q0_:Out:=.lf Bm (z2.1,false,());.cl CE (p,()) fun z3=>.br (!z3.1) q0_ (.br (p.loaded) q0_ (.br (decide (p.bl<0)) q0_ (.br (decide (p.bp<0)) q0_ (.cl A7 (p,()) fun(z4:List Int×PUnit)=>let q2_:=p.bd.getD (z4.1.getD p.bl.toNat default).toNat default;let q1_:=0<=z4.1.getD p.bl.toNat default/\z4.1.getD p.bl.toNat default<(p.bd.length:Int);.br (decide (p.bl<(z4.1.length:Int))) (.ob (inB p.bl z4.1.length)<|.ob (p.bl.toNat<z4.1.length)<|.ob q1_<|.br (!q2_.done) q0_ (.cl Az (p,()) fun z5=>.br (!z5.1) q0_ (.ob q1_<|.br (q2_.code==1) (.ob q1_<|.cl Bo (p,q2_.body,false,()) fun z6=>.lf Bm ({z6.1 with bl:=w1 p.bl},true,())) (.lf Bm ({z2.1 with bl:=w1 p.bl},true,()))))) (.br (decide (p.bp<(p.bf.length:Int))) (.ob (inB p.bp p.bf.length)<|.cl Ba (p,p.bf.getD p.bp.toNat default,()) fun z7=>.br (!z7.1) q0_ (.cl Az (p,()) fun z8=>.br (!z8.1) q0_ (.cl Kc (p,p.bf.getD p.bp.toNat default,()) fun z9=>.lf Bm ({z9.1 with bp:=w1 p.bp},true,())))) (.cl Bf (p,()) fun(z10:List Int×PUnit)=>.br (decide ((z10.1.length:Int)>0)) q0_ (.cl BL (p,()) fun(z11:List Int×PUnit)=>.br (decide ((z11.1.length:Int)>0)) q0_ (.ob (RA.pre (z2.1,q3_,()))<|.lt _ (RA.fn (z2.1,q3_,())) fun z12=>.lf Bm ({z12.1.1 with loaded:=true},true,())))))))))) ?_;refine Ae ?_ fun o1=>(Ae trivial fun _=>(Ab (fun h2=>lfY ?_) (fun h2=>Ab (fun h3=>lfY ?_) (fun h3=>Ab (fun h4=>lfY ?_) (fun h4=>Ab (fun h5=>lfY ?_) (fun h5=>Ae ?_ fun o6=>(Ab (fun h7=>Aa ?_ fun o8=>Aa ?_ fun o9=>Aa ?_ fun o10=>Ab (fun h11=>lfY ?_) (fun h11=>Ae ?_ fun o12=>(Ab (fun h13=>lfY ?_) (fun h13=>Aa ?_ fun o14=>Ab (fun h15=>Aa ?_ fun o16=>Ae ?_ fun o17=>(lfY ?_)) (fun h15=>lfY ?_))))) (fun h7=>Ab (fun h18=>Aa ?_ fun o19=>Ae ?_ fun o20=>(Ab (fun h21=>lfY ?_) (fun h21=>Ae ?_ fun o22=>(Ab (fun h23=>lfY ?_) (fun h23=>Ae ?_ fun o24=>(lfY ?_)))))) (fun h18=>Ae ?_ fun o25=>(Ab (fun h26=>lfY ?_) (fun h26=>Ae ?_ fun o27=>(Ab (fun h28=>lfY ?_) (fun h28=>Aa trivial fun _=>Dh (lfY ?_))))))))))))))
 all_goals have hq:okTail p:=hp
 all_goals obtain⟨⟨⟨hp1,hp2,hp3,hp4,hp9⟩,hp8,hp5⟩,hp6,hp10,hp7⟩:=(show okTail p from hp)
 all_goals
  have hbb:szBuilder p.ba<=2000000000:=by(unfold szBuilder;omega)
  have hpp:=DJ p;have hsl:=Ad AI p.bd;have hml:=Ad Ar p.bg;have hel:=Ad szAddr p.bf;have hdl:(deferredSlots p).length<=p.bd.length:=Dn _ _ _;try simp only[AA] at *
  try simp only[fCopyPage,A7,Kc,Ba,CE,BL,Bf,Bo,RA,Bm,Az,std,Nat.reduceAdd,fCopyPage,CE,A7,Az,Bo,Ba,Kc,Bf,BL,RA,KA,L6] at *
 all_goals first|trivial|omega|skip
 all_goals
  have hds:0<=p.bl->p.bl<(deferredSlots p).length->(defSlot p).body.size<=4200000000:=fun a b=>hp5 _ (by have:=Hf p a b;omega)
  have hes:0<=p.bp->p.bp<p.bf.length->okEnt p (entNow p):=fun a b=>MF hq (by omega)
 all_goals first|exact Hf p (by assumption) (by assumption)|exact⟨hp1,by omega,by omega,hds (by assumption) (by assumption),hp5⟩|exact hes (by assumption) (by assumption)|exact(hes (by assumption) (by assumption)).2.1|skip
 all_goals unfold stepTail
 all_goals repeat first|rw[Qa2 (by first|assumption|omega|exact .inl (by assumption)|exact .inr (by assumption)|exact .inr (.inl (by assumption))|exact .inr (.inr (.inl (by omega)))|exact .inr (.inr (.inr (by omega)))|exact .inl (by omega)|exact .inr (by omega))]|rw[Qa3 (by first|omega|(rintro(q|q|q|q)<;>first|omega|exact tf (by assumption) q|exact tf q (by assumption))|(rintro(q|q)<;>first|omega|exact tf (by assumption) q))]|unfold tailDefer|unfold tailEnter
 all_goals first|exact⟨rfl,rfl⟩|(rw[Ah (by omega)];exact⟨rfl,rfl⟩))
def undS:List SSlot->Nat
 | []=>0
 | s::l=>(if s.done=true then 0 else 1)+undS l
def undM:List SModule->Nat
 | []=>0
 | m::l=>(if m.done=true then 0 else 1)+undM l
def nrL (r:List SAddr):List SModule->Nat
 | []=>0
 | m::l=>(if inL r m.to=true then 0 else szAddr m.to+1)+nrL r l
theorem JQ:∀ l k:List SSlot,undS (l++k)=undS l+undS k
 | [],k=>(Qd4 _).symm
 | s::l,k=>by rw[Qf4,undS,undS,JQ l k];omega
theorem JL:∀ l k:List SModule,undM (l++k)=undM l+undM k
 | [],k=>(Qd4 _).symm
 | s::l,k=>by rw[Qf4,undM,undM,JL l k];omega
theorem Ns (r:List SAddr):∀ l k:List SModule,nrL r (l++k)=nrL r l+nrL r k
 | [],k=>(Qd4 _).symm
 | s::l,k=>by rw[Qf4,nrL,nrL,Ns r l k];omega
theorem SO (r:List SAddr) (b:SAddr):∀ l:List SModule,nrL (r++[b]) l<=nrL r l
 | []=>Qa8 _
 | m::l=>by
  have:=SO r b l;rw[nrL,nrL,HL];cases inL r m.to with
  | true=>rw[Bool.true_or,Qa2 rfl];omega
  | false=>
   rw[Bool.false_or,Qa3 (show ¬ false=true by decide)];split<;>omega
theorem Tq (r:List SAddr) (b:SAddr) (hb:inL r b=false):∀ (l:List SModule) (i:Nat),i<l.length->(l.getD i default).to=b->nrL (r++[b]) l+szAddr b+1<=nrL r l
 | [],i,h,_=>absurd h (Nat.not_lt_zero _)
 | m::l,0,_,he=>by
  have he:m.to=b:=he;have:=SO r b l;rw[nrL,nrL,he,HL,hb,Qy,Qf2 rfl,Bool.false_or,Qa2 rfl,Qa3 (by decide)];omega
 | m::l,i+1,h,he=>by
  have ih:=Tq r b hb l i (by simpa using h) he;rw[nrL,nrL,HL];cases inL r m.to with
  | true=>rw[Bool.true_or,Qa2 rfl];omega
  | false=>
   rw[Bool.false_or,Qa3 (show ¬ false=true by decide)];split<;>omega
def nodeP (b:SBuilder):Nat:=szL szNode b.bh+4000010*(40-b.bh.length)
def openP (b:SBuilder):Nat:=b.bj.length+(40-b.bh.length)
def slotP (l:List SSlot):Nat:=szL AI l+400*undS l+500000800*(20-l.length)
def entP (l:List SAddr):Nat:=szL szAddr l+100*(20-l.length)
def modP (l:List SModule) (n:Nat):Nat:=szL Ar l+500*undM l+600*(20-n)
def logP (l:List ByteArray):Nat:=szL Ac l+200*(40-l.length)
def ranP (l:List SModule) (r:List SAddr) (n:Nat):Nat:=szL szAddr r+nrL r l+100*(20-n)
def okQ (q:List SToken) (Q:Nat):Prop:=(∀ t,t∈q->Al t<=4000000)/\szL Al q<=Q
def okB (b:SBuilder):Prop:=nodeP b<=200000000/\openP b<=3000000
def okS (l:List SSlot):Prop:=slotP l<=13000000000/\∀ s,s∈l->s.body.size<=2000000
def okE (l:List SModule) (e r:List SAddr) (M R:Nat):Prop:=entP e<=3000000/\modP l e.length<=M/\ranP l r e.length<=R/\∀ m,m∈l->m.body.size<=2000000
def okLg (g:List ByteArray):Prop:=logP g<=3000000
def okCm (p:SPage):Prop:=szPolicy p.bi+szAddr p.addr<=4000000/\p.tok.rest.size<=4000000
def okAll (p:SPage) (Q M R:Nat):Prop:=okQ p.bm Q/\okB p.ba/\okS p.bd/\okE p.bg p.bf p.ran M R/\okLg p.log/\okCm p
theorem Nt {q:List SToken} {Q Q':Nat} (h:okQ q Q) (hq:Q<=Q'):okQ q Q':=⟨h.1,Qe7 h.2 hq⟩
theorem I7 {p:SPage} {Q Q' M R:Nat} (h:okAll p Q M R) (hq:Q<=Q'):okAll p Q' M R:=⟨Nt h.1 hq,h.2⟩
theorem AeH {b:SBuilder} {t:SToken} (h:okB b) (ht:Al t<=4000000):okB (addToken b t).1:=by
 obtain⟨h1,h2⟩:=h;unfold addToken;split
 ·have:=IY b t.name _ (Qa8 _);refine⟨h1,?_⟩;unfold openP at *
  show(closeN b t.name b.bj.length).length+(40-b.bh.length)<=_;omega
 ·split
  ·rename_i hc;have hc:=hc.1;have h0:szL szNode []=0:=rfl;have h3:szL A0 []=0:=rfl;have h4:ByteArray.size ⟨#[]⟩=0:=rfl;split
   ·refine⟨?_,?_⟩
    ·unfold nodeP at *
     dsimp only;rw[CV,Ax,h0,Qa4,Qd7];simp only[szNode,Al,h4] at *;omega
    ·unfold openP at *
     dsimp only;rw[Qa4,Qd7];split
     ·omega
     ·rw[Qa4,Qd7];omega
   ·refine⟨?_,?_⟩
    ·unfold nodeP at *
     dsimp only;rw[CV,Ax,h0,Qa4,Qd7];simp only[szNode,Al,h4,h3] at *;omega
    ·unfold openP at *
     dsimp only;rw[Qa4,Qd7];omega
  ·exact⟨h1,h2⟩
theorem R9 {b:SBuilder} (l:List SSheet) (x:SLine) (h:okB b):okB (runLine b l x).1:=by
 unfold runLine;split
 ·exact h
 ·split
  ·dsimp only;split
   ·rename_i hc;obtain⟨c1,c2,c3⟩:=hc;obtain⟨h1,h2⟩:=h;have:=CA c3;have h0:szL szNode []=0:=rfl;have h3:szL A0 []=0:=rfl;have h4:ByteArray.size ⟨#[]⟩=0:=rfl;refine⟨?_,?_⟩
    ·unfold nodeP at *
     dsimp only;rw[CV,Ax,h0,Qa4,Qd7];simp only[szNode,h4,h3] at *;omega
    ·unfold openP at *
     dsimp only;rw[Qa4,Qd7];omega
   ·exact h
  ·split
   ·exact h
   ·split
    ·exact h
    ·split<;>exact h
theorem KY (l:List SSheet):∀ (r:List SLine) (b:SBuilder) (w:ByteArray) (g:List ByteArray),okB b->okB (runLines l r b w g).1
 | [],b,w,g,h=>h
 | x::r,b,w,g,h=>by rw[runLines];exact KY l r _ _ _ (R9 l x h)
theorem AbO {b:SBuilder} {l:List SSheet} {x:SLine} (hl:okSheets l) (hb:b.bh.length<=9000000000000000000) (hx:x.text.size<=60):(runLine b l x).2.2.size<=199:=by
 have h0:ByteArray.size ⟨#[]⟩=0:=rfl;have hc:=JA x.text b.bh;have hk:=Ma hl x.text;have f1:=Kz (n:=countName x.text b.bh) (by omega) (by omega);have f2:=Kz (n:=colorOf l x.text) hk.1 hk.2;have s1:ByteArray.size ⟨#[99,111,117,110,116,32]⟩=6:=rfl;have s2:ByteArray.size ⟨#[32]⟩=1:=rfl;have s3:ByteArray.size ⟨#[108,111,111,107,32]⟩=5:=rfl;have s4:ByteArray.size ⟨#[115,97,121,32]⟩=4:=rfl;unfold runLine;split
 ·dsimp only;omega
 ·split
  ·dsimp only;omega
  ·split
   ·dsimp only;rw[Qb5,Qb5,Qb5];omega
   ·split
    ·dsimp only;rw[Qb5,Qb5,Qb5];omega
    ·split
     ·dsimp only;rw[Qb5];omega
     ·dsimp only;omega
theorem J3 (l:List SSheet) (hl:okSheets l):∀ (r:List SLine) (b:SBuilder) (w:ByteArray) (g:List ByteArray),okB b->(∀ x,x∈r->x.text.size<=60)->(∀ s,s∈g->s.size<=199)->∀ s,s∈(runLines l r b w g).2.2->s.size<=199
 | [],b,w,g,_,_,hg=>hg
 | x::r,b,w,g,hb,hr,hg=>by
  rw[runLines];have hn:b.bh.length<=9000000000000000000:=by have:=Ad szNode b.bh;have h1:=hb.1;unfold nodeP at h1;omega
  have hx:=AbO hl hn (hr x Qf3);refine J3 l hl r _ _ _ (R9 l x hb) (fun y hy=>hr y (Qd9 _ hy)) fun s hs=>?_
  split at hs
  ·exact hg s hs
  ·rcases Qc0.1 hs with hs|hs
   ·exact hg s hs
   ·rw[List.mem_singleton] at hs;rw[hs];exact hx
theorem Lt:∀ (l g:List ByteArray),(∀ s,s∈l->s.size<=199)->okLg g->okLg (addLog g l)
 | [],g,_,h=>by rw[FO];exact h
 | x::l,g,hl,h=>by
  rw[addLog];split
  ·refine Lt l _ (fun s hs=>hl s (Qd9 _ hs)) ?_;have:=hl x Qf3;have h0:szL Ac []=0:=rfl;unfold okLg logP at *
   rw[CV,Ax,h0,Qa4,Qd7];simp only[Ac] at *;omega
  ·exact h
theorem Yj {p:SPage} {Q M R:Nat} (h:okAll p Q M R) {s:ByteArray} (hs:s.size<=199):okAll (say p s) Q M R:=by
 obtain⟨h1,h2,h3,h4,h5,h6⟩:=h;have e:=Lt [s] p.log (fun x hx=>by rw[List.mem_singleton] at hx;rw[hx];exact hs) h5;unfold say;split
 ·rename_i hc;rw[addLog,Qa2 hc,FO] at e;exact⟨h1,h2,h3,h4,e,h6⟩
 ·exact⟨h1,h2,h3,h4,h5,h6⟩
theorem Mb (s:ByteArray):∀ x,x∈(parseScript s).1->x.text.size<=60:=by
 intro x hx;unfold parseScript at hx;split at hx
 ·cases hx
 ·split at hx
  ·rename_i hc;obtain⟨w,hw,rfl⟩:=Qg7.1 hx;have:=hc.2;rw[allOk8,Qc5] at this;exact Lr w _ _ (this w hw)
  ·cases hx
theorem YR {p:SPage} {Q M R:Nat} (h:okAll p Q M R) (c:ByteArray) (w:Bool):okAll (runCode p c w) (Q+370) M R:=by
 obtain⟨h1,h2,h3,h4,h5,h6⟩:=h;unfold runCode;split
 ·refine⟨?_,KY _ _ _ _ _ h2,h3,h4,Lt _ _ (J3 _ (Ec _).2 _ _ _ _ h2 (Mb c) fun s hs=>by cases hs) h5,h6⟩;dsimp only;split
  ·have ht:=FX (rsOf p c).2.1;have hr:=(Xk p c).2.1;refine⟨fun t ht2=>?_,?_⟩
   ·rcases Qc0.1 ht2 with q|q
    ·have hg:=IS Al q;omega
    ·exact h1.1 t q
   ·rw[CV];have:=h1.2;omega
  ·exact Nt h1 (by omega)
 ·exact⟨Nt h1 (by omega),h2,h3,h4,Lt _ _ (fun s hs=>by rw[List.mem_singleton] at hs;rw[hs];decide) h5,h6⟩
theorem Ig (s b:ByteArray):szAddr (parseAddr s b).1<=16:=by
 unfold parseAddr;split
 ·rename_i h;rw[Qa1] at h;have h1:=CA h.1;have h2:=CA h.2;simp only[szAddr];omega
 ·decide
theorem TF (p:SPage) (m:Int) (to d:ByteArray) (n:Int):AI (newSlot p m to d n)<=16+d.size/\(newSlot p m to d n).body.size=0:=by
 have h:=Ig to p.addr.host;have h4:ByteArray.size ⟨#[]⟩=0:=rfl;unfold newSlot;split
 ·exact⟨by simp only[rawSlot,AI,h4];omega,h4⟩
 ·exact⟨by simp only[AI,h4];omega,h4⟩
theorem NW {p:SPage} {Q M R:Nat} (h:okAll p Q M R) (m:Int) (to d:ByteArray) (n:Int) (hd:d.size<=200000000):okAll (addSlot p m to d n).1 Q M R:=by
 obtain⟨h1,h2,h3,h4,h5,h6⟩:=h;unfold addSlot;split
 ·rename_i hc;have hn:=TF p m to d n;refine⟨h1,h2,⟨?_,fun s hs=>?_⟩,h4,h5,h6⟩
  ·have h0:szL AI []=0:=rfl;have hu:undS [newSlot p m to d n]<=1:=by rw[undS,undS];split<;>omega
   have h7:=h3.1;unfold slotP at *
   dsimp only;rw[CV,Ax,h0,JQ,Qa4,Qd7];omega
  ·rcases Qc0.1 hs with hs|hs
   ·exact h3.2 s hs
   ·rw[List.mem_singleton] at hs;rw[hs,hn.2];decide
 ·exact⟨h1,h2,h3,h4,h5,h6⟩
theorem Ya (p:SPage) (a:SAddr):(newMod p a).to=a/\(newMod p a).body.size=0:=by
 unfold newMod;split<;>exact⟨rfl,rfl⟩
theorem XM {α:Type} (f:α->Nat) (l:List α) (i:Nat):szL f (l.take i)+szL f (l.drop i)=szL f l:=by
 rw[<-CV,Qd5]
theorem VH (l:List SModule) (i:Nat):undM (l.take i)+undM (l.drop i)=undM l:=by rw[<-JL,Qd5]
theorem Ab7 (r:List SAddr) (l:List SModule) (i:Nat):nrL r (l.take i)+nrL r (l.drop i)=nrL r l:=by rw[<-Ns,Qd5]
theorem AcB (p:SPage) (a:SAddr):szL Ar (askModule p a).bg<=szL Ar p.bg+szAddr a+1/\undM (askModule p a).bg<=undM p.bg+1/\nrL p.ran (askModule p a).bg<=nrL p.ran p.bg+szAddr a+1/\(∀ m,m∈(askModule p a).bg->m∈p.bg\/m.body.size=0)/\askModule p a={ p with bg:=(askModule p a).bg }:=by
 unfold askModule;split
 ·exact⟨by omega,by omega,by omega,fun m h=>.inl h,rfl⟩
 ·obtain⟨n1,n2⟩:=Ya p a;have e1:=XM Ar p.bg (askFrom a p.bg);have e2:=VH p.bg (askFrom a p.bg);have e3:=Ab7 p.ran p.bg (askFrom a p.bg);refine⟨?_,?_,?_,fun m h=>?_,rfl⟩
  ·dsimp only;rw[CV,Ax];simp only[Ar,n1,n2] at *;omega
  ·dsimp only;rw[JL,undM];split<;>omega
  ·dsimp only;rw[Ns,nrL,n1];split<;>omega
  ·rcases Qc0.1 h with h|h
   ·exact .inl (List.mem_of_mem_take h)
   ·rcases Qd3.1 h with h|h
    ·rw[h];exact .inr n2
    ·exact .inl (List.mem_of_mem_drop h)
theorem Aa9 {p:SPage} {Q M R:Nat} (h:okAll p Q M R) (to:ByteArray):okAll (addEntry p to) Q M R:=by
 unfold addEntry;split
 ·rename_i hc;obtain⟨h1,h2,h3,⟨h4,h7,h8,h9⟩,h5,h6⟩:=h;obtain⟨a1,a2,a3,a4,a5⟩:=AcB p (parseAddr to p.addr.host).1;have ha:=Ig to p.addr.host;have h0:szL szAddr []=0:=rfl;rw[a5];refine⟨h1,h2,h3,⟨?_,?_,?_,fun m hm=>?_⟩,h5,h6⟩
  ·unfold entP at *
   rw[CV,Ax,h0,Qa4,Qd7];omega
  ·unfold modP at *
   dsimp only;rw[Qa4,Qd7];omega
  ·unfold ranP at *
   dsimp only;rw[Qa4,Qd7];omega
  ·rcases a4 m hm with hm|hm
   ·exact h9 m hm
   ·omega
 ·exact h
theorem T3 {p:SPage} {Q M R:Nat} (h:okAll p Q M R) (t:SToken) (n:Int) (ht:Al t<=4000000):okAll (element p t n) Q M R:=by
 have hd:=BA t.bn ⟨#[100,105,103,101,115,116]⟩;have hs:szL A0 t.bn<=Al t:=by simp only[Al];omega
 unfold element;split
 ·exact NW h _ _ _ _ (by omega)
 ·split
  ·exact NW h _ _ _ _ (by omega)
  ·exact h
theorem W6 {p:SPage} {Q M R:Nat} (h:okAll p Q M R) (n:Int):okAll (script p n) Q M R:=by
 have hd:=BA (p.ba.bh.getD n.toNat default).bn ⟨#[100,105,103,101,115,116]⟩;have hs:szL A0 (p.ba.bh.getD n.toNat default).bn<=200000000:=by
  by_cases hn:n.toNat<p.ba.bh.length
  ·have:=I3 p.ba.bh n.toNat hn;have h2:=h.2.1.1;unfold nodeP at h2;omega
  ·rw[Qb1,List.getElem?_eq_none (by omega)];exact Nat.zero_le _
 unfold script;split
 ·split
  ·exact h
  ·exact h
 ·split
  ·exact NW h _ _ _ _ (by omega)
  ·split
   ·exact Aa9 h _
   ·exact NW h _ _ _ _ (by omega)
theorem Abj {p:SPage} {Q M R:Nat} (h:okAll p Q M R) (hq:0<p.bm.length):okAll (taken p (p.bm.getD 0 default)) Q M R:=by
 obtain⟨h1,h2,h3,h4,h5,h6⟩:=h;have ht:=h1.1 _ (Br hq);have hz:=(Oq p hq).2;exact⟨⟨fun t hm=>h1.1 t (List.mem_of_mem_drop hm),by have:=h1.2;show szL Al (p.bm.drop 1)<=Q;omega⟩,AeH h2 ht,h3,h4,h5,h6⟩
theorem Ad5 {p:SPage} {Q M R:Nat} (h:okAll p Q M R):okAll (takeToken p).1 Q M R:=by
 unfold takeToken;split
 ·exact h
 ·rename_i hc;have hq:0<p.bm.length:=by omega
  have ht:=h.1.1 _ (Br hq);have hk:=Abj h hq;unfold takeTok;split
  ·exact T3 hk _ _ ht
  ·split
   ·exact W6 hk _
   ·exact hk
theorem YL {p:SPage} {Q M R:Nat} (h:okAll p Q M R):okAll (stepParser p).1 (Q+370) M R:=by
 have hm:=I7 h (Qg5 Q 370);unfold stepParser;split
 ·unfold stepInline;split
  ·exact YR h _ _
  ·exact hm
 ·split
  ·unfold stepBlock;split
   ·exact hm
   ·split
    ·exact hm
    ·split
     ·exact YR h _ _
     ·exact hm
  ·exact Ad5 hm
theorem VT (b:ByteArray):∀ (l:List ByteArray) (acc:List SAddr),∀ x,x∈(pmGo b l acc).2.1->x.text.size<=60
 | [],acc,x,h=>by cases h
 | w::l,acc,x,h=>by
  rw[pmGo] at h;split at h
  ·split at h
   ·exact VT b l _ x h
   ·cases h
  ·split at h
   ·exact Mb _ x h
   ·cases h
theorem Ws {p q:SPage} {Q M R:Nat} (h:okAll q Q M R) (he:q.bg=p.bg) (b:SAddr) (hb:0<=findMod p.bg b):okAll (enter1 p q b) Q M R/\(enter1 p q b).bg=p.bg:=by
 unfold enter1;split
 ·exact⟨h,he⟩
 ·rename_i hn;have hn:inL q.ran b=false:=by simpa using hn
  obtain⟨h1,h2,h3,⟨h4,h7,h8,h9⟩,h5,h6⟩:=h;have hf:=BH p.bg b;have hd:=Tq q.ran b hn p.bg _ (show(findMod p.bg b).toNat<p.bg.length by omega) (HK hb);have h0:szL szAddr []=0:=rfl;refine⟨⟨h1,KY _ _ _ _ _ h2,h3,⟨h4,h7,?_,h9⟩,Lt _ _ (J3 _ (Ec _).2 _ _ _ _ h2 (VT _ _ _) fun s hs=>by cases hs) h5,h6⟩,he⟩;unfold ranP at *
  dsimp only;rw[he] at h8 ⊢;rw[CV,Ax,h0];omega
theorem J1 {p:SPage} {Q M R:Nat}:∀ (l:List SAddr) (q:SPage),okAll q Q M R->q.bg=p.bg->(∀ b,b∈l->0<=findMod p.bg b)->okAll (enterAll p q l) Q M R
 | [],q,h,_,_=>h
 | b::l,q,h,he,hb=>by obtain⟨i1,i2⟩:=Ws h he b (hb b Qf3);exact J1 l _ i1 i2 fun x hx=>hb x (Qd9 _ hx)
theorem QF (a:SAddr):(formatAddr a).size<=17:=by
 unfold formatAddr;split
 ·rename_i h;rw[Qa1] at h;have h1:=CA h.1;have h2:=CA h.2;rw[Qb5,Qb5,show ByteArray.size ⟨#[47]⟩=1 from rfl];omega
 ·exact Nat.zero_le _
theorem ZF {p:SPage} {Q M R:Nat} (h:okAll p Q M R) (a:SAddr):okAll (enter p a) Q M R:=by
 unfold enter;split
 ·refine Yj h ?_;have:=QF a;rw[Qb5,show ByteArray.size ⟨#[102,97,105,108,32]⟩=5 from rfl];omega
 ·rename_i hf;exact J1 _ _ h rfl fun b hb=>IC (by simpa using hf) hb
theorem Aer {p:SPage} {Q M R:Nat} (h:okAll p Q M R):okAll (stepTail p).1 (Q+370) M R:=by
 have hm:=I7 h (Qg5 Q 370);unfold stepTail;split
 ·exact hm
 ·split
  ·unfold tailDefer;split
   ·exact hm
   ·split
    ·exact YR h _ _
    ·exact hm
  ·split
   ·unfold tailEnter;split
    ·exact hm
    ·exact ZF hm _
   ·split
    ·exact hm
    ·exact Yj hm (by decide)
theorem Mr {p:SPage} {Q M R:Nat} (h:okAll p Q M R) (hQ:Q<=900000000000) (hM:M<=50000000000) (hR:R<=20000000000):okTail p:=by
 obtain⟨⟨a1,a2⟩,⟨b1,b2⟩,⟨c1,c2⟩,⟨d1,d2,d3,d4⟩,e1,f1⟩:=h;have hg:logP p.log<=3000000:=e1;have hc:szPolicy p.bi+szAddr p.addr+p.tok.rest.size<=9000000:=by(unfold okCm at f1;omega)
 unfold nodeP at b1;unfold openP at b2;unfold slotP at c1;unfold entP at d1;unfold modP at d2;unfold ranP at d3;unfold logP at hg;have hn:=Ad szNode p.ba.bh;have hb:szBuilder p.ba=szL szNode p.ba.bh+p.ba.bj.length:=rfl;have hh:p.addr.host.size<=szAddr p.addr:=by simp only[szAddr];omega
 refine⟨⟨⟨?_,by omega,fun i hi=>?_,by omega,by omega⟩,by omega,fun i hi=>?_⟩,fun i hi=>?_,by omega,fun i hi=>?_⟩
 ·simp only[szPage,BN];omega
 ·have:=a1 _ (Br hi);omega
 ·have:=c2 _ (Br hi);omega
 ·have:=d4 _ (Br hi);omega
 ·have:=DO szAddr hi;have h3:(p.bf.getD i default).host.size<=szAddr (p.bf.getD i default):=by simp only[szAddr];omega
  omega
def step1 (p:SPage):SPage×Bool:=if(stepParser p).2=true then stepParser p else stepTail p
def adv:Nat->SPage->SPage
 | 0,p=>p
 | n+1,p=>if(step1 p).2=true then adv n (step1 p).1 else p
def advance (p:SPage):SPage:=adv 2000 p
theorem Ni {p:SPage} (h:(stepParser p).2=true):step1 p=stepParser p:=by unfold step1;rw[Qa2 h]
theorem IF {p:SPage} (h:(stepParser p).2=false):step1 p=stepTail p:=by unfold step1;rw[Qa3 (by rw[h];decide)]
theorem S8 {p:SPage} {Q M R:Nat} (h:okAll p Q M R):okAll (step1 p).1 (Q+370) M R:=by
 unfold step1;split
 ·exact YL h
 ·exact Aer h
theorem AcG {M R:Nat}:∀ (n:Nat) (p:SPage) (Q:Nat),okAll p Q M R->okAll (adv n p) (Q+370*n) M R
 | 0,p,Q,h=>h
 | n+1,p,Q,h=>by
  rw[adv];split
  ·have:=AcG n _ _ (S8 h);rw[show Q+370+370*n=Q+370*(n+1) by omega] at this;exact this
  ·exact I7 h (by omega)
theorem Uu {p:SPage} {Q M R:Nat} (h:okAll p Q M R):okAll (advance p) (Q+740000) M R:=AcG 2000 p Q h
def okAdv (p:SPage):Prop:=∃ Q M R,okAll p Q M R/\Q<=899000000000/\M<=50000000000/\R<=20000000000
def advInv (p q:SPage) (i:Int):Prop:=0<=i/\i<=2000/\adv (2000-i.toNat) q=advance p/\∃ Q M R,okAll q (Q+370*i.toNat) M R/\Q<=899000000000/\M<=50000000000/\R<=20000000000
theorem Hg {p:SPage} (h:okAdv p):advInv p p 0:=by
 obtain⟨Q,M,R,h1,h2⟩:=h;exact⟨by omega,by omega,rfl,Q,M,R,h1,h2⟩
theorem Gi {p q:SPage} {i:Int} (h:advInv p q i):okTail q:=by
 obtain⟨h1,h2,_,Q,M,R,h3,h4,h5,h6⟩:=h;exact Mr h3 (by omega) h5 h6
theorem Iw {p q:SPage} {i:Int} (h:advInv p q i) (hi:i<2000) (hs:(step1 q).2=true):advInv p (step1 q).1 (i+1):=by
 obtain⟨h1,h2,h0,Q,M,R,h3,h4⟩:=h;rw[show 2000-i.toNat=(2000-(i+1).toNat)+1 by omega,adv,Qa2 hs] at h0;refine⟨by omega,by omega,h0,Q,M,R,?_,h4⟩;have:=S8 h3;rw[show Q+370*i.toNat+370=Q+370*(i+1).toNat by omega] at this;exact this
theorem F7 {p q:SPage} {i:Int} (h:advInv p q i) (hs:i<2000->(step1 q).2=false):q=advance p:=by
 obtain⟨h1,h2,h0,_⟩:=h;rcases Nat.eq_zero_or_pos (2000-i.toNat) with hz|hz
 ·rw[hz] at h0;exact h0
 ·obtain⟨n,hn⟩:∃ n,2000-i.toNat=n+1:=⟨2000-i.toNat-1,by omega⟩;rw[hn,adv,Qa3 (by rw[hs (by omega)];decide)] at h0;exact h0
def DG:Fct:=⟨[.v (.el .page)],[.el .page],fun(x_:SPage×Unit)=>okAdv x_.1,fun(x_:SPage×Unit)=>(advance x_.1,())⟩
abbrev CU (p:SPage):LInv:=⟨[⟨.b,3,true,.el .page⟩,⟨.s,4,true,.el .int⟩,⟨.b,2,true,.el .page⟩],fun(z_ x_:SPage×Int×SPage×Unit)=>(advInv p x_.1 x_.2.1)/\x_.2.2.1=z_.2.2.1,fun(x_:SPage×Int×SPage×Unit)=>(2000-x_.2.1).toNat⟩
def AlD:=AiV.a DG<|Fct.p (KP [1,2,3,4,5,6] [10,19,26]) (fun⟨p,_⟩=>lv [(3,CU p)]) AiV.2 func163 (by
 rintro⟨(p:SPage),_⟩ hp;refine ho (.cl fCopyPage (p,()) fun z2=>lpx (CU p) (z2.1,((0:Int),(default,()))) fun(y2:SPage×Int×SPage×PUnit) bk2=>.br (decide (y2.2.1<2000)) (.cl AV (y2.1,()) fun z3=>.br (!z3.2.1) (.cl Bm (y2.1,()) fun z4=>.br (!z4.2.1) (.lf DG (y2.1,())) (.ob (bk2 (z4.1,(w1 y2.2.1,(y2.2.2.1,()))))<|.ok)) (.br (!z3.2.1) (.lf DG (y2.1,())) (.ob (bk2 (z3.1,(w1 y2.2.1,(y2.2.2.1,()))))<|.ok))) (.lf DG (y2.1,()))) ?_;refine Ae ?_ fun o1=>(Aw ?_ fun(y2:SPage×Int×SPage×PUnit) i2=>Ab (fun h3=>Ae ?_ fun o4=>(Ab (fun h5=>Ae ?_ fun o6=>(Ab (fun h7=>lfY ?_) (fun h7=>Aa ?_ fun o8=>trivial))) (fun h5=>Ab (fun h9=>lfY ?_) (fun h9=>Aa ?_ fun o10=>trivial)))) (fun h3=>lfY ?_))
 all_goals
  have hq:okAdv p:=hp;have h0:=(Gi (Hg hq)).1.1.1;try simp only[AA] at *
  try simp only[CU,DG,fCopyPage,AV,Bm,std,Nat.reduceAdd,fCopyPage,AV,Bm] at *
 all_goals first|trivial|omega|skip
 all_goals first|exact Hg hq|exact⟨Hg hq,rfl⟩|(obtain⟨i3,e1⟩:=i2;have ht:=Gi i3)
 all_goals first|exact ht|exact ht.1|exact(tf (by assumption) (by assumption)).elim|skip
 all_goals first|exact F7 i3 (fun h=>absurd h (by omega))|exact F7 i3 (fun _=>by rw[IF (by assumption)];assumption)|skip
 all_goals rw[Ah (by have:=i3.1;omega)]
 all_goals first|(have e:=Iw i3 (by assumption) (by rw[IF (by assumption)];assumption);rw[IF (by assumption)] at e;exact⟨⟨e,e1⟩,by omega⟩)|(have e:=Iw i3 (by assumption) (by rw[Ni (by assumption)];assumption);rw[Ni (by assumption)] at e;exact⟨⟨e,e1⟩,by omega⟩))
theorem Acq:∀ l:List SSlot,undS l<=l.length
 | []=>Qa8 _
 | s::l=>by have:=Acq l;rw[undS,Qa6];split<;>omega
theorem Wa:∀ l:List SModule,undM l<=l.length
 | []=>Qa8 _
 | s::l=>by have:=Wa l;rw[undM,Qa6];split<;>omega
theorem Acj (r:List SAddr):∀ l:List SModule,nrL r l<=szL Ar l
 | []=>Qa8 _
 | s::l=>by have:=Acj r l;rw[nrL,Ax];split<;>simp only[Ar]<;>omega
theorem AdD {p:SPage} (h:szPage p<=2000000):okAll p 2000000 1100000000 10000000:=by
 have h1:=Ad AI p.bd;have h2:=Ad Ar p.bg;have h3:=Acq p.bd;have h4:=Wa p.bg;have h5:=Acj p.ran p.bg;have h6:=Ad szNode p.ba.bh;simp only[szPage,BN,szBuilder] at h;refine⟨⟨fun t ht=>?_,by omega⟩,⟨?_,?_⟩,⟨?_,fun s hs=>?_⟩,⟨?_,?_,?_,fun m hm=>?_⟩,?_,?_⟩
 ·have:=IS Al ht;omega
 ·unfold nodeP;omega
 ·unfold openP;omega
 ·unfold slotP;omega
 ·have:=IS AI hs;simp only[AI] at this;omega
 ·unfold entP;omega
 ·unfold modP;omega
 ·unfold ranP;omega
 ·have:=IS Ar hm;simp only[Ar] at this;omega
 ·unfold okLg logP;omega
 ·unfold okCm;omega
theorem Aav {p:SPage} {Q M R:Nat} (h:okAll p Q M R) (hQ:Q<=900000000000) (hM:M<=50000000000) (hR:R<=20000000000):szPage p<=1000000000000:=(Mr h hQ hM hR).1.1.1
theorem Z9 {α:Type} {l:List α}:cut l 1 (l.length-1)=l.drop 1:=by
 unfold cut;rw[Qb3 (by simp)]
def opWords:List ByteArray:=[⟨#[]⟩,⟨#[119,114,105,116,101]⟩,⟨#[97,100,100]⟩,⟨#[99,111,117,110,116]⟩,⟨#[108,111,111,107]⟩,⟨#[115,97,121]⟩]
def opW (n:Int):ByteArray:=if 1<=n/\n<=5 then opWords.getD n.toNat default else⟨#[]⟩
theorem Acr {n:Int} (h:1<=n) (h2:n<=5):opW n=opWords.getD n.toNat default:=by unfold opW;rw[Qa2 ⟨h,h2⟩]
def HC:Fct:=⟨[.v (.el .int)],[.el .str],fun(x_:Int×Unit)=>True,fun(x_:Int×Unit)=>(opW x_.1,())⟩
def AlC:=AlD.a HC<|Fct.o (KP [0,2] [5]) AlD.2 func389 (by
 rintro⟨(n:Int),_⟩ hp;refine ho (.cl fInRange (n,(1:Int),(5:Int),()) fun z2=>.br (!z2.1) (.lf HC ((⟨#[]⟩:ByteArray),())) (.ob (0<=wr (n-(1:Int))/\wr (n-(1:Int))<5)<|.ob ((wr (n-(1:Int))).toNat<5)<|.lf HC ([(⟨#[119,114,105,116,101]⟩:ByteArray),(⟨#[97,100,100]⟩:ByteArray),(⟨#[99,111,117,110,116]⟩:ByteArray),(⟨#[108,111,111,107]⟩:ByteArray),(⟨#[115,97,121]⟩:ByteArray)].getD (wr (n-(1:Int))).toNat default,()))) ?_;refine Ae trivial fun _=>(Ab (fun h1=>lfY ?_) (fun h1=>Aa ?_ fun o2=>Aa ?_ fun o3=>lfY ?_))
 all_goals
  try simp only[AA] at *
  try simp only[fInRange,HC,std,Nat.reduceAdd,fInRange,inRange] at *
  try simp only[Qa1,Qe4,Qa7,Qb0] at *
 all_goals first|trivial|omega|(unfold opW;rw[Qa3 (by omega)])|(rw[Ah (by omega)];omega)|skip
 all_goals rw[Ah (by omega),Acr (by omega) (by omega)]
 all_goals rcases(show n=1\/n=2\/n=3\/n=4\/n=5 by omega) with rfl|rfl|rfl|rfl|rfl<;>rfl)
theorem Q8 (b:UInt8) (s:ByteArray):(EA b s).1.size<=s.size/\(EA b s).2.1.size<=s.size:=by
 unfold EA;cases h:Es b (toL s) with
 | none=>exact⟨Qa8 _,Nat.zero_le _⟩
 | some r=>
  have:=Nm (p:=r.1) (q:=r.2) h;rw[Bq] at this;exact⟨by dsimp only;rw[Fh];exact this.1,by dsimp only;rw[Fh];exact this.2⟩
theorem Ok {b:UInt8}:∀ {l p q:List UInt8},Es b l=some (p,q)->l=p++b::q/\b∉p
 | [],p,q,h=>by cases h
 | x::l,p,q,h=>by
  rw[Es] at h;split at h
  ·rename_i hx;obtain⟨rfl,rfl⟩:=Prod.mk.inj (Option.some.inj h);exact⟨by rw[hx];rfl,by simp⟩
  ·rename_i hx;obtain⟨r,hr,he⟩:=Option.map_eq_some_iff.1 h;obtain⟨rfl,rfl⟩:=Prod.mk.inj he;obtain⟨h1,h2⟩:=Ok (p:=r.1) (q:=r.2) hr;refine⟨by rw[h1];rfl,?_⟩;rw[Qd3];rintro(h|h)
   ·exact hx h.symm
   ·exact h2 h
theorem AeT {a b:ByteArray} (h:toL a=toL b):a=b:=by rw[<-C7 a,h,C7]
theorem VX {x s:ByteArray} (hx:(32:UInt8)∉toL x):(((x++⟨#[32]⟩).size<=s.size/\s.extract 0 (x++⟨#[32]⟩).size=x++⟨#[32]⟩)↔(EA 32 s).2.2=true/\(EA 32 s).1=x)/\((EA 32 s).2.2=true/\(EA 32 s).1=x->(EA 32 s).2.1=s.extract (x++⟨#[32]⟩).size s.size):=by
 have e32:toL (x++⟨#[32]⟩)=toL x++[32]:=by rw[Eg];rfl
 have hsz:(x++⟨#[32]⟩).size=(toL x).length+1:=by rw[Qb5];rfl
 have fwd:((x++⟨#[32]⟩).size<=s.size/\s.extract 0 (x++⟨#[32]⟩).size=x++⟨#[32]⟩)->Es 32 (toL s)=some (toL x,(toL s).drop ((toL x).length+1)):=by rintro⟨h1,h2⟩;have h3:=Qg8 toL h2;rw[AY,Qf0,e32,hsz] at h3;have h4:=(Qd5 ((toL x).length+1) (toL s)).symm;rw[h3,Qb7,List.singleton_append] at h4;have h5:=Oo (p:=toL x) ((toL s).drop ((toL x).length+1)) hx;rw[<-h4] at h5;exact h5
 refine⟨⟨fun h=>?_,fun h=>?_⟩,fun h=>?_⟩
 ·have:=fwd h;unfold EA;rw[this];exact⟨rfl,C7 x⟩
 ·unfold EA at h;cases hc:Es 32 (toL s) with
  | none=>rw[hc] at h;exact absurd h.1 Bool.false_ne_true
  | some r=>
   obtain⟨p,q⟩:=r;rw[hc] at h;have hp:ofL p=x:=h.2;obtain⟨h1,h2⟩:=Ok hc;have hpx:p=toL x:=by rw[<-hp,Jj]
   rw[hpx] at h1;have hl:s.size=(toL x).length+(q.length+1):=by rw[<-Bq,h1,Qa4,Qa6]
   refine⟨by rw[hsz];omega,?_⟩;refine AeT ?_;rw[AY,Qf0,e32,hsz,h1,List.take_append,Qb3 (by omega),show(toL x).length+1-(toL x).length=1 by omega];rfl
 ·unfold EA at h ⊢;cases hc:Es 32 (toL s) with
  | none=>rw[hc] at h;exact absurd h.1 Bool.false_ne_true
  | some r=>
   obtain⟨p,q⟩:=r;rw[hc] at h;have hp:ofL p=x:=h.2;obtain⟨h1,h2⟩:=Ok hc;have hpx:p=toL x:=by rw[<-hp,Jj]
   rw[hpx] at h1;rw[hsz,<-Oi,h1,List.drop_append,Qb6 (by omega),Qg1,show(toL x).length+1-(toL x).length=1 by omega];rfl
def pline (s:ByteArray):SLine×Bool:=if(line8 s).2=true then((line8 s).1,true) else(default,false)
def plOk (k:Int) (t:ByteArray):Bool:=if k=1\/k=5 then decide (t.size<=60) else isName t
theorem OH {k:Int} {t:ByteArray} (h:k=1\/k=5):plOk k t=decide (t.size<=60):=by unfold plOk;rw[Qa2 h]
theorem P0 {k:Int} {t:ByteArray} (h:¬ (k=1\/k=5)):plOk k t=isName t:=by unfold plOk;rw[Qa3 h]
def plineL (c:ByteArray×ByteArray×Bool):List ByteArray->Int->SLine×Bool
 | [],_=>(default,false)
 | x::l,k=>if x=c.1 then(if c.2.2=true/\plOk k c.2.1=true then(⟨k,c.2.1⟩,true) else(default,false)) else plineL c l (k+1)
theorem Pp (s:ByteArray):∀ (l:List ByteArray) (k:Int),(∀ x,x∈l->(32:UInt8)∉toL x)->plineL (EA 32 s) l k=if(line8L s (l.map fun x=>x++⟨#[32]⟩) k).2=true then((line8L s (l.map fun x=>x++⟨#[32]⟩) k).1,true) else(default,false)
 | [],k,_=>rfl
 | x::l,k,h=>by
  have hx:=h x Qf3;obtain⟨h1,h2⟩:=VX (s:=s) hx;have ih:=Pp s l (k+1) fun y hy=>h y (Qd9 _ hy)
  rw[plineL,Qc8,line8L];by_cases hc:(EA 32 s).2.2=true/\(EA 32 s).1=x
  ·rw[Qa2 hc.2.symm,Qa2 (h1.2 hc),<-h2 hc];have hl:(EA 32 s).2.1.size=s.size-(x++⟨#[32]⟩).size:=by rw[h2 hc,Qc4];have:=(h1.2 hc).1;omega
   dsimp only;have hb:(if k=1\/k=5 then decide (s.size-(x++⟨#[32]⟩).size<=60) else isName (EA 32 s).2.1)=plOk k (EA 32 s).2.1:=by unfold plOk;rw[hl]
   rw[hb];by_cases hk:plOk k (EA 32 s).2.1=true
   ·rw[Qa2 ⟨hc.1,hk⟩,Qa2 hk]
   ·rw[Qa3 (fun q=>hk q.2),Qa3 hk]
  ·rw[Qa3 (fun q=>hc (h1.1 q))];by_cases hw:x=(EA 32 s).1
   ·rw[Qa2 hw,Qa3 (fun q=>hc ⟨q.1,hw.symm⟩)];have hno:(EA 32 s).2.2=false:=by
     cases hb:(EA 32 s).2.2 with
     | false=>rfl
     | true=>exact absurd ⟨hb,hw.symm⟩ hc
    have hall:∀ (l:List ByteArray) (k:Int),(∀ x,x∈l->(32:UInt8)∉toL x)->(line8L s (l.map fun x=>x++⟨#[32]⟩) k).2=false:=by
     intro l
     induction l with
     | nil=>intro k _;rfl
     | cons y l ih=>
      intro k hy;rw[Qc8,line8L,Qa3]
      ·exact ih _ fun z hz=>hy z (Qd9 _ hz)
      ·intro q;have:=((VX (s:=s) (hy y Qf3)).1.1 q).1;rw[hno] at this;cases this
    rw[Qa3 (by rw[hall l _ fun y hy=>h y (Qd9 _ hy)];decide)]
   ·rw[Qa3 hw];exact ih
theorem AaH (s:ByteArray):plineL (EA 32 s) (opWords.drop 1) 1=pline s:=by
 rw[Pp s _ _ (by decide)];rfl
theorem VW {c:ByteArray×ByteArray×Bool} {i:Nat} {k:Int} (h:i<opWords.length):plineL c (opWords.drop i) k=if opWords.getD i default=c.1 then(if c.2.2=true/\plOk k c.2.1=true then(⟨k,c.2.1⟩,true) else(default,false)) else plineL c (opWords.drop (i+1)) (k+1):=by rw[drop_cons h];rfl
theorem Vn {c:ByteArray×ByteArray×Bool} {i:Nat} {k:Int} (h:opWords.length<=i):plineL c (opWords.drop i) k=(default,false):=by rw[Qb6 h];rfl
theorem K8:opWords.length=6:=rfl
def KF:Fct:=⟨[.v (.el .str)],[.el .line,.el .bool],fun(x_:ByteArray×Unit)=>x_.1.size<=4200000000,fun(x_:ByteArray×Unit)=>((pline x_.1).1,(pline x_.1).2,())⟩
abbrev CZ (s:ByteArray):LInv:=⟨[⟨.s,7,true,.el .int⟩,⟨.b,2,true,.el .line⟩],fun(z_ x_:Int×SLine×Unit)=>(1<=x_.1/\x_.1<=6/\plineL (EA 32 s) (opWords.drop x_.1.toNat) x_.1=pline s)/\x_.2.1=z_.2.1,fun(x_:Int×SLine×Unit)=>(6-x_.1).toNat⟩
def Alk:=AlC.a KF<|Fct.p (KP [0,2,3,4,5,6,7,8] [16,22,47]) (fun⟨s,_⟩=>lv [(3,CZ s)]) AlC.2 func340 (by
 rintro⟨(s:ByteArray),_⟩ hp;refine ho (let q1_:Out:=.lf KF (default,false,());.cl Sc (s,(⟨#[32]⟩:ByteArray),()) fun z2=>let q3_:=decide ((z2.2.1.size:Int)>60);lpx (CZ s) ((1:Int),(default,())) fun(y2:Int×SLine×PUnit) bk2=>let q2_:Out:=.lf KF (⟨y2.1,z2.2.1⟩,true,());let q0_:Out:=.cl fIsName (z2.2.1,()) fun z4=>.br (!z4.1) q1_ q2_;let q4_:Out:=.br (!y2.1==5) q0_ q2_;.br (decide (y2.1<=5)) (.cl HC (y2.1,()) fun z3=>.br (!z3.1.toList==z2.1.toList) (.ob (Value.string s=Value.string s)<|.ob (Value.string z2.1=Value.string z2.1)<|.ob (Value.string z2.2.1=Value.string z2.2.1)<|.ob (Value.bool z2.2.2.1=Value.bool z2.2.2.1)<|.ob (bk2 (w1 y2.1,(y2.2.1,())))<|.ok) (.br (y2.1==1) (.br (!z2.2.2.1) q1_ (.br q3_ q1_ (.br (!true) q0_ q2_))) (.br (!z2.2.2.1) q1_ (.br (y2.1==5) (.br q3_ q1_ q4_) q4_)))) q1_) ?_;refine Ae ?_ fun o1=>(Aw ?_ fun(y2:Int×SLine×PUnit) i2=>Ab (fun h3=>Ae trivial fun _=>(Ab (fun h4=>Aa rfl fun _=>Aa rfl fun _=>Aa rfl fun _=>Aa rfl fun _=>Aa ?_ fun o5=>trivial) (fun h4=>Ab (fun h6=>Ab (fun h7=>lfY ?_) (fun h7=>Ab (fun h8=>lfY ?_) (fun h8=>Ab (fun h9=>Ae ?_ fun o10=>(Ab (fun h11=>lfY ?_) (fun h11=>lfY ?_))) (fun h9=>lfY ?_)))) (fun h6=>Ab (fun h12=>lfY ?_) (fun h12=>Ab (fun h13=>Ab (fun h14=>lfY ?_) (fun h14=>Ab (fun h15=>Ae ?_ fun o16=>(Ab (fun h17=>lfY ?_) (fun h17=>lfY ?_))) (fun h15=>lfY ?_))) (fun h13=>Ab (fun h18=>Ae ?_ fun o19=>(Ab (fun h20=>lfY ?_) (fun h20=>lfY ?_))) (fun h18=>lfY ?_))))))) (fun h3=>lfY ?_))
 all_goals
  try simp only[AA] at *
  try simp only[CZ,Sc,fIsName,HC,KF,std,Nat.reduceAdd,Sc,HC,fIsName] at *
  try simp only[show(#[32]:Array UInt8).getD 0 0=32 from rfl] at *
 all_goals first|trivial|omega|exact⟨by omega,by omega,AaH s⟩|(obtain⟨⟨a1,a2,a3⟩,e1⟩:=i2)
 all_goals have hcs:=Q8 32 s
 all_goals generalize EA 32 s=c at *
 all_goals first|omega|skip
 all_goals first|(have e:=VW (c:=c) (i:=y2.1.toNat) (k:=y2.1) (by rw[K8];omega);rw[a3,<-Acr (by omega) (by omega)] at e;first|rw[Qa2 (by assumption)] at e|rw[Qa3 (by assumption)] at e)|(have e:=Vn (c:=c) (i:=y2.1.toNat) (k:=y2.1) (by rw[K8];omega);rw[a3] at e)
 all_goals first|(rw[e];exact⟨rfl,rfl⟩)|(rw[Ah (by omega),show(y2.1+1).toNat=y2.1.toNat+1 by omega];exact⟨⟨⟨by omega,by omega,e.symm⟩,e1⟩,by omega⟩)|skip
 all_goals first|(rw[Qa2 ⟨by assumption,by first|(rw[OH (by omega)];exact Qf2 (by omega))|(rw[P0 (by omega)];assumption)⟩] at e;rw[e];exact⟨rfl,rfl⟩)|(rw[Qa3 (by rintro⟨q1,q2⟩;first|exact tf q1 (by assumption)|(rw[OH (by omega)] at q2;have:=Qf9 q2;omega)|(rw[P0 (by omega)] at q2;exact tf q2 (by assumption)))] at e;rw[e];exact⟨rfl,rfl⟩)|skip)
theorem Aas {s:ByteArray} (h:(pline s).2=true):pline s=((line8 s).1,true)/\(line8 s).2=true:=by
 unfold pline at h ⊢;split at h
 ·rename_i hc;rw[Qa2 hc];exact⟨rfl,hc⟩
 ·cases h
theorem Aah {s:ByteArray} (h:(pline s).2=false):(line8 s).2=false:=by
 unfold pline at h;split at h
 ·cases h
 ·rename_i hc;simpa using hc
abbrev BF (s:ByteArray):LInv:=⟨[⟨.s,4,true,.sl .line⟩,⟨.s,16,true,.el .int⟩,⟨.s,14,true,.sl .str⟩],fun(z_ x_:(List SLine)×Int×(List ByteArray)×Unit)=>(0<=x_.2.1/\x_.2.1<=(spl 59 s).length/\(spl 59 s).length<1000000000000/\x_.1=lines8 ((spl 59 s).take x_.2.1.toNat)/\allOk8 ((spl 59 s).take x_.2.1.toNat)=true/\x_.2.1<=6)/\x_.2.2.1=z_.2.2.1,fun(x_:(List SLine)×Int×(List ByteArray)×Unit)=>(spl 59 s).length-x_.2.1.toNat⟩
def Aje:=Alk.a AC<|Fct.p (KP [0,2,3,4,6,7,8,14,15,16] [10,17,31]) (fun⟨s,_⟩=>lv [(5,BF s)]) Alk.2 func290 (by
 rintro⟨(s:ByteArray),_⟩ hp;refine ho (.br (s.toList==(⟨#[]⟩:ByteArray).toList) (.lf AC ([],true,())) (.cl DW (s,(⟨#[59]⟩:ByteArray),()) fun z2=>lpx (BF s) ([],((0:Int),(z2.1,()))) fun(y3:List SLine×Int×List ByteArray×PUnit) bk3=>.br (decide (y3.2.1<(z2.1.length:Int))) (.ob (inB y3.2.1 y3.2.2.1.length)<|.ob (y3.2.1.toNat<y3.2.2.1.length)<|.cl KF (y3.2.2.1.getD y3.2.1.toNat default,()) fun z3=>.br (!z3.2.1) (.lf AC ([],false,())) (.br ((y3.1.length:Int)==6) (.lf AC ([],false,())) (.ob (True)<|.ob (BK (y3.1.length+[z3.1].length) 24)<|.ob (Value.string s=Value.string s)<|.ob (Value.int IntKind.i64 (z2.1.length:Int)=Value.int IntKind.i64 (z2.1.length:Int))<|.ob (bk3 (y3.1++[z3.1],(w1 y3.2.1,(y3.2.2.1,()))))<|.ok))) (.lf AC (y3.1,true,())))) ?_;refine Ab (fun h1=>lfY ?_) (fun h1=>Ae ?_ fun o2=>(Aw ?_ fun(y3:List SLine×Int×List ByteArray×PUnit) i3=>Ab (fun h4=>Aa ?_ fun o5=>Aa ?_ fun o6=>Ae ?_ fun o7=>(Ab (fun h8=>lfY ?_) (fun h8=>Ab (fun h9=>lfY ?_) (fun h9=>Aa trivial fun _=>Aa ?_ fun o10=>Aa rfl fun _=>Aa rfl fun _=>Aa ?_ fun o11=>trivial)))) (fun h4=>lfY ?_)));all_goals
  have hp1:s.size<=4200000000:=hp;have hk:=DE 59 s;have hm:∀ i,i<(spl 59 s).length->((spl 59 s).getD i default).size<=s.size:=fun i h=>Hz (Br h)
  try simp only[AA] at *
  try simp only[BF,AC,KF,DW,std,Nat.reduceAdd,KF,DW] at *
  try simp only[show(#[59]:Array UInt8).getD 0 0=59 from rfl] at *
 all_goals first|trivial|omega|(unfold parseScript;rw[Qa2 (by assumption)];exact⟨rfl,rfl⟩)|exact⟨by omega,by omega,by omega,rfl,rfl,by omega⟩|(obtain⟨⟨a1,a2,a3,a4,a5,a6⟩,e1⟩:=i3;simp only[e1] at *)
 all_goals try have hl:y3.1.length=y3.2.1.toNat:=by rw[a4,lines8,Qf6,Qc1];omega
 all_goals first|trivial|omega|(have:=hm y3.2.1.toNat (by omega);omega)|skip
 all_goals first|(unfold parseScript;rw[Qa3 (by assumption),Qa3 (by rintro⟨q1,q2⟩;first|omega|(rw[Pd (i:=y3.2.1.toNat) (by omega) (Aah (by assumption))] at q2;cases q2))];exact⟨rfl,rfl⟩)|skip
 all_goals first|(rw[Qb3 (l:=spl 59 s) (i:=y3.2.1.toNat) (by omega)] at a4 a5;unfold parseScript;rw[Qa3 (by assumption),Qa2 (by exact⟨by omega,a5⟩)];exact⟨a4,rfl⟩)|skip
 all_goals (obtain⟨e,ho⟩:=Aas (s:=(spl 59 s).getD y3.2.1.toNat default) (by assumption);have e2:=Km (l:=spl 59 s) (i:=y3.2.1.toNat) (by omega);rw[Ah (by omega),show(y3.2.1+1).toNat=y3.2.1.toNat+1 by omega,e];simp only[Qe1];exact⟨⟨by omega,by omega,by omega,by rw[e2.1,a4],by rw[e2.2,a5,ho];rfl,by omega⟩,by omega⟩))
def hasPre (s p:ByteArray):Bool:=decide (p.size<=s.size/\s.extract 0 p.size=p)
def fHasPre:Fct:=⟨[.v (.el .str),.v (.el .str)],[.el .bool],fun(x_:ByteArray×ByteArray×Unit)=>x_.1.size<=1000000000000/\x_.2.1.size<=1000000000000,fun(x_:ByteArray×ByteArray×Unit)=>(hasPre x_.1 x_.2.1,())⟩
def AjZ:=Aje.a fHasPre<|Fct.o [0,1,4] Aje.2 func387 (by
 rintro⟨(s:ByteArray),(p:ByteArray),_⟩ hp;refine ho (.br (decide ((↑(ByteArray.size s):Int)>=(↑(ByteArray.size p):Int))) (.ob ((0:Int)<=(↑(ByteArray.size p):Int)/\(↑(ByteArray.size p):Int)<=(↑(ByteArray.size s):Int))<|.lf fHasPre ((ByteArray.extract s 0 (↑(ByteArray.size p):Int).toNat).toList==ByteArray.toList p,())) (.lf fHasPre (false,()))) ?_;refine Ab (fun h1=>Aa ?_ fun o2=>lfY ?_) (fun h1=>lfY ?_);all_goals
  try simp only[AA] at *
  try simp only[fHasPre,std,Nat.reduceAdd,hasPre] at *
  try simp(disch:=omega) only[wrapId',toNat1] at *
  try simp(disch:=omega) only[Qa2,Qa3]
 all_goals first|trivial|omega|grind[wrapId',toNat1,drop_cons,drop_end,good_len,maxLen,hasPre])
def cutPre (s p:ByteArray):ByteArray×Bool:=if hasPre s p=true then(s.extract p.size s.size,true) else(s,false)
def fCutPre:Fct:=⟨[.v (.el .str),.v (.el .str)],[.el .str,.el .bool],fun(x_:ByteArray×ByteArray×Unit)=>x_.1.size<=1000000000000/\x_.2.1.size<=1000000000000,fun(x_:ByteArray×ByteArray×Unit)=>((cutPre x_.1 x_.2.1).1,(cutPre x_.1 x_.2.1).2,())⟩
def Akl:=AjZ.a fCutPre<|Fct.o (KP [0,1,4,5] [9]) AjZ.2 func338 (by
 rintro⟨(s:ByteArray),(p:ByteArray),_⟩ hp;refine ho (.cl fHasPre (s,p,()) fun z2=>.br (!z2.1) (.lf fCutPre (s,false,())) (.ob ((0:Int)<=(↑(ByteArray.size p):Int)/\(↑(ByteArray.size p):Int)<=(↑(ByteArray.size s):Int))<|.lf fCutPre (ByteArray.extract s (↑(ByteArray.size p):Int).toNat (ByteArray.size s),true,()))) ?_;refine Ae ?_ fun o1=>(Ab (fun h2=>lfY ?_) (fun h2=>Aa ?_ fun o3=>lfY ?_))
 all_goals
  have h:hasPre s p=true->p.size<=s.size:=fun h=>(Qf9 h).1
  try simp only[AA] at *
  try simp only[fCutPre,fHasPre,std,Nat.reduceAdd,cutPre,fHasPre] at *
  try simp(disch:=omega) only[wrapId',toNat1] at *
  try simp(disch:=omega) only[Qa2,Qa3]
 all_goals first|trivial|omega|grind[wrapId',toNat1,drop_cons,drop_end,good_len,maxLen,cutPre,fHasPre])
def AjG:=Akl.a fCutPre<|Fct.o [0,1,4,5] Akl.2 func288 (by
 rintro⟨(s:ByteArray),(p:ByteArray),_⟩ hp;refine ho (.cl fCutPre (s,p,()) fun z2=>.lf fCutPre (z2.1,z2.2.1,())) ?_;refine Ae ?_ fun o1=>(lfY ?_)
 all_goals
  try simp only[AA] at *
  try simp only[fCutPre,std,Nat.reduceAdd,fCutPre] at *
  try simp(disch:=omega) only[wrapId',toNat1] at *
  try simp(disch:=omega) only[Qa2,Qa3]
 all_goals first|trivial|omega|grind[wrapId',toNat1,drop_cons,drop_end,good_len,maxLen,fCutPre])
theorem Uq (w:ByteArray):cutPre w impW=if hasImp w then(w.extract 7 w.size,true) else(w,false):=by
 unfold cutPre hasPre;by_cases h:hasImp w
 ·rw[Qa2 h,Qf2 (show impW.size<=w.size/\w.extract 0 impW.size=impW from h),Qa2 rfl];rfl
 ·rw[Qa3 h,Qg2 (show ¬ (impW.size<=w.size/\w.extract 0 impW.size=impW) from h),Qa3 (by decide)]
theorem X2:∀ l:List ByteArray,IE l ⟨#[59]⟩=gl59 l
 | []=>rfl
 | [w]=>by show ofL (toL w)=w;exact C7 w
 | w::x::l=>by have ih:=X2 (x::l);unfold IE at ih ⊢;rw[gl59,<-ih];show ofL (toL w++[59]++NK [59] ((x::l).map toL))=_;rw[Hj,Hj,C7];rfl
theorem Agz:∀ l:List ByteArray,(gl59 l).size<=szL Ac l
 | []=>Qa8 _
 | [w]=>by rw[Ax];show w.size<=w.size+1+0;omega
 | w::x::l=>by have ih:=Agz (x::l);rw[gl59,Ax,Qb5,Qb5];have h1:ByteArray.size ⟨#[59]⟩=1:=rfl;simp only[Ac] at *;omega
theorem XN {α:Type} [Inhabited α] (f:α->Nat) {l:List α} (h:0<l.length):szL f l=f (l.getD 0 default)+1+szL f (l.drop 1):=by
 have:=KI f h;rw[Qf0] at this;exact this
def pmInv (s b:ByteArray) (ps:List ByteArray) (im:List SAddr):Prop:=pmGo b ps im=parseModule s b/\szL Ac ps+im.length<=s.size+1
theorem AdM (s b:ByteArray):pmInv s b (spl 59 s) []:=⟨rfl,by rw[LQ];exact Qa8 _⟩
theorem ZR {s b:ByteArray} {ps:List ByteArray} {im:List SAddr} (h:pmInv s b ps im) (h0:0<ps.length) (hi:hasImp (ps.getD 0 default)) (ha:(parseAddr ((ps.getD 0 default).extract 7 (ps.getD 0 default).size) b).2=true):pmInv s b (ps.drop 1) (im++[(parseAddr ((ps.getD 0 default).extract 7 (ps.getD 0 default).size) b).1]):=by
 obtain⟨h1,h2⟩:=h;have e:ps=ps.getD 0 default::ps.drop 1:=by have:=drop_cons (l:=ps) (i:=0) h0;rw[Qf0] at this;exact this
 rw[XN Ac h0] at h2;rw[e,pmGo,Qa2 hi,Qa2 ha] at h1;exact⟨h1,by rw[Qa4,Qd7];omega⟩
theorem WX {s b:ByteArray} {ps:List ByteArray} {im:List SAddr} (h:pmInv s b ps im) (h0:0<ps.length) (hi:hasImp (ps.getD 0 default)) (ha:(parseAddr ((ps.getD 0 default).extract 7 (ps.getD 0 default).size) b).2=false):parseModule s b=([],[],false):=by
 have e:ps=ps.getD 0 default::ps.drop 1:=by have:=drop_cons (l:=ps) (i:=0) h0;rw[Qf0] at this;exact this
 rw[<-h.1,e,pmGo,Qa2 hi,Qa3 (by rw[ha];decide)]
theorem WR {s b:ByteArray} {ps:List ByteArray} {im:List SAddr} (h:pmInv s b ps im) (h0:ps.length=0\/¬ hasImp (ps.getD 0 default)):parseModule s b=if(parseScript (gl59 ps)).2=true then(im,(parseScript (gl59 ps)).1,true) else([],[],false):=by
 rw[<-h.1];cases ps with
 | nil=>rw[pmGo];show _=if(parseScript ⟨#[]⟩).2=true then _ else _;rw[Gd,Qa2 rfl];show _=(im,(parseScript ⟨#[]⟩).1,true);rw[Gd]
 | cons w l=>
  rcases h0 with h0|h0
  ·cases h0
  ·rw[pmGo,Qa3 (show ¬ hasImp w from h0)]
theorem Zm:(⟨#[105,109,112,111,114,116,32]⟩:ByteArray)=impW:=rfl
abbrev BG (s:ByteArray) (b:ByteArray):LInv:=⟨[⟨.s,7,true,.sl .str⟩,⟨.s,8,true,.sl .addr⟩],fun _ (x_:(List ByteArray)×(List SAddr)×Unit)=>pmInv s b x_.1 x_.2.1,fun(x_:(List ByteArray)×(List SAddr)×Unit)=>x_.1.length⟩
def Aig:=AjG.a Av<|Fct.p (KP [0,1,4,5,6,7,8,9,10,11,12,13,14] [20,29,37,53]) (fun⟨s,b,_⟩=>lv [(3,BG s b)]) AjG.2 func212 (by
 rintro⟨(s:ByteArray),(b:ByteArray),_⟩ hp;refine ho (let q3_:=(⟨#[59]⟩:ByteArray);let q2_:Out:=.lf Av ([],[],false,());.cl DW (s,q3_,()) fun z2=>lpx (BG s b) (z2.1,([],())) fun(y2:List ByteArray×List SAddr×PUnit) bk2=>let q1_:=(y2.1.length:Int);let q0_:Out:=.cl Kg (y2.1,q3_,()) fun z4=>.cl AC (z4.1,()) fun z5=>.br (!z5.2.1) q2_ (.lf Av (y2.2.1,z5.1,true,()));.br (decide (q1_>0)) (.ob ((0:Int)<=(0:Int)/\(0:Int)<q1_)<|.ob (0<y2.1.length)<|.cl fCutPre (y2.1.getD 0 default,(⟨#[105,109,112,111,114,116,32]⟩:ByteArray),()) fun z3=>.br (!z3.2.1) q0_ (.cl AF (z3.1,b,()) fun z6=>.br (!z6.2.1) q2_ (.ob (True)<|.ob (BK (y2.2.1.length+[z6.1].length) 32)<|.ob ((0:Int)<=(1:Int)/\(1:Int)<=q1_)<|.ob (1+(y2.1.length-1)<=y2.1.length)<|.ob (Value.string s=Value.string s)<|.ob (Value.string b=Value.string b)<|.ob (bk2 (cut y2.1 1 (y2.1.length-1),(y2.2.1++[z6.1],())))<|.ok))) q0_) ?_;refine Ae ?_ fun o1=>(Aw ?_ fun(y2:List ByteArray×List SAddr×PUnit) i2=>Ab (fun h3=>Aa ?_ fun o4=>Aa ?_ fun o5=>Ae ?_ fun o6=>(Ab (fun h7=>Ae ?_ fun o8=>(Ae ?_ fun o9=>(Ab (fun h10=>lfY ?_) (fun h10=>lfY ?_)))) (fun h7=>Ae ?_ fun o11=>(Ab (fun h12=>lfY ?_) (fun h12=>Aa trivial fun _=>Aa ?_ fun o13=>Aa ?_ fun o14=>Aa ?_ fun o15=>Aa rfl fun _=>Aa rfl fun _=>Aa ?_ fun o16=>trivial))))) (fun h3=>Ae ?_ fun o17=>(Ae ?_ fun o18=>(Ab (fun h19=>lfY ?_) (fun h19=>lfY ?_)))))
 all_goals
  have hp1:s.size<=4000000000/\b.size<=4000000000:=hp;try simp only[AA] at *
  try simp only[BG,fCutPre,Kg,AF,Av,AC,DW,std,Nat.reduceAdd,DW,fCutPre,AF,AC,Kg] at *
 all_goals first|trivial|omega|skip
 all_goals try simp only[show(#[59]:Array UInt8).getD 0 0=59 from rfl,Zm,X2,Z9,Uq] at *
 all_goals first|omega|exact AdM s b|(have hz:=i2.2;have hgl:=Agz y2.1;have hlen:=Ad Ac y2.1)
 all_goals try (have hw:=DO Ac (l:=y2.1) (i:=0) (by omega);simp only[Ac] at hw)
 all_goals by_cases hi:hasImp (y2.1.getD 0 default)
 all_goals first|simp only[Qa2 hi,reduceCtorEq] at * | simp only[Qa3 hi,reduceCtorEq] at * | skip
 all_goals
  try contradiction
  try have hxx:((y2.1.getD 0 default).extract 7 (y2.1.getD 0 default).size).size<=4000000000:=by(rw[Qc4];omega)
 all_goals first|omega|exact⟨by omega,by omega⟩|exact⟨by omega,by decide⟩|skip
 all_goals first|(rw[WX i2 (by omega) hi (by assumption)];exact⟨rfl,rfl,rfl⟩)|(rw[WR i2 (by first|exact .inl (by omega)|exact .inr hi)];(first|rw[Qa2 (by assumption)]|rw[Qa3 (by intro q;exact tf q (by assumption))]);exact⟨rfl,by first|rfl|assumption,rfl⟩)|exact⟨ZR i2 (by omega) hi (by assumption),by rw[Qd6];omega⟩)
theorem Lg {p:SPage} {a:SAddr} (h:0<=findMod p.bg a) (h1:(p.bg.getD (findMod p.bg a).toNat default).done=true) (h2:(p.bg.getD (findMod p.bg a).toNat default).code=1):imports p a=((parseModule (p.bg.getD (findMod p.bg a).toNat default).body a.host).1,(parseModule (p.bg.getD (findMod p.bg a).toNat default).body a.host).2.2):=by
 unfold imports;rw[Qa3];rintro(q|q|q)
 ·omega
 ·exact tf h1 q
 ·exact q h2
theorem Jn {p:SPage} {a:SAddr} (h:0<=findMod p.bg a) (h1:(p.bg.getD (findMod p.bg a).toNat default).done=true) (h2:(p.bg.getD (findMod p.bg a).toNat default).code=1):(parseModule (p.bg.getD (findMod p.bg a).toNat default).body a.host).1=(imports p a).1:=by rw[Lg h h1 h2]
theorem IT {p:SPage} {a:SAddr} (h:findMod p.bg a<0\/(p.bg.getD (findMod p.bg a).toNat default).done=false\/¬ (p.bg.getD (findMod p.bg a).toNat default).code=1):imports p a=([],false):=by unfold imports;rw[Qa2 h]
theorem WK {p:SPage} {a:SAddr} {s o:List SAddr} (h:inL s a=false) (hi:(imports p a).1=[]):visit p a (s,o)=(s++[a],o++[a]):=by
 rw[Sq (st:=(s,o)) h,hi];rfl
def Eu:GS:=⟨[.l (.v (.el .page)),.l (.v (.el .addr)),.b (.sl .addr),.b (.sl .addr)],[],fun(x_:SPage×SAddr×(List SAddr)×(List SAddr)×Unit)=>okVis x_.1 x_.2.1 x_.2.2.1 x_.2.2.2.1,fun(x_:SPage×SAddr×(List SAddr)×(List SAddr)×Unit)=>((()),((visit x_.1 x_.2.1 (x_.2.2.1,x_.2.2.2.1)).1,(visit x_.1 x_.2.1 (x_.2.2.1,x_.2.2.2.1)).2,()))⟩
abbrev Bg (p:SPage) (a:SAddr) (s:(List SAddr)) (o:(List SAddr)):LInv:=⟨[⟨.s,64,true,.el .int⟩,⟨.b,2,true,.sl .addr⟩,⟨.b,3,true,.sl .addr⟩,⟨.b,4,false,.el .page⟩,⟨.b,5,true,.el .addr⟩,⟨.s,62,true,.sl .addr⟩],fun(z_ x_:Int×(List SAddr)×(List SAddr)×SPage×SAddr×(List SAddr)×Unit)=>(((visInv p a s o x_.2.1 x_.2.2.1 x_.1)/\x_.2.2.2.1=z_.2.2.2.1)/\x_.2.2.2.2.1=z_.2.2.2.2.1)/\x_.2.2.2.2.2.1=z_.2.2.2.2.2.1,fun(x_:Int×(List SAddr)×(List SAddr)×SPage×SAddr×(List SAddr)×Unit)=>(imports p a).1.length-x_.1.toNat⟩
def Ali:=Aig.G Eu<|GS.ofRec (S:=Eu) (L:=fun⟨p,a,s,o,_⟩=>fun|7=>some (Bg p a s o)|_=>none) (kp:=[2,3,4,5,8,9,13,18,48,62,63,64,65,1000018,1000048,1000065]) mVis Aig.2 func378 (by kernel_rfl) (by kernel_rfl) (by
 intro n0;rintro⟨(p:SPage),(a:SAddr),(s:List SAddr),(o:List SAddr),_⟩ hp hm;refine ho (let q0_:Out:=.ob (True)<|.ob (BK (o.length+[a].length) 32)<|GS.out Eu ((()),(s++[a],o++[a],()));.cl Cy (s,a,()) fun z2=>.br (z2.1) (GS.out Eu ((()),(s,o,()))) (.ob (True)<|.ob (BK (s.length+[a].length) 32)<|.cl Ca (p,a,()) fun(z3:Int×PUnit)=>let q2_:=inB z3.1 p.bg.length;let q1_:=p.bg.getD z3.1.toNat default;.br (decide (z3.1>=0)) (.ob q2_<|.br (q1_.done) (.ob q2_<|.br (q1_.code==1) (.ob q2_<|.cl Av (q1_.body,a.host,()) fun z4=>let q3_:=(z4.1.length:Int);lpx (Bg p a s o) ((0:Int),(s++[a],(o,(p,(a,(z4.1,())))))) fun(y12:Int×List SAddr×List SAddr×SPage×SAddr×List SAddr×PUnit) bk12=>.br (decide (y12.1<q3_)) (.ob (inB y12.1 y12.2.2.2.2.2.1.length)<|.ob (y12.1.toNat<y12.2.2.2.2.2.1.length)<|.ob (Eu.pre (y12.2.2.2.1,y12.2.2.2.2.2.1.getD y12.1.toNat default,y12.2.1,y12.2.2.1,())/\mVis (y12.2.2.2.1,y12.2.2.2.2.2.1.getD y12.1.toNat default,y12.2.1,y12.2.2.1,())<n0)<|.lt _ (Eu.fn (y12.2.2.2.1,y12.2.2.2.2.2.1.getD y12.1.toNat default,y12.2.1,y12.2.2.1,())) fun z5=>.ob (Value.int IntKind.i64 z3.1=Value.int IntKind.i64 z3.1)<|.ob (Value.int IntKind.i64 q3_=Value.int IntKind.i64 q3_)<|.ob (bk12 (w1 y12.1,(z5.2.1,(z5.2.2.1,(y12.2.2.2.1,(y12.2.2.2.2.1,(y12.2.2.2.2.2.1,())))))))<|.ok) (.ob (True)<|.ob (BK (y12.2.2.1.length+[y12.2.2.2.2.1].length) 32)<|GS.out Eu ((()),(y12.2.1,y12.2.2.1++[y12.2.2.2.2.1],())))) q0_) q0_) q0_)) ?_;repeat' first|(guard_target =~ Out.holds _ _;first|refine Aw (li:=Bg p a s o) ?_ fun(y12:Int×List SAddr×List SAddr×SPage×SAddr×List SAddr×PUnit) i12=>?_|refine GS.leafY ?_|refine Ab (fun _=>?_) fun _=>?_|refine Ae ?_ fun _=>?_|refine Aa ?_ fun _=>?_|refine Dh ?_)|exact trivial
 all_goals have hq:okVis p a s o:=hp
 all_goals obtain⟨p1,p2,p3,p4,p5⟩:=(show okVis p a s o from hp)
 all_goals
  have hsl:s.length<=100000000000:=by(simp only[totV] at p4;omega)
  have hil:=HI a p2;have hfm:=BH p.bg a;try simp only[AA] at *
  try simp only[Bg,Cy,Ca,Av,Eu,std,Nat.reduceAdd,Cy,Ca,Av,Ht,Om] at *
 all_goals first|trivial|omega|skip
 all_goals first|(rw[Pm (by assumption)];exact⟨rfl,rfl⟩)|exact⟨p2 _ (by omega),p3⟩|skip
 all_goals first|(have hI1:=Jn (p:=p) (a:=a) (by omega) (by assumption) (by assumption))|(have hI2:(imports p a).1=[]:=by rw[IT (by first|exact .inl (by omega)|exact .inr (.inl (by assumption))|exact .inr (.inr (by assumption)))])
 all_goals first|(rw[WK (by assumption) hI2];exact⟨rfl,rfl⟩)|exact S9 p a s o p5|(obtain⟨⟨⟨i1,e1⟩,e2⟩,e3⟩:=i12;simp only[e1,e2,e3,hI1] at *)
 all_goals
  have i2:=i1.1;have i3:=MX i1 hq
 all_goals first|trivial|omega|exact⟨i2,by assumption⟩|skip
 all_goals first|exact⟨(G7 i1 (by assumption) (by assumption) hq).1,Qf5 (G7 i1 (by assumption) (by assumption) hq).2 (Nat.le_of_lt_succ hm)⟩|(rw[Ah (by omega)];simp only[Qe1];exact⟨OT i1 (by assumption),by omega⟩)|(rw[<-ME i1 (by omega) (by assumption)];exact⟨rfl,rfl⟩))
def Akj:=Ali.a Bp<|Fct.o [2,3,4,5,6] Ali.2 func330 (by
 rintro⟨(p:SPage),(a:SAddr),_⟩ hp;refine ho (.ob (Eu.pre (p,a,[],[],()))<|.lt _ (Eu.fn (p,a,[],[],())) fun z2=>.lf Bp (z2.2.2.1,())) ?_;refine Aa ?_ fun o1=>Dh (lfY ?_)
 all_goals
  try simp only[AA] at *
  try simp only[Bp,Eu,std,Nat.reduceAdd,Eu] at *
 all_goals first|assumption|rfl|skip)
abbrev BP (p:SPage) (a:SAddr):LInv:=⟨[⟨.s,12,true,.el .int⟩,⟨.b,2,false,.el .page⟩,⟨.s,10,true,.sl .addr⟩],fun(z_ x_:Int×SPage×(List SAddr)×Unit)=>((0<=x_.1/\x_.1<=(reachOf p a).length/\((reachOf p a).drop x_.1.toNat).all (fun b=>decide (0<=findMod p.bg b)&&(p.bg.getD (findMod p.bg b).toNat default).done)=graphReady p a)/\x_.2.1=z_.2.1)/\x_.2.2.1=z_.2.2.1,fun(x_:Int×SPage×(List SAddr)×Unit)=>(reachOf p a).length-x_.1.toNat⟩
end Go.Proofs.YtjgmhdnhlpckeaaGreatDoor.fnExactTransfer
