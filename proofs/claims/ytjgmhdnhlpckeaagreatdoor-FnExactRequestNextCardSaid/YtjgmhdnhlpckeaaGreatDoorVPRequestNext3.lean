/-
  Contracts of functions that the law of FnExactRequestNext reaches, part 3.
-/
import Derived.Test.YtjgmhdnhlpckeaaGreatDoorVPRequestNext2
import Derived.Test.YtjgmhdnhlpckeaaGreatDoorVLe
import Derived.WalkKit
import Derived.BigGuard
import Derived.Deep.QuietTactic
import Derived.BigQuiet
import Derived.Lib.ConvBytes
import Derived.Sort.WalkC
import Derived.Handy
import Derived.Lib.Overlaps
import Derived.Lib.AppendZerosOnto
import Derived.Laws.Externs
import Derived.Shelf.RegionOpenPlain
import Derived.Defers
import Derived.Laws.Pointers
import Derived.Laws.LoneSync
import Derived.RegionCalls
import Derived.ChangeAlike
import Derived.LoopN
import Derived.Lib.SliceRun
import Derived.Shelf.Strconv.AtoiAll
import Derived.Shelf.Small.Strs
import Derived.Test.YtjgmhdnhlpckeaaGreatDoorRows
import Derived.Test.YtjgmhdnhlpckeaaGreatDoorCards
import Derived.LaidMore
import Derived.Lay
import Derived.SevenTiedAt
import Derived.WalkKit
import Derived.ProofKit
import Derived.OpenShut
namespace Go.Proofs.YtjgmhdnhlpckeaaGreatDoor.fnExactRequestNext
open Go.Proofs.YtjgmhdnhlpckeaaGreatDoor
open Go.D Go.Proofs.Tryz
set_option maxRecDepth 100000
set_option maxHeartbeats 2000000
set_option linter.unusedVariables false
set_option linter.unusedSimpArgs false
def Al8:=AjV.a AM<|Fct.p (KP [2,3,4,5,6,7,8] [26,43,55]) (fun⟨p,a,_⟩=>lv [(3,Cl p a)]) AjV.2 func252 (by
 rintro⟨(p:SPage),(a:SAddr),_⟩ hp;refine ho (let q11_:=(⟨#[]⟩:ByteArray);.cl fCopyPage (p,()) fun z2=>lpx (Cl p a) ((0:Int),(p,(a,(default,(z2.1,()))))) fun(y2:Int×SPage×SAddr×SPage×SPage×PUnit) bk2=>let q15_:=inB y2.1 y2.2.1.bh.length;let q10_:=decide (y2.1<(y2.2.1.bh.length:Int));let q7_:=y2.2.1.bh.getD y2.1.toNat default;let q6_:=y2.1.toNat-0;let q14_:=[]++cut y2.2.2.2.2.1.bh 0 q6_;let q12_:=0+q6_<=y2.2.2.2.2.1.bh.length;let q8_:=BM (0+(cut y2.2.2.2.2.1.bh 0 q6_).length) 64;let q5_:=(⟨y2.2.2.1,true,(2:Int),q11_⟩:SModule);let q4_:=(⟨y2.2.2.1,false,(0:Int),q11_⟩:SModule);let q3_:=0<=y2.1/\y2.1<=(y2.2.2.2.2.1.bh.length:Int);let q2_:=y2.2.2.2.2.1.bh.length-y2.1.toNat;let q13_:=cut y2.2.2.2.2.1.bh y2.1.toNat q2_;let q9_:=y2.1.toNat+q2_<=y2.2.2.2.2.1.bh.length;let q0_:Out:=.cl fCheckRequest (y2.2.1.bj,(⟨(5:Int),y2.2.2.1,y2.2.1.addr.host,q11_⟩:SRequest),()) fun(z4:Int×PUnit)=>.br (z4.1 != 1) (.ob q3_<|.ob q12_<|.ob q8_<|.ob (True)<|.ob (BM (q14_.length+[q5_].length) 64)<|.ob q3_<|.ob q9_<|.ob (BM (([]++cut y2.2.2.2.2.1.bh 0 q6_++[q5_]).length+q13_.length) 64)<|.lf AM ({y2.2.2.2.2.1 with bh:=[]++cut y2.2.2.2.2.1.bh 0 q6_++[q5_]++cut y2.2.2.2.2.1.bh y2.1.toNat q2_},())) (.ob q3_<|.ob q12_<|.ob q8_<|.ob (True)<|.ob (BM (q14_.length+[q4_].length) 64)<|.ob q3_<|.ob q9_<|.ob (BM (([]++cut y2.2.2.2.2.1.bh 0 q6_++[q4_]).length+q13_.length) 64)<|.lf AM ({y2.2.2.2.2.1 with bh:=[]++cut y2.2.2.2.2.1.bh 0 q6_++[q4_]++cut y2.2.2.2.2.1.bh y2.1.toNat q2_},()));let q1_:Out:=.br q10_ (.ob q15_<|.br (q7_.to.host==y2.2.2.1.host&&(q7_.to.path==y2.2.2.1.path&&true)) (.lf AM (y2.2.2.2.2.1,())) q0_) q0_;.br q10_ (.ob q15_<|.cl AV (q7_.to,y2.2.2.1,()) fun(z3:Int×PUnit)=>.br (decide (z3.1<0)) (.ob (bk2 (w1 y2.1,(y2.2.1,(y2.2.2.1,(y2.2.2.2.1,(y2.2.2.2.2.1,()))))))<|.ok) q1_) q1_) ?_;refine Af ?_ fun o1=>(Ay ?_ fun(y2:Int×SPage×SAddr×SPage×SPage×PUnit) i2=>Ab (fun h3=>Aa ?_ fun o4=>Af trivial fun _=>(Ab (fun h5=>Aa ?_ fun o6=>trivial) (fun h5=>Ab (fun h7=>Aa ?_ fun o8=>Ab (fun h9=>lfY ?_) (fun h9=>Af ?_ fun o10=>(Ab (fun h11=>Aa ?_ fun o12=>Aa ?_ fun o13=>Aa ?_ fun o14=>Aa trivial fun _=>Aa ?_ fun o15=>Aa ?_ fun o16=>Aa ?_ fun o17=>Aa ?_ fun o18=>lfY ?_) (fun h11=>Aa ?_ fun o19=>Aa ?_ fun o20=>Aa ?_ fun o21=>Aa trivial fun _=>Aa ?_ fun o22=>Aa ?_ fun o23=>Aa ?_ fun o24=>Aa ?_ fun o25=>lfY ?_)))) (fun h7=>Af ?_ fun o26=>(Ab (fun h27=>Aa ?_ fun o28=>Aa ?_ fun o29=>Aa ?_ fun o30=>Aa trivial fun _=>Aa ?_ fun o31=>Aa ?_ fun o32=>Aa ?_ fun o33=>Aa ?_ fun o34=>lfY ?_) (fun h27=>Aa ?_ fun o35=>Aa ?_ fun o36=>Aa ?_ fun o37=>Aa trivial fun _=>Aa ?_ fun o38=>Aa ?_ fun o39=>Aa ?_ fun o40=>Aa ?_ fun o41=>lfY ?_)))))) (fun h3=>Ab (fun h42=>Aa ?_ fun o43=>Ab (fun h44=>lfY ?_) (fun h44=>Af ?_ fun o45=>(Ab (fun h46=>Aa ?_ fun o47=>Aa ?_ fun o48=>Aa ?_ fun o49=>Aa trivial fun _=>Aa ?_ fun o50=>Aa ?_ fun o51=>Aa ?_ fun o52=>Aa ?_ fun o53=>lfY ?_) (fun h46=>Aa ?_ fun o54=>Aa ?_ fun o55=>Aa ?_ fun o56=>Aa trivial fun _=>Aa ?_ fun o57=>Aa ?_ fun o58=>Aa ?_ fun o59=>Aa ?_ fun o60=>lfY ?_)))) (fun h42=>Af ?_ fun o61=>(Ab (fun h62=>Aa ?_ fun o63=>Aa ?_ fun o64=>Aa ?_ fun o65=>Aa trivial fun _=>Aa ?_ fun o66=>Aa ?_ fun o67=>Aa ?_ fun o68=>Aa ?_ fun o69=>lfY ?_) (fun h62=>Aa ?_ fun o70=>Aa ?_ fun o71=>Aa ?_ fun o72=>Aa trivial fun _=>Aa ?_ fun o73=>Aa ?_ fun o74=>Aa ?_ fun o75=>Aa ?_ fun o76=>lfY ?_)))))
 all_goals
  have hl:p.bh.length<=1090000000000:=by have h1:szPage p<=1090000000000:=hp.1;have:=Ad Aq p.bh;simp only[szPage] at h1;omega
  have hpo:szPolicy p.bj<=1090000000000/\p.addr.host.size<=50000000000:=by have h1:szPage p<=1090000000000:=hp.1;have h2:p.addr.host.size<=4000000000:=hp.2.1;simp only[szPage,szAddr] at h1;omega
  try simp only[Az] at *
  try simp only[Cl,AM,fCheckRequest,AV,fCopyPage,std,Nat.reduceAdd,fCopyPage,AV,fCheckRequest] at *
 all_goals first|trivial|omega|exact⟨by omega,by omega,by simp⟩|skip
 all_goals try (obtain⟨⟨⟨⟨⟨a1,a2,a3⟩,e1⟩,e2⟩,e3⟩,e4⟩:=i2;simp only[e1,e2,e3,e4,DA,Qa9,Qb2,Nat.sub_zero,Qg2] at *)
 all_goals first|trivial|omega|exact⟨by omega,by simp only[szRequest,szAddr] at *;show _+_+0<=_;omega⟩|skip
 all_goals first|(have hc:(cut p.bh 0 y2.1.toNat).length=y2.1.toNat:=by(simp only[cut,Qc5,Qe2];omega))|skip
 all_goals try simp only[hc,Qd4,Qa4,Qa6,Qb5] at *
 all_goals first|trivial|omega|(simp only[cut,Qc5,Qe2];omega)|skip
 all_goals first|(have e:=MP (a:=a) (l:=p.bh) (i:=y2.1.toNat) (by omega);first|rw[Qa2 (by omega)] at e|rw[Qa3 (by omega)] at e)|(have e:=K1 (a:=a) (l:=p.bh) (i:=y2.1.toNat) (by omega))
 all_goals first|(rw[Ah (by omega),show(y2.1+1).toNat=y2.1.toNat+1 by omega];simp only[Qe1];exact⟨⟨by omega,by omega,by omega⟩,by omega⟩)|skip
 all_goals have e5:askFrom a p.bh=y2.1.toNat:=by omega
 all_goals first|(rw[PQ e5 (by omega) (by assumption)])|(rw[Yo e5 (by omega) (by first|exact .inr (by assumption)|exact .inl (by omega)) _ (by first|exact O9 (by assumption)|exact O7 (by assumption))]))
open Go.RowKit in
theorem ZN {P:Program} (w:World) (dT sT ty elem:TypeId) (g o dLen dCap:Nat) (a:Addr) (sLen sCap k:Nat) (cur:Array Value) (t:TypeId) (cs:List Value)
 (hu:P.underlying dT=some (.slice elem)) (hs:(P.info? elem).map (·.size)=some k)
 (hg:w.heap[g]? = some (.cells cur t (0,0))) (hn:cs.length=Nat.min sLen dLen*k)
 (hsrc:∀ j v,cs[j]? = some v->w.cell? (a.add j)=some v) (hfit:o+cs.length<=cur.size) (h1:∀ v∈cs,v.oneCell'=true) :
 (Builtin.copy_ #[dT,sT] ty #[.slice (some ⟨g,o,none⟩) dLen dCap,.slice (some a) sLen sCap]).run P w =
  .ok (goInt (Nat.min sLen dLen)) (w.setRow g (cur.toList.take o++cs++cur.toList.drop (o+cs.length)).toArray):=by
 have hl:=run_loadCells_list (P:=P) w a cs hsrc;have hst:=run_storeCells_at P g o t cs 0 cur w hg (by simpa using hfit) h1;cases hq:P.info? elem with
 | none=>simp[hq] at hs
 | some i=>
  have hi:i.size=k:=by simpa [hq] using hs
  simp[Builtin.copy_,run_underlying hu,Builtin.lenOf,Builtin.firstCells,sizeOf,typeInfo,hq,hi,<-hn,hl,hst]
open Go.RowKit in
theorem AbJ {P:Program} (w:World) {ops:Array Oper} {rest:List Oper} {o:Oper} {a:Act} {Q:Exit->Act->World->Prop} (hgd:o.guard=none) (d s:Operand) (t t':TypeId)
 (ho:o.op=.call { callee:=.builtin .copy,args := #[d,s],argTypes := #[t,t']}) (v u:Value) (hd:a.eval d=v) (hs:a.eval s=u) {v':Value} {w':World}
 (hr:(Builtin.copy_ #[t,t'] o.type #[v,u]).run P w=.ok v' w') (h:wpList P ops Q rest (a.put o.dst v') w'):wpList P ops Q (o::rest) a w :=
 wpList_plain hgd fun K hK=>by unfold Oper.wp execOp;simp only[ho,resolve,invoke,builtin,Sem.run_bind,Sem.run_pure,Result.andThen_ok,List.map_toArray,Qc9,List.map_nil,hd,hs,hr];exact hK _ _ h
open Go.RowKit in
theorem AbW {P:Program} {ops:Array Oper} {o:Oper} {a:Act} {w:World} {K:Act->World->Prop} {Q:Exit->Act->World->Prop} {E:Prop}
 (hg:o.guard=none) (d x:Operand) (dT sT:TypeId) (hop:o.op=Op.call { callee:=Callee.builtin Builtin.copy,args := #[d,x],argTypes := #[dT,sT]})
 (v u:Value) (hd:a.eval d=v) (hx:a.eval x=u) {v':Value} {w':World} (hr:(Builtin.copy_ #[dT,sT] o.type #[v,u]).run P w=.ok v' w') (hK:K (a.put o.dst v') w') :
 if Region.wanted o (yielded ops a.tmps)=true then Oper.wp P o a w K Q else E:=by
 have hw:Region.wanted o (yielded ops a.tmps)=true:=by simp[Region.wanted,hg]
 rw[Qa2 hw];unfold Oper.wp;simp[execOp,hop,resolve,invoke,builtin,hd,hx,hr,Result.andThen];exact hK
open Go.RowKit in
def insRow (row:Array Value) (off n m i:Nat) (vs:List Value) (o:Nat) (row':Array Value):Prop:=∀ x,x<(n+m)*5->row'[o+x]? = if x<i*5 then row[off+x]? else if x<(i+m)*5 then vs[x-i*5]? else row[off+x-m*5]?
open Go.RowKit in
theorem Z4 (w:World) (b off n c i vb voff m vc:Nat) (row:Array Value) (e:TypeId) (vs:List Value) (hg:w.heap[b]? = some (.cells row e (0,0))) (hrow:off+c*5<=row.size) (hi:i<n) (hm:0<m) (hroom:n+m<=c) (hnm:n+m<=1100000000001)
 (hvl:vs.length=m*5) (hvb:vb≠b) (hvs:∀ j v,vs[j]? = some v->w.cell? ⟨vb,voff+j,none⟩=some v) (h1v:∀ v∈vs,v.oneCell'=true) (h1c:∀ x v,x<n*5->row[off+x]? = some v->v.oneCell'=true)
 (tA:TypeId) (kA:Nat) (hsa:w.shape? vb=some (tA,kA)) (hfa:w.frozen? ⟨vb,voff,none⟩=false) (hfe:w.frozen? ⟨vb,kA,none⟩=false) :
 Calls Tryz.prog 293 #[.slice (some ⟨b,off,none⟩) n c,.int .i64 i,.slice (some ⟨vb,voff,none⟩) m vc] w fun e' w'=>
  e'=.returned (.slice (some ⟨b,off,none⟩) (n+m) c)/\∃ row',w'=w.drew.setRow b row'/\row'.size=row.size/\insRow row off n m i vs off row':=by
 have u66:Tryz.prog.underlying 66=some (.slice 253):=by kernel_rfl
 have z224:(Tryz.prog.info? 253).map (·.size)=some 5:=by kernel_rfl
 have y224:∀ w,(Go.sizeOf 253).run Tryz.prog w=.ok 5 w:=fun w=>by kernel_rfl
 have hz1:¬ ((m:Int)=0):=by omega
 have hz2:¬ ((i:Int)=(n:Int)):=by omega
 have hsb:w.shape? b=some (e,row.size):=by simp[World.shape?,hg]
 have hov:∀ lb cb,(callFunc 345 #[.slice (some ⟨vb,voff,none⟩) m vc,.slice (some ⟨b,off+(i+m)*5,none⟩) lb cb]).run Tryz.prog w=.ok (.value (.bool false)) w:=fun lb cb=>by
  rw[run_callFunc_extern func345 (by kernel_rfl) (by kernel_rfl) (by kernel_rfl) (e:=Extern.SlicesOverlaps.overlaps #[66,66] #[4]) (by kernel_rfl),
   Lib.run_overlaps_apart w 66 4 253 u66 5 y224 ⟨vb,voff,none⟩ ⟨b,off+(i+m)*5,none⟩ m vc lb cb hvb tA e kA row.size hsa hsb (by omega) hfa hfe]
  rfl
 have hw1:IntKind.i64.wrap ((i:Int)+(m:Int))=(i:Int)+(m:Int):=by rw[IntKind.wrap_i64];omega
 have hb1:(0:Int)<=(i:Int)+(m:Int):=by omega
 have hin:i<=n:=by omega
 have htn:((i:Int)+(m:Int)).toNat=i+m:=by omega
 have hb2:¬ (c=i+m):=by omega
 have hb3:(i:Int)<=(n:Int)+(m:Int):=by omega
 have hb4:¬ (c=i):=by omega
 have hrl:row.toList.length=row.size:=Qc6;obtain⟨cs1,hcs1⟩:∃ cs1,cs1=(row.toList.drop (off+i*5)).take ((n-i)*5):=⟨_,rfl⟩;have hl1:cs1.length=(n-i)*5:=by rw[hcs1,Qc5,Qe2];omega
 have hc1:∀ j,j<(n-i)*5->cs1[j]? = row[off+i*5+j]?:=fun j hj=>by rw[hcs1,Qg0,Qa2 hj,Qe5];simp
 obtain⟨row1,hrow1⟩:∃ r,r=(row.toList.take (off+(i+m)*5)++cs1++row.toList.drop (off+(i+m)*5+cs1.length)).toArray:=⟨_,rfl⟩;have hs1:row1.size=row.size:=by rw[hrow1];simp only[List.size_toArray,Qa4,Qc5,Qe2];omega
 have hgd:w.drew.heap[b]? = some (.cells row e (0,0)):=hg;have hcp1:∀ ty dc sc,(Builtin.copy_ #[66,66] ty #[.slice (some ⟨b,off+(i+m)*5,none⟩) (n+m-(i+m)) dc,.slice (some ⟨b,off+i*5,none⟩) (n+m-i) sc]).run Tryz.prog w.drew=.ok (goInt (n-i:Nat)) (w.drew.setRow b row1):=fun ty dc sc=>by
  have hmin:Nat.min (n+m-i) (n+m-(i+m))=n-i:=by show min _ _=_;omega
  have:=ZN (P:=Tryz.prog) w.drew 66 66 ty 253 b (off+(i+m)*5) (n+m-(i+m)) dc ⟨b,off+i*5,none⟩ (n+m-i) sc 5 row e cs1 u66 z224 hgd (by rw[hmin];exact hl1)
   (fun j v hj=>by have hj2:j<cs1.length:=(List.getElem?_eq_some_iff.1 hj).1;rw[Addr.add_lit];show w.cell? ⟨b,off+i*5+j,none⟩=some v;rw[<-hj,hc1 j (by omega)];simp[World.cell?,hg]) (by omega)
   (fun v hv=>by obtain⟨j,hj⟩:=List.getElem?_of_mem hv;have hj2:j<cs1.length:=(List.getElem?_eq_some_iff.1 hj).1;rw[hc1 j (by omega)] at hj;exact h1c (i*5+j) v (by omega) (by rw[<-hj];congr 1;omega))
  rw[hmin,<-hrow1] at this;exact this
 obtain⟨row2,hrow2⟩:∃ r,r=(row1.toList.take (off+i*5)++vs++row1.toList.drop (off+i*5+vs.length)).toArray:=⟨_,rfl⟩;have hs2:row2.size=row.size:=by rw[hrow2];simp only[List.size_toArray,Qa4,Qc5,Qe2,Qc6];omega
 have hg1:(w.drew.setRow b row1).heap[b]? = some (.cells row1 e (0,0)):=setRow_heap w.drew b row row1 e (0,0) hgd;have hcp2:∀ ty dc,(Builtin.copy_ #[66,66] ty #[.slice (some ⟨b,off+i*5,none⟩) (n+m-i) dc,.slice (some ⟨vb,voff,none⟩) m vc]).run Tryz.prog (w.drew.setRow b row1)=.ok (goInt m) (w.drew.setRow b row2):=fun ty dc=>by
  have hmin:Nat.min m (n+m-i)=m:=by show min _ _=_;omega
  have:=ZN (P:=Tryz.prog) (w.drew.setRow b row1) 66 66 ty 253 b (off+i*5) (n+m-i) dc ⟨vb,voff,none⟩ m vc 5 row1 e vs u66 z224 hg1 (by rw[hmin];exact hvl)
   (fun j v hj=>by have:=hvs j v hj;rw[Addr.add_lit];rw[World.cell?] at this ⊢;rw[setRow_other w.drew b vb row1 hvb];exact this) (by rw[hs1];omega) h1v
  rw[hmin,<-hrow2,setRow_setRow] at this;exact this
 have hr1l:row1.toList.length=row1.size:=Qc6;have hins:insRow row off n m i vs off row2:=by
  intro x hx;have e1:row2[off+x]? = if off+x<off+i*5 then row1[off+x]? else if off+x<off+i*5+vs.length then vs[off+x-(off+i*5)]? else row1[off+x]?:=by rw[hrow2,List.getElem?_toArray,FF (by omega)];simp
  have e2:row1[off+x]? = if off+x<off+(i+m)*5 then row[off+x]? else if off+x<off+(i+m)*5+cs1.length then cs1[off+x-(off+(i+m)*5)]? else row[off+x]?:=by rw[hrow1,List.getElem?_toArray,FF (by omega)];simp
  rw[e1];by_cases h1:x<i*5
  ·rw[Qa2 (by omega),Qa2 h1,e2,Qa2 (by omega)]
  ·rw[Qa3 (by omega),Qa3 h1];by_cases h2:x<(i+m)*5
   ·rw[Qa2 (by omega),Qa2 h2];congr 1;omega
   ·rw[Qa3 (by omega),Qa3 h2,e2,Qa3 (by omega),Qa2 (by omega),hc1 _ (by omega)];congr 1;omega
 clear hr1l hrl hrow2 hrow1 hg1 hgd hcs1 hc1 hl1 hs1
 go_enter func293,Tryz.ntmps293
 go_wp2_with (simp only[hov])
 have mixed:Tryz.prog.follows Departure.mixedOrders=true:=by kernel_rfl
 go_region_law_o (refine AbW rfl _ _ 66 66 rfl (.slice (some ⟨b,off+(i+m)*5,none⟩) (n+m-(i+m)) (c-(i+m))) (.slice (some ⟨b,off+i*5,none⟩) (n+m-i) (c-i)) (by simp[Act.eval,Act.put]) (by simp[Act.eval,Act.put]) (hcp1 66 (c-(i+m)) (c-i)) ?_)
 go_wp2_with (at_builtin;refine AbJ _ rfl _ _ 66 66 rfl _ _ rfl rfl (hcp2 _ _) ?_)
 go_ret
 exact⟨rfl,row2,rfl,hs2,hins⟩
open Go.RowKit in
theorem AaL (w:World) (b off n c i vb voff m vc:Nat) (row:Array Value) (e:TypeId) (vs:List Value) (hg:w.heap[b]? = some (.cells row e (0,0))) (hnc:n<=c) (hrow:off+c*5<=row.size) (hi:i<n) (hm:0<m) (hroom:c<n+m) (hnm:n+m<=1100000000001)
 (hvl:vs.length=m*5) (hvb:vb≠b) (hlv:vb<w.heap.size) (hvs:∀ j v,vs[j]? = some v->w.cell? ⟨vb,voff+j,none⟩=some v) (h1v:∀ v∈vs,v.oneCell'=true) (h1c:∀ x v,x<n*5->row[off+x]? = some v->v.oneCell'=true) :
 Calls Tryz.prog 293 #[.slice (some ⟨b,off,none⟩) n c,.int .i64 i,.slice (some ⟨vb,voff,none⟩) m vc] w fun e' w'=>
  ∃ c' row',n+m<=c'/\c'*5<=row'.size/\e'=.returned (.slice (some ⟨w.heap.size,0,none⟩) (n+m) c')/\Neu w w'/\w'.heap[w.heap.size]? = some (.cells row' 253 (0,0))/\insRow row off n m i vs 0 row':=by
 have u66:Tryz.prog.underlying 66=some (.slice 253):=by kernel_rfl
 have u3:Tryz.prog.underlying 3=some (.int .i64):=by kernel_rfl
 have z224:(Tryz.prog.info? 253).map (·.size)=some 5:=by kernel_rfl
 have i224:(Tryz.prog.info? 253).map (fun i=>(i.size,i.bytes,i.zero.map (·.cells.size)))=some (5,64,some 5):=by kernel_rfl
 obtain⟨i0,z0,hi0,hz0,hs0,hb0,hzc⟩:∃ i z,Tryz.prog.info? 253=some i/\i.zero=some z/\i.size=5/\i.bytes=64/\z.cells.size=5:=by
  cases hq:Tryz.prog.info? 253 with
  | none=>rw[hq] at i224;simp at i224
  | some j=>
   rw[hq] at i224;simp only[Qb8,Qa0,Qb3] at i224;obtain⟨a1,a2,a3⟩:=i224;cases hz:j.zero with
   | none=>rw[hz] at a3;simp at a3
   | some z=>rw[hz] at a3;exact⟨j,z,rfl,hz,a1,a2,by simpa using a3⟩
 have hz1:¬ ((m:Int)=0):=by omega
 have hz2:¬ ((i:Int)=(n:Int)):=by omega
 have hz3:(c:Int)<(n:Int)+(m:Int):=by omega
 have hbw:b<w.heap.size:=by
  rcases Nat.lt_or_ge b w.heap.size with h|h
  ·exact h
  ·rw[Array.getElem?_eq_none h] at hg;cases hg
 have hrl:row.toList.length=row.size:=Qc6;obtain⟨cs0,hcs0⟩:∃ cs,cs=(row.toList.drop off).take (i*5):=⟨_,rfl⟩;have hl0:cs0.length=i*5:=by rw[hcs0,Qc5,Qe2];omega
 have hc0:∀ j,j<i*5->cs0[j]? = row[off+j]?:=fun j hj=>by rw[hcs0,Qg0,Qa2 hj,Qe5];simp
 obtain⟨cs1,hcs1⟩:∃ cs1,cs1=(row.toList.drop (off+i*5)).take ((n-i)*5):=⟨_,rfl⟩;have hl1:cs1.length=(n-i)*5:=by rw[hcs1,Qc5,Qe2];omega
 have hc1:∀ j,j<(n-i)*5->cs1[j]? = row[off+i*5+j]?:=fun j hj=>by rw[hcs1,Qg0,Qa2 hj,Qe5];simp
 have hik:i+(n+m-i)=n+m:=by omega
 have hold:(Builtin.firstCells i0.size i (.slice (some ⟨b,off,none⟩) i c)).run Tryz.prog w.drew=.ok cs0.toArray w.drew:=by
  rw[hs0];exact run_firstCells_some w.drew 5 i ⟨b,off,none⟩ i c cs0 hl0 (fun j v hj=>by have hj2:j<cs0.length:=(List.getElem?_eq_some_iff.1 hj).1;rw[Addr.add_lit,<-hj,hc0 j (by omega)];show w.cell? _=_;simp[World.cell?,hg])
 have hkk:(n:Int)+(m:Int)-(i:Int)=((n+m-i:Nat):Int):=by omega
 have hrz:∀ ty,(Builtin.append_ #[66,3] ty #[.slice (some ⟨b,off,none⟩) i c,.int .i64 ((n:Int)+(m:Int)-(i:Int))]).run Tryz.prog w =
  .ok (.slice (some ⟨w.heap.size,0,none⟩) (n+m) (grownCap w (n+m) c 253)) (w.drew.alloc (.cells (cs0.toArray++Builtin.zeroCells z0.cells (n+m-i)++Builtin.zeroCells z0.cells (grownCap w (n+m) c 253-(n+m))) 253)):=fun ty=>by
  have h:=Lib.run_append_grow_zeros w 66 3 ty 253 i0 z0 .i64 .i64 u66 u3 hi0 hz0 (some ⟨b,off,none⟩) i c cs0 hold (n+m-i) (by omega) (by omega) (by omega) (by omega) (by rw[hb0];omega) (by rw[hb0,hik];exact growslice_fits hroom (by omega));rw[hik] at h;rw[hkk];exact h
 obtain⟨cc,hcc⟩:∃ cc,cc=grownCap w (n+m) c 253:=⟨_,rfl⟩;have hge:n+m<=cc:=by rw[hcc];exact grownCap_ge w _ _ _
 obtain⟨R0,hR0⟩:∃ R,R=cs0.toArray++Builtin.zeroCells z0.cells (n+m-i)++Builtin.zeroCells z0.cells (cc-(n+m)):=⟨_,rfl⟩;rw[<-hcc,<-hR0] at hrz;have hRs:R0.size=cc*5:=by rw[hR0];simp only[Array.size_append,size_zeroCells,List.size_toArray,hl0,hzc];omega
 have hR0c:∀ x,x<i*5->R0[x]? = row[off+x]?:=fun x hx=>by rw[hR0,Array.append_assoc,Array.getElem?_append_left (by simp[hl0];omega)];rw[List.getElem?_toArray,hc0 x hx]
 have hcc63:cc<=9223372036854775807:=by have:=grownCap_le_maxLen w (n+m) c 253 (by unfold maxLen;omega);rw[<-hcc] at this;unfold maxLen at this;omega
 obtain⟨w1,hw1⟩:∃ w1,w1=w.drew.alloc (.cells R0 253):=⟨_,rfl⟩;rw[<-hw1] at hrz;have hn1:Neu w w1:=by rw[hw1];exact(Neu.refl w).drew.alloc _
 have hg1:w1.heap[w.heap.size]? = some (.cells R0 253 (0,0)):=by rw[hw1];exact heap_alloc_new w.drew _
 obtain⟨R1,hR1⟩:∃ r,r=(R0.toList.take (i*5)++vs++R0.toList.drop (i*5+vs.length)).toArray:=⟨_,rfl⟩;have hR1s:R1.size=R0.size:=by rw[hR1];simp only[List.size_toArray,Qa4,Qc5,Qe2,Qc6];omega
 have hcp1:∀ ty dc,(Builtin.copy_ #[66,66] ty #[.slice (some ⟨w.heap.size,i*5,none⟩) (n+m-i) dc,.slice (some ⟨vb,voff,none⟩) m vc]).run Tryz.prog w1=.ok (goInt m) (w1.setRow w.heap.size R1):=fun ty dc=>by
  have hmin:Nat.min m (n+m-i)=m:=by show min _ _=_;omega
  have:=ZN (P:=Tryz.prog) w1 66 66 ty 253 w.heap.size (i*5) (n+m-i) dc ⟨vb,voff,none⟩ m vc 5 R0 253 vs u66 z224 hg1 (by rw[hmin];exact hvl)
   (fun j v hj=>by have:=hvs j v hj;rw[Addr.add_lit];rw[World.cell?] at this ⊢;rw[hn1.old vb hlv];exact this) (by omega) h1v
  rw[hmin,<-hR1] at this;exact this
 obtain⟨w2,hw2⟩:∃ w2,w2=w1.setRow w.heap.size R1:=⟨_,rfl⟩;have hg2:w2.heap[w.heap.size]? = some (.cells R1 253 (0,0)):=by rw[hw2];exact setRow_heap w1 w.heap.size R0 R1 253 (0,0) hg1
 rw[<-hw2] at hcp1;have hb2:w2.drew.heap[b]? = some (.cells row e (0,0)):=by show w2.heap[b]? = _;rw[hw2,setRow_other w1 _ b R1 (by omega),hn1.old b hbw,hg]
 obtain⟨R2,hR2⟩:∃ r,r=(R1.toList.take ((i+m)*5)++cs1++R1.toList.drop ((i+m)*5+cs1.length)).toArray:=⟨_,rfl⟩;have hR2s:R2.size=R0.size:=by rw[hR2];simp only[List.size_toArray,Qa4,Qc5,Qe2,Qc6];omega
 have hcp2:∀ ty dc sc,(Builtin.copy_ #[66,66] ty #[.slice (some ⟨w.heap.size,(i+m)*5,none⟩) (n+m-(i+m)) dc,.slice (some ⟨b,off+i*5,none⟩) (n-i) sc]).run Tryz.prog w2.drew=.ok (goInt (n-i:Nat)) (w2.drew.setRow w.heap.size R2):=fun ty dc sc=>by
  have hmin:Nat.min (n-i) (n+m-(i+m))=n-i:=by show min _ _=_;omega
  have:=ZN (P:=Tryz.prog) w2.drew 66 66 ty 253 w.heap.size ((i+m)*5) (n+m-(i+m)) dc ⟨b,off+i*5,none⟩ (n-i) sc 5 R1 253 cs1 u66 z224 hg2 (by rw[hmin];exact hl1)
   (fun j v hj=>by have hj2:j<cs1.length:=(List.getElem?_eq_some_iff.1 hj).1;rw[Addr.add_lit,<-hj,hc1 j (by omega)];simp[World.cell?,hb2]) (by omega)
   (fun v hv=>by obtain⟨j,hj⟩:=List.getElem?_of_mem hv;have hj2:j<cs1.length:=(List.getElem?_eq_some_iff.1 hj).1;rw[hc1 j (by omega)] at hj;exact h1c (i*5+j) v (by omega) (by rw[<-hj];congr 1;omega))
  rw[hmin,<-hR2] at this;exact this
 have hr0l:R0.toList.length=R0.size:=Qc6;have hr1l:R1.toList.length=R1.size:=Qc6;have hins:insRow row off n m i vs 0 R2:=by
  intro x hx;rw[Qd4];have e1:R2[x]? = if x<(i+m)*5 then R1[x]? else if x<(i+m)*5+cs1.length then cs1[x-(i+m)*5]? else R1[x]?:=by rw[hR2,List.getElem?_toArray,FF (by omega)];simp
  have e2:R1[x]? = if x<i*5 then R0[x]? else if x<i*5+vs.length then vs[x-i*5]? else R0[x]?:=by rw[hR1,List.getElem?_toArray,FF (by omega)];simp
  rw[e1];by_cases h1:x<i*5
  ·rw[Qa2 (by omega),Qa2 h1,e2,Qa2 h1,hR0c x h1]
  ·rw[Qa3 h1];by_cases h2:x<(i+m)*5
   ·rw[Qa2 h2,Qa2 h2,e2,Qa3 h1,Qa2 (by omega)]
   ·rw[Qa3 h2,Qa3 h2,Qa2 (by omega),hc1 _ (by omega)];congr 1;omega
 have hN:Neu w (w2.drew.setRow w.heap.size R2):=⟨hn1.os▸(by rw[hw2];rfl),hn1.tape▸(by rw[hw2];rfl),hn1.output▸(by rw[hw2];rfl),(by rw[hw2];exact hn1.drawn.trans (DrLe.succ _)),(by
  have:=hn1.size;have e1:(w2.drew.setRow w.heap.size R2).heap.size=w2.heap.size:=by simp[World.setRow]
  have e2:w2.heap.size=w1.heap.size:=by rw[hw2];simp[World.setRow]
  omega),fun g hgl=>by rw[setRow_other w2.drew _ g R2 (by omega)];show w2.heap[g]? = _;rw[hw2,setRow_other w1 _ g R1 (by omega)];exact hn1.old g hgl⟩
 have hg3:(w2.drew.setRow w.heap.size R2).heap[w.heap.size]? = some (.cells R2 253 (0,0)):=setRow_heap w2.drew w.heap.size R1 R2 253 (0,0) hg2;have hwi:IntKind.i64.wrap ((i:Int)+(m:Int))=(i:Int)+(m:Int):=by rw[IntKind.wrap_i64];omega
 have hb1:(0:Int)<=(i:Int)+(m:Int):=by omega
 have hin:i<=n:=by omega
 have htn:((i:Int)+(m:Int)).toNat=i+m:=by omega
 have hGi:¬ (cc=i):=by omega
 have hGim:¬ (cc=i+m):=by omega
 have hci:¬ (c=i):=by omega
 have hb3:(i:Int)<=(n:Int):=by omega
 clear hcc hr1l hr0l hR2 hR1 hg2 hg1 hw2 hw1 hb2 hR0 hold hkk hik hcs0 hc0 hl0 hcs1 hc1 hl1 hrl hR0c;have mixed:Tryz.prog.follows Departure.mixedOrders=true:=by kernel_rfl
 go_enter func293,Tryz.ntmps293
 go_wp2_with (first
  | (at_builtin;refine Lib.wpList_append_run _ rfl _ _ _ _ rfl _ _ rfl rfl _ _ (hrz _) ?_)
  | (at_builtin;refine AbJ _ rfl _ _ 66 66 rfl _ _ rfl rfl (hcp1 _ _) ?_))
 go_region_law_o (refine AbW rfl _ _ 66 66 rfl (.slice (some ⟨w.heap.size,(i+m)*5,none⟩) (n+m-(i+m)) (cc-(i+m))) (.slice (some ⟨b,off+i*5,none⟩) (n-i) (c-i)) (by simp[Act.eval,Act.put]) (by simp[Act.eval,Act.put]) (hcp2 66 (cc-(i+m)) (c-i)) ?_)
 go_wp2
 go_ret
 exact⟨cc,R2,hge,by omega,rfl,hN,hg3,hins⟩
def WS:GS:=⟨[.g (.sl .module),.l (.v (.el .int)),.g (.sl .module)],[.sl .module],fun(x_:(List SModule)×Int×(List SModule)×Unit)=>x_.1.length<=1100000000000/\0<=x_.2.1/\x_.2.1<=x_.1.length/\x_.2.2.1.length=1,fun(x_:(List SModule)×Int×(List SModule)×Unit)=>((x_.1.take x_.2.1.toNat++x_.2.2.1++x_.1.drop x_.2.1.toNat,()),(()))⟩
open Go.RowKit in
theorem V4 (w:World) (n:Nat) (ad:Option Addr) (c:Nat) (a:Addr) (m vc:Nat) (hm:0<m) (v':Value) (w':World) (hr:∀ ty,(Builtin.append_ #[66,66] ty #[.slice ad n c,.slice (some a) m vc]).run Tryz.prog w=.ok v' w') (hc:n<=c) :
 Calls Tryz.prog 293 #[.slice ad n c,.int .i64 n,.slice (some a) m vc] w fun e w''=>e=.returned v'/\w''=w':=by
 have u66:Tryz.prog.underlying 66=some (.slice 253):=by kernel_rfl
 have hz1:¬ ((m:Int)=0):=by omega
 cases ad with
 | none=>
  go_enter func293,Tryz.ntmps293
  go_wp2_with (at_builtin;refine Lib.wpList_append_run _ rfl _ _ _ _ rfl _ _ rfl rfl _ _ (hr _) ?_)
  all_goals (go_ret;exact⟨rfl,rfl⟩)
 | some b=>
  go_enter func293,Tryz.ntmps293
  go_wp2_with (at_builtin;refine Lib.wpList_append_run _ rfl _ _ _ _ rfl _ _ rfl rfl _ _ (hr _) ?_)
  all_goals (go_ret;exact⟨rfl,rfl⟩)
open Go.RowKit in
theorem Afd {w w':World} {xs ys:List SModule} {i n:Nat} (hn:xs.length=n) (hy:ys.length=1) (hi:i<=n) {us vs:List Value} {G1 G2:Nat->Nat->Nat->Prop} (hul:us.length=n*5) (hvl:vs.length=5)
 (h1:∀ i',i'<n->∀ j,j<5->∃ u,us[i'*5+j]? = some u/\TO w (fcC (cell .module xs i' j)) u (G1 i' j)) (h2:∀ i',i'<1->∀ j,j<5->∃ u,vs[i'*5+j]? = some u/\TO w (fcC (cell .module ys i' j)) u (G2 i' j)) :
 ∀ i',i'<n+1->∀ j,j<5->∃ u,(us.take (i*5)++vs++us.drop (i*5))[i'*5+j]? = some u/\TO w' (fcC (cell .module (xs.take i++ys++xs.drop i) i' j)) u (fun _=>False):=by
 have flat:∀ (zs:List SModule) (k j:Nat) (u:Value) (F:Nat->Prop),j<5->TO w (fcC (cell .module zs k j)) u F->TO w' (fcC (cell .module zs k j)) u (fun _=>False):=by intro zs k j u F hj h;obtain⟨u2,e2⟩:=ET (t:=.module) rfl zs k j hj;rw[e2] at h ⊢;exact h
 have tl:(us.take (i*5)).length=i*5:=by rw[Qc5];omega
 have tx:(xs.take i).length=i:=by rw[Qc5];omega
 have same:∀ (l1:List SModule) (k k2:Nat) (bs:List SModule),l1.getD k default=bs.getD k2 default->∀ j,cell .module l1 k j=cell .module bs k2 j:=fun l1 k k2 bs e j=>by unfold cell;rw[e]
 intro k hk j hj;by_cases c1:k<i
 ·obtain⟨u,e1,e2⟩:=h1 k (by omega) j hj;refine⟨u,?_,?_⟩
  ·rw[Qb4,Qb1 (by omega),Qg0,Qa2 (by omega),e1]
  ·rw[same _ k k xs (by rw[Qa7,Qa7,Qb4,Qb1 (by omega),Qg0,Qa2 c1]) j];exact flat _ _ _ _ _ hj e2
 ·by_cases c2:k=i
  ·obtain⟨u,e1,e2⟩:=h2 0 (by omega) j hj;refine⟨u,?_,?_⟩
   ·rw[Qb4,Qa8 (by omega),tl,Qb1 (by omega),<-e1];congr 1;omega
   ·rw[same _ k 0 ys (by rw[Qa7,Qa7,Qb4,Qa8 (by omega),tx,Qb1 (by omega)];congr 2;omega) j];exact flat _ _ _ _ _ hj e2
  ·obtain⟨u,e1,e2⟩:=h1 (k-1) (by omega) j hj;refine⟨u,?_,?_⟩
   ·rw[Qb4,Qa8 (by omega),tl,Qa8 (by omega),hvl,Qe5,<-e1];congr 1;omega
   ·rw[same _ k (k-1) xs (by rw[Qa7,Qa7,Qb4,Qa8 (by omega),tx,Qa8 (by omega),hy,Qe5];congr 2;omega) j];exact flat _ _ _ _ _ hj e2
open Go.RowKit in
def InsEnd (w:World) (lab:Nat->Prop) (n:Nat) (L:List Value) (e:Ending) (w':World):Prop :=
 ∃ g o c row t,e=.returned (.slice (some ⟨g,o,none⟩) (n+1) c)/\n+1<=c/\o+c*5<=row.size/\w'.heap[g]? = some (.cells row t (0,0))/\(lab g\/w.heap.size<=g)/\g<w'.heap.size/\Onward w w'/\(∀ b,b<w.heap.size->¬ lab b->w'.heap[b]? = w.heap[b]?)/\∀ x,x<(n+1)*5->row[o+x]? = L[x]?
open Go.RowKit in
theorem lt_of_heap {w:World} {g:Nat} {x:Obj} (h:w.heap[g]? = some x):g<w.heap.size:=by
 rcases Nat.lt_or_ge g w.heap.size with q|q
 ·exact q
 ·rw[Array.getElem?_eq_none q] at h;cases h
open Go.RowKit in
theorem Kp {row row':Array Value} {off o n i:Nat} {us vs:List Value} (hul:us.length=n*5) (hvl:vs.length=5) (hi:i<=n) (hu:∀ x,x<n*5->row[off+x]? = us[x]?) (h:insRow row off n 1 i vs o row') :
 ∀ x,x<(n+1)*5->row'[o+x]? = (us.take (i*5)++vs++us.drop (i*5))[x]?:=by
 intro x hx;have tl:(us.take (i*5)).length=i*5:=by rw[Qc5];omega
 rw[h x hx,Qb4];by_cases c1:x<i*5
 ·rw[Qa2 c1,Qb1 (by omega),Qg0,Qa2 c1,hu x (by omega)]
 ·rw[Qa3 c1,Qa8 (by omega),tl];by_cases c2:x<(i+1)*5
  ·rw[Qa2 c2,Qb1 (by omega)]
  ·rw[Qa3 c2,Qa8 (by omega),hvl,Qe5,show off+x-1*5=off+(x-5) by omega,hu _ (by omega)];congr 1;omega
open Go.RowKit in
theorem Aez (w:World) (ow:Nat->Own) (hlt:∀ g,ow g≠.gone->g<w.heap.size) (xs ys:List SModule) (i:Nat) (sv vv:Value) (hn:xs.length<=1100000000000) (hi:i<=xs.length) (hy:ys.length=1)
 (hs:TO w (.sl 5 xs.length fun a b=>fcC (cell .module xs a b)) sv (fun g=>ow g=.lab 0)) (hv:TO w (.sl 5 1 fun a b=>fcC (cell .module ys a b)) vv (fun g=>ow g=.lab 128)) :
 Calls Tryz.prog 293 #[sv,.int .i64 i,vv] w fun e w'=>∃ v',e=.returned v'/\v'.oneCell'=true/\Onward w w'/\(∀ b,b<w.heap.size->ow b≠.lab 0->w'.heap[b]? = w.heap[b]?) /\
  TO w' (.sl 5 (xs.length+1) fun a b=>fcC (cell .module (xs.take i++ys++xs.drop i) a b)) v' (fun b=>b<w'.heap.size/\(ow b=.lab 0\/w.heap.size<=b)):=by
 obtain⟨n,hnn⟩:∃ n,xs.length=n:=⟨_,rfl⟩;rw[hnn] at hs hi hn ⊢;have i224:(Tryz.prog.info? 253).map (fun i=>(i.size,i.bytes,i.zero.map (·.cells.size)))=some (5,64,some 5):=by kernel_rfl
 have u66:Tryz.prog.underlying 66=some (.slice 253):=by kernel_rfl
 obtain⟨i0,z0,hi0,hz0,hs0,hb0,hzc⟩:∃ i z,Tryz.prog.info? 253=some i/\i.zero=some z/\i.size=5/\i.bytes=64/\z.cells.size=5:=by
  cases hq:Tryz.prog.info? 253 with
  | none=>rw[hq] at i224;simp at i224
  | some j=>
   rw[hq] at i224;simp only[Qb8,Qa0,Qb3] at i224;obtain⟨a1,a2,a3⟩:=i224;cases hz:j.zero with
   | none=>rw[hz] at a3;simp at a3
   | some z=>rw[hz] at a3;exact⟨j,z,rfl,hz,a1,a2,by simpa using a3⟩
 obtain⟨us,G1,hus,hu1,hu2,hus1,hud,hub⟩:=SS (P:=Tryz.prog) (by decide) hs;obtain⟨vs,G2,hvs,hv1,hv2,hvs1,hvd,hvb⟩:=SS (P:=Tryz.prog) (by decide) hv;have hul:=hus.len;have hvl:vs.length=5:=hvs.len;have hvv:∃ g o c,vv=.slice (some ⟨g,o,none⟩) 1 c/\1<=c:=by
  rcases hv with⟨_,h⟩|⟨g,o,c,row,e,GG,h,hc,_⟩
  ·omega
  ·exact⟨g,o,c,h,hc⟩
 obtain⟨vb,voff,vc,rfl,hvc⟩:=hvv;obtain⟨hvow,vrow,ve,hvg,hvn,hvcap,hvrow,_⟩:=hvb vb voff vc rfl (by omega);have hlv:=lt_of_heap hvg;have hvcell:∀ j v,vs[j]? = some v->w.cell? ⟨vb,voff+j,none⟩=some v:=fun j v hj=>by have hj2:j<vs.length:=(List.getElem?_eq_some_iff.1 hj).1;rw[<-hj,<-hvrow j (by omega)];simp[World.cell?,hvg]
 have key:∀ e w',InsEnd w (fun g=>ow g=.lab 0) n (us.take (i*5)++vs++us.drop (i*5)) e w'->∃ v',e=.returned v'/\v'.oneCell'=true/\Onward w w'/\(∀ b,b<w.heap.size->ow b≠.lab 0->w'.heap[b]? = w.heap[b]?) /\
  TO w' (.sl 5 (n+1) fun a b=>fcC (cell .module (xs.take i++ys++xs.drop i) a b)) v' (fun b=>b<w'.heap.size/\(ow b=.lab 0\/w.heap.size<=b)):=by
  rintro e w' ⟨g,o,c,row,t,rfl,h1,h2,h3,h4,h5,h6,h7,h8⟩;refine⟨_,rfl,rfl,h6,fun b hb hl=>h7 b hb hl,.inr ⟨g,o,c,row,t,fun _ _ _=>False,rfl,h1,h2,h3,⟨h5,h4⟩,?_,by simp,by simp⟩⟩;intro k hk j hj;obtain⟨u,e1,e2⟩:=Afd (w':=w') hnn hy hi hul hvl hu2 hv2 k hk j hj;exact⟨u,by rw[Nat.add_assoc,h8 _ (by omega)];exact e1,e2⟩
 have Abp:∀ (ad:Option Addr) (c:Nat),sv=.slice ad n c->c<n+1->n<=c->i=n->Calls Tryz.prog 293 #[sv,.int .i64 i,.slice (some ⟨vb,voff,none⟩) 1 vc] w (InsEnd w (fun g=>ow g=.lab 0) n (us.take (i*5)++vs++us.drop (i*5))):=by
  intro ad c hsv hc hnc hin;subst hsv hin;have hr:=fun ty=>Fg (P:=Tryz.prog) 66 ty 253 i0 z0 u66 hi0 hz0 ad i c us (by rw[hs0];exact hus) (.slice (some ⟨vb,voff,none⟩) 1 vc) 1 vs (by rw[hs0];exact hvs) hc (by omega) (by rw[hb0];omega)
  refine(V4 w i ad c ⟨vb,voff,none⟩ 1 vc (by decide) _ _ hr hnc).mono ?_;rintro e w' ⟨rfl,rfl⟩;have hge:=grownCap_ge w (i+1) c 253;refine⟨w.heap.size,0,_,_,_,rfl,hge,?_,heap_alloc_new w.drew _,.inr (Qb0 _),by simp,⟨rfl,rfl,⟨rfl,by first|exact DrLe.refl _|exact DrLe.succ _|exact DrLe.add _ _⟩,by simp⟩,fun b hb _=>heap_alloc_old w.drew _ hb,?_⟩
  ·simp only[List.size_toArray,Qa4,Qc6,size_zeroCells,hzc];omega
  ·intro x hx;rw[Qd4,List.getElem?_toArray,Qb1 (by rw[Qa4];omega),Qb6 (by omega),Qb9 (by omega),Qd7]
 rcases hs with⟨⟨ad,hsv⟩,hn0⟩|⟨b,off,c,row,e,GG,hsv,hnc,hcap,hg,hF,hrow,hsub,hdis⟩
 ·exact(Abp ad 0 (by rw[hsv,hn0]) (by omega) (by omega) (by omega)).mono key
 ·by_cases hroom:n+1<=c
  ·obtain⟨_,row2,e2,hg2,_,_,hrw,_⟩:=hub b off c hsv (by omega);rw[hg] at hg2;injection hg2 with hg2
   injection hg2 with q1 q2
   subst q1;have hne:vb≠b:=by rintro rfl;rw[hF] at hvow;cases hvow
   by_cases hin:i=n
   ·subst hin;subst hsv;have hr:=fun ty=>Fk (P:=Tryz.prog) 66 ty 253 i0 u66 hi0 b off i c row e hg (.slice (some ⟨vb,voff,none⟩) 1 vc) 1 vs (by rw[hs0];exact hvs) hv1 hroom (by rw[hs0];omega)
    refine((V4 w i (some ⟨b,off,none⟩) c ⟨vb,voff,none⟩ 1 vc (by decide) _ _ hr hnc).mono ?_).mono key;rintro e' w' ⟨rfl,rfl⟩;refine⟨b,off,c,_,e,rfl,hroom,?_,setRow_heap w b row _ e _ hg,.inl hF,by simp[World.setRow];exact lt_of_heap hg,⟨rfl,rfl,⟨rfl,by first|exact DrLe.refl _|exact DrLe.succ _|exact DrLe.add _ _⟩,by simp[World.setRow]⟩,fun b' hb' hl=>setRow_other w b b' _ (by rintro rfl;exact hl hF),?_⟩
    ·simp only[List.size_toArray,Qa4,Qc5,Qe2,Qc6,hs0];omega
    ·intro x hx;have hrl:row.toList.length=row.size:=Qc6;rw[List.getElem?_toArray,hs0,FF (by omega),Qb6 (by omega),Qb9 (by omega),Qd7];by_cases c1:x<i*5
     ·rw[Qa2 (by omega),Qb1 (by omega),<-hrw x c1];simp
     ·rw[Qa3 (by omega),Qa2 (by omega),Qa8 (by omega)];congr 1;omega
   ·subst hsv;have h1c:∀ x v,x<n*5->row[off+x]? = some v->v.oneCell'=true:=fun x v hx h=>hu1 v (by rw[hrw x hx] at h;exact Qf7 h)
    refine((Z4 w b off n c i vb voff 1 vc row e vs hg hcap (by omega) (by decide) hroom (by omega) hvl hne hvcell hv1 h1c ve vrow.size (by simp[World.shape?,hvg]) (by simp[World.frozen?,hvg]) (by simp[World.frozen?,hvg])).mono ?_).mono key;rintro e' w' ⟨rfl,row',rfl,hsz,hins⟩;exact⟨b,off,c,row',e,rfl,hroom,by omega,setRow_heap w.drew b row row' e _ hg,.inl hF,by simp[World.setRow];exact lt_of_heap hg,⟨rfl,rfl,⟨rfl,by first|exact DrLe.refl _|exact DrLe.succ _|exact DrLe.add _ _⟩,by simp[World.setRow]⟩,fun b' hb' hl=>setRow_other w.drew b b' _ (by rintro rfl;exact hl hF),Kp hul hvl hi hrw hins⟩
  ·by_cases hin:i=n
   ·exact(Abp (some ⟨b,off,none⟩) c hsv (by omega) hnc hin).mono key
   ·obtain⟨_,row2,e2,hg2,_,_,hrw,_⟩:=hub b off c hsv (by omega);rw[hg] at hg2;injection hg2 with hg2
    injection hg2 with q1 q2
    subst q1;have hne:vb≠b:=by rintro rfl;rw[hF] at hvow;cases hvow
    subst hsv;have h1c:∀ x v,x<n*5->row[off+x]? = some v->v.oneCell'=true:=fun x v hx h=>hu1 v (by rw[hrw x hx] at h;exact Qf7 h)
    refine((AaL w b off n c i vb voff 1 vc row e vs hg hnc hcap (by omega) (by decide) (by omega) (by omega) hvl hne hlv hvcell hv1 h1c).mono ?_).mono key;rintro e' w' ⟨c',row',k1,k2,rfl,k3,k4,k5⟩;exact⟨w.heap.size,0,c',row',253,rfl,k1,by omega,k4,.inr (Qb0 _),lt_of_heap k4,⟨k3.os,k3.tape,⟨k3.output,k3.drawn⟩,k3.size⟩,fun b' hb' _=>k3.old b' hb',Kp hul hvl hi hrw k5⟩
def AlM:=Al8.G WS<|by
 rintro⟨(xs:List SModule),(i:Int),(ys:List SModule),⟨⟩⟩ hx w vs G hB hA;obtain⟨hx1,hx2,hx3,hx4⟩:=(show xs.length<=1100000000000/\0<=i/\i<=xs.length/\ys.length=1 from hx);obtain⟨j,rfl⟩:∃ j:Nat,i=j:=⟨i.toNat,by omega⟩;obtain⟨v0,e0,c0,hc0,r0⟩:=hA.tm 0 (.v false [.ref 0]) rfl;obtain⟨v1,e1,c1,hc1,r1⟩:=hA.tm 1 (.v false [.sc (.int .i64 j)]) rfl;obtain⟨v2,e2,c2,hc2,r2⟩:=hA.tm 2 (.v false [.ref 128]) rfl;injection hc0 with hc0
 injection hc1 with hc1
 injection hc2 with hc2
 subst hc0 hc1 hc2;have r0:v0=G.hv 0/\v0.oneCell'=true:=r0;have r1:v1=.int .i64 j/\_:=r1;have r2:v2=G.hv 128/\v2.oneCell'=true:=r2;have hs:TO w (.sl 5 xs.length fun a b=>fcC (cell .module xs a b)) (G.hv 0) (fun g=>G.ow g=.lab 0):=hA.hp 0 ⟨.module,xs⟩ rfl;have hv:TO w (.sl 5 ys.length fun a b=>fcC (cell .module ys a b)) (G.hv 128) (fun g=>G.ow g=.lab 128):=hA.hp 128 ⟨.module,ys⟩ rfl;rw[hx4] at hv;have hvs:vs = #[v0,v1,v2]:=by
  apply Array.ext_getElem?;intro k;have hsz:vs.size=3:=hA.sz
  match k with
  | 0=>exact e0
  | 1=>exact e1
  | 2=>exact e2
  | k+3=>rw[Array.getElem?_eq_none (by omega),Array.getElem?_eq_none (by simp)]
 rw[hvs,r0.1,r1.1,r2.1];refine(Aez w G.ow hA.lt xs ys j _ _ hx1 (by omega) hx4 hs hv).mono ?_;rintro e w' ⟨v',rfl,h1,h2,h3,h4⟩;have hlen:(xs.take j++ys++xs.drop j).length=xs.length+1:=by simp only[Qa4,Qc5,Qe2];omega
 have hgone:∀ b,w.heap.size<=b->G.ow b=.gone:=by
  intro b hb1;cases hq:G.ow b with
  | gone=>rfl
  | _=>exact absurd (hA.lt b (by simp[hq])) (by omega)
 refine⟨v',_,rfl,rfl,h2,fun g hg=>h3 g (hA.lt g (by simp[hg])) (by simp[hg]),fun g hg=>(hA.cr g hg).same (h3 g (hA.lt g (by simp[hg])) (by simp[hg])),fun p b=>p=.res 0 0/\b<w'.heap.size/\(G.ow b=.lab 0\/w.heap.size<=b),?_,?_,?_,?_,?_⟩
 ·rintro s b ⟨_,k1,k2⟩;refine⟨k1,?_,fun b0 hb0=>by cases hb0⟩;rcases k2 with k2|k2
  ·rw[k2];exact⟨by simp,by simp⟩
  ·rw[hgone b k2];exact⟨by simp,by simp⟩
 ·rintro s s' b ⟨rfl,_⟩ ⟨rfl,_⟩;rfl
 ·refine⟨_,rfl,?_,h1⟩;show TO w' (fcC (.l .module (xs.take j++ys++xs.drop j))) v' (fun b=>Pl.res 0 0=Pl.res 0 0/\b<w'.heap.size/\(G.ow b=.lab 0\/w.heap.size<=b));rw[Ed,hlen];have:(fun b=>Pl.res 0 0=Pl.res 0 0/\b<w'.heap.size/\(G.ow b=.lab 0\/w.heap.size<=b))=fun b=>b<w'.heap.size/\(G.ow b=.lab 0\/w.heap.size<=b):=by funext b;simp
  rw[this];exact h4
 ·intro l T hl;cases hl
 ·intro b cs hb;cases hb
theorem Hw (f:SModule->SModule) (m:SModule) (B:List SModule):∀ A:List SModule,(A++[m]++B).modify A.length f=A++[f m]++B
 | []=>rfl
 | a::A=>Qg8 (List.cons a) (Hw f m B A)
theorem Ach {l:List SModule} {i:Nat} {m:SModule} (f:SModule->SModule) (h:i<=l.length):(l.take i++[m]++l.drop i).modify i f=l.take i++[f m]++l.drop i:=by
 have e:(l.take i).length=i:=by rw[Qc5];omega
 have:=Hw f m (l.drop i) (l.take i)
 rwa [e] at this
theorem AdY {l:List SModule} {i:Nat} {m:SModule} (h:i<=l.length):(l.take i++[m]++l.drop i).getD i default=m:=by
 have e:(l.take i).length=i:=by rw[Qc5];omega
 rw[Qa7,Qb4,Qa8 (by omega),e,Nat.sub_self];rfl
theorem Vp {l:List SModule} {i:Nat} {m:SModule} (h:i<=l.length):(l.take i++[m]++l.drop i).length=l.length+1:=by
 simp only[Qa4,Qc5,Qe2,Qa6,Qb5];omega
theorem Adc {p:SPage} {a:SAddr} {i:Nat} (h:askFrom a p.bh=i) (h0:i<=p.bh.length) (h1:i=p.bh.length\/¬ (p.bh.getD i default).to=a) (m:SModule) (hm:m=newMod p a):askModule p a={ p with bh:=p.bh.take i++[m]++p.bh.drop i }:=by
 rw[Yo h h0 h1 m hm,AbP h0,Qb4];rfl
abbrev Bp (p:SPage) (a:SAddr):LInv:=⟨[⟨.s,6,true,.el .int⟩,⟨.b,2,false,.el .page⟩,⟨.b,3,true,.el .addr⟩,⟨.b,4,true,.el .page⟩,⟨.b,5,true,.el .page⟩],fun(z_ x_:Int×SPage×SAddr×SPage×SPage×Unit)=>((((0<=x_.1/\x_.1<=p.bh.length/\x_.1+askFrom a (p.bh.drop x_.1.toNat)=askFrom a p.bh)/\x_.2.1=z_.2.1)/\x_.2.2.1=z_.2.2.1)/\x_.2.2.2.1=z_.2.2.2.1)/\x_.2.2.2.2.1=z_.2.2.2.2.1,fun(x_:Int×SPage×SAddr×SPage×SPage×Unit)=>p.bh.length-x_.1.toNat⟩
def Ah5:=AlM.a AM<|Fct.p (KP [2,3,4,5,6] [24,41,57]) (fun⟨p,a,_⟩=>lv [(3,Bp p a)]) AlM.2 func213 (by
 rintro⟨(p:SPage),(a:SAddr),_⟩ hp;refine ho (let q5_:=List SModule;.cl fCopyPage (p,()) fun z2=>lpx (Bp p a) ((0:Int),(p,(a,(default,(z2.1,()))))) fun(y2:Int×SPage×SAddr×SPage×SPage×PUnit) bk2=>let q8_:Out:=.lf AM (y2.2.2.2.2.1,());let q7_:=inB y2.1 y2.2.1.bh.length;let q6_:=y2.2.1.bh.getD y2.1.toNat default;let q4_:=decide (y2.1<(y2.2.1.bh.length:Int));let q1_:=q6_.to.host==y2.2.2.1.host&&(q6_.to.path==y2.2.2.1.path&&true);let q0_:=(⟨y2.2.2.1,false,(0:Int),(⟨#[]⟩:ByteArray)⟩:SModule);let q3_:=WS.fn (y2.2.2.2.2.1.bh,y2.1,[q0_],());let q2_:=WS.pre (y2.2.2.2.2.1.bh,y2.1,[q0_],());.br q4_ (.ob q7_<|.cl AV (q6_.to,y2.2.2.1,()) fun(z3:Int×PUnit)=>.br (decide (z3.1<0)) (.ob (bk2 (w1 y2.1,(y2.2.1,(y2.2.2.1,(y2.2.2.2.1,(y2.2.2.2.2.1,()))))))<|.ok) (.br q4_ (.ob q7_<|.br q1_ q8_ (.ob q2_<|.lt _ q3_ fun z4=>.cl AE (({y2.2.2.2.2.1 with bh:=z4.1.1}:SPage),y2.1,()) fun z5=>.cl fCheckRequest (y2.2.1.bj,z5.1,()) fun(z6:Int×PUnit)=>.br (z6.1 != 1) (.ob (inB y2.1 z4.1.1.length)<|.ob (y2.1.toNat<z4.1.1.length)<|.lt q5_ (z4.1.1.modify y2.1.toNat fun z=>({z with done:=true}:SModule)) fun z7=>.ob (inB y2.1 z7.length)<|.ob (y2.1.toNat<z7.length)<|.lt q5_ (z7.modify y2.1.toNat fun z=>({z with code:=(2:Int)}:SModule)) fun z8=>.lf AM ({y2.2.2.2.2.1 with bh:=z8},())) (.lf AM ({y2.2.2.2.2.1 with bh:=z4.1.1},())))) (.ob q2_<|.lt _ q3_ fun z9=>.cl AE (({y2.2.2.2.2.1 with bh:=z9.1.1}:SPage),y2.1,()) fun z10=>.cl fCheckRequest (y2.2.1.bj,z10.1,()) fun(z11:Int×PUnit)=>.br (z11.1 != 1) (.ob (inB y2.1 z9.1.1.length)<|.ob (y2.1.toNat<z9.1.1.length)<|.lt q5_ (z9.1.1.modify y2.1.toNat fun z=>({z with done:=true}:SModule)) fun z12=>.ob (inB y2.1 z12.length)<|.ob (y2.1.toNat<z12.length)<|.lt q5_ (z12.modify y2.1.toNat fun z=>({z with code:=(2:Int)}:SModule)) fun z13=>.lf AM ({y2.2.2.2.2.1 with bh:=z13},())) (.lf AM ({y2.2.2.2.2.1 with bh:=z9.1.1},()))))) (.br q4_ (.ob q7_<|.br q1_ q8_ (.ob q2_<|.lt _ q3_ fun z14=>.cl AE (({y2.2.2.2.2.1 with bh:=z14.1.1}:SPage),y2.1,()) fun z15=>.cl fCheckRequest (y2.2.1.bj,z15.1,()) fun(z16:Int×PUnit)=>.br (z16.1 != 1) (.ob (inB y2.1 z14.1.1.length)<|.ob (y2.1.toNat<z14.1.1.length)<|.lt q5_ (z14.1.1.modify y2.1.toNat fun z=>({z with done:=true}:SModule)) fun z17=>.ob (inB y2.1 z17.length)<|.ob (y2.1.toNat<z17.length)<|.lt q5_ (z17.modify y2.1.toNat fun z=>({z with code:=(2:Int)}:SModule)) fun z18=>.lf AM ({y2.2.2.2.2.1 with bh:=z18},())) (.lf AM ({y2.2.2.2.2.1 with bh:=z14.1.1},())))) (.ob q2_<|.lt _ q3_ fun z19=>.cl AE (({y2.2.2.2.2.1 with bh:=z19.1.1}:SPage),y2.1,()) fun z20=>.cl fCheckRequest (y2.2.1.bj,z20.1,()) fun(z21:Int×PUnit)=>.br (z21.1 != 1) (.ob (inB y2.1 z19.1.1.length)<|.ob (y2.1.toNat<z19.1.1.length)<|.lt q5_ (z19.1.1.modify y2.1.toNat fun z=>({z with done:=true}:SModule)) fun z22=>.ob (inB y2.1 z22.length)<|.ob (y2.1.toNat<z22.length)<|.lt q5_ (z22.modify y2.1.toNat fun z=>({z with code:=(2:Int)}:SModule)) fun z23=>.lf AM ({y2.2.2.2.2.1 with bh:=z23},())) (.lf AM ({y2.2.2.2.2.1 with bh:=z19.1.1},()))))) ?_;repeat' first|(guard_target =~ Out.holds _ _;first|refine Ay (li:=Bp p a) ?_ fun(y2:Int×SPage×SAddr×SPage×SPage×PUnit) i2=>?_|refine lfY ?_|refine Ab (fun _=>?_) fun _=>?_|refine Af ?_ fun _=>?_|refine Aa ?_ fun _=>?_|refine Du ?_)|exact trivial
 all_goals
  have hl:p.bh.length<=1090000000000:=by have h1:szPage p<=1090000000000:=hp.1;have:=Ad Aq p.bh;simp only[szPage] at h1;omega
  have hpo:szPolicy p.bj<=1090000000000/\p.addr.host.size<=50000000000:=by have h1:szPage p<=1090000000000:=hp.1;have h2:p.addr.host.size<=4000000000:=hp.2.1;simp only[szPage,szAddr] at h1;omega
  try simp only[Az] at *
  try simp only[Bp,AM,fCheckRequest,AV,fCopyPage,WS,AE,std,Nat.reduceAdd,fCopyPage,AV,fCheckRequest,WS,AE] at *
 all_goals first|trivial|omega|exact⟨by omega,by omega,by simp⟩|skip
 all_goals try (obtain⟨⟨⟨⟨⟨a1,a2,a3⟩,e1⟩,e2⟩,e3⟩,e4⟩:=i2;simp only[e1,e2,e3,e4,DA,Qa9,Qb2] at *)
 all_goals
  have hi:y2.1.toNat<=p.bh.length:=by omega
  have hr:∀ q:SPage,q.bh=p.bh.take y2.1.toNat++[⟨a,false,0,⟨#[]⟩⟩]++p.bh.drop y2.1.toNat->q.addr=p.addr->modRequest q y2.1=⟨5,a,p.addr.host,⟨#[]⟩⟩:=fun q h1 h2=>by unfold modRequest;rw[h1,h2,Vp hi,AdY hi,Qa2 (by omega)]
  try simp only[hr,Ach _ hi,Vp hi,List.length_modify] at *
 all_goals first|trivial|omega|exact⟨by omega,by simp only[szRequest,szAddr] at *;show _+_+0<=_;omega⟩|skip
 all_goals first|(have e:=MP (a:=a) (l:=p.bh) (i:=y2.1.toNat) (by omega);first|rw[Qa2 (by omega)] at e|rw[Qa3 (by omega)] at e)|(have e:=K1 (a:=a) (l:=p.bh) (i:=y2.1.toNat) (by omega))
 all_goals first|(rw[Ah (by omega),show(y2.1+1).toNat=y2.1.toNat+1 by omega];simp only[Qe1];exact⟨⟨by omega,by omega,by omega⟩,by omega⟩)|skip
 all_goals have e5:askFrom a p.bh=y2.1.toNat:=by omega
 all_goals first|(rw[PQ e5 (by omega) (by assumption)];done)|(rw[Adc e5 (by omega) (by first|exact .inr (by assumption)|exact .inl (by omega)) _ (by first|exact O9 (by assumption)|exact O7 (by assumption))])|skip)
def addEntry (p:SPage) (to:ByteArray):SPage :=
 if(parseAddr to p.addr.host).2=true/\p.bg.length<20 then{ askModule p (parseAddr to p.addr.host).1 with bg:=p.bg++[(parseAddr to p.addr.host).1]} else p
theorem WC (p:SPage) (a:SAddr) (l:List SAddr):askModule { p with bg:=l } a={ askModule p a with bg:=l }:=by
 unfold askModule newMod;split<;>rfl
theorem Ky (p:SPage) (a:SAddr):(askModule p a).bg=p.bg:=by unfold askModule;split<;>rfl
def fAddEntry:Fct:=⟨[.v (.el .page),.v (.el .str)],[.el .page],fun(x_:SPage×ByteArray×Unit)=>szPage x_.1<=1050000000000/\x_.1.addr.host.size<=4000000000/\x_.2.1.size<=4000000000,fun(x_:SPage×ByteArray×Unit)=>(addEntry x_.1 x_.2.1,())⟩
def All:=Ah5.a fAddEntry<|Fct.o (KP [1,2,4,5,6,7] [23]) Ah5.2 func407 (by
 rintro⟨(p:SPage),(to:ByteArray),_⟩ hp;refine ho (let q0_:Out:=.cl fCopyPage (p,()) fun z3=>.lf fAddEntry (z3.1,());.cl AG (to,p.addr.host,()) fun z2=>.br (!z2.2.1) q0_ (.br (decide ((p.bg.length:Int)>=20)) q0_ (.cl AM (p,z2.1,()) fun z5=>.ob (True)<|.ob (BM (z5.1.bg.length+[z2.1].length) 32)<|.lf fAddEntry ({z5.1 with bg:=z5.1.bg++[z2.1]},())))) ?_;refine Af ?_ fun o1=>(Ab (fun h2=>Af ?_ fun o3=>(lfY ?_)) (fun h2=>Ab (fun h4=>Af ?_ fun o5=>(lfY ?_)) (fun h4=>Af ?_ fun o6=>(Aa trivial fun _=>Aa ?_ fun o7=>lfY ?_))))
 all_goals
  have hl:szL szAddr p.bg+1<=1050000000001:=by have h1:szPage p<=1050000000000:=hp.1;simp only[szPage] at h1;omega
  have hl2:=Ad szAddr p.bg;have hz:=Fj to p.addr.host;have hs:szPage { p with bg:=p.bg++[(parseAddr to p.addr.host).1]}<=szPage p+szAddr (parseAddr to p.addr.host).1+1:=by simp only[szPage,Dp,Ax,show szL szAddr []=0 from rfl];omega
  have ha:szAddr (parseAddr to p.addr.host).1<=16000000000:=by simp only[szAddr];have q1:p.addr.host.size<=4000000000:=hp.2.1;have q2:to.size<=4000000000:=hp.2.2;omega
  try simp only[Az] at *
  try simp only[fAddEntry,AM,fCopyPage,AG,std,Nat.reduceAdd,fCopyPage,AG,AM,WC,Ky] at *
 all_goals first|trivial|omega|skip
 all_goals unfold addEntry
 all_goals first|rw[Qa2 ⟨by assumption,by omega⟩]|rw[Qa3 (by rintro⟨q1,q2⟩;first|omega|(rw[show(parseAddr to p.addr.host).2=false by assumption] at q1;cases q1))])
def Aim:=All.a fAddEntry<|Fct.o (KP [1,2,4,5,6,7] [25]) All.2 func377 (by
 rintro⟨(p:SPage),(to:ByteArray),_⟩ hp;refine ho (.cl fCopyPage (p,()) fun z2=>let q0_:Out:=.lf fAddEntry (z2.1,());.cl AG (to,p.addr.host,()) fun z3=>.br (!z3.2.1) q0_ (.br (decide ((p.bg.length:Int)>=20)) q0_ (.ob (True)<|.ob (BM (z2.1.bg.length+[z3.1].length) 32)<|.cl AM (({z2.1 with bg:=z2.1.bg++[z3.1]}:SPage),z3.1,()) fun z4=>.lf fAddEntry (z4.1,())))) ?_;refine Af ?_ fun o1=>(Af ?_ fun o2=>(Ab (fun h3=>lfY ?_) (fun h3=>Ab (fun h4=>lfY ?_) (fun h4=>Aa trivial fun _=>Aa ?_ fun o5=>Af ?_ fun o6=>(lfY ?_)))))
 all_goals
  have hl:szL szAddr p.bg+1<=1050000000001:=by have h1:szPage p<=1050000000000:=hp.1;simp only[szPage] at h1;omega
  have hl2:=Ad szAddr p.bg;have hz:=Fj to p.addr.host;have hs:szPage { p with bg:=p.bg++[(parseAddr to p.addr.host).1]}<=szPage p+szAddr (parseAddr to p.addr.host).1+1:=by simp only[szPage,Dp,Ax,show szL szAddr []=0 from rfl];omega
  have ha:szAddr (parseAddr to p.addr.host).1<=16000000000:=by simp only[szAddr];have q1:p.addr.host.size<=4000000000:=hp.2.1;have q2:to.size<=4000000000:=hp.2.2;omega
  try simp only[Az] at *
  try simp only[fAddEntry,AM,fCopyPage,AG,std,Nat.reduceAdd,fCopyPage,AG,AM,WC,Ky] at *
 all_goals first|trivial|omega|skip
 all_goals unfold addEntry
 all_goals first|rw[Qa2 ⟨by assumption,by omega⟩]|rw[Qa3 (by rintro⟨q1,q2⟩;first|omega|(rw[show(parseAddr to p.addr.host).2=false by assumption] at q1;cases q1))])
def element (p:SPage) (t:SToken) (n:Int):SPage :=
 if t.name=⟨#[108,105,110,107]⟩/\(findAttr t.bo ⟨#[104,114,101,102]⟩).isSome=true then(addSlot p 2 ((findAttr t.bo ⟨#[104,114,101,102]⟩).getD ⟨#[]⟩) ((findAttr t.bo ⟨#[100,105,103,101,115,116]⟩).getD ⟨#[]⟩) n).1
 else if t.name=⟨#[105,109,103]⟩/\(findAttr t.bo ⟨#[115,114,99]⟩).isSome=true then(addSlot p 1 ((findAttr t.bo ⟨#[115,114,99]⟩).getD ⟨#[]⟩) ((findAttr t.bo ⟨#[100,105,103,101,115,116]⟩).getD ⟨#[]⟩) n).1
 else p
def Bo:GS:=⟨[.g (.el .page),.i 8 (.el .token),.l (.v (.el .int))],[.el .page],fun(x_:SPage×SToken×Int×Unit)=>szPage x_.1<=1050000000000/\x_.1.addr.host.size<=4000000000/\Aj x_.2.1<=4000000000,fun(x_:SPage×SToken×Int×Unit)=>((element x_.1 x_.2.1 x_.2.2.1,()),(()))⟩
def Alx:=Aim.G Bo<|GS.of (S:=Bo) (L:=fun _ _=>none) (kp:=(KP [2,3,4,6,7,9,10,11,12] [30,50])) Aim.2 func358 (by kernel_rfl) (by kernel_rfl) (by
 rintro⟨(p:SPage),(t:SToken),(n:Int),_⟩ hp;refine ho (let q4_:=GS.out Bo ((p,()),(()));let q3_:=(⟨#[115,114,99]⟩:ByteArray);let q1_:=t.name.toList==(⟨#[105,109,103]⟩:ByteArray).toList;.cl fFindAttr (t.bo,(⟨#[100,105,103,101,115,116]⟩:ByteArray),()) fun z2=>let q0_:Out:=.cl fFindAttr (t.bo,q3_,()) fun z7=>.br (z7.2.1) (.br q1_ (.cl fAddSlot (p,(1:Int),z7.1,z2.1,n,()) fun(z8:SPage×Int×PUnit)=>GS.out Bo ((z8.1,()),(()))) q4_) q4_;.cl fFindAttr (t.bo,(⟨#[104,114,101,102]⟩:ByteArray),()) fun z3=>.br (z3.2.1) (.br (t.name.toList==(⟨#[108,105,110,107]⟩:ByteArray).toList) (.cl fAddSlot (p,(2:Int),z3.1,z2.1,n,()) fun(z4:SPage×Int×PUnit)=>let q2_:=GS.out Bo ((z4.1,()),(()));.cl fFindAttr (t.bo,q3_,()) fun z5=>.br (z5.2.1) (.br q1_ (.cl fAddSlot (z4.1,(1:Int),z5.1,z2.1,n,()) fun(z6:SPage×Int×PUnit)=>GS.out Bo ((z6.1,()),(()))) q2_) q2_) q0_) q0_) ?_;repeat' (guard_target =~ Out.holds _ _;first|refine GS.leafY ?_|refine Ab (fun _=>?_) fun _=>?_|refine Af ?_ fun _=>?_)
 all_goals
  have h1:=Bz t.bo ⟨#[104,114,101,102]⟩;have h2:=Bz t.bo ⟨#[115,114,99]⟩;have h3:=Bz t.bo ⟨#[100,105,103,101,115,116]⟩;have h4:szL A3 t.bo<=4000000000/\t.bo.length<=4000000000:=by have q:=hp.2.2;have:=Ad A3 t.bo;simp only[Aj] at q;omega
  try simp only[Az] at *
  try simp only[fAddSlot,Bo,fFindAttr,std,Nat.reduceAdd,element,fFindAttr,fAddSlot] at *
  try simp(disch:=omega) only[wrapId',toNat1] at *
  try simp(disch:=omega) only[Qa2,Qa3]
 all_goals first|trivial|omega|grind[wrapId',toNat1,drop_cons,drop_end,good_len,maxLen,element,fFindAttr,fAddSlot])
def script (p:SPage) (n:Int):SPage :=
 if(findAttr (p.ba.bi.getD n.toNat default).bo ⟨#[115,114,99]⟩).isSome=false then(if allowsInline p.bj ((findAttr (p.ba.bi.getD n.toNat default).bo ⟨#[110,111,110,99,101]⟩).getD ⟨#[]⟩)=true then{ p with inline:=n } else p)
 else if(findAttr (p.ba.bi.getD n.toNat default).bo ⟨#[107,105,110,100]⟩).getD ⟨#[]⟩=⟨#[100,101,102,101,114]⟩ then(addSlot p 4 ((findAttr (p.ba.bi.getD n.toNat default).bo ⟨#[115,114,99]⟩).getD ⟨#[]⟩) ((findAttr (p.ba.bi.getD n.toNat default).bo ⟨#[100,105,103,101,115,116]⟩).getD ⟨#[]⟩) n).1
 else if(findAttr (p.ba.bi.getD n.toNat default).bo ⟨#[107,105,110,100]⟩).getD ⟨#[]⟩=⟨#[109,111,100,117,108,101]⟩ then addEntry p ((findAttr (p.ba.bi.getD n.toNat default).bo ⟨#[115,114,99]⟩).getD ⟨#[]⟩)
 else{ (addSlot p 3 ((findAttr (p.ba.bi.getD n.toNat default).bo ⟨#[115,114,99]⟩).getD ⟨#[]⟩) ((findAttr (p.ba.bi.getD n.toNat default).bo ⟨#[100,105,103,101,115,116]⟩).getD ⟨#[]⟩) n).1 with block:=(addSlot p 3 ((findAttr (p.ba.bi.getD n.toNat default).bo ⟨#[115,114,99]⟩).getD ⟨#[]⟩) ((findAttr (p.ba.bi.getD n.toNat default).bo ⟨#[100,105,103,101,115,116]⟩).getD ⟨#[]⟩) n).2+1 }
theorem DO (p:SPage):szL Aj p.bn+szBuilder p.ba+szL AF p.bf+szL Aq p.bh+szL szAddr p.bg+szL szAddr p.ran+szL Ac p.log+szPolicy p.bj+szAddr p.addr<=szPage p:=by simp only[szPage];omega
theorem MI (p:SPage) (m:Int) (to d:ByteArray) (n:Int) : -1<=(addSlot p m to d n).2/\(addSlot p m to d n).2<=20:=by
 unfold addSlot;split
 ·dsimp only;omega
 ·dsimp only;omega
theorem I2 (l:List SNode) (n:Nat) (h:n<l.length):szL A3 (l.getD n default).bo<=szL szNode l:=by
 have:=Dx szNode (l:=l) h;simp only[szNode] at *;omega
def A9:GS:=⟨[.g (.el .page),.l (.v (.el .int))],[.el .page],fun(x_:SPage×Int×Unit)=>szPage x_.1<=1050000000000/\x_.1.addr.host.size<=4000000000/\szL szNode x_.1.ba.bi<=4000000000/\0<=x_.2.1/\x_.2.1<x_.1.ba.bi.length,fun(x_:SPage×Int×Unit)=>((script x_.1 x_.2.1,()),(()))⟩
def Aje:=Alx.G A9<|GS.of (S:=A9) (L:=fun _ _=>none) (kp:=(KP [1,2,4,5,6,7,8,10,12,14,15] [55,61,64,75])) Alx.2 func359 (by kernel_rfl) (by kernel_rfl) (by
 rintro⟨(p:SPage),(n:Int),_⟩ hp;refine ho (let q0_:=p.ba.bi.getD (Int.toNat n) default;.ob (inB n p.ba.bi.length)<|.ob (Int.toNat n<p.ba.bi.length)<|.cl fFindAttr (q0_.bo,(⟨#[115,114,99]⟩:ByteArray),()) fun z2=>.cl fFindAttr (q0_.bo,(⟨#[107,105,110,100]⟩:ByteArray),()) fun z3=>.cl fFindAttr (q0_.bo,(⟨#[100,105,103,101,115,116]⟩:ByteArray),()) fun z4=>.cl fFindAttr (q0_.bo,(⟨#[110,111,110,99,101]⟩:ByteArray),()) fun z5=>.br (!z2.2.1) (.cl fAllowsInline (p.bj,z5.1,()) fun z6=>.br (z6.1) (GS.out A9 (({p with inline:=n},()),(()))) (GS.out A9 ((p,()),(())))) (.br (z3.1.toList==(⟨#[100,101,102,101,114]⟩:ByteArray).toList) (.cl fAddSlot (p,(4:Int),z2.1,z4.1,n,()) fun(z7:SPage×Int×PUnit)=>GS.out A9 ((z7.1,()),(()))) (.br (z3.1.toList==(⟨#[109,111,100,117,108,101]⟩:ByteArray).toList) (.cl fAddEntry (p,z2.1,()) fun z8=>GS.out A9 ((z8.1,()),(()))) (.cl fAddSlot (p,(3:Int),z2.1,z4.1,n,()) fun(z9:SPage×Int×PUnit)=>GS.out A9 (({z9.1 with block:=w1 z9.2.1},()),(())))))) ?_;repeat' first|(guard_target =~ Out.holds _ _;first|refine GS.leafY ?_|refine Ab (fun _=>?_) fun _=>?_|refine Af ?_ fun _=>?_|refine Aa ?_ fun _=>?_)|exact trivial
 all_goals
  have hn:=I2 p.ba.bi n.toNat (by have q1:0<=n:=hp.2.2.2.1;have q2:n<p.ba.bi.length:=hp.2.2.2.2;omega);have hn2:=Ad A3 (p.ba.bi.getD n.toNat default).bo
 all_goals generalize hat:(p.ba.bi.getD n.toNat default).bo=at_ at *
 all_goals
  have h1:=Bz at_ ⟨#[110,111,110,99,101]⟩;have h2:=Bz at_ ⟨#[115,114,99]⟩;have h3:=Bz at_ ⟨#[100,105,103,101,115,116]⟩;have h4:=fun m to d=>MI p m to d n
  try simp only[Az] at *
  try simp only[fAddEntry,fAddSlot,fAllowsInline,fFindAttr,A9,std,Nat.reduceAdd,script,fFindAttr,fAddSlot,fAllowsInline,fAddEntry] at *
  try simp(disch:=omega) only[wrapId',toNat1] at *
  try simp(disch:=omega) only[Qa2,Qa3]
 all_goals first|trivial|omega|grind[wrapId',toNat1,drop_cons,drop_end,good_len,maxLen,script,fFindAttr,fAddSlot,fAllowsInline,fAddEntry])
def Ahi:=Aje.G Bo<|GS.of (S:=Bo) (L:=fun _ _=>none) (kp:=(KP [2,3,4,6,7,9,10,11,12] [31,46])) Aje.2 func328 (by kernel_rfl) (by kernel_rfl) (by
 rintro⟨(p:SPage),(t:SToken),(n:Int),_⟩ hp;refine ho (let q1_:=GS.out Bo ((p,()),(()));.cl fFindAttr (t.bo,(⟨#[100,105,103,101,115,116]⟩:ByteArray),()) fun z2=>.cl fFindAttr (t.bo,(⟨#[104,114,101,102]⟩:ByteArray),()) fun z3=>.cl fFindAttr (t.bo,(⟨#[115,114,99]⟩:ByteArray),()) fun z4=>let q0_:Out:=.br (t.name.toList==(⟨#[105,109,103]⟩:ByteArray).toList) (.br (z4.2.1) (.cl fAddSlot (p,(1:Int),z4.1,z2.1,n,()) fun(z6:SPage×Int×PUnit)=>GS.out Bo ((z6.1,()),(()))) q1_) q1_;.br (t.name.toList==(⟨#[108,105,110,107]⟩:ByteArray).toList) (.br (z3.2.1) (.cl fAddSlot (p,(2:Int),z3.1,z2.1,n,()) fun(z5:SPage×Int×PUnit)=>GS.out Bo ((z5.1,()),(()))) q0_) q0_) ?_;repeat' (guard_target =~ Out.holds _ _;first|refine GS.leafY ?_|refine Ab (fun _=>?_) fun _=>?_|refine Af ?_ fun _=>?_)
 all_goals
  have h1:=Bz t.bo ⟨#[104,114,101,102]⟩;have h2:=Bz t.bo ⟨#[115,114,99]⟩;have h3:=Bz t.bo ⟨#[100,105,103,101,115,116]⟩;have h4:szL A3 t.bo<=4000000000/\t.bo.length<=4000000000:=by have q:=hp.2.2;have:=Ad A3 t.bo;simp only[Aj] at q;omega
  try simp only[Az] at *
  try simp only[fAddSlot,Bo,fFindAttr,std,Nat.reduceAdd,element,fFindAttr,fAddSlot] at *
  try simp(disch:=omega) only[wrapId',toNat1] at *
  try simp(disch:=omega) only[Qa2,Qa3]
 all_goals first|trivial|omega|grind[wrapId',toNat1,drop_cons,drop_end,good_len,maxLen,element,fFindAttr,fAddSlot])
def Ah3:=Ahi.G A9<|GS.of (S:=A9) (L:=fun _ _=>none) (kp:=(KP [1,2,4,5,6,8,10,12,13,14] [53,59,62,73])) Ahi.2 func329 (by kernel_rfl) (by kernel_rfl) (by
 rintro⟨(p:SPage),(n:Int),_⟩ hp;refine ho (let q0_:=p.ba.bi.getD (Int.toNat n) default;.ob (inB n p.ba.bi.length)<|.ob (Int.toNat n<p.ba.bi.length)<|.cl fFindAttr (q0_.bo,(⟨#[100,105,103,101,115,116]⟩:ByteArray),()) fun z2=>.cl fFindAttr (q0_.bo,(⟨#[107,105,110,100]⟩:ByteArray),()) fun z3=>.cl fFindAttr (q0_.bo,(⟨#[110,111,110,99,101]⟩:ByteArray),()) fun z4=>.cl fFindAttr (q0_.bo,(⟨#[115,114,99]⟩:ByteArray),()) fun z5=>.br (!z5.2.1) (.cl fAllowsInline (p.bj,z4.1,()) fun z6=>.br (z6.1) (GS.out A9 (({p with inline:=n},()),(()))) (GS.out A9 ((p,()),(())))) (.br (z3.1.toList==(⟨#[100,101,102,101,114]⟩:ByteArray).toList) (.cl fAddSlot (p,(4:Int),z5.1,z2.1,n,()) fun(z7:SPage×Int×PUnit)=>GS.out A9 ((z7.1,()),(()))) (.br (z3.1.toList==(⟨#[109,111,100,117,108,101]⟩:ByteArray).toList) (.cl fAddEntry (p,z5.1,()) fun z8=>GS.out A9 ((z8.1,()),(()))) (.cl fAddSlot (p,(3:Int),z5.1,z2.1,n,()) fun(z9:SPage×Int×PUnit)=>GS.out A9 (({z9.1 with block:=w1 z9.2.1},()),(())))))) ?_;refine Aa ?_ fun o1=>Aa ?_ fun o2=>Af ?_ fun o3=>(Af ?_ fun o4=>(Af ?_ fun o5=>(Af ?_ fun o6=>(Ab (fun h7=>Af trivial fun _=>(Ab (fun h8=>GS.leafY ?_) (fun h8=>GS.leafY ?_))) (fun h7=>Ab (fun h9=>Af ?_ fun o10=>(GS.leafY ?_)) (fun h9=>Ab (fun h11=>Af ?_ fun o12=>(GS.leafY ?_)) (fun h11=>Af ?_ fun o13=>(GS.leafY ?_))))))))
 all_goals
  have hn:=I2 p.ba.bi n.toNat (by have q1:0<=n:=hp.2.2.2.1;have q2:n<p.ba.bi.length:=hp.2.2.2.2;omega);have hn2:=Ad A3 (p.ba.bi.getD n.toNat default).bo
 all_goals generalize hat:(p.ba.bi.getD n.toNat default).bo=at_ at *
 all_goals
  have h1:=Bz at_ ⟨#[110,111,110,99,101]⟩;have h2:=Bz at_ ⟨#[115,114,99]⟩;have h3:=Bz at_ ⟨#[100,105,103,101,115,116]⟩;have h4:=fun m to d=>MI p m to d n
  try simp only[Az] at *
  try simp only[fAddEntry,fAddSlot,fAllowsInline,fFindAttr,A9,std,Nat.reduceAdd,script,fFindAttr,fAddSlot,fAllowsInline,fAddEntry] at *
  try simp(disch:=omega) only[wrapId',toNat1] at *
  try simp(disch:=omega) only[Qa2,Qa3]
 all_goals first|trivial|omega|grind[wrapId',toNat1,drop_cons,drop_end,good_len,maxLen,script,fFindAttr,fAddSlot,fAllowsInline,fAddEntry])
def isScript (p:SPage) (t:SToken):Bool:=decide (t.kind=2)&&(decide (t.name=⟨#[115,99,114,105,112,116]⟩)&&(decide (0<p.ba.bl.length/\1<=lastOpen p.ba/\lastOpen p.ba<p.ba.bi.length)&&decide ((p.ba.bi.getD (lastOpen p.ba).toNat default).name=⟨#[115,99,114,105,112,116]⟩)))
def taken (p:SPage) (t:SToken):SPage:={ p with bn:=p.bn.drop 1,ba:=(addToken p.ba t).1 }
def takeTok (p:SPage) (t:SToken):SPage :=
 if t.kind=1/\0<=(addToken p.ba t).2 then element (taken p t) t (addToken p.ba t).2
 else if isScript p t=true then script (taken p t) (lastOpen p.ba)
 else taken p t
def takeToken (p:SPage):SPage×Bool:=if p.bn.length=0\/p.block≠0\/p.inline≠0 then(p,false) else(takeTok p (p.bn.getD 0 default),true)
theorem Adt {l:List SToken}:cut l 1 (l.length-1)=l.drop 1:=by
 unfold cut;rw[Qb6 (by simp)]
theorem S7 (p:SPage) (t:SToken):(⟨p.addr,p.bj,p.tok,cut p.bn 1 (p.bn.length-1),p.ended,(addToken p.ba t).1,p.bf,p.bh,p.bg,p.block,p.inline,p.bm,p.bq,p.ran,p.log,p.loaded⟩:SPage)=taken p t:=by rw[Adt];rfl
theorem Iz (b:SBuilder) (n:ByteArray):∀ k,k<=b.bl.length->(closeN b n k).length<=b.bl.length
 | 0,_=>Qb0 _
 | 1,_=>Qb0 _
 | m+2,h=>by
  rw[closeN];split
  ·rw[Qc5];omega
  ·exact Iz b n (m+1) (by omega)
theorem HF (b:SBuilder) (t:SToken):szL szNode (addToken b t).1.bi<=szL szNode b.bi+Aj t+1/\(addToken b t).1.bl.length<=b.bl.length+1/\(t.kind=2->(addToken b t).1.bi=b.bi):=by
 have h0:szL szNode []=0:=rfl;have h2:szL A3 []=0:=rfl;have h3:ByteArray.size ⟨#[]⟩=0:=rfl;unfold addToken;split
 ·have:=Iz b t.name _ (Qb0 _);exact⟨by show szL szNode b.bi<=_;omega,by show(closeN b t.name b.bl.length).length<=_;omega,fun _=>rfl⟩
 ·split
  ·split
   ·refine⟨?_,?_,fun h=>absurd h (by omega)⟩
    ·dsimp only;rw[Dp,Ax,h0];simp only[szNode,Aj,h3];omega
    ·dsimp only;split
     ·omega
     ·simp
   ·refine⟨?_,?_,fun h=>absurd h (by omega)⟩
    ·dsimp only;rw[Dp,Ax,h0];simp only[szNode,Aj,h3,h2];omega
    ·exact Nat.le_succ _
  ·exact⟨by dsimp only;omega,Nat.le_succ _,fun _=>rfl⟩
theorem N5 (p:SPage) (h:0<p.bn.length):szPage (taken p (p.bn.getD 0 default))<=szPage p+2/\Aj (p.bn.getD 0 default)+1+szL Aj (p.bn.drop 1)=szL Aj p.bn:=by
 have h1:=KQ Aj h;rw[Qf0,Qd4] at h1;have h2:=HF p.ba (p.bn.getD 0 default);refine⟨?_,h1.symm⟩;simp only[szPage,taken,szBuilder];omega
theorem Ju {p:SPage} {t:SToken} (h1:t.kind=2) (h2:t.name=⟨#[115,99,114,105,112,116]⟩) (h3:0<p.ba.bl.length) (h4:1<=lastOpen p.ba) (h5:lastOpen p.ba<p.ba.bi.length) (h6:(p.ba.bi.getD (lastOpen p.ba).toNat default).name=⟨#[115,99,114,105,112,116]⟩):isScript p t=true:=by
 unfold isScript;rw[Qf3 h1,Qf3 h2,Qf3 ⟨h3,h4,h5⟩,Qf3 h6];rfl
theorem KL {p:SPage} {t:SToken} (h:¬ t.kind=2\/¬ t.name=⟨#[115,99,114,105,112,116]⟩\/¬ (0<p.ba.bl.length/\1<=lastOpen p.ba/\lastOpen p.ba<p.ba.bi.length)\/¬ (p.ba.bi.getD (lastOpen p.ba).toNat default).name=⟨#[115,99,114,105,112,116]⟩):¬ isScript p t=true:=by
 unfold isScript;simp only[Qa1,Qa9];rintro⟨q1,q2,q3,q4⟩;rcases h with h|h|h|h
 ·exact h q1
 ·exact h q2
 ·exact h q3
 ·exact h q4
theorem Mt {p:SPage} {t:SToken} (h1:t.kind=1) (h2:0<=(addToken p.ba t).2):takeTok p t=element (taken p t) t (addToken p.ba t).2:=by unfold takeTok;rw[Qa2 ⟨h1,h2⟩]
theorem MJ {p:SPage} {t:SToken} (h1:t.kind=2) (h2:isScript p t=true):takeTok p t=script (taken p t) (lastOpen p.ba):=by unfold takeTok;rw[Qa3 (by omega),Qa2 h2]
theorem Mw {p:SPage} {t:SToken} (h1:¬ t.kind=1\/(addToken p.ba t).2<0) (h2:¬ isScript p t=true):takeTok p t=taken p t:=by unfold takeTok;rw[Qa3 (by omega),Qa3 h2]
def okTok (p:SPage):Prop:=szPage p<=1000000000000/\p.addr.host.size<=4000000000/\(∀ i,i<p.bn.length->Aj (p.bn.getD i default)<=1000000000)/\szL szNode p.ba.bi<=1000000000/\p.ba.bl.length<=1000000000
def AL:Fct:=⟨[.v (.el .page)],[.el .page,.el .bool],fun(x_:SPage×Unit)=>okTok x_.1,fun(x_:SPage×Unit)=>((takeToken x_.1).1,(takeToken x_.1).2,())⟩
def Akm:=Ah3.a AL<|Fct.o (KP [1,2,3,4,5,6,7,8] [24,38,64,95]) Ah3.2 func306 (by
 rintro⟨(p:SPage),_⟩ hp;refine ho (let q18_:=(p.ba.bl.length:Int);let q8_:=(p.ba.bi.length:Int);let q21_:=q8_-(1:Int);let q20_:=(0:Int)<=(-1:Int)/\(-1:Int)<q8_;let q6_:=(⟨#[115,99,114,105,112,116]⟩:ByteArray);let q19_:=(p.ba.bi.getD 0 default).name.toList==q6_.toList;let q2_:=q18_-(1:Int);let q13_:=0<=p.ba.bl.getD (wr q2_).toNat default/\p.ba.bl.getD (wr q2_).toNat default<q8_;let q12_:=(p.ba.bi.getD (p.ba.bl.getD (wr q2_).toNat default).toNat default).name.toList==q6_.toList;.cl fCopyPage (p,()) fun z2=>let q23_:=(z2.1.bn.length:Int);let q17_:Out:=.lf AL (z2.1,false,());let q7_:=z2.1.bn.getD 0 default;let q22_:=q7_.kind==2;let q16_:=q7_.name.toList==q6_.toList;let q3_:=z2.1.bn.length-1;let q11_:=1+q3_<=z2.1.bn.length;.br ((p.bn.length:Int)==0) q17_ (.br (p.block != 0) q17_ (.br (p.inline != 0) q17_ (.ob ((0:Int)<=(0:Int)/\(0:Int)<q23_)<|.ob (0<z2.1.bn.length)<|.ob ((0:Int)<=(1:Int)/\(1:Int)<=q23_)<|.br (decide (q18_>0)) (.ob (0<=wr q2_/\wr q2_<q18_)<|.cl AU (p.ba,z2.1.bn.getD 0 default,()) fun(z3:SBuilder×Int×PUnit)=>let q10_:=({z2.1 with bn:=cut z2.1.bn 1 q3_,ba:=z3.1}:SPage);let q5_:Out:=.ob q11_<|.lf AL ({z2.1 with bn:=cut z2.1.bn 1 q3_,ba:=z3.1},true,());let q0_:Out:=.br q22_ (.br q16_ (.cl fInRange (p.ba.bl.getD (wr q2_).toNat default,(1:Int),wr q21_,()) fun z7=>.br (z7.1) (.ob q13_<|.br q12_ (.ob q11_<|.ob (A9.pre (q10_,p.ba.bl.getD (wr q2_).toNat default,()))<|.lt _ (A9.fn (q10_,p.ba.bl.getD (wr q2_).toNat default,())) fun z8=>.lf AL (z8.1.1,true,())) q5_) q5_) q5_) q5_;.br (q7_.kind==1) (.br (decide (z3.2.1>=0)) (.ob q11_<|.ob (Bo.pre (q10_,z2.1.bn.getD 0 default,z3.2.1,()))<|.lt _ (Bo.fn (q10_,z2.1.bn.getD 0 default,z3.2.1,())) fun z4=>let q15_:Out:=.lf AL (z4.1.1,true,());.br q22_ (.br q16_ (.cl fInRange (p.ba.bl.getD (wr q2_).toNat default,(1:Int),wr q21_,()) fun z5=>.br (z5.1) (.ob q13_<|.br q12_ (.ob (A9.pre (z4.1.1,p.ba.bl.getD (wr q2_).toNat default,()))<|.lt _ (A9.fn (z4.1.1,p.ba.bl.getD (wr q2_).toNat default,())) fun z6=>.lf AL (z6.1.1,true,())) q15_) q15_) q15_) q15_) q0_) q0_) (.cl AU (p.ba,z2.1.bn.getD 0 default,()) fun(z11:SBuilder×Int×PUnit)=>let q9_:=({z2.1 with bn:=cut z2.1.bn 1 q3_,ba:=z11.1}:SPage);let q4_:Out:=.ob q11_<|.lf AL ({z2.1 with bn:=cut z2.1.bn 1 q3_,ba:=z11.1},true,());let q1_:Out:=.br q22_ (.br q16_ (.cl fInRange ((-1:Int),(1:Int),wr q21_,()) fun z15=>.br (z15.1) (.ob q20_<|.br q19_ (.ob q11_<|.ob (A9.pre (q9_,(-1:Int),()))<|.lt _ (A9.fn (q9_,(-1:Int),())) fun z16=>.lf AL (z16.1.1,true,())) q4_) q4_) q4_) q4_;.br (q7_.kind==1) (.br (decide (z11.2.1>=0)) (.ob q11_<|.ob (Bo.pre (q9_,z2.1.bn.getD 0 default,z11.2.1,()))<|.lt _ (Bo.fn (q9_,z2.1.bn.getD 0 default,z11.2.1,())) fun z12=>let q14_:Out:=.lf AL (z12.1.1,true,());.br q22_ (.br q16_ (.cl fInRange ((-1:Int),(1:Int),wr q21_,()) fun z13=>.br (z13.1) (.ob q20_<|.br q19_ (.ob (A9.pre (z12.1.1,(-1:Int),()))<|.lt _ (A9.fn (z12.1.1,(-1:Int),())) fun z14=>.lf AL (z14.1.1,true,())) q14_) q14_) q14_) q14_) q1_) q1_))))) ?_;repeat' first|(guard_target =~ Out.holds _ _;first|refine lfY ?_|refine Ab (fun _=>?_) fun _=>?_|refine Af ?_ fun _=>?_|refine Aa ?_ fun _=>?_|refine Du ?_)|exact trivial
 all_goals have hpp:=DO p
 all_goals obtain⟨hp1,hp2,hp3,hp4,hp7⟩:=(show okTok p from hp)
 all_goals
  have hl1:=Ad szNode p.ba.bi;have hl2:szBuilder p.ba<=2000000000:=by(unfold szBuilder;omega)
  try simp only[Az] at *
  try simp only[AU,fCopyPage,Bo,fInRange,A9,AL,std,Nat.reduceAdd,fCopyPage,AU,fInRange,inRange,Bo,A9] at *
 all_goals first|trivial|omega|(unfold takeToken;(first|rw[Qa2 (by exact .inl (by omega))]|rw[Qa2 (by exact .inr (.inl (by assumption)))]|rw[Qa2 (by exact .inr (.inr (by assumption)))]);exact⟨rfl,rfl⟩)|skip
 all_goals
  have htz:=N5 p (by omega);have ht0:=hp3 0 (by omega);have haz:=HF p.ba (p.bn.getD 0 default);try simp only[Ah (show -9223372036854775808<=(p.ba.bl.length:Int)-1/\(p.ba.bl.length:Int)-1<=9223372036854775807 by omega),Ah (show -9223372036854775808<=(p.ba.bi.length:Int)-1/\(p.ba.bi.length:Int)-1<=9223372036854775807 by omega),FT,S7] at *
 all_goals first|trivial|omega|skip
 all_goals try rw[show takeToken p=(takeTok p (p.bn.getD 0 default),true) by(unfold takeToken;rw[Qa3 (by omega)])]
 all_goals generalize p.bn.getD 0 default=t at *
 all_goals try simp only[show(taken p t).addr=p.addr from rfl,show(taken p t).ba=(addToken p.ba t).1 from rfl] at *
 all_goals first|trivial|omega|skip
 all_goals try simp only[Qa1,Qe7,Qa9,Qb2,Qe1] at *
 all_goals first|trivial|omega|skip
 all_goals try (have hnn:(addToken p.ba t).1.bi=p.ba.bi:=haz.2.2 (by assumption);rw[hnn])
 all_goals first|trivial|omega|skip
 all_goals first|rw[Mt (by assumption) (by omega)]|rw[MJ (by assumption) (Ju (by assumption) (by assumption) (by omega) (by omega) (by omega) (by assumption))]|rw[Mw (by first|exact .inl (by assumption)|exact .inr (by omega)) (KL (by first|exact .inl (by omega)|exact .inr (.inl (by assumption))|exact .inr (.inr (.inl (by omega)))|exact .inr (.inr (.inr (by assumption)))))])
def AiN:=Akm.a AL<|Fct.o (KP [1,2,3,4,5,6,7,8,9,10] [26,51,78,95,101]) Akm.2 func276 (by
 rintro⟨(p:SPage),_⟩ hp;refine ho (let q14_:=(p.ba.bi.length:Int);let q13_:=decide ((-1:Int)>=(1:Int));let q12_:=(⟨#[115,99,114,105,112,116]⟩:ByteArray);let q11_:=(p.ba.bl.length:Int);let q3_:=q11_-(1:Int);let q8_:=decide (p.ba.bl.getD (wr q3_).toNat default>=1);.cl fCopyPage (p,()) fun z2=>let q15_:=(z2.1.bn.length:Int);let q10_:Out:=.lf AL (z2.1,false,());let q9_:=z2.1.bn.getD 0 default;let q4_:=z2.1.bn.length-1;let q7_:=1+q4_<=z2.1.bn.length;let q0_:Out:=.cl AU (z2.1.ba,z2.1.bn.getD 0 default,()) fun(z8:SBuilder×Int×PUnit)=>let q5_:=({z2.1 with bn:=cut z2.1.bn 1 q4_,ba:=z8.1}:SPage);let q2_:Out:=.br q13_ (.ob q7_<|.ob (A9.pre (q5_,(-1:Int),()))<|.lt _ (A9.fn (q5_,(-1:Int),())) fun z11=>.lf AL (z11.1.1,true,())) (.ob q7_<|.lf AL ({z2.1 with bn:=cut z2.1.bn 1 q4_,ba:=z8.1},true,()));.br (decide (z8.2.1>=0)) (.br (q9_.kind==1) (.ob q7_<|.ob (Bo.pre (q5_,z2.1.bn.getD 0 default,z8.2.1,()))<|.lt _ (Bo.fn (q5_,z2.1.bn.getD 0 default,z8.2.1,())) fun z9=>.br q13_ (.ob (A9.pre (z9.1.1,(-1:Int),()))<|.lt _ (A9.fn (z9.1.1,(-1:Int),())) fun z10=>.lf AL (z10.1.1,true,())) (.lf AL (z9.1.1,true,()))) q2_) q2_;.br ((p.bn.length:Int)==0) q10_ (.br (p.block != 0) q10_ (.br (p.inline != 0) q10_ (.ob ((0:Int)<=(0:Int)/\(0:Int)<q15_)<|.ob (0<z2.1.bn.length)<|.ob ((0:Int)<=(1:Int)/\(1:Int)<=q15_)<|.br (q9_.kind==2) (.br (q9_.name.toList==q12_.toList) (.br (decide (q11_>0)) (.ob (0<=wr q3_/\wr q3_<q11_)<|.br q8_ (.br (decide (p.ba.bl.getD (wr q3_).toNat default<q14_)) (.ob (0<=p.ba.bl.getD (wr q3_).toNat default/\p.ba.bl.getD (wr q3_).toNat default<q14_)<|.br ((p.ba.bi.getD (p.ba.bl.getD (wr q3_).toNat default).toNat default).name.toList==q12_.toList) (.cl AU (z2.1.ba,z2.1.bn.getD 0 default,()) fun(z3:SBuilder×Int×PUnit)=>let q6_:=({z2.1 with bn:=cut z2.1.bn 1 q4_,ba:=z3.1}:SPage);let q1_:Out:=.br q8_ (.ob q7_<|.ob (A9.pre (q6_,p.ba.bl.getD (wr q3_).toNat default,()))<|.lt _ (A9.fn (q6_,p.ba.bl.getD (wr q3_).toNat default,())) fun z6=>.lf AL (z6.1.1,true,())) (.ob q7_<|.lf AL ({z2.1 with bn:=cut z2.1.bn 1 q4_,ba:=z3.1},true,()));.br (decide (z3.2.1>=0)) (.br (q9_.kind==1) (.ob q7_<|.ob (Bo.pre (q6_,z2.1.bn.getD 0 default,z3.2.1,()))<|.lt _ (Bo.fn (q6_,z2.1.bn.getD 0 default,z3.2.1,())) fun z4=>.br q8_ (.ob (A9.pre (z4.1.1,p.ba.bl.getD (wr q3_).toNat default,()))<|.lt _ (A9.fn (z4.1.1,p.ba.bl.getD (wr q3_).toNat default,())) fun z5=>.lf AL (z5.1.1,true,())) (.lf AL (z4.1.1,true,()))) q1_) q1_) q0_) q0_) q0_) q0_) q0_) q0_)))) ?_;refine Af ?_ fun o1=>(Ab (fun h2=>lfY ?_) (fun h2=>Ab (fun h3=>lfY ?_) (fun h3=>Ab (fun h4=>lfY ?_) (fun h4=>Aa ?_ fun o5=>Aa ?_ fun o6=>Aa ?_ fun o7=>Ab (fun h8=>Ab (fun h9=>Ab (fun h10=>Aa ?_ fun o11=>Ab (fun h12=>Ab (fun h13=>Aa ?_ fun o14=>Ab (fun h15=>Af ?_ fun o16=>(Ab (fun h17=>Ab (fun h18=>Aa ?_ fun o19=>Aa ?_ fun o20=>Du (Ab (fun h21=>Aa ?_ fun o22=>Du (lfY ?_)) (fun h21=>lfY ?_))) (fun h18=>Ab (fun h23=>Aa ?_ fun o24=>Aa ?_ fun o25=>Du (lfY ?_)) (fun h23=>Aa ?_ fun o26=>lfY ?_))) (fun h17=>Ab (fun h27=>Aa ?_ fun o28=>Aa ?_ fun o29=>Du (lfY ?_)) (fun h27=>Aa ?_ fun o30=>lfY ?_)))) (fun h15=>Af ?_ fun o31=>(Ab (fun h32=>Ab (fun h33=>Aa ?_ fun o34=>Aa ?_ fun o35=>Du (Ab (fun h36=>Aa ?_ fun o37=>Du (lfY ?_)) (fun h36=>lfY ?_))) (fun h33=>Ab (fun h38=>Aa ?_ fun o39=>Aa ?_ fun o40=>Du (lfY ?_)) (fun h38=>Aa ?_ fun o41=>lfY ?_))) (fun h32=>Ab (fun h42=>Aa ?_ fun o43=>Aa ?_ fun o44=>Du (lfY ?_)) (fun h42=>Aa ?_ fun o45=>lfY ?_))))) (fun h13=>Af ?_ fun o46=>(Ab (fun h47=>Ab (fun h48=>Aa ?_ fun o49=>Aa ?_ fun o50=>Du (Ab (fun h51=>Aa ?_ fun o52=>Du (lfY ?_)) (fun h51=>lfY ?_))) (fun h48=>Ab (fun h53=>Aa ?_ fun o54=>Aa ?_ fun o55=>Du (lfY ?_)) (fun h53=>Aa ?_ fun o56=>lfY ?_))) (fun h47=>Ab (fun h57=>Aa ?_ fun o58=>Aa ?_ fun o59=>Du (lfY ?_)) (fun h57=>Aa ?_ fun o60=>lfY ?_))))) (fun h12=>Af ?_ fun o61=>(Ab (fun h62=>Ab (fun h63=>Aa ?_ fun o64=>Aa ?_ fun o65=>Du (Ab (fun h66=>Aa ?_ fun o67=>Du (lfY ?_)) (fun h66=>lfY ?_))) (fun h63=>Ab (fun h68=>Aa ?_ fun o69=>Aa ?_ fun o70=>Du (lfY ?_)) (fun h68=>Aa ?_ fun o71=>lfY ?_))) (fun h62=>Ab (fun h72=>Aa ?_ fun o73=>Aa ?_ fun o74=>Du (lfY ?_)) (fun h72=>Aa ?_ fun o75=>lfY ?_))))) (fun h10=>Af ?_ fun o76=>(Ab (fun h77=>Ab (fun h78=>Aa ?_ fun o79=>Aa ?_ fun o80=>Du (Ab (fun h81=>Aa ?_ fun o82=>Du (lfY ?_)) (fun h81=>lfY ?_))) (fun h78=>Ab (fun h83=>Aa ?_ fun o84=>Aa ?_ fun o85=>Du (lfY ?_)) (fun h83=>Aa ?_ fun o86=>lfY ?_))) (fun h77=>Ab (fun h87=>Aa ?_ fun o88=>Aa ?_ fun o89=>Du (lfY ?_)) (fun h87=>Aa ?_ fun o90=>lfY ?_))))) (fun h9=>Af ?_ fun o91=>(Ab (fun h92=>Ab (fun h93=>Aa ?_ fun o94=>Aa ?_ fun o95=>Du (Ab (fun h96=>Aa ?_ fun o97=>Du (lfY ?_)) (fun h96=>lfY ?_))) (fun h93=>Ab (fun h98=>Aa ?_ fun o99=>Aa ?_ fun o100=>Du (lfY ?_)) (fun h98=>Aa ?_ fun o101=>lfY ?_))) (fun h92=>Ab (fun h102=>Aa ?_ fun o103=>Aa ?_ fun o104=>Du (lfY ?_)) (fun h102=>Aa ?_ fun o105=>lfY ?_))))) (fun h8=>Af ?_ fun o106=>(Ab (fun h107=>Ab (fun h108=>Aa ?_ fun o109=>Aa ?_ fun o110=>Du (Ab (fun h111=>Aa ?_ fun o112=>Du (lfY ?_)) (fun h111=>lfY ?_))) (fun h108=>Ab (fun h113=>Aa ?_ fun o114=>Aa ?_ fun o115=>Du (lfY ?_)) (fun h113=>Aa ?_ fun o116=>lfY ?_))) (fun h107=>Ab (fun h117=>Aa ?_ fun o118=>Aa ?_ fun o119=>Du (lfY ?_)) (fun h117=>Aa ?_ fun o120=>lfY ?_))))))))
 all_goals have hpp:=DO p
 all_goals obtain⟨hp1,hp2,hp3,hp4,hp7⟩:=(show okTok p from hp)
 all_goals
  have hl1:=Ad szNode p.ba.bi;have hl2:szBuilder p.ba<=2000000000:=by(unfold szBuilder;omega)
  try simp only[Az] at *
  try simp only[AU,fCopyPage,Bo,A9,AL,std,Nat.reduceAdd,fCopyPage,AU,fInRange,inRange,Bo,A9] at *
 all_goals first|trivial|omega|(unfold takeToken;(first|rw[Qa2 (by exact .inl (by omega))]|rw[Qa2 (by exact .inr (.inl (by assumption)))]|rw[Qa2 (by exact .inr (.inr (by assumption)))]);exact⟨rfl,rfl⟩)|skip
 all_goals
  have htz:=N5 p (by omega);have ht0:=hp3 0 (by omega);have haz:=HF p.ba (p.bn.getD 0 default);try simp only[Ah (show -9223372036854775808<=(p.ba.bl.length:Int)-1/\(p.ba.bl.length:Int)-1<=9223372036854775807 by omega),Ah (show -9223372036854775808<=(p.ba.bi.length:Int)-1/\(p.ba.bi.length:Int)-1<=9223372036854775807 by omega),FT,S7] at *
 all_goals first|trivial|omega|skip
 all_goals try rw[show takeToken p=(takeTok p (p.bn.getD 0 default),true) by(unfold takeToken;rw[Qa3 (by omega)])]
 all_goals generalize p.bn.getD 0 default=t at *
 all_goals try simp only[show(taken p t).addr=p.addr from rfl,show(taken p t).ba=(addToken p.ba t).1 from rfl] at *
 all_goals first|trivial|omega|skip
 all_goals try simp only[Qa1,Qe7,Qa9,Qb2,Qe1] at *
 all_goals first|trivial|omega|skip
 all_goals try (have hnn:(addToken p.ba t).1.bi=p.ba.bi:=haz.2.2 (by assumption);rw[hnn])
 all_goals first|trivial|omega|skip
 all_goals first|rw[Mt (by assumption) (by omega)]|rw[MJ (by assumption) (Ju (by assumption) (by assumption) (by omega) (by omega) (by omega) (by assumption))]|rw[Mw (by first|exact .inl (by assumption)|exact .inr (by omega)) (KL (by first|exact .inl (by omega)|exact .inr (.inl (by assumption))|exact .inr (.inr (.inl (by omega)))|exact .inr (.inr (.inr (by assumption)))))])
def blk (p:SPage):Int:=IntKind.i64.wrap (p.block-1)
def okParse (p:SPage):Prop:=okTok p/\szL AF p.bf<=40000000000/\okBod p
def stepInline (p:SPage):SPage×Bool:=if stylesReady p.bf=true then({ runCode p (textOf p.inline p.ba.bi ⟨#[]⟩) true with inline:=0 },true) else(p,false)
def stepBlock (p:SPage):SPage×Bool :=
 if ¬ (0<=blk p/\blk p<p.bf.length) then({ p with block:=0 },true)
 else if(p.bf.getD (blk p).toNat default).done=false\/stylesReady p.bf=false then(p,false)
 else if(p.bf.getD (blk p).toNat default).code=1 then({ runCode p (p.bf.getD (blk p).toNat default).body true with block:=0 },true)
 else({ p with block:=0 },true)
def stepParser (p:SPage):SPage×Bool:=if p.inline≠0 then stepInline p else if p.block≠0 then stepBlock p else takeToken p
theorem Ik (n:Int):∀ (l:List SNode) (s:ByteArray),(textOf n l s).size<=s.size+szL szNode l
 | [],s=>Qg1 _ _
 | x::l,s=>by
  rw[textOf,Ax];split
  ·have:=Ik n l (s++x.text);rw[Qb7] at this;simp only[szNode];omega
  ·have:=Ik n l s;omega
theorem tf {b:Bool} (h:b=true) (h2:b=false):False:=by rw[h] at h2;cases h2
theorem NX (p:SPage):IntKind.i64.wrap (p.block-1)=blk p:=rfl
def AY:Fct:=⟨[.v (.el .page)],[.el .page,.el .bool],fun(x_:SPage×Unit)=>okParse x_.1,fun(x_:SPage×Unit)=>((stepParser x_.1).1,(stepParser x_.1).2,())⟩
def AlD:=AiN.a AY<|Fct.o (KP [1,2,3,4,5,6,7] [10,13,27,37,53,64]) AiN.2 func246 (by
 rintro⟨(p:SPage),_⟩ hp;refine ho (let q4_:=(p.bf.length:Int);let q3_:=p.block-(1:Int);let q2_:=p.bf.getD (wr q3_).toNat default;let q1_:Out:=.cl fCopyPage (p,()) fun z3=>.lf AY (z3.1,false,());let q0_:=0<=wr q3_/\wr q3_<q4_;.br (p.inline != 0) (.cl AD (p,()) fun z2=>.br (!z2.1) q1_ (.cl Ez (p.ba,p.inline,()) fun z4=>.cl Bv (p,z4.1,true,()) fun z5=>.lf AY ({z5.1 with inline:=(0:Int)},true,()))) (.br (p.block != 0) (.cl fInRange (wr q3_,(0:Int),wr (q4_-(1:Int)),()) fun z6=>.br (!z6.1) (.cl fCopyPage (p,()) fun z7=>.lf AY ({z7.1 with block:=(0:Int)},true,())) (.ob q0_<|.br (!q2_.done) q1_ (.cl AD (p,()) fun z9=>.br (!z9.1) q1_ (.cl fCopyPage (p,()) fun z11=>.ob q0_<|.br (q2_.code==1) (.ob q0_<|.cl Bv (p,q2_.body,true,()) fun z12=>.lf AY ({z12.1 with block:=(0:Int)},true,())) (.lf AY ({z11.1 with block:=(0:Int)},true,())))))) (.cl AL (p,()) fun z13=>.lf AY (z13.1,z13.2.1,())))) ?_;refine Ab (fun h1=>Af ?_ fun o2=>(Ab (fun h3=>Af ?_ fun o4=>(lfY ?_)) (fun h3=>Af ?_ fun o5=>(Af ?_ fun o6=>(lfY ?_))))) (fun h1=>Ab (fun h7=>Af trivial fun _=>(Ab (fun h8=>Af ?_ fun o9=>(lfY ?_)) (fun h8=>Aa ?_ fun o10=>Ab (fun h11=>Af ?_ fun o12=>(lfY ?_)) (fun h11=>Af ?_ fun o13=>(Ab (fun h14=>Af ?_ fun o15=>(lfY ?_)) (fun h14=>Af ?_ fun o16=>(Aa ?_ fun o17=>Ab (fun h18=>Aa ?_ fun o19=>Af ?_ fun o20=>(lfY ?_)) (fun h18=>lfY ?_)))))))) (fun h7=>Af ?_ fun o21=>(lfY ?_)));all_goals obtain⟨hp0,hp6,hp5⟩:=(show okParse p from hp)
 all_goals obtain⟨hp1,hp2,hp3,hp4,hp7⟩:=(show okTok p from hp0)
 all_goals
  have hbb:szBuilder p.ba<=2000000000:=by(unfold szBuilder;omega)
  have hpp:=DO p;have hsl:=Ad AF p.bf;have hnl:=Ad szNode p.ba.bi;have htx:=Ik p.inline p.ba.bi ⟨#[]⟩
 all_goals rw[show ByteArray.size ⟨#[]⟩=0 from rfl] at htx
 all_goals
  try simp only[Az] at *
  try simp only[fCopyPage,fInRange,Bv,AY,AD,AL,Ez,std,Nat.reduceAdd,AD,fCopyPage,Ez,Bv,fInRange,inRange,AL,NX] at *
  try simp only[NX,Qa1,Qe7,Qa9,Qb2,Ah (show -9223372036854775808<=(p.bf.length:Int)-1/\(p.bf.length:Int)-1<=9223372036854775807 by omega)] at *
 all_goals first|trivial|omega|exact hp0|exact⟨by omega,by omega,by omega,hp5 _ (by omega),hp5⟩|exact⟨by omega,by omega,by omega,by omega,hp5⟩|skip
 all_goals unfold stepParser
 all_goals first|rw[Qa2 (by assumption)]|(rw[Qa3 (by omega)];first|rw[Qa2 (by assumption)]|rw[Qa3 (by omega)])
 all_goals first|exact⟨rfl,rfl⟩|(unfold stepInline)|(unfold stepBlock)
 all_goals repeat first|rw[Qa2 (by assumption)]|rw[Qa3 (by intro q;first|exact tf q (by assumption)|exact tf (by assumption) q)]|rw[Qa2 (by omega)]|rw[Qa3 (by omega)]|rw[Qa2 (by exact .inl (by assumption))]|rw[Qa2 (by exact .inr (by assumption))]|rw[Qa3 (by rintro(q|q)<;>exact tf (by assumption) q)]|fail
 all_goals exact⟨rfl,rfl⟩)
theorem RI {b:UInt8} {s:ByteArray} (hl:idxB b s<(toL s).length):(toL s)[idxB b s]=b:=by
 have hg:=List.findIdx_getElem (xs:=toL s) (p:=fun x=>x==b) (w:=hl);exact Qe8.1 hg
theorem SO {b:UInt8} {s:ByteArray} (h:idxB b s<s.size):Ey b (toL s)=some ((toL s).take (idxB b s),(toL s).drop (idxB b s+1)):=by
 have hl:idxB b s<(toL s).length:=h;refine Xh h ?_ ?_
 ·have hd:=Hj h;rw[List.drop_eq_getElem_cons hl] at hd;injection hd with hd
  rw[<-hd];exact RI hl
 ·intro hm;obtain⟨j,hj,he⟩:=List.mem_take_iff_getElem.1 hm;have:=List.not_of_lt_findIdx (xs:=toL s) (p:=fun x=>x==b) (i:=j) (show j<(toL s).findIdx _ from Qf6 hj (Nat.min_le_left _ _));rw[he] at this;simp at this
theorem Vk {b:UInt8} {s:ByteArray} (h:¬ idxB b s<s.size):Ey b (toL s)=none:=by
 refine Lq fun hm=>h ?_
 unfold idxB;rw[<-Bx];exact List.findIdx_lt_length_of_exists ⟨b,hm,by simp⟩
theorem Afp (s:ByteArray) (i:Nat):ofL ((toL s).take i)=s.extract 0 i:=by
 rw[<-C9 (s.extract 0 i),A2,Qf0]
theorem Oe (s:ByteArray) (i:Nat):ofL ((toL s).drop i)=s.extract i s.size:=by
 rw[<-C9 (s.extract i s.size),A2,Qb6 (by rw[Bx];exact Qb0 _)]
theorem GA (b:UInt8) (s:ByteArray):spl b s=if idxB b s<s.size then s.extract 0 (idxB b s)::spl b (s.extract (idxB b s+1) s.size) else[s]:=by
 rw[F4];split
 ·rename_i hc;rw[Qa3];intro h;rw[SO h] at hc;cases hc
 ·rename_i p q hc;by_cases h:idxB b s<s.size
  ·rw[Qa2 h];rw[SO h] at hc;obtain⟨rfl,rfl⟩:=Prod.mk.inj (Option.some.inj hc);rw[Afp,Oe]
  ·rw[Vk h] at hc;cases hc
def gl59:List ByteArray->ByteArray
 | []=>⟨#[]⟩
 | [w]=>w
 | w::x::l=>w++⟨#[59]⟩++gl59 (x::l)
theorem Acs (w:ByteArray) {l:List ByteArray} (h:l≠[]):gl59 (w::l)=w++⟨#[59]⟩++gl59 l:=by
 cases l with
 | nil=>exact absurd rfl h
 | cons x l=>rfl
theorem Abc {b:UInt8} {s:ByteArray} (h:idxB b s<s.size):s.extract 0 (idxB b s)++⟨#[b]⟩++s.extract (idxB b s+1) s.size=s:=by
 have hl:idxB b s<(toL s).length:=h;have e:toL s=(toL s).take (idxB b s)++b::(toL s).drop (idxB b s+1):=by have e2:(toL s)[idxB b s]=b:=RI hl;have:=(Qd8 (idxB b s) (toL s)).symm;rw[List.drop_eq_getElem_cons hl,e2] at this;exact this
 rw[<-Afp,<-Oe];have e3:(⟨#[b]⟩:ByteArray)=ofL [b]:=rfl;rw[e3,<-Hd,<-Hd,Qb4,List.singleton_append,<-e,C9]
theorem Afz (b:UInt8) (s:ByteArray):spl b s≠[]:=by
 intro h;have:=(DH b s).1;rw[h] at this;cases this
theorem Abz:∀ (n:Nat) (s:ByteArray),s.size<=n->gl59 (spl 59 s)=s
 | 0,s,hn=>by
  rw[GA,Qa3 (by omega)];rfl
 | n+1,s,hn=>by
  rw[GA];by_cases h:idxB 59 s<s.size
  ·rw[Qa2 h,Acs _ (Afz _ _),Abz n _ (by rw[Qc3];omega)];exact Abc h
  ·rw[Qa3 h];rfl
def impW:ByteArray:=⟨#[105,109,112,111,114,116,32]⟩
def hasImp (w:ByteArray):Prop:=7<=w.size/\w.extract 0 7=impW
instance (w:ByteArray):Decidable (hasImp w):=by unfold hasImp;exact inferInstance
def pmGo (b:ByteArray):List ByteArray->List SAddr->List SAddr×List SLine×Bool
 | [],acc=>(acc,[],true)
 | w::l,acc=>
  if hasImp w then(if(parseAddr (w.extract 7 w.size) b).2=true then pmGo b l (acc++[(parseAddr (w.extract 7 w.size) b).1]) else([],[],false))
  else if(parseScript (gl59 (w::l))).2=true then(acc,(parseScript (gl59 (w::l))).1,true) else([],[],false)
def parseModule (s b:ByteArray):List SAddr×List SLine×Bool:=pmGo b (spl 59 s) []
theorem Ge:parseScript ⟨#[]⟩=([],true):=rfl
theorem Afv (b:ByteArray) (acc:List SAddr):pmGo b (spl 59 ⟨#[]⟩) acc=(acc,[],true):=by
 rw[GA,Qa3 (by decide),pmGo,Qa3 (by unfold hasImp;decide)];show(if(parseScript ⟨#[]⟩).2=true then _ else _)=_;rw[Ge,Qa2 rfl];show(acc,(parseScript ⟨#[]⟩).1,true)=_;rw[Ge]
theorem AaE (s b:ByteArray):pmGo b (spl 59 s) []=parseModule s b:=rfl
theorem Wx {s:ByteArray} (h:hasImp s):7<=idxB 59 s:=by
 obtain⟨h1,h2⟩:=h;have e:(toL s).take 7=toL impW:=by rw[<-h2,A2,Qf0]
 have hn:(59:UInt8)∉(toL s).take 7:=by rw[e];decide
 rcases Nat.lt_or_ge (idxB 59 s) 7 with h3|h3
 ·exfalso;have h4:idxB 59 s<s.size:=by omega
  have hl:idxB 59 s<(toL s).length:=h4;apply hn;rw[List.mem_take_iff_getElem];exact⟨idxB 59 s,by omega,RI hl⟩
 ·exact h3
theorem N1 {s:ByteArray} (h:idxB 59 s<s.size):hasImp (s.extract 0 (idxB 59 s))↔hasImp s:=by
 have hx:7<=idxB 59 s->(s.extract 0 (idxB 59 s)).extract 0 7=s.extract 0 7:=fun h7=>by apply ByteArray.ext;apply Array.ext';have:=A2 (s.extract 0 (idxB 59 s)) 0 7;have e2:=A2 s 0 (idxB 59 s);have e3:=A2 s 0 7;rw[e2,Qf0,Qf0,List.take_take,Nat.min_eq_left h7] at this;rw[Qf0] at e3;exact this.trans e3.symm
 constructor
 ·rintro⟨h1,h2⟩;rw[Qc3] at h1;exact⟨by omega,by rw[<-h2,hx (by omega)]⟩
 ·intro hs;have h7:=Wx hs;exact⟨by rw[Qc3];omega,by rw[hx h7];exact hs.2⟩
theorem VD {s:ByteArray} {k:Nat}:(s.extract 0 k).extract 7 (s.extract 0 k).size=s.extract 7 k:=by
 apply ByteArray.ext;apply Array.ext';have e1:=A2 (s.extract 0 k) 7 (s.extract 0 k).size;have e2:=A2 s 0 k;have e3:=A2 s 7 k;rw[Qb6 (by rw[Bx];exact Qb0 _),e2,Qf0] at e1;exact e1.trans e3.symm
theorem Acg {b s:ByteArray} {acc:List SAddr} (h:hasImp s) (h2:(parseAddr (s.extract 7 (idxB 59 s)) b).2=true):pmGo b (spl 59 s) acc=pmGo b (spl 59 (s.extract (min s.size (idxB 59 s+1)) s.size)) (acc++[(parseAddr (s.extract 7 (idxB 59 s)) b).1]):=by
 by_cases hk:idxB 59 s<s.size
 ·rw[GA,Qa2 hk,pmGo,Qa2 ((N1 hk).2 h),VD,Qa2 h2,Nat.min_eq_right (by omega)]
 ·have e:idxB 59 s=s.size:=by have:=EA 59 s;omega
  rw[GA,Qa3 hk,pmGo,Qa2 h];rw[e] at h2 ⊢;rw[Qa2 h2,Nat.min_eq_left (by omega)];have e0:s.extract s.size s.size=⟨#[]⟩:=by rw[<-Oe,Qb9 (by rw[Bx];exact Qb0 _)];rfl
  rw[e0,Afv];rfl
theorem Agf {b s:ByteArray} {acc:List SAddr} (h:hasImp s) (h2:(parseAddr (s.extract 7 (idxB 59 s)) b).2=false):pmGo b (spl 59 s) acc=([],[],false):=by
 by_cases hk:idxB 59 s<s.size
 ·rw[GA,Qa2 hk,pmGo,Qa2 ((N1 hk).2 h),VD,Qa3 (by rw[h2];decide)]
 ·have e:idxB 59 s=s.size:=by have:=EA 59 s;omega
  rw[GA,Qa3 hk,pmGo,Qa2 h];rw[e] at h2;rw[Qa3 (by rw[h2];decide)]
theorem Agb {b s:ByteArray} {acc:List SAddr} (h:¬ hasImp s):pmGo b (spl 59 s) acc=if(parseScript s).2=true then(acc,(parseScript s).1,true) else([],[],false):=by
 have hg:=Abz s.size s (Qb0 _);rw[GA] at hg ⊢;by_cases hk:idxB 59 s<s.size
 ·rw[Qa2 hk] at hg ⊢;rw[pmGo,Qa3 (fun q=>h ((N1 hk).1 q)),hg]
 ·rw[Qa3 hk] at hg ⊢;rw[pmGo,Qa3 h,hg]
def Aw:Fct:=⟨[.v (.el .str),.v (.el .str)],[.sl .addr,.sl .line,.el .bool],fun(x_:ByteArray×ByteArray×Unit)=>x_.1.size<=4000000000/\x_.2.1.size<=4000000000,fun(x_:ByteArray×ByteArray×Unit)=>((parseModule x_.1 x_.2.1).1,(parseModule x_.1 x_.2.1).2.1,(parseModule x_.1 x_.2.1).2.2,())⟩
abbrev A8 (s:ByteArray) (b:ByteArray):LInv:=⟨[⟨.s,7,true,.sl .addr⟩,⟨.s,8,false,.el .str⟩],fun _ (x_:(List SAddr)×ByteArray×Unit)=>x_.2.1.size<=s.size/\x_.1.length+x_.2.1.size<=s.size/\pmGo b (spl 59 x_.2.1) x_.1=parseModule s b,fun(x_:(List SAddr)×ByteArray×Unit)=>x_.2.1.size⟩
def Ajp:=AlD.a Aw<|Fct.p (KP [0,1,4,5,6,7,8,9,10,11,12,13] [23,35,55]) (fun⟨s,b,_⟩=>lv [(3,A8 s b)]) AlD.2 func315 (by
 rintro⟨(s:ByteArray),(b:ByteArray),_⟩ hp;refine ho (let q2_:Out:=.lf Aw ([],[],false,());lpx (A8 s b) ([],(s,())) fun(y1:List SAddr×ByteArray×PUnit) bk1=>let q1_:=(y1.2.1.size:Int);let q0_:Out:=.cl AC (y1.2.1,()) fun z5=>.br (!z5.2.1) q2_ (.lf Aw (y1.1,z5.1,true,()));.br (decide (q1_>=7)) (.ob ((0:Int)<=(7:Int)/\(7:Int)<=q1_)<|.br ((y1.2.1.extract 0 7).toList==(⟨#[105,109,112,111,114,116,32]⟩:ByteArray).toList) (.cl EV (y1.2.1,(59:Int),()) fun(z2:Int×PUnit)=>.ob ((0:Int)<=(7:Int)/\7<=z2.1/\z2.1<=q1_)<|.cl AG (y1.2.1.extract 7 z2.1.toNat,b,()) fun z3=>.br (!z3.2.1) q2_ (.ob (True)<|.ob (BM (y1.1.length+[z3.1].length) 32)<|.cl Adp (q1_,w1 z2.1,()) fun(z4:Int×PUnit)=>.ob (0<=z4.1/\z4.1<=q1_)<|.ob (Value.string s=Value.string s)<|.ob (Value.string b=Value.string b)<|.ob (bk1 (y1.1++[z3.1],(y1.2.1.extract z4.1.toNat y1.2.1.size,())))<|.ok)) q0_) q0_) ?_;repeat' first|(guard_target =~ Out.holds _ _;first|refine Ay (li:=A8 s b) ?_ fun(y1:List SAddr×ByteArray×PUnit) i1=>?_|refine lfY ?_|refine Ab (fun _=>?_) fun _=>?_|refine Af ?_ fun _=>?_|refine Aa ?_ fun _=>?_)|exact trivial
 all_goals
  have hp1:s.size<=4000000000/\b.size<=4000000000:=hp;try simp only[Az] at *
  try simp only[A8,EV,Adp,AG,Aw,AC,std,Nat.reduceAdd,EV,AG,AC,Adp,show UInt8.ofNat (Int.toNat 59)=59 from rfl] at *
 all_goals first|omega|(simp only[AaE,Qb0,and_self];done)|(obtain⟨acc,x,u⟩:=y1;obtain⟨a1,a2,a3⟩:=i1;dsimp only at *;have k1:=EA 59 x)
 all_goals first|(have hi:hasImp x:=⟨by omega,by assumption⟩;have k2:=Wx hi)|(have hi:¬ hasImp x:=by rintro⟨q1,q2⟩;first|omega|exact absurd q2 (by assumption))
 all_goals
  have k3:∀ a b,(x.extract a b).size<=x.size:=fun a b=>by rw[Qc3];omega
  have k4:=k3 7 (idxB 59 x);have hw:IntKind.i64.wrap ((idxB 59 x:Int)+1)=(idxB 59 x:Int)+1:=Ah (by constructor<;>omega);have hm:Int.toNat (min (x.size:Int) ((idxB 59 x:Int)+1))=min x.size (idxB 59 x+1):=by omega
 all_goals simp only[Qg6,hw,hm] at *
 all_goals first|omega|exact⟨by omega,Int.ofNat_le.2 k2,Int.ofNat_le.2 k1⟩|exact⟨by omega,by omega⟩|skip
 all_goals first|(rw[<-a3,Agf hi (by assumption)];exact⟨rfl,rfl,rfl⟩)|(rw[<-a3,Agb hi];(first|rw[Qa2 (by assumption)]|rw[Qa3 (by rw[show(parseScript x).2=false by assumption];decide)]);exact⟨rfl,by first|rfl|assumption,rfl⟩)|skip
 all_goals rw[Acg hi (by assumption)] at a3
 all_goals refine⟨⟨Qe6 (k3 _ _) a1,?_,a3⟩,?_⟩
 all_goals rw[Qc3];try simp only[Qa4,Qa6,Qb5]
 all_goals omega)
def isParsed (p:SPage):Bool:=p.ended&&decide (p.bn.length=0/\p.block=0/\p.inline=0)
def CK:Fct:=⟨[.v (.el .page)],[.el .bool],fun(x_:SPage×Unit)=>True,fun(x_:SPage×Unit)=>(isParsed x_.1,())⟩
theorem q19 (p:SPage) (hp:CK.pre (p,())):Out.holds (CK.ctr (p,())).post (.br (p.ended) (.br ((p.bn.length:Int)==0) (.br (p.block==0) (.lf CK (p.inline==0,())) (.lf CK (false,()))) (.lf CK (false,()))) (.lf CK (false,()))):=by
 refine Ab (fun h1=>Ab (fun h2=>Ab (fun h3=>lfY ?_) (fun h3=>lfY ?_)) (fun h2=>lfY ?_)) (fun h1=>lfY ?_);all_goals
  try simp only[Az] at *
  try simp only[CK,std,Nat.reduceAdd,isParsed] at *
  try simp(disch:=omega) only[wrapId',toNat1] at *
  try simp(disch:=omega) only[Qa2,Qa3]
 all_goals first|trivial|omega|grind[wrapId',toNat1,drop_cons,drop_end,good_len,maxLen,isParsed]
def Akf:=Ajp.a CK<|Fct.o [1,2] Ajp.2 func307 (by
 rintro⟨(p:SPage),_⟩ hp;exact ho _ (q19 p hp))
def AiF:=Akf.a CK<|Fct.o [1,2] Akf.2 func277 (by
 rintro⟨(p:SPage),_⟩ hp;exact ho _ (q19 p hp))
def deferredSlots (p:SPage):List Int:=openIdx (fun s=>decide (s.mode=4)) p.bf 0
def Bb:Fct:=⟨[.v (.el .page)],[.sl .int],fun(x_:SPage×Unit)=>x_.1.bf.length<=1000000000000,fun(x_:SPage×Unit)=>(deferredSlots x_.1,())⟩
abbrev Bf (p:SPage):LInv:=⟨[⟨.s,3,true,.sl .int⟩,⟨.s,4,true,.el .int⟩,⟨.b,1,false,.el .page⟩],fun(z_ x_:(List Int)×Int×SPage×Unit)=>(0<=x_.2.1/\x_.2.1<=p.bf.length/\x_.1.length<=x_.2.1/\x_.1++openIdx (fun s=>decide (s.mode=4)) (p.bf.drop x_.2.1.toNat) x_.2.1=deferredSlots p)/\x_.2.2.1=z_.2.2.1,fun(x_:(List Int)×Int×SPage×Unit)=>p.bf.length-x_.2.1.toNat⟩
def AlB:=AiF.a Bb<|Fct.p (KP [1,2,3,4] [10,19]) (fun⟨p,_⟩=>lv [(3,Bf p)]) AiF.2 func308 (by
 rintro⟨(p:SPage),_⟩ hp;refine ho (lpx (Bf p) ([],((0:Int),(p,()))) fun(y1:List Int×Int×SPage×PUnit) bk1=>.br (decide (y1.2.1<(y1.2.2.1.bf.length:Int))) (.ob (inB y1.2.1 y1.2.2.1.bf.length)<|.br ((y1.2.2.1.bf.getD y1.2.1.toNat default).mode==4) (.ob (True)<|.ob (BM (y1.1.length+[y1.2.1].length) 8)<|.ob (bk1 (y1.1++[y1.2.1],(w1 y1.2.1,(y1.2.2.1,()))))<|.ok) (.ob (bk1 (y1.1,(w1 y1.2.1,(y1.2.2.1,()))))<|.ok)) (.lf Bb (y1.1,()))) ?_;refine Ay ?_ fun(y1:List Int×Int×SPage×PUnit) i1=>Ab (fun h2=>Aa ?_ fun o3=>Ab (fun h4=>Aa trivial fun _=>Aa ?_ fun o5=>Aa ?_ fun o6=>trivial) (fun h4=>Aa ?_ fun o7=>trivial)) (fun h2=>lfY ?_)
 all_goals
  have h0:openIdx (fun s:SSlot=>decide (s.mode=4)) (p.bf.drop 0) 0=deferredSlots p:=rfl;try simp only[Az] at *
  try simp only[Bf,Bb,std,Nat.reduceAdd,openIdx_at,openIdx_end,Qa4,Qa6,Qb5,Qb4] at *
  try simp(disch:=omega) only[wrapId',toNat1] at *
  try simp(disch:=omega) only[Qa2,Qa3]
 all_goals first|trivial|omega|grind[wrapId',toNat1,drop_cons,drop_end,good_len,maxLen,openIdx_at,openIdx_end,List.length_append,List.length_cons,List.length_nil,List.append_assoc])
abbrev Bi (p:SPage):LInv:=⟨[⟨.s,3,true,.sl .int⟩,⟨.s,10,true,.el .int⟩],fun _ (x_:(List Int)×Int×Unit)=>0<=x_.2.1/\x_.2.1<=p.bf.length/\x_.1.length<=x_.2.1/\x_.1++openIdx (fun s=>decide (s.mode=4)) (p.bf.drop x_.2.1.toNat) x_.2.1=deferredSlots p,fun(x_:(List Int)×Int×Unit)=>p.bf.length-x_.2.1.toNat⟩
def Al3:=AlB.a Bb<|Fct.p (KP [1,2,3,4,5,8,9,10] [11,17]) (fun⟨p,_⟩=>lv [(3,Bi p)]) AlB.2 func278 (by
 rintro⟨(p:SPage),_⟩ hp;refine ho (lpx (Bi p) ([],((0:Int),())) fun(y1:List Int×Int×PUnit) bk1=>.br (decide (y1.2.1<(p.bf.length:Int))) (.ob (inB y1.2.1 p.bf.length)<|.br ((p.bf.getD y1.2.1.toNat default).mode==4) (.ob (True)<|.ob (BM (y1.1.length+[y1.2.1].length) 8)<|.ob (p.bf=p.bf)<|.ob (Value.int IntKind.i64 (p.bf.length:Int)=Value.int IntKind.i64 (p.bf.length:Int))<|.ob (bk1 (y1.1++[y1.2.1],(w1 y1.2.1,())))<|.ok) (.ob (p.bf=p.bf)<|.ob (Value.int IntKind.i64 (p.bf.length:Int)=Value.int IntKind.i64 (p.bf.length:Int))<|.ob (bk1 (y1.1,(w1 y1.2.1,())))<|.ok)) (.lf Bb (y1.1,()))) ?_;refine Ay ?_ fun(y1:List Int×Int×PUnit) i1=>Ab (fun h2=>Aa ?_ fun o3=>Ab (fun h4=>Aa trivial fun _=>Aa ?_ fun o5=>Aa rfl fun _=>Aa rfl fun _=>Aa ?_ fun o6=>trivial) (fun h4=>Aa rfl fun _=>Aa rfl fun _=>Aa ?_ fun o7=>trivial)) (fun h2=>lfY ?_)
 all_goals
  have h0:openIdx (fun s:SSlot=>decide (s.mode=4)) (p.bf.drop 0) 0=deferredSlots p:=rfl;try simp only[Az] at *
  try simp only[Bi,Bb,std,Nat.reduceAdd,openIdx_at,openIdx_end,Qa4,Qa6,Qb5,Qb4] at *
  try simp(disch:=omega) only[wrapId',toNat1] at *
  try simp(disch:=omega) only[Qa2,Qa3]
 all_goals first|trivial|omega|grind[wrapId',toNat1,drop_cons,drop_end,good_len,maxLen,openIdx_at,openIdx_end,List.length_append,List.length_cons,List.length_nil,List.append_assoc])
def formatAddr (a:SAddr):ByteArray:=if isName a.host&&isName a.path then a.host++⟨#[47]⟩++a.path else⟨#[]⟩
def BW:Fct:=⟨[.v (.el .addr)],[.el .str],fun(x_:SAddr×Unit)=>szAddr x_.1<=1000000000000,fun(x_:SAddr×Unit)=>(formatAddr x_.1,())⟩
theorem q20 (a:SAddr) (hp:BW.pre (a,())):Out.holds (BW.ctr (a,())).post (.cl fIsAddr (a,()) fun z2=>.br (!z2.1) (.lf BW ((⟨#[]⟩:ByteArray),())) (.ob (sameSize a.host (⟨#[47]⟩:ByteArray))<|.ob (sameSize (a.host++(⟨#[47]⟩:ByteArray)) a.path)<|.lf BW (a.host++(⟨#[47]⟩:ByteArray)++a.path,()))):=by
 refine Af ?_ fun o1=>(Ab (fun h2=>lfY ?_) (fun h2=>Aa ?_ fun o3=>Aa ?_ fun o4=>lfY ?_))
 all_goals
  try simp only[Az] at *
  try simp only[BW,fIsAddr,std,Nat.reduceAdd,formatAddr,fIsAddr,sameSize,Qb7,szAddr] at *
  try simp(disch:=omega) only[wrapId',toNat1] at *
  try simp(disch:=omega) only[Qa2,Qa3]
 all_goals first|trivial|omega|grind[wrapId',toNat1,drop_cons,drop_end,good_len,maxLen,formatAddr,fIsAddr,sameSize,ByteArray.size_append,szAddr]
def Alo:=Al3.a BW<|Fct.o (KP [1,2] [5]) Al3.2 func362 (by
 rintro⟨(a:SAddr),_⟩ hp;exact ho _ (q20 a hp))
def AiB:=Alo.a BW<|Fct.o (KP [1,2] [5]) Alo.2 func332 (by
 rintro⟨(a:SAddr),_⟩ hp;exact ho _ (q20 a hp))
def say (p:SPage) (s:ByteArray):SPage:=if p.log.length<40 then{ p with log:=p.log++[s]} else p
def Qs:GS:=⟨[.g (.el .page),.l (.v (.el .str))],[.el .page],fun(x_:SPage×ByteArray×Unit)=>True,fun(x_:SPage×ByteArray×Unit)=>((say x_.1 x_.2.1,()),(()))⟩
def Ai8:=AiB.G Qs<|GS.of (S:=Qs) (L:=fun _ _=>none) (kp:=(KP [1,2,4] [8])) AiB.2 func311 (by kernel_rfl) (by kernel_rfl) (by
 rintro⟨(p:SPage),(s:ByteArray),_⟩ hp;refine ho (.br (decide ((p.log.length:Int)<40)) (.ob (True)<|.ob (BM (p.log.length+[s].length) 16)<|GS.out Qs (({p with log:=p.log++[s]},()),(()))) (GS.out Qs ((p,()),(())))) ?_;refine Ab (fun h1=>Aa trivial fun _=>Aa ?_ fun o2=>GS.leafY ?_) (fun h1=>GS.leafY ?_);all_goals
  try simp only[Az] at *
  try simp only[Qs,std,Nat.reduceAdd,say] at *
  try simp(disch:=omega) only[wrapId',toNat1] at *
  try simp(disch:=omega) only[Qa2,Qa3]
 all_goals first|trivial|omega|grind[wrapId',toNat1,drop_cons,drop_end,good_len,maxLen,say])
def Fl:GS:=⟨[.b (.el .page),.l (.v (.el .str))],[],fun(x_:SPage×ByteArray×Unit)=>True,fun(x_:SPage×ByteArray×Unit)=>((()),(say x_.1 x_.2.1,()))⟩
def Ak5:=Ai8.G Fl<|GS.of (S:=Fl) (L:=fun _ _=>none) (kp:=(KP [0,1] [9])) Ai8.2 func281 (by kernel_rfl) (by kernel_rfl) (by
 rintro⟨(p:SPage),(s:ByteArray),_⟩ hp;refine ho (.br (decide ((p.log.length:Int)<40)) (.ob (True)<|.ob (BM (p.log.length+[s].length) 16)<|GS.out Fl ((()),({p with log:=p.log++[s]},()))) (GS.out Fl ((()),(p,())))) ?_;refine Ab (fun h1=>Aa trivial fun _=>Aa ?_ fun o2=>GS.leafY ?_) (fun h1=>GS.leafY ?_);all_goals
  try simp only[Az] at *
  try simp only[Fl,std,Nat.reduceAdd,say] at *
  try simp(disch:=omega) only[wrapId',toNat1] at *
  try simp(disch:=omega) only[Qa2,Qa3]
 all_goals first|trivial|omega|grind[wrapId',toNat1,drop_cons,drop_end,good_len,maxLen,say])
def findMod (l:List SModule) (a:SAddr):Int:=fidx (fun m=>decide (m.to=a)) l 0
theorem Hv (l:List SModule) (a:SAddr):fidx (fun m=>decide (m.to=a)) l 0=findMod l a:=rfl
theorem BP (l:List SModule) (a:SAddr):findMod l a<l.length/\-1<=findMod l a:=by
 have:=Eg (fun m:SModule=>decide (m.to=a)) l 0 (by omega);unfold findMod;omega
theorem HP {l:List SModule} {a:SAddr} (h:0<=findMod l a):(l.getD (findMod l a).toNat default).to=a:=by
 have e:=J3 (fun m:SModule=>decide (m.to=a)) l 0 (by omega);rw[Hv,Qa2 h,Int.sub_zero] at e;simpa using List.find?_some e
def imports (p:SPage) (a:SAddr):List SAddr×Bool :=
 if findMod p.bh a<0\/(p.bh.getD (findMod p.bh a).toNat default).done=false\/¬ (p.bh.getD (findMod p.bh a).toNat default).code=1 then([],false)
 else((parseModule (p.bh.getD (findMod p.bh a).toNat default).body a.host).1,(parseModule (p.bh.getD (findMod p.bh a).toNat default).body a.host).2.2)
def okMb (p:SPage):Prop:=∀ i,i<p.bh.length->(p.bh.getD i default).body.size<=4000000000
def Dq:Fct:=⟨[.v (.el .page),.v (.el .addr)],[.sl .addr,.el .bool],fun(x_:SPage×SAddr×Unit)=>x_.1.bh.length<=1000000000000/\okMb x_.1/\x_.2.1.host.size<=4000000000,fun(x_:SPage×SAddr×Unit)=>((imports x_.1 x_.2.1).1,(imports x_.1 x_.2.1).2,())⟩
def Ai4:=Ak5.a Dq<|Fct.o (KP [2,3,4,5,6,7,9] [32]) Ak5.2 func251 (by
 rintro⟨(p:SPage),(a:SAddr),_⟩ hp;refine ho (.cl Cd (p,a,()) fun(z2:Int×PUnit)=>.br (decide (z2.1<0)) (.lf Dq ([],false,())) (.ob (inB z2.1 p.bh.length)<|.br (!(p.bh.getD z2.1.toNat default).done) (.lf Dq ([],false,())) (.ob (inB z2.1 p.bh.length)<|.br ((p.bh.getD z2.1.toNat default).code != 1) (.lf Dq ([],false,())) (.ob (inB z2.1 p.bh.length)<|.cl Aw ((p.bh.getD z2.1.toNat default).body,a.host,()) fun z3=>.lf Dq (z3.1,z3.2.2.1,()))))) ?_;refine Af ?_ fun o1=>(Ab (fun h2=>lfY ?_) (fun h2=>Aa ?_ fun o3=>Ab (fun h4=>lfY ?_) (fun h4=>Aa ?_ fun o5=>Ab (fun h6=>lfY ?_) (fun h6=>Aa ?_ fun o7=>Af ?_ fun o8=>(lfY ?_)))))
 all_goals have hf:=BP p.bh a
 all_goals obtain⟨q1,q2,q3⟩:=(show p.bh.length<=1000000000000/\okMb p/\a.host.size<=4000000000 from hp)
 all_goals
  try simp only[Az] at *
  try simp only[Dq,Cd,Aw,std,Nat.reduceAdd,Cd,Aw,Hv] at *
 all_goals first|omega|exact⟨q2 _ (by omega),q3⟩|skip
 all_goals unfold imports
 all_goals first|rw[Qa2 (by exact .inl (by assumption))]|rw[Qa2 (by exact .inr (.inl (by assumption)))]|rw[Qa2 (by exact .inr (.inr (by assumption)))]|rw[Qa3 (by rintro(q|q|q)<;>first|omega|exact tf (by assumption) q|exact q (by assumption))]
 all_goals exact⟨rfl,rfl⟩)
theorem Mj (b:ByteArray):∀ (l:List ByteArray) (acc:List SAddr),(∀ x,x∈acc->x.host.size<=8/\x.path.size<=8)->(∀ x,x∈(pmGo b l acc).1->x.host.size<=8/\x.path.size<=8)/\(pmGo b l acc).1.length+l.length<=acc.length+szL Ac l
 | [],acc,h=>⟨h,Qb0 _⟩
 | w::l,acc,h=>by
  rw[pmGo,Ax];have hnil:∀ x:SAddr,x∈([]:List SAddr)->x.host.size<=8/\x.path.size<=8:=fun x h=>by cases h
  have hll:=Ad Ac l;split
  ·rename_i hi;split
   ·rename_i hc;obtain⟨i1,i2⟩:=Mj b l (acc++[(parseAddr (w.extract 7 w.size) b).1]) (fun x hx=>by
     rcases Qc0.1 hx with hx|hx
     ·exact h x hx
     ·rw[List.mem_singleton] at hx;subst hx;unfold parseAddr at hc ⊢;split at hc
      ·rename_i hn;rw[Qa2 hn];rw[Qa1] at hn;exact⟨CN hn.1,CN hn.2⟩
      ·cases hc)
    refine⟨i1,?_⟩;rw[Qa4] at i2;have:=hi.1;simp only[Qa6,Qb5,Ac] at *
    omega
   ·exact⟨hnil,by simp only[Qa6,Qb5];omega⟩
  ·split
   ·exact⟨h,by simp only[Qa6];omega⟩
   ·exact⟨hnil,by simp only[Qa6,Qb5];omega⟩
theorem LW (s b:ByteArray):(∀ x,x∈(parseModule s b).1->x.host.size<=8/\x.path.size<=8)/\(parseModule s b).1.length<=s.size:=by
 obtain⟨h1,h2⟩:=Mj b (spl 59 s) [] (fun x h=>by cases h);have h3:=(DH 59 s).1;rw[KX] at h2;exact⟨h1,by simp only[Qb5,parseModule] at *;omega⟩
theorem Ej (p:SPage) (a:SAddr):(∀ x,x∈(imports p a).1->x.host.size<=8/\x.path.size<=8)/\((imports p a).1=[]\/0<=findMod p.bh a/\(imports p a).1.length<=(p.bh.getD (findMod p.bh a).toNat default).body.size):=by
 unfold imports;split
 ·exact⟨fun x h=>(by cases h),.inl rfl⟩
 ·rename_i h;have:=LW (p.bh.getD (findMod p.bh a).toNat default).body a.host;exact⟨this.1,.inr ⟨by omega,this.2⟩⟩
def inL (l:List SAddr) (a:SAddr):Bool:=l.any fun c=>decide (c=a)
def visitF:Nat->SPage->SAddr->List SAddr×List SAddr->List SAddr×List SAddr
 | 0,_,_,st=>st
 | f+1,p,a,st=>if inL st.1 a=true then st else
  (((imports p a).1.foldl (fun st b=>visitF f p b st) (st.1++[a],st.2)).1,((imports p a).1.foldl (fun st b=>visitF f p b st) (st.1++[a],st.2)).2++[a])
def muV (p:SPage) (s:List SAddr):Nat:=(p.bh.filter fun m=>!inL s m.to).length
def wtV (p:SPage) (s:List SAddr):Nat:=((p.bh.filter fun m=>!inL s m.to).map fun m=>m.body.size+1).sum
theorem HM (s l:List SAddr) (a:SAddr):inL (s++l) a=(inL s a||inL l a):=by unfold inL;rw[List.any_append]
theorem QP (a b:SAddr):inL [a] b=decide (a=b):=by unfold inL;simp
theorem Gg {α:Type} {f g:α->Bool}:∀ {l:List α},(∀ x,x∈l->g x=true->f x=true)->(l.filter g).length<=(l.filter f).length
 | [],_=>Qb0 _
 | x::l,h=>by
  have ih:=Gg (f:=f) (g:=g) (l:=l) fun y hy=>h y (Qd5 _ hy)
  rw[List.filter_cons,List.filter_cons];cases hg:g x with
  | true=>rw[Qa2 rfl,Qa2 (h x Qf1 hg)];simp only[Qa6];omega
  | false=>
   rw[Qa3 (by decide)];split
   ·simp only[Qa6];omega
   ·exact ih
theorem X4 (p:SPage) (s l:List SAddr):muV p (s++l)<=muV p s:=by
 unfold muV;refine Gg fun m _ h=>?_
 rw[HM] at h;cases hs:inL s m.to with
 | true=>rw[hs] at h;cases h
 | false=>rfl
def wtL (g:SModule->Bool):List SModule->Nat
 | []=>0
 | m::l=>(if g m=true then m.body.size+1 else 0)+wtL g l
theorem Ab3 (g:SModule->Bool):∀ l:List SModule,wtL g l=((l.filter g).map fun m=>m.body.size+1).sum
 | []=>rfl
 | m::l=>by
  rw[wtL,List.filter_cons,Ab3 g l];split
  ·rw[Qc9,List.sum_cons]
  ·omega
theorem VF {f g:SModule->Bool}:∀ {l:List SModule},(∀ m,g m=true->f m=true)->wtL g l<=wtL f l
 | [],_=>Qb0 _
 | m::l,h=>by
  have:=VF (l:=l) h;rw[wtL,wtL];by_cases hg:g m=true
  ·rw[Qa2 hg,Qa2 (h m hg)];omega
  ·rw[Qa3 hg];omega
theorem S0 {f g:SModule->Bool}:∀ {l:List SModule} {i:Nat},i<l.length->(∀ m,g m=true->f m=true)->f (l.getD i default)=true->g (l.getD i default)=false->wtL g l+(l.getD i default).body.size+1<=wtL f l
 | [],i,h,_,_,_=>absurd h (Nat.not_lt_zero _)
 | m::l,0,_,hl,h1,h2=>by
  have:=VF (l:=l) hl;have h1:f m=true:=h1;have h2:g m=false:=h2;show wtL g (m::l)+m.body.size+1<=_;rw[wtL,wtL,Qa3 (by rw[h2];decide),Qa2 h1];omega
 | m::l,i+1,h,hl,h1,h2=>by
  have ih:=S0 (l:=l) (i:=i) (by simpa using h) hl h1 h2;show wtL g (m::l)+(l.getD i default).body.size+1<=_;rw[wtL,wtL];by_cases hg:g m=true
  ·rw[Qa2 hg,Qa2 (hl m hg)];omega
  ·rw[Qa3 hg];omega
theorem Pc (p:SPage) (s:List SAddr):wtV p s=wtL (fun m=>!inL s m.to) p.bh:=(Ab3 _ _).symm
theorem JJ {s:List SAddr} (l:List SAddr) {m:SModule} (h:(!inL (s++l) m.to)=true):(!inL s m.to)=true:=by
 rw[HM] at h;cases hs:inL s m.to with
 | true=>rw[hs] at h;cases h
 | false=>rfl
theorem Yp (p:SPage) (s l:List SAddr):wtV p (s++l)<=wtV p s:=by
 rw[Pc,Pc];exact VF fun m h=>JJ l h
theorem WF (p:SPage) (s:List SAddr) (a:SAddr) (h:inL s a=false) (hf:0<=findMod p.bh a):wtV p (s++[a])+(p.bh.getD (findMod p.bh a).toNat default).body.size+1<=wtV p s:=by
 rw[Pc,Pc];have hr:=BP p.bh a;have hg:=HP hf;refine S0 (by omega) (fun m h=>JJ [a] h) ?_ ?_
 ·rw[hg,h];rfl
 ·rw[hg,HM,h,QP,Qf3 rfl];rfl
theorem Ve (p:SPage) (s:List SAddr) (a:SAddr) (h:inL s a=false) (hf:0<=findMod p.bh a):muV p (s++[a])<muV p s:=by
 have hr:=BP p.bh a;have hg:=HP hf;have key:∀ (l:List SModule) (i:Nat),i<l.length->(l.getD i default).to=a->(l.filter fun m=>!inL (s++[a]) m.to).length<(l.filter fun m=>!inL s m.to).length:=by
  intro l
  induction l with
  | nil=>intro i hi;exact absurd hi (Nat.not_lt_zero _)
  | cons m l ih=>
   intro i hi he;have hle:(l.filter fun m=>!inL (s++[a]) m.to).length<=(l.filter fun m=>!inL s m.to).length:=Gg fun m _ h=>JJ [a] h
   rw[List.filter_cons,List.filter_cons];cases i with
   | zero=>
    have he:m.to=a:=he;rw[he,HM,h,QP,Qf3 rfl];simp only[Bool.or_true,Bool.not_true,Bool.not_false,Qe9,Qc7,Qe4,Qa6];omega
   | succ i=>
    have:=ih i (by simpa using hi) he;by_cases h1:(!inL (s++[a]) m.to)=true
    ·rw[Qa2 h1,Qa2 (JJ [a] h1)];simp only[Qa6];omega
    ·rw[Qa3 h1];split
     ·simp only[Qa6];omega
     ·exact this
 exact key _ _ (by omega) hg
theorem PG {α β:Type} (P:β->Prop) (f:β->α->β) (hf:∀ b a,P b->P (f b a)):∀ (l:List α) (b:β),P b->P (l.foldl f b)
 | [],_,h=>h
 | a::l,b,h=>PG P f hf l (f b a) (hf b a h)
theorem KH:∀ (f:Nat) (p:SPage) (a:SAddr) (st:List SAddr×List SAddr),∃ l,(visitF f p a st).1=st.1++l
 | 0,p,a,st=>⟨[],(Qd7 _).symm⟩
 | f+1,p,a,st=>by
  rw[visitF];split
  ·exact⟨[],(Qd7 _).symm⟩
  ·have:=PG (fun b:List SAddr×List SAddr=>∃ l,b.1=st.1++l) (fun st b=>visitF f p b st) (fun b x ⟨l,hl⟩=>by obtain⟨m,hm⟩:=KH f p x b;exact⟨l++m,by rw[hm,hl,Qb4]⟩) (imports p a).1 (st.1++[a],st.2) ⟨[a],rfl⟩
   exact this
theorem Jo:∀ (f g:Nat) (p:SPage) (a:SAddr) (st:List SAddr×List SAddr),muV p st.1<f->muV p st.1<g->visitF f p a st=visitF g p a st
 | 0,_,_,_,_,h,_=>absurd h (Nat.not_lt_zero _)
 | _+1,0,_,_,_,_,h=>absurd h (Nat.not_lt_zero _)
 | f+1,g+1,p,a,st,h1,h2=>by
  rw[visitF,visitF];split
  ·rfl
  ·rename_i hn;have hn:inL st.1 a=false:=by simpa using hn
   have hfold:∀ (l:List SAddr) (s:List SAddr×List SAddr),muV p s.1<f->muV p s.1<g->l.foldl (fun st b=>visitF f p b st) s=l.foldl (fun st b=>visitF g p b st) s:=by
    intro l
    induction l with
    | nil=>intro s _ _;rfl
    | cons b l ih=>
     intro s q1 q2;rw[List.foldl_cons,List.foldl_cons,<-Jo f g p b s q1 q2];obtain⟨m,hm⟩:=KH f p b s;have:=X4 p s.1 m;exact ih _ (by rw[hm];omega) (by rw[hm];omega)
   rcases(Ej p a).2 with he|⟨hm,_⟩
   ·rw[he];rfl
   ·have:=Ve p st.1 a hn hm;rw[hfold _ _ (show muV p (st.1++[a])<f by omega) (show muV p (st.1++[a])<g by omega)]
def visit (p:SPage) (a:SAddr) (st:List SAddr×List SAddr):List SAddr×List SAddr:=visitF (p.bh.length+1) p a st
theorem Ab5 (p:SPage) (s:List SAddr):muV p s<=p.bh.length:=List.length_filter_le _ _
theorem Oq {p:SPage} {a:SAddr} {st:List SAddr×List SAddr} (h:inL st.1 a=true):visit p a st=st:=by unfold visit;rw[visitF,Qa2 h]
theorem S9 {p:SPage} {a:SAddr} {st:List SAddr×List SAddr} (h:inL st.1 a=false):visit p a st=(((imports p a).1.foldl (fun st b=>visit p b st) (st.1++[a],st.2)).1,((imports p a).1.foldl (fun st b=>visit p b st) (st.1++[a],st.2)).2++[a]):=by
 have e:visit p a st=visitF (p.bh.length+2) p a st:=Jo _ _ p a st (by have:=Ab5 p st.1;omega) (by have:=Ab5 p st.1;omega);rw[e,visitF,Qa3 (by rw[h];decide)];rfl
def totV (p:SPage) (s:List SAddr):Nat:=s.length+wtV p s
theorem Pt:∀ (f:Nat) (p:SPage) (a:SAddr) (st:List SAddr×List SAddr),totV p (visitF f p a st).1<=totV p st.1+1/\(visitF f p a st).2.length+st.1.length=st.2.length+(visitF f p a st).1.length
 | 0,p,a,st=>⟨Nat.le_succ _,rfl⟩
 | f+1,p,a,st=>by
  rw[visitF];split
  ·exact⟨Nat.le_succ _,rfl⟩
  ·rename_i hn;have hn:inL st.1 a=false:=by simpa using hn
   have hfold:∀ (l:List SAddr) (s:List SAddr×List SAddr),totV p (l.foldl (fun st b=>visitF f p b st) s).1<=totV p s.1+l.length/\(l.foldl (fun st b=>visitF f p b st) s).2.length+s.1.length=s.2.length+(l.foldl (fun st b=>visitF f p b st) s).1.length:=by
    intro l
    induction l with
    | nil=>intro s;exact⟨Qb0 _,rfl⟩
    | cons b l ih=>
     intro s;rw[List.foldl_cons];have h1:=Pt f p b s;have h2:=ih (visitF f p b s);simp only[Qa6];omega
   have h1:=hfold (imports p a).1 (st.1++[a],st.2);rw[Qa4,Qd6];have h3:(st.1++[a]).length=st.1.length+1:=by simp
   rcases(Ej p a).2 with he|⟨hm,hl⟩
   ·rw[he] at h1 ⊢;have:=Yp p st.1 [a];simp only[totV,Qb5,List.foldl_nil] at *
    omega
   ·have:=WF p st.1 a hn hm;simp only[totV] at *
    omega
def reachOf (p:SPage) (a:SAddr):List SAddr:=(visit p a ([],[])).2
theorem Tm {p:SPage} {a:SAddr} {s:List SAddr} {i:Nat} (h:inL s a=false) (hi:i<(imports p a).1.length):totV p (s++[a])+i<totV p s/\muV p (s++[a])<muV p s:=by
 rcases(Ej p a).2 with he|⟨hm,hl⟩
 ·rw[he] at hi;exact absurd hi (Nat.not_lt_zero _)
 ·have h1:=WF p s a h hm;refine⟨?_,Ve p s a h hm⟩;simp only[totV,Qa4,Qa6,Qb5];omega
theorem Te {p:SPage} {l:List SAddr} {i:Nat} {st:List SAddr×List SAddr} (h:i<l.length):(l.drop i).foldl (fun st b=>visit p b st) st=(l.drop (i+1)).foldl (fun st b=>visit p b st) (visit p (l.getD i default) st):=by rw[drop_cons h];rfl
theorem Ru {p:SPage} {l:List SAddr} {i:Nat} {st:List SAddr×List SAddr} (h:l.length<=i):(l.drop i).foldl (fun st b=>visit p b st) st=st:=by rw[Qb9 h];rfl
theorem L9 (p:SPage) (a:SAddr) (st:List SAddr×List SAddr):totV p (visit p a st).1<=totV p st.1+1/\(visit p a st).2.length+st.1.length=st.2.length+(visit p a st).1.length:=Pt _ _ _ _
abbrev mVis (x:SPage×SAddr×List SAddr×List SAddr×Unit):Nat:=muV x.1 x.2.2.1
def okVis (p:SPage) (a:SAddr) (s o:List SAddr):Prop:=p.bh.length<=1000000000000/\okMb p/\a.host.size<=4000000000/\totV p s<=100000000000/\o.length<=s.length
def GH:GS:=⟨[.l (.v (.el .page)),.l (.v (.el .addr)),.g (.sl .addr),.g (.sl .addr)],[.sl .addr,.sl .addr],fun(x_:SPage×SAddr×(List SAddr)×(List SAddr)×Unit)=>okVis x_.1 x_.2.1 x_.2.2.1 x_.2.2.2.1,fun(x_:SPage×SAddr×(List SAddr)×(List SAddr)×Unit)=>(((visit x_.1 x_.2.1 (x_.2.2.1,x_.2.2.2.1)).1,(visit x_.1 x_.2.1 (x_.2.2.1,x_.2.2.2.1)).2,()),(()))⟩
def visInv (p:SPage) (a:SAddr) (s o se od:List SAddr) (i:Int):Prop:=0<=i/\i<=(imports p a).1.length/\((imports p a).1.drop i.toNat).foldl (fun st b=>visit p b st) (se,od)=(imports p a).1.foldl (fun st b=>visit p b st) (s++[a],o)/\(∃ m,se=(s++[a])++m)/\totV p se<=totV p (s++[a])+i.toNat/\od.length+(s.length+1)=o.length+se.length
theorem Pu {p:SPage} {a:SAddr} {s o se od:List SAddr} {i:Int} (h:visInv p a s o se od i) (hi:i<(imports p a).1.length):visInv p a s o (visit p ((imports p a).1.getD i.toNat default) (se,od)).1 (visit p ((imports p a).1.getD i.toNat default) (se,od)).2 (i+1):=by
 obtain⟨h1,h2,h3,⟨m,hm⟩,h5,h6⟩:=h;have ht:=L9 p ((imports p a).1.getD i.toNat default) (se,od);rw[Te (by omega)] at h3;obtain⟨l,hl⟩:=KH (p.bh.length+1) p ((imports p a).1.getD i.toNat default) (se,od);dsimp only at ht;refine⟨by omega,by omega,?_,⟨m++l,?_⟩,?_,?_⟩
 ·rw[show(i+1).toNat=i.toNat+1 by omega];exact h3
 ·show(visit p _ (se,od)).1=_;unfold visit;rw[hl,hm,Qb4]
 ·rw[show(i+1).toNat=i.toNat+1 by omega];omega
 ·omega
theorem Hl {p:SPage} {a:SAddr} {s o se od:List SAddr} {i:Int} (h:visInv p a s o se od i) (hi:i<(imports p a).1.length) (hn:inL s a=false) (hp:okVis p a s o):okVis p ((imports p a).1.getD i.toNat default) se od/\muV p se<muV p s:=by
 obtain⟨h1,h2,h3,⟨m,hm⟩,h5,h6⟩:=h;obtain⟨p1,p2,p3,p4,p5⟩:=hp;have hr:=Tm hn (show i.toNat<(imports p a).1.length by omega);have hm2:=X4 p (s++[a]) m;rw[<-hm] at hm2;have hb:=(Ej p a).1 _ (Bl (show i.toNat<(imports p a).1.length by omega));exact⟨⟨p1,p2,by omega,by omega,by omega⟩,by omega⟩
theorem HH {p:SPage} (a:SAddr) (h:okMb p):(imports p a).1.length<=4000000000:=by
 have hr:=BP p.bh a;rcases(Ej p a).2 with he|⟨q1,q2⟩
 ·rw[he];decide
 ·have:=h (findMod p.bh a).toNat (by omega);omega
theorem Me {p:SPage} {a:SAddr} {s o se od:List SAddr} {i:Int} (h:visInv p a s o se od i) (hp:okVis p a s o):od.length<=200000000000:=by
 obtain⟨h1,h2,h3,_,h5,h6⟩:=h;obtain⟨p1,p2,p3,p4,p5⟩:=hp;have h7:=HH a p2;have h8:=Yp p s [a];simp only[totV,Qa4,Qa6,Qb5] at *
 omega
theorem LY {p:SPage} {a:SAddr} {s o se od:List SAddr} {i:Int} (h:visInv p a s o se od i) (hi:¬ i<(imports p a).1.length) (hn:inL s a=false):(se,od++[a])=visit p a (s,o):=by
 obtain⟨h1,h2,h3,_⟩:=h;rw[Ru (by omega)] at h3;rw[S9 (st:=(s,o)) hn,<-h3]
theorem S6 (p:SPage) (a:SAddr) (s o:List SAddr) (ho:o.length<=s.length):visInv p a s o (s++[a]) o 0:=by
 refine⟨by omega,by omega,rfl,⟨[],(Qd7 _).symm⟩,Qb0 _,?_⟩;rw[Qa4,Qd6]
theorem MZ (s:List SAddr) (a:SAddr):(s.any fun c=>decide (c=a))=inL s a:=rfl
abbrev Cc (p:SPage) (a:SAddr) (s:(List SAddr)) (o:(List SAddr)):LInv:=⟨[⟨.s,2,true,.sl .addr⟩,⟨.s,3,true,.sl .addr⟩,⟨.s,12,true,.el .int⟩,⟨.b,4,false,.el .page⟩,⟨.b,5,true,.el .addr⟩,⟨.s,10,true,.sl .addr⟩],fun(z_ x_:(List SAddr)×(List SAddr)×Int×SPage×SAddr×(List SAddr)×Unit)=>(((visInv p a s o x_.1 x_.2.1 x_.2.2.1)/\x_.2.2.2.1=z_.2.2.2.1)/\x_.2.2.2.2.1=z_.2.2.2.2.1)/\x_.2.2.2.2.2.1=z_.2.2.2.2.2.1,fun(x_:(List SAddr)×(List SAddr)×Int×SPage×SAddr×(List SAddr)×Unit)=>(imports p a).1.length-x_.2.2.1.toNat⟩
def AkQ:=Ai4.G GH<|GS.ofRec (S:=GH) (L:=fun⟨p,a,s,o,_⟩=>fun|6=>some (Cc p a s o)|_=>none) (kp:=[2,3,4,5,8,9,10,12,15,33,1000015,1000033]) mVis Ai4.2 func408 (by kernel_rfl) (by kernel_rfl) (by
 intro n0;rintro⟨(p:SPage),(a:SAddr),(s:List SAddr),(o:List SAddr),_⟩ hp hm;refine ho (.cl fHasAddr (s,a,()) fun z2=>.br (z2.1) (GS.out GH ((s,o,()),(()))) (.ob (True)<|.ob (BM s.length 32)<|.ob (True)<|.ob (BM (s.length+[a].length) 32)<|.cl Dq (p,a,()) fun z3=>lpx (Cc p a s o) (s++[a],(o,((0:Int),(p,(a,(z3.1,())))))) fun(y6:List SAddr×List SAddr×Int×SPage×SAddr×List SAddr×PUnit) bk6=>.br (decide (y6.2.2.1<(y6.2.2.2.2.2.1.length:Int))) (.ob (inB y6.2.2.1 y6.2.2.2.2.2.1.length)<|.ob (y6.2.2.1.toNat<y6.2.2.2.2.2.1.length)<|.ob (GH.pre (y6.2.2.2.1,y6.2.2.2.2.2.1.getD y6.2.2.1.toNat default,y6.1,y6.2.1,())/\mVis (y6.2.2.2.1,y6.2.2.2.2.2.1.getD y6.2.2.1.toNat default,y6.1,y6.2.1,())<n0)<|.lt _ (GH.fn (y6.2.2.2.1,y6.2.2.2.2.2.1.getD y6.2.2.1.toNat default,y6.1,y6.2.1,())) fun z4=>.ob (bk6 (z4.1.1,(z4.1.2.1,(w1 y6.2.2.1,(y6.2.2.2.1,(y6.2.2.2.2.1,(y6.2.2.2.2.2.1,())))))))<|.ok) (.ob (True)<|.ob (BM y6.2.1.length 32)<|.ob (True)<|.ob (BM (y6.2.1.length+[y6.2.2.2.2.1].length) 32)<|GS.out GH ((y6.1,y6.2.1++[y6.2.2.2.2.1],()),(()))))) ?_;repeat' first|(guard_target =~ Out.holds _ _;first|refine Ay (li:=Cc p a s o) ?_ fun(y6:List SAddr×List SAddr×Int×SPage×SAddr×List SAddr×PUnit) i6=>?_|refine GS.leafY ?_|refine Ab (fun _=>?_) fun _=>?_|refine Af ?_ fun _=>?_|refine Aa ?_ fun _=>?_|refine Du ?_)|exact trivial
 all_goals have hq:okVis p a s o:=hp
 all_goals obtain⟨p1,p2,p3,p4,p5⟩:=(show okVis p a s o from hp)
 all_goals
  have hsl:s.length<=100000000000:=by(simp only[totV] at p4;omega)
  have hil:=HH a p2;try simp only[Az] at *
  try simp only[Cc,fHasAddr,Dq,GH,std,Nat.reduceAdd,fHasAddr,Dq,MZ] at *
 all_goals first|trivial|omega|exact⟨p1,p2,p3⟩|exact S6 p a s o p5|(rw[Oq (by assumption)];exact⟨rfl,rfl⟩)|skip
 all_goals (obtain⟨⟨⟨i1,e1⟩,e2⟩,e3⟩:=i6;simp only[e1,e2,e3] at *)
 all_goals
  have i2:=i1.1;have i3:=Me i1 hq
 all_goals first|trivial|omega|exact⟨i2,by assumption⟩|skip
 all_goals first|exact⟨(Hl i1 (by assumption) (by assumption) hq).1,Qf6 (Hl i1 (by assumption) (by assumption) hq).2 (Nat.le_of_lt_succ hm)⟩|(rw[Ah (by omega)];simp only[Qe1];exact⟨Pu i1 (by assumption),by omega⟩)|(rw[<-LY i1 (by omega) (by assumption)];exact⟨rfl,rfl⟩))
def Bw:Fct:=⟨[.v (.el .page),.v (.el .addr)],[.sl .addr],fun(x_:SPage×SAddr×Unit)=>okVis x_.1 x_.2.1 [] [],fun(x_:SPage×SAddr×Unit)=>(reachOf x_.1 x_.2.1,())⟩
def AjP:=AkQ.a Bw<|Fct.o [2,3,4,6] AkQ.2 func360 (by
 rintro⟨(p:SPage),(a:SAddr),_⟩ hp;refine ho (.ob (GH.pre (p,a,[],[],()))<|.lt _ (GH.fn (p,a,[],[],())) fun z2=>.lf Bw (z2.1.2.1,())) ?_;refine Aa ?_ fun o1=>Du (lfY ?_)
 all_goals
  try simp only[Az] at *
  try simp only[Bw,GH,std,Nat.reduceAdd,GH] at *
 all_goals first|assumption|rfl)
theorem O8:∀ (f:Nat) (p:SPage) (a:SAddr) (st:List SAddr×List SAddr) (x:SAddr),x∈(visitF f p a st).2->x∈st.2\/x=a\/x.host.size<=8
 | 0,p,a,st,x,h=>.inl h
 | f+1,p,a,st,x,h=>by
  rw[visitF] at h;split at h
  ·exact .inl h
  ·have hfold:∀ (l:List SAddr) (s:List SAddr×List SAddr),(∀ y,y∈l->y.host.size<=8)->x∈(l.foldl (fun st b=>visitF f p b st) s).2->x∈s.2\/x.host.size<=8:=by
    intro l
    induction l with
    | nil=>intro s _ h;exact .inl h
    | cons b l ih=>
     intro s hl h;rcases ih _ (fun y hy=>hl y (Qd5 _ hy)) h with h|h
     ·rcases O8 f p b s x h with h|h|h
      ·exact .inl h
      ·exact .inr (h▸hl b Qf1)
      ·exact .inr h
     ·exact .inr h
   rcases Qc0.1 h with h|h
   ·rcases hfold _ _ (fun y hy=>((Ej p a).1 y hy).1) h with h|h
    ·exact .inl h
    ·exact .inr (.inr h)
   ·rw[List.mem_singleton] at h;exact .inr (.inl h)
theorem Hc {p:SPage} {a x:SAddr} (h:x∈reachOf p a) (ha:a.host.size<=4000000000):x.host.size<=4000000000:=by
 rcases O8 _ p a ([],[]) x h with h|h|h
 ·cases h
 ·exact h▸ha
 ·omega
theorem GV {p:SPage} {a:SAddr} (h:totV p []<=100000000000):(reachOf p a).length<=100000000001:=by
 have:=L9 p a ([],[]);unfold reachOf;simp only[Qb5] at this;have h2:(visit p a ([],[])).1.length<=totV p (visit p a ([],[])).1:=Qg1 _ _;omega
def graphReady (p:SPage) (a:SAddr):Bool:=(reachOf p a).all fun b=>decide (0<=findMod p.bh b)&&(p.bh.getD (findMod p.bh b).toNat default).done
def graphFails (p:SPage) (a:SAddr):Bool:=(reachOf p a).any fun b=>!(imports p b).2
theorem AbA {α:Type} [Inhabited α] {f:α->Bool} {l:List α} {i:Nat} (h:i<l.length):(l.drop i).all f=(f (l.getD i default)&&(l.drop (i+1)).all f):=by rw[drop_cons h];rfl
theorem AbT {α:Type} [Inhabited α] {f:α->Bool} {l:List α} {i:Nat} (h:i<l.length):(l.drop i).any f=(f (l.getD i default)||(l.drop (i+1)).any f):=by rw[drop_cons h];rfl
theorem VY {α:Type} {f:α->Bool} {l:List α} {i:Nat} (h:l.length<=i):(l.drop i).all f=true:=by rw[Qb9 h];rfl
theorem XD {α:Type} {f:α->Bool} {l:List α} {i:Nat} (h:l.length<=i):(l.drop i).any f=false:=by rw[Qb9 h];rfl
def Bg:Fct:=⟨[.v (.el .page),.v (.el .addr)],[.el .bool],fun(x_:SPage×SAddr×Unit)=>okVis x_.1 x_.2.1 [] [],fun(x_:SPage×SAddr×Unit)=>(graphReady x_.1 x_.2.1,())⟩
abbrev B1 (p:SPage) (a:SAddr):LInv:=⟨[⟨.s,6,true,.el .int⟩,⟨.b,2,false,.el .page⟩,⟨.s,5,true,.sl .addr⟩],fun(z_ x_:Int×SPage×(List SAddr)×Unit)=>((0<=x_.1/\x_.1<=(reachOf p a).length/\((reachOf p a).drop x_.1.toNat).all (fun b=>decide (0<=findMod p.bh b)&&(p.bh.getD (findMod p.bh b).toNat default).done)=graphReady p a)/\x_.2.1=z_.2.1)/\x_.2.2.1=z_.2.2.1,fun(x_:Int×SPage×(List SAddr)×Unit)=>(reachOf p a).length-x_.1.toNat⟩
def Ais:=AjP.a Bg<|Fct.p (KP [2,3,4,5,6,7] [14,33]) (fun⟨p,a,_⟩=>lv [(3,B1 p a)]) AjP.2 func309 (by
 rintro⟨(p:SPage),(a:SAddr),_⟩ hp;refine ho (.cl Bw (p,a,()) fun z2=>lpx (B1 p a) ((0:Int),(p,(z2.1,()))) fun(y2:Int×SPage×List SAddr×PUnit) bk2=>.br (decide (y2.1<(y2.2.2.1.length:Int))) (.ob (inB y2.1 y2.2.2.1.length)<|.ob (y2.1.toNat<y2.2.2.1.length)<|.cl Cd (y2.2.1,y2.2.2.1.getD y2.1.toNat default,()) fun(z3:Int×PUnit)=>.br (decide (z3.1<0)) (.lf Bg (false,())) (.ob (inB z3.1 y2.2.1.bh.length)<|.br (!(y2.2.1.bh.getD z3.1.toNat default).done) (.lf Bg (false,())) (.ob (bk2 (w1 y2.1,(y2.2.1,(y2.2.2.1,()))))<|.ok))) (.lf Bg (true,()))) ?_;refine Af ?_ fun o1=>(Ay ?_ fun(y2:Int×SPage×List SAddr×PUnit) i2=>Ab (fun h3=>Aa ?_ fun o4=>Aa ?_ fun o5=>Af ?_ fun o6=>(Ab (fun h7=>lfY ?_) (fun h7=>Aa ?_ fun o8=>Ab (fun h9=>lfY ?_) (fun h9=>Aa ?_ fun o10=>trivial)))) (fun h3=>lfY ?_))
 all_goals obtain⟨p1,p2,p3,p4,p5⟩:=(show okVis p a [] [] from hp)
 all_goals
  have hl:=GV (a:=a) p4;try simp only[Az] at *
  try simp only[B1,Bg,Cd,Bw,std,Nat.reduceAdd,Bw,Cd,Hv] at *
 all_goals first|trivial|omega|exact⟨p1,p2,p3,p4,p5⟩|exact⟨by omega,by omega,rfl⟩|skip
 all_goals (obtain⟨⟨⟨i0,i1,i3⟩,e1⟩,e2⟩:=i2;simp only[e1,e2] at *)
 all_goals have hf:=BP p.bh ((reachOf p a).getD y2.1.toNat default)
 all_goals first|assumption|omega|skip
 all_goals first|(rw[VY (by omega)] at i3;exact i3)|rw[AbA (by omega)] at i3
 all_goals first|(rw[<-i3,Qg4 (by omega)];rfl)|(rw[<-i3,Qf3 (by omega),show SModule.done _=false by assumption];rfl)|(rw[Qf3 (by omega),show SModule.done _=true by assumption,Bool.true_and,Bool.true_and] at i3;rw[Ah (by omega),show(y2.1+1).toNat=y2.1.toNat+1 by omega];simp only[Qe1];exact⟨⟨by omega,by omega,i3⟩,by omega⟩))
def BE:Fct:=⟨[.v (.el .page),.v (.el .addr)],[.el .bool],fun(x_:SPage×SAddr×Unit)=>okVis x_.1 x_.2.1 [] [],fun(x_:SPage×SAddr×Unit)=>(graphFails x_.1 x_.2.1,())⟩
abbrev BV (p:SPage) (a:SAddr):LInv:=⟨[⟨.s,6,true,.el .int⟩,⟨.b,2,false,.el .page⟩,⟨.s,5,true,.sl .addr⟩],fun(z_ x_:Int×SPage×(List SAddr)×Unit)=>((0<=x_.1/\x_.1<=(reachOf p a).length/\((reachOf p a).drop x_.1.toNat).any (fun b=>!(imports p b).2)=graphFails p a)/\x_.2.1=z_.2.1)/\x_.2.2.1=z_.2.2.1,fun(x_:Int×SPage×(List SAddr)×Unit)=>(reachOf p a).length-x_.1.toNat⟩
def Alj:=Ais.a BE<|Fct.p (KP [2,3,4,5,6,8] [15,28]) (fun⟨p,a,_⟩=>lv [(3,BV p a)]) Ais.2 func361 (by
 rintro⟨(p:SPage),(a:SAddr),_⟩ hp;refine ho (.cl Bw (p,a,()) fun z2=>lpx (BV p a) ((0:Int),(p,(z2.1,()))) fun(y2:Int×SPage×List SAddr×PUnit) bk2=>.br (decide (y2.1<(y2.2.2.1.length:Int))) (.ob (inB y2.1 y2.2.2.1.length)<|.ob (y2.1.toNat<y2.2.2.1.length)<|.cl Dq (y2.2.1,y2.2.2.1.getD y2.1.toNat default,()) fun z3=>.br (!z3.2.1) (.lf BE (true,())) (.ob (bk2 (w1 y2.1,(y2.2.1,(y2.2.2.1,()))))<|.ok)) (.lf BE (false,()))) ?_;refine Af ?_ fun o1=>(Ay ?_ fun(y2:Int×SPage×List SAddr×PUnit) i2=>Ab (fun h3=>Aa ?_ fun o4=>Aa ?_ fun o5=>Af ?_ fun o6=>(Ab (fun h7=>lfY ?_) (fun h7=>Aa ?_ fun o8=>trivial))) (fun h3=>lfY ?_))
 all_goals obtain⟨p1,p2,p3,p4,p5⟩:=(show okVis p a [] [] from hp)
 all_goals
  have hl:=GV (a:=a) p4;try simp only[Az] at *
  try simp only[BV,BE,Dq,Bw,std,Nat.reduceAdd,Bw,Dq] at *
 all_goals first|trivial|omega|exact⟨p1,p2,p3,p4,p5⟩|exact⟨by omega,by omega,rfl⟩|skip
 all_goals (obtain⟨⟨⟨i0,i1,i3⟩,e1⟩,e2⟩:=i2;simp only[e1,e2] at *)
 all_goals first|assumption|omega|exact⟨p1,p2,Hc (Bl (by omega)) p3⟩|skip
 all_goals first|(rw[XD (by omega)] at i3;exact i3)|rw[AbT (by omega)] at i3
 all_goals first|(rw[<-i3,show Prod.snd (imports p _)=false by assumption];rfl)|(rw[show Prod.snd (imports p _)=true by assumption,Bool.not_true,Bool.false_or] at i3;rw[Ah (by omega),show(y2.1+1).toNat=y2.1.toNat+1 by omega];simp only[Qe1];exact⟨⟨by omega,by omega,i3⟩,by omega⟩))
def bpot (b:SBuilder):Nat:=szBuilder b+10*(40-b.bi.length)
theorem RE (b:SBuilder) (l:List SSheet) (x:SLine):bpot (runLine b l x).1<=bpot b:=by
 unfold runLine;split
 ·exact Qb0 _
 ·split
  ·dsimp only;split
   ·rename_i h;obtain⟨h1,h2,h3⟩:=h;have:=CN h3;have h0:szL szNode []=0:=rfl;have h4:szL A3 []=0:=rfl;have h5:ByteArray.size ⟨#[]⟩=0:=rfl;simp only[bpot,szBuilder,Dp,Ax,h0,szNode,h4,h5,Qa4,Qa6,Qb5];omega
   ·exact Qb0 _
  ·split
   ·exact Qb0 _
   ·split
    ·exact Qb0 _
    ·split<;>exact Qb0 _
theorem Jt (l:List SSheet):∀ (r:List SLine) (b:SBuilder) (w:ByteArray) (g:List ByteArray),bpot (runLines l r b w g).1<=bpot b
 | [],b,w,g=>Qb0 _
 | x::r,b,w,g=>by rw[runLines];exact Qe6 (Jt l r _ _ _) (RE b l x)
theorem M6 (b:SBuilder) (l:List SSheet) (r:List SLine):bpot (runScript b l r).1<=bpot b:=Jt l r b _ _
theorem N0 (b:SBuilder) (l:List SSheet) (r:List SLine):(runScript b l r).2.2.length<=r.length:=by
 have:=(FZ l r b ⟨#[]⟩ []).2.2;show(runLines l r b ⟨#[]⟩ []).2.2.length<=_;simpa using this
theorem L7 (b:ByteArray):∀ (l:List ByteArray) (acc:List SAddr),szL CW (pmGo b l acc).2.1<=366/\(pmGo b l acc).2.1.length<=6
 | [],acc=>⟨Nat.zero_le _,Nat.zero_le _⟩
 | w::l,acc=>by
  rw[pmGo];split
  ·split
   ·exact L7 b l _
   ·exact⟨Nat.zero_le _,Nat.zero_le _⟩
  ·split
   ·exact Es _
   ·exact⟨Nat.zero_le _,Nat.zero_le _⟩
def entLines (p:SPage) (b:SAddr):List SLine:=(parseModule (p.bh.getD (findMod p.bh b).toNat default).body b.host).2.1
theorem HW (p:SPage) (b:SAddr):szL CW (entLines p b)<=366/\(entLines p b).length<=6:=L7 _ _ _
def entRun (p q:SPage) (b:SAddr):SBuilder×ByteArray×List ByteArray:=runScript q.ba (sheetsOf p.bf) (entLines p b)
def enter1 (p q:SPage) (b:SAddr):SPage:=if inL q.ran b=true then q else{ q with ran:=q.ran++[b],ba:=(entRun p q b).1,log:=addLog q.log (entRun p q b).2.2 }
def enterAll (p q:SPage) (l:List SAddr):SPage:=l.foldl (enter1 p) q
def enter (p:SPage) (a:SAddr):SPage:=if graphFails p a=true then say p (⟨#[102,97,105,108,32]⟩++formatAddr a) else enterAll p p (reachOf p a)
theorem Rv {p q:SPage} {l:List SAddr} {i:Nat} (h:i<l.length):enterAll p q (l.drop i)=enterAll p (enter1 p q (l.getD i default)) (l.drop (i+1)):=by rw[drop_cons h];rfl
theorem JB {p q:SPage} {l:List SAddr} {i:Nat} (h:l.length<=i):enterAll p q (l.drop i)=q:=by rw[Qb9 h];rfl
theorem Uu (l:List ByteArray):∀ g:List ByteArray,(addLog g l).length<=max g.length 40:=by
 induction l with
 | nil=>intro g;rw[FA];omega
 | cons x l ih=>
  intro g;rw[addLog];split
  ·have:=ih (g++[x]);rw[Qa4,Qd6] at this;omega
  ·omega
def okEnt (p:SPage) (a:SAddr):Prop:=szPage p<=1000000000000/\okVis p a [] []/\szAddr a<=1000000000000/\szBuilder p.ba<=20000000000/\szL AF p.bf<=40000000000/\okBod p
def entInv (p:SPage) (a:SAddr) (q:SPage) (i:Int):Prop:=0<=i/\i<=(reachOf p a).length/\enterAll p q ((reachOf p a).drop i.toNat)=enterAll p p (reachOf p a)/\q={ p with ran:=q.ran,ba:=q.ba,log:=q.log }/\bpot q.ba<=bpot p.ba/\q.ran.length<=p.ran.length+i.toNat/\q.log.length<=max p.log.length 40
def logInv (q1:SPage) (g:List ByteArray) (q:SPage) (k:Int):Prop:=0<=k/\k<=g.length/\q={ q1 with log:=q.log }/\addLog q.log (g.drop k.toNat)=addLog q1.log g
theorem Sa (q:SPage) (g:List ByteArray):logInv q g q 0:=⟨by omega,by omega,rfl,rfl⟩
theorem PL {q1 q:SPage} {g:List ByteArray} {k:Int} (h:logInv q1 g q k) (hk:k<g.length):logInv q1 g (say q (g.getD k.toNat default)) (k+1):=by
 obtain⟨h1,h2,h3,h4⟩:=h;rw[Om (by omega)] at h4;refine⟨by omega,by omega,?_,?_⟩
 ·unfold say;split
  ·rw[h3]
  ·exact h3
 ·rw[show(k+1).toNat=k.toNat+1 by omega];unfold say;split
  ·rename_i hc;rw[Qa2 hc] at h4;exact h4
  ·rename_i hc;rw[Qa3 hc] at h4;rw[F1 hc];exact h4
theorem MK {q1 q:SPage} {g:List ByteArray} {k:Int} (h:logInv q1 g q k) (hk:¬ k<g.length):q={ q1 with log:=addLog q1.log g }:=by
 obtain⟨h1,h2,h3,h4⟩:=h;rw[Mc (by omega)] at h4;rw[<-h4];exact h3
theorem OM {p:SPage} {x:SAddr} (h:(imports p x).2=true):0<=findMod p.bh x:=by
 unfold imports at h;split at h
 ·cases h
 ·rename_i hc;omega
theorem IJ {p:SPage} {a x:SAddr} (h:graphFails p a=false) (hx:x∈reachOf p a):0<=findMod p.bh x:=by
 unfold graphFails at h;rw[List.any_eq_false] at h;have:=h x hx;refine OM ?_;cases hi:(imports p x).2 with
 | true=>rfl
 | false=>rw[hi] at this;exact absurd rfl this
theorem SR (p:SPage) (a:SAddr):entInv p a p 0:=⟨by omega,by omega,rfl,rfl,Qb0 _,Qb0 _,Nat.le_max_left _ _⟩
theorem EN {p q:SPage} {a:SAddr} {i:Int} (h:entInv p a q i):q.bh=p.bh/\q.bf=p.bf:=by
 have e:=h.2.2.2.1;exact⟨by rw[e],by rw[e]⟩
theorem Kk {p q:SPage} {a:SAddr} {i:Int} (h:entInv p a q i) (hp:okEnt p a):q.ran.length<=1200000000000/\szBuilder q.ba<=30000000000/\szL Dt (sheetsOf p.bf)<=80000000000/\okSheets (sheetsOf p.bf)/\szL AF p.bf<=40000000000/\(reachOf p a).length<=100000000001/\p.bh.length<=1000000000000:=by
 obtain⟨h1,h2,h3,h4,h5,h6,h7⟩:=h;obtain⟨p1,⟨q1,q2,q3,q4,q5⟩,p3,p4,p5,p6⟩:=hp;have hl:=GV (a:=a) q4;have hs:=Ef p.bf;have hpp:=DO p;have hr:=Ad szAddr p.ran;have hm:=Ad Aq p.bh;have hb:szBuilder q.ba<=bpot q.ba:=Qg1 _ _;have hb2:bpot p.ba<=szBuilder p.ba+400:=by unfold bpot;omega
 exact⟨by omega,by omega,by omega,hs.2,by omega,hl,by omega⟩
theorem Ig {p q:SPage} {a:SAddr} {i:Int} (h:entInv p a q i) (hi:i<(reachOf p a).length):entInv p a (enter1 p q ((reachOf p a).getD i.toNat default)) (i+1):=by
 obtain⟨h1,h2,h3,h4,h5,h6,h7⟩:=h;rw[Rv (by omega)] at h3;refine⟨by omega,by omega,by rw[show(i+1).toNat=i.toNat+1 by omega];exact h3,?_,?_,?_,?_⟩
 ·unfold enter1;split
  ·exact h4
  ·rw[h4]
 ·unfold enter1;split
  ·exact h5
  ·exact Qe6 (M6 _ _ _) h5
 ·unfold enter1;split
  ·omega
  ·rw[Qa4,Qd6];omega
 ·unfold enter1;split
  ·exact h7
  ·have:=Uu (entRun p q ((reachOf p a).getD i.toNat default)).2.2 q.log;show(addLog _ _).length<=_;omega
theorem UF (p q:SPage) (b:SAddr):runScript q.ba (sheetsOf p.bf) (parseModule (p.bh.getD (findMod p.bh b).toNat default).body b.host).2.1=entRun p q b:=rfl
theorem Mp (a:SAddr):(formatAddr a).size<=szAddr a+1:=by
 unfold formatAddr;split
 ·rw[Qb7,Qb7];simp only[szAddr,show ByteArray.size ⟨#[47]⟩=1 from rfl];omega
 ·exact Nat.zero_le _
def J4:Fct:=⟨[.v (.el .page),.v (.el .addr)],[.el .page],fun(x_:SPage×SAddr×Unit)=>okEnt x_.1 x_.2.1,fun(x_:SPage×SAddr×Unit)=>(enter x_.1 x_.2.1,())⟩
abbrev Di (p:SPage) (a:SAddr):LInv:=⟨[⟨.b,5,true,.el .page⟩,⟨.s,7,true,.el .int⟩,⟨.b,4,true,.el .page⟩,⟨.s,6,true,.sl .addr⟩],fun(z_ x_:SPage×Int×SPage×(List SAddr)×Unit)=>((entInv p a x_.1 x_.2.1)/\x_.2.2.1=z_.2.2.1)/\x_.2.2.2.1=z_.2.2.2.1,fun(x_:SPage×Int×SPage×(List SAddr)×Unit)=>(reachOf p a).length-x_.2.1.toNat⟩
abbrev C4 (p:SPage) (a:SAddr):LInv:=⟨[⟨.b,5,true,.el .page⟩,⟨.s,14,true,.el .int⟩,⟨.s,13,true,.sl .str⟩,⟨.s,6,true,.sl .addr⟩,⟨.b,4,true,.el .page⟩],fun(z_ x_:SPage×Int×(List ByteArray)×(List SAddr)×SPage×Unit)=>(x_.2.2.1=z_.2.2.1/\x_.2.2.2.1=z_.2.2.2.1/\logInv z_.1 z_.2.2.1 x_.1 x_.2.1)/\x_.2.2.2.2.1=z_.2.2.2.2.1,fun(x_:SPage×Int×(List ByteArray)×(List SAddr)×SPage×Unit)=>x_.2.2.1.length-x_.2.1.toNat⟩
def Ak8:=Alj.a J4<|Fct.p (KP [2,3,4,5,6,7,9,11,13,14] [19,31,40,86]) (fun⟨p,a,_⟩=>fun|6=>some (Di p a)|14=>some (C4 p a)|_=>none) Alj.2 func310 (by
 rintro⟨(p:SPage),(a:SAddr),_⟩ hp;refine ho (let q1_:=(⟨#[102,97,105,108,32]⟩:ByteArray);.cl fCopyPage (p,()) fun z2=>.cl BE (p,a,()) fun z3=>.br (z3.1) (.cl BW (a,()) fun z4=>.ob (sameSize q1_ z4.1)<|.ob (Qs.pre (z2.1,q1_++z4.1,()))<|.lt _ (Qs.fn (z2.1,q1_++z4.1,())) fun z5=>.lf J4 (z5.1.1,())) (.cl Bw (p,a,()) fun z6=>lpx (Di p a) (z2.1,((0:Int),(default,(z6.1,())))) fun(y7:SPage×Int×SPage×List SAddr×PUnit) bk7=>let q3_:=({y7.1 with ran:=y7.1.ran++[y7.2.2.2.1.getD y7.2.1.toNat default]}:SPage);let q2_:=inB y7.2.1 y7.2.2.2.1.length;let q0_:=y7.2.1.toNat<y7.2.2.2.1.length;.br (decide (y7.2.1<(y7.2.2.2.1.length:Int))) (.ob q2_<|.ob q0_<|.cl fHasAddr (y7.1.ran,y7.2.2.2.1.getD y7.2.1.toNat default,()) fun z7=>.br (z7.1) (.ob (bk7 (y7.1,(w1 y7.2.1,(y7.2.2.1,(y7.2.2.2.1,())))))<|.ok) (.ob q2_<|.ob q0_<|.ob (True)<|.ob (BM (y7.1.ran.length+[y7.2.2.2.1.getD y7.2.1.toNat default].length) 32)<|.ob q2_<|.ob q0_<|.cl Cd (q3_,y7.2.2.2.1.getD y7.2.1.toNat default,()) fun(z8:Int×PUnit)=>.ob (inB z8.1 y7.1.bh.length)<|.ob (z8.1.toNat<y7.1.bh.length)<|.ob q2_<|.ob q0_<|.cl Aw ((y7.1.bh.getD z8.1.toNat default).body,(y7.2.2.2.1.getD y7.2.1.toNat default).host,()) fun z9=>.cl CG (q3_,()) fun z10=>.cl BZ (y7.1.ba,z10.1,z9.2.1,()) fun z11=>lpx (C4 p a) (({y7.1 with ba:=z11.1,ran:=y7.1.ran++[y7.2.2.2.1.getD y7.2.1.toNat default]}:SPage),((0:Int),(z11.2.2.1,(y7.2.2.2.1,(y7.2.2.1,()))))) fun(y27:SPage×Int×List ByteArray×List SAddr×SPage×PUnit) bk27=>.br (decide (y27.2.1<(y27.2.2.1.length:Int))) (.ob (inB y27.2.1 y27.2.2.1.length)<|.ob (y27.2.1.toNat<y27.2.2.1.length)<|.ob (Qs.pre (y27.1,y27.2.2.1.getD y27.2.1.toNat default,()))<|.lt _ (Qs.fn (y27.1,y27.2.2.1.getD y27.2.1.toNat default,())) fun z12=>.ob (Value.int IntKind.i64 y7.2.1=Value.int IntKind.i64 y7.2.1)<|.ob (bk27 (z12.1.1,(w1 y27.2.1,(y27.2.2.1,(y27.2.2.2.1,(y27.2.2.2.2.1,()))))))<|.ok) (.ob (bk7 (y27.1,(w1 y7.2.1,(y27.2.2.2.2.1,(y27.2.2.2.1,())))))<|.ok))) (.lf J4 (y7.1,())))) ?_;refine Af ?_ fun o1=>(Af ?_ fun o2=>(Ab (fun h3=>Af ?_ fun o4=>(Aa ?_ fun o5=>Aa trivial fun _=>Du (lfY ?_))) (fun h3=>Af ?_ fun o6=>(Ay ?_ fun(y7:SPage×Int×SPage×List SAddr×PUnit) i7=>Ab (fun h8=>Aa ?_ fun o9=>Aa ?_ fun o10=>Af ?_ fun o11=>(Ab (fun h12=>Aa ?_ fun o13=>trivial) (fun h12=>Aa ?_ fun o14=>Aa ?_ fun o15=>Aa trivial fun _=>Aa ?_ fun o16=>Aa ?_ fun o17=>Aa ?_ fun o18=>Af ?_ fun o19=>(Aa ?_ fun o20=>Aa ?_ fun o21=>Aa ?_ fun o22=>Aa ?_ fun o23=>Af ?_ fun o24=>(Af ?_ fun o25=>(Af ?_ fun o26=>(Ay ?_ fun(y27:SPage×Int×List ByteArray×List SAddr×SPage×PUnit) i27=>Ab (fun h28=>Aa ?_ fun o29=>Aa ?_ fun o30=>Aa trivial fun _=>Du (Aa rfl fun _=>Aa ?_ fun o31=>trivial)) (fun h28=>Aa ?_ fun o32=>trivial)))))))) (fun h8=>lfY ?_)))))
 all_goals have hq:okEnt p a:=hp
 all_goals obtain⟨p1,p2,p3,p4,p5,p6⟩:=(show okEnt p a from hp)
 all_goals
  have hfa:=Mp a;try simp only[Az] at *
  try simp only[C4,Di,fCopyPage,J4,BW,BE,fHasAddr,Cd,Aw,Bw,BZ,Qs,CG,std,Nat.reduceAdd,fCopyPage,BE,BW,Qs,Bw,fHasAddr,Aw,BZ,CG,Cd,Hv,MZ] at *
 all_goals first|trivial|omega|exact p2|(unfold sameSize;rw[show ByteArray.size ⟨#[102,97,105,108,32]⟩=5 from rfl];omega)|exact SR p a|(unfold enter;rw[Qa2 (by assumption)])|skip
 all_goals (obtain⟨⟨i1,e1⟩,e2⟩:=i7;have em:=(EN i1).1;have es:=(EN i1).2;have i0:=i1.1;have iz:=Kk i1 hq)
 all_goals try simp only[e2,em,es,UF] at *
 all_goals first|trivial|omega|skip
 all_goals try (have hmem:=Bl (l:=reachOf p a) (i:=y7.2.1.toNat) (by omega);have hfnd:=IJ (by assumption) hmem;have hfi:=BP p.bh ((reachOf p a).getD y7.2.1.toNat default))
 all_goals first|exact⟨hfnd,hfi.1⟩|exact⟨by omega,p6⟩|exact⟨p2.2.1 _ (by omega),Hc hmem p2.2.2.1⟩|exact⟨by omega,by omega,Qe6 (HW p _).1 (by decide),iz.2.2.2.1⟩|exact Sa _ _|(rw[Ah (by omega)];have e:=Ig i1 (by omega);unfold enter1 at e;rw[Qa2 (by assumption)] at e;exact⟨⟨⟨e,e1⟩,trivial⟩,by omega⟩)|(unfold enter;rw[Qa3 (by intro q;exact tf q (by assumption))];have e:=i1.2.2.1;rw[JB (by omega)] at e;exact e)|skip
 all_goals (obtain⟨⟨j1,j2,j3⟩,j4⟩:=i27;simp only[j1,j2,j4] at *;have j0:=j3.1;have hgl:=Qe6 (N0 y7.1.ba (sheetsOf p.bf) (entLines p ((reachOf p a).getD y7.2.1.toNat default))) (HW p _).2;rw[show runScript y7.1.ba (sheetsOf p.bf) (entLines p ((reachOf p a).getD y7.2.1.toNat default))=entRun p y7.1 ((reachOf p a).getD y7.2.1.toNat default) from rfl] at hgl)
 all_goals first|exact⟨j0,by assumption⟩|(rw[Ah (by omega)];simp only[Qe1,true_and];exact⟨PL j3 (by assumption),by omega⟩)|skip
 all_goals
  have e:=MK j3 (by omega);have em2:=EN i1;have e5:y27.1=enter1 p y7.1 ((reachOf p a).getD y7.2.1.toNat default):=by rw[e];unfold enter1;rw[Qa3 (by intro q;exact tf q (by assumption))];simp only[em2.1,em2.2]
 all_goals rw[Ah (by omega),e5]
 all_goals exact⟨⟨⟨Ig i1 (by omega),by first|trivial|assumption⟩,by first|trivial|assumption⟩,by omega⟩)
theorem AbL (g:SModule->Bool):∀ l:List SModule,wtL g l<=szL Aq l
 | []=>Qb0 _
 | m::l=>by have:=AbL g l;rw[wtL,Ax];split<;>simp only[Aq]<;>omega
theorem Al4 (p:SPage):totV p []<=szL Aq p.bh:=by
 unfold totV;rw[Pc,Qb5,Qd4];exact AbL _ _
def okTail (p:SPage):Prop:=okParse p/\okMb p/\szL Aq p.bh<=50000000000/\∀ i,i<p.bg.length->(p.bg.getD i default).host.size<=4000000000
theorem MM {p:SPage} (h:okTail p) {i:Nat} (hi:i<p.bg.length):okEnt p (p.bg.getD i default):=by
 obtain⟨⟨⟨h1,h1a,h1b,h1c,h1e⟩,h1d,h1f⟩,h2,h2a,h3⟩:=h;have hpp:=DO p;have ht:=Al4 p;have hm:=Ad Aq p.bh;have ha:=Dx szAddr hi;exact⟨h1,⟨by omega,h2,h3 i hi,by omega,Qb0 _⟩,by omega,by unfold szBuilder;omega,h1d,h1f⟩
def defSlot (p:SPage):SSlot:=p.bf.getD ((deferredSlots p).getD p.bm.toNat default).toNat default
def entNow (p:SPage):SAddr:=p.bg.getD p.bq.toNat default
def tailDefer (p:SPage):SPage×Bool :=
 if(defSlot p).done=false\/stylesReady p.bf=false then(p,false)
 else if(defSlot p).code=1 then({ runCode p (defSlot p).body false with bm:=p.bm+1 },true)
 else({ p with bm:=p.bm+1 },true)
def tailEnter (p:SPage):SPage×Bool :=
 if graphReady p (entNow p)=false\/stylesReady p.bf=false then(p,false)
 else({ enter p (entNow p) with bq:=p.bq+1 },true)
def stepTail (p:SPage):SPage×Bool :=
 if isParsed p=false\/p.loaded=true\/p.bm<0\/p.bq<0 then(p,false)
 else if p.bm<(deferredSlots p).length then tailDefer p
 else if p.bq<p.bg.length then tailEnter p
 else if 0<(openSlots p).length\/0<(openMods p).length then(p,false)
 else({ say p ⟨#[108,111,97,100]⟩ with loaded:=true },true)
theorem Ho (p:SPage) (h:0<=p.bm) (h2:p.bm<(deferredSlots p).length):0<=(deferredSlots p).getD p.bm.toNat default/\(deferredSlots p).getD p.bm.toNat default<p.bf.length:=by
 have hm:=Bl (l:=deferredSlots p) (i:=p.bm.toNat) (by omega);have:=EL (fun s:SSlot=>decide (s.mode=4)) p.bf 0 _ hm;omega
theorem K4 (p:SPage):p.bf.getD ((deferredSlots p).getD p.bm.toNat default).toNat default=defSlot p:=rfl
theorem L2 (p:SPage):p.bg.getD p.bq.toNat default=entNow p:=rfl
def Bt:Fct:=⟨[.v (.el .page)],[.el .page,.el .bool],fun(x_:SPage×Unit)=>okTail x_.1,fun(x_:SPage×Unit)=>((stepTail x_.1).1,(stepTail x_.1).2,())⟩
def AjN:=Ak8.a Bt<|Fct.o (KP [1,2,3,4,5,6,7] [26,34,51,59,78,93,112]) Ak8.2 func247 (by
 rintro⟨(p:SPage),_⟩ hp;refine ho (let q3_:=(⟨#[108,111,97,100]⟩:ByteArray);.cl fCopyPage (p,()) fun z2=>let q0_:Out:=.lf Bt (z2.1,false,());.cl CK (p,()) fun z3=>.br (!z3.1) q0_ (.br (p.loaded) q0_ (.br (decide (p.bm<0)) q0_ (.br (decide (p.bq<0)) q0_ (.cl Bb (p,()) fun(z4:List Int×PUnit)=>let q2_:=p.bf.getD (z4.1.getD p.bm.toNat default).toNat default;let q1_:=0<=z4.1.getD p.bm.toNat default/\z4.1.getD p.bm.toNat default<(p.bf.length:Int);.br (decide (p.bm<(z4.1.length:Int))) (.ob (inB p.bm z4.1.length)<|.ob (p.bm.toNat<z4.1.length)<|.ob q1_<|.br (!q2_.done) q0_ (.cl AD (p,()) fun z5=>.br (!z5.1) q0_ (.ob q1_<|.br (q2_.code==1) (.ob q1_<|.cl Bv (p,q2_.body,false,()) fun z6=>.lf Bt ({z6.1 with bm:=w1 p.bm},true,())) (.lf Bt ({z2.1 with bm:=w1 p.bm},true,()))))) (.br (decide (p.bq<(p.bg.length:Int))) (.ob (inB p.bq p.bg.length)<|.cl Bg (p,p.bg.getD p.bq.toNat default,()) fun z7=>.br (!z7.1) q0_ (.cl AD (p,()) fun z8=>.br (!z8.1) q0_ (.cl J4 (p,p.bg.getD p.bq.toNat default,()) fun z9=>.lf Bt ({z9.1 with bq:=w1 p.bq},true,())))) (.cl Bk (p,()) fun(z10:List Int×PUnit)=>.br (decide ((z10.1.length:Int)>0)) q0_ (.cl BT (p,()) fun(z11:List Int×PUnit)=>.br (decide ((z11.1.length:Int)>0)) q0_ (.ob (Qs.pre (z2.1,q3_,()))<|.lt _ (Qs.fn (z2.1,q3_,())) fun z12=>.lf Bt ({z12.1.1 with loaded:=true},true,())))))))))) ?_;refine Af ?_ fun o1=>(Af trivial fun _=>(Ab (fun h2=>lfY ?_) (fun h2=>Ab (fun h3=>lfY ?_) (fun h3=>Ab (fun h4=>lfY ?_) (fun h4=>Ab (fun h5=>lfY ?_) (fun h5=>Af ?_ fun o6=>(Ab (fun h7=>Aa ?_ fun o8=>Aa ?_ fun o9=>Aa ?_ fun o10=>Ab (fun h11=>lfY ?_) (fun h11=>Af ?_ fun o12=>(Ab (fun h13=>lfY ?_) (fun h13=>Aa ?_ fun o14=>Ab (fun h15=>Aa ?_ fun o16=>Af ?_ fun o17=>(lfY ?_)) (fun h15=>lfY ?_))))) (fun h7=>Ab (fun h18=>Aa ?_ fun o19=>Af ?_ fun o20=>(Ab (fun h21=>lfY ?_) (fun h21=>Af ?_ fun o22=>(Ab (fun h23=>lfY ?_) (fun h23=>Af ?_ fun o24=>(lfY ?_)))))) (fun h18=>Af ?_ fun o25=>(Ab (fun h26=>lfY ?_) (fun h26=>Af ?_ fun o27=>(Ab (fun h28=>lfY ?_) (fun h28=>Aa trivial fun _=>Du (lfY ?_))))))))))))))
 all_goals have hq:okTail p:=hp
 all_goals obtain⟨⟨⟨hp1,hp2,hp3,hp4,hp9⟩,hp8,hp5⟩,hp6,hp10,hp7⟩:=(show okTail p from hp)
 all_goals
  have hbb:szBuilder p.ba<=2000000000:=by(unfold szBuilder;omega)
  have hpp:=DO p;have hsl:=Ad AF p.bf;have hml:=Ad Aq p.bh;have hel:=Ad szAddr p.bg;have hdl:(deferredSlots p).length<=p.bf.length:=Dr _ _ _;try simp only[Az] at *
  try simp only[fCopyPage,Bb,J4,Bg,CK,BT,Bk,Bv,Qs,Bt,AD,std,Nat.reduceAdd,fCopyPage,CK,Bb,AD,Bv,Bg,J4,Bk,BT,Qs,K4,L2] at *
 all_goals first|trivial|omega|skip
 all_goals
  have hds:0<=p.bm->p.bm<(deferredSlots p).length->(defSlot p).body.size<=4200000000:=fun a b=>hp5 _ (by have:=Ho p a b;omega)
  have hes:0<=p.bq->p.bq<p.bg.length->okEnt p (entNow p):=fun a b=>MM hq (by omega)
 all_goals first|exact Ho p (by assumption) (by assumption)|exact⟨hp1,by omega,by omega,hds (by assumption) (by assumption),hp5⟩|exact hes (by assumption) (by assumption)|exact(hes (by assumption) (by assumption)).2.1|skip
 all_goals unfold stepTail
 all_goals repeat first|rw[Qa2 (by first|assumption|omega|exact .inl (by assumption)|exact .inr (by assumption)|exact .inr (.inl (by assumption))|exact .inr (.inr (.inl (by omega)))|exact .inr (.inr (.inr (by omega)))|exact .inl (by omega)|exact .inr (by omega))]|rw[Qa3 (by first|omega|(rintro(q|q|q|q)<;>first|omega|exact tf (by assumption) q|exact tf q (by assumption))|(rintro(q|q)<;>first|omega|exact tf (by assumption) q))]|unfold tailDefer|unfold tailEnter
 all_goals first|exact⟨rfl,rfl⟩|(rw[Ah (by omega)];exact⟨rfl,rfl⟩))
def undS:List SSlot->Nat
 | []=>0
 | s::l=>(if s.done=true then 0 else 1)+undS l
def undM:List SModule->Nat
 | []=>0
 | m::l=>(if m.done=true then 0 else 1)+undM l
def nrL (r:List SAddr):List SModule->Nat
 | []=>0
 | m::l=>(if inL r m.to=true then 0 else szAddr m.to+1)+nrL r l
theorem JM:∀ l k:List SSlot,undS (l++k)=undS l+undS k
 | [],k=>(Qd4 _).symm
 | s::l,k=>by rw[Qf4,undS,undS,JM l k];omega
theorem JO:∀ l k:List SModule,undM (l++k)=undM l+undM k
 | [],k=>(Qd4 _).symm
 | s::l,k=>by rw[Qf4,undM,undM,JO l k];omega
theorem Nx (r:List SAddr):∀ l k:List SModule,nrL r (l++k)=nrL r l+nrL r k
 | [],k=>(Qd4 _).symm
 | s::l,k=>by rw[Qf4,nrL,nrL,Nx r l k];omega
theorem RP (r:List SAddr) (b:SAddr):∀ l:List SModule,nrL (r++[b]) l<=nrL r l
 | []=>Qb0 _
 | m::l=>by
  have:=RP r b l;rw[nrL,nrL,HM];cases inL r m.to with
  | true=>rw[Bool.true_or,Qa2 rfl];omega
  | false=>
   rw[Bool.false_or,Qa3 (show ¬ false=true by decide)];split<;>omega
theorem S1 (r:List SAddr) (b:SAddr) (hb:inL r b=false):∀ (l:List SModule) (i:Nat),i<l.length->(l.getD i default).to=b->nrL (r++[b]) l+szAddr b+1<=nrL r l
 | [],i,h,_=>absurd h (Nat.not_lt_zero _)
 | m::l,0,_,he=>by
  have he:m.to=b:=he;have:=RP r b l;rw[nrL,nrL,he,HM,hb,QP,Qf3 rfl,Bool.false_or,Qa2 rfl,Qa3 (by decide)];omega
 | m::l,i+1,h,he=>by
  have ih:=S1 r b hb l i (by simpa using h) he;rw[nrL,nrL,HM];cases inL r m.to with
  | true=>rw[Bool.true_or,Qa2 rfl];omega
  | false=>
   rw[Bool.false_or,Qa3 (show ¬ false=true by decide)];split<;>omega
def nodeP (b:SBuilder):Nat:=szL szNode b.bi+4000010*(40-b.bi.length)
def openP (b:SBuilder):Nat:=b.bl.length+(40-b.bi.length)
def slotP (l:List SSlot):Nat:=szL AF l+400*undS l+500000800*(20-l.length)
def entP (l:List SAddr):Nat:=szL szAddr l+100*(20-l.length)
def modP (l:List SModule) (n:Nat):Nat:=szL Aq l+500*undM l+600*(20-n)
def logP (l:List ByteArray):Nat:=szL Ac l+200*(40-l.length)
def ranP (l:List SModule) (r:List SAddr) (n:Nat):Nat:=szL szAddr r+nrL r l+100*(20-n)
def okQ (q:List SToken) (Q:Nat):Prop:=(∀ t,t∈q->Aj t<=4000000)/\szL Aj q<=Q
def okB (b:SBuilder):Prop:=nodeP b<=200000000/\openP b<=3000000
def okS (l:List SSlot):Prop:=slotP l<=13000000000/\∀ s,s∈l->s.body.size<=2000000
def okE (l:List SModule) (e r:List SAddr) (M R:Nat):Prop:=entP e<=3000000/\modP l e.length<=M/\ranP l r e.length<=R/\∀ m,m∈l->m.body.size<=2000000
def okLg (g:List ByteArray):Prop:=logP g<=3000000
def okCm (p:SPage):Prop:=szPolicy p.bj+szAddr p.addr<=4000000/\p.tok.rest.size<=4000000
def okAll (p:SPage) (Q M R:Nat):Prop:=okQ p.bn Q/\okB p.ba/\okS p.bf/\okE p.bh p.bg p.ran M R/\okLg p.log/\okCm p
theorem NA {q:List SToken} {Q Q':Nat} (h:okQ q Q) (hq:Q<=Q'):okQ q Q':=⟨h.1,Qe6 h.2 hq⟩
theorem Ja {p:SPage} {Q Q' M R:Nat} (h:okAll p Q M R) (hq:Q<=Q'):okAll p Q' M R:=⟨NA h.1 hq,h.2⟩
theorem AeW {b:SBuilder} {t:SToken} (h:okB b) (ht:Aj t<=4000000):okB (addToken b t).1:=by
 obtain⟨h1,h2⟩:=h;unfold addToken;split
 ·have:=Iz b t.name _ (Qb0 _);refine⟨h1,?_⟩;unfold openP at *
  show(closeN b t.name b.bl.length).length+(40-b.bi.length)<=_;omega
 ·split
  ·rename_i hc;have hc:=hc.1;have h0:szL szNode []=0:=rfl;have h3:szL A3 []=0:=rfl;have h4:ByteArray.size ⟨#[]⟩=0:=rfl;split
   ·refine⟨?_,?_⟩
    ·unfold nodeP at *
     dsimp only;rw[Dp,Ax,h0,Qa4,Qd6];simp only[szNode,Aj,h4] at *;omega
    ·unfold openP at *
     dsimp only;rw[Qa4,Qd6];split
     ·omega
     ·rw[Qa4,Qd6];omega
   ·refine⟨?_,?_⟩
    ·unfold nodeP at *
     dsimp only;rw[Dp,Ax,h0,Qa4,Qd6];simp only[szNode,Aj,h4,h3] at *;omega
    ·unfold openP at *
     dsimp only;rw[Qa4,Qd6];omega
  ·exact⟨h1,h2⟩
theorem SQ {b:SBuilder} (l:List SSheet) (x:SLine) (h:okB b):okB (runLine b l x).1:=by
 unfold runLine;split
 ·exact h
 ·split
  ·dsimp only;split
   ·rename_i hc;obtain⟨c1,c2,c3⟩:=hc;obtain⟨h1,h2⟩:=h;have:=CN c3;have h0:szL szNode []=0:=rfl;have h3:szL A3 []=0:=rfl;have h4:ByteArray.size ⟨#[]⟩=0:=rfl;refine⟨?_,?_⟩
    ·unfold nodeP at *
     dsimp only;rw[Dp,Ax,h0,Qa4,Qd6];simp only[szNode,h4,h3] at *;omega
    ·unfold openP at *
     dsimp only;rw[Qa4,Qd6];omega
   ·exact h
  ·split
   ·exact h
   ·split
    ·exact h
    ·split<;>exact h
theorem KW (l:List SSheet):∀ (r:List SLine) (b:SBuilder) (w:ByteArray) (g:List ByteArray),okB b->okB (runLines l r b w g).1
 | [],b,w,g,h=>h
 | x::r,b,w,g,h=>by rw[runLines];exact KW l r _ _ _ (SQ l x h)
theorem Z8 {b:SBuilder} {l:List SSheet} {x:SLine} (hl:okSheets l) (hb:b.bi.length<=9000000000000000000) (hx:x.text.size<=60):(runLine b l x).2.2.size<=199:=by
 have h0:ByteArray.size ⟨#[]⟩=0:=rfl;have hc:=Jm x.text b.bi;have hk:=L0 hl x.text;have f1:=Lg (n:=countName x.text b.bi) (by omega) (by omega);have f2:=Lg (n:=colorOf l x.text) hk.1 hk.2;have s1:ByteArray.size ⟨#[99,111,117,110,116,32]⟩=6:=rfl;have s2:ByteArray.size ⟨#[32]⟩=1:=rfl;have s3:ByteArray.size ⟨#[108,111,111,107,32]⟩=5:=rfl;have s4:ByteArray.size ⟨#[115,97,121,32]⟩=4:=rfl;unfold runLine;split
 ·dsimp only;omega
 ·split
  ·dsimp only;omega
  ·split
   ·dsimp only;rw[Qb7,Qb7,Qb7];omega
   ·split
    ·dsimp only;rw[Qb7,Qb7,Qb7];omega
    ·split
     ·dsimp only;rw[Qb7];omega
     ·dsimp only;omega
theorem LL (l:List SSheet) (hl:okSheets l):∀ (r:List SLine) (b:SBuilder) (w:ByteArray) (g:List ByteArray),okB b->(∀ x,x∈r->x.text.size<=60)->(∀ s,s∈g->s.size<=199)->∀ s,s∈(runLines l r b w g).2.2->s.size<=199
 | [],b,w,g,_,_,hg=>hg
 | x::r,b,w,g,hb,hr,hg=>by
  rw[runLines];have hn:b.bi.length<=9000000000000000000:=by have:=Ad szNode b.bi;have h1:=hb.1;unfold nodeP at h1;omega
  have hx:=Z8 hl hn (hr x Qf1);refine LL l hl r _ _ _ (SQ l x hb) (fun y hy=>hr y (Qd5 _ hy)) fun s hs=>?_
  split at hs
  ·exact hg s hs
  ·rcases Qc0.1 hs with hs|hs
   ·exact hg s hs
   ·rw[List.mem_singleton] at hs;rw[hs];exact hx
theorem Ku:∀ (l g:List ByteArray),(∀ s,s∈l->s.size<=199)->okLg g->okLg (addLog g l)
 | [],g,_,h=>by rw[FA];exact h
 | x::l,g,hl,h=>by
  rw[addLog];split
  ·refine Ku l _ (fun s hs=>hl s (Qd5 _ hs)) ?_;have:=hl x Qf1;have h0:szL Ac []=0:=rfl;unfold okLg logP at *
   rw[Dp,Ax,h0,Qa4,Qd6];simp only[Ac] at *;omega
  ·exact h
theorem XK {p:SPage} {Q M R:Nat} (h:okAll p Q M R) {s:ByteArray} (hs:s.size<=199):okAll (say p s) Q M R:=by
 obtain⟨h1,h2,h3,h4,h5,h6⟩:=h;have e:=Ku [s] p.log (fun x hx=>by rw[List.mem_singleton] at hx;rw[hx];exact hs) h5;unfold say;split
 ·rename_i hc;rw[addLog,Qa2 hc,FA] at e;exact⟨h1,h2,h3,h4,e,h6⟩
 ·exact⟨h1,h2,h3,h4,h5,h6⟩
theorem MB (s:ByteArray):∀ x,x∈(parseScript s).1->x.text.size<=60:=by
 intro x hx;unfold parseScript at hx;split at hx
 ·cases hx
 ·split at hx
  ·rename_i hc;obtain⟨w,hw,rfl⟩:=Qg5.1 hx;have:=hc.2;rw[allOk8,Qc4] at this;exact Kz w _ _ (this w hw)
  ·cases hx
theorem X6 {p:SPage} {Q M R:Nat} (h:okAll p Q M R) (c:ByteArray) (w:Bool):okAll (runCode p c w) (Q+370) M R:=by
 obtain⟨h1,h2,h3,h4,h5,h6⟩:=h;unfold runCode;split
 ·refine⟨?_,KW _ _ _ _ _ h2,h3,h4,Ku _ _ (LL _ (Ef _).2 _ _ _ _ h2 (MB c) fun s hs=>by cases hs) h5,h6⟩;dsimp only;split
  ·have ht:=F8 (rsOf p c).2.1;have hr:=(Yv p c).2.1;refine⟨fun t ht2=>?_,?_⟩
   ·rcases Qc0.1 ht2 with q|q
    ·have hg:=Fp Aj q;omega
    ·exact h1.1 t q
   ·rw[Dp];have:=h1.2;omega
  ·exact NA h1 (by omega)
 ·exact⟨NA h1 (by omega),h2,h3,h4,Ku _ _ (fun s hs=>by rw[List.mem_singleton] at hs;rw[hs];decide) h5,h6⟩
theorem H1 (s b:ByteArray):szAddr (parseAddr s b).1<=16:=by
 unfold parseAddr;split
 ·rename_i h;rw[Qa1] at h;have h1:=CN h.1;have h2:=CN h.2;simp only[szAddr];omega
 ·decide
theorem Ti (p:SPage) (m:Int) (to d:ByteArray) (n:Int):AF (newSlot p m to d n)<=16+d.size/\(newSlot p m to d n).body.size=0:=by
 have h:=H1 to p.addr.host;have h4:ByteArray.size ⟨#[]⟩=0:=rfl;unfold newSlot;split
 ·exact⟨by simp only[rawSlot,AF,h4];omega,h4⟩
 ·exact⟨by simp only[AF,h4];omega,h4⟩
theorem ND {p:SPage} {Q M R:Nat} (h:okAll p Q M R) (m:Int) (to d:ByteArray) (n:Int) (hd:d.size<=200000000):okAll (addSlot p m to d n).1 Q M R:=by
 obtain⟨h1,h2,h3,h4,h5,h6⟩:=h;unfold addSlot;split
 ·rename_i hc;have hn:=Ti p m to d n;refine⟨h1,h2,⟨?_,fun s hs=>?_⟩,h4,h5,h6⟩
  ·have h0:szL AF []=0:=rfl;have hu:undS [newSlot p m to d n]<=1:=by rw[undS,undS];split<;>omega
   have h7:=h3.1;unfold slotP at *
   dsimp only;rw[Dp,Ax,h0,JM,Qa4,Qd6];omega
  ·rcases Qc0.1 hs with hs|hs
   ·exact h3.2 s hs
   ·rw[List.mem_singleton] at hs;rw[hs,hn.2];decide
 ·exact⟨h1,h2,h3,h4,h5,h6⟩
theorem XL (p:SPage) (a:SAddr):(newMod p a).to=a/\(newMod p a).body.size=0:=by
 unfold newMod;split<;>exact⟨rfl,rfl⟩
theorem Vv {α:Type} (f:α->Nat) (l:List α) (i:Nat):szL f (l.take i)+szL f (l.drop i)=szL f l:=by
 rw[<-Dp,Qd8]
theorem XU (l:List SModule) (i:Nat):undM (l.take i)+undM (l.drop i)=undM l:=by rw[<-JO,Qd8]
theorem AbE (r:List SAddr) (l:List SModule) (i:Nat):nrL r (l.take i)+nrL r (l.drop i)=nrL r l:=by rw[<-Nx,Qd8]
theorem AbK (p:SPage) (a:SAddr):szL Aq (askModule p a).bh<=szL Aq p.bh+szAddr a+1/\undM (askModule p a).bh<=undM p.bh+1/\nrL p.ran (askModule p a).bh<=nrL p.ran p.bh+szAddr a+1/\(∀ m,m∈(askModule p a).bh->m∈p.bh\/m.body.size=0)/\askModule p a={ p with bh:=(askModule p a).bh }:=by
 unfold askModule;split
 ·exact⟨by omega,by omega,by omega,fun m h=>.inl h,rfl⟩
 ·obtain⟨n1,n2⟩:=XL p a;have e1:=Vv Aq p.bh (askFrom a p.bh);have e2:=XU p.bh (askFrom a p.bh);have e3:=AbE p.ran p.bh (askFrom a p.bh);refine⟨?_,?_,?_,fun m h=>?_,rfl⟩
  ·dsimp only;rw[Dp,Ax];simp only[Aq,n1,n2] at *;omega
  ·dsimp only;rw[JO,undM];split<;>omega
  ·dsimp only;rw[Nx,nrL,n1];split<;>omega
  ·rcases Qc0.1 h with h|h
   ·exact .inl (List.mem_of_mem_take h)
   ·rcases Qd3.1 h with h|h
    ·rw[h];exact .inr n2
    ·exact .inl (List.mem_of_mem_drop h)
theorem Aau {p:SPage} {Q M R:Nat} (h:okAll p Q M R) (to:ByteArray):okAll (addEntry p to) Q M R:=by
 unfold addEntry;split
 ·rename_i hc;obtain⟨h1,h2,h3,⟨h4,h7,h8,h9⟩,h5,h6⟩:=h;obtain⟨a1,a2,a3,a4,a5⟩:=AbK p (parseAddr to p.addr.host).1;have ha:=H1 to p.addr.host;have h0:szL szAddr []=0:=rfl;rw[a5];refine⟨h1,h2,h3,⟨?_,?_,?_,fun m hm=>?_⟩,h5,h6⟩
  ·unfold entP at *
   rw[Dp,Ax,h0,Qa4,Qd6];omega
  ·unfold modP at *
   dsimp only;rw[Qa4,Qd6];omega
  ·unfold ranP at *
   dsimp only;rw[Qa4,Qd6];omega
  ·rcases a4 m hm with hm|hm
   ·exact h9 m hm
   ·omega
 ·exact h
theorem UB {p:SPage} {Q M R:Nat} (h:okAll p Q M R) (t:SToken) (n:Int) (ht:Aj t<=4000000):okAll (element p t n) Q M R:=by
 have hd:=Bz t.bo ⟨#[100,105,103,101,115,116]⟩;have hs:szL A3 t.bo<=Aj t:=by simp only[Aj];omega
 unfold element;split
 ·exact ND h _ _ _ _ (by omega)
 ·split
  ·exact ND h _ _ _ _ (by omega)
  ·exact h
theorem VQ {p:SPage} {Q M R:Nat} (h:okAll p Q M R) (n:Int):okAll (script p n) Q M R:=by
 have hd:=Bz (p.ba.bi.getD n.toNat default).bo ⟨#[100,105,103,101,115,116]⟩;have hs:szL A3 (p.ba.bi.getD n.toNat default).bo<=200000000:=by
  by_cases hn:n.toNat<p.ba.bi.length
  ·have:=I2 p.ba.bi n.toNat hn;have h2:=h.2.1.1;unfold nodeP at h2;omega
  ·rw[Qa7,List.getElem?_eq_none (by omega)];exact Nat.zero_le _
 unfold script;split
 ·split
  ·exact h
  ·exact h
 ·split
  ·exact ND h _ _ _ _ (by omega)
  ·split
   ·exact Aau h _
   ·exact ND h _ _ _ _ (by omega)
theorem Aas {p:SPage} {Q M R:Nat} (h:okAll p Q M R) (hq:0<p.bn.length):okAll (taken p (p.bn.getD 0 default)) Q M R:=by
 obtain⟨h1,h2,h3,h4,h5,h6⟩:=h;have ht:=h1.1 _ (Bl hq);have hz:=(N5 p hq).2;exact⟨⟨fun t hm=>h1.1 t (List.mem_of_mem_drop hm),by have:=h1.2;show szL Aj (p.bn.drop 1)<=Q;omega⟩,AeW h2 ht,h3,h4,h5,h6⟩
theorem Ab7 {p:SPage} {Q M R:Nat} (h:okAll p Q M R):okAll (takeToken p).1 Q M R:=by
 unfold takeToken;split
 ·exact h
 ·rename_i hc;have hq:0<p.bn.length:=by omega
  have ht:=h.1.1 _ (Bl hq);have hk:=Aas h hq;unfold takeTok;split
  ·exact UB hk _ _ ht
  ·split
   ·exact VQ hk _
   ·exact hk
theorem V8 {p:SPage} {Q M R:Nat} (h:okAll p Q M R):okAll (stepParser p).1 (Q+370) M R:=by
 have hm:=Ja h (Qg1 Q 370);unfold stepParser;split
 ·unfold stepInline;split
  ·exact X6 h _ _
  ·exact hm
 ·split
  ·unfold stepBlock;split
   ·exact hm
   ·split
    ·exact hm
    ·split
     ·exact X6 h _ _
     ·exact hm
  ·exact Ab7 hm
theorem VO (b:ByteArray):∀ (l:List ByteArray) (acc:List SAddr),∀ x,x∈(pmGo b l acc).2.1->x.text.size<=60
 | [],acc,x,h=>by cases h
 | w::l,acc,x,h=>by
  rw[pmGo] at h;split at h
  ·split at h
   ·exact VO b l _ x h
   ·cases h
  ·split at h
   ·exact MB _ x h
   ·cases h
theorem Wr {p q:SPage} {Q M R:Nat} (h:okAll q Q M R) (he:q.bh=p.bh) (b:SAddr) (hb:0<=findMod p.bh b):okAll (enter1 p q b) Q M R/\(enter1 p q b).bh=p.bh:=by
 unfold enter1;split
 ·exact⟨h,he⟩
 ·rename_i hn;have hn:inL q.ran b=false:=by simpa using hn
  obtain⟨h1,h2,h3,⟨h4,h7,h8,h9⟩,h5,h6⟩:=h;have hf:=BP p.bh b;have hd:=S1 q.ran b hn p.bh _ (show(findMod p.bh b).toNat<p.bh.length by omega) (HP hb);have h0:szL szAddr []=0:=rfl;refine⟨⟨h1,KW _ _ _ _ _ h2,h3,⟨h4,h7,?_,h9⟩,Ku _ _ (LL _ (Ef _).2 _ _ _ _ h2 (VO _ _ _) fun s hs=>by cases hs) h5,h6⟩,he⟩;unfold ranP at *
  dsimp only;rw[he] at h8 ⊢;rw[Dp,Ax,h0];omega
theorem KS {p:SPage} {Q M R:Nat}:∀ (l:List SAddr) (q:SPage),okAll q Q M R->q.bh=p.bh->(∀ b,b∈l->0<=findMod p.bh b)->okAll (enterAll p q l) Q M R
 | [],q,h,_,_=>h
 | b::l,q,h,he,hb=>by obtain⟨i1,i2⟩:=Wr h he b (hb b Qf1);exact KS l _ i1 i2 fun x hx=>hb x (Qd5 _ hx)
theorem Q7 (a:SAddr):(formatAddr a).size<=17:=by
 unfold formatAddr;split
 ·rename_i h;rw[Qa1] at h;have h1:=CN h.1;have h2:=CN h.2;rw[Qb7,Qb7,show ByteArray.size ⟨#[47]⟩=1 from rfl];omega
 ·exact Nat.zero_le _
theorem Aab {p:SPage} {Q M R:Nat} (h:okAll p Q M R) (a:SAddr):okAll (enter p a) Q M R:=by
 unfold enter;split
 ·refine XK h ?_;have:=Q7 a;rw[Qb7,show ByteArray.size ⟨#[102,97,105,108,32]⟩=5 from rfl];omega
 ·rename_i hf;exact KS _ _ h rfl fun b hb=>IJ (by simpa using hf) hb
theorem AeZ {p:SPage} {Q M R:Nat} (h:okAll p Q M R):okAll (stepTail p).1 (Q+370) M R:=by
 have hm:=Ja h (Qg1 Q 370);unfold stepTail;split
 ·exact hm
 ·split
  ·unfold tailDefer;split
   ·exact hm
   ·split
    ·exact X6 h _ _
    ·exact hm
  ·split
   ·unfold tailEnter;split
    ·exact hm
    ·exact Aab hm _
   ·split
    ·exact hm
    ·exact XK hm (by decide)
theorem Mq {p:SPage} {Q M R:Nat} (h:okAll p Q M R) (hQ:Q<=900000000000) (hM:M<=50000000000) (hR:R<=20000000000):okTail p:=by
 obtain⟨⟨a1,a2⟩,⟨b1,b2⟩,⟨c1,c2⟩,⟨d1,d2,d3,d4⟩,e1,f1⟩:=h;have hg:logP p.log<=3000000:=e1;have hc:szPolicy p.bj+szAddr p.addr+p.tok.rest.size<=9000000:=by(unfold okCm at f1;omega)
 unfold nodeP at b1;unfold openP at b2;unfold slotP at c1;unfold entP at d1;unfold modP at d2;unfold ranP at d3;unfold logP at hg;have hn:=Ad szNode p.ba.bi;have hb:szBuilder p.ba=szL szNode p.ba.bi+p.ba.bl.length:=rfl;have hh:p.addr.host.size<=szAddr p.addr:=by simp only[szAddr];omega
 refine⟨⟨⟨?_,by omega,fun i hi=>?_,by omega,by omega⟩,by omega,fun i hi=>?_⟩,fun i hi=>?_,by omega,fun i hi=>?_⟩
 ·simp only[szPage,BX];omega
 ·have:=a1 _ (Bl hi);omega
 ·have:=c2 _ (Bl hi);omega
 ·have:=d4 _ (Bl hi);omega
 ·have:=Dx szAddr hi;have h3:(p.bg.getD i default).host.size<=szAddr (p.bg.getD i default):=by simp only[szAddr];omega
  omega
def step1 (p:SPage):SPage×Bool:=if(stepParser p).2=true then stepParser p else stepTail p
def adv:Nat->SPage->SPage
 | 0,p=>p
 | n+1,p=>if(step1 p).2=true then adv n (step1 p).1 else p
def advance (p:SPage):SPage:=adv 2000 p
theorem N6 {p:SPage} (h:(stepParser p).2=true):step1 p=stepParser p:=by unfold step1;rw[Qa2 h]
theorem IF {p:SPage} (h:(stepParser p).2=false):step1 p=stepTail p:=by unfold step1;rw[Qa3 (by rw[h];decide)]
theorem Sk {p:SPage} {Q M R:Nat} (h:okAll p Q M R):okAll (step1 p).1 (Q+370) M R:=by
 unfold step1;split
 ·exact V8 h
 ·exact AeZ h
theorem AbQ {M R:Nat}:∀ (n:Nat) (p:SPage) (Q:Nat),okAll p Q M R->okAll (adv n p) (Q+370*n) M R
 | 0,p,Q,h=>h
 | n+1,p,Q,h=>by
  rw[adv];split
  ·have:=AbQ n _ _ (Sk h);rw[show Q+370+370*n=Q+370*(n+1) by omega] at this;exact this
  ·exact Ja h (by omega)
theorem T2 {p:SPage} {Q M R:Nat} (h:okAll p Q M R):okAll (advance p) (Q+740000) M R:=AbQ 2000 p Q h
def okAdv (p:SPage):Prop:=∃ Q M R,okAll p Q M R/\Q<=899000000000/\M<=50000000000/\R<=20000000000
def advInv (p q:SPage) (i:Int):Prop:=0<=i/\i<=2000/\adv (2000-i.toNat) q=advance p/\∃ Q M R,okAll q (Q+370*i.toNat) M R/\Q<=899000000000/\M<=50000000000/\R<=20000000000
theorem Hn {p:SPage} (h:okAdv p):advInv p p 0:=by
 obtain⟨Q,M,R,h1,h2⟩:=h;exact⟨by omega,by omega,rfl,Q,M,R,h1,h2⟩
theorem F9 {p q:SPage} {i:Int} (h:advInv p q i):okTail q:=by
 obtain⟨h1,h2,_,Q,M,R,h3,h4,h5,h6⟩:=h;exact Mq h3 (by omega) h5 h6
theorem Iv {p q:SPage} {i:Int} (h:advInv p q i) (hi:i<2000) (hs:(step1 q).2=true):advInv p (step1 q).1 (i+1):=by
 obtain⟨h1,h2,h0,Q,M,R,h3,h4⟩:=h;rw[show 2000-i.toNat=(2000-(i+1).toNat)+1 by omega,adv,Qa2 hs] at h0;refine⟨by omega,by omega,h0,Q,M,R,?_,h4⟩;have:=Sk h3;rw[show Q+370*i.toNat+370=Q+370*(i+1).toNat by omega] at this;exact this
theorem Gl {p q:SPage} {i:Int} (h:advInv p q i) (hs:i<2000->(step1 q).2=false):q=advance p:=by
 obtain⟨h1,h2,h0,_⟩:=h;rcases Nat.eq_zero_or_pos (2000-i.toNat) with hz|hz
 ·rw[hz] at h0;exact h0
 ·obtain⟨n,hn⟩:∃ n,2000-i.toNat=n+1:=⟨2000-i.toNat-1,by omega⟩;rw[hn,adv,Qa3 (by rw[hs (by omega)];decide)] at h0;exact h0
def DL:Fct:=⟨[.v (.el .page)],[.el .page],fun(x_:SPage×Unit)=>okAdv x_.1,fun(x_:SPage×Unit)=>(advance x_.1,())⟩
abbrev C0 (p:SPage):LInv:=⟨[⟨.b,3,true,.el .page⟩,⟨.s,4,true,.el .int⟩,⟨.b,2,true,.el .page⟩],fun(z_ x_:SPage×Int×SPage×Unit)=>(advInv p x_.1 x_.2.1)/\x_.2.2.1=z_.2.2.1,fun(x_:SPage×Int×SPage×Unit)=>(2000-x_.2.1).toNat⟩
def Aja:=AjN.a DL<|Fct.p (KP [1,2,3,4,5,6] [10,19,26]) (fun⟨p,_⟩=>lv [(3,C0 p)]) AjN.2 func163 (by
 rintro⟨(p:SPage),_⟩ hp;refine ho (.cl fCopyPage (p,()) fun z2=>lpx (C0 p) (z2.1,((0:Int),(default,()))) fun(y2:SPage×Int×SPage×PUnit) bk2=>.br (decide (y2.2.1<2000)) (.cl AY (y2.1,()) fun z3=>.br (!z3.2.1) (.cl Bt (y2.1,()) fun z4=>.br (!z4.2.1) (.lf DL (y2.1,())) (.ob (bk2 (z4.1,(w1 y2.2.1,(y2.2.2.1,()))))<|.ok)) (.br (!z3.2.1) (.lf DL (y2.1,())) (.ob (bk2 (z3.1,(w1 y2.2.1,(y2.2.2.1,()))))<|.ok))) (.lf DL (y2.1,()))) ?_;refine Af ?_ fun o1=>(Ay ?_ fun(y2:SPage×Int×SPage×PUnit) i2=>Ab (fun h3=>Af ?_ fun o4=>(Ab (fun h5=>Af ?_ fun o6=>(Ab (fun h7=>lfY ?_) (fun h7=>Aa ?_ fun o8=>trivial))) (fun h5=>Ab (fun h9=>lfY ?_) (fun h9=>Aa ?_ fun o10=>trivial)))) (fun h3=>lfY ?_))
 all_goals
  have hq:okAdv p:=hp;have h0:=(F9 (Hn hq)).1.1.1;try simp only[Az] at *
  try simp only[C0,DL,fCopyPage,AY,Bt,std,Nat.reduceAdd,fCopyPage,AY,Bt] at *
 all_goals first|trivial|omega|skip
 all_goals first|exact Hn hq|exact⟨Hn hq,rfl⟩|(obtain⟨i3,e1⟩:=i2;have ht:=F9 i3)
 all_goals first|exact ht|exact ht.1|exact(tf (by assumption) (by assumption)).elim|skip
 all_goals first|exact Gl i3 (fun h=>absurd h (by omega))|exact Gl i3 (fun _=>by rw[IF (by assumption)];assumption)|skip
 all_goals rw[Ah (by have:=i3.1;omega)]
 all_goals first|(have e:=Iv i3 (by assumption) (by rw[IF (by assumption)];assumption);rw[IF (by assumption)] at e;exact⟨⟨e,e1⟩,by omega⟩)|(have e:=Iv i3 (by assumption) (by rw[N6 (by assumption)];assumption);rw[N6 (by assumption)] at e;exact⟨⟨e,e1⟩,by omega⟩))
theorem AbF:∀ l:List SSlot,undS l<=l.length
 | []=>Qb0 _
 | s::l=>by have:=AbF l;rw[undS,Qa6];split<;>omega
theorem WZ:∀ l:List SModule,undM l<=l.length
 | []=>Qb0 _
 | s::l=>by have:=WZ l;rw[undM,Qa6];split<;>omega
theorem Ab1 (r:List SAddr):∀ l:List SModule,nrL r l<=szL Aq l
 | []=>Qb0 _
 | s::l=>by have:=Ab1 r l;rw[nrL,Ax];split<;>simp only[Aq]<;>omega
theorem Wp {p:SPage} (h:szPage p<=2000000):okAll p 2000000 1100000000 10000000:=by
 have h1:=Ad AF p.bf;have h2:=Ad Aq p.bh;have h3:=AbF p.bf;have h4:=WZ p.bh;have h5:=Ab1 p.ran p.bh;have h6:=Ad szNode p.ba.bi;simp only[szPage,BX,szBuilder] at h;refine⟨⟨fun t ht=>?_,by omega⟩,⟨?_,?_⟩,⟨?_,fun s hs=>?_⟩,⟨?_,?_,?_,fun m hm=>?_⟩,?_,?_⟩
 ·have:=Fp Aj ht;omega
 ·unfold nodeP;omega
 ·unfold openP;omega
 ·unfold slotP;omega
 ·have:=Fp AF hs;simp only[AF] at this;omega
 ·unfold entP;omega
 ·unfold modP;omega
 ·unfold ranP;omega
 ·have:=Fp Aq hm;simp only[Aq] at this;omega
 ·unfold okLg logP;omega
 ·unfold okCm;omega
theorem SZ {p:SPage} {Q M R:Nat} (h:okAll p Q M R) (hQ:Q<=900000000000) (hM:M<=50000000000) (hR:R<=20000000000):szPage p<=1000000000000:=(Mq h hQ hM hR).1.1.1
theorem Y8 {α:Type} {l:List α}:cut l 1 (l.length-1)=l.drop 1:=by
 unfold cut;rw[Qb6 (by simp)]
def opWords:List ByteArray:=[⟨#[]⟩,⟨#[119,114,105,116,101]⟩,⟨#[97,100,100]⟩,⟨#[99,111,117,110,116]⟩,⟨#[108,111,111,107]⟩,⟨#[115,97,121]⟩]
def opW (n:Int):ByteArray:=if 1<=n/\n<=5 then opWords.getD n.toNat default else⟨#[]⟩
theorem AbI {n:Int} (h:1<=n) (h2:n<=5):opW n=opWords.getD n.toNat default:=by unfold opW;rw[Qa2 ⟨h,h2⟩]
def HL:Fct:=⟨[.v (.el .int)],[.el .str],fun(x_:Int×Unit)=>True,fun(x_:Int×Unit)=>(opW x_.1,())⟩
def Aka:=Aja.a HL<|Fct.o (KP [0,2] [5]) Aja.2 func389 (by
 rintro⟨(n:Int),_⟩ hp;refine ho (.cl fInRange (n,(1:Int),(5:Int),()) fun z2=>.br (!z2.1) (.lf HL ((⟨#[]⟩:ByteArray),())) (.ob (0<=wr (n-(1:Int))/\wr (n-(1:Int))<5)<|.ob ((wr (n-(1:Int))).toNat<5)<|.lf HL ([(⟨#[119,114,105,116,101]⟩:ByteArray),(⟨#[97,100,100]⟩:ByteArray),(⟨#[99,111,117,110,116]⟩:ByteArray),(⟨#[108,111,111,107]⟩:ByteArray),(⟨#[115,97,121]⟩:ByteArray)].getD (wr (n-(1:Int))).toNat default,()))) ?_;refine Af trivial fun _=>(Ab (fun h1=>lfY ?_) (fun h1=>Aa ?_ fun o2=>Aa ?_ fun o3=>lfY ?_))
 all_goals
  try simp only[Az] at *
  try simp only[fInRange,HL,std,Nat.reduceAdd,fInRange,inRange] at *
  try simp only[Qa1,Qe7,Qa9,Qb2] at *
 all_goals first|trivial|omega|(unfold opW;rw[Qa3 (by omega)])|(rw[Ah (by omega)];omega)|skip
 all_goals rw[Ah (by omega),AbI (by omega) (by omega)]
 all_goals rcases(show n=1\/n=2\/n=3\/n=4\/n=5 by omega) with rfl|rfl|rfl|rfl|rfl<;>rfl)
theorem Qo (b:UInt8) (s:ByteArray):(EG b s).1.size<=s.size/\(EG b s).2.1.size<=s.size:=by
 unfold EG;cases h:Ey b (toL s) with
 | none=>exact⟨Qb0 _,Nat.zero_le _⟩
 | some r=>
  have:=N2 (p:=r.1) (q:=r.2) h;rw[Bx] at this;exact⟨by dsimp only;rw[Fa];exact this.1,by dsimp only;rw[Fa];exact this.2⟩
theorem Nr {b:UInt8}:∀ {l p q:List UInt8},Ey b l=some (p,q)->l=p++b::q/\b∉p
 | [],p,q,h=>by cases h
 | x::l,p,q,h=>by
  rw[Ey] at h;split at h
  ·rename_i hx;obtain⟨rfl,rfl⟩:=Prod.mk.inj (Option.some.inj h);exact⟨by rw[hx];rfl,by simp⟩
  ·rename_i hx;obtain⟨r,hr,he⟩:=Option.map_eq_some_iff.1 h;obtain⟨rfl,rfl⟩:=Prod.mk.inj he;obtain⟨h1,h2⟩:=Nr (p:=r.1) (q:=r.2) hr;refine⟨by rw[h1];rfl,?_⟩;rw[Qd3];rintro(h|h)
   ·exact hx h.symm
   ·exact h2 h
theorem AdK {a b:ByteArray} (h:toL a=toL b):a=b:=by rw[<-C9 a,h,C9]
theorem Ws {x s:ByteArray} (hx:(32:UInt8)∉toL x):(((x++⟨#[32]⟩).size<=s.size/\s.extract 0 (x++⟨#[32]⟩).size=x++⟨#[32]⟩)↔(EG 32 s).2.2=true/\(EG 32 s).1=x)/\((EG 32 s).2.2=true/\(EG 32 s).1=x->(EG 32 s).2.1=s.extract (x++⟨#[32]⟩).size s.size):=by
 have e32:toL (x++⟨#[32]⟩)=toL x++[32]:=by rw[Ek];rfl
 have hsz:(x++⟨#[32]⟩).size=(toL x).length+1:=by rw[Qb7];rfl
 have fwd:((x++⟨#[32]⟩).size<=s.size/\s.extract 0 (x++⟨#[32]⟩).size=x++⟨#[32]⟩)->Ey 32 (toL s)=some (toL x,(toL s).drop ((toL x).length+1)):=by rintro⟨h1,h2⟩;have h3:=Qg8 toL h2;rw[A2,Qf0,e32,hsz] at h3;have h4:=(Qd8 ((toL x).length+1) (toL s)).symm;rw[h3,Qb4,List.singleton_append] at h4;have h5:=NK (p:=toL x) ((toL s).drop ((toL x).length+1)) hx;rw[<-h4] at h5;exact h5
 refine⟨⟨fun h=>?_,fun h=>?_⟩,fun h=>?_⟩
 ·have:=fwd h;unfold EG;rw[this];exact⟨rfl,C9 x⟩
 ·unfold EG at h;cases hc:Ey 32 (toL s) with
  | none=>rw[hc] at h;exact absurd h.1 Bool.false_ne_true
  | some r=>
   obtain⟨p,q⟩:=r;rw[hc] at h;have hp:ofL p=x:=h.2;obtain⟨h1,h2⟩:=Nr hc;have hpx:p=toL x:=by rw[<-hp,IZ]
   rw[hpx] at h1;have hl:s.size=(toL x).length+(q.length+1):=by rw[<-Bx,h1,Qa4,Qa6]
   refine⟨by rw[hsz];omega,?_⟩;refine AdK ?_;rw[A2,Qf0,e32,hsz,h1,List.take_append,Qb6 (by omega),show(toL x).length+1-(toL x).length=1 by omega];rfl
 ·unfold EG at h ⊢;cases hc:Ey 32 (toL s) with
  | none=>rw[hc] at h;exact absurd h.1 Bool.false_ne_true
  | some r=>
   obtain⟨p,q⟩:=r;rw[hc] at h;have hp:ofL p=x:=h.2;obtain⟨h1,h2⟩:=Nr hc;have hpx:p=toL x:=by rw[<-hp,IZ]
   rw[hpx] at h1;rw[hsz,<-Oe,h1,List.drop_append,Qb9 (by omega),Qg2,show(toL x).length+1-(toL x).length=1 by omega];rfl
def pline (s:ByteArray):SLine×Bool:=if(line8 s).2=true then((line8 s).1,true) else(default,false)
def plOk (k:Int) (t:ByteArray):Bool:=if k=1\/k=5 then decide (t.size<=60) else isName t
theorem PO {k:Int} {t:ByteArray} (h:k=1\/k=5):plOk k t=decide (t.size<=60):=by unfold plOk;rw[Qa2 h]
theorem Ol {k:Int} {t:ByteArray} (h:¬ (k=1\/k=5)):plOk k t=isName t:=by unfold plOk;rw[Qa3 h]
def plineL (c:ByteArray×ByteArray×Bool):List ByteArray->Int->SLine×Bool
 | [],_=>(default,false)
 | x::l,k=>if x=c.1 then(if c.2.2=true/\plOk k c.2.1=true then(⟨k,c.2.1⟩,true) else(default,false)) else plineL c l (k+1)
theorem Pb (s:ByteArray):∀ (l:List ByteArray) (k:Int),(∀ x,x∈l->(32:UInt8)∉toL x)->plineL (EG 32 s) l k=if(line8L s (l.map fun x=>x++⟨#[32]⟩) k).2=true then((line8L s (l.map fun x=>x++⟨#[32]⟩) k).1,true) else(default,false)
 | [],k,_=>rfl
 | x::l,k,h=>by
  have hx:=h x Qf1;obtain⟨h1,h2⟩:=Ws (s:=s) hx;have ih:=Pb s l (k+1) fun y hy=>h y (Qd5 _ hy)
  rw[plineL,Qc9,line8L];by_cases hc:(EG 32 s).2.2=true/\(EG 32 s).1=x
  ·rw[Qa2 hc.2.symm,Qa2 (h1.2 hc),<-h2 hc];have hl:(EG 32 s).2.1.size=s.size-(x++⟨#[32]⟩).size:=by rw[h2 hc,Qc3];have:=(h1.2 hc).1;omega
   dsimp only;have hb:(if k=1\/k=5 then decide (s.size-(x++⟨#[32]⟩).size<=60) else isName (EG 32 s).2.1)=plOk k (EG 32 s).2.1:=by unfold plOk;rw[hl]
   rw[hb];by_cases hk:plOk k (EG 32 s).2.1=true
   ·rw[Qa2 ⟨hc.1,hk⟩,Qa2 hk]
   ·rw[Qa3 (fun q=>hk q.2),Qa3 hk]
  ·rw[Qa3 (fun q=>hc (h1.1 q))];by_cases hw:x=(EG 32 s).1
   ·rw[Qa2 hw,Qa3 (fun q=>hc ⟨q.1,hw.symm⟩)];have hno:(EG 32 s).2.2=false:=by
     cases hb:(EG 32 s).2.2 with
     | false=>rfl
     | true=>exact absurd ⟨hb,hw.symm⟩ hc
    have hall:∀ (l:List ByteArray) (k:Int),(∀ x,x∈l->(32:UInt8)∉toL x)->(line8L s (l.map fun x=>x++⟨#[32]⟩) k).2=false:=by
     intro l
     induction l with
     | nil=>intro k _;rfl
     | cons y l ih=>
      intro k hy;rw[Qc9,line8L,Qa3]
      ·exact ih _ fun z hz=>hy z (Qd5 _ hz)
      ·intro q;have:=((Ws (s:=s) (hy y Qf1)).1.1 q).1;rw[hno] at this;cases this
    rw[Qa3 (by rw[hall l _ fun y hy=>h y (Qd5 _ hy)];decide)]
   ·rw[Qa3 hw];exact ih
theorem ZE (s:ByteArray):plineL (EG 32 s) (opWords.drop 1) 1=pline s:=by
 rw[Pb s _ _ (by decide)];rfl
theorem Yx {c:ByteArray×ByteArray×Bool} {i:Nat} {k:Int} (h:i<opWords.length):plineL c (opWords.drop i) k=if opWords.getD i default=c.1 then(if c.2.2=true/\plOk k c.2.1=true then(⟨k,c.2.1⟩,true) else(default,false)) else plineL c (opWords.drop (i+1)) (k+1):=by rw[drop_cons h];rfl
theorem UI {c:ByteArray×ByteArray×Bool} {i:Nat} {k:Int} (h:opWords.length<=i):plineL c (opWords.drop i) k=(default,false):=by rw[Qb9 h];rfl
theorem K5:opWords.length=6:=rfl
def KB:Fct:=⟨[.v (.el .str)],[.el .line,.el .bool],fun(x_:ByteArray×Unit)=>x_.1.size<=4200000000,fun(x_:ByteArray×Unit)=>((pline x_.1).1,(pline x_.1).2,())⟩
abbrev CY (s:ByteArray):LInv:=⟨[⟨.s,7,true,.el .int⟩,⟨.b,2,true,.el .line⟩],fun(z_ x_:Int×SLine×Unit)=>(1<=x_.1/\x_.1<=6/\plineL (EG 32 s) (opWords.drop x_.1.toNat) x_.1=pline s)/\x_.2.1=z_.2.1,fun(x_:Int×SLine×Unit)=>(6-x_.1).toNat⟩
def Ak7:=Aka.a KB<|Fct.p (KP [0,2,3,4,5,6,7,8] [16,22,47]) (fun⟨s,_⟩=>lv [(3,CY s)]) Aka.2 func340 (by
 rintro⟨(s:ByteArray),_⟩ hp;refine ho (let q1_:Out:=.lf KB (default,false,());.cl Su (s,(⟨#[32]⟩:ByteArray),()) fun z2=>let q3_:=decide ((z2.2.1.size:Int)>60);lpx (CY s) ((1:Int),(default,())) fun(y2:Int×SLine×PUnit) bk2=>let q2_:Out:=.lf KB (⟨y2.1,z2.2.1⟩,true,());let q0_:Out:=.cl fIsName (z2.2.1,()) fun z4=>.br (!z4.1) q1_ q2_;let q4_:Out:=.br (!y2.1==5) q0_ q2_;.br (decide (y2.1<=5)) (.cl HL (y2.1,()) fun z3=>.br (!z3.1.toList==z2.1.toList) (.ob (Value.string s=Value.string s)<|.ob (Value.string z2.1=Value.string z2.1)<|.ob (Value.string z2.2.1=Value.string z2.2.1)<|.ob (Value.bool z2.2.2.1=Value.bool z2.2.2.1)<|.ob (bk2 (w1 y2.1,(y2.2.1,())))<|.ok) (.br (y2.1==1) (.br (!z2.2.2.1) q1_ (.br q3_ q1_ (.br (!true) q0_ q2_))) (.br (!z2.2.2.1) q1_ (.br (y2.1==5) (.br q3_ q1_ q4_) q4_)))) q1_) ?_;refine Af ?_ fun o1=>(Ay ?_ fun(y2:Int×SLine×PUnit) i2=>Ab (fun h3=>Af trivial fun _=>(Ab (fun h4=>Aa rfl fun _=>Aa rfl fun _=>Aa rfl fun _=>Aa rfl fun _=>Aa ?_ fun o5=>trivial) (fun h4=>Ab (fun h6=>Ab (fun h7=>lfY ?_) (fun h7=>Ab (fun h8=>lfY ?_) (fun h8=>Ab (fun h9=>Af ?_ fun o10=>(Ab (fun h11=>lfY ?_) (fun h11=>lfY ?_))) (fun h9=>lfY ?_)))) (fun h6=>Ab (fun h12=>lfY ?_) (fun h12=>Ab (fun h13=>Ab (fun h14=>lfY ?_) (fun h14=>Ab (fun h15=>Af ?_ fun o16=>(Ab (fun h17=>lfY ?_) (fun h17=>lfY ?_))) (fun h15=>lfY ?_))) (fun h13=>Ab (fun h18=>Af ?_ fun o19=>(Ab (fun h20=>lfY ?_) (fun h20=>lfY ?_))) (fun h18=>lfY ?_))))))) (fun h3=>lfY ?_))
 all_goals
  try simp only[Az] at *
  try simp only[CY,Su,fIsName,HL,KB,std,Nat.reduceAdd,Su,HL,fIsName] at *
  try simp only[show(#[32]:Array UInt8).getD 0 0=32 from rfl] at *
 all_goals first|trivial|omega|exact⟨by omega,by omega,ZE s⟩|(obtain⟨⟨a1,a2,a3⟩,e1⟩:=i2)
 all_goals have hcs:=Qo 32 s
 all_goals generalize EG 32 s=c at *
 all_goals first|omega|skip
 all_goals first|(have e:=Yx (c:=c) (i:=y2.1.toNat) (k:=y2.1) (by rw[K5];omega);rw[a3,<-AbI (by omega) (by omega)] at e;first|rw[Qa2 (by assumption)] at e|rw[Qa3 (by assumption)] at e)|(have e:=UI (c:=c) (i:=y2.1.toNat) (k:=y2.1) (by rw[K5];omega);rw[a3] at e)
 all_goals first|(rw[e];exact⟨rfl,rfl⟩)|(rw[Ah (by omega),show(y2.1+1).toNat=y2.1.toNat+1 by omega];exact⟨⟨⟨by omega,by omega,e.symm⟩,e1⟩,by omega⟩)|skip
 all_goals first|(rw[Qa2 ⟨by assumption,by first|(rw[PO (by omega)];exact Qf3 (by omega))|(rw[Ol (by omega)];assumption)⟩] at e;rw[e];exact⟨rfl,rfl⟩)|(rw[Qa3 (by rintro⟨q1,q2⟩;first|exact tf q1 (by assumption)|(rw[PO (by omega)] at q2;have:=Qf9 q2;omega)|(rw[Ol (by omega)] at q2;exact tf q2 (by assumption)))] at e;rw[e];exact⟨rfl,rfl⟩)|skip)
theorem Z9 {s:ByteArray} (h:(pline s).2=true):pline s=((line8 s).1,true)/\(line8 s).2=true:=by
 unfold pline at h ⊢;split at h
 ·rename_i hc;rw[Qa2 hc];exact⟨rfl,hc⟩
 ·cases h
theorem Abh {s:ByteArray} (h:(pline s).2=false):(line8 s).2=false:=by
 unfold pline at h;split at h
 ·cases h
 ·rename_i hc;simpa using hc
abbrev BL (s:ByteArray):LInv:=⟨[⟨.s,4,true,.sl .line⟩,⟨.s,16,true,.el .int⟩,⟨.s,14,true,.sl .str⟩],fun(z_ x_:(List SLine)×Int×(List ByteArray)×Unit)=>(0<=x_.2.1/\x_.2.1<=(spl 59 s).length/\(spl 59 s).length<1000000000000/\x_.1=lines8 ((spl 59 s).take x_.2.1.toNat)/\allOk8 ((spl 59 s).take x_.2.1.toNat)=true/\x_.2.1<=6)/\x_.2.2.1=z_.2.2.1,fun(x_:(List SLine)×Int×(List ByteArray)×Unit)=>(spl 59 s).length-x_.2.1.toNat⟩
def AiW:=Ak7.a AC<|Fct.p (KP [0,2,3,4,6,7,8,14,15,16] [10,17,31]) (fun⟨s,_⟩=>lv [(5,BL s)]) Ak7.2 func290 (by
 rintro⟨(s:ByteArray),_⟩ hp;refine ho (.br (s.toList==(⟨#[]⟩:ByteArray).toList) (.lf AC ([],true,())) (.cl DY (s,(⟨#[59]⟩:ByteArray),()) fun z2=>lpx (BL s) ([],((0:Int),(z2.1,()))) fun(y3:List SLine×Int×List ByteArray×PUnit) bk3=>.br (decide (y3.2.1<(z2.1.length:Int))) (.ob (inB y3.2.1 y3.2.2.1.length)<|.ob (y3.2.1.toNat<y3.2.2.1.length)<|.cl KB (y3.2.2.1.getD y3.2.1.toNat default,()) fun z3=>.br (!z3.2.1) (.lf AC ([],false,())) (.br ((y3.1.length:Int)==6) (.lf AC ([],false,())) (.ob (True)<|.ob (BM (y3.1.length+[z3.1].length) 24)<|.ob (Value.string s=Value.string s)<|.ob (Value.int IntKind.i64 (z2.1.length:Int)=Value.int IntKind.i64 (z2.1.length:Int))<|.ob (bk3 (y3.1++[z3.1],(w1 y3.2.1,(y3.2.2.1,()))))<|.ok))) (.lf AC (y3.1,true,())))) ?_;refine Ab (fun h1=>lfY ?_) (fun h1=>Af ?_ fun o2=>(Ay ?_ fun(y3:List SLine×Int×List ByteArray×PUnit) i3=>Ab (fun h4=>Aa ?_ fun o5=>Aa ?_ fun o6=>Af ?_ fun o7=>(Ab (fun h8=>lfY ?_) (fun h8=>Ab (fun h9=>lfY ?_) (fun h9=>Aa trivial fun _=>Aa ?_ fun o10=>Aa rfl fun _=>Aa rfl fun _=>Aa ?_ fun o11=>trivial)))) (fun h4=>lfY ?_)));all_goals
  have hp1:s.size<=4200000000:=hp;have hk:=DH 59 s;have hm:∀ i,i<(spl 59 s).length->((spl 59 s).getD i default).size<=s.size:=fun i h=>HR (Bl h)
  try simp only[Az] at *
  try simp only[BL,AC,KB,DY,std,Nat.reduceAdd,KB,DY] at *
  try simp only[show(#[59]:Array UInt8).getD 0 0=59 from rfl] at *
 all_goals first|trivial|omega|(unfold parseScript;rw[Qa2 (by assumption)];exact⟨rfl,rfl⟩)|exact⟨by omega,by omega,by omega,rfl,rfl,by omega⟩|(obtain⟨⟨a1,a2,a3,a4,a5,a6⟩,e1⟩:=i3;simp only[e1] at *)
 all_goals try have hl:y3.1.length=y3.2.1.toNat:=by rw[a4,lines8,Qf5,Qc5];omega
 all_goals first|trivial|omega|(have:=hm y3.2.1.toNat (by omega);omega)|skip
 all_goals first|(unfold parseScript;rw[Qa3 (by assumption),Qa3 (by rintro⟨q1,q2⟩;first|omega|(rw[PY (i:=y3.2.1.toNat) (by omega) (Abh (by assumption))] at q2;cases q2))];exact⟨rfl,rfl⟩)|skip
 all_goals first|(rw[Qb6 (l:=spl 59 s) (i:=y3.2.1.toNat) (by omega)] at a4 a5;unfold parseScript;rw[Qa3 (by assumption),Qa2 (by exact⟨by omega,a5⟩)];exact⟨a4,rfl⟩)|skip
 all_goals (obtain⟨e,ho⟩:=Z9 (s:=(spl 59 s).getD y3.2.1.toNat default) (by assumption);have e2:=Ly (l:=spl 59 s) (i:=y3.2.1.toNat) (by omega);rw[Ah (by omega),show(y3.2.1+1).toNat=y3.2.1.toNat+1 by omega,e];simp only[Qe1];exact⟨⟨by omega,by omega,by omega,by rw[e2.1,a4],by rw[e2.2,a5,ho];rfl,by omega⟩,by omega⟩))
def hasPre (s p:ByteArray):Bool:=decide (p.size<=s.size/\s.extract 0 p.size=p)
def fHasPre:Fct:=⟨[.v (.el .str),.v (.el .str)],[.el .bool],fun(x_:ByteArray×ByteArray×Unit)=>x_.1.size<=1000000000000/\x_.2.1.size<=1000000000000,fun(x_:ByteArray×ByteArray×Unit)=>(hasPre x_.1 x_.2.1,())⟩
def AiJ:=AiW.a fHasPre<|Fct.o [0,1,4] AiW.2 func387 (by
 rintro⟨(s:ByteArray),(p:ByteArray),_⟩ hp;refine ho (.br (decide ((↑(ByteArray.size s):Int)>=(↑(ByteArray.size p):Int))) (.ob ((0:Int)<=(↑(ByteArray.size p):Int)/\(↑(ByteArray.size p):Int)<=(↑(ByteArray.size s):Int))<|.lf fHasPre ((ByteArray.extract s 0 (↑(ByteArray.size p):Int).toNat).toList==ByteArray.toList p,())) (.lf fHasPre (false,()))) ?_;refine Ab (fun h1=>Aa ?_ fun o2=>lfY ?_) (fun h1=>lfY ?_);all_goals
  try simp only[Az] at *
  try simp only[fHasPre,std,Nat.reduceAdd,hasPre] at *
  try simp(disch:=omega) only[wrapId',toNat1] at *
  try simp(disch:=omega) only[Qa2,Qa3]
 all_goals first|trivial|omega|grind[wrapId',toNat1,drop_cons,drop_end,good_len,maxLen,hasPre])
def cutPre (s p:ByteArray):ByteArray×Bool:=if hasPre s p=true then(s.extract p.size s.size,true) else(s,false)
def fCutPre:Fct:=⟨[.v (.el .str),.v (.el .str)],[.el .str,.el .bool],fun(x_:ByteArray×ByteArray×Unit)=>x_.1.size<=1000000000000/\x_.2.1.size<=1000000000000,fun(x_:ByteArray×ByteArray×Unit)=>((cutPre x_.1 x_.2.1).1,(cutPre x_.1 x_.2.1).2,())⟩
def AlP:=AiJ.a fCutPre<|Fct.o (KP [0,1,4,5] [9]) AiJ.2 func338 (by
 rintro⟨(s:ByteArray),(p:ByteArray),_⟩ hp;refine ho (.cl fHasPre (s,p,()) fun z2=>.br (!z2.1) (.lf fCutPre (s,false,())) (.ob ((0:Int)<=(↑(ByteArray.size p):Int)/\(↑(ByteArray.size p):Int)<=(↑(ByteArray.size s):Int))<|.lf fCutPre (ByteArray.extract s (↑(ByteArray.size p):Int).toNat (ByteArray.size s),true,()))) ?_;refine Af ?_ fun o1=>(Ab (fun h2=>lfY ?_) (fun h2=>Aa ?_ fun o3=>lfY ?_))
 all_goals
  have h:hasPre s p=true->p.size<=s.size:=fun h=>(Qf9 h).1
  try simp only[Az] at *
  try simp only[fCutPre,fHasPre,std,Nat.reduceAdd,cutPre,fHasPre] at *
  try simp(disch:=omega) only[wrapId',toNat1] at *
  try simp(disch:=omega) only[Qa2,Qa3]
 all_goals first|trivial|omega|grind[wrapId',toNat1,drop_cons,drop_end,good_len,maxLen,cutPre,fHasPre])
def Akz:=AlP.a fCutPre<|Fct.o [0,1,4,5] AlP.2 func288 (by
 rintro⟨(s:ByteArray),(p:ByteArray),_⟩ hp;refine ho (.cl fCutPre (s,p,()) fun z2=>.lf fCutPre (z2.1,z2.2.1,())) ?_;refine Af ?_ fun o1=>(lfY ?_)
 all_goals
  try simp only[Az] at *
  try simp only[fCutPre,std,Nat.reduceAdd,fCutPre] at *
  try simp(disch:=omega) only[wrapId',toNat1] at *
  try simp(disch:=omega) only[Qa2,Qa3]
 all_goals first|trivial|omega|grind[wrapId',toNat1,drop_cons,drop_end,good_len,maxLen,fCutPre])
theorem Tn (w:ByteArray):cutPre w impW=if hasImp w then(w.extract 7 w.size,true) else(w,false):=by
 unfold cutPre hasPre;by_cases h:hasImp w
 ·rw[Qa2 h,Qf3 (show impW.size<=w.size/\w.extract 0 impW.size=impW from h),Qa2 rfl];rfl
 ·rw[Qa3 h,Qg4 (show ¬ (impW.size<=w.size/\w.extract 0 impW.size=impW) from h),Qa3 (by decide)]
theorem Wv:∀ l:List ByteArray,I7 l ⟨#[59]⟩=gl59 l
 | []=>rfl
 | [w]=>by show ofL (toL w)=w;exact C9 w
 | w::x::l=>by have ih:=Wv (x::l);unfold I7 at ih ⊢;rw[gl59,<-ih];show ofL (toL w++[59]++M3 [59] ((x::l).map toL))=_;rw[Hd,Hd,C9];rfl
theorem AfD:∀ l:List ByteArray,(gl59 l).size<=szL Ac l
 | []=>Qb0 _
 | [w]=>by rw[Ax];show w.size<=w.size+1+0;omega
 | w::x::l=>by have ih:=AfD (x::l);rw[gl59,Ax,Qb7,Qb7];have h1:ByteArray.size ⟨#[59]⟩=1:=rfl;simp only[Ac] at *;omega
theorem XR {α:Type} [Inhabited α] (f:α->Nat) {l:List α} (h:0<l.length):szL f l=f (l.getD 0 default)+1+szL f (l.drop 1):=by
 have:=KQ f h;rw[Qf0] at this;exact this
def pmInv (s b:ByteArray) (ps:List ByteArray) (im:List SAddr):Prop:=pmGo b ps im=parseModule s b/\szL Ac ps+im.length<=s.size+1
theorem Acr (s b:ByteArray):pmInv s b (spl 59 s) []:=⟨rfl,by rw[KX];exact Qb0 _⟩
theorem Zu {s b:ByteArray} {ps:List ByteArray} {im:List SAddr} (h:pmInv s b ps im) (h0:0<ps.length) (hi:hasImp (ps.getD 0 default)) (ha:(parseAddr ((ps.getD 0 default).extract 7 (ps.getD 0 default).size) b).2=true):pmInv s b (ps.drop 1) (im++[(parseAddr ((ps.getD 0 default).extract 7 (ps.getD 0 default).size) b).1]):=by
 obtain⟨h1,h2⟩:=h;have e:ps=ps.getD 0 default::ps.drop 1:=by have:=drop_cons (l:=ps) (i:=0) h0;rw[Qf0] at this;exact this
 rw[XR Ac h0] at h2;rw[e,pmGo,Qa2 hi,Qa2 ha] at h1;exact⟨h1,by rw[Qa4,Qd6];omega⟩
theorem Vd {s b:ByteArray} {ps:List ByteArray} {im:List SAddr} (h:pmInv s b ps im) (h0:0<ps.length) (hi:hasImp (ps.getD 0 default)) (ha:(parseAddr ((ps.getD 0 default).extract 7 (ps.getD 0 default).size) b).2=false):parseModule s b=([],[],false):=by
 have e:ps=ps.getD 0 default::ps.drop 1:=by have:=drop_cons (l:=ps) (i:=0) h0;rw[Qf0] at this;exact this
 rw[<-h.1,e,pmGo,Qa2 hi,Qa3 (by rw[ha];decide)]
theorem YG {s b:ByteArray} {ps:List ByteArray} {im:List SAddr} (h:pmInv s b ps im) (h0:ps.length=0\/¬ hasImp (ps.getD 0 default)):parseModule s b=if(parseScript (gl59 ps)).2=true then(im,(parseScript (gl59 ps)).1,true) else([],[],false):=by
 rw[<-h.1];cases ps with
 | nil=>rw[pmGo];show _=if(parseScript ⟨#[]⟩).2=true then _ else _;rw[Ge,Qa2 rfl];show _=(im,(parseScript ⟨#[]⟩).1,true);rw[Ge]
 | cons w l=>
  rcases h0 with h0|h0
  ·cases h0
  ·rw[pmGo,Qa3 (show ¬ hasImp w from h0)]
theorem Y6:(⟨#[105,109,112,111,114,116,32]⟩:ByteArray)=impW:=rfl
abbrev By (s:ByteArray) (b:ByteArray):LInv:=⟨[⟨.s,7,true,.sl .str⟩,⟨.s,8,true,.sl .addr⟩],fun _ (x_:(List ByteArray)×(List SAddr)×Unit)=>pmInv s b x_.1 x_.2.1,fun(x_:(List ByteArray)×(List SAddr)×Unit)=>x_.1.length⟩
def AhR:=Akz.a Aw<|Fct.p (KP [0,1,4,5,6,7,8,9,10,11,12,13,14] [20,29,37,53]) (fun⟨s,b,_⟩=>lv [(3,By s b)]) Akz.2 func212 (by
 rintro⟨(s:ByteArray),(b:ByteArray),_⟩ hp;refine ho (let q3_:=(⟨#[59]⟩:ByteArray);let q2_:Out:=.lf Aw ([],[],false,());.cl DY (s,q3_,()) fun z2=>lpx (By s b) (z2.1,([],())) fun(y2:List ByteArray×List SAddr×PUnit) bk2=>let q1_:=(y2.1.length:Int);let q0_:Out:=.cl KE (y2.1,q3_,()) fun z4=>.cl AC (z4.1,()) fun z5=>.br (!z5.2.1) q2_ (.lf Aw (y2.2.1,z5.1,true,()));.br (decide (q1_>0)) (.ob ((0:Int)<=(0:Int)/\(0:Int)<q1_)<|.ob (0<y2.1.length)<|.cl fCutPre (y2.1.getD 0 default,(⟨#[105,109,112,111,114,116,32]⟩:ByteArray),()) fun z3=>.br (!z3.2.1) q0_ (.cl AG (z3.1,b,()) fun z6=>.br (!z6.2.1) q2_ (.ob (True)<|.ob (BM (y2.2.1.length+[z6.1].length) 32)<|.ob ((0:Int)<=(1:Int)/\(1:Int)<=q1_)<|.ob (1+(y2.1.length-1)<=y2.1.length)<|.ob (Value.string s=Value.string s)<|.ob (Value.string b=Value.string b)<|.ob (bk2 (cut y2.1 1 (y2.1.length-1),(y2.2.1++[z6.1],())))<|.ok))) q0_) ?_;refine Af ?_ fun o1=>(Ay ?_ fun(y2:List ByteArray×List SAddr×PUnit) i2=>Ab (fun h3=>Aa ?_ fun o4=>Aa ?_ fun o5=>Af ?_ fun o6=>(Ab (fun h7=>Af ?_ fun o8=>(Af ?_ fun o9=>(Ab (fun h10=>lfY ?_) (fun h10=>lfY ?_)))) (fun h7=>Af ?_ fun o11=>(Ab (fun h12=>lfY ?_) (fun h12=>Aa trivial fun _=>Aa ?_ fun o13=>Aa ?_ fun o14=>Aa ?_ fun o15=>Aa rfl fun _=>Aa rfl fun _=>Aa ?_ fun o16=>trivial))))) (fun h3=>Af ?_ fun o17=>(Af ?_ fun o18=>(Ab (fun h19=>lfY ?_) (fun h19=>lfY ?_)))))
 all_goals
  have hp1:s.size<=4000000000/\b.size<=4000000000:=hp;try simp only[Az] at *
  try simp only[By,fCutPre,KE,AG,Aw,AC,DY,std,Nat.reduceAdd,DY,fCutPre,AG,AC,KE] at *
 all_goals first|trivial|omega|skip
 all_goals try simp only[show(#[59]:Array UInt8).getD 0 0=59 from rfl,Y6,Wv,Y8,Tn] at *
 all_goals first|omega|exact Acr s b|(have hz:=i2.2;have hgl:=AfD y2.1;have hlen:=Ad Ac y2.1)
 all_goals try (have hw:=Dx Ac (l:=y2.1) (i:=0) (by omega);simp only[Ac] at hw)
 all_goals by_cases hi:hasImp (y2.1.getD 0 default)
 all_goals first|simp only[Qa2 hi,reduceCtorEq] at * | simp only[Qa3 hi,reduceCtorEq] at * | skip
 all_goals
  try contradiction
  try have hxx:((y2.1.getD 0 default).extract 7 (y2.1.getD 0 default).size).size<=4000000000:=by(rw[Qc3];omega)
 all_goals first|omega|exact⟨by omega,by omega⟩|exact⟨by omega,by decide⟩|skip
 all_goals first|(rw[Vd i2 (by omega) hi (by assumption)];exact⟨rfl,rfl,rfl⟩)|(rw[YG i2 (by first|exact .inl (by omega)|exact .inr hi)];(first|rw[Qa2 (by assumption)]|rw[Qa3 (by intro q;exact tf q (by assumption))]);exact⟨rfl,by first|rfl|assumption,rfl⟩)|exact⟨Zu i2 (by omega) hi (by assumption),by rw[Qe2];omega⟩)
theorem KU {p:SPage} {a:SAddr} (h:0<=findMod p.bh a) (h1:(p.bh.getD (findMod p.bh a).toNat default).done=true) (h2:(p.bh.getD (findMod p.bh a).toNat default).code=1):imports p a=((parseModule (p.bh.getD (findMod p.bh a).toNat default).body a.host).1,(parseModule (p.bh.getD (findMod p.bh a).toNat default).body a.host).2.2):=by
 unfold imports;rw[Qa3];rintro(q|q|q)
 ·omega
 ·exact tf h1 q
 ·exact q h2
theorem Js {p:SPage} {a:SAddr} (h:0<=findMod p.bh a) (h1:(p.bh.getD (findMod p.bh a).toNat default).done=true) (h2:(p.bh.getD (findMod p.bh a).toNat default).code=1):(parseModule (p.bh.getD (findMod p.bh a).toNat default).body a.host).1=(imports p a).1:=by rw[KU h h1 h2]
theorem IE {p:SPage} {a:SAddr} (h:findMod p.bh a<0\/(p.bh.getD (findMod p.bh a).toNat default).done=false\/¬ (p.bh.getD (findMod p.bh a).toNat default).code=1):imports p a=([],false):=by unfold imports;rw[Qa2 h]
theorem Vz {p:SPage} {a:SAddr} {s o:List SAddr} (h:inL s a=false) (hi:(imports p a).1=[]):visit p a (s,o)=(s++[a],o++[a]):=by
 rw[S9 (st:=(s,o)) h,hi];rfl
def EB:GS:=⟨[.l (.v (.el .page)),.l (.v (.el .addr)),.b (.sl .addr),.b (.sl .addr)],[],fun(x_:SPage×SAddr×(List SAddr)×(List SAddr)×Unit)=>okVis x_.1 x_.2.1 x_.2.2.1 x_.2.2.2.1,fun(x_:SPage×SAddr×(List SAddr)×(List SAddr)×Unit)=>((()),((visit x_.1 x_.2.1 (x_.2.2.1,x_.2.2.2.1)).1,(visit x_.1 x_.2.1 (x_.2.2.1,x_.2.2.2.1)).2,()))⟩
abbrev Bq (p:SPage) (a:SAddr) (s:(List SAddr)) (o:(List SAddr)):LInv:=⟨[⟨.s,64,true,.el .int⟩,⟨.b,2,true,.sl .addr⟩,⟨.b,3,true,.sl .addr⟩,⟨.b,4,false,.el .page⟩,⟨.b,5,true,.el .addr⟩,⟨.s,62,true,.sl .addr⟩],fun(z_ x_:Int×(List SAddr)×(List SAddr)×SPage×SAddr×(List SAddr)×Unit)=>(((visInv p a s o x_.2.1 x_.2.2.1 x_.1)/\x_.2.2.2.1=z_.2.2.2.1)/\x_.2.2.2.2.1=z_.2.2.2.2.1)/\x_.2.2.2.2.2.1=z_.2.2.2.2.2.1,fun(x_:Int×(List SAddr)×(List SAddr)×SPage×SAddr×(List SAddr)×Unit)=>(imports p a).1.length-x_.1.toNat⟩
def AjW:=AhR.G EB<|GS.ofRec (S:=EB) (L:=fun⟨p,a,s,o,_⟩=>fun|7=>some (Bq p a s o)|_=>none) (kp:=[2,3,4,5,8,9,13,18,48,62,63,64,65,1000018,1000048,1000065]) mVis AhR.2 func378 (by kernel_rfl) (by kernel_rfl) (by
 intro n0;rintro⟨(p:SPage),(a:SAddr),(s:List SAddr),(o:List SAddr),_⟩ hp hm;refine ho (let q0_:Out:=.ob (True)<|.ob (BM (o.length+[a].length) 32)<|GS.out EB ((()),(s++[a],o++[a],()));.cl CD (s,a,()) fun z2=>.br (z2.1) (GS.out EB ((()),(s,o,()))) (.ob (True)<|.ob (BM (s.length+[a].length) 32)<|.cl Cd (p,a,()) fun(z3:Int×PUnit)=>let q2_:=inB z3.1 p.bh.length;let q1_:=p.bh.getD z3.1.toNat default;.br (decide (z3.1>=0)) (.ob q2_<|.br (q1_.done) (.ob q2_<|.br (q1_.code==1) (.ob q2_<|.cl Aw (q1_.body,a.host,()) fun z4=>let q3_:=(z4.1.length:Int);lpx (Bq p a s o) ((0:Int),(s++[a],(o,(p,(a,(z4.1,())))))) fun(y12:Int×List SAddr×List SAddr×SPage×SAddr×List SAddr×PUnit) bk12=>.br (decide (y12.1<q3_)) (.ob (inB y12.1 y12.2.2.2.2.2.1.length)<|.ob (y12.1.toNat<y12.2.2.2.2.2.1.length)<|.ob (EB.pre (y12.2.2.2.1,y12.2.2.2.2.2.1.getD y12.1.toNat default,y12.2.1,y12.2.2.1,())/\mVis (y12.2.2.2.1,y12.2.2.2.2.2.1.getD y12.1.toNat default,y12.2.1,y12.2.2.1,())<n0)<|.lt _ (EB.fn (y12.2.2.2.1,y12.2.2.2.2.2.1.getD y12.1.toNat default,y12.2.1,y12.2.2.1,())) fun z5=>.ob (Value.int IntKind.i64 z3.1=Value.int IntKind.i64 z3.1)<|.ob (Value.int IntKind.i64 q3_=Value.int IntKind.i64 q3_)<|.ob (bk12 (w1 y12.1,(z5.2.1,(z5.2.2.1,(y12.2.2.2.1,(y12.2.2.2.2.1,(y12.2.2.2.2.2.1,())))))))<|.ok) (.ob (True)<|.ob (BM (y12.2.2.1.length+[y12.2.2.2.2.1].length) 32)<|GS.out EB ((()),(y12.2.1,y12.2.2.1++[y12.2.2.2.2.1],())))) q0_) q0_) q0_)) ?_;repeat' first|(guard_target =~ Out.holds _ _;first|refine Ay (li:=Bq p a s o) ?_ fun(y12:Int×List SAddr×List SAddr×SPage×SAddr×List SAddr×PUnit) i12=>?_|refine GS.leafY ?_|refine Ab (fun _=>?_) fun _=>?_|refine Af ?_ fun _=>?_|refine Aa ?_ fun _=>?_|refine Du ?_)|exact trivial
 all_goals have hq:okVis p a s o:=hp
 all_goals obtain⟨p1,p2,p3,p4,p5⟩:=(show okVis p a s o from hp)
 all_goals
  have hsl:s.length<=100000000000:=by(simp only[totV] at p4;omega)
  have hil:=HH a p2;have hfm:=BP p.bh a;try simp only[Az] at *
  try simp only[Bq,CD,Cd,Aw,EB,std,Nat.reduceAdd,CD,Cd,Aw,Hv,MZ] at *
 all_goals first|trivial|omega|skip
 all_goals first|(rw[Oq (by assumption)];exact⟨rfl,rfl⟩)|exact⟨p2 _ (by omega),p3⟩|skip
 all_goals first|(have hI1:=Js (p:=p) (a:=a) (by omega) (by assumption) (by assumption))|(have hI2:(imports p a).1=[]:=by rw[IE (by first|exact .inl (by omega)|exact .inr (.inl (by assumption))|exact .inr (.inr (by assumption)))])
 all_goals first|(rw[Vz (by assumption) hI2];exact⟨rfl,rfl⟩)|exact S6 p a s o p5|(obtain⟨⟨⟨i1,e1⟩,e2⟩,e3⟩:=i12;simp only[e1,e2,e3,hI1] at *)
 all_goals
  have i2:=i1.1;have i3:=Me i1 hq
 all_goals first|trivial|omega|exact⟨i2,by assumption⟩|skip
 all_goals first|exact⟨(Hl i1 (by assumption) (by assumption) hq).1,Qf6 (Hl i1 (by assumption) (by assumption) hq).2 (Nat.le_of_lt_succ hm)⟩|(rw[Ah (by omega)];simp only[Qe1];exact⟨Pu i1 (by assumption),by omega⟩)|(rw[<-LY i1 (by omega) (by assumption)];exact⟨rfl,rfl⟩))
def Ahk:=AjW.a Bw<|Fct.o [2,3,4,5,6] AjW.2 func330 (by
 rintro⟨(p:SPage),(a:SAddr),_⟩ hp;refine ho (.ob (EB.pre (p,a,[],[],()))<|.lt _ (EB.fn (p,a,[],[],())) fun z2=>.lf Bw (z2.2.2.1,())) ?_;refine Aa ?_ fun o1=>Du (lfY ?_)
 all_goals
  try simp only[Az] at *
  try simp only[Bw,EB,std,Nat.reduceAdd,EB] at *
 all_goals first|assumption|rfl|skip)
abbrev B4 (p:SPage) (a:SAddr):LInv:=⟨[⟨.s,12,true,.el .int⟩,⟨.b,2,false,.el .page⟩,⟨.s,10,true,.sl .addr⟩],fun(z_ x_:Int×SPage×(List SAddr)×Unit)=>((0<=x_.1/\x_.1<=(reachOf p a).length/\((reachOf p a).drop x_.1.toNat).all (fun b=>decide (0<=findMod p.bh b)&&(p.bh.getD (findMod p.bh b).toNat default).done)=graphReady p a)/\x_.2.1=z_.2.1)/\x_.2.2.1=z_.2.2.1,fun(x_:Int×SPage×(List SAddr)×Unit)=>(reachOf p a).length-x_.1.toNat⟩
end Go.Proofs.YtjgmhdnhlpckeaaGreatDoor.fnExactRequestNext
