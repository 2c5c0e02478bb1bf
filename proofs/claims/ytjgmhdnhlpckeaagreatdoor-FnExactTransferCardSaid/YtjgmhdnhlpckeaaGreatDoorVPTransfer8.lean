/-
  Contracts of functions that the law of FnExactTransfer reaches, part 8.
-/
import Derived.Test.YtjgmhdnhlpckeaaGreatDoorVPTransfer3
import Derived.Test.YtjgmhdnhlpckeaaGreatDoorVLe
import Derived.WalkKit
import Derived.BigGuard
import Derived.Deep.QuietTactic
import Derived.BigQuiet
import Derived.Lib.ConvBytes
import Derived.Sort.WalkC
import Derived.Handy
import Derived.Lib.Overlaps
import Derived.Lib.AppendZerosOnto
import Derived.Laws.Externs
import Derived.Shelf.RegionOpenPlain
import Derived.Defers
import Derived.Laws.Pointers
import Derived.Laws.LoneSync
import Derived.RegionCalls
import Derived.ChangeAlike
import Derived.LoopN
import Derived.Lib.SliceRun
import Derived.Shelf.Strconv.AtoiAll
import Derived.Shelf.Small.Strs
import Derived.Test.YtjgmhdnhlpckeaaGreatDoorRows
import Derived.Test.YtjgmhdnhlpckeaaGreatDoorCards
import Derived.LaidMore
import Derived.Lay
import Derived.SevenTiedAt
import Derived.WalkKit
import Derived.ProofKit
import Derived.OpenShut
namespace Go.Proofs.YtjgmhdnhlpckeaaGreatDoor.fnExactTransfer
open Go.Proofs.YtjgmhdnhlpckeaaGreatDoor
open Go.D Go.Proofs.Tryz
set_option maxRecDepth 100000
set_option maxHeartbeats 2000000
set_option linter.unusedVariables false
set_option linter.unusedSimpArgs false
def Alr:=Akj.a Ba<|Fct.p (KP [2,3,4,6,7,10,11,12] [13,29]) (fun⟨p,a,_⟩=>lv [(2,BP p a)]) Akj.2 func279 (by
 rintro⟨(p:SPage),(a:SAddr),_⟩ hp;refine ho (.cl Bp (p,a,()) fun z2=>lpx (BP p a) ((0:Int),(p,(z2.1,()))) fun(y2:Int×SPage×List SAddr×PUnit) bk2=>.br (decide (y2.1<(z2.1.length:Int))) (.ob (inB y2.1 y2.2.2.1.length)<|.ob (y2.1.toNat<y2.2.2.1.length)<|.cl Ca (y2.2.1,y2.2.2.1.getD y2.1.toNat default,()) fun(z3:Int×PUnit)=>.br (decide (z3.1<0)) (.lf Ba (false,())) (.ob (inB z3.1 y2.2.1.bg.length)<|.br (!(y2.2.1.bg.getD z3.1.toNat default).done) (.lf Ba (false,())) (.ob (Value.int IntKind.i64 (z2.1.length:Int)=Value.int IntKind.i64 (z2.1.length:Int))<|.ob (bk2 (w1 y2.1,(y2.2.1,(y2.2.2.1,()))))<|.ok))) (.lf Ba (true,()))) ?_;refine Ae ?_ fun o1=>(Aw ?_ fun(y2:Int×SPage×List SAddr×PUnit) i2=>Ab (fun h3=>Aa ?_ fun o4=>Aa ?_ fun o5=>Ae ?_ fun o6=>(Ab (fun h7=>lfY ?_) (fun h7=>Aa ?_ fun o8=>Ab (fun h9=>lfY ?_) (fun h9=>Aa rfl fun _=>Aa ?_ fun o10=>trivial)))) (fun h3=>lfY ?_))
 all_goals obtain⟨p1,p2,p3,p4,p5⟩:=(show okVis p a [] [] from hp)
 all_goals
  have hl:=GA (a:=a) p4;try simp only[AA] at *
  try simp only[BP,Ba,Ca,Bp,std,Nat.reduceAdd,Bp,Ca,Ht] at *
 all_goals first|trivial|omega|exact⟨p1,p2,p3,p4,p5⟩|exact⟨by omega,by omega,rfl⟩|skip
 all_goals (obtain⟨⟨⟨i0,i1,i3⟩,e1⟩,e2⟩:=i2;simp only[e1,e2] at *)
 all_goals have hf:=BH p.bg ((reachOf p a).getD y2.1.toNat default)
 all_goals first|assumption|omega|skip
 all_goals first|(rw[Wy (by omega)] at i3;exact i3)|rw[Acu (by omega)] at i3
 all_goals first|(rw[<-i3,Qg2 (by omega)];rfl)|(rw[<-i3,Qf2 (by omega),show SModule.done _=false by assumption];rfl)|(rw[Qf2 (by omega),show SModule.done _=true by assumption,Bool.true_and,Bool.true_and] at i3;rw[Ah (by omega),show(y2.1+1).toNat=y2.1.toNat+1 by omega];simp only[Qe1];exact⟨⟨by omega,by omega,i3⟩,by omega⟩))
abbrev BY (p:SPage) (a:SAddr):LInv:=⟨[⟨.s,15,true,.el .int⟩,⟨.b,2,false,.el .page⟩,⟨.s,13,true,.sl .addr⟩],fun(z_ x_:Int×SPage×(List SAddr)×Unit)=>((0<=x_.1/\x_.1<=(reachOf p a).length/\((reachOf p a).drop x_.1.toNat).any (fun b=>!(imports p b).2)=graphFails p a)/\x_.2.1=z_.2.1)/\x_.2.2.1=z_.2.2.1,fun(x_:Int×SPage×(List SAddr)×Unit)=>(reachOf p a).length-x_.1.toNat⟩
def AmO:=Alr.a Bs<|Fct.p (KP [2,3,4,6,7,10,13,14,15] [16,41,56]) (fun⟨p,a,_⟩=>lv [(2,BY p a)]) Alr.2 func331 (by
 rintro⟨(p:SPage),(a:SAddr),_⟩ hp;refine ho (let q0_:Out:=.lf Bs (true,());.cl Bp (p,a,()) fun z2=>let q3_:=(z2.1.length:Int);lpx (BY p a) ((0:Int),(p,(z2.1,()))) fun(y2:Int×SPage×List SAddr×PUnit) bk2=>.br (decide (y2.1<q3_)) (.ob (inB y2.1 y2.2.2.1.length)<|.ob (y2.1.toNat<y2.2.2.1.length)<|.cl Ca (y2.2.1,y2.2.2.1.getD y2.1.toNat default,()) fun(z3:Int×PUnit)=>let q2_:=inB z3.1 y2.2.1.bg.length;let q1_:=y2.2.1.bg.getD z3.1.toNat default;.br (decide (z3.1<0)) q0_ (.ob q2_<|.br (!q1_.done) q0_ (.ob q2_<|.br (q1_.code != 1) q0_ (.ob q2_<|.cl Av (q1_.body,(y2.2.2.1.getD y2.1.toNat default).host,()) fun z4=>.br (!z4.2.2.1) q0_ (.ob (Value.int IntKind.i64 q3_=Value.int IntKind.i64 q3_)<|.ob (bk2 (w1 y2.1,(y2.2.1,(y2.2.2.1,()))))<|.ok))))) (.lf Bs (false,()))) ?_;refine Ae ?_ fun o1=>(Aw ?_ fun(y2:Int×SPage×List SAddr×PUnit) i2=>Ab (fun h3=>Aa ?_ fun o4=>Aa ?_ fun o5=>Ae ?_ fun o6=>(Ab (fun h7=>lfY ?_) (fun h7=>Aa ?_ fun o8=>Ab (fun h9=>lfY ?_) (fun h9=>Aa ?_ fun o10=>Ab (fun h11=>lfY ?_) (fun h11=>Aa ?_ fun o12=>Ae ?_ fun o13=>(Ab (fun h14=>lfY ?_) (fun h14=>Aa rfl fun _=>Aa ?_ fun o15=>trivial))))))) (fun h3=>lfY ?_))
 all_goals obtain⟨p1,p2,p3,p4,p5⟩:=(show okVis p a [] [] from hp)
 all_goals
  have hl:=GA (a:=a) p4;try simp only[AA] at *
  try simp only[BY,Bs,Ca,Av,Bp,std,Nat.reduceAdd,Bp,Ca,Av,Ht] at *
 all_goals first|trivial|omega|exact⟨p1,p2,p3,p4,p5⟩|exact⟨by omega,by omega,rfl⟩|skip
 all_goals (obtain⟨⟨⟨i0,i1,i3⟩,e1⟩,e2⟩:=i2;simp only[e1,e2] at *)
 all_goals have hf:=BH p.bg ((reachOf p a).getD y2.1.toNat default)
 all_goals first|assumption|omega|exact⟨p2 _ (by omega),Hc (Br (by omega)) p3⟩|skip
 all_goals first|(rw[Xi (by omega)] at i3;exact i3)|rw[AcD (by omega)] at i3
 all_goals first|(rw[IT (by first|exact .inl (by omega)|exact .inr (.inl (by assumption))|exact .inr (.inr (by assumption)))] at i3;rw[<-i3];rfl)|(rw[Lg (by omega) (by assumption) (by assumption)] at i3;first|(rw[<-i3];dsimp only;rw[show Prod.snd (Prod.snd (parseModule _ _))=false by assumption];rfl)|(dsimp only at i3;rw[show Prod.snd (Prod.snd (parseModule _ _))=true by assumption,Bool.not_true,Bool.false_or] at i3;rw[Ah (by omega),show(y2.1+1).toNat=y2.1.toNat+1 by omega];simp only[Qe1];exact⟨⟨by omega,by omega,i3⟩,by omega⟩)))
open Go.RowKit Go.Lib Go.Sort in
theorem Pr (w:World):(callFunc 496 #[]).run Tryz.prog w=.ok (.value (.tuple #[])) w:=run_call_mark0 func496 (by kernel_rfl) (by kernel_rfl) (by kernel_rfl) .disable (by kernel_rfl) w
open Go.RowKit Go.Lib Go.Sort in
theorem Sd (w:World):(callFunc 498 #[]).run Tryz.prog w=.ok (.value (.tuple #[])) w:=run_call_mark0 func498 (by kernel_rfl) (by kernel_rfl) (by kernel_rfl) .enable (by kernel_rfl) w
open Go.RowKit Go.Lib Go.Sort in
theorem YT (a:Addr) (w:World):(callFunc 499 #[.pointer (some a)]).run Tryz.prog w=.ok (.value (.tuple #[])) w:=run_call_marked func499 (by kernel_rfl) (by kernel_rfl) (by kernel_rfl) .acquire (by kernel_rfl) a w
open Go.RowKit Go.Lib Go.Sort in
theorem YO (a:Addr) (w:World):(callFunc 501 #[.pointer (some a)]).run Tryz.prog w=.ok (.value (.tuple #[])) w:=run_call_marked func501 (by kernel_rfl) (by kernel_rfl) (by kernel_rfl) .releaseMerge (by kernel_rfl) a w
open Go.RowKit Go.Lib Go.Sort in
theorem Ac9 (a:Addr) (x:Value) (u:FrameMode) (w:World) (hc:w.cell? a=some x) (hz:w.frozen? a=false) :
 CallsD Tryz.prog 482 #[.pointer (some a),.bool true] u w fun e u' w'=>u'=u/\(e=.returned (.tuple #[])/\w'=w.drew.setCell a (.int .u32 1)):=by
 have hc':w.drew.cell? a=some x:=by go_simp
 have hz':w.drew.frozen? a=false:=by go_simp
 have hst:=run_call_store (P:=Tryz.prog) func490 (by kernel_rfl) (by kernel_rfl) (by kernel_rfl) (by kernel_rfl) (k:=.u32) (y:=1) hc' hz'
 go_enter_d func482,Tryz.ntmps482
 go_wp2
 go_region_calls
 all_goals (go_end0;exact⟨rfl,rfl⟩)
open Go.RowKit Go.Lib Go.Sort in
theorem AbW (a:Addr) (u:FrameMode) (w:World) (hc:w.cell? a=some (.int .i32 1)) (hz:w.frozen? a=false) :
 CallsD Tryz.prog 481 #[.pointer (some a)] u w fun e u' w'=>u'=u/\(e=.returned (.tuple #[])/\w'=w.setCell a (.int .i32 0)):=by
 have hd:=Pr;have he:=Sd;have hr:=YO;have hadd:=run_call_add (P:=Tryz.prog) func502 (by kernel_rfl) (by kernel_rfl) (by kernel_rfl) .i32 (by kernel_rfl) (y:=-1) (s:=0) hc hz (by simp[go_sem];rfl);have hcv:=run_convert_to_unsafe (P:=Tryz.prog) (src:=530) (dst:=426) Tryz.underlying530 Tryz.underlying426 (by kernel_rfl) hc
 go_enter_d func481,Tryz.ntmps481
 go_wp2
 try go_end0
 go_wp2
 all_goals (try go_end0)
 all_goals exact⟨rfl,rfl⟩
open Go.RowKit Go.Lib Go.Sort in
theorem Agp (a:Addr) (w:World) (hc:w.cell? a=some (.int .i32 0)) (hz:w.frozen? a=false) :
 Calls Tryz.prog 480 #[.pointer (some a)] w fun e w'=>e=.returned (.tuple #[])/\w'=w.setCell a (.int .i32 1):=by
 have hd:=Pr;have he:=Sd;have ha:=YT;have hcas:=run_call_cas_hit (P:=Tryz.prog) func497 (by kernel_rfl) (by kernel_rfl) (by kernel_rfl) .i32 (by kernel_rfl) (y:=1) hc hz;have hc':(w.setCell a (.int .i32 1)).cell? a=some (.int .i32 1):=World.cell?_setCell_same w a _ hc;have hcv:=run_convert_to_unsafe (P:=Tryz.prog) (src:=530) (dst:=426) Tryz.underlying530 Tryz.underlying426 (by kernel_rfl) hc'
 go_enter func480,Tryz.ntmps480
 go_wp2
 first|go_end0|(simp only[Exit.inBlock,Exit.then];refine bodyPost_ret (results_none rfl _ _ _) rfl ?_)|refine bodyPost_ret (results_none rfl _ _ _) rfl ?_
 go_wp2
 all_goals (try go_end0)
 all_goals exact⟨rfl,rfl⟩
open Go.RowKit Go.Lib Go.Sort in
theorem Aci:Tryz.zeroCells499=Array.replicate 256 (.int .u8 0):=by kernel_rfl
open Go.RowKit Go.Lib Go.Sort in
theorem Ag7 (w:World):(storeCells ⟨w.heap.size,0,none⟩ Tryz.zeroCells499.toList 0).run Tryz.prog (w.alloc (.cells Tryz.zeroCells499 499))=.ok () (w.alloc (.cells Tryz.zeroCells499 499)):=run_storeCells_new (P:=Tryz.prog) w 499 Tryz.zeroCells499 Tryz.zeroCells499 (by kernel_rfl) rfl (by kernel_rfl)
open Go.RowKit Go.Lib Go.Sort in
theorem Ac3 (b c cap:Nat) (w:World) (h4:w.cell? ⟨b,4,none⟩=some (.slice (some ⟨c,0,none⟩) 4 cap)) (c0:w.cell? ⟨c,0,none⟩=some (.string ⟨#[91]⟩)) (c1:w.cell? ⟨c,1,none⟩=some (.string ⟨#[60]⟩)) (c2:w.cell? ⟨c,2,none⟩=some (.string ⟨#[93]⟩)) (c3:w.cell? ⟨c,3,none⟩=some (.string ⟨#[62]⟩)) (hbw:b<w.heap.size) (hcw:c<w.heap.size) :
 Calls Tryz.prog 471 #[.pointer (some ⟨b,0,none⟩)] w fun e w'=>e=.returned (.iface 500 (.pointer (some ⟨w.heap.size,0,none⟩)))/\∃ r:Array Value,w'=w.alloc (.cells r 499)/\r.size=256/\∀ t:Nat,t<256->r[t]? = some (.int .u8 (if t=91 then 60 else if t=93 then 62 else t)):=by
 have hsc:=Ag7 w;have hcv:∀ (r:Array Value) (j:Nat),(w.alloc (.cells r 499)).cell? ⟨c,j,none⟩=w.cell? ⟨c,j,none⟩:=fun r j=>by rw[World.cell?_alloc_past _ _ _ hcw]
 go_enter func471,Tryz.ntmps471
 go_wp2
 refine wp_loop_rounds 3 ?_;repeat any_goals (rw[rounds_succ];go_wp2)
 go_loopw [61] (fun vi wr=>∃ (i:Nat) (r:Array Value),vi=.int .i64 i/\i<=256/\r.size=256/\wr=w.alloc (.cells r 499)/\∀ t:Nat,t<256->r[t]? = some (.int .u8 (if t<i then t else 0))) (fun vi _=>257-(RowKit.intOf vi).toNat)
 case atStart=>exact⟨0,Tryz.zeroCells499,rfl,by omega,by rw[Aci];simp,rfl,fun t ht=>by rw[Aci,Array.getElem?_replicate,Qa2 ht,Qa3 (by omega)]⟩
 case round=>
  obtain⟨i,r,rfl,hi,hs,rfl,hr⟩:=hrel;by_cases h1:i<256
  ·have hcell:=Ej w r 499 i;have hfz:=Og w r 499 i;rw[hr i h1,Qa3 (by omega)] at hcell;have hR:Hid (∀ t:Nat,t<256->r[t]? = some (.int .u8 (if t<i then t else 0))):=hr;have hx:IntKind.u8.wrap (i:Int)=i:=by simp[IntKind.wrap,IntKind.bits,IntKind.signed];omega
   clear hr
   go_wp2
   case roundEnd=>
    refine⟨⟨i+1,r.setIfInBounds i (.int .u8 i),rfl,h1,by rw[Array.size_setIfInBounds,hs],by first|rfl|(rw[hx];exact Qz _ _ _ _ _),fun t ht=>?_⟩,by simp only[RowKit.intOf];omega⟩;rw[SF (by omega)];by_cases he:t=i
    ·subst he;rw[Qa2 rfl,Qa2 (by omega)]
    ·rw[Qa3 he,hR.out t ht];by_cases h3:t<i
     ·rw[Qa2 h3,Qa2 (by omega)]
     ·rw[Qa3 h3,Qa3 (by omega)]
  ·have hie:i=256:=by omega
   subst hie;have hR:Hid (∀ t:Nat,t<256->r[t]? = some (.int .u8 (if t<256 then t else 0))):=hr;clear hr;have d0:=(hcv r 0).trans c0;have d1:=(hcv r 1).trans c1;have d2:=(hcv r 2).trans c2;have d3:=(hcv r 3).trans c3;have q1:((⟨#[93]⟩:ByteArray)[0]'(by decide)).toNat=93:=rfl;have q2:((⟨#[91]⟩:ByteArray)[0]'(by decide)).toNat=91:=rfl;have q3:((⟨#[62]⟩:ByteArray)[0]'(by decide)).toNat=62:=rfl;have q4:((⟨#[60]⟩:ByteArray)[0]'(by decide)).toNat=60:=rfl;have f1:=Og w r 499 93;have e1:=Ej w r 499 93;have s1:=Qz w r 499 93 (.int .u8 62);have f2:=Og w (r.setIfInBounds 93 (.int .u8 62)) 499 91;have e2:=Ej w (r.setIfInBounds 93 (.int .u8 62)) 499 91;have s2:=Qz w (r.setIfInBounds 93 (.int .u8 62)) 499 91 (.int .u8 60);rw[hR.out 93 (by omega),Qa2 (by omega)] at e1;rw[SF (by omega),Qa3 (by omega),hR.out 91 (by omega),Qa2 (by omega)] at e2;have g0:=(hcv (r.setIfInBounds 93 (.int .u8 62)) 0).trans c0;have g1:=(hcv (r.setIfInBounds 93 (.int .u8 62)) 1).trans c1
   go_wp2
   refine wp_loop_rounds 3 ?_;repeat any_goals (rw[rounds_succ];go_wp2)
   refine bodyPost_ret (results_tmp rfl _ _ _) rfl ?_;refine⟨rfl,_,rfl,by rw[Array.size_setIfInBounds,Array.size_setIfInBounds,hs],fun t ht=>?_⟩;rw[SF (by rw[Array.size_setIfInBounds];omega),SF (by omega),hR.out t ht,Qa2 ht];by_cases h9:t=91
   ·rw[Qa2 h9,Qa2 h9]
   ·rw[Qa3 h9,Qa3 h9];by_cases h3:t=93
    ·rw[Qa2 h3,Qa2 h3]
    ·rw[Qa3 h3,Qa3 h3]
open Go.RowKit Go.Lib Go.Sort in
def mrow (r:Array Value):Prop:=r.size=256/\∀ t:Nat,t<256->r[t]? = some (.int .u8 (if t=91 then 60 else if t=93 then 62 else t))
open Go.RowKit in
structure MRep (w:World) (b c cap:Nat):Prop where
 v0:w.cell? ⟨b,0,none⟩=some (.int .u32 0)
 v1:w.cell? ⟨b,1,none⟩=some (.int .i32 0)
 v3:w.cell? ⟨b,3,none⟩=some .nilIface
 v4:w.cell? ⟨b,4,none⟩=some (.slice (some ⟨c,0,none⟩) 4 cap)
 f0:w.frozen? ⟨b,0,none⟩=false
 f1:w.frozen? ⟨b,1,none⟩=false
 f3:w.frozen? ⟨b,3,none⟩=false
 f4:w.frozen? ⟨b,4,none⟩=false
 c0:w.cell? ⟨c,0,none⟩=some (.string ⟨#[91]⟩)
 c1:w.cell? ⟨c,1,none⟩=some (.string ⟨#[60]⟩)
 c2:w.cell? ⟨c,2,none⟩=some (.string ⟨#[93]⟩)
 c3:w.cell? ⟨c,3,none⟩=some (.string ⟨#[62]⟩)
 lb:b<w.heap.size
 lc:c<w.heap.size
 ne:¬ c=b
open Go.RowKit Go.Lib Go.Sort in
theorem Af1 (b c cap:Nat) (w:World) (h3:∃ x,w.cell? ⟨b,3,none⟩=some x) (h4:w.cell? ⟨b,4,none⟩=some (.slice (some ⟨c,0,none⟩) 4 cap)) (f3:w.frozen? ⟨b,3,none⟩=false) (f4:w.frozen? ⟨b,4,none⟩=false) (c0:w.cell? ⟨c,0,none⟩=some (.string ⟨#[91]⟩)) (c1:w.cell? ⟨c,1,none⟩=some (.string ⟨#[60]⟩)) (c2:w.cell? ⟨c,2,none⟩=some (.string ⟨#[93]⟩)) (c3:w.cell? ⟨c,3,none⟩=some (.string ⟨#[62]⟩)) (hbw:b<w.heap.size) (hcw:c<w.heap.size) :
 Calls Tryz.prog 461 #[.pointer (some ⟨b,0,none⟩)] w fun e w'=>e=.returned (.tuple #[])/\∃ r:Array Value,w'=((w.setCell ⟨b,3,none⟩ (.iface 500 (.pointer (some ⟨w.heap.size,0,none⟩)))).setCell ⟨b,4,none⟩ (.slice none 0 0)).alloc (.cells r 499)/\mrow r:=by
 obtain⟨x,h3⟩:=h3;have k3:∀ r,(w.alloc (.cells r 499)).cell? ⟨b,3,none⟩=some x:=fun r=>by rw[World.cell?_alloc_past _ _ _ hbw];exact h3
 have k4:∀ r,(w.alloc (.cells r 499)).cell? ⟨b,4,none⟩=some (.slice (some ⟨c,0,none⟩) 4 cap):=fun r=>by rw[World.cell?_alloc_past _ _ _ hbw];exact h4
 have g3:∀ r,(w.alloc (.cells r 499)).frozen? ⟨b,3,none⟩=false:=fun r=>by rw[World.frozen?_alloc_past _ _ _ hbw];exact f3
 have g4:∀ r,(w.alloc (.cells r 499)).frozen? ⟨b,4,none⟩=false:=fun r=>by rw[World.frozen?_alloc_past _ _ _ hbw];exact f4
 go_enter func461,Tryz.ntmps461
 go_wp2_with (go_at_call 471;refine(Ac3 b c cap w h4 c0 c1 c2 c3 hbw hcw).mono ?_;rintro e w' ⟨rfl,r,rfl,hr⟩)
 go_wp2
 try go_end0
 exact⟨rfl,r,rfl,hr⟩
open Go.RowKit Go.Lib Go.Sort in
def mW (w:World) (b:Nat) (r:Array Value):World:=(((((w.setCell ⟨b,1,none⟩ (.int .i32 1)).setCell ⟨b,3,none⟩ (.iface 500 (.pointer (some ⟨w.heap.size,0,none⟩)))).setCell ⟨b,4,none⟩ (.slice none 0 0)).alloc (.cells r 499)).drew.setCell ⟨b,0,none⟩ (.int .u32 1)).setCell ⟨b,1,none⟩ (.int .i32 0)
open Go.RowKit Go.Lib Go.Sort in
theorem Agy (b c cap:Nat) (w:World) (H:MRep w b c cap) :
 Calls Tryz.prog 470 #[.pointer (some ⟨b,0,none⟩),.func (.func 461) #[.pointer (some ⟨b,0,none⟩)] #[]] w fun e w'=>e=.returned (.tuple #[])/\∃ r:Array Value,mrow r/\w'=mW w b r:=by
 obtain⟨v0,v1,v3,v4,f0,f1,f3,f4,c0,c1,c2,c3,lb,lc,ne⟩:=H;have oth:∀ (a:Addr) (v:Value) (d:Addr),d≠a->(w.setCell a v).cell? d=w.cell? d:=fun a v d h=>World.cell?_setCell_other _ a d v (fun e=>h e.symm)
 have n1:∀ j:Nat,(⟨c,j,none⟩:Addr)≠⟨b,1,none⟩:=fun j h=>ne (Qg8 Addr.block h)
 have hl:=run_call_load (P:=Tryz.prog) func479 (by kernel_rfl) (by kernel_rfl) (by kernel_rfl) .u32 (by kernel_rfl) (w:=w.setCell ⟨b,1,none⟩ (.int .i32 1)) (a:=⟨b,0,none⟩) (x:=0) ((oth _ _ _ (by simp)).trans v0);have hnot:∀ (x:Bool) (w:World),(Op.unary .not (.bool x)).run Tryz.prog w=.ok (.bool (!x)) w:=fun _ _=>rfl
 go_enter_defers func470,Tryz.ntmps470
 have o1:∀ d:Addr,d≠⟨b,1,none⟩->(w.setCell ⟨b,1,none⟩ (.int .i32 1)).cell? d=w.cell? d:=fun d h=>oth _ _ d h
 have fz:∀ (v:Value) (d:Addr),(w.setCell ⟨b,1,none⟩ v).frozen? d=w.frozen? d:=fun v d=>World.frozen?_setCell _ _ _ _
 go_wp2_with (first
  | (go_at_call 480;refine(Agp ⟨b,1,none⟩ _ (by go_simp) (by go_simp)).mono ?_;rintro e w' ⟨rfl,rfl⟩)
  | (go_at_call 469;go_in))
 refine(Af1 b c cap (w.setCell ⟨b,1,none⟩ (.int .i32 1)) ⟨_,(o1 _ (by simp)).trans v3⟩ ((o1 _ (by simp)).trans v4) ((fz _ _).trans f3) ((fz _ _).trans f4) ((o1 _ (n1 0)).trans c0) ((o1 _ (n1 1)).trans c1) ((o1 _ (n1 2)).trans c2) ((o1 _ (n1 3)).trans c3) (by rw[World.size_setCell];exact lb) (by rw[World.size_setCell];exact lc)).mono ?_;rintro e w' ⟨rfl,r,rfl,hr⟩
 go_wp2
 refine leaves_cons (f:=482) (args := #[.pointer (some ⟨b,0,none⟩),.bool true]) (by simp) (by simp[go_sem]) ?_;refine(Ac9 ⟨b,0,none⟩ (.int .u32 0) .returning _ ?_ (by rw[World.frozen?_alloc_past _ _ _ (by simpa using lb),World.frozen?_setCell,World.frozen?_setCell,World.frozen?_setCell];exact f0)).mono ?_
 ·rw[World.cell?_alloc_past _ _ _ (by simpa using lb),World.cell?_setCell_other _ _ _ _ (by simp),World.cell?_setCell_other _ _ _ _ (by simp),World.cell?_setCell_other _ _ _ _ (by simp)];exact v0
 rintro e u' w'' ⟨rfl,rfl,rfl⟩;refine leaves_cons (f:=481) (args := #[.pointer (some ⟨b,1,none⟩)]) (by simp[settle]) (by simp[go_sem]) ?_;refine(AbW ⟨b,1,none⟩ _ _ ?_ (by rw[World.frozen?_setCell,World.frozen?_drew,World.frozen?_alloc_past _ _ _ (by simpa using lb),World.frozen?_setCell,World.frozen?_setCell,World.frozen?_setCell];exact f1)).mono ?_
 ·rw[World.cell?_setCell_other _ _ _ _ (by simp),World.cell?_drew,World.cell?_alloc_past _ _ _ (by simpa using lb),World.cell?_setCell_other _ _ _ _ (by simp),World.cell?_setCell_other _ _ _ _ (by simp)];exact World.cell?_setCell_same w _ _ v1
 rintro e u' w'' ⟨rfl,rfl,rfl⟩;simp[Leaves,settle,results,Tryz.results470];exact⟨r,hr,rfl⟩
open Go.RowKit Go.Lib Go.Sort in
theorem Ae3 (x:UInt8):((mk8 x).toNat:Int)=(if x.toNat=91 then(60:Int) else if x.toNat=93 then 62 else(x.toNat:Int)):=by
 unfold mk8;by_cases h:x=91
 ·subst h;rfl
 ·have h':¬ x.toNat=91:=fun e=>h (UInt8.toNat_inj.1 e)
  rw[Qa3 h,Qa3 h'];by_cases h2:x=93
  ·subst h2;rfl
  ·have h3:¬ x.toNat=93:=fun e=>h2 (UInt8.toNat_inj.1 e)
   rw[Qa3 h2,Qa3 h3]
open Go.RowKit Go.Lib Go.Sort in
theorem AhA (k:Nat) (s:ByteArray) (hs1:s.size<=1000000000000) (w:World) (hkw:k<w.heap.size) (hk:∀ x:UInt8,w.cell? ⟨k,x.toNat,none⟩=some (.int .u8 (mk8 x).toNat)) :
 Calls Tryz.prog 538 #[.pointer (some ⟨k,0,none⟩),.string s] w fun e w'=>e=.returned (.string (markup s))/\(w'=w\/∃ dk,dk.size=s.data.size/\w'=putRow enc8 (bytesWorld w 5 s) w.heap.size 0 dk):=by
 have hcv:=fun(w:World)=>Lib.run_convert_string_bytes w 9 291 5 s Tryz.underlying9 Tryz.underlying291 Tryz.underlying5
 have hH:=LF w 5 s;have hsz:s.data.size=s.size:=rfl;have qT:∀ (w:World) (a:Option Addr) (n c n' c':Nat),(binOp .eql 291 (.slice a n c) (.slice none n' c')).run Tryz.prog w=.ok (.bool a.isNone) w:=fun w a n c n' c'=>Lib.run_eql_slice_nil w _ _ a n c n' c' Tryz.underlying291
 go_enter func538,Tryz.ntmps538
 go_wp2
 have hk1:∀ x:UInt8,(bytesWorld w 5 s).cell? ⟨k,x.toNat,none⟩=some (.int .u8 (mk8 x).toNat):=fun x=>by rw[<-hk x];simp only[World.cell?,bytesWorld_at_old w 5 s k hkw]
 generalize hW1:bytesWorld w 5 s=W1 at *
 go_loopw [5,6] (fun v5 vi wr=>∃ (i:Nat),vi=.int .i64 i/\i<=s.size/\((v5=.slice none 0 0/\wr=w/\∀ t,t<i->s.data[t]! = mk8 s.data[t]!) \/
  (∃ dk:Array UInt8,v5=.slice (some ⟨w.heap.size,0,none⟩) s.size (grownCap w s.size 0 5)/\dk.size=s.data.size/\wr=putRow enc8 W1 w.heap.size 0 dk/\∀ t,t<s.size->dk[t]! = if t<i then mk8 s.data[t]! else s.data[t]!))) (fun _ vi _=>s.size+1-(RowKit.intOf vi).toNat)
 case atStart=>exact⟨0,rfl,by omega,.inl ⟨rfl,rfl,fun t ht=>by omega⟩⟩
 case round=>
  obtain⟨i,rfl,hi,hrel⟩:=hrel;by_cases h1:i<s.size
  ·have hxi:s.data[i]! = s[i]'h1:=by rw[getElem!_pos s.data i h1];rfl
   have hlt:=(s[i]'h1).toNat_lt;rcases hrel with⟨rfl,rfl,hd⟩|⟨dk,rfl,hsk,hw,hd⟩
   ·by_cases hm:mk8 (s[i]'h1)=s[i]'h1
    ·have hne:(((mk8 (s[i]'h1)).toNat:Int) != ((s[i]'h1).toNat:Int))=false:=by rw[hm];simp
     have hD:Hid (∀ t,t<i->s.data[t]! = mk8 s.data[t]!):=hd;clear hd
     go_wp2
     case roundEnd=>
      exact⟨⟨i+1,rfl,h1,.inl ⟨by first|rfl|trivial,by first|rfl|trivial,fun t ht=>by
       by_cases e:t=i
       ·subst e;rw[hxi,hm]
       ·exact hD.out t (by omega)⟩⟩,by simp only[RowKit.intOf];omega⟩
     all_goals (exfalso;omega)
    ·have hne:(((mk8 (s[i]'h1)).toNat:Int) != ((s[i]'h1).toNat:Int))=true:=by rw[bne_iff_ne];intro e;exact hm (UInt8.toNat_inj.1 (Int.ofNat.inj e))
     have hfz:=(hH i h1).2;have hcd:=(hH i h1).1;rw[Qd4] at hfz hcd;have hst:=putRow_set enc8 W1 wr.heap.size 0 s.data i (mk8 (s[i]'h1)) h1;rw[Qd4,putRow_self _ _ _ _ _ hH] at hst;dsimp only[enc8] at hcd hst;have hD:Hid (∀ t,t<i->s.data[t]! = mk8 s.data[t]!):=hd;have hS:Hid (_=_):=hst;clear hd hst hH
     go_wp2
     case roundEnd=>
      have st:=G6 (s:=s) (dk:=s.data) (y:=mk8 (s[i]'h1)) h1 rfl (fun t ht=>by
       by_cases e:t<i
       ·rw[Qa2 e];exact hD.out t e
       ·rw[Qa3 e]) (by rw[hxi])
      exact⟨⟨i+1,rfl,h1,.inr ⟨s.data.setIfInBounds i (mk8 (s[i]'h1)),by first|rfl|trivial,st.1,hS.out,st.2⟩⟩,by simp only[RowKit.intOf];omega⟩
     all_goals (exfalso;omega)
   ·have hkr:∀ x:UInt8,wr.cell? ⟨k,x.toNat,none⟩=some (.int .u8 (mk8 x).toNat):=fun x=>by rw[hw,cell?_putRow_other _ _ _ _ _ _ (.inl (by show k≠w.heap.size;omega))];exact hk1 x
    have hD:Hid (∀ t,t<s.size->dk[t]! = if t<i then mk8 s.data[t]! else s.data[t]!):=hd;have hW:Hid (wr=putRow enc8 W1 w.heap.size 0 dk):=hw;by_cases hm:mk8 (s[i]'h1)=s[i]'h1
    ·have hne:(((mk8 (s[i]'h1)).toNat:Int) != ((s[i]'h1).toNat:Int))=false:=by rw[hm];simp
     clear hd hw hH
     go_wp2
     case roundEnd=>
      exact⟨⟨i+1,rfl,h1,.inr ⟨dk,by first|rfl|trivial,hsk,hW.out,S3 h1 hsk hD.out (by rw[hxi,hm])⟩⟩,by simp only[RowKit.intOf];omega⟩
     all_goals (exfalso;omega)
    ·have hne:(((mk8 (s[i]'h1)).toNat:Int) != ((s[i]'h1).toNat:Int))=true:=by rw[bne_iff_ne];intro e;exact hm (UInt8.toNat_inj.1 (Int.ofNat.inj e))
     have hcd:=cell?_putRow enc8 W1 w.heap.size 0 s.data dk hH hsk i (by omega);have hfz:wr.frozen? ⟨w.heap.size,0+i,none⟩=false:=by rw[hw,frozen?_putRow];exact(hH i (by omega)).2
     rw[<-hw,Qd4] at hcd;rw[Qd4] at hfz;have hst:=putRow_set enc8 W1 w.heap.size 0 dk i (mk8 (s[i]'h1)) (by omega);rw[Qd4] at hst;dsimp only[enc8] at hcd hst;have hS:Hid (_=_):=hst;clear hd hw hst hH
     go_wp2
     case roundEnd=>
      have st:=G6 (s:=s) (dk:=dk) (y:=mk8 (s[i]'h1)) h1 hsk hD.out (by rw[hxi]);exact⟨⟨i+1,rfl,h1,.inr ⟨dk.setIfInBounds i (mk8 (s[i]'h1)),by first|rfl|trivial,st.1,by rw[hW.out];exact hS.out,st.2⟩⟩,by simp only[RowKit.intOf];omega⟩
     all_goals (exfalso;omega)
  ·have hie:i=s.size:=by omega
   subst hie;rcases hrel with⟨rfl,rfl,hd⟩|⟨dk,rfl,hsk,hw,hd⟩
   ·have hfin:Hid (markup s=s):=by
     show markup s=s;unfold markup ofL;have:(toL s).map mk8=toL s:=by
      apply List.ext_getElem (by simp);intro k h2 h3;have hk:k<s.size:=by simpa [Bq] using h3
      have:=hd k hk;rw[getElem!_pos s.data k hk] at this;simp[toL,<-this]
     rw[this];exact C7 s
    have hD:Hid _:=hd;clear hd
    go_wp2
    go_ret
    exact⟨by simp[hfin.out],.inl rfl⟩
   ·have hback:=run_convert_bytes_back (P:=Tryz.prog) wr 291 9 5 ⟨w.heap.size,0,none⟩ (grownCap w s.size 0 5) dk.toList Tryz.underlying291 Tryz.underlying5 Tryz.underlying9 (fun j hj=>by
     have hj2:j<dk.size:=by simpa using hj
     have:=cell?_putRow enc8 W1 w.heap.size 0 s.data dk hH hsk j hj2;rw[<-hw] at this;rw[Addr.add_lit,this];simp[getElem!_pos dk j hj2])
    have hl:dk.toList.length=s.size:=by simpa using hsk
    rw[hl,hw] at hback;have hfin:markup s=⟨dk.toList.toArray⟩:=by
     unfold markup ofL;congr 2;apply List.ext_getElem (by simp[Bq,hl]);intro k h2 h3;have hk:k<s.size:=by omega
     have:=hd k hk;rw[Qa2 hk,getElem!_pos dk k (by omega),getElem!_pos s.data k hk] at this;simp[toL,this]
    have hfin:Hid _:=hfin;have hw:Hid _:=hw
    go_wp2
    go_ret
    exact⟨by rw[hfin.out];simp,.inr ⟨dk,hsk,by rw[hW1];first|done|exact hw.out⟩⟩
open Go.RowKit Go.Lib Go.Sort in
theorem AmQ (b c cap:Nat) (w:World) (H:MRep w b c cap) :
 Calls Tryz.prog 460 #[.pointer (some ⟨b,0,none⟩),.func (.func 461) #[.pointer (some ⟨b,0,none⟩)] #[]] w fun e w'=>e=.returned (.tuple #[])/\∃ r:Array Value,mrow r/\w'=mW w b r:=by
 have h0:=H.v0;have hl:=run_call_load (P:=Tryz.prog) func479 (by kernel_rfl) (by kernel_rfl) (by kernel_rfl) .u32 (by kernel_rfl) h0;have hnot:∀ (x:Bool) (w:World),(Op.unary .not (.bool x)).run Tryz.prog w=.ok (.bool (!x)) w:=fun _ _=>rfl
 go_enter func460,Tryz.ntmps460
 go_wp2_with (first|(go_at_call 470;refine(Agy b c cap _ H).mono ?_;rintro e w' ⟨rfl,r,hr,rfl⟩)|(go_at_call 469;go_in))
 try go_end0
 exact⟨rfl,r,hr,rfl⟩
open Go.RowKit Go.Lib Go.Sort in
theorem Ad9 (w:World) (b:Nat) (r:Array Value) (lb:b<w.heap.size) (x:Value) (v3:w.cell? ⟨b,3,none⟩=some x):(mW w b r).cell? ⟨b,3,none⟩=some (.iface 500 (.pointer (some ⟨w.heap.size,0,none⟩))):=by
 unfold mW;rw[World.cell?_setCell_other _ _ _ _ (by simp),World.cell?_setCell_other _ _ _ _ (by simp),World.cell?_drew,World.cell?_alloc_past _ _ _ (by simpa using lb),World.cell?_setCell_other _ _ _ _ (by simp)];exact World.cell?_setCell_same _ _ _ ((World.cell?_setCell_other _ _ _ _ (by simp)).trans v3)
open Go.RowKit Go.Lib Go.Sort in
theorem AfZ (w:World) (b:Nat) (r:Array Value) (lb:b<w.heap.size) (t:Nat):(mW w b r).cell? ⟨w.heap.size,t,none⟩=r[t]?:=by
 have nb:∀ j:Nat,(⟨b,j,none⟩:Addr)≠⟨w.heap.size,t,none⟩:=fun j h=>by have:=Qg8 Addr.block h;simp at this;omega
 unfold mW;rw[World.cell?_setCell_other _ _ _ _ (nb _),World.cell?_setCell_other _ _ _ _ (nb _),World.cell?_drew];have e:=Ej (((w.setCell ⟨b,1,none⟩ (.int .i32 1)).setCell ⟨b,3,none⟩ (.iface 500 (.pointer (some ⟨w.heap.size,0,none⟩)))).setCell ⟨b,4,none⟩ (.slice none 0 0)) r 499 t;rw[World.size_setCell,World.size_setCell,World.size_setCell] at e;exact e
open Go.RowKit Go.Lib Go.Sort in
theorem Xu (w:World) (b:Nat) (r:Array Value):(mW w b r).heap.size=w.heap.size+1:=by
 unfold mW;simp
open Go.RowKit Go.Lib Go.Sort in
theorem Xq (b c cap:Nat) (s:ByteArray) (hs:s.size<=1000000000000) (w:World) (H:MRep w b c cap) :
 Calls Tryz.prog 452 #[.pointer (some ⟨b,0,none⟩),.string s] w fun e w'=>e=.returned (.string (markup s))/\∃ r,mrow r/\(w'=mW w b r\/∃ dk,w'=Go.Sort.putRow enc8 (Lib.bytesWorld (mW w b r) 5 s) (mW w b r).heap.size 0 dk):=by
 have hmf:∀ (fn:Fn) (first cap:Array Value) (w:World),(Instr.makeFunc fn first cap).run Tryz.prog w=.ok (.func fn first cap) w:=fun _ _ _ _=>rfl
 have H':Hid (MRep w b c cap):=H;clear H
 go_enter func452,Tryz.ntmps452
 go_wp2_with (first|(go_at_call 460;refine(AmQ b c cap _ H'.out).mono ?_;rintro e w' ⟨rfl,r,hr,hw⟩;(have h3:w'.cell? ⟨b,3,none⟩=some (.iface 500 (.pointer (some ⟨w.heap.size,0,none⟩))):=by rw[hw];exact Ad9 w b r H'.out.lb _ H'.out.v3);(have hW:Hid (w'=mW w b r):=hw);(have hR:Hid (mrow r):=hr);clear hw hr))
 refine(AhA w.heap.size s hs w' (by rw[hW.out,Xu];omega) (fun x=>by rw[hW.out,AfZ _ _ _ H'.out.lb,hR.out.2 _ x.toNat_lt,Ae3])).mono ?_;rintro e w'' ⟨rfl,h⟩;have hh:Hid (w''=w'\/∃ dk,dk.size=s.data.size/\w''=Go.Sort.putRow enc8 (Lib.bytesWorld w' 5 s) w'.heap.size 0 dk):=h;clear h
 go_wp2
 go_ret
 refine⟨rfl,r,hR.out,?_⟩;rcases hh.out with h|⟨dk,_,h⟩
 ·exact .inl (h.trans hW.out)
 ·exact .inr ⟨dk,by rw[h,hW.out]⟩
open Go.RowKit Go.Lib Go.Sort in
def mN (w:World) (cap:Nat) (x:Array Value):World :=
 ((w.alloc (.cells (#[.string ⟨#[91]⟩,.string ⟨#[60]⟩,.string ⟨#[93]⟩,.string ⟨#[62]⟩]++x) 9)).alloc (.cells #[.int .u32 0,.int .i32 0,.int .u32 0,.nilIface,.slice (some ⟨w.heap.size,0,none⟩) 4 cap] 473)).drew
open Go.RowKit Go.Lib Go.Sort in
theorem Ahj (a cap:Nat) (w:World) (c0:w.cell? ⟨a,0,none⟩=some (.string ⟨#[91]⟩)) (c1:w.cell? ⟨a,1,none⟩=some (.string ⟨#[60]⟩)) (c2:w.cell? ⟨a,2,none⟩=some (.string ⟨#[93]⟩)) (c3:w.cell? ⟨a,3,none⟩=some (.string ⟨#[62]⟩)) (la:a<w.heap.size) :
 Calls Tryz.prog 451 #[.slice (some ⟨a,0,none⟩) 4 cap] w fun e w'=>e=.returned (.pointer (some ⟨w.heap.size+1,0,none⟩))/\∃ cap2 x,w'=mN w cap2 x:=by
 go_enter func451,Tryz.ntmps451
 go_wp2
 go_ret
 exact⟨rfl,_,_,rfl⟩
open Go.RowKit Go.Lib Go.Sort in
theorem YH (w:World) (cap:Nat) (x:Array Value):(mN w cap x).heap.size=w.heap.size+2:=by unfold mN;simp
open Go.RowKit Go.Lib Go.Sort in
theorem Ago (w:World) (cap:Nat) (x:Array Value):MRep (mN w cap x) (w.heap.size+1) w.heap.size cap:=by
 have hb:∀ j,(mN w cap x).cell? ⟨w.heap.size+1,j,none⟩ = #[Value.int .u32 0,.int .i32 0,.int .u32 0,.nilIface,.slice (some ⟨w.heap.size,0,none⟩) 4 cap][j]?:=fun j=>by unfold mN;rw[World.cell?_drew];have e:=Ej (w.alloc (.cells (#[.string ⟨#[91]⟩,.string ⟨#[60]⟩,.string ⟨#[93]⟩,.string ⟨#[62]⟩]++x) 9)) #[.int .u32 0,.int .i32 0,.int .u32 0,.nilIface,.slice (some ⟨w.heap.size,0,none⟩) 4 cap] 473 j;rw[World.size_alloc] at e;exact e
 have hf:∀ j,(mN w cap x).frozen? ⟨w.heap.size+1,j,none⟩=false:=fun j=>by unfold mN;rw[World.frozen?_drew];have e:=Og (w.alloc (.cells (#[.string ⟨#[91]⟩,.string ⟨#[60]⟩,.string ⟨#[93]⟩,.string ⟨#[62]⟩]++x) 9)) #[.int .u32 0,.int .i32 0,.int .u32 0,.nilIface,.slice (some ⟨w.heap.size,0,none⟩) 4 cap] 473 j;rw[World.size_alloc] at e;exact e
 have hc:∀ j,(mN w cap x).cell? ⟨w.heap.size,j,none⟩=(#[.string ⟨#[91]⟩,.string ⟨#[60]⟩,.string ⟨#[93]⟩,.string ⟨#[62]⟩]++x)[j]?:=fun j=>by unfold mN;rw[World.cell?_drew,World.cell?_alloc_past _ _ _ (by rw[World.size_alloc];omega)];exact Ej _ _ _ _
 have hl:∀ j (v:Value),#[Value.string ⟨#[91]⟩,.string ⟨#[60]⟩,.string ⟨#[93]⟩,.string ⟨#[62]⟩][j]? = some v->(#[Value.string ⟨#[91]⟩,.string ⟨#[60]⟩,.string ⟨#[93]⟩,.string ⟨#[62]⟩]++x)[j]? = some v:=fun j v h=>by rw[Array.getElem?_append_left (by have:=(Array.getElem?_eq_some_iff.1 h).1;exact this)];exact h
 exact⟨hb 0,hb 1,hb 3,hb 4,hf 0,hf 1,hf 3,hf 4,(hc 0).trans (hl 0 _ rfl),(hc 1).trans (hl 1 _ rfl),(hc 2).trans (hl 2 _ rfl),(hc 3).trans (hl 3 _ rfl),by rw[YH];omega,by rw[YH];omega,by omega⟩
open Go.RowKit Go.Lib Go.Sort in
theorem Af3 {w w':World} (h:Neu w w') (cap:Nat) (x:Array Value):Neu w (mN w' cap x):=by
 unfold mN;exact((h.alloc _).alloc _).drew
open Go.RowKit Go.Lib Go.Sort in
theorem Acl {w w':World} (h:Neu w w') {b:Nat} (hb:w.heap.size<=b) (r:Array Value):Neu w (mW w' b r):=by
 unfold mW;exact((((((h.set (a:=⟨b,1,none⟩) hb _).set (a:=⟨b,3,none⟩) hb _).set (a:=⟨b,4,none⟩) hb _).alloc _).drew).set (a:=⟨b,0,none⟩) hb _).set (a:=⟨b,1,none⟩) hb _
open Go.RowKit Go.Lib Go.Sort in
theorem AbC (s:ByteArray) (hs:s.size<=1000000000000) (w:World) :
 Calls Tryz.prog 438 #[.string s] w fun e w'=>e=.returned (.string (markup s))/\Neu w w':=by
 go_enter func438,Tryz.ntmps438
 go_wp2_with (fail)
 refine(Ahj w.heap.size 4 _ ?_ ?_ ?_ ?_ ?_).mono ?_
 ·rw[Ej];rfl
 ·rw[Ej];rfl
 ·rw[Ej];rfl
 ·rw[Ej];rfl
 ·rw[World.size_alloc];omega
 rintro e w' ⟨rfl,cap,x,hw⟩;have hW:Hid _:=hw;have hR:Hid (MRep w' (w.heap.size+2) (w.heap.size+1) cap):=by have:=Ago (w.alloc (Obj.cells #[.string ⟨#[91]⟩,.string ⟨#[60]⟩,.string ⟨#[93]⟩,.string ⟨#[62]⟩] 9)) cap x;rw[World.size_alloc] at this;rw[hw];exact this
 have hN:Hid (Neu w w'):=by rw[hw];exact Af3 ((Neu.refl w).alloc _) _ _
 clear hw hW;rw[World.size_alloc]
 go_wp2_with (first|(go_at_call 452;refine(Xq _ _ cap s hs w' hR.out).mono ?_;rintro e w2 ⟨rfl,h⟩;(have hH:Hid _:=h);clear h))
 go_ret
 refine⟨rfl,?_⟩;obtain⟨r,_,h|⟨dk,h⟩⟩:=hH.out
 ·rw[h];exact Acl hN.out (by omega) _
 ·rw[h];exact((Acl hN.out (by omega) _).bytes _ _).put _ (by rw[Xu];have:=hN.out.size;omega) _ _
open Go.RowKit Go.Lib Go.Sort in
theorem Ut:fMarkup.ok Tryz.prog 438 :=
 Rd rfl rfl fun x hx w ow hB=>AbC x.1 hx w
def AmJ:=AmO.a fMarkup<|Ut
theorem N2:Go.Proofs.LaysC.n172 Tryz.prog laysCmp_r:=by repeat' first|kernel_rfl|constructor|intro _
def nB (n:Lib.NumEnd Nat) (f:Nat->Lib.NumEnd Nat):Lib.NumEnd Nat:=match n with
 | .ok u=>f u
 | e=>e
theorem Acg:∀ (l r:List UInt8) (acc:Nat),Lib.parseUint10 acc (l++r)=nB (Lib.parseUint10 acc l) fun u=>Lib.parseUint10 u r
 | [],r,acc=>rfl
 | c::l,r,acc=>by
  rw[Qf4,Lib.parseUint10,Lib.parseUint10];split
  ·split
   ·rfl
   ·split
    ·rfl
    ·exact Acg l r _
  ·rfl
theorem OS {d:Nat} (h:d<10):(UInt8.ofNat (48+d)).toNat=48+d:=by
 rw[UInt8.toNat_ofNat'];omega
theorem Ahw:∀ (f u:Nat),u<10 ^ (f+1)->u<10 ^ 18->(Lib.decDigits u)≠[]/\(Lib.decDigits u).length<=f+1/\(Lib.decDigits u).all digit=true/\decV (Lib.decDigits u) 0=u/\Lib.parseUint10 0 (Lib.decDigits u)=.ok u:=by
 have one:∀ d,d<10->[UInt8.ofNat (48+d)].all digit=true:=fun d hd=>by simp only[List.all_cons,List.all_nil,Bool.and_true,digit,OS hd,Qa7];omega
 have low:∀ u,u<10->(Lib.decDigits u)≠[]/\(Lib.decDigits u).length<=1/\(Lib.decDigits u).all digit=true/\decV (Lib.decDigits u) 0=u/\Lib.parseUint10 0 (Lib.decDigits u)=.ok u:=fun u hu=>by
  rw[D7 hu];refine⟨by simp,by simp,one u hu,?_,?_⟩
  ·simp only[decV,OS hu];omega
  ·rw[Lib.parseUint10,OS hu,Qa2 (by omega),Qa3 (by omega),Qa3 (by omega)];simp[Lib.parseUint10]
 intro f
 induction f with
 | zero=>intro u hu _;exact low u (by omega)
 | succ f ih=>
  intro u hu hv;by_cases h1:u<10
  ·obtain⟨a,b,c⟩:=low u h1;exact⟨a,by omega,c⟩
  ·obtain⟨a,b,c,d,e⟩:=ih (u / 10) (by rw[Nat.pow_succ] at hu;omega) (by omega);rw[Fu (by omega)];refine⟨by simp,by simp;omega,?_,?_,?_⟩
   ·rw[List.all_append,c,one _ (by omega)];rfl
   ·rw[Ke,d,OS (by omega)];omega
   ·rw[Acg,e,nB];simp only[Lib.parseUint10];rw[OS (by omega),Qa2 (by omega),Qa3 (by omega),Qa3 (by omega)];simp only[Lib.NumEnd.ok.injEq];omega
theorem Ol {n:Int} (h0:0<=n) (h1:n<=1000000000000):(1<=(Hr n).size/\(Hr n).size<=13/\(toL (Hr n)).all digit=true/\decV (toL (Hr n)) 0=n)/\Lib.atoiAll (toL (Hr n))=.ok n:=by
 have e:toL (Hr n)=Lib.decDigits n.toNat:=by unfold toL Hr Lib.itoa;rw[Qa3 (by omega)]
 have es:(Hr n).size=(toL (Hr n)).length:=rfl;obtain⟨a,b,c,d,g⟩:=Ahw 12 n.toNat (by omega) (by omega);rw[es,e];refine⟨⟨by have:=List.length_pos_iff.2 a;omega,b,c,by rw[d];omega⟩,?_⟩;cases hl:Lib.decDigits n.toNat with
 | nil=>exact absurd hl a
 | cons x r=>
  rw[hl] at c g;have hx:digit x=true:=by simp only[List.all_cons,Qa1] at c;exact c.1
  simp only[digit,Qa7] at hx;rw[Lib.atoiAll_plain x r (by omega) (by omega)];unfold Lib.parseMag;rw[Qa3 (by simp),g];unfold Lib.signless;simp only[];rw[Qa3 (by omega)];simp only[Lib.NumEnd.ok.injEq];omega
theorem QC:∀ (l:List UInt8) (n:Int),0<=n->l.all digit=true->0<=decV l n
 | [],n,h,_=>h
 | x::l,n,h,ha=>by simp only[List.all_cons,Qa1,digit,Qa7] at ha;exact QC l _ (by omega) ha.2
theorem AdY {s:ByteArray} {v:Int} (h:Lib.atoiAll (toL s)=.ok v):parseInt s=if 0<=v/\v<=1000000000000/\Hr v=s then(v,true) else(0,false):=by
 by_cases hc:0<=v/\v<=1000000000000/\Hr v=s
 ·obtain⟨⟨a1,a2,a3,a4⟩,_⟩:=Ol hc.1 hc.2.1;rw[hc.2.2] at a1 a2 a3 a4;rw[Qa2 hc];unfold parseInt;rw[Qa2 ⟨a1,a2,a3,by rw[a4];exact hc.2.1,by rw[a4];exact hc.2.2⟩,a4]
 ·rw[Qa3 hc];unfold parseInt;rw[Qa3];rintro⟨b1,b2,b3,b4,b5⟩;have hn:=QC (toL s) 0 (by omega) b3;have:=(Ol hn b4).2;rw[b5,h] at this;injection this with this
  rw[<-this] at hn b4 b5;exact hc ⟨hn,b4,b5⟩
theorem Agx {s:ByteArray} (h:∀ v,Lib.atoiAll (toL s)≠.ok v):parseInt s=(0,false):=by
 unfold parseInt;rw[Qa3];rintro⟨b1,b2,b3,b4,b5⟩;have:=(Ol (QC (toL s) 0 (by omega) b3) b4).2;rw[b5] at this;exact h _ this
open Go.RowKit in
theorem AaL (n:Int) (h0 : -9223372036854775808<=n) (h1:n<=9223372036854775807) (w:World) (hl:Laid Tryz.prog w):Calls Tryz.prog 335 #[.int .i64 n] w fun e w'=>e=.returned (.string (Hr n))/\Neu w w':=by
 go_enter func335,Tryz.ntmps335
 go_wp2_with (fail)
 refine(Go.Proofs.Any.strconv_Itoa Tf n h0 h1 w (hl.1 (by kernel_rfl))).mono ?_;rintro e w' ⟨rfl,k,os,rfl⟩;have hN:Hid (Neu w (Go.Sort.grow (w.drewN k) os)):=Neu.grow w k os
 go_wp2
 go_ret
 exact⟨rfl,hN.out⟩
open Go.RowKit in
theorem Xn (s:ByteArray) (hs:s.size<=1000000000000) (w:World) (hl:Laid Tryz.prog w):Calls Tryz.prog 453 #[.string s] w fun e w'=>((∃ v,Lib.atoiAll (toL s)=.ok v/\e=.returned (.tuple #[.int .i64 v,.nilIface]))\/((∀ v,Lib.atoiAll (toL s)≠.ok v)/\∃ n t p,e=.returned (.tuple #[.int .i64 n,.iface t p])))/\Neu w w':=by
 rcases hA:Lib.atoiAll (toL s) with v|_|_
 ·refine(Go.Proofs.Any.strconv_Atoi_ok N2 s (by omega) v hA w).mono ?_;rintro e w' ⟨rfl,h⟩;refine⟨.inl ⟨v,rfl,rfl⟩,?_⟩;rcases h with rfl|⟨t,rfl⟩
  ·exact Neu.refl _
  ·exact(Neu.refl _).bytes _ _
 ·obtain⟨tp,p,hv⟩:=hl.2.1 (by kernel_rfl);refine(Go.Proofs.Any.strconv_Atoi_syntax N2 s (by omega) hA (.iface tp p) w (S5 (by kernel_rfl) hv) (.inr ⟨_,_,rfl⟩)).mono ?_;rintro e w' ⟨N,rfl,h1,h2,h3⟩;exact⟨.inr ⟨fun v=>by simp,_,_,_,rfl⟩,Neu.below h3⟩
 ·obtain⟨tp,p,hv⟩:=hl.2.2 (by kernel_rfl);refine(Go.Proofs.Any.strconv_Atoi_range N2 s (by omega) hA (.iface tp p) w (S5 (by kernel_rfl) hv) (.inr ⟨_,_,rfl⟩)).mono ?_;rintro e w' ⟨N,rfl,h1,h2,h3⟩;exact⟨.inr ⟨fun v=>by simp,_,_,_,rfl⟩,Neu.below h3⟩
open Go.RowKit in
theorem T5 (s:ByteArray) (hs:s.size<=1000000000000) (w:World) (hl:Laid Tryz.prog w):Calls Tryz.prog 441 #[.string s] w fun e w'=>e=.returned (.tuple #[.int .i64 (parseInt s).1,.bool (parseInt s).2])/\Neu w w':=by
 go_enter func441,Tryz.ntmps441
 go_wp2_with (fail)
 refine(Xn s hs w hl).mono ?_;rintro e w' ⟨⟨v,hA,rfl⟩|⟨hA,n,t,p,rfl⟩,hN⟩
 ·have hb:=Lib.atoiAll_bounds hA;have hp:=AdY hA;have hN:Hid (Neu w w'):=hN;have hA:Hid (_=_):=hA;by_cases h1:v<0
  ·rw[Qa3 (by omega)] at hp
   go_wp2_with (fail)
   go_ret2
   exact⟨by rw[hp];rfl,hN.out⟩
  ·by_cases h2:v>1000000000000
   ·rw[Qa3 (by omega)] at hp
    go_wp2_with (fail)
    go_ret2
    exact⟨by rw[hp];rfl,hN.out⟩
   ·go_wp2_with (fail)
    refine(AaL v hb.1 hb.2 w' (hN.out.laid hl)).mono ?_;rintro e w2 ⟨rfl,hN2⟩;have hN2:Hid (Neu w' w2):=hN2;by_cases h3:Hr v=s
    ·rw[Qa2 ⟨by omega,by omega,h3⟩] at hp;rw[h3]
     go_wp2_with (fail)
     go_ret2
     exact⟨by rw[hp];rfl,hN.out.trans hN2.out⟩
    ·rw[Qa3 (by rintro⟨_,_,q⟩;exact h3 q)] at hp;have h4:((Hr v).toList==s.toList)=false:=by rw[Af6];simp[h3]
     go_wp2_with (fail)
     go_ret2
     exact⟨by rw[hp];rfl,hN.out.trans hN2.out⟩
 ·have hp:=Agx hA;have hN:Hid (Neu w w'):=hN;have hA:Hid (∀ v,Lib.atoiAll (toL s)≠.ok v):=hA
  go_wp2_with (fail)
  go_ret2
  exact⟨by rw[hp];rfl,hN.out⟩
theorem Agm:Dt.ok Tryz.prog 441:=Rd rfl rfl fun x hx w ow hB=>T5 x.1 hx w hB.laid
def AjA:=AmJ.a Dt<|Agm
theorem AmF (l:List ByteArray):cut l 1 (l.length-1)=l.drop 1:=by unfold cut;rw[Qb3];simp
theorem AhS (s:ByteArray):((cutPre s ⟨#[47]⟩).2=true->0<s.size/\s.data.getD 0 0=47/\(cutPre s ⟨#[47]⟩).1=s.extract 1 s.size)/\((cutPre s ⟨#[47]⟩).2=false->¬ (0<s.size/\s.data.getD 0 0=47)):=by
 have h1:ByteArray.size ⟨#[47]⟩=1:=rfl;have key:hasPre s ⟨#[47]⟩=true↔0<s.size/\s.data.getD 0 0=47:=by
  unfold hasPre;rw[Qa7,h1];constructor
  ·rintro⟨a,b⟩;refine⟨a,?_⟩;have:=Qg8 toL b;rw[AY,Qf0,JK (i:=0) a,List.take_zero,Qg1] at this;exact(List.cons.inj this).1
  ·rintro⟨a,b⟩;refine⟨a,?_⟩;rw[<-C7 (s.extract 0 1),AY,Qf0,JK (i:=0) a,List.take_zero,Qg1,b];rfl
 unfold cutPre;by_cases h:hasPre s ⟨#[47]⟩=true
 ·rw[Qa2 h];exact⟨fun _=>⟨(key.1 h).1,(key.1 h).2,rfl⟩,fun h2=>(by cases h2)⟩
 ·rw[Qa3 h];exact⟨fun h2=>(by cases h2),fun _ h2=>h (key.2 h2)⟩
theorem YX {s:ByteArray} (h:s.size<=60) (hn:¬ (0<s.size/\s.data.getD 0 0=47)) (hb:isName ((spl 32 s).getD 0 default)=false\/5<(spl 32 s).length):tagOf s=(default,false):=by
 unfold tagOf;rw[Qa3 (by omega),Qa3 hn];cases ha:tagAttrs ((spl 32 s).drop 1) [] with
 | none=>rfl
 | some ats=>
  have:=Jo ha;simp only[Qb8,Qd6] at this;show(if isName ((spl 32 s).getD 0 default)=true/\ats.length<=4 then _ else _)=_;rw[Qa3];rintro⟨c1,c2⟩;rcases hb with hb|hb
  ·rw[hb] at c1;cases c1
  ·omega
theorem ZU {l:List ByteArray} {i:Nat} {acc:List SAttr} (h:i<l.length):tagAttrs (l.drop i) acc=if(EA 61 (l.getD i default)).2.2=true/\isName (EA 61 (l.getD i default)).1=true/\isValue (EA 61 (l.getD i default)).2.1=true/\(findAttr acc (EA 61 (l.getD i default)).1).isSome=false then tagAttrs (l.drop (i+1)) (acc++[⟨(EA 61 (l.getD i default)).1,(EA 61 (l.getD i default)).2.1⟩]) else none:=by
 rw[KR h];unfold EA;cases Es 61 (toL (l.getD i default)) with
 | none=>simp
 | some r=>
  obtain⟨p,q⟩:=r;simp only[true_and];cases isName (ofL p)<;>cases isValue (ofL q)<;>cases findAttr acc (ofL p)<;>simp
abbrev Dv (s:ByteArray):LInv:=⟨[⟨.b,7,true,.el .token⟩,⟨.s,52,true,.el .int⟩,⟨.b,2,true,.el .token⟩,⟨.s,50,true,.sl .str⟩],fun(z_ x_:SToken×Int×SToken×(List ByteArray)×Unit)=>((0<=x_.2.1/\x_.2.1+1<=(spl 32 s).length/\x_.1.bn.length<=x_.2.1/\x_.1=⟨1,(spl 32 s).getD 0 default,x_.1.bn,⟨#[]⟩⟩/\tagAttrs ((spl 32 s).drop (x_.2.1.toNat+1)) x_.1.bn=tagAttrs ((spl 32 s).drop 1) [])/\x_.2.2.1=z_.2.2.1)/\x_.2.2.2.1=z_.2.2.2.1,fun(x_:SToken×Int×SToken×(List ByteArray)×Unit)=>(spl 32 s).length-x_.2.1.toNat⟩
def AmC:=AjA.a Gm<|Fct.p (KP [0,2,3,4,5,6,7,9,10,11,12,14,50,51,52] [17,24,27,43,53,83]) (fun⟨s,_⟩=>lv [(13,Dv s)]) AjA.2 func443 (by
 rintro⟨(s:ByteArray),_⟩ hp;refine ho (let q2_:=(⟨#[]⟩:ByteArray);let q0_:Out:=.leaf (.tup [(true,[vi ((0:Int)),vs (q2_),.nl,vs (q2_)]),(false,[vb (false)])]) [] [];.br (decide ((s.size:Int)>60)) q0_ (.cl fCutPre (s,(⟨#[47]⟩:ByteArray),()) fun z2=>.br (z2.2.1) (.cl fIsName (z2.1,()) fun z3=>.br (!z3.1) q0_ (.leaf (.tup [(true,[vi ((2:Int)),vs (z2.1),.nl,vs (q2_)]),(false,[vb (true)])]) [] [])) (.cl DW (s,(⟨#[32]⟩:ByteArray),()) fun z4=>let q4_:=(z4.1.length:Int);let q3_:=z4.1.length-1;let q1_:=(0:Int)<=(0:Int)/\(0:Int)<q4_;.ob q1_<|.ob (0<z4.1.length)<|.cl fIsName (z4.1.getD 0 default,()) fun z5=>.br (!z5.1) q0_ (.br (decide (wr (q4_-(1:Int))>4)) q0_ (.ob q1_<|.ob (0<z4.1.length)<|.ob ((0:Int)<=(1:Int)/\(1:Int)<=q4_)<|.ob (1+q3_<=z4.1.length)<|lpx (Dv s) ((⟨(1:Int),z4.1.getD 0 default,[],q2_⟩:SToken),((0:Int),(default,(cut z4.1 1 q3_,())))) fun(y16:SToken×Int×SToken×List ByteArray×PUnit) bk16=>.br (decide (y16.2.1<(q3_:Int))) (.ob (inB y16.2.1 y16.2.2.2.1.length)<|.ob (y16.2.1.toNat<y16.2.2.2.1.length)<|.cl Sc (y16.2.2.2.1.getD y16.2.1.toNat default,(⟨#[61]⟩:ByteArray),()) fun z6=>let q5_:=(⟨z6.1,z6.2.1⟩:SAttr);.cl fFindAttr (y16.1.bn,z6.1,()) fun z7=>.br (!z6.2.2.1) q0_ (.cl fIsName (z6.1,()) fun z8=>.br (!z8.1) q0_ (.cl fIsValue (z6.2.1,()) fun z9=>.br (!z9.1) q0_ (.br (z7.2.1) q0_ (.ob (True)<|.ob (BK (y16.1.bn.length+[q5_].length) 32)<|.ob (Value.string s=Value.string s)<|.ob (Value.string z2.1=Value.string z2.1)<|.ob (Value.bool z2.2.1=Value.bool z2.2.1)<|.ob (Value.int IntKind.i64 (q3_:Int)=Value.int IntKind.i64 (q3_:Int))<|.ob (bk16 (({y16.1 with bn:=y16.1.bn++[q5_]}:SToken),(w1 y16.2.1,(y16.2.2.1,(y16.2.2.2.1,())))))<|.ok))))) (.lf Gm (y16.1,true,()))))))) ?_;refine Ab (fun h1=>Fct.leafZ (default,false,()) (by repeat' first|exact rfl|exact trivial|refine And.intro ?_ ?_) ?_) (fun h1=>LU ?_ fun o2 z2 ez2=>(Ab (fun h3=>LU ?_ fun o4 z3 ez3=>(Ab (fun h5=>Fct.leafZ (default,false,()) (by repeat' first|exact rfl|exact trivial|refine And.intro ?_ ?_) ?_) (fun h5=>Fct.leafZ (⟨(2:Int),z2.fst,[],{ data := #[]:ByteArray }⟩,true,()) (by repeat' first|exact rfl|exact trivial|refine And.intro ?_ ?_) ?_))) (fun h3=>LU ?_ fun o6 z4 ez4=>(Aa ?_ fun o7=>Aa ?_ fun o8=>LU ?_ fun o9 z5 ez5=>(Ab (fun h10=>Fct.leafZ (default,false,()) (by repeat' first|exact rfl|exact trivial|refine And.intro ?_ ?_) ?_) (fun h10=>Ab (fun h11=>Fct.leafZ (default,false,()) (by repeat' first|exact rfl|exact trivial|refine And.intro ?_ ?_) ?_) (fun h11=>Aa ?_ fun o12=>Aa ?_ fun o13=>Aa ?_ fun o14=>Aa ?_ fun o15=>Aw ?_ fun(y16:SToken×Int×SToken×List ByteArray×PUnit) i16=>Ab (fun h17=>Aa ?_ fun o18=>Aa ?_ fun o19=>LU ?_ fun o20 z6 ez6=>(LU ?_ fun o21 z7 ez7=>(Ab (fun h22=>Fct.leafZ (default,false,()) (by repeat' first|exact rfl|exact trivial|refine And.intro ?_ ?_) ?_) (fun h22=>LU ?_ fun o23 z8 ez8=>(Ab (fun h24=>Fct.leafZ (default,false,()) (by repeat' first|exact rfl|exact trivial|refine And.intro ?_ ?_) ?_) (fun h24=>LU ?_ fun o25 z9 ez9=>(Ab (fun h26=>Fct.leafZ (default,false,()) (by repeat' first|exact rfl|exact trivial|refine And.intro ?_ ?_) ?_) (fun h26=>Ab (fun h27=>Fct.leafZ (default,false,()) (by repeat' first|exact rfl|exact trivial|refine And.intro ?_ ?_) ?_) (fun h27=>Aa trivial fun _=>Aa ?_ fun o28=>Aa rfl fun _=>Aa rfl fun _=>Aa rfl fun _=>Aa rfl fun _=>Aa ?_ fun o29=>trivial))))))))) (fun h17=>lfY ?_))))))));all_goals subst_vars
 all_goals
  try simp only[AA] at *
  try simp only[Dv,Sc,fCutPre,fFindAttr,fIsName,fIsValue,DW,Gm,std,Nat.reduceAdd,DW,fCutPre,Sc,fIsName,fIsValue,fFindAttr,AmF] at *
  try simp only[show(#[47]:Array UInt8).getD 0 0=47 from rfl,show(#[32]:Array UInt8).getD 0 0=32 from rfl,show(#[61]:Array UInt8).getD 0 0=61 from rfl] at *
 all_goals
  have hk:=DE 32 s;have hm:∀ i,i<(spl 32 s).length->((spl 32 s).getD i default).size<=s.size:=fun i h=>Hz (Br h)
  have hq:=AhS s;have hx:(s.extract 1 s.size).size<=s.size:=by rw[Qc4];omega
 all_goals try (obtain⟨⟨⟨a1,a2,a3,a4,a5⟩,a6⟩,a7⟩:=i16)
 all_goals
  have hd:∀ i,((spl 32 s).drop 1).getD i default=(spl 32 s).getD (i+1) default:=fun i=>by simp[Qb1,Qe5,Nat.add_comm]
  try simp only[a7,hd,Qd6] at *
 all_goals first|trivial|omega|skip
 all_goals first|(rw[FB.1 (by omega)];exact⟨rfl,rfl⟩)|(rw[(hq.1 (by assumption)).2.2];omega)|skip
 all_goals first|(rw[FB.2 (by omega) (hq.1 (by assumption)).1 (hq.1 (by assumption)).2.1,Qa3 (by rw[<-(hq.1 (by assumption)).2.2,show isName _=false by assumption];decide)];exact⟨rfl,rfl⟩)|(rw[FB.2 (by omega) (hq.1 (by assumption)).1 (hq.1 (by assumption)).2.1,Qa2 (by rw[<-(hq.1 (by assumption)).2.2];assumption)];exact⟨by rw[(hq.1 (by assumption)).2.2],rfl⟩)|skip
 all_goals
  have hn:=hq.2 (by assumption);try rw[Ah (show -9223372036854775808<=(((spl 32 s).length:Nat):Int)-1/\(((spl 32 s).length:Nat):Int)-1<=9223372036854775807 by omega)] at *
 all_goals first|(rw[YX (by omega) hn (.inl (by assumption))];exact⟨rfl,rfl⟩)|(rw[YX (by omega) hn (.inr (by omega))];exact⟨rfl,rfl⟩)|omega|exact⟨by omega,by omega,by simp,rfl,rfl⟩|exact⟨by omega,by omega,by simp,trivial,rfl⟩|skip
 all_goals
  have h00:=hm 0 (by omega);try have hw:=hm (y16.2.1.toNat+1)
 all_goals first|omega|exact⟨by omega,rfl⟩|exact⟨by omega,by omega⟩|skip
 all_goals first|exact⟨by omega,by omega,by omega,trivial⟩|skip
 all_goals have hc:=Q8 61 ((spl 32 s).getD (y16.2.1.toNat+1) default)
 all_goals first|omega|(rw[Gy (by omega)] at a5;rw[N7 (by omega) hn a5.symm,Qa2 ⟨by assumption,by omega⟩];exact⟨a4,rfl⟩)|rw[ZU (by omega)] at a5
 all_goals first|(rw[Qa3 (by rintro⟨c1,c2,c3,c4⟩;first|exact tf c1 (by assumption)|exact tf c2 (by assumption)|exact tf c3 (by assumption)|exact tf (by assumption) c4)] at a5;rw[SY (by omega) hn a5.symm];exact⟨rfl,rfl⟩)|rw[Qa2 ⟨by assumption,by assumption,by assumption,by assumption⟩] at a5
 all_goals rw[Ah (by omega),toNat1 (by omega)]
 all_goals refine⟨⟨⟨⟨by omega,by omega,by rw[Qa4];simp only[Qa6,Qb8];omega,?_,a5⟩,a6⟩,by first|trivial|rfl⟩,by omega⟩
 all_goals rw[a4])
theorem Hs (c:UInt8):∀ l:List UInt8,Lib.indexByte l c=if l.findIdx (fun x=>x==c)=l.length then -1 else((l.findIdx fun x=>x==c:Nat):Int)
 | []=>rfl
 | b::l=>by
  have hl:=List.findIdx_le_length (xs:=l) (p:=fun x=>x==c);rw[Lib.indexByte,Hs c l,List.findIdx_cons];cases hb:(b==c) with
  | true=>simp
  | false=>
   simp only[Qc7,Qe2,Qf1,Qa6];by_cases h:l.findIdx (fun x=>x==c)=l.length
   ·rw[Qa2 h,Qa2 (by decide),Qa2 (by omega)]
   ·rw[Qa3 h,Qa3 (by simp only[Qe9];omega),Qa3 (by omega)];omega
def idxJ (b:UInt8) (s:ByteArray):Int:=if idxB b s=s.size then -1 else idxB b s
def Yv:Fct:=⟨[.v (.el .str),.v (.el .u8)],[.el .int],fun(x_:ByteArray×Int×Unit)=>0<=x_.2.1/\x_.2.1<=255,fun(x_:ByteArray×Int×Unit)=>(idxJ (UInt8.ofNat x_.2.1.toNat) x_.1,())⟩
theorem Adk:Go.Proofs.Lays.n137 Tryz.prog laysCmp_r:=by repeat' first|kernel_rfl|constructor|intro _
def AiT:=AmC.a Yv<|Rd rfl rfl fun x hx w ow hB=>(Go.Proofs.Any.strings_IndexByte Adk x.1 x.2.1 w).mono fun e w' ⟨a,b⟩=>⟨by rw[a,Hs];rfl,by rw[b];exact Neu.refl w⟩
theorem Xr {x:ByteArray} (h0:0<x.size):(x.data.getD 0 0=60↔idxB 60 x=0):=by
 have e:toL x=x.data.getD 0 0::(toL x).drop 1:=by
  have:=G5 (s:=x) (i:=0) h0
  rwa [Qf0] at this
 unfold idxB;rw[e,List.findIdx_cons];cases hb:(x.data.getD 0 0==60) with
 | true=>simp;simpa using hb
 | false=>simp;simpa using hb
theorem VV (b:UInt8) (x:ByteArray):(idxJ b x = -1/\idxB b x=x.size)\/(idxJ b x=idxB b x/\idxB b x<x.size):=by
 have:=Ev b x;unfold idxJ;by_cases h:idxB b x=x.size
 ·rw[Qa2 h];exact .inl ⟨rfl,h⟩
 ·rw[Qa3 h];exact .inr ⟨rfl,by omega⟩
theorem AaV {x:ByteArray} (h:x.size=0):feedAll x=([],x):=by
 have k1:=Ev 60 x;have k2:=Ev 62 x;exact LN (by omega) (by omega)
abbrev Bt (t:STokenizer) (s:ByteArray):LInv:=⟨[⟨.s,6,true,.el .str⟩,⟨.s,7,true,.sl .token⟩,⟨.b,5,true,.el .tokenizer⟩],fun(z_ x_:ByteArray×(List SToken)×STokenizer×Unit)=>(x_.2.1.length+x_.1.size<=(t.rest++s).size/\x_.2.1++(feedAll x_.1).1=(feedAll (t.rest++s)).1/\(feedAll x_.1).2=(feedAll (t.rest++s)).2)/\x_.2.2.1=z_.2.2.1,fun(x_:ByteArray×(List SToken)×STokenizer×Unit)=>x_.1.size⟩
def AlR:=AiT.a fFeedText<|Fct.p (KP [1,2,4,5,6,7,8,9,10,11] [18,21,25,39,47]) (fun⟨t,s,_⟩=>lv [(3,Bt t s)]) AiT.2 func414 (by
 rintro⟨(t:STokenizer),(s:ByteArray),_⟩ hp;refine ho (let q6_:=(⟨#[]⟩:ByteArray);let q3_:=Value.string s=Value.string s;.ob (sameSize t.rest s)<|lpx (Bt t s) (t.rest++s,([],(default,()))) fun(y2:ByteArray×List SToken×STokenizer×PUnit) bk2=>let q2_:Out:=.lf fFeedText (y2.2.1,⟨y2.1⟩,());let q0_:=(y2.1.size:Int);.br (!y2.1.toList==q6_.toList) (.ob ((0:Int)<=(0:Int)/\(0:Int)<q0_)<|.br ((↑(y2.1.data.getD 0 0).toNat:Int) != 60) (.cl Yv (y2.1,(60:Int),()) fun(z2:Int×PUnit)=>let q5_:=0<=z2.1/\z2.1<=q0_;let q1_:=(⟨(3:Int),q6_,[],y2.1.extract 0 z2.1.toNat⟩:SToken);.br (decide (z2.1<0)) q2_ (.ob q5_<|.ob (BK (y2.2.1.length+[q1_].length) 64)<|.ob q5_<|.ob q3_<|.ob (bk2 (y2.1.extract z2.1.toNat y2.1.size,(y2.2.1++[q1_],(y2.2.2.1,()))))<|.ok)) (.cl Yv (y2.1,(62:Int),()) fun(z3:Int×PUnit)=>let q4_:=0<=w1 z3.1/\w1 z3.1<=q0_;.br (decide (z3.1<0)) q2_ (.ob ((0:Int)<=(1:Int)/\1<=z3.1/\z3.1<=q0_)<|.cl Gm (y2.1.extract 1 z3.1.toNat,()) fun z4=>.br (z4.2.1) (.ob (BK (y2.2.1.length+[z4.1].length) 64)<|.ob q4_<|.ob q3_<|.ob (bk2 (y2.1.extract (w1 z3.1).toNat y2.1.size,(y2.2.1++[z4.1],(y2.2.2.1,()))))<|.ok) (.ob q4_<|.ob q3_<|.ob (bk2 (y2.1.extract (w1 z3.1).toNat y2.1.size,(y2.2.1,(y2.2.2.1,()))))<|.ok)))) q2_) ?_;repeat' first|(guard_target =~ Out.holds _ _;first|refine Aw (li:=Bt t s) ?_ fun(y2:ByteArray×List SToken×STokenizer×PUnit) i2=>?_|refine lfY ?_|refine Ab (fun _=>?_) fun _=>?_|refine Ae ?_ fun _=>?_|refine Aa ?_ fun _=>?_)|exact trivial
 all_goals
  try simp only[AA] at *
  try simp only[Bt,fFeedText,Yv,Gm,std,Nat.reduceAdd,Yv,Gm] at *
  try simp only[show UInt8.ofNat (Int.toNat 60)=60 from rfl,show UInt8.ofNat (Int.toNat 62)=62 from rfl,Qb5] at *
 all_goals try (obtain⟨⟨a1,a2,a3⟩,a4⟩:=i2)
 all_goals first|trivial|omega|(unfold sameSize;omega)|skip
 all_goals
  have k1:=Ev 60 y2.1;have k2:=Ev 62 y2.1;have j1:=VV 60 y2.1;have j2:=VV 62 y2.1
 all_goals first|omega|skip
 all_goals
  have k3:=Rf (x:=y2.1);have kb:=LJ (s:=y2.1) (i:=0) (b:=60) (by decide) (by decide);have kn:¬ y2.1=⟨#[]⟩->0<y2.1.size:=fun h=>Nat.pos_of_ne_zero fun e=>h (ByteArray.size_eq_zero_iff.1 e)
 all_goals first|(refine⟨by omega,?_⟩;have:=kn (by assumption);omega)|(rw[AaV (x:=y2.1) (by rw[show y2.1=_ by assumption];rfl)] at a2 a3;rw[Qd8] at a2;exact⟨a2,by rw[<-a3]⟩)|skip
 all_goals have kh:=Xr (x:=y2.1) (by omega)
 all_goals first|(have ht:¬ idxB 60 y2.1=0:=fun e=>absurd (kb.2 (by rw[kh.2 e];rfl)) (by assumption))|(have ht:idxB 60 y2.1=0:=kh.1 ((kb.1 (by assumption)).trans rfl))
 all_goals first|(rw[LN (x:=y2.1) (by omega) (by omega)] at a2 a3;rw[Qd8] at a2;exact⟨a2,by rw[<-a3]⟩)|skip
 all_goals
  try have k6:idxB 62 y2.1<y2.1.size:=by omega
  try have k7:=k3 ht k6
 all_goals first|omega|(rw[Qc4];omega)|(rw[Ah (by omega)];omega)|skip
 all_goals have k5:∀ a,(y2.1.extract a y2.1.size).size=y2.1.size-a:=fun a=>by rw[Qc4];omega
 all_goals first|(have e1:idxJ 60 y2.1=(idxB 60 y2.1:Int):=by omega);rw[Py (x:=y2.1) (by omega) (by omega)] at a2 a3;rw[e1,Qg6]|(have e1:idxJ 62 y2.1=(idxB 62 y2.1:Int):=by omega);rw[Sw (x:=y2.1) ht k6] at a2 a3;rw[Ah (by omega),e1,show(((idxB 62 y2.1:Nat):Int)+1).toNat=idxB 62 y2.1+1 by omega]
 all_goals try simp only[e1,Qg6] at *
 all_goals try (first|rw[Qa2 (by assumption)] at a2|rw[Qa3 (by rw[show Prod.snd _=false by assumption];decide)] at a2)
 all_goals refine⟨⟨⟨?_,?_,a3⟩,a4⟩,?_⟩
 all_goals first|(rw[k5];simp only[Qa4,Qa6,Qb8];omega)|(rw[k5];omega)|exact a2|(rw[Qb7];exact a2)|skip)
def Aiz:=AlR.a fRunLine<|Fct.o (KP [1,3,5,6,7,8,9,13] [14,20,30,40,53,66]) AlR.2 func412 (by
 rintro⟨(b:SBuilder),(l:List SSheet),(x:SLine),_⟩ hp;exact ho _ (q14 b l x hp))
abbrev Cb (b:SBuilder) (l:(List SSheet)) (r:(List SLine)):LInv:=⟨[⟨.b,9,true,.el .ba⟩,⟨.s,10,true,.el .str⟩,⟨.s,11,true,.sl .str⟩,⟨.s,22,true,.el .int⟩,⟨.b,6,true,.el .ba⟩],fun(z_ x_:SBuilder×ByteArray×(List ByteArray)×Int×SBuilder×Unit)=>(0<=x_.2.2.2.1/\x_.2.2.2.1<=r.length/\szBuilder x_.1+szL CT (r.drop x_.2.2.2.1.toNat)<=szBuilder b+szL CT r/\x_.2.1.size+szL CT (r.drop x_.2.2.2.1.toNat)<=szL CT r/\x_.2.2.1.length<=x_.2.2.2.1/\runLines l (r.drop x_.2.2.2.1.toNat) x_.1 x_.2.1 x_.2.2.1=runScript b l r)/\x_.2.2.2.2.1=z_.2.2.2.2.1,fun(x_:SBuilder×ByteArray×(List ByteArray)×Int×SBuilder×Unit)=>r.length-x_.2.2.2.1.toNat⟩
def Aix:=Aiz.a BR<|Fct.p (KP [1,2,3,6,7,8,9,10,11,13,14,15,16,20,21,22] [23,39]) (fun⟨b,l,r,_⟩=>lv [(5,Cb b l r)]) Aiz.2 func370 (by
 rintro⟨(b:SBuilder),(l:List SSheet),(r:List SLine),_⟩ hp;refine ho (let q3_:=(r.length:Int);let q1_:=Value.int IntKind.i64 q3_=Value.int IntKind.i64 q3_;let q0_:=(⟨#[]⟩:ByteArray);let q2_:=Value.string q0_=Value.string q0_;.cl fCopyBuilder (b,()) fun z2=>lpx (Cb b l r) (z2.1,(q0_,([],((0:Int),(default,()))))) fun(y2:SBuilder×ByteArray×List ByteArray×Int×SBuilder×PUnit) bk2=>.br (decide (y2.2.2.2.1<q3_)) (.ob (inB y2.2.2.2.1 r.length)<|.cl fRunLine (y2.1,l,r.getD y2.2.2.2.1.toNat default,()) fun z3=>.ob (sameSize y2.2.1 z3.2.1)<|.br (!z3.2.2.1.toList==q0_.toList) (.ob (True)<|.ob (BK (y2.2.2.1.length+[z3.2.2.1].length) 16)<|.ob (l=l)<|.ob (r=r)<|.ob q2_<|.ob (r=r)<|.ob q1_<|.ob (bk2 (z3.1,(y2.2.1++z3.2.1,(y2.2.2.1++[z3.2.2.1],(w1 y2.2.2.2.1,(y2.2.2.2.2.1,()))))))<|.ok) (.ob (l=l)<|.ob (r=r)<|.ob q2_<|.ob (r=r)<|.ob q1_<|.ob (bk2 (z3.1,(y2.2.1++z3.2.1,(y2.2.2.1,(w1 y2.2.2.2.1,(y2.2.2.2.2.1,()))))))<|.ok)) (.lf BR (y2.1,y2.2.1,y2.2.2.1,()))) ?_;refine Ae ?_ fun o1=>(Aw ?_ fun(y2:SBuilder×ByteArray×List ByteArray×Int×SBuilder×PUnit) i2=>Ab (fun h3=>Aa ?_ fun o4=>Ae ?_ fun o5=>(Aa ?_ fun o6=>Ab (fun h7=>Aa trivial fun _=>Aa ?_ fun o8=>Aa rfl fun _=>Aa rfl fun _=>Aa rfl fun _=>Aa rfl fun _=>Aa rfl fun _=>Aa ?_ fun o9=>trivial) (fun h7=>Aa rfl fun _=>Aa rfl fun _=>Aa rfl fun _=>Aa rfl fun _=>Aa rfl fun _=>Aa ?_ fun o10=>trivial))) (fun h3=>lfY ?_))
 all_goals
  have hr:=Ad CT r;have hx:∀ i,i<r.length->szL CT (r.drop i)=(r.getD i default).text.size+1+szL CT (r.drop (i+1)):=fun i h=>KI CT h
  have hs:=fun bb x=>I0 bb l x
  have hrs:runLines l r b ⟨#[]⟩ []=runScript b l r:=rfl;try simp only[AA] at *
  try simp only[Cb,fCopyBuilder,fRunLine,BR,std,Nat.reduceAdd,fCopyBuilder,fRunLine,runLines_at,runLines_end,sameSize,Qb5] at *
  try simp(disch:=omega) only[wrapId',toNat1] at *
  try simp(disch:=omega) only[Qa2,Qa3]
 all_goals first|trivial|omega|grind[wrapId',toNat1,drop_cons,drop_end,good_len,maxLen,fCopyBuilder,fRunLine,runLines_at,runLines_end,sameSize,ByteArray.size_append])
theorem YW (w:ByteArray):ruleOf w=if isName (EA 58 w).1=true/\(parseInt (EA 58 w).2.1).2=true/\1<=(parseInt (EA 58 w).2.1).1/\(parseInt (EA 58 w).2.1).1<=999 then some ⟨(EA 58 w).1,(parseInt (EA 58 w).2.1).1⟩ else none:=by
 unfold ruleOf EA;cases h:Es 58 (toL w) with
 | none=>
  dsimp only;rw[Qa3];rintro⟨_,q,_⟩;have:(parseInt ⟨#[]⟩).2=false:=by unfold parseInt;rw[Qa3 (by rintro⟨q,_⟩;exact absurd q (by decide))]
  exact tf q this
 | some r=>rfl
abbrev BS (s:ByteArray):LInv:=⟨[⟨.b,3,true,.el .sheet⟩,⟨.s,15,true,.el .int⟩,⟨.b,2,true,.el .sheet⟩,⟨.s,13,true,.sl .str⟩],fun(z_ x_:SSheet×Int×SSheet×(List ByteArray)×Unit)=>((0<=x_.2.1/\x_.2.1<=(spl 59 s).length/\x_.1.rules.length<=8/\parseRules ((spl 59 s).drop x_.2.1.toNat) x_.1.rules=parseRules (spl 59 s) [])/\x_.2.2.1=z_.2.2.1)/\x_.2.2.2.1=z_.2.2.2.1,fun(x_:SSheet×Int×SSheet×(List ByteArray)×Unit)=>(spl 59 s).length-x_.2.1.toNat⟩
def Ajr:=Aix.a fParseSheet<|Fct.p (KP [0,2,3,5,6,7,9,10,13,14,15] [16,44]) (fun⟨s,_⟩=>lv [(3,BS s)]) Aix.2 func413 (by
 rintro⟨(s:ByteArray),_⟩ hp;refine ho (let q3_:=Value.string s=Value.string s;.cl DW (s,(⟨#[59]⟩:ByteArray),()) fun z2=>let q2_:=(z2.1.length:Int);let q1_:=Value.int IntKind.i64 q2_=Value.int IntKind.i64 q2_;lpx (BS s) (default,((0:Int),(default,(z2.1,())))) fun(y2:SSheet×Int×SSheet×List ByteArray×PUnit) bk2=>let q0_:Out:=.ob q3_<|.ob q1_<|.ob (bk2 (y2.1,(w1 y2.2.1,(y2.2.2.1,(y2.2.2.2.1,())))))<|.ok;.br (decide (y2.2.1<q2_)) (.ob (inB y2.2.1 y2.2.2.2.1.length)<|.ob (y2.2.1.toNat<y2.2.2.2.1.length)<|.cl Sc (y2.2.2.2.1.getD y2.2.1.toNat default,(⟨#[58]⟩:ByteArray),()) fun z3=>.cl Dt (z3.2.1,()) fun(z4:Int×Bool×PUnit)=>let q4_:=(⟨z3.1,z4.1⟩:SRule);.br (z4.2.1) (.cl fIsName (z3.1,()) fun z5=>.br (z5.1) (.cl fInRange (z4.1,(1:Int),(999:Int),()) fun z6=>.br (z6.1) (.br (decide ((y2.1.rules.length:Int)<8)) (.ob (True)<|.ob (BK (y2.1.rules.length+[q4_].length) 24)<|.ob q3_<|.ob q1_<|.ob (bk2 ((⟨y2.1.rules++[q4_]⟩:SSheet),(w1 y2.2.1,(y2.2.2.1,(y2.2.2.2.1,())))))<|.ok) q0_) q0_) q0_) q0_) (.lf fParseSheet (y2.1,()))) ?_;refine Ae ?_ fun o1=>(Aw ?_ fun(y2:SSheet×Int×SSheet×List ByteArray×PUnit) i2=>Ab (fun h3=>Aa ?_ fun o4=>Aa ?_ fun o5=>Ae ?_ fun o6=>(Ae ?_ fun o7=>(Ab (fun h8=>Ae ?_ fun o9=>(Ab (fun h10=>Ae trivial fun _=>(Ab (fun h11=>Ab (fun h12=>Aa trivial fun _=>Aa ?_ fun o13=>Aa rfl fun _=>Aa rfl fun _=>Aa ?_ fun o14=>trivial) (fun h12=>Aa rfl fun _=>Aa rfl fun _=>Aa ?_ fun o15=>trivial)) (fun h11=>Aa rfl fun _=>Aa rfl fun _=>Aa ?_ fun o16=>trivial))) (fun h10=>Aa rfl fun _=>Aa rfl fun _=>Aa ?_ fun o17=>trivial))) (fun h8=>Aa rfl fun _=>Aa rfl fun _=>Aa ?_ fun o18=>trivial)))) (fun h3=>lfY ?_))
 all_goals
  have hk:=DE 59 s;have hm:∀ i,i<(spl 59 s).length->((spl 59 s).getD i default).size<=s.size:=fun i h=>Hz (Br h)
  have hp1:s.size<=4200000000:=hp;try simp only[AA] at *
  try simp only[BS,Sc,fInRange,fIsName,Dt,fParseSheet,DW,std,Nat.reduceAdd,DW,Sc,Dt,fIsName,fInRange,inRange] at *
  try simp only[show(#[59]:Array UInt8).getD 0 0=59 from rfl,show(#[58]:Array UInt8).getD 0 0=58 from rfl,Qa1,Qe4,Qa7,Qb0] at *
 all_goals first|omega|exact⟨by omega,by omega,by decide,rfl⟩|(obtain⟨⟨⟨a1,a2,a3,a4⟩,e1⟩,e2⟩:=i2;simp only[e2] at *)
 all_goals try (have hw:=hm y2.2.1.toNat (by omega);have hc:=Q8 58 ((spl 59 s).getD y2.2.1.toNat default))
 all_goals first|omega|exact⟨by omega,by omega⟩|(rw[Hv (by omega)] at a4;show y2.1=parseSheet s;unfold parseSheet;rw[<-a4])|skip
 all_goals have e:=H0 (l:=spl 59 s) (i:=y2.2.1.toNat) (acc:=y2.1.rules) (by omega)
 all_goals rw[a4,YW] at e
 all_goals rw[Ah (by omega),show(y2.2.1+1).toNat=y2.2.1.toNat+1 by omega]
 all_goals first|(rw[Qa3 (by omega)] at e;exact⟨⟨⟨⟨by omega,by omega,by omega,e.symm⟩,e1⟩,by first|trivial|rfl⟩,by omega⟩)|skip
 all_goals first|(rw[Qa2 (show y2.1.rules.length<8 by omega),Qa2 ⟨by assumption,by assumption,by omega,by omega⟩] at e;exact⟨⟨⟨⟨by omega,by omega,by simp only[Qa4,Qa6,Qb8];omega,e.symm⟩,e1⟩,by first|trivial|rfl⟩,by omega⟩)|skip
 all_goals rw[Qa3 (show ¬ (isName _=true/\_) by rintro⟨q1,q2,q3,q4⟩;first|omega|exact tf q1 (by assumption)|exact tf q2 (by assumption)),Option.toList_none,Qd8,ite_self] at e
 all_goals exact⟨⟨⟨⟨by omega,by omega,by omega,e.symm⟩,e1⟩,by first|trivial|rfl⟩,by omega⟩)
def runL (p:SPage) (l:List SLine) (w:Bool):SPage:={ p with ba:=(runScript p.ba (sheetsOf p.bd) l).1,log:=addLog p.log (runScript p.ba (sheetsOf p.bd) l).2.2,bm:=if w=true then tokensOf (runScript p.ba (sheetsOf p.bd) l).2.1++p.bm else p.bm }
def okRL (p:SPage) (l:List SLine):Prop:=p.bm.length<=1000000000000/\szBuilder p.ba<=40000000000/\szL AI p.bd<=40000000000/\okBod p/\szL CT l<=366
def Cz:GS:=⟨[.b (.el .page),.l (.v (.sl .line)),.l (.v (.el .bool))],[],fun(x_:SPage×(List SLine)×Bool×Unit)=>okRL x_.1 x_.2.1,fun(x_:SPage×(List SLine)×Bool×Unit)=>((()),(runL x_.1 x_.2.1 x_.2.2.1,()))⟩
theorem AaX {p:SPage} {l:List SLine} (h:okRL p l):szL AI p.bd<=1000000000000/\okBod p/\szBuilder p.ba<=50000000000/\szL Dl (sheetsOf p.bd)<=100000000000/\szL CT l<=1000000000/\okSheets (sheetsOf p.bd)/\(runScript p.ba (sheetsOf p.bd) l).2.1.size<=366/\(runScript p.ba (sheetsOf p.bd) l).2.2.length<=366/\p.bm.length<=1000000000000:=by
 obtain⟨h1,h2,h3,h4,h5⟩:=h;have hs:=Ec p.bd;have hr:=F6 (sheetsOf p.bd) l p.ba ⟨#[]⟩ [];have hl:=Ad CT l;have h0:ByteArray.size ⟨#[]⟩=0:=rfl;simp only[Qb8] at hr;exact⟨by omega,h4,by omega,by omega,by omega,hs.2,by(show(runLines (sheetsOf p.bd) l p.ba ⟨#[]⟩ []).2.1.size<=366;omega),by(show(runLines (sheetsOf p.bd) l p.ba ⟨#[]⟩ []).2.2.length<=366;omega),by omega⟩
abbrev By (p:SPage):LInv:=⟨[⟨.s,3,true,.sl .sheet⟩,⟨.s,10,true,.el .int⟩],fun _ (x_:(List SSheet)×Int×Unit)=>0<=x_.2.1/\x_.2.1<=p.bd.length/\x_.1.length<=x_.2.1/\x_.1++sheetsOf (p.bd.drop x_.2.1.toNat)=sheetsOf p.bd,fun(x_:(List SSheet)×Int×Unit)=>p.bd.length-x_.2.1.toNat⟩
def Aiu:=Ajr.a CH<|Fct.p (KP [1,2,3,5,8,9,10] [11,25]) (fun⟨p,_⟩=>lv [(3,By p)]) Ajr.2 func371 (by
 rintro⟨(p:SPage),_⟩ hp;refine ho (let q3_:=(p.bd.length:Int);let q1_:=Value.int IntKind.i64 q3_=Value.int IntKind.i64 q3_;lpx (By p) ([],((0:Int),())) fun(y1:List SSheet×Int×PUnit) bk1=>let q2_:=p.bd.getD y1.2.1.toNat default;let q0_:Out:=.ob (p.bd=p.bd)<|.ob q1_<|.ob (bk1 (y1.1,(w1 y1.2.1,())))<|.ok;.br (decide (y1.2.1<q3_)) (.ob (inB y1.2.1 p.bd.length)<|.br (q2_.mode==2) (.br (q2_.done) (.br (q2_.code==1) (.cl fParseSheet (q2_.body,()) fun z2=>.ob (BK (y1.1.length+[z2.1].length) 24)<|.ob (p.bd=p.bd)<|.ob q1_<|.ob (bk1 (y1.1++[z2.1],(w1 y1.2.1,())))<|.ok) q0_) q0_) q0_) (.lf CH (y1.1,()))) ?_;repeat' first|(guard_target =~ Out.holds _ _;first|refine Aw (li:=By p) ?_ fun(y1:List SSheet×Int×PUnit) i1=>?_|refine lfY ?_|refine Ab (fun _=>?_) fun _=>?_|refine Ae ?_ fun _=>?_|refine Aa ?_ fun _=>?_)|exact trivial
 all_goals
  have h0:sheetsOf (p.bd.drop 0)=sheetsOf p.bd:=rfl;have hl:=Ad AI p.bd;have hg:∀ i,i<p.bd.length->(p.bd.getD i default).body.size<=4200000000:=hp.2;have hg2:szL AI p.bd<=1000000000000:=hp.1;clear hp;try simp only[AA] at *
  try simp only[By,fParseSheet,CH,std,Nat.reduceAdd,fParseSheet,sheetsOf_at,sheetsOf_end,Qa4,Qa6,Qb8,Qb7] at *
  try simp(disch:=omega) only[wrapId',toNat1] at *
  try simp(disch:=omega) only[Qa2,Qa3]
 all_goals first|trivial|omega|grind[wrapId',toNat1,drop_cons,drop_end,good_len,maxLen,fParseSheet,sheetsOf_at,sheetsOf_end,List.length_append,List.length_cons,List.length_nil,List.append_assoc])
def AiY:=Aiu.a Du<|Fct.o [0,2,3,4] Aiu.2 func372 (by
 rintro⟨(s:ByteArray),_⟩ hp;exact ho _ (q13 s hp))
abbrev Cu (p:SPage) (l:(List SLine)) (w:Bool):LInv:=⟨[⟨.s,31,true,.el .int⟩,⟨.b,0,true,.el .page⟩,⟨.s,29,true,.sl .str⟩],fun(z_ x_:Int×SPage×(List ByteArray)×Unit)=>x_.2.2.1=z_.2.2.1/\logInv z_.2.1 z_.2.2.1 x_.2.1 x_.1,fun(x_:Int×SPage×(List ByteArray)×Unit)=>x_.2.2.1.length-x_.1.toNat⟩
def AkQ:=AiY.G Cz<|GS.of (S:=Cz) (L:=fun⟨p,l,w,_⟩=>fun|3=>some (Cu p l w)|_=>none) (kp:=(KP [0,2,6,7,8,10,29,30,31] [32,39])) AiY.2 func326 (by kernel_rfl) (by kernel_rfl) (by
 rintro⟨(p:SPage),(l:List SLine),(w:Bool),_⟩ hp;refine ho (.cl CH (p,()) fun z2=>.cl BR (p.ba,z2.1,l,()) fun z3=>let q0_:=(z3.2.2.1.length:Int);lpx (Cu p l w) ((0:Int),(({p with ba:=z3.1}:SPage),(z3.2.2.1,()))) fun(y3:Int×SPage×List ByteArray×PUnit) bk3=>.br (decide (y3.1<q0_)) (.ob (inB y3.1 y3.2.2.1.length)<|.ob (y3.1.toNat<y3.2.2.1.length)<|.ob (Fm.pre (y3.2.1,y3.2.2.1.getD y3.1.toNat default,()))<|.lt _ (Fm.fn (y3.2.1,y3.2.2.1.getD y3.1.toNat default,())) fun z4=>.ob (Value.bool w=Value.bool w)<|.ob (Value.string z3.2.1=Value.string z3.2.1)<|.ob (Value.int IntKind.i64 q0_=Value.int IntKind.i64 q0_)<|.ob (bk3 (w1 y3.1,(z4.2.1,(y3.2.2.1,()))))<|.ok) (.br (w) (.cl Du (z3.2.1,()) fun z5=>.ob (BK (z5.1.length+y3.2.1.bm.length) 64)<|GS.out Cz ((()),({y3.2.1 with bm:=z5.1++y3.2.1.bm},()))) (GS.out Cz ((()),(y3.2.1,()))))) ?_;refine Ae ?_ fun o1=>(Ae ?_ fun o2=>(Aw ?_ fun(y3:Int×SPage×List ByteArray×PUnit) i3=>Ab (fun h4=>Aa ?_ fun o5=>Aa ?_ fun o6=>Aa trivial fun _=>Dh (Aa rfl fun _=>Aa rfl fun _=>Aa rfl fun _=>Aa ?_ fun o7=>trivial)) (fun h4=>Ab (fun h8=>Ae ?_ fun o9=>(Aa ?_ fun o10=>GS.leafY ?_)) (fun h8=>GS.leafY ?_))))
 all_goals obtain⟨r1,r2,r3,r4,r5,r6,r7,r8,r9⟩:=AaX (show okRL p l from hp)
 all_goals
  try simp only[AA] at *
  try simp only[Cu,Cz,BR,Fm,CH,Du,std,Nat.reduceAdd,BR,CH,Du,Fm] at *
 all_goals first|trivial|omega|exact⟨r1,r2⟩|exact⟨r3,r4,r5,r6⟩|exact Sm _ _|(obtain⟨j1,j3⟩:=i3;simp only[j1] at *;have j0:=j3.1)|skip
 all_goals first|trivial|omega|exact⟨j0,by assumption⟩|(rw[Ah (by omega)];simp only[Qe1,true_and];exact⟨P4 j3 (by assumption),by omega⟩)|skip
 all_goals
  have e:=MO j3 (by omega);have eq1:y3.2.1.bm=p.bm:=by rw[e]
  have ht:=FX (runScript p.ba (sheetsOf p.bd) l).2.1
 all_goals first|(simp only[eq1];omega)|skip
 all_goals (unfold runL;(first|rw[Qa2 (by assumption)]|rw[Qa3 (by intro q;exact tf q (by assumption))]);rw[e]))
theorem QH {p:SPage} {c:ByteArray} {w:Bool} (h:(parseScript c).2=true):runCode p c w=runL p (parseScript c).1 w:=by unfold runCode;rw[Qa2 h];rfl
theorem TW {p:SPage} {c:ByteArray} {w:Bool} (h:(parseScript c).2=false):runCode p c w=say p ⟨#[101,114,114,111,114]⟩:=by
 unfold runCode;rw[Qa3 (by rw[h];decide)];unfold say;split
 ·rename_i hc;rw[addLog,Qa2 hc,FO]
 ·rename_i hc;rw[FZ hc]
def AlP:=AkQ.a Bo<|Fct.o (KP [1,2,3,6,7,8,9] [18]) AkQ.2 func274 (by
 rintro⟨(p:SPage),(c:ByteArray),(w:Bool),_⟩ hp;refine ho (.cl fCopyPage (p,()) fun z2=>.cl AC (c,()) fun z3=>.br (!z3.2.1) (.ob (Fm.pre (z2.1,(⟨#[101,114,114,111,114]⟩:ByteArray),()))<|.lt _ (Fm.fn (z2.1,(⟨#[101,114,114,111,114]⟩:ByteArray),())) fun z4=>.lf Bo (z4.2.1,())) (.ob (Cz.pre (z2.1,z3.1,w,()))<|.lt _ (Cz.fn (z2.1,z3.1,w,())) fun z5=>.lf Bo (z5.2.1,()))) ?_;refine Ae ?_ fun o1=>(Ae ?_ fun o2=>(Ab (fun h3=>Aa trivial fun _=>Dh (lfY ?_)) (fun h3=>Aa ?_ fun o4=>Dh (lfY ?_))))
 all_goals obtain⟨hp1,hp2,hp3,hp4,hp5⟩:=(show szPage p<=1000000000000/\szBuilder p.ba<=40000000000/\szL AI p.bd<=40000000000/\c.size<=4200000000/\okBod p from hp)
 all_goals
  try simp only[AA] at *
  try simp only[fCopyPage,AC,Bo,Cz,Fm,std,Nat.reduceAdd,fCopyPage,AC,Fm,Cz] at *
 all_goals first|trivial|omega|exact⟨by(have h1:=Ad Al p.bm;have h2:=DJ p;show p.bm.length<=_;omega),hp2,hp3,hp5,(Em c).1⟩|(rw[TW (by assumption)])|(rw[QH (by assumption)]))
def Amx:=AlP.a AV<|Fct.o (KP [1,2,3,4,5] [8,14,25,40,54,62]) AlP.2 func207 (by
 rintro⟨(p:SPage),_⟩ hp;refine ho (let q5_:=(p.bd.length:Int);let q0_:=p.block-(1:Int);let q3_:=p.bd.getD (wr q0_).toNat default;let q2_:=0<=wr q0_/\wr q0_<q5_;.cl fCopyPage (p,()) fun z2=>let q4_:Out:=.lf AV (z2.1,false,());let q1_:Out:=.lf AV ({z2.1 with block:=(0:Int)},true,());.br (p.inline != 0) (.cl Az (p,()) fun z3=>.br (!z3.1) q4_ (.cl Ew (p.ba,p.inline,()) fun z4=>.cl Bo (z2.1,z4.1,true,()) fun z5=>.lf AV ({z5.1 with inline:=(0:Int)},true,()))) (.br (p.block != 0) (.br (decide (wr q0_<0)) q1_ (.br (decide (wr q0_>=q5_)) q1_ (.ob q2_<|.br (!q3_.done) q4_ (.cl Az (p,()) fun z6=>.br (!z6.1) q4_ (.ob q2_<|.br (q3_.code==1) (.ob q2_<|.cl Bo (z2.1,q3_.body,true,()) fun z7=>.lf AV ({z7.1 with block:=(0:Int)},true,())) q1_))))) (.cl AL (p,()) fun z8=>.lf AV (z8.1,z8.2.1,())))) ?_;refine Ae ?_ fun o1=>(Ab (fun h2=>Ae ?_ fun o3=>(Ab (fun h4=>lfY ?_) (fun h4=>Ae ?_ fun o5=>(Ae ?_ fun o6=>(lfY ?_))))) (fun h2=>Ab (fun h7=>Ab (fun h8=>lfY ?_) (fun h8=>Ab (fun h9=>lfY ?_) (fun h9=>Aa ?_ fun o10=>Ab (fun h11=>lfY ?_) (fun h11=>Ae ?_ fun o12=>(Ab (fun h13=>lfY ?_) (fun h13=>Aa ?_ fun o14=>Ab (fun h15=>Aa ?_ fun o16=>Ae ?_ fun o17=>(lfY ?_)) (fun h15=>lfY ?_))))))) (fun h7=>Ae ?_ fun o18=>(lfY ?_))))
 all_goals obtain⟨hp0,hp6,hp5⟩:=(show okParse p from hp)
 all_goals obtain⟨hp1,hp2,hp3,hp4,hp7⟩:=(show okTok p from hp0)
 all_goals
  have hbb:szBuilder p.ba<=2000000000:=by(unfold szBuilder;omega)
  have hpp:=DJ p;have hsl:=Ad AI p.bd;have hnl:=Ad szNode p.ba.bh;have htx:=H3 p.inline p.ba.bh ⟨#[]⟩
 all_goals rw[show ByteArray.size ⟨#[]⟩=0 from rfl] at htx
 all_goals
  try simp only[AA] at *
  try simp only[fCopyPage,Bo,AV,Az,AL,Ew,std,Nat.reduceAdd,Az,fCopyPage,Ew,Bo,fInRange,inRange,AL,N1] at *
  try simp only[N1,Qa1,Qe4,Qa7,Qb0,Ah (show -9223372036854775808<=(p.bd.length:Int)-1/\(p.bd.length:Int)-1<=9223372036854775807 by omega)] at *
 all_goals first|trivial|omega|exact hp0|exact⟨by omega,by omega,by omega,hp5 _ (by omega),hp5⟩|exact⟨by omega,by omega,by omega,by omega,hp5⟩|skip
 all_goals unfold stepParser
 all_goals first|rw[Qa2 (by assumption)]|(rw[Qa3 (by omega)];first|rw[Qa2 (by assumption)]|rw[Qa3 (by omega)])
 all_goals first|exact⟨rfl,rfl⟩|(unfold stepInline)|(unfold stepBlock)
 all_goals repeat first|rw[Qa2 (by assumption)]|rw[Qa3 (by intro q;first|exact tf q (by assumption)|exact tf (by assumption) q)]|rw[Qa2 (by omega)]|rw[Qa3 (by omega)]|rw[Qa2 (by exact .inl (by assumption))]|rw[Qa2 (by exact .inr (by assumption))]|rw[Qa3 (by rintro(q|q)<;>exact tf (by assumption) q)]|fail
 all_goals exact⟨rfl,rfl⟩)
theorem Zw {p q:SPage} {a:SAddr} {i:Int} (h:entInv p a q i) (hp:okEnt p a) (b:SAddr):okRL { q with ran:=q.ran++[b]} (entLines p b):=by
 have he:=EI h;have hz:=Ki h hp;have e:=h.2.2.2.1;have eq1:q.bm=p.bm:=by rw[e]
 have hl:=Ad Al p.bm;have hpp:=DJ p;have h1:=hp.1;refine⟨?_,?_,?_,?_,(HM p b).1⟩
 ·show q.bm.length<=_;rw[eq1];omega
 ·show szBuilder q.ba<=_;omega
 ·show szL AI q.bd<=_;rw[he.2];omega
 ·intro j hj;have hj:j<q.bd.length:=hj;show(q.bd.getD j default).body.size<=_;rw[he.2] at hj ⊢;exact hp.2.2.2.2.2 j hj
theorem O4 (p:SPage) (b:SAddr):(parseModule (p.bg.getD (findMod p.bg b).toNat default).body b.host).2.1=entLines p b:=rfl
theorem AaU {p q:SPage} {a:SAddr} {i:Int} (h:entInv p a q i) (b:SAddr) (hn:inL q.ran b=false):runL { q with ran:=q.ran++[b]} (entLines p b) false=enter1 p q b:=by
 have he:=EI h;unfold runL enter1 entRun;rw[Qa3 (show ¬ (false=true) by decide),Qa3 (show ¬ inL q.ran b=true by rw[hn];decide)];simp only[he.2]
def Gb:GS:=⟨[.b (.el .page),.l (.v (.el .addr))],[],fun(x_:SPage×SAddr×Unit)=>okEnt x_.1 x_.2.1,fun(x_:SPage×SAddr×Unit)=>((()),(enter x_.1 x_.2.1,()))⟩
abbrev CM (p:SPage) (a:SAddr):LInv:=⟨[⟨.s,25,true,.el .int⟩,⟨.b,0,true,.el .page⟩,⟨.s,23,true,.sl .addr⟩],fun(z_ x_:Int×SPage×(List SAddr)×Unit)=>(entInv p a x_.2.1 x_.1)/\x_.2.2.1=z_.2.2.1,fun(x_:Int×SPage×(List SAddr)×Unit)=>(reachOf p a).length-x_.1.toNat⟩
def AiQ:=Amx.G Gb<|GS.of (S:=Gb) (L:=fun⟨p,a,_⟩=>fun|4=>some (CM p a)|_=>none) (kp:=(KP [0,3,5,7,23,24,25] [13,26,34])) Amx.2 func280 (by kernel_rfl) (by kernel_rfl) (by
 rintro⟨(p:SPage),(a:SAddr),_⟩ hp;refine ho (let q2_:=(⟨#[102,97,105,108,32]⟩:ByteArray);.cl Bs (p,a,()) fun z2=>.br (z2.1) (.cl BT (a,()) fun z3=>.ob (sameSize q2_ z3.1)<|.ob (Fm.pre (p,q2_++z3.1,()))<|.lt _ (Fm.fn (p,q2_++z3.1,())) fun z4=>GS.out Gb ((()),(z4.2.1,()))) (.cl Bp (p,a,()) fun z5=>let q3_:=(z5.1.length:Int);let q1_:=Value.int IntKind.i64 q3_=Value.int IntKind.i64 q3_;lpx (CM p a) ((0:Int),(p,(z5.1,()))) fun(y6:Int×SPage×List SAddr×PUnit) bk6=>let q0_:=({y6.2.1 with ran:=y6.2.1.ran++[y6.2.2.1.getD y6.1.toNat default]}:SPage);.br (decide (y6.1<q3_)) (.ob (inB y6.1 y6.2.2.1.length)<|.ob (y6.1.toNat<y6.2.2.1.length)<|.cl Da (y6.2.1.ran,y6.2.2.1.getD y6.1.toNat default,()) fun z6=>.br (z6.1) (.ob q1_<|.ob (bk6 (w1 y6.1,(y6.2.1,(y6.2.2.1,()))))<|.ok) (.ob (True)<|.ob (BK (y6.2.1.ran.length+[y6.2.2.1.getD y6.1.toNat default].length) 32)<|.cl Ca (q0_,y6.2.2.1.getD y6.1.toNat default,()) fun(z7:Int×PUnit)=>.ob (inB z7.1 y6.2.1.bg.length)<|.ob (z7.1.toNat<y6.2.1.bg.length)<|.cl Av ((y6.2.1.bg.getD z7.1.toNat default).body,(y6.2.2.1.getD y6.1.toNat default).host,()) fun z8=>.ob (Cz.pre (q0_,z8.2.1,false,()))<|.lt _ (Cz.fn (q0_,z8.2.1,false,())) fun z9=>.ob q1_<|.ob (bk6 (w1 y6.1,(z9.2.1,(y6.2.2.1,()))))<|.ok)) (GS.out Gb ((()),(y6.2.1,()))))) ?_;repeat' first|(guard_target =~ Out.holds _ _;first|refine Aw (li:=CM p a) ?_ fun(y6:Int×SPage×List SAddr×PUnit) i6=>?_|refine GS.leafY ?_|refine Ab (fun _=>?_) fun _=>?_|refine Ae ?_ fun _=>?_|refine Aa ?_ fun _=>?_|refine Dh ?_)|exact trivial
 all_goals have hq:okEnt p a:=hp
 all_goals obtain⟨p1,p2,p3,p4,p5,p6⟩:=(show okEnt p a from hp)
 all_goals
  have hfa:=Mm a;try simp only[AA] at *
  try simp only[CM,Gb,BT,Bs,Da,Ca,Av,Bp,Cz,Fm,std,Nat.reduceAdd,Bs,BT,Fm,Bp,Da,Av,Ca,Cz,Ht,Om] at *
 all_goals first|trivial|omega|exact p2|(unfold sameSize;rw[show ByteArray.size ⟨#[102,97,105,108,32]⟩=5 from rfl];omega)|exact Sg p a|(unfold enter;rw[Qa2 (by assumption)])|skip
 all_goals (obtain⟨i1,e2⟩:=i6;have em:=(EI i1).1;have i0:=i1.1;have iz:=Ki i1 hq)
 all_goals try simp only[e2,em,O4] at *
 all_goals first|trivial|omega|skip
 all_goals try (have hmem:=Br (l:=reachOf p a) (i:=y6.1.toNat) (by omega);have hfnd:=IC (by assumption) hmem;have hfi:=BH p.bg ((reachOf p a).getD y6.1.toNat default))
 all_goals first|exact⟨hfnd,hfi.1⟩|exact⟨p2.2.1 _ (by omega),Hc hmem p2.2.2.1⟩|(rw[Ah (by omega)];have e:=Ia i1 (by omega);unfold enter1 at e;rw[Qa2 (by assumption)] at e;exact⟨⟨e,trivial⟩,by omega⟩)|(unfold enter;rw[Qa3 (by intro q;exact tf q (by assumption))];have e:=i1.2.2.1;rw[Jz (by omega)] at e;exact e)|skip
 all_goals
  have hR:=Zw i1 hq ((reachOf p a).getD y6.1.toNat default);have hL:=AaU i1 ((reachOf p a).getD y6.1.toNat default) (by assumption);have em2:=(EI i1).1
 all_goals simp only[em2] at hR hL
 all_goals first|exact hR|(rw[hL,Ah (by omega)];exact⟨⟨Ia i1 (by omega),trivial⟩,by omega⟩))
theorem Qr (p:SPage) (c:ByteArray) (w:Bool):(runCode p c w).bl=p.bl:=by unfold runCode;split<;>rfl
theorem JC (p:SPage):∀ (l:List SAddr) (q:SPage),(enterAll p q l).bp=q.bp
 | [],q=>rfl
 | b::l,q=>by have:=JC p l (enter1 p q b);refine this.trans ?_;unfold enter1;split<;>rfl
theorem WN (p:SPage) (a:SAddr):(enter p a).bp=p.bp:=by
 unfold enter;split
 ·unfold say;split<;>rfl
 ·exact JC p _ p
def Akt:=AiQ.a Bm<|Fct.o (KP [1,2,3,4,5,6,7] [26,30,52,56,66,87,96]) AiQ.2 func208 (by
 rintro⟨(p:SPage),_⟩ hp;refine ho (let q2_:=(⟨#[108,111,97,100]⟩:ByteArray);.cl fCopyPage (p,()) fun z2=>let q0_:Out:=.lf Bm (z2.1,false,());.cl CE (p,()) fun z3=>.br (!z3.1) q0_ (.br (p.loaded) q0_ (.br (decide (p.bl<0)) q0_ (.br (decide (p.bp<0)) q0_ (.cl A7 (p,()) fun(z4:List Int×PUnit)=>let q1_:=p.bd.getD (z4.1.getD p.bl.toNat default).toNat default;.br (decide (p.bl<(z4.1.length:Int))) (.ob (inB p.bl z4.1.length)<|.ob (p.bl.toNat<z4.1.length)<|.ob (0<=z4.1.getD p.bl.toNat default/\z4.1.getD p.bl.toNat default<(p.bd.length:Int))<|.br (!q1_.done) q0_ (.cl Az (p,()) fun z5=>.br (!z5.1) q0_ (.br (q1_.code==1) (.cl Bo (z2.1,q1_.body,false,()) fun z6=>.lf Bm ({z6.1 with bl:=w1 z6.1.bl},true,())) (.lf Bm ({z2.1 with bl:=w1 z2.1.bl},true,()))))) (.br (decide (p.bp<(p.bf.length:Int))) (.ob (inB p.bp p.bf.length)<|.cl Ba (p,p.bf.getD p.bp.toNat default,()) fun z7=>.br (!z7.1) q0_ (.cl Az (p,()) fun z8=>.br (!z8.1) q0_ (.ob (Gb.pre (z2.1,p.bf.getD p.bp.toNat default,()))<|.lt _ (Gb.fn (z2.1,p.bf.getD p.bp.toNat default,())) fun z9=>.lf Bm ({z9.2.1 with bp:=w1 z9.2.1.bp},true,())))) (.cl Bf (p,()) fun(z10:List Int×PUnit)=>.br ((z10.1.length:Int)==0) (.cl BL (p,()) fun(z11:List Int×PUnit)=>.br ((z11.1.length:Int)==0) (.ob (Fm.pre (z2.1,q2_,()))<|.lt _ (Fm.fn (z2.1,q2_,())) fun z12=>.lf Bm ({z12.2.1 with loaded:=true},true,())) q0_) q0_))))))) ?_;repeat' first|(guard_target =~ Out.holds _ _;first|refine lfY ?_|refine Ab (fun _=>?_) fun _=>?_|refine Ae ?_ fun _=>?_|refine Aa ?_ fun _=>?_|refine Dh ?_)|exact trivial
 all_goals have hq:okTail p:=hp
 all_goals obtain⟨⟨⟨hp1,hp2,hp3,hp4,hp9⟩,hp8,hp5⟩,hp6,hp10,hp7⟩:=(show okTail p from hp)
 all_goals
  have hbb:szBuilder p.ba<=2000000000:=by(unfold szBuilder;omega)
  have hpp:=DJ p;have hsl:=Ad AI p.bd;have hml:=Ad Ar p.bg;have hel:=Ad szAddr p.bf;have hdl:(deferredSlots p).length<=p.bd.length:=Dn _ _ _;try simp only[AA] at *
  try simp only[fCopyPage,A7,Gb,Ba,CE,BL,Bf,Bo,Fm,Bm,Az,std,Nat.reduceAdd,fCopyPage,CE,A7,Az,Bo,Ba,Gb,Bf,BL,Fm,KA,L6] at *
 all_goals first|trivial|omega|skip
 all_goals
  have hds:0<=p.bl->p.bl<(deferredSlots p).length->(defSlot p).body.size<=4200000000:=fun a b=>hp5 _ (by have:=Hf p a b;omega)
  have hes:0<=p.bp->p.bp<p.bf.length->okEnt p (entNow p):=fun a b=>MF hq (by omega)
 all_goals first|exact Hf p (by assumption) (by assumption)|exact⟨hp1,by omega,by omega,hds (by assumption) (by assumption),hp5⟩|exact hes (by assumption) (by assumption)|exact(hes (by assumption) (by assumption)).2.1|skip
 all_goals unfold stepTail
 all_goals repeat first|rw[Qa2 (by first|assumption|omega|exact .inl (by assumption)|exact .inr (by assumption)|exact .inr (.inl (by assumption))|exact .inr (.inr (.inl (by omega)))|exact .inr (.inr (.inr (by omega)))|exact .inl (by omega)|exact .inr (by omega))]|rw[Qa3 (by first|omega|(rintro(q|q|q|q)<;>first|omega|exact tf (by assumption) q|exact tf q (by assumption))|(rintro(q|q)<;>first|omega|exact tf (by assumption) q))]|unfold tailDefer|unfold tailEnter
 all_goals first|exact⟨rfl,rfl⟩|exact⟨rfl,trivial⟩|(rw[Ah (by omega)];first|exact⟨rfl,rfl⟩|exact⟨rfl,trivial⟩)|(simp only[Qr,WN];rw[Ah (by omega)];first|exact⟨rfl,rfl⟩|exact⟨rfl,trivial⟩))
abbrev C1 (p:SPage):LInv:=⟨[⟨.b,3,true,.el .page⟩,⟨.s,4,true,.el .int⟩,⟨.b,2,true,.el .page⟩],fun(z_ x_:SPage×Int×SPage×Unit)=>(advInv p x_.1 x_.2.1)/\x_.2.2.1=z_.2.2.1,fun(x_:SPage×Int×SPage×Unit)=>(2000-x_.2.1).toNat⟩
def Akb:=Akt.a DG<|Fct.p (KP [1,2,3,4,5,6] [10,19,26]) (fun⟨p,_⟩=>lv [(3,C1 p)]) Akt.2 func112 (by
 rintro⟨(p:SPage),_⟩ hp;refine ho (.cl fCopyPage (p,()) fun z2=>lpx (C1 p) (z2.1,((0:Int),(default,()))) fun(y2:SPage×Int×SPage×PUnit) bk2=>.br (decide (y2.2.1<2000)) (.cl AV (y2.1,()) fun z3=>.br (!z3.2.1) (.cl Bm (y2.1,()) fun z4=>.br (!z4.2.1) (.lf DG (y2.1,())) (.ob (bk2 (z4.1,(w1 y2.2.1,(y2.2.2.1,()))))<|.ok)) (.br (!z3.2.1) (.lf DG (y2.1,())) (.ob (bk2 (z3.1,(w1 y2.2.1,(y2.2.2.1,()))))<|.ok))) (.lf DG (y2.1,()))) ?_;refine Ae ?_ fun o1=>(Aw ?_ fun(y2:SPage×Int×SPage×PUnit) i2=>Ab (fun h3=>Ae ?_ fun o4=>(Ab (fun h5=>Ae ?_ fun o6=>(Ab (fun h7=>lfY ?_) (fun h7=>Aa ?_ fun o8=>trivial))) (fun h5=>Ab (fun h9=>lfY ?_) (fun h9=>Aa ?_ fun o10=>trivial)))) (fun h3=>lfY ?_))
 all_goals
  have hq:okAdv p:=hp;have h0:=(Gi (Hg hq)).1.1.1;try simp only[AA] at *
  try simp only[C1,DG,fCopyPage,AV,Bm,std,Nat.reduceAdd,fCopyPage,AV,Bm] at *
 all_goals first|trivial|omega|skip
 all_goals first|exact Hg hq|exact⟨Hg hq,rfl⟩|(obtain⟨i3,e1⟩:=i2;have ht:=Gi i3)
 all_goals first|exact ht|exact ht.1|exact(tf (by assumption) (by assumption)).elim|skip
 all_goals first|exact F7 i3 (fun h=>absurd h (by omega))|exact F7 i3 (fun _=>by rw[IF (by assumption)];assumption)|skip
 all_goals rw[Ah (by have:=i3.1;omega)]
 all_goals first|(have e:=Iw i3 (by assumption) (by rw[IF (by assumption)];assumption);rw[IF (by assumption)] at e;exact⟨⟨e,e1⟩,by omega⟩)|(have e:=Iw i3 (by assumption) (by rw[Ni (by assumption)];assumption);rw[Ni (by assumption)] at e;exact⟨⟨e,e1⟩,by omega⟩))
theorem Ie (p:SPolicy) (r:SRequest) (x:SResponse):(usable p r x).1.size<=400:=by
 unfold usable;split
 ·rename_i h;by_cases hi:isResponse x=true
  ·unfold isResponse at hi;simp only[Qa1,Qa7] at hi;exact hi.2.2.1
  ·exfalso;unfold checkResponse at h;split at h
   ·cases h
   ·rw[Qa2 (.inl (by simpa using hi))] at h;cases h
 ·exact Nat.zero_le _
theorem Qw {α:Type} (f:α->α) (m:α) (B:List α):∀ A:List α,(A++m::B).modify A.length f=A++f m::B
 | []=>rfl
 | a::A=>Qg8 (List.cons a) (Qw f m B A)
theorem ET {α:Type} [Inhabited α] (f:α->α) {l:List α} {i:Nat} (h:i<l.length):l.modify i f=l.take i++f (l.getD i default)::l.drop (i+1):=by
 have e:(l.take i).length=i:=by rw[Qc1];omega
 have:=Qw f (l.getD i default) (l.drop (i+1)) (l.take i);rw[e,<-drop_cons h,Qd5] at this;exact this
theorem FK {α:Type} (f g:α->α):∀ (l:List α) (i:Nat),(l.modify i f).modify i g=l.modify i fun z=>g (f z)
 | [],0=>rfl
 | [],_+1=>rfl
 | _::_,0=>rfl
 | a::l,i+1=>Qg8 (List.cons a) (FK f g l i)
theorem IW {p:SPage} {k:Int} (h0:0<=k) (h:k<p.bd.length):slotRequest p k=reqOf p (p.bd.getD k.toNat default):=by unfold slotRequest;rw[Qa2 ⟨h0,h⟩];rfl
theorem Aca {p:SPage} {k:Int} {x:SResponse} (h0:0<=k) (h:k<p.bd.length) (hd:(p.bd.getD k.toNat default).done=false):(((p.bd.modify k.toNat fun z=>(⟨z.mode,z.to,z.digest,z.node,true,z.code,z.body⟩:SSlot)).modify k.toNat fun z=>(⟨z.mode,z.to,z.digest,z.node,z.done,checkResponse p.bi (slotRequest p k) x,z.body⟩:SSlot)).modify k.toNat fun z=>(⟨z.mode,z.to,z.digest,z.node,z.done,z.code,(usable p.bi (slotRequest p k) x).1⟩:SSlot))=p.bd.modify k.toNat (fillS p x):=by
 have hi:k.toNat<p.bd.length:=by omega
 rw[FK,FK,ET _ hi,ET _ hi,IW h0 h];unfold fillS;rw[Qa3 (by rw[hd];decide)]
theorem MD {p:SPage} {k:Int} {x:SResponse} (h0:0<=k) (h:k<p.bd.length) (hd:(p.bd.getD k.toNat default).done=true):fillSlot p k x=p:=by
 have hi:k.toNat<p.bd.length:=by omega
 have e:p.bd.modify k.toNat (fillS p x)=p.bd:=by rw[ET _ hi];unfold fillS;rw[Qa2 hd,<-drop_cons hi,Qd5]
 unfold fillSlot;rw[Qa2 ⟨h0,h⟩,e]
def Ak9:=Akb.a CQ<|Fct.o (KP [1,3,5,6,7,8] [25]) Akb.2 func253 (by
 rintro⟨(p:SPage),(k:Int),(x:SResponse),_⟩ hp;refine ho (.cl fCopyPage (p,()) fun z2=>let q0_:Out:=.lf CQ (z2.1,());.cl fInRange (k,(0:Int),wr ((p.bd.length:Int)-(1:Int)),()) fun z3=>.br (!z3.1) q0_ (.ob (inB k p.bd.length)<|.br ((p.bd.getD (Int.toNat k) default).done) q0_ (.cl Aq (p,k,()) fun z4=>.ob (inB k z2.1.bd.length)<|.ob (Int.toNat k<z2.1.bd.length)<|.lt (List SSlot) (z2.1.bd.modify (Int.toNat k) fun z=>({z with done:=true}:SSlot)) fun z5=>.cl fCheckResponse (p.bi,z4.1,x,()) fun(z6:Int×PUnit)=>.ob (inB k z5.length)<|.ob (Int.toNat k<z5.length)<|.lt (List SSlot) (z5.modify (Int.toNat k) fun z=>({z with code:=z6.1}:SSlot)) fun z7=>.cl AZ (p.bi,z4.1,x,()) fun z8=>.ob (inB k z7.length)<|.ob (Int.toNat k<z7.length)<|.lt (List SSlot) (z7.modify (Int.toNat k) fun z=>({z with body:=z8.1}:SSlot)) fun z9=>.lf CQ ({z2.1 with bd:=z9},())))) ?_;refine Ae ?_ fun o1=>(Ae trivial fun _=>(Ab (fun h2=>lfY ?_) (fun h2=>Aa ?_ fun o3=>Ab (fun h4=>lfY ?_) (fun h4=>Ae ?_ fun o5=>(Aa ?_ fun o6=>Aa ?_ fun o7=>Dh (Ae ?_ fun o8=>(Aa ?_ fun o9=>Aa ?_ fun o10=>Dh (Ae ?_ fun o11=>(Aa ?_ fun o12=>Aa ?_ fun o13=>Dh (lfY ?_))))))))))
 all_goals obtain⟨q1,q2,q3,q4,q5,q6,q7⟩:=(show szPage p<=1000000000000/\p.addr.host.size<=4000000000/\(∀ i,i<p.bd.length->AI (p.bd.getD i default)<=50000000000)/\-9223372036854775808<=k/\k<=9223372036854775807/\x.bi.size<=200000000/\x.body.size<=1000000000 from hp)
 all_goals
  have hl:p.bd.length<=1000000000000:=by have:=Ad AI p.bd;simp only[szPage] at q1;omega
  have hpo:szPolicy p.bi<=1000000000000:=by simp only[szPage] at q1;omega
  try simp only[AA] at *
  try simp only[fCheckResponse,fCopyPage,CQ,fInRange,Aq,AZ,std,Nat.reduceAdd,fCopyPage,fInRange,inRange,Aq,fCheckResponse,AZ] at *
  try rw[Ah (by omega)] at h2
  try simp only[Qa1,Qe4,Qa7,Qb0] at h2
 all_goals first|trivial|omega|(unfold fillSlot;rw[Qa3 (by omega)])|exact(MD (by omega) (by omega) (by assumption)).symm|(simp only[List.length_modify];omega)|skip
 all_goals first|(rw[IW (by omega) (by omega)];have:=q3 k.toNat (by omega);simp only[AI] at this;exact⟨by omega,by simp only[szRequest,reqOf];simp only[szAddr] at *;omega,q6,q7⟩)|(unfold fillSlot;rw[Qa2 (by omega),<-Aca (by omega) (by omega) (by assumption)]))
def Aih:=Ak9.a CQ<|Fct.o (KP [1,3,5,6,7,8] [27]) Ak9.2 func214 (by
 rintro⟨(p:SPage),(k:Int),(x:SResponse),_⟩ hp;refine ho (.cl fCopyPage (p,()) fun z2=>let q0_:Out:=.lf CQ (z2.1,());.br (decide (k<0)) q0_ (.br (decide (k>=(p.bd.length:Int))) q0_ (.ob (inB k p.bd.length)<|.br ((p.bd.getD (Int.toNat k) default).done) q0_ (.cl Aq (p,k,()) fun z3=>.ob (inB k z2.1.bd.length)<|.ob (Int.toNat k<z2.1.bd.length)<|.lt (List SSlot) (z2.1.bd.modify (Int.toNat k) fun z=>({z with done:=true}:SSlot)) fun z4=>.cl fCheckResponse (p.bi,z3.1,x,()) fun(z5:Int×PUnit)=>.ob (inB k z4.length)<|.ob (Int.toNat k<z4.length)<|.lt (List SSlot) (z4.modify (Int.toNat k) fun z=>({z with code:=z5.1}:SSlot)) fun z6=>.cl AZ (p.bi,z3.1,x,()) fun z7=>.ob (inB k z6.length)<|.ob (Int.toNat k<z6.length)<|.lt (List SSlot) (z6.modify (Int.toNat k) fun z=>({z with body:=z7.1}:SSlot)) fun z8=>.lf CQ ({z2.1 with bd:=z8},()))))) ?_;refine Ae ?_ fun o1=>(Ab (fun h2=>lfY ?_) (fun h2=>Ab (fun h3=>lfY ?_) (fun h3=>Aa ?_ fun o4=>Ab (fun h5=>lfY ?_) (fun h5=>Ae ?_ fun o6=>(Aa ?_ fun o7=>Aa ?_ fun o8=>Dh (Ae ?_ fun o9=>(Aa ?_ fun o10=>Aa ?_ fun o11=>Dh (Ae ?_ fun o12=>(Aa ?_ fun o13=>Aa ?_ fun o14=>Dh (lfY ?_))))))))))
 all_goals obtain⟨q1,q2,q3,q4,q5,q6,q7⟩:=(show szPage p<=1000000000000/\p.addr.host.size<=4000000000/\(∀ i,i<p.bd.length->AI (p.bd.getD i default)<=50000000000)/\-9223372036854775808<=k/\k<=9223372036854775807/\x.bi.size<=200000000/\x.body.size<=1000000000 from hp)
 all_goals
  have hl:p.bd.length<=1000000000000:=by have:=Ad AI p.bd;simp only[szPage] at q1;omega
  have hpo:szPolicy p.bi<=1000000000000:=by simp only[szPage] at q1;omega
  try simp only[AA] at *
  try simp only[fCheckResponse,fCopyPage,CQ,Aq,AZ,std,Nat.reduceAdd,fCopyPage,fInRange,inRange,Aq,fCheckResponse,AZ] at *
  try rw[Ah (by omega)] at h2
  try simp only[Qa1,Qe4,Qa7,Qb0] at h2
 all_goals first|trivial|omega|(unfold fillSlot;rw[Qa3 (by omega)])|exact(MD (by omega) (by omega) (by assumption)).symm|(simp only[List.length_modify];omega)|skip
 all_goals first|(rw[IW (by omega) (by omega)];have:=q3 k.toNat (by omega);simp only[AI] at this;exact⟨by omega,by simp only[szRequest,reqOf];simp only[szAddr] at *;omega,q6,q7⟩)|(unfold fillSlot;rw[Qa2 (by omega),<-Aca (by omega) (by omega) (by assumption)]))
def fillF (p:SPage) (a:SAddr) (x:SResponse) (s:SSlot):SSlot:=if s.to=a then fillS p x s else s
def fillTo (p:SPage) (a:SAddr) (x:SResponse) (i:Nat):SPage:={ p with bd:=(p.bd.take i).map (fillF p a x)++p.bd.drop i }
def fillAll (p:SPage) (a:SAddr) (x:SResponse):SPage:={ p with bd:=p.bd.map (fillF p a x)}
def und1 (s:SSlot):Nat:=if s.done=true then 0 else 1
theorem Sr (p:SPage) (a:SAddr) (x:SResponse) (s:SSlot):AI (fillF p a x s)+400*und1 (fillF p a x s)<=AI s+400*und1 s/\(fillF p a x s).body.size<=s.body.size+400/\(s.body.size<=2000000->(fillF p a x s).body.size<=2000000):=by
 unfold fillF;split
 ·unfold fillS;split
  ·exact⟨Qa8 _,by omega,id⟩
  ·rename_i h;have hu:=Ie p.bi (reqOf p s) x;refine⟨?_,by dsimp only;omega,fun _=>by dsimp only;omega⟩;unfold und1 AI;dsimp only;rw[Qa2 rfl,Qa3 h];omega
 ·exact⟨Qa8 _,by omega,id⟩
theorem Se (p:SPage) (a:SAddr) (x:SResponse):∀ l:List SSlot,szL AI (l.map (fillF p a x))+400*undS (l.map (fillF p a x))<=szL AI l+400*undS l
 | []=>Qa8 _
 | s::l=>by have h:=Se p a x l;have h1:=(Sr p a x s).1;rw[Qc8,Ax,Ax,undS,undS];unfold und1 at h1;omega
theorem Aes (l:List SSlot) (i:Nat):undS (l.take i)+undS (l.drop i)=undS l:=by rw[<-JQ,Qd5]
theorem Lj {p:SPage} {Q M R:Nat} (h:okAll p Q M R) (a:SAddr) (x:SResponse) (i:Nat):okAll (fillTo p a x i) Q M R:=by
 obtain⟨h1,h2,⟨h3,h4⟩,h5,h6,h7⟩:=h;refine⟨h1,h2,⟨?_,fun s hs=>?_⟩,h5,h6,h7⟩
 ·unfold slotP at *
  have e1:=XM AI p.bd i;have e2:=Aes p.bd i;have e3:=Se p a x (p.bd.take i);have e4:((p.bd.take i).map (fillF p a x)++p.bd.drop i).length=p.bd.length:=by rw[Qa4,Qf6,<-Qa4,Qd5]
  show szL AI ((p.bd.take i).map (fillF p a x)++p.bd.drop i)+400*undS ((p.bd.take i).map (fillF p a x)++p.bd.drop i)+500000800*(20-((p.bd.take i).map (fillF p a x)++p.bd.drop i).length)<=_;rw[CV,JQ,e4];omega
 ·rcases Qc0.1 hs with q|q
  ·obtain⟨s0,q0,rfl⟩:=Qg7.1 q;exact(Sr p a x s0).2.2 (h4 s0 (List.mem_of_mem_take q0))
  ·exact h4 s (List.mem_of_mem_drop q)
theorem SQ (p:SPage) (a:SAddr) (x:SResponse):fillTo p a x 0=p:=rfl
theorem Hi {p:SPage} {a:SAddr} {x:SResponse} {i:Nat} (h:p.bd.length<=i):fillTo p a x i=fillAll p a x:=by
 unfold fillTo fillAll;rw[Qb3 h,Qb6 h,Qd8]
theorem Ud (p:SPage) (a:SAddr) (x:SResponse) (i:Nat):(fillTo p a x i).bd.length=p.bd.length:=by
 show((p.bd.take i).map (fillF p a x)++p.bd.drop i).length=_;rw[Qa4,Qf6,<-Qa4,Qd5]
theorem Kn {p:SPage} {a:SAddr} {x:SResponse} {i:Nat} (h:i<p.bd.length):fillTo p a x (i+1)={ p with bd:=(p.bd.take i).map (fillF p a x)++fillF p a x (p.bd.getD i default)::p.bd.drop (i+1)}:=by
 unfold fillTo;rw[take_succ h,List.map_append,Qb7];rfl
theorem K0 {p:SPage} {a:SAddr} {x:SResponse} {i:Nat} (h:i<p.bd.length) (hs:¬ (p.bd.getD i default).to=a\/(p.bd.getD i default).done=true):fillTo p a x (i+1)=fillTo p a x i:=by
 have e:fillF p a x (p.bd.getD i default)=p.bd.getD i default:=by
  unfold fillF;rcases hs with hs|hs
  ·rw[Qa3 hs]
  ·split
   ·unfold fillS;rw[Qa2 hs]
   ·rfl
 rw[Kn h,e,<-drop_cons h];rfl
theorem Yp {p:SPage} {a:SAddr} {x:SResponse} {i:Nat} (h:i<p.bd.length) (hs:(p.bd.getD i default).to=a):fillSlot (fillTo p a x i) (i:Int) x=fillTo p a x (i+1):=by
 unfold fillSlot;rw[Ud,Qa2 (by omega),Kn h];have e:fillF p a x (p.bd.getD i default)=fillS p x (p.bd.getD i default):=by unfold fillF;rw[Qa2 hs]
 have el:((p.bd.take i).map (fillF p a x)).length=i:=by rw[Qf6,Qc1];omega
 show({ p with bd:=((p.bd.take i).map (fillF p a x)++p.bd.drop i).modify (i:Int).toNat (fillS p x)}:SPage)=_;have:=Qw (fillS p x) (p.bd.getD i default) (p.bd.drop (i+1)) ((p.bd.take i).map (fillF p a x));rw[el] at this;rw[drop_cons h,Qg6,this,e]
theorem Ds {p:SPage} (h:okAdv p):szPage p<=1000000000000/\szPolicy p.bi+szAddr p.addr<=4000000/\p.bd.length<=100000000000/\(∀ i,i<p.bd.length->AI (p.bd.getD i default)<=50000000000)/\p.bg.length<=60000000000/\okMb p:=by
 obtain⟨Q,M,R,h1,h2,h3,h4⟩:=h;have hz:=Aav h1 (by omega) h3 h4;have hs:szL AI p.bd<=13000000000:=by have:=h1.2.2.1.1;unfold slotP at this;omega
 have hm:szL Ar p.bg<=50000000000:=by have:=h1.2.2.2.1.2.1;unfold modP at this;omega
 have l1:=Ad AI p.bd;have l2:=Ad Ar p.bg;refine⟨hz,h1.2.2.2.2.2.1,by omega,fun i hi=>?_,by omega,fun i hi=>?_⟩
 ·have:=DO AI hi;omega
 ·have:=h1.2.2.2.1.2.2.2 _ (Br hi);omega
theorem Mn {p:SPage} (h:okAdv p) (a:SAddr) (x:SResponse) (i:Nat):okAdv (fillTo p a x i):=by
 obtain⟨Q,M,R,h1,h2⟩:=h;exact⟨Q,M,R,Lj h1 a x i,h2⟩
theorem MI {p:SPage} {a:SAddr} {x:SResponse} {k:Int} (h0:0<=k) (h:k<p.bd.length) (hs:(p.bd.getD k.toNat default).to=a):fillSlot (fillTo p a x k.toNat) k x=fillTo p a x (k.toNat+1):=by
 obtain⟨i,rfl⟩:∃ i:Nat,k=i:=⟨k.toNat,by omega⟩;exact Yp (by omega) hs
def ED:Fct:=⟨[.v (.el .page),.v (.el .addr),.v (.el .bc)],[.el .page],fun(x_:SPage×SAddr×SResponse×Unit)=>okAdv x_.1/\x_.2.2.1.bi.size<=200000000/\x_.2.2.1.body.size<=1000000000,fun(x_:SPage×SAddr×SResponse×Unit)=>(fillAll x_.1 x_.2.1 x_.2.2.1,())⟩
abbrev C8 (p:SPage) (a:SAddr) (x:SResponse):LInv:=⟨[⟨.b,7,true,.el .page⟩,⟨.s,8,true,.el .int⟩,⟨.b,3,false,.el .page⟩,⟨.b,4,true,.el .addr⟩,⟨.b,5,true,.el .bc⟩,⟨.b,6,true,.el .page⟩],fun(z_ x_:SPage×Int×SPage×SAddr×SResponse×SPage×Unit)=>((((0<=x_.2.1/\x_.2.1<=p.bd.length/\x_.1=fillTo p a x x_.2.1.toNat)/\x_.2.2.1=z_.2.2.1)/\x_.2.2.2.1=z_.2.2.2.1)/\x_.2.2.2.2.1=z_.2.2.2.2.1)/\x_.2.2.2.2.2.1=z_.2.2.2.2.2.1,fun(x_:SPage×Int×SPage×SAddr×SResponse×SPage×Unit)=>p.bd.length-x_.2.1.toNat⟩
def Aji:=Aih.a ED<|Fct.p (KP [3,4,5,6,7,8] [15,34]) (fun⟨p,a,x,_⟩=>lv [(3,C8 p a x)]) Aih.2 func165 (by
 rintro⟨(p:SPage),(a:SAddr),(x:SResponse),_⟩ hp;refine ho (.cl fCopyPage (p,()) fun z2=>lpx (C8 p a x) (z2.1,((0:Int),(p,(a,(x,(default,())))))) fun(y2:SPage×Int×SPage×SAddr×SResponse×SPage×PUnit) bk2=>let q2_:=inB y2.2.1 y2.2.2.1.bd.length;let q1_:=y2.2.2.1.bd.getD y2.2.1.toNat default;let q0_:Out:=.ob (bk2 (y2.1,(w1 y2.2.1,(y2.2.2.1,(y2.2.2.2.1,(y2.2.2.2.2.1,(y2.2.2.2.2.2.1,())))))))<|.ok;.br (decide (y2.2.1<(y2.2.2.1.bd.length:Int))) (.ob q2_<|.br (!q1_.done) (.ob q2_<|.br (q1_.to.host==y2.2.2.2.1.host&&(q1_.to.path==y2.2.2.2.1.path&&true)) (.cl CQ (y2.1,y2.2.1,y2.2.2.2.2.1,()) fun z3=>.ob (bk2 (z3.1,(w1 y2.2.1,(y2.2.2.1,(y2.2.2.2.1,(y2.2.2.2.2.1,(y2.2.2.2.2.2.1,())))))))<|.ok) q0_) q0_) (.lf ED (y2.1,()))) ?_;refine Ae ?_ fun o1=>(Aw ?_ fun(y2:SPage×Int×SPage×SAddr×SResponse×SPage×PUnit) i2=>Ab (fun h3=>Aa ?_ fun o4=>Ab (fun h5=>Aa ?_ fun o6=>Ab (fun h7=>Ae ?_ fun o8=>(Aa ?_ fun o9=>trivial)) (fun h7=>Aa ?_ fun o10=>trivial)) (fun h5=>Aa ?_ fun o11=>trivial)) (fun h3=>lfY ?_))
 all_goals obtain⟨q1,q2,q3⟩:=(show okAdv p/\x.bi.size<=200000000/\x.body.size<=1000000000 from hp)
 all_goals
  have hok:=Ds q1;try simp only[AA] at *
  try simp only[C8,fCopyPage,ED,CQ,std,Nat.reduceAdd,fCopyPage,CQ] at *
 all_goals first|trivial|omega|exact⟨by omega,by omega,(SQ p a x).symm⟩|skip
 all_goals (obtain⟨⟨⟨⟨⟨a1,a2,a3⟩,e1⟩,e2⟩,e3⟩,e4⟩:=i2;simp only[a3,e1,e2,e3,Dk,Qa7,Qb0] at *)
 all_goals first|trivial|omega|(rw[Hi (by omega)])|skip
 all_goals
  have hk:=Ds (Mn q1 a x y2.2.1.toNat);have hh:(fillTo p a x y2.2.1.toNat).addr.host.size<=4000000:=by have:=hk.2.1;simp only[szAddr] at this;omega
 all_goals first|exact⟨hk.1,by omega,hk.2.2.2.1,by omega,by omega,q2,q3⟩|skip
 all_goals rw[Ah (by omega),show(y2.2.1+1).toNat=y2.2.1.toNat+1 by omega]
 all_goals first|(rw[MI a1 (by omega) (by assumption)];exact⟨⟨⟨⟨⟨⟨by omega,by omega,rfl⟩,by trivial⟩,by trivial⟩,by trivial⟩,e4⟩,by omega⟩)|(rw[K0 (by omega) (by first|exact .inl (by assumption)|exact .inr (by assumption))];exact⟨⟨⟨⟨⟨⟨by omega,by omega,rfl⟩,by trivial⟩,by trivial⟩,by trivial⟩,e4⟩,by omega⟩)|skip)
abbrev CX (p:SPage) (a:SAddr) (x:SResponse):LInv:=⟨[⟨.b,7,true,.el .page⟩,⟨.s,14,true,.el .int⟩,⟨.b,3,false,.el .page⟩,⟨.b,4,true,.el .addr⟩,⟨.b,5,true,.el .bc⟩,⟨.b,6,true,.el .page⟩],fun(z_ x_:SPage×Int×SPage×SAddr×SResponse×SPage×Unit)=>((((0<=x_.2.1/\x_.2.1<=p.bd.length/\x_.1=fillTo p a x x_.2.1.toNat)/\x_.2.2.1=z_.2.2.1)/\x_.2.2.2.1=z_.2.2.2.1)/\x_.2.2.2.2.1=z_.2.2.2.2.1)/\x_.2.2.2.2.2.1=z_.2.2.2.2.2.1,fun(x_:SPage×Int×SPage×SAddr×SResponse×SPage×Unit)=>p.bd.length-x_.2.1.toNat⟩
def Amw:=Aji.a ED<|Fct.p (KP [3,4,5,6,7,8,13,14] [15,24]) (fun⟨p,a,x,_⟩=>lv [(3,CX p a x)]) Aji.2 func114 (by
 rintro⟨(p:SPage),(a:SAddr),(x:SResponse),_⟩ hp;refine ho (let q1_:=(p.bd.length:Int);let q0_:=Value.int IntKind.i64 q1_=Value.int IntKind.i64 q1_;.cl fCopyPage (p,()) fun z2=>lpx (CX p a x) (z2.1,((0:Int),(p,(a,(x,(default,())))))) fun(y2:SPage×Int×SPage×SAddr×SResponse×SPage×PUnit) bk2=>let q2_:=y2.2.2.1.bd.getD y2.2.1.toNat default;.br (decide (y2.2.1<q1_)) (.ob (inB y2.2.1 y2.2.2.1.bd.length)<|.br (q2_.to.host==y2.2.2.2.1.host&&(q2_.to.path==y2.2.2.2.1.path&&true)) (.cl CQ (y2.1,y2.2.1,y2.2.2.2.2.1,()) fun z3=>.ob q0_<|.ob (bk2 (z3.1,(w1 y2.2.1,(y2.2.2.1,(y2.2.2.2.1,(y2.2.2.2.2.1,(y2.2.2.2.2.2.1,())))))))<|.ok) (.ob q0_<|.ob (bk2 (y2.1,(w1 y2.2.1,(y2.2.2.1,(y2.2.2.2.1,(y2.2.2.2.2.1,(y2.2.2.2.2.2.1,())))))))<|.ok)) (.lf ED (y2.1,()))) ?_;refine Ae ?_ fun o1=>(Aw ?_ fun(y2:SPage×Int×SPage×SAddr×SResponse×SPage×PUnit) i2=>Ab (fun h3=>Aa ?_ fun o4=>Ab (fun h5=>Ae ?_ fun o6=>(Aa rfl fun _=>Aa ?_ fun o7=>trivial)) (fun h5=>Aa rfl fun _=>Aa ?_ fun o8=>trivial)) (fun h3=>lfY ?_))
 all_goals obtain⟨q1,q2,q3⟩:=(show okAdv p/\x.bi.size<=200000000/\x.body.size<=1000000000 from hp)
 all_goals
  have hok:=Ds q1;try simp only[AA] at *
  try simp only[CX,fCopyPage,ED,CQ,std,Nat.reduceAdd,fCopyPage,CQ] at *
 all_goals first|trivial|omega|exact⟨by omega,by omega,(SQ p a x).symm⟩|skip
 all_goals (obtain⟨⟨⟨⟨⟨a1,a2,a3⟩,e1⟩,e2⟩,e3⟩,e4⟩:=i2;simp only[a3,e1,e2,e3,Dk,Qa7,Qb0] at *)
 all_goals first|trivial|omega|(rw[Hi (by omega)])|skip
 all_goals
  have hk:=Ds (Mn q1 a x y2.2.1.toNat);have hh:(fillTo p a x y2.2.1.toNat).addr.host.size<=4000000:=by have:=hk.2.1;simp only[szAddr] at this;omega
 all_goals first|exact⟨hk.1,by omega,hk.2.2.2.1,by omega,by omega,q2,q3⟩|skip
 all_goals rw[Ah (by omega),show(y2.2.1+1).toNat=y2.2.1.toNat+1 by omega]
 all_goals first|(rw[MI a1 (by omega) (by assumption)];exact⟨⟨⟨⟨⟨⟨by omega,by omega,rfl⟩,by trivial⟩,by trivial⟩,by trivial⟩,e4⟩,by omega⟩)|(rw[K0 (by omega) (by first|exact .inl (by assumption)|exact .inr (by assumption))];exact⟨⟨⟨⟨⟨⟨by omega,by omega,rfl⟩,by trivial⟩,by trivial⟩,by trivial⟩,e4⟩,by omega⟩)|skip)
def fillM (p:SPage) (x:SResponse) (m:SModule):SModule:={ m with done:=true,code:=checkResponse p.bi ⟨5,m.to,p.addr.host,⟨#[]⟩⟩ x,body:=(usable p.bi ⟨5,m.to,p.addr.host,⟨#[]⟩⟩ x).1 }
def fillM0 (p:SPage) (a:SAddr) (x:SResponse):SPage:={ p with bg:=p.bg.modify (findMod p.bg a).toNat (fillM p x)}
def fillModule (p:SPage) (a:SAddr) (x:SResponse):SPage:=if findMod p.bg a<0\/(p.bg.getD (findMod p.bg a).toNat default).done=true then p else(imports (fillM0 p a x) a).1.foldl askModule (fillM0 p a x)
theorem K2 {p:SPage} {Q M R:Nat} (h:okAll p Q M R) (a:SAddr) (x:SResponse) (h0:0<=findMod p.bg a) (hd:(p.bg.getD (findMod p.bg a).toNat default).done=false):okAll (fillM0 p a x) Q M R:=by
 have hf:=BH p.bg a;have hi:(findMod p.bg a).toNat<p.bg.length:=by omega
 obtain⟨h1,h2,h3,⟨h4,h5,h6,h7⟩,h8⟩:=h;have hu:=Ie p.bi ⟨5,(p.bg.getD (findMod p.bg a).toNat default).to,p.addr.host,⟨#[]⟩⟩ x;have e:=ET (fillM p x) hi;have t1:=XM Ar p.bg (findMod p.bg a).toNat;have t2:=VH p.bg (findMod p.bg a).toNat;have t3:=Ab7 p.ran p.bg (findMod p.bg a).toNat;rw[drop_cons hi] at t1 t2 t3;rw[Ax] at t1;rw[undM,hd,Qa3 (by decide)] at t2;rw[nrL] at t3;refine⟨h1,h2,h3,⟨h4,?_,?_,fun m hm=>?_⟩,h8⟩
 ·unfold modP at *
  show szL Ar (p.bg.modify (findMod p.bg a).toNat (fillM p x))+500*undM (p.bg.modify (findMod p.bg a).toNat (fillM p x))+600*(20-p.bf.length)<=M;rw[e,CV,Ax,JL,undM];have e1:Ar (fillM p x (p.bg.getD (findMod p.bg a).toNat default))<=Ar (p.bg.getD (findMod p.bg a).toNat default)+400:=by unfold Ar fillM;dsimp only;omega
  have e2:(fillM p x (p.bg.getD (findMod p.bg a).toNat default)).done=true:=rfl;rw[Qa2 e2];omega
 ·unfold ranP at *
  show szL szAddr p.ran+nrL p.ran (p.bg.modify (findMod p.bg a).toNat (fillM p x))+100*(20-p.bf.length)<=R;rw[e,Ns,nrL];have e3:(fillM p x (p.bg.getD (findMod p.bg a).toNat default)).to=(p.bg.getD (findMod p.bg a).toNat default).to:=rfl;rw[e3];omega
 ·have hm:m∈p.bg.modify (findMod p.bg a).toNat (fillM p x):=hm;rw[e] at hm;rcases Qc0.1 hm with q|q
  ·exact h7 m (List.mem_of_mem_take q)
  ·rcases Qd3.1 q with q|q
   ·rw[q];exact Qe7 hu (by decide)
   ·exact h7 m (List.mem_of_mem_drop q)
theorem Acs {p:SPage} {Q M R:Nat} (h:okAll p Q M R) {b:SAddr} (hb:b.host.size<=8/\b.path.size<=8):okAll (askModule p b) Q (M+600) (R+20):=by
 obtain⟨h1,h2,h3,⟨h4,h5,h6,h7⟩,h8⟩:=h;obtain⟨a1,a2,a3,a4,a5⟩:=AcB p b;have hs:szAddr b<=16:=by unfold szAddr;omega
 rw[a5];refine⟨h1,h2,h3,⟨h4,?_,?_,fun m hm=>?_⟩,h8⟩
 ·unfold modP at *;dsimp only;omega
 ·unfold ranP at *;dsimp only;omega
 ·rcases a4 m hm with q|q
  ·exact h7 m q
  ·omega
theorem R4 {Q:Nat}:∀ (l:List SAddr) (p:SPage) (M R:Nat),okAll p Q M R->(∀ b,b∈l->b.host.size<=8/\b.path.size<=8)->okAll (l.foldl askModule p) Q (M+600*l.length) (R+20*l.length)
 | [],p,M,R,h,_=>h
 | b::l,p,M,R,h,hb=>by
  have:=R4 l (askModule p b) (M+600) (R+20) (Acs h (hb b Qf3)) fun c hc=>hb c (Qd9 _ hc)
  rw[List.foldl_cons,Qa6];rw[show M+600*(l.length+1)=M+600+600*l.length by omega,show R+20*(l.length+1)=R+20+20*l.length by omega];exact this
theorem F2 (p:SPage) (a:SAddr) (x:SResponse) (h0:0<=findMod p.bg a):findMod (fillM0 p a x).bg a=findMod p.bg a/\(fillM0 p a x).bg.getD (findMod p.bg a).toNat default=fillM p x (p.bg.getD (findMod p.bg a).toNat default):=by
 have hf:=BH p.bg a;have hi:(findMod p.bg a).toNat<p.bg.length:=by omega
 have gen:∀ (l:List SModule) (k:Int) (i:Nat) (f:SModule->SModule),(∀ m,(f m).to=m.to)->fidx (fun m:SModule=>decide (m.to=a)) (l.modify i f) k=fidx (fun m:SModule=>decide (m.to=a)) l k:=by
  intro l
  induction l with
  | nil=>intro k i f hf;cases i<;>rfl
  | cons m l ih=>
   intro k i f hf;cases i with
   | zero=>
    show fidx _ (f m::l) k=_;rw[fidx,fidx,hf m]
   | succ i=>
    show fidx _ (m::l.modify i f) k=_;rw[fidx,fidx,ih (k+1) i f hf]
 refine⟨gen p.bg 0 _ _ fun _=>rfl,?_⟩;show(p.bg.modify (findMod p.bg a).toNat (fillM p x)).getD (findMod p.bg a).toNat default=_;rw[ET _ hi];have e:(p.bg.take (findMod p.bg a).toNat).length=(findMod p.bg a).toNat:=by rw[Qc1];omega
 rw[Qb1,Qa9 (by omega),e,Nat.sub_self];rfl
theorem K7 {p:SPage} {a:SAddr} {x:SResponse} (h0:0<=findMod p.bg a):(∀ b,b∈(imports (fillM0 p a x) a).1->b.host.size<=8/\b.path.size<=8)/\(imports (fillM0 p a x) a).1.length<=400:=by
 obtain⟨h1,h2⟩:=DX (fillM0 p a x) a;refine⟨h1,?_⟩;obtain⟨f1,f2⟩:=F2 p a x h0;rw[f1,f2] at h2;have hu:=Ie p.bi ⟨5,(p.bg.getD (findMod p.bg a).toNat default).to,p.addr.host,⟨#[]⟩⟩ x;rcases h2 with h2|⟨_,h2⟩
 ·rw[h2];exact Nat.zero_le _
 ·exact Qe7 h2 hu
theorem NR {p:SPage} {Q M R:Nat} (h:okAll p Q M R) (a:SAddr) (x:SResponse):okAll (fillModule p a x) Q (M+240000) (R+8000):=by
 have mono:∀ {q:SPage} {M' R':Nat},okAll q Q M' R'->M'<=M+240000->R'<=R+8000->okAll q Q (M+240000) (R+8000):=fun h hM hR=>by obtain⟨h1,h2,h3,⟨h4,h5,h6,h7⟩,h8⟩:=h;exact⟨h1,h2,h3,⟨h4,by omega,by omega,h7⟩,h8⟩
 unfold fillModule;split
 ·exact mono h (by omega) (by omega)
 ·rename_i hc;have h0:0<=findMod p.bg a:=by omega
  have hd:(p.bg.getD (findMod p.bg a).toNat default).done=false:=by
   cases hq:(p.bg.getD (findMod p.bg a).toNat default).done with
   | false=>rfl
   | true=>exact absurd (.inr hq) hc
  obtain⟨i1,i2⟩:=K7 (x:=x) h0;exact mono (R4 _ _ M R (K2 h a x h0 hd) i1) (by omega) (by omega)
def fmInv (p:SPage) (a:SAddr) (x:SResponse) (q:SPage) (i:Int):Prop:=0<=i/\i<=(imports (fillM0 p a x) a).1.length/\((imports (fillM0 p a x) a).1.drop i.toNat).foldl askModule q=(imports (fillM0 p a x) a).1.foldl askModule (fillM0 p a x)/\∃ Q M R,okAll q Q (M+600*i.toNat) (R+20*i.toNat)/\Q<=899000000000/\M<=49000000000/\R<=19000000000
def okFM (p:SPage):Prop:=∃ Q M R,okAll p Q M R/\Q<=899000000000/\M<=49000000000/\R<=19000000000
theorem Ek {p:SPage} (h:okFM p):okAdv p:=by
 obtain⟨Q,M,R,h1,h2,h3,h4⟩:=h;exact⟨Q,M,R,h1,h2,by omega,by omega⟩
theorem Ix {p q:SPage} {a:SAddr} {x:SResponse} {i:Int} (h:fmInv p a x q i) (hi:(imports (fillM0 p a x) a).1.length<=400):okAdv q:=by
 obtain⟨h1,h2,_,Q,M,R,h3,h4,h5,h6⟩:=h;exact⟨Q,_,_,h3,h4,by omega,by omega⟩
theorem J0 {p:SPage} {a:SAddr} {x:SResponse} (h:okFM p) (h0:0<=findMod p.bg a) (hd:(p.bg.getD (findMod p.bg a).toNat default).done=false):fmInv p a x (fillM0 p a x) 0:=by
 obtain⟨Q,M,R,h1,h2⟩:=h;exact⟨by omega,by omega,rfl,Q,M,R,K2 h1 a x h0 hd,h2⟩
theorem Tu {p q:SPage} {a:SAddr} {x:SResponse} {i:Int} (h:fmInv p a x q i) (h0:0<=findMod p.bg a) (hi:i<(imports (fillM0 p a x) a).1.length):fmInv p a x (askModule q ((imports (fillM0 p a x) a).1.getD i.toNat default)) (i+1):=by
 obtain⟨h1,h2,h3,Q,M,R,h4,h5⟩:=h;have hb:=(K7 (x:=x) h0).1 _ (Br (show i.toNat<(imports (fillM0 p a x) a).1.length by omega));rw[drop_cons (show i.toNat<(imports (fillM0 p a x) a).1.length by omega),List.foldl_cons] at h3;refine⟨by omega,by omega,by rw[show(i+1).toNat=i.toNat+1 by omega];exact h3,Q,M,R,?_,h5⟩;have:=Acs h4 hb;rw[show(i+1).toNat=i.toNat+1 by omega,show M+600*(i.toNat+1)=M+600*i.toNat+600 by omega,show R+20*(i.toNat+1)=R+20*i.toNat+20 by omega];exact this
theorem OZ {p q:SPage} {a:SAddr} {x:SResponse} {i:Int} (h:fmInv p a x q i) (h0:0<=findMod p.bg a) (hd:(p.bg.getD (findMod p.bg a).toNat default).done=false) (hi:(imports (fillM0 p a x) a).1.length<=i):q=fillModule p a x:=by
 have e:=h.2.2.1;rw[Qb6 (by omega)] at e;unfold fillModule;rw[Qa3 (by rintro(q|q);exact absurd q (by omega);rw[hd] at q;cases q)];exact e
theorem P8 {p:SPage} {k:Int} (h0:0<=k) (h:k<p.bg.length):modRequest p k=⟨5,(p.bg.getD k.toNat default).to,p.addr.host,⟨#[]⟩⟩:=by unfold modRequest;rw[Qa2 ⟨h0,h⟩]
theorem Age {p:SPage} {a:SAddr} {x:SResponse} (h0:0<=findMod p.bg a):(((p.bg.modify (findMod p.bg a).toNat fun z=>(⟨z.to,true,z.code,z.body⟩:SModule)).modify (findMod p.bg a).toNat fun z=>(⟨z.to,z.done,checkResponse p.bi (modRequest p (findMod p.bg a)) x,z.body⟩:SModule)).modify (findMod p.bg a).toNat fun z=>(⟨z.to,z.done,z.code,(usable p.bi (modRequest p (findMod p.bg a)) x).1⟩:SModule))=(fillM0 p a x).bg:=by
 have hf:=BH p.bg a;have hi:(findMod p.bg a).toNat<p.bg.length:=by omega
 rw[FK,FK];show _=p.bg.modify (findMod p.bg a).toNat (fillM p x);rw[ET _ hi,ET _ hi,P8 h0 hf.1];rfl
theorem fmp (p:SPage) (a:SAddr) (x:SResponse):(⟨p.addr,p.bi,p.tok,p.bm,p.ended,p.ba,p.bd,(fillM0 p a x).bg,p.bf,p.block,p.inline,p.bl,p.bp,p.ran,p.log,p.loaded⟩:SPage)=fillM0 p a x:=rfl
theorem Aeh (p:SPage) (a:SAddr) (x:SResponse):(fillM0 p a x).bg.length=p.bg.length:=List.length_modify ..
theorem ON {p:SPage} (h:okAdv p) {k:Int} (h0:0<=k) (hk:k<p.bg.length):szRequest (modRequest p k)<=60000000000:=by
 obtain⟨Q,M,R,h1,h2,h3,h4⟩:=h;have hm:szL Ar p.bg<=50000000000:=by have:=h1.2.2.2.1.2.1;unfold modP at this;omega
 have:=DO Ar (l:=p.bg) (i:=k.toNat) (by omega);have ha:=h1.2.2.2.2.2.1;have hz:ByteArray.size ⟨#[]⟩=0:=rfl;rw[P8 h0 hk];simp only[Ar,szRequest,szAddr,hz] at *;omega
theorem AhL {p:SPage} {a:SAddr} {x:SResponse} (h0:0<=findMod p.bg a) (hc:((fillM0 p a x).bg.getD (findMod p.bg a).toNat default).code=1):(parseModule ((fillM0 p a x).bg.getD (findMod p.bg a).toNat default).body a.host).1=(imports (fillM0 p a x) a).1:=by
 have hF:=F2 p a x h0;have:=Jn (p:=fillM0 p a x) (a:=a) (by rw[hF.1];exact h0) (by rw[hF.1,hF.2];rfl) (by rw[hF.1];exact hc);rw[hF.1] at this;exact this
theorem AmL {p:SPage} {a:SAddr} {x:SResponse} (h0:0<=findMod p.bg a) (hd:(p.bg.getD (findMod p.bg a).toNat default).done=false) (hc:¬ ((fillM0 p a x).bg.getD (findMod p.bg a).toNat default).code=1):fillM0 p a x=fillModule p a x:=by
 have hF:=F2 p a x h0;unfold fillModule;rw[Qa3 (by rintro(q|q);exact absurd q (by omega);rw[hd] at q;cases q),IT (.inr (.inr (by rw[hF.1];exact hc)))];rfl
def Cf:Fct:=⟨[.v (.el .page),.v (.el .addr),.v (.el .bc)],[.el .page],fun(x_:SPage×SAddr×SResponse×Unit)=>okFM x_.1/\szAddr x_.2.1<=4000000000/\x_.2.2.1.bi.size<=200000000/\x_.2.2.1.body.size<=1000000000,fun(x_:SPage×SAddr×SResponse×Unit)=>(fillModule x_.1 x_.2.1 x_.2.2.1,())⟩
abbrev A6 (p:SPage) (a:SAddr) (x:SResponse):LInv:=⟨[⟨.b,7,true,.el .page⟩,⟨.s,12,true,.el .int⟩,⟨.b,6,true,.el .page⟩,⟨.s,10,true,.sl .addr⟩],fun(z_ x_:SPage×Int×SPage×(List SAddr)×Unit)=>((fmInv p a x x_.1 x_.2.1)/\x_.2.2.1=z_.2.2.1)/\x_.2.2.2.1=z_.2.2.2.1,fun(x_:SPage×Int×SPage×(List SAddr)×Unit)=>(imports (fillM0 p a x) a).1.length-x_.2.1.toNat⟩
def Aif:=Amw.a Cf<|Fct.p (KP [3,4,5,6,7,8,9,10,12] [27,69]) (fun⟨p,a,x,_⟩=>lv [(11,A6 p a x)]) Amw.2 func164 (by
 rintro⟨(p:SPage),(a:SAddr),(x:SResponse),_⟩ hp;refine ho (let q2_:=List SModule;.cl fCopyPage (p,()) fun z2=>let q1_:Out:=.lf Cf (z2.1,());.cl Ca (p,a,()) fun(z3:Int×PUnit)=>.br (decide (z3.1<0)) q1_ (.ob (inB z3.1 p.bg.length)<|.br ((p.bg.getD z3.1.toNat default).done) q1_ (.cl AD (p,z3.1,()) fun z4=>.ob (inB z3.1 z2.1.bg.length)<|.ob (z3.1.toNat<z2.1.bg.length)<|.lt q2_ (z2.1.bg.modify z3.1.toNat fun z=>({z with done:=true}:SModule)) fun z5=>.cl fCheckResponse (p.bi,z4.1,x,()) fun(z6:Int×PUnit)=>.ob (inB z3.1 z5.length)<|.ob (z3.1.toNat<z5.length)<|.lt q2_ (z5.modify z3.1.toNat fun z=>({z with code:=z6.1}:SModule)) fun z7=>.cl AZ (p.bi,z4.1,x,()) fun z8=>.ob (inB z3.1 z7.length)<|.ob (z3.1.toNat<z7.length)<|.lt q2_ (z7.modify z3.1.toNat fun z=>({z with body:=z8.1}:SModule)) fun z9=>let q0_:=({z2.1 with bg:=z9}:SPage);.cl Dr (q0_,a,()) fun z10=>lpx (A6 p a x) (q0_,((0:Int),(default,(z10.1,())))) fun(y16:SPage×Int×SPage×List SAddr×PUnit) bk16=>.br (decide (y16.2.1<(y16.2.2.2.1.length:Int))) (.ob (inB y16.2.1 y16.2.2.2.1.length)<|.ob (y16.2.1.toNat<y16.2.2.2.1.length)<|.cl AK (y16.1,y16.2.2.2.1.getD y16.2.1.toNat default,()) fun z11=>.ob (Value.int IntKind.i64 z3.1=Value.int IntKind.i64 z3.1)<|.ob (bk16 (z11.1,(w1 y16.2.1,(y16.2.2.1,(y16.2.2.2.1,())))))<|.ok) (.lf Cf (y16.1,()))))) ?_;repeat' first|(guard_target =~ Out.holds _ _;first|refine Aw (li:=A6 p a x) ?_ fun(y16:SPage×Int×SPage×List SAddr×PUnit) i16=>?_|refine lfY ?_|refine Ab (fun _=>?_) fun _=>?_|refine Ae ?_ fun _=>?_|refine Aa ?_ fun _=>?_|refine Dh ?_)|exact trivial
 all_goals obtain⟨q1,q0,q2,q3⟩:=(show okFM p/\szAddr a<=4000000000/\x.bi.size<=200000000/\x.body.size<=1000000000 from hp)
 all_goals
  have hok:=Ds (Ek q1);have hf:=BH p.bg a;try simp only[AA] at *
  try simp only[A6,AK,fCheckResponse,fCopyPage,Cf,Dr,Ca,AD,AZ,std,Nat.reduceAdd,fCopyPage,Ca,AD,fCheckResponse,AZ,Dr,AK,Ht] at *
 all_goals first|trivial|omega|skip
 all_goals first|(unfold fillModule;rw[Qa2 (by first|exact .inl (by assumption)|exact .inr (by assumption))];done)|skip
 all_goals
  have h0:0<=findMod p.bg a:=by omega
  have hd:(p.bg.getD (findMod p.bg a).toNat default).done=false:=by assumption
  have hq:=ON (Ek q1) h0 hf.1;have hI:=K7 (x:=x) h0;have hA:=Ix (J0 (x:=x) q1 h0 hd) hI.2;have hB:=Ds hA;try simp only[Age h0,fmp,Aeh,List.length_modify] at *
 all_goals first|trivial|omega|exact⟨by omega,by omega,q2,q3⟩|exact⟨by omega,hB.2.2.2.2.2,by simp only[szAddr] at q0;omega⟩|exact J0 q1 h0 hd|skip
 all_goals (obtain⟨⟨i1,e1⟩,e2⟩:=i16;simp only[e2] at *;have hi0:=i1.1;have hi1:=i1.2.1)
 all_goals first|trivial|omega|(rw[OZ i1 h0 hd (by omega)];done)|skip
 all_goals
  have hj:=Ds (Ix i1 hI.2);have hb:=hI.1 _ (Br (show y16.2.1.toNat<(imports (fillM0 p a x) a).1.length by omega))
 all_goals first|exact⟨by omega,by have h7:=hj.2.1;simp only[szAddr] at h7;omega,by simp only[szAddr];omega⟩|(rw[Ah (by omega)];exact⟨⟨⟨Tu i1 h0 (by omega),e1⟩,trivial⟩,by omega⟩)|skip)
abbrev BI (p:SPage) (a:SAddr) (x:SResponse):LInv:=⟨[⟨.b,7,true,.el .page⟩,⟨.s,84,true,.el .int⟩,⟨.b,6,true,.el .page⟩,⟨.s,82,true,.sl .addr⟩],fun(z_ x_:SPage×Int×SPage×(List SAddr)×Unit)=>((fmInv p a x x_.1 x_.2.1)/\x_.2.2.1=z_.2.2.1)/\x_.2.2.2.1=z_.2.2.2.1,fun(x_:SPage×Int×SPage×(List SAddr)×Unit)=>(imports (fillM0 p a x) a).1.length-x_.2.1.toNat⟩
def AjW:=Aif.a Cf<|Fct.p (KP [3,4,5,6,7,8,9,10,14,82,83,84] [29,68,85]) (fun⟨p,a,x,_⟩=>lv [(12,BI p a x)]) Aif.2 func113 (by
 rintro⟨(p:SPage),(a:SAddr),(x:SResponse),_⟩ hp;refine ho (let q3_:=List SModule;.cl fCopyPage (p,()) fun z2=>let q1_:Out:=.lf Cf (z2.1,());.cl Ca (p,a,()) fun(z3:Int×PUnit)=>.br (decide (z3.1<0)) q1_ (.ob (inB z3.1 p.bg.length)<|.br ((p.bg.getD z3.1.toNat default).done) q1_ (.cl AD (p,z3.1,()) fun z4=>.ob (inB z3.1 z2.1.bg.length)<|.ob (z3.1.toNat<z2.1.bg.length)<|.lt q3_ (z2.1.bg.modify z3.1.toNat fun z=>({z with done:=true}:SModule)) fun z5=>.cl fCheckResponse (p.bi,z4.1,x,()) fun(z6:Int×PUnit)=>.ob (inB z3.1 z5.length)<|.ob (z3.1.toNat<z5.length)<|.lt q3_ (z5.modify z3.1.toNat fun z=>({z with code:=z6.1}:SModule)) fun z7=>.cl AZ (p.bi,z4.1,x,()) fun z8=>.ob (inB z3.1 z7.length)<|.ob (z3.1.toNat<z7.length)<|.lt q3_ (z7.modify z3.1.toNat fun z=>({z with body:=z8.1}:SModule)) fun z9=>let q4_:=z3.1.toNat<z9.length;let q2_:=z9.getD z3.1.toNat default;.ob (inB z3.1 z9.length)<|.ob q4_<|.br (q2_.code==1) (.ob (inB z3.1 z9.length)<|.ob q4_<|.cl Av (q2_.body,a.host,()) fun z10=>let q0_:=(z10.1.length:Int);lpx (BI p a x) (({z2.1 with bg:=z9}:SPage),((0:Int),(default,(z10.1,())))) fun(y21:SPage×Int×SPage×List SAddr×PUnit) bk21=>.br (decide (y21.2.1<q0_)) (.ob (inB y21.2.1 y21.2.2.2.1.length)<|.ob (y21.2.1.toNat<y21.2.2.2.1.length)<|.cl AK (y21.1,y21.2.2.2.1.getD y21.2.1.toNat default,()) fun z11=>.ob (Value.int IntKind.i64 z3.1=Value.int IntKind.i64 z3.1)<|.ob (Value.int IntKind.i64 q0_=Value.int IntKind.i64 q0_)<|.ob (bk21 (z11.1,(w1 y21.2.1,(y21.2.2.1,(y21.2.2.2.1,())))))<|.ok) (.lf Cf (y21.1,()))) (.lf Cf ({z2.1 with bg:=z9},()))))) ?_;refine Ae ?_ fun o1=>(Ae ?_ fun o2=>(Ab (fun h3=>lfY ?_) (fun h3=>Aa ?_ fun o4=>Ab (fun h5=>lfY ?_) (fun h5=>Ae ?_ fun o6=>(Aa ?_ fun o7=>Aa ?_ fun o8=>Dh (Ae ?_ fun o9=>(Aa ?_ fun o10=>Aa ?_ fun o11=>Dh (Ae ?_ fun o12=>(Aa ?_ fun o13=>Aa ?_ fun o14=>Dh (Aa ?_ fun o15=>Aa ?_ fun o16=>Ab (fun h17=>Aa ?_ fun o18=>Aa ?_ fun o19=>Ae ?_ fun o20=>(Aw ?_ fun(y21:SPage×Int×SPage×List SAddr×PUnit) i21=>Ab (fun h22=>Aa ?_ fun o23=>Aa ?_ fun o24=>Ae ?_ fun o25=>(Aa rfl fun _=>Aa rfl fun _=>Aa ?_ fun o26=>trivial)) (fun h22=>lfY ?_))) (fun h17=>lfY ?_)))))))))))
 all_goals obtain⟨q1,q0,q2,q3⟩:=(show okFM p/\szAddr a<=4000000000/\x.bi.size<=200000000/\x.body.size<=1000000000 from hp)
 all_goals
  have hok:=Ds (Ek q1);have hf:=BH p.bg a;try simp only[AA] at *
  try simp only[BI,AK,fCheckResponse,fCopyPage,Cf,Ca,AD,Av,AZ,std,Nat.reduceAdd,fCopyPage,Ca,AD,fCheckResponse,AZ,Av,AK,Ht] at *
 all_goals first|trivial|omega|skip
 all_goals first|(unfold fillModule;rw[Qa2 (by first|exact .inl (by assumption)|exact .inr (by assumption))];done)|skip
 all_goals
  have h0:0<=findMod p.bg a:=by omega
  have hd:(p.bg.getD (findMod p.bg a).toNat default).done=false:=by assumption
  have hq:=ON (Ek q1) h0 hf.1;have hI:=K7 (x:=x) h0;have hA:=Ix (J0 (x:=x) q1 h0 hd) hI.2;have hB:=Ds hA;try simp only[Age h0,fmp,Aeh,List.length_modify] at *
 all_goals first|trivial|omega|exact⟨by omega,by omega,q2,q3⟩|exact⟨by omega,hB.2.2.2.2.2,by simp only[szAddr] at q0;omega⟩|exact J0 q1 h0 hd|skip
 all_goals first|(exact AmL h0 hd (by assumption))|(have hc:((fillM0 p a x).bg.getD (findMod p.bg a).toNat default).code=1:=by assumption)
 all_goals have hy:=AhL h0 hc
 all_goals first|exact⟨hB.2.2.2.2.2 _ (by rw[Aeh];omega),by simp only[szAddr] at q0;omega⟩|exact J0 q1 h0 hd|skip
 all_goals (obtain⟨⟨i1,e1⟩,e2⟩:=i21;simp only[e2,hy] at *;have hi0:=i1.1;have hi1:=i1.2.1)
 all_goals first|trivial|omega|(rw[OZ i1 h0 hd (by omega)];done)|skip
 all_goals
  have hj:=Ds (Ix i1 hI.2);have hb:=hI.1 _ (Br (show y21.2.1.toNat<(imports (fillM0 p a x) a).1.length by omega))
 all_goals first|exact⟨by omega,by have h7:=hj.2.1;simp only[szAddr] at h7;omega,by simp only[szAddr];omega⟩|(rw[Ah (by omega)];exact⟨⟨⟨Tu i1 h0 (by omega),e1⟩,trivial⟩,by omega⟩)|skip)
def takeAnswer (p:SPage) (a:SAddr) (x:SResponse):SPage:=advance (fillModule (fillAll p a x) a x)
theorem Oy {p:SPage} (h:okFM p) (a:SAddr) (x:SResponse):okFM (fillAll p a x):=by
 obtain⟨Q,M,R,h1,h2⟩:=h;have:=Lj h1 a x p.bd.length;rw[Hi (Qa8 _)] at this;exact⟨Q,M,R,this,h2⟩
theorem AbA {p:SPage} (h:okFM p) (a:SAddr) (x:SResponse):okAdv (fillModule p a x):=by
 obtain⟨Q,M,R,h1,h2,h3,h4⟩:=h;exact⟨Q,_,_,NR h1 a x,h2,by omega,by omega⟩
def BW:Fct:=⟨[.v (.el .page),.v (.el .addr),.v (.el .bc)],[.el .page],fun(x_:SPage×SAddr×SResponse×Unit)=>okFM x_.1/\szAddr x_.2.1<=4000000000/\x_.2.2.1.bi.size<=200000000/\x_.2.2.1.body.size<=1000000000,fun(x_:SPage×SAddr×SResponse×Unit)=>(takeAnswer x_.1 x_.2.1 x_.2.2.1,())⟩
theorem q19 (p:SPage) (a:SAddr) (x:SResponse) (hp:BW.pre (p,a,x,())):Out.holds (BW.ctr (p,a,x,())).post (.cl ED (p,a,x,()) fun z2=>.cl Cf (z2.1,a,x,()) fun z3=>.cl DG (z3.1,()) fun z4=>.lf BW (z4.1,())):=by
 refine Ae ?_ fun o1=>(Ae ?_ fun o2=>(Ae ?_ fun o3=>(lfY ?_)))
 all_goals obtain⟨q1,q0,q2,q3⟩:=(show okFM p/\szAddr a<=4000000000/\x.bi.size<=200000000/\x.body.size<=1000000000 from hp)
 all_goals
  try simp only[AA] at *
  try simp only[DG,ED,Cf,BW,std,Nat.reduceAdd,ED,Cf,DG] at *
 all_goals first|exact⟨Ek q1,q2,q3⟩|exact⟨Oy q1 a x,q0,q2,q3⟩|exact AbA (Oy q1 a x) a x|rfl|trivial
def AlA:=AjW.a BW<|Fct.o [3,4,5,6] AjW.2 func61 (by
 rintro⟨(p:SPage),(a:SAddr),(x:SResponse),_⟩ hp;exact ho _ (q19 p a x hp))
def Alw:=AlA.a BW<|Fct.o [3,4,5,6] AlA.2 func37 (by
 rintro⟨(p:SPage),(a:SAddr),(x:SResponse),_⟩ hp;exact ho _ (q19 p a x hp))
def nextNeeds (p:SPage):List SRequest:=(openSlots p).map (slotRequest p)++(openMods p).map (modRequest p)
theorem Th {p:SPage} {i:Nat} (h:i<(openSlots p).length):0<=(openSlots p).getD i default/\(openSlots p).getD i default<p.bd.length:=by
 have:=Hd (fun s:SSlot=>!s.done) p.bd 0 _ (Br h);unfold openSlots at *;omega
theorem SV {p:SPage} {i:Nat} (h:i<(openMods p).length):0<=(openMods p).getD i default/\(openMods p).getD i default<p.bg.length:=by
 have:=Hd (fun s:SModule=>!s.done) p.bg 0 _ (Br h);unfold openMods at *;omega
theorem Sy {α β:Type} [Inhabited α] (f:α->β) {l:List α} {i:Nat} (h:i<l.length):(l.drop i).map f=f (l.getD i default)::(l.drop (i+1)).map f:=by rw[drop_cons h];rfl
theorem Oj {α β:Type} (f:α->β) {l:List α} {i:Nat} (h:l.length<=i):(l.drop i).map f=[]:=by rw[Qb6 h];rfl
def CP:Fct:=⟨[.v (.el .page)],[.sl .request],fun(x_:SPage×Unit)=>x_.1.bd.length+x_.1.bg.length<=1000000000000,fun(x_:SPage×Unit)=>(nextNeeds x_.1,())⟩
abbrev Cc (p:SPage):LInv:=⟨[⟨.s,3,true,.sl .request⟩,⟨.s,5,true,.el .int⟩,⟨.b,1,false,.el .page⟩,⟨.s,4,true,.sl .int⟩],fun(z_ x_:(List SRequest)×Int×SPage×(List Int)×Unit)=>((0<=x_.2.1/\x_.2.1<=(openSlots p).length/\x_.1.length<=x_.2.1/\x_.1++((openSlots p).drop x_.2.1.toNat).map (slotRequest p)=(openSlots p).map (slotRequest p))/\x_.2.2.1=z_.2.2.1)/\x_.2.2.2.1=z_.2.2.2.1,fun(x_:(List SRequest)×Int×SPage×(List Int)×Unit)=>(openSlots p).length-x_.2.1.toNat⟩
abbrev Co (p:SPage):LInv:=⟨[⟨.s,3,true,.sl .request⟩,⟨.s,7,true,.el .int⟩,⟨.b,1,false,.el .page⟩,⟨.s,6,true,.sl .int⟩],fun(z_ x_:(List SRequest)×Int×SPage×(List Int)×Unit)=>((0<=x_.2.1/\x_.2.1<=(openMods p).length/\x_.1.length<=(openSlots p).length+x_.2.1/\x_.1++((openMods p).drop x_.2.1.toNat).map (modRequest p)=nextNeeds p)/\x_.2.2.1=z_.2.2.1)/\x_.2.2.2.1=z_.2.2.2.1,fun(x_:(List SRequest)×Int×SPage×(List Int)×Unit)=>(openMods p).length-x_.2.1.toNat⟩
def Aio:=Alw.a CP<|Fct.p (KP [1,2,3,4,5,6,7] [14,31]) (fun⟨p,_⟩=>fun|4=>some (Cc p)|9=>some (Co p)|_=>none) Alw.2 func56 (by
 rintro⟨(p:SPage),_⟩ hp;refine ho (.cl Bf (p,()) fun(z2:List Int×PUnit)=>lpx (Cc p) ([],((0:Int),(p,(z2.1,())))) fun(y2:List SRequest×Int×SPage×List Int×PUnit) bk2=>.br (decide (y2.2.1<(y2.2.2.2.1.length:Int))) (.ob (inB y2.2.1 y2.2.2.2.1.length)<|.ob (y2.2.1.toNat<y2.2.2.2.1.length)<|.cl Aq (y2.2.2.1,y2.2.2.2.1.getD y2.2.1.toNat default,()) fun z3=>.ob (True)<|.ob (BK (y2.1.length+[z3.1].length) 72)<|.ob (bk2 (y2.1++[z3.1],(w1 y2.2.1,(y2.2.2.1,(y2.2.2.2.1,())))))<|.ok) (.cl BL (y2.2.2.1,()) fun(z4:List Int×PUnit)=>lpx (Co p) (y2.1,((0:Int),(y2.2.2.1,(z4.1,())))) fun(y10:List SRequest×Int×SPage×List Int×PUnit) bk10=>.br (decide (y10.2.1<(y10.2.2.2.1.length:Int))) (.ob (inB y10.2.1 y10.2.2.2.1.length)<|.ob (y10.2.1.toNat<y10.2.2.2.1.length)<|.cl AD (y10.2.2.1,y10.2.2.2.1.getD y10.2.1.toNat default,()) fun z5=>.ob (True)<|.ob (BK (y10.1.length+[z5.1].length) 72)<|.ob (Value.int IntKind.i64 y2.2.1=Value.int IntKind.i64 y2.2.1)<|.ob (bk10 (y10.1++[z5.1],(w1 y10.2.1,(y10.2.2.1,(y10.2.2.2.1,())))))<|.ok) (.lf CP (y10.1,())))) ?_;refine Ae ?_ fun o1=>(Aw ?_ fun(y2:List SRequest×Int×SPage×List Int×PUnit) i2=>Ab (fun h3=>Aa ?_ fun o4=>Aa ?_ fun o5=>Ae ?_ fun o6=>(Aa trivial fun _=>Aa ?_ fun o7=>Aa ?_ fun o8=>trivial)) (fun h3=>Ae ?_ fun o9=>(Aw ?_ fun(y10:List SRequest×Int×SPage×List Int×PUnit) i10=>Ab (fun h11=>Aa ?_ fun o12=>Aa ?_ fun o13=>Ae ?_ fun o14=>(Aa trivial fun _=>Aa ?_ fun o15=>Aa rfl fun _=>Aa ?_ fun o16=>trivial)) (fun h11=>lfY ?_))))
 all_goals
  have hl1:(openSlots p).length<=p.bd.length:=Dn _ _ _;have hl2:(openMods p).length<=p.bg.length:=Dn _ _ _;try simp only[AA] at *
  try simp only[Cc,Co,AD,CP,BL,Bf,Aq,std,Nat.reduceAdd,Bf,BL,Aq,AD] at *
 all_goals first|trivial|omega|exact⟨by omega,by omega,by simp,rfl⟩|skip
 all_goals (obtain⟨⟨⟨a1,a2,a3,a4⟩,e1⟩,e2⟩:=i2;simp only[e1,e2] at *)
 all_goals first|trivial|omega|skip
 all_goals try (obtain⟨⟨⟨b1,b2,b3,b4⟩,f1⟩,f2⟩:=i10;simp only[f1,f2] at *)
 all_goals first|trivial|omega|skip
 all_goals first|(have ho:=SV (p:=p) (i:=y10.2.1.toNat) (by omega))|(have ho:=Th (p:=p) (i:=y2.2.1.toNat) (by omega))|skip
 all_goals first|exact⟨by omega,by omega,by omega⟩|skip
 all_goals first|(rw[Oj (modRequest p) (l:=openMods p) (i:=y10.2.1.toNat) (by omega)] at b4;rw[Qd8] at b4;exact b4)|(rw[Sy (modRequest p) (l:=openMods p) (i:=y10.2.1.toNat) (by omega)] at b4;rw[Ah (by omega),show(y10.2.1+1).toNat=y10.2.1.toNat+1 by omega];exact⟨⟨⟨⟨by omega,by omega,by simp only[Qa4,Qa6,Qb8];omega,by rw[Qb7];exact b4⟩,by trivial⟩,by trivial⟩,by omega⟩)|(rw[Sy (slotRequest p) (l:=openSlots p) (i:=y2.2.1.toNat) (by omega)] at a4;rw[Ah (by omega),show(y2.2.1+1).toNat=y2.2.1.toNat+1 by omega];exact⟨⟨⟨⟨by omega,by omega,by simp only[Qa4,Qa6,Qb8];omega,by rw[Qb7];exact a4⟩,by trivial⟩,by trivial⟩,by omega⟩)|(rw[Oj (slotRequest p) (l:=openSlots p) (i:=y2.2.1.toNat) (by omega)] at a4;rw[Qd8] at a4;exact⟨by omega,by omega,by omega,by rw[a4];rfl⟩)|skip)
abbrev Cm (p:SPage):LInv:=⟨[⟨.s,3,true,.sl .request⟩,⟨.s,12,true,.el .int⟩,⟨.b,1,false,.el .page⟩,⟨.s,10,true,.sl .int⟩],fun(z_ x_:(List SRequest)×Int×SPage×(List Int)×Unit)=>((0<=x_.2.1/\x_.2.1<=(openSlots p).length/\x_.1.length<=x_.2.1/\x_.1++((openSlots p).drop x_.2.1.toNat).map (slotRequest p)=(openSlots p).map (slotRequest p))/\x_.2.2.1=z_.2.2.1)/\x_.2.2.2.1=z_.2.2.2.1,fun(x_:(List SRequest)×Int×SPage×(List Int)×Unit)=>(openSlots p).length-x_.2.1.toNat⟩
abbrev Cl (p:SPage):LInv:=⟨[⟨.s,3,true,.sl .request⟩,⟨.s,26,true,.el .int⟩,⟨.b,1,false,.el .page⟩,⟨.s,24,true,.sl .int⟩],fun(z_ x_:(List SRequest)×Int×SPage×(List Int)×Unit)=>((0<=x_.2.1/\x_.2.1<=(openMods p).length/\x_.1.length<=(openSlots p).length+x_.2.1/\x_.1++((openMods p).drop x_.2.1.toNat).map (modRequest p)=nextNeeds p)/\x_.2.2.1=z_.2.2.1)/\x_.2.2.2.1=z_.2.2.2.1,fun(x_:(List SRequest)×Int×SPage×(List Int)×Unit)=>(openMods p).length-x_.2.1.toNat⟩
def Aly:=Aio.a CP<|Fct.p (KP [1,2,3,5,7,10,11,12,24,25,26] [13,27]) (fun⟨p,_⟩=>fun|3=>some (Cm p)|8=>some (Cl p)|_=>none) Aio.2 func35 (by
 rintro⟨(p:SPage),_⟩ hp;refine ho (.cl Bf (p,()) fun(z2:List Int×PUnit)=>let q1_:=(z2.1.length:Int);let q0_:=Value.int IntKind.i64 q1_=Value.int IntKind.i64 q1_;lpx (Cm p) ([],((0:Int),(p,(z2.1,())))) fun(y2:List SRequest×Int×SPage×List Int×PUnit) bk2=>.br (decide (y2.2.1<q1_)) (.ob (inB y2.2.1 y2.2.2.2.1.length)<|.ob (y2.2.1.toNat<y2.2.2.2.1.length)<|.cl Aq (y2.2.2.1,y2.2.2.2.1.getD y2.2.1.toNat default,()) fun z3=>.ob (True)<|.ob (BK (y2.1.length+[z3.1].length) 72)<|.ob q0_<|.ob (bk2 (y2.1++[z3.1],(w1 y2.2.1,(y2.2.2.1,(y2.2.2.2.1,())))))<|.ok) (.cl BL (y2.2.2.1,()) fun(z4:List Int×PUnit)=>let q2_:=(z4.1.length:Int);lpx (Cl p) (y2.1,((0:Int),(y2.2.2.1,(z4.1,())))) fun(y10:List SRequest×Int×SPage×List Int×PUnit) bk10=>.br (decide (y10.2.1<q2_)) (.ob (inB y10.2.1 y10.2.2.2.1.length)<|.ob (y10.2.1.toNat<y10.2.2.2.1.length)<|.cl AD (y10.2.2.1,y10.2.2.2.1.getD y10.2.1.toNat default,()) fun z5=>.ob (True)<|.ob (BK (y10.1.length+[z5.1].length) 72)<|.ob (Value.int IntKind.i64 y2.2.1=Value.int IntKind.i64 y2.2.1)<|.ob q0_<|.ob (Value.int IntKind.i64 q2_=Value.int IntKind.i64 q2_)<|.ob (bk10 (y10.1++[z5.1],(w1 y10.2.1,(y10.2.2.1,(y10.2.2.2.1,())))))<|.ok) (.lf CP (y10.1,())))) ?_;refine Ae ?_ fun o1=>(Aw ?_ fun(y2:List SRequest×Int×SPage×List Int×PUnit) i2=>Ab (fun h3=>Aa ?_ fun o4=>Aa ?_ fun o5=>Ae ?_ fun o6=>(Aa trivial fun _=>Aa ?_ fun o7=>Aa rfl fun _=>Aa ?_ fun o8=>trivial)) (fun h3=>Ae ?_ fun o9=>(Aw ?_ fun(y10:List SRequest×Int×SPage×List Int×PUnit) i10=>Ab (fun h11=>Aa ?_ fun o12=>Aa ?_ fun o13=>Ae ?_ fun o14=>(Aa trivial fun _=>Aa ?_ fun o15=>Aa rfl fun _=>Aa rfl fun _=>Aa rfl fun _=>Aa ?_ fun o16=>trivial)) (fun h11=>lfY ?_))))
 all_goals
  have hl1:(openSlots p).length<=p.bd.length:=Dn _ _ _;have hl2:(openMods p).length<=p.bg.length:=Dn _ _ _;try simp only[AA] at *
  try simp only[Cm,Cl,AD,CP,BL,Bf,Aq,std,Nat.reduceAdd,Bf,BL,Aq,AD] at *
 all_goals first|trivial|omega|exact⟨by omega,by omega,by simp,rfl⟩|skip
 all_goals (obtain⟨⟨⟨a1,a2,a3,a4⟩,e1⟩,e2⟩:=i2;simp only[e1,e2] at *)
 all_goals first|trivial|omega|skip
 all_goals try (obtain⟨⟨⟨b1,b2,b3,b4⟩,f1⟩,f2⟩:=i10;simp only[f1,f2] at *)
 all_goals first|trivial|omega|skip
 all_goals first|(have ho:=SV (p:=p) (i:=y10.2.1.toNat) (by omega))|(have ho:=Th (p:=p) (i:=y2.2.1.toNat) (by omega))|skip
 all_goals first|exact⟨by omega,by omega,by omega⟩|skip
 all_goals first|(rw[Oj (modRequest p) (l:=openMods p) (i:=y10.2.1.toNat) (by omega)] at b4;rw[Qd8] at b4;exact b4)|(rw[Sy (modRequest p) (l:=openMods p) (i:=y10.2.1.toNat) (by omega)] at b4;rw[Ah (by omega),show(y10.2.1+1).toNat=y10.2.1.toNat+1 by omega];exact⟨⟨⟨⟨by omega,by omega,by simp only[Qa4,Qa6,Qb8];omega,by rw[Qb7];exact b4⟩,by trivial⟩,by trivial⟩,by omega⟩)|(rw[Sy (slotRequest p) (l:=openSlots p) (i:=y2.2.1.toNat) (by omega)] at a4;rw[Ah (by omega),show(y2.2.1+1).toNat=y2.2.1.toNat+1 by omega];exact⟨⟨⟨⟨by omega,by omega,by simp only[Qa4,Qa6,Qb8];omega,by rw[Qb7];exact a4⟩,by trivial⟩,by trivial⟩,by omega⟩)|(rw[Oj (slotRequest p) (l:=openSlots p) (i:=y2.2.1.toNat) (by omega)] at a4;rw[Qd8] at a4;exact⟨by omega,by omega,by omega,by rw[a4];rfl⟩)|skip)
def okCs (l:List SConn):Prop:=∀ c,c∈l->Af c.bc<=1048576/\szAddr c.to<=4000000
theorem Ij (p:SPage):(nextNeeds p).length<=p.bd.length+p.bg.length:=by
 have h1:(openSlots p).length<=p.bd.length:=Dn _ _ _;have h2:(openMods p).length<=p.bg.length:=Dn _ _ _;unfold nextNeeds;rw[Qa4,Qf6,Qf6];omega
theorem EW (p:SPage) (m:Int) (to d:ByteArray) (n:Int):(addSlot p m to d n).1.addr=p.addr:=by unfold addSlot;split<;>rfl
theorem SA (p:SPage) (a:SAddr):(askModule p a).addr=p.addr:=by unfold askModule;split<;>rfl
theorem Oa (p:SPage) (to:ByteArray):(addEntry p to).addr=p.addr:=by
 unfold addEntry;split
 ·exact SA p _
 ·rfl
theorem Pq (p:SPage) (t:SToken) (n:Int):(element p t n).addr=p.addr:=by
 unfold element;split
 ·exact EW ..
 ·split
  ·exact EW ..
  ·rfl
theorem QT (p:SPage) (n:Int):(script p n).addr=p.addr:=by
 unfold script;split
 ·split<;>rfl
 ·split
  ·exact EW ..
  ·split
   ·exact Oa ..
   ·exact EW p ..
theorem SH (p:SPage) (s:ByteArray):(say p s).addr=p.addr:=by unfold say;split<;>rfl
theorem GD (p:SPage) (c:ByteArray) (w:Bool):(runCode p c w).addr=p.addr:=by unfold runCode;split<;>rfl
theorem L3 (p:SPage):(takeToken p).1.addr=p.addr:=by
 unfold takeToken;split
 ·rfl
 ·show(takeTok p _).addr=_;unfold takeTok;split
  ·exact Pq _ _ _
  ·split
   ·exact QT _ _
   ·rfl
theorem QS (p:SPage):(stepParser p).1.addr=p.addr:=by
 unfold stepParser;split
 ·unfold stepInline;split
  ·exact GD _ _ _
  ·rfl
 ·split
  ·unfold stepBlock;split
   ·rfl
   ·split
    ·rfl
    ·split
     ·exact GD _ _ _
     ·rfl
  ·exact L3 p
theorem Iz (p:SPage):∀ (l:List SAddr) (q:SPage),(enterAll p q l).addr=q.addr
 | [],q=>rfl
 | b::l,q=>by have:=Iz p l (enter1 p q b);refine this.trans ?_;unfold enter1;split<;>rfl
theorem Uz (p:SPage) (a:SAddr):(enter p a).addr=p.addr:=by
 unfold enter;split
 ·exact SH _ _
 ·exact Iz p _ p
theorem Wd (p:SPage):(stepTail p).1.addr=p.addr:=by
 unfold stepTail;split
 ·rfl
 ·split
  ·unfold tailDefer;split
   ·rfl
   ·split
    ·exact GD _ _ _
    ·rfl
  ·split
   ·unfold tailEnter;split
    ·rfl
    ·exact Uz _ _
   ·split
    ·rfl
    ·exact SH _ _
theorem Tg:∀ (n:Nat) (p:SPage),(adv n p).addr=p.addr
 | 0,p=>rfl
 | n+1,p=>by
  rw[adv];split
  ·refine(Tg n _).trans ?_;unfold step1;split
   ·exact QS p
   ·exact Wd p
  ·rfl
theorem PD:∀ (l:List SAddr) (p:SPage),(l.foldl askModule p).addr=p.addr
 | [],p=>rfl
 | b::l,p=>(PD l (askModule p b)).trans (SA p b)
theorem J7 (p:SPage) (a:SAddr) (x:SResponse):(takeAnswer p a x).addr=p.addr:=by
 refine(Tg 2000 _).trans ?_;unfold fillModule;split
 ·rfl
 ·exact PD _ _
def Y7:Fct:=⟨[.v (.el .request),.p (.el .conn)],[.el .bool],fun(x_:SRequest×SConn×Unit)=>True,fun(x_:SRequest×SConn×Unit)=>(decide (x_.1.to=x_.2.1.to),())⟩
def AjC:=Aly.a Y7<|Fct.o [1,2,3] Aly.2 func36 (by
 rintro⟨(r:SRequest),(c:SConn),_⟩ hp;refine ho (.lf Y7 (r.to.host==c.to.host&&(r.to.path==c.to.path&&true),())) ?_;refine lfY ?_;all_goals
  try simp only[Dk] at *
  try simp only[AA] at *
  try simp only[Y7,std,Nat.reduceAdd] at *
  try simp(disch:=omega) only[wrapId',toNat1] at *
  try simp(disch:=omega) only[Qa2,Qa3]
 all_goals first|trivial|omega|grind[wrapId',toNat1,drop_cons,drop_end,good_len,maxLen])
def AE:Fct:=⟨[aL .request,.c 36 [.el .conn]],[rI],fun x=>x.1.length<=1000000000000000000/\∀ c,Y7.pre (c,x.2.1),fun x=>(fidx (fun c=>(Y7.fn (c,x.2.1)).1) x.1 0,())⟩
abbrev Ag (l:(List SRequest)) (u:(SConn×Unit)):LInv:=⟨[⟨.s,8,true,.el .int⟩],fun _ (x_:Int×Unit)=>0<=x_.1/\x_.1<=l.length/\fidx (fun c=>(Y7.fn (c,u)).1) l 0=fidx (fun c=>(Y7.fn (c,u)).1) (l.drop x_.1.toNat) x_.1,fun(x_:Int×Unit)=>l.length-x_.1.toNat⟩
def Ai5:=AjC.a AE<|Fct.p (KP [0,1,4,5,7,8] [9,16]) (fun⟨l,u,_⟩=>lv [(2,Ag l u)]) AjC.2 func107 (by
 rintro⟨(l:List SRequest),(u:SConn×PUnit),_⟩ hp;refine ho (lpx (Ag l u) ((0:Int),()) fun(y1:Int×PUnit) bk1=>.br (decide (y1.1<(l.length:Int))) (.ob (inB y1.1 l.length)<|.cl Y7 (l.getD y1.1.toNat default,u.1,()) fun z2=>.br (z2.1) (.lf AE (y1.1,())) (.ob (l=l)<|.ob (enc Ty.conn u.1=enc Ty.conn u.1)<|.ob (Value.int IntKind.i64 (l.length:Int)=Value.int IntKind.i64 (l.length:Int))<|.ob (bk1 (w1 y1.1,()))<|.ok)) (.lf AE ((-1:Int),()))) ?_;refine Aw ?_ fun(y1:Int×PUnit) i1=>Ab (fun h2=>Aa ?_ fun o3=>Ae trivial fun _=>(Ab (fun h4=>lfY ?_) (fun h4=>Aa rfl fun _=>Aa rfl fun _=>Aa rfl fun _=>Aa ?_ fun o5=>trivial))) (fun h2=>lfY ?_)
 all_goals
  try simp only[AA] at *
  try simp only[Ag,AE,Y7,std,Nat.reduceAdd] at *
  try have hp2:=hp.2
  try have hp1:=hp.1
 all_goals first|trivial|omega|grind[wrapId',toNat1,drop_cons,drop_end,good_len,maxLen,fidx])
def AJ:Fct:=⟨[aL .request,.c 36 [.el .conn]],[rB],fun x=>x.1.length<=1000000000000000000/\∀ c,Y7.pre (c,x.2.1),fun x=>(x.1.any (fun c=>(Y7.fn (c,x.2.1)).1),())⟩
def Ajo:=Ai5.a AJ<|Fct.o [0,1,4] Ai5.2 func34 (by
 rintro⟨(l:List SRequest),(u:SConn×PUnit),_⟩ hp;refine ho (.cl AE (l,(u.1,()),()) fun(z2:Int×PUnit)=>.lf AJ (decide (z2.1>=0),())) ?_;refine Ae ?_ fun o1=>(lfY ?_)
 all_goals
  try simp only[AA] at *
  try simp only[AJ,AE,std,Nat.reduceAdd] at *
 all_goals first|trivial|omega|(rw[Bool.eq_iff_iff];exact decide_eq_true_iff.trans (NZ _ _ _ (by omega))))
def needsTo (p:SPage) (a:SAddr):Bool:=(nextNeeds p).any fun r=>decide (r.to=a)
def finishC (l:SLoader) (c:SConn):SLoader :=
 if needsTo l.page c.to=true then(if c.guess=true then{ l with net:=keepAnswer l.net l.page.addr.host c.to c.bc,page:=takeAnswer l.page c.to c.bc } else{ l with page:=takeAnswer l.page c.to c.bc })
 else if c.guess=true then{ l with guesses:=(addGuess l.guesses c.to c.bc).1 } else l
def finish1 (l:SLoader) (k:Int):SLoader:=finishC { l with conns:=closeConn l.conns k } (l.conns.getD k.toNat default)
def okFin (l:SLoader):Prop:=(okFM l.page/\l.page.bd.length+l.page.bg.length<=1000000000000)/\(l.conns.length<=1048576/\okCs l.conns)/\l.guesses.length<=4194304/\szNet l.net<=10000000000/\szCache l.net.cache<=90000000
theorem AdZ {α:Type} [Inhabited α] (f:α->Bool) {l:List α} {i:Nat} (h:i<l.length):(l.drop i).any f=(f (l.getD i default)||(l.drop (i+1)).any f):=by rw[drop_cons h];rfl
theorem Abu {α:Type} (f:α->Bool) {l:List α} {i:Nat} (h:l.length<=i):(l.drop i).any f=false:=by rw[Qb6 h];rfl
def EU:GS:=⟨[.g (.el .loader),.l (.v (.el .int))],[.el .loader],fun(x_:SLoader×Int×Unit)=>okFin x_.1/\0<=x_.2.1/\x_.2.1<x_.1.conns.length,fun(x_:SLoader×Int×Unit)=>((finish1 x_.1 x_.2.1,()),(()))⟩
abbrev CN (l:SLoader) (k:Int):LInv:=⟨[⟨.s,7,true,.el .int⟩,⟨.b,2,true,.el .loader⟩,⟨.b,4,true,.el .loader⟩,⟨.b,5,true,.el .conn⟩,⟨.s,6,true,.sl .request⟩],fun _ (x_:Int×SLoader×SLoader×SConn×(List SRequest)×Unit)=>x_.2.1={ l with conns:=closeConn l.conns k }/\x_.2.2.2.1=l.conns.getD k.toNat default/\x_.2.2.2.2.1=nextNeeds l.page/\0<=x_.1/\x_.1<=(nextNeeds l.page).length/\((nextNeeds l.page).drop x_.1.toNat).any (fun r=>decide (r.to=(l.conns.getD k.toNat default).to))=needsTo l.page (l.conns.getD k.toNat default).to,fun(x_:Int×SLoader×SLoader×SConn×(List SRequest)×Unit)=>(nextNeeds l.page).length-x_.1.toNat⟩
def Ak2:=Ajo.G EU<|GS.of (S:=EU) (L:=fun⟨l,k,_⟩=>fun|5=>some (CN l k)|_=>none) (kp:=(KP [1,2,4,5,6,7] [24,34,36,59])) Ajo.2 func23 (by kernel_rfl) (by kernel_rfl) (by
 rintro⟨(l:SLoader),(k:Int),_⟩ hp;refine ho (.ob (inB k l.conns.length)<|.ob (k.toNat<l.conns.length)<|.cl BQ (l.conns,k,()) fun z2=>.cl CP (l.page,()) fun z3=>lpx (CN l k) ((0:Int),(({l with conns:=z2.1}:SLoader),(default,(l.conns.getD k.toNat default,(z3.1,()))))) fun(y5:Int×SLoader×SLoader×SConn×List SRequest×PUnit) bk5=>let q0_:=y5.2.2.2.2.1.getD y5.1.toNat default;.br (decide (y5.1<(y5.2.2.2.2.1.length:Int))) (.ob (inB y5.1 y5.2.2.2.2.1.length)<|.ob (y5.1.toNat<y5.2.2.2.2.1.length)<|.br (q0_.to.host==y5.2.2.2.1.to.host&&(q0_.to.path==y5.2.2.2.1.to.path&&true)) (.br (y5.2.2.2.1.guess) (.cl A3 (y5.2.1.net,y5.2.1.page.addr.host,y5.2.2.2.1.to,y5.2.2.2.1.bc,()) fun z4=>.cl BW (y5.2.1.page,y5.2.2.2.1.to,y5.2.2.2.1.bc,()) fun z5=>GS.out EU (({y5.2.1 with net:=z4.1,page:=z5.1},()),(()))) (.cl BW (y5.2.1.page,y5.2.2.2.1.to,y5.2.2.2.1.bc,()) fun z6=>GS.out EU (({y5.2.1 with page:=z6.1},()),(())))) (.ob (Value.int IntKind.i64 k=Value.int IntKind.i64 k)<|.ob (bk5 (w1 y5.1,(y5.2.1,(y5.2.2.1,(y5.2.2.2.1,(y5.2.2.2.2.1,()))))))<|.ok)) (.br (y5.2.2.2.1.guess) (.cl Cr (y5.2.1.guesses,y5.2.2.2.1.to,y5.2.2.2.1.bc,()) fun z7=>GS.out EU (({y5.2.1 with guesses:=z7.1},()),(()))) (GS.out EU ((y5.2.1,()),(()))))) ?_;refine Aa ?_ fun o1=>Aa ?_ fun o2=>Ae ?_ fun o3=>(Ae ?_ fun o4=>(Aw ?_ fun(y5:Int×SLoader×SLoader×SConn×List SRequest×PUnit) i5=>Ab (fun h6=>Aa ?_ fun o7=>Aa ?_ fun o8=>Ab (fun h9=>Ab (fun h10=>Ae ?_ fun o11=>(Ae ?_ fun o12=>(GS.leafY ?_))) (fun h10=>Ae ?_ fun o13=>(GS.leafY ?_))) (fun h9=>Aa rfl fun _=>Aa ?_ fun o14=>trivial)) (fun h6=>Ab (fun h15=>Ae ?_ fun o16=>(GS.leafY ?_)) (fun h15=>GS.leafY ?_))))
 all_goals obtain⟨⟨⟨q1,q2⟩,⟨q3,q4⟩,q5,q6,q7⟩,q8,q9⟩:=(show okFin l/\0<=k/\k<l.conns.length from hp)
 all_goals
  try simp only[AA] at *
  try simp only[CN,Cr,BQ,EU,A3,CP,BW,std,Nat.reduceAdd,BQ,CP,A3,BW,Cr] at *
 all_goals first|trivial|omega|exact⟨by omega,by omega,rfl⟩|skip
 all_goals
  have hc:=q4 _ (Br (show k.toNat<l.conns.length by omega));have hc1:(l.conns.getD k.toNat default).bc.body.size+(l.conns.getD k.toNat default).bc.bi.size<=1048576:=hc.1;have hok:=Ds (Ek q1);have hn:=Ij l.page;have hh:l.page.addr.host.size<=4000000:=by have:=hok.2.1;simp only[szAddr] at this;omega
 all_goals (obtain⟨e1,e2,e3,a1,a2,a3⟩:=i5;simp only[e1,e2,e3,Dk,Qa7,Qb0] at *)
 all_goals first|trivial|omega|exact⟨by omega,by omega,by omega,by omega,by omega⟩|exact⟨q1,by omega,by omega,by omega⟩|skip
 all_goals first|(have e:=AdZ (fun r:SRequest=>decide (r.to=(l.conns.getD k.toNat default).to)) (l:=nextNeeds l.page) (i:=y5.1.toNat) (by omega))|(have e:=Abu (fun r:SRequest=>decide (r.to=(l.conns.getD k.toNat default).to)) (l:=nextNeeds l.page) (i:=y5.1.toNat) (by omega))
 all_goals rw[a3] at e
 all_goals first|(rw[show decide (((nextNeeds l.page).getD y5.1.toNat default).to=(l.conns.getD k.toNat default).to)=false from Qg2 (by assumption),Bool.false_or] at e;rw[Ah (by omega),show(y5.1+1).toNat=y5.1.toNat+1 by omega];exact⟨⟨trivial,trivial,trivial,by omega,by omega,e.symm⟩,by omega⟩)|skip
 all_goals first|(rw[show decide (((nextNeeds l.page).getD y5.1.toNat default).to=(l.conns.getD k.toNat default).to)=true from Qf2 (by assumption),Bool.true_or] at e)|skip
 all_goals first|(have hg:(l.conns.getD k.toNat default).guess=true:=by assumption)|(have hg:(l.conns.getD k.toNat default).guess=false:=by assumption)|skip
 all_goals (unfold finish1 finishC;dsimp only;simp only[e,hg,Qc7,Qe8,Qe2]))
theorem Kw {s:ByteArray} (h:isName s=true):s.size<=8:=by
 unfold isName at h;simp only[Qa1,Qa7] at h;exact h.2.2
theorem W3 (p:SPolicy):(formatPolicy p).size<=300:=by
 unfold formatPolicy;split
 ·rename_i h;simp only[Qa1] at h;obtain⟨a1,a2,a3,a4,a5,a6,a7⟩:=Ff h.1 h.2;have b1:=F4 p.bo ⟨#[115,99,114,105,112,116]⟩ a1;have b2:=F4 p.styles ⟨#[115,116,121,108,101]⟩ a3;have b3:=F4 p.images ⟨#[105,109,103]⟩ a5;have c1:(⟨#[115,99,114,105,112,116]⟩:ByteArray).size=6:=rfl;have c2:(⟨#[115,116,121,108,101]⟩:ByteArray).size=5:=rfl;have c3:(⟨#[105,109,103]⟩:ByteArray).size=3:=rfl;have c4:(⟨#[59]⟩:ByteArray).size=1:=rfl;have c5:(⟨#[59,110,111,110,99,101,32]⟩:ByteArray).size=7:=rfl;split<;>(simp only[Qb5];omega)
 ·exact Nat.zero_le _
theorem VY {x:SResponse} (h:isResponse x=true):Af x<=700:=by
 unfold isResponse at h;simp only[Qa1,Qa7] at h;obtain⟨_,_,h1,_,h2⟩:=h;have h3:x.bi.size<=300:=by
  unfold parsePolicy at h2;split at h2
  ·rename_i e;rw[e];exact Nat.zero_le _
  ·split at h2
   ·rename_i e;rw[<-e.2];exact W3 _
   ·cases h2
 simp only[Af];omega
theorem SD {all:List SEntry}:∀ {l:List SEntry} {k:Int},entOk all l k=true->szL AX l<=800*l.length
 | [],_,_=>Qa8 _
 | e::l,k,h=>by simp only[entOk,Qa1] at h;obtain⟨⟨⟨⟨⟨h1,h2,h3⟩,h4⟩,_⟩,_⟩,h5⟩:=h;have a1:=Kw h1;have a2:=Kw h2;have a3:=Kw h3;have a4:=VY h4;have a5:=SD h5;rw[Ax,Qa6];simp only[AX,szAddr];omega
theorem Uf {c:SCache} (h:isCache c=true):szCache c<=80000:=by
 unfold isCache at h;simp only[Qa1,Qa7] at h;have:=SD h.1;simp only[szCache];omega
theorem Abo (c:SCache) (t:ByteArray) (a:SAddr) (x:SResponse) (now:Int) {B:Nat} (h:szCache c<=B) (hB:80000<=B):szCache (storeEntry c t a x now)<=B:=by
 unfold storeEntry;split
 ·rename_i q;exact Qe7 (Uf q.2.2.2) hB
 ·exact h
def okNk (n:SNet):Prop:=szNet n<=szCache n.cache+9000000000/\szCache n.cache<=90000000
theorem keep_okNk {n:SNet} (h:okNk n) (t:ByteArray) (a:SAddr) (x:SResponse):okNk (keepAnswer n t a x):=by
 unfold keepAnswer;split
 ·have:=Abo n.cache t a x n.now h.2 (by omega);refine⟨?_,this⟩;have h1:=h.1;simp only[szNet] at *;omega
 ·exact h
def wB (x:SResponse):Nat:=min 400 x.body.size
def wCs (l:List SConn):Nat:=(l.map fun c=>wB c.bc).sum
theorem V6 (p:SPolicy) (r:SRequest) (x:SResponse):(usable p r x).1.size<=wB x:=by
 have h1:=Ie p r x;have h2:(usable p r x).1.size<=x.body.size:=by
  unfold usable;split
  ·exact Qa8 _
  ·exact Nat.zero_le _
 unfold wB;omega
theorem LW {p:SPage} {Q M R:Nat} (h:okAll p Q M R) (a:SAddr) (x:SResponse):okAll (fillModule p a x) Q (M+600*wB x) (R+20*wB x):=by
 have mono:∀ {q:SPage} {M' R':Nat},okAll q Q M' R'->M'<=M+600*wB x->R'<=R+20*wB x->okAll q Q (M+600*wB x) (R+20*wB x):=fun h hM hR=>by obtain⟨h1,h2,h3,⟨h4,h5,h6,h7⟩,h8⟩:=h;exact⟨h1,h2,h3,⟨h4,by omega,by omega,h7⟩,h8⟩
 unfold fillModule;split
 ·exact mono h (by omega) (by omega)
 ·rename_i hc;have h0:0<=findMod p.bg a:=by omega
  have hd:(p.bg.getD (findMod p.bg a).toNat default).done=false:=by
   cases hq:(p.bg.getD (findMod p.bg a).toNat default).done with
   | false=>rfl
   | true=>exact absurd (.inr hq) hc
  obtain⟨i1,_⟩:=K7 (x:=x) h0;have i2:(imports (fillM0 p a x) a).1.length<=wB x:=by
   obtain⟨_,h2⟩:=DX (fillM0 p a x) a;obtain⟨f1,f2⟩:=F2 p a x h0;rw[f1,f2] at h2;rcases h2 with h2|⟨_,h2⟩
   ·rw[h2];exact Nat.zero_le _
   ·exact Qe7 h2 (V6 ..)
  exact mono (R4 _ _ M R (K2 h a x h0 hd) i1) (by omega) (by omega)
theorem UO {p:SPage} {Q M R:Nat} (h:okAll p Q M R) (a:SAddr) (x:SResponse):okAll (takeAnswer p a x) (Q+740000) (M+600*wB x) (R+20*wB x):=by
 have:=Lj h a x p.bd.length;rw[Hi (Qa8 _)] at this;exact Uu (LW this a x)
def okPot (l:SLoader):Prop:=∃ Q M R,okAll l.page Q M R/\Q+740000*l.conns.length<=899000000000/\M+600*wCs l.conns<=49000000000/\R+20*wCs l.conns<=19000000000
def okT (l:SLoader):Prop:=okPot l/\(okCs l.conns/\l.conns.length<=1048576/\l.guesses.length+l.conns.length<=4194304)/\okNk l.net
theorem Nl {l:SLoader} (h:okT l):okFin l:=by
 obtain⟨⟨Q,M,R,h1,h2,h3,h4⟩,⟨h5,h6a,h6⟩,h7,h8⟩:=h;have hf:okFM l.page:=⟨Q,M,R,h1,by omega,by omega,by omega⟩;have hp:=Ds (Ek hf);exact⟨⟨hf,by omega⟩,⟨by omega,h5⟩,by omega,by omega,h8⟩
theorem JM {l:List SConn} {k:Int} (h0:0<=k) (h:k<l.length):closeConn l k=l.take k.toNat++l.drop (k.toNat+1):=by unfold closeConn;rw[Qa2 ⟨h0,h⟩]
theorem Is {l:List SConn} {k:Int} (h0:0<=k) (h:k<l.length):(closeConn l k).length+1=l.length:=by
 rw[JM h0 h,Qa4,Qc1,Qd6];omega
theorem Y5 {l:List SConn} {k:Int} (h0:0<=k) (h:k<l.length):wCs (closeConn l k)+wB (l.getD k.toNat default).bc=wCs l:=by
 have e:l.take k.toNat++l.getD k.toNat default::l.drop (k.toNat+1)=l:=by rw[<-drop_cons (show k.toNat<l.length by omega),Qd5]
 have g:wCs (l.take k.toNat++l.getD k.toNat default::l.drop (k.toNat+1))=wCs l:=by rw[e]
 rw[JM h0 h];unfold wCs at *
 simp only[List.map_append,Qc8,List.sum_append,List.sum_cons] at *
 omega
theorem AaC {l:List SConn} {k:Int} (h0:0<=k) (h:k<l.length):szL B0 (closeConn l k)+(B0 (l.getD k.toNat default)+1)=szL B0 l:=by
 have e:l.take k.toNat++l.getD k.toNat default::l.drop (k.toNat+1)=l:=by rw[<-drop_cons (show k.toNat<l.length by omega),Qd5]
 have g:szL B0 (l.take k.toNat++l.getD k.toNat default::l.drop (k.toNat+1))=szL B0 l:=by rw[e]
 rw[JM h0 h];rw[CV,Ax] at g;rw[CV];omega
theorem AaM {l:List SConn} {k:Int} (h0:0<=k) (h:k<l.length) (ho:okCs l):okCs (closeConn l k):=by
 rw[JM h0 h];intro c hc;rcases Qc0.1 hc with q|q
 ·exact ho c (List.mem_of_mem_take q)
 ·exact ho c (List.mem_of_mem_drop q)
theorem Aax (l:List SGuess) (a:SAddr) (x:SResponse):(addGuess l a x).1.length<=l.length+1:=by
 unfold addGuess;split
 ·exact Nat.le_succ _
 ·simp only[Qa4,Qa6,Qb8];omega
theorem AdQ (l:List SGuess) (a:SAddr) (x:SResponse):szL BX (addGuess l a x).1<=szL BX l+(szAddr a+Af x+1):=by
 unfold addGuess;split
 ·simp only;omega
 ·simp only;rw[Hh];simp only[BX];omega
theorem PJ (l:SLoader) (k:Int):(finish1 l k).conns=closeConn l.conns k:=by
 unfold finish1 finishC;split
 ·split<;>rfl
 ·split<;>rfl
theorem XR (l:SLoader) (k:Int):(finish1 l k).parts=l.parts:=by
 unfold finish1 finishC;split
 ·split<;>rfl
 ·split<;>rfl
theorem SR {l:SLoader} {k:Int} (h:okT l) (h0:0<=k) (hk:k<l.conns.length):okT (finish1 l k):=by
 obtain⟨⟨Q,M,R,h1,h2,h3,h4⟩,⟨h5,h6a,h6⟩,h7⟩:=h;have c1:=Is h0 hk;have c2:=Y5 h0 hk;have c3:=AaM h0 hk h5;have ha:=UO h1 (l.conns.getD k.toNat default).to (l.conns.getD k.toNat default).bc;have hg:=Aax l.guesses (l.conns.getD k.toNat default).to (l.conns.getD k.toNat default).bc;unfold finish1 finishC;dsimp only;split
 ·split
  ·exact⟨⟨_,_,_,ha,by dsimp only;omega,by dsimp only;omega,by dsimp only;omega⟩,⟨c3,by dsimp only;omega,by dsimp only;omega⟩,keep_okNk h7 _ _ _⟩
  ·exact⟨⟨_,_,_,ha,by dsimp only;omega,by dsimp only;omega,by dsimp only;omega⟩,⟨c3,by dsimp only;omega,by dsimp only;omega⟩,h7⟩
 ·split
  ·exact⟨⟨_,_,_,h1,by dsimp only;omega,by dsimp only;omega,by dsimp only;omega⟩,⟨c3,by dsimp only;omega,by dsimp only;omega⟩,h7⟩
  ·exact⟨⟨_,_,_,h1,by dsimp only;omega,by dsimp only;omega,by dsimp only;omega⟩,⟨c3,by dsimp only;omega,by dsimp only;omega⟩,h7⟩
theorem DV:∀ (l:List SConn) (z:Int),0<=z->-1<=firstDone l z/\firstDone l z<z+l.length/\(firstDone l z<0\/z<=firstDone l z)
 | [],z,h=>by
  rw[firstDone,Qb8];omega
 | c::l,z,h=>by have:=DV l (z+1) (by omega);rw[firstDone,Qa6];split<;>omega
def xfer:Nat->SLoader->SLoader
 | 0,l=>l
 | n+1,l=>if firstDone l.conns 0<0 then l else xfer n (finish1 l (firstDone l.conns 0))
theorem XE {l:SLoader} (h:firstDone l.conns 0<0):∀ n,xfer n l=l
 | 0=>rfl
 | n+1=>by rw[xfer,Qa2 h]
theorem Aet {l:SLoader} {n:Nat} (h:0<=firstDone l.conns 0):xfer (n+1) l=xfer n (finish1 l (firstDone l.conns 0)):=by rw[xfer,Qa3 (by omega)]
def moved (l:SLoader) (b:Int):SLoader:={ l with conns:=moveConns l.conns b }
def transfer (l:SLoader) (b:Int):SLoader×Bool:=if l.conns.length=0\/inRange b 1 1000=false then(l,false) else(xfer l.conns.length (moved l b),true)
theorem Aga (l:List SConn) (b:Int):wCs (moveConns l b)=wCs l:=by
 unfold moveConns;split
 ·unfold wCs;rw[Qg4];rfl
 ·rfl
theorem AcX (l:List SConn) (b:Int):szL B0 (moveConns l b)=szL B0 l:=by
 unfold moveConns;split
 ·unfold szL;rw[Qg4,Qf6];rfl
 ·rfl
theorem Afp {l:List SConn} (b:Int) (h:okCs l):okCs (moveConns l b):=by
 unfold moveConns;split
 ·intro c hc;obtain⟨d,hd,rfl⟩:=Qg7.1 hc;exact h d hd
 ·exact h
theorem SI {l:SLoader} (h:okT l) (b:Int):okT (moved l b):=by
 obtain⟨⟨Q,M,R,h1,h2,h3,h4⟩,⟨h5,h6a,h6⟩,h7⟩:=h;have e1:=Di l.conns b;have e2:=Aga l.conns b;unfold moved;exact⟨⟨Q,M,R,h1,by dsimp only;omega,by dsimp only;omega,by dsimp only;omega⟩,⟨Afp b h5,by dsimp only;omega,by dsimp only;omega⟩,h7⟩
def xInv (l0 l:SLoader) (n:Nat):Prop:=okT l/\l.conns.length<=n/\xfer n l=l0
theorem P5 {l0 l:SLoader} {n:Nat} (h:xInv l0 l (n+1)) (h0:0<=firstDone l.conns 0):xInv l0 (finish1 l (firstDone l.conns 0)) n:=by
 obtain⟨h1,h2,h3⟩:=h;have hd:=DV l.conns 0 (by omega);rw[Aet h0] at h3;have hl:=Is h0 (show firstDone l.conns 0<l.conns.length by omega);exact⟨SR h1 h0 (by omega),by rw[PJ];omega,h3⟩
theorem O1 {l0 l:SLoader} {n:Nat} (h:xInv l0 l n) (h0:firstDone l.conns 0<0):l=l0:=by
 have:=h.2.2
 rwa [XE h0] at this
def okTr (l:SLoader):Prop:=okT l/\l.parts.length<=1000000000
theorem Sv {l:SLoader} (h:okT l) (hp:l.parts.length<=1000000000):szNet l.net<=68719476736/\szPage l.page<=1099511627776/\l.parts.length<=1000000000/\l.conns.length<=1048576/\l.guesses.length<=4194304:=by
 have hf:=Nl h;have hq:=Ds (Ek hf.1.1);exact⟨by have:=hf.2.2.2.1;omega,by omega,hp,hf.2.1.1,hf.2.2.1⟩
theorem AaK {l:SLoader} {b:Int} (h:l.conns.length=0\/inRange b 1 1000=false):transfer l b=(l,false):=by unfold transfer;rw[Qa2 h]
theorem AcJ {l:SLoader} {b:Int} (h1:¬ l.conns.length=0) (h2:inRange b 1 1000=true):transfer l b=(xfer l.conns.length (moved l b),true):=by
 unfold transfer;rw[Qa3 (by rintro(q|q);exact h1 q;rw[h2] at q;cases q)]
theorem Ab8 {l:SLoader} (h:okT l) (b:Int):xInv (xfer l.conns.length (moved l b)) { net:=l.net,page:=l.page,parts:=l.parts,conns:=moveConns l.conns b,guesses:=l.guesses } l.conns.length:=⟨SI h b,Nat.le_of_eq (Di l.conns b),rfl⟩
theorem VO {l0 l:SLoader} (h:xInv l0 l l.conns.length) (h0:0<=firstDone l.conns 0):xInv l0 (finish1 l (firstDone l.conns 0)) (closeConn l.conns (firstDone l.conns 0)).length:=by
 have hd:=DV l.conns 0 (by omega);have hl:=Is h0 (show firstDone l.conns 0<l.conns.length by omega);rw[<-hl] at h;exact P5 h h0
theorem AhQ {l:SLoader} {k:Int} (h1:needsTo l.page (l.conns.getD k.toNat default).to=true) (h2:(l.conns.getD k.toNat default).guess=true):finish1 l k={ net:=keepAnswer l.net l.page.addr.host (l.conns.getD k.toNat default).to (l.conns.getD k.toNat default).bc,page:=takeAnswer l.page (l.conns.getD k.toNat default).to (l.conns.getD k.toNat default).bc,parts:=l.parts,conns:=closeConn l.conns k,guesses:=l.guesses }:=by
 unfold finish1 finishC;dsimp only;rw[Qa2 h1,Qa2 h2]
theorem Ahx {l:SLoader} {k:Int} (h1:needsTo l.page (l.conns.getD k.toNat default).to=true) (h2:(l.conns.getD k.toNat default).guess=false):finish1 l k={ net:=l.net,page:=takeAnswer l.page (l.conns.getD k.toNat default).to (l.conns.getD k.toNat default).bc,parts:=l.parts,conns:=closeConn l.conns k,guesses:=l.guesses }:=by
 unfold finish1 finishC;dsimp only;rw[Qa2 h1,Qa3 (by rw[h2];decide)]
theorem AhE {l:SLoader} {k:Int} (h1:needsTo l.page (l.conns.getD k.toNat default).to=false) (h2:(l.conns.getD k.toNat default).guess=true):finish1 l k={ net:=l.net,page:=l.page,parts:=l.parts,conns:=closeConn l.conns k,guesses:=(addGuess l.guesses (l.conns.getD k.toNat default).to (l.conns.getD k.toNat default).bc).1 }:=by
 unfold finish1 finishC;dsimp only;rw[Qa3 (by rw[h1];decide),Qa2 h2]
theorem Ahy {l:SLoader} {k:Int} (h1:needsTo l.page (l.conns.getD k.toNat default).to=false) (h2:(l.conns.getD k.toNat default).guess=false):finish1 l k={ net:=l.net,page:=l.page,parts:=l.parts,conns:=closeConn l.conns k,guesses:=l.guesses }:=by
 unfold finish1 finishC;dsimp only;rw[Qa3 (by rw[h1];decide),Qa3 (by rw[h2];decide)]
def CS:Fct:=⟨[.v (.el .loader),.v (.el .int)],[.el .loader,.el .bool],fun(x_:SLoader×Int×Unit)=>okTr x_.1,fun(x_:SLoader×Int×Unit)=>((transfer x_.1 x_.2.1).1,(transfer x_.1 x_.2.1).2,())⟩
abbrev CI (l:SLoader) (b:Int):LInv:=⟨[⟨.b,6,true,.el .loader⟩,⟨.s,7,true,.el .int⟩,⟨.b,2,false,.el .loader⟩,⟨.b,4,true,.el .loader⟩],fun(z_ x_:SLoader×Int×SLoader×SLoader×Unit)=>((0<=x_.2.1/\x_.2.1<=l.conns.length/\xInv (xfer l.conns.length (moved l b)) x_.1 (l.conns.length-x_.2.1.toNat))/\x_.2.2.1=z_.2.2.1)/\x_.2.2.2.1=z_.2.2.2.1,fun(x_:SLoader×Int×SLoader×SLoader×Unit)=>l.conns.length-x_.2.1.toNat⟩
def AjY:=Ak2.a CS<|Fct.p (KP [1,2,4,5,6,7,8] [19,30,37]) (fun⟨l,b,_⟩=>lv [(6,CI l b)]) Ak2.2 func6 (by
 rintro⟨(l:SLoader),(b:Int),_⟩ hp;refine ho (.cl Ci (l,()) fun z2=>.br ((l.conns.length:Int)==0) (.lf CS (z2.1,false,())) (.cl fInRange (b,(1:Int),(1000:Int),()) fun z3=>.br (!z3.1) (.lf CS (z2.1,false,())) (.cl H7 (l.conns,b,()) fun z4=>lpx (CI l b) ((⟨z2.1.net,z2.1.page,z2.1.parts,z4.1,z2.1.guesses⟩:SLoader),((0:Int),(l,(default,())))) fun(y5:SLoader×Int×SLoader×SLoader×PUnit) bk5=>.br (decide (y5.2.1<(y5.2.2.1.conns.length:Int))) (.cl FH (y5.1.conns,()) fun(z5:Int×PUnit)=>.br (decide (z5.1<0)) (.lf CS (y5.1,true,())) (.ob (EU.pre (y5.1,z5.1,()))<|.lt _ (EU.fn (y5.1,z5.1,())) fun z6=>.ob (Value.int IntKind.i64 b=Value.int IntKind.i64 b)<|.ob (bk5 (z6.1.1,(w1 y5.2.1,(y5.2.2.1,(y5.2.2.2.1,())))))<|.ok)) (.lf CS (y5.1,true,()))))) ?_;refine Ae ?_ fun o1=>(Ab (fun h2=>lfY ?_) (fun h2=>Ae trivial fun _=>(Ab (fun h3=>lfY ?_) (fun h3=>Ae ?_ fun o4=>(Aw ?_ fun(y5:SLoader×Int×SLoader×SLoader×PUnit) i5=>Ab (fun h6=>Ae ?_ fun o7=>(Ab (fun h8=>lfY ?_) (fun h8=>Aa ?_ fun o9=>Dh (Aa rfl fun _=>Aa ?_ fun o10=>trivial)))) (fun h6=>lfY ?_))))))
 all_goals obtain⟨q1,q2⟩:=(show okTr l from hp)
 all_goals
  have hc:=Sv q1 q2;try simp only[AA] at *
  try simp only[CI,Ci,EU,FH,fInRange,H7,CS,std,Nat.reduceAdd,Ci,H7,FH,EU] at *
 all_goals first|trivial|omega|exact hc|exact hc.2.2.2.1|(rw[AaK (.inl (by omega))];exact⟨rfl,rfl⟩)|(rw[AaK (.inr (by assumption))];exact⟨rfl,rfl⟩)|exact⟨by omega,by omega,Ab8 q1 b⟩|skip
 all_goals (obtain⟨⟨⟨a1,a2,a3⟩,e1⟩,e2⟩:=i5;simp only[e1] at *)
 all_goals
  have hf:=Nl a3.1;have hd:=DV y5.1.conns 0 (by omega);have ha:=a3.2.1
 all_goals first|trivial|omega|exact hf.2.1.1|exact⟨hf,by omega,by omega⟩|(rw[AcJ (by omega) (by assumption)];exact⟨O1 a3 (by omega),rfl⟩)|skip
 all_goals rw[show l.conns.length-y5.2.1.toNat=(l.conns.length-(y5.2.1.toNat+1))+1 by omega] at a3
 all_goals rw[Ah (by omega),show(y5.2.1+1).toNat=y5.2.1.toNat+1 by omega]
 all_goals exact⟨⟨⟨⟨by omega,by omega,P5 a3 (by omega)⟩,by trivial⟩,e2⟩,by omega⟩)
abbrev CB (l:SLoader) (b:Int):LInv:=⟨[⟨.b,6,true,.el .loader⟩,⟨.b,4,true,.el .loader⟩],fun(z_ x_:SLoader×SLoader×Unit)=>(xInv (xfer l.conns.length (moved l b)) x_.1 x_.1.conns.length)/\x_.2.1=z_.2.1,fun(x_:SLoader×SLoader×Unit)=>x_.1.conns.length⟩
def Ail:=AjY.a CS<|Fct.p (KP [1,2,4,5,6,7,8,9] [20,31,48,59,72]) (fun⟨l,b,_⟩=>lv [(5,CB l b)]) AjY.2 func8 (by
 rintro⟨(l:SLoader),(b:Int),_⟩ hp;refine ho (let q1_:=Value.int IntKind.i64 b=Value.int IntKind.i64 b;.cl Ci (l,()) fun z2=>let q2_:Out:=.lf CS (z2.1,false,());.br ((l.conns.length:Int)==0) q2_ (.cl fInRange (b,(1:Int),(1000:Int),()) fun z3=>.br (!z3.1) q2_ (.cl H7 (z2.1.conns,b,()) fun z4=>lpx (CB l b) (({z2.1 with conns:=z4.1}:SLoader),(default,())) fun(y5:SLoader×SLoader×PUnit) bk5=>.cl FH (y5.1.conns,()) fun(z5:Int×PUnit)=>let q0_:=y5.1.conns.getD z5.1.toNat default;.br (decide (z5.1<0)) (.lf CS (y5.1,true,())) (.ob (inB z5.1 y5.1.conns.length)<|.ob (z5.1.toNat<y5.1.conns.length)<|.cl BQ (y5.1.conns,z5.1,()) fun z6=>.cl CP (y5.1.page,()) fun z7=>.cl AJ (z7.1,(y5.1.conns.getD z5.1.toNat default,()),()) fun z8=>.br (z8.1) (.cl BW (y5.1.page,q0_.to,q0_.bc,()) fun z9=>.br (q0_.guess) (.cl A3 (y5.1.net,z9.1.addr.host,q0_.to,q0_.bc,()) fun z10=>.ob q1_<|.ob (bk5 ((⟨z10.1,z9.1,y5.1.parts,z6.1,y5.1.guesses⟩:SLoader),(y5.2.1,())))<|.ok) (.ob q1_<|.ob (bk5 (({y5.1 with page:=z9.1,conns:=z6.1}:SLoader),(y5.2.1,())))<|.ok)) (.br (q0_.guess) (.cl Cr (y5.1.guesses,q0_.to,q0_.bc,()) fun z11=>.ob q1_<|.ob (bk5 (({y5.1 with conns:=z6.1,guesses:=z11.1}:SLoader),(y5.2.1,())))<|.ok) (.ob q1_<|.ob (bk5 (({y5.1 with conns:=z6.1}:SLoader),(y5.2.1,())))<|.ok)))))) ?_;refine Ae ?_ fun o1=>(Ab (fun h2=>lfY ?_) (fun h2=>Ae trivial fun _=>(Ab (fun h3=>lfY ?_) (fun h3=>Ae ?_ fun o4=>(Aw ?_ fun(y5:SLoader×SLoader×PUnit) i5=>Ae ?_ fun o6=>(Ab (fun h7=>lfY ?_) (fun h7=>Aa ?_ fun o8=>Aa ?_ fun o9=>Ae ?_ fun o10=>(Ae ?_ fun o11=>(Ae ?_ fun o12=>(Ab (fun h13=>Ae ?_ fun o14=>(Ab (fun h15=>Ae ?_ fun o16=>(Aa rfl fun _=>Aa ?_ fun o17=>trivial)) (fun h15=>Aa rfl fun _=>Aa ?_ fun o18=>trivial))) (fun h13=>Ab (fun h19=>Ae ?_ fun o20=>(Aa rfl fun _=>Aa ?_ fun o21=>trivial)) (fun h19=>Aa rfl fun _=>Aa ?_ fun o22=>trivial))))))))))))
 all_goals obtain⟨q1,q2⟩:=(show okTr l from hp)
 all_goals
  have hc:=Sv q1 q2;try simp only[AA] at *
  try simp only[CB,Cr,BQ,AJ,Ci,FH,fInRange,A3,H7,CP,BW,CS,std,Nat.reduceAdd,Ci,H7,FH,BQ,CP,BW,A3,Cr] at *
 all_goals first|trivial|omega|exact hc|exact hc.2.2.2.1|(rw[AaK (.inl (by omega))];exact⟨rfl,rfl⟩)|(rw[AaK (.inr (by assumption))];exact⟨rfl,rfl⟩)|(rw[Di];exact Ab8 q1 b)|skip
 all_goals (obtain⟨a3,e1⟩:=i5)
 all_goals
  have hf:=Nl a3.1;have hd:=DV y5.1.conns 0 (by omega)
 all_goals first|trivial|omega|exact hf.2.1.1|exact hf.2.2.1|exact hf.1.2|(rw[AcJ (by omega) (by assumption)];exact⟨O1 a3 (by omega),rfl⟩)|skip
 all_goals
  have hcs:=hf.2.1.2 _ (Br (show(firstDone y5.1.conns 0).toNat<y5.1.conns.length by omega));have hs1:(y5.1.conns.getD (firstDone y5.1.conns 0).toNat default).bc.body.size+(y5.1.conns.getD (firstDone y5.1.conns 0).toNat default).bc.bi.size<=1048576:=hcs.1;have hn:=Ij y5.1.page;have hh:y5.1.page.addr.host.size<=4000000:=by have:=(Ds (Ek hf.1.1)).2.1;simp only[szAddr] at this;omega
  have hz:=hf.2.2.2;have hw:=hf.1.2
 all_goals first|exact⟨by omega,fun _=>trivial⟩|exact⟨hf.1.1,by omega,by omega,by omega⟩|(rw[J7];exact⟨by omega,by omega,by omega,by omega,by omega⟩)|skip
 all_goals
  have hx:=VO a3 (by omega);have hl:=Is (show 0<=firstDone y5.1.conns 0 by omega) (show firstDone y5.1.conns 0<y5.1.conns.length by omega);try rw[J7]
 all_goals refine⟨⟨?_,e1⟩,by omega⟩
 all_goals first|(rw[AhQ (by assumption) (by assumption)] at hx;exact hx)|(rw[Ahx (by assumption) (by assumption)] at hx;exact hx)|(rw[AhE (by assumption) (by assumption)] at hx;exact hx)|(rw[Ahy (by assumption) (by assumption)] at hx;exact hx))
theorem AcA:∀ l:List SConn,wCs l<=szL B0 l
 | []=>Qa8 _
 | c::l=>by
  have:=AcA l;rw[Ax];unfold wCs at *
  simp only[Qc8,List.sum_cons,wB,B0,Af] at *
  omega
theorem Agh {l:SLoader} {k:Int} (h0:0<=k) (hk:k<l.conns.length):szL B0 (finish1 l k).conns+szL BX (finish1 l k).guesses<=szL B0 l.conns+szL BX l.guesses:=by
 have c1:=AaC h0 hk;have hg:=AdQ l.guesses (l.conns.getD k.toNat default).to (l.conns.getD k.toNat default).bc;rw[PJ];simp only[B0] at c1;unfold finish1 finishC;split
 ·split<;>(dsimp only;omega)
 ·split<;>(dsimp only;omega)
theorem Xj:∀ (n:Nat) (l:SLoader),okT l->okT (xfer n l)/\(xfer n l).parts=l.parts/\szL B0 (xfer n l).conns+szL BX (xfer n l).guesses<=szL B0 l.conns+szL BX l.guesses
 | 0,l,h=>⟨h,rfl,Qa8 _⟩
 | n+1,l,h=>by
  rw[xfer];split
  ·exact⟨h,rfl,Qa8 _⟩
  ·have hd:=DV l.conns 0 (by omega);obtain⟨a1,a2,a3⟩:=Xj n _ (SR h (show 0<=firstDone l.conns 0 by omega) (by omega));have a4:=Agh (l:=l) (show 0<=firstDone l.conns 0 by omega) (by omega);exact⟨a1,a2.trans (XR _ _),by omega⟩
theorem Aft {l:SLoader} (h:DA l<=1048576):okTr l:=by
 have c1:=Ad B0 l.conns;have c2:=Ad BX l.guesses;have c3:=Ad Ac l.parts;have c4:=AcA l.conns;simp only[DA] at h;have hi:okAll l.page 2000000 1100000000 10000000:=AdD (by omega);refine⟨⟨⟨_,_,_,hi,by omega,by omega,by omega⟩,⟨fun c hc=>?_,by omega,by omega⟩,by omega,by simp only[szNet] at h;omega⟩,by omega⟩;have:=IS B0 hc;simp only[B0] at this;omega
theorem AgS (l:SLoader) (b:Int) (h:DA l<=1048576):okTr l/\DA (transfer l b).1<=1125899906842624:=by
 have hr:=Aft h;refine⟨hr,?_⟩;unfold transfer;split
 ·exact Qe7 h (by omega)
 ·obtain⟨a1,a2,a3⟩:=Xj l.conns.length (moved l b) (SI hr.1 b);have hf:=Nl a1;have hz:=(Ds (Ek hf.1.1)).1;have hn:=hf.2.2.2.1;have e2:szL B0 (moved l b).conns=szL B0 l.conns:=AcX l.conns b;have e3:szL BX (moved l b).guesses=szL BX l.guesses:=rfl;have e4:(moved l b).parts=l.parts:=rfl;rw[e2,e3] at a3;rw[e4] at a2;simp only[DA] at *
  rw[a2];omega
def lLoaderInt:Fct:=Agb [.el .loader,.el .int]
theorem k3_385:lLoaderInt.ok Tryz.prog 3:=Fct.o (KP [1,2,4,5,6,7,8,9,10,11,12,13,14,15] [20,44,49,65,73,76,92,97,100]) Ail.2 func3 (by
 rintro⟨(l:SLoader),(b:Int),_⟩ hp;refine ho (let q2_:Out:=.leaf (mkR lLoaderInt.rs (true,())) [] [];let q0_:Out:=.leaf (mkR lLoaderInt.rs (false,())) [] [];.cl KH (l,(1048576:Int),()) fun(z2:Int×PUnit)=>.br (decide (z2.1<0)) q2_ (.cl FQ (l,()) fun z3=>.cl CS (z3.1,b,()) fun z4=>.cl FQ (l,()) fun z5=>.cl CS (z5.1,b,()) fun z6=>.cl FM (z6.1,z4.1,()) fun z7=>.br (!z7.1) q0_ (.br (!z6.2.1==z4.2.1) q0_ (.cl FQ (l,()) fun z8=>.cl FM (z5.1,z8.1,()) fun z9=>.br (!z9.1) q0_ (.ob (Eh.pre z5.1 (1:Int))<|.lt _ (Eh.fn z5.1 (1:Int)) fun z10=>.br (decide (z10.2<0)) q0_ (.cl FM (z6.1,z4.1,()) fun z11=>.br (!z11.1) q0_ (.br (!z6.2.1==z4.2.1) q0_ (.ob (Eh.pre z6.1 (1:Int))<|.lt _ (Eh.fn z6.1 (1:Int)) fun z12=>let q1_:=({z12.1 with net:=({z12.1.net with now:=z6.1.net.now}:SNet),page:=({z6.1.page with bi:=({z12.1.page.bi with set_:=z6.1.page.bi.set_,nonce:=z6.1.page.bi.nonce}:SPolicy),bm:=z12.1.page.bm,ba:=z12.1.page.ba,bd:=z12.1.page.bd,bg:=z12.1.page.bg,bf:=z12.1.page.bf,ran:=z12.1.page.ran,log:=z12.1.page.log}:SPage)}:SLoader);.cl Ga (q1_,(1:Int),()) fun(z13:Int×PUnit)=>.br (decide (z13.1<0)) q0_ (.br (z13.1 != z12.2) q0_ (.cl FQ (l,()) fun z14=>.cl CS (z14.1,b,()) fun z15=>.cl FM (z15.1,z4.1,()) fun z16=>.br (!z16.1) q0_ (.br (!z15.2.1==z4.2.1) q0_ (.cl Ga (q1_,(1:Int),()) fun(z17:Int×PUnit)=>.br (decide (z17.1<0)) q0_ (.br (z17.1 != z12.2) q0_ q2_))))))))))))) ?_;refine LU ?_ fun o1 z2 ez2=>(Ab (fun h2=>Fct.leafY ?_) (fun h2=>LU ?_ fun o3 z3 ez3=>(LU ?_ fun o4 z4 ez4=>(LU ?_ fun o5 z5 ez5=>(LU ?_ fun o6 z6 ez6=>(LU ?_ fun o7 z7 ez7=>(Ab (fun h8=>Fct.leafY ?_) (fun h8=>Ab (fun h9=>Fct.leafY ?_) (fun h9=>LU ?_ fun o10 z8 ez8=>(LU ?_ fun o11 z9 ez9=>(Ab (fun h12=>Fct.leafY ?_) (fun h12=>Aa ?_ fun o13=>AiP fun z10 ez10=>(Ab (fun h14=>Fct.leafY ?_) (fun h14=>LU ?_ fun o15 z11 ez11=>(Ab (fun h16=>Fct.leafY ?_) (fun h16=>Ab (fun h17=>Fct.leafY ?_) (fun h17=>Aa ?_ fun o18=>AiP fun z12 ez12=>(LU ?_ fun o19 z13 ez13=>(Ab (fun h20=>Fct.leafY ?_) (fun h20=>Ab (fun h21=>Fct.leafY ?_) (fun h21=>LU ?_ fun o22 z14 ez14=>(LU ?_ fun o23 z15 ez15=>(LU ?_ fun o24 z16 ez16=>(Ab (fun h25=>Fct.leafY ?_) (fun h25=>Ab (fun h26=>Fct.leafY ?_) (fun h26=>LU ?_ fun o27 z17 ez17=>(Ab (fun h28=>Fct.leafY ?_) (fun h28=>Ab (fun h29=>Fct.leafY ?_) (fun h29=>Fct.leafY ?_)))))))))))))))))))))))))))))
 all_goals
  have hlw:=AgS l b;have hg0:Sh.good (.el .loader) l:=hp.1;have hg1:Sh.good (.el .int) b:=hp.2.1;clear hp;try have hbd0:=J9 z5.fst (1:Int)
  try have hbd1:=J9 z6.fst (1:Int)
 all_goals subst_vars
 all_goals
  try simp only[AA] at *
  try simp only[CS,FM,Ga,Eh,KH,FQ,lLoaderInt,std,Nat.reduceAdd,szF,toF,eqF,mkF,heF,decide_true] at *
  try simp only[Rh] at *
 all_goals first|trivial|omega|grind[lessen])
def AmT:=Ail.a lLoaderInt k3_385
section
open Go.ChangeShapes Go.WideShapes Go.ChangeAt Go.RowKit
theorem rowFacts:AfG Tryz.prog Tryz.f3 tyOf [3,4,5,9,25,28,30,33,35,40,45,49,54,57,58,59,60,64,69,73,98,100,104,141,143,146,163,208,214,218,222,227,230,239,245,250,253,270,300,304,308,311,345,355,357,373,413,438] [.el .loader,.el .int]=true:=by kernel_rfl
end
end Go.Proofs.YtjgmhdnhlpckeaaGreatDoor.fnExactTransfer
