/-
  Contracts of functions that the law of FnExactRequestNext reaches, part 8.
-/
import Derived.Test.YtjgmhdnhlpckeaaGreatDoorVPRequestNext3
import Derived.Test.YtjgmhdnhlpckeaaGreatDoorVLe
import Derived.WalkKit
import Derived.BigGuard
import Derived.Deep.QuietTactic
import Derived.BigQuiet
import Derived.Lib.ConvBytes
import Derived.Sort.WalkC
import Derived.Handy
import Derived.Lib.Overlaps
import Derived.Lib.AppendZerosOnto
import Derived.Laws.Externs
import Derived.Shelf.RegionOpenPlain
import Derived.Defers
import Derived.Laws.Pointers
import Derived.Laws.LoneSync
import Derived.RegionCalls
import Derived.ChangeAlike
import Derived.LoopN
import Derived.Lib.SliceRun
import Derived.Shelf.Strconv.AtoiAll
import Derived.Shelf.Small.Strs
import Derived.Test.YtjgmhdnhlpckeaaGreatDoorRows
import Derived.Test.YtjgmhdnhlpckeaaGreatDoorCards
import Derived.LaidMore
import Derived.Lay
import Derived.SevenTiedAt
import Derived.WalkKit
import Derived.ProofKit
import Derived.OpenShut
namespace Go.Proofs.YtjgmhdnhlpckeaaGreatDoor.fnExactRequestNext
open Go.Proofs.YtjgmhdnhlpckeaaGreatDoor
open Go.D Go.Proofs.Tryz
set_option maxRecDepth 100000
set_option maxHeartbeats 2000000
set_option linter.unusedVariables false
set_option linter.unusedSimpArgs false
def Ahs:=Ahk.a Bg<|Fct.p (KP [2,3,4,6,7,10,11,12] [13,29]) (fun⟨p,a,_⟩=>lv [(2,B4 p a)]) Ahk.2 func279 (by
 rintro⟨(p:SPage),(a:SAddr),_⟩ hp;refine ho (.cl Bw (p,a,()) fun z2=>lpx (B4 p a) ((0:Int),(p,(z2.1,()))) fun(y2:Int×SPage×List SAddr×PUnit) bk2=>.br (decide (y2.1<(z2.1.length:Int))) (.ob (inB y2.1 y2.2.2.1.length)<|.ob (y2.1.toNat<y2.2.2.1.length)<|.cl Cd (y2.2.1,y2.2.2.1.getD y2.1.toNat default,()) fun(z3:Int×PUnit)=>.br (decide (z3.1<0)) (.lf Bg (false,())) (.ob (inB z3.1 y2.2.1.bh.length)<|.br (!(y2.2.1.bh.getD z3.1.toNat default).done) (.lf Bg (false,())) (.ob (Value.int IntKind.i64 (z2.1.length:Int)=Value.int IntKind.i64 (z2.1.length:Int))<|.ob (bk2 (w1 y2.1,(y2.2.1,(y2.2.2.1,()))))<|.ok))) (.lf Bg (true,()))) ?_;refine Af ?_ fun o1=>(Ay ?_ fun(y2:Int×SPage×List SAddr×PUnit) i2=>Ab (fun h3=>Aa ?_ fun o4=>Aa ?_ fun o5=>Af ?_ fun o6=>(Ab (fun h7=>lfY ?_) (fun h7=>Aa ?_ fun o8=>Ab (fun h9=>lfY ?_) (fun h9=>Aa rfl fun _=>Aa ?_ fun o10=>trivial)))) (fun h3=>lfY ?_))
 all_goals obtain⟨p1,p2,p3,p4,p5⟩:=(show okVis p a [] [] from hp)
 all_goals
  have hl:=GV (a:=a) p4;try simp only[Az] at *
  try simp only[B4,Bg,Cd,Bw,std,Nat.reduceAdd,Bw,Cd,Hv] at *
 all_goals first|trivial|omega|exact⟨p1,p2,p3,p4,p5⟩|exact⟨by omega,by omega,rfl⟩|skip
 all_goals (obtain⟨⟨⟨i0,i1,i3⟩,e1⟩,e2⟩:=i2;simp only[e1,e2] at *)
 all_goals have hf:=BP p.bh ((reachOf p a).getD y2.1.toNat default)
 all_goals first|assumption|omega|skip
 all_goals first|(rw[VY (by omega)] at i3;exact i3)|rw[AbA (by omega)] at i3
 all_goals first|(rw[<-i3,Qg4 (by omega)];rfl)|(rw[<-i3,Qf3 (by omega),show SModule.done _=false by assumption];rfl)|(rw[Qf3 (by omega),show SModule.done _=true by assumption,Bool.true_and,Bool.true_and] at i3;rw[Ah (by omega),show(y2.1+1).toNat=y2.1.toNat+1 by omega];simp only[Qe1];exact⟨⟨by omega,by omega,i3⟩,by omega⟩))
abbrev BU (p:SPage) (a:SAddr):LInv:=⟨[⟨.s,15,true,.el .int⟩,⟨.b,2,false,.el .page⟩,⟨.s,13,true,.sl .addr⟩],fun(z_ x_:Int×SPage×(List SAddr)×Unit)=>((0<=x_.1/\x_.1<=(reachOf p a).length/\((reachOf p a).drop x_.1.toNat).any (fun b=>!(imports p b).2)=graphFails p a)/\x_.2.1=z_.2.1)/\x_.2.2.1=z_.2.2.1,fun(x_:Int×SPage×(List SAddr)×Unit)=>(reachOf p a).length-x_.1.toNat⟩
def Amj:=Ahs.a BE<|Fct.p (KP [2,3,4,6,7,10,13,14,15] [16,41,56]) (fun⟨p,a,_⟩=>lv [(2,BU p a)]) Ahs.2 func331 (by
 rintro⟨(p:SPage),(a:SAddr),_⟩ hp;refine ho (let q0_:Out:=.lf BE (true,());.cl Bw (p,a,()) fun z2=>let q3_:=(z2.1.length:Int);lpx (BU p a) ((0:Int),(p,(z2.1,()))) fun(y2:Int×SPage×List SAddr×PUnit) bk2=>.br (decide (y2.1<q3_)) (.ob (inB y2.1 y2.2.2.1.length)<|.ob (y2.1.toNat<y2.2.2.1.length)<|.cl Cd (y2.2.1,y2.2.2.1.getD y2.1.toNat default,()) fun(z3:Int×PUnit)=>let q2_:=inB z3.1 y2.2.1.bh.length;let q1_:=y2.2.1.bh.getD z3.1.toNat default;.br (decide (z3.1<0)) q0_ (.ob q2_<|.br (!q1_.done) q0_ (.ob q2_<|.br (q1_.code != 1) q0_ (.ob q2_<|.cl Aw (q1_.body,(y2.2.2.1.getD y2.1.toNat default).host,()) fun z4=>.br (!z4.2.2.1) q0_ (.ob (Value.int IntKind.i64 q3_=Value.int IntKind.i64 q3_)<|.ob (bk2 (w1 y2.1,(y2.2.1,(y2.2.2.1,()))))<|.ok))))) (.lf BE (false,()))) ?_;refine Af ?_ fun o1=>(Ay ?_ fun(y2:Int×SPage×List SAddr×PUnit) i2=>Ab (fun h3=>Aa ?_ fun o4=>Aa ?_ fun o5=>Af ?_ fun o6=>(Ab (fun h7=>lfY ?_) (fun h7=>Aa ?_ fun o8=>Ab (fun h9=>lfY ?_) (fun h9=>Aa ?_ fun o10=>Ab (fun h11=>lfY ?_) (fun h11=>Aa ?_ fun o12=>Af ?_ fun o13=>(Ab (fun h14=>lfY ?_) (fun h14=>Aa rfl fun _=>Aa ?_ fun o15=>trivial))))))) (fun h3=>lfY ?_))
 all_goals obtain⟨p1,p2,p3,p4,p5⟩:=(show okVis p a [] [] from hp)
 all_goals
  have hl:=GV (a:=a) p4;try simp only[Az] at *
  try simp only[BU,BE,Cd,Aw,Bw,std,Nat.reduceAdd,Bw,Cd,Aw,Hv] at *
 all_goals first|trivial|omega|exact⟨p1,p2,p3,p4,p5⟩|exact⟨by omega,by omega,rfl⟩|skip
 all_goals (obtain⟨⟨⟨i0,i1,i3⟩,e1⟩,e2⟩:=i2;simp only[e1,e2] at *)
 all_goals have hf:=BP p.bh ((reachOf p a).getD y2.1.toNat default)
 all_goals first|assumption|omega|exact⟨p2 _ (by omega),Hc (Bl (by omega)) p3⟩|skip
 all_goals first|(rw[XD (by omega)] at i3;exact i3)|rw[AbT (by omega)] at i3
 all_goals first|(rw[IE (by first|exact .inl (by omega)|exact .inr (.inl (by assumption))|exact .inr (.inr (by assumption)))] at i3;rw[<-i3];rfl)|(rw[KU (by omega) (by assumption) (by assumption)] at i3;first|(rw[<-i3];dsimp only;rw[show Prod.snd (Prod.snd (parseModule _ _))=false by assumption];rfl)|(dsimp only at i3;rw[show Prod.snd (Prod.snd (parseModule _ _))=true by assumption,Bool.not_true,Bool.false_or] at i3;rw[Ah (by omega),show(y2.1+1).toNat=y2.1.toNat+1 by omega];simp only[Qe1];exact⟨⟨by omega,by omega,i3⟩,by omega⟩)))
open Go.RowKit Go.Lib Go.Sort in
theorem PJ (w:World):(callFunc 496 #[]).run Tryz.prog w=.ok (.value (.tuple #[])) w:=run_call_mark0 func496 (by kernel_rfl) (by kernel_rfl) (by kernel_rfl) .disable (by kernel_rfl) w
open Go.RowKit Go.Lib Go.Sort in
theorem Sm (w:World):(callFunc 498 #[]).run Tryz.prog w=.ok (.value (.tuple #[])) w:=run_call_mark0 func498 (by kernel_rfl) (by kernel_rfl) (by kernel_rfl) .enable (by kernel_rfl) w
open Go.RowKit Go.Lib Go.Sort in
theorem VA (a:Addr) (w:World):(callFunc 499 #[.pointer (some a)]).run Tryz.prog w=.ok (.value (.tuple #[])) w:=run_call_marked func499 (by kernel_rfl) (by kernel_rfl) (by kernel_rfl) .acquire (by kernel_rfl) a w
open Go.RowKit Go.Lib Go.Sort in
theorem Yj (a:Addr) (w:World):(callFunc 501 #[.pointer (some a)]).run Tryz.prog w=.ok (.value (.tuple #[])) w:=run_call_marked func501 (by kernel_rfl) (by kernel_rfl) (by kernel_rfl) .releaseMerge (by kernel_rfl) a w
open Go.RowKit Go.Lib Go.Sort in
theorem Adn (a:Addr) (x:Value) (u:FrameMode) (w:World) (hc:w.cell? a=some x) (hz:w.frozen? a=false) :
 CallsD Tryz.prog 482 #[.pointer (some a),.bool true] u w fun e u' w'=>u'=u/\(e=.returned (.tuple #[])/\w'=w.drew.setCell a (.int .u32 1)):=by
 have hc':w.drew.cell? a=some x:=by go_simp
 have hz':w.drew.frozen? a=false:=by go_simp
 have hst:=run_call_store (P:=Tryz.prog) func490 (by kernel_rfl) (by kernel_rfl) (by kernel_rfl) (by kernel_rfl) (k:=.u32) (y:=1) hc' hz'
 go_enter_d func482,Tryz.ntmps482
 go_wp2
 go_region_calls
 all_goals (go_end0;exact⟨rfl,rfl⟩)
open Go.RowKit Go.Lib Go.Sort in
theorem AaO (a:Addr) (u:FrameMode) (w:World) (hc:w.cell? a=some (.int .i32 1)) (hz:w.frozen? a=false) :
 CallsD Tryz.prog 481 #[.pointer (some a)] u w fun e u' w'=>u'=u/\(e=.returned (.tuple #[])/\w'=w.setCell a (.int .i32 0)):=by
 have hd:=PJ;have he:=Sm;have hr:=Yj;have hadd:=run_call_add (P:=Tryz.prog) func502 (by kernel_rfl) (by kernel_rfl) (by kernel_rfl) .i32 (by kernel_rfl) (y:=-1) (s:=0) hc hz (by simp[go_sem];rfl);have hcv:=run_convert_to_unsafe (P:=Tryz.prog) (src:=530) (dst:=426) Tryz.underlying530 Tryz.underlying426 (by kernel_rfl) hc
 go_enter_d func481,Tryz.ntmps481
 go_wp2
 try go_end0
 go_wp2
 all_goals (try go_end0)
 all_goals exact⟨rfl,rfl⟩
open Go.RowKit Go.Lib Go.Sort in
theorem Aga (a:Addr) (w:World) (hc:w.cell? a=some (.int .i32 0)) (hz:w.frozen? a=false) :
 Calls Tryz.prog 480 #[.pointer (some a)] w fun e w'=>e=.returned (.tuple #[])/\w'=w.setCell a (.int .i32 1):=by
 have hd:=PJ;have he:=Sm;have ha:=VA;have hcas:=run_call_cas_hit (P:=Tryz.prog) func497 (by kernel_rfl) (by kernel_rfl) (by kernel_rfl) .i32 (by kernel_rfl) (y:=1) hc hz;have hc':(w.setCell a (.int .i32 1)).cell? a=some (.int .i32 1):=World.cell?_setCell_same w a _ hc;have hcv:=run_convert_to_unsafe (P:=Tryz.prog) (src:=530) (dst:=426) Tryz.underlying530 Tryz.underlying426 (by kernel_rfl) hc'
 go_enter func480,Tryz.ntmps480
 go_wp2
 first|go_end0|(simp only[Exit.inBlock,Exit.then];refine bodyPost_ret (results_none rfl _ _ _) rfl ?_)|refine bodyPost_ret (results_none rfl _ _ _) rfl ?_
 go_wp2
 all_goals (try go_end0)
 all_goals exact⟨rfl,rfl⟩
open Go.RowKit Go.Lib Go.Sort in
theorem AbU:Tryz.zeroCells499=Array.replicate 256 (.int .u8 0):=by kernel_rfl
open Go.RowKit Go.Lib Go.Sort in
theorem AgU (w:World):(storeCells ⟨w.heap.size,0,none⟩ Tryz.zeroCells499.toList 0).run Tryz.prog (w.alloc (.cells Tryz.zeroCells499 499))=.ok () (w.alloc (.cells Tryz.zeroCells499 499)):=run_storeCells_new (P:=Tryz.prog) w 499 Tryz.zeroCells499 Tryz.zeroCells499 (by kernel_rfl) rfl (by kernel_rfl)
open Go.RowKit Go.Lib Go.Sort in
theorem Aer (b c cap:Nat) (w:World) (h4:w.cell? ⟨b,4,none⟩=some (.slice (some ⟨c,0,none⟩) 4 cap)) (c0:w.cell? ⟨c,0,none⟩=some (.string ⟨#[91]⟩)) (c1:w.cell? ⟨c,1,none⟩=some (.string ⟨#[60]⟩)) (c2:w.cell? ⟨c,2,none⟩=some (.string ⟨#[93]⟩)) (c3:w.cell? ⟨c,3,none⟩=some (.string ⟨#[62]⟩)) (hbw:b<w.heap.size) (hcw:c<w.heap.size) :
 Calls Tryz.prog 471 #[.pointer (some ⟨b,0,none⟩)] w fun e w'=>e=.returned (.iface 500 (.pointer (some ⟨w.heap.size,0,none⟩)))/\∃ r:Array Value,w'=w.alloc (.cells r 499)/\r.size=256/\∀ t:Nat,t<256->r[t]? = some (.int .u8 (if t=91 then 60 else if t=93 then 62 else t)):=by
 have hsc:=AgU w;have hcv:∀ (r:Array Value) (j:Nat),(w.alloc (.cells r 499)).cell? ⟨c,j,none⟩=w.cell? ⟨c,j,none⟩:=fun r j=>by rw[World.cell?_alloc_past _ _ _ hcw]
 go_enter func471,Tryz.ntmps471
 go_wp2
 refine wp_loop_rounds 3 ?_;repeat any_goals (rw[rounds_succ];go_wp2)
 go_loopw [61] (fun vi wr=>∃ (i:Nat) (r:Array Value),vi=.int .i64 i/\i<=256/\r.size=256/\wr=w.alloc (.cells r 499)/\∀ t:Nat,t<256->r[t]? = some (.int .u8 (if t<i then t else 0))) (fun vi _=>257-(RowKit.intOf vi).toNat)
 case atStart=>exact⟨0,Tryz.zeroCells499,rfl,by omega,by rw[AbU];simp,rfl,fun t ht=>by rw[AbU,Array.getElem?_replicate,Qa2 ht,Qa3 (by omega)]⟩
 case round=>
  obtain⟨i,r,rfl,hi,hs,rfl,hr⟩:=hrel;by_cases h1:i<256
  ·have hcell:=Ep w r 499 i;have hfz:=Ns w r 499 i;rw[hr i h1,Qa3 (by omega)] at hcell;have hR:Hid (∀ t:Nat,t<256->r[t]? = some (.int .u8 (if t<i then t else 0))):=hr;have hx:IntKind.u8.wrap (i:Int)=i:=by simp[IntKind.wrap,IntKind.bits,IntKind.signed];omega
   clear hr
   go_wp2
   case roundEnd=>
    refine⟨⟨i+1,r.setIfInBounds i (.int .u8 i),rfl,h1,by rw[Array.size_setIfInBounds,hs],by first|rfl|(rw[hx];exact P2 _ _ _ _ _),fun t ht=>?_⟩,by simp only[RowKit.intOf];omega⟩;rw[SD (by omega)];by_cases he:t=i
    ·subst he;rw[Qa2 rfl,Qa2 (by omega)]
    ·rw[Qa3 he,hR.out t ht];by_cases h3:t<i
     ·rw[Qa2 h3,Qa2 (by omega)]
     ·rw[Qa3 h3,Qa3 (by omega)]
  ·have hie:i=256:=by omega
   subst hie;have hR:Hid (∀ t:Nat,t<256->r[t]? = some (.int .u8 (if t<256 then t else 0))):=hr;clear hr;have d0:=(hcv r 0).trans c0;have d1:=(hcv r 1).trans c1;have d2:=(hcv r 2).trans c2;have d3:=(hcv r 3).trans c3;have q1:((⟨#[93]⟩:ByteArray)[0]'(by decide)).toNat=93:=rfl;have q2:((⟨#[91]⟩:ByteArray)[0]'(by decide)).toNat=91:=rfl;have q3:((⟨#[62]⟩:ByteArray)[0]'(by decide)).toNat=62:=rfl;have q4:((⟨#[60]⟩:ByteArray)[0]'(by decide)).toNat=60:=rfl;have f1:=Ns w r 499 93;have e1:=Ep w r 499 93;have s1:=P2 w r 499 93 (.int .u8 62);have f2:=Ns w (r.setIfInBounds 93 (.int .u8 62)) 499 91;have e2:=Ep w (r.setIfInBounds 93 (.int .u8 62)) 499 91;have s2:=P2 w (r.setIfInBounds 93 (.int .u8 62)) 499 91 (.int .u8 60);rw[hR.out 93 (by omega),Qa2 (by omega)] at e1;rw[SD (by omega),Qa3 (by omega),hR.out 91 (by omega),Qa2 (by omega)] at e2;have g0:=(hcv (r.setIfInBounds 93 (.int .u8 62)) 0).trans c0;have g1:=(hcv (r.setIfInBounds 93 (.int .u8 62)) 1).trans c1
   go_wp2
   refine wp_loop_rounds 3 ?_;repeat any_goals (rw[rounds_succ];go_wp2)
   refine bodyPost_ret (results_tmp rfl _ _ _) rfl ?_;refine⟨rfl,_,rfl,by rw[Array.size_setIfInBounds,Array.size_setIfInBounds,hs],fun t ht=>?_⟩;rw[SD (by rw[Array.size_setIfInBounds];omega),SD (by omega),hR.out t ht,Qa2 ht];by_cases h9:t=91
   ·rw[Qa2 h9,Qa2 h9]
   ·rw[Qa3 h9,Qa3 h9];by_cases h3:t=93
    ·rw[Qa2 h3,Qa2 h3]
    ·rw[Qa3 h3,Qa3 h3]
open Go.RowKit Go.Lib Go.Sort in
def mrow (r:Array Value):Prop:=r.size=256/\∀ t:Nat,t<256->r[t]? = some (.int .u8 (if t=91 then 60 else if t=93 then 62 else t))
open Go.RowKit in
structure MRep (w:World) (b c cap:Nat):Prop where
 v0:w.cell? ⟨b,0,none⟩=some (.int .u32 0)
 v1:w.cell? ⟨b,1,none⟩=some (.int .i32 0)
 v3:w.cell? ⟨b,3,none⟩=some .nilIface
 v4:w.cell? ⟨b,4,none⟩=some (.slice (some ⟨c,0,none⟩) 4 cap)
 f0:w.frozen? ⟨b,0,none⟩=false
 f1:w.frozen? ⟨b,1,none⟩=false
 f3:w.frozen? ⟨b,3,none⟩=false
 f4:w.frozen? ⟨b,4,none⟩=false
 c0:w.cell? ⟨c,0,none⟩=some (.string ⟨#[91]⟩)
 c1:w.cell? ⟨c,1,none⟩=some (.string ⟨#[60]⟩)
 c2:w.cell? ⟨c,2,none⟩=some (.string ⟨#[93]⟩)
 c3:w.cell? ⟨c,3,none⟩=some (.string ⟨#[62]⟩)
 lb:b<w.heap.size
 lc:c<w.heap.size
 ne:¬ c=b
open Go.RowKit Go.Lib Go.Sort in
theorem Afg (b c cap:Nat) (w:World) (h3:∃ x,w.cell? ⟨b,3,none⟩=some x) (h4:w.cell? ⟨b,4,none⟩=some (.slice (some ⟨c,0,none⟩) 4 cap)) (f3:w.frozen? ⟨b,3,none⟩=false) (f4:w.frozen? ⟨b,4,none⟩=false) (c0:w.cell? ⟨c,0,none⟩=some (.string ⟨#[91]⟩)) (c1:w.cell? ⟨c,1,none⟩=some (.string ⟨#[60]⟩)) (c2:w.cell? ⟨c,2,none⟩=some (.string ⟨#[93]⟩)) (c3:w.cell? ⟨c,3,none⟩=some (.string ⟨#[62]⟩)) (hbw:b<w.heap.size) (hcw:c<w.heap.size) :
 Calls Tryz.prog 461 #[.pointer (some ⟨b,0,none⟩)] w fun e w'=>e=.returned (.tuple #[])/\∃ r:Array Value,w'=((w.setCell ⟨b,3,none⟩ (.iface 500 (.pointer (some ⟨w.heap.size,0,none⟩)))).setCell ⟨b,4,none⟩ (.slice none 0 0)).alloc (.cells r 499)/\mrow r:=by
 obtain⟨x,h3⟩:=h3;have k3:∀ r,(w.alloc (.cells r 499)).cell? ⟨b,3,none⟩=some x:=fun r=>by rw[World.cell?_alloc_past _ _ _ hbw];exact h3
 have k4:∀ r,(w.alloc (.cells r 499)).cell? ⟨b,4,none⟩=some (.slice (some ⟨c,0,none⟩) 4 cap):=fun r=>by rw[World.cell?_alloc_past _ _ _ hbw];exact h4
 have g3:∀ r,(w.alloc (.cells r 499)).frozen? ⟨b,3,none⟩=false:=fun r=>by rw[World.frozen?_alloc_past _ _ _ hbw];exact f3
 have g4:∀ r,(w.alloc (.cells r 499)).frozen? ⟨b,4,none⟩=false:=fun r=>by rw[World.frozen?_alloc_past _ _ _ hbw];exact f4
 go_enter func461,Tryz.ntmps461
 go_wp2_with (go_at_call 471;refine(Aer b c cap w h4 c0 c1 c2 c3 hbw hcw).mono ?_;rintro e w' ⟨rfl,r,rfl,hr⟩)
 go_wp2
 try go_end0
 exact⟨rfl,r,rfl,hr⟩
open Go.RowKit Go.Lib Go.Sort in
def mW (w:World) (b:Nat) (r:Array Value):World:=(((((w.setCell ⟨b,1,none⟩ (.int .i32 1)).setCell ⟨b,3,none⟩ (.iface 500 (.pointer (some ⟨w.heap.size,0,none⟩)))).setCell ⟨b,4,none⟩ (.slice none 0 0)).alloc (.cells r 499)).drew.setCell ⟨b,0,none⟩ (.int .u32 1)).setCell ⟨b,1,none⟩ (.int .i32 0)
open Go.RowKit Go.Lib Go.Sort in
theorem AfT (b c cap:Nat) (w:World) (H:MRep w b c cap) :
 Calls Tryz.prog 470 #[.pointer (some ⟨b,0,none⟩),.func (.func 461) #[.pointer (some ⟨b,0,none⟩)] #[]] w fun e w'=>e=.returned (.tuple #[])/\∃ r:Array Value,mrow r/\w'=mW w b r:=by
 obtain⟨v0,v1,v3,v4,f0,f1,f3,f4,c0,c1,c2,c3,lb,lc,ne⟩:=H;have oth:∀ (a:Addr) (v:Value) (d:Addr),d≠a->(w.setCell a v).cell? d=w.cell? d:=fun a v d h=>World.cell?_setCell_other _ a d v (fun e=>h e.symm)
 have n1:∀ j:Nat,(⟨c,j,none⟩:Addr)≠⟨b,1,none⟩:=fun j h=>ne (Qg8 Addr.block h)
 have hl:=run_call_load (P:=Tryz.prog) func479 (by kernel_rfl) (by kernel_rfl) (by kernel_rfl) .u32 (by kernel_rfl) (w:=w.setCell ⟨b,1,none⟩ (.int .i32 1)) (a:=⟨b,0,none⟩) (x:=0) ((oth _ _ _ (by simp)).trans v0);have hnot:∀ (x:Bool) (w:World),(Op.unary .not (.bool x)).run Tryz.prog w=.ok (.bool (!x)) w:=fun _ _=>rfl
 go_enter_defers func470,Tryz.ntmps470
 have o1:∀ d:Addr,d≠⟨b,1,none⟩->(w.setCell ⟨b,1,none⟩ (.int .i32 1)).cell? d=w.cell? d:=fun d h=>oth _ _ d h
 have fz:∀ (v:Value) (d:Addr),(w.setCell ⟨b,1,none⟩ v).frozen? d=w.frozen? d:=fun v d=>World.frozen?_setCell _ _ _ _
 go_wp2_with (first
  | (go_at_call 480;refine(Aga ⟨b,1,none⟩ _ (by go_simp) (by go_simp)).mono ?_;rintro e w' ⟨rfl,rfl⟩)
  | (go_at_call 469;go_in))
 refine(Afg b c cap (w.setCell ⟨b,1,none⟩ (.int .i32 1)) ⟨_,(o1 _ (by simp)).trans v3⟩ ((o1 _ (by simp)).trans v4) ((fz _ _).trans f3) ((fz _ _).trans f4) ((o1 _ (n1 0)).trans c0) ((o1 _ (n1 1)).trans c1) ((o1 _ (n1 2)).trans c2) ((o1 _ (n1 3)).trans c3) (by rw[World.size_setCell];exact lb) (by rw[World.size_setCell];exact lc)).mono ?_;rintro e w' ⟨rfl,r,rfl,hr⟩
 go_wp2
 refine leaves_cons (f:=482) (args := #[.pointer (some ⟨b,0,none⟩),.bool true]) (by simp) (by simp[go_sem]) ?_;refine(Adn ⟨b,0,none⟩ (.int .u32 0) .returning _ ?_ (by rw[World.frozen?_alloc_past _ _ _ (by simpa using lb),World.frozen?_setCell,World.frozen?_setCell,World.frozen?_setCell];exact f0)).mono ?_
 ·rw[World.cell?_alloc_past _ _ _ (by simpa using lb),World.cell?_setCell_other _ _ _ _ (by simp),World.cell?_setCell_other _ _ _ _ (by simp),World.cell?_setCell_other _ _ _ _ (by simp)];exact v0
 rintro e u' w'' ⟨rfl,rfl,rfl⟩;refine leaves_cons (f:=481) (args := #[.pointer (some ⟨b,1,none⟩)]) (by simp[settle]) (by simp[go_sem]) ?_;refine(AaO ⟨b,1,none⟩ _ _ ?_ (by rw[World.frozen?_setCell,World.frozen?_drew,World.frozen?_alloc_past _ _ _ (by simpa using lb),World.frozen?_setCell,World.frozen?_setCell,World.frozen?_setCell];exact f1)).mono ?_
 ·rw[World.cell?_setCell_other _ _ _ _ (by simp),World.cell?_drew,World.cell?_alloc_past _ _ _ (by simpa using lb),World.cell?_setCell_other _ _ _ _ (by simp),World.cell?_setCell_other _ _ _ _ (by simp)];exact World.cell?_setCell_same w _ _ v1
 rintro e u' w'' ⟨rfl,rfl,rfl⟩;simp[Leaves,settle,results,Tryz.results470];exact⟨r,hr,rfl⟩
open Go.RowKit Go.Lib Go.Sort in
theorem Ae4 (x:UInt8):((mk8 x).toNat:Int)=(if x.toNat=91 then(60:Int) else if x.toNat=93 then 62 else(x.toNat:Int)):=by
 unfold mk8;by_cases h:x=91
 ·subst h;rfl
 ·have h':¬ x.toNat=91:=fun e=>h (UInt8.toNat_inj.1 e)
  rw[Qa3 h,Qa3 h'];by_cases h2:x=93
  ·subst h2;rfl
  ·have h3:¬ x.toNat=93:=fun e=>h2 (UInt8.toNat_inj.1 e)
   rw[Qa3 h2,Qa3 h3]
open Go.RowKit Go.Lib Go.Sort in
theorem Ahc (k:Nat) (s:ByteArray) (hs1:s.size<=1000000000000) (w:World) (hkw:k<w.heap.size) (hk:∀ x:UInt8,w.cell? ⟨k,x.toNat,none⟩=some (.int .u8 (mk8 x).toNat)) :
 Calls Tryz.prog 538 #[.pointer (some ⟨k,0,none⟩),.string s] w fun e w'=>e=.returned (.string (markup s))/\(w'=w\/∃ dk,dk.size=s.data.size/\w'=putRow enc8 (bytesWorld w 5 s) w.heap.size 0 dk):=by
 have hcv:=fun(w:World)=>Lib.run_convert_string_bytes w 9 291 5 s Tryz.underlying9 Tryz.underlying291 Tryz.underlying5
 have hH:=KD w 5 s;have hsz:s.data.size=s.size:=rfl;have qT:∀ (w:World) (a:Option Addr) (n c n' c':Nat),(binOp .eql 291 (.slice a n c) (.slice none n' c')).run Tryz.prog w=.ok (.bool a.isNone) w:=fun w a n c n' c'=>Lib.run_eql_slice_nil w _ _ a n c n' c' Tryz.underlying291
 go_enter func538,Tryz.ntmps538
 go_wp2
 have hk1:∀ x:UInt8,(bytesWorld w 5 s).cell? ⟨k,x.toNat,none⟩=some (.int .u8 (mk8 x).toNat):=fun x=>by rw[<-hk x];simp only[World.cell?,bytesWorld_at_old w 5 s k hkw]
 generalize hW1:bytesWorld w 5 s=W1 at *
 go_loopw [5,6] (fun v5 vi wr=>∃ (i:Nat),vi=.int .i64 i/\i<=s.size/\((v5=.slice none 0 0/\wr=w/\∀ t,t<i->s.data[t]! = mk8 s.data[t]!) \/
  (∃ dk:Array UInt8,v5=.slice (some ⟨w.heap.size,0,none⟩) s.size (grownCap w s.size 0 5)/\dk.size=s.data.size/\wr=putRow enc8 W1 w.heap.size 0 dk/\∀ t,t<s.size->dk[t]! = if t<i then mk8 s.data[t]! else s.data[t]!))) (fun _ vi _=>s.size+1-(RowKit.intOf vi).toNat)
 case atStart=>exact⟨0,rfl,by omega,.inl ⟨rfl,rfl,fun t ht=>by omega⟩⟩
 case round=>
  obtain⟨i,rfl,hi,hrel⟩:=hrel;by_cases h1:i<s.size
  ·have hxi:s.data[i]! = s[i]'h1:=by rw[getElem!_pos s.data i h1];rfl
   have hlt:=(s[i]'h1).toNat_lt;rcases hrel with⟨rfl,rfl,hd⟩|⟨dk,rfl,hsk,hw,hd⟩
   ·by_cases hm:mk8 (s[i]'h1)=s[i]'h1
    ·have hne:(((mk8 (s[i]'h1)).toNat:Int) != ((s[i]'h1).toNat:Int))=false:=by rw[hm];simp
     have hD:Hid (∀ t,t<i->s.data[t]! = mk8 s.data[t]!):=hd;clear hd
     go_wp2
     case roundEnd=>
      exact⟨⟨i+1,rfl,h1,.inl ⟨by first|rfl|trivial,by first|rfl|trivial,fun t ht=>by
       by_cases e:t=i
       ·subst e;rw[hxi,hm]
       ·exact hD.out t (by omega)⟩⟩,by simp only[RowKit.intOf];omega⟩
     all_goals (exfalso;omega)
    ·have hne:(((mk8 (s[i]'h1)).toNat:Int) != ((s[i]'h1).toNat:Int))=true:=by rw[bne_iff_ne];intro e;exact hm (UInt8.toNat_inj.1 (Int.ofNat.inj e))
     have hfz:=(hH i h1).2;have hcd:=(hH i h1).1;rw[Qd4] at hfz hcd;have hst:=putRow_set enc8 W1 wr.heap.size 0 s.data i (mk8 (s[i]'h1)) h1;rw[Qd4,putRow_self _ _ _ _ _ hH] at hst;dsimp only[enc8] at hcd hst;have hD:Hid (∀ t,t<i->s.data[t]! = mk8 s.data[t]!):=hd;have hS:Hid (_=_):=hst;clear hd hst hH
     go_wp2
     case roundEnd=>
      have st:=Hi (s:=s) (dk:=s.data) (y:=mk8 (s[i]'h1)) h1 rfl (fun t ht=>by
       by_cases e:t<i
       ·rw[Qa2 e];exact hD.out t e
       ·rw[Qa3 e]) (by rw[hxi])
      exact⟨⟨i+1,rfl,h1,.inr ⟨s.data.setIfInBounds i (mk8 (s[i]'h1)),by first|rfl|trivial,st.1,hS.out,st.2⟩⟩,by simp only[RowKit.intOf];omega⟩
     all_goals (exfalso;omega)
   ·have hkr:∀ x:UInt8,wr.cell? ⟨k,x.toNat,none⟩=some (.int .u8 (mk8 x).toNat):=fun x=>by rw[hw,cell?_putRow_other _ _ _ _ _ _ (.inl (by show k≠w.heap.size;omega))];exact hk1 x
    have hD:Hid (∀ t,t<s.size->dk[t]! = if t<i then mk8 s.data[t]! else s.data[t]!):=hd;have hW:Hid (wr=putRow enc8 W1 w.heap.size 0 dk):=hw;by_cases hm:mk8 (s[i]'h1)=s[i]'h1
    ·have hne:(((mk8 (s[i]'h1)).toNat:Int) != ((s[i]'h1).toNat:Int))=false:=by rw[hm];simp
     clear hd hw hH
     go_wp2
     case roundEnd=>
      exact⟨⟨i+1,rfl,h1,.inr ⟨dk,by first|rfl|trivial,hsk,hW.out,Sb h1 hsk hD.out (by rw[hxi,hm])⟩⟩,by simp only[RowKit.intOf];omega⟩
     all_goals (exfalso;omega)
    ·have hne:(((mk8 (s[i]'h1)).toNat:Int) != ((s[i]'h1).toNat:Int))=true:=by rw[bne_iff_ne];intro e;exact hm (UInt8.toNat_inj.1 (Int.ofNat.inj e))
     have hcd:=cell?_putRow enc8 W1 w.heap.size 0 s.data dk hH hsk i (by omega);have hfz:wr.frozen? ⟨w.heap.size,0+i,none⟩=false:=by rw[hw,frozen?_putRow];exact(hH i (by omega)).2
     rw[<-hw,Qd4] at hcd;rw[Qd4] at hfz;have hst:=putRow_set enc8 W1 w.heap.size 0 dk i (mk8 (s[i]'h1)) (by omega);rw[Qd4] at hst;dsimp only[enc8] at hcd hst;have hS:Hid (_=_):=hst;clear hd hw hst hH
     go_wp2
     case roundEnd=>
      have st:=Hi (s:=s) (dk:=dk) (y:=mk8 (s[i]'h1)) h1 hsk hD.out (by rw[hxi]);exact⟨⟨i+1,rfl,h1,.inr ⟨dk.setIfInBounds i (mk8 (s[i]'h1)),by first|rfl|trivial,st.1,by rw[hW.out];exact hS.out,st.2⟩⟩,by simp only[RowKit.intOf];omega⟩
     all_goals (exfalso;omega)
  ·have hie:i=s.size:=by omega
   subst hie;rcases hrel with⟨rfl,rfl,hd⟩|⟨dk,rfl,hsk,hw,hd⟩
   ·have hfin:Hid (markup s=s):=by
     show markup s=s;unfold markup ofL;have:(toL s).map mk8=toL s:=by
      apply List.ext_getElem (by simp);intro k h2 h3;have hk:k<s.size:=by simpa [Bx] using h3
      have:=hd k hk;rw[getElem!_pos s.data k hk] at this;simp[toL,<-this]
     rw[this];exact C9 s
    have hD:Hid _:=hd;clear hd
    go_wp2
    go_ret
    exact⟨by simp[hfin.out],.inl rfl⟩
   ·have hback:=run_convert_bytes_back (P:=Tryz.prog) wr 291 9 5 ⟨w.heap.size,0,none⟩ (grownCap w s.size 0 5) dk.toList Tryz.underlying291 Tryz.underlying5 Tryz.underlying9 (fun j hj=>by
     have hj2:j<dk.size:=by simpa using hj
     have:=cell?_putRow enc8 W1 w.heap.size 0 s.data dk hH hsk j hj2;rw[<-hw] at this;rw[Addr.add_lit,this];simp[getElem!_pos dk j hj2])
    have hl:dk.toList.length=s.size:=by simpa using hsk
    rw[hl,hw] at hback;have hfin:markup s=⟨dk.toList.toArray⟩:=by
     unfold markup ofL;congr 2;apply List.ext_getElem (by simp[Bx,hl]);intro k h2 h3;have hk:k<s.size:=by omega
     have:=hd k hk;rw[Qa2 hk,getElem!_pos dk k (by omega),getElem!_pos s.data k hk] at this;simp[toL,this]
    have hfin:Hid _:=hfin;have hw:Hid _:=hw
    go_wp2
    go_ret
    exact⟨by rw[hfin.out];simp,.inr ⟨dk,hsk,by rw[hW1];first|done|exact hw.out⟩⟩
open Go.RowKit Go.Lib Go.Sort in
theorem Amb (b c cap:Nat) (w:World) (H:MRep w b c cap) :
 Calls Tryz.prog 460 #[.pointer (some ⟨b,0,none⟩),.func (.func 461) #[.pointer (some ⟨b,0,none⟩)] #[]] w fun e w'=>e=.returned (.tuple #[])/\∃ r:Array Value,mrow r/\w'=mW w b r:=by
 have h0:=H.v0;have hl:=run_call_load (P:=Tryz.prog) func479 (by kernel_rfl) (by kernel_rfl) (by kernel_rfl) .u32 (by kernel_rfl) h0;have hnot:∀ (x:Bool) (w:World),(Op.unary .not (.bool x)).run Tryz.prog w=.ok (.bool (!x)) w:=fun _ _=>rfl
 go_enter func460,Tryz.ntmps460
 go_wp2_with (first|(go_at_call 470;refine(AfT b c cap _ H).mono ?_;rintro e w' ⟨rfl,r,hr,rfl⟩)|(go_at_call 469;go_in))
 try go_end0
 exact⟨rfl,r,hr,rfl⟩
open Go.RowKit Go.Lib Go.Sort in
theorem Ac9 (w:World) (b:Nat) (r:Array Value) (lb:b<w.heap.size) (x:Value) (v3:w.cell? ⟨b,3,none⟩=some x):(mW w b r).cell? ⟨b,3,none⟩=some (.iface 500 (.pointer (some ⟨w.heap.size,0,none⟩))):=by
 unfold mW;rw[World.cell?_setCell_other _ _ _ _ (by simp),World.cell?_setCell_other _ _ _ _ (by simp),World.cell?_drew,World.cell?_alloc_past _ _ _ (by simpa using lb),World.cell?_setCell_other _ _ _ _ (by simp)];exact World.cell?_setCell_same _ _ _ ((World.cell?_setCell_other _ _ _ _ (by simp)).trans v3)
open Go.RowKit Go.Lib Go.Sort in
theorem Af7 (w:World) (b:Nat) (r:Array Value) (lb:b<w.heap.size) (t:Nat):(mW w b r).cell? ⟨w.heap.size,t,none⟩=r[t]?:=by
 have nb:∀ j:Nat,(⟨b,j,none⟩:Addr)≠⟨w.heap.size,t,none⟩:=fun j h=>by have:=Qg8 Addr.block h;simp at this;omega
 unfold mW;rw[World.cell?_setCell_other _ _ _ _ (nb _),World.cell?_setCell_other _ _ _ _ (nb _),World.cell?_drew];have e:=Ep (((w.setCell ⟨b,1,none⟩ (.int .i32 1)).setCell ⟨b,3,none⟩ (.iface 500 (.pointer (some ⟨w.heap.size,0,none⟩)))).setCell ⟨b,4,none⟩ (.slice none 0 0)) r 499 t;rw[World.size_setCell,World.size_setCell,World.size_setCell] at e;exact e
open Go.RowKit Go.Lib Go.Sort in
theorem Wz (w:World) (b:Nat) (r:Array Value):(mW w b r).heap.size=w.heap.size+1:=by
 unfold mW;simp
open Go.RowKit Go.Lib Go.Sort in
theorem VL (b c cap:Nat) (s:ByteArray) (hs:s.size<=1000000000000) (w:World) (H:MRep w b c cap) :
 Calls Tryz.prog 452 #[.pointer (some ⟨b,0,none⟩),.string s] w fun e w'=>e=.returned (.string (markup s))/\∃ r,mrow r/\(w'=mW w b r\/∃ dk,w'=Go.Sort.putRow enc8 (Lib.bytesWorld (mW w b r) 5 s) (mW w b r).heap.size 0 dk):=by
 have hmf:∀ (fn:Fn) (first cap:Array Value) (w:World),(Instr.makeFunc fn first cap).run Tryz.prog w=.ok (.func fn first cap) w:=fun _ _ _ _=>rfl
 have H':Hid (MRep w b c cap):=H;clear H
 go_enter func452,Tryz.ntmps452
 go_wp2_with (first|(go_at_call 460;refine(Amb b c cap _ H'.out).mono ?_;rintro e w' ⟨rfl,r,hr,hw⟩;(have h3:w'.cell? ⟨b,3,none⟩=some (.iface 500 (.pointer (some ⟨w.heap.size,0,none⟩))):=by rw[hw];exact Ac9 w b r H'.out.lb _ H'.out.v3);(have hW:Hid (w'=mW w b r):=hw);(have hR:Hid (mrow r):=hr);clear hw hr))
 refine(Ahc w.heap.size s hs w' (by rw[hW.out,Wz];omega) (fun x=>by rw[hW.out,Af7 _ _ _ H'.out.lb,hR.out.2 _ x.toNat_lt,Ae4])).mono ?_;rintro e w'' ⟨rfl,h⟩;have hh:Hid (w''=w'\/∃ dk,dk.size=s.data.size/\w''=Go.Sort.putRow enc8 (Lib.bytesWorld w' 5 s) w'.heap.size 0 dk):=h;clear h
 go_wp2
 go_ret
 refine⟨rfl,r,hR.out,?_⟩;rcases hh.out with h|⟨dk,_,h⟩
 ·exact .inl (h.trans hW.out)
 ·exact .inr ⟨dk,by rw[h,hW.out]⟩
open Go.RowKit Go.Lib Go.Sort in
def mN (w:World) (cap:Nat) (x:Array Value):World :=
 ((w.alloc (.cells (#[.string ⟨#[91]⟩,.string ⟨#[60]⟩,.string ⟨#[93]⟩,.string ⟨#[62]⟩]++x) 9)).alloc (.cells #[.int .u32 0,.int .i32 0,.int .u32 0,.nilIface,.slice (some ⟨w.heap.size,0,none⟩) 4 cap] 473)).drew
open Go.RowKit Go.Lib Go.Sort in
theorem AgG (a cap:Nat) (w:World) (c0:w.cell? ⟨a,0,none⟩=some (.string ⟨#[91]⟩)) (c1:w.cell? ⟨a,1,none⟩=some (.string ⟨#[60]⟩)) (c2:w.cell? ⟨a,2,none⟩=some (.string ⟨#[93]⟩)) (c3:w.cell? ⟨a,3,none⟩=some (.string ⟨#[62]⟩)) (la:a<w.heap.size) :
 Calls Tryz.prog 451 #[.slice (some ⟨a,0,none⟩) 4 cap] w fun e w'=>e=.returned (.pointer (some ⟨w.heap.size+1,0,none⟩))/\∃ cap2 x,w'=mN w cap2 x:=by
 go_enter func451,Tryz.ntmps451
 go_wp2
 go_ret
 exact⟨rfl,_,_,rfl⟩
open Go.RowKit Go.Lib Go.Sort in
theorem Yc (w:World) (cap:Nat) (x:Array Value):(mN w cap x).heap.size=w.heap.size+2:=by unfold mN;simp
open Go.RowKit Go.Lib Go.Sort in
theorem AfI (w:World) (cap:Nat) (x:Array Value):MRep (mN w cap x) (w.heap.size+1) w.heap.size cap:=by
 have hb:∀ j,(mN w cap x).cell? ⟨w.heap.size+1,j,none⟩ = #[Value.int .u32 0,.int .i32 0,.int .u32 0,.nilIface,.slice (some ⟨w.heap.size,0,none⟩) 4 cap][j]?:=fun j=>by unfold mN;rw[World.cell?_drew];have e:=Ep (w.alloc (.cells (#[.string ⟨#[91]⟩,.string ⟨#[60]⟩,.string ⟨#[93]⟩,.string ⟨#[62]⟩]++x) 9)) #[.int .u32 0,.int .i32 0,.int .u32 0,.nilIface,.slice (some ⟨w.heap.size,0,none⟩) 4 cap] 473 j;rw[World.size_alloc] at e;exact e
 have hf:∀ j,(mN w cap x).frozen? ⟨w.heap.size+1,j,none⟩=false:=fun j=>by unfold mN;rw[World.frozen?_drew];have e:=Ns (w.alloc (.cells (#[.string ⟨#[91]⟩,.string ⟨#[60]⟩,.string ⟨#[93]⟩,.string ⟨#[62]⟩]++x) 9)) #[.int .u32 0,.int .i32 0,.int .u32 0,.nilIface,.slice (some ⟨w.heap.size,0,none⟩) 4 cap] 473 j;rw[World.size_alloc] at e;exact e
 have hc:∀ j,(mN w cap x).cell? ⟨w.heap.size,j,none⟩=(#[.string ⟨#[91]⟩,.string ⟨#[60]⟩,.string ⟨#[93]⟩,.string ⟨#[62]⟩]++x)[j]?:=fun j=>by unfold mN;rw[World.cell?_drew,World.cell?_alloc_past _ _ _ (by rw[World.size_alloc];omega)];exact Ep _ _ _ _
 have hl:∀ j (v:Value),#[Value.string ⟨#[91]⟩,.string ⟨#[60]⟩,.string ⟨#[93]⟩,.string ⟨#[62]⟩][j]? = some v->(#[Value.string ⟨#[91]⟩,.string ⟨#[60]⟩,.string ⟨#[93]⟩,.string ⟨#[62]⟩]++x)[j]? = some v:=fun j v h=>by rw[Array.getElem?_append_left (by have:=(Array.getElem?_eq_some_iff.1 h).1;exact this)];exact h
 exact⟨hb 0,hb 1,hb 3,hb 4,hf 0,hf 1,hf 3,hf 4,(hc 0).trans (hl 0 _ rfl),(hc 1).trans (hl 1 _ rfl),(hc 2).trans (hl 2 _ rfl),(hc 3).trans (hl 3 _ rfl),by rw[Yc];omega,by rw[Yc];omega,by omega⟩
open Go.RowKit Go.Lib Go.Sort in
theorem AfH {w w':World} (h:Neu w w') (cap:Nat) (x:Array Value):Neu w (mN w' cap x):=by
 unfold mN;exact((h.alloc _).alloc _).drew
open Go.RowKit Go.Lib Go.Sort in
theorem AbD {w w':World} (h:Neu w w') {b:Nat} (hb:w.heap.size<=b) (r:Array Value):Neu w (mW w' b r):=by
 unfold mW;exact((((((h.set (a:=⟨b,1,none⟩) hb _).set (a:=⟨b,3,none⟩) hb _).set (a:=⟨b,4,none⟩) hb _).alloc _).drew).set (a:=⟨b,0,none⟩) hb _).set (a:=⟨b,1,none⟩) hb _
open Go.RowKit Go.Lib Go.Sort in
theorem AaB (s:ByteArray) (hs:s.size<=1000000000000) (w:World) :
 Calls Tryz.prog 438 #[.string s] w fun e w'=>e=.returned (.string (markup s))/\Neu w w':=by
 go_enter func438,Tryz.ntmps438
 go_wp2_with (fail)
 refine(AgG w.heap.size 4 _ ?_ ?_ ?_ ?_ ?_).mono ?_
 ·rw[Ep];rfl
 ·rw[Ep];rfl
 ·rw[Ep];rfl
 ·rw[Ep];rfl
 ·rw[World.size_alloc];omega
 rintro e w' ⟨rfl,cap,x,hw⟩;have hW:Hid _:=hw;have hR:Hid (MRep w' (w.heap.size+2) (w.heap.size+1) cap):=by have:=AfI (w.alloc (Obj.cells #[.string ⟨#[91]⟩,.string ⟨#[60]⟩,.string ⟨#[93]⟩,.string ⟨#[62]⟩] 9)) cap x;rw[World.size_alloc] at this;rw[hw];exact this
 have hN:Hid (Neu w w'):=by rw[hw];exact AfH ((Neu.refl w).alloc _) _ _
 clear hw hW;rw[World.size_alloc]
 go_wp2_with (first|(go_at_call 452;refine(VL _ _ cap s hs w' hR.out).mono ?_;rintro e w2 ⟨rfl,h⟩;(have hH:Hid _:=h);clear h))
 go_ret
 refine⟨rfl,?_⟩;obtain⟨r,_,h|⟨dk,h⟩⟩:=hH.out
 ·rw[h];exact AbD hN.out (by omega) _
 ·rw[h];exact((AbD hN.out (by omega) _).bytes _ _).put _ (by rw[Wz];have:=hN.out.size;omega) _ _
open Go.RowKit Go.Lib Go.Sort in
theorem Tr:fMarkup.ok Tryz.prog 438 :=
 QI rfl rfl fun x hx w ow hB=>AaB x.1 hx w
def Amg:=Amj.a fMarkup<|Tr
theorem Ng:Go.Proofs.LaysC.n172 Tryz.prog laysCmp_r:=by repeat' first|kernel_rfl|constructor|intro _
def nB (n:Lib.NumEnd Nat) (f:Nat->Lib.NumEnd Nat):Lib.NumEnd Nat:=match n with
 | .ok u=>f u
 | e=>e
theorem AbN:∀ (l r:List UInt8) (acc:Nat),Lib.parseUint10 acc (l++r)=nB (Lib.parseUint10 acc l) fun u=>Lib.parseUint10 u r
 | [],r,acc=>rfl
 | c::l,r,acc=>by
  rw[Qf4,Lib.parseUint10,Lib.parseUint10];split
  ·split
   ·rfl
   ·split
    ·rfl
    ·exact AbN l r _
  ·rfl
theorem Ox {d:Nat} (h:d<10):(UInt8.ofNat (48+d)).toNat=48+d:=by
 rw[UInt8.toNat_ofNat'];omega
theorem AgW:∀ (f u:Nat),u<10 ^ (f+1)->u<10 ^ 18->(Lib.decDigits u)≠[]/\(Lib.decDigits u).length<=f+1/\(Lib.decDigits u).all digit=true/\decV (Lib.decDigits u) 0=u/\Lib.parseUint10 0 (Lib.decDigits u)=.ok u:=by
 have one:∀ d,d<10->[UInt8.ofNat (48+d)].all digit=true:=fun d hd=>by simp only[List.all_cons,List.all_nil,Bool.and_true,digit,Ox hd,Qa9];omega
 have low:∀ u,u<10->(Lib.decDigits u)≠[]/\(Lib.decDigits u).length<=1/\(Lib.decDigits u).all digit=true/\decV (Lib.decDigits u) 0=u/\Lib.parseUint10 0 (Lib.decDigits u)=.ok u:=fun u hu=>by
  rw[Eb hu];refine⟨by simp,by simp,one u hu,?_,?_⟩
  ·simp only[decV,Ox hu];omega
  ·rw[Lib.parseUint10,Ox hu,Qa2 (by omega),Qa3 (by omega),Qa3 (by omega)];simp[Lib.parseUint10]
 intro f
 induction f with
 | zero=>intro u hu _;exact low u (by omega)
 | succ f ih=>
  intro u hu hv;by_cases h1:u<10
  ·obtain⟨a,b,c⟩:=low u h1;exact⟨a,by omega,c⟩
  ·obtain⟨a,b,c,d,e⟩:=ih (u / 10) (by rw[Nat.pow_succ] at hu;omega) (by omega);rw[Fu (by omega)];refine⟨by simp,by simp;omega,?_,?_,?_⟩
   ·rw[List.all_append,c,one _ (by omega)];rfl
   ·rw[Lr,d,Ox (by omega)];omega
   ·rw[AbN,e,nB];simp only[Lib.parseUint10];rw[Ox (by omega),Qa2 (by omega),Qa3 (by omega),Qa3 (by omega)];simp only[Lib.NumEnd.ok.injEq];omega
theorem Nf {n:Int} (h0:0<=n) (h1:n<=1000000000000):(1<=(Ht n).size/\(Ht n).size<=13/\(toL (Ht n)).all digit=true/\decV (toL (Ht n)) 0=n)/\Lib.atoiAll (toL (Ht n))=.ok n:=by
 have e:toL (Ht n)=Lib.decDigits n.toNat:=by unfold toL Ht Lib.itoa;rw[Qa3 (by omega)]
 have es:(Ht n).size=(toL (Ht n)).length:=rfl;obtain⟨a,b,c,d,g⟩:=AgW 12 n.toNat (by omega) (by omega);rw[es,e];refine⟨⟨by have:=List.length_pos_iff.2 a;omega,b,c,by rw[d];omega⟩,?_⟩;cases hl:Lib.decDigits n.toNat with
 | nil=>exact absurd hl a
 | cons x r=>
  rw[hl] at c g;have hx:digit x=true:=by simp only[List.all_cons,Qa1] at c;exact c.1
  simp only[digit,Qa9] at hx;rw[Lib.atoiAll_plain x r (by omega) (by omega)];unfold Lib.parseMag;rw[Qa3 (by simp),g];unfold Lib.signless;simp only[];rw[Qa3 (by omega)];simp only[Lib.NumEnd.ok.injEq];omega
theorem Ro:∀ (l:List UInt8) (n:Int),0<=n->l.all digit=true->0<=decV l n
 | [],n,h,_=>h
 | x::l,n,h,ha=>by simp only[List.all_cons,Qa1,digit,Qa9] at ha;exact Ro l _ (by omega) ha.2
theorem AeJ {s:ByteArray} {v:Int} (h:Lib.atoiAll (toL s)=.ok v):parseInt s=if 0<=v/\v<=1000000000000/\Ht v=s then(v,true) else(0,false):=by
 by_cases hc:0<=v/\v<=1000000000000/\Ht v=s
 ·obtain⟨⟨a1,a2,a3,a4⟩,_⟩:=Nf hc.1 hc.2.1;rw[hc.2.2] at a1 a2 a3 a4;rw[Qa2 hc];unfold parseInt;rw[Qa2 ⟨a1,a2,a3,by rw[a4];exact hc.2.1,by rw[a4];exact hc.2.2⟩,a4]
 ·rw[Qa3 hc];unfold parseInt;rw[Qa3];rintro⟨b1,b2,b3,b4,b5⟩;have hn:=Ro (toL s) 0 (by omega) b3;have:=(Nf hn b4).2;rw[b5,h] at this;injection this with this
  rw[<-this] at hn b4 b5;exact hc ⟨hn,b4,b5⟩
theorem Afi {s:ByteArray} (h:∀ v,Lib.atoiAll (toL s)≠.ok v):parseInt s=(0,false):=by
 unfold parseInt;rw[Qa3];rintro⟨b1,b2,b3,b4,b5⟩;have:=(Nf (Ro (toL s) 0 (by omega) b3) b4).2;rw[b5] at this;exact h _ this
open Go.RowKit in
theorem Zg (n:Int) (h0 : -9223372036854775808<=n) (h1:n<=9223372036854775807) (w:World) (hl:Laid Tryz.prog w):Calls Tryz.prog 335 #[.int .i64 n] w fun e w'=>e=.returned (.string (Ht n))/\Neu w w':=by
 go_enter func335,Tryz.ntmps335
 go_wp2_with (fail)
 refine(Go.Proofs.Any.strconv_Itoa S2 n h0 h1 w (hl.1 (by kernel_rfl))).mono ?_;rintro e w' ⟨rfl,k,os,rfl⟩;have hN:Hid (Neu w (Go.Sort.grow (w.drewN k) os)):=Neu.grow w k os
 go_wp2
 go_ret
 exact⟨rfl,hN.out⟩
open Go.RowKit in
theorem VM (s:ByteArray) (hs:s.size<=1000000000000) (w:World) (hl:Laid Tryz.prog w):Calls Tryz.prog 453 #[.string s] w fun e w'=>((∃ v,Lib.atoiAll (toL s)=.ok v/\e=.returned (.tuple #[.int .i64 v,.nilIface]))\/((∀ v,Lib.atoiAll (toL s)≠.ok v)/\∃ n t p,e=.returned (.tuple #[.int .i64 n,.iface t p])))/\Neu w w':=by
 rcases hA:Lib.atoiAll (toL s) with v|_|_
 ·refine(Go.Proofs.Any.strconv_Atoi_ok Ng s (by omega) v hA w).mono ?_;rintro e w' ⟨rfl,h⟩;refine⟨.inl ⟨v,rfl,rfl⟩,?_⟩;rcases h with rfl|⟨t,rfl⟩
  ·exact Neu.refl _
  ·exact(Neu.refl _).bytes _ _
 ·obtain⟨tp,p,hv⟩:=hl.2.1 (by kernel_rfl);refine(Go.Proofs.Any.strconv_Atoi_syntax Ng s (by omega) hA (.iface tp p) w (S5 (by kernel_rfl) hv) (.inr ⟨_,_,rfl⟩)).mono ?_;rintro e w' ⟨N,rfl,h1,h2,h3⟩;exact⟨.inr ⟨fun v=>by simp,_,_,_,rfl⟩,Neu.below h3⟩
 ·obtain⟨tp,p,hv⟩:=hl.2.2 (by kernel_rfl);refine(Go.Proofs.Any.strconv_Atoi_range Ng s (by omega) hA (.iface tp p) w (S5 (by kernel_rfl) hv) (.inr ⟨_,_,rfl⟩)).mono ?_;rintro e w' ⟨N,rfl,h1,h2,h3⟩;exact⟨.inr ⟨fun v=>by simp,_,_,_,rfl⟩,Neu.below h3⟩
open Go.RowKit in
theorem TT (s:ByteArray) (hs:s.size<=1000000000000) (w:World) (hl:Laid Tryz.prog w):Calls Tryz.prog 441 #[.string s] w fun e w'=>e=.returned (.tuple #[.int .i64 (parseInt s).1,.bool (parseInt s).2])/\Neu w w':=by
 go_enter func441,Tryz.ntmps441
 go_wp2_with (fail)
 refine(VM s hs w hl).mono ?_;rintro e w' ⟨⟨v,hA,rfl⟩|⟨hA,n,t,p,rfl⟩,hN⟩
 ·have hb:=Lib.atoiAll_bounds hA;have hp:=AeJ hA;have hN:Hid (Neu w w'):=hN;have hA:Hid (_=_):=hA;by_cases h1:v<0
  ·rw[Qa3 (by omega)] at hp
   go_wp2_with (fail)
   go_ret2
   exact⟨by rw[hp];rfl,hN.out⟩
  ·by_cases h2:v>1000000000000
   ·rw[Qa3 (by omega)] at hp
    go_wp2_with (fail)
    go_ret2
    exact⟨by rw[hp];rfl,hN.out⟩
   ·go_wp2_with (fail)
    refine(Zg v hb.1 hb.2 w' (hN.out.laid hl)).mono ?_;rintro e w2 ⟨rfl,hN2⟩;have hN2:Hid (Neu w' w2):=hN2;by_cases h3:Ht v=s
    ·rw[Qa2 ⟨by omega,by omega,h3⟩] at hp;rw[h3]
     go_wp2_with (fail)
     go_ret2
     exact⟨by rw[hp];rfl,hN.out.trans hN2.out⟩
    ·rw[Qa3 (by rintro⟨_,_,q⟩;exact h3 q)] at hp;have h4:((Ht v).toList==s.toList)=false:=by rw[AfA];simp[h3]
     go_wp2_with (fail)
     go_ret2
     exact⟨by rw[hp];rfl,hN.out.trans hN2.out⟩
 ·have hp:=Afi hA;have hN:Hid (Neu w w'):=hN;have hA:Hid (∀ v,Lib.atoiAll (toL s)≠.ok v):=hA
  go_wp2_with (fail)
  go_ret2
  exact⟨by rw[hp];rfl,hN.out⟩
theorem AfO:Dv.ok Tryz.prog 441:=QI rfl rfl fun x hx w ow hB=>TT x.1 hx w hB.laid
def Akq:=Amg.a Dv<|AfO
theorem Al6 (l:List ByteArray):cut l 1 (l.length-1)=l.drop 1:=by unfold cut;rw[Qb6];simp
theorem AgN (s:ByteArray):((cutPre s ⟨#[47]⟩).2=true->0<s.size/\s.data.getD 0 0=47/\(cutPre s ⟨#[47]⟩).1=s.extract 1 s.size)/\((cutPre s ⟨#[47]⟩).2=false->¬ (0<s.size/\s.data.getD 0 0=47)):=by
 have h1:ByteArray.size ⟨#[47]⟩=1:=rfl;have key:hasPre s ⟨#[47]⟩=true↔0<s.size/\s.data.getD 0 0=47:=by
  unfold hasPre;rw[Qa9,h1];constructor
  ·rintro⟨a,b⟩;refine⟨a,?_⟩;have:=Qg8 toL b;rw[A2,Qf0,JU (i:=0) a,List.take_zero,Qg2] at this;exact(List.cons.inj this).1
  ·rintro⟨a,b⟩;refine⟨a,?_⟩;rw[<-C9 (s.extract 0 1),A2,Qf0,JU (i:=0) a,List.take_zero,Qg2,b];rfl
 unfold cutPre;by_cases h:hasPre s ⟨#[47]⟩=true
 ·rw[Qa2 h];exact⟨fun _=>⟨(key.1 h).1,(key.1 h).2,rfl⟩,fun h2=>(by cases h2)⟩
 ·rw[Qa3 h];exact⟨fun h2=>(by cases h2),fun _ h2=>h (key.2 h2)⟩
theorem XY {s:ByteArray} (h:s.size<=60) (hn:¬ (0<s.size/\s.data.getD 0 0=47)) (hb:isName ((spl 32 s).getD 0 default)=false\/5<(spl 32 s).length):tagOf s=(default,false):=by
 unfold tagOf;rw[Qa3 (by omega),Qa3 hn];cases ha:tagAttrs ((spl 32 s).drop 1) [] with
 | none=>rfl
 | some ats=>
  have:=Jj ha;simp only[Qb5,Qe2] at this;show(if isName ((spl 32 s).getD 0 default)=true/\ats.length<=4 then _ else _)=_;rw[Qa3];rintro⟨c1,c2⟩;rcases hb with hb|hb
  ·rw[hb] at c1;cases c1
  ·omega
theorem Zw {l:List ByteArray} {i:Nat} {acc:List SAttr} (h:i<l.length):tagAttrs (l.drop i) acc=if(EG 61 (l.getD i default)).2.2=true/\isName (EG 61 (l.getD i default)).1=true/\isValue (EG 61 (l.getD i default)).2.1=true/\(findAttr acc (EG 61 (l.getD i default)).1).isSome=false then tagAttrs (l.drop (i+1)) (acc++[⟨(EG 61 (l.getD i default)).1,(EG 61 (l.getD i default)).2.1⟩]) else none:=by
 rw[Lv h];unfold EG;cases Ey 61 (toL (l.getD i default)) with
 | none=>simp
 | some r=>
  obtain⟨p,q⟩:=r;simp only[true_and];cases isName (ofL p)<;>cases isValue (ofL q)<;>cases findAttr acc (ofL p)<;>simp
abbrev Dz (s:ByteArray):LInv:=⟨[⟨.b,7,true,.el .token⟩,⟨.s,52,true,.el .int⟩,⟨.b,2,true,.el .token⟩,⟨.s,50,true,.sl .str⟩],fun(z_ x_:SToken×Int×SToken×(List ByteArray)×Unit)=>((0<=x_.2.1/\x_.2.1+1<=(spl 32 s).length/\x_.1.bo.length<=x_.2.1/\x_.1=⟨1,(spl 32 s).getD 0 default,x_.1.bo,⟨#[]⟩⟩/\tagAttrs ((spl 32 s).drop (x_.2.1.toNat+1)) x_.1.bo=tagAttrs ((spl 32 s).drop 1) [])/\x_.2.2.1=z_.2.2.1)/\x_.2.2.2.1=z_.2.2.2.1,fun(x_:SToken×Int×SToken×(List ByteArray)×Unit)=>(spl 32 s).length-x_.2.1.toNat⟩
def Al9:=Akq.a Gr<|Fct.p (KP [0,2,3,4,5,6,7,9,10,11,12,14,50,51,52] [17,24,27,43,53,83]) (fun⟨s,_⟩=>lv [(13,Dz s)]) Akq.2 func443 (by
 rintro⟨(s:ByteArray),_⟩ hp;refine ho (let q2_:=(⟨#[]⟩:ByteArray);let q0_:Out:=.leaf (.tup [(true,[vi ((0:Int)),vs (q2_),.nl,vs (q2_)]),(false,[vb (false)])]) [] [];.br (decide ((s.size:Int)>60)) q0_ (.cl fCutPre (s,(⟨#[47]⟩:ByteArray),()) fun z2=>.br (z2.2.1) (.cl fIsName (z2.1,()) fun z3=>.br (!z3.1) q0_ (.leaf (.tup [(true,[vi ((2:Int)),vs (z2.1),.nl,vs (q2_)]),(false,[vb (true)])]) [] [])) (.cl DY (s,(⟨#[32]⟩:ByteArray),()) fun z4=>let q4_:=(z4.1.length:Int);let q3_:=z4.1.length-1;let q1_:=(0:Int)<=(0:Int)/\(0:Int)<q4_;.ob q1_<|.ob (0<z4.1.length)<|.cl fIsName (z4.1.getD 0 default,()) fun z5=>.br (!z5.1) q0_ (.br (decide (wr (q4_-(1:Int))>4)) q0_ (.ob q1_<|.ob (0<z4.1.length)<|.ob ((0:Int)<=(1:Int)/\(1:Int)<=q4_)<|.ob (1+q3_<=z4.1.length)<|lpx (Dz s) ((⟨(1:Int),z4.1.getD 0 default,[],q2_⟩:SToken),((0:Int),(default,(cut z4.1 1 q3_,())))) fun(y16:SToken×Int×SToken×List ByteArray×PUnit) bk16=>.br (decide (y16.2.1<(q3_:Int))) (.ob (inB y16.2.1 y16.2.2.2.1.length)<|.ob (y16.2.1.toNat<y16.2.2.2.1.length)<|.cl Su (y16.2.2.2.1.getD y16.2.1.toNat default,(⟨#[61]⟩:ByteArray),()) fun z6=>let q5_:=(⟨z6.1,z6.2.1⟩:SAttr);.cl fFindAttr (y16.1.bo,z6.1,()) fun z7=>.br (!z6.2.2.1) q0_ (.cl fIsName (z6.1,()) fun z8=>.br (!z8.1) q0_ (.cl fIsValue (z6.2.1,()) fun z9=>.br (!z9.1) q0_ (.br (z7.2.1) q0_ (.ob (True)<|.ob (BM (y16.1.bo.length+[q5_].length) 32)<|.ob (Value.string s=Value.string s)<|.ob (Value.string z2.1=Value.string z2.1)<|.ob (Value.bool z2.2.1=Value.bool z2.2.1)<|.ob (Value.int IntKind.i64 (q3_:Int)=Value.int IntKind.i64 (q3_:Int))<|.ob (bk16 (({y16.1 with bo:=y16.1.bo++[q5_]}:SToken),(w1 y16.2.1,(y16.2.2.1,(y16.2.2.2.1,())))))<|.ok))))) (.lf Gr (y16.1,true,()))))))) ?_;refine Ab (fun h1=>Fct.leafZ (default,false,()) (by repeat' first|exact rfl|exact trivial|refine And.intro ?_ ?_) ?_) (fun h1=>LM ?_ fun o2 z2 ez2=>(Ab (fun h3=>LM ?_ fun o4 z3 ez3=>(Ab (fun h5=>Fct.leafZ (default,false,()) (by repeat' first|exact rfl|exact trivial|refine And.intro ?_ ?_) ?_) (fun h5=>Fct.leafZ (⟨(2:Int),z2.fst,[],{ data := #[]:ByteArray }⟩,true,()) (by repeat' first|exact rfl|exact trivial|refine And.intro ?_ ?_) ?_))) (fun h3=>LM ?_ fun o6 z4 ez4=>(Aa ?_ fun o7=>Aa ?_ fun o8=>LM ?_ fun o9 z5 ez5=>(Ab (fun h10=>Fct.leafZ (default,false,()) (by repeat' first|exact rfl|exact trivial|refine And.intro ?_ ?_) ?_) (fun h10=>Ab (fun h11=>Fct.leafZ (default,false,()) (by repeat' first|exact rfl|exact trivial|refine And.intro ?_ ?_) ?_) (fun h11=>Aa ?_ fun o12=>Aa ?_ fun o13=>Aa ?_ fun o14=>Aa ?_ fun o15=>Ay ?_ fun(y16:SToken×Int×SToken×List ByteArray×PUnit) i16=>Ab (fun h17=>Aa ?_ fun o18=>Aa ?_ fun o19=>LM ?_ fun o20 z6 ez6=>(LM ?_ fun o21 z7 ez7=>(Ab (fun h22=>Fct.leafZ (default,false,()) (by repeat' first|exact rfl|exact trivial|refine And.intro ?_ ?_) ?_) (fun h22=>LM ?_ fun o23 z8 ez8=>(Ab (fun h24=>Fct.leafZ (default,false,()) (by repeat' first|exact rfl|exact trivial|refine And.intro ?_ ?_) ?_) (fun h24=>LM ?_ fun o25 z9 ez9=>(Ab (fun h26=>Fct.leafZ (default,false,()) (by repeat' first|exact rfl|exact trivial|refine And.intro ?_ ?_) ?_) (fun h26=>Ab (fun h27=>Fct.leafZ (default,false,()) (by repeat' first|exact rfl|exact trivial|refine And.intro ?_ ?_) ?_) (fun h27=>Aa trivial fun _=>Aa ?_ fun o28=>Aa rfl fun _=>Aa rfl fun _=>Aa rfl fun _=>Aa rfl fun _=>Aa ?_ fun o29=>trivial))))))))) (fun h17=>lfY ?_))))))));all_goals subst_vars
 all_goals
  try simp only[Az] at *
  try simp only[Dz,Su,fCutPre,fFindAttr,fIsName,fIsValue,DY,Gr,std,Nat.reduceAdd,DY,fCutPre,Su,fIsName,fIsValue,fFindAttr,Al6] at *
  try simp only[show(#[47]:Array UInt8).getD 0 0=47 from rfl,show(#[32]:Array UInt8).getD 0 0=32 from rfl,show(#[61]:Array UInt8).getD 0 0=61 from rfl] at *
 all_goals
  have hk:=DH 32 s;have hm:∀ i,i<(spl 32 s).length->((spl 32 s).getD i default).size<=s.size:=fun i h=>HR (Bl h)
  have hq:=AgN s;have hx:(s.extract 1 s.size).size<=s.size:=by rw[Qc3];omega
 all_goals try (obtain⟨⟨⟨a1,a2,a3,a4,a5⟩,a6⟩,a7⟩:=i16)
 all_goals
  have hd:∀ i,((spl 32 s).drop 1).getD i default=(spl 32 s).getD (i+1) default:=fun i=>by simp[Qa7,Qe5,Nat.add_comm]
  try simp only[a7,hd,Qe2] at *
 all_goals first|trivial|omega|skip
 all_goals first|(rw[FB.1 (by omega)];exact⟨rfl,rfl⟩)|(rw[(hq.1 (by assumption)).2.2];omega)|skip
 all_goals first|(rw[FB.2 (by omega) (hq.1 (by assumption)).1 (hq.1 (by assumption)).2.1,Qa3 (by rw[<-(hq.1 (by assumption)).2.2,show isName _=false by assumption];decide)];exact⟨rfl,rfl⟩)|(rw[FB.2 (by omega) (hq.1 (by assumption)).1 (hq.1 (by assumption)).2.1,Qa2 (by rw[<-(hq.1 (by assumption)).2.2];assumption)];exact⟨by rw[(hq.1 (by assumption)).2.2],rfl⟩)|skip
 all_goals
  have hn:=hq.2 (by assumption);try rw[Ah (show -9223372036854775808<=(((spl 32 s).length:Nat):Int)-1/\(((spl 32 s).length:Nat):Int)-1<=9223372036854775807 by omega)] at *
 all_goals first|(rw[XY (by omega) hn (.inl (by assumption))];exact⟨rfl,rfl⟩)|(rw[XY (by omega) hn (.inr (by omega))];exact⟨rfl,rfl⟩)|omega|exact⟨by omega,by omega,by simp,rfl,rfl⟩|exact⟨by omega,by omega,by simp,trivial,rfl⟩|skip
 all_goals
  have h00:=hm 0 (by omega);try have hw:=hm (y16.2.1.toNat+1)
 all_goals first|omega|exact⟨by omega,rfl⟩|exact⟨by omega,by omega⟩|skip
 all_goals first|exact⟨by omega,by omega,by omega,trivial⟩|skip
 all_goals have hc:=Qo 61 ((spl 32 s).getD (y16.2.1.toNat+1) default)
 all_goals first|omega|(rw[GU (by omega)] at a5;rw[NP (by omega) hn a5.symm,Qa2 ⟨by assumption,by omega⟩];exact⟨a4,rfl⟩)|rw[Zw (by omega)] at a5
 all_goals first|(rw[Qa3 (by rintro⟨c1,c2,c3,c4⟩;first|exact tf c1 (by assumption)|exact tf c2 (by assumption)|exact tf c3 (by assumption)|exact tf (by assumption) c4)] at a5;rw[Sq (by omega) hn a5.symm];exact⟨rfl,rfl⟩)|rw[Qa2 ⟨by assumption,by assumption,by assumption,by assumption⟩] at a5
 all_goals rw[Ah (by omega),toNat1 (by omega)]
 all_goals refine⟨⟨⟨⟨by omega,by omega,by rw[Qa4];simp only[Qa6,Qb5];omega,?_,a5⟩,a6⟩,by first|trivial|rfl⟩,by omega⟩
 all_goals rw[a4])
theorem Hq (c:UInt8):∀ l:List UInt8,Lib.indexByte l c=if l.findIdx (fun x=>x==c)=l.length then -1 else((l.findIdx fun x=>x==c:Nat):Int)
 | []=>rfl
 | b::l=>by
  have hl:=List.findIdx_le_length (xs:=l) (p:=fun x=>x==c);rw[Lib.indexByte,Hq c l,List.findIdx_cons];cases hb:(b==c) with
  | true=>simp
  | false=>
   simp only[Qc7,Qe4,Qf2,Qa6];by_cases h:l.findIdx (fun x=>x==c)=l.length
   ·rw[Qa2 h,Qa2 (by decide),Qa2 (by omega)]
   ·rw[Qa3 h,Qa3 (by simp only[Qe8];omega),Qa3 (by omega)];omega
def idxJ (b:UInt8) (s:ByteArray):Int:=if idxB b s=s.size then -1 else idxB b s
def Xg:Fct:=⟨[.v (.el .str),.v (.el .u8)],[.el .int],fun(x_:ByteArray×Int×Unit)=>0<=x_.2.1/\x_.2.1<=255,fun(x_:ByteArray×Int×Unit)=>(idxJ (UInt8.ofNat x_.2.1.toNat) x_.1,())⟩
theorem AdH:Go.Proofs.Lays.n137 Tryz.prog laysCmp_r:=by repeat' first|kernel_rfl|constructor|intro _
def AiD:=Al9.a Xg<|QI rfl rfl fun x hx w ow hB=>(Go.Proofs.Any.strings_IndexByte AdH x.1 x.2.1 w).mono fun e w' ⟨a,b⟩=>⟨by rw[a,Hq];rfl,by rw[b];exact Neu.refl w⟩
theorem Wk {x:ByteArray} (h0:0<x.size):(x.data.getD 0 0=60↔idxB 60 x=0):=by
 have e:toL x=x.data.getD 0 0::(toL x).drop 1:=by
  have:=Hj (s:=x) (i:=0) h0
  rwa [Qf0] at this
 unfold idxB;rw[e,List.findIdx_cons];cases hb:(x.data.getD 0 0==60) with
 | true=>simp;simpa using hb
 | false=>simp;simpa using hb
theorem Vg (b:UInt8) (x:ByteArray):(idxJ b x = -1/\idxB b x=x.size)\/(idxJ b x=idxB b x/\idxB b x<x.size):=by
 have:=EA b x;unfold idxJ;by_cases h:idxB b x=x.size
 ·rw[Qa2 h];exact .inl ⟨rfl,h⟩
 ·rw[Qa3 h];exact .inr ⟨rfl,by omega⟩
theorem ZI {x:ByteArray} (h:x.size=0):feedAll x=([],x):=by
 have k1:=EA 60 x;have k2:=EA 62 x;exact KZ (by omega) (by omega)
abbrev BK (t:STokenizer) (s:ByteArray):LInv:=⟨[⟨.s,6,true,.el .str⟩,⟨.s,7,true,.sl .token⟩,⟨.b,5,true,.el .tokenizer⟩],fun(z_ x_:ByteArray×(List SToken)×STokenizer×Unit)=>(x_.2.1.length+x_.1.size<=(t.rest++s).size/\x_.2.1++(feedAll x_.1).1=(feedAll (t.rest++s)).1/\(feedAll x_.1).2=(feedAll (t.rest++s)).2)/\x_.2.2.1=z_.2.2.1,fun(x_:ByteArray×(List SToken)×STokenizer×Unit)=>x_.1.size⟩
def AiE:=AiD.a fFeedText<|Fct.p (KP [1,2,4,5,6,7,8,9,10,11] [18,21,25,39,47]) (fun⟨t,s,_⟩=>lv [(3,BK t s)]) AiD.2 func414 (by
 rintro⟨(t:STokenizer),(s:ByteArray),_⟩ hp;refine ho (let q6_:=(⟨#[]⟩:ByteArray);let q3_:=Value.string s=Value.string s;.ob (sameSize t.rest s)<|lpx (BK t s) (t.rest++s,([],(default,()))) fun(y2:ByteArray×List SToken×STokenizer×PUnit) bk2=>let q2_:Out:=.lf fFeedText (y2.2.1,⟨y2.1⟩,());let q0_:=(y2.1.size:Int);.br (!y2.1.toList==q6_.toList) (.ob ((0:Int)<=(0:Int)/\(0:Int)<q0_)<|.br ((↑(y2.1.data.getD 0 0).toNat:Int) != 60) (.cl Xg (y2.1,(60:Int),()) fun(z2:Int×PUnit)=>let q5_:=0<=z2.1/\z2.1<=q0_;let q1_:=(⟨(3:Int),q6_,[],y2.1.extract 0 z2.1.toNat⟩:SToken);.br (decide (z2.1<0)) q2_ (.ob q5_<|.ob (BM (y2.2.1.length+[q1_].length) 64)<|.ob q5_<|.ob q3_<|.ob (bk2 (y2.1.extract z2.1.toNat y2.1.size,(y2.2.1++[q1_],(y2.2.2.1,()))))<|.ok)) (.cl Xg (y2.1,(62:Int),()) fun(z3:Int×PUnit)=>let q4_:=0<=w1 z3.1/\w1 z3.1<=q0_;.br (decide (z3.1<0)) q2_ (.ob ((0:Int)<=(1:Int)/\1<=z3.1/\z3.1<=q0_)<|.cl Gr (y2.1.extract 1 z3.1.toNat,()) fun z4=>.br (z4.2.1) (.ob (BM (y2.2.1.length+[z4.1].length) 64)<|.ob q4_<|.ob q3_<|.ob (bk2 (y2.1.extract (w1 z3.1).toNat y2.1.size,(y2.2.1++[z4.1],(y2.2.2.1,()))))<|.ok) (.ob q4_<|.ob q3_<|.ob (bk2 (y2.1.extract (w1 z3.1).toNat y2.1.size,(y2.2.1,(y2.2.2.1,()))))<|.ok)))) q2_) ?_;repeat' first|(guard_target =~ Out.holds _ _;first|refine Ay (li:=BK t s) ?_ fun(y2:ByteArray×List SToken×STokenizer×PUnit) i2=>?_|refine lfY ?_|refine Ab (fun _=>?_) fun _=>?_|refine Af ?_ fun _=>?_|refine Aa ?_ fun _=>?_)|exact trivial
 all_goals
  try simp only[Az] at *
  try simp only[BK,fFeedText,Xg,Gr,std,Nat.reduceAdd,Xg,Gr] at *
  try simp only[show UInt8.ofNat (Int.toNat 60)=60 from rfl,show UInt8.ofNat (Int.toNat 62)=62 from rfl,Qb7] at *
 all_goals try (obtain⟨⟨a1,a2,a3⟩,a4⟩:=i2)
 all_goals first|trivial|omega|(unfold sameSize;omega)|skip
 all_goals
  have k1:=EA 60 y2.1;have k2:=EA 62 y2.1;have j1:=Vg 60 y2.1;have j2:=Vg 62 y2.1
 all_goals first|omega|skip
 all_goals
  have k3:=QR (x:=y2.1);have kb:=KI (s:=y2.1) (i:=0) (b:=60) (by decide) (by decide);have kn:¬ y2.1=⟨#[]⟩->0<y2.1.size:=fun h=>Nat.pos_of_ne_zero fun e=>h (ByteArray.size_eq_zero_iff.1 e)
 all_goals first|(refine⟨by omega,?_⟩;have:=kn (by assumption);omega)|(rw[ZI (x:=y2.1) (by rw[show y2.1=_ by assumption];rfl)] at a2 a3;rw[Qd7] at a2;exact⟨a2,by rw[<-a3]⟩)|skip
 all_goals have kh:=Wk (x:=y2.1) (by omega)
 all_goals first|(have ht:¬ idxB 60 y2.1=0:=fun e=>absurd (kb.2 (by rw[kh.2 e];rfl)) (by assumption))|(have ht:idxB 60 y2.1=0:=kh.1 ((kb.1 (by assumption)).trans rfl))
 all_goals first|(rw[KZ (x:=y2.1) (by omega) (by omega)] at a2 a3;rw[Qd7] at a2;exact⟨a2,by rw[<-a3]⟩)|skip
 all_goals
  try have k6:idxB 62 y2.1<y2.1.size:=by omega
  try have k7:=k3 ht k6
 all_goals first|omega|(rw[Qc3];omega)|(rw[Ah (by omega)];omega)|skip
 all_goals have k5:∀ a,(y2.1.extract a y2.1.size).size=y2.1.size-a:=fun a=>by rw[Qc3];omega
 all_goals first|(have e1:idxJ 60 y2.1=(idxB 60 y2.1:Int):=by omega);rw[Pw (x:=y2.1) (by omega) (by omega)] at a2 a3;rw[e1,Qg6]|(have e1:idxJ 62 y2.1=(idxB 62 y2.1:Int):=by omega);rw[Sl (x:=y2.1) ht k6] at a2 a3;rw[Ah (by omega),e1,show(((idxB 62 y2.1:Nat):Int)+1).toNat=idxB 62 y2.1+1 by omega]
 all_goals try simp only[e1,Qg6] at *
 all_goals try (first|rw[Qa2 (by assumption)] at a2|rw[Qa3 (by rw[show Prod.snd _=false by assumption];decide)] at a2)
 all_goals refine⟨⟨⟨?_,?_,a3⟩,a4⟩,?_⟩
 all_goals first|(rw[k5];simp only[Qa4,Qa6,Qb5];omega)|(rw[k5];omega)|exact a2|(rw[Qb4];exact a2)|skip)
def AkK:=AiE.a fRunLine<|Fct.o (KP [1,3,5,6,7,8,9,13] [14,20,30,40,53,66]) AiE.2 func412 (by
 rintro⟨(b:SBuilder),(l:List SSheet),(x:SLine),_⟩ hp;exact ho _ (q16 b l x hp))
abbrev Co (b:SBuilder) (l:(List SSheet)) (r:(List SLine)):LInv:=⟨[⟨.b,9,true,.el .ba⟩,⟨.s,10,true,.el .str⟩,⟨.s,11,true,.sl .str⟩,⟨.s,22,true,.el .int⟩,⟨.b,6,true,.el .ba⟩],fun(z_ x_:SBuilder×ByteArray×(List ByteArray)×Int×SBuilder×Unit)=>(0<=x_.2.2.2.1/\x_.2.2.2.1<=r.length/\szBuilder x_.1+szL CW (r.drop x_.2.2.2.1.toNat)<=szBuilder b+szL CW r/\x_.2.1.size+szL CW (r.drop x_.2.2.2.1.toNat)<=szL CW r/\x_.2.2.1.length<=x_.2.2.2.1/\runLines l (r.drop x_.2.2.2.1.toNat) x_.1 x_.2.1 x_.2.2.1=runScript b l r)/\x_.2.2.2.2.1=z_.2.2.2.2.1,fun(x_:SBuilder×ByteArray×(List ByteArray)×Int×SBuilder×Unit)=>r.length-x_.2.2.2.1.toNat⟩
def Air:=AkK.a BZ<|Fct.p (KP [1,2,3,6,7,8,9,10,11,13,14,15,16,20,21,22] [23,39]) (fun⟨b,l,r,_⟩=>lv [(5,Co b l r)]) AkK.2 func370 (by
 rintro⟨(b:SBuilder),(l:List SSheet),(r:List SLine),_⟩ hp;refine ho (let q3_:=(r.length:Int);let q1_:=Value.int IntKind.i64 q3_=Value.int IntKind.i64 q3_;let q0_:=(⟨#[]⟩:ByteArray);let q2_:=Value.string q0_=Value.string q0_;.cl fCopyBuilder (b,()) fun z2=>lpx (Co b l r) (z2.1,(q0_,([],((0:Int),(default,()))))) fun(y2:SBuilder×ByteArray×List ByteArray×Int×SBuilder×PUnit) bk2=>.br (decide (y2.2.2.2.1<q3_)) (.ob (inB y2.2.2.2.1 r.length)<|.cl fRunLine (y2.1,l,r.getD y2.2.2.2.1.toNat default,()) fun z3=>.ob (sameSize y2.2.1 z3.2.1)<|.br (!z3.2.2.1.toList==q0_.toList) (.ob (True)<|.ob (BM (y2.2.2.1.length+[z3.2.2.1].length) 16)<|.ob (l=l)<|.ob (r=r)<|.ob q2_<|.ob (r=r)<|.ob q1_<|.ob (bk2 (z3.1,(y2.2.1++z3.2.1,(y2.2.2.1++[z3.2.2.1],(w1 y2.2.2.2.1,(y2.2.2.2.2.1,()))))))<|.ok) (.ob (l=l)<|.ob (r=r)<|.ob q2_<|.ob (r=r)<|.ob q1_<|.ob (bk2 (z3.1,(y2.2.1++z3.2.1,(y2.2.2.1,(w1 y2.2.2.2.1,(y2.2.2.2.2.1,()))))))<|.ok)) (.lf BZ (y2.1,y2.2.1,y2.2.2.1,()))) ?_;refine Af ?_ fun o1=>(Ay ?_ fun(y2:SBuilder×ByteArray×List ByteArray×Int×SBuilder×PUnit) i2=>Ab (fun h3=>Aa ?_ fun o4=>Af ?_ fun o5=>(Aa ?_ fun o6=>Ab (fun h7=>Aa trivial fun _=>Aa ?_ fun o8=>Aa rfl fun _=>Aa rfl fun _=>Aa rfl fun _=>Aa rfl fun _=>Aa rfl fun _=>Aa ?_ fun o9=>trivial) (fun h7=>Aa rfl fun _=>Aa rfl fun _=>Aa rfl fun _=>Aa rfl fun _=>Aa rfl fun _=>Aa ?_ fun o10=>trivial))) (fun h3=>lfY ?_))
 all_goals
  have hr:=Ad CW r;have hx:∀ i,i<r.length->szL CW (r.drop i)=(r.getD i default).text.size+1+szL CW (r.drop (i+1)):=fun i h=>KQ CW h
  have hs:=fun bb x=>IW bb l x
  have hrs:runLines l r b ⟨#[]⟩ []=runScript b l r:=rfl;try simp only[Az] at *
  try simp only[Co,fCopyBuilder,fRunLine,BZ,std,Nat.reduceAdd,fCopyBuilder,fRunLine,runLines_at,runLines_end,sameSize,Qb7] at *
  try simp(disch:=omega) only[wrapId',toNat1] at *
  try simp(disch:=omega) only[Qa2,Qa3]
 all_goals first|trivial|omega|grind[wrapId',toNat1,drop_cons,drop_end,good_len,maxLen,fCopyBuilder,fRunLine,runLines_at,runLines_end,sameSize,ByteArray.size_append])
theorem Vb (w:ByteArray):ruleOf w=if isName (EG 58 w).1=true/\(parseInt (EG 58 w).2.1).2=true/\1<=(parseInt (EG 58 w).2.1).1/\(parseInt (EG 58 w).2.1).1<=999 then some ⟨(EG 58 w).1,(parseInt (EG 58 w).2.1).1⟩ else none:=by
 unfold ruleOf EG;cases h:Ey 58 (toL w) with
 | none=>
  dsimp only;rw[Qa3];rintro⟨_,q,_⟩;have:(parseInt ⟨#[]⟩).2=false:=by unfold parseInt;rw[Qa3 (by rintro⟨q,_⟩;exact absurd q (by decide))]
  exact tf q this
 | some r=>rfl
abbrev B2 (s:ByteArray):LInv:=⟨[⟨.b,3,true,.el .sheet⟩,⟨.s,15,true,.el .int⟩,⟨.b,2,true,.el .sheet⟩,⟨.s,13,true,.sl .str⟩],fun(z_ x_:SSheet×Int×SSheet×(List ByteArray)×Unit)=>((0<=x_.2.1/\x_.2.1<=(spl 59 s).length/\x_.1.rules.length<=8/\parseRules ((spl 59 s).drop x_.2.1.toNat) x_.1.rules=parseRules (spl 59 s) [])/\x_.2.2.1=z_.2.2.1)/\x_.2.2.2.1=z_.2.2.2.1,fun(x_:SSheet×Int×SSheet×(List ByteArray)×Unit)=>(spl 59 s).length-x_.2.1.toNat⟩
def Ak1:=Air.a fParseSheet<|Fct.p (KP [0,2,3,5,6,7,9,10,13,14,15] [16,44]) (fun⟨s,_⟩=>lv [(3,B2 s)]) Air.2 func413 (by
 rintro⟨(s:ByteArray),_⟩ hp;refine ho (let q3_:=Value.string s=Value.string s;.cl DY (s,(⟨#[59]⟩:ByteArray),()) fun z2=>let q2_:=(z2.1.length:Int);let q1_:=Value.int IntKind.i64 q2_=Value.int IntKind.i64 q2_;lpx (B2 s) (default,((0:Int),(default,(z2.1,())))) fun(y2:SSheet×Int×SSheet×List ByteArray×PUnit) bk2=>let q0_:Out:=.ob q3_<|.ob q1_<|.ob (bk2 (y2.1,(w1 y2.2.1,(y2.2.2.1,(y2.2.2.2.1,())))))<|.ok;.br (decide (y2.2.1<q2_)) (.ob (inB y2.2.1 y2.2.2.2.1.length)<|.ob (y2.2.1.toNat<y2.2.2.2.1.length)<|.cl Su (y2.2.2.2.1.getD y2.2.1.toNat default,(⟨#[58]⟩:ByteArray),()) fun z3=>.cl Dv (z3.2.1,()) fun(z4:Int×Bool×PUnit)=>let q4_:=(⟨z3.1,z4.1⟩:SRule);.br (z4.2.1) (.cl fIsName (z3.1,()) fun z5=>.br (z5.1) (.cl fInRange (z4.1,(1:Int),(999:Int),()) fun z6=>.br (z6.1) (.br (decide ((y2.1.rules.length:Int)<8)) (.ob (True)<|.ob (BM (y2.1.rules.length+[q4_].length) 24)<|.ob q3_<|.ob q1_<|.ob (bk2 ((⟨y2.1.rules++[q4_]⟩:SSheet),(w1 y2.2.1,(y2.2.2.1,(y2.2.2.2.1,())))))<|.ok) q0_) q0_) q0_) q0_) (.lf fParseSheet (y2.1,()))) ?_;refine Af ?_ fun o1=>(Ay ?_ fun(y2:SSheet×Int×SSheet×List ByteArray×PUnit) i2=>Ab (fun h3=>Aa ?_ fun o4=>Aa ?_ fun o5=>Af ?_ fun o6=>(Af ?_ fun o7=>(Ab (fun h8=>Af ?_ fun o9=>(Ab (fun h10=>Af trivial fun _=>(Ab (fun h11=>Ab (fun h12=>Aa trivial fun _=>Aa ?_ fun o13=>Aa rfl fun _=>Aa rfl fun _=>Aa ?_ fun o14=>trivial) (fun h12=>Aa rfl fun _=>Aa rfl fun _=>Aa ?_ fun o15=>trivial)) (fun h11=>Aa rfl fun _=>Aa rfl fun _=>Aa ?_ fun o16=>trivial))) (fun h10=>Aa rfl fun _=>Aa rfl fun _=>Aa ?_ fun o17=>trivial))) (fun h8=>Aa rfl fun _=>Aa rfl fun _=>Aa ?_ fun o18=>trivial)))) (fun h3=>lfY ?_))
 all_goals
  have hk:=DH 59 s;have hm:∀ i,i<(spl 59 s).length->((spl 59 s).getD i default).size<=s.size:=fun i h=>HR (Bl h)
  have hp1:s.size<=4200000000:=hp;try simp only[Az] at *
  try simp only[B2,Su,fInRange,fIsName,Dv,fParseSheet,DY,std,Nat.reduceAdd,DY,Su,Dv,fIsName,fInRange,inRange] at *
  try simp only[show(#[59]:Array UInt8).getD 0 0=59 from rfl,show(#[58]:Array UInt8).getD 0 0=58 from rfl,Qa1,Qe7,Qa9,Qb2] at *
 all_goals first|omega|exact⟨by omega,by omega,by decide,rfl⟩|(obtain⟨⟨⟨a1,a2,a3,a4⟩,e1⟩,e2⟩:=i2;simp only[e2] at *)
 all_goals try (have hw:=hm y2.2.1.toNat (by omega);have hc:=Qo 58 ((spl 59 s).getD y2.2.1.toNat default))
 all_goals first|omega|exact⟨by omega,by omega⟩|(rw[Hx (by omega)] at a4;show y2.1=parseSheet s;unfold parseSheet;rw[<-a4])|skip
 all_goals have e:=Ix (l:=spl 59 s) (i:=y2.2.1.toNat) (acc:=y2.1.rules) (by omega)
 all_goals rw[a4,Vb] at e
 all_goals rw[Ah (by omega),show(y2.2.1+1).toNat=y2.2.1.toNat+1 by omega]
 all_goals first|(rw[Qa3 (by omega)] at e;exact⟨⟨⟨⟨by omega,by omega,by omega,e.symm⟩,e1⟩,by first|trivial|rfl⟩,by omega⟩)|skip
 all_goals first|(rw[Qa2 (show y2.1.rules.length<8 by omega),Qa2 ⟨by assumption,by assumption,by omega,by omega⟩] at e;exact⟨⟨⟨⟨by omega,by omega,by simp only[Qa4,Qa6,Qb5];omega,e.symm⟩,e1⟩,by first|trivial|rfl⟩,by omega⟩)|skip
 all_goals rw[Qa3 (show ¬ (isName _=true/\_) by rintro⟨q1,q2,q3,q4⟩;first|omega|exact tf q1 (by assumption)|exact tf q2 (by assumption)),Option.toList_none,Qd7,ite_self] at e
 all_goals exact⟨⟨⟨⟨by omega,by omega,by omega,e.symm⟩,e1⟩,by first|trivial|rfl⟩,by omega⟩)
def runL (p:SPage) (l:List SLine) (w:Bool):SPage:={ p with ba:=(runScript p.ba (sheetsOf p.bf) l).1,log:=addLog p.log (runScript p.ba (sheetsOf p.bf) l).2.2,bn:=if w=true then tokensOf (runScript p.ba (sheetsOf p.bf) l).2.1++p.bn else p.bn }
def okRL (p:SPage) (l:List SLine):Prop:=p.bn.length<=1000000000000/\szBuilder p.ba<=40000000000/\szL AF p.bf<=40000000000/\okBod p/\szL CW l<=366
def CE:GS:=⟨[.b (.el .page),.l (.v (.sl .line)),.l (.v (.el .bool))],[],fun(x_:SPage×(List SLine)×Bool×Unit)=>okRL x_.1 x_.2.1,fun(x_:SPage×(List SLine)×Bool×Unit)=>((()),(runL x_.1 x_.2.1 x_.2.2.1,()))⟩
theorem Zv {p:SPage} {l:List SLine} (h:okRL p l):szL AF p.bf<=1000000000000/\okBod p/\szBuilder p.ba<=50000000000/\szL Dt (sheetsOf p.bf)<=100000000000/\szL CW l<=1000000000/\okSheets (sheetsOf p.bf)/\(runScript p.ba (sheetsOf p.bf) l).2.1.size<=366/\(runScript p.ba (sheetsOf p.bf) l).2.2.length<=366/\p.bn.length<=1000000000000:=by
 obtain⟨h1,h2,h3,h4,h5⟩:=h;have hs:=Ef p.bf;have hr:=FZ (sheetsOf p.bf) l p.ba ⟨#[]⟩ [];have hl:=Ad CW l;have h0:ByteArray.size ⟨#[]⟩=0:=rfl;simp only[Qb5] at hr;exact⟨by omega,h4,by omega,by omega,by omega,hs.2,by(show(runLines (sheetsOf p.bf) l p.ba ⟨#[]⟩ []).2.1.size<=366;omega),by(show(runLines (sheetsOf p.bf) l p.ba ⟨#[]⟩ []).2.2.length<=366;omega),by omega⟩
abbrev BJ (p:SPage):LInv:=⟨[⟨.s,3,true,.sl .sheet⟩,⟨.s,10,true,.el .int⟩],fun _ (x_:(List SSheet)×Int×Unit)=>0<=x_.2.1/\x_.2.1<=p.bf.length/\x_.1.length<=x_.2.1/\x_.1++sheetsOf (p.bf.drop x_.2.1.toNat)=sheetsOf p.bf,fun(x_:(List SSheet)×Int×Unit)=>p.bf.length-x_.2.1.toNat⟩
def AlL:=Ak1.a CG<|Fct.p (KP [1,2,3,5,8,9,10] [11,25]) (fun⟨p,_⟩=>lv [(3,BJ p)]) Ak1.2 func371 (by
 rintro⟨(p:SPage),_⟩ hp;refine ho (let q3_:=(p.bf.length:Int);let q1_:=Value.int IntKind.i64 q3_=Value.int IntKind.i64 q3_;lpx (BJ p) ([],((0:Int),())) fun(y1:List SSheet×Int×PUnit) bk1=>let q2_:=p.bf.getD y1.2.1.toNat default;let q0_:Out:=.ob (p.bf=p.bf)<|.ob q1_<|.ob (bk1 (y1.1,(w1 y1.2.1,())))<|.ok;.br (decide (y1.2.1<q3_)) (.ob (inB y1.2.1 p.bf.length)<|.br (q2_.mode==2) (.br (q2_.done) (.br (q2_.code==1) (.cl fParseSheet (q2_.body,()) fun z2=>.ob (BM (y1.1.length+[z2.1].length) 24)<|.ob (p.bf=p.bf)<|.ob q1_<|.ob (bk1 (y1.1++[z2.1],(w1 y1.2.1,())))<|.ok) q0_) q0_) q0_) (.lf CG (y1.1,()))) ?_;repeat' first|(guard_target =~ Out.holds _ _;first|refine Ay (li:=BJ p) ?_ fun(y1:List SSheet×Int×PUnit) i1=>?_|refine lfY ?_|refine Ab (fun _=>?_) fun _=>?_|refine Af ?_ fun _=>?_|refine Aa ?_ fun _=>?_)|exact trivial
 all_goals
  have h0:sheetsOf (p.bf.drop 0)=sheetsOf p.bf:=rfl;have hl:=Ad AF p.bf;have hg:∀ i,i<p.bf.length->(p.bf.getD i default).body.size<=4200000000:=hp.2;have hg2:szL AF p.bf<=1000000000000:=hp.1;clear hp;try simp only[Az] at *
  try simp only[BJ,fParseSheet,CG,std,Nat.reduceAdd,fParseSheet,sheetsOf_at,sheetsOf_end,Qa4,Qa6,Qb5,Qb4] at *
  try simp(disch:=omega) only[wrapId',toNat1] at *
  try simp(disch:=omega) only[Qa2,Qa3]
 all_goals first|trivial|omega|grind[wrapId',toNat1,drop_cons,drop_end,good_len,maxLen,fParseSheet,sheetsOf_at,sheetsOf_end,List.length_append,List.length_cons,List.length_nil,List.append_assoc])
def Ajt:=AlL.a Dw<|Fct.o [0,2,3,4] AlL.2 func372 (by
 rintro⟨(s:ByteArray),_⟩ hp;exact ho _ (q15 s hp))
abbrev CC (p:SPage) (l:(List SLine)) (w:Bool):LInv:=⟨[⟨.s,31,true,.el .int⟩,⟨.b,0,true,.el .page⟩,⟨.s,29,true,.sl .str⟩],fun(z_ x_:Int×SPage×(List ByteArray)×Unit)=>x_.2.2.1=z_.2.2.1/\logInv z_.2.1 z_.2.2.1 x_.2.1 x_.1,fun(x_:Int×SPage×(List ByteArray)×Unit)=>x_.2.2.1.length-x_.1.toNat⟩
def AhS:=Ajt.G CE<|GS.of (S:=CE) (L:=fun⟨p,l,w,_⟩=>fun|3=>some (CC p l w)|_=>none) (kp:=(KP [0,2,6,7,8,10,29,30,31] [32,39])) Ajt.2 func326 (by kernel_rfl) (by kernel_rfl) (by
 rintro⟨(p:SPage),(l:List SLine),(w:Bool),_⟩ hp;refine ho (.cl CG (p,()) fun z2=>.cl BZ (p.ba,z2.1,l,()) fun z3=>let q0_:=(z3.2.2.1.length:Int);lpx (CC p l w) ((0:Int),(({p with ba:=z3.1}:SPage),(z3.2.2.1,()))) fun(y3:Int×SPage×List ByteArray×PUnit) bk3=>.br (decide (y3.1<q0_)) (.ob (inB y3.1 y3.2.2.1.length)<|.ob (y3.1.toNat<y3.2.2.1.length)<|.ob (Fl.pre (y3.2.1,y3.2.2.1.getD y3.1.toNat default,()))<|.lt _ (Fl.fn (y3.2.1,y3.2.2.1.getD y3.1.toNat default,())) fun z4=>.ob (Value.bool w=Value.bool w)<|.ob (Value.string z3.2.1=Value.string z3.2.1)<|.ob (Value.int IntKind.i64 q0_=Value.int IntKind.i64 q0_)<|.ob (bk3 (w1 y3.1,(z4.2.1,(y3.2.2.1,()))))<|.ok) (.br (w) (.cl Dw (z3.2.1,()) fun z5=>.ob (BM (z5.1.length+y3.2.1.bn.length) 64)<|GS.out CE ((()),({y3.2.1 with bn:=z5.1++y3.2.1.bn},()))) (GS.out CE ((()),(y3.2.1,()))))) ?_;refine Af ?_ fun o1=>(Af ?_ fun o2=>(Ay ?_ fun(y3:Int×SPage×List ByteArray×PUnit) i3=>Ab (fun h4=>Aa ?_ fun o5=>Aa ?_ fun o6=>Aa trivial fun _=>Du (Aa rfl fun _=>Aa rfl fun _=>Aa rfl fun _=>Aa ?_ fun o7=>trivial)) (fun h4=>Ab (fun h8=>Af ?_ fun o9=>(Aa ?_ fun o10=>GS.leafY ?_)) (fun h8=>GS.leafY ?_))))
 all_goals obtain⟨r1,r2,r3,r4,r5,r6,r7,r8,r9⟩:=Zv (show okRL p l from hp)
 all_goals
  try simp only[Az] at *
  try simp only[CC,CE,BZ,Fl,CG,Dw,std,Nat.reduceAdd,BZ,CG,Dw,Fl] at *
 all_goals first|trivial|omega|exact⟨r1,r2⟩|exact⟨r3,r4,r5,r6⟩|exact Sa _ _|(obtain⟨j1,j3⟩:=i3;simp only[j1] at *;have j0:=j3.1)|skip
 all_goals first|trivial|omega|exact⟨j0,by assumption⟩|(rw[Ah (by omega)];simp only[Qe1,true_and];exact⟨PL j3 (by assumption),by omega⟩)|skip
 all_goals
  have e:=MK j3 (by omega);have eq1:y3.2.1.bn=p.bn:=by rw[e]
  have ht:=F8 (runScript p.ba (sheetsOf p.bf) l).2.1
 all_goals first|(simp only[eq1];omega)|skip
 all_goals (unfold runL;(first|rw[Qa2 (by assumption)]|rw[Qa3 (by intro q;exact tf q (by assumption))]);rw[e]))
theorem RF {p:SPage} {c:ByteArray} {w:Bool} (h:(parseScript c).2=true):runCode p c w=runL p (parseScript c).1 w:=by unfold runCode;rw[Qa2 h];rfl
theorem Ux {p:SPage} {c:ByteArray} {w:Bool} (h:(parseScript c).2=false):runCode p c w=say p ⟨#[101,114,114,111,114]⟩:=by
 unfold runCode;rw[Qa3 (by rw[h];decide)];unfold say;split
 ·rename_i hc;rw[addLog,Qa2 hc,FA]
 ·rename_i hc;rw[F1 hc]
def AiO:=AhS.a Bv<|Fct.o (KP [1,2,3,6,7,8,9] [18]) AhS.2 func274 (by
 rintro⟨(p:SPage),(c:ByteArray),(w:Bool),_⟩ hp;refine ho (.cl fCopyPage (p,()) fun z2=>.cl AC (c,()) fun z3=>.br (!z3.2.1) (.ob (Fl.pre (z2.1,(⟨#[101,114,114,111,114]⟩:ByteArray),()))<|.lt _ (Fl.fn (z2.1,(⟨#[101,114,114,111,114]⟩:ByteArray),())) fun z4=>.lf Bv (z4.2.1,())) (.ob (CE.pre (z2.1,z3.1,w,()))<|.lt _ (CE.fn (z2.1,z3.1,w,())) fun z5=>.lf Bv (z5.2.1,()))) ?_;refine Af ?_ fun o1=>(Af ?_ fun o2=>(Ab (fun h3=>Aa trivial fun _=>Du (lfY ?_)) (fun h3=>Aa ?_ fun o4=>Du (lfY ?_))))
 all_goals obtain⟨hp1,hp2,hp3,hp4,hp5⟩:=(show szPage p<=1000000000000/\szBuilder p.ba<=40000000000/\szL AF p.bf<=40000000000/\c.size<=4200000000/\okBod p from hp)
 all_goals
  try simp only[Az] at *
  try simp only[fCopyPage,AC,Bv,CE,Fl,std,Nat.reduceAdd,fCopyPage,AC,Fl,CE] at *
 all_goals first|trivial|omega|exact⟨by(have h1:=Ad Aj p.bn;have h2:=DO p;show p.bn.length<=_;omega),hp2,hp3,hp5,(Es c).1⟩|(rw[Ux (by assumption)])|(rw[RF (by assumption)]))
def AhV:=AiO.a AY<|Fct.o (KP [1,2,3,4,5] [8,14,25,40,54,62]) AiO.2 func207 (by
 rintro⟨(p:SPage),_⟩ hp;refine ho (let q5_:=(p.bf.length:Int);let q0_:=p.block-(1:Int);let q3_:=p.bf.getD (wr q0_).toNat default;let q2_:=0<=wr q0_/\wr q0_<q5_;.cl fCopyPage (p,()) fun z2=>let q4_:Out:=.lf AY (z2.1,false,());let q1_:Out:=.lf AY ({z2.1 with block:=(0:Int)},true,());.br (p.inline != 0) (.cl AD (p,()) fun z3=>.br (!z3.1) q4_ (.cl Ez (p.ba,p.inline,()) fun z4=>.cl Bv (z2.1,z4.1,true,()) fun z5=>.lf AY ({z5.1 with inline:=(0:Int)},true,()))) (.br (p.block != 0) (.br (decide (wr q0_<0)) q1_ (.br (decide (wr q0_>=q5_)) q1_ (.ob q2_<|.br (!q3_.done) q4_ (.cl AD (p,()) fun z6=>.br (!z6.1) q4_ (.ob q2_<|.br (q3_.code==1) (.ob q2_<|.cl Bv (z2.1,q3_.body,true,()) fun z7=>.lf AY ({z7.1 with block:=(0:Int)},true,())) q1_))))) (.cl AL (p,()) fun z8=>.lf AY (z8.1,z8.2.1,())))) ?_;refine Af ?_ fun o1=>(Ab (fun h2=>Af ?_ fun o3=>(Ab (fun h4=>lfY ?_) (fun h4=>Af ?_ fun o5=>(Af ?_ fun o6=>(lfY ?_))))) (fun h2=>Ab (fun h7=>Ab (fun h8=>lfY ?_) (fun h8=>Ab (fun h9=>lfY ?_) (fun h9=>Aa ?_ fun o10=>Ab (fun h11=>lfY ?_) (fun h11=>Af ?_ fun o12=>(Ab (fun h13=>lfY ?_) (fun h13=>Aa ?_ fun o14=>Ab (fun h15=>Aa ?_ fun o16=>Af ?_ fun o17=>(lfY ?_)) (fun h15=>lfY ?_))))))) (fun h7=>Af ?_ fun o18=>(lfY ?_))))
 all_goals obtain⟨hp0,hp6,hp5⟩:=(show okParse p from hp)
 all_goals obtain⟨hp1,hp2,hp3,hp4,hp7⟩:=(show okTok p from hp0)
 all_goals
  have hbb:szBuilder p.ba<=2000000000:=by(unfold szBuilder;omega)
  have hpp:=DO p;have hsl:=Ad AF p.bf;have hnl:=Ad szNode p.ba.bi;have htx:=Ik p.inline p.ba.bi ⟨#[]⟩
 all_goals rw[show ByteArray.size ⟨#[]⟩=0 from rfl] at htx
 all_goals
  try simp only[Az] at *
  try simp only[fCopyPage,Bv,AY,AD,AL,Ez,std,Nat.reduceAdd,AD,fCopyPage,Ez,Bv,fInRange,inRange,AL,NX] at *
  try simp only[NX,Qa1,Qe7,Qa9,Qb2,Ah (show -9223372036854775808<=(p.bf.length:Int)-1/\(p.bf.length:Int)-1<=9223372036854775807 by omega)] at *
 all_goals first|trivial|omega|exact hp0|exact⟨by omega,by omega,by omega,hp5 _ (by omega),hp5⟩|exact⟨by omega,by omega,by omega,by omega,hp5⟩|skip
 all_goals unfold stepParser
 all_goals first|rw[Qa2 (by assumption)]|(rw[Qa3 (by omega)];first|rw[Qa2 (by assumption)]|rw[Qa3 (by omega)])
 all_goals first|exact⟨rfl,rfl⟩|(unfold stepInline)|(unfold stepBlock)
 all_goals repeat first|rw[Qa2 (by assumption)]|rw[Qa3 (by intro q;first|exact tf q (by assumption)|exact tf (by assumption) q)]|rw[Qa2 (by omega)]|rw[Qa3 (by omega)]|rw[Qa2 (by exact .inl (by assumption))]|rw[Qa2 (by exact .inr (by assumption))]|rw[Qa3 (by rintro(q|q)<;>exact tf (by assumption) q)]|fail
 all_goals exact⟨rfl,rfl⟩)
theorem Abi {p q:SPage} {a:SAddr} {i:Int} (h:entInv p a q i) (hp:okEnt p a) (b:SAddr):okRL { q with ran:=q.ran++[b]} (entLines p b):=by
 have he:=EN h;have hz:=Kk h hp;have e:=h.2.2.2.1;have eq1:q.bn=p.bn:=by rw[e]
 have hl:=Ad Aj p.bn;have hpp:=DO p;have h1:=hp.1;refine⟨?_,?_,?_,?_,(HW p b).1⟩
 ·show q.bn.length<=_;rw[eq1];omega
 ·show szBuilder q.ba<=_;omega
 ·show szL AF q.bf<=_;rw[he.2];omega
 ·intro j hj;have hj:j<q.bf.length:=hj;show(q.bf.getD j default).body.size<=_;rw[he.2] at hj ⊢;exact hp.2.2.2.2.2 j hj
theorem Ov (p:SPage) (b:SAddr):(parseModule (p.bh.getD (findMod p.bh b).toNat default).body b.host).2.1=entLines p b:=rfl
theorem Abm {p q:SPage} {a:SAddr} {i:Int} (h:entInv p a q i) (b:SAddr) (hn:inL q.ran b=false):runL { q with ran:=q.ran++[b]} (entLines p b) false=enter1 p q b:=by
 have he:=EN h;unfold runL enter1 entRun;rw[Qa3 (show ¬ (false=true) by decide),Qa3 (show ¬ inL q.ran b=true by rw[hn];decide)];simp only[he.2]
def Gj:GS:=⟨[.b (.el .page),.l (.v (.el .addr))],[],fun(x_:SPage×SAddr×Unit)=>okEnt x_.1 x_.2.1,fun(x_:SPage×SAddr×Unit)=>((()),(enter x_.1 x_.2.1,()))⟩
abbrev CQ (p:SPage) (a:SAddr):LInv:=⟨[⟨.s,25,true,.el .int⟩,⟨.b,0,true,.el .page⟩,⟨.s,23,true,.sl .addr⟩],fun(z_ x_:Int×SPage×(List SAddr)×Unit)=>(entInv p a x_.2.1 x_.1)/\x_.2.2.1=z_.2.2.1,fun(x_:Int×SPage×(List SAddr)×Unit)=>(reachOf p a).length-x_.1.toNat⟩
def AlJ:=AhV.G Gj<|GS.of (S:=Gj) (L:=fun⟨p,a,_⟩=>fun|4=>some (CQ p a)|_=>none) (kp:=(KP [0,3,5,7,23,24,25] [13,26,34])) AhV.2 func280 (by kernel_rfl) (by kernel_rfl) (by
 rintro⟨(p:SPage),(a:SAddr),_⟩ hp;refine ho (let q2_:=(⟨#[102,97,105,108,32]⟩:ByteArray);.cl BE (p,a,()) fun z2=>.br (z2.1) (.cl BW (a,()) fun z3=>.ob (sameSize q2_ z3.1)<|.ob (Fl.pre (p,q2_++z3.1,()))<|.lt _ (Fl.fn (p,q2_++z3.1,())) fun z4=>GS.out Gj ((()),(z4.2.1,()))) (.cl Bw (p,a,()) fun z5=>let q3_:=(z5.1.length:Int);let q1_:=Value.int IntKind.i64 q3_=Value.int IntKind.i64 q3_;lpx (CQ p a) ((0:Int),(p,(z5.1,()))) fun(y6:Int×SPage×List SAddr×PUnit) bk6=>let q0_:=({y6.2.1 with ran:=y6.2.1.ran++[y6.2.2.1.getD y6.1.toNat default]}:SPage);.br (decide (y6.1<q3_)) (.ob (inB y6.1 y6.2.2.1.length)<|.ob (y6.1.toNat<y6.2.2.1.length)<|.cl fHasAddr (y6.2.1.ran,y6.2.2.1.getD y6.1.toNat default,()) fun z6=>.br (z6.1) (.ob q1_<|.ob (bk6 (w1 y6.1,(y6.2.1,(y6.2.2.1,()))))<|.ok) (.ob (True)<|.ob (BM (y6.2.1.ran.length+[y6.2.2.1.getD y6.1.toNat default].length) 32)<|.cl Cd (q0_,y6.2.2.1.getD y6.1.toNat default,()) fun(z7:Int×PUnit)=>.ob (inB z7.1 y6.2.1.bh.length)<|.ob (z7.1.toNat<y6.2.1.bh.length)<|.cl Aw ((y6.2.1.bh.getD z7.1.toNat default).body,(y6.2.2.1.getD y6.1.toNat default).host,()) fun z8=>.ob (CE.pre (q0_,z8.2.1,false,()))<|.lt _ (CE.fn (q0_,z8.2.1,false,())) fun z9=>.ob q1_<|.ob (bk6 (w1 y6.1,(z9.2.1,(y6.2.2.1,()))))<|.ok)) (GS.out Gj ((()),(y6.2.1,()))))) ?_;repeat' first|(guard_target =~ Out.holds _ _;first|refine Ay (li:=CQ p a) ?_ fun(y6:Int×SPage×List SAddr×PUnit) i6=>?_|refine GS.leafY ?_|refine Ab (fun _=>?_) fun _=>?_|refine Af ?_ fun _=>?_|refine Aa ?_ fun _=>?_|refine Du ?_)|exact trivial
 all_goals have hq:okEnt p a:=hp
 all_goals obtain⟨p1,p2,p3,p4,p5,p6⟩:=(show okEnt p a from hp)
 all_goals
  have hfa:=Mp a;try simp only[Az] at *
  try simp only[CQ,Gj,BW,BE,fHasAddr,Cd,Aw,Bw,CE,Fl,std,Nat.reduceAdd,BE,BW,Fl,Bw,fHasAddr,Aw,Cd,CE,Hv,MZ] at *
 all_goals first|trivial|omega|exact p2|(unfold sameSize;rw[show ByteArray.size ⟨#[102,97,105,108,32]⟩=5 from rfl];omega)|exact SR p a|(unfold enter;rw[Qa2 (by assumption)])|skip
 all_goals (obtain⟨i1,e2⟩:=i6;have em:=(EN i1).1;have i0:=i1.1;have iz:=Kk i1 hq)
 all_goals try simp only[e2,em,Ov] at *
 all_goals first|trivial|omega|skip
 all_goals try (have hmem:=Bl (l:=reachOf p a) (i:=y6.1.toNat) (by omega);have hfnd:=IJ (by assumption) hmem;have hfi:=BP p.bh ((reachOf p a).getD y6.1.toNat default))
 all_goals first|exact⟨hfnd,hfi.1⟩|exact⟨p2.2.1 _ (by omega),Hc hmem p2.2.2.1⟩|(rw[Ah (by omega)];have e:=Ig i1 (by omega);unfold enter1 at e;rw[Qa2 (by assumption)] at e;exact⟨⟨e,trivial⟩,by omega⟩)|(unfold enter;rw[Qa3 (by intro q;exact tf q (by assumption))];have e:=i1.2.2.1;rw[JB (by omega)] at e;exact e)|skip
 all_goals
  have hR:=Abi i1 hq ((reachOf p a).getD y6.1.toNat default);have hL:=Abm i1 ((reachOf p a).getD y6.1.toNat default) (by assumption);have em2:=(EN i1).1
 all_goals simp only[em2] at hR hL
 all_goals first|exact hR|(rw[hL,Ah (by omega)];exact⟨⟨Ig i1 (by omega),trivial⟩,by omega⟩))
theorem Rt (p:SPage) (c:ByteArray) (w:Bool):(runCode p c w).bm=p.bm:=by unfold runCode;split<;>rfl
theorem Jy (p:SPage):∀ (l:List SAddr) (q:SPage),(enterAll p q l).bq=q.bq
 | [],q=>rfl
 | b::l,q=>by have:=Jy p l (enter1 p q b);refine this.trans ?_;unfold enter1;split<;>rfl
theorem WH (p:SPage) (a:SAddr):(enter p a).bq=p.bq:=by
 unfold enter;split
 ·unfold say;split<;>rfl
 ·exact Jy p _ p
def Ai9:=AlJ.a Bt<|Fct.o (KP [1,2,3,4,5,6,7] [26,30,52,56,66,87,96]) AlJ.2 func208 (by
 rintro⟨(p:SPage),_⟩ hp;refine ho (let q2_:=(⟨#[108,111,97,100]⟩:ByteArray);.cl fCopyPage (p,()) fun z2=>let q0_:Out:=.lf Bt (z2.1,false,());.cl CK (p,()) fun z3=>.br (!z3.1) q0_ (.br (p.loaded) q0_ (.br (decide (p.bm<0)) q0_ (.br (decide (p.bq<0)) q0_ (.cl Bb (p,()) fun(z4:List Int×PUnit)=>let q1_:=p.bf.getD (z4.1.getD p.bm.toNat default).toNat default;.br (decide (p.bm<(z4.1.length:Int))) (.ob (inB p.bm z4.1.length)<|.ob (p.bm.toNat<z4.1.length)<|.ob (0<=z4.1.getD p.bm.toNat default/\z4.1.getD p.bm.toNat default<(p.bf.length:Int))<|.br (!q1_.done) q0_ (.cl AD (p,()) fun z5=>.br (!z5.1) q0_ (.br (q1_.code==1) (.cl Bv (z2.1,q1_.body,false,()) fun z6=>.lf Bt ({z6.1 with bm:=w1 z6.1.bm},true,())) (.lf Bt ({z2.1 with bm:=w1 z2.1.bm},true,()))))) (.br (decide (p.bq<(p.bg.length:Int))) (.ob (inB p.bq p.bg.length)<|.cl Bg (p,p.bg.getD p.bq.toNat default,()) fun z7=>.br (!z7.1) q0_ (.cl AD (p,()) fun z8=>.br (!z8.1) q0_ (.ob (Gj.pre (z2.1,p.bg.getD p.bq.toNat default,()))<|.lt _ (Gj.fn (z2.1,p.bg.getD p.bq.toNat default,())) fun z9=>.lf Bt ({z9.2.1 with bq:=w1 z9.2.1.bq},true,())))) (.cl Bk (p,()) fun(z10:List Int×PUnit)=>.br ((z10.1.length:Int)==0) (.cl BT (p,()) fun(z11:List Int×PUnit)=>.br ((z11.1.length:Int)==0) (.ob (Fl.pre (z2.1,q2_,()))<|.lt _ (Fl.fn (z2.1,q2_,())) fun z12=>.lf Bt ({z12.2.1 with loaded:=true},true,())) q0_) q0_))))))) ?_;repeat' first|(guard_target =~ Out.holds _ _;first|refine lfY ?_|refine Ab (fun _=>?_) fun _=>?_|refine Af ?_ fun _=>?_|refine Aa ?_ fun _=>?_|refine Du ?_)|exact trivial
 all_goals have hq:okTail p:=hp
 all_goals obtain⟨⟨⟨hp1,hp2,hp3,hp4,hp9⟩,hp8,hp5⟩,hp6,hp10,hp7⟩:=(show okTail p from hp)
 all_goals
  have hbb:szBuilder p.ba<=2000000000:=by(unfold szBuilder;omega)
  have hpp:=DO p;have hsl:=Ad AF p.bf;have hml:=Ad Aq p.bh;have hel:=Ad szAddr p.bg;have hdl:(deferredSlots p).length<=p.bf.length:=Dr _ _ _;try simp only[Az] at *
  try simp only[fCopyPage,Bb,Gj,Bg,CK,BT,Bk,Bv,Fl,Bt,AD,std,Nat.reduceAdd,fCopyPage,CK,Bb,AD,Bv,Bg,Gj,Bk,BT,Fl,K4,L2] at *
 all_goals first|trivial|omega|skip
 all_goals
  have hds:0<=p.bm->p.bm<(deferredSlots p).length->(defSlot p).body.size<=4200000000:=fun a b=>hp5 _ (by have:=Ho p a b;omega)
  have hes:0<=p.bq->p.bq<p.bg.length->okEnt p (entNow p):=fun a b=>MM hq (by omega)
 all_goals first|exact Ho p (by assumption) (by assumption)|exact⟨hp1,by omega,by omega,hds (by assumption) (by assumption),hp5⟩|exact hes (by assumption) (by assumption)|exact(hes (by assumption) (by assumption)).2.1|skip
 all_goals unfold stepTail
 all_goals repeat first|rw[Qa2 (by first|assumption|omega|exact .inl (by assumption)|exact .inr (by assumption)|exact .inr (.inl (by assumption))|exact .inr (.inr (.inl (by omega)))|exact .inr (.inr (.inr (by omega)))|exact .inl (by omega)|exact .inr (by omega))]|rw[Qa3 (by first|omega|(rintro(q|q|q|q)<;>first|omega|exact tf (by assumption) q|exact tf q (by assumption))|(rintro(q|q)<;>first|omega|exact tf (by assumption) q))]|unfold tailDefer|unfold tailEnter
 all_goals first|exact⟨rfl,rfl⟩|exact⟨rfl,trivial⟩|(rw[Ah (by omega)];first|exact⟨rfl,rfl⟩|exact⟨rfl,trivial⟩)|(simp only[Rt,WH];rw[Ah (by omega)];first|exact⟨rfl,rfl⟩|exact⟨rfl,trivial⟩))
abbrev C5 (p:SPage):LInv:=⟨[⟨.b,3,true,.el .page⟩,⟨.s,4,true,.el .int⟩,⟨.b,2,true,.el .page⟩],fun(z_ x_:SPage×Int×SPage×Unit)=>(advInv p x_.1 x_.2.1)/\x_.2.2.1=z_.2.2.1,fun(x_:SPage×Int×SPage×Unit)=>(2000-x_.2.1).toNat⟩
def AkM:=Ai9.a DL<|Fct.p (KP [1,2,3,4,5,6] [10,19,26]) (fun⟨p,_⟩=>lv [(3,C5 p)]) Ai9.2 func112 (by
 rintro⟨(p:SPage),_⟩ hp;refine ho (.cl fCopyPage (p,()) fun z2=>lpx (C5 p) (z2.1,((0:Int),(default,()))) fun(y2:SPage×Int×SPage×PUnit) bk2=>.br (decide (y2.2.1<2000)) (.cl AY (y2.1,()) fun z3=>.br (!z3.2.1) (.cl Bt (y2.1,()) fun z4=>.br (!z4.2.1) (.lf DL (y2.1,())) (.ob (bk2 (z4.1,(w1 y2.2.1,(y2.2.2.1,()))))<|.ok)) (.br (!z3.2.1) (.lf DL (y2.1,())) (.ob (bk2 (z3.1,(w1 y2.2.1,(y2.2.2.1,()))))<|.ok))) (.lf DL (y2.1,()))) ?_;refine Af ?_ fun o1=>(Ay ?_ fun(y2:SPage×Int×SPage×PUnit) i2=>Ab (fun h3=>Af ?_ fun o4=>(Ab (fun h5=>Af ?_ fun o6=>(Ab (fun h7=>lfY ?_) (fun h7=>Aa ?_ fun o8=>trivial))) (fun h5=>Ab (fun h9=>lfY ?_) (fun h9=>Aa ?_ fun o10=>trivial)))) (fun h3=>lfY ?_))
 all_goals
  have hq:okAdv p:=hp;have h0:=(F9 (Hn hq)).1.1.1;try simp only[Az] at *
  try simp only[C5,DL,fCopyPage,AY,Bt,std,Nat.reduceAdd,fCopyPage,AY,Bt] at *
 all_goals first|trivial|omega|skip
 all_goals first|exact Hn hq|exact⟨Hn hq,rfl⟩|(obtain⟨i3,e1⟩:=i2;have ht:=F9 i3)
 all_goals first|exact ht|exact ht.1|exact(tf (by assumption) (by assumption)).elim|skip
 all_goals first|exact Gl i3 (fun h=>absurd h (by omega))|exact Gl i3 (fun _=>by rw[IF (by assumption)];assumption)|skip
 all_goals rw[Ah (by have:=i3.1;omega)]
 all_goals first|(have e:=Iv i3 (by assumption) (by rw[IF (by assumption)];assumption);rw[IF (by assumption)] at e;exact⟨⟨e,e1⟩,by omega⟩)|(have e:=Iv i3 (by assumption) (by rw[N6 (by assumption)];assumption);rw[N6 (by assumption)] at e;exact⟨⟨e,e1⟩,by omega⟩))
theorem Km (p:SPolicy) (r:SRequest) (x:SResponse):(usable p r x).1.size<=400:=by
 unfold usable;split
 ·rename_i h;by_cases hi:isResponse x=true
  ·unfold isResponse at hi;simp only[Qa1,Qa9] at hi;exact hi.2.2.1
  ·exfalso;unfold checkResponse at h;split at h
   ·cases h
   ·rw[Qa2 (.inl (by simpa using hi))] at h;cases h
 ·exact Nat.zero_le _
theorem Rp {α:Type} (f:α->α) (m:α) (B:List α):∀ A:List α,(A++m::B).modify A.length f=A++f m::B
 | []=>rfl
 | a::A=>Qg8 (List.cons a) (Rp f m B A)
theorem EQ {α:Type} [Inhabited α] (f:α->α) {l:List α} {i:Nat} (h:i<l.length):l.modify i f=l.take i++f (l.getD i default)::l.drop (i+1):=by
 have e:(l.take i).length=i:=by rw[Qc5];omega
 have:=Rp f (l.getD i default) (l.drop (i+1)) (l.take i);rw[e,<-drop_cons h,Qd8] at this;exact this
theorem FP {α:Type} (f g:α->α):∀ (l:List α) (i:Nat),(l.modify i f).modify i g=l.modify i fun z=>g (f z)
 | [],0=>rfl
 | [],_+1=>rfl
 | _::_,0=>rfl
 | a::l,i+1=>Qg8 (List.cons a) (FP f g l i)
theorem Jc {p:SPage} {k:Int} (h0:0<=k) (h:k<p.bf.length):slotRequest p k=reqOf p (p.bf.getD k.toNat default):=by unfold slotRequest;rw[Qa2 ⟨h0,h⟩];rfl
theorem Ab6 {p:SPage} {k:Int} {x:SResponse} (h0:0<=k) (h:k<p.bf.length) (hd:(p.bf.getD k.toNat default).done=false):(((p.bf.modify k.toNat fun z=>(⟨z.mode,z.to,z.digest,z.node,true,z.code,z.body⟩:SSlot)).modify k.toNat fun z=>(⟨z.mode,z.to,z.digest,z.node,z.done,checkResponse p.bj (slotRequest p k) x,z.body⟩:SSlot)).modify k.toNat fun z=>(⟨z.mode,z.to,z.digest,z.node,z.done,z.code,(usable p.bj (slotRequest p k) x).1⟩:SSlot))=p.bf.modify k.toNat (fillS p x):=by
 have hi:k.toNat<p.bf.length:=by omega
 rw[FP,FP,EQ _ hi,EQ _ hi,Jc h0 h];unfold fillS;rw[Qa3 (by rw[hd];decide)]
theorem MG {p:SPage} {k:Int} {x:SResponse} (h0:0<=k) (h:k<p.bf.length) (hd:(p.bf.getD k.toNat default).done=true):fillSlot p k x=p:=by
 have hi:k.toNat<p.bf.length:=by omega
 have e:p.bf.modify k.toNat (fillS p x)=p.bf:=by rw[EQ _ hi];unfold fillS;rw[Qa2 hd,<-drop_cons hi,Qd8]
 unfold fillSlot;rw[Qa2 ⟨h0,h⟩,e]
def Aln:=AkM.a CV<|Fct.o (KP [1,3,5,6,7,8] [25]) AkM.2 func253 (by
 rintro⟨(p:SPage),(k:Int),(x:SResponse),_⟩ hp;refine ho (.cl fCopyPage (p,()) fun z2=>let q0_:Out:=.lf CV (z2.1,());.cl fInRange (k,(0:Int),wr ((p.bf.length:Int)-(1:Int)),()) fun z3=>.br (!z3.1) q0_ (.ob (inB k p.bf.length)<|.br ((p.bf.getD (Int.toNat k) default).done) q0_ (.cl Au (p,k,()) fun z4=>.ob (inB k z2.1.bf.length)<|.ob (Int.toNat k<z2.1.bf.length)<|.lt (List SSlot) (z2.1.bf.modify (Int.toNat k) fun z=>({z with done:=true}:SSlot)) fun z5=>.cl fCheckResponse (p.bj,z4.1,x,()) fun(z6:Int×PUnit)=>.ob (inB k z5.length)<|.ob (Int.toNat k<z5.length)<|.lt (List SSlot) (z5.modify (Int.toNat k) fun z=>({z with code:=z6.1}:SSlot)) fun z7=>.cl A1 (p.bj,z4.1,x,()) fun z8=>.ob (inB k z7.length)<|.ob (Int.toNat k<z7.length)<|.lt (List SSlot) (z7.modify (Int.toNat k) fun z=>({z with body:=z8.1}:SSlot)) fun z9=>.lf CV ({z2.1 with bf:=z9},())))) ?_;refine Af ?_ fun o1=>(Af trivial fun _=>(Ab (fun h2=>lfY ?_) (fun h2=>Aa ?_ fun o3=>Ab (fun h4=>lfY ?_) (fun h4=>Af ?_ fun o5=>(Aa ?_ fun o6=>Aa ?_ fun o7=>Du (Af ?_ fun o8=>(Aa ?_ fun o9=>Aa ?_ fun o10=>Du (Af ?_ fun o11=>(Aa ?_ fun o12=>Aa ?_ fun o13=>Du (lfY ?_))))))))))
 all_goals obtain⟨q1,q2,q3,q4,q5,q6,q7⟩:=(show szPage p<=1000000000000/\p.addr.host.size<=4000000000/\(∀ i,i<p.bf.length->AF (p.bf.getD i default)<=50000000000)/\-9223372036854775808<=k/\k<=9223372036854775807/\x.bj.size<=200000000/\x.body.size<=1000000000 from hp)
 all_goals
  have hl:p.bf.length<=1000000000000:=by have:=Ad AF p.bf;simp only[szPage] at q1;omega
  have hpo:szPolicy p.bj<=1000000000000:=by simp only[szPage] at q1;omega
  try simp only[Az] at *
  try simp only[fCheckResponse,fCopyPage,CV,fInRange,Au,A1,std,Nat.reduceAdd,fCopyPage,fInRange,inRange,Au,fCheckResponse,A1] at *
  try rw[Ah (by omega)] at h2
  try simp only[Qa1,Qe7,Qa9,Qb2] at h2
 all_goals first|trivial|omega|(unfold fillSlot;rw[Qa3 (by omega)])|exact(MG (by omega) (by omega) (by assumption)).symm|(simp only[List.length_modify];omega)|skip
 all_goals first|(rw[Jc (by omega) (by omega)];have:=q3 k.toNat (by omega);simp only[AF] at this;exact⟨by omega,by simp only[szRequest,reqOf];simp only[szAddr] at *;omega,q6,q7⟩)|(unfold fillSlot;rw[Qa2 (by omega),<-Ab6 (by omega) (by omega) (by assumption)]))
def Al1:=Aln.a CV<|Fct.o (KP [1,3,5,6,7,8] [27]) Aln.2 func214 (by
 rintro⟨(p:SPage),(k:Int),(x:SResponse),_⟩ hp;refine ho (.cl fCopyPage (p,()) fun z2=>let q0_:Out:=.lf CV (z2.1,());.br (decide (k<0)) q0_ (.br (decide (k>=(p.bf.length:Int))) q0_ (.ob (inB k p.bf.length)<|.br ((p.bf.getD (Int.toNat k) default).done) q0_ (.cl Au (p,k,()) fun z3=>.ob (inB k z2.1.bf.length)<|.ob (Int.toNat k<z2.1.bf.length)<|.lt (List SSlot) (z2.1.bf.modify (Int.toNat k) fun z=>({z with done:=true}:SSlot)) fun z4=>.cl fCheckResponse (p.bj,z3.1,x,()) fun(z5:Int×PUnit)=>.ob (inB k z4.length)<|.ob (Int.toNat k<z4.length)<|.lt (List SSlot) (z4.modify (Int.toNat k) fun z=>({z with code:=z5.1}:SSlot)) fun z6=>.cl A1 (p.bj,z3.1,x,()) fun z7=>.ob (inB k z6.length)<|.ob (Int.toNat k<z6.length)<|.lt (List SSlot) (z6.modify (Int.toNat k) fun z=>({z with body:=z7.1}:SSlot)) fun z8=>.lf CV ({z2.1 with bf:=z8},()))))) ?_;refine Af ?_ fun o1=>(Ab (fun h2=>lfY ?_) (fun h2=>Ab (fun h3=>lfY ?_) (fun h3=>Aa ?_ fun o4=>Ab (fun h5=>lfY ?_) (fun h5=>Af ?_ fun o6=>(Aa ?_ fun o7=>Aa ?_ fun o8=>Du (Af ?_ fun o9=>(Aa ?_ fun o10=>Aa ?_ fun o11=>Du (Af ?_ fun o12=>(Aa ?_ fun o13=>Aa ?_ fun o14=>Du (lfY ?_))))))))))
 all_goals obtain⟨q1,q2,q3,q4,q5,q6,q7⟩:=(show szPage p<=1000000000000/\p.addr.host.size<=4000000000/\(∀ i,i<p.bf.length->AF (p.bf.getD i default)<=50000000000)/\-9223372036854775808<=k/\k<=9223372036854775807/\x.bj.size<=200000000/\x.body.size<=1000000000 from hp)
 all_goals
  have hl:p.bf.length<=1000000000000:=by have:=Ad AF p.bf;simp only[szPage] at q1;omega
  have hpo:szPolicy p.bj<=1000000000000:=by simp only[szPage] at q1;omega
  try simp only[Az] at *
  try simp only[fCheckResponse,fCopyPage,CV,Au,A1,std,Nat.reduceAdd,fCopyPage,fInRange,inRange,Au,fCheckResponse,A1] at *
  try rw[Ah (by omega)] at h2
  try simp only[Qa1,Qe7,Qa9,Qb2] at h2
 all_goals first|trivial|omega|(unfold fillSlot;rw[Qa3 (by omega)])|exact(MG (by omega) (by omega) (by assumption)).symm|(simp only[List.length_modify];omega)|skip
 all_goals first|(rw[Jc (by omega) (by omega)];have:=q3 k.toNat (by omega);simp only[AF] at this;exact⟨by omega,by simp only[szRequest,reqOf];simp only[szAddr] at *;omega,q6,q7⟩)|(unfold fillSlot;rw[Qa2 (by omega),<-Ab6 (by omega) (by omega) (by assumption)]))
def fillF (p:SPage) (a:SAddr) (x:SResponse) (s:SSlot):SSlot:=if s.to=a then fillS p x s else s
def fillTo (p:SPage) (a:SAddr) (x:SResponse) (i:Nat):SPage:={ p with bf:=(p.bf.take i).map (fillF p a x)++p.bf.drop i }
def fillAll (p:SPage) (a:SAddr) (x:SResponse):SPage:={ p with bf:=p.bf.map (fillF p a x)}
def und1 (s:SSlot):Nat:=if s.done=true then 0 else 1
theorem SX (p:SPage) (a:SAddr) (x:SResponse) (s:SSlot):AF (fillF p a x s)+400*und1 (fillF p a x s)<=AF s+400*und1 s/\(fillF p a x s).body.size<=s.body.size+400/\(s.body.size<=2000000->(fillF p a x s).body.size<=2000000):=by
 unfold fillF;split
 ·unfold fillS;split
  ·exact⟨Qb0 _,by omega,id⟩
  ·rename_i h;have hu:=Km p.bj (reqOf p s) x;refine⟨?_,by dsimp only;omega,fun _=>by dsimp only;omega⟩;unfold und1 AF;dsimp only;rw[Qa2 rfl,Qa3 h];omega
 ·exact⟨Qb0 _,by omega,id⟩
theorem Sy (p:SPage) (a:SAddr) (x:SResponse):∀ l:List SSlot,szL AF (l.map (fillF p a x))+400*undS (l.map (fillF p a x))<=szL AF l+400*undS l
 | []=>Qb0 _
 | s::l=>by have h:=Sy p a x l;have h1:=(SX p a x s).1;rw[Qc9,Ax,Ax,undS,undS];unfold und1 at h1;omega
theorem Adv (l:List SSlot) (i:Nat):undS (l.take i)+undS (l.drop i)=undS l:=by rw[<-JM,Qd8]
theorem Ln {p:SPage} {Q M R:Nat} (h:okAll p Q M R) (a:SAddr) (x:SResponse) (i:Nat):okAll (fillTo p a x i) Q M R:=by
 obtain⟨h1,h2,⟨h3,h4⟩,h5,h6,h7⟩:=h;refine⟨h1,h2,⟨?_,fun s hs=>?_⟩,h5,h6,h7⟩
 ·unfold slotP at *
  have e1:=Vv AF p.bf i;have e2:=Adv p.bf i;have e3:=Sy p a x (p.bf.take i);have e4:((p.bf.take i).map (fillF p a x)++p.bf.drop i).length=p.bf.length:=by rw[Qa4,Qf5,<-Qa4,Qd8]
  show szL AF ((p.bf.take i).map (fillF p a x)++p.bf.drop i)+400*undS ((p.bf.take i).map (fillF p a x)++p.bf.drop i)+500000800*(20-((p.bf.take i).map (fillF p a x)++p.bf.drop i).length)<=_;rw[Dp,JM,e4];omega
 ·rcases Qc0.1 hs with q|q
  ·obtain⟨s0,q0,rfl⟩:=Qg5.1 q;exact(SX p a x s0).2.2 (h4 s0 (List.mem_of_mem_take q0))
  ·exact h4 s (List.mem_of_mem_drop q)
theorem Se (p:SPage) (a:SAddr) (x:SResponse):fillTo p a x 0=p:=rfl
theorem G7 {p:SPage} {a:SAddr} {x:SResponse} {i:Nat} (h:p.bf.length<=i):fillTo p a x i=fillAll p a x:=by
 unfold fillTo fillAll;rw[Qb6 h,Qb9 h,Qd7]
theorem Td (p:SPage) (a:SAddr) (x:SResponse) (i:Nat):(fillTo p a x i).bf.length=p.bf.length:=by
 show((p.bf.take i).map (fillF p a x)++p.bf.drop i).length=_;rw[Qa4,Qf5,<-Qa4,Qd8]
theorem Ko {p:SPage} {a:SAddr} {x:SResponse} {i:Nat} (h:i<p.bf.length):fillTo p a x (i+1)={ p with bf:=(p.bf.take i).map (fillF p a x)++fillF p a x (p.bf.getD i default)::p.bf.drop (i+1)}:=by
 unfold fillTo;rw[take_succ h,List.map_append,Qb4];rfl
theorem KO {p:SPage} {a:SAddr} {x:SResponse} {i:Nat} (h:i<p.bf.length) (hs:¬ (p.bf.getD i default).to=a\/(p.bf.getD i default).done=true):fillTo p a x (i+1)=fillTo p a x i:=by
 have e:fillF p a x (p.bf.getD i default)=p.bf.getD i default:=by
  unfold fillF;rcases hs with hs|hs
  ·rw[Qa3 hs]
  ·split
   ·unfold fillS;rw[Qa2 hs]
   ·rfl
 rw[Ko h,e,<-drop_cons h];rfl
theorem Vy {p:SPage} {a:SAddr} {x:SResponse} {i:Nat} (h:i<p.bf.length) (hs:(p.bf.getD i default).to=a):fillSlot (fillTo p a x i) (i:Int) x=fillTo p a x (i+1):=by
 unfold fillSlot;rw[Td,Qa2 (by omega),Ko h];have e:fillF p a x (p.bf.getD i default)=fillS p x (p.bf.getD i default):=by unfold fillF;rw[Qa2 hs]
 have el:((p.bf.take i).map (fillF p a x)).length=i:=by rw[Qf5,Qc5];omega
 show({ p with bf:=((p.bf.take i).map (fillF p a x)++p.bf.drop i).modify (i:Int).toNat (fillS p x)}:SPage)=_;have:=Rp (fillS p x) (p.bf.getD i default) (p.bf.drop (i+1)) ((p.bf.take i).map (fillF p a x));rw[el] at this;rw[drop_cons h,Qg6,this,e]
theorem DS {p:SPage} (h:okAdv p):szPage p<=1000000000000/\szPolicy p.bj+szAddr p.addr<=4000000/\p.bf.length<=100000000000/\(∀ i,i<p.bf.length->AF (p.bf.getD i default)<=50000000000)/\p.bh.length<=60000000000/\okMb p:=by
 obtain⟨Q,M,R,h1,h2,h3,h4⟩:=h;have hz:=SZ h1 (by omega) h3 h4;have hs:szL AF p.bf<=13000000000:=by have:=h1.2.2.1.1;unfold slotP at this;omega
 have hm:szL Aq p.bh<=50000000000:=by have:=h1.2.2.2.1.2.1;unfold modP at this;omega
 have l1:=Ad AF p.bf;have l2:=Ad Aq p.bh;refine⟨hz,h1.2.2.2.2.2.1,by omega,fun i hi=>?_,by omega,fun i hi=>?_⟩
 ·have:=Dx AF hi;omega
 ·have:=h1.2.2.2.1.2.2.2 _ (Bl hi);omega
theorem My {p:SPage} (h:okAdv p) (a:SAddr) (x:SResponse) (i:Nat):okAdv (fillTo p a x i):=by
 obtain⟨Q,M,R,h1,h2⟩:=h;exact⟨Q,M,R,Ln h1 a x i,h2⟩
theorem MD {p:SPage} {a:SAddr} {x:SResponse} {k:Int} (h0:0<=k) (h:k<p.bf.length) (hs:(p.bf.getD k.toNat default).to=a):fillSlot (fillTo p a x k.toNat) k x=fillTo p a x (k.toNat+1):=by
 obtain⟨i,rfl⟩:∃ i:Nat,k=i:=⟨k.toNat,by omega⟩;exact Vy (by omega) hs
def EE:Fct:=⟨[.v (.el .page),.v (.el .addr),.v (.el .bd)],[.el .page],fun(x_:SPage×SAddr×SResponse×Unit)=>okAdv x_.1/\x_.2.2.1.bj.size<=200000000/\x_.2.2.1.body.size<=1000000000,fun(x_:SPage×SAddr×SResponse×Unit)=>(fillAll x_.1 x_.2.1 x_.2.2.1,())⟩
abbrev C6 (p:SPage) (a:SAddr) (x:SResponse):LInv:=⟨[⟨.b,7,true,.el .page⟩,⟨.s,8,true,.el .int⟩,⟨.b,3,false,.el .page⟩,⟨.b,4,true,.el .addr⟩,⟨.b,5,true,.el .bd⟩,⟨.b,6,true,.el .page⟩],fun(z_ x_:SPage×Int×SPage×SAddr×SResponse×SPage×Unit)=>((((0<=x_.2.1/\x_.2.1<=p.bf.length/\x_.1=fillTo p a x x_.2.1.toNat)/\x_.2.2.1=z_.2.2.1)/\x_.2.2.2.1=z_.2.2.2.1)/\x_.2.2.2.2.1=z_.2.2.2.2.1)/\x_.2.2.2.2.2.1=z_.2.2.2.2.2.1,fun(x_:SPage×Int×SPage×SAddr×SResponse×SPage×Unit)=>p.bf.length-x_.2.1.toNat⟩
def Ahy:=Al1.a EE<|Fct.p (KP [3,4,5,6,7,8] [15,34]) (fun⟨p,a,x,_⟩=>lv [(3,C6 p a x)]) Al1.2 func165 (by
 rintro⟨(p:SPage),(a:SAddr),(x:SResponse),_⟩ hp;refine ho (.cl fCopyPage (p,()) fun z2=>lpx (C6 p a x) (z2.1,((0:Int),(p,(a,(x,(default,())))))) fun(y2:SPage×Int×SPage×SAddr×SResponse×SPage×PUnit) bk2=>let q2_:=inB y2.2.1 y2.2.2.1.bf.length;let q1_:=y2.2.2.1.bf.getD y2.2.1.toNat default;let q0_:Out:=.ob (bk2 (y2.1,(w1 y2.2.1,(y2.2.2.1,(y2.2.2.2.1,(y2.2.2.2.2.1,(y2.2.2.2.2.2.1,())))))))<|.ok;.br (decide (y2.2.1<(y2.2.2.1.bf.length:Int))) (.ob q2_<|.br (!q1_.done) (.ob q2_<|.br (q1_.to.host==y2.2.2.2.1.host&&(q1_.to.path==y2.2.2.2.1.path&&true)) (.cl CV (y2.1,y2.2.1,y2.2.2.2.2.1,()) fun z3=>.ob (bk2 (z3.1,(w1 y2.2.1,(y2.2.2.1,(y2.2.2.2.1,(y2.2.2.2.2.1,(y2.2.2.2.2.2.1,())))))))<|.ok) q0_) q0_) (.lf EE (y2.1,()))) ?_;refine Af ?_ fun o1=>(Ay ?_ fun(y2:SPage×Int×SPage×SAddr×SResponse×SPage×PUnit) i2=>Ab (fun h3=>Aa ?_ fun o4=>Ab (fun h5=>Aa ?_ fun o6=>Ab (fun h7=>Af ?_ fun o8=>(Aa ?_ fun o9=>trivial)) (fun h7=>Aa ?_ fun o10=>trivial)) (fun h5=>Aa ?_ fun o11=>trivial)) (fun h3=>lfY ?_))
 all_goals obtain⟨q1,q2,q3⟩:=(show okAdv p/\x.bj.size<=200000000/\x.body.size<=1000000000 from hp)
 all_goals
  have hok:=DS q1;try simp only[Az] at *
  try simp only[C6,fCopyPage,EE,CV,std,Nat.reduceAdd,fCopyPage,CV] at *
 all_goals first|trivial|omega|exact⟨by omega,by omega,(Se p a x).symm⟩|skip
 all_goals (obtain⟨⟨⟨⟨⟨a1,a2,a3⟩,e1⟩,e2⟩,e3⟩,e4⟩:=i2;simp only[a3,e1,e2,e3,DA,Qa9,Qb2] at *)
 all_goals first|trivial|omega|(rw[G7 (by omega)])|skip
 all_goals
  have hk:=DS (My q1 a x y2.2.1.toNat);have hh:(fillTo p a x y2.2.1.toNat).addr.host.size<=4000000:=by have:=hk.2.1;simp only[szAddr] at this;omega
 all_goals first|exact⟨hk.1,by omega,hk.2.2.2.1,by omega,by omega,q2,q3⟩|skip
 all_goals rw[Ah (by omega),show(y2.2.1+1).toNat=y2.2.1.toNat+1 by omega]
 all_goals first|(rw[MD a1 (by omega) (by assumption)];exact⟨⟨⟨⟨⟨⟨by omega,by omega,rfl⟩,by trivial⟩,by trivial⟩,by trivial⟩,e4⟩,by omega⟩)|(rw[KO (by omega) (by first|exact .inl (by assumption)|exact .inr (by assumption))];exact⟨⟨⟨⟨⟨⟨by omega,by omega,rfl⟩,by trivial⟩,by trivial⟩,by trivial⟩,e4⟩,by omega⟩)|skip)
abbrev Da (p:SPage) (a:SAddr) (x:SResponse):LInv:=⟨[⟨.b,7,true,.el .page⟩,⟨.s,14,true,.el .int⟩,⟨.b,3,false,.el .page⟩,⟨.b,4,true,.el .addr⟩,⟨.b,5,true,.el .bd⟩,⟨.b,6,true,.el .page⟩],fun(z_ x_:SPage×Int×SPage×SAddr×SResponse×SPage×Unit)=>((((0<=x_.2.1/\x_.2.1<=p.bf.length/\x_.1=fillTo p a x x_.2.1.toNat)/\x_.2.2.1=z_.2.2.1)/\x_.2.2.2.1=z_.2.2.2.1)/\x_.2.2.2.2.1=z_.2.2.2.2.1)/\x_.2.2.2.2.2.1=z_.2.2.2.2.2.1,fun(x_:SPage×Int×SPage×SAddr×SResponse×SPage×Unit)=>p.bf.length-x_.2.1.toNat⟩
def Aiu:=Ahy.a EE<|Fct.p (KP [3,4,5,6,7,8,13,14] [15,24]) (fun⟨p,a,x,_⟩=>lv [(3,Da p a x)]) Ahy.2 func114 (by
 rintro⟨(p:SPage),(a:SAddr),(x:SResponse),_⟩ hp;refine ho (let q1_:=(p.bf.length:Int);let q0_:=Value.int IntKind.i64 q1_=Value.int IntKind.i64 q1_;.cl fCopyPage (p,()) fun z2=>lpx (Da p a x) (z2.1,((0:Int),(p,(a,(x,(default,())))))) fun(y2:SPage×Int×SPage×SAddr×SResponse×SPage×PUnit) bk2=>let q2_:=y2.2.2.1.bf.getD y2.2.1.toNat default;.br (decide (y2.2.1<q1_)) (.ob (inB y2.2.1 y2.2.2.1.bf.length)<|.br (q2_.to.host==y2.2.2.2.1.host&&(q2_.to.path==y2.2.2.2.1.path&&true)) (.cl CV (y2.1,y2.2.1,y2.2.2.2.2.1,()) fun z3=>.ob q0_<|.ob (bk2 (z3.1,(w1 y2.2.1,(y2.2.2.1,(y2.2.2.2.1,(y2.2.2.2.2.1,(y2.2.2.2.2.2.1,())))))))<|.ok) (.ob q0_<|.ob (bk2 (y2.1,(w1 y2.2.1,(y2.2.2.1,(y2.2.2.2.1,(y2.2.2.2.2.1,(y2.2.2.2.2.2.1,())))))))<|.ok)) (.lf EE (y2.1,()))) ?_;refine Af ?_ fun o1=>(Ay ?_ fun(y2:SPage×Int×SPage×SAddr×SResponse×SPage×PUnit) i2=>Ab (fun h3=>Aa ?_ fun o4=>Ab (fun h5=>Af ?_ fun o6=>(Aa rfl fun _=>Aa ?_ fun o7=>trivial)) (fun h5=>Aa rfl fun _=>Aa ?_ fun o8=>trivial)) (fun h3=>lfY ?_))
 all_goals obtain⟨q1,q2,q3⟩:=(show okAdv p/\x.bj.size<=200000000/\x.body.size<=1000000000 from hp)
 all_goals
  have hok:=DS q1;try simp only[Az] at *
  try simp only[Da,fCopyPage,EE,CV,std,Nat.reduceAdd,fCopyPage,CV] at *
 all_goals first|trivial|omega|exact⟨by omega,by omega,(Se p a x).symm⟩|skip
 all_goals (obtain⟨⟨⟨⟨⟨a1,a2,a3⟩,e1⟩,e2⟩,e3⟩,e4⟩:=i2;simp only[a3,e1,e2,e3,DA,Qa9,Qb2] at *)
 all_goals first|trivial|omega|(rw[G7 (by omega)])|skip
 all_goals
  have hk:=DS (My q1 a x y2.2.1.toNat);have hh:(fillTo p a x y2.2.1.toNat).addr.host.size<=4000000:=by have:=hk.2.1;simp only[szAddr] at this;omega
 all_goals first|exact⟨hk.1,by omega,hk.2.2.2.1,by omega,by omega,q2,q3⟩|skip
 all_goals rw[Ah (by omega),show(y2.2.1+1).toNat=y2.2.1.toNat+1 by omega]
 all_goals first|(rw[MD a1 (by omega) (by assumption)];exact⟨⟨⟨⟨⟨⟨by omega,by omega,rfl⟩,by trivial⟩,by trivial⟩,by trivial⟩,e4⟩,by omega⟩)|(rw[KO (by omega) (by first|exact .inl (by assumption)|exact .inr (by assumption))];exact⟨⟨⟨⟨⟨⟨by omega,by omega,rfl⟩,by trivial⟩,by trivial⟩,by trivial⟩,e4⟩,by omega⟩)|skip)
def fillM (p:SPage) (x:SResponse) (m:SModule):SModule:={ m with done:=true,code:=checkResponse p.bj ⟨5,m.to,p.addr.host,⟨#[]⟩⟩ x,body:=(usable p.bj ⟨5,m.to,p.addr.host,⟨#[]⟩⟩ x).1 }
def fillM0 (p:SPage) (a:SAddr) (x:SResponse):SPage:={ p with bh:=p.bh.modify (findMod p.bh a).toNat (fillM p x)}
def fillModule (p:SPage) (a:SAddr) (x:SResponse):SPage:=if findMod p.bh a<0\/(p.bh.getD (findMod p.bh a).toNat default).done=true then p else(imports (fillM0 p a x) a).1.foldl askModule (fillM0 p a x)
theorem OU {p:SPage} {Q M R:Nat} (h:okAll p Q M R) (a:SAddr) (x:SResponse) (h0:0<=findMod p.bh a) (hd:(p.bh.getD (findMod p.bh a).toNat default).done=false):okAll (fillM0 p a x) Q M R:=by
 have hf:=BP p.bh a;have hi:(findMod p.bh a).toNat<p.bh.length:=by omega
 obtain⟨h1,h2,h3,⟨h4,h5,h6,h7⟩,h8⟩:=h;have hu:=Km p.bj ⟨5,(p.bh.getD (findMod p.bh a).toNat default).to,p.addr.host,⟨#[]⟩⟩ x;have e:=EQ (fillM p x) hi;have t1:=Vv Aq p.bh (findMod p.bh a).toNat;have t2:=XU p.bh (findMod p.bh a).toNat;have t3:=AbE p.ran p.bh (findMod p.bh a).toNat;rw[drop_cons hi] at t1 t2 t3;rw[Ax] at t1;rw[undM,hd,Qa3 (by decide)] at t2;rw[nrL] at t3;refine⟨h1,h2,h3,⟨h4,?_,?_,fun m hm=>?_⟩,h8⟩
 ·unfold modP at *
  show szL Aq (p.bh.modify (findMod p.bh a).toNat (fillM p x))+500*undM (p.bh.modify (findMod p.bh a).toNat (fillM p x))+600*(20-p.bg.length)<=M;rw[e,Dp,Ax,JO,undM];have e1:Aq (fillM p x (p.bh.getD (findMod p.bh a).toNat default))<=Aq (p.bh.getD (findMod p.bh a).toNat default)+400:=by unfold Aq fillM;dsimp only;omega
  have e2:(fillM p x (p.bh.getD (findMod p.bh a).toNat default)).done=true:=rfl;rw[Qa2 e2];omega
 ·unfold ranP at *
  show szL szAddr p.ran+nrL p.ran (p.bh.modify (findMod p.bh a).toNat (fillM p x))+100*(20-p.bg.length)<=R;rw[e,Nx,nrL];have e3:(fillM p x (p.bh.getD (findMod p.bh a).toNat default)).to=(p.bh.getD (findMod p.bh a).toNat default).to:=rfl;rw[e3];omega
 ·have hm:m∈p.bh.modify (findMod p.bh a).toNat (fillM p x):=hm;rw[e] at hm;rcases Qc0.1 hm with q|q
  ·exact h7 m (List.mem_of_mem_take q)
  ·rcases Qd3.1 q with q|q
   ·rw[q];exact Qe6 hu (by decide)
   ·exact h7 m (List.mem_of_mem_drop q)
theorem Ab2 {p:SPage} {Q M R:Nat} (h:okAll p Q M R) {b:SAddr} (hb:b.host.size<=8/\b.path.size<=8):okAll (askModule p b) Q (M+600) (R+20):=by
 obtain⟨h1,h2,h3,⟨h4,h5,h6,h7⟩,h8⟩:=h;obtain⟨a1,a2,a3,a4,a5⟩:=AbK p b;have hs:szAddr b<=16:=by unfold szAddr;omega
 rw[a5];refine⟨h1,h2,h3,⟨h4,?_,?_,fun m hm=>?_⟩,h8⟩
 ·unfold modP at *;dsimp only;omega
 ·unfold ranP at *;dsimp only;omega
 ·rcases a4 m hm with q|q
  ·exact h7 m q
  ·omega
theorem X8 {Q:Nat}:∀ (l:List SAddr) (p:SPage) (M R:Nat),okAll p Q M R->(∀ b,b∈l->b.host.size<=8/\b.path.size<=8)->okAll (l.foldl askModule p) Q (M+600*l.length) (R+20*l.length)
 | [],p,M,R,h,_=>h
 | b::l,p,M,R,h,hb=>by
  have:=X8 l (askModule p b) (M+600) (R+20) (Ab2 h (hb b Qf1)) fun c hc=>hb c (Qd5 _ hc)
  rw[List.foldl_cons,Qa6];rw[show M+600*(l.length+1)=M+600+600*l.length by omega,show R+20*(l.length+1)=R+20+20*l.length by omega];exact this
theorem HY (p:SPage) (a:SAddr) (x:SResponse) (h0:0<=findMod p.bh a):findMod (fillM0 p a x).bh a=findMod p.bh a/\(fillM0 p a x).bh.getD (findMod p.bh a).toNat default=fillM p x (p.bh.getD (findMod p.bh a).toNat default):=by
 have hf:=BP p.bh a;have hi:(findMod p.bh a).toNat<p.bh.length:=by omega
 have gen:∀ (l:List SModule) (k:Int) (i:Nat) (f:SModule->SModule),(∀ m,(f m).to=m.to)->fidx (fun m:SModule=>decide (m.to=a)) (l.modify i f) k=fidx (fun m:SModule=>decide (m.to=a)) l k:=by
  intro l
  induction l with
  | nil=>intro k i f hf;cases i<;>rfl
  | cons m l ih=>
   intro k i f hf;cases i with
   | zero=>
    show fidx _ (f m::l) k=_;rw[fidx,fidx,hf m]
   | succ i=>
    show fidx _ (m::l.modify i f) k=_;rw[fidx,fidx,ih (k+1) i f hf]
 refine⟨gen p.bh 0 _ _ fun _=>rfl,?_⟩;show(p.bh.modify (findMod p.bh a).toNat (fillM p x)).getD (findMod p.bh a).toNat default=_;rw[EQ _ hi];have e:(p.bh.take (findMod p.bh a).toNat).length=(findMod p.bh a).toNat:=by rw[Qc5];omega
 rw[Qa7,Qa8 (by omega),e,Nat.sub_self];rfl
theorem N3 {p:SPage} {a:SAddr} {x:SResponse} (h0:0<=findMod p.bh a):(∀ b,b∈(imports (fillM0 p a x) a).1->b.host.size<=8/\b.path.size<=8)/\(imports (fillM0 p a x) a).1.length<=400:=by
 obtain⟨h1,h2⟩:=Ej (fillM0 p a x) a;refine⟨h1,?_⟩;obtain⟨f1,f2⟩:=HY p a x h0;rw[f1,f2] at h2;have hu:=Km p.bj ⟨5,(p.bh.getD (findMod p.bh a).toNat default).to,p.addr.host,⟨#[]⟩⟩ x;rcases h2 with h2|⟨_,h2⟩
 ·rw[h2];exact Nat.zero_le _
 ·exact Qe6 h2 hu
theorem H6 {p:SPage} {Q M R:Nat} (h:okAll p Q M R) (a:SAddr) (x:SResponse):okAll (fillModule p a x) Q (M+240000) (R+8000):=by
 have mono:∀ {q:SPage} {M' R':Nat},okAll q Q M' R'->M'<=M+240000->R'<=R+8000->okAll q Q (M+240000) (R+8000):=fun h hM hR=>by obtain⟨h1,h2,h3,⟨h4,h5,h6,h7⟩,h8⟩:=h;exact⟨h1,h2,h3,⟨h4,by omega,by omega,h7⟩,h8⟩
 unfold fillModule;split
 ·exact mono h (by omega) (by omega)
 ·rename_i hc;have h0:0<=findMod p.bh a:=by omega
  have hd:(p.bh.getD (findMod p.bh a).toNat default).done=false:=by
   cases hq:(p.bh.getD (findMod p.bh a).toNat default).done with
   | false=>rfl
   | true=>exact absurd (.inr hq) hc
  obtain⟨i1,i2⟩:=N3 (x:=x) h0;exact mono (X8 _ _ M R (OU h a x h0 hd) i1) (by omega) (by omega)
def fmInv (p:SPage) (a:SAddr) (x:SResponse) (q:SPage) (i:Int):Prop:=0<=i/\i<=(imports (fillM0 p a x) a).1.length/\((imports (fillM0 p a x) a).1.drop i.toNat).foldl askModule q=(imports (fillM0 p a x) a).1.foldl askModule (fillM0 p a x)/\∃ Q M R,okAll q Q (M+600*i.toNat) (R+20*i.toNat)/\Q<=899000000000/\M<=49000000000/\R<=19000000000
def okFM (p:SPage):Prop:=∃ Q M R,okAll p Q M R/\Q<=899000000000/\M<=49000000000/\R<=19000000000
theorem Gi {p:SPage} (h:okFM p):okAdv p:=by
 obtain⟨Q,M,R,h1,h2,h3,h4⟩:=h;exact⟨Q,M,R,h1,h2,by omega,by omega⟩
theorem H3 {p q:SPage} {a:SAddr} {x:SResponse} {i:Int} (h:fmInv p a x q i) (hi:(imports (fillM0 p a x) a).1.length<=400):okAdv q:=by
 obtain⟨h1,h2,_,Q,M,R,h3,h4,h5,h6⟩:=h;exact⟨Q,_,_,h3,h4,by omega,by omega⟩
theorem Lx {p:SPage} {a:SAddr} {x:SResponse} (h:okFM p) (h0:0<=findMod p.bh a) (hd:(p.bh.getD (findMod p.bh a).toNat default).done=false):fmInv p a x (fillM0 p a x) 0:=by
 obtain⟨Q,M,R,h1,h2⟩:=h;exact⟨by omega,by omega,rfl,Q,M,R,OU h1 a x h0 hd,h2⟩
theorem RU {p q:SPage} {a:SAddr} {x:SResponse} {i:Int} (h:fmInv p a x q i) (h0:0<=findMod p.bh a) (hi:i<(imports (fillM0 p a x) a).1.length):fmInv p a x (askModule q ((imports (fillM0 p a x) a).1.getD i.toNat default)) (i+1):=by
 obtain⟨h1,h2,h3,Q,M,R,h4,h5⟩:=h;have hb:=(N3 (x:=x) h0).1 _ (Bl (show i.toNat<(imports (fillM0 p a x) a).1.length by omega));rw[drop_cons (show i.toNat<(imports (fillM0 p a x) a).1.length by omega),List.foldl_cons] at h3;refine⟨by omega,by omega,by rw[show(i+1).toNat=i.toNat+1 by omega];exact h3,Q,M,R,?_,h5⟩;have:=Ab2 h4 hb;rw[show(i+1).toNat=i.toNat+1 by omega,show M+600*(i.toNat+1)=M+600*i.toNat+600 by omega,show R+20*(i.toNat+1)=R+20*i.toNat+20 by omega];exact this
theorem Ow {p q:SPage} {a:SAddr} {x:SResponse} {i:Int} (h:fmInv p a x q i) (h0:0<=findMod p.bh a) (hd:(p.bh.getD (findMod p.bh a).toNat default).done=false) (hi:(imports (fillM0 p a x) a).1.length<=i):q=fillModule p a x:=by
 have e:=h.2.2.1;rw[Qb9 (by omega)] at e;unfold fillModule;rw[Qa3 (by rintro(q|q);exact absurd q (by omega);rw[hd] at q;cases q)];exact e
theorem Li {p:SPage} {k:Int} (h0:0<=k) (h:k<p.bh.length):modRequest p k=⟨5,(p.bh.getD k.toNat default).to,p.addr.host,⟨#[]⟩⟩:=by unfold modRequest;rw[Qa2 ⟨h0,h⟩]
theorem Agd {p:SPage} {a:SAddr} {x:SResponse} (h0:0<=findMod p.bh a):(((p.bh.modify (findMod p.bh a).toNat fun z=>(⟨z.to,true,z.code,z.body⟩:SModule)).modify (findMod p.bh a).toNat fun z=>(⟨z.to,z.done,checkResponse p.bj (modRequest p (findMod p.bh a)) x,z.body⟩:SModule)).modify (findMod p.bh a).toNat fun z=>(⟨z.to,z.done,z.code,(usable p.bj (modRequest p (findMod p.bh a)) x).1⟩:SModule))=(fillM0 p a x).bh:=by
 have hf:=BP p.bh a;have hi:(findMod p.bh a).toNat<p.bh.length:=by omega
 rw[FP,FP];show _=p.bh.modify (findMod p.bh a).toNat (fillM p x);rw[EQ _ hi,EQ _ hi,Li h0 hf.1];rfl
theorem fmp (p:SPage) (a:SAddr) (x:SResponse):(⟨p.addr,p.bj,p.tok,p.bn,p.ended,p.ba,p.bf,(fillM0 p a x).bh,p.bg,p.block,p.inline,p.bm,p.bq,p.ran,p.log,p.loaded⟩:SPage)=fillM0 p a x:=rfl
theorem Ad1 (p:SPage) (a:SAddr) (x:SResponse):(fillM0 p a x).bh.length=p.bh.length:=List.length_modify ..
theorem O0 {p:SPage} (h:okAdv p) {k:Int} (h0:0<=k) (hk:k<p.bh.length):szRequest (modRequest p k)<=60000000000:=by
 obtain⟨Q,M,R,h1,h2,h3,h4⟩:=h;have hm:szL Aq p.bh<=50000000000:=by have:=h1.2.2.2.1.2.1;unfold modP at this;omega
 have:=Dx Aq (l:=p.bh) (i:=k.toNat) (by omega);have ha:=h1.2.2.2.2.2.1;have hz:ByteArray.size ⟨#[]⟩=0:=rfl;rw[Li h0 hk];simp only[Aq,szRequest,szAddr,hz] at *;omega
theorem AgY {p:SPage} {a:SAddr} {x:SResponse} (h0:0<=findMod p.bh a) (hc:((fillM0 p a x).bh.getD (findMod p.bh a).toNat default).code=1):(parseModule ((fillM0 p a x).bh.getD (findMod p.bh a).toNat default).body a.host).1=(imports (fillM0 p a x) a).1:=by
 have hF:=HY p a x h0;have:=Js (p:=fillM0 p a x) (a:=a) (by rw[hF.1];exact h0) (by rw[hF.1,hF.2];rfl) (by rw[hF.1];exact hc);rw[hF.1] at this;exact this
theorem Amd {p:SPage} {a:SAddr} {x:SResponse} (h0:0<=findMod p.bh a) (hd:(p.bh.getD (findMod p.bh a).toNat default).done=false) (hc:¬ ((fillM0 p a x).bh.getD (findMod p.bh a).toNat default).code=1):fillM0 p a x=fillModule p a x:=by
 have hF:=HY p a x h0;unfold fillModule;rw[Qa3 (by rintro(q|q);exact absurd q (by omega);rw[hd] at q;cases q),IE (.inr (.inr (by rw[hF.1];exact hc)))];rfl
def Cs:Fct:=⟨[.v (.el .page),.v (.el .addr),.v (.el .bd)],[.el .page],fun(x_:SPage×SAddr×SResponse×Unit)=>okFM x_.1/\szAddr x_.2.1<=4000000000/\x_.2.2.1.bj.size<=200000000/\x_.2.2.1.body.size<=1000000000,fun(x_:SPage×SAddr×SResponse×Unit)=>(fillModule x_.1 x_.2.1 x_.2.2.1,())⟩
abbrev Ba (p:SPage) (a:SAddr) (x:SResponse):LInv:=⟨[⟨.b,7,true,.el .page⟩,⟨.s,12,true,.el .int⟩,⟨.b,6,true,.el .page⟩,⟨.s,10,true,.sl .addr⟩],fun(z_ x_:SPage×Int×SPage×(List SAddr)×Unit)=>((fmInv p a x x_.1 x_.2.1)/\x_.2.2.1=z_.2.2.1)/\x_.2.2.2.1=z_.2.2.2.1,fun(x_:SPage×Int×SPage×(List SAddr)×Unit)=>(imports (fillM0 p a x) a).1.length-x_.2.1.toNat⟩
def Ahp:=Aiu.a Cs<|Fct.p (KP [3,4,5,6,7,8,9,10,12] [27,69]) (fun⟨p,a,x,_⟩=>lv [(11,Ba p a x)]) Aiu.2 func164 (by
 rintro⟨(p:SPage),(a:SAddr),(x:SResponse),_⟩ hp;refine ho (let q2_:=List SModule;.cl fCopyPage (p,()) fun z2=>let q1_:Out:=.lf Cs (z2.1,());.cl Cd (p,a,()) fun(z3:Int×PUnit)=>.br (decide (z3.1<0)) q1_ (.ob (inB z3.1 p.bh.length)<|.br ((p.bh.getD z3.1.toNat default).done) q1_ (.cl AE (p,z3.1,()) fun z4=>.ob (inB z3.1 z2.1.bh.length)<|.ob (z3.1.toNat<z2.1.bh.length)<|.lt q2_ (z2.1.bh.modify z3.1.toNat fun z=>({z with done:=true}:SModule)) fun z5=>.cl fCheckResponse (p.bj,z4.1,x,()) fun(z6:Int×PUnit)=>.ob (inB z3.1 z5.length)<|.ob (z3.1.toNat<z5.length)<|.lt q2_ (z5.modify z3.1.toNat fun z=>({z with code:=z6.1}:SModule)) fun z7=>.cl A1 (p.bj,z4.1,x,()) fun z8=>.ob (inB z3.1 z7.length)<|.ob (z3.1.toNat<z7.length)<|.lt q2_ (z7.modify z3.1.toNat fun z=>({z with body:=z8.1}:SModule)) fun z9=>let q0_:=({z2.1 with bh:=z9}:SPage);.cl Dq (q0_,a,()) fun z10=>lpx (Ba p a x) (q0_,((0:Int),(default,(z10.1,())))) fun(y16:SPage×Int×SPage×List SAddr×PUnit) bk16=>.br (decide (y16.2.1<(y16.2.2.2.1.length:Int))) (.ob (inB y16.2.1 y16.2.2.2.1.length)<|.ob (y16.2.1.toNat<y16.2.2.2.1.length)<|.cl AM (y16.1,y16.2.2.2.1.getD y16.2.1.toNat default,()) fun z11=>.ob (Value.int IntKind.i64 z3.1=Value.int IntKind.i64 z3.1)<|.ob (bk16 (z11.1,(w1 y16.2.1,(y16.2.2.1,(y16.2.2.2.1,())))))<|.ok) (.lf Cs (y16.1,()))))) ?_;repeat' first|(guard_target =~ Out.holds _ _;first|refine Ay (li:=Ba p a x) ?_ fun(y16:SPage×Int×SPage×List SAddr×PUnit) i16=>?_|refine lfY ?_|refine Ab (fun _=>?_) fun _=>?_|refine Af ?_ fun _=>?_|refine Aa ?_ fun _=>?_|refine Du ?_)|exact trivial
 all_goals obtain⟨q1,q0,q2,q3⟩:=(show okFM p/\szAddr a<=4000000000/\x.bj.size<=200000000/\x.body.size<=1000000000 from hp)
 all_goals
  have hok:=DS (Gi q1);have hf:=BP p.bh a;try simp only[Az] at *
  try simp only[Ba,AM,fCheckResponse,fCopyPage,Cs,Dq,Cd,AE,A1,std,Nat.reduceAdd,fCopyPage,Cd,AE,fCheckResponse,A1,Dq,AM,Hv] at *
 all_goals first|trivial|omega|skip
 all_goals first|(unfold fillModule;rw[Qa2 (by first|exact .inl (by assumption)|exact .inr (by assumption))];done)|skip
 all_goals
  have h0:0<=findMod p.bh a:=by omega
  have hd:(p.bh.getD (findMod p.bh a).toNat default).done=false:=by assumption
  have hq:=O0 (Gi q1) h0 hf.1;have hI:=N3 (x:=x) h0;have hA:=H3 (Lx (x:=x) q1 h0 hd) hI.2;have hB:=DS hA;try simp only[Agd h0,fmp,Ad1,List.length_modify] at *
 all_goals first|trivial|omega|exact⟨by omega,by omega,q2,q3⟩|exact⟨by omega,hB.2.2.2.2.2,by simp only[szAddr] at q0;omega⟩|exact Lx q1 h0 hd|skip
 all_goals (obtain⟨⟨i1,e1⟩,e2⟩:=i16;simp only[e2] at *;have hi0:=i1.1;have hi1:=i1.2.1)
 all_goals first|trivial|omega|(rw[Ow i1 h0 hd (by omega)];done)|skip
 all_goals
  have hj:=DS (H3 i1 hI.2);have hb:=hI.1 _ (Bl (show y16.2.1.toNat<(imports (fillM0 p a x) a).1.length by omega))
 all_goals first|exact⟨by omega,by have h7:=hj.2.1;simp only[szAddr] at h7;omega,by simp only[szAddr];omega⟩|(rw[Ah (by omega)];exact⟨⟨⟨RU i1 h0 (by omega),e1⟩,trivial⟩,by omega⟩)|skip)
abbrev BR (p:SPage) (a:SAddr) (x:SResponse):LInv:=⟨[⟨.b,7,true,.el .page⟩,⟨.s,84,true,.el .int⟩,⟨.b,6,true,.el .page⟩,⟨.s,82,true,.sl .addr⟩],fun(z_ x_:SPage×Int×SPage×(List SAddr)×Unit)=>((fmInv p a x x_.1 x_.2.1)/\x_.2.2.1=z_.2.2.1)/\x_.2.2.2.1=z_.2.2.2.1,fun(x_:SPage×Int×SPage×(List SAddr)×Unit)=>(imports (fillM0 p a x) a).1.length-x_.2.1.toNat⟩
def Aj0:=Ahp.a Cs<|Fct.p (KP [3,4,5,6,7,8,9,10,14,82,83,84] [29,68,85]) (fun⟨p,a,x,_⟩=>lv [(12,BR p a x)]) Ahp.2 func113 (by
 rintro⟨(p:SPage),(a:SAddr),(x:SResponse),_⟩ hp;refine ho (let q3_:=List SModule;.cl fCopyPage (p,()) fun z2=>let q1_:Out:=.lf Cs (z2.1,());.cl Cd (p,a,()) fun(z3:Int×PUnit)=>.br (decide (z3.1<0)) q1_ (.ob (inB z3.1 p.bh.length)<|.br ((p.bh.getD z3.1.toNat default).done) q1_ (.cl AE (p,z3.1,()) fun z4=>.ob (inB z3.1 z2.1.bh.length)<|.ob (z3.1.toNat<z2.1.bh.length)<|.lt q3_ (z2.1.bh.modify z3.1.toNat fun z=>({z with done:=true}:SModule)) fun z5=>.cl fCheckResponse (p.bj,z4.1,x,()) fun(z6:Int×PUnit)=>.ob (inB z3.1 z5.length)<|.ob (z3.1.toNat<z5.length)<|.lt q3_ (z5.modify z3.1.toNat fun z=>({z with code:=z6.1}:SModule)) fun z7=>.cl A1 (p.bj,z4.1,x,()) fun z8=>.ob (inB z3.1 z7.length)<|.ob (z3.1.toNat<z7.length)<|.lt q3_ (z7.modify z3.1.toNat fun z=>({z with body:=z8.1}:SModule)) fun z9=>let q4_:=z3.1.toNat<z9.length;let q2_:=z9.getD z3.1.toNat default;.ob (inB z3.1 z9.length)<|.ob q4_<|.br (q2_.code==1) (.ob (inB z3.1 z9.length)<|.ob q4_<|.cl Aw (q2_.body,a.host,()) fun z10=>let q0_:=(z10.1.length:Int);lpx (BR p a x) (({z2.1 with bh:=z9}:SPage),((0:Int),(default,(z10.1,())))) fun(y21:SPage×Int×SPage×List SAddr×PUnit) bk21=>.br (decide (y21.2.1<q0_)) (.ob (inB y21.2.1 y21.2.2.2.1.length)<|.ob (y21.2.1.toNat<y21.2.2.2.1.length)<|.cl AM (y21.1,y21.2.2.2.1.getD y21.2.1.toNat default,()) fun z11=>.ob (Value.int IntKind.i64 z3.1=Value.int IntKind.i64 z3.1)<|.ob (Value.int IntKind.i64 q0_=Value.int IntKind.i64 q0_)<|.ob (bk21 (z11.1,(w1 y21.2.1,(y21.2.2.1,(y21.2.2.2.1,())))))<|.ok) (.lf Cs (y21.1,()))) (.lf Cs ({z2.1 with bh:=z9},()))))) ?_;refine Af ?_ fun o1=>(Af ?_ fun o2=>(Ab (fun h3=>lfY ?_) (fun h3=>Aa ?_ fun o4=>Ab (fun h5=>lfY ?_) (fun h5=>Af ?_ fun o6=>(Aa ?_ fun o7=>Aa ?_ fun o8=>Du (Af ?_ fun o9=>(Aa ?_ fun o10=>Aa ?_ fun o11=>Du (Af ?_ fun o12=>(Aa ?_ fun o13=>Aa ?_ fun o14=>Du (Aa ?_ fun o15=>Aa ?_ fun o16=>Ab (fun h17=>Aa ?_ fun o18=>Aa ?_ fun o19=>Af ?_ fun o20=>(Ay ?_ fun(y21:SPage×Int×SPage×List SAddr×PUnit) i21=>Ab (fun h22=>Aa ?_ fun o23=>Aa ?_ fun o24=>Af ?_ fun o25=>(Aa rfl fun _=>Aa rfl fun _=>Aa ?_ fun o26=>trivial)) (fun h22=>lfY ?_))) (fun h17=>lfY ?_)))))))))))
 all_goals obtain⟨q1,q0,q2,q3⟩:=(show okFM p/\szAddr a<=4000000000/\x.bj.size<=200000000/\x.body.size<=1000000000 from hp)
 all_goals
  have hok:=DS (Gi q1);have hf:=BP p.bh a;try simp only[Az] at *
  try simp only[BR,AM,fCheckResponse,fCopyPage,Cs,Cd,AE,Aw,A1,std,Nat.reduceAdd,fCopyPage,Cd,AE,fCheckResponse,A1,Aw,AM,Hv] at *
 all_goals first|trivial|omega|skip
 all_goals first|(unfold fillModule;rw[Qa2 (by first|exact .inl (by assumption)|exact .inr (by assumption))];done)|skip
 all_goals
  have h0:0<=findMod p.bh a:=by omega
  have hd:(p.bh.getD (findMod p.bh a).toNat default).done=false:=by assumption
  have hq:=O0 (Gi q1) h0 hf.1;have hI:=N3 (x:=x) h0;have hA:=H3 (Lx (x:=x) q1 h0 hd) hI.2;have hB:=DS hA;try simp only[Agd h0,fmp,Ad1,List.length_modify] at *
 all_goals first|trivial|omega|exact⟨by omega,by omega,q2,q3⟩|exact⟨by omega,hB.2.2.2.2.2,by simp only[szAddr] at q0;omega⟩|exact Lx q1 h0 hd|skip
 all_goals first|(exact Amd h0 hd (by assumption))|(have hc:((fillM0 p a x).bh.getD (findMod p.bh a).toNat default).code=1:=by assumption)
 all_goals have hy:=AgY h0 hc
 all_goals first|exact⟨hB.2.2.2.2.2 _ (by rw[Ad1];omega),by simp only[szAddr] at q0;omega⟩|exact Lx q1 h0 hd|skip
 all_goals (obtain⟨⟨i1,e1⟩,e2⟩:=i21;simp only[e2,hy] at *;have hi0:=i1.1;have hi1:=i1.2.1)
 all_goals first|trivial|omega|(rw[Ow i1 h0 hd (by omega)];done)|skip
 all_goals
  have hj:=DS (H3 i1 hI.2);have hb:=hI.1 _ (Bl (show y21.2.1.toNat<(imports (fillM0 p a x) a).1.length by omega))
 all_goals first|exact⟨by omega,by have h7:=hj.2.1;simp only[szAddr] at h7;omega,by simp only[szAddr];omega⟩|(rw[Ah (by omega)];exact⟨⟨⟨RU i1 h0 (by omega),e1⟩,trivial⟩,by omega⟩)|skip)
def takeAnswer (p:SPage) (a:SAddr) (x:SResponse):SPage:=advance (fillModule (fillAll p a x) a x)
theorem PA {p:SPage} (h:okFM p) (a:SAddr) (x:SResponse):okFM (fillAll p a x):=by
 obtain⟨Q,M,R,h1,h2⟩:=h;have:=Ln h1 a x p.bf.length;rw[G7 (Qb0 _)] at this;exact⟨Q,M,R,this,h2⟩
theorem Aae {p:SPage} (h:okFM p) (a:SAddr) (x:SResponse):okAdv (fillModule p a x):=by
 obtain⟨Q,M,R,h1,h2,h3,h4⟩:=h;exact⟨Q,_,_,H6 h1 a x,h2,by omega,by omega⟩
theorem Yi {p:SPage} {Q M R:Nat} (h:okAll p Q M R) (a:SAddr) (x:SResponse):okAll (takeAnswer p a x) (Q+740000) (M+240000) (R+8000):=by
 have:=Ln h a x p.bf.length;rw[G7 (Qb0 _)] at this;exact T2 (H6 this a x)
def Cr:Fct:=⟨[.v (.el .page),.v (.el .addr),.v (.el .bd)],[.el .page],fun(x_:SPage×SAddr×SResponse×Unit)=>okFM x_.1/\szAddr x_.2.1<=4000000000/\x_.2.2.1.bj.size<=200000000/\x_.2.2.1.body.size<=1000000000,fun(x_:SPage×SAddr×SResponse×Unit)=>(takeAnswer x_.1 x_.2.1 x_.2.2.1,())⟩
theorem q21 (p:SPage) (a:SAddr) (x:SResponse) (hp:Cr.pre (p,a,x,())):Out.holds (Cr.ctr (p,a,x,())).post (.cl EE (p,a,x,()) fun z2=>.cl Cs (z2.1,a,x,()) fun z3=>.cl DL (z3.1,()) fun z4=>.lf Cr (z4.1,())):=by
 refine Af ?_ fun o1=>(Af ?_ fun o2=>(Af ?_ fun o3=>(lfY ?_)))
 all_goals obtain⟨q1,q0,q2,q3⟩:=(show okFM p/\szAddr a<=4000000000/\x.bj.size<=200000000/\x.body.size<=1000000000 from hp)
 all_goals
  try simp only[Az] at *
  try simp only[DL,EE,Cs,Cr,std,Nat.reduceAdd,EE,Cs,DL] at *
 all_goals first|exact⟨Gi q1,q2,q3⟩|exact⟨PA q1 a x,q0,q2,q3⟩|exact Aae (PA q1 a x) a x|rfl|trivial
def Ahh:=Aj0.a Cr<|Fct.o [3,4,5,6] Aj0.2 func61 (by
 rintro⟨(p:SPage),(a:SAddr),(x:SResponse),_⟩ hp;exact ho _ (q21 p a x hp))
def Aii:=Ahh.a Cr<|Fct.o [3,4,5,6] Ahh.2 func37 (by
 rintro⟨(p:SPage),(a:SAddr),(x:SResponse),_⟩ hp;exact ho _ (q21 p a x hp))
def nextNeeds (p:SPage):List SRequest:=(openSlots p).map (slotRequest p)++(openMods p).map (modRequest p)
theorem Si {p:SPage} {i:Nat} (h:i<(openSlots p).length):0<=(openSlots p).getD i default/\(openSlots p).getD i default<p.bf.length:=by
 have:=EL (fun s:SSlot=>!s.done) p.bf 0 _ (Bl h);unfold openSlots at *;omega
theorem SJ {p:SPage} {i:Nat} (h:i<(openMods p).length):0<=(openMods p).getD i default/\(openMods p).getD i default<p.bh.length:=by
 have:=EL (fun s:SModule=>!s.done) p.bh 0 _ (Bl h);unfold openMods at *;omega
theorem MC {α β:Type} [Inhabited α] (f:α->β) {l:List α} {i:Nat} (h:i<l.length):(l.drop i).map f=f (l.getD i default)::(l.drop (i+1)).map f:=by rw[drop_cons h];rfl
theorem I4 {α β:Type} (f:α->β) {l:List α} {i:Nat} (h:l.length<=i):(l.drop i).map f=[]:=by rw[Qb9 h];rfl
def CT:Fct:=⟨[.v (.el .page)],[.sl .request],fun(x_:SPage×Unit)=>x_.1.bf.length+x_.1.bh.length<=1000000000000,fun(x_:SPage×Unit)=>(nextNeeds x_.1,())⟩
abbrev Cq (p:SPage):LInv:=⟨[⟨.s,3,true,.sl .request⟩,⟨.s,5,true,.el .int⟩,⟨.b,1,false,.el .page⟩,⟨.s,4,true,.sl .int⟩],fun(z_ x_:(List SRequest)×Int×SPage×(List Int)×Unit)=>((0<=x_.2.1/\x_.2.1<=(openSlots p).length/\x_.1.length<=x_.2.1/\x_.1++((openSlots p).drop x_.2.1.toNat).map (slotRequest p)=(openSlots p).map (slotRequest p))/\x_.2.2.1=z_.2.2.1)/\x_.2.2.2.1=z_.2.2.2.1,fun(x_:(List SRequest)×Int×SPage×(List Int)×Unit)=>(openSlots p).length-x_.2.1.toNat⟩
abbrev Cu (p:SPage):LInv:=⟨[⟨.s,3,true,.sl .request⟩,⟨.s,7,true,.el .int⟩,⟨.b,1,false,.el .page⟩,⟨.s,6,true,.sl .int⟩],fun(z_ x_:(List SRequest)×Int×SPage×(List Int)×Unit)=>((0<=x_.2.1/\x_.2.1<=(openMods p).length/\x_.1.length<=(openSlots p).length+x_.2.1/\x_.1++((openMods p).drop x_.2.1.toNat).map (modRequest p)=nextNeeds p)/\x_.2.2.1=z_.2.2.1)/\x_.2.2.2.1=z_.2.2.2.1,fun(x_:(List SRequest)×Int×SPage×(List Int)×Unit)=>(openMods p).length-x_.2.1.toNat⟩
def Akn:=Aii.a CT<|Fct.p (KP [1,2,3,4,5,6,7] [14,31]) (fun⟨p,_⟩=>fun|4=>some (Cq p)|9=>some (Cu p)|_=>none) Aii.2 func56 (by
 rintro⟨(p:SPage),_⟩ hp;refine ho (.cl Bk (p,()) fun(z2:List Int×PUnit)=>lpx (Cq p) ([],((0:Int),(p,(z2.1,())))) fun(y2:List SRequest×Int×SPage×List Int×PUnit) bk2=>.br (decide (y2.2.1<(y2.2.2.2.1.length:Int))) (.ob (inB y2.2.1 y2.2.2.2.1.length)<|.ob (y2.2.1.toNat<y2.2.2.2.1.length)<|.cl Au (y2.2.2.1,y2.2.2.2.1.getD y2.2.1.toNat default,()) fun z3=>.ob (True)<|.ob (BM (y2.1.length+[z3.1].length) 72)<|.ob (bk2 (y2.1++[z3.1],(w1 y2.2.1,(y2.2.2.1,(y2.2.2.2.1,())))))<|.ok) (.cl BT (y2.2.2.1,()) fun(z4:List Int×PUnit)=>lpx (Cu p) (y2.1,((0:Int),(y2.2.2.1,(z4.1,())))) fun(y10:List SRequest×Int×SPage×List Int×PUnit) bk10=>.br (decide (y10.2.1<(y10.2.2.2.1.length:Int))) (.ob (inB y10.2.1 y10.2.2.2.1.length)<|.ob (y10.2.1.toNat<y10.2.2.2.1.length)<|.cl AE (y10.2.2.1,y10.2.2.2.1.getD y10.2.1.toNat default,()) fun z5=>.ob (True)<|.ob (BM (y10.1.length+[z5.1].length) 72)<|.ob (Value.int IntKind.i64 y2.2.1=Value.int IntKind.i64 y2.2.1)<|.ob (bk10 (y10.1++[z5.1],(w1 y10.2.1,(y10.2.2.1,(y10.2.2.2.1,())))))<|.ok) (.lf CT (y10.1,())))) ?_;refine Af ?_ fun o1=>(Ay ?_ fun(y2:List SRequest×Int×SPage×List Int×PUnit) i2=>Ab (fun h3=>Aa ?_ fun o4=>Aa ?_ fun o5=>Af ?_ fun o6=>(Aa trivial fun _=>Aa ?_ fun o7=>Aa ?_ fun o8=>trivial)) (fun h3=>Af ?_ fun o9=>(Ay ?_ fun(y10:List SRequest×Int×SPage×List Int×PUnit) i10=>Ab (fun h11=>Aa ?_ fun o12=>Aa ?_ fun o13=>Af ?_ fun o14=>(Aa trivial fun _=>Aa ?_ fun o15=>Aa rfl fun _=>Aa ?_ fun o16=>trivial)) (fun h11=>lfY ?_))))
 all_goals
  have hl1:(openSlots p).length<=p.bf.length:=Dr _ _ _;have hl2:(openMods p).length<=p.bh.length:=Dr _ _ _;try simp only[Az] at *
  try simp only[Cq,Cu,AE,CT,BT,Bk,Au,std,Nat.reduceAdd,Bk,BT,Au,AE] at *
 all_goals first|trivial|omega|exact⟨by omega,by omega,by simp,rfl⟩|skip
 all_goals (obtain⟨⟨⟨a1,a2,a3,a4⟩,e1⟩,e2⟩:=i2;simp only[e1,e2] at *)
 all_goals first|trivial|omega|skip
 all_goals try (obtain⟨⟨⟨b1,b2,b3,b4⟩,f1⟩,f2⟩:=i10;simp only[f1,f2] at *)
 all_goals first|trivial|omega|skip
 all_goals first|(have ho:=SJ (p:=p) (i:=y10.2.1.toNat) (by omega))|(have ho:=Si (p:=p) (i:=y2.2.1.toNat) (by omega))|skip
 all_goals first|exact⟨by omega,by omega,by omega⟩|skip
 all_goals first|(rw[I4 (modRequest p) (l:=openMods p) (i:=y10.2.1.toNat) (by omega)] at b4;rw[Qd7] at b4;exact b4)|(rw[MC (modRequest p) (l:=openMods p) (i:=y10.2.1.toNat) (by omega)] at b4;rw[Ah (by omega),show(y10.2.1+1).toNat=y10.2.1.toNat+1 by omega];exact⟨⟨⟨⟨by omega,by omega,by simp only[Qa4,Qa6,Qb5];omega,by rw[Qb4];exact b4⟩,by trivial⟩,by trivial⟩,by omega⟩)|(rw[MC (slotRequest p) (l:=openSlots p) (i:=y2.2.1.toNat) (by omega)] at a4;rw[Ah (by omega),show(y2.2.1+1).toNat=y2.2.1.toNat+1 by omega];exact⟨⟨⟨⟨by omega,by omega,by simp only[Qa4,Qa6,Qb5];omega,by rw[Qb4];exact a4⟩,by trivial⟩,by trivial⟩,by omega⟩)|(rw[I4 (slotRequest p) (l:=openSlots p) (i:=y2.2.1.toNat) (by omega)] at a4;rw[Qd7] at a4;exact⟨by omega,by omega,by omega,by rw[a4];rfl⟩)|skip)
abbrev Ch (p:SPage):LInv:=⟨[⟨.s,3,true,.sl .request⟩,⟨.s,12,true,.el .int⟩,⟨.b,1,false,.el .page⟩,⟨.s,10,true,.sl .int⟩],fun(z_ x_:(List SRequest)×Int×SPage×(List Int)×Unit)=>((0<=x_.2.1/\x_.2.1<=(openSlots p).length/\x_.1.length<=x_.2.1/\x_.1++((openSlots p).drop x_.2.1.toNat).map (slotRequest p)=(openSlots p).map (slotRequest p))/\x_.2.2.1=z_.2.2.1)/\x_.2.2.2.1=z_.2.2.2.1,fun(x_:(List SRequest)×Int×SPage×(List Int)×Unit)=>(openSlots p).length-x_.2.1.toNat⟩
abbrev Cp (p:SPage):LInv:=⟨[⟨.s,3,true,.sl .request⟩,⟨.s,26,true,.el .int⟩,⟨.b,1,false,.el .page⟩,⟨.s,24,true,.sl .int⟩],fun(z_ x_:(List SRequest)×Int×SPage×(List Int)×Unit)=>((0<=x_.2.1/\x_.2.1<=(openMods p).length/\x_.1.length<=(openSlots p).length+x_.2.1/\x_.1++((openMods p).drop x_.2.1.toNat).map (modRequest p)=nextNeeds p)/\x_.2.2.1=z_.2.2.1)/\x_.2.2.2.1=z_.2.2.2.1,fun(x_:(List SRequest)×Int×SPage×(List Int)×Unit)=>(openMods p).length-x_.2.1.toNat⟩
def Ait:=Akn.a CT<|Fct.p (KP [1,2,3,5,7,10,11,12,24,25,26] [13,27]) (fun⟨p,_⟩=>fun|3=>some (Ch p)|8=>some (Cp p)|_=>none) Akn.2 func35 (by
 rintro⟨(p:SPage),_⟩ hp;refine ho (.cl Bk (p,()) fun(z2:List Int×PUnit)=>let q1_:=(z2.1.length:Int);let q0_:=Value.int IntKind.i64 q1_=Value.int IntKind.i64 q1_;lpx (Ch p) ([],((0:Int),(p,(z2.1,())))) fun(y2:List SRequest×Int×SPage×List Int×PUnit) bk2=>.br (decide (y2.2.1<q1_)) (.ob (inB y2.2.1 y2.2.2.2.1.length)<|.ob (y2.2.1.toNat<y2.2.2.2.1.length)<|.cl Au (y2.2.2.1,y2.2.2.2.1.getD y2.2.1.toNat default,()) fun z3=>.ob (True)<|.ob (BM (y2.1.length+[z3.1].length) 72)<|.ob q0_<|.ob (bk2 (y2.1++[z3.1],(w1 y2.2.1,(y2.2.2.1,(y2.2.2.2.1,())))))<|.ok) (.cl BT (y2.2.2.1,()) fun(z4:List Int×PUnit)=>let q2_:=(z4.1.length:Int);lpx (Cp p) (y2.1,((0:Int),(y2.2.2.1,(z4.1,())))) fun(y10:List SRequest×Int×SPage×List Int×PUnit) bk10=>.br (decide (y10.2.1<q2_)) (.ob (inB y10.2.1 y10.2.2.2.1.length)<|.ob (y10.2.1.toNat<y10.2.2.2.1.length)<|.cl AE (y10.2.2.1,y10.2.2.2.1.getD y10.2.1.toNat default,()) fun z5=>.ob (True)<|.ob (BM (y10.1.length+[z5.1].length) 72)<|.ob (Value.int IntKind.i64 y2.2.1=Value.int IntKind.i64 y2.2.1)<|.ob q0_<|.ob (Value.int IntKind.i64 q2_=Value.int IntKind.i64 q2_)<|.ob (bk10 (y10.1++[z5.1],(w1 y10.2.1,(y10.2.2.1,(y10.2.2.2.1,())))))<|.ok) (.lf CT (y10.1,())))) ?_;refine Af ?_ fun o1=>(Ay ?_ fun(y2:List SRequest×Int×SPage×List Int×PUnit) i2=>Ab (fun h3=>Aa ?_ fun o4=>Aa ?_ fun o5=>Af ?_ fun o6=>(Aa trivial fun _=>Aa ?_ fun o7=>Aa rfl fun _=>Aa ?_ fun o8=>trivial)) (fun h3=>Af ?_ fun o9=>(Ay ?_ fun(y10:List SRequest×Int×SPage×List Int×PUnit) i10=>Ab (fun h11=>Aa ?_ fun o12=>Aa ?_ fun o13=>Af ?_ fun o14=>(Aa trivial fun _=>Aa ?_ fun o15=>Aa rfl fun _=>Aa rfl fun _=>Aa rfl fun _=>Aa ?_ fun o16=>trivial)) (fun h11=>lfY ?_))))
 all_goals
  have hl1:(openSlots p).length<=p.bf.length:=Dr _ _ _;have hl2:(openMods p).length<=p.bh.length:=Dr _ _ _;try simp only[Az] at *
  try simp only[Ch,Cp,AE,CT,BT,Bk,Au,std,Nat.reduceAdd,Bk,BT,Au,AE] at *
 all_goals first|trivial|omega|exact⟨by omega,by omega,by simp,rfl⟩|skip
 all_goals (obtain⟨⟨⟨a1,a2,a3,a4⟩,e1⟩,e2⟩:=i2;simp only[e1,e2] at *)
 all_goals first|trivial|omega|skip
 all_goals try (obtain⟨⟨⟨b1,b2,b3,b4⟩,f1⟩,f2⟩:=i10;simp only[f1,f2] at *)
 all_goals first|trivial|omega|skip
 all_goals first|(have ho:=SJ (p:=p) (i:=y10.2.1.toNat) (by omega))|(have ho:=Si (p:=p) (i:=y2.2.1.toNat) (by omega))|skip
 all_goals first|exact⟨by omega,by omega,by omega⟩|skip
 all_goals first|(rw[I4 (modRequest p) (l:=openMods p) (i:=y10.2.1.toNat) (by omega)] at b4;rw[Qd7] at b4;exact b4)|(rw[MC (modRequest p) (l:=openMods p) (i:=y10.2.1.toNat) (by omega)] at b4;rw[Ah (by omega),show(y10.2.1+1).toNat=y10.2.1.toNat+1 by omega];exact⟨⟨⟨⟨by omega,by omega,by simp only[Qa4,Qa6,Qb5];omega,by rw[Qb4];exact b4⟩,by trivial⟩,by trivial⟩,by omega⟩)|(rw[MC (slotRequest p) (l:=openSlots p) (i:=y2.2.1.toNat) (by omega)] at a4;rw[Ah (by omega),show(y2.2.1+1).toNat=y2.2.1.toNat+1 by omega];exact⟨⟨⟨⟨by omega,by omega,by simp only[Qa4,Qa6,Qb5];omega,by rw[Qb4];exact a4⟩,by trivial⟩,by trivial⟩,by omega⟩)|(rw[I4 (slotRequest p) (l:=openSlots p) (i:=y2.2.1.toNat) (by omega)] at a4;rw[Qd7] at a4;exact⟨by omega,by omega,by omega,by rw[a4];rfl⟩)|skip)
def busyOf (l:List SConn):List SAddr:=l.map fun c=>c.to
def Ua:Fct:=⟨[.v (.sl .conn)],[.sl .addr],fun(x_:(List SConn)×Unit)=>x_.1.length<=1048576,fun(x_:(List SConn)×Unit)=>(busyOf x_.1,())⟩
abbrev DC (l:(List SConn)):LInv:=⟨[⟨.s,3,true,.sl .addr⟩,⟨.s,4,true,.el .int⟩],fun _ (x_:(List SAddr)×Int×Unit)=>0<=x_.2.1/\x_.2.1<=l.length/\x_.1.length<=x_.2.1/\x_.1++busyOf (l.drop x_.2.1.toNat)=busyOf l,fun(x_:(List SAddr)×Int×Unit)=>l.length-x_.2.1.toNat⟩
def Aho:=Ait.a Ua<|Fct.p (KP [0,2,3,4] [9]) (fun⟨l,_⟩=>lv [(3,DC l)]) Ait.2 func57 (by
 rintro⟨(l:List SConn),_⟩ hp;refine ho (lpx (DC l) ([],((0:Int),())) fun(y1:List SAddr×Int×PUnit) bk1=>.br (decide (y1.2.1<(l.length:Int))) (.ob (inB y1.2.1 l.length)<|.ob (True)<|.ob (BM (y1.1.length+[(l.getD y1.2.1.toNat default).to].length) 32)<|.ob (l=l)<|.ob (bk1 (y1.1++[(l.getD y1.2.1.toNat default).to],(w1 y1.2.1,())))<|.ok) (.lf Ua (y1.1,()))) ?_;refine Ay ?_ fun(y1:List SAddr×Int×PUnit) i1=>Ab (fun h2=>Aa ?_ fun o3=>Aa trivial fun _=>Aa ?_ fun o4=>Aa rfl fun _=>Aa ?_ fun o5=>trivial) (fun h2=>lfY ?_)
 all_goals
  try simp only[Az] at *
  try simp only[DC,Ua,std,Nat.reduceAdd,busyOf] at *
 all_goals first|trivial|omega|skip
 all_goals (obtain⟨a1,a2,a3,a4⟩:=i1)
 all_goals first|(rw[I4 (fun c:SConn=>c.to) (l:=l) (i:=y1.2.1.toNat) (by omega),Qd7] at a4;exact a4)|(rw[MC (fun c:SConn=>c.to) (l:=l) (i:=y1.2.1.toNat) (by omega)] at a4;rw[Ah (by omega),show(y1.2.1+1).toNat=y1.2.1.toNat+1 by omega];exact⟨⟨by omega,by omega,by simp only[Qa4,Qa6,Qb5];omega,by rw[Qb4];exact a4⟩,by omega⟩))
def reqNeeds (l:SLoader):List SRequest:=withoutAddrs (busyOf l.conns) (nextNeeds l.page)
def reqPick (l:SLoader):Int:=pickReq l.page (reqNeeds l) 0 (-1) 0
def reqTo (l:SLoader):SAddr:=((reqNeeds l).getD (reqPick l).toNat default).to
def requestNext (l:SLoader):SLoader×Bool :=
 if reqPick l<0 then(l,false)
 else if(useGuess l.guesses (reqTo l)).2.2=true then
  ({ l with guesses:=(useGuess l.guesses (reqTo l)).1,net:=keepAnswer l.net l.page.addr.host (reqTo l) (useGuess l.guesses (reqTo l)).2.1,page:=takeAnswer l.page (reqTo l) (useGuess l.guesses (reqTo l)).2.1 },true)
 else if 3<=l.conns.length then(l,false)
 else({ l with net:=(fetchNow l.net l.page.addr.host (reqTo l) false).1,conns:=(openConn l.conns (reqTo l) (fetchNow l.net l.page.addr.host (reqTo l) false).2 false).1 },true)
def okGs (l:List SGuess):Prop:=∀ g,g∈l->Ae g.bd<=1048576
def okCs (l:List SConn):Prop:=∀ c,c∈l->Ae c.bd<=1048576/\szAddr c.to<=4000000
def okTo (p:SPage):Prop:=(∀ s,s∈p.bf->szAddr s.to<=4000000)/\∀ m,m∈p.bh->szAddr m.to<=4000000
def okRN (l:SLoader):Prop:=((okFM l.page/\okTo l.page/\l.parts.length<=1000000000)/\-9223372036854775808<=l.page.block/\l.page.block<=9223372036854775807/\l.page.bf.length+l.page.bh.length<=1000000000000)/\(l.conns.length<=1048576/\okCs l.conns)/\(l.guesses.length<=4194304/\okGs l.guesses)/\okNt l.net
theorem Is (p:SPage):(nextNeeds p).length<=p.bf.length+p.bh.length:=by
 have h1:(openSlots p).length<=p.bf.length:=Dr _ _ _;have h2:(openMods p).length<=p.bh.length:=Dr _ _ _;unfold nextNeeds;rw[Qa4,Qf5,Qf5];omega
theorem NO {d:List SAddr} {r:SRequest}:∀ {l:List SRequest},r∈withoutAddrs d l->r∈l
 | [],h=>h
 | x::l,h=>by
  rw[withoutAddrs] at h;split at h
  ·exact Qd5 _ (NO h)
  ·rcases Qd3.1 h with q|q
   ·rw[q];exact Qf1
   ·exact Qd5 _ (NO q)
theorem Y0 {p:SPage} {r:SRequest} (h:r∈nextNeeds p):(∃ s,s∈p.bf/\r.to=s.to)\/∃ m,m∈p.bh/\r.to=m.to:=by
 unfold nextNeeds at h;rcases Qc0.1 h with q|q
 ·obtain⟨k,hk,rfl⟩:=Qg5.1 q;have:=EL (fun s:SSlot=>!s.done) p.bf 0 k hk;left;refine⟨p.bf.getD k.toNat default,Bl (by omega),?_⟩;unfold slotRequest;rw[Qa2 (by omega)]
 ·obtain⟨k,hk,rfl⟩:=Qg5.1 q;have:=EL (fun m:SModule=>!m.done) p.bh 0 k hk;right;refine⟨p.bh.getD k.toNat default,Bl (by omega),?_⟩;rw[Li (by omega) (by omega)]
theorem Jg (p:SPage):∀ (l:List SRequest) (i b c:Int),-1<=b->b<i->-1<=pickReq p l i b c/\pickReq p l i b c<i+l.length
 | [],i,b,c,h1,h2=>by
  rw[pickReq];simp only[Qb5];omega
 | r::l,i,b,c,h1,h2=>by
  rw[pickReq,Qa6];split
  ·have:=Jg p l (i+1) i (classOf p r) (by omega) (by omega);omega
  ·have:=Jg p l (i+1) b c h1 (by omega);omega
theorem rn1 (l:SLoader):withoutAddrs (busyOf l.conns) (nextNeeds l.page)=reqNeeds l:=rfl
theorem rn2 (l:SLoader):pickReq l.page (reqNeeds l) 0 (-1) 0=reqPick l:=rfl
theorem rn3 (l:SLoader):((reqNeeds l).getD (reqPick l).toNat default).to=reqTo l:=rfl
theorem Acj (l:SLoader) : -1<=reqPick l/\reqPick l<(reqNeeds l).length:=by
 have:=Jg l.page (reqNeeds l) 0 (-1) 0 (by omega) (by omega);unfold reqPick;omega
theorem Aep {l:SLoader} (h:okTo l.page) (h0:0<=reqPick l):szAddr (reqTo l)<=4000000:=by
 have hi:=(Acj l).2;have hm:(reqNeeds l).getD (reqPick l).toNat default∈nextNeeds l.page:=NO (Bl (show(reqPick l).toNat<(reqNeeds l).length by omega));unfold reqTo;rcases Y0 hm with⟨s,hs,e⟩|⟨m,hm2,e⟩
 ·rw[e];exact h.1 s hs
 ·rw[e];exact h.2 m hm2
theorem Qz {l:List SGuess} {a:SAddr} (h:okGs l):Ae (useGuess l a).2.1<=1048576:=by
 unfold useGuess;split
 ·exact(show Ae notFound<=1048576 by decide)
 ·rename_i hc;have hf:=Eg (fun g:SGuess=>decide (g.to=a)) l 0 (by omega);have:(findGuess l a).toNat<l.length:=by unfold findGuess at *;omega
  exact h _ (Bl this)
theorem Aeg {l:List SConn} {i:Nat} (h:i<l.length):busyOf (l.drop i)=(l.getD i default).to::busyOf (l.drop (i+1)):=MC (fun c:SConn=>c.to) h
theorem Zy {l:List SConn} {i:Nat} (h:l.length<=i):busyOf (l.drop i)=[]:=I4 (fun c:SConn=>c.to) h
def Bj:Fct:=⟨[.v (.el .loader)],[.el .loader,.el .bool],fun(x_:SLoader×Unit)=>okRN x_.1,fun(x_:SLoader×Unit)=>((requestNext x_.1).1,(requestNext x_.1).2,())⟩
def AhF:=Aho.a Bj<|Fct.o (KP [1,2,3,4,5,6,7,8,9,10,11,12,13] [28,47,67]) Aho.2 func12 (by
 rintro⟨(l:SLoader),_⟩ hp;refine ho (.cl Cv (l,()) fun z2=>let q1_:Out:=.lf Bj (z2.1,false,());.cl CT (l.page,()) fun z3=>.cl Ua (l.conns,()) fun z4=>.cl Bm (z3.1,z4.1,()) fun z5=>.cl BQ (l.page,z5.1,()) fun(z6:Int×PUnit)=>let q0_:=z5.1.getD z6.1.toNat default;.br (decide (z6.1<0)) q1_ (.ob (inB z6.1 z5.1.length)<|.ob (z6.1.toNat<z5.1.length)<|.cl CX (l.guesses,q0_.to,()) fun z7=>.br (z7.2.2.1) (.cl fKeepAnswer (l.net,l.page.addr.host,q0_.to,z7.2.1,()) fun z8=>.cl Cr (l.page,q0_.to,z7.2.1,()) fun z9=>.lf Bj (⟨z8.1,z9.1,z2.1.parts,z2.1.conns,z7.1⟩,true,())) (.br (decide ((l.conns.length:Int)>=3)) q1_ (.cl Be (l.net,l.page.addr.host,q0_.to,false,()) fun z10=>.cl Ib (l.conns,q0_.to,z10.2.1,false,()) fun z11=>.lf Bj ({z2.1 with net:=z10.1,conns:=z11.1},true,()))))) ?_;repeat' (guard_target =~ Out.holds _ _;first|refine lfY ?_|refine Ab (fun _=>?_) fun _=>?_|refine Af ?_ fun _=>?_|refine Aa ?_ fun _=>?_)
 all_goals obtain⟨⟨⟨q1,qt,qp⟩,q2,q3,q4⟩,⟨q5,q6⟩,⟨q7,q8⟩,q9⟩:=(show okRN l from hp)
 all_goals
  have hok:=DS (Gi q1);have hh:l.page.addr.host.size<=4000000:=by have:=hok.2.1;simp only[szAddr] at this;omega
  have hn:=Is l.page;have hb:(busyOf l.conns).length=l.conns.length:=Qf5 ..;have hw:=Gt (busyOf l.conns) (nextNeeds l.page);have hk:=Acj l;have ht:=fun h=>Aep (l:=l) qt h
  have hu:=Qz (a:=reqTo l) q8;have hf:=L5 (t:=l.page.addr.host) (a:=reqTo l) (g:=false) q9
 all_goals obtain⟨n1,n2,n3,n4⟩:=q9
 all_goals
  try simp only[Az] at *
  try simp only[Ua,Cv,Be,fKeepAnswer,CT,Ib,BQ,Bj,Cr,CX,Bm,std,Nat.reduceAdd,Cv,CT,Ua,Bm,BQ,CX,fKeepAnswer,Cr,Be,rn1,rn2,rn3] at *
 all_goals first|trivial|omega|skip
 all_goals first|exact⟨by omega,by omega,by omega,by omega,by omega⟩|exact⟨by omega,by omega⟩|exact⟨by omega,⟨by omega,by omega⟩,by omega⟩|skip
 all_goals
  have hs1:(useGuess l.guesses (reqTo l)).2.1.body.size+(useGuess l.guesses (reqTo l)).2.1.bj.size<=1048576:=hu;have hs2:(fetchNow l.net l.page.addr.host (reqTo l) false).2.body.size+(fetchNow l.net l.page.addr.host (reqTo l) false).2.bj.size<=1048576:=hf
 all_goals first|exact⟨q1,by omega,by omega,by omega⟩|exact⟨by omega,by omega⟩|skip
 all_goals unfold requestNext
 all_goals first|(rw[Qa2 (by assumption)];exact⟨rfl,rfl⟩)|(rw[Qa3 (by omega)])
 all_goals first|(rw[Qa2 (by assumption)];exact⟨rfl,rfl⟩)|(rw[Qa3 (by rw[show(useGuess l.guesses (reqTo l)).2.2=false by assumption];decide)])
 all_goals first|(rw[Qa2 (by omega)];exact⟨rfl,rfl⟩)|(rw[Qa3 (by omega)];exact⟨rfl,rfl⟩)|skip)
abbrev BI (l:SLoader):LInv:=⟨[⟨.s,5,true,.sl .addr⟩,⟨.s,23,true,.el .int⟩,⟨.b,1,false,.el .loader⟩,⟨.b,2,true,.el .loader⟩,⟨.b,4,true,.el .loader⟩],fun(z_ x_:(List SAddr)×Int×SLoader×SLoader×SLoader×Unit)=>(((0<=x_.2.1/\x_.2.1<=l.conns.length/\x_.1.length<=x_.2.1/\x_.1++busyOf (l.conns.drop x_.2.1.toNat)=busyOf l.conns)/\x_.2.2.1=z_.2.2.1)/\x_.2.2.2.1=z_.2.2.2.1)/\x_.2.2.2.2.1=z_.2.2.2.2.1,fun(x_:(List SAddr)×Int×SLoader×SLoader×SLoader×Unit)=>l.conns.length-x_.2.1.toNat⟩
def AhP:=AhF.a Bj<|Fct.p (KP [1,2,3,4,5,7,8,9,10,11,12,13,14,15,16,21,22,23] [24,43,62,82]) (fun⟨l,_⟩=>lv [(4,BI l)]) AhF.2 func13 (by
 rintro⟨(l:SLoader),_⟩ hp;refine ho (let q1_:=(l.conns.length:Int);.cl Cv (l,()) fun z2=>lpx (BI l) ([],((0:Int),(l,(default,(z2.1,()))))) fun(y2:List SAddr×Int×SLoader×SLoader×SLoader×PUnit) bk2=>let q3_:=l.conns.getD y2.2.1.toNat default;let q2_:Out:=.lf Bj (y2.2.2.2.2.1,false,());.br (decide (y2.2.1<q1_)) (.ob (inB y2.2.1 l.conns.length)<|.ob (True)<|.ob (BM (y2.1.length+[q3_.to].length) 32)<|.ob (l.conns=l.conns)<|.ob (Value.int IntKind.i64 q1_=Value.int IntKind.i64 q1_)<|.ob (bk2 (y2.1++[q3_.to],(w1 y2.2.1,(y2.2.2.1,(y2.2.2.2.1,(y2.2.2.2.2.1,()))))))<|.ok) (.cl CT (y2.2.2.1.page,()) fun z3=>.cl Bm (z3.1,y2.1,()) fun z4=>.cl BQ (y2.2.2.1.page,z4.1,()) fun(z5:Int×PUnit)=>let q0_:=z4.1.getD z5.1.toNat default;.br (decide (z5.1<0)) q2_ (.ob (inB z5.1 z4.1.length)<|.ob (z5.1.toNat<z4.1.length)<|.cl CX (y2.2.2.1.guesses,q0_.to,()) fun z6=>.br (z6.2.2.1) (.cl fKeepAnswer (y2.2.2.2.2.1.net,y2.2.2.1.page.addr.host,q0_.to,z6.2.1,()) fun z7=>.cl Cr (y2.2.2.2.2.1.page,q0_.to,z6.2.1,()) fun z8=>.lf Bj (⟨z7.1,z8.1,y2.2.2.2.2.1.parts,y2.2.2.2.2.1.conns,z6.1⟩,true,())) (.br (decide ((y2.2.2.1.conns.length:Int)>=3)) q2_ (.cl Be (y2.2.2.2.2.1.net,y2.2.2.1.page.addr.host,q0_.to,false,()) fun z9=>.cl Ib (y2.2.2.2.2.1.conns,q0_.to,z9.2.1,false,()) fun z10=>.lf Bj ({y2.2.2.2.2.1 with net:=z9.1,conns:=z10.1},true,())))))) ?_;refine Af ?_ fun o1=>(Ay ?_ fun(y2:List SAddr×Int×SLoader×SLoader×SLoader×PUnit) i2=>Ab (fun h3=>Aa ?_ fun o4=>Aa trivial fun _=>Aa ?_ fun o5=>Aa rfl fun _=>Aa rfl fun _=>Aa ?_ fun o6=>trivial) (fun h3=>Af ?_ fun o7=>(Af ?_ fun o8=>(Af ?_ fun o9=>(Ab (fun h10=>lfY ?_) (fun h10=>Aa ?_ fun o11=>Aa ?_ fun o12=>Af ?_ fun o13=>(Ab (fun h14=>Af ?_ fun o15=>(Af ?_ fun o16=>(lfY ?_))) (fun h14=>Ab (fun h17=>lfY ?_) (fun h17=>Af ?_ fun o18=>(Af ?_ fun o19=>(lfY ?_)))))))))))
 all_goals obtain⟨⟨⟨q1,qt,qp⟩,q2,q3,q4⟩,⟨q5,q6⟩,⟨q7,q8⟩,q9⟩:=(show okRN l from hp)
 all_goals
  have hok:=DS (Gi q1);have hh:l.page.addr.host.size<=4000000:=by have:=hok.2.1;simp only[szAddr] at this;omega
  have hn:=Is l.page;have hb:(busyOf l.conns).length=l.conns.length:=Qf5 ..;have hw:=Gt (busyOf l.conns) (nextNeeds l.page);have hk:=Acj l;have ht:=fun h=>Aep (l:=l) qt h
  have hu:=Qz (a:=reqTo l) q8;have hf:=L5 (t:=l.page.addr.host) (a:=reqTo l) (g:=false) q9
 all_goals obtain⟨n1,n2,n3,n4⟩:=q9
 all_goals
  try simp only[Az] at *
  try simp only[BI,Cv,Be,fKeepAnswer,CT,Ib,BQ,Bj,Cr,CX,Bm,std,Nat.reduceAdd,Cv,CT,Bm,BQ,CX,fKeepAnswer,Cr,Be,rn1,rn2,rn3] at *
 all_goals first|trivial|omega|skip
 all_goals (obtain⟨⟨⟨⟨a1,a2,a3,a4⟩,e1⟩,e2⟩,e3⟩:=i2;simp only[e1,e3] at *)
 all_goals first|trivial|omega|(rw[Aeg (l:=l.conns) (i:=y2.2.1.toNat) (by omega)] at a4;rw[Ah (by omega),show(y2.2.1+1).toNat=y2.2.1.toNat+1 by omega];exact⟨⟨⟨⟨⟨by omega,by omega,by simp only[Qa4,Qa6,Qb5];omega,by rw[Qb4];exact a4⟩,by trivial⟩,e2⟩,by trivial⟩,by omega⟩)|(have he:y2.1=busyOf l.conns:=by rw[Zy (l:=l.conns) (i:=y2.2.1.toNat) (by omega),Qd7] at a4;exact a4)
 all_goals simp only[he,rn1,rn2,rn3] at *
 all_goals first|trivial|omega|skip
 all_goals first|exact⟨by omega,by omega,by omega,by omega,by omega⟩|exact⟨by omega,by omega⟩|exact⟨by omega,⟨by omega,by omega⟩,by omega⟩|skip
 all_goals
  have hs1:(useGuess l.guesses (reqTo l)).2.1.body.size+(useGuess l.guesses (reqTo l)).2.1.bj.size<=1048576:=hu;have hs2:(fetchNow l.net l.page.addr.host (reqTo l) false).2.body.size+(fetchNow l.net l.page.addr.host (reqTo l) false).2.bj.size<=1048576:=hf
 all_goals first|exact⟨q1,by omega,by omega,by omega⟩|exact⟨by omega,by omega⟩|skip
 all_goals unfold requestNext
 all_goals first|(rw[Qa2 (by assumption)];exact⟨rfl,rfl⟩)|(rw[Qa3 (by omega)])
 all_goals first|(rw[Qa2 (by assumption)];exact⟨rfl,rfl⟩)|(rw[Qa3 (by rw[show(useGuess l.guesses (reqTo l)).2.2=false by assumption];decide)])
 all_goals first|(rw[Qa2 (by omega)];exact⟨rfl,rfl⟩)|(rw[Qa3 (by omega)];exact⟨rfl,rfl⟩)|skip)
theorem Pf {α:Type} (f:α->Nat) (g:α->α) (h:∀ x,f (g x)=f x):∀ (l:List α) (i:Nat),szL f (l.modify i g)=szL f l
 | [],0=>rfl
 | [],_+1=>rfl
 | x::l,0=>by show szL f (g x::l)=_;rw[Ax,Ax,h]
 | x::l,i+1=>by show szL f (x::l.modify i g)=_;rw[Ax,Ax,Pf f g h l i]
theorem keep_net_sz (n:SNet) (t:ByteArray) (a:SAddr) (x:SResponse):szNet (keepAnswer n t a x)<=szNet n+(t.size+szAddr a+Ae x+20):=by
 unfold keepAnswer;split
 ·have:=Sr n.cache t a x n.now;simp only[szNet];omega
 ·omega
theorem Adx (l:List SConn) (a:SAddr) (x:SResponse) (g:Bool):szL DI (openConn l a x g).1<=szL DI l+(szAddr a+Ae x+1):=by
 unfold openConn;split
 ·simp only;omega
 ·simp only;rw[Er];simp only[DI];omega
theorem AeQ {l:SLoader} (h:De l<=1048576) (b1 : -9223372036854775808<=l.page.block) (b2:l.page.block<=9223372036854775807):okRN l:=by
 have c1:=Ad DI l.conns;have c2:=Ad CO l.guesses;have c3:=Ad Ac l.parts;have c4:=Ad AF l.page.bf;have c5:=Ad Aq l.page.bh;simp only[De] at h;have hi:okAll l.page 2000000 1100000000 10000000:=Wp (by omega);have hp:szL AF l.page.bf+szL Aq l.page.bh<=szPage l.page:=by simp only[szPage];omega
 have hn:szL AW l.net.servers+szCache l.net.cache<=szNet l.net:=by simp only[szNet];omega
 have hc:szCache l.net.cache=szL AK l.net.cache.bg:=rfl;refine⟨⟨⟨⟨_,_,_,hi,by omega,by omega,by omega⟩,⟨fun s hs=>?_,fun m hm=>?_⟩,by omega⟩,b1,b2,by omega⟩,⟨by omega,fun c hc=>?_⟩,⟨by omega,fun g hg=>?_⟩,by omega,by omega,by omega,fun e he=>?_⟩
 ·have:=Fp AF hs;simp only[AF] at this;omega
 ·have:=Fp Aq hm;simp only[Aq] at this;omega
 ·have:=Fp DI hc;simp only[DI] at this;omega
 ·have:=Fp CO hg;simp only[CO] at this;omega
 ·have:=Fp AK he;simp only[AK] at this;omega
theorem AfZ (l:SLoader) (b1 : -9223372036854775808<=l.page.block) (b2:l.page.block<=9223372036854775807) (h:De l<=1048576):okRN l/\De (requestNext l).1<=1125899906842624:=by
 have hr:=AeQ h b1 b2;refine⟨hr,?_⟩;have h0:=h;simp only[De] at h;have hi:okAll l.page 2000000 1100000000 10000000:=Wp (by omega);have ha:l.page.addr.host.size<=szPage l.page:=by simp only[szPage,szAddr];omega
 unfold requestNext;split
 ·exact Qe6 h0 (by omega)
 ·rename_i hk;have ht:=Aep hr.1.1.2.1 (show 0<=reqPick l by omega);split
  ·have hu:=Qz (a:=reqTo l) hr.2.2.1.2;have hk2:=keep_net_sz l.net l.page.addr.host (reqTo l) (useGuess l.guesses (reqTo l)).2.1;have hz:=SZ (Yi hi (reqTo l) (useGuess l.guesses (reqTo l)).2.1) (by omega) (by omega) (by omega);have hg:szL CO (useGuess l.guesses (reqTo l)).1=szL CO l.guesses:=by
    unfold useGuess;split
    ·rfl
    ·exact Pf CO (fun g:SGuess=>{ g with used:=true }) (fun _=>rfl) _ _
   simp only[De];omega
  ·split
   ·exact Qe6 h0 (by omega)
   ·have h1:=Px l.net l.page.addr.host (reqTo l) false;have h2:=Aaz l.net l.page.addr.host (reqTo l) false;have h3:=Adx l.conns (reqTo l) (fetchNow l.net l.page.addr.host (reqTo l) false).2 false;simp only[De];omega
theorem k4_398:lLoader1.ok Tryz.prog 4:=Fct.o (KP [1,2,3,4,5,6,7,8,9,10,11,12,13] [18,40,45,61,69,72,87,92,95]) AhP.2 func4 (by
 rintro⟨(l:SLoader),_⟩ hp;refine ho (let q2_:Out:=.leaf (mkR lLoader1.rs (true,())) [] [];let q0_:Out:=.leaf (mkR lLoader1.rs (false,())) [] [];.cl KK (l,(1048576:Int),()) fun(z2:Int×PUnit)=>.br (decide (z2.1<0)) q2_ (.cl FD (l,()) fun z3=>.cl Bj (z3.1,()) fun z4=>.cl FD (l,()) fun z5=>.cl Bj (z5.1,()) fun z6=>.cl FG (z6.1,z4.1,()) fun z7=>.br (!z7.1) q0_ (.br (!z6.2.1==z4.2.1) q0_ (.cl FD (l,()) fun z8=>.cl FG (z5.1,z8.1,()) fun z9=>.br (!z9.1) q0_ (.ob (Ee.pre z5.1 (1:Int))<|.lt _ (Ee.fn z5.1 (1:Int)) fun z10=>.br (decide (z10.2<0)) q0_ (.cl FG (z6.1,z4.1,()) fun z11=>.br (!z11.1) q0_ (.br (!z6.2.1==z4.2.1) q0_ (.ob (Ee.pre z6.1 (1:Int))<|.lt _ (Ee.fn z6.1 (1:Int)) fun z12=>let q1_:=({z12.1 with net:=({z12.1.net with now:=z6.1.net.now}:SNet),page:=({z6.1.page with bj:=({z12.1.page.bj with set_:=z6.1.page.bj.set_,nonce:=z6.1.page.bj.nonce}:SPolicy),bn:=z12.1.page.bn,ba:=z12.1.page.ba,bf:=z12.1.page.bf,bh:=z12.1.page.bh,bg:=z12.1.page.bg,ran:=z12.1.page.ran,log:=z12.1.page.log}:SPage)}:SLoader);.cl Gf (q1_,(1:Int),()) fun(z13:Int×PUnit)=>.br (decide (z13.1<0)) q0_ (.br (z13.1 != z12.2) q0_ (.cl FD (l,()) fun z14=>.cl Bj (z14.1,()) fun z15=>.cl FG (z15.1,z4.1,()) fun z16=>.br (!z16.1) q0_ (.br (!z15.2.1==z4.2.1) q0_ (.cl Gf (q1_,(1:Int),()) fun(z17:Int×PUnit)=>.br (decide (z17.1<0)) q0_ (.br (z17.1 != z12.2) q0_ q2_))))))))))))) ?_;refine LM ?_ fun o1 z2 ez2=>(Ab (fun h2=>Fct.leafY ?_) (fun h2=>LM ?_ fun o3 z3 ez3=>(LM ?_ fun o4 z4 ez4=>(LM ?_ fun o5 z5 ez5=>(LM ?_ fun o6 z6 ez6=>(LM ?_ fun o7 z7 ez7=>(Ab (fun h8=>Fct.leafY ?_) (fun h8=>Ab (fun h9=>Fct.leafY ?_) (fun h9=>LM ?_ fun o10 z8 ez8=>(LM ?_ fun o11 z9 ez9=>(Ab (fun h12=>Fct.leafY ?_) (fun h12=>Aa ?_ fun o13=>AlI fun z10 ez10=>(Ab (fun h14=>Fct.leafY ?_) (fun h14=>LM ?_ fun o15 z11 ez11=>(Ab (fun h16=>Fct.leafY ?_) (fun h16=>Ab (fun h17=>Fct.leafY ?_) (fun h17=>Aa ?_ fun o18=>AlI fun z12 ez12=>(LM ?_ fun o19 z13 ez13=>(Ab (fun h20=>Fct.leafY ?_) (fun h20=>Ab (fun h21=>Fct.leafY ?_) (fun h21=>LM ?_ fun o22 z14 ez14=>(LM ?_ fun o23 z15 ez15=>(LM ?_ fun o24 z16 ez16=>(Ab (fun h25=>Fct.leafY ?_) (fun h25=>Ab (fun h26=>Fct.leafY ?_) (fun h26=>LM ?_ fun o27 z17 ez17=>(Ab (fun h28=>Fct.leafY ?_) (fun h28=>Ab (fun h29=>Fct.leafY ?_) (fun h29=>Fct.leafY ?_)))))))))))))))))))))))))))))
 all_goals
  have hlw:=fun a b=>AfZ l a b
  have hg0:Sh.good (.el .loader) l:=hp.1;have hI0:=Agp (l.page.block) hg0 (by simp[enc]);clear hp;try have hbd0:=LA z5.fst (1:Int)
  try have hbd1:=LA z6.fst (1:Int)
 all_goals subst_vars
 all_goals
  try simp only[Az] at *
  try simp only[Bj,FG,Gf,Ee,KK,FD,lLoader1,std,Nat.reduceAdd,szF,toF,eqF,mkF,heF,decide_true] at *
  try simp only[Qd] at *
 all_goals first|trivial|omega|grind[lessen])
def Amn:=AhP.a lLoader1 k4_398
section
open Go.ChangeShapes Go.WideShapes Go.ChangeAt Go.RowKit
theorem rowFacts:Aen Tryz.prog Tryz.f4 tyOf [3,4,5,9,25,28,30,33,35,40,45,49,54,57,58,59,60,64,69,73,98,100,104,141,143,146,163,208,214,218,222,227,230,239,245,250,253,270,300,304,308,311,345,355,357,373,413,438] [.el .loader]=true:=by kernel_rfl
end
end Go.Proofs.YtjgmhdnhlpckeaaGreatDoor.fnExactRequestNext
