/-
  Contracts of functions that the law of FnExactArrivePart reaches, part 2.
-/
import Derived.Test.YtgjngkplonejjaaGreatDoorVPArrivePart1
import Derived.Test.YtgjngkplonejjaaGreatDoorVLe
import Derived.WalkKit
import Derived.BigGuard
import Derived.Deep.QuietTactic
import Derived.BigQuiet
import Derived.Lib.ConvBytes
import Derived.Sort.WalkC
import Derived.Handy
import Derived.Lib.Overlaps
import Derived.Lib.AppendZerosOnto
import Derived.Laws.Externs
import Derived.Shelf.RegionOpenPlain
import Derived.Defers
import Derived.Laws.Pointers
import Derived.Laws.LoneSync
import Derived.RegionCalls
import Derived.ChangeAlike
import Derived.LoopN
import Derived.Lib.SliceRun
import Derived.Shelf.Strconv.AtoiAll
import Derived.Shelf.Small.Strs
import Derived.Test.YtgjngkplonejjaaGreatDoorRows
import Derived.Test.YtgjngkplonejjaaGreatDoorCards
import Derived.Test.YtgjngkplonejjaaGreatDoorTie
import Derived.LaidMore
import Derived.Lay
import Derived.SevenTiedAt
import Derived.WalkKit
import Derived.ProofKit
import Derived.OpenShut
namespace Go.Proofs.YtgjngkplonejjaaGreatDoor.fnExactArrivePart
open Go.Proofs.YtgjngkplonejjaaGreatDoor
open Go.D
set_option maxRecDepth 100000
set_option maxHeartbeats 2000000
set_option linter.unusedVariables false
set_option linter.unusedSimpArgs false
theorem k280_227:GF.ok Tryz.prog 280:=Fct.o [0] AaF.2 Tryz.func280 (by
 rintro⟨_⟩ hp
 refine ho (.lf GF ([(⟨#[]⟩:ByteArray),(⟨#[119,114,105,116,101,32]⟩:ByteArray),(⟨#[97,100,100,32]⟩:ByteArray),(⟨#[99,111,117,110,116,32]⟩:ByteArray),(⟨#[108,111,111,107,32]⟩:ByteArray),(⟨#[115,97,121,32]⟩:ByteArray)],())) ?_
 refine lfY ?_
 all_goals
  try simp only[AH] at *
  try simp only[GF,std,Nat.reduceAdd,words8] at *
  try simp(disch:=omega) only[wrapId',toNat1] at *
  try simp(disch:=omega) only[if_pos,if_neg]
 all_goals first|trivial|omega|grind[wrapId',toNat1,drop_cons,drop_end,good_len,maxLen,words8])
def Abk:=AaF.a k280_227
def line8L (s:ByteArray):List ByteArray→Int→SLine×Bool
 | [],_=>(default,false)
 | w::l,op=>if w.size≤s.size∧s.extract 0 w.size=w then(⟨op,s.extract w.size s.size⟩,if op=1∨op=5 then decide (s.size-w.size≤60) else isName (s.extract w.size s.size)) else line8L s l (op+1)
theorem line8L_at {s:ByteArray} {l:List ByteArray} {i:Nat} {k:Int} (h:i<l.length):line8L s (l.drop i) k=if(l.getD i default).size≤s.size∧s.extract 0 (l.getD i default).size=l.getD i default then(⟨k,s.extract (l.getD i default).size s.size⟩,if k=1∨k=5 then decide (s.size-(l.getD i default).size≤60) else isName (s.extract (l.getD i default).size s.size)) else line8L s (l.drop (i+1)) (k+1):=by rw[drop_cons h];rfl
theorem line8L_end {s:ByteArray} {l:List ByteArray} {i:Nat} {k:Int} (h:l.length≤i):line8L s (l.drop i) k=(default,false):=by rw[List.drop_of_length_le h];rfl
def line8 (s:ByteArray):SLine×Bool:=line8L s (words8.drop 1) 1
theorem words8_len:words8.length=6:=rfl
def FP:Fct:=⟨[.v (.el .str)],[.el .line,.el .bool],fun(x_:ByteArray×Unit)=>x_.1.size≤1000000000000,fun(x_:ByteArray×Unit)=>((line8 x_.1).1,(line8 x_.1).2,())⟩
abbrev CD (s:ByteArray):LInv:=⟨[⟨.s,5,true,.el .int⟩,⟨.b,2,true,.el .line⟩,⟨.s,4,true,.sl .str⟩],fun(z_:Int×SLine×(List ByteArray)×Unit) (x_:Int×SLine×(List ByteArray)×Unit)=>((1≤x_.1∧x_.1≤6∧line8L s (words8.drop x_.1.toNat) x_.1=line8 s)∧x_.2.1=z_.2.1)∧x_.2.2.1=z_.2.2.1,fun(x_:Int×SLine×(List ByteArray)×Unit)=>(6-x_.1).toNat⟩
theorem k241_228:FP.ok Tryz.prog 241:=Fct.p (KP [0,2,3,4,5,6,7,8] [13,32]) (fun⟨s,_⟩=>lv [(3,CD s)]) Abk.2 Tryz.func241 (by
 rintro⟨(s:ByteArray),_⟩ hp
 refine ho (.cl GF () fun z2=>lpx (CD s) ((1:Int),(default,(z2.1,()))) fun(y1:Int×SLine×List ByteArray×PUnit) bk1=>let q9_:=y1.2.2.1.getD y1.1.toNat default;let q5_:Out:=.ob (Value.string s=Value.string s)<|.ob (bk1 (w1 y1.1,(y1.2.1,(y1.2.2.1,()))))<|.ok;let q0_:=(↑q9_.size:Int);let q8_:=(0:Int)≤q0_∧q0_≤(↑s.size:Int);let q7_:=decide ((↑(s.extract q0_.toNat s.size).size:Int)≤60);let q6_:Out:=.lf FP (⟨y1.1,s.extract q0_.toNat s.size⟩,true,());let q4_:Out:=.lf FP (⟨y1.1,s.extract q0_.toNat s.size⟩,false,());let q3_:Out:=.cl fIsName (s.extract q0_.toNat s.size,()) fun z3=>.lf FP (⟨y1.1,s.extract q0_.toNat s.size⟩,z3.1,());let q10_:Out:=.br (!y1.1==5) q3_ q4_;let q2_:Out:=.br q7_ q6_ (.br (!true) q3_ q4_);let q1_:Out:=.br (y1.1==5) (.br q7_ q6_ q10_) q10_;.br (decide (y1.1<(↑y1.2.2.1.length:Int))) (.ob (inB y1.1 y1.2.2.1.length)<|.ob (y1.1.toNat<y1.2.2.1.length)<|.br (decide ((↑s.size:Int)≥q0_)) (.ob q8_<|.br ((s.extract 0 q0_.toNat).toList==q9_.toList) (.ob q8_<|.br (y1.1==1) (.lp (Bool) (True) (fun x=>True) fun y10=>.br (y10) (.lp (Bool) (True) (fun x=>True) fun y12=>.br (y12) q2_ q2_) q2_) (.lp (Bool) (True) (fun x=>True) fun y23=>.br (y23) (.lp (Bool) (True) (fun x=>True) fun y25=>.br (y25) q1_ q1_) q1_)) q5_) q5_) (.lf FP (default,false,()))) ?_
 refine Ae trivial fun _=>(AG ?_ fun(y1:Int×SLine×List ByteArray×PUnit) i1=>Ab (fun h2=>Aa ?_ fun o3=>Aa ?_ fun o4=>Ab (fun h5=>Aa ?_ fun o6=>Ab (fun h7=>Aa ?_ fun o8=>Ab (fun h9=>FN trivial fun y10 i10=>Ab (fun h11=>FN trivial fun y12 i12=>Ab (fun h13=>Ab (fun h14=>lfY ?_) (fun h14=>Ab (fun h15=>Ae ?_ fun o16=>(lfY ?_)) (fun h15=>lfY ?_))) (fun h13=>Ab (fun h17=>lfY ?_) (fun h17=>Ab (fun h18=>Ae ?_ fun o19=>(lfY ?_)) (fun h18=>lfY ?_)))) (fun h11=>Ab (fun h20=>lfY ?_) (fun h20=>Ab (fun h21=>Ae ?_ fun o22=>(lfY ?_)) (fun h21=>lfY ?_)))) (fun h9=>FN trivial fun y23 i23=>Ab (fun h24=>FN trivial fun y25 i25=>Ab (fun h26=>Ab (fun h27=>Ab (fun h28=>lfY ?_) (fun h28=>Ab (fun h29=>Ae ?_ fun o30=>(lfY ?_)) (fun h29=>lfY ?_))) (fun h27=>Ab (fun h31=>Ae ?_ fun o32=>(lfY ?_)) (fun h31=>lfY ?_))) (fun h26=>Ab (fun h33=>Ab (fun h34=>lfY ?_) (fun h34=>Ab (fun h35=>Ae ?_ fun o36=>(lfY ?_)) (fun h35=>lfY ?_))) (fun h33=>Ab (fun h37=>Ae ?_ fun o38=>(lfY ?_)) (fun h37=>lfY ?_)))) (fun h24=>Ab (fun h39=>Ab (fun h40=>lfY ?_) (fun h40=>Ab (fun h41=>Ae ?_ fun o42=>(lfY ?_)) (fun h41=>lfY ?_))) (fun h39=>Ab (fun h43=>Ae ?_ fun o44=>(lfY ?_)) (fun h43=>lfY ?_))))) (fun h7=>Aa rfl fun _=>Aa ?_ fun o45=>trivial)) (fun h5=>Aa rfl fun _=>Aa ?_ fun o46=>trivial)) (fun h2=>lfY ?_))
 all_goals
  have k2:∀ a,(s.extract a s.size).size=s.size-a:=fun a=>by rw[ByteArray.size_extract];omega
  try simp only[AH] at *
  try simp only[CD,fIsName,FP,GF,std,Nat.reduceAdd,GF,fIsName] at *
 all_goals first|exact⟨by omega,by omega,rfl⟩|(obtain⟨⟨⟨a1,a2,a3⟩,a4⟩,a5⟩:=i1;simp only[a5,words8_len,Int.toNat_natCast,k2] at *)
 all_goals first|trivial|omega|skip
 all_goals try (have e:=line8L_at (s:=s) (l:=words8) (i:=y1.1.toNat) (k:=y1.1) (by rw[words8_len];omega);rw[a3] at e)
 all_goals first|(rw[if_neg (by rintro⟨q1,q2⟩;first|omega|exact absurd q2 (by assumption))] at e;rw[An (by omega),show(y1.1+1).toNat=y1.1.toNat+1 by omega];exact⟨⟨⟨⟨by omega,by omega,e.symm⟩,a4⟩,trivial⟩,by omega⟩)|skip
 all_goals try (have e:=line8L_end (s:=s) (l:=words8) (i:=y1.1.toNat) (k:=y1.1) (by rw[words8_len];omega);rw[a3] at e;rw[e];exact⟨by first|assumption|rfl,rfl⟩)
 all_goals rw[if_pos (by exact⟨by omega,by assumption⟩)] at e
 all_goals rw[e];refine⟨rfl,?_⟩
 all_goals first|rw[if_pos (by omega)]|rw[if_neg (by omega)]
 all_goals first|rfl|(rw[decide_eq_true (by omega)])|(rw[decide_eq_false (by omega)]))
def Zn:=Abk.a k241_228
def lines8 (l:List ByteArray):List SLine:=l.map fun w=>(line8 w).1
def allOk8 (l:List ByteArray):Bool:=l.all fun w=>(line8 w).2
def parseScript (s:ByteArray):List SLine×Bool:=if s=⟨#[]⟩ then([],true) else if(spl 59 s).length≤6∧allOk8 (spl 59 s)=true then(lines8 (spl 59 s),true) else([],false)
def Am:Fct:=⟨[.v (.el .str)],[.sl .line,.el .bool],fun(x_:ByteArray×Unit)=>x_.1.size≤4200000000,fun(x_:ByteArray×Unit)=>((parseScript x_.1).1,(parseScript x_.1).2,())⟩
theorem lines8_snoc {l:List ByteArray} {i:Nat} (h:i<l.length):lines8 (l.take (i+1))=lines8 (l.take i)++[(line8 (l.getD i default)).1]∧allOk8 (l.take (i+1))=(allOk8 (l.take i)&&(line8 (l.getD i default)).2):=by
 rw[take_succ h]
 exact⟨by simp[lines8],by simp[allOk8]⟩
theorem allOk8_no {l:List ByteArray} {i:Nat} (h:i<l.length) (h2:(line8 (l.getD i default)).2=false):allOk8 l=false:=by
 unfold allOk8
 rw[List.all_eq_false]
 exact⟨l.getD i default,getD_in h,by rw[h2];decide⟩
abbrev A5 (s:ByteArray):LInv:=⟨[⟨.s,4,true,.sl .line⟩,⟨.s,6,true,.el .int⟩,⟨.s,5,true,.sl .str⟩],fun(z_:(List SLine)×Int×(List ByteArray)×Unit) (x_:(List SLine)×Int×(List ByteArray)×Unit)=>(0≤x_.2.1∧x_.2.1≤(spl 59 s).length∧(x_.2.1=0∨(spl 59 s).length≤6)∧x_.1=lines8 ((spl 59 s).take x_.2.1.toNat)∧allOk8 ((spl 59 s).take x_.2.1.toNat)=true)∧x_.2.2.1=z_.2.2.1,fun(x_:(List SLine)×Int×(List ByteArray)×Unit)=>(spl 59 s).length-x_.2.1.toNat⟩
theorem k199_229:Am.ok Tryz.prog 199:=Fct.p (KP [0,2,3,4,5,6,7,8] [11,18,35]) (fun⟨s,_⟩=>lv [(6,A5 s)]) Zn.2 Tryz.func199 (by
 rintro⟨(s:ByteArray),_⟩ hp
 refine ho (.br (s.toList==(⟨#[]⟩:ByteArray).toList) (.lf Am ([],true,())) (.cl C1 (s,(59:Int),()) fun z2=>lpx (A5 s) ([],((0:Int),(z2.1,()))) fun(y3:List SLine×Int×List ByteArray×PUnit) bk3=>.br (decide (y3.2.1<(↑y3.2.2.1.length:Int))) (.ob (inB y3.2.1 y3.2.2.1.length)<|.ob (y3.2.1.toNat<y3.2.2.1.length)<|.cl FP (y3.2.2.1.getD y3.2.1.toNat default,()) fun z3=>.br (!z3.2.1) (.lf Am ([],false,())) (.br (decide ((↑y3.2.2.1.length:Int)>6)) (.lf Am ([],false,())) (.ob (True)<|.ob (Bi (y3.1.length+[z3.1].length) 24)<|.ob (Value.string s=Value.string s)<|.ob (bk3 (y3.1++[z3.1],(w1 y3.2.1,(y3.2.2.1,()))))<|.ok))) (.lf Am (y3.1,true,())))) ?_
 refine Ab (fun h1=>lfY ?_) (fun h1=>Ae ?_ fun o2=>(AG ?_ fun(y3:List SLine×Int×List ByteArray×PUnit) i3=>Ab (fun h4=>Aa ?_ fun o5=>Aa ?_ fun o6=>Ae ?_ fun o7=>(Ab (fun h8=>lfY ?_) (fun h8=>Ab (fun h9=>lfY ?_) (fun h9=>Aa trivial fun _=>Aa ?_ fun o10=>Aa rfl fun _=>Aa ?_ fun o11=>trivial)))) (fun h4=>lfY ?_)))
 all_goals
  have hk:=DH 59 s
  have hm:∀ i,i<(spl 59 s).length→((spl 59 s).getD i default).size≤s.size:=fun i h=>FM (getD_in h)
  have hp1:s.size≤4200000000:=hp
  try simp only[AH] at *
  try simp only[A5,FP,Am,C1,std,Nat.reduceAdd,FP,C1,show UInt8.ofNat (Int.toNat 59)=59 from rfl] at *
 all_goals first|trivial|omega|(unfold parseScript;rw[if_pos (by assumption)];exact⟨rfl,rfl⟩)|exact⟨by omega,by omega,.inl (by trivial),rfl,rfl⟩|exact⟨by omega,by decide,by decide⟩|(obtain⟨⟨a1,a2,a3,a4,a5⟩,a6⟩:=i3;simp only[a6] at *)
 all_goals try have hl:y3.1.length≤(spl 59 s).length:=by rw[a4,lines8,List.length_map,List.length_take];omega
 all_goals first|trivial|omega|(have:=hm y3.2.1.toNat (by omega);omega)|skip
 all_goals first|(unfold parseScript;rw[if_neg (by assumption),if_neg (by rintro⟨q1,q2⟩;rw[allOk8_no (i:=y3.2.1.toNat) (by omega) (by assumption)] at q2;cases q2)];exact⟨rfl,rfl⟩)|(unfold parseScript;rw[if_neg (by assumption),if_neg (by omega)];exact⟨rfl,rfl⟩)|skip
 all_goals first|(rw[List.take_of_length_le (l:=spl 59 s) (i:=y3.2.1.toNat) (by omega)] at a4 a5;unfold parseScript;rw[if_neg (by assumption),if_pos (by exact⟨by omega,a5⟩)];exact⟨a4,rfl⟩)|skip
 all_goals first|(have e:=lines8_snoc (l:=spl 59 s) (i:=y3.2.1.toNat) (by omega);rw[An (by omega),show(y3.2.1+1).toNat=y3.2.1.toNat+1 by omega];refine⟨⟨⟨by omega,by omega,.inr (by omega),by rw[e.1,a4],by rw[e.2,a5];assumption⟩,by first|assumption|trivial⟩,by omega⟩)|skip)
def Ab7:=Zn.a k199_229
def mk8 (x:UInt8):UInt8:=if x=91 then 60 else if x=93 then 62 else x
def markup (s:ByteArray):ByteArray:=ofL ((toL s).map mk8)
abbrev enc8 (x:UInt8):Value:=.int .u8 (x.toNat:Int)
def fMarkup:Fct:=⟨[aT],[rT],fun x=>x.1.size≤1000000000000,fun x=>(markup x.1,())⟩
open Go.RowKit Go.Lib Go.Sort in
theorem holds_bytes (w:World) (e:TypeId) (s:ByteArray):Holds enc8 (bytesWorld w e s) w.heap.size 0 s.data:=by
 intro j hj
 have hn:=bytesWorld_at_new w e s
 refine⟨?_,?_⟩
 ·simp only[World.cell?,Nat.zero_add,hn]
  have:(Lib.bytesCells w e s)[j]? = some (.int .u8 s.data[j].toNat):=by
   unfold Lib.bytesCells
   rw[Array.getElem?_append_left (by simpa using hj),Array.getElem?_map,Array.getElem?_eq_getElem hj]
   rfl
  simp[this,getElem!_pos s.data j hj]
 ·have h2:j<(bytesCells w e s).size:=by unfold Lib.bytesCells;rw[Array.size_append,Array.size_map];omega
  simp[World.frozen?,hn];omega
open Go.RowKit Go.Lib Go.Sort in
theorem mk8_step {s:ByteArray} {dk:Array UInt8} {i:Nat} {y:UInt8} (hi:i<s.size) (hs:dk.size=s.data.size) (hd:∀ t,t<s.size→dk[t]! = if t<i then mk8 s.data[t]! else s.data[t]!) (hy:y=mk8 s.data[i]!) :
 (dk.setIfInBounds i y).size=s.data.size∧∀ t,t<s.size→(dk.setIfInBounds i y)[t]! = if t<i+1 then mk8 s.data[t]! else s.data[t]!:=by
 have hsz:s.data.size=s.size:=rfl
 refine⟨by rw[Array.size_setIfInBounds];exact hs,fun t ht=>?_⟩
 by_cases h:t=i
 ·subst h
  rw[getElem!_set_same _ _ _ (by omega),if_pos (by omega),hy]
 ·rw[getElem!_pos _ t (by rw[Array.size_setIfInBounds];omega),Array.getElem_setIfInBounds (by omega),if_neg (fun e=>h e.symm),←getElem!_pos dk t (by omega),hd t ht]
  by_cases h2:t<i
  ·rw[if_pos h2,if_pos (by omega)]
  ·rw[if_neg h2,if_neg (by omega)]
open Go.RowKit Go.Lib Go.Sort in
theorem mk8_keep {s:ByteArray} {dk:Array UInt8} {i:Nat} (hi:i<s.size) (hs:dk.size=s.data.size) (hd:∀ t,t<s.size→dk[t]! = if t<i then mk8 s.data[t]! else s.data[t]!) (hy:s.data[i]! = mk8 s.data[i]!) :
 ∀ t,t<s.size→dk[t]! = if t<i+1 then mk8 s.data[t]! else s.data[t]!:=by
 intro t ht
 rw[hd t ht]
 by_cases h:t=i
 ·subst h;rw[if_neg (Nat.lt_irrefl _),if_pos (by omega),←hy]
 ·by_cases h2:t<i
  ·rw[if_pos h2,if_pos (by omega)]
  ·rw[if_neg h2,if_neg (by omega)]
theorem mk8_a {x:UInt8} (h:((x.toNat:Int)==91)=true):60=mk8 x:=by
 have:x=91:=by apply UInt8.toNat_inj.1;have:=beq_iff_eq.1 h;exact Int.ofNat.inj this
 subst this;rfl
theorem mk8_b {x:UInt8} (h:((x.toNat:Int)==91)=false) (h2:((x.toNat:Int)==93)=true):62=mk8 x:=by
 have:x=93:=by apply UInt8.toNat_inj.1;have:=beq_iff_eq.1 h2;exact Int.ofNat.inj this
 subst this;rfl
theorem mk8_c {x:UInt8} (h:((x.toNat:Int)==91)=false) (h2:((x.toNat:Int)==93)=false):x=mk8 x:=by
 unfold mk8
 rw[if_neg (by rintro rfl;cases h),if_neg (by rintro rfl;cases h2)]
open Go.RowKit Go.Lib Go.Sort in
theorem markup_walk (s:ByteArray) (hs1:s.size≤1000000000000) (w:World):Calls Tryz.prog 281 #[.string s] w fun e w'=>e=.returned (.string (markup s))∧∃ dk,dk.size=s.data.size∧w'=putRow enc8 (bytesWorld w 5 s) w.heap.size 0 dk:=by
 have hcv:=fun(w:World)=>Lib.run_convert_string_bytes w 9 243 5 s Tryz.underlying9 Tryz.underlying243 Tryz.underlying5
 have hH:=holds_bytes w 5 s
 have hsz:s.data.size=s.size:=rfl
 go_enter Tryz.func281,Tryz.ntmps281
 go_wp2
 generalize hW1:bytesWorld w 5 s=W1 at *
 go_loopw [4] (fun vi wr=>∃ (i:Nat) (dk:Array UInt8),vi=.int .i64 i∧i≤s.size∧dk.size=s.data.size∧wr=putRow enc8 W1 w.heap.size 0 dk∧(∀ t,t<s.size→dk[t]! = if t<i then mk8 s.data[t]! else s.data[t]!)) (fun vi _=>s.size+1-(RowKit.intOf vi).toNat)
 case atStart=>exact⟨0,s.data,rfl,by omega,rfl,(putRow_self _ _ _ _ _ hH).symm,fun t ht=>by rw[if_neg (by omega)]⟩
 case round=>
  obtain⟨i,dk,rfl,hi,hsk,hw,hd⟩:=hrel
  by_cases h1:i<s.size
  ·have hcd:=cell?_putRow enc8 W1 w.heap.size 0 s.data dk hH hsk i (by omega)
   have hfz:wr.frozen? ⟨w.heap.size,0+i,none⟩=false:=by rw[hw,frozen?_putRow];exact(hH i (by omega)).2
   rw[←hw,Nat.zero_add] at hcd
   rw[Nat.zero_add] at hfz
   have hxi:=hd i h1
   rw[if_neg (Nat.lt_irrefl _)] at hxi
   rw[hxi] at hcd
   generalize hx:s.data[i]! = x at *
   dsimp only[enc8] at hcd
   have hst:=fun y=>putRow_set enc8 W1 w.heap.size 0 dk i y (by omega)
   rw[Nat.zero_add] at hst
   have hW:Hid (wr=putRow enc8 W1 w.heap.size 0 dk):=hw
   have hD:Hid (∀ t,t<s.size→dk[t]! = if t<i then mk8 s.data[t]! else s.data[t]!):=hd
   have hS:Hid (∀ y,(putRow enc8 W1 w.heap.size 0 dk).setCell ⟨w.heap.size,i,none⟩ (enc8 y)=putRow enc8 W1 w.heap.size 0 (dk.setIfInBounds i y)):=hst
   clear hw hd hst hH hxi
   go_wp2
   case roundEnd=>
    exact⟨⟨i+1,dk.setIfInBounds i 60,rfl,h1,(mk8_step h1 hsk hD.out (by rw[hx];exact mk8_a (by assumption))).1,by rw[hW.out];exact hS.out 60,(mk8_step h1 hsk hD.out (by rw[hx];exact mk8_a (by assumption))).2⟩,by simp only[RowKit.intOf];omega⟩
   case roundEnd=>
    exact⟨⟨i+1,dk.setIfInBounds i 62,rfl,h1,(mk8_step h1 hsk hD.out (by rw[hx];exact mk8_b (by assumption) (by assumption))).1,by rw[hW.out];exact hS.out 62,(mk8_step h1 hsk hD.out (by rw[hx];exact mk8_b (by assumption) (by assumption))).2⟩,by simp only[RowKit.intOf];omega⟩
   case roundEnd=>
    exact⟨⟨i+1,dk,rfl,h1,hsk,hW.out,mk8_keep h1 hsk hD.out (by rw[hx];exact mk8_c (by assumption) (by assumption))⟩,by simp only[RowKit.intOf];omega⟩
  ·have hie:i=s.size:=by omega
   subst hie
   have hback:=run_convert_bytes_back (P:=Tryz.prog) wr 243 9 5 ⟨w.heap.size,0,none⟩ (grownCap w s.size 0 5) dk.toList Tryz.underlying243 Tryz.underlying5 Tryz.underlying9 (fun j hj=>by
    have hj2:j<dk.size:=by simpa using hj
    have:=cell?_putRow enc8 W1 w.heap.size 0 s.data dk hH hsk j hj2
    rw[←hw] at this
    rw[Addr.add_lit,this]
    simp[getElem!_pos dk j hj2])
   have hl:dk.toList.length=s.size:=by simpa using hsk
   rw[hl,hw] at hback
   have hfin:markup s=⟨dk.toList.toArray⟩:=by
    unfold markup ofL
    congr 2
    apply List.ext_getElem (by simp[Bg,hl])
    intro k h2 h3
    have hk:k<s.size:=by omega
    have:=hd k hk
    rw[if_pos hk,getElem!_pos dk k (by omega),getElem!_pos s.data k hk] at this
    simp[toL,this]
   have hfin:Hid _:=hfin
   have hw:Hid _:=hw
   go_wp2
   go_ret
   exact⟨by rw[hfin.out];simp,dk,hsk,by rw[hW1];first|done|exact hw.out⟩
open Go.RowKit Go.Lib Go.Sort in
theorem bytes_grow (w:World) (e:TypeId) (s:ByteArray) (f:Array Value→Array Value):mapBlock (bytesWorld w e s) w.heap.size f=grow (w.drewN 1) #[onCells f (.cells (bytesCells w e s) e ((bytesCells w e s).size,(bytesCells w e s).size+1))]:=by
 have hn:=bytesWorld_at_new w e s
 have hz:=bytesWorld_size w e s
 have ho:=bytesWorld_at_old w e s
 have hh:(bytesWorld w e s).heap.modify w.heap.size (onCells f)=w.heap ++ #[onCells f (.cells (bytesCells w e s) e ((bytesCells w e s).size,(bytesCells w e s).size+1))]:=by
  apply Array.ext_getElem?
  intro i
  rw[Array.getElem?_modify]
  by_cases hi:w.heap.size=i
  ·subst hi
   rw[if_pos rfl,hn];simp
  ·rw[if_neg hi]
   by_cases h2:i<w.heap.size
   ·rw[ho i h2,Array.getElem?_append_left h2]
   ·rw[Array.getElem?_eq_none (by omega),Array.getElem?_eq_none (by simp;omega)]
 unfold mapBlock grow
 rw[hh]
 rfl
open Go.RowKit Go.Lib Go.Sort in
theorem markup_ok:fMarkup.ok Tryz.prog 281 :=
 Ra rfl rfl fun x hx w ow hB=>(markup_walk x.1 hx w).mono fun e w' ⟨a,dk,hs,b⟩=>⟨a,1,_,b.trans (bytes_grow w 5 x.1 _)⟩
theorem k281_230:fMarkup.ok Tryz.prog 281 :=
 markup_ok
def YR:=Ab7.a k281_230
def runLine (b:SBuilder) (l:List SSheet) (x:SLine):SBuilder×ByteArray×ByteArray :=
 if x.op=1 then(b,markup x.text,⟨#[]⟩)
 else if x.op=2 then((if 1≤b.nodes.length∧b.nodes.length≤39∧isName x.text=true then⟨b.nodes++[⟨x.text,⟨#[]⟩,0,[]⟩],b.open_⟩ else b),⟨#[]⟩,⟨#[]⟩)
 else if x.op=3 then(b,⟨#[]⟩,⟨#[99,111,117,110,116,32]⟩++x.text++⟨#[32]⟩++FO (countName x.text b.nodes))
 else if x.op=4 then(b,⟨#[]⟩,⟨#[108,111,111,107,32]⟩++x.text++⟨#[32]⟩++FO (colorOf l x.text))
 else if x.op=5 then(b,⟨#[]⟩,⟨#[115,97,121,32]⟩++x.text)
 else(b,⟨#[]⟩,⟨#[]⟩)
def okSheets (l:List SSheet):Prop:=∀ s,s∈l→∀ r,r∈s.rules→-9223372036854775808≤r.color∧r.color≤9223372036854775807
theorem colR_in {n:ByteArray} {rs:List SRule} {z:Int} (hz : -9223372036854775808≤z∧z≤9223372036854775807) (h:∀ r,r∈rs→-9223372036854775808≤r.color∧r.color≤9223372036854775807):∀ m,m≤rs.length→-9223372036854775808≤colR n rs z m∧colR n rs z m≤9223372036854775807
 | 0,_=>hz
 | m+1,hm=>by
  rw[colR]
  split
  ·exact h _ (getD_in (by omega))
  ·exact colR_in hz h m (by omega)
theorem colS_in {n:ByteArray} {l:List SSheet} (h:okSheets l):∀ m,m≤l.length→-9223372036854775808≤colS n l m∧colS n l m≤9223372036854775807
 | 0,_=>by rw[colS];decide
 | m+1,hm=>by
  rw[colS]
  exact colR_in (colS_in h m (by omega)) (h _ (getD_in (by omega))) _ (Nat.le_refl _)
theorem colorOf_in {l:List SSheet} (h:okSheets l) (n:ByteArray) : -9223372036854775808≤colorOf l n∧colorOf l n≤9223372036854775807:=colS_in h _ (Nat.le_refl _)
theorem countName_in (n:ByteArray) (l:List SNode):0≤countName n l∧countName n l≤l.length:=by unfold countName;have:=countIf_le (fun x:SNode=>decide (x.name=n)) l;omega
def fRunLine:Fct:=⟨[.v (.el .builder),.v (.sl .sheet),.v (.el .line)],[.el .builder,.el .str,.el .str],fun(x_:SBuilder×(List SSheet)×SLine×Unit)=>szBuilder x_.1≤100000000000∧szL Cq x_.2.1≤100000000000∧x_.2.2.1.text.size≤1000000000∧okSheets x_.2.1,fun(x_:SBuilder×(List SSheet)×SLine×Unit)=>((runLine x_.1 x_.2.1 x_.2.2.1).1,(runLine x_.1 x_.2.1 x_.2.2.1).2.1,(runLine x_.1 x_.2.1 x_.2.2.1).2.2,())⟩
theorem k242_231:fRunLine.ok Tryz.prog 242:=Fct.o (KP [1,3,5,6,7,8,9,13] [14,20,30,40,53,66]) YR.2 Tryz.func242 (by
 rintro⟨(b:SBuilder),(l:List SSheet),(x:SLine),_⟩ hp
 refine ho (let q4_:=(⟨#[115,97,121,32]⟩:ByteArray);let q3_:=(⟨#[]⟩:ByteArray);let q2_:=(⟨#[32]⟩:ByteArray);let q1_:=(⟨#[108,111,111,107,32]⟩:ByteArray);let q0_:=(⟨#[99,111,117,110,116,32]⟩:ByteArray);.cl fCopyBuilder (b,()) fun z2=>let q5_:Out:=.lf fRunLine (z2.1,q3_,q3_,());.br (x.op==1) (.cl fMarkup (x.text,()) fun z3=>.lf fRunLine (z2.1,z3.1,q3_,())) (.br (x.op==2) (.cl fInRange ((↑b.nodes.length:Int),(1:Int),(39:Int),()) fun z4=>.br (z4.1) (.cl fIsName (x.text,()) fun z5=>.br (z5.1) (.ob (Bi (z2.1.nodes.length+[(⟨x.text,q3_,(0:Int),[]⟩:SNode)].length) 64)<|.lf fRunLine (⟨z2.1.nodes++[(⟨x.text,q3_,(0:Int),[]⟩:SNode)],z2.1.open_⟩,q3_,q3_,())) q5_) q5_) (.br (x.op==3) (.lp (Bool) (True) (fun x=>True) fun y10=>.br (y10) (.lp (Bool) (True) (fun x=>True) fun y12=>.br (y12) (.lp (Bool) (True) (fun x=>True) fun y14=>.br (y14) (.lp (Bool) (True) (fun x=>True) fun y16=>.br (y16) (.lp (Bool) (True) (fun x=>True) fun y18=>.br (y18) (.ob (sameSize q0_ x.text)<|.ob (sameSize (q0_++x.text) q2_)<|.cl fCountName (b,x.text,()) fun(z6:Int×PUnit)=>.cl fFormatInt (z6.1,()) fun z7=>.ob (sameSize (q0_++x.text++q2_) z7.1)<|.lf fRunLine (z2.1,q3_,q0_++x.text++q2_++z7.1,())) (.ob (sameSize q0_ x.text)<|.ob (sameSize (q0_++x.text) q2_)<|.cl fCountName (b,x.text,()) fun(z8:Int×PUnit)=>.cl fFormatInt (z8.1,()) fun z9=>.ob (sameSize (q0_++x.text++q2_) z9.1)<|.lf fRunLine (z2.1,q3_,q0_++x.text++q2_++z9.1,()))) (.ob (sameSize q0_ x.text)<|.cl fCountName (b,x.text,()) fun(z10:Int×PUnit)=>.cl fFormatInt (z10.1,()) fun z11=>.ob (sameSize (q0_++x.text) q2_)<|.ob (sameSize (q0_++x.text++q2_) z11.1)<|.lf fRunLine (z2.1,q3_,q0_++x.text++q2_++z11.1,()))) (.cl fCountName (b,x.text,()) fun(z12:Int×PUnit)=>.cl fFormatInt (z12.1,()) fun z13=>.ob (sameSize q0_ x.text)<|.ob (sameSize (q0_++x.text) q2_)<|.ob (sameSize (q0_++x.text++q2_) z13.1)<|.lf fRunLine (z2.1,q3_,q0_++x.text++q2_++z13.1,()))) (.cl fCountName (b,x.text,()) fun(z14:Int×PUnit)=>.cl fFormatInt (z14.1,()) fun z15=>.ob (sameSize q0_ x.text)<|.ob (sameSize (q0_++x.text) q2_)<|.ob (sameSize (q0_++x.text++q2_) z15.1)<|.lf fRunLine (z2.1,q3_,q0_++x.text++q2_++z15.1,()))) (.cl fCountName (b,x.text,()) fun(z16:Int×PUnit)=>.cl fFormatInt (z16.1,()) fun z17=>.ob (sameSize q0_ x.text)<|.ob (sameSize (q0_++x.text) q2_)<|.ob (sameSize (q0_++x.text++q2_) z17.1)<|.lf fRunLine (z2.1,q3_,q0_++x.text++q2_++z17.1,()))) (.br (x.op==4) (.lp (Bool) (True) (fun x=>True) fun y51=>.br (y51) (.lp (Bool) (True) (fun x=>True) fun y53=>.br (y53) (.lp (Bool) (True) (fun x=>True) fun y55=>.br (y55) (.lp (Bool) (True) (fun x=>True) fun y57=>.br (y57) (.lp (Bool) (True) (fun x=>True) fun y59=>.br (y59) (.ob (sameSize q1_ x.text)<|.ob (sameSize (q1_++x.text) q2_)<|.cl fColorOf (l,x.text,()) fun(z18:Int×PUnit)=>.cl fFormatInt (z18.1,()) fun z19=>.ob (sameSize (q1_++x.text++q2_) z19.1)<|.lf fRunLine (z2.1,q3_,q1_++x.text++q2_++z19.1,())) (.ob (sameSize q1_ x.text)<|.ob (sameSize (q1_++x.text) q2_)<|.cl fColorOf (l,x.text,()) fun(z20:Int×PUnit)=>.cl fFormatInt (z20.1,()) fun z21=>.ob (sameSize (q1_++x.text++q2_) z21.1)<|.lf fRunLine (z2.1,q3_,q1_++x.text++q2_++z21.1,()))) (.ob (sameSize q1_ x.text)<|.cl fColorOf (l,x.text,()) fun(z22:Int×PUnit)=>.cl fFormatInt (z22.1,()) fun z23=>.ob (sameSize (q1_++x.text) q2_)<|.ob (sameSize (q1_++x.text++q2_) z23.1)<|.lf fRunLine (z2.1,q3_,q1_++x.text++q2_++z23.1,()))) (.cl fColorOf (l,x.text,()) fun(z24:Int×PUnit)=>.cl fFormatInt (z24.1,()) fun z25=>.ob (sameSize q1_ x.text)<|.ob (sameSize (q1_++x.text) q2_)<|.ob (sameSize (q1_++x.text++q2_) z25.1)<|.lf fRunLine (z2.1,q3_,q1_++x.text++q2_++z25.1,()))) (.cl fColorOf (l,x.text,()) fun(z26:Int×PUnit)=>.cl fFormatInt (z26.1,()) fun z27=>.ob (sameSize q1_ x.text)<|.ob (sameSize (q1_++x.text) q2_)<|.ob (sameSize (q1_++x.text++q2_) z27.1)<|.lf fRunLine (z2.1,q3_,q1_++x.text++q2_++z27.1,()))) (.cl fColorOf (l,x.text,()) fun(z28:Int×PUnit)=>.cl fFormatInt (z28.1,()) fun z29=>.ob (sameSize q1_ x.text)<|.ob (sameSize (q1_++x.text) q2_)<|.ob (sameSize (q1_++x.text++q2_) z29.1)<|.lf fRunLine (z2.1,q3_,q1_++x.text++q2_++z29.1,()))) (.br (x.op==5) (.lp (Bool) (True) (fun x=>True) fun y92=>.br (y92) (.lp (Bool) (True) (fun x=>True) fun y94=>.br (y94) (.lp (Bool) (True) (fun x=>True) fun y96=>.br (y96) (.ob (sameSize q4_ x.text)<|.lf fRunLine (z2.1,q3_,q4_++x.text,())) (.ob (sameSize q4_ x.text)<|.lf fRunLine (z2.1,q3_,q4_++x.text,()))) (.ob (sameSize q4_ x.text)<|.lf fRunLine (z2.1,q3_,q4_++x.text,()))) (.ob (sameSize q4_ x.text)<|.lf fRunLine (z2.1,q3_,q4_++x.text,()))) q5_))))) ?_
 refine Ae ?_ fun o1=>(Ab (fun h2=>Ae ?_ fun o3=>(lfY ?_)) (fun h2=>Ab (fun h4=>Ae trivial fun _=>(Ab (fun h5=>Ae ?_ fun o6=>(Ab (fun h7=>Aa ?_ fun o8=>lfY ?_) (fun h7=>lfY ?_))) (fun h5=>lfY ?_))) (fun h4=>Ab (fun h9=>FN trivial fun y10 i10=>Ab (fun h11=>FN trivial fun y12 i12=>Ab (fun h13=>FN trivial fun y14 i14=>Ab (fun h15=>FN trivial fun y16 i16=>Ab (fun h17=>FN trivial fun y18 i18=>Ab (fun h19=>Aa ?_ fun o20=>Aa ?_ fun o21=>Ae ?_ fun o22=>(Ae ?_ fun o23=>(Aa ?_ fun o24=>lfY ?_))) (fun h19=>Aa ?_ fun o25=>Aa ?_ fun o26=>Ae ?_ fun o27=>(Ae ?_ fun o28=>(Aa ?_ fun o29=>lfY ?_)))) (fun h17=>Aa ?_ fun o30=>Ae ?_ fun o31=>(Ae ?_ fun o32=>(Aa ?_ fun o33=>Aa ?_ fun o34=>lfY ?_)))) (fun h15=>Ae ?_ fun o35=>(Ae ?_ fun o36=>(Aa ?_ fun o37=>Aa ?_ fun o38=>Aa ?_ fun o39=>lfY ?_)))) (fun h13=>Ae ?_ fun o40=>(Ae ?_ fun o41=>(Aa ?_ fun o42=>Aa ?_ fun o43=>Aa ?_ fun o44=>lfY ?_)))) (fun h11=>Ae ?_ fun o45=>(Ae ?_ fun o46=>(Aa ?_ fun o47=>Aa ?_ fun o48=>Aa ?_ fun o49=>lfY ?_)))) (fun h9=>Ab (fun h50=>FN trivial fun y51 i51=>Ab (fun h52=>FN trivial fun y53 i53=>Ab (fun h54=>FN trivial fun y55 i55=>Ab (fun h56=>FN trivial fun y57 i57=>Ab (fun h58=>FN trivial fun y59 i59=>Ab (fun h60=>Aa ?_ fun o61=>Aa ?_ fun o62=>Ae ?_ fun o63=>(Ae ?_ fun o64=>(Aa ?_ fun o65=>lfY ?_))) (fun h60=>Aa ?_ fun o66=>Aa ?_ fun o67=>Ae ?_ fun o68=>(Ae ?_ fun o69=>(Aa ?_ fun o70=>lfY ?_)))) (fun h58=>Aa ?_ fun o71=>Ae ?_ fun o72=>(Ae ?_ fun o73=>(Aa ?_ fun o74=>Aa ?_ fun o75=>lfY ?_)))) (fun h56=>Ae ?_ fun o76=>(Ae ?_ fun o77=>(Aa ?_ fun o78=>Aa ?_ fun o79=>Aa ?_ fun o80=>lfY ?_)))) (fun h54=>Ae ?_ fun o81=>(Ae ?_ fun o82=>(Aa ?_ fun o83=>Aa ?_ fun o84=>Aa ?_ fun o85=>lfY ?_)))) (fun h52=>Ae ?_ fun o86=>(Ae ?_ fun o87=>(Aa ?_ fun o88=>Aa ?_ fun o89=>Aa ?_ fun o90=>lfY ?_)))) (fun h50=>Ab (fun h91=>FN trivial fun y92 i92=>Ab (fun h93=>FN trivial fun y94 i94=>Ab (fun h95=>FN trivial fun y96 i96=>Ab (fun h97=>Aa ?_ fun o98=>lfY ?_) (fun h97=>Aa ?_ fun o99=>lfY ?_)) (fun h95=>Aa ?_ fun o100=>lfY ?_)) (fun h93=>Aa ?_ fun o101=>lfY ?_)) (fun h91=>lfY ?_))))))
 all_goals
  have hl:=Ad szNode b.nodes
  have hb:szL szNode b.nodes≤szBuilder b:=by simp only[szBuilder];omega
  have hc:=countName_in x.text b.nodes
  have hx:=colorOf_in hp.2.2.2 x.text
  have hf:=fun(n:Int) (h0 : -9223372036854775808≤n) (h1:n≤9223372036854775807)=>F3 h0 h1
  try simp only[AH] at *
  try simp only[fColorOf,fCopyBuilder,fCountName,fFormatInt,fInRange,fIsName,fMarkup,fRunLine,std,Nat.reduceAdd,runLine,fCopyBuilder,fMarkup,fIsName,fInRange,inRange,fCountName,fColorOf,fFormatInt,sameSize,ByteArray.size_append] at *
  try simp(disch:=omega) only[wrapId',toNat1] at *
  try simp(disch:=omega) only[if_pos,if_neg]
 all_goals first|trivial|omega|grind[wrapId',toNat1,drop_cons,drop_end,good_len,maxLen,runLine,fCopyBuilder,fMarkup,fIsName,fInRange,inRange,fCountName,fColorOf,fFormatInt,sameSize,ByteArray.size_append])
def Zt:=YR.a k242_231
def runLines (l:List SSheet):List SLine→SBuilder→ByteArray→List ByteArray→SBuilder×ByteArray×List ByteArray
 | [],b,w,g=>(b,w,g)
 | x::r,b,w,g=>runLines l r (runLine b l x).1 (w++(runLine b l x).2.1) (if(runLine b l x).2.2=⟨#[]⟩ then g else g++[(runLine b l x).2.2])
theorem runLines_at {l:List SSheet} {r:List SLine} {i:Nat} {b:SBuilder} {w:ByteArray} {g:List ByteArray} (h:i<r.length):runLines l (r.drop i) b w g=runLines l (r.drop (i+1)) (runLine b l (r.getD i default)).1 (w++(runLine b l (r.getD i default)).2.1) (if(runLine b l (r.getD i default)).2.2=⟨#[]⟩ then g else g++[(runLine b l (r.getD i default)).2.2]):=by rw[drop_cons h];rfl
theorem runLines_end {l:List SSheet} {r:List SLine} {i:Nat} {b:SBuilder} {w:ByteArray} {g:List ByteArray} (h:r.length≤i):runLines l (r.drop i) b w g=(b,w,g):=by rw[List.drop_of_length_le h];rfl
theorem runLine_sz (b:SBuilder) (l:List SSheet) (x:SLine):szBuilder (runLine b l x).1≤szBuilder b+x.text.size+1∧(runLine b l x).2.1.size≤x.text.size:=by
 have h0:ByteArray.size ⟨#[]⟩=0:=rfl
 have h1:(markup x.text).size=x.text.size:=by unfold markup;rw[DQ,List.length_map,Bg]
 have h3:szL AK []=0:=rfl
 unfold runLine
 repeat' split
 all_goals simp only[h0,h1,szBuilder,szL_snoc,szNode,h3]
 all_goals omega
def runScript (b:SBuilder) (l:List SSheet) (r:List SLine):SBuilder×ByteArray×List ByteArray:=runLines l r b ⟨#[]⟩ []
def Bl:Fct:=⟨[.v (.el .builder),.v (.sl .sheet),.v (.sl .line)],[.el .builder,.el .str,.sl .str],fun(x_:SBuilder×(List SSheet)×(List SLine)×Unit)=>szBuilder x_.1≤50000000000∧szL Cq x_.2.1≤100000000000∧szL B2 x_.2.2.1≤1000000000∧okSheets x_.2.1,fun(x_:SBuilder×(List SSheet)×(List SLine)×Unit)=>((runScript x_.1 x_.2.1 x_.2.2.1).1,(runScript x_.1 x_.2.1 x_.2.2.1).2.1,(runScript x_.1 x_.2.1 x_.2.2.1).2.2,())⟩
abbrev BD (b:SBuilder) (l:(List SSheet)) (r:(List SLine)):LInv:=⟨[⟨.b,9,true,.el .builder⟩,⟨.s,10,true,.el .str⟩,⟨.s,11,true,.sl .str⟩,⟨.s,12,true,.el .int⟩,⟨.b,6,true,.el .builder⟩],fun(z_:SBuilder×ByteArray×(List ByteArray)×Int×SBuilder×Unit) (x_:SBuilder×ByteArray×(List ByteArray)×Int×SBuilder×Unit)=>(0≤x_.2.2.2.1∧x_.2.2.2.1≤r.length∧szBuilder x_.1+szL B2 (r.drop x_.2.2.2.1.toNat)≤szBuilder b+szL B2 r∧x_.2.1.size+szL B2 (r.drop x_.2.2.2.1.toNat)≤szL B2 r∧x_.2.2.1.length≤x_.2.2.2.1∧runLines l (r.drop x_.2.2.2.1.toNat) x_.1 x_.2.1 x_.2.2.1=runScript b l r)∧x_.2.2.2.2.1=z_.2.2.2.2.1,fun(x_:SBuilder×ByteArray×(List ByteArray)×Int×SBuilder×Unit)=>r.length-x_.2.2.2.1.toNat⟩
theorem k200_232:Bl.ok Tryz.prog 200:=Fct.p (KP [1,2,3,6,7,8,9,10,11,12,13,14,15] [22,41]) (fun⟨b,l,r,_⟩=>lv [(5,BD b l r)]) Zt.2 Tryz.func200 (by
 rintro⟨(b:SBuilder),(l:List SSheet),(r:List SLine),_⟩ hp
 refine ho (.cl fCopyBuilder (b,()) fun z2=>lpx (BD b l r) (z2.1,((⟨#[]⟩:ByteArray),([],((0:Int),(default,()))))) fun(y2:SBuilder×ByteArray×List ByteArray×Int×SBuilder×PUnit) bk2=>.br (decide (y2.2.2.2.1<(↑r.length:Int))) (.ob (inB y2.2.2.2.1 r.length)<|.cl fRunLine (y2.1,l,r.getD y2.2.2.2.1.toNat default,()) fun z3=>.ob (sameSize y2.2.1 z3.2.1)<|.br (!z3.2.2.1.toList==(⟨#[]⟩:ByteArray).toList) (.ob (True)<|.ob (Bi (y2.2.2.1.length+[z3.2.2.1].length) 16)<|.ob (l=l)<|.ob (r=r)<|.ob (Value.string (⟨#[]⟩:ByteArray)=Value.string (⟨#[]⟩:ByteArray))<|.ob (bk2 (z3.1,(y2.2.1++z3.2.1,(y2.2.2.1++[z3.2.2.1],(w1 y2.2.2.2.1,(y2.2.2.2.2.1,()))))))<|.ok) (.ob (l=l)<|.ob (r=r)<|.ob (Value.string (⟨#[]⟩:ByteArray)=Value.string (⟨#[]⟩:ByteArray))<|.ob (bk2 (z3.1,(y2.2.1++z3.2.1,(y2.2.2.1,(w1 y2.2.2.2.1,(y2.2.2.2.2.1,()))))))<|.ok)) (.lf Bl (y2.1,y2.2.1,y2.2.2.1,()))) ?_
 refine Ae ?_ fun o1=>(AG ?_ fun(y2:SBuilder×ByteArray×List ByteArray×Int×SBuilder×PUnit) i2=>Ab (fun h3=>Aa ?_ fun o4=>Ae ?_ fun o5=>(Aa ?_ fun o6=>Ab (fun h7=>Aa trivial fun _=>Aa ?_ fun o8=>Aa rfl fun _=>Aa rfl fun _=>Aa rfl fun _=>Aa ?_ fun o9=>trivial) (fun h7=>Aa rfl fun _=>Aa rfl fun _=>Aa rfl fun _=>Aa ?_ fun o10=>trivial))) (fun h3=>lfY ?_))
 all_goals
  have hr:=Ad B2 r
  have hx:∀ i,i<r.length→szL B2 (r.drop i)=(r.getD i default).text.size+1+szL B2 (r.drop (i+1)):=fun i h=>szL_at B2 h
  have hs:=fun bb x=>runLine_sz bb l x
  have hrs:runLines l r b ⟨#[]⟩ []=runScript b l r:=rfl
  try simp only[AH] at *
  try simp only[BD,fCopyBuilder,fRunLine,Bl,std,Nat.reduceAdd,fCopyBuilder,fRunLine,runLines_at,runLines_end,sameSize,ByteArray.size_append] at *
  try simp(disch:=omega) only[wrapId',toNat1] at *
  try simp(disch:=omega) only[if_pos,if_neg]
 all_goals first|trivial|omega|grind[wrapId',toNat1,drop_cons,drop_end,good_len,maxLen,fCopyBuilder,fRunLine,runLines_at,runLines_end,sameSize,ByteArray.size_append])
def Y4:=Zt.a k200_232
def decV:List UInt8→Int→Int
 | [],n=>n
 | x::l,n=>decV l (10*n+((x.toNat:Int)-48))
def digit (x:UInt8):Bool:=decide (48≤(x.toNat:Int)∧(x.toNat:Int)≤57)
def parseInt (s:ByteArray):Int×Bool:=if 1≤s.size∧s.size≤13∧(toL s).all digit=true∧decV (toL s) 0≤1000000000000∧FO (decV (toL s) 0)=s then(decV (toL s) 0,true) else(0,false)
def BW:Fct:=⟨[.v (.el .str)],[.el .int,.el .bool],fun(x_:ByteArray×Unit)=>x_.1.size≤1000000000000,fun(x_:ByteArray×Unit)=>((parseInt x_.1).1,(parseInt x_.1).2,())⟩
theorem toL_take {s:ByteArray} {i:Nat} (h:i<s.size):(toL s).take (i+1)=(toL s).take i++[s.data.getD i 0]:=by
 have h2:i<s.data.size:=h
 have e:s.data.getD i 0=s.data[i]:=by unfold Array.getD;rw[dif_pos h2];rfl
 rw[List.take_succ_eq_append_getElem (by rw[Bg];exact h),e]
 rfl
theorem decV_snoc:∀ (l:List UInt8) (x:UInt8) (n:Int),decV (l++[x]) n=10*decV l n+((x.toNat:Int)-48)
 | [],x,n=>rfl
 | y::l,x,n=>by rw[List.cons_append,decV,decV,decV_snoc l]
theorem pow13:∀ i:Nat,i≤13→(10:Int) ^ i≤10000000000000:=fun i h=>(by decide:∀ i:Fin 14,(10:Int) ^ i.val≤10000000000000) ⟨i,by omega⟩
theorem digits_no {s:ByteArray} {i:Nat} (h:i<s.size) (hd:digit (s.data.getD i 0)=false):(toL s).all digit=false:=by
 rw[List.all_eq_false]
 refine⟨s.data.getD i 0,?_,by rw[hd];decide⟩
 have:=List.mem_of_mem_take (l:=toL s) (i:=i+1) (a:=s.data.getD i 0) (by rw[toL_take h];simp)
 exact this
theorem parseInt_no {s:ByteArray} (h:¬ (1≤s.size∧s.size≤13∧(toL s).all digit=true∧decV (toL s) 0≤1000000000000∧FO (decV (toL s) 0)=s)):0=(parseInt s).1∧false=(parseInt s).2:=by
 unfold parseInt;rw[if_neg h];exact⟨rfl,rfl⟩
theorem parseInt_yes {s:ByteArray} (h:1≤s.size∧s.size≤13∧(toL s).all digit=true∧decV (toL s) 0≤1000000000000∧FO (decV (toL s) 0)=s):decV (toL s) 0=(parseInt s).1∧true=(parseInt s).2:=by
 unfold parseInt;rw[if_pos h];exact⟨rfl,rfl⟩
theorem u8_in (x:UInt8):IntKind.i64.wrap (x.toNat:Int)=x.toNat∧(x.toNat:Int)≤255:=by
 have:=x.toNat_lt
 exact⟨wrapId' (by omega) (by omega),by omega⟩
theorem digit_val {x:UInt8} (h:48≤(x.toNat:Int)):IntKind.i64.wrap (IntKind.u8.wrap ((x.toNat:Int)-48))=(x.toNat:Int)-48:=by
 have:=x.toNat_lt
 have e:IntKind.u8.wrap ((x.toNat:Int)-48)=(x.toNat:Int)-48:=by
  show((x.toNat:Int)-48) % 256=_
  omega
 rw[e];exact wrapId' (by omega) (by omega)
abbrev BQ (s:ByteArray):LInv:=⟨[⟨.s,4,true,.el .int⟩,⟨.s,5,true,.el .int⟩],fun _ (x_:Int×Int×Unit)=>0≤x_.2.1∧x_.2.1≤s.size∧0≤x_.1∧x_.1<10 ^ x_.2.1.toNat∧((toL s).take x_.2.1.toNat).all digit=true∧x_.1=decV ((toL s).take x_.2.1.toNat) 0,fun(x_:Int×Int×Unit)=>s.size-x_.2.1.toNat⟩
theorem k285_233:BW.ok Tryz.prog 285:=Fct.p (KP [0,2,3,4,5] [9,13,21,37]) (fun⟨s,_⟩=>lv [(5,BQ s)]) Y4.2 Tryz.func285 (by
 rintro⟨(s:ByteArray),_⟩ hp
 refine ho (.cl fInRange ((↑s.size:Int),(1:Int),(13:Int),()) fun z2=>.br (!z2.1) (.lf BW ((0:Int),false,())) (lpx (BQ s) ((0:Int),((0:Int),())) fun(y2:Int×Int×PUnit) bk2=>.br (decide (y2.2.1<(↑s.size:Int))) (.ob (0≤y2.2.1∧y2.2.1<(↑s.size:Int))<|.cl fInRange (wr (↑(s.data.getD y2.2.1.toNat 0).toNat:Int),(48:Int),(57:Int),()) fun z3=>.br (!z3.1) (.lf BW ((0:Int),false,())) (.ob (0≤y2.2.1∧y2.2.1<(↑s.size:Int))<|.ob (Value.string s=Value.string s)<|.ob (bk2 (wr (wr ((10:Int)*y2.1)+wr (IntKind.u8.wrap ((↑(s.data.getD y2.2.1.toNat 0).toNat:Int)-(48:Int)))),(w1 y2.2.1,())))<|.ok)) (.br (decide (y2.1>1000000000000)) (.lf BW ((0:Int),false,())) (.cl fFormatInt (y2.1,()) fun z4=>.br (!z4.1.toList==s.toList) (.lf BW ((0:Int),false,())) (.lf BW (y2.1,true,())))))) ?_
 refine Ae trivial fun _=>(Ab (fun h1=>lfY ?_) (fun h1=>AG ?_ fun(y2:Int×Int×PUnit) i2=>Ab (fun h3=>Aa ?_ fun o4=>Ae trivial fun _=>(Ab (fun h5=>lfY ?_) (fun h5=>Aa ?_ fun o6=>Aa rfl fun _=>Aa ?_ fun o7=>trivial))) (fun h3=>Ab (fun h8=>lfY ?_) (fun h8=>Ae ?_ fun o9=>(Ab (fun h10=>lfY ?_) (fun h10=>lfY ?_))))))
 all_goals
  try simp only[AH] at *
  try simp only[BQ,fFormatInt,fInRange,BW,std,Nat.reduceAdd,fFormatInt,fInRange,inRange,u8_in] at *
  try simp only[Bool.and_eq_true,Bool.and_eq_false_iff,decide_eq_true_eq,decide_eq_false_iff_not] at *
 all_goals first|(refine parseInt_no ?_;omega)|exact⟨by omega,by omega,by omega,by decide,rfl,rfl⟩|(obtain⟨a1,a2,a3,a4,a5,a6⟩:=i2;have hq:=pow13 y2.2.1.toNat (by omega))
 all_goals first|omega|skip
 all_goals try rw[List.take_of_length_le (l:=toL s) (i:=y2.2.1.toNat) (by rw[Bg];omega)] at a5 a6
 all_goals first|(rw[←a6];exact⟨by omega,by omega⟩)|(refine parseInt_no ?_;rintro⟨q1,q2,q3,q4,q5⟩;rw[←a6] at *;first|omega|contradiction)|(rw[a6];exact parseInt_yes ⟨by omega,by omega,a5,by omega,by rw[←a6];assumption⟩)|skip
 all_goals first|(refine parseInt_no ?_;rintro⟨q1,q2,q3,q4,q5⟩;rw[digits_no (i:=y2.2.1.toNat) (by omega) (by unfold digit;simp only[decide_eq_false_iff_not];omega)] at q3;cases q3)|skip
 all_goals rw[digit_val (by omega),An (n:=10*y2.1) (by omega),An (n:=y2.2.1+1) (by omega),An (by omega),show(y2.2.1+1).toNat=y2.2.1.toNat+1 by omega,toL_take (by omega),List.all_append,decV_snoc,Int.pow_succ]
 all_goals refine⟨⟨by omega,by omega,by omega,by omega,?_,by rw[←a6]⟩,by omega⟩
 all_goals (rw[a5];simp only[List.all_cons,List.all_nil,digit,Bool.and_true,Bool.true_and,decide_eq_true_eq];omega))
def Abd:=Y4.a k285_233
theorem cutF_no {b:UInt8}:∀ {l:List UInt8},Dr b l=none→b∉l
 | [],_,h=>by cases h
 | x::l,hc,h=>by
  rw[Dr] at hc
  split at hc
  ·cases hc
  ·rename_i hx
   rcases List.mem_cons.1 h with e|h
   ·exact hx e.symm
   ·exact cutF_no (Option.map_eq_none_iff.1 hc) h
def ruleOf (w:ByteArray):Option SRule:=match Dr 58 (toL w) with
 | none=>none
 | some r=>if isName (ofL r.1)=true∧(parseInt (ofL r.2)).2=true∧1≤(parseInt (ofL r.2)).1∧(parseInt (ofL r.2)).1≤999 then some ⟨ofL r.1,(parseInt (ofL r.2)).1⟩ else none
def parseRules:List ByteArray→List SRule→List SRule
 | [],acc=>acc
 | w::l,acc=>parseRules l (if acc.length<8 then acc++(ruleOf w).toList else acc)
theorem parseRules_at {l:List ByteArray} {i:Nat} {acc:List SRule} (h:i<l.length):parseRules (l.drop i) acc=parseRules (l.drop (i+1)) (if acc.length<8 then acc++(ruleOf (l.getD i default)).toList else acc):=by rw[drop_cons h];rfl
theorem parseRules_end {l:List ByteArray} {i:Nat} {acc:List SRule} (h:l.length≤i):parseRules (l.drop i) acc=acc:=by rw[List.drop_of_length_le h];rfl
theorem parseRules_full:∀ {l:List ByteArray} {acc:List SRule},¬ acc.length<8→parseRules l acc=acc
 | [],_,_=>rfl
 | w::l,acc,h=>by rw[parseRules,if_neg h];exact parseRules_full h
theorem rule_cut (w:ByteArray):ruleOf w=if(spl 58 w).length=2∧isName ((spl 58 w).getD 0 default)=true∧(parseInt ((spl 58 w).getD 1 default)).2=true∧1≤(parseInt ((spl 58 w).getD 1 default)).1∧(parseInt ((spl 58 w).getD 1 default)).1≤999 then some ⟨(spl 58 w).getD 0 default,(parseInt ((spl 58 w).getD 1 default)).1⟩ else none:=by
 unfold ruleOf
 rw[spl_cut]
 cases h:Dr 58 (toL w) with
 | none=>simp
 | some r=>
  obtain⟨p,q⟩:=r
  simp only[List.length_cons]
  by_cases hq:(58:UInt8)∈q
  ·have hd:(parseInt (ofL q)).2=false:=by
    unfold parseInt
    rw[if_neg]
    rintro⟨q1,q2,q3,_⟩
    rw[GB,List.all_eq_true] at q3
    have:=q3 58 hq
    cases this
   have hl:(spl 58 (ofL q)).length≠1:=by
    intro hl
    rw[spl_cut,GB] at hl
    cases hc:Dr 58 q with
    | none=>exact cutF_no hc hq
    | some r2=>
     rw[hc] at hl
     have:=(DH 58 (ofL r2.2)).1
     simp only[List.length_cons] at hl;omega
   rw[if_neg (by rw[hd];simp),if_neg (by omega)]
  ·have hs:spl 58 (ofL q)=[ofL q]:=by
    rw[spl_cut,GB]
    cases hc:Dr 58 q with
    | none=>rfl
    | some r2=>exact absurd (cutF_mem (p:=r2.1) (q:=r2.2) hc) hq
   rw[hs]
   simp
def parseSheet (s:ByteArray):SSheet:=⟨parseRules (spl 59 s) []⟩
def fParseSheet:Fct:=⟨[.v (.el .str)],[.el .sheet],fun(x_:ByteArray×Unit)=>x_.1.size≤4200000000,fun(x_:ByteArray×Unit)=>(parseSheet x_.1,())⟩
abbrev Bq (s:ByteArray):LInv:=⟨[⟨.b,3,true,.el .sheet⟩,⟨.s,5,true,.el .int⟩,⟨.b,2,true,.el .sheet⟩,⟨.s,4,true,.sl .str⟩],fun(z_:SSheet×Int×SSheet×(List ByteArray)×Unit) (x_:SSheet×Int×SSheet×(List ByteArray)×Unit)=>((0≤x_.2.1∧x_.2.1≤(spl 59 s).length∧x_.1.rules.length≤8∧parseRules ((spl 59 s).drop x_.2.1.toNat) x_.1.rules=parseRules (spl 59 s) [])∧x_.2.2.1=z_.2.2.1)∧x_.2.2.2.1=z_.2.2.2.1,fun(x_:SSheet×Int×SSheet×(List ByteArray)×Unit)=>(spl 59 s).length-x_.2.1.toNat⟩
theorem k243_234:fParseSheet.ok Tryz.prog 243:=Fct.p (KP [0,2,3,4,5,6,7,8] [21,38,50]) (fun⟨s,_⟩=>lv [(4,Bq s)]) Abd.2 Tryz.func243 (by
 rintro⟨(s:ByteArray),_⟩ hp
 refine ho (.cl C1 (s,(59:Int),()) fun z2=>lpx (Bq s) (default,((0:Int),(default,(z2.1,())))) fun(y2:SSheet×Int×SSheet×List ByteArray×PUnit) bk2=>.br (decide (y2.2.1<(↑y2.2.2.2.1.length:Int))) (.br (decide ((↑y2.1.rules.length:Int)<8)) (.ob (inB y2.2.1 y2.2.2.2.1.length)<|.ob (y2.2.1.toNat<y2.2.2.2.1.length)<|.cl C1 (y2.2.2.2.1.getD y2.2.1.toNat default,(58:Int),()) fun z3=>.br ((↑z3.1.length:Int) != 2) (.ob (Value.string s=Value.string s)<|.ob (bk2 (y2.1,(w1 y2.2.1,(y2.2.2.1,(y2.2.2.2.1,())))))<|.ok) (.ob ((0:Int)≤(0:Int)∧(0:Int)<(↑z3.1.length:Int))<|.ob (0<z3.1.length)<|.cl fIsName (z3.1.getD 0 default,()) fun z4=>.br (!z4.1) (.ob (Value.string s=Value.string s)<|.ob (bk2 (y2.1,(w1 y2.2.1,(y2.2.2.1,(y2.2.2.2.1,())))))<|.ok) (.ob ((0:Int)≤(1:Int)∧(1:Int)<(↑z3.1.length:Int))<|.ob (1<z3.1.length)<|.cl BW (z3.1.getD 1 default,()) fun(z5:Int×Bool×PUnit)=>.br (z5.2.1) (.cl fInRange (z5.1,(1:Int),(999:Int),()) fun z6=>.br (z6.1) (.ob ((0:Int)≤(0:Int)∧(0:Int)<(↑z3.1.length:Int))<|.ob (0<z3.1.length)<|.ob (True)<|.ob (Bi (y2.1.rules.length+[(⟨z3.1.getD 0 default,z5.1⟩:SRule)].length) 24)<|.ob (Value.string s=Value.string s)<|.ob (bk2 ((⟨y2.1.rules++[(⟨z3.1.getD 0 default,z5.1⟩:SRule)]⟩:SSheet),(w1 y2.2.1,(y2.2.2.1,(y2.2.2.2.1,())))))<|.ok) (.ob (Value.string s=Value.string s)<|.ob (bk2 (y2.1,(w1 y2.2.1,(y2.2.2.1,(y2.2.2.2.1,())))))<|.ok)) (.ob (Value.string s=Value.string s)<|.ob (bk2 (y2.1,(w1 y2.2.1,(y2.2.2.1,(y2.2.2.2.1,())))))<|.ok)))) (.lf fParseSheet (y2.1,()))) (.lf fParseSheet (y2.1,()))) ?_
 refine Ae ?_ fun o1=>(AG ?_ fun(y2:SSheet×Int×SSheet×List ByteArray×PUnit) i2=>Ab (fun h3=>Ab (fun h4=>Aa ?_ fun o5=>Aa ?_ fun o6=>Ae ?_ fun o7=>(Ab (fun h8=>Aa rfl fun _=>Aa ?_ fun o9=>trivial) (fun h8=>Aa ?_ fun o10=>Aa ?_ fun o11=>Ae ?_ fun o12=>(Ab (fun h13=>Aa rfl fun _=>Aa ?_ fun o14=>trivial) (fun h13=>Aa ?_ fun o15=>Aa ?_ fun o16=>Ae ?_ fun o17=>(Ab (fun h18=>Ae trivial fun _=>(Ab (fun h19=>Aa ?_ fun o20=>Aa ?_ fun o21=>Aa trivial fun _=>Aa ?_ fun o22=>Aa rfl fun _=>Aa ?_ fun o23=>trivial) (fun h19=>Aa rfl fun _=>Aa ?_ fun o24=>trivial))) (fun h18=>Aa rfl fun _=>Aa ?_ fun o25=>trivial))))))) (fun h4=>lfY ?_)) (fun h3=>lfY ?_))
 all_goals
  have hk:=DH 59 s
  have hm:∀ i,i<(spl 59 s).length→((spl 59 s).getD i default).size≤s.size:=fun i h=>FM (getD_in h)
  have hp1:s.size≤4200000000:=hp
  try simp only[AH] at *
  try simp only[Bq,fInRange,fIsName,BW,fParseSheet,C1,std,Nat.reduceAdd,C1,fIsName,BW,fInRange,inRange,show UInt8.ofNat (Int.toNat 59)=59 from rfl,show UInt8.ofNat (Int.toNat 58)=58 from rfl] at *
 all_goals first|trivial|omega|exact⟨by omega,by decide,by decide⟩|exact⟨by omega,by omega,by decide,rfl⟩|(obtain⟨⟨⟨a1,a2,a3,a4⟩,a5⟩,a6⟩:=i2;simp only[a6,Bool.and_eq_true,Bool.and_eq_false_iff,decide_eq_true_eq,decide_eq_false_iff_not] at *)
 all_goals
  try have hw:=hm y2.2.1.toNat (by omega)
  try have hw0:=spl_get 58 ((spl 59 s).getD y2.2.1.toNat default) 0
  try have hw1:=spl_get 58 ((spl 59 s).getD y2.2.1.toNat default) 1
 all_goals first|trivial|omega|exact⟨by omega,by decide,by decide⟩|exact⟨by omega,by omega⟩|skip
 all_goals first|(rw[parseRules_end (by omega)] at a4;show y2.1=parseSheet s;unfold parseSheet;rw[←a4])|(rw[parseRules_full (by omega)] at a4;show y2.1=parseSheet s;unfold parseSheet;rw[←a4])|skip
 all_goals have e:=parseRules_at (l:=spl 59 s) (i:=y2.2.1.toNat) (acc:=y2.1.rules) (by omega)
 all_goals rw[a4,if_pos (by omega),rule_cut] at e
 all_goals rw[An (by omega),show(y2.2.1+1).toNat=y2.2.1.toNat+1 by omega]
 all_goals first|(rw[if_neg (by rintro⟨q1,q2,q3,q4,q5⟩;first|omega|exact absurd (q2.symm.trans (show isName _=false by assumption)) (by decide)|exact absurd (q3.symm.trans (show Prod.snd _=false by assumption)) (by decide)),Option.toList_none,List.append_nil] at e;exact⟨⟨⟨⟨by omega,by omega,by omega,e.symm⟩,by assumption⟩,trivial⟩,by omega⟩)|(rw[if_pos (by exact⟨by omega,by assumption,by assumption,by omega,by omega⟩),Option.toList_some] at e;exact⟨⟨⟨⟨by omega,by omega,by rw[List.length_append];simp only[List.length_cons,List.length_nil];omega,e.symm⟩,by assumption⟩,trivial⟩,by omega⟩)|skip)
def Abc:=Abd.a k243_234
def openIdx {α:Type} (f:α→Bool):List α→Int→List Int
 | [],_=>[]
 | x::l,k=>if f x then k::openIdx f l (k+1) else openIdx f l (k+1)
theorem openIdx_at {α:Type} [Inhabited α] {f:α→Bool} {l:List α} {i:Nat} {k:Int} (h:i<l.length):openIdx f (l.drop i) k=if f (l.getD i default) then k::openIdx f (l.drop (i+1)) (k+1) else openIdx f (l.drop (i+1)) (k+1):=by rw[drop_cons h];rfl
theorem openIdx_end {α:Type} {f:α→Bool} {l:List α} {i:Nat} {k:Int} (h:l.length≤i):openIdx f (l.drop i) k=[]:=by rw[List.drop_of_length_le h];rfl
theorem openIdx_in {α:Type} (f:α→Bool):∀ (l:List α) (k:Int) (x:Int),x∈openIdx f l k→k≤x∧x<k+l.length
 | [],k,x,h=>by cases h
 | a::l,k,x,h=>by
  rw[openIdx] at h
  have ih:=openIdx_in f l (k+1) x
  simp only[List.length_cons]
  split at h
  ·rcases List.mem_cons.1 h with rfl|h
   ·omega
   ·have:=ih h;omega
  ·have:=ih h;omega
theorem openIdx_len {α:Type} (f:α→Bool):∀ (l:List α) (k:Int),(openIdx f l k).length≤l.length
 | [],k=>Nat.le_refl _
 | a::l,k=>by
  have:=openIdx_len f l (k+1)
  rw[openIdx]
  split<;>simp only[List.length_cons]<;>omega
def openSlots (p:SPage):List Int:=openIdx (fun s=>!s.done) p.slots 0
def openMods (p:SPage):List Int:=openIdx (fun m=>!m.done) p.mods 0
def B1:Fct:=⟨[.v (.el .page)],[.sl .int],fun(x_:SPage×Unit)=>x_.1.slots.length≤1000000000000,fun(x_:SPage×Unit)=>(openSlots x_.1,())⟩
abbrev BF (p:SPage):LInv:=⟨[⟨.s,3,true,.sl .int⟩,⟨.s,4,true,.el .int⟩,⟨.b,1,false,.el .page⟩],fun(z_:(List Int)×Int×SPage×Unit) (x_:(List Int)×Int×SPage×Unit)=>(0≤x_.2.1∧x_.2.1≤p.slots.length∧x_.1.length≤x_.2.1∧x_.1++openIdx (fun s=>!s.done) (p.slots.drop x_.2.1.toNat) x_.2.1=openSlots p)∧x_.2.2.1=z_.2.2.1,fun(x_:(List Int)×Int×SPage×Unit)=>p.slots.length-x_.2.1.toNat⟩
theorem k141_235:B1.ok Tryz.prog 141:=Fct.p (KP [1,2,3,4] [10,19]) (fun⟨p,_⟩=>lv [(3,BF p)]) Abc.2 Tryz.func141 (by
 rintro⟨(p:SPage),_⟩ hp
 refine ho (lpx (BF p) ([],((0:Int),(p,()))) fun(y1:List Int×Int×SPage×PUnit) bk1=>.br (decide (y1.2.1<(↑y1.2.2.1.slots.length:Int))) (.ob (inB y1.2.1 y1.2.2.1.slots.length)<|.br (!(y1.2.2.1.slots.getD y1.2.1.toNat default).done) (.ob (True)<|.ob (Bi (y1.1.length+[y1.2.1].length) 8)<|.ob (bk1 (y1.1++[y1.2.1],(w1 y1.2.1,(y1.2.2.1,()))))<|.ok) (.ob (bk1 (y1.1,(w1 y1.2.1,(y1.2.2.1,()))))<|.ok)) (.lf B1 (y1.1,()))) ?_
 refine AG ?_ fun(y1:List Int×Int×SPage×PUnit) i1=>Ab (fun h2=>Aa ?_ fun o3=>Ab (fun h4=>Aa trivial fun _=>Aa ?_ fun o5=>Aa ?_ fun o6=>trivial) (fun h4=>Aa ?_ fun o7=>trivial)) (fun h2=>lfY ?_)
 all_goals
  have h0:openIdx (fun s:SSlot=>!s.done) (p.slots.drop 0) 0=openSlots p:=rfl
  try simp only[AH] at *
  try simp only[BF,B1,std,Nat.reduceAdd,openIdx_at,openIdx_end,List.length_append,List.length_cons,List.length_nil,List.append_assoc] at *
  try simp(disch:=omega) only[wrapId',toNat1] at *
  try simp(disch:=omega) only[if_pos,if_neg]
 all_goals first|trivial|omega|grind[wrapId',toNat1,drop_cons,drop_end,good_len,maxLen,openIdx_at,openIdx_end,List.length_append,List.length_cons,List.length_nil,List.append_assoc])
def Z5:=Abc.a k141_235
abbrev By (p:SPage):LInv:=⟨[⟨.s,3,true,.sl .int⟩,⟨.s,10,true,.el .int⟩],fun _ (x_:(List Int)×Int×Unit)=>0≤x_.2.1∧x_.2.1≤p.slots.length∧x_.1.length≤x_.2.1∧x_.1++openIdx (fun s=>!s.done) (p.slots.drop x_.2.1.toNat) x_.2.1=openSlots p,fun(x_:(List Int)×Int×Unit)=>p.slots.length-x_.2.1.toNat⟩
theorem k168_236:B1.ok Tryz.prog 168:=Fct.p (KP [1,2,3,4,5,8,9,10] [11,17]) (fun⟨p,_⟩=>lv [(3,By p)]) Z5.2 Tryz.func168 (by
 rintro⟨(p:SPage),_⟩ hp
 refine ho (lpx (By p) ([],((0:Int),())) fun(y1:List Int×Int×PUnit) bk1=>.br (decide (y1.2.1<(↑p.slots.length:Int))) (.ob (inB y1.2.1 p.slots.length)<|.br (!(p.slots.getD y1.2.1.toNat default).done) (.ob (True)<|.ob (Bi (y1.1.length+[y1.2.1].length) 8)<|.ob (p.slots=p.slots)<|.ob (Value.int IntKind.i64 (↑p.slots.length:Int)=Value.int IntKind.i64 (↑p.slots.length:Int))<|.ob (bk1 (y1.1++[y1.2.1],(w1 y1.2.1,())))<|.ok) (.ob (p.slots=p.slots)<|.ob (Value.int IntKind.i64 (↑p.slots.length:Int)=Value.int IntKind.i64 (↑p.slots.length:Int))<|.ob (bk1 (y1.1,(w1 y1.2.1,())))<|.ok)) (.lf B1 (y1.1,()))) ?_
 refine AG ?_ fun(y1:List Int×Int×PUnit) i1=>Ab (fun h2=>Aa ?_ fun o3=>Ab (fun h4=>Aa trivial fun _=>Aa ?_ fun o5=>Aa rfl fun _=>Aa rfl fun _=>Aa ?_ fun o6=>trivial) (fun h4=>Aa rfl fun _=>Aa rfl fun _=>Aa ?_ fun o7=>trivial)) (fun h2=>lfY ?_)
 all_goals
  have h0:openIdx (fun s:SSlot=>!s.done) (p.slots.drop 0) 0=openSlots p:=rfl
  try simp only[AH] at *
  try simp only[By,B1,std,Nat.reduceAdd,openIdx_at,openIdx_end,List.length_append,List.length_cons,List.length_nil,List.append_assoc] at *
  try simp(disch:=omega) only[wrapId',toNat1] at *
  try simp(disch:=omega) only[if_pos,if_neg]
 all_goals first|trivial|omega|grind[wrapId',toNat1,drop_cons,drop_end,good_len,maxLen,openIdx_at,openIdx_end,List.length_append,List.length_cons,List.length_nil,List.append_assoc])
def ZF:=Z5.a k168_236
def Cz:Fct:=⟨[.v (.el .page)],[.sl .int],fun(x_:SPage×Unit)=>x_.1.mods.length≤1000000000000,fun(x_:SPage×Unit)=>(openMods x_.1,())⟩
abbrev BY (p:SPage):LInv:=⟨[⟨.s,3,true,.sl .int⟩,⟨.s,4,true,.el .int⟩,⟨.b,1,false,.el .page⟩],fun(z_:(List Int)×Int×SPage×Unit) (x_:(List Int)×Int×SPage×Unit)=>(0≤x_.2.1∧x_.2.1≤p.mods.length∧x_.1.length≤x_.2.1∧x_.1++openIdx (fun m=>!m.done) (p.mods.drop x_.2.1.toNat) x_.2.1=openMods p)∧x_.2.2.1=z_.2.2.1,fun(x_:(List Int)×Int×SPage×Unit)=>p.mods.length-x_.2.1.toNat⟩
theorem k142_237:Cz.ok Tryz.prog 142:=Fct.p (KP [1,2,3,4] [10,19]) (fun⟨p,_⟩=>lv [(3,BY p)]) ZF.2 Tryz.func142 (by
 rintro⟨(p:SPage),_⟩ hp
 refine ho (lpx (BY p) ([],((0:Int),(p,()))) fun(y1:List Int×Int×SPage×PUnit) bk1=>.br (decide (y1.2.1<(↑y1.2.2.1.mods.length:Int))) (.ob (inB y1.2.1 y1.2.2.1.mods.length)<|.br (!(y1.2.2.1.mods.getD y1.2.1.toNat default).done) (.ob (True)<|.ob (Bi (y1.1.length+[y1.2.1].length) 8)<|.ob (bk1 (y1.1++[y1.2.1],(w1 y1.2.1,(y1.2.2.1,()))))<|.ok) (.ob (bk1 (y1.1,(w1 y1.2.1,(y1.2.2.1,()))))<|.ok)) (.lf Cz (y1.1,()))) ?_
 refine AG ?_ fun(y1:List Int×Int×SPage×PUnit) i1=>Ab (fun h2=>Aa ?_ fun o3=>Ab (fun h4=>Aa trivial fun _=>Aa ?_ fun o5=>Aa ?_ fun o6=>trivial) (fun h4=>Aa ?_ fun o7=>trivial)) (fun h2=>lfY ?_)
 all_goals
  have h0:openIdx (fun m:SModule=>!m.done) (p.mods.drop 0) 0=openMods p:=rfl
  try simp only[AH] at *
  try simp only[BY,Cz,std,Nat.reduceAdd,openIdx_at,openIdx_end,List.length_append,List.length_cons,List.length_nil,List.append_assoc] at *
  try simp(disch:=omega) only[wrapId',toNat1] at *
  try simp(disch:=omega) only[if_pos,if_neg]
 all_goals first|trivial|omega|grind[wrapId',toNat1,drop_cons,drop_end,good_len,maxLen,openIdx_at,openIdx_end,List.length_append,List.length_cons,List.length_nil,List.append_assoc])
def Abu:=ZF.a k142_237
abbrev BS (p:SPage):LInv:=⟨[⟨.s,3,true,.sl .int⟩,⟨.s,10,true,.el .int⟩],fun _ (x_:(List Int)×Int×Unit)=>0≤x_.2.1∧x_.2.1≤p.mods.length∧x_.1.length≤x_.2.1∧x_.1++openIdx (fun m=>!m.done) (p.mods.drop x_.2.1.toNat) x_.2.1=openMods p,fun(x_:(List Int)×Int×Unit)=>p.mods.length-x_.2.1.toNat⟩
theorem k169_238:Cz.ok Tryz.prog 169:=Fct.p (KP [1,2,3,4,5,8,9,10] [11,17]) (fun⟨p,_⟩=>lv [(3,BS p)]) Abu.2 Tryz.func169 (by
 rintro⟨(p:SPage),_⟩ hp
 refine ho (lpx (BS p) ([],((0:Int),())) fun(y1:List Int×Int×PUnit) bk1=>.br (decide (y1.2.1<(↑p.mods.length:Int))) (.ob (inB y1.2.1 p.mods.length)<|.br (!(p.mods.getD y1.2.1.toNat default).done) (.ob (True)<|.ob (Bi (y1.1.length+[y1.2.1].length) 8)<|.ob (p.mods=p.mods)<|.ob (Value.int IntKind.i64 (↑p.mods.length:Int)=Value.int IntKind.i64 (↑p.mods.length:Int))<|.ob (bk1 (y1.1++[y1.2.1],(w1 y1.2.1,())))<|.ok) (.ob (p.mods=p.mods)<|.ob (Value.int IntKind.i64 (↑p.mods.length:Int)=Value.int IntKind.i64 (↑p.mods.length:Int))<|.ob (bk1 (y1.1,(w1 y1.2.1,())))<|.ok)) (.lf Cz (y1.1,()))) ?_
 refine AG ?_ fun(y1:List Int×Int×PUnit) i1=>Ab (fun h2=>Aa ?_ fun o3=>Ab (fun h4=>Aa trivial fun _=>Aa ?_ fun o5=>Aa rfl fun _=>Aa rfl fun _=>Aa ?_ fun o6=>trivial) (fun h4=>Aa rfl fun _=>Aa rfl fun _=>Aa ?_ fun o7=>trivial)) (fun h2=>lfY ?_)
 all_goals
  have h0:openIdx (fun m:SModule=>!m.done) (p.mods.drop 0) 0=openMods p:=rfl
  try simp only[AH] at *
  try simp only[BS,Cz,std,Nat.reduceAdd,openIdx_at,openIdx_end,List.length_append,List.length_cons,List.length_nil,List.append_assoc] at *
  try simp(disch:=omega) only[wrapId',toNat1] at *
  try simp(disch:=omega) only[if_pos,if_neg]
 all_goals first|trivial|omega|grind[wrapId',toNat1,drop_cons,drop_end,good_len,maxLen,openIdx_at,openIdx_end,List.length_append,List.length_cons,List.length_nil,List.append_assoc])
def ZG:=Abu.a k169_238
def allowsInline (p:SPolicy) (n:ByteArray):Bool:=!p.set_||(!decide (p.nonce=⟨#[]⟩)&&decide (p.nonce=n))
def fAllowsInline:Fct:=⟨[.v (.el .policy),.v (.el .str)],[.el .bool],fun(x_:SPolicy×ByteArray×Unit)=>True,fun(x_:SPolicy×ByteArray×Unit)=>(allowsInline x_.1 x_.2.1,())⟩
theorem k247_239:fAllowsInline.ok Tryz.prog 247:=Fct.o [1,2,4] ZG.2 Tryz.func247 (by
 rintro⟨(p:SPolicy),(n:ByteArray),_⟩ hp
 refine ho (.br (!p.set_) (.lf fAllowsInline (true,())) (.br (!p.nonce.toList==(⟨#[]⟩:ByteArray).toList) (.lf fAllowsInline (p.nonce.toList==ByteArray.toList n,())) (.lf fAllowsInline (false,())))) ?_
 refine Ab (fun h1=>lfY ?_) (fun h1=>Ab (fun h2=>lfY ?_) (fun h2=>lfY ?_))
 all_goals
  try simp only[AH] at *
  try simp only[fAllowsInline,std,Nat.reduceAdd,allowsInline] at *
  try simp(disch:=omega) only[wrapId',toNat1] at *
  try simp(disch:=omega) only[if_pos,if_neg]
 all_goals first|trivial|omega|grind[wrapId',toNat1,drop_cons,drop_end,good_len,maxLen,allowsInline])
def Aay:=ZG.a k247_239
theorem k269_240:fAllowsInline.ok Tryz.prog 269:=Fct.o [1,2,4] Aay.2 Tryz.func269 (by
 rintro⟨(p:SPolicy),(n:ByteArray),_⟩ hp
 refine ho (.br (!p.set_) (.lf fAllowsInline (true,())) (.br (!p.nonce.toList==(⟨#[]⟩:ByteArray).toList) (.lf fAllowsInline (p.nonce.toList==ByteArray.toList n,())) (.lf fAllowsInline (false,())))) ?_
 refine Ab (fun h1=>lfY ?_) (fun h1=>Ab (fun h2=>lfY ?_) (fun h2=>lfY ?_))
 all_goals
  try simp only[AH] at *
  try simp only[fAllowsInline,std,Nat.reduceAdd,allowsInline] at *
  try simp(disch:=omega) only[wrapId',toNat1] at *
  try simp(disch:=omega) only[if_pos,if_neg]
 all_goals first|trivial|omega|grind[wrapId',toNat1,drop_cons,drop_end,good_len,maxLen,allowsInline])
def AaG:=Aay.a k269_240
def isVoid (n:ByteArray):Bool:=decide (n=⟨#[105,109,103]⟩)||decide (n=⟨#[108,105,110,107]⟩)
def C9:Fct:=⟨[.v (.el .str)],[.el .bool],fun(x_:ByteArray×Unit)=>True,fun(x_:ByteArray×Unit)=>(isVoid x_.1,())⟩
theorem k245_241:C9.ok Tryz.prog 245:=Fct.o [0,2] AaG.2 Tryz.func245 (by
 rintro⟨(n:ByteArray),_⟩ hp
 refine ho (.br (ByteArray.toList n==(⟨#[105,109,103]⟩:ByteArray).toList) (.lf C9 (true,())) (.lf C9 (ByteArray.toList n==(⟨#[108,105,110,107]⟩:ByteArray).toList,()))) ?_
 refine Ab (fun h1=>lfY ?_) (fun h1=>lfY ?_)
 all_goals
  try simp only[AH] at *
  try simp only[C9,std,Nat.reduceAdd,isVoid] at *
  try simp(disch:=omega) only[wrapId',toNat1] at *
  try simp(disch:=omega) only[if_pos,if_neg]
 all_goals first|trivial|omega|grind[wrapId',toNat1,drop_cons,drop_end,good_len,maxLen,isVoid])
def AbC:=AaG.a k245_241
theorem k267_242:C9.ok Tryz.prog 267:=Fct.o [0,2] AbC.2 Tryz.func267 (by
 rintro⟨(n:ByteArray),_⟩ hp
 refine ho (.br (ByteArray.toList n==(⟨#[105,109,103]⟩:ByteArray).toList) (.lf C9 (true,())) (.lf C9 (ByteArray.toList n==(⟨#[108,105,110,107]⟩:ByteArray).toList,()))) ?_
 refine Ab (fun h1=>lfY ?_) (fun h1=>lfY ?_)
 all_goals
  try simp only[AH] at *
  try simp only[C9,std,Nat.reduceAdd,isVoid] at *
  try simp(disch:=omega) only[wrapId',toNat1] at *
  try simp(disch:=omega) only[if_pos,if_neg]
 all_goals first|trivial|omega|grind[wrapId',toNat1,drop_cons,drop_end,good_len,maxLen,isVoid])
def ZC:=AbC.a k267_242
def sheetsOf (l:List SSlot):List SSheet:=(l.filter fun s=>decide (s.mode=2)&&(s.done&&decide (s.code=1))).map fun s=>parseSheet s.body
theorem sheetsOf_at {l:List SSlot} {i:Nat} (h:i<l.length):sheetsOf (l.drop i)=if(l.getD i default).mode=2∧(l.getD i default).done=true∧(l.getD i default).code=1 then parseSheet (l.getD i default).body::sheetsOf (l.drop (i+1)) else sheetsOf (l.drop (i+1)):=by
 rw[drop_cons h]
 unfold sheetsOf
 rw[List.filter_cons]
 by_cases hc:(l.getD i default).mode=2∧(l.getD i default).done=true∧(l.getD i default).code=1
 ·rw[if_pos hc,if_pos (by rw[decide_eq_true hc.1,hc.2.1,decide_eq_true hc.2.2];rfl)];rfl
 ·rw[if_neg hc,if_neg (by intro q;simp only[Bool.and_eq_true,decide_eq_true_eq] at q;exact hc q)]
theorem sheetsOf_end {l:List SSlot} {i:Nat} (h:l.length≤i):sheetsOf (l.drop i)=[]:=by rw[List.drop_of_length_le h];rfl
def okBod (p:SPage):Prop:=∀ i,i<p.slots.length→(p.slots.getD i default).body.size≤4200000000
def BN:Fct:=⟨[.v (.el .page)],[.sl .sheet],fun(x_:SPage×Unit)=>szL AL x_.1.slots≤1000000000000∧okBod x_.1,fun(x_:SPage×Unit)=>(sheetsOf x_.1.slots,())⟩
abbrev BP (p:SPage):LInv:=⟨[⟨.s,3,true,.sl .sheet⟩,⟨.s,4,true,.el .int⟩,⟨.b,1,false,.el .page⟩],fun(z_:(List SSheet)×Int×SPage×Unit) (x_:(List SSheet)×Int×SPage×Unit)=>(0≤x_.2.1∧x_.2.1≤p.slots.length∧x_.1.length≤x_.2.1∧x_.1++sheetsOf (p.slots.drop x_.2.1.toNat)=sheetsOf p.slots)∧x_.2.2.1=z_.2.2.1,fun(x_:(List SSheet)×Int×SPage×Unit)=>p.slots.length-x_.2.1.toNat⟩
theorem k201_243:BN.ok Tryz.prog 201:=Fct.p (KP [1,2,3,4,5] [11,30]) (fun⟨p,_⟩=>lv [(3,BP p)]) ZC.2 Tryz.func201 (by
 rintro⟨(p:SPage),_⟩ hp
 refine ho (lpx (BP p) ([],((0:Int),(p,()))) fun(y1:List SSheet×Int×SPage×PUnit) bk1=>.br (decide (y1.2.1<(↑y1.2.2.1.slots.length:Int))) (.ob (inB y1.2.1 y1.2.2.1.slots.length)<|.br ((y1.2.2.1.slots.getD y1.2.1.toNat default).mode==2) (.br ((y1.2.2.1.slots.getD y1.2.1.toNat default).done) (.br ((y1.2.2.1.slots.getD y1.2.1.toNat default).code==1) (.cl fParseSheet ((y1.2.2.1.slots.getD y1.2.1.toNat default).body,()) fun z2=>.ob (Bi (y1.1.length+[z2.1].length) 24)<|.ob (bk1 (y1.1++[z2.1],(w1 y1.2.1,(y1.2.2.1,()))))<|.ok) (.ob (bk1 (y1.1,(w1 y1.2.1,(y1.2.2.1,()))))<|.ok)) (.ob (bk1 (y1.1,(w1 y1.2.1,(y1.2.2.1,()))))<|.ok)) (.ob (bk1 (y1.1,(w1 y1.2.1,(y1.2.2.1,()))))<|.ok)) (.lf BN (y1.1,()))) ?_
 refine AG ?_ fun(y1:List SSheet×Int×SPage×PUnit) i1=>Ab (fun h2=>Aa ?_ fun o3=>Ab (fun h4=>Ab (fun h5=>Ab (fun h6=>Ae ?_ fun o7=>(Aa ?_ fun o8=>Aa ?_ fun o9=>trivial)) (fun h6=>Aa ?_ fun o10=>trivial)) (fun h5=>Aa ?_ fun o11=>trivial)) (fun h4=>Aa ?_ fun o12=>trivial)) (fun h2=>lfY ?_)
 all_goals
  have h0:sheetsOf (p.slots.drop 0)=sheetsOf p.slots:=rfl
  have hl:=Ad AL p.slots
  have hg:∀ i,i<p.slots.length→(p.slots.getD i default).body.size≤4200000000:=hp.2
  have hg2:szL AL p.slots≤1000000000000:=hp.1
  clear hp
  try simp only[AH] at *
  try simp only[BP,fParseSheet,BN,std,Nat.reduceAdd,fParseSheet,sheetsOf_at,sheetsOf_end,List.length_append,List.length_cons,List.length_nil,List.append_assoc] at *
  try simp(disch:=omega) only[wrapId',toNat1] at *
  try simp(disch:=omega) only[if_pos,if_neg]
 all_goals first|trivial|omega|grind[wrapId',toNat1,drop_cons,drop_end,good_len,maxLen,fParseSheet,sheetsOf_at,sheetsOf_end,List.length_append,List.length_cons,List.length_nil,List.append_assoc])
def Zj:=ZC.a k201_243
theorem ruleOf_sz {w:ByteArray} {r:SRule} (h:ruleOf w=some r):r.name.size≤w.size∧1≤r.color∧r.color≤999:=by
 unfold ruleOf at h
 split at h
 ·cases h
 ·rename_i q hq
  split at h
  ·rename_i hc
   have:=cutF_len1 (p:=q.1) (q:=q.2) hq
   obtain rfl:=Option.some.inj h
   rw[Bg] at this
   exact⟨by rw[DQ];omega,hc.2.2⟩
  ·cases h
theorem parseRules_sz:∀ (l:List ByteArray) (acc:List SRule),szL HH (parseRules l acc)≤szL HH acc+szL Ac l∧∀ r,r∈parseRules l acc→r∈acc∨1≤r.color∧r.color≤999
 | [],acc=>⟨by rw[parseRules];omega,fun r h=>.inl h⟩
 | w::l,acc=>by
  rw[parseRules,szL_cons]
  by_cases hc:acc.length<8
  ·rw[if_pos hc]
   cases hr:ruleOf w with
   | none=>
    obtain⟨i1,i2⟩:=parseRules_sz l acc
    rw[Option.toList_none,List.append_nil]
    exact⟨by omega,i2⟩
   | some x=>
    obtain⟨i1,i2⟩:=parseRules_sz l (acc++[x])
    have hx:=ruleOf_sz hr
    rw[Option.toList_some]
    rw[szL_snoc] at i1
    refine⟨by simp only[HH,Ac] at *;omega,fun r h=>?_⟩
    rcases i2 r h with h|h
    ·rcases List.mem_append.1 h with h|h
     ·exact .inl h
     ·rw[List.mem_singleton] at h;subst h;exact .inr hx.2
    ·exact .inr h
  ·rw[if_neg hc]
   obtain⟨i1,i2⟩:=parseRules_sz l acc
   exact⟨by omega,i2⟩
theorem parseSheet_sz (s:ByteArray):Cq (parseSheet s)≤s.size+1∧∀ r,r∈(parseSheet s).rules→1≤r.color∧r.color≤999:=by
 obtain⟨h1,h2⟩:=parseRules_sz (spl 59 s) []
 rw[szL_spl] at h1
 have h0:szL HH []=0:=rfl
 exact⟨by simp only[Cq,parseSheet];omega,fun r h=>(h2 r h).elim (fun h=>by cases h) id⟩
theorem sheetsOf_sz:∀ (l:List SSlot),szL Cq (sheetsOf l)≤2*szL AL l∧okSheets (sheetsOf l)
 | []=>⟨Nat.zero_le _,fun s h=>by cases h⟩
 | x::l=>by
  obtain⟨i1,i2⟩:=sheetsOf_sz l
  have e:=sheetsOf_at (l:=x::l) (i:=0) (by simp)
  rw[List.drop_zero] at e
  rw[e,szL_cons]
  split
  ·have hp:=parseSheet_sz x.body
   refine⟨?_,fun s h=>?_⟩
   ·rw[szL_cons];simp only[AL] at *;show Cq (parseSheet x.body)+1+szL Cq (sheetsOf l)≤_;omega
   ·rcases List.mem_cons.1 h with rfl|h
    ·intro r hr;have:=hp.2 r hr;omega
    ·exact i2 s h
  ·exact⟨by show szL Cq (sheetsOf l)≤_;omega,i2⟩
theorem line8L_sz (s:ByteArray):∀ (l:List ByteArray) (k:Int),(line8L s l k).2=true→(line8L s l k).1.text.size≤60
 | [],k,h=>by cases h
 | w::l,k,h=>by
  rw[line8L] at h ⊢
  split
  ·rename_i hc
   rw[if_pos hc] at h
   dsimp only at h ⊢
   split at h
   ·have:=of_decide_eq_true h
    rw[ByteArray.size_extract];omega
   ·have:=isName_size h
    omega
  ·rename_i hc
   rw[if_neg hc] at h
   exact line8L_sz s l _ h
theorem parseScript_sz (s:ByteArray):szL B2 (parseScript s).1≤366∧(parseScript s).1.length≤6:=by
 unfold parseScript
 split
 ·exact⟨by decide,by decide⟩
 ·split
  ·rename_i hc
   have hs:∀ l:List ByteArray,allOk8 l=true→szL B2 (lines8 l)≤61*l.length:=by
    intro l
    induction l with
    | nil=>intro _;decide
    | cons w l ih=>
     intro h
     simp only[allOk8,List.all_cons,Bool.and_eq_true] at h
     have:=ih h.2
     have h2:=line8L_sz w _ _ h.1
     show szL B2 ((line8 w).1::lines8 l)≤_
     rw[szL_cons]
     simp only[B2,List.length_cons,line8] at *;omega
   have:=hs _ hc.2
   exact⟨by dsimp only;omega,by dsimp only;rw[lines8,List.length_map];exact hc.1⟩
  ·exact⟨by decide,by decide⟩
theorem szL_app {α:Type} (f:α→Nat):∀ (l m:List α),szL f (l++m)=szL f l+szL f m
 | [],m=>by show szL f m=0+szL f m;omega
 | x::l,m=>by rw[List.cons_append,szL_cons,szL_cons,szL_app f l m];omega
def addLog:List ByteArray→List ByteArray→List ByteArray
 | g,[]=>g
 | g,x::l=>if g.length<40 then addLog (g++[x]) l else g
theorem addLog_at {l g:List ByteArray} {i:Nat} (h:i<l.length):addLog g (l.drop i)=if g.length<40 then addLog (g++[l.getD i default]) (l.drop (i+1)) else g:=by rw[drop_cons h];rfl
theorem addLog_end {l g:List ByteArray} {i:Nat} (h:l.length≤i):addLog g (l.drop i)=g:=by rw[List.drop_of_length_le h];cases g<;>rfl
theorem addLog_full {l g:List ByteArray} (h:¬ g.length<40):addLog g l=g:=by
 cases l with
 | nil=>cases g<;>rfl
 | cons x l=>rw[addLog,if_neg h]
theorem addLog_nil (g:List ByteArray):addLog g []=g:=by cases g<;>rfl
def rsOf (p:SPage) (c:ByteArray):SBuilder×ByteArray×List ByteArray:=runScript p.builder (sheetsOf p.slots) (parseScript c).1
def runCode (p:SPage) (c:ByteArray) (w:Bool):SPage :=
 if(parseScript c).2=true then{ p with builder:=(rsOf p c).1,queue:=if w=true then tokensOf (rsOf p c).2.1++p.queue else p.queue,log:=addLog p.log (rsOf p c).2.2 }
 else{ p with log:=addLog p.log [⟨#[101,114,114,111,114]⟩]}
theorem runLines_sz (l:List SSheet):∀ (r:List SLine) (b:SBuilder) (w:ByteArray) (g:List ByteArray),szBuilder (runLines l r b w g).1≤szBuilder b+szL B2 r∧(runLines l r b w g).2.1.size≤w.size+szL B2 r∧(runLines l r b w g).2.2.length≤g.length+r.length
 | [],b,w,g=>⟨Nat.le_add_right _ _,Nat.le_add_right _ _,Nat.le_add_right _ _⟩
 | x::r,b,w,g=>by
  have h:=runLine_sz b l x
  have i1:=runLines_sz l r (runLine b l x).1 (w++(runLine b l x).2.1) (if(runLine b l x).2.2=⟨#[]⟩ then g else g++[(runLine b l x).2.2])
  rw[runLines,szL_cons]
  have hg:(if(runLine b l x).2.2=⟨#[]⟩ then g else g++[(runLine b l x).2.2]).length≤g.length+1:=by split<;>simp
  rw[ByteArray.size_append] at i1
  simp only[List.length_cons,B2] at *
  exact⟨by omega,by omega,by omega⟩
theorem rsOf_sz (p:SPage) (c:ByteArray):szBuilder (rsOf p c).1≤szBuilder p.builder+366∧(rsOf p c).2.1.size≤366∧(rsOf p c).2.2.length≤6:=by
 have h1:=runLines_sz (sheetsOf p.slots) (parseScript c).1 p.builder ⟨#[]⟩ []
 have h2:=parseScript_sz c
 have h0:ByteArray.size ⟨#[]⟩=0:=rfl
 simp only[rsOf,runScript,List.length_nil] at *
 omega
theorem tokensOf_sz (s:ByteArray):szL Af (tokensOf s)≤s.size+2∧(tokensOf s).length≤s.size+2:=by
 have h1:=feedAll_sz s
 have h2:=endText_sz (feedAll s).2
 have h3:szL Af (tokensOf s)≤s.size+2:=by
  unfold tokensOf
  rw[szL_app];omega
 exact⟨h3,Nat.le_trans (Ad _ _) h3⟩
def A3:Fct:=⟨[.v (.el .page),.v (.el .str),.v (.el .bool)],[.el .page],fun(x_:SPage×ByteArray×Bool×Unit)=>szPage x_.1≤1000000000000∧szBuilder x_.1.builder≤40000000000∧szL AL x_.1.slots≤40000000000∧x_.2.1.size≤4200000000∧okBod x_.1,fun(x_:SPage×ByteArray×Bool×Unit)=>(runCode x_.1 x_.2.1 x_.2.2.1,())⟩
abbrev B0 (p:SPage) (c:ByteArray) (w:Bool):LInv:=⟨[⟨.b,7,true,.el .page⟩,⟨.s,13,true,.el .int⟩,⟨.b,6,true,.el .page⟩,⟨.s,12,true,.sl .str⟩],fun(z_:SPage×Int×SPage×(List ByteArray)×Unit) (x_:SPage×Int×SPage×(List ByteArray)×Unit)=>((0≤x_.2.1∧x_.2.1≤(rsOf p c).2.2.length∧x_.1={ p with builder:=(rsOf p c).1,log:=x_.1.log }∧addLog x_.1.log ((rsOf p c).2.2.drop x_.2.1.toNat)=addLog p.log (rsOf p c).2.2∧x_.1.log.length≤p.log.length+x_.2.1)∧x_.2.2.1=z_.2.2.1)∧x_.2.2.2.1=z_.2.2.2.1,fun(x_:SPage×Int×SPage×(List ByteArray)×Unit)=>(rsOf p c).2.2.length-x_.2.1.toNat⟩
theorem k133_244:A3.ok Tryz.prog 133:=Fct.p (KP [1,2,3,6,7,8,9,10,11,12,13] [22,26,54,66]) (fun⟨p,c,w,_⟩=>lv [(10,B0 p c w)]) Zj.2 Tryz.func133 (by
 rintro⟨(p:SPage),(c:ByteArray),(w:Bool),_⟩ hp
 refine ho (.cl fCopyPage (p,()) fun z2=>.cl Am (c,()) fun z3=>.br (!z3.2.1) (.br (decide ((↑z2.1.log.length:Int)<40)) (.ob (True)<|.ob (Bi (z2.1.log.length+1) 16)<|.lf A3 ({z2.1 with log:=z2.1.log++[(⟨#[101,114,114,111,114]⟩:ByteArray)]},())) (.lf A3 (z2.1,()))) (.cl BN (p,()) fun z4=>.cl Bl (p.builder,z4.1,z3.1,()) fun z5=>lpx (B0 p c w) (({z2.1 with builder:=z5.1}:SPage),((0:Int),(default,(z5.2.2.1,())))) fun(y8:SPage×Int×SPage×List ByteArray×PUnit) bk8=>let q0_:Out:=.br (w) (.cl Cy (z5.2.1,()) fun z6=>.ob (Bi (z6.1.length+y8.1.queue.length) 64)<|.lf A3 ({y8.1 with queue:=z6.1++y8.1.queue},())) (.lf A3 (y8.1,()));.br (decide (y8.2.1<(↑y8.2.2.2.1.length:Int))) (.br (decide ((↑y8.1.log.length:Int)<40)) (.ob (inB y8.2.1 y8.2.2.2.1.length)<|.ob (y8.2.1.toNat<y8.2.2.2.1.length)<|.ob (True)<|.ob (Bi (y8.1.log.length+[y8.2.2.2.1.getD y8.2.1.toNat default].length) 16)<|.ob (Value.string c=Value.string c)<|.ob (Value.bool w=Value.bool w)<|.ob (Value.bool z3.2.1=Value.bool z3.2.1)<|.ob (Value.string z5.2.1=Value.string z5.2.1)<|.ob (bk8 (({y8.1 with log:=y8.1.log++[y8.2.2.2.1.getD y8.2.1.toNat default]}:SPage),(w1 y8.2.1,(y8.2.2.1,(y8.2.2.2.1,())))))<|.ok) q0_) q0_)) ?_
 refine Ae ?_ fun o1=>(Ae ?_ fun o2=>(Ab (fun h3=>Ab (fun h4=>Aa trivial fun _=>Aa ?_ fun o5=>lfY ?_) (fun h4=>lfY ?_)) (fun h3=>Ae ?_ fun o6=>(Ae ?_ fun o7=>(AG ?_ fun(y8:SPage×Int×SPage×List ByteArray×PUnit) i8=>Ab (fun h9=>Ab (fun h10=>Aa ?_ fun o11=>Aa ?_ fun o12=>Aa trivial fun _=>Aa ?_ fun o13=>Aa rfl fun _=>Aa rfl fun _=>Aa rfl fun _=>Aa rfl fun _=>Aa ?_ fun o14=>trivial) (fun h10=>Ab (fun h15=>Ae ?_ fun o16=>(Aa ?_ fun o17=>lfY ?_)) (fun h15=>lfY ?_))) (fun h9=>Ab (fun h18=>Ae ?_ fun o19=>(Aa ?_ fun o20=>lfY ?_)) (fun h18=>lfY ?_)))))))
 all_goals
  have hz:=rsOf_sz p c
  have hs:=parseScript_sz c
  have hk:=sheetsOf_sz p.slots
  have hq:szL Af p.queue+szBuilder p.builder+szL AL p.slots+szL Ac p.log≤szPage p:=by simp only[szPage];omega
  have hq1:=Ad Af p.queue
  have hq2:=Ad Ac p.log
 all_goals obtain⟨hp1,hp2,hp3,hp4,hp5⟩:=(show szPage p≤1000000000000∧szBuilder p.builder≤40000000000∧szL AL p.slots≤40000000000∧c.size≤4200000000∧okBod p from hp)
 all_goals
  have hrs:runScript p.builder (sheetsOf p.slots) (parseScript c).1=rsOf p c:=rfl
  try simp only[AH] at *
  try simp only[B0,fCopyPage,Am,A3,Bl,BN,Cy,std,Nat.reduceAdd,fCopyPage,Am,Bl,BN,Cy,hrs] at *
 all_goals first|trivial|omega|exact⟨by omega,hp5⟩|exact⟨by omega,by omega,by omega,hk.2⟩|exact⟨by omega,by omega,rfl,rfl,by omega⟩|skip
 all_goals first|(unfold runCode;rw[if_neg (by rw[show Prod.snd _=false by assumption];decide)];first|rw[addLog,if_pos (by omega),addLog_nil]|(rw[addLog_full (by omega)]))|skip
 all_goals (obtain⟨⟨⟨a1,a2,a3,a4,a5⟩,a6⟩,a7⟩:=i8;obtain⟨q,i,d,lg,u⟩:=y8;try dsimp only at *;generalize q.log=L at *;subst a3;subst a7;try dsimp only at *)
 all_goals first|trivial|omega|(have:=tokensOf_sz (rsOf p c).2.1;simp only[Bi];omega)|(have:=tokensOf_sz (rsOf p c).2.1;omega)|skip
 all_goals first|(rw[addLog_end (by omega)] at a4;unfold runCode;rw[if_pos (by assumption),←a4];first|rw[if_pos (by assumption)]|(rw[if_neg (by rw[show w=false by assumption];decide)]))|(rw[addLog_full (by omega)] at a4;unfold runCode;rw[if_pos (by assumption),←a4];first|rw[if_pos (by assumption)]|(rw[if_neg (by rw[show w=false by assumption];decide)]))|skip
 all_goals (rw[addLog_at (by omega),if_pos (by omega)] at a4;rw[An (by omega),show(i+1).toNat=i.toNat+1 by omega])
 all_goals exact⟨⟨⟨⟨by omega,by omega,rfl,a4,by rw[List.length_append];simp only[List.length_cons,List.length_nil];omega⟩,a6⟩,rfl⟩,by omega⟩)
def AaQ:=Zj.a k133_244
def closeN (b:SBuilder) (n:ByteArray):Nat→List Int
 | 0=>b.open_
 | 1=>b.open_
 | m+2=>if 0≤b.open_.getD (m+1) default∧b.open_.getD (m+1) default<b.nodes.length∧(b.nodes.getD (b.open_.getD (m+1) default).toNat default).name=n then b.open_.take (m+1) else closeN b n (m+1)
theorem closeN_at {b:SBuilder} {n:ByteArray} {i:Int} (h:1≤i):closeN b n (i+1).toNat=if 0≤b.open_.getD i.toNat default∧b.open_.getD i.toNat default<b.nodes.length∧(b.nodes.getD (b.open_.getD i.toNat default).toNat default).name=n then b.open_.take i.toNat else closeN b n i.toNat:=by
 obtain⟨m,rfl⟩:∃ m:Nat,i=m+1:=⟨(i-1).toNat,by omega⟩
 rw[show((m:Int)+1+1).toNat=m+2 by omega,show((m:Int)+1).toNat=m+1 by omega]
 rfl
theorem closeN_end {b:SBuilder} {n:ByteArray} {i:Int} (h:i≤0):closeN b n (i+1).toNat=b.open_:=by
 have h2:(i+1).toNat=0∨(i+1).toNat=1:=by omega
 rcases h2 with h2|h2<;>rw[h2]<;>rfl
def closeB (b:SBuilder) (n:ByteArray):SBuilder:=⟨b.nodes,closeN b n b.open_.length⟩
def FT:GS:=⟨[.g (.el .builder),.l (.v (.el .str))],[.el .builder],fun(x_:SBuilder×ByteArray×Unit)=>szBuilder x_.1≤1000000000000,fun(x_:SBuilder×ByteArray×Unit)=>((closeB x_.1 x_.2.1,()),(()))⟩
abbrev Cu (b:SBuilder) (n:ByteArray):LInv:=⟨[⟨.s,5,true,.el .int⟩,⟨.b,2,true,.el .builder⟩,⟨.b,4,true,.el .builder⟩],fun _ (x_:Int×SBuilder×SBuilder×Unit)=>x_.2.1=b∧-1≤x_.1∧x_.1<b.open_.length∧closeN b n (x_.1+1).toNat=closeN b n b.open_.length,fun(x_:Int×SBuilder×SBuilder×Unit)=>(x_.1+1).toNat⟩
theorem k244_245:FT.ok Tryz.prog 244:=GS.of (S:=FT) (L:=fun⟨b,n,_⟩=>fun|2=>some (Cu b n)|_=>none) (kp:=(KP [1,2,4,5,6] [12,35])) AaQ.2 Tryz.func244 (by kernel_rfl) (by kernel_rfl) (by
 rintro⟨(b:SBuilder),(n:ByteArray),_⟩ hp
 refine ho (lpx (Cu b n) (wr ((↑b.open_.length:Int)-(1:Int)),(b,(default,()))) fun(y1:Int×SBuilder×SBuilder×PUnit) bk1=>.br (decide (y1.1>0)) (.ob (inB y1.1 y1.2.1.open_.length)<|.ob (y1.1.toNat<y1.2.1.open_.length)<|.cl fInRange (y1.2.1.open_.getD y1.1.toNat default,(0:Int),wr ((↑y1.2.1.nodes.length:Int)-(1:Int)),()) fun z2=>.br (z2.1) (.ob (0≤y1.2.1.open_.getD y1.1.toNat default∧y1.2.1.open_.getD y1.1.toNat default<(↑y1.2.1.nodes.length:Int))<|.ob ((y1.2.1.open_.getD y1.1.toNat default).toNat<y1.2.1.nodes.length)<|.br ((y1.2.1.nodes.getD (y1.2.1.open_.getD y1.1.toNat default).toNat default).name.toList==n.toList) (.ob (0≤y1.1∧y1.1≤(↑y1.2.1.open_.length:Int))<|.ob (0+(y1.1.toNat-0)≤y1.2.1.open_.length)<|GS.out FT ((⟨y1.2.1.nodes,cut y1.2.1.open_ 0 (y1.1.toNat-0)⟩,()),(()))) (.ob (Value.string n=Value.string n)<|.ob (bk1 (wr (y1.1-(1:Int)),(y1.2.1,(y1.2.2.1,()))))<|.ok)) (.ob (Value.string n=Value.string n)<|.ob (bk1 (wr (y1.1-(1:Int)),(y1.2.1,(y1.2.2.1,()))))<|.ok)) (GS.out FT ((y1.2.1,()),(())))) ?_
 refine AG ?_ fun(y1:Int×SBuilder×SBuilder×PUnit) i1=>Ab (fun h2=>Aa ?_ fun o3=>Aa ?_ fun o4=>Ae trivial fun _=>(Ab (fun h5=>Aa ?_ fun o6=>Aa ?_ fun o7=>Ab (fun h8=>Aa ?_ fun o9=>Aa ?_ fun o10=>GS.leafY ?_) (fun h8=>Aa rfl fun _=>Aa ?_ fun o11=>trivial)) (fun h5=>Aa rfl fun _=>Aa ?_ fun o12=>trivial))) (fun h2=>GS.leafY ?_)
 all_goals
  have hl:b.open_.length≤1000000000000:=by have h1:szBuilder b≤1000000000000:=hp;simp only[szBuilder] at h1;omega
  have hn:b.nodes.length≤1000000000000:=by have h1:szBuilder b≤1000000000000:=hp;have:=Ad szNode b.nodes;simp only[szBuilder] at h1;omega
  try simp only[AH] at *
  try simp only[Cu,FT,fInRange,std,Nat.reduceAdd,fInRange,inRange,closeB] at *
 all_goals try (obtain⟨a0,a1,a2,a3⟩:=i1;simp only[a0] at *)
 all_goals try simp only[An (show -9223372036854775808≤(b.open_.length:Int)-1∧(b.open_.length:Int)-1≤9223372036854775807 by omega)] at *
 all_goals first|trivial|omega|(rw[show((b.open_.length:Int)-1+1).toNat=b.open_.length by omega];exact⟨by omega,by omega,rfl⟩)|skip
 all_goals try simp only[Bool.and_eq_true,Bool.and_eq_false_iff,decide_eq_true_eq,decide_eq_false_iff_not,An (show -9223372036854775808≤(b.nodes.length:Int)-1∧(b.nodes.length:Int)-1≤9223372036854775807 by omega)] at *
 all_goals first|omega|(rw[closeN_end (by omega)] at a3;rw[←a3])|skip
 all_goals rw[closeN_at (by omega)] at a3
 all_goals first|(rw[if_pos (by exact⟨by omega,by omega,by assumption⟩)] at a3;rw[←a3];first|rfl|simp[cut])|(rw[if_neg (by rintro⟨q1,q2,q3⟩;first|omega|exact absurd q3 (by assumption))] at a3;rw[An (by omega),show(y1.1-1+1).toNat=y1.1.toNat by omega];exact⟨⟨by first|assumption|trivial,by omega,by omega,a3⟩,by omega⟩))
def YP:=AaQ.G k244_245
def lastOpen (b:SBuilder):Int:=b.open_.getD (b.open_.length-1) default
def addToken (b:SBuilder) (t:SToken):SBuilder×Int :=
 if t.kind=2 then(closeB b t.name,-1)
 else if b.nodes.length<40∧0<b.open_.length∧(t.kind=1∧isVoid t.name=false→b.open_.length<8)∧(t.kind=1∨t.kind=3∧t.text≠⟨#[]⟩) then
  (if t.kind=1 then⟨b.nodes++[⟨t.name,⟨#[]⟩,lastOpen b,t.attrs⟩],if isVoid t.name=true then b.open_ else b.open_++[(b.nodes.length:Int)]⟩ else⟨b.nodes++[⟨⟨#[]⟩,t.text,lastOpen b,[]⟩],b.open_⟩,(b.nodes.length:Int))
 else(b,-1)
theorem addToken_close {b:SBuilder} {t:SToken} (h:t.kind=2):addToken b t=(closeB b t.name,-1):=by unfold addToken;rw[if_pos h]
theorem addToken_no {b:SBuilder} {t:SToken} (h:¬ t.kind=2) (h2:40≤b.nodes.length∨b.open_.length=0∨(t.kind=1∧isVoid t.name=false∧8≤b.open_.length)∨(t.kind≠1∧(t.kind≠3∨t.text=⟨#[]⟩))):addToken b t=(b,-1):=by
 unfold addToken
 rw[if_neg h,if_neg]
 rintro⟨q1,q2,q3,q4⟩
 rcases h2 with h2|h2|⟨e1,e2,e3⟩|⟨e1,e2⟩
 ·omega
 ·omega
 ·have:=q3 ⟨e1,e2⟩;omega
 ·rcases q4 with q4|⟨q4,q5⟩
  ·exact e1 q4
  ·rcases e2 with e2|e2
   ·exact e2 q4
   ·exact q5 e2
theorem addToken_el {b:SBuilder} {t:SToken} (h:t.kind=1) (h1:b.nodes.length<40) (h2:0<b.open_.length) (h3:isVoid t.name=true∨b.open_.length<8):addToken b t=(⟨b.nodes++[⟨t.name,⟨#[]⟩,lastOpen b,t.attrs⟩],if isVoid t.name=true then b.open_ else b.open_++[(b.nodes.length:Int)]⟩,(b.nodes.length:Int)):=by
 unfold addToken
 rw[if_neg (by omega),if_pos ⟨h1,h2,fun⟨_,e⟩=>h3.elim (fun q=>by rw[e] at q;cases q) id,.inl h⟩,if_pos h]
theorem addToken_tx {b:SBuilder} {t:SToken} (h:t.kind=3) (h1:b.nodes.length<40) (h2:0<b.open_.length) (h3:¬ t.text=⟨#[]⟩):addToken b t=(⟨b.nodes++[⟨⟨#[]⟩,t.text,lastOpen b,[]⟩],b.open_⟩,(b.nodes.length:Int)):=by
 unfold addToken
 rw[if_neg (by omega),if_pos ⟨h1,h2,fun⟨e,_⟩=>absurd e (by omega),.inr ⟨h,h3⟩⟩,if_neg (by omega)]
theorem lastOpen_at {b:SBuilder}:b.open_.getD ((b.open_.length:Int)-1).toNat default=lastOpen b:=by
 rw[show((b.open_.length:Int)-1).toNat=b.open_.length-1 by omega];rfl
def Az:Fct:=⟨[.v (.el .builder),.v (.el .token)],[.el .builder,.el .int],fun(x_:SBuilder×SToken×Unit)=>szBuilder x_.1≤100000000000∧Af x_.2.1≤100000000000,fun(x_:SBuilder×SToken×Unit)=>((addToken x_.1 x_.2.1).1,(addToken x_.1 x_.2.1).2,())⟩
theorem k203_246:Az.ok Tryz.prog 203:=Fct.o (KP [2,3,4,5,6,7,8,9] [17,47,59,70,88]) YP.2 Tryz.func203 (by
 rintro⟨(b:SBuilder),(t:SToken),_⟩ hp
 refine ho (let q7_:=(⟨#[]⟩:ByteArray);let q12_:=!t.text.toList==q7_.toList;let q6_:=(↑b.open_.length:Int);let q4_:=(↑b.nodes.length:Int);let q13_:=decide (q4_≥40);let q2_:=q6_-(1:Int);let q11_:=0≤wr q2_∧wr q2_<q6_;let q1_:=(⟨q7_,t.text,b.open_.getD (wr q2_).toNat default,[]⟩:SNode);.cl fCopyBuilder (b,()) fun z2=>let q10_:=Bi (z2.1.open_.length+[q4_].length) 8;let q9_:=Bi (z2.1.nodes.length+[q1_].length) 64;let q3_:Out:=.lf Az (z2.1,(-1:Int),());.br (t.kind==2) (.ob (FT.pre (z2.1,t.name,()))<|.lt _ (FT.fn (z2.1,t.name,())) fun z3=>.lf Az (z3.1.1,(-1:Int),())) (.br (t.kind==1) (.cl C9 (t.name,()) fun z4=>let q0_:Out:=.ob q11_<|.br (t.kind==1) (.cl fCopyAttrs (t.attrs,()) fun z5=>let q5_:=(⟨t.name,q7_,b.open_.getD (wr q2_).toNat default,z5.1⟩:SNode);.ob (Bi (z2.1.nodes.length+[q5_].length) 64)<|.br (!z4.1) (.ob (True)<|.ob q10_<|.lf Az (⟨z2.1.nodes++[q5_],z2.1.open_++[q4_]⟩,q4_,())) (.lf Az (⟨z2.1.nodes++[q5_],z2.1.open_⟩,q4_,()))) (.br (t.kind==3) (.br q12_ (.ob q9_<|.br (!z4.1) (.ob (True)<|.ob q10_<|.lf Az (⟨z2.1.nodes++[q1_],z2.1.open_++[q4_]⟩,q4_,())) (.lf Az (⟨z2.1.nodes++[q1_],z2.1.open_⟩,q4_,()))) q3_) q3_);.br q13_ q3_ (.br (q6_==0) q3_ (.br (!z4.1) (.br (decide (q6_≥8)) q3_ q0_) q0_))) (.br q13_ q3_ (.br (q6_==0) q3_ (.ob q11_<|.br (t.kind==1) (.cl fCopyAttrs (t.attrs,()) fun z7=>let q8_:=(⟨t.name,q7_,b.open_.getD (wr q2_).toNat default,z7.1⟩:SNode);.ob (Bi (z2.1.nodes.length+[q8_].length) 64)<|.lf Az (⟨z2.1.nodes++[q8_],z2.1.open_⟩,q4_,())) (.br (t.kind==3) (.br q12_ (.ob q9_<|.lf Az (⟨z2.1.nodes++[q1_],z2.1.open_⟩,q4_,())) q3_) q3_)))))) ?_
 refine Ae ?_ fun o1=>(Ab (fun h2=>Aa ?_ fun o3=>Co (lfY ?_)) (fun h2=>Ab (fun h4=>Ae trivial fun _=>(Ab (fun h5=>lfY ?_) (fun h5=>Ab (fun h6=>lfY ?_) (fun h6=>Ab (fun h7=>Ab (fun h8=>lfY ?_) (fun h8=>Aa ?_ fun o9=>Ab (fun h10=>Ae ?_ fun o11=>(Aa ?_ fun o12=>Ab (fun h13=>Aa trivial fun _=>Aa ?_ fun o14=>lfY ?_) (fun h13=>lfY ?_))) (fun h10=>Ab (fun h15=>Ab (fun h16=>Aa ?_ fun o17=>Ab (fun h18=>Aa trivial fun _=>Aa ?_ fun o19=>lfY ?_) (fun h18=>lfY ?_)) (fun h16=>lfY ?_)) (fun h15=>lfY ?_)))) (fun h7=>Aa ?_ fun o20=>Ab (fun h21=>Ae ?_ fun o22=>(Aa ?_ fun o23=>Ab (fun h24=>Aa trivial fun _=>Aa ?_ fun o25=>lfY ?_) (fun h24=>lfY ?_))) (fun h21=>Ab (fun h26=>Ab (fun h27=>Aa ?_ fun o28=>Ab (fun h29=>Aa trivial fun _=>Aa ?_ fun o30=>lfY ?_) (fun h29=>lfY ?_)) (fun h27=>lfY ?_)) (fun h26=>lfY ?_))))))) (fun h4=>Ab (fun h31=>lfY ?_) (fun h31=>Ab (fun h32=>lfY ?_) (fun h32=>Aa ?_ fun o33=>Ab (fun h34=>Ae ?_ fun o35=>(Aa ?_ fun o36=>lfY ?_)) (fun h34=>Ab (fun h37=>Ab (fun h38=>Aa ?_ fun o39=>lfY ?_) (fun h38=>lfY ?_)) (fun h37=>lfY ?_)))))))
 all_goals
  have hl:b.open_.length≤100000000000:=by have h1:szBuilder b≤100000000000:=hp.1;simp only[szBuilder] at h1;omega
  have hn:b.nodes.length≤100000000000:=by have h1:szBuilder b≤100000000000:=hp.1;have:=Ad szNode b.nodes;simp only[szBuilder] at h1;omega
  have ha:szL AK t.attrs≤100000000000∧t.attrs.length≤100000000000:=by have h1:Af t≤100000000000:=hp.2;have:=Ad AK t.attrs;simp only[Af] at h1;omega
  try simp only[AH] at *
  try simp only[Az,FT,fCopyAttrs,fCopyBuilder,C9,std,Nat.reduceAdd,fCopyBuilder,fCopyAttrs,C9,FT] at *
  try simp only[An (show -9223372036854775808≤(b.open_.length:Int)-1∧(b.open_.length:Int)-1≤9223372036854775807 by omega),lastOpen_at] at *
 all_goals first|trivial|omega|skip
 all_goals first|(rw[addToken_close (by assumption)];exact⟨rfl,rfl⟩)|skip
 all_goals first|(rw[addToken_no (by omega) (by first|exact .inl (by omega)|exact .inr (.inl (by omega))|exact .inr (.inr (.inl ⟨by omega,by assumption,by omega⟩))|exact .inr (.inr (.inr ⟨by omega,.inl (by omega)⟩))|exact .inr (.inr (.inr ⟨by omega,.inr (by assumption)⟩)))];exact⟨rfl,rfl⟩)|skip
 all_goals first|(rw[addToken_el (by omega) (by omega) (by omega) (by first|exact .inl (by assumption)|exact .inr (by omega))];first|rw[if_pos (by assumption)]|rw[if_neg (by rw[show isVoid t.name=false by assumption];decide)])|(rw[addToken_tx (by omega) (by omega) (by omega) (by assumption)])|skip
 all_goals first|exact⟨rfl,rfl⟩|exact absurd ((show isVoid t.name=true by assumption).symm.trans (show isVoid t.name=false by assumption)) (by decide))
def Abw:=YP.a k203_246
abbrev BT (b:SBuilder) (t:SToken):LInv:=⟨[⟨.b,6,true,.el .builder⟩,⟨.s,7,true,.el .int⟩,⟨.b,2,false,.el .builder⟩,⟨.b,3,false,.el .token⟩,⟨.b,4,true,.el .builder⟩],fun(z_:SBuilder×Int×SBuilder×SToken×SBuilder×Unit) (x_:SBuilder×Int×SBuilder×SToken×SBuilder×Unit)=>(((x_.1=b∧-1≤x_.2.1∧x_.2.1<b.open_.length∧closeN b t.name (x_.2.1+1).toNat=closeN b t.name b.open_.length)∧x_.2.2.1=z_.2.2.1)∧x_.2.2.2.1=z_.2.2.2.1)∧x_.2.2.2.2.1=z_.2.2.2.2.1,fun(x_:SBuilder×Int×SBuilder×SToken×SBuilder×Unit)=>(x_.2.1+1).toNat⟩
theorem k226_247:Az.ok Tryz.prog 226:=Fct.p (KP [2,3,4,5,6,7,8,9,10,11] [14,23,50,57,100,116,134]) (fun⟨b,t,_⟩=>lv [(4,BT b t)]) Abw.2 Tryz.func226 (by
 rintro⟨(b:SBuilder),(t:SToken),_⟩ hp
 refine ho (let q15_:=Bi (0+t.attrs.length) 32;let q11_:=(⟨#[]⟩:ByteArray);let q6_:=(↑b.nodes.length:Int);let q16_:=decide (q6_≥40);let q5_:=(↑b.open_.length:Int);let q8_:=q5_-(1:Int);let q14_:=0≤wr q8_∧wr q8_<q5_;let q3_:=(⟨q11_,t.text,b.open_.getD (wr q8_).toNat default,[]⟩:SNode);let q2_:=(⟨t.name,q11_,b.open_.getD (wr q8_).toNat default,[]++t.attrs⟩:SNode);.cl fCopyBuilder (b,()) fun z2=>let q12_:=Bi (z2.1.open_.length+[q6_].length) 8;let q10_:=Bi (z2.1.nodes.length+[q3_].length) 64;let q9_:=Bi (z2.1.nodes.length+[q2_].length) 64;let q7_:Out:=.lf Az (z2.1,(-1:Int),());let q0_:Out:=.br (t.kind==1) (.cl C9 (t.name,()) fun z3=>let q1_:Out:=.ob q14_<|.br (t.kind==1) (.ob (True)<|.ob q15_<|.ob q9_<|.br (!z3.1) (.ob (True)<|.ob q12_<|.lf Az (⟨z2.1.nodes++[q2_],z2.1.open_++[q6_]⟩,q6_,())) (.lf Az (⟨z2.1.nodes++[q2_],z2.1.open_⟩,q6_,()))) (.ob q10_<|.br (!z3.1) (.ob (True)<|.ob q12_<|.lf Az (⟨z2.1.nodes++[q3_],z2.1.open_++[q6_]⟩,q6_,())) (.lf Az (⟨z2.1.nodes++[q3_],z2.1.open_⟩,q6_,())));.br q16_ q7_ (.br (q5_==0) q7_ (.br (!z3.1) (.br (decide (q5_≥8)) q7_ q1_) q1_))) (.br q16_ q7_ (.br (q5_==0) q7_ (.ob q14_<|.br (t.kind==1) (.ob (True)<|.ob q15_<|.ob q9_<|.lf Az (⟨z2.1.nodes++[q2_],z2.1.open_⟩,q6_,())) (.ob q10_<|.lf Az (⟨z2.1.nodes++[q3_],z2.1.open_⟩,q6_,())))));.br (t.kind==2) (lpx (BT b t) (z2.1,(wr q8_,(b,(t,(default,()))))) fun(y3:SBuilder×Int×SBuilder×SToken×SBuilder×PUnit) bk3=>let q13_:=(↑y3.2.2.1.nodes.length:Int);let q4_:Out:=.ob (Value.int IntKind.i64 0=Value.int IntKind.i64 (0:Int))<|.ob (bk3 (y3.1,(wr (y3.2.1-(1:Int)),(y3.2.2.1,(y3.2.2.2.1,(y3.2.2.2.2.1,()))))))<|.ok;.br (decide (y3.2.1≥1)) (.ob (inB y3.2.1 y3.2.2.1.open_.length)<|.br (decide (y3.2.2.1.open_.getD y3.2.1.toNat default≥0)) (.br (decide (y3.2.2.1.open_.getD y3.2.1.toNat default<q13_)) (.ob (0≤y3.2.2.1.open_.getD y3.2.1.toNat default∧y3.2.2.1.open_.getD y3.2.1.toNat default<q13_)<|.br ((y3.2.2.1.nodes.getD (y3.2.2.1.open_.getD y3.2.1.toNat default).toNat default).name.toList==y3.2.2.2.1.name.toList) (.ob (0≤y3.2.1∧y3.2.1≤(↑y3.1.open_.length:Int))<|.ob (0+(y3.2.1.toNat-0)≤y3.1.open_.length)<|.lf Az (⟨y3.1.nodes,cut y3.1.open_ 0 (y3.2.1.toNat-0)⟩,(-1:Int),())) q4_) q4_) q4_) (.lf Az (y3.1,(-1:Int),()))) (.br (t.kind != 1) (.br (t.kind==3) (.br (!!t.text.toList==q11_.toList) q7_ q0_) (.br (!false) q7_ q0_)) q0_)) ?_
 refine Ae ?_ fun o1=>(Ab (fun h2=>AG ?_ fun(y3:SBuilder×Int×SBuilder×SToken×SBuilder×PUnit) i3=>Ab (fun h4=>Aa ?_ fun o5=>Ab (fun h6=>Ab (fun h7=>Aa ?_ fun o8=>Ab (fun h9=>Aa ?_ fun o10=>Aa ?_ fun o11=>lfY ?_) (fun h9=>Aa rfl fun _=>Aa ?_ fun o12=>trivial)) (fun h7=>Aa rfl fun _=>Aa ?_ fun o13=>trivial)) (fun h6=>Aa rfl fun _=>Aa ?_ fun o14=>trivial)) (fun h4=>lfY ?_)) (fun h2=>Ab (fun h15=>Ab (fun h16=>Ab (fun h17=>lfY ?_) (fun h17=>Ab (fun h18=>Ae trivial fun _=>(Ab (fun h19=>lfY ?_) (fun h19=>Ab (fun h20=>lfY ?_) (fun h20=>Ab (fun h21=>Ab (fun h22=>lfY ?_) (fun h22=>Aa ?_ fun o23=>Ab (fun h24=>Aa trivial fun _=>Aa ?_ fun o25=>Aa ?_ fun o26=>Ab (fun h27=>Aa trivial fun _=>Aa ?_ fun o28=>lfY ?_) (fun h27=>lfY ?_)) (fun h24=>Aa ?_ fun o29=>Ab (fun h30=>Aa trivial fun _=>Aa ?_ fun o31=>lfY ?_) (fun h30=>lfY ?_)))) (fun h21=>Aa ?_ fun o32=>Ab (fun h33=>Aa trivial fun _=>Aa ?_ fun o34=>Aa ?_ fun o35=>Ab (fun h36=>Aa trivial fun _=>Aa ?_ fun o37=>lfY ?_) (fun h36=>lfY ?_)) (fun h33=>Aa ?_ fun o38=>Ab (fun h39=>Aa trivial fun _=>Aa ?_ fun o40=>lfY ?_) (fun h39=>lfY ?_))))))) (fun h18=>Ab (fun h41=>lfY ?_) (fun h41=>Ab (fun h42=>lfY ?_) (fun h42=>Aa ?_ fun o43=>Ab (fun h44=>Aa trivial fun _=>Aa ?_ fun o45=>Aa ?_ fun o46=>lfY ?_) (fun h44=>Aa ?_ fun o47=>lfY ?_)))))) (fun h16=>Ab (fun h48=>lfY ?_) (fun h48=>Ab (fun h49=>Ae trivial fun _=>(Ab (fun h50=>lfY ?_) (fun h50=>Ab (fun h51=>lfY ?_) (fun h51=>Ab (fun h52=>Ab (fun h53=>lfY ?_) (fun h53=>Aa ?_ fun o54=>Ab (fun h55=>Aa trivial fun _=>Aa ?_ fun o56=>Aa ?_ fun o57=>Ab (fun h58=>Aa trivial fun _=>Aa ?_ fun o59=>lfY ?_) (fun h58=>lfY ?_)) (fun h55=>Aa ?_ fun o60=>Ab (fun h61=>Aa trivial fun _=>Aa ?_ fun o62=>lfY ?_) (fun h61=>lfY ?_)))) (fun h52=>Aa ?_ fun o63=>Ab (fun h64=>Aa trivial fun _=>Aa ?_ fun o65=>Aa ?_ fun o66=>Ab (fun h67=>Aa trivial fun _=>Aa ?_ fun o68=>lfY ?_) (fun h67=>lfY ?_)) (fun h64=>Aa ?_ fun o69=>Ab (fun h70=>Aa trivial fun _=>Aa ?_ fun o71=>lfY ?_) (fun h70=>lfY ?_))))))) (fun h49=>Ab (fun h72=>lfY ?_) (fun h72=>Ab (fun h73=>lfY ?_) (fun h73=>Aa ?_ fun o74=>Ab (fun h75=>Aa trivial fun _=>Aa ?_ fun o76=>Aa ?_ fun o77=>lfY ?_) (fun h75=>Aa ?_ fun o78=>lfY ?_))))))) (fun h15=>Ab (fun h79=>Ae trivial fun _=>(Ab (fun h80=>lfY ?_) (fun h80=>Ab (fun h81=>lfY ?_) (fun h81=>Ab (fun h82=>Ab (fun h83=>lfY ?_) (fun h83=>Aa ?_ fun o84=>Ab (fun h85=>Aa trivial fun _=>Aa ?_ fun o86=>Aa ?_ fun o87=>Ab (fun h88=>Aa trivial fun _=>Aa ?_ fun o89=>lfY ?_) (fun h88=>lfY ?_)) (fun h85=>Aa ?_ fun o90=>Ab (fun h91=>Aa trivial fun _=>Aa ?_ fun o92=>lfY ?_) (fun h91=>lfY ?_)))) (fun h82=>Aa ?_ fun o93=>Ab (fun h94=>Aa trivial fun _=>Aa ?_ fun o95=>Aa ?_ fun o96=>Ab (fun h97=>Aa trivial fun _=>Aa ?_ fun o98=>lfY ?_) (fun h97=>lfY ?_)) (fun h94=>Aa ?_ fun o99=>Ab (fun h100=>Aa trivial fun _=>Aa ?_ fun o101=>lfY ?_) (fun h100=>lfY ?_))))))) (fun h79=>Ab (fun h102=>lfY ?_) (fun h102=>Ab (fun h103=>lfY ?_) (fun h103=>Aa ?_ fun o104=>Ab (fun h105=>Aa trivial fun _=>Aa ?_ fun o106=>Aa ?_ fun o107=>lfY ?_) (fun h105=>Aa ?_ fun o108=>lfY ?_)))))))
 all_goals
  have hl:b.open_.length≤100000000000:=by have h1:szBuilder b≤100000000000:=hp.1;simp only[szBuilder] at h1;omega
  have hn:b.nodes.length≤100000000000:=by have h1:szBuilder b≤100000000000:=hp.1;have:=Ad szNode b.nodes;simp only[szBuilder] at h1;omega
  have ha:szL AK t.attrs≤100000000000∧t.attrs.length≤100000000000:=by have h1:Af t≤100000000000:=hp.2;have:=Ad AK t.attrs;simp only[Af] at h1;omega
  try simp only[AH] at *
  try simp only[BT,Az,fCopyBuilder,C9,std,Nat.reduceAdd,fCopyBuilder,C9] at *
  try simp only[An (show -9223372036854775808≤(b.open_.length:Int)-1∧(b.open_.length:Int)-1≤9223372036854775807 by omega),lastOpen_at] at *
 all_goals first|trivial|omega|(rw[show((b.open_.length:Int)-1+1).toNat=b.open_.length by omega];exact⟨by omega,by omega,rfl⟩)|skip
 all_goals first|(rw[addToken_no (by omega) (by first|exact .inl (by omega)|exact .inr (.inl (by omega))|exact .inr (.inr (.inl ⟨by omega,by assumption,by omega⟩))|exact .inr (.inr (.inr ⟨by omega,.inl (by omega)⟩))|exact .inr (.inr (.inr ⟨by omega,.inr (by assumption)⟩)))];exact⟨rfl,rfl⟩)|skip
 all_goals first|(rw[addToken_el (by omega) (by omega) (by omega) (by first|exact .inl (by assumption)|exact .inr (by omega))];first|rw[if_pos (by assumption)]|rw[if_neg (by rw[show isVoid t.name=false by assumption];decide)])|(rw[addToken_tx (by omega) (by omega) (by omega) (by assumption)])|skip
 all_goals first|exact⟨rfl,rfl⟩|exact absurd ((show isVoid t.name=true by assumption).symm.trans (show isVoid t.name=false by assumption)) (by decide)|skip
 all_goals try (obtain⟨⟨⟨⟨a0,a1,a2,a3⟩,e1⟩,e2⟩,e3⟩:=i3;simp only[a0,e1,e2] at *)
 all_goals try simp only[Bool.and_eq_true,Bool.and_eq_false_iff,decide_eq_true_eq,decide_eq_false_iff_not] at *
 all_goals first|omega|(rw[closeN_end (by omega)] at a3;rw[addToken_close (by assumption)];unfold closeB;rw[←a3];exact⟨rfl,rfl⟩)|skip
 all_goals rw[closeN_at (by omega)] at a3
 all_goals first|(rw[if_pos (by exact⟨by omega,by omega,by assumption⟩)] at a3;rw[addToken_close (by assumption)];unfold closeB;rw[←a3];simp[cut];done)|(rw[if_neg (by rintro⟨q1,q2,q3⟩;first|omega|exact absurd q3 (by assumption))] at a3;rw[An (by omega),show(y3.2.1-1+1).toNat=y3.2.1.toNat by omega];exact⟨⟨⟨⟨⟨trivial,by omega,by omega,a3⟩,trivial⟩,trivial⟩,e3⟩,by omega⟩)|skip)
def Zq:=Abw.a k226_247
theorem parseAddr_sz (s b:ByteArray):(parseAddr s b).1.host.size≤s.size+b.size∧(parseAddr s b).1.path.size≤s.size+b.size:=by
 have:=addrOf_sz s b
 unfold parseAddr
 split
 ·exact⟨this.1,Nat.le_trans this.2 (Nat.le_add_right _ _)⟩
 ·exact⟨Nat.zero_le _,Nat.zero_le _⟩
def reqOf (p:SPage) (s:SSlot):SRequest:=⟨kindOf s.mode,s.to,p.addr.host,s.digest⟩
def rawSlot (p:SPage) (mode:Int) (to digest:ByteArray) (node:Int):SSlot:=⟨mode,(parseAddr to p.addr.host).1,digest,node,false,0,⟨#[]⟩⟩
def newSlot (p:SPage) (mode:Int) (to digest:ByteArray) (node:Int):SSlot :=
 if(parseAddr to p.addr.host).2=true∧checkRequest p.policy (reqOf p (rawSlot p mode to digest node))=1 then rawSlot p mode to digest node
 else⟨mode,(parseAddr to p.addr.host).1,digest,node,true,2,⟨#[]⟩⟩
def addSlot (p:SPage) (mode:Int) (to digest:ByteArray) (node:Int):SPage×Int :=
 if p.slots.length<20∧kindOf mode≠0 then({ p with slots:=p.slots++[newSlot p mode to digest node]},(p.slots.length:Int)) else(p,-1)
theorem slotReq_snoc (p:SPage) (s:SSlot):slotRequest { p with slots:=p.slots++[s]} (p.slots.length:Int)=reqOf p s:=by
 unfold slotRequest reqOf
 rw[if_pos (by simp only[List.length_append,List.length_cons,List.length_nil];omega)]
 simp
theorem addSlot_no {p:SPage} {mode:Int} {to digest:ByteArray} {node:Int} (h:20≤p.slots.length∨kindOf mode=0):addSlot p mode to digest node=(p,-1):=by
 unfold addSlot;rw[if_neg];rintro⟨q1,q2⟩;rcases h with h|h
 ·omega
 ·exact q2 h
theorem addSlot_yes {p:SPage} {mode:Int} {to digest:ByteArray} {node:Int} (h:p.slots.length<20) (h2:¬ kindOf mode=0):addSlot p mode to digest node=({ p with slots:=p.slots++[newSlot p mode to digest node]},(p.slots.length:Int)):=by
 unfold addSlot;rw[if_pos ⟨h,h2⟩]
theorem modify_snoc {α:Type}:∀ (l:List α) (x:α) (f:α→α),(l++[x]).modify l.length f=l++[f x]
 | [],x,f=>rfl
 | a::l,x,f=>by
  show a::(l++[x]).modify l.length f=_
  rw[modify_snoc l x f];rfl
theorem newSlot_no {p:SPage} {m:Int} {to d:ByteArray} {n:Int} (h:(parseAddr to p.addr.host).2=false∨¬ checkRequest p.policy (reqOf p (rawSlot p m to d n))=1):newSlot p m to d n=⟨m,(parseAddr to p.addr.host).1,d,n,true,2,⟨#[]⟩⟩:=by
 unfold newSlot;rw[if_neg];rintro⟨q1,q2⟩;rcases h with h|h
 ·rw[h] at q1;cases q1
 ·exact h q2
theorem newSlot_yes {p:SPage} {m:Int} {to d:ByteArray} {n:Int} (h:(parseAddr to p.addr.host).2=true) (h2:checkRequest p.policy (reqOf p (rawSlot p m to d n))=1):newSlot p m to d n=rawSlot p m to d n:=by
 unfold newSlot;rw[if_pos ⟨h,h2⟩]
def fAddSlot:Fct:=⟨[.v (.el .page),.v (.el .int),.v (.el .str),.v (.el .str),.v (.el .int)],[.el .page,.el .int],fun(x_:SPage×Int×ByteArray×ByteArray×Int×Unit)=>szPage x_.1≤1090000000000∧x_.1.addr.host.size≤4000000000∧x_.2.2.1.size≤4000000000∧x_.2.2.2.1.size≤50000000000,fun(x_:SPage×Int×ByteArray×ByteArray×Int×Unit)=>((addSlot x_.1 x_.2.1 x_.2.2.1 x_.2.2.2.1 x_.2.2.2.2.1).1,(addSlot x_.1 x_.2.1 x_.2.2.1 x_.2.2.2.1 x_.2.2.2.2.1).2,())⟩
theorem k246_248:fAddSlot.ok Tryz.prog 246:=Fct.o (KP [1,2,3,4,5,10,11,12,13,14,15] [27,57]) Zq.2 Tryz.func246 (by
 rintro⟨(p:SPage),(m:Int),(to:ByteArray),(d:ByteArray),(n:Int),_⟩ hp
 refine ho (let q1_:=(↑p.slots.length:Int);.cl fCopyPage (p,()) fun z2=>let q4_:Out:=.lf fAddSlot (z2.1,(-1:Int),());.br (decide (q1_≥20)) q4_ (.cl fKindOfMode (m,()) fun(z3:Int×PUnit)=>.br (z3.1==0) q4_ (.cl Aq (to,p.addr.host,()) fun z4=>let q0_:=(⟨m,z4.1,d,n,false,(0:Int),(⟨#[]⟩:ByteArray)⟩:SSlot);let q2_:=z2.1.slots++[q0_];let q5_:=q1_.toNat<q2_.length;let q3_:=(0:Int)≤q1_∧q1_<(↑q2_.length:Int);.ob (True)<|.ob (Bi (z2.1.slots.length+[q0_].length) 96)<|.br (!z4.2.1) (.ob q3_<|.ob q5_<|.lt (List SSlot) (q2_.modify q1_.toNat fun z=>({z with done:=true}:SSlot)) fun z5=>.ob ((0:Int)≤q1_∧q1_<(↑z5.length:Int))<|.ob (q1_.toNat<z5.length)<|.lt (List SSlot) (z5.modify q1_.toNat fun z=>({z with code:=(2:Int)}:SSlot)) fun z6=>.lf fAddSlot ({z2.1 with slots:=z6},q1_,())) (.cl AS (({z2.1 with slots:=z2.1.slots++[q0_]}:SPage),q1_,()) fun z7=>.cl Ah (p.policy,z7.1,()) fun(z8:Int×PUnit)=>.br (z8.1 != 1) (.ob q3_<|.ob q5_<|.lt (List SSlot) (q2_.modify q1_.toNat fun z=>({z with done:=true}:SSlot)) fun z9=>.ob ((0:Int)≤q1_∧q1_<(↑z9.length:Int))<|.ob (q1_.toNat<z9.length)<|.lt (List SSlot) (z9.modify q1_.toNat fun z=>({z with code:=(2:Int)}:SSlot)) fun z10=>.lf fAddSlot ({z2.1 with slots:=z10},q1_,())) (.lf fAddSlot ({z2.1 with slots:=z2.1.slots++[q0_]},q1_,())))))) ?_
 refine Ae ?_ fun o1=>(Ab (fun h2=>lfY ?_) (fun h2=>Ae trivial fun _=>(Ab (fun h3=>lfY ?_) (fun h3=>Ae ?_ fun o4=>(Aa trivial fun _=>Aa ?_ fun o5=>Ab (fun h6=>Aa ?_ fun o7=>Aa ?_ fun o8=>Co (Aa ?_ fun o9=>Aa ?_ fun o10=>Co (lfY ?_))) (fun h6=>Ae ?_ fun o11=>(Ae ?_ fun o12=>(Ab (fun h13=>Aa ?_ fun o14=>Aa ?_ fun o15=>Co (Aa ?_ fun o16=>Aa ?_ fun o17=>Co (lfY ?_))) (fun h13=>lfY ?_)))))))))
 all_goals
  have hl:p.slots.length≤1090000000000:=by have h1:szPage p≤1090000000000:=hp.1;have:=Ad AL p.slots;simp only[szPage] at h1;omega
  have hpo:szPolicy p.policy≤1090000000000:=by have h1:szPage p≤1090000000000:=hp.1;simp only[szPage] at h1;omega
  have hz:=parseAddr_sz to p.addr.host
  try simp only[AH] at *
  try simp only[fAddSlot,Ah,fCopyPage,fKindOfMode,Aq,AS,std,Nat.reduceAdd,fCopyPage,fKindOfMode,Aq,AS,Ah] at *
  try simp only[slotReq_snoc,modify_snoc,List.length_append,List.length_cons,List.length_nil,Int.toNat_natCast] at *
 all_goals first|trivial|omega|(rw[addSlot_no (by first|exact .inl (by omega)|exact .inr (by assumption))];exact⟨rfl,rfl⟩)|rw[addSlot_yes (by omega) (by assumption)]|skip
 all_goals first|exact⟨by omega,by simp only[szRequest,szAddr,reqOf];omega⟩|(rw[newSlot_no (by first|exact .inl (by assumption)|exact .inr (by assumption))];exact⟨rfl,rfl⟩)|(rw[newSlot_yes (by assumption) (by assumption)];exact⟨rfl,rfl⟩))
def Zg:=Zq.a k246_248
theorem k268_249:fAddSlot.ok Tryz.prog 268:=Fct.o (KP [1,2,3,4,5,10,11,12,13,14,15] [26,59]) Zg.2 Tryz.func268 (by
 rintro⟨(p:SPage),(m:Int),(to:ByteArray),(d:ByteArray),(n:Int),_⟩ hp
 refine ho (let q1_:=(↑p.slots.length:Int);.cl fCopyPage (p,()) fun z2=>let q4_:Out:=.lf fAddSlot (z2.1,(-1:Int),());.br (decide (q1_≥20)) q4_ (.cl fKindOfMode (m,()) fun(z3:Int×PUnit)=>.br (z3.1==0) q4_ (.cl Aq (to,p.addr.host,()) fun z4=>let q0_:=(⟨m,z4.1,d,n,false,(0:Int),(⟨#[]⟩:ByteArray)⟩:SSlot);let q2_:=z2.1.slots++[q0_];let q5_:=q1_.toNat<q2_.length;let q3_:=(0:Int)≤q1_∧q1_<(↑q2_.length:Int);.ob (True)<|.ob (Bi (z2.1.slots.length+[q0_].length) 96)<|.br (!z4.2.1) (.ob q3_<|.ob q5_<|.lt (List SSlot) (q2_.modify q1_.toNat fun z=>({z with done:=true}:SSlot)) fun z5=>.ob ((0:Int)≤q1_∧q1_<(↑z5.length:Int))<|.ob (q1_.toNat<z5.length)<|.lt (List SSlot) (z5.modify q1_.toNat fun z=>({z with code:=(2:Int)}:SSlot)) fun z6=>.lf fAddSlot ({z2.1 with slots:=z6},q1_,())) (.cl AS (({z2.1 with slots:=z2.1.slots++[q0_]}:SPage),q1_,()) fun z7=>.cl Ah (p.policy,z7.1,()) fun(z8:Int×PUnit)=>.br (z8.1 != 1) (.ob q3_<|.ob q5_<|.lt (List SSlot) (q2_.modify q1_.toNat fun z=>({z with done:=true}:SSlot)) fun z9=>.ob ((0:Int)≤q1_∧q1_<(↑z9.length:Int))<|.ob (q1_.toNat<z9.length)<|.lt (List SSlot) (z9.modify q1_.toNat fun z=>({z with code:=(2:Int)}:SSlot)) fun z10=>.lf fAddSlot ({z2.1 with slots:=z10},q1_,())) (.lf fAddSlot ({z2.1 with slots:=z2.1.slots++[q0_]},q1_,())))))) ?_
 refine Ae ?_ fun o1=>(Ab (fun h2=>lfY ?_) (fun h2=>Ae trivial fun _=>(Ab (fun h3=>lfY ?_) (fun h3=>Ae ?_ fun o4=>(Aa trivial fun _=>Aa ?_ fun o5=>Ab (fun h6=>Aa ?_ fun o7=>Aa ?_ fun o8=>Co (Aa ?_ fun o9=>Aa ?_ fun o10=>Co (lfY ?_))) (fun h6=>Ae ?_ fun o11=>(Ae ?_ fun o12=>(Ab (fun h13=>Aa ?_ fun o14=>Aa ?_ fun o15=>Co (Aa ?_ fun o16=>Aa ?_ fun o17=>Co (lfY ?_))) (fun h13=>lfY ?_)))))))))
 all_goals
  have hl:p.slots.length≤1090000000000:=by have h1:szPage p≤1090000000000:=hp.1;have:=Ad AL p.slots;simp only[szPage] at h1;omega
  have hpo:szPolicy p.policy≤1090000000000:=by have h1:szPage p≤1090000000000:=hp.1;simp only[szPage] at h1;omega
  have hz:=parseAddr_sz to p.addr.host
  try simp only[AH] at *
  try simp only[fAddSlot,Ah,fCopyPage,fKindOfMode,Aq,AS,std,Nat.reduceAdd,fCopyPage,fKindOfMode,Aq,AS,Ah] at *
  try simp only[slotReq_snoc,modify_snoc,List.length_append,List.length_cons,List.length_nil,Int.toNat_natCast] at *
 all_goals first|trivial|omega|(rw[addSlot_no (by first|exact .inl (by omega)|exact .inr (by assumption))];exact⟨rfl,rfl⟩)|rw[addSlot_yes (by omega) (by assumption)]|skip
 all_goals first|exact⟨by omega,by simp only[szRequest,szAddr,reqOf];omega⟩|(rw[newSlot_no (by first|exact .inl (by assumption)|exact .inr (by assumption))];exact⟨rfl,rfl⟩)|(rw[newSlot_yes (by assumption) (by assumption)];exact⟨rfl,rfl⟩))
def AaL:=Zg.a k268_249
def askFrom (a:SAddr):List SModule→Nat
 | []=>0
 | m::l=>if cmpA m.to a<0 then askFrom a l+1 else 0
theorem askFrom_at {a:SAddr} {l:List SModule} {i:Nat} (h:i<l.length):askFrom a (l.drop i)=if cmpA (l.getD i default).to a<0 then askFrom a (l.drop (i+1))+1 else 0:=by rw[drop_cons h];rfl
theorem askFrom_end {a:SAddr} {l:List SModule} {i:Nat} (h:l.length≤i):askFrom a (l.drop i)=0:=by rw[List.drop_of_length_le h];rfl
def newMod (p:SPage) (a:SAddr):SModule:=if checkRequest p.policy ⟨5,a,p.addr.host,⟨#[]⟩⟩=1 then⟨a,false,0,⟨#[]⟩⟩ else⟨a,true,2,⟨#[]⟩⟩
def askModule (p:SPage) (a:SAddr):SPage :=
 if askFrom a p.mods<p.mods.length∧(p.mods.getD (askFrom a p.mods) default).to=a then p
 else{ p with mods:=p.mods.take (askFrom a p.mods)++newMod p a::p.mods.drop (askFrom a p.mods)}
theorem askCut {l:List SModule} {i:Nat} {m:SModule} (h:i≤l.length):cut l 0 i++[m]++cut l i (l.length-i)=l.take i++m::l.drop i:=by
 simp only[cut,List.drop_zero,List.append_assoc,List.cons_append,List.nil_append]
 rw[List.take_of_length_le (l:=List.drop i l) (by simp)]
theorem ask_found {p:SPage} {a:SAddr} {i:Nat} (h:askFrom a p.mods=i) (h1:i<p.mods.length) (h2:(p.mods.getD i default).to=a):askModule p a=p:=by
 unfold askModule;rw[h,if_pos ⟨h1,h2⟩]
theorem ask_new {p:SPage} {a:SAddr} {i:Nat} (h:askFrom a p.mods=i) (h0:i≤p.mods.length) (h1:i=p.mods.length∨¬ (p.mods.getD i default).to=a) (m:SModule) (hm:m=newMod p a):askModule p a={ p with mods:=cut p.mods 0 i++[m]++cut p.mods i (p.mods.length-i)}:=by
 unfold askModule
 rw[h,if_neg,askCut h0,hm]
 rintro⟨q1,q2⟩
 rcases h1 with h1|h1
 ·omega
 ·exact h1 q2
theorem newMod_ok {p:SPage} {a:SAddr} (h:checkRequest p.policy ⟨5,a,p.addr.host,⟨#[]⟩⟩=1):(⟨a,false,0,⟨#[]⟩⟩:SModule)=newMod p a:=by unfold newMod;rw[if_pos h]
theorem newMod_no {p:SPage} {a:SAddr} (h:¬ checkRequest p.policy ⟨5,a,p.addr.host,⟨#[]⟩⟩=1):(⟨a,true,2,⟨#[]⟩⟩:SModule)=newMod p a:=by unfold newMod;rw[if_neg h]
def AI:Fct:=⟨[.v (.el .page),.v (.el .addr)],[.el .page],fun(x_:SPage×SAddr×Unit)=>szPage x_.1≤1090000000000∧x_.1.addr.host.size≤4000000000∧szAddr x_.2.1≤50000000000,fun(x_:SPage×SAddr×Unit)=>(askModule x_.1 x_.2.1,())⟩
abbrev BC (p:SPage) (a:SAddr):LInv:=⟨[⟨.s,6,true,.el .int⟩,⟨.b,2,false,.el .page⟩,⟨.b,3,true,.el .addr⟩,⟨.b,4,true,.el .page⟩,⟨.b,5,true,.el .page⟩],fun(z_:Int×SPage×SAddr×SPage×SPage×Unit) (x_:Int×SPage×SAddr×SPage×SPage×Unit)=>((((0≤x_.1∧x_.1≤p.mods.length∧x_.1+askFrom a (p.mods.drop x_.1.toNat)=askFrom a p.mods)∧x_.2.1=z_.2.1)∧x_.2.2.1=z_.2.2.1)∧x_.2.2.2.1=z_.2.2.2.1)∧x_.2.2.2.2.1=z_.2.2.2.2.1,fun(x_:Int×SPage×SAddr×SPage×SPage×Unit)=>p.mods.length-x_.1.toNat⟩
theorem k289_250:AI.ok Tryz.prog 289:=Fct.p (KP [2,3,4,5,6,7,8] [26,43,55]) (fun⟨p,a,_⟩=>lv [(3,BC p a)]) AaL.2 Tryz.func289 (by
 rintro⟨(p:SPage),(a:SAddr),_⟩ hp
 refine ho (let q11_:=(⟨#[]⟩:ByteArray);.cl fCopyPage (p,()) fun z2=>lpx (BC p a) ((0:Int),(p,(a,(default,(z2.1,()))))) fun(y2:Int×SPage×SAddr×SPage×SPage×PUnit) bk2=>let q15_:=inB y2.1 y2.2.1.mods.length;let q10_:=decide (y2.1<(↑y2.2.1.mods.length:Int));let q7_:=y2.2.1.mods.getD y2.1.toNat default;let q6_:=y2.1.toNat-0;let q14_:=[]++cut y2.2.2.2.2.1.mods 0 q6_;let q12_:=0+q6_≤y2.2.2.2.2.1.mods.length;let q8_:=Bi (0+(cut y2.2.2.2.2.1.mods 0 q6_).length) 64;let q5_:=(⟨y2.2.2.1,true,(2:Int),q11_⟩:SModule);let q4_:=(⟨y2.2.2.1,false,(0:Int),q11_⟩:SModule);let q3_:=0≤y2.1∧y2.1≤(↑y2.2.2.2.2.1.mods.length:Int);let q2_:=y2.2.2.2.2.1.mods.length-y2.1.toNat;let q13_:=cut y2.2.2.2.2.1.mods y2.1.toNat q2_;let q9_:=y2.1.toNat+q2_≤y2.2.2.2.2.1.mods.length;let q0_:Out:=.cl Ah (y2.2.1.policy,(⟨(5:Int),y2.2.2.1,y2.2.1.addr.host,q11_⟩:SRequest),()) fun(z4:Int×PUnit)=>.br (z4.1 != 1) (.ob q3_<|.ob q12_<|.ob q8_<|.ob (True)<|.ob (Bi (q14_.length+[q5_].length) 64)<|.ob q3_<|.ob q9_<|.ob (Bi (([]++cut y2.2.2.2.2.1.mods 0 q6_++[q5_]).length+q13_.length) 64)<|.lf AI ({y2.2.2.2.2.1 with mods:=[]++cut y2.2.2.2.2.1.mods 0 q6_++[q5_]++cut y2.2.2.2.2.1.mods y2.1.toNat q2_},())) (.ob q3_<|.ob q12_<|.ob q8_<|.ob (True)<|.ob (Bi (q14_.length+[q4_].length) 64)<|.ob q3_<|.ob q9_<|.ob (Bi (([]++cut y2.2.2.2.2.1.mods 0 q6_++[q4_]).length+q13_.length) 64)<|.lf AI ({y2.2.2.2.2.1 with mods:=[]++cut y2.2.2.2.2.1.mods 0 q6_++[q4_]++cut y2.2.2.2.2.1.mods y2.1.toNat q2_},()));let q1_:Out:=.br q10_ (.ob q15_<|.br (q7_.to.host==y2.2.2.1.host&&(q7_.to.path==y2.2.2.1.path&&true)) (.lf AI (y2.2.2.2.2.1,())) q0_) q0_;.br q10_ (.ob q15_<|.cl AC (q7_.to,y2.2.2.1,()) fun(z3:Int×PUnit)=>.br (decide (z3.1<0)) (.ob (bk2 (w1 y2.1,(y2.2.1,(y2.2.2.1,(y2.2.2.2.1,(y2.2.2.2.2.1,()))))))<|.ok) q1_) q1_) ?_
 refine Ae ?_ fun o1=>(AG ?_ fun(y2:Int×SPage×SAddr×SPage×SPage×PUnit) i2=>Ab (fun h3=>Aa ?_ fun o4=>Ae trivial fun _=>(Ab (fun h5=>Aa ?_ fun o6=>trivial) (fun h5=>Ab (fun h7=>Aa ?_ fun o8=>Ab (fun h9=>lfY ?_) (fun h9=>Ae ?_ fun o10=>(Ab (fun h11=>Aa ?_ fun o12=>Aa ?_ fun o13=>Aa ?_ fun o14=>Aa trivial fun _=>Aa ?_ fun o15=>Aa ?_ fun o16=>Aa ?_ fun o17=>Aa ?_ fun o18=>lfY ?_) (fun h11=>Aa ?_ fun o19=>Aa ?_ fun o20=>Aa ?_ fun o21=>Aa trivial fun _=>Aa ?_ fun o22=>Aa ?_ fun o23=>Aa ?_ fun o24=>Aa ?_ fun o25=>lfY ?_)))) (fun h7=>Ae ?_ fun o26=>(Ab (fun h27=>Aa ?_ fun o28=>Aa ?_ fun o29=>Aa ?_ fun o30=>Aa trivial fun _=>Aa ?_ fun o31=>Aa ?_ fun o32=>Aa ?_ fun o33=>Aa ?_ fun o34=>lfY ?_) (fun h27=>Aa ?_ fun o35=>Aa ?_ fun o36=>Aa ?_ fun o37=>Aa trivial fun _=>Aa ?_ fun o38=>Aa ?_ fun o39=>Aa ?_ fun o40=>Aa ?_ fun o41=>lfY ?_)))))) (fun h3=>Ab (fun h42=>Aa ?_ fun o43=>Ab (fun h44=>lfY ?_) (fun h44=>Ae ?_ fun o45=>(Ab (fun h46=>Aa ?_ fun o47=>Aa ?_ fun o48=>Aa ?_ fun o49=>Aa trivial fun _=>Aa ?_ fun o50=>Aa ?_ fun o51=>Aa ?_ fun o52=>Aa ?_ fun o53=>lfY ?_) (fun h46=>Aa ?_ fun o54=>Aa ?_ fun o55=>Aa ?_ fun o56=>Aa trivial fun _=>Aa ?_ fun o57=>Aa ?_ fun o58=>Aa ?_ fun o59=>Aa ?_ fun o60=>lfY ?_)))) (fun h42=>Ae ?_ fun o61=>(Ab (fun h62=>Aa ?_ fun o63=>Aa ?_ fun o64=>Aa ?_ fun o65=>Aa trivial fun _=>Aa ?_ fun o66=>Aa ?_ fun o67=>Aa ?_ fun o68=>Aa ?_ fun o69=>lfY ?_) (fun h62=>Aa ?_ fun o70=>Aa ?_ fun o71=>Aa ?_ fun o72=>Aa trivial fun _=>Aa ?_ fun o73=>Aa ?_ fun o74=>Aa ?_ fun o75=>Aa ?_ fun o76=>lfY ?_)))))
 all_goals
  have hl:p.mods.length≤1090000000000:=by have h1:szPage p≤1090000000000:=hp.1;have:=Ad Ar p.mods;simp only[szPage] at h1;omega
  have hpo:szPolicy p.policy≤1090000000000∧p.addr.host.size≤50000000000:=by have h1:szPage p≤1090000000000:=hp.1;have h2:p.addr.host.size≤4000000000:=hp.2.1;simp only[szPage,szAddr] at h1;omega
  try simp only[AH] at *
  try simp only[BC,AI,Ah,AC,fCopyPage,std,Nat.reduceAdd,fCopyPage,AC,Ah] at *
 all_goals first|trivial|omega|exact⟨by omega,by omega,by simp⟩|skip
 all_goals try (obtain⟨⟨⟨⟨⟨a1,a2,a3⟩,e1⟩,e2⟩,e3⟩,e4⟩:=i2;simp only[e1,e2,e3,e4,EK,decide_eq_true_eq,decide_eq_false_iff_not,Nat.sub_zero,List.nil_append] at *)
 all_goals first|trivial|omega|exact⟨by omega,by simp only[szRequest,szAddr] at *;show _+_+0≤_;omega⟩|skip
 all_goals first|(have hc:(cut p.mods 0 y2.1.toNat).length=y2.1.toNat:=by(simp only[cut,List.length_take,List.length_drop];omega))|skip
 all_goals try simp only[hc,Nat.zero_add,List.length_append,List.length_cons,List.length_nil] at *
 all_goals first|trivial|omega|(simp only[cut,List.length_take,List.length_drop];omega)|skip
 all_goals first|(have e:=askFrom_at (a:=a) (l:=p.mods) (i:=y2.1.toNat) (by omega);first|rw[if_pos (by omega)] at e|rw[if_neg (by omega)] at e)|(have e:=askFrom_end (a:=a) (l:=p.mods) (i:=y2.1.toNat) (by omega))
 all_goals first|(rw[An (by omega),show(y2.1+1).toNat=y2.1.toNat+1 by omega];simp only[and_true];exact⟨⟨by omega,by omega,by omega⟩,by omega⟩)|skip
 all_goals have e5:askFrom a p.mods=y2.1.toNat:=by omega
 all_goals first|(rw[ask_found e5 (by omega) (by assumption)])|(rw[ask_new e5 (by omega) (by first|exact .inr (by assumption)|exact .inl (by omega)) _ (by first|exact newMod_ok (by assumption)|exact newMod_no (by assumption))]))
def Ab6:=AaL.a k289_250
open Go.RowKit in
theorem copyK {P:Program} (w:World) (dT sT ty elem:TypeId) (g o dLen dCap:Nat) (a:Addr) (sLen sCap k:Nat) (cur:Array Value) (t:TypeId) (cs:List Value)
 (hu:P.underlying dT=some (.slice elem)) (hs:(P.info? elem).map (·.size)=some k)
 (hg:w.heap[g]? = some (.cells cur t (0,0))) (hn:cs.length=Nat.min sLen dLen*k)
 (hsrc:∀ j v,cs[j]? = some v→w.cell? (a.add j)=some v) (hfit:o+cs.length≤cur.size) (h1:∀ v∈cs,v.oneCell'=true) :
 (Builtin.copy_ #[dT,sT] ty #[.slice (some ⟨g,o,none⟩) dLen dCap,.slice (some a) sLen sCap]).run P w =
  .ok (goInt (Nat.min sLen dLen)) (w.setRow g (cur.toList.take o++cs++cur.toList.drop (o+cs.length)).toArray):=by
 have hl:=run_loadCells_list (P:=P) w a cs hsrc
 have hst:=run_storeCells_at P g o t cs 0 cur w hg (by simpa using hfit) h1
 cases hq:P.info? elem with
 | none=>simp[hq] at hs
 | some i=>
  have hi:i.size=k:=by simpa [hq] using hs
  simp[Builtin.copy_,run_underlying hu,Builtin.lenOf,Builtin.firstCells,sizeOf,typeInfo,hq,hi,←hn,hl,hst]
open Go.RowKit in
theorem wpCopy {P:Program} (w:World) {ops:Array Oper} {rest:List Oper} {o:Oper} {a:Act} {Q:Exit→Act→World→Prop} (hgd:o.guard=none) (d s:Operand) (t t':TypeId)
 (ho:o.op=.call { callee:=.builtin .copy,args := #[d,s],argTypes := #[t,t']}) (v u:Value) (hd:a.eval d=v) (hs:a.eval s=u) {v':Value} {w':World}
 (hr:(Builtin.copy_ #[t,t'] o.type #[v,u]).run P w=.ok v' w') (h:wpList P ops Q rest (a.put o.dst v') w'):wpList P ops Q (o::rest) a w :=
 wpList_plain hgd fun K hK=>by
  unfold Oper.wp execOp
  simp only[ho,resolve,invoke,builtin,Sem.run_bind,Sem.run_pure,Result.andThen_ok,List.map_toArray,List.map_cons,List.map_nil,hd,hs,hr]
  exact hK _ _ h
open Go.RowKit in
theorem stCopy {P:Program} {ops:Array Oper} {o:Oper} {a:Act} {w:World} {K:Act→World→Prop} {Q:Exit→Act→World→Prop} {E:Prop}
 (hg:o.guard=none) (d x:Operand) (dT sT:TypeId) (hop:o.op=Op.call { callee:=Callee.builtin Builtin.copy,args := #[d,x],argTypes := #[dT,sT]})
 (v u:Value) (hd:a.eval d=v) (hx:a.eval x=u) {v':Value} {w':World} (hr:(Builtin.copy_ #[dT,sT] o.type #[v,u]).run P w=.ok v' w') (hK:K (a.put o.dst v') w') :
 if Region.wanted o (yielded ops a.tmps)=true then Oper.wp P o a w K Q else E:=by
 have hw:Region.wanted o (yielded ops a.tmps)=true:=by simp[Region.wanted,hg]
 rw[if_pos hw]
 unfold Oper.wp
 simp[execOp,hop,resolve,invoke,builtin,hd,hx,hr,Result.andThen]
 exact hK
open Go.RowKit in
def insRow (row:Array Value) (off n m i:Nat) (vs:List Value) (o:Nat) (row':Array Value):Prop:=∀ x,x<(n+m)*5→row'[o+x]? = if x<i*5 then row[off+x]? else if x<(i+m)*5 then vs[x-i*5]? else row[off+x-m*5]?
open Go.RowKit in
theorem ins_room (w:World) (b off n c i vb voff m vc:Nat) (row:Array Value) (e:TypeId) (vs:List Value) (hg:w.heap[b]? = some (.cells row e (0,0))) (hrow:off+c*5≤row.size) (hi:i<n) (hm:0<m) (hroom:n+m≤c) (hnm:n+m≤1100000000001)
 (hvl:vs.length=m*5) (hvb:vb≠b) (hvs:∀ j v,vs[j]? = some v→w.cell? ⟨vb,voff+j,none⟩=some v) (h1v:∀ v∈vs,v.oneCell'=true) (h1c:∀ x v,x<n*5→row[off+x]? = some v→v.oneCell'=true)
 (tA:TypeId) (kA:Nat) (hsa:w.shape? vb=some (tA,kA)) (hfa:w.frozen? ⟨vb,voff,none⟩=false) (hfe:w.frozen? ⟨vb,kA,none⟩=false) :
 Calls Tryz.prog 323 #[.slice (some ⟨b,off,none⟩) n c,.int .i64 i,.slice (some ⟨vb,voff,none⟩) m vc] w fun e' w'=>
  e'=.returned (.slice (some ⟨b,off,none⟩) (n+m) c)∧∃ row',w'=w.drew.setRow b row'∧row'.size=row.size∧insRow row off n m i vs off row':=by
 have u66:Tryz.prog.underlying 66=some (.slice 224):=by kernel_rfl
 have z224:(Tryz.prog.info? 224).map (·.size)=some 5:=by kernel_rfl
 have y224:∀ w,(Go.sizeOf 224).run Tryz.prog w=.ok 5 w:=fun w=>by kernel_rfl
 have hz1:¬ ((m:Int)=0):=by omega
 have hz2:¬ ((i:Int)=(n:Int)):=by omega
 have hsb:w.shape? b=some (e,row.size):=by simp[World.shape?,hg]
 have hov:∀ lb cb,(callFunc 336 #[.slice (some ⟨vb,voff,none⟩) m vc,.slice (some ⟨b,off+(i+m)*5,none⟩) lb cb]).run Tryz.prog w=.ok (.value (.bool false)) w:=fun lb cb=>by
  rw[run_callFunc_extern Tryz.func336 (by kernel_rfl) (by kernel_rfl) (by kernel_rfl) (e:=Extern.SlicesOverlaps.overlaps #[66,66] #[4]) (by kernel_rfl),
   Lib.run_overlaps_apart w 66 4 224 u66 5 y224 ⟨vb,voff,none⟩ ⟨b,off+(i+m)*5,none⟩ m vc lb cb hvb tA e kA row.size hsa hsb (by omega) hfa hfe]
  rfl
 have hw1:IntKind.i64.wrap ((i:Int)+(m:Int))=(i:Int)+(m:Int):=by rw[IntKind.wrap_i64];omega
 have hb1:(0:Int)≤(i:Int)+(m:Int):=by omega
 have hin:i≤n:=by omega
 have htn:((i:Int)+(m:Int)).toNat=i+m:=by omega
 have hb2:¬ (c=i+m):=by omega
 have hb3:(i:Int)≤(n:Int)+(m:Int):=by omega
 have hb4:¬ (c=i):=by omega
 have hrl:row.toList.length=row.size:=Array.length_toList
 obtain⟨cs1,hcs1⟩:∃ cs1,cs1=(row.toList.drop (off+i*5)).take ((n-i)*5):=⟨_,rfl⟩
 have hl1:cs1.length=(n-i)*5:=by rw[hcs1,List.length_take,List.length_drop];omega
 have hc1:∀ j,j<(n-i)*5→cs1[j]? = row[off+i*5+j]?:=fun j hj=>by rw[hcs1,List.getElem?_take,if_pos hj,List.getElem?_drop];simp
 obtain⟨row1,hrow1⟩:∃ r,r=(row.toList.take (off+(i+m)*5)++cs1++row.toList.drop (off+(i+m)*5+cs1.length)).toArray:=⟨_,rfl⟩
 have hs1:row1.size=row.size:=by rw[hrow1];simp only[List.size_toArray,List.length_append,List.length_take,List.length_drop];omega
 have hgd:w.drew.heap[b]? = some (.cells row e (0,0)):=hg
 have hcp1:∀ ty dc sc,(Builtin.copy_ #[66,66] ty #[.slice (some ⟨b,off+(i+m)*5,none⟩) (n+m-(i+m)) dc,.slice (some ⟨b,off+i*5,none⟩) (n+m-i) sc]).run Tryz.prog w.drew=.ok (goInt (n-i:Nat)) (w.drew.setRow b row1):=fun ty dc sc=>by
  have hmin:Nat.min (n+m-i) (n+m-(i+m))=n-i:=by show min _ _=_;omega
  have:=copyK (P:=Tryz.prog) w.drew 66 66 ty 224 b (off+(i+m)*5) (n+m-(i+m)) dc ⟨b,off+i*5,none⟩ (n+m-i) sc 5 row e cs1 u66 z224 hgd (by rw[hmin];exact hl1)
   (fun j v hj=>by
    have hj2:j<cs1.length:=(List.getElem?_eq_some_iff.1 hj).1
    rw[Addr.add_lit]
    show w.cell? ⟨b,off+i*5+j,none⟩=some v
    rw[←hj,hc1 j (by omega)];simp[World.cell?,hg]) (by omega)
   (fun v hv=>by
    obtain⟨j,hj⟩:=List.getElem?_of_mem hv
    have hj2:j<cs1.length:=(List.getElem?_eq_some_iff.1 hj).1
    rw[hc1 j (by omega)] at hj
    exact h1c (i*5+j) v (by omega) (by rw[←hj];congr 1;omega))
  rw[hmin,←hrow1] at this
  exact this
 obtain⟨row2,hrow2⟩:∃ r,r=(row1.toList.take (off+i*5)++vs++row1.toList.drop (off+i*5+vs.length)).toArray:=⟨_,rfl⟩
 have hs2:row2.size=row.size:=by rw[hrow2];simp only[List.size_toArray,List.length_append,List.length_take,List.length_drop,Array.length_toList];omega
 have hg1:(w.drew.setRow b row1).heap[b]? = some (.cells row1 e (0,0)):=setRow_heap w.drew b row row1 e (0,0) hgd
 have hcp2:∀ ty dc,(Builtin.copy_ #[66,66] ty #[.slice (some ⟨b,off+i*5,none⟩) (n+m-i) dc,.slice (some ⟨vb,voff,none⟩) m vc]).run Tryz.prog (w.drew.setRow b row1)=.ok (goInt m) (w.drew.setRow b row2):=fun ty dc=>by
  have hmin:Nat.min m (n+m-i)=m:=by show min _ _=_;omega
  have:=copyK (P:=Tryz.prog) (w.drew.setRow b row1) 66 66 ty 224 b (off+i*5) (n+m-i) dc ⟨vb,voff,none⟩ m vc 5 row1 e vs u66 z224 hg1 (by rw[hmin];exact hvl)
   (fun j v hj=>by
    have:=hvs j v hj
    rw[Addr.add_lit]
    rw[World.cell?] at this ⊢
    rw[setRow_other w.drew b vb row1 hvb]
    exact this) (by rw[hs1];omega) h1v
  rw[hmin,←hrow2,setRow_setRow] at this
  exact this
 have hr1l:row1.toList.length=row1.size:=Array.length_toList
 have hins:insRow row off n m i vs off row2:=by
  intro x hx
  have e1:row2[off+x]? = if off+x<off+i*5 then row1[off+x]? else if off+x<off+i*5+vs.length then vs[off+x-(off+i*5)]? else row1[off+x]?:=by
   rw[hrow2,List.getElem?_toArray,D9 (by omega)]
   simp
  have e2:row1[off+x]? = if off+x<off+(i+m)*5 then row[off+x]? else if off+x<off+(i+m)*5+cs1.length then cs1[off+x-(off+(i+m)*5)]? else row[off+x]?:=by
   rw[hrow1,List.getElem?_toArray,D9 (by omega)]
   simp
  rw[e1]
  by_cases h1:x<i*5
  ·rw[if_pos (by omega),if_pos h1,e2,if_pos (by omega)]
  ·rw[if_neg (by omega),if_neg h1]
   by_cases h2:x<(i+m)*5
   ·rw[if_pos (by omega),if_pos h2];congr 1;omega
   ·rw[if_neg (by omega),if_neg h2,e2,if_neg (by omega),if_pos (by omega),hc1 _ (by omega)];congr 1;omega
 clear hr1l hrl hrow2 hrow1 hg1 hgd hcs1 hc1 hl1 hs1
 go_enter Tryz.func323,Tryz.ntmps323
 go_wp2_with (simp only[hov])
 have mixed:Tryz.prog.follows Departure.mixedOrders=true:=by kernel_rfl
 go_region_law_o (refine stCopy rfl _ _ 66 66 rfl (.slice (some ⟨b,off+(i+m)*5,none⟩) (n+m-(i+m)) (c-(i+m))) (.slice (some ⟨b,off+i*5,none⟩) (n+m-i) (c-i)) (by simp[Act.eval,Act.put]) (by simp[Act.eval,Act.put]) (hcp1 66 (c-(i+m)) (c-i)) ?_)
 go_wp2_with (at_builtin;refine wpCopy _ rfl _ _ 66 66 rfl _ _ rfl rfl (hcp2 _ _) ?_)
 go_ret
 exact⟨rfl,row2,rfl,hs2,hins⟩
open Go.RowKit in
theorem ins_grow (w:World) (b off n c i vb voff m vc:Nat) (row:Array Value) (e:TypeId) (vs:List Value) (hg:w.heap[b]? = some (.cells row e (0,0))) (hnc:n≤c) (hrow:off+c*5≤row.size) (hi:i<n) (hm:0<m) (hroom:c<n+m) (hnm:n+m≤1100000000001)
 (hvl:vs.length=m*5) (hvb:vb≠b) (hlv:vb<w.heap.size) (hvs:∀ j v,vs[j]? = some v→w.cell? ⟨vb,voff+j,none⟩=some v) (h1v:∀ v∈vs,v.oneCell'=true) (h1c:∀ x v,x<n*5→row[off+x]? = some v→v.oneCell'=true) :
 Calls Tryz.prog 323 #[.slice (some ⟨b,off,none⟩) n c,.int .i64 i,.slice (some ⟨vb,voff,none⟩) m vc] w fun e' w'=>
  ∃ c' row',n+m≤c'∧c'*5≤row'.size∧e'=.returned (.slice (some ⟨w.heap.size,0,none⟩) (n+m) c')∧Neu w w'∧w'.heap[w.heap.size]? = some (.cells row' 224 (0,0))∧insRow row off n m i vs 0 row':=by
 have u66:Tryz.prog.underlying 66=some (.slice 224):=by kernel_rfl
 have u3:Tryz.prog.underlying 3=some (.int .i64):=by kernel_rfl
 have z224:(Tryz.prog.info? 224).map (·.size)=some 5:=by kernel_rfl
 have i224:(Tryz.prog.info? 224).map (fun i=>(i.size,i.bytes,i.zero.map (·.cells.size)))=some (5,64,some 5):=by kernel_rfl
 obtain⟨i0,z0,hi0,hz0,hs0,hb0,hzc⟩:∃ i z,Tryz.prog.info? 224=some i∧i.zero=some z∧i.size=5∧i.bytes=64∧z.cells.size=5:=by
  cases hq:Tryz.prog.info? 224 with
  | none=>rw[hq] at i224;simp at i224
  | some j=>
   rw[hq] at i224
   simp only[Option.map_some,Option.some.injEq,Prod.mk.injEq] at i224
   obtain⟨a1,a2,a3⟩:=i224
   cases hz:j.zero with
   | none=>rw[hz] at a3;simp at a3
   | some z=>rw[hz] at a3;exact⟨j,z,rfl,hz,a1,a2,by simpa using a3⟩
 have hz1:¬ ((m:Int)=0):=by omega
 have hz2:¬ ((i:Int)=(n:Int)):=by omega
 have hz3:(c:Int)<(n:Int)+(m:Int):=by omega
 have hbw:b<w.heap.size:=by
  rcases Nat.lt_or_ge b w.heap.size with h|h
  ·exact h
  ·rw[Array.getElem?_eq_none h] at hg;cases hg
 have hrl:row.toList.length=row.size:=Array.length_toList
 obtain⟨cs0,hcs0⟩:∃ cs,cs=(row.toList.drop off).take (i*5):=⟨_,rfl⟩
 have hl0:cs0.length=i*5:=by rw[hcs0,List.length_take,List.length_drop];omega
 have hc0:∀ j,j<i*5→cs0[j]? = row[off+j]?:=fun j hj=>by rw[hcs0,List.getElem?_take,if_pos hj,List.getElem?_drop];simp
 obtain⟨cs1,hcs1⟩:∃ cs1,cs1=(row.toList.drop (off+i*5)).take ((n-i)*5):=⟨_,rfl⟩
 have hl1:cs1.length=(n-i)*5:=by rw[hcs1,List.length_take,List.length_drop];omega
 have hc1:∀ j,j<(n-i)*5→cs1[j]? = row[off+i*5+j]?:=fun j hj=>by rw[hcs1,List.getElem?_take,if_pos hj,List.getElem?_drop];simp
 have hik:i+(n+m-i)=n+m:=by omega
 have hold:(Builtin.firstCells i0.size i (.slice (some ⟨b,off,none⟩) i c)).run Tryz.prog w.drew=.ok cs0.toArray w.drew:=by
  rw[hs0]
  exact run_firstCells_some w.drew 5 i ⟨b,off,none⟩ i c cs0 hl0 (fun j v hj=>by
   have hj2:j<cs0.length:=(List.getElem?_eq_some_iff.1 hj).1
   rw[Addr.add_lit,←hj,hc0 j (by omega)]
   show w.cell? _=_
   simp[World.cell?,hg])
 have hkk:(n:Int)+(m:Int)-(i:Int)=((n+m-i:Nat):Int):=by omega
 have hrz:∀ ty,(Builtin.append_ #[66,3] ty #[.slice (some ⟨b,off,none⟩) i c,.int .i64 ((n:Int)+(m:Int)-(i:Int))]).run Tryz.prog w =
  .ok (.slice (some ⟨w.heap.size,0,none⟩) (n+m) (grownCap w (n+m) c 224)) (w.drew.alloc (.cells (cs0.toArray++Builtin.zeroCells z0.cells (n+m-i)++Builtin.zeroCells z0.cells (grownCap w (n+m) c 224-(n+m))) 224)):=fun ty=>by
  have h:=Lib.run_append_grow_zeros w 66 3 ty 224 i0 z0 .i64 .i64 u66 u3 hi0 hz0 (some ⟨b,off,none⟩) i c cs0 hold (n+m-i) (by omega) (by omega) (by omega) (by omega) (by rw[hb0];omega) (by rw[hb0,hik];exact growslice_fits hroom (by omega))
  rw[hik] at h
  rw[hkk]
  exact h
 obtain⟨cc,hcc⟩:∃ cc,cc=grownCap w (n+m) c 224:=⟨_,rfl⟩
 have hge:n+m≤cc:=by rw[hcc];exact grownCap_ge w _ _ _
 obtain⟨R0,hR0⟩:∃ R,R=cs0.toArray++Builtin.zeroCells z0.cells (n+m-i)++Builtin.zeroCells z0.cells (cc-(n+m)):=⟨_,rfl⟩
 rw[←hcc,←hR0] at hrz
 have hRs:R0.size=cc*5:=by
  rw[hR0]
  simp only[Array.size_append,size_zeroCells,List.size_toArray,hl0,hzc]
  omega
 have hR0c:∀ x,x<i*5→R0[x]? = row[off+x]?:=fun x hx=>by
  rw[hR0,Array.append_assoc,Array.getElem?_append_left (by simp[hl0];omega)]
  rw[List.getElem?_toArray,hc0 x hx]
 have hcc63:cc≤9223372036854775807:=by
  have:=grownCap_le_maxLen w (n+m) c 224 (by unfold maxLen;omega)
  rw[←hcc] at this
  unfold maxLen at this
  omega
 obtain⟨w1,hw1⟩:∃ w1,w1=w.drew.alloc (.cells R0 224):=⟨_,rfl⟩
 rw[←hw1] at hrz
 have hn1:Neu w w1:=by rw[hw1];exact(Neu.refl w).drew.alloc _
 have hg1:w1.heap[w.heap.size]? = some (.cells R0 224 (0,0)):=by rw[hw1];exact heap_alloc_new w.drew _
 obtain⟨R1,hR1⟩:∃ r,r=(R0.toList.take (i*5)++vs++R0.toList.drop (i*5+vs.length)).toArray:=⟨_,rfl⟩
 have hR1s:R1.size=R0.size:=by rw[hR1];simp only[List.size_toArray,List.length_append,List.length_take,List.length_drop,Array.length_toList];omega
 have hcp1:∀ ty dc,(Builtin.copy_ #[66,66] ty #[.slice (some ⟨w.heap.size,i*5,none⟩) (n+m-i) dc,.slice (some ⟨vb,voff,none⟩) m vc]).run Tryz.prog w1=.ok (goInt m) (w1.setRow w.heap.size R1):=fun ty dc=>by
  have hmin:Nat.min m (n+m-i)=m:=by show min _ _=_;omega
  have:=copyK (P:=Tryz.prog) w1 66 66 ty 224 w.heap.size (i*5) (n+m-i) dc ⟨vb,voff,none⟩ m vc 5 R0 224 vs u66 z224 hg1 (by rw[hmin];exact hvl)
   (fun j v hj=>by
    have:=hvs j v hj
    rw[Addr.add_lit]
    rw[World.cell?] at this ⊢
    rw[hn1.old vb hlv]
    exact this) (by omega) h1v
  rw[hmin,←hR1] at this
  exact this
 obtain⟨w2,hw2⟩:∃ w2,w2=w1.setRow w.heap.size R1:=⟨_,rfl⟩
 have hg2:w2.heap[w.heap.size]? = some (.cells R1 224 (0,0)):=by rw[hw2];exact setRow_heap w1 w.heap.size R0 R1 224 (0,0) hg1
 rw[←hw2] at hcp1
 have hb2:w2.drew.heap[b]? = some (.cells row e (0,0)):=by
  show w2.heap[b]? = _
  rw[hw2,setRow_other w1 _ b R1 (by omega),hn1.old b hbw,hg]
 obtain⟨R2,hR2⟩:∃ r,r=(R1.toList.take ((i+m)*5)++cs1++R1.toList.drop ((i+m)*5+cs1.length)).toArray:=⟨_,rfl⟩
 have hR2s:R2.size=R0.size:=by rw[hR2];simp only[List.size_toArray,List.length_append,List.length_take,List.length_drop,Array.length_toList];omega
 have hcp2:∀ ty dc sc,(Builtin.copy_ #[66,66] ty #[.slice (some ⟨w.heap.size,(i+m)*5,none⟩) (n+m-(i+m)) dc,.slice (some ⟨b,off+i*5,none⟩) (n-i) sc]).run Tryz.prog w2.drew=.ok (goInt (n-i:Nat)) (w2.drew.setRow w.heap.size R2):=fun ty dc sc=>by
  have hmin:Nat.min (n-i) (n+m-(i+m))=n-i:=by show min _ _=_;omega
  have:=copyK (P:=Tryz.prog) w2.drew 66 66 ty 224 w.heap.size ((i+m)*5) (n+m-(i+m)) dc ⟨b,off+i*5,none⟩ (n-i) sc 5 R1 224 cs1 u66 z224 hg2 (by rw[hmin];exact hl1)
   (fun j v hj=>by
    have hj2:j<cs1.length:=(List.getElem?_eq_some_iff.1 hj).1
    rw[Addr.add_lit,←hj,hc1 j (by omega)]
    simp[World.cell?,hb2]) (by omega)
   (fun v hv=>by
    obtain⟨j,hj⟩:=List.getElem?_of_mem hv
    have hj2:j<cs1.length:=(List.getElem?_eq_some_iff.1 hj).1
    rw[hc1 j (by omega)] at hj
    exact h1c (i*5+j) v (by omega) (by rw[←hj];congr 1;omega))
  rw[hmin,←hR2] at this
  exact this
 have hr0l:R0.toList.length=R0.size:=Array.length_toList
 have hr1l:R1.toList.length=R1.size:=Array.length_toList
 have hins:insRow row off n m i vs 0 R2:=by
  intro x hx
  rw[Nat.zero_add]
  have e1:R2[x]? = if x<(i+m)*5 then R1[x]? else if x<(i+m)*5+cs1.length then cs1[x-(i+m)*5]? else R1[x]?:=by
   rw[hR2,List.getElem?_toArray,D9 (by omega)]
   simp
  have e2:R1[x]? = if x<i*5 then R0[x]? else if x<i*5+vs.length then vs[x-i*5]? else R0[x]?:=by
   rw[hR1,List.getElem?_toArray,D9 (by omega)]
   simp
  rw[e1]
  by_cases h1:x<i*5
  ·rw[if_pos (by omega),if_pos h1,e2,if_pos h1,hR0c x h1]
  ·rw[if_neg h1]
   by_cases h2:x<(i+m)*5
   ·rw[if_pos h2,if_pos h2,e2,if_neg h1,if_pos (by omega)]
   ·rw[if_neg h2,if_neg h2,if_pos (by omega),hc1 _ (by omega)];congr 1;omega
 have hN:Neu w (w2.drew.setRow w.heap.size R2):=⟨hn1.os▸(by rw[hw2];rfl),hn1.tape▸(by rw[hw2];rfl),hn1.output▸(by rw[hw2];rfl),(by rw[hw2];exact hn1.drawn.trans (DrLe.succ _)),(by
  have:=hn1.size
  have e1:(w2.drew.setRow w.heap.size R2).heap.size=w2.heap.size:=by simp[World.setRow]
  have e2:w2.heap.size=w1.heap.size:=by rw[hw2];simp[World.setRow]
  omega),fun g hgl=>by rw[setRow_other w2.drew _ g R2 (by omega)];show w2.heap[g]? = _;rw[hw2,setRow_other w1 _ g R1 (by omega)];exact hn1.old g hgl⟩
 have hg3:(w2.drew.setRow w.heap.size R2).heap[w.heap.size]? = some (.cells R2 224 (0,0)):=setRow_heap w2.drew w.heap.size R1 R2 224 (0,0) hg2
 have hwi:IntKind.i64.wrap ((i:Int)+(m:Int))=(i:Int)+(m:Int):=by rw[IntKind.wrap_i64];omega
 have hb1:(0:Int)≤(i:Int)+(m:Int):=by omega
 have hin:i≤n:=by omega
 have htn:((i:Int)+(m:Int)).toNat=i+m:=by omega
 have hGi:¬ (cc=i):=by omega
 have hGim:¬ (cc=i+m):=by omega
 have hci:¬ (c=i):=by omega
 have hb3:(i:Int)≤(n:Int):=by omega
 clear hcc hr1l hr0l hR2 hR1 hg2 hg1 hw2 hw1 hb2 hR0 hold hkk hik hcs0 hc0 hl0 hcs1 hc1 hl1 hrl hR0c
 have mixed:Tryz.prog.follows Departure.mixedOrders=true:=by kernel_rfl
 go_enter Tryz.func323,Tryz.ntmps323
 go_wp2_with (first
  | (at_builtin;refine Lib.wpList_append_run _ rfl _ _ _ _ rfl _ _ rfl rfl _ _ (hrz _) ?_)
  | (at_builtin;refine wpCopy _ rfl _ _ 66 66 rfl _ _ rfl rfl (hcp1 _ _) ?_))
 go_region_law_o (refine stCopy rfl _ _ 66 66 rfl (.slice (some ⟨w.heap.size,(i+m)*5,none⟩) (n+m-(i+m)) (cc-(i+m))) (.slice (some ⟨b,off+i*5,none⟩) (n-i) (c-i)) (by simp[Act.eval,Act.put]) (by simp[Act.eval,Act.put]) (hcp2 66 (cc-(i+m)) (c-i)) ?_)
 go_wp2
 go_ret
 exact⟨cc,R2,hge,by omega,rfl,hN,hg3,hins⟩
def O5:GS:=⟨[.g (.sl .module),.l (.v (.el .int)),.g (.sl .module)],[.sl .module],fun(x_:(List SModule)×Int×(List SModule)×Unit)=>x_.1.length≤1100000000000∧0≤x_.2.1∧x_.2.1≤x_.1.length∧x_.2.2.1.length=1,fun(x_:(List SModule)×Int×(List SModule)×Unit)=>((x_.1.take x_.2.1.toNat++x_.2.2.1++x_.1.drop x_.2.1.toNat,()),(()))⟩
open Go.RowKit in
theorem ins_end (w:World) (n:Nat) (ad:Option Addr) (c:Nat) (a:Addr) (m vc:Nat) (hm:0<m) (v':Value) (w':World) (hr:∀ ty,(Builtin.append_ #[66,66] ty #[.slice ad n c,.slice (some a) m vc]).run Tryz.prog w=.ok v' w') (hc:n≤c) :
 Calls Tryz.prog 323 #[.slice ad n c,.int .i64 n,.slice (some a) m vc] w fun e w''=>e=.returned v'∧w''=w':=by
 have u66:Tryz.prog.underlying 66=some (.slice 224):=by kernel_rfl
 have hz1:¬ ((m:Int)=0):=by omega
 cases ad with
 | none=>
  go_enter Tryz.func323,Tryz.ntmps323
  go_wp2_with (at_builtin;refine Lib.wpList_append_run _ rfl _ _ _ _ rfl _ _ rfl rfl _ _ (hr _) ?_)
  all_goals (go_ret;exact⟨rfl,rfl⟩)
 | some b=>
  go_enter Tryz.func323,Tryz.ntmps323
  go_wp2_with (at_builtin;refine Lib.wpList_append_run _ rfl _ _ _ _ rfl _ _ rfl rfl _ _ (hr _) ?_)
  all_goals (go_ret;exact⟨rfl,rfl⟩)
open Go.RowKit in
theorem to_ins {w w':World} {xs ys:List SModule} {i n:Nat} (hn:xs.length=n) (hy:ys.length=1) (hi:i≤n) {us vs:List Value} {G1 G2:Nat→Nat→Nat→Prop} (hul:us.length=n*5) (hvl:vs.length=5)
 (h1:∀ i',i'<n→∀ j,j<5→∃ u,us[i'*5+j]? = some u∧TO w (fcC (cell .module xs i' j)) u (G1 i' j)) (h2:∀ i',i'<1→∀ j,j<5→∃ u,vs[i'*5+j]? = some u∧TO w (fcC (cell .module ys i' j)) u (G2 i' j)) :
 ∀ i',i'<n+1→∀ j,j<5→∃ u,(us.take (i*5)++vs++us.drop (i*5))[i'*5+j]? = some u∧TO w' (fcC (cell .module (xs.take i++ys++xs.drop i) i' j)) u (fun _=>False):=by
 have flat:∀ (zs:List SModule) (k j:Nat) (u:Value) (F:Nat→Prop),j<5→TO w (fcC (cell .module zs k j)) u F→TO w' (fcC (cell .module zs k j)) u (fun _=>False):=by
  intro zs k j u F hj h
  obtain⟨u2,e2⟩:=DC (t:=.module) rfl zs k j hj
  rw[e2] at h ⊢
  exact h
 have tl:(us.take (i*5)).length=i*5:=by rw[List.length_take];omega
 have tx:(xs.take i).length=i:=by rw[List.length_take];omega
 have same:∀ (l1:List SModule) (k k2:Nat) (bs:List SModule),l1.getD k default=bs.getD k2 default→∀ j,cell .module l1 k j=cell .module bs k2 j:=fun l1 k k2 bs e j=>by unfold cell;rw[e]
 intro k hk j hj
 by_cases c1:k<i
 ·obtain⟨u,e1,e2⟩:=h1 k (by omega) j hj
  refine⟨u,?_,?_⟩
  ·rw[List.append_assoc,List.getElem?_append_left (by omega),List.getElem?_take,if_pos (by omega),e1]
  ·rw[same _ k k xs (by rw[List.getD_eq_getElem?_getD,List.getD_eq_getElem?_getD,List.append_assoc,List.getElem?_append_left (by omega),List.getElem?_take,if_pos c1]) j]
   exact flat _ _ _ _ _ hj e2
 ·by_cases c2:k=i
  ·obtain⟨u,e1,e2⟩:=h2 0 (by omega) j hj
   refine⟨u,?_,?_⟩
   ·rw[List.append_assoc,List.getElem?_append_right (by omega),tl,List.getElem?_append_left (by omega),←e1];congr 1;omega
   ·rw[same _ k 0 ys (by rw[List.getD_eq_getElem?_getD,List.getD_eq_getElem?_getD,List.append_assoc,List.getElem?_append_right (by omega),tx,List.getElem?_append_left (by omega)];congr 2;omega) j]
    exact flat _ _ _ _ _ hj e2
  ·obtain⟨u,e1,e2⟩:=h1 (k-1) (by omega) j hj
   refine⟨u,?_,?_⟩
   ·rw[List.append_assoc,List.getElem?_append_right (by omega),tl,List.getElem?_append_right (by omega),hvl,List.getElem?_drop,←e1];congr 1;omega
   ·rw[same _ k (k-1) xs (by rw[List.getD_eq_getElem?_getD,List.getD_eq_getElem?_getD,List.append_assoc,List.getElem?_append_right (by omega),tx,List.getElem?_append_right (by omega),hy,List.getElem?_drop];congr 2;omega) j]
    exact flat _ _ _ _ _ hj e2
open Go.RowKit in
def InsEnd (w:World) (lab:Nat→Prop) (n:Nat) (L:List Value) (e:Ending) (w':World):Prop :=
 ∃ g o c row t,e=.returned (.slice (some ⟨g,o,none⟩) (n+1) c)∧n+1≤c∧o+c*5≤row.size∧w'.heap[g]? = some (.cells row t (0,0))∧(lab g∨w.heap.size≤g)∧g<w'.heap.size∧Onward w w'∧(∀ b,b<w.heap.size→¬ lab b→w'.heap[b]? = w.heap[b]?)∧∀ x,x<(n+1)*5→row[o+x]? = L[x]?
open Go.RowKit in
theorem lt_of_heap {w:World} {g:Nat} {x:Obj} (h:w.heap[g]? = some x):g<w.heap.size:=by
 rcases Nat.lt_or_ge g w.heap.size with q|q
 ·exact q
 ·rw[Array.getElem?_eq_none q] at h;cases h
open Go.RowKit in
theorem insRow_list {row row':Array Value} {off o n i:Nat} {us vs:List Value} (hul:us.length=n*5) (hvl:vs.length=5) (hi:i≤n) (hu:∀ x,x<n*5→row[off+x]? = us[x]?) (h:insRow row off n 1 i vs o row') :
 ∀ x,x<(n+1)*5→row'[o+x]? = (us.take (i*5)++vs++us.drop (i*5))[x]?:=by
 intro x hx
 have tl:(us.take (i*5)).length=i*5:=by rw[List.length_take];omega
 rw[h x hx,List.append_assoc]
 by_cases c1:x<i*5
 ·rw[if_pos c1,List.getElem?_append_left (by omega),List.getElem?_take,if_pos c1,hu x (by omega)]
 ·rw[if_neg c1,List.getElem?_append_right (by omega),tl]
  by_cases c2:x<(i+1)*5
  ·rw[if_pos c2,List.getElem?_append_left (by omega)]
  ·rw[if_neg c2,List.getElem?_append_right (by omega),hvl,List.getElem?_drop,show off+x-1*5=off+(x-5) by omega,hu _ (by omega)];congr 1;omega
open Go.RowKit in
theorem ins_all (w:World) (ow:Nat→Own) (hlt:∀ g,ow g≠.gone→g<w.heap.size) (xs ys:List SModule) (i:Nat) (sv vv:Value) (hn:xs.length≤1100000000000) (hi:i≤xs.length) (hy:ys.length=1)
 (hs:TO w (.sl 5 xs.length fun a b=>fcC (cell .module xs a b)) sv (fun g=>ow g=.lab 0)) (hv:TO w (.sl 5 1 fun a b=>fcC (cell .module ys a b)) vv (fun g=>ow g=.lab 128)) :
 Calls Tryz.prog 323 #[sv,.int .i64 i,vv] w fun e w'=>∃ v',e=.returned v'∧v'.oneCell'=true∧Onward w w'∧(∀ b,b<w.heap.size→ow b≠.lab 0→w'.heap[b]? = w.heap[b]?) ∧
  TO w' (.sl 5 (xs.length+1) fun a b=>fcC (cell .module (xs.take i++ys++xs.drop i) a b)) v' (fun b=>b<w'.heap.size∧(ow b=.lab 0∨w.heap.size≤b)):=by
 obtain⟨n,hnn⟩:∃ n,xs.length=n:=⟨_,rfl⟩
 rw[hnn] at hs hi hn ⊢
 have i224:(Tryz.prog.info? 224).map (fun i=>(i.size,i.bytes,i.zero.map (·.cells.size)))=some (5,64,some 5):=by kernel_rfl
 have u66:Tryz.prog.underlying 66=some (.slice 224):=by kernel_rfl
 obtain⟨i0,z0,hi0,hz0,hs0,hb0,hzc⟩:∃ i z,Tryz.prog.info? 224=some i∧i.zero=some z∧i.size=5∧i.bytes=64∧z.cells.size=5:=by
  cases hq:Tryz.prog.info? 224 with
  | none=>rw[hq] at i224;simp at i224
  | some j=>
   rw[hq] at i224
   simp only[Option.map_some,Option.some.injEq,Prod.mk.injEq] at i224
   obtain⟨a1,a2,a3⟩:=i224
   cases hz:j.zero with
   | none=>rw[hz] at a3;simp at a3
   | some z=>rw[hz] at a3;exact⟨j,z,rfl,hz,a1,a2,by simpa using a3⟩
 obtain⟨us,G1,hus,hu1,hu2,hus1,hud,hub⟩:=Nb (P:=Tryz.prog) (by decide) hs
 obtain⟨vs,G2,hvs,hv1,hv2,hvs1,hvd,hvb⟩:=Nb (P:=Tryz.prog) (by decide) hv
 have hul:=hus.len
 have hvl:vs.length=5:=hvs.len
 have hvv:∃ g o c,vv=.slice (some ⟨g,o,none⟩) 1 c∧1≤c:=by
  rcases hv with⟨_,h⟩|⟨g,o,c,row,e,GG,h,hc,_⟩
  ·omega
  ·exact⟨g,o,c,h,hc⟩
 obtain⟨vb,voff,vc,rfl,hvc⟩:=hvv
 obtain⟨hvow,vrow,ve,hvg,hvn,hvcap,hvrow,_⟩:=hvb vb voff vc rfl (by omega)
 have hlv:=lt_of_heap hvg
 have hvcell:∀ j v,vs[j]? = some v→w.cell? ⟨vb,voff+j,none⟩=some v:=fun j v hj=>by
  have hj2:j<vs.length:=(List.getElem?_eq_some_iff.1 hj).1
  rw[←hj,←hvrow j (by omega)]
  simp[World.cell?,hvg]
 have key:∀ e w',InsEnd w (fun g=>ow g=.lab 0) n (us.take (i*5)++vs++us.drop (i*5)) e w'→∃ v',e=.returned v'∧v'.oneCell'=true∧Onward w w'∧(∀ b,b<w.heap.size→ow b≠.lab 0→w'.heap[b]? = w.heap[b]?) ∧
  TO w' (.sl 5 (n+1) fun a b=>fcC (cell .module (xs.take i++ys++xs.drop i) a b)) v' (fun b=>b<w'.heap.size∧(ow b=.lab 0∨w.heap.size≤b)):=by
  rintro e w' ⟨g,o,c,row,t,rfl,h1,h2,h3,h4,h5,h6,h7,h8⟩
  refine⟨_,rfl,rfl,h6,fun b hb hl=>h7 b hb hl,.inr ⟨g,o,c,row,t,fun _ _ _=>False,rfl,h1,h2,h3,⟨h5,h4⟩,?_,by simp,by simp⟩⟩
  intro k hk j hj
  obtain⟨u,e1,e2⟩:=to_ins (w':=w') hnn hy hi hul hvl hu2 hv2 k hk j hj
  exact⟨u,by rw[Nat.add_assoc,h8 _ (by omega)];exact e1,e2⟩
 have WH:∀ (ad:Option Addr) (c:Nat),sv=.slice ad n c→c<n+1→n≤c→i=n→Calls Tryz.prog 323 #[sv,.int .i64 i,.slice (some ⟨vb,voff,none⟩) 1 vc] w (InsEnd w (fun g=>ow g=.lab 0) n (us.take (i*5)++vs++us.drop (i*5))):=by
  intro ad c hsv hc hnc hin
  subst hsv hin
  have hr:=fun ty=>DT (P:=Tryz.prog) 66 ty 224 i0 z0 u66 hi0 hz0 ad i c us (by rw[hs0];exact hus) (.slice (some ⟨vb,voff,none⟩) 1 vc) 1 vs (by rw[hs0];exact hvs) hc (by omega) (by rw[hb0];omega)
  refine(ins_end w i ad c ⟨vb,voff,none⟩ 1 vc (by decide) _ _ hr hnc).mono ?_
  rintro e w' ⟨rfl,rfl⟩
  have hge:=grownCap_ge w (i+1) c 224
  refine⟨w.heap.size,0,_,_,_,rfl,hge,?_,heap_alloc_new w.drew _,.inr (Nat.le_refl _),by simp,⟨rfl,rfl,⟨rfl,by first|exact DrLe.refl _|exact DrLe.succ _|exact DrLe.add _ _⟩,by simp⟩,fun b hb _=>heap_alloc_old w.drew _ hb,?_⟩
  ·simp only[List.size_toArray,List.length_append,Array.length_toList,size_zeroCells,hzc]
   omega
  ·intro x hx
   rw[Nat.zero_add,List.getElem?_toArray,List.getElem?_append_left (by rw[List.length_append];omega),List.take_of_length_le (by omega),List.drop_of_length_le (by omega),List.append_nil]
 rcases hs with⟨⟨ad,hsv⟩,hn0⟩|⟨b,off,c,row,e,GG,hsv,hnc,hcap,hg,hF,hrow,hsub,hdis⟩
 ·exact(WH ad 0 (by rw[hsv,hn0]) (by omega) (by omega) (by omega)).mono key
 ·by_cases hroom:n+1≤c
  ·obtain⟨_,row2,e2,hg2,_,_,hrw,_⟩:=hub b off c hsv (by omega)
   rw[hg] at hg2
   injection hg2 with hg2
   injection hg2 with q1 q2
   subst q1
   have hne:vb≠b:=by rintro rfl;rw[hF] at hvow;cases hvow
   by_cases hin:i=n
   ·subst hin
    subst hsv
    have hr:=fun ty=>DO (P:=Tryz.prog) 66 ty 224 i0 u66 hi0 b off i c row e hg (.slice (some ⟨vb,voff,none⟩) 1 vc) 1 vs (by rw[hs0];exact hvs) hv1 hroom (by rw[hs0];omega)
    refine((ins_end w i (some ⟨b,off,none⟩) c ⟨vb,voff,none⟩ 1 vc (by decide) _ _ hr hnc).mono ?_).mono key
    rintro e' w' ⟨rfl,rfl⟩
    refine⟨b,off,c,_,e,rfl,hroom,?_,setRow_heap w b row _ e _ hg,.inl hF,by simp[World.setRow];exact lt_of_heap hg,⟨rfl,rfl,⟨rfl,by first|exact DrLe.refl _|exact DrLe.succ _|exact DrLe.add _ _⟩,by simp[World.setRow]⟩,fun b' hb' hl=>setRow_other w b b' _ (by rintro rfl;exact hl hF),?_⟩
    ·simp only[List.size_toArray,List.length_append,List.length_take,List.length_drop,Array.length_toList,hs0]
     omega
    ·intro x hx
     have hrl:row.toList.length=row.size:=Array.length_toList
     rw[List.getElem?_toArray,hs0,D9 (by omega),List.take_of_length_le (by omega),List.drop_of_length_le (by omega),List.append_nil]
     by_cases c1:x<i*5
     ·rw[if_pos (by omega),List.getElem?_append_left (by omega),←hrw x c1];simp
     ·rw[if_neg (by omega),if_pos (by omega),List.getElem?_append_right (by omega)];congr 1;omega
   ·subst hsv
    have h1c:∀ x v,x<n*5→row[off+x]? = some v→v.oneCell'=true:=fun x v hx h=>hu1 v (by rw[hrw x hx] at h;exact List.mem_of_getElem? h)
    refine((ins_room w b off n c i vb voff 1 vc row e vs hg hcap (by omega) (by decide) hroom (by omega) hvl hne hvcell hv1 h1c ve vrow.size (by simp[World.shape?,hvg]) (by simp[World.frozen?,hvg]) (by simp[World.frozen?,hvg])).mono ?_).mono key
    rintro e' w' ⟨rfl,row',rfl,hsz,hins⟩
    exact⟨b,off,c,row',e,rfl,hroom,by omega,setRow_heap w.drew b row row' e _ hg,.inl hF,by simp[World.setRow];exact lt_of_heap hg,⟨rfl,rfl,⟨rfl,by first|exact DrLe.refl _|exact DrLe.succ _|exact DrLe.add _ _⟩,by simp[World.setRow]⟩,fun b' hb' hl=>setRow_other w.drew b b' _ (by rintro rfl;exact hl hF),insRow_list hul hvl hi hrw hins⟩
  ·by_cases hin:i=n
   ·exact(WH (some ⟨b,off,none⟩) c hsv (by omega) hnc hin).mono key
   ·obtain⟨_,row2,e2,hg2,_,_,hrw,_⟩:=hub b off c hsv (by omega)
    rw[hg] at hg2
    injection hg2 with hg2
    injection hg2 with q1 q2
    subst q1
    have hne:vb≠b:=by rintro rfl;rw[hF] at hvow;cases hvow
    subst hsv
    have h1c:∀ x v,x<n*5→row[off+x]? = some v→v.oneCell'=true:=fun x v hx h=>hu1 v (by rw[hrw x hx] at h;exact List.mem_of_getElem? h)
    refine((ins_grow w b off n c i vb voff 1 vc row e vs hg hnc hcap (by omega) (by decide) (by omega) (by omega) hvl hne hlv hvcell hv1 h1c).mono ?_).mono key
    rintro e' w' ⟨c',row',k1,k2,rfl,k3,k4,k5⟩
    exact⟨w.heap.size,0,c',row',224,rfl,k1,by omega,k4,.inr (Nat.le_refl _),lt_of_heap k4,⟨k3.os,k3.tape,⟨k3.output,k3.drawn⟩,k3.size⟩,fun b' hb' _=>k3.old b' hb',insRow_list hul hvl hi hrw k5⟩
theorem k323_251:O5.ok Tryz.prog 323 :=
 by
  rintro⟨(xs:List SModule),(i:Int),(ys:List SModule),⟨⟩⟩ hx w vs G hB hA
  obtain⟨hx1,hx2,hx3,hx4⟩:=(show xs.length≤1100000000000∧0≤i∧i≤xs.length∧ys.length=1 from hx)
  obtain⟨j,rfl⟩:∃ j:Nat,i=j:=⟨i.toNat,by omega⟩
  obtain⟨v0,e0,c0,hc0,r0⟩:=hA.tm 0 (.v false [.ref 0]) rfl
  obtain⟨v1,e1,c1,hc1,r1⟩:=hA.tm 1 (.v false [.sc (.int .i64 j)]) rfl
  obtain⟨v2,e2,c2,hc2,r2⟩:=hA.tm 2 (.v false [.ref 128]) rfl
  injection hc0 with hc0
  injection hc1 with hc1
  injection hc2 with hc2
  subst hc0 hc1 hc2
  have r0:v0=G.hv 0∧v0.oneCell'=true:=r0
  have r1:v1=.int .i64 j∧_:=r1
  have r2:v2=G.hv 128∧v2.oneCell'=true:=r2
  have hs:TO w (.sl 5 xs.length fun a b=>fcC (cell .module xs a b)) (G.hv 0) (fun g=>G.ow g=.lab 0):=hA.hp 0 ⟨.module,xs⟩ rfl
  have hv:TO w (.sl 5 ys.length fun a b=>fcC (cell .module ys a b)) (G.hv 128) (fun g=>G.ow g=.lab 128):=hA.hp 128 ⟨.module,ys⟩ rfl
  rw[hx4] at hv
  have hvs:vs = #[v0,v1,v2]:=by
   apply Array.ext_getElem?
   intro k
   have hsz:vs.size=3:=hA.sz
   match k with
   | 0=>exact e0
   | 1=>exact e1
   | 2=>exact e2
   | k+3=>rw[Array.getElem?_eq_none (by omega),Array.getElem?_eq_none (by simp)]
  rw[hvs,r0.1,r1.1,r2.1]
  refine(ins_all w G.ow hA.lt xs ys j _ _ hx1 (by omega) hx4 hs hv).mono ?_
  rintro e w' ⟨v',rfl,h1,h2,h3,h4⟩
  have hlen:(xs.take j++ys++xs.drop j).length=xs.length+1:=by simp only[List.length_append,List.length_take,List.length_drop];omega
  have hgone:∀ b,w.heap.size≤b→G.ow b=.gone:=by
   intro b hb1
   cases hq:G.ow b with
   | gone=>rfl
   | _=>exact absurd (hA.lt b (by simp[hq])) (by omega)
  refine⟨v',_,rfl,rfl,h2,fun g hg=>h3 g (hA.lt g (by simp[hg])) (by simp[hg]),fun g hg=>(hA.cr g hg).same (h3 g (hA.lt g (by simp[hg])) (by simp[hg])),fun p b=>p=.res 0 0∧b<w'.heap.size∧(G.ow b=.lab 0∨w.heap.size≤b),?_,?_,?_,?_,?_⟩
  ·rintro s b ⟨_,k1,k2⟩
   refine⟨k1,?_,fun b0 hb0=>by cases hb0⟩
   rcases k2 with k2|k2
   ·rw[k2];exact⟨by simp,by simp⟩
   ·rw[hgone b k2];exact⟨by simp,by simp⟩
  ·rintro s s' b ⟨rfl,_⟩ ⟨rfl,_⟩
   rfl
  ·refine⟨_,rfl,?_,h1⟩
   show TO w' (fcC (.l .module (xs.take j++ys++xs.drop j))) v' (fun b=>Pl.res 0 0=Pl.res 0 0∧b<w'.heap.size∧(G.ow b=.lab 0∨w.heap.size≤b))
   rw[C5,hlen]
   have:(fun b=>Pl.res 0 0=Pl.res 0 0∧b<w'.heap.size∧(G.ow b=.lab 0∨w.heap.size≤b))=fun b=>b<w'.heap.size∧(G.ow b=.lab 0∨w.heap.size≤b):=by funext b;simp
   rw[this]
   exact h4
  ·intro l T hl;cases hl
  ·intro b cs hb;cases hb
def Zs:=Ab6.G k323_251
theorem mod_at (f:SModule→SModule) (m:SModule) (B:List SModule):∀ A:List SModule,(A++[m]++B).modify A.length f=A++[f m]++B
 | []=>rfl
 | a::A=>congrArg (List.cons a) (mod_at f m B A)
theorem ins_mod {l:List SModule} {i:Nat} {m:SModule} (f:SModule→SModule) (h:i≤l.length):(l.take i++[m]++l.drop i).modify i f=l.take i++[f m]++l.drop i:=by
 have e:(l.take i).length=i:=by rw[List.length_take];omega
 have:=mod_at f m (l.drop i) (l.take i)
 rwa [e] at this
theorem ins_get {l:List SModule} {i:Nat} {m:SModule} (h:i≤l.length):(l.take i++[m]++l.drop i).getD i default=m:=by
 have e:(l.take i).length=i:=by rw[List.length_take];omega
 rw[List.getD_eq_getElem?_getD,List.append_assoc,List.getElem?_append_right (by omega),e,Nat.sub_self]
 rfl
theorem ins_len {l:List SModule} {i:Nat} {m:SModule} (h:i≤l.length):(l.take i++[m]++l.drop i).length=l.length+1:=by
 simp only[List.length_append,List.length_take,List.length_drop,List.length_cons,List.length_nil];omega
theorem ask_ins {p:SPage} {a:SAddr} {i:Nat} (h:askFrom a p.mods=i) (h0:i≤p.mods.length) (h1:i=p.mods.length∨¬ (p.mods.getD i default).to=a) (m:SModule) (hm:m=newMod p a):askModule p a={ p with mods:=p.mods.take i++[m]++p.mods.drop i }:=by
 rw[ask_new h h0 h1 m hm,askCut h0,List.append_assoc];rfl
abbrev Bx (p:SPage) (a:SAddr):LInv:=⟨[⟨.s,6,true,.el .int⟩,⟨.b,2,false,.el .page⟩,⟨.b,3,true,.el .addr⟩,⟨.b,4,true,.el .page⟩,⟨.b,5,true,.el .page⟩],fun(z_:Int×SPage×SAddr×SPage×SPage×Unit) (x_:Int×SPage×SAddr×SPage×SPage×Unit)=>((((0≤x_.1∧x_.1≤p.mods.length∧x_.1+askFrom a (p.mods.drop x_.1.toNat)=askFrom a p.mods)∧x_.2.1=z_.2.1)∧x_.2.2.1=z_.2.2.1)∧x_.2.2.2.1=z_.2.2.2.1)∧x_.2.2.2.2.1=z_.2.2.2.2.1,fun(x_:Int×SPage×SAddr×SPage×SPage×Unit)=>p.mods.length-x_.1.toNat⟩
theorem k301_252:AI.ok Tryz.prog 301:=Fct.p (KP [2,3,4,5,6] [24,41,57]) (fun⟨p,a,_⟩=>lv [(3,Bx p a)]) Zs.2 Tryz.func301 (by
 rintro⟨(p:SPage),(a:SAddr),_⟩ hp
 refine ho (let q5_:=List SModule;.cl fCopyPage (p,()) fun z2=>lpx (Bx p a) ((0:Int),(p,(a,(default,(z2.1,()))))) fun(y2:Int×SPage×SAddr×SPage×SPage×PUnit) bk2=>let q8_:Out:=.lf AI (y2.2.2.2.2.1,());let q7_:=inB y2.1 y2.2.1.mods.length;let q6_:=y2.2.1.mods.getD y2.1.toNat default;let q4_:=decide (y2.1<(↑y2.2.1.mods.length:Int));let q1_:=q6_.to.host==y2.2.2.1.host&&(q6_.to.path==y2.2.2.1.path&&true);let q0_:=(⟨y2.2.2.1,false,(0:Int),(⟨#[]⟩:ByteArray)⟩:SModule);let q3_:=O5.fn (y2.2.2.2.2.1.mods,y2.1,[q0_],());let q2_:=O5.pre (y2.2.2.2.2.1.mods,y2.1,[q0_],());.br q4_ (.ob q7_<|.cl AC (q6_.to,y2.2.2.1,()) fun(z3:Int×PUnit)=>.br (decide (z3.1<0)) (.ob (bk2 (w1 y2.1,(y2.2.1,(y2.2.2.1,(y2.2.2.2.1,(y2.2.2.2.2.1,()))))))<|.ok) (.br q4_ (.ob q7_<|.br q1_ q8_ (.ob q2_<|.lt _ q3_ fun z4=>.cl BU (({y2.2.2.2.2.1 with mods:=z4.1.1}:SPage),y2.1,()) fun z5=>.cl Ah (y2.2.1.policy,z5.1,()) fun(z6:Int×PUnit)=>.br (z6.1 != 1) (.ob (inB y2.1 z4.1.1.length)<|.ob (y2.1.toNat<z4.1.1.length)<|.lt q5_ (z4.1.1.modify y2.1.toNat fun z=>({z with done:=true}:SModule)) fun z7=>.ob (inB y2.1 z7.length)<|.ob (y2.1.toNat<z7.length)<|.lt q5_ (z7.modify y2.1.toNat fun z=>({z with code:=(2:Int)}:SModule)) fun z8=>.lf AI ({y2.2.2.2.2.1 with mods:=z8},())) (.lf AI ({y2.2.2.2.2.1 with mods:=z4.1.1},())))) (.ob q2_<|.lt _ q3_ fun z9=>.cl BU (({y2.2.2.2.2.1 with mods:=z9.1.1}:SPage),y2.1,()) fun z10=>.cl Ah (y2.2.1.policy,z10.1,()) fun(z11:Int×PUnit)=>.br (z11.1 != 1) (.ob (inB y2.1 z9.1.1.length)<|.ob (y2.1.toNat<z9.1.1.length)<|.lt q5_ (z9.1.1.modify y2.1.toNat fun z=>({z with done:=true}:SModule)) fun z12=>.ob (inB y2.1 z12.length)<|.ob (y2.1.toNat<z12.length)<|.lt q5_ (z12.modify y2.1.toNat fun z=>({z with code:=(2:Int)}:SModule)) fun z13=>.lf AI ({y2.2.2.2.2.1 with mods:=z13},())) (.lf AI ({y2.2.2.2.2.1 with mods:=z9.1.1},()))))) (.br q4_ (.ob q7_<|.br q1_ q8_ (.ob q2_<|.lt _ q3_ fun z14=>.cl BU (({y2.2.2.2.2.1 with mods:=z14.1.1}:SPage),y2.1,()) fun z15=>.cl Ah (y2.2.1.policy,z15.1,()) fun(z16:Int×PUnit)=>.br (z16.1 != 1) (.ob (inB y2.1 z14.1.1.length)<|.ob (y2.1.toNat<z14.1.1.length)<|.lt q5_ (z14.1.1.modify y2.1.toNat fun z=>({z with done:=true}:SModule)) fun z17=>.ob (inB y2.1 z17.length)<|.ob (y2.1.toNat<z17.length)<|.lt q5_ (z17.modify y2.1.toNat fun z=>({z with code:=(2:Int)}:SModule)) fun z18=>.lf AI ({y2.2.2.2.2.1 with mods:=z18},())) (.lf AI ({y2.2.2.2.2.1 with mods:=z14.1.1},())))) (.ob q2_<|.lt _ q3_ fun z19=>.cl BU (({y2.2.2.2.2.1 with mods:=z19.1.1}:SPage),y2.1,()) fun z20=>.cl Ah (y2.2.1.policy,z20.1,()) fun(z21:Int×PUnit)=>.br (z21.1 != 1) (.ob (inB y2.1 z19.1.1.length)<|.ob (y2.1.toNat<z19.1.1.length)<|.lt q5_ (z19.1.1.modify y2.1.toNat fun z=>({z with done:=true}:SModule)) fun z22=>.ob (inB y2.1 z22.length)<|.ob (y2.1.toNat<z22.length)<|.lt q5_ (z22.modify y2.1.toNat fun z=>({z with code:=(2:Int)}:SModule)) fun z23=>.lf AI ({y2.2.2.2.2.1 with mods:=z23},())) (.lf AI ({y2.2.2.2.2.1 with mods:=z19.1.1},()))))) ?_
 refine Ae ?_ fun o1=>(AG ?_ fun(y2:Int×SPage×SAddr×SPage×SPage×PUnit) i2=>Ab (fun h3=>Aa ?_ fun o4=>Ae trivial fun _=>(Ab (fun h5=>Aa ?_ fun o6=>trivial) (fun h5=>Ab (fun h7=>Aa ?_ fun o8=>Ab (fun h9=>lfY ?_) (fun h9=>Aa ?_ fun o10=>Co (Ae ?_ fun o11=>(Ae ?_ fun o12=>(Ab (fun h13=>Aa ?_ fun o14=>Aa ?_ fun o15=>Co (Aa ?_ fun o16=>Aa ?_ fun o17=>Co (lfY ?_))) (fun h13=>lfY ?_)))))) (fun h7=>Aa ?_ fun o18=>Co (Ae ?_ fun o19=>(Ae ?_ fun o20=>(Ab (fun h21=>Aa ?_ fun o22=>Aa ?_ fun o23=>Co (Aa ?_ fun o24=>Aa ?_ fun o25=>Co (lfY ?_))) (fun h21=>lfY ?_)))))))) (fun h3=>Ab (fun h26=>Aa ?_ fun o27=>Ab (fun h28=>lfY ?_) (fun h28=>Aa ?_ fun o29=>Co (Ae ?_ fun o30=>(Ae ?_ fun o31=>(Ab (fun h32=>Aa ?_ fun o33=>Aa ?_ fun o34=>Co (Aa ?_ fun o35=>Aa ?_ fun o36=>Co (lfY ?_))) (fun h32=>lfY ?_)))))) (fun h26=>Aa ?_ fun o37=>Co (Ae ?_ fun o38=>(Ae ?_ fun o39=>(Ab (fun h40=>Aa ?_ fun o41=>Aa ?_ fun o42=>Co (Aa ?_ fun o43=>Aa ?_ fun o44=>Co (lfY ?_))) (fun h40=>lfY ?_)))))))
 all_goals
  have hl:p.mods.length≤1090000000000:=by have h1:szPage p≤1090000000000:=hp.1;have:=Ad Ar p.mods;simp only[szPage] at h1;omega
  have hpo:szPolicy p.policy≤1090000000000∧p.addr.host.size≤50000000000:=by have h1:szPage p≤1090000000000:=hp.1;have h2:p.addr.host.size≤4000000000:=hp.2.1;simp only[szPage,szAddr] at h1;omega
  try simp only[AH] at *
  try simp only[Bx,AI,Ah,AC,fCopyPage,O5,BU,std,Nat.reduceAdd,fCopyPage,AC,Ah,O5,BU] at *
 all_goals first|trivial|omega|exact⟨by omega,by omega,by simp⟩|skip
 all_goals try (obtain⟨⟨⟨⟨⟨a1,a2,a3⟩,e1⟩,e2⟩,e3⟩,e4⟩:=i2;simp only[e1,e2,e3,e4,EK,decide_eq_true_eq,decide_eq_false_iff_not] at *)
 all_goals
  have hi:y2.1.toNat≤p.mods.length:=by omega
  have hr:∀ q:SPage,q.mods=p.mods.take y2.1.toNat++[⟨a,false,0,⟨#[]⟩⟩]++p.mods.drop y2.1.toNat→q.addr=p.addr→modRequest q y2.1=⟨5,a,p.addr.host,⟨#[]⟩⟩:=fun q h1 h2=>by unfold modRequest;rw[h1,h2,ins_len hi,ins_get hi,if_pos (by omega)]
  try simp only[hr,ins_mod _ hi,ins_len hi,List.length_modify] at *
 all_goals first|trivial|omega|exact⟨by omega,by simp only[szRequest,szAddr] at *;show _+_+0≤_;omega⟩|skip
 all_goals first|(have e:=askFrom_at (a:=a) (l:=p.mods) (i:=y2.1.toNat) (by omega);first|rw[if_pos (by omega)] at e|rw[if_neg (by omega)] at e)|(have e:=askFrom_end (a:=a) (l:=p.mods) (i:=y2.1.toNat) (by omega))
 all_goals first|(rw[An (by omega),show(y2.1+1).toNat=y2.1.toNat+1 by omega];simp only[and_true];exact⟨⟨by omega,by omega,by omega⟩,by omega⟩)|skip
 all_goals have e5:askFrom a p.mods=y2.1.toNat:=by omega
 all_goals first|(rw[ask_found e5 (by omega) (by assumption)];done)|(rw[ask_ins e5 (by omega) (by first|exact .inr (by assumption)|exact .inl (by omega)) _ (by first|exact newMod_ok (by assumption)|exact newMod_no (by assumption))])|skip)
def Ab1:=Zs.a k301_252
def addEntry (p:SPage) (to:ByteArray):SPage :=
 if(parseAddr to p.addr.host).2=true∧p.entries.length<20 then{ askModule p (parseAddr to p.addr.host).1 with entries:=p.entries++[(parseAddr to p.addr.host).1]} else p
theorem ask_ent (p:SPage) (a:SAddr) (l:List SAddr):askModule { p with entries:=l } a={ askModule p a with entries:=l }:=by
 unfold askModule newMod
 split<;>rfl
theorem ask_entries (p:SPage) (a:SAddr):(askModule p a).entries=p.entries:=by unfold askModule;split<;>rfl
def fAddEntry:Fct:=⟨[.v (.el .page),.v (.el .str)],[.el .page],fun(x_:SPage×ByteArray×Unit)=>szPage x_.1≤1050000000000∧x_.1.addr.host.size≤4000000000∧x_.2.1.size≤4000000000,fun(x_:SPage×ByteArray×Unit)=>(addEntry x_.1 x_.2.1,())⟩
theorem k248_253:fAddEntry.ok Tryz.prog 248:=Fct.o (KP [1,2,4,5,6,7] [23]) Ab1.2 Tryz.func248 (by
 rintro⟨(p:SPage),(to:ByteArray),_⟩ hp
 refine ho (.cl Aq (to,p.addr.host,()) fun z2=>.br (!z2.2.1) (.cl fCopyPage (p,()) fun z3=>.lf fAddEntry (z3.1,())) (.br (decide ((↑p.entries.length:Int)≥20)) (.cl fCopyPage (p,()) fun z4=>.lf fAddEntry (z4.1,())) (.cl AI (p,z2.1,()) fun z5=>.ob (True)<|.ob (Bi (z5.1.entries.length+[z2.1].length) 32)<|.lf fAddEntry (⟨z5.1.addr,z5.1.policy,z5.1.tok,z5.1.queue,z5.1.ended,z5.1.builder,z5.1.slots,z5.1.mods,z5.1.entries++[z2.1],z5.1.block,z5.1.inline,z5.1.deferred,z5.1.entered,z5.1.ran,z5.1.log,z5.1.loaded⟩,())))) ?_
 refine Ae ?_ fun o1=>(Ab (fun h2=>Ae ?_ fun o3=>(lfY ?_)) (fun h2=>Ab (fun h4=>Ae ?_ fun o5=>(lfY ?_)) (fun h4=>Ae ?_ fun o6=>(Aa trivial fun _=>Aa ?_ fun o7=>lfY ?_))))
 all_goals
  have hl:szL szAddr p.entries+1≤1050000000001:=by have h1:szPage p≤1050000000000:=hp.1;simp only[szPage] at h1;omega
  have hl2:=Ad szAddr p.entries
  have hz:=parseAddr_sz to p.addr.host
  have hs:szPage { p with entries:=p.entries++[(parseAddr to p.addr.host).1]}≤szPage p+szAddr (parseAddr to p.addr.host).1+1:=by simp only[szPage,szL_app,szL_cons,show szL szAddr []=0 from rfl];omega
  have ha:szAddr (parseAddr to p.addr.host).1≤16000000000:=by simp only[szAddr];have q1:p.addr.host.size≤4000000000:=hp.2.1;have q2:to.size≤4000000000:=hp.2.2;omega
  try simp only[AH] at *
  try simp only[fAddEntry,AI,fCopyPage,Aq,std,Nat.reduceAdd,fCopyPage,Aq,AI,ask_ent,ask_entries] at *
 all_goals first|trivial|omega|skip
 all_goals unfold addEntry
 all_goals first|rw[if_pos ⟨by assumption,by omega⟩]|rw[if_neg (by rintro⟨q1,q2⟩;first|omega|(rw[show(parseAddr to p.addr.host).2=false by assumption] at q1;cases q1))])
def Zv:=Ab1.a k248_253
theorem k270_254:fAddEntry.ok Tryz.prog 270:=Fct.o (KP [1,2,4,5,6,7] [25]) Zv.2 Tryz.func270 (by
 rintro⟨(p:SPage),(to:ByteArray),_⟩ hp
 refine ho (.cl fCopyPage (p,()) fun z2=>.cl Aq (to,p.addr.host,()) fun z3=>.br (!z3.2.1) (.lf fAddEntry (z2.1,())) (.br (decide ((↑p.entries.length:Int)≥20)) (.lf fAddEntry (z2.1,())) (.ob (True)<|.ob (Bi (z2.1.entries.length+[z3.1].length) 32)<|.cl AI ((⟨z2.1.addr,z2.1.policy,z2.1.tok,z2.1.queue,z2.1.ended,z2.1.builder,z2.1.slots,z2.1.mods,z2.1.entries++[z3.1],z2.1.block,z2.1.inline,z2.1.deferred,z2.1.entered,z2.1.ran,z2.1.log,z2.1.loaded⟩:SPage),z3.1,()) fun z4=>.lf fAddEntry (z4.1,())))) ?_
 refine Ae ?_ fun o1=>(Ae ?_ fun o2=>(Ab (fun h3=>lfY ?_) (fun h3=>Ab (fun h4=>lfY ?_) (fun h4=>Aa trivial fun _=>Aa ?_ fun o5=>Ae ?_ fun o6=>(lfY ?_)))))
 all_goals
  have hl:szL szAddr p.entries+1≤1050000000001:=by have h1:szPage p≤1050000000000:=hp.1;simp only[szPage] at h1;omega
  have hl2:=Ad szAddr p.entries
  have hz:=parseAddr_sz to p.addr.host
  have hs:szPage { p with entries:=p.entries++[(parseAddr to p.addr.host).1]}≤szPage p+szAddr (parseAddr to p.addr.host).1+1:=by simp only[szPage,szL_app,szL_cons,show szL szAddr []=0 from rfl];omega
  have ha:szAddr (parseAddr to p.addr.host).1≤16000000000:=by simp only[szAddr];have q1:p.addr.host.size≤4000000000:=hp.2.1;have q2:to.size≤4000000000:=hp.2.2;omega
  try simp only[AH] at *
  try simp only[fAddEntry,AI,fCopyPage,Aq,std,Nat.reduceAdd,fCopyPage,Aq,AI,ask_ent,ask_entries] at *
 all_goals first|trivial|omega|skip
 all_goals unfold addEntry
 all_goals first|rw[if_pos ⟨by assumption,by omega⟩]|rw[if_neg (by rintro⟨q1,q2⟩;first|omega|(rw[show(parseAddr to p.addr.host).2=false by assumption] at q1;cases q1))])
def AbW:=Zv.a k270_254
def element (p:SPage) (t:SToken) (n:Int):SPage :=
 if t.name=⟨#[108,105,110,107]⟩∧(findAttr t.attrs ⟨#[104,114,101,102]⟩).isSome=true then(addSlot p 2 ((findAttr t.attrs ⟨#[104,114,101,102]⟩).getD ⟨#[]⟩) ((findAttr t.attrs ⟨#[100,105,103,101,115,116]⟩).getD ⟨#[]⟩) n).1
 else if t.name=⟨#[105,109,103]⟩∧(findAttr t.attrs ⟨#[115,114,99]⟩).isSome=true then(addSlot p 1 ((findAttr t.attrs ⟨#[115,114,99]⟩).getD ⟨#[]⟩) ((findAttr t.attrs ⟨#[100,105,103,101,115,116]⟩).getD ⟨#[]⟩) n).1
 else p
def AF:GS:=⟨[.g (.el .page),.i 8 (.el .token),.l (.v (.el .int))],[.el .page],fun(x_:SPage×SToken×Int×Unit)=>szPage x_.1≤1050000000000∧x_.1.addr.host.size≤4000000000∧Af x_.2.1≤4000000000,fun(x_:SPage×SToken×Int×Unit)=>((element x_.1 x_.2.1 x_.2.2.1,()),(()))⟩
theorem k204_255:AF.ok Tryz.prog 204:=GS.of (S:=AF) (L:=fun _ _=>none) (kp:=(KP [2,3,4,6,7,9,10,11,12] [30,50])) AbW.2 Tryz.func204 (by kernel_rfl) (by kernel_rfl) (by
 rintro⟨(p:SPage),(t:SToken),(n:Int),_⟩ hp
 refine ho (.cl fFindAttr (t.attrs,(⟨#[100,105,103,101,115,116]⟩:ByteArray),()) fun z2=>.cl fFindAttr (t.attrs,(⟨#[104,114,101,102]⟩:ByteArray),()) fun z3=>.br (z3.2.1) (.br (t.name.toList==(⟨#[108,105,110,107]⟩:ByteArray).toList) (.cl fAddSlot (p,(2:Int),z3.1,z2.1,n,()) fun(z4:SPage×Int×PUnit)=>.cl fFindAttr (t.attrs,(⟨#[115,114,99]⟩:ByteArray),()) fun z5=>.br (z5.2.1) (.br (t.name.toList==(⟨#[105,109,103]⟩:ByteArray).toList) (.cl fAddSlot (z4.1,(1:Int),z5.1,z2.1,n,()) fun(z6:SPage×Int×PUnit)=>GS.out AF ((z6.1,()),(()))) (GS.out AF ((z4.1,()),(())))) (GS.out AF ((z4.1,()),(())))) (.cl fFindAttr (t.attrs,(⟨#[115,114,99]⟩:ByteArray),()) fun z7=>.br (z7.2.1) (.br (t.name.toList==(⟨#[105,109,103]⟩:ByteArray).toList) (.cl fAddSlot (p,(1:Int),z7.1,z2.1,n,()) fun(z8:SPage×Int×PUnit)=>GS.out AF ((z8.1,()),(()))) (GS.out AF ((p,()),(())))) (GS.out AF ((p,()),(()))))) (.cl fFindAttr (t.attrs,(⟨#[115,114,99]⟩:ByteArray),()) fun z9=>.br (z9.2.1) (.br (t.name.toList==(⟨#[105,109,103]⟩:ByteArray).toList) (.cl fAddSlot (p,(1:Int),z9.1,z2.1,n,()) fun(z10:SPage×Int×PUnit)=>GS.out AF ((z10.1,()),(()))) (GS.out AF ((p,()),(())))) (GS.out AF ((p,()),(()))))) ?_
 refine Ae ?_ fun o1=>(Ae ?_ fun o2=>(Ab (fun h3=>Ab (fun h4=>Ae ?_ fun o5=>(Ae ?_ fun o6=>(Ab (fun h7=>Ab (fun h8=>Ae ?_ fun o9=>(GS.leafY ?_)) (fun h8=>GS.leafY ?_)) (fun h7=>GS.leafY ?_)))) (fun h4=>Ae ?_ fun o10=>(Ab (fun h11=>Ab (fun h12=>Ae ?_ fun o13=>(GS.leafY ?_)) (fun h12=>GS.leafY ?_)) (fun h11=>GS.leafY ?_)))) (fun h3=>Ae ?_ fun o14=>(Ab (fun h15=>Ab (fun h16=>Ae ?_ fun o17=>(GS.leafY ?_)) (fun h16=>GS.leafY ?_)) (fun h15=>GS.leafY ?_)))))
 all_goals
  have h1:=findAttr_sz t.attrs ⟨#[104,114,101,102]⟩
  have h2:=findAttr_sz t.attrs ⟨#[115,114,99]⟩
  have h3:=findAttr_sz t.attrs ⟨#[100,105,103,101,115,116]⟩
  have h4:szL AK t.attrs≤4000000000∧t.attrs.length≤4000000000:=by have q:=hp.2.2;have:=Ad AK t.attrs;simp only[Af] at q;omega
  try simp only[AH] at *
  try simp only[fAddSlot,AF,fFindAttr,std,Nat.reduceAdd,element,fFindAttr,fAddSlot] at *
  try simp(disch:=omega) only[wrapId',toNat1] at *
  try simp(disch:=omega) only[if_pos,if_neg]
 all_goals first|trivial|omega|grind[wrapId',toNat1,drop_cons,drop_end,good_len,maxLen,element,fFindAttr,fAddSlot])
def Abv:=AbW.G k204_255
def script (p:SPage) (n:Int):SPage :=
 if(findAttr (p.builder.nodes.getD n.toNat default).attrs ⟨#[115,114,99]⟩).isSome=false then(if allowsInline p.policy ((findAttr (p.builder.nodes.getD n.toNat default).attrs ⟨#[110,111,110,99,101]⟩).getD ⟨#[]⟩)=true then{ p with inline:=n } else p)
 else if(findAttr (p.builder.nodes.getD n.toNat default).attrs ⟨#[107,105,110,100]⟩).getD ⟨#[]⟩=⟨#[100,101,102,101,114]⟩ then(addSlot p 4 ((findAttr (p.builder.nodes.getD n.toNat default).attrs ⟨#[115,114,99]⟩).getD ⟨#[]⟩) ((findAttr (p.builder.nodes.getD n.toNat default).attrs ⟨#[100,105,103,101,115,116]⟩).getD ⟨#[]⟩) n).1
 else if(findAttr (p.builder.nodes.getD n.toNat default).attrs ⟨#[107,105,110,100]⟩).getD ⟨#[]⟩=⟨#[109,111,100,117,108,101]⟩ then addEntry p ((findAttr (p.builder.nodes.getD n.toNat default).attrs ⟨#[115,114,99]⟩).getD ⟨#[]⟩)
 else{ (addSlot p 3 ((findAttr (p.builder.nodes.getD n.toNat default).attrs ⟨#[115,114,99]⟩).getD ⟨#[]⟩) ((findAttr (p.builder.nodes.getD n.toNat default).attrs ⟨#[100,105,103,101,115,116]⟩).getD ⟨#[]⟩) n).1 with block:=(addSlot p 3 ((findAttr (p.builder.nodes.getD n.toNat default).attrs ⟨#[115,114,99]⟩).getD ⟨#[]⟩) ((findAttr (p.builder.nodes.getD n.toNat default).attrs ⟨#[100,105,103,101,115,116]⟩).getD ⟨#[]⟩) n).2+1 }
theorem pageParts (p:SPage):szL Af p.queue+szBuilder p.builder+szL AL p.slots+szL Ar p.mods+szL szAddr p.entries+szL szAddr p.ran+szL Ac p.log+szPolicy p.policy+szAddr p.addr≤szPage p:=by simp only[szPage];omega
theorem addSlot_in (p:SPage) (m:Int) (to d:ByteArray) (n:Int) : -1≤(addSlot p m to d n).2∧(addSlot p m to d n).2≤20:=by
 unfold addSlot
 split
 ·dsimp only;omega
 ·dsimp only;omega
theorem node_attrs (l:List SNode) (n:Nat) (h:n<l.length):szL AK (l.getD n default).attrs≤szL szNode l:=by
 have:=Dk szNode (l:=l) h
 simp only[szNode] at *;omega
def AQ:GS:=⟨[.g (.el .page),.l (.v (.el .int))],[.el .page],fun(x_:SPage×Int×Unit)=>szPage x_.1≤1050000000000∧x_.1.addr.host.size≤4000000000∧szL szNode x_.1.builder.nodes≤4000000000∧0≤x_.2.1∧x_.2.1<x_.1.builder.nodes.length,fun(x_:SPage×Int×Unit)=>((script x_.1 x_.2.1,()),(()))⟩
theorem k205_256:AQ.ok Tryz.prog 205:=GS.of (S:=AQ) (L:=fun _ _=>none) (kp:=(KP [1,2,4,5,6,7,8,10,12,14,15] [55,61,64,75])) Abv.2 Tryz.func205 (by kernel_rfl) (by kernel_rfl) (by
 rintro⟨(p:SPage),(n:Int),_⟩ hp
 refine ho (.ob (inB n p.builder.nodes.length)<|.ob (Int.toNat n<p.builder.nodes.length)<|.cl fFindAttr ((p.builder.nodes.getD (Int.toNat n) default).attrs,(⟨#[115,114,99]⟩:ByteArray),()) fun z2=>.cl fFindAttr ((p.builder.nodes.getD (Int.toNat n) default).attrs,(⟨#[107,105,110,100]⟩:ByteArray),()) fun z3=>.cl fFindAttr ((p.builder.nodes.getD (Int.toNat n) default).attrs,(⟨#[100,105,103,101,115,116]⟩:ByteArray),()) fun z4=>.cl fFindAttr ((p.builder.nodes.getD (Int.toNat n) default).attrs,(⟨#[110,111,110,99,101]⟩:ByteArray),()) fun z5=>.br (!z2.2.1) (.cl fAllowsInline (p.policy,z5.1,()) fun z6=>.br (z6.1) (GS.out AQ ((⟨p.addr,p.policy,p.tok,p.queue,p.ended,p.builder,p.slots,p.mods,p.entries,p.block,n,p.deferred,p.entered,p.ran,p.log,p.loaded⟩,()),(()))) (GS.out AQ ((p,()),(())))) (.br (z3.1.toList==(⟨#[100,101,102,101,114]⟩:ByteArray).toList) (.cl fAddSlot (p,(4:Int),z2.1,z4.1,n,()) fun(z7:SPage×Int×PUnit)=>GS.out AQ ((z7.1,()),(()))) (.br (z3.1.toList==(⟨#[109,111,100,117,108,101]⟩:ByteArray).toList) (.cl fAddEntry (p,z2.1,()) fun z8=>GS.out AQ ((z8.1,()),(()))) (.cl fAddSlot (p,(3:Int),z2.1,z4.1,n,()) fun(z9:SPage×Int×PUnit)=>GS.out AQ ((⟨z9.1.addr,z9.1.policy,z9.1.tok,z9.1.queue,z9.1.ended,z9.1.builder,z9.1.slots,z9.1.mods,z9.1.entries,w1 z9.2.1,z9.1.inline,z9.1.deferred,z9.1.entered,z9.1.ran,z9.1.log,z9.1.loaded⟩,()),(())))))) ?_
 refine Aa ?_ fun o1=>Aa ?_ fun o2=>Ae ?_ fun o3=>(Ae ?_ fun o4=>(Ae ?_ fun o5=>(Ae ?_ fun o6=>(Ab (fun h7=>Ae trivial fun _=>(Ab (fun h8=>GS.leafY ?_) (fun h8=>GS.leafY ?_))) (fun h7=>Ab (fun h9=>Ae ?_ fun o10=>(GS.leafY ?_)) (fun h9=>Ab (fun h11=>Ae ?_ fun o12=>(GS.leafY ?_)) (fun h11=>Ae ?_ fun o13=>(GS.leafY ?_))))))))
 all_goals
  have hn:=node_attrs p.builder.nodes n.toNat (by have q1:0≤n:=hp.2.2.2.1;have q2:n<p.builder.nodes.length:=hp.2.2.2.2;omega)
  have hn2:=Ad AK (p.builder.nodes.getD n.toNat default).attrs
 all_goals generalize hat:(p.builder.nodes.getD n.toNat default).attrs=at_ at *
 all_goals
  have h1:=findAttr_sz at_ ⟨#[110,111,110,99,101]⟩
  have h2:=findAttr_sz at_ ⟨#[115,114,99]⟩
  have h3:=findAttr_sz at_ ⟨#[100,105,103,101,115,116]⟩
  have h4:=fun m to d=>addSlot_in p m to d n
  try simp only[AH] at *
  try simp only[fAddEntry,fAddSlot,fAllowsInline,fFindAttr,AQ,std,Nat.reduceAdd,script,fFindAttr,fAddSlot,fAllowsInline,fAddEntry] at *
  try simp(disch:=omega) only[wrapId',toNat1] at *
  try simp(disch:=omega) only[if_pos,if_neg]
 all_goals first|trivial|omega|grind[wrapId',toNat1,drop_cons,drop_end,good_len,maxLen,script,fFindAttr,fAddSlot,fAllowsInline,fAddEntry])
def ZI:=Abv.G k205_256
theorem k227_257:AF.ok Tryz.prog 227:=GS.of (S:=AF) (L:=fun _ _=>none) (kp:=(KP [2,3,4,6,7,9,10,11,12] [31,46])) ZI.2 Tryz.func227 (by kernel_rfl) (by kernel_rfl) (by
 rintro⟨(p:SPage),(t:SToken),(n:Int),_⟩ hp
 refine ho (.cl fFindAttr (t.attrs,(⟨#[100,105,103,101,115,116]⟩:ByteArray),()) fun z2=>.cl fFindAttr (t.attrs,(⟨#[104,114,101,102]⟩:ByteArray),()) fun z3=>.cl fFindAttr (t.attrs,(⟨#[115,114,99]⟩:ByteArray),()) fun z4=>.br (t.name.toList==(⟨#[108,105,110,107]⟩:ByteArray).toList) (.br (z3.2.1) (.cl fAddSlot (p,(2:Int),z3.1,z2.1,n,()) fun(z5:SPage×Int×PUnit)=>GS.out AF ((z5.1,()),(()))) (.br (t.name.toList==(⟨#[105,109,103]⟩:ByteArray).toList) (.br (z4.2.1) (.cl fAddSlot (p,(1:Int),z4.1,z2.1,n,()) fun(z6:SPage×Int×PUnit)=>GS.out AF ((z6.1,()),(()))) (GS.out AF ((p,()),(())))) (GS.out AF ((p,()),(()))))) (.br (t.name.toList==(⟨#[105,109,103]⟩:ByteArray).toList) (.br (z4.2.1) (.cl fAddSlot (p,(1:Int),z4.1,z2.1,n,()) fun(z7:SPage×Int×PUnit)=>GS.out AF ((z7.1,()),(()))) (GS.out AF ((p,()),(())))) (GS.out AF ((p,()),(()))))) ?_
 refine Ae ?_ fun o1=>(Ae ?_ fun o2=>(Ae ?_ fun o3=>(Ab (fun h4=>Ab (fun h5=>Ae ?_ fun o6=>(GS.leafY ?_)) (fun h5=>Ab (fun h7=>Ab (fun h8=>Ae ?_ fun o9=>(GS.leafY ?_)) (fun h8=>GS.leafY ?_)) (fun h7=>GS.leafY ?_))) (fun h4=>Ab (fun h10=>Ab (fun h11=>Ae ?_ fun o12=>(GS.leafY ?_)) (fun h11=>GS.leafY ?_)) (fun h10=>GS.leafY ?_)))))
 all_goals
  have h1:=findAttr_sz t.attrs ⟨#[104,114,101,102]⟩
  have h2:=findAttr_sz t.attrs ⟨#[115,114,99]⟩
  have h3:=findAttr_sz t.attrs ⟨#[100,105,103,101,115,116]⟩
  have h4:szL AK t.attrs≤4000000000∧t.attrs.length≤4000000000:=by have q:=hp.2.2;have:=Ad AK t.attrs;simp only[Af] at q;omega
  try simp only[AH] at *
  try simp only[fAddSlot,AF,fFindAttr,std,Nat.reduceAdd,element,fFindAttr,fAddSlot] at *
  try simp(disch:=omega) only[wrapId',toNat1] at *
  try simp(disch:=omega) only[if_pos,if_neg]
 all_goals first|trivial|omega|grind[wrapId',toNat1,drop_cons,drop_end,good_len,maxLen,element,fFindAttr,fAddSlot])
def AaE:=ZI.G k227_257
theorem k228_258:AQ.ok Tryz.prog 228:=GS.of (S:=AQ) (L:=fun _ _=>none) (kp:=(KP [1,2,4,5,6,8,10,12,13,14] [53,59,62,73])) AaE.2 Tryz.func228 (by kernel_rfl) (by kernel_rfl) (by
 rintro⟨(p:SPage),(n:Int),_⟩ hp
 refine ho (.ob (inB n p.builder.nodes.length)<|.ob (Int.toNat n<p.builder.nodes.length)<|.cl fFindAttr ((p.builder.nodes.getD (Int.toNat n) default).attrs,(⟨#[100,105,103,101,115,116]⟩:ByteArray),()) fun z2=>.cl fFindAttr ((p.builder.nodes.getD (Int.toNat n) default).attrs,(⟨#[107,105,110,100]⟩:ByteArray),()) fun z3=>.cl fFindAttr ((p.builder.nodes.getD (Int.toNat n) default).attrs,(⟨#[110,111,110,99,101]⟩:ByteArray),()) fun z4=>.cl fFindAttr ((p.builder.nodes.getD (Int.toNat n) default).attrs,(⟨#[115,114,99]⟩:ByteArray),()) fun z5=>.br (!z5.2.1) (.cl fAllowsInline (p.policy,z4.1,()) fun z6=>.br (z6.1) (GS.out AQ ((⟨p.addr,p.policy,p.tok,p.queue,p.ended,p.builder,p.slots,p.mods,p.entries,p.block,n,p.deferred,p.entered,p.ran,p.log,p.loaded⟩,()),(()))) (GS.out AQ ((p,()),(())))) (.br (z3.1.toList==(⟨#[100,101,102,101,114]⟩:ByteArray).toList) (.cl fAddSlot (p,(4:Int),z5.1,z2.1,n,()) fun(z7:SPage×Int×PUnit)=>GS.out AQ ((z7.1,()),(()))) (.br (z3.1.toList==(⟨#[109,111,100,117,108,101]⟩:ByteArray).toList) (.cl fAddEntry (p,z5.1,()) fun z8=>GS.out AQ ((z8.1,()),(()))) (.cl fAddSlot (p,(3:Int),z5.1,z2.1,n,()) fun(z9:SPage×Int×PUnit)=>GS.out AQ ((⟨z9.1.addr,z9.1.policy,z9.1.tok,z9.1.queue,z9.1.ended,z9.1.builder,z9.1.slots,z9.1.mods,z9.1.entries,w1 z9.2.1,z9.1.inline,z9.1.deferred,z9.1.entered,z9.1.ran,z9.1.log,z9.1.loaded⟩,()),(())))))) ?_
 refine Aa ?_ fun o1=>Aa ?_ fun o2=>Ae ?_ fun o3=>(Ae ?_ fun o4=>(Ae ?_ fun o5=>(Ae ?_ fun o6=>(Ab (fun h7=>Ae trivial fun _=>(Ab (fun h8=>GS.leafY ?_) (fun h8=>GS.leafY ?_))) (fun h7=>Ab (fun h9=>Ae ?_ fun o10=>(GS.leafY ?_)) (fun h9=>Ab (fun h11=>Ae ?_ fun o12=>(GS.leafY ?_)) (fun h11=>Ae ?_ fun o13=>(GS.leafY ?_))))))))
 all_goals
  have hn:=node_attrs p.builder.nodes n.toNat (by have q1:0≤n:=hp.2.2.2.1;have q2:n<p.builder.nodes.length:=hp.2.2.2.2;omega)
  have hn2:=Ad AK (p.builder.nodes.getD n.toNat default).attrs
 all_goals generalize hat:(p.builder.nodes.getD n.toNat default).attrs=at_ at *
 all_goals
  have h1:=findAttr_sz at_ ⟨#[110,111,110,99,101]⟩
  have h2:=findAttr_sz at_ ⟨#[115,114,99]⟩
  have h3:=findAttr_sz at_ ⟨#[100,105,103,101,115,116]⟩
  have h4:=fun m to d=>addSlot_in p m to d n
  try simp only[AH] at *
  try simp only[fAddEntry,fAddSlot,fAllowsInline,fFindAttr,AQ,std,Nat.reduceAdd,script,fFindAttr,fAddSlot,fAllowsInline,fAddEntry] at *
  try simp(disch:=omega) only[wrapId',toNat1] at *
  try simp(disch:=omega) only[if_pos,if_neg]
 all_goals first|trivial|omega|grind[wrapId',toNat1,drop_cons,drop_end,good_len,maxLen,script,fFindAttr,fAddSlot,fAllowsInline,fAddEntry])
def Zm:=AaE.G k228_258
def isScript (p:SPage) (t:SToken):Bool:=decide (t.kind=2)&&(decide (t.name=⟨#[115,99,114,105,112,116]⟩)&&(decide (0<p.builder.open_.length∧1≤lastOpen p.builder∧lastOpen p.builder<p.builder.nodes.length)&&decide ((p.builder.nodes.getD (lastOpen p.builder).toNat default).name=⟨#[115,99,114,105,112,116]⟩)))
def taken (p:SPage) (t:SToken):SPage:={ p with queue:=p.queue.drop 1,builder:=(addToken p.builder t).1 }
def takeTok (p:SPage) (t:SToken):SPage :=
 if t.kind=1∧0≤(addToken p.builder t).2 then element (taken p t) t (addToken p.builder t).2
 else if isScript p t=true then script (taken p t) (lastOpen p.builder)
 else taken p t
def takeToken (p:SPage):SPage×Bool:=if p.queue.length=0∨p.block≠0∨p.inline≠0 then(p,false) else(takeTok p (p.queue.getD 0 default),true)
theorem cutDrop {l:List SToken}:cut l 1 (l.length-1)=l.drop 1:=by
 unfold cut;rw[List.take_of_length_le (by simp)]
theorem taken_eq (p:SPage) (t:SToken):(⟨p.addr,p.policy,p.tok,cut p.queue 1 (p.queue.length-1),p.ended,(addToken p.builder t).1,p.slots,p.mods,p.entries,p.block,p.inline,p.deferred,p.entered,p.ran,p.log,p.loaded⟩:SPage)=taken p t:=by rw[cutDrop];rfl
theorem closeN_len (b:SBuilder) (n:ByteArray):∀ k,k≤b.open_.length→(closeN b n k).length≤b.open_.length
 | 0,_=>Nat.le_refl _
 | 1,_=>Nat.le_refl _
 | m+2,h=>by
  rw[closeN]
  split
  ·rw[List.length_take];omega
  ·exact closeN_len b n (m+1) (by omega)
theorem addToken_sz (b:SBuilder) (t:SToken):szL szNode (addToken b t).1.nodes≤szL szNode b.nodes+Af t+1∧(addToken b t).1.open_.length≤b.open_.length+1∧(t.kind=2→(addToken b t).1.nodes=b.nodes):=by
 have h0:szL szNode []=0:=rfl
 have h2:szL AK []=0:=rfl
 have h3:ByteArray.size ⟨#[]⟩=0:=rfl
 unfold addToken
 split
 ·have:=closeN_len b t.name _ (Nat.le_refl _)
  exact⟨by show szL szNode b.nodes≤_;omega,by show(closeN b t.name b.open_.length).length≤_;omega,fun _=>rfl⟩
 ·split
  ·split
   ·refine⟨?_,?_,fun h=>absurd h (by omega)⟩
    ·dsimp only;rw[szL_app,szL_cons,h0];simp only[szNode,Af,h3];omega
    ·dsimp only;split
     ·omega
     ·simp
   ·refine⟨?_,?_,fun h=>absurd h (by omega)⟩
    ·dsimp only;rw[szL_app,szL_cons,h0];simp only[szNode,Af,h3,h2];omega
    ·exact Nat.le_succ _
  ·exact⟨by dsimp only;omega,Nat.le_succ _,fun _=>rfl⟩
theorem taken_sz (p:SPage) (h:0<p.queue.length):szPage (taken p (p.queue.getD 0 default))≤szPage p+2∧Af (p.queue.getD 0 default)+1+szL Af (p.queue.drop 1)=szL Af p.queue:=by
 have h1:=szL_at Af h
 rw[List.drop_zero,Nat.zero_add] at h1
 have h2:=addToken_sz p.builder (p.queue.getD 0 default)
 refine⟨?_,h1.symm⟩
 simp only[szPage,taken,szBuilder]
 omega
theorem isScript_yes {p:SPage} {t:SToken} (h1:t.kind=2) (h2:t.name=⟨#[115,99,114,105,112,116]⟩) (h3:0<p.builder.open_.length) (h4:1≤lastOpen p.builder) (h5:lastOpen p.builder<p.builder.nodes.length) (h6:(p.builder.nodes.getD (lastOpen p.builder).toNat default).name=⟨#[115,99,114,105,112,116]⟩):isScript p t=true:=by
 unfold isScript;rw[decide_eq_true h1,decide_eq_true h2,decide_eq_true ⟨h3,h4,h5⟩,decide_eq_true h6];rfl
theorem isScript_no {p:SPage} {t:SToken} (h:¬ t.kind=2∨¬ t.name=⟨#[115,99,114,105,112,116]⟩∨¬ (0<p.builder.open_.length∧1≤lastOpen p.builder∧lastOpen p.builder<p.builder.nodes.length)∨¬ (p.builder.nodes.getD (lastOpen p.builder).toNat default).name=⟨#[115,99,114,105,112,116]⟩):¬ isScript p t=true:=by
 unfold isScript
 simp only[Bool.and_eq_true,decide_eq_true_eq]
 rintro⟨q1,q2,q3,q4⟩
 rcases h with h|h|h|h
 ·exact h q1
 ·exact h q2
 ·exact h q3
 ·exact h q4
theorem takeTok_el {p:SPage} {t:SToken} (h1:t.kind=1) (h2:0≤(addToken p.builder t).2):takeTok p t=element (taken p t) t (addToken p.builder t).2:=by unfold takeTok;rw[if_pos ⟨h1,h2⟩]
theorem takeTok_sc {p:SPage} {t:SToken} (h1:t.kind=2) (h2:isScript p t=true):takeTok p t=script (taken p t) (lastOpen p.builder):=by unfold takeTok;rw[if_neg (by omega),if_pos h2]
theorem takeTok_no {p:SPage} {t:SToken} (h1:¬ t.kind=1∨(addToken p.builder t).2<0) (h2:¬ isScript p t=true):takeTok p t=taken p t:=by unfold takeTok;rw[if_neg (by omega),if_neg h2]
def okTok (p:SPage):Prop:=szPage p≤1000000000000∧p.addr.host.size≤4000000000∧(∀ i,i<p.queue.length→Af (p.queue.getD i default)≤1000000000)∧szL szNode p.builder.nodes≤1000000000∧p.builder.open_.length≤1000000000
def Au:Fct:=⟨[.v (.el .page)],[.el .page,.el .bool],fun(x_:SPage×Unit)=>okTok x_.1,fun(x_:SPage×Unit)=>((takeToken x_.1).1,(takeToken x_.1).2,())⟩
theorem k136_259:Au.ok Tryz.prog 136:=Fct.o (KP [1,2,3,4,5,6,7,8] [24,38,64,95]) Zm.2 Tryz.func136 (by
 rintro⟨(p:SPage),_⟩ hp
 refine ho (let q18_:=(↑p.builder.open_.length:Int);let q8_:=(↑p.builder.nodes.length:Int);let q21_:=q8_-(1:Int);let q20_:=(0:Int)≤(-1:Int)∧(-1:Int)<q8_;let q6_:=(⟨#[115,99,114,105,112,116]⟩:ByteArray);let q19_:=(p.builder.nodes.getD 0 default).name.toList==q6_.toList;let q2_:=q18_-(1:Int);let q13_:=0≤p.builder.open_.getD (wr q2_).toNat default∧p.builder.open_.getD (wr q2_).toNat default<q8_;let q12_:=(p.builder.nodes.getD (p.builder.open_.getD (wr q2_).toNat default).toNat default).name.toList==q6_.toList;.cl fCopyPage (p,()) fun z2=>let q23_:=(↑z2.1.queue.length:Int);let q17_:Out:=.lf Au (z2.1,false,());let q7_:=z2.1.queue.getD 0 default;let q22_:=q7_.kind==2;let q16_:=q7_.name.toList==q6_.toList;let q3_:=z2.1.queue.length-1;let q11_:=1+q3_≤z2.1.queue.length;.br ((↑p.queue.length:Int)==0) q17_ (.br (p.block != 0) q17_ (.br (p.inline != 0) q17_ (.ob ((0:Int)≤(0:Int)∧(0:Int)<q23_)<|.ob (0<z2.1.queue.length)<|.ob ((0:Int)≤(1:Int)∧(1:Int)≤q23_)<|.br (decide (q18_>0)) (.ob (0≤wr q2_∧wr q2_<q18_)<|.cl Az (p.builder,z2.1.queue.getD 0 default,()) fun(z3:SBuilder×Int×PUnit)=>let q10_:=({z2.1 with queue:=cut z2.1.queue 1 q3_,builder:=z3.1}:SPage);let q5_:Out:=.ob q11_<|.lf Au ({z2.1 with queue:=cut z2.1.queue 1 q3_,builder:=z3.1},true,());let q0_:Out:=.br q22_ (.br q16_ (.cl fInRange (p.builder.open_.getD (wr q2_).toNat default,(1:Int),wr q21_,()) fun z7=>.br (z7.1) (.ob q13_<|.br q12_ (.ob q11_<|.ob (AQ.pre (q10_,p.builder.open_.getD (wr q2_).toNat default,()))<|.lt _ (AQ.fn (q10_,p.builder.open_.getD (wr q2_).toNat default,())) fun z8=>.lf Au (z8.1.1,true,())) q5_) q5_) q5_) q5_;.br (q7_.kind==1) (.br (decide (z3.2.1≥0)) (.ob q11_<|.ob (AF.pre (q10_,z2.1.queue.getD 0 default,z3.2.1,()))<|.lt _ (AF.fn (q10_,z2.1.queue.getD 0 default,z3.2.1,())) fun z4=>let q15_:Out:=.lf Au (z4.1.1,true,());.br q22_ (.br q16_ (.cl fInRange (p.builder.open_.getD (wr q2_).toNat default,(1:Int),wr q21_,()) fun z5=>.br (z5.1) (.ob q13_<|.br q12_ (.ob (AQ.pre (z4.1.1,p.builder.open_.getD (wr q2_).toNat default,()))<|.lt _ (AQ.fn (z4.1.1,p.builder.open_.getD (wr q2_).toNat default,())) fun z6=>.lf Au (z6.1.1,true,())) q15_) q15_) q15_) q15_) q0_) q0_) (.cl Az (p.builder,z2.1.queue.getD 0 default,()) fun(z11:SBuilder×Int×PUnit)=>let q9_:=({z2.1 with queue:=cut z2.1.queue 1 q3_,builder:=z11.1}:SPage);let q4_:Out:=.ob q11_<|.lf Au ({z2.1 with queue:=cut z2.1.queue 1 q3_,builder:=z11.1},true,());let q1_:Out:=.br q22_ (.br q16_ (.cl fInRange ((-1:Int),(1:Int),wr q21_,()) fun z15=>.br (z15.1) (.ob q20_<|.br q19_ (.ob q11_<|.ob (AQ.pre (q9_,(-1:Int),()))<|.lt _ (AQ.fn (q9_,(-1:Int),())) fun z16=>.lf Au (z16.1.1,true,())) q4_) q4_) q4_) q4_;.br (q7_.kind==1) (.br (decide (z11.2.1≥0)) (.ob q11_<|.ob (AF.pre (q9_,z2.1.queue.getD 0 default,z11.2.1,()))<|.lt _ (AF.fn (q9_,z2.1.queue.getD 0 default,z11.2.1,())) fun z12=>let q14_:Out:=.lf Au (z12.1.1,true,());.br q22_ (.br q16_ (.cl fInRange ((-1:Int),(1:Int),wr q21_,()) fun z13=>.br (z13.1) (.ob q20_<|.br q19_ (.ob (AQ.pre (z12.1.1,(-1:Int),()))<|.lt _ (AQ.fn (z12.1.1,(-1:Int),())) fun z14=>.lf Au (z14.1.1,true,())) q14_) q14_) q14_) q14_) q1_) q1_))))) ?_
 refine Ae ?_ fun o1=>(Ab (fun h2=>lfY ?_) (fun h2=>Ab (fun h3=>lfY ?_) (fun h3=>Ab (fun h4=>lfY ?_) (fun h4=>Aa ?_ fun o5=>Aa ?_ fun o6=>Aa ?_ fun o7=>Ab (fun h8=>Aa ?_ fun o9=>Ae ?_ fun o10=>(Ab (fun h11=>Ab (fun h12=>Aa ?_ fun o13=>Aa ?_ fun o14=>Co (Ab (fun h15=>Ab (fun h16=>Ae trivial fun _=>(Ab (fun h17=>Aa ?_ fun o18=>Ab (fun h19=>Aa ?_ fun o20=>Co (lfY ?_)) (fun h19=>lfY ?_)) (fun h17=>lfY ?_))) (fun h16=>lfY ?_)) (fun h15=>lfY ?_))) (fun h12=>Ab (fun h21=>Ab (fun h22=>Ae trivial fun _=>(Ab (fun h23=>Aa ?_ fun o24=>Ab (fun h25=>Aa ?_ fun o26=>Aa ?_ fun o27=>Co (lfY ?_)) (fun h25=>Aa ?_ fun o28=>lfY ?_)) (fun h23=>Aa ?_ fun o29=>lfY ?_))) (fun h22=>Aa ?_ fun o30=>lfY ?_)) (fun h21=>Aa ?_ fun o31=>lfY ?_))) (fun h11=>Ab (fun h32=>Ab (fun h33=>Ae trivial fun _=>(Ab (fun h34=>Aa ?_ fun o35=>Ab (fun h36=>Aa ?_ fun o37=>Aa ?_ fun o38=>Co (lfY ?_)) (fun h36=>Aa ?_ fun o39=>lfY ?_)) (fun h34=>Aa ?_ fun o40=>lfY ?_))) (fun h33=>Aa ?_ fun o41=>lfY ?_)) (fun h32=>Aa ?_ fun o42=>lfY ?_)))) (fun h8=>Ae ?_ fun o43=>(Ab (fun h44=>Ab (fun h45=>Aa ?_ fun o46=>Aa ?_ fun o47=>Co (Ab (fun h48=>Ab (fun h49=>Ae trivial fun _=>(Ab (fun h50=>Aa ?_ fun o51=>Ab (fun h52=>Aa ?_ fun o53=>Co (lfY ?_)) (fun h52=>lfY ?_)) (fun h50=>lfY ?_))) (fun h49=>lfY ?_)) (fun h48=>lfY ?_))) (fun h45=>Ab (fun h54=>Ab (fun h55=>Ae trivial fun _=>(Ab (fun h56=>Aa ?_ fun o57=>Ab (fun h58=>Aa ?_ fun o59=>Aa ?_ fun o60=>Co (lfY ?_)) (fun h58=>Aa ?_ fun o61=>lfY ?_)) (fun h56=>Aa ?_ fun o62=>lfY ?_))) (fun h55=>Aa ?_ fun o63=>lfY ?_)) (fun h54=>Aa ?_ fun o64=>lfY ?_))) (fun h44=>Ab (fun h65=>Ab (fun h66=>Ae trivial fun _=>(Ab (fun h67=>Aa ?_ fun o68=>Ab (fun h69=>Aa ?_ fun o70=>Aa ?_ fun o71=>Co (lfY ?_)) (fun h69=>Aa ?_ fun o72=>lfY ?_)) (fun h67=>Aa ?_ fun o73=>lfY ?_))) (fun h66=>Aa ?_ fun o74=>lfY ?_)) (fun h65=>Aa ?_ fun o75=>lfY ?_))))))))
 all_goals have hpp:=pageParts p
 all_goals obtain⟨hp1,hp2,hp3,hp4,hp7⟩:=(show okTok p from hp)
 all_goals
  have hl1:=Ad szNode p.builder.nodes
  have hl2:szBuilder p.builder≤2000000000:=by(unfold szBuilder;omega)
  try simp only[AH] at *
  try simp only[Az,fCopyPage,AF,fInRange,AQ,Au,std,Nat.reduceAdd,fCopyPage,Az,fInRange,inRange,AF,AQ] at *
 all_goals first|trivial|omega|(unfold takeToken;(first|rw[if_pos (by exact .inl (by omega))]|rw[if_pos (by exact .inr (.inl (by assumption)))]|rw[if_pos (by exact .inr (.inr (by assumption)))]);exact⟨rfl,rfl⟩)|skip
 all_goals
  have htz:=taken_sz p (by omega)
  have ht0:=hp3 0 (by omega)
  have haz:=addToken_sz p.builder (p.queue.getD 0 default)
  try simp only[An (show -9223372036854775808≤(p.builder.open_.length:Int)-1∧(p.builder.open_.length:Int)-1≤9223372036854775807 by omega),An (show -9223372036854775808≤(p.builder.nodes.length:Int)-1∧(p.builder.nodes.length:Int)-1≤9223372036854775807 by omega),lastOpen_at,taken_eq] at *
 all_goals first|trivial|omega|skip
 all_goals try rw[show takeToken p=(takeTok p (p.queue.getD 0 default),true) by(unfold takeToken;rw[if_neg (by omega)])]
 all_goals generalize p.queue.getD 0 default=t at *
 all_goals try simp only[show(taken p t).addr=p.addr from rfl,show(taken p t).builder=(addToken p.builder t).1 from rfl] at *
 all_goals first|trivial|omega|skip
 all_goals try simp only[Bool.and_eq_true,Bool.and_eq_false_iff,decide_eq_true_eq,decide_eq_false_iff_not,and_true] at *
 all_goals first|trivial|omega|skip
 all_goals try (have hnn:(addToken p.builder t).1.nodes=p.builder.nodes:=haz.2.2 (by assumption);rw[hnn])
 all_goals first|trivial|omega|skip
 all_goals first|rw[takeTok_el (by assumption) (by omega)]|rw[takeTok_sc (by assumption) (isScript_yes (by assumption) (by assumption) (by omega) (by omega) (by omega) (by assumption))]|rw[takeTok_no (by first|exact .inl (by assumption)|exact .inr (by omega)) (isScript_no (by first|exact .inl (by omega)|exact .inr (.inl (by assumption))|exact .inr (.inr (.inl (by omega)))|exact .inr (.inr (.inr (by assumption)))))])
def AbK:=Zm.a k136_259
theorem k163_260:Au.ok Tryz.prog 163:=Fct.o (KP [1,2,3,4,5,6,7,8,9,10] [26,51,78,95,101]) AbK.2 Tryz.func163 (by
 rintro⟨(p:SPage),_⟩ hp
 refine ho (let q14_:=(↑p.builder.nodes.length:Int);let q13_:=decide ((-1:Int)≥(1:Int));let q12_:=(⟨#[115,99,114,105,112,116]⟩:ByteArray);let q11_:=(↑p.builder.open_.length:Int);let q3_:=q11_-(1:Int);let q8_:=decide (p.builder.open_.getD (wr q3_).toNat default≥1);.cl fCopyPage (p,()) fun z2=>let q15_:=(↑z2.1.queue.length:Int);let q10_:Out:=.lf Au (z2.1,false,());let q9_:=z2.1.queue.getD 0 default;let q4_:=z2.1.queue.length-1;let q7_:=1+q4_≤z2.1.queue.length;let q0_:Out:=.cl Az (z2.1.builder,z2.1.queue.getD 0 default,()) fun(z8:SBuilder×Int×PUnit)=>let q5_:=({z2.1 with queue:=cut z2.1.queue 1 q4_,builder:=z8.1}:SPage);let q2_:Out:=.br q13_ (.ob q7_<|.ob (AQ.pre (q5_,(-1:Int),()))<|.lt _ (AQ.fn (q5_,(-1:Int),())) fun z11=>.lf Au (z11.1.1,true,())) (.ob q7_<|.lf Au ({z2.1 with queue:=cut z2.1.queue 1 q4_,builder:=z8.1},true,()));.br (decide (z8.2.1≥0)) (.br (q9_.kind==1) (.ob q7_<|.ob (AF.pre (q5_,z2.1.queue.getD 0 default,z8.2.1,()))<|.lt _ (AF.fn (q5_,z2.1.queue.getD 0 default,z8.2.1,())) fun z9=>.br q13_ (.ob (AQ.pre (z9.1.1,(-1:Int),()))<|.lt _ (AQ.fn (z9.1.1,(-1:Int),())) fun z10=>.lf Au (z10.1.1,true,())) (.lf Au (z9.1.1,true,()))) q2_) q2_;.br ((↑p.queue.length:Int)==0) q10_ (.br (p.block != 0) q10_ (.br (p.inline != 0) q10_ (.ob ((0:Int)≤(0:Int)∧(0:Int)<q15_)<|.ob (0<z2.1.queue.length)<|.ob ((0:Int)≤(1:Int)∧(1:Int)≤q15_)<|.br (q9_.kind==2) (.br (q9_.name.toList==q12_.toList) (.br (decide (q11_>0)) (.ob (0≤wr q3_∧wr q3_<q11_)<|.br q8_ (.br (decide (p.builder.open_.getD (wr q3_).toNat default<q14_)) (.ob (0≤p.builder.open_.getD (wr q3_).toNat default∧p.builder.open_.getD (wr q3_).toNat default<q14_)<|.br ((p.builder.nodes.getD (p.builder.open_.getD (wr q3_).toNat default).toNat default).name.toList==q12_.toList) (.cl Az (z2.1.builder,z2.1.queue.getD 0 default,()) fun(z3:SBuilder×Int×PUnit)=>let q6_:=({z2.1 with queue:=cut z2.1.queue 1 q4_,builder:=z3.1}:SPage);let q1_:Out:=.br q8_ (.ob q7_<|.ob (AQ.pre (q6_,p.builder.open_.getD (wr q3_).toNat default,()))<|.lt _ (AQ.fn (q6_,p.builder.open_.getD (wr q3_).toNat default,())) fun z6=>.lf Au (z6.1.1,true,())) (.ob q7_<|.lf Au ({z2.1 with queue:=cut z2.1.queue 1 q4_,builder:=z3.1},true,()));.br (decide (z3.2.1≥0)) (.br (q9_.kind==1) (.ob q7_<|.ob (AF.pre (q6_,z2.1.queue.getD 0 default,z3.2.1,()))<|.lt _ (AF.fn (q6_,z2.1.queue.getD 0 default,z3.2.1,())) fun z4=>.br q8_ (.ob (AQ.pre (z4.1.1,p.builder.open_.getD (wr q3_).toNat default,()))<|.lt _ (AQ.fn (z4.1.1,p.builder.open_.getD (wr q3_).toNat default,())) fun z5=>.lf Au (z5.1.1,true,())) (.lf Au (z4.1.1,true,()))) q1_) q1_) q0_) q0_) q0_) q0_) q0_) q0_)))) ?_
 refine Ae ?_ fun o1=>(Ab (fun h2=>lfY ?_) (fun h2=>Ab (fun h3=>lfY ?_) (fun h3=>Ab (fun h4=>lfY ?_) (fun h4=>Aa ?_ fun o5=>Aa ?_ fun o6=>Aa ?_ fun o7=>Ab (fun h8=>Ab (fun h9=>Ab (fun h10=>Aa ?_ fun o11=>Ab (fun h12=>Ab (fun h13=>Aa ?_ fun o14=>Ab (fun h15=>Ae ?_ fun o16=>(Ab (fun h17=>Ab (fun h18=>Aa ?_ fun o19=>Aa ?_ fun o20=>Co (Ab (fun h21=>Aa ?_ fun o22=>Co (lfY ?_)) (fun h21=>lfY ?_))) (fun h18=>Ab (fun h23=>Aa ?_ fun o24=>Aa ?_ fun o25=>Co (lfY ?_)) (fun h23=>Aa ?_ fun o26=>lfY ?_))) (fun h17=>Ab (fun h27=>Aa ?_ fun o28=>Aa ?_ fun o29=>Co (lfY ?_)) (fun h27=>Aa ?_ fun o30=>lfY ?_)))) (fun h15=>Ae ?_ fun o31=>(Ab (fun h32=>Ab (fun h33=>Aa ?_ fun o34=>Aa ?_ fun o35=>Co (Ab (fun h36=>Aa ?_ fun o37=>Co (lfY ?_)) (fun h36=>lfY ?_))) (fun h33=>Ab (fun h38=>Aa ?_ fun o39=>Aa ?_ fun o40=>Co (lfY ?_)) (fun h38=>Aa ?_ fun o41=>lfY ?_))) (fun h32=>Ab (fun h42=>Aa ?_ fun o43=>Aa ?_ fun o44=>Co (lfY ?_)) (fun h42=>Aa ?_ fun o45=>lfY ?_))))) (fun h13=>Ae ?_ fun o46=>(Ab (fun h47=>Ab (fun h48=>Aa ?_ fun o49=>Aa ?_ fun o50=>Co (Ab (fun h51=>Aa ?_ fun o52=>Co (lfY ?_)) (fun h51=>lfY ?_))) (fun h48=>Ab (fun h53=>Aa ?_ fun o54=>Aa ?_ fun o55=>Co (lfY ?_)) (fun h53=>Aa ?_ fun o56=>lfY ?_))) (fun h47=>Ab (fun h57=>Aa ?_ fun o58=>Aa ?_ fun o59=>Co (lfY ?_)) (fun h57=>Aa ?_ fun o60=>lfY ?_))))) (fun h12=>Ae ?_ fun o61=>(Ab (fun h62=>Ab (fun h63=>Aa ?_ fun o64=>Aa ?_ fun o65=>Co (Ab (fun h66=>Aa ?_ fun o67=>Co (lfY ?_)) (fun h66=>lfY ?_))) (fun h63=>Ab (fun h68=>Aa ?_ fun o69=>Aa ?_ fun o70=>Co (lfY ?_)) (fun h68=>Aa ?_ fun o71=>lfY ?_))) (fun h62=>Ab (fun h72=>Aa ?_ fun o73=>Aa ?_ fun o74=>Co (lfY ?_)) (fun h72=>Aa ?_ fun o75=>lfY ?_))))) (fun h10=>Ae ?_ fun o76=>(Ab (fun h77=>Ab (fun h78=>Aa ?_ fun o79=>Aa ?_ fun o80=>Co (Ab (fun h81=>Aa ?_ fun o82=>Co (lfY ?_)) (fun h81=>lfY ?_))) (fun h78=>Ab (fun h83=>Aa ?_ fun o84=>Aa ?_ fun o85=>Co (lfY ?_)) (fun h83=>Aa ?_ fun o86=>lfY ?_))) (fun h77=>Ab (fun h87=>Aa ?_ fun o88=>Aa ?_ fun o89=>Co (lfY ?_)) (fun h87=>Aa ?_ fun o90=>lfY ?_))))) (fun h9=>Ae ?_ fun o91=>(Ab (fun h92=>Ab (fun h93=>Aa ?_ fun o94=>Aa ?_ fun o95=>Co (Ab (fun h96=>Aa ?_ fun o97=>Co (lfY ?_)) (fun h96=>lfY ?_))) (fun h93=>Ab (fun h98=>Aa ?_ fun o99=>Aa ?_ fun o100=>Co (lfY ?_)) (fun h98=>Aa ?_ fun o101=>lfY ?_))) (fun h92=>Ab (fun h102=>Aa ?_ fun o103=>Aa ?_ fun o104=>Co (lfY ?_)) (fun h102=>Aa ?_ fun o105=>lfY ?_))))) (fun h8=>Ae ?_ fun o106=>(Ab (fun h107=>Ab (fun h108=>Aa ?_ fun o109=>Aa ?_ fun o110=>Co (Ab (fun h111=>Aa ?_ fun o112=>Co (lfY ?_)) (fun h111=>lfY ?_))) (fun h108=>Ab (fun h113=>Aa ?_ fun o114=>Aa ?_ fun o115=>Co (lfY ?_)) (fun h113=>Aa ?_ fun o116=>lfY ?_))) (fun h107=>Ab (fun h117=>Aa ?_ fun o118=>Aa ?_ fun o119=>Co (lfY ?_)) (fun h117=>Aa ?_ fun o120=>lfY ?_))))))))
 all_goals have hpp:=pageParts p
 all_goals obtain⟨hp1,hp2,hp3,hp4,hp7⟩:=(show okTok p from hp)
 all_goals
  have hl1:=Ad szNode p.builder.nodes
  have hl2:szBuilder p.builder≤2000000000:=by(unfold szBuilder;omega)
  try simp only[AH] at *
  try simp only[Az,fCopyPage,AF,AQ,Au,std,Nat.reduceAdd,fCopyPage,Az,fInRange,inRange,AF,AQ] at *
 all_goals first|trivial|omega|(unfold takeToken;(first|rw[if_pos (by exact .inl (by omega))]|rw[if_pos (by exact .inr (.inl (by assumption)))]|rw[if_pos (by exact .inr (.inr (by assumption)))]);exact⟨rfl,rfl⟩)|skip
 all_goals
  have htz:=taken_sz p (by omega)
  have ht0:=hp3 0 (by omega)
  have haz:=addToken_sz p.builder (p.queue.getD 0 default)
  try simp only[An (show -9223372036854775808≤(p.builder.open_.length:Int)-1∧(p.builder.open_.length:Int)-1≤9223372036854775807 by omega),An (show -9223372036854775808≤(p.builder.nodes.length:Int)-1∧(p.builder.nodes.length:Int)-1≤9223372036854775807 by omega),lastOpen_at,taken_eq] at *
 all_goals first|trivial|omega|skip
 all_goals try rw[show takeToken p=(takeTok p (p.queue.getD 0 default),true) by(unfold takeToken;rw[if_neg (by omega)])]
 all_goals generalize p.queue.getD 0 default=t at *
 all_goals try simp only[show(taken p t).addr=p.addr from rfl,show(taken p t).builder=(addToken p.builder t).1 from rfl] at *
 all_goals first|trivial|omega|skip
 all_goals try simp only[Bool.and_eq_true,Bool.and_eq_false_iff,decide_eq_true_eq,decide_eq_false_iff_not,and_true] at *
 all_goals first|trivial|omega|skip
 all_goals try (have hnn:(addToken p.builder t).1.nodes=p.builder.nodes:=haz.2.2 (by assumption);rw[hnn])
 all_goals first|trivial|omega|skip
 all_goals first|rw[takeTok_el (by assumption) (by omega)]|rw[takeTok_sc (by assumption) (isScript_yes (by assumption) (by assumption) (by omega) (by omega) (by omega) (by assumption))]|rw[takeTok_no (by first|exact .inl (by assumption)|exact .inr (by omega)) (isScript_no (by first|exact .inl (by omega)|exact .inr (.inl (by assumption))|exact .inr (.inr (.inl (by omega)))|exact .inr (.inr (.inr (by assumption)))))])
def AbM:=AbK.a k163_260
def blk (p:SPage):Int:=IntKind.i64.wrap (p.block-1)
def okParse (p:SPage):Prop:=okTok p∧szL AL p.slots≤40000000000∧okBod p
def stepInline (p:SPage):SPage×Bool:=if stylesReady p.slots=true then({ runCode p (textOf p.inline p.builder.nodes ⟨#[]⟩) true with inline:=0 },true) else(p,false)
def stepBlock (p:SPage):SPage×Bool :=
 if ¬ (0≤blk p∧blk p<p.slots.length) then({ p with block:=0 },true)
 else if(p.slots.getD (blk p).toNat default).done=false∨stylesReady p.slots=false then(p,false)
 else if(p.slots.getD (blk p).toNat default).code=1 then({ runCode p (p.slots.getD (blk p).toNat default).body true with block:=0 },true)
 else({ p with block:=0 },true)
def stepParser (p:SPage):SPage×Bool:=if p.inline≠0 then stepInline p else if p.block≠0 then stepBlock p else takeToken p
theorem textOf_sz (n:Int):∀ (l:List SNode) (s:ByteArray),(textOf n l s).size≤s.size+szL szNode l
 | [],s=>Nat.le_add_right _ _
 | x::l,s=>by
  rw[textOf,szL_cons]
  split
  ·have:=textOf_sz n l (s++x.text)
   rw[ByteArray.size_append] at this;simp only[szNode];omega
  ·have:=textOf_sz n l s
   omega
theorem tf {b:Bool} (h:b=true) (h2:b=false):False:=by rw[h] at h2;cases h2
theorem blk_def (p:SPage):IntKind.i64.wrap (p.block-1)=blk p:=rfl
def AE:Fct:=⟨[.v (.el .page)],[.el .page,.el .bool],fun(x_:SPage×Unit)=>okParse x_.1,fun(x_:SPage×Unit)=>((stepParser x_.1).1,(stepParser x_.1).2,())⟩
theorem k61_261:AE.ok Tryz.prog 61:=Fct.o (KP [1,2,3,4,5,6,7] [10,13,27,37,53,64]) AbM.2 Tryz.func61 (by
 rintro⟨(p:SPage),_⟩ hp
 refine ho (let q4_:=(↑p.slots.length:Int);let q3_:=p.block-(1:Int);let q2_:=p.slots.getD (wr q3_).toNat default;let q1_:Out:=.cl fCopyPage (p,()) fun z3=>.lf AE (z3.1,false,());let q0_:=0≤wr q3_∧wr q3_<q4_;.br (p.inline != 0) (.cl Ap (p,()) fun z2=>.br (!z2.1) q1_ (.cl Dt (p.builder,p.inline,()) fun z4=>.cl A3 (p,z4.1,true,()) fun z5=>.lf AE ({z5.1 with inline:=(0:Int)},true,()))) (.br (p.block != 0) (.cl fInRange (wr q3_,(0:Int),wr (q4_-(1:Int)),()) fun z6=>.br (!z6.1) (.cl fCopyPage (p,()) fun z7=>.lf AE ({z7.1 with block:=(0:Int)},true,())) (.ob q0_<|.br (!q2_.done) q1_ (.cl Ap (p,()) fun z9=>.br (!z9.1) q1_ (.cl fCopyPage (p,()) fun z11=>.ob q0_<|.br (q2_.code==1) (.ob q0_<|.cl A3 (p,q2_.body,true,()) fun z12=>.lf AE ({z12.1 with block:=(0:Int)},true,())) (.lf AE ({z11.1 with block:=(0:Int)},true,())))))) (.cl Au (p,()) fun z13=>.lf AE (z13.1,z13.2.1,())))) ?_
 refine Ab (fun h1=>Ae ?_ fun o2=>(Ab (fun h3=>Ae ?_ fun o4=>(lfY ?_)) (fun h3=>Ae ?_ fun o5=>(Ae ?_ fun o6=>(lfY ?_))))) (fun h1=>Ab (fun h7=>Ae trivial fun _=>(Ab (fun h8=>Ae ?_ fun o9=>(lfY ?_)) (fun h8=>Aa ?_ fun o10=>Ab (fun h11=>Ae ?_ fun o12=>(lfY ?_)) (fun h11=>Ae ?_ fun o13=>(Ab (fun h14=>Ae ?_ fun o15=>(lfY ?_)) (fun h14=>Ae ?_ fun o16=>(Aa ?_ fun o17=>Ab (fun h18=>Aa ?_ fun o19=>Ae ?_ fun o20=>(lfY ?_)) (fun h18=>lfY ?_)))))))) (fun h7=>Ae ?_ fun o21=>(lfY ?_)))
 all_goals obtain⟨hp0,hp6,hp5⟩:=(show okParse p from hp)
 all_goals obtain⟨hp1,hp2,hp3,hp4,hp7⟩:=(show okTok p from hp0)
 all_goals
  have hbb:szBuilder p.builder≤2000000000:=by(unfold szBuilder;omega)
  have hpp:=pageParts p
  have hsl:=Ad AL p.slots
  have hnl:=Ad szNode p.builder.nodes
  have htx:=textOf_sz p.inline p.builder.nodes ⟨#[]⟩
 all_goals rw[show ByteArray.size ⟨#[]⟩=0 from rfl] at htx
 all_goals
  try simp only[AH] at *
  try simp only[fCopyPage,fInRange,A3,AE,Ap,Au,Dt,std,Nat.reduceAdd,Ap,fCopyPage,Dt,A3,fInRange,inRange,Au,blk_def] at *
  try simp only[blk_def,Bool.and_eq_true,Bool.and_eq_false_iff,decide_eq_true_eq,decide_eq_false_iff_not,An (show -9223372036854775808≤(p.slots.length:Int)-1∧(p.slots.length:Int)-1≤9223372036854775807 by omega)] at *
 all_goals first|trivial|omega|exact hp0|exact⟨by omega,by omega,by omega,hp5 _ (by omega),hp5⟩|exact⟨by omega,by omega,by omega,by omega,hp5⟩|skip
 all_goals unfold stepParser
 all_goals first|rw[if_pos (by assumption)]|(rw[if_neg (by omega)];first|rw[if_pos (by assumption)]|rw[if_neg (by omega)])
 all_goals first|exact⟨rfl,rfl⟩|(unfold stepInline)|(unfold stepBlock)
 all_goals repeat first|rw[if_pos (by assumption)]|rw[if_neg (by intro q;first|exact tf q (by assumption)|exact tf (by assumption) q)]|rw[if_pos (by omega)]|rw[if_neg (by omega)]|rw[if_pos (by exact .inl (by assumption))]|rw[if_pos (by exact .inr (by assumption))]|rw[if_neg (by rintro(q|q)<;>exact tf (by assumption) q)]|fail
 all_goals exact⟨rfl,rfl⟩)
def Z3:=AbM.a k61_261
theorem idxB_eq {b:UInt8} {s:ByteArray} (hl:idxB b s<(toL s).length):(toL s)[idxB b s]=b:=by
 have hg:=List.findIdx_getElem (xs:=toL s) (p:=fun x=>x==b) (w:=hl)
 exact beq_iff_eq.1 hg
theorem idxB_cut {b:UInt8} {s:ByteArray} (h:idxB b s<s.size):Dr b (toL s)=some ((toL s).take (idxB b s),(toL s).drop (idxB b s+1)):=by
 have hl:idxB b s<(toL s).length:=h
 refine Q7 h ?_ ?_
 ·have hd:=Fi h
  rw[List.drop_eq_getElem_cons hl] at hd
  injection hd with hd
  rw[←hd]
  exact idxB_eq hl
 ·intro hm
  obtain⟨j,hj,he⟩:=List.mem_take_iff_getElem.1 hm
  have:=List.not_of_lt_findIdx (xs:=toL s) (p:=fun x=>x==b) (i:=j) (show j<(toL s).findIdx _ from Nat.lt_of_lt_of_le hj (Nat.min_le_left _ _))
  rw[he] at this
  simp at this
theorem idxB_none {b:UInt8} {s:ByteArray} (h:¬ idxB b s<s.size):Dr b (toL s)=none:=by
 refine HC fun hm=>h ?_
 unfold idxB
 rw[←Bg]
 exact List.findIdx_lt_length_of_exists ⟨b,hm,by simp⟩
theorem extTo (s:ByteArray) (i:Nat):ofL ((toL s).take i)=s.extract 0 i:=by
 rw[←CO (s.extract 0 i),AO,List.drop_zero]
theorem extFrom (s:ByteArray) (i:Nat):ofL ((toL s).drop i)=s.extract i s.size:=by
 rw[←CO (s.extract i s.size),AO,List.take_of_length_le (by rw[Bg];exact Nat.le_refl _)]
theorem spl_idx (b:UInt8) (s:ByteArray):spl b s=if idxB b s<s.size then s.extract 0 (idxB b s)::spl b (s.extract (idxB b s+1) s.size) else[s]:=by
 rw[spl_cut]
 split
 ·rename_i hc
  rw[if_neg]
  intro h
  rw[idxB_cut h] at hc;cases hc
 ·rename_i p q hc
  by_cases h:idxB b s<s.size
  ·rw[if_pos h]
   rw[idxB_cut h] at hc
   obtain⟨rfl,rfl⟩:=Prod.mk.inj (Option.some.inj hc)
   rw[extTo,extFrom]
  ·rw[idxB_none h] at hc;cases hc
def gl59:List ByteArray→ByteArray
 | []=>⟨#[]⟩
 | [w]=>w
 | w::x::l=>w++⟨#[59]⟩++gl59 (x::l)
theorem gl_cons (w:ByteArray) {l:List ByteArray} (h:l≠[]):gl59 (w::l)=w++⟨#[59]⟩++gl59 l:=by
 cases l with
 | nil=>exact absurd rfl h
 | cons x l=>rfl
theorem idxB_get {b:UInt8} {s:ByteArray} (h:idxB b s<s.size):s.extract 0 (idxB b s)++⟨#[b]⟩++s.extract (idxB b s+1) s.size=s:=by
 have hl:idxB b s<(toL s).length:=h
 have e:toL s=(toL s).take (idxB b s)++b::(toL s).drop (idxB b s+1):=by
  have e2:(toL s)[idxB b s]=b:=idxB_eq hl
  have:=(List.take_append_drop (idxB b s) (toL s)).symm
  rw[List.drop_eq_getElem_cons hl,e2] at this
  exact this
 rw[←extTo,←extFrom]
 have e3:(⟨#[b]⟩:ByteArray)=ofL [b]:=rfl
 rw[e3,←Fm,←Fm,List.append_assoc,List.singleton_append,←e,CO]
theorem spl_ne (b:UInt8) (s:ByteArray):spl b s≠[]:=by
 intro h
 have:=(DH b s).1
 rw[h] at this
 cases this
theorem gl_spl:∀ (n:Nat) (s:ByteArray),s.size≤n→gl59 (spl 59 s)=s
 | 0,s,hn=>by
  rw[spl_idx,if_neg (by omega)];rfl
 | n+1,s,hn=>by
  rw[spl_idx]
  by_cases h:idxB 59 s<s.size
  ·rw[if_pos h,gl_cons _ (spl_ne _ _),gl_spl n _ (by rw[ByteArray.size_extract];omega)]
   exact idxB_get h
  ·rw[if_neg h];rfl
def impW:ByteArray:=⟨#[105,109,112,111,114,116,32]⟩
def hasImp (w:ByteArray):Prop:=7≤w.size∧w.extract 0 7=impW
instance (w:ByteArray):Decidable (hasImp w):=by unfold hasImp;exact inferInstance
def pmGo (b:ByteArray):List ByteArray→List SAddr→List SAddr×List SLine×Bool
 | [],acc=>(acc,[],true)
 | w::l,acc=>
  if hasImp w then(if(parseAddr (w.extract 7 w.size) b).2=true then pmGo b l (acc++[(parseAddr (w.extract 7 w.size) b).1]) else([],[],false))
  else if(parseScript (gl59 (w::l))).2=true then(acc,(parseScript (gl59 (w::l))).1,true) else([],[],false)
def parseModule (s b:ByteArray):List SAddr×List SLine×Bool:=pmGo b (spl 59 s) []
theorem parse_empty:parseScript ⟨#[]⟩=([],true):=rfl
theorem pm_nil (b:ByteArray) (acc:List SAddr):pmGo b (spl 59 ⟨#[]⟩) acc=(acc,[],true):=by
 rw[spl_idx,if_neg (by decide),pmGo,if_neg (by unfold hasImp;decide)]
 show(if(parseScript ⟨#[]⟩).2=true then _ else _)=_
 rw[parse_empty,if_pos rfl]
 show(acc,(parseScript ⟨#[]⟩).1,true)=_
 rw[parse_empty]
theorem pm_start (s b:ByteArray):pmGo b (spl 59 s) []=parseModule s b:=rfl
theorem imp_idx {s:ByteArray} (h:hasImp s):7≤idxB 59 s:=by
 obtain⟨h1,h2⟩:=h
 have e:(toL s).take 7=toL impW:=by rw[←h2,AO,List.drop_zero]
 have hn:(59:UInt8)∉(toL s).take 7:=by rw[e];decide
 rcases Nat.lt_or_ge (idxB 59 s) 7 with h3|h3
 ·exfalso
  have h4:idxB 59 s<s.size:=by omega
  have hl:idxB 59 s<(toL s).length:=h4
  apply hn
  rw[List.mem_take_iff_getElem]
  exact⟨idxB 59 s,by omega,idxB_eq hl⟩
 ·exact h3
theorem imp_part {s:ByteArray} (h:idxB 59 s<s.size):hasImp (s.extract 0 (idxB 59 s))↔hasImp s:=by
 have hx:7≤idxB 59 s→(s.extract 0 (idxB 59 s)).extract 0 7=s.extract 0 7:=fun h7=>by
  apply ByteArray.ext
  apply Array.ext'
  have:=AO (s.extract 0 (idxB 59 s)) 0 7
  have e2:=AO s 0 (idxB 59 s)
  have e3:=AO s 0 7
  rw[e2,List.drop_zero,List.drop_zero,List.take_take,Nat.min_eq_left h7] at this
  rw[List.drop_zero] at e3
  exact this.trans e3.symm
 constructor
 ·rintro⟨h1,h2⟩
  rw[ByteArray.size_extract] at h1
  exact⟨by omega,by rw[←h2,hx (by omega)]⟩
 ·intro hs
  have h7:=imp_idx hs
  exact⟨by rw[ByteArray.size_extract];omega,by rw[hx h7];exact hs.2⟩
theorem ext_ext {s:ByteArray} {k:Nat}:(s.extract 0 k).extract 7 (s.extract 0 k).size=s.extract 7 k:=by
 apply ByteArray.ext
 apply Array.ext'
 have e1:=AO (s.extract 0 k) 7 (s.extract 0 k).size
 have e2:=AO s 0 k
 have e3:=AO s 7 k
 rw[List.take_of_length_le (by rw[Bg];exact Nat.le_refl _),e2,List.drop_zero] at e1
 exact e1.trans e3.symm
theorem pm_step {b s:ByteArray} {acc:List SAddr} (h:hasImp s) (h2:(parseAddr (s.extract 7 (idxB 59 s)) b).2=true):pmGo b (spl 59 s) acc=pmGo b (spl 59 (s.extract (min s.size (idxB 59 s+1)) s.size)) (acc++[(parseAddr (s.extract 7 (idxB 59 s)) b).1]):=by
 by_cases hk:idxB 59 s<s.size
 ·rw[spl_idx,if_pos hk,pmGo,if_pos ((imp_part hk).2 h),ext_ext,if_pos h2,Nat.min_eq_right (by omega)]
 ·have e:idxB 59 s=s.size:=by have:=idxB_le 59 s;omega
  rw[spl_idx,if_neg hk,pmGo,if_pos h]
  rw[e] at h2 ⊢
  rw[if_pos h2,Nat.min_eq_left (by omega)]
  have e0:s.extract s.size s.size=⟨#[]⟩:=by
   rw[←extFrom,List.drop_of_length_le (by rw[Bg];exact Nat.le_refl _)];rfl
  rw[e0,pm_nil];rfl
theorem pm_bad {b s:ByteArray} {acc:List SAddr} (h:hasImp s) (h2:(parseAddr (s.extract 7 (idxB 59 s)) b).2=false):pmGo b (spl 59 s) acc=([],[],false):=by
 by_cases hk:idxB 59 s<s.size
 ·rw[spl_idx,if_pos hk,pmGo,if_pos ((imp_part hk).2 h),ext_ext,if_neg (by rw[h2];decide)]
 ·have e:idxB 59 s=s.size:=by have:=idxB_le 59 s;omega
  rw[spl_idx,if_neg hk,pmGo,if_pos h]
  rw[e] at h2
  rw[if_neg (by rw[h2];decide)]
theorem pm_end {b s:ByteArray} {acc:List SAddr} (h:¬ hasImp s):pmGo b (spl 59 s) acc=if(parseScript s).2=true then(acc,(parseScript s).1,true) else([],[],false):=by
 have hg:=gl_spl s.size s (Nat.le_refl _)
 rw[spl_idx] at hg ⊢
 by_cases hk:idxB 59 s<s.size
 ·rw[if_pos hk] at hg ⊢
  rw[pmGo,if_neg (fun q=>h ((imp_part hk).1 q)),hg]
 ·rw[if_neg hk] at hg ⊢
  rw[pmGo,if_neg h,hg]
def Al:Fct:=⟨[.v (.el .str),.v (.el .str)],[.sl .addr,.sl .line,.el .bool],fun(x_:ByteArray×ByteArray×Unit)=>x_.1.size≤4000000000∧x_.2.1.size≤4000000000,fun(x_:ByteArray×ByteArray×Unit)=>((parseModule x_.1 x_.2.1).1,(parseModule x_.1 x_.2.1).2.1,(parseModule x_.1 x_.2.1).2.2,())⟩
abbrev A4 (s:ByteArray) (b:ByteArray):LInv:=⟨[⟨.s,7,true,.sl .addr⟩,⟨.s,8,false,.el .str⟩],fun _ (x_:(List SAddr)×ByteArray×Unit)=>x_.2.1.size≤s.size∧x_.1.length+x_.2.1.size≤s.size∧pmGo b (spl 59 x_.2.1) x_.1=parseModule s b,fun(x_:(List SAddr)×ByteArray×Unit)=>x_.2.1.size⟩
theorem k211_262:Al.ok Tryz.prog 211:=Fct.p (KP [0,1,4,5,6,7,8,9,10,11,12,13] [23,35,55]) (fun⟨s,b,_⟩=>lv [(3,A4 s b)]) Z3.2 Tryz.func211 (by
 rintro⟨(s:ByteArray),(b:ByteArray),_⟩ hp
 refine ho (lpx (A4 s b) ([],(s,())) fun(y1:List SAddr×ByteArray×PUnit) bk1=>.br (decide ((↑y1.2.1.size:Int)≥7)) (.ob ((0:Int)≤(7:Int)∧(7:Int)≤(↑y1.2.1.size:Int))<|.br ((y1.2.1.extract 0 7).toList==(⟨#[105,109,112,111,114,116,32]⟩:ByteArray).toList) (.cl DG (y1.2.1,(59:Int),()) fun(z2:Int×PUnit)=>.ob ((0:Int)≤(7:Int)∧7≤z2.1∧z2.1≤(↑y1.2.1.size:Int))<|.cl Aq (y1.2.1.extract 7 z2.1.toNat,b,()) fun z3=>.br (!z3.2.1) (.lf Al ([],[],false,())) (.ob (True)<|.ob (Bi (y1.1.length+[z3.1].length) 32)<|.cl Vn ((↑y1.2.1.size:Int),w1 z2.1,()) fun(z4:Int×PUnit)=>.ob (0≤z4.1∧z4.1≤(↑y1.2.1.size:Int))<|.ob (Value.string s=Value.string s)<|.ob (Value.string b=Value.string b)<|.ob (bk1 (y1.1++[z3.1],(y1.2.1.extract z4.1.toNat y1.2.1.size,())))<|.ok)) (.cl Am (y1.2.1,()) fun z5=>.br (!z5.2.1) (.lf Al ([],[],false,())) (.lf Al (y1.1,z5.1,true,())))) (.cl Am (y1.2.1,()) fun z6=>.br (!z6.2.1) (.lf Al ([],[],false,())) (.lf Al (y1.1,z6.1,true,())))) ?_
 refine AG ?_ fun(y1:List SAddr×ByteArray×PUnit) i1=>Ab (fun h2=>Aa ?_ fun o3=>Ab (fun h4=>Ae ?_ fun o5=>(Aa ?_ fun o6=>Ae ?_ fun o7=>(Ab (fun h8=>lfY ?_) (fun h8=>Aa trivial fun _=>Aa ?_ fun o9=>Ae trivial fun _=>(Aa ?_ fun o10=>Aa rfl fun _=>Aa rfl fun _=>Aa ?_ fun o11=>trivial))))) (fun h4=>Ae ?_ fun o12=>(Ab (fun h13=>lfY ?_) (fun h13=>lfY ?_)))) (fun h2=>Ae ?_ fun o14=>(Ab (fun h15=>lfY ?_) (fun h15=>lfY ?_)))
 all_goals
  have hp1:s.size≤4000000000∧b.size≤4000000000:=hp
  try simp only[AH] at *
  try simp only[A4,DG,Vn,Aq,Al,Am,std,Nat.reduceAdd,DG,Aq,Am,Vn,show UInt8.ofNat (Int.toNat 59)=59 from rfl] at *
 all_goals first|omega|(simp only[pm_start,Nat.le_refl,and_self];done)|(obtain⟨acc,x,u⟩:=y1;obtain⟨a1,a2,a3⟩:=i1;dsimp only at *;have k1:=idxB_le 59 x)
 all_goals first|(have hi:hasImp x:=⟨by omega,by assumption⟩;have k2:=imp_idx hi)|(have hi:¬ hasImp x:=by rintro⟨q1,q2⟩;first|omega|exact absurd q2 (by assumption))
 all_goals
  have k3:∀ a b,(x.extract a b).size≤x.size:=fun a b=>by rw[ByteArray.size_extract];omega
  have k4:=k3 7 (idxB 59 x)
  have hw:IntKind.i64.wrap ((idxB 59 x:Int)+1)=(idxB 59 x:Int)+1:=An (by constructor<;>omega)
  have hm:Int.toNat (min (x.size:Int) ((idxB 59 x:Int)+1))=min x.size (idxB 59 x+1):=by omega
 all_goals simp only[Int.toNat_natCast,hw,hm] at *
 all_goals first|omega|exact⟨by omega,Int.ofNat_le.2 k2,Int.ofNat_le.2 k1⟩|exact⟨by omega,by omega⟩|skip
 all_goals first|(rw[←a3,pm_bad hi (by assumption)];exact⟨rfl,rfl,rfl⟩)|(rw[←a3,pm_end hi];(first|rw[if_pos (by assumption)]|rw[if_neg (by rw[show(parseScript x).2=false by assumption];decide)]);exact⟨rfl,by first|rfl|assumption,rfl⟩)|skip
 all_goals rw[pm_step hi (by assumption)] at a3
 all_goals refine⟨⟨Nat.le_trans (k3 _ _) a1,?_,a3⟩,?_⟩
 all_goals rw[ByteArray.size_extract];try simp only[List.length_append,List.length_cons,List.length_nil]
 all_goals omega)
def Abp:=Z3.a k211_262
def isParsed (p:SPage):Bool:=p.ended&&decide (p.queue.length=0∧p.block=0∧p.inline=0)
def Bj:Fct:=⟨[.v (.el .page)],[.el .bool],fun(x_:SPage×Unit)=>True,fun(x_:SPage×Unit)=>(isParsed x_.1,())⟩
theorem k137_263:Bj.ok Tryz.prog 137:=Fct.o [1,2] Abp.2 Tryz.func137 (by
 rintro⟨(p:SPage),_⟩ hp
 refine ho (.br (p.ended) (.br ((↑p.queue.length:Int)==0) (.br (p.block==0) (.lf Bj (p.inline==0,())) (.lf Bj (false,()))) (.lf Bj (false,()))) (.lf Bj (false,()))) ?_
 refine Ab (fun h1=>Ab (fun h2=>Ab (fun h3=>lfY ?_) (fun h3=>lfY ?_)) (fun h2=>lfY ?_)) (fun h1=>lfY ?_)
 all_goals
  try simp only[AH] at *
  try simp only[Bj,std,Nat.reduceAdd,isParsed] at *
  try simp(disch:=omega) only[wrapId',toNat1] at *
  try simp(disch:=omega) only[if_pos,if_neg]
 all_goals first|trivial|omega|grind[wrapId',toNat1,drop_cons,drop_end,good_len,maxLen,isParsed])
def AbU:=Abp.a k137_263
theorem k164_264:Bj.ok Tryz.prog 164:=Fct.o [1,2] AbU.2 Tryz.func164 (by
 rintro⟨(p:SPage),_⟩ hp
 refine ho (.br (p.ended) (.br ((↑p.queue.length:Int)==0) (.br (p.block==0) (.lf Bj (p.inline==0,())) (.lf Bj (false,()))) (.lf Bj (false,()))) (.lf Bj (false,()))) ?_
 refine Ab (fun h1=>Ab (fun h2=>Ab (fun h3=>lfY ?_) (fun h3=>lfY ?_)) (fun h2=>lfY ?_)) (fun h1=>lfY ?_)
 all_goals
  try simp only[AH] at *
  try simp only[Bj,std,Nat.reduceAdd,isParsed] at *
  try simp(disch:=omega) only[wrapId',toNat1] at *
  try simp(disch:=omega) only[if_pos,if_neg]
 all_goals first|trivial|omega|grind[wrapId',toNat1,drop_cons,drop_end,good_len,maxLen,isParsed])
def Zh:=AbU.a k164_264
def deferredSlots (p:SPage):List Int:=openIdx (fun s=>decide (s.mode=4)) p.slots 0
def AT:Fct:=⟨[.v (.el .page)],[.sl .int],fun(x_:SPage×Unit)=>x_.1.slots.length≤1000000000000,fun(x_:SPage×Unit)=>(deferredSlots x_.1,())⟩
abbrev AY (p:SPage):LInv:=⟨[⟨.s,3,true,.sl .int⟩,⟨.s,4,true,.el .int⟩,⟨.b,1,false,.el .page⟩],fun(z_:(List Int)×Int×SPage×Unit) (x_:(List Int)×Int×SPage×Unit)=>(0≤x_.2.1∧x_.2.1≤p.slots.length∧x_.1.length≤x_.2.1∧x_.1++openIdx (fun s=>decide (s.mode=4)) (p.slots.drop x_.2.1.toNat) x_.2.1=deferredSlots p)∧x_.2.2.1=z_.2.2.1,fun(x_:(List Int)×Int×SPage×Unit)=>p.slots.length-x_.2.1.toNat⟩
end Go.Proofs.YtgjngkplonejjaaGreatDoor.fnExactArrivePart
