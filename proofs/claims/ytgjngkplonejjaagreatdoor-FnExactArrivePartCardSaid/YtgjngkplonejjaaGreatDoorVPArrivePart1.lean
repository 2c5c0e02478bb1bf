/-
  Contracts of functions that the law of FnExactArrivePart reaches, part 1.
-/
import Derived.Test.YtgjngkplonejjaaGreatDoorVLe
import Derived.WalkKit
import Derived.BigGuard
import Derived.Deep.QuietTactic
import Derived.BigQuiet
import Derived.Lib.ConvBytes
import Derived.Sort.WalkC
import Derived.Handy
import Derived.Lib.Overlaps
import Derived.Lib.AppendZerosOnto
import Derived.Laws.Externs
import Derived.Shelf.RegionOpenPlain
import Derived.Defers
import Derived.Laws.Pointers
import Derived.Laws.LoneSync
import Derived.RegionCalls
import Derived.ChangeAlike
import Derived.LoopN
import Derived.Lib.SliceRun
import Derived.Shelf.Strconv.AtoiAll
import Derived.Shelf.Small.Strs
import Derived.Test.YtgjngkplonejjaaGreatDoorRows
import Derived.Test.YtgjngkplonejjaaGreatDoorCards
import Derived.Test.YtgjngkplonejjaaGreatDoorTie
import Derived.LaidMore
import Derived.Lay
import Derived.SevenTiedAt
import Derived.WalkKit
import Derived.ProofKit
import Derived.OpenShut
namespace Go.Proofs.YtgjngkplonejjaaGreatDoor.fnExactArrivePart
open Go.Proofs.YtgjngkplonejjaaGreatDoor
open Go.D
set_option maxRecDepth 100000
set_option maxHeartbeats 2000000
set_option linter.unusedVariables false
set_option linter.unusedSimpArgs false
def tyOf:TypeId→Option Ty
 | 3=>some .int
 | 4=>some .bool
 | 5=>some .u8
 | 9=>some .str
 | 25=>some .cache
 | 28=>some .net
 | 30=>some .addr
 | 33=>some .policy
 | 35=>some .tokenizer
 | 40=>some .builder
 | 45=>some .page
 | 49=>some .loader
 | 54=>some .cache
 | 57=>some .net
 | 58=>some .addr
 | 59=>some .policy
 | 60=>some .tokenizer
 | 64=>some .builder
 | 69=>some .page
 | 73=>some .loader
 | 115=>some .response
 | 117=>some .conn
 | 120=>some .guess
 | 138=>some .response
 | 140=>some .conn
 | 143=>some .guess
 | 173=>some .server
 | 177=>some .sent
 | 181=>some .token
 | 186=>some .slot
 | 189=>some .module
 | 199=>some .token
 | 207=>some .slot
 | 213=>some .server
 | 217=>some .sent
 | 224=>some .module
 | 247=>some .entry
 | 251=>some .node
 | 254=>some .node
 | 260=>some .attr
 | 281=>some .entry
 | 296=>some .file
 | 299=>some .file
 | 301=>some .attr
 | 303=>some .line
 | 310=>some .sheet
 | 343=>some .rule
 | 347=>some .request
 | _=>none
abbrev Eo:={ E:D.Env // EOk Tryz.prog E }
def Eo.a (e:Eo) {f:Nat} {S:Fct} (k:S.ok Tryz.prog f):Eo:=⟨e.1.add f S,e.2.add k⟩
def Eo.M (e:Eo) {f:Nat} {S:MS} (k:S.ok Tryz.prog f):Eo:=⟨e.1.addM f S,e.2.addM k⟩
def Eo.G (e:Eo) {f:Nat} {S:GS} (k:S.ok Tryz.prog f):Eo:=⟨e.1.addG f S,e.2.addG k⟩
def E0:Eo:=⟨D.Env.empty tyOf,EOk.empty _ _⟩
theorem k106_0:Ek.ok Tryz.prog 106:=Fct.p (KP [0,2,3] [5,7]) (fun⟨k,_⟩=>lv [(4,Yr k)]) E0.2 Tryz.func106 (by
 rintro⟨(k:Int),_⟩ hp
 refine ho (.br (decide (k≤0)) (.lf Ek ((⟨#[109,48]⟩:ByteArray),())) (lpx (Yr k) (k,((⟨#[]⟩:ByteArray),())) fun(y2:Int×ByteArray×PUnit) bk2=>.br (decide (y2.1>0)) (.ob ((10:Int)≠(0:Int))<|.ob (True)<|.ob (sameSize (List.foldl (fun r n=>r.push (UInt8.ofNat n.toNat)) ByteArray.empty [IntKind.u8.wrap (wr ((48:Int)+y2.1.tmod (10:Int)))]) y2.2.1)<|.ob ((10:Int)≠(0:Int))<|.ob (Value.string (⟨#[]⟩:ByteArray)=Value.string (⟨#[]⟩:ByteArray))<|.ob (bk2 (wr (y2.1.tdiv (10:Int)),(List.foldl (fun r n=>r.push (UInt8.ofNat n.toNat)) ByteArray.empty [IntKind.u8.wrap (wr ((48:Int)+y2.1.tmod (10:Int)))]++y2.2.1,())))<|.ok) (.ob (sameSize (⟨#[109]⟩:ByteArray) y2.2.1)<|.lf Ek ((⟨#[109]⟩:ByteArray)++y2.2.1,())))) ?_
 refine Ab (fun h1=>lfY ?_) (fun h1=>AG ?_ fun(y2:Int×ByteArray×PUnit) i2=>Ab (fun h3=>Aa ?_ fun o4=>Aa trivial fun _=>Aa ?_ fun o5=>Aa ?_ fun o6=>Aa rfl fun _=>Aa ?_ fun o7=>trivial) (fun h3=>Aa ?_ fun o8=>lfY ?_))
 all_goals try simp only[Acb] at *
 all_goals
  try rw[UP (by first|exact i2.1|(have:=i2.1;omega))]
  try simp only[AH] at *
  try simp only[Yr,Ek,std,Nat.reduceAdd,szF,toF,eqF,mkF,heF] at *
 ·simp[GZ,h1]
 ·exact⟨by omega,by omega,64,rfl,Nat.lt_of_lt_of_le (show k.toNat<10 ^ 19 by omega) (Nat.pow_le_pow_right (by decide) (by decide)),rfl⟩
 ·decide
 ·obtain⟨i3,i4,f,i5,i6,i7⟩:=i2
  show(1:Nat)+_≤_
  omega
 ·decide
 ·obtain⟨i3,i4,f,i5,i6,i7⟩:=i2
  have hd:IntKind.i64.wrap (y2.1.tdiv 10)=y2.1 / 10:=(XT i3).resolve_right (by omega)
  rw[hd]
  cases f with
  | zero=>simp at i6;omega
  | succ f=>
   rw[Qi (k:=y2.1.toNat) (by omega)] at i7
   have i8:y2.1.toNat<10*10 ^ f:=by rw[Nat.pow_succ] at i6;omega
   generalize 10 ^ f=p at i8
   refine⟨⟨by omega,by omega,f,by rw[sz1];omega,by omega,?_⟩,by omega⟩
   rw[show(y2.1 / 10).toNat=y2.1.toNat / 10 by omega]
   exact i7
 ·obtain⟨i3,i4,f,i5,i6,i7⟩:=i2
  show(1:Nat)+_≤_
  omega
 ·obtain⟨i3,i4,f,i5,i6,i7⟩:=i2
  have h0:y2.1.toNat=0:=by omega
  rw[h0,SI] at i7
  rw[GZ,if_neg (by omega),i7])
def E1:=E0.a k106_0
theorem k13_1:Ej.ok Tryz.prog 13:=Fct.p (KP [0,1,4,5] [11,15,26]) (fun⟨l,n,_⟩=>lv [(5,Wv .str Ac l n)]) E1.2 Tryz.func13 (by
 rintro⟨(l:List ByteArray),(n:Int),_⟩ hp
 refine ho (.br (decide (wr (n-(↑l.length:Int))<0)) (.lf Ej ((-1:Int),())) (lpx (Wv .str Ac l n) (wr (n-(↑l.length:Int)),((0:Int),())) fun(y2:Int×Int×PUnit) bk2=>.br (decide (y2.2.1<(↑l.length:Int))) (.ob (inB y2.2.1 l.length)<|.br (decide (wr (y2.1-(↑(l.getD y2.2.1.toNat default).size:Int))<0)) (.lf Ej ((-1:Int),())) (.ob (l=l)<|.ob (bk2 (wr (y2.1-(↑(l.getD y2.2.1.toNat default).size:Int)),(w1 y2.2.1,())))<|.ok)) (.lf Ej (y2.1,())))) ?_
 refine Ab (fun h1=>lfY ?_) (fun h1=>AG ?_ fun(y2:Int×Int×PUnit) i2=>Ab (fun h3=>Aa ?_ fun o4=>Ab (fun h5=>lfY ?_) (fun h5=>Aa rfl fun _=>Aa ?_ fun o6=>trivial)) (fun h3=>lfY ?_))
 all_goals
  try simp only[AH] at *
  try simp only[Wv,Ej,std,Nat.reduceAdd,szF,toF,eqF,mkF,heF] at *
 all_goals have hgl:=good_len hp.1
 all_goals simp only[maxLen] at hgl
 ·rw[An (by omega)] at h1
  rw[D7 (by simp only[szL];omega)]
 ·rw[An (by omega)] at h1 ⊢
  exact⟨by omega,by omega,h1,by simp⟩
 all_goals
  have hg:y2.2.1.toNat<l.length→(l.getD y2.2.1.toNat default).size≤9223372036854775807:=fun h=>(JX hp.1 h) _ (List.Mem.head _)
  have hs:=Et Ac l (y2.2.1.toNat+1)
  have hs2:y2.2.1.toNat<l.length→((l.take (y2.2.1.toNat+1)).map Ac).sum=((l.take y2.2.1.toNat).map Ac).sum+(l.getD y2.2.1.toNat default).size:=fun h=>FV Ac h
 ·omega
 ·have hlt:y2.2.1.toNat<l.length:=by omega
  have a1:=hg hlt;have a2:=hs2 hlt
  rw[An (by omega)] at h5
  rw[D7 (by simp only[szL];omega)]
 ·have hlt:y2.2.1.toNat<l.length:=by omega
  have a1:=hg hlt;have a2:=hs2 hlt
  rw[An (n:=y2.1-_) (by omega)] at h5 ⊢
  rw[An (by omega),toNat1 (by omega),a2]
  exact⟨⟨by omega,by omega,by omega,by omega⟩,by omega⟩
 ·have e:l.take y2.2.1.toNat=l:=List.take_of_length_le (by omega)
  rw[e] at i2
  have hz:((szL Ac l:Nat):Int)=l.length+(l.map Ac).sum:=by simp only[szL];omega
  rw[EV (by omega)]
  show y2.1=n-((szL Ac l:Nat):Int)
  omega)
def E2:=E1.a k13_1
theorem k22_2:GK.ok Tryz.prog 22:=Fct.p (KP [0,2,3,4] [11]) (fun⟨l,_⟩=>lv [(3,RW .str l)]) E2.2 Tryz.func22 (by
 rintro⟨(l:List ByteArray),_⟩ hp
 refine ho (.ob ((↑l.length:Int)=(↑l.length:Int)∧(0:Int)≤(↑l.length:Int)∧(16:Int)*(↑l.length:Int)≤140737488355328∧(↑l.length:Int)≤140737488355328)<|lpx (RW .str l) ((0:Int),(List.replicate (↑l.length:Int).toNat (⟨#[]⟩:ByteArray),())) fun(y2:Int×List ByteArray×PUnit) bk2=>.br (decide (y2.1<(↑l.length:Int))) (.ob (inB y2.1 l.length)<|.ob (inB y2.1 y2.2.1.length)<|.ob (y2.1.toNat<y2.2.1.length)<|.lt (List ByteArray) (y2.2.1.modify y2.1.toNat fun z=>l.getD y2.1.toNat default) fun z2=>.ob (l=l)<|.ob (bk2 (w1 y2.1,(z2,())))<|.ok) (.lf GK (y2.2.1,()))) ?_
 refine Aa ?_ fun o1=>AG ?_ fun(y2:Int×List ByteArray×PUnit) i2=>Ab (fun h3=>Aa ?_ fun o4=>Aa ?_ fun o5=>Aa ?_ fun o6=>Co (Aa rfl fun _=>Aa ?_ fun o7=>trivial)) (fun h3=>lfY ?_)
 all_goals
  try simp only[AH] at *
  try simp only[RW,GK,std,Nat.reduceAdd,szF,toF,eqF,mkF,heF] at *
  try have hsz:l.length≤1048576:=by first|exact hp|(have:=Ad Ac l;exact Nat.le_trans this hp)
 all_goals
  clear hp
  try rw[i2.2.2]
 all_goals first|omega|(refine⟨by omega,by omega,?_⟩;simp;done)|(refine⟨by omega,by omega,?_⟩;simp;exact .inr rfl)|(simp;omega)|skip
 ·rw[An (by omega),toNat1 (by omega)]
  refine⟨⟨by omega,by omega,?_⟩,by omega⟩
  rw[show l.length-y2.1.toNat=(l.length-(y2.1.toNat+1))+1 from by omega,List.replicate_succ,mod_at (by simp;omega),take_succ (by omega)]
  simp
 ·have e:l.take y2.1.toNat=l:=List.take_of_length_le (by omega)
  rw[e];simp;omega)
def E3:=E2.a k22_2
theorem k31_3:D6.ok Tryz.prog 31:=Fct.p (KP [0,1,4,5] [10,14,25]) (fun⟨l,m,_⟩=>lv [(4,RU .str l m)]) E3.2 Tryz.func31 (by
 rintro⟨(l:List ByteArray),(m:List ByteArray),_⟩ hp
 refine ho (.br ((↑l.length:Int) != (↑m.length:Int)) (.lf D6 (false,())) (lpx (RU .str l m) ((0:Int),()) fun(y2:Int×PUnit) bk2=>.br (decide (y2.1<(↑l.length:Int))) (.ob (inB y2.1 l.length)<|.ob (inB y2.1 m.length)<|.br (!(l.getD y2.1.toNat default).toList==(m.getD y2.1.toNat default).toList) (.lf D6 (false,())) (.ob (l=l)<|.ob (m=m)<|.ob (bk2 (w1 y2.1,()))<|.ok)) (.lf D6 (true,())))) ?_
 refine Ab (fun h1=>lfY ?_) (fun h1=>AG ?_ fun(y2:Int×PUnit) i2=>Ab (fun h3=>Aa ?_ fun o4=>Aa ?_ fun o5=>Ab (fun h6=>lfY ?_) (fun h6=>Aa rfl fun _=>Aa rfl fun _=>Aa ?_ fun o7=>trivial)) (fun h3=>lfY ?_))
 all_goals
  try simp only[AH] at *
  try simp only[RU,D6,std,Nat.reduceAdd,szF,toF,eqF,mkF,heF] at *
 all_goals have hl:=Ad Ac l
 ·rw[decide_eq_false];rintro rfl;omega
 ·exact⟨by omega,by omega,by simp⟩
 ·omega
 ·omega
 ·rw[decide_eq_false];rintro rfl;first|exact absurd rfl h5|exact absurd rfl h6
 ·have hw:IntKind.i64.wrap (y2.1+1)=y2.1+1:=An (by omega)
  rw[hw,toNat1 (by omega)]
  refine⟨⟨by omega,by omega,?_⟩,by omega⟩
  rw[take_succ (by omega),take_succ (by omega),i2.2.2];first|rw[h5]|rw[h6]
 ·have e:l.take y2.1.toNat=l:=List.take_of_length_le (by omega)
  have e2:m.take y2.1.toNat=m:=List.take_of_length_le (by omega)
  rw[decide_eq_true];rw[←e,←e2,i2.2.2])
def E4:=E3.a k31_3
theorem k121_4:JF.ok Tryz.prog 121:=Fct.o (KP [0,1,4] [10]) E4.2 Tryz.func121 (by
 rintro⟨(l:List Int),(n:Int),_⟩ hp
 refine ho (.br (decide (wr (n-(↑(List.length l):Int))<0)) (.lf JF ((-1:Int),())) (.lf JF (wr (n-(↑(List.length l):Int)),()))) ?_
 refine Ab (fun h1=>lfY ?_) (fun h1=>lfY ?_)
 all_goals
  try simp only[AH] at *
  try simp only[JF,std,Nat.reduceAdd,szF,toF,eqF,mkF,heF,Sh.good,Sh.fc,enc,List.forall_mem_cons,List.not_mem_nil,false_implies,implies_true,CL,maxLen] at *
 all_goals grind[wrapId',lessen])
def E5:=E4.a k121_4
theorem k149_5:K8.ok Tryz.prog 149:=Fct.p (KP [0,2,3,4] [11]) (fun⟨l,_⟩=>lv [(3,RW .int l)]) E5.2 Tryz.func149 (by
 rintro⟨(l:List Int),_⟩ hp
 refine ho (.ob ((↑l.length:Int)=(↑l.length:Int)∧(0:Int)≤(↑l.length:Int)∧(8:Int)*(↑l.length:Int)≤140737488355328∧(↑l.length:Int)≤140737488355328)<|lpx (RW .int l) ((0:Int),(List.replicate (↑l.length:Int).toNat (0:Int),())) fun(y2:Int×List Int×PUnit) bk2=>.br (decide (y2.1<(↑l.length:Int))) (.ob (inB y2.1 l.length)<|.ob (inB y2.1 y2.2.1.length)<|.ob (y2.1.toNat<y2.2.1.length)<|.lt (List Int) (y2.2.1.modify y2.1.toNat fun z=>l.getD y2.1.toNat default) fun z2=>.ob (l=l)<|.ob (bk2 (w1 y2.1,(z2,())))<|.ok) (.lf K8 (y2.2.1,()))) ?_
 refine Aa ?_ fun o1=>AG ?_ fun(y2:Int×List Int×PUnit) i2=>Ab (fun h3=>Aa ?_ fun o4=>Aa ?_ fun o5=>Aa ?_ fun o6=>Co (Aa rfl fun _=>Aa ?_ fun o7=>trivial)) (fun h3=>lfY ?_)
 all_goals
  try simp only[AH] at *
  try simp only[RW,K8,std,Nat.reduceAdd,szF,toF,eqF,mkF,heF] at *
  try have hsz:l.length≤1048576:=by first|exact hp|(have:=Ad Ac l;exact Nat.le_trans this hp)
 all_goals
  clear hp
  try rw[i2.2.2]
 all_goals first|omega|(refine⟨by omega,by omega,?_⟩;simp;done)|(refine⟨by omega,by omega,?_⟩;simp;exact .inr rfl)|(simp;omega)|skip
 ·rw[An (by omega),toNat1 (by omega)]
  refine⟨⟨by omega,by omega,?_⟩,by omega⟩
  rw[show l.length-y2.1.toNat=(l.length-(y2.1.toNat+1))+1 from by omega,List.replicate_succ,mod_at (by simp;omega),take_succ (by omega)]
  simp
 ·have e:l.take y2.1.toNat=l:=List.take_of_length_le (by omega)
  rw[e];simp;omega)
def E6:=E5.a k149_5
theorem k176_6:HK.ok Tryz.prog 176:=Fct.p (KP [0,1,4,5] [10,14,25]) (fun⟨l,m,_⟩=>lv [(4,RU .int l m)]) E6.2 Tryz.func176 (by
 rintro⟨(l:List Int),(m:List Int),_⟩ hp
 refine ho (.br ((↑l.length:Int) != (↑m.length:Int)) (.lf HK (false,())) (lpx (RU .int l m) ((0:Int),()) fun(y2:Int×PUnit) bk2=>.br (decide (y2.1<(↑l.length:Int))) (.ob (inB y2.1 l.length)<|.ob (inB y2.1 m.length)<|.br (l.getD y2.1.toNat default != m.getD y2.1.toNat default) (.lf HK (false,())) (.ob (l=l)<|.ob (m=m)<|.ob (bk2 (w1 y2.1,()))<|.ok)) (.lf HK (true,())))) ?_
 refine Ab (fun h1=>lfY ?_) (fun h1=>AG ?_ fun(y2:Int×PUnit) i2=>Ab (fun h3=>Aa ?_ fun o4=>Aa ?_ fun o5=>Ab (fun h6=>lfY ?_) (fun h6=>Aa rfl fun _=>Aa rfl fun _=>Aa ?_ fun o7=>trivial)) (fun h3=>lfY ?_))
 all_goals
  try simp only[AH] at *
  try simp only[RU,HK,std,Nat.reduceAdd,szF,toF,eqF,mkF,heF] at *
 ·rw[decide_eq_false];rintro rfl;omega
 ·exact⟨by omega,by omega,by simp⟩
 ·omega
 ·omega
 ·rw[decide_eq_false];rintro rfl;first|exact absurd rfl h5|exact absurd rfl h6
 ·have hw:IntKind.i64.wrap (y2.1+1)=y2.1+1:=An (by omega)
  rw[hw,toNat1 (by omega)]
  refine⟨⟨by omega,by omega,?_⟩,by omega⟩
  rw[take_succ (by omega),take_succ (by omega),i2.2.2];first|rw[h5]|rw[h6]
 ·have e:l.take y2.1.toNat=l:=List.take_of_length_le (by omega)
  have e2:m.take y2.1.toNat=m:=List.take_of_length_le (by omega)
  rw[decide_eq_true];rw[←e,←e2,i2.2.2])
def E7:=E6.a k176_6
theorem k36_7:KG.ok Tryz.prog 36 :=
 mkS (KP [0,1,4,5] [9]) true HJ E7.2 Tryz.func36 (fun(l:List ByteArray) (k:Int)=>by kernel_rfl)
def E8:=E7.M k36_7
theorem k41_8:J1.ok Tryz.prog 41 :=
 heS (KP [0,1,4,5] [9,18]) HJ E8.2 Tryz.func41 (fun(l:List ByteArray) (k:Int)=>by kernel_rfl)
def E9:=E8.a k41_8
theorem k184_9:QB.ok Tryz.prog 184 :=
 mkS (KP [0,1,4,5] [9]) true Rb E9.2 Tryz.func184 (fun(l:List Int) (k:Int)=>by kernel_rfl)
def E10:=E9.M k184_9
theorem k189_10:Qd.ok Tryz.prog 189 :=
 heS (KP [0,1,4,5] [9,17]) Rb E10.2 Tryz.func189 (fun(l:List Int) (k:Int)=>by kernel_rfl)
def E11:=E10.a k189_10
theorem k47_11:U5.ok Tryz.prog 47 :=
 szT (KP [1,2,4] [11,18]) Wf E11.2 Tryz.func47 (fun(x:SAddr) (k:Int)=>by kernel_rfl) (fun _=>rfl) Vj
def E12:=E11.a k47_11
theorem k66_12:VL.ok Tryz.prog 66 :=
 toT [1,2,3] Wt Yf E12.2 Tryz.func66 (fun(x:SAddr)=>by kernel_rfl) (fun _=>rfl) Wu
def E13:=E12.a k66_12
theorem k87_13:VP.ok Tryz.prog 87 :=
 eqT (KP [2,3,4] [9,14]) QK E13.2 Tryz.func87 (fun(x y:SAddr)=>by kernel_rfl) Wb V0
def E14:=E13.a k87_13
theorem k54_14:Tb.ok Tryz.prog 54 :=
 szS (KP [0,1,4,5] [11,15,25]) E14.2 Tryz.func54 (fun(l:List SAddr) (k:Int)=>by kernel_rfl)
def E15:=E14.a k54_14
theorem k73_15:R7.ok Tryz.prog 73 :=
 toS (KP [0,2,3,4] [11]) 32 E15.2 Tryz.func73 (fun(l:List SAddr)=>by kernel_rfl)
def E16:=E15.a k73_15
theorem k94_16:Sx.ok Tryz.prog 94 :=
 eqS (KP [0,1,4,5] [10,14,26]) false E16.2 Tryz.func94 (fun(l r:List SAddr)=>by kernel_rfl)
def E17:=E16.a k94_16
theorem k105_17:NN.ok Tryz.prog 105 :=
 mkS (KP [0,1,4,5] [9]) true Lj E17.2 Tryz.func105 (fun(l:List SAddr) (k:Int)=>by kernel_rfl)
def E18:=E17.M k105_17
theorem k115_18:OA.ok Tryz.prog 115 :=
 heS (KP [0,1,4,5] [9,19,29]) Lj E18.2 Tryz.func115 (fun(l:List SAddr) (k:Int)=>by kernel_rfl)
def E19:=E18.a k115_18
theorem k240_19:VI.ok Tryz.prog 240 :=
 szT (KP [1,2,4] [11,18]) US E19.2 Tryz.func240 (fun(x:SAttr) (k:Int)=>by kernel_rfl) (fun _=>rfl) Vw
def E20:=E19.a k240_19
theorem k255_20:Vz.ok Tryz.prog 255 :=
 toT [1,2,3] WT YA E20.2 Tryz.func255 (fun(x:SAttr)=>by kernel_rfl) (fun _=>rfl) UZ
def E21:=E20.a k255_20
theorem k279_21:W4.ok Tryz.prog 279 :=
 eqT (KP [2,3,4] [9,14]) Rs E21.2 Tryz.func279 (fun(x y:SAttr)=>by kernel_rfl) VW UQ
def E22:=E21.a k279_21
theorem k192_22:Sn.ok Tryz.prog 192 :=
 szS (KP [0,1,4,5] [11,15,25]) E22.2 Tryz.func192 (fun(l:List SAttr) (k:Int)=>by kernel_rfl)
def E23:=E22.a k192_22
theorem k214_23:SB.ok Tryz.prog 214 :=
 toS (KP [0,2,3,4] [11]) 32 E23.2 Tryz.func214 (fun(l:List SAttr)=>by kernel_rfl)
def E24:=E23.a k214_23
theorem k237_24:SM.ok Tryz.prog 237 :=
 eqS (KP [0,1,4,5] [10,14,26]) false E24.2 Tryz.func237 (fun(l r:List SAttr)=>by kernel_rfl)
def E25:=E24.a k237_24
theorem k182_25:OI.ok Tryz.prog 182 :=
 mkS (KP [0,1,4,5] [9]) true LP E25.2 Tryz.func182 (fun(l:List SAttr) (k:Int)=>by kernel_rfl)
def E26:=E25.M k182_25
theorem k187_26:NH.ok Tryz.prog 187 :=
 heS (KP [0,1,4,5] [9,19,29]) LP E26.2 Tryz.func187 (fun(l:List SAttr) (k:Int)=>by kernel_rfl)
def E27:=E26.a k187_26
theorem k119_27:Sl.ok Tryz.prog 119 :=
 szT (KP [1,2,4] [11,17,24]) P3 E27.2 Tryz.func119 (fun(x:SToken) (k:Int)=>by kernel_rfl) (fun _=>rfl) TT
def E28:=E27.a k119_27
theorem k147_28:S2.ok Tryz.prog 147 :=
 toT [1,2,3] Qy XP E28.2 Tryz.func147 (fun(x:SToken)=>by kernel_rfl) (fun _=>rfl) R4
def E29:=E28.a k147_28
theorem k174_29:Ug.ok Tryz.prog 174 :=
 eqT (KP [2,3,4] [9,14,20,25]) J4 E29.2 Tryz.func174 (fun(x y:SToken)=>by kernel_rfl) TQ TK
def E30:=E29.a k174_29
theorem k50_30:Rn.ok Tryz.prog 50 :=
 szS (KP [0,1,4,5] [11,15,25]) E30.2 Tryz.func50 (fun(l:List SToken) (k:Int)=>by kernel_rfl)
def E31:=E30.a k50_30
theorem k69_31:PO.ok Tryz.prog 69 :=
 toS (KP [0,2,3,4] [11]) 64 E31.2 Tryz.func69 (fun(l:List SToken)=>by kernel_rfl)
def E32:=E31.a k69_31
theorem k90_32:Rg.ok Tryz.prog 90 :=
 eqS (KP [0,1,4,5] [10,14,26]) false E32.2 Tryz.func90 (fun(l r:List SToken)=>by kernel_rfl)
def E33:=E32.a k90_32
theorem k101_33:Lo.ok Tryz.prog 101 :=
 mkS (KP [0,1,4,5] [9]) true IY E33.2 Tryz.func101 (fun(l:List SToken) (k:Int)=>by kernel_rfl)
def E34:=E33.M k101_33
theorem k111_34:L8.ok Tryz.prog 111 :=
 heS (KP [0,1,4,5] [9,18,28,39,47]) IY E34.2 Tryz.func111 (fun(l:List SToken) (k:Int)=>by kernel_rfl)
def E35:=E34.a k111_34
theorem k49_35:JU.ok Tryz.prog 49 :=
 szT (KP [1,2,4] [11]) Gm E35.2 Tryz.func49 (fun(x:STokenizer) (k:Int)=>by kernel_rfl) (fun _=>rfl) Kb
def E36:=E35.a k49_35
theorem k68_36:KK.ok Tryz.prog 68 :=
 toT [1,2,3] Gj OR E36.2 Tryz.func68 (fun(x:STokenizer)=>by kernel_rfl) (fun _=>rfl) Ke
def E37:=E36.a k68_36
theorem k89_37:Kw.ok Tryz.prog 89 :=
 eqT (KP [2,3,4] [9]) D4 E37.2 Tryz.func89 (fun(x y:STokenizer)=>by kernel_rfl) Ku KZ
def E38:=E37.a k89_37
theorem k193_38:VA.ok Tryz.prog 193 :=
 szT (KP [1,2,4] [11,18,24]) WX E38.2 Tryz.func193 (fun(x:SNode) (k:Int)=>by kernel_rfl) (fun _=>rfl) VS
def E39:=E38.a k193_38
theorem k215_39:WW.ok Tryz.prog 215 :=
 toT [1,2,3] UK X5 E39.2 Tryz.func215 (fun(x:SNode)=>by kernel_rfl) (fun _=>rfl) Vm
def E40:=E39.a k215_39
theorem k238_40:VX.ok Tryz.prog 238 :=
 eqT (KP [2,3,4] [9,14,19,25]) PD E40.2 Tryz.func238 (fun(x y:SNode)=>by kernel_rfl) Vk Wr
def E41:=E40.a k238_40
theorem k120_41:T4.ok Tryz.prog 120 :=
 szS (KP [0,1,4,5] [11,15,25]) E41.2 Tryz.func120 (fun(l:List SNode) (k:Int)=>by kernel_rfl)
def E42:=E41.a k120_41
theorem k148_42:TU.ok Tryz.prog 148 :=
 toS (KP [0,2,3,4] [11]) 64 E42.2 Tryz.func148 (fun(l:List SNode)=>by kernel_rfl)
def E43:=E42.a k148_42
theorem k175_43:Sp.ok Tryz.prog 175 :=
 eqS (KP [0,1,4,5] [10,14,26]) false E43.2 Tryz.func175 (fun(l r:List SNode)=>by kernel_rfl)
def E44:=E43.a k175_43
theorem k183_44:OO.ok Tryz.prog 183 :=
 mkS (KP [0,1,4,5] [9]) true K7 E44.2 Tryz.func183 (fun(l:List SNode) (k:Int)=>by kernel_rfl)
def E45:=E44.M k183_44
theorem k188_45:NG.ok Tryz.prog 188 :=
 heS (KP [0,1,4,5] [9,19,29,38,49]) K7 E45.2 Tryz.func188 (fun(l:List SNode) (k:Int)=>by kernel_rfl)
def E46:=E45.a k188_45
theorem k51_46:NT.ok Tryz.prog 51 :=
 szT (KP [1,2,4] [10,16]) Jn E46.2 Tryz.func51 (fun(x:SBuilder) (k:Int)=>by kernel_rfl) (fun _=>rfl) Oj
def E47:=E46.a k51_46
theorem k70_47:O1.ok Tryz.prog 70 :=
 toT [1,2,3] Jm SS E47.2 Tryz.func70 (fun(x:SBuilder)=>by kernel_rfl) (fun _=>rfl) NB
def E48:=E47.a k70_47
theorem k91_48:Og.ok Tryz.prog 91 :=
 eqT (KP [2,3,4] [10,16]) F2 E48.2 Tryz.func91 (fun(x y:SBuilder)=>by kernel_rfl) ND NA
def E49:=E48.a k91_48
theorem k102_49:J5.ok Tryz.prog 102 :=
 mvT [1,2,4] [0,1] Gz E49.2 Tryz.func102 (fun(x:SBuilder) (k:Int)=>by kernel_rfl)
def E50:=E49.M k102_49
theorem k112_50:KE.ok Tryz.prog 112 :=
 hvT (KP [1,2,4] [10,16]) Gz E50.2 Tryz.func112 (fun(x:SBuilder) (k:Int)=>by kernel_rfl)
def E51:=E50.a k112_50
theorem k48_51:Qo.ok Tryz.prog 48 :=
 szT (KP [1,2,4] [10,16,22,29]) Ly E51.2 Tryz.func48 (fun(x:SPolicy) (k:Int)=>by kernel_rfl) (fun _=>rfl) Rf
def E52:=E51.a k48_51
theorem k67_52:PU.ok Tryz.prog 67 :=
 toT [1,2,3] K4 VT E52.2 Tryz.func67 (fun(x:SPolicy)=>by kernel_rfl) (fun _=>rfl) Pd
def E53:=E52.a k67_52
theorem k88_53:P7.ok Tryz.prog 88 :=
 eqT (KP [2,3,4] [9,15,21,27,32]) HV E53.2 Tryz.func88 (fun(x y:SPolicy)=>by kernel_rfl) Qm Qs
def E54:=E53.a k88_53
theorem k100_54:ME.ok Tryz.prog 100 :=
 mvT [1,2,4] [1,2,3] Hq E54.2 Tryz.func100 (fun(x:SPolicy) (k:Int)=>by kernel_rfl)
def E55:=E54.M k100_54
theorem k110_55:Li.ok Tryz.prog 110 :=
 hvT (KP [1,2,4] [10,16,22]) Hq E55.2 Tryz.func110 (fun(x:SPolicy) (k:Int)=>by kernel_rfl)
def E56:=E55.a k110_55
theorem k124_56:LV.ok Tryz.prog 124 :=
 szT (KP [1,2,4] [11,18]) Hh E56.2 Tryz.func124 (fun(x:SResponse) (k:Int)=>by kernel_rfl) (fun _=>rfl) LK
def E57:=E56.a k124_56
theorem k152_57:Ms.ok Tryz.prog 152 :=
 toT [1,2,3] HG Qu E57.2 Tryz.func152 (fun(x:SResponse)=>by kernel_rfl) (fun _=>rfl) Mb
def E58:=E57.a k152_57
theorem k179_58:Lz.ok Tryz.prog 179 :=
 eqT (KP [2,3,4] [9,14,19,24,29,34]) EI E58.2 Tryz.func179 (fun(x y:SResponse)=>by kernel_rfl) Lv Ll
def E59:=E58.a k179_58
theorem k239_59:Ve.ok Tryz.prog 239 :=
 szT (KP [1,2,4] [11,17]) Wi E59.2 Tryz.func239 (fun(x:SFile) (k:Int)=>by kernel_rfl) (fun _=>rfl) W2
def E60:=E59.a k239_59
theorem k254_60:U2.ok Tryz.prog 254 :=
 toT [1,2,3] VG Yc E60.2 Tryz.func254 (fun(x:SFile)=>by kernel_rfl) (fun _=>rfl) VO
def E61:=E60.a k254_60
theorem k278_61:Wg.ok Tryz.prog 278 :=
 eqT (KP [2,3,4] [9,15]) Pb E61.2 Tryz.func278 (fun(x y:SFile)=>by kernel_rfl) VU Wq
def E62:=E61.a k278_61
theorem k190_62:Tt.ok Tryz.prog 190 :=
 szS (KP [0,1,4,5] [11,15,25]) E62.2 Tryz.func190 (fun(l:List SFile) (k:Int)=>by kernel_rfl)
def E63:=E62.a k190_62
theorem k212_63:T6.ok Tryz.prog 212 :=
 toS (KP [0,2,3,4] [11]) 80 E63.2 Tryz.func212 (fun(l:List SFile)=>by kernel_rfl)
def E64:=E63.a k212_63
theorem k235_64:SC.ok Tryz.prog 235 :=
 eqS (KP [0,1,4,5] [10,14,26]) false E64.2 Tryz.func235 (fun(l r:List SFile)=>by kernel_rfl)
def E65:=E64.a k235_64
theorem k180_65:Nx.ok Tryz.prog 180 :=
 mkS (KP [0,1,4,5] [9]) true Mx E65.2 Tryz.func180 (fun(l:List SFile) (k:Int)=>by kernel_rfl)
def E66:=E65.M k180_65
theorem k185_66:OY.ok Tryz.prog 185 :=
 heS (KP [0,1,4,5] [9,19,29,39,50,60,72,83]) Mx E66.2 Tryz.func185 (fun(l:List SFile) (k:Int)=>by kernel_rfl)
def E67:=E66.a k185_66
theorem k116_67:Q4.ok Tryz.prog 116 :=
 szT (KP [1,2,4] [11,17]) LA E67.2 Tryz.func116 (fun(x:SServer) (k:Int)=>by kernel_rfl) (fun _=>rfl) Q8
def E68:=E67.a k116_67
theorem k144_68:Qa.ok Tryz.prog 144 :=
 toT [1,2,3] LM U9 E68.2 Tryz.func144 (fun(x:SServer)=>by kernel_rfl) (fun _=>rfl) Pm
def E69:=E68.a k144_68
theorem k171_69:QC.ok Tryz.prog 171 :=
 eqT (KP [2,3,4] [9,15]) Hi E69.2 Tryz.func171 (fun(x y:SServer)=>by kernel_rfl) QZ PR
def E70:=E69.a k171_69
theorem k44_70:OL.ok Tryz.prog 44 :=
 szS (KP [0,1,4,5] [11,15,25]) E70.2 Tryz.func44 (fun(l:List SServer) (k:Int)=>by kernel_rfl)
def E71:=E70.a k44_70
theorem k63_71:Ow.ok Tryz.prog 63 :=
 toS (KP [0,2,3,4] [11]) 40 E71.2 Tryz.func63 (fun(l:List SServer)=>by kernel_rfl)
def E72:=E71.a k63_71
theorem k84_72:OE.ok Tryz.prog 84 :=
 eqS (KP [0,1,4,5] [10,14,26]) false E72.2 Tryz.func84 (fun(l r:List SServer)=>by kernel_rfl)
def E73:=E72.a k84_72
theorem k97_73:KJ.ok Tryz.prog 97 :=
 mkS (KP [0,1,4,5] [9]) true H2 E73.2 Tryz.func97 (fun(l:List SServer) (k:Int)=>by kernel_rfl)
def E74:=E73.M k97_73
theorem k107_74:KY.ok Tryz.prog 107 :=
 heS (KP [0,1,4,5] [9,19,30]) H2 E74.2 Tryz.func107 (fun(l:List SServer) (k:Int)=>by kernel_rfl)
def E75:=E74.a k107_74
theorem k191_75:SO.ok Tryz.prog 191 :=
 szT (KP [1,2,4] [11,17,23]) RE E75.2 Tryz.func191 (fun(x:SEntry) (k:Int)=>by kernel_rfl) (fun _=>rfl) Tw
def E76:=E75.a k191_75
theorem k213_76:T9.ok Tryz.prog 213 :=
 toT [1,2,3] RL Xg E76.2 Tryz.func213 (fun(x:SEntry)=>by kernel_rfl) (fun _=>rfl) TP
def E77:=E76.a k213_76
theorem k236_77:TL.ok Tryz.prog 236 :=
 eqT (KP [2,3,4] [9,15,21,26]) KT E77.2 Tryz.func236 (fun(x y:SEntry)=>by kernel_rfl) Sg Ub
def E78:=E77.a k236_77
theorem k117_78:Rw.ok Tryz.prog 117 :=
 szS (KP [0,1,4,5] [11,15,25]) E78.2 Tryz.func117 (fun(l:List SEntry) (k:Int)=>by kernel_rfl)
def E79:=E78.a k117_78
theorem k145_79:QJ.ok Tryz.prog 145 :=
 toS (KP [0,2,3,4] [11]) 120 E79.2 Tryz.func145 (fun(l:List SEntry)=>by kernel_rfl)
def E80:=E79.a k145_79
theorem k172_80:Pe.ok Tryz.prog 172 :=
 eqS (KP [0,1,4,5] [10,14,26]) false E80.2 Tryz.func172 (fun(l r:List SEntry)=>by kernel_rfl)
def E81:=E80.a k172_80
theorem k181_81:L1.ok Tryz.prog 181 :=
 mkS (KP [0,1,4,5] [9]) true I5 E81.2 Tryz.func181 (fun(l:List SEntry) (k:Int)=>by kernel_rfl)
def E82:=E81.M k181_81
theorem k186_82:My.ok Tryz.prog 186 :=
 heS (KP [0,1,4,5] [9,19,30,41,51,61,72,82,94,105,114]) I5 E82.2 Tryz.func186 (fun(l:List SEntry) (k:Int)=>by kernel_rfl)
def E83:=E82.a k186_82
theorem k45_83:SZ.ok Tryz.prog 45 :=
 szT (KP [1,2,4] [10]) Ru E83.2 Tryz.func45 (fun(x:SCache) (k:Int)=>by kernel_rfl) (fun _=>rfl) Sr
def E84:=E83.a k45_83
theorem k64_84:RY.ok Tryz.prog 64 :=
 toT [1,2,3] PT XQ E84.2 Tryz.func64 (fun(x:SCache)=>by kernel_rfl) (fun _=>rfl) R3
def E85:=E84.a k64_84
theorem k85_85:S6.ok Tryz.prog 85 :=
 eqT (KP [2,3,4] [10]) KQ E85.2 Tryz.func85 (fun(x y:SCache)=>by kernel_rfl) Sq Sd
def E86:=E85.a k85_85
theorem k98_86:OC.ok Tryz.prog 98 :=
 mvT [1,2,4] [0] Ja E86.2 Tryz.func98 (fun(x:SCache) (k:Int)=>by kernel_rfl)
def E87:=E86.M k98_86
theorem k108_87:OQ.ok Tryz.prog 108 :=
 hvT (KP [1,2,4] [10]) Ja E87.2 Tryz.func108 (fun(x:SCache) (k:Int)=>by kernel_rfl)
def E88:=E87.a k108_87
theorem k118_88:W7.ok Tryz.prog 118 :=
 szT (KP [1,2,4] [11,17]) VM E88.2 Tryz.func118 (fun(x:SSent) (k:Int)=>by kernel_rfl) (fun _=>rfl) UD
def E89:=E88.a k118_88
theorem k146_89:Wh.ok Tryz.prog 146 :=
 toT [1,2,3] W3 YC E89.2 Tryz.func146 (fun(x:SSent)=>by kernel_rfl) (fun _=>rfl) UO
def E90:=E89.a k146_89
theorem k173_90:Vf.ok Tryz.prog 173 :=
 eqT (KP [2,3,4] [9,15,20]) P2 E90.2 Tryz.func173 (fun(x y:SSent)=>by kernel_rfl) UW Wa
def E91:=E90.a k173_90
theorem k46_91:Tr.ok Tryz.prog 46 :=
 szS (KP [0,1,4,5] [11,15,25]) E91.2 Tryz.func46 (fun(l:List SSent) (k:Int)=>by kernel_rfl)
def E92:=E91.a k46_91
theorem k65_92:Tf.ok Tryz.prog 65 :=
 toS (KP [0,2,3,4] [11]) 56 E92.2 Tryz.func65 (fun(l:List SSent)=>by kernel_rfl)
def E93:=E92.a k65_92
theorem k86_93:TW.ok Tryz.prog 86 :=
 eqS (KP [0,1,4,5] [10,14,26]) false E93.2 Tryz.func86 (fun(l r:List SSent)=>by kernel_rfl)
def E94:=E93.a k86_93
theorem k99_94:Nq.ok Tryz.prog 99 :=
 mkS (KP [0,1,4,5] [9]) true Lx E94.2 Tryz.func99 (fun(l:List SSent) (k:Int)=>by kernel_rfl)
def E95:=E94.M k99_94
theorem k109_95:OU.ok Tryz.prog 109 :=
 heS (KP [0,1,4,5] [9,19,30,41,52]) Lx E95.2 Tryz.func109 (fun(l:List SSent) (k:Int)=>by kernel_rfl)
def E96:=E95.a k109_95
theorem k11_96:Xd.ok Tryz.prog 11 :=
 szT (KP [1,2,4] [10,16,22]) X4 E96.2 Tryz.func11 (fun(x:SNet) (k:Int)=>by kernel_rfl) (fun _=>rfl) Xv
def E97:=E96.a k11_96
theorem k20_97:XB.ok Tryz.prog 20 :=
 toT [1,2,3] Yz Ab9 E97.2 Tryz.func20 (fun(x:SNet)=>by kernel_rfl) (fun _=>rfl) Xx
def E98:=E97.a k20_97
theorem k29_98:XF.ok Tryz.prog 29 :=
 eqT (KP [2,3,4] [10,16,22,27]) Xn E98.2 Tryz.func29 (fun(x y:SNet)=>by kernel_rfl) Xc Xj
def E99:=E98.a k29_98
theorem k34_99:SW.ok Tryz.prog 34 :=
 mvT [1,2,4] [0,1,2] Pa E99.2 Tryz.func34 (fun(x:SNet) (k:Int)=>by kernel_rfl)
def AaP:=E99.M k34_99
theorem k39_100:RZ.ok Tryz.prog 39 :=
 hvT (KP [1,2,4] [10,16,22]) Pa AaP.2 Tryz.func39 (fun(x:SNet) (k:Int)=>by kernel_rfl)
def ZT:=AaP.a k39_100
theorem k122_101:Va.ok Tryz.prog 122 :=
 szT (KP [1,2,4] [10,17,24]) U1 ZT.2 Tryz.func122 (fun(x:SSlot) (k:Int)=>by kernel_rfl) (fun _=>rfl) Wo
def Abf:=ZT.a k122_101
theorem k150_102:Wc.ok Tryz.prog 150 :=
 toT [1,2,3] Wn Ya Abf.2 Tryz.func150 (fun(x:SSlot)=>by kernel_rfl) (fun _=>rfl) WP
def AbS:=Abf.a k150_102
theorem k177_103:Vx.ok Tryz.prog 177 :=
 eqT (KP [2,3,4] [9,15,20,25,30,35,40]) Ql AbS.2 Tryz.func177 (fun(x y:SSlot)=>by kernel_rfl) Ws UA
def YH:=AbS.a k177_103
theorem k52_104:SH.ok Tryz.prog 52 :=
 szS (KP [0,1,4,5] [11,15,25]) YH.2 Tryz.func52 (fun(l:List SSlot) (k:Int)=>by kernel_rfl)
def Aaq:=YH.a k52_104
theorem k71_105:Tq.ok Tryz.prog 71 :=
 toS (KP [0,2,3,4] [11]) 96 Aaq.2 Tryz.func71 (fun(l:List SSlot)=>by kernel_rfl)
def Aau:=Aaq.a k71_105
theorem k92_106:So.ok Tryz.prog 92 :=
 eqS (KP [0,1,4,5] [10,14,26]) false Aau.2 Tryz.func92 (fun(l r:List SSlot)=>by kernel_rfl)
def AbG:=Aau.a k92_106
theorem k103_107:Oi.ok Tryz.prog 103 :=
 mkS (KP [0,1,4,5] [9]) true LR AbG.2 Tryz.func103 (fun(l:List SSlot) (k:Int)=>by kernel_rfl)
def Zw:=AbG.M k103_107
theorem k113_108:Nv.ok Tryz.prog 113 :=
 heS (KP [0,1,4,5] [9,18,29,40,50,59,70,79,89]) LR Zw.2 Tryz.func113 (fun(l:List SSlot) (k:Int)=>by kernel_rfl)
def Zd:=Zw.a k113_108
theorem k123_109:Pr.ok Tryz.prog 123 :=
 szT (KP [1,2,4] [10,17]) L6 Zd.2 Tryz.func123 (fun(x:SModule) (k:Int)=>by kernel_rfl) (fun _=>rfl) Re
def Abi:=Zd.a k123_109
theorem k151_110:PY.ok Tryz.prog 151 :=
 toT [1,2,3] Ln UF Abi.2 Tryz.func151 (fun(x:SModule)=>by kernel_rfl) (fun _=>rfl) QP
def Y1:=Abi.a k151_110
theorem k178_111:QU.ok Tryz.prog 178 :=
 eqT (KP [2,3,4] [10,15,20,25]) Hp Y1.2 Tryz.func178 (fun(x y:SModule)=>by kernel_rfl) PA Pv
def AbY:=Y1.a k178_111
theorem k53_112:Oc.ok Tryz.prog 53 :=
 szS (KP [0,1,4,5] [11,15,25]) AbY.2 Tryz.func53 (fun(l:List SModule) (k:Int)=>by kernel_rfl)
def AbD:=AbY.a k53_112
theorem k72_113:OV.ok Tryz.prog 72 :=
 toS (KP [0,2,3,4] [11]) 64 AbD.2 Tryz.func72 (fun(l:List SModule)=>by kernel_rfl)
def Aar:=AbD.a k72_113
theorem k93_114:Ob.ok Tryz.prog 93 :=
 eqS (KP [0,1,4,5] [10,14,26]) false Aar.2 Tryz.func93 (fun(l r:List SModule)=>by kernel_rfl)
def Z2:=Aar.a k93_114
theorem k104_115:J3.ok Tryz.prog 104 :=
 mkS (KP [0,1,4,5] [9]) true Ig Z2.2 Tryz.func104 (fun(l:List SModule) (k:Int)=>by kernel_rfl)
def Ab2:=Z2.M k104_115
theorem k114_116:Kq.ok Tryz.prog 114 :=
 heS (KP [0,1,4,5] [9,20,31,42,51,61]) Ig Ab2.2 Tryz.func114 (fun(l:List SModule) (k:Int)=>by kernel_rfl)
def Abq:=Ab2.a k114_116
theorem k12_117:Vg.ok Tryz.prog 12 :=
 szT (KP [1,2,4] [10,16,22,28,34,40,46,52,58,64]) VR Abq.2 Tryz.func12 (fun(x:SPage) (k:Int)=>by kernel_rfl) (fun _=>rfl) Wx
def YI:=Abq.a k12_117
theorem k21_118:WG.ok Tryz.prog 21 :=
 toT [1,2,3] Vp Yp YI.2 Tryz.func21 (fun(x:SPage)=>by kernel_rfl) (fun _=>rfl) We
def YS:=YI.a k21_118
theorem k30_119:Wz.ok Tryz.prog 30 :=
 eqT (KP [2,3,4] [10,16,22,28,33,39,45,51,57,62,67,72,77,83,89,94]) Qn YS.2 Tryz.func30 (fun(x y:SPage)=>by kernel_rfl) UJ VH
def YG:=YS.a k30_119
theorem k35_120:Qk.ok Tryz.prog 35 :=
 mvT [1,2,4] [3,4,5,8,10,11,12,13,14,19,20] LZ YG.2 Tryz.func35 (fun(x:SPage) (k:Int)=>by kernel_rfl)
def AbH:=YG.M k35_120
theorem k40_121:Qg.ok Tryz.prog 40 :=
 hvT (KP [1,2,4] [10,16,22,28,34,40,46,52]) LZ AbH.2 Tryz.func40 (fun(x:SPage) (k:Int)=>by kernel_rfl)
def AbZ:=AbH.a k40_121
theorem k56_122:Sy.ok Tryz.prog 56 :=
 szT (KP [1,2,4] [10,16]) QS AbZ.2 Tryz.func56 (fun(x:SGuess) (k:Int)=>by kernel_rfl) (fun _=>rfl) Sb
def Za:=AbZ.a k56_122
theorem k75_123:Td.ok Tryz.prog 75 :=
 toT [1,2,3] Qq Xm Za.2 Tryz.func75 (fun(x:SGuess)=>by kernel_rfl) (fun _=>rfl) Sv
def Abb:=Za.a k75_123
theorem k96_124:Tg.ok Tryz.prog 96 :=
 eqT (KP [2,3,4] [10,16,21]) KL Abb.2 Tryz.func96 (fun(x y:SGuess)=>by kernel_rfl) RX Ua
def Aat:=Abb.a k96_124
theorem k15_125:Pi.ok Tryz.prog 15 :=
 szS (KP [0,1,4,5] [11,15,25]) Aat.2 Tryz.func15 (fun(l:List SGuess) (k:Int)=>by kernel_rfl)
def Abr:=Aat.a k15_125
theorem k24_126:RK.ok Tryz.prog 24 :=
 toS (KP [0,2,3,4] [11]) 104 Abr.2 Tryz.func24 (fun(l:List SGuess)=>by kernel_rfl)
def AbL:=Abr.a k24_126
theorem k33_127:O6.ok Tryz.prog 33 :=
 eqS (KP [0,1,4,5] [10,14,26]) false AbL.2 Tryz.func33 (fun(l r:List SGuess)=>by kernel_rfl)
def Z7:=AbL.a k33_127
theorem k38_128:MA.ok Tryz.prog 38 :=
 mkS (KP [0,1,4,5] [9]) true IW Z7.2 Tryz.func38 (fun(l:List SGuess) (k:Int)=>by kernel_rfl)
def AaJ:=Z7.M k38_128
theorem k43_129:Mc.ok Tryz.prog 43 :=
 heS (KP [0,1,4,5] [9,20,31,41,51,62,72,84,95,106]) IW AaJ.2 Tryz.func43 (fun(l:List SGuess) (k:Int)=>by kernel_rfl)
def YT:=AaJ.a k43_129
theorem k55_130:V3.ok Tryz.prog 55 :=
 szT (KP [1,2,4] [10,16]) VQ YT.2 Tryz.func55 (fun(x:SConn) (k:Int)=>by kernel_rfl) (fun _=>rfl) UG
def YL:=YT.a k55_130
theorem k74_131:W9.ok Tryz.prog 74 :=
 toT [1,2,3] WV X3 YL.2 Tryz.func74 (fun(x:SConn)=>by kernel_rfl) (fun _=>rfl) WM
def Zz:=YL.a k74_131
theorem k95_132:WU.ok Tryz.prog 95 :=
 eqT (KP [2,3,4] [10,15,20,26]) Qr Zz.2 Tryz.func95 (fun(x y:SConn)=>by kernel_rfl) UY UC
def ZJ:=Zz.a k95_132
theorem k14_133:S9.ok Tryz.prog 14 :=
 szS (KP [0,1,4,5] [11,15,25]) ZJ.2 Tryz.func14 (fun(l:List SConn) (k:Int)=>by kernel_rfl)
def AaN:=ZJ.a k14_133
theorem k23_134:TY.ok Tryz.prog 23 :=
 toS (KP [0,2,3,4] [11]) 112 AaN.2 Tryz.func23 (fun(l:List SConn)=>by kernel_rfl)
def Aam:=AaN.a k23_134
theorem k32_135:T5.ok Tryz.prog 32 :=
 eqS (KP [0,1,4,5] [10,14,26]) false Aam.2 Tryz.func32 (fun(l r:List SConn)=>by kernel_rfl)
def AbB:=Aam.a k32_135
theorem k37_136:N2.ok Tryz.prog 37 :=
 mkS (KP [0,1,4,5] [9]) true Mg AbB.2 Tryz.func37 (fun(l:List SConn) (k:Int)=>by kernel_rfl)
def AbJ:=AbB.M k37_136
theorem k42_137:N3.ok Tryz.prog 42 :=
 heS (KP [0,1,4,5] [9,20,31,40,51,61,71,82,92,104,115]) Mg AbJ.2 Tryz.func42 (fun(l:List SConn) (k:Int)=>by kernel_rfl)
def Aak:=AbJ.a k42_137
theorem k4_138:H1.ok Tryz.prog 4 :=
 szT (KP [1,2,4] [10,16,22,28,34]) Mj Aak.2 Tryz.func4 (fun(x:SLoader) (k:Int)=>by kernel_rfl) (fun _=>rfl) Rx
def ZX:=Aak.a k4_138
theorem k6_139:Eh.ok Tryz.prog 6 :=
 toT [1,2,3] Mk UX ZX.2 Tryz.func6 (fun(x:SLoader)=>by kernel_rfl) (fun _=>rfl) QG
def Y8:=ZX.a k6_139
theorem k8_140:D5.ok Tryz.prog 8 :=
 eqT (KP [2,3,4] [10,16,22,28,34]) Hw Y8.2 Tryz.func8 (fun(x y:SLoader)=>by kernel_rfl) Rv QQ
def Abm:=Y8.a k8_140
theorem k9_141:Dj.ok Tryz.prog 9 :=
 mvT [1,2,4] [0,1,2,7,8,9,12,14,15,16,17,18,23,24,26,27,28] HU Abm.2 Tryz.func9 (fun(x:SLoader) (k:Int)=>by kernel_rfl)
def YY:=Abm.M k9_141
theorem k10_142:Er.ok Tryz.prog 10 :=
 hvT (KP [1,2,4] [10,16,22,28,34]) HU YY.2 Tryz.func10 (fun(x:SLoader) (k:Int)=>by kernel_rfl)
def AaA:=YY.a k10_142
def inRange (n lo hi:Int):Bool:=decide (lo≤n)&&decide (n≤hi)
def fInRange:Fct:=⟨[aI,aI,aI],[rB],fun _=>True,fun(x:Int×Int×Int×Unit)=>(inRange x.1 x.2.1 x.2.2.1,())⟩
theorem k258_143:fInRange.ok Tryz.prog 258:=Fct.o [0,1,2,6] AaA.2 Tryz.func258 (by
 rintro⟨(n:Int),(lo:Int),(hi:Int),_⟩ hp
 refine ho (.br (decide (lo≤n)) (.lf fInRange (decide (n≤hi),())) (.lf fInRange (false,()))) ?_
 refine Ab (fun h1=>lfY ?_) (fun h1=>lfY ?_)
 all_goals
  try simp only[AH] at *
  try simp only[fInRange,std,Nat.reduceAdd,inRange] at *
 all_goals first|trivial|(simp_all;done)|(simp_all;omega)|grind)
def Zu:=AaA.a k258_143
theorem k135_144:fInRange.ok Tryz.prog 135:=Fct.o [0,1,2,6] Zu.2 Tryz.func135 (by
 rintro⟨(n:Int),(lo:Int),(hi:Int),_⟩ hp
 refine ho (.br (decide (n≥lo)) (.lf fInRange (decide (n≤hi),())) (.lf fInRange (false,()))) ?_
 refine Ab (fun h1=>lfY ?_) (fun h1=>lfY ?_)
 all_goals
  try simp only[AH] at *
  try simp only[fInRange,std,Nat.reduceAdd,inRange] at *
 all_goals first|trivial|(simp_all;done)|(simp_all;omega)|grind)
def YM:=Zu.a k135_144
def fCopyConns:Fct:=⟨[aL .conn],[rL .conn],fun(x:List SConn×Unit)=>x.1.length≤1048576,fun(x:List SConn×Unit)=>(x.1,())⟩
theorem k78_145:fCopyConns.ok Tryz.prog 78:=Fct.o [0,2] YM.2 Tryz.func78 (by
 rintro⟨(l:List SConn),_⟩ hp
 refine ho (.ob (True)<|.ob (Bi (0+List.length l) 112)<|.lf fCopyConns ([]++l,())) ?_
 refine Aa trivial fun _=>Aa ?_ fun o1=>lfY ?_
 all_goals
  try simp only[AH] at *
  try simp only[fCopyConns,std,Nat.reduceAdd] at *
 all_goals first|trivial|omega|(simp_all;done)|(simp_all;omega)|grind)
def ZR:=YM.a k78_145
def Dm:Fct:=⟨[.v (.sl .addr),.v (.el .addr)],[.el .int],fun(x_:(List SAddr)×SAddr×Unit)=>x_.1.length≤1000000000000000000,fun(x_:(List SAddr)×SAddr×Unit)=>(fidx (fun c=>decide (c=x_.2.1)) x_.1 0,())⟩
abbrev AA (l:(List SAddr)) (a:SAddr):LInv:=⟨[⟨.s,8,true,.el .int⟩,⟨.b,3,true,.el .addr⟩],fun(z_:Int×SAddr×Unit) (x_:Int×SAddr×Unit)=>(0≤x_.1∧x_.1≤l.length∧fidx (fun c=>decide (c=a)) l 0=fidx (fun c=>decide (c=a)) (l.drop x_.1.toNat) x_.1)∧x_.2.1=z_.2.1,fun(x_:Int×SAddr×Unit)=>l.length-x_.1.toNat⟩
theorem k302_146:Dm.ok Tryz.prog 302:=Fct.p (KP [0,3,4,5,7,8] [9,16]) (fun⟨l,a,_⟩=>lv [(2,AA l a)]) ZR.2 Tryz.func302 (by
 rintro⟨(l:List SAddr),(a:SAddr),_⟩ hp
 refine ho (lpx (AA l a) ((0:Int),(a,())) fun(y1:Int×SAddr×PUnit) bk1=>.br (decide (y1.1<(↑l.length:Int))) (.ob (inB y1.1 l.length)<|.br (y1.2.1.host==(l.getD y1.1.toNat default).host&&(y1.2.1.path==(l.getD y1.1.toNat default).path&&true)) (.lf Dm (y1.1,())) (.ob (l=l)<|.ob (Value.int IntKind.i64 (↑l.length:Int)=Value.int IntKind.i64 (↑l.length:Int))<|.ob (bk1 (w1 y1.1,(y1.2.1,())))<|.ok)) (.lf Dm ((-1:Int),()))) ?_
 refine AG ?_ fun(y1:Int×SAddr×PUnit) i1=>Ab (fun h2=>Aa ?_ fun o3=>Ab (fun h4=>lfY ?_) (fun h4=>Aa rfl fun _=>Aa rfl fun _=>Aa ?_ fun o5=>trivial)) (fun h2=>lfY ?_)
 all_goals
  try simp only[EK] at *
  try simp only[AH] at *
  try simp only[AA,Dm,std,Nat.reduceAdd,fidx] at *
  try simp(disch:=omega) only[wrapId',toNat1] at *
  try simp(disch:=omega) only[if_pos,if_neg]
 all_goals first|trivial|omega|grind[wrapId',toNat1,drop_cons,drop_end,good_len,maxLen,fidx])
def ZA:=ZR.a k302_146
def BL:Fct:=⟨[.v (.sl .addr),.v (.el .addr)],[.el .bool],fun(x_:(List SAddr)×SAddr×Unit)=>x_.1.length≤1000000000000000000,fun(x_:(List SAddr)×SAddr×Unit)=>(x_.1.any fun c=>decide (c=x_.2.1),())⟩
theorem k275_147:BL.ok Tryz.prog 275:=Fct.o [0,3,4] ZA.2 Tryz.func275 (by
 rintro⟨(l:List SAddr),(a:SAddr),_⟩ hp
 refine ho (.cl Dm (l,a,()) fun(z2:Int×PUnit)=>.lf BL (decide (z2.1≥0),())) ?_
 refine Ae ?_ fun o1=>(lfY ?_)
 all_goals
  try simp only[AH] at *
  try simp only[BL,Dm,std,Nat.reduceAdd] at *
 all_goals first|trivial|omega|(rw[Bool.eq_iff_iff];exact decide_eq_true_iff.trans (Rj _ _ _ (by omega))))
def AaC:=ZA.a k275_147
def Ci:Fct:=⟨[.v (.sl .addr),.v (.el .addr)],[.el .bool],fun(x_:(List SAddr)×SAddr×Unit)=>x_.1.length≤1000000000000000000,fun(x_:(List SAddr)×SAddr×Unit)=>(x_.1.any fun c=>decide (c=x_.2.1),())⟩
abbrev B8 (l:(List SAddr)) (a:SAddr):LInv:=⟨[⟨.s,5,true,.el .int⟩,⟨.b,3,true,.el .addr⟩],fun(z_:Int×SAddr×Unit) (x_:Int×SAddr×Unit)=>(0≤x_.1∧x_.1≤l.length∧l.any (fun c=>decide (c=a))=(l.drop x_.1.toNat).any (fun c=>decide (c=a)))∧x_.2.1=z_.2.1,fun(x_:Int×SAddr×Unit)=>l.length-x_.1.toNat⟩
theorem k210_148:Ci.ok Tryz.prog 210:=Fct.p (KP [0,3,4,5] [9,17]) (fun⟨l,a,_⟩=>lv [(2,B8 l a)]) AaC.2 Tryz.func210 (by
 rintro⟨(l:List SAddr),(a:SAddr),_⟩ hp
 refine ho (lpx (B8 l a) ((0:Int),(a,())) fun(y1:Int×SAddr×PUnit) bk1=>.br (decide (y1.1<(↑l.length:Int))) (.ob (inB y1.1 l.length)<|.br ((l.getD y1.1.toNat default).host==y1.2.1.host&&((l.getD y1.1.toNat default).path==y1.2.1.path&&true)) (.lf Ci (true,())) (.ob (l=l)<|.ob (bk1 (w1 y1.1,(y1.2.1,())))<|.ok)) (.lf Ci (false,()))) ?_
 refine AG ?_ fun(y1:Int×SAddr×PUnit) i1=>Ab (fun h2=>Aa ?_ fun o3=>Ab (fun h4=>lfY ?_) (fun h4=>Aa rfl fun _=>Aa ?_ fun o5=>trivial)) (fun h2=>lfY ?_)
 all_goals
  try simp only[EK] at *
  try simp only[AH] at *
  try simp only[B8,Ci,std,Nat.reduceAdd] at *
  try simp(disch:=omega) only[wrapId',toNat1] at *
  try simp(disch:=omega) only[if_pos,if_neg]
 all_goals first|trivial|omega|grind[wrapId',toNat1,drop_cons,drop_end,good_len,maxLen])
def Zy:=AaC.a k210_148
theorem k233_149:Ci.ok Tryz.prog 233:=Fct.o [0,3,4] Zy.2 Tryz.func233 (by
 rintro⟨(l:List SAddr),(a:SAddr),_⟩ hp
 refine ho (.cl BL (l,a,()) fun z2=>.lf Ci (z2.1,())) ?_
 refine Ae ?_ fun o1=>(lfY ?_)
 all_goals
  try simp only[EK] at *
  try simp only[AH] at *
  try simp only[BL,Ci,std,Nat.reduceAdd] at *
  try simp(disch:=omega) only[wrapId',toNat1] at *
  try simp(disch:=omega) only[if_pos,if_neg]
 all_goals first|trivial|omega|grind[wrapId',toNat1,drop_cons,drop_end,good_len,maxLen])
def AbR:=Zy.a k233_149
def DA:Fct:=⟨[.v (.sl .str),.v (.el .str)],[.el .int],fun(x_:(List ByteArray)×ByteArray×Unit)=>x_.1.length≤1000000000000000000,fun(x_:(List ByteArray)×ByteArray×Unit)=>(fidx (fun c=>decide (c=x_.2.1)) x_.1 0,())⟩
abbrev AM (l:(List ByteArray)) (a:ByteArray):LInv:=⟨[⟨.s,8,true,.el .int⟩],fun _ (x_:Int×Unit)=>0≤x_.1∧x_.1≤l.length∧fidx (fun c=>decide (c=a)) l 0=fidx (fun c=>decide (c=a)) (l.drop x_.1.toNat) x_.1,fun(x_:Int×Unit)=>l.length-x_.1.toNat⟩
theorem k345_150:DA.ok Tryz.prog 345:=Fct.p (KP [0,1,4,5,7,8] [9,16]) (fun⟨l,a,_⟩=>lv [(2,AM l a)]) AbR.2 Tryz.func345 (by
 rintro⟨(l:List ByteArray),(a:ByteArray),_⟩ hp
 refine ho (lpx (AM l a) ((0:Int),()) fun(y1:Int×PUnit) bk1=>.br (decide (y1.1<(↑l.length:Int))) (.ob (inB y1.1 l.length)<|.br (a.toList==(l.getD y1.1.toNat default).toList) (.lf DA (y1.1,())) (.ob (l=l)<|.ob (Value.string a=Value.string a)<|.ob (Value.int IntKind.i64 (↑l.length:Int)=Value.int IntKind.i64 (↑l.length:Int))<|.ob (bk1 (w1 y1.1,()))<|.ok)) (.lf DA ((-1:Int),()))) ?_
 refine AG ?_ fun(y1:Int×PUnit) i1=>Ab (fun h2=>Aa ?_ fun o3=>Ab (fun h4=>lfY ?_) (fun h4=>Aa rfl fun _=>Aa rfl fun _=>Aa rfl fun _=>Aa ?_ fun o5=>trivial)) (fun h2=>lfY ?_)
 all_goals
  try simp only[Xi,XN] at *
  try simp only[AH] at *
  try simp only[AM,DA,std,Nat.reduceAdd,fidx] at *
  try simp(disch:=omega) only[wrapId',toNat1] at *
  try simp(disch:=omega) only[if_pos,if_neg]
 all_goals first|trivial|omega|grind[wrapId',toNat1,drop_cons,drop_end,good_len,maxLen,fidx])
def Zo:=AbR.a k345_150
def fContains_str:Fct:=⟨[.v (.sl .str),.v (.el .str)],[.el .bool],fun(x_:(List ByteArray)×ByteArray×Unit)=>x_.1.length≤1000000000000000000,fun(x_:(List ByteArray)×ByteArray×Unit)=>(x_.1.any fun c=>decide (c=x_.2.1),())⟩
theorem k334_151:fContains_str.ok Tryz.prog 334:=Fct.o [0,1,4] Zo.2 Tryz.func334 (by
 rintro⟨(l:List ByteArray),(a:ByteArray),_⟩ hp
 refine ho (.cl DA (l,a,()) fun(z2:Int×PUnit)=>.lf fContains_str (decide (z2.1≥0),())) ?_
 refine Ae ?_ fun o1=>(lfY ?_)
 all_goals
  try simp only[AH] at *
  try simp only[fContains_str,DA,std,Nat.reduceAdd] at *
 all_goals first|trivial|omega|(rw[Bool.eq_iff_iff];exact decide_eq_true_iff.trans (Rj _ _ _ (by omega))))
def Y0:=Zo.a k334_151
def fHas9:Fct:=⟨[.v (.sl .str),.v (.el .str)],[.el .bool],fun(x_:(List ByteArray)×ByteArray×Unit)=>x_.1.length≤1000000000000000000,fun(x_:(List ByteArray)×ByteArray×Unit)=>(x_.1.any fun c=>decide (c=x_.2.1),())⟩
abbrev CP (l:(List ByteArray)) (s:ByteArray):LInv:=⟨[⟨.s,5,true,.el .int⟩],fun _ (x_:Int×Unit)=>0≤x_.1∧x_.1≤l.length∧l.any (fun c=>decide (c=s))=(l.drop x_.1.toNat).any (fun c=>decide (c=s)),fun(x_:Int×Unit)=>l.length-x_.1.toNat⟩
theorem k327_152:fHas9.ok Tryz.prog 327:=Fct.p (KP [0,1,4,5] [9,17]) (fun⟨l,s,_⟩=>lv [(2,CP l s)]) Y0.2 Tryz.func327 (by
 rintro⟨(l:List ByteArray),(s:ByteArray),_⟩ hp
 refine ho (lpx (CP l s) ((0:Int),()) fun(y1:Int×PUnit) bk1=>.br (decide (y1.1<(↑l.length:Int))) (.ob (inB y1.1 l.length)<|.br ((l.getD y1.1.toNat default).toList==s.toList) (.lf fHas9 (true,())) (.ob (l=l)<|.ob (Value.string s=Value.string s)<|.ob (bk1 (w1 y1.1,()))<|.ok)) (.lf fHas9 (false,()))) ?_
 refine AG ?_ fun(y1:Int×PUnit) i1=>Ab (fun h2=>Aa ?_ fun o3=>Ab (fun h4=>lfY ?_) (fun h4=>Aa rfl fun _=>Aa rfl fun _=>Aa ?_ fun o5=>trivial)) (fun h2=>lfY ?_)
 all_goals
  try simp only[AH] at *
  try simp only[CP,fHas9,std,Nat.reduceAdd] at *
  try simp(disch:=omega) only[wrapId',toNat1] at *
  try simp(disch:=omega) only[if_pos,if_neg]
 all_goals first|trivial|omega|grind[wrapId',toNat1,drop_cons,drop_end,good_len,maxLen])
def Abn:=Y0.a k327_152
theorem szNode_get {l:List SNode} {i:Nat} (h:i<l.length):(l.getD i default).attrs.length+l.length≤szL szNode l:=by
 have:=Dk szNode h
 have h2:=Ad AK (l.getD i default).attrs
 simp only[szNode] at this;omega
theorem szToken_get {l:List SToken} {i:Nat} (h:i<l.length):(l.getD i default).attrs.length+l.length≤szL Af l:=by
 have:=Dk Af h
 have h2:=Ad AK (l.getD i default).attrs
 simp only[Af] at this;omega
def fCopyAttrs:Fct:=⟨[.v (.sl .attr)],[.sl .attr],fun(x_:(List SAttr)×Unit)=>x_.1.length≤1099511627776,fun(x_:(List SAttr)×Unit)=>(x_.1,())⟩
theorem k194_153:fCopyAttrs.ok Tryz.prog 194:=Fct.o [0,2] Abn.2 Tryz.func194 (by
 rintro⟨(l:List SAttr),_⟩ hp
 refine ho (.ob (True)<|.ob (Bi (0+List.length l) 32)<|.lf fCopyAttrs ([]++l,())) ?_
 refine Aa trivial fun _=>Aa ?_ fun o1=>lfY ?_
 all_goals
  try simp only[AH] at *
  try simp only[fCopyAttrs,std,Nat.reduceAdd] at *
  try simp(disch:=omega) only[wrapId',toNat1] at *
  try simp(disch:=omega) only[if_pos,if_neg]
 all_goals first|trivial|omega|grind[wrapId',toNat1,drop_cons,drop_end,good_len,maxLen])
def AbQ:=Abn.a k194_153
def fCopyToken:Fct:=⟨[.v (.el .token)],[.el .token],fun(x_:SToken×Unit)=>x_.1.attrs.length≤1099511627776,fun(x_:SToken×Unit)=>(x_.1,())⟩
theorem k216_154:fCopyToken.ok Tryz.prog 216:=Fct.o [1,2] AbQ.2 Tryz.func216 (by
 rintro⟨(t:SToken),_⟩ hp
 refine ho (.ob (True)<|.ob (Bi (0+t.attrs.length) 32)<|.lf fCopyToken (⟨t.kind,t.name,[]++t.attrs,t.text⟩,())) ?_
 refine Aa trivial fun _=>Aa ?_ fun o1=>lfY ?_
 all_goals
  try simp only[AH] at *
  try simp only[fCopyToken,std,Nat.reduceAdd] at *
  try simp(disch:=omega) only[wrapId',toNat1] at *
  try simp(disch:=omega) only[if_pos,if_neg]
 all_goals first|trivial|omega|grind[wrapId',toNat1,drop_cons,drop_end,good_len,maxLen])
def Aab:=AbQ.a k216_154
def fCopyTokens:Fct:=⟨[.v (.sl .token)],[.sl .token],fun(x_:(List SToken)×Unit)=>szL Af x_.1≤1099511627776,fun(x_:(List SToken)×Unit)=>(x_.1,())⟩
abbrev Bu (l:(List SToken)):LInv:=⟨[⟨.s,3,true,.sl .token⟩,⟨.s,4,true,.el .int⟩],fun _ (x_:(List SToken)×Int×Unit)=>0≤x_.2.1∧x_.2.1≤l.length∧x_.1=l.take x_.2.1.toNat,fun(x_:(List SToken)×Int×Unit)=>l.length-x_.2.1.toNat⟩
theorem k128_155:fCopyTokens.ok Tryz.prog 128:=Fct.p (KP [0,2,3,4,5] [10]) (fun⟨l,_⟩=>lv [(3,Bu l)]) Aab.2 Tryz.func128 (by
 rintro⟨(l:List SToken),_⟩ hp
 refine ho (lpx (Bu l) ([],((0:Int),())) fun(y1:List SToken×Int×PUnit) bk1=>.br (decide (y1.2.1<(↑l.length:Int))) (.ob (inB y1.2.1 l.length)<|.ob (inB y1.2.1 l.length)<|.cl fCopyAttrs ((l.getD y1.2.1.toNat default).attrs,()) fun z2=>.ob (Bi (y1.1.length+[(⟨(l.getD y1.2.1.toNat default).kind,(l.getD y1.2.1.toNat default).name,z2.1,(l.getD y1.2.1.toNat default).text⟩:SToken)].length) 64)<|.ob (l=l)<|.ob (bk1 (y1.1++[(⟨(l.getD y1.2.1.toNat default).kind,(l.getD y1.2.1.toNat default).name,z2.1,(l.getD y1.2.1.toNat default).text⟩:SToken)],(w1 y1.2.1,())))<|.ok) (.lf fCopyTokens (y1.1,()))) ?_
 refine AG ?_ fun(y1:List SToken×Int×PUnit) i1=>Ab (fun h2=>Aa ?_ fun o3=>Aa ?_ fun o4=>Ae ?_ fun o5=>(Aa ?_ fun o6=>Aa rfl fun _=>Aa ?_ fun o7=>trivial)) (fun h2=>lfY ?_)
 all_goals
  have hl:=Ad Af l
  try have hg:=szToken_get (l:=l) (i:=y1.2.1.toNat)
  try have hg:=szToken_get (l:=l) (i:=y2.2.1.toNat)
  try simp only[AH] at *
  try simp only[Bu,fCopyAttrs,fCopyTokens,std,Nat.reduceAdd,fCopyAttrs,fCopyToken,take_succ,take_end] at *
  try simp(disch:=omega) only[wrapId',toNat1] at *
  try simp(disch:=omega) only[if_pos,if_neg]
 all_goals first|trivial|omega|grind[wrapId',toNat1,drop_cons,drop_end,good_len,maxLen,fCopyAttrs,fCopyToken,take_succ,take_end])
def AaB:=Aab.a k128_155
abbrev Bn (l:(List SToken)):LInv:=⟨[⟨.s,3,true,.sl .token⟩,⟨.s,9,true,.el .int⟩],fun _ (x_:(List SToken)×Int×Unit)=>0≤x_.2.1∧x_.2.1≤l.length∧x_.1=l.take x_.2.1.toNat,fun(x_:(List SToken)×Int×Unit)=>l.length-x_.2.1.toNat⟩
theorem k156_156:fCopyTokens.ok Tryz.prog 156:=Fct.p (KP [0,2,3,5,7,8,9] [10]) (fun⟨l,_⟩=>lv [(3,Bn l)]) AaB.2 Tryz.func156 (by
 rintro⟨(l:List SToken),_⟩ hp
 refine ho (lpx (Bn l) ([],((0:Int),())) fun(y1:List SToken×Int×PUnit) bk1=>.br (decide (y1.2.1<(↑l.length:Int))) (.ob (inB y1.2.1 l.length)<|.cl fCopyToken (l.getD y1.2.1.toNat default,()) fun z2=>.ob (Bi (y1.1.length+[z2.1].length) 64)<|.ob (l=l)<|.ob (l=l)<|.ob (Value.int IntKind.i64 (↑l.length:Int)=Value.int IntKind.i64 (↑l.length:Int))<|.ob (bk1 (y1.1++[z2.1],(w1 y1.2.1,())))<|.ok) (.lf fCopyTokens (y1.1,()))) ?_
 refine AG ?_ fun(y1:List SToken×Int×PUnit) i1=>Ab (fun h2=>Aa ?_ fun o3=>Ae ?_ fun o4=>(Aa ?_ fun o5=>Aa rfl fun _=>Aa rfl fun _=>Aa rfl fun _=>Aa ?_ fun o6=>trivial)) (fun h2=>lfY ?_)
 all_goals
  have hl:=Ad Af l
  try have hg:=szToken_get (l:=l) (i:=y1.2.1.toNat)
  try have hg:=szToken_get (l:=l) (i:=y2.2.1.toNat)
  try simp only[AH] at *
  try simp only[Bn,fCopyToken,fCopyTokens,std,Nat.reduceAdd,fCopyAttrs,fCopyToken,take_succ,take_end] at *
  try simp(disch:=omega) only[wrapId',toNat1] at *
  try simp(disch:=omega) only[if_pos,if_neg]
 all_goals first|trivial|omega|grind[wrapId',toNat1,drop_cons,drop_end,good_len,maxLen,fCopyAttrs,fCopyToken,take_succ,take_end])
def YU:=AaB.a k156_156
theorem builder_take {b:SBuilder} {n:Nat} (h:b.nodes.length≤n):(⟨b.nodes.take n,b.open_⟩:SBuilder)=b:=by rw[List.take_of_length_le h]
def fCopyBuilder:Fct:=⟨[.v (.el .builder)],[.el .builder],fun(x_:SBuilder×Unit)=>szBuilder x_.1≤1099511627776,fun(x_:SBuilder×Unit)=>(x_.1,())⟩
abbrev BK (b:SBuilder):LInv:=⟨[⟨.b,3,true,.el .builder⟩,⟨.s,4,true,.el .int⟩,⟨.b,1,false,.el .builder⟩,⟨.b,2,true,.el .builder⟩],fun(z_:SBuilder×Int×SBuilder×SBuilder×Unit) (x_:SBuilder×Int×SBuilder×SBuilder×Unit)=>((0≤x_.2.1∧x_.2.1≤b.nodes.length∧x_.1=⟨b.nodes.take x_.2.1.toNat,b.open_⟩)∧x_.2.2.1=z_.2.2.1)∧x_.2.2.2.1=z_.2.2.2.1,fun(x_:SBuilder×Int×SBuilder×SBuilder×Unit)=>b.nodes.length-x_.2.1.toNat⟩
theorem k129_157:fCopyBuilder.ok Tryz.prog 129:=Fct.p (KP [1,2,3,4,5] [15]) (fun⟨b,_⟩=>lv [(3,BK b)]) YU.2 Tryz.func129 (by
 rintro⟨(b:SBuilder),_⟩ hp
 refine ho (.ob (True)<|.ob (Bi (0+b.open_.length) 8)<|lpx (BK b) ((⟨[],[]++b.open_⟩:SBuilder),((0:Int),(b,(default,())))) fun(y2:SBuilder×Int×SBuilder×SBuilder×PUnit) bk2=>.br (decide (y2.2.1<(↑y2.2.2.1.nodes.length:Int))) (.ob (inB y2.2.1 y2.2.2.1.nodes.length)<|.ob (inB y2.2.1 y2.2.2.1.nodes.length)<|.cl fCopyAttrs ((y2.2.2.1.nodes.getD y2.2.1.toNat default).attrs,()) fun z2=>.ob (Bi (y2.1.nodes.length+[(⟨(y2.2.2.1.nodes.getD y2.2.1.toNat default).name,(y2.2.2.1.nodes.getD y2.2.1.toNat default).text,(y2.2.2.1.nodes.getD y2.2.1.toNat default).parent,z2.1⟩:SNode)].length) 64)<|.ob (bk2 ((⟨y2.1.nodes++[(⟨(y2.2.2.1.nodes.getD y2.2.1.toNat default).name,(y2.2.2.1.nodes.getD y2.2.1.toNat default).text,(y2.2.2.1.nodes.getD y2.2.1.toNat default).parent,z2.1⟩:SNode)],y2.1.open_⟩:SBuilder),(w1 y2.2.1,(y2.2.2.1,(y2.2.2.2.1,())))))<|.ok) (.lf fCopyBuilder (y2.1,()))) ?_
 refine Aa trivial fun _=>Aa ?_ fun o1=>AG ?_ fun(y2:SBuilder×Int×SBuilder×SBuilder×PUnit) i2=>Ab (fun h3=>Aa ?_ fun o4=>Aa ?_ fun o5=>Ae ?_ fun o6=>(Aa ?_ fun o7=>Aa ?_ fun o8=>trivial)) (fun h3=>lfY ?_)
 all_goals
  have hl:=Ad szNode b.nodes
  try have hg:=szNode_get (l:=b.nodes) (i:=y1.2.1.toNat)
  try have hg:=szNode_get (l:=b.nodes) (i:=y2.2.1.toNat)
  try simp only[AH] at *
  try simp only[BK,fCopyAttrs,fCopyBuilder,std,Nat.reduceAdd,fCopyAttrs,take_succ,builder_take,szBuilder] at *
  try simp(disch:=omega) only[wrapId',toNat1] at *
  try simp(disch:=omega) only[if_pos,if_neg]
 all_goals first|trivial|omega|grind[wrapId',toNat1,drop_cons,drop_end,good_len,maxLen,fCopyAttrs,take_succ,builder_take,szBuilder])
def Zb:=YU.a k129_157
abbrev A9 (b:SBuilder):LInv:=⟨[⟨.b,3,true,.el .builder⟩,⟨.s,14,true,.el .int⟩,⟨.b,2,true,.el .builder⟩],fun(z_:SBuilder×Int×SBuilder×Unit) (x_:SBuilder×Int×SBuilder×Unit)=>(0≤x_.2.1∧x_.2.1≤b.nodes.length∧x_.1=⟨b.nodes.take x_.2.1.toNat,b.open_⟩)∧x_.2.2.1=z_.2.2.1,fun(x_:SBuilder×Int×SBuilder×Unit)=>b.nodes.length-x_.2.1.toNat⟩
theorem k157_158:fCopyBuilder.ok Tryz.prog 157:=Fct.p (KP [1,2,3,5,12,13,14] [15]) (fun⟨b,_⟩=>lv [(3,A9 b)]) Zb.2 Tryz.func157 (by
 rintro⟨(b:SBuilder),_⟩ hp
 refine ho (.ob (True)<|.ob (Bi (0+b.open_.length) 8)<|lpx (A9 b) ((⟨[],[]++b.open_⟩:SBuilder),((0:Int),(default,()))) fun(y2:SBuilder×Int×SBuilder×PUnit) bk2=>.br (decide (y2.2.1<(↑b.nodes.length:Int))) (.ob (inB y2.2.1 b.nodes.length)<|.ob (True)<|.ob (Bi (0+(b.nodes.getD y2.2.1.toNat default).attrs.length) 32)<|.ob (Bi (y2.1.nodes.length+[(⟨(b.nodes.getD y2.2.1.toNat default).name,(b.nodes.getD y2.2.1.toNat default).text,(b.nodes.getD y2.2.1.toNat default).parent,[]++(b.nodes.getD y2.2.1.toNat default).attrs⟩:SNode)].length) 64)<|.ob (b.nodes=b.nodes)<|.ob (Value.int IntKind.i64 (↑b.nodes.length:Int)=Value.int IntKind.i64 (↑b.nodes.length:Int))<|.ob (bk2 ((⟨y2.1.nodes++[(⟨(b.nodes.getD y2.2.1.toNat default).name,(b.nodes.getD y2.2.1.toNat default).text,(b.nodes.getD y2.2.1.toNat default).parent,[]++(b.nodes.getD y2.2.1.toNat default).attrs⟩:SNode)],y2.1.open_⟩:SBuilder),(w1 y2.2.1,(y2.2.2.1,()))))<|.ok) (.lf fCopyBuilder (y2.1,()))) ?_
 refine Aa trivial fun _=>Aa ?_ fun o1=>AG ?_ fun(y2:SBuilder×Int×SBuilder×PUnit) i2=>Ab (fun h3=>Aa ?_ fun o4=>Aa trivial fun _=>Aa ?_ fun o5=>Aa ?_ fun o6=>Aa rfl fun _=>Aa rfl fun _=>Aa ?_ fun o7=>trivial) (fun h3=>lfY ?_)
 all_goals
  have hl:=Ad szNode b.nodes
  try have hg:=szNode_get (l:=b.nodes) (i:=y1.2.1.toNat)
  try have hg:=szNode_get (l:=b.nodes) (i:=y2.2.1.toNat)
  try simp only[AH] at *
  try simp only[A9,fCopyBuilder,std,Nat.reduceAdd,fCopyAttrs,take_succ,builder_take,szBuilder] at *
  try simp(disch:=omega) only[wrapId',toNat1] at *
  try simp(disch:=omega) only[if_pos,if_neg]
 all_goals first|trivial|omega|grind[wrapId',toNat1,drop_cons,drop_end,good_len,maxLen,fCopyAttrs,take_succ,builder_take,szBuilder])
def AaY:=Zb.a k157_158
def fCopyPolicy:Fct:=⟨[.v (.el .policy)],[.el .policy],fun(x_:SPolicy×Unit)=>szPolicy x_.1≤1099511627776,fun(x_:SPolicy×Unit)=>(x_.1,())⟩
theorem k127_159:fCopyPolicy.ok Tryz.prog 127:=Fct.o [1,2] AaY.2 Tryz.func127 (by
 rintro⟨(p:SPolicy),_⟩ hp
 refine ho (.ob (True)<|.ob (Bi p.scripts.length 16)<|.ob (True)<|.ob (Bi p.styles.length 16)<|.ob (True)<|.ob (Bi p.images.length 16)<|.lf fCopyPolicy (p,())) ?_
 refine Aa trivial fun _=>Aa ?_ fun o1=>Aa trivial fun _=>Aa ?_ fun o2=>Aa trivial fun _=>Aa ?_ fun o3=>lfY ?_
 all_goals
  have hl1:=Ad Ac p.scripts
  have hl2:=Ad Ac p.styles
  have hl3:=Ad Ac p.images
  try simp only[AH] at *
  try simp only[fCopyPolicy,std,Nat.reduceAdd,szPolicy] at *
  try simp(disch:=omega) only[wrapId',toNat1] at *
  try simp(disch:=omega) only[if_pos,if_neg]
 all_goals first|trivial|omega|grind[wrapId',toNat1,drop_cons,drop_end,good_len,maxLen,szPolicy])
def Z6:=AaY.a k127_159
theorem k155_160:fCopyPolicy.ok Tryz.prog 155:=Fct.o [1,2] Z6.2 Tryz.func155 (by
 rintro⟨(p:SPolicy),_⟩ hp
 refine ho (.ob (True)<|.ob (Bi (0+p.scripts.length) 16)<|.ob (True)<|.ob (Bi (0+p.styles.length) 16)<|.ob (True)<|.ob (Bi (0+p.images.length) 16)<|.lf fCopyPolicy (⟨p.set_,[]++p.scripts,[]++p.styles,[]++p.images,p.nonce⟩,())) ?_
 refine Aa trivial fun _=>Aa ?_ fun o1=>Aa trivial fun _=>Aa ?_ fun o2=>Aa trivial fun _=>Aa ?_ fun o3=>lfY ?_
 all_goals
  have hl1:=Ad Ac p.scripts
  have hl2:=Ad Ac p.styles
  have hl3:=Ad Ac p.images
  try simp only[AH] at *
  try simp only[fCopyPolicy,std,Nat.reduceAdd,szPolicy] at *
  try simp(disch:=omega) only[wrapId',toNat1] at *
  try simp(disch:=omega) only[if_pos,if_neg]
 all_goals first|trivial|omega|grind[wrapId',toNat1,drop_cons,drop_end,good_len,maxLen,szPolicy])
def Aav:=Z6.a k155_160
def fCopyPage:Fct:=⟨[.v (.el .page)],[.el .page],fun(x_:SPage×Unit)=>szPage x_.1≤1099511627776,fun(x_:SPage×Unit)=>(x_.1,())⟩
theorem k58_161:fCopyPage.ok Tryz.prog 58:=Fct.o [1,2,3] Aav.2 Tryz.func58 (by
 rintro⟨(p:SPage),_⟩ hp
 refine ho (.cl fCopyPolicy (p.policy,()) fun z2=>.cl fCopyTokens (p.queue,()) fun z3=>.cl fCopyBuilder (p.builder,()) fun z4=>.ob (True)<|.ob (Bi (0+p.slots.length) 96)<|.ob (True)<|.ob (Bi (0+p.mods.length) 64)<|.ob (True)<|.ob (Bi (0+p.entries.length) 32)<|.ob (True)<|.ob (Bi (0+p.ran.length) 32)<|.ob (True)<|.ob (Bi (0+p.log.length) 16)<|.lf fCopyPage (⟨p.addr,z2.1,p.tok,z3.1,p.ended,z4.1,[]++p.slots,[]++p.mods,[]++p.entries,p.block,p.inline,p.deferred,p.entered,[]++p.ran,[]++p.log,p.loaded⟩,())) ?_
 refine Ae ?_ fun o1=>(Ae ?_ fun o2=>(Ae ?_ fun o3=>(Aa trivial fun _=>Aa ?_ fun o4=>Aa trivial fun _=>Aa ?_ fun o5=>Aa trivial fun _=>Aa ?_ fun o6=>Aa trivial fun _=>Aa ?_ fun o7=>Aa trivial fun _=>Aa ?_ fun o8=>lfY ?_)))
 all_goals
  have hl1:=Ad AL p.slots
  have hl2:=Ad Ar p.mods
  have hl3:=Ad szAddr p.entries
  have hl4:=Ad szAddr p.ran
  have hl5:=Ad Ac p.log
  try simp only[AH] at *
  try simp only[fCopyBuilder,fCopyPage,fCopyPolicy,fCopyTokens,std,Nat.reduceAdd,szPage,fCopyPolicy,fCopyTokens,fCopyBuilder] at *
  try simp(disch:=omega) only[wrapId',toNat1] at *
  try simp(disch:=omega) only[if_pos,if_neg]
 all_goals first|trivial|omega|grind[wrapId',toNat1,drop_cons,drop_end,good_len,maxLen,szPage,fCopyPolicy,fCopyTokens,fCopyBuilder])
def Abz:=Aav.a k58_161
theorem k77_162:fCopyPage.ok Tryz.prog 77:=Fct.o [1,2] Abz.2 Tryz.func77 (by
 rintro⟨(p:SPage),_⟩ hp
 refine ho (.cl fCopyPolicy (p.policy,()) fun z2=>.cl fCopyTokens (p.queue,()) fun z3=>.cl fCopyBuilder (p.builder,()) fun z4=>.ob (True)<|.ob (Bi (0+p.slots.length) 96)<|.ob (True)<|.ob (Bi (0+p.mods.length) 64)<|.ob (True)<|.ob (Bi (0+p.entries.length) 32)<|.ob (True)<|.ob (Bi (0+p.ran.length) 32)<|.ob (True)<|.ob (Bi (0+p.log.length) 16)<|.lf fCopyPage (⟨p.addr,z2.1,p.tok,z3.1,p.ended,z4.1,[]++p.slots,[]++p.mods,[]++p.entries,p.block,p.inline,p.deferred,p.entered,[]++p.ran,[]++p.log,p.loaded⟩,())) ?_
 refine Ae ?_ fun o1=>(Ae ?_ fun o2=>(Ae ?_ fun o3=>(Aa trivial fun _=>Aa ?_ fun o4=>Aa trivial fun _=>Aa ?_ fun o5=>Aa trivial fun _=>Aa ?_ fun o6=>Aa trivial fun _=>Aa ?_ fun o7=>Aa trivial fun _=>Aa ?_ fun o8=>lfY ?_)))
 all_goals
  have hl1:=Ad AL p.slots
  have hl2:=Ad Ar p.mods
  have hl3:=Ad szAddr p.entries
  have hl4:=Ad szAddr p.ran
  have hl5:=Ad Ac p.log
  try simp only[AH] at *
  try simp only[fCopyBuilder,fCopyPage,fCopyPolicy,fCopyTokens,std,Nat.reduceAdd,szPage,fCopyPolicy,fCopyTokens,fCopyBuilder] at *
  try simp(disch:=omega) only[wrapId',toNat1] at *
  try simp(disch:=omega) only[if_pos,if_neg]
 all_goals first|trivial|omega|grind[wrapId',toNat1,drop_cons,drop_end,good_len,maxLen,szPage,fCopyPolicy,fCopyTokens,fCopyBuilder])
def Aas:=Abz.a k77_162
def AC:Fct:=⟨[.v (.el .addr),.v (.el .addr)],[.el .int],fun(x_:SAddr×SAddr×Unit)=>True,fun(x_:SAddr×SAddr×Unit)=>(cmpA x_.1 x_.2.1,())⟩
theorem k308_163:AC.ok Tryz.prog 308:=Fct.o (KP [2,3,4] [5,9]) Aas.2 Tryz.func308 (by
 rintro⟨(a:SAddr),(b:SAddr),_⟩ hp
 refine ho (.br (a.host==b.host&&(a.path==b.path&&true)) (.lf AC ((0:Int),())) (.br (Op.bytesLess a.host.toList b.host.toList) (.lf AC ((-1:Int),())) (.br (a.host.toList==b.host.toList) (.br (Op.bytesLess a.path.toList b.path.toList) (.lf AC ((-1:Int),())) (.lf AC ((1:Int),()))) (.lf AC ((1:Int),()))))) ?_
 refine Ab (fun h1=>lfY ?_) (fun h1=>Ab (fun h2=>lfY ?_) (fun h2=>Ab (fun h3=>Ab (fun h4=>lfY ?_) (fun h4=>lfY ?_)) (fun h3=>lfY ?_)))
 all_goals try simp only[EK,Rq,decide_eq_true_eq,decide_eq_false_iff_not] at *
 all_goals
  have h1:=GD a.host b.host
  have h2:=GD a.path b.path
  have h3:=Od a b
  have h4:=V4 (a:=a) (b:=b)
  have h5:=Ho (a:=a.host) (b:=b.host)
  have h6:=Ho (a:=a.path) (b:=b.path)
  try simp only[AH] at *
  try simp only[AC,std,Nat.reduceAdd,cmpA] at *
  try simp(disch:=omega) only[wrapId',toNat1] at *
  try simp(disch:=omega) only[if_pos,if_neg]
 all_goals first|trivial|omega|grind[wrapId',toNat1,drop_cons,drop_end,good_len,maxLen,cmpA])
def Acg:=Aas.a k308_163
def laysCmp_r:Go.Shelf.Ren:=⟨fun|0=>0|1=>1|2=>2|99=>393|103=>218|106=>335|109=>345|110=>334|129=>379|137=>158|138=>292|143=>293|145=>221|146=>220|156=>277|165=>303|166=>304|169=>305|171=>332|172=>333|195=>309|197=>310|205=>371|206=>290|210=>257|213=>346|217=>217|218=>311|219=>294|220=>260|221=>259|224=>313|225=>312|240=>325|241=>326|243=>342|244=>343|245=>344|246=>351|247=>352|260=>328|265=>357|266=>256|267=>314|268=>291|276=>338|277=>339|279=>353|280=>354|281=>355|282=>356|283=>365|284=>366|285=>367|286=>368|287=>369|314=>329|316=>370|317=>378|318=>380|319=>381|320=>382|321=>383|322=>384|337=>395|338=>396|347=>404|348=>405|349=>406|350=>407|351=>408|352=>409|353=>410|354=>411|355=>412|356=>413|357=>414|358=>415|359=>416|360=>417|361=>418|362=>419|363=>433|364=>420|365=>421|366=>434|367=>449|_=>0,fun|0=>0|1=>1|2=>2|3=>3|4=>4|5=>5|6=>6|7=>7|8=>8|9=>9|10=>10|11=>11|12=>12|13=>13|14=>14|15=>15|16=>16|17=>17|18=>18|19=>19|20=>20|21=>21|22=>349|24=>257|25=>286|27=>351|28=>38|30=>183|31=>31|32=>402|33=>371|34=>235|37=>243|43=>323|46=>368|47=>457|51=>372|52=>471|53=>429|54=>430|55=>196|59=>288|60=>289|61=>287|67=>333|69=>337|70=>353|71=>354|72=>355|73=>356|74=>357|75=>358|76=>359|77=>360|80=>361|81=>482|83=>169|84=>406|85=>408|86=>409|94=>503|101=>95|102=>90|103=>365|104=>255|105=>366|106=>367|108=>438|111=>456|113=>326|114=>344|119=>381|127=>370|128=>401|131=>340|137=>382|138=>383|139=>384|143=>459|144=>460|145=>461|146=>373|150=>350|151=>374|164=>378|165=>379|166=>380|167=>407|168=>410|169=>411|170=>412|171=>428|172=>431|173=>432|174=>433|175=>434|176=>435|209=>436|210=>437|211=>453|212=>454|213=>455|214=>458|232=>475|233=>476|238=>477|239=>478|240=>479|241=>480|242=>481|243=>483|244=>484|245=>485|246=>486|247=>487|248=>488|249=>489|_=>0,fun|1=>0|3=>1|4=>2|15=>3|16=>4|17=>5|18=>6|19=>7|_=>0⟩
theorem laysCmp:Go.Proofs.Lays.n106 Tryz.prog laysCmp_r:=⟨by kernel_rfl,by kernel_rfl,by kernel_rfl,by kernel_rfl,by kernel_rfl,(fun _=>by kernel_rfl),(fun _=>by kernel_rfl),(fun _=>by kernel_rfl),by kernel_rfl,(fun _=>by kernel_rfl),(fun _=>by kernel_rfl),(fun _=>by kernel_rfl)⟩
theorem k335_164:fCmpStr.ok Tryz.prog 335 :=
 U3 rfl (Any.strings_Compare laysCmp)
def AbO:=Acg.a k335_164
theorem k322_165:AC.ok Tryz.prog 322:=Fct.o (KP [2,3,4,5] [12]) AbO.2 Tryz.func322 (by
 rintro⟨(a:SAddr),(b:SAddr),_⟩ hp
 refine ho (.cl fCmpStr (a.host,b.host,()) fun(z2:Int×PUnit)=>.br (z2.1 != 0) (.lf AC (z2.1,())) (.cl fCmpStr (a.path,b.path,()) fun(z3:Int×PUnit)=>.lf AC (z3.1,()))) ?_
 refine Ae trivial fun _=>(Ab (fun h1=>lfY ?_) (fun h1=>Ae trivial fun _=>(lfY ?_)))
 all_goals
  try simp only[AH] at *
  try simp only[fCmpStr,AC,std,Nat.reduceAdd,cmpA,fCmpStr] at *
  try simp(disch:=omega) only[wrapId',toNat1] at *
  try simp(disch:=omega) only[if_pos,if_neg]
 all_goals first|trivial|omega|grind[wrapId',toNat1,drop_cons,drop_end,good_len,maxLen,cmpA,fCmpStr])
def Ab3:=AbO.a k322_165
def Cf:Fct:=⟨[.v (.el .page),.v (.el .addr)],[.el .int],fun(x_:SPage×SAddr×Unit)=>x_.1.mods.length≤1000000000000,fun(x_:SPage×SAddr×Unit)=>(fidx (fun m=>decide (m.to=x_.2.1)) x_.1.mods 0,())⟩
abbrev Cp (p:SPage) (a:SAddr):LInv:=⟨[⟨.s,5,true,.el .int⟩,⟨.b,2,false,.el .page⟩,⟨.b,3,true,.el .addr⟩],fun(z_:Int×SPage×SAddr×Unit) (x_:Int×SPage×SAddr×Unit)=>((0≤x_.1∧x_.1≤p.mods.length∧fidx (fun m=>decide (m.to=a)) (p.mods.drop x_.1.toNat) x_.1=fidx (fun m=>decide (m.to=a)) p.mods 0)∧x_.2.1=z_.2.1)∧x_.2.2.1=z_.2.2.1,fun(x_:Int×SPage×SAddr×Unit)=>p.mods.length-x_.1.toNat⟩
theorem k207_166:Cf.ok Tryz.prog 207:=Fct.p (KP [2,3,4,5] [10,20]) (fun⟨p,a,_⟩=>lv [(2,Cp p a)]) Ab3.2 Tryz.func207 (by
 rintro⟨(p:SPage),(a:SAddr),_⟩ hp
 refine ho (lpx (Cp p a) ((0:Int),(p,(a,()))) fun(y1:Int×SPage×SAddr×PUnit) bk1=>.br (decide (y1.1<(↑y1.2.1.mods.length:Int))) (.ob (inB y1.1 y1.2.1.mods.length)<|.br ((y1.2.1.mods.getD y1.1.toNat default).to.host==y1.2.2.1.host&&((y1.2.1.mods.getD y1.1.toNat default).to.path==y1.2.2.1.path&&true)) (.lf Cf (y1.1,())) (.ob (bk1 (w1 y1.1,(y1.2.1,(y1.2.2.1,()))))<|.ok)) (.lf Cf ((-1:Int),()))) ?_
 refine AG ?_ fun(y1:Int×SPage×SAddr×PUnit) i1=>Ab (fun h2=>Aa ?_ fun o3=>Ab (fun h4=>lfY ?_) (fun h4=>Aa ?_ fun o5=>trivial)) (fun h2=>lfY ?_)
 all_goals
  try simp only[EK] at *
  try simp only[AH] at *
  try simp only[Cp,Cf,std,Nat.reduceAdd,fidx] at *
  try simp(disch:=omega) only[wrapId',toNat1] at *
  try simp(disch:=omega) only[if_pos,if_neg]
 all_goals first|trivial|omega|grind[wrapId',toNat1,drop_cons,drop_end,good_len,maxLen,fidx])
def AaI:=Ab3.a k207_166
def fModAt1:Fct:=⟨[.v (.el .module),.p (.el .addr)],[.el .bool],fun(x_:SModule×SAddr×Unit)=>True,fun(x_:SModule×SAddr×Unit)=>(decide (x_.1.to=x_.2.1),())⟩
theorem k273_167:fModAt1.ok Tryz.prog 273:=Fct.o [1,2,3] AaI.2 Tryz.func273 (by
 rintro⟨(m:SModule),(a:SAddr),_⟩ hp
 refine ho (.lf fModAt1 (m.to.host==a.host&&(m.to.path==a.path&&true),())) ?_
 refine lfY ?_
 all_goals
  try simp only[EK] at *
  try simp only[AH] at *
  try simp only[fModAt1,std,Nat.reduceAdd] at *
  try simp(disch:=omega) only[wrapId',toNat1] at *
  try simp(disch:=omega) only[if_pos,if_neg]
 all_goals first|trivial|omega|grind[wrapId',toNat1,drop_cons,drop_end,good_len,maxLen])
def YX:=AaI.a k273_167
def Ax:Fct:=⟨[aL .module,.c 273 [.el .addr]],[rI],fun x=>x.1.length≤1000000000000000000∧∀ c,fModAt1.pre (c,x.2.1),fun x=>(fidx (fun c=>(fModAt1.fn (c,x.2.1)).1) x.1 0,())⟩
abbrev Ag (l:(List SModule)) (u:(SAddr×Unit)):LInv:=⟨[⟨.s,8,true,.el .int⟩],fun _ (x_:Int×Unit)=>0≤x_.1∧x_.1≤l.length∧fidx (fun c=>(fModAt1.fn (c,u)).1) l 0=fidx (fun c=>(fModAt1.fn (c,u)).1) (l.drop x_.1.toNat) x_.1,fun(x_:Int×Unit)=>l.length-x_.1.toNat⟩
theorem k272_168:Ax.ok Tryz.prog 272:=Fct.p (KP [0,1,4,5,7,8] [9,16]) (fun⟨l,u,_⟩=>lv [(2,Ag l u)]) YX.2 Tryz.func272 (by
 rintro⟨(l:List SModule),(u:SAddr×PUnit),_⟩ hp
 refine ho (lpx (Ag l u) ((0:Int),()) fun(y1:Int×PUnit) bk1=>.br (decide (y1.1<(↑l.length:Int))) (.ob (inB y1.1 l.length)<|.cl fModAt1 (l.getD y1.1.toNat default,u.1,()) fun z2=>.br (z2.1) (.lf Ax (y1.1,())) (.ob (l=l)<|.ob (enc Ty.addr u.1=enc Ty.addr u.1)<|.ob (Value.int IntKind.i64 (↑l.length:Int)=Value.int IntKind.i64 (↑l.length:Int))<|.ob (bk1 (w1 y1.1,()))<|.ok)) (.lf Ax ((-1:Int),()))) ?_
 refine AG ?_ fun(y1:Int×PUnit) i1=>Ab (fun h2=>Aa ?_ fun o3=>Ae trivial fun _=>(Ab (fun h4=>lfY ?_) (fun h4=>Aa rfl fun _=>Aa rfl fun _=>Aa rfl fun _=>Aa ?_ fun o5=>trivial))) (fun h2=>lfY ?_)
 all_goals
  try simp only[AH] at *
  try simp only[Ag,Ax,fModAt1,std,Nat.reduceAdd] at *
  try have hp2:=hp.2
  try have hp1:=hp.1
 all_goals first|trivial|omega|grind[wrapId',toNat1,drop_cons,drop_end,good_len,maxLen,fidx])
def Aa6:=YX.a k272_168
theorem k230_169:Cf.ok Tryz.prog 230:=Fct.o [2,3,4] Aa6.2 Tryz.func230 (by
 rintro⟨(p:SPage),(a:SAddr),_⟩ hp
 refine ho (.cl Ax (p.mods,(a,()),()) fun(z2:Int×PUnit)=>.lf Cf (z2.1,())) ?_
 refine Ae ?_ fun o1=>(lfY ?_)
 all_goals
  try simp only[AH] at *
  try simp only[Ax,Cf,std,Nat.reduceAdd,fModAt1] at *
  try simp(disch:=omega) only[wrapId',toNat1] at *
  try simp(disch:=omega) only[if_pos,if_neg]
 all_goals first|trivial|omega|grind[wrapId',toNat1,drop_cons,drop_end,good_len,maxLen,fModAt1])
def ZQ:=Aa6.a k230_169
theorem szServer_get {l:List SServer} {i:Nat} (h:i<l.length):(l.getD i default).files.length+l.length≤szL AZ l:=by
 have:=Dk AZ h
 have h2:=Ad Dh (l.getD i default).files
 simp only[AZ] at this;omega
def Vn:Fct:=⟨[aI,aI],[rI],fun _=>True,fun(x:Int×Int×Unit)=>(min x.1 x.2.1,())⟩
theorem k253_170:Vn.ok Tryz.prog 253:=Fct.o (KP [0,1,4] [7]) ZQ.2 Tryz.func253 (by
 rintro⟨(a:Int),(b:Int),_⟩ hp
 refine ho (.br (decide (b<a)) (.lf Vn (b,())) (.lf Vn (a,()))) ?_
 refine Ab (fun h1=>lfY ?_) (fun h1=>lfY ?_)
 all_goals
  try simp only[AH] at *
  try simp only[Vn,std,Nat.reduceAdd] at *
 all_goals first|trivial|omega|(simp_all;done)|(simp_all;omega)|grind)
def Ab0:=ZQ.a k253_170
theorem szL_cat {α:Type} (f:α→Nat) (l m:List α):szL f (l++m)=szL f l+szL f m:=by simp[szL];omega
theorem szL_drop {α:Type} (f:α→Nat) (l:List α) (n:Nat):szL f (l.drop n)≤szL f l:=by
 have h:=szL_cat f (l.take n) (l.drop n)
 rw[List.take_append_drop] at h
 omega
def nameByte (b:UInt8):Bool:=97≤b.toNat&&b.toNat≤122
def bts (s:ByteArray):List UInt8:=s.data.toList
theorem bts_len (s:ByteArray):(bts s).length=s.size:=rfl
theorem bts_at {s:ByteArray} {i:Nat} (h:i<s.size):(bts s).drop i=s.data.getD i 0::(bts s).drop (i+1):=by
 have h2:i<s.data.size:=h
 have e:s.data.getD i 0=s.data[i]:=by unfold Array.getD;rw[dif_pos h2];rfl
 rw[List.drop_eq_getElem_cons (by rw[bts_len];exact h),e]
 rfl
theorem bts_end {s:ByteArray} {i:Nat} (h:s.size≤i):(bts s).drop i=[]:=List.drop_of_length_le h
def allB (p:UInt8→Bool) (l:List UInt8):Bool:=l.all p
theorem allB_at {p:UInt8→Bool} {s:ByteArray} {i:Nat} (h:i<s.size):allB p ((bts s).drop i)=(p (s.data.getD i 0)&&allB p ((bts s).drop (i+1))):=by rw[bts_at h];rfl
theorem allB_end {p:UInt8→Bool} {s:ByteArray} {i:Nat} (h:s.size≤i):allB p ((bts s).drop i)=true:=by rw[bts_end h];rfl
def isName (s:ByteArray):Bool:=allB nameByte (bts s)&&decide (1≤s.size∧s.size≤8)
def fIsName:Fct:=⟨[.v (.el .str)],[.el .bool],fun(x_:ByteArray×Unit)=>x_.1.size≤1000000000000000000,fun(x_:ByteArray×Unit)=>(isName x_.1,())⟩
abbrev Cr (s:ByteArray):LInv:=⟨[⟨.s,3,true,.el .int⟩],fun _ (x_:Int×Unit)=>0≤x_.1∧x_.1≤s.size∧allB nameByte ((bts s).drop x_.1.toNat)=allB nameByte (bts s),fun(x_:Int×Unit)=>s.size-x_.1.toNat⟩
theorem k195_171:fIsName.ok Tryz.prog 195:=Fct.p (KP [0,2,3] [7,19]) (fun⟨s,_⟩=>lv [(2,Cr s)]) Ab0.2 Tryz.func195 (by
 rintro⟨(s:ByteArray),_⟩ hp
 refine ho (lpx (Cr s) ((0:Int),()) fun(y1:Int×PUnit) bk1=>.br (decide (y1.1<(↑s.size:Int))) (.ob (0≤y1.1∧y1.1<(↑s.size:Int))<|.br (decide ((↑(s.data.getD y1.1.toNat 0).toNat:Int)<97)) (.lf fIsName (false,())) (.ob (0≤y1.1∧y1.1<(↑s.size:Int))<|.br (decide ((↑(s.data.getD y1.1.toNat 0).toNat:Int)>122)) (.lf fIsName (false,())) (.ob (Value.string s=Value.string s)<|.ob (bk1 (w1 y1.1,()))<|.ok))) (.cl fInRange ((↑s.size:Int),(1:Int),(8:Int),()) fun z2=>.lf fIsName (z2.1,()))) ?_
 refine AG ?_ fun(y1:Int×PUnit) i1=>Ab (fun h2=>Aa ?_ fun o3=>Ab (fun h4=>lfY ?_) (fun h4=>Aa ?_ fun o5=>Ab (fun h6=>lfY ?_) (fun h6=>Aa rfl fun _=>Aa ?_ fun o7=>trivial))) (fun h2=>Ae trivial fun _=>(lfY ?_))
 all_goals
  try simp only[AH] at *
  try simp only[Cr,fInRange,fIsName,std,Nat.reduceAdd,isName,nameByte,fInRange,inRange,allB_at,allB_end] at *
  try simp(disch:=omega) only[wrapId',toNat1] at *
  try simp(disch:=omega) only[if_pos,if_neg]
 all_goals first|trivial|omega|grind[wrapId',toNat1,good_len,maxLen,isName,nameByte,fInRange,inRange,allB_at,allB_end])
def AaS:=Ab0.a k195_171
abbrev Cv (s:ByteArray):LInv:=⟨[⟨.s,3,true,.el .int⟩],fun _ (x_:Int×Unit)=>0≤x_.1∧x_.1≤s.size∧allB nameByte ((bts s).drop x_.1.toNat)=allB nameByte (bts s),fun(x_:Int×Unit)=>s.size-x_.1.toNat⟩
theorem k219_172:fIsName.ok Tryz.prog 219:=Fct.p (KP [0,2,3] [7,19]) (fun⟨s,_⟩=>lv [(2,Cv s)]) AaS.2 Tryz.func219 (by
 rintro⟨(s:ByteArray),_⟩ hp
 refine ho (lpx (Cv s) ((0:Int),()) fun(y1:Int×PUnit) bk1=>.br (decide (y1.1<(↑s.size:Int))) (.ob (0≤y1.1∧y1.1<(↑s.size:Int))<|.br (decide ((↑(s.data.getD y1.1.toNat 0).toNat:Int)<97)) (.lf fIsName (false,())) (.ob (0≤y1.1∧y1.1<(↑s.size:Int))<|.br (decide ((↑(s.data.getD y1.1.toNat 0).toNat:Int)>122)) (.lf fIsName (false,())) (.ob (Value.string s=Value.string s)<|.ob (bk1 (w1 y1.1,()))<|.ok))) (.cl fInRange ((↑s.size:Int),(1:Int),(8:Int),()) fun z2=>.lf fIsName (z2.1,()))) ?_
 refine AG ?_ fun(y1:Int×PUnit) i1=>Ab (fun h2=>Aa ?_ fun o3=>Ab (fun h4=>lfY ?_) (fun h4=>Aa ?_ fun o5=>Ab (fun h6=>lfY ?_) (fun h6=>Aa rfl fun _=>Aa ?_ fun o7=>trivial))) (fun h2=>Ae trivial fun _=>(lfY ?_))
 all_goals
  try simp only[AH] at *
  try simp only[Cv,fInRange,fIsName,std,Nat.reduceAdd,isName,nameByte,fInRange,inRange,allB_at,allB_end] at *
  try simp(disch:=omega) only[wrapId',toNat1] at *
  try simp(disch:=omega) only[if_pos,if_neg]
 all_goals first|trivial|omega|grind[wrapId',toNat1,good_len,maxLen,isName,nameByte,fInRange,inRange,allB_at,allB_end])
def YQ:=AaS.a k219_172
def valByte (b:UInt8):Bool:=(97≤b.toNat&&b.toNat≤122)||(48≤b.toNat&&b.toNat≤57)||b.toNat==47
def isValue (s:ByteArray):Bool:=allB valByte (bts s)&&decide (1≤s.size∧s.size≤20)
def fIsValue:Fct:=⟨[.v (.el .str)],[.el .bool],fun(x_:ByteArray×Unit)=>x_.1.size≤1000000000000000000,fun(x_:ByteArray×Unit)=>(isValue x_.1,())⟩
abbrev Ca (s:ByteArray):LInv:=⟨[⟨.s,3,true,.el .int⟩],fun _ (x_:Int×Unit)=>0≤x_.1∧x_.1≤s.size∧allB valByte ((bts s).drop x_.1.toNat)=allB valByte (bts s),fun(x_:Int×Unit)=>s.size-x_.1.toNat⟩
theorem k197_173:fIsValue.ok Tryz.prog 197:=Fct.p (KP [0,2,3] [7,37]) (fun⟨s,_⟩=>lv [(2,Ca s)]) YQ.2 Tryz.func197 (by
 rintro⟨(s:ByteArray),_⟩ hp
 refine ho (let q5_:=(↑s.size:Int);lpx (Ca s) ((0:Int),()) fun(y1:Int×PUnit) bk1=>let q3_:=0≤y1.1∧y1.1<q5_;let q2_:=(↑(s.data.getD y1.1.toNat 0).toNat:Int);let q1_:Out:=.ob (Value.string s=Value.string s)<|.ob (bk1 (w1 y1.1,()))<|.ok;let q4_:Out:=.ob q3_<|.br (q2_ != 47) (.lf fIsValue (false,())) q1_;let q0_:Out:=.ob q3_<|.br (decide (q2_<48)) q4_ (.ob q3_<|.br (decide (q2_>57)) q4_ q1_);.br (decide (y1.1<q5_)) (.ob q3_<|.br (decide (q2_<97)) q0_ (.ob q3_<|.br (decide (q2_>122)) q0_ q1_)) (.cl fInRange (q5_,(1:Int),(20:Int),()) fun z2=>.lf fIsValue (z2.1,()))) ?_
 refine AG ?_ fun(y1:Int×PUnit) i1=>Ab (fun h2=>Aa ?_ fun o3=>Ab (fun h4=>Aa ?_ fun o5=>Ab (fun h6=>Aa ?_ fun o7=>Ab (fun h8=>lfY ?_) (fun h8=>Aa rfl fun _=>Aa ?_ fun o9=>trivial)) (fun h6=>Aa ?_ fun o10=>Ab (fun h11=>Aa ?_ fun o12=>Ab (fun h13=>lfY ?_) (fun h13=>Aa rfl fun _=>Aa ?_ fun o14=>trivial)) (fun h11=>Aa rfl fun _=>Aa ?_ fun o15=>trivial))) (fun h4=>Aa ?_ fun o16=>Ab (fun h17=>Aa ?_ fun o18=>Ab (fun h19=>Aa ?_ fun o20=>Ab (fun h21=>lfY ?_) (fun h21=>Aa rfl fun _=>Aa ?_ fun o22=>trivial)) (fun h19=>Aa ?_ fun o23=>Ab (fun h24=>Aa ?_ fun o25=>Ab (fun h26=>lfY ?_) (fun h26=>Aa rfl fun _=>Aa ?_ fun o27=>trivial)) (fun h24=>Aa rfl fun _=>Aa ?_ fun o28=>trivial))) (fun h17=>Aa rfl fun _=>Aa ?_ fun o29=>trivial))) (fun h2=>Ae trivial fun _=>(lfY ?_))
 all_goals
  try simp only[AH] at *
  try simp only[Ca,fInRange,fIsValue,std,Nat.reduceAdd,isValue,valByte,fInRange,inRange,allB_at,allB_end] at *
  try simp(disch:=omega) only[wrapId',toNat1] at *
  try simp(disch:=omega) only[if_pos,if_neg]
 all_goals first|trivial|omega|grind[wrapId',toNat1,good_len,maxLen,isValue,valByte,fInRange,inRange,allB_at,allB_end])
def ZK:=YQ.a k197_173
abbrev Cd (s:ByteArray):LInv:=⟨[⟨.s,3,true,.el .int⟩],fun _ (x_:Int×Unit)=>0≤x_.1∧x_.1≤s.size∧allB valByte ((bts s).drop x_.1.toNat)=allB valByte (bts s),fun(x_:Int×Unit)=>s.size-x_.1.toNat⟩
theorem k223_174:fIsValue.ok Tryz.prog 223:=Fct.p (KP [0,2,3] [7,38]) (fun⟨s,_⟩=>lv [(2,Cd s)]) ZK.2 Tryz.func223 (by
 rintro⟨(s:ByteArray),_⟩ hp
 refine ho (let q6_:=(↑s.size:Int);let q4_:Out:=.lf fIsValue (false,());lpx (Cd s) ((0:Int),()) fun(y1:Int×PUnit) bk1=>let q3_:=0≤y1.1∧y1.1<q6_;let q2_:=(↑(s.data.getD y1.1.toNat 0).toNat:Int);let q1_:Out:=.ob (Value.string s=Value.string s)<|.ob (bk1 (w1 y1.1,()))<|.ok;let q7_:Out:=.br (!true) q4_ q1_;let q5_:Out:=.ob q3_<|.br (!q2_==47) q4_ q1_;let q0_:Out:=.ob q3_<|.br (decide (q2_≥48)) (.ob q3_<|.br (decide (q2_≤57)) q7_ q5_) q5_;.br (decide (y1.1<q6_)) (.ob q3_<|.br (decide (q2_≥97)) (.ob q3_<|.br (decide (q2_≤122)) q7_ q0_) q0_) (.cl fInRange (q6_,(1:Int),(20:Int),()) fun z2=>.lf fIsValue (z2.1,()))) ?_
 refine AG ?_ fun(y1:Int×PUnit) i1=>Ab (fun h2=>Aa ?_ fun o3=>Ab (fun h4=>Aa ?_ fun o5=>Ab (fun h6=>Ab (fun h7=>lfY ?_) (fun h7=>Aa rfl fun _=>Aa ?_ fun o8=>trivial)) (fun h6=>Aa ?_ fun o9=>Ab (fun h10=>Aa ?_ fun o11=>Ab (fun h12=>Ab (fun h13=>lfY ?_) (fun h13=>Aa rfl fun _=>Aa ?_ fun o14=>trivial)) (fun h12=>Aa ?_ fun o15=>Ab (fun h16=>lfY ?_) (fun h16=>Aa rfl fun _=>Aa ?_ fun o17=>trivial))) (fun h10=>Aa ?_ fun o18=>Ab (fun h19=>lfY ?_) (fun h19=>Aa rfl fun _=>Aa ?_ fun o20=>trivial)))) (fun h4=>Aa ?_ fun o21=>Ab (fun h22=>Aa ?_ fun o23=>Ab (fun h24=>Ab (fun h25=>lfY ?_) (fun h25=>Aa rfl fun _=>Aa ?_ fun o26=>trivial)) (fun h24=>Aa ?_ fun o27=>Ab (fun h28=>lfY ?_) (fun h28=>Aa rfl fun _=>Aa ?_ fun o29=>trivial))) (fun h22=>Aa ?_ fun o30=>Ab (fun h31=>lfY ?_) (fun h31=>Aa rfl fun _=>Aa ?_ fun o32=>trivial)))) (fun h2=>Ae trivial fun _=>(lfY ?_))
 all_goals
  try simp only[AH] at *
  try simp only[Cd,fInRange,fIsValue,std,Nat.reduceAdd,isValue,valByte,fInRange,inRange,allB_at,allB_end] at *
  try simp(disch:=omega) only[wrapId',toNat1] at *
  try simp(disch:=omega) only[if_pos,if_neg]
 all_goals first|trivial|omega|grind[wrapId',toNat1,good_len,maxLen,isValue,valByte,fInRange,inRange,allB_at,allB_end])
def ZB:=ZK.a k223_174
def fIsAddr:Fct:=⟨[.v (.el .addr)],[.el .bool],fun(x_:SAddr×Unit)=>x_.1.host.size≤1000000000000000000∧x_.1.path.size≤1000000000000000000,fun(x_:SAddr×Unit)=>(isName x_.1.host&&isName x_.1.path,())⟩
theorem k251_175:fIsAddr.ok Tryz.prog 251:=Fct.o [1,2] ZB.2 Tryz.func251 (by
 rintro⟨(a:SAddr),_⟩ hp
 refine ho (.cl fIsName (a.host,()) fun z2=>.br (z2.1) (.cl fIsName (a.path,()) fun z3=>.lf fIsAddr (z3.1,())) (.lf fIsAddr (false,()))) ?_
 refine Ae ?_ fun o1=>(Ab (fun h2=>Ae ?_ fun o3=>(lfY ?_)) (fun h2=>lfY ?_))
 all_goals
  try simp only[AH] at *
  try simp only[fIsAddr,fIsName,std,Nat.reduceAdd,fIsName] at *
  try simp(disch:=omega) only[wrapId',toNat1] at *
  try simp(disch:=omega) only[if_pos,if_neg]
 all_goals first|trivial|omega|grind[wrapId',toNat1,drop_cons,drop_end,good_len,maxLen,fIsName])
def Abj:=ZB.a k251_175
theorem k274_176:fIsAddr.ok Tryz.prog 274:=Fct.o [1,2] Abj.2 Tryz.func274 (by
 rintro⟨(a:SAddr),_⟩ hp
 refine ho (.cl fIsName (a.host,()) fun z2=>.br (z2.1) (.cl fIsName (a.path,()) fun z3=>.lf fIsAddr (z3.1,())) (.lf fIsAddr (false,()))) ?_
 refine Ae ?_ fun o1=>(Ab (fun h2=>Ae ?_ fun o3=>(lfY ?_)) (fun h2=>lfY ?_))
 all_goals
  try simp only[AH] at *
  try simp only[fIsAddr,fIsName,std,Nat.reduceAdd,fIsName] at *
  try simp(disch:=omega) only[wrapId',toNat1] at *
  try simp(disch:=omega) only[if_pos,if_neg]
 all_goals first|trivial|omega|grind[wrapId',toNat1,drop_cons,drop_end,good_len,maxLen,fIsName])
def ZM:=Abj.a k274_176
def fAllows:Fct:=⟨[.v (.el .policy),.v (.el .int),.v (.el .str)],[.el .bool],fun(x_:SPolicy×Int×ByteArray×Unit)=>szPolicy x_.1≤1099511627776,fun(x_:SPolicy×Int×ByteArray×Unit)=>(!x_.1.set_||(if x_.2.1=2∨x_.2.1=5 then x_.1.scripts.any (fun c=>decide (c=x_.2.2.1)) else if x_.2.1=3 then x_.1.styles.any (fun c=>decide (c=x_.2.2.1)) else if x_.2.1=4 then x_.1.images.any (fun c=>decide (c=x_.2.2.1)) else false),())⟩
theorem k307_177:fAllows.ok Tryz.prog 307:=Fct.o (KP [1,2,3,6] [7,11,22,29]) ZM.2 Tryz.func307 (by
 rintro⟨(p:SPolicy),(k:Int),(h:ByteArray),_⟩ hp
 refine ho (.br (!p.set_) (.lf fAllows (true,())) (.br (k==2) (.cl fHas9 (p.scripts,h,()) fun z2=>.lf fAllows (z2.1,())) (.br (k==5) (.cl fHas9 (p.scripts,h,()) fun z3=>.lf fAllows (z3.1,())) (.br (k==3) (.cl fHas9 (p.styles,h,()) fun z4=>.lf fAllows (z4.1,())) (.br (k==4) (.cl fHas9 (p.images,h,()) fun z5=>.lf fAllows (z5.1,())) (.lf fAllows (false,()))))))) ?_
 refine Ab (fun h1=>lfY ?_) (fun h1=>Ab (fun h2=>Ae ?_ fun o3=>(lfY ?_)) (fun h2=>Ab (fun h4=>Ae ?_ fun o5=>(lfY ?_)) (fun h4=>Ab (fun h6=>Ae ?_ fun o7=>(lfY ?_)) (fun h6=>Ab (fun h8=>Ae ?_ fun o9=>(lfY ?_)) (fun h8=>lfY ?_)))))
 all_goals
  have hl1:=Ad Ac p.scripts
  have hl2:=Ad Ac p.styles
  have hl3:=Ad Ac p.images
  try simp only[AH] at *
  try simp only[fAllows,fHas9,std,Nat.reduceAdd,fHas9,fContains_str,szPolicy] at *
  try simp(disch:=omega) only[wrapId',toNat1] at *
  try simp(disch:=omega) only[if_pos,if_neg]
 all_goals first|trivial|omega|grind[wrapId',toNat1,drop_cons,drop_end,good_len,maxLen,fHas9,fContains_str,szPolicy])
def Aao:=ZM.a k307_177
theorem k321_178:fAllows.ok Tryz.prog 321:=Fct.o (KP [1,2,3,6,10,11] [9,18,24]) Aao.2 Tryz.func321 (by
 rintro⟨(p:SPolicy),(k:Int),(h:ByteArray),_⟩ hp
 refine ho (.br (!p.set_) (.lf fAllows (true,())) (.br (k==2) (.br (k==2) (.cl fContains_str (p.scripts,h,()) fun z2=>.lf fAllows (z2.1,())) (.br (k==3) (.cl fContains_str (p.styles,h,()) fun z3=>.lf fAllows (z3.1,())) (.br (k==4) (.cl fContains_str (p.images,h,()) fun z4=>.lf fAllows (z4.1,())) (.lf fAllows (false,()))))) (.br (k==5) (.cl fContains_str (p.scripts,h,()) fun z5=>.lf fAllows (z5.1,())) (.br (k==3) (.cl fContains_str (p.styles,h,()) fun z6=>.lf fAllows (z6.1,())) (.br (k==4) (.cl fContains_str (p.images,h,()) fun z7=>.lf fAllows (z7.1,())) (.lf fAllows (false,()))))))) ?_
 refine Ab (fun h1=>lfY ?_) (fun h1=>Ab (fun h2=>Ab (fun h3=>Ae ?_ fun o4=>(lfY ?_)) (fun h3=>Ab (fun h5=>Ae ?_ fun o6=>(lfY ?_)) (fun h5=>Ab (fun h7=>Ae ?_ fun o8=>(lfY ?_)) (fun h7=>lfY ?_)))) (fun h2=>Ab (fun h9=>Ae ?_ fun o10=>(lfY ?_)) (fun h9=>Ab (fun h11=>Ae ?_ fun o12=>(lfY ?_)) (fun h11=>Ab (fun h13=>Ae ?_ fun o14=>(lfY ?_)) (fun h13=>lfY ?_)))))
 all_goals
  have hl1:=Ad Ac p.scripts
  have hl2:=Ad Ac p.styles
  have hl3:=Ad Ac p.images
  try simp only[AH] at *
  try simp only[fAllows,fContains_str,std,Nat.reduceAdd,fHas9,fContains_str,szPolicy] at *
  try simp(disch:=omega) only[wrapId',toNat1] at *
  try simp(disch:=omega) only[if_pos,if_neg]
 all_goals first|trivial|omega|grind[wrapId',toNat1,drop_cons,drop_end,good_len,maxLen,fHas9,fContains_str,szPolicy])
def Ab4:=Aao.a k321_178
def isRequest (r:SRequest):Bool:=inRange r.kind 1 5&&(isName r.to.host&&isName r.to.path)&&isName r.from_&&(decide (r.digest=⟨#[]⟩)||isValue r.digest)
def fIsRequest:Fct:=⟨[.v (.el .request)],[.el .bool],fun(x_:SRequest×Unit)=>szRequest x_.1≤1099511627776,fun(x_:SRequest×Unit)=>(isRequest x_.1,())⟩
theorem k306_179:fIsRequest.ok Tryz.prog 306:=Fct.o [1,2] Ab4.2 Tryz.func306 (by
 rintro⟨(r:SRequest),_⟩ hp
 refine ho (.cl fInRange (r.kind,(1:Int),(5:Int),()) fun z2=>.br (z2.1) (.cl fIsAddr (r.to,()) fun z3=>.br (z3.1) (.cl fIsName (r.from_,()) fun z4=>.br (z4.1) (.br (r.digest.toList==(⟨#[]⟩:ByteArray).toList) (.lf fIsRequest (true,())) (.cl fIsValue (r.digest,()) fun z5=>.lf fIsRequest (z5.1,()))) (.lf fIsRequest (false,()))) (.lf fIsRequest (false,()))) (.lf fIsRequest (false,()))) ?_
 refine Ae trivial fun _=>(Ab (fun h1=>Ae ?_ fun o2=>(Ab (fun h3=>Ae ?_ fun o4=>(Ab (fun h5=>Ab (fun h6=>lfY ?_) (fun h6=>Ae ?_ fun o7=>(lfY ?_))) (fun h5=>lfY ?_))) (fun h3=>lfY ?_))) (fun h1=>lfY ?_))
 all_goals
  try simp only[AH] at *
  try simp only[fInRange,fIsAddr,fIsName,fIsRequest,fIsValue,std,Nat.reduceAdd,isRequest,fIsName,fIsAddr,fIsValue,fInRange,szRequest,szAddr] at *
  try simp(disch:=omega) only[wrapId',toNat1] at *
  try simp(disch:=omega) only[if_pos,if_neg]
 all_goals first|trivial|omega|grind[wrapId',toNat1,drop_cons,drop_end,good_len,maxLen,isRequest,fIsName,fIsAddr,fIsValue,fInRange,szRequest,szAddr])
def AaZ:=Ab4.a k306_179
theorem k320_180:fIsRequest.ok Tryz.prog 320:=Fct.o [1,2] AaZ.2 Tryz.func320 (by
 rintro⟨(r:SRequest),_⟩ hp
 refine ho (.cl fInRange (r.kind,(1:Int),(5:Int),()) fun z2=>.br (z2.1) (.cl fIsAddr (r.to,()) fun z3=>.br (z3.1) (.cl fIsName (r.from_,()) fun z4=>.br (z4.1) (.br (r.digest.toList==(⟨#[]⟩:ByteArray).toList) (.lf fIsRequest (true,())) (.cl fIsValue (r.digest,()) fun z5=>.lf fIsRequest (z5.1,()))) (.lf fIsRequest (false,()))) (.lf fIsRequest (false,()))) (.lf fIsRequest (false,()))) ?_
 refine Ae trivial fun _=>(Ab (fun h1=>Ae ?_ fun o2=>(Ab (fun h3=>Ae ?_ fun o4=>(Ab (fun h5=>Ab (fun h6=>lfY ?_) (fun h6=>Ae ?_ fun o7=>(lfY ?_))) (fun h5=>lfY ?_))) (fun h3=>lfY ?_))) (fun h1=>lfY ?_))
 all_goals
  try simp only[AH] at *
  try simp only[fInRange,fIsAddr,fIsName,fIsRequest,fIsValue,std,Nat.reduceAdd,isRequest,fIsName,fIsAddr,fIsValue,fInRange,szRequest,szAddr] at *
  try simp(disch:=omega) only[wrapId',toNat1] at *
  try simp(disch:=omega) only[if_pos,if_neg]
 all_goals first|trivial|omega|grind[wrapId',toNat1,drop_cons,drop_end,good_len,maxLen,isRequest,fIsName,fIsAddr,fIsValue,fInRange,szRequest,szAddr])
def ZY:=AaZ.a k320_180
def allows (p:SPolicy) (k:Int) (h:ByteArray):Bool:=(fAllows.fn (p,k,h,())).1
def checkRequest (p:SPolicy) (r:SRequest):Int:=if isRequest r&&(decide (r.kind=1)||allows p r.kind r.to.host) then 1 else 2
def Ah:Fct:=⟨[.v (.el .policy),.v (.el .request)],[.el .int],fun(x_:SPolicy×SRequest×Unit)=>szPolicy x_.1≤1099511627776∧szRequest x_.2.1≤1099511627776,fun(x_:SPolicy×SRequest×Unit)=>(checkRequest x_.1 x_.2.1,())⟩
theorem k287_181:Ah.ok Tryz.prog 287:=Fct.o (KP [2,3,4] [22]) ZY.2 Tryz.func287 (by
 rintro⟨(p:SPolicy),(r:SRequest),_⟩ hp
 refine ho (.cl fIsRequest (r,()) fun z2=>.br (!z2.1) (.lf Ah ((2:Int),())) (.br (r.kind != 1) (.cl fAllows (p,r.kind,r.to.host,()) fun z3=>.br (!z3.1) (.lf Ah ((2:Int),())) (.lf Ah ((1:Int),()))) (.lf Ah ((1:Int),())))) ?_
 refine Ae ?_ fun o1=>(Ab (fun h2=>lfY ?_) (fun h2=>Ab (fun h3=>Ae ?_ fun o4=>(Ab (fun h5=>lfY ?_) (fun h5=>lfY ?_))) (fun h3=>lfY ?_)))
 all_goals
  try simp only[AH] at *
  try simp only[fAllows,Ah,fIsRequest,std,Nat.reduceAdd,checkRequest,allows,fAllows,fIsRequest] at *
  try simp(disch:=omega) only[wrapId',toNat1] at *
  try simp(disch:=omega) only[if_pos,if_neg]
 all_goals first|trivial|omega|grind[wrapId',toNat1,drop_cons,drop_end,good_len,maxLen,checkRequest,allows,fAllows,fIsRequest])
def Aai:=ZY.a k287_181
theorem k299_182:Ah.ok Tryz.prog 299:=Fct.o (KP [2,3,4] [22]) Aai.2 Tryz.func299 (by
 rintro⟨(p:SPolicy),(r:SRequest),_⟩ hp
 refine ho (.cl fIsRequest (r,()) fun z2=>.br (!z2.1) (.lf Ah ((2:Int),())) (.br (r.kind != 1) (.cl fAllows (p,r.kind,r.to.host,()) fun z3=>.br (!z3.1) (.lf Ah ((2:Int),())) (.lf Ah ((1:Int),()))) (.lf Ah ((1:Int),())))) ?_
 refine Ae ?_ fun o1=>(Ab (fun h2=>lfY ?_) (fun h2=>Ab (fun h3=>Ae ?_ fun o4=>(Ab (fun h5=>lfY ?_) (fun h5=>lfY ?_))) (fun h3=>lfY ?_)))
 all_goals
  try simp only[AH] at *
  try simp only[fAllows,Ah,fIsRequest,std,Nat.reduceAdd,checkRequest,allows,fAllows,fIsRequest] at *
  try simp(disch:=omega) only[wrapId',toNat1] at *
  try simp(disch:=omega) only[if_pos,if_neg]
 all_goals first|trivial|omega|grind[wrapId',toNat1,drop_cons,drop_end,good_len,maxLen,checkRequest,allows,fAllows,fIsRequest])
def AaM:=Aai.a k299_182
def fCopyServers:Fct:=⟨[.v (.sl .server)],[.sl .server],fun(x_:(List SServer)×Unit)=>szL AZ x_.1≤68719476736,fun(x_:(List SServer)×Unit)=>(x_.1,())⟩
abbrev BI (l:(List SServer)):LInv:=⟨[⟨.s,3,true,.sl .server⟩,⟨.s,4,true,.el .int⟩],fun _ (x_:(List SServer)×Int×Unit)=>0≤x_.2.1∧x_.2.1≤l.length∧x_.1=l.take x_.2.1.toNat,fun(x_:(List SServer)×Int×Unit)=>l.length-x_.2.1.toNat⟩
theorem k125_183:fCopyServers.ok Tryz.prog 125:=Fct.p (KP [0,2,3,4] [9]) (fun⟨l,_⟩=>lv [(3,BI l)]) AaM.2 Tryz.func125 (by
 rintro⟨(l:List SServer),_⟩ hp
 refine ho (lpx (BI l) ([],((0:Int),())) fun(y1:List SServer×Int×PUnit) bk1=>.br (decide (y1.2.1<(↑l.length:Int))) (.ob (inB y1.2.1 l.length)<|.ob (inB y1.2.1 l.length)<|.ob (True)<|.ob (Bi (l.getD y1.2.1.toNat default).files.length 80)<|.ob (Bi (y1.1.length+[l.getD y1.2.1.toNat default].length) 40)<|.ob (l=l)<|.ob (bk1 (y1.1++[l.getD y1.2.1.toNat default],(w1 y1.2.1,())))<|.ok) (.lf fCopyServers (y1.1,()))) ?_
 refine AG ?_ fun(y1:List SServer×Int×PUnit) i1=>Ab (fun h2=>Aa ?_ fun o3=>Aa ?_ fun o4=>Aa trivial fun _=>Aa ?_ fun o5=>Aa ?_ fun o6=>Aa rfl fun _=>Aa ?_ fun o7=>trivial) (fun h2=>lfY ?_)
 all_goals
  have hl:=Ad AZ l
  have hg:∀ i,i<l.length→(l.getD i default).files.length≤68719476736:=fun i h=>by have:=szServer_get h;have hp2:szL AZ l≤68719476736:=hp;omega
  try simp only[AH] at *
  try simp only[BI,fCopyServers,std,Nat.reduceAdd,take_succ,take_end] at *
  try simp(disch:=omega) only[wrapId',toNat1] at *
  try simp(disch:=omega) only[if_pos,if_neg]
 all_goals first|trivial|omega|grind[wrapId',toNat1,drop_cons,drop_end,good_len,maxLen,take_succ,take_end])
def AbT:=AaM.a k125_183
abbrev Bc (l:(List SServer)):LInv:=⟨[⟨.s,3,true,.sl .server⟩,⟨.s,9,true,.el .int⟩],fun _ (x_:(List SServer)×Int×Unit)=>0≤x_.2.1∧x_.2.1≤l.length∧x_.1=l.take x_.2.1.toNat,fun(x_:(List SServer)×Int×Unit)=>l.length-x_.2.1.toNat⟩
theorem k153_184:fCopyServers.ok Tryz.prog 153:=Fct.p (KP [0,2,3,5,7,8,9] [10]) (fun⟨l,_⟩=>lv [(3,Bc l)]) AbT.2 Tryz.func153 (by
 rintro⟨(l:List SServer),_⟩ hp
 refine ho (lpx (Bc l) ([],((0:Int),())) fun(y1:List SServer×Int×PUnit) bk1=>.br (decide (y1.2.1<(↑l.length:Int))) (.ob (inB y1.2.1 l.length)<|.ob (True)<|.ob (Bi (l.getD y1.2.1.toNat default).files.length 80)<|.ob (Bi (y1.1.length+[l.getD y1.2.1.toNat default].length) 40)<|.ob (l=l)<|.ob (l=l)<|.ob (Value.int IntKind.i64 (↑l.length:Int)=Value.int IntKind.i64 (↑l.length:Int))<|.ob (bk1 (y1.1++[l.getD y1.2.1.toNat default],(w1 y1.2.1,())))<|.ok) (.lf fCopyServers (y1.1,()))) ?_
 refine AG ?_ fun(y1:List SServer×Int×PUnit) i1=>Ab (fun h2=>Aa ?_ fun o3=>Aa trivial fun _=>Aa ?_ fun o4=>Aa ?_ fun o5=>Aa rfl fun _=>Aa rfl fun _=>Aa rfl fun _=>Aa ?_ fun o6=>trivial) (fun h2=>lfY ?_)
 all_goals
  have hl:=Ad AZ l
  have hg:∀ i,i<l.length→(l.getD i default).files.length≤68719476736:=fun i h=>by have:=szServer_get h;have hp2:szL AZ l≤68719476736:=hp;omega
  try simp only[AH] at *
  try simp only[Bc,fCopyServers,std,Nat.reduceAdd,take_succ,take_end] at *
  try simp(disch:=omega) only[wrapId',toNat1] at *
  try simp(disch:=omega) only[if_pos,if_neg]
 all_goals first|trivial|omega|grind[wrapId',toNat1,drop_cons,drop_end,good_len,maxLen,take_succ,take_end])
def YW:=AbT.a k153_184
def fCopyCache:Fct:=⟨[.v (.el .cache)],[.el .cache],fun(x_:SCache×Unit)=>szCache x_.1≤68719476736,fun(x_:SCache×Unit)=>(x_.1,())⟩
theorem k126_185:fCopyCache.ok Tryz.prog 126:=Fct.o [1,2] YW.2 Tryz.func126 (by
 rintro⟨(c:SCache),_⟩ hp
 refine ho (.ob (True)<|.ob (Bi (0+c.entries.length) 120)<|.lf fCopyCache (⟨[]++c.entries⟩,())) ?_
 refine Aa trivial fun _=>Aa ?_ fun o1=>lfY ?_
 all_goals
  have hl:=Ad Cs c.entries
  try simp only[AH] at *
  try simp only[fCopyCache,std,Nat.reduceAdd,szCache] at *
  try simp(disch:=omega) only[wrapId',toNat1] at *
  try simp(disch:=omega) only[if_pos,if_neg]
 all_goals first|trivial|omega|grind[wrapId',toNat1,drop_cons,drop_end,good_len,maxLen,szCache])
def Z1:=YW.a k126_185
theorem k154_186:fCopyCache.ok Tryz.prog 154:=Fct.o [1,2] Z1.2 Tryz.func154 (by
 rintro⟨(c:SCache),_⟩ hp
 refine ho (.ob (True)<|.ob (Bi (0+c.entries.length) 120)<|.lf fCopyCache (⟨[]++c.entries⟩,())) ?_
 refine Aa trivial fun _=>Aa ?_ fun o1=>lfY ?_
 all_goals
  have hl:=Ad Cs c.entries
  try simp only[AH] at *
  try simp only[fCopyCache,std,Nat.reduceAdd,szCache] at *
  try simp(disch:=omega) only[wrapId',toNat1] at *
  try simp(disch:=omega) only[if_pos,if_neg]
 all_goals first|trivial|omega|grind[wrapId',toNat1,drop_cons,drop_end,good_len,maxLen,szCache])
def Zk:=Z1.a k154_186
def fCopyNet:Fct:=⟨[.v (.el .net)],[.el .net],fun(x_:SNet×Unit)=>szNet x_.1≤68719476736,fun(x_:SNet×Unit)=>(x_.1,())⟩
theorem k57_187:fCopyNet.ok Tryz.prog 57:=Fct.o [1,2] Zk.2 Tryz.func57 (by
 rintro⟨(n:SNet),_⟩ hp
 refine ho (.cl fCopyServers (n.servers,()) fun z2=>.cl fCopyCache (n.cache,()) fun z3=>.ob (True)<|.ob (Bi n.log.length 56)<|.lf fCopyNet (⟨z2.1,z3.1,n.log,n.now⟩,())) ?_
 refine Ae ?_ fun o1=>(Ae ?_ fun o2=>(Aa trivial fun _=>Aa ?_ fun o3=>lfY ?_))
 all_goals
  have hl:=Ad C8 n.log
  try simp only[AH] at *
  try simp only[fCopyCache,fCopyNet,fCopyServers,std,Nat.reduceAdd,szNet,fCopyServers,fCopyCache] at *
  try simp(disch:=omega) only[wrapId',toNat1] at *
  try simp(disch:=omega) only[if_pos,if_neg]
 all_goals first|trivial|omega|grind[wrapId',toNat1,drop_cons,drop_end,good_len,maxLen,szNet,fCopyServers,fCopyCache])
def Y5:=Zk.a k57_187
theorem k76_188:fCopyNet.ok Tryz.prog 76:=Fct.o [1,2] Y5.2 Tryz.func76 (by
 rintro⟨(n:SNet),_⟩ hp
 refine ho (.cl fCopyServers (n.servers,()) fun z2=>.cl fCopyCache (n.cache,()) fun z3=>.ob (True)<|.ob (Bi n.log.length 56)<|.lf fCopyNet (⟨z2.1,z3.1,n.log,n.now⟩,())) ?_
 refine Ae ?_ fun o1=>(Ae ?_ fun o2=>(Aa trivial fun _=>Aa ?_ fun o3=>lfY ?_))
 all_goals
  have hl:=Ad C8 n.log
  try simp only[AH] at *
  try simp only[fCopyCache,fCopyNet,fCopyServers,std,Nat.reduceAdd,szNet,fCopyServers,fCopyCache] at *
  try simp(disch:=omega) only[wrapId',toNat1] at *
  try simp(disch:=omega) only[if_pos,if_neg]
 all_goals first|trivial|omega|grind[wrapId',toNat1,drop_cons,drop_end,good_len,maxLen,szNet,fCopyServers,fCopyCache])
def Z8:=Y5.a k76_188
theorem find_fidx {α:Type} [Inhabited α] (p:α→Bool):∀ (l:List α) (i:Int),0≤i→l.find? p=if 0≤fidx p l i then some (l.getD (fidx p l i-i).toNat default) else none:=by
 intro l
 induction l with
 | nil=>intro i _;simp[fidx]
 | cons x l ih=>
  intro i hi
  simp only[List.find?_cons,fidx]
  by_cases hx:p x=true
  ·simp[hx,hi]
  ·
   have hx:p x=false:=by simpa using hx
   have h1:=LH p l (i+1) (by omega)
   have h2:=ih (i+1) (by omega)
   simp only[hx,Bool.false_eq_true,if_false,h2]
   split
   ·rename_i h3
    have h4:i+1≤fidx p l (i+1):=by
     have:∀ (l:List α) (i:Int),0≤i→0≤fidx p l i→i≤fidx p l i:=by
      intro l
      induction l with
      | nil=>intro i _ h;simp[fidx] at h
      | cons y l ih=>
       intro i hi h
       simp only[fidx] at h ⊢
       split
       ·omega
       ·rename_i hy
        rw[if_neg hy] at h
        have:=ih (i+1) (by omega) h
        omega
     exact this l (i+1) (by omega) h3
    have h5:(fidx p l (i+1)-i).toNat=(fidx p l (i+1)-(i+1)).toNat+1:=by omega
    rw[h5];rfl
   ·rfl
def fFormatInt:Fct:=⟨[.v (.el .int)],[.el .str],fun(x_:Int×Unit)=>-9223372036854775808≤x_.1∧x_.1≤9223372036854775807,fun(x_:Int×Unit)=>(FO x_.1,())⟩
abbrev Bz (n:Int):LInv:=⟨[⟨.s,3,true,.el .str⟩,⟨.s,4,true,.el .int⟩],fun _ (x_:ByteArray×Int×Unit)=>n≠0∧-9223372036854775808≤x_.2.1∧x_.2.1≤9223372036854775807∧(x_.2.1:Int).natAbs+4*x_.1.size≤n.natAbs+(if x_.2.1=0 then 4 else 0)∧Te (x_.2.1:Int).natAbs x_.1=Te n.natAbs ⟨#[]⟩,fun(x_:ByteArray×Int×Unit)=>(x_.2.1:Int).natAbs⟩
theorem k282_189:fFormatInt.ok Tryz.prog 282:=Fct.p (KP [0,2,3,4,5] [7,10,16,27]) (fun⟨n,_⟩=>lv [(5,Bz n)]) Z8.2 Tryz.func282 (by
 rintro⟨(n:Int),_⟩ hp
 refine ho (.br (n==0) (.lf fFormatInt ((⟨#[48]⟩:ByteArray),())) (lpx (Bz n) ((⟨#[]⟩:ByteArray),(n,())) fun(y2:ByteArray×Int×PUnit) bk2=>.br (y2.2.1 != 0) (.ob ((10:Int)≠(0:Int))<|.br (decide (y2.2.1.tmod (10:Int)<(0:Int))) (.ob (True)<|.ob (sameSize (List.foldl (fun r n=>r.push (UInt8.ofNat n.toNat)) ByteArray.empty [IntKind.u8.wrap (wr ((48:Int)+wr ((0:Int)-y2.2.1.tmod (10:Int))))]) y2.1)<|.ob ((10:Int)≠(0:Int))<|.ob (Value.int IntKind.i64 n=Value.int IntKind.i64 n)<|.ob (Value.string (⟨#[]⟩:ByteArray)=Value.string (⟨#[]⟩:ByteArray))<|.ob (bk2 (List.foldl (fun r n=>r.push (UInt8.ofNat n.toNat)) ByteArray.empty [IntKind.u8.wrap (wr ((48:Int)+wr ((0:Int)-y2.2.1.tmod (10:Int))))]++y2.1,(wr (y2.2.1.tdiv (10:Int)),())))<|.ok) (.ob (True)<|.ob (sameSize (List.foldl (fun r n=>r.push (UInt8.ofNat n.toNat)) ByteArray.empty [IntKind.u8.wrap (wr ((48:Int)+y2.2.1.tmod (10:Int)))]) y2.1)<|.ob ((10:Int)≠(0:Int))<|.ob (Value.int IntKind.i64 n=Value.int IntKind.i64 n)<|.ob (Value.string (⟨#[]⟩:ByteArray)=Value.string (⟨#[]⟩:ByteArray))<|.ob (bk2 (List.foldl (fun r n=>r.push (UInt8.ofNat n.toNat)) ByteArray.empty [IntKind.u8.wrap (wr ((48:Int)+y2.2.1.tmod (10:Int)))]++y2.1,(wr (y2.2.1.tdiv (10:Int)),())))<|.ok)) (.br (decide (n<0)) (.ob (sameSize (⟨#[45]⟩:ByteArray) y2.1)<|.lf fFormatInt ((⟨#[45]⟩:ByteArray)++y2.1,())) (.lf fFormatInt (y2.1,()))))) ?_
 refine Ab (fun h1=>lfY ?_) (fun h1=>AG ?_ fun(y2:ByteArray×Int×PUnit) i2=>Ab (fun h3=>Aa ?_ fun o4=>Ab (fun h5=>Aa trivial fun _=>Aa ?_ fun o6=>Aa ?_ fun o7=>Aa rfl fun _=>Aa rfl fun _=>Aa ?_ fun o8=>trivial) (fun h5=>Aa trivial fun _=>Aa ?_ fun o9=>Aa ?_ fun o10=>Aa rfl fun _=>Aa rfl fun _=>Aa ?_ fun o11=>trivial)) (fun h3=>Ab (fun h12=>Aa ?_ fun o13=>lfY ?_) (fun h12=>lfY ?_)))
 all_goals try (have hk:=Nat.mod_lt y2.2.1.natAbs (show 0<10 by omega);have ht:=Si y2.2.1)
 all_goals try (have hv:=To y2.2.1)
 all_goals
  try simp only[AH] at *
  try simp only[Bz,fFormatInt,std,Nat.reduceAdd] at *
 all_goals first|trivial|omega|skip
 all_goals try (obtain⟨a1,a2,a3,a4,a5⟩:=i2)
 all_goals first|trivial|omega|skip
 all_goals
  try simp only[h5,if_true,if_false] at ht
  try rw[if_neg (by omega)] at ht
 all_goals try (rw[An (n:=0-_) (by omega),show(0:Int)-y2.2.1.tmod 10=((y2.2.1.natAbs % 10:Nat):Int) by omega,Aad hk,Qb hk] at *)
 all_goals try (rw[ht,Aad hk,Qb hk] at *)
 all_goals try rw[if_neg h3] at a4
 all_goals try (have e1:IntKind.i64.wrap (y2.2.1.tdiv 10)=y2.2.1.tdiv 10:=An (by omega);rw[e1])
 ·rw[h1,Pg]
 ·unfold sameSize;rw[show ByteArray.size ⟨#[UInt8.ofNat (48+y2.2.1.natAbs % 10)]⟩=1 from rfl];omega
 ·rw[Ko (by omega)] at a5
  rw[hv,ByteArray.size_append,show ByteArray.size ⟨#[UInt8.ofNat (48+y2.2.1.natAbs % 10)]⟩=1 from rfl]
  exact⟨⟨h1,by omega,by omega,by split<;>omega,a5⟩,by omega⟩
 ·unfold sameSize;rw[show ByteArray.size ⟨#[UInt8.ofNat (48+y2.2.1.natAbs % 10)]⟩=1 from rfl];omega
 ·rw[Ko (by omega)] at a5
  have hv':((y2.2.1.natAbs:Nat):Int)=y2.2.1.natAbs:=rfl
  rw[hv,ByteArray.size_append,show ByteArray.size ⟨#[UInt8.ofNat (48+y2.2.1.natAbs % 10)]⟩=1 from rfl]
  exact⟨⟨h1,by omega,by omega,by split<;>omega,a5⟩,by omega⟩
 ·unfold sameSize;rw[show ByteArray.size ⟨#[45]⟩=1 from rfl];rw[if_pos h3] at a4;omega
 ·rw[h3] at a5;rw[SR h12,←a5];rfl
 ·rw[h3] at a5;rw[Uh (by omega),←a5];rfl)
def Acd:=Z8.a k282_189
def laysItoa_r:Go.Shelf.Ren:=⟨fun|0=>0|1=>1|2=>2|99=>393|103=>218|106=>335|109=>345|110=>334|129=>379|137=>158|138=>292|143=>293|145=>221|146=>220|156=>277|165=>303|166=>304|169=>305|171=>332|172=>333|195=>309|197=>310|205=>371|206=>290|210=>257|213=>346|217=>217|218=>311|219=>294|220=>260|221=>259|224=>313|225=>312|240=>325|241=>326|243=>342|244=>343|245=>344|246=>351|247=>352|260=>328|265=>357|266=>256|267=>314|268=>291|276=>338|277=>339|279=>353|280=>354|281=>355|282=>356|283=>365|284=>366|285=>367|286=>368|287=>369|314=>329|316=>370|317=>378|318=>380|319=>381|320=>382|321=>383|322=>384|337=>395|338=>396|347=>404|348=>405|349=>406|350=>407|351=>408|352=>409|353=>410|354=>411|355=>412|356=>413|357=>414|358=>415|359=>416|360=>417|361=>418|362=>419|363=>433|364=>420|365=>421|366=>434|367=>449|_=>0,fun|0=>0|1=>1|2=>2|3=>3|4=>4|5=>5|6=>6|7=>7|8=>8|9=>9|10=>10|11=>11|12=>12|13=>13|14=>14|15=>15|16=>16|17=>17|18=>18|19=>19|20=>20|21=>21|22=>349|24=>257|25=>286|27=>351|28=>38|30=>183|31=>31|32=>402|33=>371|34=>235|37=>243|43=>323|46=>368|47=>457|51=>372|52=>471|53=>429|54=>430|55=>196|59=>288|60=>289|61=>287|67=>333|69=>337|70=>353|71=>354|72=>355|73=>356|74=>357|75=>358|76=>359|77=>360|80=>361|81=>482|83=>169|84=>406|85=>408|86=>409|94=>503|101=>95|102=>90|103=>365|104=>255|105=>366|106=>367|108=>438|111=>456|113=>326|114=>344|119=>381|127=>370|128=>401|131=>340|137=>382|138=>383|139=>384|143=>459|144=>460|145=>461|146=>373|150=>350|151=>374|164=>378|165=>379|166=>380|167=>407|168=>410|169=>411|170=>412|171=>428|172=>431|173=>432|174=>433|175=>434|176=>435|209=>436|210=>437|211=>453|212=>454|213=>455|214=>458|232=>475|233=>476|238=>477|239=>478|240=>479|241=>480|242=>481|243=>483|244=>484|245=>485|246=>486|247=>487|248=>488|249=>489|_=>0,fun|1=>0|3=>1|4=>2|15=>3|16=>4|17=>5|18=>6|19=>7|_=>0⟩
theorem laysItoa:Go.Proofs.LaysM.n171 Tryz.prog laysItoa_r where
 mixed:=by kernel_rfl
 f129:=by kernel_rfl
 f171:=by kernel_rfl
 f243:=by kernel_rfl
 f246:=by kernel_rfl
 f283:=by kernel_rfl
 f284:=by kernel_rfl
 f285:=by kernel_rfl
 f286:=by kernel_rfl
 f317:=by kernel_rfl
 f318:=by kernel_rfl
 f319:=by kernel_rfl
 f320:=by kernel_rfl
 f337:=by kernel_rfl
 f338:=by kernel_rfl
 t0:=by kernel_rfl
 a0:=fun _=>by kernel_rfl
 z0:=fun _=>by kernel_rfl
 v0:=fun _=>by kernel_rfl
 t2:=by kernel_rfl
 a2:=fun _=>by kernel_rfl
 z2:=fun _=>by kernel_rfl
 v2:=fun _=>by kernel_rfl
 t3:=by kernel_rfl
 a3:=fun _=>by kernel_rfl
 z3:=fun _=>by kernel_rfl
 v3:=fun _=>by kernel_rfl
 t4:=by kernel_rfl
 a4:=fun _=>by kernel_rfl
 z4:=fun _=>by kernel_rfl
 v4:=fun _=>by kernel_rfl
 t5:=by kernel_rfl
 a5:=fun _=>by kernel_rfl
 z5:=fun _=>by kernel_rfl
 v5:=fun _=>by kernel_rfl
 t9:=by kernel_rfl
 a9:=fun _=>by kernel_rfl
 z9:=fun _=>by kernel_rfl
 v9:=fun _=>by kernel_rfl
 t20:=by kernel_rfl
 a20:=fun _=>by kernel_rfl
 z20:=fun _=>by kernel_rfl
 v20:=fun _=>by kernel_rfl
 t37:=by kernel_rfl
 a37:=fun _=>by kernel_rfl
 z37:=fun _=>by kernel_rfl
 v37:=fun _=>by kernel_rfl
 t46:=by kernel_rfl
 a46:=fun _=>by kernel_rfl
 z46:=fun _=>by kernel_rfl
 v46:=fun _=>by kernel_rfl
 t51:=by kernel_rfl
 a51:=fun _=>by kernel_rfl
 z51:=fun _=>by kernel_rfl
 v51:=fun _=>by kernel_rfl
 t53:=by kernel_rfl
 a53:=fun _=>by kernel_rfl
 z53:=fun _=>by kernel_rfl
 v53:=fun _=>by kernel_rfl
 t171:=by kernel_rfl
 a171:=fun _=>by kernel_rfl
 z171:=fun _=>by kernel_rfl
 v171:=fun _=>by kernel_rfl
 t173:=by kernel_rfl
 a173:=fun _=>by kernel_rfl
 z173:=fun _=>by kernel_rfl
 v173:=fun _=>by kernel_rfl
 t212:=by kernel_rfl
 a212:=fun _=>by kernel_rfl
 z212:=fun _=>by kernel_rfl
 v212:=fun _=>by kernel_rfl
 t213:=by kernel_rfl
 a213:=fun _=>by kernel_rfl
 z213:=fun _=>by kernel_rfl
 t232:=by kernel_rfl
 a232:=fun _=>by kernel_rfl
 z232:=fun _=>by kernel_rfl
 v232:=fun _=>by kernel_rfl
 t233:=by kernel_rfl
 a233:=fun _=>by kernel_rfl
 z233:=fun _=>by kernel_rfl
 v233:=fun _=>by kernel_rfl
 g17:=by kernel_rfl
 g18:=by kernel_rfl
 g19:=by kernel_rfl
 i0:=by kernel_rfl
 i2:=by kernel_rfl
 i3:=by kernel_rfl
 i4:=by kernel_rfl
 i5:=by kernel_rfl
 i9:=by kernel_rfl
 i20:=by kernel_rfl
 i37:=by kernel_rfl
 i46:=by kernel_rfl
 i51:=by kernel_rfl
 i53:=by kernel_rfl
 i171:=by kernel_rfl
 i173:=by kernel_rfl
 i212:=by kernel_rfl
 i232:=by kernel_rfl
 i233:=by kernel_rfl
 m17:=by kernel_rfl
 m18:=by kernel_rfl
 m19:=by kernel_rfl
theorem k332_190:fItoa.ok Tryz.prog 332 :=
 UL (by kernel_rfl) (Go.Proofs.Any.strconv_Itoa laysItoa)
def AaX:=Acd.a k332_190
theorem k316_191:fFormatInt.ok Tryz.prog 316:=Fct.o [0,2] AaX.2 Tryz.func316 (by
 rintro⟨(n:Int),_⟩ hp
 refine ho (.cl fItoa (n,()) fun z2=>.lf fFormatInt (z2.1,())) ?_
 refine Ae ?_ fun o1=>(lfY ?_)
 all_goals
  try simp only[AH] at *
  try simp only[fFormatInt,fItoa,std,Nat.reduceAdd,fItoa] at *
  try simp(disch:=omega) only[wrapId',toNat1] at *
  try simp(disch:=omega) only[if_pos,if_neg]
 all_goals first|trivial|omega|grind[wrapId',toNat1,drop_cons,drop_end,good_len,maxLen,fItoa])
def Zi:=AaX.a k316_191
theorem getD_in {α:Type} [Inhabited α] {l:List α} {i:Nat} (h:i<l.length):l.getD i default∈l:=by
 rw[List.getD_eq_getElem?_getD,List.getElem?_eq_getElem h];exact List.getElem_mem _
theorem isName_size {s:ByteArray} (h:isName s=true):s.size≤8:=by
 simp only[isName,Bool.and_eq_true,decide_eq_true_eq] at h;omega
def fCopyGuesses:Fct:=⟨[.v (.sl .guess)],[.sl .guess],fun(x_:(List SGuess)×Unit)=>x_.1.length≤1048576,fun(x_:(List SGuess)×Unit)=>(x_.1,())⟩
theorem k79_192:fCopyGuesses.ok Tryz.prog 79:=Fct.o [0,2] Zi.2 Tryz.func79 (by
 rintro⟨(l:List SGuess),_⟩ hp
 refine ho (.ob (True)<|.ob (Bi (0+List.length l) 104)<|.lf fCopyGuesses ([]++l,())) ?_
 refine Aa trivial fun _=>Aa ?_ fun o1=>lfY ?_
 all_goals
  try simp only[AH] at *
  try simp only[fCopyGuesses,std,Nat.reduceAdd] at *
  try simp(disch:=omega) only[wrapId',toNat1] at *
  try simp(disch:=omega) only[if_pos,if_neg]
 all_goals first|trivial|omega|grind[wrapId',toNat1,drop_cons,drop_end,good_len,maxLen])
def Abo:=Zi.a k79_192
theorem szL_eq {α:Type} (f:α→Nat) (l:List α):szL f l=(l.map fun x=>f x+1).sum:=by
 induction l with
 | nil=>rfl
 | cons x l ih=>
  have h3:szL f (x::l)=f x+1+szL f l:=by simp only[szL,List.map_cons,List.sum_cons,List.length_cons];omega
  rw[h3,ih,List.map_cons,List.sum_cons]
theorem szL_spl (b:UInt8) (s:ByteArray):szL Ac (spl b s)=s.size+1:=by
 rw[szL_eq,←Bg,←MU b (toL s)]
 unfold spl
 rw[List.map_map]
 congr 1
def C1:Fct:=⟨[.v (.el .str),.v (.el .u8)],[.sl .str],fun(x_:ByteArray×Int×Unit)=>x_.1.size≤1099511627776∧0≤x_.2.1∧x_.2.1≤255,fun(x_:ByteArray×Int×Unit)=>(spl (UInt8.ofNat x_.2.1.toNat) x_.1,())⟩
theorem byte_eq {s:ByteArray} {i:Nat} {b:Int} (h0:0≤b) (h1:b≤255):((s.data.getD i 0).toNat:Int)=b↔s.data.getD i 0=UInt8.ofNat b.toNat:=by
 constructor
 ·intro h
  apply UInt8.toNat_inj.1
  rw[UInt8.toNat_ofNat'];omega
 ·intro h
  rw[h,UInt8.toNat_ofNat'];omega
abbrev Cl (s:ByteArray) (b:Int):LInv:=⟨[⟨.s,5,true,.sl .str⟩,⟨.s,6,true,.el .int⟩,⟨.s,7,true,.el .int⟩],fun _ (x_:(List ByteArray)×Int×Int×Unit)=>0≤x_.2.2.1∧x_.2.2.1≤s.size+1∧0≤x_.2.1∧x_.2.1≤x_.2.2.1∧x_.1.length≤x_.2.2.1∧x_.1++Gw (UInt8.ofNat b.toNat) s x_.2.1.toNat x_.2.2.1.toNat=spl (UInt8.ofNat b.toNat) s,fun(x_:(List ByteArray)×Int×Int×Unit)=>(s.size+1-x_.2.2.1).toNat⟩
theorem k196_193:C1.ok Tryz.prog 196:=Fct.p (KP [0,1,4,5,6,7] [12,25]) (fun⟨s,b,_⟩=>lv [(4,Cl s b)]) Abo.2 Tryz.func196 (by
 rintro⟨(s:ByteArray),(b:Int),_⟩ hp
 refine ho (lpx (Cl s b) ([],((0:Int),((0:Int),()))) fun(y1:List ByteArray×Int×Int×PUnit) bk1=>.br (decide (y1.2.2.1≤(↑s.size:Int))) (.br (y1.2.2.1==(↑s.size:Int)) (.ob (0≤y1.2.1∧y1.2.1≤y1.2.2.1∧y1.2.2.1≤(↑s.size:Int))<|.ob (True)<|.ob (Bi (y1.1.length+[s.extract y1.2.1.toNat y1.2.2.1.toNat].length) 16)<|.ob (Value.string s=Value.string s)<|.ob (Value.int IntKind.u8 b=Value.int IntKind.u8 b)<|.ob (bk1 (y1.1++[s.extract y1.2.1.toNat y1.2.2.1.toNat],(w1 y1.2.2.1,(w1 y1.2.2.1,()))))<|.ok) (.ob (0≤y1.2.2.1∧y1.2.2.1<(↑s.size:Int))<|.br ((↑(s.data.getD y1.2.2.1.toNat 0).toNat:Int)==b) (.ob (0≤y1.2.1∧y1.2.1≤y1.2.2.1∧y1.2.2.1≤(↑s.size:Int))<|.ob (True)<|.ob (Bi (y1.1.length+[s.extract y1.2.1.toNat y1.2.2.1.toNat].length) 16)<|.ob (Value.string s=Value.string s)<|.ob (Value.int IntKind.u8 b=Value.int IntKind.u8 b)<|.ob (bk1 (y1.1++[s.extract y1.2.1.toNat y1.2.2.1.toNat],(w1 y1.2.2.1,(w1 y1.2.2.1,()))))<|.ok) (.ob (Value.string s=Value.string s)<|.ob (Value.int IntKind.u8 b=Value.int IntKind.u8 b)<|.ob (bk1 (y1.1,(y1.2.1,(w1 y1.2.2.1,()))))<|.ok))) (.lf C1 (y1.1,()))) ?_
 refine AG ?_ fun(y1:List ByteArray×Int×Int×PUnit) i1=>Ab (fun h2=>Ab (fun h3=>Aa ?_ fun o4=>Aa trivial fun _=>Aa ?_ fun o5=>Aa rfl fun _=>Aa rfl fun _=>Aa ?_ fun o6=>trivial) (fun h3=>Aa ?_ fun o7=>Ab (fun h8=>Aa ?_ fun o9=>Aa trivial fun _=>Aa ?_ fun o10=>Aa rfl fun _=>Aa rfl fun _=>Aa ?_ fun o11=>trivial) (fun h8=>Aa rfl fun _=>Aa rfl fun _=>Aa ?_ fun o12=>trivial))) (fun h2=>lfY ?_)
 all_goals obtain⟨hp1,hp2,hp3⟩:=hp
 all_goals
  try obtain⟨a1,a2,a3,a4,a5,a6⟩:=i1
  try obtain⟨a1,a2,a3,a4,a5,a6⟩:=i2
  try obtain⟨a1,a2,a3,a4,a5,a6⟩:=i3
  try simp only[AH] at *
  try simp only[Cl,C1,std,Nat.reduceAdd,List.length_append,List.length_cons,List.length_nil,byte_eq hp2 hp3] at *
  try simp(disch:=omega) only[wrapId',toNat1] at *
 all_goals first|trivial|omega|exact⟨by omega,by omega,by omega,by omega,by omega,N5 _ _⟩|skip
 all_goals first|(refine⟨⟨by omega,by omega,by omega,by omega,by omega,?_⟩,by omega⟩;rw[OM _ (by omega)] at a6;rw[KR _ (by omega),List.append_nil];exact a6)|(refine⟨⟨by omega,by omega,by omega,by omega,by omega,?_⟩,by omega⟩;rw[QI (by omega) (by assumption)] at a6;rw[List.append_assoc];exact a6)|(refine⟨⟨by omega,by omega,by omega,by omega,by omega,?_⟩,by omega⟩;rw[ON (by omega) (by omega) (by assumption)] at a6;exact a6)|(rw[KR _ (by omega),List.append_nil] at a6;exact a6)|skip)
def Ach:=Abo.a k196_193
theorem spl_get (b:UInt8) (s:ByteArray) (k:Nat):((spl b s).getD k default).size≤s.size:=by
 by_cases h:k<(spl b s).length
 ·exact FM (getD_in h)
 ·rw[List.getD_eq_getElem?_getD,List.getElem?_eq_none (by omega)];exact Nat.zero_le _
def laysSplit_r:Go.Shelf.Ren:=⟨fun|0=>0|1=>1|2=>2|99=>393|103=>218|106=>335|109=>345|110=>334|129=>379|137=>158|138=>292|143=>293|145=>221|146=>220|156=>277|165=>303|166=>304|169=>305|171=>332|172=>333|195=>309|197=>310|205=>371|206=>290|210=>257|213=>346|217=>217|218=>311|219=>294|220=>260|221=>259|224=>313|225=>312|240=>325|241=>326|243=>342|244=>343|245=>344|246=>351|247=>352|260=>328|265=>357|266=>256|267=>314|268=>291|276=>338|277=>339|279=>353|280=>354|281=>355|282=>356|283=>365|284=>366|285=>367|286=>368|287=>369|314=>329|316=>370|317=>378|318=>380|319=>381|320=>382|321=>383|322=>384|337=>395|338=>396|347=>404|348=>405|349=>406|350=>407|351=>408|352=>409|353=>410|354=>411|355=>412|356=>413|357=>414|358=>415|359=>416|360=>417|361=>418|362=>419|363=>433|364=>420|365=>421|366=>434|367=>449|_=>0,fun|0=>0|1=>1|2=>2|3=>3|4=>4|5=>5|6=>6|7=>7|8=>8|9=>9|10=>10|11=>11|12=>12|13=>13|14=>14|15=>15|16=>16|17=>17|18=>18|19=>19|20=>20|21=>21|22=>349|24=>257|25=>286|27=>351|28=>38|30=>183|31=>31|32=>402|33=>371|34=>235|37=>243|43=>323|46=>368|47=>457|51=>372|52=>471|53=>429|54=>430|55=>196|59=>288|60=>289|61=>287|67=>333|69=>337|70=>353|71=>354|72=>355|73=>356|74=>357|75=>358|76=>359|77=>360|80=>361|81=>482|83=>169|84=>406|85=>408|86=>409|94=>503|101=>95|102=>90|103=>365|104=>255|105=>366|106=>367|108=>438|111=>456|113=>326|114=>344|119=>381|127=>370|128=>401|131=>340|137=>382|138=>383|139=>384|143=>459|144=>460|145=>461|146=>373|150=>350|151=>374|164=>378|165=>379|166=>380|167=>407|168=>410|169=>411|170=>412|171=>428|172=>431|173=>432|174=>433|175=>434|176=>435|209=>436|210=>437|211=>453|212=>454|213=>455|214=>458|232=>475|233=>476|238=>477|239=>478|240=>479|241=>480|242=>481|243=>483|244=>484|245=>485|246=>486|247=>487|248=>488|249=>489|_=>0,fun|1=>0|3=>1|4=>2|15=>3|16=>4|17=>5|18=>6|19=>7|_=>0⟩
theorem laysSplit:Go.Proofs.Lays.n146 Tryz.prog laysSplit_r:=⟨by kernel_rfl,by kernel_rfl,by kernel_rfl,by kernel_rfl,by kernel_rfl,by kernel_rfl,by kernel_rfl,by kernel_rfl,by kernel_rfl,by kernel_rfl,by kernel_rfl,by kernel_rfl,by kernel_rfl,by kernel_rfl,by kernel_rfl,by kernel_rfl,by kernel_rfl,by kernel_rfl,(fun _=>by kernel_rfl),(fun _=>by kernel_rfl),(fun _=>by kernel_rfl),by kernel_rfl,(fun _=>by kernel_rfl),(fun _=>by kernel_rfl),(fun _=>by kernel_rfl),by kernel_rfl,(fun _=>by kernel_rfl),(fun _=>by kernel_rfl),(fun _=>by kernel_rfl),by kernel_rfl,(fun _=>by kernel_rfl),(fun _=>by kernel_rfl),(fun _=>by kernel_rfl),by kernel_rfl,(fun _=>by kernel_rfl),(fun _=>by kernel_rfl),(fun _=>by kernel_rfl),by kernel_rfl,(fun _=>by kernel_rfl),(fun _=>by kernel_rfl),(fun _=>by kernel_rfl),by kernel_rfl,(fun _=>by kernel_rfl),(fun _=>by kernel_rfl),(fun _=>by kernel_rfl),by kernel_rfl,(fun _=>by kernel_rfl),(fun _=>by kernel_rfl),(fun _=>by kernel_rfl),by kernel_rfl,(fun _=>by kernel_rfl),(fun _=>by kernel_rfl),(fun _=>by kernel_rfl),by kernel_rfl,(fun _=>by kernel_rfl),(fun _=>by kernel_rfl),(fun _=>by kernel_rfl),by kernel_rfl,(fun _=>by kernel_rfl),(fun _=>by kernel_rfl),by kernel_rfl,(fun _=>by kernel_rfl),(fun _=>by kernel_rfl),(fun _=>by kernel_rfl),by kernel_rfl,(fun _=>by kernel_rfl),(fun _=>by kernel_rfl),(fun _=>by kernel_rfl),by kernel_rfl,(fun _=>by kernel_rfl),(fun _=>by kernel_rfl),(fun _=>by kernel_rfl),by kernel_rfl,by kernel_rfl,by kernel_rfl⟩
theorem k220_194:DM.ok Tryz.prog 220 :=
 TI fun s sep w h hs h1=>by obtain⟨m,hm⟩:=HS (zero := #[.int .i64 0]) (t:=3) (g:=laysSplit_r.g 1) h (of_decide_eq_true (by kernel_rfl)) (by kernel_rfl) rfl (by kernel_rfl) (by kernel_rfl) Tryz.underlying3;exact Go.Proofs.Any.strings_Split laysSplit (by kernel_rfl) s sep m w hs hm h1
def Aci:=Ach.a k220_194
def laysJoin_r:Go.Shelf.Ren:=⟨fun|0=>0|1=>1|2=>2|99=>393|103=>218|106=>335|109=>345|110=>334|129=>379|137=>158|138=>292|143=>293|145=>221|146=>220|156=>277|165=>303|166=>304|169=>305|171=>332|172=>333|195=>309|197=>310|205=>371|206=>290|210=>257|213=>346|217=>217|218=>311|219=>294|220=>260|221=>259|224=>313|225=>312|240=>325|241=>326|243=>342|244=>343|245=>344|246=>351|247=>352|260=>328|265=>357|266=>256|267=>314|268=>291|276=>338|277=>339|279=>353|280=>354|281=>355|282=>356|283=>365|284=>366|285=>367|286=>368|287=>369|314=>329|316=>370|317=>378|318=>380|319=>381|320=>382|321=>383|322=>384|337=>395|338=>396|347=>404|348=>405|349=>406|350=>407|351=>408|352=>409|353=>410|354=>411|355=>412|356=>413|357=>414|358=>415|359=>416|360=>417|361=>418|362=>419|363=>433|364=>420|365=>421|366=>434|367=>449|_=>0,fun|0=>0|1=>1|2=>2|3=>3|4=>4|5=>5|6=>6|7=>7|8=>8|9=>9|10=>10|11=>11|12=>12|13=>13|14=>14|15=>15|16=>16|17=>17|18=>18|19=>19|20=>20|21=>21|22=>349|24=>257|25=>286|27=>351|28=>38|30=>183|31=>31|32=>402|33=>371|34=>235|37=>243|43=>323|46=>368|47=>457|51=>372|52=>471|53=>429|54=>430|55=>196|59=>288|60=>289|61=>287|67=>333|69=>337|70=>353|71=>354|72=>355|73=>356|74=>357|75=>358|76=>359|77=>360|80=>361|81=>482|83=>169|84=>406|85=>408|86=>409|94=>503|101=>95|102=>90|103=>365|104=>255|105=>366|106=>367|108=>438|111=>456|113=>326|114=>344|119=>381|127=>370|128=>401|131=>340|137=>382|138=>383|139=>384|143=>459|144=>460|145=>461|146=>373|150=>350|151=>374|164=>378|165=>379|166=>380|167=>407|168=>410|169=>411|170=>412|171=>428|172=>431|173=>432|174=>433|175=>434|176=>435|209=>436|210=>437|211=>453|212=>454|213=>455|214=>458|232=>475|233=>476|238=>477|239=>478|240=>479|241=>480|242=>481|243=>483|244=>484|245=>485|246=>486|247=>487|248=>488|249=>489|_=>0,fun|1=>0|3=>1|4=>2|15=>3|16=>4|17=>5|18=>6|19=>7|_=>0⟩
theorem laysJoin:Go.Proofs.Lays.n156 Tryz.prog laysJoin_r:=⟨by kernel_rfl,by kernel_rfl,by kernel_rfl,by kernel_rfl,by kernel_rfl,by kernel_rfl,by kernel_rfl,by kernel_rfl,by kernel_rfl,by kernel_rfl,(fun _=>by kernel_rfl),(fun _=>by kernel_rfl),(fun _=>by kernel_rfl),by kernel_rfl,(fun _=>by kernel_rfl),(fun _=>by kernel_rfl),(fun _=>by kernel_rfl),by kernel_rfl,(fun _=>by kernel_rfl),(fun _=>by kernel_rfl),(fun _=>by kernel_rfl),by kernel_rfl,(fun _=>by kernel_rfl),(fun _=>by kernel_rfl),(fun _=>by kernel_rfl),by kernel_rfl,(fun _=>by kernel_rfl),(fun _=>by kernel_rfl),(fun _=>by kernel_rfl),by kernel_rfl,(fun _=>by kernel_rfl),(fun _=>by kernel_rfl),(fun _=>by kernel_rfl),by kernel_rfl,(fun _=>by kernel_rfl),(fun _=>by kernel_rfl),(fun _=>by kernel_rfl),by kernel_rfl,(fun _=>by kernel_rfl),(fun _=>by kernel_rfl),(fun _=>by kernel_rfl),by kernel_rfl,(fun _=>by kernel_rfl),(fun _=>by kernel_rfl),(fun _=>by kernel_rfl),by kernel_rfl,(fun _=>by kernel_rfl),(fun _=>by kernel_rfl),(fun _=>by kernel_rfl),by kernel_rfl,(fun _=>by kernel_rfl),(fun _=>by kernel_rfl),(fun _=>by kernel_rfl),by kernel_rfl,(fun _=>by kernel_rfl),(fun _=>by kernel_rfl),(fun _=>by kernel_rfl),by kernel_rfl,(fun _=>by kernel_rfl),(fun _=>by kernel_rfl),(fun _=>by kernel_rfl)⟩
theorem laysJoinX:Go.Proofs.Builder.Extra Tryz.prog laysJoin_r:=⟨⟨by kernel_rfl,by kernel_rfl⟩,by kernel_rfl,fun _=>by kernel_rfl,fun _=>by kernel_rfl,fun _=>by kernel_rfl,by kernel_rfl,by kernel_rfl,by kernel_rfl,by decide⟩
theorem k277_195:NW.ok Tryz.prog 277 :=
 WL (fun _ _=>trivial) (Go.Proofs.Any.strings_Join_none laysJoin laysJoinX) (Go.Proofs.Any.strings_Join laysJoin laysJoinX)
def YZ:=Aci.a k277_195
theorem value_no {b:UInt8} (hb:valByte b=false) {s:ByteArray} (h:isValue s=true):b∉toL s:=by
 intro hm
 simp only[isValue,Bool.and_eq_true,allB,List.all_eq_true] at h
 rw[h.1 b hm] at hb;cases hb
theorem szL_cons {α:Type} (f:α→Nat) (x:α) (l:List α):szL f (x::l)=f x+1+szL f l:=by simp only[szL,List.map_cons,List.sum_cons,List.length_cons];omega
theorem szL_snoc {α:Type} (f:α→Nat) (l:List α) (x:α):szL f (l++[x])=szL f l+(f x+1):=by
 induction l with
 | nil=>rw[List.nil_append,szL_cons];simp[szL]
 | cons y l ih=>rw[List.cons_append,szL_cons,szL_cons,ih];omega
def kindOf (m:Int):Int:=if m=1 then 4 else if m=2 then 3 else if m=3∨m=4 then 2 else 0
def fKindOfMode:Fct:=⟨[.v (.el .int)],[.el .int],fun(x_:Int×Unit)=>True,fun(x_:Int×Unit)=>(kindOf x_.1,())⟩
theorem k286_196:fKindOfMode.ok Tryz.prog 286:=Fct.o (KP [0,2,3,8] [4,6]) YZ.2 Tryz.func286 (by
 rintro⟨(m:Int),_⟩ hp
 refine ho (.br (m==1) (.lf fKindOfMode ((4:Int),())) (.br (m==2) (.lf fKindOfMode ((3:Int),())) (.br (m==3) (.br (m==3) (.lf fKindOfMode ((2:Int),())) (.lf fKindOfMode ((0:Int),()))) (.br (m==4) (.lf fKindOfMode ((2:Int),())) (.lf fKindOfMode ((0:Int),())))))) ?_
 refine Ab (fun h1=>lfY ?_) (fun h1=>Ab (fun h2=>lfY ?_) (fun h2=>Ab (fun h3=>Ab (fun h4=>lfY ?_) (fun h4=>lfY ?_)) (fun h3=>Ab (fun h5=>lfY ?_) (fun h5=>lfY ?_))))
 all_goals
  try simp only[AH] at *
  try simp only[fKindOfMode,std,Nat.reduceAdd,kindOf] at *
  try simp(disch:=omega) only[wrapId',toNat1] at *
  try simp(disch:=omega) only[if_pos,if_neg]
 all_goals first|trivial|omega|grind[wrapId',toNat1,drop_cons,drop_end,good_len,maxLen,kindOf])
def Z4:=YZ.a k286_196
theorem k298_197:fKindOfMode.ok Tryz.prog 298:=Fct.o (KP [0,2,3,8] [4,6]) Z4.2 Tryz.func298 (by
 rintro⟨(m:Int),_⟩ hp
 refine ho (.br (m==1) (.lf fKindOfMode ((4:Int),())) (.br (m==2) (.lf fKindOfMode ((3:Int),())) (.br (m==3) (.br (m==3) (.lf fKindOfMode ((2:Int),())) (.lf fKindOfMode ((0:Int),()))) (.br (m==4) (.lf fKindOfMode ((2:Int),())) (.lf fKindOfMode ((0:Int),())))))) ?_
 refine Ab (fun h1=>lfY ?_) (fun h1=>Ab (fun h2=>lfY ?_) (fun h2=>Ab (fun h3=>Ab (fun h4=>lfY ?_) (fun h4=>lfY ?_)) (fun h3=>Ab (fun h5=>lfY ?_) (fun h5=>lfY ?_))))
 all_goals
  try simp only[AH] at *
  try simp only[fKindOfMode,std,Nat.reduceAdd,kindOf] at *
  try simp(disch:=omega) only[wrapId',toNat1] at *
  try simp(disch:=omega) only[if_pos,if_neg]
 all_goals first|trivial|omega|grind[wrapId',toNat1,drop_cons,drop_end,good_len,maxLen,kindOf])
def AbN:=Z4.a k298_197
def slotRequest (p:SPage) (k:Int):SRequest:=if 0≤k∧k<p.slots.length then⟨kindOf (p.slots.getD k.toNat default).mode,(p.slots.getD k.toNat default).to,p.addr.host,(p.slots.getD k.toNat default).digest⟩ else default
def AS:Fct:=⟨[.v (.el .page),.v (.el .int)],[.el .request],fun(x_:SPage×Int×Unit)=>x_.1.slots.length≤1000000000000∧-9223372036854775808≤x_.2.1∧x_.2.1≤9223372036854775807,fun(x_:SPage×Int×Unit)=>(slotRequest x_.1 x_.2.1,())⟩
theorem k288_198:AS.ok Tryz.prog 288:=Fct.o (KP [1,2,4,5] [12]) AbN.2 Tryz.func288 (by
 rintro⟨(p:SPage),(k:Int),_⟩ hp
 refine ho (.cl fInRange (k,(0:Int),wr ((↑p.slots.length:Int)-(1:Int)),()) fun z2=>.br (!z2.1) (.lf AS (default,())) (.ob (inB k p.slots.length)<|.cl fKindOfMode ((p.slots.getD (Int.toNat k) default).mode,()) fun(z3:Int×PUnit)=>.lf AS (⟨z3.1,(p.slots.getD (Int.toNat k) default).to,p.addr.host,(p.slots.getD (Int.toNat k) default).digest⟩,()))) ?_
 refine Ae trivial fun _=>(Ab (fun h1=>lfY ?_) (fun h1=>Aa ?_ fun o2=>Ae trivial fun _=>(lfY ?_)))
 all_goals
  try simp only[AH] at *
  try simp only[fInRange,fKindOfMode,AS,std,Nat.reduceAdd,slotRequest,fKindOfMode,fInRange,inRange] at *
  try simp(disch:=omega) only[wrapId',toNat1] at *
  try simp(disch:=omega) only[if_pos,if_neg]
 all_goals first|trivial|omega|grind[wrapId',toNat1,drop_cons,drop_end,good_len,maxLen,slotRequest,fKindOfMode,fInRange,inRange])
def Aax:=AbN.a k288_198
theorem k300_199:AS.ok Tryz.prog 300:=Fct.o (KP [1,2,4,5] [14]) Aax.2 Tryz.func300 (by
 rintro⟨(p:SPage),(k:Int),_⟩ hp
 refine ho (.br (decide (k<0)) (.lf AS (default,())) (.br (decide (k≥(↑p.slots.length:Int))) (.lf AS (default,())) (.ob (inB k p.slots.length)<|.cl fKindOfMode ((p.slots.getD (Int.toNat k) default).mode,()) fun(z2:Int×PUnit)=>.lf AS (⟨z2.1,(p.slots.getD (Int.toNat k) default).to,p.addr.host,(p.slots.getD (Int.toNat k) default).digest⟩,())))) ?_
 refine Ab (fun h1=>lfY ?_) (fun h1=>Ab (fun h2=>lfY ?_) (fun h2=>Aa ?_ fun o3=>Ae trivial fun _=>(lfY ?_)))
 all_goals
  try simp only[AH] at *
  try simp only[fKindOfMode,AS,std,Nat.reduceAdd,slotRequest,fKindOfMode,fInRange,inRange] at *
  try simp(disch:=omega) only[wrapId',toNat1] at *
  try simp(disch:=omega) only[if_pos,if_neg]
 all_goals first|trivial|omega|grind[wrapId',toNat1,drop_cons,drop_end,good_len,maxLen,slotRequest,fKindOfMode,fInRange,inRange])
def Aap:=Aax.a k300_199
def modRequest (p:SPage) (k:Int):SRequest:=if 0≤k∧k<p.mods.length then⟨5,(p.mods.getD k.toNat default).to,p.addr.host,⟨#[]⟩⟩ else default
def BU:Fct:=⟨[.v (.el .page),.v (.el .int)],[.el .request],fun(x_:SPage×Int×Unit)=>x_.1.mods.length≤2000000000000∧-9223372036854775808≤x_.2.1∧x_.2.1≤9223372036854775807,fun(x_:SPage×Int×Unit)=>(modRequest x_.1 x_.2.1,())⟩
theorem k324_200:BU.ok Tryz.prog 324:=Fct.o (KP [1,2,4] [13]) Aap.2 Tryz.func324 (by
 rintro⟨(p:SPage),(k:Int),_⟩ hp
 refine ho (.br (decide (k<0)) (.lf BU (default,())) (.br (decide (k≥(↑p.mods.length:Int))) (.lf BU (default,())) (.ob (inB k p.mods.length)<|.lf BU (⟨(5:Int),(p.mods.getD (Int.toNat k) default).to,p.addr.host,(⟨#[]⟩:ByteArray)⟩,())))) ?_
 refine Ab (fun h1=>lfY ?_) (fun h1=>Ab (fun h2=>lfY ?_) (fun h2=>Aa ?_ fun o3=>lfY ?_))
 all_goals
  try simp only[AH] at *
  try simp only[BU,std,Nat.reduceAdd,modRequest,fInRange,inRange] at *
  try simp(disch:=omega) only[wrapId',toNat1] at *
  try simp(disch:=omega) only[if_pos,if_neg]
 all_goals first|trivial|omega|grind[wrapId',toNat1,drop_cons,drop_end,good_len,maxLen,modRequest,fInRange,inRange])
def Ab5:=Aap.a k324_200
def addrOf (s b:ByteArray):SAddr:=match Dr 47 (toL s) with
 | some (p,q)=>⟨ofL p,ofL q⟩
 | none=>⟨b,s⟩
def parseAddr (s b:ByteArray):SAddr×Bool:=if isName (addrOf s b).host&&isName (addrOf s b).path then(addrOf s b,true) else(default,false)
theorem addrOf_hit {s b:ByteArray} {i:Nat} (h:i<s.size) (hb:s.data.getD i 0=47) (hn:47∉(toL s).take i):addrOf s b=⟨s.extract 0 i,s.extract (i+1) s.size⟩:=by
 unfold addrOf
 rw[Q7 h hb hn]
 have e1:ofL ((toL s).take i)=s.extract 0 i:=by rw[←CO (s.extract 0 i),AO,List.drop_zero]
 have e2:ofL ((toL s).drop (i+1))=s.extract (i+1) s.size:=by rw[←CO (s.extract (i+1) s.size),AO,List.take_of_length_le (by rw[Bg];exact Nat.le_refl _)]
 simp only[e1,e2]
theorem addrOf_end {s b:ByteArray} {i:Nat} (h:s.size≤i) (hn:47∉(toL s).take i):addrOf s b=⟨b,s⟩:=by
 rw[List.take_of_length_le (by rw[Bg];exact h)] at hn
 unfold addrOf
 rw[HC hn]
theorem cutF_len {b:UInt8}:∀ {l p q:List UInt8},Dr b l=some (p,q)→p.length≤l.length∧q.length≤l.length
 | [],p,q,h=>by cases h
 | x::l,p,q,h=>by
  rw[Dr] at h
  split at h
  ·simp only[Option.some.injEq,Prod.mk.injEq] at h
   obtain⟨rfl,rfl⟩:=h
   simp
  ·obtain⟨r,hr,he⟩:=Option.map_eq_some_iff.1 h
   simp only[Prod.mk.injEq] at he
   obtain⟨rfl,rfl⟩:=he
   have:=cutF_len (p:=r.1) (q:=r.2) hr
   simp only[List.length_cons];omega
theorem addrOf_sz (s b:ByteArray):(addrOf s b).host.size≤s.size+b.size∧(addrOf s b).path.size≤s.size:=by
 unfold addrOf
 cases h:Dr 47 (toL s) with
 | none=>exact⟨by simp only;omega,Nat.le_refl _⟩
 | some r=>
  have:=cutF_len (p:=r.1) (q:=r.2) h
  rw[Bg] at this
  simp only[DQ];omega
theorem addrOf_cut (s b:ByteArray):addrOf s b=if(Dy 47 s).2.2 then⟨(Dy 47 s).1,(Dy 47 s).2.1⟩ else⟨b,s⟩:=by
 unfold addrOf Dy
 cases Dr 47 (toL s)<;>rfl
def Aq:Fct:=⟨[.v (.el .str),.v (.el .str)],[.el .addr,.el .bool],fun(x_:ByteArray×ByteArray×Unit)=>x_.1.size≤4000000000∧x_.2.1.size≤4000000000,fun(x_:ByteArray×ByteArray×Unit)=>((parseAddr x_.1 x_.2.1).1,(parseAddr x_.1 x_.2.1).2,())⟩
def laysCut_r:Go.Shelf.Ren:=⟨fun|0=>0|1=>1|2=>2|99=>393|103=>218|106=>335|109=>345|110=>334|129=>379|137=>158|138=>292|143=>293|145=>221|146=>220|156=>277|165=>303|166=>304|169=>305|171=>332|172=>333|195=>309|197=>310|205=>371|206=>290|210=>257|213=>346|217=>217|218=>311|219=>294|220=>260|221=>259|224=>313|225=>312|240=>325|241=>326|243=>342|244=>343|245=>344|246=>351|247=>352|260=>328|265=>357|266=>256|267=>314|268=>291|276=>338|277=>339|279=>353|280=>354|281=>355|282=>356|283=>365|284=>366|285=>367|286=>368|287=>369|314=>329|316=>370|317=>378|318=>380|319=>381|320=>382|321=>383|322=>384|337=>395|338=>396|347=>404|348=>405|349=>406|350=>407|351=>408|352=>409|353=>410|354=>411|355=>412|356=>413|357=>414|358=>415|359=>416|360=>417|361=>418|362=>419|363=>433|364=>420|365=>421|366=>434|367=>449|_=>0,fun|0=>0|1=>1|2=>2|3=>3|4=>4|5=>5|6=>6|7=>7|8=>8|9=>9|10=>10|11=>11|12=>12|13=>13|14=>14|15=>15|16=>16|17=>17|18=>18|19=>19|20=>20|21=>21|22=>349|24=>257|25=>286|27=>351|28=>38|30=>183|31=>31|32=>402|33=>371|34=>235|37=>243|43=>323|46=>368|47=>457|51=>372|52=>471|53=>429|54=>430|55=>196|59=>288|60=>289|61=>287|67=>333|69=>337|70=>353|71=>354|72=>355|73=>356|74=>357|75=>358|76=>359|77=>360|80=>361|81=>482|83=>169|84=>406|85=>408|86=>409|94=>503|101=>95|102=>90|103=>365|104=>255|105=>366|106=>367|108=>438|111=>456|113=>326|114=>344|119=>381|127=>370|128=>401|131=>340|137=>382|138=>383|139=>384|143=>459|144=>460|145=>461|146=>373|150=>350|151=>374|164=>378|165=>379|166=>380|167=>407|168=>410|169=>411|170=>412|171=>428|172=>431|173=>432|174=>433|175=>434|176=>435|209=>436|210=>437|211=>453|212=>454|213=>455|214=>458|232=>475|233=>476|238=>477|239=>478|240=>479|241=>480|242=>481|243=>483|244=>484|245=>485|246=>486|247=>487|248=>488|249=>489|_=>0,fun|1=>0|3=>1|4=>2|15=>3|16=>4|17=>5|18=>6|19=>7|_=>0⟩
theorem laysCut:Go.Proofs.Lays.n145 Tryz.prog laysCut_r:=⟨by kernel_rfl,by kernel_rfl,by kernel_rfl,by kernel_rfl,by kernel_rfl,by kernel_rfl,by kernel_rfl,by kernel_rfl,by kernel_rfl,by kernel_rfl,by kernel_rfl,(fun _=>by kernel_rfl),(fun _=>by kernel_rfl),(fun _=>by kernel_rfl),by kernel_rfl,(fun _=>by kernel_rfl),(fun _=>by kernel_rfl),(fun _=>by kernel_rfl),by kernel_rfl,(fun _=>by kernel_rfl),(fun _=>by kernel_rfl),(fun _=>by kernel_rfl),by kernel_rfl,(fun _=>by kernel_rfl),(fun _=>by kernel_rfl),(fun _=>by kernel_rfl),by kernel_rfl,(fun _=>by kernel_rfl),(fun _=>by kernel_rfl),(fun _=>by kernel_rfl),by kernel_rfl,(fun _=>by kernel_rfl),(fun _=>by kernel_rfl),(fun _=>by kernel_rfl),by kernel_rfl,(fun _=>by kernel_rfl),(fun _=>by kernel_rfl),(fun _=>by kernel_rfl),by kernel_rfl,(fun _=>by kernel_rfl),(fun _=>by kernel_rfl),(fun _=>by kernel_rfl),by kernel_rfl⟩
theorem k221_201:Nn.ok Tryz.prog 221 :=
 Xr fun s sep w h hs=>by obtain⟨m,hm⟩:=HS (zero := #[.int .i64 0]) (t:=3) (g:=laysCut_r.g 1) h (of_decide_eq_true (by kernel_rfl)) (by kernel_rfl) rfl (by kernel_rfl) (by kernel_rfl) Tryz.underlying3;exact Go.Proofs.Any.strings_Cut laysCut s sep m w hs hm
def Aaf:=Ab5.a k221_201
theorem byte47 {s:ByteArray} {i:Nat}:((s.data.getD i 0).toNat:Int)=47↔s.data.getD i 0=47:=byte_eq (b:=47) (by omega) (by omega)
abbrev BB (s:ByteArray) (b:ByteArray):LInv:=⟨[⟨.b,6,true,.el .addr⟩,⟨.s,7,true,.el .int⟩,⟨.b,4,true,.el .addr⟩],fun(z_:SAddr×Int×SAddr×Unit) (x_:SAddr×Int×SAddr×Unit)=>(0≤x_.2.1∧x_.2.1≤s.size∧x_.1=⟨b,s⟩∧47∉(toL s).take x_.2.1.toNat)∧x_.2.2.1=z_.2.2.1,fun(x_:SAddr×Int×SAddr×Unit)=>s.size-x_.2.1.toNat⟩
theorem k252_202:Aq.ok Tryz.prog 252:=Fct.p (KP [0,1,4,5,6,7] [14,20,31]) (fun⟨s,b,_⟩=>lv [(3,BB s b)]) Aaf.2 Tryz.func252 (by
 rintro⟨(s:ByteArray),(b:ByteArray),_⟩ hp
 refine ho (lpx (BB s b) ((⟨b,s⟩:SAddr),((0:Int),(default,()))) fun(y1:SAddr×Int×SAddr×PUnit) bk1=>.br (decide (y1.2.1<(↑s.size:Int))) (.ob (0≤y1.2.1∧y1.2.1<(↑s.size:Int))<|.br ((↑(s.data.getD y1.2.1.toNat 0).toNat:Int)==47) (.ob (0≤y1.2.1∧y1.2.1≤(↑s.size:Int))<|.ob (0≤w1 y1.2.1∧w1 y1.2.1≤(↑s.size:Int))<|.cl fIsAddr ((⟨s.extract 0 y1.2.1.toNat,s.extract (w1 y1.2.1).toNat s.size⟩:SAddr),()) fun z2=>.br (!z2.1) (.lf Aq (default,false,())) (.lf Aq (⟨s.extract 0 y1.2.1.toNat,s.extract (w1 y1.2.1).toNat s.size⟩,true,()))) (.ob (Value.string s=Value.string s)<|.ob (Value.string b=Value.string b)<|.ob (bk1 (y1.1,(w1 y1.2.1,(y1.2.2.1,()))))<|.ok)) (.cl fIsAddr (y1.1,()) fun z3=>.br (!z3.1) (.lf Aq (default,false,())) (.lf Aq (y1.1,true,())))) ?_
 refine AG ?_ fun(y1:SAddr×Int×SAddr×PUnit) i1=>Ab (fun h2=>Aa ?_ fun o3=>Ab (fun h4=>Aa ?_ fun o5=>Aa ?_ fun o6=>Ae ?_ fun o7=>(Ab (fun h8=>lfY ?_) (fun h8=>lfY ?_))) (fun h4=>Aa rfl fun _=>Aa rfl fun _=>Aa ?_ fun o9=>trivial)) (fun h2=>Ae ?_ fun o10=>(Ab (fun h11=>lfY ?_) (fun h11=>lfY ?_)))
 all_goals have hz:=addrOf_sz s b
 all_goals try (obtain⟨⟨a1,a2,a3,a4⟩,a5⟩:=i1)
 all_goals
  try simp only[AH] at *
  try simp only[BB,fIsAddr,Aq,std,Nat.reduceAdd,parseAddr,fIsAddr,byte47] at *
  try simp(disch:=omega) only[wrapId',toNat1] at *
  try simp(disch:=omega) only[if_pos,if_neg]
 all_goals try (have e:=addrOf_hit (b:=b) (show y1.2.1.toNat<s.size by omega) h4 a4;simp only[e] at *)
 all_goals try (have t:=QN (show y1.2.1.toNat<s.size by omega) h4 a4)
 all_goals try (have e:=addrOf_end (b:=b) (show s.size≤y1.2.1.toNat by omega) a4;simp only[e] at *)
 all_goals first|trivial|omega|grind[ByteArray.size_extract])
def Aa1:=Aaf.a k252_202
def findAttr (l:List SAttr) (n:ByteArray):Option ByteArray:=(l.find? fun a=>decide (a.name=n)).map (·.value)
def fFindAttr:Fct:=⟨[.v (.sl .attr),.v (.el .str)],[.el .str,.el .bool],fun(x_:(List SAttr)×ByteArray×Unit)=>x_.1.length≤1000000000000,fun(x_:(List SAttr)×ByteArray×Unit)=>((findAttr x_.1 x_.2.1).getD ⟨#[]⟩,(findAttr x_.1 x_.2.1).isSome,())⟩
abbrev BO (l:(List SAttr)) (n:ByteArray):LInv:=⟨[⟨.s,6,true,.el .int⟩],fun _ (x_:Int×Unit)=>0≤x_.1∧x_.1≤l.length∧findAttr (l.drop x_.1.toNat) n=findAttr l n,fun(x_:Int×Unit)=>l.length-x_.1.toNat⟩
theorem k198_203:fFindAttr.ok Tryz.prog 198:=Fct.p (KP [0,1,4,5,6] [10,19]) (fun⟨l,n,_⟩=>lv [(2,BO l n)]) Aa1.2 Tryz.func198 (by
 rintro⟨(l:List SAttr),(n:ByteArray),_⟩ hp
 refine ho (lpx (BO l n) ((0:Int),()) fun(y1:Int×PUnit) bk1=>.br (decide (y1.1<(↑l.length:Int))) (.ob (inB y1.1 l.length)<|.br ((l.getD y1.1.toNat default).name.toList==n.toList) (.ob (inB y1.1 l.length)<|.lf fFindAttr ((l.getD y1.1.toNat default).value,true,())) (.ob (l=l)<|.ob (Value.string n=Value.string n)<|.ob (bk1 (w1 y1.1,()))<|.ok)) (.lf fFindAttr ((⟨#[]⟩:ByteArray),false,()))) ?_
 refine AG ?_ fun(y1:Int×PUnit) i1=>Ab (fun h2=>Aa ?_ fun o3=>Ab (fun h4=>Aa ?_ fun o5=>lfY ?_) (fun h4=>Aa rfl fun _=>Aa rfl fun _=>Aa ?_ fun o6=>trivial)) (fun h2=>lfY ?_)
 all_goals
  try simp only[AH] at *
  try simp only[BO,fFindAttr,std,Nat.reduceAdd,findAttr] at *
  try simp(disch:=omega) only[wrapId',toNat1] at *
  try simp(disch:=omega) only[if_pos,if_neg]
 all_goals first|trivial|omega|grind[wrapId',toNat1,drop_cons,drop_end,good_len,maxLen,findAttr])
def ZP:=Aa1.a k198_203
def fFindAttr1:Fct:=⟨[.v (.el .attr),.p (.el .str)],[.el .bool],fun(x_:SAttr×ByteArray×Unit)=>True,fun(x_:SAttr×ByteArray×Unit)=>(decide (x_.1.name=x_.2.1),())⟩
theorem k262_204:fFindAttr1.ok Tryz.prog 262:=Fct.o [1,2,3] ZP.2 Tryz.func262 (by
 rintro⟨(a:SAttr),(n:ByteArray),_⟩ hp
 refine ho (.lf fFindAttr1 (a.name.toList==ByteArray.toList n,())) ?_
 refine lfY ?_
 all_goals
  try simp only[AH] at *
  try simp only[fFindAttr1,std,Nat.reduceAdd] at *
  try simp(disch:=omega) only[wrapId',toNat1] at *
  try simp(disch:=omega) only[if_pos,if_neg]
 all_goals first|trivial|omega|grind[wrapId',toNat1,drop_cons,drop_end,good_len,maxLen])
def AaR:=ZP.a k262_204
def Aw:Fct:=⟨[aL .attr,.c 262 [.el .str]],[rI],fun x=>x.1.length≤1000000000000000000∧∀ c,fFindAttr1.pre (c,x.2.1),fun x=>(fidx (fun c=>(fFindAttr1.fn (c,x.2.1)).1) x.1 0,())⟩
abbrev Aj (l:(List SAttr)) (u:(ByteArray×Unit)):LInv:=⟨[⟨.s,8,true,.el .int⟩],fun _ (x_:Int×Unit)=>0≤x_.1∧x_.1≤l.length∧fidx (fun c=>(fFindAttr1.fn (c,u)).1) l 0=fidx (fun c=>(fFindAttr1.fn (c,u)).1) (l.drop x_.1.toNat) x_.1,fun(x_:Int×Unit)=>l.length-x_.1.toNat⟩
theorem k261_205:Aw.ok Tryz.prog 261:=Fct.p (KP [0,1,4,5,7,8] [9,16]) (fun⟨l,u,_⟩=>lv [(2,Aj l u)]) AaR.2 Tryz.func261 (by
 rintro⟨(l:List SAttr),(u:ByteArray×PUnit),_⟩ hp
 refine ho (lpx (Aj l u) ((0:Int),()) fun(y1:Int×PUnit) bk1=>.br (decide (y1.1<(↑l.length:Int))) (.ob (inB y1.1 l.length)<|.cl fFindAttr1 (l.getD y1.1.toNat default,u.1,()) fun z2=>.br (z2.1) (.lf Aw (y1.1,())) (.ob (l=l)<|.ob (enc Ty.str u.1=enc Ty.str u.1)<|.ob (Value.int IntKind.i64 (↑l.length:Int)=Value.int IntKind.i64 (↑l.length:Int))<|.ob (bk1 (w1 y1.1,()))<|.ok)) (.lf Aw ((-1:Int),()))) ?_
 refine AG ?_ fun(y1:Int×PUnit) i1=>Ab (fun h2=>Aa ?_ fun o3=>Ae trivial fun _=>(Ab (fun h4=>lfY ?_) (fun h4=>Aa rfl fun _=>Aa rfl fun _=>Aa rfl fun _=>Aa ?_ fun o5=>trivial))) (fun h2=>lfY ?_)
 all_goals
  try simp only[AH] at *
  try simp only[Aj,fFindAttr1,Aw,std,Nat.reduceAdd] at *
  try have hp2:=hp.2
  try have hp1:=hp.1
 all_goals first|trivial|omega|grind[wrapId',toNat1,drop_cons,drop_end,good_len,maxLen,fidx])
def Y3:=AaR.a k261_205
theorem k222_206:fFindAttr.ok Tryz.prog 222:=Fct.o (KP [0,3,4,5,6] [11]) Y3.2 Tryz.func222 (by
 rintro⟨(l:List SAttr),(n:ByteArray),_⟩ hp
 refine ho (.cl Aw (l,(n,()),()) fun(z2:Int×PUnit)=>.br (decide (z2.1<0)) (.lf fFindAttr ((⟨#[]⟩:ByteArray),false,())) (.ob (0≤z2.1∧z2.1<(↑(List.length l):Int))<|.lf fFindAttr ((List.getD l z2.1.toNat default).value,true,()))) ?_
 refine Ae ?_ fun o1=>(Ab (fun h2=>lfY ?_) (fun h2=>Aa ?_ fun o3=>lfY ?_))
 all_goals
  have hf:=LH (fun a:SAttr=>decide (a.name=n)) l 0 (by omega)
  have hf2:=find_fidx (fun a:SAttr=>decide (a.name=n)) l 0 (by omega)
  try simp only[AH] at *
  try simp only[fFindAttr,Aw,std,Nat.reduceAdd,findAttr,fFindAttr1] at *
  try simp(disch:=omega) only[wrapId',toNat1] at *
  try simp(disch:=omega) only[if_pos,if_neg]
 all_goals first|trivial|omega|grind[wrapId',toNat1,drop_cons,drop_end,good_len,maxLen,findAttr,fFindAttr1])
def ZV:=Y3.a k222_206
theorem k276_207:Aq.ok Tryz.prog 276:=Fct.o (KP [0,1,4,5,6,7,8,9] [19,25]) ZV.2 Tryz.func276 (by
 rintro⟨(s:ByteArray),(b:ByteArray),_⟩ hp
 refine ho (.cl Nn (s,(⟨#[47]⟩:ByteArray),()) fun z2=>.br (z2.2.2.1) (.cl fIsAddr ((⟨z2.1,z2.2.1⟩:SAddr),()) fun z3=>.br (!z3.1) (.lf Aq (default,false,())) (.lf Aq (⟨z2.1,z2.2.1⟩,true,()))) (.cl fIsAddr ((⟨b,s⟩:SAddr),()) fun z4=>.br (!z4.1) (.lf Aq (default,false,())) (.lf Aq (⟨b,s⟩,true,())))) ?_
 refine Ae ?_ fun o1=>(Ab (fun h2=>Ae ?_ fun o3=>(Ab (fun h4=>lfY ?_) (fun h4=>lfY ?_))) (fun h2=>Ae ?_ fun o5=>(Ab (fun h6=>lfY ?_) (fun h6=>lfY ?_))))
 all_goals
  have hz:=addrOf_sz s b
  have hc:=addrOf_cut s b
  try simp only[AH] at *
  try simp only[Nn,fIsAddr,Aq,std,Nat.reduceAdd,parseAddr,fIsAddr,Nn] at *
  try simp only[show(ByteArray.mk #[47]).data.getD 0 0=47 from rfl,show(ByteArray.mk #[47]).size=1 from rfl] at *
 all_goals first|trivial|omega|grind)
def YJ:=ZV.a k276_207
theorem findAttr_sz (l:List SAttr) (n:ByteArray):((findAttr l n).getD ⟨#[]⟩).size≤szL AK l:=by
 unfold findAttr
 cases h:l.find? fun a=>decide (a.name=n) with
 | none=>exact Nat.zero_le _
 | some a=>
  obtain⟨i,hi,he⟩:=List.mem_iff_getElem.1 (List.mem_of_find?_eq_some h)
  have:=Dk AK (l:=l) (i:=i) hi
  rw[List.getD_eq_getElem?_getD,List.getElem?_eq_getElem hi,he] at this
  simp only[Option.map_some,Option.getD_some,AK] at *;omega
def BH:Fct:=⟨[.v (.el .loader)],[.el .loader],fun(x_:SLoader×Unit)=>szNet x_.1.net≤68719476736∧szPage x_.1.page≤1099511627776∧x_.1.parts.length≤1000000000∧x_.1.conns.length≤1048576∧x_.1.guesses.length≤1048576,fun(x_:SLoader×Unit)=>(x_.1,())⟩
theorem k16_208:BH.ok Tryz.prog 16:=Fct.o [1,2] YJ.2 Tryz.func16 (by
 rintro⟨(l:SLoader),_⟩ hp
 refine ho (.cl fCopyNet (l.net,()) fun z2=>.cl fCopyPage (l.page,()) fun z3=>.ob (True)<|.ob (Bi l.parts.length 16)<|.ob (True)<|.ob (Bi l.conns.length 112)<|.ob (True)<|.ob (Bi l.guesses.length 104)<|.lf BH (⟨z2.1,z3.1,l.parts,l.conns,l.guesses⟩,())) ?_
 refine Ae ?_ fun o1=>(Ae ?_ fun o2=>(Aa trivial fun _=>Aa ?_ fun o3=>Aa trivial fun _=>Aa ?_ fun o4=>Aa trivial fun _=>Aa ?_ fun o5=>lfY ?_))
 all_goals
  try simp only[AH] at *
  try simp only[BH,fCopyNet,fCopyPage,std,Nat.reduceAdd,fCopyNet,fCopyPage,fCopyConns,fCopyGuesses] at *
  try simp(disch:=omega) only[wrapId',toNat1] at *
  try simp(disch:=omega) only[if_pos,if_neg]
 all_goals first|trivial|omega|grind[wrapId',toNat1,drop_cons,drop_end,good_len,maxLen,fCopyNet,fCopyPage,fCopyConns,fCopyGuesses])
def ZD:=YJ.a k16_208
theorem k25_209:BH.ok Tryz.prog 25:=Fct.o [1,2] ZD.2 Tryz.func25 (by
 rintro⟨(l:SLoader),_⟩ hp
 refine ho (.cl fCopyNet (l.net,()) fun z2=>.cl fCopyPage (l.page,()) fun z3=>.ob (True)<|.ob (Bi l.parts.length 16)<|.cl fCopyConns (l.conns,()) fun z4=>.cl fCopyGuesses (l.guesses,()) fun z5=>.lf BH (⟨z2.1,z3.1,l.parts,z4.1,z5.1⟩,())) ?_
 refine Ae ?_ fun o1=>(Ae ?_ fun o2=>(Aa trivial fun _=>Aa ?_ fun o3=>Ae ?_ fun o4=>(Ae ?_ fun o5=>(lfY ?_))))
 all_goals
  try simp only[AH] at *
  try simp only[fCopyConns,fCopyGuesses,BH,fCopyNet,fCopyPage,std,Nat.reduceAdd,fCopyNet,fCopyPage,fCopyConns,fCopyGuesses] at *
  try simp(disch:=omega) only[wrapId',toNat1] at *
  try simp(disch:=omega) only[if_pos,if_neg]
 all_goals first|trivial|omega|grind[wrapId',toNat1,drop_cons,drop_end,good_len,maxLen,fCopyNet,fCopyPage,fCopyConns,fCopyGuesses])
def ZZ:=ZD.a k25_209
def lLoader1:Fct:=Xe [.el .loader]
def tagAttrs:List ByteArray→List SAttr→Option (List SAttr)
 | [],acc=>some acc
 | w::l,acc=>match Dr 61 (toL w) with
  | none=>none
  | some r=>if isName (ofL r.1)&&(isValue (ofL r.2)&&(findAttr acc (ofL r.1)).isNone) then tagAttrs l (acc++[⟨ofL r.1,ofL r.2⟩]) else none
def tagFin (n:ByteArray):Option (List SAttr)→SToken×Bool
 | none=>(default,false)
 | some ats=>if isName n=true∧ats.length≤4 then(⟨1,n,ats,⟨#[]⟩⟩,true) else(default,false)
def tagOf (s:ByteArray):SToken×Bool :=
 if 60<s.size then(default,false)
 else if 0<s.size∧s.data.getD 0 0=47 then(if isName (s.extract 1 s.size) then(⟨2,s.extract 1 s.size,[],⟨#[]⟩⟩,true) else(default,false))
 else tagFin ((spl 32 s).getD 0 default) (tagAttrs ((spl 32 s).drop 1) [])
theorem tag_none {s:ByteArray} (h:s.size≤60) (hn:¬ (0<s.size∧s.data.getD 0 0=47)) (ha:tagAttrs ((spl 32 s).drop 1) []=none):tagOf s=(default,false):=by
 unfold tagOf;rw[if_neg (by omega),if_neg hn,ha];rfl
theorem tag_some {s:ByteArray} {ats:List SAttr} (h:s.size≤60) (hn:¬ (0<s.size∧s.data.getD 0 0=47)) (ha:tagAttrs ((spl 32 s).drop 1) []=some ats):tagOf s=if isName ((spl 32 s).getD 0 default)=true∧ats.length≤4 then(⟨1,(spl 32 s).getD 0 default,ats,⟨#[]⟩⟩,true) else(default,false):=by
 unfold tagOf;rw[if_neg (by omega),if_neg hn,ha];rfl
theorem tag_other {s:ByteArray}:(60<s.size→tagOf s=(default,false))∧(s.size≤60→0<s.size→s.data.getD 0 0=47→tagOf s=if isName (s.extract 1 s.size) then(⟨2,s.extract 1 s.size,[],⟨#[]⟩⟩,true) else(default,false)):=by
 unfold tagOf
 exact⟨fun h=>by rw[if_pos h],fun h1 h2 h3=>by rw[if_neg (by omega),if_pos ⟨h2,h3⟩]⟩
theorem splL_cut (b:UInt8):∀ l:List UInt8,Ik b l=match Dr b l with|none=>[l]|some (p,q)=>p::Ik b q:=by
 intro l
 induction l with
 | nil=>rfl
 | cons x l ih=>
  rw[Ee,Dr]
  by_cases hx:x=b
  ·rw[if_pos hx,if_pos hx]
  ·rw[if_neg hx,if_neg hx,ih]
   cases Dr b l with
   | none=>rfl
   | some r=>rfl
theorem spl_cut (b:UInt8) (s:ByteArray):spl b s=match Dr b (toL s) with|none=>[s]|some (p,q)=>ofL p::spl b (ofL q):=by
 unfold spl
 rw[splL_cut]
 cases Dr b (toL s) with
 | none=>simp[CO]
 | some r=>simp[GB]
theorem cutF_mem {b:UInt8}:∀ {l p q:List UInt8},Dr b l=some (p,q)→b∈l
 | [],p,q,h=>by cases h
 | x::l,p,q,h=>by
  rw[Dr] at h
  split at h
  ·rename_i e;subst e;exact List.mem_cons_self
  ·obtain⟨r,hr,_⟩:=Option.map_eq_some_iff.1 h
   exact List.mem_cons_of_mem _ (cutF_mem (p:=r.1) (q:=r.2) hr)
theorem word_cut (w:ByteArray):((spl 61 w).length=2∧isName ((spl 61 w).getD 0 default)=true∧isValue ((spl 61 w).getD 1 default)=true)↔∃ r,Dr 61 (toL w)=some r∧isName (ofL r.1)=true∧isValue (ofL r.2)=true∧(spl 61 w).getD 0 default=ofL r.1∧(spl 61 w).getD 1 default=ofL r.2:=by
 rw[spl_cut]
 cases h:Dr 61 (toL w) with
 | none=>simp
 | some r=>
  obtain⟨p,q⟩:=r
  simp only[List.length_cons,Option.some.injEq]
  constructor
  ·rintro⟨h1,h2,h3⟩
   have hq:(spl 61 (ofL q))=[ofL q]:=by
    rw[spl_cut] at h1 ⊢
    cases hc:Dr 61 (toL (ofL q)) with
    | none=>rfl
    | some r2=>
     rw[hc] at h1
     have:=(DH 61 (ofL r2.2)).1
     simp only[List.length_cons] at h1
     omega
   rw[hq] at h3 ⊢
   exact⟨(p,q),rfl,h2,h3,rfl,rfl⟩
  ·rintro⟨r,rfl,h2,h3,h4,h5⟩
   have hq:(spl 61 (ofL q))=[ofL q]:=by
    rw[spl_cut]
    cases hc:Dr 61 (toL (ofL q)) with
    | none=>rfl
    | some r2=>exact absurd (cutF_mem (p:=r2.1) (q:=r2.2) hc) (value_no rfl h3)
   rw[hq]
   exact⟨rfl,h2,h3⟩
theorem tagAttrs_len:∀ {l:List ByteArray} {acc ats:List SAttr},tagAttrs l acc=some ats→ats.length=acc.length+l.length
 | [],acc,ats,h=>by simp only[tagAttrs,Option.some.injEq] at h;subst h;simp
 | w::l,acc,ats,h=>by
  simp only[tagAttrs] at h
  split at h
  ·cases h
  ·split at h
   ·have:=tagAttrs_len h
    simp only[List.length_append,List.length_cons,List.length_nil] at this ⊢;omega
   ·cases h
theorem tagAttrs_at {l:List ByteArray} {i:Nat} {acc:List SAttr} (h:i<l.length):tagAttrs (l.drop i) acc=(match Dr 61 (toL (l.getD i default)) with|none=>none|some r=>if isName (ofL r.1)&&(isValue (ofL r.2)&&(findAttr acc (ofL r.1)).isNone) then tagAttrs (l.drop (i+1)) (acc++[⟨ofL r.1,ofL r.2⟩]) else none):=by rw[drop_cons h];rfl
theorem tagAttrs_end {l:List ByteArray} {i:Nat} {acc:List SAttr} (h:l.length≤i):tagAttrs (l.drop i) acc=some acc:=by rw[List.drop_of_length_le h];rfl
def EE:Fct:=⟨[.v (.el .str)],[.el .token,.el .bool],fun(x_:ByteArray×Unit)=>x_.1.size≤100000000,fun(x_:ByteArray×Unit)=>((tagOf x_.1).1,(tagOf x_.1).2,())⟩
theorem byteN {s:ByteArray} {i:Nat} {b:Nat} (hb:b≤255):((s.data.getD i 0).toNat:Int)=b↔s.data.getD i 0=UInt8.ofNat b:=byte_eq (b:=b) (by omega) (by omega)
theorem tagStep {l:List ByteArray} {i:Nat} {acc:List SAttr} (h:i<l.length):tagAttrs (l.drop i) acc=if(spl 61 (l.getD i default)).length=2∧isName ((spl 61 (l.getD i default)).getD 0 default)=true∧isValue ((spl 61 (l.getD i default)).getD 1 default)=true∧(findAttr acc ((spl 61 (l.getD i default)).getD 0 default)).isSome=false then tagAttrs (l.drop (i+1)) (acc++[⟨(spl 61 (l.getD i default)).getD 0 default,(spl 61 (l.getD i default)).getD 1 default⟩]) else none:=by
 rw[tagAttrs_at h]
 generalize l.getD i default=w
 by_cases hw:(spl 61 w).length=2∧isName ((spl 61 w).getD 0 default)=true∧isValue ((spl 61 w).getD 1 default)=true
 ·obtain⟨r,h1,h2,h3,h4,h5⟩:=(word_cut w).1 hw
  rw[h1]
  simp only[h2,h3,h4,h5,hw.1,Bool.true_and,true_and]
  cases (findAttr acc (ofL r.1))<;>simp
 ·rw[if_neg (fun hh=>hw ⟨hh.1,hh.2.1,hh.2.2.1⟩)]
  cases hc:Dr 61 (toL w) with
  | none=>rfl
  | some r=>
   simp only
   rw[if_neg]
   intro hh
   simp only[Bool.and_eq_true] at hh
   refine hw ?_
   have hq:spl 61 (ofL r.2)=[ofL r.2]:=by
    rw[spl_cut]
    cases hc2:Dr 61 (toL (ofL r.2)) with
    | none=>rfl
    | some r2=>exact absurd (cutF_mem (p:=r2.1) (q:=r2.2) hc2) (value_no rfl hh.2.1)
   rw[spl_cut,hc]
   simp only[hq]
   exact⟨rfl,hh.1,hh.2.1⟩
abbrev CE (s:ByteArray):LInv:=⟨[⟨.b,5,true,.el .token⟩,⟨.s,6,true,.el .int⟩,⟨.b,2,true,.el .token⟩,⟨.s,4,true,.sl .str⟩],fun(z_:SToken×Int×SToken×(List ByteArray)×Unit) (x_:SToken×Int×SToken×(List ByteArray)×Unit)=>((1≤x_.2.1∧x_.2.1≤(spl 32 s).length∧x_.1.attrs.length+1≤x_.2.1∧x_.1=⟨1,(spl 32 s).getD 0 default,x_.1.attrs,⟨#[]⟩⟩∧tagAttrs ((spl 32 s).drop x_.2.1.toNat) x_.1.attrs=tagAttrs ((spl 32 s).drop 1) [])∧x_.2.2.1=z_.2.2.1)∧x_.2.2.2.1=z_.2.2.2.1,fun(x_:SToken×Int×SToken×(List ByteArray)×Unit)=>(spl 32 s).length-x_.2.1.toNat⟩
theorem k131_210:EE.ok Tryz.prog 131:=Fct.p (KP [0,2,3,4,5,6,7,9] [12,21,25,39,63,74,97]) (fun⟨s,_⟩=>lv [(10,CE s)]) ZZ.2 Tryz.func131 (by
 rintro⟨(s:ByteArray),_⟩ hp
 refine ho (let q7_:=(↑s.size:Int);let q5_:=(0:Int)≤(1:Int)∧(1:Int)≤q7_;let q4_:=(⟨#[]⟩:ByteArray);let q1_:Out:=.leaf (.tup [(true,[vi ((0:Int)),vs (q4_),.nl,vs (q4_)]),(false,[vb (false)])]) [] [];let q0_:Out:=.cl C1 (s,(32:Int),()) fun z3=>.ob ((0:Int)≤(0:Int)∧(0:Int)<(↑z3.1.length:Int))<|.ob (0<z3.1.length)<|lpx (CE s) ((⟨(1:Int),z3.1.getD 0 default,[],q4_⟩:SToken),((1:Int),(default,(z3.1,())))) fun(y12:SToken×Int×SToken×List ByteArray×PUnit) bk12=>.br (decide (y12.2.1<(↑y12.2.2.2.1.length:Int))) (.ob (inB y12.2.1 y12.2.2.2.1.length)<|.ob (y12.2.1.toNat<y12.2.2.2.1.length)<|.cl C1 (y12.2.2.2.1.getD y12.2.1.toNat default,(61:Int),()) fun z4=>let q9_:=0<z4.1.length;let q8_:=(↑z4.1.length:Int);let q6_:=(⟨z4.1.getD 0 default,z4.1.getD 1 default⟩:SAttr);let q3_:=(0:Int)≤(1:Int)∧(1:Int)<q8_;let q2_:=(0:Int)≤(0:Int)∧(0:Int)<q8_;.br (q8_ != 2) q1_ (.ob q2_<|.ob q9_<|.cl fIsName (z4.1.getD 0 default,()) fun z5=>.br (!z5.1) q1_ (.ob q3_<|.ob (1<z4.1.length)<|.cl fIsValue (z4.1.getD 1 default,()) fun z6=>.br (!z6.1) q1_ (.ob q2_<|.ob q9_<|.cl fFindAttr (y12.1.attrs,z4.1.getD 0 default,()) fun z7=>.br (z7.2.1) q1_ (.ob q2_<|.ob q9_<|.ob q3_<|.ob (1<z4.1.length)<|.ob (True)<|.ob (Bi (y12.1.attrs.length+[q6_].length) 32)<|.ob (Value.string s=Value.string s)<|.ob (bk12 (({y12.1 with attrs:=y12.1.attrs++[q6_]}:SToken),(w1 y12.2.1,(y12.2.2.1,(y12.2.2.2.1,())))))<|.ok))))) (.cl fIsName (y12.1.name,()) fun z8=>.br (!z8.1) q1_ (.br (decide ((↑y12.1.attrs.length:Int)>4)) q1_ (.lf EE (y12.1,true,()))));.br (decide (q7_>60)) q1_ (.br (decide (q7_>0)) (.ob ((0:Int)≤(0:Int)∧(0:Int)<q7_)<|.br ((↑(s.data.getD 0 0).toNat:Int)==47) (.ob q5_<|.cl fIsName (s.extract 1 s.size,()) fun z2=>.br (!z2.1) q1_ (.ob q5_<|.leaf (.tup [(true,[vi ((2:Int)),vs (s.extract 1 s.size),.nl,vs (q4_)]),(false,[vb (true)])]) [] [])) q0_) q0_)) ?_
 refine Ab (fun h1=>Fct.leafZ (default,false,()) (by repeat' first|exact rfl|exact trivial|refine And.intro ?_ ?_) ?_) (fun h1=>Ab (fun h2=>Aa ?_ fun o3=>Ab (fun h4=>Aa ?_ fun o5=>Ae ?_ fun o6=>(Ab (fun h7=>Fct.leafZ (default,false,()) (by repeat' first|exact rfl|exact trivial|refine And.intro ?_ ?_) ?_) (fun h7=>Aa ?_ fun o8=>Fct.leafZ (⟨(2:Int),s.extract (1:Nat) s.size,[],{ data := #[]:ByteArray }⟩,true,()) (by repeat' first|exact rfl|exact trivial|refine And.intro ?_ ?_) ?_))) (fun h4=>Ae ?_ fun o9=>(Aa ?_ fun o10=>Aa ?_ fun o11=>AG ?_ fun(y12:SToken×Int×SToken×List ByteArray×PUnit) i12=>Ab (fun h13=>Aa ?_ fun o14=>Aa ?_ fun o15=>Ae ?_ fun o16=>(Ab (fun h17=>Fct.leafZ (default,false,()) (by repeat' first|exact rfl|exact trivial|refine And.intro ?_ ?_) ?_) (fun h17=>Aa ?_ fun o18=>Aa ?_ fun o19=>Ae ?_ fun o20=>(Ab (fun h21=>Fct.leafZ (default,false,()) (by repeat' first|exact rfl|exact trivial|refine And.intro ?_ ?_) ?_) (fun h21=>Aa ?_ fun o22=>Aa ?_ fun o23=>Ae ?_ fun o24=>(Ab (fun h25=>Fct.leafZ (default,false,()) (by repeat' first|exact rfl|exact trivial|refine And.intro ?_ ?_) ?_) (fun h25=>Aa ?_ fun o26=>Aa ?_ fun o27=>Ae ?_ fun o28=>(Ab (fun h29=>Fct.leafZ (default,false,()) (by repeat' first|exact rfl|exact trivial|refine And.intro ?_ ?_) ?_) (fun h29=>Aa ?_ fun o30=>Aa ?_ fun o31=>Aa ?_ fun o32=>Aa ?_ fun o33=>Aa trivial fun _=>Aa ?_ fun o34=>Aa rfl fun _=>Aa ?_ fun o35=>trivial))))))))) (fun h13=>Ae ?_ fun o36=>(Ab (fun h37=>Fct.leafZ (default,false,()) (by repeat' first|exact rfl|exact trivial|refine And.intro ?_ ?_) ?_) (fun h37=>Ab (fun h38=>Fct.leafZ (default,false,()) (by repeat' first|exact rfl|exact trivial|refine And.intro ?_ ?_) ?_) (fun h38=>lfY ?_))))))) (fun h2=>Ae ?_ fun o39=>(Aa ?_ fun o40=>Aa ?_ fun o41=>AG ?_ fun(y42:SToken×Int×SToken×List ByteArray×PUnit) i42=>Ab (fun h43=>Aa ?_ fun o44=>Aa ?_ fun o45=>Ae ?_ fun o46=>(Ab (fun h47=>Fct.leafZ (default,false,()) (by repeat' first|exact rfl|exact trivial|refine And.intro ?_ ?_) ?_) (fun h47=>Aa ?_ fun o48=>Aa ?_ fun o49=>Ae ?_ fun o50=>(Ab (fun h51=>Fct.leafZ (default,false,()) (by repeat' first|exact rfl|exact trivial|refine And.intro ?_ ?_) ?_) (fun h51=>Aa ?_ fun o52=>Aa ?_ fun o53=>Ae ?_ fun o54=>(Ab (fun h55=>Fct.leafZ (default,false,()) (by repeat' first|exact rfl|exact trivial|refine And.intro ?_ ?_) ?_) (fun h55=>Aa ?_ fun o56=>Aa ?_ fun o57=>Ae ?_ fun o58=>(Ab (fun h59=>Fct.leafZ (default,false,()) (by repeat' first|exact rfl|exact trivial|refine And.intro ?_ ?_) ?_) (fun h59=>Aa ?_ fun o60=>Aa ?_ fun o61=>Aa ?_ fun o62=>Aa ?_ fun o63=>Aa trivial fun _=>Aa ?_ fun o64=>Aa rfl fun _=>Aa ?_ fun o65=>trivial))))))))) (fun h43=>Ae ?_ fun o66=>(Ab (fun h67=>Fct.leafZ (default,false,()) (by repeat' first|exact rfl|exact trivial|refine And.intro ?_ ?_) ?_) (fun h67=>Ab (fun h68=>Fct.leafZ (default,false,()) (by repeat' first|exact rfl|exact trivial|refine And.intro ?_ ?_) ?_) (fun h68=>lfY ?_)))))))
 all_goals
  try simp only[AH] at *
  try simp only[CE,fFindAttr,fIsName,fIsValue,C1,EE,std,Nat.reduceAdd,C1,fIsName,fIsValue,fFindAttr] at *
  try simp only[show UInt8.ofNat (Int.toNat 32)=32 from rfl,show UInt8.ofNat (Int.toNat 61)=61 from rfl,byte47] at *
 all_goals
  have hk:=DH 32 s
  have hm:∀ i,i<(spl 32 s).length→((spl 32 s).getD i default).size≤s.size:=fun i h=>FM (getD_in h)
  have hx:(s.extract 1 s.size).size≤s.size:=by rw[ByteArray.size_extract];omega
 all_goals try (obtain⟨⟨⟨a1,a2,a3,a4,a5⟩,a6⟩,a7⟩:=i12)
 all_goals try (obtain⟨⟨⟨a1,a2,a3,a4,a5⟩,a6⟩,a7⟩:=i42)
 all_goals try simp only[a7] at *
 all_goals first|trivial|omega|skip
 all_goals try (have hn:¬ (0<s.size∧s.data.getD 0 0=47):=by intro hh;first|(exact absurd hh.2 (by assumption))|omega)
 all_goals
  try have hg:y12.1.name=(spl 32 s).getD 0 default:=congrArg SToken.name a4
  try have hg:y42.1.name=(spl 32 s).getD 0 default:=congrArg SToken.name a4
  try have h0:=hm 0 (by omega)
  try have hw:=hm y12.2.1.toNat (by omega)
  try have hw0:=spl_get 61 ((spl 32 s).getD y12.2.1.toNat default) 0
  try have hw1:=spl_get 61 ((spl 32 s).getD y12.2.1.toNat default) 1
 all_goals first|(rw[tag_other.1 (by omega)];exact⟨rfl,rfl⟩)|(rw[tag_other.2 (by omega) (by omega) (by assumption),if_neg (by rw[show isName _=false by assumption];decide)];exact⟨rfl,rfl⟩)|(rw[tag_other.2 (by omega) (by omega) (by assumption),if_pos (by assumption)];exact⟨rfl,rfl⟩)|(rw[hg];omega)|omega|skip
 all_goals first|exact⟨by omega,by omega,by simp,trivial,rfl⟩|exact⟨by omega,by omega,by omega⟩|skip
 all_goals first|(rw[tagStep (by omega),if_neg (by rintro⟨c1,c2,c3,c4⟩;first|omega|exact absurd (c2.symm.trans (show isName _=false by assumption)) (by decide)|exact absurd (c3.symm.trans (show isValue _=false by assumption)) (by decide)|exact absurd (c4.symm.trans (show Option.isSome _=true by assumption)) (by decide))] at a5;rw[tag_none (by omega) hn a5.symm];exact⟨rfl,rfl⟩)|skip
 all_goals first|(rw[tagAttrs_end (by omega)] at a5;rw[tag_some (by omega) hn a5.symm,if_neg (by rintro⟨c1,c2⟩;rw[←hg] at c1;first|omega|exact absurd (c1.symm.trans (show isName _=false by assumption)) (by decide))];exact⟨rfl,rfl⟩)|(rw[tagAttrs_end (by omega)] at a5;rw[tag_some (by omega) hn a5.symm,if_pos ⟨by rw[←hg];assumption,by omega⟩];exact⟨a4,rfl⟩)|skip
 all_goals rw[tagStep (by omega),if_pos (by exact⟨by omega,by assumption,by assumption,by assumption⟩)] at a5
 all_goals rw[An (by omega),toNat1 (by omega)]
 all_goals refine⟨⟨⟨⟨by omega,by omega,by rw[List.length_append];simp only[List.length_cons,List.length_nil];omega,?_,a5⟩,a6⟩,trivial⟩,by omega⟩
 all_goals rw[a4])
def AaW:=ZZ.a k131_210
def idxB (b:UInt8) (s:ByteArray):Nat:=(toL s).findIdx fun x=>x==b
theorem idxB_le (b:UInt8) (s:ByteArray):idxB b s≤s.size:=by
 have:=List.findIdx_le_length (xs:=toL s) (p:=fun x=>x==b)
 rw[Bg] at this;exact this
theorem idxB_hit {b:UInt8} {s:ByteArray} {i:Nat} (h:i<s.size) (hb:s.data.getD i 0=b) (hn:b∉(toL s).take i):idxB b s=i:=by
 have e:toL s=(toL s).take i++b::(toL s).drop (i+1):=by rw[←hb,←Fi h,List.take_append_drop]
 have hl:((toL s).take i).length=i:=by rw[List.length_take,Bg];omega
 unfold idxB
 rw[e,List.findIdx_append,List.findIdx_cons]
 have h2:((toL s).take i).findIdx (fun x=>x==b)=i:=by
  rw[List.findIdx_eq_length_of_false fun x hx=>by
   have:x≠b:=fun e=>hn (e▸hx)
   simpa using this]
  exact hl
 rw[h2,hl]
 simp
theorem idxB_end {b:UInt8} {s:ByteArray} {i:Nat} (h:s.size≤i) (hn:b∉(toL s).take i):idxB b s=s.size:=by
 rw[List.take_of_length_le (by rw[Bg];exact h)] at hn
 unfold idxB
 rw[List.findIdx_eq_length_of_false fun x hx=>by
  have:x≠b:=fun e=>hn (e▸hx)
  simpa using this]
 rfl
def DG:Fct:=⟨[.v (.el .str),.v (.el .u8)],[.el .int],fun(x_:ByteArray×Int×Unit)=>x_.1.size≤1000000000000∧0≤x_.2.1∧x_.2.1≤255,fun(x_:ByteArray×Int×Unit)=>((idxB (UInt8.ofNat x_.2.1.toNat) x_.1:Int),())⟩
abbrev Ck (s:ByteArray) (b:Int):LInv:=⟨[⟨.s,5,true,.el .int⟩],fun _ (x_:Int×Unit)=>0≤x_.1∧x_.1≤s.size∧UInt8.ofNat b.toNat∉(toL s).take x_.1.toNat,fun(x_:Int×Unit)=>s.size-x_.1.toNat⟩
theorem k130_211:DG.ok Tryz.prog 130:=Fct.p (KP [0,1,4,5] [9,16]) (fun⟨s,b,_⟩=>lv [(2,Ck s b)]) AaW.2 Tryz.func130 (by
 rintro⟨(s:ByteArray),(b:Int),_⟩ hp
 refine ho (lpx (Ck s b) ((0:Int),()) fun(y1:Int×PUnit) bk1=>.br (decide (y1.1<(↑s.size:Int))) (.ob (0≤y1.1∧y1.1<(↑s.size:Int))<|.br ((↑(s.data.getD y1.1.toNat 0).toNat:Int)==b) (.lf DG (y1.1,())) (.ob (Value.string s=Value.string s)<|.ob (Value.int IntKind.u8 b=Value.int IntKind.u8 b)<|.ob (bk1 (w1 y1.1,()))<|.ok)) (.lf DG ((↑s.size:Int),()))) ?_
 refine AG ?_ fun(y1:Int×PUnit) i1=>Ab (fun h2=>Aa ?_ fun o3=>Ab (fun h4=>lfY ?_) (fun h4=>Aa rfl fun _=>Aa rfl fun _=>Aa ?_ fun o5=>trivial)) (fun h2=>lfY ?_)
 all_goals obtain⟨hp1,hp2,hp3⟩:=hp
 all_goals try (obtain⟨a1,a2,a3⟩:=i1)
 all_goals
  try simp only[AH] at *
  try simp only[Ck,DG,std,Nat.reduceAdd,byte_eq hp2 hp3] at *
  try simp(disch:=omega) only[wrapId',toNat1] at *
  try simp(disch:=omega) only[if_pos,if_neg]
 all_goals try (have e:=idxB_hit (show y1.1.toNat<s.size by omega) h4 a3)
 all_goals try (have t:=QN (show y1.1.toNat<s.size by omega) h4 a3)
 all_goals try (have e:=idxB_end (show s.size≤y1.1.toNat by omega) a3)
 all_goals first|trivial|omega|grind)
def Aah:=AaW.a k130_211
def feed:Nat→ByteArray→List SToken×ByteArray
 | 0,x=>([],x)
 | f+1,x=>
  if 0<idxB 60 x∧idxB 60 x<x.size then(⟨3,⟨#[]⟩,[],x.extract 0 (idxB 60 x)⟩::(feed f (x.extract (idxB 60 x) x.size)).1,(feed f (x.extract (idxB 60 x) x.size)).2)
  else if idxB 60 x≠0∨idxB 62 x=x.size then([],x)
  else(if(tagOf (x.extract 1 (idxB 62 x))).2 then(tagOf (x.extract 1 (idxB 62 x))).1::(feed f (x.extract (idxB 62 x+1) x.size)).1 else(feed f (x.extract (idxB 62 x+1) x.size)).1,(feed f (x.extract (idxB 62 x+1) x.size)).2)
theorem feed_fuel:∀ (f g:Nat) (x:ByteArray),x.size<f→x.size<g→feed f x=feed g x
 | 0,_,x,h,_=>by omega
 | _,0,x,_,h=>by omega
 | f+1,g+1,x,h1,h2=>by
  have hl:=idxB_le 62 x
  simp only[feed]
  split
  ·rename_i hc
   rw[feed_fuel f g (x.extract (idxB 60 x) x.size) (by rw[ByteArray.size_extract];omega) (by rw[ByteArray.size_extract];omega)]
  ·split
   ·rfl
   ·rename_i hc
    rw[feed_fuel f g (x.extract (idxB 62 x+1) x.size) (by rw[ByteArray.size_extract];omega) (by rw[ByteArray.size_extract];omega)]
def feedAll (x:ByteArray):List SToken×ByteArray:=feed (x.size+1) x
theorem feed_text {x:ByteArray} (h:0<idxB 60 x) (h2:idxB 60 x<x.size):feedAll x=(⟨3,⟨#[]⟩,[],x.extract 0 (idxB 60 x)⟩::(feedAll (x.extract (idxB 60 x) x.size)).1,(feedAll (x.extract (idxB 60 x) x.size)).2):=by
 have e:feed x.size (x.extract (idxB 60 x) x.size)=feedAll (x.extract (idxB 60 x) x.size):=feed_fuel _ _ _ (by rw[ByteArray.size_extract];omega) (by omega)
 show feed (x.size+1) x=_
 rw[feed,if_pos ⟨h,h2⟩,e]
theorem feed_stop {x:ByteArray} (h:¬ (0<idxB 60 x∧idxB 60 x<x.size)) (h2:idxB 60 x≠0∨idxB 62 x=x.size):feedAll x=([],x):=by
 show feed (x.size+1) x=_
 rw[feed,if_neg h,if_pos h2]
theorem feed_tag {x:ByteArray} (h:idxB 60 x=0) (h2:idxB 62 x<x.size):feedAll x=(if(tagOf (x.extract 1 (idxB 62 x))).2 then(tagOf (x.extract 1 (idxB 62 x))).1::(feedAll (x.extract (idxB 62 x+1) x.size)).1 else(feedAll (x.extract (idxB 62 x+1) x.size)).1,(feedAll (x.extract (idxB 62 x+1) x.size)).2):=by
 have e:feed x.size (x.extract (idxB 62 x+1) x.size)=feedAll (x.extract (idxB 62 x+1) x.size):=feed_fuel _ _ _ (by rw[ByteArray.size_extract];omega) (by omega)
 show feed (x.size+1) x=_
 rw[feed,if_neg (by omega),if_neg (by omega),e]
theorem idx_one {x:ByteArray} (h:idxB 60 x=0) (h2:idxB 62 x<x.size):1≤idxB 62 x:=by
 unfold idxB at *
 have hl:(toL x).length=x.size:=rfl
 cases hx:toL x with
 | nil=>rw[hx] at hl;simp only[List.length_nil] at hl;omega
 | cons c l=>
  rw[hx] at h
  have hc:c=60:=by
   rw[List.findIdx_cons] at h
   cases hb:(c==60) with
   | true=>simpa using hb
   | false=>rw[hb] at h;simp at h
  subst hc
  rw[List.findIdx_cons,show((60:UInt8)==62)=false from rfl]
  simp
def fFeedText:Fct:=⟨[.v (.el .tokenizer),.v (.el .str)],[.sl .token,.el .tokenizer],fun(x_:STokenizer×ByteArray×Unit)=>x_.1.rest.size≤50000000∧x_.2.1.size≤50000000,fun(x_:STokenizer×ByteArray×Unit)=>((feedAll (x_.1.rest++x_.2.1)).1,⟨(feedAll (x_.1.rest++x_.2.1)).2⟩,())⟩
abbrev BX (t:STokenizer) (s:ByteArray):LInv:=⟨[⟨.s,6,true,.sl .token⟩,⟨.s,7,true,.el .str⟩,⟨.b,5,true,.el .tokenizer⟩],fun(z_:(List SToken)×ByteArray×STokenizer×Unit) (x_:(List SToken)×ByteArray×STokenizer×Unit)=>(x_.1.length+x_.2.1.size≤(t.rest++s).size∧x_.1++(feedAll x_.2.1).1=(feedAll (t.rest++s)).1∧(feedAll x_.2.1).2=(feedAll (t.rest++s)).2)∧x_.2.2.1=z_.2.2.1,fun(x_:(List SToken)×ByteArray×STokenizer×Unit)=>x_.2.1.size⟩
theorem k59_212:fFeedText.ok Tryz.prog 59:=Fct.p (KP [1,2,4,5,6,7,8,9,10,11] [26,46,57]) (fun⟨t,s,_⟩=>lv [(3,BX t s)]) Aah.2 Tryz.func59 (by
 rintro⟨(t:STokenizer),(s:ByteArray),_⟩ hp
 refine ho (let q3_:=Value.string s=Value.string s;.ob (sameSize t.rest s)<|lpx (BX t s) ([],(t.rest++s,(default,()))) fun(y2:List SToken×ByteArray×STokenizer×PUnit) bk2=>let q4_:Out:=.lf fFeedText (y2.1,⟨y2.2.1⟩,());let q1_:=(↑y2.2.1.size:Int);.cl DG (y2.2.1,(60:Int),()) fun(z2:Int×PUnit)=>let q6_:=0≤z2.1∧z2.1≤q1_;let q2_:=(⟨(3:Int),(⟨#[]⟩:ByteArray),[],y2.2.1.extract 0 z2.1.toNat⟩:SToken);let q0_:Out:=.cl DG (y2.2.1,(62:Int),()) fun(z3:Int×PUnit)=>let q5_:=0≤w1 z3.1∧w1 z3.1≤q1_;.br (z2.1 != 0) q4_ (.br (z3.1==q1_) q4_ (.ob ((0:Int)≤(1:Int)∧1≤z3.1∧z3.1≤q1_)<|.cl EE (y2.2.1.extract 1 z3.1.toNat,()) fun z4=>.br (z4.2.1) (.ob (Bi (y2.1.length+[z4.1].length) 64)<|.ob q5_<|.ob q3_<|.ob (bk2 (y2.1++[z4.1],(y2.2.1.extract (w1 z3.1).toNat y2.2.1.size,(y2.2.2.1,()))))<|.ok) (.ob q5_<|.ob q3_<|.ob (bk2 (y2.1,(y2.2.1.extract (w1 z3.1).toNat y2.2.1.size,(y2.2.2.1,()))))<|.ok)));.br (decide (z2.1>0)) (.br (decide (z2.1<q1_)) (.ob q6_<|.ob (Bi (y2.1.length+[q2_].length) 64)<|.ob q6_<|.ob q3_<|.ob (bk2 (y2.1++[q2_],(y2.2.1.extract z2.1.toNat y2.2.1.size,(y2.2.2.1,()))))<|.ok) q0_) q0_) ?_
 refine Aa ?_ fun o1=>AG ?_ fun(y2:List SToken×ByteArray×STokenizer×PUnit) i2=>Ae ?_ fun o3=>(Ab (fun h4=>Ab (fun h5=>Aa ?_ fun o6=>Aa ?_ fun o7=>Aa ?_ fun o8=>Aa rfl fun _=>Aa ?_ fun o9=>trivial) (fun h5=>Ae ?_ fun o10=>(Ab (fun h11=>lfY ?_) (fun h11=>Ab (fun h12=>lfY ?_) (fun h12=>Aa ?_ fun o13=>Ae ?_ fun o14=>(Ab (fun h15=>Aa ?_ fun o16=>Aa ?_ fun o17=>Aa rfl fun _=>Aa ?_ fun o18=>trivial) (fun h15=>Aa ?_ fun o19=>Aa rfl fun _=>Aa ?_ fun o20=>trivial))))))) (fun h4=>Ae ?_ fun o21=>(Ab (fun h22=>lfY ?_) (fun h22=>Ab (fun h23=>lfY ?_) (fun h23=>Aa ?_ fun o24=>Ae ?_ fun o25=>(Ab (fun h26=>Aa ?_ fun o27=>Aa ?_ fun o28=>Aa rfl fun _=>Aa ?_ fun o29=>trivial) (fun h26=>Aa ?_ fun o30=>Aa rfl fun _=>Aa ?_ fun o31=>trivial)))))))
 all_goals try (obtain⟨⟨a1,a2,a3⟩,a4⟩:=i2)
 all_goals
  try simp only[AH] at *
  try simp only[BX,fFeedText,DG,EE,std,Nat.reduceAdd,DG,EE] at *
  try simp(disch:=omega) only[wrapId',toNat1] at *
  try simp(disch:=omega) only[if_pos,if_neg]
  try simp only[show UInt8.ofNat (Int.toNat 60)=60 from rfl,show UInt8.ofNat (Int.toNat 62)=62 from rfl,Int.toNat_natCast,ByteArray.size_append] at *
  try have k1:=idxB_le 60 y2.2.1
  try have k2:=idxB_le 62 y2.2.1
  try have k3:=idx_one (x:=y2.2.1)
  try have k4:∀ a b,(y2.2.1.extract a b).size≤y2.2.1.size:=fun a b=>by rw[ByteArray.size_extract];omega
  try simp(disch:=omega) only[wrapId'] at *
 all_goals first|trivial|omega|(unfold sameSize;omega)|(have:=k4 1 (idxB 62 y2.2.1);omega)|skip
 all_goals first|exact⟨Int.natCast_nonneg _,Int.ofNat_le.2 k1⟩|skip
 all_goals try simp only[decide_eq_true_eq,decide_eq_false_iff_not] at *
 all_goals first|omega|exact⟨by omega,by omega⟩|exact⟨by omega,by omega,by omega⟩|skip
 all_goals have k5:∀ a,(y2.2.1.extract a y2.2.1.size).size=y2.2.1.size-a:=fun a=>by rw[ByteArray.size_extract];omega
 all_goals first|(rw[feed_stop (x:=y2.2.1) (by omega) (by omega)] at a2 a3;rw[List.append_nil] at a2;exact⟨a2,by rw[←a3]⟩)|skip
 all_goals first|rw[feed_text (x:=y2.2.1) (by omega) (by omega)] at a2 a3|(rw[feed_tag (x:=y2.2.1) (by omega) (by omega)] at a2 a3;first|rw[if_pos (by assumption)] at a2|rw[if_neg (by rw[show Prod.snd _=false by assumption];decide)] at a2)
 all_goals try simp only[An (show -9223372036854775808≤((idxB 62 y2.2.1:Nat):Int)+1∧((idxB 62 y2.2.1:Nat):Int)+1≤9223372036854775807 by omega),show(((idxB 62 y2.2.1:Nat):Int)+1).toNat=idxB 62 y2.2.1+1 by omega] at *
 all_goals refine⟨⟨⟨?_,?_,a3⟩,a4⟩,?_⟩
 all_goals first|(rw[k5];simp only[List.length_append,List.length_cons,List.length_nil];omega)|(rw[k5];omega)|exact a2|(rw[List.append_assoc];exact a2)|skip)
def AaT:=Aah.a k59_212
theorem szL_at {α:Type} [Inhabited α] (f:α→Nat) {l:List α} {i:Nat} (h:i<l.length):szL f (l.drop i)=f (l.getD i default)+1+szL f (l.drop (i+1)):=by rw[drop_cons h,szL_cons]
theorem cutF_len1 {b:UInt8}:∀ {l p q:List UInt8},Dr b l=some (p,q)→p.length+q.length+1=l.length
 | [],p,q,h=>by cases h
 | x::l,p,q,h=>by
  rw[Dr] at h
  split at h
  ·obtain⟨rfl,rfl⟩:[]=p∧l=q:=by simpa using h
   simp
  ·obtain⟨r,hr,he⟩:=Option.map_eq_some_iff.1 h
   have:=cutF_len1 (p:=r.1) (q:=r.2) hr
   obtain⟨rfl,rfl⟩:x::r.1=p∧r.2=q:=by simpa using he
   simp only[List.length_cons];omega
theorem tagAttrs_sz:∀ {l:List ByteArray} {acc ats:List SAttr},tagAttrs l acc=some ats→szL AK ats≤szL AK acc+szL Ac l
 | [],acc,ats,h=>by simp only[tagAttrs,Option.some.injEq] at h;subst h;omega
 | w::l,acc,ats,h=>by
  simp only[tagAttrs] at h
  split at h
  ·cases h
  ·rename_i r hr
   split at h
   ·have h1:=tagAttrs_sz h
    have h2:=cutF_len1 (p:=r.1) (q:=r.2) hr
    rw[szL_snoc] at h1
    rw[szL_cons,Ac]
    rw[Bg] at h2
    simp only[AK,DQ] at h1
    omega
   ·cases h
theorem tagOf_sz (s:ByteArray):Af (tagOf s).1≤s.size:=by
 have h0:Af default=0:=by decide
 unfold tagOf
 split
 ·simp only[h0];omega
 ·split
  ·split
   ·simp only[Af,szL,ByteArray.size_extract,List.map_nil,List.sum_nil,List.length_nil,show ByteArray.size ⟨#[]⟩=0 from rfl];omega
   ·simp only[h0];omega
  ·have hs:=szL_spl 32 s
   have hp:=(DH 32 s).1
   cases ht:tagAttrs ((spl 32 s).drop 1) [] with
   | none=>simp only[tagFin,h0];omega
   | some ats=>
    have h1:=tagAttrs_sz ht
    have h2:=szL_at Ac (l:=spl 32 s) (i:=0) hp
    rw[List.drop_zero,Nat.zero_add] at h2
    have h3:szL AK []=0:=rfl
    simp only[tagFin]
    simp only[Ac] at h2
    split
    ·simp only[Af,show ByteArray.size ⟨#[]⟩=0 from rfl];omega
    ·simp only[h0];omega
theorem idx_at {b:UInt8} {x:ByteArray} (h:idxB b x<x.size):idxB b (x.extract (idxB b x) x.size)=0:=by
 have hl:idxB b x<(toL x).length:=h
 have hg:=List.findIdx_getElem (w:=hl)
 unfold idxB at *
 rw[AO,List.take_of_length_le (by rw[Bg];exact Nat.le_refl _),List.drop_eq_getElem_cons hl,List.findIdx_cons,hg]
 rfl
theorem feed_szs:∀ (f:Nat) (x:ByteArray),szL Af (feed f x).1+(feed f x).2.size≤x.size+(if idxB 60 x=0 then 0 else 1):=by
 intro f
 induction f with
 | zero=>intro x;have:szL Af []=0:=rfl;simp only[feed];omega
 | succ f ih=>
  intro x
  have hl:=idxB_le 62 x
  have h3:szL AK []=0:=rfl
  have h4:szL Af []=0:=rfl
  simp only[feed]
  split
  ·rename_i hc
   have:=ih (x.extract (idxB 60 x) x.size)
   have hz:idxB 60 (x.extract (idxB 60 x) x.size)=0:=idx_at hc.2
   rw[szL_cons]
   rw[if_pos hz] at this
   rw[if_neg (by omega)]
   simp only[Af,ByteArray.size_extract,show ByteArray.size ⟨#[]⟩=0 from rfl,h3] at *
   omega
  ·split
   ·simp only[h4];split<;>omega
   ·rename_i hc
    have:=ih (x.extract (idxB 62 x+1) x.size)
    have ht:=tagOf_sz (x.extract 1 (idxB 62 x))
    have ho:=idx_one (x:=x) (by omega) (by omega)
    rw[ByteArray.size_extract] at this ht
    rw[if_pos (show idxB 60 x=0 by omega)]
    have h5:szL Af (feed f (x.extract (idxB 62 x+1) x.size)).1+(feed f (x.extract (idxB 62 x+1) x.size)).2.size≤x.size-(idxB 62 x+1)+1:=by split at this<;>omega
    split
    ·simp only[szL_cons];omega
    ·dsimp only;omega
def endText (r:ByteArray):List SToken:=if r=⟨#[]⟩∨r.data.getD 0 0=60 then[] else[⟨3,⟨#[]⟩,[],r⟩]
theorem endText_sz (r:ByteArray):szL Af (endText r)≤r.size+1:=by
 unfold endText
 have h3:szL AK []=0:=rfl
 have h4:szL Af []=0:=rfl
 split
 ·omega
 ·rw[szL_cons];simp only[Af,h3,h4,show ByteArray.size ⟨#[]⟩=0 from rfl];omega
theorem byte60 {s:ByteArray} {i:Nat}:((s.data.getD i 0).toNat:Int)=60↔s.data.getD i 0=60:=byteN (b:=60) (by omega)
theorem size_pos {s:ByteArray} (h:¬ s=⟨#[]⟩):0<s.size:=by
 rcases Nat.eq_zero_or_pos s.size with h0|h0
 ·exact absurd (ByteArray.ext (Array.eq_empty_of_size_eq_zero h0)) h
 ·exact h0
def fEndText:Fct:=⟨[.v (.el .tokenizer)],[.sl .token],fun(x_:STokenizer×Unit)=>x_.1.rest.size≤1000000000000,fun(x_:STokenizer×Unit)=>(endText x_.1.rest,())⟩
theorem k60_213:fEndText.ok Tryz.prog 60:=Fct.o (KP [1,2] [11]) AaT.2 Tryz.func60 (by
 rintro⟨(t:STokenizer),_⟩ hp
 refine ho (.br (t.rest.toList==(⟨#[]⟩:ByteArray).toList) (.lf fEndText ([],())) (.ob ((0:Int)≤(0:Int)∧(0:Int)<(↑t.rest.size:Int))<|.br ((↑(t.rest.data.getD 0 0).toNat:Int)==60) (.lf fEndText ([],())) (.lf fEndText ([(⟨(3:Int),(⟨#[]⟩:ByteArray),[],t.rest⟩:SToken)],())))) ?_
 refine Ab (fun h1=>lfY ?_) (fun h1=>Aa ?_ fun o2=>Ab (fun h3=>lfY ?_) (fun h3=>lfY ?_))
 all_goals
  try simp only[AH] at *
  try simp only[fEndText,std,Nat.reduceAdd,endText,byte60] at *
 all_goals have hz:=@size_pos t.rest
 all_goals first|trivial|omega|(have:=hz (by assumption);omega)|rw[if_pos (by first|exact .inl (by assumption)|exact .inr (by assumption))]|rw[if_neg (by rintro(h|h)<;>contradiction)])
def AbI:=AaT.a k60_213
theorem k81_214:fEndText.ok Tryz.prog 81:=Fct.o (KP [1,2] [11]) AbI.2 Tryz.func81 (by
 rintro⟨(t:STokenizer),_⟩ hp
 refine ho (.br (t.rest.toList==(⟨#[]⟩:ByteArray).toList) (.lf fEndText ([],())) (.ob ((0:Int)≤(0:Int)∧(0:Int)<(↑t.rest.size:Int))<|.br ((↑(t.rest.data.getD 0 0).toNat:Int)==60) (.lf fEndText ([],())) (.lf fEndText ([(⟨(3:Int),(⟨#[]⟩:ByteArray),[],t.rest⟩:SToken)],())))) ?_
 refine Ab (fun h1=>lfY ?_) (fun h1=>Aa ?_ fun o2=>Ab (fun h3=>lfY ?_) (fun h3=>lfY ?_))
 all_goals
  try simp only[AH] at *
  try simp only[fEndText,std,Nat.reduceAdd,endText,byte60] at *
 all_goals have hz:=@size_pos t.rest
 all_goals first|trivial|omega|(have:=hz (by assumption);omega)|rw[if_pos (by first|exact .inl (by assumption)|exact .inr (by assumption))]|rw[if_neg (by rintro(h|h)<;>contradiction)])
def Aa7:=AbI.a k81_214
theorem endText_len (r:ByteArray):(endText r).length≤1:=by unfold endText;split<;>simp
theorem dflt_rest:(default:STokenizer).rest=⟨#[]⟩∧(∀ s:ByteArray,(⟨#[]⟩:ByteArray)++s=s)∧ByteArray.size ⟨#[]⟩=0:=⟨rfl,fun s=>ByteArray.ext (by simp),rfl⟩
def tokensOf (s:ByteArray):List SToken:=(feedAll s).1++endText (feedAll s).2
theorem feedAll_sz (x:ByteArray):szL Af (feedAll x).1+(feedAll x).2.size≤x.size+1:=by
 have:=feed_szs (x.size+1) x
 unfold feedAll
 split at this<;>omega
theorem feedAll_len (x:ByteArray):(feedAll x).1.length+(feedAll x).2.size≤x.size+1:=by
 have:=feedAll_sz x
 have:=Ad Af (feedAll x).1
 omega
def Cy:Fct:=⟨[.v (.el .str)],[.sl .token],fun(x_:ByteArray×Unit)=>x_.1.size≤10000000,fun(x_:ByteArray×Unit)=>(tokensOf x_.1,())⟩
theorem k202_215:Cy.ok Tryz.prog 202:=Fct.o [0,2,3,4] Aa7.2 Tryz.func202 (by
 rintro⟨(s:ByteArray),_⟩ hp
 refine ho (.cl fFeedText (default,s,()) fun z2=>.cl fEndText (z2.2.1,()) fun z3=>.ob (Bi (z2.1.length+z3.1.length) 64)<|.lf Cy (z2.1++z3.1,())) ?_
 refine Ae ?_ fun o1=>(Ae ?_ fun o2=>(Aa ?_ fun o3=>lfY ?_))
 all_goals
  have hz:=feedAll_len s
  have he:=endText_len (feedAll s).2
  try simp only[AH] at *
  try simp only[fEndText,fFeedText,Cy,std,Nat.reduceAdd,tokensOf,fFeedText,fEndText,dflt_rest] at *
  try simp(disch:=omega) only[wrapId',toNat1] at *
  try simp(disch:=omega) only[if_pos,if_neg]
 all_goals first|trivial|omega|grind[wrapId',toNat1,drop_cons,drop_end,good_len,maxLen,tokensOf,fFeedText,fEndText,dflt_rest])
def AbE:=Aa7.a k202_215
def arriveText (p:SPage) (s:ByteArray):SPage:=if p.ended=true then p else{ p with queue:=p.queue++(feedAll (p.tok.rest++s)).1,tok:=⟨(feedAll (p.tok.rest++s)).2⟩}
def A7:Fct:=⟨[.v (.el .page),.v (.el .str)],[.el .page],fun(x_:SPage×ByteArray×Unit)=>szPage x_.1≤1000000000000∧x_.1.tok.rest.size≤10000000∧x_.2.1.size≤10000000,fun(x_:SPage×ByteArray×Unit)=>(arriveText x_.1 x_.2.1,())⟩
theorem k17_216:A7.ok Tryz.prog 17:=Fct.o (KP [1,2,4,5,6,7] [11]) AbE.2 Tryz.func17 (by
 rintro⟨(p:SPage),(s:ByteArray),_⟩ hp
 refine ho (.cl fCopyPage (p,()) fun z2=>.br (p.ended) (.lf A7 (z2.1,())) (.cl fFeedText (p.tok,s,()) fun z3=>.ob (Bi (z2.1.queue.length+z3.1.length) 64)<|.lf A7 (⟨z2.1.addr,z2.1.policy,z3.2.1,z2.1.queue++z3.1,z2.1.ended,z2.1.builder,z2.1.slots,z2.1.mods,z2.1.entries,z2.1.block,z2.1.inline,z2.1.deferred,z2.1.entered,z2.1.ran,z2.1.log,z2.1.loaded⟩,()))) ?_
 refine Ae ?_ fun o1=>(Ab (fun h2=>lfY ?_) (fun h2=>Ae ?_ fun o3=>(Aa ?_ fun o4=>lfY ?_)))
 all_goals
  have hz:=feedAll_len (p.tok.rest++s)
  have hl2:=Ad Af p.queue
  have hq:szL Af p.queue+p.tok.rest.size≤szPage p:=by simp only[szPage,AJ];omega
 all_goals rw[ByteArray.size_append] at hz
 all_goals
  try simp only[AH] at *
  try simp only[A7,fCopyPage,fFeedText,std,Nat.reduceAdd,arriveText,fCopyPage,fFeedText] at *
  try simp(disch:=omega) only[wrapId',toNat1] at *
  try simp(disch:=omega) only[if_pos,if_neg]
 all_goals first|trivial|omega|grind[wrapId',toNat1,drop_cons,drop_end,good_len,maxLen,arriveText,fCopyPage,fFeedText])
def Ze:=AbE.a k17_216
def endPage (p:SPage):SPage:=if p.ended=true then p else{ p with queue:=p.queue++endText p.tok.rest,tok:=default,ended:=true }
def CF:Fct:=⟨[.v (.el .page)],[.el .page],fun(x_:SPage×Unit)=>szPage x_.1≤1000000000000,fun(x_:SPage×Unit)=>(endPage x_.1,())⟩
theorem k18_217:CF.ok Tryz.prog 18:=Fct.o (KP [1,2,3] [7]) Ze.2 Tryz.func18 (by
 rintro⟨(p:SPage),_⟩ hp
 refine ho (.cl fCopyPage (p,()) fun z2=>.br (p.ended) (.lf CF (z2.1,())) (.cl fEndText (p.tok,()) fun z3=>.ob (Bi (z2.1.queue.length+z3.1.length) 64)<|.lf CF (⟨z2.1.addr,z2.1.policy,default,z2.1.queue++z3.1,true,z2.1.builder,z2.1.slots,z2.1.mods,z2.1.entries,z2.1.block,z2.1.inline,z2.1.deferred,z2.1.entered,z2.1.ran,z2.1.log,z2.1.loaded⟩,()))) ?_
 refine Ae ?_ fun o1=>(Ab (fun h2=>lfY ?_) (fun h2=>Ae ?_ fun o3=>(Aa ?_ fun o4=>lfY ?_)))
 all_goals
  have hz:=endText_len p.tok.rest
  have hl2:=Ad Af p.queue
  have hq:szL Af p.queue+p.tok.rest.size≤szPage p:=by simp only[szPage,AJ];omega
  try simp only[AH] at *
  try simp only[fCopyPage,CF,fEndText,std,Nat.reduceAdd,endPage,fCopyPage,fEndText] at *
  try simp(disch:=omega) only[wrapId',toNat1] at *
  try simp(disch:=omega) only[if_pos,if_neg]
 all_goals first|trivial|omega|grind[wrapId',toNat1,drop_cons,drop_end,good_len,maxLen,endPage,fCopyPage,fEndText])
def Y7:=Ze.a k18_217
theorem k27_218:CF.ok Tryz.prog 27:=Fct.o (KP [1,2,3] [7]) Y7.2 Tryz.func27 (by
 rintro⟨(p:SPage),_⟩ hp
 refine ho (.cl fCopyPage (p,()) fun z2=>.br (p.ended) (.lf CF (z2.1,())) (.cl fEndText (p.tok,()) fun z3=>.ob (Bi (z2.1.queue.length+z3.1.length) 64)<|.lf CF (⟨z2.1.addr,z2.1.policy,default,z2.1.queue++z3.1,true,z2.1.builder,z2.1.slots,z2.1.mods,z2.1.entries,z2.1.block,z2.1.inline,z2.1.deferred,z2.1.entered,z2.1.ran,z2.1.log,z2.1.loaded⟩,()))) ?_
 refine Ae ?_ fun o1=>(Ab (fun h2=>lfY ?_) (fun h2=>Ae ?_ fun o3=>(Aa ?_ fun o4=>lfY ?_)))
 all_goals
  have hz:=endText_len p.tok.rest
  have hl2:=Ad Af p.queue
  have hq:szL Af p.queue+p.tok.rest.size≤szPage p:=by simp only[szPage,AJ];omega
  try simp only[AH] at *
  try simp only[fCopyPage,CF,fEndText,std,Nat.reduceAdd,endPage,fCopyPage,fEndText] at *
  try simp(disch:=omega) only[wrapId',toNat1] at *
  try simp(disch:=omega) only[if_pos,if_neg]
 all_goals first|trivial|omega|grind[wrapId',toNat1,drop_cons,drop_end,good_len,maxLen,endPage,fCopyPage,fEndText])
def AaU:=Y7.a k27_218
def stylesReady (l:List SSlot):Bool:=l.all fun s=>!(decide (s.mode=2) && !s.done)
theorem styles_at {l:List SSlot} {i:Nat} (h:i<l.length):stylesReady (l.drop i)=(!(decide ((l.getD i default).mode=2) && !(l.getD i default).done)&&stylesReady (l.drop (i+1))):=by rw[drop_cons h];rfl
theorem styles_end {l:List SSlot} {i:Nat} (h:l.length≤i):stylesReady (l.drop i)=true:=by rw[List.drop_of_length_le h];rfl
def Ap:Fct:=⟨[.v (.el .page)],[.el .bool],fun(x_:SPage×Unit)=>x_.1.slots.length≤1000000000000,fun(x_:SPage×Unit)=>(stylesReady x_.1.slots,())⟩
abbrev A8 (p:SPage):LInv:=⟨[⟨.s,3,true,.el .int⟩,⟨.b,1,false,.el .page⟩],fun(z_:Int×SPage×Unit) (x_:Int×SPage×Unit)=>(0≤x_.1∧x_.1≤p.slots.length∧stylesReady (p.slots.drop x_.1.toNat)=stylesReady p.slots)∧x_.2.1=z_.2.1,fun(x_:Int×SPage×Unit)=>p.slots.length-x_.1.toNat⟩
theorem k132_219:Ap.ok Tryz.prog 132:=Fct.p (KP [1,2,3] [8,26]) (fun⟨p,_⟩=>lv [(2,A8 p)]) AaU.2 Tryz.func132 (by
 rintro⟨(p:SPage),_⟩ hp
 refine ho (lpx (A8 p) ((0:Int),(p,())) fun(y1:Int×SPage×PUnit) bk1=>.br (decide (y1.1<(↑y1.2.1.slots.length:Int))) (.ob (inB y1.1 y1.2.1.slots.length)<|.br ((y1.2.1.slots.getD y1.1.toNat default).mode==2) (.ob (inB y1.1 y1.2.1.slots.length)<|.br (!(y1.2.1.slots.getD y1.1.toNat default).done) (.lf Ap (false,())) (.ob (bk1 (w1 y1.1,(y1.2.1,())))<|.ok)) (.ob (bk1 (w1 y1.1,(y1.2.1,())))<|.ok)) (.lf Ap (true,()))) ?_
 refine AG ?_ fun(y1:Int×SPage×PUnit) i1=>Ab (fun h2=>Aa ?_ fun o3=>Ab (fun h4=>Aa ?_ fun o5=>Ab (fun h6=>lfY ?_) (fun h6=>Aa ?_ fun o7=>trivial)) (fun h4=>Aa ?_ fun o8=>trivial)) (fun h2=>lfY ?_)
 all_goals
  try simp only[AH] at *
  try simp only[A8,Ap,std,Nat.reduceAdd,styles_at,styles_end] at *
  try simp(disch:=omega) only[wrapId',toNat1] at *
  try simp(disch:=omega) only[if_pos,if_neg]
 all_goals first|trivial|omega|grind[wrapId',toNat1,drop_cons,drop_end,good_len,maxLen,styles_at,styles_end])
def Zr:=AaU.a k132_219
abbrev A6 (p:SPage):LInv:=⟨[⟨.s,8,true,.el .int⟩],fun _ (x_:Int×Unit)=>0≤x_.1∧x_.1≤p.slots.length∧stylesReady (p.slots.drop x_.1.toNat)=stylesReady p.slots,fun(x_:Int×Unit)=>p.slots.length-x_.1.toNat⟩
theorem k160_220:Ap.ok Tryz.prog 160:=Fct.p (KP [1,2,4,6,7,8] [9,19]) (fun⟨p,_⟩=>lv [(2,A6 p)]) Zr.2 Tryz.func160 (by
 rintro⟨(p:SPage),_⟩ hp
 refine ho (lpx (A6 p) ((0:Int),()) fun(y1:Int×PUnit) bk1=>.br (decide (y1.1<(↑p.slots.length:Int))) (.ob (inB y1.1 p.slots.length)<|.br ((p.slots.getD y1.1.toNat default).mode==2) (.br (!(p.slots.getD y1.1.toNat default).done) (.lf Ap (false,())) (.ob (p.slots=p.slots)<|.ob (Value.int IntKind.i64 (↑p.slots.length:Int)=Value.int IntKind.i64 (↑p.slots.length:Int))<|.ob (bk1 (w1 y1.1,()))<|.ok)) (.ob (p.slots=p.slots)<|.ob (Value.int IntKind.i64 (↑p.slots.length:Int)=Value.int IntKind.i64 (↑p.slots.length:Int))<|.ob (bk1 (w1 y1.1,()))<|.ok)) (.lf Ap (true,()))) ?_
 refine AG ?_ fun(y1:Int×PUnit) i1=>Ab (fun h2=>Aa ?_ fun o3=>Ab (fun h4=>Ab (fun h5=>lfY ?_) (fun h5=>Aa rfl fun _=>Aa rfl fun _=>Aa ?_ fun o6=>trivial)) (fun h4=>Aa rfl fun _=>Aa rfl fun _=>Aa ?_ fun o7=>trivial)) (fun h2=>lfY ?_)
 all_goals
  try simp only[AH] at *
  try simp only[A6,Ap,std,Nat.reduceAdd,styles_at,styles_end] at *
  try simp(disch:=omega) only[wrapId',toNat1] at *
  try simp(disch:=omega) only[if_pos,if_neg]
 all_goals first|trivial|omega|grind[wrapId',toNat1,drop_cons,drop_end,good_len,maxLen,styles_at,styles_end])
def Aba:=Zr.a k160_220
def textOf (n:Int):List SNode→ByteArray→ByteArray
 | [],s=>s
 | x::l,s=>textOf n l (if x.parent=n∧x.name=⟨#[]⟩ then s++x.text else s)
theorem textOf_at {n:Int} {l:List SNode} {i:Nat} {s:ByteArray} (h:i<l.length):textOf n (l.drop i) s=textOf n (l.drop (i+1)) (if(l.getD i default).parent=n∧(l.getD i default).name=⟨#[]⟩ then s++(l.getD i default).text else s):=by rw[drop_cons h];rfl
theorem textOf_end {n:Int} {l:List SNode} {i:Nat} {s:ByteArray} (h:l.length≤i):textOf n (l.drop i) s=s:=by rw[List.drop_of_length_le h];rfl
def Dt:Fct:=⟨[.v (.el .builder),.v (.el .int)],[.el .str],fun(x_:SBuilder×Int×Unit)=>szBuilder x_.1≤1000000000000,fun(x_:SBuilder×Int×Unit)=>(textOf x_.2.1 x_.1.nodes ⟨#[]⟩,())⟩
abbrev Ct (b:SBuilder) (n:Int):LInv:=⟨[⟨.s,5,true,.el .str⟩,⟨.s,6,true,.el .int⟩,⟨.b,2,false,.el .builder⟩],fun(z_:ByteArray×Int×SBuilder×Unit) (x_:ByteArray×Int×SBuilder×Unit)=>(0≤x_.2.1∧x_.2.1≤b.nodes.length∧x_.1.size+szL szNode (b.nodes.drop x_.2.1.toNat)≤szL szNode b.nodes∧textOf n (b.nodes.drop x_.2.1.toNat) x_.1=textOf n b.nodes ⟨#[]⟩)∧x_.2.2.1=z_.2.2.1,fun(x_:ByteArray×Int×SBuilder×Unit)=>b.nodes.length-x_.2.1.toNat⟩
theorem k134_221:Dt.ok Tryz.prog 134:=Fct.p (KP [1,2,4,5,6] [11,30]) (fun⟨b,n,_⟩=>lv [(3,Ct b n)]) Aba.2 Tryz.func134 (by
 rintro⟨(b:SBuilder),(n:Int),_⟩ hp
 refine ho (lpx (Ct b n) ((⟨#[]⟩:ByteArray),((0:Int),(b,()))) fun(y1:ByteArray×Int×SBuilder×PUnit) bk1=>.br (decide (y1.2.1<(↑y1.2.2.1.nodes.length:Int))) (.ob (inB y1.2.1 y1.2.2.1.nodes.length)<|.br ((y1.2.2.1.nodes.getD y1.2.1.toNat default).parent==n) (.ob (inB y1.2.1 y1.2.2.1.nodes.length)<|.br ((y1.2.2.1.nodes.getD y1.2.1.toNat default).name.toList==(⟨#[]⟩:ByteArray).toList) (.ob (inB y1.2.1 y1.2.2.1.nodes.length)<|.ob (sameSize y1.1 (y1.2.2.1.nodes.getD y1.2.1.toNat default).text)<|.ob (Value.int IntKind.i64 n=Value.int IntKind.i64 n)<|.ob (Value.string (⟨#[]⟩:ByteArray)=Value.string (⟨#[]⟩:ByteArray))<|.ob (bk1 (y1.1++(y1.2.2.1.nodes.getD y1.2.1.toNat default).text,(w1 y1.2.1,(y1.2.2.1,()))))<|.ok) (.ob (Value.int IntKind.i64 n=Value.int IntKind.i64 n)<|.ob (Value.string (⟨#[]⟩:ByteArray)=Value.string (⟨#[]⟩:ByteArray))<|.ob (bk1 (y1.1,(w1 y1.2.1,(y1.2.2.1,()))))<|.ok)) (.ob (Value.int IntKind.i64 n=Value.int IntKind.i64 n)<|.ob (Value.string (⟨#[]⟩:ByteArray)=Value.string (⟨#[]⟩:ByteArray))<|.ob (bk1 (y1.1,(w1 y1.2.1,(y1.2.2.1,()))))<|.ok)) (.lf Dt (y1.1,()))) ?_
 refine AG ?_ fun(y1:ByteArray×Int×SBuilder×PUnit) i1=>Ab (fun h2=>Aa ?_ fun o3=>Ab (fun h4=>Aa ?_ fun o5=>Ab (fun h6=>Aa ?_ fun o7=>Aa ?_ fun o8=>Aa rfl fun _=>Aa rfl fun _=>Aa ?_ fun o9=>trivial) (fun h6=>Aa rfl fun _=>Aa rfl fun _=>Aa ?_ fun o10=>trivial)) (fun h4=>Aa rfl fun _=>Aa rfl fun _=>Aa ?_ fun o11=>trivial)) (fun h2=>lfY ?_)
 all_goals
  have hl:=Ad szNode b.nodes
  have hb:szL szNode b.nodes≤szBuilder b:=by simp only[szBuilder];omega
  have hx:∀ i,i<b.nodes.length→szL szNode (b.nodes.drop i)=szNode (b.nodes.getD i default)+1+szL szNode (b.nodes.drop (i+1)):=fun i h=>szL_at szNode h
  try simp only[AH] at *
  try simp only[Ct,Dt,std,Nat.reduceAdd,textOf_at,textOf_end,sameSize,ByteArray.size_append,szNode] at *
  try simp(disch:=omega) only[wrapId',toNat1] at *
  try simp(disch:=omega) only[if_pos,if_neg]
 all_goals first|trivial|omega|grind[wrapId',toNat1,drop_cons,drop_end,good_len,maxLen,textOf_at,textOf_end,sameSize,ByteArray.size_append,szNode])
def Y9:=Aba.a k134_221
abbrev Cw (b:SBuilder) (n:Int):LInv:=⟨[⟨.s,5,true,.el .str⟩,⟨.s,11,true,.el .int⟩],fun _ (x_:ByteArray×Int×Unit)=>0≤x_.2.1∧x_.2.1≤b.nodes.length∧x_.1.size+szL szNode (b.nodes.drop x_.2.1.toNat)≤szL szNode b.nodes∧textOf n (b.nodes.drop x_.2.1.toNat) x_.1=textOf n b.nodes ⟨#[]⟩,fun(x_:ByteArray×Int×Unit)=>b.nodes.length-x_.2.1.toNat⟩
theorem k162_222:Dt.ok Tryz.prog 162:=Fct.p (KP [1,2,4,5,7,9,10,11] [12,23]) (fun⟨b,n,_⟩=>lv [(3,Cw b n)]) Y9.2 Tryz.func162 (by
 rintro⟨(b:SBuilder),(n:Int),_⟩ hp
 refine ho (lpx (Cw b n) ((⟨#[]⟩:ByteArray),((0:Int),())) fun(y1:ByteArray×Int×PUnit) bk1=>.br (decide (y1.2.1<(↑b.nodes.length:Int))) (.ob (inB y1.2.1 b.nodes.length)<|.br ((b.nodes.getD y1.2.1.toNat default).parent==n) (.br ((b.nodes.getD y1.2.1.toNat default).name.toList==(⟨#[]⟩:ByteArray).toList) (.ob (sameSize y1.1 (b.nodes.getD y1.2.1.toNat default).text)<|.ob (Value.int IntKind.i64 n=Value.int IntKind.i64 n)<|.ob (Value.string (⟨#[]⟩:ByteArray)=Value.string (⟨#[]⟩:ByteArray))<|.ob (b.nodes=b.nodes)<|.ob (Value.int IntKind.i64 (↑b.nodes.length:Int)=Value.int IntKind.i64 (↑b.nodes.length:Int))<|.ob (bk1 (y1.1++(b.nodes.getD y1.2.1.toNat default).text,(w1 y1.2.1,())))<|.ok) (.ob (Value.int IntKind.i64 n=Value.int IntKind.i64 n)<|.ob (Value.string (⟨#[]⟩:ByteArray)=Value.string (⟨#[]⟩:ByteArray))<|.ob (b.nodes=b.nodes)<|.ob (Value.int IntKind.i64 (↑b.nodes.length:Int)=Value.int IntKind.i64 (↑b.nodes.length:Int))<|.ob (bk1 (y1.1,(w1 y1.2.1,())))<|.ok)) (.ob (Value.int IntKind.i64 n=Value.int IntKind.i64 n)<|.ob (Value.string (⟨#[]⟩:ByteArray)=Value.string (⟨#[]⟩:ByteArray))<|.ob (b.nodes=b.nodes)<|.ob (Value.int IntKind.i64 (↑b.nodes.length:Int)=Value.int IntKind.i64 (↑b.nodes.length:Int))<|.ob (bk1 (y1.1,(w1 y1.2.1,())))<|.ok)) (.lf Dt (y1.1,()))) ?_
 refine AG ?_ fun(y1:ByteArray×Int×PUnit) i1=>Ab (fun h2=>Aa ?_ fun o3=>Ab (fun h4=>Ab (fun h5=>Aa ?_ fun o6=>Aa rfl fun _=>Aa rfl fun _=>Aa rfl fun _=>Aa rfl fun _=>Aa ?_ fun o7=>trivial) (fun h5=>Aa rfl fun _=>Aa rfl fun _=>Aa rfl fun _=>Aa rfl fun _=>Aa ?_ fun o8=>trivial)) (fun h4=>Aa rfl fun _=>Aa rfl fun _=>Aa rfl fun _=>Aa rfl fun _=>Aa ?_ fun o9=>trivial)) (fun h2=>lfY ?_)
 all_goals
  have hl:=Ad szNode b.nodes
  have hb:szL szNode b.nodes≤szBuilder b:=by simp only[szBuilder];omega
  have hx:∀ i,i<b.nodes.length→szL szNode (b.nodes.drop i)=szNode (b.nodes.getD i default)+1+szL szNode (b.nodes.drop (i+1)):=fun i h=>szL_at szNode h
  try simp only[AH] at *
  try simp only[Cw,Dt,std,Nat.reduceAdd,textOf_at,textOf_end,sameSize,ByteArray.size_append,szNode] at *
  try simp(disch:=omega) only[wrapId',toNat1] at *
  try simp(disch:=omega) only[if_pos,if_neg]
 all_goals first|trivial|omega|grind[wrapId',toNat1,drop_cons,drop_end,good_len,maxLen,textOf_at,textOf_end,sameSize,ByteArray.size_append,szNode])
def ZE:=Y9.a k162_222
def countName (n:ByteArray) (l:List SNode):Int:=countIf (fun x=>decide (x.name=n)) l
def fCountName:Fct:=⟨[.v (.el .builder),.v (.el .str)],[.el .int],fun(x_:SBuilder×ByteArray×Unit)=>x_.1.nodes.length≤1000000000000,fun(x_:SBuilder×ByteArray×Unit)=>(countName x_.2.1 x_.1.nodes,())⟩
abbrev BG (b:SBuilder) (n:ByteArray):LInv:=⟨[⟨.s,5,true,.el .int⟩,⟨.s,6,true,.el .int⟩,⟨.b,2,false,.el .builder⟩],fun(z_:Int×Int×SBuilder×Unit) (x_:Int×Int×SBuilder×Unit)=>(0≤x_.2.1∧x_.2.1≤b.nodes.length∧0≤x_.1∧x_.1≤x_.2.1∧x_.1+countIf (fun x=>decide (x.name=n)) (b.nodes.drop x_.2.1.toNat)=countName n b.nodes)∧x_.2.2.1=z_.2.2.1,fun(x_:Int×Int×SBuilder×Unit)=>b.nodes.length-x_.2.1.toNat⟩
theorem k283_223:fCountName.ok Tryz.prog 283:=Fct.p (KP [1,2,4,5,6] [11,21]) (fun⟨b,n,_⟩=>lv [(3,BG b n)]) ZE.2 Tryz.func283 (by
 rintro⟨(b:SBuilder),(n:ByteArray),_⟩ hp
 refine ho (lpx (BG b n) ((0:Int),((0:Int),(b,()))) fun(y1:Int×Int×SBuilder×PUnit) bk1=>.br (decide (y1.2.1<(↑y1.2.2.1.nodes.length:Int))) (.ob (inB y1.2.1 y1.2.2.1.nodes.length)<|.br ((y1.2.2.1.nodes.getD y1.2.1.toNat default).name.toList==n.toList) (.ob (Value.string n=Value.string n)<|.ob (Value.int IntKind.i64 0=Value.int IntKind.i64 (0:Int))<|.ob (bk1 (w1 y1.1,(w1 y1.2.1,(y1.2.2.1,()))))<|.ok) (.ob (Value.string n=Value.string n)<|.ob (Value.int IntKind.i64 0=Value.int IntKind.i64 (0:Int))<|.ob (bk1 (y1.1,(w1 y1.2.1,(y1.2.2.1,()))))<|.ok)) (.lf fCountName (y1.1,()))) ?_
 refine AG ?_ fun(y1:Int×Int×SBuilder×PUnit) i1=>Ab (fun h2=>Aa ?_ fun o3=>Ab (fun h4=>Aa rfl fun _=>Aa rfl fun _=>Aa ?_ fun o5=>trivial) (fun h4=>Aa rfl fun _=>Aa rfl fun _=>Aa ?_ fun o6=>trivial)) (fun h2=>lfY ?_)
 all_goals
  try simp only[AH] at *
  try simp only[BG,fCountName,std,Nat.reduceAdd,countName,countIf,countIf_le] at *
  try simp(disch:=omega) only[wrapId',toNat1] at *
  try simp(disch:=omega) only[if_pos,if_neg]
 all_goals first|trivial|omega|grind[wrapId',toNat1,drop_cons,drop_end,good_len,maxLen,countName,countIf,countIf_le])
def YO:=ZE.a k283_223
abbrev BA (b:SBuilder) (n:ByteArray):LInv:=⟨[⟨.s,5,true,.el .int⟩,⟨.s,11,true,.el .int⟩],fun _ (x_:Int×Int×Unit)=>0≤x_.2.1∧x_.2.1≤b.nodes.length∧0≤x_.1∧x_.1≤x_.2.1∧x_.1+countIf (fun x=>decide (x.name=n)) (b.nodes.drop x_.2.1.toNat)=countName n b.nodes,fun(x_:Int×Int×Unit)=>b.nodes.length-x_.2.1.toNat⟩
theorem k317_224:fCountName.ok Tryz.prog 317:=Fct.p (KP [1,2,4,5,7,9,10,11] [12,18]) (fun⟨b,n,_⟩=>lv [(3,BA b n)]) YO.2 Tryz.func317 (by
 rintro⟨(b:SBuilder),(n:ByteArray),_⟩ hp
 refine ho (lpx (BA b n) ((0:Int),((0:Int),())) fun(y1:Int×Int×PUnit) bk1=>.br (decide (y1.2.1<(↑b.nodes.length:Int))) (.ob (inB y1.2.1 b.nodes.length)<|.br ((b.nodes.getD y1.2.1.toNat default).name.toList==n.toList) (.ob (Value.string n=Value.string n)<|.ob (Value.int IntKind.i64 0=Value.int IntKind.i64 (0:Int))<|.ob (b.nodes=b.nodes)<|.ob (Value.int IntKind.i64 (↑b.nodes.length:Int)=Value.int IntKind.i64 (↑b.nodes.length:Int))<|.ob (bk1 (w1 y1.1,(w1 y1.2.1,())))<|.ok) (.ob (Value.string n=Value.string n)<|.ob (Value.int IntKind.i64 0=Value.int IntKind.i64 (0:Int))<|.ob (b.nodes=b.nodes)<|.ob (Value.int IntKind.i64 (↑b.nodes.length:Int)=Value.int IntKind.i64 (↑b.nodes.length:Int))<|.ob (bk1 (y1.1,(w1 y1.2.1,())))<|.ok)) (.lf fCountName (y1.1,()))) ?_
 refine AG ?_ fun(y1:Int×Int×PUnit) i1=>Ab (fun h2=>Aa ?_ fun o3=>Ab (fun h4=>Aa rfl fun _=>Aa rfl fun _=>Aa rfl fun _=>Aa rfl fun _=>Aa ?_ fun o5=>trivial) (fun h4=>Aa rfl fun _=>Aa rfl fun _=>Aa rfl fun _=>Aa rfl fun _=>Aa ?_ fun o6=>trivial)) (fun h2=>lfY ?_)
 all_goals
  try simp only[AH] at *
  try simp only[BA,fCountName,std,Nat.reduceAdd,countName,countIf,countIf_le] at *
  try simp(disch:=omega) only[wrapId',toNat1] at *
  try simp(disch:=omega) only[if_pos,if_neg]
 all_goals first|trivial|omega|grind[wrapId',toNat1,drop_cons,drop_end,good_len,maxLen,countName,countIf,countIf_le])
def Aag:=YO.a k317_224
def colR (n:ByteArray) (rs:List SRule) (z:Int):Nat→Int
 | 0=>z
 | m+1=>if(rs.getD m default).name=n then(rs.getD m default).color else colR n rs z m
def colS (n:ByteArray) (l:List SSheet):Nat→Int
 | 0=>0
 | m+1=>colR n (l.getD m default).rules (colS n l m) (l.getD m default).rules.length
def colorOf (l:List SSheet) (n:ByteArray):Int:=colS n l l.length
theorem colR_at {n:ByteArray} {rs:List SRule} {z k:Int} (h:0≤k):colR n rs z (k+1).toNat=if(rs.getD k.toNat default).name=n then(rs.getD k.toNat default).color else colR n rs z k.toNat:=by
 rw[show(k+1).toNat=k.toNat+1 by omega];rfl
theorem colS_at {n:ByteArray} {l:List SSheet} {k:Int} (h:0≤k):colS n l (k+1).toNat=colR n (l.getD k.toNat default).rules (colS n l k.toNat) (l.getD k.toNat default).rules.length:=by
 rw[show(k+1).toNat=k.toNat+1 by omega];rfl
theorem colR_end {n:ByteArray} {rs:List SRule} {z k:Int} (h:k<0):colR n rs z (k+1).toNat=z:=by
 rw[show(k+1).toNat=0 by omega];rfl
theorem colS_end {n:ByteArray} {l:List SSheet} {k:Int} (h:k<0):colS n l (k+1).toNat=0:=by
 rw[show(k+1).toNat=0 by omega];rfl
theorem colS_all {n:ByteArray} {l:List SSheet}:colS n l ((l.length:Int)-1+1).toNat=colorOf l n:=by
 rw[show((l.length:Int)-1+1).toNat=l.length by omega];rfl
theorem colR_all {n:ByteArray} {rs:List SRule} {z:Int}:colR n rs z ((rs.length:Int)-1+1).toNat=colR n rs z rs.length:=by
 rw[show((rs.length:Int)-1+1).toNat=rs.length by omega]
def fColorOf:Fct:=⟨[.v (.sl .sheet),.v (.el .str)],[.el .int],fun(x_:(List SSheet)×ByteArray×Unit)=>szL Cq x_.1≤1000000000000,fun(x_:(List SSheet)×ByteArray×Unit)=>(colorOf x_.1 x_.2.1,())⟩
abbrev B7 (l:(List SSheet)) (n:ByteArray):LInv:=⟨[⟨.s,5,true,.el .int⟩],fun _ (x_:Int×Unit)=>-1≤x_.1∧x_.1<l.length∧colS n l (x_.1+1).toNat=colorOf l n,fun(x_:Int×Unit)=>(x_.1+1).toNat⟩
abbrev B3 (l:(List SSheet)) (n:ByteArray):LInv:=⟨[⟨.s,6,true,.el .int⟩,⟨.s,5,true,.el .int⟩],fun(z_:Int×Int×Unit) (x_:Int×Int×Unit)=>x_.2.1=z_.2.1∧0≤x_.2.1∧x_.2.1<l.length∧-1≤x_.1∧x_.1<(l.getD x_.2.1.toNat default).rules.length∧colR n (l.getD x_.2.1.toNat default).rules (colS n l x_.2.1.toNat) (x_.1+1).toNat=colorOf l n,fun(x_:Int×Int×Unit)=>(x_.1+1).toNat⟩
theorem k284_225:fColorOf.ok Tryz.prog 284:=Fct.p (KP [0,1,4,5,6] [11,22,35]) (fun⟨l,n,_⟩=>fun|2=>some (B7 l n)|5=>some (B3 l n)|_=>none) Aag.2 Tryz.func284 (by
 rintro⟨(l:List SSheet),(n:ByteArray),_⟩ hp
 refine ho (lpx (B7 l n) (wr ((↑l.length:Int)-(1:Int)),()) fun(y1:Int×PUnit) bk1=>.br (decide (y1.1≥0)) (.ob (inB y1.1 l.length)<|lpx (B3 l n) (wr ((↑(l.getD y1.1.toNat default).rules.length:Int)-(1:Int)),(y1.1,())) fun(y4:Int×Int×PUnit) bk4=>.br (decide (y4.1≥0)) (.ob (inB y4.2.1 l.length)<|.ob (0≤y4.1∧y4.1<(↑(l.getD y4.2.1.toNat default).rules.length:Int))<|.br (((l.getD y4.2.1.toNat default).rules.getD y4.1.toNat default).name.toList==n.toList) (.ob (inB y4.2.1 l.length)<|.ob (0≤y4.1∧y4.1<(↑(l.getD y4.2.1.toNat default).rules.length:Int))<|.lf fColorOf (((l.getD y4.2.1.toNat default).rules.getD y4.1.toNat default).color,())) (.ob (l=l)<|.ob (Value.string n=Value.string n)<|.ob (bk4 (wr (y4.1-(1:Int)),(y4.2.1,())))<|.ok)) (.ob (l=l)<|.ob (Value.string n=Value.string n)<|.ob (bk1 (wr (y4.2.1-(1:Int)),()))<|.ok)) (.lf fColorOf ((0:Int),()))) ?_
 refine AG ?_ fun(y1:Int×PUnit) i1=>Ab (fun h2=>Aa ?_ fun o3=>AG ?_ fun(y4:Int×Int×PUnit) i4=>Ab (fun h5=>Aa ?_ fun o6=>Aa ?_ fun o7=>Ab (fun h8=>Aa ?_ fun o9=>Aa ?_ fun o10=>lfY ?_) (fun h8=>Aa rfl fun _=>Aa rfl fun _=>Aa ?_ fun o11=>trivial)) (fun h5=>Aa rfl fun _=>Aa rfl fun _=>Aa ?_ fun o12=>trivial)) (fun h2=>lfY ?_)
 all_goals
  have hl:=Ad Cq l
  have hx:∀ i,i<l.length→(l.getD i default).rules.length≤1000000000000:=fun i h=>by have:=Dk Cq (l:=l) h;have h2:=Ad HH (l.getD i default).rules;have h3:szL Cq l≤1000000000000:=hp;simp only[Cq] at this;omega
  try simp only[AH] at *
  try simp only[B7,B3,fColorOf,std,Nat.reduceAdd] at *
 all_goals first|trivial|omega|(rw[An (by omega)];exact⟨by omega,by omega,colS_all⟩)|(obtain⟨a1,a2,a3⟩:=i1)
 all_goals first|trivial|omega|(have:=hx y1.1.toNat (by omega);rw[An (by omega)];first|exact⟨by omega,by omega,by omega,by omega,by omega,by rw[colR_all,←colS_at (by omega)];exact a3⟩|exact⟨by omega,by omega,by omega,by omega,by rw[colR_all,←colS_at (by omega)];exact a3⟩)|(rw[colS_end (by omega)] at a3;exact a3)|(obtain⟨b0,b1,b2,b3,b4,b5⟩:=i4)
 all_goals first|(have:=hx y4.2.1.toNat (by omega))|skip
 all_goals first|(rw[colR_at (by omega),if_pos (by assumption)] at b5;exact b5)|(rw[colR_at (by omega),if_neg (by assumption)] at b5;rw[An (by omega),show(y4.1-1+1).toNat=y4.1.toNat by omega];exact⟨⟨by omega,by omega,by omega,by omega,by omega,b5⟩,by omega⟩)|(rw[colR_end (by omega)] at b5;rw[An (by omega),show(y4.2.1-1+1).toNat=y4.2.1.toNat by omega];exact⟨⟨by omega,by omega,b5⟩,by omega⟩)|omega|skip)
def Zp:=Aag.a k284_225
abbrev Cb (l:(List SSheet)) (n:ByteArray):LInv:=⟨[⟨.s,5,true,.el .int⟩],fun _ (x_:Int×Unit)=>-1≤x_.1∧x_.1<l.length∧colS n l (x_.1+1).toNat=colorOf l n,fun(x_:Int×Unit)=>(x_.1+1).toNat⟩
abbrev Cc (l:(List SSheet)) (n:ByteArray):LInv:=⟨[⟨.s,6,true,.el .int⟩,⟨.s,5,true,.el .int⟩],fun(z_:Int×Int×Unit) (x_:Int×Int×Unit)=>x_.2.1=z_.2.1∧0≤x_.2.1∧x_.2.1<l.length∧-1≤x_.1∧x_.1<(l.getD x_.2.1.toNat default).rules.length∧colR n (l.getD x_.2.1.toNat default).rules (colS n l x_.2.1.toNat) (x_.1+1).toNat=colorOf l n,fun(x_:Int×Int×Unit)=>(x_.1+1).toNat⟩
theorem k318_226:fColorOf.ok Tryz.prog 318:=Fct.p (KP [0,1,4,5,6] [11,22,35]) (fun⟨l,n,_⟩=>fun|2=>some (Cb l n)|5=>some (Cc l n)|_=>none) Zp.2 Tryz.func318 (by
 rintro⟨(l:List SSheet),(n:ByteArray),_⟩ hp
 refine ho (lpx (Cb l n) (wr ((↑l.length:Int)-(1:Int)),()) fun(y1:Int×PUnit) bk1=>.br (decide (y1.1≥0)) (.ob (inB y1.1 l.length)<|lpx (Cc l n) (wr ((↑(l.getD y1.1.toNat default).rules.length:Int)-(1:Int)),(y1.1,())) fun(y4:Int×Int×PUnit) bk4=>.br (decide (y4.1≥0)) (.ob (inB y4.2.1 l.length)<|.ob (0≤y4.1∧y4.1<(↑(l.getD y4.2.1.toNat default).rules.length:Int))<|.br (((l.getD y4.2.1.toNat default).rules.getD y4.1.toNat default).name.toList==n.toList) (.ob (inB y4.2.1 l.length)<|.ob (0≤y4.1∧y4.1<(↑(l.getD y4.2.1.toNat default).rules.length:Int))<|.lf fColorOf (((l.getD y4.2.1.toNat default).rules.getD y4.1.toNat default).color,())) (.ob (l=l)<|.ob (Value.string n=Value.string n)<|.ob (bk4 (wr (y4.1-(1:Int)),(y4.2.1,())))<|.ok)) (.ob (l=l)<|.ob (Value.string n=Value.string n)<|.ob (bk1 (wr (y4.2.1-(1:Int)),()))<|.ok)) (.lf fColorOf ((0:Int),()))) ?_
 refine AG ?_ fun(y1:Int×PUnit) i1=>Ab (fun h2=>Aa ?_ fun o3=>AG ?_ fun(y4:Int×Int×PUnit) i4=>Ab (fun h5=>Aa ?_ fun o6=>Aa ?_ fun o7=>Ab (fun h8=>Aa ?_ fun o9=>Aa ?_ fun o10=>lfY ?_) (fun h8=>Aa rfl fun _=>Aa rfl fun _=>Aa ?_ fun o11=>trivial)) (fun h5=>Aa rfl fun _=>Aa rfl fun _=>Aa ?_ fun o12=>trivial)) (fun h2=>lfY ?_)
 all_goals
  have hl:=Ad Cq l
  have hx:∀ i,i<l.length→(l.getD i default).rules.length≤1000000000000:=fun i h=>by have:=Dk Cq (l:=l) h;have h2:=Ad HH (l.getD i default).rules;have h3:szL Cq l≤1000000000000:=hp;simp only[Cq] at this;omega
  try simp only[AH] at *
  try simp only[Cb,Cc,fColorOf,std,Nat.reduceAdd] at *
 all_goals first|trivial|omega|(rw[An (by omega)];exact⟨by omega,by omega,colS_all⟩)|(obtain⟨a1,a2,a3⟩:=i1)
 all_goals first|trivial|omega|(have:=hx y1.1.toNat (by omega);rw[An (by omega)];first|exact⟨by omega,by omega,by omega,by omega,by omega,by rw[colR_all,←colS_at (by omega)];exact a3⟩|exact⟨by omega,by omega,by omega,by omega,by rw[colR_all,←colS_at (by omega)];exact a3⟩)|(rw[colS_end (by omega)] at a3;exact a3)|(obtain⟨b0,b1,b2,b3,b4,b5⟩:=i4)
 all_goals first|(have:=hx y4.2.1.toNat (by omega))|skip
 all_goals first|(rw[colR_at (by omega),if_pos (by assumption)] at b5;exact b5)|(rw[colR_at (by omega),if_neg (by assumption)] at b5;rw[An (by omega),show(y4.1-1+1).toNat=y4.1.toNat by omega];exact⟨⟨by omega,by omega,by omega,by omega,by omega,b5⟩,by omega⟩)|(rw[colR_end (by omega)] at b5;rw[An (by omega),show(y4.2.1-1+1).toNat=y4.2.1.toNat by omega];exact⟨⟨by omega,by omega,b5⟩,by omega⟩)|omega|skip)
def AaF:=Zp.a k318_226
def words8:List ByteArray:=[⟨#[]⟩,⟨#[119,114,105,116,101,32]⟩,⟨#[97,100,100,32]⟩,⟨#[99,111,117,110,116,32]⟩,⟨#[108,111,111,107,32]⟩,⟨#[115,97,121,32]⟩]
def GF:Fct:=⟨[],[.sl .str],fun(x_:Unit)=>True,fun(x_:Unit)=>(words8,())⟩
end Go.Proofs.YtgjngkplonejjaaGreatDoor.fnExactArrivePart
