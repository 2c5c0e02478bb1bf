/-
  Contracts of functions that the law of FnExactTransfer reaches, part 1.
-/
import Derived.Test.YtjgmhdnhlpckeaaGreatDoorVLe
import Derived.WalkKit
import Derived.BigGuard
import Derived.Deep.QuietTactic
import Derived.BigQuiet
import Derived.Lib.ConvBytes
import Derived.Sort.WalkC
import Derived.Handy
import Derived.Lib.Overlaps
import Derived.Lib.AppendZerosOnto
import Derived.Laws.Externs
import Derived.Shelf.RegionOpenPlain
import Derived.Defers
import Derived.Laws.Pointers
import Derived.Laws.LoneSync
import Derived.RegionCalls
import Derived.ChangeAlike
import Derived.LoopN
import Derived.Lib.SliceRun
import Derived.Shelf.Strconv.AtoiAll
import Derived.Shelf.Small.Strs
import Derived.Test.YtjgmhdnhlpckeaaGreatDoorRows
import Derived.Test.YtjgmhdnhlpckeaaGreatDoorCards
import Derived.LaidMore
import Derived.Lay
import Derived.SevenTiedAt
import Derived.WalkKit
import Derived.ProofKit
import Derived.OpenShut
namespace Go.Proofs.YtjgmhdnhlpckeaaGreatDoor.fnExactTransfer
open Go.Proofs.YtjgmhdnhlpckeaaGreatDoor
open Go.D Go.Proofs.Tryz
set_option maxRecDepth 100000
set_option maxHeartbeats 2000000
set_option linter.unusedVariables false
set_option linter.unusedSimpArgs false
def tyOf:TypeId->Option Ty
 | 3=>some .int
 | 4=>some .bool
 | 5=>some .u8
 | 9=>some .str
 | 25=>some .cache
 | 28=>some .net
 | 30=>some .addr
 | 33=>some .bi
 | 35=>some .tokenizer
 | 40=>some .ba
 | 45=>some .page
 | 49=>some .loader
 | 54=>some .cache
 | 57=>some .net
 | 58=>some .addr
 | 59=>some .bi
 | 60=>some .tokenizer
 | 64=>some .ba
 | 69=>some .page
 | 73=>some .loader
 | 98=>some .bc
 | 100=>some .conn
 | 104=>some .request
 | 141=>some .bc
 | 143=>some .conn
 | 146=>some .guess
 | 163=>some .guess
 | 208=>some .sent
 | 214=>some .server
 | 218=>some .sent
 | 222=>some .token
 | 227=>some .slot
 | 230=>some .module
 | 239=>some .server
 | 245=>some .token
 | 250=>some .slot
 | 253=>some .module
 | 270=>some .entry
 | 300=>some .file
 | 304=>some .entry
 | 308=>some .node
 | 311=>some .node
 | 345=>some .attr
 | 355=>some .file
 | 357=>some .attr
 | 373=>some .line
 | 413=>some .sheet
 | 438=>some .rule
 | _=>none
abbrev Eo:={ E:D.Env // EOk Tryz.prog E }
def Eo.a (e:Eo) (S:Fct) {f:Nat} (k:S.ok Tryz.prog f):Eo:=⟨e.1.add f S,e.2.add k⟩
def Eo.M (e:Eo) (S:MS) {f:Nat} (k:S.ok Tryz.prog f):Eo:=⟨e.1.addM f S,e.2.addM k⟩
def Eo.G (e:Eo) (S:GS) {f:Nat} (k:S.ok Tryz.prog f):Eo:=⟨e.1.addG f S,e.2.addG k⟩
def E0:Eo:=⟨D.Env.empty tyOf,EOk.empty _ _⟩
def E1:=E0.a FJ<|Fct.p (KP [0,2,3] [5,7]) (fun⟨k,_⟩=>lv [(4,AhR k)]) E0.2 func142 (by
 rintro⟨(k:Int),_⟩ hp;refine ho (.br (decide (k<=0)) (.lf FJ ((⟨#[109,48]⟩:ByteArray),())) (lpx (AhR k) (k,((⟨#[]⟩:ByteArray),())) fun(y2:Int×ByteArray×PUnit) bk2=>.br (decide (y2.1>0)) (.ob ((10:Int)≠(0:Int))<|.ob (True)<|.ob (sameSize (List.foldl (fun r n=>r.push (UInt8.ofNat n.toNat)) ByteArray.empty [IntKind.u8.wrap (wr ((48:Int)+y2.1.tmod (10:Int)))]) y2.2.1)<|.ob ((10:Int)≠(0:Int))<|.ob (Value.string (⟨#[]⟩:ByteArray)=Value.string (⟨#[]⟩:ByteArray))<|.ob (bk2 (wr (y2.1.tdiv (10:Int)),(List.foldl (fun r n=>r.push (UInt8.ofNat n.toNat)) ByteArray.empty [IntKind.u8.wrap (wr ((48:Int)+y2.1.tmod (10:Int)))]++y2.2.1,())))<|.ok) (.ob (sameSize (⟨#[109]⟩:ByteArray) y2.2.1)<|.lf FJ ((⟨#[109]⟩:ByteArray)++y2.2.1,())))) ?_;refine Ab (fun h1=>lfY ?_) (fun h1=>Aw ?_ fun(y2:Int×ByteArray×PUnit) i2=>Ab (fun h3=>Aa ?_ fun o4=>Aa trivial fun _=>Aa ?_ fun o5=>Aa ?_ fun o6=>Aa rfl fun _=>Aa ?_ fun o7=>trivial) (fun h3=>Aa ?_ fun o8=>lfY ?_));all_goals try simp only[AmM] at *
 all_goals
  try rw[Ae8 (by first|exact i2.1|(have:=i2.1;omega))]
  try simp only[AA] at *
  try simp only[AhR,FJ,std,Nat.reduceAdd,szF,toF,eqF,mkF,heF] at *
 ·simp[JH,h1]
 ·exact⟨by omega,by omega,64,rfl,Qf5 (show k.toNat<10 ^ 19 by omega) (Nat.pow_le_pow_right (by decide) (by decide)),rfl⟩
 ·decide
 ·obtain⟨i3,i4,f,i5,i6,i7⟩:=i2;show(1:Nat)+_<=_;omega
 ·decide
 ·obtain⟨i3,i4,f,i5,i6,i7⟩:=i2;have hd:IntKind.i64.wrap (y2.1.tdiv 10)=y2.1 / 10:=(AgH i3).resolve_right (by omega);rw[hd];cases f with
  | zero=>simp at i6;omega
  | succ f=>
   rw[VM (k:=y2.1.toNat) (by omega)] at i7;have i8:y2.1.toNat<10*10 ^ f:=by rw[Nat.pow_succ] at i6;omega
   generalize 10 ^ f=p at i8;refine⟨⟨by omega,by omega,f,by rw[sz1];omega,by omega,?_⟩,by omega⟩;rw[show(y2.1 / 10).toNat=y2.1.toNat / 10 by omega];exact i7
 ·obtain⟨i3,i4,f,i5,i6,i7⟩:=i2;show(1:Nat)+_<=_;omega
 ·obtain⟨i3,i4,f,i5,i6,i7⟩:=i2;have h0:y2.1.toNat=0:=by omega
  rw[h0,Abp] at i7;rw[JH,Qa3 (by omega),i7])
def E2:=E1.a FP<|Fct.p (KP [0,1,4,5] [11,15,26]) (fun⟨l,n,_⟩=>lv [(5,Afk .str Ac l n)]) E1.2 func16 (by
 rintro⟨(l:List ByteArray),(n:Int),_⟩ hp;refine ho (.br (decide (wr (n-(l.length:Int))<0)) (.lf FP ((-1:Int),())) (lpx (Afk .str Ac l n) (wr (n-(l.length:Int)),((0:Int),())) fun(y2:Int×Int×PUnit) bk2=>.br (decide (y2.2.1<(l.length:Int))) (.ob (inB y2.2.1 l.length)<|.br (decide (wr (y2.1-(↑(l.getD y2.2.1.toNat default).size:Int))<0)) (.lf FP ((-1:Int),())) (.ob (l=l)<|.ob (bk2 (wr (y2.1-(↑(l.getD y2.2.1.toNat default).size:Int)),(w1 y2.2.1,())))<|.ok)) (.lf FP (y2.1,())))) ?_;refine Ab (fun h1=>lfY ?_) (fun h1=>Aw ?_ fun(y2:Int×Int×PUnit) i2=>Ab (fun h3=>Aa ?_ fun o4=>Ab (fun h5=>lfY ?_) (fun h5=>Aa rfl fun _=>Aa ?_ fun o6=>trivial)) (fun h3=>lfY ?_));all_goals
  try simp only[AA] at *
  try simp only[Afk,FP,std,Nat.reduceAdd,szF,toF,eqF,mkF,heF] at *
 all_goals have hgl:=good_len hp.1
 all_goals simp only[maxLen] at hgl
 ·rw[Ah (by omega)] at h1;rw[FN (by simp only[szL];omega)]
 ·rw[Ah (by omega)] at h1 ⊢;exact⟨by omega,by omega,h1,by simp⟩
 all_goals
  have hg:y2.2.1.toNat<l.length->(l.getD y2.2.1.toNat default).size<=9223372036854775807:=fun h=>(Pu hp.1 h) _ (List.Mem.head _)
  have hs:=Gg Ac l (y2.2.1.toNat+1);have hs2:y2.2.1.toNat<l.length->((l.take (y2.2.1.toNat+1)).map Ac).sum=((l.take y2.2.1.toNat).map Ac).sum+(l.getD y2.2.1.toNat default).size:=fun h=>Ik Ac h
 ·omega
 ·have hlt:y2.2.1.toNat<l.length:=by omega
  have a1:=hg hlt;have a2:=hs2 hlt;rw[Ah (by omega)] at h5;rw[FN (by simp only[szL];omega)]
 ·have hlt:y2.2.1.toNat<l.length:=by omega
  have a1:=hg hlt;have a2:=hs2 hlt;rw[Ah (n:=y2.1-_) (by omega)] at h5 ⊢;rw[Ah (by omega),toNat1 (by omega),a2];exact⟨⟨by omega,by omega,by omega,by omega⟩,by omega⟩
 ·have e:l.take y2.2.1.toNat=l:=Qb3 (by omega);rw[e] at i2;have hz:((szL Ac l:Nat):Int)=l.length+(l.map Ac).sum:=by simp only[szL];omega
  rw[GC (by omega)];show y2.1=n-((szL Ac l:Nat):Int);omega)
def E3:=E2.a IQ<|Fct.p (KP [0,2,3,4] [11]) (fun⟨l,_⟩=>lv [(3,Zk .str l)]) E2.2 func26 (by
 rintro⟨(l:List ByteArray),_⟩ hp;refine ho (.ob ((l.length:Int)=(l.length:Int)/\(0:Int)<=(l.length:Int)/\(16:Int)*(l.length:Int)<=140737488355328/\(l.length:Int)<=140737488355328)<|lpx (Zk .str l) ((0:Int),(List.replicate (l.length:Int).toNat (⟨#[]⟩:ByteArray),())) fun(y2:Int×List ByteArray×PUnit) bk2=>.br (decide (y2.1<(l.length:Int))) (.ob (inB y2.1 l.length)<|.ob (inB y2.1 y2.2.1.length)<|.ob (y2.1.toNat<y2.2.1.length)<|.lt (List ByteArray) (y2.2.1.modify y2.1.toNat fun z=>l.getD y2.1.toNat default) fun z2=>.ob (l=l)<|.ob (bk2 (w1 y2.1,(z2,())))<|.ok) (.lf IQ (y2.2.1,()))) ?_;refine Aa ?_ fun o1=>Aw ?_ fun(y2:Int×List ByteArray×PUnit) i2=>Ab (fun h3=>Aa ?_ fun o4=>Aa ?_ fun o5=>Aa ?_ fun o6=>Dh (Aa rfl fun _=>Aa ?_ fun o7=>trivial)) (fun h3=>lfY ?_)
 all_goals
  try simp only[AA] at *
  try simp only[Zk,IQ,std,Nat.reduceAdd,szF,toF,eqF,mkF,heF] at *
  try have hsz:l.length<=1048576:=by first|exact hp|(have:=Ad Ac l;exact Qe7 this hp)
 all_goals
  clear hp;try rw[i2.2.2]
 all_goals first|omega|(refine⟨by omega,by omega,?_⟩;simp;done)|(refine⟨by omega,by omega,?_⟩;simp;exact .inr rfl)|(simp;omega)|skip
 ·rw[Ah (by omega),toNat1 (by omega)];refine⟨⟨by omega,by omega,?_⟩,by omega⟩;rw[show l.length-y2.1.toNat=(l.length-(y2.1.toNat+1))+1 from by omega,List.replicate_succ,GP (by simp;omega),take_succ (by omega)];simp
 ·have e:l.take y2.1.toNat=l:=Qb3 (by omega);rw[e];simp;omega)
def E4:=E3.a FI<|Fct.p (KP [0,1,4,5] [10,14,25]) (fun⟨l,m,_⟩=>lv [(4,Zh .str l m)]) E3.2 func42 (by
 rintro⟨(l:List ByteArray),(m:List ByteArray),_⟩ hp;refine ho (.br ((l.length:Int) != (m.length:Int)) (.lf FI (false,())) (lpx (Zh .str l m) ((0:Int),()) fun(y2:Int×PUnit) bk2=>.br (decide (y2.1<(l.length:Int))) (.ob (inB y2.1 l.length)<|.ob (inB y2.1 m.length)<|.br (!(l.getD y2.1.toNat default).toList==(m.getD y2.1.toNat default).toList) (.lf FI (false,())) (.ob (l=l)<|.ob (m=m)<|.ob (bk2 (w1 y2.1,()))<|.ok)) (.lf FI (true,())))) ?_;refine Ab (fun h1=>lfY ?_) (fun h1=>Aw ?_ fun(y2:Int×PUnit) i2=>Ab (fun h3=>Aa ?_ fun o4=>Aa ?_ fun o5=>Ab (fun h6=>lfY ?_) (fun h6=>Aa rfl fun _=>Aa rfl fun _=>Aa ?_ fun o7=>trivial)) (fun h3=>lfY ?_));all_goals
  try simp only[AA] at *
  try simp only[Zh,FI,std,Nat.reduceAdd,szF,toF,eqF,mkF,heF] at *
 all_goals have hl:=Ad Ac l
 ·rw[Qg2];rintro rfl;omega
 ·exact⟨by omega,by omega,by simp⟩
 ·omega
 ·omega
 ·rw[Qg2];rintro rfl;first|exact absurd rfl h5|exact absurd rfl h6
 ·have hw:IntKind.i64.wrap (y2.1+1)=y2.1+1:=Ah (by omega);rw[hw,toNat1 (by omega)];refine⟨⟨by omega,by omega,?_⟩,by omega⟩;rw[take_succ (by omega),take_succ (by omega),i2.2.2];first|rw[h5]|rw[h6]
 ·have e:l.take y2.1.toNat=l:=Qb3 (by omega);have e2:m.take y2.1.toNat=m:=Qb3 (by omega);rw[Qf2];rw[<-e,<-e2,i2.2.2])
def E5:=E4.a Nb<|Fct.o (KP [0,1,4] [10]) E4.2 func182 (by
 rintro⟨(l:List Int),(n:Int),_⟩ hp;refine ho (.br (decide (wr (n-(↑(List.length l):Int))<0)) (.lf Nb ((-1:Int),())) (.lf Nb (wr (n-(↑(List.length l):Int)),()))) ?_;refine Ab (fun h1=>lfY ?_) (fun h1=>lfY ?_);all_goals
  try simp only[AA] at *
  try simp only[Nb,std,Nat.reduceAdd,szF,toF,eqF,mkF,heF,Sh.good,Sh.fc,enc,Qd1,Qe3,false_implies,implies_true,DC,maxLen] at *
 all_goals grind[wrapId',lessen])
def E6:=E5.a RH<|Fct.p (KP [0,2,3,4] [11]) (fun⟨l,_⟩=>lv [(3,Zk .int l)]) E5.2 func197 (by
 rintro⟨(l:List Int),_⟩ hp;refine ho (.ob ((l.length:Int)=(l.length:Int)/\(0:Int)<=(l.length:Int)/\(8:Int)*(l.length:Int)<=140737488355328/\(l.length:Int)<=140737488355328)<|lpx (Zk .int l) ((0:Int),(List.replicate (l.length:Int).toNat (0:Int),())) fun(y2:Int×List Int×PUnit) bk2=>.br (decide (y2.1<(l.length:Int))) (.ob (inB y2.1 l.length)<|.ob (inB y2.1 y2.2.1.length)<|.ob (y2.1.toNat<y2.2.1.length)<|.lt (List Int) (y2.2.1.modify y2.1.toNat fun z=>l.getD y2.1.toNat default) fun z2=>.ob (l=l)<|.ob (bk2 (w1 y2.1,(z2,())))<|.ok) (.lf RH (y2.2.1,()))) ?_;refine Aa ?_ fun o1=>Aw ?_ fun(y2:Int×List Int×PUnit) i2=>Ab (fun h3=>Aa ?_ fun o4=>Aa ?_ fun o5=>Aa ?_ fun o6=>Dh (Aa rfl fun _=>Aa ?_ fun o7=>trivial)) (fun h3=>lfY ?_)
 all_goals
  try simp only[AA] at *
  try simp only[Zk,RH,std,Nat.reduceAdd,szF,toF,eqF,mkF,heF] at *
  try have hsz:l.length<=1048576:=by first|exact hp|(have:=Ad Ac l;exact Qe7 this hp)
 all_goals
  clear hp;try rw[i2.2.2]
 all_goals first|omega|(refine⟨by omega,by omega,?_⟩;simp;done)|(refine⟨by omega,by omega,?_⟩;simp;exact .inr rfl)|(simp;omega)|skip
 ·rw[Ah (by omega),toNat1 (by omega)];refine⟨⟨by omega,by omega,?_⟩,by omega⟩;rw[show l.length-y2.1.toNat=(l.length-(y2.1.toNat+1))+1 from by omega,List.replicate_succ,GP (by simp;omega),take_succ (by omega)];simp
 ·have e:l.take y2.1.toNat=l:=Qb3 (by omega);rw[e];simp;omega)
def E7:=E6.a K9<|Fct.p (KP [0,1,4,5] [10,14,25]) (fun⟨l,m,_⟩=>lv [(4,Zh .int l m)]) E6.2 func227 (by
 rintro⟨(l:List Int),(m:List Int),_⟩ hp;refine ho (.br ((l.length:Int) != (m.length:Int)) (.lf K9 (false,())) (lpx (Zh .int l m) ((0:Int),()) fun(y2:Int×PUnit) bk2=>.br (decide (y2.1<(l.length:Int))) (.ob (inB y2.1 l.length)<|.ob (inB y2.1 m.length)<|.br (l.getD y2.1.toNat default != m.getD y2.1.toNat default) (.lf K9 (false,())) (.ob (l=l)<|.ob (m=m)<|.ob (bk2 (w1 y2.1,()))<|.ok)) (.lf K9 (true,())))) ?_;refine Ab (fun h1=>lfY ?_) (fun h1=>Aw ?_ fun(y2:Int×PUnit) i2=>Ab (fun h3=>Aa ?_ fun o4=>Aa ?_ fun o5=>Ab (fun h6=>lfY ?_) (fun h6=>Aa rfl fun _=>Aa rfl fun _=>Aa ?_ fun o7=>trivial)) (fun h3=>lfY ?_));all_goals
  try simp only[AA] at *
  try simp only[Zh,K9,std,Nat.reduceAdd,szF,toF,eqF,mkF,heF] at *
 ·rw[Qg2];rintro rfl;omega
 ·exact⟨by omega,by omega,by simp⟩
 ·omega
 ·omega
 ·rw[Qg2];rintro rfl;first|exact absurd rfl h5|exact absurd rfl h6
 ·have hw:IntKind.i64.wrap (y2.1+1)=y2.1+1:=Ah (by omega);rw[hw,toNat1 (by omega)];refine⟨⟨by omega,by omega,?_⟩,by omega⟩;rw[take_succ (by omega),take_succ (by omega),i2.2.2];first|rw[h5]|rw[h6]
 ·have e:l.take y2.1.toNat=l:=Qb3 (by omega);have e2:m.take y2.1.toNat=m:=Qb3 (by omega);rw[Qf2];rw[<-e,<-e2,i2.2.2])
def E8:=E7.M Qd<|mkS (KP [0,1,4,5] [9]) true KO E7.2 func47 (fun(l:List ByteArray) (k:Int)=>by kernel_rfl)
def E9:=E8.a PE<|heS (KP [0,1,4,5] [9,18]) KO E8.2 func52 (fun(l:List ByteArray) (k:Int)=>by kernel_rfl)
def E10:=E9.M YV<|mkS (KP [0,1,4,5] [9]) true Xb E9.2 func235 (fun(l:List Int) (k:Int)=>by kernel_rfl)
def E11:=E10.a Xg<|heS (KP [0,1,4,5] [9,17]) Xb E10.2 func240 (fun(l:List Int) (k:Int)=>by kernel_rfl)
def E12:=E11.a Afq<|szT (KP [1,2,4] [11,18]) AdO E11.2 func72 (fun(x:SAddr) (k:Int)=>by kernel_rfl) (fun _=>rfl) AeE
def E13:=E12.a Adm<|toT [1,2,3] Adz Ahg E12.2 func90 (fun(x:SAddr)=>by kernel_rfl) (fun _=>rfl) Afd
def E14:=E13.a AfJ<|eqT (KP [2,3,4] [9,14]) YM E13.2 func123 (fun(x y:SAddr)=>by kernel_rfl) Ae6 Ad7
def E15:=E14.a Aby<|szS (KP [0,1,4,5] [11,15,25]) E14.2 func79 (fun(l:List SAddr) (k:Int)=>by kernel_rfl)
def E16:=E15.a Aa6<|toS (KP [0,2,3,4] [11]) 32 E15.2 func97 (fun(l:List SAddr)=>by kernel_rfl)
def E17:=E16.a AaI<|eqS (KP [0,1,4,5] [10,14,26]) false E16.2 func130 (fun(l r:List SAddr)=>by kernel_rfl)
def E18:=E17.M UW<|mkS (KP [0,1,4,5] [9]) true Qf E17.2 func141 (fun(l:List SAddr) (k:Int)=>by kernel_rfl)
def E19:=E18.a TM<|heS (KP [0,1,4,5] [9,19,29]) Qf E18.2 func151 (fun(l:List SAddr) (k:Int)=>by kernel_rfl)
def E20:=E19.a AcP<|szT (KP [1,2,4] [11,18]) Adv E19.2 func323 (fun(x:SAttr) (k:Int)=>by kernel_rfl) (fun _=>rfl) Adb
def E21:=E20.a Adj<|toT [1,2,3] AfE Ahc E20.2 func325 (fun(x:SAttr)=>by kernel_rfl) (fun _=>rfl) Aee
def E22:=E21.a Adg<|eqT (KP [2,3,4] [9,14]) Wv E21.2 func350 (fun(x y:SAttr)=>by kernel_rfl) AfI AeO
def E23:=E22.a Aal<|szS (KP [0,1,4,5] [11,15,25]) E22.2 func265 (fun(l:List SAttr) (k:Int)=>by kernel_rfl)
def E24:=E23.a ZM<|toS (KP [0,2,3,4] [11]) 32 E23.2 func270 (fun(l:List SAttr)=>by kernel_rfl)
def E25:=E24.a AbL<|eqS (KP [0,1,4,5] [10,14,26]) false E24.2 func299 (fun(l r:List SAttr)=>by kernel_rfl)
def E26:=E25.M Ux<|mkS (KP [0,1,4,5] [9]) true RQ E25.2 func233 (fun(l:List SAttr) (k:Int)=>by kernel_rfl)
def E27:=E26.a UP<|heS (KP [0,1,4,5] [9,19,29]) RQ E26.2 func238 (fun(l:List SAttr) (k:Int)=>by kernel_rfl)
def E28:=E27.a Ab2<|szT (KP [1,2,4] [11,17,24]) WH E27.2 func180 (fun(x:SToken) (k:Int)=>by kernel_rfl) (fun _=>rfl) AbU
def E29:=E28.a Aar<|toT [1,2,3] Xz Af4 E28.2 func195 (fun(x:SToken)=>by kernel_rfl) (fun _=>rfl) Aac
def E30:=E29.a Z7<|eqT (KP [2,3,4] [9,14,20,25]) OK E29.2 func225 (fun(x y:SToken)=>by kernel_rfl) Aa0 Ab1
def E31:=E30.a V1<|szS (KP [0,1,4,5] [11,15,25]) E30.2 func75 (fun(l:List SToken) (k:Int)=>by kernel_rfl)
def E32:=E31.a VE<|toS (KP [0,2,3,4] [11]) 64 E31.2 func93 (fun(l:List SToken)=>by kernel_rfl)
def E33:=E32.a XS<|eqS (KP [0,1,4,5] [10,14,26]) false E32.2 func126 (fun(l r:List SToken)=>by kernel_rfl)
def E34:=E33.M Qi<|mkS (KP [0,1,4,5] [9]) true Nw E33.2 func137 (fun(l:List SToken) (k:Int)=>by kernel_rfl)
def E35:=E34.a QD<|heS (KP [0,1,4,5] [9,18,28,39,47]) Nw E34.2 func147 (fun(l:List SToken) (k:Int)=>by kernel_rfl)
def E36:=E35.a PY<|szT (KP [1,2,4] [11]) I6 E35.2 func74 (fun(x:STokenizer) (k:Int)=>by kernel_rfl) (fun _=>rfl) OJ
def E37:=E36.a OY<|toT [1,2,3] IU Ua E36.2 func92 (fun(x:STokenizer)=>by kernel_rfl) (fun _=>rfl) OC
def E38:=E37.a OX<|eqT (KP [2,3,4] [9]) Fw E37.2 func125 (fun(x y:STokenizer)=>by kernel_rfl) OI Pg
def E39:=E38.a AfC<|szT (KP [1,2,4] [11,18,24]) AeL E38.2 func266 (fun(x:SNode) (k:Int)=>by kernel_rfl) (fun _=>rfl) AeW
def E40:=E39.a Afm<|toT [1,2,3] Aed Ahi E39.2 func271 (fun(x:SNode)=>by kernel_rfl) (fun _=>rfl) Ac6
def E41:=E40.a AeG<|eqT (KP [2,3,4] [9,14,19,25]) X4 E40.2 func300 (fun(x y:SNode)=>by kernel_rfl) AdT Aeq
def E42:=E41.a Abk<|szS (KP [0,1,4,5] [11,15,25]) E41.2 func181 (fun(l:List SNode) (k:Int)=>by kernel_rfl)
def E43:=E42.a AaB<|toS (KP [0,2,3,4] [11]) 64 E42.2 func196 (fun(l:List SNode)=>by kernel_rfl)
def E44:=E43.a Zn<|eqS (KP [0,1,4,5] [10,14,26]) false E43.2 func226 (fun(l r:List SNode)=>by kernel_rfl)
def E45:=E44.M Up<|mkS (KP [0,1,4,5] [9]) true QJ E44.2 func234 (fun(l:List SNode) (k:Int)=>by kernel_rfl)
def E46:=E45.a Vo<|heS (KP [0,1,4,5] [9,19,29,38,49]) QJ E45.2 func239 (fun(l:List SNode) (k:Int)=>by kernel_rfl)
def E47:=E46.a UX<|szT (KP [1,2,4] [10,16]) Ot E46.2 func76 (fun(x:SBuilder) (k:Int)=>by kernel_rfl) (fun _=>rfl) Uo
def E48:=E47.a Tx<|toT [1,2,3] Nf Abm E47.2 func94 (fun(x:SBuilder)=>by kernel_rfl) (fun _=>rfl) Uv
def E49:=E48.a UV<|eqT (KP [2,3,4] [10,16]) HY E48.2 func127 (fun(x y:SBuilder)=>by kernel_rfl) UL U6
def E50:=E49.M Pn<|mvT [1,2,4] [0,1] Jf E49.2 func138 (fun(x:SBuilder) (k:Int)=>by kernel_rfl)
def E51:=E50.a O2<|hvT (KP [1,2,4] [10,16]) Jf E50.2 func148 (fun(x:SBuilder) (k:Int)=>by kernel_rfl)
def E52:=E51.a Yg<|szT (KP [1,2,4] [10,16,22,29]) RY E51.2 func73 (fun(x:SPolicy) (k:Int)=>by kernel_rfl) (fun _=>rfl) Yh
def E53:=E52.a X7<|toT [1,2,3] Rl Afr E52.2 func91 (fun(x:SPolicy)=>by kernel_rfl) (fun _=>rfl) YI
def E54:=E53.a WF<|eqT (KP [2,3,4] [9,15,21,27,32]) Kj E53.2 func124 (fun(x y:SPolicy)=>by kernel_rfl) Xl WS
def E55:=E54.M QW<|mvT [1,2,4] [1,2,3] LL E54.2 func136 (fun(x:SPolicy) (k:Int)=>by kernel_rfl)
def E56:=E55.a QG<|hvT (KP [1,2,4] [10,16,22]) LL E55.2 func146 (fun(x:SPolicy) (k:Int)=>by kernel_rfl)
def E57:=E56.a Rq<|szT (KP [1,2,4] [11,18]) LK E56.2 func185 (fun(x:SResponse) (k:Int)=>by kernel_rfl) (fun _=>rfl) Qt
def E58:=E57.a Qo<|toT [1,2,3] KZ VD E57.2 func200 (fun(x:SResponse)=>by kernel_rfl) (fun _=>rfl) Qq
def E59:=E58.a RT<|eqT (KP [2,3,4] [9,14,19,24,29,34]) GO E58.2 func230 (fun(x y:SResponse)=>by kernel_rfl) RW Ro
def E60:=E59.a Afj<|szT (KP [1,2,4] [11,17]) AeA E59.2 func322 (fun(x:SFile) (k:Int)=>by kernel_rfl) (fun _=>rfl) Afx
def E61:=E60.a AdN<|toT [1,2,3] AdX Ahm E60.2 func324 (fun(x:SFile)=>by kernel_rfl) (fun _=>rfl) Adr
def E62:=E61.a Ac2<|eqT (KP [2,3,4] [9,15]) Ye E61.2 func349 (fun(x y:SFile)=>by kernel_rfl) Ac8 Ad0
def E63:=E62.a Aag<|szS (KP [0,1,4,5] [11,15,25]) E62.2 func263 (fun(l:List SFile) (k:Int)=>by kernel_rfl)
def E64:=E63.a ZD<|toS (KP [0,2,3,4] [11]) 80 E63.2 func268 (fun(l:List SFile)=>by kernel_rfl)
def E65:=E64.a ZW<|eqS (KP [0,1,4,5] [10,14,26]) false E64.2 func297 (fun(l r:List SFile)=>by kernel_rfl)
def E66:=E65.M Vd<|mkS (KP [0,1,4,5] [9]) true Rr E65.2 func231 (fun(l:List SFile) (k:Int)=>by kernel_rfl)
def E67:=E66.a UR<|heS (KP [0,1,4,5] [9,19,29,39,50,60,72,83]) Rr E66.2 func236 (fun(l:List SFile) (k:Int)=>by kernel_rfl)
def E68:=E67.a WV<|szT (KP [1,2,4] [11,17]) Rk E67.2 func177 (fun(x:SServer) (k:Int)=>by kernel_rfl) (fun _=>rfl) Za
def E69:=E68.a XT<|toT [1,2,3] Rg Aen E68.2 func192 (fun(x:SServer)=>by kernel_rfl) (fun _=>rfl) VU
def E70:=E69.a XC<|eqT (KP [2,3,4] [9,15]) KN E69.2 func222 (fun(x y:SServer)=>by kernel_rfl) X6 Wr
def E71:=E70.a TQ<|szS (KP [0,1,4,5] [11,15,25]) E70.2 func69 (fun(l:List SServer) (k:Int)=>by kernel_rfl)
def E72:=E71.a U5<|toS (KP [0,2,3,4] [11]) 40 E71.2 func87 (fun(l:List SServer)=>by kernel_rfl)
def E73:=E72.a TB<|eqS (KP [0,1,4,5] [10,14,26]) false E72.2 func120 (fun(l r:List SServer)=>by kernel_rfl)
def E74:=E73.M PM<|mkS (KP [0,1,4,5] [9]) true Kh E73.2 func133 (fun(l:List SServer) (k:Int)=>by kernel_rfl)
def E75:=E74.a P6<|heS (KP [0,1,4,5] [9,19,30]) Kh E74.2 func143 (fun(l:List SServer) (k:Int)=>by kernel_rfl)
def E76:=E75.a AbJ<|szT (KP [1,2,4] [11,17,23]) Vy E75.2 func264 (fun(x:SEntry) (k:Int)=>by kernel_rfl) (fun _=>rfl) Aa3
def E77:=E76.a AbT<|toT [1,2,3] XU AgD E76.2 func269 (fun(x:SEntry)=>by kernel_rfl) (fun _=>rfl) Abb
def E78:=E77.a AaO<|eqT (KP [2,3,4] [9,15,21,26]) PT E77.2 func298 (fun(x y:SEntry)=>by kernel_rfl) Z4 ZV
def E79:=E78.a WD<|szS (KP [0,1,4,5] [11,15,25]) E78.2 func178 (fun(l:List SEntry) (k:Int)=>by kernel_rfl)
def E80:=E79.a VI<|toS (KP [0,2,3,4] [11]) 120 E79.2 func193 (fun(l:List SEntry)=>by kernel_rfl)
def E81:=E80.a Y1<|eqS (KP [0,1,4,5] [10,14,26]) false E80.2 func223 (fun(l r:List SEntry)=>by kernel_rfl)
def E82:=E81.M Rx<|mkS (KP [0,1,4,5] [9]) true Nr E81.2 func232 (fun(l:List SEntry) (k:Int)=>by kernel_rfl)
def E83:=E82.a Ru<|heS (KP [0,1,4,5] [9,19,30,41,51,61,72,82,94,105,114]) Nr E82.2 func237 (fun(l:List SEntry) (k:Int)=>by kernel_rfl)
def E84:=E83.a Z8<|szT (KP [1,2,4] [10]) Zc E83.2 func70 (fun(x:SCache) (k:Int)=>by kernel_rfl) (fun _=>rfl) ZS
def E85:=E84.a Ab0<|toT [1,2,3] Vu AfT E84.2 func88 (fun(x:SCache)=>by kernel_rfl) (fun _=>rfl) AaE
def E86:=E85.a ZP<|eqT (KP [2,3,4] [10]) Pf E85.2 func121 (fun(x y:SCache)=>by kernel_rfl) Zv AaQ
def E87:=E86.M Ur<|mvT [1,2,4] [0] Nj E86.2 func134 (fun(x:SCache) (k:Int)=>by kernel_rfl)
def E88:=E87.a TI<|hvT (KP [1,2,4] [10]) Nj E87.2 func144 (fun(x:SCache) (k:Int)=>by kernel_rfl)
def E89:=E88.a Afg<|szT (KP [1,2,4] [11,17]) Ade E88.2 func179 (fun(x:SSent) (k:Int)=>by kernel_rfl) (fun _=>rfl) AdK
def E90:=E89.a Ac0<|toT [1,2,3] Afo Aha E89.2 func194 (fun(x:SSent)=>by kernel_rfl) (fun _=>rfl) Aew
def E91:=E90.a Ae2<|eqT (KP [2,3,4] [9,15,20]) X9 E90.2 func224 (fun(x y:SSent)=>by kernel_rfl) Ael Ae4
def E92:=E91.a Zl<|szS (KP [0,1,4,5] [11,15,25]) E91.2 func71 (fun(l:List SSent) (k:Int)=>by kernel_rfl)
def E93:=E92.a Aap<|toS (KP [0,2,3,4] [11]) 56 E92.2 func89 (fun(l:List SSent)=>by kernel_rfl)
def E94:=E93.a Aa2<|eqS (KP [0,1,4,5] [10,14,26]) false E93.2 func122 (fun(l r:List SSent)=>by kernel_rfl)
def E95:=E94.M Tw<|mkS (KP [0,1,4,5] [9]) true QX E94.2 func135 (fun(l:List SSent) (k:Int)=>by kernel_rfl)
def E96:=E95.a Uj<|heS (KP [0,1,4,5] [9,19,30,41,52]) QX E95.2 func145 (fun(l:List SSent) (k:Int)=>by kernel_rfl)
def E97:=E96.a AgU<|szT (KP [1,2,4] [10,16,22]) AhF E96.2 func14 (fun(x:SNet) (k:Int)=>by kernel_rfl) (fun _=>rfl) AgB
def E98:=E97.a Ags<|toT [1,2,3] AhB AmI E97.2 func24 (fun(x:SNet)=>by kernel_rfl) (fun _=>rfl) Agt
def E99:=E98.a AgQ<|eqT (KP [2,3,4] [10,16,22,27]) Af2 E98.2 func40 (fun(x y:SNet)=>by kernel_rfl) AgE AfY
def AlX:=E99.M Z5<|mvT [1,2,4] [0,1,2] YC E99.2 func45 (fun(x:SNet) (k:Int)=>by kernel_rfl)
def Als:=AlX.a Abe<|hvT (KP [1,2,4] [10,16,22]) YC AlX.2 func50 (fun(x:SNet) (k:Int)=>by kernel_rfl)
def Amb:=Als.a AdJ<|szT (KP [1,2,4] [10,17,24]) AeC Als.2 func183 (fun(x:SSlot) (k:Int)=>by kernel_rfl) (fun _=>rfl) Aem
def AiM:=Amb.a Ad3<|toT [1,2,3] AcV Ahu Amb.2 func198 (fun(x:SSlot)=>by kernel_rfl) (fun _=>rfl) Afz
def AkI:=AiM.a AfK<|eqT (KP [2,3,4] [9,15,20,25,30,35,40]) Xm AiM.2 func228 (fun(x y:SSlot)=>by kernel_rfl) Ae5 AdG
def Aii:=AkI.a ZK<|szS (KP [0,1,4,5] [11,15,25]) AkI.2 func77 (fun(l:List SSlot) (k:Int)=>by kernel_rfl)
def Amn:=Aii.a AaZ<|toS (KP [0,2,3,4] [11]) 96 Aii.2 func95 (fun(l:List SSlot)=>by kernel_rfl)
def AiB:=Amn.a Abq<|eqS (KP [0,1,4,5] [10,14,26]) false Amn.2 func128 (fun(l r:List SSlot)=>by kernel_rfl)
def Ajf:=AiB.M TU<|mkS (KP [0,1,4,5] [9]) true RD AiB.2 func139 (fun(l:List SSlot) (k:Int)=>by kernel_rfl)
def AhZ:=Ajf.a U9<|heS (KP [0,1,4,5] [9,18,29,40,50,59,70,79,89]) RD Ajf.2 func149 (fun(l:List SSlot) (k:Int)=>by kernel_rfl)
def AkB:=AhZ.a Zb<|szT (KP [1,2,4] [10,17]) Ra AhZ.2 func184 (fun(x:SModule) (k:Int)=>by kernel_rfl) (fun _=>rfl) XD
def AiI:=AkB.a Wm<|toT [1,2,3] Q0 AeP AkB.2 func199 (fun(x:SModule)=>by kernel_rfl) (fun _=>rfl) Wc
def Ak6:=AiI.a Y0<|eqT (KP [2,3,4] [10,15,20,25]) Kv AiI.2 func229 (fun(x y:SModule)=>by kernel_rfl) Wn Wh
def Ah3:=Ak6.a UY<|szS (KP [0,1,4,5] [11,15,25]) Ak6.2 func78 (fun(l:List SModule) (k:Int)=>by kernel_rfl)
def Aij:=Ah3.a UI<|toS (KP [0,2,3,4] [11]) 64 Ah3.2 func96 (fun(l:List SModule)=>by kernel_rfl)
def AkM:=Aij.a T9<|eqS (KP [0,1,4,5] [10,14,26]) false Aij.2 func129 (fun(l r:List SModule)=>by kernel_rfl)
def Aky:=AkM.M PH<|mkS (KP [0,1,4,5] [9]) true J4 AkM.2 func140 (fun(l:List SModule) (k:Int)=>by kernel_rfl)
def AkK:=Aky.a PN<|heS (KP [0,1,4,5] [9,20,31,42,51,61]) J4 Aky.2 func150 (fun(l:List SModule) (k:Int)=>by kernel_rfl)
def AkL:=AkK.a Adp<|szT (KP [1,2,4] [10,16,22,28,34,40,46,52,58,64]) Adx AkK.2 func15 (fun(x:SPage) (k:Int)=>by kernel_rfl) (fun _=>rfl) Afu
def AiE:=AkL.a AeU<|toT [1,2,3] Adw AhM AkL.2 func25 (fun(x:SPage)=>by kernel_rfl) (fun _=>rfl) Ae0
def Amc:=AiE.a Ad8<|eqT (KP [2,3,4] [10,16,22,28,33,39,45,51,57,62,67,72,77,83,89,94]) Xw AiE.2 func41 (fun(x y:SPage)=>by kernel_rfl) Adc AeB
def AiD:=Amc.M W5<|mvT [1,2,4] [3,4,5,8,10,11,12,13,14,19,20] RF Amc.2 func46 (fun(x:SPage) (k:Int)=>by kernel_rfl)
def AlK:=AiD.a XV<|hvT (KP [1,2,4] [10,16,22,28,34,40,46,52]) RF AiD.2 func51 (fun(x:SPage) (k:Int)=>by kernel_rfl)
def Aid:=AlK.a AbQ<|szT (KP [1,2,4] [10,16]) WO AlK.2 func81 (fun(x:SGuess) (k:Int)=>by kernel_rfl) (fun _=>rfl) Abf
def Aj5:=Aid.a Zq<|toT [1,2,3] WM Agq Aid.2 func99 (fun(x:SGuess)=>by kernel_rfl) (fun _=>rfl) ZQ
def AlH:=Aj5.a Aaz<|eqT (KP [2,3,4] [10,16,21]) OD Aj5.2 func132 (fun(x y:SGuess)=>by kernel_rfl) Abc AbP
def Aks:=AlH.a YS<|szS (KP [0,1,4,5] [11,15,25]) AlH.2 func18 (fun(l:List SGuess) (k:Int)=>by kernel_rfl)
def AkU:=Aks.a YK<|toS (KP [0,2,3,4] [11]) 104 Aks.2 func28 (fun(l:List SGuess)=>by kernel_rfl)
def Ale:=AkU.a Xe<|eqS (KP [0,1,4,5] [10,14,26]) false AkU.2 func44 (fun(l r:List SGuess)=>by kernel_rfl)
def AlT:=Ale.M Ri<|mkS (KP [0,1,4,5] [9]) true M7 Ale.2 func49 (fun(l:List SGuess) (k:Int)=>by kernel_rfl)
def AiU:=AlT.a Qh<|heS (KP [0,1,4,5] [9,20,31,41,51,62,72,84,95,106]) M7 AlT.2 func54 (fun(l:List SGuess) (k:Int)=>by kernel_rfl)
def Akp:=AiU.a Ad6<|szT (KP [1,2,4] [10,16]) AcT AiU.2 func80 (fun(x:SConn) (k:Int)=>by kernel_rfl) (fun _=>rfl) Afy
def Alf:=Akp.a AfF<|toT [1,2,3] AcZ Ahq Akp.2 func98 (fun(x:SConn)=>by kernel_rfl) (fun _=>rfl) AdF
def Alt:=Alf.a Afi<|eqT (KP [2,3,4] [10,15,20,26]) Wq Alf.2 func131 (fun(x y:SConn)=>by kernel_rfl) AfM Ae9
def Ako:=Alt.a AbZ<|szS (KP [0,1,4,5] [11,15,25]) Alt.2 func17 (fun(l:List SConn) (k:Int)=>by kernel_rfl)
def Aib:=Ako.a Z6<|toS (KP [0,2,3,4] [11]) 112 Ako.2 func27 (fun(l:List SConn)=>by kernel_rfl)
def Alu:=Aib.a Z2<|eqS (KP [0,1,4,5] [10,14,26]) false Aib.2 func43 (fun(l r:List SConn)=>by kernel_rfl)
def Aki:=Alu.M Vi<|mkS (KP [0,1,4,5] [9]) true RI Alu.2 func48 (fun(l:List SConn) (k:Int)=>by kernel_rfl)
def AjH:=Aki.a Tz<|heS (KP [0,1,4,5] [9,20,31,40,51,61,71,82,92,104,115]) RI Aki.2 func53 (fun(l:List SConn) (k:Int)=>by kernel_rfl)
def AkR:=AjH.a KH<|szT (KP [1,2,4] [10,16,22,28,34]) Q2 AjH.2 func5 (fun(x:SLoader) (k:Int)=>by kernel_rfl) (fun _=>rfl) X8
def AjN:=AkR.a FQ<|toT [1,2,3] QE Aex AkR.2 func7 (fun(x:SLoader)=>by kernel_rfl) (fun _=>rfl) Wb
def AjM:=AjN.a FM<|eqT (KP [2,3,4] [10,16,22,28,34]) J6 AjN.2 func9 (fun(x y:SLoader)=>by kernel_rfl) WB Xo
def Ai0:=AjM.M Eh<|mvT [1,2,4] [0,1,2,7,8,9,12,14,15,16,17,18,23,24,26,27,28] Lo AjM.2 func10 (fun(x:SLoader) (k:Int)=>by kernel_rfl)
def AlV:=Ai0.a Ga<|hvT (KP [1,2,4] [10,16,22,28,34]) Lo Ai0.2 func11 (fun(x:SLoader) (k:Int)=>by kernel_rfl)
theorem Acp (x y:SAddr):(x.host==y.host&&(x.path==y.path&&true))=decide (x=y):=Dk x y
abbrev Lidx (l:List SConn) (F:List SConn->Int->Int):LInv:=⟨[⟨.s,8,true,.el .int⟩],fun _ (x:Int×Unit)=>0<=x.1/\x.1<=l.length/\F l 0=F (l.drop x.1.toNat) x.1,fun(x:Int×Unit)=>l.length-x.1.toNat⟩
def firstDone:List SConn->Int->Int
 | [],_=>-1
 | c::l,i=>if c.left<=0 then i else firstDone l (i+1)
theorem Fj {l:List SConn} {i:Nat} {z:Int} (h:i<l.length):firstDone (l.drop i) z=if(l.getD i default).left<=0 then z else firstDone (l.drop (i+1)) (z+1):=by rw[drop_cons h];rfl
theorem Im {l:List SConn} {i:Nat} {z:Int} (h:l.length<=i):firstDone (l.drop i) z = -1:=by rw[Qb6 h];rfl
def FH:Fct:=⟨[aL .conn],[rI],fun(x:List SConn×Unit)=>x.1.length<=1048576,fun x=>(firstDone x.1 0,())⟩
abbrev Lfirst (l:List SConn):LInv:=⟨[⟨.s,3,true,.el .int⟩],fun _ (x:Int×Unit)=>0<=x.1/\x.1<=l.length/\firstDone l 0=firstDone (l.drop x.1.toNat) x.1,fun(x:Int×Unit)=>l.length-x.1.toNat⟩
def Akv:=AlV.a FH<|Fct.p (KP [0,2,3] [7,15]) (fun⟨l,_⟩=>lv [(2,Lfirst l)]) AlV.2 func22 (by
 rintro⟨(l:List SConn),_⟩ hp;refine ho (lpx (Lfirst l) ((0:Int),()) fun(y1:Int×PUnit) bk1=>.br (decide (y1.1<(l.length:Int))) (.ob (inB y1.1 l.length)<|.br (decide ((l.getD y1.1.toNat default).left<=0)) (.lf FH (y1.1,())) (.ob (l=l)<|.ob (bk1 (w1 y1.1,()))<|.ok)) (.lf FH ((-1:Int),()))) ?_;refine Aw ?_ fun(y1:Int×PUnit) i1=>Ab (fun h2=>Aa ?_ fun o3=>Ab (fun h4=>lfY ?_) (fun h4=>Aa rfl fun _=>Aa ?_ fun o5=>trivial)) (fun h2=>lfY ?_)
 all_goals
  try simp only[AA] at *
  try simp only[Lfirst,FH,std,Nat.reduceAdd] at *
  try simp only[Acp,Qa7,Qb0] at *
 ·first|omega|exact⟨by omega,by omega,by simp⟩
 ·omega
 ·rw[Fj (by omega),Qa2 h4] at i1;exact i1.2.2.symm
 ·rw[Fj (by omega),Qa3 (by omega)] at i1;have hn:l.length<=1048576:=hp;rw[Ah (by omega),toNat1 (by omega)];exact⟨⟨by omega,by omega,i1.2.2⟩,by omega⟩
 ·rw[Im (by omega)] at i1;exact i1.2.2.symm)
def Ku:Fct:=⟨[aE .conn],[rB],fun _=>True,fun x=>(decide (x.1.left<=0),())⟩
def AiS:=Akv.a Ku<|Fct.o [1,2] Akv.2 func105 (by
 rintro⟨(c:SConn),_⟩ hp;refine ho (.lf Ku (decide (c.left<=0),())) ?_;refine lfY ?_;all_goals
  try simp only[AA] at *
  try simp only[Ku,std,Nat.reduceAdd] at *
 all_goals first|trivial|omega|(simp_all;done)|(simp_all;omega)|grind)
def FA:Fct:=⟨[aL .conn,.c 105 []],[rI],fun(x:List SConn×Unit×Unit)=>x.1.length<=1048576,fun x=>(firstDone x.1 0,())⟩
def AlW:=AiS.a FA<|Fct.p (KP [0,1,4,5,7,8] [9,16]) (fun⟨l,u,_⟩=>lv [(2,Lidx l firstDone)]) AiS.2 func104 (by
 rintro⟨(l:List SConn),(u:PUnit),_⟩ hp;refine ho (lpx (Lidx l firstDone) ((0:Int),()) fun(y1:Int×PUnit) bk1=>.br (decide (y1.1<(l.length:Int))) (.ob (inB y1.1 l.length)<|.cl Ku (l.getD y1.1.toNat default,()) fun z2=>.br (z2.1) (.lf FA (y1.1,())) (.ob (l=l)<|.ob (Value.int IntKind.i64 (l.length:Int)=Value.int IntKind.i64 (l.length:Int))<|.ob (bk1 (w1 y1.1,()))<|.ok)) (.lf FA ((-1:Int),()))) ?_;refine Aw ?_ fun(y1:Int×PUnit) i1=>Ab (fun h2=>Aa ?_ fun o3=>Ae trivial fun _=>(Ab (fun h4=>lfY ?_) (fun h4=>Aa rfl fun _=>Aa rfl fun _=>Aa ?_ fun o5=>trivial))) (fun h2=>lfY ?_)
 all_goals
  try simp only[AA] at *
  try simp only[Lidx,Ku,FA,std,Nat.reduceAdd] at *
  try simp only[Acp,Qa7,Qb0] at *
 ·first|omega|exact⟨by omega,by omega,by simp⟩
 ·omega
 ·rw[Fj (by omega),Qa2 h4] at i1;exact i1.2.2.symm
 ·rw[Fj (by omega),Qa3 (by omega)] at i1;have hn:l.length<=1048576:=hp;rw[Ah (by omega),toNat1 (by omega)];exact⟨⟨by omega,by omega,i1.2.2⟩,by omega⟩
 ·rw[Im (by omega)] at i1;exact i1.2.2.symm)
def Amg:=AlW.a FH<|Fct.o [0,2] AlW.2 func32 (by
 rintro⟨(l:List SConn),_⟩ hp;refine ho (.cl FA (l,(),()) fun(z2:Int×PUnit)=>.lf FH (z2.1,())) ?_;refine Ae ?_ fun o1=>(lfY ?_)
 all_goals
  try simp only[AA] at *
  try simp only[FH,FA,std,Nat.reduceAdd] at *
 all_goals first|trivial|omega|(simp_all;done)|(simp_all;omega)|grind)
def inRange (n lo hi:Int):Bool:=decide (lo<=n)&&decide (n<=hi)
def fInRange:Fct:=⟨[aI,aI,aI],[rB],fun _=>True,fun(x:Int×Int×Int×Unit)=>(inRange x.1 x.2.1 x.2.2.1,())⟩
def AiZ:=Amg.a fInRange<|Fct.o [0,1,2,6] Amg.2 func30 (by
 rintro⟨(n:Int),(lo:Int),(hi:Int),_⟩ hp;refine ho (.br (decide (lo<=n)) (.lf fInRange (decide (n<=hi),())) (.lf fInRange (false,()))) ?_;refine Ab (fun h1=>lfY ?_) (fun h1=>lfY ?_);all_goals
  try simp only[AA] at *
  try simp only[fInRange,std,Nat.reduceAdd,inRange] at *
 all_goals first|trivial|(simp_all;done)|(simp_all;omega)|grind)
def AlJ:=AiZ.a fInRange<|Fct.o [0,1,2,6] AiZ.2 func20 (by
 rintro⟨(n:Int),(lo:Int),(hi:Int),_⟩ hp;refine ho (.br (decide (n>=lo)) (.lf fInRange (decide (n<=hi),())) (.lf fInRange (false,()))) ?_;refine Ab (fun h1=>lfY ?_) (fun h1=>lfY ?_);all_goals
  try simp only[AA] at *
  try simp only[fInRange,std,Nat.reduceAdd,inRange] at *
 all_goals first|trivial|(simp_all;done)|(simp_all;omega)|grind)
def Adi:Fct:=⟨[aI,aI],[rI],fun _=>True,fun(x:Int×Int×Unit)=>(max x.1 x.2.1,())⟩
def AiG:=AlJ.a Adi<|Fct.o (KP [0,1,4] [7]) AlJ.2 func84 (by
 rintro⟨(a:Int),(b:Int),_⟩ hp;refine ho (.br (decide (b>a)) (.lf Adi (b,())) (.lf Adi (a,()))) ?_;refine Ab (fun h1=>lfY ?_) (fun h1=>lfY ?_);all_goals
  try simp only[AA] at *
  try simp only[Adi,std,Nat.reduceAdd] at *
 all_goals first|trivial|omega|(simp_all;done)|(simp_all;omega)|grind)
def fCopyConns:Fct:=⟨[aL .conn],[rL .conn],fun(x:List SConn×Unit)=>x.1.length<=1048576,fun(x:List SConn×Unit)=>(x.1,())⟩
def Ajx:=AiG.a fCopyConns<|Fct.o [0,2] AiG.2 func102 (by
 rintro⟨(l:List SConn),_⟩ hp;refine ho (.ob (True)<|.ob (BK (0+List.length l) 112)<|.lf fCopyConns ([]++l,())) ?_;refine Aa trivial fun _=>Aa ?_ fun o1=>lfY ?_
 all_goals
  try simp only[AA] at *
  try simp only[fCopyConns,std,Nat.reduceAdd] at *
 all_goals first|trivial|omega|(simp_all;done)|(simp_all;omega)|grind)
def moveOne (b:Int) (c:SConn):SConn:={ c with left:=max 0 (IntKind.i64.wrap (c.left-b))}
def moveConns (l:List SConn) (b:Int):List SConn:=if inRange b 0 1000 then l.map (moveOne b) else l
def H7:Fct:=⟨[aL .conn,aI],[rL .conn],fun(x:List SConn×Int×Unit)=>x.1.length<=1048576,fun(x:List SConn×Int×Unit)=>(moveConns x.1 x.2.1,())⟩
abbrev L45 (l:List SConn) (b:Int):LInv:=⟨[⟨.s,6,true,.el .int⟩,⟨.s,5,true,.sl .conn⟩],fun _ (x:Int×List SConn×Unit)=>0<=x.1/\x.1<=l.length/\x.2.1=moveConns (l.take x.1.toNat) b++l.drop x.1.toNat,fun(x:Int×List SConn×Unit)=>l.length-x.1.toNat⟩
theorem Di (l:List SConn) (b:Int):(moveConns l b).length=l.length:=by unfold moveConns;split<;>simp
theorem Ir (b:Int):moveConns [] b=[]:=by unfold moveConns;split<;>rfl
theorem Hp {l:List SConn} {b:Int} {i:Nat} (hb:inRange b 0 1000=true) (h:i<l.length) {g:SConn->SConn} (hg:g (l.getD i default)=moveOne b (l.getD i default)):(moveConns (l.take i) b++l.drop i).modify i g=moveConns (l.take (i+1)) b++l.drop (i+1):=by
 rw[drop_cons h,GP (by rw[Di,Qc1];omega),take_succ h];simp only[moveConns,hb,Qe8,List.map_append,Qc8,List.map_nil,Qb7,Qf4,Qg1,hg]
theorem M2 {l:List SConn} {b:Int} {i:Nat} (hb:inRange b 0 1000=false):moveConns (l.take i) b++l.drop i=moveConns l b:=by
 simp[moveConns,hb]
def Aia:=Ajx.a H7<|Fct.p (KP [0,1,4,5,6] [17]) (fun⟨l,b,_⟩=>lv [(3,L45 l b)]) Ajx.2 func21 (by
 rintro⟨(l:List SConn),(b:Int),_⟩ hp;refine ho (.ob (True)<|.ob (BK (0+l.length) 112)<|lpx (L45 l b) ((0:Int),([]++l,())) fun(y2:Int×List SConn×PUnit) bk2=>.br (decide (y2.1<(l.length:Int))) (.cl fInRange (b,(0:Int),(1000:Int),()) fun z2=>.br (z2.1) (.ob (inB y2.1 l.length)<|.cl Adi ((0:Int),wr ((l.getD y2.1.toNat default).left-b),()) fun(z3:Int×PUnit)=>.ob (inB y2.1 y2.2.1.length)<|.ob (y2.1.toNat<y2.2.1.length)<|.lt (List SConn) (y2.2.1.modify y2.1.toNat fun z=>(⟨z.to,z3.1,z.guess,z.bc⟩:SConn)) fun z4=>.ob (l=l)<|.ob (Value.int IntKind.i64 b=Value.int IntKind.i64 b)<|.ob (bk2 (w1 y2.1,(z4,())))<|.ok) (.lf H7 (y2.2.1,()))) (.lf H7 (y2.2.1,()))) ?_;refine Aa trivial fun _=>Aa ?_ fun o1=>Aw ?_ fun(y2:Int×List SConn×PUnit) i2=>Ab (fun h3=>Ae trivial fun _=>(Ab (fun h4=>Aa ?_ fun o5=>Ae trivial fun _=>(Aa ?_ fun o6=>Aa ?_ fun o7=>Dh (Aa rfl fun _=>Aa rfl fun _=>Aa ?_ fun o8=>trivial))) (fun h4=>lfY ?_))) (fun h3=>lfY ?_)
 all_goals
  try simp only[AA] at *
  try simp only[L45,fInRange,Adi,H7,std,Nat.reduceAdd] at *
  try have hln:y2.2.1.length=l.length:=by rw[i2.2.2,Qa4,Di,Qc1,Qd6];omega
 ·omega
 ·exact⟨by omega,by omega,by simp[Ir]⟩
 ·omega
 ·omega
 ·omega
 ·rw[Ah (by omega),toNat1 (by omega),i2.2.2,Hp h4 (by omega) (by simp[moveOne,Adi])];exact⟨⟨by omega,by omega,rfl⟩,by omega⟩
 ·rw[i2.2.2,M2 h4]
 ·rw[i2.2.2,Qb3 (by omega),Qb6 (by omega),Qd8])
abbrev L46 (l:List SConn) (b:Int):LInv:=⟨[⟨.s,15,true,.el .int⟩,⟨.s,5,true,.sl .conn⟩],fun _ (x:Int×List SConn×Unit)=>0<=x.1/\x.1<=l.length/\x.2.1=moveConns (l.take x.1.toNat) b++l.drop x.1.toNat,fun(x:Int×List SConn×Unit)=>l.length-x.1.toNat⟩
def Alm:=Aia.a H7<|Fct.p (KP [0,1,4,5,6,14,15] [11,16]) (fun⟨l,b,_⟩=>lv [(5,L46 l b)]) Aia.2 func31 (by
 rintro⟨(l:List SConn),(b:Int),_⟩ hp;refine ho (.cl fCopyConns (l,()) fun z2=>.cl fInRange (b,(0:Int),(1000:Int),()) fun z3=>.br (!z3.1) (.lf H7 (z2.1,())) (lpx (L46 l b) ((0:Int),(z2.1,())) fun(y3:Int×List SConn×PUnit) bk3=>.br (decide (y3.1<(z2.1.length:Int))) (.ob (inB y3.1 y3.2.1.length)<|.ob (y3.1.toNat<y3.2.1.length)<|.ob (inB y3.1 y3.2.1.length)<|.ob (y3.1.toNat<y3.2.1.length)<|.lt (List SConn) (y3.2.1.modify y3.1.toNat fun z=>(⟨z.to,if wr ((y3.2.1.getD y3.1.toNat default).left-b)>0 then wr ((y3.2.1.getD y3.1.toNat default).left-b) else(0:Int),z.guess,z.bc⟩:SConn)) fun z4=>.ob (l=l)<|.ob (Value.int IntKind.i64 b=Value.int IntKind.i64 b)<|.ob (Value.int IntKind.i64 (z2.1.length:Int)=Value.int IntKind.i64 (z2.1.length:Int))<|.ob (bk3 (w1 y3.1,(z4,())))<|.ok) (.lf H7 (y3.2.1,())))) ?_;refine Ae ?_ fun o1=>(Ae trivial fun _=>(Ab (fun h2=>lfY ?_) (fun h2=>Aw ?_ fun(y3:Int×List SConn×PUnit) i3=>Ab (fun h4=>Aa ?_ fun o5=>Aa ?_ fun o6=>Aa ?_ fun o7=>Aa ?_ fun o8=>Dh (Aa rfl fun _=>Aa rfl fun _=>Aa rfl fun _=>Aa ?_ fun o9=>trivial)) (fun h4=>lfY ?_))))
 all_goals
  try simp only[AA] at *
  try simp only[L46,fCopyConns,fInRange,H7,std,Nat.reduceAdd,fCopyConns] at *
  try have hln:y3.2.1.length=l.length:=by rw[i3.2.2,Qa4,Di,Qc1,Qd6];omega
 ·omega
 ·rw[moveConns,h2];rfl
 ·exact⟨by omega,by omega,by simp[Ir]⟩
 ·omega
 ·omega
 ·omega
 ·omega
 ·rw[Ah (by omega),toNat1 (by omega)];refine⟨⟨by omega,by omega,?_⟩,by omega⟩;have hA:(moveConns (l.take y3.1.toNat) b).length=y3.1.toNat:=by rw[Di,Qc1];omega
  have hget:y3.2.1.getD y3.1.toNat default=l.getD y3.1.toNat default:=by rw[i3.2.2,drop_cons (i:=y3.1.toNat) (by omega),getD_at hA]
  rw[hget,i3.2.2,Hp h2 (by omega)];simp only[moveOne];congr 1;split<;>omega
 ·rw[i3.2.2,Qb3 (by omega),Qb6 (by omega),Qd8])
def Ed:Fct:=⟨[.v (.sl .addr),.v (.el .addr)],[.el .int],fun(x_:(List SAddr)×SAddr×Unit)=>x_.1.length<=1000000000000000000,fun(x_:(List SAddr)×SAddr×Unit)=>(fidx (fun c=>decide (c=x_.2.1)) x_.1 0,())⟩
abbrev AU (l:(List SAddr)) (a:SAddr):LInv:=⟨[⟨.s,8,true,.el .int⟩,⟨.b,3,true,.el .addr⟩],fun(z_ x_:Int×SAddr×Unit)=>(0<=x_.1/\x_.1<=l.length/\fidx (fun c=>decide (c=a)) l 0=fidx (fun c=>decide (c=a)) (l.drop x_.1.toNat) x_.1)/\x_.2.1=z_.2.1,fun(x_:Int×SAddr×Unit)=>l.length-x_.1.toNat⟩
def AkJ:=Alm.a Ed<|Fct.p (KP [0,3,4,5,7,8] [9,16]) (fun⟨l,a,_⟩=>lv [(2,AU l a)]) Alm.2 func317 (by
 rintro⟨(l:List SAddr),(a:SAddr),_⟩ hp;refine ho (lpx (AU l a) ((0:Int),(a,())) fun(y1:Int×SAddr×PUnit) bk1=>.br (decide (y1.1<(l.length:Int))) (.ob (inB y1.1 l.length)<|.br (y1.2.1.host==(l.getD y1.1.toNat default).host&&(y1.2.1.path==(l.getD y1.1.toNat default).path&&true)) (.lf Ed (y1.1,())) (.ob (l=l)<|.ob (Value.int IntKind.i64 (l.length:Int)=Value.int IntKind.i64 (l.length:Int))<|.ob (bk1 (w1 y1.1,(y1.2.1,())))<|.ok)) (.lf Ed ((-1:Int),()))) ?_;refine Aw ?_ fun(y1:Int×SAddr×PUnit) i1=>Ab (fun h2=>Aa ?_ fun o3=>Ab (fun h4=>lfY ?_) (fun h4=>Aa rfl fun _=>Aa rfl fun _=>Aa ?_ fun o5=>trivial)) (fun h2=>lfY ?_)
 all_goals
  try simp only[Dk] at *
  try simp only[AA] at *
  try simp only[AU,Ed,std,Nat.reduceAdd,fidx] at *
  try simp(disch:=omega) only[wrapId',toNat1] at *
  try simp(disch:=omega) only[Qa2,Qa3]
 all_goals first|trivial|omega|grind[wrapId',toNat1,drop_cons,drop_end,good_len,maxLen,fidx])
def Cy:Fct:=⟨[.v (.sl .addr),.v (.el .addr)],[.el .bool],fun(x_:(List SAddr)×SAddr×Unit)=>x_.1.length<=1000000000000000000,fun(x_:(List SAddr)×SAddr×Unit)=>(x_.1.any fun c=>decide (c=x_.2.1),())⟩
def Al6:=AkJ.a Cy<|Fct.o [0,3,4] AkJ.2 func257 (by
 rintro⟨(l:List SAddr),(a:SAddr),_⟩ hp;refine ho (.cl Ed (l,a,()) fun(z2:Int×PUnit)=>.lf Cy (decide (z2.1>=0),())) ?_;refine Ae ?_ fun o1=>(lfY ?_)
 all_goals
  try simp only[AA] at *
  try simp only[Cy,Ed,std,Nat.reduceAdd] at *
 all_goals first|trivial|omega|(rw[Bool.eq_iff_iff];exact decide_eq_true_iff.trans (NZ _ _ _ (by omega))))
def Da:Fct:=⟨[.v (.sl .addr),.v (.el .addr)],[.el .bool],fun(x_:(List SAddr)×SAddr×Unit)=>x_.1.length<=1000000000000000000,fun(x_:(List SAddr)×SAddr×Unit)=>(x_.1.any fun c=>decide (c=x_.2.1),())⟩
abbrev C3 (l:(List SAddr)) (a:SAddr):LInv:=⟨[⟨.s,5,true,.el .int⟩,⟨.b,3,true,.el .addr⟩],fun(z_ x_:Int×SAddr×Unit)=>(0<=x_.1/\x_.1<=l.length/\l.any (fun c=>decide (c=a))=(l.drop x_.1.toNat).any (fun c=>decide (c=a)))/\x_.2.1=z_.2.1,fun(x_:Int×SAddr×Unit)=>l.length-x_.1.toNat⟩
def Amm:=Al6.a Da<|Fct.p (KP [0,3,4,5] [9,17]) (fun⟨l,a,_⟩=>lv [(2,C3 l a)]) Al6.2 func152 (by
 rintro⟨(l:List SAddr),(a:SAddr),_⟩ hp;refine ho (lpx (C3 l a) ((0:Int),(a,())) fun(y1:Int×SAddr×PUnit) bk1=>.br (decide (y1.1<(l.length:Int))) (.ob (inB y1.1 l.length)<|.br ((l.getD y1.1.toNat default).host==y1.2.1.host&&((l.getD y1.1.toNat default).path==y1.2.1.path&&true)) (.lf Da (true,())) (.ob (l=l)<|.ob (bk1 (w1 y1.1,(y1.2.1,())))<|.ok)) (.lf Da (false,()))) ?_;refine Aw ?_ fun(y1:Int×SAddr×PUnit) i1=>Ab (fun h2=>Aa ?_ fun o3=>Ab (fun h4=>lfY ?_) (fun h4=>Aa rfl fun _=>Aa ?_ fun o5=>trivial)) (fun h2=>lfY ?_)
 all_goals
  try simp only[Dk] at *
  try simp only[AA] at *
  try simp only[C3,Da,std,Nat.reduceAdd] at *
  try simp(disch:=omega) only[wrapId',toNat1] at *
  try simp(disch:=omega) only[Qa2,Qa3]
 all_goals first|trivial|omega|grind[wrapId',toNat1,drop_cons,drop_end,good_len,maxLen])
def Aim:=Amm.a Da<|Fct.o [0,3,4] Amm.2 func170 (by
 rintro⟨(l:List SAddr),(a:SAddr),_⟩ hp;refine ho (.cl Cy (l,a,()) fun z2=>.lf Da (z2.1,())) ?_;refine Ae ?_ fun o1=>(lfY ?_)
 all_goals
  try simp only[Dk] at *
  try simp only[AA] at *
  try simp only[Cy,Da,std,Nat.reduceAdd] at *
  try simp(disch:=omega) only[wrapId',toNat1] at *
  try simp(disch:=omega) only[Qa2,Qa3]
 all_goals first|trivial|omega|grind[wrapId',toNat1,drop_cons,drop_end,good_len,maxLen])
def EG:Fct:=⟨[.v (.sl .str),.v (.el .str)],[.el .int],fun(x_:(List ByteArray)×ByteArray×Unit)=>x_.1.length<=1000000000000000000,fun(x_:(List ByteArray)×ByteArray×Unit)=>(fidx (fun c=>decide (c=x_.2.1)) x_.1 0,())⟩
abbrev A2 (l:(List ByteArray)) (a:ByteArray):LInv:=⟨[⟨.s,8,true,.el .int⟩],fun _ (x_:Int×Unit)=>0<=x_.1/\x_.1<=l.length/\fidx (fun c=>decide (c=a)) l 0=fidx (fun c=>decide (c=a)) (l.drop x_.1.toNat) x_.1,fun(x_:Int×Unit)=>l.length-x_.1.toNat⟩
def AjR:=Aim.a EG<|Fct.p (KP [0,1,4,5,7,8] [9,16]) (fun⟨l,a,_⟩=>lv [(2,A2 l a)]) Aim.2 func418 (by
 rintro⟨(l:List ByteArray),(a:ByteArray),_⟩ hp;refine ho (lpx (A2 l a) ((0:Int),()) fun(y1:Int×PUnit) bk1=>.br (decide (y1.1<(l.length:Int))) (.ob (inB y1.1 l.length)<|.br (a.toList==(l.getD y1.1.toNat default).toList) (.lf EG (y1.1,())) (.ob (l=l)<|.ob (Value.string a=Value.string a)<|.ob (Value.int IntKind.i64 (l.length:Int)=Value.int IntKind.i64 (l.length:Int))<|.ob (bk1 (w1 y1.1,()))<|.ok)) (.lf EG ((-1:Int),()))) ?_;refine Aw ?_ fun(y1:Int×PUnit) i1=>Ab (fun h2=>Aa ?_ fun o3=>Ab (fun h4=>lfY ?_) (fun h4=>Aa rfl fun _=>Aa rfl fun _=>Aa rfl fun _=>Aa ?_ fun o5=>trivial)) (fun h2=>lfY ?_)
 all_goals
  try simp only[Agj,Af6] at *
  try simp only[AA] at *
  try simp only[A2,EG,std,Nat.reduceAdd,fidx] at *
  try simp(disch:=omega) only[wrapId',toNat1] at *
  try simp(disch:=omega) only[Qa2,Qa3]
 all_goals first|trivial|omega|grind[wrapId',toNat1,drop_cons,drop_end,good_len,maxLen,fidx])
def fContains_str:Fct:=⟨[.v (.sl .str),.v (.el .str)],[.el .bool],fun(x_:(List ByteArray)×ByteArray×Unit)=>x_.1.length<=1000000000000000000,fun(x_:(List ByteArray)×ByteArray×Unit)=>(x_.1.any fun c=>decide (c=x_.2.1),())⟩
def Ah5:=AjR.a fContains_str<|Fct.o [0,1,4] AjR.2 func380 (by
 rintro⟨(l:List ByteArray),(a:ByteArray),_⟩ hp;refine ho (.cl EG (l,a,()) fun(z2:Int×PUnit)=>.lf fContains_str (decide (z2.1>=0),())) ?_;refine Ae ?_ fun o1=>(lfY ?_)
 all_goals
  try simp only[AA] at *
  try simp only[fContains_str,EG,std,Nat.reduceAdd] at *
 all_goals first|trivial|omega|(rw[Bool.eq_iff_iff];exact decide_eq_true_iff.trans (NZ _ _ _ (by omega))))
def fHas9:Fct:=⟨[.v (.sl .str),.v (.el .str)],[.el .bool],fun(x_:(List ByteArray)×ByteArray×Unit)=>x_.1.length<=1000000000000000000,fun(x_:(List ByteArray)×ByteArray×Unit)=>(x_.1.any fun c=>decide (c=x_.2.1),())⟩
abbrev DH (l:(List ByteArray)) (s:ByteArray):LInv:=⟨[⟨.s,5,true,.el .int⟩],fun _ (x_:Int×Unit)=>0<=x_.1/\x_.1<=l.length/\l.any (fun c=>decide (c=s))=(l.drop x_.1.toNat).any (fun c=>decide (c=s)),fun(x_:Int×Unit)=>l.length-x_.1.toNat⟩
def Ak0:=Ah5.a fHas9<|Fct.p (KP [0,1,4,5] [9,17]) (fun⟨l,s,_⟩=>lv [(2,DH l s)]) Ah5.2 func409 (by
 rintro⟨(l:List ByteArray),(s:ByteArray),_⟩ hp;refine ho (lpx (DH l s) ((0:Int),()) fun(y1:Int×PUnit) bk1=>.br (decide (y1.1<(l.length:Int))) (.ob (inB y1.1 l.length)<|.br ((l.getD y1.1.toNat default).toList==s.toList) (.lf fHas9 (true,())) (.ob (l=l)<|.ob (Value.string s=Value.string s)<|.ob (bk1 (w1 y1.1,()))<|.ok)) (.lf fHas9 (false,()))) ?_;refine Aw ?_ fun(y1:Int×PUnit) i1=>Ab (fun h2=>Aa ?_ fun o3=>Ab (fun h4=>lfY ?_) (fun h4=>Aa rfl fun _=>Aa rfl fun _=>Aa ?_ fun o5=>trivial)) (fun h2=>lfY ?_)
 all_goals
  try simp only[AA] at *
  try simp only[DH,fHas9,std,Nat.reduceAdd] at *
  try simp(disch:=omega) only[wrapId',toNat1] at *
  try simp(disch:=omega) only[Qa2,Qa3]
 all_goals first|trivial|omega|grind[wrapId',toNat1,drop_cons,drop_end,good_len,maxLen])
theorem GZ {l:List SNode} {i:Nat} (h:i<l.length):(l.getD i default).bn.length+l.length<=szL szNode l:=by
 have:=DO szNode h;have h2:=Ad A0 (l.getD i default).bn;simp only[szNode] at this;omega
theorem Gf {l:List SToken} {i:Nat} (h:i<l.length):(l.getD i default).bn.length+l.length<=szL Al l:=by
 have:=DO Al h;have h2:=Ad A0 (l.getD i default).bn;simp only[Al] at this;omega
def fUnused:Fct:=⟨[.v (.sl .guess)],[.el .int],fun(x_:(List SGuess)×Unit)=>x_.1.length<=4194304,fun(x_:(List SGuess)×Unit)=>(countIf (fun g=>!g.used) x_.1,())⟩
abbrev B6 (l:(List SGuess)):LInv:=⟨[⟨.s,3,true,.el .int⟩,⟨.s,4,true,.el .int⟩],fun _ (x_:Int×Int×Unit)=>0<=x_.2.1/\x_.2.1<=l.length/\0<=x_.1/\x_.1<=x_.2.1/\x_.1+countIf (fun g=>!g.used) (l.drop x_.2.1.toNat)=countIf (fun g=>!g.used) l,fun(x_:Int×Int×Unit)=>l.length-x_.2.1.toNat⟩
def Ajc:=Ak0.a fUnused<|Fct.p (KP [0,2,3,4] [8,16]) (fun⟨l,_⟩=>lv [(3,B6 l)]) Ak0.2 func191 (by
 rintro⟨(l:List SGuess),_⟩ hp;refine ho (lpx (B6 l) ((0:Int),((0:Int),())) fun(y1:Int×Int×PUnit) bk1=>.br (decide (y1.2.1<(l.length:Int))) (.ob (inB y1.2.1 l.length)<|.br (!(l.getD y1.2.1.toNat default).used) (.ob (l=l)<|.ob (Value.int IntKind.i64 0=Value.int IntKind.i64 (0:Int))<|.ob (bk1 (w1 y1.1,(w1 y1.2.1,())))<|.ok) (.ob (l=l)<|.ob (Value.int IntKind.i64 0=Value.int IntKind.i64 (0:Int))<|.ob (bk1 (y1.1,(w1 y1.2.1,())))<|.ok)) (.lf fUnused (y1.1,()))) ?_;refine Aw ?_ fun(y1:Int×Int×PUnit) i1=>Ab (fun h2=>Aa ?_ fun o3=>Ab (fun h4=>Aa rfl fun _=>Aa rfl fun _=>Aa ?_ fun o5=>trivial) (fun h4=>Aa rfl fun _=>Aa rfl fun _=>Aa ?_ fun o6=>trivial)) (fun h2=>lfY ?_)
 all_goals
  try simp only[AA] at *
  try simp only[B6,fUnused,std,Nat.reduceAdd,countIf,countIf_le] at *
  try simp(disch:=omega) only[wrapId',toNat1] at *
  try simp(disch:=omega) only[Qa2,Qa3]
 all_goals first|trivial|omega|grind[wrapId',toNat1,drop_cons,drop_end,good_len,maxLen,countIf,countIf_le])
abbrev Be (l:(List SGuess)):LInv:=⟨[⟨.s,3,true,.el .int⟩,⟨.s,8,true,.el .int⟩],fun _ (x_:Int×Int×Unit)=>0<=x_.2.1/\x_.2.1<=l.length/\0<=x_.1/\x_.1<=x_.2.1/\x_.1+countIf (fun g=>!g.used) (l.drop x_.2.1.toNat)=countIf (fun g=>!g.used) l,fun(x_:Int×Int×Unit)=>l.length-x_.2.1.toNat⟩
def Ais:=Ajc.a fUnused<|Fct.p (KP [0,2,3,5,6,7,8] [9,14]) (fun⟨l,_⟩=>lv [(3,Be l)]) Ajc.2 func119 (by
 rintro⟨(l:List SGuess),_⟩ hp;refine ho (let q2_:=(l.length:Int);let q1_:=Value.int IntKind.i64 0=Value.int IntKind.i64 (0:Int);let q0_:=Value.int IntKind.i64 q2_=Value.int IntKind.i64 q2_;lpx (Be l) ((0:Int),((0:Int),())) fun(y1:Int×Int×PUnit) bk1=>.br (decide (y1.2.1<q2_)) (.ob (inB y1.2.1 l.length)<|.br (!(l.getD y1.2.1.toNat default).used) (.ob (l=l)<|.ob q1_<|.ob (l=l)<|.ob q0_<|.ob (bk1 (w1 y1.1,(w1 y1.2.1,())))<|.ok) (.ob (l=l)<|.ob q1_<|.ob (l=l)<|.ob q0_<|.ob (bk1 (y1.1,(w1 y1.2.1,())))<|.ok)) (.lf fUnused (y1.1,()))) ?_;repeat' first|(guard_target =~ Out.holds _ _;first|refine Aw (li:=Be l) ?_ fun(y1:Int×Int×PUnit) i1=>?_|refine lfY ?_|refine Ab (fun _=>?_) fun _=>?_|refine Aa ?_ fun _=>?_)|exact trivial
 all_goals
  try simp only[AA] at *
  try simp only[Be,fUnused,std,Nat.reduceAdd,countIf,countIf_le] at *
  try simp(disch:=omega) only[wrapId',toNat1] at *
  try simp(disch:=omega) only[Qa2,Qa3]
 all_goals first|trivial|omega|grind[wrapId',toNat1,drop_cons,drop_end,good_len,maxLen,countIf,countIf_le])
def fCopyAttrs:Fct:=⟨[.v (.sl .attr)],[.sl .attr],fun(x_:(List SAttr)×Unit)=>x_.1.length<=1099511627776,fun(x_:(List SAttr)×Unit)=>(x_.1,())⟩
def AlI:=Ais.a fCopyAttrs<|Fct.o [0,2] Ais.2 func267 (by
 rintro⟨(l:List SAttr),_⟩ hp;refine ho (.ob (True)<|.ob (BK (0+List.length l) 32)<|.lf fCopyAttrs ([]++l,())) ?_;refine Aa trivial fun _=>Aa ?_ fun o1=>lfY ?_
 all_goals
  try simp only[AA] at *
  try simp only[fCopyAttrs,std,Nat.reduceAdd] at *
  try simp(disch:=omega) only[wrapId',toNat1] at *
  try simp(disch:=omega) only[Qa2,Qa3]
 all_goals first|trivial|omega|grind[wrapId',toNat1,drop_cons,drop_end,good_len,maxLen])
def fCopyToken:Fct:=⟨[.v (.el .token)],[.el .token],fun(x_:SToken×Unit)=>x_.1.bn.length<=1099511627776,fun(x_:SToken×Unit)=>(x_.1,())⟩
def Al0:=AlI.a fCopyToken<|Fct.o [1,2] AlI.2 func272 (by
 rintro⟨(t:SToken),_⟩ hp;refine ho (.ob (True)<|.ob (BK (0+t.bn.length) 32)<|.lf fCopyToken (⟨t.kind,t.name,[]++t.bn,t.text⟩,())) ?_;refine Aa trivial fun _=>Aa ?_ fun o1=>lfY ?_
 all_goals
  try simp only[AA] at *
  try simp only[fCopyToken,std,Nat.reduceAdd] at *
  try simp(disch:=omega) only[wrapId',toNat1] at *
  try simp(disch:=omega) only[Qa2,Qa3]
 all_goals first|trivial|omega|grind[wrapId',toNat1,drop_cons,drop_end,good_len,maxLen])
def fCopyTokens:Fct:=⟨[.v (.sl .token)],[.sl .token],fun(x_:(List SToken)×Unit)=>szL Al x_.1<=1099511627776,fun(x_:(List SToken)×Unit)=>(x_.1,())⟩
abbrev B4 (l:(List SToken)):LInv:=⟨[⟨.s,3,true,.sl .token⟩,⟨.s,4,true,.el .int⟩],fun _ (x_:(List SToken)×Int×Unit)=>0<=x_.2.1/\x_.2.1<=l.length/\x_.1=l.take x_.2.1.toNat,fun(x_:(List SToken)×Int×Unit)=>l.length-x_.2.1.toNat⟩
def AjD:=Al0.a fCopyTokens<|Fct.p (KP [0,2,3,4,5] [10]) (fun⟨l,_⟩=>lv [(3,B4 l)]) Al0.2 func189 (by
 rintro⟨(l:List SToken),_⟩ hp;refine ho (lpx (B4 l) ([],((0:Int),())) fun(y1:List SToken×Int×PUnit) bk1=>let q2_:=inB y1.2.1 l.length;let q0_:=l.getD y1.2.1.toNat default;.br (decide (y1.2.1<(l.length:Int))) (.ob q2_<|.ob q2_<|.cl fCopyAttrs (q0_.bn,()) fun z2=>let q1_:=(⟨q0_.kind,q0_.name,z2.1,q0_.text⟩:SToken);.ob (BK (y1.1.length+[q1_].length) 64)<|.ob (l=l)<|.ob (bk1 (y1.1++[q1_],(w1 y1.2.1,())))<|.ok) (.lf fCopyTokens (y1.1,()))) ?_;refine Aw ?_ fun(y1:List SToken×Int×PUnit) i1=>Ab (fun h2=>Aa ?_ fun o3=>Aa ?_ fun o4=>Ae ?_ fun o5=>(Aa ?_ fun o6=>Aa rfl fun _=>Aa ?_ fun o7=>trivial)) (fun h2=>lfY ?_)
 all_goals
  have hl:=Ad Al l;try have hg:=Gf (l:=l) (i:=y1.2.1.toNat)
  try have hg:=Gf (l:=l) (i:=y2.2.1.toNat)
  try simp only[AA] at *
  try simp only[B4,fCopyAttrs,fCopyTokens,std,Nat.reduceAdd,fCopyAttrs,fCopyToken,take_succ,take_end] at *
  try simp(disch:=omega) only[wrapId',toNat1] at *
  try simp(disch:=omega) only[Qa2,Qa3]
 all_goals first|trivial|omega|grind[wrapId',toNat1,drop_cons,drop_end,good_len,maxLen,fCopyAttrs,fCopyToken,take_succ,take_end])
abbrev BZ (l:(List SToken)):LInv:=⟨[⟨.s,3,true,.sl .token⟩,⟨.s,9,true,.el .int⟩],fun _ (x_:(List SToken)×Int×Unit)=>0<=x_.2.1/\x_.2.1<=l.length/\x_.1=l.take x_.2.1.toNat,fun(x_:(List SToken)×Int×Unit)=>l.length-x_.2.1.toNat⟩
def AiX:=AjD.a fCopyTokens<|Fct.p (KP [0,2,3,5,7,8,9] [10]) (fun⟨l,_⟩=>lv [(3,BZ l)]) AjD.2 func204 (by
 rintro⟨(l:List SToken),_⟩ hp;refine ho (lpx (BZ l) ([],((0:Int),())) fun(y1:List SToken×Int×PUnit) bk1=>.br (decide (y1.2.1<(l.length:Int))) (.ob (inB y1.2.1 l.length)<|.cl fCopyToken (l.getD y1.2.1.toNat default,()) fun z2=>.ob (BK (y1.1.length+[z2.1].length) 64)<|.ob (l=l)<|.ob (l=l)<|.ob (Value.int IntKind.i64 (l.length:Int)=Value.int IntKind.i64 (l.length:Int))<|.ob (bk1 (y1.1++[z2.1],(w1 y1.2.1,())))<|.ok) (.lf fCopyTokens (y1.1,()))) ?_;refine Aw ?_ fun(y1:List SToken×Int×PUnit) i1=>Ab (fun h2=>Aa ?_ fun o3=>Ae ?_ fun o4=>(Aa ?_ fun o5=>Aa rfl fun _=>Aa rfl fun _=>Aa rfl fun _=>Aa ?_ fun o6=>trivial)) (fun h2=>lfY ?_)
 all_goals
  have hl:=Ad Al l;try have hg:=Gf (l:=l) (i:=y1.2.1.toNat)
  try have hg:=Gf (l:=l) (i:=y2.2.1.toNat)
  try simp only[AA] at *
  try simp only[BZ,fCopyToken,fCopyTokens,std,Nat.reduceAdd,fCopyAttrs,fCopyToken,take_succ,take_end] at *
  try simp(disch:=omega) only[wrapId',toNat1] at *
  try simp(disch:=omega) only[Qa2,Qa3]
 all_goals first|trivial|omega|grind[wrapId',toNat1,drop_cons,drop_end,good_len,maxLen,fCopyAttrs,fCopyToken,take_succ,take_end])
theorem builder_take {b:SBuilder} {n:Nat} (h:b.bh.length<=n):(⟨b.bh.take n,b.bj⟩:SBuilder)=b:=by rw[Qb3 h]
def fCopyBuilder:Fct:=⟨[.v (.el .ba)],[.el .ba],fun(x_:SBuilder×Unit)=>szBuilder x_.1<=1099511627776,fun(x_:SBuilder×Unit)=>(x_.1,())⟩
abbrev Cv (b:SBuilder):LInv:=⟨[⟨.b,3,true,.el .ba⟩,⟨.s,4,true,.el .int⟩,⟨.b,1,false,.el .ba⟩,⟨.b,2,true,.el .ba⟩],fun(z_ x_:SBuilder×Int×SBuilder×SBuilder×Unit)=>((0<=x_.2.1/\x_.2.1<=b.bh.length/\x_.1=⟨b.bh.take x_.2.1.toNat,b.bj⟩)/\x_.2.2.1=z_.2.2.1)/\x_.2.2.2.1=z_.2.2.2.1,fun(x_:SBuilder×Int×SBuilder×SBuilder×Unit)=>b.bh.length-x_.2.1.toNat⟩
def Ah4:=AiX.a fCopyBuilder<|Fct.p (KP [1,2,3,4,5] [15]) (fun⟨b,_⟩=>lv [(3,Cv b)]) AiX.2 func190 (by
 rintro⟨(b:SBuilder),_⟩ hp;refine ho (.ob (True)<|.ob (BK (0+b.bj.length) 8)<|lpx (Cv b) ((⟨[],[]++b.bj⟩:SBuilder),((0:Int),(b,(default,())))) fun(y2:SBuilder×Int×SBuilder×SBuilder×PUnit) bk2=>let q2_:=inB y2.2.1 y2.2.2.1.bh.length;let q0_:=y2.2.2.1.bh.getD y2.2.1.toNat default;.br (decide (y2.2.1<(y2.2.2.1.bh.length:Int))) (.ob q2_<|.ob q2_<|.cl fCopyAttrs (q0_.bn,()) fun z2=>let q1_:=(⟨q0_.name,q0_.text,q0_.parent,z2.1⟩:SNode);.ob (BK (y2.1.bh.length+[q1_].length) 64)<|.ob (bk2 ((⟨y2.1.bh++[q1_],y2.1.bj⟩:SBuilder),(w1 y2.2.1,(y2.2.2.1,(y2.2.2.2.1,())))))<|.ok) (.lf fCopyBuilder (y2.1,()))) ?_;refine Aa trivial fun _=>Aa ?_ fun o1=>Aw ?_ fun(y2:SBuilder×Int×SBuilder×SBuilder×PUnit) i2=>Ab (fun h3=>Aa ?_ fun o4=>Aa ?_ fun o5=>Ae ?_ fun o6=>(Aa ?_ fun o7=>Aa ?_ fun o8=>trivial)) (fun h3=>lfY ?_)
 all_goals
  have hl:=Ad szNode b.bh;try have hg:=GZ (l:=b.bh) (i:=y1.2.1.toNat)
  try have hg:=GZ (l:=b.bh) (i:=y2.2.1.toNat)
  try simp only[AA] at *
  try simp only[Cv,fCopyAttrs,fCopyBuilder,std,Nat.reduceAdd,fCopyAttrs,take_succ,builder_take,szBuilder] at *
  try simp(disch:=omega) only[wrapId',toNat1] at *
  try simp(disch:=omega) only[Qa2,Qa3]
 all_goals first|trivial|omega|grind[wrapId',toNat1,drop_cons,drop_end,good_len,maxLen,fCopyAttrs,take_succ,builder_take,szBuilder])
abbrev Bz (b:SBuilder):LInv:=⟨[⟨.b,3,true,.el .ba⟩,⟨.s,14,true,.el .int⟩,⟨.b,2,true,.el .ba⟩],fun(z_ x_:SBuilder×Int×SBuilder×Unit)=>(0<=x_.2.1/\x_.2.1<=b.bh.length/\x_.1=⟨b.bh.take x_.2.1.toNat,b.bj⟩)/\x_.2.2.1=z_.2.2.1,fun(x_:SBuilder×Int×SBuilder×Unit)=>b.bh.length-x_.2.1.toNat⟩
def Ami:=Ah4.a fCopyBuilder<|Fct.p (KP [1,2,3,5,12,13,14] [15]) (fun⟨b,_⟩=>lv [(3,Bz b)]) Ah4.2 func205 (by
 rintro⟨(b:SBuilder),_⟩ hp;refine ho (let q2_:=(b.bh.length:Int);.ob (True)<|.ob (BK (0+b.bj.length) 8)<|lpx (Bz b) ((⟨[],[]++b.bj⟩:SBuilder),((0:Int),(default,()))) fun(y2:SBuilder×Int×SBuilder×PUnit) bk2=>let q0_:=b.bh.getD y2.2.1.toNat default;let q1_:=(⟨q0_.name,q0_.text,q0_.parent,[]++q0_.bn⟩:SNode);.br (decide (y2.2.1<q2_)) (.ob (inB y2.2.1 b.bh.length)<|.ob (True)<|.ob (BK (0+q0_.bn.length) 32)<|.ob (BK (y2.1.bh.length+[q1_].length) 64)<|.ob (b.bh=b.bh)<|.ob (Value.int IntKind.i64 q2_=Value.int IntKind.i64 q2_)<|.ob (bk2 ((⟨y2.1.bh++[q1_],y2.1.bj⟩:SBuilder),(w1 y2.2.1,(y2.2.2.1,()))))<|.ok) (.lf fCopyBuilder (y2.1,()))) ?_;refine Aa trivial fun _=>Aa ?_ fun o1=>Aw ?_ fun(y2:SBuilder×Int×SBuilder×PUnit) i2=>Ab (fun h3=>Aa ?_ fun o4=>Aa trivial fun _=>Aa ?_ fun o5=>Aa ?_ fun o6=>Aa rfl fun _=>Aa rfl fun _=>Aa ?_ fun o7=>trivial) (fun h3=>lfY ?_)
 all_goals
  have hl:=Ad szNode b.bh;try have hg:=GZ (l:=b.bh) (i:=y1.2.1.toNat)
  try have hg:=GZ (l:=b.bh) (i:=y2.2.1.toNat)
  try simp only[AA] at *
  try simp only[Bz,fCopyBuilder,std,Nat.reduceAdd,fCopyAttrs,take_succ,builder_take,szBuilder] at *
  try simp(disch:=omega) only[wrapId',toNat1] at *
  try simp(disch:=omega) only[Qa2,Qa3]
 all_goals first|trivial|omega|grind[wrapId',toNat1,drop_cons,drop_end,good_len,maxLen,fCopyAttrs,take_succ,builder_take,szBuilder])
def fCopyPolicy:Fct:=⟨[.v (.el .bi)],[.el .bi],fun(x_:SPolicy×Unit)=>szPolicy x_.1<=1099511627776,fun(x_:SPolicy×Unit)=>(x_.1,())⟩
def Aiv:=Ami.a fCopyPolicy<|Fct.o [1,2] Ami.2 func188 (by
 rintro⟨(p:SPolicy),_⟩ hp;refine ho (.ob (True)<|.ob (BK p.bo.length 16)<|.ob (True)<|.ob (BK p.styles.length 16)<|.ob (True)<|.ob (BK p.images.length 16)<|.lf fCopyPolicy (p,())) ?_;refine Aa trivial fun _=>Aa ?_ fun o1=>Aa trivial fun _=>Aa ?_ fun o2=>Aa trivial fun _=>Aa ?_ fun o3=>lfY ?_
 all_goals
  have hl1:=Ad Ac p.bo;have hl2:=Ad Ac p.styles;have hl3:=Ad Ac p.images;try simp only[AA] at *
  try simp only[fCopyPolicy,std,Nat.reduceAdd,szPolicy] at *
  try simp(disch:=omega) only[wrapId',toNat1] at *
  try simp(disch:=omega) only[Qa2,Qa3]
 all_goals first|trivial|omega|grind[wrapId',toNat1,drop_cons,drop_end,good_len,maxLen,szPolicy])
def Amk:=Aiv.a fCopyPolicy<|Fct.o [1,2] Aiv.2 func203 (by
 rintro⟨(p:SPolicy),_⟩ hp;refine ho (.ob (True)<|.ob (BK (0+p.bo.length) 16)<|.ob (True)<|.ob (BK (0+p.styles.length) 16)<|.ob (True)<|.ob (BK (0+p.images.length) 16)<|.lf fCopyPolicy (⟨p.set_,[]++p.bo,[]++p.styles,[]++p.images,p.nonce⟩,())) ?_;refine Aa trivial fun _=>Aa ?_ fun o1=>Aa trivial fun _=>Aa ?_ fun o2=>Aa trivial fun _=>Aa ?_ fun o3=>lfY ?_
 all_goals
  have hl1:=Ad Ac p.bo;have hl2:=Ad Ac p.styles;have hl3:=Ad Ac p.images;try simp only[AA] at *
  try simp only[fCopyPolicy,std,Nat.reduceAdd,szPolicy] at *
  try simp(disch:=omega) only[wrapId',toNat1] at *
  try simp(disch:=omega) only[Qa2,Qa3]
 all_goals first|trivial|omega|grind[wrapId',toNat1,drop_cons,drop_end,good_len,maxLen,szPolicy])
def fCopyPage:Fct:=⟨[.v (.el .page)],[.el .page],fun(x_:SPage×Unit)=>szPage x_.1<=1099511627776,fun(x_:SPage×Unit)=>(x_.1,())⟩
theorem q0 (p:SPage) (hp:fCopyPage.pre (p,())):Out.holds (fCopyPage.ctr (p,())).post (.cl fCopyPolicy (p.bi,()) fun z2=>.cl fCopyTokens (p.bm,()) fun z3=>.cl fCopyBuilder (p.ba,()) fun z4=>.ob (True)<|.ob (BK (0+p.bd.length) 96)<|.ob (True)<|.ob (BK (0+p.bg.length) 64)<|.ob (True)<|.ob (BK (0+p.bf.length) 32)<|.ob (True)<|.ob (BK (0+p.ran.length) 32)<|.ob (True)<|.ob (BK (0+p.log.length) 16)<|.lf fCopyPage (⟨p.addr,z2.1,p.tok,z3.1,p.ended,z4.1,[]++p.bd,[]++p.bg,[]++p.bf,p.block,p.inline,p.bl,p.bp,[]++p.ran,[]++p.log,p.loaded⟩,())):=by
 repeat' first|(guard_target =~ Out.holds _ _;first|refine lfY ?_|refine Ae ?_ fun _=>?_|refine Aa ?_ fun _=>?_)|exact trivial
 all_goals
  have hl1:=Ad AI p.bd;have hl2:=Ad Ar p.bg;have hl3:=Ad szAddr p.bf;have hl4:=Ad szAddr p.ran;have hl5:=Ad Ac p.log;try simp only[AA] at *
  try simp only[fCopyBuilder,fCopyPage,fCopyPolicy,fCopyTokens,std,Nat.reduceAdd,szPage,fCopyPolicy,fCopyTokens,fCopyBuilder] at *
  try simp(disch:=omega) only[wrapId',toNat1] at *
  try simp(disch:=omega) only[Qa2,Qa3]
 all_goals first|trivial|omega|grind[wrapId',toNat1,drop_cons,drop_end,good_len,maxLen,szPage,fCopyPolicy,fCopyTokens,fCopyBuilder]
def Ajb:=Amk.a fCopyPage<|Fct.o [1,2,3] Amk.2 func83 (by
 rintro⟨(p:SPage),_⟩ hp;exact ho _ (q0 p hp))
def Al4:=Ajb.a fCopyPage<|Fct.o [1,2] Ajb.2 func101 (by
 rintro⟨(p:SPage),_⟩ hp;exact ho _ (q0 p hp))
def AT:Fct:=⟨[.v (.el .addr),.v (.el .addr)],[.el .int],fun(x_:SAddr×SAddr×Unit)=>True,fun(x_:SAddr×SAddr×Unit)=>(cmpA x_.1 x_.2.1,())⟩
def AmH:=Al4.a AT<|Fct.o (KP [2,3,4] [5,9]) Al4.2 func316 (by
 rintro⟨(a:SAddr),(b:SAddr),_⟩ hp;refine ho (.br (a.host==b.host&&(a.path==b.path&&true)) (.lf AT ((0:Int),())) (.br (Op.bytesLess a.host.toList b.host.toList) (.lf AT ((-1:Int),())) (.br (a.host.toList==b.host.toList) (.br (Op.bytesLess a.path.toList b.path.toList) (.lf AT ((-1:Int),())) (.lf AT ((1:Int),()))) (.lf AT ((1:Int),()))))) ?_;repeat' (guard_target =~ Out.holds _ _;first|refine lfY ?_|refine Ab (fun _=>?_) fun _=>?_)
 all_goals try simp only[Dk,XO,Qa7,Qb0] at *
 all_goals
  have h1:=I1 a.host b.host;have h2:=I1 a.path b.path;have h3:=US a b;have h4:=AcR (a:=a) (b:=b);have h5:=Lv (a:=a.host) (b:=b.host);have h6:=Lv (a:=a.path) (b:=b.path);try simp only[AA] at *
  try simp only[AT,std,Nat.reduceAdd,cmpA] at *
  try simp(disch:=omega) only[wrapId',toNat1] at *
  try simp(disch:=omega) only[Qa2,Qa3]
 all_goals first|trivial|omega|grind[wrapId',toNat1,drop_cons,drop_end,good_len,maxLen,cmpA])
def laysCmp_r:Go.Shelf.Ren:=⟨fun|0=>0|1=>1|2=>2|99=>504|101=>294|103=>288|106=>344|109=>418|110=>380|129=>465|137=>442|138=>385|143=>386|145=>339|146=>287|156=>291|165=>341|166=>342|169=>343|171=>381|172=>453|195=>421|197=>422|205=>487|206=>387|208=>347|210=>338|213=>392|217=>446|218=>423|219=>424|220=>388|221=>337|224=>448|225=>447|240=>390|241=>391|243=>419|244=>462|245=>463|246=>444|247=>472|260=>445|265=>427|266=>458|267=>449|268=>384|276=>425|277=>426|279=>473|280=>474|281=>475|282=>476|283=>454|284=>455|285=>456|286=>457|287=>485|314=>459|316=>486|317=>464|318=>466|319=>467|320=>468|321=>494|322=>495|337=>477|338=>478|347=>513|348=>514|349=>515|350=>516|351=>517|352=>518|353=>519|354=>520|355=>521|356=>522|357=>523|358=>524|359=>525|360=>526|361=>527|362=>528|363=>542|364=>529|365=>530|366=>543|367=>558|_=>0,fun|0=>0|1=>1|2=>2|3=>3|4=>4|5=>5|6=>6|7=>7|8=>8|9=>9|10=>10|11=>11|12=>12|13=>13|14=>14|15=>15|16=>16|17=>17|18=>18|19=>19|20=>20|21=>21|22=>328|23=>338|24=>261|25=>330|27=>385|28=>38|30=>224|31=>31|32=>423|33=>403|34=>283|36=>404|37=>291|43=>149|46=>442|47=>480|51=>456|52=>490|53=>447|54=>448|55=>396|59=>370|60=>371|61=>329|67=>334|69=>432|70=>376|71=>377|72=>378|73=>379|74=>380|75=>381|76=>382|77=>383|80=>384|81=>547|83=>201|84=>441|85=>485|86=>486|94=>568|101=>113|102=>94|103=>368|104=>296|105=>424|106=>425|108=>509|111=>479|113=>369|114=>256|119=>452|127=>407|128=>475|131=>435|137=>453|138=>454|139=>455|143=>527|144=>528|145=>529|146=>457|150=>406|151=>458|164=>426|165=>427|166=>428|167=>484|168=>487|169=>488|170=>489|171=>446|172=>449|173=>450|174=>451|175=>505|176=>506|209=>507|210=>508|211=>476|212=>477|213=>478|214=>526|232=>510|233=>511|238=>542|239=>543|240=>544|241=>545|242=>546|243=>548|244=>549|245=>550|246=>551|247=>552|248=>553|249=>554|_=>0,fun|1=>0|3=>1|4=>2|15=>4|16=>5|17=>3|18=>6|19=>7|_=>0⟩
theorem Adf:Go.Proofs.Lays.n106 Tryz.prog laysCmp_r:=by repeat' first|kernel_rfl|constructor|intro _
def Ala:=AmH.a fCmpStr<|Ady rfl (Any.strings_Compare Adf)
def AkZ:=Ala.a AT<|Fct.o (KP [2,3,4,5] [12]) Ala.2 func292 (by
 rintro⟨(a:SAddr),(b:SAddr),_⟩ hp;refine ho (.cl fCmpStr (a.host,b.host,()) fun(z2:Int×PUnit)=>.br (z2.1 != 0) (.lf AT (z2.1,())) (.cl fCmpStr (a.path,b.path,()) fun(z3:Int×PUnit)=>.lf AT (z3.1,()))) ?_;refine Ae trivial fun _=>(Ab (fun h1=>lfY ?_) (fun h1=>Ae trivial fun _=>(lfY ?_)))
 all_goals
  try simp only[AA] at *
  try simp only[fCmpStr,AT,std,Nat.reduceAdd,cmpA,fCmpStr] at *
  try simp(disch:=omega) only[wrapId',toNat1] at *
  try simp(disch:=omega) only[Qa2,Qa3]
 all_goals first|trivial|omega|grind[wrapId',toNat1,drop_cons,drop_end,good_len,maxLen,cmpA,fCmpStr])
def Ca:Fct:=⟨[.v (.el .page),.v (.el .addr)],[.el .int],fun(x_:SPage×SAddr×Unit)=>x_.1.bg.length<=1000000000000,fun(x_:SPage×SAddr×Unit)=>(fidx (fun m=>decide (m.to=x_.2.1)) x_.1.bg 0,())⟩
abbrev Dq (p:SPage) (a:SAddr):LInv:=⟨[⟨.s,5,true,.el .int⟩,⟨.b,2,false,.el .page⟩,⟨.b,3,true,.el .addr⟩],fun(z_ x_:Int×SPage×SAddr×Unit)=>((0<=x_.1/\x_.1<=p.bg.length/\fidx (fun m=>decide (m.to=a)) (p.bg.drop x_.1.toNat) x_.1=fidx (fun m=>decide (m.to=a)) p.bg 0)/\x_.2.1=z_.2.1)/\x_.2.2.1=z_.2.2.1,fun(x_:Int×SPage×SAddr×Unit)=>p.bg.length-x_.1.toNat⟩
def AiK:=AkZ.a Ca<|Fct.p (KP [2,3,4,5] [10,20]) (fun⟨p,a,_⟩=>lv [(2,Dq p a)]) AkZ.2 func248 (by
 rintro⟨(p:SPage),(a:SAddr),_⟩ hp;refine ho (lpx (Dq p a) ((0:Int),(p,(a,()))) fun(y1:Int×SPage×SAddr×PUnit) bk1=>.br (decide (y1.1<(y1.2.1.bg.length:Int))) (.ob (inB y1.1 y1.2.1.bg.length)<|.br ((y1.2.1.bg.getD y1.1.toNat default).to.host==y1.2.2.1.host&&((y1.2.1.bg.getD y1.1.toNat default).to.path==y1.2.2.1.path&&true)) (.lf Ca (y1.1,())) (.ob (bk1 (w1 y1.1,(y1.2.1,(y1.2.2.1,()))))<|.ok)) (.lf Ca ((-1:Int),()))) ?_;refine Aw ?_ fun(y1:Int×SPage×SAddr×PUnit) i1=>Ab (fun h2=>Aa ?_ fun o3=>Ab (fun h4=>lfY ?_) (fun h4=>Aa ?_ fun o5=>trivial)) (fun h2=>lfY ?_)
 all_goals
  try simp only[Dk] at *
  try simp only[AA] at *
  try simp only[Dq,Ca,std,Nat.reduceAdd,fidx] at *
  try simp(disch:=omega) only[wrapId',toNat1] at *
  try simp(disch:=omega) only[Qa2,Qa3]
 all_goals first|trivial|omega|grind[wrapId',toNat1,drop_cons,drop_end,good_len,maxLen,fidx])
def fModAt1:Fct:=⟨[.v (.el .module),.p (.el .addr)],[.el .bool],fun(x_:SModule×SAddr×Unit)=>True,fun(x_:SModule×SAddr×Unit)=>(decide (x_.1.to=x_.2.1),())⟩
def Ai2:=AiK.a fModAt1<|Fct.o [1,2,3] AiK.2 func283 (by
 rintro⟨(m:SModule),(a:SAddr),_⟩ hp;refine ho (.lf fModAt1 (m.to.host==a.host&&(m.to.path==a.path&&true),())) ?_;refine lfY ?_;all_goals
  try simp only[Dk] at *
  try simp only[AA] at *
  try simp only[fModAt1,std,Nat.reduceAdd] at *
  try simp(disch:=omega) only[wrapId',toNat1] at *
  try simp(disch:=omega) only[Qa2,Qa3]
 all_goals first|trivial|omega|grind[wrapId',toNat1,drop_cons,drop_end,good_len,maxLen])
def AO:Fct:=⟨[aL .module,.c 283 [.el .addr]],[rI],fun x=>x.1.length<=1000000000000000000/\∀ c,fModAt1.pre (c,x.2.1),fun x=>(fidx (fun c=>(fModAt1.fn (c,x.2.1)).1) x.1 0,())⟩
abbrev Aj (l:(List SModule)) (u:(SAddr×Unit)):LInv:=⟨[⟨.s,8,true,.el .int⟩],fun _ (x_:Int×Unit)=>0<=x_.1/\x_.1<=l.length/\fidx (fun c=>(fModAt1.fn (c,u)).1) l 0=fidx (fun c=>(fModAt1.fn (c,u)).1) (l.drop x_.1.toNat) x_.1,fun(x_:Int×Unit)=>l.length-x_.1.toNat⟩
def Akk:=Ai2.a AO<|Fct.p (KP [0,1,4,5,7,8] [9,16]) (fun⟨l,u,_⟩=>lv [(2,Aj l u)]) Ai2.2 func282 (by
 rintro⟨(l:List SModule),(u:SAddr×PUnit),_⟩ hp;refine ho (lpx (Aj l u) ((0:Int),()) fun(y1:Int×PUnit) bk1=>.br (decide (y1.1<(l.length:Int))) (.ob (inB y1.1 l.length)<|.cl fModAt1 (l.getD y1.1.toNat default,u.1,()) fun z2=>.br (z2.1) (.lf AO (y1.1,())) (.ob (l=l)<|.ob (enc Ty.addr u.1=enc Ty.addr u.1)<|.ob (Value.int IntKind.i64 (l.length:Int)=Value.int IntKind.i64 (l.length:Int))<|.ob (bk1 (w1 y1.1,()))<|.ok)) (.lf AO ((-1:Int),()))) ?_;refine Aw ?_ fun(y1:Int×PUnit) i1=>Ab (fun h2=>Aa ?_ fun o3=>Ae trivial fun _=>(Ab (fun h4=>lfY ?_) (fun h4=>Aa rfl fun _=>Aa rfl fun _=>Aa rfl fun _=>Aa ?_ fun o5=>trivial))) (fun h2=>lfY ?_)
 all_goals
  try simp only[AA] at *
  try simp only[Aj,AO,fModAt1,std,Nat.reduceAdd] at *
  try have hp2:=hp.2
  try have hp1:=hp.1
 all_goals first|trivial|omega|grind[wrapId',toNat1,drop_cons,drop_end,good_len,maxLen,fidx])
def Ajv:=Akk.a Ca<|Fct.o [2,3,4] Akk.2 func209 (by
 rintro⟨(p:SPage),(a:SAddr),_⟩ hp;refine ho (.cl AO (p.bg,(a,()),()) fun(z2:Int×PUnit)=>.lf Ca (z2.1,())) ?_;refine Ae ?_ fun o1=>(lfY ?_)
 all_goals
  try simp only[AA] at *
  try simp only[AO,Ca,std,Nat.reduceAdd,fModAt1] at *
  try simp(disch:=omega) only[wrapId',toNat1] at *
  try simp(disch:=omega) only[Qa2,Qa3]
 all_goals first|trivial|omega|grind[wrapId',toNat1,drop_cons,drop_end,good_len,maxLen,fModAt1])
theorem JD {l:List SServer} {i:Nat} (h:i<l.length):(l.getD i default).files.length+l.length<=szL Bj l:=by
 have:=DO Bj h;have h2:=Ad Eb (l.getD i default).files;simp only[Bj] at this;omega
def Ac7:Fct:=⟨[aI,aI],[rI],fun _=>True,fun(x:Int×Int×Unit)=>(min x.1 x.2.1,())⟩
def AjX:=Ajv.a Ac7<|Fct.o (KP [0,1,4] [7]) Ajv.2 func369 (by
 rintro⟨(a:Int),(b:Int),_⟩ hp;refine ho (.br (decide (b<a)) (.lf Ac7 (b,())) (.lf Ac7 (a,()))) ?_;refine Ab (fun h1=>lfY ?_) (fun h1=>lfY ?_);all_goals
  try simp only[AA] at *
  try simp only[Ac7,std,Nat.reduceAdd] at *
 all_goals first|trivial|omega|(simp_all;done)|(simp_all;omega)|grind)
theorem AdH {α:Type} (f:α->Nat) (l m:List α):szL f (l++m)=szL f l+szL f m:=by simp[szL];omega
theorem MZ {α:Type} (f:α->Nat) (l:List α) (n:Nat):szL f (l.drop n)<=szL f l:=by
 have h:=AdH f (l.take n) (l.drop n);rw[Qd5] at h;omega
def fDelConn:GS:=⟨[.g (.sl .conn),.l (.v (.el .int)),.l (.v (.el .int))],[.sl .conn],fun(x_:(List SConn)×Int×Int×Unit)=>0<=x_.2.1/\x_.2.1<x_.2.2.1/\x_.2.2.1<=x_.1.length/\x_.1.length<=1048576,fun(x_:(List SConn)×Int×Int×Unit)=>((x_.1.take x_.2.1.toNat++x_.1.drop x_.2.2.1.toNat,()),(()))⟩
theorem AbS {l:List SConn} {i j:Int} (h0:0<=i) (hi:i<=j) (hj:j<=l.length) (ys:List SConn) {k k' m n j':Nat} (hjj:j'=j.toNat) (hm:m=l.length-j.toNat) (hk:k=i.toNat+m) (hk':k'=k) (hn:n=i.toNat):l.take i.toNat++l.drop j.toNat=cut (I9 (I9 l n (cut l j' m)) k ys) 0 k':=by
 subst hjj;subst hk';subst hk;subst hn;rw[Aa7 _ _ _ (by rw[HJ,IM];omega),Yb (by omega) (by omega) hm]
theorem XB {l:List SConn} {i:Int} (h0:0<=i) (hj:i<l.length) {k m n j':Nat} (hjj:j'=i.toNat+1) (hm:m=l.length-j') (hk:k=i.toNat+m) (hn:n=i.toNat):cut (I9 l n (cut l j' m)) 0 k=l.take i.toNat++l.drop (i.toNat+1):=by
 subst hk;subst hn;rw[show cut (I9 l i.toNat (cut l j' m)) 0 (i.toNat+m)=(I9 l i.toNat (cut l j' m)).take (i.toNat+m) from rfl,Yb (by omega) (by omega) hm,hjj]
def Aj3:=AjX.G fDelConn<|GS.of (S:=fDelConn) (L:=fun _ _=>none) (kp:=(KP [0,1,2,6,7] [16])) AjX.2 func106 (by kernel_rfl) (by kernel_rfl) (by
 rintro⟨(l:List SConn),(i:Int),(j:Int),_⟩ hp;refine ho (let q4_:=List.length l-Int.toNat j;let q2_:=(↑(List.length l):Int);let q1_:=I9 l (Int.toNat i-0) (cut l (Int.toNat j) q4_);let q0_:=Int.toNat i-0+q4_;let q5_:=q2_.toNat-(q0_:Int).toNat;let q3_:=I9 q1_ (0+(q0_:Int).toNat) (List.replicate q5_ default);.ob (0<=i/\i<=j/\j<=q2_/\q2_<=q2_)<|.br (i==j) (GS.out fDelConn ((l,()),(()))) (.ob (0<=i/\i<=q2_)<|.ob (0<=j/\j<=q2_)<|.ob (0=0/\0<List.length l/\Int.toNat j+q4_<=List.length l/\Int.toNat i-0+q4_<=List.length l)<|.ob ((0:Int)<=(q0_:Int)/\(q0_:Int)<=q2_/\q2_<=(↑(q1_.length-0):Int))<|.ob (0+(q0_:Int).toNat+q5_<=q1_.length)<|.ob (0+q0_<=q3_.length)<|GS.out fDelConn ((cut q3_ 0 q0_,()),(())))) ?_;repeat' (guard_target =~ Out.holds _ _;first|refine GS.leafY ?_|refine Ab (fun _=>?_) fun _=>?_|refine Aa ?_ fun _=>?_)
 all_goals
  try simp only[AA] at *
  try simp only[fDelConn,std,Nat.reduceAdd] at *
 all_goals first|omega|(simp only[HJ,IM,List.length_replicate] at *;omega)|exact(AbS (by omega) (by omega) (by omega) _ rfl rfl (by omega) (by omega) (by omega)).symm)
def closeConn (l:List SConn) (i:Int):List SConn:=if 0<=i/\i<l.length then l.take i.toNat++l.drop (i.toNat+1) else l
def BQ:Fct:=⟨[.v (.sl .conn),.v (.el .int)],[.sl .conn],fun(x_:(List SConn)×Int×Unit)=>x_.1.length<=1048576,fun(x_:(List SConn)×Int×Unit)=>(closeConn x_.1 x_.2.1,())⟩
def All:=Aj3.a BQ<|Fct.o (KP [0,1,4,5] [14]) Aj3.2 func85 (by
 rintro⟨(l:List SConn),(i:Int),_⟩ hp;refine ho (let q2_:=(↑([]++l).length:Int);let q0_:=([]++l).length-(w1 i).toNat;let q3_:=Int.toNat i-0+q0_;let q1_:=I9 ([]++l) (Int.toNat i-0) (cut ([]++l) (w1 i).toNat q0_);.ob (True)<|.ob (BK (0+List.length l) 112)<|.cl fInRange (i,(0:Int),wr ((↑(List.length l):Int)-(1:Int)),()) fun z2=>.br (!z2.1) (.lf BQ ([]++l,())) (.ob (0<=i/\i<=q2_)<|.ob (0<=w1 i/\w1 i<=q2_)<|.ob (0=0/\0<([]++l).length/\(w1 i).toNat+q0_<=([]++l).length/\Int.toNat i-0+q0_<=([]++l).length)<|.ob (0+q3_<=q1_.length)<|.lf BQ (cut q1_ 0 q3_,()))) ?_;refine Aa trivial fun _=>Aa ?_ fun o1=>Ae trivial fun _=>(Ab (fun h2=>lfY ?_) (fun h2=>Aa ?_ fun o3=>Aa ?_ fun o4=>Aa ?_ fun o5=>Aa ?_ fun o6=>lfY ?_))
 all_goals
  try simp only[AA] at *
  try simp only[BQ,fInRange,std,Nat.reduceAdd,closeConn,fInRange,inRange] at *
  try simp(disch:=omega) only[wrapId',toNat1] at *
  try simp(disch:=omega) only[Qa2,Qa3]
  try simp only[HJ,IM,List.length_replicate,Qa1,Qe4,Qa7,Qb0] at *
 all_goals first|omega|(rw[Qa3 (by omega)];done)|exact XB (by omega) (by omega) (by omega) (by omega) (by omega) (by omega))
def Ak7:=All.a BQ<|Fct.o (KP [0,1,4,5] [15]) All.2 func33 (by
 rintro⟨(l:List SConn),(i:Int),_⟩ hp;refine ho (.cl fCopyConns (l,()) fun z2=>.br (decide (i<0)) (.lf BQ (z2.1,())) (.br (decide (i>=(↑(List.length l):Int))) (.lf BQ (z2.1,())) (.ob (fDelConn.pre (z2.1,i,w1 i,()))<|.lt _ (fDelConn.fn (z2.1,i,w1 i,())) fun z3=>.lf BQ (z3.1.1,())))) ?_;refine Ae ?_ fun o1=>(Ab (fun h2=>lfY ?_) (fun h2=>Ab (fun h3=>lfY ?_) (fun h3=>Aa ?_ fun o4=>Dh (lfY ?_))))
 all_goals
  try simp only[AA] at *
  try simp only[BQ,fCopyConns,fDelConn,std,Nat.reduceAdd,closeConn,fDelConn,fInRange,inRange] at *
  try simp(disch:=omega) only[wrapId',toNat1] at *
  try simp(disch:=omega) only[Qa2,Qa3]
 all_goals first|trivial|omega|grind[wrapId',toNat1,drop_cons,drop_end,good_len,maxLen,closeConn,fDelConn,fInRange,inRange])
def nameByte (b:UInt8):Bool:=97<=b.toNat&&b.toNat<=122
def bts (s:ByteArray):List UInt8:=s.data.toList
theorem AeX (s:ByteArray):(bts s).length=s.size:=rfl
theorem Af0 {s:ByteArray} {i:Nat} (h:i<s.size):(bts s).drop i=s.data.getD i 0::(bts s).drop (i+1):=by
 have h2:i<s.data.size:=h;have e:s.data.getD i 0=s.data[i]:=by unfold Array.getD;rw[dif_pos h2];rfl
 rw[List.drop_eq_getElem_cons (by rw[AeX];exact h),e];rfl
theorem AdI {s:ByteArray} {i:Nat} (h:s.size<=i):(bts s).drop i=[]:=Qb6 h
def allB (p:UInt8->Bool) (l:List UInt8):Bool:=l.all p
theorem allB_at {p:UInt8->Bool} {s:ByteArray} {i:Nat} (h:i<s.size):allB p ((bts s).drop i)=(p (s.data.getD i 0)&&allB p ((bts s).drop (i+1))):=by rw[Af0 h];rfl
theorem allB_end {p:UInt8->Bool} {s:ByteArray} {i:Nat} (h:s.size<=i):allB p ((bts s).drop i)=true:=by rw[AdI h];rfl
def isName (s:ByteArray):Bool:=allB nameByte (bts s)&&decide (1<=s.size/\s.size<=8)
def fIsName:Fct:=⟨[.v (.el .str)],[.el .bool],fun(x_:ByteArray×Unit)=>x_.1.size<=1000000000000000000,fun(x_:ByteArray×Unit)=>(isName x_.1,())⟩
abbrev Do (s:ByteArray):LInv:=⟨[⟨.s,3,true,.el .int⟩],fun _ (x_:Int×Unit)=>0<=x_.1/\x_.1<=s.size/\allB nameByte ((bts s).drop x_.1.toNat)=allB nameByte (bts s),fun(x_:Int×Unit)=>s.size-x_.1.toNat⟩
def AjK:=Ak7.a fIsName<|Fct.p (KP [0,2,3] [7,19]) (fun⟨s,_⟩=>lv [(2,Do s)]) Ak7.2 func254 (by
 rintro⟨(s:ByteArray),_⟩ hp;refine ho (lpx (Do s) ((0:Int),()) fun(y1:Int×PUnit) bk1=>.br (decide (y1.1<(s.size:Int))) (.ob (0<=y1.1/\y1.1<(s.size:Int))<|.br (decide ((↑(s.data.getD y1.1.toNat 0).toNat:Int)<97)) (.lf fIsName (false,())) (.ob (0<=y1.1/\y1.1<(s.size:Int))<|.br (decide ((↑(s.data.getD y1.1.toNat 0).toNat:Int)>122)) (.lf fIsName (false,())) (.ob (Value.string s=Value.string s)<|.ob (bk1 (w1 y1.1,()))<|.ok))) (.cl fInRange ((s.size:Int),(1:Int),(8:Int),()) fun z2=>.lf fIsName (z2.1,()))) ?_;refine Aw ?_ fun(y1:Int×PUnit) i1=>Ab (fun h2=>Aa ?_ fun o3=>Ab (fun h4=>lfY ?_) (fun h4=>Aa ?_ fun o5=>Ab (fun h6=>lfY ?_) (fun h6=>Aa rfl fun _=>Aa ?_ fun o7=>trivial))) (fun h2=>Ae trivial fun _=>(lfY ?_))
 all_goals
  try simp only[AA] at *
  try simp only[Do,fInRange,fIsName,std,Nat.reduceAdd,isName,nameByte,fInRange,inRange,allB_at,allB_end] at *
  try simp(disch:=omega) only[wrapId',toNat1] at *
  try simp(disch:=omega) only[Qa2,Qa3]
 all_goals first|trivial|omega|grind[wrapId',toNat1,good_len,maxLen,isName,nameByte,fInRange,inRange,allB_at,allB_end])
abbrev Dm (s:ByteArray):LInv:=⟨[⟨.s,3,true,.el .int⟩],fun _ (x_:Int×Unit)=>0<=x_.1/\x_.1<=s.size/\allB nameByte ((bts s).drop x_.1.toNat)=allB nameByte (bts s),fun(x_:Int×Unit)=>s.size-x_.1.toNat⟩
def Amd:=AjK.a fIsName<|Fct.p (KP [0,2,3] [7,19]) (fun⟨s,_⟩=>lv [(2,Dm s)]) AjK.2 func259 (by
 rintro⟨(s:ByteArray),_⟩ hp;refine ho (lpx (Dm s) ((0:Int),()) fun(y1:Int×PUnit) bk1=>.br (decide (y1.1<(s.size:Int))) (.ob (0<=y1.1/\y1.1<(s.size:Int))<|.br (decide ((↑(s.data.getD y1.1.toNat 0).toNat:Int)<97)) (.lf fIsName (false,())) (.ob (0<=y1.1/\y1.1<(s.size:Int))<|.br (decide ((↑(s.data.getD y1.1.toNat 0).toNat:Int)>122)) (.lf fIsName (false,())) (.ob (Value.string s=Value.string s)<|.ob (bk1 (w1 y1.1,()))<|.ok))) (.cl fInRange ((s.size:Int),(1:Int),(8:Int),()) fun z2=>.lf fIsName (z2.1,()))) ?_;refine Aw ?_ fun(y1:Int×PUnit) i1=>Ab (fun h2=>Aa ?_ fun o3=>Ab (fun h4=>lfY ?_) (fun h4=>Aa ?_ fun o5=>Ab (fun h6=>lfY ?_) (fun h6=>Aa rfl fun _=>Aa ?_ fun o7=>trivial))) (fun h2=>Ae trivial fun _=>(lfY ?_))
 all_goals
  try simp only[AA] at *
  try simp only[Dm,fInRange,fIsName,std,Nat.reduceAdd,isName,nameByte,fInRange,inRange,allB_at,allB_end] at *
  try simp(disch:=omega) only[wrapId',toNat1] at *
  try simp(disch:=omega) only[Qa2,Qa3]
 all_goals first|trivial|omega|grind[wrapId',toNat1,good_len,maxLen,isName,nameByte,fInRange,inRange,allB_at,allB_end])
def valByte (b:UInt8):Bool:=(97<=b.toNat&&b.toNat<=122)||(48<=b.toNat&&b.toNat<=57)||b.toNat==47
def isValue (s:ByteArray):Bool:=allB valByte (bts s)&&decide (1<=s.size/\s.size<=20)
def fIsValue:Fct:=⟨[.v (.el .str)],[.el .bool],fun(x_:ByteArray×Unit)=>x_.1.size<=1000000000000000000,fun(x_:ByteArray×Unit)=>(isValue x_.1,())⟩
abbrev B1 (s:ByteArray):LInv:=⟨[⟨.s,3,true,.el .int⟩],fun _ (x_:Int×Unit)=>0<=x_.1/\x_.1<=s.size/\allB valByte ((bts s).drop x_.1.toNat)=allB valByte (bts s),fun(x_:Int×Unit)=>s.size-x_.1.toNat⟩
def Amv:=Amd.a fIsValue<|Fct.p (KP [0,2,3] [7,37]) (fun⟨s,_⟩=>lv [(2,B1 s)]) Amd.2 func396 (by
 rintro⟨(s:ByteArray),_⟩ hp;refine ho (let q5_:=(s.size:Int);lpx (B1 s) ((0:Int),()) fun(y1:Int×PUnit) bk1=>let q3_:=0<=y1.1/\y1.1<q5_;let q2_:=(↑(s.data.getD y1.1.toNat 0).toNat:Int);let q1_:Out:=.ob (Value.string s=Value.string s)<|.ob (bk1 (w1 y1.1,()))<|.ok;let q4_:Out:=.ob q3_<|.br (q2_ != 47) (.lf fIsValue (false,())) q1_;let q0_:Out:=.ob q3_<|.br (decide (q2_<48)) q4_ (.ob q3_<|.br (decide (q2_>57)) q4_ q1_);.br (decide (y1.1<q5_)) (.ob q3_<|.br (decide (q2_<97)) q0_ (.ob q3_<|.br (decide (q2_>122)) q0_ q1_)) (.cl fInRange (q5_,(1:Int),(20:Int),()) fun z2=>.lf fIsValue (z2.1,()))) ?_;repeat' first|(guard_target =~ Out.holds _ _;first|refine Aw (li:=B1 s) ?_ fun(y1:Int×PUnit) i1=>?_|refine lfY ?_|refine Ab (fun _=>?_) fun _=>?_|refine Ae ?_ fun _=>?_|refine Aa ?_ fun _=>?_)|exact trivial
 all_goals
  try simp only[AA] at *
  try simp only[B1,fInRange,fIsValue,std,Nat.reduceAdd,isValue,valByte,fInRange,inRange,allB_at,allB_end] at *
  try simp(disch:=omega) only[wrapId',toNat1] at *
  try simp(disch:=omega) only[Qa2,Qa3]
 all_goals first|trivial|omega|grind[wrapId',toNat1,good_len,maxLen,isValue,valByte,fInRange,inRange,allB_at,allB_end])
abbrev B2 (s:ByteArray):LInv:=⟨[⟨.s,3,true,.el .int⟩],fun _ (x_:Int×Unit)=>0<=x_.1/\x_.1<=s.size/\allB valByte ((bts s).drop x_.1.toNat)=allB valByte (bts s),fun(x_:Int×Unit)=>s.size-x_.1.toNat⟩
def AlZ:=Amv.a fIsValue<|Fct.p (KP [0,2,3] [7,38]) (fun⟨s,_⟩=>lv [(2,B2 s)]) Amv.2 func379 (by
 rintro⟨(s:ByteArray),_⟩ hp;refine ho (let q6_:=(s.size:Int);let q4_:Out:=.lf fIsValue (false,());lpx (B2 s) ((0:Int),()) fun(y1:Int×PUnit) bk1=>let q3_:=0<=y1.1/\y1.1<q6_;let q2_:=(↑(s.data.getD y1.1.toNat 0).toNat:Int);let q1_:Out:=.ob (Value.string s=Value.string s)<|.ob (bk1 (w1 y1.1,()))<|.ok;let q7_:Out:=.br (!true) q4_ q1_;let q5_:Out:=.ob q3_<|.br (!q2_==47) q4_ q1_;let q0_:Out:=.ob q3_<|.br (decide (q2_>=48)) (.ob q3_<|.br (decide (q2_<=57)) q7_ q5_) q5_;.br (decide (y1.1<q6_)) (.ob q3_<|.br (decide (q2_>=97)) (.ob q3_<|.br (decide (q2_<=122)) q7_ q0_) q0_) (.cl fInRange (q6_,(1:Int),(20:Int),()) fun z2=>.lf fIsValue (z2.1,()))) ?_;repeat' first|(guard_target =~ Out.holds _ _;first|refine Aw (li:=B2 s) ?_ fun(y1:Int×PUnit) i1=>?_|refine lfY ?_|refine Ab (fun _=>?_) fun _=>?_|refine Ae ?_ fun _=>?_|refine Aa ?_ fun _=>?_)|exact trivial
 all_goals
  try simp only[AA] at *
  try simp only[B2,fInRange,fIsValue,std,Nat.reduceAdd,isValue,valByte,fInRange,inRange,allB_at,allB_end] at *
  try simp(disch:=omega) only[wrapId',toNat1] at *
  try simp(disch:=omega) only[Qa2,Qa3]
 all_goals first|trivial|omega|grind[wrapId',toNat1,good_len,maxLen,isValue,valByte,fInRange,inRange,allB_at,allB_end])
def fIsAddr:Fct:=⟨[.v (.el .addr)],[.el .bool],fun(x_:SAddr×Unit)=>x_.1.host.size<=1000000000000000000/\x_.1.path.size<=1000000000000000000,fun(x_:SAddr×Unit)=>(isName x_.1.host&&isName x_.1.path,())⟩
theorem q1 (a:SAddr) (hp:fIsAddr.pre (a,())):Out.holds (fIsAddr.ctr (a,())).post (.cl fIsName (a.host,()) fun z2=>.br (z2.1) (.cl fIsName (a.path,()) fun z3=>.lf fIsAddr (z3.1,())) (.lf fIsAddr (false,()))):=by
 refine Ae ?_ fun o1=>(Ab (fun h2=>Ae ?_ fun o3=>(lfY ?_)) (fun h2=>lfY ?_))
 all_goals
  try simp only[AA] at *
  try simp only[fIsAddr,fIsName,std,Nat.reduceAdd,fIsName] at *
  try simp(disch:=omega) only[wrapId',toNat1] at *
  try simp(disch:=omega) only[Qa2,Qa3]
 all_goals first|trivial|omega|grind[wrapId',toNat1,drop_cons,drop_end,good_len,maxLen,fIsName]
def Amu:=AlZ.a fIsAddr<|Fct.o [1,2] AlZ.2 func166 (by
 rintro⟨(a:SAddr),_⟩ hp;exact ho _ (q1 a hp))
def Akx:=Amu.a fIsAddr<|Fct.o [1,2] Amu.2 func173 (by
 rintro⟨(a:SAddr),_⟩ hp;exact ho _ (q1 a hp))
theorem Ps {l:List ByteArray} {i:Nat} (h:i<l.length):(l.getD i default).size+l.length<=szL Ac l:=by
 have:=DO Ac h;simp only[Ac] at this;omega
def fNames:Fct:=⟨[.v (.sl .str)],[.el .bool],fun(x_:(List ByteArray)×Unit)=>szL Ac x_.1<=1099511627776,fun(x_:(List ByteArray)×Unit)=>(x_.1.all isName&&decide (x_.1.length<=4),())⟩
abbrev Dp (l:(List ByteArray)):LInv:=⟨[⟨.s,3,true,.el .int⟩],fun _ (x_:Int×Unit)=>0<=x_.1/\x_.1<=l.length/\(l.drop x_.1.toNat).all isName=l.all isName,fun(x_:Int×Unit)=>l.length-x_.1.toNat⟩
def AkV:=Akx.a fNames<|Fct.p (KP [0,2,3] [7,15]) (fun⟨l,_⟩=>lv [(2,Dp l)]) Akx.2 func395 (by
 rintro⟨(l:List ByteArray),_⟩ hp;refine ho (lpx (Dp l) ((0:Int),()) fun(y1:Int×PUnit) bk1=>.br (decide (y1.1<(l.length:Int))) (.ob (inB y1.1 l.length)<|.cl fIsName (l.getD y1.1.toNat default,()) fun z2=>.br (!z2.1) (.lf fNames (false,())) (.ob (l=l)<|.ob (bk1 (w1 y1.1,()))<|.ok)) (.lf fNames (decide ((l.length:Int)<=4),()))) ?_;refine Aw ?_ fun(y1:Int×PUnit) i1=>Ab (fun h2=>Aa ?_ fun o3=>Ae ?_ fun o4=>(Ab (fun h5=>lfY ?_) (fun h5=>Aa rfl fun _=>Aa ?_ fun o6=>trivial))) (fun h2=>lfY ?_)
 all_goals
  have hl:=Ad Ac l;have hg:∀ i,i<l.length->(l.getD i default).size<=1000000000000000000:=fun i h=>by have:=Ps h;have hp2:szL Ac l<=1099511627776:=hp;omega
  try simp only[AA] at *
  try simp only[Dp,fIsName,fNames,std,Nat.reduceAdd,fIsName] at *
  try simp(disch:=omega) only[wrapId',toNat1] at *
  try simp(disch:=omega) only[Qa2,Qa3]
 all_goals first|trivial|omega|grind[wrapId',toNat1,drop_cons,drop_end,good_len,maxLen,fIsName])
def fAreHosts1:Fct:=⟨[.v (.el .str)],[.el .bool],fun(x_:ByteArray×Unit)=>x_.1.size<=1000000000000000000,fun(x_:ByteArray×Unit)=>(!isName x_.1,())⟩
def Ai8:=AkV.a fAreHosts1<|Fct.o [0,2] AkV.2 func430 (by
 rintro⟨(s:ByteArray),_⟩ hp;refine ho (.cl fIsName (s,()) fun z2=>.lf fAreHosts1 (!z2.1,())) ?_;refine Ae ?_ fun o1=>(lfY ?_)
 all_goals
  try simp only[AA] at *
  try simp only[fAreHosts1,fIsName,std,Nat.reduceAdd,fIsName] at *
  try simp(disch:=omega) only[wrapId',toNat1] at *
  try simp(disch:=omega) only[Qa2,Qa3]
 all_goals first|trivial|omega|grind[wrapId',toNat1,drop_cons,drop_end,good_len,maxLen,fIsName])
def AP:Fct:=⟨[aL .str,.c 430 []],[rI],fun x=>x.1.length<=1000000000000000000/\∀ i,i<x.1.length->fAreHosts1.pre (x.1.getD i default,x.2.1),fun x=>(fidx (fun c=>(fAreHosts1.fn (c,x.2.1)).1) x.1 0,())⟩
abbrev Au (l:(List ByteArray)) (u:(Unit)):LInv:=⟨[⟨.s,8,true,.el .int⟩],fun _ (x_:Int×Unit)=>0<=x_.1/\x_.1<=l.length/\fidx (fun c=>(fAreHosts1.fn (c,u)).1) l 0=fidx (fun c=>(fAreHosts1.fn (c,u)).1) (l.drop x_.1.toNat) x_.1,fun(x_:Int×Unit)=>l.length-x_.1.toNat⟩
def AjI:=Ai8.a AP<|Fct.p (KP [0,1,4,5,7,8] [9,16]) (fun⟨l,u,_⟩=>lv [(2,Au l u)]) Ai8.2 func450 (by
 rintro⟨(l:List ByteArray),(u:PUnit),_⟩ hp;refine ho (lpx (Au l u) ((0:Int),()) fun(y1:Int×PUnit) bk1=>.br (decide (y1.1<(l.length:Int))) (.ob (inB y1.1 l.length)<|.cl fAreHosts1 (l.getD y1.1.toNat default,()) fun z2=>.br (z2.1) (.lf AP (y1.1,())) (.ob (l=l)<|.ob (Value.int IntKind.i64 (l.length:Int)=Value.int IntKind.i64 (l.length:Int))<|.ob (bk1 (w1 y1.1,()))<|.ok)) (.lf AP ((-1:Int),()))) ?_;refine Aw ?_ fun(y1:Int×PUnit) i1=>Ab (fun h2=>Aa ?_ fun o3=>Ae ?_ fun o4=>(Ab (fun h5=>lfY ?_) (fun h5=>Aa rfl fun _=>Aa rfl fun _=>Aa ?_ fun o6=>trivial))) (fun h2=>lfY ?_)
 all_goals
  try simp only[AA] at *
  try simp only[Au,fAreHosts1,AP,std,Nat.reduceAdd] at *
  try have hp2:=hp.2
  try have hp1:=hp.1
 all_goals first|trivial|omega|exact hp2 _ (by omega)|grind[wrapId',toNat1,drop_cons,drop_end,good_len,maxLen,fidx])
def fContainsFunc_str_impl_areHosts_1:Fct:=⟨[aL .str,.c 430 []],[rB],fun x=>x.1.length<=1000000000000000000/\∀ i,i<x.1.length->fAreHosts1.pre (x.1.getD i default,x.2.1),fun x=>(x.1.any (fun c=>(fAreHosts1.fn (c,x.2.1)).1),())⟩
def Alq:=AjI.a fContainsFunc_str_impl_areHosts_1<|Fct.o [0,1,4] AjI.2 func429 (by
 rintro⟨(l:List ByteArray),(u:PUnit),_⟩ hp;refine ho (.cl AP (l,(),()) fun(z2:Int×PUnit)=>.lf fContainsFunc_str_impl_areHosts_1 (decide (z2.1>=0),())) ?_;refine Ae ?_ fun o1=>(lfY ?_)
 all_goals
  try simp only[AA] at *
  try simp only[fContainsFunc_str_impl_areHosts_1,AP,std,Nat.reduceAdd] at *
 all_goals first|trivial|omega|exact hp|(rw[Bool.eq_iff_iff];exact decide_eq_true_iff.trans (NZ _ _ _ (by omega))))
def AlM:=Alq.a fNames<|Fct.o [0,2] Alq.2 func394 (by
 rintro⟨(l:List ByteArray),_⟩ hp;refine ho (.br (decide ((↑(List.length l):Int)<=4)) (.cl fContainsFunc_str_impl_areHosts_1 (l,(),()) fun z2=>.lf fNames (!z2.1,())) (.lf fNames (false,()))) ?_;refine Ab (fun h1=>Ae ?_ fun o2=>(lfY ?_)) (fun h1=>lfY ?_);all_goals
  have hl:=Ad Ac l;have hg:∀ i,i<l.length->(l.getD i default).size<=1000000000000000000:=fun i h=>by have:=Ps h;have hp2:szL Ac l<=1099511627776:=hp;omega
  have ha:(l.any fun c=>!isName c) = !(l.all isName):=by simp[List.any_eq_not_all_not]
  try simp only[AA] at *
  try simp only[fContainsFunc_str_impl_areHosts_1,fNames,std,Nat.reduceAdd,fContainsFunc_str_impl_areHosts_1,fAreHosts1] at *
  try simp(disch:=omega) only[wrapId',toNat1] at *
  try simp(disch:=omega) only[Qa2,Qa3]
 all_goals first|trivial|omega|grind[wrapId',toNat1,drop_cons,drop_end,good_len,maxLen,fContainsFunc_str_impl_areHosts_1,fAreHosts1])
def isPolicy (p:SPolicy):Bool:=if p.set_ then p.bo.all isName&&decide (p.bo.length<=4)&&(p.styles.all isName&&decide (p.styles.length<=4))&&(p.images.all isName&&decide (p.images.length<=4))&&(decide (p.nonce=⟨#[]⟩)||isValue p.nonce) else decide (p.bo.length=0/\p.styles.length=0/\p.images.length=0/\p.nonce=⟨#[]⟩)
def Bn:Fct:=⟨[.v (.el .bi)],[.el .bool],fun(x_:SPolicy×Unit)=>szPolicy x_.1<=1099511627776,fun(x_:SPolicy×Unit)=>(isPolicy x_.1,())⟩
theorem q2 (p:SPolicy) (hp:Bn.pre (p,())):Out.holds (Bn.ctr (p,())).post (.br (!p.set_) (.br ((p.bo.length:Int)==0) (.br ((p.styles.length:Int)==0) (.br ((p.images.length:Int)==0) (.lf Bn (p.nonce.toList==(⟨#[]⟩:ByteArray).toList,())) (.lf Bn (false,()))) (.lf Bn (false,()))) (.lf Bn (false,()))) (.cl fNames (p.bo,()) fun z2=>.br (z2.1) (.cl fNames (p.styles,()) fun z3=>.br (z3.1) (.cl fNames (p.images,()) fun z4=>.br (z4.1) (.br (p.nonce.toList==(⟨#[]⟩:ByteArray).toList) (.lf Bn (true,())) (.cl fIsValue (p.nonce,()) fun z5=>.lf Bn (z5.1,()))) (.lf Bn (false,()))) (.lf Bn (false,()))) (.lf Bn (false,())))):=by
 repeat' (guard_target =~ Out.holds _ _;first|refine lfY ?_|refine Ab (fun _=>?_) fun _=>?_|refine Ae ?_ fun _=>?_)
 all_goals
  try simp only[AA] at *
  try simp only[Bn,fIsValue,fNames,std,Nat.reduceAdd,isPolicy,fNames,fIsValue,szPolicy] at *
  try simp(disch:=omega) only[wrapId',toNat1] at *
  try simp(disch:=omega) only[Qa2,Qa3]
 all_goals first|trivial|omega|grind[wrapId',toNat1,drop_cons,drop_end,good_len,maxLen,isPolicy,fNames,fIsValue,szPolicy]
def Aj0:=AlM.a Bn<|Fct.o (KP [1,2] [5]) AlM.2 func351 (by
 rintro⟨(p:SPolicy),_⟩ hp;exact ho _ (q2 p hp))
def AjE:=Aj0.a Bn<|Fct.o (KP [1,2] [5]) Aj0.2 func348 (by
 rintro⟨(p:SPolicy),_⟩ hp;exact ho _ (q2 p hp))
def fAllows:Fct:=⟨[.v (.el .bi),.v (.el .int),.v (.el .str)],[.el .bool],fun(x_:SPolicy×Int×ByteArray×Unit)=>szPolicy x_.1<=1099511627776,fun(x_:SPolicy×Int×ByteArray×Unit)=>(!x_.1.set_||(if x_.2.1=2\/x_.2.1=5 then x_.1.bo.any (fun c=>decide (c=x_.2.2.1)) else if x_.2.1=3 then x_.1.styles.any (fun c=>decide (c=x_.2.2.1)) else if x_.2.1=4 then x_.1.images.any (fun c=>decide (c=x_.2.2.1)) else false),())⟩
def AiN:=AjE.a fAllows<|Fct.o (KP [1,2,3,6] [7,11,22,29]) AjE.2 func364 (by
 rintro⟨(p:SPolicy),(k:Int),(h:ByteArray),_⟩ hp;refine ho (.br (!p.set_) (.lf fAllows (true,())) (.br (k==2) (.cl fHas9 (p.bo,h,()) fun z2=>.lf fAllows (z2.1,())) (.br (k==5) (.cl fHas9 (p.bo,h,()) fun z3=>.lf fAllows (z3.1,())) (.br (k==3) (.cl fHas9 (p.styles,h,()) fun z4=>.lf fAllows (z4.1,())) (.br (k==4) (.cl fHas9 (p.images,h,()) fun z5=>.lf fAllows (z5.1,())) (.lf fAllows (false,()))))))) ?_;repeat' (guard_target =~ Out.holds _ _;first|refine lfY ?_|refine Ab (fun _=>?_) fun _=>?_|refine Ae ?_ fun _=>?_)
 all_goals
  have hl1:=Ad Ac p.bo;have hl2:=Ad Ac p.styles;have hl3:=Ad Ac p.images;try simp only[AA] at *
  try simp only[fAllows,fHas9,std,Nat.reduceAdd,fHas9,fContains_str,szPolicy] at *
  try simp(disch:=omega) only[wrapId',toNat1] at *
  try simp(disch:=omega) only[Qa2,Qa3]
 all_goals first|trivial|omega|grind[wrapId',toNat1,drop_cons,drop_end,good_len,maxLen,fHas9,fContains_str,szPolicy])
def Alb:=AiN.a fAllows<|Fct.o (KP [1,2,3,6,10,11] [9,18,24]) AiN.2 func334 (by
 rintro⟨(p:SPolicy),(k:Int),(h:ByteArray),_⟩ hp;refine ho (let q1_:Out:=.cl fContains_str (p.bo,h,()) fun z2=>.lf fAllows (z2.1,());let q0_:Out:=.br (k==3) (.cl fContains_str (p.styles,h,()) fun z3=>.lf fAllows (z3.1,())) (.br (k==4) (.cl fContains_str (p.images,h,()) fun z4=>.lf fAllows (z4.1,())) (.lf fAllows (false,())));.br (!p.set_) (.lf fAllows (true,())) (.br (k==2) (.br (k==2) q1_ q0_) (.br (k==5) q1_ q0_))) ?_;repeat' (guard_target =~ Out.holds _ _;first|refine lfY ?_|refine Ab (fun _=>?_) fun _=>?_|refine Ae ?_ fun _=>?_)
 all_goals
  have hl1:=Ad Ac p.bo;have hl2:=Ad Ac p.styles;have hl3:=Ad Ac p.images;try simp only[AA] at *
  try simp only[fAllows,fContains_str,std,Nat.reduceAdd,fHas9,fContains_str,szPolicy] at *
  try simp(disch:=omega) only[wrapId',toNat1] at *
  try simp(disch:=omega) only[Qa2,Qa3]
 all_goals first|trivial|omega|grind[wrapId',toNat1,drop_cons,drop_end,good_len,maxLen,fHas9,fContains_str,szPolicy])
def isRequest (r:SRequest):Bool:=inRange r.kind 1 5&&(isName r.to.host&&isName r.to.path)&&isName r.from_&&(decide (r.digest=⟨#[]⟩)||isValue r.digest)
def fIsRequest:Fct:=⟨[.v (.el .request)],[.el .bool],fun(x_:SRequest×Unit)=>szRequest x_.1<=1099511627776,fun(x_:SRequest×Unit)=>(isRequest x_.1,())⟩
theorem q3 (r:SRequest) (hp:fIsRequest.pre (r,())):Out.holds (fIsRequest.ctr (r,())).post (.cl fInRange (r.kind,(1:Int),(5:Int),()) fun z2=>.br (z2.1) (.cl fIsAddr (r.to,()) fun z3=>.br (z3.1) (.cl fIsName (r.from_,()) fun z4=>.br (z4.1) (.br (r.digest.toList==(⟨#[]⟩:ByteArray).toList) (.lf fIsRequest (true,())) (.cl fIsValue (r.digest,()) fun z5=>.lf fIsRequest (z5.1,()))) (.lf fIsRequest (false,()))) (.lf fIsRequest (false,()))) (.lf fIsRequest (false,()))):=by
 repeat' first|(guard_target =~ Out.holds _ _;first|refine lfY ?_|refine Ab (fun _=>?_) fun _=>?_|refine Ae ?_ fun _=>?_)|exact trivial
 all_goals
  try simp only[AA] at *
  try simp only[fInRange,fIsAddr,fIsName,fIsRequest,fIsValue,std,Nat.reduceAdd,isRequest,fIsName,fIsAddr,fIsValue,fInRange,szRequest,szAddr] at *
  try simp(disch:=omega) only[wrapId',toNat1] at *
  try simp(disch:=omega) only[Qa2,Qa3]
 all_goals first|trivial|omega|grind[wrapId',toNat1,drop_cons,drop_end,good_len,maxLen,isRequest,fIsName,fIsAddr,fIsValue,fInRange,szRequest,szAddr]
def Akm:=Alb.a fIsRequest<|Fct.o [1,2] Alb.2 func363 (by
 rintro⟨(r:SRequest),_⟩ hp;exact ho _ (q3 r hp))
def Ak4:=Akm.a fIsRequest<|Fct.o [1,2] Akm.2 func333 (by
 rintro⟨(r:SRequest),_⟩ hp;exact ho _ (q3 r hp))
def allows (p:SPolicy) (k:Int) (h:ByteArray):Bool:=(fAllows.fn (p,k,h,())).1
def checkRequest (p:SPolicy) (r:SRequest):Int:=if isRequest r&&(decide (r.kind=1)||allows p r.kind r.to.host) then 1 else 2
def fCheckRequest:Fct:=⟨[.v (.el .bi),.v (.el .request)],[.el .int],fun(x_:SPolicy×SRequest×Unit)=>szPolicy x_.1<=1099511627776/\szRequest x_.2.1<=1099511627776,fun(x_:SPolicy×SRequest×Unit)=>(checkRequest x_.1 x_.2.1,())⟩
theorem q4 (p:SPolicy) (r:SRequest) (hp:fCheckRequest.pre (p,r,())):Out.holds (fCheckRequest.ctr (p,r,())).post (.cl fIsRequest (r,()) fun z2=>.br (!z2.1) (.lf fCheckRequest ((2:Int),())) (.br (r.kind != 1) (.cl fAllows (p,r.kind,r.to.host,()) fun z3=>.br (!z3.1) (.lf fCheckRequest ((2:Int),())) (.lf fCheckRequest ((1:Int),()))) (.lf fCheckRequest ((1:Int),())))):=by
 refine Ae ?_ fun o1=>(Ab (fun h2=>lfY ?_) (fun h2=>Ab (fun h3=>Ae ?_ fun o4=>(Ab (fun h5=>lfY ?_) (fun h5=>lfY ?_))) (fun h3=>lfY ?_)))
 all_goals
  try simp only[AA] at *
  try simp only[fAllows,fCheckRequest,fIsRequest,std,Nat.reduceAdd,checkRequest,allows,fAllows,fIsRequest] at *
  try simp(disch:=omega) only[wrapId',toNat1] at *
  try simp(disch:=omega) only[Qa2,Qa3]
 all_goals first|trivial|omega|grind[wrapId',toNat1,drop_cons,drop_end,good_len,maxLen,checkRequest,allows,fAllows,fIsRequest]
def Ai6:=Ak4.a fCheckRequest<|Fct.o (KP [2,3,4] [22]) Ak4.2 func312 (by
 rintro⟨(p:SPolicy),(r:SRequest),_⟩ hp;exact ho _ (q4 p r hp))
def Akd:=Ai6.a fCheckRequest<|Fct.o (KP [2,3,4] [22]) Ai6.2 func284 (by
 rintro⟨(p:SPolicy),(r:SRequest),_⟩ hp;exact ho _ (q4 p r hp))
def fFitsKind:Fct:=⟨[.v (.el .bc),.v (.el .int)],[.el .bool],fun(x_:SResponse×Int×Unit)=>True,fun(x_:SResponse×Int×Unit)=>(decide (x_.1.kind=x_.2.1)||decide (x_.2.1=5/\x_.1.kind=2),())⟩
theorem q5 (x:SResponse) (k:Int) (hp:fFitsKind.pre (x,k,())):Out.holds (fFitsKind.ctr (x,k,())).post (.br (x.kind==k) (.lf fFitsKind (true,())) (.br (k==5) (.lf fFitsKind (x.kind==2,())) (.lf fFitsKind (false,())))):=by
 refine Ab (fun h1=>lfY ?_) (fun h1=>Ab (fun h2=>lfY ?_) (fun h2=>lfY ?_));all_goals
  try simp only[AA] at *
  try simp only[fFitsKind,std,Nat.reduceAdd] at *
  try simp(disch:=omega) only[wrapId',toNat1] at *
  try simp(disch:=omega) only[Qa2,Qa3]
 all_goals first|trivial|omega|grind[wrapId',toNat1,drop_cons,drop_end,good_len,maxLen]
def AkE:=Akd.a fFitsKind<|Fct.o [1,2,4] Akd.2 func313 (by
 rintro⟨(x:SResponse),(k:Int),_⟩ hp;exact ho _ (q5 x k hp))
def Akq:=AkE.a fFitsKind<|Fct.o [1,2,4] AkE.2 func285 (by
 rintro⟨(x:SResponse),(k:Int),_⟩ hp;exact ho _ (q5 x k hp))
def notFound:SResponse:=⟨404,1,⟨#[]⟩,0,false,⟨#[]⟩⟩
def fNotFound:Fct:=⟨[],[rE .bc],fun _=>True,fun _=>(notFound,())⟩
def Amz:=Akq.a fNotFound<|Fct.o [0] Akq.2 func159 (by
 rintro⟨_⟩ hp;refine ho (.lf fNotFound (⟨(404:Int),(1:Int),(⟨#[]⟩:ByteArray),(0:Int),false,(⟨#[]⟩:ByteArray)⟩,())) ?_;refine lfY ?_;all_goals
  try simp only[AA] at *
  try simp only[fNotFound,std,Nat.reduceAdd] at *
 all_goals first|trivial|omega|(simp_all;done)|(simp_all;omega)|grind)
def Aj2:=Amz.a fNotFound<|Fct.o [0] Amz.2 func172 (by
 rintro⟨_⟩ hp;refine ho (.lf fNotFound (⟨(404:Int),(1:Int),(⟨#[]⟩:ByteArray),(0:Int),false,(⟨#[]⟩:ByteArray)⟩,())) ?_;refine lfY ?_;all_goals
  try simp only[AA] at *
  try simp only[fNotFound,std,Nat.reduceAdd] at *
 all_goals first|trivial|omega|(simp_all;done)|(simp_all;omega)|grind)
def fCopyServers:Fct:=⟨[.v (.sl .server)],[.sl .server],fun(x_:(List SServer)×Unit)=>szL Bj x_.1<=68719476736,fun(x_:(List SServer)×Unit)=>(x_.1,())⟩
abbrev Cg (l:(List SServer)):LInv:=⟨[⟨.s,3,true,.sl .server⟩,⟨.s,4,true,.el .int⟩],fun _ (x_:(List SServer)×Int×Unit)=>0<=x_.2.1/\x_.2.1<=l.length/\x_.1=l.take x_.2.1.toNat,fun(x_:(List SServer)×Int×Unit)=>l.length-x_.2.1.toNat⟩
def Alp:=Aj2.a fCopyServers<|Fct.p (KP [0,2,3,4] [9]) (fun⟨l,_⟩=>lv [(3,Cg l)]) Aj2.2 func186 (by
 rintro⟨(l:List SServer),_⟩ hp;refine ho (lpx (Cg l) ([],((0:Int),())) fun(y1:List SServer×Int×PUnit) bk1=>.br (decide (y1.2.1<(l.length:Int))) (.ob (inB y1.2.1 l.length)<|.ob (inB y1.2.1 l.length)<|.ob (True)<|.ob (BK (l.getD y1.2.1.toNat default).files.length 80)<|.ob (BK (y1.1.length+[l.getD y1.2.1.toNat default].length) 40)<|.ob (l=l)<|.ob (bk1 (y1.1++[l.getD y1.2.1.toNat default],(w1 y1.2.1,())))<|.ok) (.lf fCopyServers (y1.1,()))) ?_;refine Aw ?_ fun(y1:List SServer×Int×PUnit) i1=>Ab (fun h2=>Aa ?_ fun o3=>Aa ?_ fun o4=>Aa trivial fun _=>Aa ?_ fun o5=>Aa ?_ fun o6=>Aa rfl fun _=>Aa ?_ fun o7=>trivial) (fun h2=>lfY ?_)
 all_goals
  have hl:=Ad Bj l;have hg:∀ i,i<l.length->(l.getD i default).files.length<=68719476736:=fun i h=>by have:=JD h;have hp2:szL Bj l<=68719476736:=hp;omega
  try simp only[AA] at *
  try simp only[Cg,fCopyServers,std,Nat.reduceAdd,take_succ,take_end] at *
  try simp(disch:=omega) only[wrapId',toNat1] at *
  try simp(disch:=omega) only[Qa2,Qa3]
 all_goals first|trivial|omega|grind[wrapId',toNat1,drop_cons,drop_end,good_len,maxLen,take_succ,take_end])
abbrev Bv (l:(List SServer)):LInv:=⟨[⟨.s,3,true,.sl .server⟩,⟨.s,9,true,.el .int⟩],fun _ (x_:(List SServer)×Int×Unit)=>0<=x_.2.1/\x_.2.1<=l.length/\x_.1=l.take x_.2.1.toNat,fun(x_:(List SServer)×Int×Unit)=>l.length-x_.2.1.toNat⟩
def Al7:=Alp.a fCopyServers<|Fct.p (KP [0,2,3,5,7,8,9] [10]) (fun⟨l,_⟩=>lv [(3,Bv l)]) Alp.2 func201 (by
 rintro⟨(l:List SServer),_⟩ hp;refine ho (lpx (Bv l) ([],((0:Int),())) fun(y1:List SServer×Int×PUnit) bk1=>.br (decide (y1.2.1<(l.length:Int))) (.ob (inB y1.2.1 l.length)<|.ob (True)<|.ob (BK (l.getD y1.2.1.toNat default).files.length 80)<|.ob (BK (y1.1.length+[l.getD y1.2.1.toNat default].length) 40)<|.ob (l=l)<|.ob (l=l)<|.ob (Value.int IntKind.i64 (l.length:Int)=Value.int IntKind.i64 (l.length:Int))<|.ob (bk1 (y1.1++[l.getD y1.2.1.toNat default],(w1 y1.2.1,())))<|.ok) (.lf fCopyServers (y1.1,()))) ?_;refine Aw ?_ fun(y1:List SServer×Int×PUnit) i1=>Ab (fun h2=>Aa ?_ fun o3=>Aa trivial fun _=>Aa ?_ fun o4=>Aa ?_ fun o5=>Aa rfl fun _=>Aa rfl fun _=>Aa rfl fun _=>Aa ?_ fun o6=>trivial) (fun h2=>lfY ?_)
 all_goals
  have hl:=Ad Bj l;have hg:∀ i,i<l.length->(l.getD i default).files.length<=68719476736:=fun i h=>by have:=JD h;have hp2:szL Bj l<=68719476736:=hp;omega
  try simp only[AA] at *
  try simp only[Bv,fCopyServers,std,Nat.reduceAdd,take_succ,take_end] at *
  try simp(disch:=omega) only[wrapId',toNat1] at *
  try simp(disch:=omega) only[Qa2,Qa3]
 all_goals first|trivial|omega|grind[wrapId',toNat1,drop_cons,drop_end,good_len,maxLen,take_succ,take_end])
def fCopyCache:Fct:=⟨[.v (.el .cache)],[.el .cache],fun(x_:SCache×Unit)=>szCache x_.1<=68719476736,fun(x_:SCache×Unit)=>(x_.1,())⟩
theorem q6 (c:SCache) (hp:fCopyCache.pre (c,())):Out.holds (fCopyCache.ctr (c,())).post (.ob (True)<|.ob (BK (0+c.bf.length) 120)<|.lf fCopyCache (⟨[]++c.bf⟩,())):=by
 refine Aa trivial fun _=>Aa ?_ fun o1=>lfY ?_
 all_goals
  have hl:=Ad AX c.bf;try simp only[AA] at *
  try simp only[fCopyCache,std,Nat.reduceAdd,szCache] at *
  try simp(disch:=omega) only[wrapId',toNat1] at *
  try simp(disch:=omega) only[Qa2,Qa3]
 all_goals first|trivial|omega|grind[wrapId',toNat1,drop_cons,drop_end,good_len,maxLen,szCache]
def AkP:=Al7.a fCopyCache<|Fct.o [1,2] Al7.2 func187 (by
 rintro⟨(c:SCache),_⟩ hp;exact ho _ (q6 c hp))
def Aku:=AkP.a fCopyCache<|Fct.o [1,2] AkP.2 func202 (by
 rintro⟨(c:SCache),_⟩ hp;exact ho _ (q6 c hp))
def fCopyNet:Fct:=⟨[.v (.el .net)],[.el .net],fun(x_:SNet×Unit)=>szNet x_.1<=68719476736,fun(x_:SNet×Unit)=>(x_.1,())⟩
theorem q7 (n:SNet) (hp:fCopyNet.pre (n,())):Out.holds (fCopyNet.ctr (n,())).post (.cl fCopyServers (n.servers,()) fun z2=>.cl fCopyCache (n.cache,()) fun z3=>.ob (True)<|.ob (BK n.log.length 56)<|.lf fCopyNet (⟨z2.1,z3.1,n.log,n.now⟩,())):=by
 refine Ae ?_ fun o1=>(Ae ?_ fun o2=>(Aa trivial fun _=>Aa ?_ fun o3=>lfY ?_))
 all_goals
  have hl:=Ad Ea n.log;try simp only[AA] at *
  try simp only[fCopyCache,fCopyNet,fCopyServers,std,Nat.reduceAdd,szNet,fCopyServers,fCopyCache] at *
  try simp(disch:=omega) only[wrapId',toNat1] at *
  try simp(disch:=omega) only[Qa2,Qa3]
 all_goals first|trivial|omega|grind[wrapId',toNat1,drop_cons,drop_end,good_len,maxLen,szNet,fCopyServers,fCopyCache]
def Aj8:=Aku.a fCopyNet<|Fct.o [1,2] Aku.2 func82 (by
 rintro⟨(n:SNet),_⟩ hp;exact ho _ (q7 n hp))
def Ak3:=Aj8.a fCopyNet<|Fct.o [1,2] Aj8.2 func100 (by
 rintro⟨(n:SNet),_⟩ hp;exact ho _ (q7 n hp))
def fFindEntry:Fct:=⟨[.v (.el .cache),.v (.el .str),.v (.el .addr)],[.el .int],fun(x_:SCache×ByteArray×SAddr×Unit)=>x_.1.bf.length<=1000000000000,fun(x_:SCache×ByteArray×SAddr×Unit)=>(fidx (fun e=>decide (e.top=x_.2.1)&&decide (e.to=x_.2.2.1)) x_.1.bf 0,())⟩
abbrev CD (c:SCache) (t:ByteArray) (a:SAddr):LInv:=⟨[⟨.s,7,true,.el .int⟩,⟨.b,3,false,.el .cache⟩,⟨.b,5,true,.el .addr⟩],fun(z_ x_:Int×SCache×SAddr×Unit)=>((0<=x_.1/\x_.1<=c.bf.length/\fidx (fun e=>decide (e.top=t)&&decide (e.to=a)) (c.bf.drop x_.1.toNat) x_.1=fidx (fun e=>decide (e.top=t)&&decide (e.to=a)) c.bf 0)/\x_.2.1=z_.2.1)/\x_.2.2.1=z_.2.2.1,fun(x_:Int×SCache×SAddr×Unit)=>c.bf.length-x_.1.toNat⟩
def AkC:=Ak3.a fFindEntry<|Fct.p (KP [1,3,5,6,7] [12,32]) (fun⟨c,t,a,_⟩=>lv [(2,CD c t a)]) Ak3.2 func245 (by
 rintro⟨(c:SCache),(t:ByteArray),(a:SAddr),_⟩ hp;refine ho (lpx (CD c t a) ((0:Int),(c,(a,()))) fun(y1:Int×SCache×SAddr×PUnit) bk1=>let q2_:=inB y1.1 y1.2.1.bf.length;let q1_:=y1.2.1.bf.getD y1.1.toNat default;let q0_:Out:=.ob (Value.string t=Value.string t)<|.ob (bk1 (w1 y1.1,(y1.2.1,(y1.2.2.1,()))))<|.ok;.br (decide (y1.1<(y1.2.1.bf.length:Int))) (.ob q2_<|.br (q1_.top.toList==t.toList) (.ob q2_<|.br (q1_.to.host==y1.2.2.1.host&&(q1_.to.path==y1.2.2.1.path&&true)) (.lf fFindEntry (y1.1,())) q0_) q0_) (.lf fFindEntry ((-1:Int),()))) ?_;refine Aw ?_ fun(y1:Int×SCache×SAddr×PUnit) i1=>Ab (fun h2=>Aa ?_ fun o3=>Ab (fun h4=>Aa ?_ fun o5=>Ab (fun h6=>lfY ?_) (fun h6=>Aa rfl fun _=>Aa ?_ fun o7=>trivial)) (fun h4=>Aa rfl fun _=>Aa ?_ fun o8=>trivial)) (fun h2=>lfY ?_)
 all_goals
  try simp only[Dk] at *
  try simp only[AA] at *
  try simp only[CD,fFindEntry,std,Nat.reduceAdd,fidx] at *
  try simp(disch:=omega) only[wrapId',toNat1] at *
  try simp(disch:=omega) only[Qa2,Qa3]
 all_goals first|trivial|omega|grind[wrapId',toNat1,drop_cons,drop_end,good_len,maxLen,fidx])
def fEntryAt1:Fct:=⟨[.v (.el .entry),.p (.el .str),.p (.el .addr)],[.el .bool],fun(x_:SEntry×ByteArray×SAddr×Unit)=>True,fun(x_:SEntry×ByteArray×SAddr×Unit)=>(decide (x_.1.top=x_.2.1)&&decide (x_.1.to=x_.2.2.1),())⟩
def Akc:=AkC.a fEntryAt1<|Fct.o [1,2,3,4] AkC.2 func296 (by
 rintro⟨(e:SEntry),(t:ByteArray),(a:SAddr),_⟩ hp;refine ho (.br (e.top.toList==ByteArray.toList t) (.lf fEntryAt1 (e.to.host==a.host&&(e.to.path==a.path&&true),())) (.lf fEntryAt1 (false,()))) ?_;refine Ab (fun h1=>lfY ?_) (fun h1=>lfY ?_);all_goals
  try simp only[Dk] at *
  try simp only[AA] at *
  try simp only[fEntryAt1,std,Nat.reduceAdd] at *
  try simp(disch:=omega) only[wrapId',toNat1] at *
  try simp(disch:=omega) only[Qa2,Qa3]
 all_goals first|trivial|omega|grind[wrapId',toNat1,drop_cons,drop_end,good_len,maxLen])
def AM:Fct:=⟨[aL .entry,.c 296 [.el .str,.el .addr]],[rI],fun x=>x.1.length<=1000000000000000000/\∀ c,fEntryAt1.pre (c,x.2.1),fun x=>(fidx (fun c=>(fEntryAt1.fn (c,x.2.1)).1) x.1 0,())⟩
abbrev Am (l:(List SEntry)) (u:(ByteArray×SAddr×Unit)):LInv:=⟨[⟨.s,8,true,.el .int⟩],fun _ (x_:Int×Unit)=>0<=x_.1/\x_.1<=l.length/\fidx (fun c=>(fEntryAt1.fn (c,u)).1) l 0=fidx (fun c=>(fEntryAt1.fn (c,u)).1) (l.drop x_.1.toNat) x_.1,fun(x_:Int×Unit)=>l.length-x_.1.toNat⟩
def AjF:=Akc.a AM<|Fct.p (KP [0,1,4,5,7,8] [9,16]) (fun⟨l,u,_⟩=>lv [(2,Am l u)]) Akc.2 func215 (by
 rintro⟨(l:List SEntry),(u:ByteArray×SAddr×PUnit),_⟩ hp;refine ho (lpx (Am l u) ((0:Int),()) fun(y1:Int×PUnit) bk1=>.br (decide (y1.1<(l.length:Int))) (.ob (inB y1.1 l.length)<|.cl fEntryAt1 (l.getD y1.1.toNat default,u.1,u.2.1,()) fun z2=>.br (z2.1) (.lf AM (y1.1,())) (.ob (l=l)<|.ob (enc Ty.str u.1=enc Ty.str u.1)<|.ob (enc Ty.addr u.2.1=enc Ty.addr u.2.1)<|.ob (Value.int IntKind.i64 (l.length:Int)=Value.int IntKind.i64 (l.length:Int))<|.ob (bk1 (w1 y1.1,()))<|.ok)) (.lf AM ((-1:Int),()))) ?_;refine Aw ?_ fun(y1:Int×PUnit) i1=>Ab (fun h2=>Aa ?_ fun o3=>Ae trivial fun _=>(Ab (fun h4=>lfY ?_) (fun h4=>Aa rfl fun _=>Aa rfl fun _=>Aa rfl fun _=>Aa rfl fun _=>Aa ?_ fun o5=>trivial))) (fun h2=>lfY ?_)
 all_goals
  try simp only[AA] at *
  try simp only[Am,fEntryAt1,AM,std,Nat.reduceAdd] at *
  try have hp2:=hp.2
  try have hp1:=hp.1
 all_goals first|trivial|omega|grind[wrapId',toNat1,drop_cons,drop_end,good_len,maxLen,fidx])
def AlN:=AjF.a fFindEntry<|Fct.o [3,4,5,6] AjF.2 func218 (by
 rintro⟨(c:SCache),(t:ByteArray),(a:SAddr),_⟩ hp;refine ho (.cl AM (c.bf,(t,a,()),()) fun(z2:Int×PUnit)=>.lf fFindEntry (z2.1,())) ?_;refine Ae ?_ fun o1=>(lfY ?_)
 all_goals
  try simp only[AA] at *
  try simp only[fFindEntry,AM,std,Nat.reduceAdd,fEntryAt1] at *
  try simp(disch:=omega) only[wrapId',toNat1] at *
  try simp(disch:=omega) only[Qa2,Qa3]
 all_goals first|trivial|omega|grind[wrapId',toNat1,drop_cons,drop_end,good_len,maxLen,fEntryAt1])
def freshEntry (t:ByteArray) (a:SAddr) (now:Int) (e:SEntry):Bool:=decide (e.top=t)&&(decide (e.to=a)&&decide (now<=e.until_))
def lookUp (c:SCache) (t:ByteArray) (a:SAddr) (now:Int):Option SResponse:=(c.bf.find? (freshEntry t a now)).map (·.bc)
def fLookUp:Fct:=⟨[.v (.el .cache),.v (.el .str),.v (.el .addr),.v (.el .int)],[.el .bc,.el .bool],fun(x_:SCache×ByteArray×SAddr×Int×Unit)=>x_.1.bf.length<=1000000000000,fun(x_:SCache×ByteArray×SAddr×Int×Unit)=>((lookUp x_.1 x_.2.1 x_.2.2.1 x_.2.2.2.1).getD notFound,(lookUp x_.1 x_.2.1 x_.2.2.1 x_.2.2.2.1).isSome,())⟩
theorem Lu {α:Type} [Inhabited α] (p:α->Bool):∀ (l:List α) (i:Int),0<=i->l.find? p=if 0<=fidx p l i then some (l.getD (fidx p l i-i).toNat default) else none:=by
 intro l
 induction l with
 | nil=>intro i _;simp[fidx]
 | cons x l ih=>
  intro i hi;simp only[List.find?_cons,fidx];by_cases hx:p x=true
  ·simp[hx,hi]
  ·
   have hx:p x=false:=by simpa using hx
   have h1:=Jd p l (i+1) (by omega);have h2:=ih (i+1) (by omega);simp only[hx,Qc7,Qe2,h2];split
   ·rename_i h3;have h4:i+1<=fidx p l (i+1):=by
     have:∀ (l:List α) (i:Int),0<=i->0<=fidx p l i->i<=fidx p l i:=by
      intro l
      induction l with
      | nil=>intro i _ h;simp[fidx] at h
      | cons y l ih=>
       intro i hi h;simp only[fidx] at h ⊢;split
       ·omega
       ·rename_i hy;rw[Qa3 hy] at h;have:=ih (i+1) (by omega) h;omega
     exact this l (i+1) (by omega) h3
    have h5:(fidx p l (i+1)-i).toNat=(fidx p l (i+1)-(i+1)).toNat+1:=by omega
    rw[h5];rfl
   ·rfl
abbrev Cw (c:SCache) (t:ByteArray) (a:SAddr) (now:Int):LInv:=⟨[⟨.s,10,true,.el .int⟩,⟨.b,4,false,.el .cache⟩,⟨.b,6,true,.el .addr⟩,⟨.b,8,true,.el .bc⟩],fun(z_ x_:Int×SCache×SAddr×SResponse×Unit)=>(((0<=x_.1/\x_.1<=c.bf.length/\(c.bf.drop x_.1.toNat).find? (freshEntry t a now)=c.bf.find? (freshEntry t a now))/\x_.2.1=z_.2.1)/\x_.2.2.1=z_.2.2.1)/\x_.2.2.2.1=z_.2.2.2.1,fun(x_:Int×SCache×SAddr×SResponse×Unit)=>c.bf.length-x_.1.toNat⟩
def Alz:=AlN.a fLookUp<|Fct.p (KP [1,3,4,6,8,9,10] [15,45]) (fun⟨c,t,a,now,_⟩=>lv [(2,Cw c t a now)]) AlN.2 func160 (by
 rintro⟨(c:SCache),(t:ByteArray),(a:SAddr),(now:Int),_⟩ hp;refine ho (lpx (Cw c t a now) ((0:Int),(c,(a,(default,())))) fun(y1:Int×SCache×SAddr×SResponse×PUnit) bk1=>let q2_:=inB y1.1 y1.2.1.bf.length;let q1_:=y1.2.1.bf.getD y1.1.toNat default;let q0_:Out:=.ob (Value.string t=Value.string t)<|.ob (Value.int IntKind.i64 now=Value.int IntKind.i64 now)<|.ob (bk1 (w1 y1.1,(y1.2.1,(y1.2.2.1,(y1.2.2.2.1,())))))<|.ok;.br (decide (y1.1<(y1.2.1.bf.length:Int))) (.ob q2_<|.br (q1_.top.toList==t.toList) (.ob q2_<|.br (q1_.to.host==y1.2.2.1.host&&(q1_.to.path==y1.2.2.1.path&&true)) (.ob q2_<|.br (decide (q1_.until_>=now)) (.ob q2_<|.lf fLookUp (q1_.bc,true,())) q0_) q0_) q0_) (.cl fNotFound () fun z2=>.lf fLookUp (z2.1,false,()))) ?_;repeat' first|(guard_target =~ Out.holds _ _;first|refine Aw (li:=Cw c t a now) ?_ fun(y1:Int×SCache×SAddr×SResponse×PUnit) i1=>?_|refine lfY ?_|refine Ab (fun _=>?_) fun _=>?_|refine Ae ?_ fun _=>?_|refine Aa ?_ fun _=>?_)|exact trivial
 all_goals
  try simp only[Dk] at *
  try simp only[AA] at *
  try simp only[Cw,fLookUp,fNotFound,std,Nat.reduceAdd,lookUp,freshEntry,fNotFound] at *
  try simp(disch:=omega) only[wrapId',toNat1] at *
  try simp(disch:=omega) only[Qa2,Qa3]
 all_goals first|trivial|omega|grind[wrapId',toNat1,drop_cons,drop_end,good_len,maxLen,lookUp,freshEntry,fNotFound])
def fLookUp1:Fct:=⟨[.v (.el .entry),.p (.el .str),.p (.el .addr),.p (.el .int)],[.el .bool],fun(x_:SEntry×ByteArray×SAddr×Int×Unit)=>True,fun(x_:SEntry×ByteArray×SAddr×Int×Unit)=>(freshEntry x_.2.1 x_.2.2.1 x_.2.2.2.1 x_.1,())⟩
def AiF:=Alz.a fLookUp1<|Fct.o [1,2,3,4,5] Alz.2 func216 (by
 rintro⟨(e:SEntry),(t:ByteArray),(a:SAddr),(now:Int),_⟩ hp;refine ho (.br (e.top.toList==ByteArray.toList t) (.br (e.to.host==a.host&&(e.to.path==a.path&&true)) (.lf fLookUp1 (decide (e.until_>=now),())) (.lf fLookUp1 (false,()))) (.lf fLookUp1 (false,()))) ?_;refine Ab (fun h1=>Ab (fun h2=>lfY ?_) (fun h2=>lfY ?_)) (fun h1=>lfY ?_);all_goals
  try simp only[Dk] at *
  try simp only[AA] at *
  try simp only[fLookUp1,std,Nat.reduceAdd,freshEntry] at *
  try simp(disch:=omega) only[wrapId',toNat1] at *
  try simp(disch:=omega) only[Qa2,Qa3]
 all_goals first|trivial|omega|grind[wrapId',toNat1,drop_cons,drop_end,good_len,maxLen,freshEntry])
def AQ:Fct:=⟨[aL .entry,.c 216 [.el .str,.el .addr,.el .int]],[rI],fun x=>x.1.length<=1000000000000000000/\∀ c,fLookUp1.pre (c,x.2.1),fun x=>(fidx (fun c=>(fLookUp1.fn (c,x.2.1)).1) x.1 0,())⟩
abbrev An (l:(List SEntry)) (u:(ByteArray×SAddr×Int×Unit)):LInv:=⟨[⟨.s,8,true,.el .int⟩],fun _ (x_:Int×Unit)=>0<=x_.1/\x_.1<=l.length/\fidx (fun c=>(fLookUp1.fn (c,u)).1) l 0=fidx (fun c=>(fLookUp1.fn (c,u)).1) (l.drop x_.1.toNat) x_.1,fun(x_:Int×Unit)=>l.length-x_.1.toNat⟩
def Amy:=AiF.a AQ<|Fct.p (KP [0,1,4,5,7,8] [9,16]) (fun⟨l,u,_⟩=>lv [(2,An l u)]) AiF.2 func215 (by
 rintro⟨(l:List SEntry),(u:ByteArray×SAddr×Int×PUnit),_⟩ hp;refine ho (lpx (An l u) ((0:Int),()) fun(y1:Int×PUnit) bk1=>.br (decide (y1.1<(l.length:Int))) (.ob (inB y1.1 l.length)<|.cl fLookUp1 (l.getD y1.1.toNat default,u.1,u.2.1,u.2.2.1,()) fun z2=>.br (z2.1) (.lf AQ (y1.1,())) (.ob (l=l)<|.ob (enc Ty.str u.1=enc Ty.str u.1)<|.ob (enc Ty.addr u.2.1=enc Ty.addr u.2.1)<|.ob (enc Ty.int u.2.2.1=enc Ty.int u.2.2.1)<|.ob (Value.int IntKind.i64 (l.length:Int)=Value.int IntKind.i64 (l.length:Int))<|.ob (bk1 (w1 y1.1,()))<|.ok)) (.lf AQ ((-1:Int),()))) ?_;refine Aw ?_ fun(y1:Int×PUnit) i1=>Ab (fun h2=>Aa ?_ fun o3=>Ae trivial fun _=>(Ab (fun h4=>lfY ?_) (fun h4=>Aa rfl fun _=>Aa rfl fun _=>Aa rfl fun _=>Aa rfl fun _=>Aa rfl fun _=>Aa ?_ fun o5=>trivial))) (fun h2=>lfY ?_)
 all_goals
  try simp only[AA] at *
  try simp only[An,AQ,fLookUp1,std,Nat.reduceAdd] at *
  try have hp2:=hp.2
  try have hp1:=hp.1
 all_goals first|trivial|omega|grind[wrapId',toNat1,drop_cons,drop_end,good_len,maxLen,fidx])
def Ah8:=Amy.a fLookUp<|Fct.o (KP [4,5,6,7,8,9,10] [16]) Amy.2 func115 (by
 rintro⟨(c:SCache),(t:ByteArray),(a:SAddr),(now:Int),_⟩ hp;refine ho (.cl AQ (c.bf,(t,a,now,()),()) fun(z2:Int×PUnit)=>.br (decide (z2.1<0)) (.cl fNotFound () fun z3=>.lf fLookUp (z3.1,false,())) (.ob (inB z2.1 c.bf.length)<|.lf fLookUp ((c.bf.getD z2.1.toNat default).bc,true,()))) ?_;refine Ae ?_ fun o1=>(Ab (fun h2=>Ae trivial fun _=>(lfY ?_)) (fun h2=>Aa ?_ fun o3=>lfY ?_))
 all_goals
  have hf:=Jd (freshEntry t a now) c.bf 0 (by omega);have hf2:=Lu (freshEntry t a now) c.bf 0 (by omega);try simp only[AA] at *
  try simp only[AQ,fLookUp,fNotFound,std,Nat.reduceAdd,lookUp,fLookUp1,fNotFound] at *
  try simp(disch:=omega) only[wrapId',toNat1] at *
  try simp(disch:=omega) only[Qa2,Qa3]
 all_goals first|trivial|omega|grind[wrapId',toNat1,drop_cons,drop_end,good_len,maxLen,lookUp,fLookUp1,fNotFound])
def modM (n m:Int):Int:=if 1<=m/\m<=1000000000000 then n.emod m else 0
def Rm:Fct:=⟨[.v (.el .int),.v (.el .int)],[.el .int],fun(x_:Int×Int×Unit)=>-9223372036854775808<=x_.1/\x_.1<=9223372036854775807,fun(x_:Int×Int×Unit)=>(modM x_.1 x_.2.1,())⟩
theorem MU {n m:Int} (hm:0<m):(n.tmod m+m).tmod m=n.emod m:=by
 have h1:=Int.tmod_lt_of_pos n hm;have h2 : -m<n.tmod m:=by have:=Int.lt_tmod_of_pos n hm;omega
 rw[Int.tmod_eq_emod_of_nonneg (by omega)];rw[Int.tmod_eq_emod];split
 ·simp;rfl
 ·rw[show n % m-m.natAbs+m=n % m by omega];simp;rfl
theorem ML {n m:Int} (hm:0<m):(if n.tmod m<0 then n.tmod m+m else n.tmod m)=n.emod m:=by
 have h0:=Int.emod_nonneg n (show m≠0 by omega);have h3:=Int.emod_lt_of_pos n hm;have e0:n.emod m=n % m:=rfl;rw[Int.tmod_eq_emod,e0];split<;>split<;>omega
def Akz:=Ah8.a Rm<|Fct.o (KP [0,1,4] [7]) Ah8.2 func437 (by
 rintro⟨(n:Int),(m:Int),_⟩ hp;refine ho (.cl fInRange (m,(1:Int),(1000000000000:Int),()) fun z2=>.br (!z2.1) (.lf Rm ((0:Int),())) (.ob (m≠(0:Int))<|.ob (m≠(0:Int))<|.lf Rm ((wr (Int.tmod n m+m)).tmod m,()))) ?_;refine Ae trivial fun _=>(Ab (fun h1=>lfY ?_) (fun h1=>Aa ?_ fun o2=>Aa ?_ fun o3=>lfY ?_))
 all_goals (by_cases hm:1<=m/\m<=1000000000000)
 all_goals
  try have e1:=MU (n:=n) (m:=m) (by omega)
  try have e2:=ML (n:=n) (m:=m) (by omega)
  try have e3:=Int.tmod_lt_of_pos n (show 0<m by omega)
  try have e4:=Int.lt_tmod_of_pos n (show 0<m by omega)
  try simp only[AA] at *
  try simp only[fInRange,Rm,std,Nat.reduceAdd,fInRange,inRange,modM] at *
  try simp(disch:=omega) only[wrapId',toNat1] at *
  try simp(disch:=omega) only[Qa2,Qa3]
  try simp only[Qa1,Qe4,Qa7,Qb0] at *
 all_goals first|omega|skip
 all_goals
  try rw[Ah (by omega)]
  try rw[Qa2 hm]
 all_goals first|omega|exact e1|(rw[Qa2 (by omega)] at e2;exact e2)|(rw[Qa3 (by omega)] at e2;exact e2)|(rw[Qa3 hm]))
def Akr:=Akz.a Rm<|Fct.o (KP [0,1,4,5] [8,13]) Akz.2 func420 (by
 rintro⟨(n:Int),(m:Int),_⟩ hp;refine ho (.cl fInRange (m,(1:Int),(1000000000000:Int),()) fun z2=>.br (!z2.1) (.lf Rm ((0:Int),())) (.ob (m≠(0:Int))<|.br (decide (Int.tmod n m<0)) (.lf Rm (wr (Int.tmod n m+m),())) (.lf Rm (Int.tmod n m,())))) ?_;refine Ae trivial fun _=>(Ab (fun h1=>lfY ?_) (fun h1=>Aa ?_ fun o2=>Ab (fun h3=>lfY ?_) (fun h3=>lfY ?_)))
 all_goals (by_cases hm:1<=m/\m<=1000000000000)
 all_goals
  try have e1:=MU (n:=n) (m:=m) (by omega)
  try have e2:=ML (n:=n) (m:=m) (by omega)
  try have e3:=Int.tmod_lt_of_pos n (show 0<m by omega)
  try have e4:=Int.lt_tmod_of_pos n (show 0<m by omega)
  try simp only[AA] at *
  try simp only[fInRange,Rm,std,Nat.reduceAdd,fInRange,inRange,modM] at *
  try simp(disch:=omega) only[wrapId',toNat1] at *
  try simp(disch:=omega) only[Qa2,Qa3]
  try simp only[Qa1,Qe4,Qa7,Qb0] at *
 all_goals first|omega|skip
 all_goals
  try rw[Ah (by omega)]
  try rw[Qa2 hm]
 all_goals first|omega|exact e1|(rw[Qa2 (by omega)] at e2;exact e2)|(rw[Qa3 (by omega)] at e2;exact e2)|(rw[Qa3 hm]))
def hashI:List Int->Int->Int
 | [],d=>d
 | x::l,d=>hashI l ((d*1000003+modM x 2147483647+13).tmod 2147483647)
theorem Tc {l:List Int} {i:Nat} {d:Int} (h:i<l.length):hashI (l.drop i) d=hashI (l.drop (i+1)) ((d*1000003+modM (l.getD i default) 2147483647+13).tmod 2147483647):=by rw[drop_cons h];rfl
theorem Oz {l:List Int} {i:Nat} {d:Int} (h:l.length<=i):hashI (l.drop i) d=d:=by rw[Qb6 h];rfl
theorem I2 (x:Int):0<=modM x 2147483647/\modM x 2147483647<2147483647:=by
 have h0:=Int.emod_nonneg x (show(2147483647:Int)≠0 by omega);have h3:=Int.emod_lt_of_pos x (show(0:Int)<2147483647 by omega);have e0:modM x 2147483647=x % 2147483647:=rfl;omega
theorem IK {x:Int} (h:0<=x):0<=x.tmod 2147483647/\x.tmod 2147483647<2147483647:=by
 rw[Int.tmod_eq_emod_of_nonneg h];have h0:=Int.emod_nonneg x (show(2147483647:Int)≠0 by omega);have h3:=Int.emod_lt_of_pos x (show(0:Int)<2147483647 by omega);omega
def Oe:Fct:=⟨[.v (.sl .int)],[.el .int],fun(x_:(List Int)×Unit)=>x_.1.length<=1000000000000/\∀ i,i<x_.1.length->-9223372036854775808<=x_.1.getD i default/\x_.1.getD i default<=9223372036854775807,fun(x_:(List Int)×Unit)=>(hashI x_.1 11,())⟩
abbrev DQ (l:(List Int)):LInv:=⟨[⟨.s,3,true,.el .int⟩,⟨.s,4,true,.el .int⟩],fun _ (x_:Int×Int×Unit)=>0<=x_.2.1/\x_.2.1<=l.length/\0<=x_.1/\x_.1<2147483647/\hashI (l.drop x_.2.1.toNat) x_.1=hashI l 11,fun(x_:Int×Int×Unit)=>l.length-x_.2.1.toNat⟩
def Akw:=Akr.a Oe<|Fct.p (KP [0,2,3,4] [8]) (fun⟨l,_⟩=>lv [(3,DQ l)]) Akr.2 func410 (by
 rintro⟨(l:List Int),_⟩ hp;refine ho (lpx (DQ l) ((11:Int),((0:Int),())) fun(y1:Int×Int×PUnit) bk1=>.br (decide (y1.2.1<(l.length:Int))) (.ob (inB y1.2.1 l.length)<|.cl Rm (l.getD y1.2.1.toNat default,(2147483647:Int),()) fun(z2:Int×PUnit)=>.ob ((2147483647:Int)≠(0:Int))<|.ob (l=l)<|.ob (Value.int IntKind.i64 0=Value.int IntKind.i64 (0:Int))<|.ob (bk1 ((wr (wr (wr (y1.1*(1000003:Int))+z2.1)+13)).tmod (2147483647:Int),(w1 y1.2.1,())))<|.ok) (.lf Oe (y1.1,()))) ?_;refine Aw ?_ fun(y1:Int×Int×PUnit) i1=>Ab (fun h2=>Aa ?_ fun o3=>Ae ?_ fun o4=>(Aa ?_ fun o5=>Aa rfl fun _=>Aa rfl fun _=>Aa ?_ fun o6=>trivial)) (fun h2=>lfY ?_)
 all_goals
  try simp only[AA] at *
  try simp only[DQ,Oe,Rm,std,Nat.reduceAdd,Rm] at *
 all_goals obtain⟨hp1,hp2⟩:=hp
 all_goals try (obtain⟨a1,a2,a3,a4,a5⟩:=i1)
 all_goals try (have hm:=I2 (l.getD y1.2.1.toNat default);have ht:=IK (x:=y1.1*1000003+modM (l.getD y1.2.1.toNat default) 2147483647+13) (by omega))
 all_goals try simp(disch:=omega) only[wrapId',toNat1] at *
 all_goals first|trivial|omega|exact⟨by omega,by omega,by omega,by omega,rfl⟩|exact hp2 _ (by omega)|skip
 ·rw[Tc (by omega)] at a5;exact⟨⟨by omega,by omega,ht.1,ht.2,a5⟩,by omega⟩
 ·rw[Oz (by omega)] at a5;exact a5)
abbrev DS (l:(List Int)):LInv:=⟨[⟨.s,3,true,.el .int⟩,⟨.s,8,true,.el .int⟩],fun _ (x_:Int×Int×Unit)=>0<=x_.2.1/\x_.2.1<=l.length/\0<=x_.1/\x_.1<2147483647/\hashI (l.drop x_.2.1.toNat) x_.1=hashI l 11,fun(x_:Int×Int×Unit)=>l.length-x_.2.1.toNat⟩
def Ak5:=Akw.a Oe<|Fct.p (KP [0,2,3,5,6,7,8] [9]) (fun⟨l,_⟩=>lv [(3,DS l)]) Akw.2 func382 (by
 rintro⟨(l:List Int),_⟩ hp;refine ho (lpx (DS l) ((11:Int),((0:Int),())) fun(y1:Int×Int×PUnit) bk1=>.br (decide (y1.2.1<(l.length:Int))) (.ob (inB y1.2.1 l.length)<|.cl Rm (l.getD y1.2.1.toNat default,(2147483647:Int),()) fun(z2:Int×PUnit)=>.ob ((2147483647:Int)≠(0:Int))<|.ob (l=l)<|.ob (Value.int IntKind.i64 0=Value.int IntKind.i64 (0:Int))<|.ob (l=l)<|.ob (Value.int IntKind.i64 (l.length:Int)=Value.int IntKind.i64 (l.length:Int))<|.ob (bk1 ((wr (wr (wr (y1.1*(1000003:Int))+z2.1)+13)).tmod (2147483647:Int),(w1 y1.2.1,())))<|.ok) (.lf Oe (y1.1,()))) ?_;refine Aw ?_ fun(y1:Int×Int×PUnit) i1=>Ab (fun h2=>Aa ?_ fun o3=>Ae ?_ fun o4=>(Aa ?_ fun o5=>Aa rfl fun _=>Aa rfl fun _=>Aa rfl fun _=>Aa rfl fun _=>Aa ?_ fun o6=>trivial)) (fun h2=>lfY ?_)
 all_goals
  try simp only[AA] at *
  try simp only[DS,Oe,Rm,std,Nat.reduceAdd,Rm] at *
 all_goals obtain⟨hp1,hp2⟩:=hp
 all_goals try (obtain⟨a1,a2,a3,a4,a5⟩:=i1)
 all_goals try (have hm:=I2 (l.getD y1.2.1.toNat default);have ht:=IK (x:=y1.1*1000003+modM (l.getD y1.2.1.toNat default) 2147483647+13) (by omega))
 all_goals try simp(disch:=omega) only[wrapId',toNat1] at *
 all_goals first|trivial|omega|exact⟨by omega,by omega,by omega,by omega,rfl⟩|exact hp2 _ (by omega)|skip
 ·rw[Tc (by omega)] at a5;exact⟨⟨by omega,by omega,ht.1,ht.2,a5⟩,by omega⟩
 ·rw[Oz (by omega)] at a5;exact a5)
def bti (b l:List Int):List Int:=(b.length:Int)::l
def CR:Fct:=⟨[.v (.sl .u8)],[.sl .int],fun(x_:(List Int)×Unit)=>x_.1.length<=68719476736/\∀ i,i<x_.1.length->0<=x_.1.getD i default/\x_.1.getD i default<=255,fun(x_:(List Int)×Unit)=>(bti x_.1 x_.1,())⟩
abbrev Bw (b:(List Int)):LInv:=⟨[⟨.s,3,true,.sl .int⟩,⟨.s,4,true,.el .int⟩],fun _ (x_:(List Int)×Int×Unit)=>0<=x_.2.1/\x_.2.1<=b.length/\x_.1=bti b (b.take x_.2.1.toNat),fun(x_:(List Int)×Int×Unit)=>b.length-x_.2.1.toNat⟩
def AkF:=Ak5.a CR<|Fct.p (KP [0,2,3,4] [11]) (fun⟨b,_⟩=>lv [(3,Bw b)]) Ak5.2 func411 (by
 rintro⟨(b:List Int),_⟩ hp;refine ho (lpx (Bw b) ([(b.length:Int)],((0:Int),())) fun(y1:List Int×Int×PUnit) bk1=>.br (decide (y1.2.1<(b.length:Int))) (.ob (inB y1.2.1 b.length)<|.ob (True)<|.ob (BK (y1.1.length+[wr (b.getD y1.2.1.toNat default)].length) 8)<|.ob (b=b)<|.ob (bk1 (y1.1++[wr (b.getD y1.2.1.toNat default)],(w1 y1.2.1,())))<|.ok) (.lf CR (y1.1,()))) ?_;refine Aw ?_ fun(y1:List Int×Int×PUnit) i1=>Ab (fun h2=>Aa ?_ fun o3=>Aa trivial fun _=>Aa ?_ fun o4=>Aa rfl fun _=>Aa ?_ fun o5=>trivial) (fun h2=>lfY ?_)
 all_goals
  try simp only[AA] at *
  try simp only[Bw,CR,std,Nat.reduceAdd,take_succ,take_end,bti] at *
  try simp(disch:=omega) only[wrapId',toNat1] at *
  try simp(disch:=omega) only[Qa2,Qa3]
 all_goals first|trivial|omega|grind[wrapId',toNat1,drop_cons,drop_end,good_len,maxLen,take_succ,take_end,bti])
abbrev BB (b:(List Int)):LInv:=⟨[⟨.s,3,true,.sl .int⟩,⟨.s,11,true,.el .int⟩],fun _ (x_:(List Int)×Int×Unit)=>0<=x_.2.1/\x_.2.1<=b.length/\x_.1=bti b (b.take x_.2.1.toNat),fun(x_:(List Int)×Int×Unit)=>b.length-x_.2.1.toNat⟩
def Ain:=AkF.a CR<|Fct.p (KP [0,2,3,5,9,10,11] [12]) (fun⟨b,_⟩=>lv [(3,BB b)]) AkF.2 func383 (by
 rintro⟨(b:List Int),_⟩ hp;refine ho (lpx (BB b) ([(b.length:Int)],((0:Int),())) fun(y1:List Int×Int×PUnit) bk1=>.br (decide (y1.2.1<(b.length:Int))) (.ob (inB y1.2.1 b.length)<|.ob (True)<|.ob (BK (y1.1.length+[wr (b.getD y1.2.1.toNat default)].length) 8)<|.ob (b=b)<|.ob (b=b)<|.ob (Value.int IntKind.i64 (b.length:Int)=Value.int IntKind.i64 (b.length:Int))<|.ob (bk1 (y1.1++[wr (b.getD y1.2.1.toNat default)],(w1 y1.2.1,())))<|.ok) (.lf CR (y1.1,()))) ?_;refine Aw ?_ fun(y1:List Int×Int×PUnit) i1=>Ab (fun h2=>Aa ?_ fun o3=>Aa trivial fun _=>Aa ?_ fun o4=>Aa rfl fun _=>Aa rfl fun _=>Aa rfl fun _=>Aa ?_ fun o5=>trivial) (fun h2=>lfY ?_)
 all_goals
  try simp only[AA] at *
  try simp only[BB,CR,std,Nat.reduceAdd,take_succ,take_end,bti] at *
  try simp(disch:=omega) only[wrapId',toNat1] at *
  try simp(disch:=omega) only[Qa2,Qa3]
 all_goals first|trivial|omega|grind[wrapId',toNat1,drop_cons,drop_end,good_len,maxLen,take_succ,take_end,bti])
def fFormatInt:Fct:=⟨[.v (.el .int)],[.el .str],fun(x_:Int×Unit)=>-9223372036854775808<=x_.1/\x_.1<=9223372036854775807,fun(x_:Int×Unit)=>(Hr x_.1,())⟩
abbrev Ck (n:Int):LInv:=⟨[⟨.s,3,true,.el .str⟩,⟨.s,4,true,.el .int⟩],fun _ (x_:ByteArray×Int×Unit)=>n≠0/\-9223372036854775808<=x_.2.1/\x_.2.1<=9223372036854775807/\(x_.2.1:Int).natAbs+4*x_.1.size<=n.natAbs+(if x_.2.1=0 then 4 else 0)/\Abv (x_.2.1:Int).natAbs x_.1=Abv n.natAbs ⟨#[]⟩,fun(x_:ByteArray×Int×Unit)=>(x_.2.1:Int).natAbs⟩
def AmN:=Ain.a fFormatInt<|Fct.p (KP [0,2,3,4,5] [7,10,16,27]) (fun⟨n,_⟩=>lv [(5,Ck n)]) Ain.2 func365 (by
 rintro⟨(n:Int),_⟩ hp;refine ho (let q5_:=(⟨#[45]⟩:ByteArray);let q2_:=(10:Int)≠(0:Int);let q0_:=(⟨#[]⟩:ByteArray);let q4_:=Value.string q0_=Value.string q0_;.br (n==0) (.lf fFormatInt ((⟨#[48]⟩:ByteArray),())) (lpx (Ck n) (q0_,(n,())) fun(y2:ByteArray×Int×PUnit) bk2=>let q6_:=y2.2.1.tdiv (10:Int);let q3_:=wr ((48:Int)+y2.2.1.tmod (10:Int));let q1_:=wr ((48:Int)+wr ((0:Int)-y2.2.1.tmod (10:Int)));.br (y2.2.1 != 0) (.ob q2_<|.br (decide (y2.2.1.tmod (10:Int)<(0:Int))) (.ob (True)<|.ob (sameSize (List.foldl (fun r n=>r.push (UInt8.ofNat n.toNat)) ByteArray.empty [IntKind.u8.wrap q1_]) y2.1)<|.ob q2_<|.ob (Value.int IntKind.i64 n=Value.int IntKind.i64 n)<|.ob q4_<|.ob (bk2 (List.foldl (fun r n=>r.push (UInt8.ofNat n.toNat)) ByteArray.empty [IntKind.u8.wrap q1_]++y2.1,(wr q6_,())))<|.ok) (.ob (True)<|.ob (sameSize (List.foldl (fun r n=>r.push (UInt8.ofNat n.toNat)) ByteArray.empty [IntKind.u8.wrap q3_]) y2.1)<|.ob q2_<|.ob (Value.int IntKind.i64 n=Value.int IntKind.i64 n)<|.ob q4_<|.ob (bk2 (List.foldl (fun r n=>r.push (UInt8.ofNat n.toNat)) ByteArray.empty [IntKind.u8.wrap q3_]++y2.1,(wr q6_,())))<|.ok)) (.br (decide (n<0)) (.ob (sameSize q5_ y2.1)<|.lf fFormatInt (q5_++y2.1,())) (.lf fFormatInt (y2.1,()))))) ?_;refine Ab (fun h1=>lfY ?_) (fun h1=>Aw ?_ fun(y2:ByteArray×Int×PUnit) i2=>Ab (fun h3=>Aa ?_ fun o4=>Ab (fun h5=>Aa trivial fun _=>Aa ?_ fun o6=>Aa ?_ fun o7=>Aa rfl fun _=>Aa rfl fun _=>Aa ?_ fun o8=>trivial) (fun h5=>Aa trivial fun _=>Aa ?_ fun o9=>Aa ?_ fun o10=>Aa rfl fun _=>Aa rfl fun _=>Aa ?_ fun o11=>trivial)) (fun h3=>Ab (fun h12=>Aa ?_ fun o13=>lfY ?_) (fun h12=>lfY ?_)));all_goals try (have hk:=Nat.mod_lt y2.2.1.natAbs (show 0<10 by omega);have ht:=Zs y2.2.1)
 all_goals try (have hv:=Zu y2.2.1)
 all_goals
  try simp only[AA] at *
  try simp only[Ck,fFormatInt,std,Nat.reduceAdd] at *
 all_goals first|trivial|omega|skip
 all_goals try (obtain⟨a1,a2,a3,a4,a5⟩:=i2)
 all_goals first|trivial|omega|skip
 all_goals
  try simp only[h5,Qe8,Qe2] at ht
  try rw[Qa3 (by omega)] at ht
 all_goals try (rw[Ah (n:=0-_) (by omega),show(0:Int)-y2.2.1.tmod 10=((y2.2.1.natAbs % 10:Nat):Int) by omega,Amq hk,V7 hk] at *)
 all_goals try (rw[ht,Amq hk,V7 hk] at *)
 all_goals try rw[Qa3 h3] at a4
 all_goals try (have e1:IntKind.i64.wrap (y2.2.1.tdiv 10)=y2.2.1.tdiv 10:=Ah (by omega);rw[e1])
 ·rw[h1,VP]
 ·unfold sameSize;rw[show ByteArray.size ⟨#[UInt8.ofNat (48+y2.2.1.natAbs % 10)]⟩=1 from rfl];omega
 ·rw[Po (by omega)] at a5;rw[hv,Qb5,show ByteArray.size ⟨#[UInt8.ofNat (48+y2.2.1.natAbs % 10)]⟩=1 from rfl];exact⟨⟨h1,by omega,by omega,by split<;>omega,a5⟩,by omega⟩
 ·unfold sameSize;rw[show ByteArray.size ⟨#[UInt8.ofNat (48+y2.2.1.natAbs % 10)]⟩=1 from rfl];omega
 ·rw[Po (by omega)] at a5;have hv':((y2.2.1.natAbs:Nat):Int)=y2.2.1.natAbs:=rfl;rw[hv,Qb5,show ByteArray.size ⟨#[UInt8.ofNat (48+y2.2.1.natAbs % 10)]⟩=1 from rfl];exact⟨⟨h1,by omega,by omega,by split<;>omega,a5⟩,by omega⟩
 ·unfold sameSize;rw[show ByteArray.size ⟨#[45]⟩=1 from rfl];rw[Qa2 h3] at a4;omega
 ·rw[h3] at a5;rw[AaY h12,<-a5];rfl
 ·rw[h3] at a5;rw[Aat (by omega),<-a5];rfl)
theorem Tf:Go.Proofs.LaysM.n171 Tryz.prog laysCmp_r:=by repeat' first|kernel_rfl|constructor|intro _
def Alc:=AmN.a fItoa<|AcW (by kernel_rfl) (Go.Proofs.Any.strconv_Itoa Tf)
def AjJ:=Alc.a fFormatInt<|Fct.o [0,2] Alc.2 func335 (by
 rintro⟨(n:Int),_⟩ hp;refine ho (.cl fItoa (n,()) fun z2=>.lf fFormatInt (z2.1,())) ?_;refine Ae ?_ fun o1=>(lfY ?_)
 all_goals
  try simp only[AA] at *
  try simp only[fFormatInt,fItoa,std,Nat.reduceAdd,fItoa] at *
  try simp(disch:=omega) only[wrapId',toNat1] at *
  try simp(disch:=omega) only[Qa2,Qa3]
 all_goals first|trivial|omega|grind[wrapId',toNat1,drop_cons,drop_end,good_len,maxLen,fItoa])
theorem Br {α:Type} [Inhabited α] {l:List α} {i:Nat} (h:i<l.length):l.getD i default∈l:=by
 rw[Qb1,Qa5 h];exact List.getElem_mem _
theorem CA {s:ByteArray} (h:isName s=true):s.size<=8:=by
 simp only[isName,Qa1,Qa7] at h;omega
def words9:ByteArray->List ByteArray->ByteArray
 | w,[]=>w
 | w,x::l=>words9 (w++⟨#[32]⟩++x) l
theorem words9_at {w:ByteArray} {l:List ByteArray} {i:Nat} (h:i<l.length):words9 w (l.drop i)=words9 (w++⟨#[32]⟩++l.getD i default) (l.drop (i+1)):=by rw[drop_cons h];rfl
theorem words9_end {w:ByteArray} {l:List ByteArray} {i:Nat} (h:l.length<=i):words9 w (l.drop i)=w:=by rw[Qb6 h];rfl
theorem F4:∀ (l:List ByteArray) (w:ByteArray),l.all isName=true->(words9 w l).size<=w.size+9*l.length:=by
 intro l
 induction l with
 | nil=>intro w _;simp[words9]
 | cons x l ih=>
  intro w h;simp only[List.all_cons,Qa1] at h;have h1:=CA h.1;have h2:=ih (w++⟨#[32]⟩++x) h.2;simp only[words9,Qa6];rw[Qb5,Qb5,show ByteArray.size ⟨#[32]⟩=1 from rfl] at h2;omega
def GI:Fct:=⟨[.v (.el .str),.v (.sl .str)],[.el .str],fun(x_:ByteArray×(List ByteArray)×Unit)=>x_.1.size<=100/\x_.2.1.length<=4/\x_.2.1.all isName=true,fun(x_:ByteArray×(List ByteArray)×Unit)=>(words9 x_.1 x_.2.1,())⟩
abbrev De (w:ByteArray) (l:(List ByteArray)):LInv:=⟨[⟨.s,0,true,.el .str⟩,⟨.s,5,true,.el .int⟩],fun _ (x_:ByteArray×Int×Unit)=>0<=x_.2.1/\x_.2.1<=l.length/\x_.1.size<=100+9*x_.2.1/\words9 x_.1 (l.drop x_.2.1.toNat)=words9 w l,fun(x_:ByteArray×Int×Unit)=>l.length-x_.2.1.toNat⟩
def Aie:=AjJ.a GI<|Fct.p (KP [0,1,4,5] [9]) (fun⟨w,l,_⟩=>lv [(2,De w l)]) AjJ.2 func352 (by
 rintro⟨(w:ByteArray),(l:List ByteArray),_⟩ hp;refine ho (lpx (De w l) (w,((0:Int),())) fun(y1:ByteArray×Int×PUnit) bk1=>.br (decide (y1.2.1<(l.length:Int))) (.ob (sameSize y1.1 (⟨#[32]⟩:ByteArray))<|.ob (inB y1.2.1 l.length)<|.ob (sameSize (y1.1++(⟨#[32]⟩:ByteArray)) (l.getD y1.2.1.toNat default))<|.ob (l=l)<|.ob (Value.string (⟨#[]⟩:ByteArray)=Value.string (⟨#[]⟩:ByteArray))<|.ob (bk1 (y1.1++(⟨#[32]⟩:ByteArray)++l.getD y1.2.1.toNat default,(w1 y1.2.1,())))<|.ok) (.lf GI (y1.1,()))) ?_;refine Aw ?_ fun(y1:ByteArray×Int×PUnit) i1=>Ab (fun h2=>Aa ?_ fun o3=>Aa ?_ fun o4=>Aa ?_ fun o5=>Aa rfl fun _=>Aa rfl fun _=>Aa ?_ fun o6=>trivial) (fun h2=>lfY ?_)
 all_goals
  have hg:∀ i,i<l.length->(l.getD i default).size<=8:=fun i h=>CA (Qc5.1 hp.2.2 _ (Br h))
  try simp only[AA] at *
  try simp only[De,GI,std,Nat.reduceAdd,words9_at,words9_end,sameSize,Qb5] at *
  try simp(disch:=omega) only[wrapId',toNat1] at *
  try simp(disch:=omega) only[Qa2,Qa3]
 all_goals first|trivial|omega|grind[wrapId',toNat1,good_len,maxLen,words9_at,words9_end,sameSize,ByteArray.size_append])
def formatPolicy (p:SPolicy):ByteArray:=if isPolicy p&&p.set_ then(if p.nonce=⟨#[]⟩ then words9 ⟨#[115,99,114,105,112,116]⟩ p.bo++⟨#[59]⟩++words9 ⟨#[115,116,121,108,101]⟩ p.styles++⟨#[59]⟩++words9 ⟨#[105,109,103]⟩ p.images else words9 ⟨#[115,99,114,105,112,116]⟩ p.bo++⟨#[59]⟩++words9 ⟨#[115,116,121,108,101]⟩ p.styles++⟨#[59]⟩++words9 ⟨#[105,109,103]⟩ p.images++⟨#[59,110,111,110,99,101,32]⟩++p.nonce) else⟨#[]⟩
theorem Ff {p:SPolicy} (h:isPolicy p=true) (hs:p.set_=true):p.bo.all isName=true/\p.bo.length<=4/\p.styles.all isName=true/\p.styles.length<=4/\p.images.all isName=true/\p.images.length<=4/\p.nonce.size<=20:=by
 simp only[isPolicy,hs,Qe8,Qa1,Qf8,Qa7] at h;obtain⟨⟨⟨⟨a1,a2⟩,a3,a4⟩,a5,a6⟩,a7⟩:=h;refine⟨a1,a2,a3,a4,a5,a6,?_⟩;rcases a7 with h|h
 ·rw[h];exact Nat.zero_le _
 ·simp only[isValue,Qa1,Qa7] at h;omega
theorem Fz {l:List ByteArray} {w:ByteArray} (h:l.all isName=true) (hl:l.length<=4) (hw:w.size<=6):(words9 w l).size<=42:=by
 have:=F4 l w h;omega
def AG:Fct:=⟨[.v (.el .bi)],[.el .str],fun(x_:SPolicy×Unit)=>szPolicy x_.1<=1099511627776,fun(x_:SPolicy×Unit)=>(formatPolicy x_.1,())⟩
def Al2:=Aie.a AG<|Fct.o (KP [1,2,3] [11,27]) Aie.2 func302 (by
 rintro⟨(p:SPolicy),_⟩ hp;refine ho (let q3_:=(⟨#[]⟩:ByteArray);let q2_:Out:=.lf AG (q3_,());let q1_:=(⟨#[59,110,111,110,99,101,32]⟩:ByteArray);let q0_:=(⟨#[59]⟩:ByteArray);.cl Bn (p,()) fun z2=>.br (!z2.1) q2_ (.br (!p.set_) q2_ (.cl GI ((⟨#[115,99,114,105,112,116]⟩:ByteArray),p.bo,()) fun z3=>.ob (sameSize z3.1 q0_)<|.cl GI ((⟨#[115,116,121,108,101]⟩:ByteArray),p.styles,()) fun z4=>.ob (sameSize (z3.1++q0_) z4.1)<|.ob (sameSize (z3.1++q0_++z4.1) q0_)<|.cl GI ((⟨#[105,109,103]⟩:ByteArray),p.images,()) fun z5=>.ob (sameSize (z3.1++q0_++z4.1++q0_) z5.1)<|.br (!p.nonce.toList==q3_.toList) (.ob (sameSize (z3.1++q0_++z4.1++q0_++z5.1) q1_)<|.ob (sameSize (z3.1++q0_++z4.1++q0_++z5.1++q1_) p.nonce)<|.lf AG (z3.1++q0_++z4.1++q0_++z5.1++q1_++p.nonce,())) (.lf AG (z3.1++q0_++z4.1++q0_++z5.1,()))))) ?_;repeat' (guard_target =~ Out.holds _ _;first|refine lfY ?_|refine Ab (fun _=>?_) fun _=>?_|refine Ae ?_ fun _=>?_|refine Aa ?_ fun _=>?_)
 all_goals
  try simp only[AA] at *
  try simp only[AG,Bn,GI,std,Nat.reduceAdd] at *
 all_goals first|trivial|omega|skip
 all_goals try (have hA:isPolicy p=true:=(by assumption);have hB:p.set_=true:=(by assumption);obtain⟨a1,a2,a3,a4,a5,a6,a7⟩:=Ff hA hB)
 all_goals
  try have b1:=Fz (w:=⟨#[115,99,114,105,112,116]⟩) a1 a2 (by decide)
  try have b2:=Fz (w:=⟨#[115,116,121,108,101]⟩) a3 a4 (by decide)
  try have b3:=Fz (w:=⟨#[105,109,103]⟩) a5 a6 (by decide)
  try simp only[AA] at *
  try simp only[AG,Bn,GI,std,Nat.reduceAdd,formatPolicy,sameSize,Qb5] at *
  try simp(disch:=omega) only[wrapId',toNat1] at *
  try simp(disch:=omega) only[Qa2,Qa3]
 all_goals first|trivial|omega|grind[wrapId',toNat1,drop_cons,drop_end,good_len,maxLen,formatPolicy,sameSize,ByteArray.size_append])
def findGuess (l:List SGuess) (a:SAddr):Int:=fidx (fun g=>decide (g.to=a)) l 0
def Dc:Fct:=⟨[.v (.sl .guess),.v (.el .addr)],[.el .int],fun(x_:(List SGuess)×SAddr×Unit)=>x_.1.length<=4194304,fun(x_:(List SGuess)×SAddr×Unit)=>(findGuess x_.1 x_.2.1,())⟩
abbrev Cn (l:(List SGuess)) (a:SAddr):LInv:=⟨[⟨.s,5,true,.el .int⟩,⟨.b,3,true,.el .addr⟩],fun(z_ x_:Int×SAddr×Unit)=>(0<=x_.1/\x_.1<=l.length/\fidx (fun g=>decide (g.to=a)) (l.drop x_.1.toNat) x_.1=findGuess l a)/\x_.2.1=z_.2.1,fun(x_:Int×SAddr×Unit)=>l.length-x_.1.toNat⟩
def AjB:=Al2.a Dc<|Fct.p (KP [0,3,4,5] [9,18]) (fun⟨l,a,_⟩=>lv [(2,Cn l a)]) Al2.2 func158 (by
 rintro⟨(l:List SGuess),(a:SAddr),_⟩ hp;refine ho (lpx (Cn l a) ((0:Int),(a,())) fun(y1:Int×SAddr×PUnit) bk1=>.br (decide (y1.1<(l.length:Int))) (.ob (inB y1.1 l.length)<|.br ((l.getD y1.1.toNat default).to.host==y1.2.1.host&&((l.getD y1.1.toNat default).to.path==y1.2.1.path&&true)) (.lf Dc (y1.1,())) (.ob (l=l)<|.ob (bk1 (w1 y1.1,(y1.2.1,())))<|.ok)) (.lf Dc ((-1:Int),()))) ?_;refine Aw ?_ fun(y1:Int×SAddr×PUnit) i1=>Ab (fun h2=>Aa ?_ fun o3=>Ab (fun h4=>lfY ?_) (fun h4=>Aa rfl fun _=>Aa ?_ fun o5=>trivial)) (fun h2=>lfY ?_)
 all_goals
  try simp only[Dk] at *
  try simp only[AA] at *
  try simp only[Cn,Dc,std,Nat.reduceAdd,findGuess,fidx] at *
  try simp(disch:=omega) only[wrapId',toNat1] at *
  try simp(disch:=omega) only[Qa2,Qa3]
 all_goals first|trivial|omega|grind[wrapId',toNat1,drop_cons,drop_end,good_len,maxLen,findGuess,fidx])
def fFindGuess1:Fct:=⟨[.v (.el .guess),.p (.el .addr)],[.el .bool],fun(x_:SGuess×SAddr×Unit)=>True,fun(x_:SGuess×SAddr×Unit)=>(decide (x_.1.to=x_.2.1),())⟩
def Amh:=AjB.a fFindGuess1<|Fct.o [1,2,3] AjB.2 func221 (by
 rintro⟨(g:SGuess),(a:SAddr),_⟩ hp;refine ho (.lf fFindGuess1 (g.to.host==a.host&&(g.to.path==a.path&&true),())) ?_;refine lfY ?_;all_goals
  try simp only[Dk] at *
  try simp only[AA] at *
  try simp only[fFindGuess1,std,Nat.reduceAdd] at *
  try simp(disch:=omega) only[wrapId',toNat1] at *
  try simp(disch:=omega) only[Qa2,Qa3]
 all_goals first|trivial|omega|grind[wrapId',toNat1,drop_cons,drop_end,good_len,maxLen])
def AH:Fct:=⟨[aL .guess,.c 221 [.el .addr]],[rI],fun x=>x.1.length<=1000000000000000000/\∀ c,fFindGuess1.pre (c,x.2.1),fun x=>(fidx (fun c=>(fFindGuess1.fn (c,x.2.1)).1) x.1 0,())⟩
abbrev Ai (l:(List SGuess)) (u:(SAddr×Unit)):LInv:=⟨[⟨.s,8,true,.el .int⟩],fun _ (x_:Int×Unit)=>0<=x_.1/\x_.1<=l.length/\fidx (fun c=>(fFindGuess1.fn (c,u)).1) l 0=fidx (fun c=>(fFindGuess1.fn (c,u)).1) (l.drop x_.1.toNat) x_.1,fun(x_:Int×Unit)=>l.length-x_.1.toNat⟩
def Ajq:=Amh.a AH<|Fct.p (KP [0,1,4,5,7,8] [9,16]) (fun⟨l,u,_⟩=>lv [(2,Ai l u)]) Amh.2 func220 (by
 rintro⟨(l:List SGuess),(u:SAddr×PUnit),_⟩ hp;refine ho (lpx (Ai l u) ((0:Int),()) fun(y1:Int×PUnit) bk1=>.br (decide (y1.1<(l.length:Int))) (.ob (inB y1.1 l.length)<|.cl fFindGuess1 (l.getD y1.1.toNat default,u.1,()) fun z2=>.br (z2.1) (.lf AH (y1.1,())) (.ob (l=l)<|.ob (enc Ty.addr u.1=enc Ty.addr u.1)<|.ob (Value.int IntKind.i64 (l.length:Int)=Value.int IntKind.i64 (l.length:Int))<|.ob (bk1 (w1 y1.1,()))<|.ok)) (.lf AH ((-1:Int),()))) ?_;refine Aw ?_ fun(y1:Int×PUnit) i1=>Ab (fun h2=>Aa ?_ fun o3=>Ae trivial fun _=>(Ab (fun h4=>lfY ?_) (fun h4=>Aa rfl fun _=>Aa rfl fun _=>Aa rfl fun _=>Aa ?_ fun o5=>trivial))) (fun h2=>lfY ?_)
 all_goals
  try simp only[AA] at *
  try simp only[Ai,fFindGuess1,AH,std,Nat.reduceAdd] at *
  try have hp2:=hp.2
  try have hp1:=hp.1
 all_goals first|trivial|omega|grind[wrapId',toNat1,drop_cons,drop_end,good_len,maxLen,fidx])
def Ajs:=Ajq.a Dc<|Fct.o [0,3,4] Ajq.2 func118 (by
 rintro⟨(l:List SGuess),(a:SAddr),_⟩ hp;refine ho (.cl AH (l,(a,()),()) fun(z2:Int×PUnit)=>.lf Dc (z2.1,())) ?_;refine Ae ?_ fun o1=>(lfY ?_)
 all_goals
  try simp only[AA] at *
  try simp only[Dc,AH,std,Nat.reduceAdd,fFindGuess1,findGuess] at *
  try simp(disch:=omega) only[wrapId',toNat1] at *
  try simp(disch:=omega) only[Qa2,Qa3]
 all_goals first|trivial|omega|grind[wrapId',toNat1,drop_cons,drop_end,good_len,maxLen,fFindGuess1,findGuess])
def fCopyGuesses:Fct:=⟨[.v (.sl .guess)],[.sl .guess],fun(x_:(List SGuess)×Unit)=>x_.1.length<=4194304,fun(x_:(List SGuess)×Unit)=>(x_.1,())⟩
def AkA:=Ajs.a fCopyGuesses<|Fct.o [0,2] Ajs.2 func103 (by
 rintro⟨(l:List SGuess),_⟩ hp;refine ho (.ob (True)<|.ob (BK (0+List.length l) 104)<|.lf fCopyGuesses ([]++l,())) ?_;refine Aa trivial fun _=>Aa ?_ fun o1=>lfY ?_
 all_goals
  try simp only[AA] at *
  try simp only[fCopyGuesses,std,Nat.reduceAdd] at *
  try simp(disch:=omega) only[wrapId',toNat1] at *
  try simp(disch:=omega) only[Qa2,Qa3]
 all_goals first|trivial|omega|grind[wrapId',toNat1,drop_cons,drop_end,good_len,maxLen])
def addGuess (l:List SGuess) (a:SAddr) (x:SResponse):List SGuess×Bool:=if 0<=findGuess l a\/6<=countIf (fun g=>!g.used) l then(l,false) else(l++[⟨a,x,false⟩],true)
def Cr:Fct:=⟨[.v (.sl .guess),.v (.el .addr),.v (.el .bc)],[.sl .guess,.el .bool],fun(x_:(List SGuess)×SAddr×SResponse×Unit)=>x_.1.length<=4194304,fun(x_:(List SGuess)×SAddr×SResponse×Unit)=>((addGuess x_.1 x_.2.1 x_.2.2.1).1,(addGuess x_.1 x_.2.1 x_.2.2.1).2,())⟩
def Ak8:=AkA.a Cr<|Fct.o (KP [0,4,5,6,7,8] [20]) AkA.2 func86 (by
 rintro⟨(l:List SGuess),(a:SAddr),(x:SResponse),_⟩ hp;refine ho (.ob (True)<|.ob (BK (0+List.length l) 104)<|.cl Dc (l,a,()) fun(z2:Int×PUnit)=>.br (decide (z2.1>=0)) (.lf Cr ([]++l,false,())) (.cl fUnused (l,()) fun(z3:Int×PUnit)=>.br (decide (z3.1>=6)) (.lf Cr ([]++l,false,())) (.ob (True)<|.ob (BK (([]++l).length+[(⟨a,x,false⟩:SGuess)].length) 104)<|.lf Cr ([]++l++[(⟨a,x,false⟩:SGuess)],true,())))) ?_;refine Aa trivial fun _=>Aa ?_ fun o1=>Ae ?_ fun o2=>(Ab (fun h3=>lfY ?_) (fun h3=>Ae ?_ fun o4=>(Ab (fun h5=>lfY ?_) (fun h5=>Aa trivial fun _=>Aa ?_ fun o6=>lfY ?_))))
 all_goals
  try simp only[AA] at *
  try simp only[Cr,Dc,fUnused,std,Nat.reduceAdd,addGuess,fUnused,fCopyGuesses] at *
  try simp(disch:=omega) only[wrapId',toNat1] at *
  try simp(disch:=omega) only[Qa2,Qa3]
 all_goals first|trivial|omega|grind[wrapId',toNat1,drop_cons,drop_end,good_len,maxLen,addGuess,fUnused,fCopyGuesses])
def Ajd:=Ak8.a Cr<|Fct.o (KP [0,4,5,6,7,8] [19]) Ak8.2 func39 (by
 rintro⟨(l:List SGuess),(a:SAddr),(x:SResponse),_⟩ hp;refine ho (.cl fCopyGuesses (l,()) fun z2=>.cl Dc (l,a,()) fun(z3:Int×PUnit)=>.br (decide (z3.1>=0)) (.lf Cr (z2.1,false,())) (.cl fUnused (l,()) fun(z4:Int×PUnit)=>.br (decide (z4.1>=6)) (.lf Cr (z2.1,false,())) (.ob (True)<|.ob (BK (z2.1.length+[(⟨a,x,false⟩:SGuess)].length) 104)<|.lf Cr (z2.1++[(⟨a,x,false⟩:SGuess)],true,())))) ?_;refine Ae ?_ fun o1=>(Ae ?_ fun o2=>(Ab (fun h3=>lfY ?_) (fun h3=>Ae ?_ fun o4=>(Ab (fun h5=>lfY ?_) (fun h5=>Aa trivial fun _=>Aa ?_ fun o6=>lfY ?_)))))
 all_goals
  try simp only[AA] at *
  try simp only[Cr,fCopyGuesses,Dc,fUnused,std,Nat.reduceAdd,addGuess,fUnused,fCopyGuesses] at *
  try simp(disch:=omega) only[wrapId',toNat1] at *
  try simp(disch:=omega) only[Qa2,Qa3]
 all_goals first|trivial|omega|grind[wrapId',toNat1,drop_cons,drop_end,good_len,maxLen,addGuess,fUnused,fCopyGuesses])
theorem Agv {α:Type} (f:α->Nat) (l:List α):szL f l=(l.map fun x=>f x+1).sum:=by
 induction l with
 | nil=>rfl
 | cons x l ih=>
  have h3:szL f (x::l)=f x+1+szL f l:=by simp only[szL,Qc8,List.sum_cons,Qa6];omega
  rw[h3,ih,Qc8,List.sum_cons]
theorem LQ (b:UInt8) (s:ByteArray):szL Ac (spl b s)=s.size+1:=by
 rw[Agv,<-Bq,<-S2 b (toL s)];unfold spl;rw[Qg4];congr 1
def CF:Fct:=⟨[.v (.el .str),.v (.el .u8)],[.sl .str],fun(x_:ByteArray×Int×Unit)=>x_.1.size<=1099511627776/\0<=x_.2.1/\x_.2.1<=255,fun(x_:ByteArray×Int×Unit)=>(spl (UInt8.ofNat x_.2.1.toNat) x_.1,())⟩
theorem LJ {s:ByteArray} {i:Nat} {b:Int} (h0:0<=b) (h1:b<=255):((s.data.getD i 0).toNat:Int)=b↔s.data.getD i 0=UInt8.ofNat b.toNat:=by
 constructor
 ·intro h;apply UInt8.toNat_inj.1;rw[UInt8.toNat_ofNat'];omega
 ·intro h;rw[h,UInt8.toNat_ofNat'];omega
abbrev B8 (s:ByteArray) (b:Int):LInv:=⟨[⟨.s,5,true,.sl .str⟩,⟨.s,6,true,.el .int⟩,⟨.s,7,true,.el .int⟩],fun _ (x_:(List ByteArray)×Int×Int×Unit)=>0<=x_.2.2.1/\x_.2.2.1<=s.size+1/\0<=x_.2.1/\x_.2.1<=x_.2.2.1/\x_.1.length<=x_.2.2.1/\x_.1++IN (UInt8.ofNat b.toNat) s x_.2.1.toNat x_.2.2.1.toNat=spl (UInt8.ofNat b.toNat) s,fun(x_:(List ByteArray)×Int×Int×Unit)=>(s.size+1-x_.2.2.1).toNat⟩
def AjP:=Ajd.a CF<|Fct.p (KP [0,1,4,5,6,7] [12,25]) (fun⟨s,b,_⟩=>lv [(4,B8 s b)]) Ajd.2 func301 (by
 rintro⟨(s:ByteArray),(b:Int),_⟩ hp;refine ho (let q3_:=Value.string s=Value.string s;let q2_:=(s.size:Int);let q1_:=Value.int IntKind.u8 b=Value.int IntKind.u8 b;lpx (B8 s b) ([],((0:Int),((0:Int),()))) fun(y1:List ByteArray×Int×Int×PUnit) bk1=>let q0_:Out:=.ob (0<=y1.2.1/\y1.2.1<=y1.2.2.1/\y1.2.2.1<=q2_)<|.ob (True)<|.ob (BK (y1.1.length+[s.extract y1.2.1.toNat y1.2.2.1.toNat].length) 16)<|.ob q3_<|.ob q1_<|.ob (bk1 (y1.1++[s.extract y1.2.1.toNat y1.2.2.1.toNat],(w1 y1.2.2.1,(w1 y1.2.2.1,()))))<|.ok;.br (decide (y1.2.2.1<=q2_)) (.br (y1.2.2.1==q2_) q0_ (.ob (0<=y1.2.2.1/\y1.2.2.1<q2_)<|.br ((↑(s.data.getD y1.2.2.1.toNat 0).toNat:Int)==b) q0_ (.ob q3_<|.ob q1_<|.ob (bk1 (y1.1,(y1.2.1,(w1 y1.2.2.1,()))))<|.ok))) (.lf CF (y1.1,()))) ?_;repeat' first|(guard_target =~ Out.holds _ _;first|refine Aw (li:=B8 s b) ?_ fun(y1:List ByteArray×Int×Int×PUnit) i1=>?_|refine lfY ?_|refine Ab (fun _=>?_) fun _=>?_|refine Aa ?_ fun _=>?_)|exact trivial
 all_goals obtain⟨hp1,hp2,hp3⟩:=hp
 all_goals
  try obtain⟨a1,a2,a3,a4,a5,a6⟩:=i1
  try obtain⟨a1,a2,a3,a4,a5,a6⟩:=i2
  try obtain⟨a1,a2,a3,a4,a5,a6⟩:=i3
  try simp only[AA] at *
  try simp only[B8,CF,std,Nat.reduceAdd,Qa4,Qa6,Qb8,LJ hp2 hp3] at *
  try simp(disch:=omega) only[wrapId',toNat1] at *
 all_goals first|trivial|omega|exact⟨by omega,by omega,by omega,by omega,by omega,TH _ _⟩|skip
 all_goals first|(refine⟨⟨by omega,by omega,by omega,by omega,by omega,?_⟩,by omega⟩;rw[U7 _ (by omega)] at a6;rw[Pi _ (by omega),Qd8];exact a6)|(refine⟨⟨by omega,by omega,by omega,by omega,by omega,?_⟩,by omega⟩;rw[YY (by omega) (by assumption)] at a6;rw[Qb7];exact a6)|(refine⟨⟨by omega,by omega,by omega,by omega,by omega,?_⟩,by omega⟩;rw[U0 (by omega) (by omega) (by assumption)] at a6;exact a6)|(rw[Pi _ (by omega),Qd8] at a6;exact a6)|skip)
def polCand (s:ByteArray):SPolicy:=⟨true,(spl 32 ((spl 59 s).getD 0 default)).drop 1,(spl 32 ((spl 59 s).getD 1 default)).drop 1,(spl 32 ((spl 59 s).getD 2 default)).drop 1,if 3<(spl 59 s).length/\6<((spl 59 s).getD 3 default).size then((spl 59 s).getD 3 default).extract 6 ((spl 59 s).getD 3 default).size else⟨#[]⟩⟩
def parsePolicy (s:ByteArray):SPolicy×Bool:=if s=⟨#[]⟩ then(default,true) else if 3<=(spl 59 s).length/\formatPolicy (polCand s)=s then(polCand s,true) else(default,false)
theorem DR (b:UInt8) (s:ByteArray) (k:Nat):((spl b s).getD k default).size<=s.size:=by
 by_cases h:k<(spl b s).length
 ·exact Hz (Br h)
 ·rw[Qb1,List.getElem?_eq_none (by omega)];exact Nat.zero_le _
theorem S7 {s n:ByteArray} (hn:n.size<=s.size):szPolicy ⟨true,(spl 32 ((spl 59 s).getD 0 default)).drop 1,(spl 32 ((spl 59 s).getD 1 default)).drop 1,(spl 32 ((spl 59 s).getD 2 default)).drop 1,n⟩<=4*(s.size+1):=by
 have h0:=DR 59 s 0;have h1:=DR 59 s 1;have h2:=DR 59 s 2;have d0:=MZ Ac (spl 32 ((spl 59 s).getD 0 default)) 1;have d1:=MZ Ac (spl 32 ((spl 59 s).getD 1 default)) 1;have d2:=MZ Ac (spl 32 ((spl 59 s).getD 2 default)) 1;rw[LQ] at d0 d1 d2;simp only[szPolicy];omega
def fParsePolicy:Fct:=⟨[.v (.el .str)],[.el .bi,.el .bool],fun(x_:ByteArray×Unit)=>x_.1.size<=200000000,fun(x_:ByteArray×Unit)=>((parsePolicy x_.1).1,(parsePolicy x_.1).2,())⟩
def Ajh:=AjP.a fParsePolicy<|Fct.o (KP [0,2,3,4,5] [7,13,40,49]) AjP.2 func243 (by
 rintro⟨(s:ByteArray),_⟩ hp;refine ho (let q11_:=({ data := #[]:ByteArray });let q1_:Out:=.leaf (.tup [(true,[vb (false),.nl,.nl,.nl,vs q11_]),(false,[vb (false)])]) [] [];.br (ByteArray.toList s=={ data := #[]:ByteArray }.toList) (.leaf (.tup [(true,[vb (false),.nl,.nl,.nl,vs q11_]),(false,[vb (true)])]) [] []) (.ob (CF.pre (s,(59:Int),()))<|.lt (List ByteArray×PUnit) (CF.fn (s,(59:Int),())) fun z2=>let q12_:=(3:Nat)<z2.fst.length;let q6_:=(z2.fst.length:Int);let q10_:=(0:Int)<=(3:Int)/\(3:Int)<q6_;let q5_:=z2.fst.getD (3:Nat) default;.br (decide (q6_<(3:Int))) q1_ (.ob ((0:Int)<=(0:Int)/\(0:Int)<q6_)<|.ob ((0:Nat)<z2.fst.length)<|.ob (CF.pre (z2.fst.getD (0:Nat) default,(32:Int),()))<|.lt (List ByteArray×PUnit) (CF.fn (z2.fst.getD (0:Nat) default,(32:Int),())) fun z3=>let q2_:=z3.fst.length-(1:Nat);let q7_:=(1:Nat)+q2_<=z3.fst.length;.ob ((0:Int)<=(1:Int)/\(1:Int)<=(z3.fst.length:Int))<|.ob ((0:Int)<=(1:Int)/\(1:Int)<q6_)<|.ob ((1:Nat)<z2.fst.length)<|.ob (CF.pre (z2.fst.getD (1:Nat) default,(32:Int),()))<|.lt (List ByteArray×PUnit) (CF.fn (z2.fst.getD (1:Nat) default,(32:Int),())) fun z4=>let q3_:=z4.fst.length-(1:Nat);let q8_:=(1:Nat)+q3_<=z4.fst.length;.ob ((0:Int)<=(1:Int)/\(1:Int)<=(z4.fst.length:Int))<|.ob ((0:Int)<=(2:Int)/\(2:Int)<q6_)<|.ob ((2:Nat)<z2.fst.length)<|.ob (CF.pre (z2.fst.getD (2:Nat) default,(32:Int),()))<|.lt (List ByteArray×PUnit) (CF.fn (z2.fst.getD (2:Nat) default,(32:Int),())) fun z5=>let q4_:=z5.fst.length-(1:Nat);let q9_:=(1:Nat)+q4_<=z5.fst.length;let q0_:Out:=.ob q7_<|.ob q8_<|.ob q9_<|.ob (AG.pre ({ set_:=true,bo:=cut z3.fst (1:Nat) q2_,styles:=cut z4.fst (1:Nat) q3_,images:=cut z5.fst (1:Nat) q4_,nonce:={ data := #[]:ByteArray }:SPolicy },()))<|.lt (ByteArray×PUnit) (AG.fn ({ set_:=true,bo:=cut z3.fst (1:Nat) q2_,styles:=cut z4.fst (1:Nat) q3_,images:=cut z5.fst (1:Nat) q4_,nonce:={ data := #[]:ByteArray }:SPolicy },())) fun z7=>.br (!z7.fst.toList==ByteArray.toList s) q1_ (.ob q7_<|.ob q8_<|.ob q9_<|.leaf (mkR fParsePolicy.rs (⟨true,cut z3.fst (1:Nat) q2_,cut z4.fst (1:Nat) q3_,cut z5.fst (1:Nat) q4_,{ data := #[]:ByteArray }⟩,true,())) [] []);.ob ((0:Int)<=(1:Int)/\(1:Int)<=(z5.fst.length:Int))<|.br (decide (q6_>(3:Int))) (.ob q10_<|.ob q12_<|.br (decide ((q5_.size:Int)>(6:Int))) (.ob q10_<|.ob q12_<|.ob ((0:Int)<=(6:Int)/\(6:Int)<=(q5_.size:Int))<|.ob q7_<|.ob q8_<|.ob q9_<|.ob (AG.pre ({ set_:=true,bo:=cut z3.fst (1:Nat) q2_,styles:=cut z4.fst (1:Nat) q3_,images:=cut z5.fst (1:Nat) q4_,nonce:=q5_.extract (6:Nat) q5_.size:SPolicy },()))<|.lt (ByteArray×PUnit) (AG.fn ({ set_:=true,bo:=cut z3.fst (1:Nat) q2_,styles:=cut z4.fst (1:Nat) q3_,images:=cut z5.fst (1:Nat) q4_,nonce:=q5_.extract (6:Nat) q5_.size:SPolicy },())) fun z6=>.br (!z6.fst.toList==ByteArray.toList s) q1_ (.ob q7_<|.ob q8_<|.ob q9_<|.leaf (mkR fParsePolicy.rs (⟨true,cut z3.fst (1:Nat) q2_,cut z4.fst (1:Nat) q3_,cut z5.fst (1:Nat) q4_,q5_.extract (6:Nat) q5_.size⟩,true,())) [] [])) q0_) q0_))) ?_;refine Ab (fun h1=>Fct.leafZ (default,true,()) (by repeat' first|exact rfl|exact trivial|refine And.intro ?_ ?_) ?_) (fun h1=>Aa ?_ fun o2=>Dh (Ab (fun h3=>Fct.leafZ (default,false,()) (by repeat' first|exact rfl|exact trivial|refine And.intro ?_ ?_) ?_) (fun h3=>Aa ?_ fun o4=>Aa ?_ fun o5=>Aa ?_ fun o6=>Dh (Aa ?_ fun o7=>Aa ?_ fun o8=>Aa ?_ fun o9=>Aa ?_ fun o10=>Dh (Aa ?_ fun o11=>Aa ?_ fun o12=>Aa ?_ fun o13=>Aa ?_ fun o14=>Dh (Aa ?_ fun o15=>Ab (fun h16=>Aa ?_ fun o17=>Aa ?_ fun o18=>Ab (fun h19=>Aa ?_ fun o20=>Aa ?_ fun o21=>Aa ?_ fun o22=>Aa ?_ fun o23=>Aa ?_ fun o24=>Aa ?_ fun o25=>Aa ?_ fun o26=>Dh (Ab (fun h27=>Fct.leafZ (default,false,()) (by repeat' first|exact rfl|exact trivial|refine And.intro ?_ ?_) ?_) (fun h27=>Aa ?_ fun o28=>Aa ?_ fun o29=>Aa ?_ fun o30=>Fct.leafY ?_))) (fun h19=>Aa ?_ fun o31=>Aa ?_ fun o32=>Aa ?_ fun o33=>Aa ?_ fun o34=>Dh (Ab (fun h35=>Fct.leafZ (default,false,()) (by repeat' first|exact rfl|exact trivial|refine And.intro ?_ ?_) ?_) (fun h35=>Aa ?_ fun o36=>Aa ?_ fun o37=>Aa ?_ fun o38=>Fct.leafY ?_)))) (fun h16=>Aa ?_ fun o39=>Aa ?_ fun o40=>Aa ?_ fun o41=>Aa ?_ fun o42=>Dh (Ab (fun h43=>Fct.leafZ (default,false,()) (by repeat' first|exact rfl|exact trivial|refine And.intro ?_ ?_) ?_) (fun h43=>Aa ?_ fun o44=>Aa ?_ fun o45=>Aa ?_ fun o46=>Fct.leafY ?_)))))))));all_goals
  try simp only[AA] at *
  try simp only[AG,fParsePolicy,CF,std,Nat.reduceAdd,Ww] at *
  try simp only[show UInt8.ofNat (Int.toNat 59)=59 from rfl,show UInt8.ofNat (Int.toNat 32)=32 from rfl] at *
 all_goals
  have g0:=DR 59 s 0;have g1:=DR 59 s 1;have g2:=DR 59 s 2;have g3:=DR 59 s 3;have k0:=DE 32 ((spl 59 s).getD 0 default);have k1:=DE 32 ((spl 59 s).getD 1 default);have k2:=DE 32 ((spl 59 s).getD 2 default)
 all_goals first|trivial|omega|(with_reducible refine Qe7 (S7 (Nat.zero_le _)) ?_;omega)|(with_reducible refine Qe7 (S7 ?_) ?_;(rw[Qc4];omega);omega)|skip
 all_goals first|(simp only[parsePolicy];rw[Qa2 (by assumption)];exact⟨rfl,rfl⟩)|(simp only[parsePolicy];rw[Qa3 (by assumption),Qa3 (by omega)];exact⟨rfl,rfl⟩)|(simp only[parsePolicy,polCand];grind)|skip)
def isResponse (x:SResponse):Bool:=inRange x.status 100 599&&(inRange x.kind 1 5&&(decide (x.body.size<=400)&&(inRange x.age 0 1000&&(parsePolicy x.bi).2)))
def fIsResponse:Fct:=⟨[.v (.el .bc)],[.el .bool],fun(x_:SResponse×Unit)=>x_.1.bi.size<=200000000,fun(x_:SResponse×Unit)=>(isResponse x_.1,())⟩
def AlF:=Ajh.a fIsResponse<|Fct.o [1,2,4] Ajh.2 func161 (by
 rintro⟨(x:SResponse),_⟩ hp;refine ho (.cl fParsePolicy (x.bi,()) fun z2=>.cl fInRange (x.status,(100:Int),(599:Int),()) fun z3=>.br (z3.1) (.cl fInRange (x.kind,(1:Int),(5:Int),()) fun z4=>.br (z4.1) (.br (decide ((x.body.size:Int)<=400)) (.cl fInRange (x.age,(0:Int),(1000:Int),()) fun z5=>.br (z5.1) (.lf fIsResponse (z2.2.1,())) (.lf fIsResponse (false,()))) (.lf fIsResponse (false,()))) (.lf fIsResponse (false,()))) (.lf fIsResponse (false,()))) ?_;repeat' first|(guard_target =~ Out.holds _ _;first|refine lfY ?_|refine Ab (fun _=>?_) fun _=>?_|refine Ae ?_ fun _=>?_)|exact trivial
 all_goals
  try simp only[AA] at *
  try simp only[fInRange,fIsResponse,fParsePolicy,std,Nat.reduceAdd,isResponse,fParsePolicy,fInRange] at *
  try simp(disch:=omega) only[wrapId',toNat1] at *
  try simp(disch:=omega) only[Qa2,Qa3]
 all_goals first|trivial|omega|grind[wrapId',toNat1,drop_cons,drop_end,good_len,maxLen,isResponse,fParsePolicy,fInRange])
def entOk (all:List SEntry):List SEntry->Int->Bool
 | [],_=>true
 | e::l,i=>isName e.top&&(isName e.to.host&&isName e.to.path)&&isResponse e.bc&&decide (e.bc.status=200)&&decide (fidx (fun x=>decide (x.top=e.top)&&decide (x.to=e.to)) all 0=i)&&entOk all l (i+1)
theorem entOk_at {all l:List SEntry} {i:Nat} {k:Int} (h:i<l.length):entOk all (l.drop i) k=(isName (l.getD i default).top&&(isName (l.getD i default).to.host&&isName (l.getD i default).to.path)&&isResponse (l.getD i default).bc&&decide ((l.getD i default).bc.status=200)&&decide (fidx (fun x=>decide (x.top=(l.getD i default).top)&&decide (x.to=(l.getD i default).to)) all 0=k)&&entOk all (l.drop (i+1)) (k+1)):=by rw[drop_cons h];rfl
theorem entOk_end {all l:List SEntry} {i:Nat} {k:Int} (h:l.length<=i):entOk all (l.drop i) k=true:=by rw[Qb6 h];rfl
def isCache (c:SCache):Bool:=entOk c.bf c.bf 0&&decide (c.bf.length<=100)
def fIsCache:Fct:=⟨[.v (.el .cache)],[.el .bool],fun(x_:SCache×Unit)=>szCache x_.1<=200000000,fun(x_:SCache×Unit)=>(isCache x_.1,())⟩
theorem KC {l:List SEntry} {i:Nat} (h:i<l.length):AX (l.getD i default)+l.length<=szL AX l:=DO AX h
abbrev B3 (c:SCache):LInv:=⟨[⟨.s,3,true,.el .int⟩,⟨.b,1,false,.el .cache⟩],fun(z_ x_:Int×SCache×Unit)=>(0<=x_.1/\x_.1<=c.bf.length/\entOk c.bf (c.bf.drop x_.1.toNat) x_.1=entOk c.bf c.bf 0)/\x_.2.1=z_.2.1,fun(x_:Int×SCache×Unit)=>c.bf.length-x_.1.toNat⟩
def AmR:=AlF.a fIsCache<|Fct.p (KP [1,2,3,4] [9,48]) (fun⟨c,_⟩=>lv [(2,B3 c)]) AlF.2 func244 (by
 rintro⟨(c:SCache),_⟩ hp;refine ho (let q1_:Out:=.lf fIsCache (false,());lpx (B3 c) ((0:Int),(c,())) fun(y1:Int×SCache×PUnit) bk1=>let q2_:=(y1.2.1.bf.length:Int);let q0_:=y1.2.1.bf.getD y1.1.toNat default;.br (decide (y1.1<q2_)) (.ob (inB y1.1 y1.2.1.bf.length)<|.cl fIsName (q0_.top,()) fun z2=>.br (!z2.1) q1_ (.cl fIsAddr (q0_.to,()) fun z3=>.br (!z3.1) q1_ (.cl fIsResponse (q0_.bc,()) fun z4=>.br (!z4.1) q1_ (.br (q0_.bc.status != 200) q1_ (.cl fFindEntry (y1.2.1,q0_.top,q0_.to,()) fun(z5:Int×PUnit)=>.br (z5.1 != y1.1) q1_ (.ob (bk1 (w1 y1.1,(y1.2.1,())))<|.ok)))))) (.lf fIsCache (decide (q2_<=100),()))) ?_;repeat' first|(guard_target =~ Out.holds _ _;first|refine Aw (li:=B3 c) ?_ fun(y1:Int×SCache×PUnit) i1=>?_|refine lfY ?_|refine Ab (fun _=>?_) fun _=>?_|refine Ae ?_ fun _=>?_|refine Aa ?_ fun _=>?_)|exact trivial
 all_goals
  have hl:=Ad AX c.bf;have hg:∀ i,i<c.bf.length->(c.bf.getD i default).top.size<=200000000/\(c.bf.getD i default).to.host.size<=200000000/\(c.bf.getD i default).to.path.size<=200000000/\(c.bf.getD i default).bc.bi.size<=200000000:=fun i h=>by have:=KC h;have hp2:szCache c<=200000000:=hp;simp only[AX,szCache,szAddr,Af] at *;omega
  try simp only[AA] at *
  try simp only[B3,fFindEntry,fIsAddr,fIsCache,fIsName,fIsResponse,std,Nat.reduceAdd,isCache,fIsName,fIsAddr,fIsResponse,fFindEntry,szCache,entOk_at,entOk_end] at *
  try simp(disch:=omega) only[wrapId',toNat1] at *
  try simp(disch:=omega) only[Qa2,Qa3]
 all_goals first|trivial|omega|grind[wrapId',toNat1,drop_cons,drop_end,good_len,maxLen,isCache,fIsName,fIsAddr,fIsResponse,fFindEntry,szCache,entOk_at,entOk_end])
theorem ZH:Go.Proofs.Lays.n101 Tryz.prog laysCmp_r:=by repeat' first|kernel_rfl|constructor|intro _
def AmA:=AmR.a EM<|AeK (Go.Proofs.Any.strings_TrimPrefix ZH)
theorem VA:Go.Proofs.Lays.n146 Tryz.prog laysCmp_r:=by repeat' first|kernel_rfl|constructor|intro _
def AmD:=AmA.a DW<|Aae fun s sep w h hs h1=>by obtain⟨m,hm⟩:=KD (zero := #[.int .i64 0]) (t:=3) (g:=laysCmp_r.g 1) h (Qf9 (by kernel_rfl)) (by kernel_rfl) rfl (by kernel_rfl) (by kernel_rfl) Tryz.underlying3;exact Go.Proofs.Any.strings_Split VA (by kernel_rfl) s sep m w hs hm h1
theorem SZ:Go.Proofs.Lays.n156 Tryz.prog laysCmp_r:=by repeat' first|kernel_rfl|constructor|intro _
theorem P1:Go.Proofs.Builder.Extra Tryz.prog laysCmp_r:=⟨⟨by kernel_rfl,by kernel_rfl⟩,by kernel_rfl,fun _=>by kernel_rfl,fun _=>by kernel_rfl,fun _=>by kernel_rfl,by kernel_rfl,by kernel_rfl,by kernel_rfl,by decide⟩
def Al5:=AmD.a Kg<|Ado (fun _ _=>trivial) (Go.Proofs.Any.strings_Join_none SZ P1) (Go.Proofs.Any.strings_Join SZ P1)
theorem Mi (sep x:List UInt8):∀ l:List (List UInt8),NK sep (x::l)=x++(l.map (sep++·)).flatten
 | []=>by simp[NK]
 | y::l=>by rw[NK,Mi sep y l,Qc8,List.flatten_cons];simp
theorem IH:∀ (l:List ByteArray) (w:ByteArray),toL (words9 w l)=toL w++(l.map fun x=>32::toL x).flatten
 | [],w=>by simp[words9]
 | x::l,w=>by rw[words9,IH l,Eg,Eg,Qc8,List.flatten_cons];simp[toL]
theorem QU (w:ByteArray) (l:List ByteArray):IE (w::l) ⟨#[32]⟩=words9 w l:=by
 unfold IE;rw[<-C7 (words9 w l),IH,Qc8,Mi,Qg4];congr 2
def Ajl:=Al5.a AG<|Fct.o (KP [1,2,3] [11,33]) Al5.2 func295 (by
 rintro⟨(p:SPolicy),_⟩ hp;refine ho (let q4_:=(⟨#[]⟩:ByteArray);let q3_:=(⟨#[32]⟩:ByteArray);let q2_:Out:=.lf AG (q4_,());let q1_:=(⟨#[59,110,111,110,99,101,32]⟩:ByteArray);let q0_:=(⟨#[59]⟩:ByteArray);.cl Bn (p,()) fun z2=>.br (!z2.1) q2_ (.br (!p.set_) q2_ (.ob (True)<|.ob (BK (1+p.bo.length) 16)<|.cl Kg ([(⟨#[115,99,114,105,112,116]⟩:ByteArray)]++p.bo,q3_,()) fun z3=>.ob (sameSize z3.1 q0_)<|.ob (True)<|.ob (BK (1+p.styles.length) 16)<|.cl Kg ([(⟨#[115,116,121,108,101]⟩:ByteArray)]++p.styles,q3_,()) fun z4=>.ob (sameSize (z3.1++q0_) z4.1)<|.ob (sameSize (z3.1++q0_++z4.1) q0_)<|.ob (True)<|.ob (BK (1+p.images.length) 16)<|.cl Kg ([(⟨#[105,109,103]⟩:ByteArray)]++p.images,q3_,()) fun z5=>.ob (sameSize (z3.1++q0_++z4.1++q0_) z5.1)<|.br (!p.nonce.toList==q4_.toList) (.ob (sameSize q1_ p.nonce)<|.ob (sameSize (z3.1++q0_++z4.1++q0_++z5.1) (q1_++p.nonce))<|.lf AG (z3.1++q0_++z4.1++q0_++z5.1++(q1_++p.nonce),())) (.lf AG (z3.1++q0_++z4.1++q0_++z5.1,()))))) ?_;refine Ae ?_ fun o1=>(Ab (fun h2=>lfY ?_) (fun h2=>Ab (fun h3=>lfY ?_) (fun h3=>Aa trivial fun _=>Aa ?_ fun o4=>Ae ?_ fun o5=>(Aa ?_ fun o6=>Aa trivial fun _=>Aa ?_ fun o7=>Ae ?_ fun o8=>(Aa ?_ fun o9=>Aa ?_ fun o10=>Aa trivial fun _=>Aa ?_ fun o11=>Ae ?_ fun o12=>(Aa ?_ fun o13=>Ab (fun h14=>Aa ?_ fun o15=>Aa ?_ fun o16=>lfY ?_) (fun h14=>lfY ?_)))))))
 all_goals
  try simp only[AA] at *
  try simp only[AG,Bn,Kg,std,Nat.reduceAdd,Kg,List.singleton_append,QU] at *
 all_goals first|trivial|omega|skip
 all_goals try (have hA:isPolicy p=true:=(by assumption);have hB:p.set_=true:=(by assumption);obtain⟨a1,a2,a3,a4,a5,a6,a7⟩:=Ff hA hB)
 all_goals
  try have b1:=Fz (w:=⟨#[115,99,114,105,112,116]⟩) a1 a2 (by decide)
  try have b2:=Fz (w:=⟨#[115,116,121,108,101]⟩) a3 a4 (by decide)
  try have b3:=Fz (w:=⟨#[105,109,103]⟩) a5 a6 (by decide)
  try simp only[AA] at *
  try simp only[AG,Bn,Kg,std,Nat.reduceAdd,formatPolicy,sameSize,Qb5,ByteArray.append_assoc] at *
  try simp(disch:=omega) only[wrapId',toNat1] at *
  try simp(disch:=omega) only[Qa2,Qa3]
 all_goals first|trivial|omega|grind[wrapId',toNat1,drop_cons,drop_end,good_len,maxLen,formatPolicy,sameSize,ByteArray.size_append,ByteArray.append_assoc])
theorem Adh {b:UInt8} (hb:nameByte b=false) {s:ByteArray} (h:isName s=true):b∉toL s:=by
 intro hm;simp only[isName,Qa1,allB,Qc5] at h;rw[h.1 b hm] at hb;cases hb
theorem KX {b:UInt8} (hb:nameByte b=false) (h32:b≠32) {l:List ByteArray} {w:ByteArray} (hl:l.all isName=true) (hw:b∉toL w):b∉toL (words9 w l):=by
 rw[IH];simp only[Qc0,not_or,List.mem_flatten,Qg7,not_exists,not_and];refine⟨hw,?_⟩;rintro _ ⟨x,hx,rfl⟩ hm;rcases Qd3.1 hm with rfl|hm
 ·exact h32 rfl
 ·exact Adh hb (Qc5.1 hl x hx) hm
theorem Nu {b:UInt8} (hb:valByte b=false) {s:ByteArray} (h:isValue s=true):b∉toL s:=by
 intro hm;simp only[isValue,Qa1,allB,Qc5] at h;rw[h.1 b hm] at hb;cases hb
theorem YD {b:UInt8} {s:ByteArray} (h:b∉toL s):spl b s=[s]:=by
 unfold spl;rw[Pv h];simp[C7]
theorem Iy {b:UInt8} {s t:ByteArray} (h:b∉toL s):spl b (s++⟨#[b]⟩++t)=s::spl b t:=by
 unfold spl;rw[Eg,Eg,show toL ⟨#[b]⟩=[b] from rfl,Qb7,List.singleton_append,SK _ h,Qc8,C7]
theorem TK {q:SPolicy} (hp:isPolicy q=true) (hs:q.set_=true):(q.nonce=⟨#[]⟩/\(spl 59 (formatPolicy q)).length=3)\/(q.nonce≠⟨#[]⟩/\(spl 59 (formatPolicy q)).length=4/\(spl 59 (formatPolicy q)).getD 3 default=⟨#[110,111,110,99,101,32]⟩++q.nonce):=by
 obtain⟨a1,a2,a3,a4,a5,a6,a7⟩:=Ff hp hs;have b1:=KX (b:=59) rfl (by decide) a1 (w:=⟨#[115,99,114,105,112,116]⟩) (by decide);have b2:=KX (b:=59) rfl (by decide) a3 (w:=⟨#[115,116,121,108,101]⟩) (by decide);have b3:=KX (b:=59) rfl (by decide) a5 (w:=⟨#[105,109,103]⟩) (by decide);by_cases hn:q.nonce=⟨#[]⟩
 ·refine .inl ⟨hn,?_⟩;have e:formatPolicy q=words9 ⟨#[115,99,114,105,112,116]⟩ q.bo++⟨#[59]⟩++(words9 ⟨#[115,116,121,108,101]⟩ q.styles++⟨#[59]⟩++words9 ⟨#[105,109,103]⟩ q.images):=by unfold formatPolicy;rw[Qa2 (by simp[hp,hs]),Qa2 hn];simp only[ByteArray.append_assoc]
  rw[e,Iy b1,Iy b2,YD b3];rfl
 ·refine .inr ⟨hn,?_⟩;have hv:isValue q.nonce=true:=by simp only[isPolicy,hs,Qe8,Qa1,Qf8,Qa7] at hp;exact hp.2.resolve_left hn
  have b4:(59:UInt8)∉toL (⟨#[110,111,110,99,101,32]⟩++q.nonce):=by rw[Eg,Qc0,not_or];exact⟨by decide,Nu rfl hv⟩
  have e:formatPolicy q=words9 ⟨#[115,99,114,105,112,116]⟩ q.bo++⟨#[59]⟩++(words9 ⟨#[115,116,121,108,101]⟩ q.styles++⟨#[59]⟩++(words9 ⟨#[105,109,103]⟩ q.images++⟨#[59]⟩++(⟨#[110,111,110,99,101,32]⟩++q.nonce))):=by
   unfold formatPolicy;rw[Qa2 (by simp[hp,hs]),Qa3 hn];have:(⟨#[59,110,111,110,99,101,32]⟩:ByteArray)=⟨#[59]⟩++⟨#[110,111,110,99,101,32]⟩:=by decide
   rw[this];simp only[ByteArray.append_assoc]
  rw[e,Iy b1,Iy b2,Iy b3,YD b4];exact⟨rfl,rfl⟩
def polCandI (s:ByteArray):SPolicy:={ polCand s with nonce:=if 3<(spl 59 s).length then Nd ((spl 59 s).getD 3 default) ⟨#[110,111,110,99,101,32]⟩ else⟨#[]⟩}
theorem YA {q:SPolicy} {s:ByteArray} (h:formatPolicy q=s) (hs:s≠⟨#[]⟩):isPolicy q=true/\q.set_=true:=by
 unfold formatPolicy at h;split at h
 ·rename_i hc;simpa using hc
 ·exact absurd h.symm hs
theorem YJ (n:ByteArray):Nd (⟨#[110,111,110,99,101,32]⟩++n) ⟨#[110,111,110,99,101,32]⟩=n:=by
 unfold Nd Go.Lib.trimPrefix Go.Lib.hasPrefix;apply ByteArray.ext;simp
theorem AbE (n:ByteArray):(⟨#[110,111,110,99,101,32]⟩++n:ByteArray).extract 6 (⟨#[110,111,110,99,101,32]⟩++n:ByteArray).size=n:=by
 rw[<-C7 (ByteArray.extract _ _ _),AY,Eg,Qb3 (by rw[Qa4,Bq,Bq,Qb5];exact Qa8 _)];rw[show toL ⟨#[110,111,110,99,101,32]⟩=[110,111,110,99,101,32] from rfl];simp only[Qf4,Qg1,List.drop_succ_cons,Qf0,C7]
theorem VN {s:ByteArray} (hs:s≠⟨#[]⟩):(formatPolicy (polCandI s)=s↔formatPolicy (polCand s)=s)/\(formatPolicy (polCand s)=s->polCandI s=polCand s):=by
 have key:∀ q:SPolicy,formatPolicy q=s->(3<(spl 59 s).length->q.nonce=Nd ((spl 59 s).getD 3 default) ⟨#[110,111,110,99,101,32]⟩/\q.nonce=(if 3<(spl 59 s).length/\6<((spl 59 s).getD 3 default).size then((spl 59 s).getD 3 default).extract 6 ((spl 59 s).getD 3 default).size else⟨#[]⟩)):=by
  intro q hq hl;obtain⟨h1,h2⟩:=YA hq hs;rcases TK h1 h2 with⟨_,h3⟩|⟨h3,h4,h5⟩
  ·rw[hq] at h3;omega
  ·rw[hq] at h4 h5;rw[h5,YJ];refine⟨rfl,?_⟩;have hsz:0<q.nonce.size:=by
    rcases Nat.eq_zero_or_pos q.nonce.size with h|h
    ·exact absurd (ByteArray.ext (Array.eq_empty_of_size_eq_zero h)) h3
    ·exact h
   rw[Qa2 ⟨hl,by rw[Qb5,show ByteArray.size ⟨#[110,111,110,99,101,32]⟩=6 from rfl];omega⟩,AbE]
 have same:(formatPolicy (polCandI s)=s\/formatPolicy (polCand s)=s)->polCandI s=polCand s:=by
  intro h;by_cases hl:3<(spl 59 s).length
  ·have hn:(polCandI s).nonce=(polCand s).nonce:=by
    have e1:(polCandI s).nonce=Nd ((spl 59 s).getD 3 default) ⟨#[110,111,110,99,101,32]⟩:=by simp only[polCandI];rw[Qa2 hl]
    rcases h with h|h
    ·exact(key _ h hl).2
    ·rw[e1];exact(key _ h hl).1.symm
   have e:polCandI s={ polCand s with nonce:=(polCandI s).nonce }:=rfl;rw[e,hn]
  ·have e:polCandI s={ polCand s with nonce:=(polCandI s).nonce }:=rfl;have h1:(polCandI s).nonce=⟨#[]⟩:=by simp only[polCandI];rw[Qa3 hl]
   have h2:(polCand s).nonce=⟨#[]⟩:=by simp only[polCand];rw[Qa3 (fun hh=>hl hh.1)]
   rw[e,h1,<-h2]
 exact⟨⟨fun h=>same (.inl h)▸h,fun h=>(same (.inr h)).symm▸h⟩,fun h=>same (.inr h)⟩
theorem Aef {s:ByteArray} (h1:s≠⟨#[]⟩) (h3:3<=(spl 59 s).length) {q:SPolicy} (hq:q=polCandI s):(formatPolicy q≠s->parsePolicy s=(default,false))/\(formatPolicy q=s->parsePolicy s=(q,true)):=by
 subst hq;have hc:=VN h1;unfold parsePolicy;rw[Qa3 h1];refine⟨fun h=>?_,fun h=>?_⟩
 ·rw[Qa3];rintro⟨_,h4⟩;exact h (hc.1.2 h4)
 ·have h4:=hc.1.1 h;rw[Qa2 ⟨h3,h4⟩,hc.2 h4]
theorem AdL {s:ByteArray} (h:3<(spl 59 s).length):(⟨true,(spl 32 ((spl 59 s).getD 0 default)).drop 1,(spl 32 ((spl 59 s).getD 1 default)).drop 1,(spl 32 ((spl 59 s).getD 2 default)).drop 1,Nd ((spl 59 s).getD 3 default) ⟨#[110,111,110,99,101,32]⟩⟩:SPolicy)=polCandI s:=by
 unfold polCandI polCand;rw[Qa2 h]
theorem Aff {s:ByteArray} (h:¬ 3<(spl 59 s).length):(⟨true,(spl 32 ((spl 59 s).getD 0 default)).drop 1,(spl 32 ((spl 59 s).getD 1 default)).drop 1,(spl 32 ((spl 59 s).getD 2 default)).drop 1,⟨#[]⟩⟩:SPolicy)=polCandI s:=by
 unfold polCandI polCand;rw[Qa3 h]
theorem Ui (s p:ByteArray):(Nd s p).size<=s.size:=by
 unfold Nd Go.Lib.trimPrefix;rw[show ∀ l:List UInt8,ByteArray.size ⟨l.toArray⟩=l.length from fun l=>by simp[ByteArray.size]];split
 ·rw[Qd6];exact Nat.sub_le _ _
 ·exact Qa8 _
def Air:=Ajl.a fParsePolicy<|Fct.o [0,2,3,4,5,6,7,9,15,18,19,39,48,1000009,1000015,1000019,1000039,1000048,64000516,200000019] Ajl.2 func217 (by
 rintro⟨(s:ByteArray),_⟩ hp;refine ho (let q8_:=(⟨#[32]⟩:ByteArray);let q7_:=(0:Int)<=(2:Int)/\(2:Int)<(3:Int);let q6_:=(0:Int)<=(1:Int)/\(1:Int)<(3:Int);let q5_:=(0:Int)<=(0:Int)/\(0:Int)<(3:Int);let q4_:=(⟨#[]⟩:ByteArray);let q0_:Out:=.leaf (.tup [(true,[vb (false),.nl,.nl,.nl,vs (q4_)]),(false,[vb (false)])]) [] [];.br (ByteArray.toList s==q4_.toList) (.leaf (.tup [(true,[vb (false),.nl,.nl,.nl,vs (q4_)]),(false,[vb (true)])]) [] []) (.cl DW (s,(⟨#[59]⟩:ByteArray),()) fun z2=>let q3_:=(z2.1.length:Int);.br (decide (q3_<3)) q0_ (.ob ((0:Int)<=(0:Int)/\(0:Int)<q3_)<|.ob (0<z2.1.length)<|.cl DW (z2.1.getD 0 default,q8_,()) fun z3=>let q9_:=z3.1.length-1;.ob ((0:Int)<=(1:Int)/\(1:Int)<=(z3.1.length:Int))<|.ob q5_<|.ob (1+q9_<=z3.1.length)<|.ob ((0:Int)<=(1:Int)/\(1:Int)<q3_)<|.ob (1<z2.1.length)<|.cl DW (z2.1.getD 1 default,q8_,()) fun z4=>let q10_:=z4.1.length-1;.ob ((0:Int)<=(1:Int)/\(1:Int)<=(z4.1.length:Int))<|.ob q6_<|.ob (1+q10_<=z4.1.length)<|.ob ((0:Int)<=(2:Int)/\(2:Int)<q3_)<|.ob (2<z2.1.length)<|.cl DW (z2.1.getD 2 default,q8_,()) fun z5=>let q11_:=z5.1.length-1;let q1_:=(⟨true,cut z3.1 1 q9_,cut z4.1 1 q10_,cut z5.1 1 q11_,q4_⟩:SPolicy);.ob ((0:Int)<=(1:Int)/\(1:Int)<=(z5.1.length:Int))<|.ob q7_<|.ob (1+q11_<=z5.1.length)<|.ob q5_<|.ob q6_<|.ob q7_<|.br (decide (q3_>3)) (.ob ((0:Int)<=(3:Int)/\(3:Int)<q3_)<|.ob (3<z2.1.length)<|.cl EM (z2.1.getD 3 default,(⟨#[110,111,110,99,101,32]⟩:ByteArray),()) fun z6=>let q2_:=(⟨true,cut z3.1 1 q9_,cut z4.1 1 q10_,cut z5.1 1 q11_,z6.1⟩:SPolicy);.cl AG (q2_,()) fun z7=>.br (!z7.1.toList==ByteArray.toList s) q0_ (.cl fCopyPolicy (q2_,()) fun z8=>.lf fParsePolicy (z8.1,true,()))) (.cl AG (q1_,()) fun z9=>.br (!z9.1.toList==ByteArray.toList s) q0_ (.cl fCopyPolicy (q1_,()) fun z10=>.lf fParsePolicy (z10.1,true,())))))) ?_;refine Ab (fun h1=>Fct.leafZ (default,true,()) (by repeat' first|exact rfl|exact trivial|refine And.intro ?_ ?_) ?_) (fun h1=>Ae ?_ fun o2=>(Ab (fun h3=>Fct.leafZ (default,false,()) (by repeat' first|exact rfl|exact trivial|refine And.intro ?_ ?_) ?_) (fun h3=>Aa ?_ fun o4=>Aa ?_ fun o5=>Ae ?_ fun o6=>(Aa ?_ fun o7=>Aa ?_ fun o8=>Aa ?_ fun o9=>Aa ?_ fun o10=>Aa ?_ fun o11=>Ae ?_ fun o12=>(Aa ?_ fun o13=>Aa ?_ fun o14=>Aa ?_ fun o15=>Aa ?_ fun o16=>Aa ?_ fun o17=>Ae ?_ fun o18=>(Aa ?_ fun o19=>Aa ?_ fun o20=>Aa ?_ fun o21=>Aa ?_ fun o22=>Aa ?_ fun o23=>Aa ?_ fun o24=>Ab (fun h25=>Aa ?_ fun o26=>Aa ?_ fun o27=>Ae trivial fun _=>(Ae ?_ fun o28=>(Ab (fun h29=>Fct.leafZ (default,false,()) (by repeat' first|exact rfl|exact trivial|refine And.intro ?_ ?_) ?_) (fun h29=>Ae ?_ fun o30=>(lfY ?_))))) (fun h25=>Ae ?_ fun o31=>(Ab (fun h32=>Fct.leafZ (default,false,()) (by repeat' first|exact rfl|exact trivial|refine And.intro ?_ ?_) ?_) (fun h32=>Ae ?_ fun o33=>(lfY ?_))))))))));all_goals
  try simp only[AA] at *
  try simp only[fCopyPolicy,AG,fParsePolicy,DW,EM,std,Nat.reduceAdd,DW,EM,Ww] at *
  try simp only[show(ByteArray.mk #[59]).data.getD 0 0=59 from rfl,show(ByteArray.mk #[32]).data.getD 0 0=32 from rfl,show(ByteArray.mk #[59]).size=1 from rfl,show(ByteArray.mk #[32]).size=1 from rfl] at *
 all_goals
  have g0:=DR 59 s 0;have g1:=DR 59 s 1;have g2:=DR 59 s 2;have g3:=DR 59 s 3;have k0:=DE 32 ((spl 59 s).getD 0 default);have k1:=DE 32 ((spl 59 s).getD 1 default);have k2:=DE 32 ((spl 59 s).getD 2 default);have tz:=Ui ((spl 59 s).getD 3 default) ⟨#[110,111,110,99,101,32]⟩
 all_goals first|trivial|omega|(with_reducible refine Qe7 (S7 (Nat.zero_le _)) ?_;omega)|(with_reducible refine Qe7 (S7 ?_) ?_;omega;omega)|skip
 all_goals first|(simp only[parsePolicy];rw[Qa2 (by assumption)];exact⟨rfl,rfl⟩)|(simp only[parsePolicy];rw[Qa3 (by assumption),Qa3 (by omega)];exact⟨rfl,rfl⟩)|skip
 all_goals first|(have hq:=AdL (s:=s) (by omega))|(have hq:=Aff (s:=s) (by omega))
 all_goals obtain⟨p1,p2⟩:=Aef (by assumption) (by omega) hq
 all_goals first|(rw[p1 (by assumption)];exact⟨rfl,rfl⟩)|(rw[p2 (by assumption)];exact⟨rfl,rfl⟩))
def AiH:=Air.a fIsResponse<|Fct.o [1,2,4] Air.2 func116 (by
 rintro⟨(x:SResponse),_⟩ hp;refine ho (.cl fParsePolicy (x.bi,()) fun z2=>.br (z2.2.1) (.cl fInRange (x.status,(100:Int),(599:Int),()) fun z3=>.br (z3.1) (.cl fInRange (x.kind,(1:Int),(5:Int),()) fun z4=>.br (z4.1) (.br (decide ((x.body.size:Int)<=400)) (.cl fInRange (x.age,(0:Int),(1000:Int),()) fun z5=>.lf fIsResponse (z5.1,())) (.lf fIsResponse (false,()))) (.lf fIsResponse (false,()))) (.lf fIsResponse (false,()))) (.lf fIsResponse (false,()))) ?_;repeat' first|(guard_target =~ Out.holds _ _;first|refine lfY ?_|refine Ab (fun _=>?_) fun _=>?_|refine Ae ?_ fun _=>?_)|exact trivial
 all_goals
  try simp only[AA] at *
  try simp only[fInRange,fIsResponse,fParsePolicy,std,Nat.reduceAdd,isResponse,fParsePolicy,fInRange] at *
  try simp(disch:=omega) only[wrapId',toNat1] at *
  try simp(disch:=omega) only[Qa2,Qa3]
 all_goals first|trivial|omega|grind[wrapId',toNat1,drop_cons,drop_end,good_len,maxLen,isResponse,fParsePolicy,fInRange])
abbrev CW (c:SCache):LInv:=⟨[⟨.s,8,true,.el .int⟩,⟨.b,1,false,.el .cache⟩],fun(z_ x_:Int×SCache×Unit)=>(0<=x_.1/\x_.1<=c.bf.length/\entOk c.bf (c.bf.drop x_.1.toNat) x_.1=entOk c.bf c.bf 0)/\x_.2.1=z_.2.1,fun(x_:Int×SCache×Unit)=>c.bf.length-x_.1.toNat⟩
def Ah2:=AiH.a fIsCache<|Fct.p (KP [1,2,3,4,6,7,8] [9,44]) (fun⟨c,_⟩=>lv [(2,CW c)]) AiH.2 func219 (by
 rintro⟨(c:SCache),_⟩ hp;refine ho (let q2_:=(c.bf.length:Int);let q1_:Out:=.lf fIsCache (false,());lpx (CW c) ((0:Int),(c,())) fun(y1:Int×SCache×PUnit) bk1=>let q0_:=c.bf.getD y1.1.toNat default;.br (decide (y1.1<q2_)) (.ob (inB y1.1 c.bf.length)<|.cl fIsName (q0_.top,()) fun z2=>.br (!z2.1) q1_ (.cl fIsAddr (q0_.to,()) fun z3=>.br (!z3.1) q1_ (.cl fIsResponse (q0_.bc,()) fun z4=>.br (!z4.1) q1_ (.br (q0_.bc.status != 200) q1_ (.cl fFindEntry (y1.2.1,q0_.top,q0_.to,()) fun(z5:Int×PUnit)=>.br (z5.1 != y1.1) q1_ (.ob (c.bf=c.bf)<|.ob (Value.int IntKind.i64 q2_=Value.int IntKind.i64 q2_)<|.ob (bk1 (w1 y1.1,(y1.2.1,())))<|.ok)))))) (.lf fIsCache (decide ((y1.2.1.bf.length:Int)<=100),()))) ?_;refine Aw ?_ fun(y1:Int×SCache×PUnit) i1=>Ab (fun h2=>Aa ?_ fun o3=>Ae ?_ fun o4=>(Ab (fun h5=>lfY ?_) (fun h5=>Ae ?_ fun o6=>(Ab (fun h7=>lfY ?_) (fun h7=>Ae ?_ fun o8=>(Ab (fun h9=>lfY ?_) (fun h9=>Ab (fun h10=>lfY ?_) (fun h10=>Ae ?_ fun o11=>(Ab (fun h12=>lfY ?_) (fun h12=>Aa rfl fun _=>Aa rfl fun _=>Aa ?_ fun o13=>trivial)))))))))) (fun h2=>lfY ?_)
 all_goals
  have hl:=Ad AX c.bf;have hg:∀ i,i<c.bf.length->(c.bf.getD i default).top.size<=200000000/\(c.bf.getD i default).to.host.size<=200000000/\(c.bf.getD i default).to.path.size<=200000000/\(c.bf.getD i default).bc.bi.size<=200000000:=fun i h=>by have:=KC h;have hp2:szCache c<=200000000:=hp;simp only[AX,szCache,szAddr,Af] at *;omega
  try simp only[AA] at *
  try simp only[CW,fFindEntry,fIsAddr,fIsCache,fIsName,fIsResponse,std,Nat.reduceAdd,isCache,fIsName,fIsAddr,fIsResponse,fFindEntry,szCache,entOk_at,entOk_end] at *
  try simp(disch:=omega) only[wrapId',toNat1] at *
  try simp(disch:=omega) only[Qa2,Qa3]
 all_goals first|trivial|omega|grind[wrapId',toNat1,drop_cons,drop_end,good_len,maxLen,isCache,fIsName,fIsAddr,fIsResponse,fFindEntry,szCache,entOk_at,entOk_end])
theorem Ax {α:Type} (f:α->Nat) (x:α) (l:List α):szL f (x::l)=f x+1+szL f l:=by simp only[szL,Qc8,List.sum_cons,Qa6];omega
theorem Hh {α:Type} (f:α->Nat) (l:List α) (x:α):szL f (l++[x])=szL f l+(f x+1):=by
 induction l with
 | nil=>rw[Qg1,Ax];simp[szL]
 | cons y l ih=>rw[Qf4,Ax,Ax,ih];omega
theorem Q3 {α:Type} (f:α->Nat) (e:α):∀ (l:List α) (i:Nat),szL f (l.modify i fun _=>e)<=szL f l+(f e+1)
 | [],i=>by cases i<;>simp[List.modify,szL]
 | y::l,0=>by rw[List.modify_zero_cons,Ax,Ax];omega
 | y::l,i+1=>by rw[List.modify_succ_cons,Ax,Ax];have:=Q3 f e l i;omega
theorem IS {α:Type} (f:α->Nat) {t:α}:∀ {l:List α},t∈l->f t+1<=szL f l
 | [],h=>by cases h
 | x::l,h=>by
  rw[Ax];rcases Qd3.1 h with rfl|h
  ·omega
  ·have:=IS f h;omega
def putEntry (c:SCache) (e:SEntry) (i:Int):SCache:=if 0<=i then⟨c.bf.modify i.toNat fun _=>e⟩ else⟨c.bf++[e]⟩
def entry (t:ByteArray) (a:SAddr) (x:SResponse) (now:Int):SEntry:=⟨t,a,x,IntKind.i64.wrap (now+x.age)⟩
def storeEntry (c:SCache) (t:ByteArray) (a:SAddr) (x:SResponse) (now:Int):SCache :=
 if x.age≠0/\inRange now 0 999999999000=true/\isCache c=true/\isCache (putEntry c (entry t a x now) (fidx (fun e=>decide (e.top=t)&&decide (e.to=a)) c.bf 0))=true then putEntry c (entry t a x now) (fidx (fun e=>decide (e.top=t)&&decide (e.to=a)) c.bf 0) else c
theorem Mp {all:List SEntry}:∀ {l:List SEntry} {k:Int},entOk all l k=true->∀ e∈l,isResponse e.bc=true
 | [],_,_,e,he=>by cases he
 | y::l,k,h,e,he=>by
  simp only[entOk,Qa1] at h;rcases Qd3.1 he with rfl|he
  ·exact h.1.1.1.2
  ·exact Mp h.2 e he
theorem So {c:SCache} {e:SEntry} {i:Int} (hi:i<c.bf.length) (h:isCache (putEntry c e i)=true):isResponse e.bc=true:=by
 unfold isCache at h;rw[Qa1] at h;refine Mp h.1 e ?_;unfold putEntry;split
 ·rw[List.mem_iff_getElem?];exact⟨i.toNat,by rw[List.getElem?_modify_eq,Qa5 (by omega)];rfl⟩
 ·simp
def fStoreEntry:Fct:=⟨[.v (.el .cache),.v (.el .str),.v (.el .addr),.v (.el .bc),.v (.el .int)],[.el .cache],fun(x_:SCache×ByteArray×SAddr×SResponse×Int×Unit)=>szCache x_.1<=100000000/\x_.2.1.size<=10000000/\szAddr x_.2.2.1<=10000000/\Af x_.2.2.2.1<=10000000,fun(x_:SCache×ByteArray×SAddr×SResponse×Int×Unit)=>(storeEntry x_.1 x_.2.1 x_.2.2.1 x_.2.2.2.1 x_.2.2.2.2.1,())⟩
def Al1:=Ah2.a fStoreEntry<|Fct.o (KP [1,4,5,7,8,10,11,12,13] [33,48,62]) Ah2.2 func162 (by
 rintro⟨(c:SCache),(t:ByteArray),(a:SAddr),(x:SResponse),(now:Int),_⟩ hp;refine ho (let q2_:Out:=.cl fCopyCache (c,()) fun z9=>.lf fStoreEntry (z9.1,());let q0_:=(⟨t,a,x,wr (now+x.age)⟩:SEntry);.cl fCopyCache (c,()) fun z2=>let q1_:Out:=.lf fStoreEntry (z2.1,());.br (x.age==0) q1_ (.cl fInRange (now,(0:Int),(999999999000:Int),()) fun z3=>.br (!z3.1) q1_ (.cl fIsResponse (x,()) fun z4=>.br (!z4.1) q1_ (.cl fIsCache (c,()) fun z5=>.br (!z5.1) q1_ (.cl fFindEntry (c,t,a,()) fun(z6:Int×PUnit)=>.br (decide (z6.1>=0)) (.ob (inB z6.1 z2.1.bf.length)<|.ob (z6.1.toNat<z2.1.bf.length)<|.lt (List SEntry) (z2.1.bf.modify z6.1.toNat fun z=>q0_) fun z7=>.cl fIsCache ((⟨z7⟩:SCache),()) fun z8=>.br (!z8.1) q2_ (.lf fStoreEntry (⟨z7⟩,()))) (.ob (True)<|.ob (BK (z2.1.bf.length+[q0_].length) 120)<|.cl fIsCache ((⟨z2.1.bf++[q0_]⟩:SCache),()) fun z10=>.br (!z10.1) q2_ (.lf fStoreEntry (⟨z2.1.bf++[q0_]⟩,())))))))) ?_;repeat' first|(guard_target =~ Out.holds _ _;first|refine lfY ?_|refine Ab (fun _=>?_) fun _=>?_|refine Ae ?_ fun _=>?_|refine Aa ?_ fun _=>?_|refine Dh ?_)|exact trivial
 all_goals
  have hi:=Jd (fun e:SEntry=>decide (e.top=t)&&decide (e.to=a)) c.bf 0 (by omega);have hr:=fun(i:Int) (h:i<c.bf.length)=>So (c:=c) (e:=entry t a x now) h
  have hm:=fun i=>Q3 AX (entry t a x now) c.bf i
  have hs:=Hh AX c.bf (entry t a x now);have hz:AX (entry t a x now)<=40000000:=by have hp2:szCache c<=100000000/\t.size<=10000000/\szAddr a<=10000000/\Af x<=10000000:=hp;simp only[AX,entry];omega
  have hq:x.bi.size<=10000000:=by have hp2:szCache c<=100000000/\t.size<=10000000/\szAddr a<=10000000/\Af x<=10000000:=hp;simp only[Af] at hp2;omega
  have hn:=Ad AX c.bf;try simp only[AA] at *
  try simp only[fCopyCache,fFindEntry,fInRange,fIsCache,fIsResponse,fStoreEntry,std,Nat.reduceAdd,storeEntry,putEntry,entry,szCache,fIsCache,fIsResponse,fInRange,fFindEntry,fCopyCache] at *
  try simp(disch:=omega) only[wrapId',toNat1] at *
  try simp(disch:=omega) only[Qa2,Qa3]
 all_goals first|trivial|omega|grind[wrapId',toNat1,good_len,maxLen,storeEntry,putEntry,entry,szCache,fIsCache,fIsResponse,fInRange,fFindEntry,fCopyCache])
def Amj:=Al1.a fStoreEntry<|Fct.o (KP [1,4,5,7,8,10,11,12,13] [29,58]) Al1.2 func117 (by
 rintro⟨(c:SCache),(t:ByteArray),(a:SAddr),(x:SResponse),(now:Int),_⟩ hp;refine ho (let q1_:=(⟨t,a,x,wr (now+x.age)⟩:SEntry);let q0_:Out:=.cl fCopyCache (c,()) fun z5=>.lf fStoreEntry (z5.1,());.cl fCopyCache (c,()) fun z2=>.cl fFindEntry (c,t,a,()) fun(z3:Int×PUnit)=>.br (decide (z3.1>=0)) (.ob (inB z3.1 z2.1.bf.length)<|.ob (z3.1.toNat<z2.1.bf.length)<|.lt (List SEntry) (z2.1.bf.modify z3.1.toNat fun z=>q1_) fun z4=>.br (x.age==0) q0_ (.cl fInRange (now,(0:Int),(999999999000:Int),()) fun z6=>.br (!z6.1) q0_ (.cl fIsCache (c,()) fun z8=>.br (!z8.1) q0_ (.cl fIsCache ((⟨z4⟩:SCache),()) fun z10=>.br (!z10.1) q0_ (.lf fStoreEntry (⟨z4⟩,())))))) (.ob (True)<|.ob (BK (z2.1.bf.length+[q1_].length) 120)<|.br (x.age==0) q0_ (.cl fInRange (now,(0:Int),(999999999000:Int),()) fun z13=>.br (!z13.1) q0_ (.cl fIsCache (c,()) fun z15=>.br (!z15.1) q0_ (.cl fIsCache ((⟨z2.1.bf++[q1_]⟩:SCache),()) fun z17=>.br (!z17.1) q0_ (.lf fStoreEntry (⟨z2.1.bf++[q1_]⟩,()))))))) ?_;repeat' first|(guard_target =~ Out.holds _ _;first|refine lfY ?_|refine Ab (fun _=>?_) fun _=>?_|refine Ae ?_ fun _=>?_|refine Aa ?_ fun _=>?_|refine Dh ?_)|exact trivial
 all_goals
  have hi:=Jd (fun e:SEntry=>decide (e.top=t)&&decide (e.to=a)) c.bf 0 (by omega);have hr:=fun(i:Int) (h:i<c.bf.length)=>So (c:=c) (e:=entry t a x now) h
  have hm:=fun i=>Q3 AX (entry t a x now) c.bf i
  have hs:=Hh AX c.bf (entry t a x now);have hz:AX (entry t a x now)<=40000000:=by have hp2:szCache c<=100000000/\t.size<=10000000/\szAddr a<=10000000/\Af x<=10000000:=hp;simp only[AX,entry];omega
  have hq:x.bi.size<=10000000:=by have hp2:szCache c<=100000000/\t.size<=10000000/\szAddr a<=10000000/\Af x<=10000000:=hp;simp only[Af] at hp2;omega
  have hn:=Ad AX c.bf;try simp only[AA] at *
  try simp only[fCopyCache,fFindEntry,fInRange,fIsCache,fStoreEntry,std,Nat.reduceAdd,storeEntry,putEntry,entry,szCache,fIsCache,fIsResponse,fInRange,fFindEntry,fCopyCache] at *
  try simp(disch:=omega) only[wrapId',toNat1] at *
  try simp(disch:=omega) only[Qa2,Qa3]
 all_goals first|trivial|omega|grind[wrapId',toNat1,good_len,maxLen,storeEntry,putEntry,entry,szCache,fIsCache,fIsResponse,fInRange,fFindEntry,fCopyCache])
def keepAnswer (n:SNet) (t:ByteArray) (a:SAddr) (x:SResponse):SNet:=if(lookUp n.cache t a n.now).isSome=false/\isResponse x=true/\x.status=200 then{ n with cache:=storeEntry n.cache t a x n.now } else n
def A3:Fct:=⟨[.v (.el .net),.v (.el .str),.v (.el .addr),.v (.el .bc)],[.el .net],fun(x_:SNet×ByteArray×SAddr×SResponse×Unit)=>szNet x_.1<=10000000000/\szCache x_.1.cache<=90000000/\x_.2.1.size<=10000000/\szAddr x_.2.2.1<=10000000/\Af x_.2.2.2.1<=10000000,fun(x_:SNet×ByteArray×SAddr×SResponse×Unit)=>(keepAnswer x_.1 x_.2.1 x_.2.2.1 x_.2.2.2.1,())⟩
def AkT:=Amj.a A3<|Fct.o (KP [1,4,6,7,8,9,11] [34]) Amj.2 func60 (by
 rintro⟨(n:SNet),(t:ByteArray),(a:SAddr),(x:SResponse),_⟩ hp;refine ho (.cl fCopyNet (n,()) fun z2=>.cl fLookUp (n.cache,t,a,n.now,()) fun z3=>.br (!z3.2.1) (.cl fIsResponse (x,()) fun z4=>.br (z4.1) (.br (x.status==200) (.cl fStoreEntry (n.cache,t,a,x,n.now,()) fun z5=>.lf A3 (⟨z2.1.servers,z5.1,z2.1.log,z2.1.now⟩,())) (.lf A3 (z2.1,()))) (.lf A3 (z2.1,()))) (.lf A3 (z2.1,()))) ?_;repeat' (guard_target =~ Out.holds _ _;first|refine lfY ?_|refine Ab (fun _=>?_) fun _=>?_|refine Ae ?_ fun _=>?_)
 all_goals
  have hn:=Ad AX n.cache.bf;have hc:szCache n.cache=szL AX n.cache.bf:=rfl;have hq:x.bi.size<=10000000:=by have hp2:szNet n<=10000000000/\szCache n.cache<=90000000/\t.size<=10000000/\szAddr a<=10000000/\Af x<=10000000:=hp;simp only[Af] at hp2;omega
  try simp only[AA] at *
  try simp only[fCopyNet,fIsResponse,A3,fLookUp,fStoreEntry,std,Nat.reduceAdd,keepAnswer,fCopyNet,fLookUp,fIsResponse,fStoreEntry] at *
  try simp(disch:=omega) only[wrapId',toNat1] at *
  try simp(disch:=omega) only[Qa2,Qa3]
 all_goals first|trivial|omega|grind[wrapId',toNat1,drop_cons,drop_end,good_len,maxLen,keepAnswer,fCopyNet,fLookUp,fIsResponse,fStoreEntry])
def Aln:=AkT.a A3<|Fct.o (KP [1,4,6,7,8,9,11] [34]) AkT.2 func38 (by
 rintro⟨(n:SNet),(t:ByteArray),(a:SAddr),(x:SResponse),_⟩ hp;refine ho (.cl fCopyNet (n,()) fun z2=>.cl fLookUp (n.cache,t,a,n.now,()) fun z3=>.cl fIsResponse (x,()) fun z4=>.br (z4.1) (.br (x.status==200) (.br (!z3.2.1) (.cl fStoreEntry (z2.1.cache,t,a,x,n.now,()) fun z5=>.lf A3 (⟨z2.1.servers,z5.1,z2.1.log,z2.1.now⟩,())) (.lf A3 (z2.1,()))) (.lf A3 (z2.1,()))) (.lf A3 (z2.1,()))) ?_;repeat' (guard_target =~ Out.holds _ _;first|refine lfY ?_|refine Ab (fun _=>?_) fun _=>?_|refine Ae ?_ fun _=>?_)
 all_goals
  have hn:=Ad AX n.cache.bf;have hc:szCache n.cache=szL AX n.cache.bf:=rfl;have hq:x.bi.size<=10000000:=by have hp2:szNet n<=10000000000/\szCache n.cache<=90000000/\t.size<=10000000/\szAddr a<=10000000/\Af x<=10000000:=hp;simp only[Af] at hp2;omega
  try simp only[AA] at *
  try simp only[fCopyNet,fIsResponse,A3,fLookUp,fStoreEntry,std,Nat.reduceAdd,keepAnswer,fCopyNet,fLookUp,fIsResponse,fStoreEntry] at *
  try simp(disch:=omega) only[wrapId',toNat1] at *
  try simp(disch:=omega) only[Qa2,Qa3]
 all_goals first|trivial|omega|grind[wrapId',toNat1,drop_cons,drop_end,good_len,maxLen,keepAnswer,fCopyNet,fLookUp,fIsResponse,fStoreEntry])
def digestOf (b:ByteArray):Int:=hashI (151::bti (AW b) (AW b)) 11
theorem Jr (b:ByteArray) (i:Nat):0<=(AW b).getD i default/\(AW b).getD i default<=255:=by
 unfold AW;rw[Qb1,Qc3];cases h:b.data.toList[i]? with
 | none=>exact⟨Int.le_refl _,by decide⟩
 | some x=>have:=x.toNat_lt;simp only[Qb9,Option.getD_some];omega
theorem FV (b:ByteArray):(AW b).length=b.size:=by rw[AW,Qf6];rfl
theorem Pj (b:ByteArray):List.map (fun b:UInt8=>(b.toNat:Int)) b.data.toList=AW b:=rfl
theorem AgM {b:ByteArray} (hb:b.size<=1000000000) (i:Nat) : -9223372036854775808<=(151::bti (AW b) (AW b)).getD i default/\(151::bti (AW b) (AW b)).getD i default<=9223372036854775807:=by
 match i with
 | 0=>
  show -9223372036854775808<=(151:Int)/\(151:Int)<=9223372036854775807;omega
 | 1=>
  show -9223372036854775808<=((AW b).length:Int)/\((AW b).length:Int)<=9223372036854775807;rw[FV];omega
 | i+2=>
  have:=Jr b i;show -9223372036854775808<=(AW b).getD i default/\(AW b).getD i default<=9223372036854775807;omega
theorem Aei (b:ByteArray):(151::bti (AW b) (AW b)).length=b.size+2:=by simp[bti,FV]
def fDigestOf:Fct:=⟨[.v (.el .str)],[.el .int],fun(x_:ByteArray×Unit)=>x_.1.size<=1000000000,fun(x_:ByteArray×Unit)=>(digestOf x_.1,())⟩
theorem q8 (b:ByteArray) (hp:fDigestOf.pre (b,())):Out.holds (fDigestOf.ctr (b,())).post (.cl CR (List.map (fun b=>(b.toNat:Int)) b.data.toList,()) fun(z2:List Int×PUnit)=>.ob (True)<|.ob (BK (1+z2.1.length) 8)<|.cl Oe ([(151:Int)]++z2.1,()) fun(z3:Int×PUnit)=>.lf fDigestOf (z3.1,())):=by
 refine Ae ?_ fun o1=>(Aa trivial fun _=>Aa ?_ fun o2=>Ae ?_ fun o3=>(lfY ?_))
 all_goals
  have h1:=Jr b;have h2:=FV b;have h3:=Aei b;have h4:=AgM (show b.size<=1000000000 from hp);try simp only[AA] at *
  try simp only[CR,fDigestOf,Oe,std,Nat.reduceAdd,Pj,Oe,CR,digestOf,List.singleton_append] at *
 all_goals first|trivial|omega|exact⟨by omega,fun i _=>h1 i⟩|exact⟨by omega,fun i _=>h4 i⟩|skip
def Ald:=Aln.a fDigestOf<|Fct.o [0,2] Aln.2 func366 (by
 rintro⟨(b:ByteArray),_⟩ hp;exact ho _ (q8 b hp))
def AjU:=Ald.a fDigestOf<|Fct.o [0,2] Ald.2 func336 (by
 rintro⟨(b:ByteArray),_⟩ hp;exact ho _ (q8 b hp))
theorem KW:∀ (l:List Int) (d:Int),0<=d->d<2147483647->0<=hashI l d/\hashI l d<2147483647
 | [],d,h0,h1=>⟨h0,h1⟩
 | x::l,d,h0,h1=>by have hm:=I2 x;have ht:=IK (x:=d*1000003+modM x 2147483647+13) (by omega);exact KW l _ ht.1 ht.2
theorem P2 (b:ByteArray):0<=digestOf b/\digestOf b<2147483647:=KW _ 11 (by decide) (by decide)
def fCheckDigest:Fct:=⟨[.v (.el .str),.v (.el .str)],[.el .bool],fun(x_:ByteArray×ByteArray×Unit)=>x_.1.size<=1000000000,fun(x_:ByteArray×ByteArray×Unit)=>(decide (x_.2.1=⟨#[]⟩)||decide (x_.2.1=Hr (digestOf x_.1)),())⟩
theorem q9 (b:ByteArray) (v:ByteArray) (hp:fCheckDigest.pre (b,v,())):Out.holds (fCheckDigest.ctr (b,v,())).post (.br (ByteArray.toList v==(⟨#[]⟩:ByteArray).toList) (.lf fCheckDigest (true,())) (.cl fDigestOf (b,()) fun(z2:Int×PUnit)=>.cl fFormatInt (z2.1,()) fun z3=>.lf fCheckDigest (ByteArray.toList v==z3.1.toList,()))):=by
 refine Ab (fun h1=>lfY ?_) (fun h1=>Ae ?_ fun o2=>(Ae ?_ fun o3=>(lfY ?_)));all_goals
  have h:=P2 b;try simp only[AA] at *
  try simp only[fCheckDigest,fDigestOf,fFormatInt,std,Nat.reduceAdd,fDigestOf,fFormatInt] at *
  try simp(disch:=omega) only[wrapId',toNat1] at *
  try simp(disch:=omega) only[Qa2,Qa3]
 all_goals first|trivial|omega|grind[wrapId',toNat1,drop_cons,drop_end,good_len,maxLen,fDigestOf,fFormatInt]
def Alg:=AjU.a fCheckDigest<|Fct.o [0,1,4] AjU.2 func314 (by
 rintro⟨(b:ByteArray),(v:ByteArray),_⟩ hp;exact ho _ (q9 b v hp))
def AjV:=Alg.a fCheckDigest<|Fct.o [0,1,4] Alg.2 func286 (by
 rintro⟨(b:ByteArray),(v:ByteArray),_⟩ hp;exact ho _ (q9 b v hp))
def checkResponse (p:SPolicy) (r:SRequest) (x:SResponse):Int:=if checkRequest p r≠1 then 2 else if isResponse x=false\/x.status≠200 then 3 else if(decide (x.kind=r.kind)||decide (r.kind=5/\x.kind=2))=false then 4 else if r.from_≠r.to.host/\x.shares=false/\(r.kind=5\/r.digest≠⟨#[]⟩) then 5 else if(decide (r.digest=⟨#[]⟩)||decide (r.digest=Hr (digestOf x.body)))=false then 6 else 1
theorem Gq {p:SPolicy} {r:SRequest} (h:checkRequest p r≠1):checkRequest p r=2:=by
 unfold checkRequest at *;split<;>simp_all
def fCheckResponse:Fct:=⟨[.v (.el .bi),.v (.el .request),.v (.el .bc)],[.el .int],fun(x_:SPolicy×SRequest×SResponse×Unit)=>szPolicy x_.1<=1099511627776/\szRequest x_.2.1<=1099511627776/\x_.2.2.1.bi.size<=200000000/\x_.2.2.1.body.size<=1000000000,fun(x_:SPolicy×SRequest×SResponse×Unit)=>(checkResponse x_.1 x_.2.1 x_.2.2.1,())⟩
def AkY:=AjV.a fCheckResponse<|Fct.o (KP [3,4,5,6] [7,12,21,27,49]) AjV.2 func249 (by
 rintro⟨(p:SPolicy),(r:SRequest),(x:SResponse),_⟩ hp;refine ho (let q2_:Out:=.lf fCheckResponse ((5:Int),());let q1_:Out:=.lf fCheckResponse ((3:Int),());let q0_:Out:=.cl fCheckDigest (x.body,r.digest,()) fun z5=>.br (!z5.1) (.lf fCheckResponse ((6:Int),())) (.lf fCheckResponse ((1:Int),()));.cl fCheckRequest (p,r,()) fun(z2:Int×PUnit)=>.br (z2.1 != 1) (.lf fCheckResponse ((2:Int),())) (.cl fIsResponse (x,()) fun z3=>.br (!z3.1) q1_ (.br (x.status != 200) q1_ (.cl fFitsKind (x,r.kind,()) fun z4=>.br (!z4.1) (.lf fCheckResponse ((4:Int),())) (.br (!r.from_.toList==r.to.host.toList) (.br (!x.shares) (.br (r.kind==5) q2_ (.br (!r.digest.toList==(⟨#[]⟩:ByteArray).toList) q2_ q0_)) q0_) q0_))))) ?_;repeat' first|(guard_target =~ Out.holds _ _;first|refine lfY ?_|refine Ab (fun _=>?_) fun _=>?_|refine Ae ?_ fun _=>?_)|exact trivial
 all_goals
  have hc:=fun h=>Gq (p:=p) (r:=r) h
  try simp only[AA] at *
  try simp only[fCheckDigest,fCheckRequest,fCheckResponse,fFitsKind,fIsResponse,std,Nat.reduceAdd,checkResponse,fCheckRequest,fIsResponse,fFitsKind,fCheckDigest] at *
  try simp(disch:=omega) only[wrapId',toNat1] at *
  try simp(disch:=omega) only[Qa2,Qa3]
 all_goals first|trivial|omega|grind[wrapId',toNat1,drop_cons,drop_end,good_len,maxLen,checkResponse,fCheckRequest,fIsResponse,fFitsKind,fCheckDigest])
end Go.Proofs.YtjgmhdnhlpckeaaGreatDoor.fnExactTransfer
