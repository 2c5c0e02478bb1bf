/-
  Contracts of functions that the law of FnExactRequestNext reaches, part 1.
-/
import Derived.Test.YtjgmhdnhlpckeaaGreatDoorVLe
import Derived.WalkKit
import Derived.BigGuard
import Derived.Deep.QuietTactic
import Derived.BigQuiet
import Derived.Lib.ConvBytes
import Derived.Sort.WalkC
import Derived.Handy
import Derived.Lib.Overlaps
import Derived.Lib.AppendZerosOnto
import Derived.Laws.Externs
import Derived.Shelf.RegionOpenPlain
import Derived.Defers
import Derived.Laws.Pointers
import Derived.Laws.LoneSync
import Derived.RegionCalls
import Derived.ChangeAlike
import Derived.LoopN
import Derived.Lib.SliceRun
import Derived.Shelf.Strconv.AtoiAll
import Derived.Shelf.Small.Strs
import Derived.Test.YtjgmhdnhlpckeaaGreatDoorRows
import Derived.Test.YtjgmhdnhlpckeaaGreatDoorCards
import Derived.LaidMore
import Derived.Lay
import Derived.SevenTiedAt
import Derived.WalkKit
import Derived.ProofKit
import Derived.OpenShut
namespace Go.Proofs.YtjgmhdnhlpckeaaGreatDoor.fnExactRequestNext
open Go.Proofs.YtjgmhdnhlpckeaaGreatDoor
open Go.D Go.Proofs.Tryz
set_option maxRecDepth 100000
set_option maxHeartbeats 2000000
set_option linter.unusedVariables false
set_option linter.unusedSimpArgs false
def tyOf:TypeId->Option Ty
 | 3=>some .int
 | 4=>some .bool
 | 5=>some .u8
 | 9=>some .str
 | 25=>some .cache
 | 28=>some .net
 | 30=>some .addr
 | 33=>some .bj
 | 35=>some .tokenizer
 | 40=>some .ba
 | 45=>some .page
 | 49=>some .loader
 | 54=>some .cache
 | 57=>some .net
 | 58=>some .addr
 | 59=>some .bj
 | 60=>some .tokenizer
 | 64=>some .ba
 | 69=>some .page
 | 73=>some .loader
 | 98=>some .bd
 | 100=>some .conn
 | 104=>some .request
 | 141=>some .bd
 | 143=>some .conn
 | 146=>some .guess
 | 163=>some .guess
 | 208=>some .sent
 | 214=>some .server
 | 218=>some .sent
 | 222=>some .token
 | 227=>some .slot
 | 230=>some .module
 | 239=>some .server
 | 245=>some .token
 | 250=>some .slot
 | 253=>some .module
 | 270=>some .entry
 | 300=>some .file
 | 304=>some .entry
 | 308=>some .node
 | 311=>some .node
 | 345=>some .attr
 | 355=>some .file
 | 357=>some .attr
 | 373=>some .line
 | 413=>some .sheet
 | 438=>some .rule
 | _=>none
abbrev Eo:={ E:D.Env // EOk Tryz.prog E }
def Eo.a (e:Eo) (S:Fct) {f:Nat} (k:S.ok Tryz.prog f):Eo:=⟨e.1.add f S,e.2.add k⟩
def Eo.M (e:Eo) (S:MS) {f:Nat} (k:S.ok Tryz.prog f):Eo:=⟨e.1.addM f S,e.2.addM k⟩
def Eo.G (e:Eo) (S:GS) {f:Nat} (k:S.ok Tryz.prog f):Eo:=⟨e.1.addG f S,e.2.addG k⟩
def E0:Eo:=⟨D.Env.empty tyOf,EOk.empty _ _⟩
def E1:=E0.a FN<|Fct.p (KP [0,2,3] [5,7]) (fun⟨k,_⟩=>lv [(4,Ahb k)]) E0.2 func142 (by
 rintro⟨(k:Int),_⟩ hp;refine ho (.br (decide (k<=0)) (.lf FN ((⟨#[109,48]⟩:ByteArray),())) (lpx (Ahb k) (k,((⟨#[]⟩:ByteArray),())) fun(y2:Int×ByteArray×PUnit) bk2=>.br (decide (y2.1>0)) (.ob ((10:Int)≠(0:Int))<|.ob (True)<|.ob (sameSize (List.foldl (fun r n=>r.push (UInt8.ofNat n.toNat)) ByteArray.empty [IntKind.u8.wrap (wr ((48:Int)+y2.1.tmod (10:Int)))]) y2.2.1)<|.ob ((10:Int)≠(0:Int))<|.ob (Value.string (⟨#[]⟩:ByteArray)=Value.string (⟨#[]⟩:ByteArray))<|.ob (bk2 (wr (y2.1.tdiv (10:Int)),(List.foldl (fun r n=>r.push (UInt8.ofNat n.toNat)) ByteArray.empty [IntKind.u8.wrap (wr ((48:Int)+y2.1.tmod (10:Int)))]++y2.2.1,())))<|.ok) (.ob (sameSize (⟨#[109]⟩:ByteArray) y2.2.1)<|.lf FN ((⟨#[109]⟩:ByteArray)++y2.2.1,())))) ?_;refine Ab (fun h1=>lfY ?_) (fun h1=>Ay ?_ fun(y2:Int×ByteArray×PUnit) i2=>Ab (fun h3=>Aa ?_ fun o4=>Aa trivial fun _=>Aa ?_ fun o5=>Aa ?_ fun o6=>Aa rfl fun _=>Aa ?_ fun o7=>trivial) (fun h3=>Aa ?_ fun o8=>lfY ?_));all_goals try simp only[Ame] at *
 all_goals
  try rw[Ado (by first|exact i2.1|(have:=i2.1;omega))]
  try simp only[Az] at *
  try simp only[Ahb,FN,std,Nat.reduceAdd,szF,toF,eqF,mkF,heF] at *
 ·simp[JE,h1]
 ·exact⟨by omega,by omega,64,rfl,Qf6 (show k.toNat<10 ^ 19 by omega) (Nat.pow_le_pow_right (by decide) (by decide)),rfl⟩
 ·decide
 ·obtain⟨i3,i4,f,i5,i6,i7⟩:=i2;show(1:Nat)+_<=_;omega
 ·decide
 ·obtain⟨i3,i4,f,i5,i6,i7⟩:=i2;have hd:IntKind.i64.wrap (y2.1.tdiv 10)=y2.1 / 10:=(Afw i3).resolve_right (by omega);rw[hd];cases f with
  | zero=>simp at i6;omega
  | succ f=>
   rw[Wa (k:=y2.1.toNat) (by omega)] at i7;have i8:y2.1.toNat<10*10 ^ f:=by rw[Nat.pow_succ] at i6;omega
   generalize 10 ^ f=p at i8;refine⟨⟨by omega,by omega,f,by rw[sz1];omega,by omega,?_⟩,by omega⟩;rw[show(y2.1 / 10).toNat=y2.1.toNat / 10 by omega];exact i7
 ·obtain⟨i3,i4,f,i5,i6,i7⟩:=i2;show(1:Nat)+_<=_;omega
 ·obtain⟨i3,i4,f,i5,i6,i7⟩:=i2;have h0:y2.1.toNat=0:=by omega
  rw[h0,Abv] at i7;rw[JE,Qa3 (by omega),i7])
def E2:=E1.a FJ<|Fct.p (KP [0,1,4,5] [11,15,26]) (fun⟨l,n,_⟩=>lv [(5,Aeh .str Ac l n)]) E1.2 func16 (by
 rintro⟨(l:List ByteArray),(n:Int),_⟩ hp;refine ho (.br (decide (wr (n-(l.length:Int))<0)) (.lf FJ ((-1:Int),())) (lpx (Aeh .str Ac l n) (wr (n-(l.length:Int)),((0:Int),())) fun(y2:Int×Int×PUnit) bk2=>.br (decide (y2.2.1<(l.length:Int))) (.ob (inB y2.2.1 l.length)<|.br (decide (wr (y2.1-(↑(l.getD y2.2.1.toNat default).size:Int))<0)) (.lf FJ ((-1:Int),())) (.ob (l=l)<|.ob (bk2 (wr (y2.1-(↑(l.getD y2.2.1.toNat default).size:Int)),(w1 y2.2.1,())))<|.ok)) (.lf FJ (y2.1,())))) ?_;refine Ab (fun h1=>lfY ?_) (fun h1=>Ay ?_ fun(y2:Int×Int×PUnit) i2=>Ab (fun h3=>Aa ?_ fun o4=>Ab (fun h5=>lfY ?_) (fun h5=>Aa rfl fun _=>Aa ?_ fun o6=>trivial)) (fun h3=>lfY ?_));all_goals
  try simp only[Az] at *
  try simp only[Aeh,FJ,std,Nat.reduceAdd,szF,toF,eqF,mkF,heF] at *
 all_goals have hgl:=good_len hp.1
 all_goals simp only[maxLen] at hgl
 ·rw[Ah (by omega)] at h1;rw[FI (by simp only[szL];omega)]
 ·rw[Ah (by omega)] at h1 ⊢;exact⟨by omega,by omega,h1,by simp⟩
 all_goals
  have hg:y2.2.1.toNat<l.length->(l.getD y2.2.1.toNat default).size<=9223372036854775807:=fun h=>(Pg hp.1 h) _ (List.Mem.head _)
  have hs:=Gd Ac l (y2.2.1.toNat+1);have hs2:y2.2.1.toNat<l.length->((l.take (y2.2.1.toNat+1)).map Ac).sum=((l.take y2.2.1.toNat).map Ac).sum+(l.getD y2.2.1.toNat default).size:=fun h=>Ic Ac h
 ·omega
 ·have hlt:y2.2.1.toNat<l.length:=by omega
  have a1:=hg hlt;have a2:=hs2 hlt;rw[Ah (by omega)] at h5;rw[FI (by simp only[szL];omega)]
 ·have hlt:y2.2.1.toNat<l.length:=by omega
  have a1:=hg hlt;have a2:=hs2 hlt;rw[Ah (n:=y2.1-_) (by omega)] at h5 ⊢;rw[Ah (by omega),toNat1 (by omega),a2];exact⟨⟨by omega,by omega,by omega,by omega⟩,by omega⟩
 ·have e:l.take y2.2.1.toNat=l:=Qb6 (by omega);rw[e] at i2;have hz:((szL Ac l:Nat):Int)=l.length+(l.map Ac).sum:=by simp only[szL];omega
  rw[GC (by omega)];show y2.1=n-((szL Ac l:Nat):Int);omega)
def E3:=E2.a I8<|Fct.p (KP [0,2,3,4] [11]) (fun⟨l,_⟩=>lv [(3,YT .str l)]) E2.2 func26 (by
 rintro⟨(l:List ByteArray),_⟩ hp;refine ho (.ob ((l.length:Int)=(l.length:Int)/\(0:Int)<=(l.length:Int)/\(16:Int)*(l.length:Int)<=140737488355328/\(l.length:Int)<=140737488355328)<|lpx (YT .str l) ((0:Int),(List.replicate (l.length:Int).toNat (⟨#[]⟩:ByteArray),())) fun(y2:Int×List ByteArray×PUnit) bk2=>.br (decide (y2.1<(l.length:Int))) (.ob (inB y2.1 l.length)<|.ob (inB y2.1 y2.2.1.length)<|.ob (y2.1.toNat<y2.2.1.length)<|.lt (List ByteArray) (y2.2.1.modify y2.1.toNat fun z=>l.getD y2.1.toNat default) fun z2=>.ob (l=l)<|.ob (bk2 (w1 y2.1,(z2,())))<|.ok) (.lf I8 (y2.2.1,()))) ?_;refine Aa ?_ fun o1=>Ay ?_ fun(y2:Int×List ByteArray×PUnit) i2=>Ab (fun h3=>Aa ?_ fun o4=>Aa ?_ fun o5=>Aa ?_ fun o6=>Du (Aa rfl fun _=>Aa ?_ fun o7=>trivial)) (fun h3=>lfY ?_)
 all_goals
  try simp only[Az] at *
  try simp only[YT,I8,std,Nat.reduceAdd,szF,toF,eqF,mkF,heF] at *
  try have hsz:l.length<=1048576:=by first|exact hp|(have:=Ad Ac l;exact Qe6 this hp)
 all_goals
  clear hp;try rw[i2.2.2]
 all_goals first|omega|(refine⟨by omega,by omega,?_⟩;simp;done)|(refine⟨by omega,by omega,?_⟩;simp;exact .inr rfl)|(simp;omega)|skip
 ·rw[Ah (by omega),toNat1 (by omega)];refine⟨⟨by omega,by omega,?_⟩,by omega⟩;rw[show l.length-y2.1.toNat=(l.length-(y2.1.toNat+1))+1 from by omega,List.replicate_succ,Hw (by simp;omega),take_succ (by omega)];simp
 ·have e:l.take y2.1.toNat=l:=Qb6 (by omega);rw[e];simp;omega)
def E4:=E3.a Fz<|Fct.p (KP [0,1,4,5] [10,14,25]) (fun⟨l,m,_⟩=>lv [(4,YR .str l m)]) E3.2 func42 (by
 rintro⟨(l:List ByteArray),(m:List ByteArray),_⟩ hp;refine ho (.br ((l.length:Int) != (m.length:Int)) (.lf Fz (false,())) (lpx (YR .str l m) ((0:Int),()) fun(y2:Int×PUnit) bk2=>.br (decide (y2.1<(l.length:Int))) (.ob (inB y2.1 l.length)<|.ob (inB y2.1 m.length)<|.br (!(l.getD y2.1.toNat default).toList==(m.getD y2.1.toNat default).toList) (.lf Fz (false,())) (.ob (l=l)<|.ob (m=m)<|.ob (bk2 (w1 y2.1,()))<|.ok)) (.lf Fz (true,())))) ?_;refine Ab (fun h1=>lfY ?_) (fun h1=>Ay ?_ fun(y2:Int×PUnit) i2=>Ab (fun h3=>Aa ?_ fun o4=>Aa ?_ fun o5=>Ab (fun h6=>lfY ?_) (fun h6=>Aa rfl fun _=>Aa rfl fun _=>Aa ?_ fun o7=>trivial)) (fun h3=>lfY ?_));all_goals
  try simp only[Az] at *
  try simp only[YR,Fz,std,Nat.reduceAdd,szF,toF,eqF,mkF,heF] at *
 all_goals have hl:=Ad Ac l
 ·rw[Qg4];rintro rfl;omega
 ·exact⟨by omega,by omega,by simp⟩
 ·omega
 ·omega
 ·rw[Qg4];rintro rfl;first|exact absurd rfl h5|exact absurd rfl h6
 ·have hw:IntKind.i64.wrap (y2.1+1)=y2.1+1:=Ah (by omega);rw[hw,toNat1 (by omega)];refine⟨⟨by omega,by omega,?_⟩,by omega⟩;rw[take_succ (by omega),take_succ (by omega),i2.2.2];first|rw[h5]|rw[h6]
 ·have e:l.take y2.1.toNat=l:=Qb6 (by omega);have e2:m.take y2.1.toNat=m:=Qb6 (by omega);rw[Qf3];rw[<-e,<-e2,i2.2.2])
def E5:=E4.a NN<|Fct.o (KP [0,1,4] [10]) E4.2 func182 (by
 rintro⟨(l:List Int),(n:Int),_⟩ hp;refine ho (.br (decide (wr (n-(↑(List.length l):Int))<0)) (.lf NN ((-1:Int),())) (.lf NN (wr (n-(↑(List.length l):Int)),()))) ?_;refine Ab (fun h1=>lfY ?_) (fun h1=>lfY ?_);all_goals
  try simp only[Az] at *
  try simp only[NN,std,Nat.reduceAdd,szF,toF,eqF,mkF,heF,Sh.good,Sh.fc,enc,Qd1,Qe3,false_implies,implies_true,DG,maxLen] at *
 all_goals grind[wrapId',lessen])
def E6:=E5.a Ra<|Fct.p (KP [0,2,3,4] [11]) (fun⟨l,_⟩=>lv [(3,YT .int l)]) E5.2 func197 (by
 rintro⟨(l:List Int),_⟩ hp;refine ho (.ob ((l.length:Int)=(l.length:Int)/\(0:Int)<=(l.length:Int)/\(8:Int)*(l.length:Int)<=140737488355328/\(l.length:Int)<=140737488355328)<|lpx (YT .int l) ((0:Int),(List.replicate (l.length:Int).toNat (0:Int),())) fun(y2:Int×List Int×PUnit) bk2=>.br (decide (y2.1<(l.length:Int))) (.ob (inB y2.1 l.length)<|.ob (inB y2.1 y2.2.1.length)<|.ob (y2.1.toNat<y2.2.1.length)<|.lt (List Int) (y2.2.1.modify y2.1.toNat fun z=>l.getD y2.1.toNat default) fun z2=>.ob (l=l)<|.ob (bk2 (w1 y2.1,(z2,())))<|.ok) (.lf Ra (y2.2.1,()))) ?_;refine Aa ?_ fun o1=>Ay ?_ fun(y2:Int×List Int×PUnit) i2=>Ab (fun h3=>Aa ?_ fun o4=>Aa ?_ fun o5=>Aa ?_ fun o6=>Du (Aa rfl fun _=>Aa ?_ fun o7=>trivial)) (fun h3=>lfY ?_)
 all_goals
  try simp only[Az] at *
  try simp only[YT,Ra,std,Nat.reduceAdd,szF,toF,eqF,mkF,heF] at *
  try have hsz:l.length<=1048576:=by first|exact hp|(have:=Ad Ac l;exact Qe6 this hp)
 all_goals
  clear hp;try rw[i2.2.2]
 all_goals first|omega|(refine⟨by omega,by omega,?_⟩;simp;done)|(refine⟨by omega,by omega,?_⟩;simp;exact .inr rfl)|(simp;omega)|skip
 ·rw[Ah (by omega),toNat1 (by omega)];refine⟨⟨by omega,by omega,?_⟩,by omega⟩;rw[show l.length-y2.1.toNat=(l.length-(y2.1.toNat+1))+1 from by omega,List.replicate_succ,Hw (by simp;omega),take_succ (by omega)];simp
 ·have e:l.take y2.1.toNat=l:=Qb6 (by omega);rw[e];simp;omega)
def E7:=E6.a J7<|Fct.p (KP [0,1,4,5] [10,14,25]) (fun⟨l,m,_⟩=>lv [(4,YR .int l m)]) E6.2 func227 (by
 rintro⟨(l:List Int),(m:List Int),_⟩ hp;refine ho (.br ((l.length:Int) != (m.length:Int)) (.lf J7 (false,())) (lpx (YR .int l m) ((0:Int),()) fun(y2:Int×PUnit) bk2=>.br (decide (y2.1<(l.length:Int))) (.ob (inB y2.1 l.length)<|.ob (inB y2.1 m.length)<|.br (l.getD y2.1.toNat default != m.getD y2.1.toNat default) (.lf J7 (false,())) (.ob (l=l)<|.ob (m=m)<|.ob (bk2 (w1 y2.1,()))<|.ok)) (.lf J7 (true,())))) ?_;refine Ab (fun h1=>lfY ?_) (fun h1=>Ay ?_ fun(y2:Int×PUnit) i2=>Ab (fun h3=>Aa ?_ fun o4=>Aa ?_ fun o5=>Ab (fun h6=>lfY ?_) (fun h6=>Aa rfl fun _=>Aa rfl fun _=>Aa ?_ fun o7=>trivial)) (fun h3=>lfY ?_));all_goals
  try simp only[Az] at *
  try simp only[YR,J7,std,Nat.reduceAdd,szF,toF,eqF,mkF,heF] at *
 ·rw[Qg4];rintro rfl;omega
 ·exact⟨by omega,by omega,by simp⟩
 ·omega
 ·omega
 ·rw[Qg4];rintro rfl;first|exact absurd rfl h5|exact absurd rfl h6
 ·have hw:IntKind.i64.wrap (y2.1+1)=y2.1+1:=Ah (by omega);rw[hw,toNat1 (by omega)];refine⟨⟨by omega,by omega,?_⟩,by omega⟩;rw[take_succ (by omega),take_succ (by omega),i2.2.2];first|rw[h5]|rw[h6]
 ·have e:l.take y2.1.toNat=l:=Qb6 (by omega);have e2:m.take y2.1.toNat=m:=Qb6 (by omega);rw[Qf3];rw[<-e,<-e2,i2.2.2])
def E8:=E7.M PS<|mkS (KP [0,1,4,5] [9]) true Kj E7.2 func47 (fun(l:List ByteArray) (k:Int)=>by kernel_rfl)
def E9:=E8.a Ph<|heS (KP [0,1,4,5] [9,18]) Kj E8.2 func52 (fun(l:List ByteArray) (k:Int)=>by kernel_rfl)
def E10:=E9.M Vh<|mkS (KP [0,1,4,5] [9]) true Wh E9.2 func235 (fun(l:List Int) (k:Int)=>by kernel_rfl)
def E11:=E10.a YB<|heS (KP [0,1,4,5] [9,17]) Wh E10.2 func240 (fun(l:List Int) (k:Int)=>by kernel_rfl)
def E12:=E11.a Aej<|szT (KP [1,2,4] [11,18]) Aet E11.2 func72 (fun(x:SAddr) (k:Int)=>by kernel_rfl) (fun _=>rfl) Aeo
def E13:=E12.a AcA<|toT [1,2,3] AdV Ahe E12.2 func90 (fun(x:SAddr)=>by kernel_rfl) (fun _=>rfl) Adj
def E14:=E13.a Ae0<|eqT (KP [2,3,4] [9,14]) Wb E13.2 func123 (fun(x y:SAddr)=>by kernel_rfl) AeP Ad2
def E15:=E14.a YU<|szS (KP [0,1,4,5] [11,15,25]) E14.2 func79 (fun(l:List SAddr) (k:Int)=>by kernel_rfl)
def E16:=E15.a Aao<|toS (KP [0,2,3,4] [11]) 32 E15.2 func97 (fun(l:List SAddr)=>by kernel_rfl)
def E17:=E16.a ZV<|eqS (KP [0,1,4,5] [10,14,26]) false E16.2 func130 (fun(l r:List SAddr)=>by kernel_rfl)
def E18:=E17.M TF<|mkS (KP [0,1,4,5] [9]) true RN E17.2 func141 (fun(l:List SAddr) (k:Int)=>by kernel_rfl)
def E19:=E18.a US<|heS (KP [0,1,4,5] [9,19,29]) RN E18.2 func151 (fun(l:List SAddr) (k:Int)=>by kernel_rfl)
def E20:=E19.a Adf<|szT (KP [1,2,4] [11,18]) Ae7 E19.2 func323 (fun(x:SAttr) (k:Int)=>by kernel_rfl) (fun _=>rfl) Acf
def E21:=E20.a AdE<|toT [1,2,3] AeH AgI E20.2 func325 (fun(x:SAttr)=>by kernel_rfl) (fun _=>rfl) AeS
def E22:=E21.a AcF<|eqT (KP [2,3,4] [9,14]) Yb E21.2 func350 (fun(x y:SAttr)=>by kernel_rfl) AdW AcT
def E23:=E22.a Zx<|szS (KP [0,1,4,5] [11,15,25]) E22.2 func265 (fun(l:List SAttr) (k:Int)=>by kernel_rfl)
def E24:=E23.a YZ<|toS (KP [0,2,3,4] [11]) 32 E23.2 func270 (fun(l:List SAttr)=>by kernel_rfl)
def E25:=E24.a Aaq<|eqS (KP [0,1,4,5] [10,14,26]) false E24.2 func299 (fun(l r:List SAttr)=>by kernel_rfl)
def E26:=E25.M UL<|mkS (KP [0,1,4,5] [9]) true Q9 E25.2 func233 (fun(l:List SAttr) (k:Int)=>by kernel_rfl)
def E27:=E26.a Us<|heS (KP [0,1,4,5] [9,19,29]) Q9 E26.2 func238 (fun(l:List SAttr) (k:Int)=>by kernel_rfl)
def E28:=E27.a Aa2<|szT (KP [1,2,4] [11,17,24]) VT E27.2 func180 (fun(x:SToken) (k:Int)=>by kernel_rfl) (fun _=>rfl) AaP
def E29:=E28.a AaN<|toT [1,2,3] Xp Age E28.2 func195 (fun(x:SToken)=>by kernel_rfl) (fun _=>rfl) AaH
def E30:=E29.a Y9<|eqT (KP [2,3,4] [9,14,20,25]) OT E29.2 func225 (fun(x y:SToken)=>by kernel_rfl) AaY AaZ
def E31:=E30.a VU<|szS (KP [0,1,4,5] [11,15,25]) E30.2 func75 (fun(l:List SToken) (k:Int)=>by kernel_rfl)
def E32:=E31.a W7<|toS (KP [0,2,3,4] [11]) 64 E31.2 func93 (fun(l:List SToken)=>by kernel_rfl)
def E33:=E32.a WD<|eqS (KP [0,1,4,5] [10,14,26]) false E32.2 func126 (fun(l r:List SToken)=>by kernel_rfl)
def E34:=E33.M Rf<|mkS (KP [0,1,4,5] [9]) true Of E33.2 func137 (fun(l:List SToken) (k:Int)=>by kernel_rfl)
def E35:=E34.a Q0<|heS (KP [0,1,4,5] [9,18,28,39,47]) Of E34.2 func147 (fun(l:List SToken) (k:Int)=>by kernel_rfl)
def E36:=E35.a ON<|szT (KP [1,2,4] [11]) Jf E35.2 func74 (fun(x:STokenizer) (k:Int)=>by kernel_rfl) (fun _=>rfl) Pm
def E37:=E36.a Pn<|toT [1,2,3] Je U4 E36.2 func92 (fun(x:STokenizer)=>by kernel_rfl) (fun _=>rfl) PP
def E38:=E37.a OR<|eqT (KP [2,3,4] [9]) FE E37.2 func125 (fun(x y:STokenizer)=>by kernel_rfl) Pe PK
def E39:=E38.a Aeu<|szT (KP [1,2,4] [11,18,24]) AdC E38.2 func266 (fun(x:SNode) (k:Int)=>by kernel_rfl) (fun _=>rfl) Aca
def E40:=E39.a Adr<|toT [1,2,3] AdS Ag4 E39.2 func271 (fun(x:SNode)=>by kernel_rfl) (fun _=>rfl) AeN
def E41:=E40.a Ace<|eqT (KP [2,3,4] [9,14,19,25]) WN E40.2 func300 (fun(x y:SNode)=>by kernel_rfl) Ac2 Ady
def E42:=E41.a Z2<|szS (KP [0,1,4,5] [11,15,25]) E41.2 func181 (fun(l:List SNode) (k:Int)=>by kernel_rfl)
def E43:=E42.a Aa0<|toS (KP [0,2,3,4] [11]) 64 E42.2 func196 (fun(l:List SNode)=>by kernel_rfl)
def E44:=E43.a YX<|eqS (KP [0,1,4,5] [10,14,26]) false E43.2 func226 (fun(l r:List SNode)=>by kernel_rfl)
def E45:=E44.M UO<|mkS (KP [0,1,4,5] [9]) true Ri E44.2 func234 (fun(l:List SNode) (k:Int)=>by kernel_rfl)
def E46:=E45.a Tw<|heS (KP [0,1,4,5] [9,19,29,38,49]) Ri E45.2 func239 (fun(l:List SNode) (k:Int)=>by kernel_rfl)
def E47:=E46.a To<|szT (KP [1,2,4] [10,16]) NT E46.2 func76 (fun(x:SBuilder) (k:Int)=>by kernel_rfl) (fun _=>rfl) Tu
def E48:=E47.a U2<|toT [1,2,3] Nm ZJ E47.2 func94 (fun(x:SBuilder)=>by kernel_rfl) (fun _=>rfl) UK
def E49:=E48.a TX<|eqT (KP [2,3,4] [10,16]) Io E48.2 func127 (fun(x y:SBuilder)=>by kernel_rfl) T6 Tl
def E50:=E49.M PT<|mvT [1,2,4] [0,1] Jb E49.2 func138 (fun(x:SBuilder) (k:Int)=>by kernel_rfl)
def E51:=E50.a Oo<|hvT (KP [1,2,4] [10,16]) Jb E50.2 func148 (fun(x:SBuilder) (k:Int)=>by kernel_rfl)
def E52:=E51.a WM<|szT (KP [1,2,4] [10,16,22,29]) RB E51.2 func73 (fun(x:SPolicy) (k:Int)=>by kernel_rfl) (fun _=>rfl) XW
def E53:=E52.a Vs<|toT [1,2,3] Rb Adk E52.2 func91 (fun(x:SPolicy)=>by kernel_rfl) (fun _=>rfl) YH
def E54:=E53.a Vm<|eqT (KP [2,3,4] [9,15,21,27,32]) Lu E53.2 func124 (fun(x y:SPolicy)=>by kernel_rfl) WO Yw
def E55:=E54.M Rh<|mvT [1,2,4] [1,2,3] Kl E54.2 func136 (fun(x:SPolicy) (k:Int)=>by kernel_rfl)
def E56:=E55.a QF<|hvT (KP [1,2,4] [10,16,22]) Kl E55.2 func146 (fun(x:SPolicy) (k:Int)=>by kernel_rfl)
def E57:=E56.a QQ<|szT (KP [1,2,4] [11,18]) K3 E56.2 func185 (fun(x:SResponse) (k:Int)=>by kernel_rfl) (fun _=>rfl) Qb
def E58:=E57.a Qg<|toT [1,2,3] J1 Yh E57.2 func200 (fun(x:SResponse)=>by kernel_rfl) (fun _=>rfl) Rk
def E59:=E58.a RK<|eqT (KP [2,3,4] [9,14,19,24,29,34]) GB E58.2 func230 (fun(x y:SResponse)=>by kernel_rfl) Qk QC
def E60:=E59.a AeI<|szT (KP [1,2,4] [11,17]) Ac3 E59.2 func322 (fun(x:SFile) (k:Int)=>by kernel_rfl) (fun _=>rfl) AcB
def E61:=E60.a AcR<|toT [1,2,3] AeU AgV E60.2 func324 (fun(x:SFile)=>by kernel_rfl) (fun _=>rfl) Ad0
def E62:=E61.a AcL<|eqT (KP [2,3,4] [9,15]) WA E61.2 func349 (fun(x y:SFile)=>by kernel_rfl) AcV AeD
def E63:=E62.a Abq<|szS (KP [0,1,4,5] [11,15,25]) E62.2 func263 (fun(l:List SFile) (k:Int)=>by kernel_rfl)
def E64:=E63.a Z1<|toS (KP [0,2,3,4] [11]) 80 E63.2 func268 (fun(l:List SFile)=>by kernel_rfl)
def E65:=E64.a Z0<|eqS (KP [0,1,4,5] [10,14,26]) false E64.2 func297 (fun(l r:List SFile)=>by kernel_rfl)
def E66:=E65.M U1<|mkS (KP [0,1,4,5] [9]) true Rc E65.2 func231 (fun(l:List SFile) (k:Int)=>by kernel_rfl)
def E67:=E66.a Ug<|heS (KP [0,1,4,5] [9,19,29,39,50,60,72,83]) Rc E66.2 func236 (fun(l:List SFile) (k:Int)=>by kernel_rfl)
def E68:=E67.a VG<|szT (KP [1,2,4] [11,17]) Qe E67.2 func177 (fun(x:SServer) (k:Int)=>by kernel_rfl) (fun _=>rfl) U9
def E69:=E68.a Vi<|toT [1,2,3] QL Acu E68.2 func192 (fun(x:SServer)=>by kernel_rfl) (fun _=>rfl) Xq
def E70:=E69.a YO<|eqT (KP [2,3,4] [9,15]) Lp E69.2 func222 (fun(x y:SServer)=>by kernel_rfl) U8 VK
def E71:=E70.a UM<|szS (KP [0,1,4,5] [11,15,25]) E70.2 func69 (fun(l:List SServer) (k:Int)=>by kernel_rfl)
def E72:=E71.a Uf<|toS (KP [0,2,3,4] [11]) 40 E71.2 func87 (fun(l:List SServer)=>by kernel_rfl)
def E73:=E72.a Tq<|eqS (KP [0,1,4,5] [10,14,26]) false E72.2 func120 (fun(l r:List SServer)=>by kernel_rfl)
def E74:=E73.M PU<|mkS (KP [0,1,4,5] [9]) true Ka E73.2 func133 (fun(l:List SServer) (k:Int)=>by kernel_rfl)
def E75:=E74.a PZ<|heS (KP [0,1,4,5] [9,19,30]) Ka E74.2 func143 (fun(l:List SServer) (k:Int)=>by kernel_rfl)
def E76:=E75.a Abt<|szT (KP [1,2,4] [11,17,23]) Xj E75.2 func264 (fun(x:SEntry) (k:Int)=>by kernel_rfl) (fun _=>rfl) Aaw
def E77:=E76.a YW<|toT [1,2,3] VZ Afn E76.2 func269 (fun(x:SEntry)=>by kernel_rfl) (fun _=>rfl) Y4
def E78:=E77.a ZB<|eqT (KP [2,3,4] [9,15,21,26]) Ot E77.2 func298 (fun(x y:SEntry)=>by kernel_rfl) AaM AaV
def E79:=E78.a Vc<|szS (KP [0,1,4,5] [11,15,25]) E78.2 func178 (fun(l:List SEntry) (k:Int)=>by kernel_rfl)
def E80:=E79.a XM<|toS (KP [0,2,3,4] [11]) 120 E79.2 func193 (fun(l:List SEntry)=>by kernel_rfl)
def E81:=E80.a Wy<|eqS (KP [0,1,4,5] [10,14,26]) false E80.2 func223 (fun(l r:List SEntry)=>by kernel_rfl)
def E82:=E81.M Rs<|mkS (KP [0,1,4,5] [9]) true NL E81.2 func232 (fun(l:List SEntry) (k:Int)=>by kernel_rfl)
def E83:=E82.a P0<|heS (KP [0,1,4,5] [9,19,30,41,51,61,72,82,94,105,114]) NL E82.2 func237 (fun(l:List SEntry) (k:Int)=>by kernel_rfl)
def E84:=E83.a Ze<|szT (KP [1,2,4] [10]) Yl E83.2 func70 (fun(x:SCache) (k:Int)=>by kernel_rfl) (fun _=>rfl) Zz
def E85:=E84.a AaJ<|toT [1,2,3] Xx AfJ E84.2 func88 (fun(x:SCache)=>by kernel_rfl) (fun _=>rfl) AaD
def E86:=E85.a Zb<|eqT (KP [2,3,4] [10]) OA E85.2 func121 (fun(x y:SCache)=>by kernel_rfl) AaS Aar
def E87:=E86.M Tg<|mvT [1,2,4] [0] NJ E86.2 func134 (fun(x:SCache) (k:Int)=>by kernel_rfl)
def E88:=E87.a Uq<|hvT (KP [1,2,4] [10]) NJ E87.2 func144 (fun(x:SCache) (k:Int)=>by kernel_rfl)
def E89:=E88.a Adb<|szT (KP [1,2,4] [11,17]) Aco E88.2 func179 (fun(x:SSent) (k:Int)=>by kernel_rfl) (fun _=>rfl) Adq
def E90:=E89.a Aei<|toT [1,2,3] Ad5 Agq E89.2 func194 (fun(x:SSent)=>by kernel_rfl) (fun _=>rfl) Ae2
def E91:=E90.a Aex<|eqT (KP [2,3,4] [9,15,20]) WW E90.2 func224 (fun(x y:SSent)=>by kernel_rfl) Ack Adh
def E92:=E91.a Aad<|szS (KP [0,1,4,5] [11,15,25]) E91.2 func71 (fun(l:List SSent) (k:Int)=>by kernel_rfl)
def E93:=E92.a ZU<|toS (KP [0,2,3,4] [11]) 56 E92.2 func89 (fun(l:List SSent)=>by kernel_rfl)
def E94:=E93.a YV<|eqS (KP [0,1,4,5] [10,14,26]) false E93.2 func122 (fun(l r:List SSent)=>by kernel_rfl)
def E95:=E94.M TB<|mkS (KP [0,1,4,5] [9]) true Q5 E94.2 func135 (fun(l:List SSent) (k:Int)=>by kernel_rfl)
def E96:=E95.a UC<|heS (KP [0,1,4,5] [9,19,30,41,52]) Q5 E95.2 func145 (fun(l:List SSent) (k:Int)=>by kernel_rfl)
def E97:=E96.a AfK<|szT (KP [1,2,4] [10,16,22]) Ag7 E96.2 func14 (fun(x:SNet) (k:Int)=>by kernel_rfl) (fun _=>rfl) Af2
def E98:=E97.a Afr<|toT [1,2,3] AgS Al5 E97.2 func24 (fun(x:SNet)=>by kernel_rfl) (fun _=>rfl) Aff
def E99:=E98.a Afl<|eqT (KP [2,3,4] [10,16,22,27]) AfS E98.2 func40 (fun(x y:SNet)=>by kernel_rfl) Af1 Afm
def AkZ:=E99.M Abl<|mvT [1,2,4] [0,1,2] Vw E99.2 func45 (fun(x:SNet) (k:Int)=>by kernel_rfl)
def Ai3:=AkZ.a ZO<|hvT (KP [1,2,4] [10,16,22]) Vw AkZ.2 func50 (fun(x:SNet) (k:Int)=>by kernel_rfl)
def Aht:=Ai3.a AcK<|szT (KP [1,2,4] [10,17,24]) AeK Ai3.2 func183 (fun(x:SSlot) (k:Int)=>by kernel_rfl) (fun _=>rfl) Aea
def Aks:=Aht.a Ade<|toT [1,2,3] AdD AgE Aht.2 func198 (fun(x:SSlot)=>by kernel_rfl) (fun _=>rfl) Ad3
def Akk:=Aks.a Ab8<|eqT (KP [2,3,4] [9,15,20,25,30,35,40]) VR Aks.2 func228 (fun(x y:SSlot)=>by kernel_rfl) AcG AcS
def AkG:=Akk.a Zc<|szS (KP [0,1,4,5] [11,15,25]) Akk.2 func77 (fun(l:List SSlot) (k:Int)=>by kernel_rfl)
def Alq:=AkG.a Y5<|toS (KP [0,2,3,4] [11]) 96 AkG.2 func95 (fun(l:List SSlot)=>by kernel_rfl)
def AhE:=Alq.a Abr<|eqS (KP [0,1,4,5] [10,14,26]) false Alq.2 func128 (fun(l r:List SSlot)=>by kernel_rfl)
def AjQ:=AhE.M Ue<|mkS (KP [0,1,4,5] [9]) true QN AhE.2 func139 (fun(l:List SSlot) (k:Int)=>by kernel_rfl)
def AlE:=AjQ.a TY<|heS (KP [0,1,4,5] [9,18,29,40,50,59,70,79,89]) QN AjQ.2 func149 (fun(l:List SSlot) (k:Int)=>by kernel_rfl)
def Ak4:=AlE.a WR<|szT (KP [1,2,4] [10,17]) Qa AlE.2 func184 (fun(x:SModule) (k:Int)=>by kernel_rfl) (fun _=>rfl) XO
def Aif:=Ak4.a Yt<|toT [1,2,3] Ql AcE Ak4.2 func199 (fun(x:SModule)=>by kernel_rfl) (fun _=>rfl) Wj
def Ajm:=Aif.a Va<|eqT (KP [2,3,4] [10,15,20,25]) KG Aif.2 func229 (fun(x y:SModule)=>by kernel_rfl) Vf Yf
def Alm:=Ajm.a UP<|szS (KP [0,1,4,5] [11,15,25]) Ajm.2 func78 (fun(l:List SModule) (k:Int)=>by kernel_rfl)
def AkW:=Alm.a UR<|toS (KP [0,2,3,4] [11]) 64 Alm.2 func96 (fun(l:List SModule)=>by kernel_rfl)
def Ah0:=AkW.a Uk<|eqS (KP [0,1,4,5] [10,14,26]) false AkW.2 func129 (fun(l r:List SModule)=>by kernel_rfl)
def Aid:=Ah0.M PW<|mkS (KP [0,1,4,5] [9]) true Lz Ah0.2 func140 (fun(l:List SModule) (k:Int)=>by kernel_rfl)
def Alz:=Aid.a PM<|heS (KP [0,1,4,5] [9,20,31,42,51,61]) Lz Aid.2 func150 (fun(l:List SModule) (k:Int)=>by kernel_rfl)
def Ah1:=Alz.a AeV<|szT (KP [1,2,4] [10,16,22,28,34,40,46,52,58,64]) Adw Alz.2 func15 (fun(x:SPage) (k:Int)=>by kernel_rfl) (fun _=>rfl) Acb
def AhZ:=Ah1.a Adu<|toT [1,2,3] AdT Agy Ah1.2 func25 (fun(x:SPage)=>by kernel_rfl) (fun _=>rfl) Adl
def AlZ:=AhZ.a AcJ<|eqT (KP [2,3,4] [10,16,22,28,33,39,45,51,57,62,67,72,77,83,89,94]) W9 AhZ.2 func41 (fun(x y:SPage)=>by kernel_rfl) AeL AeO
def Ako:=AlZ.M Wl<|mvT [1,2,4] [3,4,5,8,10,11,12,13,14,19,20] QW AlZ.2 func46 (fun(x:SPage) (k:Int)=>by kernel_rfl)
def Aic:=Ako.a VV<|hvT (KP [1,2,4] [10,16,22,28,34,40,46,52]) QW Ako.2 func51 (fun(x:SPage) (k:Int)=>by kernel_rfl)
def Alb:=Aic.a Zn<|szT (KP [1,2,4] [10,16]) YK Aic.2 func81 (fun(x:SGuess) (k:Int)=>by kernel_rfl) (fun _=>rfl) Z6
def AjU:=Alb.a Z7<|toT [1,2,3] Vn Afk Alb.2 func99 (fun(x:SGuess)=>by kernel_rfl) (fun _=>rfl) Aa7
def AkX:=AjU.a Abn<|eqT (KP [2,3,4] [10,16,21]) OH AjU.2 func132 (fun(x y:SGuess)=>by kernel_rfl) Za AaI
def Ajo:=AkX.a XC<|szS (KP [0,1,4,5] [11,15,25]) AkX.2 func18 (fun(l:List SGuess) (k:Int)=>by kernel_rfl)
def Alv:=Ajo.a X3<|toS (KP [0,2,3,4] [11]) 104 Ajo.2 func28 (fun(l:List SGuess)=>by kernel_rfl)
def AkE:=Alv.a X5<|eqS (KP [0,1,4,5] [10,14,26]) false Alv.2 func44 (fun(l r:List SGuess)=>by kernel_rfl)
def AhD:=AkE.M RC<|mkS (KP [0,1,4,5] [9]) true Nw AkE.2 func49 (fun(l:List SGuess) (k:Int)=>by kernel_rfl)
def AiM:=AhD.a QX<|heS (KP [0,1,4,5] [9,20,31,41,51,62,72,84,95,106]) Nw AhD.2 func54 (fun(l:List SGuess) (k:Int)=>by kernel_rfl)
def Aly:=AiM.a AcZ<|szT (KP [1,2,4] [10,16]) Ada AiM.2 func80 (fun(x:SConn) (k:Int)=>by kernel_rfl) (fun _=>rfl) Ads
def AkY:=Aly.a AdM<|toT [1,2,3] AcN Agz Aly.2 func98 (fun(x:SConn)=>by kernel_rfl) (fun _=>rfl) AcY
def AlQ:=AkY.a Aed<|eqT (KP [2,3,4] [10,15,20,26]) WB AkY.2 func131 (fun(x y:SConn)=>by kernel_rfl) Acm Adm
def AkV:=AlQ.a Zh<|szS (KP [0,1,4,5] [11,15,25]) AlQ.2 func17 (fun(l:List SConn) (k:Int)=>by kernel_rfl)
def Aij:=AkV.a ZA<|toS (KP [0,2,3,4] [11]) 112 AkV.2 func27 (fun(l:List SConn)=>by kernel_rfl)
def Aib:=Aij.a Aa6<|eqS (KP [0,1,4,5] [10,14,26]) false Aij.2 func43 (fun(l r:List SConn)=>by kernel_rfl)
def AjX:=Aib.M TP<|mkS (KP [0,1,4,5] [9]) true Qm Aib.2 func48 (fun(l:List SConn) (k:Int)=>by kernel_rfl)
def Akd:=AjX.a UZ<|heS (KP [0,1,4,5] [9,20,31,40,51,61,71,82,92,104,115]) Qm AjX.2 func53 (fun(l:List SConn) (k:Int)=>by kernel_rfl)
def AkC:=Akd.a KK<|szT (KP [1,2,4] [10,16,22,28,34]) Ry Akd.2 func5 (fun(x:SLoader) (k:Int)=>by kernel_rfl) (fun _=>rfl) WI
def AjM:=AkC.a FD<|toT [1,2,3] RA AeC AkC.2 func7 (fun(x:SLoader)=>by kernel_rfl) (fun _=>rfl) W4
def AjK:=AjM.a FG<|eqT (KP [2,3,4] [10,16,22,28,34]) Kn AjM.2 func9 (fun(x y:SLoader)=>by kernel_rfl) VX VH
def Ahw:=AjK.M Ee<|mvT [1,2,4] [0,1,2,7,8,9,12,14,15,16,17,18,23,24,26,27,28] LK AjK.2 func10 (fun(x:SLoader) (k:Int)=>by kernel_rfl)
def Ahg:=Ahw.a Gf<|hvT (KP [1,2,4] [10,16,22,28,34]) LK Ahw.2 func11 (fun(x:SLoader) (k:Int)=>by kernel_rfl)
def findConn (a:SAddr):List SConn->Int->Int
 | [],_=>-1
 | c::l,i=>if c.to=a then i else findConn a l (i+1)
theorem F6 {a:SAddr} {l:List SConn} {i:Nat} {z:Int} (h:i<l.length):findConn a (l.drop i) z=if(l.getD i default).to=a then z else findConn a (l.drop (i+1)) (z+1):=by rw[drop_cons h];rfl
theorem Jq {a:SAddr} {l:List SConn} {i:Nat} {z:Int} (h:l.length<=i):findConn a (l.drop i) z = -1:=by rw[Qb9 h];rfl
theorem XP (x y:SAddr):(x.host==y.host&&(x.path==y.path&&true))=decide (x=y):=DA x y
def LH:Fct:=⟨[aL .conn,aE .addr],[rI],fun(x:List SConn×SAddr×Unit)=>x.1.length<=1048576,fun x=>(findConn x.2.1 x.1 0,())⟩
abbrev Lfind (l:List SConn) (a:SAddr):LInv:=⟨[⟨.s,5,true,.el .int⟩,⟨.b,3,true,.el .addr⟩],fun _ (x:Int×SAddr×Unit)=>0<=x.1/\x.1<=l.length/\x.2.1=a/\findConn a l 0=findConn a (l.drop x.1.toNat) x.1,fun(x:Int×SAddr×Unit)=>l.length-x.1.toNat⟩
def Ajz:=Ahg.a LH<|Fct.p (KP [0,3,4,5] [9,18]) (fun⟨l,a,_⟩=>lv [(2,Lfind l a)]) Ahg.2 func168 (by
 rintro⟨(l:List SConn),(a:SAddr),_⟩ hp;refine ho (lpx (Lfind l a) ((0:Int),(a,())) fun(y1:Int×SAddr×PUnit) bk1=>.br (decide (y1.1<(l.length:Int))) (.ob (inB y1.1 l.length)<|.br ((l.getD y1.1.toNat default).to.host==y1.2.1.host&&((l.getD y1.1.toNat default).to.path==y1.2.1.path&&true)) (.lf LH (y1.1,())) (.ob (l=l)<|.ob (bk1 (w1 y1.1,(y1.2.1,())))<|.ok)) (.lf LH ((-1:Int),()))) ?_;refine Ay ?_ fun(y1:Int×SAddr×PUnit) i1=>Ab (fun h2=>Aa ?_ fun o3=>Ab (fun h4=>lfY ?_) (fun h4=>Aa rfl fun _=>Aa ?_ fun o5=>trivial)) (fun h2=>lfY ?_)
 all_goals
  try simp only[Az] at *
  try simp only[Lfind,LH,std,Nat.reduceAdd] at *
  try simp only[XP,Qa9,Qb2] at *
 ·first|omega|exact⟨by omega,by omega,by simp⟩
 ·omega
 ·rw[F6 (by omega),Qa2 (h4.trans i1.2.2.1)] at i1;exact i1.2.2.2.symm
 ·rw[F6 (by omega),Qa3 (fun h=>h4 (h.trans i1.2.2.1.symm))] at i1;have hn:l.length<=1048576:=hp;rw[Ah (by omega),toNat1 (by omega)];exact⟨⟨by omega,by omega,i1.2.2.1,i1.2.2.2⟩,by omega⟩
 ·rw[Jq (by omega)] at i1;exact i1.2.2.2.symm)
def SN:Fct:=⟨[aE .conn,.p (.el .addr)],[rB],fun _=>True,fun x=>(decide (x.1.to=x.2.1),())⟩
def Ala:=Ajz.a SN<|Fct.o [1,2,3] Ajz.2 func262 (by
 rintro⟨(c:SConn),(a:SAddr),_⟩ hp;refine ho (.lf SN (c.to.host==a.host&&(c.to.path==a.path&&true),())) ?_;refine lfY ?_;show(_,())=(_,());rw[XP])
def G5:Fct:=⟨[aL .conn,.c 262 [.el .addr]],[rI],fun(x:List SConn×(SAddr×Unit)×Unit)=>x.1.length<=1048576,fun x=>(findConn x.2.1.1 x.1 0,())⟩
abbrev Lidx (l:List SConn) (F:List SConn->Int->Int):LInv:=⟨[⟨.s,8,true,.el .int⟩],fun _ (x:Int×Unit)=>0<=x.1/\x.1<=l.length/\F l 0=F (l.drop x.1.toNat) x.1,fun(x:Int×Unit)=>l.length-x.1.toNat⟩
abbrev Lidxf (l:List SConn) (a:SAddr×Unit):LInv:=Lidx l (findConn a.1)
def Ajn:=Ala.a G5<|Fct.p (KP [0,1,4,5,7,8] [9,16]) (fun⟨l,a,_⟩=>lv [(2,Lidxf l a)]) Ala.2 func104 (by
 rintro⟨(l:List SConn),(a:SAddr×PUnit),_⟩ hp;refine ho (lpx (Lidxf l a) ((0:Int),()) fun(y1:Int×PUnit) bk1=>.br (decide (y1.1<(l.length:Int))) (.ob (inB y1.1 l.length)<|.cl SN (l.getD y1.1.toNat default,a.1,()) fun z2=>.br (z2.1) (.lf G5 (y1.1,())) (.ob (l=l)<|.ob (enc Ty.addr a.1=enc Ty.addr a.1)<|.ob (Value.int IntKind.i64 (l.length:Int)=Value.int IntKind.i64 (l.length:Int))<|.ob (bk1 (w1 y1.1,()))<|.ok)) (.lf G5 ((-1:Int),()))) ?_;refine Ay ?_ fun(y1:Int×PUnit) i1=>Ab (fun h2=>Aa ?_ fun o3=>Af trivial fun _=>(Ab (fun h4=>lfY ?_) (fun h4=>Aa rfl fun _=>Aa rfl fun _=>Aa rfl fun _=>Aa ?_ fun o5=>trivial))) (fun h2=>lfY ?_)
 all_goals
  try simp only[Az] at *
  try simp only[Lidxf,SN,G5,std,Nat.reduceAdd] at *
  try simp only[XP,Qa9,Qb2] at *
 ·first|omega|exact⟨by omega,by omega,by simp⟩
 ·omega
 ·rw[F6 (by omega),Qa2 h4] at i1;exact i1.2.2.symm
 ·rw[F6 (by omega),Qa3 h4] at i1;have hn:l.length<=1048576:=hp;rw[Ah (by omega),toNat1 (by omega)];exact⟨⟨by omega,by omega,i1.2.2⟩,by omega⟩
 ·rw[Jq (by omega)] at i1;exact i1.2.2.symm)
def Ahf:=Ajn.a LH<|Fct.o [0,3,4] Ajn.2 func175 (by
 rintro⟨(l:List SConn),(a:SAddr),_⟩ hp;refine ho (.cl G5 (l,(a,()),()) fun(z2:Int×PUnit)=>.lf LH (z2.1,())) ?_;refine Af ?_ fun o1=>(lfY ?_)
 all_goals
  try simp only[Az] at *
  try simp only[LH,G5,std,Nat.reduceAdd] at *
 all_goals first|trivial|omega|(simp_all;done)|(simp_all;omega)|grind)
def inRange (n lo hi:Int):Bool:=decide (lo<=n)&&decide (n<=hi)
def fInRange:Fct:=⟨[aI,aI,aI],[rB],fun _=>True,fun(x:Int×Int×Int×Unit)=>(inRange x.1 x.2.1 x.2.2.1,())⟩
def Ajr:=Ahf.a fInRange<|Fct.o [0,1,2,6] Ahf.2 func30 (by
 rintro⟨(n:Int),(lo:Int),(hi:Int),_⟩ hp;refine ho (.br (decide (lo<=n)) (.lf fInRange (decide (n<=hi),())) (.lf fInRange (false,()))) ?_;refine Ab (fun h1=>lfY ?_) (fun h1=>lfY ?_);all_goals
  try simp only[Az] at *
  try simp only[fInRange,std,Nat.reduceAdd,inRange] at *
 all_goals first|trivial|(simp_all;done)|(simp_all;omega)|grind)
def Als:=Ajr.a fInRange<|Fct.o [0,1,2,6] Ajr.2 func20 (by
 rintro⟨(n:Int),(lo:Int),(hi:Int),_⟩ hp;refine ho (.br (decide (n>=lo)) (.lf fInRange (decide (n<=hi),())) (.lf fInRange (false,()))) ?_;refine Ab (fun h1=>lfY ?_) (fun h1=>lfY ?_);all_goals
  try simp only[Az] at *
  try simp only[fInRange,std,Nat.reduceAdd,inRange] at *
 all_goals first|trivial|(simp_all;done)|(simp_all;omega)|grind)
def fCopyConns:Fct:=⟨[aL .conn],[rL .conn],fun(x:List SConn×Unit)=>x.1.length<=1048576,fun(x:List SConn×Unit)=>(x.1,())⟩
def Aj4:=Als.a fCopyConns<|Fct.o [0,2] Als.2 func102 (by
 rintro⟨(l:List SConn),_⟩ hp;refine ho (.ob (True)<|.ob (BM (0+List.length l) 112)<|.lf fCopyConns ([]++l,())) ?_;refine Aa trivial fun _=>Aa ?_ fun o1=>lfY ?_
 all_goals
  try simp only[Az] at *
  try simp only[fCopyConns,std,Nat.reduceAdd] at *
 all_goals first|trivial|omega|(simp_all;done)|(simp_all;omega)|grind)
def sizeResponse (x:SResponse):Int:=x.body.size+20
def B6:Fct:=⟨[aE .bd],[rI],fun(x:SResponse×Unit)=>x.1.body.size<=1000000000000,fun(x:SResponse×Unit)=>(sizeResponse x.1,())⟩
def AjI:=Aj4.a B6<|Fct.o [1,2] Aj4.2 func169 (by
 rintro⟨(x:SResponse),_⟩ hp;refine ho (.lf B6 (wr ((x.body.size:Int)+20),())) ?_;refine lfY ?_;all_goals
  try simp only[Az] at *
  try simp only[B6,std,Nat.reduceAdd,sizeResponse] at *
 rw[Ah (by omega)])
def AhU:=AjI.a B6<|Fct.o [1,2] AjI.2 func176 (by
 rintro⟨(x:SResponse),_⟩ hp;refine ho (.lf B6 (wr ((x.body.size:Int)+20),())) ?_;refine lfY ?_;all_goals
  try simp only[Az] at *
  try simp only[B6,std,Nat.reduceAdd,sizeResponse] at *
 rw[Ah (by omega)])
def openConn (l:List SConn) (a:SAddr) (x:SResponse) (g:Bool):List SConn×Bool:=if(l.length:Int)>=3\/findConn a l 0>=0 then(l,false) else(l++[⟨a,sizeResponse x,g,x⟩],true)
def Ib:Fct:=⟨[aL .conn,aE .addr,aE .bd,aB],[rL .conn,rB],fun(x:List SConn×SAddr×SResponse×Bool×Unit)=>x.1.length<=1048576/\x.2.2.1.body.size<=1048576,fun(x:List SConn×SAddr×SResponse×Bool×Unit)=>((openConn x.1 x.2.1 x.2.2.1 x.2.2.2.1).1,(openConn x.1 x.2.1 x.2.2.1 x.2.2.2.1).2,())⟩
def Ai0:=AhU.a Ib<|Fct.o (KP [0,3,5,6,8,9,10] [22]) AhU.2 func63 (by
 rintro⟨(l:List SConn),(a:SAddr),(x:SResponse),(g:Bool),_⟩ hp;refine ho (.ob (True)<|.ob (BM (0+List.length l) 112)<|.br (decide ((↑(List.length l):Int)>=3)) (.lf Ib ([]++l,false,())) (.cl LH (l,a,()) fun(z2:Int×PUnit)=>.br (decide (z2.1>=0)) (.lf Ib ([]++l,false,())) (.cl B6 (x,()) fun(z3:Int×PUnit)=>.ob (True)<|.ob (BM (([]++l).length+[(⟨a,z3.1,g,x⟩:SConn)].length) 112)<|.lf Ib ([]++l++[(⟨a,z3.1,g,x⟩:SConn)],true,())))) ?_;refine Aa trivial fun _=>Aa ?_ fun o1=>Ab (fun h2=>lfY ?_) (fun h2=>Af ?_ fun o3=>(Ab (fun h4=>lfY ?_) (fun h4=>Af ?_ fun o5=>(Aa trivial fun _=>Aa ?_ fun o6=>lfY ?_))))
 all_goals
  have hp1:l.length<=1048576:=hp.1;have hp3:x.body.size<=1048576:=hp.2;clear hp;try simp only[Az] at *
  try simp only[LH,Ib,B6,std,Nat.reduceAdd,fCopyConns,Qa4,Qa6,Qb5] at *
 all_goals first|trivial|omega|(simp[openConn,h2];done)|(simp[openConn,h4];done)|(have hh:¬ ((3:Int)<=(l.length:Int)\/0<=findConn a l 0):=by omega;simp[openConn,hh];done)|skip
 all_goals
  rw[openConn,Qa3 (show ¬ ((l.length:Int)>=3\/findConn a l 0>=0) by rintro(h|h)<;>omega)];exact⟨rfl,rfl⟩)
def Alp:=Ai0.a Ib<|Fct.o (KP [0,3,5,6,8,9,10] [21]) Ai0.2 func68 (by
 rintro⟨(l:List SConn),(a:SAddr),(x:SResponse),(g:Bool),_⟩ hp;refine ho (.cl fCopyConns (l,()) fun z2=>.br (decide ((↑(List.length l):Int)>=3)) (.lf Ib (z2.1,false,())) (.cl LH (l,a,()) fun(z3:Int×PUnit)=>.br (decide (z3.1>=0)) (.lf Ib (z2.1,false,())) (.cl B6 (x,()) fun(z4:Int×PUnit)=>.ob (True)<|.ob (BM (z2.1.length+[(⟨a,z4.1,g,x⟩:SConn)].length) 112)<|.lf Ib (z2.1++[(⟨a,z4.1,g,x⟩:SConn)],true,())))) ?_;refine Af ?_ fun o1=>(Ab (fun h2=>lfY ?_) (fun h2=>Af ?_ fun o3=>(Ab (fun h4=>lfY ?_) (fun h4=>Af ?_ fun o5=>(Aa trivial fun _=>Aa ?_ fun o6=>lfY ?_)))))
 all_goals
  have hp1:l.length<=1048576:=hp.1;have hp3:x.body.size<=1048576:=hp.2;clear hp;try simp only[Az] at *
  try simp only[fCopyConns,LH,Ib,B6,std,Nat.reduceAdd,fCopyConns,Qa4,Qa6,Qb5] at *
 all_goals first|trivial|omega|(simp[openConn,h2];done)|(simp[openConn,h4];done)|(have hh:¬ ((3:Int)<=(l.length:Int)\/0<=findConn a l 0):=by omega;simp[openConn,hh];done)|skip
 all_goals
  rw[openConn,Qa3 (show ¬ ((l.length:Int)>=3\/findConn a l 0>=0) by rintro(h|h)<;>omega)];exact⟨rfl,rfl⟩)
def Ei:Fct:=⟨[.v (.sl .addr),.v (.el .addr)],[.el .int],fun(x_:(List SAddr)×SAddr×Unit)=>x_.1.length<=1000000000000000000,fun(x_:(List SAddr)×SAddr×Unit)=>(fidx (fun c=>decide (c=x_.2.1)) x_.1 0,())⟩
abbrev AX (l:(List SAddr)) (a:SAddr):LInv:=⟨[⟨.s,8,true,.el .int⟩,⟨.b,3,true,.el .addr⟩],fun(z_ x_:Int×SAddr×Unit)=>(0<=x_.1/\x_.1<=l.length/\fidx (fun c=>decide (c=a)) l 0=fidx (fun c=>decide (c=a)) (l.drop x_.1.toNat) x_.1)/\x_.2.1=z_.2.1,fun(x_:Int×SAddr×Unit)=>l.length-x_.1.toNat⟩
def AjG:=Alp.a Ei<|Fct.p (KP [0,3,4,5,7,8] [9,16]) (fun⟨l,a,_⟩=>lv [(2,AX l a)]) Alp.2 func317 (by
 rintro⟨(l:List SAddr),(a:SAddr),_⟩ hp;refine ho (lpx (AX l a) ((0:Int),(a,())) fun(y1:Int×SAddr×PUnit) bk1=>.br (decide (y1.1<(l.length:Int))) (.ob (inB y1.1 l.length)<|.br (y1.2.1.host==(l.getD y1.1.toNat default).host&&(y1.2.1.path==(l.getD y1.1.toNat default).path&&true)) (.lf Ei (y1.1,())) (.ob (l=l)<|.ob (Value.int IntKind.i64 (l.length:Int)=Value.int IntKind.i64 (l.length:Int))<|.ob (bk1 (w1 y1.1,(y1.2.1,())))<|.ok)) (.lf Ei ((-1:Int),()))) ?_;refine Ay ?_ fun(y1:Int×SAddr×PUnit) i1=>Ab (fun h2=>Aa ?_ fun o3=>Ab (fun h4=>lfY ?_) (fun h4=>Aa rfl fun _=>Aa rfl fun _=>Aa ?_ fun o5=>trivial)) (fun h2=>lfY ?_)
 all_goals
  try simp only[DA] at *
  try simp only[Az] at *
  try simp only[AX,Ei,std,Nat.reduceAdd,fidx] at *
  try simp(disch:=omega) only[wrapId',toNat1] at *
  try simp(disch:=omega) only[Qa2,Qa3]
 all_goals first|trivial|omega|grind[wrapId',toNat1,drop_cons,drop_end,good_len,maxLen,fidx])
def CD:Fct:=⟨[.v (.sl .addr),.v (.el .addr)],[.el .bool],fun(x_:(List SAddr)×SAddr×Unit)=>x_.1.length<=1000000000000000000,fun(x_:(List SAddr)×SAddr×Unit)=>(x_.1.any fun c=>decide (c=x_.2.1),())⟩
def AiL:=AjG.a CD<|Fct.o [0,3,4] AjG.2 func257 (by
 rintro⟨(l:List SAddr),(a:SAddr),_⟩ hp;refine ho (.cl Ei (l,a,()) fun(z2:Int×PUnit)=>.lf CD (decide (z2.1>=0),())) ?_;refine Af ?_ fun o1=>(lfY ?_)
 all_goals
  try simp only[Az] at *
  try simp only[CD,Ei,std,Nat.reduceAdd] at *
 all_goals first|trivial|omega|(rw[Bool.eq_iff_iff];exact decide_eq_true_iff.trans (P5 _ _ _ (by omega))))
def fHasAddr:Fct:=⟨[.v (.sl .addr),.v (.el .addr)],[.el .bool],fun(x_:(List SAddr)×SAddr×Unit)=>x_.1.length<=1000000000000000000,fun(x_:(List SAddr)×SAddr×Unit)=>(x_.1.any fun c=>decide (c=x_.2.1),())⟩
abbrev CZ (l:(List SAddr)) (a:SAddr):LInv:=⟨[⟨.s,5,true,.el .int⟩,⟨.b,3,true,.el .addr⟩],fun(z_ x_:Int×SAddr×Unit)=>(0<=x_.1/\x_.1<=l.length/\l.any (fun c=>decide (c=a))=(l.drop x_.1.toNat).any (fun c=>decide (c=a)))/\x_.2.1=z_.2.1,fun(x_:Int×SAddr×Unit)=>l.length-x_.1.toNat⟩
def Ahx:=AiL.a fHasAddr<|Fct.p (KP [0,3,4,5] [9,17]) (fun⟨l,a,_⟩=>lv [(2,CZ l a)]) AiL.2 func152 (by
 rintro⟨(l:List SAddr),(a:SAddr),_⟩ hp;refine ho (lpx (CZ l a) ((0:Int),(a,())) fun(y1:Int×SAddr×PUnit) bk1=>.br (decide (y1.1<(l.length:Int))) (.ob (inB y1.1 l.length)<|.br ((l.getD y1.1.toNat default).host==y1.2.1.host&&((l.getD y1.1.toNat default).path==y1.2.1.path&&true)) (.lf fHasAddr (true,())) (.ob (l=l)<|.ob (bk1 (w1 y1.1,(y1.2.1,())))<|.ok)) (.lf fHasAddr (false,()))) ?_;refine Ay ?_ fun(y1:Int×SAddr×PUnit) i1=>Ab (fun h2=>Aa ?_ fun o3=>Ab (fun h4=>lfY ?_) (fun h4=>Aa rfl fun _=>Aa ?_ fun o5=>trivial)) (fun h2=>lfY ?_)
 all_goals
  try simp only[DA] at *
  try simp only[Az] at *
  try simp only[CZ,fHasAddr,std,Nat.reduceAdd] at *
  try simp(disch:=omega) only[wrapId',toNat1] at *
  try simp(disch:=omega) only[Qa2,Qa3]
 all_goals first|trivial|omega|grind[wrapId',toNat1,drop_cons,drop_end,good_len,maxLen])
def Aiy:=Ahx.a fHasAddr<|Fct.o [0,3,4] Ahx.2 func170 (by
 rintro⟨(l:List SAddr),(a:SAddr),_⟩ hp;refine ho (.cl CD (l,a,()) fun z2=>.lf fHasAddr (z2.1,())) ?_;refine Af ?_ fun o1=>(lfY ?_)
 all_goals
  try simp only[DA] at *
  try simp only[Az] at *
  try simp only[CD,fHasAddr,std,Nat.reduceAdd] at *
  try simp(disch:=omega) only[wrapId',toNat1] at *
  try simp(disch:=omega) only[Qa2,Qa3]
 all_goals first|trivial|omega|grind[wrapId',toNat1,drop_cons,drop_end,good_len,maxLen])
def withoutAddrs (d:List SAddr):List SRequest->List SRequest
 | []=>[]
 | r::l=>if d.any (fun c=>decide (c=r.to)) then withoutAddrs d l else r::withoutAddrs d l
def Bm:Fct:=⟨[.v (.sl .request),.v (.sl .addr)],[.sl .request],fun(x_:(List SRequest)×(List SAddr)×Unit)=>x_.1.length<=1000000000000/\x_.2.1.length<=1048576,fun(x_:(List SRequest)×(List SAddr)×Unit)=>(withoutAddrs x_.2.1 x_.1,())⟩
abbrev Bs (l:(List SRequest)) (d:(List SAddr)):LInv:=⟨[⟨.s,5,true,.sl .request⟩,⟨.s,6,true,.el .int⟩],fun _ (x_:(List SRequest)×Int×Unit)=>0<=x_.2.1/\x_.2.1<=l.length/\x_.1.length<=x_.2.1/\withoutAddrs d l=x_.1++withoutAddrs d (l.drop x_.2.1.toNat),fun(x_:(List SRequest)×Int×Unit)=>l.length-x_.2.1.toNat⟩
def Ak2:=Aiy.a Bm<|Fct.p (KP [0,1,4,5,6] [11,21]) (fun⟨l,d,_⟩=>lv [(3,Bs l d)]) Aiy.2 func55 (by
 rintro⟨(l:List SRequest),(d:List SAddr),_⟩ hp;refine ho (lpx (Bs l d) ([],((0:Int),())) fun(y1:List SRequest×Int×PUnit) bk1=>.br (decide (y1.2.1<(l.length:Int))) (.ob (inB y1.2.1 l.length)<|.cl fHasAddr (d,(l.getD y1.2.1.toNat default).to,()) fun z2=>.br (!z2.1) (.ob (inB y1.2.1 l.length)<|.ob (True)<|.ob (BM (y1.1.length+[l.getD y1.2.1.toNat default].length) 72)<|.ob (l=l)<|.ob (d=d)<|.ob (bk1 (y1.1++[l.getD y1.2.1.toNat default],(w1 y1.2.1,())))<|.ok) (.ob (l=l)<|.ob (d=d)<|.ob (bk1 (y1.1,(w1 y1.2.1,())))<|.ok)) (.lf Bm (y1.1,()))) ?_;refine Ay ?_ fun(y1:List SRequest×Int×PUnit) i1=>Ab (fun h2=>Aa ?_ fun o3=>Af ?_ fun o4=>(Ab (fun h5=>Aa ?_ fun o6=>Aa trivial fun _=>Aa ?_ fun o7=>Aa rfl fun _=>Aa rfl fun _=>Aa ?_ fun o8=>trivial) (fun h5=>Aa rfl fun _=>Aa rfl fun _=>Aa ?_ fun o9=>trivial))) (fun h2=>lfY ?_)
 all_goals
  try simp only[Az] at *
  try simp only[Bs,fHasAddr,Bm,std,Nat.reduceAdd,withoutAddrs,fHasAddr] at *
  try simp(disch:=omega) only[wrapId',toNat1] at *
  try simp(disch:=omega) only[Qa2,Qa3]
 all_goals first|trivial|omega|grind[wrapId',toNat1,drop_cons,drop_end,good_len,maxLen,withoutAddrs,fHasAddr])
abbrev A0 (l:(List SRequest)) (d:(List SAddr)):LInv:=⟨[⟨.s,5,true,.sl .request⟩,⟨.s,11,true,.el .int⟩],fun _ (x_:(List SRequest)×Int×Unit)=>0<=x_.2.1/\x_.2.1<=l.length/\x_.1.length<=x_.2.1/\withoutAddrs d l=x_.1++withoutAddrs d (l.drop x_.2.1.toNat),fun(x_:(List SRequest)×Int×Unit)=>l.length-x_.2.1.toNat⟩
def Ak6:=Ak2.a Bm<|Fct.p (KP [0,1,4,5,7,9,10,11] [12,19]) (fun⟨l,d,_⟩=>lv [(3,A0 l d)]) Ak2.2 func64 (by
 rintro⟨(l:List SRequest),(d:List SAddr),_⟩ hp;refine ho (lpx (A0 l d) ([],((0:Int),())) fun(y1:List SRequest×Int×PUnit) bk1=>.br (decide (y1.2.1<(l.length:Int))) (.ob (inB y1.2.1 l.length)<|.cl fHasAddr (d,(l.getD y1.2.1.toNat default).to,()) fun z2=>.br (!z2.1) (.ob (True)<|.ob (BM (y1.1.length+[l.getD y1.2.1.toNat default].length) 72)<|.ob (l=l)<|.ob (d=d)<|.ob (l=l)<|.ob (Value.int IntKind.i64 (l.length:Int)=Value.int IntKind.i64 (l.length:Int))<|.ob (bk1 (y1.1++[l.getD y1.2.1.toNat default],(w1 y1.2.1,())))<|.ok) (.ob (l=l)<|.ob (d=d)<|.ob (l=l)<|.ob (Value.int IntKind.i64 (l.length:Int)=Value.int IntKind.i64 (l.length:Int))<|.ob (bk1 (y1.1,(w1 y1.2.1,())))<|.ok)) (.lf Bm (y1.1,()))) ?_;repeat' first|(guard_target =~ Out.holds _ _;first|refine Ay (li:=A0 l d) ?_ fun(y1:List SRequest×Int×PUnit) i1=>?_|refine lfY ?_|refine Ab (fun _=>?_) fun _=>?_|refine Af ?_ fun _=>?_|refine Aa ?_ fun _=>?_)|exact trivial
 all_goals
  try simp only[Az] at *
  try simp only[A0,fHasAddr,Bm,std,Nat.reduceAdd,withoutAddrs,fHasAddr] at *
  try simp(disch:=omega) only[wrapId',toNat1] at *
  try simp(disch:=omega) only[Qa2,Qa3]
 all_goals first|trivial|omega|grind[wrapId',toNat1,drop_cons,drop_end,good_len,maxLen,withoutAddrs,fHasAddr])
theorem Gt (d:List SAddr) (l:List SRequest):(withoutAddrs d l).length<=l.length:=by
 induction l<;>grind[withoutAddrs]
def EK:Fct:=⟨[.v (.sl .str),.v (.el .str)],[.el .int],fun(x_:(List ByteArray)×ByteArray×Unit)=>x_.1.length<=1000000000000000000,fun(x_:(List ByteArray)×ByteArray×Unit)=>(fidx (fun c=>decide (c=x_.2.1)) x_.1 0,())⟩
abbrev A5 (l:(List ByteArray)) (a:ByteArray):LInv:=⟨[⟨.s,8,true,.el .int⟩],fun _ (x_:Int×Unit)=>0<=x_.1/\x_.1<=l.length/\fidx (fun c=>decide (c=a)) l 0=fidx (fun c=>decide (c=a)) (l.drop x_.1.toNat) x_.1,fun(x_:Int×Unit)=>l.length-x_.1.toNat⟩
def Ai2:=Ak6.a EK<|Fct.p (KP [0,1,4,5,7,8] [9,16]) (fun⟨l,a,_⟩=>lv [(2,A5 l a)]) Ak6.2 func418 (by
 rintro⟨(l:List ByteArray),(a:ByteArray),_⟩ hp;refine ho (lpx (A5 l a) ((0:Int),()) fun(y1:Int×PUnit) bk1=>.br (decide (y1.1<(l.length:Int))) (.ob (inB y1.1 l.length)<|.br (a.toList==(l.getD y1.1.toNat default).toList) (.lf EK (y1.1,())) (.ob (l=l)<|.ob (Value.string a=Value.string a)<|.ob (Value.int IntKind.i64 (l.length:Int)=Value.int IntKind.i64 (l.length:Int))<|.ob (bk1 (w1 y1.1,()))<|.ok)) (.lf EK ((-1:Int),()))) ?_;refine Ay ?_ fun(y1:Int×PUnit) i1=>Ab (fun h2=>Aa ?_ fun o3=>Ab (fun h4=>lfY ?_) (fun h4=>Aa rfl fun _=>Aa rfl fun _=>Aa rfl fun _=>Aa ?_ fun o5=>trivial)) (fun h2=>lfY ?_)
 all_goals
  try simp only[AfP,AfA] at *
  try simp only[Az] at *
  try simp only[A5,EK,std,Nat.reduceAdd,fidx] at *
  try simp(disch:=omega) only[wrapId',toNat1] at *
  try simp(disch:=omega) only[Qa2,Qa3]
 all_goals first|trivial|omega|grind[wrapId',toNat1,drop_cons,drop_end,good_len,maxLen,fidx])
def fContains_str:Fct:=⟨[.v (.sl .str),.v (.el .str)],[.el .bool],fun(x_:(List ByteArray)×ByteArray×Unit)=>x_.1.length<=1000000000000000000,fun(x_:(List ByteArray)×ByteArray×Unit)=>(x_.1.any fun c=>decide (c=x_.2.1),())⟩
def Ak3:=Ai2.a fContains_str<|Fct.o [0,1,4] Ai2.2 func380 (by
 rintro⟨(l:List ByteArray),(a:ByteArray),_⟩ hp;refine ho (.cl EK (l,a,()) fun(z2:Int×PUnit)=>.lf fContains_str (decide (z2.1>=0),())) ?_;refine Af ?_ fun o1=>(lfY ?_)
 all_goals
  try simp only[Az] at *
  try simp only[fContains_str,EK,std,Nat.reduceAdd] at *
 all_goals first|trivial|omega|(rw[Bool.eq_iff_iff];exact decide_eq_true_iff.trans (P5 _ _ _ (by omega))))
def fHas9:Fct:=⟨[.v (.sl .str),.v (.el .str)],[.el .bool],fun(x_:(List ByteArray)×ByteArray×Unit)=>x_.1.length<=1000000000000000000,fun(x_:(List ByteArray)×ByteArray×Unit)=>(x_.1.any fun c=>decide (c=x_.2.1),())⟩
abbrev DM (l:(List ByteArray)) (s:ByteArray):LInv:=⟨[⟨.s,5,true,.el .int⟩],fun _ (x_:Int×Unit)=>0<=x_.1/\x_.1<=l.length/\l.any (fun c=>decide (c=s))=(l.drop x_.1.toNat).any (fun c=>decide (c=s)),fun(x_:Int×Unit)=>l.length-x_.1.toNat⟩
def Aiv:=Ak3.a fHas9<|Fct.p (KP [0,1,4,5] [9,17]) (fun⟨l,s,_⟩=>lv [(2,DM l s)]) Ak3.2 func409 (by
 rintro⟨(l:List ByteArray),(s:ByteArray),_⟩ hp;refine ho (lpx (DM l s) ((0:Int),()) fun(y1:Int×PUnit) bk1=>.br (decide (y1.1<(l.length:Int))) (.ob (inB y1.1 l.length)<|.br ((l.getD y1.1.toNat default).toList==s.toList) (.lf fHas9 (true,())) (.ob (l=l)<|.ob (Value.string s=Value.string s)<|.ob (bk1 (w1 y1.1,()))<|.ok)) (.lf fHas9 (false,()))) ?_;refine Ay ?_ fun(y1:Int×PUnit) i1=>Ab (fun h2=>Aa ?_ fun o3=>Ab (fun h4=>lfY ?_) (fun h4=>Aa rfl fun _=>Aa rfl fun _=>Aa ?_ fun o5=>trivial)) (fun h2=>lfY ?_)
 all_goals
  try simp only[Az] at *
  try simp only[DM,fHas9,std,Nat.reduceAdd] at *
  try simp(disch:=omega) only[wrapId',toNat1] at *
  try simp(disch:=omega) only[Qa2,Qa3]
 all_goals first|trivial|omega|grind[wrapId',toNat1,drop_cons,drop_end,good_len,maxLen])
def blockedOn (p:SPage):SAddr×Bool:=if 1<=p.block/\p.block<=p.bf.length then((p.bf.getD (p.block-1).toNat default).to,true) else(default,false)
def CS:Fct:=⟨[.v (.el .page)],[.el .addr,.el .bool],fun(x_:SPage×Unit)=>x_.1.bf.length<=1000000000000/\-9223372036854775808<=x_.1.block/\x_.1.block<=9223372036854775807,fun(x_:SPage×Unit)=>((blockedOn x_.1).1,(blockedOn x_.1).2,())⟩
def AlH:=Aiv.a CS<|Fct.o (KP [1,2,3] [10]) Aiv.2 func242 (by
 rintro⟨(p:SPage),_⟩ hp;refine ho (.cl fInRange (p.block,(1:Int),(p.bf.length:Int),()) fun z2=>.br (!z2.1) (.lf CS (default,false,())) (.ob (0<=wr (p.block-(1:Int))/\wr (p.block-(1:Int))<(p.bf.length:Int))<|.lf CS ((p.bf.getD (wr (p.block-(1:Int))).toNat default).to,true,()))) ?_;refine Af trivial fun _=>(Ab (fun h1=>lfY ?_) (fun h1=>Aa ?_ fun o2=>lfY ?_))
 all_goals
  try simp only[Az] at *
  try simp only[CS,fInRange,std,Nat.reduceAdd,blockedOn,fInRange,inRange] at *
  try simp(disch:=omega) only[wrapId',toNat1] at *
  try simp(disch:=omega) only[Qa2,Qa3]
 all_goals first|trivial|omega|grind[wrapId',toNat1,drop_cons,drop_end,good_len,maxLen,blockedOn,fInRange,inRange])
def AlW:=AlH.a CS<|Fct.o (KP [1,2,3,4] [21]) AlH.2 func258 (by
 rintro⟨(p:SPage),_⟩ hp;refine ho (.br (p.block==0) (.lf CS (default,false,())) (.br (decide (wr (p.block-(1:Int))<0)) (.lf CS (default,false,())) (.br (decide (wr (p.block-(1:Int))>=(p.bf.length:Int))) (.lf CS (default,false,())) (.ob (0<=wr (p.block-(1:Int))/\wr (p.block-(1:Int))<(p.bf.length:Int))<|.lf CS ((p.bf.getD (wr (p.block-(1:Int))).toNat default).to,true,()))))) ?_;refine Ab (fun h1=>lfY ?_) (fun h1=>Ab (fun h2=>lfY ?_) (fun h2=>Ab (fun h3=>lfY ?_) (fun h3=>Aa ?_ fun o4=>lfY ?_)));all_goals
  try simp only[Az] at *
  try simp only[CS,std,Nat.reduceAdd,blockedOn] at *
  try simp only[IntKind.wrap_i64] at *
  try simp(disch:=omega) only[Qa2,Qa3]
 all_goals first|trivial|omega|skip
 rw[show((p.block-1+9223372036854775808) % 18446744073709551616-9223372036854775808).toNat=(p.block-1).toNat by omega];trivial)
def classOf (p:SPage) (r:SRequest):Int:=if(blockedOn p).2=true/\(blockedOn p).1=r.to then 0 else if r.kind=3 then 1 else if r.kind=2 then 2 else if r.kind=5 then 3 else if r.kind=4 then 4 else 5
def fClassOf:Fct:=⟨[.v (.el .page),.v (.el .request)],[.el .int],fun(x_:SPage×SRequest×Unit)=>x_.1.bf.length<=1000000000000/\-9223372036854775808<=x_.1.block/\x_.1.block<=9223372036854775807,fun(x_:SPage×SRequest×Unit)=>(classOf x_.1 x_.2.1,())⟩
theorem q0 (p:SPage) (r:SRequest) (hp:fClassOf.pre (p,r,())):Out.holds (fClassOf.ctr (p,r,())).post (let q0_:Out:=.br (r.kind==3) (.lf fClassOf ((1:Int),())) (.br (r.kind==2) (.lf fClassOf ((2:Int),())) (.br (r.kind==5) (.lf fClassOf ((3:Int),())) (.br (r.kind==4) (.lf fClassOf ((4:Int),())) (.lf fClassOf ((5:Int),())))));.cl CS (p,()) fun z2=>.br (z2.2.1) (.br (z2.1.host==r.to.host&&(z2.1.path==r.to.path&&true)) (.lf fClassOf ((0:Int),())) q0_) q0_):=by
 repeat' (guard_target =~ Out.holds _ _;first|refine lfY ?_|refine Ab (fun _=>?_) fun _=>?_|refine Af ?_ fun _=>?_)
 all_goals
  try simp only[DA] at *
  try simp only[Az] at *
  try simp only[CS,fClassOf,std,Nat.reduceAdd,classOf] at *
  try simp(disch:=omega) only[wrapId',toNat1] at *
  try simp(disch:=omega) only[Qa2,Qa3]
 all_goals first|trivial|omega|grind[wrapId',toNat1,drop_cons,drop_end,good_len,maxLen,classOf]
def Ai7:=AlW.a fClassOf<|Fct.o (KP [2,3,4,5,6,20] [18,21,23,25,27]) AlW.2 func157 (by
 rintro⟨(p:SPage),(r:SRequest),_⟩ hp;exact ho _ (q0 p r hp))
def Ahn:=Ai7.a fClassOf<|Fct.o (KP [2,3,4,5,6,20] [18,21,23,25,27]) Ai7.2 func171 (by
 rintro⟨(p:SPage),(r:SRequest),_⟩ hp;exact ho _ (q0 p r hp))
theorem Hm {l:List SNode} {i:Nat} (h:i<l.length):(l.getD i default).bo.length+l.length<=szL szNode l:=by
 have:=Dx szNode h;have h2:=Ad A3 (l.getD i default).bo;simp only[szNode] at this;omega
theorem Ga {l:List SToken} {i:Nat} (h:i<l.length):(l.getD i default).bo.length+l.length<=szL Aj l:=by
 have:=Dx Aj h;have h2:=Ad A3 (l.getD i default).bo;simp only[Aj] at this;omega
def pickReq (p:SPage):List SRequest->Int->Int->Int->Int
 | [],_,best,_=>best
 | r::l,i,best,bc=>if best<0\/classOf p r<bc then pickReq p l (i+1) i (classOf p r) else pickReq p l (i+1) best bc
def BQ:Fct:=⟨[.v (.el .page),.v (.sl .request)],[.el .int],fun(x_:SPage×(List SRequest)×Unit)=>x_.1.bf.length<=1000000000000/\(-9223372036854775808<=x_.1.block/\x_.1.block<=9223372036854775807)/\x_.2.1.length<=1000000000000,fun(x_:SPage×(List SRequest)×Unit)=>(pickReq x_.1 x_.2.1 0 (-1) 0,())⟩
abbrev A7 (p:SPage) (l:(List SRequest)):LInv:=⟨[⟨.s,5,true,.el .int⟩,⟨.s,6,true,.el .int⟩,⟨.b,2,false,.el .page⟩],fun(z_ x_:Int×Int×SPage×Unit)=>(0<=x_.2.1/\x_.2.1<=l.length/\-1<=x_.1/\x_.1<x_.2.1/\(x_.1 = -1->x_.2.1=0)/\pickReq p (l.drop x_.2.1.toNat) x_.2.1 x_.1 (if x_.1<0 then 0 else classOf p (l.getD x_.1.toNat default))=pickReq p l 0 (-1) 0)/\x_.2.2.1=z_.2.2.1,fun(x_:Int×Int×SPage×Unit)=>l.length-x_.2.1.toNat⟩
def AiR:=Ahn.a BQ<|Fct.p (KP [1,2,4,5,6] [10,29]) (fun⟨p,l,_⟩=>lv [(3,A7 p l)]) Ahn.2 func58 (by
 rintro⟨(p:SPage),(l:List SRequest),_⟩ hp;refine ho (let q1_:=Value.int IntKind.i64 0=Value.int IntKind.i64 (0:Int);lpx (A7 p l) ((-1:Int),((0:Int),(p,()))) fun(y1:Int×Int×SPage×PUnit) bk1=>let q0_:Out:=.ob (l=l)<|.ob q1_<|.ob (bk1 (y1.2.1,(w1 y1.2.1,(y1.2.2.1,()))))<|.ok;.br (decide (y1.2.1<(l.length:Int))) (.br (decide (y1.1<0)) q0_ (.ob (inB y1.2.1 l.length)<|.cl fClassOf (y1.2.2.1,l.getD y1.2.1.toNat default,()) fun(z2:Int×PUnit)=>.ob (inB y1.1 l.length)<|.cl fClassOf (y1.2.2.1,l.getD y1.1.toNat default,()) fun(z3:Int×PUnit)=>.br (decide (z2.1<z3.1)) q0_ (.ob (l=l)<|.ob q1_<|.ob (bk1 (y1.1,(w1 y1.2.1,(y1.2.2.1,()))))<|.ok))) (.lf BQ (y1.1,()))) ?_;repeat' first|(guard_target =~ Out.holds _ _;first|refine Ay (li:=A7 p l) ?_ fun(y1:Int×Int×SPage×PUnit) i1=>?_|refine lfY ?_|refine Ab (fun _=>?_) fun _=>?_|refine Af ?_ fun _=>?_|refine Aa ?_ fun _=>?_)|exact trivial
 all_goals
  try simp only[Az] at *
  try simp only[A7,fClassOf,BQ,std,Nat.reduceAdd,pickReq,fClassOf] at *
  try simp(disch:=omega) only[wrapId',toNat1] at *
  try simp(disch:=omega) only[Qa2,Qa3]
 all_goals first|trivial|omega|grind[wrapId',toNat1,drop_cons,drop_end,good_len,maxLen,pickReq,fClassOf])
abbrev A6 (p:SPage) (l:(List SRequest)):LInv:=⟨[⟨.s,5,true,.el .int⟩,⟨.s,10,true,.el .int⟩,⟨.b,2,false,.el .page⟩],fun(z_ x_:Int×Int×SPage×Unit)=>(0<=x_.2.1/\x_.2.1<=l.length/\-1<=x_.1/\x_.1<x_.2.1/\(x_.1 = -1->x_.2.1=0)/\pickReq p (l.drop x_.2.1.toNat) x_.2.1 x_.1 (if x_.1<0 then 0 else classOf p (l.getD x_.1.toNat default))=pickReq p l 0 (-1) 0)/\x_.2.2.1=z_.2.2.1,fun(x_:Int×Int×SPage×Unit)=>l.length-x_.2.1.toNat⟩
def Ajk:=AiR.a BQ<|Fct.p (KP [1,2,4,5,6,7,8,9,10] [11,28]) (fun⟨p,l,_⟩=>lv [(3,A6 p l)]) AiR.2 func65 (by
 rintro⟨(p:SPage),(l:List SRequest),_⟩ hp;refine ho (let q3_:=(l.length:Int);let q2_:=Value.int IntKind.i64 0=Value.int IntKind.i64 (0:Int);let q1_:=Value.int IntKind.i64 q3_=Value.int IntKind.i64 q3_;lpx (A6 p l) ((-1:Int),((0:Int),(p,()))) fun(y1:Int×Int×SPage×PUnit) bk1=>let q0_:Out:=.ob (l=l)<|.ob q2_<|.ob (l=l)<|.ob q1_<|.ob (bk1 (y1.2.1,(w1 y1.2.1,(y1.2.2.1,()))))<|.ok;.br (decide (y1.2.1<q3_)) (.ob (inB y1.2.1 l.length)<|.br (decide (y1.1<0)) q0_ (.cl fClassOf (y1.2.2.1,l.getD y1.2.1.toNat default,()) fun(z2:Int×PUnit)=>.ob (inB y1.1 l.length)<|.cl fClassOf (y1.2.2.1,l.getD y1.1.toNat default,()) fun(z3:Int×PUnit)=>.br (decide (z2.1<z3.1)) q0_ (.ob (l=l)<|.ob q2_<|.ob (l=l)<|.ob q1_<|.ob (bk1 (y1.1,(w1 y1.2.1,(y1.2.2.1,()))))<|.ok))) (.lf BQ (y1.1,()))) ?_;repeat' first|(guard_target =~ Out.holds _ _;first|refine Ay (li:=A6 p l) ?_ fun(y1:Int×Int×SPage×PUnit) i1=>?_|refine lfY ?_|refine Ab (fun _=>?_) fun _=>?_|refine Af ?_ fun _=>?_|refine Aa ?_ fun _=>?_)|exact trivial
 all_goals
  try simp only[Az] at *
  try simp only[A6,fClassOf,BQ,std,Nat.reduceAdd,pickReq,fClassOf] at *
  try simp(disch:=omega) only[wrapId',toNat1] at *
  try simp(disch:=omega) only[Qa2,Qa3]
 all_goals first|trivial|omega|grind[wrapId',toNat1,drop_cons,drop_end,good_len,maxLen,pickReq,fClassOf])
def fCopyAttrs:Fct:=⟨[.v (.sl .attr)],[.sl .attr],fun(x_:(List SAttr)×Unit)=>x_.1.length<=1099511627776,fun(x_:(List SAttr)×Unit)=>(x_.1,())⟩
def AiK:=Ajk.a fCopyAttrs<|Fct.o [0,2] Ajk.2 func267 (by
 rintro⟨(l:List SAttr),_⟩ hp;refine ho (.ob (True)<|.ob (BM (0+List.length l) 32)<|.lf fCopyAttrs ([]++l,())) ?_;refine Aa trivial fun _=>Aa ?_ fun o1=>lfY ?_
 all_goals
  try simp only[Az] at *
  try simp only[fCopyAttrs,std,Nat.reduceAdd] at *
  try simp(disch:=omega) only[wrapId',toNat1] at *
  try simp(disch:=omega) only[Qa2,Qa3]
 all_goals first|trivial|omega|grind[wrapId',toNat1,drop_cons,drop_end,good_len,maxLen])
def fCopyToken:Fct:=⟨[.v (.el .token)],[.el .token],fun(x_:SToken×Unit)=>x_.1.bo.length<=1099511627776,fun(x_:SToken×Unit)=>(x_.1,())⟩
def AjO:=AiK.a fCopyToken<|Fct.o [1,2] AiK.2 func272 (by
 rintro⟨(t:SToken),_⟩ hp;refine ho (.ob (True)<|.ob (BM (0+t.bo.length) 32)<|.lf fCopyToken (⟨t.kind,t.name,[]++t.bo,t.text⟩,())) ?_;refine Aa trivial fun _=>Aa ?_ fun o1=>lfY ?_
 all_goals
  try simp only[Az] at *
  try simp only[fCopyToken,std,Nat.reduceAdd] at *
  try simp(disch:=omega) only[wrapId',toNat1] at *
  try simp(disch:=omega) only[Qa2,Qa3]
 all_goals first|trivial|omega|grind[wrapId',toNat1,drop_cons,drop_end,good_len,maxLen])
def fCopyTokens:Fct:=⟨[.v (.sl .token)],[.sl .token],fun(x_:(List SToken)×Unit)=>szL Aj x_.1<=1099511627776,fun(x_:(List SToken)×Unit)=>(x_.1,())⟩
abbrev B9 (l:(List SToken)):LInv:=⟨[⟨.s,3,true,.sl .token⟩,⟨.s,4,true,.el .int⟩],fun _ (x_:(List SToken)×Int×Unit)=>0<=x_.2.1/\x_.2.1<=l.length/\x_.1=l.take x_.2.1.toNat,fun(x_:(List SToken)×Int×Unit)=>l.length-x_.2.1.toNat⟩
def AiI:=AjO.a fCopyTokens<|Fct.p (KP [0,2,3,4,5] [10]) (fun⟨l,_⟩=>lv [(3,B9 l)]) AjO.2 func189 (by
 rintro⟨(l:List SToken),_⟩ hp;refine ho (lpx (B9 l) ([],((0:Int),())) fun(y1:List SToken×Int×PUnit) bk1=>let q2_:=inB y1.2.1 l.length;let q0_:=l.getD y1.2.1.toNat default;.br (decide (y1.2.1<(l.length:Int))) (.ob q2_<|.ob q2_<|.cl fCopyAttrs (q0_.bo,()) fun z2=>let q1_:=(⟨q0_.kind,q0_.name,z2.1,q0_.text⟩:SToken);.ob (BM (y1.1.length+[q1_].length) 64)<|.ob (l=l)<|.ob (bk1 (y1.1++[q1_],(w1 y1.2.1,())))<|.ok) (.lf fCopyTokens (y1.1,()))) ?_;refine Ay ?_ fun(y1:List SToken×Int×PUnit) i1=>Ab (fun h2=>Aa ?_ fun o3=>Aa ?_ fun o4=>Af ?_ fun o5=>(Aa ?_ fun o6=>Aa rfl fun _=>Aa ?_ fun o7=>trivial)) (fun h2=>lfY ?_)
 all_goals
  have hl:=Ad Aj l;try have hg:=Ga (l:=l) (i:=y1.2.1.toNat)
  try have hg:=Ga (l:=l) (i:=y2.2.1.toNat)
  try simp only[Az] at *
  try simp only[B9,fCopyAttrs,fCopyTokens,std,Nat.reduceAdd,fCopyAttrs,fCopyToken,take_succ,take_end] at *
  try simp(disch:=omega) only[wrapId',toNat1] at *
  try simp(disch:=omega) only[Qa2,Qa3]
 all_goals first|trivial|omega|grind[wrapId',toNat1,drop_cons,drop_end,good_len,maxLen,fCopyAttrs,fCopyToken,take_succ,take_end])
abbrev B3 (l:(List SToken)):LInv:=⟨[⟨.s,3,true,.sl .token⟩,⟨.s,9,true,.el .int⟩],fun _ (x_:(List SToken)×Int×Unit)=>0<=x_.2.1/\x_.2.1<=l.length/\x_.1=l.take x_.2.1.toNat,fun(x_:(List SToken)×Int×Unit)=>l.length-x_.2.1.toNat⟩
def Alt:=AiI.a fCopyTokens<|Fct.p (KP [0,2,3,5,7,8,9] [10]) (fun⟨l,_⟩=>lv [(3,B3 l)]) AiI.2 func204 (by
 rintro⟨(l:List SToken),_⟩ hp;refine ho (lpx (B3 l) ([],((0:Int),())) fun(y1:List SToken×Int×PUnit) bk1=>.br (decide (y1.2.1<(l.length:Int))) (.ob (inB y1.2.1 l.length)<|.cl fCopyToken (l.getD y1.2.1.toNat default,()) fun z2=>.ob (BM (y1.1.length+[z2.1].length) 64)<|.ob (l=l)<|.ob (l=l)<|.ob (Value.int IntKind.i64 (l.length:Int)=Value.int IntKind.i64 (l.length:Int))<|.ob (bk1 (y1.1++[z2.1],(w1 y1.2.1,())))<|.ok) (.lf fCopyTokens (y1.1,()))) ?_;refine Ay ?_ fun(y1:List SToken×Int×PUnit) i1=>Ab (fun h2=>Aa ?_ fun o3=>Af ?_ fun o4=>(Aa ?_ fun o5=>Aa rfl fun _=>Aa rfl fun _=>Aa rfl fun _=>Aa ?_ fun o6=>trivial)) (fun h2=>lfY ?_)
 all_goals
  have hl:=Ad Aj l;try have hg:=Ga (l:=l) (i:=y1.2.1.toNat)
  try have hg:=Ga (l:=l) (i:=y2.2.1.toNat)
  try simp only[Az] at *
  try simp only[B3,fCopyToken,fCopyTokens,std,Nat.reduceAdd,fCopyAttrs,fCopyToken,take_succ,take_end] at *
  try simp(disch:=omega) only[wrapId',toNat1] at *
  try simp(disch:=omega) only[Qa2,Qa3]
 all_goals first|trivial|omega|grind[wrapId',toNat1,drop_cons,drop_end,good_len,maxLen,fCopyAttrs,fCopyToken,take_succ,take_end])
theorem builder_take {b:SBuilder} {n:Nat} (h:b.bi.length<=n):(⟨b.bi.take n,b.bl⟩:SBuilder)=b:=by rw[Qb6 h]
def fCopyBuilder:Fct:=⟨[.v (.el .ba)],[.el .ba],fun(x_:SBuilder×Unit)=>szBuilder x_.1<=1099511627776,fun(x_:SBuilder×Unit)=>(x_.1,())⟩
abbrev CB (b:SBuilder):LInv:=⟨[⟨.b,3,true,.el .ba⟩,⟨.s,4,true,.el .int⟩,⟨.b,1,false,.el .ba⟩,⟨.b,2,true,.el .ba⟩],fun(z_ x_:SBuilder×Int×SBuilder×SBuilder×Unit)=>((0<=x_.2.1/\x_.2.1<=b.bi.length/\x_.1=⟨b.bi.take x_.2.1.toNat,b.bl⟩)/\x_.2.2.1=z_.2.2.1)/\x_.2.2.2.1=z_.2.2.2.1,fun(x_:SBuilder×Int×SBuilder×SBuilder×Unit)=>b.bi.length-x_.2.1.toNat⟩
def AhG:=Alt.a fCopyBuilder<|Fct.p (KP [1,2,3,4,5] [15]) (fun⟨b,_⟩=>lv [(3,CB b)]) Alt.2 func190 (by
 rintro⟨(b:SBuilder),_⟩ hp;refine ho (.ob (True)<|.ob (BM (0+b.bl.length) 8)<|lpx (CB b) ((⟨[],[]++b.bl⟩:SBuilder),((0:Int),(b,(default,())))) fun(y2:SBuilder×Int×SBuilder×SBuilder×PUnit) bk2=>let q2_:=inB y2.2.1 y2.2.2.1.bi.length;let q0_:=y2.2.2.1.bi.getD y2.2.1.toNat default;.br (decide (y2.2.1<(y2.2.2.1.bi.length:Int))) (.ob q2_<|.ob q2_<|.cl fCopyAttrs (q0_.bo,()) fun z2=>let q1_:=(⟨q0_.name,q0_.text,q0_.parent,z2.1⟩:SNode);.ob (BM (y2.1.bi.length+[q1_].length) 64)<|.ob (bk2 ((⟨y2.1.bi++[q1_],y2.1.bl⟩:SBuilder),(w1 y2.2.1,(y2.2.2.1,(y2.2.2.2.1,())))))<|.ok) (.lf fCopyBuilder (y2.1,()))) ?_;refine Aa trivial fun _=>Aa ?_ fun o1=>Ay ?_ fun(y2:SBuilder×Int×SBuilder×SBuilder×PUnit) i2=>Ab (fun h3=>Aa ?_ fun o4=>Aa ?_ fun o5=>Af ?_ fun o6=>(Aa ?_ fun o7=>Aa ?_ fun o8=>trivial)) (fun h3=>lfY ?_)
 all_goals
  have hl:=Ad szNode b.bi;try have hg:=Hm (l:=b.bi) (i:=y1.2.1.toNat)
  try have hg:=Hm (l:=b.bi) (i:=y2.2.1.toNat)
  try simp only[Az] at *
  try simp only[CB,fCopyAttrs,fCopyBuilder,std,Nat.reduceAdd,fCopyAttrs,take_succ,builder_take,szBuilder] at *
  try simp(disch:=omega) only[wrapId',toNat1] at *
  try simp(disch:=omega) only[Qa2,Qa3]
 all_goals first|trivial|omega|grind[wrapId',toNat1,drop_cons,drop_end,good_len,maxLen,fCopyAttrs,take_succ,builder_take,szBuilder])
abbrev BB (b:SBuilder):LInv:=⟨[⟨.b,3,true,.el .ba⟩,⟨.s,14,true,.el .int⟩,⟨.b,2,true,.el .ba⟩],fun(z_ x_:SBuilder×Int×SBuilder×Unit)=>(0<=x_.2.1/\x_.2.1<=b.bi.length/\x_.1=⟨b.bi.take x_.2.1.toNat,b.bl⟩)/\x_.2.2.1=z_.2.2.1,fun(x_:SBuilder×Int×SBuilder×Unit)=>b.bi.length-x_.2.1.toNat⟩
def AjR:=AhG.a fCopyBuilder<|Fct.p (KP [1,2,3,5,12,13,14] [15]) (fun⟨b,_⟩=>lv [(3,BB b)]) AhG.2 func205 (by
 rintro⟨(b:SBuilder),_⟩ hp;refine ho (let q2_:=(b.bi.length:Int);.ob (True)<|.ob (BM (0+b.bl.length) 8)<|lpx (BB b) ((⟨[],[]++b.bl⟩:SBuilder),((0:Int),(default,()))) fun(y2:SBuilder×Int×SBuilder×PUnit) bk2=>let q0_:=b.bi.getD y2.2.1.toNat default;let q1_:=(⟨q0_.name,q0_.text,q0_.parent,[]++q0_.bo⟩:SNode);.br (decide (y2.2.1<q2_)) (.ob (inB y2.2.1 b.bi.length)<|.ob (True)<|.ob (BM (0+q0_.bo.length) 32)<|.ob (BM (y2.1.bi.length+[q1_].length) 64)<|.ob (b.bi=b.bi)<|.ob (Value.int IntKind.i64 q2_=Value.int IntKind.i64 q2_)<|.ob (bk2 ((⟨y2.1.bi++[q1_],y2.1.bl⟩:SBuilder),(w1 y2.2.1,(y2.2.2.1,()))))<|.ok) (.lf fCopyBuilder (y2.1,()))) ?_;refine Aa trivial fun _=>Aa ?_ fun o1=>Ay ?_ fun(y2:SBuilder×Int×SBuilder×PUnit) i2=>Ab (fun h3=>Aa ?_ fun o4=>Aa trivial fun _=>Aa ?_ fun o5=>Aa ?_ fun o6=>Aa rfl fun _=>Aa rfl fun _=>Aa ?_ fun o7=>trivial) (fun h3=>lfY ?_)
 all_goals
  have hl:=Ad szNode b.bi;try have hg:=Hm (l:=b.bi) (i:=y1.2.1.toNat)
  try have hg:=Hm (l:=b.bi) (i:=y2.2.1.toNat)
  try simp only[Az] at *
  try simp only[BB,fCopyBuilder,std,Nat.reduceAdd,fCopyAttrs,take_succ,builder_take,szBuilder] at *
  try simp(disch:=omega) only[wrapId',toNat1] at *
  try simp(disch:=omega) only[Qa2,Qa3]
 all_goals first|trivial|omega|grind[wrapId',toNat1,drop_cons,drop_end,good_len,maxLen,fCopyAttrs,take_succ,builder_take,szBuilder])
def fCopyPolicy:Fct:=⟨[.v (.el .bj)],[.el .bj],fun(x_:SPolicy×Unit)=>szPolicy x_.1<=1099511627776,fun(x_:SPolicy×Unit)=>(x_.1,())⟩
def AkR:=AjR.a fCopyPolicy<|Fct.o [1,2] AjR.2 func188 (by
 rintro⟨(p:SPolicy),_⟩ hp;refine ho (.ob (True)<|.ob (BM p.bp.length 16)<|.ob (True)<|.ob (BM p.styles.length 16)<|.ob (True)<|.ob (BM p.images.length 16)<|.lf fCopyPolicy (p,())) ?_;refine Aa trivial fun _=>Aa ?_ fun o1=>Aa trivial fun _=>Aa ?_ fun o2=>Aa trivial fun _=>Aa ?_ fun o3=>lfY ?_
 all_goals
  have hl1:=Ad Ac p.bp;have hl2:=Ad Ac p.styles;have hl3:=Ad Ac p.images;try simp only[Az] at *
  try simp only[fCopyPolicy,std,Nat.reduceAdd,szPolicy] at *
  try simp(disch:=omega) only[wrapId',toNat1] at *
  try simp(disch:=omega) only[Qa2,Qa3]
 all_goals first|trivial|omega|grind[wrapId',toNat1,drop_cons,drop_end,good_len,maxLen,szPolicy])
def AlV:=AkR.a fCopyPolicy<|Fct.o [1,2] AkR.2 func203 (by
 rintro⟨(p:SPolicy),_⟩ hp;refine ho (.ob (True)<|.ob (BM (0+p.bp.length) 16)<|.ob (True)<|.ob (BM (0+p.styles.length) 16)<|.ob (True)<|.ob (BM (0+p.images.length) 16)<|.lf fCopyPolicy (⟨p.set_,[]++p.bp,[]++p.styles,[]++p.images,p.nonce⟩,())) ?_;refine Aa trivial fun _=>Aa ?_ fun o1=>Aa trivial fun _=>Aa ?_ fun o2=>Aa trivial fun _=>Aa ?_ fun o3=>lfY ?_
 all_goals
  have hl1:=Ad Ac p.bp;have hl2:=Ad Ac p.styles;have hl3:=Ad Ac p.images;try simp only[Az] at *
  try simp only[fCopyPolicy,std,Nat.reduceAdd,szPolicy] at *
  try simp(disch:=omega) only[wrapId',toNat1] at *
  try simp(disch:=omega) only[Qa2,Qa3]
 all_goals first|trivial|omega|grind[wrapId',toNat1,drop_cons,drop_end,good_len,maxLen,szPolicy])
def fCopyPage:Fct:=⟨[.v (.el .page)],[.el .page],fun(x_:SPage×Unit)=>szPage x_.1<=1099511627776,fun(x_:SPage×Unit)=>(x_.1,())⟩
theorem q1 (p:SPage) (hp:fCopyPage.pre (p,())):Out.holds (fCopyPage.ctr (p,())).post (.cl fCopyPolicy (p.bj,()) fun z2=>.cl fCopyTokens (p.bn,()) fun z3=>.cl fCopyBuilder (p.ba,()) fun z4=>.ob (True)<|.ob (BM (0+p.bf.length) 96)<|.ob (True)<|.ob (BM (0+p.bh.length) 64)<|.ob (True)<|.ob (BM (0+p.bg.length) 32)<|.ob (True)<|.ob (BM (0+p.ran.length) 32)<|.ob (True)<|.ob (BM (0+p.log.length) 16)<|.lf fCopyPage (⟨p.addr,z2.1,p.tok,z3.1,p.ended,z4.1,[]++p.bf,[]++p.bh,[]++p.bg,p.block,p.inline,p.bm,p.bq,[]++p.ran,[]++p.log,p.loaded⟩,())):=by
 repeat' first|(guard_target =~ Out.holds _ _;first|refine lfY ?_|refine Af ?_ fun _=>?_|refine Aa ?_ fun _=>?_)|exact trivial
 all_goals
  have hl1:=Ad AF p.bf;have hl2:=Ad Aq p.bh;have hl3:=Ad szAddr p.bg;have hl4:=Ad szAddr p.ran;have hl5:=Ad Ac p.log;try simp only[Az] at *
  try simp only[fCopyBuilder,fCopyPage,fCopyPolicy,fCopyTokens,std,Nat.reduceAdd,szPage,fCopyPolicy,fCopyTokens,fCopyBuilder] at *
  try simp(disch:=omega) only[wrapId',toNat1] at *
  try simp(disch:=omega) only[Qa2,Qa3]
 all_goals first|trivial|omega|grind[wrapId',toNat1,drop_cons,drop_end,good_len,maxLen,szPage,fCopyPolicy,fCopyTokens,fCopyBuilder]
def AlU:=AlV.a fCopyPage<|Fct.o [1,2,3] AlV.2 func83 (by
 rintro⟨(p:SPage),_⟩ hp;exact ho _ (q1 p hp))
def AhA:=AlU.a fCopyPage<|Fct.o [1,2] AlU.2 func101 (by
 rintro⟨(p:SPage),_⟩ hp;exact ho _ (q1 p hp))
def AV:Fct:=⟨[.v (.el .addr),.v (.el .addr)],[.el .int],fun(x_:SAddr×SAddr×Unit)=>True,fun(x_:SAddr×SAddr×Unit)=>(cmpA x_.1 x_.2.1,())⟩
def Amk:=AhA.a AV<|Fct.o (KP [2,3,4] [5,9]) AhA.2 func316 (by
 rintro⟨(a:SAddr),(b:SAddr),_⟩ hp;refine ho (.br (a.host==b.host&&(a.path==b.path&&true)) (.lf AV ((0:Int),())) (.br (Op.bytesLess a.host.toList b.host.toList) (.lf AV ((-1:Int),())) (.br (a.host.toList==b.host.toList) (.br (Op.bytesLess a.path.toList b.path.toList) (.lf AV ((-1:Int),())) (.lf AV ((1:Int),()))) (.lf AV ((1:Int),()))))) ?_;repeat' (guard_target =~ Out.holds _ _;first|refine lfY ?_|refine Ab (fun _=>?_) fun _=>?_)
 all_goals try simp only[DA,Xr,Qa9,Qb2] at *
 all_goals
  have h1:=IT a.host b.host;have h2:=IT a.path b.path;have h3:=UQ a b;have h4:=AcW (a:=a) (b:=b);have h5:=K9 (a:=a.host) (b:=b.host);have h6:=K9 (a:=a.path) (b:=b.path);try simp only[Az] at *
  try simp only[AV,std,Nat.reduceAdd,cmpA] at *
  try simp(disch:=omega) only[wrapId',toNat1] at *
  try simp(disch:=omega) only[Qa2,Qa3]
 all_goals first|trivial|omega|grind[wrapId',toNat1,drop_cons,drop_end,good_len,maxLen,cmpA])
def laysCmp_r:Go.Shelf.Ren:=⟨fun|0=>0|1=>1|2=>2|99=>504|101=>294|103=>288|106=>344|109=>418|110=>380|129=>465|137=>442|138=>385|143=>386|145=>339|146=>287|156=>291|165=>341|166=>342|169=>343|171=>381|172=>453|195=>421|197=>422|205=>487|206=>387|208=>347|210=>338|213=>392|217=>446|218=>423|219=>424|220=>388|221=>337|224=>448|225=>447|240=>390|241=>391|243=>419|244=>462|245=>463|246=>444|247=>472|260=>445|265=>427|266=>458|267=>449|268=>384|276=>425|277=>426|279=>473|280=>474|281=>475|282=>476|283=>454|284=>455|285=>456|286=>457|287=>485|314=>459|316=>486|317=>464|318=>466|319=>467|320=>468|321=>494|322=>495|337=>477|338=>478|347=>513|348=>514|349=>515|350=>516|351=>517|352=>518|353=>519|354=>520|355=>521|356=>522|357=>523|358=>524|359=>525|360=>526|361=>527|362=>528|363=>542|364=>529|365=>530|366=>543|367=>558|_=>0,fun|0=>0|1=>1|2=>2|3=>3|4=>4|5=>5|6=>6|7=>7|8=>8|9=>9|10=>10|11=>11|12=>12|13=>13|14=>14|15=>15|16=>16|17=>17|18=>18|19=>19|20=>20|21=>21|22=>328|23=>338|24=>261|25=>330|27=>385|28=>38|30=>224|31=>31|32=>423|33=>403|34=>283|36=>404|37=>291|43=>149|46=>442|47=>480|51=>456|52=>490|53=>447|54=>448|55=>396|59=>370|60=>371|61=>329|67=>334|69=>432|70=>376|71=>377|72=>378|73=>379|74=>380|75=>381|76=>382|77=>383|80=>384|81=>547|83=>201|84=>441|85=>485|86=>486|94=>568|101=>113|102=>94|103=>368|104=>296|105=>424|106=>425|108=>509|111=>479|113=>369|114=>256|119=>452|127=>407|128=>475|131=>435|137=>453|138=>454|139=>455|143=>527|144=>528|145=>529|146=>457|150=>406|151=>458|164=>426|165=>427|166=>428|167=>484|168=>487|169=>488|170=>489|171=>446|172=>449|173=>450|174=>451|175=>505|176=>506|209=>507|210=>508|211=>476|212=>477|213=>478|214=>526|232=>510|233=>511|238=>542|239=>543|240=>544|241=>545|242=>546|243=>548|244=>549|245=>550|246=>551|247=>552|248=>553|249=>554|_=>0,fun|1=>0|3=>1|4=>2|15=>4|16=>5|17=>3|18=>6|19=>7|_=>0⟩
theorem AdX:Go.Proofs.Lays.n106 Tryz.prog laysCmp_r:=by repeat' first|kernel_rfl|constructor|intro _
def AlS:=Amk.a fCmpStr<|Aeq rfl (Any.strings_Compare AdX)
def AiH:=AlS.a AV<|Fct.o (KP [2,3,4,5] [12]) AlS.2 func292 (by
 rintro⟨(a:SAddr),(b:SAddr),_⟩ hp;refine ho (.cl fCmpStr (a.host,b.host,()) fun(z2:Int×PUnit)=>.br (z2.1 != 0) (.lf AV (z2.1,())) (.cl fCmpStr (a.path,b.path,()) fun(z3:Int×PUnit)=>.lf AV (z3.1,()))) ?_;refine Af trivial fun _=>(Ab (fun h1=>lfY ?_) (fun h1=>Af trivial fun _=>(lfY ?_)))
 all_goals
  try simp only[Az] at *
  try simp only[fCmpStr,AV,std,Nat.reduceAdd,cmpA,fCmpStr] at *
  try simp(disch:=omega) only[wrapId',toNat1] at *
  try simp(disch:=omega) only[Qa2,Qa3]
 all_goals first|trivial|omega|grind[wrapId',toNat1,drop_cons,drop_end,good_len,maxLen,cmpA,fCmpStr])
def Cd:Fct:=⟨[.v (.el .page),.v (.el .addr)],[.el .int],fun(x_:SPage×SAddr×Unit)=>x_.1.bh.length<=1000000000000,fun(x_:SPage×SAddr×Unit)=>(fidx (fun m=>decide (m.to=x_.2.1)) x_.1.bh 0,())⟩
abbrev Dl (p:SPage) (a:SAddr):LInv:=⟨[⟨.s,5,true,.el .int⟩,⟨.b,2,false,.el .page⟩,⟨.b,3,true,.el .addr⟩],fun(z_ x_:Int×SPage×SAddr×Unit)=>((0<=x_.1/\x_.1<=p.bh.length/\fidx (fun m=>decide (m.to=a)) (p.bh.drop x_.1.toNat) x_.1=fidx (fun m=>decide (m.to=a)) p.bh 0)/\x_.2.1=z_.2.1)/\x_.2.2.1=z_.2.2.1,fun(x_:Int×SPage×SAddr×Unit)=>p.bh.length-x_.1.toNat⟩
def AjA:=AiH.a Cd<|Fct.p (KP [2,3,4,5] [10,20]) (fun⟨p,a,_⟩=>lv [(2,Dl p a)]) AiH.2 func248 (by
 rintro⟨(p:SPage),(a:SAddr),_⟩ hp;refine ho (lpx (Dl p a) ((0:Int),(p,(a,()))) fun(y1:Int×SPage×SAddr×PUnit) bk1=>.br (decide (y1.1<(y1.2.1.bh.length:Int))) (.ob (inB y1.1 y1.2.1.bh.length)<|.br ((y1.2.1.bh.getD y1.1.toNat default).to.host==y1.2.2.1.host&&((y1.2.1.bh.getD y1.1.toNat default).to.path==y1.2.2.1.path&&true)) (.lf Cd (y1.1,())) (.ob (bk1 (w1 y1.1,(y1.2.1,(y1.2.2.1,()))))<|.ok)) (.lf Cd ((-1:Int),()))) ?_;refine Ay ?_ fun(y1:Int×SPage×SAddr×PUnit) i1=>Ab (fun h2=>Aa ?_ fun o3=>Ab (fun h4=>lfY ?_) (fun h4=>Aa ?_ fun o5=>trivial)) (fun h2=>lfY ?_)
 all_goals
  try simp only[DA] at *
  try simp only[Az] at *
  try simp only[Dl,Cd,std,Nat.reduceAdd,fidx] at *
  try simp(disch:=omega) only[wrapId',toNat1] at *
  try simp(disch:=omega) only[Qa2,Qa3]
 all_goals first|trivial|omega|grind[wrapId',toNat1,drop_cons,drop_end,good_len,maxLen,fidx])
def fModAt1:Fct:=⟨[.v (.el .module),.p (.el .addr)],[.el .bool],fun(x_:SModule×SAddr×Unit)=>True,fun(x_:SModule×SAddr×Unit)=>(decide (x_.1.to=x_.2.1),())⟩
def AhY:=AjA.a fModAt1<|Fct.o [1,2,3] AjA.2 func283 (by
 rintro⟨(m:SModule),(a:SAddr),_⟩ hp;refine ho (.lf fModAt1 (m.to.host==a.host&&(m.to.path==a.path&&true),())) ?_;refine lfY ?_;all_goals
  try simp only[DA] at *
  try simp only[Az] at *
  try simp only[fModAt1,std,Nat.reduceAdd] at *
  try simp(disch:=omega) only[wrapId',toNat1] at *
  try simp(disch:=omega) only[Qa2,Qa3]
 all_goals first|trivial|omega|grind[wrapId',toNat1,drop_cons,drop_end,good_len,maxLen])
def AP:Fct:=⟨[aL .module,.c 283 [.el .addr]],[rI],fun x=>x.1.length<=1000000000000000000/\∀ c,fModAt1.pre (c,x.2.1),fun x=>(fidx (fun c=>(fModAt1.fn (c,x.2.1)).1) x.1 0,())⟩
abbrev Al (l:(List SModule)) (u:(SAddr×Unit)):LInv:=⟨[⟨.s,8,true,.el .int⟩],fun _ (x_:Int×Unit)=>0<=x_.1/\x_.1<=l.length/\fidx (fun c=>(fModAt1.fn (c,u)).1) l 0=fidx (fun c=>(fModAt1.fn (c,u)).1) (l.drop x_.1.toNat) x_.1,fun(x_:Int×Unit)=>l.length-x_.1.toNat⟩
def Ajx:=AhY.a AP<|Fct.p (KP [0,1,4,5,7,8] [9,16]) (fun⟨l,u,_⟩=>lv [(2,Al l u)]) AhY.2 func282 (by
 rintro⟨(l:List SModule),(u:SAddr×PUnit),_⟩ hp;refine ho (lpx (Al l u) ((0:Int),()) fun(y1:Int×PUnit) bk1=>.br (decide (y1.1<(l.length:Int))) (.ob (inB y1.1 l.length)<|.cl fModAt1 (l.getD y1.1.toNat default,u.1,()) fun z2=>.br (z2.1) (.lf AP (y1.1,())) (.ob (l=l)<|.ob (enc Ty.addr u.1=enc Ty.addr u.1)<|.ob (Value.int IntKind.i64 (l.length:Int)=Value.int IntKind.i64 (l.length:Int))<|.ob (bk1 (w1 y1.1,()))<|.ok)) (.lf AP ((-1:Int),()))) ?_;refine Ay ?_ fun(y1:Int×PUnit) i1=>Ab (fun h2=>Aa ?_ fun o3=>Af trivial fun _=>(Ab (fun h4=>lfY ?_) (fun h4=>Aa rfl fun _=>Aa rfl fun _=>Aa rfl fun _=>Aa ?_ fun o5=>trivial))) (fun h2=>lfY ?_)
 all_goals
  try simp only[Az] at *
  try simp only[Al,AP,fModAt1,std,Nat.reduceAdd] at *
  try have hp2:=hp.2
  try have hp1:=hp.1
 all_goals first|trivial|omega|grind[wrapId',toNat1,drop_cons,drop_end,good_len,maxLen,fidx])
def Akj:=Ajx.a Cd<|Fct.o [2,3,4] Ajx.2 func209 (by
 rintro⟨(p:SPage),(a:SAddr),_⟩ hp;refine ho (.cl AP (p.bh,(a,()),()) fun(z2:Int×PUnit)=>.lf Cd (z2.1,())) ?_;refine Af ?_ fun o1=>(lfY ?_)
 all_goals
  try simp only[Az] at *
  try simp only[AP,Cd,std,Nat.reduceAdd,fModAt1] at *
  try simp(disch:=omega) only[wrapId',toNat1] at *
  try simp(disch:=omega) only[Qa2,Qa3]
 all_goals first|trivial|omega|grind[wrapId',toNat1,drop_cons,drop_end,good_len,maxLen,fModAt1])
theorem GO {l:List SServer} {i:Nat} (h:i<l.length):(l.getD i default).files.length+l.length<=szL AW l:=by
 have:=Dx AW h;have h2:=Ad D2 (l.getD i default).files;simp only[AW] at this;omega
def Adp:Fct:=⟨[aI,aI],[rI],fun _=>True,fun(x:Int×Int×Unit)=>(min x.1 x.2.1,())⟩
def Aiq:=Akj.a Adp<|Fct.o (KP [0,1,4] [7]) Akj.2 func369 (by
 rintro⟨(a:Int),(b:Int),_⟩ hp;refine ho (.br (decide (b<a)) (.lf Adp (b,())) (.lf Adp (a,()))) ?_;refine Ab (fun h1=>lfY ?_) (fun h1=>lfY ?_);all_goals
  try simp only[Az] at *
  try simp only[Adp,std,Nat.reduceAdd] at *
 all_goals first|trivial|omega|(simp_all;done)|(simp_all;omega)|grind)
theorem Ad8 {α:Type} (f:α->Nat) (l m:List α):szL f (l++m)=szL f l+szL f m:=by simp[szL];omega
theorem Og {α:Type} (f:α->Nat) (l:List α) (n:Nat):szL f (l.drop n)<=szL f l:=by
 have h:=Ad8 f (l.take n) (l.drop n);rw[Qd8] at h;omega
def nameByte (b:UInt8):Bool:=97<=b.toNat&&b.toNat<=122
def bts (s:ByteArray):List UInt8:=s.data.toList
theorem Aee (s:ByteArray):(bts s).length=s.size:=rfl
theorem AfQ {s:ByteArray} {i:Nat} (h:i<s.size):(bts s).drop i=s.data.getD i 0::(bts s).drop (i+1):=by
 have h2:i<s.data.size:=h;have e:s.data.getD i 0=s.data[i]:=by unfold Array.getD;rw[dif_pos h2];rfl
 rw[List.drop_eq_getElem_cons (by rw[Aee];exact h),e];rfl
theorem Adi {s:ByteArray} {i:Nat} (h:s.size<=i):(bts s).drop i=[]:=Qb9 h
def allB (p:UInt8->Bool) (l:List UInt8):Bool:=l.all p
theorem allB_at {p:UInt8->Bool} {s:ByteArray} {i:Nat} (h:i<s.size):allB p ((bts s).drop i)=(p (s.data.getD i 0)&&allB p ((bts s).drop (i+1))):=by rw[AfQ h];rfl
theorem allB_end {p:UInt8->Bool} {s:ByteArray} {i:Nat} (h:s.size<=i):allB p ((bts s).drop i)=true:=by rw[Adi h];rfl
def isName (s:ByteArray):Bool:=allB nameByte (bts s)&&decide (1<=s.size/\s.size<=8)
def fIsName:Fct:=⟨[.v (.el .str)],[.el .bool],fun(x_:ByteArray×Unit)=>x_.1.size<=1000000000000000000,fun(x_:ByteArray×Unit)=>(isName x_.1,())⟩
abbrev Do (s:ByteArray):LInv:=⟨[⟨.s,3,true,.el .int⟩],fun _ (x_:Int×Unit)=>0<=x_.1/\x_.1<=s.size/\allB nameByte ((bts s).drop x_.1.toNat)=allB nameByte (bts s),fun(x_:Int×Unit)=>s.size-x_.1.toNat⟩
def Ahz:=Aiq.a fIsName<|Fct.p (KP [0,2,3] [7,19]) (fun⟨s,_⟩=>lv [(2,Do s)]) Aiq.2 func254 (by
 rintro⟨(s:ByteArray),_⟩ hp;refine ho (lpx (Do s) ((0:Int),()) fun(y1:Int×PUnit) bk1=>.br (decide (y1.1<(s.size:Int))) (.ob (0<=y1.1/\y1.1<(s.size:Int))<|.br (decide ((↑(s.data.getD y1.1.toNat 0).toNat:Int)<97)) (.lf fIsName (false,())) (.ob (0<=y1.1/\y1.1<(s.size:Int))<|.br (decide ((↑(s.data.getD y1.1.toNat 0).toNat:Int)>122)) (.lf fIsName (false,())) (.ob (Value.string s=Value.string s)<|.ob (bk1 (w1 y1.1,()))<|.ok))) (.cl fInRange ((s.size:Int),(1:Int),(8:Int),()) fun z2=>.lf fIsName (z2.1,()))) ?_;refine Ay ?_ fun(y1:Int×PUnit) i1=>Ab (fun h2=>Aa ?_ fun o3=>Ab (fun h4=>lfY ?_) (fun h4=>Aa ?_ fun o5=>Ab (fun h6=>lfY ?_) (fun h6=>Aa rfl fun _=>Aa ?_ fun o7=>trivial))) (fun h2=>Af trivial fun _=>(lfY ?_))
 all_goals
  try simp only[Az] at *
  try simp only[Do,fInRange,fIsName,std,Nat.reduceAdd,isName,nameByte,fInRange,inRange,allB_at,allB_end] at *
  try simp(disch:=omega) only[wrapId',toNat1] at *
  try simp(disch:=omega) only[Qa2,Qa3]
 all_goals first|trivial|omega|grind[wrapId',toNat1,good_len,maxLen,isName,nameByte,fInRange,inRange,allB_at,allB_end])
abbrev Dn (s:ByteArray):LInv:=⟨[⟨.s,3,true,.el .int⟩],fun _ (x_:Int×Unit)=>0<=x_.1/\x_.1<=s.size/\allB nameByte ((bts s).drop x_.1.toNat)=allB nameByte (bts s),fun(x_:Int×Unit)=>s.size-x_.1.toNat⟩
def Ail:=Ahz.a fIsName<|Fct.p (KP [0,2,3] [7,19]) (fun⟨s,_⟩=>lv [(2,Dn s)]) Ahz.2 func259 (by
 rintro⟨(s:ByteArray),_⟩ hp;refine ho (lpx (Dn s) ((0:Int),()) fun(y1:Int×PUnit) bk1=>.br (decide (y1.1<(s.size:Int))) (.ob (0<=y1.1/\y1.1<(s.size:Int))<|.br (decide ((↑(s.data.getD y1.1.toNat 0).toNat:Int)<97)) (.lf fIsName (false,())) (.ob (0<=y1.1/\y1.1<(s.size:Int))<|.br (decide ((↑(s.data.getD y1.1.toNat 0).toNat:Int)>122)) (.lf fIsName (false,())) (.ob (Value.string s=Value.string s)<|.ob (bk1 (w1 y1.1,()))<|.ok))) (.cl fInRange ((s.size:Int),(1:Int),(8:Int),()) fun z2=>.lf fIsName (z2.1,()))) ?_;refine Ay ?_ fun(y1:Int×PUnit) i1=>Ab (fun h2=>Aa ?_ fun o3=>Ab (fun h4=>lfY ?_) (fun h4=>Aa ?_ fun o5=>Ab (fun h6=>lfY ?_) (fun h6=>Aa rfl fun _=>Aa ?_ fun o7=>trivial))) (fun h2=>Af trivial fun _=>(lfY ?_))
 all_goals
  try simp only[Az] at *
  try simp only[Dn,fInRange,fIsName,std,Nat.reduceAdd,isName,nameByte,fInRange,inRange,allB_at,allB_end] at *
  try simp(disch:=omega) only[wrapId',toNat1] at *
  try simp(disch:=omega) only[Qa2,Qa3]
 all_goals first|trivial|omega|grind[wrapId',toNat1,good_len,maxLen,isName,nameByte,fInRange,inRange,allB_at,allB_end])
def valByte (b:UInt8):Bool:=(97<=b.toNat&&b.toNat<=122)||(48<=b.toNat&&b.toNat<=57)||b.toNat==47
def isValue (s:ByteArray):Bool:=allB valByte (bts s)&&decide (1<=s.size/\s.size<=20)
def fIsValue:Fct:=⟨[.v (.el .str)],[.el .bool],fun(x_:ByteArray×Unit)=>x_.1.size<=1000000000000000000,fun(x_:ByteArray×Unit)=>(isValue x_.1,())⟩
abbrev B8 (s:ByteArray):LInv:=⟨[⟨.s,3,true,.el .int⟩],fun _ (x_:Int×Unit)=>0<=x_.1/\x_.1<=s.size/\allB valByte ((bts s).drop x_.1.toNat)=allB valByte (bts s),fun(x_:Int×Unit)=>s.size-x_.1.toNat⟩
def Ajv:=Ail.a fIsValue<|Fct.p (KP [0,2,3] [7,37]) (fun⟨s,_⟩=>lv [(2,B8 s)]) Ail.2 func396 (by
 rintro⟨(s:ByteArray),_⟩ hp;refine ho (let q5_:=(s.size:Int);lpx (B8 s) ((0:Int),()) fun(y1:Int×PUnit) bk1=>let q3_:=0<=y1.1/\y1.1<q5_;let q2_:=(↑(s.data.getD y1.1.toNat 0).toNat:Int);let q1_:Out:=.ob (Value.string s=Value.string s)<|.ob (bk1 (w1 y1.1,()))<|.ok;let q4_:Out:=.ob q3_<|.br (q2_ != 47) (.lf fIsValue (false,())) q1_;let q0_:Out:=.ob q3_<|.br (decide (q2_<48)) q4_ (.ob q3_<|.br (decide (q2_>57)) q4_ q1_);.br (decide (y1.1<q5_)) (.ob q3_<|.br (decide (q2_<97)) q0_ (.ob q3_<|.br (decide (q2_>122)) q0_ q1_)) (.cl fInRange (q5_,(1:Int),(20:Int),()) fun z2=>.lf fIsValue (z2.1,()))) ?_;repeat' first|(guard_target =~ Out.holds _ _;first|refine Ay (li:=B8 s) ?_ fun(y1:Int×PUnit) i1=>?_|refine lfY ?_|refine Ab (fun _=>?_) fun _=>?_|refine Af ?_ fun _=>?_|refine Aa ?_ fun _=>?_)|exact trivial
 all_goals
  try simp only[Az] at *
  try simp only[B8,fInRange,fIsValue,std,Nat.reduceAdd,isValue,valByte,fInRange,inRange,allB_at,allB_end] at *
  try simp(disch:=omega) only[wrapId',toNat1] at *
  try simp(disch:=omega) only[Qa2,Qa3]
 all_goals first|trivial|omega|grind[wrapId',toNat1,good_len,maxLen,isValue,valByte,fInRange,inRange,allB_at,allB_end])
abbrev B5 (s:ByteArray):LInv:=⟨[⟨.s,3,true,.el .int⟩],fun _ (x_:Int×Unit)=>0<=x_.1/\x_.1<=s.size/\allB valByte ((bts s).drop x_.1.toNat)=allB valByte (bts s),fun(x_:Int×Unit)=>s.size-x_.1.toNat⟩
def Akv:=Ajv.a fIsValue<|Fct.p (KP [0,2,3] [7,38]) (fun⟨s,_⟩=>lv [(2,B5 s)]) Ajv.2 func379 (by
 rintro⟨(s:ByteArray),_⟩ hp;refine ho (let q6_:=(s.size:Int);let q4_:Out:=.lf fIsValue (false,());lpx (B5 s) ((0:Int),()) fun(y1:Int×PUnit) bk1=>let q3_:=0<=y1.1/\y1.1<q6_;let q2_:=(↑(s.data.getD y1.1.toNat 0).toNat:Int);let q1_:Out:=.ob (Value.string s=Value.string s)<|.ob (bk1 (w1 y1.1,()))<|.ok;let q7_:Out:=.br (!true) q4_ q1_;let q5_:Out:=.ob q3_<|.br (!q2_==47) q4_ q1_;let q0_:Out:=.ob q3_<|.br (decide (q2_>=48)) (.ob q3_<|.br (decide (q2_<=57)) q7_ q5_) q5_;.br (decide (y1.1<q6_)) (.ob q3_<|.br (decide (q2_>=97)) (.ob q3_<|.br (decide (q2_<=122)) q7_ q0_) q0_) (.cl fInRange (q6_,(1:Int),(20:Int),()) fun z2=>.lf fIsValue (z2.1,()))) ?_;repeat' first|(guard_target =~ Out.holds _ _;first|refine Ay (li:=B5 s) ?_ fun(y1:Int×PUnit) i1=>?_|refine lfY ?_|refine Ab (fun _=>?_) fun _=>?_|refine Af ?_ fun _=>?_|refine Aa ?_ fun _=>?_)|exact trivial
 all_goals
  try simp only[Az] at *
  try simp only[B5,fInRange,fIsValue,std,Nat.reduceAdd,isValue,valByte,fInRange,inRange,allB_at,allB_end] at *
  try simp(disch:=omega) only[wrapId',toNat1] at *
  try simp(disch:=omega) only[Qa2,Qa3]
 all_goals first|trivial|omega|grind[wrapId',toNat1,good_len,maxLen,isValue,valByte,fInRange,inRange,allB_at,allB_end])
def fIsAddr:Fct:=⟨[.v (.el .addr)],[.el .bool],fun(x_:SAddr×Unit)=>x_.1.host.size<=1000000000000000000/\x_.1.path.size<=1000000000000000000,fun(x_:SAddr×Unit)=>(isName x_.1.host&&isName x_.1.path,())⟩
theorem q2 (a:SAddr) (hp:fIsAddr.pre (a,())):Out.holds (fIsAddr.ctr (a,())).post (.cl fIsName (a.host,()) fun z2=>.br (z2.1) (.cl fIsName (a.path,()) fun z3=>.lf fIsAddr (z3.1,())) (.lf fIsAddr (false,()))):=by
 refine Af ?_ fun o1=>(Ab (fun h2=>Af ?_ fun o3=>(lfY ?_)) (fun h2=>lfY ?_))
 all_goals
  try simp only[Az] at *
  try simp only[fIsAddr,fIsName,std,Nat.reduceAdd,fIsName] at *
  try simp(disch:=omega) only[wrapId',toNat1] at *
  try simp(disch:=omega) only[Qa2,Qa3]
 all_goals first|trivial|omega|grind[wrapId',toNat1,drop_cons,drop_end,good_len,maxLen,fIsName]
def AjJ:=Akv.a fIsAddr<|Fct.o [1,2] Akv.2 func166 (by
 rintro⟨(a:SAddr),_⟩ hp;exact ho _ (q2 a hp))
def Ain:=AjJ.a fIsAddr<|Fct.o [1,2] AjJ.2 func173 (by
 rintro⟨(a:SAddr),_⟩ hp;exact ho _ (q2 a hp))
theorem On {l:List ByteArray} {i:Nat} (h:i<l.length):(l.getD i default).size+l.length<=szL Ac l:=by
 have:=Dx Ac h;simp only[Ac] at this;omega
def fNames:Fct:=⟨[.v (.sl .str)],[.el .bool],fun(x_:(List ByteArray)×Unit)=>szL Ac x_.1<=1099511627776,fun(x_:(List ByteArray)×Unit)=>(x_.1.all isName&&decide (x_.1.length<=4),())⟩
abbrev Dm (l:(List ByteArray)):LInv:=⟨[⟨.s,3,true,.el .int⟩],fun _ (x_:Int×Unit)=>0<=x_.1/\x_.1<=l.length/\(l.drop x_.1.toNat).all isName=l.all isName,fun(x_:Int×Unit)=>l.length-x_.1.toNat⟩
def Akh:=Ain.a fNames<|Fct.p (KP [0,2,3] [7,15]) (fun⟨l,_⟩=>lv [(2,Dm l)]) Ain.2 func395 (by
 rintro⟨(l:List ByteArray),_⟩ hp;refine ho (lpx (Dm l) ((0:Int),()) fun(y1:Int×PUnit) bk1=>.br (decide (y1.1<(l.length:Int))) (.ob (inB y1.1 l.length)<|.cl fIsName (l.getD y1.1.toNat default,()) fun z2=>.br (!z2.1) (.lf fNames (false,())) (.ob (l=l)<|.ob (bk1 (w1 y1.1,()))<|.ok)) (.lf fNames (decide ((l.length:Int)<=4),()))) ?_;refine Ay ?_ fun(y1:Int×PUnit) i1=>Ab (fun h2=>Aa ?_ fun o3=>Af ?_ fun o4=>(Ab (fun h5=>lfY ?_) (fun h5=>Aa rfl fun _=>Aa ?_ fun o6=>trivial))) (fun h2=>lfY ?_)
 all_goals
  have hl:=Ad Ac l;have hg:∀ i,i<l.length->(l.getD i default).size<=1000000000000000000:=fun i h=>by have:=On h;have hp2:szL Ac l<=1099511627776:=hp;omega
  try simp only[Az] at *
  try simp only[Dm,fIsName,fNames,std,Nat.reduceAdd,fIsName] at *
  try simp(disch:=omega) only[wrapId',toNat1] at *
  try simp(disch:=omega) only[Qa2,Qa3]
 all_goals first|trivial|omega|grind[wrapId',toNat1,drop_cons,drop_end,good_len,maxLen,fIsName])
def fAreHosts1:Fct:=⟨[.v (.el .str)],[.el .bool],fun(x_:ByteArray×Unit)=>x_.1.size<=1000000000000000000,fun(x_:ByteArray×Unit)=>(!isName x_.1,())⟩
def Ah7:=Akh.a fAreHosts1<|Fct.o [0,2] Akh.2 func430 (by
 rintro⟨(s:ByteArray),_⟩ hp;refine ho (.cl fIsName (s,()) fun z2=>.lf fAreHosts1 (!z2.1,())) ?_;refine Af ?_ fun o1=>(lfY ?_)
 all_goals
  try simp only[Az] at *
  try simp only[fAreHosts1,fIsName,std,Nat.reduceAdd,fIsName] at *
  try simp(disch:=omega) only[wrapId',toNat1] at *
  try simp(disch:=omega) only[Qa2,Qa3]
 all_goals first|trivial|omega|grind[wrapId',toNat1,drop_cons,drop_end,good_len,maxLen,fIsName])
def AR:Fct:=⟨[aL .str,.c 430 []],[rI],fun x=>x.1.length<=1000000000000000000/\∀ i,i<x.1.length->fAreHosts1.pre (x.1.getD i default,x.2.1),fun x=>(fidx (fun c=>(fAreHosts1.fn (c,x.2.1)).1) x.1 0,())⟩
abbrev Av (l:(List ByteArray)) (u:(Unit)):LInv:=⟨[⟨.s,8,true,.el .int⟩],fun _ (x_:Int×Unit)=>0<=x_.1/\x_.1<=l.length/\fidx (fun c=>(fAreHosts1.fn (c,u)).1) l 0=fidx (fun c=>(fAreHosts1.fn (c,u)).1) (l.drop x_.1.toNat) x_.1,fun(x_:Int×Unit)=>l.length-x_.1.toNat⟩
def Akl:=Ah7.a AR<|Fct.p (KP [0,1,4,5,7,8] [9,16]) (fun⟨l,u,_⟩=>lv [(2,Av l u)]) Ah7.2 func450 (by
 rintro⟨(l:List ByteArray),(u:PUnit),_⟩ hp;refine ho (lpx (Av l u) ((0:Int),()) fun(y1:Int×PUnit) bk1=>.br (decide (y1.1<(l.length:Int))) (.ob (inB y1.1 l.length)<|.cl fAreHosts1 (l.getD y1.1.toNat default,()) fun z2=>.br (z2.1) (.lf AR (y1.1,())) (.ob (l=l)<|.ob (Value.int IntKind.i64 (l.length:Int)=Value.int IntKind.i64 (l.length:Int))<|.ob (bk1 (w1 y1.1,()))<|.ok)) (.lf AR ((-1:Int),()))) ?_;refine Ay ?_ fun(y1:Int×PUnit) i1=>Ab (fun h2=>Aa ?_ fun o3=>Af ?_ fun o4=>(Ab (fun h5=>lfY ?_) (fun h5=>Aa rfl fun _=>Aa rfl fun _=>Aa ?_ fun o6=>trivial))) (fun h2=>lfY ?_)
 all_goals
  try simp only[Az] at *
  try simp only[Av,fAreHosts1,AR,std,Nat.reduceAdd] at *
  try have hp2:=hp.2
  try have hp1:=hp.1
 all_goals first|trivial|omega|exact hp2 _ (by omega)|grind[wrapId',toNat1,drop_cons,drop_end,good_len,maxLen,fidx])
def fContainsFunc_str_impl_areHosts_1:Fct:=⟨[aL .str,.c 430 []],[rB],fun x=>x.1.length<=1000000000000000000/\∀ i,i<x.1.length->fAreHosts1.pre (x.1.getD i default,x.2.1),fun x=>(x.1.any (fun c=>(fAreHosts1.fn (c,x.2.1)).1),())⟩
def Alr:=Akl.a fContainsFunc_str_impl_areHosts_1<|Fct.o [0,1,4] Akl.2 func429 (by
 rintro⟨(l:List ByteArray),(u:PUnit),_⟩ hp;refine ho (.cl AR (l,(),()) fun(z2:Int×PUnit)=>.lf fContainsFunc_str_impl_areHosts_1 (decide (z2.1>=0),())) ?_;refine Af ?_ fun o1=>(lfY ?_)
 all_goals
  try simp only[Az] at *
  try simp only[fContainsFunc_str_impl_areHosts_1,AR,std,Nat.reduceAdd] at *
 all_goals first|trivial|omega|exact hp|(rw[Bool.eq_iff_iff];exact decide_eq_true_iff.trans (P5 _ _ _ (by omega))))
def Aku:=Alr.a fNames<|Fct.o [0,2] Alr.2 func394 (by
 rintro⟨(l:List ByteArray),_⟩ hp;refine ho (.br (decide ((↑(List.length l):Int)<=4)) (.cl fContainsFunc_str_impl_areHosts_1 (l,(),()) fun z2=>.lf fNames (!z2.1,())) (.lf fNames (false,()))) ?_;refine Ab (fun h1=>Af ?_ fun o2=>(lfY ?_)) (fun h1=>lfY ?_);all_goals
  have hl:=Ad Ac l;have hg:∀ i,i<l.length->(l.getD i default).size<=1000000000000000000:=fun i h=>by have:=On h;have hp2:szL Ac l<=1099511627776:=hp;omega
  have ha:(l.any fun c=>!isName c) = !(l.all isName):=by simp[List.any_eq_not_all_not]
  try simp only[Az] at *
  try simp only[fContainsFunc_str_impl_areHosts_1,fNames,std,Nat.reduceAdd,fContainsFunc_str_impl_areHosts_1,fAreHosts1] at *
  try simp(disch:=omega) only[wrapId',toNat1] at *
  try simp(disch:=omega) only[Qa2,Qa3]
 all_goals first|trivial|omega|grind[wrapId',toNat1,drop_cons,drop_end,good_len,maxLen,fContainsFunc_str_impl_areHosts_1,fAreHosts1])
def isPolicy (p:SPolicy):Bool:=if p.set_ then p.bp.all isName&&decide (p.bp.length<=4)&&(p.styles.all isName&&decide (p.styles.length<=4))&&(p.images.all isName&&decide (p.images.length<=4))&&(decide (p.nonce=⟨#[]⟩)||isValue p.nonce) else decide (p.bp.length=0/\p.styles.length=0/\p.images.length=0/\p.nonce=⟨#[]⟩)
def Bu:Fct:=⟨[.v (.el .bj)],[.el .bool],fun(x_:SPolicy×Unit)=>szPolicy x_.1<=1099511627776,fun(x_:SPolicy×Unit)=>(isPolicy x_.1,())⟩
theorem q3 (p:SPolicy) (hp:Bu.pre (p,())):Out.holds (Bu.ctr (p,())).post (.br (!p.set_) (.br ((p.bp.length:Int)==0) (.br ((p.styles.length:Int)==0) (.br ((p.images.length:Int)==0) (.lf Bu (p.nonce.toList==(⟨#[]⟩:ByteArray).toList,())) (.lf Bu (false,()))) (.lf Bu (false,()))) (.lf Bu (false,()))) (.cl fNames (p.bp,()) fun z2=>.br (z2.1) (.cl fNames (p.styles,()) fun z3=>.br (z3.1) (.cl fNames (p.images,()) fun z4=>.br (z4.1) (.br (p.nonce.toList==(⟨#[]⟩:ByteArray).toList) (.lf Bu (true,())) (.cl fIsValue (p.nonce,()) fun z5=>.lf Bu (z5.1,()))) (.lf Bu (false,()))) (.lf Bu (false,()))) (.lf Bu (false,())))):=by
 repeat' (guard_target =~ Out.holds _ _;first|refine lfY ?_|refine Ab (fun _=>?_) fun _=>?_|refine Af ?_ fun _=>?_)
 all_goals
  try simp only[Az] at *
  try simp only[Bu,fIsValue,fNames,std,Nat.reduceAdd,isPolicy,fNames,fIsValue,szPolicy] at *
  try simp(disch:=omega) only[wrapId',toNat1] at *
  try simp(disch:=omega) only[Qa2,Qa3]
 all_goals first|trivial|omega|grind[wrapId',toNat1,drop_cons,drop_end,good_len,maxLen,isPolicy,fNames,fIsValue,szPolicy]
def AiA:=Aku.a Bu<|Fct.o (KP [1,2] [5]) Aku.2 func351 (by
 rintro⟨(p:SPolicy),_⟩ hp;exact ho _ (q3 p hp))
def AkA:=AiA.a Bu<|Fct.o (KP [1,2] [5]) AiA.2 func348 (by
 rintro⟨(p:SPolicy),_⟩ hp;exact ho _ (q3 p hp))
def fAllows:Fct:=⟨[.v (.el .bj),.v (.el .int),.v (.el .str)],[.el .bool],fun(x_:SPolicy×Int×ByteArray×Unit)=>szPolicy x_.1<=1099511627776,fun(x_:SPolicy×Int×ByteArray×Unit)=>(!x_.1.set_||(if x_.2.1=2\/x_.2.1=5 then x_.1.bp.any (fun c=>decide (c=x_.2.2.1)) else if x_.2.1=3 then x_.1.styles.any (fun c=>decide (c=x_.2.2.1)) else if x_.2.1=4 then x_.1.images.any (fun c=>decide (c=x_.2.2.1)) else false),())⟩
def Aj8:=AkA.a fAllows<|Fct.o (KP [1,2,3,6] [7,11,22,29]) AkA.2 func364 (by
 rintro⟨(p:SPolicy),(k:Int),(h:ByteArray),_⟩ hp;refine ho (.br (!p.set_) (.lf fAllows (true,())) (.br (k==2) (.cl fHas9 (p.bp,h,()) fun z2=>.lf fAllows (z2.1,())) (.br (k==5) (.cl fHas9 (p.bp,h,()) fun z3=>.lf fAllows (z3.1,())) (.br (k==3) (.cl fHas9 (p.styles,h,()) fun z4=>.lf fAllows (z4.1,())) (.br (k==4) (.cl fHas9 (p.images,h,()) fun z5=>.lf fAllows (z5.1,())) (.lf fAllows (false,()))))))) ?_;repeat' (guard_target =~ Out.holds _ _;first|refine lfY ?_|refine Ab (fun _=>?_) fun _=>?_|refine Af ?_ fun _=>?_)
 all_goals
  have hl1:=Ad Ac p.bp;have hl2:=Ad Ac p.styles;have hl3:=Ad Ac p.images;try simp only[Az] at *
  try simp only[fAllows,fHas9,std,Nat.reduceAdd,fHas9,fContains_str,szPolicy] at *
  try simp(disch:=omega) only[wrapId',toNat1] at *
  try simp(disch:=omega) only[Qa2,Qa3]
 all_goals first|trivial|omega|grind[wrapId',toNat1,drop_cons,drop_end,good_len,maxLen,fHas9,fContains_str,szPolicy])
def Ai6:=Aj8.a fAllows<|Fct.o (KP [1,2,3,6,10,11] [9,18,24]) Aj8.2 func334 (by
 rintro⟨(p:SPolicy),(k:Int),(h:ByteArray),_⟩ hp;refine ho (let q1_:Out:=.cl fContains_str (p.bp,h,()) fun z2=>.lf fAllows (z2.1,());let q0_:Out:=.br (k==3) (.cl fContains_str (p.styles,h,()) fun z3=>.lf fAllows (z3.1,())) (.br (k==4) (.cl fContains_str (p.images,h,()) fun z4=>.lf fAllows (z4.1,())) (.lf fAllows (false,())));.br (!p.set_) (.lf fAllows (true,())) (.br (k==2) (.br (k==2) q1_ q0_) (.br (k==5) q1_ q0_))) ?_;repeat' (guard_target =~ Out.holds _ _;first|refine lfY ?_|refine Ab (fun _=>?_) fun _=>?_|refine Af ?_ fun _=>?_)
 all_goals
  have hl1:=Ad Ac p.bp;have hl2:=Ad Ac p.styles;have hl3:=Ad Ac p.images;try simp only[Az] at *
  try simp only[fAllows,fContains_str,std,Nat.reduceAdd,fHas9,fContains_str,szPolicy] at *
  try simp(disch:=omega) only[wrapId',toNat1] at *
  try simp(disch:=omega) only[Qa2,Qa3]
 all_goals first|trivial|omega|grind[wrapId',toNat1,drop_cons,drop_end,good_len,maxLen,fHas9,fContains_str,szPolicy])
def isRequest (r:SRequest):Bool:=inRange r.kind 1 5&&(isName r.to.host&&isName r.to.path)&&isName r.from_&&(decide (r.digest=⟨#[]⟩)||isValue r.digest)
def fIsRequest:Fct:=⟨[.v (.el .request)],[.el .bool],fun(x_:SRequest×Unit)=>szRequest x_.1<=1099511627776,fun(x_:SRequest×Unit)=>(isRequest x_.1,())⟩
theorem q4 (r:SRequest) (hp:fIsRequest.pre (r,())):Out.holds (fIsRequest.ctr (r,())).post (.cl fInRange (r.kind,(1:Int),(5:Int),()) fun z2=>.br (z2.1) (.cl fIsAddr (r.to,()) fun z3=>.br (z3.1) (.cl fIsName (r.from_,()) fun z4=>.br (z4.1) (.br (r.digest.toList==(⟨#[]⟩:ByteArray).toList) (.lf fIsRequest (true,())) (.cl fIsValue (r.digest,()) fun z5=>.lf fIsRequest (z5.1,()))) (.lf fIsRequest (false,()))) (.lf fIsRequest (false,()))) (.lf fIsRequest (false,()))):=by
 repeat' first|(guard_target =~ Out.holds _ _;first|refine lfY ?_|refine Ab (fun _=>?_) fun _=>?_|refine Af ?_ fun _=>?_)|exact trivial
 all_goals
  try simp only[Az] at *
  try simp only[fInRange,fIsAddr,fIsName,fIsRequest,fIsValue,std,Nat.reduceAdd,isRequest,fIsName,fIsAddr,fIsValue,fInRange,szRequest,szAddr] at *
  try simp(disch:=omega) only[wrapId',toNat1] at *
  try simp(disch:=omega) only[Qa2,Qa3]
 all_goals first|trivial|omega|grind[wrapId',toNat1,drop_cons,drop_end,good_len,maxLen,isRequest,fIsName,fIsAddr,fIsValue,fInRange,szRequest,szAddr]
def Aip:=Ai6.a fIsRequest<|Fct.o [1,2] Ai6.2 func363 (by
 rintro⟨(r:SRequest),_⟩ hp;exact ho _ (q4 r hp))
def AhT:=Aip.a fIsRequest<|Fct.o [1,2] Aip.2 func333 (by
 rintro⟨(r:SRequest),_⟩ hp;exact ho _ (q4 r hp))
def allows (p:SPolicy) (k:Int) (h:ByteArray):Bool:=(fAllows.fn (p,k,h,())).1
def checkRequest (p:SPolicy) (r:SRequest):Int:=if isRequest r&&(decide (r.kind=1)||allows p r.kind r.to.host) then 1 else 2
def fCheckRequest:Fct:=⟨[.v (.el .bj),.v (.el .request)],[.el .int],fun(x_:SPolicy×SRequest×Unit)=>szPolicy x_.1<=1099511627776/\szRequest x_.2.1<=1099511627776,fun(x_:SPolicy×SRequest×Unit)=>(checkRequest x_.1 x_.2.1,())⟩
theorem q5 (p:SPolicy) (r:SRequest) (hp:fCheckRequest.pre (p,r,())):Out.holds (fCheckRequest.ctr (p,r,())).post (.cl fIsRequest (r,()) fun z2=>.br (!z2.1) (.lf fCheckRequest ((2:Int),())) (.br (r.kind != 1) (.cl fAllows (p,r.kind,r.to.host,()) fun z3=>.br (!z3.1) (.lf fCheckRequest ((2:Int),())) (.lf fCheckRequest ((1:Int),()))) (.lf fCheckRequest ((1:Int),())))):=by
 refine Af ?_ fun o1=>(Ab (fun h2=>lfY ?_) (fun h2=>Ab (fun h3=>Af ?_ fun o4=>(Ab (fun h5=>lfY ?_) (fun h5=>lfY ?_))) (fun h3=>lfY ?_)))
 all_goals
  try simp only[Az] at *
  try simp only[fAllows,fCheckRequest,fIsRequest,std,Nat.reduceAdd,checkRequest,allows,fAllows,fIsRequest] at *
  try simp(disch:=omega) only[wrapId',toNat1] at *
  try simp(disch:=omega) only[Qa2,Qa3]
 all_goals first|trivial|omega|grind[wrapId',toNat1,drop_cons,drop_end,good_len,maxLen,checkRequest,allows,fAllows,fIsRequest]
def AiT:=AhT.a fCheckRequest<|Fct.o (KP [2,3,4] [22]) AhT.2 func312 (by
 rintro⟨(p:SPolicy),(r:SRequest),_⟩ hp;exact ho _ (q5 p r hp))
def AjE:=AiT.a fCheckRequest<|Fct.o (KP [2,3,4] [22]) AiT.2 func284 (by
 rintro⟨(p:SPolicy),(r:SRequest),_⟩ hp;exact ho _ (q5 p r hp))
def fFitsKind:Fct:=⟨[.v (.el .bd),.v (.el .int)],[.el .bool],fun(x_:SResponse×Int×Unit)=>True,fun(x_:SResponse×Int×Unit)=>(decide (x_.1.kind=x_.2.1)||decide (x_.2.1=5/\x_.1.kind=2),())⟩
theorem q6 (x:SResponse) (k:Int) (hp:fFitsKind.pre (x,k,())):Out.holds (fFitsKind.ctr (x,k,())).post (.br (x.kind==k) (.lf fFitsKind (true,())) (.br (k==5) (.lf fFitsKind (x.kind==2,())) (.lf fFitsKind (false,())))):=by
 refine Ab (fun h1=>lfY ?_) (fun h1=>Ab (fun h2=>lfY ?_) (fun h2=>lfY ?_));all_goals
  try simp only[Az] at *
  try simp only[fFitsKind,std,Nat.reduceAdd] at *
  try simp(disch:=omega) only[wrapId',toNat1] at *
  try simp(disch:=omega) only[Qa2,Qa3]
 all_goals first|trivial|omega|grind[wrapId',toNat1,drop_cons,drop_end,good_len,maxLen]
def AiX:=AjE.a fFitsKind<|Fct.o [1,2,4] AjE.2 func313 (by
 rintro⟨(x:SResponse),(k:Int),_⟩ hp;exact ho _ (q6 x k hp))
def Ale:=AiX.a fFitsKind<|Fct.o [1,2,4] AiX.2 func285 (by
 rintro⟨(x:SResponse),(k:Int),_⟩ hp;exact ho _ (q6 x k hp))
def notFound:SResponse:=⟨404,1,⟨#[]⟩,0,false,⟨#[]⟩⟩
def fNotFound:Fct:=⟨[],[rE .bd],fun _=>True,fun _=>(notFound,())⟩
def AkI:=Ale.a fNotFound<|Fct.o [0] Ale.2 func159 (by
 rintro⟨_⟩ hp;refine ho (.lf fNotFound (⟨(404:Int),(1:Int),(⟨#[]⟩:ByteArray),(0:Int),false,(⟨#[]⟩:ByteArray)⟩,())) ?_;refine lfY ?_;all_goals
  try simp only[Az] at *
  try simp only[fNotFound,std,Nat.reduceAdd] at *
 all_goals first|trivial|omega|(simp_all;done)|(simp_all;omega)|grind)
def Al2:=AkI.a fNotFound<|Fct.o [0] AkI.2 func172 (by
 rintro⟨_⟩ hp;refine ho (.lf fNotFound (⟨(404:Int),(1:Int),(⟨#[]⟩:ByteArray),(0:Int),false,(⟨#[]⟩:ByteArray)⟩,())) ?_;refine lfY ?_;all_goals
  try simp only[Az] at *
  try simp only[fNotFound,std,Nat.reduceAdd] at *
 all_goals first|trivial|omega|(simp_all;done)|(simp_all;omega)|grind)
def fCopyServers:Fct:=⟨[.v (.sl .server)],[.sl .server],fun(x_:(List SServer)×Unit)=>szL AW x_.1<=68719476736,fun(x_:(List SServer)×Unit)=>(x_.1,())⟩
abbrev Ct (l:(List SServer)):LInv:=⟨[⟨.s,3,true,.sl .server⟩,⟨.s,4,true,.el .int⟩],fun _ (x_:(List SServer)×Int×Unit)=>0<=x_.2.1/\x_.2.1<=l.length/\x_.1=l.take x_.2.1.toNat,fun(x_:(List SServer)×Int×Unit)=>l.length-x_.2.1.toNat⟩
def Alh:=Al2.a fCopyServers<|Fct.p (KP [0,2,3,4] [9]) (fun⟨l,_⟩=>lv [(3,Ct l)]) Al2.2 func186 (by
 rintro⟨(l:List SServer),_⟩ hp;refine ho (lpx (Ct l) ([],((0:Int),())) fun(y1:List SServer×Int×PUnit) bk1=>.br (decide (y1.2.1<(l.length:Int))) (.ob (inB y1.2.1 l.length)<|.ob (inB y1.2.1 l.length)<|.ob (True)<|.ob (BM (l.getD y1.2.1.toNat default).files.length 80)<|.ob (BM (y1.1.length+[l.getD y1.2.1.toNat default].length) 40)<|.ob (l=l)<|.ob (bk1 (y1.1++[l.getD y1.2.1.toNat default],(w1 y1.2.1,())))<|.ok) (.lf fCopyServers (y1.1,()))) ?_;refine Ay ?_ fun(y1:List SServer×Int×PUnit) i1=>Ab (fun h2=>Aa ?_ fun o3=>Aa ?_ fun o4=>Aa trivial fun _=>Aa ?_ fun o5=>Aa ?_ fun o6=>Aa rfl fun _=>Aa ?_ fun o7=>trivial) (fun h2=>lfY ?_)
 all_goals
  have hl:=Ad AW l;have hg:∀ i,i<l.length->(l.getD i default).files.length<=68719476736:=fun i h=>by have:=GO h;have hp2:szL AW l<=68719476736:=hp;omega
  try simp only[Az] at *
  try simp only[Ct,fCopyServers,std,Nat.reduceAdd,take_succ,take_end] at *
  try simp(disch:=omega) only[wrapId',toNat1] at *
  try simp(disch:=omega) only[Qa2,Qa3]
 all_goals first|trivial|omega|grind[wrapId',toNat1,drop_cons,drop_end,good_len,maxLen,take_succ,take_end])
abbrev BH (l:(List SServer)):LInv:=⟨[⟨.s,3,true,.sl .server⟩,⟨.s,9,true,.el .int⟩],fun _ (x_:(List SServer)×Int×Unit)=>0<=x_.2.1/\x_.2.1<=l.length/\x_.1=l.take x_.2.1.toNat,fun(x_:(List SServer)×Int×Unit)=>l.length-x_.2.1.toNat⟩
def Aju:=Alh.a fCopyServers<|Fct.p (KP [0,2,3,5,7,8,9] [10]) (fun⟨l,_⟩=>lv [(3,BH l)]) Alh.2 func201 (by
 rintro⟨(l:List SServer),_⟩ hp;refine ho (lpx (BH l) ([],((0:Int),())) fun(y1:List SServer×Int×PUnit) bk1=>.br (decide (y1.2.1<(l.length:Int))) (.ob (inB y1.2.1 l.length)<|.ob (True)<|.ob (BM (l.getD y1.2.1.toNat default).files.length 80)<|.ob (BM (y1.1.length+[l.getD y1.2.1.toNat default].length) 40)<|.ob (l=l)<|.ob (l=l)<|.ob (Value.int IntKind.i64 (l.length:Int)=Value.int IntKind.i64 (l.length:Int))<|.ob (bk1 (y1.1++[l.getD y1.2.1.toNat default],(w1 y1.2.1,())))<|.ok) (.lf fCopyServers (y1.1,()))) ?_;refine Ay ?_ fun(y1:List SServer×Int×PUnit) i1=>Ab (fun h2=>Aa ?_ fun o3=>Aa trivial fun _=>Aa ?_ fun o4=>Aa ?_ fun o5=>Aa rfl fun _=>Aa rfl fun _=>Aa rfl fun _=>Aa ?_ fun o6=>trivial) (fun h2=>lfY ?_)
 all_goals
  have hl:=Ad AW l;have hg:∀ i,i<l.length->(l.getD i default).files.length<=68719476736:=fun i h=>by have:=GO h;have hp2:szL AW l<=68719476736:=hp;omega
  try simp only[Az] at *
  try simp only[BH,fCopyServers,std,Nat.reduceAdd,take_succ,take_end] at *
  try simp(disch:=omega) only[wrapId',toNat1] at *
  try simp(disch:=omega) only[Qa2,Qa3]
 all_goals first|trivial|omega|grind[wrapId',toNat1,drop_cons,drop_end,good_len,maxLen,take_succ,take_end])
def fCopyCache:Fct:=⟨[.v (.el .cache)],[.el .cache],fun(x_:SCache×Unit)=>szCache x_.1<=68719476736,fun(x_:SCache×Unit)=>(x_.1,())⟩
theorem q7 (c:SCache) (hp:fCopyCache.pre (c,())):Out.holds (fCopyCache.ctr (c,())).post (.ob (True)<|.ob (BM (0+c.bg.length) 120)<|.lf fCopyCache (⟨[]++c.bg⟩,())):=by
 refine Aa trivial fun _=>Aa ?_ fun o1=>lfY ?_
 all_goals
  have hl:=Ad AK c.bg;try simp only[Az] at *
  try simp only[fCopyCache,std,Nat.reduceAdd,szCache] at *
  try simp(disch:=omega) only[wrapId',toNat1] at *
  try simp(disch:=omega) only[Qa2,Qa3]
 all_goals first|trivial|omega|grind[wrapId',toNat1,drop_cons,drop_end,good_len,maxLen,szCache]
def Al0:=Aju.a fCopyCache<|Fct.o [1,2] Aju.2 func187 (by
 rintro⟨(c:SCache),_⟩ hp;exact ho _ (q7 c hp))
def Aky:=Al0.a fCopyCache<|Fct.o [1,2] Al0.2 func202 (by
 rintro⟨(c:SCache),_⟩ hp;exact ho _ (q7 c hp))
def fCopyNet:Fct:=⟨[.v (.el .net)],[.el .net],fun(x_:SNet×Unit)=>szNet x_.1<=68719476736,fun(x_:SNet×Unit)=>(x_.1,())⟩
theorem q8 (n:SNet) (hp:fCopyNet.pre (n,())):Out.holds (fCopyNet.ctr (n,())).post (.cl fCopyServers (n.servers,()) fun z2=>.cl fCopyCache (n.cache,()) fun z3=>.ob (True)<|.ob (BM n.log.length 56)<|.lf fCopyNet (⟨z2.1,z3.1,n.log,n.now⟩,())):=by
 refine Af ?_ fun o1=>(Af ?_ fun o2=>(Aa trivial fun _=>Aa ?_ fun o3=>lfY ?_))
 all_goals
  have hl:=Ad Dk n.log;try simp only[Az] at *
  try simp only[fCopyCache,fCopyNet,fCopyServers,std,Nat.reduceAdd,szNet,fCopyServers,fCopyCache] at *
  try simp(disch:=omega) only[wrapId',toNat1] at *
  try simp(disch:=omega) only[Qa2,Qa3]
 all_goals first|trivial|omega|grind[wrapId',toNat1,drop_cons,drop_end,good_len,maxLen,szNet,fCopyServers,fCopyCache]
def Aj1:=Aky.a fCopyNet<|Fct.o [1,2] Aky.2 func82 (by
 rintro⟨(n:SNet),_⟩ hp;exact ho _ (q8 n hp))
def AlN:=Aj1.a fCopyNet<|Fct.o [1,2] Aj1.2 func100 (by
 rintro⟨(n:SNet),_⟩ hp;exact ho _ (q8 n hp))
def fServerAt:Fct:=⟨[.v (.sl .server),.v (.el .str)],[.el .int],fun(x_:(List SServer)×ByteArray×Unit)=>x_.1.length<=1000000000000,fun(x_:(List SServer)×ByteArray×Unit)=>(fidx (fun s=>decide (s.host=x_.2.1)) x_.1 0,())⟩
abbrev Cx (l:(List SServer)) (h:ByteArray):LInv:=⟨[⟨.s,5,true,.el .int⟩],fun _ (x_:Int×Unit)=>0<=x_.1/\x_.1<=l.length/\fidx (fun s=>decide (s.host=h)) (l.drop x_.1.toNat) x_.1=fidx (fun s=>decide (s.host=h)) l 0,fun(x_:Int×Unit)=>l.length-x_.1.toNat⟩
def Ahr:=AlN.a fServerAt<|Fct.p (KP [0,1,4,5] [9,18]) (fun⟨l,h,_⟩=>lv [(2,Cx l h)]) AlN.2 func255 (by
 rintro⟨(l:List SServer),(h:ByteArray),_⟩ hp;refine ho (lpx (Cx l h) ((0:Int),()) fun(y1:Int×PUnit) bk1=>.br (decide (y1.1<(l.length:Int))) (.ob (inB y1.1 l.length)<|.br ((l.getD y1.1.toNat default).host.toList==h.toList) (.lf fServerAt (y1.1,())) (.ob (l=l)<|.ob (Value.string h=Value.string h)<|.ob (bk1 (w1 y1.1,()))<|.ok)) (.lf fServerAt ((-1:Int),()))) ?_;refine Ay ?_ fun(y1:Int×PUnit) i1=>Ab (fun h2=>Aa ?_ fun o3=>Ab (fun h4=>lfY ?_) (fun h4=>Aa rfl fun _=>Aa rfl fun _=>Aa ?_ fun o5=>trivial)) (fun h2=>lfY ?_)
 all_goals
  try simp only[Az] at *
  try simp only[Cx,fServerAt,std,Nat.reduceAdd,fidx] at *
  try simp(disch:=omega) only[wrapId',toNat1] at *
  try simp(disch:=omega) only[Qa2,Qa3]
 all_goals first|trivial|omega|grind[wrapId',toNat1,drop_cons,drop_end,good_len,maxLen,fidx])
def fServerAt1:Fct:=⟨[.v (.el .server),.p (.el .str)],[.el .bool],fun(x_:SServer×ByteArray×Unit)=>True,fun(x_:SServer×ByteArray×Unit)=>(decide (x_.1.host=x_.2.1),())⟩
def Alf:=Ahr.a fServerAt1<|Fct.o [1,2,3] Ahr.2 func319 (by
 rintro⟨(s:SServer),(h:ByteArray),_⟩ hp;refine ho (.lf fServerAt1 (s.host.toList==ByteArray.toList h,())) ?_;refine lfY ?_;all_goals
  try simp only[Az] at *
  try simp only[fServerAt1,std,Nat.reduceAdd] at *
  try simp(disch:=omega) only[wrapId',toNat1] at *
  try simp(disch:=omega) only[Qa2,Qa3]
 all_goals first|trivial|omega|grind[wrapId',toNat1,drop_cons,drop_end,good_len,maxLen])
def AJ:Fct:=⟨[aL .server,.c 319 [.el .str]],[rI],fun x=>x.1.length<=1000000000000000000/\∀ c,fServerAt1.pre (c,x.2.1),fun x=>(fidx (fun c=>(fServerAt1.fn (c,x.2.1)).1) x.1 0,())⟩
abbrev Ag (l:(List SServer)) (u:(ByteArray×Unit)):LInv:=⟨[⟨.s,8,true,.el .int⟩],fun _ (x_:Int×Unit)=>0<=x_.1/\x_.1<=l.length/\fidx (fun c=>(fServerAt1.fn (c,u)).1) l 0=fidx (fun c=>(fServerAt1.fn (c,u)).1) (l.drop x_.1.toNat) x_.1,fun(x_:Int×Unit)=>l.length-x_.1.toNat⟩
def Ajj:=Alf.a AJ<|Fct.p (KP [0,1,4,5,7,8] [9,16]) (fun⟨l,u,_⟩=>lv [(2,Ag l u)]) Alf.2 func318 (by
 rintro⟨(l:List SServer),(u:ByteArray×PUnit),_⟩ hp;refine ho (lpx (Ag l u) ((0:Int),()) fun(y1:Int×PUnit) bk1=>.br (decide (y1.1<(l.length:Int))) (.ob (inB y1.1 l.length)<|.cl fServerAt1 (l.getD y1.1.toNat default,u.1,()) fun z2=>.br (z2.1) (.lf AJ (y1.1,())) (.ob (l=l)<|.ob (enc Ty.str u.1=enc Ty.str u.1)<|.ob (Value.int IntKind.i64 (l.length:Int)=Value.int IntKind.i64 (l.length:Int))<|.ob (bk1 (w1 y1.1,()))<|.ok)) (.lf AJ ((-1:Int),()))) ?_;refine Ay ?_ fun(y1:Int×PUnit) i1=>Ab (fun h2=>Aa ?_ fun o3=>Af trivial fun _=>(Ab (fun h4=>lfY ?_) (fun h4=>Aa rfl fun _=>Aa rfl fun _=>Aa rfl fun _=>Aa ?_ fun o5=>trivial))) (fun h2=>lfY ?_)
 all_goals
  try simp only[Az] at *
  try simp only[Ag,AJ,fServerAt1,std,Nat.reduceAdd] at *
  try have hp2:=hp.2
  try have hp1:=hp.1
 all_goals first|trivial|omega|grind[wrapId',toNat1,drop_cons,drop_end,good_len,maxLen,fidx])
def Aie:=Ajj.a fServerAt<|Fct.o [0,3,4] Ajj.2 func260 (by
 rintro⟨(l:List SServer),(h:ByteArray),_⟩ hp;refine ho (.cl AJ (l,(h,()),()) fun(z2:Int×PUnit)=>.lf fServerAt (z2.1,())) ?_;refine Af ?_ fun o1=>(lfY ?_)
 all_goals
  try simp only[Az] at *
  try simp only[AJ,fServerAt,std,Nat.reduceAdd,fServerAt1] at *
  try simp(disch:=omega) only[wrapId',toNat1] at *
  try simp(disch:=omega) only[Qa2,Qa3]
 all_goals first|trivial|omega|grind[wrapId',toNat1,drop_cons,drop_end,good_len,maxLen,fServerAt1])
def fFileAt:Fct:=⟨[.v (.el .server),.v (.el .str)],[.el .int],fun(x_:SServer×ByteArray×Unit)=>x_.1.files.length<=1000000000000,fun(x_:SServer×ByteArray×Unit)=>(fidx (fun f=>decide (f.path=x_.2.1)) x_.1.files 0,())⟩
abbrev Df (s:SServer) (p:ByteArray):LInv:=⟨[⟨.s,5,true,.el .int⟩,⟨.b,2,false,.el .server⟩],fun(z_ x_:Int×SServer×Unit)=>(0<=x_.1/\x_.1<=s.files.length/\fidx (fun f=>decide (f.path=p)) (s.files.drop x_.1.toNat) x_.1=fidx (fun f=>decide (f.path=p)) s.files 0)/\x_.2.1=z_.2.1,fun(x_:Int×SServer×Unit)=>s.files.length-x_.1.toNat⟩
def Ake:=Aie.a fFileAt<|Fct.p (KP [1,2,4,5] [10,20]) (fun⟨s,p,_⟩=>lv [(2,Df s p)]) Aie.2 func256 (by
 rintro⟨(s:SServer),(p:ByteArray),_⟩ hp;refine ho (lpx (Df s p) ((0:Int),(s,())) fun(y1:Int×SServer×PUnit) bk1=>.br (decide (y1.1<(y1.2.1.files.length:Int))) (.ob (inB y1.1 y1.2.1.files.length)<|.br ((y1.2.1.files.getD y1.1.toNat default).path.toList==p.toList) (.lf fFileAt (y1.1,())) (.ob (Value.string p=Value.string p)<|.ob (bk1 (w1 y1.1,(y1.2.1,())))<|.ok)) (.lf fFileAt ((-1:Int),()))) ?_;refine Ay ?_ fun(y1:Int×SServer×PUnit) i1=>Ab (fun h2=>Aa ?_ fun o3=>Ab (fun h4=>lfY ?_) (fun h4=>Aa rfl fun _=>Aa ?_ fun o5=>trivial)) (fun h2=>lfY ?_)
 all_goals
  try simp only[Az] at *
  try simp only[Df,fFileAt,std,Nat.reduceAdd,fidx] at *
  try simp(disch:=omega) only[wrapId',toNat1] at *
  try simp(disch:=omega) only[Qa2,Qa3]
 all_goals first|trivial|omega|grind[wrapId',toNat1,drop_cons,drop_end,good_len,maxLen,fidx])
def fFileAt1:Fct:=⟨[.v (.el .file),.p (.el .str)],[.el .bool],fun(x_:SFile×ByteArray×Unit)=>True,fun(x_:SFile×ByteArray×Unit)=>(decide (x_.1.path=x_.2.1),())⟩
def Aia:=Ake.a fFileAt1<|Fct.o [1,2,3] Ake.2 func321 (by
 rintro⟨(f:SFile),(p:ByteArray),_⟩ hp;refine ho (.lf fFileAt1 (f.path.toList==ByteArray.toList p,())) ?_;refine lfY ?_;all_goals
  try simp only[Az] at *
  try simp only[fFileAt1,std,Nat.reduceAdd] at *
  try simp(disch:=omega) only[wrapId',toNat1] at *
  try simp(disch:=omega) only[Qa2,Qa3]
 all_goals first|trivial|omega|grind[wrapId',toNat1,drop_cons,drop_end,good_len,maxLen])
def AT:Fct:=⟨[aL .file,.c 321 [.el .str]],[rI],fun x=>x.1.length<=1000000000000000000/\∀ c,fFileAt1.pre (c,x.2.1),fun x=>(fidx (fun c=>(fFileAt1.fn (c,x.2.1)).1) x.1 0,())⟩
abbrev Ar (l:(List SFile)) (u:(ByteArray×Unit)):LInv:=⟨[⟨.s,8,true,.el .int⟩],fun _ (x_:Int×Unit)=>0<=x_.1/\x_.1<=l.length/\fidx (fun c=>(fFileAt1.fn (c,u)).1) l 0=fidx (fun c=>(fFileAt1.fn (c,u)).1) (l.drop x_.1.toNat) x_.1,fun(x_:Int×Unit)=>l.length-x_.1.toNat⟩
def Ah8:=Aia.a AT<|Fct.p (KP [0,1,4,5,7,8] [9,16]) (fun⟨l,u,_⟩=>lv [(2,Ar l u)]) Aia.2 func320 (by
 rintro⟨(l:List SFile),(u:ByteArray×PUnit),_⟩ hp;refine ho (lpx (Ar l u) ((0:Int),()) fun(y1:Int×PUnit) bk1=>.br (decide (y1.1<(l.length:Int))) (.ob (inB y1.1 l.length)<|.cl fFileAt1 (l.getD y1.1.toNat default,u.1,()) fun z2=>.br (z2.1) (.lf AT (y1.1,())) (.ob (l=l)<|.ob (enc Ty.str u.1=enc Ty.str u.1)<|.ob (Value.int IntKind.i64 (l.length:Int)=Value.int IntKind.i64 (l.length:Int))<|.ob (bk1 (w1 y1.1,()))<|.ok)) (.lf AT ((-1:Int),()))) ?_;refine Ay ?_ fun(y1:Int×PUnit) i1=>Ab (fun h2=>Aa ?_ fun o3=>Af trivial fun _=>(Ab (fun h4=>lfY ?_) (fun h4=>Aa rfl fun _=>Aa rfl fun _=>Aa rfl fun _=>Aa ?_ fun o5=>trivial))) (fun h2=>lfY ?_)
 all_goals
  try simp only[Az] at *
  try simp only[Ar,fFileAt1,AT,std,Nat.reduceAdd] at *
  try have hp2:=hp.2
  try have hp1:=hp.1
 all_goals first|trivial|omega|grind[wrapId',toNat1,drop_cons,drop_end,good_len,maxLen,fidx])
def AlR:=Ah8.a fFileAt<|Fct.o [2,3,4] Ah8.2 func261 (by
 rintro⟨(s:SServer),(p:ByteArray),_⟩ hp;refine ho (.cl AT (s.files,(p,()),()) fun(z2:Int×PUnit)=>.lf fFileAt (z2.1,())) ?_;refine Af ?_ fun o1=>(lfY ?_)
 all_goals
  try simp only[Az] at *
  try simp only[fFileAt,AT,std,Nat.reduceAdd,fFileAt1] at *
  try simp(disch:=omega) only[wrapId',toNat1] at *
  try simp(disch:=omega) only[Qa2,Qa3]
 all_goals first|trivial|omega|grind[wrapId',toNat1,drop_cons,drop_end,good_len,maxLen,fFileAt1])
def answerTo (l:List SServer) (a:SAddr):SResponse:=if fidx (fun s=>decide (s.host=a.host)) l 0<0 then notFound else if fidx (fun f=>decide (f.path=a.path)) (l.getD (fidx (fun s=>decide (s.host=a.host)) l 0).toNat default).files 0<0 then notFound else((l.getD (fidx (fun s=>decide (s.host=a.host)) l 0).toNat default).files.getD (fidx (fun f=>decide (f.path=a.path)) (l.getD (fidx (fun s=>decide (s.host=a.host)) l 0).toNat default).files 0).toNat default).bd
def fAnswerTo:Fct:=⟨[.v (.sl .server),.v (.el .addr)],[.el .bd],fun(x_:(List SServer)×SAddr×Unit)=>szL AW x_.1<=68719476736,fun(x_:(List SServer)×SAddr×Unit)=>(answerTo x_.1 x_.2.1,())⟩
theorem q9 (l:List SServer) (a:SAddr) (hp:fAnswerTo.pre (l,a,())):Out.holds (fAnswerTo.ctr (l,a,())).post (.cl fServerAt (l,a.host,()) fun(z2:Int×PUnit)=>.br (decide (z2.1<0)) (.cl fNotFound () fun z3=>.lf fAnswerTo (z3.1,())) (.ob (0<=z2.1/\z2.1<(↑(List.length l):Int))<|.cl fFileAt (List.getD l z2.1.toNat default,a.path,()) fun(z4:Int×PUnit)=>.br (decide (z4.1<0)) (.cl fNotFound () fun z5=>.lf fAnswerTo (z5.1,())) (.ob (0<=z2.1/\z2.1<(↑(List.length l):Int))<|.ob (0<=z4.1/\z4.1<(↑(List.getD l z2.1.toNat default).files.length:Int))<|.lf fAnswerTo (((List.getD l z2.1.toNat default).files.getD z4.1.toNat default).bd,())))):=by
 refine Af ?_ fun o1=>(Ab (fun h2=>Af trivial fun _=>(lfY ?_)) (fun h2=>Aa ?_ fun o3=>Af ?_ fun o4=>(Ab (fun h5=>Af trivial fun _=>(lfY ?_)) (fun h5=>Aa ?_ fun o6=>Aa ?_ fun o7=>lfY ?_))))
 all_goals
  have hl:=Ad AW l;have hg:∀ i,i<l.length->(l.getD i default).files.length<=68719476736:=fun i h=>by have:=GO h;have hp2:szL AW l<=68719476736:=hp;omega
  have hf:=Eg (fun s:SServer=>decide (s.host=a.host)) l 0 (by omega);have hf2:=fun fs=>Eg (fun f:SFile=>decide (f.path=a.path)) fs 0 (by omega)
  try simp only[Az] at *
  try simp only[fAnswerTo,fFileAt,fNotFound,fServerAt,std,Nat.reduceAdd,answerTo,fServerAt,fFileAt,fNotFound] at *
  try simp(disch:=omega) only[wrapId',toNat1] at *
  try simp(disch:=omega) only[Qa2,Qa3]
 all_goals first|trivial|omega|grind[wrapId',toNat1,drop_cons,drop_end,good_len,maxLen,answerTo,fServerAt,fFileAt,fNotFound]
def AiG:=AlR.a fAnswerTo<|Fct.o (KP [0,3,4,5,6] [12,22]) AlR.2 func167 (by
 rintro⟨(l:List SServer),(a:SAddr),_⟩ hp;exact ho _ (q9 l a hp))
def AiY:=AiG.a fAnswerTo<|Fct.o (KP [0,3,4,5,6] [12,22]) AiG.2 func174 (by
 rintro⟨(l:List SServer),(a:SAddr),_⟩ hp;exact ho _ (q9 l a hp))
def fFindEntry:Fct:=⟨[.v (.el .cache),.v (.el .str),.v (.el .addr)],[.el .int],fun(x_:SCache×ByteArray×SAddr×Unit)=>x_.1.bg.length<=1000000000000,fun(x_:SCache×ByteArray×SAddr×Unit)=>(fidx (fun e=>decide (e.top=x_.2.1)&&decide (e.to=x_.2.2.1)) x_.1.bg 0,())⟩
abbrev CJ (c:SCache) (t:ByteArray) (a:SAddr):LInv:=⟨[⟨.s,7,true,.el .int⟩,⟨.b,3,false,.el .cache⟩,⟨.b,5,true,.el .addr⟩],fun(z_ x_:Int×SCache×SAddr×Unit)=>((0<=x_.1/\x_.1<=c.bg.length/\fidx (fun e=>decide (e.top=t)&&decide (e.to=a)) (c.bg.drop x_.1.toNat) x_.1=fidx (fun e=>decide (e.top=t)&&decide (e.to=a)) c.bg 0)/\x_.2.1=z_.2.1)/\x_.2.2.1=z_.2.2.1,fun(x_:Int×SCache×SAddr×Unit)=>c.bg.length-x_.1.toNat⟩
def AkN:=AiY.a fFindEntry<|Fct.p (KP [1,3,5,6,7] [12,32]) (fun⟨c,t,a,_⟩=>lv [(2,CJ c t a)]) AiY.2 func245 (by
 rintro⟨(c:SCache),(t:ByteArray),(a:SAddr),_⟩ hp;refine ho (lpx (CJ c t a) ((0:Int),(c,(a,()))) fun(y1:Int×SCache×SAddr×PUnit) bk1=>let q2_:=inB y1.1 y1.2.1.bg.length;let q1_:=y1.2.1.bg.getD y1.1.toNat default;let q0_:Out:=.ob (Value.string t=Value.string t)<|.ob (bk1 (w1 y1.1,(y1.2.1,(y1.2.2.1,()))))<|.ok;.br (decide (y1.1<(y1.2.1.bg.length:Int))) (.ob q2_<|.br (q1_.top.toList==t.toList) (.ob q2_<|.br (q1_.to.host==y1.2.2.1.host&&(q1_.to.path==y1.2.2.1.path&&true)) (.lf fFindEntry (y1.1,())) q0_) q0_) (.lf fFindEntry ((-1:Int),()))) ?_;refine Ay ?_ fun(y1:Int×SCache×SAddr×PUnit) i1=>Ab (fun h2=>Aa ?_ fun o3=>Ab (fun h4=>Aa ?_ fun o5=>Ab (fun h6=>lfY ?_) (fun h6=>Aa rfl fun _=>Aa ?_ fun o7=>trivial)) (fun h4=>Aa rfl fun _=>Aa ?_ fun o8=>trivial)) (fun h2=>lfY ?_)
 all_goals
  try simp only[DA] at *
  try simp only[Az] at *
  try simp only[CJ,fFindEntry,std,Nat.reduceAdd,fidx] at *
  try simp(disch:=omega) only[wrapId',toNat1] at *
  try simp(disch:=omega) only[Qa2,Qa3]
 all_goals first|trivial|omega|grind[wrapId',toNat1,drop_cons,drop_end,good_len,maxLen,fidx])
def fEntryAt1:Fct:=⟨[.v (.el .entry),.p (.el .str),.p (.el .addr)],[.el .bool],fun(x_:SEntry×ByteArray×SAddr×Unit)=>True,fun(x_:SEntry×ByteArray×SAddr×Unit)=>(decide (x_.1.top=x_.2.1)&&decide (x_.1.to=x_.2.2.1),())⟩
def Aj3:=AkN.a fEntryAt1<|Fct.o [1,2,3,4] AkN.2 func296 (by
 rintro⟨(e:SEntry),(t:ByteArray),(a:SAddr),_⟩ hp;refine ho (.br (e.top.toList==ByteArray.toList t) (.lf fEntryAt1 (e.to.host==a.host&&(e.to.path==a.path&&true),())) (.lf fEntryAt1 (false,()))) ?_;refine Ab (fun h1=>lfY ?_) (fun h1=>lfY ?_);all_goals
  try simp only[DA] at *
  try simp only[Az] at *
  try simp only[fEntryAt1,std,Nat.reduceAdd] at *
  try simp(disch:=omega) only[wrapId',toNat1] at *
  try simp(disch:=omega) only[Qa2,Qa3]
 all_goals first|trivial|omega|grind[wrapId',toNat1,drop_cons,drop_end,good_len,maxLen])
def AO:Fct:=⟨[aL .entry,.c 296 [.el .str,.el .addr]],[rI],fun x=>x.1.length<=1000000000000000000/\∀ c,fEntryAt1.pre (c,x.2.1),fun x=>(fidx (fun c=>(fEntryAt1.fn (c,x.2.1)).1) x.1 0,())⟩
abbrev Am (l:(List SEntry)) (u:(ByteArray×SAddr×Unit)):LInv:=⟨[⟨.s,8,true,.el .int⟩],fun _ (x_:Int×Unit)=>0<=x_.1/\x_.1<=l.length/\fidx (fun c=>(fEntryAt1.fn (c,u)).1) l 0=fidx (fun c=>(fEntryAt1.fn (c,u)).1) (l.drop x_.1.toNat) x_.1,fun(x_:Int×Unit)=>l.length-x_.1.toNat⟩
def AhX:=Aj3.a AO<|Fct.p (KP [0,1,4,5,7,8] [9,16]) (fun⟨l,u,_⟩=>lv [(2,Am l u)]) Aj3.2 func215 (by
 rintro⟨(l:List SEntry),(u:ByteArray×SAddr×PUnit),_⟩ hp;refine ho (lpx (Am l u) ((0:Int),()) fun(y1:Int×PUnit) bk1=>.br (decide (y1.1<(l.length:Int))) (.ob (inB y1.1 l.length)<|.cl fEntryAt1 (l.getD y1.1.toNat default,u.1,u.2.1,()) fun z2=>.br (z2.1) (.lf AO (y1.1,())) (.ob (l=l)<|.ob (enc Ty.str u.1=enc Ty.str u.1)<|.ob (enc Ty.addr u.2.1=enc Ty.addr u.2.1)<|.ob (Value.int IntKind.i64 (l.length:Int)=Value.int IntKind.i64 (l.length:Int))<|.ob (bk1 (w1 y1.1,()))<|.ok)) (.lf AO ((-1:Int),()))) ?_;refine Ay ?_ fun(y1:Int×PUnit) i1=>Ab (fun h2=>Aa ?_ fun o3=>Af trivial fun _=>(Ab (fun h4=>lfY ?_) (fun h4=>Aa rfl fun _=>Aa rfl fun _=>Aa rfl fun _=>Aa rfl fun _=>Aa ?_ fun o5=>trivial))) (fun h2=>lfY ?_)
 all_goals
  try simp only[Az] at *
  try simp only[Am,fEntryAt1,AO,std,Nat.reduceAdd] at *
  try have hp2:=hp.2
  try have hp1:=hp.1
 all_goals first|trivial|omega|grind[wrapId',toNat1,drop_cons,drop_end,good_len,maxLen,fidx])
def Aih:=AhX.a fFindEntry<|Fct.o [3,4,5,6] AhX.2 func218 (by
 rintro⟨(c:SCache),(t:ByteArray),(a:SAddr),_⟩ hp;refine ho (.cl AO (c.bg,(t,a,()),()) fun(z2:Int×PUnit)=>.lf fFindEntry (z2.1,())) ?_;refine Af ?_ fun o1=>(lfY ?_)
 all_goals
  try simp only[Az] at *
  try simp only[fFindEntry,AO,std,Nat.reduceAdd,fEntryAt1] at *
  try simp(disch:=omega) only[wrapId',toNat1] at *
  try simp(disch:=omega) only[Qa2,Qa3]
 all_goals first|trivial|omega|grind[wrapId',toNat1,drop_cons,drop_end,good_len,maxLen,fEntryAt1])
def freshEntry (t:ByteArray) (a:SAddr) (now:Int) (e:SEntry):Bool:=decide (e.top=t)&&(decide (e.to=a)&&decide (now<=e.until_))
def lookUp (c:SCache) (t:ByteArray) (a:SAddr) (now:Int):Option SResponse:=(c.bg.find? (freshEntry t a now)).map (·.bd)
def fLookUp:Fct:=⟨[.v (.el .cache),.v (.el .str),.v (.el .addr),.v (.el .int)],[.el .bd,.el .bool],fun(x_:SCache×ByteArray×SAddr×Int×Unit)=>x_.1.bg.length<=1000000000000,fun(x_:SCache×ByteArray×SAddr×Int×Unit)=>((lookUp x_.1 x_.2.1 x_.2.2.1 x_.2.2.2.1).getD notFound,(lookUp x_.1 x_.2.1 x_.2.2.1 x_.2.2.2.1).isSome,())⟩
theorem J3 {α:Type} [Inhabited α] (p:α->Bool):∀ (l:List α) (i:Int),0<=i->l.find? p=if 0<=fidx p l i then some (l.getD (fidx p l i-i).toNat default) else none:=by
 intro l
 induction l with
 | nil=>intro i _;simp[fidx]
 | cons x l ih=>
  intro i hi;simp only[List.find?_cons,fidx];by_cases hx:p x=true
  ·simp[hx,hi]
  ·
   have hx:p x=false:=by simpa using hx
   have h1:=Eg p l (i+1) (by omega);have h2:=ih (i+1) (by omega);simp only[hx,Qc7,Qe4,h2];split
   ·rename_i h3;have h4:i+1<=fidx p l (i+1):=by
     have:∀ (l:List α) (i:Int),0<=i->0<=fidx p l i->i<=fidx p l i:=by
      intro l
      induction l with
      | nil=>intro i _ h;simp[fidx] at h
      | cons y l ih=>
       intro i hi h;simp only[fidx] at h ⊢;split
       ·omega
       ·rename_i hy;rw[Qa3 hy] at h;have:=ih (i+1) (by omega) h;omega
     exact this l (i+1) (by omega) h3
    have h5:(fidx p l (i+1)-i).toNat=(fidx p l (i+1)-(i+1)).toNat+1:=by omega
    rw[h5];rfl
   ·rfl
abbrev Cw (c:SCache) (t:ByteArray) (a:SAddr) (now:Int):LInv:=⟨[⟨.s,10,true,.el .int⟩,⟨.b,4,false,.el .cache⟩,⟨.b,6,true,.el .addr⟩,⟨.b,8,true,.el .bd⟩],fun(z_ x_:Int×SCache×SAddr×SResponse×Unit)=>(((0<=x_.1/\x_.1<=c.bg.length/\(c.bg.drop x_.1.toNat).find? (freshEntry t a now)=c.bg.find? (freshEntry t a now))/\x_.2.1=z_.2.1)/\x_.2.2.1=z_.2.2.1)/\x_.2.2.2.1=z_.2.2.2.1,fun(x_:Int×SCache×SAddr×SResponse×Unit)=>c.bg.length-x_.1.toNat⟩
def AhN:=Aih.a fLookUp<|Fct.p (KP [1,3,4,6,8,9,10] [15,45]) (fun⟨c,t,a,now,_⟩=>lv [(2,Cw c t a now)]) Aih.2 func160 (by
 rintro⟨(c:SCache),(t:ByteArray),(a:SAddr),(now:Int),_⟩ hp;refine ho (lpx (Cw c t a now) ((0:Int),(c,(a,(default,())))) fun(y1:Int×SCache×SAddr×SResponse×PUnit) bk1=>let q2_:=inB y1.1 y1.2.1.bg.length;let q1_:=y1.2.1.bg.getD y1.1.toNat default;let q0_:Out:=.ob (Value.string t=Value.string t)<|.ob (Value.int IntKind.i64 now=Value.int IntKind.i64 now)<|.ob (bk1 (w1 y1.1,(y1.2.1,(y1.2.2.1,(y1.2.2.2.1,())))))<|.ok;.br (decide (y1.1<(y1.2.1.bg.length:Int))) (.ob q2_<|.br (q1_.top.toList==t.toList) (.ob q2_<|.br (q1_.to.host==y1.2.2.1.host&&(q1_.to.path==y1.2.2.1.path&&true)) (.ob q2_<|.br (decide (q1_.until_>=now)) (.ob q2_<|.lf fLookUp (q1_.bd,true,())) q0_) q0_) q0_) (.cl fNotFound () fun z2=>.lf fLookUp (z2.1,false,()))) ?_;repeat' first|(guard_target =~ Out.holds _ _;first|refine Ay (li:=Cw c t a now) ?_ fun(y1:Int×SCache×SAddr×SResponse×PUnit) i1=>?_|refine lfY ?_|refine Ab (fun _=>?_) fun _=>?_|refine Af ?_ fun _=>?_|refine Aa ?_ fun _=>?_)|exact trivial
 all_goals
  try simp only[DA] at *
  try simp only[Az] at *
  try simp only[Cw,fLookUp,fNotFound,std,Nat.reduceAdd,lookUp,freshEntry,fNotFound] at *
  try simp(disch:=omega) only[wrapId',toNat1] at *
  try simp(disch:=omega) only[Qa2,Qa3]
 all_goals first|trivial|omega|grind[wrapId',toNat1,drop_cons,drop_end,good_len,maxLen,lookUp,freshEntry,fNotFound])
def fLookUp1:Fct:=⟨[.v (.el .entry),.p (.el .str),.p (.el .addr),.p (.el .int)],[.el .bool],fun(x_:SEntry×ByteArray×SAddr×Int×Unit)=>True,fun(x_:SEntry×ByteArray×SAddr×Int×Unit)=>(freshEntry x_.2.1 x_.2.2.1 x_.2.2.2.1 x_.1,())⟩
def AhI:=AhN.a fLookUp1<|Fct.o [1,2,3,4,5] AhN.2 func216 (by
 rintro⟨(e:SEntry),(t:ByteArray),(a:SAddr),(now:Int),_⟩ hp;refine ho (.br (e.top.toList==ByteArray.toList t) (.br (e.to.host==a.host&&(e.to.path==a.path&&true)) (.lf fLookUp1 (decide (e.until_>=now),())) (.lf fLookUp1 (false,()))) (.lf fLookUp1 (false,()))) ?_;refine Ab (fun h1=>Ab (fun h2=>lfY ?_) (fun h2=>lfY ?_)) (fun h1=>lfY ?_);all_goals
  try simp only[DA] at *
  try simp only[Az] at *
  try simp only[fLookUp1,std,Nat.reduceAdd,freshEntry] at *
  try simp(disch:=omega) only[wrapId',toNat1] at *
  try simp(disch:=omega) only[Qa2,Qa3]
 all_goals first|trivial|omega|grind[wrapId',toNat1,drop_cons,drop_end,good_len,maxLen,freshEntry])
def AQ:Fct:=⟨[aL .entry,.c 216 [.el .str,.el .addr,.el .int]],[rI],fun x=>x.1.length<=1000000000000000000/\∀ c,fLookUp1.pre (c,x.2.1),fun x=>(fidx (fun c=>(fLookUp1.fn (c,x.2.1)).1) x.1 0,())⟩
abbrev An (l:(List SEntry)) (u:(ByteArray×SAddr×Int×Unit)):LInv:=⟨[⟨.s,8,true,.el .int⟩],fun _ (x_:Int×Unit)=>0<=x_.1/\x_.1<=l.length/\fidx (fun c=>(fLookUp1.fn (c,u)).1) l 0=fidx (fun c=>(fLookUp1.fn (c,u)).1) (l.drop x_.1.toNat) x_.1,fun(x_:Int×Unit)=>l.length-x_.1.toNat⟩
def Ajy:=AhI.a AQ<|Fct.p (KP [0,1,4,5,7,8] [9,16]) (fun⟨l,u,_⟩=>lv [(2,An l u)]) AhI.2 func215 (by
 rintro⟨(l:List SEntry),(u:ByteArray×SAddr×Int×PUnit),_⟩ hp;refine ho (lpx (An l u) ((0:Int),()) fun(y1:Int×PUnit) bk1=>.br (decide (y1.1<(l.length:Int))) (.ob (inB y1.1 l.length)<|.cl fLookUp1 (l.getD y1.1.toNat default,u.1,u.2.1,u.2.2.1,()) fun z2=>.br (z2.1) (.lf AQ (y1.1,())) (.ob (l=l)<|.ob (enc Ty.str u.1=enc Ty.str u.1)<|.ob (enc Ty.addr u.2.1=enc Ty.addr u.2.1)<|.ob (enc Ty.int u.2.2.1=enc Ty.int u.2.2.1)<|.ob (Value.int IntKind.i64 (l.length:Int)=Value.int IntKind.i64 (l.length:Int))<|.ob (bk1 (w1 y1.1,()))<|.ok)) (.lf AQ ((-1:Int),()))) ?_;refine Ay ?_ fun(y1:Int×PUnit) i1=>Ab (fun h2=>Aa ?_ fun o3=>Af trivial fun _=>(Ab (fun h4=>lfY ?_) (fun h4=>Aa rfl fun _=>Aa rfl fun _=>Aa rfl fun _=>Aa rfl fun _=>Aa rfl fun _=>Aa ?_ fun o5=>trivial))) (fun h2=>lfY ?_)
 all_goals
  try simp only[Az] at *
  try simp only[An,AQ,fLookUp1,std,Nat.reduceAdd] at *
  try have hp2:=hp.2
  try have hp1:=hp.1
 all_goals first|trivial|omega|grind[wrapId',toNat1,drop_cons,drop_end,good_len,maxLen,fidx])
def Ah2:=Ajy.a fLookUp<|Fct.o (KP [4,5,6,7,8,9,10] [16]) Ajy.2 func115 (by
 rintro⟨(c:SCache),(t:ByteArray),(a:SAddr),(now:Int),_⟩ hp;refine ho (.cl AQ (c.bg,(t,a,now,()),()) fun(z2:Int×PUnit)=>.br (decide (z2.1<0)) (.cl fNotFound () fun z3=>.lf fLookUp (z3.1,false,())) (.ob (inB z2.1 c.bg.length)<|.lf fLookUp ((c.bg.getD z2.1.toNat default).bd,true,()))) ?_;refine Af ?_ fun o1=>(Ab (fun h2=>Af trivial fun _=>(lfY ?_)) (fun h2=>Aa ?_ fun o3=>lfY ?_))
 all_goals
  have hf:=Eg (freshEntry t a now) c.bg 0 (by omega);have hf2:=J3 (freshEntry t a now) c.bg 0 (by omega);try simp only[Az] at *
  try simp only[AQ,fLookUp,fNotFound,std,Nat.reduceAdd,lookUp,fLookUp1,fNotFound] at *
  try simp(disch:=omega) only[wrapId',toNat1] at *
  try simp(disch:=omega) only[Qa2,Qa3]
 all_goals first|trivial|omega|grind[wrapId',toNat1,drop_cons,drop_end,good_len,maxLen,lookUp,fLookUp1,fNotFound])
def modM (n m:Int):Int:=if 1<=m/\m<=1000000000000 then n.emod m else 0
def P6:Fct:=⟨[.v (.el .int),.v (.el .int)],[.el .int],fun(x_:Int×Int×Unit)=>-9223372036854775808<=x_.1/\x_.1<=9223372036854775807,fun(x_:Int×Int×Unit)=>(modM x_.1 x_.2.1,())⟩
theorem MF {n m:Int} (hm:0<m):(n.tmod m+m).tmod m=n.emod m:=by
 have h1:=Int.tmod_lt_of_pos n hm;have h2 : -m<n.tmod m:=by have:=Int.lt_tmod_of_pos n hm;omega
 rw[Int.tmod_eq_emod_of_nonneg (by omega)];rw[Int.tmod_eq_emod];split
 ·simp;rfl
 ·rw[show n % m-m.natAbs+m=n % m by omega];simp;rfl
theorem Mh {n m:Int} (hm:0<m):(if n.tmod m<0 then n.tmod m+m else n.tmod m)=n.emod m:=by
 have h0:=Int.emod_nonneg n (show m≠0 by omega);have h3:=Int.emod_lt_of_pos n hm;have e0:n.emod m=n % m:=rfl;rw[Int.tmod_eq_emod,e0];split<;>split<;>omega
def AiS:=Ah2.a P6<|Fct.o (KP [0,1,4] [7]) Ah2.2 func437 (by
 rintro⟨(n:Int),(m:Int),_⟩ hp;refine ho (.cl fInRange (m,(1:Int),(1000000000000:Int),()) fun z2=>.br (!z2.1) (.lf P6 ((0:Int),())) (.ob (m≠(0:Int))<|.ob (m≠(0:Int))<|.lf P6 ((wr (Int.tmod n m+m)).tmod m,()))) ?_;refine Af trivial fun _=>(Ab (fun h1=>lfY ?_) (fun h1=>Aa ?_ fun o2=>Aa ?_ fun o3=>lfY ?_))
 all_goals (by_cases hm:1<=m/\m<=1000000000000)
 all_goals
  try have e1:=MF (n:=n) (m:=m) (by omega)
  try have e2:=Mh (n:=n) (m:=m) (by omega)
  try have e3:=Int.tmod_lt_of_pos n (show 0<m by omega)
  try have e4:=Int.lt_tmod_of_pos n (show 0<m by omega)
  try simp only[Az] at *
  try simp only[fInRange,P6,std,Nat.reduceAdd,fInRange,inRange,modM] at *
  try simp(disch:=omega) only[wrapId',toNat1] at *
  try simp(disch:=omega) only[Qa2,Qa3]
  try simp only[Qa1,Qe7,Qa9,Qb2] at *
 all_goals first|omega|skip
 all_goals
  try rw[Ah (by omega)]
  try rw[Qa2 hm]
 all_goals first|omega|exact e1|(rw[Qa2 (by omega)] at e2;exact e2)|(rw[Qa3 (by omega)] at e2;exact e2)|(rw[Qa3 hm]))
def AkU:=AiS.a P6<|Fct.o (KP [0,1,4,5] [8,13]) AiS.2 func420 (by
 rintro⟨(n:Int),(m:Int),_⟩ hp;refine ho (.cl fInRange (m,(1:Int),(1000000000000:Int),()) fun z2=>.br (!z2.1) (.lf P6 ((0:Int),())) (.ob (m≠(0:Int))<|.br (decide (Int.tmod n m<0)) (.lf P6 (wr (Int.tmod n m+m),())) (.lf P6 (Int.tmod n m,())))) ?_;refine Af trivial fun _=>(Ab (fun h1=>lfY ?_) (fun h1=>Aa ?_ fun o2=>Ab (fun h3=>lfY ?_) (fun h3=>lfY ?_)))
 all_goals (by_cases hm:1<=m/\m<=1000000000000)
 all_goals
  try have e1:=MF (n:=n) (m:=m) (by omega)
  try have e2:=Mh (n:=n) (m:=m) (by omega)
  try have e3:=Int.tmod_lt_of_pos n (show 0<m by omega)
  try have e4:=Int.lt_tmod_of_pos n (show 0<m by omega)
  try simp only[Az] at *
  try simp only[fInRange,P6,std,Nat.reduceAdd,fInRange,inRange,modM] at *
  try simp(disch:=omega) only[wrapId',toNat1] at *
  try simp(disch:=omega) only[Qa2,Qa3]
  try simp only[Qa1,Qe7,Qa9,Qb2] at *
 all_goals first|omega|skip
 all_goals
  try rw[Ah (by omega)]
  try rw[Qa2 hm]
 all_goals first|omega|exact e1|(rw[Qa2 (by omega)] at e2;exact e2)|(rw[Qa3 (by omega)] at e2;exact e2)|(rw[Qa3 hm]))
def hashI:List Int->Int->Int
 | [],d=>d
 | x::l,d=>hashI l ((d*1000003+modM x 2147483647+13).tmod 2147483647)
theorem Sz {l:List Int} {i:Nat} {d:Int} (h:i<l.length):hashI (l.drop i) d=hashI (l.drop (i+1)) ((d*1000003+modM (l.getD i default) 2147483647+13).tmod 2147483647):=by rw[drop_cons h];rfl
theorem OL {l:List Int} {i:Nat} {d:Int} (h:l.length<=i):hashI (l.drop i) d=d:=by rw[Qb9 h];rfl
theorem IR (x:Int):0<=modM x 2147483647/\modM x 2147483647<2147483647:=by
 have h0:=Int.emod_nonneg x (show(2147483647:Int)≠0 by omega);have h3:=Int.emod_lt_of_pos x (show(0:Int)<2147483647 by omega);have e0:modM x 2147483647=x % 2147483647:=rfl;omega
theorem IH {x:Int} (h:0<=x):0<=x.tmod 2147483647/\x.tmod 2147483647<2147483647:=by
 rw[Int.tmod_eq_emod_of_nonneg h];have h0:=Int.emod_nonneg x (show(2147483647:Int)≠0 by omega);have h3:=Int.emod_lt_of_pos x (show(0:Int)<2147483647 by omega);omega
def MU:Fct:=⟨[.v (.sl .int)],[.el .int],fun(x_:(List Int)×Unit)=>x_.1.length<=1000000000000/\∀ i,i<x_.1.length->-9223372036854775808<=x_.1.getD i default/\x_.1.getD i default<=9223372036854775807,fun(x_:(List Int)×Unit)=>(hashI x_.1 11,())⟩
abbrev DW (l:(List Int)):LInv:=⟨[⟨.s,3,true,.el .int⟩,⟨.s,4,true,.el .int⟩],fun _ (x_:Int×Int×Unit)=>0<=x_.2.1/\x_.2.1<=l.length/\0<=x_.1/\x_.1<2147483647/\hashI (l.drop x_.2.1.toNat) x_.1=hashI l 11,fun(x_:Int×Int×Unit)=>l.length-x_.2.1.toNat⟩
def Aki:=AkU.a MU<|Fct.p (KP [0,2,3,4] [8]) (fun⟨l,_⟩=>lv [(3,DW l)]) AkU.2 func410 (by
 rintro⟨(l:List Int),_⟩ hp;refine ho (lpx (DW l) ((11:Int),((0:Int),())) fun(y1:Int×Int×PUnit) bk1=>.br (decide (y1.2.1<(l.length:Int))) (.ob (inB y1.2.1 l.length)<|.cl P6 (l.getD y1.2.1.toNat default,(2147483647:Int),()) fun(z2:Int×PUnit)=>.ob ((2147483647:Int)≠(0:Int))<|.ob (l=l)<|.ob (Value.int IntKind.i64 0=Value.int IntKind.i64 (0:Int))<|.ob (bk1 ((wr (wr (wr (y1.1*(1000003:Int))+z2.1)+13)).tmod (2147483647:Int),(w1 y1.2.1,())))<|.ok) (.lf MU (y1.1,()))) ?_;refine Ay ?_ fun(y1:Int×Int×PUnit) i1=>Ab (fun h2=>Aa ?_ fun o3=>Af ?_ fun o4=>(Aa ?_ fun o5=>Aa rfl fun _=>Aa rfl fun _=>Aa ?_ fun o6=>trivial)) (fun h2=>lfY ?_)
 all_goals
  try simp only[Az] at *
  try simp only[DW,MU,P6,std,Nat.reduceAdd,P6] at *
 all_goals obtain⟨hp1,hp2⟩:=hp
 all_goals try (obtain⟨a1,a2,a3,a4,a5⟩:=i1)
 all_goals try (have hm:=IR (l.getD y1.2.1.toNat default);have ht:=IH (x:=y1.1*1000003+modM (l.getD y1.2.1.toNat default) 2147483647+13) (by omega))
 all_goals try simp(disch:=omega) only[wrapId',toNat1] at *
 all_goals first|trivial|omega|exact⟨by omega,by omega,by omega,by omega,rfl⟩|exact hp2 _ (by omega)|skip
 ·rw[Sz (by omega)] at a5;exact⟨⟨by omega,by omega,ht.1,ht.2,a5⟩,by omega⟩
 ·rw[OL (by omega)] at a5;exact a5)
abbrev DX (l:(List Int)):LInv:=⟨[⟨.s,3,true,.el .int⟩,⟨.s,8,true,.el .int⟩],fun _ (x_:Int×Int×Unit)=>0<=x_.2.1/\x_.2.1<=l.length/\0<=x_.1/\x_.1<2147483647/\hashI (l.drop x_.2.1.toNat) x_.1=hashI l 11,fun(x_:Int×Int×Unit)=>l.length-x_.2.1.toNat⟩
def AiQ:=Aki.a MU<|Fct.p (KP [0,2,3,5,6,7,8] [9]) (fun⟨l,_⟩=>lv [(3,DX l)]) Aki.2 func382 (by
 rintro⟨(l:List Int),_⟩ hp;refine ho (lpx (DX l) ((11:Int),((0:Int),())) fun(y1:Int×Int×PUnit) bk1=>.br (decide (y1.2.1<(l.length:Int))) (.ob (inB y1.2.1 l.length)<|.cl P6 (l.getD y1.2.1.toNat default,(2147483647:Int),()) fun(z2:Int×PUnit)=>.ob ((2147483647:Int)≠(0:Int))<|.ob (l=l)<|.ob (Value.int IntKind.i64 0=Value.int IntKind.i64 (0:Int))<|.ob (l=l)<|.ob (Value.int IntKind.i64 (l.length:Int)=Value.int IntKind.i64 (l.length:Int))<|.ob (bk1 ((wr (wr (wr (y1.1*(1000003:Int))+z2.1)+13)).tmod (2147483647:Int),(w1 y1.2.1,())))<|.ok) (.lf MU (y1.1,()))) ?_;refine Ay ?_ fun(y1:Int×Int×PUnit) i1=>Ab (fun h2=>Aa ?_ fun o3=>Af ?_ fun o4=>(Aa ?_ fun o5=>Aa rfl fun _=>Aa rfl fun _=>Aa rfl fun _=>Aa rfl fun _=>Aa ?_ fun o6=>trivial)) (fun h2=>lfY ?_)
 all_goals
  try simp only[Az] at *
  try simp only[DX,MU,P6,std,Nat.reduceAdd,P6] at *
 all_goals obtain⟨hp1,hp2⟩:=hp
 all_goals try (obtain⟨a1,a2,a3,a4,a5⟩:=i1)
 all_goals try (have hm:=IR (l.getD y1.2.1.toNat default);have ht:=IH (x:=y1.1*1000003+modM (l.getD y1.2.1.toNat default) 2147483647+13) (by omega))
 all_goals try simp(disch:=omega) only[wrapId',toNat1] at *
 all_goals first|trivial|omega|exact⟨by omega,by omega,by omega,by omega,rfl⟩|exact hp2 _ (by omega)|skip
 ·rw[Sz (by omega)] at a5;exact⟨⟨by omega,by omega,ht.1,ht.2,a5⟩,by omega⟩
 ·rw[OL (by omega)] at a5;exact a5)
def bti (b l:List Int):List Int:=(b.length:Int)::l
def CU:Fct:=⟨[.v (.sl .u8)],[.sl .int],fun(x_:(List Int)×Unit)=>x_.1.length<=68719476736/\∀ i,i<x_.1.length->0<=x_.1.getD i default/\x_.1.getD i default<=255,fun(x_:(List Int)×Unit)=>(bti x_.1 x_.1,())⟩
abbrev BN (b:(List Int)):LInv:=⟨[⟨.s,3,true,.sl .int⟩,⟨.s,4,true,.el .int⟩],fun _ (x_:(List Int)×Int×Unit)=>0<=x_.2.1/\x_.2.1<=b.length/\x_.1=bti b (b.take x_.2.1.toNat),fun(x_:(List Int)×Int×Unit)=>b.length-x_.2.1.toNat⟩
def Aj5:=AiQ.a CU<|Fct.p (KP [0,2,3,4] [11]) (fun⟨b,_⟩=>lv [(3,BN b)]) AiQ.2 func411 (by
 rintro⟨(b:List Int),_⟩ hp;refine ho (lpx (BN b) ([(b.length:Int)],((0:Int),())) fun(y1:List Int×Int×PUnit) bk1=>.br (decide (y1.2.1<(b.length:Int))) (.ob (inB y1.2.1 b.length)<|.ob (True)<|.ob (BM (y1.1.length+[wr (b.getD y1.2.1.toNat default)].length) 8)<|.ob (b=b)<|.ob (bk1 (y1.1++[wr (b.getD y1.2.1.toNat default)],(w1 y1.2.1,())))<|.ok) (.lf CU (y1.1,()))) ?_;refine Ay ?_ fun(y1:List Int×Int×PUnit) i1=>Ab (fun h2=>Aa ?_ fun o3=>Aa trivial fun _=>Aa ?_ fun o4=>Aa rfl fun _=>Aa ?_ fun o5=>trivial) (fun h2=>lfY ?_)
 all_goals
  try simp only[Az] at *
  try simp only[BN,CU,std,Nat.reduceAdd,take_succ,take_end,bti] at *
  try simp(disch:=omega) only[wrapId',toNat1] at *
  try simp(disch:=omega) only[Qa2,Qa3]
 all_goals first|trivial|omega|grind[wrapId',toNat1,drop_cons,drop_end,good_len,maxLen,take_succ,take_end,bti])
abbrev BD (b:(List Int)):LInv:=⟨[⟨.s,3,true,.sl .int⟩,⟨.s,11,true,.el .int⟩],fun _ (x_:(List Int)×Int×Unit)=>0<=x_.2.1/\x_.2.1<=b.length/\x_.1=bti b (b.take x_.2.1.toNat),fun(x_:(List Int)×Int×Unit)=>b.length-x_.2.1.toNat⟩
def Akc:=Aj5.a CU<|Fct.p (KP [0,2,3,5,9,10,11] [12]) (fun⟨b,_⟩=>lv [(3,BD b)]) Aj5.2 func383 (by
 rintro⟨(b:List Int),_⟩ hp;refine ho (lpx (BD b) ([(b.length:Int)],((0:Int),())) fun(y1:List Int×Int×PUnit) bk1=>.br (decide (y1.2.1<(b.length:Int))) (.ob (inB y1.2.1 b.length)<|.ob (True)<|.ob (BM (y1.1.length+[wr (b.getD y1.2.1.toNat default)].length) 8)<|.ob (b=b)<|.ob (b=b)<|.ob (Value.int IntKind.i64 (b.length:Int)=Value.int IntKind.i64 (b.length:Int))<|.ob (bk1 (y1.1++[wr (b.getD y1.2.1.toNat default)],(w1 y1.2.1,())))<|.ok) (.lf CU (y1.1,()))) ?_;refine Ay ?_ fun(y1:List Int×Int×PUnit) i1=>Ab (fun h2=>Aa ?_ fun o3=>Aa trivial fun _=>Aa ?_ fun o4=>Aa rfl fun _=>Aa rfl fun _=>Aa rfl fun _=>Aa ?_ fun o5=>trivial) (fun h2=>lfY ?_)
 all_goals
  try simp only[Az] at *
  try simp only[BD,CU,std,Nat.reduceAdd,take_succ,take_end,bti] at *
  try simp(disch:=omega) only[wrapId',toNat1] at *
  try simp(disch:=omega) only[Qa2,Qa3]
 all_goals first|trivial|omega|grind[wrapId',toNat1,drop_cons,drop_end,good_len,maxLen,take_succ,take_end,bti])
def fFormatInt:Fct:=⟨[.v (.el .int)],[.el .str],fun(x_:Int×Unit)=>-9223372036854775808<=x_.1/\x_.1<=9223372036854775807,fun(x_:Int×Unit)=>(Ht x_.1,())⟩
abbrev Cg (n:Int):LInv:=⟨[⟨.s,3,true,.el .str⟩,⟨.s,4,true,.el .int⟩],fun _ (x_:ByteArray×Int×Unit)=>n≠0/\-9223372036854775808<=x_.2.1/\x_.2.1<=9223372036854775807/\(x_.2.1:Int).natAbs+4*x_.1.size<=n.natAbs+(if x_.2.1=0 then 4 else 0)/\Aax (x_.2.1:Int).natAbs x_.1=Aax n.natAbs ⟨#[]⟩,fun(x_:ByteArray×Int×Unit)=>(x_.2.1:Int).natAbs⟩
def Ami:=Akc.a fFormatInt<|Fct.p (KP [0,2,3,4,5] [7,10,16,27]) (fun⟨n,_⟩=>lv [(5,Cg n)]) Akc.2 func365 (by
 rintro⟨(n:Int),_⟩ hp;refine ho (let q5_:=(⟨#[45]⟩:ByteArray);let q2_:=(10:Int)≠(0:Int);let q0_:=(⟨#[]⟩:ByteArray);let q4_:=Value.string q0_=Value.string q0_;.br (n==0) (.lf fFormatInt ((⟨#[48]⟩:ByteArray),())) (lpx (Cg n) (q0_,(n,())) fun(y2:ByteArray×Int×PUnit) bk2=>let q6_:=y2.2.1.tdiv (10:Int);let q3_:=wr ((48:Int)+y2.2.1.tmod (10:Int));let q1_:=wr ((48:Int)+wr ((0:Int)-y2.2.1.tmod (10:Int)));.br (y2.2.1 != 0) (.ob q2_<|.br (decide (y2.2.1.tmod (10:Int)<(0:Int))) (.ob (True)<|.ob (sameSize (List.foldl (fun r n=>r.push (UInt8.ofNat n.toNat)) ByteArray.empty [IntKind.u8.wrap q1_]) y2.1)<|.ob q2_<|.ob (Value.int IntKind.i64 n=Value.int IntKind.i64 n)<|.ob q4_<|.ob (bk2 (List.foldl (fun r n=>r.push (UInt8.ofNat n.toNat)) ByteArray.empty [IntKind.u8.wrap q1_]++y2.1,(wr q6_,())))<|.ok) (.ob (True)<|.ob (sameSize (List.foldl (fun r n=>r.push (UInt8.ofNat n.toNat)) ByteArray.empty [IntKind.u8.wrap q3_]) y2.1)<|.ob q2_<|.ob (Value.int IntKind.i64 n=Value.int IntKind.i64 n)<|.ob q4_<|.ob (bk2 (List.foldl (fun r n=>r.push (UInt8.ofNat n.toNat)) ByteArray.empty [IntKind.u8.wrap q3_]++y2.1,(wr q6_,())))<|.ok)) (.br (decide (n<0)) (.ob (sameSize q5_ y2.1)<|.lf fFormatInt (q5_++y2.1,())) (.lf fFormatInt (y2.1,()))))) ?_;refine Ab (fun h1=>lfY ?_) (fun h1=>Ay ?_ fun(y2:ByteArray×Int×PUnit) i2=>Ab (fun h3=>Aa ?_ fun o4=>Ab (fun h5=>Aa trivial fun _=>Aa ?_ fun o6=>Aa ?_ fun o7=>Aa rfl fun _=>Aa rfl fun _=>Aa ?_ fun o8=>trivial) (fun h5=>Aa trivial fun _=>Aa ?_ fun o9=>Aa ?_ fun o10=>Aa rfl fun _=>Aa rfl fun _=>Aa ?_ fun o11=>trivial)) (fun h3=>Ab (fun h12=>Aa ?_ fun o13=>lfY ?_) (fun h12=>lfY ?_)));all_goals try (have hk:=Nat.mod_lt y2.2.1.natAbs (show 0<10 by omega);have ht:=Abe y2.2.1)
 all_goals try (have hv:=Zf y2.2.1)
 all_goals
  try simp only[Az] at *
  try simp only[Cg,fFormatInt,std,Nat.reduceAdd] at *
 all_goals first|trivial|omega|skip
 all_goals try (obtain⟨a1,a2,a3,a4,a5⟩:=i2)
 all_goals first|trivial|omega|skip
 all_goals
  try simp only[h5,Qe9,Qe4] at ht
  try rw[Qa3 (by omega)] at ht
 all_goals try (rw[Ah (n:=0-_) (by omega),show(0:Int)-y2.2.1.tmod 10=((y2.2.1.natAbs % 10:Nat):Int) by omega,Ajh hk,XS hk] at *)
 all_goals try (rw[ht,Ajh hk,XS hk] at *)
 all_goals try rw[Qa3 h3] at a4
 all_goals try (have e1:IntKind.i64.wrap (y2.2.1.tdiv 10)=y2.2.1.tdiv 10:=Ah (by omega);rw[e1])
 ·rw[h1,Xo]
 ·unfold sameSize;rw[show ByteArray.size ⟨#[UInt8.ofNat (48+y2.2.1.natAbs % 10)]⟩=1 from rfl];omega
 ·rw[Pq (by omega)] at a5;rw[hv,Qb7,show ByteArray.size ⟨#[UInt8.ofNat (48+y2.2.1.natAbs % 10)]⟩=1 from rfl];exact⟨⟨h1,by omega,by omega,by split<;>omega,a5⟩,by omega⟩
 ·unfold sameSize;rw[show ByteArray.size ⟨#[UInt8.ofNat (48+y2.2.1.natAbs % 10)]⟩=1 from rfl];omega
 ·rw[Pq (by omega)] at a5;have hv':((y2.2.1.natAbs:Nat):Int)=y2.2.1.natAbs:=rfl;rw[hv,Qb7,show ByteArray.size ⟨#[UInt8.ofNat (48+y2.2.1.natAbs % 10)]⟩=1 from rfl];exact⟨⟨h1,by omega,by omega,by split<;>omega,a5⟩,by omega⟩
 ·unfold sameSize;rw[show ByteArray.size ⟨#[45]⟩=1 from rfl];rw[Qa2 h3] at a4;omega
 ·rw[h3] at a5;rw[ZY h12,<-a5];rfl
 ·rw[h3] at a5;rw[Y1 (by omega),<-a5];rfl)
theorem S2:Go.Proofs.LaysM.n171 Tryz.prog laysCmp_r:=by repeat' first|kernel_rfl|constructor|intro _
def Aio:=Ami.a fItoa<|AeY (by kernel_rfl) (Go.Proofs.Any.strconv_Itoa S2)
def AjY:=Aio.a fFormatInt<|Fct.o [0,2] Aio.2 func335 (by
 rintro⟨(n:Int),_⟩ hp;refine ho (.cl fItoa (n,()) fun z2=>.lf fFormatInt (z2.1,())) ?_;refine Af ?_ fun o1=>(lfY ?_)
 all_goals
  try simp only[Az] at *
  try simp only[fFormatInt,fItoa,std,Nat.reduceAdd,fItoa] at *
  try simp(disch:=omega) only[wrapId',toNat1] at *
  try simp(disch:=omega) only[Qa2,Qa3]
 all_goals first|trivial|omega|grind[wrapId',toNat1,drop_cons,drop_end,good_len,maxLen,fItoa])
theorem Bl {α:Type} [Inhabited α] {l:List α} {i:Nat} (h:i<l.length):l.getD i default∈l:=by
 rw[Qa7,Qa5 h];exact List.getElem_mem _
theorem CN {s:ByteArray} (h:isName s=true):s.size<=8:=by
 simp only[isName,Qa1,Qa9] at h;omega
def words9:ByteArray->List ByteArray->ByteArray
 | w,[]=>w
 | w,x::l=>words9 (w++⟨#[32]⟩++x) l
theorem words9_at {w:ByteArray} {l:List ByteArray} {i:Nat} (h:i<l.length):words9 w (l.drop i)=words9 (w++⟨#[32]⟩++l.getD i default) (l.drop (i+1)):=by rw[drop_cons h];rfl
theorem words9_end {w:ByteArray} {l:List ByteArray} {i:Nat} (h:l.length<=i):words9 w (l.drop i)=w:=by rw[Qb9 h];rfl
theorem Rx:∀ (l:List ByteArray) (w:ByteArray),l.all isName=true->(words9 w l).size<=w.size+9*l.length:=by
 intro l
 induction l with
 | nil=>intro w _;simp[words9]
 | cons x l ih=>
  intro w h;simp only[List.all_cons,Qa1] at h;have h1:=CN h.1;have h2:=ih (w++⟨#[32]⟩++x) h.2;simp only[words9,Qa6];rw[Qb7,Qb7,show ByteArray.size ⟨#[32]⟩=1 from rfl] at h2;omega
def GW:Fct:=⟨[.v (.el .str),.v (.sl .str)],[.el .str],fun(x_:ByteArray×(List ByteArray)×Unit)=>x_.1.size<=100/\x_.2.1.length<=4/\x_.2.1.all isName=true,fun(x_:ByteArray×(List ByteArray)×Unit)=>(words9 x_.1 x_.2.1,())⟩
abbrev Dg (w:ByteArray) (l:(List ByteArray)):LInv:=⟨[⟨.s,0,true,.el .str⟩,⟨.s,5,true,.el .int⟩],fun _ (x_:ByteArray×Int×Unit)=>0<=x_.2.1/\x_.2.1<=l.length/\x_.1.size<=100+9*x_.2.1/\words9 x_.1 (l.drop x_.2.1.toNat)=words9 w l,fun(x_:ByteArray×Int×Unit)=>l.length-x_.2.1.toNat⟩
def AiP:=AjY.a GW<|Fct.p (KP [0,1,4,5] [9]) (fun⟨w,l,_⟩=>lv [(2,Dg w l)]) AjY.2 func352 (by
 rintro⟨(w:ByteArray),(l:List ByteArray),_⟩ hp;refine ho (lpx (Dg w l) (w,((0:Int),())) fun(y1:ByteArray×Int×PUnit) bk1=>.br (decide (y1.2.1<(l.length:Int))) (.ob (sameSize y1.1 (⟨#[32]⟩:ByteArray))<|.ob (inB y1.2.1 l.length)<|.ob (sameSize (y1.1++(⟨#[32]⟩:ByteArray)) (l.getD y1.2.1.toNat default))<|.ob (l=l)<|.ob (Value.string (⟨#[]⟩:ByteArray)=Value.string (⟨#[]⟩:ByteArray))<|.ob (bk1 (y1.1++(⟨#[32]⟩:ByteArray)++l.getD y1.2.1.toNat default,(w1 y1.2.1,())))<|.ok) (.lf GW (y1.1,()))) ?_;refine Ay ?_ fun(y1:ByteArray×Int×PUnit) i1=>Ab (fun h2=>Aa ?_ fun o3=>Aa ?_ fun o4=>Aa ?_ fun o5=>Aa rfl fun _=>Aa rfl fun _=>Aa ?_ fun o6=>trivial) (fun h2=>lfY ?_)
 all_goals
  have hg:∀ i,i<l.length->(l.getD i default).size<=8:=fun i h=>CN (Qc4.1 hp.2.2 _ (Bl h))
  try simp only[Az] at *
  try simp only[Dg,GW,std,Nat.reduceAdd,words9_at,words9_end,sameSize,Qb7] at *
  try simp(disch:=omega) only[wrapId',toNat1] at *
  try simp(disch:=omega) only[Qa2,Qa3]
 all_goals first|trivial|omega|grind[wrapId',toNat1,good_len,maxLen,words9_at,words9_end,sameSize,ByteArray.size_append])
def formatPolicy (p:SPolicy):ByteArray:=if isPolicy p&&p.set_ then(if p.nonce=⟨#[]⟩ then words9 ⟨#[115,99,114,105,112,116]⟩ p.bp++⟨#[59]⟩++words9 ⟨#[115,116,121,108,101]⟩ p.styles++⟨#[59]⟩++words9 ⟨#[105,109,103]⟩ p.images else words9 ⟨#[115,99,114,105,112,116]⟩ p.bp++⟨#[59]⟩++words9 ⟨#[115,116,121,108,101]⟩ p.styles++⟨#[59]⟩++words9 ⟨#[105,109,103]⟩ p.images++⟨#[59,110,111,110,99,101,32]⟩++p.nonce) else⟨#[]⟩
theorem GR {p:SPolicy} (h:isPolicy p=true) (hs:p.set_=true):p.bp.all isName=true/\p.bp.length<=4/\p.styles.all isName=true/\p.styles.length<=4/\p.images.all isName=true/\p.images.length<=4/\p.nonce.size<=20:=by
 simp only[isPolicy,hs,Qe9,Qa1,Qf8,Qa9] at h;obtain⟨⟨⟨⟨a1,a2⟩,a3,a4⟩,a5,a6⟩,a7⟩:=h;refine⟨a1,a2,a3,a4,a5,a6,?_⟩;rcases a7 with h|h
 ·rw[h];exact Nat.zero_le _
 ·simp only[isValue,Qa1,Qa9] at h;omega
theorem Fy {l:List ByteArray} {w:ByteArray} (h:l.all isName=true) (hl:l.length<=4) (hw:w.size<=6):(words9 w l).size<=42:=by
 have:=Rx l w h;omega
def AI:Fct:=⟨[.v (.el .bj)],[.el .str],fun(x_:SPolicy×Unit)=>szPolicy x_.1<=1099511627776,fun(x_:SPolicy×Unit)=>(formatPolicy x_.1,())⟩
def Alg:=AiP.a AI<|Fct.o (KP [1,2,3] [11,27]) AiP.2 func302 (by
 rintro⟨(p:SPolicy),_⟩ hp;refine ho (let q3_:=(⟨#[]⟩:ByteArray);let q2_:Out:=.lf AI (q3_,());let q1_:=(⟨#[59,110,111,110,99,101,32]⟩:ByteArray);let q0_:=(⟨#[59]⟩:ByteArray);.cl Bu (p,()) fun z2=>.br (!z2.1) q2_ (.br (!p.set_) q2_ (.cl GW ((⟨#[115,99,114,105,112,116]⟩:ByteArray),p.bp,()) fun z3=>.ob (sameSize z3.1 q0_)<|.cl GW ((⟨#[115,116,121,108,101]⟩:ByteArray),p.styles,()) fun z4=>.ob (sameSize (z3.1++q0_) z4.1)<|.ob (sameSize (z3.1++q0_++z4.1) q0_)<|.cl GW ((⟨#[105,109,103]⟩:ByteArray),p.images,()) fun z5=>.ob (sameSize (z3.1++q0_++z4.1++q0_) z5.1)<|.br (!p.nonce.toList==q3_.toList) (.ob (sameSize (z3.1++q0_++z4.1++q0_++z5.1) q1_)<|.ob (sameSize (z3.1++q0_++z4.1++q0_++z5.1++q1_) p.nonce)<|.lf AI (z3.1++q0_++z4.1++q0_++z5.1++q1_++p.nonce,())) (.lf AI (z3.1++q0_++z4.1++q0_++z5.1,()))))) ?_;repeat' (guard_target =~ Out.holds _ _;first|refine lfY ?_|refine Ab (fun _=>?_) fun _=>?_|refine Af ?_ fun _=>?_|refine Aa ?_ fun _=>?_)
 all_goals
  try simp only[Az] at *
  try simp only[AI,Bu,GW,std,Nat.reduceAdd] at *
 all_goals first|trivial|omega|skip
 all_goals try (have hA:isPolicy p=true:=(by assumption);have hB:p.set_=true:=(by assumption);obtain⟨a1,a2,a3,a4,a5,a6,a7⟩:=GR hA hB)
 all_goals
  try have b1:=Fy (w:=⟨#[115,99,114,105,112,116]⟩) a1 a2 (by decide)
  try have b2:=Fy (w:=⟨#[115,116,121,108,101]⟩) a3 a4 (by decide)
  try have b3:=Fy (w:=⟨#[105,109,103]⟩) a5 a6 (by decide)
  try simp only[Az] at *
  try simp only[AI,Bu,GW,std,Nat.reduceAdd,formatPolicy,sameSize,Qb7] at *
  try simp(disch:=omega) only[wrapId',toNat1] at *
  try simp(disch:=omega) only[Qa2,Qa3]
 all_goals first|trivial|omega|grind[wrapId',toNat1,drop_cons,drop_end,good_len,maxLen,formatPolicy,sameSize,ByteArray.size_append])
def findGuess (l:List SGuess) (a:SAddr):Int:=fidx (fun g=>decide (g.to=a)) l 0
def fFindGuess:Fct:=⟨[.v (.sl .guess),.v (.el .addr)],[.el .int],fun(x_:(List SGuess)×SAddr×Unit)=>x_.1.length<=4194304,fun(x_:(List SGuess)×SAddr×Unit)=>(findGuess x_.1 x_.2.1,())⟩
abbrev Cf (l:(List SGuess)) (a:SAddr):LInv:=⟨[⟨.s,5,true,.el .int⟩,⟨.b,3,true,.el .addr⟩],fun(z_ x_:Int×SAddr×Unit)=>(0<=x_.1/\x_.1<=l.length/\fidx (fun g=>decide (g.to=a)) (l.drop x_.1.toNat) x_.1=findGuess l a)/\x_.2.1=z_.2.1,fun(x_:Int×SAddr×Unit)=>l.length-x_.1.toNat⟩
def Aj2:=Alg.a fFindGuess<|Fct.p (KP [0,3,4,5] [9,18]) (fun⟨l,a,_⟩=>lv [(2,Cf l a)]) Alg.2 func158 (by
 rintro⟨(l:List SGuess),(a:SAddr),_⟩ hp;refine ho (lpx (Cf l a) ((0:Int),(a,())) fun(y1:Int×SAddr×PUnit) bk1=>.br (decide (y1.1<(l.length:Int))) (.ob (inB y1.1 l.length)<|.br ((l.getD y1.1.toNat default).to.host==y1.2.1.host&&((l.getD y1.1.toNat default).to.path==y1.2.1.path&&true)) (.lf fFindGuess (y1.1,())) (.ob (l=l)<|.ob (bk1 (w1 y1.1,(y1.2.1,())))<|.ok)) (.lf fFindGuess ((-1:Int),()))) ?_;refine Ay ?_ fun(y1:Int×SAddr×PUnit) i1=>Ab (fun h2=>Aa ?_ fun o3=>Ab (fun h4=>lfY ?_) (fun h4=>Aa rfl fun _=>Aa ?_ fun o5=>trivial)) (fun h2=>lfY ?_)
 all_goals
  try simp only[DA] at *
  try simp only[Az] at *
  try simp only[Cf,fFindGuess,std,Nat.reduceAdd,findGuess,fidx] at *
  try simp(disch:=omega) only[wrapId',toNat1] at *
  try simp(disch:=omega) only[Qa2,Qa3]
 all_goals first|trivial|omega|grind[wrapId',toNat1,drop_cons,drop_end,good_len,maxLen,findGuess,fidx])
def fFindGuess1:Fct:=⟨[.v (.el .guess),.p (.el .addr)],[.el .bool],fun(x_:SGuess×SAddr×Unit)=>True,fun(x_:SGuess×SAddr×Unit)=>(decide (x_.1.to=x_.2.1),())⟩
def AjC:=Aj2.a fFindGuess1<|Fct.o [1,2,3] Aj2.2 func221 (by
 rintro⟨(g:SGuess),(a:SAddr),_⟩ hp;refine ho (.lf fFindGuess1 (g.to.host==a.host&&(g.to.path==a.path&&true),())) ?_;refine lfY ?_;all_goals
  try simp only[DA] at *
  try simp only[Az] at *
  try simp only[fFindGuess1,std,Nat.reduceAdd] at *
  try simp(disch:=omega) only[wrapId',toNat1] at *
  try simp(disch:=omega) only[Qa2,Qa3]
 all_goals first|trivial|omega|grind[wrapId',toNat1,drop_cons,drop_end,good_len,maxLen])
def AH:Fct:=⟨[aL .guess,.c 221 [.el .addr]],[rI],fun x=>x.1.length<=1000000000000000000/\∀ c,fFindGuess1.pre (c,x.2.1),fun x=>(fidx (fun c=>(fFindGuess1.fn (c,x.2.1)).1) x.1 0,())⟩
abbrev Ai (l:(List SGuess)) (u:(SAddr×Unit)):LInv:=⟨[⟨.s,8,true,.el .int⟩],fun _ (x_:Int×Unit)=>0<=x_.1/\x_.1<=l.length/\fidx (fun c=>(fFindGuess1.fn (c,u)).1) l 0=fidx (fun c=>(fFindGuess1.fn (c,u)).1) (l.drop x_.1.toNat) x_.1,fun(x_:Int×Unit)=>l.length-x_.1.toNat⟩
def Akx:=AjC.a AH<|Fct.p (KP [0,1,4,5,7,8] [9,16]) (fun⟨l,u,_⟩=>lv [(2,Ai l u)]) AjC.2 func220 (by
 rintro⟨(l:List SGuess),(u:SAddr×PUnit),_⟩ hp;refine ho (lpx (Ai l u) ((0:Int),()) fun(y1:Int×PUnit) bk1=>.br (decide (y1.1<(l.length:Int))) (.ob (inB y1.1 l.length)<|.cl fFindGuess1 (l.getD y1.1.toNat default,u.1,()) fun z2=>.br (z2.1) (.lf AH (y1.1,())) (.ob (l=l)<|.ob (enc Ty.addr u.1=enc Ty.addr u.1)<|.ob (Value.int IntKind.i64 (l.length:Int)=Value.int IntKind.i64 (l.length:Int))<|.ob (bk1 (w1 y1.1,()))<|.ok)) (.lf AH ((-1:Int),()))) ?_;refine Ay ?_ fun(y1:Int×PUnit) i1=>Ab (fun h2=>Aa ?_ fun o3=>Af trivial fun _=>(Ab (fun h4=>lfY ?_) (fun h4=>Aa rfl fun _=>Aa rfl fun _=>Aa rfl fun _=>Aa ?_ fun o5=>trivial))) (fun h2=>lfY ?_)
 all_goals
  try simp only[Az] at *
  try simp only[Ai,fFindGuess1,AH,std,Nat.reduceAdd] at *
  try have hp2:=hp.2
  try have hp1:=hp.1
 all_goals first|trivial|omega|grind[wrapId',toNat1,drop_cons,drop_end,good_len,maxLen,fidx])
def AlC:=Akx.a fFindGuess<|Fct.o [0,3,4] Akx.2 func118 (by
 rintro⟨(l:List SGuess),(a:SAddr),_⟩ hp;refine ho (.cl AH (l,(a,()),()) fun(z2:Int×PUnit)=>.lf fFindGuess (z2.1,())) ?_;refine Af ?_ fun o1=>(lfY ?_)
 all_goals
  try simp only[Az] at *
  try simp only[fFindGuess,AH,std,Nat.reduceAdd,fFindGuess1,findGuess] at *
  try simp(disch:=omega) only[wrapId',toNat1] at *
  try simp(disch:=omega) only[Qa2,Qa3]
 all_goals first|trivial|omega|grind[wrapId',toNat1,drop_cons,drop_end,good_len,maxLen,fFindGuess1,findGuess])
def fCopyGuesses:Fct:=⟨[.v (.sl .guess)],[.sl .guess],fun(x_:(List SGuess)×Unit)=>x_.1.length<=4194304,fun(x_:(List SGuess)×Unit)=>(x_.1,())⟩
def AlA:=AlC.a fCopyGuesses<|Fct.o [0,2] AlC.2 func103 (by
 rintro⟨(l:List SGuess),_⟩ hp;refine ho (.ob (True)<|.ob (BM (0+List.length l) 104)<|.lf fCopyGuesses ([]++l,())) ?_;refine Aa trivial fun _=>Aa ?_ fun o1=>lfY ?_
 all_goals
  try simp only[Az] at *
  try simp only[fCopyGuesses,std,Nat.reduceAdd] at *
  try simp(disch:=omega) only[wrapId',toNat1] at *
  try simp(disch:=omega) only[Qa2,Qa3]
 all_goals first|trivial|omega|grind[wrapId',toNat1,drop_cons,drop_end,good_len,maxLen])
def useGuess (l:List SGuess) (a:SAddr):List SGuess×SResponse×Bool:=if findGuess l a<0 then(l,notFound,false) else(l.modify (findGuess l a).toNat fun g=>{ g with used:=true },(l.getD (findGuess l a).toNat default).bd,true)
def CX:Fct:=⟨[.v (.sl .guess),.v (.el .addr)],[.sl .guess,.el .bd,.el .bool],fun(x_:(List SGuess)×SAddr×Unit)=>x_.1.length<=4194304,fun(x_:(List SGuess)×SAddr×Unit)=>((useGuess x_.1 x_.2.1).1,(useGuess x_.1 x_.2.1).2.1,(useGuess x_.1 x_.2.1).2.2,())⟩
def AiU:=AlA.a CX<|Fct.o (KP [0,3,4,5,6,7,8] [16]) AlA.2 func59 (by
 rintro⟨(l:List SGuess),(a:SAddr),_⟩ hp;refine ho (.ob (True)<|.ob (BM (0+List.length l) 104)<|.cl fFindGuess (l,a,()) fun(z2:Int×PUnit)=>.br (decide (z2.1<0)) (.cl fNotFound () fun z3=>.lf CX ([]++l,z3.1,false,())) (.ob (0<=z2.1/\z2.1<(↑([]++l).length:Int))<|.ob (z2.1.toNat<([]++l).length)<|.lt (List SGuess) (([]++l).modify z2.1.toNat fun z=>(⟨z.to,z.bd,true⟩:SGuess)) fun z4=>.ob (0<=z2.1/\z2.1<(↑(List.length l):Int))<|.lf CX (z4,(List.getD l z2.1.toNat default).bd,true,()))) ?_;refine Aa trivial fun _=>Aa ?_ fun o1=>Af ?_ fun o2=>(Ab (fun h3=>Af trivial fun _=>(lfY ?_)) (fun h3=>Aa ?_ fun o4=>Aa ?_ fun o5=>Du (Aa ?_ fun o6=>lfY ?_)))
 all_goals
  have hf:=Eg (fun g:SGuess=>decide (g.to=a)) l 0 (by omega);try simp only[Az] at *
  try simp only[fFindGuess,fNotFound,CX,std,Nat.reduceAdd,useGuess,findGuess,fFindGuess,fCopyGuesses,fNotFound] at *
  try simp(disch:=omega) only[wrapId',toNat1] at *
  try simp(disch:=omega) only[Qa2,Qa3]
 all_goals first|trivial|omega|grind[wrapId',toNat1,drop_cons,drop_end,good_len,maxLen,useGuess,findGuess,fFindGuess,fCopyGuesses,fNotFound])
def Ajf:=AiU.a CX<|Fct.o (KP [0,3,4,5,6,7,8] [15]) AiU.2 func66 (by
 rintro⟨(l:List SGuess),(a:SAddr),_⟩ hp;refine ho (.cl fCopyGuesses (l,()) fun z2=>.cl fFindGuess (l,a,()) fun(z3:Int×PUnit)=>.br (decide (z3.1<0)) (.cl fNotFound () fun z4=>.lf CX (z2.1,z4.1,false,())) (.ob (inB z3.1 z2.1.length)<|.ob (z3.1.toNat<z2.1.length)<|.lt (List SGuess) (z2.1.modify z3.1.toNat fun z=>(⟨z.to,z.bd,true⟩:SGuess)) fun z5=>.ob (0<=z3.1/\z3.1<(↑(List.length l):Int))<|.lf CX (z5,(List.getD l z3.1.toNat default).bd,true,()))) ?_;refine Af ?_ fun o1=>(Af ?_ fun o2=>(Ab (fun h3=>Af trivial fun _=>(lfY ?_)) (fun h3=>Aa ?_ fun o4=>Aa ?_ fun o5=>Du (Aa ?_ fun o6=>lfY ?_))))
 all_goals
  have hf:=Eg (fun g:SGuess=>decide (g.to=a)) l 0 (by omega);try simp only[Az] at *
  try simp only[fCopyGuesses,fFindGuess,fNotFound,CX,std,Nat.reduceAdd,useGuess,findGuess,fFindGuess,fCopyGuesses,fNotFound] at *
  try simp(disch:=omega) only[wrapId',toNat1] at *
  try simp(disch:=omega) only[Qa2,Qa3]
 all_goals first|trivial|omega|grind[wrapId',toNat1,drop_cons,drop_end,good_len,maxLen,useGuess,findGuess,fFindGuess,fCopyGuesses,fNotFound])
theorem Afy {α:Type} (f:α->Nat) (l:List α):szL f l=(l.map fun x=>f x+1).sum:=by
 induction l with
 | nil=>rfl
 | cons x l ih=>
  have h3:szL f (x::l)=f x+1+szL f l:=by simp only[szL,Qc9,List.sum_cons,Qa6];omega
  rw[h3,ih,Qc9,List.sum_cons]
theorem KX (b:UInt8) (s:ByteArray):szL Ac (spl b s)=s.size+1:=by
 rw[Afy,<-Bx,<-Sj b (toL s)];unfold spl;rw[Qg7];congr 1
def CH:Fct:=⟨[.v (.el .str),.v (.el .u8)],[.sl .str],fun(x_:ByteArray×Int×Unit)=>x_.1.size<=1099511627776/\0<=x_.2.1/\x_.2.1<=255,fun(x_:ByteArray×Int×Unit)=>(spl (UInt8.ofNat x_.2.1.toNat) x_.1,())⟩
theorem KI {s:ByteArray} {i:Nat} {b:Int} (h0:0<=b) (h1:b<=255):((s.data.getD i 0).toNat:Int)=b↔s.data.getD i 0=UInt8.ofNat b.toNat:=by
 constructor
 ·intro h;apply UInt8.toNat_inj.1;rw[UInt8.toNat_ofNat'];omega
 ·intro h;rw[h,UInt8.toNat_ofNat'];omega
abbrev Cb (s:ByteArray) (b:Int):LInv:=⟨[⟨.s,5,true,.sl .str⟩,⟨.s,6,true,.el .int⟩,⟨.s,7,true,.el .int⟩],fun _ (x_:(List ByteArray)×Int×Int×Unit)=>0<=x_.2.2.1/\x_.2.2.1<=s.size+1/\0<=x_.2.1/\x_.2.1<=x_.2.2.1/\x_.1.length<=x_.2.2.1/\x_.1++ID (UInt8.ofNat b.toNat) s x_.2.1.toNat x_.2.2.1.toNat=spl (UInt8.ofNat b.toNat) s,fun(x_:(List ByteArray)×Int×Int×Unit)=>(s.size+1-x_.2.2.1).toNat⟩
def AkH:=Ajf.a CH<|Fct.p (KP [0,1,4,5,6,7] [12,25]) (fun⟨s,b,_⟩=>lv [(4,Cb s b)]) Ajf.2 func301 (by
 rintro⟨(s:ByteArray),(b:Int),_⟩ hp;refine ho (let q3_:=Value.string s=Value.string s;let q2_:=(s.size:Int);let q1_:=Value.int IntKind.u8 b=Value.int IntKind.u8 b;lpx (Cb s b) ([],((0:Int),((0:Int),()))) fun(y1:List ByteArray×Int×Int×PUnit) bk1=>let q0_:Out:=.ob (0<=y1.2.1/\y1.2.1<=y1.2.2.1/\y1.2.2.1<=q2_)<|.ob (True)<|.ob (BM (y1.1.length+[s.extract y1.2.1.toNat y1.2.2.1.toNat].length) 16)<|.ob q3_<|.ob q1_<|.ob (bk1 (y1.1++[s.extract y1.2.1.toNat y1.2.2.1.toNat],(w1 y1.2.2.1,(w1 y1.2.2.1,()))))<|.ok;.br (decide (y1.2.2.1<=q2_)) (.br (y1.2.2.1==q2_) q0_ (.ob (0<=y1.2.2.1/\y1.2.2.1<q2_)<|.br ((↑(s.data.getD y1.2.2.1.toNat 0).toNat:Int)==b) q0_ (.ob q3_<|.ob q1_<|.ob (bk1 (y1.1,(y1.2.1,(w1 y1.2.2.1,()))))<|.ok))) (.lf CH (y1.1,()))) ?_;repeat' first|(guard_target =~ Out.holds _ _;first|refine Ay (li:=Cb s b) ?_ fun(y1:List ByteArray×Int×Int×PUnit) i1=>?_|refine lfY ?_|refine Ab (fun _=>?_) fun _=>?_|refine Aa ?_ fun _=>?_)|exact trivial
 all_goals obtain⟨hp1,hp2,hp3⟩:=hp
 all_goals
  try obtain⟨a1,a2,a3,a4,a5,a6⟩:=i1
  try obtain⟨a1,a2,a3,a4,a5,a6⟩:=i2
  try obtain⟨a1,a2,a3,a4,a5,a6⟩:=i3
  try simp only[Az] at *
  try simp only[Cb,CH,std,Nat.reduceAdd,Qa4,Qa6,Qb5,KI hp2 hp3] at *
  try simp(disch:=omega) only[wrapId',toNat1] at *
 all_goals first|trivial|omega|exact⟨by omega,by omega,by omega,by omega,by omega,Uy _ _⟩|skip
 all_goals first|(refine⟨⟨by omega,by omega,by omega,by omega,by omega,?_⟩,by omega⟩;rw[Ur _ (by omega)] at a6;rw[Oz _ (by omega),Qd7];exact a6)|(refine⟨⟨by omega,by omega,by omega,by omega,by omega,?_⟩,by omega⟩;rw[Wn (by omega) (by assumption)] at a6;rw[Qb4];exact a6)|(refine⟨⟨by omega,by omega,by omega,by omega,by omega,?_⟩,by omega⟩;rw[TL (by omega) (by omega) (by assumption)] at a6;exact a6)|(rw[Oz _ (by omega),Qd7] at a6;exact a6)|skip)
def polCand (s:ByteArray):SPolicy:=⟨true,(spl 32 ((spl 59 s).getD 0 default)).drop 1,(spl 32 ((spl 59 s).getD 1 default)).drop 1,(spl 32 ((spl 59 s).getD 2 default)).drop 1,if 3<(spl 59 s).length/\6<((spl 59 s).getD 3 default).size then((spl 59 s).getD 3 default).extract 6 ((spl 59 s).getD 3 default).size else⟨#[]⟩⟩
def parsePolicy (s:ByteArray):SPolicy×Bool:=if s=⟨#[]⟩ then(default,true) else if 3<=(spl 59 s).length/\formatPolicy (polCand s)=s then(polCand s,true) else(default,false)
theorem DV (b:UInt8) (s:ByteArray) (k:Nat):((spl b s).getD k default).size<=s.size:=by
 by_cases h:k<(spl b s).length
 ·exact HR (Bl h)
 ·rw[Qa7,List.getElem?_eq_none (by omega)];exact Nat.zero_le _
theorem RT {s n:ByteArray} (hn:n.size<=s.size):szPolicy ⟨true,(spl 32 ((spl 59 s).getD 0 default)).drop 1,(spl 32 ((spl 59 s).getD 1 default)).drop 1,(spl 32 ((spl 59 s).getD 2 default)).drop 1,n⟩<=4*(s.size+1):=by
 have h0:=DV 59 s 0;have h1:=DV 59 s 1;have h2:=DV 59 s 2;have d0:=Og Ac (spl 32 ((spl 59 s).getD 0 default)) 1;have d1:=Og Ac (spl 32 ((spl 59 s).getD 1 default)) 1;have d2:=Og Ac (spl 32 ((spl 59 s).getD 2 default)) 1;rw[KX] at d0 d1 d2;simp only[szPolicy];omega
def fParsePolicy:Fct:=⟨[.v (.el .str)],[.el .bj,.el .bool],fun(x_:ByteArray×Unit)=>x_.1.size<=200000000,fun(x_:ByteArray×Unit)=>((parsePolicy x_.1).1,(parsePolicy x_.1).2,())⟩
def Aji:=AkH.a fParsePolicy<|Fct.o (KP [0,2,3,4,5] [7,13,40,49]) AkH.2 func243 (by
 rintro⟨(s:ByteArray),_⟩ hp;refine ho (let q11_:=({ data := #[]:ByteArray });let q1_:Out:=.leaf (.tup [(true,[vb (false),.nl,.nl,.nl,vs q11_]),(false,[vb (false)])]) [] [];.br (ByteArray.toList s=={ data := #[]:ByteArray }.toList) (.leaf (.tup [(true,[vb (false),.nl,.nl,.nl,vs q11_]),(false,[vb (true)])]) [] []) (.ob (CH.pre (s,(59:Int),()))<|.lt (List ByteArray×PUnit) (CH.fn (s,(59:Int),())) fun z2=>let q12_:=(3:Nat)<z2.fst.length;let q6_:=(z2.fst.length:Int);let q10_:=(0:Int)<=(3:Int)/\(3:Int)<q6_;let q5_:=z2.fst.getD (3:Nat) default;.br (decide (q6_<(3:Int))) q1_ (.ob ((0:Int)<=(0:Int)/\(0:Int)<q6_)<|.ob ((0:Nat)<z2.fst.length)<|.ob (CH.pre (z2.fst.getD (0:Nat) default,(32:Int),()))<|.lt (List ByteArray×PUnit) (CH.fn (z2.fst.getD (0:Nat) default,(32:Int),())) fun z3=>let q2_:=z3.fst.length-(1:Nat);let q7_:=(1:Nat)+q2_<=z3.fst.length;.ob ((0:Int)<=(1:Int)/\(1:Int)<=(z3.fst.length:Int))<|.ob ((0:Int)<=(1:Int)/\(1:Int)<q6_)<|.ob ((1:Nat)<z2.fst.length)<|.ob (CH.pre (z2.fst.getD (1:Nat) default,(32:Int),()))<|.lt (List ByteArray×PUnit) (CH.fn (z2.fst.getD (1:Nat) default,(32:Int),())) fun z4=>let q3_:=z4.fst.length-(1:Nat);let q8_:=(1:Nat)+q3_<=z4.fst.length;.ob ((0:Int)<=(1:Int)/\(1:Int)<=(z4.fst.length:Int))<|.ob ((0:Int)<=(2:Int)/\(2:Int)<q6_)<|.ob ((2:Nat)<z2.fst.length)<|.ob (CH.pre (z2.fst.getD (2:Nat) default,(32:Int),()))<|.lt (List ByteArray×PUnit) (CH.fn (z2.fst.getD (2:Nat) default,(32:Int),())) fun z5=>let q4_:=z5.fst.length-(1:Nat);let q9_:=(1:Nat)+q4_<=z5.fst.length;let q0_:Out:=.ob q7_<|.ob q8_<|.ob q9_<|.ob (AI.pre ({ set_:=true,bp:=cut z3.fst (1:Nat) q2_,styles:=cut z4.fst (1:Nat) q3_,images:=cut z5.fst (1:Nat) q4_,nonce:={ data := #[]:ByteArray }:SPolicy },()))<|.lt (ByteArray×PUnit) (AI.fn ({ set_:=true,bp:=cut z3.fst (1:Nat) q2_,styles:=cut z4.fst (1:Nat) q3_,images:=cut z5.fst (1:Nat) q4_,nonce:={ data := #[]:ByteArray }:SPolicy },())) fun z7=>.br (!z7.fst.toList==ByteArray.toList s) q1_ (.ob q7_<|.ob q8_<|.ob q9_<|.leaf (mkR fParsePolicy.rs (⟨true,cut z3.fst (1:Nat) q2_,cut z4.fst (1:Nat) q3_,cut z5.fst (1:Nat) q4_,{ data := #[]:ByteArray }⟩,true,())) [] []);.ob ((0:Int)<=(1:Int)/\(1:Int)<=(z5.fst.length:Int))<|.br (decide (q6_>(3:Int))) (.ob q10_<|.ob q12_<|.br (decide ((q5_.size:Int)>(6:Int))) (.ob q10_<|.ob q12_<|.ob ((0:Int)<=(6:Int)/\(6:Int)<=(q5_.size:Int))<|.ob q7_<|.ob q8_<|.ob q9_<|.ob (AI.pre ({ set_:=true,bp:=cut z3.fst (1:Nat) q2_,styles:=cut z4.fst (1:Nat) q3_,images:=cut z5.fst (1:Nat) q4_,nonce:=q5_.extract (6:Nat) q5_.size:SPolicy },()))<|.lt (ByteArray×PUnit) (AI.fn ({ set_:=true,bp:=cut z3.fst (1:Nat) q2_,styles:=cut z4.fst (1:Nat) q3_,images:=cut z5.fst (1:Nat) q4_,nonce:=q5_.extract (6:Nat) q5_.size:SPolicy },())) fun z6=>.br (!z6.fst.toList==ByteArray.toList s) q1_ (.ob q7_<|.ob q8_<|.ob q9_<|.leaf (mkR fParsePolicy.rs (⟨true,cut z3.fst (1:Nat) q2_,cut z4.fst (1:Nat) q3_,cut z5.fst (1:Nat) q4_,q5_.extract (6:Nat) q5_.size⟩,true,())) [] [])) q0_) q0_))) ?_;refine Ab (fun h1=>Fct.leafZ (default,true,()) (by repeat' first|exact rfl|exact trivial|refine And.intro ?_ ?_) ?_) (fun h1=>Aa ?_ fun o2=>Du (Ab (fun h3=>Fct.leafZ (default,false,()) (by repeat' first|exact rfl|exact trivial|refine And.intro ?_ ?_) ?_) (fun h3=>Aa ?_ fun o4=>Aa ?_ fun o5=>Aa ?_ fun o6=>Du (Aa ?_ fun o7=>Aa ?_ fun o8=>Aa ?_ fun o9=>Aa ?_ fun o10=>Du (Aa ?_ fun o11=>Aa ?_ fun o12=>Aa ?_ fun o13=>Aa ?_ fun o14=>Du (Aa ?_ fun o15=>Ab (fun h16=>Aa ?_ fun o17=>Aa ?_ fun o18=>Ab (fun h19=>Aa ?_ fun o20=>Aa ?_ fun o21=>Aa ?_ fun o22=>Aa ?_ fun o23=>Aa ?_ fun o24=>Aa ?_ fun o25=>Aa ?_ fun o26=>Du (Ab (fun h27=>Fct.leafZ (default,false,()) (by repeat' first|exact rfl|exact trivial|refine And.intro ?_ ?_) ?_) (fun h27=>Aa ?_ fun o28=>Aa ?_ fun o29=>Aa ?_ fun o30=>Fct.leafY ?_))) (fun h19=>Aa ?_ fun o31=>Aa ?_ fun o32=>Aa ?_ fun o33=>Aa ?_ fun o34=>Du (Ab (fun h35=>Fct.leafZ (default,false,()) (by repeat' first|exact rfl|exact trivial|refine And.intro ?_ ?_) ?_) (fun h35=>Aa ?_ fun o36=>Aa ?_ fun o37=>Aa ?_ fun o38=>Fct.leafY ?_)))) (fun h16=>Aa ?_ fun o39=>Aa ?_ fun o40=>Aa ?_ fun o41=>Aa ?_ fun o42=>Du (Ab (fun h43=>Fct.leafZ (default,false,()) (by repeat' first|exact rfl|exact trivial|refine And.intro ?_ ?_) ?_) (fun h43=>Aa ?_ fun o44=>Aa ?_ fun o45=>Aa ?_ fun o46=>Fct.leafY ?_)))))))));all_goals
  try simp only[Az] at *
  try simp only[AI,fParsePolicy,CH,std,Nat.reduceAdd,XT] at *
  try simp only[show UInt8.ofNat (Int.toNat 59)=59 from rfl,show UInt8.ofNat (Int.toNat 32)=32 from rfl] at *
 all_goals
  have g0:=DV 59 s 0;have g1:=DV 59 s 1;have g2:=DV 59 s 2;have g3:=DV 59 s 3;have k0:=DH 32 ((spl 59 s).getD 0 default);have k1:=DH 32 ((spl 59 s).getD 1 default);have k2:=DH 32 ((spl 59 s).getD 2 default)
 all_goals first|trivial|omega|(with_reducible refine Qe6 (RT (Nat.zero_le _)) ?_;omega)|(with_reducible refine Qe6 (RT ?_) ?_;(rw[Qc3];omega);omega)|skip
 all_goals first|(simp only[parsePolicy];rw[Qa2 (by assumption)];exact⟨rfl,rfl⟩)|(simp only[parsePolicy];rw[Qa3 (by assumption),Qa3 (by omega)];exact⟨rfl,rfl⟩)|(simp only[parsePolicy,polCand];grind)|skip)
def isResponse (x:SResponse):Bool:=inRange x.status 100 599&&(inRange x.kind 1 5&&(decide (x.body.size<=400)&&(inRange x.age 0 1000&&(parsePolicy x.bj).2)))
def fIsResponse:Fct:=⟨[.v (.el .bd)],[.el .bool],fun(x_:SResponse×Unit)=>x_.1.bj.size<=200000000,fun(x_:SResponse×Unit)=>(isResponse x_.1,())⟩
def AkL:=Aji.a fIsResponse<|Fct.o [1,2,4] Aji.2 func161 (by
 rintro⟨(x:SResponse),_⟩ hp;refine ho (.cl fParsePolicy (x.bj,()) fun z2=>.cl fInRange (x.status,(100:Int),(599:Int),()) fun z3=>.br (z3.1) (.cl fInRange (x.kind,(1:Int),(5:Int),()) fun z4=>.br (z4.1) (.br (decide ((x.body.size:Int)<=400)) (.cl fInRange (x.age,(0:Int),(1000:Int),()) fun z5=>.br (z5.1) (.lf fIsResponse (z2.2.1,())) (.lf fIsResponse (false,()))) (.lf fIsResponse (false,()))) (.lf fIsResponse (false,()))) (.lf fIsResponse (false,()))) ?_;repeat' first|(guard_target =~ Out.holds _ _;first|refine lfY ?_|refine Ab (fun _=>?_) fun _=>?_|refine Af ?_ fun _=>?_)|exact trivial
 all_goals
  try simp only[Az] at *
  try simp only[fInRange,fIsResponse,fParsePolicy,std,Nat.reduceAdd,isResponse,fParsePolicy,fInRange] at *
  try simp(disch:=omega) only[wrapId',toNat1] at *
  try simp(disch:=omega) only[Qa2,Qa3]
 all_goals first|trivial|omega|grind[wrapId',toNat1,drop_cons,drop_end,good_len,maxLen,isResponse,fParsePolicy,fInRange])
def entOk (all:List SEntry):List SEntry->Int->Bool
 | [],_=>true
 | e::l,i=>isName e.top&&(isName e.to.host&&isName e.to.path)&&isResponse e.bd&&decide (e.bd.status=200)&&decide (fidx (fun x=>decide (x.top=e.top)&&decide (x.to=e.to)) all 0=i)&&entOk all l (i+1)
theorem entOk_at {all l:List SEntry} {i:Nat} {k:Int} (h:i<l.length):entOk all (l.drop i) k=(isName (l.getD i default).top&&(isName (l.getD i default).to.host&&isName (l.getD i default).to.path)&&isResponse (l.getD i default).bd&&decide ((l.getD i default).bd.status=200)&&decide (fidx (fun x=>decide (x.top=(l.getD i default).top)&&decide (x.to=(l.getD i default).to)) all 0=k)&&entOk all (l.drop (i+1)) (k+1)):=by rw[drop_cons h];rfl
theorem entOk_end {all l:List SEntry} {i:Nat} {k:Int} (h:l.length<=i):entOk all (l.drop i) k=true:=by rw[Qb9 h];rfl
def isCache (c:SCache):Bool:=entOk c.bg c.bg 0&&decide (c.bg.length<=100)
def fIsCache:Fct:=⟨[.v (.el .cache)],[.el .bool],fun(x_:SCache×Unit)=>szCache x_.1<=200000000,fun(x_:SCache×Unit)=>(isCache x_.1,())⟩
theorem Kt {l:List SEntry} {i:Nat} (h:i<l.length):AK (l.getD i default)+l.length<=szL AK l:=Dx AK h
abbrev B7 (c:SCache):LInv:=⟨[⟨.s,3,true,.el .int⟩,⟨.b,1,false,.el .cache⟩],fun(z_ x_:Int×SCache×Unit)=>(0<=x_.1/\x_.1<=c.bg.length/\entOk c.bg (c.bg.drop x_.1.toNat) x_.1=entOk c.bg c.bg 0)/\x_.2.1=z_.2.1,fun(x_:Int×SCache×Unit)=>c.bg.length-x_.1.toNat⟩
def Amf:=AkL.a fIsCache<|Fct.p (KP [1,2,3,4] [9,48]) (fun⟨c,_⟩=>lv [(2,B7 c)]) AkL.2 func244 (by
 rintro⟨(c:SCache),_⟩ hp;refine ho (let q1_:Out:=.lf fIsCache (false,());lpx (B7 c) ((0:Int),(c,())) fun(y1:Int×SCache×PUnit) bk1=>let q2_:=(y1.2.1.bg.length:Int);let q0_:=y1.2.1.bg.getD y1.1.toNat default;.br (decide (y1.1<q2_)) (.ob (inB y1.1 y1.2.1.bg.length)<|.cl fIsName (q0_.top,()) fun z2=>.br (!z2.1) q1_ (.cl fIsAddr (q0_.to,()) fun z3=>.br (!z3.1) q1_ (.cl fIsResponse (q0_.bd,()) fun z4=>.br (!z4.1) q1_ (.br (q0_.bd.status != 200) q1_ (.cl fFindEntry (y1.2.1,q0_.top,q0_.to,()) fun(z5:Int×PUnit)=>.br (z5.1 != y1.1) q1_ (.ob (bk1 (w1 y1.1,(y1.2.1,())))<|.ok)))))) (.lf fIsCache (decide (q2_<=100),()))) ?_;repeat' first|(guard_target =~ Out.holds _ _;first|refine Ay (li:=B7 c) ?_ fun(y1:Int×SCache×PUnit) i1=>?_|refine lfY ?_|refine Ab (fun _=>?_) fun _=>?_|refine Af ?_ fun _=>?_|refine Aa ?_ fun _=>?_)|exact trivial
 all_goals
  have hl:=Ad AK c.bg;have hg:∀ i,i<c.bg.length->(c.bg.getD i default).top.size<=200000000/\(c.bg.getD i default).to.host.size<=200000000/\(c.bg.getD i default).to.path.size<=200000000/\(c.bg.getD i default).bd.bj.size<=200000000:=fun i h=>by have:=Kt h;have hp2:szCache c<=200000000:=hp;simp only[AK,szCache,szAddr,Ae] at *;omega
  try simp only[Az] at *
  try simp only[B7,fFindEntry,fIsAddr,fIsCache,fIsName,fIsResponse,std,Nat.reduceAdd,isCache,fIsName,fIsAddr,fIsResponse,fFindEntry,szCache,entOk_at,entOk_end] at *
  try simp(disch:=omega) only[wrapId',toNat1] at *
  try simp(disch:=omega) only[Qa2,Qa3]
 all_goals first|trivial|omega|grind[wrapId',toNat1,drop_cons,drop_end,good_len,maxLen,isCache,fIsName,fIsAddr,fIsResponse,fFindEntry,szCache,entOk_at,entOk_end])
theorem AaK:Go.Proofs.Lays.n101 Tryz.prog laysCmp_r:=by repeat' first|kernel_rfl|constructor|intro _
def Amh:=Amf.a EO<|AcU (Go.Proofs.Any.strings_TrimPrefix AaK)
theorem Xd:Go.Proofs.Lays.n146 Tryz.prog laysCmp_r:=by repeat' first|kernel_rfl|constructor|intro _
def Al7:=Amh.a DY<|Aan fun s sep w h hs h1=>by obtain⟨m,hm⟩:=Kb (zero := #[.int .i64 0]) (t:=3) (g:=laysCmp_r.g 1) h (Qf9 (by kernel_rfl)) (by kernel_rfl) rfl (by kernel_rfl) (by kernel_rfl) Tryz.underlying3;exact Go.Proofs.Any.strings_Split Xd (by kernel_rfl) s sep m w hs hm h1
theorem RW:Go.Proofs.Lays.n156 Tryz.prog laysCmp_r:=by repeat' first|kernel_rfl|constructor|intro _
theorem O6:Go.Proofs.Builder.Extra Tryz.prog laysCmp_r:=⟨⟨by kernel_rfl,by kernel_rfl⟩,by kernel_rfl,fun _=>by kernel_rfl,fun _=>by kernel_rfl,fun _=>by kernel_rfl,by kernel_rfl,by kernel_rfl,by kernel_rfl,by decide⟩
def Ali:=Al7.a KE<|AcM (fun _ _=>trivial) (Go.Proofs.Any.strings_Join_none RW O6) (Go.Proofs.Any.strings_Join RW O6)
theorem Mr (sep x:List UInt8):∀ l:List (List UInt8),M3 sep (x::l)=x++(l.map (sep++·)).flatten
 | []=>by simp[M3]
 | y::l=>by rw[M3,Mr sep y l,Qc9,List.flatten_cons];simp
theorem IY:∀ (l:List ByteArray) (w:ByteArray),toL (words9 w l)=toL w++(l.map fun x=>32::toL x).flatten
 | [],w=>by simp[words9]
 | x::l,w=>by rw[words9,IY l,Ek,Ek,Qc9,List.flatten_cons];simp[toL]
theorem Qp (w:ByteArray) (l:List ByteArray):I7 (w::l) ⟨#[32]⟩=words9 w l:=by
 unfold I7;rw[<-C9 (words9 w l),IY,Qc9,Mr,Qg7];congr 2
def Ajw:=Ali.a AI<|Fct.o (KP [1,2,3] [11,33]) Ali.2 func295 (by
 rintro⟨(p:SPolicy),_⟩ hp;refine ho (let q4_:=(⟨#[]⟩:ByteArray);let q3_:=(⟨#[32]⟩:ByteArray);let q2_:Out:=.lf AI (q4_,());let q1_:=(⟨#[59,110,111,110,99,101,32]⟩:ByteArray);let q0_:=(⟨#[59]⟩:ByteArray);.cl Bu (p,()) fun z2=>.br (!z2.1) q2_ (.br (!p.set_) q2_ (.ob (True)<|.ob (BM (1+p.bp.length) 16)<|.cl KE ([(⟨#[115,99,114,105,112,116]⟩:ByteArray)]++p.bp,q3_,()) fun z3=>.ob (sameSize z3.1 q0_)<|.ob (True)<|.ob (BM (1+p.styles.length) 16)<|.cl KE ([(⟨#[115,116,121,108,101]⟩:ByteArray)]++p.styles,q3_,()) fun z4=>.ob (sameSize (z3.1++q0_) z4.1)<|.ob (sameSize (z3.1++q0_++z4.1) q0_)<|.ob (True)<|.ob (BM (1+p.images.length) 16)<|.cl KE ([(⟨#[105,109,103]⟩:ByteArray)]++p.images,q3_,()) fun z5=>.ob (sameSize (z3.1++q0_++z4.1++q0_) z5.1)<|.br (!p.nonce.toList==q4_.toList) (.ob (sameSize q1_ p.nonce)<|.ob (sameSize (z3.1++q0_++z4.1++q0_++z5.1) (q1_++p.nonce))<|.lf AI (z3.1++q0_++z4.1++q0_++z5.1++(q1_++p.nonce),())) (.lf AI (z3.1++q0_++z4.1++q0_++z5.1,()))))) ?_;refine Af ?_ fun o1=>(Ab (fun h2=>lfY ?_) (fun h2=>Ab (fun h3=>lfY ?_) (fun h3=>Aa trivial fun _=>Aa ?_ fun o4=>Af ?_ fun o5=>(Aa ?_ fun o6=>Aa trivial fun _=>Aa ?_ fun o7=>Af ?_ fun o8=>(Aa ?_ fun o9=>Aa ?_ fun o10=>Aa trivial fun _=>Aa ?_ fun o11=>Af ?_ fun o12=>(Aa ?_ fun o13=>Ab (fun h14=>Aa ?_ fun o15=>Aa ?_ fun o16=>lfY ?_) (fun h14=>lfY ?_)))))))
 all_goals
  try simp only[Az] at *
  try simp only[AI,Bu,KE,std,Nat.reduceAdd,KE,List.singleton_append,Qp] at *
 all_goals first|trivial|omega|skip
 all_goals try (have hA:isPolicy p=true:=(by assumption);have hB:p.set_=true:=(by assumption);obtain⟨a1,a2,a3,a4,a5,a6,a7⟩:=GR hA hB)
 all_goals
  try have b1:=Fy (w:=⟨#[115,99,114,105,112,116]⟩) a1 a2 (by decide)
  try have b2:=Fy (w:=⟨#[115,116,121,108,101]⟩) a3 a4 (by decide)
  try have b3:=Fy (w:=⟨#[105,109,103]⟩) a5 a6 (by decide)
  try simp only[Az] at *
  try simp only[AI,Bu,KE,std,Nat.reduceAdd,formatPolicy,sameSize,Qb7,ByteArray.append_assoc] at *
  try simp(disch:=omega) only[wrapId',toNat1] at *
  try simp(disch:=omega) only[Qa2,Qa3]
 all_goals first|trivial|omega|grind[wrapId',toNat1,drop_cons,drop_end,good_len,maxLen,formatPolicy,sameSize,ByteArray.size_append,ByteArray.append_assoc])
theorem Ad4 {b:UInt8} (hb:nameByte b=false) {s:ByteArray} (h:isName s=true):b∉toL s:=by
 intro hm;simp only[isName,Qa1,allB,Qc4] at h;rw[h.1 b hm] at hb;cases hb
theorem Lt {b:UInt8} (hb:nameByte b=false) (h32:b≠32) {l:List ByteArray} {w:ByteArray} (hl:l.all isName=true) (hw:b∉toL w):b∉toL (words9 w l):=by
 rw[IY];simp only[Qc0,not_or,List.mem_flatten,Qg5,not_exists,not_and];refine⟨hw,?_⟩;rintro _ ⟨x,hx,rfl⟩ hm;rcases Qd3.1 hm with rfl|hm
 ·exact h32 rfl
 ·exact Ad4 hb (Qc4.1 hl x hx) hm
theorem Nz {b:UInt8} (hb:valByte b=false) {s:ByteArray} (h:isValue s=true):b∉toL s:=by
 intro hm;simp only[isValue,Qa1,allB,Qc4] at h;rw[h.1 b hm] at hb;cases hb
theorem Yg {b:UInt8} {s:ByteArray} (h:b∉toL s):spl b s=[s]:=by
 unfold spl;rw[OX h];simp[C9]
theorem H5 {b:UInt8} {s t:ByteArray} (h:b∉toL s):spl b (s++⟨#[b]⟩++t)=s::spl b t:=by
 unfold spl;rw[Ek,Ek,show toL ⟨#[b]⟩=[b] from rfl,Qb4,List.singleton_append,RS _ h,Qc9,C9]
theorem TC {q:SPolicy} (hp:isPolicy q=true) (hs:q.set_=true):(q.nonce=⟨#[]⟩/\(spl 59 (formatPolicy q)).length=3)\/(q.nonce≠⟨#[]⟩/\(spl 59 (formatPolicy q)).length=4/\(spl 59 (formatPolicy q)).getD 3 default=⟨#[110,111,110,99,101,32]⟩++q.nonce):=by
 obtain⟨a1,a2,a3,a4,a5,a6,a7⟩:=GR hp hs;have b1:=Lt (b:=59) rfl (by decide) a1 (w:=⟨#[115,99,114,105,112,116]⟩) (by decide);have b2:=Lt (b:=59) rfl (by decide) a3 (w:=⟨#[115,116,121,108,101]⟩) (by decide);have b3:=Lt (b:=59) rfl (by decide) a5 (w:=⟨#[105,109,103]⟩) (by decide);by_cases hn:q.nonce=⟨#[]⟩
 ·refine .inl ⟨hn,?_⟩;have e:formatPolicy q=words9 ⟨#[115,99,114,105,112,116]⟩ q.bp++⟨#[59]⟩++(words9 ⟨#[115,116,121,108,101]⟩ q.styles++⟨#[59]⟩++words9 ⟨#[105,109,103]⟩ q.images):=by unfold formatPolicy;rw[Qa2 (by simp[hp,hs]),Qa2 hn];simp only[ByteArray.append_assoc]
  rw[e,H5 b1,H5 b2,Yg b3];rfl
 ·refine .inr ⟨hn,?_⟩;have hv:isValue q.nonce=true:=by simp only[isPolicy,hs,Qe9,Qa1,Qf8,Qa9] at hp;exact hp.2.resolve_left hn
  have b4:(59:UInt8)∉toL (⟨#[110,111,110,99,101,32]⟩++q.nonce):=by rw[Ek,Qc0,not_or];exact⟨by decide,Nz rfl hv⟩
  have e:formatPolicy q=words9 ⟨#[115,99,114,105,112,116]⟩ q.bp++⟨#[59]⟩++(words9 ⟨#[115,116,121,108,101]⟩ q.styles++⟨#[59]⟩++(words9 ⟨#[105,109,103]⟩ q.images++⟨#[59]⟩++(⟨#[110,111,110,99,101,32]⟩++q.nonce))):=by
   unfold formatPolicy;rw[Qa2 (by simp[hp,hs]),Qa3 hn];have:(⟨#[59,110,111,110,99,101,32]⟩:ByteArray)=⟨#[59]⟩++⟨#[110,111,110,99,101,32]⟩:=by decide
   rw[this];simp only[ByteArray.append_assoc]
  rw[e,H5 b1,H5 b2,H5 b3,Yg b4];exact⟨rfl,rfl⟩
def polCandI (s:ByteArray):SPolicy:={ polCand s with nonce:=if 3<(spl 59 s).length then NH ((spl 59 s).getD 3 default) ⟨#[110,111,110,99,101,32]⟩ else⟨#[]⟩}
theorem XG {q:SPolicy} {s:ByteArray} (h:formatPolicy q=s) (hs:s≠⟨#[]⟩):isPolicy q=true/\q.set_=true:=by
 unfold formatPolicy at h;split at h
 ·rename_i hc;simpa using hc
 ·exact absurd h.symm hs
theorem Vt (n:ByteArray):NH (⟨#[110,111,110,99,101,32]⟩++n) ⟨#[110,111,110,99,101,32]⟩=n:=by
 unfold NH Go.Lib.trimPrefix Go.Lib.hasPrefix;apply ByteArray.ext;simp
theorem AaR (n:ByteArray):(⟨#[110,111,110,99,101,32]⟩++n:ByteArray).extract 6 (⟨#[110,111,110,99,101,32]⟩++n:ByteArray).size=n:=by
 rw[<-C9 (ByteArray.extract _ _ _),A2,Ek,Qb6 (by rw[Qa4,Bx,Bx,Qb7];exact Qb0 _)];rw[show toL ⟨#[110,111,110,99,101,32]⟩=[110,111,110,99,101,32] from rfl];simp only[Qf4,Qg2,List.drop_succ_cons,Qf0,C9]
theorem XI {s:ByteArray} (hs:s≠⟨#[]⟩):(formatPolicy (polCandI s)=s↔formatPolicy (polCand s)=s)/\(formatPolicy (polCand s)=s->polCandI s=polCand s):=by
 have key:∀ q:SPolicy,formatPolicy q=s->(3<(spl 59 s).length->q.nonce=NH ((spl 59 s).getD 3 default) ⟨#[110,111,110,99,101,32]⟩/\q.nonce=(if 3<(spl 59 s).length/\6<((spl 59 s).getD 3 default).size then((spl 59 s).getD 3 default).extract 6 ((spl 59 s).getD 3 default).size else⟨#[]⟩)):=by
  intro q hq hl;obtain⟨h1,h2⟩:=XG hq hs;rcases TC h1 h2 with⟨_,h3⟩|⟨h3,h4,h5⟩
  ·rw[hq] at h3;omega
  ·rw[hq] at h4 h5;rw[h5,Vt];refine⟨rfl,?_⟩;have hsz:0<q.nonce.size:=by
    rcases Nat.eq_zero_or_pos q.nonce.size with h|h
    ·exact absurd (ByteArray.ext (Array.eq_empty_of_size_eq_zero h)) h3
    ·exact h
   rw[Qa2 ⟨hl,by rw[Qb7,show ByteArray.size ⟨#[110,111,110,99,101,32]⟩=6 from rfl];omega⟩,AaR]
 have same:(formatPolicy (polCandI s)=s\/formatPolicy (polCand s)=s)->polCandI s=polCand s:=by
  intro h;by_cases hl:3<(spl 59 s).length
  ·have hn:(polCandI s).nonce=(polCand s).nonce:=by
    have e1:(polCandI s).nonce=NH ((spl 59 s).getD 3 default) ⟨#[110,111,110,99,101,32]⟩:=by simp only[polCandI];rw[Qa2 hl]
    rcases h with h|h
    ·exact(key _ h hl).2
    ·rw[e1];exact(key _ h hl).1.symm
   have e:polCandI s={ polCand s with nonce:=(polCandI s).nonce }:=rfl;rw[e,hn]
  ·have e:polCandI s={ polCand s with nonce:=(polCandI s).nonce }:=rfl;have h1:(polCandI s).nonce=⟨#[]⟩:=by simp only[polCandI];rw[Qa3 hl]
   have h2:(polCand s).nonce=⟨#[]⟩:=by simp only[polCand];rw[Qa3 (fun hh=>hl hh.1)]
   rw[e,h1,<-h2]
 exact⟨⟨fun h=>same (.inl h)▸h,fun h=>(same (.inr h)).symm▸h⟩,fun h=>same (.inr h)⟩
theorem Aem {s:ByteArray} (h1:s≠⟨#[]⟩) (h3:3<=(spl 59 s).length) {q:SPolicy} (hq:q=polCandI s):(formatPolicy q≠s->parsePolicy s=(default,false))/\(formatPolicy q=s->parsePolicy s=(q,true)):=by
 subst hq;have hc:=XI h1;unfold parsePolicy;rw[Qa3 h1];refine⟨fun h=>?_,fun h=>?_⟩
 ·rw[Qa3];rintro⟨_,h4⟩;exact h (hc.1.2 h4)
 ·have h4:=hc.1.1 h;rw[Qa2 ⟨h3,h4⟩,hc.2 h4]
theorem AcO {s:ByteArray} (h:3<(spl 59 s).length):(⟨true,(spl 32 ((spl 59 s).getD 0 default)).drop 1,(spl 32 ((spl 59 s).getD 1 default)).drop 1,(spl 32 ((spl 59 s).getD 2 default)).drop 1,NH ((spl 59 s).getD 3 default) ⟨#[110,111,110,99,101,32]⟩⟩:SPolicy)=polCandI s:=by
 unfold polCandI polCand;rw[Qa2 h]
theorem Aes {s:ByteArray} (h:¬ 3<(spl 59 s).length):(⟨true,(spl 32 ((spl 59 s).getD 0 default)).drop 1,(spl 32 ((spl 59 s).getD 1 default)).drop 1,(spl 32 ((spl 59 s).getD 2 default)).drop 1,⟨#[]⟩⟩:SPolicy)=polCandI s:=by
 unfold polCandI polCand;rw[Qa3 h]
theorem TK (s p:ByteArray):(NH s p).size<=s.size:=by
 unfold NH Go.Lib.trimPrefix;rw[show ∀ l:List UInt8,ByteArray.size ⟨l.toArray⟩=l.length from fun l=>by simp[ByteArray.size]];split
 ·rw[Qe2];exact Nat.sub_le _ _
 ·exact Qb0 _
def AjZ:=Ajw.a fParsePolicy<|Fct.o [0,2,3,4,5,6,7,9,15,18,19,39,48,1000009,1000015,1000019,1000039,1000048,64000516,200000019] Ajw.2 func217 (by
 rintro⟨(s:ByteArray),_⟩ hp;refine ho (let q8_:=(⟨#[32]⟩:ByteArray);let q7_:=(0:Int)<=(2:Int)/\(2:Int)<(3:Int);let q6_:=(0:Int)<=(1:Int)/\(1:Int)<(3:Int);let q5_:=(0:Int)<=(0:Int)/\(0:Int)<(3:Int);let q4_:=(⟨#[]⟩:ByteArray);let q0_:Out:=.leaf (.tup [(true,[vb (false),.nl,.nl,.nl,vs (q4_)]),(false,[vb (false)])]) [] [];.br (ByteArray.toList s==q4_.toList) (.leaf (.tup [(true,[vb (false),.nl,.nl,.nl,vs (q4_)]),(false,[vb (true)])]) [] []) (.cl DY (s,(⟨#[59]⟩:ByteArray),()) fun z2=>let q3_:=(z2.1.length:Int);.br (decide (q3_<3)) q0_ (.ob ((0:Int)<=(0:Int)/\(0:Int)<q3_)<|.ob (0<z2.1.length)<|.cl DY (z2.1.getD 0 default,q8_,()) fun z3=>let q9_:=z3.1.length-1;.ob ((0:Int)<=(1:Int)/\(1:Int)<=(z3.1.length:Int))<|.ob q5_<|.ob (1+q9_<=z3.1.length)<|.ob ((0:Int)<=(1:Int)/\(1:Int)<q3_)<|.ob (1<z2.1.length)<|.cl DY (z2.1.getD 1 default,q8_,()) fun z4=>let q10_:=z4.1.length-1;.ob ((0:Int)<=(1:Int)/\(1:Int)<=(z4.1.length:Int))<|.ob q6_<|.ob (1+q10_<=z4.1.length)<|.ob ((0:Int)<=(2:Int)/\(2:Int)<q3_)<|.ob (2<z2.1.length)<|.cl DY (z2.1.getD 2 default,q8_,()) fun z5=>let q11_:=z5.1.length-1;let q1_:=(⟨true,cut z3.1 1 q9_,cut z4.1 1 q10_,cut z5.1 1 q11_,q4_⟩:SPolicy);.ob ((0:Int)<=(1:Int)/\(1:Int)<=(z5.1.length:Int))<|.ob q7_<|.ob (1+q11_<=z5.1.length)<|.ob q5_<|.ob q6_<|.ob q7_<|.br (decide (q3_>3)) (.ob ((0:Int)<=(3:Int)/\(3:Int)<q3_)<|.ob (3<z2.1.length)<|.cl EO (z2.1.getD 3 default,(⟨#[110,111,110,99,101,32]⟩:ByteArray),()) fun z6=>let q2_:=(⟨true,cut z3.1 1 q9_,cut z4.1 1 q10_,cut z5.1 1 q11_,z6.1⟩:SPolicy);.cl AI (q2_,()) fun z7=>.br (!z7.1.toList==ByteArray.toList s) q0_ (.cl fCopyPolicy (q2_,()) fun z8=>.lf fParsePolicy (z8.1,true,()))) (.cl AI (q1_,()) fun z9=>.br (!z9.1.toList==ByteArray.toList s) q0_ (.cl fCopyPolicy (q1_,()) fun z10=>.lf fParsePolicy (z10.1,true,())))))) ?_;refine Ab (fun h1=>Fct.leafZ (default,true,()) (by repeat' first|exact rfl|exact trivial|refine And.intro ?_ ?_) ?_) (fun h1=>Af ?_ fun o2=>(Ab (fun h3=>Fct.leafZ (default,false,()) (by repeat' first|exact rfl|exact trivial|refine And.intro ?_ ?_) ?_) (fun h3=>Aa ?_ fun o4=>Aa ?_ fun o5=>Af ?_ fun o6=>(Aa ?_ fun o7=>Aa ?_ fun o8=>Aa ?_ fun o9=>Aa ?_ fun o10=>Aa ?_ fun o11=>Af ?_ fun o12=>(Aa ?_ fun o13=>Aa ?_ fun o14=>Aa ?_ fun o15=>Aa ?_ fun o16=>Aa ?_ fun o17=>Af ?_ fun o18=>(Aa ?_ fun o19=>Aa ?_ fun o20=>Aa ?_ fun o21=>Aa ?_ fun o22=>Aa ?_ fun o23=>Aa ?_ fun o24=>Ab (fun h25=>Aa ?_ fun o26=>Aa ?_ fun o27=>Af trivial fun _=>(Af ?_ fun o28=>(Ab (fun h29=>Fct.leafZ (default,false,()) (by repeat' first|exact rfl|exact trivial|refine And.intro ?_ ?_) ?_) (fun h29=>Af ?_ fun o30=>(lfY ?_))))) (fun h25=>Af ?_ fun o31=>(Ab (fun h32=>Fct.leafZ (default,false,()) (by repeat' first|exact rfl|exact trivial|refine And.intro ?_ ?_) ?_) (fun h32=>Af ?_ fun o33=>(lfY ?_))))))))));all_goals
  try simp only[Az] at *
  try simp only[fCopyPolicy,AI,fParsePolicy,DY,EO,std,Nat.reduceAdd,DY,EO,XT] at *
  try simp only[show(ByteArray.mk #[59]).data.getD 0 0=59 from rfl,show(ByteArray.mk #[32]).data.getD 0 0=32 from rfl,show(ByteArray.mk #[59]).size=1 from rfl,show(ByteArray.mk #[32]).size=1 from rfl] at *
 all_goals
  have g0:=DV 59 s 0;have g1:=DV 59 s 1;have g2:=DV 59 s 2;have g3:=DV 59 s 3;have k0:=DH 32 ((spl 59 s).getD 0 default);have k1:=DH 32 ((spl 59 s).getD 1 default);have k2:=DH 32 ((spl 59 s).getD 2 default);have tz:=TK ((spl 59 s).getD 3 default) ⟨#[110,111,110,99,101,32]⟩
 all_goals first|trivial|omega|(with_reducible refine Qe6 (RT (Nat.zero_le _)) ?_;omega)|(with_reducible refine Qe6 (RT ?_) ?_;omega;omega)|skip
 all_goals first|(simp only[parsePolicy];rw[Qa2 (by assumption)];exact⟨rfl,rfl⟩)|(simp only[parsePolicy];rw[Qa3 (by assumption),Qa3 (by omega)];exact⟨rfl,rfl⟩)|skip
 all_goals first|(have hq:=AcO (s:=s) (by omega))|(have hq:=Aes (s:=s) (by omega))
 all_goals obtain⟨p1,p2⟩:=Aem (by assumption) (by omega) hq
 all_goals first|(rw[p1 (by assumption)];exact⟨rfl,rfl⟩)|(rw[p2 (by assumption)];exact⟨rfl,rfl⟩))
def Akg:=AjZ.a fIsResponse<|Fct.o [1,2,4] AjZ.2 func116 (by
 rintro⟨(x:SResponse),_⟩ hp;refine ho (.cl fParsePolicy (x.bj,()) fun z2=>.br (z2.2.1) (.cl fInRange (x.status,(100:Int),(599:Int),()) fun z3=>.br (z3.1) (.cl fInRange (x.kind,(1:Int),(5:Int),()) fun z4=>.br (z4.1) (.br (decide ((x.body.size:Int)<=400)) (.cl fInRange (x.age,(0:Int),(1000:Int),()) fun z5=>.lf fIsResponse (z5.1,())) (.lf fIsResponse (false,()))) (.lf fIsResponse (false,()))) (.lf fIsResponse (false,()))) (.lf fIsResponse (false,()))) ?_;repeat' first|(guard_target =~ Out.holds _ _;first|refine lfY ?_|refine Ab (fun _=>?_) fun _=>?_|refine Af ?_ fun _=>?_)|exact trivial
 all_goals
  try simp only[Az] at *
  try simp only[fInRange,fIsResponse,fParsePolicy,std,Nat.reduceAdd,isResponse,fParsePolicy,fInRange] at *
  try simp(disch:=omega) only[wrapId',toNat1] at *
  try simp(disch:=omega) only[Qa2,Qa3]
 all_goals first|trivial|omega|grind[wrapId',toNat1,drop_cons,drop_end,good_len,maxLen,isResponse,fParsePolicy,fInRange])
abbrev C3 (c:SCache):LInv:=⟨[⟨.s,8,true,.el .int⟩,⟨.b,1,false,.el .cache⟩],fun(z_ x_:Int×SCache×Unit)=>(0<=x_.1/\x_.1<=c.bg.length/\entOk c.bg (c.bg.drop x_.1.toNat) x_.1=entOk c.bg c.bg 0)/\x_.2.1=z_.2.1,fun(x_:Int×SCache×Unit)=>c.bg.length-x_.1.toNat⟩
end Go.Proofs.YtjgmhdnhlpckeaaGreatDoor.fnExactRequestNext
