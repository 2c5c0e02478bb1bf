/-
  Contracts of functions that the law of FnExactRunLoad reaches, part 1.
-/
import Derived.Test.YtmeicddakaciiaaGreatDoorVNe
import Derived.WalkKit
import Derived.BigGuard
import Derived.Deep.QuietTactic
import Derived.BigQuiet
import Derived.Lib.ConvBytes
import Derived.Sort.WalkC
import Derived.Handy
import Derived.Lib.Overlaps
import Derived.Lib.AppendZerosOnto
import Derived.Laws.Externs
import Derived.Shelf.RegionOpenPlain
import Derived.Defers
import Derived.Laws.Pointers
import Derived.Laws.LoneSync
import Derived.RegionCalls
import Derived.ChangeAlike
import Derived.LoopN
import Derived.Lib.SliceRun
import Derived.Shelf.Strconv.AtoiAll
import Derived.Shelf.Small.Strs
import Derived.Test.YtmeicddakaciiaaGreatDoorRows
import Derived.Test.YtmeicddakaciiaaGreatDoorCards
import Derived.LaidMore
import Derived.Lay
import Derived.SevenTiedAt
import Derived.ProofKit
import Derived.OpenShut
namespace Go.Proofs.YtmeicddakaciiaaGreatDoor.fnExactRunLoad
open Go.Proofs.YtmeicddakaciiaaGreatDoor
open Go.D Go.Proofs.Tryz
set_option maxRecDepth 100000
set_option maxHeartbeats 2000000
set_option linter.defProp false
set_option linter.unusedVariables false
set_option linter.unusedSimpArgs false
def tyOf:TypeId->Option Ty
 | 3=>some .int
 | 4=>some .bool
 | 5=>some .u8
 | 9=>some .str
 | 25=>some .cache
 | 28=>some .net
 | 30=>some .addr
 | 37=>some .cache
 | 40=>some .net
 | 41=>some .addr
 | 44=>some .bj
 | 46=>some .tokenizer
 | 50=>some .ba
 | 55=>some .page
 | 68=>some .bj
 | 69=>some .tokenizer
 | 73=>some .ba
 | 78=>some .page
 | 82=>some .loader
 | 87=>some .loader
 | 144=>some .server
 | 148=>some .sent
 | 150=>some .bd
 | 158=>some .server
 | 162=>some .sent
 | 170=>some .token
 | 174=>some .slot
 | 177=>some .module
 | 191=>some .bd
 | 193=>some .conn
 | 196=>some .guess
 | 208=>some .conn
 | 211=>some .guess
 | 221=>some .entry
 | 234=>some .entry
 | 243=>some .node
 | 246=>some .file
 | 248=>some .attr
 | 252=>some .token
 | 256=>some .slot
 | 259=>some .module
 | 268=>some .request
 | 298=>some .file
 | 319=>some .node
 | 366=>some .attr
 | 451=>some .line
 | 458=>some .sheet
 | 482=>some .rule
 | _=>none
abbrev Eo:={ E:D.Env // EOk Tryz.prog E }
def Eo.a (e:Eo) (S:Fct) {f:Nat} (k:S.ok Tryz.prog f):Eo:=⟨e.1.add f S,e.2.add k⟩
def Eo.M (e:Eo) (S:MS) {f:Nat} (k:S.ok Tryz.prog f):Eo:=⟨e.1.addM f S,e.2.addM k⟩
def Eo.G (e:Eo) (S:GS) {f:Nat} (k:S.ok Tryz.prog f):Eo:=⟨e.1.addG f S,e.2.addG k⟩
def E0:Eo:=⟨D.Env.empty tyOf,EOk.empty _ _⟩
def E1:=E0.a Gw<|Fct.p (KP [0,2,3] [5,7]) (λ⟨k,_⟩=>lv [(4,AjI k)]) E0.2 func113 (by
 rintro⟨(k:Int),_⟩ hp;refine ho (.br (decide (k<=0)) (.lf Gw ((⟨#[109,48]⟩:ByteArray),())) (lpx (AjI k) (k,((⟨#[]⟩:ByteArray),())) λ(y2:Int×ByteArray×PUnit) bk2=>.br (decide (y2.1>0)) (.ob ((10:Int)≠(0:Int))<|.ob (True)<|.ob (sameSize (List.foldl (λr n=>r.push (UInt8.ofNat n.toNat)) ByteArray.empty [IntKind.u8.wrap (wr ((48:Int)+y2.1.tmod (10:Int)))]) y2.2.1)<|.ob ((10:Int)≠(0:Int))<|.ob (Value.string (⟨#[]⟩:ByteArray)=Value.string (⟨#[]⟩:ByteArray))<|.ob (bk2 (wr (y2.1.tdiv (10:Int)),(List.foldl (λr n=>r.push (UInt8.ofNat n.toNat)) ByteArray.empty [IntKind.u8.wrap (wr ((48:Int)+y2.1.tmod (10:Int)))]++y2.2.1,())))<|.ok) (.ob (sameSize (⟨#[109]⟩:ByteArray) y2.2.1)<|.lf Gw ((⟨#[109]⟩:ByteArray)++y2.2.1,())))) ?_;refine Ab (λh1=>lfY ?_) (λh1=>Aj ?_ λ(y2:Int×ByteArray×PUnit) i2=>Ab (λh3=>Aa ?_ λ_=>Aa trivial λ_=>Aa ?_ λ_=>Aa ?_ λ_=>Aa rfl λ_=>Aa ?_ λ_=>trivial) (λh3=>Aa ?_ λ_=>lfY ?_));all_goals try simp only[ApY] at *
 all_goals
  try rw[AfV (by first|exact i2.1|(have:=i2.1;omega))]
  try simp only[AjI,Gw,std,Nat.reduceAdd,szF,toF,eqF,mkF,heF] at *
 ·simp[KX,h1]
 ·exact⟨o_,o_,64,rfl,Qf4 (show k.toNat<10 ^ 19 from o_) (Nat.pow_le_pow_right (by decide) (by decide)),rfl⟩
 ·decide
 ·obtain⟨i3,i4,f,i5,i6,i7⟩:=i2;show(1:Nat)+_<=_;omega
 ·decide
 ·obtain⟨i3,i4,f,i5,i6,i7⟩:=i2;have hd:IntKind.i64.wrap (y2.1.tdiv 10)=y2.1 / 10:=(Ai4 i3).resolve_right o_;rw[hd];cases f with
  | zero=>simp at i6;omega
  | succ f=>
   rw[Zc (k:=y2.1.toNat) o_] at i7;have i8:y2.1.toNat<10*10 ^ f:=by rw[Nat.pow_succ] at i6;omega
   generalize 10 ^ f=p at i8;refine⟨⟨o_,o_,f,by rw[sz1];omega,o_,?_⟩,o_⟩;rw[show(y2.1 / 10).toNat=y2.1.toNat / 10 from o_];exact i7
 ·obtain⟨i3,i4,f,i5,i6,i7⟩:=i2;show(1:Nat)+_<=_;omega
 ·obtain⟨i3,i4,f,i5,i6,i7⟩:=i2;have h0:y2.1.toNat=0:=o_
  rw[h0,Ac7] at i7;rw[KX,Qa4 o_,i7])
def E2:=E1.a Gr<|Fct.p (KP [0,1,4,5] [11,15,26]) (λ⟨l,n,_⟩=>lv [(5,AfL .str Ad l n)]) E1.2 func74 (by
 rintro⟨(l:List ByteArray),(n:Int),_⟩ hp;refine ho (.br (decide (wr (n-(l.length:Int))<0)) (.lf Gr ((-1:Int),())) (lpx (AfL .str Ad l n) (wr (n-(l.length:Int)),((0:Int),())) λ(y2:Int×Int×PUnit) bk2=>.br (decide (y2.2.1<(l.length:Int))) (.ob (inB y2.2.1 l.length)<|.br (decide (wr (y2.1-(↑(l.getD y2.2.1.toNat default).size:Int))<0)) (.lf Gr ((-1:Int),())) (.ob (l=l)<|.ob (bk2 (wr (y2.1-(↑(l.getD y2.2.1.toNat default).size:Int)),(w1 y2.2.1,())))<|.ok)) (.lf Gr (y2.1,())))) ?_;refine Ab (λh1=>lfY ?_) (λh1=>Aj ?_ λ(y2:Int×Int×PUnit) i2=>Ab (λh3=>Aa ?_ λ_=>Ab (λh5=>lfY ?_) (λh5=>Aa rfl λ_=>Aa ?_ λ_=>trivial)) (λh3=>lfY ?_));all_goals try simp only[AfL,Gr,std,Nat.reduceAdd,szF,toF,eqF,mkF,heF] at *
 all_goals have hgl:=good_len hp.1
 all_goals simp only[maxLen] at hgl
 ·rw[Ag o_] at h1;rw[GF (by simp only[szL];omega)]
 ·rw[Ag o_] at h1 ⊢;exact⟨o_,o_,h1,by simp⟩
 all_goals
  have hg:y2.2.1.toNat<l.length->(l.getD y2.2.1.toNat default).size<=9223372036854775807:=λh=>(Qc hp.1 h) _ (List.Mem.head _)
  have hs:=G7 Ad l (y2.2.1.toNat+1);have hs2:y2.2.1.toNat<l.length->((l.take (y2.2.1.toNat+1)).map Ad).sum=((l.take y2.2.1.toNat).map Ad).sum+(l.getD y2.2.1.toNat default).size:=λh=>Jr Ad h
 ·omega
 ·have hlt:y2.2.1.toNat<l.length:=o_
  have a1:=hg hlt;have a2:=hs2 hlt;rw[Ag o_] at h5;rw[GF (by simp only[szL];omega)]
 ·have hlt:y2.2.1.toNat<l.length:=o_
  have a1:=hg hlt;have a2:=hs2 hlt;rw[Ag (n:=y2.1-_) o_] at h5 ⊢;rw[Ag o_,toNat1 o_,a2];exact⟨⟨o_,o_,o_,o_⟩,o_⟩
 ·have e:l.take y2.2.1.toNat=l:=Qb1 o_;rw[e] at i2;have hz:((szL Ad l:Nat):Int)=l.length+(l.map Ad).sum:=by simp only[szL];omega
  rw[HQ o_];show y2.1=n-((szL Ad l:Nat):Int);omega)
def E3:=E2.a Kn<|Fct.p (KP [0,2,3,4] [11]) (λ⟨l,_⟩=>lv [(3,Aa1 .str l)]) E2.2 func81 (by
 rintro⟨(l:List ByteArray),_⟩ hp;refine ho (.ob ((l.length:Int)=(l.length:Int)/\(0:Int)<=(l.length:Int)/\(16:Int)*(l.length:Int)<=140737488355328/\(l.length:Int)<=140737488355328)<|lpx (Aa1 .str l) ((0:Int),(List.replicate (l.length:Int).toNat (⟨#[]⟩:ByteArray),())) λ(y2:Int×List ByteArray×PUnit) bk2=>.br (decide (y2.1<(l.length:Int))) (.ob (inB y2.1 l.length)<|.ob (inB y2.1 y2.2.1.length)<|.ob (y2.1.toNat<y2.2.1.length)<|.lt (List ByteArray) (y2.2.1.modify y2.1.toNat λz=>l.getD y2.1.toNat default) λz2=>.ob (l=l)<|.ob (bk2 (w1 y2.1,(z2,())))<|.ok) (.lf Kn (y2.2.1,()))) ?_;refine Aa ?_ λ_=>Aj ?_ λ(y2:Int×List ByteArray×PUnit) i2=>Ab (λh3=>Aa ?_ λ_=>Aa ?_ λ_=>Aa ?_ λ_=>DW (Aa rfl λ_=>Aa ?_ λ_=>trivial)) (λh3=>lfY ?_)
 all_goals
  try simp only[Aa1,Kn,std,Nat.reduceAdd,szF,toF,eqF,mkF,heF] at *
  try have hsz:l.length<=1048576:=by first|exact hp|(have:=Ac Ad l;exact Qd7 this hp)
 all_goals
  clear hp;try rw[i2.2.2]
 all_goals first|omega|(refine⟨o_,o_,?_⟩;simp;done)|(refine⟨o_,o_,?_⟩;simp;exact .inr rfl)|(simp;omega)|skip
 ·rw[Ag o_,toNat1 o_];refine⟨⟨o_,o_,?_⟩,o_⟩;rw[show l.length-y2.1.toNat=(l.length-(y2.1.toNat+1))+1 from o_,List.replicate_succ,HL (by simp;omega),take_succ o_];simp
 ·have e:l.take y2.1.toNat=l:=Qb1 o_;rw[e];simp;omega)
def E4:=E3.a Gx<|Fct.p (KP [0,1,4,5] [10,14,25]) (λ⟨l,m,_⟩=>lv [(4,Aa3 .str l m)]) E3.2 func52 (by
 rintro⟨(l:List ByteArray),(m:List ByteArray),_⟩ hp;refine ho (.br ((l.length:Int) != (m.length:Int)) (.lf Gx (false,())) (lpx (Aa3 .str l m) ((0:Int),()) λ(y2:Int×PUnit) bk2=>.br (decide (y2.1<(l.length:Int))) (.ob (inB y2.1 l.length)<|.ob (inB y2.1 m.length)<|.br (!(l.getD y2.1.toNat default).toList==(m.getD y2.1.toNat default).toList) (.lf Gx (false,())) (.ob (l=l)<|.ob (m=m)<|.ob (bk2 (w1 y2.1,()))<|.ok)) (.lf Gx (true,())))) ?_;refine Ab (λh1=>lfY ?_) (λh1=>Aj ?_ λ(y2:Int×PUnit) i2=>Ab (λh3=>Aa ?_ λ_=>Aa ?_ λ_=>Ab (λh6=>lfY ?_) (λh6=>Aa rfl λ_=>Aa rfl λ_=>Aa ?_ λ_=>trivial)) (λh3=>lfY ?_));all_goals try simp only[Aa3,Gx,std,Nat.reduceAdd,szF,toF,eqF,mkF,heF] at *
 all_goals have hl:=Ac Ad l
 ·rw[Qg6];rintro rfl;omega
 ·exact⟨o_,o_,by simp⟩
 ·omega
 ·omega
 ·rw[Qg6];rintro rfl;first|exact absurd rfl h5|exact absurd rfl h6
 ·have hw:IntKind.i64.wrap (y2.1+1)=y2.1+1:=Ag o_;rw[hw,toNat1 o_];refine⟨⟨o_,o_,?_⟩,o_⟩;rw[take_succ o_,take_succ o_,i2.2.2];first|rw[h5]|rw[h6]
 ·have e:l.take y2.1.toNat=l:=Qb1 o_;have e2:m.take y2.1.toNat=m:=Qb1 o_;rw[Qf2];rw[<-e,<-e2,i2.2.2])
def E5:=E4.a PL<|Fct.o (KP [0,1,4] [10]) E4.2 func189 (by
 rintro⟨(l:List Int),(n:Int),_⟩ hp;refine ho (.br (decide (wr (n-(↑(List.length l):Int))<0)) (.lf PL ((-1:Int),())) (.lf PL (wr (n-(↑(List.length l):Int)),()))) ?_;refine Ab (λh1=>lfY ?_) (λh1=>lfY ?_);all_goals try simp only[PL,std,Nat.reduceAdd,szF,toF,eqF,mkF,heF,Sh.good,Sh.fc,enc,Qc6,Qe1,false_implies,implies_true,Eb,maxLen] at *
 all_goals grind[wrapId',lessen])
def E6:=E5.a HK<|Fct.p (KP [0,2,3,4] [11]) (λ⟨l,_⟩=>lv [(3,Aa1 .int l)]) E5.2 func12 (by
 rintro⟨(l:List Int),_⟩ hp;refine ho (.ob ((l.length:Int)=(l.length:Int)/\(0:Int)<=(l.length:Int)/\(8:Int)*(l.length:Int)<=140737488355328/\(l.length:Int)<=140737488355328)<|lpx (Aa1 .int l) ((0:Int),(List.replicate (l.length:Int).toNat (0:Int),())) λ(y2:Int×List Int×PUnit) bk2=>.br (decide (y2.1<(l.length:Int))) (.ob (inB y2.1 l.length)<|.ob (inB y2.1 y2.2.1.length)<|.ob (y2.1.toNat<y2.2.1.length)<|.lt (List Int) (y2.2.1.modify y2.1.toNat λz=>l.getD y2.1.toNat default) λz2=>.ob (l=l)<|.ob (bk2 (w1 y2.1,(z2,())))<|.ok) (.lf HK (y2.2.1,()))) ?_;refine Aa ?_ λ_=>Aj ?_ λ(y2:Int×List Int×PUnit) i2=>Ab (λh3=>Aa ?_ λ_=>Aa ?_ λ_=>Aa ?_ λ_=>DW (Aa rfl λ_=>Aa ?_ λ_=>trivial)) (λh3=>lfY ?_)
 all_goals
  try simp only[Aa1,HK,std,Nat.reduceAdd,szF,toF,eqF,mkF,heF] at *
  try have hsz:l.length<=1048576:=by first|exact hp|(have:=Ac Ad l;exact Qd7 this hp)
 all_goals
  clear hp;try rw[i2.2.2]
 all_goals first|omega|(refine⟨o_,o_,?_⟩;simp;done)|(refine⟨o_,o_,?_⟩;simp;exact .inr rfl)|(simp;omega)|skip
 ·rw[Ag o_,toNat1 o_];refine⟨⟨o_,o_,?_⟩,o_⟩;rw[show l.length-y2.1.toNat=(l.length-(y2.1.toNat+1))+1 from o_,List.replicate_succ,HL (by simp;omega),take_succ o_];simp
 ·have e:l.take y2.1.toNat=l:=Qb1 o_;rw[e];simp;omega)
def E7:=E6.a IA<|Fct.p (KP [0,1,4,5] [10,14,25]) (λ⟨l,m,_⟩=>lv [(4,Aa3 .int l m)]) E6.2 func16 (by
 rintro⟨(l:List Int),(m:List Int),_⟩ hp;refine ho (.br ((l.length:Int) != (m.length:Int)) (.lf IA (false,())) (lpx (Aa3 .int l m) ((0:Int),()) λ(y2:Int×PUnit) bk2=>.br (decide (y2.1<(l.length:Int))) (.ob (inB y2.1 l.length)<|.ob (inB y2.1 m.length)<|.br (l.getD y2.1.toNat default != m.getD y2.1.toNat default) (.lf IA (false,())) (.ob (l=l)<|.ob (m=m)<|.ob (bk2 (w1 y2.1,()))<|.ok)) (.lf IA (true,())))) ?_;refine Ab (λh1=>lfY ?_) (λh1=>Aj ?_ λ(y2:Int×PUnit) i2=>Ab (λh3=>Aa ?_ λ_=>Aa ?_ λ_=>Ab (λh6=>lfY ?_) (λh6=>Aa rfl λ_=>Aa rfl λ_=>Aa ?_ λ_=>trivial)) (λh3=>lfY ?_));all_goals try simp only[Aa3,IA,std,Nat.reduceAdd,szF,toF,eqF,mkF,heF] at *
 ·rw[Qg6];rintro rfl;omega
 ·exact⟨o_,o_,by simp⟩
 ·omega
 ·omega
 ·rw[Qg6];rintro rfl;first|exact absurd rfl h5|exact absurd rfl h6
 ·have hw:IntKind.i64.wrap (y2.1+1)=y2.1+1:=Ag o_;rw[hw,toNat1 o_];refine⟨⟨o_,o_,?_⟩,o_⟩;rw[take_succ o_,take_succ o_,i2.2.2];first|rw[h5]|rw[h6]
 ·have e:l.take y2.1.toNat=l:=Qb1 o_;have e2:m.take y2.1.toNat=m:=Qb1 o_;rw[Qf2];rw[<-e,<-e2,i2.2.2])
def E8:=E7.M PX<|mkS (KP [0,1,4,5] [9]) true Lm E7.2 func62 (λ(l:List ByteArray) (k:Int)=>k_)
def E9:=E8.a Rr<|heS (KP [0,1,4,5] [9,18]) Lm E8.2 func72 (λ(l:List ByteArray) (k:Int)=>k_)
def E10:=E9.M Ju<|mkS (KP [0,1,4,5] [9]) true Xa E9.2 func18 (λ(l:List Int) (k:Int)=>k_)
def E11:=E10.a AaL<|heS (KP [0,1,4,5] [9,17]) Xa E10.2 func122 (λ(l:List Int) (k:Int)=>k_)
def E12:=E11.a Ahj<|szT (KP [1,2,4] [11,18]) Af4 E11.2 func8 (λ(x:Sb_) (k:Int)=>k_) (λ_=>rfl) Afz
def E13:=E12.a Afs<|toT [1,2,3] Agn Aka E12.2 func11 (λ(x:Sb_)=>k_) (λ_=>rfl) Af9
def E14:=E13.a AfI<|eqT (KP [2,3,4] [9,14]) XR E13.2 func44 (λ(x y:Sb_)=>k_) Ahc Afu
def E15:=E14.a Acd<|szS (KP [0,1,4,5] [11,15,25]) E14.2 func129 (λ(l:List Sb_) (k:Int)=>k_)
def E16:=E15.a Ac0<|toS (KP [0,2,3,4] [11]) 32 E15.2 func144 (λ(l:List Sb_)=>k_)
def E17:=E16.a Adl<|eqS (KP [0,1,4,5] [10,14,26]) false E16.2 func51 (λ(l r:List Sb_)=>k_)
def E18:=E17.M VC<|mkS (KP [0,1,4,5] [9]) true RQ E17.2 func61 (λ(l:List Sb_) (k:Int)=>k_)
def E19:=E18.a WN<|heS (KP [0,1,4,5] [9,19,29]) RQ E18.2 func71 (λ(l:List Sb_) (k:Int)=>k_)
def E20:=E19.a Ahe<|szT (KP [1,2,4] [11,18]) Afy E19.2 func343 (λ(x:Ss_) (k:Int)=>k_) (λ_=>rfl) Af8
def E21:=E20.a Afw<|toT [1,2,3] AgN Ajn E20.2 func366 (λ(x:Ss_)=>k_) (λ_=>rfl) AhP
def E22:=E21.a Ag1<|eqT (KP [2,3,4] [9,14]) YH E21.2 func268 (λ(x y:Ss_)=>k_) Agy AgO
def E23:=E22.a Aa8<|szS (KP [0,1,4,5] [11,15,25]) E22.2 func269 (λ(l:List Ss_) (k:Int)=>k_)
def E24:=E23.a Ady<|toS (KP [0,2,3,4] [11]) 32 E23.2 func291 (λ(l:List Ss_)=>k_)
def E25:=E24.a Adm<|eqS (KP [0,1,4,5] [10,14,26]) false E24.2 func185 (λ(l r:List Ss_)=>k_)
def E26:=E25.M VU<|mkS (KP [0,1,4,5] [9]) true S4 E25.2 func116 (λ(l:List Ss_) (k:Int)=>k_)
def E27:=E26.a Vk<|heS (KP [0,1,4,5] [9,19,29]) S4 E26.2 func120 (λ(l:List Ss_) (k:Int)=>k_)
def E28:=E27.a Aa6<|szT (KP [1,2,4] [11,17,24]) Xj E27.2 func187 (λ(x:Sh_) (k:Int)=>k_) (λ_=>rfl) Adx
def E29:=E28.a AbJ<|toT [1,2,3] ZR Ai5 E28.2 func217 (λ(x:Sh_)=>k_) (λ_=>rfl) Adb
def E30:=E29.a AcU<|eqT (KP [2,3,4] [9,14,20,25]) Rh E29.2 func109 (λ(x y:Sh_)=>k_) Ac5 AdA
def E31:=E30.a ZK<|szS (KP [0,1,4,5] [11,15,25]) E30.2 func125 (λ(l:List Sh_) (k:Int)=>k_)
def E32:=E31.a Zx<|toS (KP [0,2,3,4] [11]) 64 E31.2 func140 (λ(l:List Sh_)=>k_)
def E33:=E32.a AaN<|eqS (KP [0,1,4,5] [10,14,26]) false E32.2 func47 (λ(l r:List Sh_)=>k_)
def E34:=E33.M SC<|mkS (KP [0,1,4,5] [9]) true Pa E33.2 func57 (λ(l:List Sh_) (k:Int)=>k_)
def E35:=E34.a SS<|heS (KP [0,1,4,5] [9,18,28,39,47]) Pa E34.2 func67 (λ(l:List Sh_) (k:Int)=>k_)
def E36:=E35.a QI<|szT (KP [1,2,4] [11]) J6 E35.2 func124 (λ(x:Sn_) (k:Int)=>k_) (λ_=>rfl) Qr
def E37:=E36.a Qz<|toT [1,2,3] Kg WC E36.2 func139 (λ(x:Sn_)=>k_) (λ_=>rfl) QR
def E38:=E37.a Rz<|eqT (KP [2,3,4] [9]) GK E37.2 func46 (λ(x y:Sn_)=>k_) Q6 Qp
def E39:=E38.a Aga<|szT (KP [1,2,4] [11,18,24]) Ago E38.2 func270 (λ(x:St_) (k:Int)=>k_) (λ_=>rfl) AgC
def E40:=E39.a AeU<|toT [1,2,3] AhD Ajk E39.2 func292 (λ(x:St_)=>k_) (λ_=>rfl) Af1
def E41:=E40.a Ae3<|eqT (KP [2,3,4] [9,14,19,25]) Yv E40.2 func186 (λ(x y:St_)=>k_) Af7 Agg
def E42:=E41.a Ab7<|szS (KP [0,1,4,5] [11,15,25]) E41.2 func188 (λ(l:List St_) (k:Int)=>k_)
def E43:=E42.a AcS<|toS (KP [0,2,3,4] [11]) 64 E42.2 func218 (λ(l:List St_)=>k_)
def E44:=E43.a Abo<|eqS (KP [0,1,4,5] [10,14,26]) false E43.2 func110 (λ(l r:List St_)=>k_)
def E45:=E44.M VA<|mkS (KP [0,1,4,5] [9]) true Tw E44.2 func117 (λ(l:List St_) (k:Int)=>k_)
def E46:=E45.a WS<|heS (KP [0,1,4,5] [9,19,29,38,49]) Tw E45.2 func121 (λ(l:List St_) (k:Int)=>k_)
def E47:=E46.a Vl<|szT (KP [1,2,4] [10,16]) Pm E46.2 func126 (λ(x:Se_) (k:Int)=>k_) (λ_=>rfl) Ww
def E48:=E47.a U8<|toT [1,2,3] PI AcF E47.2 func141 (λ(x:Se_)=>k_) (λ_=>rfl) Wn
def E49:=E48.a VF<|eqT (KP [2,3,4] [10,16]) Jm E48.2 func48 (λ(x y:Se_)=>k_) WL VL
def E50:=E49.M QU<|mvT [1,2,4] [0,1] JU E49.2 func58 (λ(x:Se_) (k:Int)=>k_)
def E51:=E50.a P8<|hvT (KP [1,2,4] [10,16]) JU E50.2 func68 (λ(x:Se_) (k:Int)=>k_)
def E52:=E51.a YB<|szT (KP [1,2,4] [10,16,22,29]) Sv E51.2 func123 (λ(x:Si_) (k:Int)=>k_) (λ_=>rfl) Z6
def E53:=E52.a Ye<|toT [1,2,3] Sd AhN E52.2 func138 (λ(x:Si_)=>k_) (λ_=>rfl) XQ
def E54:=E53.a Z1<|eqT (KP [2,3,4] [9,15,21,27,32]) LA E53.2 func45 (λ(x y:Si_)=>k_) XH Xx
def E55:=E54.M RN<|mvT [1,2,4] [1,2,3] Mk E54.2 func56 (λ(x:Si_) (k:Int)=>k_)
def E56:=E55.a To<|hvT (KP [1,2,4] [10,16,22]) Mk E55.2 func66 (λ(x:Si_) (k:Int)=>k_)
def E57:=E56.a Tl<|szT (KP [1,2,4] [11,18]) ML E56.2 func192 (λ(x:Sd_) (k:Int)=>k_) (λ_=>rfl) Sn
def E58:=E57.a Tr<|toT [1,2,3] Mu YY E57.2 func221 (λ(x:Sd_)=>k_) (λ_=>rfl) Si
def E59:=E58.a SM<|eqT (KP [2,3,4] [9,14,19,24,29,34]) HH E58.2 func247 (λ(x y:Sd_)=>k_) Sc Sb
def E60:=E59.a AgG<|szT (KP [1,2,4] [11,17]) Ag7 E59.2 func248 (λ(x:Sv_) (k:Int)=>k_) (λ_=>rfl) Ag6
def E61:=E60.a Afm<|toT [1,2,3] Ag0 Ajq E60.2 func255 (λ(x:Sv_)=>k_) (λ_=>rfl) Afq
def E62:=E61.a Ae9<|eqT (KP [2,3,4] [9,15]) Aak E61.2 func267 (λ(x y:Sv_)=>k_) Ag9 Ahz
def E63:=E62.a AbO<|szS (KP [0,1,4,5] [11,15,25]) E62.2 func159 (λ(l:List Sv_) (k:Int)=>k_)
def E64:=E63.a Acs<|toS (KP [0,2,3,4] [11]) 80 E63.2 func170 (λ(l:List Sv_)=>k_)
def E65:=E64.a Abh<|eqS (KP [0,1,4,5] [10,14,26]) false E64.2 func183 (λ(l r:List Sv_)=>k_)
def E66:=E65.M WV<|mkS (KP [0,1,4,5] [9]) true SX E65.2 func114 (λ(l:List Sv_) (k:Int)=>k_)
def E67:=E66.a Vm<|heS (KP [0,1,4,5] [9,19,29,39,50,60,72,83]) SX E66.2 func118 (λ(l:List Sv_) (k:Int)=>k_)
def E68:=E67.a X9<|szT (KP [1,2,4] [11,17]) S2 E67.2 func94 (λ(x:Sk_) (k:Int)=>k_) (λ_=>rfl) Yh
def E69:=E68.a Yr<|toT [1,2,3] Sa Ahm E68.2 func100 (λ(x:Sk_)=>k_) (λ_=>rfl) Xb
def E70:=E69.a Z7<|eqT (KP [2,3,4] [9,15]) Lu E69.2 func106 (λ(x y:Sk_)=>k_) Xm Zk
def E71:=E70.a Vq<|szS (KP [0,1,4,5] [11,15,25]) E70.2 func33 (λ(l:List Sk_) (k:Int)=>k_)
def E72:=E71.a Vh<|toS (KP [0,2,3,4] [11]) 40 E71.2 func37 (λ(l:List Sk_)=>k_)
def E73:=E72.a V5<|eqS (KP [0,1,4,5] [10,14,26]) false E72.2 func41 (λ(l r:List Sk_)=>k_)
def E74:=E73.M Qw<|mkS (KP [0,1,4,5] [9]) true Mx E73.2 func53 (λ(l:List Sk_) (k:Int)=>k_)
def E75:=E74.a Rx<|heS (KP [0,1,4,5] [9,19,30]) Mx E74.2 func63 (λ(l:List Sk_) (k:Int)=>k_)
def E76:=E75.a AcZ<|szT (KP [1,2,4] [11,17,23]) XZ E75.2 func160 (λ(x:Sq_) (k:Int)=>k_) (λ_=>rfl) AdQ
def E77:=E76.a Abj<|toT [1,2,3] ZN Aih E76.2 func171 (λ(x:Sq_)=>k_) (λ_=>rfl) Aa4
def E78:=E77.a Acw<|eqT (KP [2,3,4] [9,15,21,26]) Rs E77.2 func184 (λ(x y:Sq_)=>k_) Acf Ac6
def E79:=E78.a W2<|szS (KP [0,1,4,5] [11,15,25]) E78.2 func95 (λ(l:List Sq_) (k:Int)=>k_)
def E80:=E79.a Aaz<|toS (KP [0,2,3,4] [11]) 120 E79.2 func101 (λ(l:List Sq_)=>k_)
def E81:=E80.a Zn<|eqS (KP [0,1,4,5] [10,14,26]) false E80.2 func107 (λ(l r:List Sq_)=>k_)
def E82:=E81.M S7<|mkS (KP [0,1,4,5] [9]) true Pg E81.2 func115 (λ(l:List Sq_) (k:Int)=>k_)
def E83:=E82.a S1<|heS (KP [0,1,4,5] [9,19,30,41,51,61,72,82,94,105,114]) Pg E82.2 func119 (λ(l:List Sq_) (k:Int)=>k_)
def E84:=E83.a Ac1<|szT (KP [1,2,4] [10]) AaP E83.2 func34 (λ(x:Sm_) (k:Int)=>k_) (λ_=>rfl) Ac3
def E85:=E84.a Ab9<|toT [1,2,3] Xe Aiz E84.2 func38 (λ(x:Sm_)=>k_) (λ_=>rfl) Aa5
def E86:=E85.a Abp<|eqT (KP [2,3,4] [10]) QQ E85.2 func42 (λ(x y:Sm_)=>k_) AbG AcH
def E87:=E86.M WR<|mvT [1,2,4] [0] Pp E86.2 func54 (λ(x:Sm_) (k:Int)=>k_)
def E88:=E87.a WU<|hvT (KP [1,2,4] [10]) Pp E87.2 func64 (λ(x:Sm_) (k:Int)=>k_)
def E89:=E88.a AgZ<|szT (KP [1,2,4] [11,17]) AfW E88.2 func96 (λ(x:Sw_) (k:Int)=>k_) (λ_=>rfl) AhB
def E90:=E89.a Agb<|toT [1,2,3] AeS Ajw E89.2 func102 (λ(x:Sw_)=>k_) (λ_=>rfl) AgU
def E91:=E90.a AfH<|eqT (KP [2,3,4] [9,15,20]) XL E90.2 func108 (λ(x y:Sw_)=>k_) AgQ Agd
def E92:=E91.a AdS<|szS (KP [0,1,4,5] [11,15,25]) E91.2 func35 (λ(l:List Sw_) (k:Int)=>k_)
def E93:=E92.a Ads<|toS (KP [0,2,3,4] [11]) 56 E92.2 func39 (λ(l:List Sw_)=>k_)
def E94:=E93.a Aca<|eqS (KP [0,1,4,5] [10,14,26]) false E93.2 func43 (λ(l r:List Sw_)=>k_)
def E95:=E94.M WO<|mkS (KP [0,1,4,5] [9]) true SI E94.2 func55 (λ(l:List Sw_) (k:Int)=>k_)
def E96:=E95.a Wd<|heS (KP [0,1,4,5] [9,19,30,41,52]) SI E95.2 func65 (λ(l:List Sw_) (k:Int)=>k_)
def E97:=E96.a Ain<|szT (KP [1,2,4] [10,16,22]) AjJ E96.2 func7 (λ(x:Su_) (k:Int)=>k_) (λ_=>rfl) AiC
def E98:=E97.a Ah5<|toT [1,2,3] Ajr ApW E97.2 func10 (λ(x:Su_)=>k_) (λ_=>rfl) AhW
def E99:=E98.a Aim<|eqT (KP [2,3,4] [10,16,22,27]) Aij E98.2 func14 (λ(x y:Su_)=>k_) AiA AiM
def Ame:=E99.M Acr<|mvT [1,2,4] [0,1,2] ZV E99.2 func17 (λ(x:Su_) (k:Int)=>k_)
def Aom:=Ame.a AcJ<|hvT (KP [1,2,4] [10,16,22]) ZV Ame.2 func20 (λ(x:Su_) (k:Int)=>k_)
def AkC:=Aom.a Afk<|szT (KP [1,2,4] [10,17,24]) Agv Aom.2 func190 (λ(x:Sp_) (k:Int)=>k_) (λ_=>rfl) AfY
def ApK:=AkC.a Ae4<|toT [1,2,3] AhH Aj2 AkC.2 func219 (λ(x:Sp_)=>k_) (λ_=>rfl) Aho
def AlP:=ApK.a AgL<|eqT (KP [2,3,4] [9,15,20,25,30,35,40]) Z2 ApK.2 func111 (λ(x y:Sp_)=>k_) AgI AeJ
def Ao4:=AlP.a Adj<|szS (KP [0,1,4,5] [11,15,25]) AlP.2 func127 (λ(l:List Sp_) (k:Int)=>k_)
def Alb:=Ao4.a Abs<|toS (KP [0,2,3,4] [11]) 96 Ao4.2 func142 (λ(l:List Sp_)=>k_)
def Aoz:=Alb.a AcB<|eqS (KP [0,1,4,5] [10,14,26]) false Alb.2 func49 (λ(l r:List Sp_)=>k_)
def AkM:=Aoz.M U6<|mkS (KP [0,1,4,5] [9]) true Tu Aoz.2 func59 (λ(l:List Sp_) (k:Int)=>k_)
def Ak4:=AkM.a Vt<|heS (KP [0,1,4,5] [9,18,29,40,50,59,70,79,89]) Tu AkM.2 func69 (λ(l:List Sp_) (k:Int)=>k_)
def Ann:=Ak4.a Yp<|szT (KP [1,2,4] [10,17]) SN Ak4.2 func191 (λ(x:Sg_) (k:Int)=>k_) (λ_=>rfl) Aat
def AlD:=Ann.a X5<|toT [1,2,3] Sy AgK Ann.2 func220 (λ(x:Sg_)=>k_) (λ_=>rfl) ZG
def AnM:=AlD.a Yj<|eqT (KP [2,3,4] [10,15,20,25]) MI AlD.2 func112 (λ(x y:Sg_)=>k_) Yo W0
def Aox:=AnM.a Wz<|szS (KP [0,1,4,5] [11,15,25]) AnM.2 func128 (λ(l:List Sg_) (k:Int)=>k_)
def Als:=Aox.a WP<|toS (KP [0,2,3,4] [11]) 64 Aox.2 func143 (λ(l:List Sg_)=>k_)
def App:=Als.a VB<|eqS (KP [0,1,4,5] [10,14,26]) false Als.2 func50 (λ(l r:List Sg_)=>k_)
def Am0:=App.M Qb<|mkS (KP [0,1,4,5] [9]) true Mf App.2 func60 (λ(l:List Sg_) (k:Int)=>k_)
def Alg:=Am0.a Ro<|heS (KP [0,1,4,5] [9,20,31,42,51,61]) Mf Am0.2 func70 (λ(l:List Sg_) (k:Int)=>k_)
def AnQ:=Alg.a AgP<|szT (KP [1,2,4] [10,16,22,28,34,40,46,52,58,64]) AfS Alg.2 func73 (λ(x:Sa_) (k:Int)=>k_) (λ_=>rfl) AeN
def Anq:=AnQ.a AeK<|toT [1,2,3] AhM AjB AnQ.2 func80 (λ(x:Sa_)=>k_) (λ_=>rfl) AfZ
def Alu:=Anq.a Ags<|eqT (KP [2,3,4] [10,16,22,28,33,39,45,51,57,62,67,72,77,83,89,94]) ZQ Anq.2 func15 (λ(x y:Sa_)=>k_) Agc Aft
def Am2:=Alu.M ZD<|mvT [1,2,4] [3,4,5,8,10,11,12,13,14,19,20] SQ Alu.2 func19 (λ(x:Sa_) (k:Int)=>k_)
def Apm:=Am2.a Y4<|hvT (KP [1,2,4] [10,16,22,28,34,40,46,52]) SQ Am2.2 func21 (λ(x:Sa_) (k:Int)=>k_)
def Ams:=Apm.a AcR<|szT (KP [1,2,4] [10,16]) Xo Apm.2 func131 (λ(x:Sl_) (k:Int)=>k_) (λ_=>rfl) AcN
def AlM:=Ams.a AbY<|toT [1,2,3] YN AiK Ams.2 func146 (λ(x:Sl_)=>k_) (λ_=>rfl) AbR
def AoS:=AlM.a Acx<|eqT (KP [2,3,4] [10,16,21]) P9 AlM.2 func156 (λ(x y:Sl_)=>k_) Aba Ack
def AmH:=AoS.a Aaq<|szS (KP [0,1,4,5] [11,15,25]) AoS.2 func76 (λ(l:List Sl_) (k:Int)=>k_)
def Akh:=AmH.a Zq<|toS (KP [0,2,3,4] [11]) 104 AmH.2 func83 (λ(l:List Sl_)=>k_)
def AoV:=Akh.a Z5<|eqS (KP [0,1,4,5] [10,14,26]) false Akh.2 func87 (λ(l r:List Sl_)=>k_)
def Aov:=AoV.M Tb<|mkS (KP [0,1,4,5] [9]) true Pb AoV.2 func89 (λ(l:List Sl_) (k:Int)=>k_)
def AkV:=Aov.a Sf<|heS (KP [0,1,4,5] [9,20,31,41,51,62,72,84,95,106]) Pb Aov.2 func91 (λ(l:List Sl_) (k:Int)=>k_)
def Amf:=AkV.a Afr<|szT (KP [1,2,4] [10,16]) AhA AkV.2 func130 (λ(x:Sj_) (k:Int)=>k_) (λ_=>rfl) AgY
def ApJ:=Amf.a AfD<|toT [1,2,3] Agh Ajy Amf.2 func145 (λ(x:Sj_)=>k_) (λ_=>rfl) AhL
def Ao8:=ApJ.a AhO<|eqT (KP [2,3,4] [10,15,20,26]) Zj ApJ.2 func155 (λ(x y:Sj_)=>k_) Ae5 Ag2
def ApO:=Ao8.a AbH<|szS (KP [0,1,4,5] [11,15,25]) Ao8.2 func75 (λ(l:List Sj_) (k:Int)=>k_)
def Ao5:=ApO.a AdK<|toS (KP [0,2,3,4] [11]) 112 ApO.2 func82 (λ(l:List Sj_)=>k_)
def AnZ:=Ao5.a AcI<|eqS (KP [0,1,4,5] [10,14,26]) false Ao5.2 func86 (λ(l r:List Sj_)=>k_)
def Amz:=AnZ.M Wp<|mkS (KP [0,1,4,5] [9]) true R5 AnZ.2 func88 (λ(l:List Sj_) (k:Int)=>k_)
def Aou:=Amz.a VG<|heS (KP [0,1,4,5] [9,20,31,40,51,61,71,82,92,104,115]) R5 Amz.2 func90 (λ(l:List Sj_) (k:Int)=>k_)
def AmB:=Aou.a Lk<|szT (KP [1,2,4] [10,16,22,28,34]) RW Aou.2 func22 (λ(x:Sc_) (k:Int)=>k_) (λ_=>rfl) Aab
def Anr:=AmB.a Gv<|toT [1,2,3] R9 Af2 AmB.2 func24 (λ(x:Sc_)=>k_) (λ_=>rfl) Xi
def Akm:=Anr.a GH<|eqT (KP [2,3,4] [10,16,22,28,34]) LU Anr.2 func26 (λ(x y:Sc_)=>k_) YG Za
def AoC:=Akm.M ER<|mvT [1,2,4] [0,1,2,7,8,9,12,14,15,16,17,18,23,24,26,27,28] M1 Akm.2 func27 (λ(x:Sc_) (k:Int)=>k_)
def AkL:=AoC.a GM<|hvT (KP [1,2,4] [10,16,22,28,34]) M1 AoC.2 func28 (λ(x:Sc_) (k:Int)=>k_)
def countGuess:List Sj_->Nat
 | []=>0
 | c::l=>countGuess l+(if c.guess then 1 else 0)
def JB (l:List Sj_):countGuess l<=l.length:=by
 induction l with
 | nil=>simp[countGuess]
 | cons d l ih=>simp only[countGuess,Qa6];split<;>omega
def fCount:Fct:=⟨[.v (.sl .conn)],[.el .int],λ(x_:(List Sj_)×Unit)=>x_.1.length<=1048576,λ(x_:(List Sj_)×Unit)=>((countGuess x_.1:Int),())⟩
abbrev Ct (l:(List Sj_)):LInv:=⟨[⟨.s,3,true,.el .int⟩,⟨.s,4,true,.el .int⟩],λ_ (x_:Int×Int×Unit)=>0<=x_.2.1/\x_.2.1<=l.length/\0<=x_.1/\x_.1<=x_.2.1/\x_.1+countGuess (l.drop x_.2.1.toNat)=countGuess l,λ(x_:Int×Int×Unit)=>l.length-x_.2.1.toNat⟩
def AmS:=AkL.a fCount<|Fct.p (KP [0,2,3,4] [8,15]) (λ⟨l,_⟩=>lv [(3,Ct l)]) AkL.2 func204 (by
 rintro⟨(l:List Sj_),_⟩ hp;refine ho (lpx (Ct l) ((0:Int),((0:Int),())) λ(y1:Int×Int×PUnit) bk1=>.br (decide (y1.2.1<(l.length:Int))) (.ob (inB y1.2.1 l.length)<|.br ((l.getD y1.2.1.toNat default).guess) (.ob (l=l)<|.ob (Value.int IntKind.i64 0=Value.int IntKind.i64 (0:Int))<|.ob (bk1 (w1 y1.1,(w1 y1.2.1,())))<|.ok) (.ob (l=l)<|.ob (Value.int IntKind.i64 0=Value.int IntKind.i64 (0:Int))<|.ob (bk1 (y1.1,(w1 y1.2.1,())))<|.ok)) (.lf fCount (y1.1,()))) ?_;refine Aj ?_ λ(y1:Int×Int×PUnit) i1=>Ab (λh2=>Aa ?_ λ_=>Ab (λh4=>Aa rfl λ_=>Aa rfl λ_=>Aa ?_ λ_=>trivial) (λh4=>Aa rfl λ_=>Aa rfl λ_=>Aa ?_ λ_=>trivial)) (λh2=>lfY ?_)
 all_goals
  try simp only[Ct,fCount,std,Nat.reduceAdd,countGuess] at *
  try simp(disch:=omega) only[wrapId',toNat1] at *
  try simp(disch:=omega) only[Qa1,Qa4]
 all_goals first|trivial|omega|grind[wrapId',toNat1,drop_cons,drop_end,good_len,maxLen,countGuess])
abbrev Bk (l:(List Sj_)):LInv:=⟨[⟨.s,3,true,.el .int⟩,⟨.s,8,true,.el .int⟩],λ_ (x_:Int×Int×Unit)=>0<=x_.2.1/\x_.2.1<=l.length/\0<=x_.1/\x_.1<=x_.2.1/\x_.1+countGuess (l.drop x_.2.1.toNat)=countGuess l,λ(x_:Int×Int×Unit)=>l.length-x_.2.1.toNat⟩
def An6:=AmS.a fCount<|Fct.p (KP [0,2,3,5,6,7,8] [9,13]) (λ⟨l,_⟩=>lv [(3,Bk l)]) AmS.2 func232 (by
 rintro⟨(l:List Sj_),_⟩ hp;refine ho (let q2_:=(l.length:Int);let q1_:=Value.int IntKind.i64 0=Value.int IntKind.i64 (0:Int);let q0_:=Value.int IntKind.i64 q2_=Value.int IntKind.i64 q2_;lpx (Bk l) ((0:Int),((0:Int),())) λ(y1:Int×Int×PUnit) bk1=>.br (decide (y1.2.1<q2_)) (.ob (inB y1.2.1 l.length)<|.br ((l.getD y1.2.1.toNat default).guess) (.ob (l=l)<|.ob q1_<|.ob (l=l)<|.ob q0_<|.ob (bk1 (w1 y1.1,(w1 y1.2.1,())))<|.ok) (.ob (l=l)<|.ob q1_<|.ob (l=l)<|.ob q0_<|.ob (bk1 (y1.1,(w1 y1.2.1,())))<|.ok)) (.lf fCount (y1.1,()))) ?_;repeat' first|(guard_target =~ Out.holds _ _;first|refine Aj (li:=Bk l) ?_ λ(y1:Int×Int×PUnit) i1=>?_|refine lfY ?_|refine Ab (λ_=>?_) λ_=>?_|refine Aa ?_ λ_=>?_)|exact trivial
 all_goals
  try simp only[Bk,fCount,std,Nat.reduceAdd,countGuess] at *
  try simp(disch:=omega) only[wrapId',toNat1] at *
  try simp(disch:=omega) only[Qa1,Qa4]
 all_goals first|trivial|omega|grind[wrapId',toNat1,drop_cons,drop_end,good_len,maxLen,countGuess])
def findConn (a:Sb_):List Sj_->Int->Int
 | [],_=>-1
 | c::l,i=>if c.to=a then i else findConn a l (i+1)
def GV {a:Sb_} {l:List Sj_} {i:Nat} {z:Int} (h:i<l.length):findConn a (l.drop i) z=if(l.getD i default).to=a then z else findConn a (l.drop (i+1)) (z+1):=by rw[drop_cons h];rfl
def KG {a:Sb_} {l:List Sj_} {i:Nat} {z:Int} (h:l.length<=i):findConn a (l.drop i) z = -1:=by rw[Qb2 h];rfl
def QV (x y:Sb_):(x.host==y.host&&(x.path==y.path&&true))=decide (x=y):=Dj x y
def fFind:Fct:=⟨[aL .conn,aE .addr],[rI],λ(x:List Sj_×Sb_×Unit)=>x.1.length<=1048576,λx=>(findConn x.2.1 x.1 0,())⟩
abbrev Lfind (l:List Sj_) (a:Sb_):LInv:=⟨[⟨.s,5,true,.el .int⟩,⟨.b,3,true,.el .addr⟩],λ_ (x:Int×Sb_×Unit)=>0<=x.1/\x.1<=l.length/\x.2.1=a/\findConn a l 0=findConn a (l.drop x.1.toNat) x.1,λ(x:Int×Sb_×Unit)=>l.length-x.1.toNat⟩
def AkS:=An6.a fFind<|Fct.p (KP [0,3,4,5] [9,18]) (λ⟨l,a,_⟩=>lv [(2,Lfind l a)]) An6.2 func207 (by
 rintro⟨(l:List Sj_),(a:Sb_),_⟩ hp;refine ho (lpx (Lfind l a) ((0:Int),(a,())) λ(y1:Int×Sb_×PUnit) bk1=>.br (decide (y1.1<(l.length:Int))) (.ob (inB y1.1 l.length)<|.br ((l.getD y1.1.toNat default).to.host==y1.2.1.host&&((l.getD y1.1.toNat default).to.path==y1.2.1.path&&true)) (.lf fFind (y1.1,())) (.ob (l=l)<|.ob (bk1 (w1 y1.1,(y1.2.1,())))<|.ok)) (.lf fFind ((-1:Int),()))) ?_;refine Aj ?_ λ(y1:Int×Sb_×PUnit) i1=>Ab (λh2=>Aa ?_ λ_=>Ab (λh4=>lfY ?_) (λh4=>Aa rfl λ_=>Aa ?_ λ_=>trivial)) (λh2=>lfY ?_)
 all_goals
  try simp only[Lfind,fFind,std,Nat.reduceAdd] at *
  try simp only[QV,Qa9,Qa8] at *
 ·first|omega|exact⟨o_,o_,by simp⟩
 ·omega
 ·rw[GV o_,Qa1 (h4.trans i1.2.2.1)] at i1;exact i1.2.2.2.symm
 ·rw[GV o_,Qa4 (λh=>h4 (h.trans i1.2.2.1.symm))] at i1;have hn:l.length<=1048576:=hp;rw[Ag o_,toNat1 o_];exact⟨⟨o_,o_,i1.2.2.1,i1.2.2.2⟩,o_⟩
 ·rw[KG o_] at i1;exact i1.2.2.2.symm)
def Ub:Fct:=⟨[aE .conn,.p (.el .addr)],[rB],λ_=>True,λx=>(decide (x.1.to=x.2.1),())⟩
def AoK:=AkS.a Ub<|Fct.o [1,2,3] AkS.2 func313 (by
 rintro⟨(c:Sj_),(a:Sb_),_⟩ hp;refine ho (.lf Ub (c.to.host==a.host&&(c.to.path==a.path&&true),())) ?_;refine lfY ?_;show(_,())=(_,());rw[QV])
def H1:Fct:=⟨[aL .conn,.c 313 [.el .addr]],[rI],λ(x:List Sj_×(Sb_×Unit)×Unit)=>x.1.length<=1048576,λx=>(findConn x.2.1.1 x.1 0,())⟩
abbrev Lidx (l:List Sj_) (F:List Sj_->Int->Int):LInv:=⟨[⟨.s,8,true,.el .int⟩],λ_ (x:Int×Unit)=>0<=x.1/\x.1<=l.length/\F l 0=F (l.drop x.1.toNat) x.1,λ(x:Int×Unit)=>l.length-x.1.toNat⟩
abbrev Lidxf (l:List Sj_) (a:Sb_×Unit):LInv:=Lidx l (findConn a.1)
def Ak9:=AoK.a H1<|Fct.p (KP [0,1,4,5,7,8] [9,16]) (λ⟨l,a,_⟩=>lv [(2,Lidxf l a)]) AoK.2 func312 (by
 rintro⟨(l:List Sj_),(a:Sb_×PUnit),_⟩ hp;refine ho (lpx (Lidxf l a) ((0:Int),()) λ(y1:Int×PUnit) bk1=>.br (decide (y1.1<(l.length:Int))) (.ob (inB y1.1 l.length)<|.cl Ub (l.getD y1.1.toNat default,a.1,()) λz2=>.br (z2.1) (.lf H1 (y1.1,())) (.ob (l=l)<|.ob (enc Ty.addr a.1=enc Ty.addr a.1)<|.ob (Value.int IntKind.i64 (l.length:Int)=Value.int IntKind.i64 (l.length:Int))<|.ob (bk1 (w1 y1.1,()))<|.ok)) (.lf H1 ((-1:Int),()))) ?_;refine Aj ?_ λ(y1:Int×PUnit) i1=>Ab (λh2=>Aa ?_ λ_=>Af trivial λ_=>(Ab (λh4=>lfY ?_) (λh4=>Aa rfl λ_=>Aa rfl λ_=>Aa rfl λ_=>Aa ?_ λ_=>trivial))) (λh2=>lfY ?_)
 all_goals
  try simp only[Lidxf,Ub,H1,std,Nat.reduceAdd] at *
  try simp only[QV,Qa9,Qa8] at *
 ·first|omega|exact⟨o_,o_,by simp⟩
 ·omega
 ·rw[GV o_,Qa1 h4] at i1;exact i1.2.2.symm
 ·rw[GV o_,Qa4 h4] at i1;have hn:l.length<=1048576:=hp;rw[Ag o_,toNat1 o_];exact⟨⟨o_,o_,i1.2.2⟩,o_⟩
 ·rw[KG o_] at i1;exact i1.2.2.symm)
def AoE:=Ak9.a fFind<|Fct.o [0,3,4] Ak9.2 func235 (by
 rintro⟨(l:List Sj_),(a:Sb_),_⟩ hp;refine ho (.cl H1 (l,(a,()),()) λ(z2:Int×PUnit)=>.lf fFind (z2.1,())) ?_;refine Af ?_ λ_=>(lfY ?_)
 all_goals try simp only[fFind,H1,std,Nat.reduceAdd] at *
 all_goals first|trivial|omega|(simp_all;done)|(simp_all;omega)|grind)
def firstDone:List Sj_->Int->Int
 | [],_=>-1
 | c::l,i=>if c.left<=0 then i else firstDone l (i+1)
def F4 {l:List Sj_} {i:Nat} {z:Int} (h:i<l.length):firstDone (l.drop i) z=if(l.getD i default).left<=0 then z else firstDone (l.drop (i+1)) (z+1):=by rw[drop_cons h];rfl
def Jg {l:List Sj_} {i:Nat} {z:Int} (h:l.length<=i):firstDone (l.drop i) z = -1:=by rw[Qb2 h];rfl
def Gn:Fct:=⟨[aL .conn],[rI],λ(x:List Sj_×Unit)=>x.1.length<=1048576,λx=>(firstDone x.1 0,())⟩
abbrev Lfirst (l:List Sj_):LInv:=⟨[⟨.s,3,true,.el .int⟩],λ_ (x:Int×Unit)=>0<=x.1/\x.1<=l.length/\firstDone l 0=firstDone (l.drop x.1.toNat) x.1,λ(x:Int×Unit)=>l.length-x.1.toNat⟩
def Apx:=AoE.a Gn<|Fct.p (KP [0,2,3] [7,15]) (λ⟨l,_⟩=>lv [(2,Lfirst l)]) AoE.2 func210 (by
 rintro⟨(l:List Sj_),_⟩ hp;refine ho (lpx (Lfirst l) ((0:Int),()) λ(y1:Int×PUnit) bk1=>.br (decide (y1.1<(l.length:Int))) (.ob (inB y1.1 l.length)<|.br (decide ((l.getD y1.1.toNat default).left<=0)) (.lf Gn (y1.1,())) (.ob (l=l)<|.ob (bk1 (w1 y1.1,()))<|.ok)) (.lf Gn ((-1:Int),()))) ?_;refine Aj ?_ λ(y1:Int×PUnit) i1=>Ab (λh2=>Aa ?_ λ_=>Ab (λh4=>lfY ?_) (λh4=>Aa rfl λ_=>Aa ?_ λ_=>trivial)) (λh2=>lfY ?_)
 all_goals
  try simp only[Lfirst,Gn,std,Nat.reduceAdd] at *
  try simp only[QV,Qa9,Qa8] at *
 ·first|omega|exact⟨o_,o_,by simp⟩
 ·omega
 ·rw[F4 o_,Qa1 h4] at i1;exact i1.2.2.symm
 ·rw[F4 o_,Qa4 o_] at i1;have hn:l.length<=1048576:=hp;rw[Ag o_,toNat1 o_];exact⟨⟨o_,o_,i1.2.2⟩,o_⟩
 ·rw[Jg o_] at i1;exact i1.2.2.symm)
def MG:Fct:=⟨[aE .conn],[rB],λ_=>True,λx=>(decide (x.1.left<=0),())⟩
def Ama:=Apx.a MG<|Fct.o [1,2] Apx.2 func314 (by
 rintro⟨(c:Sj_),_⟩ hp;refine ho (.lf MG (decide (c.left<=0),())) ?_;refine lfY ?_;all_goals try simp only[MG,std,Nat.reduceAdd] at *
 all_goals first|trivial|omega|(simp_all;done)|(simp_all;omega)|grind)
def GC:Fct:=⟨[aL .conn,.c 314 []],[rI],λ(x:List Sj_×Unit×Unit)=>x.1.length<=1048576,λx=>(firstDone x.1 0,())⟩
def Ao6:=Ama.a GC<|Fct.p (KP [0,1,4,5,7,8] [9,16]) (λ⟨l,u,_⟩=>lv [(2,Lidx l firstDone)]) Ama.2 func312 (by
 rintro⟨(l:List Sj_),(u:PUnit),_⟩ hp;refine ho (lpx (Lidx l firstDone) ((0:Int),()) λ(y1:Int×PUnit) bk1=>.br (decide (y1.1<(l.length:Int))) (.ob (inB y1.1 l.length)<|.cl MG (l.getD y1.1.toNat default,()) λz2=>.br (z2.1) (.lf GC (y1.1,())) (.ob (l=l)<|.ob (Value.int IntKind.i64 (l.length:Int)=Value.int IntKind.i64 (l.length:Int))<|.ob (bk1 (w1 y1.1,()))<|.ok)) (.lf GC ((-1:Int),()))) ?_;refine Aj ?_ λ(y1:Int×PUnit) i1=>Ab (λh2=>Aa ?_ λ_=>Af trivial λ_=>(Ab (λh4=>lfY ?_) (λh4=>Aa rfl λ_=>Aa rfl λ_=>Aa ?_ λ_=>trivial))) (λh2=>lfY ?_)
 all_goals
  try simp only[Lidx,MG,GC,std,Nat.reduceAdd] at *
  try simp only[QV,Qa9,Qa8] at *
 ·first|omega|exact⟨o_,o_,by simp⟩
 ·omega
 ·rw[F4 o_,Qa1 h4] at i1;exact i1.2.2.symm
 ·rw[F4 o_,Qa4 o_] at i1;have hn:l.length<=1048576:=hp;rw[Ag o_,toNat1 o_];exact⟨⟨o_,o_,i1.2.2⟩,o_⟩
 ·rw[Jg o_] at i1;exact i1.2.2.symm)
def Am8:=Ao6.a Gn<|Fct.o [0,2] Ao6.2 func237 (by
 rintro⟨(l:List Sj_),_⟩ hp;refine ho (.cl GC (l,(),()) λ(z2:Int×PUnit)=>.lf Gn (z2.1,())) ?_;refine Af ?_ λ_=>(lfY ?_)
 all_goals try simp only[Gn,GC,std,Nat.reduceAdd] at *
 all_goals first|trivial|omega|(simp_all;done)|(simp_all;omega)|grind)
def inRange (n lo hi:Int):Bool:=decide (lo<=n)&&decide (n<=hi)
def fInRange:Fct:=⟨[aI,aI,aI],[rB],λ_=>True,λ(x:Int×Int×Int×Unit)=>(inRange x.1 x.2.1 x.2.2.1,())⟩
def AkK:=Am8.a fInRange<|Fct.o [0,1,2,6] Am8.2 func180 (by
 rintro⟨(n:Int),(lo:Int),(hi:Int),_⟩ hp;refine ho (.br (decide (lo<=n)) (.lf fInRange (decide (n<=hi),())) (.lf fInRange (false,()))) ?_;refine Ab (λh1=>lfY ?_) (λh1=>lfY ?_);all_goals try simp only[fInRange,std,Nat.reduceAdd,inRange] at *
 all_goals first|trivial|(simp_all;done)|(simp_all;omega)|grind)
def AnF:=AkK.a fInRange<|Fct.o [0,1,2,6] AkK.2 func208 (by
 rintro⟨(n:Int),(lo:Int),(hi:Int),_⟩ hp;refine ho (.br (decide (n>=lo)) (.lf fInRange (decide (n<=hi),())) (.lf fInRange (false,()))) ?_;refine Ab (λh1=>lfY ?_) (λh1=>lfY ?_);all_goals try simp only[fInRange,std,Nat.reduceAdd,inRange] at *
 all_goals first|trivial|(simp_all;done)|(simp_all;omega)|grind)
def Aa0:Fct:=⟨[aI,aI],[rI],λ_=>True,λ(x:Int×Int×Unit)=>(max x.1 x.2.1,())⟩
def AoT:=AnF.a Aa0<|Fct.o (KP [0,1,4] [7]) AnF.2 func77 (by
 rintro⟨(a:Int),(b:Int),_⟩ hp;refine ho (.br (decide (b>a)) (.lf Aa0 (b,())) (.lf Aa0 (a,()))) ?_;refine Ab (λh1=>lfY ?_) (λh1=>lfY ?_);all_goals try simp only[Aa0,std,Nat.reduceAdd] at *
 all_goals first|trivial|omega|(simp_all;done)|(simp_all;omega)|grind)
def fCopyConns:Fct:=⟨[aL .conn],[rL .conn],λ(x:List Sj_×Unit)=>x.1.length<=1048576,λ(x:List Sj_×Unit)=>(x.1,())⟩
def AlU:=AoT.a fCopyConns<|Fct.o [0,2] AoT.2 func153 (by
 rintro⟨(l:List Sj_),_⟩ hp;refine ho (.ob (True)<|.ob (Bx (0+List.length l) 112)<|.lf fCopyConns ([]++l,())) ?_;refine Aa trivial λ_=>Aa ?_ λ_=>lfY ?_
 all_goals try simp only[fCopyConns,std,Nat.reduceAdd] at *
 all_goals first|trivial|omega|(simp_all;done)|(simp_all;omega)|grind)
def moveOne (b:Int) (c:Sj_):Sj_:={ c with left:=max 0 (IntKind.i64.wrap (c.left-b))}
def moveConns (l:List Sj_) (b:Int):List Sj_:=if inRange b 0 1000 then l.map (moveOne b) else l
def Je:Fct:=⟨[aL .conn,aI],[rL .conn],λ(x:List Sj_×Int×Unit)=>x.1.length<=1048576,λ(x:List Sj_×Int×Unit)=>(moveConns x.1 x.2.1,())⟩
abbrev L45 (l:List Sj_) (b:Int):LInv:=⟨[⟨.s,6,true,.el .int⟩,⟨.s,5,true,.sl .conn⟩],λ_ (x:Int×List Sj_×Unit)=>0<=x.1/\x.1<=l.length/\x.2.1=moveConns (l.take x.1.toNat) b++l.drop x.1.toNat,λ(x:Int×List Sj_×Unit)=>l.length-x.1.toNat⟩
def Dn (l:List Sj_) (b:Int):(moveConns l b).length=l.length:=by unfold moveConns;split<;>simp
def Ji (b:Int):moveConns [] b=[]:=by unfold moveConns;split<;>rfl
def Io {l:List Sj_} {b:Int} {i:Nat} (hb:inRange b 0 1000=true) (h:i<l.length) {g:Sj_->Sj_} (hg:g (l.getD i default)=moveOne b (l.getD i default)):(moveConns (l.take i) b++l.drop i).modify i g=moveConns (l.take (i+1)) b++l.drop (i+1):=by
 rw[drop_cons h,HL (by rw[Dn,Qc0];omega),take_succ h];simp only[moveConns,hb,Qf0,List.map_append,Qc5,List.map_nil,Qb4,Qf5,Qg1,hg]
def OG {l:List Sj_} {b:Int} {i:Nat} (hb:inRange b 0 1000=false):moveConns (l.take i) b++l.drop i=moveConns l b:=by
 simp[moveConns,hb]
def AoL:=AlU.a Je<|Fct.p (KP [0,1,4,5,6] [17]) (λ⟨l,b,_⟩=>lv [(3,L45 l b)]) AlU.2 func209 (by
 rintro⟨(l:List Sj_),(b:Int),_⟩ hp;refine ho (.ob (True)<|.ob (Bx (0+l.length) 112)<|lpx (L45 l b) ((0:Int),([]++l,())) λ(y2:Int×List Sj_×PUnit) bk2=>.br (decide (y2.1<(l.length:Int))) (.cl fInRange (b,(0:Int),(1000:Int),()) λz2=>.br (z2.1) (.ob (inB y2.1 l.length)<|.cl Aa0 ((0:Int),wr ((l.getD y2.1.toNat default).left-b),()) λ(z3:Int×PUnit)=>.ob (inB y2.1 y2.2.1.length)<|.ob (y2.1.toNat<y2.2.1.length)<|.lt (List Sj_) (y2.2.1.modify y2.1.toNat λz=>(⟨z.to,z3.1,z.guess,z.bd⟩:Sj_)) λz4=>.ob (l=l)<|.ob (Value.int IntKind.i64 b=Value.int IntKind.i64 b)<|.ob (bk2 (w1 y2.1,(z4,())))<|.ok) (.lf Je (y2.2.1,()))) (.lf Je (y2.2.1,()))) ?_;refine Aa trivial λ_=>Aa ?_ λ_=>Aj ?_ λ(y2:Int×List Sj_×PUnit) i2=>Ab (λh3=>Af trivial λ_=>(Ab (λh4=>Aa ?_ λ_=>Af trivial λ_=>(Aa ?_ λ_=>Aa ?_ λ_=>DW (Aa rfl λ_=>Aa rfl λ_=>Aa ?_ λ_=>trivial))) (λh4=>lfY ?_))) (λh3=>lfY ?_)
 all_goals
  try simp only[L45,fInRange,Aa0,Je,std,Nat.reduceAdd] at *
  try have hln:y2.2.1.length=l.length:=by rw[i2.2.2,Qa3,Dn,Qc0,Qe4];omega
 ·omega
 ·exact⟨o_,o_,by simp[Ji]⟩
 ·omega
 ·omega
 ·omega
 ·rw[Ag o_,toNat1 o_,i2.2.2,Io h4 o_ (by simp[moveOne,Aa0])];exact⟨⟨o_,o_,rfl⟩,o_⟩
 ·rw[i2.2.2,OG h4]
 ·rw[i2.2.2,Qb1 o_,Qb2 o_,Qd5])
abbrev L46 (l:List Sj_) (b:Int):LInv:=⟨[⟨.s,15,true,.el .int⟩,⟨.s,5,true,.sl .conn⟩],λ_ (x:Int×List Sj_×Unit)=>0<=x.1/\x.1<=l.length/\x.2.1=moveConns (l.take x.1.toNat) b++l.drop x.1.toNat,λ(x:Int×List Sj_×Unit)=>l.length-x.1.toNat⟩
def Akv:=AoL.a Je<|Fct.p (KP [0,1,4,5,6,14,15] [11,16]) (λ⟨l,b,_⟩=>lv [(5,L46 l b)]) AoL.2 func236 (by
 rintro⟨(l:List Sj_),(b:Int),_⟩ hp;refine ho (.cl fCopyConns (l,()) λz2=>.cl fInRange (b,(0:Int),(1000:Int),()) λz3=>.br (!z3.1) (.lf Je (z2.1,())) (lpx (L46 l b) ((0:Int),(z2.1,())) λ(y3:Int×List Sj_×PUnit) bk3=>.br (decide (y3.1<(z2.1.length:Int))) (.ob (inB y3.1 y3.2.1.length)<|.ob (y3.1.toNat<y3.2.1.length)<|.ob (inB y3.1 y3.2.1.length)<|.ob (y3.1.toNat<y3.2.1.length)<|.lt (List Sj_) (y3.2.1.modify y3.1.toNat λz=>(⟨z.to,if wr ((y3.2.1.getD y3.1.toNat default).left-b)>0 then wr ((y3.2.1.getD y3.1.toNat default).left-b) else(0:Int),z.guess,z.bd⟩:Sj_)) λz4=>.ob (l=l)<|.ob (Value.int IntKind.i64 b=Value.int IntKind.i64 b)<|.ob (Value.int IntKind.i64 (z2.1.length:Int)=Value.int IntKind.i64 (z2.1.length:Int))<|.ob (bk3 (w1 y3.1,(z4,())))<|.ok) (.lf Je (y3.2.1,())))) ?_;refine Af ?_ λ_=>(Af trivial λ_=>(Ab (λh2=>lfY ?_) (λh2=>Aj ?_ λ(y3:Int×List Sj_×PUnit) i3=>Ab (λh4=>Aa ?_ λ_=>Aa ?_ λ_=>Aa ?_ λ_=>Aa ?_ λ_=>DW (Aa rfl λ_=>Aa rfl λ_=>Aa rfl λ_=>Aa ?_ λ_=>trivial)) (λh4=>lfY ?_))))
 all_goals
  try simp only[Hq] at *
  try simp only[L46,fCopyConns,fInRange,Je,std,Nat.reduceAdd] at *
  try have hln:y3.2.1.length=l.length:=by rw[i3.2.2,Qa3,Dn,Qc0,Qe4];omega
 ·omega
 ·rw[moveConns,h2];rfl
 ·exact⟨o_,o_,by simp[Ji]⟩
 ·omega
 ·omega
 ·omega
 ·omega
 ·rw[Ag o_,toNat1 o_];refine⟨⟨o_,o_,?_⟩,o_⟩;have hA:(moveConns (l.take y3.1.toNat) b).length=y3.1.toNat:=by rw[Dn,Qc0];omega
  have hget:y3.2.1.getD y3.1.toNat default=l.getD y3.1.toNat default:=by rw[i3.2.2,drop_cons (i:=y3.1.toNat) o_,getD_at hA]
  rw[hget,i3.2.2,Io h2 o_];simp only[moveOne];congr 1;split<;>omega
 ·rw[i3.2.2,Qb1 o_,Qb2 o_,Qd5])
def sizeResponse (x:Sd_):Int:=x.body.size+20
def Cx:Fct:=⟨[aE .bd],[rI],λ(x:Sd_×Unit)=>x.1.body.size<=1000000000000,λ(x:Sd_×Unit)=>(sizeResponse x.1,())⟩
def An9:=Akv.a Cx<|Fct.o [1,2] Akv.2 func283 (by
 rintro⟨(x:Sd_),_⟩ hp;refine ho (.lf Cx (wr ((x.body.size:Int)+20),())) ?_;refine lfY ?_;all_goals try simp only[Cx,std,Nat.reduceAdd,sizeResponse] at *
 rw[Ag o_])
def Ald:=An9.a Cx<|Fct.o [1,2] An9.2 func305 (by
 rintro⟨(x:Sd_),_⟩ hp;refine ho (.lf Cx (wr ((x.body.size:Int)+20),())) ?_;refine lfY ?_;all_goals try simp only[Cx,std,Nat.reduceAdd,sizeResponse] at *
 rw[Ag o_])
def openConn (l:List Sj_) (a:Sb_) (x:Sd_) (g:Bool):List Sj_×Bool:=if(l.length:Int)>=3\/findConn a l 0>=0 then(l,false) else(l++[⟨a,sizeResponse x,g,x⟩],true)
def fOpen:Fct:=⟨[aL .conn,aE .addr,aE .bd,aB],[rL .conn,rB],λ(x:List Sj_×Sb_×Sd_×Bool×Unit)=>x.1.length<=1048576/\x.2.2.1.body.size<=1048576,λ(x:List Sj_×Sb_×Sd_×Bool×Unit)=>((openConn x.1 x.2.1 x.2.2.1 x.2.2.2.1).1,(openConn x.1 x.2.1 x.2.2.1 x.2.2.2.1).2,())⟩
def AlK:=Ald.a fOpen<|Fct.o (KP [0,3,5,6,8,9,10] [22]) Ald.2 func202 (by
 rintro⟨(l:List Sj_),(a:Sb_),(x:Sd_),(g:Bool),_⟩ hp;refine ho (.ob (True)<|.ob (Bx (0+List.length l) 112)<|.br (decide ((↑(List.length l):Int)>=3)) (.lf fOpen ([]++l,false,())) (.cl fFind (l,a,()) λ(z2:Int×PUnit)=>.br (decide (z2.1>=0)) (.lf fOpen ([]++l,false,())) (.cl Cx (x,()) λ(z3:Int×PUnit)=>.ob (True)<|.ob (Bx (([]++l).length+[(⟨a,z3.1,g,x⟩:Sj_)].length) 112)<|.lf fOpen ([]++l++[(⟨a,z3.1,g,x⟩:Sj_)],true,())))) ?_;refine Aa trivial λ_=>Aa ?_ λ_=>Ab (λh2=>lfY ?_) (λh2=>Af ?_ λ_=>(Ab (λh4=>lfY ?_) (λh4=>Af ?_ λ_=>(Aa trivial λ_=>Aa ?_ λ_=>lfY ?_))))
 all_goals
  have hp1:l.length<=1048576:=hp.1;have hp3:x.body.size<=1048576:=hp.2;clear hp;try simp only[Hq] at *
  try simp only[fFind,fOpen,Cx,std,Nat.reduceAdd,fCopyConns,Qa3,Qa6,Qb7] at *
 all_goals first|trivial|omega|(simp[openConn,h2];done)|(simp[openConn,h4];done)|(have hh:¬ ((3:Int)<=(l.length:Int)\/0<=findConn a l 0):=by omega;simp[openConn,hh];done)|skip
 all_goals
  rw[openConn,Qa4 (show ¬ ((l.length:Int)>=3\/findConn a l 0>=0) by rintro(h|h)<;>omega)];exact⟨rfl,rfl⟩)
def Aps:=AlK.a fOpen<|Fct.o (KP [0,3,5,6,8,9,10] [21]) AlK.2 func230 (by
 rintro⟨(l:List Sj_),(a:Sb_),(x:Sd_),(g:Bool),_⟩ hp;refine ho (.cl fCopyConns (l,()) λz2=>.br (decide ((↑(List.length l):Int)>=3)) (.lf fOpen (z2.1,false,())) (.cl fFind (l,a,()) λ(z3:Int×PUnit)=>.br (decide (z3.1>=0)) (.lf fOpen (z2.1,false,())) (.cl Cx (x,()) λ(z4:Int×PUnit)=>.ob (True)<|.ob (Bx (z2.1.length+[(⟨a,z4.1,g,x⟩:Sj_)].length) 112)<|.lf fOpen (z2.1++[(⟨a,z4.1,g,x⟩:Sj_)],true,())))) ?_;refine Af ?_ λ_=>(Ab (λh2=>lfY ?_) (λh2=>Af ?_ λ_=>(Ab (λh4=>lfY ?_) (λh4=>Af ?_ λ_=>(Aa trivial λ_=>Aa ?_ λ_=>lfY ?_)))))
 all_goals
  have hp1:l.length<=1048576:=hp.1;have hp3:x.body.size<=1048576:=hp.2;clear hp;try simp only[Hq] at *
  try simp only[fCopyConns,fFind,fOpen,Cx,std,Nat.reduceAdd,Qa3,Qa6,Qb7] at *
 all_goals first|trivial|omega|(simp[openConn,h2];done)|(simp[openConn,h4];done)|(have hh:¬ ((3:Int)<=(l.length:Int)\/0<=findConn a l 0):=by omega;simp[openConn,hh];done)|skip
 all_goals
  rw[openConn,Qa4 (show ¬ ((l.length:Int)>=3\/findConn a l 0>=0) by rintro(h|h)<;>omega)];exact⟨rfl,rfl⟩)
def EU:Fct:=⟨[.v (.sl .addr),.v (.el .addr)],[.el .int],λ(x_:(List Sb_)×Sb_×Unit)=>x_.1.length<=1000000000000000000,λ(x_:(List Sb_)×Sb_×Unit)=>(fidx (λc=>decide (c=x_.2.1)) x_.1 0,())⟩
abbrev AX (l:(List Sb_)) (a:Sb_):LInv:=⟨[⟨.s,8,true,.el .int⟩,⟨.b,3,true,.el .addr⟩],λ(z_ x_:Int×Sb_×Unit)=>(0<=x_.1/\x_.1<=l.length/\fidx (λc=>decide (c=a)) l 0=fidx (λc=>decide (c=a)) (l.drop x_.1.toNat) x_.1)/\x_.2.1=z_.2.1,λ(x_:Int×Sb_×Unit)=>l.length-x_.1.toNat⟩
def Al0:=Aps.a EU<|Fct.p (KP [0,3,4,5,7,8] [9,16]) (λ⟨l,a,_⟩=>lv [(2,AX l a)]) Aps.2 func439 (by
 rintro⟨(l:List Sb_),(a:Sb_),_⟩ hp;refine ho (lpx (AX l a) ((0:Int),(a,())) λ(y1:Int×Sb_×PUnit) bk1=>.br (decide (y1.1<(l.length:Int))) (.ob (inB y1.1 l.length)<|.br (y1.2.1.host==(l.getD y1.1.toNat default).host&&(y1.2.1.path==(l.getD y1.1.toNat default).path&&true)) (.lf EU (y1.1,())) (.ob (l=l)<|.ob (Value.int IntKind.i64 (l.length:Int)=Value.int IntKind.i64 (l.length:Int))<|.ob (bk1 (w1 y1.1,(y1.2.1,())))<|.ok)) (.lf EU ((-1:Int),()))) ?_;refine Aj ?_ λ(y1:Int×Sb_×PUnit) i1=>Ab (λh2=>Aa ?_ λ_=>Ab (λh4=>lfY ?_) (λh4=>Aa rfl λ_=>Aa rfl λ_=>Aa ?_ λ_=>trivial)) (λh2=>lfY ?_)
 all_goals
  try simp only[Dj] at *
  try simp only[AX,EU,std,Nat.reduceAdd,fidx] at *
  try simp(disch:=omega) only[wrapId',toNat1] at *
  try simp(disch:=omega) only[Qa1,Qa4]
 all_goals first|trivial|omega|grind[wrapId',toNat1,drop_cons,drop_end,good_len,maxLen,fidx])
def C4:Fct:=⟨[.v (.sl .addr),.v (.el .addr)],[.el .bool],λ(x_:(List Sb_)×Sb_×Unit)=>x_.1.length<=1000000000000000000,λ(x_:(List Sb_)×Sb_×Unit)=>(x_.1.any λc=>decide (c=x_.2.1),())⟩
def Ao9:=Al0.a C4<|Fct.o [0,3,4] Al0.2 func378 (by
 rintro⟨(l:List Sb_),(a:Sb_),_⟩ hp;refine ho (.cl EU (l,a,()) λ(z2:Int×PUnit)=>.lf C4 (decide (z2.1>=0),())) ?_;refine Af ?_ λ_=>(lfY ?_)
 all_goals try simp only[C4,EU,std,Nat.reduceAdd] at *
 all_goals first|trivial|omega|(rw[Bool.eq_iff_iff];exact decide_eq_true_iff.trans (IF _ _ _ o_)))
def fHasAddr:Fct:=⟨[.v (.sl .addr),.v (.el .addr)],[.el .bool],λ(x_:(List Sb_)×Sb_×Unit)=>x_.1.length<=1000000000000000000,λ(x_:(List Sb_)×Sb_×Unit)=>(x_.1.any λc=>decide (c=x_.2.1),())⟩
abbrev DI (l:(List Sb_)) (a:Sb_):LInv:=⟨[⟨.s,5,true,.el .int⟩,⟨.b,3,true,.el .addr⟩],λ(z_ x_:Int×Sb_×Unit)=>(0<=x_.1/\x_.1<=l.length/\l.any (λc=>decide (c=a))=(l.drop x_.1.toNat).any (λc=>decide (c=a)))/\x_.2.1=z_.2.1,λ(x_:Int×Sb_×Unit)=>l.length-x_.1.toNat⟩
def Aob:=Ao9.a fHasAddr<|Fct.p (KP [0,3,4,5] [9,17]) (λ⟨l,a,_⟩=>lv [(2,DI l a)]) Ao9.2 func275 (by
 rintro⟨(l:List Sb_),(a:Sb_),_⟩ hp;refine ho (lpx (DI l a) ((0:Int),(a,())) λ(y1:Int×Sb_×PUnit) bk1=>.br (decide (y1.1<(l.length:Int))) (.ob (inB y1.1 l.length)<|.br ((l.getD y1.1.toNat default).host==y1.2.1.host&&((l.getD y1.1.toNat default).path==y1.2.1.path&&true)) (.lf fHasAddr (true,())) (.ob (l=l)<|.ob (bk1 (w1 y1.1,(y1.2.1,())))<|.ok)) (.lf fHasAddr (false,()))) ?_;refine Aj ?_ λ(y1:Int×Sb_×PUnit) i1=>Ab (λh2=>Aa ?_ λ_=>Ab (λh4=>lfY ?_) (λh4=>Aa rfl λ_=>Aa ?_ λ_=>trivial)) (λh2=>lfY ?_)
 all_goals
  try simp only[Dj] at *
  try simp only[DI,fHasAddr,std,Nat.reduceAdd] at *
  try simp(disch:=omega) only[wrapId',toNat1] at *
  try simp(disch:=omega) only[Qa1,Qa4]
 all_goals first|trivial|omega|grind[wrapId',toNat1,drop_cons,drop_end,good_len,maxLen])
def AmU:=Aob.a fHasAddr<|Fct.o [0,3,4] Aob.2 func297 (by
 rintro⟨(l:List Sb_),(a:Sb_),_⟩ hp;refine ho (.cl C4 (l,a,()) λz2=>.lf fHasAddr (z2.1,())) ?_;refine Af ?_ λ_=>(lfY ?_)
 all_goals
  try simp only[Dj] at *
  try simp only[C4,fHasAddr,std,Nat.reduceAdd] at *
  try simp(disch:=omega) only[wrapId',toNat1] at *
  try simp(disch:=omega) only[Qa1,Qa4]
 all_goals first|trivial|omega|grind[wrapId',toNat1,drop_cons,drop_end,good_len,maxLen])
def withoutAddrs (d:List Sb_):List Sf_->List Sf_
 | []=>[]
 | r::l=>if d.any (λc=>decide (c=r.to)) then withoutAddrs d l else r::withoutAddrs d l
def BH:Fct:=⟨[.v (.sl .request),.v (.sl .addr)],[.sl .request],λ(x_:(List Sf_)×(List Sb_)×Unit)=>x_.1.length<=1000000000000/\x_.2.1.length<=1048576,λ(x_:(List Sf_)×(List Sb_)×Unit)=>(withoutAddrs x_.2.1 x_.1,())⟩
abbrev BK (l:(List Sf_)) (d:(List Sb_)):LInv:=⟨[⟨.s,5,true,.sl .request⟩,⟨.s,6,true,.el .int⟩],λ_ (x_:(List Sf_)×Int×Unit)=>0<=x_.2.1/\x_.2.1<=l.length/\x_.1.length<=x_.2.1/\withoutAddrs d l=x_.1++withoutAddrs d (l.drop x_.2.1.toNat),λ(x_:(List Sf_)×Int×Unit)=>l.length-x_.2.1.toNat⟩
def AlO:=AmU.a BH<|Fct.p (KP [0,1,4,5,6] [11,21]) (λ⟨l,d,_⟩=>lv [(3,BK l d)]) AmU.2 func196 (by
 rintro⟨(l:List Sf_),(d:List Sb_),_⟩ hp;refine ho (lpx (BK l d) ([],((0:Int),())) λ(y1:List Sf_×Int×PUnit) bk1=>.br (decide (y1.2.1<(l.length:Int))) (.ob (inB y1.2.1 l.length)<|.cl fHasAddr (d,(l.getD y1.2.1.toNat default).to,()) λz2=>.br (!z2.1) (.ob (inB y1.2.1 l.length)<|.ob (True)<|.ob (Bx (y1.1.length+[l.getD y1.2.1.toNat default].length) 72)<|.ob (l=l)<|.ob (d=d)<|.ob (bk1 (y1.1++[l.getD y1.2.1.toNat default],(w1 y1.2.1,())))<|.ok) (.ob (l=l)<|.ob (d=d)<|.ob (bk1 (y1.1,(w1 y1.2.1,())))<|.ok)) (.lf BH (y1.1,()))) ?_;refine Aj ?_ λ(y1:List Sf_×Int×PUnit) i1=>Ab (λh2=>Aa ?_ λ_=>Af ?_ λ_=>(Ab (λh5=>Aa ?_ λ_=>Aa trivial λ_=>Aa ?_ λ_=>Aa rfl λ_=>Aa rfl λ_=>Aa ?_ λ_=>trivial) (λh5=>Aa rfl λ_=>Aa rfl λ_=>Aa ?_ λ_=>trivial))) (λh2=>lfY ?_)
 all_goals
  try simp only[BK,fHasAddr,BH,std,Nat.reduceAdd,withoutAddrs] at *
  try simp(disch:=omega) only[wrapId',toNat1] at *
  try simp(disch:=omega) only[Qa1,Qa4]
 all_goals first|trivial|omega|grind[wrapId',toNat1,drop_cons,drop_end,good_len,maxLen,withoutAddrs,fHasAddr])
abbrev A7 (l:(List Sf_)) (d:(List Sb_)):LInv:=⟨[⟨.s,5,true,.sl .request⟩,⟨.s,11,true,.el .int⟩],λ_ (x_:(List Sf_)×Int×Unit)=>0<=x_.2.1/\x_.2.1<=l.length/\x_.1.length<=x_.2.1/\withoutAddrs d l=x_.1++withoutAddrs d (l.drop x_.2.1.toNat),λ(x_:(List Sf_)×Int×Unit)=>l.length-x_.2.1.toNat⟩
def AlW:=AlO.a BH<|Fct.p (KP [0,1,4,5,7,9,10,11] [12,19]) (λ⟨l,d,_⟩=>lv [(3,A7 l d)]) AlO.2 func225 (by
 rintro⟨(l:List Sf_),(d:List Sb_),_⟩ hp;refine ho (lpx (A7 l d) ([],((0:Int),())) λ(y1:List Sf_×Int×PUnit) bk1=>.br (decide (y1.2.1<(l.length:Int))) (.ob (inB y1.2.1 l.length)<|.cl fHasAddr (d,(l.getD y1.2.1.toNat default).to,()) λz2=>.br (!z2.1) (.ob (True)<|.ob (Bx (y1.1.length+[l.getD y1.2.1.toNat default].length) 72)<|.ob (l=l)<|.ob (d=d)<|.ob (l=l)<|.ob (Value.int IntKind.i64 (l.length:Int)=Value.int IntKind.i64 (l.length:Int))<|.ob (bk1 (y1.1++[l.getD y1.2.1.toNat default],(w1 y1.2.1,())))<|.ok) (.ob (l=l)<|.ob (d=d)<|.ob (l=l)<|.ob (Value.int IntKind.i64 (l.length:Int)=Value.int IntKind.i64 (l.length:Int))<|.ob (bk1 (y1.1,(w1 y1.2.1,())))<|.ok)) (.lf BH (y1.1,()))) ?_;repeat' first|(guard_target =~ Out.holds _ _;first|refine Aj (li:=A7 l d) ?_ λ(y1:List Sf_×Int×PUnit) i1=>?_|refine lfY ?_|refine Ab (λ_=>?_) λ_=>?_|refine Af ?_ λ_=>?_|refine Aa ?_ λ_=>?_)|exact trivial
 all_goals
  try simp only[A7,fHasAddr,BH,std,Nat.reduceAdd,withoutAddrs] at *
  try simp(disch:=omega) only[wrapId',toNat1] at *
  try simp(disch:=omega) only[Qa1,Qa4]
 all_goals first|trivial|omega|grind[wrapId',toNat1,drop_cons,drop_end,good_len,maxLen,withoutAddrs,fHasAddr])
def Hl (d:List Sb_) (l:List Sf_):(withoutAddrs d l).length<=l.length:=by
 induction l<;>grind[withoutAddrs]
def FB:Fct:=⟨[.v (.sl .str),.v (.el .str)],[.el .int],λ(x_:(List ByteArray)×ByteArray×Unit)=>x_.1.length<=1000000000000000000,λ(x_:(List ByteArray)×ByteArray×Unit)=>(fidx (λc=>decide (c=x_.2.1)) x_.1 0,())⟩
abbrev Ba (l:(List ByteArray)) (a:ByteArray):LInv:=⟨[⟨.s,8,true,.el .int⟩],λ_ (x_:Int×Unit)=>0<=x_.1/\x_.1<=l.length/\fidx (λc=>decide (c=a)) l 0=fidx (λc=>decide (c=a)) (l.drop x_.1.toNat) x_.1,λ(x_:Int×Unit)=>l.length-x_.1.toNat⟩
def AmP:=AlW.a FB<|Fct.p (KP [0,1,4,5,7,8] [9,16]) (λ⟨l,a,_⟩=>lv [(2,Ba l a)]) AlW.2 func488 (by
 rintro⟨(l:List ByteArray),(a:ByteArray),_⟩ hp;refine ho (lpx (Ba l a) ((0:Int),()) λ(y1:Int×PUnit) bk1=>.br (decide (y1.1<(l.length:Int))) (.ob (inB y1.1 l.length)<|.br (a.toList==(l.getD y1.1.toNat default).toList) (.lf FB (y1.1,())) (.ob (l=l)<|.ob (Value.string a=Value.string a)<|.ob (Value.int IntKind.i64 (l.length:Int)=Value.int IntKind.i64 (l.length:Int))<|.ob (bk1 (w1 y1.1,()))<|.ok)) (.lf FB ((-1:Int),()))) ?_;refine Aj ?_ λ(y1:Int×PUnit) i1=>Ab (λh2=>Aa ?_ λ_=>Ab (λh4=>lfY ?_) (λh4=>Aa rfl λ_=>Aa rfl λ_=>Aa rfl λ_=>Aa ?_ λ_=>trivial)) (λh2=>lfY ?_)
 all_goals
  try simp only[Aii,Ah6] at *
  try simp only[Ba,FB,std,Nat.reduceAdd,fidx] at *
  try simp(disch:=omega) only[wrapId',toNat1] at *
  try simp(disch:=omega) only[Qa1,Qa4]
 all_goals first|trivial|omega|grind[wrapId',toNat1,drop_cons,drop_end,good_len,maxLen,fidx])
def fContains_str:Fct:=⟨[.v (.sl .str),.v (.el .str)],[.el .bool],λ(x_:(List ByteArray)×ByteArray×Unit)=>x_.1.length<=1000000000000000000,λ(x_:(List ByteArray)×ByteArray×Unit)=>(x_.1.any λc=>decide (c=x_.2.1),())⟩
def AkD:=AmP.a fContains_str<|Fct.o [0,1,4] AmP.2 func447 (by
 rintro⟨(l:List ByteArray),(a:ByteArray),_⟩ hp;refine ho (.cl FB (l,a,()) λ(z2:Int×PUnit)=>.lf fContains_str (decide (z2.1>=0),())) ?_;refine Af ?_ λ_=>(lfY ?_)
 all_goals try simp only[fContains_str,FB,std,Nat.reduceAdd] at *
 all_goals first|trivial|omega|(rw[Bool.eq_iff_iff];exact decide_eq_true_iff.trans (IF _ _ _ o_)))
def fHas9:Fct:=⟨[.v (.sl .str),.v (.el .str)],[.el .bool],λ(x_:(List ByteArray)×ByteArray×Unit)=>x_.1.length<=1000000000000000000,λ(x_:(List ByteArray)×ByteArray×Unit)=>(x_.1.any λc=>decide (c=x_.2.1),())⟩
abbrev Eh (l:(List ByteArray)) (s:ByteArray):LInv:=⟨[⟨.s,5,true,.el .int⟩],λ_ (x_:Int×Unit)=>0<=x_.1/\x_.1<=l.length/\l.any (λc=>decide (c=s))=(l.drop x_.1.toNat).any (λc=>decide (c=s)),λ(x_:Int×Unit)=>l.length-x_.1.toNat⟩
def Aoo:=AkD.a fHas9<|Fct.p (KP [0,1,4,5] [9,17]) (λ⟨l,s,_⟩=>lv [(2,Eh l s)]) AkD.2 func426 (by
 rintro⟨(l:List ByteArray),(s:ByteArray),_⟩ hp;refine ho (lpx (Eh l s) ((0:Int),()) λ(y1:Int×PUnit) bk1=>.br (decide (y1.1<(l.length:Int))) (.ob (inB y1.1 l.length)<|.br ((l.getD y1.1.toNat default).toList==s.toList) (.lf fHas9 (true,())) (.ob (l=l)<|.ob (Value.string s=Value.string s)<|.ob (bk1 (w1 y1.1,()))<|.ok)) (.lf fHas9 (false,()))) ?_;refine Aj ?_ λ(y1:Int×PUnit) i1=>Ab (λh2=>Aa ?_ λ_=>Ab (λh4=>lfY ?_) (λh4=>Aa rfl λ_=>Aa rfl λ_=>Aa ?_ λ_=>trivial)) (λh2=>lfY ?_)
 all_goals
  try simp only[Eh,fHas9,std,Nat.reduceAdd] at *
  try simp(disch:=omega) only[wrapId',toNat1] at *
  try simp(disch:=omega) only[Qa1,Qa4]
 all_goals first|trivial|omega|grind[wrapId',toNat1,drop_cons,drop_end,good_len,maxLen])
def fIsComplete:Fct:=⟨[.v (.el .page)],[.el .bool],λ(x_:Sa_×Unit)=>True,λ(x_:Sa_×Unit)=>(x_.1.loaded,())⟩
def Anz:=Aoo.a fIsComplete<|Fct.o [1,2] Aoo.2 func157 (by
 rintro⟨(p:Sa_),_⟩ hp;refine ho (.lf fIsComplete (p.loaded,())) ?_;refine lfY ?_;all_goals try simp only[fIsComplete,std,Nat.reduceAdd] at *
 all_goals first|trivial|omega|(simp_all;done)|(simp_all;omega)|grind)
def AmC:=Anz.a fIsComplete<|Fct.o [1,2] Anz.2 func158 (by
 rintro⟨(p:Sa_),_⟩ hp;refine ho (.lf fIsComplete (p.loaded,())) ?_;refine lfY ?_;all_goals try simp only[fIsComplete,std,Nat.reduceAdd] at *
 all_goals first|trivial|omega|(simp_all;done)|(simp_all;omega)|grind)
def blockedOn (p:Sa_):Sb_×Bool:=if 1<=p.block/\p.block<=p.bf.length then((p.bf.getD (p.block-1).toNat default).to,true) else(default,false)
def Dl:Fct:=⟨[.v (.el .page)],[.el .addr,.el .bool],λ(x_:Sa_×Unit)=>x_.1.bf.length<=1000000000000/\-9223372036854775808<=x_.1.block/\x_.1.block<=9223372036854775807,λ(x_:Sa_×Unit)=>((blockedOn x_.1).1,(blockedOn x_.1).2,())⟩
def Alq:=AmC.a Dl<|Fct.o (KP [1,2,3] [10]) AmC.2 func356 (by
 rintro⟨(p:Sa_),_⟩ hp;refine ho (.cl fInRange (p.block,(1:Int),(p.bf.length:Int),()) λz2=>.br (!z2.1) (.lf Dl (default,false,())) (.ob (0<=wr (p.block-(1:Int))/\wr (p.block-(1:Int))<(p.bf.length:Int))<|.lf Dl ((p.bf.getD (wr (p.block-(1:Int))).toNat default).to,true,()))) ?_;refine Af trivial λ_=>(Ab (λh1=>lfY ?_) (λh1=>Aa ?_ λ_=>lfY ?_))
 all_goals
  try simp only[Dl,fInRange,std,Nat.reduceAdd,blockedOn,inRange] at *
  try simp(disch:=omega) only[wrapId',toNat1] at *
  try simp(disch:=omega) only[Qa1,Qa4]
 all_goals first|trivial|omega|grind[wrapId',toNat1,drop_cons,drop_end,good_len,maxLen,blockedOn,fInRange,inRange])
def AlZ:=Alq.a Dl<|Fct.o (KP [1,2,3,4] [21]) Alq.2 func380 (by
 rintro⟨(p:Sa_),_⟩ hp;refine ho (.br (p.block==0) (.lf Dl (default,false,())) (.br (decide (wr (p.block-(1:Int))<0)) (.lf Dl (default,false,())) (.br (decide (wr (p.block-(1:Int))>=(p.bf.length:Int))) (.lf Dl (default,false,())) (.ob (0<=wr (p.block-(1:Int))/\wr (p.block-(1:Int))<(p.bf.length:Int))<|.lf Dl ((p.bf.getD (wr (p.block-(1:Int))).toNat default).to,true,()))))) ?_;refine Ab (λh1=>lfY ?_) (λh1=>Ab (λh2=>lfY ?_) (λh2=>Ab (λh3=>lfY ?_) (λh3=>Aa ?_ λ_=>lfY ?_)));all_goals
  try simp only[Dl,std,Nat.reduceAdd,blockedOn] at *
  try simp only[IntKind.wrap_i64] at *
  try simp(disch:=omega) only[Qa1,Qa4]
 all_goals first|trivial|omega|skip
 rw[show((p.block-1+9223372036854775808) % 18446744073709551616-9223372036854775808).toNat=(p.block-1).toNat from o_];trivial)
def classOf (p:Sa_) (r:Sf_):Int:=if(blockedOn p).2=true/\(blockedOn p).1=r.to then 0 else if r.kind=3 then 1 else if r.kind=2 then 2 else if r.kind=5 then 3 else if r.kind=4 then 4 else 5
def fClassOf:Fct:=⟨[.v (.el .page),.v (.el .request)],[.el .int],λ(x_:Sa_×Sf_×Unit)=>x_.1.bf.length<=1000000000000/\-9223372036854775808<=x_.1.block/\x_.1.block<=9223372036854775807,λ(x_:Sa_×Sf_×Unit)=>(classOf x_.1 x_.2.1,())⟩
theorem q0 (p:Sa_) (r:Sf_) (hp:fClassOf.pre (p,r,())):Out.holds (fClassOf.ctr (p,r,())).post (let q0_:Out:=.br (r.kind==3) (.lf fClassOf ((1:Int),())) (.br (r.kind==2) (.lf fClassOf ((2:Int),())) (.br (r.kind==5) (.lf fClassOf ((3:Int),())) (.br (r.kind==4) (.lf fClassOf ((4:Int),())) (.lf fClassOf ((5:Int),())))));.cl Dl (p,()) λz2=>.br (z2.2.1) (.br (z2.1.host==r.to.host&&(z2.1.path==r.to.path&&true)) (.lf fClassOf ((0:Int),())) q0_) q0_):=by
 repeat' (guard_target =~ Out.holds _ _;first|refine lfY ?_|refine Ab (λ_=>?_) λ_=>?_|refine Af ?_ λ_=>?_)
 all_goals
  try simp only[Dj] at *
  try simp only[Dl,fClassOf,std,Nat.reduceAdd,classOf] at *
  try simp(disch:=omega) only[wrapId',toNat1] at *
  try simp(disch:=omega) only[Qa1,Qa4]
 all_goals first|trivial|omega|grind[wrapId',toNat1,drop_cons,drop_end,good_len,maxLen,classOf]
def An3:=AlZ.a fClassOf<|Fct.o (KP [2,3,4,5,6,20] [18,21,23,25,27]) AlZ.2 func280 (by
 rintro⟨(p:Sa_),(r:Sf_),_⟩ hp;exact ho _ (q0 p r hp))
def Apj:=An3.a fClassOf<|Fct.o (KP [2,3,4,5,6,20] [18,21,23,25,27]) An3.2 func302 (by
 rintro⟨(p:Sa_),(r:Sf_),_⟩ hp;exact ho _ (q0 p r hp))
def Ie {l:List St_} {i:Nat} (h:i<l.length):(l.getD i default).bo.length+l.length<=szL szNode l:=by
 have:=D6 szNode h;have h2:=Ac A3 (l.getD i default).bo;simp only[szNode] at this;omega
def Hf {l:List Sh_} {i:Nat} (h:i<l.length):(l.getD i default).bo.length+l.length<=szL szToken l:=by
 have:=D6 szToken h;have h2:=Ac A3 (l.getD i default).bo;simp only[szToken] at this;omega
def pickReq (p:Sa_):List Sf_->Int->Int->Int->Int
 | [],_,best,_=>best
 | r::l,i,best,bc=>if best<0\/classOf p r<bc then pickReq p l (i+1) i (classOf p r) else pickReq p l (i+1) best bc
def B8:Fct:=⟨[.v (.el .page),.v (.sl .request)],[.el .int],λ(x_:Sa_×(List Sf_)×Unit)=>x_.1.bf.length<=1000000000000/\(-9223372036854775808<=x_.1.block/\x_.1.block<=9223372036854775807)/\x_.2.1.length<=1000000000000,λ(x_:Sa_×(List Sf_)×Unit)=>(pickReq x_.1 x_.2.1 0 (-1) 0,())⟩
abbrev Bb (p:Sa_) (l:(List Sf_)):LInv:=⟨[⟨.s,5,true,.el .int⟩,⟨.s,6,true,.el .int⟩,⟨.b,2,false,.el .page⟩],λ(z_ x_:Int×Int×Sa_×Unit)=>(0<=x_.2.1/\x_.2.1<=l.length/\-1<=x_.1/\x_.1<x_.2.1/\(x_.1 = -1->x_.2.1=0)/\pickReq p (l.drop x_.2.1.toNat) x_.2.1 x_.1 (if x_.1<0 then 0 else classOf p (l.getD x_.1.toNat default))=pickReq p l 0 (-1) 0)/\x_.2.2.1=z_.2.2.1,λ(x_:Int×Int×Sa_×Unit)=>l.length-x_.2.1.toNat⟩
def Ak6:=Apj.a B8<|Fct.p (KP [1,2,4,5,6] [10,29]) (λ⟨p,l,_⟩=>lv [(3,Bb p l)]) Apj.2 func199 (by
 rintro⟨(p:Sa_),(l:List Sf_),_⟩ hp;refine ho (let q1_:=Value.int IntKind.i64 0=Value.int IntKind.i64 (0:Int);lpx (Bb p l) ((-1:Int),((0:Int),(p,()))) λ(y1:Int×Int×Sa_×PUnit) bk1=>let q0_:Out:=.ob (l=l)<|.ob q1_<|.ob (bk1 (y1.2.1,(w1 y1.2.1,(y1.2.2.1,()))))<|.ok;.br (decide (y1.2.1<(l.length:Int))) (.br (decide (y1.1<0)) q0_ (.ob (inB y1.2.1 l.length)<|.cl fClassOf (y1.2.2.1,l.getD y1.2.1.toNat default,()) λ(z2:Int×PUnit)=>.ob (inB y1.1 l.length)<|.cl fClassOf (y1.2.2.1,l.getD y1.1.toNat default,()) λ(z3:Int×PUnit)=>.br (decide (z2.1<z3.1)) q0_ (.ob (l=l)<|.ob q1_<|.ob (bk1 (y1.1,(w1 y1.2.1,(y1.2.2.1,()))))<|.ok))) (.lf B8 (y1.1,()))) ?_;repeat' first|(guard_target =~ Out.holds _ _;first|refine Aj (li:=Bb p l) ?_ λ(y1:Int×Int×Sa_×PUnit) i1=>?_|refine lfY ?_|refine Ab (λ_=>?_) λ_=>?_|refine Af ?_ λ_=>?_|refine Aa ?_ λ_=>?_)|exact trivial
 all_goals
  try simp only[Bb,fClassOf,B8,std,Nat.reduceAdd,pickReq] at *
  try simp(disch:=omega) only[wrapId',toNat1] at *
  try simp(disch:=omega) only[Qa1,Qa4]
 all_goals first|trivial|omega|grind[wrapId',toNat1,drop_cons,drop_end,good_len,maxLen,pickReq,fClassOf])
abbrev Be (p:Sa_) (l:(List Sf_)):LInv:=⟨[⟨.s,5,true,.el .int⟩,⟨.s,10,true,.el .int⟩,⟨.b,2,false,.el .page⟩],λ(z_ x_:Int×Int×Sa_×Unit)=>(0<=x_.2.1/\x_.2.1<=l.length/\-1<=x_.1/\x_.1<x_.2.1/\(x_.1 = -1->x_.2.1=0)/\pickReq p (l.drop x_.2.1.toNat) x_.2.1 x_.1 (if x_.1<0 then 0 else classOf p (l.getD x_.1.toNat default))=pickReq p l 0 (-1) 0)/\x_.2.2.1=z_.2.2.1,λ(x_:Int×Int×Sa_×Unit)=>l.length-x_.2.1.toNat⟩
def Akf:=Ak6.a B8<|Fct.p (KP [1,2,4,5,6,7,8,9,10] [11,28]) (λ⟨p,l,_⟩=>lv [(3,Be p l)]) Ak6.2 func227 (by
 rintro⟨(p:Sa_),(l:List Sf_),_⟩ hp;refine ho (let q3_:=(l.length:Int);let q2_:=Value.int IntKind.i64 0=Value.int IntKind.i64 (0:Int);let q1_:=Value.int IntKind.i64 q3_=Value.int IntKind.i64 q3_;lpx (Be p l) ((-1:Int),((0:Int),(p,()))) λ(y1:Int×Int×Sa_×PUnit) bk1=>let q0_:Out:=.ob (l=l)<|.ob q2_<|.ob (l=l)<|.ob q1_<|.ob (bk1 (y1.2.1,(w1 y1.2.1,(y1.2.2.1,()))))<|.ok;.br (decide (y1.2.1<q3_)) (.ob (inB y1.2.1 l.length)<|.br (decide (y1.1<0)) q0_ (.cl fClassOf (y1.2.2.1,l.getD y1.2.1.toNat default,()) λ(z2:Int×PUnit)=>.ob (inB y1.1 l.length)<|.cl fClassOf (y1.2.2.1,l.getD y1.1.toNat default,()) λ(z3:Int×PUnit)=>.br (decide (z2.1<z3.1)) q0_ (.ob (l=l)<|.ob q2_<|.ob (l=l)<|.ob q1_<|.ob (bk1 (y1.1,(w1 y1.2.1,(y1.2.2.1,()))))<|.ok))) (.lf B8 (y1.1,()))) ?_;repeat' first|(guard_target =~ Out.holds _ _;first|refine Aj (li:=Be p l) ?_ λ(y1:Int×Int×Sa_×PUnit) i1=>?_|refine lfY ?_|refine Ab (λ_=>?_) λ_=>?_|refine Af ?_ λ_=>?_|refine Aa ?_ λ_=>?_)|exact trivial
 all_goals
  try simp only[Be,fClassOf,B8,std,Nat.reduceAdd,pickReq] at *
  try simp(disch:=omega) only[wrapId',toNat1] at *
  try simp(disch:=omega) only[Qa1,Qa4]
 all_goals first|trivial|omega|grind[wrapId',toNat1,drop_cons,drop_end,good_len,maxLen,pickReq,fClassOf])
def fUnused:Fct:=⟨[.v (.sl .guess)],[.el .int],λ(x_:(List Sl_)×Unit)=>x_.1.length<=4194304,λ(x_:(List Sl_)×Unit)=>(countIf (λg=>!g.used) x_.1,())⟩
abbrev CC (l:(List Sl_)):LInv:=⟨[⟨.s,3,true,.el .int⟩,⟨.s,4,true,.el .int⟩],λ_ (x_:Int×Int×Unit)=>0<=x_.2.1/\x_.2.1<=l.length/\0<=x_.1/\x_.1<=x_.2.1/\x_.1+countIf (λg=>!g.used) (l.drop x_.2.1.toNat)=countIf (λg=>!g.used) l,λ(x_:Int×Int×Unit)=>l.length-x_.2.1.toNat⟩
def AlB:=Akf.a fUnused<|Fct.p (KP [0,2,3,4] [8,16]) (λ⟨l,_⟩=>lv [(3,CC l)]) Akf.2 func203 (by
 rintro⟨(l:List Sl_),_⟩ hp;refine ho (lpx (CC l) ((0:Int),((0:Int),())) λ(y1:Int×Int×PUnit) bk1=>.br (decide (y1.2.1<(l.length:Int))) (.ob (inB y1.2.1 l.length)<|.br (!(l.getD y1.2.1.toNat default).used) (.ob (l=l)<|.ob (Value.int IntKind.i64 0=Value.int IntKind.i64 (0:Int))<|.ob (bk1 (w1 y1.1,(w1 y1.2.1,())))<|.ok) (.ob (l=l)<|.ob (Value.int IntKind.i64 0=Value.int IntKind.i64 (0:Int))<|.ob (bk1 (y1.1,(w1 y1.2.1,())))<|.ok)) (.lf fUnused (y1.1,()))) ?_;refine Aj ?_ λ(y1:Int×Int×PUnit) i1=>Ab (λh2=>Aa ?_ λ_=>Ab (λh4=>Aa rfl λ_=>Aa rfl λ_=>Aa ?_ λ_=>trivial) (λh4=>Aa rfl λ_=>Aa rfl λ_=>Aa ?_ λ_=>trivial)) (λh2=>lfY ?_)
 all_goals
  try simp only[CC,fUnused,std,Nat.reduceAdd,countIf,countIf_le] at *
  try simp(disch:=omega) only[wrapId',toNat1] at *
  try simp(disch:=omega) only[Qa1,Qa4]
 all_goals first|trivial|omega|grind[wrapId',toNat1,drop_cons,drop_end,good_len,maxLen,countIf,countIf_le])
abbrev Bu (l:(List Sl_)):LInv:=⟨[⟨.s,3,true,.el .int⟩,⟨.s,8,true,.el .int⟩],λ_ (x_:Int×Int×Unit)=>0<=x_.2.1/\x_.2.1<=l.length/\0<=x_.1/\x_.1<=x_.2.1/\x_.1+countIf (λg=>!g.used) (l.drop x_.2.1.toNat)=countIf (λg=>!g.used) l,λ(x_:Int×Int×Unit)=>l.length-x_.2.1.toNat⟩
def AmA:=AlB.a fUnused<|Fct.p (KP [0,2,3,5,6,7,8] [9,14]) (λ⟨l,_⟩=>lv [(3,Bu l)]) AlB.2 func231 (by
 rintro⟨(l:List Sl_),_⟩ hp;refine ho (let q2_:=(l.length:Int);let q1_:=Value.int IntKind.i64 0=Value.int IntKind.i64 (0:Int);let q0_:=Value.int IntKind.i64 q2_=Value.int IntKind.i64 q2_;lpx (Bu l) ((0:Int),((0:Int),())) λ(y1:Int×Int×PUnit) bk1=>.br (decide (y1.2.1<q2_)) (.ob (inB y1.2.1 l.length)<|.br (!(l.getD y1.2.1.toNat default).used) (.ob (l=l)<|.ob q1_<|.ob (l=l)<|.ob q0_<|.ob (bk1 (w1 y1.1,(w1 y1.2.1,())))<|.ok) (.ob (l=l)<|.ob q1_<|.ob (l=l)<|.ob q0_<|.ob (bk1 (y1.1,(w1 y1.2.1,())))<|.ok)) (.lf fUnused (y1.1,()))) ?_;repeat' first|(guard_target =~ Out.holds _ _;first|refine Aj (li:=Bu l) ?_ λ(y1:Int×Int×PUnit) i1=>?_|refine lfY ?_|refine Ab (λ_=>?_) λ_=>?_|refine Aa ?_ λ_=>?_)|exact trivial
 all_goals
  try simp only[Bu,fUnused,std,Nat.reduceAdd,countIf,countIf_le] at *
  try simp(disch:=omega) only[wrapId',toNat1] at *
  try simp(disch:=omega) only[Qa1,Qa4]
 all_goals first|trivial|omega|grind[wrapId',toNat1,drop_cons,drop_end,good_len,maxLen,countIf,countIf_le])
def Co:Fct:=⟨[.v (.el .loader)],[.el .bool],λ(x_:Sc_×Unit)=>True,λ(x_:Sc_×Unit)=>(x_.1.page.loaded&&decide (x_.1.parts.length=0),())⟩
theorem q1 (l:Sc_) (hp:Co.pre (l,())):Out.holds (Co.ctr (l,())).post (.cl fIsComplete (l.page,()) λz2=>.br (z2.1) (.lf Co ((l.parts.length:Int)==0,())) (.lf Co (false,()))):=by
 refine Af trivial λ_=>(Ab (λh1=>lfY ?_) (λh1=>lfY ?_))
 all_goals
  try simp only[fIsComplete,Co,std,Nat.reduceAdd] at *
  try simp(disch:=omega) only[wrapId',toNat1] at *
  try simp(disch:=omega) only[Qa1,Qa4]
 all_goals first|trivial|omega|grind[wrapId',toNat1,drop_cons,drop_end,good_len,maxLen,fIsComplete]
def AkA:=AmA.a Co<|Fct.o [1,2] AmA.2 func92 (by
 rintro⟨(l:Sc_),_⟩ hp;exact ho _ (q1 l hp))
def AkF:=AkA.a Co<|Fct.o [1,2] AkA.2 func93 (by
 rintro⟨(l:Sc_),_⟩ hp;exact ho _ (q1 l hp))
def fCopyAttrs:Fct:=⟨[.v (.sl .attr)],[.sl .attr],λ(x_:(List Ss_)×Unit)=>x_.1.length<=1099511627776,λ(x_:(List Ss_)×Unit)=>(x_.1,())⟩
def AmR:=AkF.a fCopyAttrs<|Fct.o [0,2] AkF.2 func290 (by
 rintro⟨(l:List Ss_),_⟩ hp;refine ho (.ob (True)<|.ob (Bx (0+List.length l) 32)<|.lf fCopyAttrs ([]++l,())) ?_;refine Aa trivial λ_=>Aa ?_ λ_=>lfY ?_
 all_goals
  try simp only[fCopyAttrs,std,Nat.reduceAdd] at *
  try simp(disch:=omega) only[wrapId',toNat1] at *
  try simp(disch:=omega) only[Qa1,Qa4]
 all_goals first|trivial|omega|grind[wrapId',toNat1,drop_cons,drop_end,good_len,maxLen])
def fCopyToken:Fct:=⟨[.v (.el .token)],[.el .token],λ(x_:Sh_×Unit)=>x_.1.bo.length<=1099511627776,λ(x_:Sh_×Unit)=>(x_.1,())⟩
def Akj:=AmR.a fCopyToken<|Fct.o [1,2] AmR.2 func317 (by
 rintro⟨(t:Sh_),_⟩ hp;refine ho (.ob (True)<|.ob (Bx (0+t.bo.length) 32)<|.lf fCopyToken (⟨t.kind,t.name,[]++t.bo,t.text⟩,())) ?_;refine Aa trivial λ_=>Aa ?_ λ_=>lfY ?_
 all_goals
  try simp only[fCopyToken,std,Nat.reduceAdd] at *
  try simp(disch:=omega) only[wrapId',toNat1] at *
  try simp(disch:=omega) only[Qa1,Qa4]
 all_goals first|trivial|omega|grind[wrapId',toNat1,drop_cons,drop_end,good_len,maxLen])
def fCopyTokens:Fct:=⟨[.v (.sl .token)],[.sl .token],λ(x_:(List Sh_)×Unit)=>szL szToken x_.1<=1099511627776,λ(x_:(List Sh_)×Unit)=>(x_.1,())⟩
abbrev CA (l:(List Sh_)):LInv:=⟨[⟨.s,3,true,.sl .token⟩,⟨.s,4,true,.el .int⟩],λ_ (x_:(List Sh_)×Int×Unit)=>0<=x_.2.1/\x_.2.1<=l.length/\x_.1=l.take x_.2.1.toNat,λ(x_:(List Sh_)×Int×Unit)=>l.length-x_.2.1.toNat⟩
def Apv:=Akj.a fCopyTokens<|Fct.p (KP [0,2,3,4,5] [10]) (λ⟨l,_⟩=>lv [(3,CA l)]) Akj.2 func215 (by
 rintro⟨(l:List Sh_),_⟩ hp;refine ho (lpx (CA l) ([],((0:Int),())) λ(y1:List Sh_×Int×PUnit) bk1=>let q2_:=inB y1.2.1 l.length;let q0_:=l.getD y1.2.1.toNat default;.br (decide (y1.2.1<(l.length:Int))) (.ob q2_<|.ob q2_<|.cl fCopyAttrs (q0_.bo,()) λz2=>let q1_:=(⟨q0_.kind,q0_.name,z2.1,q0_.text⟩:Sh_);.ob (Bx (y1.1.length+[q1_].length) 64)<|.ob (l=l)<|.ob (bk1 (y1.1++[q1_],(w1 y1.2.1,())))<|.ok) (.lf fCopyTokens (y1.1,()))) ?_;refine Aj ?_ λ(y1:List Sh_×Int×PUnit) i1=>Ab (λh2=>Aa ?_ λ_=>Aa ?_ λ_=>Af ?_ λ_=>(Aa ?_ λ_=>Aa rfl λ_=>Aa ?_ λ_=>trivial)) (λh2=>lfY ?_)
 all_goals
  have hl:=Ac szToken l;try have hg:=Hf (l:=l) (i:=y1.2.1.toNat)
  try have hg:=Hf (l:=l) (i:=y2.2.1.toNat)
  try simp only[CA,fCopyAttrs,fCopyTokens,std,Nat.reduceAdd,fCopyToken,take_succ,take_end] at *
  try simp(disch:=omega) only[wrapId',toNat1] at *
  try simp(disch:=omega) only[Qa1,Qa4]
 all_goals first|trivial|omega|grind[wrapId',toNat1,drop_cons,drop_end,good_len,maxLen,fCopyAttrs,fCopyToken,take_succ,take_end])
abbrev Cg (l:(List Sh_)):LInv:=⟨[⟨.s,3,true,.sl .token⟩,⟨.s,9,true,.el .int⟩],λ_ (x_:(List Sh_)×Int×Unit)=>0<=x_.2.1/\x_.2.1<=l.length/\x_.1=l.take x_.2.1.toNat,λ(x_:(List Sh_)×Int×Unit)=>l.length-x_.2.1.toNat⟩
def AkX:=Apv.a fCopyTokens<|Fct.p (KP [0,2,3,5,7,8,9] [10]) (λ⟨l,_⟩=>lv [(3,Cg l)]) Apv.2 func245 (by
 rintro⟨(l:List Sh_),_⟩ hp;refine ho (lpx (Cg l) ([],((0:Int),())) λ(y1:List Sh_×Int×PUnit) bk1=>.br (decide (y1.2.1<(l.length:Int))) (.ob (inB y1.2.1 l.length)<|.cl fCopyToken (l.getD y1.2.1.toNat default,()) λz2=>.ob (Bx (y1.1.length+[z2.1].length) 64)<|.ob (l=l)<|.ob (l=l)<|.ob (Value.int IntKind.i64 (l.length:Int)=Value.int IntKind.i64 (l.length:Int))<|.ob (bk1 (y1.1++[z2.1],(w1 y1.2.1,())))<|.ok) (.lf fCopyTokens (y1.1,()))) ?_;refine Aj ?_ λ(y1:List Sh_×Int×PUnit) i1=>Ab (λh2=>Aa ?_ λ_=>Af ?_ λ_=>(Aa ?_ λ_=>Aa rfl λ_=>Aa rfl λ_=>Aa rfl λ_=>Aa ?_ λ_=>trivial)) (λh2=>lfY ?_)
 all_goals
  have hl:=Ac szToken l;try have hg:=Hf (l:=l) (i:=y1.2.1.toNat)
  try have hg:=Hf (l:=l) (i:=y2.2.1.toNat)
  try simp only[Cg,fCopyToken,fCopyTokens,std,Nat.reduceAdd,fCopyAttrs,take_succ,take_end] at *
  try simp(disch:=omega) only[wrapId',toNat1] at *
  try simp(disch:=omega) only[Qa1,Qa4]
 all_goals first|trivial|omega|grind[wrapId',toNat1,drop_cons,drop_end,good_len,maxLen,fCopyAttrs,fCopyToken,take_succ,take_end])
theorem builder_take {b:Se_} {n:Nat} (h:b.bi.length<=n):(⟨b.bi.take n,b.bl⟩:Se_)=b:=by rw[Qb1 h]
def fCopyBuilder:Fct:=⟨[.v (.el .ba)],[.el .ba],λ(x_:Se_×Unit)=>szBuilder x_.1<=1099511627776,λ(x_:Se_×Unit)=>(x_.1,())⟩
abbrev C1 (b:Se_):LInv:=⟨[⟨.b,3,true,.el .ba⟩,⟨.s,4,true,.el .int⟩,⟨.b,1,false,.el .ba⟩,⟨.b,2,true,.el .ba⟩],λ(z_ x_:Se_×Int×Se_×Se_×Unit)=>((0<=x_.2.1/\x_.2.1<=b.bi.length/\x_.1=⟨b.bi.take x_.2.1.toNat,b.bl⟩)/\x_.2.2.1=z_.2.2.1)/\x_.2.2.2.1=z_.2.2.2.1,λ(x_:Se_×Int×Se_×Se_×Unit)=>b.bi.length-x_.2.1.toNat⟩
def AkU:=AkX.a fCopyBuilder<|Fct.p (KP [1,2,3,4,5] [15]) (λ⟨b,_⟩=>lv [(3,C1 b)]) AkX.2 func216 (by
 rintro⟨(b:Se_),_⟩ hp;refine ho (.ob (True)<|.ob (Bx (0+b.bl.length) 8)<|lpx (C1 b) ((⟨[],[]++b.bl⟩:Se_),((0:Int),(b,(default,())))) λ(y2:Se_×Int×Se_×Se_×PUnit) bk2=>let q2_:=inB y2.2.1 y2.2.2.1.bi.length;let q0_:=y2.2.2.1.bi.getD y2.2.1.toNat default;.br (decide (y2.2.1<(y2.2.2.1.bi.length:Int))) (.ob q2_<|.ob q2_<|.cl fCopyAttrs (q0_.bo,()) λz2=>let q1_:=(⟨q0_.name,q0_.text,q0_.parent,z2.1⟩:St_);.ob (Bx (y2.1.bi.length+[q1_].length) 64)<|.ob (bk2 ((⟨y2.1.bi++[q1_],y2.1.bl⟩:Se_),(w1 y2.2.1,(y2.2.2.1,(y2.2.2.2.1,())))))<|.ok) (.lf fCopyBuilder (y2.1,()))) ?_;refine Aa trivial λ_=>Aa ?_ λ_=>Aj ?_ λ(y2:Se_×Int×Se_×Se_×PUnit) i2=>Ab (λh3=>Aa ?_ λ_=>Aa ?_ λ_=>Af ?_ λ_=>(Aa ?_ λ_=>Aa ?_ λ_=>trivial)) (λh3=>lfY ?_)
 all_goals
  have hl:=Ac szNode b.bi;try have hg:=Ie (l:=b.bi) (i:=y1.2.1.toNat)
  try have hg:=Ie (l:=b.bi) (i:=y2.2.1.toNat)
  try simp only[C1,fCopyAttrs,fCopyBuilder,std,Nat.reduceAdd,take_succ,builder_take,szBuilder] at *
  try simp(disch:=omega) only[wrapId',toNat1] at *
  try simp(disch:=omega) only[Qa1,Qa4]
 all_goals first|trivial|omega|grind[wrapId',toNat1,drop_cons,drop_end,good_len,maxLen,fCopyAttrs,take_succ,builder_take,szBuilder])
abbrev BX (b:Se_):LInv:=⟨[⟨.b,3,true,.el .ba⟩,⟨.s,14,true,.el .int⟩,⟨.b,2,true,.el .ba⟩],λ(z_ x_:Se_×Int×Se_×Unit)=>(0<=x_.2.1/\x_.2.1<=b.bi.length/\x_.1=⟨b.bi.take x_.2.1.toNat,b.bl⟩)/\x_.2.2.1=z_.2.2.1,λ(x_:Se_×Int×Se_×Unit)=>b.bi.length-x_.2.1.toNat⟩
def An7:=AkU.a fCopyBuilder<|Fct.p (KP [1,2,3,5,12,13,14] [15]) (λ⟨b,_⟩=>lv [(3,BX b)]) AkU.2 func246 (by
 rintro⟨(b:Se_),_⟩ hp;refine ho (let q2_:=(b.bi.length:Int);.ob (True)<|.ob (Bx (0+b.bl.length) 8)<|lpx (BX b) ((⟨[],[]++b.bl⟩:Se_),((0:Int),(default,()))) λ(y2:Se_×Int×Se_×PUnit) bk2=>let q0_:=b.bi.getD y2.2.1.toNat default;let q1_:=(⟨q0_.name,q0_.text,q0_.parent,[]++q0_.bo⟩:St_);.br (decide (y2.2.1<q2_)) (.ob (inB y2.2.1 b.bi.length)<|.ob (True)<|.ob (Bx (0+q0_.bo.length) 32)<|.ob (Bx (y2.1.bi.length+[q1_].length) 64)<|.ob (b.bi=b.bi)<|.ob (Value.int IntKind.i64 q2_=Value.int IntKind.i64 q2_)<|.ob (bk2 ((⟨y2.1.bi++[q1_],y2.1.bl⟩:Se_),(w1 y2.2.1,(y2.2.2.1,()))))<|.ok) (.lf fCopyBuilder (y2.1,()))) ?_;refine Aa trivial λ_=>Aa ?_ λ_=>Aj ?_ λ(y2:Se_×Int×Se_×PUnit) i2=>Ab (λh3=>Aa ?_ λ_=>Aa trivial λ_=>Aa ?_ λ_=>Aa ?_ λ_=>Aa rfl λ_=>Aa rfl λ_=>Aa ?_ λ_=>trivial) (λh3=>lfY ?_)
 all_goals
  have hl:=Ac szNode b.bi;try have hg:=Ie (l:=b.bi) (i:=y1.2.1.toNat)
  try have hg:=Ie (l:=b.bi) (i:=y2.2.1.toNat)
  try simp only[BX,fCopyBuilder,std,Nat.reduceAdd,fCopyAttrs,take_succ,builder_take,szBuilder] at *
  try simp(disch:=omega) only[wrapId',toNat1] at *
  try simp(disch:=omega) only[Qa1,Qa4]
 all_goals first|trivial|omega|grind[wrapId',toNat1,drop_cons,drop_end,good_len,maxLen,fCopyAttrs,take_succ,builder_take,szBuilder])
def fCopyPolicy:Fct:=⟨[.v (.el .bj)],[.el .bj],λ(x_:Si_×Unit)=>szPolicy x_.1<=1099511627776,λ(x_:Si_×Unit)=>(x_.1,())⟩
def Apt:=An7.a fCopyPolicy<|Fct.o [1,2] An7.2 func214 (by
 rintro⟨(p:Si_),_⟩ hp;refine ho (.ob (True)<|.ob (Bx p.bp.length 16)<|.ob (True)<|.ob (Bx p.styles.length 16)<|.ob (True)<|.ob (Bx p.images.length 16)<|.lf fCopyPolicy (p,())) ?_;refine Aa trivial λ_=>Aa ?_ λ_=>Aa trivial λ_=>Aa ?_ λ_=>Aa trivial λ_=>Aa ?_ λ_=>lfY ?_
 all_goals
  have hl1:=Ac Ad p.bp;have hl2:=Ac Ad p.styles;have hl3:=Ac Ad p.images;try simp only[fCopyPolicy,std,Nat.reduceAdd,szPolicy] at *
  try simp(disch:=omega) only[wrapId',toNat1] at *
  try simp(disch:=omega) only[Qa1,Qa4]
 all_goals first|trivial|omega|grind[wrapId',toNat1,drop_cons,drop_end,good_len,maxLen,szPolicy])
def Alr:=Apt.a fCopyPolicy<|Fct.o [1,2] Apt.2 func244 (by
 rintro⟨(p:Si_),_⟩ hp;refine ho (.ob (True)<|.ob (Bx (0+p.bp.length) 16)<|.ob (True)<|.ob (Bx (0+p.styles.length) 16)<|.ob (True)<|.ob (Bx (0+p.images.length) 16)<|.lf fCopyPolicy (⟨p.set_,[]++p.bp,[]++p.styles,[]++p.images,p.nonce⟩,())) ?_;refine Aa trivial λ_=>Aa ?_ λ_=>Aa trivial λ_=>Aa ?_ λ_=>Aa trivial λ_=>Aa ?_ λ_=>lfY ?_
 all_goals
  have hl1:=Ac Ad p.bp;have hl2:=Ac Ad p.styles;have hl3:=Ac Ad p.images;try simp only[fCopyPolicy,std,Nat.reduceAdd,szPolicy] at *
  try simp(disch:=omega) only[wrapId',toNat1] at *
  try simp(disch:=omega) only[Qa1,Qa4]
 all_goals first|trivial|omega|grind[wrapId',toNat1,drop_cons,drop_end,good_len,maxLen,szPolicy])
def fCopyPage:Fct:=⟨[.v (.el .page)],[.el .page],λ(x_:Sa_×Unit)=>szPage x_.1<=1099511627776,λ(x_:Sa_×Unit)=>(x_.1,())⟩
theorem q2 (p:Sa_) (hp:fCopyPage.pre (p,())):Out.holds (fCopyPage.ctr (p,())).post (.cl fCopyPolicy (p.bj,()) λz2=>.cl fCopyTokens (p.bn,()) λz3=>.cl fCopyBuilder (p.ba,()) λz4=>.ob (True)<|.ob (Bx (0+p.bf.length) 96)<|.ob (True)<|.ob (Bx (0+p.bh.length) 64)<|.ob (True)<|.ob (Bx (0+p.bg.length) 32)<|.ob (True)<|.ob (Bx (0+p.ran.length) 32)<|.ob (True)<|.ob (Bx (0+p.log.length) 16)<|.lf fCopyPage (⟨p.addr,z2.1,p.tok,z3.1,p.ended,z4.1,[]++p.bf,[]++p.bh,[]++p.bg,p.block,p.inline,p.bm,p.bq,[]++p.ran,[]++p.log,p.loaded⟩,())):=by
 repeat' first|(guard_target =~ Out.holds _ _;first|refine lfY ?_|refine Af ?_ λ_=>?_|refine Aa ?_ λ_=>?_)|exact trivial
 all_goals
  have hl1:=Ac AA p.bf;have hl2:=Ac Am p.bh;have hl3:=Ac szAddr p.bg;have hl4:=Ac szAddr p.ran;have hl5:=Ac Ad p.log;try simp only[fCopyBuilder,fCopyPage,fCopyPolicy,fCopyTokens,std,Nat.reduceAdd,szPage] at *
  try simp(disch:=omega) only[wrapId',toNat1] at *
  try simp(disch:=omega) only[Qa1,Qa4]
 all_goals first|trivial|omega|grind[wrapId',toNat1,drop_cons,drop_end,good_len,maxLen,szPage,fCopyPolicy,fCopyTokens,fCopyBuilder]
def Apa:=Alr.a fCopyPage<|Fct.o [1,2,3] Alr.2 func137 (by
 rintro⟨(p:Sa_),_⟩ hp;exact ho _ (q2 p hp))
def Apk:=Apa.a fCopyPage<|Fct.o [1,2] Apa.2 func152 (by
 rintro⟨(p:Sa_),_⟩ hp;exact ho _ (q2 p hp))
def A0:Fct:=⟨[.v (.el .addr),.v (.el .addr)],[.el .int],λ(x_:Sb_×Sb_×Unit)=>True,λ(x_:Sb_×Sb_×Unit)=>(cmpA x_.1 x_.2.1,())⟩
def Ap3:=Apk.a A0<|Fct.o (KP [2,3,4] [5,9]) Apk.2 func424 (by
 rintro⟨(a:Sb_),(b:Sb_),_⟩ hp;refine ho (.br (a.host==b.host&&(a.path==b.path&&true)) (.lf A0 ((0:Int),())) (.br (Op.bytesLess a.host.toList b.host.toList) (.lf A0 ((-1:Int),())) (.br (a.host.toList==b.host.toList) (.br (Op.bytesLess a.path.toList b.path.toList) (.lf A0 ((-1:Int),())) (.lf A0 ((1:Int),()))) (.lf A0 ((1:Int),()))))) ?_;repeat' (guard_target =~ Out.holds _ _;first|refine lfY ?_|refine Ab (λ_=>?_) λ_=>?_)
 all_goals try simp only[Dj,X3,Qa9,Qa8] at *
 all_goals
  have h1:=Kt a.host b.host;have h2:=Kt a.path b.path;have h3:=Ws a b;have h4:=AfF (a:=a) (b:=b);have h5:=MX (a:=a.host) (b:=b.host);have h6:=MX (a:=a.path) (b:=b.path);try simp only[A0,std,Nat.reduceAdd,cmpA] at *
  try simp(disch:=omega) only[wrapId',toNat1] at *
  try simp(disch:=omega) only[Qa1,Qa4]
 all_goals first|trivial|omega|grind[wrapId',toNat1,drop_cons,drop_end,good_len,maxLen,cmpA])
def laysCmp_r:Go.Shelf.Ren:=⟨λ|0=>0|1=>1|2=>2|99=>572|101=>263|103=>428|106=>485|109=>488|110=>447|125=>266|128=>341|129=>342|137=>367|138=>396|143=>397|145=>429|146=>262|156=>331|165=>401|166=>402|169=>403|171=>506|172=>523|189=>181|195=>449|197=>450|205=>553|206=>398|208=>329|210=>470|213=>509|215=>409|216=>338|217=>427|218=>451|219=>452|220=>471|221=>328|224=>491|225=>490|240=>455|241=>456|243=>517|244=>527|245=>528|246=>524|247=>536|257=>265|260=>489|265=>519|266=>469|267=>492|268=>395|276=>494|277=>495|279=>537|280=>538|281=>539|282=>540|283=>529|284=>530|285=>531|286=>532|287=>551|294=>332|295=>333|296=>334|297=>335|298=>336|299=>337|300=>339|301=>340|314=>511|316=>552|317=>541|318=>542|319=>543|320=>544|321=>562|322=>563|328=>404|329=>405|330=>406|331=>407|332=>408|337=>554|338=>555|343=>457|347=>581|348=>582|349=>583|350=>584|351=>585|352=>586|353=>587|354=>588|355=>589|356=>590|357=>591|358=>592|359=>593|360=>594|361=>595|362=>596|363=>610|364=>597|365=>598|366=>611|367=>626|_=>0,λ|0=>0|1=>1|2=>2|3=>3|4=>4|5=>5|6=>6|7=>7|8=>8|9=>9|10=>10|11=>11|12=>12|13=>13|14=>14|15=>15|16=>16|17=>17|18=>18|19=>19|20=>20|21=>21|22=>398|23=>310|24=>378|25=>433|27=>397|28=>31|30=>65|31=>42|32=>471|33=>432|34=>63|35=>237|36=>483|37=>244|43=>130|46=>313|47=>312|51=>362|52=>361|53=>364|54=>363|55=>367|59=>434|60=>435|61=>308|67=>351|69=>477|70=>399|71=>400|72=>401|73=>402|74=>403|75=>404|76=>405|77=>406|80=>407|81=>584|83=>178|84=>494|85=>520|86=>521|94=>605|101=>116|102=>133|103=>442|104=>299|105=>443|106=>444|108=>546|111=>414|112=>357|113=>350|114=>373|119=>485|127=>446|128=>511|131=>359|134=>311|137=>486|138=>487|139=>488|143=>562|144=>563|145=>564|146=>489|150=>396|151=>490|164=>473|165=>474|166=>475|167=>519|168=>522|169=>523|170=>524|171=>512|172=>513|173=>514|174=>515|175=>542|176=>543|181=>352|182=>353|183=>354|184=>355|185=>356|186=>358|187=>360|209=>544|210=>545|211=>525|212=>526|213=>527|214=>561|218=>408|219=>409|220=>410|221=>411|222=>412|223=>413|228=>447|229=>448|230=>449|232=>565|233=>566|238=>579|239=>580|240=>581|241=>582|242=>583|243=>585|244=>586|245=>587|246=>588|247=>589|248=>590|249=>591|_=>0,λ|1=>0|3=>1|4=>2|15=>4|16=>5|17=>3|18=>6|19=>7|_=>0⟩
def Ae8:Go.Proofs.Lays.n106 Tryz.prog laysCmp_r:=by repeat' first|kernel_rfl|constructor|intro _
def Aoh:=Ap3.a fCmpStr<|AgF rfl (Any.strings_Compare Ae8)
def Ako:=Aoh.a A0<|Fct.o (KP [2,3,4,5] [12]) Aoh.2 func445 (by
 rintro⟨(a:Sb_),(b:Sb_),_⟩ hp;refine ho (.cl fCmpStr (a.host,b.host,()) λ(z2:Int×PUnit)=>.br (z2.1 != 0) (.lf A0 (z2.1,())) (.cl fCmpStr (a.path,b.path,()) λ(z3:Int×PUnit)=>.lf A0 (z3.1,()))) ?_;refine Af trivial λ_=>(Ab (λh1=>lfY ?_) (λh1=>Af trivial λ_=>(lfY ?_)))
 all_goals
  try simp only[fCmpStr,A0,std,Nat.reduceAdd,cmpA] at *
  try simp(disch:=omega) only[wrapId',toNat1] at *
  try simp(disch:=omega) only[Qa1,Qa4]
 all_goals first|trivial|omega|grind[wrapId',toNat1,drop_cons,drop_end,good_len,maxLen,cmpA,fCmpStr])
def fModAt:Fct:=⟨[.v (.el .page),.v (.el .addr)],[.el .int],λ(x_:Sa_×Sb_×Unit)=>x_.1.bh.length<=1000000000000,λ(x_:Sa_×Sb_×Unit)=>(fidx (λm=>decide (m.to=x_.2.1)) x_.1.bh 0,())⟩
abbrev DR (p:Sa_) (a:Sb_):LInv:=⟨[⟨.s,5,true,.el .int⟩,⟨.b,2,false,.el .page⟩,⟨.b,3,true,.el .addr⟩],λ(z_ x_:Int×Sa_×Sb_×Unit)=>((0<=x_.1/\x_.1<=p.bh.length/\fidx (λm=>decide (m.to=a)) (p.bh.drop x_.1.toNat) x_.1=fidx (λm=>decide (m.to=a)) p.bh 0)/\x_.2.1=z_.2.1)/\x_.2.2.1=z_.2.2.1,λ(x_:Int×Sa_×Sb_×Unit)=>p.bh.length-x_.1.toNat⟩
def Aoq:=Ako.a fModAt<|Fct.p (KP [2,3,4,5] [10,20]) (λ⟨p,a,_⟩=>lv [(2,DR p a)]) Ako.2 func357 (by
 rintro⟨(p:Sa_),(a:Sb_),_⟩ hp;refine ho (lpx (DR p a) ((0:Int),(p,(a,()))) λ(y1:Int×Sa_×Sb_×PUnit) bk1=>.br (decide (y1.1<(y1.2.1.bh.length:Int))) (.ob (inB y1.1 y1.2.1.bh.length)<|.br ((y1.2.1.bh.getD y1.1.toNat default).to.host==y1.2.2.1.host&&((y1.2.1.bh.getD y1.1.toNat default).to.path==y1.2.2.1.path&&true)) (.lf fModAt (y1.1,())) (.ob (bk1 (w1 y1.1,(y1.2.1,(y1.2.2.1,()))))<|.ok)) (.lf fModAt ((-1:Int),()))) ?_;refine Aj ?_ λ(y1:Int×Sa_×Sb_×PUnit) i1=>Ab (λh2=>Aa ?_ λ_=>Ab (λh4=>lfY ?_) (λh4=>Aa ?_ λ_=>trivial)) (λh2=>lfY ?_)
 all_goals
  try simp only[Dj] at *
  try simp only[DR,fModAt,std,Nat.reduceAdd,fidx] at *
  try simp(disch:=omega) only[wrapId',toNat1] at *
  try simp(disch:=omega) only[Qa1,Qa4]
 all_goals first|trivial|omega|grind[wrapId',toNat1,drop_cons,drop_end,good_len,maxLen,fidx])
def fModAt1:Fct:=⟨[.v (.el .module),.p (.el .addr)],[.el .bool],λ(x_:Sg_×Sb_×Unit)=>True,λ(x_:Sg_×Sb_×Unit)=>(decide (x_.1.to=x_.2.1),())⟩
def Alj:=Aoq.a fModAt1<|Fct.o [1,2,3] Aoq.2 func441 (by
 rintro⟨(m:Sg_),(a:Sb_),_⟩ hp;refine ho (.lf fModAt1 (m.to.host==a.host&&(m.to.path==a.path&&true),())) ?_;refine lfY ?_;all_goals
  try simp only[Dj] at *
  try simp only[fModAt1,std,Nat.reduceAdd] at *
  try simp(disch:=omega) only[wrapId',toNat1] at *
  try simp(disch:=omega) only[Qa1,Qa4]
 all_goals first|trivial|omega|grind[wrapId',toNat1,drop_cons,drop_end,good_len,maxLen])
def AR:Fct:=⟨[aL .module,.c 441 [.el .addr]],[rI],λx=>x.1.length<=1000000000000000000/\∀ c,fModAt1.pre (c,x.2.1),λx=>(fidx (λc=>(fModAt1.fn (c,x.2.1)).1) x.1 0,())⟩
abbrev An (l:(List Sg_)) (u:(Sb_×Unit)):LInv:=⟨[⟨.s,8,true,.el .int⟩],λ_ (x_:Int×Unit)=>0<=x_.1/\x_.1<=l.length/\fidx (λc=>(fModAt1.fn (c,u)).1) l 0=fidx (λc=>(fModAt1.fn (c,u)).1) (l.drop x_.1.toNat) x_.1,λ(x_:Int×Unit)=>l.length-x_.1.toNat⟩
def Alm:=Alj.a AR<|Fct.p (KP [0,1,4,5,7,8] [9,16]) (λ⟨l,u,_⟩=>lv [(2,An l u)]) Alj.2 func440 (by
 rintro⟨(l:List Sg_),(u:Sb_×PUnit),_⟩ hp;refine ho (lpx (An l u) ((0:Int),()) λ(y1:Int×PUnit) bk1=>.br (decide (y1.1<(l.length:Int))) (.ob (inB y1.1 l.length)<|.cl fModAt1 (l.getD y1.1.toNat default,u.1,()) λz2=>.br (z2.1) (.lf AR (y1.1,())) (.ob (l=l)<|.ob (enc Ty.addr u.1=enc Ty.addr u.1)<|.ob (Value.int IntKind.i64 (l.length:Int)=Value.int IntKind.i64 (l.length:Int))<|.ob (bk1 (w1 y1.1,()))<|.ok)) (.lf AR ((-1:Int),()))) ?_;refine Aj ?_ λ(y1:Int×PUnit) i1=>Ab (λh2=>Aa ?_ λ_=>Af trivial λ_=>(Ab (λh4=>lfY ?_) (λh4=>Aa rfl λ_=>Aa rfl λ_=>Aa rfl λ_=>Aa ?_ λ_=>trivial))) (λh2=>lfY ?_)
 all_goals
  try simp only[An,AR,fModAt1,std,Nat.reduceAdd] at *
  try have hp2:=hp.2
  try have hp1:=hp.1
 all_goals first|trivial|omega|grind[wrapId',toNat1,drop_cons,drop_end,good_len,maxLen,fidx])
def ApL:=Alm.a fModAt<|Fct.o [2,3,4] Alm.2 func381 (by
 rintro⟨(p:Sa_),(a:Sb_),_⟩ hp;refine ho (.cl AR (p.bh,(a,()),()) λ(z2:Int×PUnit)=>.lf fModAt (z2.1,())) ?_;refine Af ?_ λ_=>(lfY ?_)
 all_goals
  try simp only[AR,fModAt,std,Nat.reduceAdd,fModAt1] at *
  try simp(disch:=omega) only[wrapId',toNat1] at *
  try simp(disch:=omega) only[Qa1,Qa4]
 all_goals first|trivial|omega|grind[wrapId',toNat1,drop_cons,drop_end,good_len,maxLen,fModAt1])
def isAsked (p:Sa_) (a:Sb_):Bool:=p.bf.any (λs=>decide (s.to=a))||p.bh.any (λm=>decide (m.to=a))
def fIsAsked:Fct:=⟨[.v (.el .page),.v (.el .addr)],[.el .bool],λ(x_:Sa_×Sb_×Unit)=>x_.1.bh.length<=1000000000000/\x_.1.bf.length<=1000000000000,λ(x_:Sa_×Sb_×Unit)=>(isAsked x_.1 x_.2.1,())⟩
abbrev DJ (p:Sa_) (a:Sb_):LInv:=⟨[⟨.s,5,true,.el .int⟩,⟨.b,2,false,.el .page⟩,⟨.b,3,true,.el .addr⟩],λ(z_ x_:Int×Sa_×Sb_×Unit)=>((0<=x_.1/\x_.1<=p.bf.length/\(p.bf.drop x_.1.toNat).any (λs=>decide (s.to=a))=p.bf.any (λs=>decide (s.to=a)))/\x_.2.1=z_.2.1)/\x_.2.2.1=z_.2.2.1,λ(x_:Int×Sa_×Sb_×Unit)=>p.bf.length-x_.1.toNat⟩
def Amm:=ApL.a fIsAsked<|Fct.p (KP [2,3,4,5] [10,20]) (λ⟨p,a,_⟩=>lv [(2,DJ p a)]) ApL.2 func287 (by
 rintro⟨(p:Sa_),(a:Sb_),_⟩ hp;refine ho (lpx (DJ p a) ((0:Int),(p,(a,()))) λ(y1:Int×Sa_×Sb_×PUnit) bk1=>.br (decide (y1.1<(y1.2.1.bf.length:Int))) (.ob (inB y1.1 y1.2.1.bf.length)<|.br ((y1.2.1.bf.getD y1.1.toNat default).to.host==y1.2.2.1.host&&((y1.2.1.bf.getD y1.1.toNat default).to.path==y1.2.2.1.path&&true)) (.lf fIsAsked (true,())) (.ob (bk1 (w1 y1.1,(y1.2.1,(y1.2.2.1,()))))<|.ok)) (.cl fModAt (y1.2.1,y1.2.2.1,()) λ(z2:Int×PUnit)=>.lf fIsAsked (decide (z2.1>=0),()))) ?_;refine Aj ?_ λ(y1:Int×Sa_×Sb_×PUnit) i1=>Ab (λh2=>Aa ?_ λ_=>Ab (λh4=>lfY ?_) (λh4=>Aa ?_ λ_=>trivial)) (λh2=>Af ?_ λ_=>(lfY ?_))
 all_goals try simp only[Dj] at *
 all_goals
  have hmm:=IF (λm:Sg_=>decide (m.to=a)) p.bh 0 o_;try simp only[DJ,fIsAsked,fModAt,std,Nat.reduceAdd,isAsked] at *
  try simp(disch:=omega) only[wrapId',toNat1] at *
  try simp(disch:=omega) only[Qa1,Qa4]
 all_goals first|trivial|omega|grind[wrapId',toNat1,drop_cons,drop_end,good_len,maxLen,isAsked,fModAt])
def fIsAsked1:Fct:=⟨[.v (.el .slot),.p (.el .addr)],[.el .bool],λ(x_:Sp_×Sb_×Unit)=>True,λ(x_:Sp_×Sb_×Unit)=>(decide (x_.1.to=x_.2.1),())⟩
def An1:=Amm.a fIsAsked1<|Fct.o [1,2,3] Amm.2 func391 (by
 rintro⟨(s:Sp_),(a:Sb_),_⟩ hp;refine ho (.lf fIsAsked1 (s.to.host==a.host&&(s.to.path==a.path&&true),())) ?_;refine lfY ?_;all_goals
  try simp only[Dj] at *
  try simp only[fIsAsked1,std,Nat.reduceAdd] at *
  try simp(disch:=omega) only[wrapId',toNat1] at *
  try simp(disch:=omega) only[Qa1,Qa4]
 all_goals first|trivial|omega|grind[wrapId',toNat1,drop_cons,drop_end,good_len,maxLen])
def AT:Fct:=⟨[aL .slot,.c 391 [.el .addr]],[rI],λx=>x.1.length<=1000000000000000000/\∀ c,fIsAsked1.pre (c,x.2.1),λx=>(fidx (λc=>(fIsAsked1.fn (c,x.2.1)).1) x.1 0,())⟩
abbrev Au (l:(List Sp_)) (u:(Sb_×Unit)):LInv:=⟨[⟨.s,8,true,.el .int⟩],λ_ (x_:Int×Unit)=>0<=x_.1/\x_.1<=l.length/\fidx (λc=>(fIsAsked1.fn (c,u)).1) l 0=fidx (λc=>(fIsAsked1.fn (c,u)).1) (l.drop x_.1.toNat) x_.1,λ(x_:Int×Unit)=>l.length-x_.1.toNat⟩
def Al2:=An1.a AT<|Fct.p (KP [0,1,4,5,7,8] [9,16]) (λ⟨l,u,_⟩=>lv [(2,Au l u)]) An1.2 func448 (by
 rintro⟨(l:List Sp_),(u:Sb_×PUnit),_⟩ hp;refine ho (lpx (Au l u) ((0:Int),()) λ(y1:Int×PUnit) bk1=>.br (decide (y1.1<(l.length:Int))) (.ob (inB y1.1 l.length)<|.cl fIsAsked1 (l.getD y1.1.toNat default,u.1,()) λz2=>.br (z2.1) (.lf AT (y1.1,())) (.ob (l=l)<|.ob (enc Ty.addr u.1=enc Ty.addr u.1)<|.ob (Value.int IntKind.i64 (l.length:Int)=Value.int IntKind.i64 (l.length:Int))<|.ob (bk1 (w1 y1.1,()))<|.ok)) (.lf AT ((-1:Int),()))) ?_;refine Aj ?_ λ(y1:Int×PUnit) i1=>Ab (λh2=>Aa ?_ λ_=>Af trivial λ_=>(Ab (λh4=>lfY ?_) (λh4=>Aa rfl λ_=>Aa rfl λ_=>Aa rfl λ_=>Aa ?_ λ_=>trivial))) (λh2=>lfY ?_)
 all_goals
  try simp only[Au,AT,fIsAsked1,std,Nat.reduceAdd] at *
  try have hp2:=hp.2
  try have hp1:=hp.1
 all_goals first|trivial|omega|grind[wrapId',toNat1,drop_cons,drop_end,good_len,maxLen,fidx])
def AW:Fct:=⟨[aL .slot,.c 391 [.el .addr]],[rB],λx=>x.1.length<=1000000000000000000/\∀ c,fIsAsked1.pre (c,x.2.1),λx=>(x.1.any (λc=>(fIsAsked1.fn (c,x.2.1)).1),())⟩
def Ak0:=Al2.a AW<|Fct.o [0,1,4] Al2.2 func390 (by
 rintro⟨(l:List Sp_),(u:Sb_×PUnit),_⟩ hp;refine ho (.cl AT (l,(u.1,()),()) λ(z2:Int×PUnit)=>.lf AW (decide (z2.1>=0),())) ?_;refine Af ?_ λ_=>(lfY ?_)
 all_goals try simp only[AW,AT,std,Nat.reduceAdd] at *
 all_goals first|trivial|omega|(rw[Bool.eq_iff_iff];exact decide_eq_true_iff.trans (IF _ _ _ o_)))
def Ana:=Ak0.a fIsAsked<|Fct.o [2,3,4] Ak0.2 func309 (by
 rintro⟨(p:Sa_),(a:Sb_),_⟩ hp;refine ho (.cl fModAt (p,a,()) λ(z2:Int×PUnit)=>.br (decide (z2.1>=0)) (.lf fIsAsked (true,())) (.cl AW (p.bf,(a,()),()) λz3=>.lf fIsAsked (z3.1,()))) ?_;refine Af ?_ λ_=>(Ab (λh2=>lfY ?_) (λh2=>Af ?_ λ_=>(lfY ?_)))
 all_goals
  have hmm:=IF (λm:Sg_=>decide (m.to=a)) p.bh 0 o_;try simp only[AW,fIsAsked,fModAt,std,Nat.reduceAdd,isAsked,fIsAsked1] at *
  try simp(disch:=omega) only[wrapId',toNat1] at *
  try simp(disch:=omega) only[Qa1,Qa4]
 all_goals first|trivial|omega|grind[wrapId',toNat1,drop_cons,drop_end,good_len,maxLen,isAsked,fModAt,fIsAsked1])
def Hz {l:List Sk_} {i:Nat} (h:i<l.length):(l.getD i default).files.length+l.length<=szL AY l:=by
 have:=D6 AY h;have h2:=Ac Ey (l.getD i default).files;simp only[AY] at this;omega
def Ahd:Fct:=⟨[aI,aI],[rI],λ_=>True,λ(x:Int×Int×Unit)=>(min x.1 x.2.1,())⟩
def Al5:=Ana.a Ahd<|Fct.o (KP [0,1,4] [7]) Ana.2 func169 (by
 rintro⟨(a:Int),(b:Int),_⟩ hp;refine ho (.br (decide (b<a)) (.lf Ahd (b,())) (.lf Ahd (a,()))) ?_;refine Ab (λh1=>lfY ?_) (λh1=>lfY ?_);all_goals try simp only[Ahd,std,Nat.reduceAdd] at *
 all_goals first|trivial|omega|(simp_all;done)|(simp_all;omega)|grind)
def AgE {α:Type} (f:α->Nat) (l m:List α):szL f (l++m)=szL f l+szL f m:=by simp[szL];omega
def PF {α:Type} (f:α->Nat) (l:List α) (n:Nat):szL f (l.drop n)<=szL f l:=by
 have h:=AgE f (l.take n) (l.drop n);simp_all
def fDelConn:GS:=⟨[.g (.sl .conn),.l (.v (.el .int)),.l (.v (.el .int))],[.sl .conn],λ(x_:(List Sj_)×Int×Int×Unit)=>0<=x_.2.1/\x_.2.1<x_.2.2.1/\x_.2.2.1<=x_.1.length/\x_.1.length<=1048576,λ(x_:(List Sj_)×Int×Int×Unit)=>((x_.1.take x_.2.1.toNat++x_.1.drop x_.2.2.1.toNat,()),(()))⟩
def Abz {l:List Sj_} {i j:Int} (h0:0<=i) (hi:i<=j) (hj:j<=l.length) (ys:List Sj_) {k k' m n j':Nat} (hjj:j'=j.toNat) (hm:m=l.length-j.toNat) (hk:k=i.toNat+m) (hk':k'=k) (hn:n=i.toNat):l.take i.toNat++l.drop j.toNat=cut (J8 (J8 l n (cut l j' m)) k ys) 0 k':=by
 subst hjj;subst hk';subst hk;subst hn;rw[Ab5 _ _ _ (by rw[IN,Kk];omega),Aax o_ o_ hm]
def Yb {l:List Sj_} {i:Int} (h0:0<=i) (hj:i<l.length) {k m n j':Nat} (hjj:j'=i.toNat+1) (hm:m=l.length-j') (hk:k=i.toNat+m) (hn:n=i.toNat):cut (J8 l n (cut l j' m)) 0 k=l.take i.toNat++l.drop (i.toNat+1):=by
 subst hk;subst hn;rw[show cut (J8 l i.toNat (cut l j' m)) 0 (i.toNat+m)=(J8 l i.toNat (cut l j' m)).take (i.toNat+m) from rfl,Aax o_ o_ hm,hjj]
def AnT:=Al5.G fDelConn<|GS.of (S:=fDelConn) (L:=λ_ _=>none) (kp:=(KP [0,1,2,6,7] [16])) Al5.2 func315 k_ k_ (by
 rintro⟨(l:List Sj_),(i:Int),(j:Int),_⟩ hp;refine ho (let q4_:=List.length l-Int.toNat j;let q2_:=(↑(List.length l):Int);let q1_:=J8 l (Int.toNat i-0) (cut l (Int.toNat j) q4_);let q0_:=Int.toNat i-0+q4_;let q5_:=q2_.toNat-(q0_:Int).toNat;let q3_:=J8 q1_ (0+(q0_:Int).toNat) (List.replicate q5_ default);.ob (0<=i/\i<=j/\j<=q2_/\q2_<=q2_)<|.br (i==j) (GS.out fDelConn ((l,()),(()))) (.ob (0<=i/\i<=q2_)<|.ob (0<=j/\j<=q2_)<|.ob (0=0/\0<List.length l/\Int.toNat j+q4_<=List.length l/\Int.toNat i-0+q4_<=List.length l)<|.ob ((0:Int)<=(q0_:Int)/\(q0_:Int)<=q2_/\q2_<=(↑(q1_.length-0):Int))<|.ob (0+(q0_:Int).toNat+q5_<=q1_.length)<|.ob (0+q0_<=q3_.length)<|GS.out fDelConn ((cut q3_ 0 q0_,()),(())))) ?_;repeat' (guard_target =~ Out.holds _ _;first|refine GS.leafY ?_|refine Ab (λ_=>?_) λ_=>?_|refine Aa ?_ λ_=>?_)
 all_goals try simp only[fDelConn,std,Nat.reduceAdd] at *
 all_goals first|omega|(simp only[IN,Kk,List.length_replicate] at *;omega)|exact(Abz o_ o_ o_ _ rfl rfl o_ o_ o_).symm)
def closeConn (l:List Sj_) (i:Int):List Sj_:=if 0<=i/\i<l.length then l.take i.toNat++l.drop (i.toNat+1) else l
def Cm:Fct:=⟨[.v (.sl .conn),.v (.el .int)],[.sl .conn],λ(x_:(List Sj_)×Int×Unit)=>x_.1.length<=1048576,λ(x_:(List Sj_)×Int×Unit)=>(closeConn x_.1 x_.2.1,())⟩
def Ao2:=AnT.a Cm<|Fct.o (KP [0,1,4,5] [14]) AnT.2 func288 (by
 rintro⟨(l:List Sj_),(i:Int),_⟩ hp;refine ho (let q2_:=(↑([]++l).length:Int);let q0_:=([]++l).length-(w1 i).toNat;let q3_:=Int.toNat i-0+q0_;let q1_:=J8 ([]++l) (Int.toNat i-0) (cut ([]++l) (w1 i).toNat q0_);.ob (True)<|.ob (Bx (0+List.length l) 112)<|.cl fInRange (i,(0:Int),wr ((↑(List.length l):Int)-(1:Int)),()) λz2=>.br (!z2.1) (.lf Cm ([]++l,())) (.ob (0<=i/\i<=q2_)<|.ob (0<=w1 i/\w1 i<=q2_)<|.ob (0=0/\0<([]++l).length/\(w1 i).toNat+q0_<=([]++l).length/\Int.toNat i-0+q0_<=([]++l).length)<|.ob (0+q3_<=q1_.length)<|.lf Cm (cut q1_ 0 q3_,()))) ?_;refine Aa trivial λ_=>Aa ?_ λ_=>Af trivial λ_=>(Ab (λh2=>lfY ?_) (λh2=>Aa ?_ λ_=>Aa ?_ λ_=>Aa ?_ λ_=>Aa ?_ λ_=>lfY ?_))
 all_goals
  try simp only[Cm,fInRange,std,Nat.reduceAdd,closeConn,inRange] at *
  try simp(disch:=omega) only[wrapId',toNat1] at *
  try simp(disch:=omega) only[Qa1,Qa4]
  try simp only[IN,Kk,List.length_replicate,Qa2,Qe2,Qa9,Qa8] at *
 all_goals first|omega|(rw[Qa4 o_];done)|exact Yb o_ o_ o_ o_ o_ o_)
def Alc:=Ao2.a Cm<|Fct.o (KP [0,1,4,5] [15]) Ao2.2 func238 (by
 rintro⟨(l:List Sj_),(i:Int),_⟩ hp;refine ho (.cl fCopyConns (l,()) λz2=>.br (decide (i<0)) (.lf Cm (z2.1,())) (.br (decide (i>=(↑(List.length l):Int))) (.lf Cm (z2.1,())) (.ob (fDelConn.pre (z2.1,i,w1 i,()))<|.lt _ (fDelConn.fn (z2.1,i,w1 i,())) λz3=>.lf Cm (z3.1.1,())))) ?_;refine Af ?_ λ_=>(Ab (λh2=>lfY ?_) (λh2=>Ab (λh3=>lfY ?_) (λh3=>Aa ?_ λ_=>DW (lfY ?_))))
 all_goals
  try simp only[Cm,fCopyConns,fDelConn,std,Nat.reduceAdd,closeConn,fInRange,inRange] at *
  try simp(disch:=omega) only[wrapId',toNat1] at *
  try simp(disch:=omega) only[Qa1,Qa4]
 all_goals first|trivial|omega|grind[wrapId',toNat1,drop_cons,drop_end,good_len,maxLen,closeConn,fDelConn,fInRange,inRange])
def nameByte (b:UInt8):Bool:=97<=b.toNat&&b.toNat<=122
def bts (s:ByteArray):List UInt8:=s.data.toList
def Afv (s:ByteArray):(bts s).length=s.size:=rfl
def Aiq {s:ByteArray} {i:Nat} (h:i<s.size):(bts s).drop i=s.data.getD i 0::(bts s).drop (i+1):=by
 have h2:i<s.data.size:=h;have e:s.data.getD i 0=s.data[i]:=by unfold Array.getD;rw[dif_pos h2];rfl
 rw[List.drop_eq_getElem_cons (by rw[Afv];exact h),e];rfl
def Af6 {s:ByteArray} {i:Nat} (h:s.size<=i):(bts s).drop i=[]:=Qb2 h
def allB (p:UInt8->Bool) (l:List UInt8):Bool:=l.all p
theorem allB_at {p:UInt8->Bool} {s:ByteArray} {i:Nat} (h:i<s.size):allB p ((bts s).drop i)=(p (s.data.getD i 0)&&allB p ((bts s).drop (i+1))):=by rw[Aiq h];rfl
theorem allB_end {p:UInt8->Bool} {s:ByteArray} {i:Nat} (h:s.size<=i):allB p ((bts s).drop i)=true:=by rw[Af6 h];rfl
def isName (s:ByteArray):Bool:=allB nameByte (bts s)&&decide (1<=s.size/\s.size<=8)
def fIsName:Fct:=⟨[.v (.el .str)],[.el .bool],λ(x_:ByteArray×Unit)=>x_.1.size<=1000000000000000000,λ(x_:ByteArray×Unit)=>(isName x_.1,())⟩
abbrev DS (s:ByteArray):LInv:=⟨[⟨.s,3,true,.el .int⟩],λ_ (x_:Int×Unit)=>0<=x_.1/\x_.1<=s.size/\allB nameByte ((bts s).drop x_.1.toNat)=allB nameByte (bts s),λ(x_:Int×Unit)=>s.size-x_.1.toNat⟩
def Apy:=Alc.a fIsName<|Fct.p (KP [0,2,3] [7,19]) (λ⟨s,_⟩=>lv [(2,DS s)]) Alc.2 func249 (by
 rintro⟨(s:ByteArray),_⟩ hp;refine ho (lpx (DS s) ((0:Int),()) λ(y1:Int×PUnit) bk1=>.br (decide (y1.1<(s.size:Int))) (.ob (0<=y1.1/\y1.1<(s.size:Int))<|.br (decide ((↑(s.data.getD y1.1.toNat 0).toNat:Int)<97)) (.lf fIsName (false,())) (.ob (0<=y1.1/\y1.1<(s.size:Int))<|.br (decide ((↑(s.data.getD y1.1.toNat 0).toNat:Int)>122)) (.lf fIsName (false,())) (.ob (Value.string s=Value.string s)<|.ob (bk1 (w1 y1.1,()))<|.ok))) (.cl fInRange ((s.size:Int),(1:Int),(8:Int),()) λz2=>.lf fIsName (z2.1,()))) ?_;refine Aj ?_ λ(y1:Int×PUnit) i1=>Ab (λh2=>Aa ?_ λ_=>Ab (λh4=>lfY ?_) (λh4=>Aa ?_ λ_=>Ab (λh6=>lfY ?_) (λh6=>Aa rfl λ_=>Aa ?_ λ_=>trivial))) (λh2=>Af trivial λ_=>(lfY ?_))
 all_goals
  try simp only[DS,fInRange,fIsName,std,Nat.reduceAdd,isName,nameByte,inRange,allB_at,allB_end] at *
  try simp(disch:=omega) only[wrapId',toNat1] at *
  try simp(disch:=omega) only[Qa1,Qa4]
 all_goals first|trivial|omega|grind[wrapId',toNat1,good_len,maxLen,isName,nameByte,fInRange,inRange,allB_at,allB_end])
abbrev DT (s:ByteArray):LInv:=⟨[⟨.s,3,true,.el .int⟩],λ_ (x_:Int×Unit)=>0<=x_.1/\x_.1<=s.size/\allB nameByte ((bts s).drop x_.1.toNat)=allB nameByte (bts s),λ(x_:Int×Unit)=>s.size-x_.1.toNat⟩
def AmL:=Apy.a fIsName<|Fct.p (KP [0,2,3] [7,19]) (λ⟨s,_⟩=>lv [(2,DT s)]) Apy.2 func256 (by
 rintro⟨(s:ByteArray),_⟩ hp;refine ho (lpx (DT s) ((0:Int),()) λ(y1:Int×PUnit) bk1=>.br (decide (y1.1<(s.size:Int))) (.ob (0<=y1.1/\y1.1<(s.size:Int))<|.br (decide ((↑(s.data.getD y1.1.toNat 0).toNat:Int)<97)) (.lf fIsName (false,())) (.ob (0<=y1.1/\y1.1<(s.size:Int))<|.br (decide ((↑(s.data.getD y1.1.toNat 0).toNat:Int)>122)) (.lf fIsName (false,())) (.ob (Value.string s=Value.string s)<|.ob (bk1 (w1 y1.1,()))<|.ok))) (.cl fInRange ((s.size:Int),(1:Int),(8:Int),()) λz2=>.lf fIsName (z2.1,()))) ?_;refine Aj ?_ λ(y1:Int×PUnit) i1=>Ab (λh2=>Aa ?_ λ_=>Ab (λh4=>lfY ?_) (λh4=>Aa ?_ λ_=>Ab (λh6=>lfY ?_) (λh6=>Aa rfl λ_=>Aa ?_ λ_=>trivial))) (λh2=>Af trivial λ_=>(lfY ?_))
 all_goals
  try simp only[DT,fInRange,fIsName,std,Nat.reduceAdd,isName,nameByte,inRange,allB_at,allB_end] at *
  try simp(disch:=omega) only[wrapId',toNat1] at *
  try simp(disch:=omega) only[Qa1,Qa4]
 all_goals first|trivial|omega|grind[wrapId',toNat1,good_len,maxLen,isName,nameByte,fInRange,inRange,allB_at,allB_end])
def valByte (b:UInt8):Bool:=(97<=b.toNat&&b.toNat<=122)||(48<=b.toNat&&b.toNat<=57)||b.toNat==47
def isValue (s:ByteArray):Bool:=allB valByte (bts s)&&decide (1<=s.size/\s.size<=20)
def fIsValue:Fct:=⟨[.v (.el .str)],[.el .bool],λ(x_:ByteArray×Unit)=>x_.1.size<=1000000000000000000,λ(x_:ByteArray×Unit)=>(isValue x_.1,())⟩
abbrev Cu (s:ByteArray):LInv:=⟨[⟨.s,3,true,.el .int⟩],λ_ (x_:Int×Unit)=>0<=x_.1/\x_.1<=s.size/\allB valByte ((bts s).drop x_.1.toNat)=allB valByte (bts s),λ(x_:Int×Unit)=>s.size-x_.1.toNat⟩
def ApM:=AmL.a fIsValue<|Fct.p (KP [0,2,3] [7,37]) (λ⟨s,_⟩=>lv [(2,Cu s)]) AmL.2 func393 (by
 rintro⟨(s:ByteArray),_⟩ hp;refine ho (let q5_:=(s.size:Int);lpx (Cu s) ((0:Int),()) λ(y1:Int×PUnit) bk1=>let q3_:=0<=y1.1/\y1.1<q5_;let q2_:=(↑(s.data.getD y1.1.toNat 0).toNat:Int);let q1_:Out:=.ob (Value.string s=Value.string s)<|.ob (bk1 (w1 y1.1,()))<|.ok;let q4_:Out:=.ob q3_<|.br (q2_ != 47) (.lf fIsValue (false,())) q1_;let q0_:Out:=.ob q3_<|.br (decide (q2_<48)) q4_ (.ob q3_<|.br (decide (q2_>57)) q4_ q1_);.br (decide (y1.1<q5_)) (.ob q3_<|.br (decide (q2_<97)) q0_ (.ob q3_<|.br (decide (q2_>122)) q0_ q1_)) (.cl fInRange (q5_,(1:Int),(20:Int),()) λz2=>.lf fIsValue (z2.1,()))) ?_;repeat' first|(guard_target =~ Out.holds _ _;first|refine Aj (li:=Cu s) ?_ λ(y1:Int×PUnit) i1=>?_|refine lfY ?_|refine Ab (λ_=>?_) λ_=>?_|refine Af ?_ λ_=>?_|refine Aa ?_ λ_=>?_)|exact trivial
 all_goals
  try simp only[Cu,fInRange,fIsValue,std,Nat.reduceAdd,isValue,valByte,inRange,allB_at,allB_end] at *
  try simp(disch:=omega) only[wrapId',toNat1] at *
  try simp(disch:=omega) only[Qa1,Qa4]
 all_goals first|trivial|omega|grind[wrapId',toNat1,good_len,maxLen,isValue,valByte,fInRange,inRange,allB_at,allB_end])
abbrev Cv (s:ByteArray):LInv:=⟨[⟨.s,3,true,.el .int⟩],λ_ (x_:Int×Unit)=>0<=x_.1/\x_.1<=s.size/\allB valByte ((bts s).drop x_.1.toNat)=allB valByte (bts s),λ(x_:Int×Unit)=>s.size-x_.1.toNat⟩
def AkG:=ApM.a fIsValue<|Fct.p (KP [0,2,3] [7,38]) (λ⟨s,_⟩=>lv [(2,Cv s)]) ApM.2 func400 (by
 rintro⟨(s:ByteArray),_⟩ hp;refine ho (let q6_:=(s.size:Int);let q4_:Out:=.lf fIsValue (false,());lpx (Cv s) ((0:Int),()) λ(y1:Int×PUnit) bk1=>let q3_:=0<=y1.1/\y1.1<q6_;let q2_:=(↑(s.data.getD y1.1.toNat 0).toNat:Int);let q1_:Out:=.ob (Value.string s=Value.string s)<|.ob (bk1 (w1 y1.1,()))<|.ok;let q7_:Out:=.br (!true) q4_ q1_;let q5_:Out:=.ob q3_<|.br (!q2_==47) q4_ q1_;let q0_:Out:=.ob q3_<|.br (decide (q2_>=48)) (.ob q3_<|.br (decide (q2_<=57)) q7_ q5_) q5_;.br (decide (y1.1<q6_)) (.ob q3_<|.br (decide (q2_>=97)) (.ob q3_<|.br (decide (q2_<=122)) q7_ q0_) q0_) (.cl fInRange (q6_,(1:Int),(20:Int),()) λz2=>.lf fIsValue (z2.1,()))) ?_;repeat' first|(guard_target =~ Out.holds _ _;first|refine Aj (li:=Cv s) ?_ λ(y1:Int×PUnit) i1=>?_|refine lfY ?_|refine Ab (λ_=>?_) λ_=>?_|refine Af ?_ λ_=>?_|refine Aa ?_ λ_=>?_)|exact trivial
 all_goals
  try simp only[Cv,fInRange,fIsValue,std,Nat.reduceAdd,isValue,valByte,inRange,allB_at,allB_end] at *
  try simp(disch:=omega) only[wrapId',toNat1] at *
  try simp(disch:=omega) only[Qa1,Qa4]
 all_goals first|trivial|omega|grind[wrapId',toNat1,good_len,maxLen,isValue,valByte,fInRange,inRange,allB_at,allB_end])
def fIsAddr:Fct:=⟨[.v (.el .addr)],[.el .bool],λ(x_:Sb_×Unit)=>x_.1.host.size<=1000000000000000000/\x_.1.path.size<=1000000000000000000,λ(x_:Sb_×Unit)=>(isName x_.1.host&&isName x_.1.path,())⟩
theorem q3 (a:Sb_) (hp:fIsAddr.pre (a,())):Out.holds (fIsAddr.ctr (a,())).post (.cl fIsName (a.host,()) λz2=>.br (z2.1) (.cl fIsName (a.path,()) λz3=>.lf fIsAddr (z3.1,())) (.lf fIsAddr (false,()))):=by
 refine Af ?_ λ_=>(Ab (λh2=>Af ?_ λ_=>(lfY ?_)) (λh2=>lfY ?_))
 all_goals
  try simp only[fIsAddr,fIsName,std,Nat.reduceAdd] at *
  try simp(disch:=omega) only[wrapId',toNat1] at *
  try simp(disch:=omega) only[Qa1,Qa4]
 all_goals first|trivial|omega|grind[wrapId',toNat1,drop_cons,drop_end,good_len,maxLen,fIsName]
def Amr:=AkG.a fIsAddr<|Fct.o [1,2] AkG.2 func161 (by
 rintro⟨(a:Sb_),_⟩ hp;exact ho _ (q3 a hp))
def Anm:=Amr.a fIsAddr<|Fct.o [1,2] Amr.2 func172 (by
 rintro⟨(a:Sb_),_⟩ hp;exact ho _ (q3 a hp))
def P4 {l:List ByteArray} {i:Nat} (h:i<l.length):(l.getD i default).size+l.length<=szL Ad l:=by
 have:=D6 Ad h;omega
def fNames:Fct:=⟨[.v (.sl .str)],[.el .bool],λ(x_:(List ByteArray)×Unit)=>szL Ad x_.1<=1099511627776,λ(x_:(List ByteArray)×Unit)=>(x_.1.all isName&&decide (x_.1.length<=4),())⟩
abbrev DU (l:(List ByteArray)):LInv:=⟨[⟨.s,3,true,.el .int⟩],λ_ (x_:Int×Unit)=>0<=x_.1/\x_.1<=l.length/\(l.drop x_.1.toNat).all isName=l.all isName,λ(x_:Int×Unit)=>l.length-x_.1.toNat⟩
def AkI:=Anm.a fNames<|Fct.p (KP [0,2,3] [7,15]) (λ⟨l,_⟩=>lv [(2,DU l)]) Anm.2 func392 (by
 rintro⟨(l:List ByteArray),_⟩ hp;refine ho (lpx (DU l) ((0:Int),()) λ(y1:Int×PUnit) bk1=>.br (decide (y1.1<(l.length:Int))) (.ob (inB y1.1 l.length)<|.cl fIsName (l.getD y1.1.toNat default,()) λz2=>.br (!z2.1) (.lf fNames (false,())) (.ob (l=l)<|.ob (bk1 (w1 y1.1,()))<|.ok)) (.lf fNames (decide ((l.length:Int)<=4),()))) ?_;refine Aj ?_ λ(y1:Int×PUnit) i1=>Ab (λh2=>Aa ?_ λ_=>Af ?_ λ_=>(Ab (λh5=>lfY ?_) (λh5=>Aa rfl λ_=>Aa ?_ λ_=>trivial))) (λh2=>lfY ?_)
 all_goals
  have hl:=Ac Ad l;have hg:∀ i,i<l.length->(l.getD i default).size<=1000000000000000000:=λi h=>by have:=P4 h;have hp2:szL Ad l<=1099511627776:=hp;omega
  try simp only[DU,fIsName,fNames,std,Nat.reduceAdd] at *
  try simp(disch:=omega) only[wrapId',toNat1] at *
  try simp(disch:=omega) only[Qa1,Qa4]
 all_goals first|trivial|omega|grind[wrapId',toNat1,drop_cons,drop_end,good_len,maxLen,fIsName])
def fAreHosts1:Fct:=⟨[.v (.el .str)],[.el .bool],λ(x_:ByteArray×Unit)=>x_.1.size<=1000000000000000000,λ(x_:ByteArray×Unit)=>(!isName x_.1,())⟩
def AnN:=AkI.a fAreHosts1<|Fct.o [0,2] AkI.2 func454 (by
 rintro⟨(s:ByteArray),_⟩ hp;refine ho (.cl fIsName (s,()) λz2=>.lf fAreHosts1 (!z2.1,())) ?_;refine Af ?_ λ_=>(lfY ?_)
 all_goals
  try simp only[fAreHosts1,fIsName,std,Nat.reduceAdd] at *
  try simp(disch:=omega) only[wrapId',toNat1] at *
  try simp(disch:=omega) only[Qa1,Qa4]
 all_goals first|trivial|omega|grind[wrapId',toNat1,drop_cons,drop_end,good_len,maxLen,fIsName])
def AQ:Fct:=⟨[aL .str,.c 454 []],[rI],λx=>x.1.length<=1000000000000000000/\∀ i,i<x.1.length->fAreHosts1.pre (x.1.getD i default,x.2.1),λx=>(fidx (λc=>(fAreHosts1.fn (c,x.2.1)).1) x.1 0,())⟩
abbrev Ay (l:(List ByteArray)) (u:(Unit)):LInv:=⟨[⟨.s,8,true,.el .int⟩],λ_ (x_:Int×Unit)=>0<=x_.1/\x_.1<=l.length/\fidx (λc=>(fAreHosts1.fn (c,u)).1) l 0=fidx (λc=>(fAreHosts1.fn (c,u)).1) (l.drop x_.1.toNat) x_.1,λ(x_:Int×Unit)=>l.length-x_.1.toNat⟩
def AoQ:=AnN.a AQ<|Fct.p (KP [0,1,4,5,7,8] [9,16]) (λ⟨l,u,_⟩=>lv [(2,Ay l u)]) AnN.2 func493 (by
 rintro⟨(l:List ByteArray),(u:PUnit),_⟩ hp;refine ho (lpx (Ay l u) ((0:Int),()) λ(y1:Int×PUnit) bk1=>.br (decide (y1.1<(l.length:Int))) (.ob (inB y1.1 l.length)<|.cl fAreHosts1 (l.getD y1.1.toNat default,()) λz2=>.br (z2.1) (.lf AQ (y1.1,())) (.ob (l=l)<|.ob (Value.int IntKind.i64 (l.length:Int)=Value.int IntKind.i64 (l.length:Int))<|.ob (bk1 (w1 y1.1,()))<|.ok)) (.lf AQ ((-1:Int),()))) ?_;refine Aj ?_ λ(y1:Int×PUnit) i1=>Ab (λh2=>Aa ?_ λ_=>Af ?_ λ_=>(Ab (λh5=>lfY ?_) (λh5=>Aa rfl λ_=>Aa rfl λ_=>Aa ?_ λ_=>trivial))) (λh2=>lfY ?_)
 all_goals
  try simp only[Ay,fAreHosts1,AQ,std,Nat.reduceAdd] at *
  try have hp2:=hp.2
  try have hp1:=hp.1
 all_goals first|trivial|omega|exact hp2 _ o_|grind[wrapId',toNat1,drop_cons,drop_end,good_len,maxLen,fidx])
def fContainsFunc_str_impl_areHosts_1:Fct:=⟨[aL .str,.c 454 []],[rB],λx=>x.1.length<=1000000000000000000/\∀ i,i<x.1.length->fAreHosts1.pre (x.1.getD i default,x.2.1),λx=>(x.1.any (λc=>(fAreHosts1.fn (c,x.2.1)).1),())⟩
def AnH:=AoQ.a fContainsFunc_str_impl_areHosts_1<|Fct.o [0,1,4] AoQ.2 func453 (by
 rintro⟨(l:List ByteArray),(u:PUnit),_⟩ hp;refine ho (.cl AQ (l,(),()) λ(z2:Int×PUnit)=>.lf fContainsFunc_str_impl_areHosts_1 (decide (z2.1>=0),())) ?_;refine Af ?_ λ_=>(lfY ?_)
 all_goals try simp only[fContainsFunc_str_impl_areHosts_1,AQ,std,Nat.reduceAdd] at *
 all_goals first|trivial|omega|exact hp|(rw[Bool.eq_iff_iff];exact decide_eq_true_iff.trans (IF _ _ _ o_)))
def Akz:=AnH.a fNames<|Fct.o [0,2] AnH.2 func399 (by
 rintro⟨(l:List ByteArray),_⟩ hp;refine ho (.br (decide ((↑(List.length l):Int)<=4)) (.cl fContainsFunc_str_impl_areHosts_1 (l,(),()) λz2=>.lf fNames (!z2.1,())) (.lf fNames (false,()))) ?_;refine Ab (λh1=>Af ?_ λ_=>(lfY ?_)) (λh1=>lfY ?_);all_goals
  have hl:=Ac Ad l;have hg:∀ i,i<l.length->(l.getD i default).size<=1000000000000000000:=λi h=>by have:=P4 h;have hp2:szL Ad l<=1099511627776:=hp;omega
  have ha:(l.any λc=>!isName c) = !(l.all isName):=by simp[List.any_eq_not_all_not]
  try simp only[fContainsFunc_str_impl_areHosts_1,fNames,std,Nat.reduceAdd,fAreHosts1] at *
  try simp(disch:=omega) only[wrapId',toNat1] at *
  try simp(disch:=omega) only[Qa1,Qa4]
 all_goals first|trivial|omega|grind[wrapId',toNat1,drop_cons,drop_end,good_len,maxLen,fContainsFunc_str_impl_areHosts_1,fAreHosts1])
def isPolicy (p:Si_):Bool:=if p.set_ then p.bp.all isName&&decide (p.bp.length<=4)&&(p.styles.all isName&&decide (p.styles.length<=4))&&(p.images.all isName&&decide (p.images.length<=4))&&(decide (p.nonce=⟨#[]⟩)||isValue p.nonce) else decide (p.bp.length=0/\p.styles.length=0/\p.images.length=0/\p.nonce=⟨#[]⟩)
def BN:Fct:=⟨[.v (.el .bj)],[.el .bool],λ(x_:Si_×Unit)=>szPolicy x_.1<=1099511627776,λ(x_:Si_×Unit)=>(isPolicy x_.1,())⟩
theorem q4 (p:Si_) (hp:BN.pre (p,())):Out.holds (BN.ctr (p,())).post (.br (!p.set_) (.br ((p.bp.length:Int)==0) (.br ((p.styles.length:Int)==0) (.br ((p.images.length:Int)==0) (.lf BN (p.nonce.toList==(⟨#[]⟩:ByteArray).toList,())) (.lf BN (false,()))) (.lf BN (false,()))) (.lf BN (false,()))) (.cl fNames (p.bp,()) λz2=>.br (z2.1) (.cl fNames (p.styles,()) λz3=>.br (z3.1) (.cl fNames (p.images,()) λz4=>.br (z4.1) (.br (p.nonce.toList==(⟨#[]⟩:ByteArray).toList) (.lf BN (true,())) (.cl fIsValue (p.nonce,()) λz5=>.lf BN (z5.1,()))) (.lf BN (false,()))) (.lf BN (false,()))) (.lf BN (false,())))):=by
 repeat' (guard_target =~ Out.holds _ _;first|refine lfY ?_|refine Ab (λ_=>?_) λ_=>?_|refine Af ?_ λ_=>?_)
 all_goals
  try simp only[BN,fIsValue,fNames,std,Nat.reduceAdd,isPolicy,szPolicy] at *
  try simp(disch:=omega) only[wrapId',toNat1] at *
  try simp(disch:=omega) only[Qa1,Qa4]
 all_goals first|trivial|omega|grind[wrapId',toNat1,drop_cons,drop_end,good_len,maxLen,isPolicy,fNames,fIsValue,szPolicy]
def Aod:=Akz.a BN<|Fct.o (KP [1,2] [5]) Akz.2 func320 (by
 rintro⟨(p:Si_),_⟩ hp;exact ho _ (q4 p hp))
def Aor:=Aod.a BN<|Fct.o (KP [1,2] [5]) Aod.2 func330 (by
 rintro⟨(p:Si_),_⟩ hp;exact ho _ (q4 p hp))
def fAllows:Fct:=⟨[.v (.el .bj),.v (.el .int),.v (.el .str)],[.el .bool],λ(x_:Si_×Int×ByteArray×Unit)=>szPolicy x_.1<=1099511627776,λ(x_:Si_×Int×ByteArray×Unit)=>(!x_.1.set_||(if x_.2.1=2\/x_.2.1=5 then x_.1.bp.any (λc=>decide (c=x_.2.2.1)) else if x_.2.1=3 then x_.1.styles.any (λc=>decide (c=x_.2.2.1)) else if x_.2.1=4 then x_.1.images.any (λc=>decide (c=x_.2.2.1)) else false),())⟩
def Apr:=Aor.a fAllows<|Fct.o (KP [1,2,3,6] [7,11,22,29]) Aor.2 func365 (by
 rintro⟨(p:Si_),(k:Int),(h:ByteArray),_⟩ hp;refine ho (.br (!p.set_) (.lf fAllows (true,())) (.br (k==2) (.cl fHas9 (p.bp,h,()) λz2=>.lf fAllows (z2.1,())) (.br (k==5) (.cl fHas9 (p.bp,h,()) λz3=>.lf fAllows (z3.1,())) (.br (k==3) (.cl fHas9 (p.styles,h,()) λz4=>.lf fAllows (z4.1,())) (.br (k==4) (.cl fHas9 (p.images,h,()) λz5=>.lf fAllows (z5.1,())) (.lf fAllows (false,()))))))) ?_;repeat' (guard_target =~ Out.holds _ _;first|refine lfY ?_|refine Ab (λ_=>?_) λ_=>?_|refine Af ?_ λ_=>?_)
 all_goals
  have hl1:=Ac Ad p.bp;have hl2:=Ac Ad p.styles;have hl3:=Ac Ad p.images;try simp only[fAllows,fHas9,std,Nat.reduceAdd,fContains_str,szPolicy] at *
  try simp(disch:=omega) only[wrapId',toNat1] at *
  try simp(disch:=omega) only[Qa1,Qa4]
 all_goals first|trivial|omega|grind[wrapId',toNat1,drop_cons,drop_end,good_len,maxLen,fHas9,fContains_str,szPolicy])
def AlN:=Apr.a fAllows<|Fct.o (KP [1,2,3,6,10,11] [9,18,24]) Apr.2 func389 (by
 rintro⟨(p:Si_),(k:Int),(h:ByteArray),_⟩ hp;refine ho (let q1_:Out:=.cl fContains_str (p.bp,h,()) λz2=>.lf fAllows (z2.1,());let q0_:Out:=.br (k==3) (.cl fContains_str (p.styles,h,()) λz3=>.lf fAllows (z3.1,())) (.br (k==4) (.cl fContains_str (p.images,h,()) λz4=>.lf fAllows (z4.1,())) (.lf fAllows (false,())));.br (!p.set_) (.lf fAllows (true,())) (.br (k==2) (.br (k==2) q1_ q0_) (.br (k==5) q1_ q0_))) ?_;repeat' (guard_target =~ Out.holds _ _;first|refine lfY ?_|refine Ab (λ_=>?_) λ_=>?_|refine Af ?_ λ_=>?_)
 all_goals
  have hl1:=Ac Ad p.bp;have hl2:=Ac Ad p.styles;have hl3:=Ac Ad p.images;try simp only[fAllows,fContains_str,std,Nat.reduceAdd,fHas9,szPolicy] at *
  try simp(disch:=omega) only[wrapId',toNat1] at *
  try simp(disch:=omega) only[Qa1,Qa4]
 all_goals first|trivial|omega|grind[wrapId',toNat1,drop_cons,drop_end,good_len,maxLen,fHas9,fContains_str,szPolicy])
def isRequest (r:Sf_):Bool:=inRange r.kind 1 5&&(isName r.to.host&&isName r.to.path)&&isName r.from_&&(decide (r.digest=⟨#[]⟩)||isValue r.digest)
def fIsRequest:Fct:=⟨[.v (.el .request)],[.el .bool],λ(x_:Sf_×Unit)=>szRequest x_.1<=1099511627776,λ(x_:Sf_×Unit)=>(isRequest x_.1,())⟩
theorem q5 (r:Sf_) (hp:fIsRequest.pre (r,())):Out.holds (fIsRequest.ctr (r,())).post (.cl fInRange (r.kind,(1:Int),(5:Int),()) λz2=>.br (z2.1) (.cl fIsAddr (r.to,()) λz3=>.br (z3.1) (.cl fIsName (r.from_,()) λz4=>.br (z4.1) (.br (r.digest.toList==(⟨#[]⟩:ByteArray).toList) (.lf fIsRequest (true,())) (.cl fIsValue (r.digest,()) λz5=>.lf fIsRequest (z5.1,()))) (.lf fIsRequest (false,()))) (.lf fIsRequest (false,()))) (.lf fIsRequest (false,()))):=by
 repeat' first|(guard_target =~ Out.holds _ _;first|refine lfY ?_|refine Ab (λ_=>?_) λ_=>?_|refine Af ?_ λ_=>?_)|exact trivial
 all_goals
  try simp only[fInRange,fIsAddr,fIsName,fIsRequest,fIsValue,std,Nat.reduceAdd,isRequest,szRequest,szAddr] at *
  try simp(disch:=omega) only[wrapId',toNat1] at *
  try simp(disch:=omega) only[Qa1,Qa4]
 all_goals first|trivial|omega|grind[wrapId',toNat1,drop_cons,drop_end,good_len,maxLen,isRequest,fIsName,fIsAddr,fIsValue,fInRange,szRequest,szAddr]
def Apl:=AlN.a fIsRequest<|Fct.o [1,2] AlN.2 func364 (by
 rintro⟨(r:Sf_),_⟩ hp;exact ho _ (q5 r hp))
def Al4:=Apl.a fIsRequest<|Fct.o [1,2] Apl.2 func388 (by
 rintro⟨(r:Sf_),_⟩ hp;exact ho _ (q5 r hp))
def allows (p:Si_) (k:Int) (h:ByteArray):Bool:=(fAllows.fn (p,k,h,())).1
def checkRequest (p:Si_) (r:Sf_):Int:=if isRequest r&&(decide (r.kind=1)||allows p r.kind r.to.host) then 1 else 2
def fCheckRequest:Fct:=⟨[.v (.el .bj),.v (.el .request)],[.el .int],λ(x_:Si_×Sf_×Unit)=>szPolicy x_.1<=1099511627776/\szRequest x_.2.1<=1099511627776,λ(x_:Si_×Sf_×Unit)=>(checkRequest x_.1 x_.2.1,())⟩
theorem q6 (p:Si_) (r:Sf_) (hp:fCheckRequest.pre (p,r,())):Out.holds (fCheckRequest.ctr (p,r,())).post (.cl fIsRequest (r,()) λz2=>.br (!z2.1) (.lf fCheckRequest ((2:Int),())) (.br (r.kind != 1) (.cl fAllows (p,r.kind,r.to.host,()) λz3=>.br (!z3.1) (.lf fCheckRequest ((2:Int),())) (.lf fCheckRequest ((1:Int),()))) (.lf fCheckRequest ((1:Int),())))):=by
 refine Af ?_ λ_=>(Ab (λh2=>lfY ?_) (λh2=>Ab (λh3=>Af ?_ λ_=>(Ab (λh5=>lfY ?_) (λh5=>lfY ?_))) (λh3=>lfY ?_)))
 all_goals
  try simp only[fAllows,fCheckRequest,fIsRequest,std,Nat.reduceAdd,checkRequest,allows] at *
  try simp(disch:=omega) only[wrapId',toNat1] at *
  try simp(disch:=omega) only[Qa1,Qa4]
 all_goals first|trivial|omega|grind[wrapId',toNat1,drop_cons,drop_end,good_len,maxLen,checkRequest,allows,fAllows,fIsRequest]
def AkE:=Al4.a fCheckRequest<|Fct.o (KP [2,3,4] [22]) Al4.2 func286 (by
 rintro⟨(p:Si_),(r:Sf_),_⟩ hp;exact ho _ (q6 p r hp))
def AlF:=AkE.a fCheckRequest<|Fct.o (KP [2,3,4] [22]) AkE.2 func308 (by
 rintro⟨(p:Si_),(r:Sf_),_⟩ hp;exact ho _ (q6 p r hp))
def fFitsKind:Fct:=⟨[.v (.el .bd),.v (.el .int)],[.el .bool],λ(x_:Sd_×Int×Unit)=>True,λ(x_:Sd_×Int×Unit)=>(decide (x_.1.kind=x_.2.1)||decide (x_.2.1=5/\x_.1.kind=2),())⟩
theorem q7 (x:Sd_) (k:Int) (hp:fFitsKind.pre (x,k,())):Out.holds (fFitsKind.ctr (x,k,())).post (.br (x.kind==k) (.lf fFitsKind (true,())) (.br (k==5) (.lf fFitsKind (x.kind==2,())) (.lf fFitsKind (false,())))):=by
 refine Ab (λh1=>lfY ?_) (λh1=>Ab (λh2=>lfY ?_) (λh2=>lfY ?_));all_goals
  try simp only[fFitsKind,std,Nat.reduceAdd] at *
  try simp(disch:=omega) only[wrapId',toNat1] at *
  try simp(disch:=omega) only[Qa1,Qa4]
 all_goals first|trivial|omega|grind[wrapId',toNat1,drop_cons,drop_end,good_len,maxLen]
def AmN:=AlF.a fFitsKind<|Fct.o [1,2,4] AlF.2 func422 (by
 rintro⟨(x:Sd_),(k:Int),_⟩ hp;exact ho _ (q7 x k hp))
def ApU:=AmN.a fFitsKind<|Fct.o [1,2,4] AmN.2 func442 (by
 rintro⟨(x:Sd_),(k:Int),_⟩ hp;exact ho _ (q7 x k hp))
def notFound:Sd_:=⟨404,1,⟨#[]⟩,0,false,⟨#[]⟩⟩
def fNotFound:Fct:=⟨[],[rE .bd],λ_=>True,λ_=>(notFound,())⟩
def AnC:=ApU.a fNotFound<|Fct.o [0] ApU.2 func162 (by
 rintro⟨_⟩ hp;refine ho (.lf fNotFound (⟨(404:Int),(1:Int),(⟨#[]⟩:ByteArray),(0:Int),false,(⟨#[]⟩:ByteArray)⟩,())) ?_;refine lfY ?_;all_goals try simp only[fNotFound,std,Nat.reduceAdd] at *
 all_goals first|trivial|omega|(simp_all;done)|(simp_all;omega)|grind)
def Ane:=AnC.a fNotFound<|Fct.o [0] AnC.2 func173 (by
 rintro⟨_⟩ hp;refine ho (.lf fNotFound (⟨(404:Int),(1:Int),(⟨#[]⟩:ByteArray),(0:Int),false,(⟨#[]⟩:ByteArray)⟩,())) ?_;refine lfY ?_;all_goals try simp only[fNotFound,std,Nat.reduceAdd] at *
 all_goals first|trivial|omega|(simp_all;done)|(simp_all;omega)|grind)
def fCopyServers:Fct:=⟨[.v (.sl .server)],[.sl .server],λ(x_:(List Sk_)×Unit)=>szL AY x_.1<=68719476736,λ(x_:(List Sk_)×Unit)=>(x_.1,())⟩
abbrev CS (l:(List Sk_)):LInv:=⟨[⟨.s,3,true,.sl .server⟩,⟨.s,4,true,.el .int⟩],λ_ (x_:(List Sk_)×Int×Unit)=>0<=x_.2.1/\x_.2.1<=l.length/\x_.1=l.take x_.2.1.toNat,λ(x_:(List Sk_)×Int×Unit)=>l.length-x_.2.1.toNat⟩
def AnA:=Ane.a fCopyServers<|Fct.p (KP [0,2,3,4] [9]) (λ⟨l,_⟩=>lv [(3,CS l)]) Ane.2 func212 (by
 rintro⟨(l:List Sk_),_⟩ hp;refine ho (lpx (CS l) ([],((0:Int),())) λ(y1:List Sk_×Int×PUnit) bk1=>.br (decide (y1.2.1<(l.length:Int))) (.ob (inB y1.2.1 l.length)<|.ob (inB y1.2.1 l.length)<|.ob (True)<|.ob (Bx (l.getD y1.2.1.toNat default).files.length 80)<|.ob (Bx (y1.1.length+[l.getD y1.2.1.toNat default].length) 40)<|.ob (l=l)<|.ob (bk1 (y1.1++[l.getD y1.2.1.toNat default],(w1 y1.2.1,())))<|.ok) (.lf fCopyServers (y1.1,()))) ?_;refine Aj ?_ λ(y1:List Sk_×Int×PUnit) i1=>Ab (λh2=>Aa ?_ λ_=>Aa ?_ λ_=>Aa trivial λ_=>Aa ?_ λ_=>Aa ?_ λ_=>Aa rfl λ_=>Aa ?_ λ_=>trivial) (λh2=>lfY ?_)
 all_goals
  have hl:=Ac AY l;have hg:∀ i,i<l.length->(l.getD i default).files.length<=68719476736:=λi h=>by have:=Hz h;have hp2:szL AY l<=68719476736:=hp;omega
  try simp only[CS,fCopyServers,std,Nat.reduceAdd,take_succ,take_end] at *
  try simp(disch:=omega) only[wrapId',toNat1] at *
  try simp(disch:=omega) only[Qa1,Qa4]
 all_goals first|trivial|omega|grind[wrapId',toNat1,drop_cons,drop_end,good_len,maxLen,take_succ,take_end])
abbrev BV (l:(List Sk_)):LInv:=⟨[⟨.s,3,true,.sl .server⟩,⟨.s,9,true,.el .int⟩],λ_ (x_:(List Sk_)×Int×Unit)=>0<=x_.2.1/\x_.2.1<=l.length/\x_.1=l.take x_.2.1.toNat,λ(x_:(List Sk_)×Int×Unit)=>l.length-x_.2.1.toNat⟩
def Apg:=AnA.a fCopyServers<|Fct.p (KP [0,2,3,5,7,8,9] [10]) (λ⟨l,_⟩=>lv [(3,BV l)]) AnA.2 func242 (by
 rintro⟨(l:List Sk_),_⟩ hp;refine ho (lpx (BV l) ([],((0:Int),())) λ(y1:List Sk_×Int×PUnit) bk1=>.br (decide (y1.2.1<(l.length:Int))) (.ob (inB y1.2.1 l.length)<|.ob (True)<|.ob (Bx (l.getD y1.2.1.toNat default).files.length 80)<|.ob (Bx (y1.1.length+[l.getD y1.2.1.toNat default].length) 40)<|.ob (l=l)<|.ob (l=l)<|.ob (Value.int IntKind.i64 (l.length:Int)=Value.int IntKind.i64 (l.length:Int))<|.ob (bk1 (y1.1++[l.getD y1.2.1.toNat default],(w1 y1.2.1,())))<|.ok) (.lf fCopyServers (y1.1,()))) ?_;refine Aj ?_ λ(y1:List Sk_×Int×PUnit) i1=>Ab (λh2=>Aa ?_ λ_=>Aa trivial λ_=>Aa ?_ λ_=>Aa ?_ λ_=>Aa rfl λ_=>Aa rfl λ_=>Aa rfl λ_=>Aa ?_ λ_=>trivial) (λh2=>lfY ?_)
 all_goals
  have hl:=Ac AY l;have hg:∀ i,i<l.length->(l.getD i default).files.length<=68719476736:=λi h=>by have:=Hz h;have hp2:szL AY l<=68719476736:=hp;omega
  try simp only[BV,fCopyServers,std,Nat.reduceAdd,take_succ,take_end] at *
  try simp(disch:=omega) only[wrapId',toNat1] at *
  try simp(disch:=omega) only[Qa1,Qa4]
 all_goals first|trivial|omega|grind[wrapId',toNat1,drop_cons,drop_end,good_len,maxLen,take_succ,take_end])
def fCopyCache:Fct:=⟨[.v (.el .cache)],[.el .cache],λ(x_:Sm_×Unit)=>szCache x_.1<=68719476736,λ(x_:Sm_×Unit)=>(x_.1,())⟩
theorem q8 (c:Sm_) (hp:fCopyCache.pre (c,())):Out.holds (fCopyCache.ctr (c,())).post (.ob (True)<|.ob (Bx (0+c.bg.length) 120)<|.lf fCopyCache (⟨[]++c.bg⟩,())):=by
 refine Aa trivial λ_=>Aa ?_ λ_=>lfY ?_
 all_goals
  have hl:=Ac AP c.bg;try simp only[fCopyCache,std,Nat.reduceAdd,szCache] at *
  try simp(disch:=omega) only[wrapId',toNat1] at *
  try simp(disch:=omega) only[Qa1,Qa4]
 all_goals first|trivial|omega|grind[wrapId',toNat1,drop_cons,drop_end,good_len,maxLen,szCache]
def Amu:=Apg.a fCopyCache<|Fct.o [1,2] Apg.2 func213 (by
 rintro⟨(c:Sm_),_⟩ hp;exact ho _ (q8 c hp))
def AlV:=Amu.a fCopyCache<|Fct.o [1,2] Amu.2 func243 (by
 rintro⟨(c:Sm_),_⟩ hp;exact ho _ (q8 c hp))
def fCopyNet:Fct:=⟨[.v (.el .net)],[.el .net],λ(x_:Su_×Unit)=>szNet x_.1<=68719476736,λ(x_:Su_×Unit)=>(x_.1,())⟩
theorem q9 (n:Su_) (hp:fCopyNet.pre (n,())):Out.holds (fCopyNet.ctr (n,())).post (.cl fCopyServers (n.servers,()) λz2=>.cl fCopyCache (n.cache,()) λz3=>.ob (True)<|.ob (Bx n.log.length 56)<|.lf fCopyNet (⟨z2.1,z3.1,n.log,n.now⟩,())):=by
 refine Af ?_ λ_=>(Af ?_ λ_=>(Aa trivial λ_=>Aa ?_ λ_=>lfY ?_))
 all_goals
  have hl:=Ac DM n.log;try simp only[fCopyCache,fCopyNet,fCopyServers,std,Nat.reduceAdd,szNet] at *
  try simp(disch:=omega) only[wrapId',toNat1] at *
  try simp(disch:=omega) only[Qa1,Qa4]
 all_goals first|trivial|omega|grind[wrapId',toNat1,drop_cons,drop_end,good_len,maxLen,szNet,fCopyServers,fCopyCache]
def Aoj:=AlV.a fCopyNet<|Fct.o [1,2] AlV.2 func136 (by
 rintro⟨(n:Su_),_⟩ hp;exact ho _ (q9 n hp))
def AmF:=Aoj.a fCopyNet<|Fct.o [1,2] Aoj.2 func151 (by
 rintro⟨(n:Su_),_⟩ hp;exact ho _ (q9 n hp))
def fServerAt:Fct:=⟨[.v (.sl .server),.v (.el .str)],[.el .int],λ(x_:(List Sk_)×ByteArray×Unit)=>x_.1.length<=1000000000000,λ(x_:(List Sk_)×ByteArray×Unit)=>(fidx (λs=>decide (s.host=x_.2.1)) x_.1 0,())⟩
abbrev CZ (l:(List Sk_)) (h:ByteArray):LInv:=⟨[⟨.s,5,true,.el .int⟩],λ_ (x_:Int×Unit)=>0<=x_.1/\x_.1<=l.length/\fidx (λs=>decide (s.host=h)) (l.drop x_.1.toNat) x_.1=fidx (λs=>decide (s.host=h)) l 0,λ(x_:Int×Unit)=>l.length-x_.1.toNat⟩
def ApA:=AmF.a fServerAt<|Fct.p (KP [0,1,4,5] [9,18]) (λ⟨l,h,_⟩=>lv [(2,CZ l h)]) AmF.2 func250 (by
 rintro⟨(l:List Sk_),(h:ByteArray),_⟩ hp;refine ho (lpx (CZ l h) ((0:Int),()) λ(y1:Int×PUnit) bk1=>.br (decide (y1.1<(l.length:Int))) (.ob (inB y1.1 l.length)<|.br ((l.getD y1.1.toNat default).host.toList==h.toList) (.lf fServerAt (y1.1,())) (.ob (l=l)<|.ob (Value.string h=Value.string h)<|.ob (bk1 (w1 y1.1,()))<|.ok)) (.lf fServerAt ((-1:Int),()))) ?_;refine Aj ?_ λ(y1:Int×PUnit) i1=>Ab (λh2=>Aa ?_ λ_=>Ab (λh4=>lfY ?_) (λh4=>Aa rfl λ_=>Aa rfl λ_=>Aa ?_ λ_=>trivial)) (λh2=>lfY ?_)
 all_goals
  try simp only[CZ,fServerAt,std,Nat.reduceAdd,fidx] at *
  try simp(disch:=omega) only[wrapId',toNat1] at *
  try simp(disch:=omega) only[Qa1,Qa4]
 all_goals first|trivial|omega|grind[wrapId',toNat1,drop_cons,drop_end,good_len,maxLen,fidx])
def fServerAt1:Fct:=⟨[.v (.el .server),.p (.el .str)],[.el .bool],λ(x_:Sk_×ByteArray×Unit)=>True,λ(x_:Sk_×ByteArray×Unit)=>(decide (x_.1.host=x_.2.1),())⟩
def AnG:=ApA.a fServerAt1<|Fct.o [1,2,3] ApA.2 func323 (by
 rintro⟨(s:Sk_),(h:ByteArray),_⟩ hp;refine ho (.lf fServerAt1 (s.host.toList==ByteArray.toList h,())) ?_;refine lfY ?_;all_goals
  try simp only[fServerAt1,std,Nat.reduceAdd] at *
  try simp(disch:=omega) only[wrapId',toNat1] at *
  try simp(disch:=omega) only[Qa1,Qa4]
 all_goals first|trivial|omega|grind[wrapId',toNat1,drop_cons,drop_end,good_len,maxLen])
def AH:Fct:=⟨[aL .server,.c 323 [.el .str]],[rI],λx=>x.1.length<=1000000000000000000/\∀ c,fServerAt1.pre (c,x.2.1),λx=>(fidx (λc=>(fServerAt1.fn (c,x.2.1)).1) x.1 0,())⟩
abbrev Ai (l:(List Sk_)) (u:(ByteArray×Unit)):LInv:=⟨[⟨.s,8,true,.el .int⟩],λ_ (x_:Int×Unit)=>0<=x_.1/\x_.1<=l.length/\fidx (λc=>(fServerAt1.fn (c,u)).1) l 0=fidx (λc=>(fServerAt1.fn (c,u)).1) (l.drop x_.1.toNat) x_.1,λ(x_:Int×Unit)=>l.length-x_.1.toNat⟩
def ApG:=AnG.a AH<|Fct.p (KP [0,1,4,5,7,8] [9,16]) (λ⟨l,u,_⟩=>lv [(2,Ai l u)]) AnG.2 func322 (by
 rintro⟨(l:List Sk_),(u:ByteArray×PUnit),_⟩ hp;refine ho (lpx (Ai l u) ((0:Int),()) λ(y1:Int×PUnit) bk1=>.br (decide (y1.1<(l.length:Int))) (.ob (inB y1.1 l.length)<|.cl fServerAt1 (l.getD y1.1.toNat default,u.1,()) λz2=>.br (z2.1) (.lf AH (y1.1,())) (.ob (l=l)<|.ob (enc Ty.str u.1=enc Ty.str u.1)<|.ob (Value.int IntKind.i64 (l.length:Int)=Value.int IntKind.i64 (l.length:Int))<|.ob (bk1 (w1 y1.1,()))<|.ok)) (.lf AH ((-1:Int),()))) ?_;refine Aj ?_ λ(y1:Int×PUnit) i1=>Ab (λh2=>Aa ?_ λ_=>Af trivial λ_=>(Ab (λh4=>lfY ?_) (λh4=>Aa rfl λ_=>Aa rfl λ_=>Aa rfl λ_=>Aa ?_ λ_=>trivial))) (λh2=>lfY ?_)
 all_goals
  try simp only[Ai,AH,fServerAt1,std,Nat.reduceAdd] at *
  try have hp2:=hp.2
  try have hp1:=hp.1
 all_goals first|trivial|omega|grind[wrapId',toNat1,drop_cons,drop_end,good_len,maxLen,fidx])
def AmJ:=ApG.a fServerAt<|Fct.o [0,3,4] ApG.2 func259 (by
 rintro⟨(l:List Sk_),(h:ByteArray),_⟩ hp;refine ho (.cl AH (l,(h,()),()) λ(z2:Int×PUnit)=>.lf fServerAt (z2.1,())) ?_;refine Af ?_ λ_=>(lfY ?_)
 all_goals
  try simp only[AH,fServerAt,std,Nat.reduceAdd,fServerAt1] at *
  try simp(disch:=omega) only[wrapId',toNat1] at *
  try simp(disch:=omega) only[Qa1,Qa4]
 all_goals first|trivial|omega|grind[wrapId',toNat1,drop_cons,drop_end,good_len,maxLen,fServerAt1])
def fFileAt:Fct:=⟨[.v (.el .server),.v (.el .str)],[.el .int],λ(x_:Sk_×ByteArray×Unit)=>x_.1.files.length<=1000000000000,λ(x_:Sk_×ByteArray×Unit)=>(fidx (λf=>decide (f.path=x_.2.1)) x_.1.files 0,())⟩
abbrev DQ (s:Sk_) (p:ByteArray):LInv:=⟨[⟨.s,5,true,.el .int⟩,⟨.b,2,false,.el .server⟩],λ(z_ x_:Int×Sk_×Unit)=>(0<=x_.1/\x_.1<=s.files.length/\fidx (λf=>decide (f.path=p)) (s.files.drop x_.1.toNat) x_.1=fidx (λf=>decide (f.path=p)) s.files 0)/\x_.2.1=z_.2.1,λ(x_:Int×Sk_×Unit)=>s.files.length-x_.1.toNat⟩
def Am4:=AmJ.a fFileAt<|Fct.p (KP [1,2,4,5] [10,20]) (λ⟨s,p,_⟩=>lv [(2,DQ s p)]) AmJ.2 func251 (by
 rintro⟨(s:Sk_),(p:ByteArray),_⟩ hp;refine ho (lpx (DQ s p) ((0:Int),(s,())) λ(y1:Int×Sk_×PUnit) bk1=>.br (decide (y1.1<(y1.2.1.files.length:Int))) (.ob (inB y1.1 y1.2.1.files.length)<|.br ((y1.2.1.files.getD y1.1.toNat default).path.toList==p.toList) (.lf fFileAt (y1.1,())) (.ob (Value.string p=Value.string p)<|.ob (bk1 (w1 y1.1,(y1.2.1,())))<|.ok)) (.lf fFileAt ((-1:Int),()))) ?_;refine Aj ?_ λ(y1:Int×Sk_×PUnit) i1=>Ab (λh2=>Aa ?_ λ_=>Ab (λh4=>lfY ?_) (λh4=>Aa rfl λ_=>Aa ?_ λ_=>trivial)) (λh2=>lfY ?_)
 all_goals
  try simp only[DQ,fFileAt,std,Nat.reduceAdd,fidx] at *
  try simp(disch:=omega) only[wrapId',toNat1] at *
  try simp(disch:=omega) only[Qa1,Qa4]
 all_goals first|trivial|omega|grind[wrapId',toNat1,drop_cons,drop_end,good_len,maxLen,fidx])
def fFileAt1:Fct:=⟨[.v (.el .file),.p (.el .str)],[.el .bool],λ(x_:Sv_×ByteArray×Unit)=>True,λ(x_:Sv_×ByteArray×Unit)=>(decide (x_.1.path=x_.2.1),())⟩
def AoZ:=Am4.a fFileAt1<|Fct.o [1,2,3] Am4.2 func325 (by
 rintro⟨(f:Sv_),(p:ByteArray),_⟩ hp;refine ho (.lf fFileAt1 (f.path.toList==ByteArray.toList p,())) ?_;refine lfY ?_;all_goals
  try simp only[fFileAt1,std,Nat.reduceAdd] at *
  try simp(disch:=omega) only[wrapId',toNat1] at *
  try simp(disch:=omega) only[Qa1,Qa4]
 all_goals first|trivial|omega|grind[wrapId',toNat1,drop_cons,drop_end,good_len,maxLen])
def AV:Fct:=⟨[aL .file,.c 325 [.el .str]],[rI],λx=>x.1.length<=1000000000000000000/\∀ c,fFileAt1.pre (c,x.2.1),λx=>(fidx (λc=>(fFileAt1.fn (c,x.2.1)).1) x.1 0,())⟩
abbrev Av (l:(List Sv_)) (u:(ByteArray×Unit)):LInv:=⟨[⟨.s,8,true,.el .int⟩],λ_ (x_:Int×Unit)=>0<=x_.1/\x_.1<=l.length/\fidx (λc=>(fFileAt1.fn (c,u)).1) l 0=fidx (λc=>(fFileAt1.fn (c,u)).1) (l.drop x_.1.toNat) x_.1,λ(x_:Int×Unit)=>l.length-x_.1.toNat⟩
def Ank:=AoZ.a AV<|Fct.p (KP [0,1,4,5,7,8] [9,16]) (λ⟨l,u,_⟩=>lv [(2,Av l u)]) AoZ.2 func324 (by
 rintro⟨(l:List Sv_),(u:ByteArray×PUnit),_⟩ hp;refine ho (lpx (Av l u) ((0:Int),()) λ(y1:Int×PUnit) bk1=>.br (decide (y1.1<(l.length:Int))) (.ob (inB y1.1 l.length)<|.cl fFileAt1 (l.getD y1.1.toNat default,u.1,()) λz2=>.br (z2.1) (.lf AV (y1.1,())) (.ob (l=l)<|.ob (enc Ty.str u.1=enc Ty.str u.1)<|.ob (Value.int IntKind.i64 (l.length:Int)=Value.int IntKind.i64 (l.length:Int))<|.ob (bk1 (w1 y1.1,()))<|.ok)) (.lf AV ((-1:Int),()))) ?_;refine Aj ?_ λ(y1:Int×PUnit) i1=>Ab (λh2=>Aa ?_ λ_=>Af trivial λ_=>(Ab (λh4=>lfY ?_) (λh4=>Aa rfl λ_=>Aa rfl λ_=>Aa rfl λ_=>Aa ?_ λ_=>trivial))) (λh2=>lfY ?_)
 all_goals
  try simp only[Av,fFileAt1,AV,std,Nat.reduceAdd] at *
  try have hp2:=hp.2
  try have hp1:=hp.1
 all_goals first|trivial|omega|grind[wrapId',toNat1,drop_cons,drop_end,good_len,maxLen,fidx])
def AlE:=Ank.a fFileAt<|Fct.o [2,3,4] Ank.2 func260 (by
 rintro⟨(s:Sk_),(p:ByteArray),_⟩ hp;refine ho (.cl AV (s.files,(p,()),()) λ(z2:Int×PUnit)=>.lf fFileAt (z2.1,())) ?_;refine Af ?_ λ_=>(lfY ?_)
 all_goals
  try simp only[fFileAt,AV,std,Nat.reduceAdd,fFileAt1] at *
  try simp(disch:=omega) only[wrapId',toNat1] at *
  try simp(disch:=omega) only[Qa1,Qa4]
 all_goals first|trivial|omega|grind[wrapId',toNat1,drop_cons,drop_end,good_len,maxLen,fFileAt1])
def answerTo (l:List Sk_) (a:Sb_):Sd_:=if fidx (λs=>decide (s.host=a.host)) l 0<0 then notFound else if fidx (λf=>decide (f.path=a.path)) (l.getD (fidx (λs=>decide (s.host=a.host)) l 0).toNat default).files 0<0 then notFound else((l.getD (fidx (λs=>decide (s.host=a.host)) l 0).toNat default).files.getD (fidx (λf=>decide (f.path=a.path)) (l.getD (fidx (λs=>decide (s.host=a.host)) l 0).toNat default).files 0).toNat default).bd
def fAnswerTo:Fct:=⟨[.v (.sl .server),.v (.el .addr)],[.el .bd],λ(x_:(List Sk_)×Sb_×Unit)=>szL AY x_.1<=68719476736,λ(x_:(List Sk_)×Sb_×Unit)=>(answerTo x_.1 x_.2.1,())⟩
theorem q10 (l:List Sk_) (a:Sb_) (hp:fAnswerTo.pre (l,a,())):Out.holds (fAnswerTo.ctr (l,a,())).post (.cl fServerAt (l,a.host,()) λ(z2:Int×PUnit)=>.br (decide (z2.1<0)) (.cl fNotFound () λz3=>.lf fAnswerTo (z3.1,())) (.ob (0<=z2.1/\z2.1<(↑(List.length l):Int))<|.cl fFileAt (List.getD l z2.1.toNat default,a.path,()) λ(z4:Int×PUnit)=>.br (decide (z4.1<0)) (.cl fNotFound () λz5=>.lf fAnswerTo (z5.1,())) (.ob (0<=z2.1/\z2.1<(↑(List.length l):Int))<|.ob (0<=z4.1/\z4.1<(↑(List.getD l z2.1.toNat default).files.length:Int))<|.lf fAnswerTo (((List.getD l z2.1.toNat default).files.getD z4.1.toNat default).bd,())))):=by
 refine Af ?_ λ_=>(Ab (λh2=>Af trivial λ_=>(lfY ?_)) (λh2=>Aa ?_ λ_=>Af ?_ λ_=>(Ab (λh5=>Af trivial λ_=>(lfY ?_)) (λh5=>Aa ?_ λ_=>Aa ?_ λ_=>lfY ?_))))
 all_goals
  have hl:=Ac AY l;have hg:∀ i,i<l.length->(l.getD i default).files.length<=68719476736:=λi h=>by have:=Hz h;have hp2:szL AY l<=68719476736:=hp;omega
  have hf:=EW (λs:Sk_=>decide (s.host=a.host)) l 0 o_;have hf2:=λfs=>EW (λf:Sv_=>decide (f.path=a.path)) fs 0 o_
  try simp only[fAnswerTo,fFileAt,fNotFound,fServerAt,std,Nat.reduceAdd,answerTo] at *
  try simp(disch:=omega) only[wrapId',toNat1] at *
  try simp(disch:=omega) only[Qa1,Qa4]
 all_goals first|trivial|omega|grind[wrapId',toNat1,drop_cons,drop_end,good_len,maxLen,answerTo,fServerAt,fFileAt,fNotFound]
def Aly:=AlE.a fAnswerTo<|Fct.o (KP [0,3,4,5,6] [12,22]) AlE.2 func164 (by
 rintro⟨(l:List Sk_),(a:Sb_),_⟩ hp;exact ho _ (q10 l a hp))
def AkH:=Aly.a fAnswerTo<|Fct.o (KP [0,3,4,5,6] [12,22]) Aly.2 func175 (by
 rintro⟨(l:List Sk_),(a:Sb_),_⟩ hp;exact ho _ (q10 l a hp))
def fFindEntry:Fct:=⟨[.v (.el .cache),.v (.el .str),.v (.el .addr)],[.el .int],λ(x_:Sm_×ByteArray×Sb_×Unit)=>x_.1.bg.length<=1000000000000,λ(x_:Sm_×ByteArray×Sb_×Unit)=>(fidx (λe=>decide (e.top=x_.2.1)&&decide (e.to=x_.2.2.1)) x_.1.bg 0,())⟩
abbrev Da (c:Sm_) (t:ByteArray) (a:Sb_):LInv:=⟨[⟨.s,7,true,.el .int⟩,⟨.b,3,false,.el .cache⟩,⟨.b,5,true,.el .addr⟩],λ(z_ x_:Int×Sm_×Sb_×Unit)=>((0<=x_.1/\x_.1<=c.bg.length/\fidx (λe=>decide (e.top=t)&&decide (e.to=a)) (c.bg.drop x_.1.toNat) x_.1=fidx (λe=>decide (e.top=t)&&decide (e.to=a)) c.bg 0)/\x_.2.1=z_.2.1)/\x_.2.2.1=z_.2.2.1,λ(x_:Int×Sm_×Sb_×Unit)=>c.bg.length-x_.1.toNat⟩
def AmX:=AkH.a fFindEntry<|Fct.p (KP [1,3,5,6,7] [12,32]) (λ⟨c,t,a,_⟩=>lv [(2,Da c t a)]) AkH.2 func319 (by
 rintro⟨(c:Sm_),(t:ByteArray),(a:Sb_),_⟩ hp;refine ho (lpx (Da c t a) ((0:Int),(c,(a,()))) λ(y1:Int×Sm_×Sb_×PUnit) bk1=>let q2_:=inB y1.1 y1.2.1.bg.length;let q1_:=y1.2.1.bg.getD y1.1.toNat default;let q0_:Out:=.ob (Value.string t=Value.string t)<|.ob (bk1 (w1 y1.1,(y1.2.1,(y1.2.2.1,()))))<|.ok;.br (decide (y1.1<(y1.2.1.bg.length:Int))) (.ob q2_<|.br (q1_.top.toList==t.toList) (.ob q2_<|.br (q1_.to.host==y1.2.2.1.host&&(q1_.to.path==y1.2.2.1.path&&true)) (.lf fFindEntry (y1.1,())) q0_) q0_) (.lf fFindEntry ((-1:Int),()))) ?_;refine Aj ?_ λ(y1:Int×Sm_×Sb_×PUnit) i1=>Ab (λh2=>Aa ?_ λ_=>Ab (λh4=>Aa ?_ λ_=>Ab (λh6=>lfY ?_) (λh6=>Aa rfl λ_=>Aa ?_ λ_=>trivial)) (λh4=>Aa rfl λ_=>Aa ?_ λ_=>trivial)) (λh2=>lfY ?_)
 all_goals
  try simp only[Dj] at *
  try simp only[Da,fFindEntry,std,Nat.reduceAdd,fidx] at *
  try simp(disch:=omega) only[wrapId',toNat1] at *
  try simp(disch:=omega) only[Qa1,Qa4]
 all_goals first|trivial|omega|grind[wrapId',toNat1,drop_cons,drop_end,good_len,maxLen,fidx])
def fEntryAt1:Fct:=⟨[.v (.el .entry),.p (.el .str),.p (.el .addr)],[.el .bool],λ(x_:Sq_×ByteArray×Sb_×Unit)=>True,λ(x_:Sq_×ByteArray×Sb_×Unit)=>(decide (x_.1.top=x_.2.1)&&decide (x_.1.to=x_.2.2.1),())⟩
def AnK:=AmX.a fEntryAt1<|Fct.o [1,2,3,4] AmX.2 func394 (by
 rintro⟨(e:Sq_),(t:ByteArray),(a:Sb_),_⟩ hp;refine ho (.br (e.top.toList==ByteArray.toList t) (.lf fEntryAt1 (e.to.host==a.host&&(e.to.path==a.path&&true),())) (.lf fEntryAt1 (false,()))) ?_;refine Ab (λh1=>lfY ?_) (λh1=>lfY ?_);all_goals
  try simp only[Dj] at *
  try simp only[fEntryAt1,std,Nat.reduceAdd] at *
  try simp(disch:=omega) only[wrapId',toNat1] at *
  try simp(disch:=omega) only[Qa1,Qa4]
 all_goals first|trivial|omega|grind[wrapId',toNat1,drop_cons,drop_end,good_len,maxLen])
def AO:Fct:=⟨[aL .entry,.c 394 [.el .str,.el .addr]],[rI],λx=>x.1.length<=1000000000000000000/\∀ c,fEntryAt1.pre (c,x.2.1),λx=>(fidx (λc=>(fEntryAt1.fn (c,x.2.1)).1) x.1 0,())⟩
abbrev Ao (l:(List Sq_)) (u:(ByteArray×Sb_×Unit)):LInv:=⟨[⟨.s,8,true,.el .int⟩],λ_ (x_:Int×Unit)=>0<=x_.1/\x_.1<=l.length/\fidx (λc=>(fEntryAt1.fn (c,u)).1) l 0=fidx (λc=>(fEntryAt1.fn (c,u)).1) (l.drop x_.1.toNat) x_.1,λ(x_:Int×Unit)=>l.length-x_.1.toNat⟩
def Aoc:=AnK.a AO<|Fct.p (KP [0,1,4,5,7,8] [9,16]) (λ⟨l,u,_⟩=>lv [(2,Ao l u)]) AnK.2 func257 (by
 rintro⟨(l:List Sq_),(u:ByteArray×Sb_×PUnit),_⟩ hp;refine ho (lpx (Ao l u) ((0:Int),()) λ(y1:Int×PUnit) bk1=>.br (decide (y1.1<(l.length:Int))) (.ob (inB y1.1 l.length)<|.cl fEntryAt1 (l.getD y1.1.toNat default,u.1,u.2.1,()) λz2=>.br (z2.1) (.lf AO (y1.1,())) (.ob (l=l)<|.ob (enc Ty.str u.1=enc Ty.str u.1)<|.ob (enc Ty.addr u.2.1=enc Ty.addr u.2.1)<|.ob (Value.int IntKind.i64 (l.length:Int)=Value.int IntKind.i64 (l.length:Int))<|.ob (bk1 (w1 y1.1,()))<|.ok)) (.lf AO ((-1:Int),()))) ?_;refine Aj ?_ λ(y1:Int×PUnit) i1=>Ab (λh2=>Aa ?_ λ_=>Af trivial λ_=>(Ab (λh4=>lfY ?_) (λh4=>Aa rfl λ_=>Aa rfl λ_=>Aa rfl λ_=>Aa rfl λ_=>Aa ?_ λ_=>trivial))) (λh2=>lfY ?_)
 all_goals
  try simp only[Ao,fEntryAt1,AO,std,Nat.reduceAdd] at *
  try have hp2:=hp.2
  try have hp1:=hp.1
 all_goals first|trivial|omega|grind[wrapId',toNat1,drop_cons,drop_end,good_len,maxLen,fidx])
def AoU:=Aoc.a fFindEntry<|Fct.o [3,4,5,6] Aoc.2 func326 (by
 rintro⟨(c:Sm_),(t:ByteArray),(a:Sb_),_⟩ hp;refine ho (.cl AO (c.bg,(t,a,()),()) λ(z2:Int×PUnit)=>.lf fFindEntry (z2.1,())) ?_;refine Af ?_ λ_=>(lfY ?_)
 all_goals
  try simp only[fFindEntry,AO,std,Nat.reduceAdd,fEntryAt1] at *
  try simp(disch:=omega) only[wrapId',toNat1] at *
  try simp(disch:=omega) only[Qa1,Qa4]
 all_goals first|trivial|omega|grind[wrapId',toNat1,drop_cons,drop_end,good_len,maxLen,fEntryAt1])
def freshEntry (t:ByteArray) (a:Sb_) (now:Int) (e:Sq_):Bool:=decide (e.top=t)&&(decide (e.to=a)&&decide (now<=e.until_))
def lookUp (c:Sm_) (t:ByteArray) (a:Sb_) (now:Int):Option Sd_:=(c.bg.find? (freshEntry t a now)).map (·.bd)
def fLookUp:Fct:=⟨[.v (.el .cache),.v (.el .str),.v (.el .addr),.v (.el .int)],[.el .bd,.el .bool],λ(x_:Sm_×ByteArray×Sb_×Int×Unit)=>x_.1.bg.length<=1000000000000,λ(x_:Sm_×ByteArray×Sb_×Int×Unit)=>((lookUp x_.1 x_.2.1 x_.2.2.1 x_.2.2.2.1).getD notFound,(lookUp x_.1 x_.2.1 x_.2.2.1 x_.2.2.2.1).isSome,())⟩
def LV {α:Type} [Inhabited α] (p:α->Bool):∀ (l:List α) (i:Int),0<=i->l.find? p=if 0<=fidx p l i then some (l.getD (fidx p l i-i).toNat default) else none:=by
 intro l
 induction l with
 | nil=>intro i _;simp[fidx]
 | cons x l ih=>
  intro i hi;simp only[List.find?_cons,fidx];by_cases hx:p x=true
  ·simp[hx,hi]
  ·
   have hx:p x=false:=by simpa using hx
   have h1:=EW p l (i+1) o_;have h2:=ih (i+1) o_;simp only[hx,Qd3,Qe7,h2];split
   ·rename_i h3;have h4:i+1<=fidx p l (i+1):=by
     have:∀ (l:List α) (i:Int),0<=i->0<=fidx p l i->i<=fidx p l i:=by
      intro l
      induction l with
      | nil=>intro i _ h;simp[fidx] at h
      | cons y l ih=>
       intro i hi h;simp only[fidx] at h ⊢;split
       ·omega
       ·grind
     grind
    have h5:(fidx p l (i+1)-i).toNat=(fidx p l (i+1)-(i+1)).toNat+1:=o_
    rw[h5];rfl
   ·rfl
abbrev CY (c:Sm_) (t:ByteArray) (a:Sb_) (now:Int):LInv:=⟨[⟨.s,10,true,.el .int⟩,⟨.b,4,false,.el .cache⟩,⟨.b,6,true,.el .addr⟩,⟨.b,8,true,.el .bd⟩],λ(z_ x_:Int×Sm_×Sb_×Sd_×Unit)=>(((0<=x_.1/\x_.1<=c.bg.length/\(c.bg.drop x_.1.toNat).find? (freshEntry t a now)=c.bg.find? (freshEntry t a now))/\x_.2.1=z_.2.1)/\x_.2.2.1=z_.2.2.1)/\x_.2.2.2.1=z_.2.2.2.1,λ(x_:Int×Sm_×Sb_×Sd_×Unit)=>c.bg.length-x_.1.toNat⟩
def Aph:=AoU.a fLookUp<|Fct.p (KP [1,3,4,6,8,9,10] [15,45]) (λ⟨c,t,a,now,_⟩=>lv [(2,CY c t a now)]) AoU.2 func163 (by
 rintro⟨(c:Sm_),(t:ByteArray),(a:Sb_),(now:Int),_⟩ hp;refine ho (lpx (CY c t a now) ((0:Int),(c,(a,(default,())))) λ(y1:Int×Sm_×Sb_×Sd_×PUnit) bk1=>let q2_:=inB y1.1 y1.2.1.bg.length;let q1_:=y1.2.1.bg.getD y1.1.toNat default;let q0_:Out:=.ob (Value.string t=Value.string t)<|.ob (Value.int IntKind.i64 now=Value.int IntKind.i64 now)<|.ob (bk1 (w1 y1.1,(y1.2.1,(y1.2.2.1,(y1.2.2.2.1,())))))<|.ok;.br (decide (y1.1<(y1.2.1.bg.length:Int))) (.ob q2_<|.br (q1_.top.toList==t.toList) (.ob q2_<|.br (q1_.to.host==y1.2.2.1.host&&(q1_.to.path==y1.2.2.1.path&&true)) (.ob q2_<|.br (decide (q1_.until_>=now)) (.ob q2_<|.lf fLookUp (q1_.bd,true,())) q0_) q0_) q0_) (.cl fNotFound () λz2=>.lf fLookUp (z2.1,false,()))) ?_;repeat' first|(guard_target =~ Out.holds _ _;first|refine Aj (li:=CY c t a now) ?_ λ(y1:Int×Sm_×Sb_×Sd_×PUnit) i1=>?_|refine lfY ?_|refine Ab (λ_=>?_) λ_=>?_|refine Af ?_ λ_=>?_|refine Aa ?_ λ_=>?_)|exact trivial
 all_goals
  try simp only[Dj] at *
  try simp only[CY,fLookUp,fNotFound,std,Nat.reduceAdd,lookUp,freshEntry] at *
  try simp(disch:=omega) only[wrapId',toNat1] at *
  try simp(disch:=omega) only[Qa1,Qa4]
 all_goals first|trivial|omega|grind[wrapId',toNat1,drop_cons,drop_end,good_len,maxLen,lookUp,freshEntry,fNotFound])
def fLookUp1:Fct:=⟨[.v (.el .entry),.p (.el .str),.p (.el .addr),.p (.el .int)],[.el .bool],λ(x_:Sq_×ByteArray×Sb_×Int×Unit)=>True,λ(x_:Sq_×ByteArray×Sb_×Int×Unit)=>(freshEntry x_.2.1 x_.2.2.1 x_.2.2.2.1 x_.1,())⟩
def Ani:=Aph.a fLookUp1<|Fct.o [1,2,3,4,5] Aph.2 func258 (by
 rintro⟨(e:Sq_),(t:ByteArray),(a:Sb_),(now:Int),_⟩ hp;refine ho (.br (e.top.toList==ByteArray.toList t) (.br (e.to.host==a.host&&(e.to.path==a.path&&true)) (.lf fLookUp1 (decide (e.until_>=now),())) (.lf fLookUp1 (false,()))) (.lf fLookUp1 (false,()))) ?_;refine Ab (λh1=>Ab (λh2=>lfY ?_) (λh2=>lfY ?_)) (λh1=>lfY ?_);all_goals
  try simp only[Dj] at *
  try simp only[fLookUp1,std,Nat.reduceAdd,freshEntry] at *
  try simp(disch:=omega) only[wrapId',toNat1] at *
  try simp(disch:=omega) only[Qa1,Qa4]
 all_goals first|trivial|omega|grind[wrapId',toNat1,drop_cons,drop_end,good_len,maxLen,freshEntry])
def AS:Fct:=⟨[aL .entry,.c 258 [.el .str,.el .addr,.el .int]],[rI],λx=>x.1.length<=1000000000000000000/\∀ c,fLookUp1.pre (c,x.2.1),λx=>(fidx (λc=>(fLookUp1.fn (c,x.2.1)).1) x.1 0,())⟩
abbrev Aq (l:(List Sq_)) (u:(ByteArray×Sb_×Int×Unit)):LInv:=⟨[⟨.s,8,true,.el .int⟩],λ_ (x_:Int×Unit)=>0<=x_.1/\x_.1<=l.length/\fidx (λc=>(fLookUp1.fn (c,u)).1) l 0=fidx (λc=>(fLookUp1.fn (c,u)).1) (l.drop x_.1.toNat) x_.1,λ(x_:Int×Unit)=>l.length-x_.1.toNat⟩
def Akp:=Ani.a AS<|Fct.p (KP [0,1,4,5,7,8] [9,16]) (λ⟨l,u,_⟩=>lv [(2,Aq l u)]) Ani.2 func257 (by
 rintro⟨(l:List Sq_),(u:ByteArray×Sb_×Int×PUnit),_⟩ hp;refine ho (lpx (Aq l u) ((0:Int),()) λ(y1:Int×PUnit) bk1=>.br (decide (y1.1<(l.length:Int))) (.ob (inB y1.1 l.length)<|.cl fLookUp1 (l.getD y1.1.toNat default,u.1,u.2.1,u.2.2.1,()) λz2=>.br (z2.1) (.lf AS (y1.1,())) (.ob (l=l)<|.ob (enc Ty.str u.1=enc Ty.str u.1)<|.ob (enc Ty.addr u.2.1=enc Ty.addr u.2.1)<|.ob (enc Ty.int u.2.2.1=enc Ty.int u.2.2.1)<|.ob (Value.int IntKind.i64 (l.length:Int)=Value.int IntKind.i64 (l.length:Int))<|.ob (bk1 (w1 y1.1,()))<|.ok)) (.lf AS ((-1:Int),()))) ?_;refine Aj ?_ λ(y1:Int×PUnit) i1=>Ab (λh2=>Aa ?_ λ_=>Af trivial λ_=>(Ab (λh4=>lfY ?_) (λh4=>Aa rfl λ_=>Aa rfl λ_=>Aa rfl λ_=>Aa rfl λ_=>Aa rfl λ_=>Aa ?_ λ_=>trivial))) (λh2=>lfY ?_)
 all_goals
  try simp only[Aq,AS,fLookUp1,std,Nat.reduceAdd] at *
  try have hp2:=hp.2
  try have hp1:=hp.1
 all_goals first|trivial|omega|grind[wrapId',toNat1,drop_cons,drop_end,good_len,maxLen,fidx])
def ApD:=Akp.a fLookUp<|Fct.o (KP [4,5,6,7,8,9,10] [16]) Akp.2 func174 (by
 rintro⟨(c:Sm_),(t:ByteArray),(a:Sb_),(now:Int),_⟩ hp;refine ho (.cl AS (c.bg,(t,a,now,()),()) λ(z2:Int×PUnit)=>.br (decide (z2.1<0)) (.cl fNotFound () λz3=>.lf fLookUp (z3.1,false,())) (.ob (inB z2.1 c.bg.length)<|.lf fLookUp ((c.bg.getD z2.1.toNat default).bd,true,()))) ?_;refine Af ?_ λ_=>(Ab (λh2=>Af trivial λ_=>(lfY ?_)) (λh2=>Aa ?_ λ_=>lfY ?_))
 all_goals
  have hf:=EW (freshEntry t a now) c.bg 0 o_;have hf2:=LV (freshEntry t a now) c.bg 0 o_;try simp only[AS,fLookUp,fNotFound,std,Nat.reduceAdd,lookUp,fLookUp1] at *
  try simp(disch:=omega) only[wrapId',toNat1] at *
  try simp(disch:=omega) only[Qa1,Qa4]
 all_goals first|trivial|omega|grind[wrapId',toNat1,drop_cons,drop_end,good_len,maxLen,lookUp,fLookUp1,fNotFound])
def modM (n m:Int):Int:=if 1<=m/\m<=1000000000000 then n.emod m else 0
def Tx:Fct:=⟨[.v (.el .int),.v (.el .int)],[.el .int],λ(x_:Int×Int×Unit)=>-9223372036854775808<=x_.1/\x_.1<=9223372036854775807,λ(x_:Int×Int×Unit)=>(modM x_.1 x_.2.1,())⟩
def N1 {n m:Int} (hm:0<m):(n.tmod m+m).tmod m=n.emod m:=by
 have h1:=Int.tmod_lt_of_pos n hm;have h2 : -m<n.tmod m:=by have:=Int.lt_tmod_of_pos n hm;omega
 rw[Int.tmod_eq_emod_of_nonneg o_];rw[Int.tmod_eq_emod];split
 ·simp;rfl
 ·rw[show n % m-m.natAbs+m=n % m from o_];simp;rfl
def NA {n m:Int} (hm:0<m):(if n.tmod m<0 then n.tmod m+m else n.tmod m)=n.emod m:=by
 have h0:=Int.emod_nonneg n (show m≠0 from o_);have h3:=Int.emod_lt_of_pos n hm;have e0:n.emod m=n % m:=rfl;grind
def ApI:=ApD.a Tx<|Fct.o (KP [0,1,4] [7]) ApD.2 func512 (by
 rintro⟨(n:Int),(m:Int),_⟩ hp;refine ho (.cl fInRange (m,(1:Int),(1000000000000:Int),()) λz2=>.br (!z2.1) (.lf Tx ((0:Int),())) (.ob (m≠(0:Int))<|.ob (m≠(0:Int))<|.lf Tx ((wr (Int.tmod n m+m)).tmod m,()))) ?_;refine Af trivial λ_=>(Ab (λh1=>lfY ?_) (λh1=>Aa ?_ λ_=>Aa ?_ λ_=>lfY ?_))
 all_goals (by_cases hm:1<=m/\m<=1000000000000)
 all_goals
  try have e1:=N1 (n:=n) (m:=m) o_
  try have e2:=NA (n:=n) (m:=m) o_
  try have e3:=Int.tmod_lt_of_pos n (show 0<m from o_)
  try have e4:=Int.lt_tmod_of_pos n (show 0<m from o_)
  try simp only[fInRange,Tx,std,Nat.reduceAdd,inRange,modM] at *
  try simp(disch:=omega) only[wrapId',toNat1] at *
  try simp(disch:=omega) only[Qa1,Qa4]
  try simp only[Qa2,Qe2,Qa9,Qa8] at *
 all_goals first|omega|skip
 all_goals
  try rw[Ag o_]
  try rw[Qa1 hm]
 all_goals first|omega|exact e1|(rw[Qa1 o_] at e2;exact e2)|(rw[Qa4 o_] at e2;exact e2)|(rw[Qa4 hm]))
def AmI:=ApI.a Tx<|Fct.o (KP [0,1,4,5] [8,13]) ApI.2 func518 (by
 rintro⟨(n:Int),(m:Int),_⟩ hp;refine ho (.cl fInRange (m,(1:Int),(1000000000000:Int),()) λz2=>.br (!z2.1) (.lf Tx ((0:Int),())) (.ob (m≠(0:Int))<|.br (decide (Int.tmod n m<0)) (.lf Tx (wr (Int.tmod n m+m),())) (.lf Tx (Int.tmod n m,())))) ?_;refine Af trivial λ_=>(Ab (λh1=>lfY ?_) (λh1=>Aa ?_ λ_=>Ab (λh3=>lfY ?_) (λh3=>lfY ?_)))
 all_goals (by_cases hm:1<=m/\m<=1000000000000)
 all_goals
  try have e1:=N1 (n:=n) (m:=m) o_
  try have e2:=NA (n:=n) (m:=m) o_
  try have e3:=Int.tmod_lt_of_pos n (show 0<m from o_)
  try have e4:=Int.lt_tmod_of_pos n (show 0<m from o_)
  try simp only[fInRange,Tx,std,Nat.reduceAdd,inRange,modM] at *
  try simp(disch:=omega) only[wrapId',toNat1] at *
  try simp(disch:=omega) only[Qa1,Qa4]
  try simp only[Qa2,Qe2,Qa9,Qa8] at *
 all_goals first|omega|skip
 all_goals
  try rw[Ag o_]
  try rw[Qa1 hm]
 all_goals first|omega|exact e1|(rw[Qa1 o_] at e2;exact e2)|(rw[Qa4 o_] at e2;exact e2)|(rw[Qa4 hm]))
def hashI:List Int->Int->Int
 | [],d=>d
 | x::l,d=>hashI l ((d*1000003+modM x 2147483647+13).tmod 2147483647)
def TG {l:List Int} {i:Nat} {d:Int} (h:i<l.length):hashI (l.drop i) d=hashI (l.drop (i+1)) ((d*1000003+modM (l.getD i default) 2147483647+13).tmod 2147483647):=by rw[drop_cons h];rfl
def Rn {l:List Int} {i:Nat} {d:Int} (h:l.length<=i):hashI (l.drop i) d=d:=by rw[Qb2 h];rfl
def Kf (x:Int):0<=modM x 2147483647/\modM x 2147483647<2147483647:=by
 have h0:=Int.emod_nonneg x (show(2147483647:Int)≠0 from o_);have h3:=Int.emod_lt_of_pos x (show(0:Int)<2147483647 from o_);have e0:modM x 2147483647=x % 2147483647:=rfl;omega
def Kc {x:Int} (h:0<=x):0<=x.tmod 2147483647/\x.tmod 2147483647<2147483647:=by
 grind
def OL:Fct:=⟨[.v (.sl .int)],[.el .int],λ(x_:(List Int)×Unit)=>x_.1.length<=1000000000000/\∀ i,i<x_.1.length->-9223372036854775808<=x_.1.getD i default/\x_.1.getD i default<=9223372036854775807,λ(x_:(List Int)×Unit)=>(hashI x_.1 11,())⟩
abbrev Es (l:(List Int)):LInv:=⟨[⟨.s,3,true,.el .int⟩,⟨.s,4,true,.el .int⟩],λ_ (x_:Int×Int×Unit)=>0<=x_.2.1/\x_.2.1<=l.length/\0<=x_.1/\x_.1<2147483647/\hashI (l.drop x_.2.1.toNat) x_.1=hashI l 11,λ(x_:Int×Int×Unit)=>l.length-x_.2.1.toNat⟩
def AmO:=AmI.a OL<|Fct.p (KP [0,2,3,4] [8]) (λ⟨l,_⟩=>lv [(3,Es l)]) AmI.2 func501 (by
 rintro⟨(l:List Int),_⟩ hp;refine ho (lpx (Es l) ((11:Int),((0:Int),())) λ(y1:Int×Int×PUnit) bk1=>.br (decide (y1.2.1<(l.length:Int))) (.ob (inB y1.2.1 l.length)<|.cl Tx (l.getD y1.2.1.toNat default,(2147483647:Int),()) λ(z2:Int×PUnit)=>.ob ((2147483647:Int)≠(0:Int))<|.ob (l=l)<|.ob (Value.int IntKind.i64 0=Value.int IntKind.i64 (0:Int))<|.ob (bk1 ((wr (wr (wr (y1.1*(1000003:Int))+z2.1)+13)).tmod (2147483647:Int),(w1 y1.2.1,())))<|.ok) (.lf OL (y1.1,()))) ?_;refine Aj ?_ λ(y1:Int×Int×PUnit) i1=>Ab (λh2=>Aa ?_ λ_=>Af ?_ λ_=>(Aa ?_ λ_=>Aa rfl λ_=>Aa rfl λ_=>Aa ?_ λ_=>trivial)) (λh2=>lfY ?_)
 all_goals try simp only[Es,OL,Tx,std,Nat.reduceAdd] at *
 all_goals obtain⟨hp1,hp2⟩:=hp
 all_goals try (obtain⟨a1,a2,a3,a4,a5⟩:=i1)
 all_goals try (have hm:=Kf (l.getD y1.2.1.toNat default);have ht:=Kc (x:=y1.1*1000003+modM (l.getD y1.2.1.toNat default) 2147483647+13) o_)
 all_goals try simp(disch:=omega) only[wrapId',toNat1] at *
 all_goals first|trivial|omega|exact⟨o_,o_,o_,o_,rfl⟩|exact hp2 _ o_|skip
 ·rw[TG o_] at a5;exact⟨⟨o_,o_,ht.1,ht.2,a5⟩,o_⟩
 ·rw[Rn o_] at a5;exact a5)
abbrev Ev (l:(List Int)):LInv:=⟨[⟨.s,3,true,.el .int⟩,⟨.s,8,true,.el .int⟩],λ_ (x_:Int×Int×Unit)=>0<=x_.2.1/\x_.2.1<=l.length/\0<=x_.1/\x_.1<2147483647/\hashI (l.drop x_.2.1.toNat) x_.1=hashI l 11,λ(x_:Int×Int×Unit)=>l.length-x_.2.1.toNat⟩
def AnP:=AmO.a OL<|Fct.p (KP [0,2,3,5,6,7,8] [9]) (λ⟨l,_⟩=>lv [(3,Ev l)]) AmO.2 func507 (by
 rintro⟨(l:List Int),_⟩ hp;refine ho (lpx (Ev l) ((11:Int),((0:Int),())) λ(y1:Int×Int×PUnit) bk1=>.br (decide (y1.2.1<(l.length:Int))) (.ob (inB y1.2.1 l.length)<|.cl Tx (l.getD y1.2.1.toNat default,(2147483647:Int),()) λ(z2:Int×PUnit)=>.ob ((2147483647:Int)≠(0:Int))<|.ob (l=l)<|.ob (Value.int IntKind.i64 0=Value.int IntKind.i64 (0:Int))<|.ob (l=l)<|.ob (Value.int IntKind.i64 (l.length:Int)=Value.int IntKind.i64 (l.length:Int))<|.ob (bk1 ((wr (wr (wr (y1.1*(1000003:Int))+z2.1)+13)).tmod (2147483647:Int),(w1 y1.2.1,())))<|.ok) (.lf OL (y1.1,()))) ?_;refine Aj ?_ λ(y1:Int×Int×PUnit) i1=>Ab (λh2=>Aa ?_ λ_=>Af ?_ λ_=>(Aa ?_ λ_=>Aa rfl λ_=>Aa rfl λ_=>Aa rfl λ_=>Aa rfl λ_=>Aa ?_ λ_=>trivial)) (λh2=>lfY ?_)
 all_goals try simp only[Ev,OL,Tx,std,Nat.reduceAdd] at *
 all_goals obtain⟨hp1,hp2⟩:=hp
 all_goals try (obtain⟨a1,a2,a3,a4,a5⟩:=i1)
 all_goals try (have hm:=Kf (l.getD y1.2.1.toNat default);have ht:=Kc (x:=y1.1*1000003+modM (l.getD y1.2.1.toNat default) 2147483647+13) o_)
 all_goals try simp(disch:=omega) only[wrapId',toNat1] at *
 all_goals first|trivial|omega|exact⟨o_,o_,o_,o_,rfl⟩|exact hp2 _ o_|skip
 ·rw[TG o_] at a5;exact⟨⟨o_,o_,ht.1,ht.2,a5⟩,o_⟩
 ·rw[Rn o_] at a5;exact a5)
def bti (b l:List Int):List Int:=(b.length:Int)::l
def Dp:Fct:=⟨[.v (.sl .u8)],[.sl .int],λ(x_:(List Int)×Unit)=>x_.1.length<=68719476736/\∀ i,i<x_.1.length->0<=x_.1.getD i default/\x_.1.getD i default<=255,λ(x_:(List Int)×Unit)=>(bti x_.1 x_.1,())⟩
abbrev BT (b:(List Int)):LInv:=⟨[⟨.s,3,true,.sl .int⟩,⟨.s,4,true,.el .int⟩],λ_ (x_:(List Int)×Int×Unit)=>0<=x_.2.1/\x_.2.1<=b.length/\x_.1=bti b (b.take x_.2.1.toNat),λ(x_:(List Int)×Int×Unit)=>b.length-x_.2.1.toNat⟩
def Am7:=AnP.a Dp<|Fct.p (KP [0,2,3,4] [11]) (λ⟨b,_⟩=>lv [(3,BT b)]) AnP.2 func502 (by
 rintro⟨(b:List Int),_⟩ hp;refine ho (lpx (BT b) ([(b.length:Int)],((0:Int),())) λ(y1:List Int×Int×PUnit) bk1=>.br (decide (y1.2.1<(b.length:Int))) (.ob (inB y1.2.1 b.length)<|.ob (True)<|.ob (Bx (y1.1.length+[wr (b.getD y1.2.1.toNat default)].length) 8)<|.ob (b=b)<|.ob (bk1 (y1.1++[wr (b.getD y1.2.1.toNat default)],(w1 y1.2.1,())))<|.ok) (.lf Dp (y1.1,()))) ?_;refine Aj ?_ λ(y1:List Int×Int×PUnit) i1=>Ab (λh2=>Aa ?_ λ_=>Aa trivial λ_=>Aa ?_ λ_=>Aa rfl λ_=>Aa ?_ λ_=>trivial) (λh2=>lfY ?_)
 all_goals
  try simp only[BT,Dp,std,Nat.reduceAdd,take_succ,take_end,bti] at *
  try simp(disch:=omega) only[wrapId',toNat1] at *
  try simp(disch:=omega) only[Qa1,Qa4]
 all_goals first|trivial|omega|grind[wrapId',toNat1,drop_cons,drop_end,good_len,maxLen,take_succ,take_end,bti])
abbrev BW (b:(List Int)):LInv:=⟨[⟨.s,3,true,.sl .int⟩,⟨.s,11,true,.el .int⟩],λ_ (x_:(List Int)×Int×Unit)=>0<=x_.2.1/\x_.2.1<=b.length/\x_.1=bti b (b.take x_.2.1.toNat),λ(x_:(List Int)×Int×Unit)=>b.length-x_.2.1.toNat⟩
def ApC:=Am7.a Dp<|Fct.p (KP [0,2,3,5,9,10,11] [12]) (λ⟨b,_⟩=>lv [(3,BW b)]) Am7.2 func508 (by
 rintro⟨(b:List Int),_⟩ hp;refine ho (lpx (BW b) ([(b.length:Int)],((0:Int),())) λ(y1:List Int×Int×PUnit) bk1=>.br (decide (y1.2.1<(b.length:Int))) (.ob (inB y1.2.1 b.length)<|.ob (True)<|.ob (Bx (y1.1.length+[wr (b.getD y1.2.1.toNat default)].length) 8)<|.ob (b=b)<|.ob (b=b)<|.ob (Value.int IntKind.i64 (b.length:Int)=Value.int IntKind.i64 (b.length:Int))<|.ob (bk1 (y1.1++[wr (b.getD y1.2.1.toNat default)],(w1 y1.2.1,())))<|.ok) (.lf Dp (y1.1,()))) ?_;refine Aj ?_ λ(y1:List Int×Int×PUnit) i1=>Ab (λh2=>Aa ?_ λ_=>Aa trivial λ_=>Aa ?_ λ_=>Aa rfl λ_=>Aa rfl λ_=>Aa rfl λ_=>Aa ?_ λ_=>trivial) (λh2=>lfY ?_)
 all_goals
  try simp only[BW,Dp,std,Nat.reduceAdd,take_succ,take_end,bti] at *
  try simp(disch:=omega) only[wrapId',toNat1] at *
  try simp(disch:=omega) only[Qa1,Qa4]
 all_goals first|trivial|omega|grind[wrapId',toNat1,drop_cons,drop_end,good_len,maxLen,take_succ,take_end,bti])
def fFormatInt:Fct:=⟨[.v (.el .int)],[.el .str],λ(x_:Int×Unit)=>-9223372036854775808<=x_.1/\x_.1<=9223372036854775807,λ(x_:Int×Unit)=>(Is x_.1,())⟩
abbrev CI (n:Int):LInv:=⟨[⟨.s,3,true,.el .str⟩,⟨.s,4,true,.el .int⟩],λ_ (x_:ByteArray×Int×Unit)=>n≠0/\-9223372036854775808<=x_.2.1/\x_.2.1<=9223372036854775807/\(x_.2.1:Int).natAbs+4*x_.1.size<=n.natAbs+(if x_.2.1=0 then 4 else 0)/\Abq (x_.2.1:Int).natAbs x_.1=Abq n.natAbs ⟨#[]⟩,λ(x_:ByteArray×Int×Unit)=>(x_.2.1:Int).natAbs⟩
def Ap8:=ApC.a fFormatInt<|Fct.p (KP [0,2,3,4,5] [7,10,16,27]) (λ⟨n,_⟩=>lv [(5,CI n)]) ApC.2 func467 (by
 rintro⟨(n:Int),_⟩ hp;refine ho (let q5_:=(⟨#[45]⟩:ByteArray);let q2_:=(10:Int)≠(0:Int);let q0_:=(⟨#[]⟩:ByteArray);let q4_:=Value.string q0_=Value.string q0_;.br (n==0) (.lf fFormatInt ((⟨#[48]⟩:ByteArray),())) (lpx (CI n) (q0_,(n,())) λ(y2:ByteArray×Int×PUnit) bk2=>let q6_:=y2.2.1.tdiv (10:Int);let q3_:=wr ((48:Int)+y2.2.1.tmod (10:Int));let q1_:=wr ((48:Int)+wr ((0:Int)-y2.2.1.tmod (10:Int)));.br (y2.2.1 != 0) (.ob q2_<|.br (decide (y2.2.1.tmod (10:Int)<(0:Int))) (.ob (True)<|.ob (sameSize (List.foldl (λr n=>r.push (UInt8.ofNat n.toNat)) ByteArray.empty [IntKind.u8.wrap q1_]) y2.1)<|.ob q2_<|.ob (Value.int IntKind.i64 n=Value.int IntKind.i64 n)<|.ob q4_<|.ob (bk2 (List.foldl (λr n=>r.push (UInt8.ofNat n.toNat)) ByteArray.empty [IntKind.u8.wrap q1_]++y2.1,(wr q6_,())))<|.ok) (.ob (True)<|.ob (sameSize (List.foldl (λr n=>r.push (UInt8.ofNat n.toNat)) ByteArray.empty [IntKind.u8.wrap q3_]) y2.1)<|.ob q2_<|.ob (Value.int IntKind.i64 n=Value.int IntKind.i64 n)<|.ob q4_<|.ob (bk2 (List.foldl (λr n=>r.push (UInt8.ofNat n.toNat)) ByteArray.empty [IntKind.u8.wrap q3_]++y2.1,(wr q6_,())))<|.ok)) (.br (decide (n<0)) (.ob (sameSize q5_ y2.1)<|.lf fFormatInt (q5_++y2.1,())) (.lf fFormatInt (y2.1,()))))) ?_;refine Ab (λh1=>lfY ?_) (λh1=>Aj ?_ λ(y2:ByteArray×Int×PUnit) i2=>Ab (λh3=>Aa ?_ λ_=>Ab (λh5=>Aa trivial λ_=>Aa ?_ λ_=>Aa ?_ λ_=>Aa rfl λ_=>Aa rfl λ_=>Aa ?_ λ_=>trivial) (λh5=>Aa trivial λ_=>Aa ?_ λ_=>Aa ?_ λ_=>Aa rfl λ_=>Aa rfl λ_=>Aa ?_ λ_=>trivial)) (λh3=>Ab (λh12=>Aa ?_ λ_=>lfY ?_) (λh12=>lfY ?_)));all_goals try (have hk:=Nat.mod_lt y2.2.1.natAbs (show 0<10 from o_);have ht:=Adc y2.2.1)
 all_goals try (have hv:=Acq y2.2.1)
 all_goals try simp only[CI,fFormatInt,std,Nat.reduceAdd] at *
 all_goals first|trivial|omega|skip
 all_goals try (obtain⟨a1,a2,a3,a4,a5⟩:=i2)
 all_goals first|trivial|omega|skip
 all_goals
  try simp only[h5,Qf0,Qe7] at ht
  try rw[Qa4 o_] at ht
 all_goals try (rw[Ag (n:=0-_) o_,show(0:Int)-y2.2.1.tmod 10=((y2.2.1.natAbs % 10:Nat):Int) from o_,Ant hk,Zm hk] at *)
 all_goals try (rw[ht,Ant hk,Zm hk] at *)
 all_goals try rw[Qa4 h3] at a4
 all_goals try (have e1:IntKind.i64.wrap (y2.2.1.tdiv 10)=y2.2.1.tdiv 10:=Ag o_;rw[e1])
 ·rw[h1,X0]
 ·unfold sameSize;rw[show ByteArray.size ⟨#[UInt8.ofNat (48+y2.2.1.natAbs % 10)]⟩=1 from rfl];omega
 ·rw[QE o_] at a5;rw[hv,Qb3,show ByteArray.size ⟨#[UInt8.ofNat (48+y2.2.1.natAbs % 10)]⟩=1 from rfl];exact⟨⟨h1,o_,o_,by split<;>omega,a5⟩,o_⟩
 ·unfold sameSize;rw[show ByteArray.size ⟨#[UInt8.ofNat (48+y2.2.1.natAbs % 10)]⟩=1 from rfl];omega
 ·rw[QE o_] at a5;have hv':((y2.2.1.natAbs:Nat):Int)=y2.2.1.natAbs:=rfl;rw[hv,Qb3,show ByteArray.size ⟨#[UInt8.ofNat (48+y2.2.1.natAbs % 10)]⟩=1 from rfl];exact⟨⟨h1,o_,o_,by split<;>omega,a5⟩,o_⟩
 ·unfold sameSize;rw[show ByteArray.size ⟨#[45]⟩=1 from rfl];rw[Qa1 h3] at a4;omega
 ·rw[h3] at a5;rw[Ab2 h12,<-a5];rfl
 ·rw[h3] at a5;rw[AbX o_,<-a5];rfl)
def UZ:Go.Proofs.LaysM.n171 Tryz.prog laysCmp_r:=by repeat' first|kernel_rfl|constructor|intro _
def Amy:=Ap8.a fItoa<|Ahp k_ (Go.Proofs.Any.strconv_Itoa UZ)
def AlS:=Amy.a fFormatInt<|Fct.o [0,2] Amy.2 func483 (by
 rintro⟨(n:Int),_⟩ hp;refine ho (.cl fItoa (n,()) λz2=>.lf fFormatInt (z2.1,())) ?_;refine Af ?_ λ_=>(lfY ?_)
 all_goals
  try simp only[fFormatInt,fItoa,std,Nat.reduceAdd] at *
  try simp(disch:=omega) only[wrapId',toNat1] at *
  try simp(disch:=omega) only[Qa1,Qa4]
 all_goals first|trivial|omega|grind[wrapId',toNat1,drop_cons,drop_end,good_len,maxLen,fItoa])
def A8 {α:Type} [Inhabited α] {l:List α} {i:Nat} (h:i<l.length):l.getD i default∈l:=by
 simp_all
def Cj {s:ByteArray} (h:isName s=true):s.size<=8:=by
 simp only[isName,Qa2,Qa9] at h;omega
def words9:ByteArray->List ByteArray->ByteArray
 | w,[]=>w
 | w,x::l=>words9 (w++⟨#[32]⟩++x) l
theorem words9_at {w:ByteArray} {l:List ByteArray} {i:Nat} (h:i<l.length):words9 w (l.drop i)=words9 (w++⟨#[32]⟩++l.getD i default) (l.drop (i+1)):=by rw[drop_cons h];rfl
theorem words9_end {w:ByteArray} {l:List ByteArray} {i:Nat} (h:l.length<=i):words9 w (l.drop i)=w:=by rw[Qb2 h];rfl
def GR:∀ (l:List ByteArray) (w:ByteArray),l.all isName=true->(words9 w l).size<=w.size+9*l.length:=by
 intro l
 induction l with
 | nil=>intro w _;simp[words9]
 | cons x l ih=>
  intro w h;simp only[List.all_cons,Qa2] at h;have h1:=Cj h.1;have h2:=ih (w++⟨#[32]⟩++x) h.2;simp only[words9,Qa6];rw[Qb3,Qb3,show ByteArray.size ⟨#[32]⟩=1 from rfl] at h2;omega
def HG:Fct:=⟨[.v (.el .str),.v (.sl .str)],[.el .str],λ(x_:ByteArray×(List ByteArray)×Unit)=>x_.1.size<=100/\x_.2.1.length<=4/\x_.2.1.all isName=true,λ(x_:ByteArray×(List ByteArray)×Unit)=>(words9 x_.1 x_.2.1,())⟩
abbrev DO (w:ByteArray) (l:(List ByteArray)):LInv:=⟨[⟨.s,0,true,.el .str⟩,⟨.s,5,true,.el .int⟩],λ_ (x_:ByteArray×Int×Unit)=>0<=x_.2.1/\x_.2.1<=l.length/\x_.1.size<=100+9*x_.2.1/\words9 x_.1 (l.drop x_.2.1.toNat)=words9 w l,λ(x_:ByteArray×Int×Unit)=>l.length-x_.2.1.toNat⟩
def Apw:=AlS.a HG<|Fct.p (KP [0,1,4,5] [9]) (λ⟨w,l,_⟩=>lv [(2,DO w l)]) AlS.2 func321 (by
 rintro⟨(w:ByteArray),(l:List ByteArray),_⟩ hp;refine ho (lpx (DO w l) (w,((0:Int),())) λ(y1:ByteArray×Int×PUnit) bk1=>.br (decide (y1.2.1<(l.length:Int))) (.ob (sameSize y1.1 (⟨#[32]⟩:ByteArray))<|.ob (inB y1.2.1 l.length)<|.ob (sameSize (y1.1++(⟨#[32]⟩:ByteArray)) (l.getD y1.2.1.toNat default))<|.ob (l=l)<|.ob (Value.string (⟨#[]⟩:ByteArray)=Value.string (⟨#[]⟩:ByteArray))<|.ob (bk1 (y1.1++(⟨#[32]⟩:ByteArray)++l.getD y1.2.1.toNat default,(w1 y1.2.1,())))<|.ok) (.lf HG (y1.1,()))) ?_;refine Aj ?_ λ(y1:ByteArray×Int×PUnit) i1=>Ab (λh2=>Aa ?_ λ_=>Aa ?_ λ_=>Aa ?_ λ_=>Aa rfl λ_=>Aa rfl λ_=>Aa ?_ λ_=>trivial) (λh2=>lfY ?_)
 all_goals
  have hg:∀ i,i<l.length->(l.getD i default).size<=8:=λi h=>Cj (Qc3.1 hp.2.2 _ (A8 h))
  try simp only[DO,HG,std,Nat.reduceAdd,words9_at,words9_end,sameSize,Qb3] at *
  try simp(disch:=omega) only[wrapId',toNat1] at *
  try simp(disch:=omega) only[Qa1,Qa4]
 all_goals first|trivial|omega|grind[wrapId',toNat1,good_len,maxLen,words9_at,words9_end,sameSize,ByteArray.size_append])
def formatPolicy (p:Si_):ByteArray:=if isPolicy p&&p.set_ then(if p.nonce=⟨#[]⟩ then words9 ⟨#[115,99,114,105,112,116]⟩ p.bp++⟨#[59]⟩++words9 ⟨#[115,116,121,108,101]⟩ p.styles++⟨#[59]⟩++words9 ⟨#[105,109,103]⟩ p.images else words9 ⟨#[115,99,114,105,112,116]⟩ p.bp++⟨#[59]⟩++words9 ⟨#[115,116,121,108,101]⟩ p.styles++⟨#[59]⟩++words9 ⟨#[105,109,103]⟩ p.images++⟨#[59,110,111,110,99,101,32]⟩++p.nonce) else⟨#[]⟩
def F5 {p:Si_} (h:isPolicy p=true) (hs:p.set_=true):p.bp.all isName=true/\p.bp.length<=4/\p.styles.all isName=true/\p.styles.length<=4/\p.images.all isName=true/\p.images.length<=4/\p.nonce.size<=20:=by
 simp only[isPolicy,hs,Qf0,Qa2,Qg2,Qa9] at h;obtain⟨⟨⟨⟨a1,a2⟩,a3,a4⟩,a5,a6⟩,a7⟩:=h;refine⟨a1,a2,a3,a4,a5,a6,?_⟩;rcases a7 with h|h
 ·rw[h];exact Nat.zero_le _
 ·simp only[isValue,Qa2,Qa9] at h;omega
def Gt {l:List ByteArray} {w:ByteArray} (h:l.all isName=true) (hl:l.length<=4) (hw:w.size<=6):(words9 w l).size<=42:=by
 have:=GR l w h;omega
def AI:Fct:=⟨[.v (.el .bj)],[.el .str],λ(x_:Si_×Unit)=>szPolicy x_.1<=1099511627776,λ(x_:Si_×Unit)=>(formatPolicy x_.1,())⟩
def Akq:=Apw.a AI<|Fct.o (KP [1,2,3] [11,27]) Apw.2 func254 (by
 rintro⟨(p:Si_),_⟩ hp;refine ho (let q3_:=(⟨#[]⟩:ByteArray);let q2_:Out:=.lf AI (q3_,());let q1_:=(⟨#[59,110,111,110,99,101,32]⟩:ByteArray);let q0_:=(⟨#[59]⟩:ByteArray);.cl BN (p,()) λz2=>.br (!z2.1) q2_ (.br (!p.set_) q2_ (.cl HG ((⟨#[115,99,114,105,112,116]⟩:ByteArray),p.bp,()) λz3=>.ob (sameSize z3.1 q0_)<|.cl HG ((⟨#[115,116,121,108,101]⟩:ByteArray),p.styles,()) λz4=>.ob (sameSize (z3.1++q0_) z4.1)<|.ob (sameSize (z3.1++q0_++z4.1) q0_)<|.cl HG ((⟨#[105,109,103]⟩:ByteArray),p.images,()) λz5=>.ob (sameSize (z3.1++q0_++z4.1++q0_) z5.1)<|.br (!p.nonce.toList==q3_.toList) (.ob (sameSize (z3.1++q0_++z4.1++q0_++z5.1) q1_)<|.ob (sameSize (z3.1++q0_++z4.1++q0_++z5.1++q1_) p.nonce)<|.lf AI (z3.1++q0_++z4.1++q0_++z5.1++q1_++p.nonce,())) (.lf AI (z3.1++q0_++z4.1++q0_++z5.1,()))))) ?_;repeat' (guard_target =~ Out.holds _ _;first|refine lfY ?_|refine Ab (λ_=>?_) λ_=>?_|refine Af ?_ λ_=>?_|refine Aa ?_ λ_=>?_)
 all_goals try simp only[AI,BN,HG,std,Nat.reduceAdd] at *
 all_goals first|trivial|omega|skip
 all_goals try (have hA:isPolicy p=true:=‹_›;have hB:p.set_=true:=‹_›;obtain⟨a1,a2,a3,a4,a5,a6,a7⟩:=F5 hA hB)
 all_goals
  try have b1:=Gt (w:=⟨#[115,99,114,105,112,116]⟩) a1 a2 (by decide)
  try have b2:=Gt (w:=⟨#[115,116,121,108,101]⟩) a3 a4 (by decide)
  try have b3:=Gt (w:=⟨#[105,109,103]⟩) a5 a6 (by decide)
  try simp only[AI,BN,HG,std,Nat.reduceAdd,formatPolicy,sameSize,Qb3] at *
  try simp(disch:=omega) only[wrapId',toNat1] at *
  try simp(disch:=omega) only[Qa1,Qa4]
 all_goals first|trivial|omega|grind[wrapId',toNat1,drop_cons,drop_end,good_len,maxLen,formatPolicy,sameSize,ByteArray.size_append])
def findGuess (l:List Sl_) (a:Sb_):Int:=fidx (λg=>decide (g.to=a)) l 0
def fFindGuess:Fct:=⟨[.v (.sl .guess),.v (.el .addr)],[.el .int],λ(x_:(List Sl_)×Sb_×Unit)=>x_.1.length<=4194304,λ(x_:(List Sl_)×Sb_×Unit)=>(findGuess x_.1 x_.2.1,())⟩
abbrev CK (l:(List Sl_)) (a:Sb_):LInv:=⟨[⟨.s,5,true,.el .int⟩,⟨.b,3,true,.el .addr⟩],λ(z_ x_:Int×Sb_×Unit)=>(0<=x_.1/\x_.1<=l.length/\fidx (λg=>decide (g.to=a)) (l.drop x_.1.toNat) x_.1=findGuess l a)/\x_.2.1=z_.2.1,λ(x_:Int×Sb_×Unit)=>l.length-x_.1.toNat⟩
def Apd:=Akq.a fFindGuess<|Fct.p (KP [0,3,4,5] [9,18]) (λ⟨l,a,_⟩=>lv [(2,CK l a)]) Akq.2 func206 (by
 rintro⟨(l:List Sl_),(a:Sb_),_⟩ hp;refine ho (lpx (CK l a) ((0:Int),(a,())) λ(y1:Int×Sb_×PUnit) bk1=>.br (decide (y1.1<(l.length:Int))) (.ob (inB y1.1 l.length)<|.br ((l.getD y1.1.toNat default).to.host==y1.2.1.host&&((l.getD y1.1.toNat default).to.path==y1.2.1.path&&true)) (.lf fFindGuess (y1.1,())) (.ob (l=l)<|.ob (bk1 (w1 y1.1,(y1.2.1,())))<|.ok)) (.lf fFindGuess ((-1:Int),()))) ?_;refine Aj ?_ λ(y1:Int×Sb_×PUnit) i1=>Ab (λh2=>Aa ?_ λ_=>Ab (λh4=>lfY ?_) (λh4=>Aa rfl λ_=>Aa ?_ λ_=>trivial)) (λh2=>lfY ?_)
 all_goals
  try simp only[Dj] at *
  try simp only[CK,fFindGuess,std,Nat.reduceAdd,findGuess,fidx] at *
  try simp(disch:=omega) only[wrapId',toNat1] at *
  try simp(disch:=omega) only[Qa1,Qa4]
 all_goals first|trivial|omega|grind[wrapId',toNat1,drop_cons,drop_end,good_len,maxLen,findGuess,fidx])
def fFindGuess1:Fct:=⟨[.v (.el .guess),.p (.el .addr)],[.el .bool],λ(x_:Sl_×Sb_×Unit)=>True,λ(x_:Sl_×Sb_×Unit)=>(decide (x_.1.to=x_.2.1),())⟩
def Apn:=Apd.a fFindGuess1<|Fct.o [1,2,3] Apd.2 func311 (by
 rintro⟨(g:Sl_),(a:Sb_),_⟩ hp;refine ho (.lf fFindGuess1 (g.to.host==a.host&&(g.to.path==a.path&&true),())) ?_;refine lfY ?_;all_goals
  try simp only[Dj] at *
  try simp only[fFindGuess1,std,Nat.reduceAdd] at *
  try simp(disch:=omega) only[wrapId',toNat1] at *
  try simp(disch:=omega) only[Qa1,Qa4]
 all_goals first|trivial|omega|grind[wrapId',toNat1,drop_cons,drop_end,good_len,maxLen])
def AJ:Fct:=⟨[aL .guess,.c 311 [.el .addr]],[rI],λx=>x.1.length<=1000000000000000000/\∀ c,fFindGuess1.pre (c,x.2.1),λx=>(fidx (λc=>(fFindGuess1.fn (c,x.2.1)).1) x.1 0,())⟩
abbrev Al (l:(List Sl_)) (u:(Sb_×Unit)):LInv:=⟨[⟨.s,8,true,.el .int⟩],λ_ (x_:Int×Unit)=>0<=x_.1/\x_.1<=l.length/\fidx (λc=>(fFindGuess1.fn (c,u)).1) l 0=fidx (λc=>(fFindGuess1.fn (c,u)).1) (l.drop x_.1.toNat) x_.1,λ(x_:Int×Unit)=>l.length-x_.1.toNat⟩
def Aot:=Apn.a AJ<|Fct.p (KP [0,1,4,5,7,8] [9,16]) (λ⟨l,u,_⟩=>lv [(2,Al l u)]) Apn.2 func310 (by
 rintro⟨(l:List Sl_),(u:Sb_×PUnit),_⟩ hp;refine ho (lpx (Al l u) ((0:Int),()) λ(y1:Int×PUnit) bk1=>.br (decide (y1.1<(l.length:Int))) (.ob (inB y1.1 l.length)<|.cl fFindGuess1 (l.getD y1.1.toNat default,u.1,()) λz2=>.br (z2.1) (.lf AJ (y1.1,())) (.ob (l=l)<|.ob (enc Ty.addr u.1=enc Ty.addr u.1)<|.ob (Value.int IntKind.i64 (l.length:Int)=Value.int IntKind.i64 (l.length:Int))<|.ob (bk1 (w1 y1.1,()))<|.ok)) (.lf AJ ((-1:Int),()))) ?_;refine Aj ?_ λ(y1:Int×PUnit) i1=>Ab (λh2=>Aa ?_ λ_=>Af trivial λ_=>(Ab (λh4=>lfY ?_) (λh4=>Aa rfl λ_=>Aa rfl λ_=>Aa rfl λ_=>Aa ?_ λ_=>trivial))) (λh2=>lfY ?_)
 all_goals
  try simp only[Al,fFindGuess1,AJ,std,Nat.reduceAdd] at *
  try have hp2:=hp.2
  try have hp1:=hp.1
 all_goals first|trivial|omega|grind[wrapId',toNat1,drop_cons,drop_end,good_len,maxLen,fidx])
def Al3:=Aot.a fFindGuess<|Fct.o [0,3,4] Aot.2 func234 (by
 rintro⟨(l:List Sl_),(a:Sb_),_⟩ hp;refine ho (.cl AJ (l,(a,()),()) λ(z2:Int×PUnit)=>.lf fFindGuess (z2.1,())) ?_;refine Af ?_ λ_=>(lfY ?_)
 all_goals
  try simp only[fFindGuess,AJ,std,Nat.reduceAdd,fFindGuess1,findGuess] at *
  try simp(disch:=omega) only[wrapId',toNat1] at *
  try simp(disch:=omega) only[Qa1,Qa4]
 all_goals first|trivial|omega|grind[wrapId',toNat1,drop_cons,drop_end,good_len,maxLen,fFindGuess1,findGuess])
def fCopyGuesses:Fct:=⟨[.v (.sl .guess)],[.sl .guess],λ(x_:(List Sl_)×Unit)=>x_.1.length<=4194304,λ(x_:(List Sl_)×Unit)=>(x_.1,())⟩
def Ak8:=Al3.a fCopyGuesses<|Fct.o [0,2] Al3.2 func154 (by
 rintro⟨(l:List Sl_),_⟩ hp;refine ho (.ob (True)<|.ob (Bx (0+List.length l) 104)<|.lf fCopyGuesses ([]++l,())) ?_;refine Aa trivial λ_=>Aa ?_ λ_=>lfY ?_
 all_goals
  try simp only[fCopyGuesses,std,Nat.reduceAdd] at *
  try simp(disch:=omega) only[wrapId',toNat1] at *
  try simp(disch:=omega) only[Qa1,Qa4]
 all_goals first|trivial|omega|grind[wrapId',toNat1,drop_cons,drop_end,good_len,maxLen])
def addGuess (l:List Sl_) (a:Sb_) (x:Sd_):List Sl_×Bool:=if 0<=findGuess l a\/6<=countIf (λg=>!g.used) l then(l,false) else(l++[⟨a,x,false⟩],true)
def CU:Fct:=⟨[.v (.sl .guess),.v (.el .addr),.v (.el .bd)],[.sl .guess,.el .bool],λ(x_:(List Sl_)×Sb_×Sd_×Unit)=>x_.1.length<=4194304,λ(x_:(List Sl_)×Sb_×Sd_×Unit)=>((addGuess x_.1 x_.2.1 x_.2.2.1).1,(addGuess x_.1 x_.2.1 x_.2.2.1).2,())⟩
def AmG:=Ak8.a CU<|Fct.o (KP [0,4,5,6,7,8] [20]) Ak8.2 func289 (by
 rintro⟨(l:List Sl_),(a:Sb_),(x:Sd_),_⟩ hp;refine ho (.ob (True)<|.ob (Bx (0+List.length l) 104)<|.cl fFindGuess (l,a,()) λ(z2:Int×PUnit)=>.br (decide (z2.1>=0)) (.lf CU ([]++l,false,())) (.cl fUnused (l,()) λ(z3:Int×PUnit)=>.br (decide (z3.1>=6)) (.lf CU ([]++l,false,())) (.ob (True)<|.ob (Bx (([]++l).length+[(⟨a,x,false⟩:Sl_)].length) 104)<|.lf CU ([]++l++[(⟨a,x,false⟩:Sl_)],true,())))) ?_;refine Aa trivial λ_=>Aa ?_ λ_=>Af ?_ λ_=>(Ab (λh3=>lfY ?_) (λh3=>Af ?_ λ_=>(Ab (λh5=>lfY ?_) (λh5=>Aa trivial λ_=>Aa ?_ λ_=>lfY ?_))))
 all_goals
  try simp only[CU,fFindGuess,fUnused,std,Nat.reduceAdd,addGuess,fCopyGuesses] at *
  try simp(disch:=omega) only[wrapId',toNat1] at *
  try simp(disch:=omega) only[Qa1,Qa4]
 all_goals first|trivial|omega|grind[wrapId',toNat1,drop_cons,drop_end,good_len,maxLen,addGuess,fUnused,fCopyGuesses])
def AmQ:=AmG.a CU<|Fct.o (KP [0,4,5,6,7,8] [19]) AmG.2 func241 (by
 rintro⟨(l:List Sl_),(a:Sb_),(x:Sd_),_⟩ hp;refine ho (.cl fCopyGuesses (l,()) λz2=>.cl fFindGuess (l,a,()) λ(z3:Int×PUnit)=>.br (decide (z3.1>=0)) (.lf CU (z2.1,false,())) (.cl fUnused (l,()) λ(z4:Int×PUnit)=>.br (decide (z4.1>=6)) (.lf CU (z2.1,false,())) (.ob (True)<|.ob (Bx (z2.1.length+[(⟨a,x,false⟩:Sl_)].length) 104)<|.lf CU (z2.1++[(⟨a,x,false⟩:Sl_)],true,())))) ?_;refine Af ?_ λ_=>(Af ?_ λ_=>(Ab (λh3=>lfY ?_) (λh3=>Af ?_ λ_=>(Ab (λh5=>lfY ?_) (λh5=>Aa trivial λ_=>Aa ?_ λ_=>lfY ?_)))))
 all_goals
  try simp only[CU,fCopyGuesses,fFindGuess,fUnused,std,Nat.reduceAdd,addGuess] at *
  try simp(disch:=omega) only[wrapId',toNat1] at *
  try simp(disch:=omega) only[Qa1,Qa4]
 all_goals first|trivial|omega|grind[wrapId',toNat1,drop_cons,drop_end,good_len,maxLen,addGuess,fUnused,fCopyGuesses])
def useGuess (l:List Sl_) (a:Sb_):List Sl_×Sd_×Bool:=if findGuess l a<0 then(l,notFound,false) else(l.modify (findGuess l a).toNat λg=>{ g with used:=true },(l.getD (findGuess l a).toNat default).bd,true)
def Dm:Fct:=⟨[.v (.sl .guess),.v (.el .addr)],[.sl .guess,.el .bd,.el .bool],λ(x_:(List Sl_)×Sb_×Unit)=>x_.1.length<=4194304,λ(x_:(List Sl_)×Sb_×Unit)=>((useGuess x_.1 x_.2.1).1,(useGuess x_.1 x_.2.1).2.1,(useGuess x_.1 x_.2.1).2.2,())⟩
def Aon:=AmQ.a Dm<|Fct.o (KP [0,3,4,5,6,7,8] [16]) AmQ.2 func200 (by
 rintro⟨(l:List Sl_),(a:Sb_),_⟩ hp;refine ho (.ob (True)<|.ob (Bx (0+List.length l) 104)<|.cl fFindGuess (l,a,()) λ(z2:Int×PUnit)=>.br (decide (z2.1<0)) (.cl fNotFound () λz3=>.lf Dm ([]++l,z3.1,false,())) (.ob (0<=z2.1/\z2.1<(↑([]++l).length:Int))<|.ob (z2.1.toNat<([]++l).length)<|.lt (List Sl_) (([]++l).modify z2.1.toNat λz=>(⟨z.to,z.bd,true⟩:Sl_)) λz4=>.ob (0<=z2.1/\z2.1<(↑(List.length l):Int))<|.lf Dm (z4,(List.getD l z2.1.toNat default).bd,true,()))) ?_;refine Aa trivial λ_=>Aa ?_ λ_=>Af ?_ λ_=>(Ab (λh3=>Af trivial λ_=>(lfY ?_)) (λh3=>Aa ?_ λ_=>Aa ?_ λ_=>DW (Aa ?_ λ_=>lfY ?_)))
 all_goals
  have hf:=EW (λg:Sl_=>decide (g.to=a)) l 0 o_;try simp only[fFindGuess,fNotFound,Dm,std,Nat.reduceAdd,useGuess,findGuess,fCopyGuesses] at *
  try simp(disch:=omega) only[wrapId',toNat1] at *
  try simp(disch:=omega) only[Qa1,Qa4]
 all_goals first|trivial|omega|grind[wrapId',toNat1,drop_cons,drop_end,good_len,maxLen,useGuess,findGuess,fFindGuess,fCopyGuesses,fNotFound])
def AmE:=Aon.a Dm<|Fct.o (KP [0,3,4,5,6,7,8] [15]) Aon.2 func228 (by
 rintro⟨(l:List Sl_),(a:Sb_),_⟩ hp;refine ho (.cl fCopyGuesses (l,()) λz2=>.cl fFindGuess (l,a,()) λ(z3:Int×PUnit)=>.br (decide (z3.1<0)) (.cl fNotFound () λz4=>.lf Dm (z2.1,z4.1,false,())) (.ob (inB z3.1 z2.1.length)<|.ob (z3.1.toNat<z2.1.length)<|.lt (List Sl_) (z2.1.modify z3.1.toNat λz=>(⟨z.to,z.bd,true⟩:Sl_)) λz5=>.ob (0<=z3.1/\z3.1<(↑(List.length l):Int))<|.lf Dm (z5,(List.getD l z3.1.toNat default).bd,true,()))) ?_;refine Af ?_ λ_=>(Af ?_ λ_=>(Ab (λh3=>Af trivial λ_=>(lfY ?_)) (λh3=>Aa ?_ λ_=>Aa ?_ λ_=>DW (Aa ?_ λ_=>lfY ?_))))
 all_goals
  have hf:=EW (λg:Sl_=>decide (g.to=a)) l 0 o_;try simp only[fCopyGuesses,fFindGuess,fNotFound,Dm,std,Nat.reduceAdd,useGuess,findGuess] at *
  try simp(disch:=omega) only[wrapId',toNat1] at *
  try simp(disch:=omega) only[Qa1,Qa4]
 all_goals first|trivial|omega|grind[wrapId',toNat1,drop_cons,drop_end,good_len,maxLen,useGuess,findGuess,fFindGuess,fCopyGuesses,fNotFound])
def Ai1 {α:Type} (f:α->Nat) (l:List α):szL f l=(l.map λx=>f x+1).sum:=by
 induction l with
 | nil=>rfl
 | cons x l ih=>
  have h3:szL f (x::l)=f x+1+szL f l:=by simp only[szL,Qc5,List.sum_cons,Qa6];omega
  simp_all
def MT (b:UInt8) (s:ByteArray):szL Ad (spl b s)=s.size+1:=by
 rw[Ai1,<-BQ,<-TZ b (toL s)];unfold spl;rw[Qg0];congr 1
def C7:Fct:=⟨[.v (.el .str),.v (.el .u8)],[.sl .str],λ(x_:ByteArray×Int×Unit)=>x_.1.size<=1099511627776/\0<=x_.2.1/\x_.2.1<=255,λ(x_:ByteArray×Int×Unit)=>(spl (UInt8.ofNat x_.2.1.toNat) x_.1,())⟩
def MP {s:ByteArray} {i:Nat} {b:Int} (h0:0<=b) (h1:b<=255):((s.data.getD i 0).toNat:Int)=b↔s.data.getD i 0=UInt8.ofNat b.toNat:=by
 constructor
 ·intro h;apply UInt8.toNat_inj.1;rw[UInt8.toNat_ofNat'];omega
 ·intro h;rw[h,UInt8.toNat_ofNat'];omega
abbrev CF (s:ByteArray) (b:Int):LInv:=⟨[⟨.s,5,true,.sl .str⟩,⟨.s,6,true,.el .int⟩,⟨.s,7,true,.el .int⟩],λ_ (x_:(List ByteArray)×Int×Int×Unit)=>0<=x_.2.2.1/\x_.2.2.1<=s.size+1/\0<=x_.2.1/\x_.2.1<=x_.2.2.1/\x_.1.length<=x_.2.2.1/\x_.1++JF (UInt8.ofNat b.toNat) s x_.2.1.toNat x_.2.2.1.toNat=spl (UInt8.ofNat b.toNat) s,λ(x_:(List ByteArray)×Int×Int×Unit)=>(s.size+1-x_.2.2.1).toNat⟩
def ApR:=AmE.a C7<|Fct.p (KP [0,1,4,5,6,7] [12,25]) (λ⟨s,b,_⟩=>lv [(4,CF s b)]) AmE.2 func253 (by
 rintro⟨(s:ByteArray),(b:Int),_⟩ hp;refine ho (let q3_:=Value.string s=Value.string s;let q2_:=(s.size:Int);let q1_:=Value.int IntKind.u8 b=Value.int IntKind.u8 b;lpx (CF s b) ([],((0:Int),((0:Int),()))) λ(y1:List ByteArray×Int×Int×PUnit) bk1=>let q0_:Out:=.ob (0<=y1.2.1/\y1.2.1<=y1.2.2.1/\y1.2.2.1<=q2_)<|.ob (True)<|.ob (Bx (y1.1.length+[s.extract y1.2.1.toNat y1.2.2.1.toNat].length) 16)<|.ob q3_<|.ob q1_<|.ob (bk1 (y1.1++[s.extract y1.2.1.toNat y1.2.2.1.toNat],(w1 y1.2.2.1,(w1 y1.2.2.1,()))))<|.ok;.br (decide (y1.2.2.1<=q2_)) (.br (y1.2.2.1==q2_) q0_ (.ob (0<=y1.2.2.1/\y1.2.2.1<q2_)<|.br ((↑(s.data.getD y1.2.2.1.toNat 0).toNat:Int)==b) q0_ (.ob q3_<|.ob q1_<|.ob (bk1 (y1.1,(y1.2.1,(w1 y1.2.2.1,()))))<|.ok))) (.lf C7 (y1.1,()))) ?_;repeat' first|(guard_target =~ Out.holds _ _;first|refine Aj (li:=CF s b) ?_ λ(y1:List ByteArray×Int×Int×PUnit) i1=>?_|refine lfY ?_|refine Ab (λ_=>?_) λ_=>?_|refine Aa ?_ λ_=>?_)|exact trivial
 all_goals obtain⟨hp1,hp2,hp3⟩:=hp
 all_goals
  try obtain⟨a1,a2,a3,a4,a5,a6⟩:=i1
  try obtain⟨a1,a2,a3,a4,a5,a6⟩:=i2
  try obtain⟨a1,a2,a3,a4,a5,a6⟩:=i3
  try simp only[CF,C7,std,Nat.reduceAdd,Qa3,Qa6,Qb7,MP hp2 hp3] at *
  try simp(disch:=omega) only[wrapId',toNat1] at *
 all_goals first|trivial|omega|exact⟨o_,o_,o_,o_,o_,WK _ _⟩|skip
 all_goals first|(refine⟨⟨o_,o_,o_,o_,o_,?_⟩,o_⟩;rw[WI _ o_] at a6;rw[Ry _ o_,Qd5];exact a6)|(refine⟨⟨o_,o_,o_,o_,o_,?_⟩,o_⟩;rw[YS o_ ‹_›] at a6;rw[Qb4];exact a6)|(refine⟨⟨o_,o_,o_,o_,o_,?_⟩,o_⟩;rw[Wq o_ o_ ‹_›] at a6;exact a6)|(rw[Ry _ o_,Qd5] at a6;exact a6)|skip)
def polCand (s:ByteArray):Si_:=⟨true,(spl 32 ((spl 59 s).getD 0 default)).drop 1,(spl 32 ((spl 59 s).getD 1 default)).drop 1,(spl 32 ((spl 59 s).getD 2 default)).drop 1,if 3<(spl 59 s).length/\6<((spl 59 s).getD 3 default).size then((spl 59 s).getD 3 default).extract 6 ((spl 59 s).getD 3 default).size else⟨#[]⟩⟩
def parsePolicy (s:ByteArray):Si_×Bool:=if s=⟨#[]⟩ then(default,true) else if 3<=(spl 59 s).length/\formatPolicy (polCand s)=s then(polCand s,true) else(default,false)
def Eu (b:UInt8) (s:ByteArray) (k:Nat):((spl b s).getD k default).size<=s.size:=by
 by_cases h:k<(spl b s).length
 ·exact Iz (A8 h)
 ·rw[Qb0,List.getElem?_eq_none o_];exact Nat.zero_le _
def Uo {s n:ByteArray} (hn:n.size<=s.size):szPolicy ⟨true,(spl 32 ((spl 59 s).getD 0 default)).drop 1,(spl 32 ((spl 59 s).getD 1 default)).drop 1,(spl 32 ((spl 59 s).getD 2 default)).drop 1,n⟩<=4*(s.size+1):=by
 have h0:=Eu 59 s 0;have h1:=Eu 59 s 1;have h2:=Eu 59 s 2;have d0:=PF Ad (spl 32 ((spl 59 s).getD 0 default)) 1;have d1:=PF Ad (spl 32 ((spl 59 s).getD 1 default)) 1;have d2:=PF Ad (spl 32 ((spl 59 s).getD 2 default)) 1;rw[MT] at d0 d1 d2;simp only[szPolicy];omega
def fParsePolicy:Fct:=⟨[.v (.el .str)],[.el .bj,.el .bool],λ(x_:ByteArray×Unit)=>x_.1.size<=200000000,λ(x_:ByteArray×Unit)=>((parsePolicy x_.1).1,(parsePolicy x_.1).2,())⟩
end Go.Proofs.YtmeicddakaciiaaGreatDoor.fnExactRunLoad
