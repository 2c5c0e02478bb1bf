/-
  Contracts of functions that the law of FnExactStepLoad reaches, part 1.
-/
import Derived.Test.YtmeicddakaciiaaGreatDoorVMe
import Derived.WalkKit
import Derived.BigGuard
import Derived.Deep.QuietTactic
import Derived.BigQuiet
import Derived.Lib.ConvBytes
import Derived.Sort.WalkC
import Derived.Handy
import Derived.Lib.Overlaps
import Derived.Lib.AppendZerosOnto
import Derived.Laws.Externs
import Derived.Shelf.RegionOpenPlain
import Derived.Defers
import Derived.Laws.Pointers
import Derived.Laws.LoneSync
import Derived.RegionCalls
import Derived.ChangeAlike
import Derived.LoopN
import Derived.Lib.SliceRun
import Derived.Shelf.Strconv.AtoiAll
import Derived.Shelf.Small.Strs
import Derived.Test.YtmeicddakaciiaaGreatDoorRows
import Derived.Test.YtmeicddakaciiaaGreatDoorCards
import Derived.LaidMore
import Derived.Lay
import Derived.SevenTiedAt
import Derived.ProofKit
import Derived.OpenShut
namespace Go.Proofs.YtmeicddakaciiaaGreatDoor.fnExactStepLoad
open Go.Proofs.YtmeicddakaciiaaGreatDoor
open Go.D Go.Proofs.Tryz
set_option maxRecDepth 100000
set_option maxHeartbeats 2000000
set_option linter.unusedVariables false
set_option linter.unusedSimpArgs false
def tyOf:TypeId->Option Ty
 | 3=>some .int
 | 4=>some .bool
 | 5=>some .u8
 | 9=>some .str
 | 25=>some .cache
 | 28=>some .net
 | 30=>some .addr
 | 37=>some .cache
 | 40=>some .net
 | 41=>some .addr
 | 44=>some .bj
 | 46=>some .tokenizer
 | 50=>some .ba
 | 55=>some .page
 | 68=>some .bj
 | 69=>some .tokenizer
 | 73=>some .ba
 | 78=>some .page
 | 82=>some .loader
 | 87=>some .loader
 | 144=>some .server
 | 148=>some .sent
 | 150=>some .bd
 | 158=>some .server
 | 162=>some .sent
 | 170=>some .token
 | 174=>some .slot
 | 177=>some .module
 | 191=>some .bd
 | 193=>some .conn
 | 196=>some .guess
 | 208=>some .conn
 | 211=>some .guess
 | 221=>some .entry
 | 234=>some .entry
 | 243=>some .node
 | 246=>some .file
 | 248=>some .attr
 | 252=>some .token
 | 256=>some .slot
 | 259=>some .module
 | 268=>some .request
 | 298=>some .file
 | 319=>some .node
 | 366=>some .attr
 | 451=>some .line
 | 458=>some .sheet
 | 482=>some .rule
 | _=>none
abbrev Eo:={ E:D.Env // EOk Tryz.prog E }
def Eo.a (e:Eo) (S:Fct) {f:Nat} (k:S.ok Tryz.prog f):Eo:=⟨e.1.add f S,e.2.add k⟩
def Eo.M (e:Eo) (S:MS) {f:Nat} (k:S.ok Tryz.prog f):Eo:=⟨e.1.addM f S,e.2.addM k⟩
def Eo.G (e:Eo) (S:GS) {f:Nat} (k:S.ok Tryz.prog f):Eo:=⟨e.1.addG f S,e.2.addG k⟩
def E0:Eo:=⟨D.Env.empty tyOf,EOk.empty _ _⟩
def E1:=E0.a Gr<|Fct.p (KP [0,2,3] [5,7]) (λ⟨k,_⟩=>lv [(4,AiN k)]) E0.2 func113 (by
 rintro⟨(k:Int),_⟩ hp;refine ho (.br (decide (k<=0)) (.lf Gr ((⟨#[109,48]⟩:ByteArray),())) (lpx (AiN k) (k,((⟨#[]⟩:ByteArray),())) λ(y2:Int×ByteArray×PUnit) bk2=>.br (decide (y2.1>0)) (.ob ((10:Int)≠(0:Int))<|.ob (True)<|.ob (sameSize (List.foldl (λr n=>r.push (UInt8.ofNat n.toNat)) ByteArray.empty [IntKind.u8.wrap (wr ((48:Int)+y2.1.tmod (10:Int)))]) y2.2.1)<|.ob ((10:Int)≠(0:Int))<|.ob (Value.string (⟨#[]⟩:ByteArray)=Value.string (⟨#[]⟩:ByteArray))<|.ob (bk2 (wr (y2.1.tdiv (10:Int)),(List.foldl (λr n=>r.push (UInt8.ofNat n.toNat)) ByteArray.empty [IntKind.u8.wrap (wr ((48:Int)+y2.1.tmod (10:Int)))]++y2.2.1,())))<|.ok) (.ob (sameSize (⟨#[109]⟩:ByteArray) y2.2.1)<|.lf Gr ((⟨#[109]⟩:ByteArray)++y2.2.1,())))) ?_;refine Ab (λh1=>lfY ?_) (λh1=>An ?_ λ(y2:Int×ByteArray×PUnit) i2=>Ab (λh3=>Aa ?_ λ_=>Aa trivial λ_=>Aa ?_ λ_=>Aa ?_ λ_=>Aa rfl λ_=>Aa ?_ λ_=>trivial) (λh3=>Aa ?_ λ_=>lfY ?_));all_goals try simp only[Ao9] at *
 all_goals
  try rw[AgD (by first|exact i2.1|(have:=i2.1;omega))]
  try simp only[AiN,Gr,std,Nat.reduceAdd,szF,toF,eqF,mkF,heF] at *
 ·simp[KD,h1]
 ·exact⟨o_,o_,64,rfl,Qf2 (show k.toNat<10 ^ 19 from o_) (Nat.pow_le_pow_right (by decide) (by decide)),rfl⟩
 ·decide
 ·obtain⟨i3,i4,f,i5,i6,i7⟩:=i2;show(1:Nat)+_<=_;omega
 ·decide
 ·obtain⟨i3,i4,f,i5,i6,i7⟩:=i2;have hd:IntKind.i64.wrap (y2.1.tdiv 10)=y2.1 / 10:=(Ah6 i3).resolve_right o_;rw[hd];cases f with
  | zero=>simp at i6;omega
  | succ f=>
   rw[Aao (k:=y2.1.toNat) o_] at i7;have i8:y2.1.toNat<10*10 ^ f:=by rw[Nat.pow_succ] at i6;omega
   generalize 10 ^ f=p at i8;refine⟨⟨o_,o_,f,by rw[sz1];omega,o_,?_⟩,o_⟩;rw[show(y2.1 / 10).toNat=y2.1.toNat / 10 from o_];exact i7
 ·obtain⟨i3,i4,f,i5,i6,i7⟩:=i2;show(1:Nat)+_<=_;omega
 ·obtain⟨i3,i4,f,i5,i6,i7⟩:=i2;have h0:y2.1.toNat=0:=o_
  rw[h0,AbO] at i7;rw[KD,Qa4 o_,i7])
def E2:=E1.a Gj<|Fct.p (KP [0,1,4,5] [11,15,26]) (λ⟨l,n,_⟩=>lv [(5,Afp .str Ad l n)]) E1.2 func74 (by
 rintro⟨(l:List ByteArray),(n:Int),_⟩ hp;refine ho (.br (decide (wr (n-(l.length:Int))<0)) (.lf Gj ((-1:Int),())) (lpx (Afp .str Ad l n) (wr (n-(l.length:Int)),((0:Int),())) λ(y2:Int×Int×PUnit) bk2=>.br (decide (y2.2.1<(l.length:Int))) (.ob (inB y2.2.1 l.length)<|.br (decide (wr (y2.1-(↑(l.getD y2.2.1.toNat default).size:Int))<0)) (.lf Gj ((-1:Int),())) (.ob (l=l)<|.ob (bk2 (wr (y2.1-(↑(l.getD y2.2.1.toNat default).size:Int)),(w1 y2.2.1,())))<|.ok)) (.lf Gj (y2.1,())))) ?_;refine Ab (λh1=>lfY ?_) (λh1=>An ?_ λ(y2:Int×Int×PUnit) i2=>Ab (λh3=>Aa ?_ λ_=>Ab (λh5=>lfY ?_) (λh5=>Aa rfl λ_=>Aa ?_ λ_=>trivial)) (λh3=>lfY ?_));all_goals try simp only[Afp,Gj,std,Nat.reduceAdd,szF,toF,eqF,mkF,heF] at *
 all_goals have hgl:=good_len hp.1
 all_goals simp only[maxLen] at hgl
 ·rw[Ag o_] at h1;rw[Ge (by simp only[szL];omega)]
 ·rw[Ag o_] at h1 ⊢;exact⟨o_,o_,h1,by simp⟩
 all_goals
  have hg:y2.2.1.toNat<l.length->(l.getD y2.2.1.toNat default).size<=9223372036854775807:=λh=>(QZ hp.1 h) _ (List.Mem.head _)
  have hs:=GE Ad l (y2.2.1.toNat+1);have hs2:y2.2.1.toNat<l.length->((l.take (y2.2.1.toNat+1)).map Ad).sum=((l.take y2.2.1.toNat).map Ad).sum+(l.getD y2.2.1.toNat default).size:=λh=>Ji Ad h
 ·omega
 ·have hlt:y2.2.1.toNat<l.length:=o_
  have a1:=hg hlt;have a2:=hs2 hlt;rw[Ag o_] at h5;rw[Ge (by simp only[szL];omega)]
 ·have hlt:y2.2.1.toNat<l.length:=o_
  have a1:=hg hlt;have a2:=hs2 hlt;rw[Ag (n:=y2.1-_) o_] at h5 ⊢;rw[Ag o_,toNat1 o_,a2];exact⟨⟨o_,o_,o_,o_⟩,o_⟩
 ·have e:l.take y2.2.1.toNat=l:=Qb1 o_;rw[e] at i2;have hz:((szL Ad l:Nat):Int)=l.length+(l.map Ad).sum:=by simp only[szL];omega
  rw[Hn o_];show y2.1=n-((szL Ad l:Nat):Int);omega)
def E3:=E2.a Jv<|Fct.p (KP [0,2,3,4] [11]) (λ⟨l,_⟩=>lv [(3,Aaz .str l)]) E2.2 func81 (by
 rintro⟨(l:List ByteArray),_⟩ hp;refine ho (.ob ((l.length:Int)=(l.length:Int)/\(0:Int)<=(l.length:Int)/\(16:Int)*(l.length:Int)<=140737488355328/\(l.length:Int)<=140737488355328)<|lpx (Aaz .str l) ((0:Int),(List.replicate (l.length:Int).toNat (⟨#[]⟩:ByteArray),())) λ(y2:Int×List ByteArray×PUnit) bk2=>.br (decide (y2.1<(l.length:Int))) (.ob (inB y2.1 l.length)<|.ob (inB y2.1 y2.2.1.length)<|.ob (y2.1.toNat<y2.2.1.length)<|.lt (List ByteArray) (y2.2.1.modify y2.1.toNat λz=>l.getD y2.1.toNat default) λz2=>.ob (l=l)<|.ob (bk2 (w1 y2.1,(z2,())))<|.ok) (.lf Jv (y2.2.1,()))) ?_;refine Aa ?_ λ_=>An ?_ λ(y2:Int×List ByteArray×PUnit) i2=>Ab (λh3=>Aa ?_ λ_=>Aa ?_ λ_=>Aa ?_ λ_=>DQ (Aa rfl λ_=>Aa ?_ λ_=>trivial)) (λh3=>lfY ?_)
 all_goals
  try simp only[Aaz,Jv,std,Nat.reduceAdd,szF,toF,eqF,mkF,heF] at *
  try have hsz:l.length<=1048576:=by first|exact hp|(have:=Ac Ad l;exact Qd7 this hp)
 all_goals
  clear hp;try rw[i2.2.2]
 all_goals first|omega|(refine⟨o_,o_,?_⟩;simp;done)|(refine⟨o_,o_,?_⟩;simp;exact .inr rfl)|(simp;omega)|skip
 ·rw[Ag o_,toNat1 o_];refine⟨⟨o_,o_,?_⟩,o_⟩;rw[show l.length-y2.1.toNat=(l.length-(y2.1.toNat+1))+1 from o_,List.replicate_succ,Hz (by simp;omega),take_succ o_];simp
 ·have e:l.take y2.1.toNat=l:=Qb1 o_;rw[e];simp;omega)
def E4:=E3.a Gp<|Fct.p (KP [0,1,4,5] [10,14,25]) (λ⟨l,m,_⟩=>lv [(4,AaC .str l m)]) E3.2 func52 (by
 rintro⟨(l:List ByteArray),(m:List ByteArray),_⟩ hp;refine ho (.br ((l.length:Int) != (m.length:Int)) (.lf Gp (false,())) (lpx (AaC .str l m) ((0:Int),()) λ(y2:Int×PUnit) bk2=>.br (decide (y2.1<(l.length:Int))) (.ob (inB y2.1 l.length)<|.ob (inB y2.1 m.length)<|.br (!(l.getD y2.1.toNat default).toList==(m.getD y2.1.toNat default).toList) (.lf Gp (false,())) (.ob (l=l)<|.ob (m=m)<|.ob (bk2 (w1 y2.1,()))<|.ok)) (.lf Gp (true,())))) ?_;refine Ab (λh1=>lfY ?_) (λh1=>An ?_ λ(y2:Int×PUnit) i2=>Ab (λh3=>Aa ?_ λ_=>Aa ?_ λ_=>Ab (λh6=>lfY ?_) (λh6=>Aa rfl λ_=>Aa rfl λ_=>Aa ?_ λ_=>trivial)) (λh3=>lfY ?_));all_goals try simp only[AaC,Gp,std,Nat.reduceAdd,szF,toF,eqF,mkF,heF] at *
 all_goals have hl:=Ac Ad l
 ·rw[Qg6];rintro rfl;omega
 ·exact⟨o_,o_,by simp⟩
 ·omega
 ·omega
 ·rw[Qg6];rintro rfl;first|exact absurd rfl h5|exact absurd rfl h6
 ·have hw:IntKind.i64.wrap (y2.1+1)=y2.1+1:=Ag o_;rw[hw,toNat1 o_];refine⟨⟨o_,o_,?_⟩,o_⟩;rw[take_succ o_,take_succ o_,i2.2.2];first|rw[h5]|rw[h6]
 ·have e:l.take y2.1.toNat=l:=Qb1 o_;have e2:m.take y2.1.toNat=m:=Qb1 o_;rw[Qf0];rw[<-e,<-e2,i2.2.2])
def E5:=E4.a OH<|Fct.o (KP [0,1,4] [10]) E4.2 func189 (by
 rintro⟨(l:List Int),(n:Int),_⟩ hp;refine ho (.br (decide (wr (n-(↑(List.length l):Int))<0)) (.lf OH ((-1:Int),())) (.lf OH (wr (n-(↑(List.length l):Int)),()))) ?_;refine Ab (λh1=>lfY ?_) (λh1=>lfY ?_);all_goals try simp only[OH,std,Nat.reduceAdd,szF,toF,eqF,mkF,heF,Sh.good,Sh.fc,enc,Qc9,Qe1,false_implies,implies_true,D6,maxLen] at *
 all_goals grind[wrapId',lessen])
def E6:=E5.a SO<|Fct.p (KP [0,2,3,4] [11]) (λ⟨l,_⟩=>lv [(3,Aaz .int l)]) E5.2 func12 (by
 rintro⟨(l:List Int),_⟩ hp;refine ho (.ob ((l.length:Int)=(l.length:Int)/\(0:Int)<=(l.length:Int)/\(8:Int)*(l.length:Int)<=140737488355328/\(l.length:Int)<=140737488355328)<|lpx (Aaz .int l) ((0:Int),(List.replicate (l.length:Int).toNat (0:Int),())) λ(y2:Int×List Int×PUnit) bk2=>.br (decide (y2.1<(l.length:Int))) (.ob (inB y2.1 l.length)<|.ob (inB y2.1 y2.2.1.length)<|.ob (y2.1.toNat<y2.2.1.length)<|.lt (List Int) (y2.2.1.modify y2.1.toNat λz=>l.getD y2.1.toNat default) λz2=>.ob (l=l)<|.ob (bk2 (w1 y2.1,(z2,())))<|.ok) (.lf SO (y2.2.1,()))) ?_;refine Aa ?_ λ_=>An ?_ λ(y2:Int×List Int×PUnit) i2=>Ab (λh3=>Aa ?_ λ_=>Aa ?_ λ_=>Aa ?_ λ_=>DQ (Aa rfl λ_=>Aa ?_ λ_=>trivial)) (λh3=>lfY ?_)
 all_goals
  try simp only[Aaz,SO,std,Nat.reduceAdd,szF,toF,eqF,mkF,heF] at *
  try have hsz:l.length<=1048576:=by first|exact hp|(have:=Ac Ad l;exact Qd7 this hp)
 all_goals
  clear hp;try rw[i2.2.2]
 all_goals first|omega|(refine⟨o_,o_,?_⟩;simp;done)|(refine⟨o_,o_,?_⟩;simp;exact .inr rfl)|(simp;omega)|skip
 ·rw[Ag o_,toNat1 o_];refine⟨⟨o_,o_,?_⟩,o_⟩;rw[show l.length-y2.1.toNat=(l.length-(y2.1.toNat+1))+1 from o_,List.replicate_succ,Hz (by simp;omega),take_succ o_];simp
 ·have e:l.take y2.1.toNat=l:=Qb1 o_;rw[e];simp;omega)
def E7:=E6.a K1<|Fct.p (KP [0,1,4,5] [10,14,25]) (λ⟨l,m,_⟩=>lv [(4,AaC .int l m)]) E6.2 func16 (by
 rintro⟨(l:List Int),(m:List Int),_⟩ hp;refine ho (.br ((l.length:Int) != (m.length:Int)) (.lf K1 (false,())) (lpx (AaC .int l m) ((0:Int),()) λ(y2:Int×PUnit) bk2=>.br (decide (y2.1<(l.length:Int))) (.ob (inB y2.1 l.length)<|.ob (inB y2.1 m.length)<|.br (l.getD y2.1.toNat default != m.getD y2.1.toNat default) (.lf K1 (false,())) (.ob (l=l)<|.ob (m=m)<|.ob (bk2 (w1 y2.1,()))<|.ok)) (.lf K1 (true,())))) ?_;refine Ab (λh1=>lfY ?_) (λh1=>An ?_ λ(y2:Int×PUnit) i2=>Ab (λh3=>Aa ?_ λ_=>Aa ?_ λ_=>Ab (λh6=>lfY ?_) (λh6=>Aa rfl λ_=>Aa rfl λ_=>Aa ?_ λ_=>trivial)) (λh3=>lfY ?_));all_goals try simp only[AaC,K1,std,Nat.reduceAdd,szF,toF,eqF,mkF,heF] at *
 ·rw[Qg6];rintro rfl;omega
 ·exact⟨o_,o_,by simp⟩
 ·omega
 ·omega
 ·rw[Qg6];rintro rfl;first|exact absurd rfl h5|exact absurd rfl h6
 ·have hw:IntKind.i64.wrap (y2.1+1)=y2.1+1:=Ag o_;rw[hw,toNat1 o_];refine⟨⟨o_,o_,?_⟩,o_⟩;rw[take_succ o_,take_succ o_,i2.2.2];first|rw[h5]|rw[h6]
 ·have e:l.take y2.1.toNat=l:=Qb1 o_;have e2:m.take y2.1.toNat=m:=Qb1 o_;rw[Qf0];rw[<-e,<-e2,i2.2.2])
def E8:=E7.M Qn<|mkS (KP [0,1,4,5] [9]) true MI E7.2 func62 (λ(l:List ByteArray) (k:Int)=>k_)
def E9:=E8.a QF<|heS (KP [0,1,4,5] [9,18]) MI E8.2 func72 (λ(l:List ByteArray) (k:Int)=>k_)
def E10:=E9.M Z4<|mkS (KP [0,1,4,5] [9]) true WF E9.2 func18 (λ(l:List Int) (k:Int)=>k_)
def E11:=E10.a YQ<|heS (KP [0,1,4,5] [9,17]) WF E10.2 func122 (λ(l:List Int) (k:Int)=>k_)
def E12:=E11.a AfI<|szT (KP [1,2,4] [11,18]) Aee E11.2 func8 (λ(x:Sb_) (k:Int)=>k_) (λ_=>rfl) AgF
def E13:=E12.a AeP<|toT [1,2,3] Afz AiZ E12.2 func11 (λ(x:Sb_)=>k_) (λ_=>rfl) Aez
def E14:=E13.a Ad7<|eqT (KP [2,3,4] [9,14]) Y3 E13.2 func44 (λ(x y:Sb_)=>k_) Aeu Af7
def E15:=E14.a AaI<|szS (KP [0,1,4,5] [11,15,25]) E14.2 func129 (λ(l:List Sb_) (k:Int)=>k_)
def E16:=E15.a AcS<|toS (KP [0,2,3,4] [11]) 32 E15.2 func144 (λ(l:List Sb_)=>k_)
def E17:=E16.a Ade<|eqS (KP [0,1,4,5] [10,14,26]) false E16.2 func51 (λ(l r:List Sb_)=>k_)
def E18:=E17.M V1<|mkS (KP [0,1,4,5] [9]) true Tc E17.2 func61 (λ(l:List Sb_) (k:Int)=>k_)
def E19:=E18.a U3<|heS (KP [0,1,4,5] [9,19,29]) Tc E18.2 func71 (λ(l:List Sb_) (k:Int)=>k_)
def E20:=E19.a Af4<|szT (KP [1,2,4] [11,18]) AfM E19.2 func343 (λ(x:Ss_) (k:Int)=>k_) (λ_=>rfl) Aed
def E21:=E20.a AfX<|toT [1,2,3] Afs Ajs E20.2 func366 (λ(x:Ss_)=>k_) (λ_=>rfl) Afh
def E22:=E21.a Aej<|eqT (KP [2,3,4] [9,14]) XF E21.2 func268 (λ(x y:Ss_)=>k_) Aew AeV
def E23:=E22.a AcU<|szS (KP [0,1,4,5] [11,15,25]) E22.2 func269 (λ(l:List Ss_) (k:Int)=>k_)
def E24:=E23.a AaW<|toS (KP [0,2,3,4] [11]) 32 E23.2 func291 (λ(l:List Ss_)=>k_)
def E25:=E24.a Aa1<|eqS (KP [0,1,4,5] [10,14,26]) false E24.2 func185 (λ(l r:List Ss_)=>k_)
def E26:=E25.M VX<|mkS (KP [0,1,4,5] [9]) true SA E25.2 func116 (λ(l:List Ss_) (k:Int)=>k_)
def E27:=E26.a VG<|heS (KP [0,1,4,5] [9,19,29]) SA E26.2 func120 (λ(l:List Ss_) (k:Int)=>k_)
def E28:=E27.a AcD<|szT (KP [1,2,4] [11,17,24]) Zy E27.2 func187 (λ(x:Sh_) (k:Int)=>k_) (λ_=>rfl) Acj
def E29:=E28.a Adc<|toT [1,2,3] Yg AhJ E28.2 func217 (λ(x:Sh_)=>k_) (λ_=>rfl) Ada
def E30:=E29.a Abt<|eqT (KP [2,3,4] [9,14,20,25]) Rb E29.2 func109 (λ(x y:Sh_)=>k_) Acm Ab0
def E31:=E30.a XY<|szS (KP [0,1,4,5] [11,15,25]) E30.2 func125 (λ(l:List Sh_) (k:Int)=>k_)
def E32:=E31.a Z7<|toS (KP [0,2,3,4] [11]) 64 E31.2 func140 (λ(l:List Sh_)=>k_)
def E33:=E32.a ZH<|eqS (KP [0,1,4,5] [10,14,26]) false E32.2 func47 (λ(l r:List Sh_)=>k_)
def E34:=E33.M R8<|mkS (KP [0,1,4,5] [9]) true OP E33.2 func57 (λ(l:List Sh_) (k:Int)=>k_)
def E35:=E34.a R9<|heS (KP [0,1,4,5] [9,18,28,39,47]) OP E34.2 func67 (λ(l:List Sh_) (k:Int)=>k_)
def E36:=E35.a PC<|szT (KP [1,2,4] [11]) Jz E35.2 func124 (λ(x:So_) (k:Int)=>k_) (λ_=>rfl) QP
def E37:=E36.a Ri<|toT [1,2,3] Kc UV E36.2 func139 (λ(x:So_)=>k_) (λ_=>rfl) PW
def E38:=E37.a Ra<|eqT (KP [2,3,4] [9]) Gt E37.2 func46 (λ(x y:So_)=>k_) Qr QV
def E39:=E38.a Ae0<|szT (KP [1,2,4] [11,18,24]) AgS E38.2 func270 (λ(x:St_) (k:Int)=>k_) (λ_=>rfl) Aey
def E40:=E39.a Afn<|toT [1,2,3] Afb AiK E39.2 func292 (λ(x:St_)=>k_) (λ_=>rfl) Ae9
def E41:=E40.a Afr<|eqT (KP [2,3,4] [9,14,19,25]) YV E40.2 func186 (λ(x y:St_)=>k_) Ae4 AfD
def E42:=E41.a Acf<|szS (KP [0,1,4,5] [11,15,25]) E41.2 func188 (λ(l:List St_) (k:Int)=>k_)
def E43:=E42.a Abj<|toS (KP [0,2,3,4] [11]) 64 E42.2 func218 (λ(l:List St_)=>k_)
def E44:=E43.a AcQ<|eqS (KP [0,1,4,5] [10,14,26]) false E43.2 func110 (λ(l r:List St_)=>k_)
def E45:=E44.M Wr<|mkS (KP [0,1,4,5] [9]) true Tb E44.2 func117 (λ(l:List St_) (k:Int)=>k_)
def E46:=E45.a Vu<|heS (KP [0,1,4,5] [9,19,29,38,49]) Tb E45.2 func121 (λ(l:List St_) (k:Int)=>k_)
def E47:=E46.a UL<|szT (KP [1,2,4] [10,16]) OQ E46.2 func126 (λ(x:Se_) (k:Int)=>k_) (λ_=>rfl) Wf
def E48:=E47.a U1<|toT [1,2,3] OC AcW E47.2 func141 (λ(x:Se_)=>k_) (λ_=>rfl) Vg
def E49:=E48.a UT<|eqT (KP [2,3,4] [10,16]) I1 E48.2 func48 (λ(x y:Se_)=>k_) Vj Wa
def E50:=E49.M P8<|mvT [1,2,4] [0,1] JL E49.2 func58 (λ(x:Se_) (k:Int)=>k_)
def E51:=E50.a Qi<|hvT (KP [1,2,4] [10,16]) JL E50.2 func68 (λ(x:Se_) (k:Int)=>k_)
def E52:=E51.a YG<|szT (KP [1,2,4] [10,16,22,29]) RW E51.2 func123 (λ(x:Si_) (k:Int)=>k_) (λ_=>rfl) ZD
def E53:=E52.a X4<|toT [1,2,3] Rv Ag0 E52.2 func138 (λ(x:Si_)=>k_) (λ_=>rfl) Y0
def E54:=E53.a WB<|eqT (KP [2,3,4] [9,15,21,27,32]) LQ E53.2 func45 (λ(x y:Si_)=>k_) Aad Xm
def E55:=E54.M SC<|mvT [1,2,4] [1,2,3] LC E54.2 func56 (λ(x:Si_) (k:Int)=>k_)
def E56:=E55.a SF<|hvT (KP [1,2,4] [10,16,22]) LC E55.2 func66 (λ(x:Si_) (k:Int)=>k_)
def E57:=E56.a S2<|szT (KP [1,2,4] [11,18]) Ly E56.2 func192 (λ(x:Sd_) (k:Int)=>k_) (λ_=>rfl) R5
def E58:=E57.a RB<|toT [1,2,3] Mz ZF E57.2 func221 (λ(x:Sd_)=>k_) (λ_=>rfl) RV
def E59:=E58.a RM<|eqT (KP [2,3,4] [9,14,19,24,29,34]) Hh E58.2 func247 (λ(x y:Sd_)=>k_) RQ Sb
def E60:=E59.a Aet<|szT (KP [1,2,4] [11,17]) AeL E59.2 func248 (λ(x:Sv_) (k:Int)=>k_) (λ_=>rfl) AfH
def E61:=E60.a Ago<|toT [1,2,3] Af1 Ai7 E60.2 func255 (λ(x:Sv_)=>k_) (λ_=>rfl) AgA
def E62:=E61.a Agu<|eqT (KP [2,3,4] [9,15]) XU E61.2 func267 (λ(x y:Sv_)=>k_) AgP AeS
def E63:=E62.a Aca<|szS (KP [0,1,4,5] [11,15,25]) E62.2 func159 (λ(l:List Sv_) (k:Int)=>k_)
def E64:=E63.a AaE<|toS (KP [0,2,3,4] [11]) 80 E63.2 func170 (λ(l:List Sv_)=>k_)
def E65:=E64.a Adj<|eqS (KP [0,1,4,5] [10,14,26]) false E64.2 func183 (λ(l r:List Sv_)=>k_)
def E66:=E65.M Vc<|mkS (KP [0,1,4,5] [9]) true RS E65.2 func114 (λ(l:List Sv_) (k:Int)=>k_)
def E67:=E66.a U4<|heS (KP [0,1,4,5] [9,19,29,39,50,60,72,83]) RS E66.2 func118 (λ(l:List Sv_) (k:Int)=>k_)
def E68:=E67.a XR<|szT (KP [1,2,4] [11,17]) Ro E67.2 func94 (λ(x:Sk_) (k:Int)=>k_) (λ_=>rfl) YD
def E69:=E68.a Z5<|toT [1,2,3] Sg Agh E68.2 func100 (λ(x:Sk_)=>k_) (λ_=>rfl) YS
def E70:=E69.a Xy<|eqT (KP [2,3,4] [9,15]) Li E69.2 func106 (λ(x y:Sk_)=>k_) WS W2
def E71:=E70.a V3<|szS (KP [0,1,4,5] [11,15,25]) E70.2 func33 (λ(l:List Sk_) (k:Int)=>k_)
def E72:=E71.a Vx<|toS (KP [0,2,3,4] [11]) 40 E71.2 func37 (λ(l:List Sk_)=>k_)
def E73:=E72.a VD<|eqS (KP [0,1,4,5] [10,14,26]) false E72.2 func41 (λ(l r:List Sk_)=>k_)
def E74:=E73.M PQ<|mkS (KP [0,1,4,5] [9]) true Lf E73.2 func53 (λ(l:List Sk_) (k:Int)=>k_)
def E75:=E74.a Qq<|heS (KP [0,1,4,5] [9,19,30]) Lf E74.2 func63 (λ(l:List Sk_) (k:Int)=>k_)
def E76:=E75.a Acy<|szT (KP [1,2,4] [11,17,23]) XD E75.2 func160 (λ(x:Sq_) (k:Int)=>k_) (λ_=>rfl) AcT
def E77:=E76.a Abc<|toT [1,2,3] Xd Aid E76.2 func171 (λ(x:Sq_)=>k_) (λ_=>rfl) Ado
def E78:=E77.a AcM<|eqT (KP [2,3,4] [9,15,21,26]) Q3 E77.2 func184 (λ(x y:Sq_)=>k_) Adl Abe
def E79:=E78.a Yu<|szS (KP [0,1,4,5] [11,15,25]) E78.2 func95 (λ(l:List Sq_) (k:Int)=>k_)
def E80:=E79.a Xo<|toS (KP [0,2,3,4] [11]) 120 E79.2 func101 (λ(l:List Sq_)=>k_)
def E81:=E80.a Zk<|eqS (KP [0,1,4,5] [10,14,26]) false E80.2 func107 (λ(l r:List Sq_)=>k_)
def E82:=E81.M Ry<|mkS (KP [0,1,4,5] [9]) true O4 E81.2 func115 (λ(l:List Sq_) (k:Int)=>k_)
def E83:=E82.a Rl<|heS (KP [0,1,4,5] [9,19,30,41,51,61,72,82,94,105,114]) O4 E82.2 func119 (λ(l:List Sq_) (k:Int)=>k_)
def E84:=E83.a AbY<|szT (KP [1,2,4] [10]) YW E83.2 func34 (λ(x:Sl_) (k:Int)=>k_) (λ_=>rfl) AaH
def E85:=E84.a Ac8<|toT [1,2,3] ZV AhN E84.2 func38 (λ(x:Sl_)=>k_) (λ_=>rfl) Abn
def E86:=E85.a Ac5<|eqT (KP [2,3,4] [10]) PE E85.2 func42 (λ(x y:Sl_)=>k_) Acq AbX
def E87:=E86.M Wj<|mvT [1,2,4] [0] N8 E86.2 func54 (λ(x:Sl_) (k:Int)=>k_)
def E88:=E87.a Wb<|hvT (KP [1,2,4] [10]) N8 E87.2 func64 (λ(x:Sl_) (k:Int)=>k_)
def E89:=E88.a Aha<|szT (KP [1,2,4] [11,17]) Ad9 E88.2 func96 (λ(x:Sw_) (k:Int)=>k_) (λ_=>rfl) Agn
def E90:=E89.a Afc<|toT [1,2,3] Aen Ajl E89.2 func102 (λ(x:Sw_)=>k_) (λ_=>rfl) Aeq
def E91:=E90.a Ahc<|eqT (KP [2,3,4] [9,15,20]) Yj E90.2 func108 (λ(x y:Sw_)=>k_) Ags AfJ
def E92:=E91.a AcA<|szS (KP [0,1,4,5] [11,15,25]) E91.2 func35 (λ(l:List Sw_) (k:Int)=>k_)
def E93:=E92.a AcN<|toS (KP [0,2,3,4] [11]) 56 E92.2 func39 (λ(l:List Sw_)=>k_)
def E94:=E93.a Acu<|eqS (KP [0,1,4,5] [10,14,26]) false E93.2 func43 (λ(l r:List Sw_)=>k_)
def E95:=E94.M US<|mkS (KP [0,1,4,5] [9]) true SL E94.2 func55 (λ(l:List Sw_) (k:Int)=>k_)
def E96:=E95.a VU<|heS (KP [0,1,4,5] [9,19,30,41,52]) SL E95.2 func65 (λ(l:List Sw_) (k:Int)=>k_)
def E97:=E96.a Aio<|szT (KP [1,2,4] [10,16,22]) Ai1 E96.2 func7 (λ(x:Su_) (k:Int)=>k_) (λ_=>rfl) Aiq
def E98:=E97.a AhD<|toT [1,2,3] Ai3 Apa E97.2 func10 (λ(x:Su_)=>k_) (λ_=>rfl) Ah3
def E99:=E98.a Ah0<|eqT (KP [2,3,4] [10,16,22,27]) AhE E98.2 func14 (λ(x y:Su_)=>k_) AhZ AhH
def AnM:=E99.M AcK<|mvT [1,2,4] [0,1,2] Xh E99.2 func17 (λ(x:Su_) (k:Int)=>k_)
def AkB:=AnM.a AaZ<|hvT (KP [1,2,4] [10,16,22]) Xh AnM.2 func20 (λ(x:Su_) (k:Int)=>k_)
def AoG:=AkB.a AfB<|szT (KP [1,2,4] [10,17,24]) Af9 AkB.2 func190 (λ(x:Sp_) (k:Int)=>k_) (λ_=>rfl) AeW
def Ali:=AoG.a Ae3<|toT [1,2,3] Aeh Ajk AoG.2 func219 (λ(x:Sp_)=>k_) (λ_=>rfl) Afi
def AoL:=Ali.a AgN<|eqT (KP [2,3,4] [9,15,20,25,30,35,40]) Y4 Ali.2 func111 (λ(x y:Sp_)=>k_) Agq AeD
def Akq:=AoL.a AaO<|szS (KP [0,1,4,5] [11,15,25]) AoL.2 func127 (λ(l:List Sp_) (k:Int)=>k_)
def Alw:=Akq.a Acx<|toS (KP [0,2,3,4] [11]) 96 Akq.2 func142 (λ(l:List Sp_)=>k_)
def Ann:=Alw.a AbZ<|eqS (KP [0,1,4,5] [10,14,26]) false Alw.2 func49 (λ(l r:List Sp_)=>k_)
def Aln:=Ann.M Wo<|mkS (KP [0,1,4,5] [9]) true Sn Ann.2 func59 (λ(l:List Sp_) (k:Int)=>k_)
def AlV:=Aln.a Wh<|heS (KP [0,1,4,5] [9,18,29,40,50,59,70,79,89]) Sn Aln.2 func69 (λ(l:List Sp_) (k:Int)=>k_)
def AoR:=AlV.a WA<|szT (KP [1,2,4] [10,17]) SW AlV.2 func191 (λ(x:Sg_) (k:Int)=>k_) (λ_=>rfl) XA
def AkG:=AoR.a Xq<|toT [1,2,3] SS Agj AoR.2 func220 (λ(x:Sg_)=>k_) (λ_=>rfl) Xe
def Anh:=AkG.a WZ<|eqT (KP [2,3,4] [10,15,20,25]) L3 AkG.2 func112 (λ(x y:Sg_)=>k_) XQ XK
def Am1:=Anh.a UN<|szS (KP [0,1,4,5] [11,15,25]) Anh.2 func128 (λ(l:List Sg_) (k:Int)=>k_)
def AnN:=Am1.a VF<|toS (KP [0,2,3,4] [11]) 64 Am1.2 func143 (λ(l:List Sg_)=>k_)
def AkA:=AnN.a V9<|eqS (KP [0,1,4,5] [10,14,26]) false AnN.2 func50 (λ(l r:List Sg_)=>k_)
def Aok:=AkA.M QD<|mkS (KP [0,1,4,5] [9]) true L7 AkA.2 func60 (λ(l:List Sg_) (k:Int)=>k_)
def Amh:=Aok.a Qv<|heS (KP [0,1,4,5] [9,20,31,42,51,61]) L7 Aok.2 func70 (λ(l:List Sg_) (k:Int)=>k_)
def Ald:=Amh.a Ag6<|szT (KP [1,2,4] [10,16,22,28,34,40,46,52,58,64]) AfF Amh.2 func73 (λ(x:Sa_) (k:Int)=>k_) (λ_=>rfl) Ag2
def Ala:=Ald.a AfS<|toT [1,2,3] AeC AiT Ald.2 func80 (λ(x:Sa_)=>k_) (λ_=>rfl) Aef
def AmZ:=Ala.a AgL<|eqT (KP [2,3,4] [10,16,22,28,33,39,45,51,57,62,67,72,77,83,89,94]) WP Ala.2 func15 (λ(x y:Sa_)=>k_) Aes Afu
def Ank:=AmZ.M Yx<|mvT [1,2,4] [3,4,5,8,10,11,12,13,14,19,20] Sr AmZ.2 func19 (λ(x:Sa_) (k:Int)=>k_)
def Akh:=Ank.a W8<|hvT (KP [1,2,4] [10,16,22,28,34,40,46,52]) Sr Ank.2 func21 (λ(x:Sa_) (k:Int)=>k_)
def Akw:=Akh.a Ab4<|szT (KP [1,2,4] [10,16]) YY Akh.2 func131 (λ(x:Sm_) (k:Int)=>k_) (λ_=>rfl) Ac9
def Amt:=Akw.a AaL<|toT [1,2,3] Yh AhC Akw.2 func146 (λ(x:Sm_)=>k_) (λ_=>rfl) AbJ
def AmG:=Amt.a Ac4<|eqT (KP [2,3,4] [10,16,21]) Q9 Amt.2 func156 (λ(x y:Sm_)=>k_) Adp Ac1
def Akd:=AmG.a ZG<|szS (KP [0,1,4,5] [11,15,25]) AmG.2 func76 (λ(l:List Sm_) (k:Int)=>k_)
def An1:=Akd.a WL<|toS (KP [0,2,3,4] [11]) 104 Akd.2 func83 (λ(l:List Sm_)=>k_)
def Aow:=An1.a XX<|eqS (KP [0,1,4,5] [10,14,26]) false An1.2 func87 (λ(l r:List Sm_)=>k_)
def An2:=Aow.M SV<|mkS (KP [0,1,4,5] [9]) true Od Aow.2 func89 (λ(l:List Sm_) (k:Int)=>k_)
def AjU:=An2.a Sa<|heS (KP [0,1,4,5] [9,20,31,41,51,62,72,84,95,106]) Od An2.2 func91 (λ(l:List Sm_) (k:Int)=>k_)
def AkW:=AjU.a Af5<|szT (KP [1,2,4] [10,16]) Aga AjU.2 func130 (λ(x:Sj_) (k:Int)=>k_) (λ_=>rfl) Agi
def AlH:=AkW.a Agz<|toT [1,2,3] Aer AiQ AkW.2 func145 (λ(x:Sj_)=>k_) (λ_=>rfl) AeK
def Aml:=AlH.a AgX<|eqT (KP [2,3,4] [10,15,20,26]) Zv AlH.2 func155 (λ(x y:Sj_)=>k_) AeF AfN
def Aj9:=Aml.a Acn<|szS (KP [0,1,4,5] [11,15,25]) Aml.2 func75 (λ(l:List Sj_) (k:Int)=>k_)
def Aor:=Aj9.a AaN<|toS (KP [0,2,3,4] [11]) 112 Aj9.2 func82 (λ(l:List Sj_)=>k_)
def AlX:=Aor.a Acb<|eqS (KP [0,1,4,5] [10,14,26]) false Aor.2 func86 (λ(l r:List Sj_)=>k_)
def Al8:=AlX.M U8<|mkS (KP [0,1,4,5] [9]) true So AlX.2 func88 (λ(l:List Sj_) (k:Int)=>k_)
def AjT:=Al8.a Vw<|heS (KP [0,1,4,5] [9,20,31,40,51,61,71,82,92,104,115]) So Al8.2 func90 (λ(l:List Sj_) (k:Int)=>k_)
def Anr:=AjT.a Lr<|szT (KP [1,2,4] [10,16,22,28,34]) SZ AjT.2 func22 (λ(x:Sc_) (k:Int)=>k_) (λ_=>rfl) Yy
def Ake:=Anr.a Gf<|toT [1,2,3] Rq Afd Anr.2 func24 (λ(x:Sc_)=>k_) (λ_=>rfl) Yp
def AmM:=Ake.a GA<|eqT (KP [2,3,4] [10,16,22,28,34]) LM Ake.2 func26 (λ(x y:Sc_)=>k_) WC XT
def Aj2:=AmM.M EP<|mvT [1,2,4] [0,1,2,7,8,9,12,14,15,16,17,18,23,24,26,27,28] Mc AmM.2 func27 (λ(x:Sc_) (k:Int)=>k_)
def AoE:=Aj2.a GI<|hvT (KP [1,2,4] [10,16,22,28,34]) Mc Aj2.2 func28 (λ(x:Sc_) (k:Int)=>k_)
def countGuess:List Sj_->Nat
 | []=>0
 | c::l=>countGuess l+(if c.guess then 1 else 0)
theorem Jk (l:List Sj_):countGuess l<=l.length:=by
 induction l with
 | nil=>simp[countGuess]
 | cons d l ih=>simp only[countGuess,Qa6];split<;>omega
def fCount:Fct:=⟨[.v (.sl .conn)],[.el .int],λ(x_:(List Sj_)×Unit)=>x_.1.length<=1048576,λ(x_:(List Sj_)×Unit)=>((countGuess x_.1:Int),())⟩
abbrev Ch (l:(List Sj_)):LInv:=⟨[⟨.s,3,true,.el .int⟩,⟨.s,4,true,.el .int⟩],λ_ (x_:Int×Int×Unit)=>0<=x_.2.1/\x_.2.1<=l.length/\0<=x_.1/\x_.1<=x_.2.1/\x_.1+countGuess (l.drop x_.2.1.toNat)=countGuess l,λ(x_:Int×Int×Unit)=>l.length-x_.2.1.toNat⟩
def AjS:=AoE.a fCount<|Fct.p (KP [0,2,3,4] [8,15]) (λ⟨l,_⟩=>lv [(3,Ch l)]) AoE.2 func204 (by
 rintro⟨(l:List Sj_),_⟩ hp;refine ho (lpx (Ch l) ((0:Int),((0:Int),())) λ(y1:Int×Int×PUnit) bk1=>.br (decide (y1.2.1<(l.length:Int))) (.ob (inB y1.2.1 l.length)<|.br ((l.getD y1.2.1.toNat default).guess) (.ob (l=l)<|.ob (Value.int IntKind.i64 0=Value.int IntKind.i64 (0:Int))<|.ob (bk1 (w1 y1.1,(w1 y1.2.1,())))<|.ok) (.ob (l=l)<|.ob (Value.int IntKind.i64 0=Value.int IntKind.i64 (0:Int))<|.ob (bk1 (y1.1,(w1 y1.2.1,())))<|.ok)) (.lf fCount (y1.1,()))) ?_;refine An ?_ λ(y1:Int×Int×PUnit) i1=>Ab (λh2=>Aa ?_ λ_=>Ab (λh4=>Aa rfl λ_=>Aa rfl λ_=>Aa ?_ λ_=>trivial) (λh4=>Aa rfl λ_=>Aa rfl λ_=>Aa ?_ λ_=>trivial)) (λh2=>lfY ?_)
 all_goals
  try simp only[Ch,fCount,std,Nat.reduceAdd,countGuess] at *
  try simp(disch:=omega) only[wrapId',toNat1] at *
  try simp(disch:=omega) only[Qa2,Qa4]
 all_goals first|trivial|omega|grind[wrapId',toNat1,drop_cons,drop_end,good_len,maxLen,countGuess])
abbrev Bq (l:(List Sj_)):LInv:=⟨[⟨.s,3,true,.el .int⟩,⟨.s,8,true,.el .int⟩],λ_ (x_:Int×Int×Unit)=>0<=x_.2.1/\x_.2.1<=l.length/\0<=x_.1/\x_.1<=x_.2.1/\x_.1+countGuess (l.drop x_.2.1.toNat)=countGuess l,λ(x_:Int×Int×Unit)=>l.length-x_.2.1.toNat⟩
def AkI:=AjS.a fCount<|Fct.p (KP [0,2,3,5,6,7,8] [9,13]) (λ⟨l,_⟩=>lv [(3,Bq l)]) AjS.2 func232 (by
 rintro⟨(l:List Sj_),_⟩ hp;refine ho (let q2_:=(l.length:Int);let q1_:=Value.int IntKind.i64 0=Value.int IntKind.i64 (0:Int);let q0_:=Value.int IntKind.i64 q2_=Value.int IntKind.i64 q2_;lpx (Bq l) ((0:Int),((0:Int),())) λ(y1:Int×Int×PUnit) bk1=>.br (decide (y1.2.1<q2_)) (.ob (inB y1.2.1 l.length)<|.br ((l.getD y1.2.1.toNat default).guess) (.ob (l=l)<|.ob q1_<|.ob (l=l)<|.ob q0_<|.ob (bk1 (w1 y1.1,(w1 y1.2.1,())))<|.ok) (.ob (l=l)<|.ob q1_<|.ob (l=l)<|.ob q0_<|.ob (bk1 (y1.1,(w1 y1.2.1,())))<|.ok)) (.lf fCount (y1.1,()))) ?_;repeat' first|(guard_target =~ Out.holds _ _;first|refine An (li:=Bq l) ?_ λ(y1:Int×Int×PUnit) i1=>?_|refine lfY ?_|refine Ab (λ_=>?_) λ_=>?_|refine Aa ?_ λ_=>?_)|exact trivial
 all_goals
  try simp only[Bq,fCount,std,Nat.reduceAdd,countGuess] at *
  try simp(disch:=omega) only[wrapId',toNat1] at *
  try simp(disch:=omega) only[Qa2,Qa4]
 all_goals first|trivial|omega|grind[wrapId',toNat1,drop_cons,drop_end,good_len,maxLen,countGuess])
def findConn (a:Sb_):List Sj_->Int->Int
 | [],_=>-1
 | c::l,i=>if c.to=a then i else findConn a l (i+1)
theorem G8 {a:Sb_} {l:List Sj_} {i:Nat} {z:Int} (h:i<l.length):findConn a (l.drop i) z=if(l.getD i default).to=a then z else findConn a (l.drop (i+1)) (z+1):=by rw[drop_cons h];rfl
theorem Ks {a:Sb_} {l:List Sj_} {i:Nat} {z:Int} (h:l.length<=i):findConn a (l.drop i) z = -1:=by rw[Qb0 h];rfl
theorem P6 (x y:Sb_):(x.host==y.host&&(x.path==y.path&&true))=decide (x=y):=Di x y
def fFind:Fct:=⟨[aL .conn,aE .addr],[rI],λ(x:List Sj_×Sb_×Unit)=>x.1.length<=1048576,λx=>(findConn x.2.1 x.1 0,())⟩
abbrev Lfind (l:List Sj_) (a:Sb_):LInv:=⟨[⟨.s,5,true,.el .int⟩,⟨.b,3,true,.el .addr⟩],λ_ (x:Int×Sb_×Unit)=>0<=x.1/\x.1<=l.length/\x.2.1=a/\findConn a l 0=findConn a (l.drop x.1.toNat) x.1,λ(x:Int×Sb_×Unit)=>l.length-x.1.toNat⟩
def AkL:=AkI.a fFind<|Fct.p (KP [0,3,4,5] [9,18]) (λ⟨l,a,_⟩=>lv [(2,Lfind l a)]) AkI.2 func207 (by
 rintro⟨(l:List Sj_),(a:Sb_),_⟩ hp;refine ho (lpx (Lfind l a) ((0:Int),(a,())) λ(y1:Int×Sb_×PUnit) bk1=>.br (decide (y1.1<(l.length:Int))) (.ob (inB y1.1 l.length)<|.br ((l.getD y1.1.toNat default).to.host==y1.2.1.host&&((l.getD y1.1.toNat default).to.path==y1.2.1.path&&true)) (.lf fFind (y1.1,())) (.ob (l=l)<|.ob (bk1 (w1 y1.1,(y1.2.1,())))<|.ok)) (.lf fFind ((-1:Int),()))) ?_;refine An ?_ λ(y1:Int×Sb_×PUnit) i1=>Ab (λh2=>Aa ?_ λ_=>Ab (λh4=>lfY ?_) (λh4=>Aa rfl λ_=>Aa ?_ λ_=>trivial)) (λh2=>lfY ?_)
 all_goals
  try simp only[Lfind,fFind,std,Nat.reduceAdd] at *
  try simp only[P6,Qa7,Qa9] at *
 ·first|omega|exact⟨o_,o_,by simp⟩
 ·omega
 ·rw[G8 o_,Qa2 (h4.trans i1.2.2.1)] at i1;exact i1.2.2.2.symm
 ·rw[G8 o_,Qa4 (λh=>h4 (h.trans i1.2.2.1.symm))] at i1;have hn:l.length<=1048576:=hp;rw[Ag o_,toNat1 o_];exact⟨⟨o_,o_,i1.2.2.1,i1.2.2.2⟩,o_⟩
 ·rw[Ks o_] at i1;exact i1.2.2.2.symm)
def T7:Fct:=⟨[aE .conn,.p (.el .addr)],[rB],λ_=>True,λx=>(decide (x.1.to=x.2.1),())⟩
def Aol:=AkL.a T7<|Fct.o [1,2,3] AkL.2 func313 (by
 rintro⟨(c:Sj_),(a:Sb_),_⟩ hp;refine ho (.lf T7 (c.to.host==a.host&&(c.to.path==a.path&&true),())) ?_;refine lfY ?_;show(_,())=(_,());rw[P6])
def HM:Fct:=⟨[aL .conn,.c 313 [.el .addr]],[rI],λ(x:List Sj_×(Sb_×Unit)×Unit)=>x.1.length<=1048576,λx=>(findConn x.2.1.1 x.1 0,())⟩
abbrev Lidx (l:List Sj_) (F:List Sj_->Int->Int):LInv:=⟨[⟨.s,8,true,.el .int⟩],λ_ (x:Int×Unit)=>0<=x.1/\x.1<=l.length/\F l 0=F (l.drop x.1.toNat) x.1,λ(x:Int×Unit)=>l.length-x.1.toNat⟩
abbrev Lidxf (l:List Sj_) (a:Sb_×Unit):LInv:=Lidx l (findConn a.1)
def AkQ:=Aol.a HM<|Fct.p (KP [0,1,4,5,7,8] [9,16]) (λ⟨l,a,_⟩=>lv [(2,Lidxf l a)]) Aol.2 func312 (by
 rintro⟨(l:List Sj_),(a:Sb_×PUnit),_⟩ hp;refine ho (lpx (Lidxf l a) ((0:Int),()) λ(y1:Int×PUnit) bk1=>.br (decide (y1.1<(l.length:Int))) (.ob (inB y1.1 l.length)<|.cl T7 (l.getD y1.1.toNat default,a.1,()) λz2=>.br (z2.1) (.lf HM (y1.1,())) (.ob (l=l)<|.ob (enc Ty.addr a.1=enc Ty.addr a.1)<|.ob (Value.int IntKind.i64 (l.length:Int)=Value.int IntKind.i64 (l.length:Int))<|.ob (bk1 (w1 y1.1,()))<|.ok)) (.lf HM ((-1:Int),()))) ?_;refine An ?_ λ(y1:Int×PUnit) i1=>Ab (λh2=>Aa ?_ λ_=>Af trivial λ_=>(Ab (λh4=>lfY ?_) (λh4=>Aa rfl λ_=>Aa rfl λ_=>Aa rfl λ_=>Aa ?_ λ_=>trivial))) (λh2=>lfY ?_)
 all_goals
  try simp only[Lidxf,T7,HM,std,Nat.reduceAdd] at *
  try simp only[P6,Qa7,Qa9] at *
 ·first|omega|exact⟨o_,o_,by simp⟩
 ·omega
 ·rw[G8 o_,Qa2 h4] at i1;exact i1.2.2.symm
 ·rw[G8 o_,Qa4 h4] at i1;have hn:l.length<=1048576:=hp;rw[Ag o_,toNat1 o_];exact⟨⟨o_,o_,i1.2.2⟩,o_⟩
 ·rw[Ks o_] at i1;exact i1.2.2.symm)
def AlL:=AkQ.a fFind<|Fct.o [0,3,4] AkQ.2 func235 (by
 rintro⟨(l:List Sj_),(a:Sb_),_⟩ hp;refine ho (.cl HM (l,(a,()),()) λ(z2:Int×PUnit)=>.lf fFind (z2.1,())) ?_;refine Af ?_ λ_=>(lfY ?_)
 all_goals try simp only[fFind,HM,std,Nat.reduceAdd] at *
 all_goals first|trivial|omega|(simp_all;done)|(simp_all;omega)|grind)
def firstDone:List Sj_->Int->Int
 | [],_=>-1
 | c::l,i=>if c.left<=0 then i else firstDone l (i+1)
theorem FP {l:List Sj_} {i:Nat} {z:Int} (h:i<l.length):firstDone (l.drop i) z=if(l.getD i default).left<=0 then z else firstDone (l.drop (i+1)) (z+1):=by rw[drop_cons h];rfl
theorem II {l:List Sj_} {i:Nat} {z:Int} (h:l.length<=i):firstDone (l.drop i) z = -1:=by rw[Qb0 h];rfl
def Gl:Fct:=⟨[aL .conn],[rI],λ(x:List Sj_×Unit)=>x.1.length<=1048576,λx=>(firstDone x.1 0,())⟩
abbrev Lfirst (l:List Sj_):LInv:=⟨[⟨.s,3,true,.el .int⟩],λ_ (x:Int×Unit)=>0<=x.1/\x.1<=l.length/\firstDone l 0=firstDone (l.drop x.1.toNat) x.1,λ(x:Int×Unit)=>l.length-x.1.toNat⟩
def Akt:=AlL.a Gl<|Fct.p (KP [0,2,3] [7,15]) (λ⟨l,_⟩=>lv [(2,Lfirst l)]) AlL.2 func210 (by
 rintro⟨(l:List Sj_),_⟩ hp;refine ho (lpx (Lfirst l) ((0:Int),()) λ(y1:Int×PUnit) bk1=>.br (decide (y1.1<(l.length:Int))) (.ob (inB y1.1 l.length)<|.br (decide ((l.getD y1.1.toNat default).left<=0)) (.lf Gl (y1.1,())) (.ob (l=l)<|.ob (bk1 (w1 y1.1,()))<|.ok)) (.lf Gl ((-1:Int),()))) ?_;refine An ?_ λ(y1:Int×PUnit) i1=>Ab (λh2=>Aa ?_ λ_=>Ab (λh4=>lfY ?_) (λh4=>Aa rfl λ_=>Aa ?_ λ_=>trivial)) (λh2=>lfY ?_)
 all_goals
  try simp only[Lfirst,Gl,std,Nat.reduceAdd] at *
  try simp only[P6,Qa7,Qa9] at *
 ·first|omega|exact⟨o_,o_,by simp⟩
 ·omega
 ·rw[FP o_,Qa2 h4] at i1;exact i1.2.2.symm
 ·rw[FP o_,Qa4 o_] at i1;have hn:l.length<=1048576:=hp;rw[Ag o_,toNat1 o_];exact⟨⟨o_,o_,i1.2.2⟩,o_⟩
 ·rw[II o_] at i1;exact i1.2.2.symm)
def LO:Fct:=⟨[aE .conn],[rB],λ_=>True,λx=>(decide (x.1.left<=0),())⟩
def Aoo:=Akt.a LO<|Fct.o [1,2] Akt.2 func314 (by
 rintro⟨(c:Sj_),_⟩ hp;refine ho (.lf LO (decide (c.left<=0),())) ?_;refine lfY ?_;all_goals try simp only[LO,std,Nat.reduceAdd] at *
 all_goals first|trivial|omega|(simp_all;done)|(simp_all;omega)|grind)
def Gb:Fct:=⟨[aL .conn,.c 314 []],[rI],λ(x:List Sj_×Unit×Unit)=>x.1.length<=1048576,λx=>(firstDone x.1 0,())⟩
def An3:=Aoo.a Gb<|Fct.p (KP [0,1,4,5,7,8] [9,16]) (λ⟨l,u,_⟩=>lv [(2,Lidx l firstDone)]) Aoo.2 func312 (by
 rintro⟨(l:List Sj_),(u:PUnit),_⟩ hp;refine ho (lpx (Lidx l firstDone) ((0:Int),()) λ(y1:Int×PUnit) bk1=>.br (decide (y1.1<(l.length:Int))) (.ob (inB y1.1 l.length)<|.cl LO (l.getD y1.1.toNat default,()) λz2=>.br (z2.1) (.lf Gb (y1.1,())) (.ob (l=l)<|.ob (Value.int IntKind.i64 (l.length:Int)=Value.int IntKind.i64 (l.length:Int))<|.ob (bk1 (w1 y1.1,()))<|.ok)) (.lf Gb ((-1:Int),()))) ?_;refine An ?_ λ(y1:Int×PUnit) i1=>Ab (λh2=>Aa ?_ λ_=>Af trivial λ_=>(Ab (λh4=>lfY ?_) (λh4=>Aa rfl λ_=>Aa rfl λ_=>Aa ?_ λ_=>trivial))) (λh2=>lfY ?_)
 all_goals
  try simp only[Lidx,LO,Gb,std,Nat.reduceAdd] at *
  try simp only[P6,Qa7,Qa9] at *
 ·first|omega|exact⟨o_,o_,by simp⟩
 ·omega
 ·rw[FP o_,Qa2 h4] at i1;exact i1.2.2.symm
 ·rw[FP o_,Qa4 o_] at i1;have hn:l.length<=1048576:=hp;rw[Ag o_,toNat1 o_];exact⟨⟨o_,o_,i1.2.2⟩,o_⟩
 ·rw[II o_] at i1;exact i1.2.2.symm)
def Alc:=An3.a Gl<|Fct.o [0,2] An3.2 func237 (by
 rintro⟨(l:List Sj_),_⟩ hp;refine ho (.cl Gb (l,(),()) λ(z2:Int×PUnit)=>.lf Gl (z2.1,())) ?_;refine Af ?_ λ_=>(lfY ?_)
 all_goals try simp only[Gl,Gb,std,Nat.reduceAdd] at *
 all_goals first|trivial|omega|(simp_all;done)|(simp_all;omega)|grind)
def inRange (n lo hi:Int):Bool:=decide (lo<=n)&&decide (n<=hi)
def fInRange:Fct:=⟨[aI,aI,aI],[rB],λ_=>True,λ(x:Int×Int×Int×Unit)=>(inRange x.1 x.2.1 x.2.2.1,())⟩
def Aog:=Alc.a fInRange<|Fct.o [0,1,2,6] Alc.2 func180 (by
 rintro⟨(n:Int),(lo:Int),(hi:Int),_⟩ hp;refine ho (.br (decide (lo<=n)) (.lf fInRange (decide (n<=hi),())) (.lf fInRange (false,()))) ?_;refine Ab (λh1=>lfY ?_) (λh1=>lfY ?_);all_goals try simp only[fInRange,std,Nat.reduceAdd,inRange] at *
 all_goals first|trivial|(simp_all;done)|(simp_all;omega)|grind)
def AoJ:=Aog.a fInRange<|Fct.o [0,1,2,6] Aog.2 func208 (by
 rintro⟨(n:Int),(lo:Int),(hi:Int),_⟩ hp;refine ho (.br (decide (n>=lo)) (.lf fInRange (decide (n<=hi),())) (.lf fInRange (false,()))) ?_;refine Ab (λh1=>lfY ?_) (λh1=>lfY ?_);all_goals try simp only[fInRange,std,Nat.reduceAdd,inRange] at *
 all_goals first|trivial|(simp_all;done)|(simp_all;omega)|grind)
def AaA:Fct:=⟨[aI,aI],[rI],λ_=>True,λ(x:Int×Int×Unit)=>(max x.1 x.2.1,())⟩
def Akc:=AoJ.a AaA<|Fct.o (KP [0,1,4] [7]) AoJ.2 func77 (by
 rintro⟨(a:Int),(b:Int),_⟩ hp;refine ho (.br (decide (b>a)) (.lf AaA (b,())) (.lf AaA (a,()))) ?_;refine Ab (λh1=>lfY ?_) (λh1=>lfY ?_);all_goals try simp only[AaA,std,Nat.reduceAdd] at *
 all_goals first|trivial|omega|(simp_all;done)|(simp_all;omega)|grind)
def fCopyConns:Fct:=⟨[aL .conn],[rL .conn],λ(x:List Sj_×Unit)=>x.1.length<=1048576,λ(x:List Sj_×Unit)=>(x.1,())⟩
def AjI:=Akc.a fCopyConns<|Fct.o [0,2] Akc.2 func153 (by
 rintro⟨(l:List Sj_),_⟩ hp;refine ho (.ob (True)<|.ob (Bz (0+List.length l) 112)<|.lf fCopyConns ([]++l,())) ?_;refine Aa trivial λ_=>Aa ?_ λ_=>lfY ?_
 all_goals try simp only[fCopyConns,std,Nat.reduceAdd] at *
 all_goals first|trivial|omega|(simp_all;done)|(simp_all;omega)|grind)
def moveOne (b:Int) (c:Sj_):Sj_:={ c with left:=max 0 (IntKind.i64.wrap (c.left-b))}
def moveConns (l:List Sj_) (b:Int):List Sj_:=if inRange b 0 1000 then l.map (moveOne b) else l
def IS:Fct:=⟨[aL .conn,aI],[rL .conn],λ(x:List Sj_×Int×Unit)=>x.1.length<=1048576,λ(x:List Sj_×Int×Unit)=>(moveConns x.1 x.2.1,())⟩
abbrev L45 (l:List Sj_) (b:Int):LInv:=⟨[⟨.s,6,true,.el .int⟩,⟨.s,5,true,.sl .conn⟩],λ_ (x:Int×List Sj_×Unit)=>0<=x.1/\x.1<=l.length/\x.2.1=moveConns (l.take x.1.toNat) b++l.drop x.1.toNat,λ(x:Int×List Sj_×Unit)=>l.length-x.1.toNat⟩
theorem DO (l:List Sj_) (b:Int):(moveConns l b).length=l.length:=by unfold moveConns;split<;>simp
theorem IQ (b:Int):moveConns [] b=[]:=by unfold moveConns;split<;>rfl
theorem Ie {l:List Sj_} {b:Int} {i:Nat} (hb:inRange b 0 1000=true) (h:i<l.length) {g:Sj_->Sj_} (hg:g (l.getD i default)=moveOne b (l.getD i default)):(moveConns (l.take i) b++l.drop i).modify i g=moveConns (l.take (i+1)) b++l.drop (i+1):=by
 rw[drop_cons h,Hz (by rw[DO,Qc1];omega),take_succ h];simp only[moveConns,hb,Qe8,List.map_append,Qd0,List.map_nil,Qb4,Qf3,Qg3,hg]
theorem Pf {l:List Sj_} {b:Int} {i:Nat} (hb:inRange b 0 1000=false):moveConns (l.take i) b++l.drop i=moveConns l b:=by
 simp[moveConns,hb]
def AkJ:=AjI.a IS<|Fct.p (KP [0,1,4,5,6] [17]) (λ⟨l,b,_⟩=>lv [(3,L45 l b)]) AjI.2 func209 (by
 rintro⟨(l:List Sj_),(b:Int),_⟩ hp;refine ho (.ob (True)<|.ob (Bz (0+l.length) 112)<|lpx (L45 l b) ((0:Int),([]++l,())) λ(y2:Int×List Sj_×PUnit) bk2=>.br (decide (y2.1<(l.length:Int))) (.cl fInRange (b,(0:Int),(1000:Int),()) λz2=>.br (z2.1) (.ob (inB y2.1 l.length)<|.cl AaA ((0:Int),wr ((l.getD y2.1.toNat default).left-b),()) λ(z3:Int×PUnit)=>.ob (inB y2.1 y2.2.1.length)<|.ob (y2.1.toNat<y2.2.1.length)<|.lt (List Sj_) (y2.2.1.modify y2.1.toNat λz=>(⟨z.to,z3.1,z.guess,z.bd⟩:Sj_)) λz4=>.ob (l=l)<|.ob (Value.int IntKind.i64 b=Value.int IntKind.i64 b)<|.ob (bk2 (w1 y2.1,(z4,())))<|.ok) (.lf IS (y2.2.1,()))) (.lf IS (y2.2.1,()))) ?_;refine Aa trivial λ_=>Aa ?_ λ_=>An ?_ λ(y2:Int×List Sj_×PUnit) i2=>Ab (λh3=>Af trivial λ_=>(Ab (λh4=>Aa ?_ λ_=>Af trivial λ_=>(Aa ?_ λ_=>Aa ?_ λ_=>DQ (Aa rfl λ_=>Aa rfl λ_=>Aa ?_ λ_=>trivial))) (λh4=>lfY ?_))) (λh3=>lfY ?_)
 all_goals
  try simp only[L45,fInRange,AaA,IS,std,Nat.reduceAdd] at *
  try have hln:y2.2.1.length=l.length:=by rw[i2.2.2,Qa3,DO,Qc1,Qd8];omega
 ·omega
 ·exact⟨o_,o_,by simp[IQ]⟩
 ·omega
 ·omega
 ·omega
 ·rw[Ag o_,toNat1 o_,i2.2.2,Ie h4 o_ (by simp[moveOne,AaA])];exact⟨⟨o_,o_,rfl⟩,o_⟩
 ·rw[i2.2.2,Pf h4]
 ·rw[i2.2.2,Qb1 o_,Qb0 o_,Qd5])
abbrev L46 (l:List Sj_) (b:Int):LInv:=⟨[⟨.s,15,true,.el .int⟩,⟨.s,5,true,.sl .conn⟩],λ_ (x:Int×List Sj_×Unit)=>0<=x.1/\x.1<=l.length/\x.2.1=moveConns (l.take x.1.toNat) b++l.drop x.1.toNat,λ(x:Int×List Sj_×Unit)=>l.length-x.1.toNat⟩
def AkY:=AkJ.a IS<|Fct.p (KP [0,1,4,5,6,14,15] [11,16]) (λ⟨l,b,_⟩=>lv [(5,L46 l b)]) AkJ.2 func236 (by
 rintro⟨(l:List Sj_),(b:Int),_⟩ hp;refine ho (.cl fCopyConns (l,()) λz2=>.cl fInRange (b,(0:Int),(1000:Int),()) λz3=>.br (!z3.1) (.lf IS (z2.1,())) (lpx (L46 l b) ((0:Int),(z2.1,())) λ(y3:Int×List Sj_×PUnit) bk3=>.br (decide (y3.1<(z2.1.length:Int))) (.ob (inB y3.1 y3.2.1.length)<|.ob (y3.1.toNat<y3.2.1.length)<|.ob (inB y3.1 y3.2.1.length)<|.ob (y3.1.toNat<y3.2.1.length)<|.lt (List Sj_) (y3.2.1.modify y3.1.toNat λz=>(⟨z.to,if wr ((y3.2.1.getD y3.1.toNat default).left-b)>0 then wr ((y3.2.1.getD y3.1.toNat default).left-b) else(0:Int),z.guess,z.bd⟩:Sj_)) λz4=>.ob (l=l)<|.ob (Value.int IntKind.i64 b=Value.int IntKind.i64 b)<|.ob (Value.int IntKind.i64 (z2.1.length:Int)=Value.int IntKind.i64 (z2.1.length:Int))<|.ob (bk3 (w1 y3.1,(z4,())))<|.ok) (.lf IS (y3.2.1,())))) ?_;refine Af ?_ λ_=>(Af trivial λ_=>(Ab (λh2=>lfY ?_) (λh2=>An ?_ λ(y3:Int×List Sj_×PUnit) i3=>Ab (λh4=>Aa ?_ λ_=>Aa ?_ λ_=>Aa ?_ λ_=>Aa ?_ λ_=>DQ (Aa rfl λ_=>Aa rfl λ_=>Aa rfl λ_=>Aa ?_ λ_=>trivial)) (λh4=>lfY ?_))))
 all_goals
  try simp only[Hg] at *
  try simp only[L46,fCopyConns,fInRange,IS,std,Nat.reduceAdd] at *
  try have hln:y3.2.1.length=l.length:=by rw[i3.2.2,Qa3,DO,Qc1,Qd8];omega
 ·omega
 ·rw[moveConns,h2];rfl
 ·exact⟨o_,o_,by simp[IQ]⟩
 ·omega
 ·omega
 ·omega
 ·omega
 ·rw[Ag o_,toNat1 o_];refine⟨⟨o_,o_,?_⟩,o_⟩;have hA:(moveConns (l.take y3.1.toNat) b).length=y3.1.toNat:=by rw[DO,Qc1];omega
  have hget:y3.2.1.getD y3.1.toNat default=l.getD y3.1.toNat default:=by rw[i3.2.2,drop_cons (i:=y3.1.toNat) o_,getD_at hA]
  rw[hget,i3.2.2,Ie h2 o_];simp only[moveOne];congr 1;split<;>omega
 ·rw[i3.2.2,Qb1 o_,Qb0 o_,Qd5])
def sizeResponse (x:Sd_):Int:=x.body.size+20
def Cu:Fct:=⟨[aE .bd],[rI],λ(x:Sd_×Unit)=>x.1.body.size<=1000000000000,λ(x:Sd_×Unit)=>(sizeResponse x.1,())⟩
def AmH:=AkY.a Cu<|Fct.o [1,2] AkY.2 func283 (by
 rintro⟨(x:Sd_),_⟩ hp;refine ho (.lf Cu (wr ((x.body.size:Int)+20),())) ?_;refine lfY ?_;all_goals try simp only[Cu,std,Nat.reduceAdd,sizeResponse] at *
 rw[Ag o_])
def AkT:=AmH.a Cu<|Fct.o [1,2] AmH.2 func305 (by
 rintro⟨(x:Sd_),_⟩ hp;refine ho (.lf Cu (wr ((x.body.size:Int)+20),())) ?_;refine lfY ?_;all_goals try simp only[Cu,std,Nat.reduceAdd,sizeResponse] at *
 rw[Ag o_])
def openConn (l:List Sj_) (a:Sb_) (x:Sd_) (g:Bool):List Sj_×Bool:=if(l.length:Int)>=3\/findConn a l 0>=0 then(l,false) else(l++[⟨a,sizeResponse x,g,x⟩],true)
def fOpen:Fct:=⟨[aL .conn,aE .addr,aE .bd,aB],[rL .conn,rB],λ(x:List Sj_×Sb_×Sd_×Bool×Unit)=>x.1.length<=1048576/\x.2.2.1.body.size<=1048576,λ(x:List Sj_×Sb_×Sd_×Bool×Unit)=>((openConn x.1 x.2.1 x.2.2.1 x.2.2.2.1).1,(openConn x.1 x.2.1 x.2.2.1 x.2.2.2.1).2,())⟩
def AoK:=AkT.a fOpen<|Fct.o (KP [0,3,5,6,8,9,10] [22]) AkT.2 func202 (by
 rintro⟨(l:List Sj_),(a:Sb_),(x:Sd_),(g:Bool),_⟩ hp;refine ho (.ob (True)<|.ob (Bz (0+List.length l) 112)<|.br (decide ((↑(List.length l):Int)>=3)) (.lf fOpen ([]++l,false,())) (.cl fFind (l,a,()) λ(z2:Int×PUnit)=>.br (decide (z2.1>=0)) (.lf fOpen ([]++l,false,())) (.cl Cu (x,()) λ(z3:Int×PUnit)=>.ob (True)<|.ob (Bz (([]++l).length+[(⟨a,z3.1,g,x⟩:Sj_)].length) 112)<|.lf fOpen ([]++l++[(⟨a,z3.1,g,x⟩:Sj_)],true,())))) ?_;refine Aa trivial λ_=>Aa ?_ λ_=>Ab (λh2=>lfY ?_) (λh2=>Af ?_ λ_=>(Ab (λh4=>lfY ?_) (λh4=>Af ?_ λ_=>(Aa trivial λ_=>Aa ?_ λ_=>lfY ?_))))
 all_goals
  have hp1:l.length<=1048576:=hp.1;have hp3:x.body.size<=1048576:=hp.2;clear hp;try simp only[Hg] at *
  try simp only[fFind,fOpen,Cu,std,Nat.reduceAdd,fCopyConns,Qa3,Qa6,Qb9] at *
 all_goals first|trivial|omega|(simp[openConn,h2];done)|(simp[openConn,h4];done)|(have hh:¬ ((3:Int)<=(l.length:Int)\/0<=findConn a l 0):=by omega;simp[openConn,hh];done)|skip
 all_goals
  rw[openConn,Qa4 (show ¬ ((l.length:Int)>=3\/findConn a l 0>=0) by rintro(h|h)<;>omega)];exact⟨rfl,rfl⟩)
def Amr:=AoK.a fOpen<|Fct.o (KP [0,3,5,6,8,9,10] [21]) AoK.2 func230 (by
 rintro⟨(l:List Sj_),(a:Sb_),(x:Sd_),(g:Bool),_⟩ hp;refine ho (.cl fCopyConns (l,()) λz2=>.br (decide ((↑(List.length l):Int)>=3)) (.lf fOpen (z2.1,false,())) (.cl fFind (l,a,()) λ(z3:Int×PUnit)=>.br (decide (z3.1>=0)) (.lf fOpen (z2.1,false,())) (.cl Cu (x,()) λ(z4:Int×PUnit)=>.ob (True)<|.ob (Bz (z2.1.length+[(⟨a,z4.1,g,x⟩:Sj_)].length) 112)<|.lf fOpen (z2.1++[(⟨a,z4.1,g,x⟩:Sj_)],true,())))) ?_;refine Af ?_ λ_=>(Ab (λh2=>lfY ?_) (λh2=>Af ?_ λ_=>(Ab (λh4=>lfY ?_) (λh4=>Af ?_ λ_=>(Aa trivial λ_=>Aa ?_ λ_=>lfY ?_)))))
 all_goals
  have hp1:l.length<=1048576:=hp.1;have hp3:x.body.size<=1048576:=hp.2;clear hp;try simp only[Hg] at *
  try simp only[fCopyConns,fFind,fOpen,Cu,std,Nat.reduceAdd,Qa3,Qa6,Qb9] at *
 all_goals first|trivial|omega|(simp[openConn,h2];done)|(simp[openConn,h4];done)|(have hh:¬ ((3:Int)<=(l.length:Int)\/0<=findConn a l 0):=by omega;simp[openConn,hh];done)|skip
 all_goals
  rw[openConn,Qa4 (show ¬ ((l.length:Int)>=3\/findConn a l 0>=0) by rintro(h|h)<;>omega)];exact⟨rfl,rfl⟩)
def ER:Fct:=⟨[.v (.sl .addr),.v (.el .addr)],[.el .int],λ(x_:(List Sb_)×Sb_×Unit)=>x_.1.length<=1000000000000000000,λ(x_:(List Sb_)×Sb_×Unit)=>(fidx (λc=>decide (c=x_.2.1)) x_.1 0,())⟩
abbrev A0 (l:(List Sb_)) (a:Sb_):LInv:=⟨[⟨.s,8,true,.el .int⟩,⟨.b,3,true,.el .addr⟩],λ(z_ x_:Int×Sb_×Unit)=>(0<=x_.1/\x_.1<=l.length/\fidx (λc=>decide (c=a)) l 0=fidx (λc=>decide (c=a)) (l.drop x_.1.toNat) x_.1)/\x_.2.1=z_.2.1,λ(x_:Int×Sb_×Unit)=>l.length-x_.1.toNat⟩
def AoQ:=Amr.a ER<|Fct.p (KP [0,3,4,5,7,8] [9,16]) (λ⟨l,a,_⟩=>lv [(2,A0 l a)]) Amr.2 func439 (by
 rintro⟨(l:List Sb_),(a:Sb_),_⟩ hp;refine ho (lpx (A0 l a) ((0:Int),(a,())) λ(y1:Int×Sb_×PUnit) bk1=>.br (decide (y1.1<(l.length:Int))) (.ob (inB y1.1 l.length)<|.br (y1.2.1.host==(l.getD y1.1.toNat default).host&&(y1.2.1.path==(l.getD y1.1.toNat default).path&&true)) (.lf ER (y1.1,())) (.ob (l=l)<|.ob (Value.int IntKind.i64 (l.length:Int)=Value.int IntKind.i64 (l.length:Int))<|.ob (bk1 (w1 y1.1,(y1.2.1,())))<|.ok)) (.lf ER ((-1:Int),()))) ?_;refine An ?_ λ(y1:Int×Sb_×PUnit) i1=>Ab (λh2=>Aa ?_ λ_=>Ab (λh4=>lfY ?_) (λh4=>Aa rfl λ_=>Aa rfl λ_=>Aa ?_ λ_=>trivial)) (λh2=>lfY ?_)
 all_goals
  try simp only[Di] at *
  try simp only[A0,ER,std,Nat.reduceAdd,fidx] at *
  try simp(disch:=omega) only[wrapId',toNat1] at *
  try simp(disch:=omega) only[Qa2,Qa4]
 all_goals first|trivial|omega|grind[wrapId',toNat1,drop_cons,drop_end,good_len,maxLen,fidx])
def C2:Fct:=⟨[.v (.sl .addr),.v (.el .addr)],[.el .bool],λ(x_:(List Sb_)×Sb_×Unit)=>x_.1.length<=1000000000000000000,λ(x_:(List Sb_)×Sb_×Unit)=>(x_.1.any λc=>decide (c=x_.2.1),())⟩
def Anl:=AoQ.a C2<|Fct.o [0,3,4] AoQ.2 func378 (by
 rintro⟨(l:List Sb_),(a:Sb_),_⟩ hp;refine ho (.cl ER (l,a,()) λ(z2:Int×PUnit)=>.lf C2 (decide (z2.1>=0),())) ?_;refine Af ?_ λ_=>(lfY ?_)
 all_goals try simp only[C2,ER,std,Nat.reduceAdd] at *
 all_goals first|trivial|omega|(rw[Bool.eq_iff_iff];exact decide_eq_true_iff.trans (Im _ _ _ o_)))
def fHasAddr:Fct:=⟨[.v (.sl .addr),.v (.el .addr)],[.el .bool],λ(x_:(List Sb_)×Sb_×Unit)=>x_.1.length<=1000000000000000000,λ(x_:(List Sb_)×Sb_×Unit)=>(x_.1.any λc=>decide (c=x_.2.1),())⟩
abbrev Dt (l:(List Sb_)) (a:Sb_):LInv:=⟨[⟨.s,5,true,.el .int⟩,⟨.b,3,true,.el .addr⟩],λ(z_ x_:Int×Sb_×Unit)=>(0<=x_.1/\x_.1<=l.length/\l.any (λc=>decide (c=a))=(l.drop x_.1.toNat).any (λc=>decide (c=a)))/\x_.2.1=z_.2.1,λ(x_:Int×Sb_×Unit)=>l.length-x_.1.toNat⟩
def Akg:=Anl.a fHasAddr<|Fct.p (KP [0,3,4,5] [9,17]) (λ⟨l,a,_⟩=>lv [(2,Dt l a)]) Anl.2 func275 (by
 rintro⟨(l:List Sb_),(a:Sb_),_⟩ hp;refine ho (lpx (Dt l a) ((0:Int),(a,())) λ(y1:Int×Sb_×PUnit) bk1=>.br (decide (y1.1<(l.length:Int))) (.ob (inB y1.1 l.length)<|.br ((l.getD y1.1.toNat default).host==y1.2.1.host&&((l.getD y1.1.toNat default).path==y1.2.1.path&&true)) (.lf fHasAddr (true,())) (.ob (l=l)<|.ob (bk1 (w1 y1.1,(y1.2.1,())))<|.ok)) (.lf fHasAddr (false,()))) ?_;refine An ?_ λ(y1:Int×Sb_×PUnit) i1=>Ab (λh2=>Aa ?_ λ_=>Ab (λh4=>lfY ?_) (λh4=>Aa rfl λ_=>Aa ?_ λ_=>trivial)) (λh2=>lfY ?_)
 all_goals
  try simp only[Di] at *
  try simp only[Dt,fHasAddr,std,Nat.reduceAdd] at *
  try simp(disch:=omega) only[wrapId',toNat1] at *
  try simp(disch:=omega) only[Qa2,Qa4]
 all_goals first|trivial|omega|grind[wrapId',toNat1,drop_cons,drop_end,good_len,maxLen])
def Am0:=Akg.a fHasAddr<|Fct.o [0,3,4] Akg.2 func297 (by
 rintro⟨(l:List Sb_),(a:Sb_),_⟩ hp;refine ho (.cl C2 (l,a,()) λz2=>.lf fHasAddr (z2.1,())) ?_;refine Af ?_ λ_=>(lfY ?_)
 all_goals
  try simp only[Di] at *
  try simp only[C2,fHasAddr,std,Nat.reduceAdd] at *
  try simp(disch:=omega) only[wrapId',toNat1] at *
  try simp(disch:=omega) only[Qa2,Qa4]
 all_goals first|trivial|omega|grind[wrapId',toNat1,drop_cons,drop_end,good_len,maxLen])
def withoutAddrs (d:List Sb_):List Sf_->List Sf_
 | []=>[]
 | r::l=>if d.any (λc=>decide (c=r.to)) then withoutAddrs d l else r::withoutAddrs d l
def BI:Fct:=⟨[.v (.sl .request),.v (.sl .addr)],[.sl .request],λ(x_:(List Sf_)×(List Sb_)×Unit)=>x_.1.length<=1000000000000/\x_.2.1.length<=1048576,λ(x_:(List Sf_)×(List Sb_)×Unit)=>(withoutAddrs x_.2.1 x_.1,())⟩
abbrev BN (l:(List Sf_)) (d:(List Sb_)):LInv:=⟨[⟨.s,5,true,.sl .request⟩,⟨.s,6,true,.el .int⟩],λ_ (x_:(List Sf_)×Int×Unit)=>0<=x_.2.1/\x_.2.1<=l.length/\x_.1.length<=x_.2.1/\withoutAddrs d l=x_.1++withoutAddrs d (l.drop x_.2.1.toNat),λ(x_:(List Sf_)×Int×Unit)=>l.length-x_.2.1.toNat⟩
def AoT:=Am0.a BI<|Fct.p (KP [0,1,4,5,6] [11,21]) (λ⟨l,d,_⟩=>lv [(3,BN l d)]) Am0.2 func196 (by
 rintro⟨(l:List Sf_),(d:List Sb_),_⟩ hp;refine ho (lpx (BN l d) ([],((0:Int),())) λ(y1:List Sf_×Int×PUnit) bk1=>.br (decide (y1.2.1<(l.length:Int))) (.ob (inB y1.2.1 l.length)<|.cl fHasAddr (d,(l.getD y1.2.1.toNat default).to,()) λz2=>.br (!z2.1) (.ob (inB y1.2.1 l.length)<|.ob (True)<|.ob (Bz (y1.1.length+[l.getD y1.2.1.toNat default].length) 72)<|.ob (l=l)<|.ob (d=d)<|.ob (bk1 (y1.1++[l.getD y1.2.1.toNat default],(w1 y1.2.1,())))<|.ok) (.ob (l=l)<|.ob (d=d)<|.ob (bk1 (y1.1,(w1 y1.2.1,())))<|.ok)) (.lf BI (y1.1,()))) ?_;refine An ?_ λ(y1:List Sf_×Int×PUnit) i1=>Ab (λh2=>Aa ?_ λ_=>Af ?_ λ_=>(Ab (λh5=>Aa ?_ λ_=>Aa trivial λ_=>Aa ?_ λ_=>Aa rfl λ_=>Aa rfl λ_=>Aa ?_ λ_=>trivial) (λh5=>Aa rfl λ_=>Aa rfl λ_=>Aa ?_ λ_=>trivial))) (λh2=>lfY ?_)
 all_goals
  try simp only[BN,fHasAddr,BI,std,Nat.reduceAdd,withoutAddrs] at *
  try simp(disch:=omega) only[wrapId',toNat1] at *
  try simp(disch:=omega) only[Qa2,Qa4]
 all_goals first|trivial|omega|grind[wrapId',toNat1,drop_cons,drop_end,good_len,maxLen,withoutAddrs,fHasAddr])
abbrev A7 (l:(List Sf_)) (d:(List Sb_)):LInv:=⟨[⟨.s,5,true,.sl .request⟩,⟨.s,11,true,.el .int⟩],λ_ (x_:(List Sf_)×Int×Unit)=>0<=x_.2.1/\x_.2.1<=l.length/\x_.1.length<=x_.2.1/\withoutAddrs d l=x_.1++withoutAddrs d (l.drop x_.2.1.toNat),λ(x_:(List Sf_)×Int×Unit)=>l.length-x_.2.1.toNat⟩
def Alo:=AoT.a BI<|Fct.p (KP [0,1,4,5,7,9,10,11] [12,19]) (λ⟨l,d,_⟩=>lv [(3,A7 l d)]) AoT.2 func225 (by
 rintro⟨(l:List Sf_),(d:List Sb_),_⟩ hp;refine ho (lpx (A7 l d) ([],((0:Int),())) λ(y1:List Sf_×Int×PUnit) bk1=>.br (decide (y1.2.1<(l.length:Int))) (.ob (inB y1.2.1 l.length)<|.cl fHasAddr (d,(l.getD y1.2.1.toNat default).to,()) λz2=>.br (!z2.1) (.ob (True)<|.ob (Bz (y1.1.length+[l.getD y1.2.1.toNat default].length) 72)<|.ob (l=l)<|.ob (d=d)<|.ob (l=l)<|.ob (Value.int IntKind.i64 (l.length:Int)=Value.int IntKind.i64 (l.length:Int))<|.ob (bk1 (y1.1++[l.getD y1.2.1.toNat default],(w1 y1.2.1,())))<|.ok) (.ob (l=l)<|.ob (d=d)<|.ob (l=l)<|.ob (Value.int IntKind.i64 (l.length:Int)=Value.int IntKind.i64 (l.length:Int))<|.ob (bk1 (y1.1,(w1 y1.2.1,())))<|.ok)) (.lf BI (y1.1,()))) ?_;repeat' first|(guard_target =~ Out.holds _ _;first|refine An (li:=A7 l d) ?_ λ(y1:List Sf_×Int×PUnit) i1=>?_|refine lfY ?_|refine Ab (λ_=>?_) λ_=>?_|refine Af ?_ λ_=>?_|refine Aa ?_ λ_=>?_)|exact trivial
 all_goals
  try simp only[A7,fHasAddr,BI,std,Nat.reduceAdd,withoutAddrs] at *
  try simp(disch:=omega) only[wrapId',toNat1] at *
  try simp(disch:=omega) only[Qa2,Qa4]
 all_goals first|trivial|omega|grind[wrapId',toNat1,drop_cons,drop_end,good_len,maxLen,withoutAddrs,fHasAddr])
theorem Hb (d:List Sb_) (l:List Sf_):(withoutAddrs d l).length<=l.length:=by
 induction l<;>grind[withoutAddrs]
def Fx:Fct:=⟨[.v (.sl .str),.v (.el .str)],[.el .int],λ(x_:(List ByteArray)×ByteArray×Unit)=>x_.1.length<=1000000000000000000,λ(x_:(List ByteArray)×ByteArray×Unit)=>(fidx (λc=>decide (c=x_.2.1)) x_.1 0,())⟩
abbrev Bb (l:(List ByteArray)) (a:ByteArray):LInv:=⟨[⟨.s,8,true,.el .int⟩],λ_ (x_:Int×Unit)=>0<=x_.1/\x_.1<=l.length/\fidx (λc=>decide (c=a)) l 0=fidx (λc=>decide (c=a)) (l.drop x_.1.toNat) x_.1,λ(x_:Int×Unit)=>l.length-x_.1.toNat⟩
def Ajx:=Alo.a Fx<|Fct.p (KP [0,1,4,5,7,8] [9,16]) (λ⟨l,a,_⟩=>lv [(2,Bb l a)]) Alo.2 func488 (by
 rintro⟨(l:List ByteArray),(a:ByteArray),_⟩ hp;refine ho (lpx (Bb l a) ((0:Int),()) λ(y1:Int×PUnit) bk1=>.br (decide (y1.1<(l.length:Int))) (.ob (inB y1.1 l.length)<|.br (a.toList==(l.getD y1.1.toNat default).toList) (.lf Fx (y1.1,())) (.ob (l=l)<|.ob (Value.string a=Value.string a)<|.ob (Value.int IntKind.i64 (l.length:Int)=Value.int IntKind.i64 (l.length:Int))<|.ob (bk1 (w1 y1.1,()))<|.ok)) (.lf Fx ((-1:Int),()))) ?_;refine An ?_ λ(y1:Int×PUnit) i1=>Ab (λh2=>Aa ?_ λ_=>Ab (λh4=>lfY ?_) (λh4=>Aa rfl λ_=>Aa rfl λ_=>Aa rfl λ_=>Aa ?_ λ_=>trivial)) (λh2=>lfY ?_)
 all_goals
  try simp only[Aib,AhB] at *
  try simp only[Bb,Fx,std,Nat.reduceAdd,fidx] at *
  try simp(disch:=omega) only[wrapId',toNat1] at *
  try simp(disch:=omega) only[Qa2,Qa4]
 all_goals first|trivial|omega|grind[wrapId',toNat1,drop_cons,drop_end,good_len,maxLen,fidx])
def fContains_str:Fct:=⟨[.v (.sl .str),.v (.el .str)],[.el .bool],λ(x_:(List ByteArray)×ByteArray×Unit)=>x_.1.length<=1000000000000000000,λ(x_:(List ByteArray)×ByteArray×Unit)=>(x_.1.any λc=>decide (c=x_.2.1),())⟩
def Aot:=Ajx.a fContains_str<|Fct.o [0,1,4] Ajx.2 func447 (by
 rintro⟨(l:List ByteArray),(a:ByteArray),_⟩ hp;refine ho (.cl Fx (l,a,()) λ(z2:Int×PUnit)=>.lf fContains_str (decide (z2.1>=0),())) ?_;refine Af ?_ λ_=>(lfY ?_)
 all_goals try simp only[fContains_str,Fx,std,Nat.reduceAdd] at *
 all_goals first|trivial|omega|(rw[Bool.eq_iff_iff];exact decide_eq_true_iff.trans (Im _ _ _ o_)))
def fHas9:Fct:=⟨[.v (.sl .str),.v (.el .str)],[.el .bool],λ(x_:(List ByteArray)×ByteArray×Unit)=>x_.1.length<=1000000000000000000,λ(x_:(List ByteArray)×ByteArray×Unit)=>(x_.1.any λc=>decide (c=x_.2.1),())⟩
abbrev Ed (l:(List ByteArray)) (s:ByteArray):LInv:=⟨[⟨.s,5,true,.el .int⟩],λ_ (x_:Int×Unit)=>0<=x_.1/\x_.1<=l.length/\l.any (λc=>decide (c=s))=(l.drop x_.1.toNat).any (λc=>decide (c=s)),λ(x_:Int×Unit)=>l.length-x_.1.toNat⟩
def Aod:=Aot.a fHas9<|Fct.p (KP [0,1,4,5] [9,17]) (λ⟨l,s,_⟩=>lv [(2,Ed l s)]) Aot.2 func426 (by
 rintro⟨(l:List ByteArray),(s:ByteArray),_⟩ hp;refine ho (lpx (Ed l s) ((0:Int),()) λ(y1:Int×PUnit) bk1=>.br (decide (y1.1<(l.length:Int))) (.ob (inB y1.1 l.length)<|.br ((l.getD y1.1.toNat default).toList==s.toList) (.lf fHas9 (true,())) (.ob (l=l)<|.ob (Value.string s=Value.string s)<|.ob (bk1 (w1 y1.1,()))<|.ok)) (.lf fHas9 (false,()))) ?_;refine An ?_ λ(y1:Int×PUnit) i1=>Ab (λh2=>Aa ?_ λ_=>Ab (λh4=>lfY ?_) (λh4=>Aa rfl λ_=>Aa rfl λ_=>Aa ?_ λ_=>trivial)) (λh2=>lfY ?_)
 all_goals
  try simp only[Ed,fHas9,std,Nat.reduceAdd] at *
  try simp(disch:=omega) only[wrapId',toNat1] at *
  try simp(disch:=omega) only[Qa2,Qa4]
 all_goals first|trivial|omega|grind[wrapId',toNat1,drop_cons,drop_end,good_len,maxLen])
def blockedOn (p:Sa_):Sb_×Bool:=if 1<=p.block/\p.block<=p.bf.length then((p.bf.getD (p.block-1).toNat default).to,true) else(default,false)
def Dj:Fct:=⟨[.v (.el .page)],[.el .addr,.el .bool],λ(x_:Sa_×Unit)=>x_.1.bf.length<=1000000000000/\-9223372036854775808<=x_.1.block/\x_.1.block<=9223372036854775807,λ(x_:Sa_×Unit)=>((blockedOn x_.1).1,(blockedOn x_.1).2,())⟩
def AoS:=Aod.a Dj<|Fct.o (KP [1,2,3] [10]) Aod.2 func356 (by
 rintro⟨(p:Sa_),_⟩ hp;refine ho (.cl fInRange (p.block,(1:Int),(p.bf.length:Int),()) λz2=>.br (!z2.1) (.lf Dj (default,false,())) (.ob (0<=wr (p.block-(1:Int))/\wr (p.block-(1:Int))<(p.bf.length:Int))<|.lf Dj ((p.bf.getD (wr (p.block-(1:Int))).toNat default).to,true,()))) ?_;refine Af trivial λ_=>(Ab (λh1=>lfY ?_) (λh1=>Aa ?_ λ_=>lfY ?_))
 all_goals
  try simp only[Dj,fInRange,std,Nat.reduceAdd,blockedOn,inRange] at *
  try simp(disch:=omega) only[wrapId',toNat1] at *
  try simp(disch:=omega) only[Qa2,Qa4]
 all_goals first|trivial|omega|grind[wrapId',toNat1,drop_cons,drop_end,good_len,maxLen,blockedOn,fInRange,inRange])
def AkP:=AoS.a Dj<|Fct.o (KP [1,2,3,4] [21]) AoS.2 func380 (by
 rintro⟨(p:Sa_),_⟩ hp;refine ho (.br (p.block==0) (.lf Dj (default,false,())) (.br (decide (wr (p.block-(1:Int))<0)) (.lf Dj (default,false,())) (.br (decide (wr (p.block-(1:Int))>=(p.bf.length:Int))) (.lf Dj (default,false,())) (.ob (0<=wr (p.block-(1:Int))/\wr (p.block-(1:Int))<(p.bf.length:Int))<|.lf Dj ((p.bf.getD (wr (p.block-(1:Int))).toNat default).to,true,()))))) ?_;refine Ab (λh1=>lfY ?_) (λh1=>Ab (λh2=>lfY ?_) (λh2=>Ab (λh3=>lfY ?_) (λh3=>Aa ?_ λ_=>lfY ?_)));all_goals
  try simp only[Dj,std,Nat.reduceAdd,blockedOn] at *
  try simp only[IntKind.wrap_i64] at *
  try simp(disch:=omega) only[Qa2,Qa4]
 all_goals first|trivial|omega|skip
 rw[show((p.block-1+9223372036854775808) % 18446744073709551616-9223372036854775808).toNat=(p.block-1).toNat from o_];trivial)
def classOf (p:Sa_) (r:Sf_):Int:=if(blockedOn p).2=true/\(blockedOn p).1=r.to then 0 else if r.kind=3 then 1 else if r.kind=2 then 2 else if r.kind=5 then 3 else if r.kind=4 then 4 else 5
def fClassOf:Fct:=⟨[.v (.el .page),.v (.el .request)],[.el .int],λ(x_:Sa_×Sf_×Unit)=>x_.1.bf.length<=1000000000000/\-9223372036854775808<=x_.1.block/\x_.1.block<=9223372036854775807,λ(x_:Sa_×Sf_×Unit)=>(classOf x_.1 x_.2.1,())⟩
theorem q0 (p:Sa_) (r:Sf_) (hp:fClassOf.pre (p,r,())):Out.holds (fClassOf.ctr (p,r,())).post (let q0_:Out:=.br (r.kind==3) (.lf fClassOf ((1:Int),())) (.br (r.kind==2) (.lf fClassOf ((2:Int),())) (.br (r.kind==5) (.lf fClassOf ((3:Int),())) (.br (r.kind==4) (.lf fClassOf ((4:Int),())) (.lf fClassOf ((5:Int),())))));.cl Dj (p,()) λz2=>.br (z2.2.1) (.br (z2.1.host==r.to.host&&(z2.1.path==r.to.path&&true)) (.lf fClassOf ((0:Int),())) q0_) q0_):=by
 repeat' (guard_target =~ Out.holds _ _;first|refine lfY ?_|refine Ab (λ_=>?_) λ_=>?_|refine Af ?_ λ_=>?_)
 all_goals
  try simp only[Di] at *
  try simp only[Dj,fClassOf,std,Nat.reduceAdd,classOf] at *
  try simp(disch:=omega) only[wrapId',toNat1] at *
  try simp(disch:=omega) only[Qa2,Qa4]
 all_goals first|trivial|omega|grind[wrapId',toNat1,drop_cons,drop_end,good_len,maxLen,classOf]
def Aoz:=AkP.a fClassOf<|Fct.o (KP [2,3,4,5,6,20] [18,21,23,25,27]) AkP.2 func280 (by
 rintro⟨(p:Sa_),(r:Sf_),_⟩ hp;exact ho _ (q0 p r hp))
def AkS:=Aoz.a fClassOf<|Fct.o (KP [2,3,4,5,6,20] [18,21,23,25,27]) Aoz.2 func302 (by
 rintro⟨(p:Sa_),(r:Sf_),_⟩ hp;exact ho _ (q0 p r hp))
theorem H2 {l:List St_} {i:Nat} (h:i<l.length):(l.getD i default).bo.length+l.length<=szL szNode l:=by
 have:=DH szNode h;have h2:=Ac A3 (l.getD i default).bo;simp only[szNode] at this;omega
theorem GF {l:List Sh_} {i:Nat} (h:i<l.length):(l.getD i default).bo.length+l.length<=szL szToken l:=by
 have:=DH szToken h;have h2:=Ac A3 (l.getD i default).bo;simp only[szToken] at this;omega
def pickReq (p:Sa_):List Sf_->Int->Int->Int->Int
 | [],_,best,_=>best
 | r::l,i,best,bc=>if best<0\/classOf p r<bc then pickReq p l (i+1) i (classOf p r) else pickReq p l (i+1) best bc
def Cc:Fct:=⟨[.v (.el .page),.v (.sl .request)],[.el .int],λ(x_:Sa_×(List Sf_)×Unit)=>x_.1.bf.length<=1000000000000/\(-9223372036854775808<=x_.1.block/\x_.1.block<=9223372036854775807)/\x_.2.1.length<=1000000000000,λ(x_:Sa_×(List Sf_)×Unit)=>(pickReq x_.1 x_.2.1 0 (-1) 0,())⟩
abbrev Be (p:Sa_) (l:(List Sf_)):LInv:=⟨[⟨.s,5,true,.el .int⟩,⟨.s,6,true,.el .int⟩,⟨.b,2,false,.el .page⟩],λ(z_ x_:Int×Int×Sa_×Unit)=>(0<=x_.2.1/\x_.2.1<=l.length/\-1<=x_.1/\x_.1<x_.2.1/\(x_.1 = -1->x_.2.1=0)/\pickReq p (l.drop x_.2.1.toNat) x_.2.1 x_.1 (if x_.1<0 then 0 else classOf p (l.getD x_.1.toNat default))=pickReq p l 0 (-1) 0)/\x_.2.2.1=z_.2.2.1,λ(x_:Int×Int×Sa_×Unit)=>l.length-x_.2.1.toNat⟩
def AnF:=AkS.a Cc<|Fct.p (KP [1,2,4,5,6] [10,29]) (λ⟨p,l,_⟩=>lv [(3,Be p l)]) AkS.2 func199 (by
 rintro⟨(p:Sa_),(l:List Sf_),_⟩ hp;refine ho (let q1_:=Value.int IntKind.i64 0=Value.int IntKind.i64 (0:Int);lpx (Be p l) ((-1:Int),((0:Int),(p,()))) λ(y1:Int×Int×Sa_×PUnit) bk1=>let q0_:Out:=.ob (l=l)<|.ob q1_<|.ob (bk1 (y1.2.1,(w1 y1.2.1,(y1.2.2.1,()))))<|.ok;.br (decide (y1.2.1<(l.length:Int))) (.br (decide (y1.1<0)) q0_ (.ob (inB y1.2.1 l.length)<|.cl fClassOf (y1.2.2.1,l.getD y1.2.1.toNat default,()) λ(z2:Int×PUnit)=>.ob (inB y1.1 l.length)<|.cl fClassOf (y1.2.2.1,l.getD y1.1.toNat default,()) λ(z3:Int×PUnit)=>.br (decide (z2.1<z3.1)) q0_ (.ob (l=l)<|.ob q1_<|.ob (bk1 (y1.1,(w1 y1.2.1,(y1.2.2.1,()))))<|.ok))) (.lf Cc (y1.1,()))) ?_;repeat' first|(guard_target =~ Out.holds _ _;first|refine An (li:=Be p l) ?_ λ(y1:Int×Int×Sa_×PUnit) i1=>?_|refine lfY ?_|refine Ab (λ_=>?_) λ_=>?_|refine Af ?_ λ_=>?_|refine Aa ?_ λ_=>?_)|exact trivial
 all_goals
  try simp only[Be,fClassOf,Cc,std,Nat.reduceAdd,pickReq] at *
  try simp(disch:=omega) only[wrapId',toNat1] at *
  try simp(disch:=omega) only[Qa2,Qa4]
 all_goals first|trivial|omega|grind[wrapId',toNat1,drop_cons,drop_end,good_len,maxLen,pickReq,fClassOf])
abbrev Bc (p:Sa_) (l:(List Sf_)):LInv:=⟨[⟨.s,5,true,.el .int⟩,⟨.s,10,true,.el .int⟩,⟨.b,2,false,.el .page⟩],λ(z_ x_:Int×Int×Sa_×Unit)=>(0<=x_.2.1/\x_.2.1<=l.length/\-1<=x_.1/\x_.1<x_.2.1/\(x_.1 = -1->x_.2.1=0)/\pickReq p (l.drop x_.2.1.toNat) x_.2.1 x_.1 (if x_.1<0 then 0 else classOf p (l.getD x_.1.toNat default))=pickReq p l 0 (-1) 0)/\x_.2.2.1=z_.2.2.1,λ(x_:Int×Int×Sa_×Unit)=>l.length-x_.2.1.toNat⟩
def Amk:=AnF.a Cc<|Fct.p (KP [1,2,4,5,6,7,8,9,10] [11,28]) (λ⟨p,l,_⟩=>lv [(3,Bc p l)]) AnF.2 func227 (by
 rintro⟨(p:Sa_),(l:List Sf_),_⟩ hp;refine ho (let q3_:=(l.length:Int);let q2_:=Value.int IntKind.i64 0=Value.int IntKind.i64 (0:Int);let q1_:=Value.int IntKind.i64 q3_=Value.int IntKind.i64 q3_;lpx (Bc p l) ((-1:Int),((0:Int),(p,()))) λ(y1:Int×Int×Sa_×PUnit) bk1=>let q0_:Out:=.ob (l=l)<|.ob q2_<|.ob (l=l)<|.ob q1_<|.ob (bk1 (y1.2.1,(w1 y1.2.1,(y1.2.2.1,()))))<|.ok;.br (decide (y1.2.1<q3_)) (.ob (inB y1.2.1 l.length)<|.br (decide (y1.1<0)) q0_ (.cl fClassOf (y1.2.2.1,l.getD y1.2.1.toNat default,()) λ(z2:Int×PUnit)=>.ob (inB y1.1 l.length)<|.cl fClassOf (y1.2.2.1,l.getD y1.1.toNat default,()) λ(z3:Int×PUnit)=>.br (decide (z2.1<z3.1)) q0_ (.ob (l=l)<|.ob q2_<|.ob (l=l)<|.ob q1_<|.ob (bk1 (y1.1,(w1 y1.2.1,(y1.2.2.1,()))))<|.ok))) (.lf Cc (y1.1,()))) ?_;repeat' first|(guard_target =~ Out.holds _ _;first|refine An (li:=Bc p l) ?_ λ(y1:Int×Int×Sa_×PUnit) i1=>?_|refine lfY ?_|refine Ab (λ_=>?_) λ_=>?_|refine Af ?_ λ_=>?_|refine Aa ?_ λ_=>?_)|exact trivial
 all_goals
  try simp only[Bc,fClassOf,Cc,std,Nat.reduceAdd,pickReq] at *
  try simp(disch:=omega) only[wrapId',toNat1] at *
  try simp(disch:=omega) only[Qa2,Qa4]
 all_goals first|trivial|omega|grind[wrapId',toNat1,drop_cons,drop_end,good_len,maxLen,pickReq,fClassOf])
def fUnused:Fct:=⟨[.v (.sl .guess)],[.el .int],λ(x_:(List Sm_)×Unit)=>x_.1.length<=4194304,λ(x_:(List Sm_)×Unit)=>(countIf (λg=>!g.used) x_.1,())⟩
abbrev CB (l:(List Sm_)):LInv:=⟨[⟨.s,3,true,.el .int⟩,⟨.s,4,true,.el .int⟩],λ_ (x_:Int×Int×Unit)=>0<=x_.2.1/\x_.2.1<=l.length/\0<=x_.1/\x_.1<=x_.2.1/\x_.1+countIf (λg=>!g.used) (l.drop x_.2.1.toNat)=countIf (λg=>!g.used) l,λ(x_:Int×Int×Unit)=>l.length-x_.2.1.toNat⟩
def AlF:=Amk.a fUnused<|Fct.p (KP [0,2,3,4] [8,16]) (λ⟨l,_⟩=>lv [(3,CB l)]) Amk.2 func203 (by
 rintro⟨(l:List Sm_),_⟩ hp;refine ho (lpx (CB l) ((0:Int),((0:Int),())) λ(y1:Int×Int×PUnit) bk1=>.br (decide (y1.2.1<(l.length:Int))) (.ob (inB y1.2.1 l.length)<|.br (!(l.getD y1.2.1.toNat default).used) (.ob (l=l)<|.ob (Value.int IntKind.i64 0=Value.int IntKind.i64 (0:Int))<|.ob (bk1 (w1 y1.1,(w1 y1.2.1,())))<|.ok) (.ob (l=l)<|.ob (Value.int IntKind.i64 0=Value.int IntKind.i64 (0:Int))<|.ob (bk1 (y1.1,(w1 y1.2.1,())))<|.ok)) (.lf fUnused (y1.1,()))) ?_;refine An ?_ λ(y1:Int×Int×PUnit) i1=>Ab (λh2=>Aa ?_ λ_=>Ab (λh4=>Aa rfl λ_=>Aa rfl λ_=>Aa ?_ λ_=>trivial) (λh4=>Aa rfl λ_=>Aa rfl λ_=>Aa ?_ λ_=>trivial)) (λh2=>lfY ?_)
 all_goals
  try simp only[CB,fUnused,std,Nat.reduceAdd,countIf,countIf_le] at *
  try simp(disch:=omega) only[wrapId',toNat1] at *
  try simp(disch:=omega) only[Qa2,Qa4]
 all_goals first|trivial|omega|grind[wrapId',toNat1,drop_cons,drop_end,good_len,maxLen,countIf,countIf_le])
abbrev Bw (l:(List Sm_)):LInv:=⟨[⟨.s,3,true,.el .int⟩,⟨.s,8,true,.el .int⟩],λ_ (x_:Int×Int×Unit)=>0<=x_.2.1/\x_.2.1<=l.length/\0<=x_.1/\x_.1<=x_.2.1/\x_.1+countIf (λg=>!g.used) (l.drop x_.2.1.toNat)=countIf (λg=>!g.used) l,λ(x_:Int×Int×Unit)=>l.length-x_.2.1.toNat⟩
def Aon:=AlF.a fUnused<|Fct.p (KP [0,2,3,5,6,7,8] [9,14]) (λ⟨l,_⟩=>lv [(3,Bw l)]) AlF.2 func231 (by
 rintro⟨(l:List Sm_),_⟩ hp;refine ho (let q2_:=(l.length:Int);let q1_:=Value.int IntKind.i64 0=Value.int IntKind.i64 (0:Int);let q0_:=Value.int IntKind.i64 q2_=Value.int IntKind.i64 q2_;lpx (Bw l) ((0:Int),((0:Int),())) λ(y1:Int×Int×PUnit) bk1=>.br (decide (y1.2.1<q2_)) (.ob (inB y1.2.1 l.length)<|.br (!(l.getD y1.2.1.toNat default).used) (.ob (l=l)<|.ob q1_<|.ob (l=l)<|.ob q0_<|.ob (bk1 (w1 y1.1,(w1 y1.2.1,())))<|.ok) (.ob (l=l)<|.ob q1_<|.ob (l=l)<|.ob q0_<|.ob (bk1 (y1.1,(w1 y1.2.1,())))<|.ok)) (.lf fUnused (y1.1,()))) ?_;repeat' first|(guard_target =~ Out.holds _ _;first|refine An (li:=Bw l) ?_ λ(y1:Int×Int×PUnit) i1=>?_|refine lfY ?_|refine Ab (λ_=>?_) λ_=>?_|refine Aa ?_ λ_=>?_)|exact trivial
 all_goals
  try simp only[Bw,fUnused,std,Nat.reduceAdd,countIf,countIf_le] at *
  try simp(disch:=omega) only[wrapId',toNat1] at *
  try simp(disch:=omega) only[Qa2,Qa4]
 all_goals first|trivial|omega|grind[wrapId',toNat1,drop_cons,drop_end,good_len,maxLen,countIf,countIf_le])
def fCopyAttrs:Fct:=⟨[.v (.sl .attr)],[.sl .attr],λ(x_:(List Ss_)×Unit)=>x_.1.length<=1099511627776,λ(x_:(List Ss_)×Unit)=>(x_.1,())⟩
def Aki:=Aon.a fCopyAttrs<|Fct.o [0,2] Aon.2 func290 (by
 rintro⟨(l:List Ss_),_⟩ hp;refine ho (.ob (True)<|.ob (Bz (0+List.length l) 32)<|.lf fCopyAttrs ([]++l,())) ?_;refine Aa trivial λ_=>Aa ?_ λ_=>lfY ?_
 all_goals
  try simp only[fCopyAttrs,std,Nat.reduceAdd] at *
  try simp(disch:=omega) only[wrapId',toNat1] at *
  try simp(disch:=omega) only[Qa2,Qa4]
 all_goals first|trivial|omega|grind[wrapId',toNat1,drop_cons,drop_end,good_len,maxLen])
def fCopyToken:Fct:=⟨[.v (.el .token)],[.el .token],λ(x_:Sh_×Unit)=>x_.1.bo.length<=1099511627776,λ(x_:Sh_×Unit)=>(x_.1,())⟩
def An8:=Aki.a fCopyToken<|Fct.o [1,2] Aki.2 func317 (by
 rintro⟨(t:Sh_),_⟩ hp;refine ho (.ob (True)<|.ob (Bz (0+t.bo.length) 32)<|.lf fCopyToken (⟨t.kind,t.name,[]++t.bo,t.text⟩,())) ?_;refine Aa trivial λ_=>Aa ?_ λ_=>lfY ?_
 all_goals
  try simp only[fCopyToken,std,Nat.reduceAdd] at *
  try simp(disch:=omega) only[wrapId',toNat1] at *
  try simp(disch:=omega) only[Qa2,Qa4]
 all_goals first|trivial|omega|grind[wrapId',toNat1,drop_cons,drop_end,good_len,maxLen])
def fCopyTokens:Fct:=⟨[.v (.sl .token)],[.sl .token],λ(x_:(List Sh_)×Unit)=>szL szToken x_.1<=1099511627776,λ(x_:(List Sh_)×Unit)=>(x_.1,())⟩
abbrev CC (l:(List Sh_)):LInv:=⟨[⟨.s,3,true,.sl .token⟩,⟨.s,4,true,.el .int⟩],λ_ (x_:(List Sh_)×Int×Unit)=>0<=x_.2.1/\x_.2.1<=l.length/\x_.1=l.take x_.2.1.toNat,λ(x_:(List Sh_)×Int×Unit)=>l.length-x_.2.1.toNat⟩
def AnE:=An8.a fCopyTokens<|Fct.p (KP [0,2,3,4,5] [10]) (λ⟨l,_⟩=>lv [(3,CC l)]) An8.2 func215 (by
 rintro⟨(l:List Sh_),_⟩ hp;refine ho (lpx (CC l) ([],((0:Int),())) λ(y1:List Sh_×Int×PUnit) bk1=>let q2_:=inB y1.2.1 l.length;let q0_:=l.getD y1.2.1.toNat default;.br (decide (y1.2.1<(l.length:Int))) (.ob q2_<|.ob q2_<|.cl fCopyAttrs (q0_.bo,()) λz2=>let q1_:=(⟨q0_.kind,q0_.name,z2.1,q0_.text⟩:Sh_);.ob (Bz (y1.1.length+[q1_].length) 64)<|.ob (l=l)<|.ob (bk1 (y1.1++[q1_],(w1 y1.2.1,())))<|.ok) (.lf fCopyTokens (y1.1,()))) ?_;refine An ?_ λ(y1:List Sh_×Int×PUnit) i1=>Ab (λh2=>Aa ?_ λ_=>Aa ?_ λ_=>Af ?_ λ_=>(Aa ?_ λ_=>Aa rfl λ_=>Aa ?_ λ_=>trivial)) (λh2=>lfY ?_)
 all_goals
  have hl:=Ac szToken l;try have hg:=GF (l:=l) (i:=y1.2.1.toNat)
  try have hg:=GF (l:=l) (i:=y2.2.1.toNat)
  try simp only[CC,fCopyAttrs,fCopyTokens,std,Nat.reduceAdd,fCopyToken,take_succ,take_end] at *
  try simp(disch:=omega) only[wrapId',toNat1] at *
  try simp(disch:=omega) only[Qa2,Qa4]
 all_goals first|trivial|omega|grind[wrapId',toNat1,drop_cons,drop_end,good_len,maxLen,fCopyAttrs,fCopyToken,take_succ,take_end])
abbrev Ci (l:(List Sh_)):LInv:=⟨[⟨.s,3,true,.sl .token⟩,⟨.s,9,true,.el .int⟩],λ_ (x_:(List Sh_)×Int×Unit)=>0<=x_.2.1/\x_.2.1<=l.length/\x_.1=l.take x_.2.1.toNat,λ(x_:(List Sh_)×Int×Unit)=>l.length-x_.2.1.toNat⟩
def AlK:=AnE.a fCopyTokens<|Fct.p (KP [0,2,3,5,7,8,9] [10]) (λ⟨l,_⟩=>lv [(3,Ci l)]) AnE.2 func245 (by
 rintro⟨(l:List Sh_),_⟩ hp;refine ho (lpx (Ci l) ([],((0:Int),())) λ(y1:List Sh_×Int×PUnit) bk1=>.br (decide (y1.2.1<(l.length:Int))) (.ob (inB y1.2.1 l.length)<|.cl fCopyToken (l.getD y1.2.1.toNat default,()) λz2=>.ob (Bz (y1.1.length+[z2.1].length) 64)<|.ob (l=l)<|.ob (l=l)<|.ob (Value.int IntKind.i64 (l.length:Int)=Value.int IntKind.i64 (l.length:Int))<|.ob (bk1 (y1.1++[z2.1],(w1 y1.2.1,())))<|.ok) (.lf fCopyTokens (y1.1,()))) ?_;refine An ?_ λ(y1:List Sh_×Int×PUnit) i1=>Ab (λh2=>Aa ?_ λ_=>Af ?_ λ_=>(Aa ?_ λ_=>Aa rfl λ_=>Aa rfl λ_=>Aa rfl λ_=>Aa ?_ λ_=>trivial)) (λh2=>lfY ?_)
 all_goals
  have hl:=Ac szToken l;try have hg:=GF (l:=l) (i:=y1.2.1.toNat)
  try have hg:=GF (l:=l) (i:=y2.2.1.toNat)
  try simp only[Ci,fCopyToken,fCopyTokens,std,Nat.reduceAdd,fCopyAttrs,take_succ,take_end] at *
  try simp(disch:=omega) only[wrapId',toNat1] at *
  try simp(disch:=omega) only[Qa2,Qa4]
 all_goals first|trivial|omega|grind[wrapId',toNat1,drop_cons,drop_end,good_len,maxLen,fCopyAttrs,fCopyToken,take_succ,take_end])
theorem builder_take {b:Se_} {n:Nat} (h:b.bi.length<=n):(⟨b.bi.take n,b.bl⟩:Se_)=b:=by rw[Qb1 h]
def fCopyBuilder:Fct:=⟨[.v (.el .ba)],[.el .ba],λ(x_:Se_×Unit)=>szBuilder x_.1<=1099511627776,λ(x_:Se_×Unit)=>(x_.1,())⟩
abbrev CW (b:Se_):LInv:=⟨[⟨.b,3,true,.el .ba⟩,⟨.s,4,true,.el .int⟩,⟨.b,1,false,.el .ba⟩,⟨.b,2,true,.el .ba⟩],λ(z_ x_:Se_×Int×Se_×Se_×Unit)=>((0<=x_.2.1/\x_.2.1<=b.bi.length/\x_.1=⟨b.bi.take x_.2.1.toNat,b.bl⟩)/\x_.2.2.1=z_.2.2.1)/\x_.2.2.2.1=z_.2.2.2.1,λ(x_:Se_×Int×Se_×Se_×Unit)=>b.bi.length-x_.2.1.toNat⟩
def Ama:=AlK.a fCopyBuilder<|Fct.p (KP [1,2,3,4,5] [15]) (λ⟨b,_⟩=>lv [(3,CW b)]) AlK.2 func216 (by
 rintro⟨(b:Se_),_⟩ hp;refine ho (.ob (True)<|.ob (Bz (0+b.bl.length) 8)<|lpx (CW b) ((⟨[],[]++b.bl⟩:Se_),((0:Int),(b,(default,())))) λ(y2:Se_×Int×Se_×Se_×PUnit) bk2=>let q2_:=inB y2.2.1 y2.2.2.1.bi.length;let q0_:=y2.2.2.1.bi.getD y2.2.1.toNat default;.br (decide (y2.2.1<(y2.2.2.1.bi.length:Int))) (.ob q2_<|.ob q2_<|.cl fCopyAttrs (q0_.bo,()) λz2=>let q1_:=(⟨q0_.name,q0_.text,q0_.parent,z2.1⟩:St_);.ob (Bz (y2.1.bi.length+[q1_].length) 64)<|.ob (bk2 ((⟨y2.1.bi++[q1_],y2.1.bl⟩:Se_),(w1 y2.2.1,(y2.2.2.1,(y2.2.2.2.1,())))))<|.ok) (.lf fCopyBuilder (y2.1,()))) ?_;refine Aa trivial λ_=>Aa ?_ λ_=>An ?_ λ(y2:Se_×Int×Se_×Se_×PUnit) i2=>Ab (λh3=>Aa ?_ λ_=>Aa ?_ λ_=>Af ?_ λ_=>(Aa ?_ λ_=>Aa ?_ λ_=>trivial)) (λh3=>lfY ?_)
 all_goals
  have hl:=Ac szNode b.bi;try have hg:=H2 (l:=b.bi) (i:=y1.2.1.toNat)
  try have hg:=H2 (l:=b.bi) (i:=y2.2.1.toNat)
  try simp only[CW,fCopyAttrs,fCopyBuilder,std,Nat.reduceAdd,take_succ,builder_take,szBuilder] at *
  try simp(disch:=omega) only[wrapId',toNat1] at *
  try simp(disch:=omega) only[Qa2,Qa4]
 all_goals first|trivial|omega|grind[wrapId',toNat1,drop_cons,drop_end,good_len,maxLen,fCopyAttrs,take_succ,builder_take,szBuilder])
abbrev BW (b:Se_):LInv:=⟨[⟨.b,3,true,.el .ba⟩,⟨.s,14,true,.el .int⟩,⟨.b,2,true,.el .ba⟩],λ(z_ x_:Se_×Int×Se_×Unit)=>(0<=x_.2.1/\x_.2.1<=b.bi.length/\x_.1=⟨b.bi.take x_.2.1.toNat,b.bl⟩)/\x_.2.2.1=z_.2.2.1,λ(x_:Se_×Int×Se_×Unit)=>b.bi.length-x_.2.1.toNat⟩
def AjD:=Ama.a fCopyBuilder<|Fct.p (KP [1,2,3,5,12,13,14] [15]) (λ⟨b,_⟩=>lv [(3,BW b)]) Ama.2 func246 (by
 rintro⟨(b:Se_),_⟩ hp;refine ho (let q2_:=(b.bi.length:Int);.ob (True)<|.ob (Bz (0+b.bl.length) 8)<|lpx (BW b) ((⟨[],[]++b.bl⟩:Se_),((0:Int),(default,()))) λ(y2:Se_×Int×Se_×PUnit) bk2=>let q0_:=b.bi.getD y2.2.1.toNat default;let q1_:=(⟨q0_.name,q0_.text,q0_.parent,[]++q0_.bo⟩:St_);.br (decide (y2.2.1<q2_)) (.ob (inB y2.2.1 b.bi.length)<|.ob (True)<|.ob (Bz (0+q0_.bo.length) 32)<|.ob (Bz (y2.1.bi.length+[q1_].length) 64)<|.ob (b.bi=b.bi)<|.ob (Value.int IntKind.i64 q2_=Value.int IntKind.i64 q2_)<|.ob (bk2 ((⟨y2.1.bi++[q1_],y2.1.bl⟩:Se_),(w1 y2.2.1,(y2.2.2.1,()))))<|.ok) (.lf fCopyBuilder (y2.1,()))) ?_;refine Aa trivial λ_=>Aa ?_ λ_=>An ?_ λ(y2:Se_×Int×Se_×PUnit) i2=>Ab (λh3=>Aa ?_ λ_=>Aa trivial λ_=>Aa ?_ λ_=>Aa ?_ λ_=>Aa rfl λ_=>Aa rfl λ_=>Aa ?_ λ_=>trivial) (λh3=>lfY ?_)
 all_goals
  have hl:=Ac szNode b.bi;try have hg:=H2 (l:=b.bi) (i:=y1.2.1.toNat)
  try have hg:=H2 (l:=b.bi) (i:=y2.2.1.toNat)
  try simp only[BW,fCopyBuilder,std,Nat.reduceAdd,fCopyAttrs,take_succ,builder_take,szBuilder] at *
  try simp(disch:=omega) only[wrapId',toNat1] at *
  try simp(disch:=omega) only[Qa2,Qa4]
 all_goals first|trivial|omega|grind[wrapId',toNat1,drop_cons,drop_end,good_len,maxLen,fCopyAttrs,take_succ,builder_take,szBuilder])
def fCopyPolicy:Fct:=⟨[.v (.el .bj)],[.el .bj],λ(x_:Si_×Unit)=>szPolicy x_.1<=1099511627776,λ(x_:Si_×Unit)=>(x_.1,())⟩
def Alk:=AjD.a fCopyPolicy<|Fct.o [1,2] AjD.2 func214 (by
 rintro⟨(p:Si_),_⟩ hp;refine ho (.ob (True)<|.ob (Bz p.bp.length 16)<|.ob (True)<|.ob (Bz p.styles.length 16)<|.ob (True)<|.ob (Bz p.images.length 16)<|.lf fCopyPolicy (p,())) ?_;refine Aa trivial λ_=>Aa ?_ λ_=>Aa trivial λ_=>Aa ?_ λ_=>Aa trivial λ_=>Aa ?_ λ_=>lfY ?_
 all_goals
  have hl1:=Ac Ad p.bp;have hl2:=Ac Ad p.styles;have hl3:=Ac Ad p.images;try simp only[fCopyPolicy,std,Nat.reduceAdd,szPolicy] at *
  try simp(disch:=omega) only[wrapId',toNat1] at *
  try simp(disch:=omega) only[Qa2,Qa4]
 all_goals first|trivial|omega|grind[wrapId',toNat1,drop_cons,drop_end,good_len,maxLen,szPolicy])
def Ao1:=Alk.a fCopyPolicy<|Fct.o [1,2] Alk.2 func244 (by
 rintro⟨(p:Si_),_⟩ hp;refine ho (.ob (True)<|.ob (Bz (0+p.bp.length) 16)<|.ob (True)<|.ob (Bz (0+p.styles.length) 16)<|.ob (True)<|.ob (Bz (0+p.images.length) 16)<|.lf fCopyPolicy (⟨p.set_,[]++p.bp,[]++p.styles,[]++p.images,p.nonce⟩,())) ?_;refine Aa trivial λ_=>Aa ?_ λ_=>Aa trivial λ_=>Aa ?_ λ_=>Aa trivial λ_=>Aa ?_ λ_=>lfY ?_
 all_goals
  have hl1:=Ac Ad p.bp;have hl2:=Ac Ad p.styles;have hl3:=Ac Ad p.images;try simp only[fCopyPolicy,std,Nat.reduceAdd,szPolicy] at *
  try simp(disch:=omega) only[wrapId',toNat1] at *
  try simp(disch:=omega) only[Qa2,Qa4]
 all_goals first|trivial|omega|grind[wrapId',toNat1,drop_cons,drop_end,good_len,maxLen,szPolicy])
def fCopyPage:Fct:=⟨[.v (.el .page)],[.el .page],λ(x_:Sa_×Unit)=>szPage x_.1<=1099511627776,λ(x_:Sa_×Unit)=>(x_.1,())⟩
theorem q1 (p:Sa_) (hp:fCopyPage.pre (p,())):Out.holds (fCopyPage.ctr (p,())).post (.cl fCopyPolicy (p.bj,()) λz2=>.cl fCopyTokens (p.bn,()) λz3=>.cl fCopyBuilder (p.ba,()) λz4=>.ob (True)<|.ob (Bz (0+p.bf.length) 96)<|.ob (True)<|.ob (Bz (0+p.bh.length) 64)<|.ob (True)<|.ob (Bz (0+p.bg.length) 32)<|.ob (True)<|.ob (Bz (0+p.ran.length) 32)<|.ob (True)<|.ob (Bz (0+p.log.length) 16)<|.lf fCopyPage (⟨p.addr,z2.1,p.tok,z3.1,p.ended,z4.1,[]++p.bf,[]++p.bh,[]++p.bg,p.block,p.inline,p.bm,p.bq,[]++p.ran,[]++p.log,p.loaded⟩,())):=by
 repeat' first|(guard_target =~ Out.holds _ _;first|refine lfY ?_|refine Af ?_ λ_=>?_|refine Aa ?_ λ_=>?_)|exact trivial
 all_goals
  have hl1:=Ac AA p.bf;have hl2:=Ac Aj p.bh;have hl3:=Ac szAddr p.bg;have hl4:=Ac szAddr p.ran;have hl5:=Ac Ad p.log;try simp only[fCopyBuilder,fCopyPage,fCopyPolicy,fCopyTokens,std,Nat.reduceAdd,szPage] at *
  try simp(disch:=omega) only[wrapId',toNat1] at *
  try simp(disch:=omega) only[Qa2,Qa4]
 all_goals first|trivial|omega|grind[wrapId',toNat1,drop_cons,drop_end,good_len,maxLen,szPage,fCopyPolicy,fCopyTokens,fCopyBuilder]
def Aoc:=Ao1.a fCopyPage<|Fct.o [1,2,3] Ao1.2 func137 (by
 rintro⟨(p:Sa_),_⟩ hp;exact ho _ (q1 p hp))
def AnD:=Aoc.a fCopyPage<|Fct.o [1,2] Aoc.2 func152 (by
 rintro⟨(p:Sa_),_⟩ hp;exact ho _ (q1 p hp))
def A1:Fct:=⟨[.v (.el .addr),.v (.el .addr)],[.el .int],λ(x_:Sb_×Sb_×Unit)=>True,λ(x_:Sb_×Sb_×Unit)=>(cmpA x_.1 x_.2.1,())⟩
def App:=AnD.a A1<|Fct.o (KP [2,3,4] [5,9]) AnD.2 func424 (by
 rintro⟨(a:Sb_),(b:Sb_),_⟩ hp;refine ho (.br (a.host==b.host&&(a.path==b.path&&true)) (.lf A1 ((0:Int),())) (.br (Op.bytesLess a.host.toList b.host.toList) (.lf A1 ((-1:Int),())) (.br (a.host.toList==b.host.toList) (.br (Op.bytesLess a.path.toList b.path.toList) (.lf A1 ((-1:Int),())) (.lf A1 ((1:Int),()))) (.lf A1 ((1:Int),()))))) ?_;repeat' (guard_target =~ Out.holds _ _;first|refine lfY ?_|refine Ab (λ_=>?_) λ_=>?_)
 all_goals try simp only[Di,Y8,Qa7,Qa9] at *
 all_goals
  have h1:=JW a.host b.host;have h2:=JW a.path b.path;have h3:=U7 a b;have h4:=AfZ (a:=a) (b:=b);have h5:=Mw (a:=a.host) (b:=b.host);have h6:=Mw (a:=a.path) (b:=b.path);try simp only[A1,std,Nat.reduceAdd,cmpA] at *
  try simp(disch:=omega) only[wrapId',toNat1] at *
  try simp(disch:=omega) only[Qa2,Qa4]
 all_goals first|trivial|omega|grind[wrapId',toNat1,drop_cons,drop_end,good_len,maxLen,cmpA])
def laysCmp_r:Go.Shelf.Ren:=⟨λ|0=>0|1=>1|2=>2|99=>572|101=>263|103=>428|106=>485|109=>488|110=>447|125=>266|128=>341|129=>342|137=>367|138=>396|143=>397|145=>429|146=>262|156=>331|165=>401|166=>402|169=>403|171=>506|172=>523|189=>181|195=>449|197=>450|205=>553|206=>398|208=>329|210=>470|213=>509|215=>409|216=>338|217=>427|218=>451|219=>452|220=>471|221=>328|224=>491|225=>490|240=>455|241=>456|243=>517|244=>527|245=>528|246=>524|247=>536|257=>265|260=>489|265=>519|266=>469|267=>492|268=>395|276=>494|277=>495|279=>537|280=>538|281=>539|282=>540|283=>529|284=>530|285=>531|286=>532|287=>551|294=>332|295=>333|296=>334|297=>335|298=>336|299=>337|300=>339|301=>340|314=>511|316=>552|317=>541|318=>542|319=>543|320=>544|321=>562|322=>563|328=>404|329=>405|330=>406|331=>407|332=>408|337=>554|338=>555|343=>457|347=>581|348=>582|349=>583|350=>584|351=>585|352=>586|353=>587|354=>588|355=>589|356=>590|357=>591|358=>592|359=>593|360=>594|361=>595|362=>596|363=>610|364=>597|365=>598|366=>611|367=>626|_=>0,λ|0=>0|1=>1|2=>2|3=>3|4=>4|5=>5|6=>6|7=>7|8=>8|9=>9|10=>10|11=>11|12=>12|13=>13|14=>14|15=>15|16=>16|17=>17|18=>18|19=>19|20=>20|21=>21|22=>398|23=>310|24=>378|25=>433|27=>397|28=>31|30=>65|31=>42|32=>471|33=>432|34=>63|35=>237|36=>483|37=>244|43=>130|46=>313|47=>312|51=>362|52=>361|53=>364|54=>363|55=>367|59=>434|60=>435|61=>308|67=>351|69=>477|70=>399|71=>400|72=>401|73=>402|74=>403|75=>404|76=>405|77=>406|80=>407|81=>584|83=>178|84=>494|85=>520|86=>521|94=>605|101=>116|102=>133|103=>442|104=>299|105=>443|106=>444|108=>546|111=>414|112=>357|113=>350|114=>373|119=>485|127=>446|128=>511|131=>359|134=>311|137=>486|138=>487|139=>488|143=>562|144=>563|145=>564|146=>489|150=>396|151=>490|164=>473|165=>474|166=>475|167=>519|168=>522|169=>523|170=>524|171=>512|172=>513|173=>514|174=>515|175=>542|176=>543|181=>352|182=>353|183=>354|184=>355|185=>356|186=>358|187=>360|209=>544|210=>545|211=>525|212=>526|213=>527|214=>561|218=>408|219=>409|220=>410|221=>411|222=>412|223=>413|228=>447|229=>448|230=>449|232=>565|233=>566|238=>579|239=>580|240=>581|241=>582|242=>583|243=>585|244=>586|245=>587|246=>588|247=>589|248=>590|249=>591|_=>0,λ|1=>0|3=>1|4=>2|15=>4|16=>5|17=>3|18=>6|19=>7|_=>0⟩
theorem Age:Go.Proofs.Lays.n106 Tryz.prog laysCmp_r:=by repeat' first|kernel_rfl|constructor|intro _
def AoH:=App.a fCmpStr<|Af2 rfl (Any.strings_Compare Age)
def Ak7:=AoH.a A1<|Fct.o (KP [2,3,4,5] [12]) AoH.2 func445 (by
 rintro⟨(a:Sb_),(b:Sb_),_⟩ hp;refine ho (.cl fCmpStr (a.host,b.host,()) λ(z2:Int×PUnit)=>.br (z2.1 != 0) (.lf A1 (z2.1,())) (.cl fCmpStr (a.path,b.path,()) λ(z3:Int×PUnit)=>.lf A1 (z3.1,()))) ?_;refine Af trivial λ_=>(Ab (λh1=>lfY ?_) (λh1=>Af trivial λ_=>(lfY ?_)))
 all_goals
  try simp only[fCmpStr,A1,std,Nat.reduceAdd,cmpA] at *
  try simp(disch:=omega) only[wrapId',toNat1] at *
  try simp(disch:=omega) only[Qa2,Qa4]
 all_goals first|trivial|omega|grind[wrapId',toNat1,drop_cons,drop_end,good_len,maxLen,cmpA,fCmpStr])
def fModAt:Fct:=⟨[.v (.el .page),.v (.el .addr)],[.el .int],λ(x_:Sa_×Sb_×Unit)=>x_.1.bh.length<=1000000000000,λ(x_:Sa_×Sb_×Unit)=>(fidx (λm=>decide (m.to=x_.2.1)) x_.1.bh 0,())⟩
abbrev DU (p:Sa_) (a:Sb_):LInv:=⟨[⟨.s,5,true,.el .int⟩,⟨.b,2,false,.el .page⟩,⟨.b,3,true,.el .addr⟩],λ(z_ x_:Int×Sa_×Sb_×Unit)=>((0<=x_.1/\x_.1<=p.bh.length/\fidx (λm=>decide (m.to=a)) (p.bh.drop x_.1.toNat) x_.1=fidx (λm=>decide (m.to=a)) p.bh 0)/\x_.2.1=z_.2.1)/\x_.2.2.1=z_.2.2.1,λ(x_:Int×Sa_×Sb_×Unit)=>p.bh.length-x_.1.toNat⟩
def AjA:=Ak7.a fModAt<|Fct.p (KP [2,3,4,5] [10,20]) (λ⟨p,a,_⟩=>lv [(2,DU p a)]) Ak7.2 func357 (by
 rintro⟨(p:Sa_),(a:Sb_),_⟩ hp;refine ho (lpx (DU p a) ((0:Int),(p,(a,()))) λ(y1:Int×Sa_×Sb_×PUnit) bk1=>.br (decide (y1.1<(y1.2.1.bh.length:Int))) (.ob (inB y1.1 y1.2.1.bh.length)<|.br ((y1.2.1.bh.getD y1.1.toNat default).to.host==y1.2.2.1.host&&((y1.2.1.bh.getD y1.1.toNat default).to.path==y1.2.2.1.path&&true)) (.lf fModAt (y1.1,())) (.ob (bk1 (w1 y1.1,(y1.2.1,(y1.2.2.1,()))))<|.ok)) (.lf fModAt ((-1:Int),()))) ?_;refine An ?_ λ(y1:Int×Sa_×Sb_×PUnit) i1=>Ab (λh2=>Aa ?_ λ_=>Ab (λh4=>lfY ?_) (λh4=>Aa ?_ λ_=>trivial)) (λh2=>lfY ?_)
 all_goals
  try simp only[Di] at *
  try simp only[DU,fModAt,std,Nat.reduceAdd,fidx] at *
  try simp(disch:=omega) only[wrapId',toNat1] at *
  try simp(disch:=omega) only[Qa2,Qa4]
 all_goals first|trivial|omega|grind[wrapId',toNat1,drop_cons,drop_end,good_len,maxLen,fidx])
def fModAt1:Fct:=⟨[.v (.el .module),.p (.el .addr)],[.el .bool],λ(x_:Sg_×Sb_×Unit)=>True,λ(x_:Sg_×Sb_×Unit)=>(decide (x_.1.to=x_.2.1),())⟩
def Al3:=AjA.a fModAt1<|Fct.o [1,2,3] AjA.2 func441 (by
 rintro⟨(m:Sg_),(a:Sb_),_⟩ hp;refine ho (.lf fModAt1 (m.to.host==a.host&&(m.to.path==a.path&&true),())) ?_;refine lfY ?_;all_goals
  try simp only[Di] at *
  try simp only[fModAt1,std,Nat.reduceAdd] at *
  try simp(disch:=omega) only[wrapId',toNat1] at *
  try simp(disch:=omega) only[Qa2,Qa4]
 all_goals first|trivial|omega|grind[wrapId',toNat1,drop_cons,drop_end,good_len,maxLen])
def AT:Fct:=⟨[aL .module,.c 441 [.el .addr]],[rI],λx=>x.1.length<=1000000000000000000/\∀ c,fModAt1.pre (c,x.2.1),λx=>(fidx (λc=>(fModAt1.fn (c,x.2.1)).1) x.1 0,())⟩
abbrev Am (l:(List Sg_)) (u:(Sb_×Unit)):LInv:=⟨[⟨.s,8,true,.el .int⟩],λ_ (x_:Int×Unit)=>0<=x_.1/\x_.1<=l.length/\fidx (λc=>(fModAt1.fn (c,u)).1) l 0=fidx (λc=>(fModAt1.fn (c,u)).1) (l.drop x_.1.toNat) x_.1,λ(x_:Int×Unit)=>l.length-x_.1.toNat⟩
def Ak0:=Al3.a AT<|Fct.p (KP [0,1,4,5,7,8] [9,16]) (λ⟨l,u,_⟩=>lv [(2,Am l u)]) Al3.2 func440 (by
 rintro⟨(l:List Sg_),(u:Sb_×PUnit),_⟩ hp;refine ho (lpx (Am l u) ((0:Int),()) λ(y1:Int×PUnit) bk1=>.br (decide (y1.1<(l.length:Int))) (.ob (inB y1.1 l.length)<|.cl fModAt1 (l.getD y1.1.toNat default,u.1,()) λz2=>.br (z2.1) (.lf AT (y1.1,())) (.ob (l=l)<|.ob (enc Ty.addr u.1=enc Ty.addr u.1)<|.ob (Value.int IntKind.i64 (l.length:Int)=Value.int IntKind.i64 (l.length:Int))<|.ob (bk1 (w1 y1.1,()))<|.ok)) (.lf AT ((-1:Int),()))) ?_;refine An ?_ λ(y1:Int×PUnit) i1=>Ab (λh2=>Aa ?_ λ_=>Af trivial λ_=>(Ab (λh4=>lfY ?_) (λh4=>Aa rfl λ_=>Aa rfl λ_=>Aa rfl λ_=>Aa ?_ λ_=>trivial))) (λh2=>lfY ?_)
 all_goals
  try simp only[Am,AT,fModAt1,std,Nat.reduceAdd] at *
  try have hp2:=hp.2
  try have hp1:=hp.1
 all_goals first|trivial|omega|grind[wrapId',toNat1,drop_cons,drop_end,good_len,maxLen,fidx])
def Al9:=Ak0.a fModAt<|Fct.o [2,3,4] Ak0.2 func381 (by
 rintro⟨(p:Sa_),(a:Sb_),_⟩ hp;refine ho (.cl AT (p.bh,(a,()),()) λ(z2:Int×PUnit)=>.lf fModAt (z2.1,())) ?_;refine Af ?_ λ_=>(lfY ?_)
 all_goals
  try simp only[AT,fModAt,std,Nat.reduceAdd,fModAt1] at *
  try simp(disch:=omega) only[wrapId',toNat1] at *
  try simp(disch:=omega) only[Qa2,Qa4]
 all_goals first|trivial|omega|grind[wrapId',toNat1,drop_cons,drop_end,good_len,maxLen,fModAt1])
def isAsked (p:Sa_) (a:Sb_):Bool:=p.bf.any (λs=>decide (s.to=a))||p.bh.any (λm=>decide (m.to=a))
def fIsAsked:Fct:=⟨[.v (.el .page),.v (.el .addr)],[.el .bool],λ(x_:Sa_×Sb_×Unit)=>x_.1.bh.length<=1000000000000/\x_.1.bf.length<=1000000000000,λ(x_:Sa_×Sb_×Unit)=>(isAsked x_.1 x_.2.1,())⟩
abbrev DB (p:Sa_) (a:Sb_):LInv:=⟨[⟨.s,5,true,.el .int⟩,⟨.b,2,false,.el .page⟩,⟨.b,3,true,.el .addr⟩],λ(z_ x_:Int×Sa_×Sb_×Unit)=>((0<=x_.1/\x_.1<=p.bf.length/\(p.bf.drop x_.1.toNat).any (λs=>decide (s.to=a))=p.bf.any (λs=>decide (s.to=a)))/\x_.2.1=z_.2.1)/\x_.2.2.1=z_.2.2.1,λ(x_:Int×Sa_×Sb_×Unit)=>p.bf.length-x_.1.toNat⟩
def Amj:=Al9.a fIsAsked<|Fct.p (KP [2,3,4,5] [10,20]) (λ⟨p,a,_⟩=>lv [(2,DB p a)]) Al9.2 func287 (by
 rintro⟨(p:Sa_),(a:Sb_),_⟩ hp;refine ho (lpx (DB p a) ((0:Int),(p,(a,()))) λ(y1:Int×Sa_×Sb_×PUnit) bk1=>.br (decide (y1.1<(y1.2.1.bf.length:Int))) (.ob (inB y1.1 y1.2.1.bf.length)<|.br ((y1.2.1.bf.getD y1.1.toNat default).to.host==y1.2.2.1.host&&((y1.2.1.bf.getD y1.1.toNat default).to.path==y1.2.2.1.path&&true)) (.lf fIsAsked (true,())) (.ob (bk1 (w1 y1.1,(y1.2.1,(y1.2.2.1,()))))<|.ok)) (.cl fModAt (y1.2.1,y1.2.2.1,()) λ(z2:Int×PUnit)=>.lf fIsAsked (decide (z2.1>=0),()))) ?_;refine An ?_ λ(y1:Int×Sa_×Sb_×PUnit) i1=>Ab (λh2=>Aa ?_ λ_=>Ab (λh4=>lfY ?_) (λh4=>Aa ?_ λ_=>trivial)) (λh2=>Af ?_ λ_=>(lfY ?_))
 all_goals try simp only[Di] at *
 all_goals
  have hmm:=Im (λm:Sg_=>decide (m.to=a)) p.bh 0 o_;try simp only[DB,fIsAsked,fModAt,std,Nat.reduceAdd,isAsked] at *
  try simp(disch:=omega) only[wrapId',toNat1] at *
  try simp(disch:=omega) only[Qa2,Qa4]
 all_goals first|trivial|omega|grind[wrapId',toNat1,drop_cons,drop_end,good_len,maxLen,isAsked,fModAt])
def fIsAsked1:Fct:=⟨[.v (.el .slot),.p (.el .addr)],[.el .bool],λ(x_:Sp_×Sb_×Unit)=>True,λ(x_:Sp_×Sb_×Unit)=>(decide (x_.1.to=x_.2.1),())⟩
def AkX:=Amj.a fIsAsked1<|Fct.o [1,2,3] Amj.2 func391 (by
 rintro⟨(s:Sp_),(a:Sb_),_⟩ hp;refine ho (.lf fIsAsked1 (s.to.host==a.host&&(s.to.path==a.path&&true),())) ?_;refine lfY ?_;all_goals
  try simp only[Di] at *
  try simp only[fIsAsked1,std,Nat.reduceAdd] at *
  try simp(disch:=omega) only[wrapId',toNat1] at *
  try simp(disch:=omega) only[Qa2,Qa4]
 all_goals first|trivial|omega|grind[wrapId',toNat1,drop_cons,drop_end,good_len,maxLen])
def AU:Fct:=⟨[aL .slot,.c 391 [.el .addr]],[rI],λx=>x.1.length<=1000000000000000000/\∀ c,fIsAsked1.pre (c,x.2.1),λx=>(fidx (λc=>(fIsAsked1.fn (c,x.2.1)).1) x.1 0,())⟩
abbrev Au (l:(List Sp_)) (u:(Sb_×Unit)):LInv:=⟨[⟨.s,8,true,.el .int⟩],λ_ (x_:Int×Unit)=>0<=x_.1/\x_.1<=l.length/\fidx (λc=>(fIsAsked1.fn (c,u)).1) l 0=fidx (λc=>(fIsAsked1.fn (c,u)).1) (l.drop x_.1.toNat) x_.1,λ(x_:Int×Unit)=>l.length-x_.1.toNat⟩
def AlT:=AkX.a AU<|Fct.p (KP [0,1,4,5,7,8] [9,16]) (λ⟨l,u,_⟩=>lv [(2,Au l u)]) AkX.2 func448 (by
 rintro⟨(l:List Sp_),(u:Sb_×PUnit),_⟩ hp;refine ho (lpx (Au l u) ((0:Int),()) λ(y1:Int×PUnit) bk1=>.br (decide (y1.1<(l.length:Int))) (.ob (inB y1.1 l.length)<|.cl fIsAsked1 (l.getD y1.1.toNat default,u.1,()) λz2=>.br (z2.1) (.lf AU (y1.1,())) (.ob (l=l)<|.ob (enc Ty.addr u.1=enc Ty.addr u.1)<|.ob (Value.int IntKind.i64 (l.length:Int)=Value.int IntKind.i64 (l.length:Int))<|.ob (bk1 (w1 y1.1,()))<|.ok)) (.lf AU ((-1:Int),()))) ?_;refine An ?_ λ(y1:Int×PUnit) i1=>Ab (λh2=>Aa ?_ λ_=>Af trivial λ_=>(Ab (λh4=>lfY ?_) (λh4=>Aa rfl λ_=>Aa rfl λ_=>Aa rfl λ_=>Aa ?_ λ_=>trivial))) (λh2=>lfY ?_)
 all_goals
  try simp only[Au,AU,fIsAsked1,std,Nat.reduceAdd] at *
  try have hp2:=hp.2
  try have hp1:=hp.1
 all_goals first|trivial|omega|grind[wrapId',toNat1,drop_cons,drop_end,good_len,maxLen,fidx])
def AY:Fct:=⟨[aL .slot,.c 391 [.el .addr]],[rB],λx=>x.1.length<=1000000000000000000/\∀ c,fIsAsked1.pre (c,x.2.1),λx=>(x.1.any (λc=>(fIsAsked1.fn (c,x.2.1)).1),())⟩
def Ano:=AlT.a AY<|Fct.o [0,1,4] AlT.2 func390 (by
 rintro⟨(l:List Sp_),(u:Sb_×PUnit),_⟩ hp;refine ho (.cl AU (l,(u.1,()),()) λ(z2:Int×PUnit)=>.lf AY (decide (z2.1>=0),())) ?_;refine Af ?_ λ_=>(lfY ?_)
 all_goals try simp only[AY,AU,std,Nat.reduceAdd] at *
 all_goals first|trivial|omega|(rw[Bool.eq_iff_iff];exact decide_eq_true_iff.trans (Im _ _ _ o_)))
def Akp:=Ano.a fIsAsked<|Fct.o [2,3,4] Ano.2 func309 (by
 rintro⟨(p:Sa_),(a:Sb_),_⟩ hp;refine ho (.cl fModAt (p,a,()) λ(z2:Int×PUnit)=>.br (decide (z2.1>=0)) (.lf fIsAsked (true,())) (.cl AY (p.bf,(a,()),()) λz3=>.lf fIsAsked (z3.1,()))) ?_;refine Af ?_ λ_=>(Ab (λh2=>lfY ?_) (λh2=>Af ?_ λ_=>(lfY ?_)))
 all_goals
  have hmm:=Im (λm:Sg_=>decide (m.to=a)) p.bh 0 o_;try simp only[AY,fIsAsked,fModAt,std,Nat.reduceAdd,isAsked,fIsAsked1] at *
  try simp(disch:=omega) only[wrapId',toNat1] at *
  try simp(disch:=omega) only[Qa2,Qa4]
 all_goals first|trivial|omega|grind[wrapId',toNat1,drop_cons,drop_end,good_len,maxLen,isAsked,fModAt,fIsAsked1])
theorem HF {l:List Sk_} {i:Nat} (h:i<l.length):(l.getD i default).files.length+l.length<=szL AR l:=by
 have:=DH AR h;have h2:=Ac Ez (l.getD i default).files;simp only[AR] at this;omega
def AeA:Fct:=⟨[aI,aI],[rI],λ_=>True,λ(x:Int×Int×Unit)=>(min x.1 x.2.1,())⟩
def Anm:=Akp.a AeA<|Fct.o (KP [0,1,4] [7]) Akp.2 func169 (by
 rintro⟨(a:Int),(b:Int),_⟩ hp;refine ho (.br (decide (b<a)) (.lf AeA (b,())) (.lf AeA (a,()))) ?_;refine Ab (λh1=>lfY ?_) (λh1=>lfY ?_);all_goals try simp only[AeA,std,Nat.reduceAdd] at *
 all_goals first|trivial|omega|(simp_all;done)|(simp_all;omega)|grind)
theorem Ahb {α:Type} (f:α->Nat) (l m:List α):szL f (l++m)=szL f l+szL f m:=by simp[szL];omega
theorem KL {α:Type} (f:α->Nat) (l:List α) (n:Nat):szL f (l.drop n)<=szL f l:=by
 have h:=Ahb f (l.take n) (l.drop n);simp_all
def fDelConn:GS:=⟨[.g (.sl .conn),.l (.v (.el .int)),.l (.v (.el .int))],[.sl .conn],λ(x_:(List Sj_)×Int×Int×Unit)=>0<=x_.2.1/\x_.2.1<x_.2.2.1/\x_.2.2.1<=x_.1.length/\x_.1.length<=1048576,λ(x_:(List Sj_)×Int×Int×Unit)=>((x_.1.take x_.2.1.toNat++x_.1.drop x_.2.2.1.toNat,()),(()))⟩
theorem Ab2 {l:List Sj_} {i j:Int} (h0:0<=i) (hi:i<=j) (hj:j<=l.length) (ys:List Sj_) {k k' m n j':Nat} (hjj:j'=j.toNat) (hm:m=l.length-j.toNat) (hk:k=i.toNat+m) (hk':k'=k) (hn:n=i.toNat):l.take i.toNat++l.drop j.toNat=cut (JB (JB l n (cut l j' m)) k ys) 0 k':=by
 subst hjj;subst hk';subst hk;subst hn;rw[Adk _ _ _ (by rw[Ii,JR];omega),WJ o_ o_ hm]
theorem Aau {l:List Sj_} {i:Int} (h0:0<=i) (hj:i<l.length) {k m n j':Nat} (hjj:j'=i.toNat+1) (hm:m=l.length-j') (hk:k=i.toNat+m) (hn:n=i.toNat):cut (JB l n (cut l j' m)) 0 k=l.take i.toNat++l.drop (i.toNat+1):=by
 subst hk;subst hn;rw[show cut (JB l i.toNat (cut l j' m)) 0 (i.toNat+m)=(JB l i.toNat (cut l j' m)).take (i.toNat+m) from rfl,WJ o_ o_ hm,hjj]
def Akm:=Anm.G fDelConn<|GS.of (S:=fDelConn) (L:=λ_ _=>none) (kp:=(KP [0,1,2,6,7] [16])) Anm.2 func315 k_ k_ (by
 rintro⟨(l:List Sj_),(i:Int),(j:Int),_⟩ hp;refine ho (let q4_:=List.length l-Int.toNat j;let q2_:=(↑(List.length l):Int);let q1_:=JB l (Int.toNat i-0) (cut l (Int.toNat j) q4_);let q0_:=Int.toNat i-0+q4_;let q5_:=q2_.toNat-(q0_:Int).toNat;let q3_:=JB q1_ (0+(q0_:Int).toNat) (List.replicate q5_ default);.ob (0<=i/\i<=j/\j<=q2_/\q2_<=q2_)<|.br (i==j) (GS.out fDelConn ((l,()),(()))) (.ob (0<=i/\i<=q2_)<|.ob (0<=j/\j<=q2_)<|.ob (0=0/\0<List.length l/\Int.toNat j+q4_<=List.length l/\Int.toNat i-0+q4_<=List.length l)<|.ob ((0:Int)<=(q0_:Int)/\(q0_:Int)<=q2_/\q2_<=(↑(q1_.length-0):Int))<|.ob (0+(q0_:Int).toNat+q5_<=q1_.length)<|.ob (0+q0_<=q3_.length)<|GS.out fDelConn ((cut q3_ 0 q0_,()),(())))) ?_;repeat' (guard_target =~ Out.holds _ _;first|refine GS.leafY ?_|refine Ab (λ_=>?_) λ_=>?_|refine Aa ?_ λ_=>?_)
 all_goals try simp only[fDelConn,std,Nat.reduceAdd] at *
 all_goals first|omega|(simp only[Ii,JR,List.length_replicate] at *;omega)|exact(Ab2 o_ o_ o_ _ rfl rfl o_ o_ o_).symm)
def closeConn (l:List Sj_) (i:Int):List Sj_:=if 0<=i/\i<l.length then l.take i.toNat++l.drop (i.toNat+1) else l
def Co:Fct:=⟨[.v (.sl .conn),.v (.el .int)],[.sl .conn],λ(x_:(List Sj_)×Int×Unit)=>x_.1.length<=1048576,λ(x_:(List Sj_)×Int×Unit)=>(closeConn x_.1 x_.2.1,())⟩
def Aka:=Akm.a Co<|Fct.o (KP [0,1,4,5] [14]) Akm.2 func288 (by
 rintro⟨(l:List Sj_),(i:Int),_⟩ hp;refine ho (let q2_:=(↑([]++l).length:Int);let q0_:=([]++l).length-(w1 i).toNat;let q3_:=Int.toNat i-0+q0_;let q1_:=JB ([]++l) (Int.toNat i-0) (cut ([]++l) (w1 i).toNat q0_);.ob (True)<|.ob (Bz (0+List.length l) 112)<|.cl fInRange (i,(0:Int),wr ((↑(List.length l):Int)-(1:Int)),()) λz2=>.br (!z2.1) (.lf Co ([]++l,())) (.ob (0<=i/\i<=q2_)<|.ob (0<=w1 i/\w1 i<=q2_)<|.ob (0=0/\0<([]++l).length/\(w1 i).toNat+q0_<=([]++l).length/\Int.toNat i-0+q0_<=([]++l).length)<|.ob (0+q3_<=q1_.length)<|.lf Co (cut q1_ 0 q3_,()))) ?_;refine Aa trivial λ_=>Aa ?_ λ_=>Af trivial λ_=>(Ab (λh2=>lfY ?_) (λh2=>Aa ?_ λ_=>Aa ?_ λ_=>Aa ?_ λ_=>Aa ?_ λ_=>lfY ?_))
 all_goals
  try simp only[Co,fInRange,std,Nat.reduceAdd,closeConn,inRange] at *
  try simp(disch:=omega) only[wrapId',toNat1] at *
  try simp(disch:=omega) only[Qa2,Qa4]
  try simp only[Ii,JR,List.length_replicate,Qa1,Qe3,Qa7,Qa9] at *
 all_goals first|omega|(rw[Qa4 o_];done)|exact Aau o_ o_ o_ o_ o_ o_)
def AkM:=Aka.a Co<|Fct.o (KP [0,1,4,5] [15]) Aka.2 func238 (by
 rintro⟨(l:List Sj_),(i:Int),_⟩ hp;refine ho (.cl fCopyConns (l,()) λz2=>.br (decide (i<0)) (.lf Co (z2.1,())) (.br (decide (i>=(↑(List.length l):Int))) (.lf Co (z2.1,())) (.ob (fDelConn.pre (z2.1,i,w1 i,()))<|.lt _ (fDelConn.fn (z2.1,i,w1 i,())) λz3=>.lf Co (z3.1.1,())))) ?_;refine Af ?_ λ_=>(Ab (λh2=>lfY ?_) (λh2=>Ab (λh3=>lfY ?_) (λh3=>Aa ?_ λ_=>DQ (lfY ?_))))
 all_goals
  try simp only[Co,fCopyConns,fDelConn,std,Nat.reduceAdd,closeConn,fInRange,inRange] at *
  try simp(disch:=omega) only[wrapId',toNat1] at *
  try simp(disch:=omega) only[Qa2,Qa4]
 all_goals first|trivial|omega|grind[wrapId',toNat1,drop_cons,drop_end,good_len,maxLen,closeConn,fDelConn,fInRange,inRange])
def nameByte (b:UInt8):Bool:=97<=b.toNat&&b.toNat<=122
def bts (s:ByteArray):List UInt8:=s.data.toList
theorem AfC (s:ByteArray):(bts s).length=s.size:=rfl
theorem Aho {s:ByteArray} {i:Nat} (h:i<s.size):(bts s).drop i=s.data.getD i 0::(bts s).drop (i+1):=by
 have h2:i<s.data.size:=h;have e:s.data.getD i 0=s.data[i]:=by unfold Array.getD;rw[dif_pos h2];rfl
 rw[List.drop_eq_getElem_cons (by rw[AfC];exact h),e];rfl
theorem Af6 {s:ByteArray} {i:Nat} (h:s.size<=i):(bts s).drop i=[]:=Qb0 h
def allB (p:UInt8->Bool) (l:List UInt8):Bool:=l.all p
theorem allB_at {p:UInt8->Bool} {s:ByteArray} {i:Nat} (h:i<s.size):allB p ((bts s).drop i)=(p (s.data.getD i 0)&&allB p ((bts s).drop (i+1))):=by rw[Aho h];rfl
theorem allB_end {p:UInt8->Bool} {s:ByteArray} {i:Nat} (h:s.size<=i):allB p ((bts s).drop i)=true:=by rw[Af6 h];rfl
def isName (s:ByteArray):Bool:=allB nameByte (bts s)&&decide (1<=s.size/\s.size<=8)
def fIsName:Fct:=⟨[.v (.el .str)],[.el .bool],λ(x_:ByteArray×Unit)=>x_.1.size<=1000000000000000000,λ(x_:ByteArray×Unit)=>(isName x_.1,())⟩
abbrev DV (s:ByteArray):LInv:=⟨[⟨.s,3,true,.el .int⟩],λ_ (x_:Int×Unit)=>0<=x_.1/\x_.1<=s.size/\allB nameByte ((bts s).drop x_.1.toNat)=allB nameByte (bts s),λ(x_:Int×Unit)=>s.size-x_.1.toNat⟩
def Amv:=AkM.a fIsName<|Fct.p (KP [0,2,3] [7,19]) (λ⟨s,_⟩=>lv [(2,DV s)]) AkM.2 func249 (by
 rintro⟨(s:ByteArray),_⟩ hp;refine ho (lpx (DV s) ((0:Int),()) λ(y1:Int×PUnit) bk1=>.br (decide (y1.1<(s.size:Int))) (.ob (0<=y1.1/\y1.1<(s.size:Int))<|.br (decide ((↑(s.data.getD y1.1.toNat 0).toNat:Int)<97)) (.lf fIsName (false,())) (.ob (0<=y1.1/\y1.1<(s.size:Int))<|.br (decide ((↑(s.data.getD y1.1.toNat 0).toNat:Int)>122)) (.lf fIsName (false,())) (.ob (Value.string s=Value.string s)<|.ob (bk1 (w1 y1.1,()))<|.ok))) (.cl fInRange ((s.size:Int),(1:Int),(8:Int),()) λz2=>.lf fIsName (z2.1,()))) ?_;refine An ?_ λ(y1:Int×PUnit) i1=>Ab (λh2=>Aa ?_ λ_=>Ab (λh4=>lfY ?_) (λh4=>Aa ?_ λ_=>Ab (λh6=>lfY ?_) (λh6=>Aa rfl λ_=>Aa ?_ λ_=>trivial))) (λh2=>Af trivial λ_=>(lfY ?_))
 all_goals
  try simp only[DV,fInRange,fIsName,std,Nat.reduceAdd,isName,nameByte,inRange,allB_at,allB_end] at *
  try simp(disch:=omega) only[wrapId',toNat1] at *
  try simp(disch:=omega) only[Qa2,Qa4]
 all_goals first|trivial|omega|grind[wrapId',toNat1,good_len,maxLen,isName,nameByte,fInRange,inRange,allB_at,allB_end])
abbrev DR (s:ByteArray):LInv:=⟨[⟨.s,3,true,.el .int⟩],λ_ (x_:Int×Unit)=>0<=x_.1/\x_.1<=s.size/\allB nameByte ((bts s).drop x_.1.toNat)=allB nameByte (bts s),λ(x_:Int×Unit)=>s.size-x_.1.toNat⟩
def AjO:=Amv.a fIsName<|Fct.p (KP [0,2,3] [7,19]) (λ⟨s,_⟩=>lv [(2,DR s)]) Amv.2 func256 (by
 rintro⟨(s:ByteArray),_⟩ hp;refine ho (lpx (DR s) ((0:Int),()) λ(y1:Int×PUnit) bk1=>.br (decide (y1.1<(s.size:Int))) (.ob (0<=y1.1/\y1.1<(s.size:Int))<|.br (decide ((↑(s.data.getD y1.1.toNat 0).toNat:Int)<97)) (.lf fIsName (false,())) (.ob (0<=y1.1/\y1.1<(s.size:Int))<|.br (decide ((↑(s.data.getD y1.1.toNat 0).toNat:Int)>122)) (.lf fIsName (false,())) (.ob (Value.string s=Value.string s)<|.ob (bk1 (w1 y1.1,()))<|.ok))) (.cl fInRange ((s.size:Int),(1:Int),(8:Int),()) λz2=>.lf fIsName (z2.1,()))) ?_;refine An ?_ λ(y1:Int×PUnit) i1=>Ab (λh2=>Aa ?_ λ_=>Ab (λh4=>lfY ?_) (λh4=>Aa ?_ λ_=>Ab (λh6=>lfY ?_) (λh6=>Aa rfl λ_=>Aa ?_ λ_=>trivial))) (λh2=>Af trivial λ_=>(lfY ?_))
 all_goals
  try simp only[DR,fInRange,fIsName,std,Nat.reduceAdd,isName,nameByte,inRange,allB_at,allB_end] at *
  try simp(disch:=omega) only[wrapId',toNat1] at *
  try simp(disch:=omega) only[Qa2,Qa4]
 all_goals first|trivial|omega|grind[wrapId',toNat1,good_len,maxLen,isName,nameByte,fInRange,inRange,allB_at,allB_end])
def valByte (b:UInt8):Bool:=(97<=b.toNat&&b.toNat<=122)||(48<=b.toNat&&b.toNat<=57)||b.toNat==47
def isValue (s:ByteArray):Bool:=allB valByte (bts s)&&decide (1<=s.size/\s.size<=20)
def fIsValue:Fct:=⟨[.v (.el .str)],[.el .bool],λ(x_:ByteArray×Unit)=>x_.1.size<=1000000000000000000,λ(x_:ByteArray×Unit)=>(isValue x_.1,())⟩
abbrev Cw (s:ByteArray):LInv:=⟨[⟨.s,3,true,.el .int⟩],λ_ (x_:Int×Unit)=>0<=x_.1/\x_.1<=s.size/\allB valByte ((bts s).drop x_.1.toNat)=allB valByte (bts s),λ(x_:Int×Unit)=>s.size-x_.1.toNat⟩
def Ani:=AjO.a fIsValue<|Fct.p (KP [0,2,3] [7,37]) (λ⟨s,_⟩=>lv [(2,Cw s)]) AjO.2 func393 (by
 rintro⟨(s:ByteArray),_⟩ hp;refine ho (let q5_:=(s.size:Int);lpx (Cw s) ((0:Int),()) λ(y1:Int×PUnit) bk1=>let q3_:=0<=y1.1/\y1.1<q5_;let q2_:=(↑(s.data.getD y1.1.toNat 0).toNat:Int);let q1_:Out:=.ob (Value.string s=Value.string s)<|.ob (bk1 (w1 y1.1,()))<|.ok;let q4_:Out:=.ob q3_<|.br (q2_ != 47) (.lf fIsValue (false,())) q1_;let q0_:Out:=.ob q3_<|.br (decide (q2_<48)) q4_ (.ob q3_<|.br (decide (q2_>57)) q4_ q1_);.br (decide (y1.1<q5_)) (.ob q3_<|.br (decide (q2_<97)) q0_ (.ob q3_<|.br (decide (q2_>122)) q0_ q1_)) (.cl fInRange (q5_,(1:Int),(20:Int),()) λz2=>.lf fIsValue (z2.1,()))) ?_;repeat' first|(guard_target =~ Out.holds _ _;first|refine An (li:=Cw s) ?_ λ(y1:Int×PUnit) i1=>?_|refine lfY ?_|refine Ab (λ_=>?_) λ_=>?_|refine Af ?_ λ_=>?_|refine Aa ?_ λ_=>?_)|exact trivial
 all_goals
  try simp only[Cw,fInRange,fIsValue,std,Nat.reduceAdd,isValue,valByte,inRange,allB_at,allB_end] at *
  try simp(disch:=omega) only[wrapId',toNat1] at *
  try simp(disch:=omega) only[Qa2,Qa4]
 all_goals first|trivial|omega|grind[wrapId',toNat1,good_len,maxLen,isValue,valByte,fInRange,inRange,allB_at,allB_end])
abbrev Cy (s:ByteArray):LInv:=⟨[⟨.s,3,true,.el .int⟩],λ_ (x_:Int×Unit)=>0<=x_.1/\x_.1<=s.size/\allB valByte ((bts s).drop x_.1.toNat)=allB valByte (bts s),λ(x_:Int×Unit)=>s.size-x_.1.toNat⟩
def Aoi:=Ani.a fIsValue<|Fct.p (KP [0,2,3] [7,38]) (λ⟨s,_⟩=>lv [(2,Cy s)]) Ani.2 func400 (by
 rintro⟨(s:ByteArray),_⟩ hp;refine ho (let q6_:=(s.size:Int);let q4_:Out:=.lf fIsValue (false,());lpx (Cy s) ((0:Int),()) λ(y1:Int×PUnit) bk1=>let q3_:=0<=y1.1/\y1.1<q6_;let q2_:=(↑(s.data.getD y1.1.toNat 0).toNat:Int);let q1_:Out:=.ob (Value.string s=Value.string s)<|.ob (bk1 (w1 y1.1,()))<|.ok;let q7_:Out:=.br (!true) q4_ q1_;let q5_:Out:=.ob q3_<|.br (!q2_==47) q4_ q1_;let q0_:Out:=.ob q3_<|.br (decide (q2_>=48)) (.ob q3_<|.br (decide (q2_<=57)) q7_ q5_) q5_;.br (decide (y1.1<q6_)) (.ob q3_<|.br (decide (q2_>=97)) (.ob q3_<|.br (decide (q2_<=122)) q7_ q0_) q0_) (.cl fInRange (q6_,(1:Int),(20:Int),()) λz2=>.lf fIsValue (z2.1,()))) ?_;repeat' first|(guard_target =~ Out.holds _ _;first|refine An (li:=Cy s) ?_ λ(y1:Int×PUnit) i1=>?_|refine lfY ?_|refine Ab (λ_=>?_) λ_=>?_|refine Af ?_ λ_=>?_|refine Aa ?_ λ_=>?_)|exact trivial
 all_goals
  try simp only[Cy,fInRange,fIsValue,std,Nat.reduceAdd,isValue,valByte,inRange,allB_at,allB_end] at *
  try simp(disch:=omega) only[wrapId',toNat1] at *
  try simp(disch:=omega) only[Qa2,Qa4]
 all_goals first|trivial|omega|grind[wrapId',toNat1,good_len,maxLen,isValue,valByte,fInRange,inRange,allB_at,allB_end])
def fIsAddr:Fct:=⟨[.v (.el .addr)],[.el .bool],λ(x_:Sb_×Unit)=>x_.1.host.size<=1000000000000000000/\x_.1.path.size<=1000000000000000000,λ(x_:Sb_×Unit)=>(isName x_.1.host&&isName x_.1.path,())⟩
theorem q2 (a:Sb_) (hp:fIsAddr.pre (a,())):Out.holds (fIsAddr.ctr (a,())).post (.cl fIsName (a.host,()) λz2=>.br (z2.1) (.cl fIsName (a.path,()) λz3=>.lf fIsAddr (z3.1,())) (.lf fIsAddr (false,()))):=by
 refine Af ?_ λ_=>(Ab (λh2=>Af ?_ λ_=>(lfY ?_)) (λh2=>lfY ?_))
 all_goals
  try simp only[fIsAddr,fIsName,std,Nat.reduceAdd] at *
  try simp(disch:=omega) only[wrapId',toNat1] at *
  try simp(disch:=omega) only[Qa2,Qa4]
 all_goals first|trivial|omega|grind[wrapId',toNat1,drop_cons,drop_end,good_len,maxLen,fIsName]
def Amc:=Aoi.a fIsAddr<|Fct.o [1,2] Aoi.2 func161 (by
 rintro⟨(a:Sb_),_⟩ hp;exact ho _ (q2 a hp))
def AjF:=Amc.a fIsAddr<|Fct.o [1,2] Amc.2 func172 (by
 rintro⟨(a:Sb_),_⟩ hp;exact ho _ (q2 a hp))
theorem Rh {l:List ByteArray} {i:Nat} (h:i<l.length):(l.getD i default).size+l.length<=szL Ad l:=by
 have:=DH Ad h;omega
def fNames:Fct:=⟨[.v (.sl .str)],[.el .bool],λ(x_:(List ByteArray)×Unit)=>szL Ad x_.1<=1099511627776,λ(x_:(List ByteArray)×Unit)=>(x_.1.all isName&&decide (x_.1.length<=4),())⟩
abbrev DN (l:(List ByteArray)):LInv:=⟨[⟨.s,3,true,.el .int⟩],λ_ (x_:Int×Unit)=>0<=x_.1/\x_.1<=l.length/\(l.drop x_.1.toNat).all isName=l.all isName,λ(x_:Int×Unit)=>l.length-x_.1.toNat⟩
def Al2:=AjF.a fNames<|Fct.p (KP [0,2,3] [7,15]) (λ⟨l,_⟩=>lv [(2,DN l)]) AjF.2 func392 (by
 rintro⟨(l:List ByteArray),_⟩ hp;refine ho (lpx (DN l) ((0:Int),()) λ(y1:Int×PUnit) bk1=>.br (decide (y1.1<(l.length:Int))) (.ob (inB y1.1 l.length)<|.cl fIsName (l.getD y1.1.toNat default,()) λz2=>.br (!z2.1) (.lf fNames (false,())) (.ob (l=l)<|.ob (bk1 (w1 y1.1,()))<|.ok)) (.lf fNames (decide ((l.length:Int)<=4),()))) ?_;refine An ?_ λ(y1:Int×PUnit) i1=>Ab (λh2=>Aa ?_ λ_=>Af ?_ λ_=>(Ab (λh5=>lfY ?_) (λh5=>Aa rfl λ_=>Aa ?_ λ_=>trivial))) (λh2=>lfY ?_)
 all_goals
  have hl:=Ac Ad l;have hg:∀ i,i<l.length->(l.getD i default).size<=1000000000000000000:=λi h=>by have:=Rh h;have hp2:szL Ad l<=1099511627776:=hp;omega
  try simp only[DN,fIsName,fNames,std,Nat.reduceAdd] at *
  try simp(disch:=omega) only[wrapId',toNat1] at *
  try simp(disch:=omega) only[Qa2,Qa4]
 all_goals first|trivial|omega|grind[wrapId',toNat1,drop_cons,drop_end,good_len,maxLen,fIsName])
def fAreHosts1:Fct:=⟨[.v (.el .str)],[.el .bool],λ(x_:ByteArray×Unit)=>x_.1.size<=1000000000000000000,λ(x_:ByteArray×Unit)=>(!isName x_.1,())⟩
def Akx:=Al2.a fAreHosts1<|Fct.o [0,2] Al2.2 func454 (by
 rintro⟨(s:ByteArray),_⟩ hp;refine ho (.cl fIsName (s,()) λz2=>.lf fAreHosts1 (!z2.1,())) ?_;refine Af ?_ λ_=>(lfY ?_)
 all_goals
  try simp only[fAreHosts1,fIsName,std,Nat.reduceAdd] at *
  try simp(disch:=omega) only[wrapId',toNat1] at *
  try simp(disch:=omega) only[Qa2,Qa4]
 all_goals first|trivial|omega|grind[wrapId',toNat1,drop_cons,drop_end,good_len,maxLen,fIsName])
def AV:Fct:=⟨[aL .str,.c 454 []],[rI],λx=>x.1.length<=1000000000000000000/\∀ i,i<x.1.length->fAreHosts1.pre (x.1.getD i default,x.2.1),λx=>(fidx (λc=>(fAreHosts1.fn (c,x.2.1)).1) x.1 0,())⟩
abbrev Ay (l:(List ByteArray)) (u:(Unit)):LInv:=⟨[⟨.s,8,true,.el .int⟩],λ_ (x_:Int×Unit)=>0<=x_.1/\x_.1<=l.length/\fidx (λc=>(fAreHosts1.fn (c,u)).1) l 0=fidx (λc=>(fAreHosts1.fn (c,u)).1) (l.drop x_.1.toNat) x_.1,λ(x_:Int×Unit)=>l.length-x_.1.toNat⟩
def Amo:=Akx.a AV<|Fct.p (KP [0,1,4,5,7,8] [9,16]) (λ⟨l,u,_⟩=>lv [(2,Ay l u)]) Akx.2 func493 (by
 rintro⟨(l:List ByteArray),(u:PUnit),_⟩ hp;refine ho (lpx (Ay l u) ((0:Int),()) λ(y1:Int×PUnit) bk1=>.br (decide (y1.1<(l.length:Int))) (.ob (inB y1.1 l.length)<|.cl fAreHosts1 (l.getD y1.1.toNat default,()) λz2=>.br (z2.1) (.lf AV (y1.1,())) (.ob (l=l)<|.ob (Value.int IntKind.i64 (l.length:Int)=Value.int IntKind.i64 (l.length:Int))<|.ob (bk1 (w1 y1.1,()))<|.ok)) (.lf AV ((-1:Int),()))) ?_;refine An ?_ λ(y1:Int×PUnit) i1=>Ab (λh2=>Aa ?_ λ_=>Af ?_ λ_=>(Ab (λh5=>lfY ?_) (λh5=>Aa rfl λ_=>Aa rfl λ_=>Aa ?_ λ_=>trivial))) (λh2=>lfY ?_)
 all_goals
  try simp only[Ay,fAreHosts1,AV,std,Nat.reduceAdd] at *
  try have hp2:=hp.2
  try have hp1:=hp.1
 all_goals first|trivial|omega|exact hp2 _ o_|grind[wrapId',toNat1,drop_cons,drop_end,good_len,maxLen,fidx])
def fContainsFunc_str_impl_areHosts_1:Fct:=⟨[aL .str,.c 454 []],[rB],λx=>x.1.length<=1000000000000000000/\∀ i,i<x.1.length->fAreHosts1.pre (x.1.getD i default,x.2.1),λx=>(x.1.any (λc=>(fAreHosts1.fn (c,x.2.1)).1),())⟩
def AkK:=Amo.a fContainsFunc_str_impl_areHosts_1<|Fct.o [0,1,4] Amo.2 func453 (by
 rintro⟨(l:List ByteArray),(u:PUnit),_⟩ hp;refine ho (.cl AV (l,(),()) λ(z2:Int×PUnit)=>.lf fContainsFunc_str_impl_areHosts_1 (decide (z2.1>=0),())) ?_;refine Af ?_ λ_=>(lfY ?_)
 all_goals try simp only[fContainsFunc_str_impl_areHosts_1,AV,std,Nat.reduceAdd] at *
 all_goals first|trivial|omega|exact hp|(rw[Bool.eq_iff_iff];exact decide_eq_true_iff.trans (Im _ _ _ o_)))
def Anv:=AkK.a fNames<|Fct.o [0,2] AkK.2 func399 (by
 rintro⟨(l:List ByteArray),_⟩ hp;refine ho (.br (decide ((↑(List.length l):Int)<=4)) (.cl fContainsFunc_str_impl_areHosts_1 (l,(),()) λz2=>.lf fNames (!z2.1,())) (.lf fNames (false,()))) ?_;refine Ab (λh1=>Af ?_ λ_=>(lfY ?_)) (λh1=>lfY ?_);all_goals
  have hl:=Ac Ad l;have hg:∀ i,i<l.length->(l.getD i default).size<=1000000000000000000:=λi h=>by have:=Rh h;have hp2:szL Ad l<=1099511627776:=hp;omega
  have ha:(l.any λc=>!isName c) = !(l.all isName):=by simp[List.any_eq_not_all_not]
  try simp only[fContainsFunc_str_impl_areHosts_1,fNames,std,Nat.reduceAdd,fAreHosts1] at *
  try simp(disch:=omega) only[wrapId',toNat1] at *
  try simp(disch:=omega) only[Qa2,Qa4]
 all_goals first|trivial|omega|grind[wrapId',toNat1,drop_cons,drop_end,good_len,maxLen,fContainsFunc_str_impl_areHosts_1,fAreHosts1])
def isPolicy (p:Si_):Bool:=if p.set_ then p.bp.all isName&&decide (p.bp.length<=4)&&(p.styles.all isName&&decide (p.styles.length<=4))&&(p.images.all isName&&decide (p.images.length<=4))&&(decide (p.nonce=⟨#[]⟩)||isValue p.nonce) else decide (p.bp.length=0/\p.styles.length=0/\p.images.length=0/\p.nonce=⟨#[]⟩)
def BP:Fct:=⟨[.v (.el .bj)],[.el .bool],λ(x_:Si_×Unit)=>szPolicy x_.1<=1099511627776,λ(x_:Si_×Unit)=>(isPolicy x_.1,())⟩
theorem q3 (p:Si_) (hp:BP.pre (p,())):Out.holds (BP.ctr (p,())).post (.br (!p.set_) (.br ((p.bp.length:Int)==0) (.br ((p.styles.length:Int)==0) (.br ((p.images.length:Int)==0) (.lf BP (p.nonce.toList==(⟨#[]⟩:ByteArray).toList,())) (.lf BP (false,()))) (.lf BP (false,()))) (.lf BP (false,()))) (.cl fNames (p.bp,()) λz2=>.br (z2.1) (.cl fNames (p.styles,()) λz3=>.br (z3.1) (.cl fNames (p.images,()) λz4=>.br (z4.1) (.br (p.nonce.toList==(⟨#[]⟩:ByteArray).toList) (.lf BP (true,())) (.cl fIsValue (p.nonce,()) λz5=>.lf BP (z5.1,()))) (.lf BP (false,()))) (.lf BP (false,()))) (.lf BP (false,())))):=by
 repeat' (guard_target =~ Out.holds _ _;first|refine lfY ?_|refine Ab (λ_=>?_) λ_=>?_|refine Af ?_ λ_=>?_)
 all_goals
  try simp only[BP,fIsValue,fNames,std,Nat.reduceAdd,isPolicy,szPolicy] at *
  try simp(disch:=omega) only[wrapId',toNat1] at *
  try simp(disch:=omega) only[Qa2,Qa4]
 all_goals first|trivial|omega|grind[wrapId',toNat1,drop_cons,drop_end,good_len,maxLen,isPolicy,fNames,fIsValue,szPolicy]
def An7:=Anv.a BP<|Fct.o (KP [1,2] [5]) Anv.2 func320 (by
 rintro⟨(p:Si_),_⟩ hp;exact ho _ (q3 p hp))
def Aj1:=An7.a BP<|Fct.o (KP [1,2] [5]) An7.2 func330 (by
 rintro⟨(p:Si_),_⟩ hp;exact ho _ (q3 p hp))
def fAllows:Fct:=⟨[.v (.el .bj),.v (.el .int),.v (.el .str)],[.el .bool],λ(x_:Si_×Int×ByteArray×Unit)=>szPolicy x_.1<=1099511627776,λ(x_:Si_×Int×ByteArray×Unit)=>(!x_.1.set_||(if x_.2.1=2\/x_.2.1=5 then x_.1.bp.any (λc=>decide (c=x_.2.2.1)) else if x_.2.1=3 then x_.1.styles.any (λc=>decide (c=x_.2.2.1)) else if x_.2.1=4 then x_.1.images.any (λc=>decide (c=x_.2.2.1)) else false),())⟩
def AlZ:=Aj1.a fAllows<|Fct.o (KP [1,2,3,6] [7,11,22,29]) Aj1.2 func365 (by
 rintro⟨(p:Si_),(k:Int),(h:ByteArray),_⟩ hp;refine ho (.br (!p.set_) (.lf fAllows (true,())) (.br (k==2) (.cl fHas9 (p.bp,h,()) λz2=>.lf fAllows (z2.1,())) (.br (k==5) (.cl fHas9 (p.bp,h,()) λz3=>.lf fAllows (z3.1,())) (.br (k==3) (.cl fHas9 (p.styles,h,()) λz4=>.lf fAllows (z4.1,())) (.br (k==4) (.cl fHas9 (p.images,h,()) λz5=>.lf fAllows (z5.1,())) (.lf fAllows (false,()))))))) ?_;repeat' (guard_target =~ Out.holds _ _;first|refine lfY ?_|refine Ab (λ_=>?_) λ_=>?_|refine Af ?_ λ_=>?_)
 all_goals
  have hl1:=Ac Ad p.bp;have hl2:=Ac Ad p.styles;have hl3:=Ac Ad p.images;try simp only[fAllows,fHas9,std,Nat.reduceAdd,fContains_str,szPolicy] at *
  try simp(disch:=omega) only[wrapId',toNat1] at *
  try simp(disch:=omega) only[Qa2,Qa4]
 all_goals first|trivial|omega|grind[wrapId',toNat1,drop_cons,drop_end,good_len,maxLen,fHas9,fContains_str,szPolicy])
def Ao2:=AlZ.a fAllows<|Fct.o (KP [1,2,3,6,10,11] [9,18,24]) AlZ.2 func389 (by
 rintro⟨(p:Si_),(k:Int),(h:ByteArray),_⟩ hp;refine ho (let q1_:Out:=.cl fContains_str (p.bp,h,()) λz2=>.lf fAllows (z2.1,());let q0_:Out:=.br (k==3) (.cl fContains_str (p.styles,h,()) λz3=>.lf fAllows (z3.1,())) (.br (k==4) (.cl fContains_str (p.images,h,()) λz4=>.lf fAllows (z4.1,())) (.lf fAllows (false,())));.br (!p.set_) (.lf fAllows (true,())) (.br (k==2) (.br (k==2) q1_ q0_) (.br (k==5) q1_ q0_))) ?_;repeat' (guard_target =~ Out.holds _ _;first|refine lfY ?_|refine Ab (λ_=>?_) λ_=>?_|refine Af ?_ λ_=>?_)
 all_goals
  have hl1:=Ac Ad p.bp;have hl2:=Ac Ad p.styles;have hl3:=Ac Ad p.images;try simp only[fAllows,fContains_str,std,Nat.reduceAdd,fHas9,szPolicy] at *
  try simp(disch:=omega) only[wrapId',toNat1] at *
  try simp(disch:=omega) only[Qa2,Qa4]
 all_goals first|trivial|omega|grind[wrapId',toNat1,drop_cons,drop_end,good_len,maxLen,fHas9,fContains_str,szPolicy])
def isRequest (r:Sf_):Bool:=inRange r.kind 1 5&&(isName r.to.host&&isName r.to.path)&&isName r.from_&&(decide (r.digest=⟨#[]⟩)||isValue r.digest)
def fIsRequest:Fct:=⟨[.v (.el .request)],[.el .bool],λ(x_:Sf_×Unit)=>szRequest x_.1<=1099511627776,λ(x_:Sf_×Unit)=>(isRequest x_.1,())⟩
theorem q4 (r:Sf_) (hp:fIsRequest.pre (r,())):Out.holds (fIsRequest.ctr (r,())).post (.cl fInRange (r.kind,(1:Int),(5:Int),()) λz2=>.br (z2.1) (.cl fIsAddr (r.to,()) λz3=>.br (z3.1) (.cl fIsName (r.from_,()) λz4=>.br (z4.1) (.br (r.digest.toList==(⟨#[]⟩:ByteArray).toList) (.lf fIsRequest (true,())) (.cl fIsValue (r.digest,()) λz5=>.lf fIsRequest (z5.1,()))) (.lf fIsRequest (false,()))) (.lf fIsRequest (false,()))) (.lf fIsRequest (false,()))):=by
 repeat' first|(guard_target =~ Out.holds _ _;first|refine lfY ?_|refine Ab (λ_=>?_) λ_=>?_|refine Af ?_ λ_=>?_)|exact trivial
 all_goals
  try simp only[fInRange,fIsAddr,fIsName,fIsRequest,fIsValue,std,Nat.reduceAdd,isRequest,szRequest,szAddr] at *
  try simp(disch:=omega) only[wrapId',toNat1] at *
  try simp(disch:=omega) only[Qa2,Qa4]
 all_goals first|trivial|omega|grind[wrapId',toNat1,drop_cons,drop_end,good_len,maxLen,isRequest,fIsName,fIsAddr,fIsValue,fInRange,szRequest,szAddr]
def Am2:=Ao2.a fIsRequest<|Fct.o [1,2] Ao2.2 func364 (by
 rintro⟨(r:Sf_),_⟩ hp;exact ho _ (q4 r hp))
def AnC:=Am2.a fIsRequest<|Fct.o [1,2] Am2.2 func388 (by
 rintro⟨(r:Sf_),_⟩ hp;exact ho _ (q4 r hp))
def allows (p:Si_) (k:Int) (h:ByteArray):Bool:=(fAllows.fn (p,k,h,())).1
def checkRequest (p:Si_) (r:Sf_):Int:=if isRequest r&&(decide (r.kind=1)||allows p r.kind r.to.host) then 1 else 2
def fCheckRequest:Fct:=⟨[.v (.el .bj),.v (.el .request)],[.el .int],λ(x_:Si_×Sf_×Unit)=>szPolicy x_.1<=1099511627776/\szRequest x_.2.1<=1099511627776,λ(x_:Si_×Sf_×Unit)=>(checkRequest x_.1 x_.2.1,())⟩
theorem q5 (p:Si_) (r:Sf_) (hp:fCheckRequest.pre (p,r,())):Out.holds (fCheckRequest.ctr (p,r,())).post (.cl fIsRequest (r,()) λz2=>.br (!z2.1) (.lf fCheckRequest ((2:Int),())) (.br (r.kind != 1) (.cl fAllows (p,r.kind,r.to.host,()) λz3=>.br (!z3.1) (.lf fCheckRequest ((2:Int),())) (.lf fCheckRequest ((1:Int),()))) (.lf fCheckRequest ((1:Int),())))):=by
 refine Af ?_ λ_=>(Ab (λh2=>lfY ?_) (λh2=>Ab (λh3=>Af ?_ λ_=>(Ab (λh5=>lfY ?_) (λh5=>lfY ?_))) (λh3=>lfY ?_)))
 all_goals
  try simp only[fAllows,fCheckRequest,fIsRequest,std,Nat.reduceAdd,checkRequest,allows] at *
  try simp(disch:=omega) only[wrapId',toNat1] at *
  try simp(disch:=omega) only[Qa2,Qa4]
 all_goals first|trivial|omega|grind[wrapId',toNat1,drop_cons,drop_end,good_len,maxLen,checkRequest,allows,fAllows,fIsRequest]
def All:=AnC.a fCheckRequest<|Fct.o (KP [2,3,4] [22]) AnC.2 func286 (by
 rintro⟨(p:Si_),(r:Sf_),_⟩ hp;exact ho _ (q5 p r hp))
def Am8:=All.a fCheckRequest<|Fct.o (KP [2,3,4] [22]) All.2 func308 (by
 rintro⟨(p:Si_),(r:Sf_),_⟩ hp;exact ho _ (q5 p r hp))
def fFitsKind:Fct:=⟨[.v (.el .bd),.v (.el .int)],[.el .bool],λ(x_:Sd_×Int×Unit)=>True,λ(x_:Sd_×Int×Unit)=>(decide (x_.1.kind=x_.2.1)||decide (x_.2.1=5/\x_.1.kind=2),())⟩
theorem q6 (x:Sd_) (k:Int) (hp:fFitsKind.pre (x,k,())):Out.holds (fFitsKind.ctr (x,k,())).post (.br (x.kind==k) (.lf fFitsKind (true,())) (.br (k==5) (.lf fFitsKind (x.kind==2,())) (.lf fFitsKind (false,())))):=by
 refine Ab (λh1=>lfY ?_) (λh1=>Ab (λh2=>lfY ?_) (λh2=>lfY ?_));all_goals
  try simp only[fFitsKind,std,Nat.reduceAdd] at *
  try simp(disch:=omega) only[wrapId',toNat1] at *
  try simp(disch:=omega) only[Qa2,Qa4]
 all_goals first|trivial|omega|grind[wrapId',toNat1,drop_cons,drop_end,good_len,maxLen]
def Aoa:=Am8.a fFitsKind<|Fct.o [1,2,4] Am8.2 func422 (by
 rintro⟨(x:Sd_),(k:Int),_⟩ hp;exact ho _ (q6 x k hp))
def AnJ:=Aoa.a fFitsKind<|Fct.o [1,2,4] Aoa.2 func442 (by
 rintro⟨(x:Sd_),(k:Int),_⟩ hp;exact ho _ (q6 x k hp))
def notFound:Sd_:=⟨404,1,⟨#[]⟩,0,false,⟨#[]⟩⟩
def fNotFound:Fct:=⟨[],[rE .bd],λ_=>True,λ_=>(notFound,())⟩
def Al6:=AnJ.a fNotFound<|Fct.o [0] AnJ.2 func162 (by
 rintro⟨_⟩ hp;refine ho (.lf fNotFound (⟨(404:Int),(1:Int),(⟨#[]⟩:ByteArray),(0:Int),false,(⟨#[]⟩:ByteArray)⟩,())) ?_;refine lfY ?_;all_goals try simp only[fNotFound,std,Nat.reduceAdd] at *
 all_goals first|trivial|omega|(simp_all;done)|(simp_all;omega)|grind)
def Am5:=Al6.a fNotFound<|Fct.o [0] Al6.2 func173 (by
 rintro⟨_⟩ hp;refine ho (.lf fNotFound (⟨(404:Int),(1:Int),(⟨#[]⟩:ByteArray),(0:Int),false,(⟨#[]⟩:ByteArray)⟩,())) ?_;refine lfY ?_;all_goals try simp only[fNotFound,std,Nat.reduceAdd] at *
 all_goals first|trivial|omega|(simp_all;done)|(simp_all;omega)|grind)
def fCopyServers:Fct:=⟨[.v (.sl .server)],[.sl .server],λ(x_:(List Sk_)×Unit)=>szL AR x_.1<=68719476736,λ(x_:(List Sk_)×Unit)=>(x_.1,())⟩
abbrev CQ (l:(List Sk_)):LInv:=⟨[⟨.s,3,true,.sl .server⟩,⟨.s,4,true,.el .int⟩],λ_ (x_:(List Sk_)×Int×Unit)=>0<=x_.2.1/\x_.2.1<=l.length/\x_.1=l.take x_.2.1.toNat,λ(x_:(List Sk_)×Int×Unit)=>l.length-x_.2.1.toNat⟩
def AoO:=Am5.a fCopyServers<|Fct.p (KP [0,2,3,4] [9]) (λ⟨l,_⟩=>lv [(3,CQ l)]) Am5.2 func212 (by
 rintro⟨(l:List Sk_),_⟩ hp;refine ho (lpx (CQ l) ([],((0:Int),())) λ(y1:List Sk_×Int×PUnit) bk1=>.br (decide (y1.2.1<(l.length:Int))) (.ob (inB y1.2.1 l.length)<|.ob (inB y1.2.1 l.length)<|.ob (True)<|.ob (Bz (l.getD y1.2.1.toNat default).files.length 80)<|.ob (Bz (y1.1.length+[l.getD y1.2.1.toNat default].length) 40)<|.ob (l=l)<|.ob (bk1 (y1.1++[l.getD y1.2.1.toNat default],(w1 y1.2.1,())))<|.ok) (.lf fCopyServers (y1.1,()))) ?_;refine An ?_ λ(y1:List Sk_×Int×PUnit) i1=>Ab (λh2=>Aa ?_ λ_=>Aa ?_ λ_=>Aa trivial λ_=>Aa ?_ λ_=>Aa ?_ λ_=>Aa rfl λ_=>Aa ?_ λ_=>trivial) (λh2=>lfY ?_)
 all_goals
  have hl:=Ac AR l;have hg:∀ i,i<l.length->(l.getD i default).files.length<=68719476736:=λi h=>by have:=HF h;have hp2:szL AR l<=68719476736:=hp;omega
  try simp only[CQ,fCopyServers,std,Nat.reduceAdd,take_succ,take_end] at *
  try simp(disch:=omega) only[wrapId',toNat1] at *
  try simp(disch:=omega) only[Qa2,Qa4]
 all_goals first|trivial|omega|grind[wrapId',toNat1,drop_cons,drop_end,good_len,maxLen,take_succ,take_end])
abbrev Ca (l:(List Sk_)):LInv:=⟨[⟨.s,3,true,.sl .server⟩,⟨.s,9,true,.el .int⟩],λ_ (x_:(List Sk_)×Int×Unit)=>0<=x_.2.1/\x_.2.1<=l.length/\x_.1=l.take x_.2.1.toNat,λ(x_:(List Sk_)×Int×Unit)=>l.length-x_.2.1.toNat⟩
def AnI:=AoO.a fCopyServers<|Fct.p (KP [0,2,3,5,7,8,9] [10]) (λ⟨l,_⟩=>lv [(3,Ca l)]) AoO.2 func242 (by
 rintro⟨(l:List Sk_),_⟩ hp;refine ho (lpx (Ca l) ([],((0:Int),())) λ(y1:List Sk_×Int×PUnit) bk1=>.br (decide (y1.2.1<(l.length:Int))) (.ob (inB y1.2.1 l.length)<|.ob (True)<|.ob (Bz (l.getD y1.2.1.toNat default).files.length 80)<|.ob (Bz (y1.1.length+[l.getD y1.2.1.toNat default].length) 40)<|.ob (l=l)<|.ob (l=l)<|.ob (Value.int IntKind.i64 (l.length:Int)=Value.int IntKind.i64 (l.length:Int))<|.ob (bk1 (y1.1++[l.getD y1.2.1.toNat default],(w1 y1.2.1,())))<|.ok) (.lf fCopyServers (y1.1,()))) ?_;refine An ?_ λ(y1:List Sk_×Int×PUnit) i1=>Ab (λh2=>Aa ?_ λ_=>Aa trivial λ_=>Aa ?_ λ_=>Aa ?_ λ_=>Aa rfl λ_=>Aa rfl λ_=>Aa rfl λ_=>Aa ?_ λ_=>trivial) (λh2=>lfY ?_)
 all_goals
  have hl:=Ac AR l;have hg:∀ i,i<l.length->(l.getD i default).files.length<=68719476736:=λi h=>by have:=HF h;have hp2:szL AR l<=68719476736:=hp;omega
  try simp only[Ca,fCopyServers,std,Nat.reduceAdd,take_succ,take_end] at *
  try simp(disch:=omega) only[wrapId',toNat1] at *
  try simp(disch:=omega) only[Qa2,Qa4]
 all_goals first|trivial|omega|grind[wrapId',toNat1,drop_cons,drop_end,good_len,maxLen,take_succ,take_end])
def fCopyCache:Fct:=⟨[.v (.el .cache)],[.el .cache],λ(x_:Sl_×Unit)=>szCache x_.1<=68719476736,λ(x_:Sl_×Unit)=>(x_.1,())⟩
theorem q7 (c:Sl_) (hp:fCopyCache.pre (c,())):Out.holds (fCopyCache.ctr (c,())).post (.ob (True)<|.ob (Bz (0+c.bg.length) 120)<|.lf fCopyCache (⟨[]++c.bg⟩,())):=by
 refine Aa trivial λ_=>Aa ?_ λ_=>lfY ?_
 all_goals
  have hl:=Ac AE c.bg;try simp only[fCopyCache,std,Nat.reduceAdd,szCache] at *
  try simp(disch:=omega) only[wrapId',toNat1] at *
  try simp(disch:=omega) only[Qa2,Qa4]
 all_goals first|trivial|omega|grind[wrapId',toNat1,drop_cons,drop_end,good_len,maxLen,szCache]
def AlP:=AnI.a fCopyCache<|Fct.o [1,2] AnI.2 func213 (by
 rintro⟨(c:Sl_),_⟩ hp;exact ho _ (q7 c hp))
def Am4:=AlP.a fCopyCache<|Fct.o [1,2] AlP.2 func243 (by
 rintro⟨(c:Sl_),_⟩ hp;exact ho _ (q7 c hp))
def fCopyNet:Fct:=⟨[.v (.el .net)],[.el .net],λ(x_:Su_×Unit)=>szNet x_.1<=68719476736,λ(x_:Su_×Unit)=>(x_.1,())⟩
theorem q8 (n:Su_) (hp:fCopyNet.pre (n,())):Out.holds (fCopyNet.ctr (n,())).post (.cl fCopyServers (n.servers,()) λz2=>.cl fCopyCache (n.cache,()) λz3=>.ob (True)<|.ob (Bz n.log.length 56)<|.lf fCopyNet (⟨z2.1,z3.1,n.log,n.now⟩,())):=by
 refine Af ?_ λ_=>(Af ?_ λ_=>(Aa trivial λ_=>Aa ?_ λ_=>lfY ?_))
 all_goals
  have hl:=Ac DM n.log;try simp only[fCopyCache,fCopyNet,fCopyServers,std,Nat.reduceAdd,szNet] at *
  try simp(disch:=omega) only[wrapId',toNat1] at *
  try simp(disch:=omega) only[Qa2,Qa4]
 all_goals first|trivial|omega|grind[wrapId',toNat1,drop_cons,drop_end,good_len,maxLen,szNet,fCopyServers,fCopyCache]
def Amm:=Am4.a fCopyNet<|Fct.o [1,2] Am4.2 func136 (by
 rintro⟨(n:Su_),_⟩ hp;exact ho _ (q8 n hp))
def AjZ:=Amm.a fCopyNet<|Fct.o [1,2] Amm.2 func151 (by
 rintro⟨(n:Su_),_⟩ hp;exact ho _ (q8 n hp))
def fServerAt:Fct:=⟨[.v (.sl .server),.v (.el .str)],[.el .int],λ(x_:(List Sk_)×ByteArray×Unit)=>x_.1.length<=1000000000000,λ(x_:(List Sk_)×ByteArray×Unit)=>(fidx (λs=>decide (s.host=x_.2.1)) x_.1 0,())⟩
abbrev C0 (l:(List Sk_)) (h:ByteArray):LInv:=⟨[⟨.s,5,true,.el .int⟩],λ_ (x_:Int×Unit)=>0<=x_.1/\x_.1<=l.length/\fidx (λs=>decide (s.host=h)) (l.drop x_.1.toNat) x_.1=fidx (λs=>decide (s.host=h)) l 0,λ(x_:Int×Unit)=>l.length-x_.1.toNat⟩
def Als:=AjZ.a fServerAt<|Fct.p (KP [0,1,4,5] [9,18]) (λ⟨l,h,_⟩=>lv [(2,C0 l h)]) AjZ.2 func250 (by
 rintro⟨(l:List Sk_),(h:ByteArray),_⟩ hp;refine ho (lpx (C0 l h) ((0:Int),()) λ(y1:Int×PUnit) bk1=>.br (decide (y1.1<(l.length:Int))) (.ob (inB y1.1 l.length)<|.br ((l.getD y1.1.toNat default).host.toList==h.toList) (.lf fServerAt (y1.1,())) (.ob (l=l)<|.ob (Value.string h=Value.string h)<|.ob (bk1 (w1 y1.1,()))<|.ok)) (.lf fServerAt ((-1:Int),()))) ?_;refine An ?_ λ(y1:Int×PUnit) i1=>Ab (λh2=>Aa ?_ λ_=>Ab (λh4=>lfY ?_) (λh4=>Aa rfl λ_=>Aa rfl λ_=>Aa ?_ λ_=>trivial)) (λh2=>lfY ?_)
 all_goals
  try simp only[C0,fServerAt,std,Nat.reduceAdd,fidx] at *
  try simp(disch:=omega) only[wrapId',toNat1] at *
  try simp(disch:=omega) only[Qa2,Qa4]
 all_goals first|trivial|omega|grind[wrapId',toNat1,drop_cons,drop_end,good_len,maxLen,fidx])
def fServerAt1:Fct:=⟨[.v (.el .server),.p (.el .str)],[.el .bool],λ(x_:Sk_×ByteArray×Unit)=>True,λ(x_:Sk_×ByteArray×Unit)=>(decide (x_.1.host=x_.2.1),())⟩
def Alz:=Als.a fServerAt1<|Fct.o [1,2,3] Als.2 func323 (by
 rintro⟨(s:Sk_),(h:ByteArray),_⟩ hp;refine ho (.lf fServerAt1 (s.host.toList==ByteArray.toList h,())) ?_;refine lfY ?_;all_goals
  try simp only[fServerAt1,std,Nat.reduceAdd] at *
  try simp(disch:=omega) only[wrapId',toNat1] at *
  try simp(disch:=omega) only[Qa2,Qa4]
 all_goals first|trivial|omega|grind[wrapId',toNat1,drop_cons,drop_end,good_len,maxLen])
def AJ:Fct:=⟨[aL .server,.c 323 [.el .str]],[rI],λx=>x.1.length<=1000000000000000000/\∀ c,fServerAt1.pre (c,x.2.1),λx=>(fidx (λc=>(fServerAt1.fn (c,x.2.1)).1) x.1 0,())⟩
abbrev Ai (l:(List Sk_)) (u:(ByteArray×Unit)):LInv:=⟨[⟨.s,8,true,.el .int⟩],λ_ (x_:Int×Unit)=>0<=x_.1/\x_.1<=l.length/\fidx (λc=>(fServerAt1.fn (c,u)).1) l 0=fidx (λc=>(fServerAt1.fn (c,u)).1) (l.drop x_.1.toNat) x_.1,λ(x_:Int×Unit)=>l.length-x_.1.toNat⟩
def AmI:=Alz.a AJ<|Fct.p (KP [0,1,4,5,7,8] [9,16]) (λ⟨l,u,_⟩=>lv [(2,Ai l u)]) Alz.2 func322 (by
 rintro⟨(l:List Sk_),(u:ByteArray×PUnit),_⟩ hp;refine ho (lpx (Ai l u) ((0:Int),()) λ(y1:Int×PUnit) bk1=>.br (decide (y1.1<(l.length:Int))) (.ob (inB y1.1 l.length)<|.cl fServerAt1 (l.getD y1.1.toNat default,u.1,()) λz2=>.br (z2.1) (.lf AJ (y1.1,())) (.ob (l=l)<|.ob (enc Ty.str u.1=enc Ty.str u.1)<|.ob (Value.int IntKind.i64 (l.length:Int)=Value.int IntKind.i64 (l.length:Int))<|.ob (bk1 (w1 y1.1,()))<|.ok)) (.lf AJ ((-1:Int),()))) ?_;refine An ?_ λ(y1:Int×PUnit) i1=>Ab (λh2=>Aa ?_ λ_=>Af trivial λ_=>(Ab (λh4=>lfY ?_) (λh4=>Aa rfl λ_=>Aa rfl λ_=>Aa rfl λ_=>Aa ?_ λ_=>trivial))) (λh2=>lfY ?_)
 all_goals
  try simp only[Ai,AJ,fServerAt1,std,Nat.reduceAdd] at *
  try have hp2:=hp.2
  try have hp1:=hp.1
 all_goals first|trivial|omega|grind[wrapId',toNat1,drop_cons,drop_end,good_len,maxLen,fidx])
def Akl:=AmI.a fServerAt<|Fct.o [0,3,4] AmI.2 func259 (by
 rintro⟨(l:List Sk_),(h:ByteArray),_⟩ hp;refine ho (.cl AJ (l,(h,()),()) λ(z2:Int×PUnit)=>.lf fServerAt (z2.1,())) ?_;refine Af ?_ λ_=>(lfY ?_)
 all_goals
  try simp only[AJ,fServerAt,std,Nat.reduceAdd,fServerAt1] at *
  try simp(disch:=omega) only[wrapId',toNat1] at *
  try simp(disch:=omega) only[Qa2,Qa4]
 all_goals first|trivial|omega|grind[wrapId',toNat1,drop_cons,drop_end,good_len,maxLen,fServerAt1])
def fFileAt:Fct:=⟨[.v (.el .server),.v (.el .str)],[.el .int],λ(x_:Sk_×ByteArray×Unit)=>x_.1.files.length<=1000000000000,λ(x_:Sk_×ByteArray×Unit)=>(fidx (λf=>decide (f.path=x_.2.1)) x_.1.files 0,())⟩
abbrev DJ (s:Sk_) (p:ByteArray):LInv:=⟨[⟨.s,5,true,.el .int⟩,⟨.b,2,false,.el .server⟩],λ(z_ x_:Int×Sk_×Unit)=>(0<=x_.1/\x_.1<=s.files.length/\fidx (λf=>decide (f.path=p)) (s.files.drop x_.1.toNat) x_.1=fidx (λf=>decide (f.path=p)) s.files 0)/\x_.2.1=z_.2.1,λ(x_:Int×Sk_×Unit)=>s.files.length-x_.1.toNat⟩
def Ang:=Akl.a fFileAt<|Fct.p (KP [1,2,4,5] [10,20]) (λ⟨s,p,_⟩=>lv [(2,DJ s p)]) Akl.2 func251 (by
 rintro⟨(s:Sk_),(p:ByteArray),_⟩ hp;refine ho (lpx (DJ s p) ((0:Int),(s,())) λ(y1:Int×Sk_×PUnit) bk1=>.br (decide (y1.1<(y1.2.1.files.length:Int))) (.ob (inB y1.1 y1.2.1.files.length)<|.br ((y1.2.1.files.getD y1.1.toNat default).path.toList==p.toList) (.lf fFileAt (y1.1,())) (.ob (Value.string p=Value.string p)<|.ob (bk1 (w1 y1.1,(y1.2.1,())))<|.ok)) (.lf fFileAt ((-1:Int),()))) ?_;refine An ?_ λ(y1:Int×Sk_×PUnit) i1=>Ab (λh2=>Aa ?_ λ_=>Ab (λh4=>lfY ?_) (λh4=>Aa rfl λ_=>Aa ?_ λ_=>trivial)) (λh2=>lfY ?_)
 all_goals
  try simp only[DJ,fFileAt,std,Nat.reduceAdd,fidx] at *
  try simp(disch:=omega) only[wrapId',toNat1] at *
  try simp(disch:=omega) only[Qa2,Qa4]
 all_goals first|trivial|omega|grind[wrapId',toNat1,drop_cons,drop_end,good_len,maxLen,fidx])
def fFileAt1:Fct:=⟨[.v (.el .file),.p (.el .str)],[.el .bool],λ(x_:Sv_×ByteArray×Unit)=>True,λ(x_:Sv_×ByteArray×Unit)=>(decide (x_.1.path=x_.2.1),())⟩
def AjQ:=Ang.a fFileAt1<|Fct.o [1,2,3] Ang.2 func325 (by
 rintro⟨(f:Sv_),(p:ByteArray),_⟩ hp;refine ho (.lf fFileAt1 (f.path.toList==ByteArray.toList p,())) ?_;refine lfY ?_;all_goals
  try simp only[fFileAt1,std,Nat.reduceAdd] at *
  try simp(disch:=omega) only[wrapId',toNat1] at *
  try simp(disch:=omega) only[Qa2,Qa4]
 all_goals first|trivial|omega|grind[wrapId',toNat1,drop_cons,drop_end,good_len,maxLen])
def AX:Fct:=⟨[aL .file,.c 325 [.el .str]],[rI],λx=>x.1.length<=1000000000000000000/\∀ c,fFileAt1.pre (c,x.2.1),λx=>(fidx (λc=>(fFileAt1.fn (c,x.2.1)).1) x.1 0,())⟩
abbrev Av (l:(List Sv_)) (u:(ByteArray×Unit)):LInv:=⟨[⟨.s,8,true,.el .int⟩],λ_ (x_:Int×Unit)=>0<=x_.1/\x_.1<=l.length/\fidx (λc=>(fFileAt1.fn (c,u)).1) l 0=fidx (λc=>(fFileAt1.fn (c,u)).1) (l.drop x_.1.toNat) x_.1,λ(x_:Int×Unit)=>l.length-x_.1.toNat⟩
def AlO:=AjQ.a AX<|Fct.p (KP [0,1,4,5,7,8] [9,16]) (λ⟨l,u,_⟩=>lv [(2,Av l u)]) AjQ.2 func324 (by
 rintro⟨(l:List Sv_),(u:ByteArray×PUnit),_⟩ hp;refine ho (lpx (Av l u) ((0:Int),()) λ(y1:Int×PUnit) bk1=>.br (decide (y1.1<(l.length:Int))) (.ob (inB y1.1 l.length)<|.cl fFileAt1 (l.getD y1.1.toNat default,u.1,()) λz2=>.br (z2.1) (.lf AX (y1.1,())) (.ob (l=l)<|.ob (enc Ty.str u.1=enc Ty.str u.1)<|.ob (Value.int IntKind.i64 (l.length:Int)=Value.int IntKind.i64 (l.length:Int))<|.ob (bk1 (w1 y1.1,()))<|.ok)) (.lf AX ((-1:Int),()))) ?_;refine An ?_ λ(y1:Int×PUnit) i1=>Ab (λh2=>Aa ?_ λ_=>Af trivial λ_=>(Ab (λh4=>lfY ?_) (λh4=>Aa rfl λ_=>Aa rfl λ_=>Aa rfl λ_=>Aa ?_ λ_=>trivial))) (λh2=>lfY ?_)
 all_goals
  try simp only[Av,fFileAt1,AX,std,Nat.reduceAdd] at *
  try have hp2:=hp.2
  try have hp1:=hp.1
 all_goals first|trivial|omega|grind[wrapId',toNat1,drop_cons,drop_end,good_len,maxLen,fidx])
def AlM:=AlO.a fFileAt<|Fct.o [2,3,4] AlO.2 func260 (by
 rintro⟨(s:Sk_),(p:ByteArray),_⟩ hp;refine ho (.cl AX (s.files,(p,()),()) λ(z2:Int×PUnit)=>.lf fFileAt (z2.1,())) ?_;refine Af ?_ λ_=>(lfY ?_)
 all_goals
  try simp only[fFileAt,AX,std,Nat.reduceAdd,fFileAt1] at *
  try simp(disch:=omega) only[wrapId',toNat1] at *
  try simp(disch:=omega) only[Qa2,Qa4]
 all_goals first|trivial|omega|grind[wrapId',toNat1,drop_cons,drop_end,good_len,maxLen,fFileAt1])
def answerTo (l:List Sk_) (a:Sb_):Sd_:=if fidx (λs=>decide (s.host=a.host)) l 0<0 then notFound else if fidx (λf=>decide (f.path=a.path)) (l.getD (fidx (λs=>decide (s.host=a.host)) l 0).toNat default).files 0<0 then notFound else((l.getD (fidx (λs=>decide (s.host=a.host)) l 0).toNat default).files.getD (fidx (λf=>decide (f.path=a.path)) (l.getD (fidx (λs=>decide (s.host=a.host)) l 0).toNat default).files 0).toNat default).bd
def fAnswerTo:Fct:=⟨[.v (.sl .server),.v (.el .addr)],[.el .bd],λ(x_:(List Sk_)×Sb_×Unit)=>szL AR x_.1<=68719476736,λ(x_:(List Sk_)×Sb_×Unit)=>(answerTo x_.1 x_.2.1,())⟩
theorem q9 (l:List Sk_) (a:Sb_) (hp:fAnswerTo.pre (l,a,())):Out.holds (fAnswerTo.ctr (l,a,())).post (.cl fServerAt (l,a.host,()) λ(z2:Int×PUnit)=>.br (decide (z2.1<0)) (.cl fNotFound () λz3=>.lf fAnswerTo (z3.1,())) (.ob (0<=z2.1/\z2.1<(↑(List.length l):Int))<|.cl fFileAt (List.getD l z2.1.toNat default,a.path,()) λ(z4:Int×PUnit)=>.br (decide (z4.1<0)) (.cl fNotFound () λz5=>.lf fAnswerTo (z5.1,())) (.ob (0<=z2.1/\z2.1<(↑(List.length l):Int))<|.ob (0<=z4.1/\z4.1<(↑(List.getD l z2.1.toNat default).files.length:Int))<|.lf fAnswerTo (((List.getD l z2.1.toNat default).files.getD z4.1.toNat default).bd,())))):=by
 refine Af ?_ λ_=>(Ab (λh2=>Af trivial λ_=>(lfY ?_)) (λh2=>Aa ?_ λ_=>Af ?_ λ_=>(Ab (λh5=>Af trivial λ_=>(lfY ?_)) (λh5=>Aa ?_ λ_=>Aa ?_ λ_=>lfY ?_))))
 all_goals
  have hl:=Ac AR l;have hg:∀ i,i<l.length->(l.getD i default).files.length<=68719476736:=λi h=>by have:=HF h;have hp2:szL AR l<=68719476736:=hp;omega
  have hf:=EQ (λs:Sk_=>decide (s.host=a.host)) l 0 o_;have hf2:=λfs=>EQ (λf:Sv_=>decide (f.path=a.path)) fs 0 o_
  try simp only[fAnswerTo,fFileAt,fNotFound,fServerAt,std,Nat.reduceAdd,answerTo] at *
  try simp(disch:=omega) only[wrapId',toNat1] at *
  try simp(disch:=omega) only[Qa2,Qa4]
 all_goals first|trivial|omega|grind[wrapId',toNat1,drop_cons,drop_end,good_len,maxLen,answerTo,fServerAt,fFileAt,fNotFound]
def An5:=AlM.a fAnswerTo<|Fct.o (KP [0,3,4,5,6] [12,22]) AlM.2 func164 (by
 rintro⟨(l:List Sk_),(a:Sb_),_⟩ hp;exact ho _ (q9 l a hp))
def AkV:=An5.a fAnswerTo<|Fct.o (KP [0,3,4,5,6] [12,22]) An5.2 func175 (by
 rintro⟨(l:List Sk_),(a:Sb_),_⟩ hp;exact ho _ (q9 l a hp))
def fFindEntry:Fct:=⟨[.v (.el .cache),.v (.el .str),.v (.el .addr)],[.el .int],λ(x_:Sl_×ByteArray×Sb_×Unit)=>x_.1.bg.length<=1000000000000,λ(x_:Sl_×ByteArray×Sb_×Unit)=>(fidx (λe=>decide (e.top=x_.2.1)&&decide (e.to=x_.2.2.1)) x_.1.bg 0,())⟩
abbrev C7 (c:Sl_) (t:ByteArray) (a:Sb_):LInv:=⟨[⟨.s,7,true,.el .int⟩,⟨.b,3,false,.el .cache⟩,⟨.b,5,true,.el .addr⟩],λ(z_ x_:Int×Sl_×Sb_×Unit)=>((0<=x_.1/\x_.1<=c.bg.length/\fidx (λe=>decide (e.top=t)&&decide (e.to=a)) (c.bg.drop x_.1.toNat) x_.1=fidx (λe=>decide (e.top=t)&&decide (e.to=a)) c.bg 0)/\x_.2.1=z_.2.1)/\x_.2.2.1=z_.2.2.1,λ(x_:Int×Sl_×Sb_×Unit)=>c.bg.length-x_.1.toNat⟩
def Alv:=AkV.a fFindEntry<|Fct.p (KP [1,3,5,6,7] [12,32]) (λ⟨c,t,a,_⟩=>lv [(2,C7 c t a)]) AkV.2 func319 (by
 rintro⟨(c:Sl_),(t:ByteArray),(a:Sb_),_⟩ hp;refine ho (lpx (C7 c t a) ((0:Int),(c,(a,()))) λ(y1:Int×Sl_×Sb_×PUnit) bk1=>let q2_:=inB y1.1 y1.2.1.bg.length;let q1_:=y1.2.1.bg.getD y1.1.toNat default;let q0_:Out:=.ob (Value.string t=Value.string t)<|.ob (bk1 (w1 y1.1,(y1.2.1,(y1.2.2.1,()))))<|.ok;.br (decide (y1.1<(y1.2.1.bg.length:Int))) (.ob q2_<|.br (q1_.top.toList==t.toList) (.ob q2_<|.br (q1_.to.host==y1.2.2.1.host&&(q1_.to.path==y1.2.2.1.path&&true)) (.lf fFindEntry (y1.1,())) q0_) q0_) (.lf fFindEntry ((-1:Int),()))) ?_;refine An ?_ λ(y1:Int×Sl_×Sb_×PUnit) i1=>Ab (λh2=>Aa ?_ λ_=>Ab (λh4=>Aa ?_ λ_=>Ab (λh6=>lfY ?_) (λh6=>Aa rfl λ_=>Aa ?_ λ_=>trivial)) (λh4=>Aa rfl λ_=>Aa ?_ λ_=>trivial)) (λh2=>lfY ?_)
 all_goals
  try simp only[Di] at *
  try simp only[C7,fFindEntry,std,Nat.reduceAdd,fidx] at *
  try simp(disch:=omega) only[wrapId',toNat1] at *
  try simp(disch:=omega) only[Qa2,Qa4]
 all_goals first|trivial|omega|grind[wrapId',toNat1,drop_cons,drop_end,good_len,maxLen,fidx])
def fEntryAt1:Fct:=⟨[.v (.el .entry),.p (.el .str),.p (.el .addr)],[.el .bool],λ(x_:Sq_×ByteArray×Sb_×Unit)=>True,λ(x_:Sq_×ByteArray×Sb_×Unit)=>(decide (x_.1.top=x_.2.1)&&decide (x_.1.to=x_.2.2.1),())⟩
def Ams:=Alv.a fEntryAt1<|Fct.o [1,2,3,4] Alv.2 func394 (by
 rintro⟨(e:Sq_),(t:ByteArray),(a:Sb_),_⟩ hp;refine ho (.br (e.top.toList==ByteArray.toList t) (.lf fEntryAt1 (e.to.host==a.host&&(e.to.path==a.path&&true),())) (.lf fEntryAt1 (false,()))) ?_;refine Ab (λh1=>lfY ?_) (λh1=>lfY ?_);all_goals
  try simp only[Di] at *
  try simp only[fEntryAt1,std,Nat.reduceAdd] at *
  try simp(disch:=omega) only[wrapId',toNat1] at *
  try simp(disch:=omega) only[Qa2,Qa4]
 all_goals first|trivial|omega|grind[wrapId',toNat1,drop_cons,drop_end,good_len,maxLen])
def AQ:Fct:=⟨[aL .entry,.c 394 [.el .str,.el .addr]],[rI],λx=>x.1.length<=1000000000000000000/\∀ c,fEntryAt1.pre (c,x.2.1),λx=>(fidx (λc=>(fEntryAt1.fn (c,x.2.1)).1) x.1 0,())⟩
abbrev Ao (l:(List Sq_)) (u:(ByteArray×Sb_×Unit)):LInv:=⟨[⟨.s,8,true,.el .int⟩],λ_ (x_:Int×Unit)=>0<=x_.1/\x_.1<=l.length/\fidx (λc=>(fEntryAt1.fn (c,u)).1) l 0=fidx (λc=>(fEntryAt1.fn (c,u)).1) (l.drop x_.1.toNat) x_.1,λ(x_:Int×Unit)=>l.length-x_.1.toNat⟩
def Anz:=Ams.a AQ<|Fct.p (KP [0,1,4,5,7,8] [9,16]) (λ⟨l,u,_⟩=>lv [(2,Ao l u)]) Ams.2 func257 (by
 rintro⟨(l:List Sq_),(u:ByteArray×Sb_×PUnit),_⟩ hp;refine ho (lpx (Ao l u) ((0:Int),()) λ(y1:Int×PUnit) bk1=>.br (decide (y1.1<(l.length:Int))) (.ob (inB y1.1 l.length)<|.cl fEntryAt1 (l.getD y1.1.toNat default,u.1,u.2.1,()) λz2=>.br (z2.1) (.lf AQ (y1.1,())) (.ob (l=l)<|.ob (enc Ty.str u.1=enc Ty.str u.1)<|.ob (enc Ty.addr u.2.1=enc Ty.addr u.2.1)<|.ob (Value.int IntKind.i64 (l.length:Int)=Value.int IntKind.i64 (l.length:Int))<|.ob (bk1 (w1 y1.1,()))<|.ok)) (.lf AQ ((-1:Int),()))) ?_;refine An ?_ λ(y1:Int×PUnit) i1=>Ab (λh2=>Aa ?_ λ_=>Af trivial λ_=>(Ab (λh4=>lfY ?_) (λh4=>Aa rfl λ_=>Aa rfl λ_=>Aa rfl λ_=>Aa rfl λ_=>Aa ?_ λ_=>trivial))) (λh2=>lfY ?_)
 all_goals
  try simp only[Ao,fEntryAt1,AQ,std,Nat.reduceAdd] at *
  try have hp2:=hp.2
  try have hp1:=hp.1
 all_goals first|trivial|omega|grind[wrapId',toNat1,drop_cons,drop_end,good_len,maxLen,fidx])
def Alp:=Anz.a fFindEntry<|Fct.o [3,4,5,6] Anz.2 func326 (by
 rintro⟨(c:Sl_),(t:ByteArray),(a:Sb_),_⟩ hp;refine ho (.cl AQ (c.bg,(t,a,()),()) λ(z2:Int×PUnit)=>.lf fFindEntry (z2.1,())) ?_;refine Af ?_ λ_=>(lfY ?_)
 all_goals
  try simp only[fFindEntry,AQ,std,Nat.reduceAdd,fEntryAt1] at *
  try simp(disch:=omega) only[wrapId',toNat1] at *
  try simp(disch:=omega) only[Qa2,Qa4]
 all_goals first|trivial|omega|grind[wrapId',toNat1,drop_cons,drop_end,good_len,maxLen,fEntryAt1])
def freshEntry (t:ByteArray) (a:Sb_) (now:Int) (e:Sq_):Bool:=decide (e.top=t)&&(decide (e.to=a)&&decide (now<=e.until_))
def lookUp (c:Sl_) (t:ByteArray) (a:Sb_) (now:Int):Option Sd_:=(c.bg.find? (freshEntry t a now)).map (·.bd)
def fLookUp:Fct:=⟨[.v (.el .cache),.v (.el .str),.v (.el .addr),.v (.el .int)],[.el .bd,.el .bool],λ(x_:Sl_×ByteArray×Sb_×Int×Unit)=>x_.1.bg.length<=1000000000000,λ(x_:Sl_×ByteArray×Sb_×Int×Unit)=>((lookUp x_.1 x_.2.1 x_.2.2.1 x_.2.2.2.1).getD notFound,(lookUp x_.1 x_.2.1 x_.2.2.1 x_.2.2.2.1).isSome,())⟩
theorem LD {α:Type} [Inhabited α] (p:α->Bool):∀ (l:List α) (i:Int),0<=i->l.find? p=if 0<=fidx p l i then some (l.getD (fidx p l i-i).toNat default) else none:=by
 intro l
 induction l with
 | nil=>intro i _;simp[fidx]
 | cons x l ih=>
  intro i hi;simp only[List.find?_cons,fidx];by_cases hx:p x=true
  ·simp[hx,hi]
  ·
   have hx:p x=false:=by simpa using hx
   have h1:=EQ p l (i+1) o_;have h2:=ih (i+1) o_;simp only[hx,Qd4,Qe6,h2];split
   ·rename_i h3;have h4:i+1<=fidx p l (i+1):=by
     have:∀ (l:List α) (i:Int),0<=i->0<=fidx p l i->i<=fidx p l i:=by
      intro l
      induction l with
      | nil=>intro i _ h;simp[fidx] at h
      | cons y l ih=>
       intro i hi h;simp only[fidx] at h ⊢;split
       ·omega
       ·grind
     grind
    have h5:(fidx p l (i+1)-i).toNat=(fidx p l (i+1)-(i+1)).toNat+1:=o_
    rw[h5];rfl
   ·rfl
abbrev CV (c:Sl_) (t:ByteArray) (a:Sb_) (now:Int):LInv:=⟨[⟨.s,10,true,.el .int⟩,⟨.b,4,false,.el .cache⟩,⟨.b,6,true,.el .addr⟩,⟨.b,8,true,.el .bd⟩],λ(z_ x_:Int×Sl_×Sb_×Sd_×Unit)=>(((0<=x_.1/\x_.1<=c.bg.length/\(c.bg.drop x_.1.toNat).find? (freshEntry t a now)=c.bg.find? (freshEntry t a now))/\x_.2.1=z_.2.1)/\x_.2.2.1=z_.2.2.1)/\x_.2.2.2.1=z_.2.2.2.1,λ(x_:Int×Sl_×Sb_×Sd_×Unit)=>c.bg.length-x_.1.toNat⟩
def Aoq:=Alp.a fLookUp<|Fct.p (KP [1,3,4,6,8,9,10] [15,45]) (λ⟨c,t,a,now,_⟩=>lv [(2,CV c t a now)]) Alp.2 func163 (by
 rintro⟨(c:Sl_),(t:ByteArray),(a:Sb_),(now:Int),_⟩ hp;refine ho (lpx (CV c t a now) ((0:Int),(c,(a,(default,())))) λ(y1:Int×Sl_×Sb_×Sd_×PUnit) bk1=>let q2_:=inB y1.1 y1.2.1.bg.length;let q1_:=y1.2.1.bg.getD y1.1.toNat default;let q0_:Out:=.ob (Value.string t=Value.string t)<|.ob (Value.int IntKind.i64 now=Value.int IntKind.i64 now)<|.ob (bk1 (w1 y1.1,(y1.2.1,(y1.2.2.1,(y1.2.2.2.1,())))))<|.ok;.br (decide (y1.1<(y1.2.1.bg.length:Int))) (.ob q2_<|.br (q1_.top.toList==t.toList) (.ob q2_<|.br (q1_.to.host==y1.2.2.1.host&&(q1_.to.path==y1.2.2.1.path&&true)) (.ob q2_<|.br (decide (q1_.until_>=now)) (.ob q2_<|.lf fLookUp (q1_.bd,true,())) q0_) q0_) q0_) (.cl fNotFound () λz2=>.lf fLookUp (z2.1,false,()))) ?_;repeat' first|(guard_target =~ Out.holds _ _;first|refine An (li:=CV c t a now) ?_ λ(y1:Int×Sl_×Sb_×Sd_×PUnit) i1=>?_|refine lfY ?_|refine Ab (λ_=>?_) λ_=>?_|refine Af ?_ λ_=>?_|refine Aa ?_ λ_=>?_)|exact trivial
 all_goals
  try simp only[Di] at *
  try simp only[CV,fLookUp,fNotFound,std,Nat.reduceAdd,lookUp,freshEntry] at *
  try simp(disch:=omega) only[wrapId',toNat1] at *
  try simp(disch:=omega) only[Qa2,Qa4]
 all_goals first|trivial|omega|grind[wrapId',toNat1,drop_cons,drop_end,good_len,maxLen,lookUp,freshEntry,fNotFound])
def fLookUp1:Fct:=⟨[.v (.el .entry),.p (.el .str),.p (.el .addr),.p (.el .int)],[.el .bool],λ(x_:Sq_×ByteArray×Sb_×Int×Unit)=>True,λ(x_:Sq_×ByteArray×Sb_×Int×Unit)=>(freshEntry x_.2.1 x_.2.2.1 x_.2.2.2.1 x_.1,())⟩
def AmD:=Aoq.a fLookUp1<|Fct.o [1,2,3,4,5] Aoq.2 func258 (by
 rintro⟨(e:Sq_),(t:ByteArray),(a:Sb_),(now:Int),_⟩ hp;refine ho (.br (e.top.toList==ByteArray.toList t) (.br (e.to.host==a.host&&(e.to.path==a.path&&true)) (.lf fLookUp1 (decide (e.until_>=now),())) (.lf fLookUp1 (false,()))) (.lf fLookUp1 (false,()))) ?_;refine Ab (λh1=>Ab (λh2=>lfY ?_) (λh2=>lfY ?_)) (λh1=>lfY ?_);all_goals
  try simp only[Di] at *
  try simp only[fLookUp1,std,Nat.reduceAdd,freshEntry] at *
  try simp(disch:=omega) only[wrapId',toNat1] at *
  try simp(disch:=omega) only[Qa2,Qa4]
 all_goals first|trivial|omega|grind[wrapId',toNat1,drop_cons,drop_end,good_len,maxLen,freshEntry])
def AS:Fct:=⟨[aL .entry,.c 258 [.el .str,.el .addr,.el .int]],[rI],λx=>x.1.length<=1000000000000000000/\∀ c,fLookUp1.pre (c,x.2.1),λx=>(fidx (λc=>(fLookUp1.fn (c,x.2.1)).1) x.1 0,())⟩
abbrev Ap (l:(List Sq_)) (u:(ByteArray×Sb_×Int×Unit)):LInv:=⟨[⟨.s,8,true,.el .int⟩],λ_ (x_:Int×Unit)=>0<=x_.1/\x_.1<=l.length/\fidx (λc=>(fLookUp1.fn (c,u)).1) l 0=fidx (λc=>(fLookUp1.fn (c,u)).1) (l.drop x_.1.toNat) x_.1,λ(x_:Int×Unit)=>l.length-x_.1.toNat⟩
def Alg:=AmD.a AS<|Fct.p (KP [0,1,4,5,7,8] [9,16]) (λ⟨l,u,_⟩=>lv [(2,Ap l u)]) AmD.2 func257 (by
 rintro⟨(l:List Sq_),(u:ByteArray×Sb_×Int×PUnit),_⟩ hp;refine ho (lpx (Ap l u) ((0:Int),()) λ(y1:Int×PUnit) bk1=>.br (decide (y1.1<(l.length:Int))) (.ob (inB y1.1 l.length)<|.cl fLookUp1 (l.getD y1.1.toNat default,u.1,u.2.1,u.2.2.1,()) λz2=>.br (z2.1) (.lf AS (y1.1,())) (.ob (l=l)<|.ob (enc Ty.str u.1=enc Ty.str u.1)<|.ob (enc Ty.addr u.2.1=enc Ty.addr u.2.1)<|.ob (enc Ty.int u.2.2.1=enc Ty.int u.2.2.1)<|.ob (Value.int IntKind.i64 (l.length:Int)=Value.int IntKind.i64 (l.length:Int))<|.ob (bk1 (w1 y1.1,()))<|.ok)) (.lf AS ((-1:Int),()))) ?_;refine An ?_ λ(y1:Int×PUnit) i1=>Ab (λh2=>Aa ?_ λ_=>Af trivial λ_=>(Ab (λh4=>lfY ?_) (λh4=>Aa rfl λ_=>Aa rfl λ_=>Aa rfl λ_=>Aa rfl λ_=>Aa rfl λ_=>Aa ?_ λ_=>trivial))) (λh2=>lfY ?_)
 all_goals
  try simp only[Ap,AS,fLookUp1,std,Nat.reduceAdd] at *
  try have hp2:=hp.2
  try have hp1:=hp.1
 all_goals first|trivial|omega|grind[wrapId',toNat1,drop_cons,drop_end,good_len,maxLen,fidx])
def Al5:=Alg.a fLookUp<|Fct.o (KP [4,5,6,7,8,9,10] [16]) Alg.2 func174 (by
 rintro⟨(c:Sl_),(t:ByteArray),(a:Sb_),(now:Int),_⟩ hp;refine ho (.cl AS (c.bg,(t,a,now,()),()) λ(z2:Int×PUnit)=>.br (decide (z2.1<0)) (.cl fNotFound () λz3=>.lf fLookUp (z3.1,false,())) (.ob (inB z2.1 c.bg.length)<|.lf fLookUp ((c.bg.getD z2.1.toNat default).bd,true,()))) ?_;refine Af ?_ λ_=>(Ab (λh2=>Af trivial λ_=>(lfY ?_)) (λh2=>Aa ?_ λ_=>lfY ?_))
 all_goals
  have hf:=EQ (freshEntry t a now) c.bg 0 o_;have hf2:=LD (freshEntry t a now) c.bg 0 o_;try simp only[AS,fLookUp,fNotFound,std,Nat.reduceAdd,lookUp,fLookUp1] at *
  try simp(disch:=omega) only[wrapId',toNat1] at *
  try simp(disch:=omega) only[Qa2,Qa4]
 all_goals first|trivial|omega|grind[wrapId',toNat1,drop_cons,drop_end,good_len,maxLen,lookUp,fLookUp1,fNotFound])
def modM (n m:Int):Int:=if 1<=m/\m<=1000000000000 then n.emod m else 0
def RA:Fct:=⟨[.v (.el .int),.v (.el .int)],[.el .int],λ(x_:Int×Int×Unit)=>-9223372036854775808<=x_.1/\x_.1<=9223372036854775807,λ(x_:Int×Int×Unit)=>(modM x_.1 x_.2.1,())⟩
theorem M6 {n m:Int} (hm:0<m):(n.tmod m+m).tmod m=n.emod m:=by
 have h1:=Int.tmod_lt_of_pos n hm;have h2 : -m<n.tmod m:=by have:=Int.lt_tmod_of_pos n hm;omega
 rw[Int.tmod_eq_emod_of_nonneg o_];rw[Int.tmod_eq_emod];split
 ·simp;rfl
 ·rw[show n % m-m.natAbs+m=n % m from o_];simp;rfl
theorem NK {n m:Int} (hm:0<m):(if n.tmod m<0 then n.tmod m+m else n.tmod m)=n.emod m:=by
 have h0:=Int.emod_nonneg n (show m≠0 from o_);have h3:=Int.emod_lt_of_pos n hm;have e0:n.emod m=n % m:=rfl;grind
def Aox:=Al5.a RA<|Fct.o (KP [0,1,4] [7]) Al5.2 func512 (by
 rintro⟨(n:Int),(m:Int),_⟩ hp;refine ho (.cl fInRange (m,(1:Int),(1000000000000:Int),()) λz2=>.br (!z2.1) (.lf RA ((0:Int),())) (.ob (m≠(0:Int))<|.ob (m≠(0:Int))<|.lf RA ((wr (Int.tmod n m+m)).tmod m,()))) ?_;refine Af trivial λ_=>(Ab (λh1=>lfY ?_) (λh1=>Aa ?_ λ_=>Aa ?_ λ_=>lfY ?_))
 all_goals (by_cases hm:1<=m/\m<=1000000000000)
 all_goals
  try have e1:=M6 (n:=n) (m:=m) o_
  try have e2:=NK (n:=n) (m:=m) o_
  try have e3:=Int.tmod_lt_of_pos n (show 0<m from o_)
  try have e4:=Int.lt_tmod_of_pos n (show 0<m from o_)
  try simp only[fInRange,RA,std,Nat.reduceAdd,inRange,modM] at *
  try simp(disch:=omega) only[wrapId',toNat1] at *
  try simp(disch:=omega) only[Qa2,Qa4]
  try simp only[Qa1,Qe3,Qa7,Qa9] at *
 all_goals first|omega|skip
 all_goals
  try rw[Ag o_]
  try rw[Qa2 hm]
 all_goals first|omega|exact e1|(rw[Qa2 o_] at e2;exact e2)|(rw[Qa4 o_] at e2;exact e2)|(rw[Qa4 hm]))
def Ajz:=Aox.a RA<|Fct.o (KP [0,1,4,5] [8,13]) Aox.2 func518 (by
 rintro⟨(n:Int),(m:Int),_⟩ hp;refine ho (.cl fInRange (m,(1:Int),(1000000000000:Int),()) λz2=>.br (!z2.1) (.lf RA ((0:Int),())) (.ob (m≠(0:Int))<|.br (decide (Int.tmod n m<0)) (.lf RA (wr (Int.tmod n m+m),())) (.lf RA (Int.tmod n m,())))) ?_;refine Af trivial λ_=>(Ab (λh1=>lfY ?_) (λh1=>Aa ?_ λ_=>Ab (λh3=>lfY ?_) (λh3=>lfY ?_)))
 all_goals (by_cases hm:1<=m/\m<=1000000000000)
 all_goals
  try have e1:=M6 (n:=n) (m:=m) o_
  try have e2:=NK (n:=n) (m:=m) o_
  try have e3:=Int.tmod_lt_of_pos n (show 0<m from o_)
  try have e4:=Int.lt_tmod_of_pos n (show 0<m from o_)
  try simp only[fInRange,RA,std,Nat.reduceAdd,inRange,modM] at *
  try simp(disch:=omega) only[wrapId',toNat1] at *
  try simp(disch:=omega) only[Qa2,Qa4]
  try simp only[Qa1,Qe3,Qa7,Qa9] at *
 all_goals first|omega|skip
 all_goals
  try rw[Ag o_]
  try rw[Qa2 hm]
 all_goals first|omega|exact e1|(rw[Qa2 o_] at e2;exact e2)|(rw[Qa4 o_] at e2;exact e2)|(rw[Qa4 hm]))
def hashI:List Int->Int->Int
 | [],d=>d
 | x::l,d=>hashI l ((d*1000003+modM x 2147483647+13).tmod 2147483647)
theorem UD {l:List Int} {i:Nat} {d:Int} (h:i<l.length):hashI (l.drop i) d=hashI (l.drop (i+1)) ((d*1000003+modM (l.getD i default) 2147483647+13).tmod 2147483647):=by rw[drop_cons h];rfl
theorem Qa {l:List Int} {i:Nat} {d:Int} (h:l.length<=i):hashI (l.drop i) d=d:=by rw[Qb0 h];rfl
theorem Kd (x:Int):0<=modM x 2147483647/\modM x 2147483647<2147483647:=by
 have h0:=Int.emod_nonneg x (show(2147483647:Int)≠0 from o_);have h3:=Int.emod_lt_of_pos x (show(0:Int)<2147483647 from o_);have e0:modM x 2147483647=x % 2147483647:=rfl;omega
theorem JC {x:Int} (h:0<=x):0<=x.tmod 2147483647/\x.tmod 2147483647<2147483647:=by
 grind
def Pp:Fct:=⟨[.v (.sl .int)],[.el .int],λ(x_:(List Int)×Unit)=>x_.1.length<=1000000000000/\∀ i,i<x_.1.length->-9223372036854775808<=x_.1.getD i default/\x_.1.getD i default<=9223372036854775807,λ(x_:(List Int)×Unit)=>(hashI x_.1 11,())⟩
abbrev Em (l:(List Int)):LInv:=⟨[⟨.s,3,true,.el .int⟩,⟨.s,4,true,.el .int⟩],λ_ (x_:Int×Int×Unit)=>0<=x_.2.1/\x_.2.1<=l.length/\0<=x_.1/\x_.1<2147483647/\hashI (l.drop x_.2.1.toNat) x_.1=hashI l 11,λ(x_:Int×Int×Unit)=>l.length-x_.2.1.toNat⟩
def AoP:=Ajz.a Pp<|Fct.p (KP [0,2,3,4] [8]) (λ⟨l,_⟩=>lv [(3,Em l)]) Ajz.2 func501 (by
 rintro⟨(l:List Int),_⟩ hp;refine ho (lpx (Em l) ((11:Int),((0:Int),())) λ(y1:Int×Int×PUnit) bk1=>.br (decide (y1.2.1<(l.length:Int))) (.ob (inB y1.2.1 l.length)<|.cl RA (l.getD y1.2.1.toNat default,(2147483647:Int),()) λ(z2:Int×PUnit)=>.ob ((2147483647:Int)≠(0:Int))<|.ob (l=l)<|.ob (Value.int IntKind.i64 0=Value.int IntKind.i64 (0:Int))<|.ob (bk1 ((wr (wr (wr (y1.1*(1000003:Int))+z2.1)+13)).tmod (2147483647:Int),(w1 y1.2.1,())))<|.ok) (.lf Pp (y1.1,()))) ?_;refine An ?_ λ(y1:Int×Int×PUnit) i1=>Ab (λh2=>Aa ?_ λ_=>Af ?_ λ_=>(Aa ?_ λ_=>Aa rfl λ_=>Aa rfl λ_=>Aa ?_ λ_=>trivial)) (λh2=>lfY ?_)
 all_goals try simp only[Em,Pp,RA,std,Nat.reduceAdd] at *
 all_goals obtain⟨hp1,hp2⟩:=hp
 all_goals try (obtain⟨a1,a2,a3,a4,a5⟩:=i1)
 all_goals try (have hm:=Kd (l.getD y1.2.1.toNat default);have ht:=JC (x:=y1.1*1000003+modM (l.getD y1.2.1.toNat default) 2147483647+13) o_)
 all_goals try simp(disch:=omega) only[wrapId',toNat1] at *
 all_goals first|trivial|omega|exact⟨o_,o_,o_,o_,rfl⟩|exact hp2 _ o_|skip
 ·rw[UD o_] at a5;exact⟨⟨o_,o_,ht.1,ht.2,a5⟩,o_⟩
 ·rw[Qa o_] at a5;exact a5)
abbrev Er (l:(List Int)):LInv:=⟨[⟨.s,3,true,.el .int⟩,⟨.s,8,true,.el .int⟩],λ_ (x_:Int×Int×Unit)=>0<=x_.2.1/\x_.2.1<=l.length/\0<=x_.1/\x_.1<2147483647/\hashI (l.drop x_.2.1.toNat) x_.1=hashI l 11,λ(x_:Int×Int×Unit)=>l.length-x_.2.1.toNat⟩
def Ak5:=AoP.a Pp<|Fct.p (KP [0,2,3,5,6,7,8] [9]) (λ⟨l,_⟩=>lv [(3,Er l)]) AoP.2 func507 (by
 rintro⟨(l:List Int),_⟩ hp;refine ho (lpx (Er l) ((11:Int),((0:Int),())) λ(y1:Int×Int×PUnit) bk1=>.br (decide (y1.2.1<(l.length:Int))) (.ob (inB y1.2.1 l.length)<|.cl RA (l.getD y1.2.1.toNat default,(2147483647:Int),()) λ(z2:Int×PUnit)=>.ob ((2147483647:Int)≠(0:Int))<|.ob (l=l)<|.ob (Value.int IntKind.i64 0=Value.int IntKind.i64 (0:Int))<|.ob (l=l)<|.ob (Value.int IntKind.i64 (l.length:Int)=Value.int IntKind.i64 (l.length:Int))<|.ob (bk1 ((wr (wr (wr (y1.1*(1000003:Int))+z2.1)+13)).tmod (2147483647:Int),(w1 y1.2.1,())))<|.ok) (.lf Pp (y1.1,()))) ?_;refine An ?_ λ(y1:Int×Int×PUnit) i1=>Ab (λh2=>Aa ?_ λ_=>Af ?_ λ_=>(Aa ?_ λ_=>Aa rfl λ_=>Aa rfl λ_=>Aa rfl λ_=>Aa rfl λ_=>Aa ?_ λ_=>trivial)) (λh2=>lfY ?_)
 all_goals try simp only[Er,Pp,RA,std,Nat.reduceAdd] at *
 all_goals obtain⟨hp1,hp2⟩:=hp
 all_goals try (obtain⟨a1,a2,a3,a4,a5⟩:=i1)
 all_goals try (have hm:=Kd (l.getD y1.2.1.toNat default);have ht:=JC (x:=y1.1*1000003+modM (l.getD y1.2.1.toNat default) 2147483647+13) o_)
 all_goals try simp(disch:=omega) only[wrapId',toNat1] at *
 all_goals first|trivial|omega|exact⟨o_,o_,o_,o_,rfl⟩|exact hp2 _ o_|skip
 ·rw[UD o_] at a5;exact⟨⟨o_,o_,ht.1,ht.2,a5⟩,o_⟩
 ·rw[Qa o_] at a5;exact a5)
def bti (b l:List Int):List Int:=(b.length:Int)::l
def Do:Fct:=⟨[.v (.sl .u8)],[.sl .int],λ(x_:(List Int)×Unit)=>x_.1.length<=68719476736/\∀ i,i<x_.1.length->0<=x_.1.getD i default/\x_.1.getD i default<=255,λ(x_:(List Int)×Unit)=>(bti x_.1 x_.1,())⟩
abbrev B6 (b:(List Int)):LInv:=⟨[⟨.s,3,true,.sl .int⟩,⟨.s,4,true,.el .int⟩],λ_ (x_:(List Int)×Int×Unit)=>0<=x_.2.1/\x_.2.1<=b.length/\x_.1=bti b (b.take x_.2.1.toNat),λ(x_:(List Int)×Int×Unit)=>b.length-x_.2.1.toNat⟩
def AmQ:=Ak5.a Do<|Fct.p (KP [0,2,3,4] [11]) (λ⟨b,_⟩=>lv [(3,B6 b)]) Ak5.2 func502 (by
 rintro⟨(b:List Int),_⟩ hp;refine ho (lpx (B6 b) ([(b.length:Int)],((0:Int),())) λ(y1:List Int×Int×PUnit) bk1=>.br (decide (y1.2.1<(b.length:Int))) (.ob (inB y1.2.1 b.length)<|.ob (True)<|.ob (Bz (y1.1.length+[wr (b.getD y1.2.1.toNat default)].length) 8)<|.ob (b=b)<|.ob (bk1 (y1.1++[wr (b.getD y1.2.1.toNat default)],(w1 y1.2.1,())))<|.ok) (.lf Do (y1.1,()))) ?_;refine An ?_ λ(y1:List Int×Int×PUnit) i1=>Ab (λh2=>Aa ?_ λ_=>Aa trivial λ_=>Aa ?_ λ_=>Aa rfl λ_=>Aa ?_ λ_=>trivial) (λh2=>lfY ?_)
 all_goals
  try simp only[B6,Do,std,Nat.reduceAdd,take_succ,take_end,bti] at *
  try simp(disch:=omega) only[wrapId',toNat1] at *
  try simp(disch:=omega) only[Qa2,Qa4]
 all_goals first|trivial|omega|grind[wrapId',toNat1,drop_cons,drop_end,good_len,maxLen,take_succ,take_end,bti])
abbrev BZ (b:(List Int)):LInv:=⟨[⟨.s,3,true,.sl .int⟩,⟨.s,11,true,.el .int⟩],λ_ (x_:(List Int)×Int×Unit)=>0<=x_.2.1/\x_.2.1<=b.length/\x_.1=bti b (b.take x_.2.1.toNat),λ(x_:(List Int)×Int×Unit)=>b.length-x_.2.1.toNat⟩
def Aob:=AmQ.a Do<|Fct.p (KP [0,2,3,5,9,10,11] [12]) (λ⟨b,_⟩=>lv [(3,BZ b)]) AmQ.2 func508 (by
 rintro⟨(b:List Int),_⟩ hp;refine ho (lpx (BZ b) ([(b.length:Int)],((0:Int),())) λ(y1:List Int×Int×PUnit) bk1=>.br (decide (y1.2.1<(b.length:Int))) (.ob (inB y1.2.1 b.length)<|.ob (True)<|.ob (Bz (y1.1.length+[wr (b.getD y1.2.1.toNat default)].length) 8)<|.ob (b=b)<|.ob (b=b)<|.ob (Value.int IntKind.i64 (b.length:Int)=Value.int IntKind.i64 (b.length:Int))<|.ob (bk1 (y1.1++[wr (b.getD y1.2.1.toNat default)],(w1 y1.2.1,())))<|.ok) (.lf Do (y1.1,()))) ?_;refine An ?_ λ(y1:List Int×Int×PUnit) i1=>Ab (λh2=>Aa ?_ λ_=>Aa trivial λ_=>Aa ?_ λ_=>Aa rfl λ_=>Aa rfl λ_=>Aa rfl λ_=>Aa ?_ λ_=>trivial) (λh2=>lfY ?_)
 all_goals
  try simp only[BZ,Do,std,Nat.reduceAdd,take_succ,take_end,bti] at *
  try simp(disch:=omega) only[wrapId',toNat1] at *
  try simp(disch:=omega) only[Qa2,Qa4]
 all_goals first|trivial|omega|grind[wrapId',toNat1,drop_cons,drop_end,good_len,maxLen,take_succ,take_end,bti])
def fFormatInt:Fct:=⟨[.v (.el .int)],[.el .str],λ(x_:Int×Unit)=>-9223372036854775808<=x_.1/\x_.1<=9223372036854775807,λ(x_:Int×Unit)=>(Ic x_.1,())⟩
abbrev CP (n:Int):LInv:=⟨[⟨.s,3,true,.el .str⟩,⟨.s,4,true,.el .int⟩],λ_ (x_:ByteArray×Int×Unit)=>n≠0/\-9223372036854775808<=x_.2.1/\x_.2.1<=9223372036854775807/\(x_.2.1:Int).natAbs+4*x_.1.size<=n.natAbs+(if x_.2.1=0 then 4 else 0)/\Abr (x_.2.1:Int).natAbs x_.1=Abr n.natAbs ⟨#[]⟩,λ(x_:ByteArray×Int×Unit)=>(x_.2.1:Int).natAbs⟩
def Apf:=Aob.a fFormatInt<|Fct.p (KP [0,2,3,4,5] [7,10,16,27]) (λ⟨n,_⟩=>lv [(5,CP n)]) Aob.2 func467 (by
 rintro⟨(n:Int),_⟩ hp;refine ho (let q5_:=(⟨#[45]⟩:ByteArray);let q2_:=(10:Int)≠(0:Int);let q0_:=(⟨#[]⟩:ByteArray);let q4_:=Value.string q0_=Value.string q0_;.br (n==0) (.lf fFormatInt ((⟨#[48]⟩:ByteArray),())) (lpx (CP n) (q0_,(n,())) λ(y2:ByteArray×Int×PUnit) bk2=>let q6_:=y2.2.1.tdiv (10:Int);let q3_:=wr ((48:Int)+y2.2.1.tmod (10:Int));let q1_:=wr ((48:Int)+wr ((0:Int)-y2.2.1.tmod (10:Int)));.br (y2.2.1 != 0) (.ob q2_<|.br (decide (y2.2.1.tmod (10:Int)<(0:Int))) (.ob (True)<|.ob (sameSize (List.foldl (λr n=>r.push (UInt8.ofNat n.toNat)) ByteArray.empty [IntKind.u8.wrap q1_]) y2.1)<|.ob q2_<|.ob (Value.int IntKind.i64 n=Value.int IntKind.i64 n)<|.ob q4_<|.ob (bk2 (List.foldl (λr n=>r.push (UInt8.ofNat n.toNat)) ByteArray.empty [IntKind.u8.wrap q1_]++y2.1,(wr q6_,())))<|.ok) (.ob (True)<|.ob (sameSize (List.foldl (λr n=>r.push (UInt8.ofNat n.toNat)) ByteArray.empty [IntKind.u8.wrap q3_]) y2.1)<|.ob q2_<|.ob (Value.int IntKind.i64 n=Value.int IntKind.i64 n)<|.ob q4_<|.ob (bk2 (List.foldl (λr n=>r.push (UInt8.ofNat n.toNat)) ByteArray.empty [IntKind.u8.wrap q3_]++y2.1,(wr q6_,())))<|.ok)) (.br (decide (n<0)) (.ob (sameSize q5_ y2.1)<|.lf fFormatInt (q5_++y2.1,())) (.lf fFormatInt (y2.1,()))))) ?_;refine Ab (λh1=>lfY ?_) (λh1=>An ?_ λ(y2:ByteArray×Int×PUnit) i2=>Ab (λh3=>Aa ?_ λ_=>Ab (λh5=>Aa trivial λ_=>Aa ?_ λ_=>Aa ?_ λ_=>Aa rfl λ_=>Aa rfl λ_=>Aa ?_ λ_=>trivial) (λh5=>Aa trivial λ_=>Aa ?_ λ_=>Aa ?_ λ_=>Aa rfl λ_=>Aa rfl λ_=>Aa ?_ λ_=>trivial)) (λh3=>Ab (λh12=>Aa ?_ λ_=>lfY ?_) (λh12=>lfY ?_)));all_goals try (have hk:=Nat.mod_lt y2.2.1.natAbs (show 0<10 from o_);have ht:=AaQ y2.2.1)
 all_goals try (have hv:=AcL y2.2.1)
 all_goals try simp only[CP,fFormatInt,std,Nat.reduceAdd] at *
 all_goals first|trivial|omega|skip
 all_goals try (obtain⟨a1,a2,a3,a4,a5⟩:=i2)
 all_goals first|trivial|omega|skip
 all_goals
  try simp only[h5,Qe8,Qe6] at ht
  try rw[Qa4 o_] at ht
 all_goals try (rw[Ag (n:=0-_) o_,show(0:Int)-y2.2.1.tmod 10=((y2.2.1.natAbs % 10:Nat):Int) from o_,Anw hk,XZ hk] at *)
 all_goals try (rw[ht,Anw hk,XZ hk] at *)
 all_goals try rw[Qa4 h3] at a4
 all_goals try (have e1:IntKind.i64.wrap (y2.2.1.tdiv 10)=y2.2.1.tdiv 10:=Ag o_;rw[e1])
 ·rw[h1,Aaq]
 ·unfold sameSize;rw[show ByteArray.size ⟨#[UInt8.ofNat (48+y2.2.1.natAbs % 10)]⟩=1 from rfl];omega
 ·rw[PA o_] at a5;rw[hv,Qb3,show ByteArray.size ⟨#[UInt8.ofNat (48+y2.2.1.natAbs % 10)]⟩=1 from rfl];exact⟨⟨h1,o_,o_,by split<;>omega,a5⟩,o_⟩
 ·unfold sameSize;rw[show ByteArray.size ⟨#[UInt8.ofNat (48+y2.2.1.natAbs % 10)]⟩=1 from rfl];omega
 ·rw[PA o_] at a5;have hv':((y2.2.1.natAbs:Nat):Int)=y2.2.1.natAbs:=rfl;rw[hv,Qb3,show ByteArray.size ⟨#[UInt8.ofNat (48+y2.2.1.natAbs % 10)]⟩=1 from rfl];exact⟨⟨h1,o_,o_,by split<;>omega,a5⟩,o_⟩
 ·unfold sameSize;rw[show ByteArray.size ⟨#[45]⟩=1 from rfl];rw[Qa2 h3] at a4;omega
 ·rw[h3] at a5;rw[Abv h12,<-a5];rfl
 ·rw[h3] at a5;rw[AcG o_,<-a5];rfl)
theorem Te:Go.Proofs.LaysM.n171 Tryz.prog laysCmp_r:=by repeat' first|kernel_rfl|constructor|intro _
def AnV:=Apf.a fItoa<|Agd k_ (Go.Proofs.Any.strconv_Itoa Te)
def AlI:=AnV.a fFormatInt<|Fct.o [0,2] AnV.2 func483 (by
 rintro⟨(n:Int),_⟩ hp;refine ho (.cl fItoa (n,()) λz2=>.lf fFormatInt (z2.1,())) ?_;refine Af ?_ λ_=>(lfY ?_)
 all_goals
  try simp only[fFormatInt,fItoa,std,Nat.reduceAdd] at *
  try simp(disch:=omega) only[wrapId',toNat1] at *
  try simp(disch:=omega) only[Qa2,Qa4]
 all_goals first|trivial|omega|grind[wrapId',toNat1,drop_cons,drop_end,good_len,maxLen,fItoa])
theorem Ba {α:Type} [Inhabited α] {l:List α} {i:Nat} (h:i<l.length):l.getD i default∈l:=by
 simp_all
theorem Cm {s:ByteArray} (h:isName s=true):s.size<=8:=by
 simp only[isName,Qa1,Qa7] at h;omega
def words9:ByteArray->List ByteArray->ByteArray
 | w,[]=>w
 | w,x::l=>words9 (w++⟨#[32]⟩++x) l
theorem words9_at {w:ByteArray} {l:List ByteArray} {i:Nat} (h:i<l.length):words9 w (l.drop i)=words9 (w++⟨#[32]⟩++l.getD i default) (l.drop (i+1)):=by rw[drop_cons h];rfl
theorem words9_end {w:ByteArray} {l:List ByteArray} {i:Nat} (h:l.length<=i):words9 w (l.drop i)=w:=by rw[Qb0 h];rfl
theorem GO:∀ (l:List ByteArray) (w:ByteArray),l.all isName=true->(words9 w l).size<=w.size+9*l.length:=by
 intro l
 induction l with
 | nil=>intro w _;simp[words9]
 | cons x l ih=>
  intro w h;simp only[List.all_cons,Qa1] at h;have h1:=Cm h.1;have h2:=ih (w++⟨#[32]⟩++x) h.2;simp only[words9,Qa6];rw[Qb3,Qb3,show ByteArray.size ⟨#[32]⟩=1 from rfl] at h2;omega
def HC:Fct:=⟨[.v (.el .str),.v (.sl .str)],[.el .str],λ(x_:ByteArray×(List ByteArray)×Unit)=>x_.1.size<=100/\x_.2.1.length<=4/\x_.2.1.all isName=true,λ(x_:ByteArray×(List ByteArray)×Unit)=>(words9 x_.1 x_.2.1,())⟩
abbrev DG (w:ByteArray) (l:(List ByteArray)):LInv:=⟨[⟨.s,0,true,.el .str⟩,⟨.s,5,true,.el .int⟩],λ_ (x_:ByteArray×Int×Unit)=>0<=x_.2.1/\x_.2.1<=l.length/\x_.1.size<=100+9*x_.2.1/\words9 x_.1 (l.drop x_.2.1.toNat)=words9 w l,λ(x_:ByteArray×Int×Unit)=>l.length-x_.2.1.toNat⟩
def Ao5:=AlI.a HC<|Fct.p (KP [0,1,4,5] [9]) (λ⟨w,l,_⟩=>lv [(2,DG w l)]) AlI.2 func321 (by
 rintro⟨(w:ByteArray),(l:List ByteArray),_⟩ hp;refine ho (lpx (DG w l) (w,((0:Int),())) λ(y1:ByteArray×Int×PUnit) bk1=>.br (decide (y1.2.1<(l.length:Int))) (.ob (sameSize y1.1 (⟨#[32]⟩:ByteArray))<|.ob (inB y1.2.1 l.length)<|.ob (sameSize (y1.1++(⟨#[32]⟩:ByteArray)) (l.getD y1.2.1.toNat default))<|.ob (l=l)<|.ob (Value.string (⟨#[]⟩:ByteArray)=Value.string (⟨#[]⟩:ByteArray))<|.ob (bk1 (y1.1++(⟨#[32]⟩:ByteArray)++l.getD y1.2.1.toNat default,(w1 y1.2.1,())))<|.ok) (.lf HC (y1.1,()))) ?_;refine An ?_ λ(y1:ByteArray×Int×PUnit) i1=>Ab (λh2=>Aa ?_ λ_=>Aa ?_ λ_=>Aa ?_ λ_=>Aa rfl λ_=>Aa rfl λ_=>Aa ?_ λ_=>trivial) (λh2=>lfY ?_)
 all_goals
  have hg:∀ i,i<l.length->(l.getD i default).size<=8:=λi h=>Cm (Qc5.1 hp.2.2 _ (Ba h))
  try simp only[DG,HC,std,Nat.reduceAdd,words9_at,words9_end,sameSize,Qb3] at *
  try simp(disch:=omega) only[wrapId',toNat1] at *
  try simp(disch:=omega) only[Qa2,Qa4]
 all_goals first|trivial|omega|grind[wrapId',toNat1,good_len,maxLen,words9_at,words9_end,sameSize,ByteArray.size_append])
def formatPolicy (p:Si_):ByteArray:=if isPolicy p&&p.set_ then(if p.nonce=⟨#[]⟩ then words9 ⟨#[115,99,114,105,112,116]⟩ p.bp++⟨#[59]⟩++words9 ⟨#[115,116,121,108,101]⟩ p.styles++⟨#[59]⟩++words9 ⟨#[105,109,103]⟩ p.images else words9 ⟨#[115,99,114,105,112,116]⟩ p.bp++⟨#[59]⟩++words9 ⟨#[115,116,121,108,101]⟩ p.styles++⟨#[59]⟩++words9 ⟨#[105,109,103]⟩ p.images++⟨#[59,110,111,110,99,101,32]⟩++p.nonce) else⟨#[]⟩
theorem FX {p:Si_} (h:isPolicy p=true) (hs:p.set_=true):p.bp.all isName=true/\p.bp.length<=4/\p.styles.all isName=true/\p.styles.length<=4/\p.images.all isName=true/\p.images.length<=4/\p.nonce.size<=20:=by
 simp only[isPolicy,hs,Qe8,Qa1,Qf6,Qa7] at h;obtain⟨⟨⟨⟨a1,a2⟩,a3,a4⟩,a5,a6⟩,a7⟩:=h;refine⟨a1,a2,a3,a4,a5,a6,?_⟩;rcases a7 with h|h
 ·rw[h];exact Nat.zero_le _
 ·simp only[isValue,Qa1,Qa7] at h;omega
theorem Gn {l:List ByteArray} {w:ByteArray} (h:l.all isName=true) (hl:l.length<=4) (hw:w.size<=6):(words9 w l).size<=42:=by
 have:=GO l w h;omega
def AL:Fct:=⟨[.v (.el .bj)],[.el .str],λ(x_:Si_×Unit)=>szPolicy x_.1<=1099511627776,λ(x_:Si_×Unit)=>(formatPolicy x_.1,())⟩
def AnA:=Ao5.a AL<|Fct.o (KP [1,2,3] [11,27]) Ao5.2 func254 (by
 rintro⟨(p:Si_),_⟩ hp;refine ho (let q3_:=(⟨#[]⟩:ByteArray);let q2_:Out:=.lf AL (q3_,());let q1_:=(⟨#[59,110,111,110,99,101,32]⟩:ByteArray);let q0_:=(⟨#[59]⟩:ByteArray);.cl BP (p,()) λz2=>.br (!z2.1) q2_ (.br (!p.set_) q2_ (.cl HC ((⟨#[115,99,114,105,112,116]⟩:ByteArray),p.bp,()) λz3=>.ob (sameSize z3.1 q0_)<|.cl HC ((⟨#[115,116,121,108,101]⟩:ByteArray),p.styles,()) λz4=>.ob (sameSize (z3.1++q0_) z4.1)<|.ob (sameSize (z3.1++q0_++z4.1) q0_)<|.cl HC ((⟨#[105,109,103]⟩:ByteArray),p.images,()) λz5=>.ob (sameSize (z3.1++q0_++z4.1++q0_) z5.1)<|.br (!p.nonce.toList==q3_.toList) (.ob (sameSize (z3.1++q0_++z4.1++q0_++z5.1) q1_)<|.ob (sameSize (z3.1++q0_++z4.1++q0_++z5.1++q1_) p.nonce)<|.lf AL (z3.1++q0_++z4.1++q0_++z5.1++q1_++p.nonce,())) (.lf AL (z3.1++q0_++z4.1++q0_++z5.1,()))))) ?_;repeat' (guard_target =~ Out.holds _ _;first|refine lfY ?_|refine Ab (λ_=>?_) λ_=>?_|refine Af ?_ λ_=>?_|refine Aa ?_ λ_=>?_)
 all_goals try simp only[AL,BP,HC,std,Nat.reduceAdd] at *
 all_goals first|trivial|omega|skip
 all_goals try (have hA:isPolicy p=true:=‹_›;have hB:p.set_=true:=‹_›;obtain⟨a1,a2,a3,a4,a5,a6,a7⟩:=FX hA hB)
 all_goals
  try have b1:=Gn (w:=⟨#[115,99,114,105,112,116]⟩) a1 a2 (by decide)
  try have b2:=Gn (w:=⟨#[115,116,121,108,101]⟩) a3 a4 (by decide)
  try have b3:=Gn (w:=⟨#[105,109,103]⟩) a5 a6 (by decide)
  try simp only[AL,BP,HC,std,Nat.reduceAdd,formatPolicy,sameSize,Qb3] at *
  try simp(disch:=omega) only[wrapId',toNat1] at *
  try simp(disch:=omega) only[Qa2,Qa4]
 all_goals first|trivial|omega|grind[wrapId',toNat1,drop_cons,drop_end,good_len,maxLen,formatPolicy,sameSize,ByteArray.size_append])
def findGuess (l:List Sm_) (a:Sb_):Int:=fidx (λg=>decide (g.to=a)) l 0
def fFindGuess:Fct:=⟨[.v (.sl .guess),.v (.el .addr)],[.el .int],λ(x_:(List Sm_)×Sb_×Unit)=>x_.1.length<=4194304,λ(x_:(List Sm_)×Sb_×Unit)=>(findGuess x_.1 x_.2.1,())⟩
abbrev CJ (l:(List Sm_)) (a:Sb_):LInv:=⟨[⟨.s,5,true,.el .int⟩,⟨.b,3,true,.el .addr⟩],λ(z_ x_:Int×Sb_×Unit)=>(0<=x_.1/\x_.1<=l.length/\fidx (λg=>decide (g.to=a)) (l.drop x_.1.toNat) x_.1=findGuess l a)/\x_.2.1=z_.2.1,λ(x_:Int×Sb_×Unit)=>l.length-x_.1.toNat⟩
def Ak2:=AnA.a fFindGuess<|Fct.p (KP [0,3,4,5] [9,18]) (λ⟨l,a,_⟩=>lv [(2,CJ l a)]) AnA.2 func206 (by
 rintro⟨(l:List Sm_),(a:Sb_),_⟩ hp;refine ho (lpx (CJ l a) ((0:Int),(a,())) λ(y1:Int×Sb_×PUnit) bk1=>.br (decide (y1.1<(l.length:Int))) (.ob (inB y1.1 l.length)<|.br ((l.getD y1.1.toNat default).to.host==y1.2.1.host&&((l.getD y1.1.toNat default).to.path==y1.2.1.path&&true)) (.lf fFindGuess (y1.1,())) (.ob (l=l)<|.ob (bk1 (w1 y1.1,(y1.2.1,())))<|.ok)) (.lf fFindGuess ((-1:Int),()))) ?_;refine An ?_ λ(y1:Int×Sb_×PUnit) i1=>Ab (λh2=>Aa ?_ λ_=>Ab (λh4=>lfY ?_) (λh4=>Aa rfl λ_=>Aa ?_ λ_=>trivial)) (λh2=>lfY ?_)
 all_goals
  try simp only[Di] at *
  try simp only[CJ,fFindGuess,std,Nat.reduceAdd,findGuess,fidx] at *
  try simp(disch:=omega) only[wrapId',toNat1] at *
  try simp(disch:=omega) only[Qa2,Qa4]
 all_goals first|trivial|omega|grind[wrapId',toNat1,drop_cons,drop_end,good_len,maxLen,findGuess,fidx])
def fFindGuess1:Fct:=⟨[.v (.el .guess),.p (.el .addr)],[.el .bool],λ(x_:Sm_×Sb_×Unit)=>True,λ(x_:Sm_×Sb_×Unit)=>(decide (x_.1.to=x_.2.1),())⟩
def AjN:=Ak2.a fFindGuess1<|Fct.o [1,2,3] Ak2.2 func311 (by
 rintro⟨(g:Sm_),(a:Sb_),_⟩ hp;refine ho (.lf fFindGuess1 (g.to.host==a.host&&(g.to.path==a.path&&true),())) ?_;refine lfY ?_;all_goals
  try simp only[Di] at *
  try simp only[fFindGuess1,std,Nat.reduceAdd] at *
  try simp(disch:=omega) only[wrapId',toNat1] at *
  try simp(disch:=omega) only[Qa2,Qa4]
 all_goals first|trivial|omega|grind[wrapId',toNat1,drop_cons,drop_end,good_len,maxLen])
def AK:Fct:=⟨[aL .guess,.c 311 [.el .addr]],[rI],λx=>x.1.length<=1000000000000000000/\∀ c,fFindGuess1.pre (c,x.2.1),λx=>(fidx (λc=>(fFindGuess1.fn (c,x.2.1)).1) x.1 0,())⟩
abbrev Al (l:(List Sm_)) (u:(Sb_×Unit)):LInv:=⟨[⟨.s,8,true,.el .int⟩],λ_ (x_:Int×Unit)=>0<=x_.1/\x_.1<=l.length/\fidx (λc=>(fFindGuess1.fn (c,u)).1) l 0=fidx (λc=>(fFindGuess1.fn (c,u)).1) (l.drop x_.1.toNat) x_.1,λ(x_:Int×Unit)=>l.length-x_.1.toNat⟩
def AmY:=AjN.a AK<|Fct.p (KP [0,1,4,5,7,8] [9,16]) (λ⟨l,u,_⟩=>lv [(2,Al l u)]) AjN.2 func310 (by
 rintro⟨(l:List Sm_),(u:Sb_×PUnit),_⟩ hp;refine ho (lpx (Al l u) ((0:Int),()) λ(y1:Int×PUnit) bk1=>.br (decide (y1.1<(l.length:Int))) (.ob (inB y1.1 l.length)<|.cl fFindGuess1 (l.getD y1.1.toNat default,u.1,()) λz2=>.br (z2.1) (.lf AK (y1.1,())) (.ob (l=l)<|.ob (enc Ty.addr u.1=enc Ty.addr u.1)<|.ob (Value.int IntKind.i64 (l.length:Int)=Value.int IntKind.i64 (l.length:Int))<|.ob (bk1 (w1 y1.1,()))<|.ok)) (.lf AK ((-1:Int),()))) ?_;refine An ?_ λ(y1:Int×PUnit) i1=>Ab (λh2=>Aa ?_ λ_=>Af trivial λ_=>(Ab (λh4=>lfY ?_) (λh4=>Aa rfl λ_=>Aa rfl λ_=>Aa rfl λ_=>Aa ?_ λ_=>trivial))) (λh2=>lfY ?_)
 all_goals
  try simp only[Al,fFindGuess1,AK,std,Nat.reduceAdd] at *
  try have hp2:=hp.2
  try have hp1:=hp.1
 all_goals first|trivial|omega|grind[wrapId',toNat1,drop_cons,drop_end,good_len,maxLen,fidx])
def AoV:=AmY.a fFindGuess<|Fct.o [0,3,4] AmY.2 func234 (by
 rintro⟨(l:List Sm_),(a:Sb_),_⟩ hp;refine ho (.cl AK (l,(a,()),()) λ(z2:Int×PUnit)=>.lf fFindGuess (z2.1,())) ?_;refine Af ?_ λ_=>(lfY ?_)
 all_goals
  try simp only[fFindGuess,AK,std,Nat.reduceAdd,fFindGuess1,findGuess] at *
  try simp(disch:=omega) only[wrapId',toNat1] at *
  try simp(disch:=omega) only[Qa2,Qa4]
 all_goals first|trivial|omega|grind[wrapId',toNat1,drop_cons,drop_end,good_len,maxLen,fFindGuess1,findGuess])
def fCopyGuesses:Fct:=⟨[.v (.sl .guess)],[.sl .guess],λ(x_:(List Sm_)×Unit)=>x_.1.length<=4194304,λ(x_:(List Sm_)×Unit)=>(x_.1,())⟩
def AkU:=AoV.a fCopyGuesses<|Fct.o [0,2] AoV.2 func154 (by
 rintro⟨(l:List Sm_),_⟩ hp;refine ho (.ob (True)<|.ob (Bz (0+List.length l) 104)<|.lf fCopyGuesses ([]++l,())) ?_;refine Aa trivial λ_=>Aa ?_ λ_=>lfY ?_
 all_goals
  try simp only[fCopyGuesses,std,Nat.reduceAdd] at *
  try simp(disch:=omega) only[wrapId',toNat1] at *
  try simp(disch:=omega) only[Qa2,Qa4]
 all_goals first|trivial|omega|grind[wrapId',toNat1,drop_cons,drop_end,good_len,maxLen])
def addGuess (l:List Sm_) (a:Sb_) (x:Sd_):List Sm_×Bool:=if 0<=findGuess l a\/6<=countIf (λg=>!g.used) l then(l,false) else(l++[⟨a,x,false⟩],true)
def CU:Fct:=⟨[.v (.sl .guess),.v (.el .addr),.v (.el .bd)],[.sl .guess,.el .bool],λ(x_:(List Sm_)×Sb_×Sd_×Unit)=>x_.1.length<=4194304,λ(x_:(List Sm_)×Sb_×Sd_×Unit)=>((addGuess x_.1 x_.2.1 x_.2.2.1).1,(addGuess x_.1 x_.2.1 x_.2.2.1).2,())⟩
def Aof:=AkU.a CU<|Fct.o (KP [0,4,5,6,7,8] [20]) AkU.2 func289 (by
 rintro⟨(l:List Sm_),(a:Sb_),(x:Sd_),_⟩ hp;refine ho (.ob (True)<|.ob (Bz (0+List.length l) 104)<|.cl fFindGuess (l,a,()) λ(z2:Int×PUnit)=>.br (decide (z2.1>=0)) (.lf CU ([]++l,false,())) (.cl fUnused (l,()) λ(z3:Int×PUnit)=>.br (decide (z3.1>=6)) (.lf CU ([]++l,false,())) (.ob (True)<|.ob (Bz (([]++l).length+[(⟨a,x,false⟩:Sm_)].length) 104)<|.lf CU ([]++l++[(⟨a,x,false⟩:Sm_)],true,())))) ?_;refine Aa trivial λ_=>Aa ?_ λ_=>Af ?_ λ_=>(Ab (λh3=>lfY ?_) (λh3=>Af ?_ λ_=>(Ab (λh5=>lfY ?_) (λh5=>Aa trivial λ_=>Aa ?_ λ_=>lfY ?_))))
 all_goals
  try simp only[CU,fFindGuess,fUnused,std,Nat.reduceAdd,addGuess,fCopyGuesses] at *
  try simp(disch:=omega) only[wrapId',toNat1] at *
  try simp(disch:=omega) only[Qa2,Qa4]
 all_goals first|trivial|omega|grind[wrapId',toNat1,drop_cons,drop_end,good_len,maxLen,addGuess,fUnused,fCopyGuesses])
def AnS:=Aof.a CU<|Fct.o (KP [0,4,5,6,7,8] [19]) Aof.2 func241 (by
 rintro⟨(l:List Sm_),(a:Sb_),(x:Sd_),_⟩ hp;refine ho (.cl fCopyGuesses (l,()) λz2=>.cl fFindGuess (l,a,()) λ(z3:Int×PUnit)=>.br (decide (z3.1>=0)) (.lf CU (z2.1,false,())) (.cl fUnused (l,()) λ(z4:Int×PUnit)=>.br (decide (z4.1>=6)) (.lf CU (z2.1,false,())) (.ob (True)<|.ob (Bz (z2.1.length+[(⟨a,x,false⟩:Sm_)].length) 104)<|.lf CU (z2.1++[(⟨a,x,false⟩:Sm_)],true,())))) ?_;refine Af ?_ λ_=>(Af ?_ λ_=>(Ab (λh3=>lfY ?_) (λh3=>Af ?_ λ_=>(Ab (λh5=>lfY ?_) (λh5=>Aa trivial λ_=>Aa ?_ λ_=>lfY ?_)))))
 all_goals
  try simp only[CU,fCopyGuesses,fFindGuess,fUnused,std,Nat.reduceAdd,addGuess] at *
  try simp(disch:=omega) only[wrapId',toNat1] at *
  try simp(disch:=omega) only[Qa2,Qa4]
 all_goals first|trivial|omega|grind[wrapId',toNat1,drop_cons,drop_end,good_len,maxLen,addGuess,fUnused,fCopyGuesses])
def useGuess (l:List Sm_) (a:Sb_):List Sm_×Sd_×Bool:=if findGuess l a<0 then(l,notFound,false) else(l.modify (findGuess l a).toNat λg=>{ g with used:=true },(l.getD (findGuess l a).toNat default).bd,true)
def Dn:Fct:=⟨[.v (.sl .guess),.v (.el .addr)],[.sl .guess,.el .bd,.el .bool],λ(x_:(List Sm_)×Sb_×Unit)=>x_.1.length<=4194304,λ(x_:(List Sm_)×Sb_×Unit)=>((useGuess x_.1 x_.2.1).1,(useGuess x_.1 x_.2.1).2.1,(useGuess x_.1 x_.2.1).2.2,())⟩
def AkD:=AnS.a Dn<|Fct.o (KP [0,3,4,5,6,7,8] [16]) AnS.2 func200 (by
 rintro⟨(l:List Sm_),(a:Sb_),_⟩ hp;refine ho (.ob (True)<|.ob (Bz (0+List.length l) 104)<|.cl fFindGuess (l,a,()) λ(z2:Int×PUnit)=>.br (decide (z2.1<0)) (.cl fNotFound () λz3=>.lf Dn ([]++l,z3.1,false,())) (.ob (0<=z2.1/\z2.1<(↑([]++l).length:Int))<|.ob (z2.1.toNat<([]++l).length)<|.lt (List Sm_) (([]++l).modify z2.1.toNat λz=>(⟨z.to,z.bd,true⟩:Sm_)) λz4=>.ob (0<=z2.1/\z2.1<(↑(List.length l):Int))<|.lf Dn (z4,(List.getD l z2.1.toNat default).bd,true,()))) ?_;refine Aa trivial λ_=>Aa ?_ λ_=>Af ?_ λ_=>(Ab (λh3=>Af trivial λ_=>(lfY ?_)) (λh3=>Aa ?_ λ_=>Aa ?_ λ_=>DQ (Aa ?_ λ_=>lfY ?_)))
 all_goals
  have hf:=EQ (λg:Sm_=>decide (g.to=a)) l 0 o_;try simp only[fFindGuess,fNotFound,Dn,std,Nat.reduceAdd,useGuess,findGuess,fCopyGuesses] at *
  try simp(disch:=omega) only[wrapId',toNat1] at *
  try simp(disch:=omega) only[Qa2,Qa4]
 all_goals first|trivial|omega|grind[wrapId',toNat1,drop_cons,drop_end,good_len,maxLen,useGuess,findGuess,fFindGuess,fCopyGuesses,fNotFound])
def Ale:=AkD.a Dn<|Fct.o (KP [0,3,4,5,6,7,8] [15]) AkD.2 func228 (by
 rintro⟨(l:List Sm_),(a:Sb_),_⟩ hp;refine ho (.cl fCopyGuesses (l,()) λz2=>.cl fFindGuess (l,a,()) λ(z3:Int×PUnit)=>.br (decide (z3.1<0)) (.cl fNotFound () λz4=>.lf Dn (z2.1,z4.1,false,())) (.ob (inB z3.1 z2.1.length)<|.ob (z3.1.toNat<z2.1.length)<|.lt (List Sm_) (z2.1.modify z3.1.toNat λz=>(⟨z.to,z.bd,true⟩:Sm_)) λz5=>.ob (0<=z3.1/\z3.1<(↑(List.length l):Int))<|.lf Dn (z5,(List.getD l z3.1.toNat default).bd,true,()))) ?_;refine Af ?_ λ_=>(Af ?_ λ_=>(Ab (λh3=>Af trivial λ_=>(lfY ?_)) (λh3=>Aa ?_ λ_=>Aa ?_ λ_=>DQ (Aa ?_ λ_=>lfY ?_))))
 all_goals
  have hf:=EQ (λg:Sm_=>decide (g.to=a)) l 0 o_;try simp only[fCopyGuesses,fFindGuess,fNotFound,Dn,std,Nat.reduceAdd,useGuess,findGuess] at *
  try simp(disch:=omega) only[wrapId',toNat1] at *
  try simp(disch:=omega) only[Qa2,Qa4]
 all_goals first|trivial|omega|grind[wrapId',toNat1,drop_cons,drop_end,good_len,maxLen,useGuess,findGuess,fFindGuess,fCopyGuesses,fNotFound])
theorem Ahv {α:Type} (f:α->Nat) (l:List α):szL f l=(l.map λx=>f x+1).sum:=by
 induction l with
 | nil=>rfl
 | cons x l ih=>
  have h3:szL f (x::l)=f x+1+szL f l:=by simp only[szL,Qd0,List.sum_cons,Qa6];omega
  simp_all
theorem MD (b:UInt8) (s:ByteArray):szL Ad (spl b s)=s.size+1:=by
 rw[Ahv,<-BT,<-Ud b (toL s)];unfold spl;rw[Qg2];congr 1
def C5:Fct:=⟨[.v (.el .str),.v (.el .u8)],[.sl .str],λ(x_:ByteArray×Int×Unit)=>x_.1.size<=1099511627776/\0<=x_.2.1/\x_.2.1<=255,λ(x_:ByteArray×Int×Unit)=>(spl (UInt8.ofNat x_.2.1.toNat) x_.1,())⟩
theorem MJ {s:ByteArray} {i:Nat} {b:Int} (h0:0<=b) (h1:b<=255):((s.data.getD i 0).toNat:Int)=b↔s.data.getD i 0=UInt8.ofNat b.toNat:=by
 constructor
 ·intro h;apply UInt8.toNat_inj.1;rw[UInt8.toNat_ofNat'];omega
 ·intro h;rw[h,UInt8.toNat_ofNat'];omega
abbrev CE (s:ByteArray) (b:Int):LInv:=⟨[⟨.s,5,true,.sl .str⟩,⟨.s,6,true,.el .int⟩,⟨.s,7,true,.el .int⟩],λ_ (x_:(List ByteArray)×Int×Int×Unit)=>0<=x_.2.2.1/\x_.2.2.1<=s.size+1/\0<=x_.2.1/\x_.2.1<=x_.2.2.1/\x_.1.length<=x_.2.2.1/\x_.1++J6 (UInt8.ofNat b.toNat) s x_.2.1.toNat x_.2.2.1.toNat=spl (UInt8.ofNat b.toNat) s,λ(x_:(List ByteArray)×Int×Int×Unit)=>(s.size+1-x_.2.2.1).toNat⟩
def Aj0:=Ale.a C5<|Fct.p (KP [0,1,4,5,6,7] [12,25]) (λ⟨s,b,_⟩=>lv [(4,CE s b)]) Ale.2 func253 (by
 rintro⟨(s:ByteArray),(b:Int),_⟩ hp;refine ho (let q3_:=Value.string s=Value.string s;let q2_:=(s.size:Int);let q1_:=Value.int IntKind.u8 b=Value.int IntKind.u8 b;lpx (CE s b) ([],((0:Int),((0:Int),()))) λ(y1:List ByteArray×Int×Int×PUnit) bk1=>let q0_:Out:=.ob (0<=y1.2.1/\y1.2.1<=y1.2.2.1/\y1.2.2.1<=q2_)<|.ob (True)<|.ob (Bz (y1.1.length+[s.extract y1.2.1.toNat y1.2.2.1.toNat].length) 16)<|.ob q3_<|.ob q1_<|.ob (bk1 (y1.1++[s.extract y1.2.1.toNat y1.2.2.1.toNat],(w1 y1.2.2.1,(w1 y1.2.2.1,()))))<|.ok;.br (decide (y1.2.2.1<=q2_)) (.br (y1.2.2.1==q2_) q0_ (.ob (0<=y1.2.2.1/\y1.2.2.1<q2_)<|.br ((↑(s.data.getD y1.2.2.1.toNat 0).toNat:Int)==b) q0_ (.ob q3_<|.ob q1_<|.ob (bk1 (y1.1,(y1.2.1,(w1 y1.2.2.1,()))))<|.ok))) (.lf C5 (y1.1,()))) ?_;repeat' first|(guard_target =~ Out.holds _ _;first|refine An (li:=CE s b) ?_ λ(y1:List ByteArray×Int×Int×PUnit) i1=>?_|refine lfY ?_|refine Ab (λ_=>?_) λ_=>?_|refine Aa ?_ λ_=>?_)|exact trivial
 all_goals obtain⟨hp1,hp2,hp3⟩:=hp
 all_goals
  try obtain⟨a1,a2,a3,a4,a5,a6⟩:=i1
  try obtain⟨a1,a2,a3,a4,a5,a6⟩:=i2
  try obtain⟨a1,a2,a3,a4,a5,a6⟩:=i3
  try simp only[CE,C5,std,Nat.reduceAdd,Qa3,Qa6,Qb9,MJ hp2 hp3] at *
  try simp(disch:=omega) only[wrapId',toNat1] at *
 all_goals first|trivial|omega|exact⟨o_,o_,o_,o_,o_,Wg _ _⟩|skip
 all_goals first|(refine⟨⟨o_,o_,o_,o_,o_,?_⟩,o_⟩;rw[VM _ o_] at a6;rw[QX _ o_,Qd5];exact a6)|(refine⟨⟨o_,o_,o_,o_,o_,?_⟩,o_⟩;rw[WR o_ ‹_›] at a6;rw[Qb4];exact a6)|(refine⟨⟨o_,o_,o_,o_,o_,?_⟩,o_⟩;rw[VE o_ o_ ‹_›] at a6;exact a6)|(rw[QX _ o_,Qd5] at a6;exact a6)|skip)
def polCand (s:ByteArray):Si_:=⟨true,(spl 32 ((spl 59 s).getD 0 default)).drop 1,(spl 32 ((spl 59 s).getD 1 default)).drop 1,(spl 32 ((spl 59 s).getD 2 default)).drop 1,if 3<(spl 59 s).length/\6<((spl 59 s).getD 3 default).size then((spl 59 s).getD 3 default).extract 6 ((spl 59 s).getD 3 default).size else⟨#[]⟩⟩
def parsePolicy (s:ByteArray):Si_×Bool:=if s=⟨#[]⟩ then(default,true) else if 3<=(spl 59 s).length/\formatPolicy (polCand s)=s then(polCand s,true) else(default,false)
theorem En (b:UInt8) (s:ByteArray) (k:Nat):((spl b s).getD k default).size<=s.size:=by
 by_cases h:k<(spl b s).length
 ·exact Ij (Ba h)
 ·rw[Qb2,List.getElem?_eq_none o_];exact Nat.zero_le _
theorem Up {s n:ByteArray} (hn:n.size<=s.size):szPolicy ⟨true,(spl 32 ((spl 59 s).getD 0 default)).drop 1,(spl 32 ((spl 59 s).getD 1 default)).drop 1,(spl 32 ((spl 59 s).getD 2 default)).drop 1,n⟩<=4*(s.size+1):=by
 have h0:=En 59 s 0;have h1:=En 59 s 1;have h2:=En 59 s 2;have d0:=KL Ad (spl 32 ((spl 59 s).getD 0 default)) 1;have d1:=KL Ad (spl 32 ((spl 59 s).getD 1 default)) 1;have d2:=KL Ad (spl 32 ((spl 59 s).getD 2 default)) 1;rw[MD] at d0 d1 d2;simp only[szPolicy];omega
def fParsePolicy:Fct:=⟨[.v (.el .str)],[.el .bj,.el .bool],λ(x_:ByteArray×Unit)=>x_.1.size<=200000000,λ(x_:ByteArray×Unit)=>((parsePolicy x_.1).1,(parsePolicy x_.1).2,())⟩
end Go.Proofs.YtmeicddakaciiaaGreatDoor.fnExactStepLoad
