/-
  Contracts of functions that the law of FnExactLoadFast reaches, part 1.
-/
import Derived.Test.YtglhphmnikpkfaaGreatDoorVLe
import Derived.WalkKit
import Derived.BigGuard
import Derived.Deep.QuietTactic
import Derived.BigQuiet
import Derived.Lib.ConvBytes
import Derived.Sort.WalkC
import Derived.Handy
import Derived.Lib.Overlaps
import Derived.Lib.AppendZerosOnto
import Derived.Laws.Externs
import Derived.Shelf.RegionOpenPlain
import Derived.Defers
import Derived.Laws.Pointers
import Derived.Laws.LoneSync
import Derived.RegionCalls
import Derived.ChangeAlike
import Derived.LoopN
import Derived.Lib.SliceRun
import Derived.Shelf.Strconv.AtoiAll
import Derived.Shelf.Small.Strs
import Derived.Test.YtglhphmnikpkfaaGreatDoorRows
import Derived.Test.YtglhphmnikpkfaaGreatDoorCards
import Derived.LaidMore
import Derived.Lay
import Derived.SevenTiedAt
import Derived.ProofKit
import Derived.OpenShut
namespace Go.Proofs.YtglhphmnikpkfaaGreatDoor.fnExactLoadFast
open Go.Proofs.YtglhphmnikpkfaaGreatDoor
open Go.D Go.Proofs.Tryz
set_option maxRecDepth 100000
set_option maxHeartbeats 2000000
set_option linter.defProp false
set_option linter.unusedVariables false
set_option linter.unusedSimpArgs false
def tyOf:TypeId->Option Ty
 | 3=>some .int
 | 4=>some .bool
 | 5=>some .u8
 | 9=>some .str
 | 25=>some .cache
 | 28=>some .net
 | 30=>some .addr
 | 37=>some .cache
 | 40=>some .net
 | 41=>some .addr
 | 44=>some .bj
 | 46=>some .tokenizer
 | 50=>some .ba
 | 55=>some .page
 | 74=>some .loader
 | 106=>some .server
 | 110=>some .sent
 | 112=>some .bd
 | 123=>some .server
 | 127=>some .sent
 | 135=>some .token
 | 139=>some .slot
 | 142=>some .module
 | 150=>some .bd
 | 152=>some .entry
 | 169=>some .entry
 | 180=>some .node
 | 183=>some .file
 | 185=>some .attr
 | 188=>some .file
 | 227=>some .request
 | 261=>some .conn
 | 276=>some .guess
 | 373=>some .line
 | 380=>some .sheet
 | 406=>some .rule
 | _=>none
abbrev Eo:={ E:D.Env // EOk Tryz.prog E }
def Eo.a (e:Eo) (S:Fct) {f:Nat} (k:S.ok Tryz.prog f):Eo:=⟨e.1.add f S,e.2.add k⟩
def Eo.M (e:Eo) (S:MS) {f:Nat} (k:S.ok Tryz.prog f):Eo:=⟨e.1.addM f S,e.2.addM k⟩
def Eo.G (e:Eo) (S:GS) {f:Nat} (k:S.ok Tryz.prog f):Eo:=⟨e.1.addG f S,e.2.addG k⟩
def E0:Eo:=⟨D.Env.empty tyOf,EOk.empty _ _⟩
def E1:=E0.a GE<|Fct.p (KP [0,2,3] [5,7]) (λ⟨k,_⟩=>lv [(4,Ah2 k)]) E0.2 func86 (by
 rintro⟨(k:Int),_⟩ hp;refine ho (.br (decide (k<=0)) (.lf GE ((⟨#[109,48]⟩:ByteArray),())) (lpx (Ah2 k) (k,((⟨#[]⟩:ByteArray),())) λ(y2:Int×ByteArray×PUnit) bk2=>.br (decide (y2.1>0)) (.ob ((10:Int)≠(0:Int))<|.ob (True)<|.ob (sameSize (List.foldl (λr n=>r.push (UInt8.ofNat n.toNat)) ByteArray.empty [IntKind.u8.wrap (wr ((48:Int)+y2.1.tmod (10:Int)))]) y2.2.1)<|.ob ((10:Int)≠(0:Int))<|.ob (Value.string (⟨#[]⟩:ByteArray)=Value.string (⟨#[]⟩:ByteArray))<|.ob (bk2 (wr (y2.1.tdiv (10:Int)),(List.foldl (λr n=>r.push (UInt8.ofNat n.toNat)) ByteArray.empty [IntKind.u8.wrap (wr ((48:Int)+y2.1.tmod (10:Int)))]++y2.2.1,())))<|.ok) (.ob (sameSize (⟨#[109]⟩:ByteArray) y2.2.1)<|.lf GE ((⟨#[109]⟩:ByteArray)++y2.2.1,())))) ?_;refine Ab (λh1=>lfY ?_) (λh1=>Ai ?_ λ(y2:Int×ByteArray×PUnit) i2=>Ab (λh3=>Aa ?_ λ_=>Aa trivial λ_=>Aa ?_ λ_=>Aa ?_ λ_=>Aa rfl λ_=>Aa ?_ λ_=>trivial) (λh3=>Aa ?_ λ_=>lfY ?_));all_goals try simp only[AnW] at *
 all_goals
  try rw[AfG (by first|exact i2.1|(have:=i2.1;omega))]
  try simp only[Ah2,GE,std,Nat.reduceAdd,szF,toF,eqF,mkF,heF] at *
 ·simp[K4,h1]
 ·exact⟨o_,o_,64,rfl,Qf3 (show k.toNat<10 ^ 19 from o_) (Nat.pow_le_pow_right (by decide) (by decide)),rfl⟩
 ·decide
 ·obtain⟨i3,i4,f,i5,i6,i7⟩:=i2;show(1:Nat)+_<=_;omega
 ·decide
 ·obtain⟨i3,i4,f,i5,i6,i7⟩:=i2;have hd:IntKind.i64.wrap (y2.1.tdiv 10)=y2.1 / 10:=(AgM i3).resolve_right o_;rw[hd];cases f with
  | zero=>simp at i6;omega
  | succ f=>
   rw[Y3 (k:=y2.1.toNat) o_] at i7;have i8:y2.1.toNat<10*10 ^ f:=by rw[Nat.pow_succ] at i6;omega
   generalize 10 ^ f=p at i8;refine⟨⟨o_,o_,f,by rw[sz1];omega,o_,?_⟩,o_⟩;rw[show(y2.1 / 10).toNat=y2.1.toNat / 10 from o_];exact i7
 ·obtain⟨i3,i4,f,i5,i6,i7⟩:=i2;show(1:Nat)+_<=_;omega
 ·obtain⟨i3,i4,f,i5,i6,i7⟩:=i2;have h0:y2.1.toNat=0:=o_
  rw[h0,Abn] at i7;rw[K4,Qa3 o_,i7])
def E2:=E1.a GN<|Fct.p (KP [0,1,4,5] [10,14,25]) (λ⟨l,m,_⟩=>lv [(4,AaL .str l m)]) E1.2 func40 (by
 rintro⟨(l:List ByteArray),(m:List ByteArray),_⟩ hp;refine ho (.br ((l.length:Int) != (m.length:Int)) (.lf GN (false,())) (lpx (AaL .str l m) ((0:Int),()) λ(y2:Int×PUnit) bk2=>.br (decide (y2.1<(l.length:Int))) (.ob (inB y2.1 l.length)<|.ob (inB y2.1 m.length)<|.br (!(l.getD y2.1.toNat default).toList==(m.getD y2.1.toNat default).toList) (.lf GN (false,())) (.ob (l=l)<|.ob (m=m)<|.ob (bk2 (w1 y2.1,()))<|.ok)) (.lf GN (true,())))) ?_;refine Ab (λh1=>lfY ?_) (λh1=>Ai ?_ λ(y2:Int×PUnit) i2=>Ab (λh3=>Aa ?_ λ_=>Aa ?_ λ_=>Ab (λh6=>lfY ?_) (λh6=>Aa rfl λ_=>Aa rfl λ_=>Aa ?_ λ_=>trivial)) (λh3=>lfY ?_));all_goals try simp only[AaL,GN,std,Nat.reduceAdd,szF,toF,eqF,mkF,heF] at *
 all_goals have hl:=Ac Af l
 ·rw[Qg5];rintro rfl;omega
 ·exact⟨o_,o_,by simp⟩
 ·omega
 ·omega
 ·rw[Qg5];rintro rfl;first|exact absurd rfl h5|exact absurd rfl h6
 ·have hw:IntKind.i64.wrap (y2.1+1)=y2.1+1:=Ag o_;rw[hw,toNat1 o_];refine⟨⟨o_,o_,?_⟩,o_⟩;rw[take_succ o_,take_succ o_,i2.2.2];first|rw[h5]|rw[h6]
 ·have e:l.take y2.1.toNat=l:=Qb0 o_;have e2:m.take y2.1.toNat=m:=Qb0 o_;rw[Qf1];rw[<-e,<-e2,i2.2.2])
def E3:=E2.a Fq<|Fct.p (KP [0,2,3,4] [11]) (λ⟨l,_⟩=>lv [(3,Afr .int l)]) E2.2 func9 (by
 rintro⟨(l:List Int),_⟩ hp;refine ho (.ob ((l.length:Int)=(l.length:Int)/\(0:Int)<=(l.length:Int)/\(8:Int)*(l.length:Int)<=140737488355328/\(l.length:Int)<=140737488355328)<|lpx (Afr .int l) ((0:Int),(List.replicate (l.length:Int).toNat (0:Int),())) λ(y2:Int×List Int×PUnit) bk2=>.br (decide (y2.1<(l.length:Int))) (.ob (inB y2.1 l.length)<|.ob (inB y2.1 y2.2.1.length)<|.ob (y2.1.toNat<y2.2.1.length)<|.lt (List Int) (y2.2.1.modify y2.1.toNat λz=>l.getD y2.1.toNat default) λz2=>.ob (l=l)<|.ob (bk2 (w1 y2.1,(z2,())))<|.ok) (.lf Fq (y2.2.1,()))) ?_;refine Aa ?_ λ_=>Ai ?_ λ(y2:Int×List Int×PUnit) i2=>Ab (λh3=>Aa ?_ λ_=>Aa ?_ λ_=>Aa ?_ λ_=>DU (Aa rfl λ_=>Aa ?_ λ_=>trivial)) (λh3=>lfY ?_)
 all_goals
  try simp only[Afr,Fq,std,Nat.reduceAdd,szF,toF,eqF,mkF,heF] at *
  try have hsz:l.length<=1048576:=by first|exact hp|(have:=Ac Af l;exact Qd8 this hp)
 all_goals
  clear hp;try rw[i2.2.2]
 all_goals first|omega|(refine⟨o_,o_,?_⟩;simp;done)|(refine⟨o_,o_,?_⟩;simp;exact .inr rfl)|(simp;omega)|skip
 ·rw[Ag o_,toNat1 o_];refine⟨⟨o_,o_,?_⟩,o_⟩;rw[show l.length-y2.1.toNat=(l.length-(y2.1.toNat+1))+1 from o_,List.replicate_succ,Iu (by simp;omega),take_succ o_];simp
 ·have e:l.take y2.1.toNat=l:=Qb0 o_;rw[e];simp;omega)
def E4:=E3.a HW<|Fct.p (KP [0,1,4,5] [10,14,25]) (λ⟨l,m,_⟩=>lv [(4,AaL .int l m)]) E3.2 func13 (by
 rintro⟨(l:List Int),(m:List Int),_⟩ hp;refine ho (.br ((l.length:Int) != (m.length:Int)) (.lf HW (false,())) (lpx (AaL .int l m) ((0:Int),()) λ(y2:Int×PUnit) bk2=>.br (decide (y2.1<(l.length:Int))) (.ob (inB y2.1 l.length)<|.ob (inB y2.1 m.length)<|.br (l.getD y2.1.toNat default != m.getD y2.1.toNat default) (.lf HW (false,())) (.ob (l=l)<|.ob (m=m)<|.ob (bk2 (w1 y2.1,()))<|.ok)) (.lf HW (true,())))) ?_;refine Ab (λh1=>lfY ?_) (λh1=>Ai ?_ λ(y2:Int×PUnit) i2=>Ab (λh3=>Aa ?_ λ_=>Aa ?_ λ_=>Ab (λh6=>lfY ?_) (λh6=>Aa rfl λ_=>Aa rfl λ_=>Aa ?_ λ_=>trivial)) (λh3=>lfY ?_));all_goals try simp only[AaL,HW,std,Nat.reduceAdd,szF,toF,eqF,mkF,heF] at *
 ·rw[Qg5];rintro rfl;omega
 ·exact⟨o_,o_,by simp⟩
 ·omega
 ·omega
 ·rw[Qg5];rintro rfl;first|exact absurd rfl h5|exact absurd rfl h6
 ·have hw:IntKind.i64.wrap (y2.1+1)=y2.1+1:=Ag o_;rw[hw,toNat1 o_];refine⟨⟨o_,o_,?_⟩,o_⟩;rw[take_succ o_,take_succ o_,i2.2.2];first|rw[h5]|rw[h6]
 ·have e:l.take y2.1.toNat=l:=Qb0 o_;have e2:m.take y2.1.toNat=m:=Qb0 o_;rw[Qf1];rw[<-e,<-e2,i2.2.2])
def E5:=E4.M Qu<|mkS (KP [0,1,4,5] [9]) true LX E4.2 func50 (λ(l:List ByteArray) (k:Int)=>k_)
def E6:=E5.a Qf<|heS (KP [0,1,4,5] [9,18]) LX E5.2 func60 (λ(l:List ByteArray) (k:Int)=>k_)
def E7:=E6.M Gz<|mkS (KP [0,1,4,5] [9]) true Yr E6.2 func15 (λ(l:List Int) (k:Int)=>k_)
def E8:=E7.a XP<|heS (KP [0,1,4,5] [9,17]) Yr E7.2 func95 (λ(l:List Int) (k:Int)=>k_)
def E9:=E8.a Tr<|szT (KP [1,2,4] [11,18]) Ae9 E8.2 func5 (λ(x:Sb_) (k:Int)=>k_) (λ_=>rfl) Afz
def E10:=E9.a My<|toT [1,2,3] AeQ AiC E9.2 func8 (λ(x:Sb_)=>k_) (λ_=>rfl) AfQ
def E11:=E10.a AeA<|eqT (KP [2,3,4] [9,14]) Yc E10.2 func32 (λ(x y:Sb_)=>k_) Afv Af5
def E12:=E11.a AbX<|eqS (KP [0,1,4,5] [10,14,26]) false E11.2 func39 (λ(l r:List Sb_)=>k_)
def E13:=E12.M VD<|mkS (KP [0,1,4,5] [9]) true SC E12.2 func49 (λ(l:List Sb_) (k:Int)=>k_)
def E14:=E13.a V0<|heS (KP [0,1,4,5] [9,19,29]) SC E13.2 func59 (λ(l:List Sb_) (k:Int)=>k_)
def E15:=E14.a AfR<|eqT (KP [2,3,4] [9,14]) Z0 E14.2 func177 (λ(x y:St_)=>k_) Aev AeV
def E16:=E15.a AaT<|eqS (KP [0,1,4,5] [10,14,26]) false E15.2 func133 (λ(l r:List St_)=>k_)
def E17:=E16.M Vt<|mkS (KP [0,1,4,5] [9]) true S6 E16.2 func89 (λ(l:List St_) (k:Int)=>k_)
def E18:=E17.a Vp<|heS (KP [0,1,4,5] [9,19,29]) S6 E17.2 func93 (λ(l:List St_) (k:Int)=>k_)
def E19:=E18.a AcI<|eqT (KP [2,3,4] [9,14,20,25]) Qi E18.2 func82 (λ(x y:Sh_)=>k_) Acl AbY
def E20:=E19.a Zz<|eqS (KP [0,1,4,5] [10,14,26]) false E19.2 func35 (λ(l r:List Sh_)=>k_)
def E21:=E20.M SI<|mkS (KP [0,1,4,5] [9]) true PR E20.2 func45 (λ(l:List Sh_) (k:Int)=>k_)
def E22:=E21.a Tv<|heS (KP [0,1,4,5] [9,18,28,39,47]) PR E21.2 func55 (λ(l:List Sh_) (k:Int)=>k_)
def E23:=E22.a RD<|eqT (KP [2,3,4] [9]) GO E22.2 func34 (λ(x y:So_)=>k_) QQ Q5
def E24:=E23.a AfZ<|eqT (KP [2,3,4] [9,14,19,25]) X4 E23.2 func134 (λ(x y:Su_)=>k_) Agd Aet
def E25:=E24.a Abg<|eqS (KP [0,1,4,5] [10,14,26]) false E24.2 func83 (λ(l r:List Su_)=>k_)
def E26:=E25.M Ws<|mkS (KP [0,1,4,5] [9]) true TE E25.2 func90 (λ(l:List Su_) (k:Int)=>k_)
def E27:=E26.a VN<|heS (KP [0,1,4,5] [9,19,29,38,49]) TE E26.2 func94 (λ(l:List Su_) (k:Int)=>k_)
def E28:=E27.a Wh<|eqT (KP [2,3,4] [10,16]) Jy E27.2 func36 (λ(x y:Se_)=>k_) VG Vo
def E29:=E28.M QR<|mvT [1,2,4] [0,1] J5 E28.2 func46 (λ(x:Se_) (k:Int)=>k_)
def E30:=E29.a QT<|hvT (KP [1,2,4] [10,16]) J5 E29.2 func56 (λ(x:Se_) (k:Int)=>k_)
def E31:=E30.a Xz<|eqT (KP [2,3,4] [9,15,21,27,32]) MX E30.2 func33 (λ(x y:Si_)=>k_) XK XG
def E32:=E31.M R8<|mvT [1,2,4] [1,2,3] MT E31.2 func44 (λ(x:Si_) (k:Int)=>k_)
def E33:=E32.a TA<|hvT (KP [1,2,4] [10,16,22]) MT E32.2 func54 (λ(x:Si_) (k:Int)=>k_)
def E34:=E33.a SA<|szT (KP [1,2,4] [11,18]) MR E33.2 func136 (λ(x:Sd_) (k:Int)=>k_) (λ_=>rfl) S1
def E35:=E34.a SD<|toT [1,2,3] LY Y1 E34.2 func154 (λ(x:Sd_)=>k_) (λ_=>rfl) TH
def E36:=E35.a Sw<|eqT (KP [2,3,4] [9,14,19,24,29,34]) HQ E35.2 func176 (λ(x y:Sd_)=>k_) SO SR
def E37:=E36.a Aea<|szT (KP [1,2,4] [11,17]) Agv E36.2 func135 (λ(x:Sv_) (k:Int)=>k_) (λ_=>rfl) Agy
def E38:=E37.a Agq<|toT [1,2,3] Afm Aix E37.2 func153 (λ(x:Sv_)=>k_) (λ_=>rfl) Afi
def E39:=E38.a Agg<|eqT (KP [2,3,4] [9,15]) ZB E38.2 func175 (λ(x y:Sv_)=>k_) Af2 Agm
def E40:=E39.a Abt<|szS (KP [0,1,4,5] [11,15,25]) E39.2 func96 (λ(l:List Sv_) (k:Int)=>k_)
def E41:=E40.a AbZ<|toS (KP [0,2,3,4] [11]) 80 E40.2 func112 (λ(l:List Sv_)=>k_)
def E42:=E41.a Abv<|eqS (KP [0,1,4,5] [10,14,26]) false E41.2 func131 (λ(l r:List Sv_)=>k_)
def E43:=E42.M VT<|mkS (KP [0,1,4,5] [9]) true Te E42.2 func87 (λ(l:List Sv_) (k:Int)=>k_)
def E44:=E43.a WV<|heS (KP [0,1,4,5] [9,19,29,39,50,60,72,83]) Te E43.2 func91 (λ(l:List Sv_) (k:Int)=>k_)
def E45:=E44.a Y4<|szT (KP [1,2,4] [11,17]) S2 E44.2 func61 (λ(x:Sk_) (k:Int)=>k_) (λ_=>rfl) Zm
def E46:=E45.a Xr<|toT [1,2,3] SZ Afl E45.2 func70 (λ(x:Sk_)=>k_) (λ_=>rfl) ZL
def E47:=E46.a X9<|eqT (KP [2,3,4] [9,15]) MD E46.2 func79 (λ(x y:Sk_)=>k_) YS XN
def E48:=E47.a VH<|szS (KP [0,1,4,5] [11,15,25]) E47.2 func19 (λ(l:List Sk_) (k:Int)=>k_)
def E49:=E48.a V8<|toS (KP [0,2,3,4] [11]) 40 E48.2 func24 (λ(l:List Sk_)=>k_)
def E50:=E49.a V2<|eqS (KP [0,1,4,5] [10,14,26]) false E49.2 func29 (λ(l r:List Sk_)=>k_)
def E51:=E50.M RO<|mkS (KP [0,1,4,5] [9]) true Lv E50.2 func41 (λ(l:List Sk_) (k:Int)=>k_)
def E52:=E51.a QM<|heS (KP [0,1,4,5] [9,19,30]) Lv E51.2 func51 (λ(l:List Sk_) (k:Int)=>k_)
def E53:=E52.a Aa9<|szT (KP [1,2,4] [11,17,23]) Xc E52.2 func97 (λ(x:Sq_) (k:Int)=>k_) (λ_=>rfl) Aco
def E54:=E53.a AbL<|toT [1,2,3] Zd AhD E53.2 func113 (λ(x:Sq_)=>k_) (λ_=>rfl) Abm
def E55:=E54.a AbC<|eqT (KP [2,3,4] [9,15,21,26]) QE E54.2 func132 (λ(x y:Sq_)=>k_) Aa0 Adg
def E56:=E55.a Aam<|szS (KP [0,1,4,5] [11,15,25]) E55.2 func62 (λ(l:List Sq_) (k:Int)=>k_)
def E57:=E56.a ZY<|toS (KP [0,2,3,4] [11]) 120 E56.2 func71 (λ(l:List Sq_)=>k_)
def E58:=E57.a AaI<|eqS (KP [0,1,4,5] [10,14,26]) false E57.2 func80 (λ(l r:List Sq_)=>k_)
def E59:=E58.M S0<|mkS (KP [0,1,4,5] [9]) true OJ E58.2 func88 (λ(l:List Sq_) (k:Int)=>k_)
def E60:=E59.a Tp<|heS (KP [0,1,4,5] [9,19,30,41,51,61,72,82,94,105,114]) OJ E59.2 func92 (λ(l:List Sq_) (k:Int)=>k_)
def E61:=E60.a Acp<|szT (KP [1,2,4] [10]) W4 E60.2 func20 (λ(x:Sl_) (k:Int)=>k_) (λ_=>rfl) Ac8
def E62:=E61.a AcQ<|toT [1,2,3] X1 Ahs E61.2 func25 (λ(x:Sl_)=>k_) (λ_=>rfl) AcG
def E63:=E62.a Ab2<|eqT (KP [2,3,4] [10]) Rj E62.2 func30 (λ(x y:Sl_)=>k_) AcJ Adh
def E64:=E63.M Wf<|mvT [1,2,4] [0] Ps E63.2 func42 (λ(x:Sl_) (k:Int)=>k_)
def E65:=E64.a Wj<|hvT (KP [1,2,4] [10]) Ps E64.2 func52 (λ(x:Sl_) (k:Int)=>k_)
def E66:=E65.a Agi<|szT (KP [1,2,4] [11,17]) Afe E65.2 func63 (λ(x:Sw_) (k:Int)=>k_) (λ_=>rfl) AeB
def E67:=E66.a Aed<|toT [1,2,3] Ael Aic E66.2 func72 (λ(x:Sw_)=>k_) (λ_=>rfl) AeW
def E68:=E67.a Aen<|eqT (KP [2,3,4] [9,15,20]) AaG E67.2 func81 (λ(x y:Sw_)=>k_) Aeq AfX
def E69:=E68.a Ac5<|szS (KP [0,1,4,5] [11,15,25]) E68.2 func21 (λ(l:List Sw_) (k:Int)=>k_)
def E70:=E69.a Adf<|toS (KP [0,2,3,4] [11]) 56 E69.2 func26 (λ(l:List Sw_)=>k_)
def E71:=E70.a AcO<|eqS (KP [0,1,4,5] [10,14,26]) false E70.2 func31 (λ(l r:List Sw_)=>k_)
def E72:=E71.M WE<|mkS (KP [0,1,4,5] [9]) true Sk E71.2 func43 (λ(l:List Sw_) (k:Int)=>k_)
def E73:=E72.a Wy<|heS (KP [0,1,4,5] [9,19,30,41,52]) Sk E72.2 func53 (λ(l:List Sw_) (k:Int)=>k_)
def E74:=E73.a Aah<|szT (KP [1,2,4] [10,16,22]) Aik E73.2 func4 (λ(x:Ss_) (k:Int)=>k_) (λ_=>rfl) AgJ
def E75:=E74.a NI<|toT [1,2,3] AiF AnX E74.2 func7 (λ(x:Ss_)=>k_) (λ_=>rfl) AgZ
def E76:=E75.a N5<|eqT (KP [2,3,4] [10,16,22,27]) AgL E75.2 func11 (λ(x y:Ss_)=>k_) AhE Ag8
def E77:=E76.M Ig<|mvT [1,2,4] [0,1,2] Ya E76.2 func14 (λ(x:Ss_) (k:Int)=>k_)
def E78:=E77.a Lm<|hvT (KP [1,2,4] [10,16,22]) Ya E77.2 func17 (λ(x:Ss_) (k:Int)=>k_)
def E79:=E78.a AfD<|eqT (KP [2,3,4] [9,15,20,25,30,35,40]) AaJ E78.2 func84 (λ(x y:Sn_)=>k_) Aef Af9
def E80:=E79.a Abs<|eqS (KP [0,1,4,5] [10,14,26]) false E79.2 func37 (λ(l r:List Sn_)=>k_)
def E81:=E80.M Wi<|mkS (KP [0,1,4,5] [9]) true Sg E80.2 func47 (λ(l:List Sn_) (k:Int)=>k_)
def E82:=E81.a VY<|heS (KP [0,1,4,5] [9,18,29,40,50,59,70,79,89]) Sg E81.2 func57 (λ(l:List Sn_) (k:Int)=>k_)
def E83:=E82.a XO<|eqT (KP [2,3,4] [10,15,20,25]) Nl E82.2 func85 (λ(x y:Sg_)=>k_) ZG YM
def E84:=E83.a Wc<|eqS (KP [0,1,4,5] [10,14,26]) false E83.2 func38 (λ(l r:List Sg_)=>k_)
def E85:=E84.M Qs<|mkS (KP [0,1,4,5] [9]) true Mq E84.2 func48 (λ(l:List Sg_) (k:Int)=>k_)
def E86:=E85.a QW<|heS (KP [0,1,4,5] [9,20,31,42,51,61]) Mq E85.2 func58 (λ(l:List Sg_) (k:Int)=>k_)
def E87:=E86.a L4<|eqT (KP [2,3,4] [10,16,22,28,33,39,45,51,57,62,67,72,77,83,89,94]) AaF E86.2 func12 (λ(x y:Sa_)=>k_) Aek Afy
def E88:=E87.M Jr<|mvT [1,2,4] [3,4,5,8,10,11,12,13,14,19,20] Sy E87.2 func16 (λ(x:Sa_) (k:Int)=>k_)
def E89:=E88.a Je<|hvT (KP [1,2,4] [10,16,22,28,34,40,46,52]) Sy E88.2 func18 (λ(x:Sa_) (k:Int)=>k_)
def countGuess:List Sj_->Nat
 | []=>0
 | c::l=>countGuess l+(if c.guess then 1 else 0)
def Jl (l:List Sj_):countGuess l<=l.length:=by
 induction l with
 | nil=>simp[countGuess]
 | cons d l ih=>simp only[countGuess,Qa6];split<;>omega
def fCount:Fct:=⟨[.v (.sl .conn)],[.el .int],λ(x_:(List Sj_)×Unit)=>x_.1.length<=1048576,λ(x_:(List Sj_)×Unit)=>((countGuess x_.1:Int),())⟩
abbrev Cm (l:(List Sj_)):LInv:=⟨[⟨.s,3,true,.el .int⟩,⟨.s,4,true,.el .int⟩],λ_ (x_:Int×Int×Unit)=>0<=x_.2.1/\x_.2.1<=l.length/\0<=x_.1/\x_.1<=x_.2.1/\x_.1+countGuess (l.drop x_.2.1.toNat)=countGuess l,λ(x_:Int×Int×Unit)=>l.length-x_.2.1.toNat⟩
def E90:=E89.a fCount<|Fct.p (KP [0,2,3,4] [8,15]) (λ⟨l,_⟩=>lv [(3,Cm l)]) E89.2 func194 (by
 rintro⟨(l:List Sj_),_⟩ hp;refine ho (lpx (Cm l) ((0:Int),((0:Int),())) λ(y1:Int×Int×PUnit) bk1=>.br (decide (y1.2.1<(l.length:Int))) (.ob (inB y1.2.1 l.length)<|.br ((l.getD y1.2.1.toNat default).guess) (.ob (l=l)<|.ob (Value.int IntKind.i64 0=Value.int IntKind.i64 (0:Int))<|.ob (bk1 (w1 y1.1,(w1 y1.2.1,())))<|.ok) (.ob (l=l)<|.ob (Value.int IntKind.i64 0=Value.int IntKind.i64 (0:Int))<|.ob (bk1 (y1.1,(w1 y1.2.1,())))<|.ok)) (.lf fCount (y1.1,()))) ?_;refine Ai ?_ λ(y1:Int×Int×PUnit) i1=>Ab (λh2=>Aa ?_ λ_=>Ab (λh4=>Aa rfl λ_=>Aa rfl λ_=>Aa ?_ λ_=>trivial) (λh4=>Aa rfl λ_=>Aa rfl λ_=>Aa ?_ λ_=>trivial)) (λh2=>lfY ?_)
 all_goals
  try simp only[Cm,fCount,std,Nat.reduceAdd,countGuess] at *
  try simp(disch:=omega) only[wrapId',toNat1] at *
  try simp(disch:=omega) only[Qa1,Qa3]
 all_goals first|trivial|omega|grind[wrapId',toNat1,drop_cons,drop_end,good_len,maxLen,countGuess])
abbrev Bj (l:(List Sj_)):LInv:=⟨[⟨.s,3,true,.el .int⟩,⟨.s,8,true,.el .int⟩],λ_ (x_:Int×Int×Unit)=>0<=x_.2.1/\x_.2.1<=l.length/\0<=x_.1/\x_.1<=x_.2.1/\x_.1+countGuess (l.drop x_.2.1.toNat)=countGuess l,λ(x_:Int×Int×Unit)=>l.length-x_.2.1.toNat⟩
def E91:=E90.a fCount<|Fct.p (KP [0,2,3,5,6,7,8] [9,13]) (λ⟨l,_⟩=>lv [(3,Bj l)]) E90.2 func233 (by
 rintro⟨(l:List Sj_),_⟩ hp;refine ho (let q2_:=(l.length:Int);let q1_:=Value.int IntKind.i64 0=Value.int IntKind.i64 (0:Int);let q0_:=Value.int IntKind.i64 q2_=Value.int IntKind.i64 q2_;lpx (Bj l) ((0:Int),((0:Int),())) λ(y1:Int×Int×PUnit) bk1=>.br (decide (y1.2.1<q2_)) (.ob (inB y1.2.1 l.length)<|.br ((l.getD y1.2.1.toNat default).guess) (.ob (l=l)<|.ob q1_<|.ob (l=l)<|.ob q0_<|.ob (bk1 (w1 y1.1,(w1 y1.2.1,())))<|.ok) (.ob (l=l)<|.ob q1_<|.ob (l=l)<|.ob q0_<|.ob (bk1 (y1.1,(w1 y1.2.1,())))<|.ok)) (.lf fCount (y1.1,()))) ?_;repeat' first|(guard_target =~ Out.holds _ _;first|refine Ai (li:=Bj l) ?_ λ(y1:Int×Int×PUnit) i1=>?_|refine lfY ?_|refine Ab (λ_=>?_) λ_=>?_|refine Aa ?_ λ_=>?_)|exact trivial
 all_goals
  try simp only[Bj,fCount,std,Nat.reduceAdd,countGuess] at *
  try simp(disch:=omega) only[wrapId',toNat1] at *
  try simp(disch:=omega) only[Qa1,Qa3]
 all_goals first|trivial|omega|grind[wrapId',toNat1,drop_cons,drop_end,good_len,maxLen,countGuess])
def findConn (a:Sb_):List Sj_->Int->Int
 | [],_=>-1
 | c::l,i=>if c.to=a then i else findConn a l (i+1)
def GZ {a:Sb_} {l:List Sj_} {i:Nat} {z:Int} (h:i<l.length):findConn a (l.drop i) z=if(l.getD i default).to=a then z else findConn a (l.drop (i+1)) (z+1):=by rw[drop_cons h];rfl
def KV {a:Sb_} {l:List Sj_} {i:Nat} {z:Int} (h:l.length<=i):findConn a (l.drop i) z = -1:=by rw[Qb1 h];rfl
def RB (x y:Sb_):(x.host==y.host&&(x.path==y.path&&true))=decide (x=y):=Dh x y
def fFind:Fct:=⟨[aL .conn,aE .addr],[rI],λ(x:List Sj_×Sb_×Unit)=>x.1.length<=1048576,λx=>(findConn x.2.1 x.1 0,())⟩
abbrev Lfind (l:List Sj_) (a:Sb_):LInv:=⟨[⟨.s,5,true,.el .int⟩,⟨.b,3,true,.el .addr⟩],λ_ (x:Int×Sb_×Unit)=>0<=x.1/\x.1<=l.length/\x.2.1=a/\findConn a l 0=findConn a (l.drop x.1.toNat) x.1,λ(x:Int×Sb_×Unit)=>l.length-x.1.toNat⟩
def E92:=E91.a fFind<|Fct.p (KP [0,3,4,5] [9,18]) (λ⟨l,a,_⟩=>lv [(2,Lfind l a)]) E91.2 func197 (by
 rintro⟨(l:List Sj_),(a:Sb_),_⟩ hp;refine ho (lpx (Lfind l a) ((0:Int),(a,())) λ(y1:Int×Sb_×PUnit) bk1=>.br (decide (y1.1<(l.length:Int))) (.ob (inB y1.1 l.length)<|.br ((l.getD y1.1.toNat default).to.host==y1.2.1.host&&((l.getD y1.1.toNat default).to.path==y1.2.1.path&&true)) (.lf fFind (y1.1,())) (.ob (l=l)<|.ob (bk1 (w1 y1.1,(y1.2.1,())))<|.ok)) (.lf fFind ((-1:Int),()))) ?_;refine Ai ?_ λ(y1:Int×Sb_×PUnit) i1=>Ab (λh2=>Aa ?_ λ_=>Ab (λh4=>lfY ?_) (λh4=>Aa rfl λ_=>Aa ?_ λ_=>trivial)) (λh2=>lfY ?_)
 all_goals
  try simp only[Lfind,fFind,std,Nat.reduceAdd] at *
  try simp only[RB,Qa9,Qa8] at *
 ·first|omega|exact⟨o_,o_,by simp⟩
 ·omega
 ·rw[GZ o_,Qa1 (h4.trans i1.2.2.1)] at i1;exact i1.2.2.2.symm
 ·rw[GZ o_,Qa3 (λh=>h4 (h.trans i1.2.2.1.symm))] at i1;have hn:l.length<=1048576:=hp;rw[Ag o_,toNat1 o_];exact⟨⟨o_,o_,i1.2.2.1,i1.2.2.2⟩,o_⟩
 ·rw[KV o_] at i1;exact i1.2.2.2.symm)
def Uo:Fct:=⟨[aE .conn,.p (.el .addr)],[rB],λ_=>True,λx=>(decide (x.1.to=x.2.1),())⟩
def E93:=E92.a Uo<|Fct.o [1,2,3] E92.2 func300 (by
 rintro⟨(c:Sj_),(a:Sb_),_⟩ hp;refine ho (.lf Uo (c.to.host==a.host&&(c.to.path==a.path&&true),())) ?_;refine lfY ?_;show(_,())=(_,());rw[RB])
def Io:Fct:=⟨[aL .conn,.c 300 [.el .addr]],[rI],λ(x:List Sj_×(Sb_×Unit)×Unit)=>x.1.length<=1048576,λx=>(findConn x.2.1.1 x.1 0,())⟩
abbrev Lidx (l:List Sj_) (F:List Sj_->Int->Int):LInv:=⟨[⟨.s,8,true,.el .int⟩],λ_ (x:Int×Unit)=>0<=x.1/\x.1<=l.length/\F l 0=F (l.drop x.1.toNat) x.1,λ(x:Int×Unit)=>l.length-x.1.toNat⟩
abbrev Lidxf (l:List Sj_) (a:Sb_×Unit):LInv:=Lidx l (findConn a.1)
def E94:=E93.a Io<|Fct.p (KP [0,1,4,5,7,8] [9,16]) (λ⟨l,a,_⟩=>lv [(2,Lidxf l a)]) E93.2 func299 (by
 rintro⟨(l:List Sj_),(a:Sb_×PUnit),_⟩ hp;refine ho (lpx (Lidxf l a) ((0:Int),()) λ(y1:Int×PUnit) bk1=>.br (decide (y1.1<(l.length:Int))) (.ob (inB y1.1 l.length)<|.cl Uo (l.getD y1.1.toNat default,a.1,()) λz2=>.br (z2.1) (.lf Io (y1.1,())) (.ob (l=l)<|.ob (enc Ty.addr a.1=enc Ty.addr a.1)<|.ob (Value.int IntKind.i64 (l.length:Int)=Value.int IntKind.i64 (l.length:Int))<|.ob (bk1 (w1 y1.1,()))<|.ok)) (.lf Io ((-1:Int),()))) ?_;refine Ai ?_ λ(y1:Int×PUnit) i1=>Ab (λh2=>Aa ?_ λ_=>Ae trivial λ_=>(Ab (λh4=>lfY ?_) (λh4=>Aa rfl λ_=>Aa rfl λ_=>Aa rfl λ_=>Aa ?_ λ_=>trivial))) (λh2=>lfY ?_)
 all_goals
  try simp only[Lidxf,Uo,Io,std,Nat.reduceAdd] at *
  try simp only[RB,Qa9,Qa8] at *
 ·first|omega|exact⟨o_,o_,by simp⟩
 ·omega
 ·rw[GZ o_,Qa1 h4] at i1;exact i1.2.2.symm
 ·rw[GZ o_,Qa3 h4] at i1;have hn:l.length<=1048576:=hp;rw[Ag o_,toNat1 o_];exact⟨⟨o_,o_,i1.2.2⟩,o_⟩
 ·rw[KV o_] at i1;exact i1.2.2.symm)
def E95:=E94.a fFind<|Fct.o [0,3,4] E94.2 func236 (by
 rintro⟨(l:List Sj_),(a:Sb_),_⟩ hp;refine ho (.cl Io (l,(a,()),()) λ(z2:Int×PUnit)=>.lf fFind (z2.1,())) ?_;refine Ae ?_ λ_=>(lfY ?_)
 all_goals try simp only[fFind,Io,std,Nat.reduceAdd] at *
 all_goals first|trivial|omega|(simp_all;done)|(simp_all;omega)|grind)
def firstDone:List Sj_->Int->Int
 | [],_=>-1
 | c::l,i=>if c.left<=0 then i else firstDone l (i+1)
def Gd {l:List Sj_} {i:Nat} {z:Int} (h:i<l.length):firstDone (l.drop i) z=if(l.getD i default).left<=0 then z else firstDone (l.drop (i+1)) (z+1):=by rw[drop_cons h];rfl
def JC {l:List Sj_} {i:Nat} {z:Int} (h:l.length<=i):firstDone (l.drop i) z = -1:=by rw[Qb1 h];rfl
def GB:Fct:=⟨[aL .conn],[rI],λ(x:List Sj_×Unit)=>x.1.length<=1048576,λx=>(firstDone x.1 0,())⟩
abbrev Lfirst (l:List Sj_):LInv:=⟨[⟨.s,3,true,.el .int⟩],λ_ (x:Int×Unit)=>0<=x.1/\x.1<=l.length/\firstDone l 0=firstDone (l.drop x.1.toNat) x.1,λ(x:Int×Unit)=>l.length-x.1.toNat⟩
def E96:=E95.a GB<|Fct.p (KP [0,2,3] [7,15]) (λ⟨l,_⟩=>lv [(2,Lfirst l)]) E95.2 func199 (by
 rintro⟨(l:List Sj_),_⟩ hp;refine ho (lpx (Lfirst l) ((0:Int),()) λ(y1:Int×PUnit) bk1=>.br (decide (y1.1<(l.length:Int))) (.ob (inB y1.1 l.length)<|.br (decide ((l.getD y1.1.toNat default).left<=0)) (.lf GB (y1.1,())) (.ob (l=l)<|.ob (bk1 (w1 y1.1,()))<|.ok)) (.lf GB ((-1:Int),()))) ?_;refine Ai ?_ λ(y1:Int×PUnit) i1=>Ab (λh2=>Aa ?_ λ_=>Ab (λh4=>lfY ?_) (λh4=>Aa rfl λ_=>Aa ?_ λ_=>trivial)) (λh2=>lfY ?_)
 all_goals
  try simp only[Lfirst,GB,std,Nat.reduceAdd] at *
  try simp only[RB,Qa9,Qa8] at *
 ·first|omega|exact⟨o_,o_,by simp⟩
 ·omega
 ·rw[Gd o_,Qa1 h4] at i1;exact i1.2.2.symm
 ·rw[Gd o_,Qa3 o_] at i1;have hn:l.length<=1048576:=hp;rw[Ag o_,toNat1 o_];exact⟨⟨o_,o_,i1.2.2⟩,o_⟩
 ·rw[JC o_] at i1;exact i1.2.2.symm)
def LM:Fct:=⟨[aE .conn],[rB],λ_=>True,λx=>(decide (x.1.left<=0),())⟩
def E97:=E96.a LM<|Fct.o [1,2] E96.2 func301 (by
 rintro⟨(c:Sj_),_⟩ hp;refine ho (.lf LM (decide (c.left<=0),())) ?_;refine lfY ?_;all_goals try simp only[LM,std,Nat.reduceAdd] at *
 all_goals first|trivial|omega|(simp_all;done)|(simp_all;omega)|grind)
def GF:Fct:=⟨[aL .conn,.c 301 []],[rI],λ(x:List Sj_×Unit×Unit)=>x.1.length<=1048576,λx=>(firstDone x.1 0,())⟩
def E98:=E97.a GF<|Fct.p (KP [0,1,4,5,7,8] [9,16]) (λ⟨l,u,_⟩=>lv [(2,Lidx l firstDone)]) E97.2 func299 (by
 rintro⟨(l:List Sj_),(u:PUnit),_⟩ hp;refine ho (lpx (Lidx l firstDone) ((0:Int),()) λ(y1:Int×PUnit) bk1=>.br (decide (y1.1<(l.length:Int))) (.ob (inB y1.1 l.length)<|.cl LM (l.getD y1.1.toNat default,()) λz2=>.br (z2.1) (.lf GF (y1.1,())) (.ob (l=l)<|.ob (Value.int IntKind.i64 (l.length:Int)=Value.int IntKind.i64 (l.length:Int))<|.ob (bk1 (w1 y1.1,()))<|.ok)) (.lf GF ((-1:Int),()))) ?_;refine Ai ?_ λ(y1:Int×PUnit) i1=>Ab (λh2=>Aa ?_ λ_=>Ae trivial λ_=>(Ab (λh4=>lfY ?_) (λh4=>Aa rfl λ_=>Aa rfl λ_=>Aa ?_ λ_=>trivial))) (λh2=>lfY ?_)
 all_goals
  try simp only[Lidx,LM,GF,std,Nat.reduceAdd] at *
  try simp only[RB,Qa9,Qa8] at *
 ·first|omega|exact⟨o_,o_,by simp⟩
 ·omega
 ·rw[Gd o_,Qa1 h4] at i1;exact i1.2.2.symm
 ·rw[Gd o_,Qa3 o_] at i1;have hn:l.length<=1048576:=hp;rw[Ag o_,toNat1 o_];exact⟨⟨o_,o_,i1.2.2⟩,o_⟩
 ·rw[JC o_] at i1;exact i1.2.2.symm)
def E99:=E98.a GB<|Fct.o [0,2] E98.2 func238 (by
 rintro⟨(l:List Sj_),_⟩ hp;refine ho (.cl GF (l,(),()) λ(z2:Int×PUnit)=>.lf GB (z2.1,())) ?_;refine Ae ?_ λ_=>(lfY ?_)
 all_goals try simp only[GB,GF,std,Nat.reduceAdd] at *
 all_goals first|trivial|omega|(simp_all;done)|(simp_all;omega)|grind)
def inRange (n lo hi:Int):Bool:=decide (lo<=n)&&decide (n<=hi)
def fInRange:Fct:=⟨[aI,aI,aI],[rB],λ_=>True,λ(x:Int×Int×Int×Unit)=>(inRange x.1 x.2.1 x.2.2.1,())⟩
def AjM:=E99.a fInRange<|Fct.o [0,1,2,6] E99.2 func123 (by
 rintro⟨(n:Int),(lo:Int),(hi:Int),_⟩ hp;refine ho (.br (decide (lo<=n)) (.lf fInRange (decide (n<=hi),())) (.lf fInRange (false,()))) ?_;refine Ab (λh1=>lfY ?_) (λh1=>lfY ?_);all_goals try simp only[fInRange,std,Nat.reduceAdd,inRange] at *
 all_goals first|trivial|(simp_all;done)|(simp_all;omega)|grind)
def Anc:=AjM.a fInRange<|Fct.o [0,1,2,6] AjM.2 func145 (by
 rintro⟨(n:Int),(lo:Int),(hi:Int),_⟩ hp;refine ho (.br (decide (n>=lo)) (.lf fInRange (decide (n<=hi),())) (.lf fInRange (false,()))) ?_;refine Ab (λh1=>lfY ?_) (λh1=>lfY ?_);all_goals try simp only[fInRange,std,Nat.reduceAdd,inRange] at *
 all_goals first|trivial|(simp_all;done)|(simp_all;omega)|grind)
def AaK:Fct:=⟨[aI,aI],[rI],λ_=>True,λ(x:Int×Int×Unit)=>(max x.1 x.2.1,())⟩
def Ano:=Anc.a AaK<|Fct.o (KP [0,1,4] [7]) Anc.2 func109 (by
 rintro⟨(a:Int),(b:Int),_⟩ hp;refine ho (.br (decide (b>a)) (.lf AaK (b,())) (.lf AaK (a,()))) ?_;refine Ab (λh1=>lfY ?_) (λh1=>lfY ?_);all_goals try simp only[AaK,std,Nat.reduceAdd] at *
 all_goals first|trivial|omega|(simp_all;done)|(simp_all;omega)|grind)
def fCopyConns:Fct:=⟨[aL .conn],[rL .conn],λ(x:List Sj_×Unit)=>x.1.length<=1048576,λ(x:List Sj_×Unit)=>(x.1,())⟩
def Ajk:=Ano.a fCopyConns<|Fct.o [0,2] Ano.2 func127 (by
 rintro⟨(l:List Sj_),_⟩ hp;refine ho (.ob (True)<|.ob (Br (0+List.length l) 112)<|.lf fCopyConns ([]++l,())) ?_;refine Aa trivial λ_=>Aa ?_ λ_=>lfY ?_
 all_goals try simp only[fCopyConns,std,Nat.reduceAdd] at *
 all_goals first|trivial|omega|(simp_all;done)|(simp_all;omega)|grind)
def moveOne (b:Int) (c:Sj_):Sj_:={ c with left:=max 0 (IntKind.i64.wrap (c.left-b))}
def moveConns (l:List Sj_) (b:Int):List Sj_:=if inRange b 0 1000 then l.map (moveOne b) else l
def Jb:Fct:=⟨[aL .conn,aI],[rL .conn],λ(x:List Sj_×Int×Unit)=>x.1.length<=1048576,λ(x:List Sj_×Int×Unit)=>(moveConns x.1 x.2.1,())⟩
abbrev L45 (l:List Sj_) (b:Int):LInv:=⟨[⟨.s,6,true,.el .int⟩,⟨.s,5,true,.sl .conn⟩],λ_ (x:Int×List Sj_×Unit)=>0<=x.1/\x.1<=l.length/\x.2.1=moveConns (l.take x.1.toNat) b++l.drop x.1.toNat,λ(x:Int×List Sj_×Unit)=>l.length-x.1.toNat⟩
def Dm (l:List Sj_) (b:Int):(moveConns l b).length=l.length:=by unfold moveConns;split<;>simp
def Jn (b:Int):moveConns [] b=[]:=by unfold moveConns;split<;>rfl
def Iw {l:List Sj_} {b:Int} {i:Nat} (hb:inRange b 0 1000=true) (h:i<l.length) {g:Sj_->Sj_} (hg:g (l.getD i default)=moveOne b (l.getD i default)):(moveConns (l.take i) b++l.drop i).modify i g=moveConns (l.take (i+1)) b++l.drop (i+1):=by
 rw[drop_cons h,Iu (by rw[Dm,Qc0];omega),take_succ h];simp only[moveConns,hb,Qf0,List.map_append,Qc7,List.map_nil,Qb4,Qe6,Qf8,hg]
def OR {l:List Sj_} {b:Int} {i:Nat} (hb:inRange b 0 1000=false):moveConns (l.take i) b++l.drop i=moveConns l b:=by
 simp[moveConns,hb]
def AmN:=Ajk.a Jb<|Fct.p (KP [0,1,4,5,6] [17]) (λ⟨l,b,_⟩=>lv [(3,L45 l b)]) Ajk.2 func198 (by
 rintro⟨(l:List Sj_),(b:Int),_⟩ hp;refine ho (.ob (True)<|.ob (Br (0+l.length) 112)<|lpx (L45 l b) ((0:Int),([]++l,())) λ(y2:Int×List Sj_×PUnit) bk2=>.br (decide (y2.1<(l.length:Int))) (.cl fInRange (b,(0:Int),(1000:Int),()) λz2=>.br (z2.1) (.ob (inB y2.1 l.length)<|.cl AaK ((0:Int),wr ((l.getD y2.1.toNat default).left-b),()) λ(z3:Int×PUnit)=>.ob (inB y2.1 y2.2.1.length)<|.ob (y2.1.toNat<y2.2.1.length)<|.lt (List Sj_) (y2.2.1.modify y2.1.toNat λz=>(⟨z.to,z3.1,z.guess,z.bd⟩:Sj_)) λz4=>.ob (l=l)<|.ob (Value.int IntKind.i64 b=Value.int IntKind.i64 b)<|.ob (bk2 (w1 y2.1,(z4,())))<|.ok) (.lf Jb (y2.2.1,()))) (.lf Jb (y2.2.1,()))) ?_;refine Aa trivial λ_=>Aa ?_ λ_=>Ai ?_ λ(y2:Int×List Sj_×PUnit) i2=>Ab (λh3=>Ae trivial λ_=>(Ab (λh4=>Aa ?_ λ_=>Ae trivial λ_=>(Aa ?_ λ_=>Aa ?_ λ_=>DU (Aa rfl λ_=>Aa rfl λ_=>Aa ?_ λ_=>trivial))) (λh4=>lfY ?_))) (λh3=>lfY ?_)
 all_goals
  try simp only[L45,fInRange,AaK,Jb,std,Nat.reduceAdd] at *
  try have hln:y2.2.1.length=l.length:=by rw[i2.2.2,Qa4,Dm,Qc0,Qe3];omega
 ·omega
 ·exact⟨o_,o_,by simp[Jn]⟩
 ·omega
 ·omega
 ·omega
 ·rw[Ag o_,toNat1 o_,i2.2.2,Iw h4 o_ (by simp[moveOne,AaK])];exact⟨⟨o_,o_,rfl⟩,o_⟩
 ·rw[i2.2.2,OR h4]
 ·rw[i2.2.2,Qb0 o_,Qb1 o_,Qd3])
abbrev L46 (l:List Sj_) (b:Int):LInv:=⟨[⟨.s,15,true,.el .int⟩,⟨.s,5,true,.sl .conn⟩],λ_ (x:Int×List Sj_×Unit)=>0<=x.1/\x.1<=l.length/\x.2.1=moveConns (l.take x.1.toNat) b++l.drop x.1.toNat,λ(x:Int×List Sj_×Unit)=>l.length-x.1.toNat⟩
def Anr:=AmN.a Jb<|Fct.p (KP [0,1,4,5,6,14,15] [11,16]) (λ⟨l,b,_⟩=>lv [(5,L46 l b)]) AmN.2 func237 (by
 rintro⟨(l:List Sj_),(b:Int),_⟩ hp;refine ho (.cl fCopyConns (l,()) λz2=>.cl fInRange (b,(0:Int),(1000:Int),()) λz3=>.br (!z3.1) (.lf Jb (z2.1,())) (lpx (L46 l b) ((0:Int),(z2.1,())) λ(y3:Int×List Sj_×PUnit) bk3=>.br (decide (y3.1<(z2.1.length:Int))) (.ob (inB y3.1 y3.2.1.length)<|.ob (y3.1.toNat<y3.2.1.length)<|.ob (inB y3.1 y3.2.1.length)<|.ob (y3.1.toNat<y3.2.1.length)<|.lt (List Sj_) (y3.2.1.modify y3.1.toNat λz=>(⟨z.to,if wr ((y3.2.1.getD y3.1.toNat default).left-b)>0 then wr ((y3.2.1.getD y3.1.toNat default).left-b) else(0:Int),z.guess,z.bd⟩:Sj_)) λz4=>.ob (l=l)<|.ob (Value.int IntKind.i64 b=Value.int IntKind.i64 b)<|.ob (Value.int IntKind.i64 (z2.1.length:Int)=Value.int IntKind.i64 (z2.1.length:Int))<|.ob (bk3 (w1 y3.1,(z4,())))<|.ok) (.lf Jb (y3.2.1,())))) ?_;refine Ae ?_ λ_=>(Ae trivial λ_=>(Ab (λh2=>lfY ?_) (λh2=>Ai ?_ λ(y3:Int×List Sj_×PUnit) i3=>Ab (λh4=>Aa ?_ λ_=>Aa ?_ λ_=>Aa ?_ λ_=>Aa ?_ λ_=>DU (Aa rfl λ_=>Aa rfl λ_=>Aa rfl λ_=>Aa ?_ λ_=>trivial)) (λh4=>lfY ?_))))
 all_goals
  try simp only[Hv] at *
  try simp only[L46,fCopyConns,fInRange,Jb,std,Nat.reduceAdd] at *
  try have hln:y3.2.1.length=l.length:=by rw[i3.2.2,Qa4,Dm,Qc0,Qe3];omega
 ·omega
 ·rw[moveConns,h2];rfl
 ·exact⟨o_,o_,by simp[Jn]⟩
 ·omega
 ·omega
 ·omega
 ·omega
 ·rw[Ag o_,toNat1 o_];refine⟨⟨o_,o_,?_⟩,o_⟩;have hA:(moveConns (l.take y3.1.toNat) b).length=y3.1.toNat:=by rw[Dm,Qc0];omega
  have hget:y3.2.1.getD y3.1.toNat default=l.getD y3.1.toNat default:=by rw[i3.2.2,drop_cons (i:=y3.1.toNat) o_,getD_at hA]
  rw[hget,i3.2.2,Iw h2 o_];simp only[moveOne];congr 1;split<;>omega
 ·rw[i3.2.2,Qb0 o_,Qb1 o_,Qd3])
def sizeResponse (x:Sd_):Int:=x.body.size+20
def Cy:Fct:=⟨[aE .bd],[rI],λ(x:Sd_×Unit)=>x.1.body.size<=1000000000000,λ(x:Sd_×Unit)=>(sizeResponse x.1,())⟩
def AkR:=Anr.a Cy<|Fct.o [1,2] Anr.2 func257 (by
 rintro⟨(x:Sd_),_⟩ hp;refine ho (.lf Cy (wr ((x.body.size:Int)+20),())) ?_;refine lfY ?_;all_goals try simp only[Cy,std,Nat.reduceAdd,sizeResponse] at *
 rw[Ag o_])
def AnJ:=AkR.a Cy<|Fct.o [1,2] AkR.2 func292 (by
 rintro⟨(x:Sd_),_⟩ hp;refine ho (.lf Cy (wr ((x.body.size:Int)+20),())) ?_;refine lfY ?_;all_goals try simp only[Cy,std,Nat.reduceAdd,sizeResponse] at *
 rw[Ag o_])
def openConn (l:List Sj_) (a:Sb_) (x:Sd_) (g:Bool):List Sj_×Bool:=if(l.length:Int)>=3\/findConn a l 0>=0 then(l,false) else(l++[⟨a,sizeResponse x,g,x⟩],true)
def fOpen:Fct:=⟨[aL .conn,aE .addr,aE .bd,aB],[rL .conn,rB],λ(x:List Sj_×Sb_×Sd_×Bool×Unit)=>x.1.length<=1048576/\x.2.2.1.body.size<=1048576,λ(x:List Sj_×Sb_×Sd_×Bool×Unit)=>((openConn x.1 x.2.1 x.2.2.1 x.2.2.2.1).1,(openConn x.1 x.2.1 x.2.2.1 x.2.2.2.1).2,())⟩
def Ajr:=AnJ.a fOpen<|Fct.o (KP [0,3,5,6,8,9,10] [22]) AnJ.2 func192 (by
 rintro⟨(l:List Sj_),(a:Sb_),(x:Sd_),(g:Bool),_⟩ hp;refine ho (.ob (True)<|.ob (Br (0+List.length l) 112)<|.br (decide ((↑(List.length l):Int)>=3)) (.lf fOpen ([]++l,false,())) (.cl fFind (l,a,()) λ(z2:Int×PUnit)=>.br (decide (z2.1>=0)) (.lf fOpen ([]++l,false,())) (.cl Cy (x,()) λ(z3:Int×PUnit)=>.ob (True)<|.ob (Br (([]++l).length+[(⟨a,z3.1,g,x⟩:Sj_)].length) 112)<|.lf fOpen ([]++l++[(⟨a,z3.1,g,x⟩:Sj_)],true,())))) ?_;refine Aa trivial λ_=>Aa ?_ λ_=>Ab (λh2=>lfY ?_) (λh2=>Ae ?_ λ_=>(Ab (λh4=>lfY ?_) (λh4=>Ae ?_ λ_=>(Aa trivial λ_=>Aa ?_ λ_=>lfY ?_))))
 all_goals
  have hp1:l.length<=1048576:=hp.1;have hp3:x.body.size<=1048576:=hp.2;clear hp;try simp only[Hv] at *
  try simp only[fFind,fOpen,Cy,std,Nat.reduceAdd,fCopyConns,Qa4,Qa6,Qb7] at *
 all_goals first|trivial|omega|(simp[openConn,h2];done)|(simp[openConn,h4];done)|(have hh:¬ ((3:Int)<=(l.length:Int)\/0<=findConn a l 0):=by omega;simp[openConn,hh];done)|skip
 all_goals
  rw[openConn,Qa3 (show ¬ ((l.length:Int)>=3\/findConn a l 0>=0) by rintro(h|h)<;>omega)];exact⟨rfl,rfl⟩)
def Ala:=Ajr.a fOpen<|Fct.o (KP [0,3,5,6,8,9,10] [21]) Ajr.2 func231 (by
 rintro⟨(l:List Sj_),(a:Sb_),(x:Sd_),(g:Bool),_⟩ hp;refine ho (.cl fCopyConns (l,()) λz2=>.br (decide ((↑(List.length l):Int)>=3)) (.lf fOpen (z2.1,false,())) (.cl fFind (l,a,()) λ(z3:Int×PUnit)=>.br (decide (z3.1>=0)) (.lf fOpen (z2.1,false,())) (.cl Cy (x,()) λ(z4:Int×PUnit)=>.ob (True)<|.ob (Br (z2.1.length+[(⟨a,z4.1,g,x⟩:Sj_)].length) 112)<|.lf fOpen (z2.1++[(⟨a,z4.1,g,x⟩:Sj_)],true,())))) ?_;refine Ae ?_ λ_=>(Ab (λh2=>lfY ?_) (λh2=>Ae ?_ λ_=>(Ab (λh4=>lfY ?_) (λh4=>Ae ?_ λ_=>(Aa trivial λ_=>Aa ?_ λ_=>lfY ?_)))))
 all_goals
  have hp1:l.length<=1048576:=hp.1;have hp3:x.body.size<=1048576:=hp.2;clear hp;try simp only[Hv] at *
  try simp only[fCopyConns,fFind,fOpen,Cy,std,Nat.reduceAdd,Qa4,Qa6,Qb7] at *
 all_goals first|trivial|omega|(simp[openConn,h2];done)|(simp[openConn,h4];done)|(have hh:¬ ((3:Int)<=(l.length:Int)\/0<=findConn a l 0):=by omega;simp[openConn,hh];done)|skip
 all_goals
  rw[openConn,Qa3 (show ¬ ((l.length:Int)>=3\/findConn a l 0>=0) by rintro(h|h)<;>omega)];exact⟨rfl,rfl⟩)
def EZ:Fct:=⟨[.v (.sl .addr),.v (.el .addr)],[.el .int],λ(x_:(List Sb_)×Sb_×Unit)=>x_.1.length<=1000000000000000000,λ(x_:(List Sb_)×Sb_×Unit)=>(fidx (λc=>decide (c=x_.2.1)) x_.1 0,())⟩
abbrev AY (l:(List Sb_)) (a:Sb_):LInv:=⟨[⟨.s,8,true,.el .int⟩,⟨.b,3,true,.el .addr⟩],λ(z_ x_:Int×Sb_×Unit)=>(0<=x_.1/\x_.1<=l.length/\fidx (λc=>decide (c=a)) l 0=fidx (λc=>decide (c=a)) (l.drop x_.1.toNat) x_.1)/\x_.2.1=z_.2.1,λ(x_:Int×Sb_×Unit)=>l.length-x_.1.toNat⟩
def Ajo:=Ala.a EZ<|Fct.p (KP [0,3,4,5,7,8] [9,16]) (λ⟨l,a,_⟩=>lv [(2,AY l a)]) Ala.2 func396 (by
 rintro⟨(l:List Sb_),(a:Sb_),_⟩ hp;refine ho (lpx (AY l a) ((0:Int),(a,())) λ(y1:Int×Sb_×PUnit) bk1=>.br (decide (y1.1<(l.length:Int))) (.ob (inB y1.1 l.length)<|.br (y1.2.1.host==(l.getD y1.1.toNat default).host&&(y1.2.1.path==(l.getD y1.1.toNat default).path&&true)) (.lf EZ (y1.1,())) (.ob (l=l)<|.ob (Value.int IntKind.i64 (l.length:Int)=Value.int IntKind.i64 (l.length:Int))<|.ob (bk1 (w1 y1.1,(y1.2.1,())))<|.ok)) (.lf EZ ((-1:Int),()))) ?_;refine Ai ?_ λ(y1:Int×Sb_×PUnit) i1=>Ab (λh2=>Aa ?_ λ_=>Ab (λh4=>lfY ?_) (λh4=>Aa rfl λ_=>Aa rfl λ_=>Aa ?_ λ_=>trivial)) (λh2=>lfY ?_)
 all_goals
  try simp only[Dh] at *
  try simp only[AY,EZ,std,Nat.reduceAdd,fidx] at *
  try simp(disch:=omega) only[wrapId',toNat1] at *
  try simp(disch:=omega) only[Qa1,Qa3]
 all_goals first|trivial|omega|grind[wrapId',toNat1,drop_cons,drop_end,good_len,maxLen,fidx])
def C2:Fct:=⟨[.v (.sl .addr),.v (.el .addr)],[.el .bool],λ(x_:(List Sb_)×Sb_×Unit)=>x_.1.length<=1000000000000000000,λ(x_:(List Sb_)×Sb_×Unit)=>(x_.1.any λc=>decide (c=x_.2.1),())⟩
def Akk:=Ajo.a C2<|Fct.o [0,3,4] Ajo.2 func346 (by
 rintro⟨(l:List Sb_),(a:Sb_),_⟩ hp;refine ho (.cl EZ (l,a,()) λ(z2:Int×PUnit)=>.lf C2 (decide (z2.1>=0),())) ?_;refine Ae ?_ λ_=>(lfY ?_)
 all_goals try simp only[C2,EZ,std,Nat.reduceAdd] at *
 all_goals first|trivial|omega|(rw[Bool.eq_iff_iff];exact decide_eq_true_iff.trans (IQ _ _ _ o_)))
def fHasAddr:Fct:=⟨[.v (.sl .addr),.v (.el .addr)],[.el .bool],λ(x_:(List Sb_)×Sb_×Unit)=>x_.1.length<=1000000000000000000,λ(x_:(List Sb_)×Sb_×Unit)=>(x_.1.any λc=>decide (c=x_.2.1),())⟩
abbrev DA (l:(List Sb_)) (a:Sb_):LInv:=⟨[⟨.s,5,true,.el .int⟩,⟨.b,3,true,.el .addr⟩],λ(z_ x_:Int×Sb_×Unit)=>(0<=x_.1/\x_.1<=l.length/\l.any (λc=>decide (c=a))=(l.drop x_.1.toNat).any (λc=>decide (c=a)))/\x_.2.1=z_.2.1,λ(x_:Int×Sb_×Unit)=>l.length-x_.1.toNat⟩
def Ai2:=Akk.a fHasAddr<|Fct.p (KP [0,3,4,5] [9,17]) (λ⟨l,a,_⟩=>lv [(2,DA l a)]) Akk.2 func249 (by
 rintro⟨(l:List Sb_),(a:Sb_),_⟩ hp;refine ho (lpx (DA l a) ((0:Int),(a,())) λ(y1:Int×Sb_×PUnit) bk1=>.br (decide (y1.1<(l.length:Int))) (.ob (inB y1.1 l.length)<|.br ((l.getD y1.1.toNat default).host==y1.2.1.host&&((l.getD y1.1.toNat default).path==y1.2.1.path&&true)) (.lf fHasAddr (true,())) (.ob (l=l)<|.ob (bk1 (w1 y1.1,(y1.2.1,())))<|.ok)) (.lf fHasAddr (false,()))) ?_;refine Ai ?_ λ(y1:Int×Sb_×PUnit) i1=>Ab (λh2=>Aa ?_ λ_=>Ab (λh4=>lfY ?_) (λh4=>Aa rfl λ_=>Aa ?_ λ_=>trivial)) (λh2=>lfY ?_)
 all_goals
  try simp only[Dh] at *
  try simp only[DA,fHasAddr,std,Nat.reduceAdd] at *
  try simp(disch:=omega) only[wrapId',toNat1] at *
  try simp(disch:=omega) only[Qa1,Qa3]
 all_goals first|trivial|omega|grind[wrapId',toNat1,drop_cons,drop_end,good_len,maxLen])
def AkO:=Ai2.a fHasAddr<|Fct.o [0,3,4] Ai2.2 func284 (by
 rintro⟨(l:List Sb_),(a:Sb_),_⟩ hp;refine ho (.cl C2 (l,a,()) λz2=>.lf fHasAddr (z2.1,())) ?_;refine Ae ?_ λ_=>(lfY ?_)
 all_goals
  try simp only[Dh] at *
  try simp only[C2,fHasAddr,std,Nat.reduceAdd] at *
  try simp(disch:=omega) only[wrapId',toNat1] at *
  try simp(disch:=omega) only[Qa1,Qa3]
 all_goals first|trivial|omega|grind[wrapId',toNat1,drop_cons,drop_end,good_len,maxLen])
def withoutAddrs (d:List Sb_):List Sf_->List Sf_
 | []=>[]
 | r::l=>if d.any (λc=>decide (c=r.to)) then withoutAddrs d l else r::withoutAddrs d l
def BF:Fct:=⟨[.v (.sl .request),.v (.sl .addr)],[.sl .request],λ(x_:(List Sf_)×(List Sb_)×Unit)=>x_.1.length<=1000000000000/\x_.2.1.length<=1048576,λ(x_:(List Sf_)×(List Sb_)×Unit)=>(withoutAddrs x_.2.1 x_.1,())⟩
abbrev BK (l:(List Sf_)) (d:(List Sb_)):LInv:=⟨[⟨.s,5,true,.sl .request⟩,⟨.s,6,true,.el .int⟩],λ_ (x_:(List Sf_)×Int×Unit)=>0<=x_.2.1/\x_.2.1<=l.length/\x_.1.length<=x_.2.1/\withoutAddrs d l=x_.1++withoutAddrs d (l.drop x_.2.1.toNat),λ(x_:(List Sf_)×Int×Unit)=>l.length-x_.2.1.toNat⟩
def Anl:=AkO.a BF<|Fct.p (KP [0,1,4,5,6] [11,21]) (λ⟨l,d,_⟩=>lv [(3,BK l d)]) AkO.2 func186 (by
 rintro⟨(l:List Sf_),(d:List Sb_),_⟩ hp;refine ho (lpx (BK l d) ([],((0:Int),())) λ(y1:List Sf_×Int×PUnit) bk1=>.br (decide (y1.2.1<(l.length:Int))) (.ob (inB y1.2.1 l.length)<|.cl fHasAddr (d,(l.getD y1.2.1.toNat default).to,()) λz2=>.br (!z2.1) (.ob (inB y1.2.1 l.length)<|.ob (True)<|.ob (Br (y1.1.length+[l.getD y1.2.1.toNat default].length) 72)<|.ob (l=l)<|.ob (d=d)<|.ob (bk1 (y1.1++[l.getD y1.2.1.toNat default],(w1 y1.2.1,())))<|.ok) (.ob (l=l)<|.ob (d=d)<|.ob (bk1 (y1.1,(w1 y1.2.1,())))<|.ok)) (.lf BF (y1.1,()))) ?_;refine Ai ?_ λ(y1:List Sf_×Int×PUnit) i1=>Ab (λh2=>Aa ?_ λ_=>Ae ?_ λ_=>(Ab (λh5=>Aa ?_ λ_=>Aa trivial λ_=>Aa ?_ λ_=>Aa rfl λ_=>Aa rfl λ_=>Aa ?_ λ_=>trivial) (λh5=>Aa rfl λ_=>Aa rfl λ_=>Aa ?_ λ_=>trivial))) (λh2=>lfY ?_)
 all_goals
  try simp only[BK,fHasAddr,BF,std,Nat.reduceAdd,withoutAddrs] at *
  try simp(disch:=omega) only[wrapId',toNat1] at *
  try simp(disch:=omega) only[Qa1,Qa3]
 all_goals first|trivial|omega|grind[wrapId',toNat1,drop_cons,drop_end,good_len,maxLen,withoutAddrs,fHasAddr])
abbrev A6 (l:(List Sf_)) (d:(List Sb_)):LInv:=⟨[⟨.s,5,true,.sl .request⟩,⟨.s,11,true,.el .int⟩],λ_ (x_:(List Sf_)×Int×Unit)=>0<=x_.2.1/\x_.2.1<=l.length/\x_.1.length<=x_.2.1/\withoutAddrs d l=x_.1++withoutAddrs d (l.drop x_.2.1.toNat),λ(x_:(List Sf_)×Int×Unit)=>l.length-x_.2.1.toNat⟩
def Alj:=Anl.a BF<|Fct.p (KP [0,1,4,5,7,9,10,11] [12,19]) (λ⟨l,d,_⟩=>lv [(3,A6 l d)]) Anl.2 func226 (by
 rintro⟨(l:List Sf_),(d:List Sb_),_⟩ hp;refine ho (lpx (A6 l d) ([],((0:Int),())) λ(y1:List Sf_×Int×PUnit) bk1=>.br (decide (y1.2.1<(l.length:Int))) (.ob (inB y1.2.1 l.length)<|.cl fHasAddr (d,(l.getD y1.2.1.toNat default).to,()) λz2=>.br (!z2.1) (.ob (True)<|.ob (Br (y1.1.length+[l.getD y1.2.1.toNat default].length) 72)<|.ob (l=l)<|.ob (d=d)<|.ob (l=l)<|.ob (Value.int IntKind.i64 (l.length:Int)=Value.int IntKind.i64 (l.length:Int))<|.ob (bk1 (y1.1++[l.getD y1.2.1.toNat default],(w1 y1.2.1,())))<|.ok) (.ob (l=l)<|.ob (d=d)<|.ob (l=l)<|.ob (Value.int IntKind.i64 (l.length:Int)=Value.int IntKind.i64 (l.length:Int))<|.ob (bk1 (y1.1,(w1 y1.2.1,())))<|.ok)) (.lf BF (y1.1,()))) ?_;repeat' first|(guard_target =~ Out.holds _ _;first|refine Ai (li:=A6 l d) ?_ λ(y1:List Sf_×Int×PUnit) i1=>?_|refine lfY ?_|refine Ab (λ_=>?_) λ_=>?_|refine Ae ?_ λ_=>?_|refine Aa ?_ λ_=>?_)|exact trivial
 all_goals
  try simp only[A6,fHasAddr,BF,std,Nat.reduceAdd,withoutAddrs] at *
  try simp(disch:=omega) only[wrapId',toNat1] at *
  try simp(disch:=omega) only[Qa1,Qa3]
 all_goals first|trivial|omega|grind[wrapId',toNat1,drop_cons,drop_end,good_len,maxLen,withoutAddrs,fHasAddr])
def Hr (d:List Sb_) (l:List Sf_):(withoutAddrs d l).length<=l.length:=by
 induction l<;>grind[withoutAddrs]
def FI:Fct:=⟨[.v (.sl .str),.v (.el .str)],[.el .int],λ(x_:(List ByteArray)×ByteArray×Unit)=>x_.1.length<=1000000000000000000,λ(x_:(List ByteArray)×ByteArray×Unit)=>(fidx (λc=>decide (c=x_.2.1)) x_.1 0,())⟩
abbrev A8 (l:(List ByteArray)) (a:ByteArray):LInv:=⟨[⟨.s,8,true,.el .int⟩],λ_ (x_:Int×Unit)=>0<=x_.1/\x_.1<=l.length/\fidx (λc=>decide (c=a)) l 0=fidx (λc=>decide (c=a)) (l.drop x_.1.toNat) x_.1,λ(x_:Int×Unit)=>l.length-x_.1.toNat⟩
def Alb:=Alj.a FI<|Fct.p (KP [0,1,4,5,7,8] [9,16]) (λ⟨l,a,_⟩=>lv [(2,A8 l a)]) Alj.2 func437 (by
 rintro⟨(l:List ByteArray),(a:ByteArray),_⟩ hp;refine ho (lpx (A8 l a) ((0:Int),()) λ(y1:Int×PUnit) bk1=>.br (decide (y1.1<(l.length:Int))) (.ob (inB y1.1 l.length)<|.br (a.toList==(l.getD y1.1.toNat default).toList) (.lf FI (y1.1,())) (.ob (l=l)<|.ob (Value.string a=Value.string a)<|.ob (Value.int IntKind.i64 (l.length:Int)=Value.int IntKind.i64 (l.length:Int))<|.ob (bk1 (w1 y1.1,()))<|.ok)) (.lf FI ((-1:Int),()))) ?_;refine Ai ?_ λ(y1:Int×PUnit) i1=>Ab (λh2=>Aa ?_ λ_=>Ab (λh4=>lfY ?_) (λh4=>Aa rfl λ_=>Aa rfl λ_=>Aa rfl λ_=>Aa ?_ λ_=>trivial)) (λh2=>lfY ?_)
 all_goals
  try simp only[AgV,AgG] at *
  try simp only[A8,FI,std,Nat.reduceAdd,fidx] at *
  try simp(disch:=omega) only[wrapId',toNat1] at *
  try simp(disch:=omega) only[Qa1,Qa3]
 all_goals first|trivial|omega|grind[wrapId',toNat1,drop_cons,drop_end,good_len,maxLen,fidx])
def fContains_str:Fct:=⟨[.v (.sl .str),.v (.el .str)],[.el .bool],λ(x_:(List ByteArray)×ByteArray×Unit)=>x_.1.length<=1000000000000000000,λ(x_:(List ByteArray)×ByteArray×Unit)=>(x_.1.any λc=>decide (c=x_.2.1),())⟩
def AmH:=Alb.a fContains_str<|Fct.o [0,1,4] Alb.2 func404 (by
 rintro⟨(l:List ByteArray),(a:ByteArray),_⟩ hp;refine ho (.cl FI (l,a,()) λ(z2:Int×PUnit)=>.lf fContains_str (decide (z2.1>=0),())) ?_;refine Ae ?_ λ_=>(lfY ?_)
 all_goals try simp only[fContains_str,FI,std,Nat.reduceAdd] at *
 all_goals first|trivial|omega|(rw[Bool.eq_iff_iff];exact decide_eq_true_iff.trans (IQ _ _ _ o_)))
def fHas9:Fct:=⟨[.v (.sl .str),.v (.el .str)],[.el .bool],λ(x_:(List ByteArray)×ByteArray×Unit)=>x_.1.length<=1000000000000000000,λ(x_:(List ByteArray)×ByteArray×Unit)=>(x_.1.any λc=>decide (c=x_.2.1),())⟩
abbrev En (l:(List ByteArray)) (s:ByteArray):LInv:=⟨[⟨.s,5,true,.el .int⟩],λ_ (x_:Int×Unit)=>0<=x_.1/\x_.1<=l.length/\l.any (λc=>decide (c=s))=(l.drop x_.1.toNat).any (λc=>decide (c=s)),λ(x_:Int×Unit)=>l.length-x_.1.toNat⟩
def Ajp:=AmH.a fHas9<|Fct.p (KP [0,1,4,5] [9,17]) (λ⟨l,s,_⟩=>lv [(2,En l s)]) AmH.2 func376 (by
 rintro⟨(l:List ByteArray),(s:ByteArray),_⟩ hp;refine ho (lpx (En l s) ((0:Int),()) λ(y1:Int×PUnit) bk1=>.br (decide (y1.1<(l.length:Int))) (.ob (inB y1.1 l.length)<|.br ((l.getD y1.1.toNat default).toList==s.toList) (.lf fHas9 (true,())) (.ob (l=l)<|.ob (Value.string s=Value.string s)<|.ob (bk1 (w1 y1.1,()))<|.ok)) (.lf fHas9 (false,()))) ?_;refine Ai ?_ λ(y1:Int×PUnit) i1=>Ab (λh2=>Aa ?_ λ_=>Ab (λh4=>lfY ?_) (λh4=>Aa rfl λ_=>Aa rfl λ_=>Aa ?_ λ_=>trivial)) (λh2=>lfY ?_)
 all_goals
  try simp only[En,fHas9,std,Nat.reduceAdd] at *
  try simp(disch:=omega) only[wrapId',toNat1] at *
  try simp(disch:=omega) only[Qa1,Qa3]
 all_goals first|trivial|omega|grind[wrapId',toNat1,drop_cons,drop_end,good_len,maxLen])
def fIsComplete:Fct:=⟨[.v (.el .page)],[.el .bool],λ(x_:Sa_×Unit)=>True,λ(x_:Sa_×Unit)=>(x_.1.loaded,())⟩
def Ans:=Ajp.a fIsComplete<|Fct.o [1,2] Ajp.2 func111 (by
 rintro⟨(p:Sa_),_⟩ hp;refine ho (.lf fIsComplete (p.loaded,())) ?_;refine lfY ?_;all_goals try simp only[fIsComplete,std,Nat.reduceAdd] at *
 all_goals first|trivial|omega|(simp_all;done)|(simp_all;omega)|grind)
def Ajq:=Ans.a fIsComplete<|Fct.o [1,2] Ans.2 func130 (by
 rintro⟨(p:Sa_),_⟩ hp;refine ho (.lf fIsComplete (p.loaded,())) ?_;refine lfY ?_;all_goals try simp only[fIsComplete,std,Nat.reduceAdd] at *
 all_goals first|trivial|omega|(simp_all;done)|(simp_all;omega)|grind)
def blockedOn (p:Sa_):Sb_×Bool:=if 1<=p.block/\p.block<=p.bf.length then((p.bf.getD (p.block-1).toNat default).to,true) else(default,false)
def Dk:Fct:=⟨[.v (.el .page)],[.el .addr,.el .bool],λ(x_:Sa_×Unit)=>x_.1.bf.length<=1000000000000/\-9223372036854775808<=x_.1.block/\x_.1.block<=9223372036854775807,λ(x_:Sa_×Unit)=>((blockedOn x_.1).1,(blockedOn x_.1).2,())⟩
def Akl:=Ajq.a Dk<|Fct.o (KP [1,2,3] [10]) Ajq.2 func316 (by
 rintro⟨(p:Sa_),_⟩ hp;refine ho (.cl fInRange (p.block,(1:Int),(p.bf.length:Int),()) λz2=>.br (!z2.1) (.lf Dk (default,false,())) (.ob (0<=wr (p.block-(1:Int))/\wr (p.block-(1:Int))<(p.bf.length:Int))<|.lf Dk ((p.bf.getD (wr (p.block-(1:Int))).toNat default).to,true,()))) ?_;refine Ae trivial λ_=>(Ab (λh1=>lfY ?_) (λh1=>Aa ?_ λ_=>lfY ?_))
 all_goals
  try simp only[Dk,fInRange,std,Nat.reduceAdd,blockedOn,inRange] at *
  try simp(disch:=omega) only[wrapId',toNat1] at *
  try simp(disch:=omega) only[Qa1,Qa3]
 all_goals first|trivial|omega|grind[wrapId',toNat1,drop_cons,drop_end,good_len,maxLen,blockedOn,fInRange,inRange])
def Ak9:=Akl.a Dk<|Fct.o (KP [1,2,3,4] [21]) Akl.2 func348 (by
 rintro⟨(p:Sa_),_⟩ hp;refine ho (.br (p.block==0) (.lf Dk (default,false,())) (.br (decide (wr (p.block-(1:Int))<0)) (.lf Dk (default,false,())) (.br (decide (wr (p.block-(1:Int))>=(p.bf.length:Int))) (.lf Dk (default,false,())) (.ob (0<=wr (p.block-(1:Int))/\wr (p.block-(1:Int))<(p.bf.length:Int))<|.lf Dk ((p.bf.getD (wr (p.block-(1:Int))).toNat default).to,true,()))))) ?_;refine Ab (λh1=>lfY ?_) (λh1=>Ab (λh2=>lfY ?_) (λh2=>Ab (λh3=>lfY ?_) (λh3=>Aa ?_ λ_=>lfY ?_)));all_goals
  try simp only[Dk,std,Nat.reduceAdd,blockedOn] at *
  try simp only[IntKind.wrap_i64] at *
  try simp(disch:=omega) only[Qa1,Qa3]
 all_goals first|trivial|omega|skip
 rw[show((p.block-1+9223372036854775808) % 18446744073709551616-9223372036854775808).toNat=(p.block-1).toNat from o_];trivial)
def classOf (p:Sa_) (r:Sf_):Int:=if(blockedOn p).2=true/\(blockedOn p).1=r.to then 0 else if r.kind=3 then 1 else if r.kind=2 then 2 else if r.kind=5 then 3 else if r.kind=4 then 4 else 5
def fClassOf:Fct:=⟨[.v (.el .page),.v (.el .request)],[.el .int],λ(x_:Sa_×Sf_×Unit)=>x_.1.bf.length<=1000000000000/\-9223372036854775808<=x_.1.block/\x_.1.block<=9223372036854775807,λ(x_:Sa_×Sf_×Unit)=>(classOf x_.1 x_.2.1,())⟩
theorem q0 (p:Sa_) (r:Sf_) (hp:fClassOf.pre (p,r,())):Out.holds (fClassOf.ctr (p,r,())).post (let q0_:Out:=.br (r.kind==3) (.lf fClassOf ((1:Int),())) (.br (r.kind==2) (.lf fClassOf ((2:Int),())) (.br (r.kind==5) (.lf fClassOf ((3:Int),())) (.br (r.kind==4) (.lf fClassOf ((4:Int),())) (.lf fClassOf ((5:Int),())))));.cl Dk (p,()) λz2=>.br (z2.2.1) (.br (z2.1.host==r.to.host&&(z2.1.path==r.to.path&&true)) (.lf fClassOf ((0:Int),())) q0_) q0_):=by
 repeat' (guard_target =~ Out.holds _ _;first|refine lfY ?_|refine Ab (λ_=>?_) λ_=>?_|refine Ae ?_ λ_=>?_)
 all_goals
  try simp only[Dh] at *
  try simp only[Dk,fClassOf,std,Nat.reduceAdd,classOf] at *
  try simp(disch:=omega) only[wrapId',toNat1] at *
  try simp(disch:=omega) only[Qa1,Qa3]
 all_goals first|trivial|omega|grind[wrapId',toNat1,drop_cons,drop_end,good_len,maxLen,classOf]
def AlN:=Ak9.a fClassOf<|Fct.o (KP [2,3,4,5,6,20] [18,21,23,25,27]) Ak9.2 func254 (by
 rintro⟨(p:Sa_),(r:Sf_),_⟩ hp;exact ho _ (q0 p r hp))
def AmI:=AlN.a fClassOf<|Fct.o (KP [2,3,4,5,6,20] [18,21,23,25,27]) AlN.2 func289 (by
 rintro⟨(p:Sa_),(r:Sf_),_⟩ hp;exact ho _ (q0 p r hp))
def H0 {l:List Su_} {i:Nat} (h:i<l.length):(l.getD i default).bo.length+l.length<=szL szNode l:=by
 have:=DZ szNode h;have h2:=Ac Bm (l.getD i default).bo;simp only[szNode] at this;omega
def Hk {l:List Sh_} {i:Nat} (h:i<l.length):(l.getD i default).bo.length+l.length<=szL szToken l:=by
 have:=DZ szToken h;have h2:=Ac Bm (l.getD i default).bo;simp only[szToken] at this;omega
def pickReq (p:Sa_):List Sf_->Int->Int->Int->Int
 | [],_,best,_=>best
 | r::l,i,best,bc=>if best<0\/classOf p r<bc then pickReq p l (i+1) i (classOf p r) else pickReq p l (i+1) best bc
def B8:Fct:=⟨[.v (.el .page),.v (.sl .request)],[.el .int],λ(x_:Sa_×(List Sf_)×Unit)=>x_.1.bf.length<=1000000000000/\(-9223372036854775808<=x_.1.block/\x_.1.block<=9223372036854775807)/\x_.2.1.length<=1000000000000,λ(x_:Sa_×(List Sf_)×Unit)=>(pickReq x_.1 x_.2.1 0 (-1) 0,())⟩
abbrev Bc (p:Sa_) (l:(List Sf_)):LInv:=⟨[⟨.s,5,true,.el .int⟩,⟨.s,6,true,.el .int⟩,⟨.b,2,false,.el .page⟩],λ(z_ x_:Int×Int×Sa_×Unit)=>(0<=x_.2.1/\x_.2.1<=l.length/\-1<=x_.1/\x_.1<x_.2.1/\(x_.1 = -1->x_.2.1=0)/\pickReq p (l.drop x_.2.1.toNat) x_.2.1 x_.1 (if x_.1<0 then 0 else classOf p (l.getD x_.1.toNat default))=pickReq p l 0 (-1) 0)/\x_.2.2.1=z_.2.2.1,λ(x_:Int×Int×Sa_×Unit)=>l.length-x_.2.1.toNat⟩
def AmC:=AmI.a B8<|Fct.p (KP [1,2,4,5,6] [10,29]) (λ⟨p,l,_⟩=>lv [(3,Bc p l)]) AmI.2 func189 (by
 rintro⟨(p:Sa_),(l:List Sf_),_⟩ hp;refine ho (let q1_:=Value.int IntKind.i64 0=Value.int IntKind.i64 (0:Int);lpx (Bc p l) ((-1:Int),((0:Int),(p,()))) λ(y1:Int×Int×Sa_×PUnit) bk1=>let q0_:Out:=.ob (l=l)<|.ob q1_<|.ob (bk1 (y1.2.1,(w1 y1.2.1,(y1.2.2.1,()))))<|.ok;.br (decide (y1.2.1<(l.length:Int))) (.br (decide (y1.1<0)) q0_ (.ob (inB y1.2.1 l.length)<|.cl fClassOf (y1.2.2.1,l.getD y1.2.1.toNat default,()) λ(z2:Int×PUnit)=>.ob (inB y1.1 l.length)<|.cl fClassOf (y1.2.2.1,l.getD y1.1.toNat default,()) λ(z3:Int×PUnit)=>.br (decide (z2.1<z3.1)) q0_ (.ob (l=l)<|.ob q1_<|.ob (bk1 (y1.1,(w1 y1.2.1,(y1.2.2.1,()))))<|.ok))) (.lf B8 (y1.1,()))) ?_;repeat' first|(guard_target =~ Out.holds _ _;first|refine Ai (li:=Bc p l) ?_ λ(y1:Int×Int×Sa_×PUnit) i1=>?_|refine lfY ?_|refine Ab (λ_=>?_) λ_=>?_|refine Ae ?_ λ_=>?_|refine Aa ?_ λ_=>?_)|exact trivial
 all_goals
  try simp only[Bc,fClassOf,B8,std,Nat.reduceAdd,pickReq] at *
  try simp(disch:=omega) only[wrapId',toNat1] at *
  try simp(disch:=omega) only[Qa1,Qa3]
 all_goals first|trivial|omega|grind[wrapId',toNat1,drop_cons,drop_end,good_len,maxLen,pickReq,fClassOf])
abbrev Bb (p:Sa_) (l:(List Sf_)):LInv:=⟨[⟨.s,5,true,.el .int⟩,⟨.s,10,true,.el .int⟩,⟨.b,2,false,.el .page⟩],λ(z_ x_:Int×Int×Sa_×Unit)=>(0<=x_.2.1/\x_.2.1<=l.length/\-1<=x_.1/\x_.1<x_.2.1/\(x_.1 = -1->x_.2.1=0)/\pickReq p (l.drop x_.2.1.toNat) x_.2.1 x_.1 (if x_.1<0 then 0 else classOf p (l.getD x_.1.toNat default))=pickReq p l 0 (-1) 0)/\x_.2.2.1=z_.2.2.1,λ(x_:Int×Int×Sa_×Unit)=>l.length-x_.2.1.toNat⟩
def AkJ:=AmC.a B8<|Fct.p (KP [1,2,4,5,6,7,8,9,10] [11,28]) (λ⟨p,l,_⟩=>lv [(3,Bb p l)]) AmC.2 func228 (by
 rintro⟨(p:Sa_),(l:List Sf_),_⟩ hp;refine ho (let q3_:=(l.length:Int);let q2_:=Value.int IntKind.i64 0=Value.int IntKind.i64 (0:Int);let q1_:=Value.int IntKind.i64 q3_=Value.int IntKind.i64 q3_;lpx (Bb p l) ((-1:Int),((0:Int),(p,()))) λ(y1:Int×Int×Sa_×PUnit) bk1=>let q0_:Out:=.ob (l=l)<|.ob q2_<|.ob (l=l)<|.ob q1_<|.ob (bk1 (y1.2.1,(w1 y1.2.1,(y1.2.2.1,()))))<|.ok;.br (decide (y1.2.1<q3_)) (.ob (inB y1.2.1 l.length)<|.br (decide (y1.1<0)) q0_ (.cl fClassOf (y1.2.2.1,l.getD y1.2.1.toNat default,()) λ(z2:Int×PUnit)=>.ob (inB y1.1 l.length)<|.cl fClassOf (y1.2.2.1,l.getD y1.1.toNat default,()) λ(z3:Int×PUnit)=>.br (decide (z2.1<z3.1)) q0_ (.ob (l=l)<|.ob q2_<|.ob (l=l)<|.ob q1_<|.ob (bk1 (y1.1,(w1 y1.2.1,(y1.2.2.1,()))))<|.ok))) (.lf B8 (y1.1,()))) ?_;repeat' first|(guard_target =~ Out.holds _ _;first|refine Ai (li:=Bb p l) ?_ λ(y1:Int×Int×Sa_×PUnit) i1=>?_|refine lfY ?_|refine Ab (λ_=>?_) λ_=>?_|refine Ae ?_ λ_=>?_|refine Aa ?_ λ_=>?_)|exact trivial
 all_goals
  try simp only[Bb,fClassOf,B8,std,Nat.reduceAdd,pickReq] at *
  try simp(disch:=omega) only[wrapId',toNat1] at *
  try simp(disch:=omega) only[Qa1,Qa3]
 all_goals first|trivial|omega|grind[wrapId',toNat1,drop_cons,drop_end,good_len,maxLen,pickReq,fClassOf])
def fUnused:Fct:=⟨[.v (.sl .guess)],[.el .int],λ(x_:(List Sp_)×Unit)=>x_.1.length<=4194304,λ(x_:(List Sp_)×Unit)=>(countIf (λg=>!g.used) x_.1,())⟩
abbrev CA (l:(List Sp_)):LInv:=⟨[⟨.s,3,true,.el .int⟩,⟨.s,4,true,.el .int⟩],λ_ (x_:Int×Int×Unit)=>0<=x_.2.1/\x_.2.1<=l.length/\0<=x_.1/\x_.1<=x_.2.1/\x_.1+countIf (λg=>!g.used) (l.drop x_.2.1.toNat)=countIf (λg=>!g.used) l,λ(x_:Int×Int×Unit)=>l.length-x_.2.1.toNat⟩
def Alk:=AkJ.a fUnused<|Fct.p (KP [0,2,3,4] [8,16]) (λ⟨l,_⟩=>lv [(3,CA l)]) AkJ.2 func193 (by
 rintro⟨(l:List Sp_),_⟩ hp;refine ho (lpx (CA l) ((0:Int),((0:Int),())) λ(y1:Int×Int×PUnit) bk1=>.br (decide (y1.2.1<(l.length:Int))) (.ob (inB y1.2.1 l.length)<|.br (!(l.getD y1.2.1.toNat default).used) (.ob (l=l)<|.ob (Value.int IntKind.i64 0=Value.int IntKind.i64 (0:Int))<|.ob (bk1 (w1 y1.1,(w1 y1.2.1,())))<|.ok) (.ob (l=l)<|.ob (Value.int IntKind.i64 0=Value.int IntKind.i64 (0:Int))<|.ob (bk1 (y1.1,(w1 y1.2.1,())))<|.ok)) (.lf fUnused (y1.1,()))) ?_;refine Ai ?_ λ(y1:Int×Int×PUnit) i1=>Ab (λh2=>Aa ?_ λ_=>Ab (λh4=>Aa rfl λ_=>Aa rfl λ_=>Aa ?_ λ_=>trivial) (λh4=>Aa rfl λ_=>Aa rfl λ_=>Aa ?_ λ_=>trivial)) (λh2=>lfY ?_)
 all_goals
  try simp only[CA,fUnused,std,Nat.reduceAdd,countIf,countIf_le] at *
  try simp(disch:=omega) only[wrapId',toNat1] at *
  try simp(disch:=omega) only[Qa1,Qa3]
 all_goals first|trivial|omega|grind[wrapId',toNat1,drop_cons,drop_end,good_len,maxLen,countIf,countIf_le])
abbrev Bt (l:(List Sp_)):LInv:=⟨[⟨.s,3,true,.el .int⟩,⟨.s,8,true,.el .int⟩],λ_ (x_:Int×Int×Unit)=>0<=x_.2.1/\x_.2.1<=l.length/\0<=x_.1/\x_.1<=x_.2.1/\x_.1+countIf (λg=>!g.used) (l.drop x_.2.1.toNat)=countIf (λg=>!g.used) l,λ(x_:Int×Int×Unit)=>l.length-x_.2.1.toNat⟩
def AmJ:=Alk.a fUnused<|Fct.p (KP [0,2,3,5,6,7,8] [9,14]) (λ⟨l,_⟩=>lv [(3,Bt l)]) Alk.2 func232 (by
 rintro⟨(l:List Sp_),_⟩ hp;refine ho (let q2_:=(l.length:Int);let q1_:=Value.int IntKind.i64 0=Value.int IntKind.i64 (0:Int);let q0_:=Value.int IntKind.i64 q2_=Value.int IntKind.i64 q2_;lpx (Bt l) ((0:Int),((0:Int),())) λ(y1:Int×Int×PUnit) bk1=>.br (decide (y1.2.1<q2_)) (.ob (inB y1.2.1 l.length)<|.br (!(l.getD y1.2.1.toNat default).used) (.ob (l=l)<|.ob q1_<|.ob (l=l)<|.ob q0_<|.ob (bk1 (w1 y1.1,(w1 y1.2.1,())))<|.ok) (.ob (l=l)<|.ob q1_<|.ob (l=l)<|.ob q0_<|.ob (bk1 (y1.1,(w1 y1.2.1,())))<|.ok)) (.lf fUnused (y1.1,()))) ?_;repeat' first|(guard_target =~ Out.holds _ _;first|refine Ai (li:=Bt l) ?_ λ(y1:Int×Int×PUnit) i1=>?_|refine lfY ?_|refine Ab (λ_=>?_) λ_=>?_|refine Aa ?_ λ_=>?_)|exact trivial
 all_goals
  try simp only[Bt,fUnused,std,Nat.reduceAdd,countIf,countIf_le] at *
  try simp(disch:=omega) only[wrapId',toNat1] at *
  try simp(disch:=omega) only[Qa1,Qa3]
 all_goals first|trivial|omega|grind[wrapId',toNat1,drop_cons,drop_end,good_len,maxLen,countIf,countIf_le])
def Cp:Fct:=⟨[.v (.el .loader)],[.el .bool],λ(x_:Sc_×Unit)=>True,λ(x_:Sc_×Unit)=>(x_.1.page.loaded&&decide (x_.1.parts.length=0),())⟩
theorem q1 (l:Sc_) (hp:Cp.pre (l,())):Out.holds (Cp.ctr (l,())).post (.cl fIsComplete (l.page,()) λz2=>.br (z2.1) (.lf Cp ((l.parts.length:Int)==0,())) (.lf Cp (false,()))):=by
 refine Ae trivial λ_=>(Ab (λh1=>lfY ?_) (λh1=>lfY ?_))
 all_goals
  try simp only[fIsComplete,Cp,std,Nat.reduceAdd] at *
  try simp(disch:=omega) only[wrapId',toNat1] at *
  try simp(disch:=omega) only[Qa1,Qa3]
 all_goals first|trivial|omega|grind[wrapId',toNat1,drop_cons,drop_end,good_len,maxLen,fIsComplete]
def Am0:=AmJ.a Cp<|Fct.o [1,2] AmJ.2 func69 (by
 rintro⟨(l:Sc_),_⟩ hp;exact ho _ (q1 l hp))
def Anw:=Am0.a Cp<|Fct.o [1,2] Am0.2 func78 (by
 rintro⟨(l:Sc_),_⟩ hp;exact ho _ (q1 l hp))
def fCopyAttrs:Fct:=⟨[.v (.sl .attr)],[.sl .attr],λ(x_:(List St_)×Unit)=>x_.1.length<=1099511627776,λ(x_:(List St_)×Unit)=>(x_.1,())⟩
def AjS:=Anw.a fCopyAttrs<|Fct.o [0,2] Anw.2 func182 (by
 rintro⟨(l:List St_),_⟩ hp;refine ho (.ob (True)<|.ob (Br (0+List.length l) 32)<|.lf fCopyAttrs ([]++l,())) ?_;refine Aa trivial λ_=>Aa ?_ λ_=>lfY ?_
 all_goals
  try simp only[fCopyAttrs,std,Nat.reduceAdd] at *
  try simp(disch:=omega) only[wrapId',toNat1] at *
  try simp(disch:=omega) only[Qa1,Qa3]
 all_goals first|trivial|omega|grind[wrapId',toNat1,drop_cons,drop_end,good_len,maxLen])
def fCopyToken:Fct:=⟨[.v (.el .token)],[.el .token],λ(x_:Sh_×Unit)=>x_.1.bo.length<=1099511627776,λ(x_:Sh_×Unit)=>(x_.1,())⟩
def Akb:=AjS.a fCopyToken<|Fct.o [1,2] AjS.2 func222 (by
 rintro⟨(t:Sh_),_⟩ hp;refine ho (.ob (True)<|.ob (Br (0+t.bo.length) 32)<|.lf fCopyToken (⟨t.kind,t.name,[]++t.bo,t.text⟩,())) ?_;refine Aa trivial λ_=>Aa ?_ λ_=>lfY ?_
 all_goals
  try simp only[fCopyToken,std,Nat.reduceAdd] at *
  try simp(disch:=omega) only[wrapId',toNat1] at *
  try simp(disch:=omega) only[Qa1,Qa3]
 all_goals first|trivial|omega|grind[wrapId',toNat1,drop_cons,drop_end,good_len,maxLen])
def fCopyTokens:Fct:=⟨[.v (.sl .token)],[.sl .token],λ(x_:(List Sh_)×Unit)=>szL szToken x_.1<=1099511627776,λ(x_:(List Sh_)×Unit)=>(x_.1,())⟩
abbrev Cz (l:(List Sh_)):LInv:=⟨[⟨.s,3,true,.sl .token⟩,⟨.s,4,true,.el .int⟩],λ_ (x_:(List Sh_)×Int×Unit)=>0<=x_.2.1/\x_.2.1<=l.length/\x_.1=l.take x_.2.1.toNat,λ(x_:(List Sh_)×Int×Unit)=>l.length-x_.2.1.toNat⟩
def Amf:=Akb.a fCopyTokens<|Fct.p (KP [0,2,3,4,5] [10]) (λ⟨l,_⟩=>lv [(3,Cz l)]) Akb.2 func147 (by
 rintro⟨(l:List Sh_),_⟩ hp;refine ho (lpx (Cz l) ([],((0:Int),())) λ(y1:List Sh_×Int×PUnit) bk1=>let q2_:=inB y1.2.1 l.length;let q0_:=l.getD y1.2.1.toNat default;.br (decide (y1.2.1<(l.length:Int))) (.ob q2_<|.ob q2_<|.cl fCopyAttrs (q0_.bo,()) λz2=>let q1_:=(⟨q0_.kind,q0_.name,z2.1,q0_.text⟩:Sh_);.ob (Br (y1.1.length+[q1_].length) 64)<|.ob (l=l)<|.ob (bk1 (y1.1++[q1_],(w1 y1.2.1,())))<|.ok) (.lf fCopyTokens (y1.1,()))) ?_;refine Ai ?_ λ(y1:List Sh_×Int×PUnit) i1=>Ab (λh2=>Aa ?_ λ_=>Aa ?_ λ_=>Ae ?_ λ_=>(Aa ?_ λ_=>Aa rfl λ_=>Aa ?_ λ_=>trivial)) (λh2=>lfY ?_)
 all_goals
  have hl:=Ac szToken l;try have hg:=Hk (l:=l) (i:=y1.2.1.toNat)
  try have hg:=Hk (l:=l) (i:=y2.2.1.toNat)
  try simp only[Cz,fCopyAttrs,fCopyTokens,std,Nat.reduceAdd,fCopyToken,take_succ,take_end] at *
  try simp(disch:=omega) only[wrapId',toNat1] at *
  try simp(disch:=omega) only[Qa1,Qa3]
 all_goals first|trivial|omega|grind[wrapId',toNat1,drop_cons,drop_end,good_len,maxLen,fCopyAttrs,fCopyToken,take_succ,take_end])
abbrev Cj (l:(List Sh_)):LInv:=⟨[⟨.s,3,true,.sl .token⟩,⟨.s,9,true,.el .int⟩],λ_ (x_:(List Sh_)×Int×Unit)=>0<=x_.2.1/\x_.2.1<=l.length/\x_.1=l.take x_.2.1.toNat,λ(x_:(List Sh_)×Int×Unit)=>l.length-x_.2.1.toNat⟩
def Alw:=Amf.a fCopyTokens<|Fct.p (KP [0,2,3,5,7,8,9] [10]) (λ⟨l,_⟩=>lv [(3,Cj l)]) Amf.2 func169 (by
 rintro⟨(l:List Sh_),_⟩ hp;refine ho (lpx (Cj l) ([],((0:Int),())) λ(y1:List Sh_×Int×PUnit) bk1=>.br (decide (y1.2.1<(l.length:Int))) (.ob (inB y1.2.1 l.length)<|.cl fCopyToken (l.getD y1.2.1.toNat default,()) λz2=>.ob (Br (y1.1.length+[z2.1].length) 64)<|.ob (l=l)<|.ob (l=l)<|.ob (Value.int IntKind.i64 (l.length:Int)=Value.int IntKind.i64 (l.length:Int))<|.ob (bk1 (y1.1++[z2.1],(w1 y1.2.1,())))<|.ok) (.lf fCopyTokens (y1.1,()))) ?_;refine Ai ?_ λ(y1:List Sh_×Int×PUnit) i1=>Ab (λh2=>Aa ?_ λ_=>Ae ?_ λ_=>(Aa ?_ λ_=>Aa rfl λ_=>Aa rfl λ_=>Aa rfl λ_=>Aa ?_ λ_=>trivial)) (λh2=>lfY ?_)
 all_goals
  have hl:=Ac szToken l;try have hg:=Hk (l:=l) (i:=y1.2.1.toNat)
  try have hg:=Hk (l:=l) (i:=y2.2.1.toNat)
  try simp only[Cj,fCopyToken,fCopyTokens,std,Nat.reduceAdd,fCopyAttrs,take_succ,take_end] at *
  try simp(disch:=omega) only[wrapId',toNat1] at *
  try simp(disch:=omega) only[Qa1,Qa3]
 all_goals first|trivial|omega|grind[wrapId',toNat1,drop_cons,drop_end,good_len,maxLen,fCopyAttrs,fCopyToken,take_succ,take_end])
theorem builder_take {b:Se_} {n:Nat} (h:b.bi.length<=n):(⟨b.bi.take n,b.bl⟩:Se_)=b:=by rw[Qb0 h]
def fCopyBuilder:Fct:=⟨[.v (.el .ba)],[.el .ba],λ(x_:Se_×Unit)=>szBuilder x_.1<=1099511627776,λ(x_:Se_×Unit)=>(x_.1,())⟩
abbrev CX (b:Se_):LInv:=⟨[⟨.b,3,true,.el .ba⟩,⟨.s,4,true,.el .int⟩,⟨.b,1,false,.el .ba⟩,⟨.b,2,true,.el .ba⟩],λ(z_ x_:Se_×Int×Se_×Se_×Unit)=>((0<=x_.2.1/\x_.2.1<=b.bi.length/\x_.1=⟨b.bi.take x_.2.1.toNat,b.bl⟩)/\x_.2.2.1=z_.2.2.1)/\x_.2.2.2.1=z_.2.2.2.1,λ(x_:Se_×Int×Se_×Se_×Unit)=>b.bi.length-x_.2.1.toNat⟩
def AnB:=Alw.a fCopyBuilder<|Fct.p (KP [1,2,3,4,5] [15]) (λ⟨b,_⟩=>lv [(3,CX b)]) Alw.2 func148 (by
 rintro⟨(b:Se_),_⟩ hp;refine ho (.ob (True)<|.ob (Br (0+b.bl.length) 8)<|lpx (CX b) ((⟨[],[]++b.bl⟩:Se_),((0:Int),(b,(default,())))) λ(y2:Se_×Int×Se_×Se_×PUnit) bk2=>let q2_:=inB y2.2.1 y2.2.2.1.bi.length;let q0_:=y2.2.2.1.bi.getD y2.2.1.toNat default;.br (decide (y2.2.1<(y2.2.2.1.bi.length:Int))) (.ob q2_<|.ob q2_<|.cl fCopyAttrs (q0_.bo,()) λz2=>let q1_:=(⟨q0_.name,q0_.text,q0_.parent,z2.1⟩:Su_);.ob (Br (y2.1.bi.length+[q1_].length) 64)<|.ob (bk2 ((⟨y2.1.bi++[q1_],y2.1.bl⟩:Se_),(w1 y2.2.1,(y2.2.2.1,(y2.2.2.2.1,())))))<|.ok) (.lf fCopyBuilder (y2.1,()))) ?_;refine Aa trivial λ_=>Aa ?_ λ_=>Ai ?_ λ(y2:Se_×Int×Se_×Se_×PUnit) i2=>Ab (λh3=>Aa ?_ λ_=>Aa ?_ λ_=>Ae ?_ λ_=>(Aa ?_ λ_=>Aa ?_ λ_=>trivial)) (λh3=>lfY ?_)
 all_goals
  have hl:=Ac szNode b.bi;try have hg:=H0 (l:=b.bi) (i:=y1.2.1.toNat)
  try have hg:=H0 (l:=b.bi) (i:=y2.2.1.toNat)
  try simp only[CX,fCopyAttrs,fCopyBuilder,std,Nat.reduceAdd,take_succ,builder_take,szBuilder] at *
  try simp(disch:=omega) only[wrapId',toNat1] at *
  try simp(disch:=omega) only[Qa1,Qa3]
 all_goals first|trivial|omega|grind[wrapId',toNat1,drop_cons,drop_end,good_len,maxLen,fCopyAttrs,take_succ,builder_take,szBuilder])
abbrev B0 (b:Se_):LInv:=⟨[⟨.b,3,true,.el .ba⟩,⟨.s,14,true,.el .int⟩,⟨.b,2,true,.el .ba⟩],λ(z_ x_:Se_×Int×Se_×Unit)=>(0<=x_.2.1/\x_.2.1<=b.bi.length/\x_.1=⟨b.bi.take x_.2.1.toNat,b.bl⟩)/\x_.2.2.1=z_.2.2.1,λ(x_:Se_×Int×Se_×Unit)=>b.bi.length-x_.2.1.toNat⟩
def Aku:=AnB.a fCopyBuilder<|Fct.p (KP [1,2,3,5,12,13,14] [15]) (λ⟨b,_⟩=>lv [(3,B0 b)]) AnB.2 func170 (by
 rintro⟨(b:Se_),_⟩ hp;refine ho (let q2_:=(b.bi.length:Int);.ob (True)<|.ob (Br (0+b.bl.length) 8)<|lpx (B0 b) ((⟨[],[]++b.bl⟩:Se_),((0:Int),(default,()))) λ(y2:Se_×Int×Se_×PUnit) bk2=>let q0_:=b.bi.getD y2.2.1.toNat default;let q1_:=(⟨q0_.name,q0_.text,q0_.parent,[]++q0_.bo⟩:Su_);.br (decide (y2.2.1<q2_)) (.ob (inB y2.2.1 b.bi.length)<|.ob (True)<|.ob (Br (0+q0_.bo.length) 32)<|.ob (Br (y2.1.bi.length+[q1_].length) 64)<|.ob (b.bi=b.bi)<|.ob (Value.int IntKind.i64 q2_=Value.int IntKind.i64 q2_)<|.ob (bk2 ((⟨y2.1.bi++[q1_],y2.1.bl⟩:Se_),(w1 y2.2.1,(y2.2.2.1,()))))<|.ok) (.lf fCopyBuilder (y2.1,()))) ?_;refine Aa trivial λ_=>Aa ?_ λ_=>Ai ?_ λ(y2:Se_×Int×Se_×PUnit) i2=>Ab (λh3=>Aa ?_ λ_=>Aa trivial λ_=>Aa ?_ λ_=>Aa ?_ λ_=>Aa rfl λ_=>Aa rfl λ_=>Aa ?_ λ_=>trivial) (λh3=>lfY ?_)
 all_goals
  have hl:=Ac szNode b.bi;try have hg:=H0 (l:=b.bi) (i:=y1.2.1.toNat)
  try have hg:=H0 (l:=b.bi) (i:=y2.2.1.toNat)
  try simp only[B0,fCopyBuilder,std,Nat.reduceAdd,fCopyAttrs,take_succ,builder_take,szBuilder] at *
  try simp(disch:=omega) only[wrapId',toNat1] at *
  try simp(disch:=omega) only[Qa1,Qa3]
 all_goals first|trivial|omega|grind[wrapId',toNat1,drop_cons,drop_end,good_len,maxLen,fCopyAttrs,take_succ,builder_take,szBuilder])
def fCopyPolicy:Fct:=⟨[.v (.el .bj)],[.el .bj],λ(x_:Si_×Unit)=>szPolicy x_.1<=1099511627776,λ(x_:Si_×Unit)=>(x_.1,())⟩
def AmD:=Aku.a fCopyPolicy<|Fct.o [1,2] Aku.2 func146 (by
 rintro⟨(p:Si_),_⟩ hp;refine ho (.ob (True)<|.ob (Br p.bp.length 16)<|.ob (True)<|.ob (Br p.styles.length 16)<|.ob (True)<|.ob (Br p.images.length 16)<|.lf fCopyPolicy (p,())) ?_;refine Aa trivial λ_=>Aa ?_ λ_=>Aa trivial λ_=>Aa ?_ λ_=>Aa trivial λ_=>Aa ?_ λ_=>lfY ?_
 all_goals
  have hl1:=Ac Af p.bp;have hl2:=Ac Af p.styles;have hl3:=Ac Af p.images;try simp only[fCopyPolicy,std,Nat.reduceAdd,szPolicy] at *
  try simp(disch:=omega) only[wrapId',toNat1] at *
  try simp(disch:=omega) only[Qa1,Qa3]
 all_goals first|trivial|omega|grind[wrapId',toNat1,drop_cons,drop_end,good_len,maxLen,szPolicy])
def AmL:=AmD.a fCopyPolicy<|Fct.o [1,2] AmD.2 func166 (by
 rintro⟨(p:Si_),_⟩ hp;refine ho (.ob (True)<|.ob (Br (0+p.bp.length) 16)<|.ob (True)<|.ob (Br (0+p.styles.length) 16)<|.ob (True)<|.ob (Br (0+p.images.length) 16)<|.lf fCopyPolicy (⟨p.set_,[]++p.bp,[]++p.styles,[]++p.images,p.nonce⟩,())) ?_;refine Aa trivial λ_=>Aa ?_ λ_=>Aa trivial λ_=>Aa ?_ λ_=>Aa trivial λ_=>Aa ?_ λ_=>lfY ?_
 all_goals
  have hl1:=Ac Af p.bp;have hl2:=Ac Af p.styles;have hl3:=Ac Af p.images;try simp only[fCopyPolicy,std,Nat.reduceAdd,szPolicy] at *
  try simp(disch:=omega) only[wrapId',toNat1] at *
  try simp(disch:=omega) only[Qa1,Qa3]
 all_goals first|trivial|omega|grind[wrapId',toNat1,drop_cons,drop_end,good_len,maxLen,szPolicy])
def fCopyPage:Fct:=⟨[.v (.el .page)],[.el .page],λ(x_:Sa_×Unit)=>szPage x_.1<=1099511627776,λ(x_:Sa_×Unit)=>(x_.1,())⟩
theorem q2 (p:Sa_) (hp:fCopyPage.pre (p,())):Out.holds (fCopyPage.ctr (p,())).post (.cl fCopyPolicy (p.bj,()) λz2=>.cl fCopyTokens (p.bn,()) λz3=>.cl fCopyBuilder (p.ba,()) λz4=>.ob (True)<|.ob (Br (0+p.bf.length) 96)<|.ob (True)<|.ob (Br (0+p.bh.length) 64)<|.ob (True)<|.ob (Br (0+p.bg.length) 32)<|.ob (True)<|.ob (Br (0+p.ran.length) 32)<|.ob (True)<|.ob (Br (0+p.log.length) 16)<|.lf fCopyPage (⟨p.addr,z2.1,p.tok,z3.1,p.ended,z4.1,[]++p.bf,[]++p.bh,[]++p.bg,p.block,p.inline,p.bm,p.bq,[]++p.ran,[]++p.log,p.loaded⟩,())):=by
 repeat' first|(guard_target =~ Out.holds _ _;first|refine lfY ?_|refine Ae ?_ λ_=>?_|refine Aa ?_ λ_=>?_)|exact trivial
 all_goals
  have hl1:=Ac AP p.bf;have hl2:=Ac Az p.bh;have hl3:=Ac szAddr p.bg;have hl4:=Ac szAddr p.ran;have hl5:=Ac Af p.log;try simp only[fCopyBuilder,fCopyPage,fCopyPolicy,fCopyTokens,std,Nat.reduceAdd,szPage] at *
  try simp(disch:=omega) only[wrapId',toNat1] at *
  try simp(disch:=omega) only[Qa1,Qa3]
 all_goals first|trivial|omega|grind[wrapId',toNat1,drop_cons,drop_end,good_len,maxLen,szPage,fCopyPolicy,fCopyTokens,fCopyBuilder]
def AkY:=AmL.a fCopyPage<|Fct.o [1,2,3] AmL.2 func108 (by
 rintro⟨(p:Sa_),_⟩ hp;exact ho _ (q2 p hp))
def Amw:=AkY.a fCopyPage<|Fct.o [1,2] AkY.2 func126 (by
 rintro⟨(p:Sa_),_⟩ hp;exact ho _ (q2 p hp))
def AW:Fct:=⟨[.v (.el .addr),.v (.el .addr)],[.el .int],λ(x_:Sb_×Sb_×Unit)=>True,λ(x_:Sb_×Sb_×Unit)=>(cmpA x_.1 x_.2.1,())⟩
def An0:=Amw.a AW<|Fct.o (KP [2,3,4] [5,9]) Amw.2 func374 (by
 rintro⟨(a:Sb_),(b:Sb_),_⟩ hp;refine ho (.br (a.host==b.host&&(a.path==b.path&&true)) (.lf AW ((0:Int),())) (.br (Op.bytesLess a.host.toList b.host.toList) (.lf AW ((-1:Int),())) (.br (a.host.toList==b.host.toList) (.br (Op.bytesLess a.path.toList b.path.toList) (.lf AW ((-1:Int),())) (.lf AW ((1:Int),()))) (.lf AW ((1:Int),()))))) ?_;repeat' (guard_target =~ Out.holds _ _;first|refine lfY ?_|refine Ab (λ_=>?_) λ_=>?_)
 all_goals try simp only[Dh,YO,Qa9,Qa8] at *
 all_goals
  have h1:=Ke a.host b.host;have h2:=Ke a.path b.path;have h3:=Vz a b;have h4:=AfJ (a:=a) (b:=b);have h5:=MU (a:=a.host) (b:=b.host);have h6:=MU (a:=a.path) (b:=b.path);try simp only[AW,std,Nat.reduceAdd,cmpA] at *
  try simp(disch:=omega) only[wrapId',toNat1] at *
  try simp(disch:=omega) only[Qa1,Qa3]
 all_goals first|trivial|omega|grind[wrapId',toNat1,drop_cons,drop_end,good_len,maxLen,cmpA])
def laysCmp_r:Go.Shelf.Ren:=⟨λ|0=>0|1=>1|2=>2|99=>513|101=>164|103=>385|106=>434|109=>437|110=>404|125=>168|128=>220|129=>221|137=>335|138=>266|143=>267|145=>386|146=>163|156=>210|165=>271|166=>272|169=>273|171=>448|172=>464|189=>124|195=>326|197=>327|205=>494|206=>268|208=>208|210=>419|213=>451|215=>279|216=>217|217=>378|218=>328|219=>329|220=>420|221=>207|224=>380|225=>379|240=>332|241=>333|243=>458|244=>468|245=>469|246=>465|247=>477|257=>167|260=>377|265=>460|266=>417|267=>381|268=>265|276=>383|277=>384|279=>478|280=>479|281=>480|282=>481|283=>470|284=>471|285=>472|286=>473|287=>492|294=>211|295=>212|296=>213|297=>214|298=>215|299=>216|300=>218|301=>219|314=>418|316=>493|317=>482|318=>483|319=>484|320=>485|321=>503|322=>504|328=>274|329=>275|330=>276|331=>277|332=>278|337=>495|338=>496|343=>334|347=>522|348=>523|349=>524|350=>525|351=>526|352=>527|353=>528|354=>529|355=>530|356=>531|357=>532|358=>533|359=>534|360=>535|361=>536|362=>537|363=>551|364=>538|365=>539|366=>552|367=>567|_=>0,λ|0=>0|1=>1|2=>2|3=>3|4=>4|5=>5|6=>6|7=>7|8=>8|9=>9|10=>10|11=>11|12=>12|13=>13|14=>14|15=>15|16=>16|17=>17|18=>18|19=>19|20=>20|21=>21|22=>283|23=>208|24=>317|25=>363|27=>282|28=>31|30=>65|31=>42|32=>399|33=>358|34=>63|35=>172|36=>407|37=>181|43=>164|46=>211|47=>210|51=>256|52=>255|53=>258|54=>257|55=>306|59=>364|60=>365|61=>206|67=>245|69=>401|70=>284|71=>285|72=>286|73=>287|74=>288|75=>289|76=>290|77=>291|80=>292|81=>502|83=>143|84=>412|85=>438|86=>439|94=>523|101=>92|103=>325|104=>192|105=>326|106=>327|108=>464|111=>299|112=>251|113=>244|114=>312|119=>388|127=>329|128=>429|131=>253|134=>209|137=>389|138=>390|139=>391|143=>480|144=>481|145=>482|146=>392|150=>281|151=>393|164=>360|165=>361|166=>362|167=>437|168=>440|169=>441|170=>442|171=>430|172=>431|173=>432|174=>433|175=>460|176=>461|181=>246|182=>247|183=>248|184=>249|185=>250|186=>252|187=>254|209=>462|210=>463|211=>443|212=>444|213=>445|214=>479|218=>293|219=>294|220=>295|221=>296|222=>297|223=>298|228=>330|229=>331|230=>332|232=>483|233=>484|238=>497|239=>498|240=>499|241=>500|242=>501|243=>503|244=>504|245=>505|246=>506|247=>507|248=>508|249=>509|_=>0,λ|1=>0|3=>1|4=>2|15=>4|16=>5|17=>3|18=>6|19=>7|_=>0⟩
def Ae7:Go.Proofs.Lays.n106 Tryz.prog laysCmp_r:=by repeat' first|kernel_rfl|constructor|intro _
def Amu:=An0.a fCmpStr<|AfF rfl (Any.strings_Compare Ae7)
def Anz:=Amu.a AW<|Fct.o (KP [2,3,4,5] [12]) Amu.2 func402 (by
 rintro⟨(a:Sb_),(b:Sb_),_⟩ hp;refine ho (.cl fCmpStr (a.host,b.host,()) λ(z2:Int×PUnit)=>.br (z2.1 != 0) (.lf AW (z2.1,())) (.cl fCmpStr (a.path,b.path,()) λ(z3:Int×PUnit)=>.lf AW (z3.1,()))) ?_;refine Ae trivial λ_=>(Ab (λh1=>lfY ?_) (λh1=>Ae trivial λ_=>(lfY ?_)))
 all_goals
  try simp only[fCmpStr,AW,std,Nat.reduceAdd,cmpA] at *
  try simp(disch:=omega) only[wrapId',toNat1] at *
  try simp(disch:=omega) only[Qa1,Qa3]
 all_goals first|trivial|omega|grind[wrapId',toNat1,drop_cons,drop_end,good_len,maxLen,cmpA,fCmpStr])
def fModAt:Fct:=⟨[.v (.el .page),.v (.el .addr)],[.el .int],λ(x_:Sa_×Sb_×Unit)=>x_.1.bh.length<=1000000000000,λ(x_:Sa_×Sb_×Unit)=>(fidx (λm=>decide (m.to=x_.2.1)) x_.1.bh 0,())⟩
abbrev DY (p:Sa_) (a:Sb_):LInv:=⟨[⟨.s,5,true,.el .int⟩,⟨.b,2,false,.el .page⟩,⟨.b,3,true,.el .addr⟩],λ(z_ x_:Int×Sa_×Sb_×Unit)=>((0<=x_.1/\x_.1<=p.bh.length/\fidx (λm=>decide (m.to=a)) (p.bh.drop x_.1.toNat) x_.1=fidx (λm=>decide (m.to=a)) p.bh 0)/\x_.2.1=z_.2.1)/\x_.2.2.1=z_.2.2.1,λ(x_:Int×Sa_×Sb_×Unit)=>p.bh.length-x_.1.toNat⟩
def AiQ:=Anz.a fModAt<|Fct.p (KP [2,3,4,5] [10,20]) (λ⟨p,a,_⟩=>lv [(2,DY p a)]) Anz.2 func317 (by
 rintro⟨(p:Sa_),(a:Sb_),_⟩ hp;refine ho (lpx (DY p a) ((0:Int),(p,(a,()))) λ(y1:Int×Sa_×Sb_×PUnit) bk1=>.br (decide (y1.1<(y1.2.1.bh.length:Int))) (.ob (inB y1.1 y1.2.1.bh.length)<|.br ((y1.2.1.bh.getD y1.1.toNat default).to.host==y1.2.2.1.host&&((y1.2.1.bh.getD y1.1.toNat default).to.path==y1.2.2.1.path&&true)) (.lf fModAt (y1.1,())) (.ob (bk1 (w1 y1.1,(y1.2.1,(y1.2.2.1,()))))<|.ok)) (.lf fModAt ((-1:Int),()))) ?_;refine Ai ?_ λ(y1:Int×Sa_×Sb_×PUnit) i1=>Ab (λh2=>Aa ?_ λ_=>Ab (λh4=>lfY ?_) (λh4=>Aa ?_ λ_=>trivial)) (λh2=>lfY ?_)
 all_goals
  try simp only[Dh] at *
  try simp only[DY,fModAt,std,Nat.reduceAdd,fidx] at *
  try simp(disch:=omega) only[wrapId',toNat1] at *
  try simp(disch:=omega) only[Qa1,Qa3]
 all_goals first|trivial|omega|grind[wrapId',toNat1,drop_cons,drop_end,good_len,maxLen,fidx])
def fModAt1:Fct:=⟨[.v (.el .module),.p (.el .addr)],[.el .bool],λ(x_:Sg_×Sb_×Unit)=>True,λ(x_:Sg_×Sb_×Unit)=>(decide (x_.1.to=x_.2.1),())⟩
def Akz:=AiQ.a fModAt1<|Fct.o [1,2,3] AiQ.2 func398 (by
 rintro⟨(m:Sg_),(a:Sb_),_⟩ hp;refine ho (.lf fModAt1 (m.to.host==a.host&&(m.to.path==a.path&&true),())) ?_;refine lfY ?_;all_goals
  try simp only[Dh] at *
  try simp only[fModAt1,std,Nat.reduceAdd] at *
  try simp(disch:=omega) only[wrapId',toNat1] at *
  try simp(disch:=omega) only[Qa1,Qa3]
 all_goals first|trivial|omega|grind[wrapId',toNat1,drop_cons,drop_end,good_len,maxLen])
def AS:Fct:=⟨[aL .module,.c 398 [.el .addr]],[rI],λx=>x.1.length<=1000000000000000000/\∀ c,fModAt1.pre (c,x.2.1),λx=>(fidx (λc=>(fModAt1.fn (c,x.2.1)).1) x.1 0,())⟩
abbrev Am (l:(List Sg_)) (u:(Sb_×Unit)):LInv:=⟨[⟨.s,8,true,.el .int⟩],λ_ (x_:Int×Unit)=>0<=x_.1/\x_.1<=l.length/\fidx (λc=>(fModAt1.fn (c,u)).1) l 0=fidx (λc=>(fModAt1.fn (c,u)).1) (l.drop x_.1.toNat) x_.1,λ(x_:Int×Unit)=>l.length-x_.1.toNat⟩
def AmO:=Akz.a AS<|Fct.p (KP [0,1,4,5,7,8] [9,16]) (λ⟨l,u,_⟩=>lv [(2,Am l u)]) Akz.2 func397 (by
 rintro⟨(l:List Sg_),(u:Sb_×PUnit),_⟩ hp;refine ho (lpx (Am l u) ((0:Int),()) λ(y1:Int×PUnit) bk1=>.br (decide (y1.1<(l.length:Int))) (.ob (inB y1.1 l.length)<|.cl fModAt1 (l.getD y1.1.toNat default,u.1,()) λz2=>.br (z2.1) (.lf AS (y1.1,())) (.ob (l=l)<|.ob (enc Ty.addr u.1=enc Ty.addr u.1)<|.ob (Value.int IntKind.i64 (l.length:Int)=Value.int IntKind.i64 (l.length:Int))<|.ob (bk1 (w1 y1.1,()))<|.ok)) (.lf AS ((-1:Int),()))) ?_;refine Ai ?_ λ(y1:Int×PUnit) i1=>Ab (λh2=>Aa ?_ λ_=>Ae trivial λ_=>(Ab (λh4=>lfY ?_) (λh4=>Aa rfl λ_=>Aa rfl λ_=>Aa rfl λ_=>Aa ?_ λ_=>trivial))) (λh2=>lfY ?_)
 all_goals
  try simp only[Am,AS,fModAt1,std,Nat.reduceAdd] at *
  try have hp2:=hp.2
  try have hp1:=hp.1
 all_goals first|trivial|omega|grind[wrapId',toNat1,drop_cons,drop_end,good_len,maxLen,fidx])
def AjG:=AmO.a fModAt<|Fct.o [2,3,4] AmO.2 func349 (by
 rintro⟨(p:Sa_),(a:Sb_),_⟩ hp;refine ho (.cl AS (p.bh,(a,()),()) λ(z2:Int×PUnit)=>.lf fModAt (z2.1,())) ?_;refine Ae ?_ λ_=>(lfY ?_)
 all_goals
  try simp only[AS,fModAt,std,Nat.reduceAdd,fModAt1] at *
  try simp(disch:=omega) only[wrapId',toNat1] at *
  try simp(disch:=omega) only[Qa1,Qa3]
 all_goals first|trivial|omega|grind[wrapId',toNat1,drop_cons,drop_end,good_len,maxLen,fModAt1])
def isAsked (p:Sa_) (a:Sb_):Bool:=p.bf.any (λs=>decide (s.to=a))||p.bh.any (λm=>decide (m.to=a))
def fIsAsked:Fct:=⟨[.v (.el .page),.v (.el .addr)],[.el .bool],λ(x_:Sa_×Sb_×Unit)=>x_.1.bh.length<=1000000000000/\x_.1.bf.length<=1000000000000,λ(x_:Sa_×Sb_×Unit)=>(isAsked x_.1 x_.2.1,())⟩
abbrev DK (p:Sa_) (a:Sb_):LInv:=⟨[⟨.s,5,true,.el .int⟩,⟨.b,2,false,.el .page⟩,⟨.b,3,true,.el .addr⟩],λ(z_ x_:Int×Sa_×Sb_×Unit)=>((0<=x_.1/\x_.1<=p.bf.length/\(p.bf.drop x_.1.toNat).any (λs=>decide (s.to=a))=p.bf.any (λs=>decide (s.to=a)))/\x_.2.1=z_.2.1)/\x_.2.2.1=z_.2.2.1,λ(x_:Int×Sa_×Sb_×Unit)=>p.bf.length-x_.1.toNat⟩
def AkZ:=AjG.a fIsAsked<|Fct.p (KP [2,3,4,5] [10,20]) (λ⟨p,a,_⟩=>lv [(2,DK p a)]) AjG.2 func261 (by
 rintro⟨(p:Sa_),(a:Sb_),_⟩ hp;refine ho (lpx (DK p a) ((0:Int),(p,(a,()))) λ(y1:Int×Sa_×Sb_×PUnit) bk1=>.br (decide (y1.1<(y1.2.1.bf.length:Int))) (.ob (inB y1.1 y1.2.1.bf.length)<|.br ((y1.2.1.bf.getD y1.1.toNat default).to.host==y1.2.2.1.host&&((y1.2.1.bf.getD y1.1.toNat default).to.path==y1.2.2.1.path&&true)) (.lf fIsAsked (true,())) (.ob (bk1 (w1 y1.1,(y1.2.1,(y1.2.2.1,()))))<|.ok)) (.cl fModAt (y1.2.1,y1.2.2.1,()) λ(z2:Int×PUnit)=>.lf fIsAsked (decide (z2.1>=0),()))) ?_;refine Ai ?_ λ(y1:Int×Sa_×Sb_×PUnit) i1=>Ab (λh2=>Aa ?_ λ_=>Ab (λh4=>lfY ?_) (λh4=>Aa ?_ λ_=>trivial)) (λh2=>Ae ?_ λ_=>(lfY ?_))
 all_goals try simp only[Dh] at *
 all_goals
  have hmm:=IQ (λm:Sg_=>decide (m.to=a)) p.bh 0 o_;try simp only[DK,fIsAsked,fModAt,std,Nat.reduceAdd,isAsked] at *
  try simp(disch:=omega) only[wrapId',toNat1] at *
  try simp(disch:=omega) only[Qa1,Qa3]
 all_goals first|trivial|omega|grind[wrapId',toNat1,drop_cons,drop_end,good_len,maxLen,isAsked,fModAt])
def fIsAsked1:Fct:=⟨[.v (.el .slot),.p (.el .addr)],[.el .bool],λ(x_:Sn_×Sb_×Unit)=>True,λ(x_:Sn_×Sb_×Unit)=>(decide (x_.1.to=x_.2.1),())⟩
def Aj8:=AkZ.a fIsAsked1<|Fct.o [1,2,3] AkZ.2 func359 (by
 rintro⟨(s:Sn_),(a:Sb_),_⟩ hp;refine ho (.lf fIsAsked1 (s.to.host==a.host&&(s.to.path==a.path&&true),())) ?_;refine lfY ?_;all_goals
  try simp only[Dh] at *
  try simp only[fIsAsked1,std,Nat.reduceAdd] at *
  try simp(disch:=omega) only[wrapId',toNat1] at *
  try simp(disch:=omega) only[Qa1,Qa3]
 all_goals first|trivial|omega|grind[wrapId',toNat1,drop_cons,drop_end,good_len,maxLen])
def AT:Fct:=⟨[aL .slot,.c 359 [.el .addr]],[rI],λx=>x.1.length<=1000000000000000000/\∀ c,fIsAsked1.pre (c,x.2.1),λx=>(fidx (λc=>(fIsAsked1.fn (c,x.2.1)).1) x.1 0,())⟩
abbrev Aq (l:(List Sn_)) (u:(Sb_×Unit)):LInv:=⟨[⟨.s,8,true,.el .int⟩],λ_ (x_:Int×Unit)=>0<=x_.1/\x_.1<=l.length/\fidx (λc=>(fIsAsked1.fn (c,u)).1) l 0=fidx (λc=>(fIsAsked1.fn (c,u)).1) (l.drop x_.1.toNat) x_.1,λ(x_:Int×Unit)=>l.length-x_.1.toNat⟩
def Am6:=Aj8.a AT<|Fct.p (KP [0,1,4,5,7,8] [9,16]) (λ⟨l,u,_⟩=>lv [(2,Aq l u)]) Aj8.2 func405 (by
 rintro⟨(l:List Sn_),(u:Sb_×PUnit),_⟩ hp;refine ho (lpx (Aq l u) ((0:Int),()) λ(y1:Int×PUnit) bk1=>.br (decide (y1.1<(l.length:Int))) (.ob (inB y1.1 l.length)<|.cl fIsAsked1 (l.getD y1.1.toNat default,u.1,()) λz2=>.br (z2.1) (.lf AT (y1.1,())) (.ob (l=l)<|.ob (enc Ty.addr u.1=enc Ty.addr u.1)<|.ob (Value.int IntKind.i64 (l.length:Int)=Value.int IntKind.i64 (l.length:Int))<|.ob (bk1 (w1 y1.1,()))<|.ok)) (.lf AT ((-1:Int),()))) ?_;refine Ai ?_ λ(y1:Int×PUnit) i1=>Ab (λh2=>Aa ?_ λ_=>Ae trivial λ_=>(Ab (λh4=>lfY ?_) (λh4=>Aa rfl λ_=>Aa rfl λ_=>Aa rfl λ_=>Aa ?_ λ_=>trivial))) (λh2=>lfY ?_)
 all_goals
  try simp only[Aq,AT,fIsAsked1,std,Nat.reduceAdd] at *
  try have hp2:=hp.2
  try have hp1:=hp.1
 all_goals first|trivial|omega|grind[wrapId',toNat1,drop_cons,drop_end,good_len,maxLen,fidx])
def AZ:Fct:=⟨[aL .slot,.c 359 [.el .addr]],[rB],λx=>x.1.length<=1000000000000000000/\∀ c,fIsAsked1.pre (c,x.2.1),λx=>(x.1.any (λc=>(fIsAsked1.fn (c,x.2.1)).1),())⟩
def AiW:=Am6.a AZ<|Fct.o [0,1,4] Am6.2 func358 (by
 rintro⟨(l:List Sn_),(u:Sb_×PUnit),_⟩ hp;refine ho (.cl AT (l,(u.1,()),()) λ(z2:Int×PUnit)=>.lf AZ (decide (z2.1>=0),())) ?_;refine Ae ?_ λ_=>(lfY ?_)
 all_goals try simp only[AZ,AT,std,Nat.reduceAdd] at *
 all_goals first|trivial|omega|(rw[Bool.eq_iff_iff];exact decide_eq_true_iff.trans (IQ _ _ _ o_)))
def AnI:=AiW.a fIsAsked<|Fct.o [2,3,4] AiW.2 func296 (by
 rintro⟨(p:Sa_),(a:Sb_),_⟩ hp;refine ho (.cl fModAt (p,a,()) λ(z2:Int×PUnit)=>.br (decide (z2.1>=0)) (.lf fIsAsked (true,())) (.cl AZ (p.bf,(a,()),()) λz3=>.lf fIsAsked (z3.1,()))) ?_;refine Ae ?_ λ_=>(Ab (λh2=>lfY ?_) (λh2=>Ae ?_ λ_=>(lfY ?_)))
 all_goals
  have hmm:=IQ (λm:Sg_=>decide (m.to=a)) p.bh 0 o_;try simp only[AZ,fIsAsked,fModAt,std,Nat.reduceAdd,isAsked,fIsAsked1] at *
  try simp(disch:=omega) only[wrapId',toNat1] at *
  try simp(disch:=omega) only[Qa1,Qa3]
 all_goals first|trivial|omega|grind[wrapId',toNat1,drop_cons,drop_end,good_len,maxLen,isAsked,fModAt,fIsAsked1])
def Hx {l:List Sk_} {i:Nat} (h:i<l.length):(l.getD i default).files.length+l.length<=szL A1 l:=by
 have:=DZ A1 h;have h2:=Ac EJ (l.getD i default).files;simp only[A1] at this;omega
def fMin:Fct:=⟨[aI,aI],[rI],λ_=>True,λ(x:Int×Int×Unit)=>(min x.1 x.2.1,())⟩
def Akc:=AnI.a fMin<|Fct.o (KP [0,1,4] [7]) AnI.2 func107 (by
 rintro⟨(a:Int),(b:Int),_⟩ hp;refine ho (.br (decide (b<a)) (.lf fMin (b,())) (.lf fMin (a,()))) ?_;refine Ab (λh1=>lfY ?_) (λh1=>lfY ?_);all_goals try simp only[fMin,std,Nat.reduceAdd] at *
 all_goals first|trivial|omega|(simp_all;done)|(simp_all;omega)|grind)
def AfO {α:Type} (f:α->Nat) (l m:List α):szL f (l++m)=szL f l+szL f m:=by simp[szL];omega
def PT {α:Type} (f:α->Nat) (l:List α) (n:Nat):szL f (l.drop n)<=szL f l:=by
 have h:=AfO f (l.take n) (l.drop n);simp_all
def fDelConn:GS:=⟨[.g (.sl .conn),.l (.v (.el .int)),.l (.v (.el .int))],[.sl .conn],λ(x_:(List Sj_)×Int×Int×Unit)=>0<=x_.2.1/\x_.2.1<x_.2.2.1/\x_.2.2.1<=x_.1.length/\x_.1.length<=1048576,λ(x_:(List Sj_)×Int×Int×Unit)=>((x_.1.take x_.2.1.toNat++x_.1.drop x_.2.2.1.toNat,()),(()))⟩
def Aa7 {l:List Sj_} {i j:Int} (h0:0<=i) (hi:i<=j) (hj:j<=l.length) (ys:List Sj_) {k k' m n j':Nat} (hjj:j'=j.toNat) (hm:m=l.length-j.toNat) (hk:k=i.toNat+m) (hk':k'=k) (hn:n=i.toNat):l.take i.toNat++l.drop j.toNat=cut (I3 (I3 l n (cut l j' m)) k ys) 0 k':=by
 subst hjj;subst hk';subst hk;subst hn;rw[AcP _ _ _ (by rw[Hc,Kg];omega),YJ o_ o_ hm]
def W3 {l:List Sj_} {i:Int} (h0:0<=i) (hj:i<l.length) {k m n j':Nat} (hjj:j'=i.toNat+1) (hm:m=l.length-j') (hk:k=i.toNat+m) (hn:n=i.toNat):cut (I3 l n (cut l j' m)) 0 k=l.take i.toNat++l.drop (i.toNat+1):=by
 subst hk;subst hn;rw[show cut (I3 l i.toNat (cut l j' m)) 0 (i.toNat+m)=(I3 l i.toNat (cut l j' m)).take (i.toNat+m) from rfl,YJ o_ o_ hm,hjj]
def AnL:=Akc.G fDelConn<|GS.of (S:=fDelConn) (L:=λ_ _=>none) (kp:=(KP [0,1,2,6,7] [16])) Akc.2 func302 k_ k_ (by
 rintro⟨(l:List Sj_),(i:Int),(j:Int),_⟩ hp;refine ho (let q4_:=List.length l-Int.toNat j;let q2_:=(↑(List.length l):Int);let q1_:=I3 l (Int.toNat i-0) (cut l (Int.toNat j) q4_);let q0_:=Int.toNat i-0+q4_;let q5_:=q2_.toNat-(q0_:Int).toNat;let q3_:=I3 q1_ (0+(q0_:Int).toNat) (List.replicate q5_ default);.ob (0<=i/\i<=j/\j<=q2_/\q2_<=q2_)<|.br (i==j) (GS.out fDelConn ((l,()),(()))) (.ob (0<=i/\i<=q2_)<|.ob (0<=j/\j<=q2_)<|.ob (0=0/\0<List.length l/\Int.toNat j+q4_<=List.length l/\Int.toNat i-0+q4_<=List.length l)<|.ob ((0:Int)<=(q0_:Int)/\(q0_:Int)<=q2_/\q2_<=(↑(q1_.length-0):Int))<|.ob (0+(q0_:Int).toNat+q5_<=q1_.length)<|.ob (0+q0_<=q3_.length)<|GS.out fDelConn ((cut q3_ 0 q0_,()),(())))) ?_;repeat' (guard_target =~ Out.holds _ _;first|refine GS.leafY ?_|refine Ab (λ_=>?_) λ_=>?_|refine Aa ?_ λ_=>?_)
 all_goals try simp only[fDelConn,std,Nat.reduceAdd] at *
 all_goals first|omega|(simp only[Hc,Kg,List.length_replicate] at *;omega)|exact(Aa7 o_ o_ o_ _ rfl rfl o_ o_ o_).symm)
def closeConn (l:List Sj_) (i:Int):List Sj_:=if 0<=i/\i<l.length then l.take i.toNat++l.drop (i.toNat+1) else l
def Cd:Fct:=⟨[.v (.sl .conn),.v (.el .int)],[.sl .conn],λ(x_:(List Sj_)×Int×Unit)=>x_.1.length<=1048576,λ(x_:(List Sj_)×Int×Unit)=>(closeConn x_.1 x_.2.1,())⟩
def Aki:=AnL.a Cd<|Fct.o (KP [0,1,4,5] [14]) AnL.2 func262 (by
 rintro⟨(l:List Sj_),(i:Int),_⟩ hp;refine ho (let q2_:=(↑([]++l).length:Int);let q0_:=([]++l).length-(w1 i).toNat;let q3_:=Int.toNat i-0+q0_;let q1_:=I3 ([]++l) (Int.toNat i-0) (cut ([]++l) (w1 i).toNat q0_);.ob (True)<|.ob (Br (0+List.length l) 112)<|.cl fInRange (i,(0:Int),wr ((↑(List.length l):Int)-(1:Int)),()) λz2=>.br (!z2.1) (.lf Cd ([]++l,())) (.ob (0<=i/\i<=q2_)<|.ob (0<=w1 i/\w1 i<=q2_)<|.ob (0=0/\0<([]++l).length/\(w1 i).toNat+q0_<=([]++l).length/\Int.toNat i-0+q0_<=([]++l).length)<|.ob (0+q3_<=q1_.length)<|.lf Cd (cut q1_ 0 q3_,()))) ?_;refine Aa trivial λ_=>Aa ?_ λ_=>Ae trivial λ_=>(Ab (λh2=>lfY ?_) (λh2=>Aa ?_ λ_=>Aa ?_ λ_=>Aa ?_ λ_=>Aa ?_ λ_=>lfY ?_))
 all_goals
  try simp only[Cd,fInRange,std,Nat.reduceAdd,closeConn,inRange] at *
  try simp(disch:=omega) only[wrapId',toNat1] at *
  try simp(disch:=omega) only[Qa1,Qa3]
  try simp only[Hc,Kg,List.length_replicate,Qa2,Qe1,Qa9,Qa8] at *
 all_goals first|omega|(rw[Qa3 o_];done)|exact W3 o_ o_ o_ o_ o_ o_)
def AnT:=Aki.a Cd<|Fct.o (KP [0,1,4,5] [15]) Aki.2 func239 (by
 rintro⟨(l:List Sj_),(i:Int),_⟩ hp;refine ho (.cl fCopyConns (l,()) λz2=>.br (decide (i<0)) (.lf Cd (z2.1,())) (.br (decide (i>=(↑(List.length l):Int))) (.lf Cd (z2.1,())) (.ob (fDelConn.pre (z2.1,i,w1 i,()))<|.lt _ (fDelConn.fn (z2.1,i,w1 i,())) λz3=>.lf Cd (z3.1.1,())))) ?_;refine Ae ?_ λ_=>(Ab (λh2=>lfY ?_) (λh2=>Ab (λh3=>lfY ?_) (λh3=>Aa ?_ λ_=>DU (lfY ?_))))
 all_goals
  try simp only[Cd,fCopyConns,fDelConn,std,Nat.reduceAdd,closeConn,fInRange,inRange] at *
  try simp(disch:=omega) only[wrapId',toNat1] at *
  try simp(disch:=omega) only[Qa1,Qa3]
 all_goals first|trivial|omega|grind[wrapId',toNat1,drop_cons,drop_end,good_len,maxLen,closeConn,fDelConn,fInRange,inRange])
def hasI (l:List Int) (i:Int):Bool:=l.any λc=>decide (c=i)
def isCut (cs:List Int) (i:Int):Bool:=hasI (cs.take 7) i
def pieces (s:ByteArray):List Int->Int->List ByteArray
 | [],a=>[s.extract a.toNat s.size]
 | n::l,a=>s.extract a.toNat n.toNat::pieces s l n
def cutGo (s:ByteArray) (cs:List Int):Nat->Int->Int->List ByteArray
 | 0,_,a=>[s.extract a.toNat s.size]
 | f+1,i,a=>if isCut cs i then s.extract a.toNat i.toNat::cutGo s cs f (i+1) i else cutGo s cs f (i+1) a
def cutText (s:ByteArray) (cs:List Int):List ByteArray:=cutGo s cs (s.size-1) 1 0
def rngs (n:Int):List Int->List Int
 | []=>[]
 | x::l=>if inRange x 1 n then x::rngs n l else rngs n l
def PH (n:Int):∀ l,rngs n l=l.filter λx=>inRange x 1 n
 | []=>rfl
 | x::l=>by rw[rngs,PH n l,List.filter_cons]
theorem rngs_at {n:Int} {l:List Int} {i:Nat} (h:i<l.length):rngs n (l.drop i)=if inRange (l.getD i default) 1 n then l.getD i default::rngs n (l.drop (i+1)) else rngs n (l.drop (i+1)):=by rw[drop_cons h];rfl
def Ach {n:Int} {l:List Int} {i:Nat} (h:l.length<=i):rngs n (l.drop i)=[]:=by rw[Qb1 h];rfl
def cutAts (s:ByteArray) (cs:List Int):List Int:=rngs (s.size-1) (cs.take 7)
def RP (s:ByteArray) (cs:List Int):∀ (f:Nat) (i a:Int) (l:List Int),l.Pairwise (· < ·)->(∀ x,x∈l↔(i<=x/\x<i+f/\isCut cs x=true))->cutGo s cs f i a=pieces s l a:=by
 intro f
 induction f with
 | zero=>
  intro i a l _ hm;cases l with
  | nil=>rfl
  | cons x l=>have:=(hm x).1 Qd7;omega
 | succ f ih=>
  intro i a l hp hm;simp only[cutGo];split
  ·rename_i hc;have hi:i∈l:=(hm i).2 ⟨o_,o_,hc⟩;cases l with
   | nil=>cases hi
   | cons x l=>
    have hp':=List.pairwise_cons.1 hp;have hx:x=i:=by
     rcases Qd6.1 hi with e|h
     ·exact e.symm
     ·have h1:=hp'.1 i h;have h2:=((hm x).1 Qd7).1;omega
    subst hx;rw[pieces,ih (x+1) x l hp'.2 λy=>?_];constructor
    ·intro hy;obtain⟨h1,h2,h3⟩:=(hm y).1 (Qc4 _ hy);have:=hp'.1 y hy;exact⟨o_,o_,h3⟩
    ·rintro⟨h1,h2,h3⟩;rcases Qd6.1 ((hm y).2 ⟨o_,o_,h3⟩) with e|h
     ·omega
     ·exact h
  ·rename_i hc;refine ih (i+1) a l hp λy=>?_
   rw[hm y];constructor
   ·rintro⟨h1,h2,h3⟩;have:y≠i:=λe=>hc (e▸h3)
    exact⟨o_,o_,h3⟩
   ·rintro⟨h1,h2,h3⟩;exact⟨o_,o_,h3⟩
def Gm (s:ByteArray) (cs:List Int):cutText s cs=pieces s (CU (PP (cutAts s cs))) 0:=by
 refine RP s cs _ _ _ _ (UY (le:=λa b=>a<=b) (λa b h1 h2=>o_) (λa b c h1 h2=>o_) (KR _)) λx=>?_
 rw[J4,Rq,cutAts,PH,List.mem_filter,isCut,hasI,Qc2];simp only[inRange,Qa2,Qa9];constructor
 ·rintro⟨h1,h2,h3⟩;exact⟨o_,o_,x,h1,rfl⟩
 ·rintro⟨h1,h2,c,h3,rfl⟩;exact⟨h3,o_,o_⟩
def QZ:GS:=⟨[.k (.sl .int)],[],λ(x_:(List Int)×Unit)=>x_.1.length<4611686018427387904,λ(x_:(List Int)×Unit)=>((()),(PP x_.1,()))⟩
def Xb:Go.Proofs.Lays.n189 Tryz.prog laysCmp_r:=by repeat' first|kernel_rfl|constructor|intro _
def Alq:=AnT.G QZ<|SE Xb rfl
def Er:GS:=⟨[.g (.sl .int)],[.sl .int],λ(x_:(List Int)×Unit)=>x_.1.length<=1000000000000,λ(x_:(List Int)×Unit)=>((CU x_.1,()),(()))⟩
abbrev Bx (s:(List Int)):LInv:=⟨[⟨.s,3,true,.el .int⟩,⟨.t,0,true,.sl .int⟩],λ_ (x_:Int×(List Int)×Unit)=>1<=x_.1/\x_.1<=s.length/\x_.2.1=s/\CU (s.take x_.1.toNat)=s.take x_.1.toNat,λ(x_:Int×(List Int)×Unit)=>s.length-x_.1.toNat⟩
abbrev Bw (s:(List Int)):LInv:=⟨[⟨.s,3,true,.el .int⟩,⟨.s,5,true,.el .int⟩,⟨.t,0,true,.sl .int⟩],λ(z_ x_:Int×Int×(List Int)×Unit)=>CompInv s x_.2.2.1 z_.1 x_.1 x_.2.1,λ(x_:Int×Int×(List Int)×Unit)=>s.length-x_.2.1.toNat⟩
def Amp:=Alq.G Er<|GS.of (S:=Er) (L:=λ⟨s,_⟩=>λ|4=>some (Bx s)|9=>some (Bw s)|_=>none) (kp:=(KP [0,2,3,4,5] [8,13,25,32,44])) Alq.2 func125 k_ k_ (by
 rintro⟨(s:List Int),_⟩ hp;refine ho (.br (decide ((s.length:Int)<2)) (GS.out Er ((s,()),(()))) (lpx (Bx s) ((1:Int),(s,())) λ(y2:Int×List Int×PUnit) bk2=>let q10_:=y2.1.toNat=y2.1.toNat;let q6_:=(y2.2.1.length:Int);let q4_:=y2.1-(1:Int);let q3_:=y2.2.1.length-y2.1.toNat=y2.2.1.length-y2.1.toNat;let q1_:=(↑(y2.2.1.length-y2.1.toNat):Int);.br (decide (y2.1<q6_)) (.ob (inB y2.1 y2.2.1.length)<|.ob (y2.1.toNat<y2.2.1.length)<|.ob (0<=wr q4_/\wr q4_<q6_)<|.ob ((wr q4_).toNat<y2.2.1.length)<|.br (y2.2.1.getD y2.1.toNat default==y2.2.1.getD (wr q4_).toNat default) (.ob (0<=y2.1/\y2.1<=q6_)<|lpx (Bw s) (y2.1,((1:Int),(y2.2.1,()))) λ(y10:Int×Int×List Int×PUnit) bk10=>let q9_:=y2.1.toNat+y10.2.1.toNat;let q8_:=y10.2.2.1.length-y10.1.toNat;let q7_:=0<=y10.2.1/\y10.2.1<q1_;let q5_:=y2.1.toNat+y10.2.1.toNat<y10.2.2.1.length;let q2_:=y10.2.1-(1:Int);let q0_:=I3 y10.2.2.1 y10.1.toNat (List.replicate q8_ (0:Int));.br (decide (y10.2.1<q1_)) (.ob q7_<|.ob q5_<|.ob (0<=wr q2_/\wr q2_<q1_)<|.ob (y2.1.toNat+(wr q2_).toNat<y10.2.2.1.length)<|.br (y10.2.2.1.getD q9_ default != y10.2.2.1.getD (y2.1.toNat+(wr q2_).toNat) default) (.ob q7_<|.ob q5_<|.ob (inB y10.1 y10.2.2.1.length)<|.ob (y10.1.toNat<y10.2.2.1.length)<|.lt (List Int) (y10.2.2.1.modify y10.1.toNat λz=>y10.2.2.1.getD q9_ default) λz2=>.ob q10_<|.ob q3_<|.ob (bk10 (w1 y10.1,(w1 y10.2.1,(z2,()))))<|.ok) (.ob q10_<|.ob q3_<|.ob (bk10 (y10.1,(w1 y10.2.1,(y10.2.2.1,()))))<|.ok)) (.ob (0<=y10.1/\y10.1<=(y10.2.2.1.length:Int))<|.ob (y10.1.toNat+q8_<=y10.2.2.1.length)<|.ob (0<=y10.1/\y10.1<=(q0_.length:Int))<|.ob (0+(y10.1.toNat-0)<=q0_.length)<|GS.out Er ((cut q0_ 0 (y10.1.toNat-0),()),(())))) (.ob (bk2 (w1 y2.1,(y2.2.1,())))<|.ok)) (GS.out Er ((y2.2.1,()),(()))))) ?_;refine Ab (λh1=>GS.leafY ?_) (λh1=>Ai ?_ λ(y2:Int×List Int×PUnit) i2=>Ab (λh3=>Aa ?_ λ_=>Aa ?_ λ_=>Aa ?_ λ_=>Aa ?_ λ_=>Ab (λh8=>Aa ?_ λ_=>Ai ?_ λ(y10:Int×Int×List Int×PUnit) i10=>Ab (λh11=>Aa ?_ λ_=>Aa ?_ λ_=>Aa ?_ λ_=>Aa ?_ λ_=>Ab (λh16=>Aa ?_ λ_=>Aa ?_ λ_=>Aa ?_ λ_=>Aa ?_ λ_=>DU (Aa rfl λ_=>Aa rfl λ_=>Aa ?_ λ_=>trivial)) (λh16=>Aa rfl λ_=>Aa rfl λ_=>Aa ?_ λ_=>trivial)) (λh11=>Aa ?_ λ_=>Aa ?_ λ_=>Aa ?_ λ_=>Aa ?_ λ_=>GS.leafY ?_)) (λh8=>Aa ?_ λ_=>trivial)) (λh3=>GS.leafY ?_));all_goals try have cI:=i10
 all_goals try (obtain⟨c1,c2,c3,c4,c5,c6,c7,c8⟩:=cI;clear c7 c8)
 all_goals try (obtain⟨d1,d2,d3,d4⟩:=i2;simp only[d3] at *)
 all_goals
  try simp only[Bx,Bw,Er,std,Nat.reduceAdd] at *
  try simp(disch:=omega) only[wrapId'] at *
  try simp only[Hc,List.length_replicate] at *
 all_goals first|trivial|omega|skip
 ·exact(NK _ o_).symm
 ·exact⟨o_,o_,NK _ (by simp;omega)⟩
 ·exact Vh d1 o_ d4 h8
 ·exact⟨Acy i10 o_ h16,o_⟩
 ·exact⟨Xj i10 o_ h16,o_⟩
 ·exact AbV i10 o_ _
 ·exact⟨⟨o_,o_,Z4 d1 o_ d4 h8⟩,o_⟩
 ·rw[Qb0 o_] at d4;exact d4.symm)
def fCutText:Fct:=⟨[.v (.el .str),.v (.sl .int)],[.sl .str],λ(x_:ByteArray×(List Int)×Unit)=>x_.1.size<=1048576/\x_.2.1.length<=1048576,λ(x_:ByteArray×(List Int)×Unit)=>(cutText x_.1 x_.2.1,())⟩
def Ot (s:ByteArray) (cs:List Int):(cutAts s cs).length<=7:=by
 have h1:=List.length_filter_le (λn=>inRange n 1 (s.size-1)) (cs.take 7);rw[<-PH] at h1;have h2:(cs.take 7).length<=7:=by rw[Qc0];omega
 unfold cutAts;omega
def cutPos (s:ByteArray) (cs:List Int):List Int:=CU (PP (cutAts s cs))
def Ny {s:ByteArray} {cs:List Int} {x:Int} (h:x∈cutPos s cs):1<=x/\x<=s.size-1:=by
 rw[cutPos,J4,Rq,cutAts,PH,List.mem_filter] at h;simpa [inRange] using h.2
def Aaa (s:ByteArray) (cs:List Int):(cutPos s cs).Pairwise (· < ·):=UY (le:=λa b=>a<=b) (λa b h1 h2=>o_) (λa b c h1 h2=>o_) (KR _)
def NH (s:ByteArray) (cs:List Int):(cutPos s cs).length<=7:=by
 have h1:=V7 (PP (cutAts s cs));have h2:=Nh (cutAts s cs);have h3:=Ot s cs;unfold cutPos;omega
theorem pieces_at {s:ByteArray} {l:List Int} {i:Nat} {a:Int} (h:i<l.length):pieces s (l.drop i) a=s.extract a.toNat (l.getD i default).toNat::pieces s (l.drop (i+1)) (l.getD i default):=by rw[drop_cons h];rfl
theorem pieces_end {s:ByteArray} {l:List Int} {i:Nat} {a:Int} (h:l.length<=i):pieces s (l.drop i) a=[s.extract a.toNat s.size]:=by rw[Qb1 h];rfl
structure CutInv (s:ByteArray) (cs:List Int) (l:List Int) (j:Nat) (a:Int):Prop where
 e:l=cutPos s cs
 h:∀ x∈l.drop j,a<=x
 a0:0<=a
 a1:a<=s.size
def CutInv.get {s:ByteArray} {cs l:List Int} {j:Nat} {a:Int} (h:CutInv s cs l j a) (hj:j<l.length):a<=l.getD j default/\l.getD j default<=s.size/\CutInv s cs l (j+1) (l.getD j default):=by
 obtain⟨e,h,a0,a1⟩:=h;have hm:l.getD j default∈l:=by rw[XT hj];exact List.getElem_mem hj
 have hb:1<=l.getD j default/\l.getD j default<=s.size-1:=Ny (by rw[<-e];exact hm);have hp:=Aaa s cs;rw[<-e,<-Qd2 j l,List.pairwise_append,drop_cons hj] at hp;refine⟨h _ (by rw[drop_cons hj];exact Qd7),o_,e,λx hx=>?_,o_,o_⟩;exact Int.le_of_lt ((List.pairwise_cons.1 hp.2.1).1 x hx)
def CutInv.zero (s:ByteArray) (cs:List Int):CutInv s cs (cutPos s cs) 0 0:=⟨rfl,λx hx=>by have:=Ny (by simpa using hx);omega,o_,o_⟩
theorem any_step {l:List Int} {k:Nat} {i:Int} (h:k<l.length):hasI (l.take (k+1)) i=(hasI (l.take k) i||decide (l.getD k default=i)):=by
 rw[take_succ h];simp[hasI]
theorem cutGo_step {s:ByteArray} {cs:List Int} {f:Nat} {i a:Int} (h:0<f):cutGo s cs f i a=if isCut cs i then s.extract a.toNat i.toNat::cutGo s cs (f-1) (i+1) i else cutGo s cs (f-1) (i+1) a:=by
 obtain⟨n,rfl⟩:∃ n,f=n+1:=⟨f-1,o_⟩;rfl
def W6 (cs:List Int) (i:Int):hasI (cs.take (min cs.length 7)) i=isCut cs i:=by
 unfold isCut;congr 1;rcases Nat.le_total cs.length 7 with h|h
 ·rw[Nat.min_eq_left h,List.take_length,Qb0 h]
 ·rw[Nat.min_eq_right h]
theorem hasI_zero (l:List Int) (i:Int):hasI (l.take 0) i=false:=by simp[hasI]
theorem here_end {cs:List Int} {i k:Int} (h1:min (cs.length:Int) 7<=k) (h2:k<=cs.length) (h3:k<=7):hasI (cs.take k.toNat) i=isCut cs i:=by
 rw[<-W6];congr 2;omega
theorem cutGo_end {s:ByteArray} {cs:List Int} {f:Nat} {i a:Int} (h:f=0):cutGo s cs f i a=[s.extract a.toNat s.size]:=by subst h;rfl
def Ah7 (cs:List Int):cut cs 0 ((if(7:Int)<cs.length then(7:Int) else cs.length).toNat-0)=cs.take 7:=by
 simp only[cut,Qe7];split
 ·rfl
 ·rw[Qb0 o_,Qb0 o_]
abbrev DD (s:ByteArray) (cs:(List Int)):LInv:=⟨[⟨.s,5,true,.sl .str⟩,⟨.s,6,true,.el .int⟩,⟨.s,8,true,.el .int⟩],λ_ (x_:(List ByteArray)×Int×Int×Unit)=>1<=x_.2.2.1/\(x_.2.2.1<=s.size\/x_.2.2.1=1)/\0<=x_.2.1/\x_.2.1<x_.2.2.1/\x_.2.1<=s.size/\x_.1.length<=x_.2.2.1/\x_.1++cutGo s cs (s.size-x_.2.2.1.toNat) x_.2.2.1 x_.2.1=cutText s cs,λ(x_:(List ByteArray)×Int×Int×Unit)=>s.size-x_.2.2.1.toNat⟩
abbrev Ds (s:ByteArray) (cs:(List Int)):LInv:=⟨[⟨.s,9,true,.el .bool⟩,⟨.s,10,true,.el .int⟩,⟨.s,5,true,.sl .str⟩,⟨.s,6,true,.el .int⟩,⟨.s,8,true,.el .int⟩],λ(z_ x_:Bool×Int×(List ByteArray)×Int×Int×Unit)=>x_.2.2.1=z_.2.2.1/\x_.2.2.2.1=z_.2.2.2.1/\x_.2.2.2.2.1=z_.2.2.2.2.1/\0<=x_.2.1/\x_.2.1<=cs.length/\x_.2.1<=7/\x_.1=hasI (cs.take x_.2.1.toNat) x_.2.2.2.2.1,λ(x_:Bool×Int×(List ByteArray)×Int×Int×Unit)=>7-x_.2.1.toNat⟩
def Akh:=Amp.a fCutText<|Fct.p (KP [0,1,4,5,6,7,8,9,10] [18,23,35]) (λ⟨s,cs,_⟩=>λ|5=>some (DD s cs)|9=>some (Ds s cs)|_=>none) Amp.2 func66 (by
 rintro⟨(s:ByteArray),(cs:List Int),_⟩ hp;refine ho (let q2_:=(s.size:Int);let q1_:=Value.string s=Value.string s;.cl fMin ((cs.length:Int),(7:Int),()) λ(z2:Int×PUnit)=>let q0_:=Value.int IntKind.i64 z2.1=Value.int IntKind.i64 z2.1;lpx (DD s cs) ([],((0:Int),((1:Int),()))) λ(y1:List ByteArray×Int×Int×PUnit) bk1=>.br (decide (y1.2.2.1<q2_)) (lpx (Ds s cs) (false,((0:Int),(y1.1,(y1.2.1,(y1.2.2.1,()))))) λ(y3:Bool×Int×List ByteArray×Int×Int×PUnit) bk3=>.br (decide (y3.2.1<z2.1)) (.br (y3.1) (.ob q1_<|.ob (cs=cs)<|.ob q0_<|.ob (bk3 (true,(w1 y3.2.1,(y3.2.2.1,(y3.2.2.2.1,(y3.2.2.2.2.1,()))))))<|.ok) (.ob (inB y3.2.1 cs.length)<|.ob q1_<|.ob (cs=cs)<|.ob q0_<|.ob (bk3 (cs.getD y3.2.1.toNat default==y3.2.2.2.2.1,(w1 y3.2.1,(y3.2.2.1,(y3.2.2.2.1,(y3.2.2.2.2.1,()))))))<|.ok)) (.br (y3.1) (.ob (0<=y3.2.2.2.1/\y3.2.2.2.1<=y3.2.2.2.2.1/\y3.2.2.2.2.1<=q2_)<|.ob (True)<|.ob (Br (y3.2.2.1.length+[s.extract y3.2.2.2.1.toNat y3.2.2.2.2.1.toNat].length) 16)<|.ob q1_<|.ob (cs=cs)<|.ob q0_<|.ob (bk1 (y3.2.2.1++[s.extract y3.2.2.2.1.toNat y3.2.2.2.2.1.toNat],(y3.2.2.2.2.1,(w1 y3.2.2.2.2.1,()))))<|.ok) (.ob q1_<|.ob (cs=cs)<|.ob q0_<|.ob (bk1 (y3.2.2.1,(y3.2.2.2.1,(w1 y3.2.2.2.2.1,()))))<|.ok))) (.ob (0<=y1.2.1/\y1.2.1<=q2_)<|.ob (True)<|.ob (Br (y1.1.length+[s.extract y1.2.1.toNat s.size].length) 16)<|.lf fCutText (y1.1++[s.extract y1.2.1.toNat s.size],()))) ?_;refine Ae trivial λ_=>(Ai ?_ λ(y1:List ByteArray×Int×Int×PUnit) i1=>Ab (λh2=>Ai ?_ λ(y3:Bool×Int×List ByteArray×Int×Int×PUnit) i3=>Ab (λh4=>Ab (λh5=>Aa rfl λ_=>Aa rfl λ_=>Aa rfl λ_=>Aa ?_ λ_=>trivial) (λh5=>Aa ?_ λ_=>Aa rfl λ_=>Aa rfl λ_=>Aa rfl λ_=>Aa ?_ λ_=>trivial)) (λh4=>Ab (λh9=>Aa ?_ λ_=>Aa trivial λ_=>Aa ?_ λ_=>Aa rfl λ_=>Aa rfl λ_=>Aa rfl λ_=>Aa ?_ λ_=>trivial) (λh9=>Aa rfl λ_=>Aa rfl λ_=>Aa rfl λ_=>Aa ?_ λ_=>trivial))) (λh2=>Aa ?_ λ_=>Aa trivial λ_=>Aa ?_ λ_=>lfY ?_))
 all_goals
  try simp only[DD,Ds,fCutText,fMin,std,Nat.reduceAdd,cutText,cutGo_step,cutGo_end,any_step,here_end,hasI_zero] at *
  try simp(disch:=omega) only[wrapId',toNat1] at *
  try simp(disch:=omega) only[Qa1,Qa3]
 all_goals first|trivial|omega|grind[wrapId',toNat1,good_len,maxLen,cutText,fMin,cutGo_step,cutGo_end,any_step,here_end,hasI_zero])
abbrev Dx (s:ByteArray) (cs:(List Int)):LInv:=⟨[⟨.s,5,true,.sl .int⟩,⟨.s,19,true,.el .int⟩],λ_ (x_:(List Int)×Int×Unit)=>0<=x_.2.1/\x_.2.1<=(cs.take 7).length/\x_.1.length<=x_.2.1/\x_.1++rngs (s.size-1) ((cs.take 7).drop x_.2.1.toNat)=cutAts s cs,λ(x_:(List Int)×Int×Unit)=>7-x_.2.1.toNat⟩
abbrev Di (s:ByteArray) (cs:(List Int)):LInv:=⟨[⟨.s,8,true,.sl .str⟩,⟨.s,9,true,.el .int⟩,⟨.s,39,true,.el .int⟩,⟨.s,37,true,.sl .int⟩],λ_ (x_:(List ByteArray)×Int×Int×(List Int)×Unit)=>CutInv s cs x_.2.2.2.1 x_.2.2.1.toNat x_.2.1/\0<=x_.2.2.1/\x_.2.2.1<=x_.2.2.2.1.length/\x_.1.length<=x_.2.2.1/\x_.1++pieces s (x_.2.2.2.1.drop x_.2.2.1.toNat) x_.2.1=cutText s cs,λ(x_:(List ByteArray)×Int×Int×(List Int)×Unit)=>(cutPos s cs).length-x_.2.2.1.toNat⟩
def AkL:=Akh.a fCutText<|Fct.p (KP [0,1,4,5,7,8,9,11,17,18,19,37,38,39] [20,27,40]) (λ⟨s,cs,_⟩=>λ|3=>some (Dx s cs)|12=>some (Di s cs)|_=>none) Akh.2 func75 (by
 rintro⟨(s:ByteArray),(cs:List Int),_⟩ hp;refine ho (let q10_:=(s.size:Int);let q4_:=Value.string s=Value.string s;let q2_:=(cs.length:Int);let q7_:=if(7:Int)<q2_ then(7:Int) else q2_;let q0_:=q7_.toNat-0;let q9_:=cut cs 0 q0_;let q5_:=cut cs 0 q0_=cut cs 0 q0_;let q3_:=(q9_.length:Int);let q1_:=Value.int IntKind.i64 q3_=Value.int IntKind.i64 q3_;.ob ((0<=if(7:Int)<q2_ then(7:Int) else q2_)/\q7_<=q2_)<|lpx (Dx s cs) ([],((0:Int),())) λ(y2:List Int×Int×PUnit) bk2=>.br (decide (y2.2.1<q3_)) (.ob (0<=y2.2.1/\y2.2.1<q3_)<|.cl fInRange (q9_.getD y2.2.1.toNat default,(1:Int),wr (q10_-(1:Int)),()) λz2=>.br (z2.1) (.ob (True)<|.ob (Br (y2.1.length+[q9_.getD y2.2.1.toNat default].length) 8)<|.ob q4_<|.ob (cs=cs)<|.ob q5_<|.ob q1_<|.ob (bk2 (y2.1++[q9_.getD y2.2.1.toNat default],(w1 y2.2.1,())))<|.ok) (.ob q4_<|.ob (cs=cs)<|.ob q5_<|.ob q1_<|.ob (bk2 (y2.1,(w1 y2.2.1,())))<|.ok)) (.ob (QZ.pre (y2.1,()))<|.lt _ (QZ.fn (y2.1,())) λz3=>.ob (Er.pre (z3.2.1,()))<|.lt _ (Er.fn (z3.2.1,())) λz4=>let q6_:=(z4.1.1.length:Int);lpx (Di s cs) ([],((0:Int),((0:Int),(z4.1.1,())))) λ(y11:List ByteArray×Int×Int×List Int×PUnit) bk11=>let q8_:=y11.2.2.2.1.getD y11.2.2.1.toNat default;.br (decide (y11.2.2.1<q6_)) (.ob (inB y11.2.2.1 y11.2.2.2.1.length)<|.ob (y11.2.2.1.toNat<y11.2.2.2.1.length)<|.ob (0<=y11.2.1/\y11.2.1<=y11.2.2.2.1.getD y11.2.2.1.toNat default/\y11.2.2.2.1.getD y11.2.2.1.toNat default<=q10_)<|.ob (True)<|.ob (Br (y11.1.length+[s.extract y11.2.1.toNat q8_.toNat].length) 16)<|.ob (Value.int IntKind.i64 y2.2.1=Value.int IntKind.i64 y2.2.1)<|.ob q4_<|.ob (cs=cs)<|.ob q5_<|.ob q1_<|.ob (Value.int IntKind.i64 q6_=Value.int IntKind.i64 q6_)<|.ob (bk11 (y11.1++[s.extract y11.2.1.toNat q8_.toNat],(y11.2.2.2.1.getD y11.2.2.1.toNat default,(w1 y11.2.2.1,(y11.2.2.2.1,())))))<|.ok) (.ob (0<=y11.2.1/\y11.2.1<=q10_)<|.ob (True)<|.ob (Br (y11.1.length+[s.extract y11.2.1.toNat s.size].length) 16)<|.lf fCutText (y11.1++[s.extract y11.2.1.toNat s.size],())))) ?_;refine Aa ?_ λ_=>Ai ?_ λ(y2:List Int×Int×PUnit) i2=>Ab (λh3=>Aa ?_ λ_=>Ae trivial λ_=>(Ab (λh5=>Aa trivial λ_=>Aa ?_ λ_=>Aa rfl λ_=>Aa rfl λ_=>Aa rfl λ_=>Aa rfl λ_=>Aa ?_ λ_=>trivial) (λh5=>Aa rfl λ_=>Aa rfl λ_=>Aa rfl λ_=>Aa rfl λ_=>Aa ?_ λ_=>trivial))) (λh3=>Aa ?_ λ_=>DU (Aa ?_ λ_=>DU (Ai ?_ λ(y11:List ByteArray×Int×Int×List Int×PUnit) i11=>Ab (λh12=>Aa ?_ λ_=>Aa ?_ λ_=>Aa ?_ λ_=>Aa trivial λ_=>Aa ?_ λ_=>Aa rfl λ_=>Aa rfl λ_=>Aa rfl λ_=>Aa rfl λ_=>Aa rfl λ_=>Aa rfl λ_=>Aa ?_ λ_=>trivial) (λh12=>Aa ?_ λ_=>Aa trivial λ_=>Aa ?_ λ_=>lfY ?_))))
 all_goals try simp only[Ah7] at *
 all_goals
  have hl7:=Qc0 (i:=7) (l:=cs);have hp1:=Ot s cs;have hp2:=Nh (cutAts s cs);have hp3:=NH s cs;have hp6:=Gm s cs;try simp only[Di,Dx,Er,fCutText,fInRange,QZ,std,Nat.reduceAdd] at *
  try simp(disch:=omega) only[wrapId',toNat1] at *
  try simp(disch:=omega) only[Qa1,Qa3]
 all_goals try (have q2:y2.1=cutAts s cs:=by have h:=i2.2.2.2;rw[Ach o_,Qd3] at h;exact h)
 all_goals try (simp only[q2,show CU (PP (cutAts s cs))=cutPos s cs from rfl] at *)
 all_goals try (have ce:=i11.1.e;simp only[ce] at *)
 all_goals
  try clear hp6
  try simp(disch:=omega) only[wrapId',toNat1] at *
 all_goals first|omega|skip
 all_goals try (by_cases hj:y11.2.2.1.toNat<(cutPos s cs).length;(obtain⟨g1,g2,g3⟩:=CutInv.get i11.1 hj))
 all_goals try (have g4:=i11.1.a0;have g5:=i11.1.a1)
 all_goals first|omega|skip
 all_goals first|exact⟨CutInv.zero s cs,o_,o_,o_,(Gm s cs).symm⟩|grind[cutAts,rngs_at,pieces_at,pieces_end])
def NE (s:ByteArray):∀ (l:List Int) (a:Int),(pieces s l a).length=l.length+1
 | [],_=>rfl
 | x::l,a=>by rw[pieces,Qa6,NE s l x,Qa6]
def S9 (s:ByteArray) (cs:List Int):(cutText s cs).length<=8:=by
 have:=NH s cs;rw[Gm,NE];unfold cutPos at this;omega
def nameByte (b:UInt8):Bool:=97<=b.toNat&&b.toNat<=122
def bts (s:ByteArray):List UInt8:=s.data.toList
def Aez (s:ByteArray):(bts s).length=s.size:=rfl
def Ag4 {s:ByteArray} {i:Nat} (h:i<s.size):(bts s).drop i=s.data.getD i 0::(bts s).drop (i+1):=by
 have h2:i<s.data.size:=h;have e:s.data.getD i 0=s.data[i]:=by unfold Array.getD;rw[dif_pos h2];rfl
 rw[List.drop_eq_getElem_cons (by rw[Aez];exact h),e];rfl
def Ago {s:ByteArray} {i:Nat} (h:s.size<=i):(bts s).drop i=[]:=Qb1 h
def allB (p:UInt8->Bool) (l:List UInt8):Bool:=l.all p
theorem allB_at {p:UInt8->Bool} {s:ByteArray} {i:Nat} (h:i<s.size):allB p ((bts s).drop i)=(p (s.data.getD i 0)&&allB p ((bts s).drop (i+1))):=by rw[Ag4 h];rfl
theorem allB_end {p:UInt8->Bool} {s:ByteArray} {i:Nat} (h:s.size<=i):allB p ((bts s).drop i)=true:=by rw[Ago h];rfl
def isName (s:ByteArray):Bool:=allB nameByte (bts s)&&decide (1<=s.size/\s.size<=8)
def fIsName:Fct:=⟨[.v (.el .str)],[.el .bool],λ(x_:ByteArray×Unit)=>x_.1.size<=1000000000000000000,λ(x_:ByteArray×Unit)=>(isName x_.1,())⟩
abbrev DV (s:ByteArray):LInv:=⟨[⟨.s,3,true,.el .int⟩],λ_ (x_:Int×Unit)=>0<=x_.1/\x_.1<=s.size/\allB nameByte ((bts s).drop x_.1.toNat)=allB nameByte (bts s),λ(x_:Int×Unit)=>s.size-x_.1.toNat⟩
def Aks:=AkL.a fIsName<|Fct.p (KP [0,2,3] [7,19]) (λ⟨s,_⟩=>lv [(2,DV s)]) AkL.2 func139 (by
 rintro⟨(s:ByteArray),_⟩ hp;refine ho (lpx (DV s) ((0:Int),()) λ(y1:Int×PUnit) bk1=>.br (decide (y1.1<(s.size:Int))) (.ob (0<=y1.1/\y1.1<(s.size:Int))<|.br (decide ((↑(s.data.getD y1.1.toNat 0).toNat:Int)<97)) (.lf fIsName (false,())) (.ob (0<=y1.1/\y1.1<(s.size:Int))<|.br (decide ((↑(s.data.getD y1.1.toNat 0).toNat:Int)>122)) (.lf fIsName (false,())) (.ob (Value.string s=Value.string s)<|.ob (bk1 (w1 y1.1,()))<|.ok))) (.cl fInRange ((s.size:Int),(1:Int),(8:Int),()) λz2=>.lf fIsName (z2.1,()))) ?_;refine Ai ?_ λ(y1:Int×PUnit) i1=>Ab (λh2=>Aa ?_ λ_=>Ab (λh4=>lfY ?_) (λh4=>Aa ?_ λ_=>Ab (λh6=>lfY ?_) (λh6=>Aa rfl λ_=>Aa ?_ λ_=>trivial))) (λh2=>Ae trivial λ_=>(lfY ?_))
 all_goals
  try simp only[DV,fInRange,fIsName,std,Nat.reduceAdd,isName,nameByte,inRange,allB_at,allB_end] at *
  try simp(disch:=omega) only[wrapId',toNat1] at *
  try simp(disch:=omega) only[Qa1,Qa3]
 all_goals first|trivial|omega|grind[wrapId',toNat1,good_len,maxLen,isName,nameByte,fInRange,inRange,allB_at,allB_end])
abbrev D3 (s:ByteArray):LInv:=⟨[⟨.s,3,true,.el .int⟩],λ_ (x_:Int×Unit)=>0<=x_.1/\x_.1<=s.size/\allB nameByte ((bts s).drop x_.1.toNat)=allB nameByte (bts s),λ(x_:Int×Unit)=>s.size-x_.1.toNat⟩
def AlO:=Aks.a fIsName<|Fct.p (KP [0,2,3] [7,19]) (λ⟨s,_⟩=>lv [(2,D3 s)]) Aks.2 func157 (by
 rintro⟨(s:ByteArray),_⟩ hp;refine ho (lpx (D3 s) ((0:Int),()) λ(y1:Int×PUnit) bk1=>.br (decide (y1.1<(s.size:Int))) (.ob (0<=y1.1/\y1.1<(s.size:Int))<|.br (decide ((↑(s.data.getD y1.1.toNat 0).toNat:Int)<97)) (.lf fIsName (false,())) (.ob (0<=y1.1/\y1.1<(s.size:Int))<|.br (decide ((↑(s.data.getD y1.1.toNat 0).toNat:Int)>122)) (.lf fIsName (false,())) (.ob (Value.string s=Value.string s)<|.ob (bk1 (w1 y1.1,()))<|.ok))) (.cl fInRange ((s.size:Int),(1:Int),(8:Int),()) λz2=>.lf fIsName (z2.1,()))) ?_;refine Ai ?_ λ(y1:Int×PUnit) i1=>Ab (λh2=>Aa ?_ λ_=>Ab (λh4=>lfY ?_) (λh4=>Aa ?_ λ_=>Ab (λh6=>lfY ?_) (λh6=>Aa rfl λ_=>Aa ?_ λ_=>trivial))) (λh2=>Ae trivial λ_=>(lfY ?_))
 all_goals
  try simp only[D3,fInRange,fIsName,std,Nat.reduceAdd,isName,nameByte,inRange,allB_at,allB_end] at *
  try simp(disch:=omega) only[wrapId',toNat1] at *
  try simp(disch:=omega) only[Qa1,Qa3]
 all_goals first|trivial|omega|grind[wrapId',toNat1,good_len,maxLen,isName,nameByte,fInRange,inRange,allB_at,allB_end])
def valByte (b:UInt8):Bool:=(97<=b.toNat&&b.toNat<=122)||(48<=b.toNat&&b.toNat<=57)||b.toNat==47
def isValue (s:ByteArray):Bool:=allB valByte (bts s)&&decide (1<=s.size/\s.size<=20)
def fIsValue:Fct:=⟨[.v (.el .str)],[.el .bool],λ(x_:ByteArray×Unit)=>x_.1.size<=1000000000000000000,λ(x_:ByteArray×Unit)=>(isValue x_.1,())⟩
abbrev Cv (s:ByteArray):LInv:=⟨[⟨.s,3,true,.el .int⟩],λ_ (x_:Int×Unit)=>0<=x_.1/\x_.1<=s.size/\allB valByte ((bts s).drop x_.1.toNat)=allB valByte (bts s),λ(x_:Int×Unit)=>s.size-x_.1.toNat⟩
def AlG:=AlO.a fIsValue<|Fct.p (KP [0,2,3] [7,37]) (λ⟨s,_⟩=>lv [(2,Cv s)]) AlO.2 func244 (by
 rintro⟨(s:ByteArray),_⟩ hp;refine ho (let q5_:=(s.size:Int);lpx (Cv s) ((0:Int),()) λ(y1:Int×PUnit) bk1=>let q3_:=0<=y1.1/\y1.1<q5_;let q2_:=(↑(s.data.getD y1.1.toNat 0).toNat:Int);let q1_:Out:=.ob (Value.string s=Value.string s)<|.ob (bk1 (w1 y1.1,()))<|.ok;let q4_:Out:=.ob q3_<|.br (q2_ != 47) (.lf fIsValue (false,())) q1_;let q0_:Out:=.ob q3_<|.br (decide (q2_<48)) q4_ (.ob q3_<|.br (decide (q2_>57)) q4_ q1_);.br (decide (y1.1<q5_)) (.ob q3_<|.br (decide (q2_<97)) q0_ (.ob q3_<|.br (decide (q2_>122)) q0_ q1_)) (.cl fInRange (q5_,(1:Int),(20:Int),()) λz2=>.lf fIsValue (z2.1,()))) ?_;repeat' first|(guard_target =~ Out.holds _ _;first|refine Ai (li:=Cv s) ?_ λ(y1:Int×PUnit) i1=>?_|refine lfY ?_|refine Ab (λ_=>?_) λ_=>?_|refine Ae ?_ λ_=>?_|refine Aa ?_ λ_=>?_)|exact trivial
 all_goals
  try simp only[Cv,fInRange,fIsValue,std,Nat.reduceAdd,isValue,valByte,inRange,allB_at,allB_end] at *
  try simp(disch:=omega) only[wrapId',toNat1] at *
  try simp(disch:=omega) only[Qa1,Qa3]
 all_goals first|trivial|omega|grind[wrapId',toNat1,good_len,maxLen,isValue,valByte,fInRange,inRange,allB_at,allB_end])
abbrev Cu (s:ByteArray):LInv:=⟨[⟨.s,3,true,.el .int⟩],λ_ (x_:Int×Unit)=>0<=x_.1/\x_.1<=s.size/\allB valByte ((bts s).drop x_.1.toNat)=allB valByte (bts s),λ(x_:Int×Unit)=>s.size-x_.1.toNat⟩
def Akf:=AlG.a fIsValue<|Fct.p (KP [0,2,3] [7,38]) (λ⟨s,_⟩=>lv [(2,Cu s)]) AlG.2 func270 (by
 rintro⟨(s:ByteArray),_⟩ hp;refine ho (let q6_:=(s.size:Int);let q4_:Out:=.lf fIsValue (false,());lpx (Cu s) ((0:Int),()) λ(y1:Int×PUnit) bk1=>let q3_:=0<=y1.1/\y1.1<q6_;let q2_:=(↑(s.data.getD y1.1.toNat 0).toNat:Int);let q1_:Out:=.ob (Value.string s=Value.string s)<|.ob (bk1 (w1 y1.1,()))<|.ok;let q7_:Out:=.br (!true) q4_ q1_;let q5_:Out:=.ob q3_<|.br (!q2_==47) q4_ q1_;let q0_:Out:=.ob q3_<|.br (decide (q2_>=48)) (.ob q3_<|.br (decide (q2_<=57)) q7_ q5_) q5_;.br (decide (y1.1<q6_)) (.ob q3_<|.br (decide (q2_>=97)) (.ob q3_<|.br (decide (q2_<=122)) q7_ q0_) q0_) (.cl fInRange (q6_,(1:Int),(20:Int),()) λz2=>.lf fIsValue (z2.1,()))) ?_;repeat' first|(guard_target =~ Out.holds _ _;first|refine Ai (li:=Cu s) ?_ λ(y1:Int×PUnit) i1=>?_|refine lfY ?_|refine Ab (λ_=>?_) λ_=>?_|refine Ae ?_ λ_=>?_|refine Aa ?_ λ_=>?_)|exact trivial
 all_goals
  try simp only[Cu,fInRange,fIsValue,std,Nat.reduceAdd,isValue,valByte,inRange,allB_at,allB_end] at *
  try simp(disch:=omega) only[wrapId',toNat1] at *
  try simp(disch:=omega) only[Qa1,Qa3]
 all_goals first|trivial|omega|grind[wrapId',toNat1,good_len,maxLen,isValue,valByte,fInRange,inRange,allB_at,allB_end])
def fIsAddr:Fct:=⟨[.v (.el .addr)],[.el .bool],λ(x_:Sb_×Unit)=>x_.1.host.size<=1000000000000000000/\x_.1.path.size<=1000000000000000000,λ(x_:Sb_×Unit)=>(isName x_.1.host&&isName x_.1.path,())⟩
theorem q3 (a:Sb_) (hp:fIsAddr.pre (a,())):Out.holds (fIsAddr.ctr (a,())).post (.cl fIsName (a.host,()) λz2=>.br (z2.1) (.cl fIsName (a.path,()) λz3=>.lf fIsAddr (z3.1,())) (.lf fIsAddr (false,()))):=by
 refine Ae ?_ λ_=>(Ab (λh2=>Ae ?_ λ_=>(lfY ?_)) (λh2=>lfY ?_))
 all_goals
  try simp only[fIsAddr,fIsName,std,Nat.reduceAdd] at *
  try simp(disch:=omega) only[wrapId',toNat1] at *
  try simp(disch:=omega) only[Qa1,Qa3]
 all_goals first|trivial|omega|grind[wrapId',toNat1,drop_cons,drop_end,good_len,maxLen,fIsName]
def AkQ:=Akf.a fIsAddr<|Fct.o [1,2] Akf.2 func99 (by
 rintro⟨(a:Sb_),_⟩ hp;exact ho _ (q3 a hp))
def Alv:=AkQ.a fIsAddr<|Fct.o [1,2] AkQ.2 func115 (by
 rintro⟨(a:Sb_),_⟩ hp;exact ho _ (q3 a hp))
def QV {l:List ByteArray} {i:Nat} (h:i<l.length):(l.getD i default).size+l.length<=szL Af l:=by
 have:=DZ Af h;omega
def fNames:Fct:=⟨[.v (.sl .str)],[.el .bool],λ(x_:(List ByteArray)×Unit)=>szL Af x_.1<=1099511627776,λ(x_:(List ByteArray)×Unit)=>(x_.1.all isName&&decide (x_.1.length<=4),())⟩
abbrev D4 (l:(List ByteArray)):LInv:=⟨[⟨.s,3,true,.el .int⟩],λ_ (x_:Int×Unit)=>0<=x_.1/\x_.1<=l.length/\(l.drop x_.1.toNat).all isName=l.all isName,λ(x_:Int×Unit)=>l.length-x_.1.toNat⟩
def AjL:=Alv.a fNames<|Fct.p (KP [0,2,3] [7,15]) (λ⟨l,_⟩=>lv [(2,D4 l)]) Alv.2 func243 (by
 rintro⟨(l:List ByteArray),_⟩ hp;refine ho (lpx (D4 l) ((0:Int),()) λ(y1:Int×PUnit) bk1=>.br (decide (y1.1<(l.length:Int))) (.ob (inB y1.1 l.length)<|.cl fIsName (l.getD y1.1.toNat default,()) λz2=>.br (!z2.1) (.lf fNames (false,())) (.ob (l=l)<|.ob (bk1 (w1 y1.1,()))<|.ok)) (.lf fNames (decide ((l.length:Int)<=4),()))) ?_;refine Ai ?_ λ(y1:Int×PUnit) i1=>Ab (λh2=>Aa ?_ λ_=>Ae ?_ λ_=>(Ab (λh5=>lfY ?_) (λh5=>Aa rfl λ_=>Aa ?_ λ_=>trivial))) (λh2=>lfY ?_)
 all_goals
  have hl:=Ac Af l;have hg:∀ i,i<l.length->(l.getD i default).size<=1000000000000000000:=λi h=>by have:=QV h;have hp2:szL Af l<=1099511627776:=hp;omega
  try simp only[D4,fIsName,fNames,std,Nat.reduceAdd] at *
  try simp(disch:=omega) only[wrapId',toNat1] at *
  try simp(disch:=omega) only[Qa1,Qa3]
 all_goals first|trivial|omega|grind[wrapId',toNat1,drop_cons,drop_end,good_len,maxLen,fIsName])
def fAreHosts1:Fct:=⟨[.v (.el .str)],[.el .bool],λ(x_:ByteArray×Unit)=>x_.1.size<=1000000000000000000,λ(x_:ByteArray×Unit)=>(!isName x_.1,())⟩
def Aky:=AjL.a fAreHosts1<|Fct.o [0,2] AjL.2 func331 (by
 rintro⟨(s:ByteArray),_⟩ hp;refine ho (.cl fIsName (s,()) λz2=>.lf fAreHosts1 (!z2.1,())) ?_;refine Ae ?_ λ_=>(lfY ?_)
 all_goals
  try simp only[fAreHosts1,fIsName,std,Nat.reduceAdd] at *
  try simp(disch:=omega) only[wrapId',toNat1] at *
  try simp(disch:=omega) only[Qa1,Qa3]
 all_goals first|trivial|omega|grind[wrapId',toNat1,drop_cons,drop_end,good_len,maxLen,fIsName])
def AQ:Fct:=⟨[aL .str,.c 331 []],[rI],λx=>x.1.length<=1000000000000000000/\∀ i,i<x.1.length->fAreHosts1.pre (x.1.getD i default,x.2.1),λx=>(fidx (λc=>(fAreHosts1.fn (c,x.2.1)).1) x.1 0,())⟩
abbrev Ax (l:(List ByteArray)) (u:(Unit)):LInv:=⟨[⟨.s,8,true,.el .int⟩],λ_ (x_:Int×Unit)=>0<=x_.1/\x_.1<=l.length/\fidx (λc=>(fAreHosts1.fn (c,u)).1) l 0=fidx (λc=>(fAreHosts1.fn (c,u)).1) (l.drop x_.1.toNat) x_.1,λ(x_:Int×Unit)=>l.length-x_.1.toNat⟩
def Ajx:=Aky.a AQ<|Fct.p (KP [0,1,4,5,7,8] [9,16]) (λ⟨l,u,_⟩=>lv [(2,Ax l u)]) Aky.2 func382 (by
 rintro⟨(l:List ByteArray),(u:PUnit),_⟩ hp;refine ho (lpx (Ax l u) ((0:Int),()) λ(y1:Int×PUnit) bk1=>.br (decide (y1.1<(l.length:Int))) (.ob (inB y1.1 l.length)<|.cl fAreHosts1 (l.getD y1.1.toNat default,()) λz2=>.br (z2.1) (.lf AQ (y1.1,())) (.ob (l=l)<|.ob (Value.int IntKind.i64 (l.length:Int)=Value.int IntKind.i64 (l.length:Int))<|.ob (bk1 (w1 y1.1,()))<|.ok)) (.lf AQ ((-1:Int),()))) ?_;refine Ai ?_ λ(y1:Int×PUnit) i1=>Ab (λh2=>Aa ?_ λ_=>Ae ?_ λ_=>(Ab (λh5=>lfY ?_) (λh5=>Aa rfl λ_=>Aa rfl λ_=>Aa ?_ λ_=>trivial))) (λh2=>lfY ?_)
 all_goals
  try simp only[Ax,fAreHosts1,AQ,std,Nat.reduceAdd] at *
  try have hp2:=hp.2
  try have hp1:=hp.1
 all_goals first|trivial|omega|exact hp2 _ o_|grind[wrapId',toNat1,drop_cons,drop_end,good_len,maxLen,fidx])
def fContainsFunc_str_impl_areHosts_1:Fct:=⟨[aL .str,.c 331 []],[rB],λx=>x.1.length<=1000000000000000000/\∀ i,i<x.1.length->fAreHosts1.pre (x.1.getD i default,x.2.1),λx=>(x.1.any (λc=>(fAreHosts1.fn (c,x.2.1)).1),())⟩
def Am7:=Ajx.a fContainsFunc_str_impl_areHosts_1<|Fct.o [0,1,4] Ajx.2 func330 (by
 rintro⟨(l:List ByteArray),(u:PUnit),_⟩ hp;refine ho (.cl AQ (l,(),()) λ(z2:Int×PUnit)=>.lf fContainsFunc_str_impl_areHosts_1 (decide (z2.1>=0),())) ?_;refine Ae ?_ λ_=>(lfY ?_)
 all_goals try simp only[fContainsFunc_str_impl_areHosts_1,AQ,std,Nat.reduceAdd] at *
 all_goals first|trivial|omega|exact hp|(rw[Bool.eq_iff_iff];exact decide_eq_true_iff.trans (IQ _ _ _ o_)))
def Ajd:=Am7.a fNames<|Fct.o [0,2] Am7.2 func269 (by
 rintro⟨(l:List ByteArray),_⟩ hp;refine ho (.br (decide ((↑(List.length l):Int)<=4)) (.cl fContainsFunc_str_impl_areHosts_1 (l,(),()) λz2=>.lf fNames (!z2.1,())) (.lf fNames (false,()))) ?_;refine Ab (λh1=>Ae ?_ λ_=>(lfY ?_)) (λh1=>lfY ?_);all_goals
  have hl:=Ac Af l;have hg:∀ i,i<l.length->(l.getD i default).size<=1000000000000000000:=λi h=>by have:=QV h;have hp2:szL Af l<=1099511627776:=hp;omega
  have ha:(l.any λc=>!isName c) = !(l.all isName):=by simp[List.any_eq_not_all_not]
  try simp only[fContainsFunc_str_impl_areHosts_1,fNames,std,Nat.reduceAdd,fAreHosts1] at *
  try simp(disch:=omega) only[wrapId',toNat1] at *
  try simp(disch:=omega) only[Qa1,Qa3]
 all_goals first|trivial|omega|grind[wrapId',toNat1,drop_cons,drop_end,good_len,maxLen,fContainsFunc_str_impl_areHosts_1,fAreHosts1])
def isPolicy (p:Si_):Bool:=if p.set_ then p.bp.all isName&&decide (p.bp.length<=4)&&(p.styles.all isName&&decide (p.styles.length<=4))&&(p.images.all isName&&decide (p.images.length<=4))&&(decide (p.nonce=⟨#[]⟩)||isValue p.nonce) else decide (p.bp.length=0/\p.styles.length=0/\p.images.length=0/\p.nonce=⟨#[]⟩)
def BM:Fct:=⟨[.v (.el .bj)],[.el .bool],λ(x_:Si_×Unit)=>szPolicy x_.1<=1099511627776,λ(x_:Si_×Unit)=>(isPolicy x_.1,())⟩
theorem q4 (p:Si_) (hp:BM.pre (p,())):Out.holds (BM.ctr (p,())).post (.br (!p.set_) (.br ((p.bp.length:Int)==0) (.br ((p.styles.length:Int)==0) (.br ((p.images.length:Int)==0) (.lf BM (p.nonce.toList==(⟨#[]⟩:ByteArray).toList,())) (.lf BM (false,()))) (.lf BM (false,()))) (.lf BM (false,()))) (.cl fNames (p.bp,()) λz2=>.br (z2.1) (.cl fNames (p.styles,()) λz3=>.br (z3.1) (.cl fNames (p.images,()) λz4=>.br (z4.1) (.br (p.nonce.toList==(⟨#[]⟩:ByteArray).toList) (.lf BM (true,())) (.cl fIsValue (p.nonce,()) λz5=>.lf BM (z5.1,()))) (.lf BM (false,()))) (.lf BM (false,()))) (.lf BM (false,())))):=by
 repeat' (guard_target =~ Out.holds _ _;first|refine lfY ?_|refine Ab (λ_=>?_) λ_=>?_|refine Ae ?_ λ_=>?_)
 all_goals
  try simp only[BM,fIsValue,fNames,std,Nat.reduceAdd,isPolicy,szPolicy] at *
  try simp(disch:=omega) only[wrapId',toNat1] at *
  try simp(disch:=omega) only[Qa1,Qa3]
 all_goals first|trivial|omega|grind[wrapId',toNat1,drop_cons,drop_end,good_len,maxLen,isPolicy,fNames,fIsValue,szPolicy]
def Aji:=Ajd.a BM<|Fct.o (KP [1,2] [5]) Ajd.2 func180 (by
 rintro⟨(p:Si_),_⟩ hp;exact ho _ (q4 p hp))
def AjF:=Aji.a BM<|Fct.o (KP [1,2] [5]) Aji.2 func209 (by
 rintro⟨(p:Si_),_⟩ hp;exact ho _ (q4 p hp))
def fAllows:Fct:=⟨[.v (.el .bj),.v (.el .int),.v (.el .str)],[.el .bool],λ(x_:Si_×Int×ByteArray×Unit)=>szPolicy x_.1<=1099511627776,λ(x_:Si_×Int×ByteArray×Unit)=>(!x_.1.set_||(if x_.2.1=2\/x_.2.1=5 then x_.1.bp.any (λc=>decide (c=x_.2.2.1)) else if x_.2.1=3 then x_.1.styles.any (λc=>decide (c=x_.2.2.1)) else if x_.2.1=4 then x_.1.images.any (λc=>decide (c=x_.2.2.1)) else false),())⟩
def AkF:=AjF.a fAllows<|Fct.o (KP [1,2,3,6] [7,11,22,29]) AjF.2 func325 (by
 rintro⟨(p:Si_),(k:Int),(h:ByteArray),_⟩ hp;refine ho (.br (!p.set_) (.lf fAllows (true,())) (.br (k==2) (.cl fHas9 (p.bp,h,()) λz2=>.lf fAllows (z2.1,())) (.br (k==5) (.cl fHas9 (p.bp,h,()) λz3=>.lf fAllows (z3.1,())) (.br (k==3) (.cl fHas9 (p.styles,h,()) λz4=>.lf fAllows (z4.1,())) (.br (k==4) (.cl fHas9 (p.images,h,()) λz5=>.lf fAllows (z5.1,())) (.lf fAllows (false,()))))))) ?_;repeat' (guard_target =~ Out.holds _ _;first|refine lfY ?_|refine Ab (λ_=>?_) λ_=>?_|refine Ae ?_ λ_=>?_)
 all_goals
  have hl1:=Ac Af p.bp;have hl2:=Ac Af p.styles;have hl3:=Ac Af p.images;try simp only[fAllows,fHas9,std,Nat.reduceAdd,fContains_str,szPolicy] at *
  try simp(disch:=omega) only[wrapId',toNat1] at *
  try simp(disch:=omega) only[Qa1,Qa3]
 all_goals first|trivial|omega|grind[wrapId',toNat1,drop_cons,drop_end,good_len,maxLen,fHas9,fContains_str,szPolicy])
def Ajb:=AkF.a fAllows<|Fct.o (KP [1,2,3,6,10,11] [9,18,24]) AkF.2 func357 (by
 rintro⟨(p:Si_),(k:Int),(h:ByteArray),_⟩ hp;refine ho (let q1_:Out:=.cl fContains_str (p.bp,h,()) λz2=>.lf fAllows (z2.1,());let q0_:Out:=.br (k==3) (.cl fContains_str (p.styles,h,()) λz3=>.lf fAllows (z3.1,())) (.br (k==4) (.cl fContains_str (p.images,h,()) λz4=>.lf fAllows (z4.1,())) (.lf fAllows (false,())));.br (!p.set_) (.lf fAllows (true,())) (.br (k==2) (.br (k==2) q1_ q0_) (.br (k==5) q1_ q0_))) ?_;repeat' (guard_target =~ Out.holds _ _;first|refine lfY ?_|refine Ab (λ_=>?_) λ_=>?_|refine Ae ?_ λ_=>?_)
 all_goals
  have hl1:=Ac Af p.bp;have hl2:=Ac Af p.styles;have hl3:=Ac Af p.images;try simp only[fAllows,fContains_str,std,Nat.reduceAdd,fHas9,szPolicy] at *
  try simp(disch:=omega) only[wrapId',toNat1] at *
  try simp(disch:=omega) only[Qa1,Qa3]
 all_goals first|trivial|omega|grind[wrapId',toNat1,drop_cons,drop_end,good_len,maxLen,fHas9,fContains_str,szPolicy])
def isRequest (r:Sf_):Bool:=inRange r.kind 1 5&&(isName r.to.host&&isName r.to.path)&&isName r.from_&&(decide (r.digest=⟨#[]⟩)||isValue r.digest)
def fIsRequest:Fct:=⟨[.v (.el .request)],[.el .bool],λ(x_:Sf_×Unit)=>szRequest x_.1<=1099511627776,λ(x_:Sf_×Unit)=>(isRequest x_.1,())⟩
theorem q5 (r:Sf_) (hp:fIsRequest.pre (r,())):Out.holds (fIsRequest.ctr (r,())).post (.cl fInRange (r.kind,(1:Int),(5:Int),()) λz2=>.br (z2.1) (.cl fIsAddr (r.to,()) λz3=>.br (z3.1) (.cl fIsName (r.from_,()) λz4=>.br (z4.1) (.br (r.digest.toList==(⟨#[]⟩:ByteArray).toList) (.lf fIsRequest (true,())) (.cl fIsValue (r.digest,()) λz5=>.lf fIsRequest (z5.1,()))) (.lf fIsRequest (false,()))) (.lf fIsRequest (false,()))) (.lf fIsRequest (false,()))):=by
 repeat' first|(guard_target =~ Out.holds _ _;first|refine lfY ?_|refine Ab (λ_=>?_) λ_=>?_|refine Ae ?_ λ_=>?_)|exact trivial
 all_goals
  try simp only[fInRange,fIsAddr,fIsName,fIsRequest,fIsValue,std,Nat.reduceAdd,isRequest,szRequest,szAddr] at *
  try simp(disch:=omega) only[wrapId',toNat1] at *
  try simp(disch:=omega) only[Qa1,Qa3]
 all_goals first|trivial|omega|grind[wrapId',toNat1,drop_cons,drop_end,good_len,maxLen,isRequest,fIsName,fIsAddr,fIsValue,fInRange,szRequest,szAddr]
def Ai5:=Ajb.a fIsRequest<|Fct.o [1,2] Ajb.2 func324 (by
 rintro⟨(r:Sf_),_⟩ hp;exact ho _ (q5 r hp))
def Ajf:=Ai5.a fIsRequest<|Fct.o [1,2] Ai5.2 func356 (by
 rintro⟨(r:Sf_),_⟩ hp;exact ho _ (q5 r hp))
def allows (p:Si_) (k:Int) (h:ByteArray):Bool:=(fAllows.fn (p,k,h,())).1
def checkRequest (p:Si_) (r:Sf_):Int:=if isRequest r&&(decide (r.kind=1)||allows p r.kind r.to.host) then 1 else 2
def fCheckRequest:Fct:=⟨[.v (.el .bj),.v (.el .request)],[.el .int],λ(x_:Si_×Sf_×Unit)=>szPolicy x_.1<=1099511627776/\szRequest x_.2.1<=1099511627776,λ(x_:Si_×Sf_×Unit)=>(checkRequest x_.1 x_.2.1,())⟩
theorem q6 (p:Si_) (r:Sf_) (hp:fCheckRequest.pre (p,r,())):Out.holds (fCheckRequest.ctr (p,r,())).post (.cl fIsRequest (r,()) λz2=>.br (!z2.1) (.lf fCheckRequest ((2:Int),())) (.br (r.kind != 1) (.cl fAllows (p,r.kind,r.to.host,()) λz3=>.br (!z3.1) (.lf fCheckRequest ((2:Int),())) (.lf fCheckRequest ((1:Int),()))) (.lf fCheckRequest ((1:Int),())))):=by
 refine Ae ?_ λ_=>(Ab (λh2=>lfY ?_) (λh2=>Ab (λh3=>Ae ?_ λ_=>(Ab (λh5=>lfY ?_) (λh5=>lfY ?_))) (λh3=>lfY ?_)))
 all_goals
  try simp only[fAllows,fCheckRequest,fIsRequest,std,Nat.reduceAdd,checkRequest,allows] at *
  try simp(disch:=omega) only[wrapId',toNat1] at *
  try simp(disch:=omega) only[Qa1,Qa3]
 all_goals first|trivial|omega|grind[wrapId',toNat1,drop_cons,drop_end,good_len,maxLen,checkRequest,allows,fAllows,fIsRequest]
def Al0:=Ajf.a fCheckRequest<|Fct.o (KP [2,3,4] [22]) Ajf.2 func260 (by
 rintro⟨(p:Si_),(r:Sf_),_⟩ hp;exact ho _ (q6 p r hp))
def AlU:=Al0.a fCheckRequest<|Fct.o (KP [2,3,4] [22]) Al0.2 func295 (by
 rintro⟨(p:Si_),(r:Sf_),_⟩ hp;exact ho _ (q6 p r hp))
def fFitsKind:Fct:=⟨[.v (.el .bd),.v (.el .int)],[.el .bool],λ(x_:Sd_×Int×Unit)=>True,λ(x_:Sd_×Int×Unit)=>(decide (x_.1.kind=x_.2.1)||decide (x_.2.1=5/\x_.1.kind=2),())⟩
theorem q7 (x:Sd_) (k:Int) (hp:fFitsKind.pre (x,k,())):Out.holds (fFitsKind.ctr (x,k,())).post (.br (x.kind==k) (.lf fFitsKind (true,())) (.br (k==5) (.lf fFitsKind (x.kind==2,())) (.lf fFitsKind (false,())))):=by
 refine Ab (λh1=>lfY ?_) (λh1=>Ab (λh2=>lfY ?_) (λh2=>lfY ?_));all_goals
  try simp only[fFitsKind,std,Nat.reduceAdd] at *
  try simp(disch:=omega) only[wrapId',toNat1] at *
  try simp(disch:=omega) only[Qa1,Qa3]
 all_goals first|trivial|omega|grind[wrapId',toNat1,drop_cons,drop_end,good_len,maxLen]
def Al3:=AlU.a fFitsKind<|Fct.o [1,2,4] AlU.2 func372 (by
 rintro⟨(x:Sd_),(k:Int),_⟩ hp;exact ho _ (q7 x k hp))
def Ak3:=Al3.a fFitsKind<|Fct.o [1,2,4] Al3.2 func399 (by
 rintro⟨(x:Sd_),(k:Int),_⟩ hp;exact ho _ (q7 x k hp))
def notFound:Sd_:=⟨404,1,⟨#[]⟩,0,false,⟨#[]⟩⟩
def fNotFound:Fct:=⟨[],[rE .bd],λ_=>True,λ_=>(notFound,())⟩
def Ale:=Ak3.a fNotFound<|Fct.o [0] Ak3.2 func100 (by
 rintro⟨_⟩ hp;refine ho (.lf fNotFound (⟨(404:Int),(1:Int),(⟨#[]⟩:ByteArray),(0:Int),false,(⟨#[]⟩:ByteArray)⟩,())) ?_;refine lfY ?_;all_goals try simp only[fNotFound,std,Nat.reduceAdd] at *
 all_goals first|trivial|omega|(simp_all;done)|(simp_all;omega)|grind)
def AkN:=Ale.a fNotFound<|Fct.o [0] Ale.2 func116 (by
 rintro⟨_⟩ hp;refine ho (.lf fNotFound (⟨(404:Int),(1:Int),(⟨#[]⟩:ByteArray),(0:Int),false,(⟨#[]⟩:ByteArray)⟩,())) ?_;refine lfY ?_;all_goals try simp only[fNotFound,std,Nat.reduceAdd] at *
 all_goals first|trivial|omega|(simp_all;done)|(simp_all;omega)|grind)
def fCopyServers:Fct:=⟨[.v (.sl .server)],[.sl .server],λ(x_:(List Sk_)×Unit)=>szL A1 x_.1<=68719476736,λ(x_:(List Sk_)×Unit)=>(x_.1,())⟩
abbrev CH (l:(List Sk_)):LInv:=⟨[⟨.s,3,true,.sl .server⟩,⟨.s,4,true,.el .int⟩],λ_ (x_:(List Sk_)×Int×Unit)=>0<=x_.2.1/\x_.2.1<=l.length/\x_.1=l.take x_.2.1.toNat,λ(x_:(List Sk_)×Int×Unit)=>l.length-x_.2.1.toNat⟩
def AnF:=AkN.a fCopyServers<|Fct.p (KP [0,2,3,4] [9]) (λ⟨l,_⟩=>lv [(3,CH l)]) AkN.2 func137 (by
 rintro⟨(l:List Sk_),_⟩ hp;refine ho (lpx (CH l) ([],((0:Int),())) λ(y1:List Sk_×Int×PUnit) bk1=>.br (decide (y1.2.1<(l.length:Int))) (.ob (inB y1.2.1 l.length)<|.ob (inB y1.2.1 l.length)<|.ob (True)<|.ob (Br (l.getD y1.2.1.toNat default).files.length 80)<|.ob (Br (y1.1.length+[l.getD y1.2.1.toNat default].length) 40)<|.ob (l=l)<|.ob (bk1 (y1.1++[l.getD y1.2.1.toNat default],(w1 y1.2.1,())))<|.ok) (.lf fCopyServers (y1.1,()))) ?_;refine Ai ?_ λ(y1:List Sk_×Int×PUnit) i1=>Ab (λh2=>Aa ?_ λ_=>Aa ?_ λ_=>Aa trivial λ_=>Aa ?_ λ_=>Aa ?_ λ_=>Aa rfl λ_=>Aa ?_ λ_=>trivial) (λh2=>lfY ?_)
 all_goals
  have hl:=Ac A1 l;have hg:∀ i,i<l.length->(l.getD i default).files.length<=68719476736:=λi h=>by have:=Hx h;have hp2:szL A1 l<=68719476736:=hp;omega
  try simp only[CH,fCopyServers,std,Nat.reduceAdd,take_succ,take_end] at *
  try simp(disch:=omega) only[wrapId',toNat1] at *
  try simp(disch:=omega) only[Qa1,Qa3]
 all_goals first|trivial|omega|grind[wrapId',toNat1,drop_cons,drop_end,good_len,maxLen,take_succ,take_end])
abbrev B3 (l:(List Sk_)):LInv:=⟨[⟨.s,3,true,.sl .server⟩,⟨.s,9,true,.el .int⟩],λ_ (x_:(List Sk_)×Int×Unit)=>0<=x_.2.1/\x_.2.1<=l.length/\x_.1=l.take x_.2.1.toNat,λ(x_:(List Sk_)×Int×Unit)=>l.length-x_.2.1.toNat⟩
def Aje:=AnF.a fCopyServers<|Fct.p (KP [0,2,3,5,7,8,9] [10]) (λ⟨l,_⟩=>lv [(3,B3 l)]) AnF.2 func155 (by
 rintro⟨(l:List Sk_),_⟩ hp;refine ho (lpx (B3 l) ([],((0:Int),())) λ(y1:List Sk_×Int×PUnit) bk1=>.br (decide (y1.2.1<(l.length:Int))) (.ob (inB y1.2.1 l.length)<|.ob (True)<|.ob (Br (l.getD y1.2.1.toNat default).files.length 80)<|.ob (Br (y1.1.length+[l.getD y1.2.1.toNat default].length) 40)<|.ob (l=l)<|.ob (l=l)<|.ob (Value.int IntKind.i64 (l.length:Int)=Value.int IntKind.i64 (l.length:Int))<|.ob (bk1 (y1.1++[l.getD y1.2.1.toNat default],(w1 y1.2.1,())))<|.ok) (.lf fCopyServers (y1.1,()))) ?_;refine Ai ?_ λ(y1:List Sk_×Int×PUnit) i1=>Ab (λh2=>Aa ?_ λ_=>Aa trivial λ_=>Aa ?_ λ_=>Aa ?_ λ_=>Aa rfl λ_=>Aa rfl λ_=>Aa rfl λ_=>Aa ?_ λ_=>trivial) (λh2=>lfY ?_)
 all_goals
  have hl:=Ac A1 l;have hg:∀ i,i<l.length->(l.getD i default).files.length<=68719476736:=λi h=>by have:=Hx h;have hp2:szL A1 l<=68719476736:=hp;omega
  try simp only[B3,fCopyServers,std,Nat.reduceAdd,take_succ,take_end] at *
  try simp(disch:=omega) only[wrapId',toNat1] at *
  try simp(disch:=omega) only[Qa1,Qa3]
 all_goals first|trivial|omega|grind[wrapId',toNat1,drop_cons,drop_end,good_len,maxLen,take_succ,take_end])
def fCopyCache:Fct:=⟨[.v (.el .cache)],[.el .cache],λ(x_:Sl_×Unit)=>szCache x_.1<=68719476736,λ(x_:Sl_×Unit)=>(x_.1,())⟩
theorem q8 (c:Sl_) (hp:fCopyCache.pre (c,())):Out.holds (fCopyCache.ctr (c,())).post (.ob (True)<|.ob (Br (0+c.bg.length) 120)<|.lf fCopyCache (⟨[]++c.bg⟩,())):=by
 refine Aa trivial λ_=>Aa ?_ λ_=>lfY ?_
 all_goals
  have hl:=Ac AM c.bg;try simp only[fCopyCache,std,Nat.reduceAdd,szCache] at *
  try simp(disch:=omega) only[wrapId',toNat1] at *
  try simp(disch:=omega) only[Qa1,Qa3]
 all_goals first|trivial|omega|grind[wrapId',toNat1,drop_cons,drop_end,good_len,maxLen,szCache]
def Am1:=Aje.a fCopyCache<|Fct.o [1,2] Aje.2 func138 (by
 rintro⟨(c:Sl_),_⟩ hp;exact ho _ (q8 c hp))
def AjZ:=Am1.a fCopyCache<|Fct.o [1,2] Am1.2 func156 (by
 rintro⟨(c:Sl_),_⟩ hp;exact ho _ (q8 c hp))
def fCopyNet:Fct:=⟨[.v (.el .net)],[.el .net],λ(x_:Ss_×Unit)=>szNet x_.1<=68719476736,λ(x_:Ss_×Unit)=>(x_.1,())⟩
theorem q9 (n:Ss_) (hp:fCopyNet.pre (n,())):Out.holds (fCopyNet.ctr (n,())).post (.cl fCopyServers (n.servers,()) λz2=>.cl fCopyCache (n.cache,()) λz3=>.ob (True)<|.ob (Br n.log.length 56)<|.lf fCopyNet (⟨z2.1,z3.1,n.log,n.now⟩,())):=by
 refine Ae ?_ λ_=>(Ae ?_ λ_=>(Aa trivial λ_=>Aa ?_ λ_=>lfY ?_))
 all_goals
  have hl:=Ac DO n.log;try simp only[fCopyCache,fCopyNet,fCopyServers,std,Nat.reduceAdd,szNet] at *
  try simp(disch:=omega) only[wrapId',toNat1] at *
  try simp(disch:=omega) only[Qa1,Qa3]
 all_goals first|trivial|omega|grind[wrapId',toNat1,drop_cons,drop_end,good_len,maxLen,szNet,fCopyServers,fCopyCache]
def Aj5:=AjZ.a fCopyNet<|Fct.o [1,2] AjZ.2 func98 (by
 rintro⟨(n:Ss_),_⟩ hp;exact ho _ (q9 n hp))
def Am5:=Aj5.a fCopyNet<|Fct.o [1,2] Aj5.2 func114 (by
 rintro⟨(n:Ss_),_⟩ hp;exact ho _ (q9 n hp))
def fServerAt:Fct:=⟨[.v (.sl .server),.v (.el .str)],[.el .int],λ(x_:(List Sk_)×ByteArray×Unit)=>x_.1.length<=1000000000000,λ(x_:(List Sk_)×ByteArray×Unit)=>(fidx (λs=>decide (s.host=x_.2.1)) x_.1 0,())⟩
abbrev C1 (l:(List Sk_)) (h:ByteArray):LInv:=⟨[⟨.s,5,true,.el .int⟩],λ_ (x_:Int×Unit)=>0<=x_.1/\x_.1<=l.length/\fidx (λs=>decide (s.host=h)) (l.drop x_.1.toNat) x_.1=fidx (λs=>decide (s.host=h)) l 0,λ(x_:Int×Unit)=>l.length-x_.1.toNat⟩
def Aj3:=Am5.a fServerAt<|Fct.p (KP [0,1,4,5] [9,18]) (λ⟨l,h,_⟩=>lv [(2,C1 l h)]) Am5.2 func140 (by
 rintro⟨(l:List Sk_),(h:ByteArray),_⟩ hp;refine ho (lpx (C1 l h) ((0:Int),()) λ(y1:Int×PUnit) bk1=>.br (decide (y1.1<(l.length:Int))) (.ob (inB y1.1 l.length)<|.br ((l.getD y1.1.toNat default).host.toList==h.toList) (.lf fServerAt (y1.1,())) (.ob (l=l)<|.ob (Value.string h=Value.string h)<|.ob (bk1 (w1 y1.1,()))<|.ok)) (.lf fServerAt ((-1:Int),()))) ?_;refine Ai ?_ λ(y1:Int×PUnit) i1=>Ab (λh2=>Aa ?_ λ_=>Ab (λh4=>lfY ?_) (λh4=>Aa rfl λ_=>Aa rfl λ_=>Aa ?_ λ_=>trivial)) (λh2=>lfY ?_)
 all_goals
  try simp only[C1,fServerAt,std,Nat.reduceAdd,fidx] at *
  try simp(disch:=omega) only[wrapId',toNat1] at *
  try simp(disch:=omega) only[Qa1,Qa3]
 all_goals first|trivial|omega|grind[wrapId',toNat1,drop_cons,drop_end,good_len,maxLen,fidx])
def fServerAt1:Fct:=⟨[.v (.el .server),.p (.el .str)],[.el .bool],λ(x_:Sk_×ByteArray×Unit)=>True,λ(x_:Sk_×ByteArray×Unit)=>(decide (x_.1.host=x_.2.1),())⟩
def Ajh:=Aj3.a fServerAt1<|Fct.o [1,2,3] Aj3.2 func202 (by
 rintro⟨(s:Sk_),(h:ByteArray),_⟩ hp;refine ho (.lf fServerAt1 (s.host.toList==ByteArray.toList h,())) ?_;refine lfY ?_;all_goals
  try simp only[fServerAt1,std,Nat.reduceAdd] at *
  try simp(disch:=omega) only[wrapId',toNat1] at *
  try simp(disch:=omega) only[Qa1,Qa3]
 all_goals first|trivial|omega|grind[wrapId',toNat1,drop_cons,drop_end,good_len,maxLen])
def AI:Fct:=⟨[aL .server,.c 202 [.el .str]],[rI],λx=>x.1.length<=1000000000000000000/\∀ c,fServerAt1.pre (c,x.2.1),λx=>(fidx (λc=>(fServerAt1.fn (c,x.2.1)).1) x.1 0,())⟩
abbrev Aj (l:(List Sk_)) (u:(ByteArray×Unit)):LInv:=⟨[⟨.s,8,true,.el .int⟩],λ_ (x_:Int×Unit)=>0<=x_.1/\x_.1<=l.length/\fidx (λc=>(fServerAt1.fn (c,u)).1) l 0=fidx (λc=>(fServerAt1.fn (c,u)).1) (l.drop x_.1.toNat) x_.1,λ(x_:Int×Unit)=>l.length-x_.1.toNat⟩
def Ai0:=Ajh.a AI<|Fct.p (KP [0,1,4,5,7,8] [9,16]) (λ⟨l,u,_⟩=>lv [(2,Aj l u)]) Ajh.2 func201 (by
 rintro⟨(l:List Sk_),(u:ByteArray×PUnit),_⟩ hp;refine ho (lpx (Aj l u) ((0:Int),()) λ(y1:Int×PUnit) bk1=>.br (decide (y1.1<(l.length:Int))) (.ob (inB y1.1 l.length)<|.cl fServerAt1 (l.getD y1.1.toNat default,u.1,()) λz2=>.br (z2.1) (.lf AI (y1.1,())) (.ob (l=l)<|.ob (enc Ty.str u.1=enc Ty.str u.1)<|.ob (Value.int IntKind.i64 (l.length:Int)=Value.int IntKind.i64 (l.length:Int))<|.ob (bk1 (w1 y1.1,()))<|.ok)) (.lf AI ((-1:Int),()))) ?_;refine Ai ?_ λ(y1:Int×PUnit) i1=>Ab (λh2=>Aa ?_ λ_=>Ae trivial λ_=>(Ab (λh4=>lfY ?_) (λh4=>Aa rfl λ_=>Aa rfl λ_=>Aa rfl λ_=>Aa ?_ λ_=>trivial))) (λh2=>lfY ?_)
 all_goals
  try simp only[Aj,AI,fServerAt1,std,Nat.reduceAdd] at *
  try have hp2:=hp.2
  try have hp1:=hp.1
 all_goals first|trivial|omega|grind[wrapId',toNat1,drop_cons,drop_end,good_len,maxLen,fidx])
def AmX:=Ai0.a fServerAt<|Fct.o [0,3,4] Ai0.2 func160 (by
 rintro⟨(l:List Sk_),(h:ByteArray),_⟩ hp;refine ho (.cl AI (l,(h,()),()) λ(z2:Int×PUnit)=>.lf fServerAt (z2.1,())) ?_;refine Ae ?_ λ_=>(lfY ?_)
 all_goals
  try simp only[AI,fServerAt,std,Nat.reduceAdd,fServerAt1] at *
  try simp(disch:=omega) only[wrapId',toNat1] at *
  try simp(disch:=omega) only[Qa1,Qa3]
 all_goals first|trivial|omega|grind[wrapId',toNat1,drop_cons,drop_end,good_len,maxLen,fServerAt1])
def fFileAt:Fct:=⟨[.v (.el .server),.v (.el .str)],[.el .int],λ(x_:Sk_×ByteArray×Unit)=>x_.1.files.length<=1000000000000,λ(x_:Sk_×ByteArray×Unit)=>(fidx (λf=>decide (f.path=x_.2.1)) x_.1.files 0,())⟩
abbrev DS (s:Sk_) (p:ByteArray):LInv:=⟨[⟨.s,5,true,.el .int⟩,⟨.b,2,false,.el .server⟩],λ(z_ x_:Int×Sk_×Unit)=>(0<=x_.1/\x_.1<=s.files.length/\fidx (λf=>decide (f.path=p)) (s.files.drop x_.1.toNat) x_.1=fidx (λf=>decide (f.path=p)) s.files 0)/\x_.2.1=z_.2.1,λ(x_:Int×Sk_×Unit)=>s.files.length-x_.1.toNat⟩
def Anh:=AmX.a fFileAt<|Fct.p (KP [1,2,4,5] [10,20]) (λ⟨s,p,_⟩=>lv [(2,DS s p)]) AmX.2 func141 (by
 rintro⟨(s:Sk_),(p:ByteArray),_⟩ hp;refine ho (lpx (DS s p) ((0:Int),(s,())) λ(y1:Int×Sk_×PUnit) bk1=>.br (decide (y1.1<(y1.2.1.files.length:Int))) (.ob (inB y1.1 y1.2.1.files.length)<|.br ((y1.2.1.files.getD y1.1.toNat default).path.toList==p.toList) (.lf fFileAt (y1.1,())) (.ob (Value.string p=Value.string p)<|.ob (bk1 (w1 y1.1,(y1.2.1,())))<|.ok)) (.lf fFileAt ((-1:Int),()))) ?_;refine Ai ?_ λ(y1:Int×Sk_×PUnit) i1=>Ab (λh2=>Aa ?_ λ_=>Ab (λh4=>lfY ?_) (λh4=>Aa rfl λ_=>Aa ?_ λ_=>trivial)) (λh2=>lfY ?_)
 all_goals
  try simp only[DS,fFileAt,std,Nat.reduceAdd,fidx] at *
  try simp(disch:=omega) only[wrapId',toNat1] at *
  try simp(disch:=omega) only[Qa1,Qa3]
 all_goals first|trivial|omega|grind[wrapId',toNat1,drop_cons,drop_end,good_len,maxLen,fidx])
def fFileAt1:Fct:=⟨[.v (.el .file),.p (.el .str)],[.el .bool],λ(x_:Sv_×ByteArray×Unit)=>True,λ(x_:Sv_×ByteArray×Unit)=>(decide (x_.1.path=x_.2.1),())⟩
def AjE:=Anh.a fFileAt1<|Fct.o [1,2,3] Anh.2 func204 (by
 rintro⟨(f:Sv_),(p:ByteArray),_⟩ hp;refine ho (.lf fFileAt1 (f.path.toList==ByteArray.toList p,())) ?_;refine lfY ?_;all_goals
  try simp only[fFileAt1,std,Nat.reduceAdd] at *
  try simp(disch:=omega) only[wrapId',toNat1] at *
  try simp(disch:=omega) only[Qa1,Qa3]
 all_goals first|trivial|omega|grind[wrapId',toNat1,drop_cons,drop_end,good_len,maxLen])
def AV:Fct:=⟨[aL .file,.c 204 [.el .str]],[rI],λx=>x.1.length<=1000000000000000000/\∀ c,fFileAt1.pre (c,x.2.1),λx=>(fidx (λc=>(fFileAt1.fn (c,x.2.1)).1) x.1 0,())⟩
abbrev Ar (l:(List Sv_)) (u:(ByteArray×Unit)):LInv:=⟨[⟨.s,8,true,.el .int⟩],λ_ (x_:Int×Unit)=>0<=x_.1/\x_.1<=l.length/\fidx (λc=>(fFileAt1.fn (c,u)).1) l 0=fidx (λc=>(fFileAt1.fn (c,u)).1) (l.drop x_.1.toNat) x_.1,λ(x_:Int×Unit)=>l.length-x_.1.toNat⟩
def AjW:=AjE.a AV<|Fct.p (KP [0,1,4,5,7,8] [9,16]) (λ⟨l,u,_⟩=>lv [(2,Ar l u)]) AjE.2 func203 (by
 rintro⟨(l:List Sv_),(u:ByteArray×PUnit),_⟩ hp;refine ho (lpx (Ar l u) ((0:Int),()) λ(y1:Int×PUnit) bk1=>.br (decide (y1.1<(l.length:Int))) (.ob (inB y1.1 l.length)<|.cl fFileAt1 (l.getD y1.1.toNat default,u.1,()) λz2=>.br (z2.1) (.lf AV (y1.1,())) (.ob (l=l)<|.ob (enc Ty.str u.1=enc Ty.str u.1)<|.ob (Value.int IntKind.i64 (l.length:Int)=Value.int IntKind.i64 (l.length:Int))<|.ob (bk1 (w1 y1.1,()))<|.ok)) (.lf AV ((-1:Int),()))) ?_;refine Ai ?_ λ(y1:Int×PUnit) i1=>Ab (λh2=>Aa ?_ λ_=>Ae trivial λ_=>(Ab (λh4=>lfY ?_) (λh4=>Aa rfl λ_=>Aa rfl λ_=>Aa rfl λ_=>Aa ?_ λ_=>trivial))) (λh2=>lfY ?_)
 all_goals
  try simp only[Ar,fFileAt1,AV,std,Nat.reduceAdd] at *
  try have hp2:=hp.2
  try have hp1:=hp.1
 all_goals first|trivial|omega|grind[wrapId',toNat1,drop_cons,drop_end,good_len,maxLen,fidx])
def Ajw:=AjW.a fFileAt<|Fct.o [2,3,4] AjW.2 func161 (by
 rintro⟨(s:Sk_),(p:ByteArray),_⟩ hp;refine ho (.cl AV (s.files,(p,()),()) λ(z2:Int×PUnit)=>.lf fFileAt (z2.1,())) ?_;refine Ae ?_ λ_=>(lfY ?_)
 all_goals
  try simp only[fFileAt,AV,std,Nat.reduceAdd,fFileAt1] at *
  try simp(disch:=omega) only[wrapId',toNat1] at *
  try simp(disch:=omega) only[Qa1,Qa3]
 all_goals first|trivial|omega|grind[wrapId',toNat1,drop_cons,drop_end,good_len,maxLen,fFileAt1])
def answerTo (l:List Sk_) (a:Sb_):Sd_:=if fidx (λs=>decide (s.host=a.host)) l 0<0 then notFound else if fidx (λf=>decide (f.path=a.path)) (l.getD (fidx (λs=>decide (s.host=a.host)) l 0).toNat default).files 0<0 then notFound else((l.getD (fidx (λs=>decide (s.host=a.host)) l 0).toNat default).files.getD (fidx (λf=>decide (f.path=a.path)) (l.getD (fidx (λs=>decide (s.host=a.host)) l 0).toNat default).files 0).toNat default).bd
def fAnswerTo:Fct:=⟨[.v (.sl .server),.v (.el .addr)],[.el .bd],λ(x_:(List Sk_)×Sb_×Unit)=>szL A1 x_.1<=68719476736,λ(x_:(List Sk_)×Sb_×Unit)=>(answerTo x_.1 x_.2.1,())⟩
theorem q10 (l:List Sk_) (a:Sb_) (hp:fAnswerTo.pre (l,a,())):Out.holds (fAnswerTo.ctr (l,a,())).post (.cl fServerAt (l,a.host,()) λ(z2:Int×PUnit)=>.br (decide (z2.1<0)) (.cl fNotFound () λz3=>.lf fAnswerTo (z3.1,())) (.ob (0<=z2.1/\z2.1<(↑(List.length l):Int))<|.cl fFileAt (List.getD l z2.1.toNat default,a.path,()) λ(z4:Int×PUnit)=>.br (decide (z4.1<0)) (.cl fNotFound () λz5=>.lf fAnswerTo (z5.1,())) (.ob (0<=z2.1/\z2.1<(↑(List.length l):Int))<|.ob (0<=z4.1/\z4.1<(↑(List.getD l z2.1.toNat default).files.length:Int))<|.lf fAnswerTo (((List.getD l z2.1.toNat default).files.getD z4.1.toNat default).bd,())))):=by
 refine Ae ?_ λ_=>(Ab (λh2=>Ae trivial λ_=>(lfY ?_)) (λh2=>Aa ?_ λ_=>Ae ?_ λ_=>(Ab (λh5=>Ae trivial λ_=>(lfY ?_)) (λh5=>Aa ?_ λ_=>Aa ?_ λ_=>lfY ?_))))
 all_goals
  have hl:=Ac A1 l;have hg:∀ i,i<l.length->(l.getD i default).files.length<=68719476736:=λi h=>by have:=Hx h;have hp2:szL A1 l<=68719476736:=hp;omega
  have hf:=EY (λs:Sk_=>decide (s.host=a.host)) l 0 o_;have hf2:=λfs=>EY (λf:Sv_=>decide (f.path=a.path)) fs 0 o_
  try simp only[fAnswerTo,fFileAt,fNotFound,fServerAt,std,Nat.reduceAdd,answerTo] at *
  try simp(disch:=omega) only[wrapId',toNat1] at *
  try simp(disch:=omega) only[Qa1,Qa3]
 all_goals first|trivial|omega|grind[wrapId',toNat1,drop_cons,drop_end,good_len,maxLen,answerTo,fServerAt,fFileAt,fNotFound]
def Al2:=Ajw.a fAnswerTo<|Fct.o (KP [0,3,4,5,6] [12,22]) Ajw.2 func102 (by
 rintro⟨(l:List Sk_),(a:Sb_),_⟩ hp;exact ho _ (q10 l a hp))
def Amn:=Al2.a fAnswerTo<|Fct.o (KP [0,3,4,5,6] [12,22]) Al2.2 func118 (by
 rintro⟨(l:List Sk_),(a:Sb_),_⟩ hp;exact ho _ (q10 l a hp))
def fFindEntry:Fct:=⟨[.v (.el .cache),.v (.el .str),.v (.el .addr)],[.el .int],λ(x_:Sl_×ByteArray×Sb_×Unit)=>x_.1.bg.length<=1000000000000,λ(x_:Sl_×ByteArray×Sb_×Unit)=>(fidx (λe=>decide (e.top=x_.2.1)&&decide (e.to=x_.2.2.1)) x_.1.bg 0,())⟩
abbrev C8 (c:Sl_) (t:ByteArray) (a:Sb_):LInv:=⟨[⟨.s,7,true,.el .int⟩,⟨.b,3,false,.el .cache⟩,⟨.b,5,true,.el .addr⟩],λ(z_ x_:Int×Sl_×Sb_×Unit)=>((0<=x_.1/\x_.1<=c.bg.length/\fidx (λe=>decide (e.top=t)&&decide (e.to=a)) (c.bg.drop x_.1.toNat) x_.1=fidx (λe=>decide (e.top=t)&&decide (e.to=a)) c.bg 0)/\x_.2.1=z_.2.1)/\x_.2.2.1=z_.2.2.1,λ(x_:Int×Sl_×Sb_×Unit)=>c.bg.length-x_.1.toNat⟩
def AkW:=Amn.a fFindEntry<|Fct.p (KP [1,3,5,6,7] [12,32]) (λ⟨c,t,a,_⟩=>lv [(2,C8 c t a)]) Amn.2 func179 (by
 rintro⟨(c:Sl_),(t:ByteArray),(a:Sb_),_⟩ hp;refine ho (lpx (C8 c t a) ((0:Int),(c,(a,()))) λ(y1:Int×Sl_×Sb_×PUnit) bk1=>let q2_:=inB y1.1 y1.2.1.bg.length;let q1_:=y1.2.1.bg.getD y1.1.toNat default;let q0_:Out:=.ob (Value.string t=Value.string t)<|.ob (bk1 (w1 y1.1,(y1.2.1,(y1.2.2.1,()))))<|.ok;.br (decide (y1.1<(y1.2.1.bg.length:Int))) (.ob q2_<|.br (q1_.top.toList==t.toList) (.ob q2_<|.br (q1_.to.host==y1.2.2.1.host&&(q1_.to.path==y1.2.2.1.path&&true)) (.lf fFindEntry (y1.1,())) q0_) q0_) (.lf fFindEntry ((-1:Int),()))) ?_;refine Ai ?_ λ(y1:Int×Sl_×Sb_×PUnit) i1=>Ab (λh2=>Aa ?_ λ_=>Ab (λh4=>Aa ?_ λ_=>Ab (λh6=>lfY ?_) (λh6=>Aa rfl λ_=>Aa ?_ λ_=>trivial)) (λh4=>Aa rfl λ_=>Aa ?_ λ_=>trivial)) (λh2=>lfY ?_)
 all_goals
  try simp only[Dh] at *
  try simp only[C8,fFindEntry,std,Nat.reduceAdd,fidx] at *
  try simp(disch:=omega) only[wrapId',toNat1] at *
  try simp(disch:=omega) only[Qa1,Qa3]
 all_goals first|trivial|omega|grind[wrapId',toNat1,drop_cons,drop_end,good_len,maxLen,fidx])
def fEntryAt1:Fct:=⟨[.v (.el .entry),.p (.el .str),.p (.el .addr)],[.el .bool],λ(x_:Sq_×ByteArray×Sb_×Unit)=>True,λ(x_:Sq_×ByteArray×Sb_×Unit)=>(decide (x_.1.top=x_.2.1)&&decide (x_.1.to=x_.2.2.1),())⟩
def Amv:=AkW.a fEntryAt1<|Fct.o [1,2,3,4] AkW.2 func264 (by
 rintro⟨(e:Sq_),(t:ByteArray),(a:Sb_),_⟩ hp;refine ho (.br (e.top.toList==ByteArray.toList t) (.lf fEntryAt1 (e.to.host==a.host&&(e.to.path==a.path&&true),())) (.lf fEntryAt1 (false,()))) ?_;refine Ab (λh1=>lfY ?_) (λh1=>lfY ?_);all_goals
  try simp only[Dh] at *
  try simp only[fEntryAt1,std,Nat.reduceAdd] at *
  try simp(disch:=omega) only[wrapId',toNat1] at *
  try simp(disch:=omega) only[Qa1,Qa3]
 all_goals first|trivial|omega|grind[wrapId',toNat1,drop_cons,drop_end,good_len,maxLen])
def AN:Fct:=⟨[aL .entry,.c 264 [.el .str,.el .addr]],[rI],λx=>x.1.length<=1000000000000000000/\∀ c,fEntryAt1.pre (c,x.2.1),λx=>(fidx (λc=>(fEntryAt1.fn (c,x.2.1)).1) x.1 0,())⟩
abbrev An (l:(List Sq_)) (u:(ByteArray×Sb_×Unit)):LInv:=⟨[⟨.s,8,true,.el .int⟩],λ_ (x_:Int×Unit)=>0<=x_.1/\x_.1<=l.length/\fidx (λc=>(fEntryAt1.fn (c,u)).1) l 0=fidx (λc=>(fEntryAt1.fn (c,u)).1) (l.drop x_.1.toNat) x_.1,λ(x_:Int×Unit)=>l.length-x_.1.toNat⟩
def Ai6:=Amv.a AN<|Fct.p (KP [0,1,4,5,7,8] [9,16]) (λ⟨l,u,_⟩=>lv [(2,An l u)]) Amv.2 func158 (by
 rintro⟨(l:List Sq_),(u:ByteArray×Sb_×PUnit),_⟩ hp;refine ho (lpx (An l u) ((0:Int),()) λ(y1:Int×PUnit) bk1=>.br (decide (y1.1<(l.length:Int))) (.ob (inB y1.1 l.length)<|.cl fEntryAt1 (l.getD y1.1.toNat default,u.1,u.2.1,()) λz2=>.br (z2.1) (.lf AN (y1.1,())) (.ob (l=l)<|.ob (enc Ty.str u.1=enc Ty.str u.1)<|.ob (enc Ty.addr u.2.1=enc Ty.addr u.2.1)<|.ob (Value.int IntKind.i64 (l.length:Int)=Value.int IntKind.i64 (l.length:Int))<|.ob (bk1 (w1 y1.1,()))<|.ok)) (.lf AN ((-1:Int),()))) ?_;refine Ai ?_ λ(y1:Int×PUnit) i1=>Ab (λh2=>Aa ?_ λ_=>Ae trivial λ_=>(Ab (λh4=>lfY ?_) (λh4=>Aa rfl λ_=>Aa rfl λ_=>Aa rfl λ_=>Aa rfl λ_=>Aa ?_ λ_=>trivial))) (λh2=>lfY ?_)
 all_goals
  try simp only[An,fEntryAt1,AN,std,Nat.reduceAdd] at *
  try have hp2:=hp.2
  try have hp1:=hp.1
 all_goals first|trivial|omega|grind[wrapId',toNat1,drop_cons,drop_end,good_len,maxLen,fidx])
def AkV:=Ai6.a fFindEntry<|Fct.o [3,4,5,6] Ai6.2 func205 (by
 rintro⟨(c:Sl_),(t:ByteArray),(a:Sb_),_⟩ hp;refine ho (.cl AN (c.bg,(t,a,()),()) λ(z2:Int×PUnit)=>.lf fFindEntry (z2.1,())) ?_;refine Ae ?_ λ_=>(lfY ?_)
 all_goals
  try simp only[fFindEntry,AN,std,Nat.reduceAdd,fEntryAt1] at *
  try simp(disch:=omega) only[wrapId',toNat1] at *
  try simp(disch:=omega) only[Qa1,Qa3]
 all_goals first|trivial|omega|grind[wrapId',toNat1,drop_cons,drop_end,good_len,maxLen,fEntryAt1])
def freshEntry (t:ByteArray) (a:Sb_) (now:Int) (e:Sq_):Bool:=decide (e.top=t)&&(decide (e.to=a)&&decide (now<=e.until_))
def lookUp (c:Sl_) (t:ByteArray) (a:Sb_) (now:Int):Option Sd_:=(c.bg.find? (freshEntry t a now)).map (·.bd)
def fLookUp:Fct:=⟨[.v (.el .cache),.v (.el .str),.v (.el .addr),.v (.el .int)],[.el .bd,.el .bool],λ(x_:Sl_×ByteArray×Sb_×Int×Unit)=>x_.1.bg.length<=1000000000000,λ(x_:Sl_×ByteArray×Sb_×Int×Unit)=>((lookUp x_.1 x_.2.1 x_.2.2.1 x_.2.2.2.1).getD notFound,(lookUp x_.1 x_.2.1 x_.2.2.1 x_.2.2.2.1).isSome,())⟩
def MF {α:Type} [Inhabited α] (p:α->Bool):∀ (l:List α) (i:Int),0<=i->l.find? p=if 0<=fidx p l i then some (l.getD (fidx p l i-i).toNat default) else none:=by
 intro l
 induction l with
 | nil=>intro i _;simp[fidx]
 | cons x l ih=>
  intro i hi;simp only[List.find?_cons,fidx];by_cases hx:p x=true
  ·simp[hx,hi]
  ·
   have hx:p x=false:=by simpa using hx
   have h1:=EY p l (i+1) o_;have h2:=ih (i+1) o_;simp only[hx,Qd4,Qe5,h2];split
   ·rename_i h3;have h4:i+1<=fidx p l (i+1):=by
     have:∀ (l:List α) (i:Int),0<=i->0<=fidx p l i->i<=fidx p l i:=by
      intro l
      induction l with
      | nil=>intro i _ h;simp[fidx] at h
      | cons y l ih=>
       intro i hi h;simp only[fidx] at h ⊢;split
       ·omega
       ·grind
     grind
    have h5:(fidx p l (i+1)-i).toNat=(fidx p l (i+1)-(i+1)).toNat+1:=o_
    rw[h5];rfl
   ·rfl
abbrev CZ (c:Sl_) (t:ByteArray) (a:Sb_) (now:Int):LInv:=⟨[⟨.s,10,true,.el .int⟩,⟨.b,4,false,.el .cache⟩,⟨.b,6,true,.el .addr⟩,⟨.b,8,true,.el .bd⟩],λ(z_ x_:Int×Sl_×Sb_×Sd_×Unit)=>(((0<=x_.1/\x_.1<=c.bg.length/\(c.bg.drop x_.1.toNat).find? (freshEntry t a now)=c.bg.find? (freshEntry t a now))/\x_.2.1=z_.2.1)/\x_.2.2.1=z_.2.2.1)/\x_.2.2.2.1=z_.2.2.2.1,λ(x_:Int×Sl_×Sb_×Sd_×Unit)=>c.bg.length-x_.1.toNat⟩
def AkU:=AkV.a fLookUp<|Fct.p (KP [1,3,4,6,8,9,10] [15,45]) (λ⟨c,t,a,now,_⟩=>lv [(2,CZ c t a now)]) AkV.2 func101 (by
 rintro⟨(c:Sl_),(t:ByteArray),(a:Sb_),(now:Int),_⟩ hp;refine ho (lpx (CZ c t a now) ((0:Int),(c,(a,(default,())))) λ(y1:Int×Sl_×Sb_×Sd_×PUnit) bk1=>let q2_:=inB y1.1 y1.2.1.bg.length;let q1_:=y1.2.1.bg.getD y1.1.toNat default;let q0_:Out:=.ob (Value.string t=Value.string t)<|.ob (Value.int IntKind.i64 now=Value.int IntKind.i64 now)<|.ob (bk1 (w1 y1.1,(y1.2.1,(y1.2.2.1,(y1.2.2.2.1,())))))<|.ok;.br (decide (y1.1<(y1.2.1.bg.length:Int))) (.ob q2_<|.br (q1_.top.toList==t.toList) (.ob q2_<|.br (q1_.to.host==y1.2.2.1.host&&(q1_.to.path==y1.2.2.1.path&&true)) (.ob q2_<|.br (decide (q1_.until_>=now)) (.ob q2_<|.lf fLookUp (q1_.bd,true,())) q0_) q0_) q0_) (.cl fNotFound () λz2=>.lf fLookUp (z2.1,false,()))) ?_;repeat' first|(guard_target =~ Out.holds _ _;first|refine Ai (li:=CZ c t a now) ?_ λ(y1:Int×Sl_×Sb_×Sd_×PUnit) i1=>?_|refine lfY ?_|refine Ab (λ_=>?_) λ_=>?_|refine Ae ?_ λ_=>?_|refine Aa ?_ λ_=>?_)|exact trivial
 all_goals
  try simp only[Dh] at *
  try simp only[CZ,fLookUp,fNotFound,std,Nat.reduceAdd,lookUp,freshEntry] at *
  try simp(disch:=omega) only[wrapId',toNat1] at *
  try simp(disch:=omega) only[Qa1,Qa3]
 all_goals first|trivial|omega|grind[wrapId',toNat1,drop_cons,drop_end,good_len,maxLen,lookUp,freshEntry,fNotFound])
def fLookUp1:Fct:=⟨[.v (.el .entry),.p (.el .str),.p (.el .addr),.p (.el .int)],[.el .bool],λ(x_:Sq_×ByteArray×Sb_×Int×Unit)=>True,λ(x_:Sq_×ByteArray×Sb_×Int×Unit)=>(freshEntry x_.2.1 x_.2.2.1 x_.2.2.2.1 x_.1,())⟩
def Aj1:=AkU.a fLookUp1<|Fct.o [1,2,3,4,5] AkU.2 func159 (by
 rintro⟨(e:Sq_),(t:ByteArray),(a:Sb_),(now:Int),_⟩ hp;refine ho (.br (e.top.toList==ByteArray.toList t) (.br (e.to.host==a.host&&(e.to.path==a.path&&true)) (.lf fLookUp1 (decide (e.until_>=now),())) (.lf fLookUp1 (false,()))) (.lf fLookUp1 (false,()))) ?_;refine Ab (λh1=>Ab (λh2=>lfY ?_) (λh2=>lfY ?_)) (λh1=>lfY ?_);all_goals
  try simp only[Dh] at *
  try simp only[fLookUp1,std,Nat.reduceAdd,freshEntry] at *
  try simp(disch:=omega) only[wrapId',toNat1] at *
  try simp(disch:=omega) only[Qa1,Qa3]
 all_goals first|trivial|omega|grind[wrapId',toNat1,drop_cons,drop_end,good_len,maxLen,freshEntry])
def AR:Fct:=⟨[aL .entry,.c 159 [.el .str,.el .addr,.el .int]],[rI],λx=>x.1.length<=1000000000000000000/\∀ c,fLookUp1.pre (c,x.2.1),λx=>(fidx (λc=>(fLookUp1.fn (c,x.2.1)).1) x.1 0,())⟩
abbrev Ao (l:(List Sq_)) (u:(ByteArray×Sb_×Int×Unit)):LInv:=⟨[⟨.s,8,true,.el .int⟩],λ_ (x_:Int×Unit)=>0<=x_.1/\x_.1<=l.length/\fidx (λc=>(fLookUp1.fn (c,u)).1) l 0=fidx (λc=>(fLookUp1.fn (c,u)).1) (l.drop x_.1.toNat) x_.1,λ(x_:Int×Unit)=>l.length-x_.1.toNat⟩
def Ak6:=Aj1.a AR<|Fct.p (KP [0,1,4,5,7,8] [9,16]) (λ⟨l,u,_⟩=>lv [(2,Ao l u)]) Aj1.2 func158 (by
 rintro⟨(l:List Sq_),(u:ByteArray×Sb_×Int×PUnit),_⟩ hp;refine ho (lpx (Ao l u) ((0:Int),()) λ(y1:Int×PUnit) bk1=>.br (decide (y1.1<(l.length:Int))) (.ob (inB y1.1 l.length)<|.cl fLookUp1 (l.getD y1.1.toNat default,u.1,u.2.1,u.2.2.1,()) λz2=>.br (z2.1) (.lf AR (y1.1,())) (.ob (l=l)<|.ob (enc Ty.str u.1=enc Ty.str u.1)<|.ob (enc Ty.addr u.2.1=enc Ty.addr u.2.1)<|.ob (enc Ty.int u.2.2.1=enc Ty.int u.2.2.1)<|.ob (Value.int IntKind.i64 (l.length:Int)=Value.int IntKind.i64 (l.length:Int))<|.ob (bk1 (w1 y1.1,()))<|.ok)) (.lf AR ((-1:Int),()))) ?_;refine Ai ?_ λ(y1:Int×PUnit) i1=>Ab (λh2=>Aa ?_ λ_=>Ae trivial λ_=>(Ab (λh4=>lfY ?_) (λh4=>Aa rfl λ_=>Aa rfl λ_=>Aa rfl λ_=>Aa rfl λ_=>Aa rfl λ_=>Aa ?_ λ_=>trivial))) (λh2=>lfY ?_)
 all_goals
  try simp only[Ao,AR,fLookUp1,std,Nat.reduceAdd] at *
  try have hp2:=hp.2
  try have hp1:=hp.1
 all_goals first|trivial|omega|grind[wrapId',toNat1,drop_cons,drop_end,good_len,maxLen,fidx])
def Ani:=Ak6.a fLookUp<|Fct.o (KP [4,5,6,7,8,9,10] [16]) Ak6.2 func117 (by
 rintro⟨(c:Sl_),(t:ByteArray),(a:Sb_),(now:Int),_⟩ hp;refine ho (.cl AR (c.bg,(t,a,now,()),()) λ(z2:Int×PUnit)=>.br (decide (z2.1<0)) (.cl fNotFound () λz3=>.lf fLookUp (z3.1,false,())) (.ob (inB z2.1 c.bg.length)<|.lf fLookUp ((c.bg.getD z2.1.toNat default).bd,true,()))) ?_;refine Ae ?_ λ_=>(Ab (λh2=>Ae trivial λ_=>(lfY ?_)) (λh2=>Aa ?_ λ_=>lfY ?_))
 all_goals
  have hf:=EY (freshEntry t a now) c.bg 0 o_;have hf2:=MF (freshEntry t a now) c.bg 0 o_;try simp only[AR,fLookUp,fNotFound,std,Nat.reduceAdd,lookUp,fLookUp1] at *
  try simp(disch:=omega) only[wrapId',toNat1] at *
  try simp(disch:=omega) only[Qa1,Qa3]
 all_goals first|trivial|omega|grind[wrapId',toNat1,drop_cons,drop_end,good_len,maxLen,lookUp,fLookUp1,fNotFound])
def modM (n m:Int):Int:=if 1<=m/\m<=1000000000000 then n.emod m else 0
def S5:Fct:=⟨[.v (.el .int),.v (.el .int)],[.el .int],λ(x_:Int×Int×Unit)=>-9223372036854775808<=x_.1/\x_.1<=9223372036854775807,λ(x_:Int×Int×Unit)=>(modM x_.1 x_.2.1,())⟩
def NA {n m:Int} (hm:0<m):(n.tmod m+m).tmod m=n.emod m:=by
 have h1:=Int.tmod_lt_of_pos n hm;have h2 : -m<n.tmod m:=by have:=Int.lt_tmod_of_pos n hm;omega
 rw[Int.tmod_eq_emod_of_nonneg o_];rw[Int.tmod_eq_emod];split
 ·simp;rfl
 ·rw[show n % m-m.natAbs+m=n % m from o_];simp;rfl
def NC {n m:Int} (hm:0<m):(if n.tmod m<0 then n.tmod m+m else n.tmod m)=n.emod m:=by
 have h0:=Int.emod_nonneg n (show m≠0 from o_);have h3:=Int.emod_lt_of_pos n hm;have e0:n.emod m=n % m:=rfl;grind
def AmE:=Ani.a S5<|Fct.o (KP [0,1,4] [7]) Ani.2 func453 (by
 rintro⟨(n:Int),(m:Int),_⟩ hp;refine ho (.cl fInRange (m,(1:Int),(1000000000000:Int),()) λz2=>.br (!z2.1) (.lf S5 ((0:Int),())) (.ob (m≠(0:Int))<|.ob (m≠(0:Int))<|.lf S5 ((wr (Int.tmod n m+m)).tmod m,()))) ?_;refine Ae trivial λ_=>(Ab (λh1=>lfY ?_) (λh1=>Aa ?_ λ_=>Aa ?_ λ_=>lfY ?_))
 all_goals (by_cases hm:1<=m/\m<=1000000000000)
 all_goals
  try have e1:=NA (n:=n) (m:=m) o_
  try have e2:=NC (n:=n) (m:=m) o_
  try have e3:=Int.tmod_lt_of_pos n (show 0<m from o_)
  try have e4:=Int.lt_tmod_of_pos n (show 0<m from o_)
  try simp only[fInRange,S5,std,Nat.reduceAdd,inRange,modM] at *
  try simp(disch:=omega) only[wrapId',toNat1] at *
  try simp(disch:=omega) only[Qa1,Qa3]
  try simp only[Qa2,Qe1,Qa9,Qa8] at *
 all_goals first|omega|skip
 all_goals
  try rw[Ag o_]
  try rw[Qa1 hm]
 all_goals first|omega|exact e1|(rw[Qa1 o_] at e2;exact e2)|(rw[Qa3 o_] at e2;exact e2)|(rw[Qa3 hm]))
def AjY:=AmE.a S5<|Fct.o (KP [0,1,4,5] [8,13]) AmE.2 func459 (by
 rintro⟨(n:Int),(m:Int),_⟩ hp;refine ho (.cl fInRange (m,(1:Int),(1000000000000:Int),()) λz2=>.br (!z2.1) (.lf S5 ((0:Int),())) (.ob (m≠(0:Int))<|.br (decide (Int.tmod n m<0)) (.lf S5 (wr (Int.tmod n m+m),())) (.lf S5 (Int.tmod n m,())))) ?_;refine Ae trivial λ_=>(Ab (λh1=>lfY ?_) (λh1=>Aa ?_ λ_=>Ab (λh3=>lfY ?_) (λh3=>lfY ?_)))
 all_goals (by_cases hm:1<=m/\m<=1000000000000)
 all_goals
  try have e1:=NA (n:=n) (m:=m) o_
  try have e2:=NC (n:=n) (m:=m) o_
  try have e3:=Int.tmod_lt_of_pos n (show 0<m from o_)
  try have e4:=Int.lt_tmod_of_pos n (show 0<m from o_)
  try simp only[fInRange,S5,std,Nat.reduceAdd,inRange,modM] at *
  try simp(disch:=omega) only[wrapId',toNat1] at *
  try simp(disch:=omega) only[Qa1,Qa3]
  try simp only[Qa2,Qe1,Qa9,Qa8] at *
 all_goals first|omega|skip
 all_goals
  try rw[Ag o_]
  try rw[Qa1 hm]
 all_goals first|omega|exact e1|(rw[Qa1 o_] at e2;exact e2)|(rw[Qa3 o_] at e2;exact e2)|(rw[Qa3 hm]))
def hashI:List Int->Int->Int
 | [],d=>d
 | x::l,d=>hashI l ((d*1000003+modM x 2147483647+13).tmod 2147483647)
def US {l:List Int} {i:Nat} {d:Int} (h:i<l.length):hashI (l.drop i) d=hashI (l.drop (i+1)) ((d*1000003+modM (l.getD i default) 2147483647+13).tmod 2147483647):=by rw[drop_cons h];rfl
def RE {l:List Int} {i:Nat} {d:Int} (h:l.length<=i):hashI (l.drop i) d=d:=by rw[Qb1 h];rfl
def J8 (x:Int):0<=modM x 2147483647/\modM x 2147483647<2147483647:=by
 have h0:=Int.emod_nonneg x (show(2147483647:Int)≠0 from o_);have h3:=Int.emod_lt_of_pos x (show(0:Int)<2147483647 from o_);have e0:modM x 2147483647=x % 2147483647:=rfl;omega
def Kj {x:Int} (h:0<=x):0<=x.tmod 2147483647/\x.tmod 2147483647<2147483647:=by
 grind
def Pb:Fct:=⟨[.v (.sl .int)],[.el .int],λ(x_:(List Int)×Unit)=>x_.1.length<=1000000000000/\∀ i,i<x_.1.length->-9223372036854775808<=x_.1.getD i default/\x_.1.getD i default<=9223372036854775807,λ(x_:(List Int)×Unit)=>(hashI x_.1 11,())⟩
abbrev EB (l:(List Int)):LInv:=⟨[⟨.s,3,true,.el .int⟩,⟨.s,4,true,.el .int⟩],λ_ (x_:Int×Int×Unit)=>0<=x_.2.1/\x_.2.1<=l.length/\0<=x_.1/\x_.1<2147483647/\hashI (l.drop x_.2.1.toNat) x_.1=hashI l 11,λ(x_:Int×Int×Unit)=>l.length-x_.2.1.toNat⟩
def Aj0:=AjY.a Pb<|Fct.p (KP [0,2,3,4] [8]) (λ⟨l,_⟩=>lv [(3,EB l)]) AjY.2 func443 (by
 rintro⟨(l:List Int),_⟩ hp;refine ho (lpx (EB l) ((11:Int),((0:Int),())) λ(y1:Int×Int×PUnit) bk1=>.br (decide (y1.2.1<(l.length:Int))) (.ob (inB y1.2.1 l.length)<|.cl S5 (l.getD y1.2.1.toNat default,(2147483647:Int),()) λ(z2:Int×PUnit)=>.ob ((2147483647:Int)≠(0:Int))<|.ob (l=l)<|.ob (Value.int IntKind.i64 0=Value.int IntKind.i64 (0:Int))<|.ob (bk1 ((wr (wr (wr (y1.1*(1000003:Int))+z2.1)+13)).tmod (2147483647:Int),(w1 y1.2.1,())))<|.ok) (.lf Pb (y1.1,()))) ?_;refine Ai ?_ λ(y1:Int×Int×PUnit) i1=>Ab (λh2=>Aa ?_ λ_=>Ae ?_ λ_=>(Aa ?_ λ_=>Aa rfl λ_=>Aa rfl λ_=>Aa ?_ λ_=>trivial)) (λh2=>lfY ?_)
 all_goals try simp only[EB,Pb,S5,std,Nat.reduceAdd] at *
 all_goals obtain⟨hp1,hp2⟩:=hp
 all_goals try (obtain⟨a1,a2,a3,a4,a5⟩:=i1)
 all_goals try (have hm:=J8 (l.getD y1.2.1.toNat default);have ht:=Kj (x:=y1.1*1000003+modM (l.getD y1.2.1.toNat default) 2147483647+13) o_)
 all_goals try simp(disch:=omega) only[wrapId',toNat1] at *
 all_goals first|trivial|omega|exact⟨o_,o_,o_,o_,rfl⟩|exact hp2 _ o_|skip
 ·rw[US o_] at a5;exact⟨⟨o_,o_,ht.1,ht.2,a5⟩,o_⟩
 ·rw[RE o_] at a5;exact a5)
abbrev EA (l:(List Int)):LInv:=⟨[⟨.s,3,true,.el .int⟩,⟨.s,8,true,.el .int⟩],λ_ (x_:Int×Int×Unit)=>0<=x_.2.1/\x_.2.1<=l.length/\0<=x_.1/\x_.1<2147483647/\hashI (l.drop x_.2.1.toNat) x_.1=hashI l 11,λ(x_:Int×Int×Unit)=>l.length-x_.2.1.toNat⟩
def AlJ:=Aj0.a Pb<|Fct.p (KP [0,2,3,5,6,7,8] [9]) (λ⟨l,_⟩=>lv [(3,EA l)]) Aj0.2 func449 (by
 rintro⟨(l:List Int),_⟩ hp;refine ho (lpx (EA l) ((11:Int),((0:Int),())) λ(y1:Int×Int×PUnit) bk1=>.br (decide (y1.2.1<(l.length:Int))) (.ob (inB y1.2.1 l.length)<|.cl S5 (l.getD y1.2.1.toNat default,(2147483647:Int),()) λ(z2:Int×PUnit)=>.ob ((2147483647:Int)≠(0:Int))<|.ob (l=l)<|.ob (Value.int IntKind.i64 0=Value.int IntKind.i64 (0:Int))<|.ob (l=l)<|.ob (Value.int IntKind.i64 (l.length:Int)=Value.int IntKind.i64 (l.length:Int))<|.ob (bk1 ((wr (wr (wr (y1.1*(1000003:Int))+z2.1)+13)).tmod (2147483647:Int),(w1 y1.2.1,())))<|.ok) (.lf Pb (y1.1,()))) ?_;refine Ai ?_ λ(y1:Int×Int×PUnit) i1=>Ab (λh2=>Aa ?_ λ_=>Ae ?_ λ_=>(Aa ?_ λ_=>Aa rfl λ_=>Aa rfl λ_=>Aa rfl λ_=>Aa rfl λ_=>Aa ?_ λ_=>trivial)) (λh2=>lfY ?_)
 all_goals try simp only[EA,Pb,S5,std,Nat.reduceAdd] at *
 all_goals obtain⟨hp1,hp2⟩:=hp
 all_goals try (obtain⟨a1,a2,a3,a4,a5⟩:=i1)
 all_goals try (have hm:=J8 (l.getD y1.2.1.toNat default);have ht:=Kj (x:=y1.1*1000003+modM (l.getD y1.2.1.toNat default) 2147483647+13) o_)
 all_goals try simp(disch:=omega) only[wrapId',toNat1] at *
 all_goals first|trivial|omega|exact⟨o_,o_,o_,o_,rfl⟩|exact hp2 _ o_|skip
 ·rw[US o_] at a5;exact⟨⟨o_,o_,ht.1,ht.2,a5⟩,o_⟩
 ·rw[RE o_] at a5;exact a5)
def bti (b l:List Int):List Int:=(b.length:Int)::l
def Dq:Fct:=⟨[.v (.sl .u8)],[.sl .int],λ(x_:(List Int)×Unit)=>x_.1.length<=68719476736/\∀ i,i<x_.1.length->0<=x_.1.getD i default/\x_.1.getD i default<=255,λ(x_:(List Int)×Unit)=>(bti x_.1 x_.1,())⟩
abbrev B6 (b:(List Int)):LInv:=⟨[⟨.s,3,true,.sl .int⟩,⟨.s,4,true,.el .int⟩],λ_ (x_:(List Int)×Int×Unit)=>0<=x_.2.1/\x_.2.1<=b.length/\x_.1=bti b (b.take x_.2.1.toNat),λ(x_:(List Int)×Int×Unit)=>b.length-x_.2.1.toNat⟩
def Ak5:=AlJ.a Dq<|Fct.p (KP [0,2,3,4] [11]) (λ⟨b,_⟩=>lv [(3,B6 b)]) AlJ.2 func444 (by
 rintro⟨(b:List Int),_⟩ hp;refine ho (lpx (B6 b) ([(b.length:Int)],((0:Int),())) λ(y1:List Int×Int×PUnit) bk1=>.br (decide (y1.2.1<(b.length:Int))) (.ob (inB y1.2.1 b.length)<|.ob (True)<|.ob (Br (y1.1.length+[wr (b.getD y1.2.1.toNat default)].length) 8)<|.ob (b=b)<|.ob (bk1 (y1.1++[wr (b.getD y1.2.1.toNat default)],(w1 y1.2.1,())))<|.ok) (.lf Dq (y1.1,()))) ?_;refine Ai ?_ λ(y1:List Int×Int×PUnit) i1=>Ab (λh2=>Aa ?_ λ_=>Aa trivial λ_=>Aa ?_ λ_=>Aa rfl λ_=>Aa ?_ λ_=>trivial) (λh2=>lfY ?_)
 all_goals
  try simp only[B6,Dq,std,Nat.reduceAdd,take_succ,take_end,bti] at *
  try simp(disch:=omega) only[wrapId',toNat1] at *
  try simp(disch:=omega) only[Qa1,Qa3]
 all_goals first|trivial|omega|grind[wrapId',toNat1,drop_cons,drop_end,good_len,maxLen,take_succ,take_end,bti])
abbrev BY (b:(List Int)):LInv:=⟨[⟨.s,3,true,.sl .int⟩,⟨.s,11,true,.el .int⟩],λ_ (x_:(List Int)×Int×Unit)=>0<=x_.2.1/\x_.2.1<=b.length/\x_.1=bti b (b.take x_.2.1.toNat),λ(x_:(List Int)×Int×Unit)=>b.length-x_.2.1.toNat⟩
def Ant:=Ak5.a Dq<|Fct.p (KP [0,2,3,5,9,10,11] [12]) (λ⟨b,_⟩=>lv [(3,BY b)]) Ak5.2 func450 (by
 rintro⟨(b:List Int),_⟩ hp;refine ho (lpx (BY b) ([(b.length:Int)],((0:Int),())) λ(y1:List Int×Int×PUnit) bk1=>.br (decide (y1.2.1<(b.length:Int))) (.ob (inB y1.2.1 b.length)<|.ob (True)<|.ob (Br (y1.1.length+[wr (b.getD y1.2.1.toNat default)].length) 8)<|.ob (b=b)<|.ob (b=b)<|.ob (Value.int IntKind.i64 (b.length:Int)=Value.int IntKind.i64 (b.length:Int))<|.ob (bk1 (y1.1++[wr (b.getD y1.2.1.toNat default)],(w1 y1.2.1,())))<|.ok) (.lf Dq (y1.1,()))) ?_;refine Ai ?_ λ(y1:List Int×Int×PUnit) i1=>Ab (λh2=>Aa ?_ λ_=>Aa trivial λ_=>Aa ?_ λ_=>Aa rfl λ_=>Aa rfl λ_=>Aa rfl λ_=>Aa ?_ λ_=>trivial) (λh2=>lfY ?_)
 all_goals
  try simp only[BY,Dq,std,Nat.reduceAdd,take_succ,take_end,bti] at *
  try simp(disch:=omega) only[wrapId',toNat1] at *
  try simp(disch:=omega) only[Qa1,Qa3]
 all_goals first|trivial|omega|grind[wrapId',toNat1,drop_cons,drop_end,good_len,maxLen,take_succ,take_end,bti])
def fFormatInt:Fct:=⟨[.v (.el .int)],[.el .str],λ(x_:Int×Unit)=>-9223372036854775808<=x_.1/\x_.1<=9223372036854775807,λ(x_:Int×Unit)=>(Iv x_.1,())⟩
abbrev CQ (n:Int):LInv:=⟨[⟨.s,3,true,.el .str⟩,⟨.s,4,true,.el .int⟩],λ_ (x_:ByteArray×Int×Unit)=>n≠0/\-9223372036854775808<=x_.2.1/\x_.2.1<=9223372036854775807/\(x_.2.1:Int).natAbs+4*x_.1.size<=n.natAbs+(if x_.2.1=0 then 4 else 0)/\AaY (x_.2.1:Int).natAbs x_.1=AaY n.natAbs ⟨#[]⟩,λ(x_:ByteArray×Int×Unit)=>(x_.2.1:Int).natAbs⟩
def An4:=Ant.a fFormatInt<|Fct.p (KP [0,2,3,4,5] [7,10,16,27]) (λ⟨n,_⟩=>lv [(5,CQ n)]) Ant.2 func415 (by
 rintro⟨(n:Int),_⟩ hp;refine ho (let q5_:=(⟨#[45]⟩:ByteArray);let q2_:=(10:Int)≠(0:Int);let q0_:=(⟨#[]⟩:ByteArray);let q4_:=Value.string q0_=Value.string q0_;.br (n==0) (.lf fFormatInt ((⟨#[48]⟩:ByteArray),())) (lpx (CQ n) (q0_,(n,())) λ(y2:ByteArray×Int×PUnit) bk2=>let q6_:=y2.2.1.tdiv (10:Int);let q3_:=wr ((48:Int)+y2.2.1.tmod (10:Int));let q1_:=wr ((48:Int)+wr ((0:Int)-y2.2.1.tmod (10:Int)));.br (y2.2.1 != 0) (.ob q2_<|.br (decide (y2.2.1.tmod (10:Int)<(0:Int))) (.ob (True)<|.ob (sameSize (List.foldl (λr n=>r.push (UInt8.ofNat n.toNat)) ByteArray.empty [IntKind.u8.wrap q1_]) y2.1)<|.ob q2_<|.ob (Value.int IntKind.i64 n=Value.int IntKind.i64 n)<|.ob q4_<|.ob (bk2 (List.foldl (λr n=>r.push (UInt8.ofNat n.toNat)) ByteArray.empty [IntKind.u8.wrap q1_]++y2.1,(wr q6_,())))<|.ok) (.ob (True)<|.ob (sameSize (List.foldl (λr n=>r.push (UInt8.ofNat n.toNat)) ByteArray.empty [IntKind.u8.wrap q3_]) y2.1)<|.ob q2_<|.ob (Value.int IntKind.i64 n=Value.int IntKind.i64 n)<|.ob q4_<|.ob (bk2 (List.foldl (λr n=>r.push (UInt8.ofNat n.toNat)) ByteArray.empty [IntKind.u8.wrap q3_]++y2.1,(wr q6_,())))<|.ok)) (.br (decide (n<0)) (.ob (sameSize q5_ y2.1)<|.lf fFormatInt (q5_++y2.1,())) (.lf fFormatInt (y2.1,()))))) ?_;refine Ab (λh1=>lfY ?_) (λh1=>Ai ?_ λ(y2:ByteArray×Int×PUnit) i2=>Ab (λh3=>Aa ?_ λ_=>Ab (λh5=>Aa trivial λ_=>Aa ?_ λ_=>Aa ?_ λ_=>Aa rfl λ_=>Aa rfl λ_=>Aa ?_ λ_=>trivial) (λh5=>Aa trivial λ_=>Aa ?_ λ_=>Aa ?_ λ_=>Aa rfl λ_=>Aa rfl λ_=>Aa ?_ λ_=>trivial)) (λh3=>Ab (λh12=>Aa ?_ λ_=>lfY ?_) (λh12=>lfY ?_)));all_goals try (have hk:=Nat.mod_lt y2.2.1.natAbs (show 0<10 from o_);have ht:=AcK y2.2.1)
 all_goals try (have hv:=Ade y2.2.1)
 all_goals try simp only[CQ,fFormatInt,std,Nat.reduceAdd] at *
 all_goals first|trivial|omega|skip
 all_goals try (obtain⟨a1,a2,a3,a4,a5⟩:=i2)
 all_goals first|trivial|omega|skip
 all_goals
  try simp only[h5,Qf0,Qe5] at ht
  try rw[Qa3 o_] at ht
 all_goals try (rw[Ag (n:=0-_) o_,show(0:Int)-y2.2.1.tmod 10=((y2.2.1.natAbs % 10:Nat):Int) from o_,AmT hk,Xx hk] at *)
 all_goals try (rw[ht,AmT hk,Xx hk] at *)
 all_goals try rw[Qa3 h3] at a4
 all_goals try (have e1:IntKind.i64.wrap (y2.2.1.tdiv 10)=y2.2.1.tdiv 10:=Ag o_;rw[e1])
 ·rw[h1,ZH]
 ·unfold sameSize;rw[show ByteArray.size ⟨#[UInt8.ofNat (48+y2.2.1.natAbs % 10)]⟩=1 from rfl];omega
 ·rw[QU o_] at a5;rw[hv,Qb3,show ByteArray.size ⟨#[UInt8.ofNat (48+y2.2.1.natAbs % 10)]⟩=1 from rfl];exact⟨⟨h1,o_,o_,by split<;>omega,a5⟩,o_⟩
 ·unfold sameSize;rw[show ByteArray.size ⟨#[UInt8.ofNat (48+y2.2.1.natAbs % 10)]⟩=1 from rfl];omega
 ·rw[QU o_] at a5;have hv':((y2.2.1.natAbs:Nat):Int)=y2.2.1.natAbs:=rfl;rw[hv,Qb3,show ByteArray.size ⟨#[UInt8.ofNat (48+y2.2.1.natAbs % 10)]⟩=1 from rfl];exact⟨⟨h1,o_,o_,by split<;>omega,a5⟩,o_⟩
 ·unfold sameSize;rw[show ByteArray.size ⟨#[45]⟩=1 from rfl];rw[Qa1 h3] at a4;omega
 ·rw[h3] at a5;rw[Adb h12,<-a5];rfl
 ·rw[h3] at a5;rw[AcD o_,<-a5];rfl)
def Uf:Go.Proofs.LaysM.n171 Tryz.prog laysCmp_r:=by repeat' first|kernel_rfl|constructor|intro _
def Ai1:=An4.a fItoa<|AfL k_ (Go.Proofs.Any.strconv_Itoa Uf)
def Aj7:=Ai1.a fFormatInt<|Fct.o [0,2] Ai1.2 func432 (by
 rintro⟨(n:Int),_⟩ hp;refine ho (.cl fItoa (n,()) λz2=>.lf fFormatInt (z2.1,())) ?_;refine Ae ?_ λ_=>(lfY ?_)
 all_goals
  try simp only[fFormatInt,fItoa,std,Nat.reduceAdd] at *
  try simp(disch:=omega) only[wrapId',toNat1] at *
  try simp(disch:=omega) only[Qa1,Qa3]
 all_goals first|trivial|omega|grind[wrapId',toNat1,drop_cons,drop_end,good_len,maxLen,fItoa])
def A7 {α:Type} [Inhabited α] {l:List α} {i:Nat} (h:i<l.length):l.getD i default∈l:=by
 simp_all
def Cn {s:ByteArray} (h:isName s=true):s.size<=8:=by
 simp only[isName,Qa2,Qa9] at h;omega
def words9:ByteArray->List ByteArray->ByteArray
 | w,[]=>w
 | w,x::l=>words9 (w++⟨#[32]⟩++x) l
theorem words9_at {w:ByteArray} {l:List ByteArray} {i:Nat} (h:i<l.length):words9 w (l.drop i)=words9 (w++⟨#[32]⟩++l.getD i default) (l.drop (i+1)):=by rw[drop_cons h];rfl
theorem words9_end {w:ByteArray} {l:List ByteArray} {i:Nat} (h:l.length<=i):words9 w (l.drop i)=w:=by rw[Qb1 h];rfl
def G7:∀ (l:List ByteArray) (w:ByteArray),l.all isName=true->(words9 w l).size<=w.size+9*l.length:=by
 intro l
 induction l with
 | nil=>intro w _;simp[words9]
 | cons x l ih=>
  intro w h;simp only[List.all_cons,Qa2] at h;have h1:=Cn h.1;have h2:=ih (w++⟨#[32]⟩++x) h.2;simp only[words9,Qa6];rw[Qb3,Qb3,show ByteArray.size ⟨#[32]⟩=1 from rfl] at h2;omega
def HB:Fct:=⟨[.v (.el .str),.v (.sl .str)],[.el .str],λ(x_:ByteArray×(List ByteArray)×Unit)=>x_.1.size<=100/\x_.2.1.length<=4/\x_.2.1.all isName=true,λ(x_:ByteArray×(List ByteArray)×Unit)=>(words9 x_.1 x_.2.1,())⟩
abbrev DT (w:ByteArray) (l:(List ByteArray)):LInv:=⟨[⟨.s,0,true,.el .str⟩,⟨.s,5,true,.el .int⟩],λ_ (x_:ByteArray×Int×Unit)=>0<=x_.2.1/\x_.2.1<=l.length/\x_.1.size<=100+9*x_.2.1/\words9 x_.1 (l.drop x_.2.1.toNat)=words9 w l,λ(x_:ByteArray×Int×Unit)=>l.length-x_.2.1.toNat⟩
def Amq:=Aj7.a HB<|Fct.p (KP [0,1,4,5] [9]) (λ⟨w,l,_⟩=>lv [(2,DT w l)]) Aj7.2 func181 (by
 rintro⟨(w:ByteArray),(l:List ByteArray),_⟩ hp;refine ho (lpx (DT w l) (w,((0:Int),())) λ(y1:ByteArray×Int×PUnit) bk1=>.br (decide (y1.2.1<(l.length:Int))) (.ob (sameSize y1.1 (⟨#[32]⟩:ByteArray))<|.ob (inB y1.2.1 l.length)<|.ob (sameSize (y1.1++(⟨#[32]⟩:ByteArray)) (l.getD y1.2.1.toNat default))<|.ob (l=l)<|.ob (Value.string (⟨#[]⟩:ByteArray)=Value.string (⟨#[]⟩:ByteArray))<|.ob (bk1 (y1.1++(⟨#[32]⟩:ByteArray)++l.getD y1.2.1.toNat default,(w1 y1.2.1,())))<|.ok) (.lf HB (y1.1,()))) ?_;refine Ai ?_ λ(y1:ByteArray×Int×PUnit) i1=>Ab (λh2=>Aa ?_ λ_=>Aa ?_ λ_=>Aa ?_ λ_=>Aa rfl λ_=>Aa rfl λ_=>Aa ?_ λ_=>trivial) (λh2=>lfY ?_)
 all_goals
  have hg:∀ i,i<l.length->(l.getD i default).size<=8:=λi h=>Cn (Qc5.1 hp.2.2 _ (A7 h))
  try simp only[DT,HB,std,Nat.reduceAdd,words9_at,words9_end,sameSize,Qb3] at *
  try simp(disch:=omega) only[wrapId',toNat1] at *
  try simp(disch:=omega) only[Qa1,Qa3]
 all_goals first|trivial|omega|grind[wrapId',toNat1,good_len,maxLen,words9_at,words9_end,sameSize,ByteArray.size_append])
def formatPolicy (p:Si_):ByteArray:=if isPolicy p&&p.set_ then(if p.nonce=⟨#[]⟩ then words9 ⟨#[115,99,114,105,112,116]⟩ p.bp++⟨#[59]⟩++words9 ⟨#[115,116,121,108,101]⟩ p.styles++⟨#[59]⟩++words9 ⟨#[105,109,103]⟩ p.images else words9 ⟨#[115,99,114,105,112,116]⟩ p.bp++⟨#[59]⟩++words9 ⟨#[115,116,121,108,101]⟩ p.styles++⟨#[59]⟩++words9 ⟨#[105,109,103]⟩ p.images++⟨#[59,110,111,110,99,101,32]⟩++p.nonce) else⟨#[]⟩
def F9 {p:Si_} (h:isPolicy p=true) (hs:p.set_=true):p.bp.all isName=true/\p.bp.length<=4/\p.styles.all isName=true/\p.styles.length<=4/\p.images.all isName=true/\p.images.length<=4/\p.nonce.size<=20:=by
 simp only[isPolicy,hs,Qf0,Qa2,Qf9,Qa9] at h;obtain⟨⟨⟨⟨a1,a2⟩,a3,a4⟩,a5,a6⟩,a7⟩:=h;refine⟨a1,a2,a3,a4,a5,a6,?_⟩;rcases a7 with h|h
 ·rw[h];exact Nat.zero_le _
 ·simp only[isValue,Qa2,Qa9] at h;omega
def GA {l:List ByteArray} {w:ByteArray} (h:l.all isName=true) (hl:l.length<=4) (hw:w.size<=6):(words9 w l).size<=42:=by
 have:=G7 l w h;omega
def AH:Fct:=⟨[.v (.el .bj)],[.el .str],λ(x_:Si_×Unit)=>szPolicy x_.1<=1099511627776,λ(x_:Si_×Unit)=>(formatPolicy x_.1,())⟩
def AkC:=Amq.a AH<|Fct.o (KP [1,2,3] [11,27]) Amq.2 func144 (by
 rintro⟨(p:Si_),_⟩ hp;refine ho (let q3_:=(⟨#[]⟩:ByteArray);let q2_:Out:=.lf AH (q3_,());let q1_:=(⟨#[59,110,111,110,99,101,32]⟩:ByteArray);let q0_:=(⟨#[59]⟩:ByteArray);.cl BM (p,()) λz2=>.br (!z2.1) q2_ (.br (!p.set_) q2_ (.cl HB ((⟨#[115,99,114,105,112,116]⟩:ByteArray),p.bp,()) λz3=>.ob (sameSize z3.1 q0_)<|.cl HB ((⟨#[115,116,121,108,101]⟩:ByteArray),p.styles,()) λz4=>.ob (sameSize (z3.1++q0_) z4.1)<|.ob (sameSize (z3.1++q0_++z4.1) q0_)<|.cl HB ((⟨#[105,109,103]⟩:ByteArray),p.images,()) λz5=>.ob (sameSize (z3.1++q0_++z4.1++q0_) z5.1)<|.br (!p.nonce.toList==q3_.toList) (.ob (sameSize (z3.1++q0_++z4.1++q0_++z5.1) q1_)<|.ob (sameSize (z3.1++q0_++z4.1++q0_++z5.1++q1_) p.nonce)<|.lf AH (z3.1++q0_++z4.1++q0_++z5.1++q1_++p.nonce,())) (.lf AH (z3.1++q0_++z4.1++q0_++z5.1,()))))) ?_;repeat' (guard_target =~ Out.holds _ _;first|refine lfY ?_|refine Ab (λ_=>?_) λ_=>?_|refine Ae ?_ λ_=>?_|refine Aa ?_ λ_=>?_)
 all_goals try simp only[AH,BM,HB,std,Nat.reduceAdd] at *
 all_goals first|trivial|omega|skip
 all_goals try (have hA:isPolicy p=true:=‹_›;have hB:p.set_=true:=‹_›;obtain⟨a1,a2,a3,a4,a5,a6,a7⟩:=F9 hA hB)
 all_goals
  try have b1:=GA (w:=⟨#[115,99,114,105,112,116]⟩) a1 a2 (by decide)
  try have b2:=GA (w:=⟨#[115,116,121,108,101]⟩) a3 a4 (by decide)
  try have b3:=GA (w:=⟨#[105,109,103]⟩) a5 a6 (by decide)
  try simp only[AH,BM,HB,std,Nat.reduceAdd,formatPolicy,sameSize,Qb3] at *
  try simp(disch:=omega) only[wrapId',toNat1] at *
  try simp(disch:=omega) only[Qa1,Qa3]
 all_goals first|trivial|omega|grind[wrapId',toNat1,drop_cons,drop_end,good_len,maxLen,formatPolicy,sameSize,ByteArray.size_append])
def AgO {α:Type} {f:α->Nat} {B:Nat}:∀ {l:List α},(∀ x∈l,f x<=B)->szL f l<=(B+1)*l.length:=by
 intro l
 induction l with
 | nil=>intro _;simp[szL]
 | cons x l ih=>
  intro h;have h1:=ih λy hy=>h y (Qc4 _ hy)
  have h2:=h x Qd7;have h3:szL f (x::l)=f x+1+szL f l:=by simp only[szL,Qc7,List.sum_cons,Qa6];omega
  rw[h3,Qa6,Nat.mul_add];omega
def findGuess (l:List Sp_) (a:Sb_):Int:=fidx (λg=>decide (g.to=a)) l 0
def fFindGuess:Fct:=⟨[.v (.sl .guess),.v (.el .addr)],[.el .int],λ(x_:(List Sp_)×Sb_×Unit)=>x_.1.length<=4194304,λ(x_:(List Sp_)×Sb_×Unit)=>(findGuess x_.1 x_.2.1,())⟩
abbrev CG (l:(List Sp_)) (a:Sb_):LInv:=⟨[⟨.s,5,true,.el .int⟩,⟨.b,3,true,.el .addr⟩],λ(z_ x_:Int×Sb_×Unit)=>(0<=x_.1/\x_.1<=l.length/\fidx (λg=>decide (g.to=a)) (l.drop x_.1.toNat) x_.1=findGuess l a)/\x_.2.1=z_.2.1,λ(x_:Int×Sb_×Unit)=>l.length-x_.1.toNat⟩
def Amk:=AkC.a fFindGuess<|Fct.p (KP [0,3,4,5] [9,18]) (λ⟨l,a,_⟩=>lv [(2,CG l a)]) AkC.2 func196 (by
 rintro⟨(l:List Sp_),(a:Sb_),_⟩ hp;refine ho (lpx (CG l a) ((0:Int),(a,())) λ(y1:Int×Sb_×PUnit) bk1=>.br (decide (y1.1<(l.length:Int))) (.ob (inB y1.1 l.length)<|.br ((l.getD y1.1.toNat default).to.host==y1.2.1.host&&((l.getD y1.1.toNat default).to.path==y1.2.1.path&&true)) (.lf fFindGuess (y1.1,())) (.ob (l=l)<|.ob (bk1 (w1 y1.1,(y1.2.1,())))<|.ok)) (.lf fFindGuess ((-1:Int),()))) ?_;refine Ai ?_ λ(y1:Int×Sb_×PUnit) i1=>Ab (λh2=>Aa ?_ λ_=>Ab (λh4=>lfY ?_) (λh4=>Aa rfl λ_=>Aa ?_ λ_=>trivial)) (λh2=>lfY ?_)
 all_goals
  try simp only[Dh] at *
  try simp only[CG,fFindGuess,std,Nat.reduceAdd,findGuess,fidx] at *
  try simp(disch:=omega) only[wrapId',toNat1] at *
  try simp(disch:=omega) only[Qa1,Qa3]
 all_goals first|trivial|omega|grind[wrapId',toNat1,drop_cons,drop_end,good_len,maxLen,findGuess,fidx])
def fFindGuess1:Fct:=⟨[.v (.el .guess),.p (.el .addr)],[.el .bool],λ(x_:Sp_×Sb_×Unit)=>True,λ(x_:Sp_×Sb_×Unit)=>(decide (x_.1.to=x_.2.1),())⟩
def Alt:=Amk.a fFindGuess1<|Fct.o [1,2,3] Amk.2 func298 (by
 rintro⟨(g:Sp_),(a:Sb_),_⟩ hp;refine ho (.lf fFindGuess1 (g.to.host==a.host&&(g.to.path==a.path&&true),())) ?_;refine lfY ?_;all_goals
  try simp only[Dh] at *
  try simp only[fFindGuess1,std,Nat.reduceAdd] at *
  try simp(disch:=omega) only[wrapId',toNat1] at *
  try simp(disch:=omega) only[Qa1,Qa3]
 all_goals first|trivial|omega|grind[wrapId',toNat1,drop_cons,drop_end,good_len,maxLen])
def AG:Fct:=⟨[aL .guess,.c 298 [.el .addr]],[rI],λx=>x.1.length<=1000000000000000000/\∀ c,fFindGuess1.pre (c,x.2.1),λx=>(fidx (λc=>(fFindGuess1.fn (c,x.2.1)).1) x.1 0,())⟩
abbrev Al (l:(List Sp_)) (u:(Sb_×Unit)):LInv:=⟨[⟨.s,8,true,.el .int⟩],λ_ (x_:Int×Unit)=>0<=x_.1/\x_.1<=l.length/\fidx (λc=>(fFindGuess1.fn (c,u)).1) l 0=fidx (λc=>(fFindGuess1.fn (c,u)).1) (l.drop x_.1.toNat) x_.1,λ(x_:Int×Unit)=>l.length-x_.1.toNat⟩
def Anu:=Alt.a AG<|Fct.p (KP [0,1,4,5,7,8] [9,16]) (λ⟨l,u,_⟩=>lv [(2,Al l u)]) Alt.2 func297 (by
 rintro⟨(l:List Sp_),(u:Sb_×PUnit),_⟩ hp;refine ho (lpx (Al l u) ((0:Int),()) λ(y1:Int×PUnit) bk1=>.br (decide (y1.1<(l.length:Int))) (.ob (inB y1.1 l.length)<|.cl fFindGuess1 (l.getD y1.1.toNat default,u.1,()) λz2=>.br (z2.1) (.lf AG (y1.1,())) (.ob (l=l)<|.ob (enc Ty.addr u.1=enc Ty.addr u.1)<|.ob (Value.int IntKind.i64 (l.length:Int)=Value.int IntKind.i64 (l.length:Int))<|.ob (bk1 (w1 y1.1,()))<|.ok)) (.lf AG ((-1:Int),()))) ?_;refine Ai ?_ λ(y1:Int×PUnit) i1=>Ab (λh2=>Aa ?_ λ_=>Ae trivial λ_=>(Ab (λh4=>lfY ?_) (λh4=>Aa rfl λ_=>Aa rfl λ_=>Aa rfl λ_=>Aa ?_ λ_=>trivial))) (λh2=>lfY ?_)
 all_goals
  try simp only[Al,fFindGuess1,AG,std,Nat.reduceAdd] at *
  try have hp2:=hp.2
  try have hp1:=hp.1
 all_goals first|trivial|omega|grind[wrapId',toNat1,drop_cons,drop_end,good_len,maxLen,fidx])
def AnH:=Anu.a fFindGuess<|Fct.o [0,3,4] Anu.2 func235 (by
 rintro⟨(l:List Sp_),(a:Sb_),_⟩ hp;refine ho (.cl AG (l,(a,()),()) λ(z2:Int×PUnit)=>.lf fFindGuess (z2.1,())) ?_;refine Ae ?_ λ_=>(lfY ?_)
 all_goals
  try simp only[fFindGuess,AG,std,Nat.reduceAdd,fFindGuess1,findGuess] at *
  try simp(disch:=omega) only[wrapId',toNat1] at *
  try simp(disch:=omega) only[Qa1,Qa3]
 all_goals first|trivial|omega|grind[wrapId',toNat1,drop_cons,drop_end,good_len,maxLen,fFindGuess1,findGuess])
def fCopyGuesses:Fct:=⟨[.v (.sl .guess)],[.sl .guess],λ(x_:(List Sp_)×Unit)=>x_.1.length<=4194304,λ(x_:(List Sp_)×Unit)=>(x_.1,())⟩
def AjI:=AnH.a fCopyGuesses<|Fct.o [0,2] AnH.2 func128 (by
 rintro⟨(l:List Sp_),_⟩ hp;refine ho (.ob (True)<|.ob (Br (0+List.length l) 104)<|.lf fCopyGuesses ([]++l,())) ?_;refine Aa trivial λ_=>Aa ?_ λ_=>lfY ?_
 all_goals
  try simp only[fCopyGuesses,std,Nat.reduceAdd] at *
  try simp(disch:=omega) only[wrapId',toNat1] at *
  try simp(disch:=omega) only[Qa1,Qa3]
 all_goals first|trivial|omega|grind[wrapId',toNat1,drop_cons,drop_end,good_len,maxLen])
def addGuess (l:List Sp_) (a:Sb_) (x:Sd_):List Sp_×Bool:=if 0<=findGuess l a\/6<=countIf (λg=>!g.used) l then(l,false) else(l++[⟨a,x,false⟩],true)
def CT:Fct:=⟨[.v (.sl .guess),.v (.el .addr),.v (.el .bd)],[.sl .guess,.el .bool],λ(x_:(List Sp_)×Sb_×Sd_×Unit)=>x_.1.length<=4194304,λ(x_:(List Sp_)×Sb_×Sd_×Unit)=>((addGuess x_.1 x_.2.1 x_.2.2.1).1,(addGuess x_.1 x_.2.1 x_.2.2.1).2,())⟩
def Amo:=AjI.a CT<|Fct.o (KP [0,4,5,6,7,8] [20]) AjI.2 func263 (by
 rintro⟨(l:List Sp_),(a:Sb_),(x:Sd_),_⟩ hp;refine ho (.ob (True)<|.ob (Br (0+List.length l) 104)<|.cl fFindGuess (l,a,()) λ(z2:Int×PUnit)=>.br (decide (z2.1>=0)) (.lf CT ([]++l,false,())) (.cl fUnused (l,()) λ(z3:Int×PUnit)=>.br (decide (z3.1>=6)) (.lf CT ([]++l,false,())) (.ob (True)<|.ob (Br (([]++l).length+[(⟨a,x,false⟩:Sp_)].length) 104)<|.lf CT ([]++l++[(⟨a,x,false⟩:Sp_)],true,())))) ?_;refine Aa trivial λ_=>Aa ?_ λ_=>Ae ?_ λ_=>(Ab (λh3=>lfY ?_) (λh3=>Ae ?_ λ_=>(Ab (λh5=>lfY ?_) (λh5=>Aa trivial λ_=>Aa ?_ λ_=>lfY ?_))))
 all_goals
  try simp only[CT,fFindGuess,fUnused,std,Nat.reduceAdd,addGuess,fCopyGuesses] at *
  try simp(disch:=omega) only[wrapId',toNat1] at *
  try simp(disch:=omega) only[Qa1,Qa3]
 all_goals first|trivial|omega|grind[wrapId',toNat1,drop_cons,drop_end,good_len,maxLen,addGuess,fUnused,fCopyGuesses])
def Akq:=Amo.a CT<|Fct.o (KP [0,4,5,6,7,8] [19]) Amo.2 func242 (by
 rintro⟨(l:List Sp_),(a:Sb_),(x:Sd_),_⟩ hp;refine ho (.cl fCopyGuesses (l,()) λz2=>.cl fFindGuess (l,a,()) λ(z3:Int×PUnit)=>.br (decide (z3.1>=0)) (.lf CT (z2.1,false,())) (.cl fUnused (l,()) λ(z4:Int×PUnit)=>.br (decide (z4.1>=6)) (.lf CT (z2.1,false,())) (.ob (True)<|.ob (Br (z2.1.length+[(⟨a,x,false⟩:Sp_)].length) 104)<|.lf CT (z2.1++[(⟨a,x,false⟩:Sp_)],true,())))) ?_;refine Ae ?_ λ_=>(Ae ?_ λ_=>(Ab (λh3=>lfY ?_) (λh3=>Ae ?_ λ_=>(Ab (λh5=>lfY ?_) (λh5=>Aa trivial λ_=>Aa ?_ λ_=>lfY ?_)))))
 all_goals
  try simp only[CT,fCopyGuesses,fFindGuess,fUnused,std,Nat.reduceAdd,addGuess] at *
  try simp(disch:=omega) only[wrapId',toNat1] at *
  try simp(disch:=omega) only[Qa1,Qa3]
 all_goals first|trivial|omega|grind[wrapId',toNat1,drop_cons,drop_end,good_len,maxLen,addGuess,fUnused,fCopyGuesses])
def useGuess (l:List Sp_) (a:Sb_):List Sp_×Sd_×Bool:=if findGuess l a<0 then(l,notFound,false) else(l.modify (findGuess l a).toNat λg=>{ g with used:=true },(l.getD (findGuess l a).toNat default).bd,true)
def Dp:Fct:=⟨[.v (.sl .guess),.v (.el .addr)],[.sl .guess,.el .bd,.el .bool],λ(x_:(List Sp_)×Sb_×Unit)=>x_.1.length<=4194304,λ(x_:(List Sp_)×Sb_×Unit)=>((useGuess x_.1 x_.2.1).1,(useGuess x_.1 x_.2.1).2.1,(useGuess x_.1 x_.2.1).2.2,())⟩
def Anj:=Akq.a Dp<|Fct.o (KP [0,3,4,5,6,7,8] [16]) Akq.2 func190 (by
 rintro⟨(l:List Sp_),(a:Sb_),_⟩ hp;refine ho (.ob (True)<|.ob (Br (0+List.length l) 104)<|.cl fFindGuess (l,a,()) λ(z2:Int×PUnit)=>.br (decide (z2.1<0)) (.cl fNotFound () λz3=>.lf Dp ([]++l,z3.1,false,())) (.ob (0<=z2.1/\z2.1<(↑([]++l).length:Int))<|.ob (z2.1.toNat<([]++l).length)<|.lt (List Sp_) (([]++l).modify z2.1.toNat λz=>(⟨z.to,z.bd,true⟩:Sp_)) λz4=>.ob (0<=z2.1/\z2.1<(↑(List.length l):Int))<|.lf Dp (z4,(List.getD l z2.1.toNat default).bd,true,()))) ?_;refine Aa trivial λ_=>Aa ?_ λ_=>Ae ?_ λ_=>(Ab (λh3=>Ae trivial λ_=>(lfY ?_)) (λh3=>Aa ?_ λ_=>Aa ?_ λ_=>DU (Aa ?_ λ_=>lfY ?_)))
 all_goals
  have hf:=EY (λg:Sp_=>decide (g.to=a)) l 0 o_;try simp only[fFindGuess,fNotFound,Dp,std,Nat.reduceAdd,useGuess,findGuess,fCopyGuesses] at *
  try simp(disch:=omega) only[wrapId',toNat1] at *
  try simp(disch:=omega) only[Qa1,Qa3]
 all_goals first|trivial|omega|grind[wrapId',toNat1,drop_cons,drop_end,good_len,maxLen,useGuess,findGuess,fFindGuess,fCopyGuesses,fNotFound])
end Go.Proofs.YtglhphmnikpkfaaGreatDoor.fnExactLoadFast
