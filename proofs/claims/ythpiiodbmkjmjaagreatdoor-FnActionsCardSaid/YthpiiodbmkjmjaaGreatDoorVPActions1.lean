/-
  Contracts of functions that the law of FnActions reaches, part 1.
-/
import Derived.Test.YthpiiodbmkjmjaaGreatDoorVLe
import Derived.WalkKit
import Derived.BigGuard
import Derived.Deep.QuietTactic
import Derived.BigQuiet
import Derived.Lib.ConvBytes
import Derived.Sort.WalkC
import Derived.Handy
import Derived.Lib.Overlaps
import Derived.Lib.AppendZerosOnto
import Derived.Laws.Externs
import Derived.Shelf.RegionOpenPlain
import Derived.Defers
import Derived.Laws.Pointers
import Derived.Laws.LoneSync
import Derived.RegionCalls
import Derived.ChangeAlike
import Derived.LoopN
import Derived.Lib.SliceRun
import Derived.Shelf.Strconv.AtoiAll
import Derived.Shelf.Small.Strs
import Derived.Test.YthpiiodbmkjmjaaGreatDoorRows
import Derived.Test.YthpiiodbmkjmjaaGreatDoorCards
import Derived.LaidMore
import Derived.Lay
import Derived.SevenTiedAt
import Derived.ProofKit
import Derived.OpenShut
namespace Go.Proofs.YthpiiodbmkjmjaaGreatDoor.fnActions
open Go.Proofs.YthpiiodbmkjmjaaGreatDoor
open Go.D Go.Proofs.Tryz
set_option maxRecDepth 100000
set_option maxHeartbeats 2000000
set_option linter.defProp false
set_option linter.unusedVariables false
set_option linter.unusedSimpArgs false
def tyOf:TypeId->Option Ty
 | 3=>some .int
 | 4=>some .bool
 | 5=>some .u8
 | 9=>some .str
 | 27=>some .cache
 | 30=>some .net
 | 32=>some .addr
 | 35=>some .bj
 | 37=>some .tokenizer
 | 42=>some .ba
 | 47=>some .page
 | 51=>some .loader
 | 80=>some .bd
 | 82=>some .conn
 | 88=>some .request
 | 127=>some .guess
 | 156=>some .sent
 | 173=>some .token
 | 178=>some .slot
 | 181=>some .module
 | 216=>some .entry
 | 234=>some .server
 | 236=>some .file
 | 250=>some .attr
 | 253=>some .node
 | 326=>some .line
 | 352=>some .sheet
 | 370=>some .rule
 | _=>none
abbrev Eo:={ E:D.Env // EOk Tryz.prog E }
def Eo.a (e:Eo) (S:Fct) {f:Nat} (k:S.ok Tryz.prog f):Eo:=⟨e.1.add f S,e.2.add k⟩
def Eo.G (e:Eo) (S:GS) {f:Nat} (k:S.ok Tryz.prog f):Eo:=⟨e.1.addG f S,e.2.addG k⟩
def Eo.X (e:Eo) (S:Xct) {f:Nat} (k:S.ok Tryz.prog f):Eo:=⟨e.1.addX f S,e.2.addX k⟩
def Eo.N (e:Eo) {f:Nat} (k:UU Tryz.prog f):Eo:=⟨e.1.addN f,e.2.addN k⟩
abbrev Ty0_:=List Sk_×Unit
abbrev Ty1_:=Int×Int×Unit
abbrev Ty2_:=Int×Sb_×Unit
abbrev Ty3_:=Int×Unit
abbrev Ty4_:=Sb_×Unit
abbrev Ty5_:=List Sk_×Int×Unit
abbrev Ty6_:=Int×List Sk_×Unit
abbrev Ty7_:=Sc_×Unit
abbrev Ty8_:=List Sk_×Sb_×Sc_×Bool×Unit
abbrev Ty9_:=List Sb_×Sb_×Unit
abbrev Ty10_:=List Sg_×List Sb_×Unit
abbrev Ty11_:=List Sg_×Int×Unit
abbrev Ty12_:=List ByteArray×ByteArray×Unit
abbrev Ty13_:=Sa_×Unit
abbrev Ty14_:=List ByteArray×List ByteArray×Unit
abbrev Ty15_:=List St_×List St_×Unit
abbrev Ty16_:=List Sb_×List Sb_×Unit
abbrev Ty17_:=Se_×Se_×Unit
abbrev Ty18_:=List Si_×List Si_×Unit
abbrev Ty19_:=Sa_×Sa_×Unit
abbrev Ty20_:=List Sl_×List Sl_×Unit
abbrev Ty21_:=List Sf_×List Sf_×Unit
abbrev Ty22_:=Sa_×List Sg_×Unit
abbrev Ty23_:=Int×Int×Sa_×Unit
abbrev Ty24_:=List Sm_×Unit
abbrev Ty25_:=List Si_×Int×Unit
abbrev Ty26_:=Se_×Int×Se_×Se_×Unit
abbrev Ty27_:=Se_×Int×Se_×Unit
abbrev Ty28_:=Sj_×Unit
abbrev Ty29_:=Sa_×Sb_×Unit
abbrev Ty30_:=Int×Sa_×Sb_×Unit
abbrev Ty31_:=List Su_×List Su_×Unit
abbrev Ty32_:=List Sp_×List Sp_×Unit
abbrev Ty33_:=List Sx_×List Sx_×Unit
abbrev Ty34_:=List Sk_×List Sk_×Unit
abbrev Ty35_:=List Sm_×List Sm_×Unit
abbrev Ty36_:=List Sh_×List Sh_×Unit
abbrev Ty37_:=Ss_×Ss_×Unit
abbrev Ty38_:=Sd_×Sd_×Unit
abbrev Ty39_:=List Sk_×Int×Int×Unit
abbrev Ty40_:=List Int×Unit
abbrev Ty41_:=Int×List Int×Unit
abbrev Ty42_:=Int×Int×List Int×Unit
abbrev Ty43_:=ByteArray×List Int×Unit
abbrev Ty44_:=List ByteArray×Int×Int×Unit
abbrev Ty45_:=Bool×Int×List ByteArray×Int×Int×Unit
abbrev Ty46_:=List Int×Int×Unit
abbrev Ty47_:=List ByteArray×Int×Int×List Int×Unit
abbrev Ty48_:=ByteArray×Unit
abbrev Ty49_:=List ByteArray×Unit
abbrev Ty50_:=Sj_×Int×ByteArray×Unit
abbrev Ty51_:=Sg_×Unit
abbrev Ty52_:=Sj_×Sg_×Unit
abbrev Ty53_:=List Sh_×Unit
abbrev Ty54_:=List Sh_×Int×Unit
abbrev Ty55_:=Sn_×Unit
abbrev Ty56_:=Ss_×Unit
abbrev Ty57_:=List Sh_×ByteArray×Unit
abbrev Ty58_:=Sh_×ByteArray×Unit
abbrev Ty59_:=Int×Sh_×Unit
abbrev Ty60_:=List Sh_×Sb_×Unit
abbrev Ty61_:=Sn_×ByteArray×Sb_×Unit
abbrev Ty62_:=Int×Sn_×Sb_×Unit
abbrev Ty63_:=Sp_×ByteArray×Sb_×Unit
abbrev Ty64_:=Sn_×ByteArray×Sb_×Int×Unit
abbrev Ty65_:=Int×Sn_×Sb_×Sc_×Unit
abbrev Ty66_:=Sp_×ByteArray×Sb_×Int×Unit
abbrev Ty67_:=ByteArray×Int×Unit
abbrev Ty68_:=Unit×Unit
abbrev Ty69_:=Unit×Int×Unit
abbrev Ty70_:=Bool×Unit
abbrev Ty71_:=Unit×List ByteArray×Unit
abbrev Ty72_:=ByteArray×List ByteArray×Unit
abbrev Ty73_:=List ByteArray×Int×List ByteArray×Unit
abbrev Ty74_:=Sc_×Sc_×Unit
abbrev Ty75_:=List Sm_×Sb_×Unit
abbrev Ty76_:=List Sm_×Sb_×Sc_×Unit
abbrev Ty77_:=Int×Sn_×Unit
abbrev Ty78_:=Sn_×ByteArray×Sb_×Sc_×Int×Unit
abbrev Ty79_:=Ss_×ByteArray×Sb_×Sc_×Unit
abbrev Ty80_:=Ss_×ByteArray×Sb_×Bool×Unit
abbrev Ty81_:=Ss_×Sb_×List Int×Unit
abbrev Ty82_:=ByteArray×ByteArray×Unit
abbrev Ty83_:=Sj_×Sg_×Sc_×Unit
abbrev Ty84_:=Sa_×Int×Unit
abbrev Ty85_:=Sb_×Int×Sb_×Unit
abbrev Ty86_:=List St_×ByteArray×Unit
abbrev Ty87_:=Si_×ByteArray×Unit
abbrev Ty88_:=List Si_×ByteArray×Unit
abbrev Ty89_:=List Sb_×Int×Sa_×List Sg_×Unit
abbrev Ty90_:=Sd_×Unit
abbrev Ty91_:=Int×Sd_×Sd_×Sd_×List Sb_×Unit
abbrev Ty92_:=Si_×Int×Si_×List ByteArray×Unit
abbrev Ty93_:=Sq_×ByteArray×Unit
abbrev Ty94_:=List Si_×ByteArray×Sq_×Unit
abbrev Ty95_:=Sa_×ByteArray×Unit
abbrev Ty96_:=Se_×Int×Unit
abbrev Ty97_:=ByteArray×Int×Se_×Unit
abbrev Ty98_:=Se_×ByteArray×Unit
abbrev Ty99_:=Int×Int×Se_×Unit
abbrev Ty100_:=List So_×ByteArray×Unit
abbrev Ty101_:=Int×Sr_×List ByteArray×Unit
abbrev Ty102_:=List Sr_×Int×List ByteArray×Unit
abbrev Ty103_:=Se_×List So_×Sr_×Unit
abbrev Ty104_:=Se_×List So_×List Sr_×Unit
abbrev Ty105_:=Se_×ByteArray×List ByteArray×Int×Se_×Unit
abbrev Ty106_:=So_×Int×So_×List ByteArray×Unit
abbrev Ty107_:=List Int×Int×Sa_×Unit
abbrev Ty108_:=Sj_×ByteArray×Unit
abbrev Ty109_:=List So_×Int×Sa_×Unit
abbrev Ty110_:=Sa_×ByteArray×Bool×Unit
abbrev Ty111_:=Sa_×Int×Sa_×List ByteArray×Unit
abbrev Ty112_:=Int×Se_×Se_×Unit
abbrev Ty113_:=Se_×Int×Se_×Si_×Se_×Unit
abbrev Ty114_:=Sa_×Int×ByteArray×ByteArray×Int×Unit
abbrev Ty115_:=Sa_×Int×Sc_×Unit
abbrev Ty116_:=Int×Sa_×Sb_×Sa_×Sa_×Unit
abbrev Ty117_:=List Sf_×Int×List Sf_×Unit
abbrev Ty118_:=Sa_×Si_×Int×Unit
abbrev Ty119_:=List Sb_×ByteArray×Unit
abbrev Ty120_:=List Sb_×List Sb_
abbrev Ty121_:=Sa_×Sb_×List Sb_×List Sb_×Unit
abbrev Ty122_:=List Sb_×List Sb_×Int×Sa_×Sb_×List Sb_×Unit
abbrev Ty123_:=Int×Sa_×List Sb_×Unit
abbrev Ty124_:=Sa_×Int×Sa_×List Sb_×Unit
abbrev Ty125_:=Sa_×Int×List ByteArray×List Sb_×Sa_×Unit
abbrev Ty126_:=Sa_×Int×Sa_×Unit
abbrev Ty127_:=Int×Sr_×Unit
abbrev Ty128_:=List ByteArray×List Sb_×Unit
abbrev Ty129_:=Int×List Sb_×List Sb_×Sa_×Sb_×List Sb_×Unit
abbrev Ty130_:=ByteArray×List Si_×Sq_×Unit
abbrev Ty131_:=Sa_×List Sr_×Bool×Unit
abbrev Ty132_:=List So_×Int×Unit
abbrev Ty133_:=Int×Sa_×List ByteArray×Unit
abbrev Ty134_:=Sa_×Sb_×Sc_×Unit
abbrev Ty135_:=Sa_×Int×Sa_×Sb_×Sc_×Sa_×Unit
abbrev Ty136_:=List Sg_×Int×Sa_×List Int×Unit
abbrev Ty137_:=List Sb_×Int×Unit
abbrev Ty138_:=List Sb_×Int×Sd_×Sd_×Sd_×Unit
abbrev Ty139_:=Sd_×Int×Unit
abbrev Ty140_:=Int×Sd_×Sd_×Sk_×List Sg_×Unit
abbrev Ty141_:=Sd_×Int×Sd_×Sd_×Unit
abbrev Ty142_:=Int×Int×Sh_×Unit
abbrev Ty143_:=List Sh_×Sb_×Sc_×Unit
abbrev Ty144_:=List Sh_×Bool×Unit
abbrev Ty145_:=List Sh_×Int×List ByteArray×Unit
abbrev Ty146_:=List Sh_×Int×List ByteArray×List ByteArray×Unit
abbrev Ty147_:=Sn_×Int×Sn_×Unit
abbrev Ty148_:=Ss_×Int×Ss_×Unit
abbrev Ty149_:=Ss_×Int×List ByteArray×Ss_×Unit
abbrev Ty150_:=Ss_×Sb_×Unit
abbrev Ty151_:=Sd_×Int×Sd_×Unit
abbrev Ty152_:=ByteArray×Int×List ByteArray×Sd_×Sd_×Unit
def E0:Eo:=⟨D.Env.empty tyOf,EOk.empty _ _⟩
def countGuess:List Sk_->Nat
 | []=>0
 | c::l=>countGuess l+(if c.guess then 1 else 0)
def Lu (l:List Sk_):countGuess l<=l.length:=by
 induction l with
 | nil=>simp[countGuess]
 | cons d l ih=>simp only[countGuess,Qa7];split<;>omega
abbrev PM:Fct:=⟨[.v (.sl .conn)],[.el .int],λ(x_:Ty0_)=>x_.1.length<=1048576,λ(x_:Ty0_)=>((countGuess x_.1:Int),())⟩
abbrev B1 (l:(List Sk_)):LInv:=⟨[⟨.s,3,true,.el .int⟩,⟨.s,4,true,.el .int⟩],λ_ (x_:Ty1_)=>0<=x_.2.1/\x_.2.1<=l.length/\0<=x_.1/\x_.1<=x_.2.1/\x_.1+countGuess (l.drop x_.2.1.toNat)=countGuess l,λ(x_:Ty1_)=>l.length-x_.2.1.toNat⟩
def E1:=E0.a PM<|Fct.p (KP [0,2,3,4] [8,15]) (λ⟨l,_⟩=>lv [(3,B1 l)]) E0.2 func74 (by
 rintro⟨(l:List Sk_),_⟩ hp;exact hg (.lq (Int×Int×PUnit) (B1 l).inv (B1 l).m ((0:Int),((0:Int),())) λy1 bk1=>.br (decide (y1.2.1<(l.length:Int))) (.ob (inB y1.2.1 l.length)<|.br ((l.getD y1.2.1.toNat default).guess) (.re (l)<|.re (Value.int IntKind.i64 (0:Int))<|.bk (bk1 (w1 y1.1,(w1 y1.2.1,())))) (.re (l)<|.re (Value.int IntKind.i64 (0:Int))<|.bk (bk1 (y1.1,(w1 y1.2.1,()))))) (.lf PM (y1.1,()))) (an_ @countGuess.eq_1<|@countGuess.eq_2))
abbrev B3 (l:(List Sk_)):LInv:=⟨[⟨.s,3,true,.el .int⟩,⟨.s,8,true,.el .int⟩],λ_ (x_:Ty1_)=>0<=x_.2.1/\x_.2.1<=l.length/\0<=x_.1/\x_.1<=x_.2.1/\x_.1+countGuess (l.drop x_.2.1.toNat)=countGuess l,λ(x_:Ty1_)=>l.length-x_.2.1.toNat⟩
def E2:=E1.a PM<|Fct.p (KP [0,2,3,5,6,7,8] [9,13]) (λ⟨l,_⟩=>lv [(3,B3 l)]) E1.2 func49 (by
 rintro⟨(l:List Sk_),_⟩ hp;exact hg (.lq (Int×Int×PUnit) (B3 l).inv (B3 l).m ((0:Int),((0:Int),())) λy1 bk1=>.br (decide (y1.2.1<(l.length:Int))) (.ob (inB y1.2.1 l.length)<|.br ((l.getD y1.2.1.toNat default).guess) (.re (l)<|.re (Value.int IntKind.i64 (0:Int))<|.re (l)<|.re (Value.int IntKind.i64 (l.length:Int))<|.bk (bk1 (w1 y1.1,(w1 y1.2.1,())))) (.re (l)<|.re (Value.int IntKind.i64 (0:Int))<|.re (l)<|.re (Value.int IntKind.i64 (l.length:Int))<|.bk (bk1 (y1.1,(w1 y1.2.1,()))))) (.lf PM (y1.1,()))) (an_ @countGuess.eq_1<|@countGuess.eq_2))
def findConn (a:Sb_):List Sk_->Int->Int
 | [],_=>-1
 | c::l,i=>if c.to=a then i else findConn a l (i+1)
def IH {a:Sb_} {l:List Sk_} {i:Nat} {z:Int} (h:i<l.length):findConn a (l.drop i) z=if(l.getD i default).to=a then z else findConn a (l.drop (i+1)) (z+1):=by rw[drop_cons h];rfl
def M7 {a:Sb_} {l:List Sk_} {i:Nat} {z:Int} (h:l.length<=i):findConn a (l.drop i) z = -1:=by rw[Qb2 h];rfl
def SD (x y:Sb_):(x.host==y.host&&(x.path==y.path&&true))=decide (x=y):=Ea x y
abbrev Rp:Fct:=⟨[aL .conn,aE .addr],[rI],λ(x:List Sk_×Sb_×Unit)=>x.1.length<=1048576,λx=>(findConn x.2.1 x.1 0,())⟩
abbrev Lfind (l:List Sk_) (a:Sb_):LInv:=⟨[⟨.s,5,true,.el .int⟩,⟨.b,3,true,.el .addr⟩],λ_ (x:Ty2_)=>0<=x.1/\x.1<=l.length/\x.2.1=a/\findConn a l 0=findConn a (l.drop x.1.toNat) x.1,λ(x:Ty2_)=>l.length-x.1.toNat⟩
def E3:=E2.a Rp<|Fct.p (KP [0,3,4,5] [9,18]) (λ⟨l,a,_⟩=>lv [(2,Lfind l a)]) E2.2 func77 (by
 rintro⟨(l:List Sk_),(a:Sb_),_⟩ hp;refine ho (lpx (Lfind l a) ((0:Int),(a,())) λ(y1:Ty2_) bk1=>.br (decide (y1.1<(l.length:Int))) (.ob (inB y1.1 l.length)<|.br ((l.getD y1.1.toNat default).to.host==y1.2.1.host&&((l.getD y1.1.toNat default).to.path==y1.2.1.path&&true)) (.lf Rp (y1.1,())) (.ob (l=l)<|.ob (bk1 (w1 y1.1,(y1.2.1,())))<|.ok)) (.lf Rp ((-1:Int),()))) ?_;refine Au ?_ λ(y1:Ty2_) i1=>Aa (λh2=>Ac ?_ λ_=>Aa (λh4=>lfY ?_) (λh4=>Ac rfl λ_=>Ac ?_ λ_=>trivial)) (λh2=>lfY ?_)
 all_goals
  try simp only[Lfind,std,Nat.reduceAdd] at *
  try simp only[SD,Qa8,Qb3] at *
 ·first|omega|exact⟨o_,o_,by simp⟩
 ·omega
 ·rw[IH o_,Qa3 (h4.trans i1.2.2.1)] at i1;exact i1.2.2.2.symm
 ·rw[IH o_,Qa5 (λh=>h4 (h.trans i1.2.2.1.symm))] at i1;have hn:l.length<=1048576:=hp;rw[Al o_,toNat1 o_];exact⟨⟨o_,o_,i1.2.2.1,i1.2.2.2⟩,o_⟩
 ·rw[M7 o_] at i1;exact i1.2.2.2.symm)
abbrev Aae:Fct:=⟨[aE .conn,.p (.el .addr)],[rB],λ_=>True,λx=>(decide (x.1.to=x.2.1),())⟩
def E4:=E3.a Aae<|Fct.o [1,2,3] E3.2 func140 (by
 rintro⟨(c:Sk_),(a:Sb_),_⟩ hp;refine ho (.lf Aae (c.to.host==a.host&&(c.to.path==a.path&&true),())) ?_;refine lfY ?_;show(_,())=(_,());rw[SD])
abbrev Nx:Fct:=⟨[aL .conn,.c 140 [.el .addr]],[rI],λ(x:List Sk_×(Sb_×Unit)×Unit)=>x.1.length<=1048576,λx=>(findConn x.2.1.1 x.1 0,())⟩
abbrev Lidx (l:List Sk_) (F:List Sk_->Int->Int):LInv:=⟨[⟨.s,8,true,.el .int⟩],λ_ (x:Ty3_)=>0<=x.1/\x.1<=l.length/\F l 0=F (l.drop x.1.toNat) x.1,λ(x:Ty3_)=>l.length-x.1.toNat⟩
abbrev Lidxf (l:List Sk_) (a:Ty4_):LInv:=Lidx l (findConn a.1)
def E5:=E4.a Nx<|Fct.p (KP [0,1,4,5,7,8] [9,16]) (λ⟨l,a,_⟩=>lv [(2,Lidxf l a)]) E4.2 func139 (by
 rintro⟨(l:List Sk_),(a:Ty4_),_⟩ hp;refine ho (lpx (Lidxf l a) ((0:Int),()) λ(y1:Ty3_) bk1=>.br (decide (y1.1<(l.length:Int))) (.ob (inB y1.1 l.length)<|.cl Aae (l.getD y1.1.toNat default,a.1,()) λz2=>.br (z2.1) (.lf Nx (y1.1,())) (.ob (l=l)<|.ob (enc Ty.addr a.1=enc Ty.addr a.1)<|.ob (Value.int IntKind.i64 (l.length:Int)=Value.int IntKind.i64 (l.length:Int))<|.ob (bk1 (w1 y1.1,()))<|.ok)) (.lf Nx ((-1:Int),()))) ?_;refine Au ?_ λ(y1:Ty3_) i1=>Aa (λh2=>Ac ?_ λ_=>Af trivial λ_=>(Aa (λh4=>lfY ?_) (λh4=>Ac rfl λ_=>Ac rfl λ_=>Ac rfl λ_=>Ac ?_ λ_=>trivial))) (λh2=>lfY ?_)
 all_goals
  try simp only[Lidxf,std,Nat.reduceAdd] at *
  try simp only[SD,Qa8,Qb3] at *
 ·first|omega|exact⟨o_,o_,by simp⟩
 ·omega
 ·rw[IH o_,Qa3 h4] at i1;exact i1.2.2.symm
 ·rw[IH o_,Qa5 h4] at i1;have hn:l.length<=1048576:=hp;rw[Al o_,toNat1 o_];exact⟨⟨o_,o_,i1.2.2⟩,o_⟩
 ·rw[M7 o_] at i1;exact i1.2.2.symm)
def E6:=E5.a Rp<|Fct.o [0,3,4] E5.2 func52 (by
 rintro⟨(l:List Sk_),(a:Sb_),_⟩ hp;refine ho (.cl Nx (l,(a,()),()) λ(z2:Ty3_)=>.lf Rp (z2.1,())) ?_;refine Af ?_ λ_=>(lfY ?_)
 all_goals try simp only[std,Nat.reduceAdd] at *
 all_goals first|trivial|omega|(simp_all;done)|(simp_all;omega)|grind)
def firstDone:List Sk_->Int->Int
 | [],_=>-1
 | c::l,i=>if c.left<=0 then i else firstDone l (i+1)
def HN {l:List Sk_} {i:Nat} {z:Int} (h:i<l.length):firstDone (l.drop i) z=if(l.getD i default).left<=0 then z else firstDone (l.drop (i+1)) (z+1):=by rw[drop_cons h];rfl
def Ll {l:List Sk_} {i:Nat} {z:Int} (h:l.length<=i):firstDone (l.drop i) z = -1:=by rw[Qb2 h];rfl
abbrev Oq:Fct:=⟨[aL .conn],[rI],λ(x:Ty0_)=>x.1.length<=1048576,λx=>(firstDone x.1 0,())⟩
abbrev Lfirst (l:List Sk_):LInv:=⟨[⟨.s,3,true,.el .int⟩],λ_ (x:Ty3_)=>0<=x.1/\x.1<=l.length/\firstDone l 0=firstDone (l.drop x.1.toNat) x.1,λ(x:Ty3_)=>l.length-x.1.toNat⟩
def E7:=E6.a Oq<|Fct.p (KP [0,2,3] [7,15]) (λ⟨l,_⟩=>lv [(2,Lfirst l)]) E6.2 func80 (by
 rintro⟨(l:List Sk_),_⟩ hp;refine ho (lpx (Lfirst l) ((0:Int),()) λ(y1:Ty3_) bk1=>.br (decide (y1.1<(l.length:Int))) (.ob (inB y1.1 l.length)<|.br (decide ((l.getD y1.1.toNat default).left<=0)) (.lf Oq (y1.1,())) (.ob (l=l)<|.ob (bk1 (w1 y1.1,()))<|.ok)) (.lf Oq ((-1:Int),()))) ?_;refine Au ?_ λ(y1:Ty3_) i1=>Aa (λh2=>Ac ?_ λ_=>Aa (λh4=>lfY ?_) (λh4=>Ac rfl λ_=>Ac ?_ λ_=>trivial)) (λh2=>lfY ?_)
 all_goals
  try simp only[Lfirst,std,Nat.reduceAdd] at *
  try simp only[SD,Qa8,Qb3] at *
 ·first|omega|exact⟨o_,o_,by simp⟩
 ·omega
 ·rw[HN o_,Qa3 h4] at i1;exact i1.2.2.symm
 ·rw[HN o_,Qa5 o_] at i1;have hn:l.length<=1048576:=hp;rw[Al o_,toNat1 o_];exact⟨⟨o_,o_,i1.2.2⟩,o_⟩
 ·rw[Ll o_] at i1;exact i1.2.2.symm)
abbrev UH:Fct:=⟨[aE .conn],[rB],λ_=>True,λx=>(decide (x.1.left<=0),())⟩
def E8:=E7.a UH<|Fct.o [1,2] E7.2 func141 (by
 rintro⟨(c:Sk_),_⟩ hp;refine ho (.lf UH (decide (c.left<=0),())) ?_;refine lfY ?_;all_goals try simp only[std,Nat.reduceAdd] at *
 all_goals first|trivial|omega|(simp_all;done)|(simp_all;omega)|grind)
abbrev Lr:Fct:=⟨[aL .conn,.c 141 []],[rI],λ(x:List Sk_×Unit×Unit)=>x.1.length<=1048576,λx=>(firstDone x.1 0,())⟩
def E9:=E8.a Lr<|Fct.p (KP [0,1,4,5,7,8] [9,16]) (λ⟨l,u,_⟩=>lv [(2,Lidx l firstDone)]) E8.2 func139 (by
 rintro⟨(l:List Sk_),(u:PUnit),_⟩ hp;refine ho (lpx (Lidx l firstDone) ((0:Int),()) λ(y1:Ty3_) bk1=>.br (decide (y1.1<(l.length:Int))) (.ob (inB y1.1 l.length)<|.cl UH (l.getD y1.1.toNat default,()) λz2=>.br (z2.1) (.lf Lr (y1.1,())) (.ob (l=l)<|.ob (Value.int IntKind.i64 (l.length:Int)=Value.int IntKind.i64 (l.length:Int))<|.ob (bk1 (w1 y1.1,()))<|.ok)) (.lf Lr ((-1:Int),()))) ?_;refine Au ?_ λ(y1:Ty3_) i1=>Aa (λh2=>Ac ?_ λ_=>Af trivial λ_=>(Aa (λh4=>lfY ?_) (λh4=>Ac rfl λ_=>Ac rfl λ_=>Ac ?_ λ_=>trivial))) (λh2=>lfY ?_)
 all_goals
  try simp only[Lidx,std,Nat.reduceAdd] at *
  try simp only[SD,Qa8,Qb3] at *
 ·first|omega|exact⟨o_,o_,by simp⟩
 ·omega
 ·rw[HN o_,Qa3 h4] at i1;exact i1.2.2.symm
 ·rw[HN o_,Qa5 o_] at i1;have hn:l.length<=1048576:=hp;rw[Al o_,toNat1 o_];exact⟨⟨o_,o_,i1.2.2⟩,o_⟩
 ·rw[Ll o_] at i1;exact i1.2.2.symm)
def E10:=E9.a Oq<|Fct.o [0,2] E9.2 func55 (by
 rintro⟨(l:List Sk_),_⟩ hp;refine ho (.cl Lr (l,(),()) λ(z2:Ty3_)=>.lf Oq (z2.1,())) ?_;refine Af ?_ λ_=>(lfY ?_)
 all_goals try simp only[std,Nat.reduceAdd] at *
 all_goals first|trivial|omega|(simp_all;done)|(simp_all;omega)|grind)
def inRange (n lo hi:Int):Bool:=decide (lo<=n)&&decide (n<=hi)
abbrev Aw:Fct:=⟨[aI,aI,aI],[rB],λ_=>True,λ(x:Int×Int×Int×Unit)=>(inRange x.1 x.2.1 x.2.2.1,())⟩
def E11:=E10.a Aw<|Fct.o [0,1,2,6] E10.2 func53 (by
 rintro⟨(n:Int),(lo:Int),(hi:Int),_⟩ hp;refine ho (.br (decide (lo<=n)) (.lf Aw (decide (n<=hi),())) (.lf Aw (false,()))) ?_;refine Aa (λh1=>lfY ?_) (λh1=>lfY ?_);all_goals try simp only[std,Nat.reduceAdd,inRange] at *
 all_goals first|trivial|(simp_all;done)|(simp_all;omega)|grind)
def E12:=E11.a Aw<|Fct.o [0,1,2,6] E11.2 func78 (by
 rintro⟨(n:Int),(lo:Int),(hi:Int),_⟩ hp;refine ho (.br (decide (n>=lo)) (.lf Aw (decide (n<=hi),())) (.lf Aw (false,()))) ?_;refine Aa (λh1=>lfY ?_) (λh1=>lfY ?_);all_goals try simp only[std,Nat.reduceAdd,inRange] at *
 all_goals first|trivial|(simp_all;done)|(simp_all;omega)|grind)
abbrev Ahn:Fct:=⟨[aI,aI],[rI],λ_=>True,λ(x:Ty1_)=>(max x.1 x.2.1,())⟩
def E13:=E12.a Ahn<|Fct.o (KP [0,1,4] [7]) E12.2 func168 (by
 rintro⟨(a:Int),(b:Int),_⟩ hp;refine ho (.br (decide (b>a)) (.lf Ahn (b,())) (.lf Ahn (a,()))) ?_;refine Aa (λh1=>lfY ?_) (λh1=>lfY ?_);all_goals try simp only[std,Nat.reduceAdd] at *
 all_goals first|trivial|omega|(simp_all;done)|(simp_all;omega)|grind)
abbrev Hq:Fct:=⟨[aL .conn],[rL .conn],λ(x:Ty0_)=>x.1.length<=1048576,λ(x:Ty0_)=>(x.1,())⟩
def E14:=E13.a Hq<|Fct.o [0,2] E13.2 func113 (by
 rintro⟨(l:List Sk_),_⟩ hp;refine ho (.ap (0+List.length l) 112<|.lf Hq ([]++l,())) ?_;refine Ek ?_ λ_=>lfY ?_
 all_goals try simp only[std,Nat.reduceAdd] at *
 all_goals first|trivial|omega|(simp_all;done)|(simp_all;omega)|grind)
def moveOne (b:Int) (c:Sk_):Sk_:={ c with left:=max 0 (IntKind.i64.wrap (c.left-b))}
def moveConns (l:List Sk_) (b:Int):List Sk_:=if inRange b 0 1000 then l.map (moveOne b) else l
abbrev Sg:Fct:=⟨[aL .conn,aI],[rL .conn],λ(x:Ty5_)=>x.1.length<=1048576,λ(x:Ty5_)=>(moveConns x.1 x.2.1,())⟩
abbrev L45 (l:List Sk_) (b:Int):LInv:=⟨[⟨.s,6,true,.el .int⟩,⟨.s,5,true,.sl .conn⟩],λ_ (x:Ty6_)=>0<=x.1/\x.1<=l.length/\x.2.1=moveConns (l.take x.1.toNat) b++l.drop x.1.toNat,λ(x:Ty6_)=>l.length-x.1.toNat⟩
def Cq (l:List Sk_) (b:Int):(moveConns l b).length=l.length:=by unfold moveConns;split<;>simp
def K8 (b:Int):moveConns [] b=[]:=by unfold moveConns;split<;>rfl
def Ku {l:List Sk_} {b:Int} {i:Nat} (hb:inRange b 0 1000=true) (h:i<l.length) {g:Sk_->Sk_} (hg:g (l.getD i default)=moveOne b (l.getD i default)):(moveConns (l.take i) b++l.drop i).modify i g=moveConns (l.take (i+1)) b++l.drop (i+1):=by
 rw[drop_cons h,Vp (by rw[Cq,Qc2];omega),take_succ h];simp only[moveConns,hb,Qe8,List.map_append,Qd0,List.map_nil,Qb5,Qe5,Qf8,hg]
def Q6 {l:List Sk_} {b:Int} {i:Nat} (hb:inRange b 0 1000=false):moveConns (l.take i) b++l.drop i=moveConns l b:=by
 simp[moveConns,hb]
def E15:=E14.a Sg<|Fct.p (KP [0,1,4,5,6] [17]) (λ⟨l,b,_⟩=>lv [(3,L45 l b)]) E14.2 func79 (by
 rintro⟨(l:List Sk_),(b:Int),_⟩ hp;refine ho (.ob (True)<|.ob (Ij (0+l.length) 112)<|lpx (L45 l b) ((0:Int),([]++l,())) λ(y2:Ty6_) bk2=>.br (decide (y2.1<(l.length:Int))) (.cl Aw (b,(0:Int),(1000:Int),()) λz2=>.br (z2.1) (.ob (inB y2.1 l.length)<|.cl Ahn ((0:Int),wr ((l.getD y2.1.toNat default).left-b),()) λ(z3:Ty3_)=>.ob (inB y2.1 y2.2.1.length)<|.ob (y2.1.toNat<y2.2.1.length)<|.lt (List Sk_) (y2.2.1.modify y2.1.toNat λz=>(⟨z.to,z3.1,z.guess,z.bd⟩:Sk_)) λz4=>.ob (l=l)<|.ob (Value.int IntKind.i64 b=Value.int IntKind.i64 b)<|.ob (bk2 (w1 y2.1,(z4,())))<|.ok) (.lf Sg (y2.2.1,()))) (.lf Sg (y2.2.1,()))) ?_;refine Ac trivial λ_=>Ac ?_ λ_=>Au ?_ λ(y2:Ty6_) i2=>Aa (λh3=>Af trivial λ_=>(Aa (λh4=>Ac ?_ λ_=>Af trivial λ_=>(Ac ?_ λ_=>Ac ?_ λ_=>DW (Ac rfl λ_=>Ac rfl λ_=>Ac ?_ λ_=>trivial))) (λh4=>lfY ?_))) (λh3=>lfY ?_)
 all_goals
  try simp only[L45,std,Nat.reduceAdd] at *
  try have hln:y2.2.1.length=l.length:=by rw[i2.2.2,Qa1,Cq,Qc2,Qe3];omega
 ·omega
 ·exact⟨o_,o_,by simp[K8]⟩
 ·omega
 ·omega
 ·omega
 ·rw[Al o_,toNat1 o_,i2.2.2,Ku h4 o_ (by simp[moveOne,Ahn])];exact⟨⟨o_,o_,rfl⟩,o_⟩
 ·rw[i2.2.2,Q6 h4]
 ·rw[i2.2.2,Qb9 o_,Qb2 o_,Qd7])
abbrev L46 (l:List Sk_) (b:Int):LInv:=⟨[⟨.s,15,true,.el .int⟩,⟨.s,5,true,.sl .conn⟩],λ_ (x:Ty6_)=>0<=x.1/\x.1<=l.length/\x.2.1=moveConns (l.take x.1.toNat) b++l.drop x.1.toNat,λ(x:Ty6_)=>l.length-x.1.toNat⟩
def E16:=E15.a Sg<|Fct.p (KP [0,1,4,5,6,14,15] [11,16]) (λ⟨l,b,_⟩=>lv [(5,L46 l b)]) E15.2 func54 (by
 rintro⟨(l:List Sk_),(b:Int),_⟩ hp;refine ho (.cl Hq (l,()) λz2=>.cl Aw (b,(0:Int),(1000:Int),()) λz3=>.br (!z3.1) (.lf Sg (z2.1,())) (lpx (L46 l b) ((0:Int),(z2.1,())) λ(y3:Ty6_) bk3=>.br (decide (y3.1<(z2.1.length:Int))) (.ob (inB y3.1 y3.2.1.length)<|.ob (y3.1.toNat<y3.2.1.length)<|.ob (inB y3.1 y3.2.1.length)<|.ob (y3.1.toNat<y3.2.1.length)<|.lt (List Sk_) (y3.2.1.modify y3.1.toNat λz=>(⟨z.to,if wr ((y3.2.1.getD y3.1.toNat default).left-b)>0 then wr ((y3.2.1.getD y3.1.toNat default).left-b) else(0:Int),z.guess,z.bd⟩:Sk_)) λz4=>.ob (l=l)<|.ob (Value.int IntKind.i64 b=Value.int IntKind.i64 b)<|.ob (Value.int IntKind.i64 (z2.1.length:Int)=Value.int IntKind.i64 (z2.1.length:Int))<|.ob (bk3 (w1 y3.1,(z4,())))<|.ok) (.lf Sg (y3.2.1,())))) ?_;refine Af ?_ λ_=>(Af trivial λ_=>(Aa (λh2=>lfY ?_) (λh2=>Au ?_ λ(y3:Ty6_) i3=>Aa (λh4=>Ac ?_ λ_=>Ac ?_ λ_=>Ac ?_ λ_=>Ac ?_ λ_=>DW (Ac rfl λ_=>Ac rfl λ_=>Ac rfl λ_=>Ac ?_ λ_=>trivial)) (λh4=>lfY ?_))))
 all_goals
  try simp only[Kk] at *
  try simp only[L46,std,Nat.reduceAdd] at *
  try have hln:y3.2.1.length=l.length:=by rw[i3.2.2,Qa1,Cq,Qc2,Qe3];omega
 ·omega
 ·rw[moveConns,h2];rfl
 ·exact⟨o_,o_,by simp[K8]⟩
 ·omega
 ·omega
 ·omega
 ·omega
 ·rw[Al o_,toNat1 o_];refine⟨⟨o_,o_,?_⟩,o_⟩;have hA:(moveConns (l.take y3.1.toNat) b).length=y3.1.toNat:=by rw[Cq,Qc2];omega
  have hget:y3.2.1.getD y3.1.toNat default=l.getD y3.1.toNat default:=by rw[i3.2.2,drop_cons (i:=y3.1.toNat) o_,getD_at hA]
  rw[hget,i3.2.2,Ku h2 o_];simp only[moveOne];congr 1;split<;>omega
 ·rw[i3.2.2,Qb9 o_,Qb2 o_,Qd7])
def sizeResponse (x:Sc_):Int:=x.body.size+20
abbrev Ev:Fct:=⟨[aE .bd],[rI],λ(x:Ty7_)=>x.1.body.size<=1000000000000,λ(x:Ty7_)=>(sizeResponse x.1,())⟩
def E17:=E16.a Ev<|Fct.o [1,2] E16.2 func105 (by
 rintro⟨(x:Sc_),_⟩ hp;refine ho (.lf Ev (wr ((x.body.size:Int)+20),())) ?_;refine lfY ?_;all_goals try simp only[std,Nat.reduceAdd,sizeResponse] at *
 rw[Al o_])
def E18:=E17.a Ev<|Fct.o [1,2] E17.2 func99 (by
 rintro⟨(x:Sc_),_⟩ hp;refine ho (.lf Ev (wr ((x.body.size:Int)+20),())) ?_;refine lfY ?_;all_goals try simp only[std,Nat.reduceAdd,sizeResponse] at *
 rw[Al o_])
def openConn (l:List Sk_) (a:Sb_) (x:Sc_) (g:Bool):List Sk_×Bool:=if(l.length:Int)>=3\/findConn a l 0>=0 then(l,false) else(l++[⟨a,sizeResponse x,g,x⟩],true)
abbrev Ng:Fct:=⟨[aL .conn,aE .addr,aE .bd,aB],[rL .conn,rB],λ(x:Ty8_)=>x.1.length<=1048576/\x.2.2.1.body.size<=1048576,λ(x:Ty8_)=>((openConn x.1 x.2.1 x.2.2.1 x.2.2.2.1).1,(openConn x.1 x.2.1 x.2.2.1 x.2.2.2.1).2,())⟩
def E19:=E18.a Ng<|Fct.o (KP [0,3,5,6,8,9,10] [22]) E18.2 func72 (by
 rintro⟨(l:List Sk_),(a:Sb_),(x:Sc_),(g:Bool),_⟩ hp;refine ho (.ap (0+List.length l) 112<|.br (decide ((↑(List.length l):Int)>=3)) (.lf Ng ([]++l,false,())) (.cl Rp (l,a,()) λ(z2:Ty3_)=>.br (decide (z2.1>=0)) (.lf Ng ([]++l,false,())) (.cl Ev (x,()) λ(z3:Ty3_)=>.ap (([]++l).length+[(⟨a,z3.1,g,x⟩:Sk_)].length) 112<|.lf Ng ([]++l++[(⟨a,z3.1,g,x⟩:Sk_)],true,())))) ?_;refine Ek ?_ λ_=>Aa (λh2=>lfY ?_) (λh2=>Af ?_ λ_=>(Aa (λh4=>lfY ?_) (λh4=>Af ?_ λ_=>(Ek ?_ λ_=>lfY ?_))))
 all_goals
  have hp1:l.length<=1048576:=hp.1;have hp3:x.body.size<=1048576:=hp.2;clear hp;try simp only[Kk] at *
  try simp only[std,Nat.reduceAdd,Qa1,Qa7,Qb1] at *
 all_goals first|trivial|omega|(simp[openConn,h2];done)|(simp[openConn,h4];done)|(have hh:¬ ((3:Int)<=(l.length:Int)\/0<=findConn a l 0):=by omega;simp[openConn,hh];done)|skip
 all_goals
  rw[openConn,Qa5 (show ¬ ((l.length:Int)>=3\/findConn a l 0>=0) by rintro(h|h)<;>omega)];exact⟨rfl,rfl⟩)
def E20:=E19.a Ng<|Fct.o (KP [0,3,5,6,8,9,10] [21]) E19.2 func48 (by
 rintro⟨(l:List Sk_),(a:Sb_),(x:Sc_),(g:Bool),_⟩ hp;refine ho (.cl Hq (l,()) λz2=>.br (decide ((↑(List.length l):Int)>=3)) (.lf Ng (z2.1,false,())) (.cl Rp (l,a,()) λ(z3:Ty3_)=>.br (decide (z3.1>=0)) (.lf Ng (z2.1,false,())) (.cl Ev (x,()) λ(z4:Ty3_)=>.ap (z2.1.length+[(⟨a,z4.1,g,x⟩:Sk_)].length) 112<|.lf Ng (z2.1++[(⟨a,z4.1,g,x⟩:Sk_)],true,())))) ?_;refine Af ?_ λ_=>(Aa (λh2=>lfY ?_) (λh2=>Af ?_ λ_=>(Aa (λh4=>lfY ?_) (λh4=>Af ?_ λ_=>(Ek ?_ λ_=>lfY ?_)))))
 all_goals
  have hp1:l.length<=1048576:=hp.1;have hp3:x.body.size<=1048576:=hp.2;clear hp;try simp only[Kk] at *
  try simp only[std,Nat.reduceAdd,Qa1,Qa7,Qb1] at *
 all_goals first|trivial|omega|(simp[openConn,h2];done)|(simp[openConn,h4];done)|(have hh:¬ ((3:Int)<=(l.length:Int)\/0<=findConn a l 0):=by omega;simp[openConn,hh];done)|skip
 all_goals
  rw[openConn,Qa5 (show ¬ ((l.length:Int)>=3\/findConn a l 0>=0) by rintro(h|h)<;>omega)];exact⟨rfl,rfl⟩)
abbrev I3:Fct:=⟨[.v (.sl .addr),.v (.el .addr)],[.el .int],λ(x_:Ty9_)=>x_.1.length<=1000000000000000000,λ(x_:Ty9_)=>(fidx (λc=>decide (c=x_.2.1)) x_.1 0,())⟩
abbrev AP (l:(List Sb_)) (a:Sb_):LInv:=⟨[⟨.s,8,true,.el .int⟩,⟨.b,3,true,.el .addr⟩],λ(z_ x_:Ty2_)=>(0<=x_.1/\x_.1<=l.length/\fidx (λc=>decide (c=a)) l 0=fidx (λc=>decide (c=a)) (l.drop x_.1.toNat) x_.1)/\x_.2.1=z_.2.1,λ(x_:Ty2_)=>l.length-x_.1.toNat⟩
def E21:=E20.a I3<|Fct.p (KP [0,3,4,5,7,8] [9,16]) (λ⟨l,a,_⟩=>lv [(2,AP l a)]) E20.2 func321 (by
 rintro⟨(l:List Sb_),(a:Sb_),_⟩ hp;exact hg (.lq (Int×Sb_×PUnit) (AP l a).inv (AP l a).m ((0:Int),(a,())) λy1 bk1=>.br (decide (y1.1<(l.length:Int))) (.ob (inB y1.1 l.length)<|.br (y1.2.1.host==(l.getD y1.1.toNat default).host&&(y1.2.1.path==(l.getD y1.1.toNat default).path&&true)) (.lf I3 (y1.1,())) (.re (l)<|.re (Value.int IntKind.i64 (l.length:Int))<|.bk (bk1 (w1 y1.1,(y1.2.1,()))))) (.lf I3 ((-1:Int),()))) (an_ @fidx.eq_1<|@fidx.eq_2))
abbrev GM:Fct:=⟨[.v (.sl .addr),.v (.el .addr)],[.el .bool],λ(x_:Ty9_)=>x_.1.length<=1000000000000000000,λ(x_:Ty9_)=>(x_.1.any λc=>decide (c=x_.2.1),())⟩
def E22:=E21.a GM<|Fct.o [0,3,4] E21.2 func217 (by
 rintro⟨(l:List Sb_),(a:Sb_),_⟩ hp;refine ho (.cl I3 (l,a,()) λ(z2:Ty3_)=>.lf GM (decide (z2.1>=0),())) ?_;refine Af ?_ λ_=>(lfY ?_)
 all_goals try simp only[std,Nat.reduceAdd] at *
 all_goals first|trivial|omega|(rw[Bool.eq_iff_iff];exact decide_eq_true_iff.trans (KN _ _ _ o_)))
abbrev Fg:Fct:=⟨[.v (.sl .addr),.v (.el .addr)],[.el .bool],λ(x_:Ty9_)=>x_.1.length<=1000000000000000000,λ(x_:Ty9_)=>(x_.1.any λc=>decide (c=x_.2.1),())⟩
abbrev CY (l:(List Sb_)) (a:Sb_):LInv:=⟨[⟨.s,5,true,.el .int⟩,⟨.b,3,true,.el .addr⟩],λ(z_ x_:Ty2_)=>(0<=x_.1/\x_.1<=l.length/\l.any (λc=>decide (c=a))=(l.drop x_.1.toNat).any (λc=>decide (c=a)))/\x_.2.1=z_.2.1,λ(x_:Ty2_)=>l.length-x_.1.toNat⟩
def E23:=E22.a Fg<|Fct.p (KP [0,3,4,5] [9,17]) (λ⟨l,a,_⟩=>lv [(2,CY l a)]) E22.2 func150 (by
 rintro⟨(l:List Sb_),(a:Sb_),_⟩ hp;exact hq (.lq (Int×Sb_×PUnit) (CY l a).inv (CY l a).m ((0:Int),(a,())) λy1 bk1=>.br (decide (y1.1<(l.length:Int))) (.ob (inB y1.1 l.length)<|.br ((l.getD y1.1.toNat default).host==y1.2.1.host&&((l.getD y1.1.toNat default).path==y1.2.1.path&&true)) (.lf Fg (true,())) (.re (l)<|.bk (bk1 (w1 y1.1,(y1.2.1,()))))) (.lf Fg (false,()))))
def E24:=E23.a Fg<|Fct.o [0,3,4] E23.2 func119 (by
 rintro⟨(l:List Sb_),(a:Sb_),_⟩ hp;exact hq (.cl GM (l,a,()) λz2=>.lf Fg (z2.1,())))
def withoutAddrs (d:List Sb_):List Sg_->List Sg_
 | []=>[]
 | r::l=>if d.any (λc=>decide (c=r.to)) then withoutAddrs d l else r::withoutAddrs d l
abbrev Ew:Fct:=⟨[.v (.sl .request),.v (.sl .addr)],[.sl .request],λ(x_:Ty10_)=>x_.1.length<=1000000000000/\x_.2.1.length<=1048576,λ(x_:Ty10_)=>(withoutAddrs x_.2.1 x_.1,())⟩
abbrev BC (l:(List Sg_)) (d:(List Sb_)):LInv:=⟨[⟨.s,5,true,.sl .request⟩,⟨.s,6,true,.el .int⟩],λ_ (x_:Ty11_)=>0<=x_.2.1/\x_.2.1<=l.length/\x_.1.length<=x_.2.1/\withoutAddrs d l=x_.1++withoutAddrs d (l.drop x_.2.1.toNat),λ(x_:Ty11_)=>l.length-x_.2.1.toNat⟩
def E25:=E24.a Ew<|Fct.p (KP [0,1,4,5,6] [11,21]) (λ⟨l,d,_⟩=>lv [(3,BC l d)]) E24.2 func64 (by
 rintro⟨(l:List Sg_),(d:List Sb_),_⟩ hp;exact hg (.lq (List Sg_×Int×PUnit) (BC l d).inv (BC l d).m ([],((0:Int),())) λy1 bk1=>.br (decide (y1.2.1<(l.length:Int))) (.ob (inB y1.2.1 l.length)<|.cl Fg (d,(l.getD y1.2.1.toNat default).to,()) λz2=>.br (!z2.1) (.ob (inB y1.2.1 l.length)<|.ap (y1.1.length+[l.getD y1.2.1.toNat default].length) 72<|.re (l)<|.re (d)<|.bk (bk1 (y1.1++[l.getD y1.2.1.toNat default],(w1 y1.2.1,())))) (.re (l)<|.re (d)<|.bk (bk1 (y1.1,(w1 y1.2.1,()))))) (.lf Ew (y1.1,()))) (an_ @withoutAddrs.eq_1<|@withoutAddrs.eq_2))
abbrev BB (l:(List Sg_)) (d:(List Sb_)):LInv:=⟨[⟨.s,5,true,.sl .request⟩,⟨.s,11,true,.el .int⟩],λ_ (x_:Ty11_)=>0<=x_.2.1/\x_.2.1<=l.length/\x_.1.length<=x_.2.1/\withoutAddrs d l=x_.1++withoutAddrs d (l.drop x_.2.1.toNat),λ(x_:Ty11_)=>l.length-x_.2.1.toNat⟩
def E26:=E25.a Ew<|Fct.p (KP [0,1,4,5,7,9,10,11] [12,19]) (λ⟨l,d,_⟩=>lv [(3,BB l d)]) E25.2 func41 (by
 rintro⟨(l:List Sg_),(d:List Sb_),_⟩ hp;exact hg (.lq (List Sg_×Int×PUnit) (BB l d).inv (BB l d).m ([],((0:Int),())) λy1 bk1=>.br (decide (y1.2.1<(l.length:Int))) (.ob (inB y1.2.1 l.length)<|.cl Fg (d,(l.getD y1.2.1.toNat default).to,()) λz2=>.br (!z2.1) (.ap (y1.1.length+[l.getD y1.2.1.toNat default].length) 72<|.re (l)<|.re (d)<|.re (l)<|.re (Value.int IntKind.i64 (l.length:Int))<|.bk (bk1 (y1.1++[l.getD y1.2.1.toNat default],(w1 y1.2.1,())))) (.re (l)<|.re (d)<|.re (l)<|.re (Value.int IntKind.i64 (l.length:Int))<|.bk (bk1 (y1.1,(w1 y1.2.1,()))))) (.lf Ew (y1.1,()))) (an_ @withoutAddrs.eq_1<|@withoutAddrs.eq_2))
def Ji (d:List Sb_) (l:List Sg_):(withoutAddrs d l).length<=l.length:=by
 induction l<;>grind[withoutAddrs]
abbrev JU:Fct:=⟨[.v (.sl .str),.v (.el .str)],[.el .int],λ(x_:Ty12_)=>x_.1.length<=1000000000000000000,λ(x_:Ty12_)=>(fidx (λc=>decide (c=x_.2.1)) x_.1 0,())⟩
abbrev A3 (l:(List ByteArray)) (a:ByteArray):LInv:=⟨[⟨.s,8,true,.el .int⟩],λ_ (x_:Ty3_)=>0<=x_.1/\x_.1<=l.length/\fidx (λc=>decide (c=a)) l 0=fidx (λc=>decide (c=a)) (l.drop x_.1.toNat) x_.1,λ(x_:Ty3_)=>l.length-x_.1.toNat⟩
def E27:=E26.a JU<|Fct.p (KP [0,1,4,5,7,8] [9,16]) (λ⟨l,a,_⟩=>lv [(2,A3 l a)]) E26.2 func392 (by
 rintro⟨(l:List ByteArray),(a:ByteArray),_⟩ hp;exact hg (.lq (Int×PUnit) (A3 l a).inv (A3 l a).m ((0:Int),()) λy1 bk1=>.br (decide (y1.1<(l.length:Int))) (.ob (inB y1.1 l.length)<|.br (a.toList==(l.getD y1.1.toNat default).toList) (.lf JU (y1.1,())) (.re (l)<|.re (Value.string a)<|.re (Value.int IntKind.i64 (l.length:Int))<|.bk (bk1 (w1 y1.1,())))) (.lf JU ((-1:Int),()))) (an_ @fidx.eq_1<|@fidx.eq_2))
abbrev F5:Fct:=⟨[.v (.sl .str),.v (.el .str)],[.el .bool],λ(x_:Ty12_)=>x_.1.length<=1000000000000000000,λ(x_:Ty12_)=>(x_.1.any λc=>decide (c=x_.2.1),())⟩
def E28:=E27.a F5<|Fct.o [0,1,4] E27.2 func335 (by
 rintro⟨(l:List ByteArray),(a:ByteArray),_⟩ hp;refine ho (.cl JU (l,a,()) λ(z2:Ty3_)=>.lf F5 (decide (z2.1>=0),())) ?_;refine Af ?_ λ_=>(lfY ?_)
 all_goals try simp only[std,Nat.reduceAdd] at *
 all_goals first|trivial|omega|(rw[Bool.eq_iff_iff];exact decide_eq_true_iff.trans (KN _ _ _ o_)))
abbrev Ua:Fct:=⟨[.v (.sl .str),.v (.el .str)],[.el .bool],λ(x_:Ty12_)=>x_.1.length<=1000000000000000000,λ(x_:Ty12_)=>(x_.1.any λc=>decide (c=x_.2.1),())⟩
abbrev ED (l:(List ByteArray)) (s:ByteArray):LInv:=⟨[⟨.s,5,true,.el .int⟩],λ_ (x_:Ty3_)=>0<=x_.1/\x_.1<=l.length/\l.any (λc=>decide (c=s))=(l.drop x_.1.toNat).any (λc=>decide (c=s)),λ(x_:Ty3_)=>l.length-x_.1.toNat⟩
def E29:=E28.a Ua<|Fct.p (KP [0,1,4,5] [9,17]) (λ⟨l,s,_⟩=>lv [(2,ED l s)]) E28.2 func356 (by
 rintro⟨(l:List ByteArray),(s:ByteArray),_⟩ hp;exact hq (.lq (Int×PUnit) (ED l s).inv (ED l s).m ((0:Int),()) λy1 bk1=>.br (decide (y1.1<(l.length:Int))) (.ob (inB y1.1 l.length)<|.br ((l.getD y1.1.toNat default).toList==s.toList) (.lf Ua (true,())) (.re (l)<|.re (Value.string s)<|.bk (bk1 (w1 y1.1,())))) (.lf Ua (false,()))))
def blockedOn (p:Sa_):Sb_×Bool:=if 1<=p.block/\p.block<=p.bf.length then((p.bf.getD (p.block-1).toNat default).to,true) else(default,false)
abbrev Ey:Fct:=⟨[.v (.el .page)],[.el .addr,.el .bool],λ(x_:Ty13_)=>x_.1.bf.length<=1000000000000/\-9223372036854775808<=x_.1.block/\x_.1.block<=9223372036854775807,λ(x_:Ty13_)=>((blockedOn x_.1).1,(blockedOn x_.1).2,())⟩
def E30:=E29.a Ey<|Fct.o (KP [1,2,3] [10]) E29.2 func255 (by
 rintro⟨(p:Sa_),_⟩ hp;exact hg (.cl Aw (p.block,(1:Int),(p.bf.length:Int),()) λz2=>.br (!z2.1) (.lf Ey (default,false,())) (.ob (0<=wr (p.block-(1:Int))/\wr (p.block-(1:Int))<(p.bf.length:Int))<|.lf Ey ((p.bf.getD (wr (p.block-(1:Int))).toNat default).to,true,()))) (an_ @blockedOn.eq_1<|@inRange.eq_1))
def E31:=E30.a Ey<|Fct.o (KP [1,2,3,4] [21]) E30.2 func219 (by
 rintro⟨(p:Sa_),_⟩ hp;refine ho (.br (p.block==0) (.lf Ey (default,false,())) (.br (decide (wr (p.block-(1:Int))<0)) (.lf Ey (default,false,())) (.br (decide (wr (p.block-(1:Int))>=(p.bf.length:Int))) (.lf Ey (default,false,())) (.ob (0<=wr (p.block-(1:Int))/\wr (p.block-(1:Int))<(p.bf.length:Int))<|.lf Ey ((p.bf.getD (wr (p.block-(1:Int))).toNat default).to,true,()))))) ?_;refine Aa (λh1=>lfY ?_) (λh1=>Aa (λh2=>lfY ?_) (λh2=>Aa (λh3=>lfY ?_) (λh3=>Ac ?_ λ_=>lfY ?_)));all_goals
  try simp only[std,Nat.reduceAdd,blockedOn] at *
  try simp only[IntKind.wrap_i64] at *
  try simp(disch:=omega) only[Qa3,Qa5]
 all_goals first|trivial|omega|skip
 rw[show((p.block-1+9223372036854775808) % 18446744073709551616-9223372036854775808).toNat=(p.block-1).toNat from o_];trivial)
def classOf (p:Sa_) (r:Sg_):Int:=if(blockedOn p).2=true/\(blockedOn p).1=r.to then 0 else if r.kind=3 then 1 else if r.kind=2 then 2 else if r.kind=5 then 3 else if r.kind=4 then 4 else 5
abbrev DQ:Fct:=⟨[.v (.el .page),.v (.el .request)],[.el .int],λ(x_:Sa_×Sg_×Unit)=>x_.1.bf.length<=1000000000000/\-9223372036854775808<=x_.1.block/\x_.1.block<=9223372036854775807,λ(x_:Sa_×Sg_×Unit)=>(classOf x_.1 x_.2.1,())⟩
theorem q7 (p:Sa_) (r:Sg_) (hp:DQ.pre (p,r,())):Out.holds (DQ.ctr (p,r,())).post (let q0_:Out:=.br (r.kind==3) (.lf DQ ((1:Int),())) (.br (r.kind==2) (.lf DQ ((2:Int),())) (.br (r.kind==5) (.lf DQ ((3:Int),())) (.br (r.kind==4) (.lf DQ ((4:Int),())) (.lf DQ ((5:Int),())))));.cl Ey (p,()) λz2=>.br (z2.2.1) (.br (z2.1.host==r.to.host&&(z2.1.path==r.to.path&&true)) (.lf DQ ((0:Int),())) q0_) q0_):=hz ((@classOf.eq_1))
def E32:=E31.a DQ<|Fct.o (KP [2,3,4,5,6,20] [18,21,23,25,27]) E31.2 func155 (by
 rintro⟨(p:Sa_),(r:Sg_),_⟩ hp;exact ho _ (q7 p r hp))
def E33:=E32.a DQ<|Fct.o (KP [2,3,4,5,6,20] [18,21,23,25,27]) E32.2 func124 (by
 rintro⟨(p:Sa_),(r:Sg_),_⟩ hp;exact ho _ (q7 p r hp))
abbrev ID:Fct:=⟨[.v (.sl .int),.v (.sl .int)],[.el .bool],λ(x_:(List Int)×(List Int)×Unit)=>x_.1.length<=1000000000000000000,λ(x_:(List Int)×(List Int)×Unit)=>(decide (x_.1=x_.2.1),())⟩
abbrev BA (l:(List Int)) (m:(List Int)):LInv:=⟨[⟨.s,13,true,.el .int⟩],λ_ (x_:Ty3_)=>0<=x_.1/\x_.1<=l.length/\l.length=m.length/\decide (l.drop x_.1.toNat=m.drop x_.1.toNat)=decide (l=m),λ(x_:Ty3_)=>l.length-x_.1.toNat⟩
def E34:=E33.a ID<|Fct.p (KP [0,1,4,5,12,13] [10,14,24]) (λ⟨l,m,_⟩=>lv [(4,BA l m)]) E33.2 func278 (by
 rintro⟨(l:List Int),(m:List Int),_⟩ hp;exact hq (.br ((l.length:Int) != (m.length:Int)) (.lf ID (false,())) (.lq (Int×PUnit) (BA l m).inv (BA l m).m ((0:Int),()) λy2 bk2=>.br (decide (y2.1<(l.length:Int))) (.ob (inB y2.1 l.length)<|.ob (inB y2.1 m.length)<|.br (l.getD y2.1.toNat default != m.getD y2.1.toNat default) (.lf ID (false,())) (.re (l)<|.re (m)<|.re (Value.int IntKind.i64 (l.length:Int))<|.bk (bk2 (w1 y2.1,())))) (.lf ID (true,())))))
abbrev Es:Fct:=⟨[.v (.sl .str),.v (.sl .str)],[.el .bool],λ(x_:Ty14_)=>x_.1.length<=1000000000000000000,λ(x_:Ty14_)=>(decide (x_.1=x_.2.1),())⟩
abbrev A4 (l:(List ByteArray)) (m:(List ByteArray)):LInv:=⟨[⟨.s,13,true,.el .int⟩],λ_ (x_:Ty3_)=>0<=x_.1/\x_.1<=l.length/\l.length=m.length/\decide (l.drop x_.1.toNat=m.drop x_.1.toNat)=decide (l=m),λ(x_:Ty3_)=>l.length-x_.1.toNat⟩
def E35:=E34.a Es<|Fct.p (KP [0,1,4,5,12,13] [10,14,24]) (λ⟨l,m,_⟩=>lv [(4,A4 l m)]) E34.2 func84 (by
 rintro⟨(l:List ByteArray),(m:List ByteArray),_⟩ hp;exact hq (.br ((l.length:Int) != (m.length:Int)) (.lf Es (false,())) (.lq (Int×PUnit) (A4 l m).inv (A4 l m).m ((0:Int),()) λy2 bk2=>.br (decide (y2.1<(l.length:Int))) (.ob (inB y2.1 l.length)<|.ob (inB y2.1 m.length)<|.br (!(l.getD y2.1.toNat default).toList==(m.getD y2.1.toNat default).toList) (.lf Es (false,())) (.re (l)<|.re (m)<|.re (Value.int IntKind.i64 (l.length:Int))<|.bk (bk2 (w1 y2.1,())))) (.lf Es (true,())))))
abbrev GB:Fct:=⟨[.v (.sl .attr),.v (.sl .attr)],[.el .bool],λ(x_:Ty15_)=>x_.1.length<=1000000000000000000,λ(x_:Ty15_)=>(decide (x_.1=x_.2.1),())⟩
abbrev AS (l:(List St_)) (m:(List St_)):LInv:=⟨[⟨.s,13,true,.el .int⟩],λ_ (x_:Ty3_)=>0<=x_.1/\x_.1<=l.length/\l.length=m.length/\decide (l.drop x_.1.toNat=m.drop x_.1.toNat)=decide (l=m),λ(x_:Ty3_)=>l.length-x_.1.toNat⟩
def E36:=E35.a GB<|Fct.p (KP [0,1,4,5,12,13] [10,14,24]) (λ⟨l,m,_⟩=>lv [(4,AS l m)]) E35.2 func275 (by
 rintro⟨(l:List St_),(m:List St_),_⟩ hp;exact hq (.br ((l.length:Int) != (m.length:Int)) (.lf GB (false,())) (.lq (Int×PUnit) (AS l m).inv (AS l m).m ((0:Int),()) λy2 bk2=>.br (decide (y2.1<(l.length:Int))) (.ob (inB y2.1 l.length)<|.ob (inB y2.1 m.length)<|.br (!((l.getD y2.1.toNat default).name==(m.getD y2.1.toNat default).name&&((l.getD y2.1.toNat default).value==(m.getD y2.1.toNat default).value&&true))) (.lf GB (false,())) (.re (l)<|.re (m)<|.re (Value.int IntKind.i64 (l.length:Int))<|.bk (bk2 (w1 y2.1,())))) (.lf GB (true,())))))
abbrev Gq:Fct:=⟨[.v (.sl .addr),.v (.sl .addr)],[.el .bool],λ(x_:Ty16_)=>x_.1.length<=1000000000000000000,λ(x_:Ty16_)=>(decide (x_.1=x_.2.1),())⟩
abbrev AR (l:(List Sb_)) (m:(List Sb_)):LInv:=⟨[⟨.s,13,true,.el .int⟩],λ_ (x_:Ty3_)=>0<=x_.1/\x_.1<=l.length/\l.length=m.length/\decide (l.drop x_.1.toNat=m.drop x_.1.toNat)=decide (l=m),λ(x_:Ty3_)=>l.length-x_.1.toNat⟩
def E37:=E36.a Gq<|Fct.p (KP [0,1,4,5,12,13] [10,14,24]) (λ⟨l,m,_⟩=>lv [(4,AR l m)]) E36.2 func180 (by
 rintro⟨(l:List Sb_),(m:List Sb_),_⟩ hp;exact hq (.br ((l.length:Int) != (m.length:Int)) (.lf Gq (false,())) (.lq (Int×PUnit) (AR l m).inv (AR l m).m ((0:Int),()) λy2 bk2=>.br (decide (y2.1<(l.length:Int))) (.ob (inB y2.1 l.length)<|.ob (inB y2.1 m.length)<|.br (!((l.getD y2.1.toNat default).host==(m.getD y2.1.toNat default).host&&((l.getD y2.1.toNat default).path==(m.getD y2.1.toNat default).path&&true))) (.lf Gq (false,())) (.re (l)<|.re (m)<|.re (Value.int IntKind.i64 (l.length:Int))<|.bk (bk2 (w1 y2.1,())))) (.lf Gq (true,())))))
abbrev JO:Fct:=⟨[.v (.el .node),.v (.el .node)],[.el .bool],λ(x_:Sv_×Sv_×Unit)=>x_.1.bo.length<=1000000000000000000,λ(x_:Sv_×Sv_×Unit)=>(decide (x_.1=x_.2.1),())⟩
def E38:=E37.a JO<|Fct.o [2,3,4] E37.2 func277 (by
 rintro⟨(a:Sv_),(b:Sv_),_⟩ hp;refine ho (.br (a.name.toList==b.name.toList) (.br (a.text.toList==b.text.toList) (.br (a.parent==b.parent) (.cl GB (a.bo,b.bo,()) λz2=>.lf JO (z2.1,())) (.lf JO (false,()))) (.lf JO (false,()))) (.lf JO (false,()))) ?_;refine Aa (λh1=>Aa (λh2=>Aa (λh3=>Af ?_ λ_=>(lfY ?_)) (λh3=>lfY ?_)) (λh2=>lfY ?_)) (λh1=>lfY ?_);all_goals (cases a;cases b)
 all_goals
  try simp only[std,Nat.reduceAdd] at *
  try simp(disch:=omega) only[wrapId',toNat1] at *
  try simp(disch:=omega) only[Qa3,Qa5]
 all_goals first|trivial|omega|grind[wrapId',toNat1,drop_cons,drop_end,good_len,maxLen])
abbrev HP:Fct:=⟨[.v (.el .token),.v (.el .token)],[.el .bool],λ(x_:Si_×Si_×Unit)=>x_.1.bo.length<=1000000000000000000,λ(x_:Si_×Si_×Unit)=>(decide (x_.1=x_.2.1),())⟩
def E39:=E38.a HP<|Fct.o [2,3,4] E38.2 func176 (by
 rintro⟨(a:Si_),(b:Si_),_⟩ hp;refine ho (.br (a.kind==b.kind) (.br (a.name.toList==b.name.toList) (.cl GB (a.bo,b.bo,()) λz2=>.br (z2.1) (.lf HP (a.text.toList==b.text.toList,())) (.lf HP (false,()))) (.lf HP (false,()))) (.lf HP (false,()))) ?_;refine Aa (λh1=>Aa (λh2=>Af ?_ λ_=>(Aa (λh4=>lfY ?_) (λh4=>lfY ?_))) (λh2=>lfY ?_)) (λh1=>lfY ?_);all_goals (cases a;cases b)
 all_goals
  try simp only[std,Nat.reduceAdd] at *
  try simp(disch:=omega) only[wrapId',toNat1] at *
  try simp(disch:=omega) only[Qa3,Qa5]
 all_goals first|trivial|omega|grind[wrapId',toNat1,drop_cons,drop_end,good_len,maxLen])
abbrev Ej:Fct:=⟨[aL .node,aL .node,.c 277 []],[rB],λx=>x.1.length<=1000000000000000000/\∀ i,i<x.1.length->i<x.2.1.length->JO.pre (x.1.getD i default,x.2.1.getD i default,()),λx=>(decide (x.1=x.2.1),())⟩
abbrev Ax (l:(List Sv_)) (m:(List Sv_)) (u:(Unit)):LInv:=⟨[⟨.s,17,true,.el .int⟩],λ_ (x_:Ty3_)=>0<=x_.1/\x_.1<=l.length/\l.length=m.length/\decide (l.drop x_.1.toNat=m.drop x_.1.toNat)=decide (l=m),λ(x_:Ty3_)=>l.length-x_.1.toNat⟩
def E40:=E39.a Ej<|Fct.p (KP [0,1,2,6,7,8,9,15,16,17] [14,18,30]) (λ⟨l,m,u,_⟩=>lv [(4,Ax l m u)]) E39.2 func276 (by
 rintro⟨(l:List Sv_),(m:List Sv_),(u:PUnit),_⟩ hp;refine ho (.br ((l.length:Int) != (m.length:Int)) (.lf Ej (false,())) (lpx (Ax l m u) ((0:Int),()) λ(y2:Ty3_) bk2=>.br (decide (y2.1<(l.length:Int))) (.ob (inB y2.1 l.length)<|.ob (inB y2.1 m.length)<|.cl JO (l.getD y2.1.toNat default,m.getD y2.1.toNat default,()) λz2=>.br (!z2.1) (.lf Ej (false,())) (.re (l)<|.re (m)<|.re (l)<|.re (Value.int IntKind.i64 (l.length:Int))<|.bk (bk2 (w1 y2.1,())))) (.lf Ej (true,())))) ?_;refine Aa (λh1=>lfY ?_) (λh1=>Au ?_ λ(y2:Ty3_) i2=>Aa (λh3=>Ac ?_ λ_=>Ac ?_ λ_=>Af ?_ λ_=>(Aa (λh7=>lfY ?_) (λh7=>An<|An<|An<|An<|A8 ?_))) (λh3=>lfY ?_));all_goals
  have hpl:=hp.1;have hpe:=hp.2;clear hp;try simp only[JO] at hpe
  try simp only[std,Nat.reduceAdd] at *
  try simp(disch:=omega) only[wrapId',toNat1] at *
  try simp(disch:=omega) only[Qa3,Qa5]
 all_goals first|trivial|omega|grind[wrapId',toNat1,drop_cons,drop_end,good_len,maxLen])
abbrev Dy:Fct:=⟨[aL .token,aL .token,.c 176 []],[rB],λx=>x.1.length<=1000000000000000000/\∀ i,i<x.1.length->i<x.2.1.length->HP.pre (x.1.getD i default,x.2.1.getD i default,()),λx=>(decide (x.1=x.2.1),())⟩
abbrev Ao (l:(List Si_)) (m:(List Si_)) (u:(Unit)):LInv:=⟨[⟨.s,17,true,.el .int⟩],λ_ (x_:Ty3_)=>0<=x_.1/\x_.1<=l.length/\l.length=m.length/\decide (l.drop x_.1.toNat=m.drop x_.1.toNat)=decide (l=m),λ(x_:Ty3_)=>l.length-x_.1.toNat⟩
def E41:=E40.a Dy<|Fct.p (KP [0,1,2,6,7,8,9,15,16,17] [14,18,30]) (λ⟨l,m,u,_⟩=>lv [(4,Ao l m u)]) E40.2 func175 (by
 rintro⟨(l:List Si_),(m:List Si_),(u:PUnit),_⟩ hp;refine ho (.br ((l.length:Int) != (m.length:Int)) (.lf Dy (false,())) (lpx (Ao l m u) ((0:Int),()) λ(y2:Ty3_) bk2=>.br (decide (y2.1<(l.length:Int))) (.ob (inB y2.1 l.length)<|.ob (inB y2.1 m.length)<|.cl HP (l.getD y2.1.toNat default,m.getD y2.1.toNat default,()) λz2=>.br (!z2.1) (.lf Dy (false,())) (.re (l)<|.re (m)<|.re (l)<|.re (Value.int IntKind.i64 (l.length:Int))<|.bk (bk2 (w1 y2.1,())))) (.lf Dy (true,())))) ?_;refine Aa (λh1=>lfY ?_) (λh1=>Au ?_ λ(y2:Ty3_) i2=>Aa (λh3=>Ac ?_ λ_=>Ac ?_ λ_=>Af ?_ λ_=>(Aa (λh7=>lfY ?_) (λh7=>An<|An<|An<|An<|A8 ?_))) (λh3=>lfY ?_));all_goals
  have hpl:=hp.1;have hpe:=hp.2;clear hp;try simp only[HP] at hpe
  try simp only[std,Nat.reduceAdd] at *
  try simp(disch:=omega) only[wrapId',toNat1] at *
  try simp(disch:=omega) only[Qa3,Qa5]
 all_goals first|trivial|omega|grind[wrapId',toNat1,drop_cons,drop_end,good_len,maxLen])
abbrev Iy:Fct:=⟨[.v (.el .ba),.v (.el .ba)],[.el .bool],λ(x_:Ty17_)=>szBuilder x_.1<=1099511627776,λ(x_:Ty17_)=>(decide (x_.1=x_.2.1),())⟩
def Il {l:List Sv_} {i:Nat} (h:i<l.length):(l.getD i default).bo.length+l.length<=szL AK l:=by
 have:=C6 AK h;have h2:=Ab B9 (l.getD i default).bo;simp only[AK] at this;omega
def HC {l:List Si_} {i:Nat} (h:i<l.length):(l.getD i default).bo.length+l.length<=szL szToken l:=by
 have:=C6 szToken h;have h2:=Ab B9 (l.getD i default).bo;simp only[szToken] at this;omega
def E42:=E41.a Iy<|Fct.o [2,3,4] E41.2 func177 (by
 rintro⟨(a:Se_),(b:Se_),_⟩ hp;refine ho (.cl Ej (a.bi,b.bi,(),()) λz2=>.br (z2.1) (.cl ID (a.bl,b.bl,()) λz3=>.lf Iy (z3.1,())) (.lf Iy (false,()))) ?_;refine Af ?_ λ_=>(Aa (λh2=>Af ?_ λ_=>(lfY ?_)) (λh2=>lfY ?_))
 all_goals
  have hl:=Ab AK a.bi;have hg:∀ i,i<a.bi.length->(a.bi.getD i default).bo.length<=szL AK a.bi:=λi h=>by have:=Il h;omega
  have hg2:∀ i,i<a.bi.length->(a.bi.getD i default).bo.length<=1000000000000000000:=λi h=>by have:=hg i h;have hp2:szBuilder a<=1099511627776:=hp;simp only[szBuilder] at hp2;omega
 all_goals simp only[Iy,szBuilder] at hp
 all_goals (cases a;cases b)
 all_goals
  try simp only[std,Nat.reduceAdd] at *
  try simp(disch:=omega) only[wrapId',toNat1] at *
  try simp(disch:=omega) only[Qa3,Qa5]
 all_goals first|trivial|omega|grind[wrapId',toNat1,drop_cons,drop_end,good_len,maxLen])
abbrev GU:Fct:=⟨[.v (.el .bj),.v (.el .bj)],[.el .bool],λ(x_:Sj_×Sj_×Unit)=>AM x_.1<=1099511627776,λ(x_:Sj_×Sj_×Unit)=>(decide (x_.1=x_.2.1),())⟩
def E43:=E42.a GU<|Fct.o [2,3,4] E42.2 func174 (by
 rintro⟨(a:Sj_),(b:Sj_),_⟩ hp;refine ho (.br (a.set_==b.set_) (.cl Es (a.bp,b.bp,()) λz2=>.br (z2.1) (.cl Es (a.styles,b.styles,()) λz3=>.br (z3.1) (.cl Es (a.images,b.images,()) λz4=>.br (z4.1) (.lf GU (a.nonce.toList==b.nonce.toList,())) (.lf GU (false,()))) (.lf GU (false,()))) (.lf GU (false,()))) (.lf GU (false,()))) ?_;repeat' (guard_target =~ Out.holds _ _;first|refine lfY ?_|refine Aa (λ_=>?_) λ_=>?_|refine Af ?_ λ_=>?_)
 all_goals
  have hl1:=Ab Ae a.bp;have hl2:=Ab Ae a.styles;have hl3:=Ab Ae a.images
 all_goals simp only[GU,AM] at hp
 all_goals (cases a;cases b)
 all_goals
  try simp only[std,Nat.reduceAdd] at *
  try simp(disch:=omega) only[wrapId',toNat1] at *
  try simp(disch:=omega) only[Qa3,Qa5]
 all_goals first|trivial|omega|grind[wrapId',toNat1,drop_cons,drop_end,good_len,maxLen])
abbrev AgT:Fct:=⟨[.v (.sl .token),.v (.sl .token)],[.el .bool],λ(x_:Ty18_)=>szL szToken x_.1<=1099511627776/\szL szToken x_.2.1<=1099511627776,λ(x_:Ty18_)=>(decide (x_.1=x_.2.1),())⟩
abbrev Ah1:Fct:=⟨[.v (.el .page),.v (.el .page)],[.el .bool],λ(x_:Ty19_)=>x_.1.bf.length<=2000000000000/\x_.1.bh.length<=2000000000000,λ(x_:Ty19_)=>(decide (x_.1.bf=x_.2.1.bf)&&decide (x_.1.bh=x_.2.1.bh),())⟩
abbrev Jb:Fct:=⟨[.v (.sl .slot),.v (.sl .slot)],[.el .bool],λ(x_:Ty20_)=>x_.1.length<=1000000000000000000,λ(x_:Ty20_)=>(decide (x_.1=x_.2.1),())⟩
abbrev Br (l:(List Sl_)) (m:(List Sl_)):LInv:=⟨[⟨.s,13,true,.el .int⟩],λ_ (x_:Ty3_)=>0<=x_.1/\x_.1<=l.length/\l.length=m.length/\decide (l.drop x_.1.toNat=m.drop x_.1.toNat)=decide (l=m),λ(x_:Ty3_)=>l.length-x_.1.toNat⟩
def E44:=E43.a Jb<|Fct.p (KP [0,1,4,5,12,13] [10,14,24]) (λ⟨l,m,_⟩=>lv [(4,Br l m)]) E43.2 func178 (by
 rintro⟨(l:List Sl_),(m:List Sl_),_⟩ hp;exact hq (let q4_:Out:=.lf Jb (false,());let q3_:=(l.length:Int);let q2_:=Br l m;.br (q3_ != (m.length:Int)) q4_ (.lq (Int×PUnit) q2_.inv q2_.m ((0:Int),()) λy2 bk2=>let q1_:=m.getD y2.1.toNat default;let q0_:=l.getD y2.1.toNat default;.br (decide (y2.1<q3_)) (.ob (inB y2.1 l.length)<|.ob (inB y2.1 m.length)<|.br (!(q0_.mode==q1_.mode&&(q0_.to.host==q1_.to.host&&(q0_.to.path==q1_.to.path&&true)&&(q0_.digest==q1_.digest&&(q0_.node==q1_.node&&(q0_.done==q1_.done&&(q0_.code==q1_.code&&(q0_.body==q1_.body&&true)))))))) q4_ (.re (l)<|.re (m)<|.re (Value.int IntKind.i64 q3_)<|.bk (bk2 (w1 y2.1,())))) (.lf Jb (true,())))))
abbrev Hf:Fct:=⟨[.v (.sl .module),.v (.sl .module)],[.el .bool],λ(x_:Ty21_)=>x_.1.length<=1000000000000000000,λ(x_:Ty21_)=>(decide (x_.1=x_.2.1),())⟩
abbrev A2 (l:(List Sf_)) (m:(List Sf_)):LInv:=⟨[⟨.s,13,true,.el .int⟩],λ_ (x_:Ty3_)=>0<=x_.1/\x_.1<=l.length/\l.length=m.length/\decide (l.drop x_.1.toNat=m.drop x_.1.toNat)=decide (l=m),λ(x_:Ty3_)=>l.length-x_.1.toNat⟩
def E45:=E44.a Hf<|Fct.p (KP [0,1,4,5,12,13] [10,14,24]) (λ⟨l,m,_⟩=>lv [(4,A2 l m)]) E44.2 func179 (by
 rintro⟨(l:List Sf_),(m:List Sf_),_⟩ hp;exact hq (let q4_:Out:=.lf Hf (false,());let q3_:=(l.length:Int);let q2_:=A2 l m;.br (q3_ != (m.length:Int)) q4_ (.lq (Int×PUnit) q2_.inv q2_.m ((0:Int),()) λy2 bk2=>let q1_:=m.getD y2.1.toNat default;let q0_:=l.getD y2.1.toNat default;.br (decide (y2.1<q3_)) (.ob (inB y2.1 l.length)<|.ob (inB y2.1 m.length)<|.br (!(q0_.to.host==q1_.to.host&&(q0_.to.path==q1_.to.path&&true)&&(q0_.done==q1_.done&&(q0_.code==q1_.code&&(q0_.body==q1_.body&&true))))) q4_ (.re (l)<|.re (m)<|.re (Value.int IntKind.i64 q3_)<|.bk (bk2 (w1 y2.1,())))) (.lf Hf (true,())))))
abbrev OW:Fct:=⟨[.v (.el .page),.v (.el .page)],[.el .bool],λ(x_:Ty19_)=>Ag x_.1<=1099511627776/\Ag x_.2.1<=1099511627776,λ(x_:Ty19_)=>(decide (x_.1=x_.2.1),())⟩
def E46:=E45.a OW<|Fct.o [2,3,4] E45.2 func83 (by
 rintro⟨(a:Sa_),(b:Sa_),_⟩ hp;refine ho (let q0_:Out:=.lf OW (false,());.br (a.addr.host==b.addr.host&&(a.addr.path==b.addr.path&&true)) (.cl GU (a.bj,b.bj,()) λz2=>.br (z2.1) (.br (a.tok.rest==b.tok.rest&&true) (.cl Dy (a.bn,b.bn,(),()) λz3=>.br (z3.1) (.br (a.ended==b.ended) (.cl Iy (a.ba,b.ba,()) λz4=>.br (z4.1) (.cl Jb (a.bf,b.bf,()) λz5=>.br (z5.1) (.cl Hf (a.bh,b.bh,()) λz6=>.br (z6.1) (.cl Gq (a.bg,b.bg,()) λz7=>.br (z7.1) (.br (a.block==b.block) (.br (a.inline==b.inline) (.br (a.bm==b.bm) (.br (a.bq==b.bq) (.cl Gq (a.ran,b.ran,()) λz8=>.br (z8.1) (.cl Es (a.log,b.log,()) λz9=>.br (z9.1) (.lf OW (a.loaded==b.loaded,())) q0_) q0_) q0_) q0_) q0_) q0_) q0_) q0_) q0_) q0_) q0_) q0_) q0_) q0_) q0_) ?_;repeat' (guard_target =~ Out.holds _ _;first|refine lfY ?_|refine Aa (λ_=>?_) λ_=>?_|refine Af ?_ λ_=>?_)
 all_goals
  have hl1:=Ab AV a.bf;have hl2:=Ab AJ a.bh;have hl3:=Ab szAddr a.bg;have hl4:=Ab szAddr a.ran;have hl5:=Ab Ae a.log;have hl6:=Ab szToken a.bn;have hg:∀ i,i<a.bn.length->(a.bn.getD i default).bo.length<=szL szToken a.bn:=λi h=>by have:=HC h;omega
  have hg2:∀ i,i<a.bn.length->(a.bn.getD i default).bo.length<=1000000000000000000:=λi h=>by have:=hg i h;have hp2:Ag a<=1099511627776:=hp.1;simp only[Ag] at hp2;omega
 all_goals simp only[OW,Ag] at hp
 all_goals try simp only[Ea,JP] at *
 all_goals (cases a;cases b)
 all_goals
  try simp only[std,Nat.reduceAdd] at *
  try simp(disch:=omega) only[wrapId',toNat1] at *
  try simp(disch:=omega) only[Qa3,Qa5]
 all_goals first|trivial|omega|grind[wrapId',toNat1,drop_cons,drop_end,good_len,maxLen])
def pickReq (p:Sa_):List Sg_->Int->Int->Int->Int
 | [],_,best,_=>best
 | r::l,i,best,bc=>if best<0\/classOf p r<bc then pickReq p l (i+1) i (classOf p r) else pickReq p l (i+1) best bc
abbrev Fp:Fct:=⟨[.v (.el .page),.v (.sl .request)],[.el .int],λ(x_:Ty22_)=>x_.1.bf.length<=1000000000000/\(-9223372036854775808<=x_.1.block/\x_.1.block<=9223372036854775807)/\x_.2.1.length<=1000000000000,λ(x_:Ty22_)=>(pickReq x_.1 x_.2.1 0 (-1) 0,())⟩
abbrev BV (p:Sa_) (l:(List Sg_)):LInv:=⟨[⟨.s,5,true,.el .int⟩,⟨.s,6,true,.el .int⟩,⟨.b,2,false,.el .page⟩],λ(z_ x_:Ty23_)=>(0<=x_.2.1/\x_.2.1<=l.length/\-1<=x_.1/\x_.1<x_.2.1/\(x_.1 = -1->x_.2.1=0)/\pickReq p (l.drop x_.2.1.toNat) x_.2.1 x_.1 (if x_.1<0 then 0 else classOf p (l.getD x_.1.toNat default))=pickReq p l 0 (-1) 0)/\x_.2.2.1=z_.2.2.1,λ(x_:Ty23_)=>l.length-x_.2.1.toNat⟩
def E47:=E46.a Fp<|Fct.p (KP [1,2,4,5,6] [10,29]) (λ⟨p,l,_⟩=>lv [(3,BV p l)]) E46.2 func67 (by
 rintro⟨(p:Sa_),(l:List Sg_),_⟩ hp;exact hg (.lq (Int×Int×Sa_×PUnit) (BV p l).inv (BV p l).m ((-1:Int),((0:Int),(p,()))) λy1 bk1=>.br (decide (y1.2.1<(l.length:Int))) (.br (decide (y1.1<0)) (.re (l)<|.re (Value.int IntKind.i64 (0:Int))<|.bk (bk1 (y1.2.1,(w1 y1.2.1,(y1.2.2.1,()))))) (.ob (inB y1.2.1 l.length)<|.cl DQ (y1.2.2.1,l.getD y1.2.1.toNat default,()) λ(z2:Ty3_)=>.ob (inB y1.1 l.length)<|.cl DQ (y1.2.2.1,l.getD y1.1.toNat default,()) λ(z3:Ty3_)=>.br (decide (z2.1<z3.1)) (.re (l)<|.re (Value.int IntKind.i64 (0:Int))<|.bk (bk1 (y1.2.1,(w1 y1.2.1,(y1.2.2.1,()))))) (.re (l)<|.re (Value.int IntKind.i64 (0:Int))<|.bk (bk1 (y1.1,(w1 y1.2.1,(y1.2.2.1,()))))))) (.lf Fp (y1.1,()))) (an_ @pickReq.eq_1<|@pickReq.eq_2))
abbrev CN (p:Sa_) (l:(List Sg_)):LInv:=⟨[⟨.s,5,true,.el .int⟩,⟨.s,10,true,.el .int⟩,⟨.b,2,false,.el .page⟩],λ(z_ x_:Ty23_)=>(0<=x_.2.1/\x_.2.1<=l.length/\-1<=x_.1/\x_.1<x_.2.1/\(x_.1 = -1->x_.2.1=0)/\pickReq p (l.drop x_.2.1.toNat) x_.2.1 x_.1 (if x_.1<0 then 0 else classOf p (l.getD x_.1.toNat default))=pickReq p l 0 (-1) 0)/\x_.2.2.1=z_.2.2.1,λ(x_:Ty23_)=>l.length-x_.2.1.toNat⟩
def E48:=E47.a Fp<|Fct.p (KP [1,2,4,5,6,7,8,9,10] [11,28]) (λ⟨p,l,_⟩=>lv [(3,CN p l)]) E47.2 func43 (by
 rintro⟨(p:Sa_),(l:List Sg_),_⟩ hp;exact hg (let q3_:=Value.int IntKind.i64 (0:Int);let q2_:=CN p l;let q1_:=Value.int IntKind.i64 (l.length:Int);.lq (Int×Int×Sa_×PUnit) q2_.inv q2_.m ((-1:Int),((0:Int),(p,()))) λy1 bk1=>let q0_:Out:=.re (l)<|.re q3_<|.re (l)<|.re q1_<|.bk (bk1 (y1.2.1,(w1 y1.2.1,(y1.2.2.1,()))));.br (decide (y1.2.1<(l.length:Int))) (.ob (inB y1.2.1 l.length)<|.br (decide (y1.1<0)) q0_ (.cl DQ (y1.2.2.1,l.getD y1.2.1.toNat default,()) λ(z2:Ty3_)=>.ob (inB y1.1 l.length)<|.cl DQ (y1.2.2.1,l.getD y1.1.toNat default,()) λ(z3:Ty3_)=>.br (decide (z2.1<z3.1)) q0_ (.re (l)<|.re q3_<|.re (l)<|.re q1_<|.bk (bk1 (y1.1,(w1 y1.2.1,(y1.2.2.1,()))))))) (.lf Fp (y1.1,()))) (an_ @pickReq.eq_1<|@pickReq.eq_2))
abbrev Jp:Fct:=⟨[.v (.sl .guess)],[.el .int],λ(x_:Ty24_)=>x_.1.length<=4194304,λ(x_:Ty24_)=>(CF (λg=>!g.used) x_.1,())⟩
abbrev B6 (l:(List Sm_)):LInv:=⟨[⟨.s,3,true,.el .int⟩,⟨.s,4,true,.el .int⟩],λ_ (x_:Ty1_)=>0<=x_.2.1/\x_.2.1<=l.length/\0<=x_.1/\x_.1<=x_.2.1/\x_.1+CF (λg=>!g.used) (l.drop x_.2.1.toNat)=CF (λg=>!g.used) l,λ(x_:Ty1_)=>l.length-x_.2.1.toNat⟩
def E49:=E48.a Jp<|Fct.p (KP [0,2,3,4] [8,16]) (λ⟨l,_⟩=>lv [(3,B6 l)]) E48.2 func73 (by
 rintro⟨(l:List Sm_),_⟩ hp;exact hg (.lq (Int×Int×PUnit) (B6 l).inv (B6 l).m ((0:Int),((0:Int),())) λy1 bk1=>.br (decide (y1.2.1<(l.length:Int))) (.ob (inB y1.2.1 l.length)<|.br (!(l.getD y1.2.1.toNat default).used) (.re (l)<|.re (Value.int IntKind.i64 (0:Int))<|.bk (bk1 (w1 y1.1,(w1 y1.2.1,())))) (.re (l)<|.re (Value.int IntKind.i64 (0:Int))<|.bk (bk1 (y1.1,(w1 y1.2.1,()))))) (.lf Jp (y1.1,()))) (an_ @CF.eq_1<|an_ @CF.eq_2<|@Gr))
abbrev B5 (l:(List Sm_)):LInv:=⟨[⟨.s,3,true,.el .int⟩,⟨.s,8,true,.el .int⟩],λ_ (x_:Ty1_)=>0<=x_.2.1/\x_.2.1<=l.length/\0<=x_.1/\x_.1<=x_.2.1/\x_.1+CF (λg=>!g.used) (l.drop x_.2.1.toNat)=CF (λg=>!g.used) l,λ(x_:Ty1_)=>l.length-x_.2.1.toNat⟩
def E50:=E49.a Jp<|Fct.p (KP [0,2,3,5,6,7,8] [9,14]) (λ⟨l,_⟩=>lv [(3,B5 l)]) E49.2 func25 (by
 rintro⟨(l:List Sm_),_⟩ hp;exact hg (.lq (Int×Int×PUnit) (B5 l).inv (B5 l).m ((0:Int),((0:Int),())) λy1 bk1=>.br (decide (y1.2.1<(l.length:Int))) (.ob (inB y1.2.1 l.length)<|.br (!(l.getD y1.2.1.toNat default).used) (.re (l)<|.re (Value.int IntKind.i64 (0:Int))<|.re (l)<|.re (Value.int IntKind.i64 (l.length:Int))<|.bk (bk1 (w1 y1.1,(w1 y1.2.1,())))) (.re (l)<|.re (Value.int IntKind.i64 (0:Int))<|.re (l)<|.re (Value.int IntKind.i64 (l.length:Int))<|.bk (bk1 (y1.1,(w1 y1.2.1,()))))) (.lf Jp (y1.1,()))) (an_ @CF.eq_1<|an_ @CF.eq_2<|@Gr))
abbrev Ho:Fct:=⟨[.v (.sl .attr)],[.sl .attr],λ(x_:(List St_)×Unit)=>x_.1.length<=1099511627776,λ(x_:(List St_)×Unit)=>(x_.1,())⟩
def E51:=E50.a Ho<|Fct.o [0,2] E50.2 func337 (by
 rintro⟨(l:List St_),_⟩ hp;exact hq (.ap (0+List.length l) 32<|.lf Ho ([]++l,())))
abbrev L5:Fct:=⟨[.v (.el .token)],[.el .token],λ(x_:Si_×Unit)=>x_.1.bo.length<=1099511627776,λ(x_:Si_×Unit)=>(x_.1,())⟩
def E52:=E51.a L5<|Fct.o [1,2] E51.2 func307 (by
 rintro⟨(t:Si_),_⟩ hp;exact hq (.ap (0+t.bo.length) 32<|.lf L5 (⟨t.kind,t.name,[]++t.bo,t.text⟩,())))
abbrev HI:Fct:=⟨[.v (.sl .token)],[.sl .token],λ(x_:(List Si_)×Unit)=>szL szToken x_.1<=1099511627776,λ(x_:(List Si_)×Unit)=>(x_.1,())⟩
abbrev Dk (l:(List Si_)):LInv:=⟨[⟨.s,3,true,.sl .token⟩,⟨.s,4,true,.el .int⟩],λ_ (x_:Ty25_)=>0<=x_.2.1/\x_.2.1<=l.length/\x_.1=l.take x_.2.1.toNat,λ(x_:Ty25_)=>l.length-x_.2.1.toNat⟩
def E53:=E52.a HI<|Fct.p (KP [0,2,3,4,5] [10]) (λ⟨l,_⟩=>lv [(3,Dk l)]) E52.2 func241 (by
 rintro⟨(l:List Si_),_⟩ hp;refine ho (lpx (Dk l) ([],((0:Int),())) λ(y1:Ty25_) bk1=>let q2_:=inB y1.2.1 l.length;let q0_:=l.getD y1.2.1.toNat default;.br (decide (y1.2.1<(l.length:Int))) (.ob q2_<|.ob q2_<|.cl Ho (q0_.bo,()) λz2=>let q1_:=(⟨q0_.kind,q0_.name,z2.1,q0_.text⟩:Si_);.ob (Ij (y1.1.length+[q1_].length) 64)<|.re (l)<|.bk (bk1 (y1.1++[q1_],(w1 y1.2.1,())))) (.lf HI (y1.1,()))) ?_;refine Au ?_ λ(y1:Ty25_) i1=>Aa (λh2=>Ac ?_ λ_=>Ac ?_ λ_=>Af ?_ λ_=>(Ac ?_ λ_=>An<|A8 ?_)) (λh2=>lfY ?_)
 all_goals
  have hl:=Ab szToken l;try have hg:=HC (l:=l) (i:=y1.2.1.toNat)
  try have hg:=HC (l:=l) (i:=y2.2.1.toNat)
  try simp only[std,Nat.reduceAdd,take_succ,take_end] at *
  try simp(disch:=omega) only[wrapId',toNat1] at *
  try simp(disch:=omega) only[Qa3,Qa5]
 all_goals first|trivial|omega|grind[wrapId',toNat1,drop_cons,drop_end,good_len,maxLen,take_succ,take_end])
abbrev De (l:(List Si_)):LInv:=⟨[⟨.s,3,true,.sl .token⟩,⟨.s,9,true,.el .int⟩],λ_ (x_:Ty25_)=>0<=x_.2.1/\x_.2.1<=l.length/\x_.1=l.take x_.2.1.toNat,λ(x_:Ty25_)=>l.length-x_.2.1.toNat⟩
def E54:=E53.a HI<|Fct.p (KP [0,2,3,5,7,8,9] [10]) (λ⟨l,_⟩=>lv [(3,De l)]) E53.2 func204 (by
 rintro⟨(l:List Si_),_⟩ hp;refine ho (lpx (De l) ([],((0:Int),())) λ(y1:Ty25_) bk1=>.br (decide (y1.2.1<(l.length:Int))) (.ob (inB y1.2.1 l.length)<|.cl L5 (l.getD y1.2.1.toNat default,()) λz2=>.ob (Ij (y1.1.length+[z2.1].length) 64)<|.re (l)<|.re (l)<|.re (Value.int IntKind.i64 (l.length:Int))<|.bk (bk1 (y1.1++[z2.1],(w1 y1.2.1,())))) (.lf HI (y1.1,()))) ?_;refine Au ?_ λ(y1:Ty25_) i1=>Aa (λh2=>Ac ?_ λ_=>Af ?_ λ_=>(Ac ?_ λ_=>An<|An<|An<|A8 ?_)) (λh2=>lfY ?_)
 all_goals
  have hl:=Ab szToken l;try have hg:=HC (l:=l) (i:=y1.2.1.toNat)
  try have hg:=HC (l:=l) (i:=y2.2.1.toNat)
  try simp only[std,Nat.reduceAdd,take_succ,take_end] at *
  try simp(disch:=omega) only[wrapId',toNat1] at *
  try simp(disch:=omega) only[Qa3,Qa5]
 all_goals first|trivial|omega|grind[wrapId',toNat1,drop_cons,drop_end,good_len,maxLen,take_succ,take_end])
theorem builder_take {b:Se_} {n:Nat} (h:b.bi.length<=n):(⟨b.bi.take n,b.bl⟩:Se_)=b:=by rw[Qb9 h]
abbrev Cw:Fct:=⟨[.v (.el .ba)],[.el .ba],λ(x_:Se_×Unit)=>szBuilder x_.1<=1099511627776,λ(x_:Se_×Unit)=>(x_.1,())⟩
abbrev DU (b:Se_):LInv:=⟨[⟨.b,3,true,.el .ba⟩,⟨.s,4,true,.el .int⟩,⟨.b,1,false,.el .ba⟩,⟨.b,2,true,.el .ba⟩],λ(z_ x_:Ty26_)=>((0<=x_.2.1/\x_.2.1<=b.bi.length/\x_.1=⟨b.bi.take x_.2.1.toNat,b.bl⟩)/\x_.2.2.1=z_.2.2.1)/\x_.2.2.2.1=z_.2.2.2.1,λ(x_:Ty26_)=>b.bi.length-x_.2.1.toNat⟩
def E55:=E54.a Cw<|Fct.p (KP [1,2,3,4,5] [15]) (λ⟨b,_⟩=>lv [(3,DU b)]) E54.2 func242 (by
 rintro⟨(b:Se_),_⟩ hp;refine ho (.ap (0+b.bl.length) 8<|lpx (DU b) ((⟨[],[]++b.bl⟩:Se_),((0:Int),(b,(default,())))) λ(y2:Ty26_) bk2=>let q2_:=inB y2.2.1 y2.2.2.1.bi.length;let q0_:=y2.2.2.1.bi.getD y2.2.1.toNat default;.br (decide (y2.2.1<(y2.2.2.1.bi.length:Int))) (.ob q2_<|.ob q2_<|.cl Ho (q0_.bo,()) λz2=>let q1_:=(⟨q0_.name,q0_.text,q0_.parent,z2.1⟩:Sv_);.ob (Ij (y2.1.bi.length+[q1_].length) 64)<|.bk (bk2 ((⟨y2.1.bi++[q1_],y2.1.bl⟩:Se_),(w1 y2.2.1,(y2.2.2.1,(y2.2.2.2.1,())))))) (.lf Cw (y2.1,()))) ?_;refine Ek ?_ λ_=>Au ?_ λ(y2:Ty26_) i2=>Aa (λh3=>Ac ?_ λ_=>Ac ?_ λ_=>Af ?_ λ_=>(Ac ?_ λ_=>A8 ?_)) (λh3=>lfY ?_)
 all_goals
  have hl:=Ab AK b.bi;try have hg:=Il (l:=b.bi) (i:=y1.2.1.toNat)
  try have hg:=Il (l:=b.bi) (i:=y2.2.1.toNat)
  try simp only[std,Nat.reduceAdd,take_succ,builder_take,szBuilder] at *
  try simp(disch:=omega) only[wrapId',toNat1] at *
  try simp(disch:=omega) only[Qa3,Qa5]
 all_goals first|trivial|omega|grind[wrapId',toNat1,drop_cons,drop_end,good_len,maxLen,take_succ,builder_take,szBuilder])
abbrev CL (b:Se_):LInv:=⟨[⟨.b,3,true,.el .ba⟩,⟨.s,14,true,.el .int⟩,⟨.b,2,true,.el .ba⟩],λ(z_ x_:Ty27_)=>(0<=x_.2.1/\x_.2.1<=b.bi.length/\x_.1=⟨b.bi.take x_.2.1.toNat,b.bl⟩)/\x_.2.2.1=z_.2.2.1,λ(x_:Ty27_)=>b.bi.length-x_.2.1.toNat⟩
def E56:=E55.a Cw<|Fct.p (KP [1,2,3,5,12,13,14] [15]) (λ⟨b,_⟩=>lv [(3,CL b)]) E55.2 func205 (by
 rintro⟨(b:Se_),_⟩ hp;refine ho (let q2_:=(b.bi.length:Int);.ap (0+b.bl.length) 8<|lpx (CL b) ((⟨[],[]++b.bl⟩:Se_),((0:Int),(default,()))) λ(y2:Ty27_) bk2=>let q0_:=b.bi.getD y2.2.1.toNat default;let q1_:=(⟨q0_.name,q0_.text,q0_.parent,[]++q0_.bo⟩:Sv_);.br (decide (y2.2.1<q2_)) (.ob (inB y2.2.1 b.bi.length)<|.ap (0+q0_.bo.length) 32<|.ob (Ij (y2.1.bi.length+[q1_].length) 64)<|.re (b.bi)<|.re (Value.int IntKind.i64 q2_)<|.bk (bk2 ((⟨y2.1.bi++[q1_],y2.1.bl⟩:Se_),(w1 y2.2.1,(y2.2.2.1,()))))) (.lf Cw (y2.1,()))) ?_;refine Ek ?_ λ_=>Au ?_ λ(y2:Ty27_) i2=>Aa (λh3=>Ac ?_ λ_=>Ek ?_ λ_=>Ac ?_ λ_=>An<|An<|A8 ?_) (λh3=>lfY ?_)
 all_goals
  have hl:=Ab AK b.bi;try have hg:=Il (l:=b.bi) (i:=y1.2.1.toNat)
  try have hg:=Il (l:=b.bi) (i:=y2.2.1.toNat)
  try simp only[std,Nat.reduceAdd,take_succ,builder_take,szBuilder] at *
  try simp(disch:=omega) only[wrapId',toNat1] at *
  try simp(disch:=omega) only[Qa3,Qa5]
 all_goals first|trivial|omega|grind[wrapId',toNat1,drop_cons,drop_end,good_len,maxLen,take_succ,builder_take,szBuilder])
abbrev Fj:Fct:=⟨[.v (.el .bj)],[.el .bj],λ(x_:Ty28_)=>AM x_.1<=1099511627776,λ(x_:Ty28_)=>(x_.1,())⟩
def E57:=E56.a Fj<|Fct.o [1,2] E56.2 func240 (by
 rintro⟨(p:Sj_),_⟩ hp;exact hg (.ap p.bp.length 16<|.ap p.styles.length 16<|.ap p.images.length 16<|.lf Fj (p,())) (an_ @AM.eq_1<|an_ (Ab Ae p.bp)<|an_ (Ab Ae p.styles)<|(Ab Ae p.images)))
def E58:=E57.a Fj<|Fct.o [1,2] E57.2 func203 (by
 rintro⟨(p:Sj_),_⟩ hp;exact hg (.ap (0+p.bp.length) 16<|.ap (0+p.styles.length) 16<|.ap (0+p.images.length) 16<|.lf Fj (⟨p.set_,[]++p.bp,[]++p.styles,[]++p.images,p.nonce⟩,())) (an_ @AM.eq_1<|an_ (Ab Ae p.bp)<|an_ (Ab Ae p.styles)<|(Ab Ae p.images)))
abbrev AC:Fct:=⟨[.v (.el .page)],[.el .page],λ(x_:Ty13_)=>Ag x_.1<=1099511627776,λ(x_:Ty13_)=>(x_.1,())⟩
theorem q8 (p:Sa_) (hp:AC.pre (p,())):Out.holds (AC.ctr (p,())).post (.cl Fj (p.bj,()) λz2=>.cl HI (p.bn,()) λz3=>.cl Cw (p.ba,()) λz4=>.ap (0+p.bf.length) 96<|.ap (0+p.bh.length) 64<|.ap (0+p.bg.length) 32<|.ap (0+p.ran.length) 32<|.ap (0+p.log.length) 16<|.lf AC (⟨p.addr,z2.1,p.tok,z3.1,p.ended,z4.1,[]++p.bf,[]++p.bh,[]++p.bg,p.block,p.inline,p.bm,p.bq,[]++p.ran,[]++p.log,p.loaded⟩,())):=hz ((an_ @Ag.eq_1<|an_ (Ab AV p.bf)<|an_ (Ab AJ p.bh)<|an_ (Ab szAddr p.bg)<|an_ (Ab szAddr p.ran)<|(Ab Ae p.log)))
def E59:=E58.a AC<|Fct.o [1,2,3] E58.2 func145 (by
 rintro⟨(p:Sa_),_⟩ hp;exact ho _ (q8 p hp))
def E60:=E59.a AC<|Fct.o [1,2] E59.2 func112 (by
 rintro⟨(p:Sa_),_⟩ hp;exact ho _ (q8 p hp))
abbrev BN:Fct:=⟨[.v (.el .addr),.v (.el .addr)],[.el .int],λ(x_:Sb_×Sb_×Unit)=>True,λ(x_:Sb_×Sb_×Unit)=>(cmpA x_.1 x_.2.1,())⟩
def E61:=E60.a BN<|Fct.o (KP [2,3,4] [5,9]) E60.2 func354 (by
 rintro⟨(a:Sb_),(b:Sb_),_⟩ hp;refine ho (.br (a.host==b.host&&(a.path==b.path&&true)) (.lf BN ((0:Int),())) (.br (Op.bytesLess a.host.toList b.host.toList) (.lf BN ((-1:Int),())) (.br (a.host.toList==b.host.toList) (.br (Op.bytesLess a.path.toList b.path.toList) (.lf BN ((-1:Int),())) (.lf BN ((1:Int),()))) (.lf BN ((1:Int),()))))) ?_;repeat' (guard_target =~ Out.holds _ _;first|refine lfY ?_|refine Aa (λ_=>?_) λ_=>?_)
 all_goals try simp only[Ea,Zd,Qa8,Qb3] at *
 all_goals
  have h1:=MI a.host b.host;have h2:=MI a.path b.path;have h3:=Xb a b;have h4:=Ae3 (a:=a) (b:=b);have h5:=Ov (a:=a.host) (b:=b.host);have h6:=Ov (a:=a.path) (b:=b.path);try simp only[std,Nat.reduceAdd,cmpA] at *
  try simp(disch:=omega) only[wrapId',toNat1] at *
  try simp(disch:=omega) only[Qa3,Qa5]
 all_goals first|trivial|omega|grind[wrapId',toNat1,drop_cons,drop_end,good_len,maxLen,cmpA])
def laysCmp_r:Go.Shelf.Ren:=⟨λ|0=>0|1=>1|2=>2|99=>504|101=>298|103=>309|106=>389|109=>392|110=>335|111=>278|125=>185|128=>288|129=>289|137=>206|138=>408|143=>409|145=>310|146=>297|156=>328|165=>386|166=>387|169=>388|171=>416|172=>455|189=>90|193=>84|195=>431|197=>432|205=>485|206=>410|208=>366|210=>371|213=>421|215=>362|216=>285|217=>308|218=>433|219=>412|220=>372|221=>365|224=>437|225=>436|240=>419|241=>420|243=>443|244=>459|245=>460|246=>456|247=>468|257=>184|260=>450|265=>447|266=>370|267=>438|268=>407|276=>445|277=>446|279=>469|280=>470|281=>471|282=>472|283=>461|284=>462|285=>463|286=>464|287=>483|294=>279|295=>280|296=>281|297=>282|298=>283|299=>284|300=>286|301=>287|314=>452|316=>484|317=>473|318=>474|319=>475|320=>476|321=>494|322=>495|328=>357|329=>358|330=>359|331=>360|332=>361|337=>486|338=>487|343=>404|347=>513|348=>514|349=>515|350=>516|351=>517|352=>518|353=>519|354=>520|355=>521|356=>522|357=>523|358=>524|359=>525|360=>526|361=>527|362=>528|363=>542|364=>529|365=>530|366=>543|367=>558|_=>0,λ|0=>0|1=>1|2=>2|3=>3|4=>4|5=>5|6=>6|7=>7|8=>8|9=>9|10=>10|11=>11|12=>12|13=>13|14=>14|15=>15|16=>16|17=>17|18=>18|19=>19|20=>20|21=>21|22=>296|23=>276|24=>222|25=>279|27=>345|28=>40|31=>33|32=>347|33=>304|34=>255|35=>117|36=>361|37=>22|43=>165|46=>187|47=>186|51=>266|52=>265|53=>268|54=>267|55=>203|59=>280|60=>281|61=>274|67=>298|69=>365|70=>336|71=>337|72=>338|73=>339|74=>340|75=>341|76=>342|77=>343|80=>344|81=>66|83=>334|84=>383|85=>413|86=>414|94=>497|101=>111|103=>335|104=>229|105=>371|106=>372|108=>439|111=>319|112=>261|113=>321|114=>211|119=>384|127=>363|128=>404|131=>263|134=>185|137=>385|138=>386|139=>387|143=>455|144=>456|145=>457|146=>379|150=>360|151=>380|164=>374|165=>375|166=>376|167=>412|168=>415|169=>416|170=>417|171=>405|172=>406|173=>407|174=>408|175=>435|176=>436|181=>256|182=>257|183=>258|184=>259|185=>260|186=>262|187=>264|209=>437|210=>438|211=>418|212=>419|213=>420|214=>454|218=>313|219=>314|220=>315|221=>316|222=>317|223=>318|228=>357|229=>358|230=>359|232=>458|233=>459|238=>472|239=>473|240=>474|241=>475|242=>476|243=>477|244=>478|245=>479|246=>480|247=>481|248=>482|249=>483|_=>0,λ|1=>0|3=>1|4=>2|15=>4|16=>5|17=>3|18=>6|19=>7|_=>0⟩
def AfT:Go.Proofs.Lays.n106 Tryz.prog laysCmp_r:=by repeat' first|kernel_rfl|constructor|intro _
def E62:=E61.a fCmpStr<|Agf rfl (Any.strings_Compare AfT)
def E63:=E62.a BN<|Fct.o (KP [2,3,4,5] [12]) E62.2 func329 (by
 rintro⟨(a:Sb_),(b:Sb_),_⟩ hp;refine ho (.cl fCmpStr (a.host,b.host,()) λ(z2:Ty3_)=>.br (z2.1 != 0) (.lf BN (z2.1,())) (.cl fCmpStr (a.path,b.path,()) λ(z3:Ty3_)=>.lf BN (z3.1,()))) ?_;refine Af trivial λ_=>(Aa (λh1=>lfY ?_) (λh1=>Af trivial λ_=>(lfY ?_)))
 all_goals
  try simp only[fCmpStr,std,Nat.reduceAdd,cmpA] at *
  try simp(disch:=omega) only[wrapId',toNat1] at *
  try simp(disch:=omega) only[Qa3,Qa5]
 all_goals first|trivial|omega|grind[wrapId',toNat1,drop_cons,drop_end,good_len,maxLen,cmpA,fCmpStr])
abbrev Hd:Fct:=⟨[.v (.el .page),.v (.el .addr)],[.el .int],λ(x_:Ty29_)=>x_.1.bh.length<=1000000000000,λ(x_:Ty29_)=>(fidx (λm=>decide (m.to=x_.2.1)) x_.1.bh 0,())⟩
abbrev Dq (p:Sa_) (a:Sb_):LInv:=⟨[⟨.s,5,true,.el .int⟩,⟨.b,2,false,.el .page⟩,⟨.b,3,true,.el .addr⟩],λ(z_ x_:Ty30_)=>((0<=x_.1/\x_.1<=p.bh.length/\fidx (λm=>decide (m.to=a)) (p.bh.drop x_.1.toNat) x_.1=fidx (λm=>decide (m.to=a)) p.bh 0)/\x_.2.1=z_.2.1)/\x_.2.2.1=z_.2.2.1,λ(x_:Ty30_)=>p.bh.length-x_.1.toNat⟩
def E64:=E63.a Hd<|Fct.p (KP [2,3,4,5] [10,20]) (λ⟨p,a,_⟩=>lv [(2,Dq p a)]) E63.2 func259 (by
 rintro⟨(p:Sa_),(a:Sb_),_⟩ hp;exact hg (.lq (Int×Sa_×Sb_×PUnit) (Dq p a).inv (Dq p a).m ((0:Int),(p,(a,()))) λy1 bk1=>.br (decide (y1.1<(y1.2.1.bh.length:Int))) (.ob (inB y1.1 y1.2.1.bh.length)<|.br ((y1.2.1.bh.getD y1.1.toNat default).to.host==y1.2.2.1.host&&((y1.2.1.bh.getD y1.1.toNat default).to.path==y1.2.2.1.path&&true)) (.lf Hd (y1.1,())) (.bk (bk1 (w1 y1.1,(y1.2.1,(y1.2.2.1,())))))) (.lf Hd ((-1:Int),()))) (an_ @fidx.eq_1<|@fidx.eq_2))
abbrev KB:Fct:=⟨[.v (.el .module),.p (.el .addr)],[.el .bool],λ(x_:Sf_×Sb_×Unit)=>True,λ(x_:Sf_×Sb_×Unit)=>(decide (x_.1.to=x_.2.1),())⟩
def E65:=E64.a KB<|Fct.o [1,2,3] E64.2 func324 (by
 rintro⟨(m:Sf_),(a:Sb_),_⟩ hp;exact hq (.lf KB (m.to.host==a.host&&(m.to.path==a.path&&true),())))
abbrev Bm:Fct:=⟨[aL .module,.c 324 [.el .addr]],[rI],λx=>x.1.length<=1000000000000000000/\∀ c,KB.pre (c,x.2.1),λx=>(fidx (λc=>(KB.fn (c,x.2.1)).1) x.1 0,())⟩
abbrev Az (l:(List Sf_)) (u:(Sb_×Unit)):LInv:=⟨[⟨.s,8,true,.el .int⟩],λ_ (x_:Ty3_)=>0<=x_.1/\x_.1<=l.length/\fidx (λc=>(KB.fn (c,u)).1) l 0=fidx (λc=>(KB.fn (c,u)).1) (l.drop x_.1.toNat) x_.1,λ(x_:Ty3_)=>l.length-x_.1.toNat⟩
def E66:=E65.a Bm<|Fct.p (KP [0,1,4,5,7,8] [9,16]) (λ⟨l,u,_⟩=>lv [(2,Az l u)]) E65.2 func323 (by
 rintro⟨(l:List Sf_),(u:Ty4_),_⟩ hp;refine ho (lpx (Az l u) ((0:Int),()) λ(y1:Ty3_) bk1=>.br (decide (y1.1<(l.length:Int))) (.ob (inB y1.1 l.length)<|.cl KB (l.getD y1.1.toNat default,u.1,()) λz2=>.br (z2.1) (.lf Bm (y1.1,())) (.re (l)<|.re (enc Ty.addr u.1)<|.re (Value.int IntKind.i64 (l.length:Int))<|.bk (bk1 (w1 y1.1,())))) (.lf Bm ((-1:Int),()))) ?_;refine Au ?_ λ(y1:Ty3_) i1=>Aa (λh2=>Ac ?_ λ_=>Af trivial λ_=>(Aa (λh4=>lfY ?_) (λh4=>An<|An<|An<|A8 ?_))) (λh2=>lfY ?_)
 all_goals
  try simp only[std,Nat.reduceAdd] at *
  try have hp2:=hp.2
  try have hp1:=hp.1
 all_goals first|trivial|omega|grind[wrapId',toNat1,drop_cons,drop_end,good_len,maxLen,fidx])
def E67:=E66.a Hd<|Fct.o [2,3,4] E66.2 func224 (by
 rintro⟨(p:Sa_),(a:Sb_),_⟩ hp;exact hq (.cl Bm (p.bh,(a,()),()) λ(z2:Ty3_)=>.lf Hd (z2.1,())))
def isAsked (p:Sa_) (a:Sb_):Bool:=p.bf.any (λs=>decide (s.to=a))||p.bh.any (λm=>decide (m.to=a))
abbrev HW:Fct:=⟨[.v (.el .page),.v (.el .addr)],[.el .bool],λ(x_:Ty29_)=>x_.1.bh.length<=1000000000000/\x_.1.bf.length<=1000000000000,λ(x_:Ty29_)=>(isAsked x_.1 x_.2.1,())⟩
abbrev C0 (p:Sa_) (a:Sb_):LInv:=⟨[⟨.s,5,true,.el .int⟩,⟨.b,2,false,.el .page⟩,⟨.b,3,true,.el .addr⟩],λ(z_ x_:Ty30_)=>((0<=x_.1/\x_.1<=p.bf.length/\(p.bf.drop x_.1.toNat).any (λs=>decide (s.to=a))=p.bf.any (λs=>decide (s.to=a)))/\x_.2.1=z_.2.1)/\x_.2.2.1=z_.2.2.1,λ(x_:Ty30_)=>p.bf.length-x_.1.toNat⟩
def E68:=E67.a HW<|Fct.p (KP [2,3,4,5] [10,20]) (λ⟨p,a,_⟩=>lv [(2,C0 p a)]) E67.2 func167 (by
 rintro⟨(p:Sa_),(a:Sb_),_⟩ hp;exact hg (.lq (Int×Sa_×Sb_×PUnit) (C0 p a).inv (C0 p a).m ((0:Int),(p,(a,()))) λy1 bk1=>.br (decide (y1.1<(y1.2.1.bf.length:Int))) (.ob (inB y1.1 y1.2.1.bf.length)<|.br ((y1.2.1.bf.getD y1.1.toNat default).to.host==y1.2.2.1.host&&((y1.2.1.bf.getD y1.1.toNat default).to.path==y1.2.2.1.path&&true)) (.lf HW (true,())) (.bk (bk1 (w1 y1.1,(y1.2.1,(y1.2.2.1,())))))) (.cl Hd (y1.2.1,y1.2.2.1,()) λ(z2:Ty3_)=>.lf HW (decide (z2.1>=0),()))) (an_ @isAsked.eq_1<|(KN (λm:Sf_=>decide (m.to=a)) p.bh 0 o_)))
abbrev F1:Fct:=⟨[.v (.el .slot),.p (.el .addr)],[.el .bool],λ(x_:Sl_×Sb_×Unit)=>True,λ(x_:Sl_×Sb_×Unit)=>(decide (x_.1.to=x_.2.1),())⟩
def E69:=E68.a F1<|Fct.o [1,2,3] E68.2 func237 (by
 rintro⟨(s:Sl_),(a:Sb_),_⟩ hp;exact hq (.lf F1 (s.to.host==a.host&&(s.to.path==a.path&&true),())))
abbrev Bq:Fct:=⟨[aL .slot,.c 237 [.el .addr]],[rI],λx=>x.1.length<=1000000000000000000/\∀ c,F1.pre (c,x.2.1),λx=>(fidx (λc=>(F1.fn (c,x.2.1)).1) x.1 0,())⟩
abbrev AG (l:(List Sl_)) (u:(Sb_×Unit)):LInv:=⟨[⟨.s,8,true,.el .int⟩],λ_ (x_:Ty3_)=>0<=x_.1/\x_.1<=l.length/\fidx (λc=>(F1.fn (c,u)).1) l 0=fidx (λc=>(F1.fn (c,u)).1) (l.drop x_.1.toNat) x_.1,λ(x_:Ty3_)=>l.length-x_.1.toNat⟩
def E70:=E69.a Bq<|Fct.p (KP [0,1,4,5,7,8] [9,16]) (λ⟨l,u,_⟩=>lv [(2,AG l u)]) E69.2 func336 (by
 rintro⟨(l:List Sl_),(u:Ty4_),_⟩ hp;refine ho (lpx (AG l u) ((0:Int),()) λ(y1:Ty3_) bk1=>.br (decide (y1.1<(l.length:Int))) (.ob (inB y1.1 l.length)<|.cl F1 (l.getD y1.1.toNat default,u.1,()) λz2=>.br (z2.1) (.lf Bq (y1.1,())) (.re (l)<|.re (enc Ty.addr u.1)<|.re (Value.int IntKind.i64 (l.length:Int))<|.bk (bk1 (w1 y1.1,())))) (.lf Bq ((-1:Int),()))) ?_;refine Au ?_ λ(y1:Ty3_) i1=>Aa (λh2=>Ac ?_ λ_=>Af trivial λ_=>(Aa (λh4=>lfY ?_) (λh4=>An<|An<|An<|A8 ?_))) (λh2=>lfY ?_)
 all_goals
  try simp only[std,Nat.reduceAdd] at *
  try have hp2:=hp.2
  try have hp1:=hp.1
 all_goals first|trivial|omega|grind[wrapId',toNat1,drop_cons,drop_end,good_len,maxLen,fidx])
abbrev BQ:Fct:=⟨[aL .slot,.c 237 [.el .addr]],[rB],λx=>x.1.length<=1000000000000000000/\∀ c,F1.pre (c,x.2.1),λx=>(x.1.any (λc=>(F1.fn (c,x.2.1)).1),())⟩
def E71:=E70.a BQ<|Fct.o [0,1,4] E70.2 func236 (by
 rintro⟨(l:List Sl_),(u:Ty4_),_⟩ hp;refine ho (.cl Bq (l,(u.1,()),()) λ(z2:Ty3_)=>.lf BQ (decide (z2.1>=0),())) ?_;refine Af ?_ λ_=>(lfY ?_)
 all_goals try simp only[std,Nat.reduceAdd] at *
 all_goals first|trivial|omega|(rw[Bool.eq_iff_iff];exact decide_eq_true_iff.trans (KN _ _ _ o_)))
def E72:=E71.a HW<|Fct.o [2,3,4] E71.2 func136 (by
 rintro⟨(p:Sa_),(a:Sb_),_⟩ hp;exact hg (.cl Hd (p,a,()) λ(z2:Ty3_)=>.br (decide (z2.1>=0)) (.lf HW (true,())) (.cl BQ (p.bf,(a,()),()) λz3=>.lf HW (z3.1,()))) (an_ @isAsked.eq_1<|(KN (λm:Sf_=>decide (m.to=a)) p.bh 0 o_)))
abbrev IF:Fct:=⟨[.v (.sl .file),.v (.sl .file)],[.el .bool],λ(x_:Ty31_)=>x_.1.length<=1000000000000000000,λ(x_:Ty31_)=>(decide (x_.1=x_.2.1),())⟩
abbrev Bk (l:(List Su_)) (m:(List Su_)):LInv:=⟨[⟨.s,13,true,.el .int⟩],λ_ (x_:Ty3_)=>0<=x_.1/\x_.1<=l.length/\l.length=m.length/\decide (l.drop x_.1.toNat=m.drop x_.1.toNat)=decide (l=m),λ(x_:Ty3_)=>l.length-x_.1.toNat⟩
def E73:=E72.a IF<|Fct.p (KP [0,1,4,5,12,13] [10,14,24]) (λ⟨l,m,_⟩=>lv [(4,Bk l m)]) E72.2 func273 (by
 rintro⟨(l:List Su_),(m:List Su_),_⟩ hp;exact hq (let q4_:Out:=.lf IF (false,());let q3_:=(l.length:Int);let q2_:=Bk l m;.br (q3_ != (m.length:Int)) q4_ (.lq (Int×PUnit) q2_.inv q2_.m ((0:Int),()) λy2 bk2=>let q1_:=m.getD y2.1.toNat default;let q0_:=l.getD y2.1.toNat default;.br (decide (y2.1<q3_)) (.ob (inB y2.1 l.length)<|.ob (inB y2.1 m.length)<|.br (!(q0_.path==q1_.path&&(q0_.bd.status==q1_.bd.status&&(q0_.bd.kind==q1_.bd.kind&&(q0_.bd.body==q1_.bd.body&&(q0_.bd.age==q1_.bd.age&&(q0_.bd.shares==q1_.bd.shares&&(q0_.bd.bj==q1_.bd.bj&&true)))))&&true))) q4_ (.re (l)<|.re (m)<|.re (Value.int IntKind.i64 q3_)<|.bk (bk2 (w1 y2.1,())))) (.lf IF (true,())))))
abbrev H1:Fct:=⟨[.v (.sl .entry),.v (.sl .entry)],[.el .bool],λ(x_:Ty32_)=>x_.1.length<=1000000000000000000,λ(x_:Ty32_)=>(decide (x_.1=x_.2.1),())⟩
abbrev Bc (l:(List Sp_)) (m:(List Sp_)):LInv:=⟨[⟨.s,13,true,.el .int⟩],λ_ (x_:Ty3_)=>0<=x_.1/\x_.1<=l.length/\l.length=m.length/\decide (l.drop x_.1.toNat=m.drop x_.1.toNat)=decide (l=m),λ(x_:Ty3_)=>l.length-x_.1.toNat⟩
def E74:=E73.a H1<|Fct.p (KP [0,1,4,5,12,13] [10,14,24]) (λ⟨l,m,_⟩=>lv [(4,Bc l m)]) E73.2 func274 (by
 rintro⟨(l:List Sp_),(m:List Sp_),_⟩ hp;exact hq (let q4_:Out:=.lf H1 (false,());let q3_:=(l.length:Int);let q2_:=Bc l m;.br (q3_ != (m.length:Int)) q4_ (.lq (Int×PUnit) q2_.inv q2_.m ((0:Int),()) λy2 bk2=>let q1_:=m.getD y2.1.toNat default;let q0_:=l.getD y2.1.toNat default;.br (decide (y2.1<q3_)) (.ob (inB y2.1 l.length)<|.ob (inB y2.1 m.length)<|.br (!(q0_.top==q1_.top&&(q0_.to.host==q1_.to.host&&(q0_.to.path==q1_.to.path&&true)&&(q0_.bd.status==q1_.bd.status&&(q0_.bd.kind==q1_.bd.kind&&(q0_.bd.body==q1_.bd.body&&(q0_.bd.age==q1_.bd.age&&(q0_.bd.shares==q1_.bd.shares&&(q0_.bd.bj==q1_.bd.bj&&true)))))&&(q0_.until_==q1_.until_&&true))))) q4_ (.re (l)<|.re (m)<|.re (Value.int IntKind.i64 q3_)<|.bk (bk2 (w1 y2.1,())))) (.lf H1 (true,())))))
abbrev I1:Fct:=⟨[.v (.sl .sent),.v (.sl .sent)],[.el .bool],λ(x_:Ty33_)=>x_.1.length<=1000000000000000000,λ(x_:Ty33_)=>(decide (x_.1=x_.2.1),())⟩
abbrev Bl (l:(List Sx_)) (m:(List Sx_)):LInv:=⟨[⟨.s,13,true,.el .int⟩],λ_ (x_:Ty3_)=>0<=x_.1/\x_.1<=l.length/\l.length=m.length/\decide (l.drop x_.1.toNat=m.drop x_.1.toNat)=decide (l=m),λ(x_:Ty3_)=>l.length-x_.1.toNat⟩
def E75:=E74.a I1<|Fct.p (KP [0,1,4,5,12,13] [10,14,24]) (λ⟨l,m,_⟩=>lv [(4,Bl l m)]) E74.2 func173 (by
 rintro⟨(l:List Sx_),(m:List Sx_),_⟩ hp;exact hq (let q4_:Out:=.lf I1 (false,());let q3_:=(l.length:Int);let q2_:=Bl l m;.br (q3_ != (m.length:Int)) q4_ (.lq (Int×PUnit) q2_.inv q2_.m ((0:Int),()) λy2 bk2=>let q1_:=m.getD y2.1.toNat default;let q0_:=l.getD y2.1.toNat default;.br (decide (y2.1<q3_)) (.ob (inB y2.1 l.length)<|.ob (inB y2.1 m.length)<|.br (!(q0_.top==q1_.top&&(q0_.to.host==q1_.to.host&&(q0_.to.path==q1_.to.path&&true)&&(q0_.guess==q1_.guess&&true)))) q4_ (.re (l)<|.re (m)<|.re (Value.int IntKind.i64 q3_)<|.bk (bk2 (w1 y2.1,())))) (.lf I1 (true,())))))
abbrev Jd:Fct:=⟨[.v (.sl .conn),.v (.sl .conn)],[.el .bool],λ(x_:Ty34_)=>x_.1.length<=1000000000000000000,λ(x_:Ty34_)=>(decide (x_.1=x_.2.1),())⟩
abbrev Bp (l:(List Sk_)) (m:(List Sk_)):LInv:=⟨[⟨.s,13,true,.el .int⟩],λ_ (x_:Ty3_)=>0<=x_.1/\x_.1<=l.length/\l.length=m.length/\decide (l.drop x_.1.toNat=m.drop x_.1.toNat)=decide (l=m),λ(x_:Ty3_)=>l.length-x_.1.toNat⟩
def E76:=E75.a Jd<|Fct.p (KP [0,1,4,5,12,13] [10,14,24]) (λ⟨l,m,_⟩=>lv [(4,Bp l m)]) E75.2 func85 (by
 rintro⟨(l:List Sk_),(m:List Sk_),_⟩ hp;exact hq (let q4_:Out:=.lf Jd (false,());let q3_:=(l.length:Int);let q2_:=Bp l m;.br (q3_ != (m.length:Int)) q4_ (.lq (Int×PUnit) q2_.inv q2_.m ((0:Int),()) λy2 bk2=>let q1_:=m.getD y2.1.toNat default;let q0_:=l.getD y2.1.toNat default;.br (decide (y2.1<q3_)) (.ob (inB y2.1 l.length)<|.ob (inB y2.1 m.length)<|.br (!(q0_.to.host==q1_.to.host&&(q0_.to.path==q1_.to.path&&true)&&(q0_.left==q1_.left&&(q0_.guess==q1_.guess&&(q0_.bd.status==q1_.bd.status&&(q0_.bd.kind==q1_.bd.kind&&(q0_.bd.body==q1_.bd.body&&(q0_.bd.age==q1_.bd.age&&(q0_.bd.shares==q1_.bd.shares&&(q0_.bd.bj==q1_.bd.bj&&true)))))&&true))))) q4_ (.re (l)<|.re (m)<|.re (Value.int IntKind.i64 q3_)<|.bk (bk2 (w1 y2.1,())))) (.lf Jd (true,())))))
abbrev H2:Fct:=⟨[.v (.sl .guess),.v (.sl .guess)],[.el .bool],λ(x_:Ty35_)=>x_.1.length<=1000000000000000000,λ(x_:Ty35_)=>(decide (x_.1=x_.2.1),())⟩
abbrev Bb (l:(List Sm_)) (m:(List Sm_)):LInv:=⟨[⟨.s,13,true,.el .int⟩],λ_ (x_:Ty3_)=>0<=x_.1/\x_.1<=l.length/\l.length=m.length/\decide (l.drop x_.1.toNat=m.drop x_.1.toNat)=decide (l=m),λ(x_:Ty3_)=>l.length-x_.1.toNat⟩
def E77:=E76.a H2<|Fct.p (KP [0,1,4,5,12,13] [10,14,24]) (λ⟨l,m,_⟩=>lv [(4,Bb l m)]) E76.2 func181 (by
 rintro⟨(l:List Sm_),(m:List Sm_),_⟩ hp;exact hq (let q4_:Out:=.lf H2 (false,());let q3_:=(l.length:Int);let q2_:=Bb l m;.br (q3_ != (m.length:Int)) q4_ (.lq (Int×PUnit) q2_.inv q2_.m ((0:Int),()) λy2 bk2=>let q1_:=m.getD y2.1.toNat default;let q0_:=l.getD y2.1.toNat default;.br (decide (y2.1<q3_)) (.ob (inB y2.1 l.length)<|.ob (inB y2.1 m.length)<|.br (!(q0_.to.host==q1_.to.host&&(q0_.to.path==q1_.to.path&&true)&&(q0_.bd.status==q1_.bd.status&&(q0_.bd.kind==q1_.bd.kind&&(q0_.bd.body==q1_.bd.body&&(q0_.bd.age==q1_.bd.age&&(q0_.bd.shares==q1_.bd.shares&&(q0_.bd.bj==q1_.bd.bj&&true)))))&&(q0_.used==q1_.used&&true)))) q4_ (.re (l)<|.re (m)<|.re (Value.int IntKind.i64 q3_)<|.bk (bk2 (w1 y2.1,())))) (.lf H2 (true,())))))
def H6 {l:List Sh_} {i:Nat} (h:i<l.length):(l.getD i default).files.length+l.length<=szL Ai l:=by
 have:=C6 Ai h;have h2:=Ab Iq (l.getD i default).files;simp only[Ai] at this;omega
abbrev IA:Fct:=⟨[.v (.el .server),.v (.el .server)],[.el .bool],λ(x_:Sh_×Sh_×Unit)=>x_.1.files.length<=1000000000000000000,λ(x_:Sh_×Sh_×Unit)=>(decide (x_.1=x_.2.1),())⟩
def E78:=E77.a IA<|Fct.o [2,3,4] E77.2 func272 (by
 rintro⟨(a:Sh_),(b:Sh_),_⟩ hp;refine ho (.br (a.host.toList==b.host.toList) (.cl IF (a.files,b.files,()) λz2=>.lf IA (z2.1,())) (.lf IA (false,()))) ?_;refine Aa (λh1=>Af ?_ λ_=>(lfY ?_)) (λh1=>lfY ?_);all_goals (cases a;cases b)
 all_goals
  try simp only[std,Nat.reduceAdd] at *
  try simp(disch:=omega) only[wrapId',toNat1] at *
  try simp(disch:=omega) only[Qa3,Qa5]
 all_goals first|trivial|omega|grind[wrapId',toNat1,drop_cons,drop_end,good_len,maxLen])
abbrev C9:Fct:=⟨[aL .server,aL .server,.c 272 []],[rB],λx=>x.1.length<=1000000000000000000/\∀ i,i<x.1.length->i<x.2.1.length->IA.pre (x.1.getD i default,x.2.1.getD i default,()),λx=>(decide (x.1=x.2.1),())⟩
abbrev Am (l:(List Sh_)) (m:(List Sh_)) (u:(Unit)):LInv:=⟨[⟨.s,17,true,.el .int⟩],λ_ (x_:Ty3_)=>0<=x_.1/\x_.1<=l.length/\l.length=m.length/\decide (l.drop x_.1.toNat=m.drop x_.1.toNat)=decide (l=m),λ(x_:Ty3_)=>l.length-x_.1.toNat⟩
def E79:=E78.a C9<|Fct.p (KP [0,1,2,6,7,8,9,15,16,17] [14,18,30]) (λ⟨l,m,u,_⟩=>lv [(4,Am l m u)]) E78.2 func271 (by
 rintro⟨(l:List Sh_),(m:List Sh_),(u:PUnit),_⟩ hp;refine ho (.br ((l.length:Int) != (m.length:Int)) (.lf C9 (false,())) (lpx (Am l m u) ((0:Int),()) λ(y2:Ty3_) bk2=>.br (decide (y2.1<(l.length:Int))) (.ob (inB y2.1 l.length)<|.ob (inB y2.1 m.length)<|.cl IA (l.getD y2.1.toNat default,m.getD y2.1.toNat default,()) λz2=>.br (!z2.1) (.lf C9 (false,())) (.re (l)<|.re (m)<|.re (l)<|.re (Value.int IntKind.i64 (l.length:Int))<|.bk (bk2 (w1 y2.1,())))) (.lf C9 (true,())))) ?_;refine Aa (λh1=>lfY ?_) (λh1=>Au ?_ λ(y2:Ty3_) i2=>Aa (λh3=>Ac ?_ λ_=>Ac ?_ λ_=>Af ?_ λ_=>(Aa (λh7=>lfY ?_) (λh7=>An<|An<|An<|An<|A8 ?_))) (λh3=>lfY ?_));all_goals
  have hpl:=hp.1;have hpe:=hp.2;clear hp;try simp only[IA] at hpe
  try simp only[std,Nat.reduceAdd] at *
  try simp(disch:=omega) only[wrapId',toNat1] at *
  try simp(disch:=omega) only[Qa3,Qa5]
 all_goals first|trivial|omega|grind[wrapId',toNat1,drop_cons,drop_end,good_len,maxLen])
abbrev L3:Fct:=⟨[.v (.sl .server),.v (.sl .server)],[.el .bool],λ(x_:Ty36_)=>szL Ai x_.1<=1099511627776/\szL Ai x_.2.1<=1099511627776,λ(x_:Ty36_)=>(decide (x_.1=x_.2.1),())⟩
def E80:=E79.a L3<|Fct.o [0,1,4] E79.2 func171 (by
 rintro⟨(a:List Sh_),(b:List Sh_),_⟩ hp;exact hg (.cl C9 (a,b,(),()) λz2=>.lf L3 (z2.1,())) (an_ (Ab Ai a)<|(λi h=>by have:=H6 h;have hp2:szL Ai a<=1099511627776:=hp.1;omega:∀ i,i<a.length->(a.getD i default).files.length<=1000000000000000000)))
abbrev Q3:Fct:=⟨[.v (.el .cache),.v (.el .cache)],[.el .bool],λ(x_:Sn_×Sn_×Unit)=>x_.1.bg.length<=1099511627776,λ(x_:Sn_×Sn_×Unit)=>(decide (x_.1=x_.2.1),())⟩
def E81:=E80.a Q3<|Fct.o [2,3,4] E80.2 func172 (by
 rintro⟨(a:Sn_),(b:Sn_),_⟩ hp;refine ho (.cl H1 (a.bg,b.bg,()) λz2=>.lf Q3 (z2.1,())) ?_;refine Af ?_ λ_=>(lfY ?_)
 all_goals (cases a;cases b)
 all_goals
  try simp only[std,Nat.reduceAdd] at *
  try simp(disch:=omega) only[wrapId',toNat1] at *
  try simp(disch:=omega) only[Qa3,Qa5]
 all_goals first|trivial|omega|grind[wrapId',toNat1,drop_cons,drop_end,good_len,maxLen])
abbrev Mf:Fct:=⟨[.v (.sl .guess),.v (.sl .guess)],[.el .bool],λ(x_:Ty35_)=>x_.1.length<=1099511627776,λ(x_:Ty35_)=>(decide (x_.1=x_.2.1),())⟩
def E82:=E81.a Mf<|Fct.o [0,1,4] E81.2 func86 (by
 rintro⟨(l:List Sm_),(m:List Sm_),_⟩ hp;exact hq (.cl H2 (l,m,()) λz2=>.lf Mf (z2.1,())))
abbrev Oy:Fct:=⟨[.v (.el .net),.v (.el .net)],[.el .bool],λ(x_:Ty37_)=>szNet x_.1<=1099511627776/\szNet x_.2.1<=1099511627776,λ(x_:Ty37_)=>(decide (x_.1=x_.2.1),())⟩
def E83:=E82.a Oy<|Fct.o [2,3,4] E82.2 func82 (by
 rintro⟨(a:Ss_),(b:Ss_),_⟩ hp;refine ho (.cl L3 (a.servers,b.servers,()) λz2=>.br (z2.1) (.cl Q3 (a.cache,b.cache,()) λz3=>.br (z3.1) (.cl I1 (a.log,b.log,()) λz4=>.br (z4.1) (.lf Oy (a.now==b.now,())) (.lf Oy (false,()))) (.lf Oy (false,()))) (.lf Oy (false,()))) ?_;repeat' (guard_target =~ Out.holds _ _;first|refine lfY ?_|refine Aa (λ_=>?_) λ_=>?_|refine Af ?_ λ_=>?_)
 all_goals
  have hl1:=Ab Gd a.log;have hl2:=Ab A0 a.cache.bg
 all_goals simp only[Oy,szNet,szCache] at hp
 all_goals (cases a;cases b)
 all_goals
  try simp only[std,Nat.reduceAdd] at *
  try simp(disch:=omega) only[wrapId',toNat1] at *
  try simp(disch:=omega) only[Qa3,Qa5]
 all_goals first|trivial|omega|grind[wrapId',toNat1,drop_cons,drop_end,good_len,maxLen])
abbrev D1:Fct:=⟨[.v (.el .loader),.v (.el .loader)],[.el .bool],λ(x_:Ty38_)=>H0 x_.1<=1099511627776/\H0 x_.2.1<=1099511627776,λ(x_:Ty38_)=>(decide (x_.1=x_.2.1),())⟩
def E84:=E83.a D1<|Fct.o [2,3,4] E83.2 func15 (by
 rintro⟨(a:Sd_),(b:Sd_),_⟩ hp;refine ho (.cl Oy (a.net,b.net,()) λz2=>.br (z2.1) (.cl OW (a.page,b.page,()) λz3=>.br (z3.1) (.cl Es (a.parts,b.parts,()) λz4=>.br (z4.1) (.cl Jd (a.conns,b.conns,()) λz5=>.br (z5.1) (.cl Mf (a.guesses,b.guesses,()) λz6=>.lf D1 (z6.1,())) (.lf D1 (false,()))) (.lf D1 (false,()))) (.lf D1 (false,()))) (.lf D1 (false,()))) ?_;repeat' (guard_target =~ Out.holds _ _;first|refine lfY ?_|refine Aa (λ_=>?_) λ_=>?_|refine Af ?_ λ_=>?_)
 all_goals
  have hl1:=Ab Ae a.parts;have hl2:=Ab G9 a.conns;have hl3:=Ab FN a.guesses
 all_goals simp only[D1,H0] at hp
 all_goals (cases a;cases b)
 all_goals
  try simp only[std,Nat.reduceAdd] at *
  try simp(disch:=omega) only[wrapId',toNat1] at *
  try simp(disch:=omega) only[Qa3,Qa5]
 all_goals first|trivial|omega|grind[wrapId',toNat1,drop_cons,drop_end,good_len,maxLen])
abbrev Ag2:Fct:=⟨[aI,aI],[rI],λ_=>True,λ(x:Ty1_)=>(min x.1 x.2.1,())⟩
def E85:=E84.a Ag2<|Fct.o (KP [0,1,4] [7]) E84.2 func306 (by
 rintro⟨(a:Int),(b:Int),_⟩ hp;refine ho (.br (decide (b<a)) (.lf Ag2 (b,())) (.lf Ag2 (a,()))) ?_;refine Aa (λh1=>lfY ?_) (λh1=>lfY ?_);all_goals try simp only[std,Nat.reduceAdd] at *
 all_goals first|trivial|omega|(simp_all;done)|(simp_all;omega)|grind)
def Ud {α:Type} (f:α->Nat) (l m:List α):szL f (l++m)=szL f l+szL f m:=by simp[szL];omega
def RB {α:Type} (f:α->Nat) (l:List α) (n:Nat):szL f (l.drop n)<=szL f l:=by
 have h:=Ud f (l.take n) (l.drop n);simp_all
abbrev Kc:GS:=⟨[.g (.sl .conn),.l (.v (.el .int)),.l (.v (.el .int))],[.sl .conn],λ(x_:Ty39_)=>0<=x_.2.1/\x_.2.1<x_.2.2.1/\x_.2.2.1<=x_.1.length/\x_.1.length<=1048576,λ(x_:Ty39_)=>((x_.1.take x_.2.1.toNat++x_.1.drop x_.2.2.1.toNat,()),(()))⟩
def AcD {l:List Sk_} {i j:Int} (h0:0<=i) (hi:i<=j) (hj:j<=l.length) (ys:List Sk_) {k k' m n j':Nat} (hjj:j'=j.toNat) (hm:m=l.length-j.toNat) (hk:k=i.toNat+m) (hk':k'=k) (hn:n=i.toNat):l.take i.toNat++l.drop j.toNat=cut (K2 (K2 l n (cut l j' m)) k ys) 0 k':=by
 subst hjj;subst hk';subst hk;subst hn;rw[AdC _ _ _ (by rw[IY,Mq];omega),Z1 o_ o_ hm]
def YC {l:List Sk_} {i:Int} (h0:0<=i) (hj:i<l.length) {k m n j':Nat} (hjj:j'=i.toNat+1) (hm:m=l.length-j') (hk:k=i.toNat+m) (hn:n=i.toNat):cut (K2 l n (cut l j' m)) 0 k=l.take i.toNat++l.drop (i.toNat+1):=by
 subst hk;subst hn;rw[show cut (K2 l i.toNat (cut l j' m)) 0 (i.toNat+m)=(K2 l i.toNat (cut l j' m)).take (i.toNat+m) from rfl,Z1 o_ o_ hm,hjj]
def E86:=E85.G Kc<|GS.of (S:=Kc) (L:=λ_ _=>none) (kp:=(KP [0,1,2,6,7] [16])) E85.2 func142 k_ k_ (by
 rintro⟨(l:List Sk_),(i:Int),(j:Int),_⟩ hp;refine ho (let q4_:=List.length l-Int.toNat j;let q2_:=(↑(List.length l):Int);let q1_:=K2 l (Int.toNat i-0) (cut l (Int.toNat j) q4_);let q0_:=Int.toNat i-0+q4_;let q5_:=q2_.toNat-(q0_:Int).toNat;let q3_:=K2 q1_ (0+(q0_:Int).toNat) (List.replicate q5_ default);.ob (0<=i/\i<=j/\j<=q2_/\q2_<=q2_)<|.br (i==j) (GS.out Kc ((l,()),(()))) (.ob (0<=i/\i<=q2_)<|.ob (0<=j/\j<=q2_)<|.ob (0=0/\0<List.length l/\Int.toNat j+q4_<=List.length l/\Int.toNat i-0+q4_<=List.length l)<|.ob ((0:Int)<=(q0_:Int)/\(q0_:Int)<=q2_/\q2_<=(↑(q1_.length-0):Int))<|.ob (0+(q0_:Int).toNat+q5_<=q1_.length)<|.ob (0+q0_<=q3_.length)<|GS.out Kc ((cut q3_ 0 q0_,()),(())))) ?_;repeat' (guard_target =~ Out.holds _ _;first|refine GS.leafY ?_|refine Aa (λ_=>?_) λ_=>?_|refine Ac ?_ λ_=>?_)
 all_goals try simp only[std,Nat.reduceAdd] at *
 all_goals first|omega|(simp only[IY,Mq,List.length_replicate] at *;omega)|exact(AcD o_ o_ o_ _ rfl rfl o_ o_ o_).symm)
def closeConn (l:List Sk_) (i:Int):List Sk_:=if 0<=i/\i<l.length then l.take i.toNat++l.drop (i.toNat+1) else l
def QD (l:List Sk_) (i:Int):(closeConn l i).length<=l.length:=by unfold closeConn;split<;>simp<;>omega
abbrev Ep:Fct:=⟨[.v (.sl .conn),.v (.el .int)],[.sl .conn],λ(x_:Ty5_)=>x_.1.length<=1048576,λ(x_:Ty5_)=>(closeConn x_.1 x_.2.1,())⟩
def E87:=E86.a Ep<|Fct.o (KP [0,1,4,5] [14]) E86.2 func169 (by
 rintro⟨(l:List Sk_),(i:Int),_⟩ hp;refine ho (let q2_:=(↑([]++l).length:Int);let q0_:=([]++l).length-(w1 i).toNat;let q3_:=Int.toNat i-0+q0_;let q1_:=K2 ([]++l) (Int.toNat i-0) (cut ([]++l) (w1 i).toNat q0_);.ap (0+List.length l) 112<|.cl Aw (i,(0:Int),wr ((↑(List.length l):Int)-(1:Int)),()) λz2=>.br (!z2.1) (.lf Ep ([]++l,())) (.ob (0<=i/\i<=q2_)<|.ob (0<=w1 i/\w1 i<=q2_)<|.ob (0=0/\0<([]++l).length/\(w1 i).toNat+q0_<=([]++l).length/\Int.toNat i-0+q0_<=([]++l).length)<|.ob (0+q3_<=q1_.length)<|.lf Ep (cut q1_ 0 q3_,()))) ?_;refine Ek ?_ λ_=>Af trivial λ_=>(Aa (λh2=>lfY ?_) (λh2=>Ac ?_ λ_=>Ac ?_ λ_=>Ac ?_ λ_=>Ac ?_ λ_=>lfY ?_))
 all_goals
  try simp only[std,Nat.reduceAdd,closeConn,inRange] at *
  try simp(disch:=omega) only[wrapId',toNat1] at *
  try simp(disch:=omega) only[Qa3,Qa5]
  try simp only[IY,Mq,List.length_replicate,Qa2,Qe4,Qa8,Qb3] at *
 all_goals first|omega|(rw[Qa5 o_];done)|exact YC o_ o_ o_ o_ o_ o_)
def E88:=E87.a Ep<|Fct.o (KP [0,1,4,5] [15]) E87.2 func56 (by
 rintro⟨(l:List Sk_),(i:Int),_⟩ hp;exact hg (.cl Hq (l,()) λz2=>.br (decide (i<0)) (.lf Ep (z2.1,())) (.br (decide (i>=(↑(List.length l):Int))) (.lf Ep (z2.1,())) (.ob (Kc.pre (z2.1,i,w1 i,()))<|.lt _ (Kc.fn (z2.1,i,w1 i,())) λz3=>.lf Ep (z3.1.1,())))) (an_ @closeConn.eq_1<|@inRange.eq_1))
def hasI (l:List Int) (i:Int):Bool:=l.any λc=>decide (c=i)
def isCut (cs:List Int) (i:Int):Bool:=hasI (cs.take 7) i
def pieces (s:ByteArray):List Int->Int->List ByteArray
 | [],a=>[s.extract a.toNat s.size]
 | n::l,a=>s.extract a.toNat n.toNat::pieces s l n
def cutGo (s:ByteArray) (cs:List Int):Nat->Int->Int->List ByteArray
 | 0,_,a=>[s.extract a.toNat s.size]
 | f+1,i,a=>if isCut cs i then s.extract a.toNat i.toNat::cutGo s cs f (i+1) i else cutGo s cs f (i+1) a
def cutText (s:ByteArray) (cs:List Int):List ByteArray:=cutGo s cs (s.size-1) 1 0
def rngs (n:Int):List Int->List Int
 | []=>[]
 | x::l=>if inRange x 1 n then x::rngs n l else rngs n l
def RY (n:Int):∀ l,rngs n l=l.filter λx=>inRange x 1 n
 | []=>rfl
 | x::l=>by rw[rngs,RY n l,List.filter_cons]
theorem rngs_at {n:Int} {l:List Int} {i:Nat} (h:i<l.length):rngs n (l.drop i)=if inRange (l.getD i default) 1 n then l.getD i default::rngs n (l.drop (i+1)) else rngs n (l.drop (i+1)):=by rw[drop_cons h];rfl
def Ac2 {n:Int} {l:List Int} {i:Nat} (h:l.length<=i):rngs n (l.drop i)=[]:=by rw[Qb2 h];rfl
def cutAts (s:ByteArray) (cs:List Int):List Int:=rngs (s.size-1) (cs.take 7)
def Si (s:ByteArray) (cs:List Int):∀ (f:Nat) (i a:Int) (l:List Int),l.Pairwise (· < ·)->(∀ x,x∈l↔(i<=x/\x<i+f/\isCut cs x=true))->cutGo s cs f i a=pieces s l a:=by
 intro f
 induction f with
 | zero=>
  intro i a l _ hm;cases l with
  | nil=>rfl
  | cons x l=>have:=(hm x).1 Qd3;omega
 | succ f ih=>
  intro i a l hp hm;simp only[cutGo];split
  ·rename_i hc;have hi:i∈l:=(hm i).2 ⟨o_,o_,hc⟩;cases l with
   | nil=>cases hi
   | cons x l=>
    have hp':=List.pairwise_cons.1 hp;have hx:x=i:=by
     rcases Qd2.1 hi with e|h
     ·exact e.symm
     ·have h1:=hp'.1 i h;have h2:=((hm x).1 Qd3).1;omega
    subst hx;rw[pieces,ih (x+1) x l hp'.2 λy=>?_];constructor
    ·intro hy;obtain⟨h1,h2,h3⟩:=(hm y).1 (Qc3 _ hy);have:=hp'.1 y hy;exact⟨o_,o_,h3⟩
    ·rintro⟨h1,h2,h3⟩;rcases Qd2.1 ((hm y).2 ⟨o_,o_,h3⟩) with e|h
     ·omega
     ·exact h
  ·rename_i hc;refine ih (i+1) a l hp λy=>?_
   rw[hm y];constructor
   ·rintro⟨h1,h2,h3⟩;have:y≠i:=λe=>hc (e▸h3)
    exact⟨o_,o_,h3⟩
   ·rintro⟨h1,h2,h3⟩;exact⟨o_,o_,h3⟩
def H9 (s:ByteArray) (cs:List Int):cutText s cs=pieces s (Cl (Rb (cutAts s cs))) 0:=by
 refine Si s cs _ _ _ _ (Wr (le:=λa b=>a<=b) (λa b h1 h2=>o_) (λa b c h1 h2=>o_) (M0 _)) λx=>?_
 rw[LW,SL,cutAts,RY,List.mem_filter,isCut,hasI,Qc4];simp only[inRange,Qa2,Qa8];constructor
 ·rintro⟨h1,h2,h3⟩;exact⟨o_,o_,x,h1,rfl⟩
 ·rintro⟨h1,h2,c,h3,rfl⟩;exact⟨h3,o_,o_⟩
abbrev AaA:GS:=⟨[.k (.sl .int)],[],λ(x_:Ty40_)=>x_.1.length<4611686018427387904,λ(x_:Ty40_)=>((()),(Rb x_.1,()))⟩
def Abb:Go.Proofs.Lays.n189 Tryz.prog laysCmp_r:=by repeat' first|kernel_rfl|constructor|intro _
def E89:=E88.G AaA<|Vj Abb rfl
abbrev Ht:GS:=⟨[.g (.sl .int)],[.sl .int],λ(x_:Ty40_)=>x_.1.length<=1000000000000,λ(x_:Ty40_)=>((Cl x_.1,()),(()))⟩
abbrev Cu (s:(List Int)):LInv:=⟨[⟨.s,3,true,.el .int⟩,⟨.t,0,true,.sl .int⟩],λ_ (x_:Ty41_)=>1<=x_.1/\x_.1<=s.length/\x_.2.1=s/\Cl (s.take x_.1.toNat)=s.take x_.1.toNat,λ(x_:Ty41_)=>s.length-x_.1.toNat⟩
abbrev Cx (s:(List Int)):LInv:=⟨[⟨.s,3,true,.el .int⟩,⟨.s,5,true,.el .int⟩,⟨.t,0,true,.sl .int⟩],λ(z_ x_:Ty42_)=>CompInv s x_.2.2.1 z_.1 x_.1 x_.2.1,λ(x_:Ty42_)=>s.length-x_.2.1.toNat⟩
def E90:=E89.G Ht<|GS.of (S:=Ht) (L:=λ⟨s,_⟩=>λ|4=>some (Cu s)|9=>some (Cx s)|_=>none) (kp:=(KP [0,2,3,4,5] [8,13,25,32,44])) E89.2 func91 k_ k_ (by
 rintro⟨(s:List Int),_⟩ hp;refine ho (.br (decide ((s.length:Int)<2)) (GS.out Ht ((s,()),(()))) (lpx (Cu s) ((1:Int),(s,())) λ(y2:Ty41_) bk2=>let q10_:=y2.1.toNat=y2.1.toNat;let q6_:=(y2.2.1.length:Int);let q4_:=y2.1-(1:Int);let q3_:=y2.2.1.length-y2.1.toNat=y2.2.1.length-y2.1.toNat;let q1_:=(↑(y2.2.1.length-y2.1.toNat):Int);.br (decide (y2.1<q6_)) (.ob (inB y2.1 y2.2.1.length)<|.ob (y2.1.toNat<y2.2.1.length)<|.ob (0<=wr q4_/\wr q4_<q6_)<|.ob ((wr q4_).toNat<y2.2.1.length)<|.br (y2.2.1.getD y2.1.toNat default==y2.2.1.getD (wr q4_).toNat default) (.ob (0<=y2.1/\y2.1<=q6_)<|lpx (Cx s) (y2.1,((1:Int),(y2.2.1,()))) λ(y10:Ty42_) bk10=>let q9_:=y2.1.toNat+y10.2.1.toNat;let q8_:=y10.2.2.1.length-y10.1.toNat;let q7_:=0<=y10.2.1/\y10.2.1<q1_;let q5_:=y2.1.toNat+y10.2.1.toNat<y10.2.2.1.length;let q2_:=y10.2.1-(1:Int);let q0_:=K2 y10.2.2.1 y10.1.toNat (List.replicate q8_ (0:Int));.br (decide (y10.2.1<q1_)) (.ob q7_<|.ob q5_<|.ob (0<=wr q2_/\wr q2_<q1_)<|.ob (y2.1.toNat+(wr q2_).toNat<y10.2.2.1.length)<|.br (y10.2.2.1.getD q9_ default != y10.2.2.1.getD (y2.1.toNat+(wr q2_).toNat) default) (.ob q7_<|.ob q5_<|.ob (inB y10.1 y10.2.2.1.length)<|.ob (y10.1.toNat<y10.2.2.1.length)<|.lt (List Int) (y10.2.2.1.modify y10.1.toNat λz=>y10.2.2.1.getD q9_ default) λz2=>.ob q10_<|.ob q3_<|.ob (bk10 (w1 y10.1,(w1 y10.2.1,(z2,()))))<|.ok) (.ob q10_<|.ob q3_<|.ob (bk10 (y10.1,(w1 y10.2.1,(y10.2.2.1,()))))<|.ok)) (.ob (0<=y10.1/\y10.1<=(y10.2.2.1.length:Int))<|.ob (y10.1.toNat+q8_<=y10.2.2.1.length)<|.ob (0<=y10.1/\y10.1<=(q0_.length:Int))<|.ob (0+(y10.1.toNat-0)<=q0_.length)<|GS.out Ht ((cut q0_ 0 (y10.1.toNat-0),()),(())))) (.ob (bk2 (w1 y2.1,(y2.2.1,())))<|.ok)) (GS.out Ht ((y2.2.1,()),(()))))) ?_;refine Aa (λh1=>GS.leafY ?_) (λh1=>Au ?_ λ(y2:Ty41_) i2=>Aa (λh3=>Ac ?_ λ_=>Ac ?_ λ_=>Ac ?_ λ_=>Ac ?_ λ_=>Aa (λh8=>Ac ?_ λ_=>Au ?_ λ(y10:Ty42_) i10=>Aa (λh11=>Ac ?_ λ_=>Ac ?_ λ_=>Ac ?_ λ_=>Ac ?_ λ_=>Aa (λh16=>Ac ?_ λ_=>Ac ?_ λ_=>Ac ?_ λ_=>Ac ?_ λ_=>DW (Ac rfl λ_=>Ac rfl λ_=>Ac ?_ λ_=>trivial)) (λh16=>Ac rfl λ_=>Ac rfl λ_=>Ac ?_ λ_=>trivial)) (λh11=>Ac ?_ λ_=>Ac ?_ λ_=>Ac ?_ λ_=>Ac ?_ λ_=>GS.leafY ?_)) (λh8=>Ac ?_ λ_=>trivial)) (λh3=>GS.leafY ?_));all_goals try have cI:=i10
 all_goals try (obtain⟨c1,c2,c3,c4,c5,c6,c7,c8⟩:=cI;clear c7 c8)
 all_goals try (obtain⟨d1,d2,d3,d4⟩:=i2;simp only[d3] at *)
 all_goals
  try simp only[std,Nat.reduceAdd] at *
  try simp(disch:=omega) only[wrapId'] at *
  try simp only[IY,List.length_replicate] at *
 all_goals first|trivial|omega|skip
 ·exact(P9 _ o_).symm
 ·exact⟨o_,o_,P9 _ (by simp;omega)⟩
 ·exact X7 d1 o_ d4 h8
 ·exact⟨Ac5 i10 o_ h16,o_⟩
 ·exact⟨Aat i10 o_ h16,o_⟩
 ·exact AdA i10 o_ _
 ·exact⟨⟨o_,o_,Abw d1 o_ d4 h8⟩,o_⟩
 ·rw[Qb9 o_] at d4;exact d4.symm)
abbrev J0:Fct:=⟨[.v (.el .str),.v (.sl .int)],[.sl .str],λ(x_:Ty43_)=>x_.1.size<=1048576/\x_.2.1.length<=1048576,λ(x_:Ty43_)=>(cutText x_.1 x_.2.1,())⟩
def PD (s:ByteArray) (cs:List Int):(cutAts s cs).length<=7:=by
 have h1:=List.length_filter_le (λn=>inRange n 1 (s.size-1)) (cs.take 7);rw[<-RY] at h1;have h2:(cs.take 7).length<=7:=by rw[Qc2];omega
 unfold cutAts;omega
def cutPos (s:ByteArray) (cs:List Int):List Int:=Cl (Rb (cutAts s cs))
def Pw {s:ByteArray} {cs:List Int} {x:Int} (h:x∈cutPos s cs):1<=x/\x<=s.size-1:=by
 rw[cutPos,LW,SL,cutAts,RY,List.mem_filter] at h;simpa [inRange] using h.2
def AaQ (s:ByteArray) (cs:List Int):(cutPos s cs).Pairwise (· < ·):=Wr (le:=λa b=>a<=b) (λa b h1 h2=>o_) (λa b c h1 h2=>o_) (M0 _)
def PC (s:ByteArray) (cs:List Int):(cutPos s cs).length<=7:=by
 have h1:=XI (Rb (cutAts s cs));have h2:=N7 (cutAts s cs);have h3:=PD s cs;unfold cutPos;omega
theorem pieces_at {s:ByteArray} {l:List Int} {i:Nat} {a:Int} (h:i<l.length):pieces s (l.drop i) a=s.extract a.toNat (l.getD i default).toNat::pieces s (l.drop (i+1)) (l.getD i default):=by rw[drop_cons h];rfl
theorem pieces_end {s:ByteArray} {l:List Int} {i:Nat} {a:Int} (h:l.length<=i):pieces s (l.drop i) a=[s.extract a.toNat s.size]:=by rw[Qb2 h];rfl
structure CutInv (s:ByteArray) (cs:List Int) (l:List Int) (j:Nat) (a:Int):Prop where
 e:l=cutPos s cs
 h:∀ x∈l.drop j,a<=x
 a0:0<=a
 a1:a<=s.size
def CutInv.get {s:ByteArray} {cs l:List Int} {j:Nat} {a:Int} (h:CutInv s cs l j a) (hj:j<l.length):a<=l.getD j default/\l.getD j default<=s.size/\CutInv s cs l (j+1) (l.getD j default):=by
 obtain⟨e,h,a0,a1⟩:=h;have hm:l.getD j default∈l:=by rw[Y3 hj];exact List.getElem_mem hj
 have hb:1<=l.getD j default/\l.getD j default<=s.size-1:=Pw (by rw[<-e];exact hm);have hp:=AaQ s cs;rw[<-e,<-Qd9 j l,List.pairwise_append,drop_cons hj] at hp;refine⟨h _ (by rw[drop_cons hj];exact Qd3),o_,e,λx hx=>?_,o_,o_⟩;exact Int.le_of_lt ((List.pairwise_cons.1 hp.2.1).1 x hx)
def CutInv.zero (s:ByteArray) (cs:List Int):CutInv s cs (cutPos s cs) 0 0:=⟨rfl,λx hx=>by have:=Pw (by simpa using hx);omega,o_,o_⟩
def Ab2 {l:List Int} {k:Nat} {i:Int} (h:k<l.length):hasI (l.take (k+1)) i=(hasI (l.take k) i||decide (l.getD k default=i)):=by
 rw[take_succ h];simp[hasI]
def Xo {s:ByteArray} {cs:List Int} {f:Nat} {i a:Int} (h:0<f):cutGo s cs f i a=if isCut cs i then s.extract a.toNat i.toNat::cutGo s cs (f-1) (i+1) i else cutGo s cs (f-1) (i+1) a:=by
 obtain⟨n,rfl⟩:∃ n,f=n+1:=⟨f-1,o_⟩;rfl
def AaL (cs:List Int) (i:Int):hasI (cs.take (min cs.length 7)) i=isCut cs i:=by
 unfold isCut;congr 1;rcases Nat.le_total cs.length 7 with h|h
 ·rw[Nat.min_eq_left h,List.take_length,Qb9 h]
 ·rw[Nat.min_eq_right h]
def Z5 (l:List Int) (i:Int):hasI (l.take 0) i=false:=by simp[hasI]
def Acy {cs:List Int} {i k:Int} (h1:min (cs.length:Int) 7<=k) (h2:k<=cs.length) (h3:k<=7):hasI (cs.take k.toNat) i=isCut cs i:=by
 rw[<-AaL];congr 2;omega
def Abj {s:ByteArray} {cs:List Int} {f:Nat} {i a:Int} (h:f=0):cutGo s cs f i a=[s.extract a.toNat s.size]:=by subst h;rfl
def Aiu (cs:List Int):cut cs 0 ((if(7:Int)<cs.length then(7:Int) else cs.length).toNat-0)=cs.take 7:=by
 simp only[cut,Qf1];split
 ·rfl
 ·rw[Qb9 o_,Qb9 o_]
abbrev EM (s:ByteArray) (cs:(List Int)):LInv:=⟨[⟨.s,5,true,.sl .str⟩,⟨.s,6,true,.el .int⟩,⟨.s,8,true,.el .int⟩],λ_ (x_:Ty44_)=>1<=x_.2.2.1/\(x_.2.2.1<=s.size\/x_.2.2.1=1)/\0<=x_.2.1/\x_.2.1<x_.2.2.1/\x_.2.1<=s.size/\x_.1.length<=x_.2.2.1/\x_.1++cutGo s cs (s.size-x_.2.2.1.toNat) x_.2.2.1 x_.2.1=cutText s cs,λ(x_:Ty44_)=>s.size-x_.2.2.1.toNat⟩
abbrev EH (s:ByteArray) (cs:(List Int)):LInv:=⟨[⟨.s,9,true,.el .bool⟩,⟨.s,10,true,.el .int⟩,⟨.s,5,true,.sl .str⟩,⟨.s,6,true,.el .int⟩,⟨.s,8,true,.el .int⟩],λ(z_ x_:Ty45_)=>x_.2.2.1=z_.2.2.1/\x_.2.2.2.1=z_.2.2.2.1/\x_.2.2.2.2.1=z_.2.2.2.2.1/\0<=x_.2.1/\x_.2.1<=cs.length/\x_.2.1<=7/\x_.1=hasI (cs.take x_.2.1.toNat) x_.2.2.2.2.1,λ(x_:Ty45_)=>7-x_.2.1.toNat⟩
def E91:=E90.a J0<|Fct.p (KP [0,1,4,5,6,7,8,9,10] [18,23,35]) (λ⟨s,cs,_⟩=>λ|5=>some (EM s cs)|9=>some (EH s cs)|_=>none) E90.2 func199 (by
 rintro⟨(s:ByteArray),(cs:List Int),_⟩ hp;exact hg (let q4_:=(s.size:Int);let q3_:=EH s cs;let q2_:=EM s cs;let q1_:=Value.string s;.cl Ag2 ((cs.length:Int),(7:Int),()) λ(z2:Ty3_)=>let q0_:=Value.int IntKind.i64 z2.1;.lq (List ByteArray×Int×Int×PUnit) q2_.inv q2_.m ([],((0:Int),((1:Int),()))) λy1 bk1=>.br (decide (y1.2.2.1<q4_)) (.lq (Bool×Int×List ByteArray×Int×Int×PUnit) q3_.inv q3_.m (false,((0:Int),(y1.1,(y1.2.1,(y1.2.2.1,()))))) λy3 bk3=>.br (decide (y3.2.1<z2.1)) (.br (y3.1) (.re q1_<|.re (cs)<|.re q0_<|.bk (bk3 (true,(w1 y3.2.1,(y3.2.2.1,(y3.2.2.2.1,(y3.2.2.2.2.1,()))))))) (.ob (inB y3.2.1 cs.length)<|.re q1_<|.re (cs)<|.re q0_<|.bk (bk3 (cs.getD y3.2.1.toNat default==y3.2.2.2.2.1,(w1 y3.2.1,(y3.2.2.1,(y3.2.2.2.1,(y3.2.2.2.2.1,())))))))) (.br (y3.1) (.ob (0<=y3.2.2.2.1/\y3.2.2.2.1<=y3.2.2.2.2.1/\y3.2.2.2.2.1<=q4_)<|.ap (y3.2.2.1.length+[s.extract y3.2.2.2.1.toNat y3.2.2.2.2.1.toNat].length) 16<|.re q1_<|.re (cs)<|.re q0_<|.bk (bk1 (y3.2.2.1++[s.extract y3.2.2.2.1.toNat y3.2.2.2.2.1.toNat],(y3.2.2.2.2.1,(w1 y3.2.2.2.2.1,()))))) (.re q1_<|.re (cs)<|.re q0_<|.bk (bk1 (y3.2.2.1,(y3.2.2.2.1,(w1 y3.2.2.2.2.1,()))))))) (.ob (0<=y1.2.1/\y1.2.1<=q4_)<|.ap (y1.1.length+[s.extract y1.2.1.toNat s.size].length) 16<|.lf J0 (y1.1++[s.extract y1.2.1.toNat s.size],()))) (an_ @cutText.eq_1<|an_ @Xo<|an_ @Abj<|an_ @Ab2<|an_ @Acy<|@Z5))
abbrev EW (s:ByteArray) (cs:(List Int)):LInv:=⟨[⟨.s,5,true,.sl .int⟩,⟨.s,19,true,.el .int⟩],λ_ (x_:Ty46_)=>0<=x_.2.1/\x_.2.1<=(cs.take 7).length/\x_.1.length<=x_.2.1/\x_.1++rngs (s.size-1) ((cs.take 7).drop x_.2.1.toNat)=cutAts s cs,λ(x_:Ty46_)=>7-x_.2.1.toNat⟩
abbrev EC (s:ByteArray) (cs:(List Int)):LInv:=⟨[⟨.s,8,true,.sl .str⟩,⟨.s,9,true,.el .int⟩,⟨.s,39,true,.el .int⟩,⟨.s,37,true,.sl .int⟩],λ_ (x_:Ty47_)=>CutInv s cs x_.2.2.2.1 x_.2.2.1.toNat x_.2.1/\0<=x_.2.2.1/\x_.2.2.1<=x_.2.2.2.1.length/\x_.1.length<=x_.2.2.1/\x_.1++pieces s (x_.2.2.2.1.drop x_.2.2.1.toNat) x_.2.1=cutText s cs,λ(x_:Ty47_)=>(cutPos s cs).length-x_.2.2.1.toNat⟩
def E92:=E91.a J0<|Fct.p (KP [0,1,4,5,7,8,9,11,17,18,19,37,38,39] [20,27,40]) (λ⟨s,cs,_⟩=>λ|3=>some (EW s cs)|12=>some (EC s cs)|_=>none) E91.2 func17 (by
 rintro⟨(s:ByteArray),(cs:List Int),_⟩ hp;refine ho (let q7_:=Value.string s;let q6_:=(s.size:Int);let q1_:=(cs.length:Int);let q3_:=if(7:Int)<q1_ then(7:Int) else q1_;let q0_:=cut cs 0 (q3_.toNat-0);let q5_:=(q0_.length:Int);let q2_:=Value.int IntKind.i64 q5_;.ob ((0<=if(7:Int)<q1_ then(7:Int) else q1_)/\q3_<=q1_)<|lpx (EW s cs) ([],((0:Int),())) λ(y2:Ty46_) bk2=>.br (decide (y2.2.1<q5_)) (.ob (0<=y2.2.1/\y2.2.1<q5_)<|.cl Aw (q0_.getD y2.2.1.toNat default,(1:Int),wr (q6_-(1:Int)),()) λz2=>.br (z2.1) (.ap (y2.1.length+[q0_.getD y2.2.1.toNat default].length) 8<|.re q7_<|.re (cs)<|.re q0_<|.re q2_<|.bk (bk2 (y2.1++[q0_.getD y2.2.1.toNat default],(w1 y2.2.1,())))) (.re q7_<|.re (cs)<|.re q0_<|.re q2_<|.bk (bk2 (y2.1,(w1 y2.2.1,()))))) (.ob (AaA.pre (y2.1,()))<|.lt _ (AaA.fn (y2.1,())) λz3=>.ob (Ht.pre (z3.2.1,()))<|.lt _ (Ht.fn (z3.2.1,())) λz4=>let q8_:=(z4.1.1.length:Int);lpx (EC s cs) ([],((0:Int),((0:Int),(z4.1.1,())))) λ(y11:Ty47_) bk11=>let q4_:=y11.2.2.2.1.getD y11.2.2.1.toNat default;.br (decide (y11.2.2.1<q8_)) (.ix y11.2.2.1 y11.2.2.2.1.length<|.ob (0<=y11.2.1/\y11.2.1<=y11.2.2.2.1.getD y11.2.2.1.toNat default/\y11.2.2.2.1.getD y11.2.2.1.toNat default<=q6_)<|.ap (y11.1.length+[s.extract y11.2.1.toNat q4_.toNat].length) 16<|.re (Value.int IntKind.i64 y2.2.1)<|.re q7_<|.re (cs)<|.re q0_<|.re q2_<|.re (Value.int IntKind.i64 q8_)<|.bk (bk11 (y11.1++[s.extract y11.2.1.toNat q4_.toNat],(y11.2.2.2.1.getD y11.2.2.1.toNat default,(w1 y11.2.2.1,(y11.2.2.2.1,())))))) (.ob (0<=y11.2.1/\y11.2.1<=q6_)<|.ap (y11.1.length+[s.extract y11.2.1.toNat s.size].length) 16<|.lf J0 (y11.1++[s.extract y11.2.1.toNat s.size],())))) ?_;refine Ac ?_ λ_=>Au ?_ λ(y2:Ty46_) i2=>Aa (λh3=>Ac ?_ λ_=>Af trivial λ_=>(Aa (λh5=>Ek ?_ λ_=>An<|An<|An<|An<|A8 ?_) (λh5=>An<|An<|An<|An<|A8 ?_))) (λh3=>Ac ?_ λ_=>DW (Ac ?_ λ_=>DW (Au ?_ λ(y11:Ty47_) i11=>Aa (λh12=>Er ?_ λo13 o14=>Ac ?_ λ_=>Ek ?_ λ_=>An<|An<|An<|An<|An<|An<|A8 ?_) (λh12=>Ac ?_ λ_=>Ek ?_ λ_=>lfY ?_))))
 all_goals try simp only[Aiu] at *
 all_goals
  have hl7:=Qc2 (i:=7) (l:=cs);have hp1:=PD s cs;have hp2:=N7 (cutAts s cs);have hp3:=PC s cs;have hp6:=H9 s cs;try simp only[std,Nat.reduceAdd] at *
  try simp(disch:=omega) only[wrapId',toNat1] at *
  try simp(disch:=omega) only[Qa3,Qa5]
 all_goals try (have q2:y2.1=cutAts s cs:=by have h:=i2.2.2.2;rw[Ac2 o_,Qd7] at h;exact h)
 all_goals try (simp only[q2,show Cl (Rb (cutAts s cs))=cutPos s cs from rfl] at *)
 all_goals try (have ce:=i11.1.e;simp only[ce] at *)
 all_goals
  try clear hp6
  try simp(disch:=omega) only[wrapId',toNat1] at *
 all_goals first|omega|skip
 all_goals try (by_cases hj:y11.2.2.1.toNat<(cutPos s cs).length;(obtain⟨g1,g2,g3⟩:=CutInv.get i11.1 hj))
 all_goals try (have g4:=i11.1.a0;have g5:=i11.1.a1)
 all_goals first|omega|skip
 all_goals first|exact⟨CutInv.zero s cs,o_,o_,o_,(H9 s cs).symm⟩|grind[cutAts,rngs_at,pieces_at,pieces_end])
def PB (s:ByteArray):∀ (l:List Int) (a:Int),(pieces s l a).length=l.length+1
 | [],_=>rfl
 | x::l,a=>by rw[pieces,Qa7,PB s l x,Qa7]
def OS (s:ByteArray) (cs:List Int):(cutText s cs).length<=8:=by
 have:=PC s cs;rw[H9,PB];unfold cutPos at this;omega
def nameByte (b:UInt8):Bool:=97<=b.toNat&&b.toNat<=122
def bts (s:ByteArray):List UInt8:=s.data.toList
def Afr (s:ByteArray):(bts s).length=s.size:=rfl
def Ag5 {s:ByteArray} {i:Nat} (h:i<s.size):(bts s).drop i=s.data.getD i 0::(bts s).drop (i+1):=by
 have h2:i<s.data.size:=h;have e:s.data.getD i 0=s.data[i]:=by unfold Array.getD;rw[dif_pos h2];rfl
 rw[List.drop_eq_getElem_cons (by rw[Afr];exact h),e];rfl
def Agg {s:ByteArray} {i:Nat} (h:s.size<=i):(bts s).drop i=[]:=Qb2 h
def allB (p:UInt8->Bool) (l:List UInt8):Bool:=l.all p
def RU {p:UInt8->Bool} {s:ByteArray} {i:Nat} (h:i<s.size):allB p ((bts s).drop i)=(p (s.data.getD i 0)&&allB p ((bts s).drop (i+1))):=by rw[Ag5 h];rfl
def Ns {p:UInt8->Bool} {s:ByteArray} {i:Nat} (h:s.size<=i):allB p ((bts s).drop i)=true:=by rw[Agg h];rfl
def isName (s:ByteArray):Bool:=allB nameByte (bts s)&&decide (1<=s.size/\s.size<=8)
abbrev BH:Fct:=⟨[.v (.el .str)],[.el .bool],λ(x_:Ty48_)=>x_.1.size<=1000000000000000000,λ(x_:Ty48_)=>(isName x_.1,())⟩
abbrev Ds (s:ByteArray):LInv:=⟨[⟨.s,3,true,.el .int⟩],λ_ (x_:Ty3_)=>0<=x_.1/\x_.1<=s.size/\allB nameByte ((bts s).drop x_.1.toNat)=allB nameByte (bts s),λ(x_:Ty3_)=>s.size-x_.1.toNat⟩
def E93:=E92.a BH<|Fct.p (KP [0,2,3] [7,19]) (λ⟨s,_⟩=>lv [(2,Ds s)]) E92.2 func265 (by
 rintro⟨(s:ByteArray),_⟩ hp;exact hg (.lq (Int×PUnit) (Ds s).inv (Ds s).m ((0:Int),()) λy1 bk1=>.br (decide (y1.1<(s.size:Int))) (.ob (0<=y1.1/\y1.1<(s.size:Int))<|.br (decide ((↑(s.data.getD y1.1.toNat 0).toNat:Int)<97)) (.lf BH (false,())) (.ob (0<=y1.1/\y1.1<(s.size:Int))<|.br (decide ((↑(s.data.getD y1.1.toNat 0).toNat:Int)>122)) (.lf BH (false,())) (.re (Value.string s)<|.bk (bk1 (w1 y1.1,()))))) (.cl Aw ((s.size:Int),(1:Int),(8:Int),()) λz2=>.lf BH (z2.1,()))) (an_ @isName.eq_1<|an_ @nameByte.eq_1<|an_ @inRange.eq_1<|an_ @RU<|@Ns))
abbrev Do (s:ByteArray):LInv:=⟨[⟨.s,3,true,.el .int⟩],λ_ (x_:Ty3_)=>0<=x_.1/\x_.1<=s.size/\allB nameByte ((bts s).drop x_.1.toNat)=allB nameByte (bts s),λ(x_:Ty3_)=>s.size-x_.1.toNat⟩
def E94:=E93.a BH<|Fct.p (KP [0,2,3] [7,19]) (λ⟨s,_⟩=>lv [(2,Do s)]) E93.2 func230 (by
 rintro⟨(s:ByteArray),_⟩ hp;exact hg (.lq (Int×PUnit) (Do s).inv (Do s).m ((0:Int),()) λy1 bk1=>.br (decide (y1.1<(s.size:Int))) (.ob (0<=y1.1/\y1.1<(s.size:Int))<|.br (decide ((↑(s.data.getD y1.1.toNat 0).toNat:Int)<97)) (.lf BH (false,())) (.ob (0<=y1.1/\y1.1<(s.size:Int))<|.br (decide ((↑(s.data.getD y1.1.toNat 0).toNat:Int)>122)) (.lf BH (false,())) (.re (Value.string s)<|.bk (bk1 (w1 y1.1,()))))) (.cl Aw ((s.size:Int),(1:Int),(8:Int),()) λz2=>.lf BH (z2.1,()))) (an_ @isName.eq_1<|an_ @nameByte.eq_1<|an_ @inRange.eq_1<|an_ @RU<|@Ns))
def valByte (b:UInt8):Bool:=(97<=b.toNat&&b.toNat<=122)||(48<=b.toNat&&b.toNat<=57)||b.toNat==47
def isValue (s:ByteArray):Bool:=allB valByte (bts s)&&decide (1<=s.size/\s.size<=20)
abbrev GK:Fct:=⟨[.v (.el .str)],[.el .bool],λ(x_:Ty48_)=>x_.1.size<=1000000000000000000,λ(x_:Ty48_)=>(isValue x_.1,())⟩
abbrev EZ (s:ByteArray):LInv:=⟨[⟨.s,3,true,.el .int⟩],λ_ (x_:Ty3_)=>0<=x_.1/\x_.1<=s.size/\allB valByte ((bts s).drop x_.1.toNat)=allB valByte (bts s),λ(x_:Ty3_)=>s.size-x_.1.toNat⟩
def E95:=E94.a GK<|Fct.p (KP [0,2,3] [7,37]) (λ⟨s,_⟩=>lv [(2,EZ s)]) E94.2 func339 (by
 rintro⟨(s:ByteArray),_⟩ hp;exact hg (let q6_:=EZ s;let q5_:=(s.size:Int);.lq (Int×PUnit) q6_.inv q6_.m ((0:Int),()) λy1 bk1=>let q3_:Out:=.re (Value.string s)<|.bk (bk1 (w1 y1.1,()));let q2_:=0<=y1.1/\y1.1<q5_;let q1_:=(↑(s.data.getD y1.1.toNat 0).toNat:Int);let q4_:Out:=.ob q2_<|.br (q1_ != 47) (.lf GK (false,())) q3_;let q0_:Out:=.ob q2_<|.br (decide (q1_<48)) q4_ (.ob q2_<|.br (decide (q1_>57)) q4_ q3_);.br (decide (y1.1<q5_)) (.ob q2_<|.br (decide (q1_<97)) q0_ (.ob q2_<|.br (decide (q1_>122)) q0_ q3_)) (.cl Aw (q5_,(1:Int),(20:Int),()) λz2=>.lf GK (z2.1,()))) (an_ @isValue.eq_1<|an_ @valByte.eq_1<|an_ @inRange.eq_1<|an_ @RU<|@Ns))
abbrev EI (s:ByteArray):LInv:=⟨[⟨.s,3,true,.el .int⟩],λ_ (x_:Ty3_)=>0<=x_.1/\x_.1<=s.size/\allB valByte ((bts s).drop x_.1.toNat)=allB valByte (bts s),λ(x_:Ty3_)=>s.size-x_.1.toNat⟩
def E96:=E95.a GK<|Fct.p (KP [0,2,3] [7,38]) (λ⟨s,_⟩=>lv [(2,EI s)]) E95.2 func312 (by
 rintro⟨(s:ByteArray),_⟩ hp;exact hg (let q7_:=EI s;let q6_:=(s.size:Int);let q4_:Out:=.lf GK (false,());.lq (Int×PUnit) q7_.inv q7_.m ((0:Int),()) λy1 bk1=>let q3_:Out:=.re (Value.string s)<|.bk (bk1 (w1 y1.1,()));let q8_:Out:=.br (!true) q4_ q3_;let q2_:=0<=y1.1/\y1.1<q6_;let q1_:=(↑(s.data.getD y1.1.toNat 0).toNat:Int);let q5_:Out:=.ob q2_<|.br (!q1_==47) q4_ q3_;let q0_:Out:=.ob q2_<|.br (decide (q1_>=48)) (.ob q2_<|.br (decide (q1_<=57)) q8_ q5_) q5_;.br (decide (y1.1<q6_)) (.ob q2_<|.br (decide (q1_>=97)) (.ob q2_<|.br (decide (q1_<=122)) q8_ q0_) q0_) (.cl Aw (q6_,(1:Int),(20:Int),()) λz2=>.lf GK (z2.1,()))) (an_ @isValue.eq_1<|an_ @valByte.eq_1<|an_ @inRange.eq_1<|an_ @RU<|@Ns))
abbrev D4:Fct:=⟨[.v (.el .addr)],[.el .bool],λ(x_:Ty4_)=>x_.1.host.size<=1000000000000000000/\x_.1.path.size<=1000000000000000000,λ(x_:Ty4_)=>(isName x_.1.host&&isName x_.1.path,())⟩
def E97:=E96.a D4<|Fct.o [1,2] E96.2 func162 (by
 rintro⟨(a:Sb_),_⟩ hp;exact hq (.cl BH (a.host,()) λz2=>.br (z2.1) (.cl BH (a.path,()) λz3=>.lf D4 (z3.1,())) (.lf D4 (false,()))))
def E98:=E97.a D4<|Fct.o [1,2] E97.2 func131 (by
 rintro⟨(a:Sb_),_⟩ hp;exact hq (.cl BH (a.host,()) λz2=>.br (z2.1) (.cl BH (a.path,()) λz3=>.lf D4 (z3.1,())) (.lf D4 (false,()))))
def Sz {l:List ByteArray} {i:Nat} (h:i<l.length):(l.getD i default).size+l.length<=szL Ae l:=by
 have:=C6 Ae h;omega
abbrev K4:Fct:=⟨[.v (.sl .str)],[.el .bool],λ(x_:Ty49_)=>szL Ae x_.1<=1099511627776,λ(x_:Ty49_)=>(x_.1.all isName&&decide (x_.1.length<=4),())⟩
abbrev Dp (l:(List ByteArray)):LInv:=⟨[⟨.s,3,true,.el .int⟩],λ_ (x_:Ty3_)=>0<=x_.1/\x_.1<=l.length/\(l.drop x_.1.toNat).all isName=l.all isName,λ(x_:Ty3_)=>l.length-x_.1.toNat⟩
def E99:=E98.a K4<|Fct.p (KP [0,2,3] [7,15]) (λ⟨l,_⟩=>lv [(2,Dp l)]) E98.2 func364 (by
 rintro⟨(l:List ByteArray),_⟩ hp;exact hg (.lq (Int×PUnit) (Dp l).inv (Dp l).m ((0:Int),()) λy1 bk1=>.br (decide (y1.1<(l.length:Int))) (.ob (inB y1.1 l.length)<|.cl BH (l.getD y1.1.toNat default,()) λz2=>.br (!z2.1) (.lf K4 (false,())) (.re (l)<|.bk (bk1 (w1 y1.1,())))) (.lf K4 (decide ((l.length:Int)<=4),()))) (an_ (Ab Ae l)<|(λi h=>by have:=Sz h;have hp2:szL Ae l<=1099511627776:=hp;omega:∀ i,i<l.length->(l.getD i default).size<=1000000000000000000)))
abbrev Eu:Fct:=⟨[.v (.el .str)],[.el .bool],λ(x_:Ty48_)=>x_.1.size<=1000000000000000000,λ(x_:Ty48_)=>(!isName x_.1,())⟩
def AlM:=E99.a Eu<|Fct.o [0,2] E99.2 func435 (by
 rintro⟨(s:ByteArray),_⟩ hp;exact hq (.cl BH (s,()) λz2=>.lf Eu (!z2.1,())))
abbrev Bn:Fct:=⟨[aL .str,.c 435 []],[rI],λx=>x.1.length<=1000000000000000000/\∀ i,i<x.1.length->Eu.pre (x.1.getD i default,x.2.1),λx=>(fidx (λc=>(Eu.fn (c,x.2.1)).1) x.1 0,())⟩
abbrev AL (l:(List ByteArray)) (u:(Unit)):LInv:=⟨[⟨.s,8,true,.el .int⟩],λ_ (x_:Ty3_)=>0<=x_.1/\x_.1<=l.length/\fidx (λc=>(Eu.fn (c,u)).1) l 0=fidx (λc=>(Eu.fn (c,u)).1) (l.drop x_.1.toNat) x_.1,λ(x_:Ty3_)=>l.length-x_.1.toNat⟩
def Alz:=AlM.a Bn<|Fct.p (KP [0,1,4,5,7,8] [9,16]) (λ⟨l,u,_⟩=>lv [(2,AL l u)]) AlM.2 func451 (by
 rintro⟨(l:List ByteArray),(u:PUnit),_⟩ hp;refine ho (lpx (AL l u) ((0:Int),()) λ(y1:Ty3_) bk1=>.br (decide (y1.1<(l.length:Int))) (.ob (inB y1.1 l.length)<|.cl Eu (l.getD y1.1.toNat default,()) λz2=>.br (z2.1) (.lf Bn (y1.1,())) (.re (l)<|.re (Value.int IntKind.i64 (l.length:Int))<|.bk (bk1 (w1 y1.1,())))) (.lf Bn ((-1:Int),()))) ?_;refine Au ?_ λ(y1:Ty3_) i1=>Aa (λh2=>Ac ?_ λ_=>Af ?_ λ_=>(Aa (λh5=>lfY ?_) (λh5=>An<|An<|A8 ?_))) (λh2=>lfY ?_)
 all_goals
  try simp only[std,Nat.reduceAdd] at *
  try have hp2:=hp.2
  try have hp1:=hp.1
 all_goals first|trivial|omega|exact hp2 _ o_|grind[wrapId',toNat1,drop_cons,drop_end,good_len,maxLen,fidx])
abbrev BU:Fct:=⟨[aL .str,.c 435 []],[rB],λx=>x.1.length<=1000000000000000000/\∀ i,i<x.1.length->Eu.pre (x.1.getD i default,x.2.1),λx=>(x.1.any (λc=>(Eu.fn (c,x.2.1)).1),())⟩
def AiO:=Alz.a BU<|Fct.o [0,1,4] Alz.2 func434 (by
 rintro⟨(l:List ByteArray),(u:PUnit),_⟩ hp;refine ho (.cl Bn (l,(),()) λ(z2:Ty3_)=>.lf BU (decide (z2.1>=0),())) ?_;refine Af ?_ λ_=>(lfY ?_)
 all_goals try simp only[std,Nat.reduceAdd] at *
 all_goals first|trivial|omega|exact hp|(rw[Bool.eq_iff_iff];exact decide_eq_true_iff.trans (KN _ _ _ o_)))
def AlS:=AiO.a K4<|Fct.o [0,2] AiO.2 func411 (by
 rintro⟨(l:List ByteArray),_⟩ hp;exact hg (.br (decide ((↑(List.length l):Int)<=4)) (.cl BU (l,(),()) λz2=>.lf K4 (!z2.1,())) (.lf K4 (false,()))) (an_ (Ab Ae l)<|an_ (λi h=>by have:=Sz h;have hp2:szL Ae l<=1099511627776:=hp;omega:∀ i,i<l.length->(l.getD i default).size<=1000000000000000000)<|(by simp[List.any_eq_not_all_not]:(l.any λc=>!isName c) = !(l.all isName))))
def isPolicy (p:Sj_):Bool:=if p.set_ then p.bp.all isName&&decide (p.bp.length<=4)&&(p.styles.all isName&&decide (p.styles.length<=4))&&(p.images.all isName&&decide (p.images.length<=4))&&(decide (p.nonce=⟨#[]⟩)||isValue p.nonce) else decide (p.bp.length=0/\p.styles.length=0/\p.images.length=0/\p.nonce=⟨#[]⟩)
abbrev CG:Fct:=⟨[.v (.el .bj)],[.el .bool],λ(x_:Ty28_)=>AM x_.1<=1099511627776,λ(x_:Ty28_)=>(isPolicy x_.1,())⟩
theorem q9 (p:Sj_) (hp:CG.pre (p,())):Out.holds (CG.ctr (p,())).post (.br (!p.set_) (.br ((p.bp.length:Int)==0) (.br ((p.styles.length:Int)==0) (.br ((p.images.length:Int)==0) (.lf CG (p.nonce.toList==(⟨#[]⟩:ByteArray).toList,())) (.lf CG (false,()))) (.lf CG (false,()))) (.lf CG (false,()))) (.cl K4 (p.bp,()) λz2=>.br (z2.1) (.cl K4 (p.styles,()) λz3=>.br (z3.1) (.cl K4 (p.images,()) λz4=>.br (z4.1) (.br (p.nonce.toList==(⟨#[]⟩:ByteArray).toList) (.lf CG (true,())) (.cl GK (p.nonce,()) λz5=>.lf CG (z5.1,()))) (.lf CG (false,()))) (.lf CG (false,()))) (.lf CG (false,())))):=hz ((an_ @isPolicy.eq_1<|@AM.eq_1))
def AlI:=AlS.a CG<|Fct.o (KP [1,2] [5]) AlS.2 func291 (by
 rintro⟨(p:Sj_),_⟩ hp;exact ho _ (q9 p hp))
def Aj7:=AlI.a CG<|Fct.o (KP [1,2] [5]) AlI.2 func367 (by
 rintro⟨(p:Sj_),_⟩ hp;exact ho _ (q9 p hp))
abbrev Fl:Fct:=⟨[.v (.el .bj),.v (.el .int),.v (.el .str)],[.el .bool],λ(x_:Ty50_)=>AM x_.1<=1099511627776,λ(x_:Ty50_)=>(!x_.1.set_||(if x_.2.1=2\/x_.2.1=5 then x_.1.bp.any (λc=>decide (c=x_.2.2.1)) else if x_.2.1=3 then x_.1.styles.any (λc=>decide (c=x_.2.2.1)) else if x_.2.1=4 then x_.1.images.any (λc=>decide (c=x_.2.2.1)) else false),())⟩
def AmD:=Aj7.a Fl<|Fct.o (KP [1,2,3,6] [7,11,22,29]) Aj7.2 func270 (by
 rintro⟨(p:Sj_),(k:Int),(h:ByteArray),_⟩ hp;exact hg (.br (!p.set_) (.lf Fl (true,())) (.br (k==2) (.cl Ua (p.bp,h,()) λz2=>.lf Fl (z2.1,())) (.br (k==5) (.cl Ua (p.bp,h,()) λz3=>.lf Fl (z3.1,())) (.br (k==3) (.cl Ua (p.styles,h,()) λz4=>.lf Fl (z4.1,())) (.br (k==4) (.cl Ua (p.images,h,()) λz5=>.lf Fl (z5.1,())) (.lf Fl (false,()))))))) (an_ @AM.eq_1<|an_ (Ab Ae p.bp)<|an_ (Ab Ae p.styles)<|(Ab Ae p.images)))
def Ai6:=AmD.a Fl<|Fct.o (KP [1,2,3,6,10,11] [9,18,24]) AmD.2 func235 (by
 rintro⟨(p:Sj_),(k:Int),(h:ByteArray),_⟩ hp;exact hg (let q1_:Out:=.cl F5 (p.bp,h,()) λz2=>.lf Fl (z2.1,());let q0_:Out:=.br (k==3) (.cl F5 (p.styles,h,()) λz3=>.lf Fl (z3.1,())) (.br (k==4) (.cl F5 (p.images,h,()) λz4=>.lf Fl (z4.1,())) (.lf Fl (false,())));.br (!p.set_) (.lf Fl (true,())) (.br (k==2) (.br (k==2) q1_ q0_) (.br (k==5) q1_ q0_))) (an_ @AM.eq_1<|an_ (Ab Ae p.bp)<|an_ (Ab Ae p.styles)<|(Ab Ae p.images)))
def isRequest (r:Sg_):Bool:=inRange r.kind 1 5&&(isName r.to.host&&isName r.to.path)&&isName r.from_&&(decide (r.digest=⟨#[]⟩)||isValue r.digest)
abbrev CI:Fct:=⟨[.v (.el .request)],[.el .bool],λ(x_:Ty51_)=>BJ x_.1<=1099511627776,λ(x_:Ty51_)=>(isRequest x_.1,())⟩
theorem q10 (r:Sg_) (hp:CI.pre (r,())):Out.holds (CI.ctr (r,())).post (.cl Aw (r.kind,(1:Int),(5:Int),()) λz2=>.br (z2.1) (.cl D4 (r.to,()) λz3=>.br (z3.1) (.cl BH (r.from_,()) λz4=>.br (z4.1) (.br (r.digest.toList==(⟨#[]⟩:ByteArray).toList) (.lf CI (true,())) (.cl GK (r.digest,()) λz5=>.lf CI (z5.1,()))) (.lf CI (false,()))) (.lf CI (false,()))) (.lf CI (false,()))):=hz ((an_ @isRequest.eq_1<|an_ @BJ.eq_1<|@szAddr.eq_1))
def Alk:=Ai6.a CI<|Fct.o [1,2] Ai6.2 func269 (by
 rintro⟨(r:Sg_),_⟩ hp;exact ho _ (q10 r hp))
def AlY:=Alk.a CI<|Fct.o [1,2] Alk.2 func234 (by
 rintro⟨(r:Sg_),_⟩ hp;exact ho _ (q10 r hp))
def allows (p:Sj_) (k:Int) (h:ByteArray):Bool:=(Fl.fn (p,k,h,())).1
def checkRequest (p:Sj_) (r:Sg_):Int:=if isRequest r&&(decide (r.kind=1)||allows p r.kind r.to.host) then 1 else 2
abbrev AE:Fct:=⟨[.v (.el .bj),.v (.el .request)],[.el .int],λ(x_:Ty52_)=>AM x_.1<=1099511627776/\BJ x_.2.1<=1099511627776,λ(x_:Ty52_)=>(checkRequest x_.1 x_.2.1,())⟩
theorem q11 (p:Sj_) (r:Sg_) (hp:AE.pre (p,r,())):Out.holds (AE.ctr (p,r,())).post (.cl CI (r,()) λz2=>.br (!z2.1) (.lf AE ((2:Int),())) (.br (r.kind != 1) (.cl Fl (p,r.kind,r.to.host,()) λz3=>.br (!z3.1) (.lf AE ((2:Int),())) (.lf AE ((1:Int),()))) (.lf AE ((1:Int),())))):=hz ((an_ @checkRequest.eq_1<|@allows.eq_1))
def Ak9:=AlY.a AE<|Fct.o (KP [2,3,4] [22]) AlY.2 func166 (by
 rintro⟨(p:Sj_),(r:Sg_),_⟩ hp;exact ho _ (q11 p r hp))
def Ame:=Ak9.a AE<|Fct.o (KP [2,3,4] [22]) Ak9.2 func135 (by
 rintro⟨(p:Sj_),(r:Sg_),_⟩ hp;exact ho _ (q11 p r hp))
abbrev EL:Fct:=⟨[.v (.el .bd),.v (.el .int)],[.el .bool],λ(x_:Sc_×Int×Unit)=>True,λ(x_:Sc_×Int×Unit)=>(decide (x_.1.kind=x_.2.1)||decide (x_.2.1=5/\x_.1.kind=2),())⟩
def AlU:=Ame.a EL<|Fct.o [1,2,4] Ame.2 func352 (by
 rintro⟨(x:Sc_),(k:Int),_⟩ hp;exact hq (.br (x.kind==k) (.lf EL (true,())) (.br (k==5) (.lf EL (x.kind==2,())) (.lf EL (false,())))))
def Ala:=AlU.a EL<|Fct.o [1,2,4] AlU.2 func325 (by
 rintro⟨(x:Sc_),(k:Int),_⟩ hp;exact hq (.br (x.kind==k) (.lf EL (true,())) (.br (k==5) (.lf EL (x.kind==2,())) (.lf EL (false,())))))
def notFound:Sc_:=⟨404,1,⟨#[]⟩,0,false,⟨#[]⟩⟩
abbrev DG:Fct:=⟨[],[rE .bd],λ_=>True,λ_=>(notFound,())⟩
def AmW:=Ala.a DG<|Fct.o [0] Ala.2 func156 (by
 rintro⟨_⟩ hp;refine ho (.lf DG (⟨(404:Int),(1:Int),(⟨#[]⟩:ByteArray),(0:Int),false,(⟨#[]⟩:ByteArray)⟩,())) ?_;refine lfY ?_;all_goals try simp only[std,Nat.reduceAdd] at *
 all_goals first|trivial|omega|(simp_all;done)|(simp_all;omega)|grind)
def AlR:=AmW.a DG<|Fct.o [0] AmW.2 func125 (by
 rintro⟨_⟩ hp;refine ho (.lf DG (⟨(404:Int),(1:Int),(⟨#[]⟩:ByteArray),(0:Int),false,(⟨#[]⟩:ByteArray)⟩,())) ?_;refine lfY ?_;all_goals try simp only[std,Nat.reduceAdd] at *
 all_goals first|trivial|omega|(simp_all;done)|(simp_all;omega)|grind)
abbrev Dm:Fct:=⟨[.v (.sl .server)],[.sl .server],λ(x_:Ty53_)=>szL Ai x_.1<=68719476736,λ(x_:Ty53_)=>(x_.1,())⟩
abbrev Cg (l:(List Sh_)):LInv:=⟨[⟨.s,3,true,.sl .server⟩,⟨.s,4,true,.el .int⟩],λ_ (x_:Ty54_)=>0<=x_.2.1/\x_.2.1<=l.length/\x_.1=l.take x_.2.1.toNat,λ(x_:Ty54_)=>l.length-x_.2.1.toNat⟩
def AkK:=AlR.a Dm<|Fct.p (KP [0,2,3,4] [9]) (λ⟨l,_⟩=>lv [(3,Cg l)]) AlR.2 func238 (by
 rintro⟨(l:List Sh_),_⟩ hp;exact hg (.lq (List Sh_×Int×PUnit) (Cg l).inv (Cg l).m ([],((0:Int),())) λy1 bk1=>.br (decide (y1.2.1<(l.length:Int))) (.ob (inB y1.2.1 l.length)<|.ob (inB y1.2.1 l.length)<|.ap (l.getD y1.2.1.toNat default).files.length 80<|.ob (Ij (y1.1.length+[l.getD y1.2.1.toNat default].length) 40)<|.re (l)<|.bk (bk1 (y1.1++[l.getD y1.2.1.toNat default],(w1 y1.2.1,())))) (.lf Dm (y1.1,()))) (an_ @take_succ<|an_ @take_end<|an_ (Ab Ai l)<|(λi h=>by have:=H6 h;have hp2:szL Ai l<=68719476736:=hp;omega:∀ i,i<l.length->(l.getD i default).files.length<=68719476736)))
abbrev BT (l:(List Sh_)):LInv:=⟨[⟨.s,3,true,.sl .server⟩,⟨.s,9,true,.el .int⟩],λ_ (x_:Ty54_)=>0<=x_.2.1/\x_.2.1<=l.length/\x_.1=l.take x_.2.1.toNat,λ(x_:Ty54_)=>l.length-x_.2.1.toNat⟩
def Amt:=AkK.a Dm<|Fct.p (KP [0,2,3,5,7,8,9] [10]) (λ⟨l,_⟩=>lv [(3,BT l)]) AkK.2 func201 (by
 rintro⟨(l:List Sh_),_⟩ hp;exact hg (.lq (List Sh_×Int×PUnit) (BT l).inv (BT l).m ([],((0:Int),())) λy1 bk1=>.br (decide (y1.2.1<(l.length:Int))) (.ob (inB y1.2.1 l.length)<|.ap (l.getD y1.2.1.toNat default).files.length 80<|.ob (Ij (y1.1.length+[l.getD y1.2.1.toNat default].length) 40)<|.re (l)<|.re (l)<|.re (Value.int IntKind.i64 (l.length:Int))<|.bk (bk1 (y1.1++[l.getD y1.2.1.toNat default],(w1 y1.2.1,())))) (.lf Dm (y1.1,()))) (an_ @take_succ<|an_ @take_end<|an_ (Ab Ai l)<|(λi h=>by have:=H6 h;have hp2:szL Ai l<=68719476736:=hp;omega:∀ i,i<l.length->(l.getD i default).files.length<=68719476736)))
abbrev DJ:Fct:=⟨[.v (.el .cache)],[.el .cache],λ(x_:Ty55_)=>szCache x_.1<=68719476736,λ(x_:Ty55_)=>(x_.1,())⟩
def AjW:=Amt.a DJ<|Fct.o [1,2] Amt.2 func239 (by
 rintro⟨(c:Sn_),_⟩ hp;exact hg (.ap (0+c.bg.length) 120<|.lf DJ (⟨[]++c.bg⟩,())) (an_ @szCache.eq_1<|(Ab A0 c.bg)))
def AiX:=AjW.a DJ<|Fct.o [1,2] AjW.2 func202 (by
 rintro⟨(c:Sn_),_⟩ hp;exact hg (.ap (0+c.bg.length) 120<|.lf DJ (⟨[]++c.bg⟩,())) (an_ @szCache.eq_1<|(Ab A0 c.bg)))
abbrev GN:Fct:=⟨[.v (.el .net)],[.el .net],λ(x_:Ty56_)=>szNet x_.1<=68719476736,λ(x_:Ty56_)=>(x_.1,())⟩
def AjO:=AiX.a GN<|Fct.o [1,2] AiX.2 func144 (by
 rintro⟨(n:Ss_),_⟩ hp;exact hg (.cl Dm (n.servers,()) λz2=>.cl DJ (n.cache,()) λz3=>.ap n.log.length 56<|.lf GN (⟨z2.1,z3.1,n.log,n.now⟩,())) (an_ @szNet.eq_1<|(Ab Gd n.log)))
def Amy:=AjO.a GN<|Fct.o [1,2] AjO.2 func111 (by
 rintro⟨(n:Ss_),_⟩ hp;exact hg (.cl Dm (n.servers,()) λz2=>.cl DJ (n.cache,()) λz3=>.ap n.log.length 56<|.lf GN (⟨z2.1,z3.1,n.log,n.now⟩,())) (an_ @szNet.eq_1<|(Ab Gd n.log)))
abbrev HJ:Fct:=⟨[.v (.sl .server),.v (.el .str)],[.el .int],λ(x_:Ty57_)=>x_.1.length<=1000000000000,λ(x_:Ty57_)=>(fidx (λs=>decide (s.host=x_.2.1)) x_.1 0,())⟩
abbrev Cp (l:(List Sh_)) (h:ByteArray):LInv:=⟨[⟨.s,5,true,.el .int⟩],λ_ (x_:Ty3_)=>0<=x_.1/\x_.1<=l.length/\fidx (λs=>decide (s.host=h)) (l.drop x_.1.toNat) x_.1=fidx (λs=>decide (s.host=h)) l 0,λ(x_:Ty3_)=>l.length-x_.1.toNat⟩
def AjX:=Amy.a HJ<|Fct.p (KP [0,1,4,5] [9,18]) (λ⟨l,h,_⟩=>lv [(2,Cp l h)]) Amy.2 func266 (by
 rintro⟨(l:List Sh_),(h:ByteArray),_⟩ hp;exact hg (.lq (Int×PUnit) (Cp l h).inv (Cp l h).m ((0:Int),()) λy1 bk1=>.br (decide (y1.1<(l.length:Int))) (.ob (inB y1.1 l.length)<|.br ((l.getD y1.1.toNat default).host.toList==h.toList) (.lf HJ (y1.1,())) (.re (l)<|.re (Value.string h)<|.bk (bk1 (w1 y1.1,())))) (.lf HJ ((-1:Int),()))) (an_ @fidx.eq_1<|@fidx.eq_2))
abbrev Gz:Fct:=⟨[.v (.el .server),.p (.el .str)],[.el .bool],λ(x_:Ty58_)=>True,λ(x_:Ty58_)=>(decide (x_.1.host=x_.2.1),())⟩
def Ajo:=AjX.a Gz<|Fct.o [1,2,3] AjX.2 func332 (by
 rintro⟨(s:Sh_),(h:ByteArray),_⟩ hp;exact hq (.lf Gz (s.host.toList==ByteArray.toList h,())))
abbrev A7:Fct:=⟨[aL .server,.c 332 [.el .str]],[rI],λx=>x.1.length<=1000000000000000000/\∀ c,Gz.pre (c,x.2.1),λx=>(fidx (λc=>(Gz.fn (c,x.2.1)).1) x.1 0,())⟩
abbrev Av (l:(List Sh_)) (u:(ByteArray×Unit)):LInv:=⟨[⟨.s,8,true,.el .int⟩],λ_ (x_:Ty3_)=>0<=x_.1/\x_.1<=l.length/\fidx (λc=>(Gz.fn (c,u)).1) l 0=fidx (λc=>(Gz.fn (c,u)).1) (l.drop x_.1.toNat) x_.1,λ(x_:Ty3_)=>l.length-x_.1.toNat⟩
def AjL:=Ajo.a A7<|Fct.p (KP [0,1,4,5,7,8] [9,16]) (λ⟨l,u,_⟩=>lv [(2,Av l u)]) Ajo.2 func331 (by
 rintro⟨(l:List Sh_),(u:Ty48_),_⟩ hp;refine ho (lpx (Av l u) ((0:Int),()) λ(y1:Ty3_) bk1=>.br (decide (y1.1<(l.length:Int))) (.ob (inB y1.1 l.length)<|.cl Gz (l.getD y1.1.toNat default,u.1,()) λz2=>.br (z2.1) (.lf A7 (y1.1,())) (.re (l)<|.re (enc Ty.str u.1)<|.re (Value.int IntKind.i64 (l.length:Int))<|.bk (bk1 (w1 y1.1,())))) (.lf A7 ((-1:Int),()))) ?_;refine Au ?_ λ(y1:Ty3_) i1=>Aa (λh2=>Ac ?_ λ_=>Af trivial λ_=>(Aa (λh4=>lfY ?_) (λh4=>An<|An<|An<|A8 ?_))) (λh2=>lfY ?_)
 all_goals
  try simp only[std,Nat.reduceAdd] at *
  try have hp2:=hp.2
  try have hp1:=hp.1
 all_goals first|trivial|omega|grind[wrapId',toNat1,drop_cons,drop_end,good_len,maxLen,fidx])
def Al8:=AjL.a HJ<|Fct.o [0,3,4] AjL.2 func231 (by
 rintro⟨(l:List Sh_),(h:ByteArray),_⟩ hp;exact hq (.cl A7 (l,(h,()),()) λ(z2:Ty3_)=>.lf HJ (z2.1,())))
abbrev Ju:Fct:=⟨[.v (.el .server),.v (.el .str)],[.el .int],λ(x_:Ty58_)=>x_.1.files.length<=1000000000000,λ(x_:Ty58_)=>(fidx (λf=>decide (f.path=x_.2.1)) x_.1.files 0,())⟩
abbrev C8 (s:Sh_) (p:ByteArray):LInv:=⟨[⟨.s,5,true,.el .int⟩,⟨.b,2,false,.el .server⟩],λ(z_ x_:Ty59_)=>(0<=x_.1/\x_.1<=s.files.length/\fidx (λf=>decide (f.path=p)) (s.files.drop x_.1.toNat) x_.1=fidx (λf=>decide (f.path=p)) s.files 0)/\x_.2.1=z_.2.1,λ(x_:Ty59_)=>s.files.length-x_.1.toNat⟩
def Akd:=Al8.a Ju<|Fct.p (KP [1,2,4,5] [10,20]) (λ⟨s,p,_⟩=>lv [(2,C8 s p)]) Al8.2 func267 (by
 rintro⟨(s:Sh_),(p:ByteArray),_⟩ hp;exact hg (.lq (Int×Sh_×PUnit) (C8 s p).inv (C8 s p).m ((0:Int),(s,())) λy1 bk1=>.br (decide (y1.1<(y1.2.1.files.length:Int))) (.ob (inB y1.1 y1.2.1.files.length)<|.br ((y1.2.1.files.getD y1.1.toNat default).path.toList==p.toList) (.lf Ju (y1.1,())) (.re (Value.string p)<|.bk (bk1 (w1 y1.1,(y1.2.1,()))))) (.lf Ju ((-1:Int),()))) (an_ @fidx.eq_1<|@fidx.eq_2))
abbrev Ja:Fct:=⟨[.v (.el .file),.p (.el .str)],[.el .bool],λ(x_:Su_×ByteArray×Unit)=>True,λ(x_:Su_×ByteArray×Unit)=>(decide (x_.1.path=x_.2.1),())⟩
def AlT:=Akd.a Ja<|Fct.o [1,2,3] Akd.2 func334 (by
 rintro⟨(f:Su_),(p:ByteArray),_⟩ hp;exact hq (.lf Ja (f.path.toList==ByteArray.toList p,())))
abbrev Bx:Fct:=⟨[aL .file,.c 334 [.el .str]],[rI],λx=>x.1.length<=1000000000000000000/\∀ c,Ja.pre (c,x.2.1),λx=>(fidx (λc=>(Ja.fn (c,x.2.1)).1) x.1 0,())⟩
abbrev AH (l:(List Su_)) (u:(ByteArray×Unit)):LInv:=⟨[⟨.s,8,true,.el .int⟩],λ_ (x_:Ty3_)=>0<=x_.1/\x_.1<=l.length/\fidx (λc=>(Ja.fn (c,u)).1) l 0=fidx (λc=>(Ja.fn (c,u)).1) (l.drop x_.1.toNat) x_.1,λ(x_:Ty3_)=>l.length-x_.1.toNat⟩
def Ajv:=AlT.a Bx<|Fct.p (KP [0,1,4,5,7,8] [9,16]) (λ⟨l,u,_⟩=>lv [(2,AH l u)]) AlT.2 func333 (by
 rintro⟨(l:List Su_),(u:Ty48_),_⟩ hp;refine ho (lpx (AH l u) ((0:Int),()) λ(y1:Ty3_) bk1=>.br (decide (y1.1<(l.length:Int))) (.ob (inB y1.1 l.length)<|.cl Ja (l.getD y1.1.toNat default,u.1,()) λz2=>.br (z2.1) (.lf Bx (y1.1,())) (.re (l)<|.re (enc Ty.str u.1)<|.re (Value.int IntKind.i64 (l.length:Int))<|.bk (bk1 (w1 y1.1,())))) (.lf Bx ((-1:Int),()))) ?_;refine Au ?_ λ(y1:Ty3_) i1=>Aa (λh2=>Ac ?_ λ_=>Af trivial λ_=>(Aa (λh4=>lfY ?_) (λh4=>An<|An<|An<|A8 ?_))) (λh2=>lfY ?_)
 all_goals
  try simp only[std,Nat.reduceAdd] at *
  try have hp2:=hp.2
  try have hp1:=hp.1
 all_goals first|trivial|omega|grind[wrapId',toNat1,drop_cons,drop_end,good_len,maxLen,fidx])
def AkZ:=Ajv.a Ju<|Fct.o [2,3,4] Ajv.2 func232 (by
 rintro⟨(s:Sh_),(p:ByteArray),_⟩ hp;exact hq (.cl Bx (s.files,(p,()),()) λ(z2:Ty3_)=>.lf Ju (z2.1,())))
def answerTo (l:List Sh_) (a:Sb_):Sc_:=if fidx (λs=>decide (s.host=a.host)) l 0<0 then notFound else if fidx (λf=>decide (f.path=a.path)) (l.getD (fidx (λs=>decide (s.host=a.host)) l 0).toNat default).files 0<0 then notFound else((l.getD (fidx (λs=>decide (s.host=a.host)) l 0).toNat default).files.getD (fidx (λf=>decide (f.path=a.path)) (l.getD (fidx (λs=>decide (s.host=a.host)) l 0).toNat default).files 0).toNat default).bd
abbrev FO:Fct:=⟨[.v (.sl .server),.v (.el .addr)],[.el .bd],λ(x_:Ty60_)=>szL Ai x_.1<=68719476736,λ(x_:Ty60_)=>(answerTo x_.1 x_.2.1,())⟩
theorem q12 (l:List Sh_) (a:Sb_) (hp:FO.pre (l,a,())):Out.holds (FO.ctr (l,a,())).post (.cl HJ (l,a.host,()) λ(z2:Ty3_)=>.br (decide (z2.1<0)) (.cl DG () λz3=>.lf FO (z3.1,())) (.ob (0<=z2.1/\z2.1<(↑(List.length l):Int))<|.cl Ju (List.getD l z2.1.toNat default,a.path,()) λ(z4:Ty3_)=>.br (decide (z4.1<0)) (.cl DG () λz5=>.lf FO (z5.1,())) (.ob (0<=z2.1/\z2.1<(↑(List.length l):Int))<|.ob (0<=z4.1/\z4.1<(↑(List.getD l z2.1.toNat default).files.length:Int))<|.lf FO (((List.getD l z2.1.toNat default).files.getD z4.1.toNat default).bd,())))):=hz ((an_ @answerTo.eq_1<|an_ (Ab Ai l)<|an_ (λi h=>by have:=H6 h;have hp2:szL Ai l<=68719476736:=hp;omega:∀ i,i<l.length->(l.getD i default).files.length<=68719476736)<|an_ (DN (λs:Sh_=>decide (s.host=a.host)) l 0 o_)<|(λfs=>DN (λf:Su_=>decide (f.path=a.path)) fs 0 o_)))
def Ak2:=AkZ.a FO<|Fct.o (KP [0,3,4,5,6] [12,22]) AkZ.2 func163 (by
 rintro⟨(l:List Sh_),(a:Sb_),_⟩ hp;exact ho _ (q12 l a hp))
def Alv:=Ak2.a FO<|Fct.o (KP [0,3,4,5,6] [12,22]) Ak2.2 func132 (by
 rintro⟨(l:List Sh_),(a:Sb_),_⟩ hp;exact ho _ (q12 l a hp))
abbrev Et:Fct:=⟨[.v (.el .cache),.v (.el .str),.v (.el .addr)],[.el .int],λ(x_:Ty61_)=>x_.1.bg.length<=1000000000000,λ(x_:Ty61_)=>(fidx (λe=>decide (e.top=x_.2.1)&&decide (e.to=x_.2.2.1)) x_.1.bg 0,())⟩
abbrev D9 (c:Sn_) (t:ByteArray) (a:Sb_):LInv:=⟨[⟨.s,7,true,.el .int⟩,⟨.b,3,false,.el .cache⟩,⟨.b,5,true,.el .addr⟩],λ(z_ x_:Ty62_)=>((0<=x_.1/\x_.1<=c.bg.length/\fidx (λe=>decide (e.top=t)&&decide (e.to=a)) (c.bg.drop x_.1.toNat) x_.1=fidx (λe=>decide (e.top=t)&&decide (e.to=a)) c.bg 0)/\x_.2.1=z_.2.1)/\x_.2.2.1=z_.2.2.1,λ(x_:Ty62_)=>c.bg.length-x_.1.toNat⟩
def AmA:=Alv.a Et<|Fct.p (KP [1,3,5,6,7] [12,32]) (λ⟨c,t,a,_⟩=>lv [(2,D9 c t a)]) Alv.2 func258 (by
 rintro⟨(c:Sn_),(t:ByteArray),(a:Sb_),_⟩ hp;exact hg (let q2_:=D9 c t a;.lq (Int×Sn_×Sb_×PUnit) q2_.inv q2_.m ((0:Int),(c,(a,()))) λy1 bk1=>let q3_:=inB y1.1 y1.2.1.bg.length;let q1_:Out:=.re (Value.string t)<|.bk (bk1 (w1 y1.1,(y1.2.1,(y1.2.2.1,()))));let q0_:=y1.2.1.bg.getD y1.1.toNat default;.br (decide (y1.1<(y1.2.1.bg.length:Int))) (.ob q3_<|.br (q0_.top.toList==t.toList) (.ob q3_<|.br (q0_.to.host==y1.2.2.1.host&&(q0_.to.path==y1.2.2.1.path&&true)) (.lf Et (y1.1,())) q1_) q1_) (.lf Et ((-1:Int),()))) (an_ @fidx.eq_1<|@fidx.eq_2))
abbrev GQ:Fct:=⟨[.v (.el .entry),.p (.el .str),.p (.el .addr)],[.el .bool],λ(x_:Ty63_)=>True,λ(x_:Ty63_)=>(decide (x_.1.top=x_.2.1)&&decide (x_.1.to=x_.2.2.1),())⟩
def AkH:=AmA.a GQ<|Fct.o [1,2,3,4] AmA.2 func322 (by
 rintro⟨(e:Sp_),(t:ByteArray),(a:Sb_),_⟩ hp;exact hq (.br (e.top.toList==ByteArray.toList t) (.lf GQ (e.to.host==a.host&&(e.to.path==a.path&&true),())) (.lf GQ (false,()))))
abbrev Bh:Fct:=⟨[aL .entry,.c 322 [.el .str,.el .addr]],[rI],λx=>x.1.length<=1000000000000000000/\∀ c,GQ.pre (c,x.2.1),λx=>(fidx (λc=>(GQ.fn (c,x.2.1)).1) x.1 0,())⟩
abbrev AA (l:(List Sp_)) (u:(ByteArray×Sb_×Unit)):LInv:=⟨[⟨.s,8,true,.el .int⟩],λ_ (x_:Ty3_)=>0<=x_.1/\x_.1<=l.length/\fidx (λc=>(GQ.fn (c,u)).1) l 0=fidx (λc=>(GQ.fn (c,u)).1) (l.drop x_.1.toNat) x_.1,λ(x_:Ty3_)=>l.length-x_.1.toNat⟩
def Amj:=AkH.a Bh<|Fct.p (KP [0,1,4,5,7,8] [9,16]) (λ⟨l,u,_⟩=>lv [(2,AA l u)]) AkH.2 func220 (by
 rintro⟨(l:List Sp_),(u:ByteArray×Sb_×PUnit),_⟩ hp;refine ho (lpx (AA l u) ((0:Int),()) λ(y1:Ty3_) bk1=>.br (decide (y1.1<(l.length:Int))) (.ob (inB y1.1 l.length)<|.cl GQ (l.getD y1.1.toNat default,u.1,u.2.1,()) λz2=>.br (z2.1) (.lf Bh (y1.1,())) (.re (l)<|.re (enc Ty.str u.1)<|.re (enc Ty.addr u.2.1)<|.re (Value.int IntKind.i64 (l.length:Int))<|.bk (bk1 (w1 y1.1,())))) (.lf Bh ((-1:Int),()))) ?_;refine Au ?_ λ(y1:Ty3_) i1=>Aa (λh2=>Ac ?_ λ_=>Af trivial λ_=>(Aa (λh4=>lfY ?_) (λh4=>An<|An<|An<|An<|A8 ?_))) (λh2=>lfY ?_)
 all_goals
  try simp only[std,Nat.reduceAdd] at *
  try have hp2:=hp.2
  try have hp1:=hp.1
 all_goals first|trivial|omega|grind[wrapId',toNat1,drop_cons,drop_end,good_len,maxLen,fidx])
def Ak4:=Amj.a Et<|Fct.o [3,4,5,6] Amj.2 func222 (by
 rintro⟨(c:Sn_),(t:ByteArray),(a:Sb_),_⟩ hp;exact hq (.cl Bh (c.bg,(t,a,()),()) λ(z2:Ty3_)=>.lf Et (z2.1,())))
def freshEntry (t:ByteArray) (a:Sb_) (now:Int) (e:Sp_):Bool:=decide (e.top=t)&&(decide (e.to=a)&&decide (now<=e.until_))
def lookUp (c:Sn_) (t:ByteArray) (a:Sb_) (now:Int):Option Sc_:=(c.bg.find? (freshEntry t a now)).map (·.bd)
abbrev Ic:Fct:=⟨[.v (.el .cache),.v (.el .str),.v (.el .addr),.v (.el .int)],[.el .bd,.el .bool],λ(x_:Ty64_)=>x_.1.bg.length<=1000000000000,λ(x_:Ty64_)=>((lookUp x_.1 x_.2.1 x_.2.2.1 x_.2.2.2.1).getD notFound,(lookUp x_.1 x_.2.1 x_.2.2.1 x_.2.2.2.1).isSome,())⟩
def N9 {α:Type} [Inhabited α] (p:α->Bool):∀ (l:List α) (i:Int),0<=i->l.find? p=if 0<=fidx p l i then some (l.getD (fidx p l i-i).toNat default) else none:=by
 intro l
 induction l with
 | nil=>intro i _;simp[fidx]
 | cons x l ih=>
  intro i hi;simp only[List.find?_cons,fidx];by_cases hx:p x=true
  ·simp[hx,hi]
  ·
   have hx:p x=false:=by simpa using hx
   have h1:=DN p l (i+1) o_;have h2:=ih (i+1) o_;simp only[hx,Qd6,Qe6,h2];split
   ·rename_i h3;have h4:i+1<=fidx p l (i+1):=by
     have:∀ (l:List α) (i:Int),0<=i->0<=fidx p l i->i<=fidx p l i:=by
      intro l
      induction l with
      | nil=>intro i _ h;simp[fidx] at h
      | cons y l ih=>
       intro i hi h;simp only[fidx] at h ⊢;split
       ·omega
       ·grind
     grind
    have h5:(fidx p l (i+1)-i).toNat=(fidx p l (i+1)-(i+1)).toNat+1:=o_
    rw[h5];rfl
   ·rfl
abbrev FM (c:Sn_) (t:ByteArray) (a:Sb_) (now:Int):LInv:=⟨[⟨.s,10,true,.el .int⟩,⟨.b,4,false,.el .cache⟩,⟨.b,6,true,.el .addr⟩,⟨.b,8,true,.el .bd⟩],λ(z_ x_:Ty65_)=>(((0<=x_.1/\x_.1<=c.bg.length/\(c.bg.drop x_.1.toNat).find? (freshEntry t a now)=c.bg.find? (freshEntry t a now))/\x_.2.1=z_.2.1)/\x_.2.2.1=z_.2.2.1)/\x_.2.2.2.1=z_.2.2.2.1,λ(x_:Ty65_)=>c.bg.length-x_.1.toNat⟩
def AkT:=Ak4.a Ic<|Fct.p (KP [1,3,4,6,8,9,10] [15,45]) (λ⟨c,t,a,now,_⟩=>lv [(2,FM c t a now)]) Ak4.2 func157 (by
 rintro⟨(c:Sn_),(t:ByteArray),(a:Sb_),(now:Int),_⟩ hp;exact hg (let q3_:=FM c t a now;.lq (Int×Sn_×Sb_×Sc_×PUnit) q3_.inv q3_.m ((0:Int),(c,(a,(default,())))) λy1 bk1=>let q2_:=inB y1.1 y1.2.1.bg.length;let q1_:=y1.2.1.bg.getD y1.1.toNat default;let q0_:Out:=.re (Value.string t)<|.re (Value.int IntKind.i64 now)<|.bk (bk1 (w1 y1.1,(y1.2.1,(y1.2.2.1,(y1.2.2.2.1,())))));.br (decide (y1.1<(y1.2.1.bg.length:Int))) (.ob q2_<|.br (q1_.top.toList==t.toList) (.ob q2_<|.br (q1_.to.host==y1.2.2.1.host&&(q1_.to.path==y1.2.2.1.path&&true)) (.ob q2_<|.br (decide (q1_.until_>=now)) (.ob q2_<|.lf Ic (q1_.bd,true,())) q0_) q0_) q0_) (.cl DG () λz2=>.lf Ic (z2.1,false,()))) (an_ @lookUp.eq_1<|@freshEntry.eq_1))
abbrev He:Fct:=⟨[.v (.el .entry),.p (.el .str),.p (.el .addr),.p (.el .int)],[.el .bool],λ(x_:Ty66_)=>True,λ(x_:Ty66_)=>(freshEntry x_.2.1 x_.2.2.1 x_.2.2.2.1 x_.1,())⟩
def Al3:=AkT.a He<|Fct.o [1,2,3,4,5] AkT.2 func221 (by
 rintro⟨(e:Sp_),(t:ByteArray),(a:Sb_),(now:Int),_⟩ hp;exact hg (.br (e.top.toList==ByteArray.toList t) (.br (e.to.host==a.host&&(e.to.path==a.path&&true)) (.lf He (decide (e.until_>=now),())) (.lf He (false,()))) (.lf He (false,()))) (@freshEntry.eq_1))
abbrev Bo:Fct:=⟨[aL .entry,.c 221 [.el .str,.el .addr,.el .int]],[rI],λx=>x.1.length<=1000000000000000000/\∀ c,He.pre (c,x.2.1),λx=>(fidx (λc=>(He.fn (c,x.2.1)).1) x.1 0,())⟩
abbrev AD (l:(List Sp_)) (u:(ByteArray×Sb_×Int×Unit)):LInv:=⟨[⟨.s,8,true,.el .int⟩],λ_ (x_:Ty3_)=>0<=x_.1/\x_.1<=l.length/\fidx (λc=>(He.fn (c,u)).1) l 0=fidx (λc=>(He.fn (c,u)).1) (l.drop x_.1.toNat) x_.1,λ(x_:Ty3_)=>l.length-x_.1.toNat⟩
def AmE:=Al3.a Bo<|Fct.p (KP [0,1,4,5,7,8] [9,16]) (λ⟨l,u,_⟩=>lv [(2,AD l u)]) Al3.2 func220 (by
 rintro⟨(l:List Sp_),(u:ByteArray×Sb_×Int×PUnit),_⟩ hp;refine ho (lpx (AD l u) ((0:Int),()) λ(y1:Ty3_) bk1=>.br (decide (y1.1<(l.length:Int))) (.ob (inB y1.1 l.length)<|.cl He (l.getD y1.1.toNat default,u.1,u.2.1,u.2.2.1,()) λz2=>.br (z2.1) (.lf Bo (y1.1,())) (.re (l)<|.re (enc Ty.str u.1)<|.re (enc Ty.addr u.2.1)<|.re (enc Ty.int u.2.2.1)<|.re (Value.int IntKind.i64 (l.length:Int))<|.bk (bk1 (w1 y1.1,())))) (.lf Bo ((-1:Int),()))) ?_;refine Au ?_ λ(y1:Ty3_) i1=>Aa (λh2=>Ac ?_ λ_=>Af trivial λ_=>(Aa (λh4=>lfY ?_) (λh4=>An<|An<|An<|An<|An<|A8 ?_))) (λh2=>lfY ?_)
 all_goals
  try simp only[std,Nat.reduceAdd] at *
  try have hp2:=hp.2
  try have hp1:=hp.1
 all_goals first|trivial|omega|grind[wrapId',toNat1,drop_cons,drop_end,good_len,maxLen,fidx])
def AlE:=AmE.a Ic<|Fct.o (KP [4,5,6,7,8,9,10] [16]) AmE.2 func126 (by
 rintro⟨(c:Sn_),(t:ByteArray),(a:Sb_),(now:Int),_⟩ hp;exact hg (.cl Bo (c.bg,(t,a,now,()),()) λ(z2:Ty3_)=>.br (decide (z2.1<0)) (.cl DG () λz3=>.lf Ic (z3.1,false,())) (.ob (inB z2.1 c.bg.length)<|.lf Ic ((c.bg.getD z2.1.toNat default).bd,true,()))) (an_ @lookUp.eq_1<|an_ (DN (freshEntry t a now) c.bg 0 o_)<|(N9 (freshEntry t a now) c.bg 0 o_)))
def modM (n m:Int):Int:=if 1<=m/\m<=1000000000000 then n.emod m else 0
abbrev AcC:Fct:=⟨[.v (.el .int),.v (.el .int)],[.el .int],λ(x_:Ty1_)=>-9223372036854775808<=x_.1/\x_.1<=9223372036854775807,λ(x_:Ty1_)=>(modM x_.1 x_.2.1,())⟩
def Ql {n m:Int} (hm:0<m):(n.tmod m+m).tmod m=n.emod m:=by
 have h1:=Int.tmod_lt_of_pos n hm;have h2 : -m<n.tmod m:=by have:=Int.lt_tmod_of_pos n hm;omega
 rw[Int.tmod_eq_emod_of_nonneg o_];rw[Int.tmod_eq_emod];split
 ·simp;rfl
 ·rw[show n % m-m.natAbs+m=n % m from o_];simp;rfl
def Px {n m:Int} (hm:0<m):(if n.tmod m<0 then n.tmod m+m else n.tmod m)=n.emod m:=by
 have h0:=Int.emod_nonneg n (show m≠0 from o_);have h3:=Int.emod_lt_of_pos n hm;have e0:n.emod m=n % m:=rfl;grind
def AmU:=AlE.a AcC<|Fct.o (KP [0,1,4] [7]) AlE.2 func449 (by
 rintro⟨(n:Int),(m:Int),_⟩ hp;refine ho (.cl Aw (m,(1:Int),(1000000000000:Int),()) λz2=>.br (!z2.1) (.lf AcC ((0:Int),())) (.ob (m≠(0:Int))<|.ob (m≠(0:Int))<|.lf AcC ((wr (Int.tmod n m+m)).tmod m,()))) ?_;refine Af trivial λ_=>(Aa (λh1=>lfY ?_) (λh1=>Ac ?_ λ_=>Ac ?_ λ_=>lfY ?_))
 all_goals (by_cases hm:1<=m/\m<=1000000000000)
 all_goals
  try have e1:=Ql (n:=n) (m:=m) o_
  try have e2:=Px (n:=n) (m:=m) o_
  try have e3:=Int.tmod_lt_of_pos n (show 0<m from o_)
  try have e4:=Int.lt_tmod_of_pos n (show 0<m from o_)
  try simp only[std,Nat.reduceAdd,inRange,modM] at *
  try simp(disch:=omega) only[wrapId',toNat1] at *
  try simp(disch:=omega) only[Qa3,Qa5]
  try simp only[Qa2,Qe4,Qa8,Qb3] at *
 all_goals first|omega|skip
 all_goals
  try rw[Al o_]
  try rw[Qa3 hm]
 all_goals first|omega|exact e1|(rw[Qa3 o_] at e2;exact e2)|(rw[Qa5 o_] at e2;exact e2)|(rw[Qa5 hm]))
def AjB:=AmU.a AcC<|Fct.o (KP [0,1,4,5] [8,13]) AmU.2 func444 (by
 rintro⟨(n:Int),(m:Int),_⟩ hp;refine ho (.cl Aw (m,(1:Int),(1000000000000:Int),()) λz2=>.br (!z2.1) (.lf AcC ((0:Int),())) (.ob (m≠(0:Int))<|.br (decide (Int.tmod n m<0)) (.lf AcC (wr (Int.tmod n m+m),())) (.lf AcC (Int.tmod n m,())))) ?_;refine Af trivial λ_=>(Aa (λh1=>lfY ?_) (λh1=>Ac ?_ λ_=>Aa (λh3=>lfY ?_) (λh3=>lfY ?_)))
 all_goals (by_cases hm:1<=m/\m<=1000000000000)
 all_goals
  try have e1:=Ql (n:=n) (m:=m) o_
  try have e2:=Px (n:=n) (m:=m) o_
  try have e3:=Int.tmod_lt_of_pos n (show 0<m from o_)
  try have e4:=Int.lt_tmod_of_pos n (show 0<m from o_)
  try simp only[std,Nat.reduceAdd,inRange,modM] at *
  try simp(disch:=omega) only[wrapId',toNat1] at *
  try simp(disch:=omega) only[Qa3,Qa5]
  try simp only[Qa2,Qe4,Qa8,Qb3] at *
 all_goals first|omega|skip
 all_goals
  try rw[Al o_]
  try rw[Qa3 hm]
 all_goals first|omega|exact e1|(rw[Qa3 o_] at e2;exact e2)|(rw[Qa5 o_] at e2;exact e2)|(rw[Qa5 hm]))
def hashI:List Int->Int->Int
 | [],d=>d
 | x::l,d=>hashI l ((d*1000003+modM x 2147483647+13).tmod 2147483647)
def Vt {l:List Int} {i:Nat} {d:Int} (h:i<l.length):hashI (l.drop i) d=hashI (l.drop (i+1)) ((d*1000003+modM (l.getD i default) 2147483647+13).tmod 2147483647):=by rw[drop_cons h];rfl
def Tt {l:List Int} {i:Nat} {d:Int} (h:l.length<=i):hashI (l.drop i) d=d:=by rw[Qb2 h];rfl
def MG (x:Int):0<=modM x 2147483647/\modM x 2147483647<2147483647:=by
 have h0:=Int.emod_nonneg x (show(2147483647:Int)≠0 from o_);have h3:=Int.emod_lt_of_pos x (show(0:Int)<2147483647 from o_);have e0:modM x 2147483647=x % 2147483647:=rfl;omega
def My {x:Int} (h:0<=x):0<=x.tmod 2147483647/\x.tmod 2147483647<2147483647:=by
 grind
abbrev Yv:Fct:=⟨[.v (.sl .int)],[.el .int],λ(x_:Ty40_)=>x_.1.length<=1000000000000/\∀ i,i<x_.1.length->-9223372036854775808<=x_.1.getD i default/\x_.1.getD i default<=9223372036854775807,λ(x_:Ty40_)=>(hashI x_.1 11,())⟩
abbrev Hu (l:(List Int)):LInv:=⟨[⟨.s,3,true,.el .int⟩,⟨.s,4,true,.el .int⟩],λ_ (x_:Ty1_)=>0<=x_.2.1/\x_.2.1<=l.length/\0<=x_.1/\x_.1<2147483647/\hashI (l.drop x_.2.1.toNat) x_.1=hashI l 11,λ(x_:Ty1_)=>l.length-x_.2.1.toNat⟩
def Ajd:=AjB.a Yv<|Fct.p (KP [0,2,3,4] [8]) (λ⟨l,_⟩=>lv [(3,Hu l)]) AjB.2 func428 (by
 rintro⟨(l:List Int),_⟩ hp;refine ho (lpx (Hu l) ((11:Int),((0:Int),())) λ(y1:Ty1_) bk1=>.br (decide (y1.2.1<(l.length:Int))) (.ob (inB y1.2.1 l.length)<|.cl AcC (l.getD y1.2.1.toNat default,(2147483647:Int),()) λ(z2:Ty3_)=>.ob ((2147483647:Int)≠(0:Int))<|.ob (l=l)<|.ob (Value.int IntKind.i64 0=Value.int IntKind.i64 (0:Int))<|.ob (bk1 ((wr (wr (wr (y1.1*(1000003:Int))+z2.1)+13)).tmod (2147483647:Int),(w1 y1.2.1,())))<|.ok) (.lf Yv (y1.1,()))) ?_;refine Au ?_ λ(y1:Ty1_) i1=>Aa (λh2=>Ac ?_ λ_=>Af ?_ λ_=>(Ac ?_ λ_=>Ac rfl λ_=>Ac rfl λ_=>Ac ?_ λ_=>trivial)) (λh2=>lfY ?_)
 all_goals try simp only[std,Nat.reduceAdd] at *
 all_goals obtain⟨hp1,hp2⟩:=hp
 all_goals try (obtain⟨a1,a2,a3,a4,a5⟩:=i1)
 all_goals try (have hm:=MG (l.getD y1.2.1.toNat default);have ht:=My (x:=y1.1*1000003+modM (l.getD y1.2.1.toNat default) 2147483647+13) o_)
 all_goals try simp(disch:=omega) only[wrapId',toNat1] at *
 all_goals first|trivial|omega|exact⟨o_,o_,o_,o_,rfl⟩|exact hp2 _ o_|skip
 ·rw[Vt o_] at a5;exact⟨⟨o_,o_,ht.1,ht.2,a5⟩,o_⟩
 ·rw[Tt o_] at a5;exact a5)
abbrev HF (l:(List Int)):LInv:=⟨[⟨.s,3,true,.el .int⟩,⟨.s,8,true,.el .int⟩],λ_ (x_:Ty1_)=>0<=x_.2.1/\x_.2.1<=l.length/\0<=x_.1/\x_.1<2147483647/\hashI (l.drop x_.2.1.toNat) x_.1=hashI l 11,λ(x_:Ty1_)=>l.length-x_.2.1.toNat⟩
def AkJ:=Ajd.a Yv<|Fct.p (KP [0,2,3,5,6,7,8] [9]) (λ⟨l,_⟩=>lv [(3,HF l)]) Ajd.2 func417 (by
 rintro⟨(l:List Int),_⟩ hp;refine ho (lpx (HF l) ((11:Int),((0:Int),())) λ(y1:Ty1_) bk1=>.br (decide (y1.2.1<(l.length:Int))) (.ob (inB y1.2.1 l.length)<|.cl AcC (l.getD y1.2.1.toNat default,(2147483647:Int),()) λ(z2:Ty3_)=>.ob ((2147483647:Int)≠(0:Int))<|.ob (l=l)<|.ob (Value.int IntKind.i64 0=Value.int IntKind.i64 (0:Int))<|.ob (l=l)<|.ob (Value.int IntKind.i64 (l.length:Int)=Value.int IntKind.i64 (l.length:Int))<|.ob (bk1 ((wr (wr (wr (y1.1*(1000003:Int))+z2.1)+13)).tmod (2147483647:Int),(w1 y1.2.1,())))<|.ok) (.lf Yv (y1.1,()))) ?_;refine Au ?_ λ(y1:Ty1_) i1=>Aa (λh2=>Ac ?_ λ_=>Af ?_ λ_=>(Ac ?_ λ_=>Ac rfl λ_=>Ac rfl λ_=>Ac rfl λ_=>Ac rfl λ_=>Ac ?_ λ_=>trivial)) (λh2=>lfY ?_)
 all_goals try simp only[std,Nat.reduceAdd] at *
 all_goals obtain⟨hp1,hp2⟩:=hp
 all_goals try (obtain⟨a1,a2,a3,a4,a5⟩:=i1)
 all_goals try (have hm:=MG (l.getD y1.2.1.toNat default);have ht:=My (x:=y1.1*1000003+modM (l.getD y1.2.1.toNat default) 2147483647+13) o_)
 all_goals try simp(disch:=omega) only[wrapId',toNat1] at *
 all_goals first|trivial|omega|exact⟨o_,o_,o_,o_,rfl⟩|exact hp2 _ o_|skip
 ·rw[Vt o_] at a5;exact⟨⟨o_,o_,ht.1,ht.2,a5⟩,o_⟩
 ·rw[Tt o_] at a5;exact a5)
def bti (b l:List Int):List Int:=(b.length:Int)::l
abbrev G5:Fct:=⟨[.v (.sl .u8)],[.sl .int],λ(x_:Ty40_)=>x_.1.length<=68719476736/\∀ i,i<x_.1.length->0<=x_.1.getD i default/\x_.1.getD i default<=255,λ(x_:Ty40_)=>(bti x_.1 x_.1,())⟩
abbrev BM (b:(List Int)):LInv:=⟨[⟨.s,3,true,.sl .int⟩,⟨.s,4,true,.el .int⟩],λ_ (x_:Ty46_)=>0<=x_.2.1/\x_.2.1<=b.length/\x_.1=bti b (b.take x_.2.1.toNat),λ(x_:Ty46_)=>b.length-x_.2.1.toNat⟩
def Al9:=AkJ.a G5<|Fct.p (KP [0,2,3,4] [11]) (λ⟨b,_⟩=>lv [(3,BM b)]) AkJ.2 func429 (by
 rintro⟨(b:List Int),_⟩ hp;exact hg (.lq (List Int×Int×PUnit) (BM b).inv (BM b).m ([(b.length:Int)],((0:Int),())) λy1 bk1=>.br (decide (y1.2.1<(b.length:Int))) (.ob (inB y1.2.1 b.length)<|.ap (y1.1.length+[wr (b.getD y1.2.1.toNat default)].length) 8<|.re (b)<|.bk (bk1 (y1.1++[wr (b.getD y1.2.1.toNat default)],(w1 y1.2.1,())))) (.lf G5 (y1.1,()))) (an_ @take_succ<|an_ @take_end<|@bti.eq_1))
abbrev BO (b:(List Int)):LInv:=⟨[⟨.s,3,true,.sl .int⟩,⟨.s,11,true,.el .int⟩],λ_ (x_:Ty46_)=>0<=x_.2.1/\x_.2.1<=b.length/\x_.1=bti b (b.take x_.2.1.toNat),λ(x_:Ty46_)=>b.length-x_.2.1.toNat⟩
def AmS:=Al9.a G5<|Fct.p (KP [0,2,3,5,9,10,11] [12]) (λ⟨b,_⟩=>lv [(3,BO b)]) Al9.2 func418 (by
 rintro⟨(b:List Int),_⟩ hp;exact hg (.lq (List Int×Int×PUnit) (BO b).inv (BO b).m ([(b.length:Int)],((0:Int),())) λy1 bk1=>.br (decide (y1.2.1<(b.length:Int))) (.ob (inB y1.2.1 b.length)<|.ap (y1.1.length+[wr (b.getD y1.2.1.toNat default)].length) 8<|.re (b)<|.re (b)<|.re (Value.int IntKind.i64 (b.length:Int))<|.bk (bk1 (y1.1++[wr (b.getD y1.2.1.toNat default)],(w1 y1.2.1,())))) (.lf G5 (y1.1,()))) (an_ @take_succ<|an_ @take_end<|@bti.eq_1))
abbrev A9:Fct:=⟨[.v (.el .int)],[.el .str],λ(x_:Ty3_)=>-9223372036854775808<=x_.1/\x_.1<=9223372036854775807,λ(x_:Ty3_)=>(Kh x_.1,())⟩
abbrev DE (n:Int):LInv:=⟨[⟨.s,3,true,.el .str⟩,⟨.s,4,true,.el .int⟩],λ_ (x_:Ty67_)=>n≠0/\-9223372036854775808<=x_.2.1/\x_.2.1<=9223372036854775807/\(x_.2.1:Int).natAbs+4*x_.1.size<=n.natAbs+(if x_.2.1=0 then 4 else 0)/\AcB (x_.2.1:Int).natAbs x_.1=AcB n.natAbs ⟨#[]⟩,λ(x_:Ty67_)=>(x_.2.1:Int).natAbs⟩
def Anb:=AmS.a A9<|Fct.p (KP [0,2,3,4,5] [7,10,16,27]) (λ⟨n,_⟩=>lv [(5,DE n)]) AmS.2 func402 (by
 rintro⟨(n:Int),_⟩ hp;refine ho (let q5_:=(⟨#[45]⟩:ByteArray);let q2_:=(10:Int)≠(0:Int);let q0_:=(⟨#[]⟩:ByteArray);let q4_:=Value.string q0_=Value.string q0_;.br (n==0) (.lf A9 ((⟨#[48]⟩:ByteArray),())) (lpx (DE n) (q0_,(n,())) λ(y2:Ty67_) bk2=>let q6_:=y2.2.1.tdiv (10:Int);let q3_:=wr ((48:Int)+y2.2.1.tmod (10:Int));let q1_:=wr ((48:Int)+wr ((0:Int)-y2.2.1.tmod (10:Int)));.br (y2.2.1 != 0) (.ob q2_<|.br (decide (y2.2.1.tmod (10:Int)<(0:Int))) (.ob (True)<|.ob (sameSize (List.foldl (λr n=>r.push (UInt8.ofNat n.toNat)) ByteArray.empty [IntKind.u8.wrap q1_]) y2.1)<|.ob q2_<|.ob (Value.int IntKind.i64 n=Value.int IntKind.i64 n)<|.ob q4_<|.ob (bk2 (List.foldl (λr n=>r.push (UInt8.ofNat n.toNat)) ByteArray.empty [IntKind.u8.wrap q1_]++y2.1,(wr q6_,())))<|.ok) (.ob (True)<|.ob (sameSize (List.foldl (λr n=>r.push (UInt8.ofNat n.toNat)) ByteArray.empty [IntKind.u8.wrap q3_]) y2.1)<|.ob q2_<|.ob (Value.int IntKind.i64 n=Value.int IntKind.i64 n)<|.ob q4_<|.ob (bk2 (List.foldl (λr n=>r.push (UInt8.ofNat n.toNat)) ByteArray.empty [IntKind.u8.wrap q3_]++y2.1,(wr q6_,())))<|.ok)) (.br (decide (n<0)) (.ob (sameSize q5_ y2.1)<|.lf A9 (q5_++y2.1,())) (.lf A9 (y2.1,()))))) ?_;refine Aa (λh1=>lfY ?_) (λh1=>Au ?_ λ(y2:Ty67_) i2=>Aa (λh3=>Ac ?_ λ_=>Aa (λh5=>Ac trivial λ_=>Ac ?_ λ_=>Ac ?_ λ_=>Ac rfl λ_=>Ac rfl λ_=>Ac ?_ λ_=>trivial) (λh5=>Ac trivial λ_=>Ac ?_ λ_=>Ac ?_ λ_=>Ac rfl λ_=>Ac rfl λ_=>Ac ?_ λ_=>trivial)) (λh3=>Aa (λh12=>Ac ?_ λ_=>lfY ?_) (λh12=>lfY ?_)));all_goals try (have hk:=Nat.mod_lt y2.2.1.natAbs (show 0<10 from o_);have ht:=AdE y2.2.1)
 all_goals try (have hv:=Acw y2.2.1)
 all_goals try simp only[std,Nat.reduceAdd] at *
 all_goals first|trivial|omega|skip
 all_goals try (obtain⟨a1,a2,a3,a4,a5⟩:=i2)
 all_goals first|trivial|omega|skip
 all_goals
  try simp only[h5,Qe8,Qe6] at ht
  try rw[Qa5 o_] at ht
 all_goals try (rw[Al (n:=0-_) o_,show(0:Int)-y2.2.1.tmod 10=((y2.2.1.natAbs % 10:Nat):Int) from o_,AjJ hk,Aa6 hk] at *)
 all_goals try (rw[ht,AjJ hk,Aa6 hk] at *)
 all_goals try rw[Qa5 h3] at a4
 all_goals try (have e1:IntKind.i64.wrap (y2.2.1.tdiv 10)=y2.2.1.tdiv 10:=Al o_;rw[e1])
 ·rw[h1,Abv]
 ·unfold sameSize;rw[show ByteArray.size ⟨#[UInt8.ofNat (48+y2.2.1.natAbs % 10)]⟩=1 from rfl];omega
 ·rw[TI o_] at a5;rw[hv,Qa6,show ByteArray.size ⟨#[UInt8.ofNat (48+y2.2.1.natAbs % 10)]⟩=1 from rfl];exact⟨⟨h1,o_,o_,by split<;>omega,a5⟩,o_⟩
 ·unfold sameSize;rw[show ByteArray.size ⟨#[UInt8.ofNat (48+y2.2.1.natAbs % 10)]⟩=1 from rfl];omega
 ·rw[TI o_] at a5;have hv':((y2.2.1.natAbs:Nat):Int)=y2.2.1.natAbs:=rfl;rw[hv,Qa6,show ByteArray.size ⟨#[UInt8.ofNat (48+y2.2.1.natAbs % 10)]⟩=1 from rfl];exact⟨⟨h1,o_,o_,by split<;>omega,a5⟩,o_⟩
 ·unfold sameSize;rw[show ByteArray.size ⟨#[45]⟩=1 from rfl];rw[Qa3 h3] at a4;omega
 ·rw[h3] at a5;rw[AdV h12,<-a5];rfl
 ·rw[h3] at a5;rw[AdK o_,<-a5];rfl)
def VD:Go.Proofs.LaysM.n171 Tryz.prog laysCmp_r:=by repeat' first|kernel_rfl|constructor|intro _
def Am5:=Anb.a AfB<|Agw k_ (Go.Proofs.Any.strconv_Itoa VD)
def Anq:=Am5.a A9<|Fct.o [0,2] Am5.2 func384 (by
 rintro⟨(n:Int),_⟩ hp;exact hq (.cl AfB (n,()) λz2=>.lf A9 (z2.1,())))
def R5 (x:Int):0<=bits .and .i64 x 255/\bits .and .i64 x 255<=255:=by
 have h:(BitVec.ofInt 64 x &&& BitVec.ofInt 64 255).toNat<=255:=by rw[BitVec.toNat_and];exact Nat.and_le_right
 have e:bits .and .i64 x 255=((BitVec.ofInt 64 x &&& BitVec.ofInt 64 255).toNat:Int):=by show IntKind.i64.wrap ((BitVec.ofInt 64 x &&& BitVec.ofInt 64 255).toNat:Int)=_;exact wrapId' o_ o_
 rw[e];omega
open Go.RowKit in
set_option maxHeartbeats 2000000 in
def AbH (g n cap:Nat) (i:Nat) (h:Int) (ad:Option Addr) (w:World) (hi1:i<=9223372036854775807) (hn:n<=1000000000000000000)
 (hx0:w.cell? ⟨g,0,none⟩=some (.slice ad n cap)) (hx1:w.cell? ⟨g,1,none⟩=some (.int .i64 i)) (hx2:w.cell? ⟨g,2,none⟩=some (.int .i64 h))
 (f1:w.frozen? ⟨g,1,none⟩=false) (f2:w.frozen? ⟨g,2,none⟩=false)
 (hb:i<n->∃ gb ob z,ad=some ⟨gb,ob,none⟩/\gb≠g/\w.cell? ⟨gb,ob+i,none⟩=some (.int .u8 z)) :
 Calls Tryz.prog 200 #[.pointer (some ⟨g,0,none⟩)] w λe w'=>∃ (x:Int) (i':Nat) (h':Int) (q:Nat),e=.returned (.int .i64 x)/\0<=x/\x<=255/\i'<=9223372036854775807/\((∃ k,h'=wrap64 k) /\
  (w'=((w.setCell ⟨g,2,none⟩ (.int .i64 h')).drewN q).setCell ⟨g,1,none⟩ (.int .i64 i')\/(i'=i/\∃ q',w'=((w.setCell ⟨g,2,none⟩ (.int .i64 h')).drewN q').drewN q))):=by
 go_enter func200,Tryz.ntmps200
 go_wp2
 go_quiet (fail)
 go_wp2
 go_quiet (fail)
 go_wp2
 ·have hlt:i<n:=o_
  obtain⟨gb,ob,z,rfl,hne,hz⟩:=hb hlt;clear hb;have hz':(w.setCell ⟨g,2,none⟩ (Value.int IntKind.i64 (IntKind.i64.wrap (IntKind.i64.wrap (h*6364136223846793005)+1442695040888963407)))).cell? ⟨gb,ob+i,none⟩=some (.int .u8 z):=by rw[World.cell?_setCell_other];exact hz;simp
  go_quiet (fail)
  go_wp2
  go_ret
  exact⟨_,i+1,_,_,rfl,(R5 _).1,(R5 _).2,o_,⟨_,rfl⟩,.inl rfl⟩
 ·go_ret
  exact⟨_,i,_,_,rfl,(R5 _).1,(R5 _).2,o_,⟨_,rfl⟩,.inr ⟨rfl,_,rfl⟩⟩
open Go.RowKit in
def Ab9 (k:Int) : -9223372036854775808<=wrap64 k/\wrap64 k<=9223372036854775807:=by
 unfold wrap64;omega
def Wx {w:World} {g j:Nat} {r:Array Value} {e:TypeId} {v:Value} (h:w.heap[g]? = some (.cells r e (0,0))):(w.setCell ⟨g,j,none⟩ v).heap[g]? = some (.cells (r.setIfInBounds j v) e (0,0))/\(∀ b,b≠g->(w.setCell ⟨g,j,none⟩ v).heap[b]? = w.heap[b]?)/\(w.setCell ⟨g,j,none⟩ v).heap.size=w.heap.size:=by
 refine⟨?_,λb hb=>?_,?_⟩
 ·simp[World.setCell,Array.getElem?_modify,h]
 ·simp[World.setCell,Array.getElem?_modify,Ne.symm hb]
 ·simp[World.setCell]
abbrev X9:Xct:=⟨[.u],[.el .int],λ(x_:Ty68_)=>True,λ(x_:Ty68_) (y_:Ty3_)=>0<=y_.1/\y_.1<=255⟩
open Go.RowKit in
def Af9:X9.ok Tryz.prog 200:=by
 rintro⟨u,⟨⟩⟩ _;intro w vs G hB hA;obtain⟨v0,hv0,g,rfl,hg⟩:=hA.tm 0 .cur rfl;have hvs:vs = #[.pointer (some ⟨g,0,none⟩)]:=by
  apply Array.ext
  ·rw[hA.sz];rfl
  ·intro i h1 h2
   match i,h1,h2 with
   | 0,h1,h2=>rw[Array.getElem?_eq_getElem h1] at hv0;injection hv0
   | i+1,h1,h2=>exact absurd (show i+1<1 from h2) o_
 subst hvs;obtain⟨xs,b,i,h,ty,hh,hb,hl,hi0,hi1,hh0,hh1⟩:=hA.cr g hg;obtain⟨a,cap,rfl,hcap,hrow⟩:=hb;obtain⟨i,rfl⟩:∃ k:Nat,i=k:=⟨i.toNat,o_⟩;have c0:∀ j,w.cell? ⟨g,j,none⟩=(#[Value.slice a xs.length cap,.int .i64 (i:Int),.int .i64 h]:Array Value)[j]?:=λj=>by simp[World.cell?,hh]
 have fz:∀ j,w.frozen? ⟨g,j,none⟩=false:=λj=>by simp[World.frozen?,hh]
 refine(AbH g xs.length cap i h a w o_ hl (c0 0) (c0 1) (c0 2) (fz 1) (fz 2) λhlt=>?_).mono ?_
 ·rcases hrow with h0|⟨gb,ob,row,e,fr,rfl,hs,hbk,hc⟩
  ·omega
  ·obtain⟨u,hu,hr⟩:=hc i hlt 0 (by decide);have e0:cell .u8 xs i 0=(enc .u8 xs[i]).getD 0 .nl:=H7 (t:=.u8) (xs:=xs) (by simp[hlt]) 0;have hr:TR w (src G none) (fcC (cell .u8 xs i 0)) u:=hr;rw[e0] at hr;obtain⟨rfl,_⟩:=hr;refine⟨gb,ob,xs[i],rfl,λe=>?_,?_⟩
   ·subst e;rw[show G.ow gb=.free from hs] at hg;cases hg
   ·have:ob+i*Ty.u8.width+0=ob+i:=by show ob+i*1+0=ob+i;omega
    rw[this] at hu;simp[World.cell?,hbk,hu]
 ·rintro e w' ⟨x,i',h',q,rfl,hx0,hx1,hi',⟨k,rfl⟩,hw⟩;have hk:=Ab9 k;obtain⟨s1,s2,s3⟩:=Wx (j:=2) (v:=.int .i64 (wrap64 k)) hh;have fin:Onward w w'/\(∀ b,b≠g->w'.heap[b]? = w.heap[b]?)/\CurStep w w' g:=by
   rcases hw with rfl|⟨rfl,q',rfl⟩
   ·obtain⟨t1,t2,t3⟩:=Wx (w:=(w.setCell ⟨g,2,none⟩ (.int .i64 (wrap64 k))).drewN q) (j:=1) (v:=.int .i64 (i':Int)) s1;refine⟨⟨rfl,rfl,⟨rfl,DrLe.add _ _⟩,?_⟩,λb hb=>(t2 b hb).trans (s2 b hb),?_⟩
    ·rw[t3];exact Nat.le_of_eq s3.symm
    ·exact⟨_,_,_,i',_,_,hh,t1,o_,o_,hk.1,hk.2⟩
   ·refine⟨⟨rfl,rfl,⟨rfl,DrLe.trans (DrLe.add _ _) (DrLe.add _ _)⟩,Nat.le_of_eq s3.symm⟩,λb hb=>s2 b hb,?_⟩;exact⟨_,_,_,i',_,_,hh,s1,o_,o_,hk.1,hk.2⟩
  obtain⟨f1,f2,f3⟩:=fin;refine⟨_,_,⟨(x,()),⟨hx0,hx1⟩,rfl⟩,rfl,f1,λb hb=>f2 b λe=>?_,λb hb=>?_,λ_ _=>False,by simp,by simp,?_,?_,?_⟩
  ·subst e;rw[hg] at hb;cases hb
  ·by_cases e:b=g
   ·subst e;exact f3
   ·exact(hA.cr b hb).same (f2 b e)
  ·exact⟨_,rfl,⟨rfl,rfl⟩,rfl⟩
  ·intro m T hm;cases hm
  ·intro b cs hb;cases hb
def ZH (x:Int):0<=bits .and .i64 x 1073741823/\bits .and .i64 x 1073741823<=1073741823:=by
 have h:(BitVec.ofInt 64 x &&& BitVec.ofInt 64 1073741823).toNat<=1073741823:=by rw[BitVec.toNat_and];exact Nat.and_le_right
 have e:bits .and .i64 x 1073741823=((BitVec.ofInt 64 x &&& BitVec.ofInt 64 1073741823).toNat:Int):=by show IntKind.i64.wrap ((BitVec.ofInt 64 x &&& BitVec.ofInt 64 1073741823).toNat:Int)=_;exact wrapId' o_ o_
 rw[e];omega
open Go.RowKit in
set_option maxRecDepth 100000 in
set_option maxHeartbeats 2000000 in
def Adm (n cap:Nat) (ad:Option Addr) (w:World) (hn:n<=1000000000000000000) (hb:∀ i,i<n->∃ gb ob z,ad=some ⟨gb,ob,none⟩/\w.cell? ⟨gb,ob+i,none⟩=some (.int .u8 z)) :
 Calls Tryz.prog 34 #[.slice ad n cap] w λe w'=>∃ (h:Int) (q:Nat),e=.returned (.pointer (some ⟨w.heap.size,0,none⟩))/\-9223372036854775808<=h/\h<=9223372036854775807/\w'=(w.drewN q).alloc (.cells #[.slice ad n cap,.int .i64 0,.int .i64 h] 133):=by
 go_enter func34,Tryz.ntmps34
 go_wp2
 go_loop [3,4] (λh i=>∃ (k:Nat) (x:Int),k<=4000/\i=.int .i64 k/\h=.int .i64 x/\-9223372036854775808<=x/\x<=9223372036854775807) (λ_ i=>4001-(intOf i).toNat)
 case atStart=>exact⟨0,_,o_,rfl,rfl,o_,o_⟩
 case round=>
  obtain⟨k,x,hk,rfl,rfl,hx0,hx1⟩:=hrel;by_cases h1:k<n
  ·by_cases h2:k<4000
   ·obtain⟨gb,ob,z,rfl,hz⟩:=hb k h1;clear hb
    go_wp2
    go_round
    case rel=>exact⟨k+1,_,o_,by go_num,rfl,Int.le_trans o_ (ZH _).1,Int.le_trans (ZH _).2 o_⟩
    case measure=>simp only[intOf];omega
   ·go_wp2
    go_ret
    exact⟨rfl,x,hx0,hx1,0,rfl⟩
  ·go_wp2
   go_ret
   exact⟨rfl,x,hx0,hx1,0,rfl⟩
open Go.RowKit in
def AgS:UU Tryz.prog 34:=by
 intro w v S xs hv _ hl;obtain⟨a,cap,rfl,hcap,hrow⟩:=hv;refine(Adm xs.length cap a w hl λi hlt=>?_).mono ?_
 ·rcases hrow with h0|⟨gb,ob,row,e,fr,rfl,hs,hbk,hc⟩
  ·omega
  ·obtain⟨u,hu,hr⟩:=hc i hlt 0 (by decide);have e0:cell .u8 xs i 0=(enc .u8 xs[i]).getD 0 .nl:=H7 (t:=.u8) (xs:=xs) (by simp[hlt]) 0;have hr:TR w S (fcC (cell .u8 xs i 0)) u:=hr;rw[e0] at hr;obtain⟨rfl,_⟩:=hr;refine⟨gb,ob,xs[i],rfl,?_⟩;have:ob+i*Ty.u8.width+0=ob+i:=by show ob+i*1+0=ob+i;omega
   rw[this] at hu;simp[World.cell?,hbk,hu]
 ·rintro e w' ⟨h,q,rfl,h0,h1,rfl⟩;refine⟨w.heap.size,h,133,rfl,⟨rfl,rfl,⟨rfl,DrLe.add _ _⟩,?_⟩,λb hb=>?_,Qa9 _,?_,h0,h1⟩
  ·simp[World.alloc,World.drewN]
  ·simp[World.alloc,World.drewN,Array.getElem?_push,Nat.ne_of_lt hb]
  ·simp[World.alloc,World.drewN]
theorem k34_148:UU Tryz.prog 34 :=
 AgS
def Anf:=Anq.N k34_148
def Als:=Anf.X X9<|Af9
def AgQ {a n:Int} (h1:0<=a) (h3:0<n):0<=a.tmod n/\(a.tmod n<n\/a.tmod n=0):=⟨Int.tmod_nonneg n h1,.inl (Int.tmod_lt_of_pos a h3)⟩
def Ah4 {a b c:Int} (ha:0<=a/\a<=255) (hb:0<=b/\b<=255) (hc:0<=c/\c<=255):IntKind.i64.wrap (IntKind.i64.wrap (IntKind.i64.wrap (a*65536)+IntKind.i64.wrap (b*256))+c)=a*65536+b*256+c:=by
 rw[wrapId' (n:=a*65536) o_ o_,wrapId' (n:=b*256) o_ o_,wrapId' (n:=a*65536+b*256) o_ o_,wrapId' o_ o_]
abbrev Cv:Xct:=⟨[.u,.v (.el .int)],[.el .int],λ(x_:Ty69_)=>True,λ(x_:Ty69_) (y_:Ty3_)=>0<=y_.1/\(y_.1<x_.2.1\/y_.1=0)⟩
def AmJ:=Als.X Cv<|Xct.o (KP [0,1,4,5,6,7] [9,11]) Als.2 func110 (by
 rintro⟨(c:PUnit),(n:Int),_⟩ hp;refine ho (.br (decide (n<=0)) (.lx Cv ((0:Int),())) (.br (decide (n<=256)) (.dr X9 ((),()) λ(y3:Ty3_)=>.ob (n≠(0:Int))<|.lx Cv (y3.1.tmod n,())) (.dr X9 ((),()) λ(y5:Ty3_)=>.dr X9 ((),()) λ(y6:Ty3_)=>.dr X9 ((),()) λ(y7:Ty3_)=>.ob (n≠(0:Int))<|.lx Cv ((wr (wr (wr (y5.1*(65536:Int))+wr (y6.1*(256:Int)))+y7.1)).tmod n,())))) ?_;refine Aa (λh1=>lxY ?_) (λh1=>Aa (λh2=>CV trivial λ(y3:Ty3_) i3=>Ac ?_ λ_=>lxY ?_) (λh2=>CV trivial λ(y5:Ty3_) i5=>CV trivial λ(y6:Ty3_) i6=>CV trivial λ(y7:Ty3_) i7=>Ac ?_ λ_=>lxY ?_));all_goals try simp only[std,Nat.reduceAdd] at *
 ·simp
 ·omega
 ·exact AgQ o_ o_
 ·omega
 ·rw[Ah4 i5 i6 i7];exact AgQ o_ o_)
abbrev JD:Xct:=⟨[.u,.v (.el .int)],[.el .bool],λ(x_:Ty69_)=>True,λ(x_:Ty69_) (y_:Ty70_)=>True⟩
def Amz:=AmJ.X JD<|Xct.o [0,1,4] AmJ.2 func89 (by
 rintro⟨(c:PUnit),(n:Int),_⟩ hp;refine ho (.dr Cv ((),n,()) λ(y1:Ty3_)=>.lx JD (y1.1==0,())) ?_;refine CV trivial λ(y1:Ty3_) i1=>lxY ?_
 all_goals try simp only[std,Nat.reduceAdd] at *)
def AN {α:Type} [Inhabited α] {l:List α} {i:Nat} (h:i<l.length):l.getD i default∈l:=by
 simp_all
abbrev Pm:Xct:=⟨[.u,.v (.sl .int)],[.el .int],λ(x_:Unit×(List Int)×Unit)=>0<x_.2.1.length/\x_.2.1.length<=256,λ(x_:Unit×(List Int)×Unit) (y_:Ty3_)=>y_.1∈x_.2.1⟩
def Akl:=Amz.X Pm<|Xct.o [0,1,4] Amz.2 func36 (by
 rintro⟨(c:PUnit),(l:List Int),_⟩ hp;refine ho (.dr Cv ((),(↑(List.length l):Int),()) λ(y1:Ty3_)=>.ob (0<=y1.1/\y1.1<(↑(List.length l):Int))<|.lx Pm (List.getD l y1.1.toNat default,())) ?_;refine CV trivial λ(y1:Ty3_) i1=>Ac ?_ λ_=>lxY ?_
 all_goals try simp only[std,Nat.reduceAdd] at *
 all_goals first|trivial|omega|skip
 all_goals (refine AN ?_;omega))
abbrev If:Xct:=⟨[.u,.v (.sl .str)],[.el .str],λ(x_:Ty71_)=>0<x_.2.1.length/\x_.2.1.length<=256/\x_.2.1.all (λs=>decide (s.size<=30))=true,λ(x_:Ty71_) (y_:Ty48_)=>y_.1.size<=30/\(x_.2.1.all (λs=>decide (s.size<=9))=true->y_.1.size<=9)⟩
def Ak0:=Akl.X If<|Xct.o [0,1,4] Akl.2 func182 (by
 rintro⟨(c:PUnit),(l:List ByteArray),_⟩ hp;refine ho (.dr Cv ((),(↑(List.length l):Int),()) λ(y1:Ty3_)=>.ob (0<=y1.1/\y1.1<(↑(List.length l):Int))<|.lx If (List.getD l y1.1.toNat default,())) ?_;refine CV trivial λ(y1:Ty3_) i1=>Ac ?_ λ_=>lxY ?_
 all_goals try simp only[std,Nat.reduceAdd] at *
 all_goals first|trivial|omega|skip
 have hm:=AN (i:=y1.fst.toNat) (l:=l) o_;exact⟨by simpa using Qc0.1 hp.2.2 _ hm,λq=>by simpa using Qc0.1 q _ hm⟩)
abbrev AiH:Fct:=⟨[.v (.sl .u8)],[.el .bool],λ(x_:Ty40_)=>True,λ(x_:Ty40_)=>(decide (1048576<x_.1.length),())⟩
def AkF:=Ak0.a AiH<|Fct.o [0,2] Ak0.2 func5 (by
 rintro⟨(l:List Int),_⟩ hp;exact hg (.lf AiH (decide ((↑(List.length l):Int)>1048576),())) (an_ @sameSize.eq_1<|@Qa6))
abbrev UN:Xct:=⟨[.u],[.el .str],λ(x_:Ty68_)=>True,λ(x_:Ty68_) (y_:Ty48_)=>y_.1.size<=30⟩
def AiM:=AkF.X UN<|Xct.o [0,2] AkF.2 func295 (by
 rintro⟨(c:PUnit),_⟩ hp;refine ho (.dr If ((),[(⟨#[104,111,109,101]⟩:ByteArray),(⟨#[99,100,110]⟩:ByteArray),(⟨#[101,118,105,108]⟩:ByteArray),(⟨#[104,111,109,101]⟩:ByteArray)],()) λ(y2:Ty48_)=>.lx UN (y2.1,())) ?_;refine F6 ?_ λo1 (y2:Ty48_) i2=>lxY ?_
 all_goals first|trivial|(refine⟨?_,?_,?_⟩<;>decide)|skip
 all_goals
  try simp only[std,Nat.reduceAdd,sameSize,Qa6] at *
  try simp(disch:=omega) only[wrapId',toNat1] at *
  try simp(disch:=omega) only[Qa3,Qa5]
 all_goals first|trivial|omega|grind[wrapId',toNat1,drop_cons,drop_end,good_len,maxLen,sameSize,ByteArray.size_append])
def AmK:=AiM.X UN<|Xct.o [0,2] AiM.2 func296 (by
 rintro⟨(c:PUnit),_⟩ hp;refine ho (.dr If ((),[(⟨#[105,110,100,101,120]⟩:ByteArray),(⟨#[97,112,112]⟩:ByteArray),(⟨#[115,116,121,108,101]⟩:ByteArray),(⟨#[108,105,98]⟩:ByteArray),(⟨#[108,111,103,111]⟩:ByteArray),(⟨#[110,101,120,116]⟩:ByteArray),(⟨#[117,116,105,108]⟩:ByteArray)],()) λ(y2:Ty48_)=>.lx UN (y2.1,())) ?_;refine F6 ?_ λo1 (y2:Ty48_) i2=>lxY ?_
 all_goals first|trivial|(refine⟨?_,?_,?_⟩<;>decide)|skip
 all_goals
  try simp only[std,Nat.reduceAdd,sameSize,Qa6] at *
  try simp(disch:=omega) only[wrapId',toNat1] at *
  try simp(disch:=omega) only[Qa3,Qa5]
 all_goals first|trivial|omega|grind[wrapId',toNat1,drop_cons,drop_end,good_len,maxLen,sameSize,ByteArray.size_append])
abbrev Ug:Xct:=⟨[.u],[.el .addr],λ(x_:Ty68_)=>True,λ(x_:Ty68_) (y_:Ty4_)=>y_.1.host.size<=30/\y_.1.path.size<=30⟩
def AkN:=AmK.X Ug<|Xct.o [0,2,3] AmK.2 func190 (by
 rintro⟨(c:PUnit),_⟩ hp;refine ho (.dr UN ((),()) λ(y1:Ty48_)=>.dr UN ((),()) λ(y2:Ty48_)=>.lx Ug (⟨y1.1,y2.1⟩,())) ?_;refine CV trivial λ(y1:Ty48_) i1=>CV trivial λ(y2:Ty48_) i2=>lxY ?_
 all_goals
  try simp only[std,Nat.reduceAdd,sameSize,Qa6] at *
  try simp(disch:=omega) only[wrapId',toNat1] at *
  try simp(disch:=omega) only[Qa3,Qa5]
 all_goals first|trivial|omega|grind[wrapId',toNat1,drop_cons,drop_end,good_len,maxLen,sameSize,ByteArray.size_append])
abbrev V1:Xct:=⟨[.u,.v (.el .int)],[.el .str],λ(x_:Ty69_)=>0<=x_.2.1/\x_.2.1<=100,λ(x_:Ty69_) (y_:Ty48_)=>y_.1.size<=31*x_.2.1+31⟩
abbrev Gb (c:Unit) (most:Int):LInv:=⟨[⟨.s,5,true,.el .str⟩,⟨.s,6,true,.el .int⟩],λ_ (x_:Ty67_)=>0<=x_.2.1/\x_.2.1<=most+1/\x_.1.size+31*x_.2.1<=31*most+31,λ(x_:Ty67_)=>x_.2.1.toNat⟩
def Alw:=AkN.X V1<|Xct.p (KP [0,1,4,5,6] [12,16]) (λ⟨c,most,_⟩=>lv [(3,Gb c most)]) AkN.2 func183 (by
 rintro⟨(c:PUnit),(most:Int),_⟩ hp;refine ho (let q13_:=Value.int IntKind.i64 most;let q12_:=(⟨#[97,100,100,32,98]⟩:ByteArray);let q11_:=(⟨#[97,100,100,32,112]⟩:ByteArray);let q10_:=(⟨#[59]⟩:ByteArray);let q9_:=(⟨#[108,111,111,107,32,98]⟩:ByteArray);let q8_:=(⟨#[115,97,121,32,104,105]⟩:ByteArray);let q7_:=(⟨#[108,111,111,107,32,112]⟩:ByteArray);let q6_:=(⟨#[99,111,117,110,116,32,112]⟩:ByteArray);let q5_:=(⟨#[119,114,105,116,101,32,91,98,93]⟩:ByteArray);let q4_:=(⟨#[]⟩:ByteArray);let q3_:=(⟨#[99,111,117,110,116,32,115,99,114,105,112,116]⟩:ByteArray);let q2_:=(⟨#[119,114,105,116,101,32,91,112,93,120,91,47,112,93]⟩:ByteArray);let q1_:=(⟨#[119,114,105,116,101,32,91,105,109,103,32,115,114,99,61,108,111,103,111,93]⟩:ByteArray);let q0_:=(⟨#[119,114,105,116,101,32,91,108,105,110,107,32,104,114,101,102,61,115,116,121,108,101,93]⟩:ByteArray);.dr Cv ((),most,()) λ(y1:Ty3_)=>lpx (Gb c most) (q4_,(wr ((1:Int)+y1.1),())) λ(y2:Ty67_) bk2=>.br (decide (y2.2.1>0)) (.br (!y2.1.toList==q4_.toList) (.ob (sameSize y2.1 q10_)<|.dr If ((),[q8_,q6_,q3_,q7_,q9_,q12_,q11_,q2_,q1_,q0_,q5_],()) λ(y7:Ty48_)=>.ob (sameSize (y2.1++q10_) y7.1)<|.re q13_<|.re (Value.string q4_)<|.bk (bk2 (y2.1++q10_++y7.1,(wr (y2.2.1-(1:Int)),())))) (.dr If ((),[q8_,q6_,q3_,q7_,q9_,q12_,q11_,q2_,q1_,q0_,q5_],()) λ(y11:Ty48_)=>.ob (sameSize y2.1 y11.1)<|.re q13_<|.re (Value.string q4_)<|.bk (bk2 (y2.1++y11.1,(wr (y2.2.1-(1:Int)),()))))) (.lx V1 (y2.1,()))) ?_;refine CV trivial λ(y1:Ty3_) i1=>Au ?_ λ(y2:Ty67_) i2=>Aa (λh3=>Aa (λh4=>Ac ?_ λ_=>F6 ?_ λo6 (y7:Ty48_) i7=>Ac ?_ λ_=>An<|An<|A8 ?_) (λh4=>F6 ?_ λo10 (y11:Ty48_) i11=>Ac ?_ λ_=>An<|An<|A8 ?_)) (λh3=>lxY ?_)
 all_goals first|trivial|(refine⟨?_,?_,?_⟩<;>decide)|skip
 all_goals
  try simp only[std,Nat.reduceAdd,sameSize,Qa6] at *
  try simp(disch:=omega) only[wrapId',toNat1] at *
  try simp(disch:=omega) only[Qa3,Qa5]
 all_goals first|trivial|omega|grind[wrapId',toNat1,drop_cons,drop_end,good_len,maxLen,sameSize,ByteArray.size_append])
abbrev Aai:Xct:=⟨[.u],[.el .str],λ(x_:Ty68_)=>True,λ(x_:Ty68_) (y_:Ty48_)=>y_.1.size<=250⟩
abbrev Gi (c:Unit):LInv:=⟨[⟨.s,3,true,.el .str⟩,⟨.s,4,true,.el .int⟩],λ_ (x_:Ty67_)=>0<=x_.2.1/\x_.2.1<=3/\x_.1.size+70*x_.2.1<=250,λ(x_:Ty67_)=>x_.2.1.toNat⟩
def AiR:=Alw.X Aai<|Xct.p (KP [0,2,3,4] [8]) (λ⟨c,_⟩=>lv [(3,Gi c)]) Alw.2 func405 (by
 rintro⟨(c:PUnit),_⟩ hp;refine ho (.dr Cv ((),(4:Int),()) λ(y1:Ty3_)=>lpx (Gi c) ((⟨#[]⟩:ByteArray),(y1.1,())) λ(y2:Ty67_) bk2=>.br (decide (y2.2.1>0)) (.dr If ((),[(⟨#[112]⟩:ByteArray),(⟨#[98]⟩:ByteArray),(⟨#[112,97,103,101]⟩:ByteArray),(⟨#[80]⟩:ByteArray),(⟨#[]⟩:ByteArray)],()) λ(y5:Ty48_)=>.ob (sameSize y2.1 y5.1)<|.ob (sameSize (y2.1++y5.1) (⟨#[58]⟩:ByteArray))<|.dr If ((),[(⟨#[49]⟩:ByteArray),(⟨#[55]⟩:ByteArray),(⟨#[57,57,57]⟩:ByteArray),(⟨#[49,48,48,48]⟩:ByteArray),(⟨#[48]⟩:ByteArray),(⟨#[120]⟩:ByteArray)],()) λ(y9:Ty48_)=>.ob (sameSize (y2.1++y5.1++(⟨#[58]⟩:ByteArray)) y9.1)<|.ob (sameSize (y2.1++y5.1++(⟨#[58]⟩:ByteArray)++y9.1) (⟨#[59]⟩:ByteArray))<|.re (Value.string (⟨#[]⟩:ByteArray))<|.bk (bk2 (y2.1++y5.1++(⟨#[58]⟩:ByteArray)++y9.1++(⟨#[59]⟩:ByteArray),(wr (y2.2.1-(1:Int)),())))) (.lx Aai (y2.1,()))) ?_;refine CV trivial λ(y1:Ty3_) i1=>Au ?_ λ(y2:Ty67_) i2=>Aa (λh3=>F6 ?_ λo4 (y5:Ty48_) i5=>Ac ?_ λ_=>Ac ?_ λ_=>F6 ?_ λo8 (y9:Ty48_) i9=>Ac ?_ λ_=>Ac ?_ λ_=>An<|A8 ?_) (λh3=>lxY ?_)
 all_goals first|trivial|(refine⟨?_,?_,?_⟩<;>decide)|skip
 all_goals
  try simp only[std,Nat.reduceAdd,sameSize,Qa6] at *
  try simp(disch:=omega) only[wrapId',toNat1] at *
  try simp(disch:=omega) only[Qa3,Qa5]
 all_goals first|trivial|omega|grind[wrapId',toNat1,drop_cons,drop_end,good_len,maxLen,sameSize,ByteArray.size_append])
abbrev R4:Xct:=⟨[.u],[.el .str],λ(x_:Ty68_)=>True,λ(x_:Ty68_) (y_:Ty48_)=>y_.1.size<=40⟩
def AmZ:=AiR.X R4<|Xct.o (KP [0,2,4] [5,11,17,28,34,40]) AiR.2 func430 (by
 rintro⟨(c:PUnit),_⟩ hp;refine ho (let q9_:=(⟨#[98]⟩:ByteArray);let q8_:=(⟨#[112]⟩:ByteArray);let q7_:=(⟨#[97,112,112]⟩:ByteArray);let q6_:=(⟨#[112,97,103,101]⟩:ByteArray);let q5_:=(⟨#[47]⟩:ByteArray);let q4_:=(⟨#[115,99,114,105,112,116]⟩:ByteArray);let q3_:=(⟨#[105,109,103,32,115,114,99,61]⟩:ByteArray);let q2_:=(⟨#[108,105,110,107,32,104,114,101,102,61]⟩:ByteArray);let q1_:=(⟨#[32,107,105,110,100,61]⟩:ByteArray);let q0_:=(⟨#[115,99,114,105,112,116,32,115,114,99,61]⟩:ByteArray);.dr Cv ((),(8:Int),()) λ(y1:Ty3_)=>.br (y1.1==0) (.dr If ((),[q8_,q9_,q4_,q6_],()) λ(y4:Ty48_)=>.ob (sameSize q5_ y4.1)<|.lx R4 (q5_++y4.1,())) (.br (y1.1==1) (.dr If ((),[q7_,(⟨#[99,100,110,47,108,105,98]⟩:ByteArray),(⟨#[108,105,98]⟩:ByteArray),(⟨#[101,118,105,108,47,97,112,112]⟩:ByteArray)],()) λ(y8:Ty48_)=>.ob (sameSize q0_ y8.1)<|.lx R4 (q0_++y8.1,())) (.br (y1.1==2) (.dr If ((),[q7_,(⟨#[117,116,105,108]⟩:ByteArray)],()) λ(y12:Ty48_)=>.ob (sameSize q0_ y12.1)<|.ob (sameSize (q0_++y12.1) q1_)<|.dr If ((),[(⟨#[100,101,102,101,114]⟩:ByteArray),(⟨#[109,111,100,117,108,101]⟩:ByteArray)],()) λ(y16:Ty48_)=>.ob (sameSize (q0_++y12.1++q1_) y16.1)<|.lx R4 (q0_++y12.1++q1_++y16.1,())) (.br (y1.1==3) (.dr If ((),[(⟨#[108,111,103,111]⟩:ByteArray),(⟨#[99,100,110,47,108,111,103,111]⟩:ByteArray)],()) λ(y20:Ty48_)=>.ob (sameSize q3_ y20.1)<|.lx R4 (q3_++y20.1,())) (.br (y1.1==4) (.dr If ((),[(⟨#[115,116,121,108,101]⟩:ByteArray),(⟨#[99,100,110,47,115,116,121,108,101]⟩:ByteArray)],()) λ(y24:Ty48_)=>.ob (sameSize q2_ y24.1)<|.lx R4 (q2_++y24.1,())) (.br (y1.1==5) (.dr If ((),[(⟨#[112,32,97,61,98]⟩:ByteArray),(⟨#[]⟩:ByteArray),(⟨#[80]⟩:ByteArray),(⟨#[112,32,97]⟩:ByteArray),(⟨#[112,32,97,61]⟩:ByteArray),(⟨#[112,32,32,97,61,98]⟩:ByteArray),(⟨#[112,32,97,61,98,32,97,61,99]⟩:ByteArray),(⟨#[112,32,97,61,98,32,98,61,99,32,99,61,100,32,100,61,101,32,101,61,102]⟩:ByteArray),q5_,(⟨#[112,32,97,61,98,61,99]⟩:ByteArray)],()) λ(y28:Ty48_)=>.lx R4 (y28.1,())) (.dr If ((),[q8_,q9_,q6_,q4_],()) λ(y30:Ty48_)=>.lx R4 (y30.1,())))))))) ?_;refine CV trivial λ(y1:Ty3_) i1=>Aa (λh2=>F6 ?_ λo3 (y4:Ty48_) i4=>Ac ?_ λ_=>lxY ?_) (λh2=>Aa (λh6=>F6 ?_ λo7 (y8:Ty48_) i8=>Ac ?_ λ_=>lxY ?_) (λh6=>Aa (λh10=>F6 ?_ λo11 (y12:Ty48_) i12=>Ac ?_ λ_=>Ac ?_ λ_=>F6 ?_ λo15 (y16:Ty48_) i16=>Ac ?_ λ_=>lxY ?_) (λh10=>Aa (λh18=>F6 ?_ λo19 (y20:Ty48_) i20=>Ac ?_ λ_=>lxY ?_) (λh18=>Aa (λh22=>F6 ?_ λo23 (y24:Ty48_) i24=>Ac ?_ λ_=>lxY ?_) (λh22=>Aa (λh26=>F6 ?_ λo27 (y28:Ty48_) i28=>lxY ?_) (λh26=>F6 ?_ λo29 (y30:Ty48_) i30=>lxY ?_))))))
 all_goals first|trivial|(refine⟨?_,?_,?_⟩<;>decide)|skip
 all_goals
  try have r8:=i8.2 (by decide)
  try have r12:=i12.2 (by decide)
  try have r16:=i16.2 (by decide)
  try simp only[std,Nat.reduceAdd,sameSize,Qa6] at *
  try simp(disch:=omega) only[wrapId',toNat1] at *
  try simp(disch:=omega) only[Qa3,Qa5]
 all_goals first|trivial|omega|grind[wrapId',toNat1,drop_cons,drop_end,good_len,maxLen,sameSize,ByteArray.size_append])
abbrev Vn:Xct:=⟨[.u,.v (.el .int)],[.el .str],λ(x_:Ty69_)=>0<=x_.2.1/\x_.2.1<=1000,λ(x_:Ty69_) (y_:Ty48_)=>y_.1.size<=42*x_.2.1+40⟩
abbrev F9 (c:Unit) (most:Int):LInv:=⟨[⟨.s,5,true,.el .str⟩,⟨.s,6,true,.el .int⟩],λ_ (x_:Ty67_)=>0<=x_.2.1/\x_.2.1<=most/\x_.1.size+42*x_.2.1<=42*most,λ(x_:Ty67_)=>x_.2.1.toNat⟩
def AkI:=AmZ.X Vn<|Xct.p (KP [0,1,4,5,6] [12,16,29]) (λ⟨c,most,_⟩=>lv [(3,F9 c most)]) AmZ.2 func406 (by
 rintro⟨(c:PUnit),(most:Int),_⟩ hp;refine ho (let q3_:=(⟨#[62]⟩:ByteArray);let q2_:=Value.int IntKind.i64 most;let q1_:=(⟨#[]⟩:ByteArray);let q0_:=(⟨#[60]⟩:ByteArray);.dr Cv ((),w1 most,()) λ(y1:Ty3_)=>lpx (F9 c most) (q1_,(y1.1,())) λ(y2:Ty67_) bk2=>.br (decide (y2.2.1>0)) (.dr JD ((),(3:Int),()) λ(y4:Ty70_)=>.br (y4.1) (.dr If ((),[(⟨#[104,105]⟩:ByteArray),(⟨#[97,32,98]⟩:ByteArray),(⟨#[99,111,117,110,116]⟩:ByteArray),(⟨#[120,62,121]⟩:ByteArray),q1_],()) λ(y7:Ty48_)=>.ob (sameSize y2.1 y7.1)<|.re q2_<|.re (Value.string q1_)<|.bk (bk2 (y2.1++y7.1,(wr (y2.2.1-(1:Int)),())))) (.ob (sameSize y2.1 q0_)<|.dr R4 ((),()) λ(y11:Ty48_)=>.ob (sameSize (y2.1++q0_) y11.1)<|.ob (sameSize (y2.1++q0_++y11.1) q3_)<|.re q2_<|.re (Value.string q1_)<|.bk (bk2 (y2.1++q0_++y11.1++q3_,(wr (y2.2.1-(1:Int)),()))))) (.dr JD ((),(6:Int),()) λ(y15:Ty70_)=>.br (y15.1) (.dr If ((),[(⟨#[60,112]⟩:ByteArray),q0_,(⟨#[101,110,100]⟩:ByteArray)],()) λ(y18:Ty48_)=>.ob (sameSize y2.1 y18.1)<|.lx Vn (y2.1++y18.1,())) (.lx Vn (y2.1,())))) ?_;refine CV trivial λ(y1:Ty3_) i1=>Au ?_ λ(y2:Ty67_) i2=>Aa (λh3=>CV trivial λ(y4:Ty70_) i4=>Aa (λh5=>F6 ?_ λo6 (y7:Ty48_) i7=>Ac ?_ λ_=>An<|An<|A8 ?_) (λh5=>Ac ?_ λ_=>CV trivial λ(y11:Ty48_) i11=>Ac ?_ λ_=>Ac ?_ λ_=>An<|An<|A8 ?_)) (λh3=>CV trivial λ(y15:Ty70_) i15=>Aa (λh16=>F6 ?_ λo17 (y18:Ty48_) i18=>Ac ?_ λ_=>lxY ?_) (λh16=>lxY ?_))
 all_goals first|trivial|(refine⟨?_,?_,?_⟩<;>decide)|skip
 all_goals
  try simp only[std,Nat.reduceAdd,sameSize,Qa6] at *
  try simp(disch:=omega) only[wrapId',toNat1] at *
  try simp(disch:=omega) only[Qa3,Qa5]
 all_goals first|trivial|omega|grind[wrapId',toNat1,drop_cons,drop_end,good_len,maxLen,sameSize,ByteArray.size_append])
abbrev Jw:Xct:=⟨[.u,.v (.el .int)],[.el .str],λ(x_:Ty69_)=>True,λ(x_:Ty69_) (y_:Ty48_)=>y_.1.size<=400⟩
def Ai4:=AkI.X Jw<|Xct.o (KP [0,1,4,5] [6,10,14,23]) AkI.2 func363 (by
 rintro⟨(c:PUnit),(k:Int),_⟩ hp;refine ho (.br (k==2) (.dr V1 ((),(3:Int),()) λ(y3:Ty48_)=>.lx Jw (y3.1,())) (.br (k==3) (.dr Aai ((),()) λ(y5:Ty48_)=>.lx Jw (y5.1,())) (.br (k==5) (.dr If ((),[(⟨#[]⟩:ByteArray),(⟨#[105,109,112,111,114,116,32,117,116,105,108,59]⟩:ByteArray),(⟨#[105,109,112,111,114,116,32,108,105,98,59]⟩:ByteArray),(⟨#[105,109,112,111,114,116,32,99,100,110,47,108,105,98,59]⟩:ByteArray),(⟨#[105,109,112,111,114,116,32,97,112,112,59,105,109,112,111,114,116,32,117,116,105,108,59]⟩:ByteArray)],()) λ(y8:Ty48_)=>.dr If ((),[(⟨#[115,97,121,32,109]⟩:ByteArray),(⟨#[99,111,117,110,116,32,112]⟩:ByteArray),(⟨#[97,100,100,32,98]⟩:ByteArray),(⟨#[108,111,111,107,32,112]⟩:ByteArray)],()) λ(y10:Ty48_)=>.ob (sameSize y8.1 y10.1)<|.lx Jw (y8.1++y10.1,())) (.br (k==4) (.lx Jw ((⟨#[112,105,120,101,108,115]⟩:ByteArray),())) (.dr Vn ((),(8:Int),()) λ(y14:Ty48_)=>.lx Jw (y14.1,())))))) ?_;refine Aa (λh1=>F6 ?_ λo2 (y3:Ty48_) i3=>lxY ?_) (λh1=>Aa (λh4=>CV trivial λ(y5:Ty48_) i5=>lxY ?_) (λh4=>Aa (λh6=>F6 ?_ λo7 (y8:Ty48_) i8=>F6 ?_ λo9 (y10:Ty48_) i10=>Ac ?_ λ_=>lxY ?_) (λh6=>Aa (λh12=>lxY ?_) (λh12=>F6 ?_ λo13 (y14:Ty48_) i14=>lxY ?_))));all_goals first|trivial|(refine⟨?_,?_,?_⟩<;>decide)|skip
 all_goals
  try simp only[std,Nat.reduceAdd,sameSize,Qa6] at *
  try simp(disch:=omega) only[wrapId',toNat1] at *
  try simp(disch:=omega) only[Qa3,Qa5]
 all_goals first|trivial|omega|grind[wrapId',toNat1,drop_cons,drop_end,good_len,maxLen,sameSize,ByteArray.size_append])
def BL {s:ByteArray} (h:isName s=true):s.size<=8:=by
 simp only[isName,Qa2,Qa8] at h;omega
def words9:ByteArray->List ByteArray->ByteArray
 | w,[]=>w
 | w,x::l=>words9 (w++⟨#[32]⟩++x) l
theorem words9_at {w:ByteArray} {l:List ByteArray} {i:Nat} (h:i<l.length):words9 w (l.drop i)=words9 (w++⟨#[32]⟩++l.getD i default) (l.drop (i+1)):=by rw[drop_cons h];rfl
theorem words9_end {w:ByteArray} {l:List ByteArray} {i:Nat} (h:l.length<=i):words9 w (l.drop i)=w:=by rw[Qb2 h];rfl
def Jc:∀ (l:List ByteArray) (w:ByteArray),l.all isName=true->(words9 w l).size<=w.size+9*l.length:=by
 intro l
 induction l with
 | nil=>intro w _;simp[words9]
 | cons x l ih=>
  intro w h;simp only[List.all_cons,Qa2] at h;have h1:=BL h.1;have h2:=ih (w++⟨#[32]⟩++x) h.2;simp only[words9,Qa7];rw[Qa6,Qa6,show ByteArray.size ⟨#[32]⟩=1 from rfl] at h2;omega
abbrev N3:Fct:=⟨[.v (.el .str),.v (.sl .str)],[.el .str],λ(x_:Ty72_)=>x_.1.size<=100/\x_.2.1.length<=4/\x_.2.1.all isName=true,λ(x_:Ty72_)=>(words9 x_.1 x_.2.1,())⟩
abbrev FE (w:ByteArray) (l:(List ByteArray)):LInv:=⟨[⟨.s,0,true,.el .str⟩,⟨.s,5,true,.el .int⟩],λ_ (x_:Ty67_)=>0<=x_.2.1/\x_.2.1<=l.length/\x_.1.size<=100+9*x_.2.1/\words9 x_.1 (l.drop x_.2.1.toNat)=words9 w l,λ(x_:Ty67_)=>l.length-x_.2.1.toNat⟩
def AkY:=Ai4.a N3<|Fct.p (KP [0,1,4,5] [9]) (λ⟨w,l,_⟩=>lv [(2,FE w l)]) Ai4.2 func292 (by
 rintro⟨(w:ByteArray),(l:List ByteArray),_⟩ hp;refine ho (lpx (FE w l) (w,((0:Int),())) λ(y1:Ty67_) bk1=>.br (decide (y1.2.1<(l.length:Int))) (.ob (sameSize y1.1 (⟨#[32]⟩:ByteArray))<|.ob (inB y1.2.1 l.length)<|.ob (sameSize (y1.1++(⟨#[32]⟩:ByteArray)) (l.getD y1.2.1.toNat default))<|.re (l)<|.re (Value.string (⟨#[]⟩:ByteArray))<|.bk (bk1 (y1.1++(⟨#[32]⟩:ByteArray)++l.getD y1.2.1.toNat default,(w1 y1.2.1,())))) (.lf N3 (y1.1,()))) ?_;refine Au ?_ λ(y1:Ty67_) i1=>Aa (λh2=>Ac ?_ λ_=>Ac ?_ λ_=>Ac ?_ λ_=>An<|An<|A8 ?_) (λh2=>lfY ?_)
 all_goals
  have hg:∀ i,i<l.length->(l.getD i default).size<=8:=λi h=>BL (Qc0.1 hp.2.2 _ (AN h))
  try simp only[std,Nat.reduceAdd,words9_at,words9_end,sameSize,Qa6] at *
  try simp(disch:=omega) only[wrapId',toNat1] at *
  try simp(disch:=omega) only[Qa3,Qa5]
 all_goals first|trivial|omega|grind[wrapId',toNat1,good_len,maxLen,words9_at,words9_end,sameSize,ByteArray.size_append])
def formatPolicy (p:Sj_):ByteArray:=if isPolicy p&&p.set_ then(if p.nonce=⟨#[]⟩ then words9 ⟨#[115,99,114,105,112,116]⟩ p.bp++⟨#[59]⟩++words9 ⟨#[115,116,121,108,101]⟩ p.styles++⟨#[59]⟩++words9 ⟨#[105,109,103]⟩ p.images else words9 ⟨#[115,99,114,105,112,116]⟩ p.bp++⟨#[59]⟩++words9 ⟨#[115,116,121,108,101]⟩ p.styles++⟨#[59]⟩++words9 ⟨#[105,109,103]⟩ p.images++⟨#[59,110,111,110,99,101,32]⟩++p.nonce) else⟨#[]⟩
def FF {p:Sj_} (h:isPolicy p=true) (hs:p.set_=true):p.bp.all isName=true/\p.bp.length<=4/\p.styles.all isName=true/\p.styles.length<=4/\p.images.all isName=true/\p.images.length<=4/\p.nonce.size<=20:=by
 simp only[isPolicy,hs,Qe8,Qa2,Qf6,Qa8] at h;obtain⟨⟨⟨⟨a1,a2⟩,a3,a4⟩,a5,a6⟩,a7⟩:=h;refine⟨a1,a2,a3,a4,a5,a6,?_⟩;rcases a7 with h|h
 ·rw[h];exact Nat.zero_le _
 ·simp only[isValue,Qa2,Qa8] at h;omega
def FY {l:List ByteArray} {w:ByteArray} (h:l.all isName=true) (hl:l.length<=4) (hw:w.size<=6):(words9 w l).size<=42:=by
 have:=Jc l w h;omega
def Gn (p:Sj_):(formatPolicy p).size<=200:=by
 unfold formatPolicy;split
 ·rename_i h;simp only[Qa2] at h;obtain⟨a1,a2,a3,a4,a5,a6,a7⟩:=FF h.1 h.2;have b1:=FY (w:=⟨#[115,99,114,105,112,116]⟩) a1 a2 (by decide);have b2:=FY (w:=⟨#[115,116,121,108,101]⟩) a3 a4 (by decide);have b3:=FY (w:=⟨#[105,109,103]⟩) a5 a6 (by decide);split
  ·simp only[Qa6,show ByteArray.size ⟨#[59]⟩=1 from rfl];omega
  ·simp only[Qa6,show ByteArray.size ⟨#[59]⟩=1 from rfl,show ByteArray.size ⟨#[59,110,111,110,99,101,32]⟩=7 from rfl];omega
 ·exact Nat.zero_le _
abbrev AQ:Fct:=⟨[.v (.el .bj)],[.el .str],λ(x_:Ty28_)=>AM x_.1<=1099511627776,λ(x_:Ty28_)=>(formatPolicy x_.1,())⟩
end Go.Proofs.YthpiiodbmkjmjaaGreatDoor.fnActions
