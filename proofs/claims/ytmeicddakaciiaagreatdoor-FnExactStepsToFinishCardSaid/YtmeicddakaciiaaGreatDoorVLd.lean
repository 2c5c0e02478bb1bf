/-
  The library of the proof, part 4.
-/
import Derived.Test.YtmeicddakaciiaaGreatDoorVLc
import Derived.Lib.Bytealg
import Derived.Sort.LotA
import Derived.Laws.Strings
import Derived.Lib.ItoaNum
import Derived.Sort.Grow
import Derived.Deep.Draws
import Derived.Deep.WholeRow
import Derived.Laws.CopyRow
import Derived.Laws.NewBlocks
import Derived.Lib.ConvBytes
set_option linter.unusedVariables false
set_option linter.unusedSimpArgs false
namespace Go.D
set_option linter.unusedSimpArgs false
set_option maxRecDepth 100000
set_option maxHeartbeats 2000000
def szAddr (x:Sb_):Nat:=x.host.size+x.path.size
def A6 (x:Ss_):Nat:=x.name.size+x.value.size
def szToken (x:Sh_):Nat:=x.name.size+szL A6 x.bo+x.text.size
def Bp (x:Sn_):Nat:=x.rest.size
def szNode (x:St_):Nat:=x.name.size+x.text.size+szL A6 x.bo
def szBuilder (x:Se_):Nat:=szL szNode x.bi+x.bl.length
def Mg (x:Sx_):Nat:=x.name.size
def D2 (x:Sl_):Nat:=szL Mg x.rules
def Dl (x:Sr_):Nat:=x.text.size
def szPolicy (x:Sj_):Nat:=szL Ad x.bp+szL Ad x.styles+szL Ad x.images+x.nonce.size
def Ae (x:Sd_):Nat:=x.body.size+x.bj.size
def szRequest (x:Sf_):Nat:=szAddr x.to+x.from_.size+x.digest.size
def EU (x:Sv_):Nat:=x.path.size+Ae x.bd
def A1 (x:Sk_):Nat:=x.host.size+szL EU x.files
def AT (x:Sq_):Nat:=x.top.size+szAddr x.to+Ae x.bd
def szCache (x:So_):Nat:=szL AT x.bg
def D4 (x:Sw_):Nat:=x.top.size+szAddr x.to
def szNet (x:Su_):Nat:=szL A1 x.servers+szCache x.cache+szL D4 x.log
def AE (x:Sp_):Nat:=szAddr x.to+x.digest.size+x.body.size
def Aq (x:Sg_):Nat:=szAddr x.to+x.body.size
def szPage (x:Sa_):Nat:=szAddr x.addr+szPolicy x.bj+Bp x.tok+szL szToken x.bn+szBuilder x.ba+szL AE x.bf+szL Aq x.bh+szL szAddr x.bg+szL szAddr x.ran+szL Ad x.log
def BP (x:Sm_):Nat:=szAddr x.to+Ae x.bd
def CD (x:Si_):Nat:=szAddr x.to+Ae x.bd
def Dm (x:Sc_):Nat:=szNet x.net+szPage x.page+szL Ad x.parts+szL CD x.conns+szL BP x.guesses
theorem AeV (x:Sb_):(⟨x.host,x.path⟩:Sb_)=x:=rfl
theorem AbQ (x:Sh_):(⟨x.kind,x.name,x.bo,x.text⟩:Sh_)=x:=rfl
theorem AdZ (x:St_):(⟨x.name,x.text,x.parent,x.bo⟩:St_)=x:=rfl
theorem UZ (x:Se_):(⟨x.bi,x.bl⟩:Se_)=x:=rfl
theorem Abl (x:Sl_):(⟨x.rules⟩:Sl_)=x:=rfl
theorem YS (x:Sj_):(⟨x.set_,x.bp,x.styles,x.images,x.nonce⟩:Sj_)=x:=rfl
theorem RO (x:Sd_):(⟨x.status,x.kind,x.body,x.age,x.shares,x.bj⟩:Sd_)=x:=rfl
theorem Ud (x:Sf_):(⟨x.kind,x.to,x.from_,x.digest⟩:Sf_)=x:=rfl
theorem Ac1 (x:Sv_):(⟨x.path,x.bd⟩:Sv_)=x:=rfl
theorem V4 (x:Sk_):(⟨x.host,x.files⟩:Sk_)=x:=rfl
theorem Ze (x:Sq_):(⟨x.top,x.to,x.bd,x.until_⟩:Sq_)=x:=rfl
theorem AaJ (x:So_):(⟨x.bg⟩:So_)=x:=rfl
theorem Afq (x:Sw_):(⟨x.top,x.to,x.guess⟩:Sw_)=x:=rfl
theorem Agv (x:Su_):(⟨x.servers,x.cache,x.log,x.now⟩:Su_)=x:=rfl
theorem Aff (x:Sp_):(⟨x.mode,x.to,x.digest,x.node,x.done,x.code,x.body⟩:Sp_)=x:=rfl
theorem WN (x:Sg_):(⟨x.to,x.done,x.code,x.body⟩:Sg_)=x:=rfl
theorem Ae9 (x:Sa_):(⟨x.addr,x.bj,x.tok,x.bn,x.ended,x.ba,x.bf,x.bh,x.bg,x.block,x.inline,x.bm,x.bq,x.ran,x.log,x.loaded⟩:Sa_)=x:=rfl
theorem Wg (x:Sy_):(⟨x.ba,x.log,x.verdicts,x.sheet,x.loaded⟩:Sy_)=x:=rfl
theorem Abd (x:Sm_):(⟨x.to,x.bd,x.used⟩:Sm_)=x:=rfl
theorem Ae3 (x:Si_):(⟨x.to,x.left,x.guess,x.bd⟩:Si_)=x:=rfl
theorem Wp (x:Sc_):(⟨x.net,x.page,x.parts,x.conns,x.guesses⟩:Sc_)=x:=rfl
theorem AaN (x:Sz_):(⟨x.addr,x.page,x.kept⟩:Sz_)=x:=rfl
theorem AgG (x:SB_):(⟨x.visits,x.at_⟩:SB_)=x:=rfl
theorem Af4 (x y:ByteArray):(x==y)=decide (x=y):=by
 rw[Bool.eq_iff_iff,Qa8];constructor
 ·intro h;have h':(x.data==y.data)=true:=h;cases x;cases y;simpa using h'
 ·rintro rfl;show(x.data==x.data)=true;simp
theorem Di (x y:Sb_):(x.host==y.host&&(x.path==y.path&&true))=decide (x=y):=by
 rw[Bool.eq_iff_iff];cases x;cases y;simp[Af4]
def AeF (x:Sb_):List SzI:=[.p x.host.size,.p x.path.size]
theorem Aee (x:Sb_) (h:Sh.good (.el .addr) x):F4 (AeF x):=by simp only[AeF,Sh.good,Sh.fc,enc,Qc9,Qe3,false_implies,implies_true,D7,F4,SzI.ok,maxLen] at *;grind
def Aek (x:Sb_):List ToI:=[]
def Ahr (x:Sb_) (z:Unit):Sb_:=⟨x.host,x.path⟩
theorem Adu (x:Sb_) (h:szAddr x<=1048576):F5 (Aek x):=by simp only[szAddr,Aek,F5,Qe1] at *<;>omega
def Vj (x y:Sb_):List EqI:=[.s x.host y.host,.s x.path y.path]
theorem AcI (x y:Sb_):x=y↔DC (Vj x y):=by cases x;cases y;simp[Vj,DC,EqI.tru]
theorem Adj (x y:Sb_) (h:szAddr x<=1125899906842624):F7 (Vj x y):=by simp only[szAddr,Vj,F7,EqI.ok,Qe1,true_and] at *<;>omega
def Adl (x:Ss_):List SzI:=[.p x.name.size,.p x.value.size]
theorem AdY (x:Ss_) (h:Sh.good (.el .attr) x):F4 (Adl x):=by simp only[Adl,Sh.good,Sh.fc,enc,Qc9,Qe3,false_implies,implies_true,D7,F4,SzI.ok,maxLen] at *;grind
def AeX (x:Ss_):List ToI:=[]
def AhM (x:Ss_) (z:Unit):Ss_:=⟨x.name,x.value⟩
theorem Ac6 (x:Ss_) (h:A6 x<=1048576):F5 (AeX x):=by simp only[A6,AeX,F5,Qe1] at *<;>omega
def Wk (x y:Ss_):List EqI:=[.s x.name y.name,.s x.value y.value]
theorem Ad2 (x y:Ss_):x=y↔DC (Wk x y):=by cases x;cases y;simp[Wk,DC,EqI.tru]
theorem Aeo (x y:Ss_) (h:A6 x<=1125899906842624):F7 (Wk x y):=by simp only[A6,Wk,F7,EqI.ok,Qe1,true_and] at *<;>omega
def W9 (x:Sh_):List SzI:=[.p x.name.size,.c (.sl .attr) (szL A6) x.bo,.p x.text.size]
theorem Aa2 (x:Sh_) (h:Sh.good (.el .token) x):F4 (W9 x):=by simp only[W9,Sh.good,Sh.fc,enc,Qc9,Qe3,false_implies,implies_true,D7,F4,SzI.ok,maxLen] at *;grind
def VH (x:Sh_):List ToI:=[⟨(.sl .attr),(szL A6),x.bo⟩]
def Ag0 (x:Sh_) (z:(List Ss_)×Unit):Sh_:=⟨x.kind,x.name,z.1,x.text⟩
theorem Zv (x:Sh_) (h:szToken x<=1048576):F5 (VH x):=by simp only[szToken,VH,F5,Qe1] at *<;>omega
def P8 (x y:Sh_):List EqI:=[.i x.kind y.kind,.s x.name y.name,.c (.sl .attr) inferInstance (szL A6) x.bo y.bo,.s x.text y.text]
theorem Aai (x y:Sh_):x=y↔DC (P8 x y):=by cases x;cases y;simp[P8,DC,EqI.tru]
theorem AaQ (x y:Sh_) (h:szToken x<=1125899906842624):F7 (P8 x y):=by simp only[szToken,P8,F7,EqI.ok,Qe1,true_and] at *<;>omega
def Jl (x:Sn_):List SzI:=[.p x.rest.size]
theorem Qz (x:Sn_) (h:Sh.good (.el .tokenizer) x):F4 (Jl x):=by simp only[Jl,Sh.good,Sh.fc,enc,Qc9,Qe3,false_implies,implies_true,D7,F4,SzI.ok,maxLen] at *;grind
def JZ (x:Sn_):List ToI:=[]
def UJ (x:Sn_) (z:Unit):Sn_:=⟨x.rest⟩
theorem Qn (x:Sn_) (h:Bp x<=1048576):F5 (JZ x):=by simp only[Bp,JZ,F5,Qe1] at *<;>omega
def Gd (x y:Sn_):List EqI:=[.s x.rest y.rest]
theorem QD (x y:Sn_):x=y↔DC (Gd x y):=by cases x;cases y;simp[Gd,DC,EqI.tru]
theorem P2 (x y:Sn_) (h:Bp x<=1125899906842624):F7 (Gd x y):=by simp only[Bp,Gd,F7,EqI.ok,Qe1,true_and] at *<;>omega
def AdW (x:St_):List SzI:=[.p x.name.size,.p x.text.size,.c (.sl .attr) (szL A6) x.bo]
theorem Afb (x:St_) (h:Sh.good (.el .node) x):F4 (AdW x):=by simp only[AdW,Sh.good,Sh.fc,enc,Qc9,Qe3,false_implies,implies_true,D7,F4,SzI.ok,maxLen] at *;grind
def Aey (x:St_):List ToI:=[⟨(.sl .attr),(szL A6),x.bo⟩]
def AhC (x:St_) (z:(List Ss_)×Unit):St_:=⟨x.name,x.text,x.parent,z.1⟩
theorem AdI (x:St_) (h:szNode x<=1048576):F5 (Aey x):=by simp only[szNode,Aey,F5,Qe1] at *<;>omega
def Ye (x y:St_):List EqI:=[.s x.name y.name,.s x.text y.text,.i x.parent y.parent,.c (.sl .attr) inferInstance (szL A6) x.bo y.bo]
theorem AcQ (x y:St_):x=y↔DC (Ye x y):=by cases x;cases y;simp[Ye,DC,EqI.tru]
theorem AfN (x y:St_) (h:szNode x<=1125899906842624):F7 (Ye x y):=by simp only[szNode,Ye,F7,EqI.ok,Qe1,true_and] at *<;>omega
def Oa (x:Se_):List SzI:=[.c (.sl .node) (szL szNode) x.bi,.c (.sl .int) List.length x.bl]
theorem U2 (x:Se_) (h:Sh.good (.el .ba) x):F4 (Oa x):=by simp only[Oa,Sh.good,Sh.fc,enc,Qc9,Qe3,false_implies,implies_true,D7,F4,SzI.ok,maxLen] at *;grind
def Ou (x:Se_):List ToI:=[⟨(.sl .node),(szL szNode),x.bi⟩,⟨(.sl .int),List.length,x.bl⟩]
def AbD (x:Se_) (z:(List St_)×(List Int)×Unit):Se_:=⟨z.1,z.2.1⟩
theorem T8 (x:Se_) (h:szBuilder x<=1048576):F5 (Ou x):=by simp only[szBuilder,Ou,F5,Qe1] at *<;>omega
def IR (x y:Se_):List EqI:=[.c (.sl .node) inferInstance (szL szNode) x.bi y.bi,.c (.sl .int) inferInstance List.length x.bl y.bl]
theorem TJ (x y:Se_):x=y↔DC (IR x y):=by cases x;cases y;simp[IR,DC,EqI.tru]
theorem Um (x y:Se_) (h:szBuilder x<=1125899906842624):F7 (IR x y):=by simp only[szBuilder,IR,F7,EqI.ok,Qe1,true_and] at *<;>omega
def QH (x:Sj_):List SzI:=[.c (.sl .str) (szL Ad) x.bp,.c (.sl .str) (szL Ad) x.styles,.c (.sl .str) (szL Ad) x.images,.p x.nonce.size]
theorem Xy (x:Sj_) (h:Sh.good (.el .bj) x):F4 (QH x):=by simp only[QH,Sh.good,Sh.fc,enc,Qc9,Qe3,false_implies,implies_true,D7,F4,SzI.ok,maxLen] at *;grind
def R4 (x:Sj_):List ToI:=[⟨(.sl .str),(szL Ad),x.bp⟩,⟨(.sl .str),(szL Ad),x.styles⟩,⟨(.sl .str),(szL Ad),x.images⟩]
def AdE (x:Sj_) (z:(List ByteArray)×(List ByteArray)×(List ByteArray)×Unit):Sj_:=⟨x.set_,z.1,z.2.1,z.2.2.1,x.nonce⟩
theorem W2 (x:Sj_) (h:szPolicy x<=1048576):F5 (R4 x):=by simp only[szPolicy,R4,F5,Qe1] at *<;>omega
def LU (x y:Sj_):List EqI:=[.b x.set_ y.set_,.c (.sl .str) inferInstance (szL Ad) x.bp y.bp,.c (.sl .str) inferInstance (szL Ad) x.styles y.styles,.c (.sl .str) inferInstance (szL Ad) x.images y.images,.s x.nonce y.nonce]
theorem Wd (x y:Sj_):x=y↔DC (LU x y):=by cases x;cases y;simp[LU,DC,EqI.tru]
theorem WW (x y:Sj_) (h:szPolicy x<=1125899906842624):F7 (LU x y):=by simp only[szPolicy,LU,F7,EqI.ok,Qe1,true_and] at *<;>omega
def L2 (x:Sd_):List SzI:=[.p x.body.size,.p x.bj.size]
theorem QW (x:Sd_) (h:Sh.good (.el .bd) x):F4 (L2 x):=by simp only[L2,Sh.good,Sh.fc,enc,Qc9,Qe3,false_implies,implies_true,D7,F4,SzI.ok,maxLen] at *;grind
def Lu (x:Sd_):List ToI:=[]
def XX (x:Sd_) (z:Unit):Sd_:=⟨x.status,x.kind,x.body,x.age,x.shares,x.bj⟩
theorem QZ (x:Sd_) (h:Ae x<=1048576):F5 (Lu x):=by simp only[Ae,Lu,F5,Qe1] at *<;>omega
def HA (x y:Sd_):List EqI:=[.i x.status y.status,.i x.kind y.kind,.s x.body y.body,.i x.age y.age,.b x.shares y.shares,.s x.bj y.bj]
theorem Q8 (x y:Sd_):x=y↔DC (HA x y):=by cases x;cases y;simp[HA,DC,EqI.tru]
theorem Rx (x y:Sd_) (h:Ae x<=1125899906842624):F7 (HA x y):=by simp only[Ae,HA,F7,EqI.ok,Qe1,true_and] at *<;>omega
def Aes (x:Sv_):List SzI:=[.p x.path.size,.c (.el .bd) Ae x.bd]
theorem AdP (x:Sv_) (h:Sh.good (.el .file) x):F4 (Aes x):=by simp only[Aes,Sh.good,Sh.fc,enc,Qc9,Qe3,false_implies,implies_true,D7,F4,SzI.ok,maxLen] at *;grind
def Ae5 (x:Sv_):List ToI:=[⟨(.el .bd),Ae,x.bd⟩]
def AhT (x:Sv_) (z:Sd_×Unit):Sv_:=⟨x.path,z.1⟩
theorem Adn (x:Sv_) (h:EU x<=1048576):F5 (Ae5 x):=by simp only[EU,Ae5,F5,Qe1] at *<;>omega
def W5 (x y:Sv_):List EqI:=[.s x.path y.path,.c (.el .bd) inferInstance Ae x.bd y.bd]
theorem Adc (x y:Sv_):x=y↔DC (W5 x y):=by cases x;cases y;simp[W5,DC,EqI.tru]
theorem AeI (x y:Sv_) (h:EU x<=1125899906842624):F7 (W5 x y):=by simp only[EU,W5,F7,EqI.ok,Qe1,true_and] at *<;>omega
def QO (x:Sk_):List SzI:=[.p x.host.size,.c (.sl .file) (szL EU) x.files]
theorem WB (x:Sk_) (h:Sh.good (.el .server) x):F4 (QO x):=by simp only[QO,Sh.good,Sh.fc,enc,Qc9,Qe3,false_implies,implies_true,D7,F4,SzI.ok,maxLen] at *;grind
def RF (x:Sk_):List ToI:=[⟨(.sl .file),(szL EU),x.files⟩]
def Ado (x:Sk_) (z:(List Sv_)×Unit):Sk_:=⟨x.host,z.1⟩
theorem VW (x:Sk_) (h:A1 x<=1048576):F5 (RF x):=by simp only[A1,RF,F5,Qe1] at *<;>omega
def KT (x y:Sk_):List EqI:=[.s x.host y.host,.c (.sl .file) inferInstance (szL EU) x.files y.files]
theorem Vo (x y:Sk_):x=y↔DC (KT x y):=by cases x;cases y;simp[KT,DC,EqI.tru]
theorem Vm (x y:Sk_) (h:A1 x<=1125899906842624):F7 (KT x y):=by simp only[A1,KT,F7,EqI.ok,Qe1,true_and] at *<;>omega
def VJ (x:Sq_):List SzI:=[.p x.top.size,.c (.el .addr) szAddr x.to,.c (.el .bd) Ae x.bd]
theorem AbF (x:Sq_) (h:Sh.good (.el .entry) x):F4 (VJ x):=by simp only[VJ,Sh.good,Sh.fc,enc,Qc9,Qe3,false_implies,implies_true,D7,F4,SzI.ok,maxLen] at *;grind
def YN (x:Sq_):List ToI:=[⟨(.el .addr),szAddr,x.to⟩,⟨(.el .bd),Ae,x.bd⟩]
def AgO (x:Sq_) (z:Sb_×Sd_×Unit):Sq_:=⟨x.top,z.1,z.2.1,x.until_⟩
theorem AaB (x:Sq_) (h:AT x<=1048576):F5 (YN x):=by simp only[AT,YN,F5,Qe1] at *<;>omega
def Pr (x y:Sq_):List EqI:=[.s x.top y.top,.c (.el .addr) inferInstance szAddr x.to y.to,.c (.el .bd) inferInstance Ae x.bd y.bd,.i x.until_ y.until_]
theorem ZW (x y:Sq_):x=y↔DC (Pr x y):=by cases x;cases y;simp[Pr,DC,EqI.tru]
theorem AaR (x y:Sq_) (h:AT x<=1125899906842624):F7 (Pr x y):=by simp only[AT,Pr,F7,EqI.ok,Qe1,true_and] at *<;>omega
def VL (x:So_):List SzI:=[.c (.sl .entry) (szL AT) x.bg]
theorem Aa9 (x:So_) (h:Sh.good (.el .cache) x):F4 (VL x):=by simp only[VL,Sh.good,Sh.fc,enc,Qc9,Qe3,false_implies,implies_true,D7,F4,SzI.ok,maxLen] at *;grind
def Vf (x:So_):List ToI:=[⟨(.sl .entry),(szL AT),x.bg⟩]
def AgF (x:So_) (z:(List Sq_)×Unit):So_:=⟨z.1⟩
theorem Aa1 (x:So_) (h:szCache x<=1048576):F5 (Vf x):=by simp only[szCache,Vf,F5,Qe1] at *<;>omega
def Pb (x y:So_):List EqI:=[.c (.sl .entry) inferInstance (szL AT) x.bg y.bg]
theorem AbC (x y:So_):x=y↔DC (Pb x y):=by cases x;cases y;simp[Pb,DC,EqI.tru]
theorem Z4 (x y:So_) (h:szCache x<=1125899906842624):F7 (Pb x y):=by simp only[szCache,Pb,F7,EqI.ok,Qe1,true_and] at *<;>omega
def AdR (x:Sw_):List SzI:=[.p x.top.size,.c (.el .addr) szAddr x.to]
theorem Adm (x:Sw_) (h:Sh.good (.el .sent) x):F4 (AdR x):=by simp only[AdR,Sh.good,Sh.fc,enc,Qc9,Qe3,false_implies,implies_true,D7,F4,SzI.ok,maxLen] at *;grind
def Aex (x:Sw_):List ToI:=[⟨(.el .addr),szAddr,x.to⟩]
def AhX (x:Sw_) (z:Sb_×Unit):Sw_:=⟨x.top,z.1,x.guess⟩
theorem AcU (x:Sw_) (h:D4 x<=1048576):F5 (Aex x):=by simp only[D4,Aex,F5,Qe1] at *<;>omega
def XG (x y:Sw_):List EqI:=[.s x.top y.top,.c (.el .addr) inferInstance szAddr x.to y.to,.b x.guess y.guess]
theorem Afw (x y:Sw_):x=y↔DC (XG x y):=by cases x;cases y;simp[XG,DC,EqI.tru]
theorem Aft (x y:Sw_) (h:D4 x<=1125899906842624):F7 (XG x y):=by simp only[D4,XG,F7,EqI.ok,Qe1,true_and] at *<;>omega
def AhS (x:Su_):List SzI:=[.c (.sl .server) (szL A1) x.servers,.c (.el .cache) szCache x.cache,.c (.sl .sent) (szL D4) x.log]
theorem AfV (x:Su_) (h:Sh.good (.el .net) x):F4 (AhS x):=by simp only[AhS,Sh.good,Sh.fc,enc,Qc9,Qe3,false_implies,implies_true,D7,F4,SzI.ok,maxLen] at *;grind
def Ahj (x:Su_):List ToI:=[⟨(.sl .server),(szL A1),x.servers⟩,⟨(.el .cache),szCache,x.cache⟩,⟨(.sl .sent),(szL D4),x.log⟩]
def Am7 (x:Su_) (z:(List Sk_)×So_×(List Sw_)×Unit):Su_:=⟨z.1,z.2.1,z.2.2.1,x.now⟩
theorem AgC (x:Su_) (h:szNet x<=1048576):F5 (Ahj x):=by simp only[szNet,Ahj,F5,Qe1] at *<;>omega
def AfY (x y:Su_):List EqI:=[.c (.sl .server) inferInstance (szL A1) x.servers y.servers,.c (.el .cache) inferInstance szCache x.cache y.cache,.c (.sl .sent) inferInstance (szL D4) x.log y.log,.i x.now y.now]
theorem Age (x y:Su_):x=y↔DC (AfY x y):=by cases x;cases y;simp[AfY,DC,EqI.tru]
theorem Agn (x y:Su_) (h:szNet x<=1125899906842624):F7 (AfY x y):=by simp only[szNet,AfY,F7,EqI.ok,Qe1,true_and] at *<;>omega
def AfJ (x:Sp_):List SzI:=[.c (.el .addr) szAddr x.to,.p x.digest.size,.p x.body.size]
theorem Ac2 (x:Sp_) (h:Sh.good (.el .slot) x):F4 (AfJ x):=by simp only[AfJ,Sh.good,Sh.fc,enc,Qc9,Qe3,false_implies,implies_true,D7,F4,SzI.ok,maxLen] at *;grind
def Aew (x:Sp_):List ToI:=[⟨(.el .addr),szAddr,x.to⟩]
def Ahg (x:Sp_) (z:Sb_×Unit):Sp_:=⟨x.mode,z.1,x.digest,x.node,x.done,x.code,x.body⟩
theorem AdK (x:Sp_) (h:AE x<=1048576):F5 (Aew x):=by simp only[AE,Aew,F5,Qe1] at *<;>omega
def Yk (x y:Sp_):List EqI:=[.i x.mode y.mode,.c (.el .addr) inferInstance szAddr x.to y.to,.s x.digest y.digest,.i x.node y.node,.b x.done y.done,.i x.code y.code,.s x.body y.body]
theorem AcW (x y:Sp_):x=y↔DC (Yk x y):=by cases x;cases y;simp[Yk,DC,EqI.tru]
theorem AeE (x y:Sp_) (h:AE x<=1125899906842624):F7 (Yk x y):=by simp only[AE,Yk,F7,EqI.ok,Qe1,true_and] at *<;>omega
def Rm (x:Sg_):List SzI:=[.c (.el .addr) szAddr x.to,.p x.body.size]
theorem Vb (x:Sg_) (h:Sh.good (.el .module) x):F4 (Rm x):=by simp only[Rm,Sh.good,Sh.fc,enc,Qc9,Qe3,false_implies,implies_true,D7,F4,SzI.ok,maxLen] at *;grind
def RT (x:Sg_):List ToI:=[⟨(.el .addr),szAddr,x.to⟩]
def AcR (x:Sg_) (z:Sb_×Unit):Sg_:=⟨z.1,x.done,x.code,x.body⟩
theorem V2 (x:Sg_) (h:Aq x<=1048576):F5 (RT x):=by simp only[Aq,RT,F5,Qe1] at *<;>omega
def KO (x y:Sg_):List EqI:=[.c (.el .addr) inferInstance szAddr x.to y.to,.b x.done y.done,.i x.code y.code,.s x.body y.body]
theorem YD (x y:Sg_):x=y↔DC (KO x y):=by cases x;cases y;simp[KO,DC,EqI.tru]
theorem VX (x y:Sg_) (h:Aq x<=1125899906842624):F7 (KO x y):=by simp only[Aq,KO,F7,EqI.ok,Qe1,true_and] at *<;>omega
def Afi (x:Sa_):List SzI:=[.c (.el .addr) szAddr x.addr,.c (.el .bj) szPolicy x.bj,.c (.el .tokenizer) Bp x.tok,.c (.sl .token) (szL szToken) x.bn,.c (.el .ba) szBuilder x.ba,.c (.sl .slot) (szL AE) x.bf,.c (.sl .module) (szL Aq) x.bh,.c (.sl .addr) (szL szAddr) x.bg,.c (.sl .addr) (szL szAddr) x.ran,.c (.sl .str) (szL Ad) x.log]
theorem AeY (x:Sa_) (h:Sh.good (.el .page) x):F4 (Afi x):=by simp only[Afi,Sh.good,Sh.fc,enc,Qc9,Qe3,false_implies,implies_true,D7,F4,SzI.ok,maxLen] at *;grind
def AfK (x:Sa_):List ToI:=[⟨(.el .addr),szAddr,x.addr⟩,⟨(.el .bj),szPolicy,x.bj⟩,⟨(.el .tokenizer),Bp,x.tok⟩,⟨(.sl .token),(szL szToken),x.bn⟩,⟨(.el .ba),szBuilder,x.ba⟩,⟨(.sl .slot),(szL AE),x.bf⟩,⟨(.sl .module),(szL Aq),x.bh⟩,⟨(.sl .addr),(szL szAddr),x.bg⟩,⟨(.sl .addr),(szL szAddr),x.ran⟩,⟨(.sl .str),(szL Ad),x.log⟩]
def AhF (x:Sa_) (z:Sb_×Sj_×Sn_×(List Sh_)×Se_×(List Sp_)×(List Sg_)×(List Sb_)×(List Sb_)×(List ByteArray)×Unit):Sa_:=⟨z.1,z.2.1,z.2.2.1,z.2.2.2.1,x.ended,z.2.2.2.2.1,z.2.2.2.2.2.1,z.2.2.2.2.2.2.1,z.2.2.2.2.2.2.2.1,x.block,x.inline,x.bm,x.bq,z.2.2.2.2.2.2.2.2.1,z.2.2.2.2.2.2.2.2.2.1,x.loaded⟩
theorem Ad6 (x:Sa_) (h:szPage x<=1048576):F5 (AfK x):=by simp only[szPage,AfK,F5,Qe1] at *<;>omega
def XD (x y:Sa_):List EqI:=[.c (.el .addr) inferInstance szAddr x.addr y.addr,.c (.el .bj) inferInstance szPolicy x.bj y.bj,.c (.el .tokenizer) inferInstance Bp x.tok y.tok,.c (.sl .token) inferInstance (szL szToken) x.bn y.bn,.b x.ended y.ended,.c (.el .ba) inferInstance szBuilder x.ba y.ba,.c (.sl .slot) inferInstance (szL AE) x.bf y.bf,.c (.sl .module) inferInstance (szL Aq) x.bh y.bh,.c (.sl .addr) inferInstance (szL szAddr) x.bg y.bg,.i x.block y.block,.i x.inline y.inline,.i x.bm y.bm,.i x.bq y.bq,.c (.sl .addr) inferInstance (szL szAddr) x.ran y.ran,.c (.sl .str) inferInstance (szL Ad) x.log y.log,.b x.loaded y.loaded]
theorem AcT (x y:Sa_):x=y↔DC (XD x y):=by cases x;cases y;simp[XD,DC,EqI.tru]
theorem AfL (x y:Sa_) (h:szPage x<=1125899906842624):F7 (XD x y):=by simp only[szPage,XD,F7,EqI.ok,Qe1,true_and] at *<;>omega
def YP (x:Sm_):List SzI:=[.c (.el .addr) szAddr x.to,.c (.el .bd) Ae x.bd]
theorem ZF (x:Sm_) (h:Sh.good (.el .guess) x):F4 (YP x):=by simp only[YP,Sh.good,Sh.fc,enc,Qc9,Qe3,false_implies,implies_true,D7,F4,SzI.ok,maxLen] at *;grind
def Vk (x:Sm_):List ToI:=[⟨(.el .addr),szAddr,x.to⟩,⟨(.el .bd),Ae,x.bd⟩]
def Agi (x:Sm_) (z:Sb_×Sd_×Unit):Sm_:=⟨z.1,z.2.1,x.used⟩
theorem Abt (x:Sm_) (h:BP x<=1048576):F5 (Vk x):=by simp only[BP,Vk,F5,Qe1] at *<;>omega
def Pw (x y:Sm_):List EqI:=[.c (.el .addr) inferInstance szAddr x.to y.to,.c (.el .bd) inferInstance Ae x.bd y.bd,.b x.used y.used]
theorem AbG (x y:Sm_):x=y↔DC (Pw x y):=by cases x;cases y;simp[Pw,DC,EqI.tru]
theorem Zk (x y:Sm_) (h:BP x<=1125899906842624):F7 (Pw x y):=by simp only[BP,Pw,F7,EqI.ok,Qe1,true_and] at *<;>omega
def AeO (x:Si_):List SzI:=[.c (.el .addr) szAddr x.to,.c (.el .bd) Ae x.bd]
theorem AdV (x:Si_) (h:Sh.good (.el .conn) x):F4 (AeO x):=by simp only[AeO,Sh.good,Sh.fc,enc,Qc9,Qe3,false_implies,implies_true,D7,F4,SzI.ok,maxLen] at *;grind
def Ae4 (x:Si_):List ToI:=[⟨(.el .addr),szAddr,x.to⟩,⟨(.el .bd),Ae,x.bd⟩]
def AhU (x:Si_) (z:Sb_×Sd_×Unit):Si_:=⟨z.1,x.left,x.guess,z.2.1⟩
theorem AcJ (x:Si_) (h:CD x<=1048576):F5 (Ae4 x):=by simp only[CD,Ae4,F5,Qe1] at *<;>omega
def VA (x y:Si_):List EqI:=[.c (.el .addr) inferInstance szAddr x.to y.to,.i x.left y.left,.b x.guess y.guess,.c (.el .bd) inferInstance Ae x.bd y.bd]
theorem AfC (x y:Si_):x=y↔DC (VA x y):=by cases x;cases y;simp[VA,DC,EqI.tru]
theorem Afy (x y:Si_) (h:CD x<=1125899906842624):F7 (VA x y):=by simp only[CD,VA,F7,EqI.ok,Qe1,true_and] at *<;>omega
def QJ (x:Sc_):List SzI:=[.c (.el .net) szNet x.net,.c (.el .page) szPage x.page,.c (.sl .str) (szL Ad) x.parts,.c (.sl .conn) (szL CD) x.conns,.c (.sl .guess) (szL BP) x.guesses]
theorem Vl (x:Sc_) (h:Sh.good (.el .loader) x):F4 (QJ x):=by simp only[QJ,Sh.good,Sh.fc,enc,Qc9,Qe3,false_implies,implies_true,D7,F4,SzI.ok,maxLen] at *;grind
def RL (x:Sc_):List ToI:=[⟨(.el .net),szNet,x.net⟩,⟨(.el .page),szPage,x.page⟩,⟨(.sl .str),(szL Ad),x.parts⟩,⟨(.sl .conn),(szL CD),x.conns⟩,⟨(.sl .guess),(szL BP),x.guesses⟩]
def AcL (x:Sc_) (z:Su_×Sa_×(List ByteArray)×(List Si_)×(List Sm_)×Unit):Sc_:=⟨z.1,z.2.1,z.2.2.1,z.2.2.2.1,z.2.2.2.2.1⟩
theorem Yp (x:Sc_) (h:Dm x<=1048576):F5 (RL x):=by simp only[Dm,RL,F5,Qe1] at *<;>omega
def LH (x y:Sc_):List EqI:=[.c (.el .net) inferInstance szNet x.net y.net,.c (.el .page) inferInstance szPage x.page y.page,.c (.sl .str) inferInstance (szL Ad) x.parts y.parts,.c (.sl .conn) inferInstance (szL CD) x.conns y.conns,.c (.sl .guess) inferInstance (szL BP) x.guesses y.guesses]
theorem WZ (x y:Sc_):x=y↔DC (LH x y):=by cases x;cases y;simp[LH,DC,EqI.tru]
theorem Vn (x y:Sc_) (h:Dm x<=1125899906842624):F7 (LH x y):=by simp only[Dm,LH,F7,EqI.ok,Qe1,true_and] at *<;>omega
def Gt:Fct:=szF (.sl .str) (szL Ad)
def J8:Fct:=toF (.sl .str) (szL Ad)
def Ga:Fct:=eqF (.sl .str) (szL Ad)
def NL:Fct:=szF (.sl .int) List.length
def Ry:Fct:=toF (.sl .int) List.length
def Mz:Fct:=eqF (.sl .int) List.length
def AbP:Fct:=szF (.sl .addr) (szL szAddr)
def Zg:Fct:=toF (.sl .addr) (szL szAddr)
def ZZ:Fct:=eqF (.sl .addr) (szL szAddr)
def Adg:Fct:=szF (.el .addr) szAddr
def AfQ:Fct:=toF (.el .addr) szAddr
def AeJ:Fct:=eqF (.el .addr) szAddr
def Aa3:Fct:=szF (.sl .attr) (szL A6)
def Aam:Fct:=toF (.sl .attr) (szL A6)
def AaL:Fct:=eqF (.sl .attr) (szL A6)
def Ad9:Fct:=szF (.el .attr) A6
def Ada:Fct:=toF (.el .attr) A6
def Aei:Fct:=eqF (.el .attr) A6
def YC:Fct:=szF (.sl .token) (szL szToken)
def XQ:Fct:=toF (.sl .token) (szL szToken)
def XZ:Fct:=eqF (.sl .token) (szL szToken)
def Y9:Fct:=szF (.el .token) szToken
def Abz:Fct:=toF (.el .token) szToken
def Aad:Fct:=eqF (.el .token) szToken
def P6:Fct:=szF (.el .tokenizer) Bp
def Pn:Fct:=toF (.el .tokenizer) Bp
def PQ:Fct:=eqF (.el .tokenizer) Bp
def ZC:Fct:=szF (.sl .node) (szL szNode)
def Abw:Fct:=toF (.sl .node) (szL szNode)
def Aas:Fct:=eqF (.sl .node) (szL szNode)
def Aeq:Fct:=szF (.el .node) szNode
def Afx:Fct:=toF (.el .node) szNode
def AcS:Fct:=eqF (.el .node) szNode
def Ul:Fct:=szF (.el .ba) szBuilder
def UU:Fct:=toF (.el .ba) szBuilder
def TX:Fct:=eqF (.el .ba) szBuilder
def Yo:Fct:=szF (.el .bj) szPolicy
def V1:Fct:=toF (.el .bj) szPolicy
def YY:Fct:=eqF (.el .bj) szPolicy
def RI:Fct:=szF (.el .bd) Ae
def Rw:Fct:=toF (.el .bd) Ae
def RD:Fct:=eqF (.el .bd) Ae
def Z0:Fct:=szF (.sl .file) (szL EU)
def Aax:Fct:=toF (.sl .file) (szL EU)
def Zn:Fct:=eqF (.sl .file) (szL EU)
def Aen:Fct:=szF (.el .file) EU
def AdJ:Fct:=toF (.el .file) EU
def AeA:Fct:=eqF (.el .file) EU
def Uv:Fct:=szF (.sl .server) (szL A1)
def TS:Fct:=toF (.sl .server) (szL A1)
def U0:Fct:=eqF (.sl .server) (szL A1)
def WS:Fct:=szF (.el .server) A1
def YZ:Fct:=toF (.el .server) A1
def VV:Fct:=eqF (.el .server) A1
def Vw:Fct:=szF (.sl .entry) (szL AT)
def Yl:Fct:=toF (.sl .entry) (szL AT)
def Yv:Fct:=eqF (.sl .entry) (szL AT)
def Aaw:Fct:=szF (.el .entry) AT
def Abk:Fct:=toF (.el .entry) AT
def Z8:Fct:=eqF (.el .entry) AT
def Aa0:Fct:=szF (.el .cache) szCache
def Zc:Fct:=toF (.el .cache) szCache
def AaO:Fct:=eqF (.el .cache) szCache
def Aah:Fct:=szF (.sl .sent) (szL D4)
def AbL:Fct:=toF (.sl .sent) (szL D4)
def Z9:Fct:=eqF (.sl .sent) (szL D4)
def Ad1:Fct:=szF (.el .sent) D4
def AdM:Fct:=toF (.el .sent) D4
def AdT:Fct:=eqF (.el .sent) D4
def AgK:Fct:=szF (.el .net) szNet
def AgJ:Fct:=toF (.el .net) szNet
def Agz:Fct:=eqF (.el .net) szNet
def AbE:Fct:=szF (.sl .slot) (szL AE)
def Abi:Fct:=toF (.sl .slot) (szL AE)
def Z5:Fct:=eqF (.sl .slot) (szL AE)
def Ad4:Fct:=szF (.el .slot) AE
def Afv:Fct:=toF (.el .slot) AE
def Adh:Fct:=eqF (.el .slot) AE
def UG:Fct:=szF (.sl .module) (szL Aq)
def UP:Fct:=toF (.sl .module) (szL Aq)
def Uf:Fct:=eqF (.sl .module) (szL Aq)
def Wb:Fct:=szF (.el .module) Aq
def WA:Fct:=toF (.el .module) Aq
def Yh:Fct:=eqF (.el .module) Aq
def Afo:Fct:=szF (.el .page) szPage
def Adq:Fct:=toF (.el .page) szPage
def Aer:Fct:=eqF (.el .page) szPage
def Y1:Fct:=szF (.sl .guess) (szL BP)
def VF:Fct:=toF (.sl .guess) (szL BP)
def X5:Fct:=eqF (.sl .guess) (szL BP)
def Zu:Fct:=szF (.el .guess) BP
def Z7:Fct:=toF (.el .guess) BP
def AaU:Fct:=eqF (.el .guess) BP
def Z6:Fct:=szF (.sl .conn) (szL CD)
def ZE:Fct:=toF (.sl .conn) (szL CD)
def AbS:Fct:=eqF (.sl .conn) (szL CD)
def AdC:Fct:=szF (.el .conn) CD
def Ac7:Fct:=toF (.el .conn) CD
def Aet:Fct:=eqF (.el .conn) CD
def KZ:Fct:=szF (.el .loader) Dm
def Hz:Fct:=toF (.el .loader) Dm
def L7:Fct:=eqF (.el .loader) Dm
end Go.D
namespace Go.D
theorem AjD:(∀ x:Sh_,(⟨x.kind,x.name,x.bo,x.text⟩:Sh_)=x)/\(∀ x:St_,(⟨x.name,x.text,x.parent,x.bo⟩:St_)=x)/\(∀ x:Se_,(⟨x.bi,x.bl⟩:Se_)=x)/\(∀ x:Sj_,(⟨x.set_,x.bp,x.styles,x.images,x.nonce⟩:Sj_)=x)/\(∀ x:Sa_,(⟨x.addr,x.bj,x.tok,x.bn,x.ended,x.ba,x.bf,x.bh,x.bg,x.block,x.inline,x.bm,x.bq,x.ran,x.log,x.loaded⟩:Sa_)=x)/\(∀ x:Sz_,(⟨x.addr,x.page,x.kept⟩:Sz_)=x)/\(∀ x:SB_,(⟨x.visits,x.at_⟩:SB_)=x)/\(∀ x:Sk_,(⟨x.host,x.files⟩:Sk_)=x)/\(∀ x:So_,(⟨x.bg⟩:So_)=x)/\(∀ x:Su_,(⟨x.servers,x.cache,x.log,x.now⟩:Su_)=x)/\(∀ x:Sc_,(⟨x.net,x.page,x.parts,x.conns,x.guesses⟩:Sc_)=x)/\(∀ x:Sl_,(⟨x.rules⟩:Sl_)=x)/\(∀ x:Sy_,(⟨x.ba,x.log,x.verdicts,x.sheet,x.loaded⟩:Sy_)=x)/\(∀ x:Sp_,(⟨x.mode,x.to,x.digest,x.node,x.done,x.code,x.body⟩:Sp_)=x)/\(∀ x:Sg_,(⟨x.to,x.done,x.code,x.body⟩:Sg_)=x)/\(∀ x:Sb_,(⟨x.host,x.path⟩:Sb_)=x)/\(∀ x:Sf_,(⟨x.kind,x.to,x.from_,x.digest⟩:Sf_)=x)/\(∀ x:Sd_,(⟨x.status,x.kind,x.body,x.age,x.shares,x.bj⟩:Sd_)=x)/\(∀ x:Si_,(⟨x.to,x.left,x.guess,x.bd⟩:Si_)=x)/\(∀ x:Sm_,(⟨x.to,x.bd,x.used⟩:Sm_)=x)/\(∀ x:Sq_,(⟨x.top,x.to,x.bd,x.until_⟩:Sq_)=x)/\(∀ x:Sw_,(⟨x.top,x.to,x.guess⟩:Sw_)=x)/\(∀ x:Sv_,(⟨x.path,x.bd⟩:Sv_)=x) :=
 ⟨AbQ,AdZ,UZ,YS,Ae9,AaN,AgG,V4,AaJ,Agv,Wp,Abl,Wg,Aff,WN,AeV,Ud,RO,Ae3,Abd,Ze,Afq,Ac1⟩
theorem std:(type_of% @AjD)/\(type_of% @AfR)/\(type_of% @Ahb)/\∀ {α:Type} (a b:α),(a≠b) = ¬a=b:=⟨AjD,AfR,Ahb,λ_ _=>rfl⟩
def KP (a b:List Nat):List Nat:=a++(b++b.map (· + 1000000))
def lv:List (Nat×LInv)->TH
 | [],_=>none
 | (m,x)::r,n=>bif n==m then some x else lv r n
theorem Fct.p {S:Fct} {P:Program} {E:Env} {f:Nat} {fn:Func} (kp:List Nat) (L:As S.as->TH) (hE:EOk P E) (hf:P.funcs[f]? = some fn)
 (hh:∀ x,S.pre x->HoldsE (Hc P E (L x) kp [] fn (S.arg x)) (S.ctr x).post) (hc:(fn.body.isSome&&decide (S.as.length<=fn.ntmps))=true:=by kernel_rfl):S.ok P f:=by
 rw[Qa1] at hc;exact Fct.of (L:=L) hE hf hc.1 hc.2 hh
end Go.D
namespace Go.D
set_option linter.unusedSectionVars false
section
variable {α:Type} [DecidableEq α] [Inhabited α]
def Wj:List α->List α
 | []=>[]
 | [a]=>[a]
 | a::b::l=>if a=b then Wj (b::l) else a::Wj (b::l)
structure CompInv (s d:List α) (k0 k k2:Int):Prop where
 c2:1<=k2
 c0:1<=k0
 le:k0+k2<=s.length
 lo:k0<=k
 hi:k<k0+k2
 len:d.length=s.length
 dr:d.drop k.toNat=s.drop k.toNat
 tk:d.take k.toNat=Wj (s.take (k0+k2).toNat)
theorem Kb {s d:List α} {k i:Nat} (h:d.drop k=s.drop k) (hi:k<=i):d.getD i default=s.getD i default:=by
 have h1:(d.drop k)[i-k]? = (s.drop k)[i-k]?:=by rw[h]
 grind
theorem CompInv.at_ {s d:List α} {k0 k k2:Int} (h:CompInv s d k0 k k2) (hlt:k0+k2<s.length) :
 d.getD (k0.toNat+k2.toNat) default=s.getD (k0+k2).toNat default/\d.getD (k0.toNat+(k2-1).toNat) default=s.getD ((k0+k2).toNat-1) default:=by
 obtain⟨a,b,c,e,f,g,i,j⟩:=h;refine⟨?_,?_⟩
 ·rw[Kb i o_];congr 1;omega
 ·rw[Kb i o_];congr 1;omega
end
theorem Ia {α:Type} (xs ys:List α) (e:Nat):(J1 xs e ys).length=min e xs.length+ys.length+(xs.length-(e+ys.length)):=by simp[J1];omega
theorem Jv {α:Type} (xs:List α) (a n:Nat):(cut xs a n).length=min n (xs.length-a):=by simp[cut]
theorem Abm {α:Type} (xs ys:List α) (k:Nat) (h:k<=xs.length):cut (J1 xs k ys) 0 k=xs.take k:=by
 simp[cut,J1,Qc2,Nat.min_eq_left h]
theorem XS {α:Type} {l:List α} {i j m:Nat} (hj:j<=l.length) (hi:i<=j) (hm:m=l.length-j):(J1 l i (cut l j m)).take (i+m)=l.take i++l.drop j:=by
 have h1:cut l j m=l.drop j:=by simp[cut,hm,Qb3]
 rw[h1];have h2:(l.take i++l.drop j).length=i+m:=by simp;omega
 simp only[J1];grind
end Go.D
namespace Go.D
open Go.Lib Go.Sort
def Aac (a b:ByteArray):Int:=compareBytes a.data.toList b.data.toList
theorem Zm:∀ l m:List UInt8,compareBytes l m = -1\/compareBytes l m=0\/compareBytes l m=1:=by
 intro l
 induction l with
 | nil=>intro m;cases m<;>simp[compareBytes]
 | cons a l ih=>
  intro m;cases m with
  | nil=>simp[compareBytes]
  | cons b m=>
   simp only[compareBytes];grind
theorem Af8:∀ {l m:List UInt8},compareBytes l m=0↔l=m:=by
 intro l
 induction l with
 | nil=>intro m;cases m<;>simp[compareBytes]
 | cons a l ih=>
  intro m;cases m with
  | nil=>simp[compareBytes]
  | cons b m=>
   simp only[compareBytes,List.cons.injEq];grind
theorem Aef:∀ {l m:List UInt8},Op.bytesLess l m=decide (compareBytes l m<0):=by
 intro l
 induction l with
 | nil=>intro m;cases m<;>simp[Op.bytesLess,compareBytes]
 | cons a l ih=>
  intro m;cases m with
  | nil=>simp[Op.bytesLess,compareBytes]
  | cons b m=>
   simp only[Op.bytesLess,compareBytes,ih];grind
theorem W7 (a b:ByteArray):Op.bytesLess a.toList b.toList=decide (Aac a b<0):=by
 rw[Aef,Lib.toList_data,Lib.toList_data];rfl
theorem Ag2 {a b:ByteArray} (h:a.data.toList=b.data.toList):a=b:=by
 cases a;cases b;simpa using Array.toList_inj.1 h
theorem L6 {a b:ByteArray}:Aac a b=0↔a=b:=⟨λh=>Ag2 (Af8.1 h),λh=>Af8.2 (by rw[h])⟩
theorem J5 (a b:ByteArray):Aac a b = -1\/Aac a b=0\/Aac a b=1:=Zm _ _
def fCmpStr:Fct:=⟨[aT,aT],[rI],λ_=>True,λx=>(Aac x.1 x.2.1,())⟩
def cmpA (a b:Sb_):Int:=if Aac a.host b.host=0 then Aac a.path b.path else Aac a.host b.host
theorem Ui (a b:Sb_):cmpA a b = -1\/cmpA a b=0\/cmpA a b=1:=by unfold cmpA;split<;>exact J5 _ _
theorem AfH {a b:Sb_}:cmpA a b=0↔a=b:=by
 obtain⟨h,p⟩:=a;obtain⟨h',p'⟩:=b;simp only[cmpA,Sb_.mk.injEq];split
 ·rename_i e;rw[L6,L6.1 e];simp
 ·rename_i e;constructor
  ·omega
  ·rintro⟨rfl,_⟩;exact absurd (L6.2 rfl) e
end Go.D
namespace Go.D
def H9 (n:Int):ByteArray:=⟨(Lib.itoa n).toArray⟩
def Abq (k:Nat) (s:ByteArray):ByteArray:=if k=0 then s else⟨(Lib.decDigits k).toArray⟩++s
theorem F8 {k:Nat} (h:10<=k):Lib.decDigits k=Lib.decDigits (k / 10)++[UInt8.ofNat (48+k % 10)]:=by
 rw[Lib.decDigits,dif_neg o_]
theorem EF {k:Nat} (h:k<10):Lib.decDigits k=[UInt8.ofNat (48+k)]:=by
 rw[Lib.decDigits,dif_pos h]
theorem PP {k:Nat} {s:ByteArray} (h:0<k):Abq k s=Abq (k / 10) (⟨#[UInt8.ofNat (48+k % 10)]⟩++s):=by
 unfold Abq;rw[Qa4 o_];by_cases h1:k<10
 ·rw[Qa2 o_,EF h1,Nat.mod_eq_of_lt h1]
 ·rw[Qa4 o_,F8 o_];rw[<-ByteArray.append_assoc];congr 1
theorem V6:H9 0=⟨#[48]⟩:=by
 unfold H9 Lib.itoa;rw[Qa4 o_,EF (by decide)];rfl
theorem AaG {n:Int} (h:n<0):H9 n=⟨#[45]⟩++Abq n.natAbs ⟨#[]⟩:=by
 unfold H9 Lib.itoa Abq;rw[Qa2 h,Qa4 o_];apply ByteArray.ext;simp
theorem Aay {n:Int} (h:0<n):H9 n=Abq n.natAbs ⟨#[]⟩:=by
 unfold H9 Lib.itoa Abq;rw[Qa4 o_,Qa4 o_,show n.toNat=n.natAbs from o_];apply ByteArray.ext;simp
theorem Fx:∀ (f k:Nat),k<10 ^ (f+1)->(Lib.decDigits k).length<=f+1
 | 0,k,h=>by rw[EF o_];simp
 | f+1,k,h=>by
  by_cases h1:k<10
  ·rw[EF h1];simp
  ·rw[F8 o_,Qa3];have:=Fx f (k / 10) (by rw[Nat.pow_succ] at h;omega);simp only[Qa6,Qc0];omega
theorem Mm {n:Int} (h0 : -9223372036854775808<=n) (h1:n<=9223372036854775807):(H9 n).size<=20:=by
 have e:(H9 n).size=(Lib.itoa n).length:=by simp[H9,ByteArray.size]
 rw[e];unfold Lib.itoa;split
 ·have:=Fx 18 n.natAbs o_;simp only[Qa6];omega
 ·have:=Fx 18 n.toNat o_;omega
theorem Zx (x:Int):(if x.tmod 10<0 then 0-x.tmod 10 else x.tmod 10)=((x.natAbs % 10:Nat):Int):=by
 have h1:(x.tmod 10).natAbs=x.natAbs % 10:=Int.natAbs_tmod x 10;split<;>omega
theorem AaX (x:Int):(x.tdiv 10).natAbs=x.natAbs / 10:=Int.natAbs_tdiv x 10
theorem Akx {k:Nat} (h:k<10):IntKind.u8.wrap (IntKind.i64.wrap (48+(k:Int)))=((48+k:Nat):Int):=by
 have e:IntKind.i64.wrap (48+(k:Int))=48+(k:Int):=Ag o_;rw[e];simp only[IntKind.wrap,IntKind.bits,IntKind.signed,Bool.false_and,Qd4,Qe7];have:(2 ^ 8:Int)=256:=rfl;omega
theorem Vg {k:Nat} (h:k<10):List.foldl (λ(r:ByteArray) (n:Int)=>r.push (UInt8.ofNat n.toNat)) ByteArray.empty [((48+k:Nat):Int)]=⟨#[UInt8.ofNat (48+k)]⟩:=by
 simp only[List.foldl,Qg4];rfl
end Go.D
namespace Go.D
def MA (b:UInt8):List UInt8->List (List UInt8)
 | []=>[[]]
 | x::l=>if x=b then[]::MA b l else match MA b l with
  | []=>[[x]]
  | h::t=>(x::h)::t
theorem JV (b:UInt8) (l:List UInt8):MA b l≠[]:=by
 cases l with
 | nil=>simp[MA]
 | cons x l=>
  unfold MA;grind
def L8 (p:List UInt8):List (List UInt8)->List (List UInt8)
 | []=>[p]
 | h::t=>(p++h)::t
theorem Qr {l:List (List UInt8)} (h:l≠[]):L8 [] l=l:=by
 cases l with
 | nil=>exact absurd rfl h
 | cons x l=>rfl
theorem EA (b x:UInt8) (l:List UInt8):MA b (x::l)=if x=b then[]::MA b l else L8 [x] (MA b l):=by
 rfl
theorem Rk (p q:List UInt8) {l:List (List UInt8)} (h:l≠[]):L8 p (L8 q l)=L8 (p++q) l:=by
 cases l with
 | nil=>exact absurd rfl h
 | cons x l=>simp[L8]
theorem M6 (p h:List UInt8) (t:List (List UInt8)):L8 p (h::t)=(p++h)::t:=rfl
theorem Tk {b:UInt8}:∀ {p:List UInt8} (l:List UInt8),b∉p->MA b (p++b::l)=p::MA b l
 | [],l,_=>by rw[Qg3,EA,Qa2 rfl]
 | x::p,l,h=>by simp only[Qe6,not_or] at h;rw[Qf4,EA,Qa4 (λe=>h.1 e.symm),Tk l h.2];rfl
theorem Qy {b:UInt8}:∀ {p:List UInt8},b∉p->MA b p=[p]
 | [],_=>rfl
 | x::p,h=>by simp only[Qe6,not_or] at h;rw[EA,Qa4 (λe=>h.1 e.symm),Qy h.2];rfl
theorem O0 (b:UInt8):∀ l:List UInt8,(MA b l).length<=l.length+1/\∀ p∈MA b l,p.length<=l.length
 | []=>by simp[MA]
 | x::l=>by
  obtain⟨h1,h2⟩:=O0 b l;rw[EA];split
  ·grind
  ·cases h:MA b l with
   | nil=>exact absurd h (JV b l)
   | cons y t=>
    rw[h] at h1 h2;refine⟨by simp only[L8,Qa6] at h1 ⊢;omega,λp hp=>?_⟩;simp only[L8,Qe6] at hp;grind
def ofL (l:List UInt8):ByteArray:=⟨l.toArray⟩
def toL (s:ByteArray):List UInt8:=s.data.toList
theorem DU (s:ByteArray):ofL (toL s)=s:=by simp[ofL,toL]
theorem JQ (l:List UInt8):toL (ofL l)=l:=by simp[ofL,toL]
theorem BQ (s:ByteArray):(toL s).length=s.size:=rfl
theorem FX (l:List UInt8):(ofL l).size=l.length:=by simp[ofL,ByteArray.size]
theorem EI (s t:ByteArray):toL (s++t)=toL s++toL t:=by simp[toL]
theorem HN (l m:List UInt8):ofL (l++m)=ofL l++ofL m:=by
 rfl
theorem Bm (s:ByteArray) (a b:Nat):toL (s.extract a b)=((toL s).take b).drop a:=by
 simp[toL,List.drop_take]
def spl (b:UInt8) (s:ByteArray):List ByteArray:=(MA b (toL s)).map ofL
def Ka (b:UInt8) (s:ByteArray) (a i:Nat):List ByteArray:=if i<=s.size then(L8 (((toL s).take i).drop a) (MA b ((toL s).drop i))).map ofL else[]
theorem UF (b:UInt8) (s:ByteArray):Ka b s 0 0=spl b s:=by
 unfold Ka spl;rw[Qa2 (Nat.zero_le _)];simp[Qr (JV b _)]
theorem Pq (b:UInt8) {s:ByteArray} {a i:Nat} (h:s.size<i):Ka b s a i=[]:=by
 unfold Ka;rw[Qa4 o_]
theorem Up (b:UInt8) {s:ByteArray} {a i:Nat} (h:i=s.size):Ka b s a i=[s.extract a i]:=by
 subst h;unfold Ka;rw[Qa2 (Qa7 _),Qb0 (l:=toL s) (i:=s.size) (by rw[BQ];exact Qa7 _)];rw[MA,M6,Qd5,Qd2,<-Bm,DU];rfl
theorem HH {s:ByteArray} {i:Nat} (h:i<s.size):(toL s).drop i=s.data.getD i 0::(toL s).drop (i+1):=by
 have h2:i<s.data.size:=h;have e:s.data.getD i 0=s.data[i]:=by unfold Array.getD;rw[dif_pos h2];rfl
 rw[List.drop_eq_getElem_cons (by rw[BQ];exact h),e];rfl
theorem W8 {b:UInt8} {s:ByteArray} {a i:Nat} (h:i<s.size) (hb:s.data.getD i 0=b):Ka b s a i=s.extract a i::Ka b s (i+1) (i+1):=by
 unfold Ka;rw[Qa2 o_,Qa2 o_,HH h,EA,Qa2 hb];rw[M6,Qd5,Qd2,<-Bm,DU,Qb0 (l:=(toL s).take (i+1)) (i:=i+1) (by rw[Qc2];omega),Qr (JV b _)]
theorem Ux {b:UInt8} {s:ByteArray} {a i:Nat} (h:i<s.size) (ha:a<=i) (hb:s.data.getD i 0≠b):Ka b s a i=Ka b s a (i+1):=by
 unfold Ka;rw[Qa2 o_,Qa2 o_,HH h,EA,Qa4 hb,Rk _ _ (JV b _)];congr 2;have:(toL s).take (i+1)=(toL s).take i++[s.data.getD i 0]:=by
  have h2:i<s.data.size:=h;have e:s.data.getD i 0=s.data[i]:=by unfold Array.getD;rw[dif_pos h2];rfl
  rw[List.take_succ_eq_append_getElem (by rw[BQ];exact h),e];rfl
 rw[this,List.drop_append_of_le_length (by rw[Qc2,BQ];omega)]
theorem Sm (b:UInt8):∀ l:List UInt8,((MA b l).map λp=>p.length+1).sum=l.length+1
 | []=>rfl
 | x::l=>by
  have h:=Sm b l;rw[EA];split
  ·grind
  ·cases hq:MA b l with
   | nil=>exact absurd hq (JV b l)
   | cons y t=>
    rw[hq] at h;simp only[Qd2,List.sum_cons,L8,Qa3,Qa6,Qc0] at h ⊢;omega
theorem D9 (b:UInt8) (s:ByteArray):0<(spl b s).length/\(spl b s).length<=s.size+1:=by
 have h:=O0 b (toL s);have h2:=JV b (toL s);rw[BQ] at h;unfold spl;grind
theorem IC {b:UInt8} {s x:ByteArray} (h:x∈spl b s):x.size<=s.size:=by
 unfold spl at h;obtain⟨p,hp,rfl⟩:=Qg7.1 h;rw[FX];exact(O0 b (toL s)).2 p hp
def EZ (b:UInt8):List UInt8->Option (List UInt8×List UInt8)
 | []=>none
 | x::l=>if x=b then some ([],l) else(EZ b l).map λr=>(x::r.1,r.2)
theorem LY {b:UInt8}:∀ {l:List UInt8},b∉l->EZ b l=none
 | [],_=>rfl
 | x::l,h=>by simp only[Qe6,not_or] at h;rw[EZ,Qa4 (λe=>h.1 e.symm),LY h.2];rfl
theorem Oe {b:UInt8}:∀ {p:List UInt8} (l:List UInt8),b∉p->EZ b (p++b::l)=some (p,l)
 | [],l,_=>by rw[Qg3,EZ,Qa2 rfl]
 | x::p,l,h=>by simp only[Qe6,not_or] at h;rw[Qf4,EZ,Qa4 (λe=>h.1 e.symm),Oe l h.2];rfl
theorem WP {b:UInt8} {s:ByteArray} {i:Nat} (h:i<s.size) (hb:s.data.getD i 0=b) (hn:b∉(toL s).take i):EZ b (toL s)=some ((toL s).take i,(toL s).drop (i+1)):=by
 have e:toL s=(toL s).take i++b::(toL s).drop (i+1):=by rw[<-hb,<-HH h,Qe4]
 rw[e,Oe _ hn,<-e]
theorem Xb {b:UInt8} {s:ByteArray} {i:Nat} (h:i<s.size) (hb:s.data.getD i 0≠b) (hn:b∉(toL s).take i):b∉(toL s).take (i+1):=by
 have h2:i<s.data.size:=h;have e:s.data.getD i 0=s.data[i]:=by unfold Array.getD;rw[dif_pos h2];rfl
 rw[List.take_succ_eq_append_getElem (by rw[BQ];exact h),Qb9,not_or];refine⟨hn,?_⟩;simp only[List.mem_singleton];intro h3;exact hb (by rw[e];exact h3.symm)
end Go.D
namespace Go.D
open Go.Sort
def pv:Ty->Bool
 | .int=>true
 | .bool=>true
 | .str=>true
 | .u8=>true
 | _=>false
def vOf (t:Ty) (x:El t):Value:=match enc t x with
 | [.val v]=>v
 | _=>undef
def Hw:(as:List Ak)->As as->List Value
 | [],_=>[]
 | .v (.el t)::as,x=>vOf t x.1::Hw as x.2
 | _::as,x=>undef::Hw as x.2
def It:List Ak->Bool
 | []=>true
 | .v (.el t)::as=>pv t&&It as
 | _::_=>false
def GE:List Sh->Bool
 | []=>true
 | .el t::rs=>pv t&&GE rs
 | _::_=>false
def Iz:(rs:List Sh)->Ts rs->List Value
 | [],_=>[]
 | .el t::rs,x=>vOf t x.1::Iz rs x.2
 | .sl _::rs,x=>undef::Iz rs x.2
def Ad0:List Value->Value
 | [v]=>v
 | vs=>.tuple vs.toArray
theorem WH {t:Ty} (h:pv t=true) (x:El t):enc t x=[.val (vOf t x)]/\plain (vOf t x)=true/\(Sh.el t).agg=false:=by
 cases t<;>first|exact⟨rfl,rfl,rfl⟩|cases h
theorem NE {w:World} {G:Gh}:∀ (as:List Ak) (x:As as),It as=true->∀ (vs:List Value),vs.length=(Es as x).length->(∀ (j:Nat) (y:TV),(Es as x)[j]? = some y->∃ v,vs[j]? = some v/\TVR w G y v)->vs=Hw as x:=by
 intro as
 induction as with
 | nil=>intro x _ vs hl _;exact List.eq_nil_of_length_eq_zero hl
 | cons a as ih=>
  intro x hp vs hl hh;cases a with
  | v s=>
   cases s with
   | el t=>
    simp only[It,Qa1] at hp;obtain⟨e1,e2,e3⟩:=WH hp.1 x.1;cases vs with
    | nil=>simp[Es] at hl
    | cons v vs=>
     obtain⟨v',hv,hr⟩:=hh 0 _ rfl;simp only[List.getElem?_cons_zero,Qa0] at hv;subst hv;have hc:Aaz (.v (.el t)) x.1=.v false [.sc (vOf t x.1)]:=by show TV.v (Sh.el t).agg ((enc t x.1).map (toCell none))=_;rw[e1,e3];rfl
     rw[hc] at hr;obtain⟨c,hc1,hc2⟩:=hr;injection hc1 with hc1
     subst hc1;rw[Hw,hc2.1,ih x.2 hp.2 vs (by simpa [Es] using hl) λj y hj=>hh (j+1) y hj]
   | sl t=>simp[It] at hp
  | _=>simp[It] at hp
theorem LK:∀ (rs:List Sh) (y:Ts rs),GE rs=true->JA rs y=(Iz rs y).map λv=>(false,[FC.val v]):=by
 intro rs
 induction rs with
 | nil=>intro y _;rfl
 | cons s rs ih=>
  intro y hp;cases s with
  | el t=>
   simp only[GE,Qa1] at hp;obtain⟨e1,e2,e3⟩:=WH hp.1 y.1;simp only[JA,Iz,Qd2,ih y.2 hp.2,e3];congr 2
  | sl t=>simp[GE] at hp
theorem QB:∀ (rs:List Sh) (y:Ts rs),GE rs=true->∀ v∈Iz rs y,plain v=true:=by
 intro rs
 induction rs with
 | nil=>intro y _ v hv;cases hv
 | cons s rs ih=>
  intro y hp v hv;cases s with
  | el t=>
   simp only[GE,Qa1] at hp;rcases Qe6.1 hv with rfl|hv
   ·exact(WH hp.1 y.1).2.1
   ·grind
  | sl t=>simp[GE] at hp
theorem Acj {w:World}:∀ (vs:List Value),(∀ v∈vs,plain v=true)->ResR w (T1 (vs.map λv=>(false,[FC.val v]))) (Ad0 vs) (λ_ _ _=>False)
 | [],_=>⟨#[],rfl,rfl,by simp⟩
 | [v],h=>by
  refine⟨_,rfl,⟨rfl,h v (by simp)⟩,LO (h v (by simp))⟩
 | v::u::vs,h=>by
  refine⟨(v::u::vs).toArray,rfl,by simp,λi p hp=>?_⟩;have hp:((v::u::vs).map λv=>(false,[FC.val v]))[i]? = some p:=hp;rw[Qc3] at hp;cases hq:(v::u::vs)[i]? with
  | none=>rw[hq] at hp;cases hp
  | some x=>
   rw[hq] at hp;injection hp with hp
   subst hp;have:=h x (Qf9 hq);exact⟨x,by simpa using hq,_,rfl,⟨rfl,this⟩,LO this⟩
theorem SF {P:Program} {f:Nat} {S:Fct} (ha:It S.as=true) (hr:GE S.rs=true)
 (h:∀ x,S.pre x->∀ (w:World) (ow:Nat->Own),Base P w ow->Calls P f (Hw S.as x).toArray w λe w'=>e=.returned (Ad0 (Iz S.rs (S.fn x)))/\∃ n os,w'=grow (w.drewN n) os):S.ok P f:=by
 intro x hx w vs G hB hA;have hvs:vs=(Hw S.as x).toArray:=by
  have:=NE (w:=w) (G:=G) S.as x ha vs.toList (by simpa [Fct.arg] using hA.sz) λj y hj=>by obtain⟨v,hv,hr⟩:=hA.tm j y hj;simp_all
  rw[<-this]
 subst hvs;refine(h x hx w _ hB).mono ?_;rintro e w' ⟨rfl,n,os,rfl⟩;have hold:∀ g,g<w.heap.size->(grow (w.drewN n) os).heap[g]? = w.heap[g]?:=λg hg=>by rw[heap_grow_old _ _ (show g<(w.drewN n).heap.size from hg)];rfl
 refine⟨_,⟨mkR S.rs (S.fn x),[],[]⟩,rfl,rfl,⟨rfl,rfl,⟨rfl,by first|exact DrLe.refl _|exact DrLe.succ _|exact DrLe.add _ _⟩,?_⟩,λg hg=>hold g (hA.lt g (by simp[hg])),λg hg=>(hA.cr g hg).same (hold g (hA.lt g (by simp[hg]))),λ_ _=>False,by simp,by simp,?_,?_,?_⟩
 ·show w.heap.size<=(w.heap++os).size;simp
 ·show ResR _ (T1 (JA S.rs (S.fn x))) _ _;rw[LK _ _ hr];exact Acj _ (QB _ _ hr)
 ·intro m T hm;cases hm
 ·intro b cs hb;cases hb
theorem Zd (w:World):w=grow (w.drewN 0) #[]:=by
 rfl
end Go.D
namespace Go.D
open Go.RowKit
theorem QQ (w:World) (r:Array Value) (T:TypeId) (j:Nat) (v:Value):(w.alloc (.cells r T)).setCell ⟨w.heap.size,j,none⟩ v=w.alloc (.cells (r.setIfInBounds j v) T):=by
 rw[setCell_eq_setRow _ _ _ r T (0,0) v (heap_alloc_last w _),World.setRow_alloc_new]
theorem ET (w:World) (r:Array Value) (T:TypeId) (j:Nat):(w.alloc (.cells r T)).cell? ⟨w.heap.size,j,none⟩=r[j]?:=cell_of_row _ _ j r T (0,0) (heap_alloc_last w _)
theorem N3 (w:World) (r:Array Value) (T:TypeId) (j:Nat):(w.alloc (.cells r T)).frozen? ⟨w.heap.size,j,none⟩=false:=by
 simp
theorem Ta {r:Array Value} {i:Nat} {v:Value} (hi:i<r.size) (t:Nat):(r.setIfInBounds i v)[t]? = if t=i then some v else r[t]?:=by
 grind
structure Neu (w w':World):Prop where
 os:w'.os=w.os
 tape:w'.tape=w.tape
 output:w'.output=w.output
 drawn:DrLe w.drawn w'.drawn
 size:w.heap.size<=w'.heap.size
 old:∀ g,g<w.heap.size->w'.heap[g]? = w.heap[g]?
theorem Neu.refl (w:World):Neu w w:=⟨rfl,rfl,rfl,DrLe.refl _,Qa7 _,λ_ _=>rfl⟩
theorem Neu.drew {w w':World} (h:Neu w w'):Neu w w'.drew:=⟨h.os,h.tape,h.output,h.drawn.trans (DrLe.succ _),h.size,h.old⟩
theorem Neu.alloc {w w':World} (h:Neu w w') (o:Obj):Neu w (w'.alloc o):=⟨h.os,h.tape,h.output,h.drawn,by rw[World.size_alloc];have:=h.size;omega,λg hg=>by
 rw[<-h.old g hg];show(w'.heap.push o)[g]? = _;rw[Array.getElem?_push,Qa4 (by have:=h.size;omega)]⟩
theorem Neu.set {w w':World} (h:Neu w w') {a:Addr} (ha:w.heap.size<=a.block) (v:Value):Neu w (w'.setCell a v):=⟨h.os,h.tape,h.output,h.drawn,by rw[World.size_setCell];exact h.size,λg hg=>by
 rw[<-h.old g hg];unfold World.setCell;simp only[Array.getElem?_modify];rw[Qa4 o_]⟩
theorem Neu.bytes {w w':World} (h:Neu w w') (e:TypeId) (s:ByteArray):Neu w (Lib.bytesWorld w' e s):=⟨h.os,h.tape,h.output,h.drawn.trans (DrLe.succ _),by rw[Lib.bytesWorld_size];have:=h.size;omega,λg hg=>by
 rw[<-h.old g hg];exact Lib.bytesWorld_at_old w' e s g (by have:=h.size;omega)⟩
theorem Neu.put {w w':World} (h:Neu w w') {α:Type} [Inhabited α] (enc:α->Value) {b:Nat} (hb:w.heap.size<=b) (off:Nat) (d:Array α):Neu w (Go.Sort.putRow enc w' b off d):=⟨h.os,h.tape,h.output,h.drawn,by
 unfold Go.Sort.putRow Go.Sort.mapBlock;simp only[Array.size_modify];exact h.size,λg hg=>by
 rw[<-h.old g hg];unfold Go.Sort.putRow Go.Sort.mapBlock;simp only[Array.getElem?_modify];rw[Qa4 o_]⟩
theorem Neu.trans {a b c:World} (h:Neu a b) (k:Neu b c):Neu a c:=⟨k.os.trans h.os,k.tape.trans h.tape,k.output.trans h.output,h.drawn.trans k.drawn,Qd8 h.size k.size,λg hg=>(k.old g (Qf7 hg h.size)).trans (h.old g hg)⟩
theorem Neu.below {w w':World} (h:Below w.heap.size w w'):Neu w w':=⟨h.os,h.tape,h.output,trivial,h.size,λg hg=>h.block g hg⟩
theorem Neu.grow (w:World) (k:Nat) (os:Array Obj):Neu w (Go.Sort.grow (w.drewN k) os):=⟨rfl,rfl,rfl,DrLe.add _ _,by show w.heap.size<=(w.heap++os).size;simp,λg hg=>by
 show(w.heap++os)[g]? = _;rw[Array.getElem?_append_left hg]⟩
theorem Neu.laid {P:Program} {w w':World} (h:Neu w w') (l:Laid P w):Laid P w' :=
 ⟨λq=>JC h.old (l.1 q),λq=>let ⟨tp,p,hv⟩:=l.2.1 q;⟨tp,p,JC h.old hv⟩,λq=>let ⟨tp,p,hv⟩:=l.2.2 q;⟨tp,p,JC h.old hv⟩⟩
theorem Sz {P:Program} {w:World} {n:String} {g:Nat} {x:Value} (hg:P.globalNamed n=some g) (h:w.var? P n=some #[x]):w.cell? ⟨g,0,none⟩=some x:=by
 unfold World.var? at h;rw[hg,Option.bind_some] at h;split at h
 ·rename_i cs e z hh;simp only[Qa0] at h;subst h;simp[World.cell?,hh]
 ·cases h
open Go.Sort in
theorem QK {P:Program} {f:Nat} {S:Fct} (ha:It S.as=true) (hr:GE S.rs=true)
 (h:∀ x,S.pre x->∀ (w:World) (ow:Nat->Own),Base P w ow->Calls P f (Hw S.as x).toArray w λe w'=>e=.returned (Ad0 (Iz S.rs (S.fn x)))/\Neu w w'):S.ok P f:=by
 intro x hx w vs G hB hA;have hvs:vs=(Hw S.as x).toArray:=by
  have:=NE (w:=w) (G:=G) S.as x ha vs.toList (by simpa [Fct.arg] using hA.sz) λj y hj=>by obtain⟨v,hv,hr⟩:=hA.tm j y hj;simp_all
  rw[<-this]
 subst hvs;refine(h x hx w _ hB).mono ?_;rintro e w' ⟨rfl,hn⟩;refine⟨_,⟨mkR S.rs (S.fn x),[],[]⟩,rfl,rfl,⟨hn.os,hn.tape,⟨hn.output,hn.drawn⟩,hn.size⟩,λg hg=>hn.old g (hA.lt g (by simp[hg])),λg hg=>(hA.cr g hg).same (hn.old g (hA.lt g (by simp[hg]))),λ_ _=>False,by simp,by simp,?_,?_,?_⟩
 ·show ResR _ (T1 (JA S.rs (S.fn x))) _ _;rw[LK _ _ hr];exact Acj _ (QB _ _ hr)
 ·intro m T hm;cases hm
 ·intro b cs hb;cases hb
end Go.D
