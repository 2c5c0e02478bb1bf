/-
  The library of the proof, part 4.
-/
import Derived.Test.YtmeicddakaciiaaGreatDoorVNc
import Derived.Lib.Bytealg
import Derived.Sort.LotA
import Derived.Laws.Strings
import Derived.Lib.ItoaNum
import Derived.Sort.Grow
import Derived.Deep.Draws
import Derived.Deep.WholeRow
import Derived.Laws.CopyRow
import Derived.Laws.NewBlocks
import Derived.Lib.ConvBytes
set_option linter.defProp false
set_option linter.unusedVariables false
set_option linter.unusedSimpArgs false
namespace Go.D
set_option linter.unusedSimpArgs false
set_option maxRecDepth 100000
set_option maxHeartbeats 2000000
def szAddr (x:Sb_):Nat:=x.host.size+x.path.size
def A3 (x:Ss_):Nat:=x.name.size+x.value.size
def szToken (x:Sh_):Nat:=x.name.size+szL A3 x.bo+x.text.size
def Bo (x:Sn_):Nat:=x.rest.size
def szNode (x:St_):Nat:=x.name.size+x.text.size+szL A3 x.bo
def szBuilder (x:Se_):Nat:=szL szNode x.bi+x.bl.length
def MQ (x:Sx_):Nat:=x.name.size
def D8 (x:So_):Nat:=szL MQ x.rules
def Dr (x:Sr_):Nat:=x.text.size
def szPolicy (x:Si_):Nat:=szL Ad x.bp+szL Ad x.styles+szL Ad x.images+x.nonce.size
def Ae (x:Sd_):Nat:=x.body.size+x.bj.size
def szRequest (x:Sf_):Nat:=szAddr x.to+x.from_.size+x.digest.size
def Ey (x:Sv_):Nat:=x.path.size+Ae x.bd
def AY (x:Sk_):Nat:=x.host.size+szL Ey x.files
def AP (x:Sq_):Nat:=x.top.size+szAddr x.to+Ae x.bd
def szCache (x:Sm_):Nat:=szL AP x.bg
def DM (x:Sw_):Nat:=x.top.size+szAddr x.to
def szNet (x:Su_):Nat:=szL AY x.servers+szCache x.cache+szL DM x.log
def AA (x:Sp_):Nat:=szAddr x.to+x.digest.size+x.body.size
def Am (x:Sg_):Nat:=szAddr x.to+x.body.size
def szPage (x:Sa_):Nat:=szAddr x.addr+szPolicy x.bj+Bo x.tok+szL szToken x.bn+szBuilder x.ba+szL AA x.bf+szL Am x.bh+szL szAddr x.bg+szL szAddr x.ran+szL Ad x.log
def Bs (x:Sl_):Nat:=szAddr x.to+Ae x.bd
def Cc (x:Sj_):Nat:=szAddr x.to+Ae x.bd
def CX (x:Sc_):Nat:=szNet x.net+szPage x.page+szL Ad x.parts+szL Cc x.conns+szL Bs x.guesses
def Aii (x y:ByteArray):(x==y)=decide (x=y):=by
 rw[Bool.eq_iff_iff,Qa9];constructor
 ·intro h;have h':(x.data==y.data)=true:=h;cases x;cases y;simpa using h'
 ·rintro rfl;show(x.data==x.data)=true;simp
def Dj (x y:Sb_):(x.host==y.host&&(x.path==y.path&&true))=decide (x=y):=by
 rw[Bool.eq_iff_iff];cases x;cases y;simp[Aii]
def SK:List (Fe ByteArray):=[.s (λx=>x) λ_ v=>v]
def FV:ByteArray->Int->ByteArray×Int:=mkA SK
def Lm:Laws SK:=by repeat' first|exact λ_ _=>rfl|exact λ_=>rfl|constructor
def HD:Bd (szL Ad) (Ap FV):=bdL Lm (λx=>by simp only[EK,Fe.cost,SK];omega)
def AjH:List (Fe Int):=[.i (λx=>x) λ_ v=>v]
def AbZ:Int->Int->Int×Int:=mkA AjH
def Xa:Laws AjH:=by repeat' first|exact λ_ _=>rfl|exact λ_=>rfl|constructor
def Q4:Bd List.length (Ap AbZ):=λl k=>by
 have h:=bdL (n:=λ_=>0) Xa (λx=>by simp only[EK,Fe.cost,AjH];omega) l k;have e:∀ l:List Int,szL (λ_=>0) l=l.length:=λl=>by
  induction l with
  | nil=>rfl
  | cons a l ih=>simp only[szL,Qc5,List.sum_cons,Qa6] at *;omega
 rw[e] at h;exact h
def Ae7:List (Fe Sb_):=[.s (λx=>x.host) λx v=>{x with host:=v},.s (λx=>x.path) λx v=>{x with path:=v}]
def PT:Sb_->Int->Sb_×Int:=mkA Ae7
def RQ:Laws Ae7:=by repeat' first|exact λ_ _=>rfl|exact λ_=>rfl|constructor
def We:Bd (szL szAddr) (Ap PT):=bdL RQ (λx=>by simp only[EK,Fe.cost,Ae7,szAddr];omega)
def Af0:List (Fe Ss_):=[.s (λx=>x.name) λx v=>{x with name:=v},.s (λx=>x.value) λx v=>{x with value:=v}]
def Qk:Ss_->Int->Ss_×Int:=mkA Af0
def S4:Laws Af0:=by repeat' first|exact λ_ _=>rfl|exact λ_=>rfl|constructor
def NM:Bd (szL A3) (Ap Qk):=bdL S4 (λx=>by simp only[EK,Fe.cost,Af0,A3];omega)
def Aaf:List (Fe Sh_):=[.i (λx=>x.kind) λx v=>{x with kind:=v},.s (λx=>x.name) λx v=>{x with name:=v},.l (.sl .attr) (szL A3) (Ap Qk) (λx=>x.bo) λx v=>{x with bo:=v},.s (λx=>x.text) λx v=>{x with text:=v}]
def OB:Sh_->Int->Sh_×Int:=mkA Aaf
def Pa:Laws Aaf:=by repeat' first|exact λ_ _=>rfl|exact λ_=>rfl|exact NM|constructor
def S8:Bd (szL szToken) (Ap OB):=bdL Pa (λx=>by simp only[EK,Fe.cost,Aaf,szToken];omega)
def AgT:List (Fe St_):=[.s (λx=>x.name) λx v=>{x with name:=v},.s (λx=>x.text) λx v=>{x with text:=v},.i (λx=>x.parent) λx v=>{x with parent:=v},.l (.sl .attr) (szL A3) (Ap Qk) (λx=>x.bo) λx v=>{x with bo:=v}]
def UX:St_->Int->St_×Int:=mkA AgT
def Tw:Laws AgT:=by repeat' first|exact λ_ _=>rfl|exact λ_=>rfl|exact NM|constructor
def WD:Bd (szL szNode) (Ap UX):=bdL Tw (λx=>by simp only[EK,Fe.cost,AgT,szNode];omega)
def Oq:List (Fe Se_):=[.l (.sl .node) (szL szNode) (Ap UX) (λx=>x.bi) λx v=>{x with bi:=v},.l (.sl .int) List.length (Ap AbZ) (λx=>x.bl) λx v=>{x with bl:=v}]
def JA:Se_->Int->Se_×Int:=mkA Oq
def JU:Laws Oq:=by repeat' first|exact λ_ _=>rfl|exact λ_=>rfl|exact Q4|exact WD|constructor
def QK:Bd szBuilder JA:=bdV JU (λx=>by simp only[EK,Fe.cost,Oq,szBuilder];omega)
def Sp:List (Fe Si_):=[.l (.sl .str) (szL Ad) (Ap FV) (λx=>x.bp) λx v=>{x with bp:=v},.l (.sl .str) (szL Ad) (Ap FV) (λx=>x.styles) λx v=>{x with styles:=v},.l (.sl .str) (szL Ad) (Ap FV) (λx=>x.images) λx v=>{x with images:=v}]
def K3:Si_->Int->Si_×Int:=mkA Sp
def Mk:Laws Sp:=by repeat' first|exact λ_ _=>rfl|exact λ_=>rfl|exact HD|constructor
def Sw:Bd szPolicy K3:=bdV Mk (λx=>by simp only[EK,Fe.cost,Sp,szPolicy];omega)
def AeP:List (Fe Sv_):=[.s (λx=>x.path) λx v=>{x with path:=v},.i (λx=>x.bd.status) λx v=>{x with bd:={x.bd with status:=v}},.i (λx=>x.bd.kind) λx v=>{x with bd:={x.bd with kind:=v}},.s (λx=>x.bd.body) λx v=>{x with bd:={x.bd with body:=v}},.i (λx=>x.bd.age) λx v=>{x with bd:={x.bd with age:=v}},.b (λx=>x.bd.shares) λx v=>{x with bd:={x.bd with shares:=v}},.s (λx=>x.bd.bj) λx v=>{x with bd:={x.bd with bj:=v}}]
def Uy:Sv_->Int->Sv_×Int:=mkA AeP
def SX:Laws AeP:=by repeat' first|exact λ_ _=>rfl|exact λ_=>rfl|constructor
def Va:Bd (szL Ey) (Ap Uy):=bdL SX (λx=>by simp only[EK,Fe.cost,AeP,Ey,Ae];omega)
def Sq:List (Fe Sk_):=[.s (λx=>x.host) λx v=>{x with host:=v},.l (.sl .file) (szL Ey) (Ap Uy) (λx=>x.files) λx v=>{x with files:=v}]
def KZ:Sk_->Int->Sk_×Int:=mkA Sq
def Mx:Laws Sq:=by repeat' first|exact λ_ _=>rfl|exact λ_=>rfl|exact Va|constructor
def RD:Bd (szL AY) (Ap KZ):=bdL Mx (λx=>by simp only[EK,Fe.cost,Sq,AY];omega)
def Aae:List (Fe Sq_):=[.s (λx=>x.top) λx v=>{x with top:=v},.s (λx=>x.to.host) λx v=>{x with to:={x.to with host:=v}},.s (λx=>x.to.path) λx v=>{x with to:={x.to with path:=v}},.i (λx=>x.bd.status) λx v=>{x with bd:={x.bd with status:=v}},.i (λx=>x.bd.kind) λx v=>{x with bd:={x.bd with kind:=v}},.s (λx=>x.bd.body) λx v=>{x with bd:={x.bd with body:=v}},.i (λx=>x.bd.age) λx v=>{x with bd:={x.bd with age:=v}},.b (λx=>x.bd.shares) λx v=>{x with bd:={x.bd with shares:=v}},.s (λx=>x.bd.bj) λx v=>{x with bd:={x.bd with bj:=v}},.i (λx=>x.until_) λx v=>{x with until_:=v}]
def OY:Sq_->Int->Sq_×Int:=mkA Aae
def Pg:Laws Aae:=by repeat' first|exact λ_ _=>rfl|exact λ_=>rfl|constructor
def Td:Bd (szL AP) (Ap OY):=bdL Pg (λx=>by simp only[EK,Fe.cost,Aae,szAddr,AP,Ae];omega)
def AaQ:List (Fe Sm_):=[.l (.sl .entry) (szL AP) (Ap OY) (λx=>x.bg) λx v=>{x with bg:=v}]
def OH:Sm_->Int->Sm_×Int:=mkA AaQ
def Pp:Laws AaQ:=by repeat' first|exact λ_ _=>rfl|exact λ_=>rfl|exact Td|constructor
def Vy:Bd szCache OH:=bdV Pp (λx=>by simp only[EK,Fe.cost,AaQ,szCache];omega)
def Ahh:List (Fe Sw_):=[.s (λx=>x.top) λx v=>{x with top:=v},.s (λx=>x.to.host) λx v=>{x with to:={x.to with host:=v}},.s (λx=>x.to.path) λx v=>{x with to:={x.to with path:=v}},.b (λx=>x.guess) λx v=>{x with guess:=v}]
def TL:Sw_->Int->Sw_×Int:=mkA Ahh
def SI:Laws Ahh:=by repeat' first|exact λ_ _=>rfl|exact λ_=>rfl|constructor
def Wo:Bd (szL DM) (Ap TL):=bdL SI (λx=>by simp only[EK,Fe.cost,Ahh,szAddr,DM];omega)
def Ajp:List (Fe Su_):=[.l (.sl .server) (szL AY) (Ap KZ) (λx=>x.servers) λx v=>{x with servers:=v},.l (.el .cache) szCache OH (λx=>x.cache) λx v=>{x with cache:=v},.l (.sl .sent) (szL DM) (Ap TL) (λx=>x.log) λx v=>{x with log:=v}]
def AbM:Su_->Int->Su_×Int:=mkA Ajp
def ZV:Laws Ajp:=by repeat' first|exact λ_ _=>rfl|exact λ_=>rfl|exact Wo|exact RD|exact Vy|constructor
def Abl:Bd szNet AbM:=bdV ZV (λx=>by simp only[EK,Fe.cost,Ajp,szNet];omega)
def Agt:List (Fe Sp_):=[.i (λx=>x.mode) λx v=>{x with mode:=v},.s (λx=>x.to.host) λx v=>{x with to:={x.to with host:=v}},.s (λx=>x.to.path) λx v=>{x with to:={x.to with path:=v}},.s (λx=>x.digest) λx v=>{x with digest:=v},.i (λx=>x.node) λx v=>{x with node:=v},.b (λx=>x.done) λx v=>{x with done:=v},.i (λx=>x.code) λx v=>{x with code:=v},.s (λx=>x.body) λx v=>{x with body:=v}]
def TD:Sp_->Int->Sp_×Int:=mkA Agt
def Tu:Laws Agt:=by repeat' first|exact λ_ _=>rfl|exact λ_=>rfl|constructor
def Wh:Bd (szL AA) (Ap TD):=bdL Tu (λx=>by simp only[EK,Fe.cost,Agt,szAddr,AA];omega)
def So:List (Fe Sg_):=[.s (λx=>x.to.host) λx v=>{x with to:={x.to with host:=v}},.s (λx=>x.to.path) λx v=>{x with to:={x.to with path:=v}},.b (λx=>x.done) λx v=>{x with done:=v},.i (λx=>x.code) λx v=>{x with code:=v},.s (λx=>x.body) λx v=>{x with body:=v}]
def Li:Sg_->Int->Sg_×Int:=mkA So
def Mf:Laws So:=by repeat' first|exact λ_ _=>rfl|exact λ_=>rfl|constructor
def Qa:Bd (szL Am) (Ap Li):=bdL Mf (λx=>by simp only[EK,Fe.cost,So,szAddr,Am];omega)
def AeM:List (Fe Sa_):=[.l (.el .bj) szPolicy K3 (λx=>x.bj) λx v=>{x with bj:=v},.l (.sl .token) (szL szToken) (Ap OB) (λx=>x.bn) λx v=>{x with bn:=v},.l (.el .ba) szBuilder JA (λx=>x.ba) λx v=>{x with ba:=v},.l (.sl .slot) (szL AA) (Ap TD) (λx=>x.bf) λx v=>{x with bf:=v},.l (.sl .module) (szL Am) (Ap Li) (λx=>x.bh) λx v=>{x with bh:=v},.l (.sl .addr) (szL szAddr) (Ap PT) (λx=>x.bg) λx v=>{x with bg:=v},.l (.sl .addr) (szL szAddr) (Ap PT) (λx=>x.ran) λx v=>{x with ran:=v},.l (.sl .str) (szL Ad) (Ap FV) (λx=>x.log) λx v=>{x with log:=v}]
def Ur:Sa_->Int->Sa_×Int:=mkA AeM
def SQ:Laws AeM:=by repeat' first|exact λ_ _=>rfl|exact λ_=>rfl|exact We|exact Qa|exact Wh|exact HD|exact S8|exact QK|exact Sw|constructor
def Zd:Bd szPage Ur:=bdV SQ (λx=>by simp only[EK,Fe.cost,AeM,szPage];omega)
def Z4:List (Fe Sl_):=[.s (λx=>x.to.host) λx v=>{x with to:={x.to with host:=v}},.s (λx=>x.to.path) λx v=>{x with to:={x.to with path:=v}},.i (λx=>x.bd.status) λx v=>{x with bd:={x.bd with status:=v}},.i (λx=>x.bd.kind) λx v=>{x with bd:={x.bd with kind:=v}},.s (λx=>x.bd.body) λx v=>{x with bd:={x.bd with body:=v}},.i (λx=>x.bd.age) λx v=>{x with bd:={x.bd with age:=v}},.b (λx=>x.bd.shares) λx v=>{x with bd:={x.bd with shares:=v}},.s (λx=>x.bd.bj) λx v=>{x with bd:={x.bd with bj:=v}},.b (λx=>x.used) λx v=>{x with used:=v}]
def Ol:Sl_->Int->Sl_×Int:=mkA Z4
def Pb:Laws Z4:=by repeat' first|exact λ_ _=>rfl|exact λ_=>rfl|constructor
def SJ:Bd (szL Bs) (Ap Ol):=bdL Pb (λx=>by simp only[EK,Fe.cost,Z4,szAddr,Bs,Ae];omega)
def Afa:List (Fe Sj_):=[.s (λx=>x.to.host) λx v=>{x with to:={x.to with host:=v}},.s (λx=>x.to.path) λx v=>{x with to:={x.to with path:=v}},.i (λx=>x.left) λx v=>{x with left:=v},.b (λx=>x.guess) λx v=>{x with guess:=v},.i (λx=>x.bd.status) λx v=>{x with bd:={x.bd with status:=v}},.i (λx=>x.bd.kind) λx v=>{x with bd:={x.bd with kind:=v}},.s (λx=>x.bd.body) λx v=>{x with bd:={x.bd with body:=v}},.i (λx=>x.bd.age) λx v=>{x with bd:={x.bd with age:=v}},.b (λx=>x.bd.shares) λx v=>{x with bd:={x.bd with shares:=v}},.s (λx=>x.bd.bj) λx v=>{x with bd:={x.bd with bj:=v}}]
def Uu:Sj_->Int->Sj_×Int:=mkA Afa
def R5:Laws Afa:=by repeat' first|exact λ_ _=>rfl|exact λ_=>rfl|constructor
def WT:Bd (szL Cc) (Ap Uu):=bdL R5 (λx=>by simp only[EK,Fe.cost,Afa,szAddr,Cc,Ae];omega)
def Tz:List (Fe Sc_):=[.l (.el .net) szNet AbM (λx=>x.net) λx v=>{x with net:=v},.l (.el .page) szPage Ur (λx=>x.page) λx v=>{x with page:=v},.l (.sl .str) (szL Ad) (Ap FV) (λx=>x.parts) λx v=>{x with parts:=v},.l (.sl .conn) (szL Cc) (Ap Uu) (λx=>x.conns) λx v=>{x with conns:=v},.l (.sl .guess) (szL Bs) (Ap Ol) (λx=>x.guesses) λx v=>{x with guesses:=v}]
def CG:Sc_->Int->Sc_×Int:=mkA Tz
def M1:Laws Tz:=by repeat' first|exact λ_ _=>rfl|exact λ_=>rfl|exact WT|exact SJ|exact HD|exact Abl|exact Zd|constructor
def MV:Bd CX CG:=bdV M1 (λx=>by simp only[EK,Fe.cost,Tz,CX];omega)
def RY (x:Sc_) (k:Int):{ net:={ servers:=(CG x k).1.net.servers,cache:=(CG x k).1.net.cache,log:=(CG x k).1.net.log,now:=x.net.now:Su_ },page:={ addr:=x.page.addr,bj:={ set_:=x.page.bj.set_,bp:=(CG x k).1.page.bj.bp,styles:=(CG x k).1.page.bj.styles,images:=(CG x k).1.page.bj.images,nonce:=x.page.bj.nonce:Si_ },tok:=x.page.tok,bn:=(CG x k).1.page.bn,ended:=x.page.ended,ba:=(CG x k).1.page.ba,bf:=(CG x k).1.page.bf,bh:=(CG x k).1.page.bh,bg:=(CG x k).1.page.bg,block:=x.page.block,inline:=x.page.inline,bm:=x.page.bm,bq:=x.page.bq,ran:=(CG x k).1.page.ran,log:=(CG x k).1.page.log,loaded:=x.page.loaded:Sa_ },parts:=(CG x k).1.parts,conns:=(CG x k).1.conns,guesses:=(CG x k).1.guesses:Sc_ }=(CG x k).1:=k_
def Af4 (x:Sb_):List SzI:=[.p x.host.size,.p x.path.size]
def Afz (x:Sb_) (h:Sh.good (.el .addr) x):Gj (Af4 x):=by simp only[Af4,Sh.good,Sh.fc,enc,Qc6,Qe1,false_implies,implies_true,Eb,Gj,SzI.ok,maxLen] at *;grind
def Agn (x:Sb_):List ToI:=[]
def Aka (x:Sb_) (z:Unit):Sb_:=⟨x.host,x.path⟩
def Af9 (x:Sb_) (h:szAddr x<=1048576):Gb (Agn x):=by simp only[szAddr,Agn,Gb,Qe0] at *<;>omega
def XR (x y:Sb_):List EqI:=[.s x.host y.host,.s x.path y.path]
def Ahc (x y:Sb_):x=y↔Dv (XR x y):=by cases x;cases y;simp[XR,Dv,EqI.tru]
def Afu (x y:Sb_) (h:szAddr x<=1125899906842624):Gl (XR x y):=by simp only[szAddr,XR,Gl,EqI.ok,Qe0,true_and] at *<;>omega
def Afy (x:Ss_):List SzI:=[.p x.name.size,.p x.value.size]
def Af8 (x:Ss_) (h:Sh.good (.el .attr) x):Gj (Afy x):=by simp only[Afy,Sh.good,Sh.fc,enc,Qc6,Qe1,false_implies,implies_true,Eb,Gj,SzI.ok,maxLen] at *;grind
def AgN (x:Ss_):List ToI:=[]
def Ajn (x:Ss_) (z:Unit):Ss_:=⟨x.name,x.value⟩
def AhP (x:Ss_) (h:A3 x<=1048576):Gb (AgN x):=by simp only[A3,AgN,Gb,Qe0] at *<;>omega
def YH (x y:Ss_):List EqI:=[.s x.name y.name,.s x.value y.value]
def Agy (x y:Ss_):x=y↔Dv (YH x y):=by cases x;cases y;simp[YH,Dv,EqI.tru]
def AgO (x y:Ss_) (h:A3 x<=1125899906842624):Gl (YH x y):=by simp only[A3,YH,Gl,EqI.ok,Qe0,true_and] at *<;>omega
def Xj (x:Sh_):List SzI:=[.p x.name.size,.c (.sl .attr) (szL A3) x.bo,.p x.text.size]
def Adx (x:Sh_) (h:Sh.good (.el .token) x):Gj (Xj x):=by simp only[Xj,Sh.good,Sh.fc,enc,Qc6,Qe1,false_implies,implies_true,Eb,Gj,SzI.ok,maxLen] at *;grind
def ZR (x:Sh_):List ToI:=[⟨(.sl .attr),(szL A3),x.bo⟩]
def Ai5 (x:Sh_) (z:(List Ss_)×Unit):Sh_:=⟨x.kind,x.name,z.1,x.text⟩
def Adb (x:Sh_) (h:szToken x<=1048576):Gb (ZR x):=by simp only[szToken,ZR,Gb,Qe0] at *<;>omega
def Rh (x y:Sh_):List EqI:=[.i x.kind y.kind,.s x.name y.name,.c (.sl .attr) inferInstance (szL A3) x.bo y.bo,.s x.text y.text]
def Ac5 (x y:Sh_):x=y↔Dv (Rh x y):=by cases x;cases y;simp[Rh,Dv,EqI.tru]
def AdA (x y:Sh_) (h:szToken x<=1125899906842624):Gl (Rh x y):=by simp only[szToken,Rh,Gl,EqI.ok,Qe0,true_and] at *<;>omega
def J6 (x:Sn_):List SzI:=[.p x.rest.size]
def Qr (x:Sn_) (h:Sh.good (.el .tokenizer) x):Gj (J6 x):=by simp only[J6,Sh.good,Sh.fc,enc,Qc6,Qe1,false_implies,implies_true,Eb,Gj,SzI.ok,maxLen] at *;grind
def Kg (x:Sn_):List ToI:=[]
def WC (x:Sn_) (z:Unit):Sn_:=⟨x.rest⟩
def QR (x:Sn_) (h:Bo x<=1048576):Gb (Kg x):=by simp only[Bo,Kg,Gb,Qe0] at *<;>omega
def GK (x y:Sn_):List EqI:=[.s x.rest y.rest]
def Q6 (x y:Sn_):x=y↔Dv (GK x y):=by cases x;cases y;simp[GK,Dv,EqI.tru]
def Qp (x y:Sn_) (h:Bo x<=1125899906842624):Gl (GK x y):=by simp only[Bo,GK,Gl,EqI.ok,Qe0,true_and] at *<;>omega
def Ago (x:St_):List SzI:=[.p x.name.size,.p x.text.size,.c (.sl .attr) (szL A3) x.bo]
def AgC (x:St_) (h:Sh.good (.el .node) x):Gj (Ago x):=by simp only[Ago,Sh.good,Sh.fc,enc,Qc6,Qe1,false_implies,implies_true,Eb,Gj,SzI.ok,maxLen] at *;grind
def AhD (x:St_):List ToI:=[⟨(.sl .attr),(szL A3),x.bo⟩]
def Ajk (x:St_) (z:(List Ss_)×Unit):St_:=⟨x.name,x.text,x.parent,z.1⟩
def Af1 (x:St_) (h:szNode x<=1048576):Gb (AhD x):=by simp only[szNode,AhD,Gb,Qe0] at *<;>omega
def Yv (x y:St_):List EqI:=[.s x.name y.name,.s x.text y.text,.i x.parent y.parent,.c (.sl .attr) inferInstance (szL A3) x.bo y.bo]
def Af7 (x y:St_):x=y↔Dv (Yv x y):=by cases x;cases y;simp[Yv,Dv,EqI.tru]
def Agg (x y:St_) (h:szNode x<=1125899906842624):Gl (Yv x y):=by simp only[szNode,Yv,Gl,EqI.ok,Qe0,true_and] at *<;>omega
def Pm (x:Se_):List SzI:=[.c (.sl .node) (szL szNode) x.bi,.c (.sl .int) List.length x.bl]
def Ww (x:Se_) (h:Sh.good (.el .ba) x):Gj (Pm x):=by simp only[Pm,Sh.good,Sh.fc,enc,Qc6,Qe1,false_implies,implies_true,Eb,Gj,SzI.ok,maxLen] at *;grind
def PI (x:Se_):List ToI:=[⟨(.sl .node),(szL szNode),x.bi⟩,⟨(.sl .int),List.length,x.bl⟩]
def AcF (x:Se_) (z:(List St_)×(List Int)×Unit):Se_:=⟨z.1,z.2.1⟩
def Wn (x:Se_) (h:szBuilder x<=1048576):Gb (PI x):=by simp only[szBuilder,PI,Gb,Qe0] at *<;>omega
def Jm (x y:Se_):List EqI:=[.c (.sl .node) inferInstance (szL szNode) x.bi y.bi,.c (.sl .int) inferInstance List.length x.bl y.bl]
def WL (x y:Se_):x=y↔Dv (Jm x y):=by cases x;cases y;simp[Jm,Dv,EqI.tru]
def VL (x y:Se_) (h:szBuilder x<=1125899906842624):Gl (Jm x y):=by simp only[szBuilder,Jm,Gl,EqI.ok,Qe0,true_and] at *<;>omega
def Sv (x:Si_):List SzI:=[.c (.sl .str) (szL Ad) x.bp,.c (.sl .str) (szL Ad) x.styles,.c (.sl .str) (szL Ad) x.images,.p x.nonce.size]
def Z6 (x:Si_) (h:Sh.good (.el .bj) x):Gj (Sv x):=by simp only[Sv,Sh.good,Sh.fc,enc,Qc6,Qe1,false_implies,implies_true,Eb,Gj,SzI.ok,maxLen] at *;grind
def Sd (x:Si_):List ToI:=[⟨(.sl .str),(szL Ad),x.bp⟩,⟨(.sl .str),(szL Ad),x.styles⟩,⟨(.sl .str),(szL Ad),x.images⟩]
def AhN (x:Si_) (z:(List ByteArray)×(List ByteArray)×(List ByteArray)×Unit):Si_:=⟨x.set_,z.1,z.2.1,z.2.2.1,x.nonce⟩
def XQ (x:Si_) (h:szPolicy x<=1048576):Gb (Sd x):=by simp only[szPolicy,Sd,Gb,Qe0] at *<;>omega
def LA (x y:Si_):List EqI:=[.b x.set_ y.set_,.c (.sl .str) inferInstance (szL Ad) x.bp y.bp,.c (.sl .str) inferInstance (szL Ad) x.styles y.styles,.c (.sl .str) inferInstance (szL Ad) x.images y.images,.s x.nonce y.nonce]
def XH (x y:Si_):x=y↔Dv (LA x y):=by cases x;cases y;simp[LA,Dv,EqI.tru]
def Xx (x y:Si_) (h:szPolicy x<=1125899906842624):Gl (LA x y):=by simp only[szPolicy,LA,Gl,EqI.ok,Qe0,true_and] at *<;>omega
def ML (x:Sd_):List SzI:=[.p x.body.size,.p x.bj.size]
def Sn (x:Sd_) (h:Sh.good (.el .bd) x):Gj (ML x):=by simp only[ML,Sh.good,Sh.fc,enc,Qc6,Qe1,false_implies,implies_true,Eb,Gj,SzI.ok,maxLen] at *;grind
def Mu (x:Sd_):List ToI:=[]
def YY (x:Sd_) (z:Unit):Sd_:=⟨x.status,x.kind,x.body,x.age,x.shares,x.bj⟩
def Si (x:Sd_) (h:Ae x<=1048576):Gb (Mu x):=by simp only[Ae,Mu,Gb,Qe0] at *<;>omega
def HH (x y:Sd_):List EqI:=[.i x.status y.status,.i x.kind y.kind,.s x.body y.body,.i x.age y.age,.b x.shares y.shares,.s x.bj y.bj]
def Sc (x y:Sd_):x=y↔Dv (HH x y):=by cases x;cases y;simp[HH,Dv,EqI.tru]
def Sb (x y:Sd_) (h:Ae x<=1125899906842624):Gl (HH x y):=by simp only[Ae,HH,Gl,EqI.ok,Qe0,true_and] at *<;>omega
def Ag7 (x:Sv_):List SzI:=[.p x.path.size,.c (.el .bd) Ae x.bd]
def Ag6 (x:Sv_) (h:Sh.good (.el .file) x):Gj (Ag7 x):=by simp only[Ag7,Sh.good,Sh.fc,enc,Qc6,Qe1,false_implies,implies_true,Eb,Gj,SzI.ok,maxLen] at *;grind
def Ag0 (x:Sv_):List ToI:=[⟨(.el .bd),Ae,x.bd⟩]
def Ajq (x:Sv_) (z:Sd_×Unit):Sv_:=⟨x.path,z.1⟩
def Afq (x:Sv_) (h:Ey x<=1048576):Gb (Ag0 x):=by simp only[Ey,Ag0,Gb,Qe0] at *<;>omega
def Aak (x y:Sv_):List EqI:=[.s x.path y.path,.c (.el .bd) inferInstance Ae x.bd y.bd]
def Ag9 (x y:Sv_):x=y↔Dv (Aak x y):=by cases x;cases y;simp[Aak,Dv,EqI.tru]
def Ahz (x y:Sv_) (h:Ey x<=1125899906842624):Gl (Aak x y):=by simp only[Ey,Aak,Gl,EqI.ok,Qe0,true_and] at *<;>omega
def S2 (x:Sk_):List SzI:=[.p x.host.size,.c (.sl .file) (szL Ey) x.files]
def Yh (x:Sk_) (h:Sh.good (.el .server) x):Gj (S2 x):=by simp only[S2,Sh.good,Sh.fc,enc,Qc6,Qe1,false_implies,implies_true,Eb,Gj,SzI.ok,maxLen] at *;grind
def Sa (x:Sk_):List ToI:=[⟨(.sl .file),(szL Ey),x.files⟩]
def Ahm (x:Sk_) (z:(List Sv_)×Unit):Sk_:=⟨x.host,z.1⟩
def Xb (x:Sk_) (h:AY x<=1048576):Gb (Sa x):=by simp only[AY,Sa,Gb,Qe0] at *<;>omega
def Lu (x y:Sk_):List EqI:=[.s x.host y.host,.c (.sl .file) inferInstance (szL Ey) x.files y.files]
def Xm (x y:Sk_):x=y↔Dv (Lu x y):=by cases x;cases y;simp[Lu,Dv,EqI.tru]
def Zk (x y:Sk_) (h:AY x<=1125899906842624):Gl (Lu x y):=by simp only[AY,Lu,Gl,EqI.ok,Qe0,true_and] at *<;>omega
def XZ (x:Sq_):List SzI:=[.p x.top.size,.c (.el .addr) szAddr x.to,.c (.el .bd) Ae x.bd]
def AdQ (x:Sq_) (h:Sh.good (.el .entry) x):Gj (XZ x):=by simp only[XZ,Sh.good,Sh.fc,enc,Qc6,Qe1,false_implies,implies_true,Eb,Gj,SzI.ok,maxLen] at *;grind
def ZN (x:Sq_):List ToI:=[⟨(.el .addr),szAddr,x.to⟩,⟨(.el .bd),Ae,x.bd⟩]
def Aih (x:Sq_) (z:Sb_×Sd_×Unit):Sq_:=⟨x.top,z.1,z.2.1,x.until_⟩
def Aa4 (x:Sq_) (h:AP x<=1048576):Gb (ZN x):=by simp only[AP,ZN,Gb,Qe0] at *<;>omega
def Rs (x y:Sq_):List EqI:=[.s x.top y.top,.c (.el .addr) inferInstance szAddr x.to y.to,.c (.el .bd) inferInstance Ae x.bd y.bd,.i x.until_ y.until_]
def Acf (x y:Sq_):x=y↔Dv (Rs x y):=by cases x;cases y;simp[Rs,Dv,EqI.tru]
def Ac6 (x y:Sq_) (h:AP x<=1125899906842624):Gl (Rs x y):=by simp only[AP,Rs,Gl,EqI.ok,Qe0,true_and] at *<;>omega
def AaP (x:Sm_):List SzI:=[.c (.sl .entry) (szL AP) x.bg]
def Ac3 (x:Sm_) (h:Sh.good (.el .cache) x):Gj (AaP x):=by simp only[AaP,Sh.good,Sh.fc,enc,Qc6,Qe1,false_implies,implies_true,Eb,Gj,SzI.ok,maxLen] at *;grind
def Xe (x:Sm_):List ToI:=[⟨(.sl .entry),(szL AP),x.bg⟩]
def Aiz (x:Sm_) (z:(List Sq_)×Unit):Sm_:=⟨z.1⟩
def Aa5 (x:Sm_) (h:szCache x<=1048576):Gb (Xe x):=by simp only[szCache,Xe,Gb,Qe0] at *<;>omega
def QQ (x y:Sm_):List EqI:=[.c (.sl .entry) inferInstance (szL AP) x.bg y.bg]
def AbG (x y:Sm_):x=y↔Dv (QQ x y):=by cases x;cases y;simp[QQ,Dv,EqI.tru]
def AcH (x y:Sm_) (h:szCache x<=1125899906842624):Gl (QQ x y):=by simp only[szCache,QQ,Gl,EqI.ok,Qe0,true_and] at *<;>omega
def AfW (x:Sw_):List SzI:=[.p x.top.size,.c (.el .addr) szAddr x.to]
def AhB (x:Sw_) (h:Sh.good (.el .sent) x):Gj (AfW x):=by simp only[AfW,Sh.good,Sh.fc,enc,Qc6,Qe1,false_implies,implies_true,Eb,Gj,SzI.ok,maxLen] at *;grind
def AeS (x:Sw_):List ToI:=[⟨(.el .addr),szAddr,x.to⟩]
def Ajw (x:Sw_) (z:Sb_×Unit):Sw_:=⟨x.top,z.1,x.guess⟩
def AgU (x:Sw_) (h:DM x<=1048576):Gb (AeS x):=by simp only[DM,AeS,Gb,Qe0] at *<;>omega
def XL (x y:Sw_):List EqI:=[.s x.top y.top,.c (.el .addr) inferInstance szAddr x.to y.to,.b x.guess y.guess]
def AgQ (x y:Sw_):x=y↔Dv (XL x y):=by cases x;cases y;simp[XL,Dv,EqI.tru]
def Agd (x y:Sw_) (h:DM x<=1125899906842624):Gl (XL x y):=by simp only[DM,XL,Gl,EqI.ok,Qe0,true_and] at *<;>omega
def AjJ (x:Su_):List SzI:=[.c (.sl .server) (szL AY) x.servers,.c (.el .cache) szCache x.cache,.c (.sl .sent) (szL DM) x.log]
def AiC (x:Su_) (h:Sh.good (.el .net) x):Gj (AjJ x):=by simp only[AjJ,Sh.good,Sh.fc,enc,Qc6,Qe1,false_implies,implies_true,Eb,Gj,SzI.ok,maxLen] at *;grind
def Ajr (x:Su_):List ToI:=[⟨(.sl .server),(szL AY),x.servers⟩,⟨(.el .cache),szCache,x.cache⟩,⟨(.sl .sent),(szL DM),x.log⟩]
def ApW (x:Su_) (z:(List Sk_)×Sm_×(List Sw_)×Unit):Su_:=⟨z.1,z.2.1,z.2.2.1,x.now⟩
def AhW (x:Su_) (h:szNet x<=1048576):Gb (Ajr x):=by simp only[szNet,Ajr,Gb,Qe0] at *<;>omega
def Aij (x y:Su_):List EqI:=[.c (.sl .server) inferInstance (szL AY) x.servers y.servers,.c (.el .cache) inferInstance szCache x.cache y.cache,.c (.sl .sent) inferInstance (szL DM) x.log y.log,.i x.now y.now]
def AiA (x y:Su_):x=y↔Dv (Aij x y):=by cases x;cases y;simp[Aij,Dv,EqI.tru]
def AiM (x y:Su_) (h:szNet x<=1125899906842624):Gl (Aij x y):=by simp only[szNet,Aij,Gl,EqI.ok,Qe0,true_and] at *<;>omega
def Agv (x:Sp_):List SzI:=[.c (.el .addr) szAddr x.to,.p x.digest.size,.p x.body.size]
def AfY (x:Sp_) (h:Sh.good (.el .slot) x):Gj (Agv x):=by simp only[Agv,Sh.good,Sh.fc,enc,Qc6,Qe1,false_implies,implies_true,Eb,Gj,SzI.ok,maxLen] at *;grind
def AhH (x:Sp_):List ToI:=[⟨(.el .addr),szAddr,x.to⟩]
def Aj2 (x:Sp_) (z:Sb_×Unit):Sp_:=⟨x.mode,z.1,x.digest,x.node,x.done,x.code,x.body⟩
def Aho (x:Sp_) (h:AA x<=1048576):Gb (AhH x):=by simp only[AA,AhH,Gb,Qe0] at *<;>omega
def Z2 (x y:Sp_):List EqI:=[.i x.mode y.mode,.c (.el .addr) inferInstance szAddr x.to y.to,.s x.digest y.digest,.i x.node y.node,.b x.done y.done,.i x.code y.code,.s x.body y.body]
def AgI (x y:Sp_):x=y↔Dv (Z2 x y):=by cases x;cases y;simp[Z2,Dv,EqI.tru]
def AeJ (x y:Sp_) (h:AA x<=1125899906842624):Gl (Z2 x y):=by simp only[AA,Z2,Gl,EqI.ok,Qe0,true_and] at *<;>omega
def SN (x:Sg_):List SzI:=[.c (.el .addr) szAddr x.to,.p x.body.size]
def Aat (x:Sg_) (h:Sh.good (.el .module) x):Gj (SN x):=by simp only[SN,Sh.good,Sh.fc,enc,Qc6,Qe1,false_implies,implies_true,Eb,Gj,SzI.ok,maxLen] at *;grind
def Sy (x:Sg_):List ToI:=[⟨(.el .addr),szAddr,x.to⟩]
def AgK (x:Sg_) (z:Sb_×Unit):Sg_:=⟨z.1,x.done,x.code,x.body⟩
def ZG (x:Sg_) (h:Am x<=1048576):Gb (Sy x):=by simp only[Am,Sy,Gb,Qe0] at *<;>omega
def MI (x y:Sg_):List EqI:=[.c (.el .addr) inferInstance szAddr x.to y.to,.b x.done y.done,.i x.code y.code,.s x.body y.body]
def Yo (x y:Sg_):x=y↔Dv (MI x y):=by cases x;cases y;simp[MI,Dv,EqI.tru]
def W0 (x y:Sg_) (h:Am x<=1125899906842624):Gl (MI x y):=by simp only[Am,MI,Gl,EqI.ok,Qe0,true_and] at *<;>omega
def AfS (x:Sa_):List SzI:=[.c (.el .addr) szAddr x.addr,.c (.el .bj) szPolicy x.bj,.c (.el .tokenizer) Bo x.tok,.c (.sl .token) (szL szToken) x.bn,.c (.el .ba) szBuilder x.ba,.c (.sl .slot) (szL AA) x.bf,.c (.sl .module) (szL Am) x.bh,.c (.sl .addr) (szL szAddr) x.bg,.c (.sl .addr) (szL szAddr) x.ran,.c (.sl .str) (szL Ad) x.log]
def AeN (x:Sa_) (h:Sh.good (.el .page) x):Gj (AfS x):=by simp only[AfS,Sh.good,Sh.fc,enc,Qc6,Qe1,false_implies,implies_true,Eb,Gj,SzI.ok,maxLen] at *;grind
def AhM (x:Sa_):List ToI:=[⟨(.el .addr),szAddr,x.addr⟩,⟨(.el .bj),szPolicy,x.bj⟩,⟨(.el .tokenizer),Bo,x.tok⟩,⟨(.sl .token),(szL szToken),x.bn⟩,⟨(.el .ba),szBuilder,x.ba⟩,⟨(.sl .slot),(szL AA),x.bf⟩,⟨(.sl .module),(szL Am),x.bh⟩,⟨(.sl .addr),(szL szAddr),x.bg⟩,⟨(.sl .addr),(szL szAddr),x.ran⟩,⟨(.sl .str),(szL Ad),x.log⟩]
def AjB (x:Sa_) (z:Sb_×Si_×Sn_×(List Sh_)×Se_×(List Sp_)×(List Sg_)×(List Sb_)×(List Sb_)×(List ByteArray)×Unit):Sa_:=⟨z.1,z.2.1,z.2.2.1,z.2.2.2.1,x.ended,z.2.2.2.2.1,z.2.2.2.2.2.1,z.2.2.2.2.2.2.1,z.2.2.2.2.2.2.2.1,x.block,x.inline,x.bm,x.bq,z.2.2.2.2.2.2.2.2.1,z.2.2.2.2.2.2.2.2.2.1,x.loaded⟩
def AfZ (x:Sa_) (h:szPage x<=1048576):Gb (AhM x):=by simp only[szPage,AhM,Gb,Qe0] at *<;>omega
def ZQ (x y:Sa_):List EqI:=[.c (.el .addr) inferInstance szAddr x.addr y.addr,.c (.el .bj) inferInstance szPolicy x.bj y.bj,.c (.el .tokenizer) inferInstance Bo x.tok y.tok,.c (.sl .token) inferInstance (szL szToken) x.bn y.bn,.b x.ended y.ended,.c (.el .ba) inferInstance szBuilder x.ba y.ba,.c (.sl .slot) inferInstance (szL AA) x.bf y.bf,.c (.sl .module) inferInstance (szL Am) x.bh y.bh,.c (.sl .addr) inferInstance (szL szAddr) x.bg y.bg,.i x.block y.block,.i x.inline y.inline,.i x.bm y.bm,.i x.bq y.bq,.c (.sl .addr) inferInstance (szL szAddr) x.ran y.ran,.c (.sl .str) inferInstance (szL Ad) x.log y.log,.b x.loaded y.loaded]
def Agc (x y:Sa_):x=y↔Dv (ZQ x y):=by cases x;cases y;simp[ZQ,Dv,EqI.tru]
def Aft (x y:Sa_) (h:szPage x<=1125899906842624):Gl (ZQ x y):=by simp only[szPage,ZQ,Gl,EqI.ok,Qe0,true_and] at *<;>omega
def Xo (x:Sl_):List SzI:=[.c (.el .addr) szAddr x.to,.c (.el .bd) Ae x.bd]
def AcN (x:Sl_) (h:Sh.good (.el .guess) x):Gj (Xo x):=by simp only[Xo,Sh.good,Sh.fc,enc,Qc6,Qe1,false_implies,implies_true,Eb,Gj,SzI.ok,maxLen] at *;grind
def YN (x:Sl_):List ToI:=[⟨(.el .addr),szAddr,x.to⟩,⟨(.el .bd),Ae,x.bd⟩]
def AiK (x:Sl_) (z:Sb_×Sd_×Unit):Sl_:=⟨z.1,z.2.1,x.used⟩
def AbR (x:Sl_) (h:Bs x<=1048576):Gb (YN x):=by simp only[Bs,YN,Gb,Qe0] at *<;>omega
def P9 (x y:Sl_):List EqI:=[.c (.el .addr) inferInstance szAddr x.to y.to,.c (.el .bd) inferInstance Ae x.bd y.bd,.b x.used y.used]
def Aba (x y:Sl_):x=y↔Dv (P9 x y):=by cases x;cases y;simp[P9,Dv,EqI.tru]
def Ack (x y:Sl_) (h:Bs x<=1125899906842624):Gl (P9 x y):=by simp only[Bs,P9,Gl,EqI.ok,Qe0,true_and] at *<;>omega
def AhA (x:Sj_):List SzI:=[.c (.el .addr) szAddr x.to,.c (.el .bd) Ae x.bd]
def AgY (x:Sj_) (h:Sh.good (.el .conn) x):Gj (AhA x):=by simp only[AhA,Sh.good,Sh.fc,enc,Qc6,Qe1,false_implies,implies_true,Eb,Gj,SzI.ok,maxLen] at *;grind
def Agh (x:Sj_):List ToI:=[⟨(.el .addr),szAddr,x.to⟩,⟨(.el .bd),Ae,x.bd⟩]
def Ajy (x:Sj_) (z:Sb_×Sd_×Unit):Sj_:=⟨z.1,x.left,x.guess,z.2.1⟩
def AhL (x:Sj_) (h:Cc x<=1048576):Gb (Agh x):=by simp only[Cc,Agh,Gb,Qe0] at *<;>omega
def Zj (x y:Sj_):List EqI:=[.c (.el .addr) inferInstance szAddr x.to y.to,.i x.left y.left,.b x.guess y.guess,.c (.el .bd) inferInstance Ae x.bd y.bd]
def Ae5 (x y:Sj_):x=y↔Dv (Zj x y):=by cases x;cases y;simp[Zj,Dv,EqI.tru]
def Ag2 (x y:Sj_) (h:Cc x<=1125899906842624):Gl (Zj x y):=by simp only[Cc,Zj,Gl,EqI.ok,Qe0,true_and] at *<;>omega
def RW (x:Sc_):List SzI:=[.c (.el .net) szNet x.net,.c (.el .page) szPage x.page,.c (.sl .str) (szL Ad) x.parts,.c (.sl .conn) (szL Cc) x.conns,.c (.sl .guess) (szL Bs) x.guesses]
def Aab (x:Sc_) (h:Sh.good (.el .loader) x):Gj (RW x):=by simp only[RW,Sh.good,Sh.fc,enc,Qc6,Qe1,false_implies,implies_true,Eb,Gj,SzI.ok,maxLen] at *;grind
def R9 (x:Sc_):List ToI:=[⟨(.el .net),szNet,x.net⟩,⟨(.el .page),szPage,x.page⟩,⟨(.sl .str),(szL Ad),x.parts⟩,⟨(.sl .conn),(szL Cc),x.conns⟩,⟨(.sl .guess),(szL Bs),x.guesses⟩]
def Af2 (x:Sc_) (z:Su_×Sa_×(List ByteArray)×(List Sj_)×(List Sl_)×Unit):Sc_:=⟨z.1,z.2.1,z.2.2.1,z.2.2.2.1,z.2.2.2.2.1⟩
def Xi (x:Sc_) (h:CX x<=1048576):Gb (R9 x):=by simp only[CX,R9,Gb,Qe0] at *<;>omega
def LU (x y:Sc_):List EqI:=[.c (.el .net) inferInstance szNet x.net y.net,.c (.el .page) inferInstance szPage x.page y.page,.c (.sl .str) inferInstance (szL Ad) x.parts y.parts,.c (.sl .conn) inferInstance (szL Cc) x.conns y.conns,.c (.sl .guess) inferInstance (szL Bs) x.guesses y.guesses]
def YG (x y:Sc_):x=y↔Dv (LU x y):=by cases x;cases y;simp[LU,Dv,EqI.tru]
def Za (x y:Sc_) (h:CX x<=1125899906842624):Gl (LU x y):=by simp only[CX,LU,Gl,EqI.ok,Qe0,true_and] at *<;>omega
def Gr:Fct:=szF (.sl .str) (szL Ad)
def Kn:Fct:=toF (.sl .str) (szL Ad)
def Gx:Fct:=eqF (.sl .str) (szL Ad)
def PX:MS:=mkF (.sl .str) (Ap FV)
def Rr:Fct:=heF (.sl .str) (Ap FV)
def PL:Fct:=szF (.sl .int) List.length
def HK:Fct:=toF (.sl .int) List.length
def IA:Fct:=eqF (.sl .int) List.length
def Ju:MS:=mkF (.sl .int) (Ap AbZ)
def AaL:Fct:=heF (.sl .int) (Ap AbZ)
def Acd:Fct:=szF (.sl .addr) (szL szAddr)
def Ac0:Fct:=toF (.sl .addr) (szL szAddr)
def Adl:Fct:=eqF (.sl .addr) (szL szAddr)
def VC:MS:=mkF (.sl .addr) (Ap PT)
def WN:Fct:=heF (.sl .addr) (Ap PT)
def Ahj:Fct:=szF (.el .addr) szAddr
def Afs:Fct:=toF (.el .addr) szAddr
def AfI:Fct:=eqF (.el .addr) szAddr
def Aa8:Fct:=szF (.sl .attr) (szL A3)
def Ady:Fct:=toF (.sl .attr) (szL A3)
def Adm:Fct:=eqF (.sl .attr) (szL A3)
def VU:MS:=mkF (.sl .attr) (Ap Qk)
def Vk:Fct:=heF (.sl .attr) (Ap Qk)
def Ahe:Fct:=szF (.el .attr) A3
def Afw:Fct:=toF (.el .attr) A3
def Ag1:Fct:=eqF (.el .attr) A3
def ZK:Fct:=szF (.sl .token) (szL szToken)
def Zx:Fct:=toF (.sl .token) (szL szToken)
def AaN:Fct:=eqF (.sl .token) (szL szToken)
def SC:MS:=mkF (.sl .token) (Ap OB)
def SS:Fct:=heF (.sl .token) (Ap OB)
def Aa6:Fct:=szF (.el .token) szToken
def AbJ:Fct:=toF (.el .token) szToken
def AcU:Fct:=eqF (.el .token) szToken
def QI:Fct:=szF (.el .tokenizer) Bo
def Qz:Fct:=toF (.el .tokenizer) Bo
def Rz:Fct:=eqF (.el .tokenizer) Bo
def Ab7:Fct:=szF (.sl .node) (szL szNode)
def AcS:Fct:=toF (.sl .node) (szL szNode)
def Abo:Fct:=eqF (.sl .node) (szL szNode)
def VA:MS:=mkF (.sl .node) (Ap UX)
def WS:Fct:=heF (.sl .node) (Ap UX)
def Aga:Fct:=szF (.el .node) szNode
def AeU:Fct:=toF (.el .node) szNode
def Ae3:Fct:=eqF (.el .node) szNode
def Vl:Fct:=szF (.el .ba) szBuilder
def U8:Fct:=toF (.el .ba) szBuilder
def VF:Fct:=eqF (.el .ba) szBuilder
def QU:MS:=mkF (.el .ba) JA
def P8:Fct:=heF (.el .ba) JA
def YB:Fct:=szF (.el .bj) szPolicy
def Ye:Fct:=toF (.el .bj) szPolicy
def Z1:Fct:=eqF (.el .bj) szPolicy
def RN:MS:=mkF (.el .bj) K3
def To:Fct:=heF (.el .bj) K3
def Tl:Fct:=szF (.el .bd) Ae
def Tr:Fct:=toF (.el .bd) Ae
def SM:Fct:=eqF (.el .bd) Ae
def AbO:Fct:=szF (.sl .file) (szL Ey)
def Acs:Fct:=toF (.sl .file) (szL Ey)
def Abh:Fct:=eqF (.sl .file) (szL Ey)
def WV:MS:=mkF (.sl .file) (Ap Uy)
def Vm:Fct:=heF (.sl .file) (Ap Uy)
def AgG:Fct:=szF (.el .file) Ey
def Afm:Fct:=toF (.el .file) Ey
def Ae9:Fct:=eqF (.el .file) Ey
def Vq:Fct:=szF (.sl .server) (szL AY)
def Vh:Fct:=toF (.sl .server) (szL AY)
def V5:Fct:=eqF (.sl .server) (szL AY)
def Qw:MS:=mkF (.sl .server) (Ap KZ)
def Rx:Fct:=heF (.sl .server) (Ap KZ)
def X9:Fct:=szF (.el .server) AY
def Yr:Fct:=toF (.el .server) AY
def Z7:Fct:=eqF (.el .server) AY
def W2:Fct:=szF (.sl .entry) (szL AP)
def Aaz:Fct:=toF (.sl .entry) (szL AP)
def Zn:Fct:=eqF (.sl .entry) (szL AP)
def S7:MS:=mkF (.sl .entry) (Ap OY)
def S1:Fct:=heF (.sl .entry) (Ap OY)
def AcZ:Fct:=szF (.el .entry) AP
def Abj:Fct:=toF (.el .entry) AP
def Acw:Fct:=eqF (.el .entry) AP
def Ac1:Fct:=szF (.el .cache) szCache
def Ab9:Fct:=toF (.el .cache) szCache
def Abp:Fct:=eqF (.el .cache) szCache
def WR:MS:=mkF (.el .cache) OH
def WU:Fct:=heF (.el .cache) OH
def AdS:Fct:=szF (.sl .sent) (szL DM)
def Ads:Fct:=toF (.sl .sent) (szL DM)
def Aca:Fct:=eqF (.sl .sent) (szL DM)
def WO:MS:=mkF (.sl .sent) (Ap TL)
def Wd:Fct:=heF (.sl .sent) (Ap TL)
def AgZ:Fct:=szF (.el .sent) DM
def Agb:Fct:=toF (.el .sent) DM
def AfH:Fct:=eqF (.el .sent) DM
def Ain:Fct:=szF (.el .net) szNet
def Ah5:Fct:=toF (.el .net) szNet
def Aim:Fct:=eqF (.el .net) szNet
def Acr:MS:=mkF (.el .net) AbM
def AcJ:Fct:=heF (.el .net) AbM
def Adj:Fct:=szF (.sl .slot) (szL AA)
def Abs:Fct:=toF (.sl .slot) (szL AA)
def AcB:Fct:=eqF (.sl .slot) (szL AA)
def U6:MS:=mkF (.sl .slot) (Ap TD)
def Vt:Fct:=heF (.sl .slot) (Ap TD)
def Afk:Fct:=szF (.el .slot) AA
def Ae4:Fct:=toF (.el .slot) AA
def AgL:Fct:=eqF (.el .slot) AA
def Wz:Fct:=szF (.sl .module) (szL Am)
def WP:Fct:=toF (.sl .module) (szL Am)
def VB:Fct:=eqF (.sl .module) (szL Am)
def Qb:MS:=mkF (.sl .module) (Ap Li)
def Ro:Fct:=heF (.sl .module) (Ap Li)
def Yp:Fct:=szF (.el .module) Am
def X5:Fct:=toF (.el .module) Am
def Yj:Fct:=eqF (.el .module) Am
def AgP:Fct:=szF (.el .page) szPage
def AeK:Fct:=toF (.el .page) szPage
def Ags:Fct:=eqF (.el .page) szPage
def ZD:MS:=mkF (.el .page) Ur
def Y4:Fct:=heF (.el .page) Ur
def Aaq:Fct:=szF (.sl .guess) (szL Bs)
def Zq:Fct:=toF (.sl .guess) (szL Bs)
def Z5:Fct:=eqF (.sl .guess) (szL Bs)
def Tb:MS:=mkF (.sl .guess) (Ap Ol)
def Sf:Fct:=heF (.sl .guess) (Ap Ol)
def AcR:Fct:=szF (.el .guess) Bs
def AbY:Fct:=toF (.el .guess) Bs
def Acx:Fct:=eqF (.el .guess) Bs
def AbH:Fct:=szF (.sl .conn) (szL Cc)
def AdK:Fct:=toF (.sl .conn) (szL Cc)
def AcI:Fct:=eqF (.sl .conn) (szL Cc)
def Wp:MS:=mkF (.sl .conn) (Ap Uu)
def VG:Fct:=heF (.sl .conn) (Ap Uu)
def Afr:Fct:=szF (.el .conn) Cc
def AfD:Fct:=toF (.el .conn) Cc
def AhO:Fct:=eqF (.el .conn) Cc
def Lk:Fct:=szF (.el .loader) CX
def Gv:Fct:=toF (.el .loader) CX
def GH:Fct:=eqF (.el .loader) CX
def ER:MS:=mkF (.el .loader) CG
def GM:Fct:=heF (.el .loader) CG
end Go.D
namespace Go.D
def ApT:(∀ x:Sh_,(⟨x.kind,x.name,x.bo,x.text⟩:Sh_)=x)/\(∀ x:St_,(⟨x.name,x.text,x.parent,x.bo⟩:St_)=x)/\(∀ x:Se_,(⟨x.bi,x.bl⟩:Se_)=x)/\(∀ x:Si_,(⟨x.set_,x.bp,x.styles,x.images,x.nonce⟩:Si_)=x)/\(∀ x:Sa_,(⟨x.addr,x.bj,x.tok,x.bn,x.ended,x.ba,x.bf,x.bh,x.bg,x.block,x.inline,x.bm,x.bq,x.ran,x.log,x.loaded⟩:Sa_)=x)/\(∀ x:Sk_,(⟨x.host,x.files⟩:Sk_)=x)/\(∀ x:Sm_,(⟨x.bg⟩:Sm_)=x)/\(∀ x:Su_,(⟨x.servers,x.cache,x.log,x.now⟩:Su_)=x)/\(∀ x:Sc_,(⟨x.net,x.page,x.parts,x.conns,x.guesses⟩:Sc_)=x)/\(∀ x:So_,(⟨x.rules⟩:So_)=x)/\(∀ x:Sp_,(⟨x.mode,x.to,x.digest,x.node,x.done,x.code,x.body⟩:Sp_)=x)/\(∀ x:Sg_,(⟨x.to,x.done,x.code,x.body⟩:Sg_)=x)/\(∀ x:Sb_,(⟨x.host,x.path⟩:Sb_)=x)/\(∀ x:Sf_,(⟨x.kind,x.to,x.from_,x.digest⟩:Sf_)=x)/\(∀ x:Sd_,(⟨x.status,x.kind,x.body,x.age,x.shares,x.bj⟩:Sd_)=x)/\(∀ x:Sj_,(⟨x.to,x.left,x.guess,x.bd⟩:Sj_)=x)/\(∀ x:Sl_,(⟨x.to,x.bd,x.used⟩:Sl_)=x)/\(∀ x:Sq_,(⟨x.top,x.to,x.bd,x.until_⟩:Sq_)=x)/\(∀ x:Sw_,(⟨x.top,x.to,x.guess⟩:Sw_)=x)/\(∀ x:Sv_,(⟨x.path,x.bd⟩:Sv_)=x) :=
 by repeat' first|exact λ_=>rfl|constructor
def std:(type_of% @ApT)/\(type_of% @AhT)/\(type_of% @Ajb)/\∀ {α:Type} (a b:α),(a≠b) = ¬a=b:=⟨ApT,AhT,Ajb,λ_ _=>rfl⟩
def KP (a b:List Nat):List Nat:=a++(b++b.map (· + 1000000))
def lv:List (Nat×LInv)->Wb
 | [],_=>none
 | (m,x)::r,n=>bif n==m then some x else lv r n
def Fct.p {S:Fct} {P:Program} {E:Env} {f:Nat} {fn:Func} (kp:List Nat) (L:As S.as->Wb) (hE:EOk P E) (hf:P.funcs[f]? = some fn)
 (hh:∀ x,S.pre x->HoldsE (Ge P E (L x) kp [] fn (S.arg x)) (S.ctr x).post) (hc:(fn.body.isSome&&decide (S.as.length<=fn.ntmps))=true:=by kernel_rfl):S.ok P f:=by
 rw[Qa2] at hc;exact Fct.of (L:=L) hE hf hc.1 hc.2 hh
end Go.D
namespace Go.D
set_option linter.unusedSectionVars false
section
variable {α:Type} [DecidableEq α] [Inhabited α]
def Aas:List α->List α
 | []=>[]
 | [a]=>[a]
 | a::b::l=>if a=b then Aas (b::l) else a::Aas (b::l)
structure CompInv (s d:List α) (k0 k k2:Int):Prop where
 c2:1<=k2
 c0:1<=k0
 le:k0+k2<=s.length
 lo:k0<=k
 hi:k<k0+k2
 len:d.length=s.length
 dr:d.drop k.toNat=s.drop k.toNat
 tk:d.take k.toNat=Aas (s.take (k0+k2).toNat)
def KI {s d:List α} {k i:Nat} (h:d.drop k=s.drop k) (hi:k<=i):d.getD i default=s.getD i default:=by
 have h1:(d.drop k)[i-k]? = (s.drop k)[i-k]?:=by rw[h]
 grind
def CompInv.at_ {s d:List α} {k0 k k2:Int} (h:CompInv s d k0 k k2) (hlt:k0+k2<s.length) :
 d.getD (k0.toNat+k2.toNat) default=s.getD (k0+k2).toNat default/\d.getD (k0.toNat+(k2-1).toNat) default=s.getD ((k0+k2).toNat-1) default:=by
 obtain⟨a,b,c,e,f,g,i,j⟩:=h;refine⟨?_,?_⟩
 ·rw[KI i o_];congr 1;omega
 ·rw[KI i o_];congr 1;omega
end
def IN {α:Type} (xs ys:List α) (e:Nat):(J8 xs e ys).length=min e xs.length+ys.length+(xs.length-(e+ys.length)):=by simp[J8];omega
def Kk {α:Type} (xs:List α) (a n:Nat):(cut xs a n).length=min n (xs.length-a):=by simp[cut]
def Ab5 {α:Type} (xs ys:List α) (k:Nat) (h:k<=xs.length):cut (J8 xs k ys) 0 k=xs.take k:=by
 simp[cut,J8,Qc0,Nat.min_eq_left h]
def Aax {α:Type} {l:List α} {i j m:Nat} (hj:j<=l.length) (hi:i<=j) (hm:m=l.length-j):(J8 l i (cut l j m)).take (i+m)=l.take i++l.drop j:=by
 have h1:cut l j m=l.drop j:=by simp[cut,hm,Qb1]
 rw[h1];have h2:(l.take i++l.drop j).length=i+m:=by simp;omega
 simp only[J8];grind
end Go.D
namespace Go.D
open Go.Lib Go.Sort
def AbU (a b:ByteArray):Int:=compareBytes a.data.toList b.data.toList
def Adt:∀ l m:List UInt8,compareBytes l m = -1\/compareBytes l m=0\/compareBytes l m=1:=by
 intro l
 induction l with
 | nil=>intro m;cases m<;>simp[compareBytes]
 | cons a l ih=>
  intro m;cases m with
  | nil=>simp[compareBytes]
  | cons b m=>
   simp only[compareBytes];grind
def AiQ:∀ {l m:List UInt8},compareBytes l m=0↔l=m:=by
 intro l
 induction l with
 | nil=>intro m;cases m<;>simp[compareBytes]
 | cons a l ih=>
  intro m;cases m with
  | nil=>simp[compareBytes]
  | cons b m=>
   simp only[compareBytes,List.cons.injEq];grind
def AgV:∀ {l m:List UInt8},Op.bytesLess l m=decide (compareBytes l m<0):=by
 intro l
 induction l with
 | nil=>intro m;cases m<;>simp[Op.bytesLess,compareBytes]
 | cons a l ih=>
  intro m;cases m with
  | nil=>simp[Op.bytesLess,compareBytes]
  | cons b m=>
   simp only[Op.bytesLess,compareBytes,ih];grind
def X3 (a b:ByteArray):Op.bytesLess a.toList b.toList=decide (AbU a b<0):=by
 rw[AgV,Lib.toList_data,Lib.toList_data];rfl
def AiB {a b:ByteArray} (h:a.data.toList=b.data.toList):a=b:=by
 cases a;cases b;simpa using Array.toList_inj.1 h
def MX {a b:ByteArray}:AbU a b=0↔a=b:=⟨λh=>AiB (AiQ.1 h),λh=>AiQ.2 (by rw[h])⟩
def Kt (a b:ByteArray):AbU a b = -1\/AbU a b=0\/AbU a b=1:=Adt _ _
def fCmpStr:Fct:=⟨[aT,aT],[rI],λ_=>True,λx=>(AbU x.1 x.2.1,())⟩
def cmpA (a b:Sb_):Int:=if AbU a.host b.host=0 then AbU a.path b.path else AbU a.host b.host
def Ws (a b:Sb_):cmpA a b = -1\/cmpA a b=0\/cmpA a b=1:=by unfold cmpA;split<;>exact Kt _ _
def AfF {a b:Sb_}:cmpA a b=0↔a=b:=by
 obtain⟨h,p⟩:=a;obtain⟨h',p'⟩:=b;simp only[cmpA,Sb_.mk.injEq];split
 ·rename_i e;rw[MX,MX.1 e];simp
 ·rename_i e;constructor
  ·omega
  ·rintro⟨rfl,_⟩;exact absurd (MX.2 rfl) e
end Go.D
namespace Go.D
def Is (n:Int):ByteArray:=⟨(Lib.itoa n).toArray⟩
def Abq (k:Nat) (s:ByteArray):ByteArray:=if k=0 then s else⟨(Lib.decDigits k).toArray⟩++s
def Gi {k:Nat} (h:10<=k):Lib.decDigits k=Lib.decDigits (k / 10)++[UInt8.ofNat (48+k % 10)]:=by
 rw[Lib.decDigits,dif_neg o_]
def EF {k:Nat} (h:k<10):Lib.decDigits k=[UInt8.ofNat (48+k)]:=by
 rw[Lib.decDigits,dif_pos h]
def QE {k:Nat} {s:ByteArray} (h:0<k):Abq k s=Abq (k / 10) (⟨#[UInt8.ofNat (48+k % 10)]⟩++s):=by
 unfold Abq;rw[Qa4 o_];by_cases h1:k<10
 ·rw[Qa1 o_,EF h1,Nat.mod_eq_of_lt h1]
 ·rw[Qa4 o_,Gi o_];rw[<-ByteArray.append_assoc];congr 1
def X0:Is 0=⟨#[48]⟩:=by
 unfold Is Lib.itoa;rw[Qa4 o_,EF (by decide)];rfl
def Ab2 {n:Int} (h:n<0):Is n=⟨#[45]⟩++Abq n.natAbs ⟨#[]⟩:=by
 unfold Is Lib.itoa Abq;rw[Qa1 h,Qa4 o_];apply ByteArray.ext;simp
def AbX {n:Int} (h:0<n):Is n=Abq n.natAbs ⟨#[]⟩:=by
 unfold Is Lib.itoa Abq;rw[Qa4 o_,Qa4 o_,show n.toNat=n.natAbs from o_];apply ByteArray.ext;simp
def FI:∀ (f k:Nat),k<10 ^ (f+1)->(Lib.decDigits k).length<=f+1
 | 0,k,h=>by rw[EF o_];simp
 | f+1,k,h=>by
  by_cases h1:k<10
  ·rw[EF h1];simp
  ·rw[Gi o_,Qa3];have:=FI f (k / 10) (by rw[Nat.pow_succ] at h;omega);simp only[Qa6,Qb7];omega
def Ms {n:Int} (h0 : -9223372036854775808<=n) (h1:n<=9223372036854775807):(Is n).size<=20:=by
 have e:(Is n).size=(Lib.itoa n).length:=by simp[Is,ByteArray.size]
 rw[e];unfold Lib.itoa;split
 ·have:=FI 18 n.natAbs o_;simp only[Qa6];omega
 ·have:=FI 18 n.toNat o_;omega
def Adc (x:Int):(if x.tmod 10<0 then 0-x.tmod 10 else x.tmod 10)=((x.natAbs % 10:Nat):Int):=by
 have h1:(x.tmod 10).natAbs=x.natAbs % 10:=Int.natAbs_tmod x 10;split<;>omega
def Acq (x:Int):(x.tdiv 10).natAbs=x.natAbs / 10:=Int.natAbs_tdiv x 10
def Ant {k:Nat} (h:k<10):IntKind.u8.wrap (IntKind.i64.wrap (48+(k:Int)))=((48+k:Nat):Int):=by
 have e:IntKind.i64.wrap (48+(k:Int))=48+(k:Int):=Ag o_;rw[e];simp only[IntKind.wrap,IntKind.bits,IntKind.signed,Bool.false_and,Qd3,Qe7];have:(2 ^ 8:Int)=256:=rfl;omega
def Zm {k:Nat} (h:k<10):List.foldl (λ(r:ByteArray) (n:Int)=>r.push (UInt8.ofNat n.toNat)) ByteArray.empty [((48+k:Nat):Int)]=⟨#[UInt8.ofNat (48+k)]⟩:=by
 simp only[List.foldl,Qg3];rfl
end Go.D
namespace Go.D
def LB (b:UInt8):List UInt8->List (List UInt8)
 | []=>[[]]
 | x::l=>if x=b then[]::LB b l else match LB b l with
  | []=>[[x]]
  | h::t=>(x::h)::t
def JY (b:UInt8) (l:List UInt8):LB b l≠[]:=by
 cases l with
 | nil=>simp[LB]
 | cons x l=>
  unfold LB;grind
def Lt (p:List UInt8):List (List UInt8)->List (List UInt8)
 | []=>[p]
 | h::t=>(p++h)::t
def RC {l:List (List UInt8)} (h:l≠[]):Lt [] l=l:=by
 cases l with
 | nil=>exact absurd rfl h
 | cons x l=>rfl
def EE (b x:UInt8) (l:List UInt8):LB b (x::l)=if x=b then[]::LB b l else Lt [x] (LB b l):=by
 rfl
def SZ (p q:List UInt8) {l:List (List UInt8)} (h:l≠[]):Lt p (Lt q l)=Lt (p++q) l:=by
 cases l with
 | nil=>exact absurd rfl h
 | cons x l=>simp[Lt]
def NY (p h:List UInt8) (t:List (List UInt8)):Lt p (h::t)=(p++h)::t:=rfl
def UU {b:UInt8}:∀ {p:List UInt8} (l:List UInt8),b∉p->LB b (p++b::l)=p::LB b l
 | [],l,_=>by rw[Qg1,EE,Qa1 rfl]
 | x::p,l,h=>by simp only[Qe5,not_or] at h;rw[Qf5,EE,Qa4 (λe=>h.1 e.symm),UU l h.2];rfl
def Qq {b:UInt8}:∀ {p:List UInt8},b∉p->LB b p=[p]
 | [],_=>rfl
 | x::p,h=>by simp only[Qe5,not_or] at h;rw[EE,Qa4 (λe=>h.1 e.symm),Qq h.2];rfl
def OP (b:UInt8):∀ l:List UInt8,(LB b l).length<=l.length+1/\∀ p∈LB b l,p.length<=l.length
 | []=>by simp[LB]
 | x::l=>by
  obtain⟨h1,h2⟩:=OP b l;rw[EE];split
  ·grind
  ·cases h:LB b l with
   | nil=>exact absurd h (JY b l)
   | cons y t=>
    rw[h] at h1 h2;refine⟨by simp only[Lt,Qa6] at h1 ⊢;omega,λp hp=>?_⟩;simp only[Lt,Qe5] at hp;grind
def ofL (l:List UInt8):ByteArray:=⟨l.toArray⟩
def toL (s:ByteArray):List UInt8:=s.data.toList
def DX (s:ByteArray):ofL (toL s)=s:=by simp[ofL,toL]
def JM (l:List UInt8):toL (ofL l)=l:=by simp[ofL,toL]
def BQ (s:ByteArray):(toL s).length=s.size:=rfl
def FZ (l:List UInt8):(ofL l).size=l.length:=by simp[ofL,ByteArray.size]
def ES (s t:ByteArray):toL (s++t)=toL s++toL t:=by simp[toL]
def HZ (l m:List UInt8):ofL (l++m)=ofL l++ofL m:=by
 rfl
def Bq (s:ByteArray) (a b:Nat):toL (s.extract a b)=((toL s).take b).drop a:=by
 simp[toL,List.drop_take]
def spl (b:UInt8) (s:ByteArray):List ByteArray:=(LB b (toL s)).map ofL
def JF (b:UInt8) (s:ByteArray) (a i:Nat):List ByteArray:=if i<=s.size then(Lt (((toL s).take i).drop a) (LB b ((toL s).drop i))).map ofL else[]
def WK (b:UInt8) (s:ByteArray):JF b s 0 0=spl b s:=by
 unfold JF spl;rw[Qa1 (Nat.zero_le _)];simp[RC (JY b _)]
def Ry (b:UInt8) {s:ByteArray} {a i:Nat} (h:s.size<i):JF b s a i=[]:=by
 unfold JF;rw[Qa4 o_]
def WI (b:UInt8) {s:ByteArray} {a i:Nat} (h:i=s.size):JF b s a i=[s.extract a i]:=by
 subst h;unfold JF;rw[Qa1 (Qa7 _),Qb2 (l:=toL s) (i:=s.size) (by rw[BQ];exact Qa7 _)];rw[LB,NY,Qd5,Qc5,<-Bq,DX];rfl
def Ig {s:ByteArray} {i:Nat} (h:i<s.size):(toL s).drop i=s.data.getD i 0::(toL s).drop (i+1):=by
 have h2:i<s.data.size:=h;have e:s.data.getD i 0=s.data[i]:=by unfold Array.getD;rw[dif_pos h2];rfl
 rw[List.drop_eq_getElem_cons (by rw[BQ];exact h),e];rfl
def YS {b:UInt8} {s:ByteArray} {a i:Nat} (h:i<s.size) (hb:s.data.getD i 0=b):JF b s a i=s.extract a i::JF b s (i+1) (i+1):=by
 unfold JF;rw[Qa1 o_,Qa1 o_,Ig h,EE,Qa1 hb];rw[NY,Qd5,Qc5,<-Bq,DX,Qb2 (l:=(toL s).take (i+1)) (i:=i+1) (by rw[Qc0];omega),RC (JY b _)]
def Wq {b:UInt8} {s:ByteArray} {a i:Nat} (h:i<s.size) (ha:a<=i) (hb:s.data.getD i 0≠b):JF b s a i=JF b s a (i+1):=by
 unfold JF;rw[Qa1 o_,Qa1 o_,Ig h,EE,Qa4 hb,SZ _ _ (JY b _)];congr 2;have:(toL s).take (i+1)=(toL s).take i++[s.data.getD i 0]:=by
  have h2:i<s.data.size:=h;have e:s.data.getD i 0=s.data[i]:=by unfold Array.getD;rw[dif_pos h2];rfl
  rw[List.take_succ_eq_append_getElem (by rw[BQ];exact h),e];rfl
 rw[this,List.drop_append_of_le_length (by rw[Qc0,BQ];omega)]
def TZ (b:UInt8):∀ l:List UInt8,((LB b l).map λp=>p.length+1).sum=l.length+1
 | []=>rfl
 | x::l=>by
  have h:=TZ b l;rw[EE];split
  ·grind
  ·cases hq:LB b l with
   | nil=>exact absurd hq (JY b l)
   | cons y t=>
    rw[hq] at h;simp only[Qc5,List.sum_cons,Lt,Qa3,Qa6,Qb7] at h ⊢;omega
def Ee (b:UInt8) (s:ByteArray):0<(spl b s).length/\(spl b s).length<=s.size+1:=by
 have h:=OP b (toL s);have h2:=JY b (toL s);rw[BQ] at h;unfold spl;grind
def Iz {b:UInt8} {s x:ByteArray} (h:x∈spl b s):x.size<=s.size:=by
 unfold spl at h;obtain⟨p,hp,rfl⟩:=Qg7.1 h;rw[FZ];exact(OP b (toL s)).2 p hp
def Fm (b:UInt8):List UInt8->Option (List UInt8×List UInt8)
 | []=>none
 | x::l=>if x=b then some ([],l) else(Fm b l).map λr=>(x::r.1,r.2)
def L6 {b:UInt8}:∀ {l:List UInt8},b∉l->Fm b l=none
 | [],_=>rfl
 | x::l,h=>by simp only[Qe5,not_or] at h;rw[Fm,Qa4 (λe=>h.1 e.symm),L6 h.2];rfl
def PP {b:UInt8}:∀ {p:List UInt8} (l:List UInt8),b∉p->Fm b (p++b::l)=some (p,l)
 | [],l,_=>by rw[Qg1,Fm,Qa1 rfl]
 | x::p,l,h=>by simp only[Qe5,not_or] at h;rw[Qf5,Fm,Qa4 (λe=>h.1 e.symm),PP l h.2];rfl
def ZE {b:UInt8} {s:ByteArray} {i:Nat} (h:i<s.size) (hb:s.data.getD i 0=b) (hn:b∉(toL s).take i):Fm b (toL s)=some ((toL s).take i,(toL s).drop (i+1)):=by
 have e:toL s=(toL s).take i++b::(toL s).drop (i+1):=by rw[<-hb,<-Ig h,Qd2]
 rw[e,PP _ hn,<-e]
def Aai {b:UInt8} {s:ByteArray} {i:Nat} (h:i<s.size) (hb:s.data.getD i 0≠b) (hn:b∉(toL s).take i):b∉(toL s).take (i+1):=by
 have h2:i<s.data.size:=h;have e:s.data.getD i 0=s.data[i]:=by unfold Array.getD;rw[dif_pos h2];rfl
 rw[List.take_succ_eq_append_getElem (by rw[BQ];exact h),Qb8,not_or];refine⟨hn,?_⟩;simp only[List.mem_singleton];intro h3;exact hb (by rw[e];exact h3.symm)
end Go.D
namespace Go.D
open Go.Sort
def pv:Ty->Bool
 | .int=>true
 | .bool=>true
 | .str=>true
 | .u8=>true
 | _=>false
def vOf (t:Ty) (x:El t):Value:=match enc t x with
 | [.val v]=>v
 | _=>undef
def Hr:(as:List Ak)->As as->List Value
 | [],_=>[]
 | .v (.el t)::as,x=>vOf t x.1::Hr as x.2
 | _::as,x=>undef::Hr as x.2
def IU:List Ak->Bool
 | []=>true
 | .v (.el t)::as=>pv t&&IU as
 | _::_=>false
def GU:List Sh->Bool
 | []=>true
 | .el t::rs=>pv t&&GU rs
 | _::_=>false
def Iu:(rs:List Sh)->Ts rs->List Value
 | [],_=>[]
 | .el t::rs,x=>vOf t x.1::Iu rs x.2
 | .sl _::rs,x=>undef::Iu rs x.2
def Ag4:List Value->Value
 | [v]=>v
 | vs=>.tuple vs.toArray
def YL {t:Ty} (h:pv t=true) (x:El t):enc t x=[.val (vOf t x)]/\plain (vOf t x)=true/\(Sh.el t).agg=false:=by
 cases t<;>first|exact⟨rfl,rfl,rfl⟩|cases h
def NF {w:World} {G:Gh}:∀ (as:List Ak) (x:As as),IU as=true->∀ (vs:List Value),vs.length=(EA as x).length->(∀ (j:Nat) (y:TV),(EA as x)[j]? = some y->∃ v,vs[j]? = some v/\TVR w G y v)->vs=Hr as x:=by
 intro as
 induction as with
 | nil=>intro x _ vs hl _;exact List.eq_nil_of_length_eq_zero hl
 | cons a as ih=>
  intro x hp vs hl hh;cases a with
  | v s=>
   cases s with
   | el t=>
    simp only[IU,Qa2] at hp;obtain⟨e1,e2,e3⟩:=YL hp.1 x.1;cases vs with
    | nil=>simp[EA] at hl
    | cons v vs=>
     obtain⟨v',hv,hr⟩:=hh 0 _ rfl;simp only[List.getElem?_cons_zero,Qa0] at hv;subst hv;have hc:Ab8 (.v (.el t)) x.1=.v false [.sc (vOf t x.1)]:=by show TV.v (Sh.el t).agg ((enc t x.1).map (toCell none))=_;rw[e1,e3];rfl
     rw[hc] at hr;obtain⟨c,hc1,hc2⟩:=hr;injection hc1 with hc1
     subst hc1;rw[Hr,hc2.1,ih x.2 hp.2 vs (by simpa [EA] using hl) λj y hj=>hh (j+1) y hj]
   | sl t=>simp[IU] at hp
  | _=>simp[IU] at hp
def Mb:∀ (rs:List Sh) (y:Ts rs),GU rs=true->JO rs y=(Iu rs y).map λv=>(false,[FC.val v]):=by
 intro rs
 induction rs with
 | nil=>intro y _;rfl
 | cons s rs ih=>
  intro y hp;cases s with
  | el t=>
   simp only[GU,Qa2] at hp;obtain⟨e1,e2,e3⟩:=YL hp.1 y.1;simp only[JO,Iu,Qc5,ih y.2 hp.2,e3];congr 2
  | sl t=>simp[GU] at hp
def Q1:∀ (rs:List Sh) (y:Ts rs),GU rs=true->∀ v∈Iu rs y,plain v=true:=by
 intro rs
 induction rs with
 | nil=>intro y _ v hv;cases hv
 | cons s rs ih=>
  intro y hp v hv;cases s with
  | el t=>
   simp only[GU,Qa2] at hp;rcases Qe5.1 hv with rfl|hv
   ·exact(YL hp.1 y.1).2.1
   ·grind
  | sl t=>simp[GU] at hp
def AdZ {w:World}:∀ (vs:List Value),(∀ v∈vs,plain v=true)->ResR w (Wj (vs.map λv=>(false,[FC.val v]))) (Ag4 vs) (λ_ _ _=>False)
 | [],_=>⟨#[],rfl,rfl,by simp⟩
 | [v],h=>by
  refine⟨_,rfl,⟨rfl,h v (by simp)⟩,M9 (h v (by simp))⟩
 | v::u::vs,h=>by
  refine⟨(v::u::vs).toArray,rfl,by simp,λi p hp=>?_⟩;have hp:((v::u::vs).map λv=>(false,[FC.val v]))[i]? = some p:=hp;rw[Qc2] at hp;cases hq:(v::u::vs)[i]? with
  | none=>rw[hq] at hp;cases hp
  | some x=>
   rw[hq] at hp;injection hp with hp
   subst hp;have:=h x (Qf7 hq);exact⟨x,by simpa using hq,_,rfl,⟨rfl,this⟩,M9 this⟩
def Ul {P:Program} {f:Nat} {S:Fct} (ha:IU S.as=true) (hr:GU S.rs=true)
 (h:∀ x,S.pre x->∀ (w:World) (ow:Nat->Own),Base P w ow->Calls P f (Hr S.as x).toArray w λe w'=>e=.returned (Ag4 (Iu S.rs (S.fn x)))/\∃ n os,w'=grow (w.drewN n) os):S.ok P f:=by
 intro x hx w vs G hB hA;have hvs:vs=(Hr S.as x).toArray:=by
  have:=NF (w:=w) (G:=G) S.as x ha vs.toList (by simpa [Fct.arg] using hA.sz) λj y hj=>by obtain⟨v,hv,hr⟩:=hA.tm j y hj;simp_all
  rw[<-this]
 subst hvs;refine(h x hx w _ hB).mono ?_;rintro e w' ⟨rfl,n,os,rfl⟩;have hold:∀ g,g<w.heap.size->(grow (w.drewN n) os).heap[g]? = w.heap[g]?:=λg hg=>by rw[heap_grow_old _ _ (show g<(w.drewN n).heap.size from hg)];rfl
 refine⟨_,⟨mkR S.rs (S.fn x),[],[]⟩,rfl,rfl,⟨rfl,rfl,⟨rfl,by first|exact DrLe.refl _|exact DrLe.succ _|exact DrLe.add _ _⟩,?_⟩,λg hg=>hold g (hA.lt g (by simp[hg])),λg hg=>(hA.cr g hg).same (hold g (hA.lt g (by simp[hg]))),λ_ _=>False,by simp,by simp,?_,?_,?_⟩
 ·show w.heap.size<=(w.heap++os).size;simp
 ·show ResR _ (Wj (JO S.rs (S.fn x))) _ _;rw[Mb _ _ hr];exact AdZ _ (Q1 _ _ hr)
 ·intro m T hm;cases hm
 ·intro b cs hb;cases hb
def Acp (w:World):w=grow (w.drewN 0) #[]:=by
 rfl
end Go.D
namespace Go.D
open Go.RowKit
def R3 (w:World) (r:Array Value) (T:TypeId) (j:Nat) (v:Value):(w.alloc (.cells r T)).setCell ⟨w.heap.size,j,none⟩ v=w.alloc (.cells (r.setIfInBounds j v) T):=by
 rw[setCell_eq_setRow _ _ _ r T (0,0) v (heap_alloc_last w _),World.setRow_alloc_new]
def Ff (w:World) (r:Array Value) (T:TypeId) (j:Nat):(w.alloc (.cells r T)).cell? ⟨w.heap.size,j,none⟩=r[j]?:=cell_of_row _ _ j r T (0,0) (heap_alloc_last w _)
def PQ (w:World) (r:Array Value) (T:TypeId) (j:Nat):(w.alloc (.cells r T)).frozen? ⟨w.heap.size,j,none⟩=false:=by
 simp
def Uj {r:Array Value} {i:Nat} {v:Value} (hi:i<r.size) (t:Nat):(r.setIfInBounds i v)[t]? = if t=i then some v else r[t]?:=by
 grind
structure Neu (w w':World):Prop where
 os:w'.os=w.os
 tape:w'.tape=w.tape
 output:w'.output=w.output
 drawn:DrLe w.drawn w'.drawn
 size:w.heap.size<=w'.heap.size
 old:∀ g,g<w.heap.size->w'.heap[g]? = w.heap[g]?
def Neu.refl (w:World):Neu w w:=⟨rfl,rfl,rfl,DrLe.refl _,Qa7 _,λ_ _=>rfl⟩
def Neu.drew {w w':World} (h:Neu w w'):Neu w w'.drew:=⟨h.os,h.tape,h.output,h.drawn.trans (DrLe.succ _),h.size,h.old⟩
def Neu.alloc {w w':World} (h:Neu w w') (o:Obj):Neu w (w'.alloc o):=⟨h.os,h.tape,h.output,h.drawn,by rw[World.size_alloc];have:=h.size;omega,λg hg=>by
 rw[<-h.old g hg];show(w'.heap.push o)[g]? = _;rw[Array.getElem?_push,Qa4 (by have:=h.size;omega)]⟩
def Neu.set {w w':World} (h:Neu w w') {a:Addr} (ha:w.heap.size<=a.block) (v:Value):Neu w (w'.setCell a v):=⟨h.os,h.tape,h.output,h.drawn,by rw[World.size_setCell];exact h.size,λg hg=>by
 rw[<-h.old g hg];unfold World.setCell;simp only[Array.getElem?_modify];rw[Qa4 o_]⟩
def Neu.bytes {w w':World} (h:Neu w w') (e:TypeId) (s:ByteArray):Neu w (Lib.bytesWorld w' e s):=⟨h.os,h.tape,h.output,h.drawn.trans (DrLe.succ _),by rw[Lib.bytesWorld_size];have:=h.size;omega,λg hg=>by
 rw[<-h.old g hg];exact Lib.bytesWorld_at_old w' e s g (by have:=h.size;omega)⟩
def Neu.put {w w':World} (h:Neu w w') {α:Type} [Inhabited α] (enc:α->Value) {b:Nat} (hb:w.heap.size<=b) (off:Nat) (d:Array α):Neu w (Go.Sort.putRow enc w' b off d):=⟨h.os,h.tape,h.output,h.drawn,by
 unfold Go.Sort.putRow Go.Sort.mapBlock;simp only[Array.size_modify];exact h.size,λg hg=>by
 rw[<-h.old g hg];unfold Go.Sort.putRow Go.Sort.mapBlock;simp only[Array.getElem?_modify];rw[Qa4 o_]⟩
def Neu.trans {a b c:World} (h:Neu a b) (k:Neu b c):Neu a c:=⟨k.os.trans h.os,k.tape.trans h.tape,k.output.trans h.output,h.drawn.trans k.drawn,Qd7 h.size k.size,λg hg=>(k.old g (Qf4 hg h.size)).trans (h.old g hg)⟩
def Neu.below {w w':World} (h:Below w.heap.size w w'):Neu w w':=⟨h.os,h.tape,h.output,trivial,h.size,λg hg=>h.block g hg⟩
def Neu.grow (w:World) (k:Nat) (os:Array Obj):Neu w (Go.Sort.grow (w.drewN k) os):=⟨rfl,rfl,rfl,DrLe.add _ _,by show w.heap.size<=(w.heap++os).size;simp,λg hg=>by
 show(w.heap++os)[g]? = _;rw[Array.getElem?_append_left hg]⟩
def Neu.laid {P:Program} {w w':World} (h:Neu w w') (l:Laid P w):Laid P w' :=
 ⟨λq=>KA h.old (l.1 q),λq=>let ⟨tp,p,hv⟩:=l.2.1 q;⟨tp,p,KA h.old hv⟩,λq=>let ⟨tp,p,hv⟩:=l.2.2 q;⟨tp,p,KA h.old hv⟩⟩
def TI {P:Program} {w:World} {n:String} {g:Nat} {x:Value} (hg:P.globalNamed n=some g) (h:w.var? P n=some #[x]):w.cell? ⟨g,0,none⟩=some x:=by
 unfold World.var? at h;rw[hg,Option.bind_some] at h;split at h
 ·rename_i cs e z hh;simp only[Qa0] at h;subst h;simp[World.cell?,hh]
 ·cases h
open Go.Sort in
def Sz {P:Program} {f:Nat} {S:Fct} (ha:IU S.as=true) (hr:GU S.rs=true)
 (h:∀ x,S.pre x->∀ (w:World) (ow:Nat->Own),Base P w ow->Calls P f (Hr S.as x).toArray w λe w'=>e=.returned (Ag4 (Iu S.rs (S.fn x)))/\Neu w w'):S.ok P f:=by
 intro x hx w vs G hB hA;have hvs:vs=(Hr S.as x).toArray:=by
  have:=NF (w:=w) (G:=G) S.as x ha vs.toList (by simpa [Fct.arg] using hA.sz) λj y hj=>by obtain⟨v,hv,hr⟩:=hA.tm j y hj;simp_all
  rw[<-this]
 subst hvs;refine(h x hx w _ hB).mono ?_;rintro e w' ⟨rfl,hn⟩;refine⟨_,⟨mkR S.rs (S.fn x),[],[]⟩,rfl,rfl,⟨hn.os,hn.tape,⟨hn.output,hn.drawn⟩,hn.size⟩,λg hg=>hn.old g (hA.lt g (by simp[hg])),λg hg=>(hA.cr g hg).same (hn.old g (hA.lt g (by simp[hg]))),λ_ _=>False,by simp,by simp,?_,?_,?_⟩
 ·show ResR _ (Wj (JO S.rs (S.fn x))) _ _;rw[Mb _ _ hr];exact AdZ _ (Q1 _ _ hr)
 ·intro m T hm;cases hm
 ·intro b cs hb;cases hb
end Go.D
