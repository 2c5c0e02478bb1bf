/-
  The library of the proof, part 4.
-/
import Derived.Test.YtembimgkibocmaaGreatVLc
import Derived.Lib.Bytealg
import Derived.Sort.LotA
import Derived.Laws.Strings
import Derived.Lib.ItoaNum
import Derived.Sort.Grow
import Derived.Deep.Draws
set_option linter.unusedVariables false
set_option linter.unusedSimpArgs false
namespace Go.D
set_option linter.unusedSimpArgs false
set_option maxRecDepth 100000
set_option maxHeartbeats 2000000
def szAddr (x:SAddr):Nat:=x.host.size+x.path.size
def szAttr (x:SAttr):Nat:=x.name.size+x.value.size
def szToken (x:SToken):Nat:=x.name.size+szL szAttr x.attrs+x.text.size
def szTokenizer (x:STokenizer):Nat:=x.rest.size
def szNode (x:SNode):Nat:=x.name.size+x.text.size+szL szAttr x.attrs
def szBuilder (x:SBuilder):Nat:=szL szNode x.nodes+x.open_.length
def szRule (x:SRule):Nat:=x.name.size
def szSheet (x:SSheet):Nat:=szL szRule x.rules
def szLine (x:SLine):Nat:=x.text.size
def szPolicy (x:SPolicy):Nat:=szL szString x.scripts+szL szString x.styles+szL szString x.images+x.nonce.size
def szResponse (x:SResponse):Nat:=x.body.size+x.policy.size
def szRequest (x:SRequest):Nat:=szAddr x.to+x.from_.size+x.digest.size
def szFile (x:SFile):Nat:=x.path.size+szResponse x.response
def szServer (x:SServer):Nat:=x.host.size+szL szFile x.files
def szSlot (x:SSlot):Nat:=szAddr x.to+x.digest.size+x.body.size
def szModule (x:SModule):Nat:=szAddr x.to+x.body.size
def szPage (x:SPage):Nat:=szAddr x.addr+szPolicy x.policy+szTokenizer x.tok+szL szToken x.queue+szBuilder x.builder+szL szSlot x.slots+szL szModule x.mods+szL szAddr x.entries+szL szAddr x.ran+szL szString x.log
def szVisit (x:SVisit):Nat:=szAddr x.addr+szPage x.page
def szTab (x:STab):Nat:=szL szVisit x.visits
theorem etaAddr (x:SAddr):(⟨x.host,x.path⟩:SAddr)=x:=rfl
theorem etaToken (x:SToken):(⟨x.kind,x.name,x.attrs,x.text⟩:SToken)=x:=rfl
theorem etaNode (x:SNode):(⟨x.name,x.text,x.parent,x.attrs⟩:SNode)=x:=rfl
theorem etaBuilder (x:SBuilder):(⟨x.nodes,x.open_⟩:SBuilder)=x:=rfl
theorem etaSheet (x:SSheet):(⟨x.rules⟩:SSheet)=x:=rfl
theorem etaPolicy (x:SPolicy):(⟨x.set_,x.scripts,x.styles,x.images,x.nonce⟩:SPolicy)=x:=rfl
theorem etaResponse (x:SResponse):(⟨x.status,x.kind,x.body,x.age,x.shares,x.policy⟩:SResponse)=x:=rfl
theorem etaRequest (x:SRequest):(⟨x.kind,x.to,x.from_,x.digest⟩:SRequest)=x:=rfl
theorem etaFile (x:SFile):(⟨x.path,x.response⟩:SFile)=x:=rfl
theorem etaServer (x:SServer):(⟨x.host,x.files⟩:SServer)=x:=rfl
theorem etaEntry (x:SEntry):(⟨x.top,x.to,x.response,x.until_⟩:SEntry)=x:=rfl
theorem etaCache (x:SCache):(⟨x.entries⟩:SCache)=x:=rfl
theorem etaSent (x:SSent):(⟨x.top,x.to,x.guess⟩:SSent)=x:=rfl
theorem etaNet (x:SNet):(⟨x.servers,x.cache,x.log,x.now⟩:SNet)=x:=rfl
theorem etaSlot (x:SSlot):(⟨x.mode,x.to,x.digest,x.node,x.done,x.code,x.body⟩:SSlot)=x:=rfl
theorem etaModule (x:SModule):(⟨x.to,x.done,x.code,x.body⟩:SModule)=x:=rfl
theorem etaPage (x:SPage):(⟨x.addr,x.policy,x.tok,x.queue,x.ended,x.builder,x.slots,x.mods,x.entries,x.block,x.inline,x.deferred,x.entered,x.ran,x.log,x.loaded⟩:SPage)=x:=rfl
theorem etaResult (x:SResult):(⟨x.builder,x.log,x.verdicts,x.sheet,x.loaded⟩:SResult)=x:=rfl
theorem etaGuess (x:SGuess):(⟨x.to,x.response,x.used⟩:SGuess)=x:=rfl
theorem etaConn (x:SConn):(⟨x.to,x.left,x.guess,x.response⟩:SConn)=x:=rfl
theorem etaLoader (x:SLoader):(⟨x.net,x.page,x.parts,x.conns,x.guesses⟩:SLoader)=x:=rfl
theorem etaVisit (x:SVisit):(⟨x.addr,x.page,x.kept⟩:SVisit)=x:=rfl
theorem etaTab (x:STab):(⟨x.visits,x.at_⟩:STab)=x:=rfl
theorem baBeq (x y:ByteArray):(x==y)=decide (x=y):=by
 rw[Bool.eq_iff_iff,decide_eq_true_eq]
 constructor
 ·intro h
  have h':(x.data==y.data)=true:=h
  cases x;cases y;simpa using h'
 ·rintro rfl
  show(x.data==x.data)=true
  simp
theorem beqAddr (x y:SAddr):(x.host==y.host&&(x.path==y.path&&true))=decide (x=y):=by
 rw[Bool.eq_iff_iff];cases x;cases y;simp[baBeq]
theorem beqAttr (x y:SAttr):(x.name==y.name&&(x.value==y.value&&true))=decide (x=y):=by
 rw[Bool.eq_iff_iff];cases x;cases y;simp[baBeq]
theorem beqTokenizer (x y:STokenizer):(x.rest==y.rest&&true)=decide (x=y):=by
 rw[Bool.eq_iff_iff];cases x;cases y;simp[baBeq]
theorem beqSlot (x y:SSlot):(x.mode==y.mode&&((x.to.host==y.to.host&&(x.to.path==y.to.path&&true))&&(x.digest==y.digest&&(x.node==y.node&&(x.done==y.done&&(x.code==y.code&&(x.body==y.body&&true)))))))=decide (x=y):=by
 rw[Bool.eq_iff_iff];simp only[beqAddr];cases x;cases y;simp[baBeq]
theorem beqModule (x y:SModule):((x.to.host==y.to.host&&(x.to.path==y.to.path&&true))&&(x.done==y.done&&(x.code==y.code&&(x.body==y.body&&true))))=decide (x=y):=by
 rw[Bool.eq_iff_iff];simp only[beqAddr];cases x;cases y;simp[baBeq]
end Go.D
namespace Go.D
theorem etaS:(∀ x:SToken,(⟨x.kind,x.name,x.attrs,x.text⟩:SToken)=x)∧(∀ x:SNode,(⟨x.name,x.text,x.parent,x.attrs⟩:SNode)=x)∧(∀ x:SBuilder,(⟨x.nodes,x.open_⟩:SBuilder)=x)∧(∀ x:SPolicy,(⟨x.set_,x.scripts,x.styles,x.images,x.nonce⟩:SPolicy)=x)∧(∀ x:SPage,(⟨x.addr,x.policy,x.tok,x.queue,x.ended,x.builder,x.slots,x.mods,x.entries,x.block,x.inline,x.deferred,x.entered,x.ran,x.log,x.loaded⟩:SPage)=x)∧(∀ x:SVisit,(⟨x.addr,x.page,x.kept⟩:SVisit)=x)∧(∀ x:STab,(⟨x.visits,x.at_⟩:STab)=x)∧(∀ x:SServer,(⟨x.host,x.files⟩:SServer)=x)∧(∀ x:SCache,(⟨x.entries⟩:SCache)=x)∧(∀ x:SNet,(⟨x.servers,x.cache,x.log,x.now⟩:SNet)=x)∧(∀ x:SLoader,(⟨x.net,x.page,x.parts,x.conns,x.guesses⟩:SLoader)=x)∧(∀ x:SSheet,(⟨x.rules⟩:SSheet)=x)∧(∀ x:SResult,(⟨x.builder,x.log,x.verdicts,x.sheet,x.loaded⟩:SResult)=x)∧(∀ x:SSlot,(⟨x.mode,x.to,x.digest,x.node,x.done,x.code,x.body⟩:SSlot)=x)∧(∀ x:SModule,(⟨x.to,x.done,x.code,x.body⟩:SModule)=x)∧(∀ x:SAddr,(⟨x.host,x.path⟩:SAddr)=x)∧(∀ x:SRequest,(⟨x.kind,x.to,x.from_,x.digest⟩:SRequest)=x)∧(∀ x:SResponse,(⟨x.status,x.kind,x.body,x.age,x.shares,x.policy⟩:SResponse)=x)∧(∀ x:SConn,(⟨x.to,x.left,x.guess,x.response⟩:SConn)=x)∧(∀ x:SGuess,(⟨x.to,x.response,x.used⟩:SGuess)=x)∧(∀ x:SEntry,(⟨x.top,x.to,x.response,x.until_⟩:SEntry)=x)∧(∀ x:SSent,(⟨x.top,x.to,x.guess⟩:SSent)=x)∧(∀ x:SFile,(⟨x.path,x.response⟩:SFile)=x) :=
 ⟨etaToken,etaNode,etaBuilder,etaPolicy,etaPage,etaVisit,etaTab,etaServer,etaCache,etaNet,etaLoader,etaSheet,etaResult,etaSlot,etaModule,etaAddr,etaRequest,etaResponse,etaConn,etaGuess,etaEntry,etaSent,etaFile⟩
theorem std:(type_of% @etaS)∧(type_of% @std1)∧(type_of% @std2)∧∀ {α:Type} (a b:α),(a≠b) = ¬a=b:=⟨etaS,std1,std2,fun _ _=>rfl⟩
theorem Fct.p {S:Fct} {P:Program} {E:Env} {f:Nat} {fn:Func} (kp:List Nat) (L:As S.as→LEnv) (hE:EOk P E) (hf:P.funcs[f]? = some fn)
 (hh:∀ x,S.pre x→HoldsE (fnOut P E (L x) kp [] fn (S.arg x)) (S.ctr x).post) (hc:(fn.body.isSome&&decide (S.as.length≤fn.ntmps))=true:=by kernel_rfl):S.ok P f:=by
 rw[Bool.and_eq_true] at hc
 exact Fct.of (L:=L) hE hf hc.1 hc.2 hh
end Go.D
namespace Go.D
set_option linter.unusedSectionVars false
section
variable {α:Type} [DecidableEq α] [Inhabited α]
def dedupA:List α→List α
 | []=>[]
 | [a]=>[a]
 | a::b::l=>if a=b then dedupA (b::l) else a::dedupA (b::l)
structure CompInv (s d:List α) (k0 k k2:Int):Prop where
 c2:1≤k2
 c0:1≤k0
 le:k0+k2≤s.length
 lo:k0≤k
 hi:k<k0+k2
 len:d.length=s.length
 dr:d.drop k.toNat=s.drop k.toNat
 tk:d.take k.toNat=dedupA (s.take (k0+k2).toNat)
theorem getD_drop_eq {s d:List α} {k i:Nat} (h:d.drop k=s.drop k) (hi:k≤i):d.getD i default=s.getD i default:=by
 have h1:(d.drop k)[i-k]? = (s.drop k)[i-k]?:=by rw[h]
 grind
theorem CompInv.at_ {s d:List α} {k0 k k2:Int} (h:CompInv s d k0 k k2) (hlt:k0+k2<s.length) :
 d.getD (k0.toNat+k2.toNat) default=s.getD (k0+k2).toNat default∧d.getD (k0.toNat+(k2-1).toNat) default=s.getD ((k0+k2).toNat-1) default:=by
 obtain⟨a,b,c,e,f,g,i,j⟩:=h
 refine⟨?_,?_⟩
 ·rw[getD_drop_eq i (by omega)];congr 1;omega
 ·rw[getD_drop_eq i (by omega)];congr 1;omega
end
end Go.D
namespace Go.D
open Go.Lib Go.Sort
def cmpB (a b:ByteArray):Int:=compareBytes a.data.toList b.data.toList
theorem cb_range:∀ l m:List UInt8,compareBytes l m = -1∨compareBytes l m=0∨compareBytes l m=1:=by
 intro l
 induction l with
 | nil=>intro m;cases m<;>simp[compareBytes]
 | cons a l ih=>
  intro m
  cases m with
  | nil=>simp[compareBytes]
  | cons b m=>
   simp only[compareBytes]
   grind
theorem cb_eq:∀ {l m:List UInt8},compareBytes l m=0↔l=m:=by
 intro l
 induction l with
 | nil=>intro m;cases m<;>simp[compareBytes]
 | cons a l ih=>
  intro m
  cases m with
  | nil=>simp[compareBytes]
  | cons b m=>
   simp only[compareBytes,List.cons.injEq]
   grind
theorem less_cb:∀ {l m:List UInt8},Op.bytesLess l m=decide (compareBytes l m<0):=by
 intro l
 induction l with
 | nil=>intro m;cases m<;>simp[Op.bytesLess,compareBytes]
 | cons a l ih=>
  intro m
  cases m with
  | nil=>simp[Op.bytesLess,compareBytes]
  | cons b m=>
   simp only[Op.bytesLess,compareBytes,ih]
   grind
theorem less_cmpB (a b:ByteArray):Op.bytesLess a.toList b.toList=decide (cmpB a b<0):=by
 rw[less_cb,Lib.toList_data,Lib.toList_data];rfl
theorem ba_ext {a b:ByteArray} (h:a.data.toList=b.data.toList):a=b:=by
 cases a;cases b;simpa using Array.toList_inj.1 h
theorem cmpB_eq {a b:ByteArray}:cmpB a b=0↔a=b:=⟨fun h=>ba_ext (cb_eq.1 h),fun h=>cb_eq.2 (by rw[h])⟩
theorem cmpB_range (a b:ByteArray):cmpB a b = -1∨cmpB a b=0∨cmpB a b=1:=cb_range _ _
def cmpA (a b:SAddr):Int:=if cmpB a.host b.host=0 then cmpB a.path b.path else cmpB a.host b.host
theorem cmpA_range (a b:SAddr):cmpA a b = -1∨cmpA a b=0∨cmpA a b=1:=by unfold cmpA;split<;>exact cmpB_range _ _
theorem cmpA_eq {a b:SAddr}:cmpA a b=0↔a=b:=by
 obtain⟨h,p⟩:=a;obtain⟨h',p'⟩:=b
 simp only[cmpA,SAddr.mk.injEq]
 split
 ·rename_i e;rw[cmpB_eq,cmpB_eq.1 e];simp
 ·rename_i e;constructor
  ·omega
  ·rintro⟨rfl,_⟩;exact absurd (cmpB_eq.2 rfl) e
end Go.D
namespace Go.D
def fmtI (n:Int):ByteArray:=⟨(Lib.itoa n).toArray⟩
def decS (k:Nat) (s:ByteArray):ByteArray:=if k=0 then s else⟨(Lib.decDigits k).toArray⟩++s
theorem decDigits_step {k:Nat} (h:10≤k):Lib.decDigits k=Lib.decDigits (k / 10)++[UInt8.ofNat (48+k % 10)]:=by
 rw[Lib.decDigits,dif_neg (by omega)]
theorem decDigits_low {k:Nat} (h:k<10):Lib.decDigits k=[UInt8.ofNat (48+k)]:=by
 rw[Lib.decDigits,dif_pos h]
theorem decS_step {k:Nat} {s:ByteArray} (h:0<k):decS k s=decS (k / 10) (⟨#[UInt8.ofNat (48+k % 10)]⟩++s):=by
 unfold decS
 rw[if_neg (by omega)]
 by_cases h1:k<10
 ·rw[if_pos (by omega),decDigits_low h1,Nat.mod_eq_of_lt h1]
 ·rw[if_neg (by omega),decDigits_step (by omega)]
  rw[←ByteArray.append_assoc]
  congr 1
theorem fmtI_zero:fmtI 0=⟨#[48]⟩:=by
 unfold fmtI Lib.itoa
 rw[if_neg (by omega),decDigits_low (by decide)]
 rfl
theorem fmtI_neg {n:Int} (h:n<0):fmtI n=⟨#[45]⟩++decS n.natAbs ⟨#[]⟩:=by
 unfold fmtI Lib.itoa decS
 rw[if_pos h,if_neg (by omega)]
 apply ByteArray.ext
 simp
theorem fmtI_pos {n:Int} (h:0<n):fmtI n=decS n.natAbs ⟨#[]⟩:=by
 unfold fmtI Lib.itoa decS
 rw[if_neg (by omega),if_neg (by omega),show n.toNat=n.natAbs by omega]
 apply ByteArray.ext
 simp
theorem decDigits_len10:∀ (f k:Nat),k<10 ^ (f+1)→(Lib.decDigits k).length≤f+1
 | 0,k,h=>by rw[decDigits_low (by omega)];simp
 | f+1,k,h=>by
  by_cases h1:k<10
  ·rw[decDigits_low h1];simp
  ·rw[decDigits_step (by omega),List.length_append]
   have:=decDigits_len10 f (k / 10) (by rw[Nat.pow_succ] at h;omega)
   simp only[List.length_cons,List.length_nil];omega
theorem fmtI_size {n:Int} (h0 : -9223372036854775808≤n) (h1:n≤9223372036854775807):(fmtI n).size≤20:=by
 have e:(fmtI n).size=(Lib.itoa n).length:=by simp[fmtI,ByteArray.size]
 rw[e]
 unfold Lib.itoa
 split
 ·have:=decDigits_len10 18 n.natAbs (by omega)
  simp only[List.length_cons];omega
 ·have:=decDigits_len10 18 n.toNat (by omega)
  omega
theorem tmod_abs (x:Int):(if x.tmod 10<0 then 0-x.tmod 10 else x.tmod 10)=((x.natAbs % 10:Nat):Int):=by
 have h1:(x.tmod 10).natAbs=x.natAbs % 10:=Int.natAbs_tmod x 10
 split<;>omega
theorem tdiv_abs (x:Int):(x.tdiv 10).natAbs=x.natAbs / 10:=Int.natAbs_tdiv x 10
theorem digU {k:Nat} (h:k<10):IntKind.u8.wrap (IntKind.i64.wrap (48+(k:Int)))=((48+k:Nat):Int):=by
 have e:IntKind.i64.wrap (48+(k:Int))=48+(k:Int):=wrapId (by omega)
 rw[e]
 simp only[IntKind.wrap,IntKind.bits,IntKind.signed,Bool.false_and,Bool.false_eq_true,if_false]
 have:(2 ^ 8:Int)=256:=rfl
 omega
theorem digPush {k:Nat} (h:k<10):List.foldl (fun(r:ByteArray) (n:Int)=>r.push (UInt8.ofNat n.toNat)) ByteArray.empty [((48+k:Nat):Int)]=⟨#[UInt8.ofNat (48+k)]⟩:=by
 simp only[List.foldl,Int.toNat_natCast]
 rfl
end Go.D
namespace Go.D
def splL (b:UInt8):List UInt8→List (List UInt8)
 | []=>[[]]
 | x::l=>if x=b then[]::splL b l else match splL b l with
  | []=>[[x]]
  | h::t=>(x::h)::t
theorem splL_ne (b:UInt8) (l:List UInt8):splL b l≠[]:=by
 cases l with
 | nil=>simp[splL]
 | cons x l=>
  unfold splL
  grind
def glueL (p:List UInt8):List (List UInt8)→List (List UInt8)
 | []=>[p]
 | h::t=>(p++h)::t
theorem glueL_nil {l:List (List UInt8)} (h:l≠[]):glueL [] l=l:=by
 cases l with
 | nil=>exact absurd rfl h
 | cons x l=>rfl
theorem splL_cons (b x:UInt8) (l:List UInt8):splL b (x::l)=if x=b then[]::splL b l else glueL [x] (splL b l):=by
 rfl
theorem glueL_glueL (p q:List UInt8) {l:List (List UInt8)} (h:l≠[]):glueL p (glueL q l)=glueL (p++q) l:=by
 cases l with
 | nil=>exact absurd rfl h
 | cons x l=>simp[glueL]
theorem glueL_cons (p h:List UInt8) (t:List (List UInt8)):glueL p (h::t)=(p++h)::t:=rfl
theorem splL_len (b:UInt8):∀ l:List UInt8,(splL b l).length≤l.length+1∧∀ p∈splL b l,p.length≤l.length
 | []=>by simp[splL]
 | x::l=>by
  obtain⟨h1,h2⟩:=splL_len b l
  rw[splL_cons]
  split
  ·grind
  ·cases h:splL b l with
   | nil=>exact absurd h (splL_ne b l)
   | cons y t=>
    rw[h] at h1 h2
    refine⟨by simp only[glueL,List.length_cons] at h1 ⊢;omega,fun p hp=>?_⟩
    simp only[glueL,List.mem_cons] at hp
    grind
def ofL (l:List UInt8):ByteArray:=⟨l.toArray⟩
def toL (s:ByteArray):List UInt8:=s.data.toList
theorem ofL_toL (s:ByteArray):ofL (toL s)=s:=by simp[ofL,toL]
theorem toL_ofL (l:List UInt8):toL (ofL l)=l:=by simp[ofL,toL]
theorem toL_len (s:ByteArray):(toL s).length=s.size:=rfl
theorem ofL_size (l:List UInt8):(ofL l).size=l.length:=by simp[ofL,ByteArray.size]
theorem ofL_append (l m:List UInt8):ofL (l++m)=ofL l++ofL m:=by
 rfl
theorem toL_extract (s:ByteArray) (a b:Nat):toL (s.extract a b)=((toL s).take b).drop a:=by
 simp[toL,List.drop_take]
def spl (b:UInt8) (s:ByteArray):List ByteArray:=(splL b (toL s)).map ofL
def splAt (b:UInt8) (s:ByteArray) (a i:Nat):List ByteArray:=if i≤s.size then(glueL (((toL s).take i).drop a) (splL b ((toL s).drop i))).map ofL else[]
theorem splAt_zero (b:UInt8) (s:ByteArray):splAt b s 0 0=spl b s:=by
 unfold splAt spl
 rw[if_pos (Nat.zero_le _)]
 simp[glueL_nil (splL_ne b _)]
theorem splAt_end (b:UInt8) {s:ByteArray} {a i:Nat} (h:s.size<i):splAt b s a i=[]:=by
 unfold splAt;rw[if_neg (by omega)]
theorem splAt_last (b:UInt8) {s:ByteArray} {a i:Nat} (h:i=s.size):splAt b s a i=[s.extract a i]:=by
 subst h
 unfold splAt
 rw[if_pos (Nat.le_refl _),List.drop_of_length_le (l:=toL s) (i:=s.size) (by rw[toL_len];exact Nat.le_refl _)]
 rw[splL,glueL_cons,List.append_nil,List.map_cons,←toL_extract,ofL_toL];rfl
theorem toL_drop {s:ByteArray} {i:Nat} (h:i<s.size):(toL s).drop i=s.data.getD i 0::(toL s).drop (i+1):=by
 have h2:i<s.data.size:=h
 have e:s.data.getD i 0=s.data[i]:=by unfold Array.getD;rw[dif_pos h2];rfl
 rw[List.drop_eq_getElem_cons (by rw[toL_len];exact h),e]
 rfl
theorem splAt_hit {b:UInt8} {s:ByteArray} {a i:Nat} (h:i<s.size) (hb:s.data.getD i 0=b):splAt b s a i=s.extract a i::splAt b s (i+1) (i+1):=by
 unfold splAt
 rw[if_pos (by omega),if_pos (by omega),toL_drop h,splL_cons,if_pos hb]
 rw[glueL_cons,List.append_nil,List.map_cons,←toL_extract,ofL_toL,List.drop_of_length_le (l:=(toL s).take (i+1)) (i:=i+1) (by rw[List.length_take];omega),glueL_nil (splL_ne b _)]
theorem splAt_miss {b:UInt8} {s:ByteArray} {a i:Nat} (h:i<s.size) (ha:a≤i) (hb:s.data.getD i 0≠b):splAt b s a i=splAt b s a (i+1):=by
 unfold splAt
 rw[if_pos (by omega),if_pos (by omega),toL_drop h,splL_cons,if_neg hb,glueL_glueL _ _ (splL_ne b _)]
 congr 2
 have:(toL s).take (i+1)=(toL s).take i++[s.data.getD i 0]:=by
  have h2:i<s.data.size:=h
  have e:s.data.getD i 0=s.data[i]:=by unfold Array.getD;rw[dif_pos h2];rfl
  rw[List.take_succ_eq_append_getElem (by rw[toL_len];exact h),e]
  rfl
 rw[this,List.drop_append_of_le_length (by rw[List.length_take,toL_len];omega)]
theorem splL_sum (b:UInt8):∀ l:List UInt8,((splL b l).map fun p=>p.length+1).sum=l.length+1
 | []=>rfl
 | x::l=>by
  have h:=splL_sum b l
  rw[splL_cons]
  split
  ·grind
  ·cases hq:splL b l with
   | nil=>exact absurd hq (splL_ne b l)
   | cons y t=>
    rw[hq] at h
    simp only[List.map_cons,List.sum_cons,glueL,List.length_append,List.length_cons,List.length_nil] at h ⊢
    omega
theorem spl_len (b:UInt8) (s:ByteArray):0<(spl b s).length∧(spl b s).length≤s.size+1:=by
 have h:=splL_len b (toL s)
 have h2:=splL_ne b (toL s)
 rw[toL_len] at h
 unfold spl
 grind
theorem spl_mem {b:UInt8} {s x:ByteArray} (h:x∈spl b s):x.size≤s.size:=by
 unfold spl at h
 obtain⟨p,hp,rfl⟩:=List.mem_map.1 h
 rw[ofL_size]
 exact(splL_len b (toL s)).2 p hp
def cutF (b:UInt8):List UInt8→Option (List UInt8×List UInt8)
 | []=>none
 | x::l=>if x=b then some ([],l) else(cutF b l).map fun r=>(x::r.1,r.2)
theorem cutF_none {b:UInt8}:∀ {l:List UInt8},b∉l→cutF b l=none
 | [],_=>rfl
 | x::l,h=>by
  simp only[List.mem_cons,not_or] at h
  rw[cutF,if_neg (fun e=>h.1 e.symm),cutF_none h.2];rfl
theorem cutF_app {b:UInt8}:∀ {p:List UInt8} (l:List UInt8),b∉p→cutF b (p++b::l)=some (p,l)
 | [],l,_=>by rw[List.nil_append,cutF,if_pos rfl]
 | x::p,l,h=>by
  simp only[List.mem_cons,not_or] at h
  rw[List.cons_append,cutF,if_neg (fun e=>h.1 e.symm),cutF_app l h.2];rfl
theorem cutF_at {b:UInt8} {s:ByteArray} {i:Nat} (h:i<s.size) (hb:s.data.getD i 0=b) (hn:b∉(toL s).take i):cutF b (toL s)=some ((toL s).take i,(toL s).drop (i+1)):=by
 have e:toL s=(toL s).take i++b::(toL s).drop (i+1):=by
  rw[←hb,←toL_drop h,List.take_append_drop]
 rw[e,cutF_app _ hn,←e]
theorem take_no {b:UInt8} {s:ByteArray} {i:Nat} (h:i<s.size) (hb:s.data.getD i 0≠b) (hn:b∉(toL s).take i):b∉(toL s).take (i+1):=by
 have h2:i<s.data.size:=h
 have e:s.data.getD i 0=s.data[i]:=by unfold Array.getD;rw[dif_pos h2];rfl
 rw[List.take_succ_eq_append_getElem (by rw[toL_len];exact h),List.mem_append,not_or]
 refine⟨hn,?_⟩
 simp only[List.mem_singleton]
 intro h3
 exact hb (by rw[e];exact h3.symm)
end Go.D
namespace Go.D
open Go.Sort
def pv:Ty→Bool
 | .int=>true
 | .bool=>true
 | .str=>true
 | .u8=>true
 | _=>false
def vOf (t:Ty) (x:El t):Value:=match enc t x with
 | [.val v]=>v
 | _=>undef
def argVals:(as:List Ak)→As as→List Value
 | [],_=>[]
 | .v (.el t)::as,x=>vOf t x.1::argVals as x.2
 | _::as,x=>undef::argVals as x.2
def plainAs:List Ak→Bool
 | []=>true
 | .v (.el t)::as=>pv t&&plainAs as
 | _::_=>false
def plainRs:List Sh→Bool
 | []=>true
 | .el t::rs=>pv t&&plainRs rs
 | _::_=>false
def resVals:(rs:List Sh)→Ts rs→List Value
 | [],_=>[]
 | .el t::rs,x=>vOf t x.1::resVals rs x.2
 | .sl _::rs,x=>undef::resVals rs x.2
def retOf:List Value→Value
 | [v]=>v
 | vs=>.tuple vs.toArray
theorem pv_enc {t:Ty} (h:pv t=true) (x:El t):enc t x=[.val (vOf t x)]∧plain (vOf t x)=true∧(Sh.el t).agg=false:=by
 cases t<;>first|exact⟨rfl,rfl,rfl⟩|cases h
theorem plain_args {w:World} {G:Gh}:∀ (as:List Ak) (x:As as),plainAs as=true→∀ (vs:List Value),vs.length=(canons as x).length→(∀ (j:Nat) (y:TV),(canons as x)[j]? = some y→∃ v,vs[j]? = some v∧TVR w G y v)→vs=argVals as x:=by
 intro as
 induction as with
 | nil=>intro x _ vs hl _;exact List.eq_nil_of_length_eq_zero hl
 | cons a as ih=>
  intro x hp vs hl hh
  cases a with
  | v s=>
   cases s with
   | el t=>
    simp only[plainAs,Bool.and_eq_true] at hp
    obtain⟨e1,e2,e3⟩:=pv_enc hp.1 x.1
    cases vs with
    | nil=>simp[canons] at hl
    | cons v vs=>
     obtain⟨v',hv,hr⟩:=hh 0 _ rfl
     simp only[List.getElem?_cons_zero,Option.some.injEq] at hv
     subst hv
     have hc:canon (.v (.el t)) x.1=.v false [.sc (vOf t x.1)]:=by
      show TV.v (Sh.el t).agg ((enc t x.1).map (toCell none))=_
      rw[e1,e3];rfl
     rw[hc] at hr
     obtain⟨c,hc1,hc2⟩:=hr
     injection hc1 with hc1
     subst hc1
     rw[argVals,hc2.1,ih x.2 hp.2 vs (by simpa [canons] using hl) fun j y hj=>hh (j+1) y hj]
   | sl t=>simp[plainAs] at hp
  | _=>simp[plainAs] at hp
theorem plain_parts:∀ (rs:List Sh) (y:Ts rs),plainRs rs=true→mkParts rs y=(resVals rs y).map fun v=>(false,[FC.val v]):=by
 intro rs
 induction rs with
 | nil=>intro y _;rfl
 | cons s rs ih=>
  intro y hp
  cases s with
  | el t=>
   simp only[plainRs,Bool.and_eq_true] at hp
   obtain⟨e1,e2,e3⟩:=pv_enc hp.1 y.1
   simp only[mkParts,resVals,List.map_cons,ih y.2 hp.2,e3]
   congr 2
  | sl t=>simp[plainRs] at hp
theorem res_plain:∀ (rs:List Sh) (y:Ts rs),plainRs rs=true→∀ v∈resVals rs y,plain v=true:=by
 intro rs
 induction rs with
 | nil=>intro y _ v hv;cases hv
 | cons s rs ih=>
  intro y hp v hv
  cases s with
  | el t=>
   simp only[plainRs,Bool.and_eq_true] at hp
   rcases List.mem_cons.1 hv with rfl|hv
   ·exact(pv_enc hp.1 y.1).2.1
   ·grind
  | sl t=>simp[plainRs] at hp
theorem res_of {w:World}:∀ (vs:List Value),(∀ v∈vs,plain v=true)→ResR w (mkRes (vs.map fun v=>(false,[FC.val v]))) (retOf vs) (fun _ _ _=>False)
 | [],_=>⟨#[],rfl,rfl,by simp⟩
 | [v],h=>by
  refine⟨_,rfl,⟨rfl,h v (by simp)⟩,plain_one (h v (by simp))⟩
 | v::u::vs,h=>by
  refine⟨(v::u::vs).toArray,rfl,by simp,fun i p hp=>?_⟩
  have hp:((v::u::vs).map fun v=>(false,[FC.val v]))[i]? = some p:=hp
  rw[List.getElem?_map] at hp
  cases hq:(v::u::vs)[i]? with
  | none=>rw[hq] at hp;cases hp
  | some x=>
   rw[hq] at hp
   injection hp with hp
   subst hp
   have:=h x (List.mem_of_getElem? hq)
   exact⟨x,by simpa using hq,_,rfl,⟨rfl,this⟩,plain_one this⟩
theorem lib_ok {P:Program} {f:Nat} {S:Fct} (ha:plainAs S.as=true) (hr:plainRs S.rs=true)
 (h:∀ x,S.pre x→∀ (w:World) (ow:Nat→Own),Base P w ow→Calls P f (argVals S.as x).toArray w fun e w'=>e=.returned (retOf (resVals S.rs (S.fn x)))∧∃ n os,w'=grow (w.drewN n) os):S.ok P f:=by
 intro x hx w vs G hB hA
 have hvs:vs=(argVals S.as x).toArray:=by
  have:=plain_args (w:=w) (G:=G) S.as x ha vs.toList (by simpa [Fct.arg] using hA.sz) fun j y hj=>by
   obtain⟨v,hv,hr⟩:=hA.tm j y hj
   simp_all
  rw[←this]
 subst hvs
 refine(h x hx w _ hB).mono ?_
 rintro e w' ⟨rfl,n,os,rfl⟩
 have hold:∀ g,g<w.heap.size→(grow (w.drewN n) os).heap[g]? = w.heap[g]?:=fun g hg=>by
  rw[heap_grow_old _ _ (show g<(w.drewN n).heap.size from hg)];rfl
 refine⟨_,⟨mkR S.rs (S.fn x),[],[]⟩,rfl,rfl,⟨rfl,rfl,⟨rfl,by first|exact DrLe.refl _|exact DrLe.succ _|exact DrLe.add _ _⟩,?_⟩,fun g hg=>hold g (hA.lt g (by simp[hg])),fun g hg=>(hA.cr g hg).same (hold g (hA.lt g (by simp[hg]))),fun _ _=>False,by simp,by simp,?_,?_,?_⟩
 ·show w.heap.size≤(w.heap++os).size
  simp
 ·show ResR _ (mkRes (mkParts S.rs (S.fn x))) _ _
  rw[plain_parts _ _ hr]
  exact res_of _ (res_plain _ _ hr)
 ·intro m T hm;cases hm
 ·intro b cs hb;cases hb
end Go.D
