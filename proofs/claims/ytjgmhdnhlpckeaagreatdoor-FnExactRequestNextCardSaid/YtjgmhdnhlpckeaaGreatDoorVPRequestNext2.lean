/-
  Contracts of functions that the law of FnExactRequestNext reaches, part 2.
-/
import Derived.Test.YtjgmhdnhlpckeaaGreatDoorVPRequestNext1
import Derived.Test.YtjgmhdnhlpckeaaGreatDoorVLe
import Derived.WalkKit
import Derived.BigGuard
import Derived.Deep.QuietTactic
import Derived.BigQuiet
import Derived.Lib.ConvBytes
import Derived.Sort.WalkC
import Derived.Handy
import Derived.Lib.Overlaps
import Derived.Lib.AppendZerosOnto
import Derived.Laws.Externs
import Derived.Shelf.RegionOpenPlain
import Derived.Defers
import Derived.Laws.Pointers
import Derived.Laws.LoneSync
import Derived.RegionCalls
import Derived.ChangeAlike
import Derived.LoopN
import Derived.Lib.SliceRun
import Derived.Shelf.Strconv.AtoiAll
import Derived.Shelf.Small.Strs
import Derived.Test.YtjgmhdnhlpckeaaGreatDoorRows
import Derived.Test.YtjgmhdnhlpckeaaGreatDoorCards
import Derived.LaidMore
import Derived.Lay
import Derived.SevenTiedAt
import Derived.WalkKit
import Derived.ProofKit
import Derived.OpenShut
namespace Go.Proofs.YtjgmhdnhlpckeaaGreatDoor.fnExactRequestNext
open Go.Proofs.YtjgmhdnhlpckeaaGreatDoor
open Go.D Go.Proofs.Tryz
set_option maxRecDepth 100000
set_option maxHeartbeats 2000000
set_option linter.unusedVariables false
set_option linter.unusedSimpArgs false
def Ahq:=Akg.a fIsCache<|Fct.p (KP [1,2,3,4,6,7,8] [9,44]) (fun⟨c,_⟩=>lv [(2,C3 c)]) Akg.2 func219 (by
 rintro⟨(c:SCache),_⟩ hp;refine ho (let q2_:=(c.bg.length:Int);let q1_:Out:=.lf fIsCache (false,());lpx (C3 c) ((0:Int),(c,())) fun(y1:Int×SCache×PUnit) bk1=>let q0_:=c.bg.getD y1.1.toNat default;.br (decide (y1.1<q2_)) (.ob (inB y1.1 c.bg.length)<|.cl fIsName (q0_.top,()) fun z2=>.br (!z2.1) q1_ (.cl fIsAddr (q0_.to,()) fun z3=>.br (!z3.1) q1_ (.cl fIsResponse (q0_.bd,()) fun z4=>.br (!z4.1) q1_ (.br (q0_.bd.status != 200) q1_ (.cl fFindEntry (y1.2.1,q0_.top,q0_.to,()) fun(z5:Int×PUnit)=>.br (z5.1 != y1.1) q1_ (.ob (c.bg=c.bg)<|.ob (Value.int IntKind.i64 q2_=Value.int IntKind.i64 q2_)<|.ob (bk1 (w1 y1.1,(y1.2.1,())))<|.ok)))))) (.lf fIsCache (decide ((y1.2.1.bg.length:Int)<=100),()))) ?_;refine Ay ?_ fun(y1:Int×SCache×PUnit) i1=>Ab (fun h2=>Aa ?_ fun o3=>Af ?_ fun o4=>(Ab (fun h5=>lfY ?_) (fun h5=>Af ?_ fun o6=>(Ab (fun h7=>lfY ?_) (fun h7=>Af ?_ fun o8=>(Ab (fun h9=>lfY ?_) (fun h9=>Ab (fun h10=>lfY ?_) (fun h10=>Af ?_ fun o11=>(Ab (fun h12=>lfY ?_) (fun h12=>Aa rfl fun _=>Aa rfl fun _=>Aa ?_ fun o13=>trivial)))))))))) (fun h2=>lfY ?_)
 all_goals
  have hl:=Ad AK c.bg;have hg:∀ i,i<c.bg.length->(c.bg.getD i default).top.size<=200000000/\(c.bg.getD i default).to.host.size<=200000000/\(c.bg.getD i default).to.path.size<=200000000/\(c.bg.getD i default).bd.bj.size<=200000000:=fun i h=>by have:=Kt h;have hp2:szCache c<=200000000:=hp;simp only[AK,szCache,szAddr,Ae] at *;omega
  try simp only[Az] at *
  try simp only[C3,fFindEntry,fIsAddr,fIsCache,fIsName,fIsResponse,std,Nat.reduceAdd,isCache,fIsName,fIsAddr,fIsResponse,fFindEntry,szCache,entOk_at,entOk_end] at *
  try simp(disch:=omega) only[wrapId',toNat1] at *
  try simp(disch:=omega) only[Qa2,Qa3]
 all_goals first|trivial|omega|grind[wrapId',toNat1,drop_cons,drop_end,good_len,maxLen,isCache,fIsName,fIsAddr,fIsResponse,fFindEntry,szCache,entOk_at,entOk_end])
theorem Ax {α:Type} (f:α->Nat) (x:α) (l:List α):szL f (x::l)=f x+1+szL f l:=by simp only[szL,Qc9,List.sum_cons,Qa6];omega
theorem Er {α:Type} (f:α->Nat) (l:List α) (x:α):szL f (l++[x])=szL f l+(f x+1):=by
 induction l with
 | nil=>rw[Qg2,Ax];simp[szL]
 | cons y l ih=>rw[Qf4,Ax,Ax,ih];omega
theorem NQ {α:Type} (f:α->Nat) (e:α):∀ (l:List α) (i:Nat),szL f (l.modify i fun _=>e)<=szL f l+(f e+1)
 | [],i=>by cases i<;>simp[List.modify,szL]
 | y::l,0=>by rw[List.modify_zero_cons,Ax,Ax];omega
 | y::l,i+1=>by rw[List.modify_succ_cons,Ax,Ax];have:=NQ f e l i;omega
theorem Fp {α:Type} (f:α->Nat) {t:α}:∀ {l:List α},t∈l->f t+1<=szL f l
 | [],h=>by cases h
 | x::l,h=>by
  rw[Ax];rcases Qd3.1 h with rfl|h
  ·omega
  ·have:=Fp f h;omega
def putEntry (c:SCache) (e:SEntry) (i:Int):SCache:=if 0<=i then⟨c.bg.modify i.toNat fun _=>e⟩ else⟨c.bg++[e]⟩
def entry (t:ByteArray) (a:SAddr) (x:SResponse) (now:Int):SEntry:=⟨t,a,x,IntKind.i64.wrap (now+x.age)⟩
def storeEntry (c:SCache) (t:ByteArray) (a:SAddr) (x:SResponse) (now:Int):SCache :=
 if x.age≠0/\inRange now 0 999999999000=true/\isCache c=true/\isCache (putEntry c (entry t a x now) (fidx (fun e=>decide (e.top=t)&&decide (e.to=a)) c.bg 0))=true then putEntry c (entry t a x now) (fidx (fun e=>decide (e.top=t)&&decide (e.to=a)) c.bg 0) else c
theorem Mg {all:List SEntry}:∀ {l:List SEntry} {k:Int},entOk all l k=true->∀ e∈l,isResponse e.bd=true
 | [],_,_,e,he=>by cases he
 | y::l,k,h,e,he=>by
  simp only[entOk,Qa1] at h;rcases Qd3.1 he with rfl|he
  ·exact h.1.1.1.2
  ·exact Mg h.2 e he
theorem RX {c:SCache} {e:SEntry} {i:Int} (hi:i<c.bg.length) (h:isCache (putEntry c e i)=true):isResponse e.bd=true:=by
 unfold isCache at h;rw[Qa1] at h;refine Mg h.1 e ?_;unfold putEntry;split
 ·rw[List.mem_iff_getElem?];exact⟨i.toNat,by rw[List.getElem?_modify_eq,Qa5 (by omega)];rfl⟩
 ·simp
theorem Sr (c:SCache) (t:ByteArray) (a:SAddr) (x:SResponse) (now:Int):szCache (storeEntry c t a x now)<=szCache c+(t.size+szAddr a+Ae x+20):=by
 unfold storeEntry;split
 ·unfold putEntry;split
  ·have:=NQ AK (entry t a x now) c.bg (fidx (fun e=>decide (e.top=t)&&decide (e.to=a)) c.bg 0).toNat;simp only[szCache] at *
   simp only[AK,entry] at this ⊢;omega
  ·simp only[szCache];rw[Er];simp only[AK,entry];omega
 ·omega
def fStoreEntry:Fct:=⟨[.v (.el .cache),.v (.el .str),.v (.el .addr),.v (.el .bd),.v (.el .int)],[.el .cache],fun(x_:SCache×ByteArray×SAddr×SResponse×Int×Unit)=>szCache x_.1<=100000000/\x_.2.1.size<=10000000/\szAddr x_.2.2.1<=10000000/\Ae x_.2.2.2.1<=10000000,fun(x_:SCache×ByteArray×SAddr×SResponse×Int×Unit)=>(storeEntry x_.1 x_.2.1 x_.2.2.1 x_.2.2.2.1 x_.2.2.2.2.1,())⟩
def Ahu:=Ahq.a fStoreEntry<|Fct.o (KP [1,4,5,7,8,10,11,12,13] [33,48,62]) Ahq.2 func162 (by
 rintro⟨(c:SCache),(t:ByteArray),(a:SAddr),(x:SResponse),(now:Int),_⟩ hp;refine ho (let q2_:Out:=.cl fCopyCache (c,()) fun z9=>.lf fStoreEntry (z9.1,());let q0_:=(⟨t,a,x,wr (now+x.age)⟩:SEntry);.cl fCopyCache (c,()) fun z2=>let q1_:Out:=.lf fStoreEntry (z2.1,());.br (x.age==0) q1_ (.cl fInRange (now,(0:Int),(999999999000:Int),()) fun z3=>.br (!z3.1) q1_ (.cl fIsResponse (x,()) fun z4=>.br (!z4.1) q1_ (.cl fIsCache (c,()) fun z5=>.br (!z5.1) q1_ (.cl fFindEntry (c,t,a,()) fun(z6:Int×PUnit)=>.br (decide (z6.1>=0)) (.ob (inB z6.1 z2.1.bg.length)<|.ob (z6.1.toNat<z2.1.bg.length)<|.lt (List SEntry) (z2.1.bg.modify z6.1.toNat fun z=>q0_) fun z7=>.cl fIsCache ((⟨z7⟩:SCache),()) fun z8=>.br (!z8.1) q2_ (.lf fStoreEntry (⟨z7⟩,()))) (.ob (True)<|.ob (BM (z2.1.bg.length+[q0_].length) 120)<|.cl fIsCache ((⟨z2.1.bg++[q0_]⟩:SCache),()) fun z10=>.br (!z10.1) q2_ (.lf fStoreEntry (⟨z2.1.bg++[q0_]⟩,())))))))) ?_;repeat' first|(guard_target =~ Out.holds _ _;first|refine lfY ?_|refine Ab (fun _=>?_) fun _=>?_|refine Af ?_ fun _=>?_|refine Aa ?_ fun _=>?_|refine Du ?_)|exact trivial
 all_goals
  have hi:=Eg (fun e:SEntry=>decide (e.top=t)&&decide (e.to=a)) c.bg 0 (by omega);have hr:=fun(i:Int) (h:i<c.bg.length)=>RX (c:=c) (e:=entry t a x now) h
  have hm:=fun i=>NQ AK (entry t a x now) c.bg i
  have hs:=Er AK c.bg (entry t a x now);have hz:AK (entry t a x now)<=40000000:=by have hp2:szCache c<=100000000/\t.size<=10000000/\szAddr a<=10000000/\Ae x<=10000000:=hp;simp only[AK,entry];omega
  have hq:x.bj.size<=10000000:=by have hp2:szCache c<=100000000/\t.size<=10000000/\szAddr a<=10000000/\Ae x<=10000000:=hp;simp only[Ae] at hp2;omega
  have hn:=Ad AK c.bg;try simp only[Az] at *
  try simp only[fCopyCache,fFindEntry,fInRange,fIsCache,fIsResponse,fStoreEntry,std,Nat.reduceAdd,storeEntry,putEntry,entry,szCache,fIsCache,fIsResponse,fInRange,fFindEntry,fCopyCache] at *
  try simp(disch:=omega) only[wrapId',toNat1] at *
  try simp(disch:=omega) only[Qa2,Qa3]
 all_goals first|trivial|omega|grind[wrapId',toNat1,good_len,maxLen,storeEntry,putEntry,entry,szCache,fIsCache,fIsResponse,fInRange,fFindEntry,fCopyCache])
def Aik:=Ahu.a fStoreEntry<|Fct.o (KP [1,4,5,7,8,10,11,12,13] [29,58]) Ahu.2 func117 (by
 rintro⟨(c:SCache),(t:ByteArray),(a:SAddr),(x:SResponse),(now:Int),_⟩ hp;refine ho (let q1_:=(⟨t,a,x,wr (now+x.age)⟩:SEntry);let q0_:Out:=.cl fCopyCache (c,()) fun z5=>.lf fStoreEntry (z5.1,());.cl fCopyCache (c,()) fun z2=>.cl fFindEntry (c,t,a,()) fun(z3:Int×PUnit)=>.br (decide (z3.1>=0)) (.ob (inB z3.1 z2.1.bg.length)<|.ob (z3.1.toNat<z2.1.bg.length)<|.lt (List SEntry) (z2.1.bg.modify z3.1.toNat fun z=>q1_) fun z4=>.br (x.age==0) q0_ (.cl fInRange (now,(0:Int),(999999999000:Int),()) fun z6=>.br (!z6.1) q0_ (.cl fIsCache (c,()) fun z8=>.br (!z8.1) q0_ (.cl fIsCache ((⟨z4⟩:SCache),()) fun z10=>.br (!z10.1) q0_ (.lf fStoreEntry (⟨z4⟩,())))))) (.ob (True)<|.ob (BM (z2.1.bg.length+[q1_].length) 120)<|.br (x.age==0) q0_ (.cl fInRange (now,(0:Int),(999999999000:Int),()) fun z13=>.br (!z13.1) q0_ (.cl fIsCache (c,()) fun z15=>.br (!z15.1) q0_ (.cl fIsCache ((⟨z2.1.bg++[q1_]⟩:SCache),()) fun z17=>.br (!z17.1) q0_ (.lf fStoreEntry (⟨z2.1.bg++[q1_]⟩,()))))))) ?_;repeat' first|(guard_target =~ Out.holds _ _;first|refine lfY ?_|refine Ab (fun _=>?_) fun _=>?_|refine Af ?_ fun _=>?_|refine Aa ?_ fun _=>?_|refine Du ?_)|exact trivial
 all_goals
  have hi:=Eg (fun e:SEntry=>decide (e.top=t)&&decide (e.to=a)) c.bg 0 (by omega);have hr:=fun(i:Int) (h:i<c.bg.length)=>RX (c:=c) (e:=entry t a x now) h
  have hm:=fun i=>NQ AK (entry t a x now) c.bg i
  have hs:=Er AK c.bg (entry t a x now);have hz:AK (entry t a x now)<=40000000:=by have hp2:szCache c<=100000000/\t.size<=10000000/\szAddr a<=10000000/\Ae x<=10000000:=hp;simp only[AK,entry];omega
  have hq:x.bj.size<=10000000:=by have hp2:szCache c<=100000000/\t.size<=10000000/\szAddr a<=10000000/\Ae x<=10000000:=hp;simp only[Ae] at hp2;omega
  have hn:=Ad AK c.bg;try simp only[Az] at *
  try simp only[fCopyCache,fFindEntry,fInRange,fIsCache,fStoreEntry,std,Nat.reduceAdd,storeEntry,putEntry,entry,szCache,fIsCache,fIsResponse,fInRange,fFindEntry,fCopyCache] at *
  try simp(disch:=omega) only[wrapId',toNat1] at *
  try simp(disch:=omega) only[Qa2,Qa3]
 all_goals first|trivial|omega|grind[wrapId',toNat1,good_len,maxLen,storeEntry,putEntry,entry,szCache,fIsCache,fIsResponse,fInRange,fFindEntry,fCopyCache])
def keepAnswer (n:SNet) (t:ByteArray) (a:SAddr) (x:SResponse):SNet:=if(lookUp n.cache t a n.now).isSome=false/\isResponse x=true/\x.status=200 then{ n with cache:=storeEntry n.cache t a x n.now } else n
def fKeepAnswer:Fct:=⟨[.v (.el .net),.v (.el .str),.v (.el .addr),.v (.el .bd)],[.el .net],fun(x_:SNet×ByteArray×SAddr×SResponse×Unit)=>szNet x_.1<=10000000000/\szCache x_.1.cache<=90000000/\x_.2.1.size<=10000000/\szAddr x_.2.2.1<=10000000/\Ae x_.2.2.2.1<=10000000,fun(x_:SNet×ByteArray×SAddr×SResponse×Unit)=>(keepAnswer x_.1 x_.2.1 x_.2.2.1 x_.2.2.2.1,())⟩
def Alu:=Aik.a fKeepAnswer<|Fct.o (KP [1,4,6,7,8,9,11] [34]) Aik.2 func60 (by
 rintro⟨(n:SNet),(t:ByteArray),(a:SAddr),(x:SResponse),_⟩ hp;refine ho (.cl fCopyNet (n,()) fun z2=>.cl fLookUp (n.cache,t,a,n.now,()) fun z3=>.br (!z3.2.1) (.cl fIsResponse (x,()) fun z4=>.br (z4.1) (.br (x.status==200) (.cl fStoreEntry (n.cache,t,a,x,n.now,()) fun z5=>.lf fKeepAnswer (⟨z2.1.servers,z5.1,z2.1.log,z2.1.now⟩,())) (.lf fKeepAnswer (z2.1,()))) (.lf fKeepAnswer (z2.1,()))) (.lf fKeepAnswer (z2.1,()))) ?_;repeat' (guard_target =~ Out.holds _ _;first|refine lfY ?_|refine Ab (fun _=>?_) fun _=>?_|refine Af ?_ fun _=>?_)
 all_goals
  have hn:=Ad AK n.cache.bg;have hc:szCache n.cache=szL AK n.cache.bg:=rfl;have hq:x.bj.size<=10000000:=by have hp2:szNet n<=10000000000/\szCache n.cache<=90000000/\t.size<=10000000/\szAddr a<=10000000/\Ae x<=10000000:=hp;simp only[Ae] at hp2;omega
  try simp only[Az] at *
  try simp only[fCopyNet,fIsResponse,fKeepAnswer,fLookUp,fStoreEntry,std,Nat.reduceAdd,keepAnswer,fCopyNet,fLookUp,fIsResponse,fStoreEntry] at *
  try simp(disch:=omega) only[wrapId',toNat1] at *
  try simp(disch:=omega) only[Qa2,Qa3]
 all_goals first|trivial|omega|grind[wrapId',toNat1,drop_cons,drop_end,good_len,maxLen,keepAnswer,fCopyNet,fLookUp,fIsResponse,fStoreEntry])
def Ah6:=Alu.a fKeepAnswer<|Fct.o (KP [1,4,6,7,8,9,11] [34]) Alu.2 func38 (by
 rintro⟨(n:SNet),(t:ByteArray),(a:SAddr),(x:SResponse),_⟩ hp;refine ho (.cl fCopyNet (n,()) fun z2=>.cl fLookUp (n.cache,t,a,n.now,()) fun z3=>.cl fIsResponse (x,()) fun z4=>.br (z4.1) (.br (x.status==200) (.br (!z3.2.1) (.cl fStoreEntry (z2.1.cache,t,a,x,n.now,()) fun z5=>.lf fKeepAnswer (⟨z2.1.servers,z5.1,z2.1.log,z2.1.now⟩,())) (.lf fKeepAnswer (z2.1,()))) (.lf fKeepAnswer (z2.1,()))) (.lf fKeepAnswer (z2.1,()))) ?_;repeat' (guard_target =~ Out.holds _ _;first|refine lfY ?_|refine Ab (fun _=>?_) fun _=>?_|refine Af ?_ fun _=>?_)
 all_goals
  have hn:=Ad AK n.cache.bg;have hc:szCache n.cache=szL AK n.cache.bg:=rfl;have hq:x.bj.size<=10000000:=by have hp2:szNet n<=10000000000/\szCache n.cache<=90000000/\t.size<=10000000/\szAddr a<=10000000/\Ae x<=10000000:=hp;simp only[Ae] at hp2;omega
  try simp only[Az] at *
  try simp only[fCopyNet,fIsResponse,fKeepAnswer,fLookUp,fStoreEntry,std,Nat.reduceAdd,keepAnswer,fCopyNet,fLookUp,fIsResponse,fStoreEntry] at *
  try simp(disch:=omega) only[wrapId',toNat1] at *
  try simp(disch:=omega) only[Qa2,Qa3]
 all_goals first|trivial|omega|grind[wrapId',toNat1,drop_cons,drop_end,good_len,maxLen,keepAnswer,fCopyNet,fLookUp,fIsResponse,fStoreEntry])
def logSent (n:SNet) (t:ByteArray) (a:SAddr) (g:Bool):SNet:=if n.log.length<400 then{ n with log:=n.log++[⟨t,a,g⟩]} else n
def fetchNow (n:SNet) (t:ByteArray) (a:SAddr) (g:Bool):SNet×SResponse :=
 if(isName a.host&&isName a.path)=false then(n,notFound)
 else if(lookUp n.cache t a n.now).isSome then(n,(lookUp n.cache t a n.now).getD notFound)
 else(if g then logSent n t a g else keepAnswer (logSent n t a g) t a (answerTo n.servers a),answerTo n.servers a)
theorem GI (l:List SServer) (a:SAddr):Ae (answerTo l a)<=szL AW l:=by
 unfold answerTo;split
 ·exact Nat.zero_le _
 split
 ·exact Nat.zero_le _
 ·rename_i h1 h2;have h3:=Eg (fun s:SServer=>decide (s.host=a.host)) l 0 (by omega);have h4:=Dx AW (l:=l) (i:=(fidx (fun s=>decide (s.host=a.host)) l 0).toNat) (by omega);have h5:=Eg (fun f:SFile=>decide (f.path=a.path)) (l.getD (fidx (fun s=>decide (s.host=a.host)) l 0).toNat default).files 0 (by omega);have h6:=Dx D2 (l:=(l.getD (fidx (fun s=>decide (s.host=a.host)) l 0).toNat default).files) (i:=(fidx (fun f:SFile=>decide (f.path=a.path)) (l.getD (fidx (fun s=>decide (s.host=a.host)) l 0).toNat default).files 0).toNat) (by omega);simp only[AW,D2] at h4 h6;omega
def Be:Fct:=⟨[.v (.el .net),.v (.el .str),.v (.el .addr),.v (.el .bool)],[.el .net,.el .bd],fun(x_:SNet×ByteArray×SAddr×Bool×Unit)=>szNet x_.1<=9000000000/\szCache x_.1.cache<=90000000/\szL AW x_.1.servers<=10000000/\x_.2.1.size<=10000000/\szAddr x_.2.2.1<=10000000,fun(x_:SNet×ByteArray×SAddr×Bool×Unit)=>((fetchNow x_.1 x_.2.1 x_.2.2.1 x_.2.2.2.1).1,(fetchNow x_.1 x_.2.1 x_.2.2.1 x_.2.2.2.1).2,())⟩
def AjB:=Ah6.a Be<|Fct.o (KP [1,3,4,6,8,9,10,11,12,13] [18,31,41,52]) Ah6.2 func62 (by
 rintro⟨(n:SNet),(t:ByteArray),(a:SAddr),(g:Bool),_⟩ hp;refine ho (let q1_:=(⟨t,a,g⟩:SSent);.cl fCopyNet (n,()) fun z2=>.cl fIsAddr (a,()) fun z3=>.br (!z3.1) (.cl fNotFound () fun z4=>.lf Be (z2.1,z4.1,())) (.cl fLookUp (n.cache,t,a,n.now,()) fun z5=>let q2_:Out:=.lf Be (z2.1,z5.1,());.br (z5.2.1) (.lp (Bool) (True) (fun x=>True) fun y6=>.br (y6) q2_ q2_) (.cl fAnswerTo (n.servers,a,()) fun z6=>let q5_:Out:=.lf Be (z2.1,z6.1,());let q0_:Out:=.lf Be ({z2.1 with log:=z2.1.log++[q1_]},z6.1,());.br (decide ((n.log.length:Int)<400)) (.ob (True)<|.ob (BM (z2.1.log.length+[q1_].length) 56)<|.br (!g) (.cl fKeepAnswer (({z2.1 with log:=z2.1.log++[q1_]}:SNet),t,a,z6.1,()) fun z7=>let q3_:Out:=.lf Be (z7.1,z6.1,());.lp (Bool) (True) (fun x=>True) fun y13=>.br (y13) q3_ q3_) (.lp (Bool) (True) (fun x=>True) fun y15=>.br (y15) q0_ q0_)) (.br (!g) (.cl fKeepAnswer (z2.1,t,a,z6.1,()) fun z8=>let q4_:Out:=.lf Be (z8.1,z6.1,());.lp (Bool) (True) (fun x=>True) fun y19=>.br (y19) q4_ q4_) (.lp (Bool) (True) (fun x=>True) fun y21=>.br (y21) q5_ q5_))))) ?_;refine Af ?_ fun o1=>(Af ?_ fun o2=>(Ab (fun h3=>Af trivial fun _=>(lfY ?_)) (fun h3=>Af ?_ fun o4=>(Ab (fun h5=>IK trivial fun y6 i6=>Ab (fun h7=>lfY ?_) (fun h7=>lfY ?_)) (fun h5=>Af ?_ fun o8=>(Ab (fun h9=>Aa trivial fun _=>Aa ?_ fun o10=>Ab (fun h11=>Af ?_ fun o12=>(IK trivial fun y13 i13=>Ab (fun h14=>lfY ?_) (fun h14=>lfY ?_))) (fun h11=>IK trivial fun y15 i15=>Ab (fun h16=>lfY ?_) (fun h16=>lfY ?_))) (fun h9=>Ab (fun h17=>Af ?_ fun o18=>(IK trivial fun y19 i19=>Ab (fun h20=>lfY ?_) (fun h20=>lfY ?_))) (fun h17=>IK trivial fun y21 i21=>Ab (fun h22=>lfY ?_) (fun h22=>lfY ?_)))))))))
 all_goals
  have hn:=Ad AK n.cache.bg;have hc:szCache n.cache=szL AK n.cache.bg:=rfl;have ha:=GI n.servers a;have hs:=Er Dk n.log ⟨t,a,g⟩;have hs2:Dk ⟨t,a,g⟩=t.size+szAddr a:=rfl;have hd:a.host.size<=szAddr a/\a.path.size<=szAddr a:=⟨Qg1 _ _,Nat.le_add_left _ _⟩;have hl:=Ad Dk n.log;try simp only[Az] at *
  try simp only[fAnswerTo,fCopyNet,Be,fIsAddr,fKeepAnswer,fLookUp,fNotFound,std,Nat.reduceAdd,fetchNow,logSent,szNet,fCopyNet,fLookUp,fIsAddr,fKeepAnswer,fAnswerTo,fNotFound] at *
  try simp(disch:=omega) only[wrapId',toNat1] at *
  try simp(disch:=omega) only[Qa2,Qa3]
 all_goals first|trivial|omega|grind[wrapId',toNat1,drop_cons,drop_end,good_len,maxLen,fetchNow,logSent,szNet,fCopyNet,fLookUp,fIsAddr,fKeepAnswer,fAnswerTo,fNotFound])
def AhQ:=AjB.a Be<|Fct.o (KP [1,3,4,6,8,9,10,11,12,13] [18,31,41,52]) AjB.2 func67 (by
 rintro⟨(n:SNet),(t:ByteArray),(a:SAddr),(g:Bool),_⟩ hp;refine ho (let q1_:=(⟨t,a,g⟩:SSent);.cl fCopyNet (n,()) fun z2=>.cl fIsAddr (a,()) fun z3=>.br (!z3.1) (.cl fNotFound () fun z4=>.lf Be (z2.1,z4.1,())) (.cl fLookUp (n.cache,t,a,n.now,()) fun z5=>let q2_:Out:=.lf Be (z2.1,z5.1,());.br (z5.2.1) (.lp (Bool) (True) (fun x=>True) fun y6=>.br (y6) q2_ q2_) (.cl fAnswerTo (n.servers,a,()) fun z6=>let q5_:Out:=.lf Be (z2.1,z6.1,());let q0_:Out:=.lf Be ({z2.1 with log:=z2.1.log++[q1_]},z6.1,());.br (decide ((z2.1.log.length:Int)<400)) (.ob (True)<|.ob (BM (z2.1.log.length+[q1_].length) 56)<|.br (!g) (.cl fKeepAnswer (({z2.1 with log:=z2.1.log++[q1_]}:SNet),t,a,z6.1,()) fun z7=>let q3_:Out:=.lf Be (z7.1,z6.1,());.lp (Bool) (True) (fun x=>True) fun y13=>.br (y13) q3_ q3_) (.lp (Bool) (True) (fun x=>True) fun y15=>.br (y15) q0_ q0_)) (.br (!g) (.cl fKeepAnswer (z2.1,t,a,z6.1,()) fun z8=>let q4_:Out:=.lf Be (z8.1,z6.1,());.lp (Bool) (True) (fun x=>True) fun y19=>.br (y19) q4_ q4_) (.lp (Bool) (True) (fun x=>True) fun y21=>.br (y21) q5_ q5_))))) ?_;refine Af ?_ fun o1=>(Af ?_ fun o2=>(Ab (fun h3=>Af trivial fun _=>(lfY ?_)) (fun h3=>Af ?_ fun o4=>(Ab (fun h5=>IK trivial fun y6 i6=>Ab (fun h7=>lfY ?_) (fun h7=>lfY ?_)) (fun h5=>Af ?_ fun o8=>(Ab (fun h9=>Aa trivial fun _=>Aa ?_ fun o10=>Ab (fun h11=>Af ?_ fun o12=>(IK trivial fun y13 i13=>Ab (fun h14=>lfY ?_) (fun h14=>lfY ?_))) (fun h11=>IK trivial fun y15 i15=>Ab (fun h16=>lfY ?_) (fun h16=>lfY ?_))) (fun h9=>Ab (fun h17=>Af ?_ fun o18=>(IK trivial fun y19 i19=>Ab (fun h20=>lfY ?_) (fun h20=>lfY ?_))) (fun h17=>IK trivial fun y21 i21=>Ab (fun h22=>lfY ?_) (fun h22=>lfY ?_)))))))))
 all_goals
  have hn:=Ad AK n.cache.bg;have hc:szCache n.cache=szL AK n.cache.bg:=rfl;have ha:=GI n.servers a;have hs:=Er Dk n.log ⟨t,a,g⟩;have hs2:Dk ⟨t,a,g⟩=t.size+szAddr a:=rfl;have hd:a.host.size<=szAddr a/\a.path.size<=szAddr a:=⟨Qg1 _ _,Nat.le_add_left _ _⟩;have hl:=Ad Dk n.log;try simp only[Az] at *
  try simp only[fAnswerTo,fCopyNet,Be,fIsAddr,fKeepAnswer,fLookUp,fNotFound,std,Nat.reduceAdd,fetchNow,logSent,szNet,fCopyNet,fLookUp,fIsAddr,fKeepAnswer,fAnswerTo,fNotFound] at *
  try simp(disch:=omega) only[wrapId',toNat1] at *
  try simp(disch:=omega) only[Qa2,Qa3]
 all_goals first|trivial|omega|grind[wrapId',toNat1,drop_cons,drop_end,good_len,maxLen,fetchNow,logSent,szNet,fCopyNet,fLookUp,fIsAddr,fKeepAnswer,fAnswerTo,fNotFound])
theorem Wu {c:SCache} {t:ByteArray} {a:SAddr} {now:Int} {x:SResponse} (h:lookUp c t a now=some x):Ae x<=szCache c:=by
 unfold lookUp at h;obtain⟨e,he,rfl⟩:=Option.map_eq_some_iff.1 h;obtain⟨i,hi,rfl⟩:=List.mem_iff_getElem.1 (List.mem_of_find?_eq_some he);have:=Dx AK (l:=c.bg) (i:=i) hi;rw[Qa7,Qa5 hi] at this;simp only[Option.getD_some,AK] at this;simp only[szCache];omega
theorem Aaz (n:SNet) (t:ByteArray) (a:SAddr) (g:Bool):Ae (fetchNow n t a g).2<=szNet n:=by
 unfold fetchNow;split
 ·exact Nat.zero_le _
 split
 ·rename_i h;obtain⟨x,hx⟩:=Option.isSome_iff_exists.1 h;have:=Wu hx;rw[hx];simp only[Option.getD_some,szNet];omega
 ·have:=GI n.servers a;simp only[szNet];omega
theorem Px (n:SNet) (t:ByteArray) (a:SAddr) (g:Bool):szNet (fetchNow n t a g).1<=szNet n+(2*t.size+2*szAddr a+szNet n+30):=by
 have hl:szNet (logSent n t a g)<=szNet n+(t.size+szAddr a+1)/\(logSent n t a g).cache=n.cache:=by
  unfold logSent;split
  ·have:=Er Dk n.log ⟨t,a,g⟩;refine⟨?_,rfl⟩;simp only[szNet] at *
   rw[this];simp only[Dk];omega
  ·exact⟨by omega,rfl⟩
 have ha:=GI n.servers a;have hn:szL AW n.servers<=szNet n:=by simp only[szNet];omega
 unfold fetchNow;split
 ·simp only;omega
 split
 ·simp only;omega
 split
 ·simp only;omega
 ·unfold keepAnswer;split
  ·have:=Sr (logSent n t a g).cache t a (answerTo n.servers a) (logSent n t a g).now;simp only[szNet] at *;omega
  ·simp only;omega
def digestOf (b:ByteArray):Int:=hashI (151::bti (AZ b) (AZ b)) 11
theorem Jk (b:ByteArray) (i:Nat):0<=(AZ b).getD i default/\(AZ b).getD i default<=255:=by
 unfold AZ;rw[Qa7,Qc2];cases h:b.data.toList[i]? with
 | none=>exact⟨Int.le_refl _,by decide⟩
 | some x=>have:=x.toNat_lt;simp only[Qb8,Option.getD_some];omega
theorem FU (b:ByteArray):(AZ b).length=b.size:=by rw[AZ,Qf5];rfl
theorem O5 (b:ByteArray):List.map (fun b:UInt8=>(b.toNat:Int)) b.data.toList=AZ b:=rfl
theorem Af8 {b:ByteArray} (hb:b.size<=1000000000) (i:Nat) : -9223372036854775808<=(151::bti (AZ b) (AZ b)).getD i default/\(151::bti (AZ b) (AZ b)).getD i default<=9223372036854775807:=by
 match i with
 | 0=>
  show -9223372036854775808<=(151:Int)/\(151:Int)<=9223372036854775807;omega
 | 1=>
  show -9223372036854775808<=((AZ b).length:Int)/\((AZ b).length:Int)<=9223372036854775807;rw[FU];omega
 | i+2=>
  have:=Jk b i;show -9223372036854775808<=(AZ b).getD i default/\(AZ b).getD i default<=9223372036854775807;omega
theorem Aci (b:ByteArray):(151::bti (AZ b) (AZ b)).length=b.size+2:=by simp[bti,FU]
def fDigestOf:Fct:=⟨[.v (.el .str)],[.el .int],fun(x_:ByteArray×Unit)=>x_.1.size<=1000000000,fun(x_:ByteArray×Unit)=>(digestOf x_.1,())⟩
theorem q10 (b:ByteArray) (hp:fDigestOf.pre (b,())):Out.holds (fDigestOf.ctr (b,())).post (.cl CU (List.map (fun b=>(b.toNat:Int)) b.data.toList,()) fun(z2:List Int×PUnit)=>.ob (True)<|.ob (BM (1+z2.1.length) 8)<|.cl MU ([(151:Int)]++z2.1,()) fun(z3:Int×PUnit)=>.lf fDigestOf (z3.1,())):=by
 refine Af ?_ fun o1=>(Aa trivial fun _=>Aa ?_ fun o2=>Af ?_ fun o3=>(lfY ?_))
 all_goals
  have h1:=Jk b;have h2:=FU b;have h3:=Aci b;have h4:=Af8 (show b.size<=1000000000 from hp);try simp only[Az] at *
  try simp only[CU,fDigestOf,MU,std,Nat.reduceAdd,O5,MU,CU,digestOf,List.singleton_append] at *
 all_goals first|trivial|omega|exact⟨by omega,fun i _=>h1 i⟩|exact⟨by omega,fun i _=>h4 i⟩|skip
def AkS:=AhQ.a fDigestOf<|Fct.o [0,2] AhQ.2 func366 (by
 rintro⟨(b:ByteArray),_⟩ hp;exact ho _ (q10 b hp))
def AjF:=AkS.a fDigestOf<|Fct.o [0,2] AkS.2 func336 (by
 rintro⟨(b:ByteArray),_⟩ hp;exact ho _ (q10 b hp))
theorem K0:∀ (l:List Int) (d:Int),0<=d->d<2147483647->0<=hashI l d/\hashI l d<2147483647
 | [],d,h0,h1=>⟨h0,h1⟩
 | x::l,d,h0,h1=>by have hm:=IR x;have ht:=IH (x:=d*1000003+modM x 2147483647+13) (by omega);exact K0 l _ ht.1 ht.2
theorem Ok (b:ByteArray):0<=digestOf b/\digestOf b<2147483647:=K0 _ 11 (by decide) (by decide)
def fCheckDigest:Fct:=⟨[.v (.el .str),.v (.el .str)],[.el .bool],fun(x_:ByteArray×ByteArray×Unit)=>x_.1.size<=1000000000,fun(x_:ByteArray×ByteArray×Unit)=>(decide (x_.2.1=⟨#[]⟩)||decide (x_.2.1=Ht (digestOf x_.1)),())⟩
theorem q11 (b:ByteArray) (v:ByteArray) (hp:fCheckDigest.pre (b,v,())):Out.holds (fCheckDigest.ctr (b,v,())).post (.br (ByteArray.toList v==(⟨#[]⟩:ByteArray).toList) (.lf fCheckDigest (true,())) (.cl fDigestOf (b,()) fun(z2:Int×PUnit)=>.cl fFormatInt (z2.1,()) fun z3=>.lf fCheckDigest (ByteArray.toList v==z3.1.toList,()))):=by
 refine Ab (fun h1=>lfY ?_) (fun h1=>Af ?_ fun o2=>(Af ?_ fun o3=>(lfY ?_)));all_goals
  have h:=Ok b;try simp only[Az] at *
  try simp only[fCheckDigest,fDigestOf,fFormatInt,std,Nat.reduceAdd,fDigestOf,fFormatInt] at *
  try simp(disch:=omega) only[wrapId',toNat1] at *
  try simp(disch:=omega) only[Qa2,Qa3]
 all_goals first|trivial|omega|grind[wrapId',toNat1,drop_cons,drop_end,good_len,maxLen,fDigestOf,fFormatInt]
def Aig:=AjF.a fCheckDigest<|Fct.o [0,1,4] AjF.2 func314 (by
 rintro⟨(b:ByteArray),(v:ByteArray),_⟩ hp;exact ho _ (q11 b v hp))
def Ahm:=Aig.a fCheckDigest<|Fct.o [0,1,4] Aig.2 func286 (by
 rintro⟨(b:ByteArray),(v:ByteArray),_⟩ hp;exact ho _ (q11 b v hp))
def checkResponse (p:SPolicy) (r:SRequest) (x:SResponse):Int:=if checkRequest p r≠1 then 2 else if isResponse x=false\/x.status≠200 then 3 else if(decide (x.kind=r.kind)||decide (r.kind=5/\x.kind=2))=false then 4 else if r.from_≠r.to.host/\x.shares=false/\(r.kind=5\/r.digest≠⟨#[]⟩) then 5 else if(decide (r.digest=⟨#[]⟩)||decide (r.digest=Ht (digestOf x.body)))=false then 6 else 1
theorem Gm {p:SPolicy} {r:SRequest} (h:checkRequest p r≠1):checkRequest p r=2:=by
 unfold checkRequest at *;split<;>simp_all
def fCheckResponse:Fct:=⟨[.v (.el .bj),.v (.el .request),.v (.el .bd)],[.el .int],fun(x_:SPolicy×SRequest×SResponse×Unit)=>szPolicy x_.1<=1099511627776/\szRequest x_.2.1<=1099511627776/\x_.2.2.1.bj.size<=200000000/\x_.2.2.1.body.size<=1000000000,fun(x_:SPolicy×SRequest×SResponse×Unit)=>(checkResponse x_.1 x_.2.1 x_.2.2.1,())⟩
def AkJ:=Ahm.a fCheckResponse<|Fct.o (KP [3,4,5,6] [7,12,21,27,49]) Ahm.2 func249 (by
 rintro⟨(p:SPolicy),(r:SRequest),(x:SResponse),_⟩ hp;refine ho (let q2_:Out:=.lf fCheckResponse ((5:Int),());let q1_:Out:=.lf fCheckResponse ((3:Int),());let q0_:Out:=.cl fCheckDigest (x.body,r.digest,()) fun z5=>.br (!z5.1) (.lf fCheckResponse ((6:Int),())) (.lf fCheckResponse ((1:Int),()));.cl fCheckRequest (p,r,()) fun(z2:Int×PUnit)=>.br (z2.1 != 1) (.lf fCheckResponse ((2:Int),())) (.cl fIsResponse (x,()) fun z3=>.br (!z3.1) q1_ (.br (x.status != 200) q1_ (.cl fFitsKind (x,r.kind,()) fun z4=>.br (!z4.1) (.lf fCheckResponse ((4:Int),())) (.br (!r.from_.toList==r.to.host.toList) (.br (!x.shares) (.br (r.kind==5) q2_ (.br (!r.digest.toList==(⟨#[]⟩:ByteArray).toList) q2_ q0_)) q0_) q0_))))) ?_;repeat' first|(guard_target =~ Out.holds _ _;first|refine lfY ?_|refine Ab (fun _=>?_) fun _=>?_|refine Af ?_ fun _=>?_)|exact trivial
 all_goals
  have hc:=fun h=>Gm (p:=p) (r:=r) h
  try simp only[Az] at *
  try simp only[fCheckDigest,fCheckRequest,fCheckResponse,fFitsKind,fIsResponse,std,Nat.reduceAdd,checkResponse,fCheckRequest,fIsResponse,fFitsKind,fCheckDigest] at *
  try simp(disch:=omega) only[wrapId',toNat1] at *
  try simp(disch:=omega) only[Qa2,Qa3]
 all_goals first|trivial|omega|grind[wrapId',toNat1,drop_cons,drop_end,good_len,maxLen,checkResponse,fCheckRequest,fIsResponse,fFitsKind,fCheckDigest])
def Ajc:=AkJ.a fCheckResponse<|Fct.o (KP [3,4,5,6] [7,15,24,30,52]) AkJ.2 func210 (by
 rintro⟨(p:SPolicy),(r:SRequest),(x:SResponse),_⟩ hp;refine ho (let q2_:Out:=.lf fCheckResponse ((5:Int),());let q1_:Out:=.lf fCheckResponse ((3:Int),());let q0_:Out:=.cl fCheckDigest (x.body,r.digest,()) fun z6=>.br (!z6.1) (.lf fCheckResponse ((6:Int),())) (.lf fCheckResponse ((1:Int),()));.cl fCheckRequest (p,r,()) fun(z2:Int×PUnit)=>.br (z2.1 != 1) (.cl fCheckRequest (p,r,()) fun(z3:Int×PUnit)=>.lf fCheckResponse (z3.1,())) (.cl fIsResponse (x,()) fun z4=>.br (!z4.1) q1_ (.br (x.status != 200) q1_ (.cl fFitsKind (x,r.kind,()) fun z5=>.br (!z5.1) (.lf fCheckResponse ((4:Int),())) (.br (!r.from_.toList==r.to.host.toList) (.br (!x.shares) (.br (r.kind==5) q2_ (.br (!r.digest.toList==(⟨#[]⟩:ByteArray).toList) q2_ q0_)) q0_) q0_))))) ?_;repeat' first|(guard_target =~ Out.holds _ _;first|refine lfY ?_|refine Ab (fun _=>?_) fun _=>?_|refine Af ?_ fun _=>?_)|exact trivial
 all_goals
  have hc:=fun h=>Gm (p:=p) (r:=r) h
  try simp only[Az] at *
  try simp only[fCheckDigest,fCheckRequest,fCheckResponse,fFitsKind,fIsResponse,std,Nat.reduceAdd,checkResponse,fCheckRequest,fIsResponse,fFitsKind,fCheckDigest] at *
  try simp(disch:=omega) only[wrapId',toNat1] at *
  try simp(disch:=omega) only[Qa2,Qa3]
 all_goals first|trivial|omega|grind[wrapId',toNat1,drop_cons,drop_end,good_len,maxLen,checkResponse,fCheckRequest,fIsResponse,fFitsKind,fCheckDigest])
def usable (p:SPolicy) (r:SRequest) (x:SResponse):ByteArray×Bool:=if checkResponse p r x=1 then(x.body,true) else(⟨#[]⟩,false)
def A1:Fct:=⟨[.v (.el .bj),.v (.el .request),.v (.el .bd)],[.el .str,.el .bool],fun(x_:SPolicy×SRequest×SResponse×Unit)=>szPolicy x_.1<=1099511627776/\szRequest x_.2.1<=1099511627776/\x_.2.2.1.bj.size<=200000000/\x_.2.2.1.body.size<=1000000000,fun(x_:SPolicy×SRequest×SResponse×Unit)=>((usable x_.1 x_.2.1 x_.2.2.1).1,(usable x_.1 x_.2.1 x_.2.2.1).2,())⟩
theorem q12 (p:SPolicy) (r:SRequest) (x:SResponse) (hp:A1.pre (p,r,x,())):Out.holds (A1.ctr (p,r,x,())).post (.cl fCheckResponse (p,r,x,()) fun(z2:Int×PUnit)=>.br (z2.1 != 1) (.lf A1 ((⟨#[]⟩:ByteArray),false,())) (.lf A1 (x.body,true,()))):=by
 refine Af ?_ fun o1=>(Ab (fun h2=>lfY ?_) (fun h2=>lfY ?_))
 all_goals
  try simp only[Az] at *
  try simp only[fCheckResponse,A1,std,Nat.reduceAdd,usable,fCheckResponse] at *
  try simp(disch:=omega) only[wrapId',toNat1] at *
  try simp(disch:=omega) only[Qa2,Qa3]
 all_goals first|trivial|omega|grind[wrapId',toNat1,drop_cons,drop_end,good_len,maxLen,usable,fCheckResponse]
def AlT:=Ajc.a A1<|Fct.o (KP [3,4,5,6,7] [12]) Ajc.2 func250 (by
 rintro⟨(p:SPolicy),(r:SRequest),(x:SResponse),_⟩ hp;exact ho _ (q12 p r x hp))
def Ajs:=AlT.a A1<|Fct.o (KP [3,4,5,6,7] [12]) AlT.2 func211 (by
 rintro⟨(p:SPolicy),(r:SRequest),(x:SResponse),_⟩ hp;exact ho _ (q12 p r x hp))
def kindOf (m:Int):Int:=if m=1 then 4 else if m=2 then 3 else if m=3\/m=4 then 2 else 0
def fKindOfMode:Fct:=⟨[.v (.el .int)],[.el .int],fun(x_:Int×Unit)=>True,fun(x_:Int×Unit)=>(kindOf x_.1,())⟩
theorem q13 (m:Int) (hp:fKindOfMode.pre (m,())):Out.holds (fKindOfMode.ctr (m,())).post (.br (m==1) (.lf fKindOfMode ((4:Int),())) (.br (m==2) (.lf fKindOfMode ((3:Int),())) (.br (m==3) (.br (m==3) (.lf fKindOfMode ((2:Int),())) (.lf fKindOfMode ((0:Int),()))) (.br (m==4) (.lf fKindOfMode ((2:Int),())) (.lf fKindOfMode ((0:Int),())))))):=by
 repeat' (guard_target =~ Out.holds _ _;first|refine lfY ?_|refine Ab (fun _=>?_) fun _=>?_)
 all_goals
  try simp only[Az] at *
  try simp only[fKindOfMode,std,Nat.reduceAdd,kindOf] at *
  try simp(disch:=omega) only[wrapId',toNat1] at *
  try simp(disch:=omega) only[Qa2,Qa3]
 all_goals first|trivial|omega|grind[wrapId',toNat1,drop_cons,drop_end,good_len,maxLen,kindOf]
def AhH:=Ajs.a fKindOfMode<|Fct.o (KP [0,2,3,8] [4,6]) Ajs.2 func241 (by
 rintro⟨(m:Int),_⟩ hp;exact ho _ (q13 m hp))
def Aj7:=AhH.a fKindOfMode<|Fct.o (KP [0,2,3,8] [4,6]) AhH.2 func206 (by
 rintro⟨(m:Int),_⟩ hp;exact ho _ (q13 m hp))
def slotRequest (p:SPage) (k:Int):SRequest:=if 0<=k/\k<p.bf.length then⟨kindOf (p.bf.getD k.toNat default).mode,(p.bf.getD k.toNat default).to,p.addr.host,(p.bf.getD k.toNat default).digest⟩ else default
def Au:Fct:=⟨[.v (.el .page),.v (.el .int)],[.el .request],fun(x_:SPage×Int×Unit)=>x_.1.bf.length<=1000000000000/\-9223372036854775808<=x_.2.1/\x_.2.1<=9223372036854775807,fun(x_:SPage×Int×Unit)=>(slotRequest x_.1 x_.2.1,())⟩
def AkF:=Aj7.a Au<|Fct.o (KP [1,2,4,5] [12]) Aj7.2 func154 (by
 rintro⟨(p:SPage),(k:Int),_⟩ hp;refine ho (.cl fInRange (k,(0:Int),wr ((p.bf.length:Int)-(1:Int)),()) fun z2=>.br (!z2.1) (.lf Au (default,())) (.ob (inB k p.bf.length)<|.cl fKindOfMode ((p.bf.getD (Int.toNat k) default).mode,()) fun(z3:Int×PUnit)=>.lf Au (⟨z3.1,(p.bf.getD (Int.toNat k) default).to,p.addr.host,(p.bf.getD (Int.toNat k) default).digest⟩,()))) ?_;refine Af trivial fun _=>(Ab (fun h1=>lfY ?_) (fun h1=>Aa ?_ fun o2=>Af trivial fun _=>(lfY ?_)))
 all_goals
  try simp only[Az] at *
  try simp only[fInRange,fKindOfMode,Au,std,Nat.reduceAdd,slotRequest,fKindOfMode,fInRange,inRange] at *
  try simp(disch:=omega) only[wrapId',toNat1] at *
  try simp(disch:=omega) only[Qa2,Qa3]
 all_goals first|trivial|omega|grind[wrapId',toNat1,drop_cons,drop_end,good_len,maxLen,slotRequest,fKindOfMode,fInRange,inRange])
def Ai1:=AkF.a Au<|Fct.o (KP [1,2,4,5] [14]) AkF.2 func109 (by
 rintro⟨(p:SPage),(k:Int),_⟩ hp;refine ho (.br (decide (k<0)) (.lf Au (default,())) (.br (decide (k>=(p.bf.length:Int))) (.lf Au (default,())) (.ob (inB k p.bf.length)<|.cl fKindOfMode ((p.bf.getD (Int.toNat k) default).mode,()) fun(z2:Int×PUnit)=>.lf Au (⟨z2.1,(p.bf.getD (Int.toNat k) default).to,p.addr.host,(p.bf.getD (Int.toNat k) default).digest⟩,())))) ?_;refine Ab (fun h1=>lfY ?_) (fun h1=>Ab (fun h2=>lfY ?_) (fun h2=>Aa ?_ fun o3=>Af trivial fun _=>(lfY ?_)));all_goals
  try simp only[Az] at *
  try simp only[fKindOfMode,Au,std,Nat.reduceAdd,slotRequest,fKindOfMode,fInRange,inRange] at *
  try simp(disch:=omega) only[wrapId',toNat1] at *
  try simp(disch:=omega) only[Qa2,Qa3]
 all_goals first|trivial|omega|grind[wrapId',toNat1,drop_cons,drop_end,good_len,maxLen,slotRequest,fKindOfMode,fInRange,inRange])
def modRequest (p:SPage) (k:Int):SRequest:=if 0<=k/\k<p.bh.length then⟨5,(p.bh.getD k.toNat default).to,p.addr.host,⟨#[]⟩⟩ else default
def AE:Fct:=⟨[.v (.el .page),.v (.el .int)],[.el .request],fun(x_:SPage×Int×Unit)=>x_.1.bh.length<=2000000000000/\-9223372036854775808<=x_.2.1/\x_.2.1<=9223372036854775807,fun(x_:SPage×Int×Unit)=>(modRequest x_.1 x_.2.1,())⟩
def Ajb:=Ai1.a AE<|Fct.o (KP [1,2,4] [11]) Ai1.2 func156 (by
 rintro⟨(p:SPage),(k:Int),_⟩ hp;refine ho (.cl fInRange (k,(0:Int),wr ((p.bh.length:Int)-(1:Int)),()) fun z2=>.br (!z2.1) (.lf AE (default,())) (.ob (inB k p.bh.length)<|.lf AE (⟨(5:Int),(p.bh.getD (Int.toNat k) default).to,p.addr.host,(⟨#[]⟩:ByteArray)⟩,()))) ?_;refine Af trivial fun _=>(Ab (fun h1=>lfY ?_) (fun h1=>Aa ?_ fun o2=>lfY ?_))
 all_goals
  try simp only[Az] at *
  try simp only[fInRange,AE,std,Nat.reduceAdd,modRequest,fInRange,inRange] at *
  try simp(disch:=omega) only[wrapId',toNat1] at *
  try simp(disch:=omega) only[Qa2,Qa3]
 all_goals first|trivial|omega|grind[wrapId',toNat1,drop_cons,drop_end,good_len,maxLen,modRequest,fInRange,inRange])
def Amc:=Ajb.a AE<|Fct.o (KP [1,2,4] [13]) Ajb.2 func111 (by
 rintro⟨(p:SPage),(k:Int),_⟩ hp;refine ho (.br (decide (k<0)) (.lf AE (default,())) (.br (decide (k>=(p.bh.length:Int))) (.lf AE (default,())) (.ob (inB k p.bh.length)<|.lf AE (⟨(5:Int),(p.bh.getD (Int.toNat k) default).to,p.addr.host,(⟨#[]⟩:ByteArray)⟩,())))) ?_;refine Ab (fun h1=>lfY ?_) (fun h1=>Ab (fun h2=>lfY ?_) (fun h2=>Aa ?_ fun o3=>lfY ?_));all_goals
  try simp only[Az] at *
  try simp only[AE,std,Nat.reduceAdd,modRequest,fInRange,inRange] at *
  try simp(disch:=omega) only[wrapId',toNat1] at *
  try simp(disch:=omega) only[Qa2,Qa3]
 all_goals first|trivial|omega|grind[wrapId',toNat1,drop_cons,drop_end,good_len,maxLen,modRequest,fInRange,inRange])
def addrOf (s b:ByteArray):SAddr:=match Ey 47 (toL s) with
 | some (p,q)=>⟨ofL p,ofL q⟩
 | none=>⟨b,s⟩
def parseAddr (s b:ByteArray):SAddr×Bool:=if isName (addrOf s b).host&&isName (addrOf s b).path then(addrOf s b,true) else(default,false)
theorem Up {s b:ByteArray} {i:Nat} (h:i<s.size) (hb:s.data.getD i 0=47) (hn:47∉(toL s).take i):addrOf s b=⟨s.extract 0 i,s.extract (i+1) s.size⟩:=by
 unfold addrOf;rw[Xh h hb hn];have e1:ofL ((toL s).take i)=s.extract 0 i:=by rw[<-C9 (s.extract 0 i),A2,Qf0]
 have e2:ofL ((toL s).drop (i+1))=s.extract (i+1) s.size:=by rw[<-C9 (s.extract (i+1) s.size),A2,Qb6 (by rw[Bx];exact Qb0 _)]
 simp only[e1,e2]
theorem UW {s b:ByteArray} {i:Nat} (h:s.size<=i) (hn:47∉(toL s).take i):addrOf s b=⟨b,s⟩:=by
 rw[Qb6 (by rw[Bx];exact h)] at hn;unfold addrOf;rw[Lq hn]
theorem N2 {b:UInt8}:∀ {l p q:List UInt8},Ey b l=some (p,q)->p.length<=l.length/\q.length<=l.length
 | [],p,q,h=>by cases h
 | x::l,p,q,h=>by
  rw[Ey] at h;split at h
  ·simp only[Qa0,Qb3] at h;obtain⟨rfl,rfl⟩:=h;simp
  ·obtain⟨r,hr,he⟩:=Option.map_eq_some_iff.1 h;simp only[Qb3] at he;obtain⟨rfl,rfl⟩:=he;have:=N2 (p:=r.1) (q:=r.2) hr;simp only[Qa6];omega
theorem KM (s b:ByteArray):(addrOf s b).host.size<=s.size+b.size/\(addrOf s b).path.size<=s.size:=by
 unfold addrOf;cases h:Ey 47 (toL s) with
 | none=>exact⟨by simp only;omega,Qb0 _⟩
 | some r=>
  have:=N2 (p:=r.1) (q:=r.2) h;rw[Bx] at this;simp only[Fa];omega
theorem UD (s b:ByteArray):addrOf s b=if(EG 47 s).2.2 then⟨(EG 47 s).1,(EG 47 s).2.1⟩ else⟨b,s⟩:=by
 unfold addrOf EG;cases Ey 47 (toL s)<;>rfl
def AG:Fct:=⟨[.v (.el .str),.v (.el .str)],[.el .addr,.el .bool],fun(x_:ByteArray×ByteArray×Unit)=>x_.1.size<=4000000000/\x_.2.1.size<=4000000000,fun(x_:ByteArray×ByteArray×Unit)=>((parseAddr x_.1 x_.2.1).1,(parseAddr x_.1 x_.2.1).2,())⟩
theorem Adz:Go.Proofs.Lays.n145 Tryz.prog laysCmp_r:=by repeat' first|kernel_rfl|constructor|intro _
def Ajq:=Amc.a Su<|Afc fun s sep w h hs=>by obtain⟨m,hm⟩:=Kb (zero := #[.int .i64 0]) (t:=3) (g:=laysCmp_r.g 1) h (Qf9 (by kernel_rfl)) (by kernel_rfl) rfl (by kernel_rfl) (by kernel_rfl) Tryz.underlying3;exact Go.Proofs.Any.strings_Cut Adz s sep m w hs hm
theorem Aby {s:ByteArray} {i:Nat}:((s.data.getD i 0).toNat:Int)=47↔s.data.getD i 0=47:=KI (b:=47) (by omega) (by omega)
abbrev Cj (s:ByteArray) (b:ByteArray):LInv:=⟨[⟨.b,6,true,.el .addr⟩,⟨.s,7,true,.el .int⟩,⟨.b,4,true,.el .addr⟩],fun(z_ x_:SAddr×Int×SAddr×Unit)=>(0<=x_.2.1/\x_.2.1<=s.size/\x_.1=⟨b,s⟩/\47∉(toL s).take x_.2.1.toNat)/\x_.2.2.1=z_.2.2.1,fun(x_:SAddr×Int×SAddr×Unit)=>s.size-x_.2.1.toNat⟩
def Ah9:=Ajq.a AG<|Fct.p (KP [0,1,4,5,6,7] [14,20,31]) (fun⟨s,b,_⟩=>lv [(3,Cj s b)]) Ajq.2 func368 (by
 rintro⟨(s:ByteArray),(b:ByteArray),_⟩ hp;refine ho (lpx (Cj s b) ((⟨b,s⟩:SAddr),((0:Int),(default,()))) fun(y1:SAddr×Int×SAddr×PUnit) bk1=>.br (decide (y1.2.1<(s.size:Int))) (.ob (0<=y1.2.1/\y1.2.1<(s.size:Int))<|.br ((↑(s.data.getD y1.2.1.toNat 0).toNat:Int)==47) (.ob (0<=y1.2.1/\y1.2.1<=(s.size:Int))<|.ob (0<=w1 y1.2.1/\w1 y1.2.1<=(s.size:Int))<|.cl fIsAddr ((⟨s.extract 0 y1.2.1.toNat,s.extract (w1 y1.2.1).toNat s.size⟩:SAddr),()) fun z2=>.br (!z2.1) (.lf AG (default,false,())) (.lf AG (⟨s.extract 0 y1.2.1.toNat,s.extract (w1 y1.2.1).toNat s.size⟩,true,()))) (.ob (Value.string s=Value.string s)<|.ob (Value.string b=Value.string b)<|.ob (bk1 (y1.1,(w1 y1.2.1,(y1.2.2.1,()))))<|.ok)) (.cl fIsAddr (y1.1,()) fun z3=>.br (!z3.1) (.lf AG (default,false,())) (.lf AG (y1.1,true,())))) ?_;refine Ay ?_ fun(y1:SAddr×Int×SAddr×PUnit) i1=>Ab (fun h2=>Aa ?_ fun o3=>Ab (fun h4=>Aa ?_ fun o5=>Aa ?_ fun o6=>Af ?_ fun o7=>(Ab (fun h8=>lfY ?_) (fun h8=>lfY ?_))) (fun h4=>Aa rfl fun _=>Aa rfl fun _=>Aa ?_ fun o9=>trivial)) (fun h2=>Af ?_ fun o10=>(Ab (fun h11=>lfY ?_) (fun h11=>lfY ?_)))
 all_goals have hz:=KM s b
 all_goals try (obtain⟨⟨a1,a2,a3,a4⟩,a5⟩:=i1)
 all_goals
  try simp only[Az] at *
  try simp only[Cj,fIsAddr,AG,std,Nat.reduceAdd,parseAddr,fIsAddr,Aby] at *
  try simp(disch:=omega) only[wrapId',toNat1] at *
  try simp(disch:=omega) only[Qa2,Qa3]
 all_goals try (have e:=Up (b:=b) (show y1.2.1.toNat<s.size by omega) h4 a4;simp only[e] at *)
 all_goals try (have t:=Yr (show y1.2.1.toNat<s.size by omega) h4 a4)
 all_goals try (have e:=UW (b:=b) (show s.size<=y1.2.1.toNat by omega) a4;simp only[e] at *)
 all_goals first|trivial|omega|grind[ByteArray.size_extract])
def findAttr (l:List SAttr) (n:ByteArray):Option ByteArray:=(l.find? fun a=>decide (a.name=n)).map (·.value)
def fFindAttr:Fct:=⟨[.v (.sl .attr),.v (.el .str)],[.el .str,.el .bool],fun(x_:(List SAttr)×ByteArray×Unit)=>x_.1.length<=1000000000000,fun(x_:(List SAttr)×ByteArray×Unit)=>((findAttr x_.1 x_.2.1).getD ⟨#[]⟩,(findAttr x_.1 x_.2.1).isSome,())⟩
abbrev CP (l:(List SAttr)) (n:ByteArray):LInv:=⟨[⟨.s,6,true,.el .int⟩],fun _ (x_:Int×Unit)=>0<=x_.1/\x_.1<=l.length/\findAttr (l.drop x_.1.toNat) n=findAttr l n,fun(x_:Int×Unit)=>l.length-x_.1.toNat⟩
def AiZ:=Ah9.a fFindAttr<|Fct.p (KP [0,1,4,5,6] [10,19]) (fun⟨l,n,_⟩=>lv [(2,CP l n)]) Ah9.2 func404 (by
 rintro⟨(l:List SAttr),(n:ByteArray),_⟩ hp;refine ho (lpx (CP l n) ((0:Int),()) fun(y1:Int×PUnit) bk1=>.br (decide (y1.1<(l.length:Int))) (.ob (inB y1.1 l.length)<|.br ((l.getD y1.1.toNat default).name.toList==n.toList) (.ob (inB y1.1 l.length)<|.lf fFindAttr ((l.getD y1.1.toNat default).value,true,())) (.ob (l=l)<|.ob (Value.string n=Value.string n)<|.ob (bk1 (w1 y1.1,()))<|.ok)) (.lf fFindAttr ((⟨#[]⟩:ByteArray),false,()))) ?_;refine Ay ?_ fun(y1:Int×PUnit) i1=>Ab (fun h2=>Aa ?_ fun o3=>Ab (fun h4=>Aa ?_ fun o5=>lfY ?_) (fun h4=>Aa rfl fun _=>Aa rfl fun _=>Aa ?_ fun o6=>trivial)) (fun h2=>lfY ?_)
 all_goals
  try simp only[Az] at *
  try simp only[CP,fFindAttr,std,Nat.reduceAdd,findAttr] at *
  try simp(disch:=omega) only[wrapId',toNat1] at *
  try simp(disch:=omega) only[Qa2,Qa3]
 all_goals first|trivial|omega|grind[wrapId',toNat1,drop_cons,drop_end,good_len,maxLen,findAttr])
def fFindAttr1:Fct:=⟨[.v (.el .attr),.p (.el .str)],[.el .bool],fun(x_:SAttr×ByteArray×Unit)=>True,fun(x_:SAttr×ByteArray×Unit)=>(decide (x_.1.name=x_.2.1),())⟩
def AhB:=AiZ.a fFindAttr1<|Fct.o [1,2,3] AiZ.2 func417 (by
 rintro⟨(a:SAttr),(n:ByteArray),_⟩ hp;refine ho (.lf fFindAttr1 (a.name.toList==ByteArray.toList n,())) ?_;refine lfY ?_;all_goals
  try simp only[Az] at *
  try simp only[fFindAttr1,std,Nat.reduceAdd] at *
  try simp(disch:=omega) only[wrapId',toNat1] at *
  try simp(disch:=omega) only[Qa2,Qa3]
 all_goals first|trivial|omega|grind[wrapId',toNat1,drop_cons,drop_end,good_len,maxLen])
def AN:Fct:=⟨[aL .attr,.c 417 [.el .str]],[rI],fun x=>x.1.length<=1000000000000000000/\∀ c,fFindAttr1.pre (c,x.2.1),fun x=>(fidx (fun c=>(fFindAttr1.fn (c,x.2.1)).1) x.1 0,())⟩
abbrev Ap (l:(List SAttr)) (u:(ByteArray×Unit)):LInv:=⟨[⟨.s,8,true,.el .int⟩],fun _ (x_:Int×Unit)=>0<=x_.1/\x_.1<=l.length/\fidx (fun c=>(fFindAttr1.fn (c,u)).1) l 0=fidx (fun c=>(fFindAttr1.fn (c,u)).1) (l.drop x_.1.toNat) x_.1,fun(x_:Int×Unit)=>l.length-x_.1.toNat⟩
def Ahl:=AhB.a AN<|Fct.p (KP [0,1,4,5,7,8] [9,16]) (fun⟨l,u,_⟩=>lv [(2,Ap l u)]) AhB.2 func416 (by
 rintro⟨(l:List SAttr),(u:ByteArray×PUnit),_⟩ hp;refine ho (lpx (Ap l u) ((0:Int),()) fun(y1:Int×PUnit) bk1=>.br (decide (y1.1<(l.length:Int))) (.ob (inB y1.1 l.length)<|.cl fFindAttr1 (l.getD y1.1.toNat default,u.1,()) fun z2=>.br (z2.1) (.lf AN (y1.1,())) (.ob (l=l)<|.ob (enc Ty.str u.1=enc Ty.str u.1)<|.ob (Value.int IntKind.i64 (l.length:Int)=Value.int IntKind.i64 (l.length:Int))<|.ob (bk1 (w1 y1.1,()))<|.ok)) (.lf AN ((-1:Int),()))) ?_;refine Ay ?_ fun(y1:Int×PUnit) i1=>Ab (fun h2=>Aa ?_ fun o3=>Af trivial fun _=>(Ab (fun h4=>lfY ?_) (fun h4=>Aa rfl fun _=>Aa rfl fun _=>Aa rfl fun _=>Aa ?_ fun o5=>trivial))) (fun h2=>lfY ?_)
 all_goals
  try simp only[Az] at *
  try simp only[Ap,fFindAttr1,AN,std,Nat.reduceAdd] at *
  try have hp2:=hp.2
  try have hp1:=hp.1
 all_goals first|trivial|omega|grind[wrapId',toNat1,drop_cons,drop_end,good_len,maxLen,fidx])
def AhM:=Ahl.a fFindAttr<|Fct.o (KP [0,3,4,5,6] [11]) Ahl.2 func374 (by
 rintro⟨(l:List SAttr),(n:ByteArray),_⟩ hp;refine ho (.cl AN (l,(n,()),()) fun(z2:Int×PUnit)=>.br (decide (z2.1<0)) (.lf fFindAttr ((⟨#[]⟩:ByteArray),false,())) (.ob (0<=z2.1/\z2.1<(↑(List.length l):Int))<|.lf fFindAttr ((List.getD l z2.1.toNat default).value,true,()))) ?_;refine Af ?_ fun o1=>(Ab (fun h2=>lfY ?_) (fun h2=>Aa ?_ fun o3=>lfY ?_))
 all_goals
  have hf:=Eg (fun a:SAttr=>decide (a.name=n)) l 0 (by omega);have hf2:=J3 (fun a:SAttr=>decide (a.name=n)) l 0 (by omega);try simp only[Az] at *
  try simp only[fFindAttr,AN,std,Nat.reduceAdd,findAttr,fFindAttr1] at *
  try simp(disch:=omega) only[wrapId',toNat1] at *
  try simp(disch:=omega) only[Qa2,Qa3]
 all_goals first|trivial|omega|grind[wrapId',toNat1,drop_cons,drop_end,good_len,maxLen,findAttr,fFindAttr1])
def AiV:=AhM.a AG<|Fct.o (KP [0,1,4,5,6,7,8,9] [19,25]) AhM.2 func289 (by
 rintro⟨(s:ByteArray),(b:ByteArray),_⟩ hp;refine ho (.cl Su (s,(⟨#[47]⟩:ByteArray),()) fun z2=>.br (z2.2.2.1) (.cl fIsAddr ((⟨z2.1,z2.2.1⟩:SAddr),()) fun z3=>.br (!z3.1) (.lf AG (default,false,())) (.lf AG (⟨z2.1,z2.2.1⟩,true,()))) (.cl fIsAddr ((⟨b,s⟩:SAddr),()) fun z4=>.br (!z4.1) (.lf AG (default,false,())) (.lf AG (⟨b,s⟩,true,())))) ?_;repeat' (guard_target =~ Out.holds _ _;first|refine lfY ?_|refine Ab (fun _=>?_) fun _=>?_|refine Af ?_ fun _=>?_)
 all_goals
  have hz:=KM s b;have hc:=UD s b;try simp only[Az] at *
  try simp only[Su,fIsAddr,AG,std,Nat.reduceAdd,parseAddr,fIsAddr,Su] at *
  try simp only[show(ByteArray.mk #[47]).data.getD 0 0=47 from rfl,show(ByteArray.mk #[47]).size=1 from rfl] at *
 all_goals first|trivial|omega|grind)
theorem Bz (l:List SAttr) (n:ByteArray):((findAttr l n).getD ⟨#[]⟩).size<=szL A3 l:=by
 unfold findAttr;cases h:l.find? fun a=>decide (a.name=n) with
 | none=>exact Nat.zero_le _
 | some a=>
  obtain⟨i,hi,he⟩:=List.mem_iff_getElem.1 (List.mem_of_find?_eq_some h);have:=Dx A3 (l:=l) (i:=i) hi;rw[Qa7,Qa5 hi,he] at this;simp only[Qb8,Option.getD_some,A3] at *;omega
def Cv:Fct:=⟨[.v (.el .loader)],[.el .loader],fun(x_:SLoader×Unit)=>szNet x_.1.net<=68719476736/\szPage x_.1.page<=1099511627776/\x_.1.parts.length<=1000000000/\x_.1.conns.length<=1048576/\x_.1.guesses.length<=4194304,fun(x_:SLoader×Unit)=>(x_.1,())⟩
def Aj9:=AiV.a Cv<|Fct.o [1,2] AiV.2 func19 (by
 rintro⟨(l:SLoader),_⟩ hp;refine ho (.cl fCopyNet (l.net,()) fun z2=>.cl fCopyPage (l.page,()) fun z3=>.ob (True)<|.ob (BM l.parts.length 16)<|.ob (True)<|.ob (BM l.conns.length 112)<|.ob (True)<|.ob (BM l.guesses.length 104)<|.lf Cv (⟨z2.1,z3.1,l.parts,l.conns,l.guesses⟩,())) ?_;refine Af ?_ fun o1=>(Af ?_ fun o2=>(Aa trivial fun _=>Aa ?_ fun o3=>Aa trivial fun _=>Aa ?_ fun o4=>Aa trivial fun _=>Aa ?_ fun o5=>lfY ?_))
 all_goals
  try simp only[Az] at *
  try simp only[Cv,fCopyNet,fCopyPage,std,Nat.reduceAdd,fCopyNet,fCopyPage,fCopyConns,fCopyGuesses] at *
  try simp(disch:=omega) only[wrapId',toNat1] at *
  try simp(disch:=omega) only[Qa2,Qa3]
 all_goals first|trivial|omega|grind[wrapId',toNat1,drop_cons,drop_end,good_len,maxLen,fCopyNet,fCopyPage,fCopyConns,fCopyGuesses])
def Ajd:=Aj9.a Cv<|Fct.o [1,2] Aj9.2 func29 (by
 rintro⟨(l:SLoader),_⟩ hp;refine ho (.cl fCopyNet (l.net,()) fun z2=>.cl fCopyPage (l.page,()) fun z3=>.ob (True)<|.ob (BM l.parts.length 16)<|.cl fCopyConns (l.conns,()) fun z4=>.cl fCopyGuesses (l.guesses,()) fun z5=>.lf Cv (⟨z2.1,z3.1,l.parts,z4.1,z5.1⟩,())) ?_;refine Af ?_ fun o1=>(Af ?_ fun o2=>(Aa trivial fun _=>Aa ?_ fun o3=>Af ?_ fun o4=>(Af ?_ fun o5=>(lfY ?_))))
 all_goals
  try simp only[Az] at *
  try simp only[fCopyConns,fCopyGuesses,Cv,fCopyNet,fCopyPage,std,Nat.reduceAdd,fCopyNet,fCopyPage,fCopyConns,fCopyGuesses] at *
  try simp(disch:=omega) only[wrapId',toNat1] at *
  try simp(disch:=omega) only[Qa2,Qa3]
 all_goals first|trivial|omega|grind[wrapId',toNat1,drop_cons,drop_end,good_len,maxLen,fCopyNet,fCopyPage,fCopyConns,fCopyGuesses])
def okNt (n:SNet):Prop:=szNet n<=8000000000/\szCache n.cache<=80000000/\szL AW n.servers<=1048576/\∀ e,e∈n.cache.bg->Ae e.bd<=1048576
theorem TN {c:SCache} {t:ByteArray} {a:SAddr} {n:Int} {x:SResponse} (h:lookUp c t a n=some x) (B:Nat) (hc:∀ e,e∈c.bg->Ae e.bd<=B):Ae x<=B:=by
 unfold lookUp at h;obtain⟨e,he,rfl⟩:=Option.map_eq_some_iff.1 h;exact hc e (List.mem_of_find?_eq_some he)
theorem L5 {n:SNet} {t:ByteArray} {a:SAddr} {g:Bool} (h:okNt n):Ae (fetchNow n t a g).2<=1048576:=by
 obtain⟨h1,h2,h3,h4⟩:=h;unfold fetchNow;split
 ·exact(show Ae notFound<=1048576 by decide)
 ·split
  ·cases hq:lookUp n.cache t a n.now with
   | none=>exact(show Ae notFound<=1048576 by decide)
   | some x=>exact TN hq _ h4
  ·exact Qe6 (GI _ _) h3
def lLoader1:Fct:=Af5 [.el .loader]
def tagAttrs:List ByteArray->List SAttr->Option (List SAttr)
 | [],acc=>some acc
 | w::l,acc=>match Ey 61 (toL w) with
  | none=>none
  | some r=>if isName (ofL r.1)&&(isValue (ofL r.2)&&(findAttr acc (ofL r.1)).isNone) then tagAttrs l (acc++[⟨ofL r.1,ofL r.2⟩]) else none
def tagFin (n:ByteArray):Option (List SAttr)->SToken×Bool
 | none=>(default,false)
 | some ats=>if isName n=true/\ats.length<=4 then(⟨1,n,ats,⟨#[]⟩⟩,true) else(default,false)
def tagOf (s:ByteArray):SToken×Bool :=
 if 60<s.size then(default,false)
 else if 0<s.size/\s.data.getD 0 0=47 then(if isName (s.extract 1 s.size) then(⟨2,s.extract 1 s.size,[],⟨#[]⟩⟩,true) else(default,false))
 else tagFin ((spl 32 s).getD 0 default) (tagAttrs ((spl 32 s).drop 1) [])
theorem Sq {s:ByteArray} (h:s.size<=60) (hn:¬ (0<s.size/\s.data.getD 0 0=47)) (ha:tagAttrs ((spl 32 s).drop 1) []=none):tagOf s=(default,false):=by
 unfold tagOf;rw[Qa3 (by omega),Qa3 hn,ha];rfl
theorem NP {s:ByteArray} {ats:List SAttr} (h:s.size<=60) (hn:¬ (0<s.size/\s.data.getD 0 0=47)) (ha:tagAttrs ((spl 32 s).drop 1) []=some ats):tagOf s=if isName ((spl 32 s).getD 0 default)=true/\ats.length<=4 then(⟨1,(spl 32 s).getD 0 default,ats,⟨#[]⟩⟩,true) else(default,false):=by
 unfold tagOf;rw[Qa3 (by omega),Qa3 hn,ha];rfl
theorem FB {s:ByteArray}:(60<s.size->tagOf s=(default,false))/\(s.size<=60->0<s.size->s.data.getD 0 0=47->tagOf s=if isName (s.extract 1 s.size) then(⟨2,s.extract 1 s.size,[],⟨#[]⟩⟩,true) else(default,false)):=by
 unfold tagOf;exact⟨fun h=>by rw[Qa2 h],fun h1 h2 h3=>by rw[Qa3 (by omega),Qa2 ⟨h2,h3⟩]⟩
theorem Aav (b:UInt8):∀ l:List UInt8,JD b l=match Ey b l with|none=>[l]|some (p,q)=>p::JD b q:=by
 intro l
 induction l with
 | nil=>rfl
 | cons x l ih=>
  rw[D9,Ey];by_cases hx:x=b
  ·rw[Qa2 hx,Qa2 hx]
  ·rw[Qa3 hx,Qa3 hx,ih];cases Ey b l with
   | none=>rfl
   | some r=>rfl
theorem F4 (b:UInt8) (s:ByteArray):spl b s=match Ey b (toL s) with|none=>[s]|some (p,q)=>ofL p::spl b (ofL q):=by
 unfold spl;rw[Aav];cases Ey b (toL s) with
 | none=>simp[C9]
 | some r=>simp[IZ]
theorem JL {b:UInt8}:∀ {l p q:List UInt8},Ey b l=some (p,q)->b∈l
 | [],p,q,h=>by cases h
 | x::l,p,q,h=>by
  rw[Ey] at h;split at h
  ·rename_i e;subst e;exact Qf1
  ·obtain⟨r,hr,_⟩:=Option.map_eq_some_iff.1 h;exact Qd5 _ (JL (p:=r.1) (q:=r.2) hr)
theorem Zo (w:ByteArray):((spl 61 w).length=2/\isName ((spl 61 w).getD 0 default)=true/\isValue ((spl 61 w).getD 1 default)=true)↔∃ r,Ey 61 (toL w)=some r/\isName (ofL r.1)=true/\isValue (ofL r.2)=true/\(spl 61 w).getD 0 default=ofL r.1/\(spl 61 w).getD 1 default=ofL r.2:=by
 rw[F4];cases h:Ey 61 (toL w) with
 | none=>simp
 | some r=>
  obtain⟨p,q⟩:=r;simp only[Qa6,Qa0];constructor
  ·rintro⟨h1,h2,h3⟩;have hq:(spl 61 (ofL q))=[ofL q]:=by
    rw[F4] at h1 ⊢;cases hc:Ey 61 (toL (ofL q)) with
    | none=>rfl
    | some r2=>
     rw[hc] at h1;have:=(DH 61 (ofL r2.2)).1;simp only[Qa6] at h1;omega
   rw[hq] at h3 ⊢;exact⟨(p,q),rfl,h2,h3,rfl,rfl⟩
  ·rintro⟨r,rfl,h2,h3,h4,h5⟩;have hq:(spl 61 (ofL q))=[ofL q]:=by
    rw[F4];cases hc:Ey 61 (toL (ofL q)) with
    | none=>rfl
    | some r2=>exact absurd (JL (p:=r2.1) (q:=r2.2) hc) (Nz rfl h3)
   rw[hq];exact⟨rfl,h2,h3⟩
theorem Jj:∀ {l:List ByteArray} {acc ats:List SAttr},tagAttrs l acc=some ats->ats.length=acc.length+l.length
 | [],acc,ats,h=>by simp only[tagAttrs,Qa0] at h;subst h;simp
 | w::l,acc,ats,h=>by
  simp only[tagAttrs] at h;split at h
  ·cases h
  ·split at h
   ·have:=Jj h;simp only[Qa4,Qa6,Qb5] at this ⊢;omega
   ·cases h
theorem Lv {l:List ByteArray} {i:Nat} {acc:List SAttr} (h:i<l.length):tagAttrs (l.drop i) acc=(match Ey 61 (toL (l.getD i default)) with|none=>none|some r=>if isName (ofL r.1)&&(isValue (ofL r.2)&&(findAttr acc (ofL r.1)).isNone) then tagAttrs (l.drop (i+1)) (acc++[⟨ofL r.1,ofL r.2⟩]) else none):=by rw[drop_cons h];rfl
theorem GU {l:List ByteArray} {i:Nat} {acc:List SAttr} (h:l.length<=i):tagAttrs (l.drop i) acc=some acc:=by rw[Qb9 h];rfl
def Gr:Fct:=⟨[.v (.el .str)],[.el .token,.el .bool],fun(x_:ByteArray×Unit)=>x_.1.size<=100000000,fun(x_:ByteArray×Unit)=>((tagOf x_.1).1,(tagOf x_.1).2,())⟩
theorem AgA {s:ByteArray} {i:Nat} {b:Nat} (hb:b<=255):((s.data.getD i 0).toNat:Int)=b↔s.data.getD i 0=UInt8.ofNat b:=KI (b:=b) (by omega) (by omega)
theorem WT {l:List ByteArray} {i:Nat} {acc:List SAttr} (h:i<l.length):tagAttrs (l.drop i) acc=if(spl 61 (l.getD i default)).length=2/\isName ((spl 61 (l.getD i default)).getD 0 default)=true/\isValue ((spl 61 (l.getD i default)).getD 1 default)=true/\(findAttr acc ((spl 61 (l.getD i default)).getD 0 default)).isSome=false then tagAttrs (l.drop (i+1)) (acc++[⟨(spl 61 (l.getD i default)).getD 0 default,(spl 61 (l.getD i default)).getD 1 default⟩]) else none:=by
 rw[Lv h];generalize l.getD i default=w;by_cases hw:(spl 61 w).length=2/\isName ((spl 61 w).getD 0 default)=true/\isValue ((spl 61 w).getD 1 default)=true
 ·obtain⟨r,h1,h2,h3,h4,h5⟩:=(Zo w).1 hw;rw[h1];simp only[h2,h3,h4,h5,hw.1,Bool.true_and,true_and];cases (findAttr acc (ofL r.1))<;>simp
 ·rw[Qa3 (fun hh=>hw ⟨hh.1,hh.2.1,hh.2.2.1⟩)];cases hc:Ey 61 (toL w) with
  | none=>rfl
  | some r=>
   simp only;rw[Qa3];intro hh;simp only[Qa1] at hh;refine hw ?_;have hq:spl 61 (ofL r.2)=[ofL r.2]:=by
    rw[F4];cases hc2:Ey 61 (toL (ofL r.2)) with
    | none=>rfl
    | some r2=>exact absurd (JL (p:=r2.1) (q:=r2.2) hc2) (Nz rfl hh.2.1)
   rw[F4,hc];simp only[hq];exact⟨rfl,hh.1,hh.2.1⟩
abbrev DB (s:ByteArray):LInv:=⟨[⟨.b,5,true,.el .token⟩,⟨.s,6,true,.el .int⟩,⟨.b,2,true,.el .token⟩,⟨.s,4,true,.sl .str⟩],fun(z_ x_:SToken×Int×SToken×(List ByteArray)×Unit)=>((1<=x_.2.1/\x_.2.1<=(spl 32 s).length/\x_.1.bo.length+1<=x_.2.1/\x_.1=⟨1,(spl 32 s).getD 0 default,x_.1.bo,⟨#[]⟩⟩/\tagAttrs ((spl 32 s).drop x_.2.1.toNat) x_.1.bo=tagAttrs ((spl 32 s).drop 1) [])/\x_.2.2.1=z_.2.2.1)/\x_.2.2.2.1=z_.2.2.2.1,fun(x_:SToken×Int×SToken×(List ByteArray)×Unit)=>(spl 32 s).length-x_.2.1.toNat⟩
def Aiw:=Ajd.a Gr<|Fct.p (KP [0,2,3,4,5,6,7,9] [12,21,25,39,63,74,97]) (fun⟨s,_⟩=>lv [(10,DB s)]) Ajd.2 func436 (by
 rintro⟨(s:ByteArray),_⟩ hp;refine ho (let q7_:=(s.size:Int);let q5_:=(0:Int)<=(1:Int)/\(1:Int)<=q7_;let q4_:=(⟨#[]⟩:ByteArray);let q1_:Out:=.leaf (.tup [(true,[vi ((0:Int)),vs (q4_),.nl,vs (q4_)]),(false,[vb (false)])]) [] [];let q0_:Out:=.cl CH (s,(32:Int),()) fun z3=>.ob ((0:Int)<=(0:Int)/\(0:Int)<(z3.1.length:Int))<|.ob (0<z3.1.length)<|lpx (DB s) ((⟨(1:Int),z3.1.getD 0 default,[],q4_⟩:SToken),((1:Int),(default,(z3.1,())))) fun(y12:SToken×Int×SToken×List ByteArray×PUnit) bk12=>.br (decide (y12.2.1<(y12.2.2.2.1.length:Int))) (.ob (inB y12.2.1 y12.2.2.2.1.length)<|.ob (y12.2.1.toNat<y12.2.2.2.1.length)<|.cl CH (y12.2.2.2.1.getD y12.2.1.toNat default,(61:Int),()) fun z4=>let q9_:=0<z4.1.length;let q8_:=(z4.1.length:Int);let q6_:=(⟨z4.1.getD 0 default,z4.1.getD 1 default⟩:SAttr);let q3_:=(0:Int)<=(1:Int)/\(1:Int)<q8_;let q2_:=(0:Int)<=(0:Int)/\(0:Int)<q8_;.br (q8_ != 2) q1_ (.ob q2_<|.ob q9_<|.cl fIsName (z4.1.getD 0 default,()) fun z5=>.br (!z5.1) q1_ (.ob q3_<|.ob (1<z4.1.length)<|.cl fIsValue (z4.1.getD 1 default,()) fun z6=>.br (!z6.1) q1_ (.ob q2_<|.ob q9_<|.cl fFindAttr (y12.1.bo,z4.1.getD 0 default,()) fun z7=>.br (z7.2.1) q1_ (.ob q2_<|.ob q9_<|.ob q3_<|.ob (1<z4.1.length)<|.ob (True)<|.ob (BM (y12.1.bo.length+[q6_].length) 32)<|.ob (Value.string s=Value.string s)<|.ob (bk12 (({y12.1 with bo:=y12.1.bo++[q6_]}:SToken),(w1 y12.2.1,(y12.2.2.1,(y12.2.2.2.1,())))))<|.ok))))) (.cl fIsName (y12.1.name,()) fun z8=>.br (!z8.1) q1_ (.br (decide ((y12.1.bo.length:Int)>4)) q1_ (.lf Gr (y12.1,true,()))));.br (decide (q7_>60)) q1_ (.br (decide (q7_>0)) (.ob ((0:Int)<=(0:Int)/\(0:Int)<q7_)<|.br ((↑(s.data.getD 0 0).toNat:Int)==47) (.ob q5_<|.cl fIsName (s.extract 1 s.size,()) fun z2=>.br (!z2.1) q1_ (.ob q5_<|.leaf (.tup [(true,[vi ((2:Int)),vs (s.extract 1 s.size),.nl,vs (q4_)]),(false,[vb (true)])]) [] [])) q0_) q0_)) ?_;refine Ab (fun h1=>Fct.leafZ (default,false,()) (by repeat' first|exact rfl|exact trivial|refine And.intro ?_ ?_) ?_) (fun h1=>Ab (fun h2=>Aa ?_ fun o3=>Ab (fun h4=>Aa ?_ fun o5=>Af ?_ fun o6=>(Ab (fun h7=>Fct.leafZ (default,false,()) (by repeat' first|exact rfl|exact trivial|refine And.intro ?_ ?_) ?_) (fun h7=>Aa ?_ fun o8=>Fct.leafZ (⟨(2:Int),s.extract (1:Nat) s.size,[],{ data := #[]:ByteArray }⟩,true,()) (by repeat' first|exact rfl|exact trivial|refine And.intro ?_ ?_) ?_))) (fun h4=>Af ?_ fun o9=>(Aa ?_ fun o10=>Aa ?_ fun o11=>Ay ?_ fun(y12:SToken×Int×SToken×List ByteArray×PUnit) i12=>Ab (fun h13=>Aa ?_ fun o14=>Aa ?_ fun o15=>Af ?_ fun o16=>(Ab (fun h17=>Fct.leafZ (default,false,()) (by repeat' first|exact rfl|exact trivial|refine And.intro ?_ ?_) ?_) (fun h17=>Aa ?_ fun o18=>Aa ?_ fun o19=>Af ?_ fun o20=>(Ab (fun h21=>Fct.leafZ (default,false,()) (by repeat' first|exact rfl|exact trivial|refine And.intro ?_ ?_) ?_) (fun h21=>Aa ?_ fun o22=>Aa ?_ fun o23=>Af ?_ fun o24=>(Ab (fun h25=>Fct.leafZ (default,false,()) (by repeat' first|exact rfl|exact trivial|refine And.intro ?_ ?_) ?_) (fun h25=>Aa ?_ fun o26=>Aa ?_ fun o27=>Af ?_ fun o28=>(Ab (fun h29=>Fct.leafZ (default,false,()) (by repeat' first|exact rfl|exact trivial|refine And.intro ?_ ?_) ?_) (fun h29=>Aa ?_ fun o30=>Aa ?_ fun o31=>Aa ?_ fun o32=>Aa ?_ fun o33=>Aa trivial fun _=>Aa ?_ fun o34=>Aa rfl fun _=>Aa ?_ fun o35=>trivial))))))))) (fun h13=>Af ?_ fun o36=>(Ab (fun h37=>Fct.leafZ (default,false,()) (by repeat' first|exact rfl|exact trivial|refine And.intro ?_ ?_) ?_) (fun h37=>Ab (fun h38=>Fct.leafZ (default,false,()) (by repeat' first|exact rfl|exact trivial|refine And.intro ?_ ?_) ?_) (fun h38=>lfY ?_))))))) (fun h2=>Af ?_ fun o39=>(Aa ?_ fun o40=>Aa ?_ fun o41=>Ay ?_ fun(y42:SToken×Int×SToken×List ByteArray×PUnit) i42=>Ab (fun h43=>Aa ?_ fun o44=>Aa ?_ fun o45=>Af ?_ fun o46=>(Ab (fun h47=>Fct.leafZ (default,false,()) (by repeat' first|exact rfl|exact trivial|refine And.intro ?_ ?_) ?_) (fun h47=>Aa ?_ fun o48=>Aa ?_ fun o49=>Af ?_ fun o50=>(Ab (fun h51=>Fct.leafZ (default,false,()) (by repeat' first|exact rfl|exact trivial|refine And.intro ?_ ?_) ?_) (fun h51=>Aa ?_ fun o52=>Aa ?_ fun o53=>Af ?_ fun o54=>(Ab (fun h55=>Fct.leafZ (default,false,()) (by repeat' first|exact rfl|exact trivial|refine And.intro ?_ ?_) ?_) (fun h55=>Aa ?_ fun o56=>Aa ?_ fun o57=>Af ?_ fun o58=>(Ab (fun h59=>Fct.leafZ (default,false,()) (by repeat' first|exact rfl|exact trivial|refine And.intro ?_ ?_) ?_) (fun h59=>Aa ?_ fun o60=>Aa ?_ fun o61=>Aa ?_ fun o62=>Aa ?_ fun o63=>Aa trivial fun _=>Aa ?_ fun o64=>Aa rfl fun _=>Aa ?_ fun o65=>trivial))))))))) (fun h43=>Af ?_ fun o66=>(Ab (fun h67=>Fct.leafZ (default,false,()) (by repeat' first|exact rfl|exact trivial|refine And.intro ?_ ?_) ?_) (fun h67=>Ab (fun h68=>Fct.leafZ (default,false,()) (by repeat' first|exact rfl|exact trivial|refine And.intro ?_ ?_) ?_) (fun h68=>lfY ?_)))))));all_goals
  try simp only[Az] at *
  try simp only[DB,fFindAttr,fIsName,fIsValue,CH,Gr,std,Nat.reduceAdd,CH,fIsName,fIsValue,fFindAttr] at *
  try simp only[show UInt8.ofNat (Int.toNat 32)=32 from rfl,show UInt8.ofNat (Int.toNat 61)=61 from rfl,Aby] at *
 all_goals
  have hk:=DH 32 s;have hm:∀ i,i<(spl 32 s).length->((spl 32 s).getD i default).size<=s.size:=fun i h=>HR (Bl h)
  have hx:(s.extract 1 s.size).size<=s.size:=by rw[Qc3];omega
 all_goals try (obtain⟨⟨⟨a1,a2,a3,a4,a5⟩,a6⟩,a7⟩:=i12)
 all_goals try (obtain⟨⟨⟨a1,a2,a3,a4,a5⟩,a6⟩,a7⟩:=i42)
 all_goals try simp only[a7] at *
 all_goals first|trivial|omega|skip
 all_goals try (have hn:¬ (0<s.size/\s.data.getD 0 0=47):=by intro hh;first|(exact absurd hh.2 (by assumption))|omega)
 all_goals
  try have hg:y12.1.name=(spl 32 s).getD 0 default:=Qg8 SToken.name a4
  try have hg:y42.1.name=(spl 32 s).getD 0 default:=Qg8 SToken.name a4
  try have h0:=hm 0 (by omega)
  try have hw:=hm y12.2.1.toNat (by omega)
  try have hw0:=DV 61 ((spl 32 s).getD y12.2.1.toNat default) 0
  try have hw1:=DV 61 ((spl 32 s).getD y12.2.1.toNat default) 1
 all_goals first|(rw[FB.1 (by omega)];exact⟨rfl,rfl⟩)|(rw[FB.2 (by omega) (by omega) (by assumption),Qa3 (by rw[show isName _=false by assumption];decide)];exact⟨rfl,rfl⟩)|(rw[FB.2 (by omega) (by omega) (by assumption),Qa2 (by assumption)];exact⟨rfl,rfl⟩)|(rw[hg];omega)|omega|skip
 all_goals first|exact⟨by omega,by omega,by simp,trivial,rfl⟩|exact⟨by omega,by omega,by omega⟩|skip
 all_goals first|(rw[WT (by omega),Qa3 (by rintro⟨c1,c2,c3,c4⟩;first|omega|exact absurd (c2.symm.trans (show isName _=false by assumption)) (by decide)|exact absurd (c3.symm.trans (show isValue _=false by assumption)) (by decide)|exact absurd (c4.symm.trans (show Option.isSome _=true by assumption)) (by decide))] at a5;rw[Sq (by omega) hn a5.symm];exact⟨rfl,rfl⟩)|skip
 all_goals first|(rw[GU (by omega)] at a5;rw[NP (by omega) hn a5.symm,Qa3 (by rintro⟨c1,c2⟩;rw[<-hg] at c1;first|omega|exact absurd (c1.symm.trans (show isName _=false by assumption)) (by decide))];exact⟨rfl,rfl⟩)|(rw[GU (by omega)] at a5;rw[NP (by omega) hn a5.symm,Qa2 ⟨by rw[<-hg];assumption,by omega⟩];exact⟨a4,rfl⟩)|skip
 all_goals rw[WT (by omega),Qa2 (by exact⟨by omega,by assumption,by assumption,by assumption⟩)] at a5
 all_goals rw[Ah (by omega),toNat1 (by omega)]
 all_goals refine⟨⟨⟨⟨by omega,by omega,by rw[Qa4];simp only[Qa6,Qb5];omega,?_,a5⟩,a6⟩,trivial⟩,by omega⟩
 all_goals rw[a4])
def idxB (b:UInt8) (s:ByteArray):Nat:=(toL s).findIdx fun x=>x==b
theorem EA (b:UInt8) (s:ByteArray):idxB b s<=s.size:=by
 have:=List.findIdx_le_length (xs:=toL s) (p:=fun x=>x==b);rw[Bx] at this;exact this
theorem ZP {b:UInt8} {s:ByteArray} {i:Nat} (h:i<s.size) (hb:s.data.getD i 0=b) (hn:b∉(toL s).take i):idxB b s=i:=by
 have e:toL s=(toL s).take i++b::(toL s).drop (i+1):=by rw[<-hb,<-Hj h,Qd8]
 have hl:((toL s).take i).length=i:=by rw[Qc5,Bx];omega
 unfold idxB;rw[e,List.findIdx_append,List.findIdx_cons];have h2:((toL s).take i).findIdx (fun x=>x==b)=i:=by
  rw[List.findIdx_eq_length_of_false fun x hx=>by
   have:x≠b:=fun e=>hn (e▸hx)
   simpa using this]
  exact hl
 rw[h2,hl];simp
theorem AaC {b:UInt8} {s:ByteArray} {i:Nat} (h:s.size<=i) (hn:b∉(toL s).take i):idxB b s=s.size:=by
 rw[Qb6 (by rw[Bx];exact h)] at hn;unfold idxB;rw[List.findIdx_eq_length_of_false fun x hx=>by
  have:x≠b:=fun e=>hn (e▸hx)
  simpa using this]
 rfl
def EV:Fct:=⟨[.v (.el .str),.v (.el .u8)],[.el .int],fun(x_:ByteArray×Int×Unit)=>x_.1.size<=1000000000000/\0<=x_.2.1/\x_.2.1<=255,fun(x_:ByteArray×Int×Unit)=>((idxB (UInt8.ofNat x_.2.1.toNat) x_.1:Int),())⟩
abbrev Dh (s:ByteArray) (b:Int):LInv:=⟨[⟨.s,5,true,.el .int⟩],fun _ (x_:Int×Unit)=>0<=x_.1/\x_.1<=s.size/\UInt8.ofNat b.toNat∉(toL s).take x_.1.toNat,fun(x_:Int×Unit)=>s.size-x_.1.toNat⟩
def Akp:=Aiw.a EV<|Fct.p (KP [0,1,4,5] [9,16]) (fun⟨s,b,_⟩=>lv [(2,Dh s b)]) Aiw.2 func367 (by
 rintro⟨(s:ByteArray),(b:Int),_⟩ hp;refine ho (lpx (Dh s b) ((0:Int),()) fun(y1:Int×PUnit) bk1=>.br (decide (y1.1<(s.size:Int))) (.ob (0<=y1.1/\y1.1<(s.size:Int))<|.br ((↑(s.data.getD y1.1.toNat 0).toNat:Int)==b) (.lf EV (y1.1,())) (.ob (Value.string s=Value.string s)<|.ob (Value.int IntKind.u8 b=Value.int IntKind.u8 b)<|.ob (bk1 (w1 y1.1,()))<|.ok)) (.lf EV ((s.size:Int),()))) ?_;refine Ay ?_ fun(y1:Int×PUnit) i1=>Ab (fun h2=>Aa ?_ fun o3=>Ab (fun h4=>lfY ?_) (fun h4=>Aa rfl fun _=>Aa rfl fun _=>Aa ?_ fun o5=>trivial)) (fun h2=>lfY ?_)
 all_goals obtain⟨hp1,hp2,hp3⟩:=hp
 all_goals try (obtain⟨a1,a2,a3⟩:=i1)
 all_goals
  try simp only[Az] at *
  try simp only[Dh,EV,std,Nat.reduceAdd,KI hp2 hp3] at *
  try simp(disch:=omega) only[wrapId',toNat1] at *
  try simp(disch:=omega) only[Qa2,Qa3]
 all_goals try (have e:=ZP (show y1.1.toNat<s.size by omega) h4 a3)
 all_goals try (have t:=Yr (show y1.1.toNat<s.size by omega) h4 a3)
 all_goals try (have e:=AaC (show s.size<=y1.1.toNat by omega) a3)
 all_goals first|trivial|omega|grind)
def feed:Nat->ByteArray->List SToken×ByteArray
 | 0,x=>([],x)
 | f+1,x=>
  if 0<idxB 60 x/\idxB 60 x<x.size then(⟨3,⟨#[]⟩,[],x.extract 0 (idxB 60 x)⟩::(feed f (x.extract (idxB 60 x) x.size)).1,(feed f (x.extract (idxB 60 x) x.size)).2)
  else if idxB 60 x≠0\/idxB 62 x=x.size then([],x)
  else(if(tagOf (x.extract 1 (idxB 62 x))).2 then(tagOf (x.extract 1 (idxB 62 x))).1::(feed f (x.extract (idxB 62 x+1) x.size)).1 else(feed f (x.extract (idxB 62 x+1) x.size)).1,(feed f (x.extract (idxB 62 x+1) x.size)).2)
theorem H4:∀ (f g:Nat) (x:ByteArray),x.size<f->x.size<g->feed f x=feed g x
 | 0,_,x,h,_=>by omega
 | _,0,x,_,h=>by omega
 | f+1,g+1,x,h1,h2=>by
  have hl:=EA 62 x;simp only[feed];split
  ·rename_i hc;rw[H4 f g (x.extract (idxB 60 x) x.size) (by rw[Qc3];omega) (by rw[Qc3];omega)]
  ·split
   ·rfl
   ·rename_i hc;rw[H4 f g (x.extract (idxB 62 x+1) x.size) (by rw[Qc3];omega) (by rw[Qc3];omega)]
def feedAll (x:ByteArray):List SToken×ByteArray:=feed (x.size+1) x
theorem Pw {x:ByteArray} (h:0<idxB 60 x) (h2:idxB 60 x<x.size):feedAll x=(⟨3,⟨#[]⟩,[],x.extract 0 (idxB 60 x)⟩::(feedAll (x.extract (idxB 60 x) x.size)).1,(feedAll (x.extract (idxB 60 x) x.size)).2):=by
 have e:feed x.size (x.extract (idxB 60 x) x.size)=feedAll (x.extract (idxB 60 x) x.size):=H4 _ _ _ (by rw[Qc3];omega) (by omega);show feed (x.size+1) x=_;rw[feed,Qa2 ⟨h,h2⟩,e]
theorem KZ {x:ByteArray} (h:¬ (0<idxB 60 x/\idxB 60 x<x.size)) (h2:idxB 60 x≠0\/idxB 62 x=x.size):feedAll x=([],x):=by
 show feed (x.size+1) x=_;rw[feed,Qa3 h,Qa2 h2]
theorem Sl {x:ByteArray} (h:idxB 60 x=0) (h2:idxB 62 x<x.size):feedAll x=(if(tagOf (x.extract 1 (idxB 62 x))).2 then(tagOf (x.extract 1 (idxB 62 x))).1::(feedAll (x.extract (idxB 62 x+1) x.size)).1 else(feedAll (x.extract (idxB 62 x+1) x.size)).1,(feedAll (x.extract (idxB 62 x+1) x.size)).2):=by
 have e:feed x.size (x.extract (idxB 62 x+1) x.size)=feedAll (x.extract (idxB 62 x+1) x.size):=H4 _ _ _ (by rw[Qc3];omega) (by omega);show feed (x.size+1) x=_;rw[feed,Qa3 (by omega),Qa3 (by omega),e]
theorem QR {x:ByteArray} (h:idxB 60 x=0) (h2:idxB 62 x<x.size):1<=idxB 62 x:=by
 unfold idxB at *
 have hl:(toL x).length=x.size:=rfl;cases hx:toL x with
 | nil=>rw[hx] at hl;simp only[Qb5] at hl;omega
 | cons c l=>
  rw[hx] at h;have hc:c=60:=by
   rw[List.findIdx_cons] at h;cases hb:(c==60) with
   | true=>simpa using hb
   | false=>rw[hb] at h;simp at h
  subst hc;rw[List.findIdx_cons,show((60:UInt8)==62)=false from rfl];simp
def fFeedText:Fct:=⟨[.v (.el .tokenizer),.v (.el .str)],[.sl .token,.el .tokenizer],fun(x_:STokenizer×ByteArray×Unit)=>x_.1.rest.size<=50000000/\x_.2.1.size<=50000000,fun(x_:STokenizer×ByteArray×Unit)=>((feedAll (x_.1.rest++x_.2.1)).1,⟨(feedAll (x_.1.rest++x_.2.1)).2⟩,())⟩
abbrev BF (t:STokenizer) (s:ByteArray):LInv:=⟨[⟨.s,6,true,.sl .token⟩,⟨.s,7,true,.el .str⟩,⟨.b,5,true,.el .tokenizer⟩],fun(z_ x_:(List SToken)×ByteArray×STokenizer×Unit)=>(x_.1.length+x_.2.1.size<=(t.rest++s).size/\x_.1++(feedAll x_.2.1).1=(feedAll (t.rest++s)).1/\(feedAll x_.2.1).2=(feedAll (t.rest++s)).2)/\x_.2.2.1=z_.2.2.1,fun(x_:(List SToken)×ByteArray×STokenizer×Unit)=>x_.2.1.size⟩
def AhC:=Akp.a fFeedText<|Fct.p (KP [1,2,4,5,6,7,8,9,10,11] [26,46,57]) (fun⟨t,s,_⟩=>lv [(3,BF t s)]) Akp.2 func400 (by
 rintro⟨(t:STokenizer),(s:ByteArray),_⟩ hp;refine ho (let q3_:=Value.string s=Value.string s;.ob (sameSize t.rest s)<|lpx (BF t s) ([],(t.rest++s,(default,()))) fun(y2:List SToken×ByteArray×STokenizer×PUnit) bk2=>let q4_:Out:=.lf fFeedText (y2.1,⟨y2.2.1⟩,());let q1_:=(y2.2.1.size:Int);.cl EV (y2.2.1,(60:Int),()) fun(z2:Int×PUnit)=>let q6_:=0<=z2.1/\z2.1<=q1_;let q2_:=(⟨(3:Int),(⟨#[]⟩:ByteArray),[],y2.2.1.extract 0 z2.1.toNat⟩:SToken);let q0_:Out:=.cl EV (y2.2.1,(62:Int),()) fun(z3:Int×PUnit)=>let q5_:=0<=w1 z3.1/\w1 z3.1<=q1_;.br (z2.1 != 0) q4_ (.br (z3.1==q1_) q4_ (.ob ((0:Int)<=(1:Int)/\1<=z3.1/\z3.1<=q1_)<|.cl Gr (y2.2.1.extract 1 z3.1.toNat,()) fun z4=>.br (z4.2.1) (.ob (BM (y2.1.length+[z4.1].length) 64)<|.ob q5_<|.ob q3_<|.ob (bk2 (y2.1++[z4.1],(y2.2.1.extract (w1 z3.1).toNat y2.2.1.size,(y2.2.2.1,()))))<|.ok) (.ob q5_<|.ob q3_<|.ob (bk2 (y2.1,(y2.2.1.extract (w1 z3.1).toNat y2.2.1.size,(y2.2.2.1,()))))<|.ok)));.br (decide (z2.1>0)) (.br (decide (z2.1<q1_)) (.ob q6_<|.ob (BM (y2.1.length+[q2_].length) 64)<|.ob q6_<|.ob q3_<|.ob (bk2 (y2.1++[q2_],(y2.2.1.extract z2.1.toNat y2.2.1.size,(y2.2.2.1,()))))<|.ok) q0_) q0_) ?_;repeat' first|(guard_target =~ Out.holds _ _;first|refine Ay (li:=BF t s) ?_ fun(y2:List SToken×ByteArray×STokenizer×PUnit) i2=>?_|refine lfY ?_|refine Ab (fun _=>?_) fun _=>?_|refine Af ?_ fun _=>?_|refine Aa ?_ fun _=>?_)|exact trivial
 all_goals try (obtain⟨⟨a1,a2,a3⟩,a4⟩:=i2)
 all_goals
  try simp only[Az] at *
  try simp only[BF,fFeedText,EV,Gr,std,Nat.reduceAdd,EV,Gr] at *
  try simp(disch:=omega) only[wrapId',toNat1] at *
  try simp(disch:=omega) only[Qa2,Qa3]
  try simp only[show UInt8.ofNat (Int.toNat 60)=60 from rfl,show UInt8.ofNat (Int.toNat 62)=62 from rfl,Qg6,Qb7] at *
  try have k1:=EA 60 y2.2.1
  try have k2:=EA 62 y2.2.1
  try have k3:=QR (x:=y2.2.1)
  try have k4:∀ a b,(y2.2.1.extract a b).size<=y2.2.1.size:=fun a b=>by rw[Qc3];omega
  try simp(disch:=omega) only[wrapId'] at *
 all_goals first|trivial|omega|(unfold sameSize;omega)|(have:=k4 1 (idxB 62 y2.2.1);omega)|skip
 all_goals first|exact⟨Int.natCast_nonneg _,Int.ofNat_le.2 k1⟩|skip
 all_goals try simp only[Qa9,Qb2] at *
 all_goals first|omega|exact⟨by omega,by omega⟩|exact⟨by omega,by omega,by omega⟩|skip
 all_goals have k5:∀ a,(y2.2.1.extract a y2.2.1.size).size=y2.2.1.size-a:=fun a=>by rw[Qc3];omega
 all_goals first|(rw[KZ (x:=y2.2.1) (by omega) (by omega)] at a2 a3;rw[Qd7] at a2;exact⟨a2,by rw[<-a3]⟩)|skip
 all_goals first|rw[Pw (x:=y2.2.1) (by omega) (by omega)] at a2 a3|(rw[Sl (x:=y2.2.1) (by omega) (by omega)] at a2 a3;first|rw[Qa2 (by assumption)] at a2|rw[Qa3 (by rw[show Prod.snd _=false by assumption];decide)] at a2)
 all_goals try simp only[Ah (show -9223372036854775808<=((idxB 62 y2.2.1:Nat):Int)+1/\((idxB 62 y2.2.1:Nat):Int)+1<=9223372036854775807 by omega),show(((idxB 62 y2.2.1:Nat):Int)+1).toNat=idxB 62 y2.2.1+1 by omega] at *
 all_goals refine⟨⟨⟨?_,?_,a3⟩,a4⟩,?_⟩
 all_goals first|(rw[k5];simp only[Qa4,Qa6,Qb5];omega)|(rw[k5];omega)|exact a2|(rw[Qb4];exact a2)|skip)
theorem KQ {α:Type} [Inhabited α] (f:α->Nat) {l:List α} {i:Nat} (h:i<l.length):szL f (l.drop i)=f (l.getD i default)+1+szL f (l.drop (i+1)):=by rw[drop_cons h,Ax]
theorem KF {b:UInt8}:∀ {l p q:List UInt8},Ey b l=some (p,q)->p.length+q.length+1=l.length
 | [],p,q,h=>by cases h
 | x::l,p,q,h=>by
  rw[Ey] at h;split at h
  ·obtain⟨rfl,rfl⟩:[]=p/\l=q:=by simpa using h
   simp
  ·obtain⟨r,hr,he⟩:=Option.map_eq_some_iff.1 h;have:=KF (p:=r.1) (q:=r.2) hr;obtain⟨rfl,rfl⟩:x::r.1=p/\r.2=q:=by simpa using he
   simp only[Qa6];omega
theorem Ke:∀ {l:List ByteArray} {acc ats:List SAttr},tagAttrs l acc=some ats->szL A3 ats<=szL A3 acc+szL Ac l
 | [],acc,ats,h=>by simp only[tagAttrs,Qa0] at h;subst h;omega
 | w::l,acc,ats,h=>by
  simp only[tagAttrs] at h;split at h
  ·cases h
  ·rename_i r hr;split at h
   ·have h1:=Ke h;have h2:=KF (p:=r.1) (q:=r.2) hr;rw[Er] at h1;rw[Ax,Ac];rw[Bx] at h2;simp only[A3,Fa] at h1;omega
   ·cases h
theorem Abg (s:ByteArray):Aj (tagOf s).1<=s.size:=by
 have h0:Aj default=0:=by decide
 unfold tagOf;split
 ·simp only[h0];omega
 ·split
  ·split
   ·simp only[Aj,szL,Qc3,List.map_nil,List.sum_nil,Qb5,show ByteArray.size ⟨#[]⟩=0 from rfl];omega
   ·simp only[h0];omega
  ·have hs:=KX 32 s;have hp:=(DH 32 s).1;cases ht:tagAttrs ((spl 32 s).drop 1) [] with
   | none=>simp only[tagFin,h0];omega
   | some ats=>
    have h1:=Ke ht;have h2:=KQ Ac (l:=spl 32 s) (i:=0) hp;rw[Qf0,Qd4] at h2;have h3:szL A3 []=0:=rfl;simp only[tagFin];simp only[Ac] at h2;split
    ·simp only[Aj,show ByteArray.size ⟨#[]⟩=0 from rfl];omega
    ·simp only[h0];omega
theorem Af9 {b:UInt8} {x:ByteArray} (h:idxB b x<x.size):idxB b (x.extract (idxB b x) x.size)=0:=by
 have hl:idxB b x<(toL x).length:=h;have hg:=List.findIdx_getElem (w:=hl);unfold idxB at *
 rw[A2,Qb6 (by rw[Bx];exact Qb0 _),List.drop_eq_getElem_cons hl,List.findIdx_cons,hg];rfl
theorem AaX:∀ (f:Nat) (x:ByteArray),szL Aj (feed f x).1+(feed f x).2.size<=x.size+(if idxB 60 x=0 then 0 else 1):=by
 intro f
 induction f with
 | zero=>intro x;have:szL Aj []=0:=rfl;simp only[feed];omega
 | succ f ih=>
  intro x;have hl:=EA 62 x;have h3:szL A3 []=0:=rfl;have h4:szL Aj []=0:=rfl;simp only[feed];split
  ·rename_i hc;have:=ih (x.extract (idxB 60 x) x.size);have hz:idxB 60 (x.extract (idxB 60 x) x.size)=0:=Af9 hc.2;rw[Ax];rw[Qa2 hz] at this;rw[Qa3 (by omega)];simp only[Aj,Qc3,show ByteArray.size ⟨#[]⟩=0 from rfl,h3] at *
   omega
  ·split
   ·simp only[h4];split<;>omega
   ·rename_i hc;have:=ih (x.extract (idxB 62 x+1) x.size);have ht:=Abg (x.extract 1 (idxB 62 x));have ho:=QR (x:=x) (by omega) (by omega);rw[Qc3] at this ht;rw[Qa2 (show idxB 60 x=0 by omega)];have h5:szL Aj (feed f (x.extract (idxB 62 x+1) x.size)).1+(feed f (x.extract (idxB 62 x+1) x.size)).2.size<=x.size-(idxB 62 x+1)+1:=by split at this<;>omega
    split
    ·simp only[Ax];omega
    ·dsimp only;omega
def endText (r:ByteArray):List SToken:=if r=⟨#[]⟩\/r.data.getD 0 0=60 then[] else[⟨3,⟨#[]⟩,[],r⟩]
theorem Uv (r:ByteArray):szL Aj (endText r)<=r.size+1:=by
 unfold endText;have h3:szL A3 []=0:=rfl;have h4:szL Aj []=0:=rfl;split
 ·omega
 ·rw[Ax];simp only[Aj,h3,h4,show ByteArray.size ⟨#[]⟩=0 from rfl];omega
theorem AfF {s:ByteArray} {i:Nat}:((s.data.getD i 0).toNat:Int)=60↔s.data.getD i 0=60:=AgA (b:=60) (by omega)
theorem Aaj {s:ByteArray} (h:¬ s=⟨#[]⟩):0<s.size:=by
 rcases Nat.eq_zero_or_pos s.size with h0|h0
 ·exact absurd (ByteArray.ext (Array.eq_empty_of_size_eq_zero h0)) h
 ·exact h0
def fEndText:Fct:=⟨[.v (.el .tokenizer)],[.sl .token],fun(x_:STokenizer×Unit)=>x_.1.rest.size<=1000000000000,fun(x_:STokenizer×Unit)=>(endText x_.1.rest,())⟩
theorem q14 (t:STokenizer) (hp:fEndText.pre (t,())):Out.holds (fEndText.ctr (t,())).post (.br (t.rest.toList==(⟨#[]⟩:ByteArray).toList) (.lf fEndText ([],())) (.ob ((0:Int)<=(0:Int)/\(0:Int)<(t.rest.size:Int))<|.br ((↑(t.rest.data.getD 0 0).toNat:Int)==60) (.lf fEndText ([],())) (.lf fEndText ([(⟨(3:Int),(⟨#[]⟩:ByteArray),[],t.rest⟩:SToken)],())))):=by
 refine Ab (fun h1=>lfY ?_) (fun h1=>Aa ?_ fun o2=>Ab (fun h3=>lfY ?_) (fun h3=>lfY ?_));all_goals
  try simp only[Az] at *
  try simp only[fEndText,std,Nat.reduceAdd,endText,AfF] at *
 all_goals have hz:=@Aaj t.rest
 all_goals first|trivial|omega|(have:=hz (by assumption);omega)|rw[Qa2 (by first|exact .inl (by assumption)|exact .inr (by assumption))]|rw[Qa3 (by rintro(h|h)<;>contradiction)]
def Alw:=AhC.a fEndText<|Fct.o (KP [1,2] [11]) AhC.2 func401 (by
 rintro⟨(t:STokenizer),_⟩ hp;exact ho _ (q14 t hp))
def AkD:=Alw.a fEndText<|Fct.o (KP [1,2] [11]) Alw.2 func415 (by
 rintro⟨(t:STokenizer),_⟩ hp;exact ho _ (q14 t hp))
theorem Qy (r:ByteArray):(endText r).length<=1:=by unfold endText;split<;>simp
theorem dflt_rest:(default:STokenizer).rest=⟨#[]⟩/\(∀ s:ByteArray,(⟨#[]⟩:ByteArray)++s=s)/\ByteArray.size ⟨#[]⟩=0:=⟨rfl,fun s=>ByteArray.ext (by simp),rfl⟩
def tokensOf (s:ByteArray):List SToken:=(feedAll s).1++endText (feedAll s).2
theorem LZ (x:ByteArray):szL Aj (feedAll x).1+(feedAll x).2.size<=x.size+1:=by
 have:=AaX (x.size+1) x;unfold feedAll;split at this<;>omega
theorem Qr (x:ByteArray):(feedAll x).1.length+(feedAll x).2.size<=x.size+1:=by
 have:=LZ x;have:=Ad Aj (feedAll x).1;omega
def Dw:Fct:=⟨[.v (.el .str)],[.sl .token],fun(x_:ByteArray×Unit)=>x_.1.size<=10000000,fun(x_:ByteArray×Unit)=>(tokensOf x_.1,())⟩
theorem q15 (s:ByteArray) (hp:Dw.pre (s,())):Out.holds (Dw.ctr (s,())).post (.cl fFeedText (default,s,()) fun z2=>.cl fEndText (z2.2.1,()) fun z3=>.ob (BM (z2.1.length+z3.1.length) 64)<|.lf Dw (z2.1++z3.1,())):=by
 refine Af ?_ fun o1=>(Af ?_ fun o2=>(Aa ?_ fun o3=>lfY ?_))
 all_goals
  have hz:=Qr s;have he:=Qy (feedAll s).2;try simp only[Az] at *
  try simp only[fEndText,fFeedText,Dw,std,Nat.reduceAdd,tokensOf,fFeedText,fEndText,dflt_rest] at *
  try simp(disch:=omega) only[wrapId',toNat1] at *
  try simp(disch:=omega) only[Qa2,Qa3]
 all_goals first|trivial|omega|grind[wrapId',toNat1,drop_cons,drop_end,good_len,maxLen,tokensOf,fFeedText,fEndText,dflt_rest]
def AlO:=AkD.a Dw<|Fct.o [0,2,3,4] AkD.2 func356 (by
 rintro⟨(s:ByteArray),_⟩ hp;exact ho _ (q15 s hp))
def stylesReady (l:List SSlot):Bool:=l.all fun s=>!(decide (s.mode=2) && !s.done)
theorem styles_at {l:List SSlot} {i:Nat} (h:i<l.length):stylesReady (l.drop i)=(!(decide ((l.getD i default).mode=2) && !(l.getD i default).done)&&stylesReady (l.drop (i+1))):=by rw[drop_cons h];rfl
theorem styles_end {l:List SSlot} {i:Nat} (h:l.length<=i):stylesReady (l.drop i)=true:=by rw[Qb9 h];rfl
def AD:Fct:=⟨[.v (.el .page)],[.el .bool],fun(x_:SPage×Unit)=>x_.1.bf.length<=1000000000000,fun(x_:SPage×Unit)=>(stylesReady x_.1.bf,())⟩
abbrev BO (p:SPage):LInv:=⟨[⟨.s,3,true,.el .int⟩,⟨.b,1,false,.el .page⟩],fun(z_ x_:Int×SPage×Unit)=>(0<=x_.1/\x_.1<=p.bf.length/\stylesReady (p.bf.drop x_.1.toNat)=stylesReady p.bf)/\x_.2.1=z_.2.1,fun(x_:Int×SPage×Unit)=>p.bf.length-x_.1.toNat⟩
def Akt:=AlO.a AD<|Fct.p (KP [1,2,3] [8,26]) (fun⟨p,_⟩=>lv [(2,BO p)]) AlO.2 func303 (by
 rintro⟨(p:SPage),_⟩ hp;refine ho (lpx (BO p) ((0:Int),(p,())) fun(y1:Int×SPage×PUnit) bk1=>.br (decide (y1.1<(y1.2.1.bf.length:Int))) (.ob (inB y1.1 y1.2.1.bf.length)<|.br ((y1.2.1.bf.getD y1.1.toNat default).mode==2) (.ob (inB y1.1 y1.2.1.bf.length)<|.br (!(y1.2.1.bf.getD y1.1.toNat default).done) (.lf AD (false,())) (.ob (bk1 (w1 y1.1,(y1.2.1,())))<|.ok)) (.ob (bk1 (w1 y1.1,(y1.2.1,())))<|.ok)) (.lf AD (true,()))) ?_;refine Ay ?_ fun(y1:Int×SPage×PUnit) i1=>Ab (fun h2=>Aa ?_ fun o3=>Ab (fun h4=>Aa ?_ fun o5=>Ab (fun h6=>lfY ?_) (fun h6=>Aa ?_ fun o7=>trivial)) (fun h4=>Aa ?_ fun o8=>trivial)) (fun h2=>lfY ?_)
 all_goals
  try simp only[Az] at *
  try simp only[BO,AD,std,Nat.reduceAdd,styles_at,styles_end] at *
  try simp(disch:=omega) only[wrapId',toNat1] at *
  try simp(disch:=omega) only[Qa2,Qa3]
 all_goals first|trivial|omega|grind[wrapId',toNat1,drop_cons,drop_end,good_len,maxLen,styles_at,styles_end])
abbrev BG (p:SPage):LInv:=⟨[⟨.s,8,true,.el .int⟩],fun _ (x_:Int×Unit)=>0<=x_.1/\x_.1<=p.bf.length/\stylesReady (p.bf.drop x_.1.toNat)=stylesReady p.bf,fun(x_:Int×Unit)=>p.bf.length-x_.1.toNat⟩
def Akb:=Akt.a AD<|Fct.p (KP [1,2,4,6,7,8] [9,19]) (fun⟨p,_⟩=>lv [(2,BG p)]) Akt.2 func273 (by
 rintro⟨(p:SPage),_⟩ hp;refine ho (let q1_:=(p.bf.length:Int);lpx (BG p) ((0:Int),()) fun(y1:Int×PUnit) bk1=>let q2_:=p.bf.getD y1.1.toNat default;let q0_:Out:=.ob (p.bf=p.bf)<|.ob (Value.int IntKind.i64 q1_=Value.int IntKind.i64 q1_)<|.ob (bk1 (w1 y1.1,()))<|.ok;.br (decide (y1.1<q1_)) (.ob (inB y1.1 p.bf.length)<|.br (q2_.mode==2) (.br (!q2_.done) (.lf AD (false,())) q0_) q0_) (.lf AD (true,()))) ?_;refine Ay ?_ fun(y1:Int×PUnit) i1=>Ab (fun h2=>Aa ?_ fun o3=>Ab (fun h4=>Ab (fun h5=>lfY ?_) (fun h5=>Aa rfl fun _=>Aa rfl fun _=>Aa ?_ fun o6=>trivial)) (fun h4=>Aa rfl fun _=>Aa rfl fun _=>Aa ?_ fun o7=>trivial)) (fun h2=>lfY ?_)
 all_goals
  try simp only[Az] at *
  try simp only[BG,AD,std,Nat.reduceAdd,styles_at,styles_end] at *
  try simp(disch:=omega) only[wrapId',toNat1] at *
  try simp(disch:=omega) only[Qa2,Qa3]
 all_goals first|trivial|omega|grind[wrapId',toNat1,drop_cons,drop_end,good_len,maxLen,styles_at,styles_end])
def textOf (n:Int):List SNode->ByteArray->ByteArray
 | [],s=>s
 | x::l,s=>textOf n l (if x.parent=n/\x.name=⟨#[]⟩ then s++x.text else s)
theorem textOf_at {n:Int} {l:List SNode} {i:Nat} {s:ByteArray} (h:i<l.length):textOf n (l.drop i) s=textOf n (l.drop (i+1)) (if(l.getD i default).parent=n/\(l.getD i default).name=⟨#[]⟩ then s++(l.getD i default).text else s):=by rw[drop_cons h];rfl
theorem textOf_end {n:Int} {l:List SNode} {i:Nat} {s:ByteArray} (h:l.length<=i):textOf n (l.drop i) s=s:=by rw[Qb9 h];rfl
def Ez:Fct:=⟨[.v (.el .ba),.v (.el .int)],[.el .str],fun(x_:SBuilder×Int×Unit)=>szBuilder x_.1<=1000000000000,fun(x_:SBuilder×Int×Unit)=>(textOf x_.2.1 x_.1.bi ⟨#[]⟩,())⟩
abbrev CA (b:SBuilder) (n:Int):LInv:=⟨[⟨.s,5,true,.el .str⟩,⟨.s,6,true,.el .int⟩,⟨.b,2,false,.el .ba⟩],fun(z_ x_:ByteArray×Int×SBuilder×Unit)=>(0<=x_.2.1/\x_.2.1<=b.bi.length/\x_.1.size+szL szNode (b.bi.drop x_.2.1.toNat)<=szL szNode b.bi/\textOf n (b.bi.drop x_.2.1.toNat) x_.1=textOf n b.bi ⟨#[]⟩)/\x_.2.2.1=z_.2.2.1,fun(x_:ByteArray×Int×SBuilder×Unit)=>b.bi.length-x_.2.1.toNat⟩
def AiC:=Akb.a Ez<|Fct.p (KP [1,2,4,5,6] [11,30]) (fun⟨b,n,_⟩=>lv [(3,CA b n)]) Akb.2 func305 (by
 rintro⟨(b:SBuilder),(n:Int),_⟩ hp;refine ho (let q4_:=Value.int IntKind.i64 n=Value.int IntKind.i64 n;let q2_:=(⟨#[]⟩:ByteArray);let q5_:=Value.string q2_=Value.string q2_;lpx (CA b n) (q2_,((0:Int),(b,()))) fun(y1:ByteArray×Int×SBuilder×PUnit) bk1=>let q3_:=inB y1.2.1 y1.2.2.1.bi.length;let q1_:=y1.2.2.1.bi.getD y1.2.1.toNat default;let q0_:Out:=.ob q4_<|.ob q5_<|.ob (bk1 (y1.1,(w1 y1.2.1,(y1.2.2.1,()))))<|.ok;.br (decide (y1.2.1<(y1.2.2.1.bi.length:Int))) (.ob q3_<|.br (q1_.parent==n) (.ob q3_<|.br (q1_.name.toList==q2_.toList) (.ob q3_<|.ob (sameSize y1.1 q1_.text)<|.ob q4_<|.ob q5_<|.ob (bk1 (y1.1++q1_.text,(w1 y1.2.1,(y1.2.2.1,()))))<|.ok) q0_) q0_) (.lf Ez (y1.1,()))) ?_;repeat' first|(guard_target =~ Out.holds _ _;first|refine Ay (li:=CA b n) ?_ fun(y1:ByteArray×Int×SBuilder×PUnit) i1=>?_|refine lfY ?_|refine Ab (fun _=>?_) fun _=>?_|refine Aa ?_ fun _=>?_)|exact trivial
 all_goals
  have hl:=Ad szNode b.bi;have hb:szL szNode b.bi<=szBuilder b:=by simp only[szBuilder];omega
  have hx:∀ i,i<b.bi.length->szL szNode (b.bi.drop i)=szNode (b.bi.getD i default)+1+szL szNode (b.bi.drop (i+1)):=fun i h=>KQ szNode h
  try simp only[Az] at *
  try simp only[CA,Ez,std,Nat.reduceAdd,textOf_at,textOf_end,sameSize,Qb7,szNode] at *
  try simp(disch:=omega) only[wrapId',toNat1] at *
  try simp(disch:=omega) only[Qa2,Qa3]
 all_goals first|trivial|omega|grind[wrapId',toNat1,drop_cons,drop_end,good_len,maxLen,textOf_at,textOf_end,sameSize,ByteArray.size_append,szNode])
abbrev Cy (b:SBuilder) (n:Int):LInv:=⟨[⟨.s,5,true,.el .str⟩,⟨.s,11,true,.el .int⟩],fun _ (x_:ByteArray×Int×Unit)=>0<=x_.2.1/\x_.2.1<=b.bi.length/\x_.1.size+szL szNode (b.bi.drop x_.2.1.toNat)<=szL szNode b.bi/\textOf n (b.bi.drop x_.2.1.toNat) x_.1=textOf n b.bi ⟨#[]⟩,fun(x_:ByteArray×Int×Unit)=>b.bi.length-x_.2.1.toNat⟩
def AhW:=AiC.a Ez<|Fct.p (KP [1,2,4,5,7,9,10,11] [12,23]) (fun⟨b,n,_⟩=>lv [(3,Cy b n)]) AiC.2 func275 (by
 rintro⟨(b:SBuilder),(n:Int),_⟩ hp;refine ho (let q5_:=(b.bi.length:Int);let q4_:=Value.int IntKind.i64 n=Value.int IntKind.i64 n;let q2_:=Value.int IntKind.i64 q5_=Value.int IntKind.i64 q5_;let q1_:=(⟨#[]⟩:ByteArray);let q6_:=Value.string q1_=Value.string q1_;lpx (Cy b n) (q1_,((0:Int),())) fun(y1:ByteArray×Int×PUnit) bk1=>let q3_:=b.bi.getD y1.2.1.toNat default;let q0_:Out:=.ob q4_<|.ob q6_<|.ob (b.bi=b.bi)<|.ob q2_<|.ob (bk1 (y1.1,(w1 y1.2.1,())))<|.ok;.br (decide (y1.2.1<q5_)) (.ob (inB y1.2.1 b.bi.length)<|.br (q3_.parent==n) (.br (q3_.name.toList==q1_.toList) (.ob (sameSize y1.1 q3_.text)<|.ob q4_<|.ob q6_<|.ob (b.bi=b.bi)<|.ob q2_<|.ob (bk1 (y1.1++q3_.text,(w1 y1.2.1,())))<|.ok) q0_) q0_) (.lf Ez (y1.1,()))) ?_;repeat' first|(guard_target =~ Out.holds _ _;first|refine Ay (li:=Cy b n) ?_ fun(y1:ByteArray×Int×PUnit) i1=>?_|refine lfY ?_|refine Ab (fun _=>?_) fun _=>?_|refine Aa ?_ fun _=>?_)|exact trivial
 all_goals
  have hl:=Ad szNode b.bi;have hb:szL szNode b.bi<=szBuilder b:=by simp only[szBuilder];omega
  have hx:∀ i,i<b.bi.length->szL szNode (b.bi.drop i)=szNode (b.bi.getD i default)+1+szL szNode (b.bi.drop (i+1)):=fun i h=>KQ szNode h
  try simp only[Az] at *
  try simp only[Cy,Ez,std,Nat.reduceAdd,textOf_at,textOf_end,sameSize,Qb7,szNode] at *
  try simp(disch:=omega) only[wrapId',toNat1] at *
  try simp(disch:=omega) only[Qa2,Qa3]
 all_goals first|trivial|omega|grind[wrapId',toNat1,drop_cons,drop_end,good_len,maxLen,textOf_at,textOf_end,sameSize,ByteArray.size_append,szNode])
def countName (n:ByteArray) (l:List SNode):Int:=countIf (fun x=>decide (x.name=n)) l
def fCountName:Fct:=⟨[.v (.el .ba),.v (.el .str)],[.el .int],fun(x_:SBuilder×ByteArray×Unit)=>x_.1.bi.length<=1000000000000,fun(x_:SBuilder×ByteArray×Unit)=>(countName x_.2.1 x_.1.bi,())⟩
abbrev Ci (b:SBuilder) (n:ByteArray):LInv:=⟨[⟨.s,5,true,.el .int⟩,⟨.s,6,true,.el .int⟩,⟨.b,2,false,.el .ba⟩],fun(z_ x_:Int×Int×SBuilder×Unit)=>(0<=x_.2.1/\x_.2.1<=b.bi.length/\0<=x_.1/\x_.1<=x_.2.1/\x_.1+countIf (fun x=>decide (x.name=n)) (b.bi.drop x_.2.1.toNat)=countName n b.bi)/\x_.2.2.1=z_.2.2.1,fun(x_:Int×Int×SBuilder×Unit)=>b.bi.length-x_.2.1.toNat⟩
def AkT:=AhW.a fCountName<|Fct.p (KP [1,2,4,5,6] [11,21]) (fun⟨b,n,_⟩=>lv [(3,Ci b n)]) AhW.2 func433 (by
 rintro⟨(b:SBuilder),(n:ByteArray),_⟩ hp;refine ho (lpx (Ci b n) ((0:Int),((0:Int),(b,()))) fun(y1:Int×Int×SBuilder×PUnit) bk1=>.br (decide (y1.2.1<(y1.2.2.1.bi.length:Int))) (.ob (inB y1.2.1 y1.2.2.1.bi.length)<|.br ((y1.2.2.1.bi.getD y1.2.1.toNat default).name.toList==n.toList) (.ob (Value.string n=Value.string n)<|.ob (Value.int IntKind.i64 0=Value.int IntKind.i64 (0:Int))<|.ob (bk1 (w1 y1.1,(w1 y1.2.1,(y1.2.2.1,()))))<|.ok) (.ob (Value.string n=Value.string n)<|.ob (Value.int IntKind.i64 0=Value.int IntKind.i64 (0:Int))<|.ob (bk1 (y1.1,(w1 y1.2.1,(y1.2.2.1,()))))<|.ok)) (.lf fCountName (y1.1,()))) ?_;refine Ay ?_ fun(y1:Int×Int×SBuilder×PUnit) i1=>Ab (fun h2=>Aa ?_ fun o3=>Ab (fun h4=>Aa rfl fun _=>Aa rfl fun _=>Aa ?_ fun o5=>trivial) (fun h4=>Aa rfl fun _=>Aa rfl fun _=>Aa ?_ fun o6=>trivial)) (fun h2=>lfY ?_)
 all_goals
  try simp only[Az] at *
  try simp only[Ci,fCountName,std,Nat.reduceAdd,countName,countIf,countIf_le] at *
  try simp(disch:=omega) only[wrapId',toNat1] at *
  try simp(disch:=omega) only[Qa2,Qa3]
 all_goals first|trivial|omega|grind[wrapId',toNat1,drop_cons,drop_end,good_len,maxLen,countName,countIf,countIf_le])
abbrev Bn (b:SBuilder) (n:ByteArray):LInv:=⟨[⟨.s,5,true,.el .int⟩,⟨.s,11,true,.el .int⟩],fun _ (x_:Int×Int×Unit)=>0<=x_.2.1/\x_.2.1<=b.bi.length/\0<=x_.1/\x_.1<=x_.2.1/\x_.1+countIf (fun x=>decide (x.name=n)) (b.bi.drop x_.2.1.toNat)=countName n b.bi,fun(x_:Int×Int×Unit)=>b.bi.length-x_.2.1.toNat⟩
def AhO:=AkT.a fCountName<|Fct.p (KP [1,2,4,5,7,9,10,11] [12,18]) (fun⟨b,n,_⟩=>lv [(3,Bn b n)]) AkT.2 func439 (by
 rintro⟨(b:SBuilder),(n:ByteArray),_⟩ hp;refine ho (let q3_:=Value.string n=Value.string n;let q2_:=(b.bi.length:Int);let q1_:=Value.int IntKind.i64 0=Value.int IntKind.i64 (0:Int);let q0_:=Value.int IntKind.i64 q2_=Value.int IntKind.i64 q2_;lpx (Bn b n) ((0:Int),((0:Int),())) fun(y1:Int×Int×PUnit) bk1=>.br (decide (y1.2.1<q2_)) (.ob (inB y1.2.1 b.bi.length)<|.br ((b.bi.getD y1.2.1.toNat default).name.toList==n.toList) (.ob q3_<|.ob q1_<|.ob (b.bi=b.bi)<|.ob q0_<|.ob (bk1 (w1 y1.1,(w1 y1.2.1,())))<|.ok) (.ob q3_<|.ob q1_<|.ob (b.bi=b.bi)<|.ob q0_<|.ob (bk1 (y1.1,(w1 y1.2.1,())))<|.ok)) (.lf fCountName (y1.1,()))) ?_;repeat' first|(guard_target =~ Out.holds _ _;first|refine Ay (li:=Bn b n) ?_ fun(y1:Int×Int×PUnit) i1=>?_|refine lfY ?_|refine Ab (fun _=>?_) fun _=>?_|refine Aa ?_ fun _=>?_)|exact trivial
 all_goals
  try simp only[Az] at *
  try simp only[Bn,fCountName,std,Nat.reduceAdd,countName,countIf,countIf_le] at *
  try simp(disch:=omega) only[wrapId',toNat1] at *
  try simp(disch:=omega) only[Qa2,Qa3]
 all_goals first|trivial|omega|grind[wrapId',toNat1,drop_cons,drop_end,good_len,maxLen,countName,countIf,countIf_le])
def colR (n:ByteArray) (rs:List SRule) (z:Int):Nat->Int
 | 0=>z
 | m+1=>if(rs.getD m default).name=n then(rs.getD m default).color else colR n rs z m
def colS (n:ByteArray) (l:List SSheet):Nat->Int
 | 0=>0
 | m+1=>colR n (l.getD m default).rules (colS n l m) (l.getD m default).rules.length
def colorOf (l:List SSheet) (n:ByteArray):Int:=colS n l l.length
theorem Nq {n:ByteArray} {rs:List SRule} {z k:Int} (h:0<=k):colR n rs z (k+1).toNat=if(rs.getD k.toNat default).name=n then(rs.getD k.toNat default).color else colR n rs z k.toNat:=by
 rw[show(k+1).toNat=k.toNat+1 by omega];rfl
theorem M8 {n:ByteArray} {l:List SSheet} {k:Int} (h:0<=k):colS n l (k+1).toNat=colR n (l.getD k.toNat default).rules (colS n l k.toNat) (l.getD k.toNat default).rules.length:=by
 rw[show(k+1).toNat=k.toNat+1 by omega];rfl
theorem SA {n:ByteArray} {rs:List SRule} {z k:Int} (h:k<0):colR n rs z (k+1).toNat=z:=by
 rw[show(k+1).toNat=0 by omega];rfl
theorem Sn {n:ByteArray} {l:List SSheet} {k:Int} (h:k<0):colS n l (k+1).toNat=0:=by
 rw[show(k+1).toNat=0 by omega];rfl
theorem So {n:ByteArray} {l:List SSheet}:colS n l ((l.length:Int)-1+1).toNat=colorOf l n:=by
 rw[show((l.length:Int)-1+1).toNat=l.length by omega];rfl
theorem JT {n:ByteArray} {rs:List SRule} {z:Int}:colR n rs z ((rs.length:Int)-1+1).toNat=colR n rs z rs.length:=by
 rw[show((rs.length:Int)-1+1).toNat=rs.length by omega]
def fColorOf:Fct:=⟨[.v (.sl .sheet),.v (.el .str)],[.el .int],fun(x_:(List SSheet)×ByteArray×Unit)=>szL Dt x_.1<=1000000000000,fun(x_:(List SSheet)×ByteArray×Unit)=>(colorOf x_.1 x_.2.1,())⟩
abbrev C7 (l:(List SSheet)) (n:ByteArray):LInv:=⟨[⟨.s,5,true,.el .int⟩],fun _ (x_:Int×Unit)=>-1<=x_.1/\x_.1<l.length/\colS n l (x_.1+1).toNat=colorOf l n,fun(x_:Int×Unit)=>(x_.1+1).toNat⟩
abbrev C1 (l:(List SSheet)) (n:ByteArray):LInv:=⟨[⟨.s,6,true,.el .int⟩,⟨.s,5,true,.el .int⟩],fun(z_ x_:Int×Int×Unit)=>x_.2.1=z_.2.1/\0<=x_.2.1/\x_.2.1<l.length/\-1<=x_.1/\x_.1<(l.getD x_.2.1.toNat default).rules.length/\colR n (l.getD x_.2.1.toNat default).rules (colS n l x_.2.1.toNat) (x_.1+1).toNat=colorOf l n,fun(x_:Int×Int×Unit)=>(x_.1+1).toNat⟩
def Ald:=AhO.a fColorOf<|Fct.p (KP [0,1,4,5,6] [11,22,35]) (fun⟨l,n,_⟩=>fun|2=>some (C7 l n)|5=>some (C1 l n)|_=>none) AhO.2 func434 (by
 rintro⟨(l:List SSheet),(n:ByteArray),_⟩ hp;refine ho (let q3_:=Value.string n=Value.string n;lpx (C7 l n) (wr ((l.length:Int)-(1:Int)),()) fun(y1:Int×PUnit) bk1=>.br (decide (y1.1>=0)) (.ob (inB y1.1 l.length)<|lpx (C1 l n) (wr ((↑(l.getD y1.1.toNat default).rules.length:Int)-(1:Int)),(y1.1,())) fun(y4:Int×Int×PUnit) bk4=>let q4_:=inB y4.2.1 l.length;let q0_:=l.getD y4.2.1.toNat default;let q2_:=q0_.rules.getD y4.1.toNat default;let q1_:=0<=y4.1/\y4.1<(q0_.rules.length:Int);.br (decide (y4.1>=0)) (.ob q4_<|.ob q1_<|.br (q2_.name.toList==n.toList) (.ob q4_<|.ob q1_<|.lf fColorOf (q2_.color,())) (.ob (l=l)<|.ob q3_<|.ob (bk4 (wr (y4.1-(1:Int)),(y4.2.1,())))<|.ok)) (.ob (l=l)<|.ob q3_<|.ob (bk1 (wr (y4.2.1-(1:Int)),()))<|.ok)) (.lf fColorOf ((0:Int),()))) ?_;refine Ay ?_ fun(y1:Int×PUnit) i1=>Ab (fun h2=>Aa ?_ fun o3=>Ay ?_ fun(y4:Int×Int×PUnit) i4=>Ab (fun h5=>Aa ?_ fun o6=>Aa ?_ fun o7=>Ab (fun h8=>Aa ?_ fun o9=>Aa ?_ fun o10=>lfY ?_) (fun h8=>Aa rfl fun _=>Aa rfl fun _=>Aa ?_ fun o11=>trivial)) (fun h5=>Aa rfl fun _=>Aa rfl fun _=>Aa ?_ fun o12=>trivial)) (fun h2=>lfY ?_)
 all_goals
  have hl:=Ad Dt l;have hx:∀ i,i<l.length->(l.getD i default).rules.length<=1000000000000:=fun i h=>by have:=Dx Dt (l:=l) h;have h2:=Ad Lf (l.getD i default).rules;have h3:szL Dt l<=1000000000000:=hp;simp only[Dt] at this;omega
  try simp only[Az] at *
  try simp only[C7,C1,fColorOf,std,Nat.reduceAdd] at *
 all_goals first|trivial|omega|(rw[Ah (by omega)];exact⟨by omega,by omega,So⟩)|(obtain⟨a1,a2,a3⟩:=i1)
 all_goals first|trivial|omega|(have:=hx y1.1.toNat (by omega);rw[Ah (by omega)];first|exact⟨by omega,by omega,by omega,by omega,by omega,by rw[JT,<-M8 (by omega)];exact a3⟩|exact⟨by omega,by omega,by omega,by omega,by rw[JT,<-M8 (by omega)];exact a3⟩)|(rw[Sn (by omega)] at a3;exact a3)|(obtain⟨b0,b1,b2,b3,b4,b5⟩:=i4)
 all_goals first|(have:=hx y4.2.1.toNat (by omega))|skip
 all_goals first|(rw[Nq (by omega),Qa2 (by assumption)] at b5;exact b5)|(rw[Nq (by omega),Qa3 (by assumption)] at b5;rw[Ah (by omega),show(y4.1-1+1).toNat=y4.1.toNat by omega];exact⟨⟨by omega,by omega,by omega,by omega,by omega,b5⟩,by omega⟩)|(rw[SA (by omega)] at b5;rw[Ah (by omega),show(y4.2.1-1+1).toNat=y4.2.1.toNat by omega];exact⟨⟨by omega,by omega,b5⟩,by omega⟩)|omega|skip)
abbrev C8 (l:(List SSheet)) (n:ByteArray):LInv:=⟨[⟨.s,5,true,.el .int⟩],fun _ (x_:Int×Unit)=>-1<=x_.1/\x_.1<l.length/\colS n l (x_.1+1).toNat=colorOf l n,fun(x_:Int×Unit)=>(x_.1+1).toNat⟩
abbrev Db (l:(List SSheet)) (n:ByteArray):LInv:=⟨[⟨.s,6,true,.el .int⟩,⟨.s,5,true,.el .int⟩],fun(z_ x_:Int×Int×Unit)=>x_.2.1=z_.2.1/\0<=x_.2.1/\x_.2.1<l.length/\-1<=x_.1/\x_.1<(l.getD x_.2.1.toNat default).rules.length/\colR n (l.getD x_.2.1.toNat default).rules (colS n l x_.2.1.toNat) (x_.1+1).toNat=colorOf l n,fun(x_:Int×Int×Unit)=>(x_.1+1).toNat⟩
def Aj6:=Ald.a fColorOf<|Fct.p (KP [0,1,4,5,6] [11,22,35]) (fun⟨l,n,_⟩=>fun|2=>some (C8 l n)|5=>some (Db l n)|_=>none) Ald.2 func440 (by
 rintro⟨(l:List SSheet),(n:ByteArray),_⟩ hp;refine ho (let q3_:=Value.string n=Value.string n;lpx (C8 l n) (wr ((l.length:Int)-(1:Int)),()) fun(y1:Int×PUnit) bk1=>.br (decide (y1.1>=0)) (.ob (inB y1.1 l.length)<|lpx (Db l n) (wr ((↑(l.getD y1.1.toNat default).rules.length:Int)-(1:Int)),(y1.1,())) fun(y4:Int×Int×PUnit) bk4=>let q4_:=inB y4.2.1 l.length;let q0_:=l.getD y4.2.1.toNat default;let q2_:=q0_.rules.getD y4.1.toNat default;let q1_:=0<=y4.1/\y4.1<(q0_.rules.length:Int);.br (decide (y4.1>=0)) (.ob q4_<|.ob q1_<|.br (q2_.name.toList==n.toList) (.ob q4_<|.ob q1_<|.lf fColorOf (q2_.color,())) (.ob (l=l)<|.ob q3_<|.ob (bk4 (wr (y4.1-(1:Int)),(y4.2.1,())))<|.ok)) (.ob (l=l)<|.ob q3_<|.ob (bk1 (wr (y4.2.1-(1:Int)),()))<|.ok)) (.lf fColorOf ((0:Int),()))) ?_;refine Ay ?_ fun(y1:Int×PUnit) i1=>Ab (fun h2=>Aa ?_ fun o3=>Ay ?_ fun(y4:Int×Int×PUnit) i4=>Ab (fun h5=>Aa ?_ fun o6=>Aa ?_ fun o7=>Ab (fun h8=>Aa ?_ fun o9=>Aa ?_ fun o10=>lfY ?_) (fun h8=>Aa rfl fun _=>Aa rfl fun _=>Aa ?_ fun o11=>trivial)) (fun h5=>Aa rfl fun _=>Aa rfl fun _=>Aa ?_ fun o12=>trivial)) (fun h2=>lfY ?_)
 all_goals
  have hl:=Ad Dt l;have hx:∀ i,i<l.length->(l.getD i default).rules.length<=1000000000000:=fun i h=>by have:=Dx Dt (l:=l) h;have h2:=Ad Lf (l.getD i default).rules;have h3:szL Dt l<=1000000000000:=hp;simp only[Dt] at this;omega
  try simp only[Az] at *
  try simp only[C8,Db,fColorOf,std,Nat.reduceAdd] at *
 all_goals first|trivial|omega|(rw[Ah (by omega)];exact⟨by omega,by omega,So⟩)|(obtain⟨a1,a2,a3⟩:=i1)
 all_goals first|trivial|omega|(have:=hx y1.1.toNat (by omega);rw[Ah (by omega)];first|exact⟨by omega,by omega,by omega,by omega,by omega,by rw[JT,<-M8 (by omega)];exact a3⟩|exact⟨by omega,by omega,by omega,by omega,by rw[JT,<-M8 (by omega)];exact a3⟩)|(rw[Sn (by omega)] at a3;exact a3)|(obtain⟨b0,b1,b2,b3,b4,b5⟩:=i4)
 all_goals first|(have:=hx y4.2.1.toNat (by omega))|skip
 all_goals first|(rw[Nq (by omega),Qa2 (by assumption)] at b5;exact b5)|(rw[Nq (by omega),Qa3 (by assumption)] at b5;rw[Ah (by omega),show(y4.1-1+1).toNat=y4.1.toNat by omega];exact⟨⟨by omega,by omega,by omega,by omega,by omega,b5⟩,by omega⟩)|(rw[SA (by omega)] at b5;rw[Ah (by omega),show(y4.2.1-1+1).toNat=y4.2.1.toNat by omega];exact⟨⟨by omega,by omega,b5⟩,by omega⟩)|omega|skip)
def words8:List ByteArray:=[⟨#[]⟩,⟨#[119,114,105,116,101,32]⟩,⟨#[97,100,100,32]⟩,⟨#[99,111,117,110,116,32]⟩,⟨#[108,111,111,107,32]⟩,⟨#[115,97,121,32]⟩]
def I9:Fct:=⟨[],[.sl .str],fun(x_:Unit)=>True,fun(x_:Unit)=>(words8,())⟩
def AlK:=Aj6.a I9<|Fct.o [0] Aj6.2 func431 (by
 rintro⟨_⟩ hp;refine ho (.lf I9 ([(⟨#[]⟩:ByteArray),(⟨#[119,114,105,116,101,32]⟩:ByteArray),(⟨#[97,100,100,32]⟩:ByteArray),(⟨#[99,111,117,110,116,32]⟩:ByteArray),(⟨#[108,111,111,107,32]⟩:ByteArray),(⟨#[115,97,121,32]⟩:ByteArray)],())) ?_;refine lfY ?_;all_goals
  try simp only[Az] at *
  try simp only[I9,std,Nat.reduceAdd,words8] at *
  try simp(disch:=omega) only[wrapId',toNat1] at *
  try simp(disch:=omega) only[Qa2,Qa3]
 all_goals first|trivial|omega|grind[wrapId',toNat1,drop_cons,drop_end,good_len,maxLen,words8])
def line8L (s:ByteArray):List ByteArray->Int->SLine×Bool
 | [],_=>(default,false)
 | w::l,op=>if w.size<=s.size/\s.extract 0 w.size=w then(⟨op,s.extract w.size s.size⟩,if op=1\/op=5 then decide (s.size-w.size<=60) else isName (s.extract w.size s.size)) else line8L s l (op+1)
theorem WE {s:ByteArray} {l:List ByteArray} {i:Nat} {k:Int} (h:i<l.length):line8L s (l.drop i) k=if(l.getD i default).size<=s.size/\s.extract 0 (l.getD i default).size=l.getD i default then(⟨k,s.extract (l.getD i default).size s.size⟩,if k=1\/k=5 then decide (s.size-(l.getD i default).size<=60) else isName (s.extract (l.getD i default).size s.size)) else line8L s (l.drop (i+1)) (k+1):=by rw[drop_cons h];rfl
theorem Th {s:ByteArray} {l:List ByteArray} {i:Nat} {k:Int} (h:l.length<=i):line8L s (l.drop i) k=(default,false):=by rw[Qb9 h];rfl
def line8 (s:ByteArray):SLine×Bool:=line8L s (words8.drop 1) 1
theorem I1:words8.length=6:=rfl
def Ie:Fct:=⟨[.v (.el .str)],[.el .line,.el .bool],fun(x_:ByteArray×Unit)=>x_.1.size<=1000000000000,fun(x_:ByteArray×Unit)=>((line8 x_.1).1,(line8 x_.1).2,())⟩
abbrev Dy (s:ByteArray):LInv:=⟨[⟨.s,5,true,.el .int⟩,⟨.b,2,true,.el .line⟩,⟨.s,4,true,.sl .str⟩],fun(z_ x_:Int×SLine×(List ByteArray)×Unit)=>((1<=x_.1/\x_.1<=6/\line8L s (words8.drop x_.1.toNat) x_.1=line8 s)/\x_.2.1=z_.2.1)/\x_.2.2.1=z_.2.2.1,fun(x_:Int×SLine×(List ByteArray)×Unit)=>(6-x_.1).toNat⟩
def AhK:=AlK.a Ie<|Fct.p (KP [0,2,3,4,5,6,7,8] [13,32]) (fun⟨s,_⟩=>lv [(3,Dy s)]) AlK.2 func397 (by
 rintro⟨(s:ByteArray),_⟩ hp;refine ho (.cl I9 () fun z2=>lpx (Dy s) ((1:Int),(default,(z2.1,()))) fun(y1:Int×SLine×List ByteArray×PUnit) bk1=>let q9_:=y1.2.2.1.getD y1.1.toNat default;let q5_:Out:=.ob (Value.string s=Value.string s)<|.ob (bk1 (w1 y1.1,(y1.2.1,(y1.2.2.1,()))))<|.ok;let q0_:=(q9_.size:Int);let q8_:=(0:Int)<=q0_/\q0_<=(s.size:Int);let q7_:=decide ((↑(s.extract q0_.toNat s.size).size:Int)<=60);let q6_:Out:=.lf Ie (⟨y1.1,s.extract q0_.toNat s.size⟩,true,());let q4_:Out:=.lf Ie (⟨y1.1,s.extract q0_.toNat s.size⟩,false,());let q3_:Out:=.cl fIsName (s.extract q0_.toNat s.size,()) fun z3=>.lf Ie (⟨y1.1,s.extract q0_.toNat s.size⟩,z3.1,());let q10_:Out:=.br (!y1.1==5) q3_ q4_;let q2_:Out:=.br q7_ q6_ (.br (!true) q3_ q4_);let q1_:Out:=.br (y1.1==5) (.br q7_ q6_ q10_) q10_;.br (decide (y1.1<(y1.2.2.1.length:Int))) (.ob (inB y1.1 y1.2.2.1.length)<|.ob (y1.1.toNat<y1.2.2.1.length)<|.br (decide ((s.size:Int)>=q0_)) (.ob q8_<|.br ((s.extract 0 q0_.toNat).toList==q9_.toList) (.ob q8_<|.br (y1.1==1) (.lp (Bool) (True) (fun x=>True) fun y10=>.br (y10) (.lp (Bool) (True) (fun x=>True) fun y12=>.br (y12) q2_ q2_) q2_) (.lp (Bool) (True) (fun x=>True) fun y23=>.br (y23) (.lp (Bool) (True) (fun x=>True) fun y25=>.br (y25) q1_ q1_) q1_)) q5_) q5_) (.lf Ie (default,false,()))) ?_;refine Af trivial fun _=>(Ay ?_ fun(y1:Int×SLine×List ByteArray×PUnit) i1=>Ab (fun h2=>Aa ?_ fun o3=>Aa ?_ fun o4=>Ab (fun h5=>Aa ?_ fun o6=>Ab (fun h7=>Aa ?_ fun o8=>Ab (fun h9=>IK trivial fun y10 i10=>Ab (fun h11=>IK trivial fun y12 i12=>Ab (fun h13=>Ab (fun h14=>lfY ?_) (fun h14=>Ab (fun h15=>Af ?_ fun o16=>(lfY ?_)) (fun h15=>lfY ?_))) (fun h13=>Ab (fun h17=>lfY ?_) (fun h17=>Ab (fun h18=>Af ?_ fun o19=>(lfY ?_)) (fun h18=>lfY ?_)))) (fun h11=>Ab (fun h20=>lfY ?_) (fun h20=>Ab (fun h21=>Af ?_ fun o22=>(lfY ?_)) (fun h21=>lfY ?_)))) (fun h9=>IK trivial fun y23 i23=>Ab (fun h24=>IK trivial fun y25 i25=>Ab (fun h26=>Ab (fun h27=>Ab (fun h28=>lfY ?_) (fun h28=>Ab (fun h29=>Af ?_ fun o30=>(lfY ?_)) (fun h29=>lfY ?_))) (fun h27=>Ab (fun h31=>Af ?_ fun o32=>(lfY ?_)) (fun h31=>lfY ?_))) (fun h26=>Ab (fun h33=>Ab (fun h34=>lfY ?_) (fun h34=>Ab (fun h35=>Af ?_ fun o36=>(lfY ?_)) (fun h35=>lfY ?_))) (fun h33=>Ab (fun h37=>Af ?_ fun o38=>(lfY ?_)) (fun h37=>lfY ?_)))) (fun h24=>Ab (fun h39=>Ab (fun h40=>lfY ?_) (fun h40=>Ab (fun h41=>Af ?_ fun o42=>(lfY ?_)) (fun h41=>lfY ?_))) (fun h39=>Ab (fun h43=>Af ?_ fun o44=>(lfY ?_)) (fun h43=>lfY ?_))))) (fun h7=>Aa rfl fun _=>Aa ?_ fun o45=>trivial)) (fun h5=>Aa rfl fun _=>Aa ?_ fun o46=>trivial)) (fun h2=>lfY ?_))
 all_goals
  have k2:∀ a,(s.extract a s.size).size=s.size-a:=fun a=>by rw[Qc3];omega
  try simp only[Az] at *
  try simp only[Dy,fIsName,Ie,I9,std,Nat.reduceAdd,I9,fIsName] at *
 all_goals first|exact⟨by omega,by omega,rfl⟩|(obtain⟨⟨⟨a1,a2,a3⟩,a4⟩,a5⟩:=i1;simp only[a5,I1,Qg6,k2] at *)
 all_goals first|trivial|omega|skip
 all_goals try (have e:=WE (s:=s) (l:=words8) (i:=y1.1.toNat) (k:=y1.1) (by rw[I1];omega);rw[a3] at e)
 all_goals first|(rw[Qa3 (by rintro⟨q1,q2⟩;first|omega|exact absurd q2 (by assumption))] at e;rw[Ah (by omega),show(y1.1+1).toNat=y1.1.toNat+1 by omega];exact⟨⟨⟨⟨by omega,by omega,e.symm⟩,a4⟩,trivial⟩,by omega⟩)|skip
 all_goals try (have e:=Th (s:=s) (l:=words8) (i:=y1.1.toNat) (k:=y1.1) (by rw[I1];omega);rw[a3] at e;rw[e];exact⟨by first|assumption|rfl,rfl⟩)
 all_goals rw[Qa2 (by exact⟨by omega,by assumption⟩)] at e
 all_goals rw[e];refine⟨rfl,?_⟩
 all_goals first|rw[Qa2 (by omega)]|rw[Qa3 (by omega)]
 all_goals first|rfl|(rw[Qf3 (by omega)])|(rw[Qg4 (by omega)]))
def lines8 (l:List ByteArray):List SLine:=l.map fun w=>(line8 w).1
def allOk8 (l:List ByteArray):Bool:=l.all fun w=>(line8 w).2
def parseScript (s:ByteArray):List SLine×Bool:=if s=⟨#[]⟩ then([],true) else if(spl 59 s).length<=6/\allOk8 (spl 59 s)=true then(lines8 (spl 59 s),true) else([],false)
def AC:Fct:=⟨[.v (.el .str)],[.sl .line,.el .bool],fun(x_:ByteArray×Unit)=>x_.1.size<=4200000000,fun(x_:ByteArray×Unit)=>((parseScript x_.1).1,(parseScript x_.1).2,())⟩
theorem Ly {l:List ByteArray} {i:Nat} (h:i<l.length):lines8 (l.take (i+1))=lines8 (l.take i)++[(line8 (l.getD i default)).1]/\allOk8 (l.take (i+1))=(allOk8 (l.take i)&&(line8 (l.getD i default)).2):=by
 rw[take_succ h];exact⟨by simp[lines8],by simp[allOk8]⟩
theorem PY {l:List ByteArray} {i:Nat} (h:i<l.length) (h2:(line8 (l.getD i default)).2=false):allOk8 l=false:=by
 unfold allOk8;rw[List.all_eq_false];exact⟨l.getD i default,Bl h,by rw[h2];decide⟩
abbrev BC (s:ByteArray):LInv:=⟨[⟨.s,4,true,.sl .line⟩,⟨.s,6,true,.el .int⟩,⟨.s,5,true,.sl .str⟩],fun(z_ x_:(List SLine)×Int×(List ByteArray)×Unit)=>(0<=x_.2.1/\x_.2.1<=(spl 59 s).length/\(x_.2.1=0\/(spl 59 s).length<=6)/\x_.1=lines8 ((spl 59 s).take x_.2.1.toNat)/\allOk8 ((spl 59 s).take x_.2.1.toNat)=true)/\x_.2.2.1=z_.2.2.1,fun(x_:(List SLine)×Int×(List ByteArray)×Unit)=>(spl 59 s).length-x_.2.1.toNat⟩
def Aml:=AhK.a AC<|Fct.p (KP [0,2,3,4,5,6,7,8] [11,18,35]) (fun⟨s,_⟩=>lv [(6,BC s)]) AhK.2 func353 (by
 rintro⟨(s:ByteArray),_⟩ hp;refine ho (.br (s.toList==(⟨#[]⟩:ByteArray).toList) (.lf AC ([],true,())) (.cl CH (s,(59:Int),()) fun z2=>lpx (BC s) ([],((0:Int),(z2.1,()))) fun(y3:List SLine×Int×List ByteArray×PUnit) bk3=>.br (decide (y3.2.1<(y3.2.2.1.length:Int))) (.ob (inB y3.2.1 y3.2.2.1.length)<|.ob (y3.2.1.toNat<y3.2.2.1.length)<|.cl Ie (y3.2.2.1.getD y3.2.1.toNat default,()) fun z3=>.br (!z3.2.1) (.lf AC ([],false,())) (.br (decide ((y3.2.2.1.length:Int)>6)) (.lf AC ([],false,())) (.ob (True)<|.ob (BM (y3.1.length+[z3.1].length) 24)<|.ob (Value.string s=Value.string s)<|.ob (bk3 (y3.1++[z3.1],(w1 y3.2.1,(y3.2.2.1,()))))<|.ok))) (.lf AC (y3.1,true,())))) ?_;refine Ab (fun h1=>lfY ?_) (fun h1=>Af ?_ fun o2=>(Ay ?_ fun(y3:List SLine×Int×List ByteArray×PUnit) i3=>Ab (fun h4=>Aa ?_ fun o5=>Aa ?_ fun o6=>Af ?_ fun o7=>(Ab (fun h8=>lfY ?_) (fun h8=>Ab (fun h9=>lfY ?_) (fun h9=>Aa trivial fun _=>Aa ?_ fun o10=>Aa rfl fun _=>Aa ?_ fun o11=>trivial)))) (fun h4=>lfY ?_)));all_goals
  have hk:=DH 59 s;have hm:∀ i,i<(spl 59 s).length->((spl 59 s).getD i default).size<=s.size:=fun i h=>HR (Bl h)
  have hp1:s.size<=4200000000:=hp;try simp only[Az] at *
  try simp only[BC,Ie,AC,CH,std,Nat.reduceAdd,Ie,CH,show UInt8.ofNat (Int.toNat 59)=59 from rfl] at *
 all_goals first|trivial|omega|(unfold parseScript;rw[Qa2 (by assumption)];exact⟨rfl,rfl⟩)|exact⟨by omega,by omega,.inl (by trivial),rfl,rfl⟩|exact⟨by omega,by decide,by decide⟩|(obtain⟨⟨a1,a2,a3,a4,a5⟩,a6⟩:=i3;simp only[a6] at *)
 all_goals try have hl:y3.1.length<=(spl 59 s).length:=by rw[a4,lines8,Qf5,Qc5];omega
 all_goals first|trivial|omega|(have:=hm y3.2.1.toNat (by omega);omega)|skip
 all_goals first|(unfold parseScript;rw[Qa3 (by assumption),Qa3 (by rintro⟨q1,q2⟩;rw[PY (i:=y3.2.1.toNat) (by omega) (by assumption)] at q2;cases q2)];exact⟨rfl,rfl⟩)|(unfold parseScript;rw[Qa3 (by assumption),Qa3 (by omega)];exact⟨rfl,rfl⟩)|skip
 all_goals first|(rw[Qb6 (l:=spl 59 s) (i:=y3.2.1.toNat) (by omega)] at a4 a5;unfold parseScript;rw[Qa3 (by assumption),Qa2 (by exact⟨by omega,a5⟩)];exact⟨a4,rfl⟩)|skip
 all_goals first|(have e:=Ly (l:=spl 59 s) (i:=y3.2.1.toNat) (by omega);rw[Ah (by omega),show(y3.2.1+1).toNat=y3.2.1.toNat+1 by omega];refine⟨⟨⟨by omega,by omega,.inr (by omega),by rw[e.1,a4],by rw[e.2,a5];assumption⟩,by first|assumption|trivial⟩,by omega⟩)|skip)
def mk8 (x:UInt8):UInt8:=if x=91 then 60 else if x=93 then 62 else x
def markup (s:ByteArray):ByteArray:=ofL ((toL s).map mk8)
abbrev enc8 (x:UInt8):Value:=.int .u8 (x.toNat:Int)
def fMarkup:Fct:=⟨[aT],[rT],fun x=>x.1.size<=1000000000000,fun x=>(markup x.1,())⟩
open Go.RowKit Go.Lib Go.Sort in
theorem KD (w:World) (e:TypeId) (s:ByteArray):Holds enc8 (bytesWorld w e s) w.heap.size 0 s.data:=by
 intro j hj;have hn:=bytesWorld_at_new w e s;refine⟨?_,?_⟩
 ·simp only[World.cell?,Qd4,hn];have:(Lib.bytesCells w e s)[j]? = some (.int .u8 s.data[j].toNat):=by unfold Lib.bytesCells;rw[Array.getElem?_append_left (by simpa using hj),Array.getElem?_map,Array.getElem?_eq_getElem hj];rfl
  simp[this,getElem!_pos s.data j hj]
 ·have h2:j<(bytesCells w e s).size:=by unfold Lib.bytesCells;rw[Array.size_append,Array.size_map];omega
  simp[World.frozen?,hn];omega
open Go.RowKit Go.Lib Go.Sort in
theorem Hi {s:ByteArray} {dk:Array UInt8} {i:Nat} {y:UInt8} (hi:i<s.size) (hs:dk.size=s.data.size) (hd:∀ t,t<s.size->dk[t]! = if t<i then mk8 s.data[t]! else s.data[t]!) (hy:y=mk8 s.data[i]!) :
 (dk.setIfInBounds i y).size=s.data.size/\∀ t,t<s.size->(dk.setIfInBounds i y)[t]! = if t<i+1 then mk8 s.data[t]! else s.data[t]!:=by
 have hsz:s.data.size=s.size:=rfl;refine⟨by rw[Array.size_setIfInBounds];exact hs,fun t ht=>?_⟩;by_cases h:t=i
 ·subst h;rw[getElem!_set_same _ _ _ (by omega),Qa2 (by omega),hy]
 ·rw[getElem!_pos _ t (by rw[Array.size_setIfInBounds];omega),Array.getElem_setIfInBounds (by omega),Qa3 (fun e=>h e.symm),<-getElem!_pos dk t (by omega),hd t ht];by_cases h2:t<i
  ·rw[Qa2 h2,Qa2 (by omega)]
  ·rw[Qa3 h2,Qa3 (by omega)]
open Go.RowKit Go.Lib Go.Sort in
theorem Sb {s:ByteArray} {dk:Array UInt8} {i:Nat} (hi:i<s.size) (hs:dk.size=s.data.size) (hd:∀ t,t<s.size->dk[t]! = if t<i then mk8 s.data[t]! else s.data[t]!) (hy:s.data[i]! = mk8 s.data[i]!) :
 ∀ t,t<s.size->dk[t]! = if t<i+1 then mk8 s.data[t]! else s.data[t]!:=by
 intro t ht;rw[hd t ht];by_cases h:t=i
 ·subst h;rw[Qa3 (Nat.lt_irrefl _),Qa2 (by omega),<-hy]
 ·by_cases h2:t<i
  ·rw[Qa2 h2,Qa2 (by omega)]
  ·rw[Qa3 h2,Qa3 (by omega)]
theorem Af0 {x:UInt8} (h:((x.toNat:Int)==91)=true):60=mk8 x:=by
 have:x=91:=by apply UInt8.toNat_inj.1;have:=Qe8.1 h;exact Int.ofNat.inj this
 subst this;rfl
theorem AfN {x:UInt8} (h:((x.toNat:Int)==91)=false) (h2:((x.toNat:Int)==93)=true):62=mk8 x:=by
 have:x=93:=by apply UInt8.toNat_inj.1;have:=Qe8.1 h2;exact Int.ofNat.inj this
 subst this;rfl
theorem Agw {x:UInt8} (h:((x.toNat:Int)==91)=false) (h2:((x.toNat:Int)==93)=false):x=mk8 x:=by
 unfold mk8;rw[Qa3 (by rintro rfl;cases h),Qa3 (by rintro rfl;cases h2)]
open Go.RowKit Go.Lib Go.Sort in
theorem QG (s:ByteArray) (hs1:s.size<=1000000000000) (w:World):Calls Tryz.prog 432 #[.string s] w fun e w'=>e=.returned (.string (markup s))/\∃ dk,dk.size=s.data.size/\w'=putRow enc8 (bytesWorld w 5 s) w.heap.size 0 dk:=by
 have hcv:=fun(w:World)=>Lib.run_convert_string_bytes w 9 291 5 s Tryz.underlying9 Tryz.underlying291 Tryz.underlying5
 have hH:=KD w 5 s;have hsz:s.data.size=s.size:=rfl
 go_enter func432,Tryz.ntmps432
 go_wp2
 generalize hW1:bytesWorld w 5 s=W1 at *
 go_loopw [4] (fun vi wr=>∃ (i:Nat) (dk:Array UInt8),vi=.int .i64 i/\i<=s.size/\dk.size=s.data.size/\wr=putRow enc8 W1 w.heap.size 0 dk/\(∀ t,t<s.size->dk[t]! = if t<i then mk8 s.data[t]! else s.data[t]!)) (fun vi _=>s.size+1-(RowKit.intOf vi).toNat)
 case atStart=>exact⟨0,s.data,rfl,by omega,rfl,(putRow_self _ _ _ _ _ hH).symm,fun t ht=>by rw[Qa3 (by omega)]⟩
 case round=>
  obtain⟨i,dk,rfl,hi,hsk,hw,hd⟩:=hrel;by_cases h1:i<s.size
  ·have hcd:=cell?_putRow enc8 W1 w.heap.size 0 s.data dk hH hsk i (by omega);have hfz:wr.frozen? ⟨w.heap.size,0+i,none⟩=false:=by rw[hw,frozen?_putRow];exact(hH i (by omega)).2
   rw[<-hw,Qd4] at hcd;rw[Qd4] at hfz;have hxi:=hd i h1;rw[Qa3 (Nat.lt_irrefl _)] at hxi;rw[hxi] at hcd;generalize hx:s.data[i]! = x at *
   dsimp only[enc8] at hcd;have hst:=fun y=>putRow_set enc8 W1 w.heap.size 0 dk i y (by omega)
   rw[Qd4] at hst;have hW:Hid (wr=putRow enc8 W1 w.heap.size 0 dk):=hw;have hD:Hid (∀ t,t<s.size->dk[t]! = if t<i then mk8 s.data[t]! else s.data[t]!):=hd;have hS:Hid (∀ y,(putRow enc8 W1 w.heap.size 0 dk).setCell ⟨w.heap.size,i,none⟩ (enc8 y)=putRow enc8 W1 w.heap.size 0 (dk.setIfInBounds i y)):=hst;clear hw hd hst hH hxi
   go_wp2
   case roundEnd=>
    exact⟨⟨i+1,dk.setIfInBounds i 60,rfl,h1,(Hi h1 hsk hD.out (by rw[hx];exact Af0 (by assumption))).1,by rw[hW.out];exact hS.out 60,(Hi h1 hsk hD.out (by rw[hx];exact Af0 (by assumption))).2⟩,by simp only[RowKit.intOf];omega⟩
   case roundEnd=>
    exact⟨⟨i+1,dk.setIfInBounds i 62,rfl,h1,(Hi h1 hsk hD.out (by rw[hx];exact AfN (by assumption) (by assumption))).1,by rw[hW.out];exact hS.out 62,(Hi h1 hsk hD.out (by rw[hx];exact AfN (by assumption) (by assumption))).2⟩,by simp only[RowKit.intOf];omega⟩
   case roundEnd=>
    exact⟨⟨i+1,dk,rfl,h1,hsk,hW.out,Sb h1 hsk hD.out (by rw[hx];exact Agw (by assumption) (by assumption))⟩,by simp only[RowKit.intOf];omega⟩
  ·have hie:i=s.size:=by omega
   subst hie;have hback:=run_convert_bytes_back (P:=Tryz.prog) wr 291 9 5 ⟨w.heap.size,0,none⟩ (grownCap w s.size 0 5) dk.toList Tryz.underlying291 Tryz.underlying5 Tryz.underlying9 (fun j hj=>by
    have hj2:j<dk.size:=by simpa using hj
    have:=cell?_putRow enc8 W1 w.heap.size 0 s.data dk hH hsk j hj2;rw[<-hw] at this;rw[Addr.add_lit,this];simp[getElem!_pos dk j hj2])
   have hl:dk.toList.length=s.size:=by simpa using hsk
   rw[hl,hw] at hback;have hfin:markup s=⟨dk.toList.toArray⟩:=by
    unfold markup ofL;congr 2;apply List.ext_getElem (by simp[Bx,hl]);intro k h2 h3;have hk:k<s.size:=by omega
    have:=hd k hk;rw[Qa2 hk,getElem!_pos dk k (by omega),getElem!_pos s.data k hk] at this;simp[toL,this]
   have hfin:Hid _:=hfin;have hw:Hid _:=hw
   go_wp2
   go_ret
   exact⟨by rw[hfin.out];simp,dk,hsk,by rw[hW1];first|done|exact hw.out⟩
open Go.RowKit Go.Lib Go.Sort in
theorem UY (w:World) (e:TypeId) (s:ByteArray) (f:Array Value->Array Value):mapBlock (bytesWorld w e s) w.heap.size f=grow (w.drewN 1) #[onCells f (.cells (bytesCells w e s) e ((bytesCells w e s).size,(bytesCells w e s).size+1))]:=by
 have hn:=bytesWorld_at_new w e s;have hz:=bytesWorld_size w e s;have ho:=bytesWorld_at_old w e s;have hh:(bytesWorld w e s).heap.modify w.heap.size (onCells f)=w.heap ++ #[onCells f (.cells (bytesCells w e s) e ((bytesCells w e s).size,(bytesCells w e s).size+1))]:=by
  apply Array.ext_getElem?;intro i;rw[Array.getElem?_modify];by_cases hi:w.heap.size=i
  ·subst hi;rw[Qa2 rfl,hn];simp
  ·rw[Qa3 hi];by_cases h2:i<w.heap.size
   ·rw[ho i h2,Array.getElem?_append_left h2]
   ·rw[Array.getElem?_eq_none (by omega),Array.getElem?_eq_none (by simp;omega)]
 unfold mapBlock grow;rw[hh];rfl
open Go.RowKit Go.Lib Go.Sort in
theorem XN:fMarkup.ok Tryz.prog 432 :=
 SE rfl rfl fun x hx w ow hB=>(QG x.1 hx w).mono fun e w' ⟨a,dk,hs,b⟩=>⟨a,1,_,b.trans (UY w 5 x.1 _)⟩
def AjH:=Aml.a fMarkup<|XN
def runLine (b:SBuilder) (l:List SSheet) (x:SLine):SBuilder×ByteArray×ByteArray :=
 if x.op=1 then(b,markup x.text,⟨#[]⟩)
 else if x.op=2 then((if 1<=b.bi.length/\b.bi.length<=39/\isName x.text=true then⟨b.bi++[⟨x.text,⟨#[]⟩,0,[]⟩],b.bl⟩ else b),⟨#[]⟩,⟨#[]⟩)
 else if x.op=3 then(b,⟨#[]⟩,⟨#[99,111,117,110,116,32]⟩++x.text++⟨#[32]⟩++Ht (countName x.text b.bi))
 else if x.op=4 then(b,⟨#[]⟩,⟨#[108,111,111,107,32]⟩++x.text++⟨#[32]⟩++Ht (colorOf l x.text))
 else if x.op=5 then(b,⟨#[]⟩,⟨#[115,97,121,32]⟩++x.text)
 else(b,⟨#[]⟩,⟨#[]⟩)
def okSheets (l:List SSheet):Prop:=∀ s,s∈l->∀ r,r∈s.rules->-9223372036854775808<=r.color/\r.color<=9223372036854775807
theorem Wm {n:ByteArray} {rs:List SRule} {z:Int} (hz : -9223372036854775808<=z/\z<=9223372036854775807) (h:∀ r,r∈rs->-9223372036854775808<=r.color/\r.color<=9223372036854775807):∀ m,m<=rs.length->-9223372036854775808<=colR n rs z m/\colR n rs z m<=9223372036854775807
 | 0,_=>hz
 | m+1,hm=>by
  rw[colR];split
  ·exact h _ (Bl (by omega))
  ·exact Wm hz h m (by omega)
theorem Xi {n:ByteArray} {l:List SSheet} (h:okSheets l):∀ m,m<=l.length->-9223372036854775808<=colS n l m/\colS n l m<=9223372036854775807
 | 0,_=>by rw[colS];decide
 | m+1,hm=>by rw[colS];exact Wm (Xi h m (by omega)) (h _ (Bl (by omega))) _ (Qb0 _)
theorem L0 {l:List SSheet} (h:okSheets l) (n:ByteArray) : -9223372036854775808<=colorOf l n/\colorOf l n<=9223372036854775807:=Xi h _ (Qb0 _)
theorem Jm (n:ByteArray) (l:List SNode):0<=countName n l/\countName n l<=l.length:=by unfold countName;have:=countIf_le (fun x:SNode=>decide (x.name=n)) l;omega
def fRunLine:Fct:=⟨[.v (.el .ba),.v (.sl .sheet),.v (.el .line)],[.el .ba,.el .str,.el .str],fun(x_:SBuilder×(List SSheet)×SLine×Unit)=>szBuilder x_.1<=100000000000/\szL Dt x_.2.1<=100000000000/\x_.2.2.1.text.size<=1000000000/\okSheets x_.2.1,fun(x_:SBuilder×(List SSheet)×SLine×Unit)=>((runLine x_.1 x_.2.1 x_.2.2.1).1,(runLine x_.1 x_.2.1 x_.2.2.1).2.1,(runLine x_.1 x_.2.1 x_.2.2.1).2.2,())⟩
theorem q16 (b:SBuilder) (l:List SSheet) (x:SLine) (hp:fRunLine.pre (b,l,x,())):Out.holds (fRunLine.ctr (b,l,x,())).post (let q4_:=(⟨#[115,97,121,32]⟩:ByteArray);let q3_:=(⟨#[]⟩:ByteArray);let q2_:=(⟨#[32]⟩:ByteArray);let q1_:=(⟨#[108,111,111,107,32]⟩:ByteArray);let q0_:=(⟨#[99,111,117,110,116,32]⟩:ByteArray);.cl fCopyBuilder (b,()) fun z2=>let q5_:Out:=.lf fRunLine (z2.1,q3_,q3_,());.br (x.op==1) (.cl fMarkup (x.text,()) fun z3=>.lf fRunLine (z2.1,z3.1,q3_,())) (.br (x.op==2) (.cl fInRange ((b.bi.length:Int),(1:Int),(39:Int),()) fun z4=>.br (z4.1) (.cl fIsName (x.text,()) fun z5=>.br (z5.1) (.ob (BM (z2.1.bi.length+[(⟨x.text,q3_,(0:Int),[]⟩:SNode)].length) 64)<|.lf fRunLine (⟨z2.1.bi++[(⟨x.text,q3_,(0:Int),[]⟩:SNode)],z2.1.bl⟩,q3_,q3_,())) q5_) q5_) (.br (x.op==3) (.lp (Bool) (True) (fun x=>True) fun y10=>.br (y10) (.lp (Bool) (True) (fun x=>True) fun y12=>.br (y12) (.lp (Bool) (True) (fun x=>True) fun y14=>.br (y14) (.lp (Bool) (True) (fun x=>True) fun y16=>.br (y16) (.lp (Bool) (True) (fun x=>True) fun y18=>.br (y18) (.ob (sameSize q0_ x.text)<|.ob (sameSize (q0_++x.text) q2_)<|.cl fCountName (b,x.text,()) fun(z6:Int×PUnit)=>.cl fFormatInt (z6.1,()) fun z7=>.ob (sameSize (q0_++x.text++q2_) z7.1)<|.lf fRunLine (z2.1,q3_,q0_++x.text++q2_++z7.1,())) (.ob (sameSize q0_ x.text)<|.ob (sameSize (q0_++x.text) q2_)<|.cl fCountName (b,x.text,()) fun(z8:Int×PUnit)=>.cl fFormatInt (z8.1,()) fun z9=>.ob (sameSize (q0_++x.text++q2_) z9.1)<|.lf fRunLine (z2.1,q3_,q0_++x.text++q2_++z9.1,()))) (.ob (sameSize q0_ x.text)<|.cl fCountName (b,x.text,()) fun(z10:Int×PUnit)=>.cl fFormatInt (z10.1,()) fun z11=>.ob (sameSize (q0_++x.text) q2_)<|.ob (sameSize (q0_++x.text++q2_) z11.1)<|.lf fRunLine (z2.1,q3_,q0_++x.text++q2_++z11.1,()))) (.cl fCountName (b,x.text,()) fun(z12:Int×PUnit)=>.cl fFormatInt (z12.1,()) fun z13=>.ob (sameSize q0_ x.text)<|.ob (sameSize (q0_++x.text) q2_)<|.ob (sameSize (q0_++x.text++q2_) z13.1)<|.lf fRunLine (z2.1,q3_,q0_++x.text++q2_++z13.1,()))) (.cl fCountName (b,x.text,()) fun(z14:Int×PUnit)=>.cl fFormatInt (z14.1,()) fun z15=>.ob (sameSize q0_ x.text)<|.ob (sameSize (q0_++x.text) q2_)<|.ob (sameSize (q0_++x.text++q2_) z15.1)<|.lf fRunLine (z2.1,q3_,q0_++x.text++q2_++z15.1,()))) (.cl fCountName (b,x.text,()) fun(z16:Int×PUnit)=>.cl fFormatInt (z16.1,()) fun z17=>.ob (sameSize q0_ x.text)<|.ob (sameSize (q0_++x.text) q2_)<|.ob (sameSize (q0_++x.text++q2_) z17.1)<|.lf fRunLine (z2.1,q3_,q0_++x.text++q2_++z17.1,()))) (.br (x.op==4) (.lp (Bool) (True) (fun x=>True) fun y51=>.br (y51) (.lp (Bool) (True) (fun x=>True) fun y53=>.br (y53) (.lp (Bool) (True) (fun x=>True) fun y55=>.br (y55) (.lp (Bool) (True) (fun x=>True) fun y57=>.br (y57) (.lp (Bool) (True) (fun x=>True) fun y59=>.br (y59) (.ob (sameSize q1_ x.text)<|.ob (sameSize (q1_++x.text) q2_)<|.cl fColorOf (l,x.text,()) fun(z18:Int×PUnit)=>.cl fFormatInt (z18.1,()) fun z19=>.ob (sameSize (q1_++x.text++q2_) z19.1)<|.lf fRunLine (z2.1,q3_,q1_++x.text++q2_++z19.1,())) (.ob (sameSize q1_ x.text)<|.ob (sameSize (q1_++x.text) q2_)<|.cl fColorOf (l,x.text,()) fun(z20:Int×PUnit)=>.cl fFormatInt (z20.1,()) fun z21=>.ob (sameSize (q1_++x.text++q2_) z21.1)<|.lf fRunLine (z2.1,q3_,q1_++x.text++q2_++z21.1,()))) (.ob (sameSize q1_ x.text)<|.cl fColorOf (l,x.text,()) fun(z22:Int×PUnit)=>.cl fFormatInt (z22.1,()) fun z23=>.ob (sameSize (q1_++x.text) q2_)<|.ob (sameSize (q1_++x.text++q2_) z23.1)<|.lf fRunLine (z2.1,q3_,q1_++x.text++q2_++z23.1,()))) (.cl fColorOf (l,x.text,()) fun(z24:Int×PUnit)=>.cl fFormatInt (z24.1,()) fun z25=>.ob (sameSize q1_ x.text)<|.ob (sameSize (q1_++x.text) q2_)<|.ob (sameSize (q1_++x.text++q2_) z25.1)<|.lf fRunLine (z2.1,q3_,q1_++x.text++q2_++z25.1,()))) (.cl fColorOf (l,x.text,()) fun(z26:Int×PUnit)=>.cl fFormatInt (z26.1,()) fun z27=>.ob (sameSize q1_ x.text)<|.ob (sameSize (q1_++x.text) q2_)<|.ob (sameSize (q1_++x.text++q2_) z27.1)<|.lf fRunLine (z2.1,q3_,q1_++x.text++q2_++z27.1,()))) (.cl fColorOf (l,x.text,()) fun(z28:Int×PUnit)=>.cl fFormatInt (z28.1,()) fun z29=>.ob (sameSize q1_ x.text)<|.ob (sameSize (q1_++x.text) q2_)<|.ob (sameSize (q1_++x.text++q2_) z29.1)<|.lf fRunLine (z2.1,q3_,q1_++x.text++q2_++z29.1,()))) (.br (x.op==5) (.lp (Bool) (True) (fun x=>True) fun y92=>.br (y92) (.lp (Bool) (True) (fun x=>True) fun y94=>.br (y94) (.lp (Bool) (True) (fun x=>True) fun y96=>.br (y96) (.ob (sameSize q4_ x.text)<|.lf fRunLine (z2.1,q3_,q4_++x.text,())) (.ob (sameSize q4_ x.text)<|.lf fRunLine (z2.1,q3_,q4_++x.text,()))) (.ob (sameSize q4_ x.text)<|.lf fRunLine (z2.1,q3_,q4_++x.text,()))) (.ob (sameSize q4_ x.text)<|.lf fRunLine (z2.1,q3_,q4_++x.text,()))) q5_))))):=by
 refine Af ?_ fun o1=>(Ab (fun h2=>Af ?_ fun o3=>(lfY ?_)) (fun h2=>Ab (fun h4=>Af trivial fun _=>(Ab (fun h5=>Af ?_ fun o6=>(Ab (fun h7=>Aa ?_ fun o8=>lfY ?_) (fun h7=>lfY ?_))) (fun h5=>lfY ?_))) (fun h4=>Ab (fun h9=>IK trivial fun y10 i10=>Ab (fun h11=>IK trivial fun y12 i12=>Ab (fun h13=>IK trivial fun y14 i14=>Ab (fun h15=>IK trivial fun y16 i16=>Ab (fun h17=>IK trivial fun y18 i18=>Ab (fun h19=>Aa ?_ fun o20=>Aa ?_ fun o21=>Af ?_ fun o22=>(Af ?_ fun o23=>(Aa ?_ fun o24=>lfY ?_))) (fun h19=>Aa ?_ fun o25=>Aa ?_ fun o26=>Af ?_ fun o27=>(Af ?_ fun o28=>(Aa ?_ fun o29=>lfY ?_)))) (fun h17=>Aa ?_ fun o30=>Af ?_ fun o31=>(Af ?_ fun o32=>(Aa ?_ fun o33=>Aa ?_ fun o34=>lfY ?_)))) (fun h15=>Af ?_ fun o35=>(Af ?_ fun o36=>(Aa ?_ fun o37=>Aa ?_ fun o38=>Aa ?_ fun o39=>lfY ?_)))) (fun h13=>Af ?_ fun o40=>(Af ?_ fun o41=>(Aa ?_ fun o42=>Aa ?_ fun o43=>Aa ?_ fun o44=>lfY ?_)))) (fun h11=>Af ?_ fun o45=>(Af ?_ fun o46=>(Aa ?_ fun o47=>Aa ?_ fun o48=>Aa ?_ fun o49=>lfY ?_)))) (fun h9=>Ab (fun h50=>IK trivial fun y51 i51=>Ab (fun h52=>IK trivial fun y53 i53=>Ab (fun h54=>IK trivial fun y55 i55=>Ab (fun h56=>IK trivial fun y57 i57=>Ab (fun h58=>IK trivial fun y59 i59=>Ab (fun h60=>Aa ?_ fun o61=>Aa ?_ fun o62=>Af ?_ fun o63=>(Af ?_ fun o64=>(Aa ?_ fun o65=>lfY ?_))) (fun h60=>Aa ?_ fun o66=>Aa ?_ fun o67=>Af ?_ fun o68=>(Af ?_ fun o69=>(Aa ?_ fun o70=>lfY ?_)))) (fun h58=>Aa ?_ fun o71=>Af ?_ fun o72=>(Af ?_ fun o73=>(Aa ?_ fun o74=>Aa ?_ fun o75=>lfY ?_)))) (fun h56=>Af ?_ fun o76=>(Af ?_ fun o77=>(Aa ?_ fun o78=>Aa ?_ fun o79=>Aa ?_ fun o80=>lfY ?_)))) (fun h54=>Af ?_ fun o81=>(Af ?_ fun o82=>(Aa ?_ fun o83=>Aa ?_ fun o84=>Aa ?_ fun o85=>lfY ?_)))) (fun h52=>Af ?_ fun o86=>(Af ?_ fun o87=>(Aa ?_ fun o88=>Aa ?_ fun o89=>Aa ?_ fun o90=>lfY ?_)))) (fun h50=>Ab (fun h91=>IK trivial fun y92 i92=>Ab (fun h93=>IK trivial fun y94 i94=>Ab (fun h95=>IK trivial fun y96 i96=>Ab (fun h97=>Aa ?_ fun o98=>lfY ?_) (fun h97=>Aa ?_ fun o99=>lfY ?_)) (fun h95=>Aa ?_ fun o100=>lfY ?_)) (fun h93=>Aa ?_ fun o101=>lfY ?_)) (fun h91=>lfY ?_))))))
 all_goals
  have hl:=Ad szNode b.bi;have hb:szL szNode b.bi<=szBuilder b:=by simp only[szBuilder];omega
  have hc:=Jm x.text b.bi;have hx:=L0 hp.2.2.2 x.text;have hf:=fun(n:Int) (h0 : -9223372036854775808<=n) (h1:n<=9223372036854775807)=>Lg h0 h1
  try simp only[Az] at *
  try simp only[fColorOf,fCopyBuilder,fCountName,fFormatInt,fInRange,fIsName,fMarkup,fRunLine,std,Nat.reduceAdd,runLine,fCopyBuilder,fMarkup,fIsName,fInRange,inRange,fCountName,fColorOf,fFormatInt,sameSize,Qb7] at *
  try simp(disch:=omega) only[wrapId',toNat1] at *
  try simp(disch:=omega) only[Qa2,Qa3]
 all_goals first|trivial|omega|grind[wrapId',toNat1,drop_cons,drop_end,good_len,maxLen,runLine,fCopyBuilder,fMarkup,fIsName,fInRange,inRange,fCountName,fColorOf,fFormatInt,sameSize,ByteArray.size_append]
def AlX:=AjH.a fRunLine<|Fct.o (KP [1,3,5,6,7,8,9,13] [14,20,30,40,53,66]) AjH.2 func398 (by
 rintro⟨(b:SBuilder),(l:List SSheet),(x:SLine),_⟩ hp;exact ho _ (q16 b l x hp))
def runLines (l:List SSheet):List SLine->SBuilder->ByteArray->List ByteArray->SBuilder×ByteArray×List ByteArray
 | [],b,w,g=>(b,w,g)
 | x::r,b,w,g=>runLines l r (runLine b l x).1 (w++(runLine b l x).2.1) (if(runLine b l x).2.2=⟨#[]⟩ then g else g++[(runLine b l x).2.2])
theorem runLines_at {l:List SSheet} {r:List SLine} {i:Nat} {b:SBuilder} {w:ByteArray} {g:List ByteArray} (h:i<r.length):runLines l (r.drop i) b w g=runLines l (r.drop (i+1)) (runLine b l (r.getD i default)).1 (w++(runLine b l (r.getD i default)).2.1) (if(runLine b l (r.getD i default)).2.2=⟨#[]⟩ then g else g++[(runLine b l (r.getD i default)).2.2]):=by rw[drop_cons h];rfl
theorem runLines_end {l:List SSheet} {r:List SLine} {i:Nat} {b:SBuilder} {w:ByteArray} {g:List ByteArray} (h:r.length<=i):runLines l (r.drop i) b w g=(b,w,g):=by rw[Qb9 h];rfl
theorem IW (b:SBuilder) (l:List SSheet) (x:SLine):szBuilder (runLine b l x).1<=szBuilder b+x.text.size+1/\(runLine b l x).2.1.size<=x.text.size:=by
 have h0:ByteArray.size ⟨#[]⟩=0:=rfl;have h1:(markup x.text).size=x.text.size:=by unfold markup;rw[Fa,Qf5,Bx]
 have h3:szL A3 []=0:=rfl;unfold runLine;repeat' split
 all_goals simp only[h0,h1,szBuilder,Er,szNode,h3]
 all_goals omega
def runScript (b:SBuilder) (l:List SSheet) (r:List SLine):SBuilder×ByteArray×List ByteArray:=runLines l r b ⟨#[]⟩ []
def BZ:Fct:=⟨[.v (.el .ba),.v (.sl .sheet),.v (.sl .line)],[.el .ba,.el .str,.sl .str],fun(x_:SBuilder×(List SSheet)×(List SLine)×Unit)=>szBuilder x_.1<=50000000000/\szL Dt x_.2.1<=100000000000/\szL CW x_.2.2.1<=1000000000/\okSheets x_.2.1,fun(x_:SBuilder×(List SSheet)×(List SLine)×Unit)=>((runScript x_.1 x_.2.1 x_.2.2.1).1,(runScript x_.1 x_.2.1 x_.2.2.1).2.1,(runScript x_.1 x_.2.1 x_.2.2.1).2.2,())⟩
abbrev Cn (b:SBuilder) (l:(List SSheet)) (r:(List SLine)):LInv:=⟨[⟨.b,9,true,.el .ba⟩,⟨.s,10,true,.el .str⟩,⟨.s,11,true,.sl .str⟩,⟨.s,12,true,.el .int⟩,⟨.b,6,true,.el .ba⟩],fun(z_ x_:SBuilder×ByteArray×(List ByteArray)×Int×SBuilder×Unit)=>(0<=x_.2.2.2.1/\x_.2.2.2.1<=r.length/\szBuilder x_.1+szL CW (r.drop x_.2.2.2.1.toNat)<=szBuilder b+szL CW r/\x_.2.1.size+szL CW (r.drop x_.2.2.2.1.toNat)<=szL CW r/\x_.2.2.1.length<=x_.2.2.2.1/\runLines l (r.drop x_.2.2.2.1.toNat) x_.1 x_.2.1 x_.2.2.1=runScript b l r)/\x_.2.2.2.2.1=z_.2.2.2.2.1,fun(x_:SBuilder×ByteArray×(List ByteArray)×Int×SBuilder×Unit)=>r.length-x_.2.2.2.1.toNat⟩
def AhJ:=AlX.a BZ<|Fct.p (KP [1,2,3,6,7,8,9,10,11,12,13,14,15] [22,41]) (fun⟨b,l,r,_⟩=>lv [(5,Cn b l r)]) AlX.2 func354 (by
 rintro⟨(b:SBuilder),(l:List SSheet),(r:List SLine),_⟩ hp;refine ho (.cl fCopyBuilder (b,()) fun z2=>lpx (Cn b l r) (z2.1,((⟨#[]⟩:ByteArray),([],((0:Int),(default,()))))) fun(y2:SBuilder×ByteArray×List ByteArray×Int×SBuilder×PUnit) bk2=>.br (decide (y2.2.2.2.1<(r.length:Int))) (.ob (inB y2.2.2.2.1 r.length)<|.cl fRunLine (y2.1,l,r.getD y2.2.2.2.1.toNat default,()) fun z3=>.ob (sameSize y2.2.1 z3.2.1)<|.br (!z3.2.2.1.toList==(⟨#[]⟩:ByteArray).toList) (.ob (True)<|.ob (BM (y2.2.2.1.length+[z3.2.2.1].length) 16)<|.ob (l=l)<|.ob (r=r)<|.ob (Value.string (⟨#[]⟩:ByteArray)=Value.string (⟨#[]⟩:ByteArray))<|.ob (bk2 (z3.1,(y2.2.1++z3.2.1,(y2.2.2.1++[z3.2.2.1],(w1 y2.2.2.2.1,(y2.2.2.2.2.1,()))))))<|.ok) (.ob (l=l)<|.ob (r=r)<|.ob (Value.string (⟨#[]⟩:ByteArray)=Value.string (⟨#[]⟩:ByteArray))<|.ob (bk2 (z3.1,(y2.2.1++z3.2.1,(y2.2.2.1,(w1 y2.2.2.2.1,(y2.2.2.2.2.1,()))))))<|.ok)) (.lf BZ (y2.1,y2.2.1,y2.2.2.1,()))) ?_;refine Af ?_ fun o1=>(Ay ?_ fun(y2:SBuilder×ByteArray×List ByteArray×Int×SBuilder×PUnit) i2=>Ab (fun h3=>Aa ?_ fun o4=>Af ?_ fun o5=>(Aa ?_ fun o6=>Ab (fun h7=>Aa trivial fun _=>Aa ?_ fun o8=>Aa rfl fun _=>Aa rfl fun _=>Aa rfl fun _=>Aa ?_ fun o9=>trivial) (fun h7=>Aa rfl fun _=>Aa rfl fun _=>Aa rfl fun _=>Aa ?_ fun o10=>trivial))) (fun h3=>lfY ?_))
 all_goals
  have hr:=Ad CW r;have hx:∀ i,i<r.length->szL CW (r.drop i)=(r.getD i default).text.size+1+szL CW (r.drop (i+1)):=fun i h=>KQ CW h
  have hs:=fun bb x=>IW bb l x
  have hrs:runLines l r b ⟨#[]⟩ []=runScript b l r:=rfl;try simp only[Az] at *
  try simp only[Cn,fCopyBuilder,fRunLine,BZ,std,Nat.reduceAdd,fCopyBuilder,fRunLine,runLines_at,runLines_end,sameSize,Qb7] at *
  try simp(disch:=omega) only[wrapId',toNat1] at *
  try simp(disch:=omega) only[Qa2,Qa3]
 all_goals first|trivial|omega|grind[wrapId',toNat1,drop_cons,drop_end,good_len,maxLen,fCopyBuilder,fRunLine,runLines_at,runLines_end,sameSize,ByteArray.size_append])
def decV:List UInt8->Int->Int
 | [],n=>n
 | x::l,n=>decV l (10*n+((x.toNat:Int)-48))
def digit (x:UInt8):Bool:=decide (48<=(x.toNat:Int)/\(x.toNat:Int)<=57)
def parseInt (s:ByteArray):Int×Bool:=if 1<=s.size/\s.size<=13/\(toL s).all digit=true/\decV (toL s) 0<=1000000000000/\Ht (decV (toL s) 0)=s then(decV (toL s) 0,true) else(0,false)
def Dv:Fct:=⟨[.v (.el .str)],[.el .int,.el .bool],fun(x_:ByteArray×Unit)=>x_.1.size<=1000000000000,fun(x_:ByteArray×Unit)=>((parseInt x_.1).1,(parseInt x_.1).2,())⟩
theorem JU {s:ByteArray} {i:Nat} (h:i<s.size):(toL s).take (i+1)=(toL s).take i++[s.data.getD i 0]:=by
 have h2:i<s.data.size:=h;have e:s.data.getD i 0=s.data[i]:=by unfold Array.getD;rw[dif_pos h2];rfl
 rw[List.take_succ_eq_append_getElem (by rw[Bx];exact h),e];rfl
theorem Lr:∀ (l:List UInt8) (x:UInt8) (n:Int),decV (l++[x]) n=10*decV l n+((x.toNat:Int)-48)
 | [],x,n=>rfl
 | y::l,x,n=>by rw[Qf4,decV,decV,Lr l]
theorem AgM:∀ i:Nat,i<=13->(10:Int) ^ i<=10000000000000:=fun i h=>(by decide:∀ i:Fin 14,(10:Int) ^ i.val<=10000000000000) ⟨i,by omega⟩
theorem WK {s:ByteArray} {i:Nat} (h:i<s.size) (hd:digit (s.data.getD i 0)=false):(toL s).all digit=false:=by
 rw[List.all_eq_false];refine⟨s.data.getD i 0,?_,by rw[hd];decide⟩;have:=List.mem_of_mem_take (l:=toL s) (i:=i+1) (a:=s.data.getD i 0) (by rw[JU h];simp);exact this
theorem HS {s:ByteArray} (h:¬ (1<=s.size/\s.size<=13/\(toL s).all digit=true/\decV (toL s) 0<=1000000000000/\Ht (decV (toL s) 0)=s)):0=(parseInt s).1/\false=(parseInt s).2:=by
 unfold parseInt;rw[Qa3 h];exact⟨rfl,rfl⟩
theorem PE {s:ByteArray} (h:1<=s.size/\s.size<=13/\(toL s).all digit=true/\decV (toL s) 0<=1000000000000/\Ht (decV (toL s) 0)=s):decV (toL s) 0=(parseInt s).1/\true=(parseInt s).2:=by
 unfold parseInt;rw[Qa2 h];exact⟨rfl,rfl⟩
theorem u8_in (x:UInt8):IntKind.i64.wrap (x.toNat:Int)=x.toNat/\(x.toNat:Int)<=255:=by
 have:=x.toNat_lt;exact⟨wrapId' (by omega) (by omega),by omega⟩
theorem VN {x:UInt8} (h:48<=(x.toNat:Int)):IntKind.i64.wrap (IntKind.u8.wrap ((x.toNat:Int)-48))=(x.toNat:Int)-48:=by
 have:=x.toNat_lt;have e:IntKind.u8.wrap ((x.toNat:Int)-48)=(x.toNat:Int)-48:=by show((x.toNat:Int)-48) % 256=_;omega
 rw[e];exact wrapId' (by omega) (by omega)
abbrev BA (s:ByteArray):LInv:=⟨[⟨.s,4,true,.el .int⟩,⟨.s,5,true,.el .int⟩],fun _ (x_:Int×Int×Unit)=>0<=x_.2.1/\x_.2.1<=s.size/\0<=x_.1/\x_.1<10 ^ x_.2.1.toNat/\((toL s).take x_.2.1.toNat).all digit=true/\x_.1=decV ((toL s).take x_.2.1.toNat) 0,fun(x_:Int×Int×Unit)=>s.size-x_.2.1.toNat⟩
def AjL:=AhJ.a Dv<|Fct.p (KP [0,2,3,4,5] [9,13,21,37]) (fun⟨s,_⟩=>lv [(5,BA s)]) AhJ.2 func435 (by
 rintro⟨(s:ByteArray),_⟩ hp;refine ho (let q1_:=(s.size:Int);let q0_:Out:=.lf Dv ((0:Int),false,());.cl fInRange (q1_,(1:Int),(13:Int),()) fun z2=>.br (!z2.1) q0_ (lpx (BA s) ((0:Int),((0:Int),())) fun(y2:Int×Int×PUnit) bk2=>let q3_:=0<=y2.2.1/\y2.2.1<q1_;let q2_:=(↑(s.data.getD y2.2.1.toNat 0).toNat:Int);.br (decide (y2.2.1<q1_)) (.ob q3_<|.cl fInRange (wr q2_,(48:Int),(57:Int),()) fun z3=>.br (!z3.1) q0_ (.ob q3_<|.ob (Value.string s=Value.string s)<|.ob (bk2 (wr (wr ((10:Int)*y2.1)+wr (IntKind.u8.wrap (q2_-(48:Int)))),(w1 y2.2.1,())))<|.ok)) (.br (decide (y2.1>1000000000000)) q0_ (.cl fFormatInt (y2.1,()) fun z4=>.br (!z4.1.toList==s.toList) q0_ (.lf Dv (y2.1,true,())))))) ?_;repeat' first|(guard_target =~ Out.holds _ _;first|refine Ay (li:=BA s) ?_ fun(y2:Int×Int×PUnit) i2=>?_|refine lfY ?_|refine Ab (fun _=>?_) fun _=>?_|refine Af ?_ fun _=>?_|refine Aa ?_ fun _=>?_)|exact trivial
 all_goals
  try simp only[Az] at *
  try simp only[BA,fFormatInt,fInRange,Dv,std,Nat.reduceAdd,fFormatInt,fInRange,inRange,u8_in] at *
  try simp only[Qa1,Qe7,Qa9,Qb2] at *
 all_goals first|(refine HS ?_;omega)|exact⟨by omega,by omega,by omega,by decide,rfl,rfl⟩|(obtain⟨a1,a2,a3,a4,a5,a6⟩:=i2;have hq:=AgM y2.2.1.toNat (by omega))
 all_goals first|omega|skip
 all_goals try rw[Qb6 (l:=toL s) (i:=y2.2.1.toNat) (by rw[Bx];omega)] at a5 a6
 all_goals first|(rw[<-a6];exact⟨by omega,by omega⟩)|(refine HS ?_;rintro⟨q1,q2,q3,q4,q5⟩;rw[<-a6] at *;first|omega|contradiction)|(rw[a6];exact PE ⟨by omega,by omega,a5,by omega,by rw[<-a6];assumption⟩)|skip
 all_goals first|(refine HS ?_;rintro⟨q1,q2,q3,q4,q5⟩;rw[WK (i:=y2.2.1.toNat) (by omega) (by unfold digit;simp only[Qb2];omega)] at q3;cases q3)|skip
 all_goals rw[VN (by omega),Ah (n:=10*y2.1) (by omega),Ah (n:=y2.2.1+1) (by omega),Ah (by omega),show(y2.2.1+1).toNat=y2.2.1.toNat+1 by omega,JU (by omega),List.all_append,Lr,Int.pow_succ]
 all_goals refine⟨⟨by omega,by omega,by omega,by omega,?_,by rw[<-a6]⟩,by omega⟩
 all_goals (rw[a5];simp only[List.all_cons,List.all_nil,digit,Bool.and_true,Bool.true_and,Qa9];omega))
theorem VC {b:UInt8}:∀ {l:List UInt8},Ey b l=none->b∉l
 | [],_,h=>by cases h
 | x::l,hc,h=>by
  rw[Ey] at hc;split at hc
  ·cases hc
  ·rename_i hx;rcases Qd3.1 h with e|h
   ·exact hx e.symm
   ·exact VC (Option.map_eq_none_iff.1 hc) h
def ruleOf (w:ByteArray):Option SRule:=match Ey 58 (toL w) with
 | none=>none
 | some r=>if isName (ofL r.1)=true/\(parseInt (ofL r.2)).2=true/\1<=(parseInt (ofL r.2)).1/\(parseInt (ofL r.2)).1<=999 then some ⟨ofL r.1,(parseInt (ofL r.2)).1⟩ else none
def parseRules:List ByteArray->List SRule->List SRule
 | [],acc=>acc
 | w::l,acc=>parseRules l (if acc.length<8 then acc++(ruleOf w).toList else acc)
theorem Ix {l:List ByteArray} {i:Nat} {acc:List SRule} (h:i<l.length):parseRules (l.drop i) acc=parseRules (l.drop (i+1)) (if acc.length<8 then acc++(ruleOf (l.getD i default)).toList else acc):=by rw[drop_cons h];rfl
theorem Hx {l:List ByteArray} {i:Nat} {acc:List SRule} (h:l.length<=i):parseRules (l.drop i) acc=acc:=by rw[Qb9 h];rfl
theorem GK:∀ {l:List ByteArray} {acc:List SRule},¬ acc.length<8->parseRules l acc=acc
 | [],_,_=>rfl
 | w::l,acc,h=>by rw[parseRules,Qa3 h];exact GK h
theorem ZG (w:ByteArray):ruleOf w=if(spl 58 w).length=2/\isName ((spl 58 w).getD 0 default)=true/\(parseInt ((spl 58 w).getD 1 default)).2=true/\1<=(parseInt ((spl 58 w).getD 1 default)).1/\(parseInt ((spl 58 w).getD 1 default)).1<=999 then some ⟨(spl 58 w).getD 0 default,(parseInt ((spl 58 w).getD 1 default)).1⟩ else none:=by
 unfold ruleOf;rw[F4];cases h:Ey 58 (toL w) with
 | none=>simp
 | some r=>
  obtain⟨p,q⟩:=r;simp only[Qa6];by_cases hq:(58:UInt8)∈q
  ·have hd:(parseInt (ofL q)).2=false:=by unfold parseInt;rw[Qa3];rintro⟨q1,q2,q3,_⟩;rw[IZ,Qc4] at q3;have:=q3 58 hq;cases this
   have hl:(spl 58 (ofL q)).length≠1:=by
    intro hl;rw[F4,IZ] at hl;cases hc:Ey 58 q with
    | none=>exact VC hc hq
    | some r2=>
     rw[hc] at hl;have:=(DH 58 (ofL r2.2)).1;simp only[Qa6] at hl;omega
   rw[Qa3 (by rw[hd];simp),Qa3 (by omega)]
  ·have hs:spl 58 (ofL q)=[ofL q]:=by
    rw[F4,IZ];cases hc:Ey 58 q with
    | none=>rfl
    | some r2=>exact absurd (JL (p:=r2.1) (q:=r2.2) hc) hq
   rw[hs];simp
def parseSheet (s:ByteArray):SSheet:=⟨parseRules (spl 59 s) []⟩
def fParseSheet:Fct:=⟨[.v (.el .str)],[.el .sheet],fun(x_:ByteArray×Unit)=>x_.1.size<=4200000000,fun(x_:ByteArray×Unit)=>(parseSheet x_.1,())⟩
abbrev B0 (s:ByteArray):LInv:=⟨[⟨.b,3,true,.el .sheet⟩,⟨.s,5,true,.el .int⟩,⟨.b,2,true,.el .sheet⟩,⟨.s,4,true,.sl .str⟩],fun(z_ x_:SSheet×Int×SSheet×(List ByteArray)×Unit)=>((0<=x_.2.1/\x_.2.1<=(spl 59 s).length/\x_.1.rules.length<=8/\parseRules ((spl 59 s).drop x_.2.1.toNat) x_.1.rules=parseRules (spl 59 s) [])/\x_.2.2.1=z_.2.2.1)/\x_.2.2.2.1=z_.2.2.2.1,fun(x_:SSheet×Int×SSheet×(List ByteArray)×Unit)=>(spl 59 s).length-x_.2.1.toNat⟩
def Akw:=AjL.a fParseSheet<|Fct.p (KP [0,2,3,4,5,6,7,8] [21,38,50]) (fun⟨s,_⟩=>lv [(4,B0 s)]) AjL.2 func399 (by
 rintro⟨(s:ByteArray),_⟩ hp;refine ho (let q4_:=Value.string s=Value.string s;.cl CH (s,(59:Int),()) fun z2=>lpx (B0 s) (default,((0:Int),(default,(z2.1,())))) fun(y2:SSheet×Int×SSheet×List ByteArray×PUnit) bk2=>let q5_:Out:=.lf fParseSheet (y2.1,());let q0_:Out:=.ob q4_<|.ob (bk2 (y2.1,(w1 y2.2.1,(y2.2.2.1,(y2.2.2.2.1,())))))<|.ok;.br (decide (y2.2.1<(y2.2.2.2.1.length:Int))) (.br (decide ((y2.1.rules.length:Int)<8)) (.ob (inB y2.2.1 y2.2.2.2.1.length)<|.ob (y2.2.1.toNat<y2.2.2.2.1.length)<|.cl CH (y2.2.2.2.1.getD y2.2.1.toNat default,(58:Int),()) fun z3=>let q2_:=(z3.1.length:Int);let q1_:=(0:Int)<=(0:Int)/\(0:Int)<q2_;.br (q2_ != 2) q0_ (.ob q1_<|.ob (0<z3.1.length)<|.cl fIsName (z3.1.getD 0 default,()) fun z4=>.br (!z4.1) q0_ (.ob ((0:Int)<=(1:Int)/\(1:Int)<q2_)<|.ob (1<z3.1.length)<|.cl Dv (z3.1.getD 1 default,()) fun(z5:Int×Bool×PUnit)=>let q3_:=(⟨z3.1.getD 0 default,z5.1⟩:SRule);.br (z5.2.1) (.cl fInRange (z5.1,(1:Int),(999:Int),()) fun z6=>.br (z6.1) (.ob q1_<|.ob (0<z3.1.length)<|.ob (True)<|.ob (BM (y2.1.rules.length+[q3_].length) 24)<|.ob q4_<|.ob (bk2 ((⟨y2.1.rules++[q3_]⟩:SSheet),(w1 y2.2.1,(y2.2.2.1,(y2.2.2.2.1,())))))<|.ok) q0_) q0_))) q5_) q5_) ?_;refine Af ?_ fun o1=>(Ay ?_ fun(y2:SSheet×Int×SSheet×List ByteArray×PUnit) i2=>Ab (fun h3=>Ab (fun h4=>Aa ?_ fun o5=>Aa ?_ fun o6=>Af ?_ fun o7=>(Ab (fun h8=>Aa rfl fun _=>Aa ?_ fun o9=>trivial) (fun h8=>Aa ?_ fun o10=>Aa ?_ fun o11=>Af ?_ fun o12=>(Ab (fun h13=>Aa rfl fun _=>Aa ?_ fun o14=>trivial) (fun h13=>Aa ?_ fun o15=>Aa ?_ fun o16=>Af ?_ fun o17=>(Ab (fun h18=>Af trivial fun _=>(Ab (fun h19=>Aa ?_ fun o20=>Aa ?_ fun o21=>Aa trivial fun _=>Aa ?_ fun o22=>Aa rfl fun _=>Aa ?_ fun o23=>trivial) (fun h19=>Aa rfl fun _=>Aa ?_ fun o24=>trivial))) (fun h18=>Aa rfl fun _=>Aa ?_ fun o25=>trivial))))))) (fun h4=>lfY ?_)) (fun h3=>lfY ?_))
 all_goals
  have hk:=DH 59 s;have hm:∀ i,i<(spl 59 s).length->((spl 59 s).getD i default).size<=s.size:=fun i h=>HR (Bl h)
  have hp1:s.size<=4200000000:=hp;try simp only[Az] at *
  try simp only[B0,fInRange,fIsName,Dv,fParseSheet,CH,std,Nat.reduceAdd,CH,fIsName,Dv,fInRange,inRange,show UInt8.ofNat (Int.toNat 59)=59 from rfl,show UInt8.ofNat (Int.toNat 58)=58 from rfl] at *
 all_goals first|trivial|omega|exact⟨by omega,by decide,by decide⟩|exact⟨by omega,by omega,by decide,rfl⟩|(obtain⟨⟨⟨a1,a2,a3,a4⟩,a5⟩,a6⟩:=i2;simp only[a6,Qa1,Qe7,Qa9,Qb2] at *)
 all_goals
  try have hw:=hm y2.2.1.toNat (by omega)
  try have hw0:=DV 58 ((spl 59 s).getD y2.2.1.toNat default) 0
  try have hw1:=DV 58 ((spl 59 s).getD y2.2.1.toNat default) 1
 all_goals first|trivial|omega|exact⟨by omega,by decide,by decide⟩|exact⟨by omega,by omega⟩|skip
 all_goals first|(rw[Hx (by omega)] at a4;show y2.1=parseSheet s;unfold parseSheet;rw[<-a4])|(rw[GK (by omega)] at a4;show y2.1=parseSheet s;unfold parseSheet;rw[<-a4])|skip
 all_goals have e:=Ix (l:=spl 59 s) (i:=y2.2.1.toNat) (acc:=y2.1.rules) (by omega)
 all_goals rw[a4,Qa2 (by omega),ZG] at e
 all_goals rw[Ah (by omega),show(y2.2.1+1).toNat=y2.2.1.toNat+1 by omega]
 all_goals first|(rw[Qa3 (by rintro⟨q1,q2,q3,q4,q5⟩;first|omega|exact absurd (q2.symm.trans (show isName _=false by assumption)) (by decide)|exact absurd (q3.symm.trans (show Prod.snd _=false by assumption)) (by decide)),Option.toList_none,Qd7] at e;exact⟨⟨⟨⟨by omega,by omega,by omega,e.symm⟩,by assumption⟩,trivial⟩,by omega⟩)|(rw[Qa2 (by exact⟨by omega,by assumption,by assumption,by omega,by omega⟩),Option.toList_some] at e;exact⟨⟨⟨⟨by omega,by omega,by rw[Qa4];simp only[Qa6,Qb5];omega,e.symm⟩,by assumption⟩,trivial⟩,by omega⟩)|skip)
def openIdx {α:Type} (f:α->Bool):List α->Int->List Int
 | [],_=>[]
 | x::l,k=>if f x then k::openIdx f l (k+1) else openIdx f l (k+1)
theorem openIdx_at {α:Type} [Inhabited α] {f:α->Bool} {l:List α} {i:Nat} {k:Int} (h:i<l.length):openIdx f (l.drop i) k=if f (l.getD i default) then k::openIdx f (l.drop (i+1)) (k+1) else openIdx f (l.drop (i+1)) (k+1):=by rw[drop_cons h];rfl
theorem openIdx_end {α:Type} {f:α->Bool} {l:List α} {i:Nat} {k:Int} (h:l.length<=i):openIdx f (l.drop i) k=[]:=by rw[Qb9 h];rfl
theorem EL {α:Type} (f:α->Bool):∀ (l:List α) (k:Int) (x:Int),x∈openIdx f l k->k<=x/\x<k+l.length
 | [],k,x,h=>by cases h
 | a::l,k,x,h=>by
  rw[openIdx] at h;have ih:=EL f l (k+1) x;simp only[Qa6];split at h
  ·rcases Qd3.1 h with rfl|h
   ·omega
   ·have:=ih h;omega
  ·have:=ih h;omega
theorem Dr {α:Type} (f:α->Bool):∀ (l:List α) (k:Int),(openIdx f l k).length<=l.length
 | [],k=>Qb0 _
 | a::l,k=>by have:=Dr f l (k+1);rw[openIdx];split<;>simp only[Qa6]<;>omega
def openSlots (p:SPage):List Int:=openIdx (fun s=>!s.done) p.bf 0
def openMods (p:SPage):List Int:=openIdx (fun m=>!m.done) p.bh 0
def Bk:Fct:=⟨[.v (.el .page)],[.sl .int],fun(x_:SPage×Unit)=>x_.1.bf.length<=1000000000000,fun(x_:SPage×Unit)=>(openSlots x_.1,())⟩
abbrev Cm (p:SPage):LInv:=⟨[⟨.s,3,true,.sl .int⟩,⟨.s,4,true,.el .int⟩,⟨.b,1,false,.el .page⟩],fun(z_ x_:(List Int)×Int×SPage×Unit)=>(0<=x_.2.1/\x_.2.1<=p.bf.length/\x_.1.length<=x_.2.1/\x_.1++openIdx (fun s=>!s.done) (p.bf.drop x_.2.1.toNat) x_.2.1=openSlots p)/\x_.2.2.1=z_.2.2.1,fun(x_:(List Int)×Int×SPage×Unit)=>p.bf.length-x_.2.1.toNat⟩
def Ajg:=Akw.a Bk<|Fct.p (KP [1,2,3,4] [10,19]) (fun⟨p,_⟩=>lv [(3,Cm p)]) Akw.2 func153 (by
 rintro⟨(p:SPage),_⟩ hp;refine ho (lpx (Cm p) ([],((0:Int),(p,()))) fun(y1:List Int×Int×SPage×PUnit) bk1=>.br (decide (y1.2.1<(y1.2.2.1.bf.length:Int))) (.ob (inB y1.2.1 y1.2.2.1.bf.length)<|.br (!(y1.2.2.1.bf.getD y1.2.1.toNat default).done) (.ob (True)<|.ob (BM (y1.1.length+[y1.2.1].length) 8)<|.ob (bk1 (y1.1++[y1.2.1],(w1 y1.2.1,(y1.2.2.1,()))))<|.ok) (.ob (bk1 (y1.1,(w1 y1.2.1,(y1.2.2.1,()))))<|.ok)) (.lf Bk (y1.1,()))) ?_;refine Ay ?_ fun(y1:List Int×Int×SPage×PUnit) i1=>Ab (fun h2=>Aa ?_ fun o3=>Ab (fun h4=>Aa trivial fun _=>Aa ?_ fun o5=>Aa ?_ fun o6=>trivial) (fun h4=>Aa ?_ fun o7=>trivial)) (fun h2=>lfY ?_)
 all_goals
  have h0:openIdx (fun s:SSlot=>!s.done) (p.bf.drop 0) 0=openSlots p:=rfl;try simp only[Az] at *
  try simp only[Cm,Bk,std,Nat.reduceAdd,openIdx_at,openIdx_end,Qa4,Qa6,Qb5,Qb4] at *
  try simp(disch:=omega) only[wrapId',toNat1] at *
  try simp(disch:=omega) only[Qa2,Qa3]
 all_goals first|trivial|omega|grind[wrapId',toNat1,drop_cons,drop_end,good_len,maxLen,openIdx_at,openIdx_end,List.length_append,List.length_cons,List.length_nil,List.append_assoc])
abbrev Ck (p:SPage):LInv:=⟨[⟨.s,3,true,.sl .int⟩,⟨.s,10,true,.el .int⟩],fun _ (x_:(List Int)×Int×Unit)=>0<=x_.2.1/\x_.2.1<=p.bf.length/\x_.1.length<=x_.2.1/\x_.1++openIdx (fun s=>!s.done) (p.bf.drop x_.2.1.toNat) x_.2.1=openSlots p,fun(x_:(List Int)×Int×Unit)=>p.bf.length-x_.2.1.toNat⟩
def AjS:=Ajg.a Bk<|Fct.p (KP [1,2,3,4,5,8,9,10] [11,17]) (fun⟨p,_⟩=>lv [(3,Ck p)]) Ajg.2 func108 (by
 rintro⟨(p:SPage),_⟩ hp;refine ho (lpx (Ck p) ([],((0:Int),())) fun(y1:List Int×Int×PUnit) bk1=>.br (decide (y1.2.1<(p.bf.length:Int))) (.ob (inB y1.2.1 p.bf.length)<|.br (!(p.bf.getD y1.2.1.toNat default).done) (.ob (True)<|.ob (BM (y1.1.length+[y1.2.1].length) 8)<|.ob (p.bf=p.bf)<|.ob (Value.int IntKind.i64 (p.bf.length:Int)=Value.int IntKind.i64 (p.bf.length:Int))<|.ob (bk1 (y1.1++[y1.2.1],(w1 y1.2.1,())))<|.ok) (.ob (p.bf=p.bf)<|.ob (Value.int IntKind.i64 (p.bf.length:Int)=Value.int IntKind.i64 (p.bf.length:Int))<|.ob (bk1 (y1.1,(w1 y1.2.1,())))<|.ok)) (.lf Bk (y1.1,()))) ?_;refine Ay ?_ fun(y1:List Int×Int×PUnit) i1=>Ab (fun h2=>Aa ?_ fun o3=>Ab (fun h4=>Aa trivial fun _=>Aa ?_ fun o5=>Aa rfl fun _=>Aa rfl fun _=>Aa ?_ fun o6=>trivial) (fun h4=>Aa rfl fun _=>Aa rfl fun _=>Aa ?_ fun o7=>trivial)) (fun h2=>lfY ?_)
 all_goals
  have h0:openIdx (fun s:SSlot=>!s.done) (p.bf.drop 0) 0=openSlots p:=rfl;try simp only[Az] at *
  try simp only[Ck,Bk,std,Nat.reduceAdd,openIdx_at,openIdx_end,Qa4,Qa6,Qb5,Qb4] at *
  try simp(disch:=omega) only[wrapId',toNat1] at *
  try simp(disch:=omega) only[Qa2,Qa3]
 all_goals first|trivial|omega|grind[wrapId',toNat1,drop_cons,drop_end,good_len,maxLen,openIdx_at,openIdx_end,List.length_append,List.length_cons,List.length_nil,List.append_assoc])
def BT:Fct:=⟨[.v (.el .page)],[.sl .int],fun(x_:SPage×Unit)=>x_.1.bh.length<=1000000000000,fun(x_:SPage×Unit)=>(openMods x_.1,())⟩
abbrev CL (p:SPage):LInv:=⟨[⟨.s,3,true,.sl .int⟩,⟨.s,4,true,.el .int⟩,⟨.b,1,false,.el .page⟩],fun(z_ x_:(List Int)×Int×SPage×Unit)=>(0<=x_.2.1/\x_.2.1<=p.bh.length/\x_.1.length<=x_.2.1/\x_.1++openIdx (fun m=>!m.done) (p.bh.drop x_.2.1.toNat) x_.2.1=openMods p)/\x_.2.2.1=z_.2.2.1,fun(x_:(List Int)×Int×SPage×Unit)=>p.bh.length-x_.2.1.toNat⟩
def Alk:=AjS.a BT<|Fct.p (KP [1,2,3,4] [10,19]) (fun⟨p,_⟩=>lv [(3,CL p)]) AjS.2 func155 (by
 rintro⟨(p:SPage),_⟩ hp;refine ho (lpx (CL p) ([],((0:Int),(p,()))) fun(y1:List Int×Int×SPage×PUnit) bk1=>.br (decide (y1.2.1<(y1.2.2.1.bh.length:Int))) (.ob (inB y1.2.1 y1.2.2.1.bh.length)<|.br (!(y1.2.2.1.bh.getD y1.2.1.toNat default).done) (.ob (True)<|.ob (BM (y1.1.length+[y1.2.1].length) 8)<|.ob (bk1 (y1.1++[y1.2.1],(w1 y1.2.1,(y1.2.2.1,()))))<|.ok) (.ob (bk1 (y1.1,(w1 y1.2.1,(y1.2.2.1,()))))<|.ok)) (.lf BT (y1.1,()))) ?_;refine Ay ?_ fun(y1:List Int×Int×SPage×PUnit) i1=>Ab (fun h2=>Aa ?_ fun o3=>Ab (fun h4=>Aa trivial fun _=>Aa ?_ fun o5=>Aa ?_ fun o6=>trivial) (fun h4=>Aa ?_ fun o7=>trivial)) (fun h2=>lfY ?_)
 all_goals
  have h0:openIdx (fun m:SModule=>!m.done) (p.bh.drop 0) 0=openMods p:=rfl;try simp only[Az] at *
  try simp only[CL,BT,std,Nat.reduceAdd,openIdx_at,openIdx_end,Qa4,Qa6,Qb5,Qb4] at *
  try simp(disch:=omega) only[wrapId',toNat1] at *
  try simp(disch:=omega) only[Qa2,Qa3]
 all_goals first|trivial|omega|grind[wrapId',toNat1,drop_cons,drop_end,good_len,maxLen,openIdx_at,openIdx_end,List.length_append,List.length_cons,List.length_nil,List.append_assoc])
abbrev CM (p:SPage):LInv:=⟨[⟨.s,3,true,.sl .int⟩,⟨.s,10,true,.el .int⟩],fun _ (x_:(List Int)×Int×Unit)=>0<=x_.2.1/\x_.2.1<=p.bh.length/\x_.1.length<=x_.2.1/\x_.1++openIdx (fun m=>!m.done) (p.bh.drop x_.2.1.toNat) x_.2.1=openMods p,fun(x_:(List Int)×Int×Unit)=>p.bh.length-x_.2.1.toNat⟩
def Alc:=Alk.a BT<|Fct.p (KP [1,2,3,4,5,8,9,10] [11,17]) (fun⟨p,_⟩=>lv [(3,CM p)]) Alk.2 func110 (by
 rintro⟨(p:SPage),_⟩ hp;refine ho (lpx (CM p) ([],((0:Int),())) fun(y1:List Int×Int×PUnit) bk1=>.br (decide (y1.2.1<(p.bh.length:Int))) (.ob (inB y1.2.1 p.bh.length)<|.br (!(p.bh.getD y1.2.1.toNat default).done) (.ob (True)<|.ob (BM (y1.1.length+[y1.2.1].length) 8)<|.ob (p.bh=p.bh)<|.ob (Value.int IntKind.i64 (p.bh.length:Int)=Value.int IntKind.i64 (p.bh.length:Int))<|.ob (bk1 (y1.1++[y1.2.1],(w1 y1.2.1,())))<|.ok) (.ob (p.bh=p.bh)<|.ob (Value.int IntKind.i64 (p.bh.length:Int)=Value.int IntKind.i64 (p.bh.length:Int))<|.ob (bk1 (y1.1,(w1 y1.2.1,())))<|.ok)) (.lf BT (y1.1,()))) ?_;refine Ay ?_ fun(y1:List Int×Int×PUnit) i1=>Ab (fun h2=>Aa ?_ fun o3=>Ab (fun h4=>Aa trivial fun _=>Aa ?_ fun o5=>Aa rfl fun _=>Aa rfl fun _=>Aa ?_ fun o6=>trivial) (fun h4=>Aa rfl fun _=>Aa rfl fun _=>Aa ?_ fun o7=>trivial)) (fun h2=>lfY ?_)
 all_goals
  have h0:openIdx (fun m:SModule=>!m.done) (p.bh.drop 0) 0=openMods p:=rfl;try simp only[Az] at *
  try simp only[CM,BT,std,Nat.reduceAdd,openIdx_at,openIdx_end,Qa4,Qa6,Qb5,Qb4] at *
  try simp(disch:=omega) only[wrapId',toNat1] at *
  try simp(disch:=omega) only[Qa2,Qa3]
 all_goals first|trivial|omega|grind[wrapId',toNat1,drop_cons,drop_end,good_len,maxLen,openIdx_at,openIdx_end,List.length_append,List.length_cons,List.length_nil,List.append_assoc])
def allowsInline (p:SPolicy) (n:ByteArray):Bool:=!p.set_||(!decide (p.nonce=⟨#[]⟩)&&decide (p.nonce=n))
def fAllowsInline:Fct:=⟨[.v (.el .bj),.v (.el .str)],[.el .bool],fun(x_:SPolicy×ByteArray×Unit)=>True,fun(x_:SPolicy×ByteArray×Unit)=>(allowsInline x_.1 x_.2.1,())⟩
theorem q17 (p:SPolicy) (n:ByteArray) (hp:fAllowsInline.pre (p,n,())):Out.holds (fAllowsInline.ctr (p,n,())).post (.br (!p.set_) (.lf fAllowsInline (true,())) (.br (!p.nonce.toList==(⟨#[]⟩:ByteArray).toList) (.lf fAllowsInline (p.nonce.toList==ByteArray.toList n,())) (.lf fAllowsInline (false,())))):=by
 refine Ab (fun h1=>lfY ?_) (fun h1=>Ab (fun h2=>lfY ?_) (fun h2=>lfY ?_));all_goals
  try simp only[Az] at *
  try simp only[fAllowsInline,std,Nat.reduceAdd,allowsInline] at *
  try simp(disch:=omega) only[wrapId',toNat1] at *
  try simp(disch:=omega) only[Qa2,Qa3]
 all_goals first|trivial|omega|grind[wrapId',toNat1,drop_cons,drop_end,good_len,maxLen,allowsInline]
def AjT:=Alc.a fAllowsInline<|Fct.o [1,2,4] Alc.2 func406 (by
 rintro⟨(p:SPolicy),(n:ByteArray),_⟩ hp;exact ho _ (q17 p n hp))
def AlG:=AjT.a fAllowsInline<|Fct.o [1,2,4] AjT.2 func376 (by
 rintro⟨(p:SPolicy),(n:ByteArray),_⟩ hp;exact ho _ (q17 p n hp))
def isVoid (n:ByteArray):Bool:=decide (n=⟨#[105,109,103]⟩)||decide (n=⟨#[108,105,110,107]⟩)
def Em:Fct:=⟨[.v (.el .str)],[.el .bool],fun(x_:ByteArray×Unit)=>True,fun(x_:ByteArray×Unit)=>(isVoid x_.1,())⟩
theorem q18 (n:ByteArray) (hp:Em.pre (n,())):Out.holds (Em.ctr (n,())).post (.br (ByteArray.toList n==(⟨#[105,109,103]⟩:ByteArray).toList) (.lf Em (true,())) (.lf Em (ByteArray.toList n==(⟨#[108,105,110,107]⟩:ByteArray).toList,()))):=by
 refine Ab (fun h1=>lfY ?_) (fun h1=>lfY ?_);all_goals
  try simp only[Az] at *
  try simp only[Em,std,Nat.reduceAdd,isVoid] at *
  try simp(disch:=omega) only[wrapId',toNat1] at *
  try simp(disch:=omega) only[Qa2,Qa3]
 all_goals first|trivial|omega|grind[wrapId',toNat1,drop_cons,drop_end,good_len,maxLen,isVoid]
def Aix:=AlG.a Em<|Fct.o [0,2] AlG.2 func403 (by
 rintro⟨(n:ByteArray),_⟩ hp;exact ho _ (q18 n hp))
def AhL:=Aix.a Em<|Fct.o [0,2] Aix.2 func373 (by
 rintro⟨(n:ByteArray),_⟩ hp;exact ho _ (q18 n hp))
def sheetsOf (l:List SSlot):List SSheet:=(l.filter fun s=>decide (s.mode=2)&&(s.done&&decide (s.code=1))).map fun s=>parseSheet s.body
theorem sheetsOf_at {l:List SSlot} {i:Nat} (h:i<l.length):sheetsOf (l.drop i)=if(l.getD i default).mode=2/\(l.getD i default).done=true/\(l.getD i default).code=1 then parseSheet (l.getD i default).body::sheetsOf (l.drop (i+1)) else sheetsOf (l.drop (i+1)):=by
 rw[drop_cons h];unfold sheetsOf;rw[List.filter_cons];by_cases hc:(l.getD i default).mode=2/\(l.getD i default).done=true/\(l.getD i default).code=1
 ·rw[Qa2 hc,Qa2 (by rw[Qf3 hc.1,hc.2.1,Qf3 hc.2.2];rfl)];rfl
 ·rw[Qa3 hc,Qa3 (by intro q;simp only[Qa1,Qa9] at q;exact hc q)]
theorem sheetsOf_end {l:List SSlot} {i:Nat} (h:l.length<=i):sheetsOf (l.drop i)=[]:=by rw[Qb9 h];rfl
def okBod (p:SPage):Prop:=∀ i,i<p.bf.length->(p.bf.getD i default).body.size<=4200000000
def CG:Fct:=⟨[.v (.el .page)],[.sl .sheet],fun(x_:SPage×Unit)=>szL AF x_.1.bf<=1000000000000/\okBod x_.1,fun(x_:SPage×Unit)=>(sheetsOf x_.1.bf,())⟩
abbrev CF (p:SPage):LInv:=⟨[⟨.s,3,true,.sl .sheet⟩,⟨.s,4,true,.el .int⟩,⟨.b,1,false,.el .page⟩],fun(z_ x_:(List SSheet)×Int×SPage×Unit)=>(0<=x_.2.1/\x_.2.1<=p.bf.length/\x_.1.length<=x_.2.1/\x_.1++sheetsOf (p.bf.drop x_.2.1.toNat)=sheetsOf p.bf)/\x_.2.2.1=z_.2.2.1,fun(x_:(List SSheet)×Int×SPage×Unit)=>p.bf.length-x_.2.1.toNat⟩
def AlY:=AhL.a CG<|Fct.p (KP [1,2,3,4,5] [11,30]) (fun⟨p,_⟩=>lv [(3,CF p)]) AhL.2 func355 (by
 rintro⟨(p:SPage),_⟩ hp;refine ho (lpx (CF p) ([],((0:Int),(p,()))) fun(y1:List SSheet×Int×SPage×PUnit) bk1=>let q1_:Out:=.ob (bk1 (y1.1,(w1 y1.2.1,(y1.2.2.1,()))))<|.ok;let q0_:=y1.2.2.1.bf.getD y1.2.1.toNat default;.br (decide (y1.2.1<(y1.2.2.1.bf.length:Int))) (.ob (inB y1.2.1 y1.2.2.1.bf.length)<|.br (q0_.mode==2) (.br (q0_.done) (.br (q0_.code==1) (.cl fParseSheet (q0_.body,()) fun z2=>.ob (BM (y1.1.length+[z2.1].length) 24)<|.ob (bk1 (y1.1++[z2.1],(w1 y1.2.1,(y1.2.2.1,()))))<|.ok) q1_) q1_) q1_) (.lf CG (y1.1,()))) ?_;refine Ay ?_ fun(y1:List SSheet×Int×SPage×PUnit) i1=>Ab (fun h2=>Aa ?_ fun o3=>Ab (fun h4=>Ab (fun h5=>Ab (fun h6=>Af ?_ fun o7=>(Aa ?_ fun o8=>Aa ?_ fun o9=>trivial)) (fun h6=>Aa ?_ fun o10=>trivial)) (fun h5=>Aa ?_ fun o11=>trivial)) (fun h4=>Aa ?_ fun o12=>trivial)) (fun h2=>lfY ?_)
 all_goals
  have h0:sheetsOf (p.bf.drop 0)=sheetsOf p.bf:=rfl;have hl:=Ad AF p.bf;have hg:∀ i,i<p.bf.length->(p.bf.getD i default).body.size<=4200000000:=hp.2;have hg2:szL AF p.bf<=1000000000000:=hp.1;clear hp;try simp only[Az] at *
  try simp only[CF,fParseSheet,CG,std,Nat.reduceAdd,fParseSheet,sheetsOf_at,sheetsOf_end,Qa4,Qa6,Qb5,Qb4] at *
  try simp(disch:=omega) only[wrapId',toNat1] at *
  try simp(disch:=omega) only[Qa2,Qa3]
 all_goals first|trivial|omega|grind[wrapId',toNat1,drop_cons,drop_end,good_len,maxLen,fParseSheet,sheetsOf_at,sheetsOf_end,List.length_append,List.length_cons,List.length_nil,List.append_assoc])
theorem Wq {w:ByteArray} {r:SRule} (h:ruleOf w=some r):r.name.size<=w.size/\1<=r.color/\r.color<=999:=by
 unfold ruleOf at h;split at h
 ·cases h
 ·rename_i q hq;split at h
  ·rename_i hc;have:=KF (p:=q.1) (q:=q.2) hq;obtain rfl:=Option.some.inj h;rw[Bx] at this;exact⟨by rw[Fa];omega,hc.2.2⟩
  ·cases h
theorem EI:∀ (l:List ByteArray) (acc:List SRule),szL Lf (parseRules l acc)<=szL Lf acc+szL Ac l/\∀ r,r∈parseRules l acc->r∈acc\/1<=r.color/\r.color<=999
 | [],acc=>⟨by rw[parseRules];omega,fun r h=>.inl h⟩
 | w::l,acc=>by
  rw[parseRules,Ax];by_cases hc:acc.length<8
  ·rw[Qa2 hc];cases hr:ruleOf w with
   | none=>
    obtain⟨i1,i2⟩:=EI l acc;rw[Option.toList_none,Qd7];exact⟨by omega,i2⟩
   | some x=>
    obtain⟨i1,i2⟩:=EI l (acc++[x]);have hx:=Wq hr;rw[Option.toList_some];rw[Er] at i1;refine⟨by simp only[Lf,Ac] at *;omega,fun r h=>?_⟩;rcases i2 r h with h|h
    ·rcases Qc0.1 h with h|h
     ·exact .inl h
     ·rw[List.mem_singleton] at h;subst h;exact .inr hx.2
    ·exact .inr h
  ·rw[Qa3 hc];obtain⟨i1,i2⟩:=EI l acc;exact⟨by omega,i2⟩
theorem Oh (s:ByteArray):Dt (parseSheet s)<=s.size+1/\∀ r,r∈(parseSheet s).rules->1<=r.color/\r.color<=999:=by
 obtain⟨h1,h2⟩:=EI (spl 59 s) [];rw[KX] at h1;have h0:szL Lf []=0:=rfl;exact⟨by simp only[Dt,parseSheet];omega,fun r h=>(h2 r h).elim (fun h=>by cases h) id⟩
theorem Ef:∀ (l:List SSlot),szL Dt (sheetsOf l)<=2*szL AF l/\okSheets (sheetsOf l)
 | []=>⟨Nat.zero_le _,fun s h=>by cases h⟩
 | x::l=>by
  obtain⟨i1,i2⟩:=Ef l;have e:=sheetsOf_at (l:=x::l) (i:=0) (by simp);rw[Qf0] at e;rw[e,Ax];split
  ·have hp:=Oh x.body;refine⟨?_,fun s h=>?_⟩
   ·rw[Ax];simp only[AF] at *;show Dt (parseSheet x.body)+1+szL Dt (sheetsOf l)<=_;omega
   ·rcases Qd3.1 h with rfl|h
    ·intro r hr;have:=hp.2 r hr;omega
    ·exact i2 s h
  ·exact⟨by show szL Dt (sheetsOf l)<=_;omega,i2⟩
theorem Kz (s:ByteArray):∀ (l:List ByteArray) (k:Int),(line8L s l k).2=true->(line8L s l k).1.text.size<=60
 | [],k,h=>by cases h
 | w::l,k,h=>by
  rw[line8L] at h ⊢;split
  ·rename_i hc;rw[Qa2 hc] at h;dsimp only at h ⊢;split at h
   ·have:=Qf9 h;rw[Qc3];omega
   ·have:=CN h;omega
  ·rename_i hc;rw[Qa3 hc] at h;exact Kz s l _ h
theorem Es (s:ByteArray):szL CW (parseScript s).1<=366/\(parseScript s).1.length<=6:=by
 unfold parseScript;split
 ·exact⟨by decide,by decide⟩
 ·split
  ·rename_i hc;have hs:∀ l:List ByteArray,allOk8 l=true->szL CW (lines8 l)<=61*l.length:=by
    intro l
    induction l with
    | nil=>intro _;decide
    | cons w l ih=>
     intro h;simp only[allOk8,List.all_cons,Qa1] at h;have:=ih h.2;have h2:=Kz w _ _ h.1;show szL CW ((line8 w).1::lines8 l)<=_;rw[Ax];simp only[CW,Qa6,line8] at *;omega
   have:=hs _ hc.2;exact⟨by dsimp only;omega,by dsimp only;rw[lines8,Qf5];exact hc.1⟩
  ·exact⟨by decide,by decide⟩
theorem Dp {α:Type} (f:α->Nat):∀ (l m:List α),szL f (l++m)=szL f l+szL f m
 | [],m=>by show szL f m=0+szL f m;omega
 | x::l,m=>by rw[Qf4,Ax,Ax,Dp f l m];omega
def addLog:List ByteArray->List ByteArray->List ByteArray
 | g,[]=>g
 | g,x::l=>if g.length<40 then addLog (g++[x]) l else g
theorem Om {l g:List ByteArray} {i:Nat} (h:i<l.length):addLog g (l.drop i)=if g.length<40 then addLog (g++[l.getD i default]) (l.drop (i+1)) else g:=by rw[drop_cons h];rfl
theorem Mc {l g:List ByteArray} {i:Nat} (h:l.length<=i):addLog g (l.drop i)=g:=by rw[Qb9 h];cases g<;>rfl
theorem F1 {l g:List ByteArray} (h:¬ g.length<40):addLog g l=g:=by
 cases l with
 | nil=>cases g<;>rfl
 | cons x l=>rw[addLog,Qa3 h]
theorem FA (g:List ByteArray):addLog g []=g:=by cases g<;>rfl
def rsOf (p:SPage) (c:ByteArray):SBuilder×ByteArray×List ByteArray:=runScript p.ba (sheetsOf p.bf) (parseScript c).1
def runCode (p:SPage) (c:ByteArray) (w:Bool):SPage :=
 if(parseScript c).2=true then{ p with ba:=(rsOf p c).1,bn:=if w=true then tokensOf (rsOf p c).2.1++p.bn else p.bn,log:=addLog p.log (rsOf p c).2.2 }
 else{ p with log:=addLog p.log [⟨#[101,114,114,111,114]⟩]}
theorem FZ (l:List SSheet):∀ (r:List SLine) (b:SBuilder) (w:ByteArray) (g:List ByteArray),szBuilder (runLines l r b w g).1<=szBuilder b+szL CW r/\(runLines l r b w g).2.1.size<=w.size+szL CW r/\(runLines l r b w g).2.2.length<=g.length+r.length
 | [],b,w,g=>⟨Qg1 _ _,Qg1 _ _,Qg1 _ _⟩
 | x::r,b,w,g=>by
  have h:=IW b l x;have i1:=FZ l r (runLine b l x).1 (w++(runLine b l x).2.1) (if(runLine b l x).2.2=⟨#[]⟩ then g else g++[(runLine b l x).2.2]);rw[runLines,Ax];have hg:(if(runLine b l x).2.2=⟨#[]⟩ then g else g++[(runLine b l x).2.2]).length<=g.length+1:=by split<;>simp
  rw[Qb7] at i1;simp only[Qa6,CW] at *
  exact⟨by omega,by omega,by omega⟩
theorem Yv (p:SPage) (c:ByteArray):szBuilder (rsOf p c).1<=szBuilder p.ba+366/\(rsOf p c).2.1.size<=366/\(rsOf p c).2.2.length<=6:=by
 have h1:=FZ (sheetsOf p.bf) (parseScript c).1 p.ba ⟨#[]⟩ [];have h2:=Es c;have h0:ByteArray.size ⟨#[]⟩=0:=rfl;simp only[rsOf,runScript,Qb5] at *
 omega
theorem F8 (s:ByteArray):szL Aj (tokensOf s)<=s.size+2/\(tokensOf s).length<=s.size+2:=by
 have h1:=LZ s;have h2:=Uv (feedAll s).2;have h3:szL Aj (tokensOf s)<=s.size+2:=by unfold tokensOf;rw[Dp];omega
 exact⟨h3,Qe6 (Ad _ _) h3⟩
def Bv:Fct:=⟨[.v (.el .page),.v (.el .str),.v (.el .bool)],[.el .page],fun(x_:SPage×ByteArray×Bool×Unit)=>szPage x_.1<=1000000000000/\szBuilder x_.1.ba<=40000000000/\szL AF x_.1.bf<=40000000000/\x_.2.1.size<=4200000000/\okBod x_.1,fun(x_:SPage×ByteArray×Bool×Unit)=>(runCode x_.1 x_.2.1 x_.2.2.1,())⟩
abbrev CR (p:SPage) (c:ByteArray) (w:Bool):LInv:=⟨[⟨.b,7,true,.el .page⟩,⟨.s,13,true,.el .int⟩,⟨.b,6,true,.el .page⟩,⟨.s,12,true,.sl .str⟩],fun(z_ x_:SPage×Int×SPage×(List ByteArray)×Unit)=>((0<=x_.2.1/\x_.2.1<=(rsOf p c).2.2.length/\x_.1={ p with ba:=(rsOf p c).1,log:=x_.1.log }/\addLog x_.1.log ((rsOf p c).2.2.drop x_.2.1.toNat)=addLog p.log (rsOf p c).2.2/\x_.1.log.length<=p.log.length+x_.2.1)/\x_.2.2.1=z_.2.2.1)/\x_.2.2.2.1=z_.2.2.2.1,fun(x_:SPage×Int×SPage×(List ByteArray)×Unit)=>(rsOf p c).2.2.length-x_.2.1.toNat⟩
def Ai5:=AlY.a Bv<|Fct.p (KP [1,2,3,6,7,8,9,10,11,12,13] [22,26,54,66]) (fun⟨p,c,w,_⟩=>lv [(10,CR p c w)]) AlY.2 func304 (by
 rintro⟨(p:SPage),(c:ByteArray),(w:Bool),_⟩ hp;refine ho (.cl fCopyPage (p,()) fun z2=>.cl AC (c,()) fun z3=>.br (!z3.2.1) (.br (decide ((z2.1.log.length:Int)<40)) (.ob (True)<|.ob (BM (z2.1.log.length+1) 16)<|.lf Bv ({z2.1 with log:=z2.1.log++[(⟨#[101,114,114,111,114]⟩:ByteArray)]},())) (.lf Bv (z2.1,()))) (.cl CG (p,()) fun z4=>.cl BZ (p.ba,z4.1,z3.1,()) fun z5=>lpx (CR p c w) (({z2.1 with ba:=z5.1}:SPage),((0:Int),(default,(z5.2.2.1,())))) fun(y8:SPage×Int×SPage×List ByteArray×PUnit) bk8=>let q0_:Out:=.br (w) (.cl Dw (z5.2.1,()) fun z6=>.ob (BM (z6.1.length+y8.1.bn.length) 64)<|.lf Bv ({y8.1 with bn:=z6.1++y8.1.bn},())) (.lf Bv (y8.1,()));.br (decide (y8.2.1<(y8.2.2.2.1.length:Int))) (.br (decide ((y8.1.log.length:Int)<40)) (.ob (inB y8.2.1 y8.2.2.2.1.length)<|.ob (y8.2.1.toNat<y8.2.2.2.1.length)<|.ob (True)<|.ob (BM (y8.1.log.length+[y8.2.2.2.1.getD y8.2.1.toNat default].length) 16)<|.ob (Value.string c=Value.string c)<|.ob (Value.bool w=Value.bool w)<|.ob (Value.bool z3.2.1=Value.bool z3.2.1)<|.ob (Value.string z5.2.1=Value.string z5.2.1)<|.ob (bk8 (({y8.1 with log:=y8.1.log++[y8.2.2.2.1.getD y8.2.1.toNat default]}:SPage),(w1 y8.2.1,(y8.2.2.1,(y8.2.2.2.1,())))))<|.ok) q0_) q0_)) ?_;refine Af ?_ fun o1=>(Af ?_ fun o2=>(Ab (fun h3=>Ab (fun h4=>Aa trivial fun _=>Aa ?_ fun o5=>lfY ?_) (fun h4=>lfY ?_)) (fun h3=>Af ?_ fun o6=>(Af ?_ fun o7=>(Ay ?_ fun(y8:SPage×Int×SPage×List ByteArray×PUnit) i8=>Ab (fun h9=>Ab (fun h10=>Aa ?_ fun o11=>Aa ?_ fun o12=>Aa trivial fun _=>Aa ?_ fun o13=>Aa rfl fun _=>Aa rfl fun _=>Aa rfl fun _=>Aa rfl fun _=>Aa ?_ fun o14=>trivial) (fun h10=>Ab (fun h15=>Af ?_ fun o16=>(Aa ?_ fun o17=>lfY ?_)) (fun h15=>lfY ?_))) (fun h9=>Ab (fun h18=>Af ?_ fun o19=>(Aa ?_ fun o20=>lfY ?_)) (fun h18=>lfY ?_)))))))
 all_goals
  have hz:=Yv p c;have hs:=Es c;have hk:=Ef p.bf;have hq:szL Aj p.bn+szBuilder p.ba+szL AF p.bf+szL Ac p.log<=szPage p:=by simp only[szPage];omega
  have hq1:=Ad Aj p.bn;have hq2:=Ad Ac p.log
 all_goals obtain⟨hp1,hp2,hp3,hp4,hp5⟩:=(show szPage p<=1000000000000/\szBuilder p.ba<=40000000000/\szL AF p.bf<=40000000000/\c.size<=4200000000/\okBod p from hp)
 all_goals
  have hrs:runScript p.ba (sheetsOf p.bf) (parseScript c).1=rsOf p c:=rfl;try simp only[Az] at *
  try simp only[CR,fCopyPage,AC,Bv,BZ,CG,Dw,std,Nat.reduceAdd,fCopyPage,AC,BZ,CG,Dw,hrs] at *
 all_goals first|trivial|omega|exact⟨by omega,hp5⟩|exact⟨by omega,by omega,by omega,hk.2⟩|exact⟨by omega,by omega,rfl,rfl,by omega⟩|skip
 all_goals first|(unfold runCode;rw[Qa3 (by rw[show Prod.snd _=false by assumption];decide)];first|rw[addLog,Qa2 (by omega),FA]|(rw[F1 (by omega)]))|skip
 all_goals (obtain⟨⟨⟨a1,a2,a3,a4,a5⟩,a6⟩,a7⟩:=i8;obtain⟨q,i,d,lg,u⟩:=y8;try dsimp only at *;generalize q.log=L at *;subst a3;subst a7;try dsimp only at *)
 all_goals first|trivial|omega|(have:=F8 (rsOf p c).2.1;simp only[BM];omega)|(have:=F8 (rsOf p c).2.1;omega)|skip
 all_goals first|(rw[Mc (by omega)] at a4;unfold runCode;rw[Qa2 (by assumption),<-a4];first|rw[Qa2 (by assumption)]|(rw[Qa3 (by rw[show w=false by assumption];decide)]))|(rw[F1 (by omega)] at a4;unfold runCode;rw[Qa2 (by assumption),<-a4];first|rw[Qa2 (by assumption)]|(rw[Qa3 (by rw[show w=false by assumption];decide)]))|skip
 all_goals (rw[Om (by omega),Qa2 (by omega)] at a4;rw[Ah (by omega),show(i+1).toNat=i.toNat+1 by omega])
 all_goals exact⟨⟨⟨⟨by omega,by omega,rfl,a4,by rw[Qa4];simp only[Qa6,Qb5];omega⟩,a6⟩,rfl⟩,by omega⟩)
def closeN (b:SBuilder) (n:ByteArray):Nat->List Int
 | 0=>b.bl
 | 1=>b.bl
 | m+2=>if 0<=b.bl.getD (m+1) default/\b.bl.getD (m+1) default<b.bi.length/\(b.bi.getD (b.bl.getD (m+1) default).toNat default).name=n then b.bl.take (m+1) else closeN b n (m+1)
theorem Pj {b:SBuilder} {n:ByteArray} {i:Int} (h:1<=i):closeN b n (i+1).toNat=if 0<=b.bl.getD i.toNat default/\b.bl.getD i.toNat default<b.bi.length/\(b.bi.getD (b.bl.getD i.toNat default).toNat default).name=n then b.bl.take i.toNat else closeN b n i.toNat:=by
 obtain⟨m,rfl⟩:∃ m:Nat,i=m+1:=⟨(i-1).toNat,by omega⟩;rw[show((m:Int)+1+1).toNat=m+2 by omega,show((m:Int)+1).toNat=m+1 by omega];rfl
theorem Ms {b:SBuilder} {n:ByteArray} {i:Int} (h:i<=0):closeN b n (i+1).toNat=b.bl:=by
 have h2:(i+1).toNat=0\/(i+1).toNat=1:=by omega
 rcases h2 with h2|h2<;>rw[h2]<;>rfl
def closeB (b:SBuilder) (n:ByteArray):SBuilder:=⟨b.bi,closeN b n b.bl.length⟩
def Ij:GS:=⟨[.g (.el .ba),.l (.v (.el .str))],[.el .ba],fun(x_:SBuilder×ByteArray×Unit)=>szBuilder x_.1<=1000000000000,fun(x_:SBuilder×ByteArray×Unit)=>((closeB x_.1 x_.2.1,()),(()))⟩
abbrev Cz (b:SBuilder) (n:ByteArray):LInv:=⟨[⟨.s,5,true,.el .int⟩,⟨.b,2,true,.el .ba⟩,⟨.b,4,true,.el .ba⟩],fun _ (x_:Int×SBuilder×SBuilder×Unit)=>x_.2.1=b/\-1<=x_.1/\x_.1<b.bl.length/\closeN b n (x_.1+1).toNat=closeN b n b.bl.length,fun(x_:Int×SBuilder×SBuilder×Unit)=>(x_.1+1).toNat⟩
def AlF:=Ai5.G Ij<|GS.of (S:=Ij) (L:=fun⟨b,n,_⟩=>fun|2=>some (Cz b n)|_=>none) (kp:=(KP [1,2,4,5,6] [12,35])) Ai5.2 func402 (by kernel_rfl) (by kernel_rfl) (by
 rintro⟨(b:SBuilder),(n:ByteArray),_⟩ hp;refine ho (lpx (Cz b n) (wr ((b.bl.length:Int)-(1:Int)),(b,(default,()))) fun(y1:Int×SBuilder×SBuilder×PUnit) bk1=>.br (decide (y1.1>0)) (.ob (inB y1.1 y1.2.1.bl.length)<|.ob (y1.1.toNat<y1.2.1.bl.length)<|.cl fInRange (y1.2.1.bl.getD y1.1.toNat default,(0:Int),wr ((y1.2.1.bi.length:Int)-(1:Int)),()) fun z2=>.br (z2.1) (.ob (0<=y1.2.1.bl.getD y1.1.toNat default/\y1.2.1.bl.getD y1.1.toNat default<(y1.2.1.bi.length:Int))<|.ob ((y1.2.1.bl.getD y1.1.toNat default).toNat<y1.2.1.bi.length)<|.br ((y1.2.1.bi.getD (y1.2.1.bl.getD y1.1.toNat default).toNat default).name.toList==n.toList) (.ob (0<=y1.1/\y1.1<=(y1.2.1.bl.length:Int))<|.ob (0+(y1.1.toNat-0)<=y1.2.1.bl.length)<|GS.out Ij ((⟨y1.2.1.bi,cut y1.2.1.bl 0 (y1.1.toNat-0)⟩,()),(()))) (.ob (Value.string n=Value.string n)<|.ob (bk1 (wr (y1.1-(1:Int)),(y1.2.1,(y1.2.2.1,()))))<|.ok)) (.ob (Value.string n=Value.string n)<|.ob (bk1 (wr (y1.1-(1:Int)),(y1.2.1,(y1.2.2.1,()))))<|.ok)) (GS.out Ij ((y1.2.1,()),(())))) ?_;repeat' first|(guard_target =~ Out.holds _ _;first|refine Ay (li:=Cz b n) ?_ fun(y1:Int×SBuilder×SBuilder×PUnit) i1=>?_|refine GS.leafY ?_|refine Ab (fun _=>?_) fun _=>?_|refine Af ?_ fun _=>?_|refine Aa ?_ fun _=>?_)|exact trivial
 all_goals
  have hl:b.bl.length<=1000000000000:=by have h1:szBuilder b<=1000000000000:=hp;simp only[szBuilder] at h1;omega
  have hn:b.bi.length<=1000000000000:=by have h1:szBuilder b<=1000000000000:=hp;have:=Ad szNode b.bi;simp only[szBuilder] at h1;omega
  try simp only[Az] at *
  try simp only[Cz,Ij,fInRange,std,Nat.reduceAdd,fInRange,inRange,closeB] at *
 all_goals try (obtain⟨a0,a1,a2,a3⟩:=i1;simp only[a0] at *)
 all_goals try simp only[Ah (show -9223372036854775808<=(b.bl.length:Int)-1/\(b.bl.length:Int)-1<=9223372036854775807 by omega)] at *
 all_goals first|trivial|omega|(rw[show((b.bl.length:Int)-1+1).toNat=b.bl.length by omega];exact⟨by omega,by omega,rfl⟩)|skip
 all_goals try simp only[Qa1,Qe7,Qa9,Qb2,Ah (show -9223372036854775808<=(b.bi.length:Int)-1/\(b.bi.length:Int)-1<=9223372036854775807 by omega)] at *
 all_goals first|omega|(rw[Ms (by omega)] at a3;rw[<-a3])|skip
 all_goals rw[Pj (by omega)] at a3
 all_goals first|(rw[Qa2 (by exact⟨by omega,by omega,by assumption⟩)] at a3;rw[<-a3];first|rfl|simp[cut])|(rw[Qa3 (by rintro⟨q1,q2,q3⟩;first|omega|exact absurd q3 (by assumption))] at a3;rw[Ah (by omega),show(y1.1-1+1).toNat=y1.1.toNat by omega];exact⟨⟨by first|assumption|trivial,by omega,by omega,a3⟩,by omega⟩))
def lastOpen (b:SBuilder):Int:=b.bl.getD (b.bl.length-1) default
def addToken (b:SBuilder) (t:SToken):SBuilder×Int :=
 if t.kind=2 then(closeB b t.name,-1)
 else if b.bi.length<40/\0<b.bl.length/\(t.kind=1/\isVoid t.name=false->b.bl.length<8)/\(t.kind=1\/t.kind=3/\t.text≠⟨#[]⟩) then
  (if t.kind=1 then⟨b.bi++[⟨t.name,⟨#[]⟩,lastOpen b,t.bo⟩],if isVoid t.name=true then b.bl else b.bl++[(b.bi.length:Int)]⟩ else⟨b.bi++[⟨⟨#[]⟩,t.text,lastOpen b,[]⟩],b.bl⟩,(b.bi.length:Int))
 else(b,-1)
theorem Fo {b:SBuilder} {t:SToken} (h:t.kind=2):addToken b t=(closeB b t.name,-1):=by unfold addToken;rw[Qa2 h]
theorem KR {b:SBuilder} {t:SToken} (h:¬ t.kind=2) (h2:40<=b.bi.length\/b.bl.length=0\/(t.kind=1/\isVoid t.name=false/\8<=b.bl.length)\/(t.kind≠1/\(t.kind≠3\/t.text=⟨#[]⟩))):addToken b t=(b,-1):=by
 unfold addToken;rw[Qa3 h,Qa3];rintro⟨q1,q2,q3,q4⟩;rcases h2 with h2|h2|⟨e1,e2,e3⟩|⟨e1,e2⟩
 ·omega
 ·omega
 ·have:=q3 ⟨e1,e2⟩;omega
 ·rcases q4 with q4|⟨q4,q5⟩
  ·exact e1 q4
  ·rcases e2 with e2|e2
   ·exact e2 q4
   ·exact q5 e2
theorem J6 {b:SBuilder} {t:SToken} (h:t.kind=1) (h1:b.bi.length<40) (h2:0<b.bl.length) (h3:isVoid t.name=true\/b.bl.length<8):addToken b t=(⟨b.bi++[⟨t.name,⟨#[]⟩,lastOpen b,t.bo⟩],if isVoid t.name=true then b.bl else b.bl++[(b.bi.length:Int)]⟩,(b.bi.length:Int)):=by
 unfold addToken;rw[Qa3 (by omega),Qa2 ⟨h1,h2,fun⟨_,e⟩=>h3.elim (fun q=>by rw[e] at q;cases q) id,.inl h⟩,Qa2 h]
theorem K2 {b:SBuilder} {t:SToken} (h:t.kind=3) (h1:b.bi.length<40) (h2:0<b.bl.length) (h3:¬ t.text=⟨#[]⟩):addToken b t=(⟨b.bi++[⟨⟨#[]⟩,t.text,lastOpen b,[]⟩],b.bl⟩,(b.bi.length:Int)):=by
 unfold addToken;rw[Qa3 (by omega),Qa2 ⟨h1,h2,fun⟨e,_⟩=>absurd e (by omega),.inr ⟨h,h3⟩⟩,Qa3 (by omega)]
theorem FT {b:SBuilder}:b.bl.getD ((b.bl.length:Int)-1).toNat default=lastOpen b:=by
 rw[show((b.bl.length:Int)-1).toNat=b.bl.length-1 by omega];rfl
def AU:Fct:=⟨[.v (.el .ba),.v (.el .token)],[.el .ba,.el .int],fun(x_:SBuilder×SToken×Unit)=>szBuilder x_.1<=100000000000/\Aj x_.2.1<=100000000000,fun(x_:SBuilder×SToken×Unit)=>((addToken x_.1 x_.2.1).1,(addToken x_.1 x_.2.1).2,())⟩
def AjD:=AlF.a AU<|Fct.o (KP [2,3,4,5,6,7,8,9] [17,47,59,70,88]) AlF.2 func357 (by
 rintro⟨(b:SBuilder),(t:SToken),_⟩ hp;refine ho (let q7_:=(⟨#[]⟩:ByteArray);let q12_:=!t.text.toList==q7_.toList;let q6_:=(b.bl.length:Int);let q4_:=(b.bi.length:Int);let q13_:=decide (q4_>=40);let q2_:=q6_-(1:Int);let q11_:=0<=wr q2_/\wr q2_<q6_;let q1_:=(⟨q7_,t.text,b.bl.getD (wr q2_).toNat default,[]⟩:SNode);.cl fCopyBuilder (b,()) fun z2=>let q10_:=BM (z2.1.bl.length+[q4_].length) 8;let q9_:=BM (z2.1.bi.length+[q1_].length) 64;let q3_:Out:=.lf AU (z2.1,(-1:Int),());.br (t.kind==2) (.ob (Ij.pre (z2.1,t.name,()))<|.lt _ (Ij.fn (z2.1,t.name,())) fun z3=>.lf AU (z3.1.1,(-1:Int),())) (.br (t.kind==1) (.cl Em (t.name,()) fun z4=>let q0_:Out:=.ob q11_<|.br (t.kind==1) (.cl fCopyAttrs (t.bo,()) fun z5=>let q5_:=(⟨t.name,q7_,b.bl.getD (wr q2_).toNat default,z5.1⟩:SNode);.ob (BM (z2.1.bi.length+[q5_].length) 64)<|.br (!z4.1) (.ob (True)<|.ob q10_<|.lf AU (⟨z2.1.bi++[q5_],z2.1.bl++[q4_]⟩,q4_,())) (.lf AU (⟨z2.1.bi++[q5_],z2.1.bl⟩,q4_,()))) (.br (t.kind==3) (.br q12_ (.ob q9_<|.br (!z4.1) (.ob (True)<|.ob q10_<|.lf AU (⟨z2.1.bi++[q1_],z2.1.bl++[q4_]⟩,q4_,())) (.lf AU (⟨z2.1.bi++[q1_],z2.1.bl⟩,q4_,()))) q3_) q3_);.br q13_ q3_ (.br (q6_==0) q3_ (.br (!z4.1) (.br (decide (q6_>=8)) q3_ q0_) q0_))) (.br q13_ q3_ (.br (q6_==0) q3_ (.ob q11_<|.br (t.kind==1) (.cl fCopyAttrs (t.bo,()) fun z7=>let q8_:=(⟨t.name,q7_,b.bl.getD (wr q2_).toNat default,z7.1⟩:SNode);.ob (BM (z2.1.bi.length+[q8_].length) 64)<|.lf AU (⟨z2.1.bi++[q8_],z2.1.bl⟩,q4_,())) (.br (t.kind==3) (.br q12_ (.ob q9_<|.lf AU (⟨z2.1.bi++[q1_],z2.1.bl⟩,q4_,())) q3_) q3_)))))) ?_;repeat' first|(guard_target =~ Out.holds _ _;first|refine lfY ?_|refine Ab (fun _=>?_) fun _=>?_|refine Af ?_ fun _=>?_|refine Aa ?_ fun _=>?_|refine Du ?_)|exact trivial
 all_goals
  have hl:b.bl.length<=100000000000:=by have h1:szBuilder b<=100000000000:=hp.1;simp only[szBuilder] at h1;omega
  have hn:b.bi.length<=100000000000:=by have h1:szBuilder b<=100000000000:=hp.1;have:=Ad szNode b.bi;simp only[szBuilder] at h1;omega
  have ha:szL A3 t.bo<=100000000000/\t.bo.length<=100000000000:=by have h1:Aj t<=100000000000:=hp.2;have:=Ad A3 t.bo;simp only[Aj] at h1;omega
  try simp only[Az] at *
  try simp only[AU,Ij,fCopyAttrs,fCopyBuilder,Em,std,Nat.reduceAdd,fCopyBuilder,fCopyAttrs,Em,Ij] at *
  try simp only[Ah (show -9223372036854775808<=(b.bl.length:Int)-1/\(b.bl.length:Int)-1<=9223372036854775807 by omega),FT] at *
 all_goals first|trivial|omega|skip
 all_goals first|(rw[Fo (by assumption)];exact⟨rfl,rfl⟩)|skip
 all_goals first|(rw[KR (by omega) (by first|exact .inl (by omega)|exact .inr (.inl (by omega))|exact .inr (.inr (.inl ⟨by omega,by assumption,by omega⟩))|exact .inr (.inr (.inr ⟨by omega,.inl (by omega)⟩))|exact .inr (.inr (.inr ⟨by omega,.inr (by assumption)⟩)))];exact⟨rfl,rfl⟩)|skip
 all_goals first|(rw[J6 (by omega) (by omega) (by omega) (by first|exact .inl (by assumption)|exact .inr (by omega))];first|rw[Qa2 (by assumption)]|rw[Qa3 (by rw[show isVoid t.name=false by assumption];decide)])|(rw[K2 (by omega) (by omega) (by omega) (by assumption)])|skip
 all_goals first|exact⟨rfl,rfl⟩|exact absurd ((show isVoid t.name=true by assumption).symm.trans (show isVoid t.name=false by assumption)) (by decide))
abbrev CI (b:SBuilder) (t:SToken):LInv:=⟨[⟨.b,6,true,.el .ba⟩,⟨.s,7,true,.el .int⟩,⟨.b,2,false,.el .ba⟩,⟨.b,3,false,.el .token⟩,⟨.b,4,true,.el .ba⟩],fun(z_ x_:SBuilder×Int×SBuilder×SToken×SBuilder×Unit)=>(((x_.1=b/\-1<=x_.2.1/\x_.2.1<b.bl.length/\closeN b t.name (x_.2.1+1).toNat=closeN b t.name b.bl.length)/\x_.2.2.1=z_.2.2.1)/\x_.2.2.2.1=z_.2.2.2.1)/\x_.2.2.2.2.1=z_.2.2.2.2.1,fun(x_:SBuilder×Int×SBuilder×SToken×SBuilder×Unit)=>(x_.2.1+1).toNat⟩
def Ahj:=AjD.a AU<|Fct.p (KP [2,3,4,5,6,7,8,9,10,11] [14,23,50,57,100,116,134]) (fun⟨b,t,_⟩=>lv [(4,CI b t)]) AjD.2 func327 (by
 rintro⟨(b:SBuilder),(t:SToken),_⟩ hp;refine ho (let q15_:=BM (0+t.bo.length) 32;let q11_:=(⟨#[]⟩:ByteArray);let q6_:=(b.bi.length:Int);let q16_:=decide (q6_>=40);let q5_:=(b.bl.length:Int);let q8_:=q5_-(1:Int);let q14_:=0<=wr q8_/\wr q8_<q5_;let q3_:=(⟨q11_,t.text,b.bl.getD (wr q8_).toNat default,[]⟩:SNode);let q2_:=(⟨t.name,q11_,b.bl.getD (wr q8_).toNat default,[]++t.bo⟩:SNode);.cl fCopyBuilder (b,()) fun z2=>let q12_:=BM (z2.1.bl.length+[q6_].length) 8;let q10_:=BM (z2.1.bi.length+[q3_].length) 64;let q9_:=BM (z2.1.bi.length+[q2_].length) 64;let q7_:Out:=.lf AU (z2.1,(-1:Int),());let q0_:Out:=.br (t.kind==1) (.cl Em (t.name,()) fun z3=>let q1_:Out:=.ob q14_<|.br (t.kind==1) (.ob (True)<|.ob q15_<|.ob q9_<|.br (!z3.1) (.ob (True)<|.ob q12_<|.lf AU (⟨z2.1.bi++[q2_],z2.1.bl++[q6_]⟩,q6_,())) (.lf AU (⟨z2.1.bi++[q2_],z2.1.bl⟩,q6_,()))) (.ob q10_<|.br (!z3.1) (.ob (True)<|.ob q12_<|.lf AU (⟨z2.1.bi++[q3_],z2.1.bl++[q6_]⟩,q6_,())) (.lf AU (⟨z2.1.bi++[q3_],z2.1.bl⟩,q6_,())));.br q16_ q7_ (.br (q5_==0) q7_ (.br (!z3.1) (.br (decide (q5_>=8)) q7_ q1_) q1_))) (.br q16_ q7_ (.br (q5_==0) q7_ (.ob q14_<|.br (t.kind==1) (.ob (True)<|.ob q15_<|.ob q9_<|.lf AU (⟨z2.1.bi++[q2_],z2.1.bl⟩,q6_,())) (.ob q10_<|.lf AU (⟨z2.1.bi++[q3_],z2.1.bl⟩,q6_,())))));.br (t.kind==2) (lpx (CI b t) (z2.1,(wr q8_,(b,(t,(default,()))))) fun(y3:SBuilder×Int×SBuilder×SToken×SBuilder×PUnit) bk3=>let q13_:=(y3.2.2.1.bi.length:Int);let q4_:Out:=.ob (Value.int IntKind.i64 0=Value.int IntKind.i64 (0:Int))<|.ob (bk3 (y3.1,(wr (y3.2.1-(1:Int)),(y3.2.2.1,(y3.2.2.2.1,(y3.2.2.2.2.1,()))))))<|.ok;.br (decide (y3.2.1>=1)) (.ob (inB y3.2.1 y3.2.2.1.bl.length)<|.br (decide (y3.2.2.1.bl.getD y3.2.1.toNat default>=0)) (.br (decide (y3.2.2.1.bl.getD y3.2.1.toNat default<q13_)) (.ob (0<=y3.2.2.1.bl.getD y3.2.1.toNat default/\y3.2.2.1.bl.getD y3.2.1.toNat default<q13_)<|.br ((y3.2.2.1.bi.getD (y3.2.2.1.bl.getD y3.2.1.toNat default).toNat default).name.toList==y3.2.2.2.1.name.toList) (.ob (0<=y3.2.1/\y3.2.1<=(y3.1.bl.length:Int))<|.ob (0+(y3.2.1.toNat-0)<=y3.1.bl.length)<|.lf AU (⟨y3.1.bi,cut y3.1.bl 0 (y3.2.1.toNat-0)⟩,(-1:Int),())) q4_) q4_) q4_) (.lf AU (y3.1,(-1:Int),()))) (.br (t.kind != 1) (.br (t.kind==3) (.br (!!t.text.toList==q11_.toList) q7_ q0_) (.br (!false) q7_ q0_)) q0_)) ?_;refine Af ?_ fun o1=>(Ab (fun h2=>Ay ?_ fun(y3:SBuilder×Int×SBuilder×SToken×SBuilder×PUnit) i3=>Ab (fun h4=>Aa ?_ fun o5=>Ab (fun h6=>Ab (fun h7=>Aa ?_ fun o8=>Ab (fun h9=>Aa ?_ fun o10=>Aa ?_ fun o11=>lfY ?_) (fun h9=>Aa rfl fun _=>Aa ?_ fun o12=>trivial)) (fun h7=>Aa rfl fun _=>Aa ?_ fun o13=>trivial)) (fun h6=>Aa rfl fun _=>Aa ?_ fun o14=>trivial)) (fun h4=>lfY ?_)) (fun h2=>Ab (fun h15=>Ab (fun h16=>Ab (fun h17=>lfY ?_) (fun h17=>Ab (fun h18=>Af trivial fun _=>(Ab (fun h19=>lfY ?_) (fun h19=>Ab (fun h20=>lfY ?_) (fun h20=>Ab (fun h21=>Ab (fun h22=>lfY ?_) (fun h22=>Aa ?_ fun o23=>Ab (fun h24=>Aa trivial fun _=>Aa ?_ fun o25=>Aa ?_ fun o26=>Ab (fun h27=>Aa trivial fun _=>Aa ?_ fun o28=>lfY ?_) (fun h27=>lfY ?_)) (fun h24=>Aa ?_ fun o29=>Ab (fun h30=>Aa trivial fun _=>Aa ?_ fun o31=>lfY ?_) (fun h30=>lfY ?_)))) (fun h21=>Aa ?_ fun o32=>Ab (fun h33=>Aa trivial fun _=>Aa ?_ fun o34=>Aa ?_ fun o35=>Ab (fun h36=>Aa trivial fun _=>Aa ?_ fun o37=>lfY ?_) (fun h36=>lfY ?_)) (fun h33=>Aa ?_ fun o38=>Ab (fun h39=>Aa trivial fun _=>Aa ?_ fun o40=>lfY ?_) (fun h39=>lfY ?_))))))) (fun h18=>Ab (fun h41=>lfY ?_) (fun h41=>Ab (fun h42=>lfY ?_) (fun h42=>Aa ?_ fun o43=>Ab (fun h44=>Aa trivial fun _=>Aa ?_ fun o45=>Aa ?_ fun o46=>lfY ?_) (fun h44=>Aa ?_ fun o47=>lfY ?_)))))) (fun h16=>Ab (fun h48=>lfY ?_) (fun h48=>Ab (fun h49=>Af trivial fun _=>(Ab (fun h50=>lfY ?_) (fun h50=>Ab (fun h51=>lfY ?_) (fun h51=>Ab (fun h52=>Ab (fun h53=>lfY ?_) (fun h53=>Aa ?_ fun o54=>Ab (fun h55=>Aa trivial fun _=>Aa ?_ fun o56=>Aa ?_ fun o57=>Ab (fun h58=>Aa trivial fun _=>Aa ?_ fun o59=>lfY ?_) (fun h58=>lfY ?_)) (fun h55=>Aa ?_ fun o60=>Ab (fun h61=>Aa trivial fun _=>Aa ?_ fun o62=>lfY ?_) (fun h61=>lfY ?_)))) (fun h52=>Aa ?_ fun o63=>Ab (fun h64=>Aa trivial fun _=>Aa ?_ fun o65=>Aa ?_ fun o66=>Ab (fun h67=>Aa trivial fun _=>Aa ?_ fun o68=>lfY ?_) (fun h67=>lfY ?_)) (fun h64=>Aa ?_ fun o69=>Ab (fun h70=>Aa trivial fun _=>Aa ?_ fun o71=>lfY ?_) (fun h70=>lfY ?_))))))) (fun h49=>Ab (fun h72=>lfY ?_) (fun h72=>Ab (fun h73=>lfY ?_) (fun h73=>Aa ?_ fun o74=>Ab (fun h75=>Aa trivial fun _=>Aa ?_ fun o76=>Aa ?_ fun o77=>lfY ?_) (fun h75=>Aa ?_ fun o78=>lfY ?_))))))) (fun h15=>Ab (fun h79=>Af trivial fun _=>(Ab (fun h80=>lfY ?_) (fun h80=>Ab (fun h81=>lfY ?_) (fun h81=>Ab (fun h82=>Ab (fun h83=>lfY ?_) (fun h83=>Aa ?_ fun o84=>Ab (fun h85=>Aa trivial fun _=>Aa ?_ fun o86=>Aa ?_ fun o87=>Ab (fun h88=>Aa trivial fun _=>Aa ?_ fun o89=>lfY ?_) (fun h88=>lfY ?_)) (fun h85=>Aa ?_ fun o90=>Ab (fun h91=>Aa trivial fun _=>Aa ?_ fun o92=>lfY ?_) (fun h91=>lfY ?_)))) (fun h82=>Aa ?_ fun o93=>Ab (fun h94=>Aa trivial fun _=>Aa ?_ fun o95=>Aa ?_ fun o96=>Ab (fun h97=>Aa trivial fun _=>Aa ?_ fun o98=>lfY ?_) (fun h97=>lfY ?_)) (fun h94=>Aa ?_ fun o99=>Ab (fun h100=>Aa trivial fun _=>Aa ?_ fun o101=>lfY ?_) (fun h100=>lfY ?_))))))) (fun h79=>Ab (fun h102=>lfY ?_) (fun h102=>Ab (fun h103=>lfY ?_) (fun h103=>Aa ?_ fun o104=>Ab (fun h105=>Aa trivial fun _=>Aa ?_ fun o106=>Aa ?_ fun o107=>lfY ?_) (fun h105=>Aa ?_ fun o108=>lfY ?_)))))))
 all_goals
  have hl:b.bl.length<=100000000000:=by have h1:szBuilder b<=100000000000:=hp.1;simp only[szBuilder] at h1;omega
  have hn:b.bi.length<=100000000000:=by have h1:szBuilder b<=100000000000:=hp.1;have:=Ad szNode b.bi;simp only[szBuilder] at h1;omega
  have ha:szL A3 t.bo<=100000000000/\t.bo.length<=100000000000:=by have h1:Aj t<=100000000000:=hp.2;have:=Ad A3 t.bo;simp only[Aj] at h1;omega
  try simp only[Az] at *
  try simp only[CI,AU,fCopyBuilder,Em,std,Nat.reduceAdd,fCopyBuilder,Em] at *
  try simp only[Ah (show -9223372036854775808<=(b.bl.length:Int)-1/\(b.bl.length:Int)-1<=9223372036854775807 by omega),FT] at *
 all_goals first|trivial|omega|(rw[show((b.bl.length:Int)-1+1).toNat=b.bl.length by omega];exact⟨by omega,by omega,rfl⟩)|skip
 all_goals first|(rw[KR (by omega) (by first|exact .inl (by omega)|exact .inr (.inl (by omega))|exact .inr (.inr (.inl ⟨by omega,by assumption,by omega⟩))|exact .inr (.inr (.inr ⟨by omega,.inl (by omega)⟩))|exact .inr (.inr (.inr ⟨by omega,.inr (by assumption)⟩)))];exact⟨rfl,rfl⟩)|skip
 all_goals first|(rw[J6 (by omega) (by omega) (by omega) (by first|exact .inl (by assumption)|exact .inr (by omega))];first|rw[Qa2 (by assumption)]|rw[Qa3 (by rw[show isVoid t.name=false by assumption];decide)])|(rw[K2 (by omega) (by omega) (by omega) (by assumption)])|skip
 all_goals first|exact⟨rfl,rfl⟩|exact absurd ((show isVoid t.name=true by assumption).symm.trans (show isVoid t.name=false by assumption)) (by decide)|skip
 all_goals try (obtain⟨⟨⟨⟨a0,a1,a2,a3⟩,e1⟩,e2⟩,e3⟩:=i3;simp only[a0,e1,e2] at *)
 all_goals try simp only[Qa1,Qe7,Qa9,Qb2] at *
 all_goals first|omega|(rw[Ms (by omega)] at a3;rw[Fo (by assumption)];unfold closeB;rw[<-a3];exact⟨rfl,rfl⟩)|skip
 all_goals rw[Pj (by omega)] at a3
 all_goals first|(rw[Qa2 (by exact⟨by omega,by omega,by assumption⟩)] at a3;rw[Fo (by assumption)];unfold closeB;rw[<-a3];simp[cut];done)|(rw[Qa3 (by rintro⟨q1,q2,q3⟩;first|omega|exact absurd q3 (by assumption))] at a3;rw[Ah (by omega),show(y3.2.1-1+1).toNat=y3.2.1.toNat by omega];exact⟨⟨⟨⟨⟨trivial,by omega,by omega,a3⟩,trivial⟩,trivial⟩,e3⟩,by omega⟩)|skip)
theorem Fj (s b:ByteArray):(parseAddr s b).1.host.size<=s.size+b.size/\(parseAddr s b).1.path.size<=s.size+b.size:=by
 have:=KM s b;unfold parseAddr;split
 ·exact⟨this.1,Qe6 this.2 (Qg1 _ _)⟩
 ·exact⟨Nat.zero_le _,Nat.zero_le _⟩
def reqOf (p:SPage) (s:SSlot):SRequest:=⟨kindOf s.mode,s.to,p.addr.host,s.digest⟩
def rawSlot (p:SPage) (mode:Int) (to digest:ByteArray) (node:Int):SSlot:=⟨mode,(parseAddr to p.addr.host).1,digest,node,false,0,⟨#[]⟩⟩
def newSlot (p:SPage) (mode:Int) (to digest:ByteArray) (node:Int):SSlot :=
 if(parseAddr to p.addr.host).2=true/\checkRequest p.bj (reqOf p (rawSlot p mode to digest node))=1 then rawSlot p mode to digest node
 else⟨mode,(parseAddr to p.addr.host).1,digest,node,true,2,⟨#[]⟩⟩
def addSlot (p:SPage) (mode:Int) (to digest:ByteArray) (node:Int):SPage×Int :=
 if p.bf.length<20/\kindOf mode≠0 then({ p with bf:=p.bf++[newSlot p mode to digest node]},(p.bf.length:Int)) else(p,-1)
theorem Jn (p:SPage) (s:SSlot):slotRequest { p with bf:=p.bf++[s]} (p.bf.length:Int)=reqOf p s:=by
 unfold slotRequest reqOf;rw[Qa2 (by simp only[Qa4,Qa6,Qb5];omega)];simp
theorem L3 {p:SPage} {mode:Int} {to digest:ByteArray} {node:Int} (h:20<=p.bf.length\/kindOf mode=0):addSlot p mode to digest node=(p,-1):=by
 unfold addSlot;rw[Qa3];rintro⟨q1,q2⟩;rcases h with h|h
 ·omega
 ·exact q2 h
theorem Kw {p:SPage} {mode:Int} {to digest:ByteArray} {node:Int} (h:p.bf.length<20) (h2:¬ kindOf mode=0):addSlot p mode to digest node=({ p with bf:=p.bf++[newSlot p mode to digest node]},(p.bf.length:Int)):=by
 unfold addSlot;rw[Qa2 ⟨h,h2⟩]
theorem HU {α:Type}:∀ (l:List α) (x:α) (f:α->α),(l++[x]).modify l.length f=l++[f x]
 | [],x,f=>rfl
 | a::l,x,f=>by show a::(l++[x]).modify l.length f=_;rw[HU l x f];rfl
theorem Mz {p:SPage} {m:Int} {to d:ByteArray} {n:Int} (h:(parseAddr to p.addr.host).2=false\/¬ checkRequest p.bj (reqOf p (rawSlot p m to d n))=1):newSlot p m to d n=⟨m,(parseAddr to p.addr.host).1,d,n,true,2,⟨#[]⟩⟩:=by
 unfold newSlot;rw[Qa3];rintro⟨q1,q2⟩;rcases h with h|h
 ·rw[h] at q1;cases q1
 ·exact h q2
theorem LD {p:SPage} {m:Int} {to d:ByteArray} {n:Int} (h:(parseAddr to p.addr.host).2=true) (h2:checkRequest p.bj (reqOf p (rawSlot p m to d n))=1):newSlot p m to d n=rawSlot p m to d n:=by
 unfold newSlot;rw[Qa2 ⟨h,h2⟩]
def fAddSlot:Fct:=⟨[.v (.el .page),.v (.el .int),.v (.el .str),.v (.el .str),.v (.el .int)],[.el .page,.el .int],fun(x_:SPage×Int×ByteArray×ByteArray×Int×Unit)=>szPage x_.1<=1090000000000/\x_.1.addr.host.size<=4000000000/\x_.2.2.1.size<=4000000000/\x_.2.2.2.1.size<=50000000000,fun(x_:SPage×Int×ByteArray×ByteArray×Int×Unit)=>((addSlot x_.1 x_.2.1 x_.2.2.1 x_.2.2.2.1 x_.2.2.2.2.1).1,(addSlot x_.1 x_.2.1 x_.2.2.1 x_.2.2.2.1 x_.2.2.2.2.1).2,())⟩
def AkO:=Ahj.a fAddSlot<|Fct.o (KP [1,2,3,4,5,10,11,12,13,14,15] [27,57]) Ahj.2 func405 (by
 rintro⟨(p:SPage),(m:Int),(to:ByteArray),(d:ByteArray),(n:Int),_⟩ hp;refine ho (let q1_:=(p.bf.length:Int);.cl fCopyPage (p,()) fun z2=>let q4_:Out:=.lf fAddSlot (z2.1,(-1:Int),());.br (decide (q1_>=20)) q4_ (.cl fKindOfMode (m,()) fun(z3:Int×PUnit)=>.br (z3.1==0) q4_ (.cl AG (to,p.addr.host,()) fun z4=>let q0_:=(⟨m,z4.1,d,n,false,(0:Int),(⟨#[]⟩:ByteArray)⟩:SSlot);let q2_:=z2.1.bf++[q0_];let q5_:=q1_.toNat<q2_.length;let q3_:=(0:Int)<=q1_/\q1_<(q2_.length:Int);.ob (True)<|.ob (BM (z2.1.bf.length+[q0_].length) 96)<|.br (!z4.2.1) (.ob q3_<|.ob q5_<|.lt (List SSlot) (q2_.modify q1_.toNat fun z=>({z with done:=true}:SSlot)) fun z5=>.ob ((0:Int)<=q1_/\q1_<(z5.length:Int))<|.ob (q1_.toNat<z5.length)<|.lt (List SSlot) (z5.modify q1_.toNat fun z=>({z with code:=(2:Int)}:SSlot)) fun z6=>.lf fAddSlot ({z2.1 with bf:=z6},q1_,())) (.cl Au (({z2.1 with bf:=z2.1.bf++[q0_]}:SPage),q1_,()) fun z7=>.cl fCheckRequest (p.bj,z7.1,()) fun(z8:Int×PUnit)=>.br (z8.1 != 1) (.ob q3_<|.ob q5_<|.lt (List SSlot) (q2_.modify q1_.toNat fun z=>({z with done:=true}:SSlot)) fun z9=>.ob ((0:Int)<=q1_/\q1_<(z9.length:Int))<|.ob (q1_.toNat<z9.length)<|.lt (List SSlot) (z9.modify q1_.toNat fun z=>({z with code:=(2:Int)}:SSlot)) fun z10=>.lf fAddSlot ({z2.1 with bf:=z10},q1_,())) (.lf fAddSlot ({z2.1 with bf:=z2.1.bf++[q0_]},q1_,())))))) ?_;repeat' first|(guard_target =~ Out.holds _ _;first|refine lfY ?_|refine Ab (fun _=>?_) fun _=>?_|refine Af ?_ fun _=>?_|refine Aa ?_ fun _=>?_|refine Du ?_)|exact trivial
 all_goals
  have hl:p.bf.length<=1090000000000:=by have h1:szPage p<=1090000000000:=hp.1;have:=Ad AF p.bf;simp only[szPage] at h1;omega
  have hpo:szPolicy p.bj<=1090000000000:=by have h1:szPage p<=1090000000000:=hp.1;simp only[szPage] at h1;omega
  have hz:=Fj to p.addr.host;try simp only[Az] at *
  try simp only[fAddSlot,fCheckRequest,fCopyPage,fKindOfMode,AG,Au,std,Nat.reduceAdd,fCopyPage,fKindOfMode,AG,Au,fCheckRequest] at *
  try simp only[Jn,HU,Qa4,Qa6,Qb5,Qg6] at *
 all_goals first|trivial|omega|(rw[L3 (by first|exact .inl (by omega)|exact .inr (by assumption))];exact⟨rfl,rfl⟩)|rw[Kw (by omega) (by assumption)]|skip
 all_goals first|exact⟨by omega,by simp only[szRequest,szAddr,reqOf];omega⟩|(rw[Mz (by first|exact .inl (by assumption)|exact .inr (by assumption))];exact⟨rfl,rfl⟩)|(rw[LD (by assumption) (by assumption)];exact⟨rfl,rfl⟩))
def AjV:=AkO.a fAddSlot<|Fct.o (KP [1,2,3,4,5,10,11,12,13,14,15] [26,59]) AkO.2 func375 (by
 rintro⟨(p:SPage),(m:Int),(to:ByteArray),(d:ByteArray),(n:Int),_⟩ hp;refine ho (let q1_:=(p.bf.length:Int);.cl fCopyPage (p,()) fun z2=>let q4_:Out:=.lf fAddSlot (z2.1,(-1:Int),());.br (decide (q1_>=20)) q4_ (.cl fKindOfMode (m,()) fun(z3:Int×PUnit)=>.br (z3.1==0) q4_ (.cl AG (to,p.addr.host,()) fun z4=>let q0_:=(⟨m,z4.1,d,n,false,(0:Int),(⟨#[]⟩:ByteArray)⟩:SSlot);let q2_:=z2.1.bf++[q0_];let q5_:=q1_.toNat<q2_.length;let q3_:=(0:Int)<=q1_/\q1_<(q2_.length:Int);.ob (True)<|.ob (BM (z2.1.bf.length+[q0_].length) 96)<|.br (!z4.2.1) (.ob q3_<|.ob q5_<|.lt (List SSlot) (q2_.modify q1_.toNat fun z=>({z with done:=true}:SSlot)) fun z5=>.ob ((0:Int)<=q1_/\q1_<(z5.length:Int))<|.ob (q1_.toNat<z5.length)<|.lt (List SSlot) (z5.modify q1_.toNat fun z=>({z with code:=(2:Int)}:SSlot)) fun z6=>.lf fAddSlot ({z2.1 with bf:=z6},q1_,())) (.cl Au (({z2.1 with bf:=z2.1.bf++[q0_]}:SPage),q1_,()) fun z7=>.cl fCheckRequest (p.bj,z7.1,()) fun(z8:Int×PUnit)=>.br (z8.1 != 1) (.ob q3_<|.ob q5_<|.lt (List SSlot) (q2_.modify q1_.toNat fun z=>({z with done:=true}:SSlot)) fun z9=>.ob ((0:Int)<=q1_/\q1_<(z9.length:Int))<|.ob (q1_.toNat<z9.length)<|.lt (List SSlot) (z9.modify q1_.toNat fun z=>({z with code:=(2:Int)}:SSlot)) fun z10=>.lf fAddSlot ({z2.1 with bf:=z10},q1_,())) (.lf fAddSlot ({z2.1 with bf:=z2.1.bf++[q0_]},q1_,())))))) ?_;refine Af ?_ fun o1=>(Ab (fun h2=>lfY ?_) (fun h2=>Af trivial fun _=>(Ab (fun h3=>lfY ?_) (fun h3=>Af ?_ fun o4=>(Aa trivial fun _=>Aa ?_ fun o5=>Ab (fun h6=>Aa ?_ fun o7=>Aa ?_ fun o8=>Du (Aa ?_ fun o9=>Aa ?_ fun o10=>Du (lfY ?_))) (fun h6=>Af ?_ fun o11=>(Af ?_ fun o12=>(Ab (fun h13=>Aa ?_ fun o14=>Aa ?_ fun o15=>Du (Aa ?_ fun o16=>Aa ?_ fun o17=>Du (lfY ?_))) (fun h13=>lfY ?_)))))))))
 all_goals
  have hl:p.bf.length<=1090000000000:=by have h1:szPage p<=1090000000000:=hp.1;have:=Ad AF p.bf;simp only[szPage] at h1;omega
  have hpo:szPolicy p.bj<=1090000000000:=by have h1:szPage p<=1090000000000:=hp.1;simp only[szPage] at h1;omega
  have hz:=Fj to p.addr.host;try simp only[Az] at *
  try simp only[fAddSlot,fCheckRequest,fCopyPage,fKindOfMode,AG,Au,std,Nat.reduceAdd,fCopyPage,fKindOfMode,AG,Au,fCheckRequest] at *
  try simp only[Jn,HU,Qa4,Qa6,Qb5,Qg6] at *
 all_goals first|trivial|omega|(rw[L3 (by first|exact .inl (by omega)|exact .inr (by assumption))];exact⟨rfl,rfl⟩)|rw[Kw (by omega) (by assumption)]|skip
 all_goals first|exact⟨by omega,by simp only[szRequest,szAddr,reqOf];omega⟩|(rw[Mz (by first|exact .inl (by assumption)|exact .inr (by assumption))];exact⟨rfl,rfl⟩)|(rw[LD (by assumption) (by assumption)];exact⟨rfl,rfl⟩))
def fillS (p:SPage) (x:SResponse) (s:SSlot):SSlot:=if s.done=true then s else{ s with done:=true,code:=checkResponse p.bj (reqOf p s) x,body:=(usable p.bj (reqOf p s) x).1 }
def fillSlot (p:SPage) (k:Int) (x:SResponse):SPage:=if 0<=k/\k<p.bf.length then{ p with bf:=p.bf.modify k.toNat (fillS p x)} else p
def CV:Fct:=⟨[.v (.el .page),.v (.el .int),.v (.el .bd)],[.el .page],fun(x_:SPage×Int×SResponse×Unit)=>szPage x_.1<=1000000000000/\x_.1.addr.host.size<=4000000000/\(∀ i,i<x_.1.bf.length->AF (x_.1.bf.getD i default)<=50000000000)/\-9223372036854775808<=x_.2.1/\x_.2.1<=9223372036854775807/\x_.2.2.1.bj.size<=200000000/\x_.2.2.1.body.size<=1000000000,fun(x_:SPage×Int×SResponse×Unit)=>(fillSlot x_.1 x_.2.1 x_.2.2.1,())⟩
def askFrom (a:SAddr):List SModule->Nat
 | []=>0
 | m::l=>if cmpA m.to a<0 then askFrom a l+1 else 0
theorem MP {a:SAddr} {l:List SModule} {i:Nat} (h:i<l.length):askFrom a (l.drop i)=if cmpA (l.getD i default).to a<0 then askFrom a (l.drop (i+1))+1 else 0:=by rw[drop_cons h];rfl
theorem K1 {a:SAddr} {l:List SModule} {i:Nat} (h:l.length<=i):askFrom a (l.drop i)=0:=by rw[Qb9 h];rfl
def newMod (p:SPage) (a:SAddr):SModule:=if checkRequest p.bj ⟨5,a,p.addr.host,⟨#[]⟩⟩=1 then⟨a,false,0,⟨#[]⟩⟩ else⟨a,true,2,⟨#[]⟩⟩
def askModule (p:SPage) (a:SAddr):SPage :=
 if askFrom a p.bh<p.bh.length/\(p.bh.getD (askFrom a p.bh) default).to=a then p
 else{ p with bh:=p.bh.take (askFrom a p.bh)++newMod p a::p.bh.drop (askFrom a p.bh)}
theorem AbP {l:List SModule} {i:Nat} {m:SModule} (h:i<=l.length):cut l 0 i++[m]++cut l i (l.length-i)=l.take i++m::l.drop i:=by
 simp only[cut,Qf0,Qb4,Qf4,Qg2];rw[Qb6 (l:=List.drop i l) (by simp)]
theorem PQ {p:SPage} {a:SAddr} {i:Nat} (h:askFrom a p.bh=i) (h1:i<p.bh.length) (h2:(p.bh.getD i default).to=a):askModule p a=p:=by
 unfold askModule;rw[h,Qa2 ⟨h1,h2⟩]
theorem Yo {p:SPage} {a:SAddr} {i:Nat} (h:askFrom a p.bh=i) (h0:i<=p.bh.length) (h1:i=p.bh.length\/¬ (p.bh.getD i default).to=a) (m:SModule) (hm:m=newMod p a):askModule p a={ p with bh:=cut p.bh 0 i++[m]++cut p.bh i (p.bh.length-i)}:=by
 unfold askModule;rw[h,Qa3,AbP h0,hm];rintro⟨q1,q2⟩;rcases h1 with h1|h1
 ·omega
 ·exact h1 q2
theorem O9 {p:SPage} {a:SAddr} (h:checkRequest p.bj ⟨5,a,p.addr.host,⟨#[]⟩⟩=1):(⟨a,false,0,⟨#[]⟩⟩:SModule)=newMod p a:=by unfold newMod;rw[Qa2 h]
theorem O7 {p:SPage} {a:SAddr} (h:¬ checkRequest p.bj ⟨5,a,p.addr.host,⟨#[]⟩⟩=1):(⟨a,true,2,⟨#[]⟩⟩:SModule)=newMod p a:=by unfold newMod;rw[Qa3 h]
def AM:Fct:=⟨[.v (.el .page),.v (.el .addr)],[.el .page],fun(x_:SPage×SAddr×Unit)=>szPage x_.1<=1090000000000/\x_.1.addr.host.size<=4000000000/\szAddr x_.2.1<=50000000000,fun(x_:SPage×SAddr×Unit)=>(askModule x_.1 x_.2.1,())⟩
abbrev Cl (p:SPage) (a:SAddr):LInv:=⟨[⟨.s,6,true,.el .int⟩,⟨.b,2,false,.el .page⟩,⟨.b,3,true,.el .addr⟩,⟨.b,4,true,.el .page⟩,⟨.b,5,true,.el .page⟩],fun(z_ x_:Int×SPage×SAddr×SPage×SPage×Unit)=>((((0<=x_.1/\x_.1<=p.bh.length/\x_.1+askFrom a (p.bh.drop x_.1.toNat)=askFrom a p.bh)/\x_.2.1=z_.2.1)/\x_.2.2.1=z_.2.2.1)/\x_.2.2.2.1=z_.2.2.2.1)/\x_.2.2.2.2.1=z_.2.2.2.2.1,fun(x_:Int×SPage×SAddr×SPage×SPage×Unit)=>p.bh.length-x_.1.toNat⟩
end Go.Proofs.YtjgmhdnhlpckeaaGreatDoor.fnExactRequestNext
