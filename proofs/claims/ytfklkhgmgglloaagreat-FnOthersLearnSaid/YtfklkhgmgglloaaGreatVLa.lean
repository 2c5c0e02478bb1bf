/-
  The library of the proof, part 1.
-/
import Derived.Calls
import Derived.Orders
import Derived.Below
import Derived.Laws.AppendOwn
import Derived.Laws.MakeOwn
import Derived.KernelRfl
import Derived.ChangeAgain
import Derived.Lib.LaidTab
import Derived.Lib.ItoaNum
import Derived.Laws.Entries
import Derived.Laws.StructEq
import Derived.Laws.Append
import Derived.Laws.BytesString
import Derived.Laws.Cells
set_option linter.defProp false
set_option linter.unusedVariables false
set_option linter.unusedSimpArgs false
def Q_:type_of% @Option.some.injEq:=@Option.some.injEq
def S_:type_of% @Bool.and_eq_true:=@Bool.and_eq_true
def ak:type_of% @List.length_append:=@List.length_append
def ae:type_of% @List.mem_append:=@List.mem_append
def aG:type_of% @List.getElem?_eq_getElem:=@List.getElem?_eq_getElem
def aV:type_of% @List.getD_eq_getElem?_getD:=@List.getD_eq_getElem?_getD
def F_:type_of% @if_neg:=@if_neg
def aq:type_of% @List.length_cons:=@List.length_cons
def av:type_of% @decide_eq_true_eq:=@decide_eq_true_eq
def G_:type_of% @if_pos:=@if_pos
def Y_:type_of% @Nat.le_refl:=@Nat.le_refl
def ah:type_of% @List.mem_cons:=@List.mem_cons
def aN:type_of% @ByteArray.size_append:=@ByteArray.size_append
def aH:type_of% @List.all_eq_true:=@List.all_eq_true
def bQ:type_of% @List.drop_of_length_le:=@List.drop_of_length_le
def bw:type_of% @List.any_eq_true:=@List.any_eq_true
def ci:type_of% @List.take_of_length_le:=@List.take_of_length_le
def aU:type_of% @List.length_nil:=@List.length_nil
def cy:type_of% @decide_eq_false_iff_not:=@decide_eq_false_iff_not
def bF:type_of% @List.append_assoc:=@List.append_assoc
def aY:type_of% @Option.map_some:=@Option.map_some
def cL:type_of% @List.getElem?_append_left:=@List.getElem?_append_left
def cV:type_of% @List.getElem?_append_right:=@List.getElem?_append_right
def bz:type_of% @List.map_cons:=@List.map_cons
def aR:type_of% @Nat.le_trans:=@Nat.le_trans
def cp:type_of% @List.getElem?_map:=@List.getElem?_map
def cZ:type_of% @ByteArray.size_extract:=@ByteArray.size_extract
def cD:type_of% @Bool.false_eq_true:=@Bool.false_eq_true
def cj:type_of% @List.cons_append:=@List.cons_append
def cT:type_of% @List.mem_cons_of_mem:=@List.mem_cons_of_mem
def da:type_of% @Nat.mul_le_mul_right:=@Nat.mul_le_mul_right
def bR:type_of% @decide_eq_true:=@decide_eq_true
def cM:type_of% @Bool.not_eq_true':=@Bool.not_eq_true'
def di:type_of% @List.take_append_drop:=@List.take_append_drop
def bG:type_of% @List.mem_map:=@List.mem_map
def cz:type_of% @List.append_nil:=@List.append_nil
def bP:type_of% @Prod.mk.injEq:=@Prod.mk.injEq
def cC:type_of% @List.length_map:=@List.length_map
def cW:type_of% @List.mem_cons_self:=@List.mem_cons_self
def cO:type_of% @Nat.le_add_right:=@Nat.le_add_right
def aO:type_of% @cond_true:=@cond_true
def dY:type_of% @List.length_singleton:=@List.length_singleton
def cX:type_of% @List.length_take:=@List.length_take
def eo:type_of% @List.length_eq_one_iff:=@List.length_eq_one_iff
def eI:type_of% @List.mem_singleton_self:=@List.mem_singleton_self
def db:type_of% @Bool.or_eq_true:=@Bool.or_eq_true
def aP:type_of% @if_false:=@if_false
def cE:type_of% @Nat.zero_add:=@Nat.zero_add
def aC:type_of% @if_true:=@if_true
def dZ:type_of% @of_decide_eq_true:=@of_decide_eq_true
def dD:type_of% @List.foldl_cons:=@List.foldl_cons
def fC:type_of% @List.mem_of_mem_drop:=@List.mem_of_mem_drop
def cA:type_of% @cond_false:=@cond_false
def ev:type_of% @Int.toNat_natCast:=@Int.toNat_natCast
def fD:type_of% @Array.length_toList:=@Array.length_toList
def fE:type_of% @Nat.lt_of_lt_of_le:=@Nat.lt_of_lt_of_le
def fH:type_of% @List.mem_of_mem_take:=@List.mem_of_mem_take
def ew:type_of% @List.nil_append:=@List.nil_append
def ey:type_of% @decide_eq_false:=@decide_eq_false
def cY:type_of% @beq_iff_eq:=@beq_iff_eq
def eA:type_of% @List.mem_range:=@List.mem_range
def cB:type_of% @congrArg:=@congrArg
def ee:type_of% @List.map_map:=@List.map_map
def fX:type_of% @Bool.and_eq_false_iff:=@Bool.and_eq_false_iff
def fG:type_of% @List.map_append:=@List.map_append
def fY:type_of% @List.mem_of_getElem?:=@List.mem_of_getElem?
def fQ:type_of% @List.getElem?_take:=@List.getElem?_take
def fP:type_of% @List.length_drop:=@List.length_drop
def fI:type_of% @List.drop_zero:=@List.drop_zero
def fZ:type_of% @List.not_mem_nil:=@List.not_mem_nil
namespace Go.D
def o_ {p:Prop} (h:p:=by omega):p:=h
def k_ {α:Sort _} {a b:α} (h:a=b:=by kernel_rfl):a=b:=h
inductive C where
 | val (v:Value)
 | nl
 | sl (k n:Nat) (f:Nat->Nat->C)
instance:Inhabited C:=⟨.nl⟩
def plain:Value->Bool
 | .bool _ | .int _ _ | .string _=>true
 | _=>false
def TR (w:World) (S:Nat->Prop):C->Value->Prop
 | .val u,v=>v=u/\plain u=true
 | .nl,v=>v=.slice none 0 0
 | .sl k n f,v=>∃ a cap,v=.slice a n cap/\n<=cap/\(n=0\/∃ g o row e fr,a=some ⟨g,o,none⟩/\S g/\w.heap[g]? = some (.cells row e fr) /\
  ∀ i,i<n->∀ j,j<k->∃ u,row[o+i*k+j]? = some u/\TR w S (f i j) u)
def TO (w:World):C->Value->(Nat->Prop)->Prop
 | .val u,v,_=>v=u/\plain u=true
 | .nl,v,_=>v=.slice none 0 0
 | .sl k n f,v,F=>((∃ ad,v=.slice ad 0 0)/\n=0)\/∃ g o cap row e,∃ G:Nat->Nat->Nat->Prop,v=.slice (some ⟨g,o,none⟩) n cap/\n<=cap/\o+cap*k<=row.size /\
  w.heap[g]? = some (.cells row e (0,0))/\F g /\
  (∀ i,i<n->∀ j,j<k->∃ u,row[o+i*k+j]? = some u/\TO w (f i j) u (G i j)) /\
  (∀ i,i<n->∀ j,j<k->∀ b,G i j b->F b/\b≠g) /\
  (∀ i,i<n->∀ j,j<k->∀ i',i'<n->∀ j',j'<k->∀ b,G i j b->G i' j' b->i=i'/\j=j')
def le:C->C->Prop
 | .val u,d=>d=.val u
 | .nl,d=>d=.nl\/∃ k f,d=.sl k 0 f
 | .sl k n f,d=>∃ f',d=.sl k n f'/\∀ i,i<n->∀ j,j<k->le (f i j) (f' i j)
def le.refl (c:C):le c c:=by
 induction c with
 | val v=>rfl
 | nl=>exact .inl rfl
 | sl k n f ih=>exact⟨f,rfl,λi _ j _=>ih i j⟩
def TR.frame {w w':World} {S S':Nat->Prop} {c:C}:∀ {v:Value},(∀ g,S g->(∃ o,w.heap[g]? = some o)->w'.heap[g]? = w.heap[g]?/\S' g)->TR w S c v->TR w' S' c v:=by
 induction c with
 | val u=>intro v _ h;exact h
 | nl=>intro v _ h;exact h
 | sl k n f ih=>
  intro v hs ⟨a,cap,hv,hc,h⟩;refine⟨a,cap,hv,hc,?_⟩;rcases h with h|⟨g,o,row,e,fr,ha,hS,hg,h⟩
  ·exact .inl h
  ·obtain⟨h1,h2⟩:=hs g hS ⟨_,hg⟩;grind
def TO.frame {w w':World} {c:C}:∀ {v:Value} {F F':Nat->Prop},(∀ g,F g->(∃ o,w.heap[g]? = some o)->w'.heap[g]? = w.heap[g]?/\F' g)->TO w c v F->TO w' c v F':=by
 induction c with
 | val u=>intro v F F' _ h;exact h
 | nl=>intro v F F' _ h;exact h
 | sl k n f ih=>
  intro v F F' hs h;rcases h with h|⟨g,o,cap,row,e,G,hv,hn,hc,hg,hF,h,hsub,hdis⟩
  ·exact .inl h
  ·obtain⟨h1,h2⟩:=hs g hF ⟨_,hg⟩;refine .inr ⟨g,o,cap,row,e,λi j b=>G i j b/\F' b,hv,hn,hc,h1.trans hg,h2,λi hi j hj=>?_,λi hi j hj b hb=>⟨hb.2,(hsub i hi j hj b hb.1).2⟩,λi hi j hj i' hi' j' hj' b hb hb'=>hdis i hi j hj i' hi' j' hj' b hb.1 hb'.1⟩;grind
def TO.read {w:World} {c:C}:∀ {v:Value} {F:Nat->Prop},TO w c v F->TR w F c v:=by
 induction c with
 | val u=>intro v F h;exact h
 | nl=>intro v F h;exact h
 | sl k n f ih=>
  intro v F h;rcases h with⟨⟨ad,rfl⟩,rfl⟩|⟨g,o,cap,row,e,G,hv,hn,hc,hg,hF,h,hsub,hdis⟩
  ·exact⟨ad,0,rfl,Y_ _,.inl rfl⟩
  ·refine⟨_,cap,hv,hn,.inr ⟨g,o,row,e,(0,0),rfl,hF,hg,λi hi j hj=>?_⟩⟩;obtain⟨u,hu,ht⟩:=h i hi j hj;exact⟨u,hu,(ih i j ht).frame λb hb _=>⟨rfl,(hsub i hi j hj b hb).1⟩⟩
def TR.le {w:World} {S:Nat->Prop} {c:C}:∀ {d:C} {v:Value},le c d->TR w S c v->TR w S d v:=by
 induction c with
 | val u=>intro d v hl h;obtain rfl:=hl;exact h
 | nl=>
  intro d v hl h;rcases hl with rfl|⟨k,f,rfl⟩
  ·exact h
  ·exact⟨none,0,h,Y_ _,.inl rfl⟩
 | sl k n f ih=>
  intro d v hl h;obtain⟨f',rfl,hl⟩:=hl;obtain⟨a,cap,hv,hc,h⟩:=h;refine⟨a,cap,hv,hc,?_⟩;grind
def TO.le {w:World} {c:C}:∀ {d:C} {v:Value} {F:Nat->Prop},le c d->TO w c v F->TO w d v F:=by
 induction c with
 | val u=>intro d v F hl h;obtain rfl:=hl;exact h
 | nl=>
  intro d v F hl h;rcases hl with rfl|⟨k,f,rfl⟩
  ·exact h
  ·exact .inl ⟨⟨none,h⟩,rfl⟩
 | sl k n f ih=>
  intro d v F hl h;obtain⟨f',rfl,hl⟩:=hl;rcases h with h|⟨g,o,cap,row,e,G,hv,hn,hc,hg,hF,h,hsub,hdis⟩
  ·exact .inl h
  ·exact .inr ⟨g,o,cap,row,e,G,hv,hn,hc,hg,hF,λi hi j hj=>let ⟨u,hu,ht⟩:=h i hi j hj;⟨u,hu,ih i j (hl i hi j hj) ht⟩,hsub,hdis⟩
def TR.one {w:World} {S:Nat->Prop} {c:C} {v:Value} (h:TR w S c v):v.oneCell'=true:=by
 cases c with
 | val u=>obtain⟨rfl,h⟩:=h;cases v<;>simp_all [plain,Value.oneCell']
 | nl=>obtain rfl:=h;rfl
 | sl k n f=>obtain⟨a,cap,rfl,_⟩:=h;rfl
end Go.D
namespace Go.D
structure FS where
 host:ByteArray
 path:ByteArray
 deriving DecidableEq,Inhabited
structure cU where
 name:ByteArray
 value:ByteArray
 deriving DecidableEq,Inhabited
structure af where
 kind:Int
 name:ByteArray
 bq:List cU
 text:ByteArray
 deriving DecidableEq,Inhabited
structure dj where
 rest:ByteArray
 deriving DecidableEq,Inhabited
structure cP where
 name:ByteArray
 text:ByteArray
 parent:Int
 bq:List cU
 deriving DecidableEq,Inhabited
structure aj where
 bj:List cP
 bn:List Int
 deriving DecidableEq,Inhabited
structure dE where
 name:ByteArray
 color:Int
 deriving DecidableEq,Inhabited
structure bA where
 rules:List dE
 deriving DecidableEq,Inhabited
structure bM where
 op:Int
 text:ByteArray
 deriving DecidableEq,Inhabited
structure aQ where
 set_:Bool
 bt:List ByteArray
 styles:List ByteArray
 images:List ByteArray
 nonce:ByteArray
 deriving DecidableEq,Inhabited
structure L_ where
 status:Int
 kind:Int
 body:ByteArray
 age:Int
 shares:Bool
 bm:ByteArray
 deriving DecidableEq,Inhabited
structure ay where
 kind:Int
 to:FS
 from_:ByteArray
 digest:ByteArray
 deriving DecidableEq,Inhabited
structure aD where
 path:ByteArray
 bd:L_
 deriving DecidableEq,Inhabited
structure V_ where
 host:ByteArray
 files:List aD
 deriving DecidableEq,Inhabited
structure ce where
 top:ByteArray
 to:FS
 bd:L_
 until_:Int
 deriving DecidableEq,Inhabited
structure bD where
 bh:List ce
 deriving DecidableEq,Inhabited
structure bE where
 top:ByteArray
 to:FS
 guess:Bool
 deriving DecidableEq,Inhabited
structure N_ where
 servers:List V_
 cache:bD
 log:List bE
 now:Int
 deriving DecidableEq,Inhabited
structure aw where
 mode:Int
 to:FS
 digest:ByteArray
 node:Int
 done:Bool
 code:Int
 body:ByteArray
 deriving DecidableEq,Inhabited
structure X_ where
 to:FS
 done:Bool
 code:Int
 body:ByteArray
 deriving DecidableEq,Inhabited
structure HO where
 addr:FS
 bm:aQ
 tok:dj
 bp:List af
 ended:Bool
 ba:aj
 bf:List aw
 bi:List X_
 bh:List FS
 block:Int
 inline:Int
 bo:Int
 bu:Int
 ran:List FS
 log:List ByteArray
 loaded:Bool
 deriving DecidableEq,Inhabited
structure aZ where
 to:FS
 bd:L_
 used:Bool
 deriving DecidableEq,Inhabited
structure ao where
 to:FS
 left:Int
 guess:Bool
 bd:L_
 deriving DecidableEq,Inhabited
structure O_ where
 net:N_
 page:HO
 parts:List ByteArray
 conns:List ao
 guesses:List aZ
 deriving DecidableEq,Inhabited
inductive Ty where
 | int
 | str
 | bool
 | u8
 | addr
 | attr
 | token
 | tokenizer
 | node
 | ba
 | rule
 | sheet
 | line
 | bm
 | bd
 | request
 | file
 | server
 | entry
 | cache
 | sent
 | net
 | slot
 | module
 | page
 | guess
 | conn
 | loader
 deriving DecidableEq
abbrev El:Ty->Type
 | .int=>Int
 | .str=>ByteArray
 | .bool=>Bool
 | .u8=>Int
 | .addr=>FS
 | .attr=>cU
 | .token=>af
 | .tokenizer=>dj
 | .node=>cP
 | .ba=>aj
 | .rule=>dE
 | .sheet=>bA
 | .line=>bM
 | .bm=>aQ
 | .bd=>L_
 | .request=>ay
 | .file=>aD
 | .server=>V_
 | .entry=>ce
 | .cache=>bD
 | .sent=>bE
 | .net=>N_
 | .slot=>aw
 | .module=>X_
 | .page=>HO
 | .guess=>aZ
 | .conn=>ao
 | .loader=>O_
instance (t:Ty):Inhabited (El t):=match t with
 | .int=>inferInstanceAs (Inhabited (Int))
 | .str=>inferInstanceAs (Inhabited (ByteArray))
 | .bool=>inferInstanceAs (Inhabited (Bool))
 | .u8=>inferInstanceAs (Inhabited (Int))
 | .addr=>inferInstanceAs (Inhabited (FS))
 | .attr=>inferInstanceAs (Inhabited (cU))
 | .token=>inferInstanceAs (Inhabited (af))
 | .tokenizer=>inferInstanceAs (Inhabited (dj))
 | .node=>inferInstanceAs (Inhabited (cP))
 | .ba=>inferInstanceAs (Inhabited (aj))
 | .rule=>inferInstanceAs (Inhabited (dE))
 | .sheet=>inferInstanceAs (Inhabited (bA))
 | .line=>inferInstanceAs (Inhabited (bM))
 | .bm=>inferInstanceAs (Inhabited (aQ))
 | .bd=>inferInstanceAs (Inhabited (L_))
 | .request=>inferInstanceAs (Inhabited (ay))
 | .file=>inferInstanceAs (Inhabited (aD))
 | .server=>inferInstanceAs (Inhabited (V_))
 | .entry=>inferInstanceAs (Inhabited (ce))
 | .cache=>inferInstanceAs (Inhabited (bD))
 | .sent=>inferInstanceAs (Inhabited (bE))
 | .net=>inferInstanceAs (Inhabited (N_))
 | .slot=>inferInstanceAs (Inhabited (aw))
 | .module=>inferInstanceAs (Inhabited (X_))
 | .page=>inferInstanceAs (Inhabited (HO))
 | .guess=>inferInstanceAs (Inhabited (aZ))
 | .conn=>inferInstanceAs (Inhabited (ao))
 | .loader=>inferInstanceAs (Inhabited (O_))
inductive FC where
 | val (v:Value)
 | nl
 | l (t:Ty) (xs:List (El t))
instance:Inhabited FC:=⟨.nl⟩
def Ty.width:Ty->Nat
 | .int=>1
 | .str=>1
 | .bool=>1
 | .u8=>1
 | .addr=>2
 | .attr=>2
 | .token=>4
 | .tokenizer=>1
 | .node=>4
 | .ba=>2
 | .rule=>2
 | .sheet=>1
 | .line=>2
 | .bm=>5
 | .bd=>6
 | .request=>5
 | .file=>7
 | .server=>2
 | .entry=>10
 | .cache=>1
 | .sent=>4
 | .net=>4
 | .slot=>8
 | .module=>5
 | .page=>22
 | .guess=>9
 | .conn=>10
 | .loader=>29
def Ty.rank:Ty->Nat
 | .int=>0
 | .str=>0
 | .bool=>0
 | .u8=>0
 | .addr=>0
 | .attr=>0
 | .token=>1
 | .tokenizer=>0
 | .node=>1
 | .ba=>2
 | .rule=>0
 | .sheet=>1
 | .line=>0
 | .bm=>1
 | .bd=>0
 | .request=>0
 | .file=>0
 | .server=>1
 | .entry=>0
 | .cache=>1
 | .sent=>0
 | .net=>2
 | .slot=>0
 | .module=>0
 | .page=>2
 | .guess=>0
 | .conn=>0
 | .loader=>2
def enc:(t:Ty)->El t->List FC
 | .int,x=>[.val (.int .i64 x)]
 | .str,x=>[.val (.string x)]
 | .bool,x=>[.val (.bool x)]
 | .u8,x=>[.val (.int .u8 x)]
 | .addr,x=>[.val (.string x.host),.val (.string x.path)]
 | .attr,x=>[.val (.string x.name),.val (.string x.value)]
 | .token,x=>[.val (.int .i64 x.kind),.val (.string x.name),.l .attr x.bq,.val (.string x.text)]
 | .tokenizer,x=>[.val (.string x.rest)]
 | .node,x=>[.val (.string x.name),.val (.string x.text),.val (.int .i64 x.parent),.l .attr x.bq]
 | .ba,x=>[.l .node x.bj,.l .int x.bn]
 | .rule,x=>[.val (.string x.name),.val (.int .i64 x.color)]
 | .sheet,x=>[.l .rule x.rules]
 | .line,x=>[.val (.int .i64 x.op),.val (.string x.text)]
 | .bm,x=>[.val (.bool x.set_),.l .str x.bt,.l .str x.styles,.l .str x.images,.val (.string x.nonce)]
 | .bd,x=>[.val (.int .i64 x.status),.val (.int .i64 x.kind),.val (.string x.body),.val (.int .i64 x.age),.val (.bool x.shares),.val (.string x.bm)]
 | .request,x=>[.val (.int .i64 x.kind),.val (.string x.to.host),.val (.string x.to.path),.val (.string x.from_),.val (.string x.digest)]
 | .file,x=>[.val (.string x.path),.val (.int .i64 x.bd.status),.val (.int .i64 x.bd.kind),.val (.string x.bd.body),.val (.int .i64 x.bd.age),.val (.bool x.bd.shares),.val (.string x.bd.bm)]
 | .server,x=>[.val (.string x.host),.l .file x.files]
 | .entry,x=>[.val (.string x.top),.val (.string x.to.host),.val (.string x.to.path),.val (.int .i64 x.bd.status),.val (.int .i64 x.bd.kind),.val (.string x.bd.body),.val (.int .i64 x.bd.age),.val (.bool x.bd.shares),.val (.string x.bd.bm),.val (.int .i64 x.until_)]
 | .cache,x=>[.l .entry x.bh]
 | .sent,x=>[.val (.string x.top),.val (.string x.to.host),.val (.string x.to.path),.val (.bool x.guess)]
 | .net,x=>[.l .server x.servers,.l .entry x.cache.bh,.l .sent x.log,.val (.int .i64 x.now)]
 | .slot,x=>[.val (.int .i64 x.mode),.val (.string x.to.host),.val (.string x.to.path),.val (.string x.digest),.val (.int .i64 x.node),.val (.bool x.done),.val (.int .i64 x.code),.val (.string x.body)]
 | .module,x=>[.val (.string x.to.host),.val (.string x.to.path),.val (.bool x.done),.val (.int .i64 x.code),.val (.string x.body)]
 | .page,x=>[.val (.string x.addr.host),.val (.string x.addr.path),.val (.bool x.bm.set_),.l .str x.bm.bt,.l .str x.bm.styles,.l .str x.bm.images,.val (.string x.bm.nonce),.val (.string x.tok.rest),.l .token x.bp,.val (.bool x.ended),.l .node x.ba.bj,.l .int x.ba.bn,.l .slot x.bf,.l .module x.bi,.l .addr x.bh,.val (.int .i64 x.block),.val (.int .i64 x.inline),.val (.int .i64 x.bo),.val (.int .i64 x.bu),.l .addr x.ran,.l .str x.log,.val (.bool x.loaded)]
 | .guess,x=>[.val (.string x.to.host),.val (.string x.to.path),.val (.int .i64 x.bd.status),.val (.int .i64 x.bd.kind),.val (.string x.bd.body),.val (.int .i64 x.bd.age),.val (.bool x.bd.shares),.val (.string x.bd.bm),.val (.bool x.used)]
 | .conn,x=>[.val (.string x.to.host),.val (.string x.to.path),.val (.int .i64 x.left),.val (.bool x.guess),.val (.int .i64 x.bd.status),.val (.int .i64 x.bd.kind),.val (.string x.bd.body),.val (.int .i64 x.bd.age),.val (.bool x.bd.shares),.val (.string x.bd.bm)]
 | .loader,x=>[.l .server x.net.servers,.l .entry x.net.cache.bh,.l .sent x.net.log,.val (.int .i64 x.net.now),.val (.string x.page.addr.host),.val (.string x.page.addr.path),.val (.bool x.page.bm.set_),.l .str x.page.bm.bt,.l .str x.page.bm.styles,.l .str x.page.bm.images,.val (.string x.page.bm.nonce),.val (.string x.page.tok.rest),.l .token x.page.bp,.val (.bool x.page.ended),.l .node x.page.ba.bj,.l .int x.page.ba.bn,.l .slot x.page.bf,.l .module x.page.bi,.l .addr x.page.bh,.val (.int .i64 x.page.block),.val (.int .i64 x.page.inline),.val (.int .i64 x.page.bo),.val (.int .i64 x.page.bu),.l .addr x.page.ran,.l .str x.page.log,.val (.bool x.page.loaded),.l .str x.parts,.l .conn x.conns,.l .guess x.guesses]
def AlP:FC->Option Int
 | .val (.int .i64 n)=>some n
 | _=>none
def AlH:FC->Option Int
 | .val (.int .u8 n)=>some n
 | _=>none
def Alq:FC->Option ByteArray
 | .val (.string s)=>some s
 | _=>none
def AlA:FC->Option Bool
 | .val (.bool b)=>some b
 | _=>none
def Alk (t:Ty):FC->Option (List (El t))
 | .nl=>some []
 | .l t' xs=>if h:t'=t then some (h▸xs) else none
 | _=>none
def pI {α:Type} (fs:List FC) (k:Int->List FC->Option α):Option α:=match fs with|c::r=>(AlP c).bind λa=>k a r|[]=>none
def pU {α:Type} (fs:List FC) (k:Int->List FC->Option α):Option α:=match fs with|c::r=>(AlH c).bind λa=>k a r|[]=>none
def pS {α:Type} (fs:List FC) (k:ByteArray->List FC->Option α):Option α:=match fs with|c::r=>(Alq c).bind λa=>k a r|[]=>none
def pB {α:Type} (fs:List FC) (k:Bool->List FC->Option α):Option α:=match fs with|c::r=>(AlA c).bind λa=>k a r|[]=>none
def pL {α:Type} (t:Ty) (fs:List FC) (k:List (El t)->List FC->Option α):Option α:=match fs with|c::r=>(Alk t c).bind λa=>k a r|[]=>none
def pE {α:Type} (fs:List FC) (x:α):Option α:=match fs with|[]=>some x|_=>none
def dec:(t:Ty)->List FC->Option (El t)
 | .int,r=>pI r λa r=>pE r a
 | .str,r=>pS r λa r=>pE r a
 | .bool,r=>pB r λa r=>pE r a
 | .u8,r=>pU r λa r=>pE r a
 | .addr,r=>pS r λa0 r=>pS r λa1 r=>pE r ⟨a0,a1⟩
 | .attr,r=>pS r λa0 r=>pS r λa1 r=>pE r ⟨a0,a1⟩
 | .token,r=>pI r λa0 r=>pS r λa1 r=>pL .attr r λa2 r=>pS r λa3 r=>pE r ⟨a0,a1,a2,a3⟩
 | .tokenizer,r=>pS r λa0 r=>pE r ⟨a0⟩
 | .node,r=>pS r λa0 r=>pS r λa1 r=>pI r λa2 r=>pL .attr r λa3 r=>pE r ⟨a0,a1,a2,a3⟩
 | .ba,r=>pL .node r λa0 r=>pL .int r λa1 r=>pE r ⟨a0,a1⟩
 | .rule,r=>pS r λa0 r=>pI r λa1 r=>pE r ⟨a0,a1⟩
 | .sheet,r=>pL .rule r λa0 r=>pE r ⟨a0⟩
 | .line,r=>pI r λa0 r=>pS r λa1 r=>pE r ⟨a0,a1⟩
 | .bm,r=>pB r λa0 r=>pL .str r λa1 r=>pL .str r λa2 r=>pL .str r λa3 r=>pS r λa4 r=>pE r ⟨a0,a1,a2,a3,a4⟩
 | .bd,r=>pI r λa0 r=>pI r λa1 r=>pS r λa2 r=>pI r λa3 r=>pB r λa4 r=>pS r λa5 r=>pE r ⟨a0,a1,a2,a3,a4,a5⟩
 | .request,r=>pI r λa0 r=>pS r λa1 r=>pS r λa2 r=>pS r λa3 r=>pS r λa4 r=>pE r ⟨a0,⟨a1,a2⟩,a3,a4⟩
 | .file,r=>pS r λa0 r=>pI r λa1 r=>pI r λa2 r=>pS r λa3 r=>pI r λa4 r=>pB r λa5 r=>pS r λa6 r=>pE r ⟨a0,⟨a1,a2,a3,a4,a5,a6⟩⟩
 | .server,r=>pS r λa0 r=>pL .file r λa1 r=>pE r ⟨a0,a1⟩
 | .entry,r=>pS r λa0 r=>pS r λa1 r=>pS r λa2 r=>pI r λa3 r=>pI r λa4 r=>pS r λa5 r=>pI r λa6 r=>pB r λa7 r=>pS r λa8 r=>pI r λa9 r=>pE r ⟨a0,⟨a1,a2⟩,⟨a3,a4,a5,a6,a7,a8⟩,a9⟩
 | .cache,r=>pL .entry r λa0 r=>pE r ⟨a0⟩
 | .sent,r=>pS r λa0 r=>pS r λa1 r=>pS r λa2 r=>pB r λa3 r=>pE r ⟨a0,⟨a1,a2⟩,a3⟩
 | .net,r=>pL .server r λa0 r=>pL .entry r λa1 r=>pL .sent r λa2 r=>pI r λa3 r=>pE r ⟨a0,⟨a1⟩,a2,a3⟩
 | .slot,r=>pI r λa0 r=>pS r λa1 r=>pS r λa2 r=>pS r λa3 r=>pI r λa4 r=>pB r λa5 r=>pI r λa6 r=>pS r λa7 r=>pE r ⟨a0,⟨a1,a2⟩,a3,a4,a5,a6,a7⟩
 | .module,r=>pS r λa0 r=>pS r λa1 r=>pB r λa2 r=>pI r λa3 r=>pS r λa4 r=>pE r ⟨⟨a0,a1⟩,a2,a3,a4⟩
 | .page,r=>pS r λa0 r=>pS r λa1 r=>pB r λa2 r=>pL .str r λa3 r=>pL .str r λa4 r=>pL .str r λa5 r=>pS r λa6 r=>pS r λa7 r=>pL .token r λa8 r=>pB r λa9 r=>pL .node r λa10 r=>pL .int r λa11 r=>pL .slot r λa12 r=>pL .module r λa13 r=>pL .addr r λa14 r=>pI r λa15 r=>pI r λa16 r=>pI r λa17 r=>pI r λa18 r=>pL .addr r λa19 r=>pL .str r λa20 r=>pB r λa21 r=>pE r ⟨⟨a0,a1⟩,⟨a2,a3,a4,a5,a6⟩,⟨a7⟩,a8,a9,⟨a10,a11⟩,a12,a13,a14,a15,a16,a17,a18,a19,a20,a21⟩
 | .guess,r=>pS r λa0 r=>pS r λa1 r=>pI r λa2 r=>pI r λa3 r=>pS r λa4 r=>pI r λa5 r=>pB r λa6 r=>pS r λa7 r=>pB r λa8 r=>pE r ⟨⟨a0,a1⟩,⟨a2,a3,a4,a5,a6,a7⟩,a8⟩
 | .conn,r=>pS r λa0 r=>pS r λa1 r=>pI r λa2 r=>pB r λa3 r=>pI r λa4 r=>pI r λa5 r=>pS r λa6 r=>pI r λa7 r=>pB r λa8 r=>pS r λa9 r=>pE r ⟨⟨a0,a1⟩,a2,a3,⟨a4,a5,a6,a7,a8,a9⟩⟩
 | .loader,r=>pL .server r λa0 r=>pL .entry r λa1 r=>pL .sent r λa2 r=>pI r λa3 r=>pS r λa4 r=>pS r λa5 r=>pB r λa6 r=>pL .str r λa7 r=>pL .str r λa8 r=>pL .str r λa9 r=>pS r λa10 r=>pS r λa11 r=>pL .token r λa12 r=>pB r λa13 r=>pL .node r λa14 r=>pL .int r λa15 r=>pL .slot r λa16 r=>pL .module r λa17 r=>pL .addr r λa18 r=>pI r λa19 r=>pI r λa20 r=>pI r λa21 r=>pI r λa22 r=>pL .addr r λa23 r=>pL .str r λa24 r=>pB r λa25 r=>pL .str r λa26 r=>pL .conn r λa27 r=>pL .guess r λa28 r=>pE r ⟨⟨a0,⟨a1⟩,a2,a3⟩,⟨⟨a4,a5⟩,⟨a6,a7,a8,a9,a10⟩,⟨a11⟩,a12,a13,⟨a14,a15⟩,a16,a17,a18,a19,a20,a21,a22,a23,a24,a25⟩,a26,a27,a28⟩
def fcLe (c d:FC):Prop:=d=c\/(c=.nl/\∃ t,d=.l t [])
inductive FcsLe:List FC->List FC->Prop where
 | nil:FcsLe [] []
 | cons {c d:FC} {cs ds:List FC}:fcLe c d->FcsLe cs ds->FcsLe (c::cs) (d::ds)
def AiR {c:FC} {n:Int} (h:AlP c=some n):fcLe c (.val (.int .i64 n)):=by
 unfold AlP at h;split at h<;>simp_all [fcLe]
def AiE {c:FC} {n:Int} (h:AlH c=some n):fcLe c (.val (.int .u8 n)):=by
 unfold AlH at h;split at h<;>simp_all [fcLe]
def AiI {c:FC} {n:ByteArray} (h:Alq c=some n):fcLe c (.val (.string n)):=by
 unfold Alq at h;split at h<;>simp_all [fcLe]
def Aic {c:FC} {n:Bool} (h:AlA c=some n):fcLe c (.val (.bool n)):=by
 unfold AlA at h;split at h<;>simp_all [fcLe]
def Abg {t:Ty} {c:FC} {xs:List (El t)} (h:Alk t c=some xs):fcLe c (.l t xs):=by
 unfold Alk at h;split at h
 ·simp only[Q_] at h;subst h;exact .inr ⟨rfl,t,rfl⟩
 ·split at h
  ·rename_i e;subst e;simp only[Q_] at h;subst h;exact .inl rfl
  ·simp at h
 ·simp at h
def bind_some {α β:Type} {o:Option α} {f:α->Option β} {b:β} (h:o.bind f=some b):∃ a,o=some a/\f a=some b:=Option.bind_eq_some_iff.1 h
def AlO {α:Type} {fs:List FC} {x y:α} (h:pE fs x=some y):fs=[]/\y=x:=by
 unfold pE at h;split at h<;>simp_all
def Al5 {α:Type} {fs:List FC} {k:Int->List FC->Option α} {x:α} (h:pI fs k=some x):∃ c r a,fs=c::r/\fcLe c (.val (.int .i64 a))/\k a r=some x:=by
 unfold pI at h;split at h
 ·rename_i c r;obtain⟨a,h0,h⟩:=bind_some h;exact⟨c,r,a,rfl,AiR h0,h⟩
 ·simp at h
def Als {α:Type} {fs:List FC} {k:Int->List FC->Option α} {x:α} (h:pU fs k=some x):∃ c r a,fs=c::r/\fcLe c (.val (.int .u8 a))/\k a r=some x:=by
 unfold pU at h;split at h
 ·rename_i c r;obtain⟨a,h0,h⟩:=bind_some h;exact⟨c,r,a,rfl,AiE h0,h⟩
 ·simp at h
def AlM {α:Type} {fs:List FC} {k:ByteArray->List FC->Option α} {x:α} (h:pS fs k=some x):∃ c r a,fs=c::r/\fcLe c (.val (.string a))/\k a r=some x:=by
 unfold pS at h;split at h
 ·rename_i c r;obtain⟨a,h0,h⟩:=bind_some h;exact⟨c,r,a,rfl,AiI h0,h⟩
 ·simp at h
def AlF {α:Type} {fs:List FC} {k:Bool->List FC->Option α} {x:α} (h:pB fs k=some x):∃ c r a,fs=c::r/\fcLe c (.val (.bool a))/\k a r=some x:=by
 unfold pB at h;split at h
 ·rename_i c r;obtain⟨a,h0,h⟩:=bind_some h;exact⟨c,r,a,rfl,Aic h0,h⟩
 ·simp at h
def Alu {α:Type} {t:Ty} {fs:List FC} {k:List (El t)->List FC->Option α} {x:α} (h:pL t fs k=some x):∃ c r a,fs=c::r/\fcLe c (.l t a)/\k a r=some x:=by
 unfold pL at h;split at h
 ·rename_i c r;obtain⟨a,h0,h⟩:=bind_some h;exact⟨c,r,a,rfl,Abg h0,h⟩
 ·simp at h
def dec_ok (t:Ty) (fs:List FC) (x:El t) (h:dec t fs=some x):FcsLe fs (enc t x):=by
 cases t;all_goals
  unfold dec at h;repeat (first
   | obtain⟨_,_,_,rfl,_,h⟩:=AlM h
   | obtain⟨_,_,_,rfl,_,h⟩:=Al5 h
   | obtain⟨_,_,_,rfl,_,h⟩:=Alu h
   | obtain⟨_,_,_,rfl,_,h⟩:=AlF h
   | obtain⟨_,_,_,rfl,_,h⟩:=Als h)
  obtain⟨rfl,rfl⟩:=AlO h;repeat first
   | exact FcsLe.nil
   | refine FcsLe.cons ‹_› ?_
def K1 (t:Ty) (x:El t):(enc t x).length=t.width:=by cases t<;>rfl
def EB (t:Ty):0<t.width:=by cases t<;>decide
def FC.rank:FC->Nat
 | .l t _=>t.rank+1
 | _=>0
def Wi (t:Ty) (x:El t):(enc t x).all (λc=>decide (c.rank<=t.rank))=true:=by cases t<;>rfl
def IN (t:Ty):Bool:=t.rank==0
end Go.D
namespace Go.D
def cell (t:Ty) (xs:List (El t)) (i j:Nat):FC:=(enc t (xs.getD i default)).getD j .nl
def Ajx:Nat->FC->C
 | _,.val u=>.val u
 | _,.nl=>.nl
 | 0,.l _ _=>.nl
 | d+1,.l t xs=>.sl t.width xs.length (λi j=>Ajx d (cell t xs i j))
def fcC (c:FC):C:=Ajx 8 c
def ZP (t:Ty):t.rank<=6:=by cases t<;>decide
def Sf (t:Ty) (xs:List (El t)) (i j:Nat):(cell t xs i j).rank<=t.rank:=by
 unfold cell;have h:=Wi t (xs.getD i default);generalize enc t (xs.getD i default)=l at h;rw[aH] at h;rw[aV];cases hq:l[j]? with
 | none=>exact Nat.zero_le _
 | some c=>simpa using h c (fY hq)
def AbO:∀ (d e:Nat) (c:FC),c.rank<=d->c.rank<=e->Ajx d c=Ajx e c:=by
 intro d
 induction d with
 | zero=>
  intro e c h1 h2;cases c with
  | val u=>cases e<;>rfl
  | nl=>cases e<;>rfl
  | l t xs=>simp[FC.rank] at h1
 | succ d ih=>
  intro e c h1 h2;cases c with
  | val u=>cases e<;>rfl
  | nl=>cases e<;>rfl
  | l t xs=>
   cases e with
   | zero=>simp[FC.rank] at h2
   | succ e=>
    simp only[FC.rank] at h1 h2;simp only[Ajx];congr 1;funext i j;have:=Sf t xs i j;grind
def DH (t:Ty) (xs:List (El t)):fcC (.l t xs)=.sl t.width xs.length (λi j=>fcC (cell t xs i j)):=by
 unfold fcC
 conv=>lhs;unfold Ajx
 congr 1;funext i j;have h1:=Sf t xs i j;have h2:=ZP t;exact AbO 7 8 _ o_ o_
@[simp] theorem AlW (u:Value):fcC (.val u)=.val u:=rfl
@[simp] theorem AmL:fcC .nl=.nl:=rfl
def fcLe.le {c d:FC} (h:fcLe c d):D.le (fcC c) (fcC d):=by
 rcases h with rfl|⟨rfl,t,rfl⟩
 ·exact le.refl _
 ·rw[DH];exact .inr ⟨_,_,rfl⟩
def fcLe.refl (c:FC):fcLe c c:=.inl rfl
def FcsLe.get {cs ds:List FC} (h:FcsLe cs ds):cs.length=ds.length/\∀ j,fcLe (cs.getD j .nl) (ds.getD j .nl):=by
 induction h with
 | nil=>exact⟨rfl,λj=>by simpa using fcLe.refl _⟩
 | cons h1 h2 ih=>
  refine⟨by simp[ih.1],λj=>?_⟩;cases j with
  | zero=>simpa using h1
  | succ j=>simpa using ih.2 j
def Io {t:Ty} {xs:List (El t)} {i:Nat} {x:El t} (h:xs[i]? = some x) (j:Nat):cell t xs i j=(enc t x).getD j .nl:=by
 simp[cell,aV,h]
def Hk {t:Ty} {xs ys:List (El t)} {i j:Nat} (h:i<xs.length):cell t (xs++ys) i j=cell t xs i j:=by
 simp[cell,aV,cL h]
def Gj {t:Ty} {xs ys:List (El t)} {i j:Nat} (h:xs.length<=i):cell t (xs++ys) i j=cell t ys (i-xs.length) j:=by
 simp[cell,aV,cV h]
def cut {α:Type} (xs:List α) (lo n:Nat):List α:=(xs.drop lo).take n
def PK {t:Ty} {xs:List (El t)} {lo n i j:Nat} (h:i<n):cell t (cut xs lo n) i j=cell t xs (lo+i) j:=by
 simp[cell,cut,aV,h,List.getElem?_drop]
def PV {α:Type} {xs:List α} {lo n:Nat} (h:lo+n<=xs.length):(cut xs lo n).length=n:=by
 simp[cut];omega
def FC.isVal:FC->Bool
 | .val _=>true
 | _=>false
def Afk (t:Ty) (h:IN t=true) (x:El t):(enc t x).all FC.isVal=true:=by
 cases t<;>first|rfl|exact absurd h (by decide)
def Ey {t:Ty} (h:IN t=true) (xs:List (El t)) (i j:Nat) (hj:j<t.width):∃ u,cell t xs i j=.val u:=by
 unfold cell;have h1:=Afk t h (xs.getD i default);have h2:=K1 t (xs.getD i default);generalize enc t (xs.getD i default)=l at h1 h2;rw[aH] at h1;have hlt:j<l.length:=o_
 have h3:=h1 l[j] (List.getElem_mem hlt);rw[aV,aG hlt,Option.getD_some];generalize l[j]=c at h3;cases c with
 | val u=>exact⟨u,rfl⟩
 | nl=>simp[FC.isVal] at h3
 | l t xs=>simp[FC.isVal] at h3
def Gx (cs:List FC) (off:Nat) (us:List FC):List FC:=cs.take off++us++cs.drop (off+us.length)
def upd (t:Ty) (off:Nat) (us:List FC) (x:El t):El t:=(dec t (Gx (enc t x) off us)).getD x
def AdK {t:Ty} {off:Nat} {us:List FC} {x:El t} (h:(dec t (Gx (enc t x) off us)).isSome=true):FcsLe (Gx (enc t x) off us) (enc t (upd t off us x)):=by
 obtain⟨y,hy⟩:=Option.isSome_iff_exists.1 h;simp only[upd,hy,Option.getD_some];exact dec_ok t _ _ hy
def Em {cs us:List FC} {off j:Nat} (h:off+us.length<=cs.length):(Gx cs off us).getD j .nl=if off<=j/\j<off+us.length then us.getD (j-off) .nl else cs.getD j .nl:=by
 simp only[Gx,aV,bF];grind
def I5 {t:Ty} {xs:List (El t)} {e i j:Nat} {g:El t->El t} (h:e<xs.length):cell t (xs.modify e g) i j=if i=e then(enc t (g (xs.getD e default))).getD j .nl else cell t xs i j:=by
 simp only[cell,aV,List.getElem?_modify];grind
end Go.D
namespace Go.D
inductive Shp where
 | ki
 | ku
 | ks
 | kb
 | kl (t:Ty)
 | kx
 deriving DecidableEq
def FC.shp:FC->Shp
 | .val (.int .i64 _)=>.ki
 | .val (.int .u8 _)=>.ku
 | .val (.string _)=>.ks
 | .val (.bool _)=>.kb
 | .l t _=>.kl t
 | _=>.kx
def Ty.shapes:Ty->List Shp
 | .int=>[.ki]
 | .str=>[.ks]
 | .bool=>[.kb]
 | .u8=>[.ku]
 | .addr=>[.ks,.ks]
 | .attr=>[.ks,.ks]
 | .token=>[.ki,.ks,.kl .attr,.ks]
 | .tokenizer=>[.ks]
 | .node=>[.ks,.ks,.ki,.kl .attr]
 | .ba=>[.kl .node,.kl .int]
 | .rule=>[.ks,.ki]
 | .sheet=>[.kl .rule]
 | .line=>[.ki,.ks]
 | .bm=>[.kb,.kl .str,.kl .str,.kl .str,.ks]
 | .bd=>[.ki,.ki,.ks,.ki,.kb,.ks]
 | .request=>[.ki,.ks,.ks,.ks,.ks]
 | .file=>[.ks,.ki,.ki,.ks,.ki,.kb,.ks]
 | .server=>[.ks,.kl .file]
 | .entry=>[.ks,.ks,.ks,.ki,.ki,.ks,.ki,.kb,.ks,.ki]
 | .cache=>[.kl .entry]
 | .sent=>[.ks,.ks,.ks,.kb]
 | .net=>[.kl .server,.kl .entry,.kl .sent,.ki]
 | .slot=>[.ki,.ks,.ks,.ks,.ki,.kb,.ki,.ks]
 | .module=>[.ks,.ks,.kb,.ki,.ks]
 | .page=>[.ks,.ks,.kb,.kl .str,.kl .str,.kl .str,.ks,.ks,.kl .token,.kb,.kl .node,.kl .int,.kl .slot,.kl .module,.kl .addr,.ki,.ki,.ki,.ki,.kl .addr,.kl .str,.kb]
 | .guess=>[.ks,.ks,.ki,.ki,.ks,.ki,.kb,.ks,.kb]
 | .conn=>[.ks,.ks,.ki,.kb,.ki,.ki,.ks,.ki,.kb,.ks]
 | .loader=>[.kl .server,.kl .entry,.kl .sent,.ki,.ks,.ks,.kb,.kl .str,.kl .str,.kl .str,.ks,.ks,.kl .token,.kb,.kl .node,.kl .int,.kl .slot,.kl .module,.kl .addr,.ki,.ki,.ki,.ki,.kl .addr,.kl .str,.kb,.kl .str,.kl .conn,.kl .guess]
def sI {fs:List FC} {r:List Shp} (h:fs.map FC.shp=.ki::r):∃ (a:Int) (gs:List FC),fs=.val (.int .i64 a)::gs/\gs.map FC.shp=r:=by
 cases fs with
 | nil=>simp at h
 | cons c gs=>
  simp only[bz,List.cons.injEq] at h;obtain⟨h1,h2⟩:=h;unfold FC.shp at h1;grind
def sU {fs:List FC} {r:List Shp} (h:fs.map FC.shp=.ku::r):∃ (a:Int) (gs:List FC),fs=.val (.int .u8 a)::gs/\gs.map FC.shp=r:=by
 cases fs with
 | nil=>simp at h
 | cons c gs=>
  simp only[bz,List.cons.injEq] at h;obtain⟨h1,h2⟩:=h;unfold FC.shp at h1;grind
def sS {fs:List FC} {r:List Shp} (h:fs.map FC.shp=.ks::r):∃ (a:ByteArray) (gs:List FC),fs=.val (.string a)::gs/\gs.map FC.shp=r:=by
 cases fs with
 | nil=>simp at h
 | cons c gs=>
  simp only[bz,List.cons.injEq] at h;obtain⟨h1,h2⟩:=h;unfold FC.shp at h1;grind
def sB {fs:List FC} {r:List Shp} (h:fs.map FC.shp=.kb::r):∃ (a:Bool) (gs:List FC),fs=.val (.bool a)::gs/\gs.map FC.shp=r:=by
 cases fs with
 | nil=>simp at h
 | cons c gs=>
  simp only[bz,List.cons.injEq] at h;obtain⟨h1,h2⟩:=h;unfold FC.shp at h1;grind
def sL {t:Ty} {fs:List FC} {r:List Shp} (h:fs.map FC.shp=.kl t::r):∃ (a:List (El t)) (gs:List FC),fs=.l t a::gs/\gs.map FC.shp=r:=by
 cases fs with
 | nil=>simp at h
 | cons c gs=>
  simp only[bz,List.cons.injEq] at h;obtain⟨h1,h2⟩:=h;unfold FC.shp at h1;grind
def sE {fs:List FC} (h:fs.map FC.shp=[]):fs=[]:=by simpa using h
def Z8 {t:Ty} {fs:List FC} (h:(dec t fs).isSome=true) (h2:∀ x,dec t fs=some x->fs=enc t x):∃ x:El t,fs=enc t x:=⟨_,h2 _ (Option.some_get h).symm⟩
def SB (t:Ty) (fs:List FC) (h:fs.map FC.shp=t.shapes):∃ x:El t,fs=enc t x:=by
 cases t;all_goals
  repeat
   first|have q:=sS h|have q:=sI h|have q:=sL h|have q:=sB h|have q:=sU h
   obtain⟨_,_,e,k⟩:=q;clear h;subst e;have h:=k;clear k
  obtain rfl:=sE h;exact Z8 rfl λx h=>by cases (show some _=some x from h);rfl
end Go.D
namespace Go.D
def DrLe (a b:Nat):Prop:=True
def DrLe.refl (a:Nat):DrLe a a:=trivial
def DrLe.succ (a:Nat):DrLe a (a+1):=trivial
def DrLe.add (a b:Nat):DrLe a (a+b):=trivial
def DrLe.trans {a b c:Nat} (h:DrLe a b) (h2:DrLe b c):DrLe a c:=trivial
end Go.D
namespace Go.D
inductive Cell where
 | sc (v:Value)
 | tt
 | ff
 | nil
 | ref (l:Nat)
 | sub (l k lo n:Nat)
 | im (s:Option Nat) (t:Ty) (xs:List (El t))
 | dead
instance:Inhabited Cell:=⟨.dead⟩
inductive Cap where
 | ptr (b:Nat)
 | aptr (cs:List FC)
inductive TV where
 | v (agg:Bool) (cs:List Cell)
 | tup (ps:List (Bool×List Cell))
 | ptr (b off:Nat)
 | eptr (l k i off:Nat)
 | sptr (s:Option Nat) (t:Ty) (x:El t) (off:Nat)
 | inn (l k i off:Nat) (t:Ty) (xs:List (El t))
 | nptr (l k i off:Nat) (t:Ty) (xs:List (El t)) (i2 off2:Nat)
 | app (l i j:Nat) (tt:Ty) (ts:List (El tt)) (t:Ty) (xs:List (El t))
 | capd (l c:Nat)
 | lit (b n:Nat) (t:Ty)
 | aptr (cs:List FC) (off:Nat)
 | clo (fn:Nat) (caps:List Cap)
 | cur
 | dead
instance:Inhabited TV:=⟨.dead⟩
structure Tree where
 t:Ty
 xs:List (El t)
def Tree.k (T:Tree):Nat:=T.t.width
def Tree.n (T:Tree):Nat:=T.xs.length
def Tree.f (T:Tree) (i j:Nat):C:=fcC (cell T.t T.xs i j)
def Ce (T:Tree):fcC (.l T.t T.xs)=.sl T.k T.n T.f:=DH T.t T.xs
structure St where
 nt:Nat
 tm:List (Nat×TV)
 bx:List (Nat×List Cell)
 hp:List (Nat×Tree)
 fb:List Nat
 fl:List Nat
def look {α:Type}:List (Nat×α)->Nat->Option α
 | [],_=>none
 | (s,v)::r,t=>if t==s then some v else look r t
def put {α:Type}:List (Nat×α)->Nat->α->List (Nat×α)
 | [],t,v=>[(t,v)]
 | (s,u)::r,t,v=>if t==s then(s,v)::r else(s,u)::put r t v
def Dc {α:Type} (l:List (Nat×α)) (t s:Nat) (v:α):look (put l t v) s=if s=t then some v else look l s:=by
 induction l with
 | nil=>simp only[put,look,cY]
 | cons p r ih=>
  obtain⟨s',u⟩:=p;simp only[put];by_cases h:t=s'
  ·subst h;simp only[BEq.rfl,aC,look,cY];simp_all
  ·have h0:(t==s')=false:=by simpa using h
   simp only[h0,cD,aP,look,cY,ih];grind
inductive Own where
 | gone
 | free
 | lab (l:Nat)
 | box (b:Nat)
 | cur
structure Gh where
 ow:Nat->Own
 be:Nat->Nat
 hv:Nat->Value
def src (G:Gh):Option Nat->Nat->Prop
 | none,g=>G.ow g=.free
 | some l,g=>G.ow g=.lab l
def Alh (hv:Value) (k lo n:Nat) (v:Value):Prop :=
 (∃ ad,hv=.slice ad 0 0/\lo=0/\n=0/\v=.slice ad 0 0) \/
 ∃ g o m cap o',hv=.slice (some ⟨g,o,none⟩) m cap/\lo+n<=cap/\v=.slice (some ⟨g,o',none⟩) n (cap-lo)/\(o'=o+lo*k\/(cap=lo/\o'<=o+cap*k))
def CellR (w:World) (G:Gh):Cell->Value->Prop
 | .sc u,v=>v=u/\plain u=true
 | .tt,v=>v=.bool true
 | .ff,v=>v=.bool false
 | .nil,v=>v=.slice none 0 0
 | .ref l,v=>v=G.hv l/\v.oneCell'=true
 | .sub l k lo n,v=>Alh (G.hv l) k lo n v
 | .im s t xs,v=>TR w (src G s) (fcC (.l t xs)) v
 | .dead,v=>v.oneCell'=true
def AP (w:World) (G:Gh) (cs:List Cell) (vs:Array Value):Prop:=vs.size=cs.length/\∀ (j:Nat) (c:Cell),cs[j]? = some c->∃ u,vs[j]? = some u/\CellR w G c u
def Gw (w:World) (G:Gh) (agg:Bool) (cs:List Cell) (v:Value):Prop :=
 match agg with
 | false=>∃ c,cs=[c]/\CellR w G c v
 | true=>∃ vs:Array Value,v=.agg vs/\AP w G cs vs
def Pt (w:World) (G:Gh) (cs:List FC) (r:Array Value):Prop:=∀ (j:Nat) (c:FC),cs[j]? = some c->∃ u,r[j]? = some u/\TR w (src G none) (fcC c) u
def YR (w:World) (G:Gh):Cap->Value->Prop
 | .ptr b,v=>v=.pointer (some ⟨G.be b,0,none⟩)
 | .aptr cs,v=>∃ g r e fr,v=.pointer (some ⟨g,0,none⟩)/\G.ow g=.free/\w.heap[g]? = some (.cells r e fr)/\Pt w G cs r
structure InnAt (w:World) (G:Gh) (l e j:Nat) (T:Tree) (v:Value) (g o cap:Nat) (row:Array Value) (ety:TypeId) (GG:Nat->Nat->Nat->Prop):Prop where
 hv:G.hv l=.slice (some ⟨g,o,none⟩) T.n cap
 hn:T.n<=cap
 hc:o+cap*T.k<=row.size
 hg:w.heap[g]? = some (.cells row ety (0,0))
 own:G.ow g=.lab l
 cells:∀ i,i<T.n->∀ j,j<T.k->∃ u,row[o+i*T.k+j]? = some u/\TO w (T.f i j) u (GG i j)
 sub:∀ i,i<T.n->∀ j,j<T.k->∀ b,GG i j b->G.ow b=.lab l/\b≠g
 dis:∀ i,i<T.n->∀ j,j<T.k->∀ i',i'<T.n->∀ j',j'<T.k->∀ b,GG i j b->GG i' j' b->i=i'/\j=j'
 he:e<T.n
 hj:j<T.k
 at_:row[o+e*T.k+j]? = some v
def InnR (w:World) (G:Gh) (l k i off:Nat) (v:Value):Prop:=∃ g o n cap r e,G.hv l=.slice (some ⟨g,o,none⟩) n cap/\i<n/\off<k/\G.ow g=.lab l/\w.heap[g]? = some (.cells r e (0,0))/\r[o+i*k+off]? = some v
def SptrR (w:World) (G:Gh) (s:Option Nat) (t:Ty) (x:El t) (off:Nat) (v:Value):Prop:=∃ g o r e fr,v=.pointer (some ⟨g,o+off,none⟩)/\src G s g/\w.heap[g]? = some (.cells r e fr)/\∀ j,j<t.width->∃ u,r[o+j]? = some u/\TR w (src G s) (fcC ((enc t x).getD j .nl)) u
def TVR (w:World) (G:Gh):TV->Value->Prop
 | .v agg cs,v=>Gw w G agg cs v
 | .tup ps,v=>∃ vs:Array Value,v=.tuple vs/\vs.size=ps.length/\∀ (j:Nat) (p:Bool×List Cell),ps[j]? = some p->∃ u,vs[j]? = some u/\Gw w G p.1 p.2 u
 | .ptr b off,v=>v=.pointer (some ⟨G.be b,off,none⟩)
 | .lit b n _,v=>v=.slice (some ⟨G.be b,0,none⟩) n n
 | .eptr l k i off,v=>∃ g o n cap,G.hv l=.slice (some ⟨g,o,none⟩) n cap/\v=.pointer (some ⟨g,o+i*k+off,none⟩)
 | .sptr s t x off,v=>SptrR w G s t x off v
 | .inn l k i off t xs,v=>InnR w G l k i off v/\TR w (src G (some l)) (fcC (.l t xs)) v
 | .nptr l k i off t xs i2 o2,v=>(∃ u g o n cap,InnR w G l k i off u/\u=.slice (some ⟨g,o,none⟩) n cap/\i2<n/\v=.pointer (some ⟨g,o+i2*t.width+o2,none⟩))/\SptrR w G (some l) t (xs.getD i2 default) o2 v
 | .app l e j tt ts t xs,v=>(∃ v0 g o cap row ety GG H,InnAt w G l e j ⟨tt,ts⟩ v0 g o cap row ety GG/\TO w (fcC (.l t xs)) v H/\∀ b,H b->(G.ow b=.lab l/\b≠g)/\∀ i',i'<ts.length->∀ j',j'<tt.width->GG i' j' b->i'=e/\j'=j)/\TR w (src G (some l)) (fcC (.l t xs)) v
 | .capd l c,v=>(v=G.hv l/\v.oneCell'=true)/\∃ a n,G.hv l=.slice a n c
 | .aptr cs off,v=>∃ g r e fr,v=.pointer (some ⟨g,off,none⟩)/\G.ow g=.free/\w.heap[g]? = some (.cells r e fr)/\Pt w G cs r
 | .clo fn caps,v=>∃ vs:Array Value,v=.func (.func fn) #[] vs/\vs.size=caps.length/\∀ (j:Nat) (c:Cap),caps[j]? = some c->∃ u,vs[j]? = some u/\YR w G c u
 | .cur,v=>∃ g,v=.pointer (some ⟨g,0,none⟩)/\G.ow g=.cur
 | .dead,_=>True
def CurOk (w:World) (G:Gh) (g:Nat):Prop:=∃ (xs:List (El .u8)) (b:Value) (i h:Int) (e:TypeId),w.heap[g]? = some (.cells #[b,.int .i64 i,.int .i64 h] e (0,0))/\TR w (src G none) (fcC (.l .u8 xs)) b/\xs.length<=1000000000000000000/\0<=i/\i<=9223372036854775807/\-9223372036854775808<=h/\h<=9223372036854775807
def CurStep (w w':World) (g:Nat):Prop:=∃ (b:Value) (i h i' h':Int) (e:TypeId),w.heap[g]? = some (.cells #[b,.int .i64 i,.int .i64 h] e (0,0))/\w'.heap[g]? = some (.cells #[b,.int .i64 i',.int .i64 h'] e (0,0))/\0<=i'/\i'<=9223372036854775807/\-9223372036854775808<=h'/\h'<=9223372036854775807
def CurStep.trans {w w1 w2:World} {g:Nat} (h:CurStep w w1 g) (h':CurStep w1 w2 g):CurStep w w2 g:=by
 obtain⟨b,i,n,i',n',e,a1,a2,_⟩:=h;obtain⟨c,j,m,j',m',f,c1,c2,c3⟩:=h';rw[a2] at c1;injection c1 with c1
 injection c1 with q1 q2 q3
 simp only[Array.mk.injEq,List.cons.injEq] at q1;obtain⟨rfl,_⟩:=q1;subst q2;exact⟨b,i,n,j',m',e,a1,c2,c3⟩
def CurOk.same {w w':World} {G:Gh} {g:Nat} (h:CurOk w G g) (hg:w'.heap[g]? = w.heap[g]?):CurStep w w' g:=by
 obtain⟨xs,b,i,n,e,h1,_,_,h2⟩:=h;exact⟨b,i,n,i,n,e,h1,hg.trans h1,h2⟩
def Laid (P:Program) (w:World):Prop := ((P.globalNamed "internal/strconv.uint64pow10").isSome=true->Lib.TabIs P w "internal/strconv.uint64pow10" .u64 Lib.pow10Tab) /\
 ((P.globalNamed "strconv.ErrSyntax").isSome=true->∃ tp p,w.var? P "strconv.ErrSyntax" = some #[.iface tp p])/\((P.globalNamed "strconv.ErrRange").isSome=true->∃ tp p,w.var? P "strconv.ErrRange" = some #[.iface tp p])
def Z2 {P:Program} {w:World} (h1 : (P.globalNamed "internal/strconv.uint64pow10").isSome=false) (h2 : (P.globalNamed "strconv.ErrSyntax").isSome=false) (h3 : (P.globalNamed "strconv.ErrRange").isSome=false):Laid P w :=
 ⟨λh=>(by rw[h1] at h;cases h),λh=>(by rw[h2] at h;cases h),λh=>(by rw[h3] at h;cases h)⟩
def Xh (P:Program) (w:World) (ow:Nat->Own):Prop:=∃ w1:World,w1.ShapedOpen P/\Laid P w1/\∀ g,g<w1.heap.size->g<w.heap.size/\ow g=.free/\w.heap[g]? = w1.heap[g]?
def Ais {w:World} {i:Nat} {o:Obj} (h:w.heap[i]? = some o):i<w.heap.size:=(Array.getElem?_eq_some_iff.1 h).1
structure Fr (P:Program) where
 w0:World
 ow0:Nat->Own
 be0:List (Nat×Nat)
 hv0:List (Nat×Value)
 ok:Xh P w0 ow0
structure Keeps {P:Program} (F:Fr P) (G:Gh) (w:World):Prop where
 free:∀ g,g<F.w0.heap.size->F.ow0 g=.free->w.heap[g]? = F.w0.heap[g]?/\G.ow g=.free
 cur:∀ g,g<F.w0.heap.size->F.ow0 g=.cur->G.ow g=.cur/\CurStep F.w0 w g
 at_:∀ g,G.ow g=.cur->CurOk w G g
structure RG {P:Program} (F:Fr P) (G:Gh) (σ:St) (a:Act) (w:World):Prop where
 tm:∀ t tv,look σ.tm t=some tv->TVR w G tv (a.tmps.getD t undef)
 bx:∀ b cs,look σ.bx b=some cs->G.ow (G.be b)=.box b/\∃ r e,w.heap[G.be b]? = some (.cells r e (0,0))/\AP w G cs r
 hp:∀ l T,look σ.hp l=some T->TO w (.sl T.k T.n T.f) (G.hv l) (λg=>G.ow g=.lab l)
 lt:∀ g,G.ow g≠.gone->g<w.heap.size
 os:w.os=F.w0.os
 tape:w.tape=F.w0.tape
 output:w.output=F.w0.output/\DrLe F.w0.drawn w.drawn
 size:F.w0.heap.size<=w.heap.size
 keep:Keeps F G w
 fb:∀ b β,look F.be0 b=some β->G.be b=β/\σ.fb.contains b=true
 fl:∀ l v,look F.hv0 l=some v->G.hv l=v/\σ.fl.contains l=true
 nt:a.tmps.size=σ.nt
 df:a.defers=[]
def RG.base {P:Program} {F:Fr P} {G:Gh} {σ:St} {a:Act} {w:World} (h:RG F G σ a w):Xh P w G.ow :=
 let ⟨w1,h1,hl,h2⟩:=F.ok
 ⟨w1,h1,hl,λg hg=>let ⟨a,b,c⟩:=h2 g hg;let ⟨d,e⟩:=h.keep.free g a b;⟨fE a h.size,e,d.trans c⟩⟩
def R {P:Program} (F:Fr P) (σ:St) (a:Act) (w:World):Prop:=∃ G,RG F G σ a w
def Cell.val? : Cell->Option Value
 | .sc v=>some v
 | .tt=>some (.bool true)
 | .ff=>some (.bool false)
 | _=>none
def FM:Value->Cell
 | .bool true=>.tt
 | .bool false=>.ff
 | .int k n=>.sc (.int k n)
 | .string s=>.sc (.string s)
 | .slice none 0 0=>.nil
 | _=>.dead
def St.get (σ:St) (t:Nat):TV:=(look σ.tm t).getD .dead
def St.put (σ:St) (t:Nat) (v:TV):St:={ σ with tm:=D.put σ.tm t v }
def TV.flat:TV->TV
 | .inn l _ _ _ t xs=>.v false [.im (some l) t xs]
 | .nptr l _ _ _ t xs i off=>.sptr (some l) t (xs.getD i default) off
 | .app l _ _ _ _ t xs=>.v false [.im (some l) t xs]
 | .capd l _=>.v false [.ref l]
 | x=>x
def St.eval (σ:St):Operand->TV
 | .tmp t=>(σ.get t).flat
 | .const v=>match FM v with
  | .dead=>.dead
  | c=>.v false [c]
 | .func f=>.clo f []
 | .global _=>.dead
def MX {v:Value} (h:plain v=true):v.oneCell'=true:=by cases v<;>simp_all [plain,Value.oneCell']
def CellR.one {w:World} {G:Gh} {c:Cell} {v:Value} (h:CellR w G c v):v.oneCell'=true:=by
 cases c with
 | sc u=>obtain⟨rfl,h⟩:=h;exact MX h
 | tt=>obtain rfl:=h;rfl
 | ff=>obtain rfl:=h;rfl
 | nil=>obtain rfl:=h;rfl
 | ref l=>exact h.2
 | sub l k lo n=>
  rcases h with⟨_,_,_,_,rfl⟩|⟨g,o,m,cap,o',_,_,rfl,_⟩<;>rfl
 | im s t xs=>exact TR.one h
 | dead=>exact h
def RN (w:World) (G:Gh) (v:Value) (h:v.oneCell'=true):CellR w G (FM v) v:=by
 unfold FM;split<;>first|rfl|exact⟨rfl,rfl⟩|exact h
def Ahg {w:World} {G:Gh} {x:TV} {v:Value} (h:TVR w G x v):TVR w G x.flat v:=by
 cases x<;>first|exact h|exact⟨_,rfl,h.2⟩|exact⟨_,rfl,h.1⟩|exact h.2
def Gf {P:Program} {F:Fr P} {G:Gh} {σ:St} {a:Act} {w:World} (h:RG F G σ a w) (t:Nat):TVR w G (σ.get t) (a.tmps.getD t undef):=by
 simp only[St.get];cases hl:look σ.tm t with
 | none=>trivial
 | some tv=>exact h.tm t tv hl
def Am {P:Program} {F:Fr P} {G:Gh} {σ:St} {a:Act} {w:World} (h:RG F G σ a w) (x:Operand):TVR w G (σ.eval x) (a.eval x):=by
 cases x with
 | tmp t=>
  exact Ahg (Gf h t)
 | const v=>
  simp only[St.eval,Act.eval];have hc:(FM v=.dead)\/CellR w G (FM v) v:=by unfold FM;split<;>first|(exact .inl rfl)|(right;rfl)|(right;exact⟨rfl,rfl⟩)
  split
  ·trivial
  ·rename_i c hne;exact⟨_,rfl,hc.resolve_left λe=>hne e⟩
 | func f=>
  simp only[St.eval,Act.eval];exact⟨#[],rfl,rfl,by simp⟩
 | global g=>trivial
inductive Res where
 | one (agg:Bool) (cs:List FC)
 | tup (ps:List (Bool×List FC))
inductive Ex where
 | normal
 | exit (id:Nat)
 | ret
inductive Out:Type 1 where
 | leaf (r:Res) (bx:List (Nat×List FC)) (hp:List (Nat×Tree))
 | st (e:Ex) (σ:St)
 | br (b:Bool) (x y:Out)
 | ob (p:Prop) (x:Out)
 | lp (X:Type) (p:Prop) (inv:X->Prop) (x:X->Out)
 | lt (X:Type) (e:X) (x:X->Out)
 | ok
 | bad
structure Post where
 res:Res->List (Nat×List FC)->List (Nat×Tree)->Prop
 st:Ex->St->Prop
def Out.holds (Q:Post):Out->Prop
 | .leaf r bx hp=>Q.res r bx hp
 | .st e σ=>Q.st e σ
 | .br b x y=>(b=true->x.holds Q)/\(b=false->y.holds Q)
 | .ob p x=>p/\x.holds Q
 | .lp _ p inv x=>p/\∀ y,inv y->(x y).holds Q
 | .lt _ e x=>(x e).holds Q
 | .ok=>True
 | .bad=>False
def obs:List Prop->Out->Out
 | [],x=>x
 | p::ps,x=>.ob p (obs ps x)
def CZ {Q:Post}:∀ {ps:List Prop} {x:Out},(obs ps x).holds Q->(∀ p∈ps,p)/\x.holds Q:=by
 intro ps
 induction ps with
 | nil=>intro x h;exact⟨by simp,h⟩
 | cons p ps ih=>
  intro x h;obtain⟨h1,h2⟩:=h;grind
def Cell.refs:Cell->Nat->Bool
 | .ref m,l=>m==l
 | .sub m _ _ _,l=>m==l
 | _,_=>false
def Cell.mems:Cell->Nat->Bool
 | .im (some m) _ _,l=>m==l
 | _,_=>false
def TV.refs:TV->Nat->Bool
 | .v _ cs,l=>cs.any (·.refs l)
 | .tup ps,l=>ps.any λp=>p.2.any (·.refs l)
 | .eptr m _ _ _,l=>m==l
 | .inn m _ _ _ _ _,l=>m==l
 | .nptr m _ _ _ _ _ _ _,l=>m==l
 | .app m _ _ _ _ _ _,l=>m==l
 | .capd m _,l=>m==l
 | _,_=>false
def TV.mems:TV->Nat->Bool
 | .v _ cs,l=>cs.any (·.mems l)
 | .tup ps,l=>ps.any λp=>p.2.any (·.mems l)
 | .sptr (some m) _ _ _,l=>m==l
 | .inn m _ _ _ _ _,l=>m==l
 | .nptr m _ _ _ _ _ _ _,l=>m==l
 | .app m _ _ _ _ _ _,l=>m==l
 | .capd m _,l=>m==l
 | _,_=>false
def Cap.hasB:Cap->Nat->Bool
 | .ptr m,b=>m==b
 | _,_=>false
def TV.hasB:TV->Nat->Bool
 | .ptr m _,b=>m==b
 | .lit m _ _,b=>m==b
 | .clo _ caps,b=>caps.any (·.hasB b)
 | _,_=>false
def St.hasB (σ:St) (b:Nat):Bool:=σ.tm.any (λp=>p.2.hasB b)||σ.fb.contains b
def Cell.kill (ls:List Nat) (c:Cell):Cell:=if ls.any (λl=>c.refs l||c.mems l) then .dead else c
def Cell.loose (ls:List Nat) (c:Cell):Cell:=if ls.any (λl=>c.mems l) then .dead else c
def TV.map (fc:Cell->Cell) (bad:TV->Bool):TV->TV
 | .v a cs=>.v a (cs.map fc)
 | .tup ps=>.tup (ps.map λp=>(p.1,p.2.map fc))
 | x=>if bad x then .dead else x
def TV.kill (ls:List Nat) (x:TV):TV:=x.map (·.kill ls) λx=>ls.any λl=>x.refs l||x.mems l
def TV.loose (ls:List Nat) (x:TV):TV:=x.map (·.loose ls) λx=>ls.any λl=>x.mems l
def St.map (σ:St) (fc:Cell->Cell) (fv:TV->TV):St:={ σ with tm:=σ.tm.map λp=>(p.1,fv p.2),bx:=σ.bx.map λp=>(p.1,p.2.map fc)}
def St.kill (σ:St) (ls:List Nat):St:=σ.map (·.kill ls) (·.kill ls)
def St.loose (σ:St) (ls:List Nat):St:=σ.map (·.loose ls) (·.loose ls)
end Go.D
namespace Go.D
def AT {α β:Type} (f:α->β) (l:List (Nat×α)) (t:Nat):look (l.map λp=>(p.1,f p.2)) t=(look l t).map f:=by
 induction l with
 | nil=>rfl
 | cons p r ih=>
  obtain⟨s,v⟩:=p;simp only[bz,look];split<;>simp_all
def Tg {α:Type} (l r:List (Nat×α)) (t:Nat):look (l++r) t=(look l t).or (look r t):=by
 induction l with
 | nil=>simp[look]
 | cons p l ih=>
  obtain⟨s,v⟩:=p;simp only[cj,look];split<;>simp_all
def A5 {α:Type} (q:Nat->Bool) (l:List (Nat×α)) (t:Nat):look (l.filter λp=>q p.1) t=if q t then look l t else none:=by
 induction l with
 | nil=>simp[look]
 | cons p l ih=>
  obtain⟨s,v⟩:=p;simp only[List.filter_cons,look];by_cases h:t=s
  ·subst h;cases hq:q t<;>simp[look,hq,ih]
  ·have h0:(t==s)=false:=by simpa using h
   cases hq:q s<;>simp[look,h0,ih]
def BS (w w':World) (G G':Gh):Prop:=(∀ g,G.ow g=.free->w'.heap[g]? = w.heap[g]?/\G'.ow g=.free)/\∀ g,G.ow g=.cur->G'.ow g=.cur
def DT (w w':World) (G G':Gh) (m:Nat):Prop:=∀ g,G.ow g=.lab m->w'.heap[g]? = w.heap[g]?/\G'.ow g=.lab m
def Cons.carry {w w':World} {G G':Gh} (hf:BS w w' G G') {cs:List FC} {r:Array Value} (h:Pt w G cs r):Pt w' G' cs r :=
 λj c hc=>let ⟨u,hu,ht⟩:=h j c hc;⟨u,hu,ht.frame λg hg _=>hf.1 g hg⟩
def Cell.carry {w w':World} {G G':Gh} (hf:BS w w' G G') {c:Cell} {v:Value} (hr:∀ m,c.refs m=true->G'.hv m=G.hv m) (hm:∀ m,c.mems m=true->DT w w' G G' m)
 (h:CellR w G c v):CellR w' G' c v:=by
 cases c with
 | sc u=>exact h
 | tt=>exact h
 | ff=>exact h
 | nil=>exact h
 | dead=>exact h
 | ref l=>exact⟨by rw[hr l (by simp[Cell.refs])];exact h.1,h.2⟩
 | sub l k lo n=>simp only[CellR] at h ⊢;rw[hr l (by simp[Cell.refs])];exact h
 | im s t xs=>
  cases s with
  | none=>exact TR.frame (λg hg _=>hf.1 g hg) h
  | some l=>exact TR.frame (λg hg _=>hm l (by simp[Cell.mems]) g hg) h
def Cells.carry {w w':World} {G G':Gh} (hf:BS w w' G G') {cs:List Cell} {vs:Array Value} (hr:∀ m,cs.any (·.refs m)=true->G'.hv m=G.hv m) (hm:∀ m,cs.any (·.mems m)=true->DT w w' G G' m)
 (h:AP w G cs vs):AP w' G' cs vs:=by
 refine⟨h.1,λj c hc=>?_⟩;obtain⟨u,hu,ht⟩:=h.2 j c hc;have hmem:c∈cs:=fY hc;exact⟨u,hu,Cell.carry hf (λm h=>hr m (bw.2 ⟨c,hmem,h⟩)) (λm h=>hm m (bw.2 ⟨c,hmem,h⟩)) ht⟩
def Part.carry {w w':World} {G G':Gh} (hf:BS w w' G G') {agg:Bool} {cs:List Cell} {v:Value} (hr:∀ m,cs.any (·.refs m)=true->G'.hv m=G.hv m) (hm:∀ m,cs.any (·.mems m)=true->DT w w' G G' m)
 (h:Gw w G agg cs v):Gw w' G' agg cs v:=by
 cases agg with
 | false=>
  obtain⟨c,rfl,h⟩:=h;exact⟨c,rfl,Cell.carry hf (λm hm=>hr m (by simpa using hm)) (λm h=>hm m (by simpa using h)) h⟩
 | true=>
  obtain⟨vs,rfl,h⟩:=h;exact⟨vs,rfl,Cells.carry hf hr hm h⟩
def Cap.carry {w w':World} {G G':Gh} (hf:BS w w' G G') {c:Cap} {v:Value} (hb:∀ b,c.hasB b=true->G'.be b=G.be b) (h:YR w G c v):YR w' G' c v:=by
 cases c with
 | ptr b=>simp only[YR] at h ⊢;rw[hb b (by simp[Cap.hasB])];exact h
 | aptr cs=>
  obtain⟨g,r,e,fr,hv,ho,hg,h⟩:=h;obtain⟨h1,h2⟩:=hf.1 g ho;exact⟨g,r,e,fr,hv,h2,h1.trans hg,Cons.carry hf h⟩
def InnR.carry {w w':World} {G G':Gh} {l k i off:Nat} {v:Value} (hr:G'.hv l=G.hv l) (hm:DT w w' G G' l) (h:InnR w G l k i off v):InnR w' G' l k i off v:=by
 obtain⟨g,o,n,cap,r,e,h1,h2,h3,h4,h5,h6⟩:=h;exact⟨g,o,n,cap,r,e,hr.trans h1,h2,h3,(hm g h4).2,(hm g h4).1.trans h5,h6⟩
def SptrR.carryS {w w':World} {G G':Gh} {l:Nat} {t:Ty} {x:El t} {off:Nat} {v:Value} (hm:DT w w' G G' l) (h:SptrR w G (some l) t x off v):SptrR w' G' (some l) t x off v:=by
 obtain⟨g,o,r,e,fr,hv,ho,hg,h⟩:=h;refine⟨g,o,r,e,fr,hv,(hm g ho).2,(hm g ho).1.trans hg,λj hj=>?_⟩;obtain⟨u,hu,ht⟩:=h j hj;exact⟨u,hu,ht.frame λb hb' _=>hm b hb'⟩
def InnAt.carry {w w':World} {G G':Gh} {l e j:Nat} {T:Tree} {v:Value} {g o cap:Nat} {row:Array Value} {ety:TypeId} {GG:Nat->Nat->Nat->Prop} (hr:G'.hv l=G.hv l) (hm:DT w w' G G' l) (h:InnAt w G l e j T v g o cap row ety GG):InnAt w' G' l e j T v g o cap row ety GG :=
 ⟨hr.trans h.hv,h.hn,h.hc,(hm g h.own).1.trans h.hg,(hm g h.own).2,λi hi j hj=>let ⟨u,hu,ht⟩:=h.cells i hi j hj;⟨u,hu,ht.frame λb hb _=>⟨(hm b (h.sub i hi j hj b hb).1).1,hb⟩⟩,λi hi j hj b hb=>let ⟨x,y⟩:=h.sub i hi j hj b hb;⟨(hm b x).2,y⟩,h.dis,h.he,h.hj,h.at_⟩
def O5 {w w':World} {G G':Gh} {l k i off:Nat} {t:Ty} {xs:List (El t)} {i2 o2:Nat} {v:Value} (hr:G'.hv l=G.hv l) (hm:DT w w' G G' l) (h:TVR w G (.nptr l k i off t xs i2 o2) v):TVR w' G' (.nptr l k i off t xs i2 o2) v:=by
 obtain⟨⟨u,g,o,n,cap,h1,h2,h3,h4⟩,h5⟩:=h;exact⟨⟨u,g,o,n,cap,h1.carry hr hm,h2,h3,h4⟩,h5.carryS hm⟩
def Sw {w w':World} {G G':Gh} {l e j:Nat} {tt:Ty} {ts:List (El tt)} {t:Ty} {xs:List (El t)} {v:Value} (hr:G'.hv l=G.hv l) (hm:DT w w' G G' l) (h:TVR w G (.app l e j tt ts t xs) v):TVR w' G' (.app l e j tt ts t xs) v:=by
 obtain⟨⟨v0,g,o,cap,row,ety,GG,H,h1,h2,h3⟩,h4⟩:=h;exact⟨⟨v0,g,o,cap,row,ety,GG,H,h1.carry hr hm,h2.frame λb hb _=>⟨(hm b (h3 b hb).1.1).1,hb⟩,λb hb=>⟨⟨(hm b (h3 b hb).1.1).2,(h3 b hb).1.2⟩,(h3 b hb).2⟩⟩,h4.frame λb hb _=>hm b hb⟩
def TV.carry {w w':World} {G G':Gh} (hf:BS w w' G G') {x:TV} {v:Value} (hr:∀ m,x.refs m=true->G'.hv m=G.hv m) (hm:∀ m,x.mems m=true->DT w w' G G' m)
 (hb:∀ b,x.hasB b=true->G'.be b=G.be b) (h:TVR w G x v):TVR w' G' x v:=by
 cases x with
 | dead=>trivial
 | cur=>obtain⟨g,hv,hg⟩:=h;exact⟨g,hv,hf.2 g hg⟩
 | v agg cs=>exact Part.carry hf hr hm h
 | tup ps=>
  obtain⟨vs,hv,hs,h⟩:=h;refine⟨vs,hv,hs,λj p hp=>?_⟩;obtain⟨u,hu,ht⟩:=h j p hp;have hmem:p∈ps:=fY hp;exact⟨u,hu,Part.carry hf (λm h=>hr m (bw.2 ⟨p,hmem,h⟩)) (λm h=>hm m (bw.2 ⟨p,hmem,h⟩)) ht⟩
 | ptr b off=>simp only[TVR] at h ⊢;rw[hb b (by simp[TV.hasB])];exact h
 | lit b n t=>simp only[TVR] at h ⊢;rw[hb b (by simp[TV.hasB])];exact h
 | eptr l k i off=>simp only[TVR] at h ⊢;rw[hr l (by simp[TV.refs])];exact h
 | inn l k i off t xs=>
  have hml:=hm l (by simp[TV.mems]);exact⟨h.1.carry (hr l (by simp[TV.refs])) hml,h.2.frame λb hb' _=>hml b hb'⟩
 | nptr l k i off t xs i2 o2=>exact O5 (hr l (by simp[TV.refs])) (hm l (by simp[TV.mems])) h
 | app l e j tt ts t xs=>exact Sw (hr l (by simp[TV.refs])) (hm l (by simp[TV.mems])) h
 | capd l c=>
  obtain⟨⟨h1,h2⟩,a,n,h3⟩:=h;have e:=hr l (by simp[TV.refs]);exact⟨⟨h1.trans e.symm,h2⟩,a,n,e.trans h3⟩
 | sptr s t x off=>
  obtain⟨g,o,r,e,fr,hv,ho,hg,h⟩:=h;have key:w'.heap[g]? = w.heap[g]?/\src G' s g:=by
   cases s with
   | none=>exact hf.1 g ho
   | some l=>exact hm l (by simp[TV.mems]) g ho
  refine⟨g,o,r,e,fr,hv,key.2,key.1.trans hg,λj hj=>?_⟩;obtain⟨u,hu,ht⟩:=h j hj;refine⟨u,hu,ht.frame λb hb' _=>?_⟩;cases s with
  | none=>exact hf.1 b hb'
  | some l=>exact hm l (by simp[TV.mems]) b hb'
 | aptr cs off=>
  obtain⟨g,r,e,fr,hv,ho,hg,h⟩:=h;obtain⟨h1,h2⟩:=hf.1 g ho;exact⟨g,r,e,fr,hv,h2,h1.trans hg,Cons.carry hf h⟩
 | clo fn caps=>
  obtain⟨vs,hv,hs,h⟩:=h;refine⟨vs,hv,hs,λj c hc=>?_⟩;obtain⟨u,hu,ht⟩:=h j c hc;exact⟨u,hu,Cap.carry hf (λb hb'=>hb b (bw.2 ⟨c,fY hc,hb'⟩)) ht⟩
def Cell.kill_ok {w:World} {G:Gh} {c:Cell} {v:Value} (ls:List Nat) (h:CellR w G c v):CellR w G (c.kill ls) v:=by
 unfold Cell.kill;split
 ·exact h.one
 ·exact h
def Cell.loose_ok {w:World} {G:Gh} {c:Cell} {v:Value} (ls:List Nat) (h:CellR w G c v):CellR w G (c.loose ls) v:=by
 unfold Cell.loose;split
 ·exact h.one
 ·exact h
def Cells.map_ok {w:World} {G:Gh} {cs:List Cell} {vs:Array Value} {f:Cell->Cell} (hf:∀ c v,CellR w G c v->CellR w G (f c) v) (h:AP w G cs vs):AP w G (cs.map f) vs:=by
 refine⟨by simpa using h.1,λj c hc=>?_⟩;rw[cp] at hc;cases hq:cs[j]? with
 | none=>simp[hq] at hc
 | some c0=>
  simp only[hq,aY,Q_] at hc;subst hc;obtain⟨u,hu,ht⟩:=h.2 j c0 hq;simp_all
def Part.map_ok {w:World} {G:Gh} {agg:Bool} {cs:List Cell} {v:Value} {f:Cell->Cell} (hf:∀ c v,CellR w G c v->CellR w G (f c) v) (h:Gw w G agg cs v):Gw w G agg (cs.map f) v:=by
 cases agg with
 | false=>obtain⟨c,rfl,h⟩:=h;exact⟨f c,rfl,hf _ _ h⟩
 | true=>obtain⟨vs,rfl,h⟩:=h;exact⟨vs,rfl,Cells.map_ok hf h⟩
def TV.map_ok {w:World} {G:Gh} {x:TV} {v:Value} {f:Cell->Cell} {bad:TV->Bool} (hf:∀ c v,CellR w G c v->CellR w G (f c) v) (h:TVR w G x v):TVR w G (x.map f bad) v:=by
 cases x with
 | v agg cs=>exact Part.map_ok hf h
 | tup ps=>
  obtain⟨vs,hv,hs,h⟩:=h;refine⟨vs,hv,by simpa using hs,λj p hp=>?_⟩;rw[cp] at hp;cases hq:ps[j]? with
  | none=>simp[hq] at hp
  | some p0=>
   simp only[hq,aY,Q_] at hp;subst hp;obtain⟨u,hu,ht⟩:=h j p0 hq;exact⟨u,hu,Part.map_ok hf ht⟩
 | _=>
  simp only[TV.map];split
  ·trivial
  ·exact h
def Cell.kill_refs {c:Cell} {ls:List Nat} {m:Nat} (h:(c.kill ls).refs m=true):c.refs m=true/\m∉ls:=by
 unfold Cell.kill at h;split at h
 ·simp[Cell.refs] at h
 ·grind
def Cell.kill_mems {c:Cell} {ls:List Nat} {m:Nat} (h:(c.kill ls).mems m=true):c.mems m=true/\m∉ls:=by
 unfold Cell.kill at h;split at h
 ·simp[Cell.mems] at h
 ·grind
def Cell.loose_mems {c:Cell} {ls:List Nat} {m:Nat} (h:(c.loose ls).mems m=true):c.mems m=true/\m∉ls:=by
 unfold Cell.loose at h;split at h
 ·simp[Cell.mems] at h
 ·grind
def GT {cs:List Cell} {ls:List Nat} {m:Nat} (h:(cs.map (·.kill ls)).any (·.refs m)=true):m∉ls:=by
 simp only[List.any_map,bw,Function.comp] at h;obtain⟨c,_,hc⟩:=h;exact(Cell.kill_refs hc).2
def Hh {cs:List Cell} {ls:List Nat} {m:Nat} (h:(cs.map (·.kill ls)).any (·.mems m)=true):m∉ls:=by
 simp only[List.any_map,bw,Function.comp] at h;obtain⟨c,_,hc⟩:=h;exact(Cell.kill_mems hc).2
def IR {cs:List Cell} {ls:List Nat} {m:Nat} (h:(cs.map (·.loose ls)).any (·.mems m)=true):m∉ls:=by
 simp only[List.any_map,bw,Function.comp] at h;obtain⟨c,_,hc⟩:=h;exact(Cell.loose_mems hc).2
def TV.kill_refs {x:TV} {ls:List Nat} {m:Nat} (h:(x.kill ls).refs m=true):m∉ls:=by
 cases x<;>simp only[TV.kill,TV.map] at h
 case v agg cs=>exact GT h
 case tup ps=>
  simp only[TV.refs,List.any_map,bw] at h;obtain⟨p,_,hp⟩:=h;exact GT (by simpa using hp)
 all_goals
  split at h
  ·simp[TV.refs] at h
  ·rename_i hn;exact λhm=>hn (bw.2 ⟨m,hm,by simp[h]⟩)
def TV.kill_mems {x:TV} {ls:List Nat} {m:Nat} (h:(x.kill ls).mems m=true):m∉ls:=by
 cases x<;>simp only[TV.kill,TV.map] at h
 case v agg cs=>exact Hh h
 case tup ps=>
  simp only[TV.mems,List.any_map,bw] at h;obtain⟨p,_,hp⟩:=h;exact Hh (by simpa using hp)
 all_goals
  split at h
  ·simp[TV.mems] at h
  ·rename_i hn;exact λhm=>hn (bw.2 ⟨m,hm,by simp[h]⟩)
def Hu {cs:List Cell} {ls:List Nat} {m:Nat} (h:(cs.map (·.loose ls)).any (·.mems m)=true):cs.any (·.mems m)=true:=by
 simp only[List.any_map,bw,Function.comp] at h;obtain⟨c,hm,hc⟩:=h;exact bw.2 ⟨c,hm,(Cell.loose_mems hc).1⟩
def TV.loose_mems' {x:TV} {ls:List Nat} {m:Nat} (h:(x.loose ls).mems m=true):x.mems m=true:=by
 cases x<;>simp only[TV.loose,TV.map] at h
 case v agg cs=>exact Hu h
 case tup ps=>
  simp only[TV.mems,List.any_map,bw] at h;obtain⟨p,hm,hp⟩:=h;exact bw.2 ⟨p,hm,Hu (by simpa using hp)⟩
 all_goals
  split at h
  ·simp[TV.mems] at h
  ·exact h
def TV.loose_mems {x:TV} {ls:List Nat} {m:Nat} (h:(x.loose ls).mems m=true):m∉ls:=by
 cases x<;>simp only[TV.loose,TV.map] at h
 case v agg cs=>exact IR h
 case tup ps=>
  simp only[TV.mems,List.any_map,bw] at h;obtain⟨p,_,hp⟩:=h;exact IR (by simpa using hp)
 all_goals
  split at h
  ·simp[TV.mems] at h
  ·rename_i hn;exact λhm=>hn (bw.2 ⟨m,hm,by simp[h]⟩)
def CurOk.carry {w w':World} {G G':Gh} (hf:BS w w' G G') {g:Nat} (hg:w'.heap[g]? = w.heap[g]?) (h:CurOk w G g):CurOk w' G' g:=by
 obtain⟨xs,b,i,n,e,h1,h2,h3⟩:=h;exact⟨xs,b,i,n,e,hg.trans h1,h2.frame λg hg _=>hf.1 g hg,h3⟩
def CurOk.step {w w':World} {G G':Gh} (hf:BS w w' G G') {g:Nat} (hg:CurStep w w' g) (h:CurOk w G g):CurOk w' G' g:=by
 obtain⟨xs,b,i,n,e,h1,h2,h3,_⟩:=h;obtain⟨c,j,m,j',m',f,c1,c2,c3⟩:=hg;rw[h1] at c1;injection c1 with c1
 injection c1 with q1 q2 q3
 simp only[Array.mk.injEq,List.cons.injEq] at q1;obtain⟨rfl,_⟩:=q1;exact⟨xs,b,j',m',f,c2,h2.frame λg hg _=>hf.1 g hg,h3,c3⟩
def Keeps.step {P:Program} {F:Fr P} {w w':World} {G G':Gh} (h:Keeps F G w) (hf:BS w w' G G') (hc:∀ g,G.ow g=.cur->CurStep w w' g) (hn:∀ g,G'.ow g=.cur->G.ow g=.cur):Keeps F G' w' :=
 ⟨λg h1 h2=>let ⟨a,b⟩:=h.free g h1 h2;⟨(hf.1 g b).1.trans a,(hf.1 g b).2⟩,λg h1 h2=>let ⟨a,b⟩:=h.cur g h1 h2;⟨hf.2 g a,b.trans (hc g a)⟩,λg hg=>(h.at_ g (hn g hg)).step hf (hc g (hn g hg))⟩
def Keeps.next {P:Program} {F:Fr P} {w w':World} {G G':Gh} (h:Keeps F G w) (hf:BS w w' G G') (hc:∀ g,G.ow g=.cur->w'.heap[g]? = w.heap[g]?) (hn:∀ g,G'.ow g=.cur->G.ow g=.cur):Keeps F G' w' :=
 h.step hf (λg hg=>(h.at_ g hg).same (hc g hg)) hn
end Go.D
namespace Go.D
def St.setTm (σ:St) (d:Option Nat) (x:TV):St:=match d with|some d=>σ.put d x|none=>σ
def RG.put {P:Program} {F:Fr P} {G:Gh} {σ:St} {a:Act} {w:World} (h:RG F G σ a w) {d:Nat} {x:TV} {v:Value} (hd:d<σ.nt) (hx:TVR w G x v) :
 RG F G (σ.put d x) (a.put (some d) v) w where
 tm:=by
  intro t tv hl;simp only[St.put,Dc] at hl;have hlt:d<a.tmps.size:=h.nt▸hd;by_cases ht:t=d
  ·subst ht;simp at hl;subst hl;simpa [Act.put,hlt] using hx
  ·simp only[ht,aP] at hl;have:=h.tm t tv hl;simpa [Act.put,Array.getElem?_setIfInBounds_ne (Ne.symm ht)] using this
 bx:=h.bx
 hp:=h.hp
 lt:=h.lt
 os:=h.os
 tape:=h.tape
 output:=h.output
 size:=h.size
 keep:=h.keep
 fb:=h.fb
 fl:=h.fl
 nt:=by simpa [Act.put,St.put] using h.nt
 df:=h.df
def RG.setTm {P:Program} {F:Fr P} {G:Gh} {σ:St} {a:Act} {w:World} (h:RG F G σ a w) {d:Option Nat} {x:TV} {v:Value} (hd:∀ t,d=some t->t<σ.nt) (hx:TVR w G x v) :
 RG F G (σ.setTm d x) (a.put d v) w:=by
 cases d with
 | none=>exact h
 | some t=>exact h.put (hd t rfl) hx
def RG.map {P:Program} {F:Fr P} {G:Gh} {σ:St} {a:Act} {w:World} (h:RG F G σ a w) {fc:Cell->Cell} {fv:TV->TV} (hc:∀ c v,CellR w G c v->CellR w G (fc c) v)
 (hv:∀ x v,TVR w G x v->TVR w G (fv x) v):RG F G (σ.map fc fv) a w where
 tm:=by
  intro t tv hl;simp only[St.map,AT fv] at hl;cases hq:look σ.tm t with
  | none=>simp[hq] at hl
  | some x=>
   simp only[hq,aY,Q_] at hl;subst hl;exact hv _ _ (h.tm t x hq)
 bx:=by
  intro b cs hl;simp only[St.map,AT λcs:List Cell=>cs.map fc] at hl;cases hq:look σ.bx b with
  | none=>simp[hq] at hl
  | some x=>
   simp only[hq,aY,Q_] at hl;subst hl;obtain⟨h1,r,e,h2,h3⟩:=h.bx b x hq;exact⟨h1,r,e,h2,Cells.map_ok hc h3⟩
 hp:=h.hp
 lt:=h.lt
 os:=h.os
 tape:=h.tape
 output:=h.output
 size:=h.size
 keep:=h.keep
 fb:=h.fb
 fl:=h.fl
 nt:=h.nt
 df:=h.df
def RG.kill {P:Program} {F:Fr P} {G:Gh} {σ:St} {a:Act} {w:World} (h:RG F G σ a w) (ls:List Nat):RG F G (σ.kill ls) a w :=
 h.map (λ_ _=>Cell.kill_ok ls) (λ_ _=>TV.map_ok λ_ _=>Cell.kill_ok ls)
def RG.loose {P:Program} {F:Fr P} {G:Gh} {σ:St} {a:Act} {w:World} (h:RG F G σ a w) (ls:List Nat):RG F G (σ.loose ls) a w :=
 h.map (λ_ _=>Cell.loose_ok ls) (λ_ _=>TV.map_ok λ_ _=>Cell.loose_ok ls)
structure Onward (w w':World):Prop where
 os:w'.os=w.os
 tape:w'.tape=w.tape
 output:w'.output=w.output/\DrLe w.drawn w'.drawn
 size:w.heap.size<=w'.heap.size
def RG.world2 {P:Program} {F:Fr P} {G:Gh} {σ:St} {a:Act} {w w':World} (h:RG F G σ a w) (ho:Onward w w') (hs:∀ g,G.ow g≠.gone->G.ow g≠.cur->w'.heap[g]? = w.heap[g]?) (hc:∀ g,G.ow g=.cur->CurStep w w' g):RG F G σ a w' where
 tm:=λt tv hl=>TV.carry ⟨λg hg=>⟨hs g (by grind) (by simp[hg]),hg⟩,λg hg=>hg⟩ (λ_ _=>rfl) (λm _ g hg=>⟨hs g (by simp[hg]) (by simp[hg]),hg⟩) (λ_ _=>rfl) (h.tm t tv hl)
 bx:=λb cs hl=>by obtain⟨h1,r,e,h2,h3⟩:=h.bx b cs hl;exact⟨h1,r,e,(hs _ (by grind) (by simp[h1])).trans h2,Cells.carry ⟨λg hg=>⟨hs g (by simp[hg]) (by simp[hg]),hg⟩,λg hg=>hg⟩ (λ_ _=>rfl) (λm _ g hg=>⟨hs g (by simp[hg]) (by simp[hg]),hg⟩) h3⟩
 hp:=λl T hl=>(h.hp l T hl).frame λg hg _=>⟨hs g (by grind) (by simp[hg]),hg⟩
 lt:=λg hg=>fE (h.lt g hg) ho.size
 os:=ho.os.trans h.os
 tape:=ho.tape.trans h.tape
 output:=⟨ho.output.1.trans h.output.1,DrLe.trans h.output.2 ho.output.2⟩
 size:=aR h.size ho.size
 keep:=h.keep.step ⟨λg hg=>⟨hs g (by grind) (by simp[hg]),hg⟩,λg hg=>hg⟩ hc (λg hg=>hg)
 fb:=h.fb
 fl:=h.fl
 nt:=h.nt
 df:=h.df
def RG.world {P:Program} {F:Fr P} {G:Gh} {σ:St} {a:Act} {w w':World} (h:RG F G σ a w) (ho:Onward w w') (hs:∀ g,G.ow g≠.gone->w'.heap[g]? = w.heap[g]?):RG F G σ a w' :=
 h.world2 ho (λg h1 _=>hs g h1) λg hg=>(h.keep.at_ g hg).same (hs g (by grind))
def RG.drew {P:Program} {F:Fr P} {G:Gh} {σ:St} {a:Act} {w:World} (h:RG F G σ a w):RG F G σ a w.drew :=
 h.world ⟨rfl,rfl,⟨rfl,by first|exact DrLe.refl _|exact DrLe.succ _|exact DrLe.add _ _⟩,Y_ _⟩ λ_ _=>rfl
open Classical in
def RG.retree {P:Program} {F:Fr P} {G:Gh} {σ:St} {a:Act} {w w':World} (h:RG F G σ a w) (l:Nat) (ab:List Nat) (T:Tree) (v:Value) (N:Nat->Prop)
 (ho:Onward w w') (hs:∀ g,G.ow g≠.gone->G.ow g≠.lab l->w'.heap[g]? = w.heap[g]?)
 (hN:∀ g,N g->g<w'.heap.size/\(G.ow g=.gone\/G.ow g=.lab l\/∃ m,m∈ab/\G.ow g=.lab m))
 (hT:TO w' (.sl T.k T.n T.f) v N) (hl:l∉σ.fl) (hab:∀ m,m∈ab->m∉σ.fl) :
 ∃ G',RG F G' ({ σ with hp:=(l,T)::σ.hp.filter λp=>!ab.contains p.1 }.kill (l::ab)) a w'/\G'.hv l=v/\(∀ m,m≠l->G'.hv m=G.hv m)/\(∀ b,G.ow b=.gone->¬ N b->G'.ow b=.gone)/\G'.be=G.be/\(ab=[]->(∀ g,N g->G.ow g=.gone)->∀ g,G.ow g≠.gone->G'.ow g=G.ow g):=by
 let G':Gh:={ ow:=λg=>if N g\/∃ m,m∈ab/\G.ow g=.lab m then .lab l else G.ow g,be:=G.be,hv:=λm=>if m=l then v else G.hv m }
 have hfree:∀ g,G.ow g=.free->G'.ow g=.free:=by grind
 have hcur:∀ g,G.ow g=.cur->G'.ow g=.cur:=by grind
 have hbox:∀ g b,G.ow g=.box b->G'.ow g=.box b:=by grind
 have hlab:∀ g m,m∉l::ab->G.ow g=.lab m->w'.heap[g]? = w.heap[g]?/\G'.ow g=.lab m:=by grind
 have fo:BS w w' G G':=⟨λg hg=>⟨hs g (by simp[hg]) (by simp[hg]),hfree g hg⟩,hcur⟩;have hk:=h.kill (l::ab);refine⟨G',?_,by simp[G'],λm hm=>by simp[G',hm],λb hb hn=>?_,rfl,λhe hNn g hg=>?_⟩
 rotate_left
 rotate_left
 ·have:¬ (N g\/∃ m,m∈ab/\G.ow g=.lab m):=by grind
  exact F_ this
 rotate_left
 ·have:¬ (N b\/∃ m,m∈ab/\G.ow b=.lab m):=by simp_all
  exact(F_ this).trans hb
 constructor
 case tm=>
  intro t tv hlk;simp only[St.kill,St.map,AT λx:TV=>x.kill (l::ab)] at hlk;cases hq:look σ.tm t with
  | none=>simp[hq] at hlk
  | some x=>
   simp only[hq,aY,Q_] at hlk;subst hlk;have hx:=TV.map_ok (f:=λc=>c.kill (l::ab)) (bad:=λx=>(l::ab).any λl=>x.refs l||x.mems l) (λ_ _=>Cell.kill_ok (l::ab)) (h.tm t x hq);refine TV.carry fo (λm hm=>?_) (λm hm g hg=>hlab g m (TV.kill_mems hm) hg) (λ_ _=>rfl) hx;have:=TV.kill_refs hm;grind
 case bx=>
  intro b cs hlk;simp only[St.kill,St.map,AT λcs:List Cell=>cs.map (·.kill (l::ab))] at hlk;cases hq:look σ.bx b with
  | none=>simp[hq] at hlk
  | some x=>
   simp only[hq,aY,Q_] at hlk;subst hlk;obtain⟨h1,r,e,h2,h3⟩:=h.bx b x hq;refine⟨hbox _ _ h1,r,e,(hs (G.be b) (by simp[h1]) (by simp[h1])).trans h2,?_⟩;refine Cells.carry fo (λm hm=>?_) (λm hm g hg=>hlab g m (Hh hm) hg) (Cells.map_ok (λ_ _=>Cell.kill_ok (l::ab)) h3);have:=GT hm;grind
 case hp=>
  intro m T' hlk;simp only[St.kill,St.map,look] at hlk;by_cases hml:m=l
  ·subst hml;simp only[BEq.rfl,aC,Q_] at hlk;subst hlk;simp only[G',aC];exact hT.frame λg hg _=>⟨rfl,by simp[hg]⟩
  ·have h0:(m==l)=false:=by simpa using hml
   simp only[h0,cD,aP,A5 λm=>!ab.contains m] at hlk;split at hlk
   ·rename_i hna;have hma:m∉ab:=by simpa using hna
    have:=h.hp m T' hlk;simp only[G',hml,aP];exact this.frame λg hg _=>hlab g m (by simp[hml,hma]) hg
   ·cases hlk
 case lt=>
  intro g hg;by_cases hn:N g
  ·exact(hN g hn).1
  ·refine fE (h.lt g λe=>hg ?_) ho.size;grind
 case os=>exact ho.os.trans h.os
 case tape=>exact ho.tape.trans h.tape
 case output=>exact⟨ho.output.1.trans h.output.1,DrLe.trans h.output.2 ho.output.2⟩
 case size=>exact aR h.size ho.size
 case keep=>
  refine h.keep.next fo (λg hg=>hs g (by simp[hg]) (by simp[hg])) λg hg=>?_
  grind
 case fb=>exact h.fb
 case fl=>
  intro m u hm;obtain⟨h1,h2⟩:=h.fl m u hm;have hml:m≠l:=λe=>hl (by simpa [e] using h2)
  exact⟨by simp only[G',hml,aP];exact h1,h2⟩
 case nt=>exact h.nt
 case df=>exact h.df
open Classical in
def RG.newBox {P:Program} {F:Fr P} {G:Gh} {σ:St} {a:Act} {w:World} (h:RG F G σ a w) (b:Nat) (cs:List Cell) (g0:Nat) (r:Array Value) (e:TypeId)
 (hb:σ.hasB b=false) (h0:G.ow g0=.gone) (hg:w.heap[g0]? = some (.cells r e (0,0))) (hc:AP w G cs r) :
 ∃ G',RG F G' { σ with bx:=D.put σ.bx b cs } a w/\G'.be b=g0/\(∀ g,G.ow g≠.gone->G'.ow g=G.ow g)/\(∀ b',b'≠b->G'.be b'=G.be b')/\G'.hv=G.hv:=by
 let G':Gh:={ ow:=λg=>if g=g0 then .box b else G.ow g,be:=λb'=>if b'=b then g0 else G.be b',hv:=G.hv }
 have hne:∀ g,G.ow g≠.gone->G'.ow g=G.ow g:=by grind
 have fo:BS w w G G':=⟨λg hg=>⟨rfl,by grind⟩,λg hg=>by rw[hne g (by simp[hg]),hg]⟩;have mo:∀ m,DT w w G G' m:=λm g hg=>⟨rfl,by grind⟩
 simp only[St.hasB,Bool.or_eq_false_iff] at hb;refine⟨G',?_,by simp[G'],hne,λb' hb'=>by grind,rfl⟩;constructor
 case tm=>
  intro t tv hlk;refine TV.carry fo (λ_ _=>rfl) (λm _=>mo m) (λb' hb'=>?_) (h.tm t tv hlk);have hbb:b'≠b:=by
   have hmem:∀ (l:List (Nat×TV)),look l t=some tv->∃ p∈l,p.2=tv:=by
    intro l
    induction l with
    | nil=>simp[look]
    | cons p l ih=>
     intro hl;simp only[look] at hl;grind
   grind
  simp[G',hbb]
 case bx=>
  intro b' cs' hlk;simp only[Dc] at hlk;by_cases hbb:b'=b
  ·subst hbb;simp at hlk;subst hlk;exact⟨by simp[G'],r,e,by grind,Cells.carry fo (λ_ _=>rfl) (λm _=>mo m) hc⟩
  ·simp only[hbb,aP] at hlk;obtain⟨h1,r',e',h2,h3⟩:=h.bx b' cs' hlk;have:G'.be b'=G.be b':=by grind
   rw[this];exact⟨by grind,r',e',h2,Cells.carry fo (λ_ _=>rfl) (λm _=>mo m) h3⟩
 case hp=>exact λl T hlk=>(h.hp l T hlk).frame λg hg _=>⟨rfl,by grind⟩
 case lt=>
  intro g hgo;by_cases e0:g=g0
  ·grind
  ·exact h.lt g (by grind)
 case os=>exact h.os
 case tape=>exact h.tape
 case output=>exact h.output
 case size=>exact h.size
 case keep=>
  refine h.keep.next fo (λ_ _=>rfl) λg hg=>?_
  grind
 case fb=>
  intro b' β hlk;obtain⟨h1,h2⟩:=h.fb b' β hlk;grind
 case fl=>exact h.fl
 case nt=>exact h.nt
 case df=>exact h.df
def RG.setBox {P:Program} {F:Fr P} {G:Gh} {σ:St} {a:Act} {w w':World} (h:RG F G σ a w) (b:Nat) (cs0 cs:List Cell) (r:Array Value) (e:TypeId)
 (hb:look σ.bx b=some cs0) (ho:Onward w w') (hs:∀ g,g≠G.be b->w'.heap[g]? = w.heap[g]?) (hg:w'.heap[G.be b]? = some (.cells r e (0,0))) (hc:AP w G cs r) :
 RG F G { σ with bx:=D.put σ.bx b cs } a w':=by
 have hbo:=(h.bx b cs0 hb).1;have hne:∀ g,G.ow g≠.box b->w'.heap[g]? = w.heap[g]?:=λg hg=>hs g λe=>hg (e▸hbo)
 have fo:BS w w' G G:=⟨λg hg=>⟨hne g (by grind),hg⟩,λg hg=>hg⟩;have mo:∀ m,DT w w' G G m:=λm g hg=>⟨hne g (by grind),hg⟩
 constructor
 case tm=>exact λt tv hlk=>TV.carry fo (λ_ _=>rfl) (λm _=>mo m) (λ_ _=>rfl) (h.tm t tv hlk)
 case bx=>
  intro b' cs' hlk;simp only[Dc] at hlk;by_cases hbb:b'=b
  ·subst hbb;simp at hlk;subst hlk;exact⟨hbo,r,e,hg,Cells.carry fo (λ_ _=>rfl) (λm _=>mo m) hc⟩
  ·simp only[hbb,aP] at hlk;obtain⟨h1,r',e',h2,h3⟩:=h.bx b' cs' hlk;exact⟨h1,r',e',(hne _ (by grind)).trans h2,Cells.carry fo (λ_ _=>rfl) (λm _=>mo m) h3⟩
 case hp=>exact λl T hlk=>(h.hp l T hlk).frame λg hg _=>⟨hne g (by grind),hg⟩
 case lt=>exact λg hg=>fE (h.lt g hg) ho.size
 case os=>exact ho.os.trans h.os
 case tape=>exact ho.tape.trans h.tape
 case output=>exact⟨ho.output.1.trans h.output.1,DrLe.trans h.output.2 ho.output.2⟩
 case size=>exact aR h.size ho.size
 case keep=>exact h.keep.next fo (λg hg=>hne g (by grind)) λg hg=>hg
 case fb=>exact h.fb
 case fl=>exact h.fl
 case nt=>exact h.nt
 case df=>exact h.df
open Classical in
def RG.setTree {P:Program} {F:Fr P} {G:Gh} {σ:St} {a:Act} {w w':World} (h:RG F G σ a w) (l:Nat) (ab:List Nat) (T0 T:Tree)
 (hl:look σ.hp l=some T0) (hla:l∉ab) (hab:∀ m,m∈ab->m∉σ.fl) (ho:Onward w w') (hs:∀ g,G.ow g≠.gone->G.ow g≠.lab l->w'.heap[g]? = w.heap[g]?)
 (hT:TO w' (.sl T.k T.n T.f) (G.hv l) λg=>G.ow g=.lab l\/∃ m,m∈ab/\G.ow g=.lab m) :
 ∃ G',RG F G' (({ σ with hp:=(l,T)::σ.hp.filter λp=>!ab.contains p.1 }.kill ab).loose [l]) a w'/\G'.hv=G.hv/\G'.be=G.be:=by
 let G':Gh:={ ow:=λg=>if ∃ m,m∈ab/\G.ow g=.lab m then .lab l else G.ow g,be:=G.be,hv:=G.hv }
 have hsame:∀ g,(∀ m,m∈ab->G.ow g≠.lab m)->G'.ow g=G.ow g:=by grind
 have fo:BS w w' G G':=⟨λg hg=>⟨hs g (by simp[hg]) (by simp[hg]),by rw[hsame g (by simp[hg]),hg]⟩,λg hg=>by rw[hsame g (by simp[hg]),hg]⟩;have mo:∀ m,m≠l->m∉ab->DT w w' G G' m:=by intro m hml hma g hg;grind
 have hcell:∀ (c:Cell) (v:Value),CellR w G c v->CellR w' G' ((c.kill ab).loose [l]) v:=by intro c v hc;refine Cell.carry fo (λ_ _=>rfl) (λm hm=>?_) (Cell.loose_ok [l] (Cell.kill_ok ab hc));obtain⟨h1,h2⟩:=Cell.loose_mems hm;exact mo m (by simpa using h2) (Cell.kill_mems h1).2
 have hcells:∀ (cs:List Cell) (vs:Array Value),AP w G cs vs->AP w' G' ((cs.map (·.kill ab)).map (·.loose [l])) vs:=by
  intro cs vs hc;rw[ee];refine⟨by simpa using hc.1,λj c hj=>?_⟩;rw[cp] at hj;cases hq:cs[j]? with
  | none=>simp[hq] at hj
  | some c0=>
   simp only[hq,aY,Q_] at hj;subst hj;obtain⟨u,hu,ht⟩:=hc.2 j c0 hq;simp_all
 refine⟨G',?_,rfl,rfl⟩;constructor
 case tm=>
  intro t tv hlk;simp only[St.loose,St.kill,St.map,ee,Function.comp_def] at hlk;rw[AT λx:TV=>(x.kill ab).loose [l]] at hlk;cases hq:look σ.tm t with
  | none=>simp[hq] at hlk
  | some x=>
   simp only[hq,aY,Q_] at hlk;subst hlk;have hx:=TV.map_ok (f:=λc=>c.loose [l]) (bad:=λx=>[l].any λl=>x.mems l) (λ_ _=>Cell.loose_ok [l]) (TV.map_ok (f:=λc=>c.kill ab) (bad:=λx=>ab.any λl=>x.refs l||x.mems l) (λ_ _=>Cell.kill_ok ab) (h.tm t x hq));refine TV.carry fo (λ_ _=>rfl) (λm hm=>?_) (λ_ _=>rfl) hx;exact mo m (by simpa using TV.loose_mems hm) (TV.kill_mems (TV.loose_mems' hm))
 case bx=>
  intro b cs hlk;simp only[St.loose,St.kill,St.map,ee,Function.comp_def] at hlk;rw[AT λcs:List Cell=>cs.map λc=>(c.kill ab).loose [l]] at hlk;cases hq:look σ.bx b with
  | none=>simp[hq] at hlk
  | some x=>
   simp only[hq,aY,Q_] at hlk;subst hlk;obtain⟨h1,r,e,h2,h3⟩:=h.bx b x hq;refine⟨(hsame (G.be b) (by simp[h1])).trans h1,r,e,(hs (G.be b) (by simp[h1]) (by simp[h1])).trans h2,?_⟩;have:=hcells _ _ h3;simpa [ee,Function.comp_def] using this
 case hp=>
  intro m T' hlk;simp only[St.loose,St.kill,St.map,look] at hlk;by_cases hml:m=l
  ·subst hml;simp only[BEq.rfl,aC,Q_] at hlk;subst hlk;refine hT.frame λg hg _=>⟨rfl,?_⟩
   rcases hg with hg|hg
   ·grind
   ·grind
  ·have h0:(m==l)=false:=by simpa using hml
   simp only[h0,cD,aP,A5 λm=>!ab.contains m] at hlk;split at hlk
   ·rename_i hna;have hma:m∉ab:=by simpa using hna
    exact(h.hp m T' hlk).frame λg hg _=>mo m hml hma g hg
   ·cases hlk
 case lt=>
  intro g hg;refine fE (h.lt g λe=>hg ?_) ho.size;simp_all
 case os=>exact ho.os.trans h.os
 case tape=>exact ho.tape.trans h.tape
 case output=>exact⟨ho.output.1.trans h.output.1,DrLe.trans h.output.2 ho.output.2⟩
 case size=>exact aR h.size ho.size
 case keep=>
  refine h.keep.next fo (λg hg=>hs g (by simp[hg]) (by simp[hg])) λg hg=>?_
  by_cases hc:∃ m,m∈ab/\G.ow g=.lab m
  ·grind
  ·simp_all
 case fb=>exact h.fb
 case fl=>exact h.fl
 case nt=>exact h.nt
 case df=>exact h.df
end Go.D
namespace Go.D
def Lq {P:Program} (F:Fr P) (K:St->Out) (Q:Post):Act->World->Prop:=λa w=>∃ σ',R F σ' a w/\(K σ').holds Q
structure Ext (d:Option Nat) (G:Gh) (a:Act) (w:World) (G':Gh) (a':Act) (w':World):Prop where
 act:∃ v,a'=a.put d v
 on:Onward w w'
 old:∀ g,g<w.heap.size->w'.heap[g]? = w.heap[g]?\/(G.ow g=.cur/\CurStep w w' g)
 ow:∀ g,G.ow g≠.gone->G'.ow g=G.ow g
 be:∀ b,d≠some b->G'.be b=G.be b
 hv:∀ l,(∀ d0,d=some d0->l<64*d0\/64*d0+64<=l)->G'.hv l=G.hv l
def ContE {P:Program} (F:Fr P) (G:Gh) (a:Act) (w:World) (d:Option Nat) (K:St->Out) (Q:Post):Act->World->Prop:=λa' w'=>∃ σ' G',RG F G' σ' a' w'/\(K σ').holds Q/\Ext d G a w G' a' w'
def ContE.cont {P:Program} {F:Fr P} {G:Gh} {a:Act} {w:World} {d:Option Nat} {K:St->Out} {Q:Post} {a':Act} {w':World} (h:ContE F G a w d K Q a' w'):Lq F K Q a' w' :=
 let ⟨σ',G',h1,h2,_⟩:=h;⟨σ',⟨G',h1⟩,h2⟩
def Ext.sm {d:Option Nat} {G G':Gh} {a a':Act} {w w':World} (h:Ext d G a w G' a' w') {g:Nat} (hg:g<w.heap.size) (hc:G.ow g≠.cur):w'.heap[g]? = w.heap[g]?:=(h.old g hg).resolve_right λe=>hc e.1
def Ext.world {P:Program} {F:Fr P} {σ:St} {d:Option Nat} {G G':Gh} {a a' b:Act} {w w':World} (he:Ext d G a w G' a' w') (h:RG F G σ b w):RG F G σ b w' :=
 h.world2 he.on (λg h1 h2=>he.sm (h.lt g h1) h2) λg hg=>(he.old g (h.lt g (by grind))).elim (λe=>(h.keep.at_ g hg).same e) (·.2)
def Ext.same {d:Option Nat} {G:Gh} {a:Act} {w:World} {v:Value}:Ext d G a w G (a.put d v) w :=
 ⟨⟨v,rfl⟩,⟨rfl,rfl,⟨rfl,by first|exact DrLe.refl _|exact DrLe.succ _|exact DrLe.add _ _⟩,Y_ _⟩,λ_ _=>.inl rfl,λ_ _=>rfl,λ_ _=>rfl,λ_ _=>rfl⟩
def Ae4 (σ:St) (o:Oper):Bool:=match o.dst with|some d=>decide (d<σ.nt)|none=>true
def ret (σ:St) (o:Oper) (x:TV) (K:St->Out):Out:=bif Ae4 σ o then K (σ.setTm o.dst x) else .bad
def D2 {P:Program} {o:Oper} {a:Act} {w w':World} {v:Value} {K:Act->World->Prop} {Q:Exit->Act->World->Prop} (h:(execOp a.eval o).run P w=.ok (.value v) w') (hk:K (a.put o.dst v) w'):o.wp P a w K Q:=by
 unfold Oper.wp;rw[h];exact hk
def Z1 {P:Program} {o:Oper} {a:Act} {w w':World} {K:Act->World->Prop} {Q:Exit->Act->World->Prop} (h:(execOp a.eval o).run P w=.ok .skip w') (hk:K (a.put o.dst undef) w'):o.wp P a w K Q:=by
 unfold Oper.wp;rw[h];exact hk
def AjN {σ:St} {o:Oper} (h:Ae4 σ o=true):∀ t,o.dst=some t->t<σ.nt:=by
 intro t ht;simpa [Ae4,ht] using h
def Agk {P:Program} {F:Fr P} {G:Gh} {σ:St} {a:Act} {w:World} {o:Oper} {x:TV} {K:St->Out} {Q:Post} {v:Value} (h:RG F G σ a w) (hh:(ret σ o x K).holds Q) (hx:TVR w G x v) :
 ContE F G a w o.dst K Q (a.put o.dst v) w:=by
 unfold ret at hh;cases hd:Ae4 σ o with
 | false=>simp[hd,Out.holds] at hh
 | true=>
  simp only[hd,aO] at hh;exact⟨_,G,h.setTm (AjN hd) hx,hh,.same⟩
def TV.scal:TV->Option Value
 | .v false [c]=>c.val?
 | _=>none
def Cell.val_ok {w:World} {G:Gh} {c:Cell} {u v:Value} (h:CellR w G c v) (hc:c.val? = some u):v=u/\plain u=true:=by
 cases c<;>simp only[Cell.val?,Q_,reduceCtorEq] at hc
 ·subst hc;exact h
 ·subst hc;exact⟨h,rfl⟩
 ·subst hc;exact⟨h,rfl⟩
def CP {w:World} {G:Gh} {x:TV} {u v:Value} (h:TVR w G x v) (hx:x.scal=some u):v=u/\plain u=true:=by
 unfold TV.scal at hx;split at hx
 ·obtain⟨c,hc,h⟩:=h;injection hc with hc
  subst hc;exact Cell.val_ok h hx
 ·cases hx
def Q3 {α:Type} (P:Program):Sem α->Option α
 | .pure a=>some a
 | .program k=>Q3 P (k P)
 | _=>none
def YC {α:Type} {P:Program} {s:Sem α} {r:α} (h:Q3 P s=some r) (w:World):s.run P w=.ok r w:=by
 induction s<;>simp only[Q3,reduceCtorEq] at h
 case pure a=>injection h with h;subst h;rfl
 case program k ih=>exact ih P h
def UP:Value->Option Cell
 | .int k n=>some (.sc (.int k n))
 | .bool b=>some (.sc (.bool b))
 | .string s=>some (.sc (.string s))
 | _=>none
def Xw {v:Value} {c:Cell} (w:World) (G:Gh) (h:UP v=some c):CellR w G c v:=by
 cases v<;>simp only[UP,Q_,reduceCtorEq] at h<;>subst h<;>exact⟨rfl,rfl⟩
def Mg (P:Program) (o:Oper) (s:Sem Value) (σ:St) (K:St->Out):Out :=
 match Q3 P s with
 | some r=>match UP r with
  | some c=>ret σ o (.v false [c]) K
  | none=>.bad
 | none=>.bad
section
variable {P:Program} {F:Fr P} {G:Gh} {σ:St} {a:Act} {w:World} {o:Oper} {K:St->Out} {Q:Post} {Qx:Exit->Act->World->Prop}
def Ho {s:Sem Value} (h:RG F G σ a w) (hh:(Mg P o s σ K).holds Q) (he:execOp a.eval o=(do pure (.value (<-s)))):o.wp P a w (ContE F G a w o.dst K Q) Qx:=by
 unfold Mg at hh;split at hh
 ·rename_i r hr;split at hh
  ·rename_i c hc;refine D2 (w':=w) (v:=r) ?_ (Agk h hh ⟨c,rfl,Xw w G hc⟩);rw[he];simp[YC hr w]
  ·exact hh.elim
 ·exact hh.elim
def Ax {x:TV} {v:Value} (h:RG F G σ a w) (hh:(ret σ o x K).holds Q) (hx:TVR w G x v) (he:(execOp a.eval o).run P w=.ok (.value v) w):o.wp P a w (ContE F G a w o.dst K Q) Qx :=
 D2 he (Agk h hh hx)
def Y2 (o:Oper) (x:Operand) (σ:St) (K:St->Out):Out:=ret σ o (σ.eval x) K
def R8 {x:Operand} (h:RG F G σ a w) (ho:o.op=.move x\/o.op=.assign x) (hh:(Y2 o x σ K).holds Q):o.wp P a w (ContE F G a w o.dst K Q) Qx :=
 Ax h hh (Am h x) (by rcases ho with ho|ho<;>simp[execOp,ho])
def sameSize (a b:ByteArray):Prop:=a.size+b.size<=4611686018427387904
def YX (P:Program) (o:Oper) (op:BinOp) (T:TypeId) (x y:Operand) (u v:Value) (σ:St) (K:St->Out):Out :=
 match op,u,v with
 | .add,.string a,.string b=>.ob (sameSize a b) (ret σ o (.v false [.sc (.string (a++b))]) K)
 | .quo,.int k a,.int k' b=>bif k==k' then .ob (b≠0) (ret σ o (.v false [.sc (.int k (k.wrap (a.tdiv b)))]) K) else .bad
 | .rem,.int k a,.int k' b=>bif k==k' then .ob (b≠0) (ret σ o (.v false [.sc (.int k (a.tmod b))]) K) else .bad
 | .shl,.int k a,.int _ b=>.ob (0<=b) (ret σ o (.v false [.sc (.int k (k.wrap (a*2 ^ (min b.toNat k.bits))))]) K)
 | .shr,.int k a,.int _ b=>.ob (0<=b) (ret σ o (.v false [.sc (.int k (a.fdiv (2 ^ (min b.toNat k.bits))))]) K)
 | _,_,_=>Mg P o (do eqGuard op T x y u v;binOp op T u v) σ K
def Adu {op:BinOp} {T Ty:TypeId} {x y:Operand} {u v:Value} (h:RG F G σ a w) (ho:o.op=.binOp op T x y Ty) (hx:a.eval x=u) (hy:a.eval y=v)
 (hh:(YX P o op T x y u v σ K).holds Q):o.wp P a w (ContE F G a w o.dst K Q) Qx:=by
 unfold YX at hh;split at hh
 ·rename_i s t;obtain⟨h0,hh⟩:=hh;refine Ax h hh ⟨_,rfl,rfl,rfl⟩ ?_;have h1:¬ (9223372036854775807<((s.size:Int)+(t.size:Int))):=by unfold sameSize at h0;omega
  simp[execOp,ho,hx,hy,eqGuard,binOp,Op.stringOp,IntKind.max,IntKind.signed,IntKind.bits,h1]
 ·rename_i k s k' t;cases hk:k==k' with
  | false=>simp[hk,Out.holds] at hh
  | true=>
   have:k=k':=by grind
   subst this;simp at hh;obtain⟨h0,hh⟩:=hh;refine Ax h hh ⟨_,rfl,rfl,rfl⟩ ?_;simp[execOp,ho,hx,hy,eqGuard,binOp,Op.intDiv,h0]
 ·rename_i k s k' t;cases hk:k==k' with
  | false=>simp[hk,Out.holds] at hh
  | true=>
   have:k=k':=by grind
   subst this;simp at hh;obtain⟨h0,hh⟩:=hh;refine Ax h hh ⟨_,rfl,rfl,rfl⟩ ?_;simp[execOp,ho,hx,hy,eqGuard,binOp,Op.intDiv,h0]
 ·rename_i k s k' t;obtain⟨h0,hh⟩:=hh;refine Ax h hh ⟨_,rfl,rfl,rfl⟩ ?_;have:¬ t<0:=o_
  simp[execOp,ho,hx,hy,eqGuard,binOp,Op.shift,this]
 ·rename_i k s k' t;obtain⟨h0,hh⟩:=hh;refine Ax h hh ⟨_,rfl,rfl,rfl⟩ ?_;have:¬ t<0:=o_
  simp[execOp,ho,hx,hy,eqGuard,binOp,Op.shift,this]
 ·refine Ho h hh ?_;simp[execOp,ho,hx,hy]
def EH (P:Program):Nat->TypeId->List Value->List Value->Option Bool
 | 0,_,_,_=>none
 | d+1,T,us,vs=>match P.underlying T with
  | some .bool=>match us,vs with|[.bool a],[.bool b]=>some (a==b)|_,_=>none
  | some (.int _)=>match us,vs with|[.int k a],[.int k' b]=>bif k==k' then some (a==b) else none|_,_=>none
  | some .string=>match us,vs with|[.string a],[.string b]=>some (a==b)|_,_=>none
  | some (.struct fs)=>if P.stoodInHeld T then none else fs.toList.foldr (λf r=>match P.info? f.type with
   | some i=>if f.name != "_"&&decide (f.offset+i.size<=us.length)&&decide (f.offset+i.size<=vs.length)&&(aggOf f.type||i.size==1) then
    match EH P d f.type ((us.drop f.offset).take i.size) ((vs.drop f.offset).take i.size),r with
    | some x,some y=>some (x&&y)
    | _,_=>none
    else none
   | none=>none) (some true)
  | _=>none
where aggOf (T:TypeId):Bool:=match P.underlying T with|some (.struct _)=>true|some (.array _ _)=>true|_=>false
def G9 (P:Program) (T:TypeId) (us:List Value):Value:=if EH.aggOf P T then .agg us.toArray else us.headD undef
def Vj (f:TypeId) (i:TypeInfo) (us:List Value) (off:Nat) (d:TypeDesc) (hd:P.underlying f=some d) (hi:P.info? f=some i) (hle:off+i.size<=us.length) (hs:EH.aggOf P f=true\/i.size=1) :
 (part f us.toArray off).run P w=.ok (G9 P f ((us.drop off).take i.size)) w:=by
 have hag:(isAgg f).run P w=.ok (EH.aggOf P f) w:=by simp only[isAgg,Sem.run_bind,run_underlying hd,Result.andThen_ok,EH.aggOf,hd];cases d<;>rfl
 unfold part;simp only[Sem.run_bind,hag,Result.andThen_ok];cases hb:EH.aggOf P f with
 | true=>
  simp[sizeOf,typeInfo,hi,G9,hb,List.extract_eq_take_drop]
 | false=>
  have h1:i.size=1:=by grind
  have hlt:off<us.length:=o_
  simp[G9,hb,h1,aG hlt,List.take_one,List.head?_drop]
def AaJ:∀ (d:Nat) (T:TypeId) (us vs:List Value) (b:Bool),EH P d T us vs=some b->(Op.equalIn d T (G9 P T us) (G9 P T vs)).run P w=.ok b w:=by
 intro d
 induction d with
 | zero=>intro T us vs b h;simp[EH] at h
 | succ d ih=>
  intro T us vs b h;unfold EH at h;split at h
  ·rename_i hu;have hag:EH.aggOf P T=false:=by simp[EH.aggOf,hu]
   split at h<;>simp at h;subst h;simp[G9,hag,Op.equalIn,run_underlying hu]
  ·rename_i k hu;have hag:EH.aggOf P T=false:=by simp[EH.aggOf,hu]
   split at h
   ·rename_i k1 x k2 y;cases hk:k1==k2 with
    | false=>simp[hk] at h
    | true=>
     have:k1=k2:=by grind
     subst this;simp at h;subst h;simp[G9,hag,Op.equalIn,run_underlying hu]
   ·simp at h
  ·rename_i hu;have hag:EH.aggOf P T=false:=by simp[EH.aggOf,hu]
   split at h<;>simp at h;subst h;simp[G9,hag,Op.equalIn,run_underlying hu]
  ·rename_i fs hu;have hag:EH.aggOf P T=true:=by simp[EH.aggOf,hu]
   cases hst:P.stoodInHeld T with
   | true=>simp[hst] at h
   | false=>
    simp only[hst,cD,aP] at h;have hf:P.fieldsOf T=fs:=by simp[Program.fieldsOf,hu]
    simp only[G9,hag,aC];rw[run_equalIn_struct w d T us.toArray vs.toArray (by grind) hst,hf];generalize fs.toList=l at h
    induction l generalizing b with
    | nil=>simp only[List.foldr_nil,Q_] at h;subst h;simp[Op.eqFields]
    | cons f l ihl=>
     simp only[List.foldr_cons] at h;split at h
     ·rename_i i hi;split at h
      ·rename_i hc;simp at hc;obtain⟨⟨⟨hn,h1⟩,h2⟩,h3⟩:=hc;split at h
       ·rename_i x y hx hy;simp at h;subst h;have hud:∃ dd,P.underlying f.type=some dd:=by
         cases hq:P.underlying f.type with
         | none=>
          cases d with
          | zero=>simp[EH] at hx
          | succ d=>unfold EH at hx;simp[hq] at hx
         | some dd=>exact⟨dd,rfl⟩
        obtain⟨dd,hud⟩:=hud;simp only[Op.eqFields,hn,ne_eq,not_false_eq_true,aC,Sem.run_bind,Vj f.type i us f.offset dd hud hi h1 h3,Vj f.type i vs f.offset dd hud hi h2 h3,Result.andThen_ok,ih _ _ _ _ hx];cases x
        ·simp
        ·simpa using ihl y hy
       ·simp at h
      ·simp at h
     ·simp at h
  ·simp at h
def ER:List Cell->Option (List Value)
 | []=>some []
 | c::cs=>match c.val?,ER cs with
  | some v,some vs=>some (v::vs)
  | _,_=>none
def GJ {cs:List Cell} {us:List Value} {vs:Array Value} (h:AP w G cs vs) (hc:ER cs=some us):vs=us.toArray/\∀ u∈us,plain u=true:=by
 have key:∀ (cs:List Cell) (us:List Value),ER cs=some us->us.length=cs.length/\∀ (j:Nat) (c:Cell),cs[j]? = some c->∃ u,us[j]? = some u/\c.val? = some u:=by
  intro cs
  induction cs with
  | nil=>intro us h;simp only[ER,Q_] at h;subst h;simp
  | cons c cs ih=>
   intro us h;simp only[ER] at h;grind
 obtain⟨h1,h2⟩:=key cs us hc;have hget:∀ j,j<cs.length->∃ u,vs[j]? = some u/\us[j]? = some u/\plain u=true:=by intro j hj;obtain⟨v,hv,hr⟩:=h.2 j _ (aG hj);obtain⟨u,hu,hcu⟩:=h2 j _ (aG hj);obtain⟨rfl,hp⟩:=Cell.val_ok hr hcu;exact⟨v,hv,hu,hp⟩
 constructor
 ·apply Array.ext_getElem?;intro j;by_cases hj:j<cs.length
  ·grind
  ·have:us.length<=j:=o_
   simp[Array.getElem?_eq_none (show vs.size<=j by rw[h.1];omega),List.getElem?_eq_none this]
 ·intro u hu;obtain⟨j,hj⟩:=List.getElem?_of_mem hu;grind
def Aid (P:Program) (o:Oper) (op:BinOp) (T:TypeId) (x y:Operand) (σ:St) (K:St->Out):Out :=
 match (σ.eval x).scal,(σ.eval y).scal with
 | some u,some v=>YX P o op T x y u v σ K
 | _,_=>match op,σ.eval x,σ.eval y with
  | .eql,.v true cs,.v true ds=>match ER cs,ER ds with
   | some us,some vs=>if P.eqGuardType P.depth T || !EH.aggOf P T then .bad else match EH P Op.maxDepth T us vs with
    | some b=>ret σ o (.v false [.sc (.bool b)]) K
    | none=>.bad
   | _,_=>.bad
  | .neq,.v true cs,.v true ds=>match ER cs,ER ds with
   | some us,some vs=>if P.eqGuardType P.depth T || !EH.aggOf P T then .bad else match EH P Op.maxDepth T us vs with
    | some b=>ret σ o (.v false [.sc (.bool !b)]) K
    | none=>.bad
   | _,_=>.bad
  | _,_,_=>.bad
def AfC {op:BinOp} {T Ty:TypeId} {x y:Operand} (h:RG F G σ a w) (ho:o.op=.binOp op T x y Ty) (hh:(Aid P o op T x y σ K).holds Q):o.wp P a w (ContE F G a w o.dst K Q) Qx:=by
 unfold Aid at hh;have hx:=Am h x;have hy:=Am h y;split at hh
 ·rename_i u v hu hv;exact Adu h ho (CP hx hu).1 (CP hy hv).1 hh
 ·split at hh
  ·rename_i cs ds hxe hye;rw[hxe] at hx;rw[hye] at hy;obtain⟨xs,hxs,hcx⟩:=hx;obtain⟨ys,hys,hcy⟩:=hy;split at hh
   ·rename_i us vs hus hvs;obtain⟨rfl,_⟩:=GJ hcx hus;obtain⟨rfl,_⟩:=GJ hcy hvs;split at hh
    ·exact hh.elim
    ·rename_i hg;simp at hg;split at hh
     ·rename_i b hb;refine Ax h hh ⟨_,rfl,rfl,rfl⟩ ?_;have:=AaJ (P:=P) (w:=w) _ _ _ _ _ hb;simp only[G9,hg.2,aC,Op.maxDepth] at this;simp only[execOp,ho,hxs,hys,Sem.run_bind,run_eqGuard_agg w .eql T x y _ _ hg.1,run_eql_struct,this,Result.andThen_ok];rfl
     ·exact hh.elim
   ·exact hh.elim
  ·rename_i cs ds hxe hye;rw[hxe] at hx;rw[hye] at hy;obtain⟨xs,hxs,hcx⟩:=hx;obtain⟨ys,hys,hcy⟩:=hy;split at hh
   ·rename_i us vs hus hvs;obtain⟨rfl,_⟩:=GJ hcx hus;obtain⟨rfl,_⟩:=GJ hcy hvs;split at hh
    ·exact hh.elim
    ·rename_i hg;simp at hg;split at hh
     ·rename_i b hb;refine Ax h hh ⟨_,rfl,rfl,rfl⟩ ?_;have:=AaJ (P:=P) (w:=w) _ _ _ _ _ hb;simp only[G9,hg.2,aC,Op.maxDepth] at this;simp only[execOp,ho,hxs,hys,Sem.run_bind,run_eqGuard_agg w .neq T x y _ _ hg.1,run_neq_struct,this,Result.andThen_ok];rfl
     ·exact hh.elim
   ·exact hh.elim
  ·exact hh.elim
end
end Go.D
namespace Go.D
section
variable {P:Program} {F:Fr P} {G:Gh} {σ:St} {a:Act} {w:World} {o:Oper} {K:St->Out} {Q:Post} {Qx:Exit->Act->World->Prop}
def AlL (P:Program) (o:Oper) (op:UnOp) (x:Operand) (σ:St) (K:St->Out):Out :=
 match (σ.eval x).scal with
 | some u=>Mg P o (Op.unary op u) σ K
 | none=>.bad
def Aim {op:UnOp} {T:TypeId} {x:Operand} (h:RG F G σ a w) (ho:o.op=.unOp op T x) (hh:(AlL P o op x σ K).holds Q):o.wp P a w (ContE F G a w o.dst K Q) Qx:=by
 unfold AlL at hh;split at hh
 ·rename_i u hu;have:=(CP (Am h x) hu).1;exact Ho h hh (by simp[execOp,ho,this])
 ·exact hh.elim
def Ai0 (x:TV) (y n:Out):Out :=
 match x with
 | .v false [.tt]=>y
 | .v false [.ff]=>n
 | .v false [.sc (.bool b)]=>.br b y n
 | _=>.bad
def AbH {x:TV} {v:Value} {y n:Out} (hx:TVR w G x v) (hh:(Ai0 x y n).holds Q):∃ b,v=.bool b/\(b=true->y.holds Q)/\(b=false->n.holds Q):=by
 unfold Ai0 at hh;split at hh
 ·obtain⟨c,hc,h⟩:=hx;injection hc with hc;subst hc;exact⟨true,h,λ_=>hh,by simp⟩
 ·obtain⟨c,hc,h⟩:=hx;injection hc with hc;subst hc;exact⟨false,h,by simp,λ_=>hh⟩
 ·rename_i b;obtain⟨c,hc,h⟩:=hx;injection hc with hc;subst hc;exact⟨b,h.1,hh.1,hh.2⟩
 ·exact hh.elim
def Ahb (o:Oper) (c x y:Operand) (σ:St) (K:St->Out):Out:=Ai0 (σ.eval c) (ret σ o (σ.eval x) K) (ret σ o (σ.eval y) K)
def Ada {c x y:Operand} (h:RG F G σ a w) (ho:o.op=.pick c x y) (hh:(Ahb o c x y σ K).holds Q):o.wp P a w (ContE F G a w o.dst K Q) Qx:=by
 obtain⟨b,hb,h1,h2⟩:=AbH (Am h c) hh;cases b with
 | true=>exact Ax h (h1 rfl) (Am h x) (by simp[execOp,ho,hb,asBool])
 | false=>exact Ax h (h2 rfl) (Am h y) (by simp[execOp,ho,hb,asBool])
def Afv (o:Oper) (x:Operand) (σ:St) (K:St->Out):Out :=
 match σ.eval x with
 | .ptr b off=>ret σ o (.ptr b off) K
 | .eptr l k i off=>ret σ o (.eptr l k i off) K
 | .sptr s k row off=>ret σ o (.sptr s k row off) K
 | .aptr cs off=>ret σ o (.aptr cs off) K
 | .clo fn caps=>ret σ o (.clo fn caps) K
 | _=>.bad
def VM {x:Operand} (h:RG F G σ a w) (ho:o.op=.nilCheck x) (hh:(Afv o x σ K).holds Q):o.wp P a w (ContE F G a w o.dst K Q) Qx:=by
 have hx:=Am h x;unfold Afv at hh;split at hh<;>(try exact hh.elim)<;>(rename_i he;rw[he] at hx;refine Ax h hh hx ?_)
 ·simp only[TVR] at hx;simp[execOp,ho,hx]
 ·obtain⟨g,o',n,cap,_,hv⟩:=hx;simp[execOp,ho,hv]
 ·obtain⟨g,o',r,e,fr,hv,_⟩:=hx;simp[execOp,ho,hv]
 ·obtain⟨g,r,e,fr,hv,_⟩:=hx;simp[execOp,ho,hv]
 ·obtain⟨vs,hv,_⟩:=hx;simp[execOp,ho,hv]
def Ni (o:Oper) (x:Operand) (ix:Nat) (σ:St) (K:St->Out):Out :=
 match σ.eval x with
 | .tup ps=>match ps[ix]? with
  | some p=>ret σ o (.v p.1 p.2) K
  | none=>.bad
 | _=>.bad
def Su {x:Operand} {ix:Nat} (h:RG F G σ a w) (ho:o.op=.extract x ix) (hh:(Ni o x ix σ K).holds Q):o.wp P a w (ContE F G a w o.dst K Q) Qx:=by
 have hx:=Am h x;unfold Ni at hh;split at hh
 ·rename_i ps he;rw[he] at hx;split at hh
  ·rename_i p hp;obtain⟨vs,hv,hs,hps⟩:=hx;obtain⟨u,hu,hr⟩:=hps ix p hp;exact Ax h hh hr (by simp[execOp,ho,hv,Instr.extract,hu])
  ·exact hh.elim
 ·exact hh.elim
def Pz (o:Oper) (x i:Operand) (σ:St) (K:St->Out):Out :=
 match (σ.eval x).scal,(σ.eval i).scal with
 | some (.string s),some (.int _ n)=>.ob (0<=n/\n<s.size) (ret σ o (.v false [.sc (.int .u8 (s.data.getD n.toNat 0).toNat)]) K)
 | _,_=>.bad
def Ua {T:TypeId} {x i:Operand} (h:RG F G σ a w) (ho:o.op=.index T x i) (hT:P.underlying T=some .string) (hh:(Pz o x i σ K).holds Q):o.wp P a w (ContE F G a w o.dst K Q) Qx:=by
 unfold Pz at hh;split at hh
 ·rename_i s k n hs hn;obtain⟨⟨h0,h1⟩,hh⟩:=hh;refine Ax h hh ⟨_,rfl,rfl,rfl⟩ ?_;have hlt:n.toNat<s.size:=o_
  have hget:s[n.toNat]? = some (s.data.getD n.toNat 0):=by rw[show s[n.toNat]? = some s[n.toNat] from getElem?_pos s n.toNat hlt];have h2:n.toNat<s.data.size:=hlt;unfold Array.getD;rw[dif_pos h2];rfl
  simp[execOp,ho,(CP (Am h x) hs).1,(CP (Am h i) hn).1,Instr.index,asIntOf,run_underlying hT,h0,hget]
 ·exact hh.elim
def EM (g off n:Nat):(⟨g,off,none⟩:Addr).add n=⟨g,off+n,none⟩:=by unfold Addr.add;split<;>simp_all
def TV.shift (n:Nat):TV->TV
 | .ptr b off=>.ptr b (off+n)
 | .eptr l k i off=>.eptr l k i (off+n)
 | .sptr s k row off=>.sptr s k row (off+n)
 | .aptr cs off=>.aptr cs (off+n)
 | _=>.dead
def AeJ {x:TV} {v:Value} (n:Nat) (hx:TVR w G x v) (hd:x.shift n≠.dead):∃ g off,v=.pointer (some ⟨g,off,none⟩)/\TVR w G (x.shift n) (.pointer (some ⟨g,off+n,none⟩)):=by
 cases x<;>simp only[TV.shift,ne_eq,not_true_eq_false] at hd
 case ptr b off=>exact⟨_,_,hx,rfl⟩
 case eptr l k i off=>
  obtain⟨g,o',m,cap,h1,h2⟩:=hx;exact⟨_,_,h2,g,o',m,cap,h1,by simp[Nat.add_assoc]⟩
 case sptr s k row off=>
  obtain⟨g,o',r,e,fr,h1,h2⟩:=hx;exact⟨_,_,h1,g,o',r,e,fr,by simp[Nat.add_assoc],h2⟩
 case aptr cs off=>
  obtain⟨g,r,e,fr,h1,h2⟩:=hx;exact⟨_,_,h1,g,r,e,fr,rfl,h2⟩
def GK (P:Program) (o:Oper) (T:TypeId) (x:Operand) (j:Nat) (σ:St) (K:St->Out):Out :=
 match P.underlying T with
 | some (.struct fs)=>match fs[j]? with
  | some f=>match P.info? f.type with
   | some i=>if i.size=0 then .bad else match (σ.eval x).shift f.offset with
    | .dead=>.bad
    | y=>ret σ o y K
   | none=>.bad
  | none=>.bad
 | _=>.bad
def IQ {T:TypeId} {x:Operand} {j:Nat} (h:RG F G σ a w) (ho:o.op=.fieldAddr T x j) (hh:(GK P o T x j σ K).holds Q):o.wp P a w (ContE F G a w o.dst K Q) Qx:=by
 unfold GK at hh;split at hh
 ·rename_i fs hu;split at hh
  ·rename_i f hf;split at hh
   ·rename_i i hi;split at hh
    ·exact hh.elim
    ·rename_i hne;have hx:=Am h x;generalize hy:(σ.eval x).shift f.offset=y at hh;have hd:(σ.eval x).shift f.offset≠.dead:=by rw[hy];intro e;subst e;exact hh.elim
     obtain⟨g,off,hv,hr⟩:=AeJ f.offset hx hd;rw[hy] at hr;have hh':(ret σ o y K).holds Q:=by simp_all
     refine Ax h hh' hr ?_;simp[execOp,ho,hv,Instr.fieldAt,Instr.sureAddr,run_underlying hu,hf,fieldPlace,sizeOf,typeInfo,hi,hne,EM]
   ·exact hh.elim
  ·exact hh.elim
 ·exact hh.elim
def G7 (P:Program) (o:Oper) (T:TypeId) (x i:Operand) (σ:St) (K:St->Out):Out :=
 match P.underlying T with
 | some (.slice e)=>match P.info? e,(σ.eval i).scal,σ.eval x with
  | some ie,some (.int _ n),.v false [.ref l]=>match look σ.hp l with
   | some t=>if t.k=ie.size then .ob (0<=n/\n<t.n) (ret σ o (.eptr l t.k n.toNat 0) K) else .bad
   | none=>.bad
  | some ie,some (.int _ n),.v false [.sub l k lo m]=>if k=ie.size then .ob (0<=n/\n<m) (ret σ o (.eptr l k (lo+n.toNat) 0) K) else .bad
  | some ie,some (.int _ n),.v false [.im s t xs]=>if t.width=ie.size then .ob (0<=n/\n<xs.length) (ret σ o (.sptr s t (xs.getD n.toNat default) 0) K) else .bad
  | _,_,_=>.bad
 | some (.array len e)=>match P.info? e,(σ.eval i).scal,σ.eval x with
  | some ie,some (.int _ n),.ptr b off=>.ob (0<=n/\n<len) (ret σ o (.ptr b (off+n.toNat*ie.size)) K)
  | _,_,_=>.bad
 | _=>.bad
def IP {T:TypeId} {x i:Operand} (h:RG F G σ a w) (ho:o.op=.indexAddr T x i) (hh:(G7 P o T x i σ K).holds Q):o.wp P a w (ContE F G a w o.dst K Q) Qx:=by
 unfold G7 at hh;have hx:=Am h x;split at hh
 ·rename_i e hu;split at hh
  ·rename_i ie kk n l hie hn hxe;rw[hxe] at hx;obtain⟨c,hc,hcr⟩:=hx;injection hc with hc
   subst hc;split at hh
   ·rename_i t hl;split at hh
    ·rename_i hk;obtain⟨⟨h0,h1⟩,hh⟩:=hh;rcases h.hp l t hl with⟨_,hz⟩|⟨g,off,cap,row,e',GG,hv,_⟩
     ·omega
     ·have hav:a.eval x=.slice (some ⟨g,off,none⟩) t.n cap:=hcr.1.trans hv;refine Ax h hh ⟨g,off,t.n,cap,hv,rfl⟩ ?_;simp[execOp,ho,hav,(CP (Am h i) hn).1,Instr.indexAt,asIntOf,run_underlying hu,h0,h1,sizeOf,typeInfo,hie,EM,hk]
    ·exact hh.elim
   ·exact hh.elim
  ·rename_i ie kk n l k lo m hie hn hxe;rw[hxe] at hx;obtain⟨c,hc,hcr⟩:=hx;injection hc with hc
   subst hc;split at hh
   ·rename_i hk;obtain⟨⟨h0,h1⟩,hh⟩:=hh;rcases hcr with⟨_,_,hz,_⟩|⟨g,off,mm,cap,off',hv,hle,hav,hof⟩
    ·omega
    ·have hof':off'=off+lo*k:=o_
     subst hof';refine Ax h hh ⟨g,off,mm,cap,hv,rfl⟩ ?_;simp[execOp,ho,hav,(CP (Am h i) hn).1,Instr.indexAt,asIntOf,run_underlying hu,h0,h1,sizeOf,typeInfo,hie,EM,hk,Nat.add_mul,Nat.add_assoc]
   ·exact hh.elim
  ·rename_i ie kk n s t xs hie hn hxe;rw[hxe] at hx;obtain⟨c,hc,hcr⟩:=hx;injection hc with hc
   subst hc;simp only[CellR,DH] at hcr;split at hh
   ·rename_i hk;obtain⟨⟨h0,h1⟩,hh⟩:=hh;obtain⟨ad,cap,hav,_,hz|⟨g,off,row,e',fr,rfl,hS,hg,hrow⟩⟩:=hcr
    ·omega
    ·refine Ax h hh ⟨g,off+n.toNat*t.width,row,e',fr,rfl,hS,hg,λj hj=>?_⟩ ?_
     ·obtain⟨u,hu',ht⟩:=hrow n.toNat o_ j hj;exact⟨u,hu',ht⟩
     ·simp[execOp,ho,hav,(CP (Am h i) hn).1,Instr.indexAt,asIntOf,run_underlying hu,h0,h1,sizeOf,typeInfo,hie,EM,hk]
   ·exact hh.elim
  ·exact hh.elim
 ·rename_i len e hu;split at hh
  ·rename_i ie kk n b off hie hn hxe;rw[hxe] at hx;simp only[TVR] at hx;obtain⟨⟨h0,h1⟩,hh⟩:=hh;refine Ax h hh rfl ?_;simp[execOp,ho,hx,(CP (Am h i) hn).1,Instr.indexAt,Instr.sureAddr,asIntOf,run_underlying hu,h0,h1,sizeOf,typeInfo,hie,EM]
  ·exact hh.elim
 ·exact hh.elim
def AhU (P:Program) (o:Oper) (T:TypeId) (x:Operand) (σ:St) (K:St->Out):Out :=
 match P.underlying T,σ.eval x with
 | some (.slice _),.v false [.ref l]=>match look σ.hp l with
  | some t=>ret σ o (.v false [.sc (.int .i64 t.n)]) K
  | none=>.bad
 | some (.slice _),.v false [.sub _ _ _ n]=>ret σ o (.v false [.sc (.int .i64 n)]) K
 | some (.slice _),.v false [.im _ _ xs]=>ret σ o (.v false [.sc (.int .i64 xs.length)]) K
 | some (.slice _),.v false [.nil]=>ret σ o (.v false [.sc (.int .i64 0)]) K
 | some .string,.v false [.sc (.string s)]=>ret σ o (.v false [.sc (.int .i64 s.size)]) K
 | _,_=>.bad
def AfU {T:TypeId} {x:Operand} (h:RG F G σ a w) (ho:o.op=.call { callee:=.builtin .len,args := #[x],argTypes := #[T]}) (hh:(AhU P o T x σ K).holds Q):o.wp P a w (ContE F G a w o.dst K Q) Qx:=by
 unfold AhU at hh;have hx:=Am h x;have run:∀ (d:TypeDesc) (v:Value) (n:Nat),P.underlying T=some d->a.eval x=v->(∀ w:World,(Builtin.len_ #[T] o.type #[v]).run P w=.ok (.int .i64 n) w)->(execOp a.eval o).run P w=.ok (.value (.int .i64 n)) w:=by intro d v n hu hv hr;simp[execOp,ho,resolve,invoke,builtin,hv,hr w]
 split at hh
 ·rename_i e l hu hxe;rw[hxe] at hx;obtain⟨c,hc,hcr⟩:=hx;injection hc with hc
  subst hc;split at hh
  ·rename_i t hl;refine Ax h hh ⟨_,rfl,rfl,rfl⟩ ?_;rcases h.hp l t hl with⟨⟨ad,hv⟩,hz⟩|⟨g,off,cap,row,e',GG,hv,_⟩
   ·exact run _ _ _ hu (hcr.1.trans hv) (λw=>by simp[Builtin.len_,run_underlying hu,goInt,hz])
   ·exact run _ _ _ hu (hcr.1.trans hv) (λw=>by simp[Builtin.len_,run_underlying hu,goInt])
  ·exact hh.elim
 ·rename_i e l k lo n hu hxe;rw[hxe] at hx;obtain⟨c,hc,hcr⟩:=hx;injection hc with hc
  subst hc;refine Ax h hh ⟨_,rfl,rfl,rfl⟩ ?_;rcases hcr with⟨ad,_,_,hz,hv⟩|⟨g,off,mm,cap,off',_,_,hv,_⟩
  ·exact run _ _ _ hu hv (λw=>by simp[Builtin.len_,run_underlying hu,goInt,hz])
  ·exact run _ _ _ hu hv (λw=>by simp[Builtin.len_,run_underlying hu,goInt])
 ·rename_i e s t xs hu hxe;rw[hxe] at hx;obtain⟨c,hc,hcr⟩:=hx;injection hc with hc
  subst hc;refine Ax h hh ⟨_,rfl,rfl,rfl⟩ ?_;simp only[CellR,DH] at hcr;obtain⟨ad,cap,hav,_⟩:=hcr;exact run _ _ _ hu hav (λw=>by simp[Builtin.len_,run_underlying hu,goInt])
 ·rename_i e hu hxe;rw[hxe] at hx;obtain⟨c,hc,hcr⟩:=hx;injection hc with hc
  subst hc;refine Ax h hh ⟨_,rfl,rfl,rfl⟩ ?_;exact run _ _ 0 hu hcr (λw=>by simp[Builtin.len_,run_underlying hu,goInt])
 ·rename_i s hu hxe;rw[hxe] at hx;obtain⟨c,hc,hcr⟩:=hx;injection hc with hc
  subst hc;refine Ax h hh ⟨_,rfl,rfl,rfl⟩ ?_;exact run _ _ _ hu hcr.1 (λw=>by simp[Builtin.len_,run_underlying hu,goInt])
 ·exact hh.elim
end
end Go.D
namespace Go.D
section
variable {P:Program} {F:Fr P} {G:Gh} {σ:St} {a:Act} {w:World} {o:Oper} {K:St->Out} {Q:Post} {Qx:Exit->Act->World->Prop}
def Pm (σ:St):List Cell->Option (List FC×List Nat)
 | []=>some ([],[])
 | c::cs=>match Pm σ cs with
  | some (ds,ab)=>match c with
   | .nil=>some (.nl::ds,ab)
   | .ref l=>match look σ.hp l with
    | some t=>if ab.contains l then none else some (.l t.t t.xs::ds,l::ab)
    | none=>none
   | c=>match c.val? with
    | some v=>some (.val v::ds,ab)
    | none=>none
  | none=>none
def AI:Cell->Nat->Prop
 | .ref l,m=>l=m
 | _,_=>False
def NI (h:RG F G σ a w):∀ (cs:List Cell) (ds:List FC) (ab:List Nat),Pm σ cs=some (ds,ab)->ds.length=cs.length /\
 (∀ (j:Nat) (c:Cell) (u:Value),cs[j]? = some c->CellR w G c u->TO w (fcC (ds.getD j .nl)) u λb=>∃ m,AI c m/\G.ow b=.lab m) /\
 (∀ (j:Nat) (c:Cell) (m:Nat),cs[j]? = some c->AI c m->m∈ab) /\
 (∀ (j j':Nat) (c c':Cell) (m:Nat),cs[j]? = some c->cs[j']? = some c'->AI c m->AI c' m->j=j'):=by
 intro cs
 induction cs with
 | nil=>intro ds ab hl;simp only[Pm,Q_,bP] at hl;obtain⟨rfl,rfl⟩:=hl;simp
 | cons c cs ih=>
  intro ds ab hl;simp only[Pm] at hl;split at hl
  ·rename_i ds0 ab0 hl0;obtain⟨h1,h2,h3,h4⟩:=ih ds0 ab0 hl0;have step:∀ (d:FC) (ab1:List Nat),ds=d::ds0->ab=ab1->(∀ u,CellR w G c u->TO w (fcC d) u λb=>∃ m,AI c m/\G.ow b=.lab m)->(∀ m,AI c m->m∈ab1)->(∀ m,m∈ab0->m∈ab1)->(∀ m,AI c m->m∉ab0) ->
    ds.length=(c::cs).length/\(∀ (j:Nat) (c':Cell) (u:Value),(c::cs)[j]? = some c'->CellR w G c' u->TO w (fcC (ds.getD j .nl)) u λb=>∃ m,AI c' m/\G.ow b=.lab m) /\
    (∀ (j:Nat) (c':Cell) (m:Nat),(c::cs)[j]? = some c'->AI c' m->m∈ab) /\
    (∀ (j j':Nat) (c1 c2:Cell) (m:Nat),(c::cs)[j]? = some c1->(c::cs)[j']? = some c2->AI c1 m->AI c2 m->j=j'):=by
    intro d ab1 hd hab t1 t2 t3 t4;subst hd;subst hab;refine⟨by simp[h1],λj c' u hj hu=>?_,λj c' m hj hm=>?_,λj j' c1 c2 m hj hj' hm hm'=>?_⟩
    ·cases j with
     | zero=>simp only[List.getElem?_cons_zero,Q_] at hj;subst hj;simpa using t1 u hu
     | succ j=>simpa using h2 j c' u (by simpa using hj) hu
    ·cases j with
     | zero=>simp only[List.getElem?_cons_zero,Q_] at hj;subst hj;exact t2 m hm
     | succ j=>exact t3 m (h3 j c' m (by simpa using hj) hm)
    ·cases j with
     | zero=>
      simp only[List.getElem?_cons_zero,Q_] at hj;subst hj;cases j' with
      | zero=>rfl
      | succ j'=>exact absurd (h3 j' c2 m (by simpa using hj') hm') (t4 m hm)
     | succ j=>
      cases j' with
      | zero=>
       simp only[List.getElem?_cons_zero,Q_] at hj';subst hj';exact absurd (h3 j c1 m (by simpa using hj) hm) (t4 m hm')
      | succ j'=>rw[h4 j j' c1 c2 m (by simpa using hj) (by simpa using hj') hm hm']
   split at hl
   ·simp only[Q_,bP] at hl;exact step _ _ hl.1.symm hl.2.symm (λu hu=>hu) (by simp[AI]) (λ_ h=>h) (by simp[AI])
   ·rename_i l;split at hl
    ·rename_i t ht;split at hl
     ·simp at hl
     ·rename_i hnl;simp only[Q_,bP] at hl;refine step _ _ hl.1.symm hl.2.symm (λu hu=>?_) (λm hm=>by simp only[AI] at hm;subst hm;simp) (λm hm=>by simp[hm]) (λm hm=>by simp only[AI] at hm;subst hm;simpa using hnl);rw[hu.1,Ce];exact(h.hp l t ht).frame λb hb _=>⟨rfl,l,rfl,hb⟩
    ·simp at hl
   ·rename_i hn1 hn2;split at hl
    ·rename_i v hv;simp only[Q_,bP] at hl;have hnl:∀ m,¬ AI c m:=by intro m hm;cases c<;>simp[AI] at hm;exact hn2 _ rfl
     exact step _ _ hl.1.symm hl.2.symm (λu hu=>Cell.val_ok hu hv) (λm hm=>(hnl m hm).elim) (λ_ h=>h) (λm hm=>(hnl m hm).elim)
    ·simp at hl
  ·simp at hl
end
end Go.D
namespace Go.D
section
variable {P:Program} {F:Fr P} {G:Gh} {σ:St} {a:Act} {w:World} {o:Oper} {K:St->Out} {Q:Post} {Qx:Exit->Act->World->Prop}
def toCell (s:Option Nat):FC->Cell
 | .val v=>.sc v
 | .nl=>.nil
 | .l t xs=>.im s t xs
def Gu {s:Option Nat} {c:FC} {v:Value} (h:TR w (src G s) (fcC c) v):CellR w G (toCell s c) v:=by
 cases c<;>exact h
def F7 (T:TypeId) (d:TypeDesc) (i:TypeInfo) (g off:Nat) (r:Array Value) (e:TypeId) (fr:Nat×Nat) (hd:P.underlying T=some d) (hi:P.info? T=some i)
 (hg:w.heap[g]? = some (.cells r e fr)) (vs:List Value) (hl:vs.length=i.size) (h:∀ (j:Nat) (v:Value),vs[j]? = some v->r[off+j]? = some v) (hs:EH.aggOf P T=true\/i.size=1) :
 (loadVar T ⟨g,off,none⟩).run P w=.ok (G9 P T vs) w:=by
 have hag:(isAgg T).run P w=.ok (EH.aggOf P T) w:=by simp only[isAgg,Sem.run_bind,run_underlying hd,Result.andThen_ok,EH.aggOf,hd];cases d<;>rfl
 have hc:∀ (j:Nat) (v:Value),vs[j]? = some v->w.cell? ((⟨g,off,none⟩:Addr).add j)=some v:=by intro j v hv;rw[EM,cell_of_row w g (off+j) r e fr hg];exact h j v hv
 unfold loadVar;simp only[Sem.run_bind,hag,Result.andThen_ok];cases hb:EH.aggOf P T with
 | true=>
  have:=run_loadCells_list (P:=P) w ⟨g,off,none⟩ vs hc;rw[hl] at this;simp[sizeOf,typeInfo,hi,G9,hb,this]
 | false=>
  have h1:i.size=1:=by grind
  obtain⟨u,rfl⟩:∃ u,vs=[u]:=by rw[h1] at hl;exact eo.1 hl
  have h0:=hc 0 u rfl;simp only[Addr.add,aC] at h0;simp[G9,hb,h0]
def Ab4 (T:TypeId) (cs:List Cell) (vs:List Value) (hl:vs.length=cs.length) (h:∀ (j:Nat) (c:Cell),cs[j]? = some c->∃ u,vs[j]? = some u/\CellR w G c u) (hs:EH.aggOf P T=true\/cs.length=1) :
 TVR w G (.v (EH.aggOf P T) cs) (G9 P T vs):=by
 unfold G9;cases hb:EH.aggOf P T with
 | true=>exact⟨vs.toArray,rfl,by simpa using hl,λj c hc=>by grind⟩
 | false=>
  have h1:cs.length=1:=by grind
  obtain⟨c,rfl⟩:=eo.1 h1;obtain⟨u,rfl⟩:=eo.1 (hl.trans h1);obtain⟨u',hu',hr⟩:=h 0 c rfl;simp at hu';subst hu';exact⟨c,rfl,hr⟩
def QD {T:TypeId} {x:Operand} (h:RG F G σ a w) (ho:o.op=.load T x) {d:TypeDesc} {i:TypeInfo} (hd:P.underlying T=some d) (hi:P.info? T=some i)
 {g off:Nat} {r:Array Value} {e:TypeId} {fr:Nat×Nat} (hx:a.eval x=.pointer (some ⟨g,off,none⟩)) (hg:w.heap[g]? = some (.cells r e fr)) (cs:List Cell) (hl:cs.length=i.size)
 (hc:∀ (j:Nat) (c:Cell),cs[j]? = some c->∃ u,r[off+j]? = some u/\CellR w G c u) (hs:EH.aggOf P T=true\/i.size=1)
 (hh:(ret σ o (.v (EH.aggOf P T) cs) K).holds Q):o.wp P a w (ContE F G a w o.dst K Q) Qx:=by
 have hget:∀ j,j<cs.length->∃ u,r[off+j]? = some u/\CellR w G (cs.getD j .dead) u:=by simp_all
 let vs:List Value:=(List.range cs.length).map λj=>(r[off+j]?).getD undef
 have hvs:∀ (j:Nat),j<cs.length->vs[j]? = r[off+j]?:=by grind
 refine Ax h hh (Ab4 (P:=P) T cs vs (by grind) (λj c hj=>?_) (by rwa [hl])) ?_
 ·have hlt:=(List.getElem?_eq_some_iff.1 hj).1;rw[hvs j hlt];exact hc j c hj
 ·have:=F7 (P:=P) (w:=w) T d i g off r e fr hd hi hg vs (by grind) (λj v hv=>?_) hs
  ·simp[execOp,ho,hx,Instr.loadAt,Instr.sureAddr,this]
  ·have hlt:j<cs.length:=by grind
   rw[<-hvs j hlt];exact hv
def KM (s:Option Nat) (row:Nat->FC) (off n:Nat):List Cell:=(List.range n).map λj=>toCell s (row (off+j))
def Acr (P:Program) (o:Oper) (T:TypeId) (x:Operand) (σ:St) (K:St->Out):Out :=
 match P.underlying T,P.info? T with
 | some _,some i=>if EH.aggOf P T||i.size==1 then match σ.eval x with
  | .ptr b off=>match look σ.bx b with
   | some cs=>if off+i.size<=cs.length then ret σ o (.v (EH.aggOf P T) ((cs.drop off).take i.size)) K else .bad
   | none=>.bad
  | .eptr l k e off=>match look σ.hp l with
   | some t=>if t.k=k/\off+i.size<=k then .ob (e<t.n) (match EH.aggOf P T,cell t.t t.xs e off with
    | false,.l t' ys=>ret σ o (.inn l k e off t' ys) K
    | _,_=>ret σ o (.v (EH.aggOf P T) (KM (some l) (cell t.t t.xs e) off i.size)) K) else .bad
   | none=>.bad
  | .sptr s t x off=>if off+i.size<=t.width then ret σ o (.v (EH.aggOf P T) (KM s (λj=>(enc t x).getD j .nl) off i.size)) K else .bad
  | .aptr cs off=>if off+i.size<=cs.length then ret σ o (.v (EH.aggOf P T) (((cs.drop off).take i.size).map (toCell none))) K else .bad
  | _=>.bad
  else .bad
 | _,_=>.bad
def Mz {s:Option Nat} {row:Nat->FC} {off n j:Nat} {c:Cell} (h:(KM s row off n)[j]? = some c):j<n/\c=toCell s (row (off+j)):=by
 unfold KM at h;grind
def AdB {T:TypeId} {x:Operand} (h:RG F G σ a w) (ho:o.op=.load T x) (hh:(Acr P o T x σ K).holds Q):o.wp P a w (ContE F G a w o.dst K Q) Qx:=by
 unfold Acr at hh;have hx:=Am h x;split at hh
 ·rename_i d i hd hi;split at hh
  ·rename_i hs;have hs:EH.aggOf P T=true\/i.size=1:=by grind
   split at hh
   ·rename_i b off he;rw[he] at hx;split at hh
    ·rename_i cs hb;split at hh
     ·obtain⟨h1,r,e,h2,h3⟩:=h.bx b cs hb;refine QD h ho hd hi hx h2 _ (by grind) (λj c hj=>?_) hs hh;have hlt:j<i.size:=by have:=(List.getElem?_eq_some_iff.1 hj).1;simp at this;omega
      simp only[fQ,hlt,aC,List.getElem?_drop] at hj;exact h3.2 _ _ hj
     ·exact hh.elim
    ·exact hh.elim
   ·rename_i l k e0 off he;rw[he] at hx;split at hh
    ·rename_i t hl;split at hh
     ·rename_i hle;obtain⟨hk,hle⟩:=hle;obtain⟨hlt,hh⟩:=hh;obtain⟨g,o',m,cap,hv,hav⟩:=hx;obtain⟨_,cap',hv',_,hz|⟨g',o2,row,e,fr,hae,hS,hg,hrow⟩⟩:=(h.hp l t hl).read
      ·omega
      ·rw[hv] at hv';injection hv' with h1 h2 h3
       subst h1;injection hae with hae
       injection hae with hg1 ho1
       subst hg1;subst ho1;split at hh
       ·rename_i _ _ t' ys hag hcl;have h1:i.size=1:=by grind
        rcases h.hp l t hl with⟨_,hz⟩|⟨g2,o3,cap2,row2,e2,GG,hv2,_,_,hg2,hF2,_⟩
        ·omega
        rw[hv] at hv2;injection hv2 with ha hn hcap
        injection ha with ha
        injection ha with hgg hoo
        subst hgg;rw[hg] at hg2;injection hg2 with hg2
        injection hg2 with hr2 he2 hfr2
        subst hr2 he2 hfr2;obtain⟨u,hu,ht⟩:=hrow e0 hlt off o_;rw[hk] at hu;have hrun:=F7 (P:=P) (w:=w) T d i g (o'+e0*k+off) row e (0,0) hd hi hg [u] (by grind) (λj v hj=>by
         cases j with
         | zero=>simp only[List.getElem?_cons_zero,Q_] at hj;subst hj;simpa using hu
         | succ j=>simp at hj) hs
        have hmk:G9 P T [u]=u:=by simp[G9,hag]
        rw[hmk] at hrun;refine Ax h hh (v:=u) ⟨⟨g,o',m,cap,row,e,hv,o_,o_,hS,hg,hu⟩,?_⟩ (by simp[execOp,ho,hav,Instr.loadAt,Instr.sureAddr,hrun]);rw[<-hcl];exact ht
       ·refine QD h ho hd hi hav hg _ (by simp[KM]) (λj c hj=>?_) hs hh;obtain⟨hj1,rfl⟩:=Mz hj;obtain⟨u,hu,ht⟩:=hrow e0 hlt (off+j) o_;rw[hk] at hu;exact⟨u,by grind,Gu (s:=some l) ht⟩
     ·exact hh.elim
    ·exact hh.elim
   ·rename_i s t x off he;rw[he] at hx;split at hh
    ·obtain⟨g,o',r,e,fr,hav,hS,hg,hrow⟩:=hx;refine QD h ho hd hi hav hg _ (by simp[KM]) (λj c hj=>?_) hs hh;obtain⟨hj1,rfl⟩:=Mz hj;obtain⟨u,hu,ht⟩:=hrow (off+j) o_;exact⟨u,by grind,Gu ht⟩
    ·exact hh.elim
   ·rename_i cs off he;rw[he] at hx;split at hh
    ·obtain⟨g,r,e,fr,hav,hS,hg,hrow⟩:=hx;refine QD h ho hd hi hav hg _ (by grind) (λj c hj=>?_) hs hh;have hlt:j<i.size:=by have:=(List.getElem?_eq_some_iff.1 hj).1;simp at this;omega
     simp only[cp,fQ,hlt,aC,List.getElem?_drop] at hj;cases hq:cs[off+j]? with
     | none=>simp[hq] at hj
     | some c0=>
      simp only[hq,aY,Q_] at hj;subst hj;obtain⟨u,hu,ht⟩:=hrow _ _ hq;exact⟨u,hu,Gu (s:=none) ht⟩
    ·exact hh.elim
   ·exact hh.elim
  ·exact hh.elim
 ·exact hh.elim
def KJ (h:RG F G σ a w):G.ow w.heap.size=.gone:=by
 cases hq:G.ow w.heap.size with
 | gone=>rfl
 | _=>exact absurd (h.lt w.heap.size (by grind)) (Nat.lt_irrefl _)
def RG.alloc (h:RG F G σ a w) (ob:Obj):RG F G σ a (w.alloc ob) :=
 h.world ⟨rfl,rfl,⟨rfl,by first|exact DrLe.refl _|exact DrLe.succ _|exact DrLe.add _ _⟩,by simp⟩ λg hg=>heap_alloc_old w ob g (h.lt g hg)
def Cells.alloc {cs:List Cell} {vs:Array Value} (h:RG F G σ a w) (ob:Obj) (hc:AP w G cs vs):AP (w.alloc ob) G cs vs :=
 Cells.carry ⟨λg hg=>⟨heap_alloc_old w ob g (h.lt g (by grind)),hg⟩,λg hg=>hg⟩ (λ_ _=>rfl) (λm _ g hg=>⟨heap_alloc_old w ob g (h.lt g (by simp[hg])),hg⟩) hc
def Af7 (o:Oper) (cs:List Cell) (σ:St) (K:St->Out):Out :=
 match o.dst with
 | some d=>if σ.hasB d then .bad else if d<σ.nt then K (({ σ with bx:=D.put σ.bx d cs }:St).put d (.ptr d 0)) else .bad
 | none=>.bad
def Vx {cs:List Cell} {r:Array Value} {e:TypeId} (h:RG F G σ a w) (hc:AP w G cs r) (hh:(Af7 o cs σ K).holds Q)
 (he:(execOp a.eval o).run P w=.ok (.value (.pointer (some ⟨w.heap.size,0,none⟩))) (w.alloc (.cells r e))):o.wp P a w (ContE F G a w o.dst K Q) Qx:=by
 unfold Af7 at hh;split at hh
 ·rename_i d hd;split at hh
  ·exact hh.elim
  ·rename_i hb;split at hh
   ·rename_i hlt;obtain⟨G',hG,hbe,how,hob,hhv⟩:=(h.alloc (.cells r e)).newBox d cs w.heap.size r e (by grind) (KJ h) (heap_alloc_new w _) (Cells.alloc h _ hc);refine D2 he ?_;rw[hd];exact⟨_,G',hG.put hlt (by simp[TVR,hbe]),hh,⟨_,rfl⟩,⟨rfl,rfl,⟨rfl,by first|exact DrLe.refl _|exact DrLe.succ _|exact DrLe.add _ _⟩,by simp⟩,λg hg=>.inl (heap_alloc_old w _ g hg),how,λb hb=>hob b λe=>hb (e▸rfl),λl _=>by rw[hhv]⟩
   ·exact hh.elim
 ·exact hh.elim
def Ii {agg:Bool} {cs:List Cell} {v:Value} (h:Gw w G agg cs v):AP w G cs v.cells:=by
 cases agg with
 | true=>obtain⟨vs,rfl,h⟩:=h;exact h
 | false=>
  obtain⟨c,rfl,h⟩:=h;have h1:v.cells = #[v]:=by have:=CellR.one h;cases v<;>simp_all [Value.oneCell',Value.cells]
  rw[h1];refine⟨rfl,λj c' hj=>?_⟩;grind
def AiT (o:Oper) (x:Operand) (σ:St) (K:St->Out):Out :=
 match σ.eval x with
 | .v _ cs=>Af7 o cs σ K
 | _=>.bad
def Aef {T:TypeId} {x:Operand} (h:RG F G σ a w) (ho:o.op=.box T x) (hh:(AiT o x σ K).holds Q):o.wp P a w (ContE F G a w o.dst K Q) Qx:=by
 unfold AiT at hh;have hx:=Am h x;split at hh
 ·rename_i agg cs he;rw[he] at hx;exact Vx (e:=T) h (Ii hx) hh (by simp[execOp,ho,Instr.box,newVar,newRow])
 ·exact hh.elim
def zeroCells (P:Program) (T:TypeId):Option (List Cell) :=
 match P.info? T with
 | some i=>match i.zero with
  | some z=>if z.cells.toList.all (λv=>v.oneCell') then some (z.cells.toList.map FM) else none
  | none=>none
 | none=>none
def HH {T:TypeId} {cs:List Cell} (h:zeroCells P T=some cs):∃ i z,P.info? T=some i/\i.zero=some z/\AP w G cs z.cells:=by
 unfold zeroCells at h;split at h
 ·rename_i i hi;split at h
  ·rename_i z hz;split at h
   ·rename_i hall;simp at h;subst h;refine⟨i,z,hi,hz,by simp,λj c hj=>?_⟩;rw[cp] at hj;cases hq:z.cells.toList[j]? with
    | none=>simp[hq] at hj
    | some v=>
     simp only[hq,aY,Q_] at hj;subst hj;refine⟨v,by grind,RN w G v ?_⟩;grind
   ·simp at h
  ·simp at h
 ·simp at h
def Va (P:Program) (o:Oper) (T:TypeId) (σ:St) (K:St->Out):Out :=
 match zeroCells P T with
 | some cs=>Af7 o cs σ K
 | none=>.bad
def YB {T:TypeId} (h:RG F G σ a w) (ho:o.op=.alloc T) (hh:(Va P o T σ K).holds Q):o.wp P a w (ContE F G a w o.dst K Q) Qx:=by
 unfold Va at hh;split at hh
 ·rename_i cs hz;obtain⟨i,z,hi,hzz,hc⟩:=HH (w:=w) (G:=G) hz;exact Vx (e:=T) h hc hh (by simp[execOp,ho,Instr.alloc,zeroValue,typeInfo,hi,hzz,newVar,newRow])
 ·exact hh.elim
def HF {cs0 cs:List Cell} {r vs:Array Value} {off:Nat} (h0:AP w G cs0 r) (h:AP w G cs vs) (hle:off+cs.length<=cs0.length) :
 AP w G (cs0.take off++cs++cs0.drop (off+cs.length)) (r.toList.take off++vs.toList++r.toList.drop (off+vs.toList.length)).toArray:=by
 have hr:=h0.1;have hv:=h.1;have hvl:vs.toList.length=cs.length:=o_
 refine⟨by grind,λj c hj=>?_⟩;simp only[List.getElem?_toArray];rw[bF] at hj ⊢;by_cases h1:j<off
 ·rw[cL (by grind)] at hj;rw[cL (by grind)];simp only[fQ,h1,aC] at hj ⊢;simpa using h0.2 j c hj
 ·rw[cV (by grind)] at hj;rw[cV (by grind)];have e1:(List.take off cs0).length=off:=by grind
  have e2:(List.take off r.toList).length=off:=by grind
  rw[e1] at hj;rw[e2];by_cases h2:j-off<cs.length
  ·rw[cL h2] at hj;rw[cL o_];simpa using h.2 _ c hj
  ·rw[cV o_] at hj;rw[cV o_];rw[hvl];simp only[List.getElem?_drop] at hj ⊢;simpa using h0.2 _ c hj
def Mq (P:Program) (o:Oper) (T:TypeId) (p x:Operand) (σ:St) (K:St->Out):Out :=
 match P.info? T,σ.eval x with
 | some i,.v _ cs=>if i.size=cs.length then(match σ.eval p with
  | .ptr b off=>match look σ.bx b with
   | some cs0=>if off+cs.length<=cs0.length then K { σ with bx:=D.put σ.bx b (cs0.take off++cs++cs0.drop (off+cs.length))} else .bad
   | none=>.bad
  | .eptr l k e off=>match look σ.hp l,Pm σ cs with
   | some T0,some (ds,ab)=>if T0.k=k/\off+cs.length<=k/\(dec T0.t (Gx (enc T0.t (T0.xs.getD e default)) off ds)).isSome=true/\ab.contains l=false/\ab.all (λm=>!σ.fl.contains m)=true then
    .ob (e<T0.n) (.lt (List (El T0.t)) (T0.xs.modify e (upd T0.t off ds)) λys=>K (({ σ with hp:=(l,⟨T0.t,ys⟩)::σ.hp.filter λp=>!ab.contains p.1 }.kill ab).loose [l])) else .bad
   | _,_=>.bad
  | _=>.bad) else .bad
 | _,_=>.bad
def Hz {T:TypeId} {p x:Operand} {i:TypeInfo} (ho:o.op=.store T p x) (hi:P.info? T=some i) {v:Value} (hv:a.eval x=v) {g off:Nat} (hp:a.eval p=.pointer (some ⟨g,off,none⟩))
 {r:Array Value} {e:TypeId} (hg:w.heap[g]? = some (.cells r e (0,0))) (hs:v.cells.size=i.size) (hle:off+v.cells.toList.length<=r.size) (h1:∀ u∈v.cells.toList,u.oneCell'=true) :
 (execOp a.eval o).run P w=.ok .skip (w.setRow g (r.toList.take off++v.cells.toList++r.toList.drop (off+v.cells.toList.length)).toArray):=by
 have:=run_storeCells_at P g off e v.cells.toList 0 r w hg o_ h1;simp only[Nat.add_zero] at this;simp[execOp,ho,hp,hv,Instr.storeAt,Instr.sureAddr,storeVar,sizeOf,typeInfo,hi,hs,this]
def RD {cs:List Cell} {vs:Array Value} (h:AP w G cs vs):∀ u∈vs.toList,u.oneCell'=true:=by
 intro u hu;obtain⟨j,hj⟩:=List.getElem?_of_mem hu;have hlt:j<cs.length:=by have:=(List.getElem?_eq_some_iff.1 hj).1;rw[<-h.1];exact this
 obtain⟨v,hv,hr⟩:=h.2 j _ (aG hlt);have:u=v:=by simp_all
 subst this;exact hr.one
def VL {i i' j j' k:Nat} (hj:j<k) (hj':j'<k) (h:i'*k+j'=i*k+j):i'=i/\j'=j:=by
 have h0:0<k:=o_
 have e1:(i'*k+j') / k=i':=by rw[Nat.mul_comm,Nat.mul_add_div h0,Nat.div_eq_of_lt hj'];rfl
 have e2:(i*k+j) / k=i:=by rw[Nat.mul_comm,Nat.mul_add_div h0,Nat.div_eq_of_lt hj];rfl
 simp_all
def KT {T:TypeId} {p x:Operand} (h:RG F G σ a w) (ho:o.op=.store T p x) (hd:o.dst=none) (hh:(Mq P o T p x σ K).holds Q):o.wp P a w (Lq F K Q) Qx:=by
 unfold Mq at hh;have hx:=Am h x;have hp:=Am h p;have hput:∀ v,a.put o.dst v=a:=by intro v;rw[hd];rfl
 split at hh
 ·rename_i i agg cs hi hxe;rw[hxe] at hx;have hcs:=Ii hx;have hsz:(a.eval x).cells.toList.length=cs.length:=by simpa using hcs.1
  split at hh
  ·rename_i hs;split at hh
   ·rename_i b off hpe;rw[hpe] at hp;split at hh
    ·rename_i cs0 hb;split at hh
     ·rename_i hle;obtain⟨h1,r,e,h2,h3⟩:=h.bx b cs0 hb;refine Z1 (Hz ho hi rfl hp h2 (by grind) (by rw[hsz,h3.1];exact hle) (RD hcs)) ?_;rw[hput];exact⟨_,⟨G,h.setBox b cs0 _ _ e hb ⟨rfl,rfl,⟨rfl,by first|exact DrLe.refl _|exact DrLe.succ _|exact DrLe.add _ _⟩,by simp⟩ (λg hg=>setRow_other w _ g _ hg) (setRow_heap w _ r _ e _ h2) (HF h3 hcs hle)⟩,hh⟩
     ·exact hh.elim
    ·exact hh.elim
   ·rename_i l k e0 off hpe;rw[hpe] at hp;split at hh
    ·rename_i T0 ds ab hl hlit;split at hh
     ·rename_i hcond;obtain⟨hk,hle,hdec,hlab,habf⟩:=hcond;obtain⟨hlt,hh⟩:=hh;obtain⟨g,o',m,cap0,hv,hpv⟩:=hp;obtain⟨l1,l2,l3,l4⟩:=NI h cs ds ab hlit;have hla:l∉ab:=by grind
      generalize hvs:(a.eval x).cells.toList=us at hsz;rcases h.hp l T0 hl with⟨_,hz⟩|⟨g',o2,cap,row,e,GG,hv',hnc,hcap,hg,hF,hrow,hsub,hdis⟩
      ·omega
      ·have hv2:=hv';rw[hv] at hv';injection hv' with hA hB hC
       injection hA with hA
       injection hA with hA1 hA2
       subst hA1;subst hA2;have hin:e0*k+k<=T0.n*k:=by
        have:(e0+1)*k<=T0.n*k:=da _ hlt
        rwa [Nat.add_mul,Nat.one_mul] at this
       have hnk:T0.n*k<=cap*k:=da _ hnc;rw[hk] at hcap;have hfit:o'+e0*k+off+us.length<=row.size:=o_
       have hel:(enc T0.t (T0.xs.getD e0 default)).length=k:=by rw[K1];exact hk
       have hupd:=(AdK hdec).get.2;have hTk:(⟨T0.t,T0.xs.modify e0 (upd T0.t off ds)⟩:Tree).k=k:=hk;have hTn:(⟨T0.t,T0.xs.modify e0 (upd T0.t off ds)⟩:Tree).n=T0.n:=by simp[Tree.n]
       refine Z1 (Hz ho hi rfl hpv hg (by rw[hcs.1,hs]) (by grind) (by intro u hu;exact RD hcs u hu)) ?_;rw[hput,hvs];have old:∀ b,b≠g->(w.setRow g (row.toList.take (o'+e0*k+off)++us++row.toList.drop (o'+e0*k+off+us.length)).toArray).heap[b]? = w.heap[b]?:=λb hb=>setRow_other w g b _ hb
       obtain⟨G',hG',_⟩:=h.setTree (w':=w.setRow g (row.toList.take (o'+e0*k+off)++us++row.toList.drop (o'+e0*k+off+us.length)).toArray) l ab T0 ⟨T0.t,T0.xs.modify e0 (upd T0.t off ds)⟩ hl hla (by grind) ⟨rfl,rfl,⟨rfl,by first|exact DrLe.refl _|exact DrLe.succ _|exact DrLe.add _ _⟩,by simp⟩
        (λb hb hbl=>old b λe=>hbl (e▸hF)) (by
         refine .inr ⟨g,o',cap,_,e,λi j=>if i=e0/\off<=j/\j<off+us.length then(λb=>∃ c m,cs[j-off]? = some c/\AI c m/\G.ow b=.lab m) else GG i j,by grind,by rw[hTn];exact hnc,?_,setRow_heap w g row _ e _ hg,.inl hF,?_,?_,?_⟩
         ·rw[hTk];simp;omega
         ·intro i' hi' j' hj';rw[hTn] at hi';rw[hTk] at hj' ⊢;have hfc:(⟨T0.t,T0.xs.modify e0 (upd T0.t off ds)⟩:Tree).f i' j'=fcC (if i'=e0 then(enc T0.t (upd T0.t off ds (T0.xs.getD e0 default))).getD j' .nl else cell T0.t T0.xs i' j'):=by simp only[Tree.f];rw[I5 (show e0<T0.xs.length from hlt)]
          rw[hfc];obtain⟨u,hu,ht⟩:=hrow i' hi' j' o_;rw[hk] at hu;by_cases hin':i'=e0/\off<=j'/\j'<off+us.length
          ·obtain⟨rfl,hj1,hj2⟩:=hin';have hjj:j'-off<us.length:=o_
           refine⟨us[j'-off],?_,?_⟩
           ·simp only[List.getElem?_toArray];rw[bF,cV (by simp;omega)];have e1:(List.take (o'+i'*k+off) row.toList).length=o'+i'*k+off:=by simp;omega
            rw[e1,cL o_,show o'+i'*k+j'-(o'+i'*k+off)=j'-off from o_,aG hjj]
           ·simp only[hj1,hj2,and_self,aC];have hjc:j'-off<cs.length:=o_
            obtain⟨u2,hu2,hcr⟩:=hcs.2 (j'-off) _ (aG hjc);have e2:u2=us[j'-off]:=by
             have h3:(a.eval x).cells.toList[j'-off]? = some u2:=by grind
             rw[hvs,aG hjj] at h3;injection h3 with h3
             exact h3.symm
            subst e2;have hto:=l2 (j'-off) _ _ (aG hjc) hcr;have hle':=hupd j';rw[Em o_,G_ ⟨hj1,by rw[l1];omega⟩] at hle';refine TO.le hle'.le (hto.frame λb hb _=>?_);obtain⟨m',hm',hb'⟩:=hb;exact⟨old b (λe=>by grind),_,m',aG hjc,hm',hb'⟩
          ·have hne:¬ (o'+e0*k+off<=o'+i'*k+j'/\o'+i'*k+j'<o'+e0*k+off+us.length):=by
            rintro⟨ha,hb⟩;have hx1:i'*k+j'=e0*k+(i'*k+j'-e0*k):=o_
            obtain⟨h1,h2⟩:=VL (i:=e0) (j:=i'*k+j'-e0*k) o_ hj' hx1;exact hin' ⟨h1,o_,o_⟩
           refine⟨u,?_,?_⟩
           ·simp only[List.getElem?_toArray];rw[bF];by_cases hlo:o'+i'*k+j'<o'+e0*k+off
            ·rw[cL (by simp;omega)];simp only[fQ,hlo,aC];simpa using hu
            ·rw[cV (by simp;omega)];have e1:(List.take (o'+e0*k+off) row.toList).length=o'+e0*k+off:=by simp;omega
             rw[e1,cV o_];simp;rw[show o'+e0*k+off+us.length+(o'+i'*k+j'-(o'+e0*k+off)-us.length)=o'+i'*k+j' from o_];simpa using hu
           ·simp only[hin',aP];have ht':TO (w.setRow g (row.toList.take (o'+e0*k+off)++us++row.toList.drop (o'+e0*k+off+us.length)).toArray) (fcC (cell T0.t T0.xs i' j')) u (GG i' j') :=
             ht.frame λb hb _=>⟨old b (hsub i' hi' j' o_ b hb).2,hb⟩
            by_cases hie:i'=e0
            ·subst hie;simp only[aC];have hle':=hupd j';rw[Em o_,F_ (by rw[l1];omega)] at hle';exact TO.le hle'.le ht'
            ·simp only[hie,aP];exact ht'
         ·intro i' hi' j' hj' b hb;rw[hTn] at hi';rw[hTk] at hj';by_cases hin':i'=e0/\off<=j'/\j'<off+us.length
          ·simp only[hin',and_self,aC] at hb;obtain⟨c,m',hc,hm',hb'⟩:=hb;have hma:=l3 _ c m' hc hm';exact⟨.inr ⟨m',hma,hb'⟩,λe=>by grind⟩
          ·simp only[hin',aP] at hb;exact⟨.inl (hsub i' hi' j' o_ b hb).1,(hsub i' hi' j' (by rw[hk];exact hj') b hb).2⟩
         ·intro i1 hi1 j1 hj1 i2 hi2 j2 hj2 b hb1 hb2;rw[hTn] at hi1 hi2;rw[hTk] at hj1 hj2;have cross:∀ (i j j3:Nat),i<T0.n->j<k->GG i j b->¬ ∃ c m,cs[j3-off]? = some c/\AI c m/\G.ow b=.lab m:=by
           rintro i j j3 hi hj hb ⟨c,m',hc,hm',hb'⟩;have e1:G.ow b=.lab l:=(hsub i hi j o_ b hb).1;rw[hb'] at e1;injection e1 with e1
           exact hla (e1▸l3 _ c m' hc hm')
          by_cases hin1:i1=e0/\off<=j1/\j1<off+us.length
          ·by_cases hin2:i2=e0/\off<=j2/\j2<off+us.length
           ·simp only[hin1,hin2,and_self,aC] at hb1 hb2;obtain⟨c1,m1,hc1,hm1,hbm1⟩:=hb1;obtain⟨c2,m2,hc2,hm2,hbm2⟩:=hb2;rw[hbm1] at hbm2;injection hbm2 with e2
            subst e2;have:=l4 _ _ c1 c2 m1 hc1 hc2 hm1 hm2;exact⟨o_,o_⟩
           ·simp only[hin1,and_self,aC] at hb1;simp only[hin2,aP] at hb2;exact(cross i2 j2 j1 hi2 hj2 hb2 hb1).elim
          ·by_cases hin2:i2=e0/\off<=j2/\j2<off+us.length
           ·simp only[hin1,aP] at hb1;simp only[hin2,and_self,aC] at hb2;exact(cross i1 j1 j2 hi1 hj1 hb1 hb2).elim
           ·simp only[hin1,hin2,aP] at hb1 hb2;exact hdis i1 hi1 j1 o_ i2 hi2 j2 (by rw[hk];exact hj2) b hb1 hb2)
       exact⟨_,⟨G',hG'⟩,hh⟩
     ·exact hh.elim
    ·exact hh.elim
   ·exact hh.elim
  ·exact hh.elim
 ·exact hh.elim
def AeO:TV->Option Cap
 | .ptr b 0=>some (.ptr b)
 | .aptr cs 0=>some (.aptr cs)
 | _=>none
def Aeo {x:TV} {c:Cap} {v:Value} (h:TVR w G x v) (hc:AeO x=some c):YR w G c v:=by
 unfold AeO at hc;split at hc<;>simp at hc<;>subst hc
 ·exact h
 ·exact h
def Sk:List TV->Option (List Cap)
 | []=>some []
 | x::xs=>match AeO x,Sk xs with
  | some c,some cs=>some (c::cs)
  | _,_=>none
def Ab8 {xs:List TV} {cs:List Cap} (hc:Sk xs=some cs):cs.length=xs.length/\∀ (j:Nat) (c:Cap),cs[j]? = some c->∃ x,xs[j]? = some x/\AeO x=some c:=by
 induction xs generalizing cs with
 | nil=>simp only[Sk,Q_] at hc;subst hc;simp
 | cons x xs ih=>
  simp only[Sk] at hc;grind
def KE (o:Oper) (fn:Fn) (first captured:Array Operand) (σ:St) (K:St->Out):Out :=
 match fn,first.toList with
 | .func f,[]=>match Sk (captured.toList.map σ.eval) with
  | some caps=>ret σ o (.clo f caps) K
  | none=>.bad
 | _,_=>.bad
def PO {fn:Fn} {first captured:Array Operand} (h:RG F G σ a w) (ho:o.op=.makeFunc fn first captured) (hh:(KE o fn first captured σ K).holds Q):o.wp P a w (ContE F G a w o.dst K Q) Qx:=by
 unfold KE at hh;split at hh
 ·rename_i f hf;split at hh
  ·rename_i caps hc;have hfirst:first = #[]:=by grind
   obtain⟨h1,h2⟩:=Ab8 hc;refine Ax (v:=.func (.func f) #[] (captured.map a.eval)) h hh ⟨captured.map a.eval,rfl,by grind,λj c hj=>?_⟩ (by simp[execOp,ho,hfirst,Instr.makeFunc]);obtain⟨x,hx,hcx⟩:=h2 j c hj;rw[cp] at hx;cases hq:captured.toList[j]? with
   | none=>simp[hq] at hx
   | some y=>
    simp only[hq,aY,Q_] at hx;subst hx;have hq':captured[j]? = some y:=by grind
    exact⟨a.eval y,by grind,Aeo (Am h y) hcx⟩
  ·exact hh.elim
 ·exact hh.elim
end
end Go.D
namespace Go.D
section
variable {P:Program} {F:Fr P} {G:Gh} {σ:St} {a:Act} {w:World} {o:Oper} {K:St->Out} {Q:Post} {Qx:Exit->Act->World->Prop}
def Lu (σ:St):Option Operand->Option (Option Int)
 | none=>some none
 | some x=>match (σ.eval x).scal with
  | some (.int _ n)=>some (some n)
  | _=>none
def Gl {x:Option Operand} {n:Option Int} (h:RG F G σ a w) (hx:Lu σ x=some n):(x=none/\n=none)\/∃ y k z,x=some y/\n=some z/\a.eval y=.int k z:=by
 unfold Lu at hx;split at hx
 ·simp_all
 ·rename_i y;split at hx
  ·rename_i k z hz;simp only[Q_] at hx;exact .inr ⟨y,k,z,rfl,hx.symm,(CP (Am h y) hz).1⟩
  ·simp at hx
def bnd (lo hi:Option Int) (n:Nat):Prop×Nat×Nat :=
 match lo,hi with
 | none,none=>(True,0,n)
 | some l,none=>(0<=l/\l<=n,l.toNat,n)
 | none,some h=>(0<=h/\h<=n,0,h.toNat)
 | some l,some h=>(0<=l/\l<=h/\h<=n,l.toNat,h.toNat)
def Abc {lo hi:Option Int} {n:Nat} (h:(bnd lo hi n).1):(bnd lo hi n).2.1<=(bnd lo hi n).2.2/\(bnd lo hi n).2.2<=n:=by
 unfold bnd at *
 grind
def N1 (lo hi:Option Int) (n N:Nat):Prop×Nat×Nat :=
 match lo,hi with
 | none,none=>(True,0,n)
 | some l,none=>(0<=l/\l<=n,l.toNat,n)
 | none,some h=>(0<=h/\h<=N,0,h.toNat)
 | some l,some h=>(0<=l/\l<=h/\h<=N,l.toNat,h.toNat)
def Acl {lo hi:Option Int} {n N M:Nat} (h:(N1 lo hi n N).1) (h1:n<=M) (h2:N<=M):(N1 lo hi n N).2.1<=(N1 lo hi n N).2.2/\(N1 lo hi n N).2.2<=M:=by
 unfold N1 at *
 grind
def Wt {lo hi:Option Operand} {l hh:Option Int} {n N cap:Nat} {b:Bool} (h:RG F G σ a w) (hl:Lu σ lo=some l) (hr:Lu σ hi=some hh) (hb:(N1 l hh n N).1) (hc:n<=cap) (hN:N<=cap) :
 (Instr.sliceBounds b n cap (lo.map a.eval) (hi.map a.eval) none).run P w=.ok ((N1 l hh n N).2.1,(N1 l hh n N).2.2,cap) w:=by
 rcases Gl h hl with⟨rfl,rfl⟩|⟨y1,k1,z1,rfl,rfl,e1⟩<;>rcases Gl h hr with⟨rfl,rfl⟩|⟨y2,k2,z2,rfl,rfl,e2⟩<;>simp only[N1] at hb ⊢
 ·simp[Instr.sliceBounds]
 ·have h1:z2<=(cap:Int):=o_
  simp[Instr.sliceBounds,Instr.sliceBound,asIntOf,e2,hb.1,h1]
 ·simp[Instr.sliceBounds,Instr.sliceBound,asIntOf,e1,hb.1,hb.2]
 ·have h1:z2<=(cap:Int):=o_
  have h2:0<=z2:=o_
  have h3:z1<=max z2 0:=o_
  simp[Instr.sliceBounds,Instr.sliceBound,asIntOf,e1,e2,hb.1,h1,h2,h3]
def Afb {x1 x2 x3:Operand} {z1 z2 z3:Int} {k1 k2 k3:IntKind} {n cap:Nat} (e1:a.eval x1=.int k1 z1) (e2:a.eval x2=.int k2 z2) (e3:a.eval x3=.int k3 z3) (hb:0<=z1/\z1<=z2/\z2<=z3/\z3<=n) (hc:n<=cap) :
 (Instr.sliceBounds true n cap (some (a.eval x1)) (some (a.eval x2)) (some (a.eval x3))).run P w=.ok (z1.toNat,z2.toNat,z3.toNat) w:=by
 have h1:z3<=(cap:Int):=o_
 have h2:0<=z3:=o_
 have h3:0<=z2:=o_
 have h4:z2<=max z3 0:=o_
 have h5:z1<=max z2 0:=o_
 simp[Instr.sliceBounds,Instr.sliceBound,asIntOf,e1,e2,e3,hb.1,h1,h2,h3,h4,h5]
def NB {lo hi:Option Operand} {l hh:Option Int} {n cap:Nat} {b:Bool} (h:RG F G σ a w) (hl:Lu σ lo=some l) (hr:Lu σ hi=some hh) (hb:(bnd l hh n).1) (hc:n<=cap) :
 (Instr.sliceBounds b n cap (lo.map a.eval) (hi.map a.eval) none).run P w=.ok ((bnd l hh n).2.1,(bnd l hh n).2.2,cap) w:=by
 rcases Gl h hl with⟨rfl,rfl⟩|⟨y1,k1,z1,rfl,rfl,e1⟩<;>rcases Gl h hr with⟨rfl,rfl⟩|⟨y2,k2,z2,rfl,rfl,e2⟩<;>simp only[bnd] at hb ⊢
 ·simp[Instr.sliceBounds]
 ·have h1:z2<=(cap:Int):=o_
  simp[Instr.sliceBounds,Instr.sliceBound,asIntOf,e2,hb.1,h1]
 ·simp[Instr.sliceBounds,Instr.sliceBound,asIntOf,e1,hb.1,hb.2]
 ·have h1:z2<=(cap:Int):=o_
  have h2:0<=z2:=o_
  have h3:z1<=max z2 0:=o_
  simp[Instr.sliceBounds,Instr.sliceBound,asIntOf,e1,e2,hb.1,h1,h2,h3]
def Us (P:Program) (o:Oper) (T:TypeId) (x:Operand) (lo hi mx:Option Operand) (σ:St) (K:St->Out):Out :=
 match mx,Lu σ lo,Lu σ hi with
 | some x3,some (some l),some (some h)=>match P.underlying T,σ.eval x,(σ.eval x3).scal with
  | some (.slice e),.v false [.ref m],some (.int _ z)=>match look σ.hp m,P.info? e with
   | some t,some ie=>.ob (0<=l/\l<=h/\h<=z/\z<=t.n) (ret σ o .dead K)
   | _,_=>.bad
  | _,_,_=>.bad
 | none,some l,some h=>match P.underlying T,σ.eval x with
  | some .string,.v false [.sc (.string s)]=>.ob (bnd l h s.size).1 (ret σ o (.v false [.sc (.string (s.extract (bnd l h s.size).2.1 (bnd l h s.size).2.2))]) K)
  | some (.slice e),.v false [.ref m]=>match look σ.hp m,P.info? e with
   | some t,some ie=>if t.k=ie.size then .ob (bnd l h t.n).1 (ret σ o (.v false [.sub m t.k (bnd l h t.n).2.1 ((bnd l h t.n).2.2-(bnd l h t.n).2.1)]) K) else .bad
   | _,_=>.bad
  | some (.slice e),.v false [.sub m k lo0 n]=>match look σ.hp m,P.info? e with
   | some t,some ie=>if k=ie.size then .ob (N1 l h n (t.n-lo0)).1 (ret σ o (.v false [.sub m k (lo0+(N1 l h n (t.n-lo0)).2.1) ((N1 l h n (t.n-lo0)).2.2-(N1 l h n (t.n-lo0)).2.1)]) K) else .bad
   | _,_=>.bad
  | some (.slice e),.v false [.im s t xs]=>match P.info? e with
   | some ie=>if t.width=ie.size then .ob (bnd l h xs.length).1 (ret σ o (.v false [.im s t (cut xs (bnd l h xs.length).2.1 ((bnd l h xs.length).2.2-(bnd l h xs.length).2.1))]) K) else .bad
   | none=>.bad
  | some (.slice e),.v false [.nil]=>match P.info? e with
   | some ie=>.ob (bnd l h 0).1 (ret σ o (.v false [.nil]) K)
   | none=>.bad
  | _,_=>.bad
 | _,_,_=>.bad
def Ed {T e:TypeId} {x:Operand} {lo hi:Option Operand} {ie:TypeInfo} {ad:Option Addr} {n cap l h:Nat} (ho:o.op=.slice T x lo hi none) (hu:P.underlying T=some (.slice e)) (hi':P.info? e=some ie) (hx:a.eval x=.slice ad n cap)
 (hb:(Instr.sliceBounds true n cap (lo.map a.eval) (hi.map a.eval) none).run P w=.ok (l,h,cap) w) :
 (execOp a.eval o).run P w=.ok (.value (.slice (if cap=l then ad else ad.map (·.add (l*ie.size))) (h-l) (cap-l))) w:=by
 simp[execOp,ho,hx,Instr.sliceAt,Instr.slice,run_underlying hu,hb,sizeOf,typeInfo,hi']
def XA {T:TypeId} {x:Operand} {lo hi mx:Option Operand} (h:RG F G σ a w) (ho:o.op=.slice T x lo hi mx) (hh:(Us P o T x lo hi mx σ K).holds Q):o.wp P a w (ContE F G a w o.dst K Q) Qx:=by
 unfold Us at hh;have hx:=Am h x;split at hh
 ·rename_i x3 l hi' hl hr;split at hh
  ·rename_i e m k3 z hu hxe hx3;rw[hxe] at hx;obtain⟨c,hc,hcr⟩:=hx;injection hc with hc
   subst hc;split at hh
   ·rename_i t ie ht hie;obtain⟨hb,hh⟩:=hh;rcases Gl h hl with⟨_,e⟩|⟨y1,k1,z1,rfl,ez1,e1⟩
    ·cases e
    ·rcases Gl h hr with⟨_,e⟩|⟨y2,k2,z2,rfl,ez2,e2⟩
     ·cases e
     ·injection ez1 with ez1;injection ez2 with ez2
      subst ez1;subst ez2;have e3:=(CP (Am h x3) hx3).1;have hv:∃ ad cap,a.eval x=.slice ad t.n cap/\t.n<=cap:=by
       rcases h.hp m t ht with⟨⟨ad,hv⟩,hz⟩|⟨g,off,cap,row,e',GG,hv,hnc,_⟩
       ·exact⟨ad,0,by rw[hcr.1,hv,hz],o_⟩
       ·exact⟨_,cap,by rw[hcr.1,hv],hnc⟩
      obtain⟨ad,cap,hv,hnc⟩:=hv;have hbb:=Afb (P:=P) (w:=w) e1 e2 e3 hb hnc;refine Ax (v:=.slice (if z.toNat=l.toNat then ad else ad.map (·.add (l.toNat*ie.size))) (hi'.toNat-l.toNat) (z.toNat-l.toNat)) h hh trivial ?_;simp[execOp,ho,hv,Instr.sliceAt,Instr.slice,run_underlying hu,hbb,sizeOf,typeInfo,hie]
   ·exact hh.elim
  ·exact hh.elim
 ·rename_i l hi' hl hr;split at hh
  ·rename_i s hu hxe;rw[hxe] at hx;obtain⟨c,hc,hcr⟩:=hx;injection hc with hc
   subst hc;obtain⟨hb,hh⟩:=hh;refine Ax h hh ⟨_,rfl,rfl,rfl⟩ ?_;have:=NB (P:=P) (b:=false) h hl hr hb (Y_ _);simp[execOp,ho,hcr.1,Instr.sliceAt,Instr.slice,run_underlying hu,this]
  ·rename_i e m hu hxe;rw[hxe] at hx;obtain⟨c,hc,hcr⟩:=hx;injection hc with hc
   subst hc;split at hh
   ·rename_i t ie ht hie;split at hh
    ·rename_i hk;obtain⟨hb,hh⟩:=hh;obtain⟨hb1,hb2⟩:=Abc hb;rcases h.hp m t ht with⟨⟨ad,hv⟩,hz⟩|⟨g,off,cap,row,e',GG,hv,hnc,_⟩
     ·rw[hz] at hb hb1 hb2 hh;refine Ax h hh ⟨_,rfl,.inl ⟨ad,hv,o_,o_,rfl⟩⟩ ?_;rw[Ed ho hu hie (hcr.1.trans hv) (NB h hl hr hb (Y_ _))];have e1:(bnd l hi' 0).2.1=0:=o_
      have e2:(bnd l hi' 0).2.2=0:=o_
      simp[e1,e2]
     ·refine Ax (v:=.slice (some ⟨g,if cap=(bnd l hi' t.n).2.1 then off else off+(bnd l hi' t.n).2.1*t.k,none⟩) ((bnd l hi' t.n).2.2-(bnd l hi' t.n).2.1) (cap-(bnd l hi' t.n).2.1)) h hh
       ⟨_,rfl,.inr ⟨g,off,t.n,cap,_,hv,o_,rfl,?_⟩⟩ ?_
      ·split
       ·rename_i e;exact .inr ⟨e,o_⟩
       ·exact .inl rfl
      ·rw[Ed ho hu hie (hcr.1.trans hv) (NB h hl hr hb hnc)];split<;>simp[EM,hk]
    ·exact hh.elim
   ·exact hh.elim
  ·rename_i e m k lo0 n hu hxe;rw[hxe] at hx;obtain⟨c,hc,hcr⟩:=hx;injection hc with hc
   subst hc;split at hh
   ·rename_i t ie ht hie;split at hh
    ·rename_i hk;obtain⟨hb,hh⟩:=hh;generalize hN:t.n-lo0=N at hb hh;rcases hcr with⟨ad,hv,hz1,hz2,hav⟩|⟨g,off,mm,cap,off',hv,hle,hav,hof⟩
     ·have hN0:N=0:=by
       rcases h.hp m t ht with⟨_,hz⟩|⟨g,off,cap,row,e',GG,hv2,_⟩
       ·omega
       ·rw[hv] at hv2;injection hv2 with _ e2 _;omega
      rw[hz2,hN0] at hb hh;obtain⟨hb1,hb2⟩:=Acl hb (Y_ 0) (Y_ 0);refine Ax h hh ⟨_,rfl,.inl ⟨ad,hv,o_,o_,rfl⟩⟩ ?_;rw[Ed ho hu hie hav (Wt h hl hr hb (Y_ _) (Y_ _))];have e1:(N1 l hi' 0 0).2.1=0:=o_
      have e2:(N1 l hi' 0 0).2.2=0:=o_
      simp[e1,e2]
     ·have hNc:N<=cap-lo0:=by
       rcases h.hp m t ht with⟨_,hz⟩|⟨g2,off2,cap2,row,e',GG,hv2,hnc2,_⟩
       ·omega
       ·rw[hv] at hv2;injection hv2 with _ e2 e3;omega
      obtain⟨hb1,hb2⟩:=Acl hb (show n<=cap-lo0 from o_) hNc;refine Ax (v:=.slice (some ⟨g,if cap-lo0=(N1 l hi' n N).2.1 then off' else off'+(N1 l hi' n N).2.1*k,none⟩) ((N1 l hi' n N).2.2-(N1 l hi' n N).2.1) (cap-lo0-(N1 l hi' n N).2.1)) h hh
       ⟨_,rfl,.inr ⟨g,off,mm,cap,_,hv,o_,by rw[Nat.sub_sub],?_⟩⟩ ?_
      ·rcases hof with e1|⟨e1,e2⟩
       ·split
        ·rename_i e;refine .inr ⟨o_,?_⟩;have:lo0*k<=cap*k:=da _ o_;omega
        ·exact .inl (by rw[e1,Nat.add_mul,Nat.add_assoc])
       ·have h0:(N1 l hi' n N).2.1=0:=o_
        refine .inr ⟨o_,?_⟩;rw[h0];simpa using e2
      ·rw[Ed ho hu hie hav (Wt h hl hr hb o_ o_)];split<;>simp[EM,hk]
    ·exact hh.elim
   ·exact hh.elim
  ·rename_i e s t xs hu hxe;rw[hxe] at hx;obtain⟨c,hc,hcr⟩:=hx;injection hc with hc
   subst hc;simp only[CellR,DH] at hcr;generalize hn:xs.length=n at hh hcr;split at hh
   ·rename_i ie hie;split at hh
    ·rename_i hk;obtain⟨hb,hh⟩:=hh;obtain⟨hb1,hb2⟩:=Abc hb;obtain⟨ad,cap,hav,hnc,hr0⟩:=hcr;refine Ax (v:=.slice (if cap=(bnd l hi' n).2.1 then ad else ad.map (·.add ((bnd l hi' n).2.1*ie.size))) ((bnd l hi' n).2.2-(bnd l hi' n).2.1) (cap-(bnd l hi' n).2.1)) h hh
      ?_ (Ed ho hu hie hav (NB h hl hr hb hnc))
     refine⟨_,rfl,?_⟩;show TR w (src G s) (fcC (.l t _)) _;rw[DH,PV o_];refine⟨_,_,rfl,o_,?_⟩;rcases hr0 with hz|⟨g,off,row,e',fr,rfl,hS,hg,hrow⟩
     ·exact .inl o_
     ·by_cases hz:(bnd l hi' n).2.2-(bnd l hi' n).2.1=0
      ·exact .inl hz
      ·have hne:cap≠(bnd l hi' n).2.1:=o_
       refine .inr ⟨g,off+(bnd l hi' n).2.1*t.width,row,e',fr,by simp[hne,EM,hk],hS,hg,λi hi j hj=>?_⟩;obtain⟨u,hu',ht⟩:=hrow ((bnd l hi' n).2.1+i) o_ j hj;exact⟨u,by rw[<-hu'];congr 1;rw[Nat.add_mul];omega,by dsimp only;rw[PK hi];exact ht⟩
    ·exact hh.elim
   ·exact hh.elim
  ·rename_i e hu hxe;rw[hxe] at hx;obtain⟨c,hc,hcr⟩:=hx;injection hc with hc
   subst hc;split at hh
   ·rename_i ie hie;obtain⟨hb,hh⟩:=hh;obtain⟨hb1,hb2⟩:=Abc hb;refine Ax h hh ⟨_,rfl,rfl⟩ ?_;rw[Ed ho hu hie hcr (NB h hl hr hb (Y_ _))];have e1:(bnd l hi' 0).2.1=0:=o_
    have e2:(bnd l hi' 0).2.2=0:=o_
    simp[e1,e2]
   ·exact hh.elim
  ·exact hh.elim
 ·exact hh.elim
end
end Go.D
namespace Go.D
section
variable {P:Program} {F:Fr P} {G:Gh} {σ:St} {a:Act} {w:World} {o:Oper} {K:St->Out} {Q:Post} {Qx:Exit->Act->World->Prop}
structure SrcOk (P:Program) (w:World) (size m:Nat) (xv:Value) (news:List Value):Prop where
 isSl:∃ b c,xv=.slice b m c
 len:news.length=m*size
 rd:∀ w':World,(∀ p,w'.cell? p=w.cell? p)->(Builtin.firstCells size m xv).run P w'=.ok news.toArray w'
def HT (t ty e:TypeId) (i:TypeInfo) (ht:P.underlying t=some (.slice e)) (hi:P.info? e=some i) (g off n cap:Nat) (cur:Array Value) (e':TypeId) (hg:w.heap[g]? = some (.cells cur e' (0,0)))
 (xv:Value) (m:Nat) (news:List Value) (hx:SrcOk P w i.size m xv news) (h1:∀ u∈news,u.oneCell'=true) (hroom:n+m<=cap) (hfit:off+n*i.size+news.length<=cur.size) :
 (Builtin.append_ #[t,t] ty #[.slice (some ⟨g,off,none⟩) n cap,xv]).run P w =
  .ok (.slice (some ⟨g,off,none⟩) (n+m) cap) (w.setRow g (cur.toList.take (off+n*i.size)++news++cur.toList.drop (off+n*i.size+news.length)).toArray):=by
 obtain⟨⟨b,c,rfl⟩,hl,hrd⟩:=hx;have hf:=hrd w λ_=>rfl;have hst:=run_storeCells_at P g (off+n*i.size) e' news 0 cur w hg o_ h1;simp only[Nat.add_zero] at hst;simp[Builtin.append_,run_underlying ht,sizeOf,typeInfo,hi,Builtin.lenOf,hroom,hf,EM,hst]
def HW (t ty e:TypeId) (i:TypeInfo) (ht:P.underlying t=some (.slice e)) (hi:P.info? e=some i) (ad:Option Addr) (xv:Value) (news:List Value) (hx:SrcOk P w i.size 0 xv news) :
 (Builtin.append_ #[t,t] ty #[.slice ad 0 0,xv]).run P w=.ok (.slice ad 0 0) w:=by
 obtain⟨⟨b,c,rfl⟩,hl,hrd⟩:=hx;have hf:=hrd w λ_=>rfl;have hn:news=[]:=List.eq_nil_of_length_eq_zero o_;subst hn;cases ad <;>
 simp[Builtin.append_,run_underlying ht,sizeOf,typeInfo,hi,Builtin.lenOf,hf,storeCells]
def Hw (t ty e:TypeId) (i:TypeInfo) (z:Value) (ht:P.underlying t=some (.slice e)) (hi:P.info? e=some i) (hz:i.zero=some z)
 (ad:Option Addr) (n cap:Nat) (olds:List Value) (hs:SrcOk P w i.size n (.slice ad n cap) olds) (xv:Value) (m:Nat) (news:List Value) (hx:SrcOk P w i.size m xv news)
 (hg:cap<n+m) (h63:((n+m:Nat):Int)<=9223372036854775807) (hfit:(n+m)*i.bytes<=140737488355328) :
 (Builtin.append_ #[t,t] ty #[.slice ad n cap,xv]).run P w =
  .ok (.slice (some ⟨w.heap.size,0,none⟩) (n+m) (grownCap w (n+m) cap e)) (w.drew.alloc (.cells (olds++news++(Builtin.zeroCells z.cells (grownCap w (n+m) cap e-(n+m))).toList).toArray e)):=by
 obtain⟨⟨b,c,rfl⟩,hl,hrd⟩:=hx;have hn:¬ (n+m<=cap):=o_
 have h63':¬ (9223372036854775807<((n:Int)+(m:Int))):=o_
 have h48:=growslice_fits hg hfit;have h48':¬ (281474976710656<Builtin.nextslicecap (n+m) cap*i.bytes):=o_
 have hf:=hrd w.drew λ_=>rfl;have hfo:=hs.rd w.drew λ_=>rfl;simp[Builtin.append_,run_underlying ht,sizeOf,typeInfo,zeroValue,hi,hz,Builtin.lenOf,hn,h63',h48',Question.forced,hf,hfo,newRow,grownCap];congr 2;apply Array.ext';simp
def Lv {S:Nat->Prop} {k m:Nat} {f:Nat->Nat->C} {v:Value} (hk:0<k) (h:TR w S (.sl k m f) v):∃ news,SrcOk P w k m v news/\(∀ u∈news,u.oneCell'=true)/\∀ i,i<m->∀ j,j<k->∃ u,news[i*k+j]? = some u/\TR w S (f i j) u:=by
 obtain⟨ad,cap,rfl,hnc,hz|⟨g,off,row,e,fr,rfl,hS,hg,hrow⟩⟩:=h
 ·subst hz;refine⟨[],⟨⟨ad,cap,rfl⟩,by simp,λw' hw'=>?_⟩,by simp,by simp⟩;cases ad with
  | none=>simp[Builtin.firstCells]
  | some b=>simp[Builtin.firstCells,loadCells,loadCellsFrom]
 ·let news:List Value:=(List.range (m*k)).map λx=>(row[off+x]?).getD undef
  have hat:∀ x,x<m*k->∃ u,row[off+x]? = some u/\news[x]? = some u/\TR w S (f (x / k) (x % k)) u:=by
   intro x hx;have h1:x / k<m:=(Nat.div_lt_iff_lt_mul hk).2 hx;have h2:x % k<k:=Nat.mod_lt _ hk;have e1:off+x / k*k+x % k=off+x:=by have:=Nat.div_add_mod x k;grind
   grind
  have hlen:news.length=m*k:=by grind
  refine⟨news,⟨⟨_,_,rfl⟩,hlen,λw' hw'=>?_⟩,λu hu=>?_,λi hi j hj=>?_⟩
  ·refine run_firstCells_some (P:=P) w' k m ⟨g,off,none⟩ m cap news hlen λx v hv=>?_
   have hx:x<m*k:=by grind
   obtain⟨u,hu,hu',_⟩:=hat x hx;rw[hu'] at hv;rw[EM,hw',cell_of_row w g (off+x) row e fr hg,hu,hv]
  ·obtain⟨x,hx⟩:=List.getElem?_of_mem hu;have hlt:x<m*k:=by grind
   obtain⟨u',_,hu',ht⟩:=hat x hlt;rw[hx] at hu';injection hu' with e
   rw[e];exact ht.one
  ·have hx:i*k+j<m*k:=by have:(i+1)*k<=m*k:=da _ hi;grind
   grind
def Ag8 {S:Nat->Prop} {k m:Nat} {f:Nat->Nat->C} {v:Value} (hk:0<k) (h:TO w (.sl k m f) v S):∃ news,∃ GG:Nat->Nat->Nat->Prop,SrcOk P w k m v news/\(∀ u∈news,u.oneCell'=true) /\
 (∀ i,i<m->∀ j,j<k->∃ u,news[i*k+j]? = some u/\TO w (f i j) u (GG i j))/\(∀ i,i<m->∀ j,j<k->∀ b,GG i j b->S b) /\
 (∀ i,i<m->∀ j,j<k->∀ i',i'<m->∀ j',j'<k->∀ b,GG i j b->GG i' j' b->i=i'/\j=j') /\
 (∀ g off c,v=.slice (some ⟨g,off,none⟩) m c->0<c->S g/\∃ row e,w.heap[g]? = some (.cells row e (0,0))/\m<=c/\off+c*k<=row.size/\(∀ x,x<m*k->row[off+x]? = news[x]?)/\∀ i,i<m->∀ j,j<k->∀ b,GG i j b->b≠g):=by
 obtain⟨news,h1,h2,h3⟩:=Lv (P:=P) hk h.read;rcases h with⟨⟨ad,rfl⟩,rfl⟩|⟨g,off,cap,row,e,GG,rfl,hnc,hcap,hg,hF,hrow,hsub,hdis⟩
 ·refine⟨news,λ_ _ _=>False,h1,h2,by simp,by simp,by simp,λg off c hv hc=>by grind⟩
 ·have hat:∀ x,x<m*k->row[off+x]? = news[x]?:=by
   intro x hx;have:=h1.rd w λ_=>rfl;have hf:(Builtin.firstCells k m (.slice (some ⟨g,off,none⟩) m cap)).run P w=.ok ((List.range (m*k)).map λx=>(row[off+x]?).getD undef).toArray w:=by
    refine run_firstCells_some (P:=P) w k m ⟨g,off,none⟩ m cap _ (by simp) λx v hv=>?_
    have hx:x<m*k:=by have:=(List.getElem?_eq_some_iff.1 hv).1;simpa using this
    rw[cp,List.getElem?_range hx] at hv;simp at hv;rw[EM,cell_of_row w g (off+x) row e (0,0) hg];have hlt:off+x<row.size:=by have:m*k<=cap*k:=da _ hnc;omega
    rw[Array.getElem?_eq_getElem hlt] at hv ⊢;simpa using hv
   rw[hf] at this;injection this with h5 _
   have h6:((List.range (m*k)).map λx=>(row[off+x]?).getD undef)=news:=by grind
   have hlt:off+x<row.size:=by have:m*k<=cap*k:=da _ hnc;omega
   rw[<-h6,cp,List.getElem?_range hx,aY,Array.getElem?_eq_getElem hlt];rfl
  refine⟨news,GG,h1,h2,λi hi j hj=>?_,λi hi j hj b hb=>(hsub i hi j hj b hb).1,hdis,λg' off' c' hv _=>?_⟩
  ·obtain⟨u,hu,ht⟩:=hrow i hi j hj;have hx:i*k+j<m*k:=by have:(i+1)*k<=m*k:=da _ hi;rw[Nat.add_mul] at this;omega
   exact⟨u,by grind,ht⟩
  ·injection hv with ha hb hc
   injection ha with ha
   injection ha with ha1 ha2
   subst ha1;subst ha2;subst hc;exact⟨hF,row,e,hg,hnc,hcap,hat,λi hi j hj b hb=>(hsub i hi j hj b hb).2⟩
def Afr (n:Nat) (f g:Nat->Nat->C):Nat->Nat->C:=λi j=>if i<n then f i j else g (i-n) j
def AgE {w':World} {N:Nat->Prop} {k n m g off cap:Nat} {f h:Nat->Nat->C} {us vs:List Value} {row:Array Value} {e:TypeId} {G1 G2:Nat->Nat->Nat->Prop}
 (hul:us.length=n*k) (hvl:vs.length=m*k) (hg:w'.heap[g]? = some (.cells row e (0,0))) (hN:N g) (hnc:n+m<=cap) (hcap:off+cap*k<=row.size)
 (hrow:∀ x,x<(n+m)*k->row[off+x]? = (us++vs)[x]?)
 (h1:∀ i,i<n->∀ j,j<k->∃ u,us[i*k+j]? = some u/\TO w' (f i j) u (G1 i j)) (h2:∀ i,i<m->∀ j,j<k->∃ u,vs[i*k+j]? = some u/\TO w' (h i j) u (G2 i j))
 (s1:∀ i,i<n->∀ j,j<k->∀ b,G1 i j b->N b/\b≠g) (s2:∀ i,i<m->∀ j,j<k->∀ b,G2 i j b->N b/\b≠g)
 (d1:∀ i,i<n->∀ j,j<k->∀ i',i'<n->∀ j',j'<k->∀ b,G1 i j b->G1 i' j' b->i=i'/\j=j')
 (d2:∀ i,i<m->∀ j,j<k->∀ i',i'<m->∀ j',j'<k->∀ b,G2 i j b->G2 i' j' b->i=i'/\j=j')
 (d3:∀ i,i<n->∀ j,j<k->∀ i',i'<m->∀ j',j'<k->∀ b,G1 i j b->G2 i' j' b->False) :
 TO w' (.sl k (n+m) (Afr n f h)) (.slice (some ⟨g,off,none⟩) (n+m) cap) N:=by
 refine .inr ⟨g,off,cap,row,e,λi j=>if i<n then G1 i j else G2 (i-n) j,rfl,hnc,hcap,hg,hN,λi hi j hj=>?_,λi hi j hj b hb=>?_,λi hi j hj i' hi' j' hj' b hb hb'=>?_⟩
 ·have hx:i*k+j<(n+m)*k:=by have:(i+1)*k<=(n+m)*k:=da _ hi;grind
  rw[Nat.add_assoc,hrow _ hx];by_cases hlt:i<n
  ·obtain⟨u,hu,ht⟩:=h1 i hlt j hj;refine⟨u,?_,by simp only[Afr,hlt,aC];exact ht⟩;rw[cL]
   ·exact hu
   ·exact(List.getElem?_eq_some_iff.1 hu).1
  ·obtain⟨u,hu,ht⟩:=h2 (i-n) o_ j hj;refine⟨u,?_,by simp only[Afr,hlt,aP];exact ht⟩;have hle:n*k<=i*k:=da _ o_;rw[cV o_,hul,<-hu];congr 1;rw[Nat.sub_mul];omega
 ·by_cases hlt:i<n
  ·simp only[hlt,aC] at hb;exact s1 i hlt j hj b hb
  ·simp only[hlt,aP] at hb;exact s2 (i-n) o_ j hj b hb
 ·by_cases hlt:i<n<;>by_cases hlt':i'<n<;>simp only[hlt,hlt',aC,aP] at hb hb'
  ·exact d1 i hlt j hj i' hlt' j' hj' b hb hb'
  ·exact(d3 i hlt j hj (i'-n) o_ j' hj' b hb hb').elim
  ·exact(d3 i' hlt' j' hj' (i-n) o_ j hj b hb' hb).elim
  ·obtain⟨h5,h6⟩:=d2 (i-n) o_ j hj (i'-n) o_ j' hj' b hb hb';exact⟨o_,h6⟩
def Ko {S:Nat->Prop} {k n lo m:Nat} {f:Nat->Nat->C} {hv v:Value} (h:TO w (.sl k n f) hv S) (hs:Alh hv k lo m v) (hle:lo+m<=n):TO w (.sl k m λi=>f (lo+i)) v S:=by
 rcases hs with⟨ad,e1,e2,e3,e4⟩|⟨g,off,mm,cap,off',hv1,hlc,hav,hof⟩
 ·exact .inl ⟨⟨ad,e4⟩,e3⟩
 ·rcases h with⟨⟨ad,e1⟩,e2⟩|⟨g2,off2,cap2,row,e,GG,hv2,hnc,hcap,hg,hF,hrow,hsub,hdis⟩
  ·rw[hv1] at e1;injection e1 with ea eb ec
   have hm:m=0:=o_
   have hcl:cap-lo=0:=o_
   rw[hm,hcl] at hav;exact .inl ⟨⟨_,hav⟩,hm⟩
  ·rw[hv1] at hv2;injection hv2 with ha hb hc
   injection ha with ha
   injection ha with ha1 ha2
   subst ha1;subst hc;have hcm:off'+(cap-lo)*k<=row.size:=by
    rcases hof with e1|⟨e1,e2⟩
    ·have:lo*k+(cap-lo)*k=cap*k:=by rw[<-Nat.add_mul];congr 1;omega
     omega
    ·have:cap-lo=0:=o_
     rw[this];omega
   refine .inr ⟨g,off',cap-lo,row,e,λi j=>GG (lo+i) j,hav,o_,hcm,hg,hF,λi hi j hj=>?_,λi hi j hj=>hsub (lo+i) o_ j hj,λi hi j hj i' hi' j' hj' b hb hb'=>?_⟩
   ·obtain⟨u,hu,ht⟩:=hrow (lo+i) o_ j hj;refine⟨u,?_,ht⟩;rcases hof with e1|⟨e1,e2⟩
    ·rw[<-hu,e1];congr 1;rw[Nat.add_mul];omega
    ·omega
   ·obtain⟨h1,h2⟩:=hdis (lo+i) o_ j hj (lo+i') o_ j' hj' b hb hb';exact⟨o_,h2⟩
def QW (σ:St):TV->Option (Prop×(t:Ty)×List (El t))
 | .v false [.im _ t xs]=>some (True,⟨t,xs⟩)
 | .v false [.ref l]=>match look σ.hp l with
  | some T=>some (True,⟨T.t,T.xs⟩)
  | none=>none
 | .v false [.sub l k' lo m]=>match look σ.hp l with
  | some T=>if T.k=k' then some (lo+m<=T.n,⟨T.t,cut T.xs lo m⟩) else none
  | none=>none
 | _=>none
def Afl {k n:Nat} {f f':Nat->Nat->C} (h:∀ i,i<n->∀ j,j<k->le (f i j) (f' i j)):le (.sl k n f) (.sl k n f'):=⟨f',rfl,h⟩
def Ahc {S:Nat->Prop} {t:Ty} {xs:List (El t)} {lo m:Nat} {v:Value} (h:TR w S (.sl t.width m λi=>λj=>fcC (cell t xs (lo+i) j)) v) (hle:lo+m<=xs.length):TR w S (fcC (.l t (cut xs lo m))) v:=by
 rw[DH,PV hle];refine TR.le (Afl (f:=λi j=>fcC (cell t xs (lo+i) j)) λi hi j hj=>?_) h;rw[PK hi];exact le.refl _
def Wv {S:Nat->Prop} {t:Ty} {xs:List (El t)} {lo m:Nat} {v:Value} (h:TO w (.sl t.width m λi=>λj=>fcC (cell t xs (lo+i) j)) v S) (hle:lo+m<=xs.length):TO w (fcC (.l t (cut xs lo m))) v S:=by
 rw[DH,PV hle];refine TO.le (Afl (f:=λi j=>fcC (cell t xs (lo+i) j)) λi hi j hj=>?_) h;rw[PK hi];exact le.refl _
def Is {p:Prop} {s:(t:Ty)×List (El t)} {x:TV} {v:Value} (h:RG F G σ a w) (hx:TVR w G x v) (hs:QW σ x=some (p,s)) (hp:p):∃ S,TR w S (fcC (.l s.1 s.2)) v:=by
 unfold QW at hs;split at hs
 ·rename_i s' t xs;obtain⟨rfl,rfl⟩:=hs;obtain⟨c,hc,hcr⟩:=hx;injection hc with hc
  subst hc;exact⟨_,hcr⟩
 ·rename_i l;split at hs
  ·rename_i T hT;obtain⟨rfl,rfl⟩:=hs;obtain⟨c,hc,hcr⟩:=hx;injection hc with hc
   subst hc;rw[hcr.1,Ce];exact⟨_,(h.hp l T hT).read⟩
  ·simp at hs
 ·rename_i l k' lo m';split at hs
  ·rename_i T hT;split at hs
   ·rename_i hk;obtain⟨rfl,rfl⟩:=hs;obtain⟨c,hc,hcr⟩:=hx;injection hc with hc
    subst hc;have hto:=h.hp l T hT;rw[hk] at hto;have h2:=(Ko hto hcr hp).read;rw[<-hk] at h2;exact⟨_,Ahc h2 hp⟩
   ·simp at hs
  ·simp at hs
 ·simp at hs
end
end Go.D
namespace Go.D
section
variable {P:Program} {F:Fr P} {G:Gh} {σ:St} {a:Act} {w:World} {o:Oper} {K:St->Out} {Q:Post} {Qx:Exit->Act->World->Prop}
def L1 (xs:List Int):ByteArray:=xs.foldl (λr n=>r.push (UInt8.ofNat n.toNat)) ByteArray.empty
def Qd (P:Program) (S T:TypeId):Bool:=match P.underlying S with
 | some (.slice e)=>(match P.underlying e,P.underlying T with
  | some (.int .u8),some .string=>true
  | _,_=>false)
 | _=>false
def N7 {S T:TypeId} {R:Nat->Prop} {xs:List Int} {v:Value} (hs:Qd P S T=true) (h:TR w R (fcC (.l .u8 xs)) v) :
 (convert S T v).run P w=.ok (.string (L1 xs)) w:=by
 unfold Qd at hs;split at hs
 ·rename_i e he;split at hs
  ·rename_i h1 h2;rw[DH] at h;obtain⟨b,cap,rfl,_,hc⟩:=h;rw[run_convert_bytes_string w S T e _ _ _ he h1 h2];cases b with
   | none=>
    rcases hc with h0|⟨g,o,row,e,fr,h0,_⟩
    ·obtain rfl:xs=[]:=List.length_eq_zero_iff.1 h0;simp[Conv.bytesToString,Sem.run_pure,L1]
    ·cases h0
   | some b=>
    refine run_bytesToString w b xs.length cap xs ?_;have hl:=run_loadCells_list (P:=P) w b (xs.map (Value.int .u8)) ?_
    ·rwa [cC] at hl
    ·intro j v hj;rw[cp] at hj;obtain⟨n,hn,rfl⟩:=Option.map_eq_some_iff.1 hj;have hlt:j<xs.length:=(List.getElem?_eq_some_iff.1 hn).1;rcases hc with h0|⟨g,o,row,e,fr,h0,_,hrow,hcell⟩
     ·omega
     ·cases h0;obtain⟨u,hu,ht⟩:=hcell j hlt 0 (by simp[Ty.width]);have hx:xs.getD j default=n:=by simp[List.getD,hn]
      have hu2:u=.int .u8 n:=by
       have h3:fcC (cell .u8 xs j 0)=.val (.int .u8 n):=by unfold cell;rw[hx];rfl
       have ht:TR w R (fcC (cell .u8 xs j 0)) u:=ht;rw[h3] at ht;exact ht.1
      subst hu2;simp only[Ty.width,Nat.mul_one,Nat.add_zero] at hu;by_cases hz:j=0
      ·subst hz;simpa [World.cell?,Addr.add,hrow] using hu
      ·simpa [World.cell?,Addr.add,hrow,hz] using hu
  ·cases hs
 ·cases hs
def Tc (P:Program) (o:Oper) (S T:TypeId) (x:Operand) (σ:St) (K:St->Out):Out :=
 match (σ.eval x).scal with
 | some u=>Mg P o (convert S T u) σ K
 | none=>match QW σ (σ.eval x) with
  | some (p,⟨.u8,xs⟩)=>bif Qd P S T then .ob p (ret σ o (.v false [.sc (.string (L1 xs))]) K) else .bad
  | _=>.bad
def Yv {S T:TypeId} {x:Operand} (h:RG F G σ a w) (ho:o.op=.convert S T x) (hh:(Tc P o S T x σ K).holds Q):o.wp P a w (ContE F G a w o.dst K Q) Qx:=by
 unfold Tc at hh;split at hh
 ·rename_i u hu;have:=(CP (Am h x) hu).1;exact Ho h hh (by simp[execOp,ho,this])
 ·split at hh
  ·rename_i p xs hs;cases hb:Qd P S T with
   | false=>rw[hb] at hh;exact hh.elim
   | true=>
    rw[hb] at hh;obtain⟨hp,hh⟩:=hh;obtain⟨R,hr⟩:=Is h (Am h x) hs hp;refine Ax h hh (v:=.string (L1 xs)) ⟨_,rfl,rfl,rfl⟩ ?_;have:=N7 hb hr;simp[execOp,ho,this]
  ·exact hh.elim
end
end Go.D
namespace Go.D
section
variable {P:Program} {F:Fr P} {G:Gh} {σ:St} {a:Act} {w:World} {o:Oper} {K:St->Out} {Q:Post} {Qx:Exit->Act->World->Prop}
def BN (σ:St) (l:Nat) (ab:List Nat) (T:Tree):St:=({ σ with hp:=(l,T)::σ.hp.filter λp=>!ab.contains p.1 }:St).kill (l::ab)
def YQ (G:Gh) (ab:List Nat) (b:Nat):Prop:=∃ m,m∈ab/\G.ow b=.lab m
def SV (h:RG F G σ a w) (t ty e:TypeId) (i:TypeInfo) (z:Value) (ht:P.underlying t=some (.slice e)) (hi:P.info? e=some i) (hz:i.zero=some z) (hk:0<i.size) (hzs:z.cells.size=i.size)
 (l:Nat) (ab:List Nat) (hla:l∉ab) {n m:Nat} {f g:Nat->Nat->C} {sv xv:Value} (hs:TO w (.sl i.size n f) sv λb=>G.ow b=.lab l)
 (vs:List Value) (G2:Nat->Nat->Nat->Prop) (hx:SrcOk P w i.size m xv vs) (h1:∀ u∈vs,u.oneCell'=true) (h2:∀ i',i'<m->∀ j,j<i.size->∃ u,vs[i'*i.size+j]? = some u/\TO w (g i' j) u (G2 i' j))
 (s2:∀ i',i'<m->∀ j,j<i.size->∀ b,G2 i' j b->YQ G ab b)
 (d2:∀ i',i'<m->∀ j,j<i.size->∀ i2,i2<m->∀ j',j'<i.size->∀ b,G2 i' j b->G2 i2 j' b->i'=i2/\j=j')
 (hby:0<i.bytes) (hb:(n+m)*i.bytes<=140737488355328) :
 ∃ v' w',(Builtin.append_ #[t,t] ty #[sv,xv]).run P w=.ok v' w'/\Onward w w'/\(∀ b,G.ow b≠.gone->G.ow b≠.lab l->w'.heap[b]? = w.heap[b]?)/\v'.oneCell'=true/\(∀ b,b<w.heap.size->w'.heap[b]? = w.heap[b]?\/(G.ow b=.lab l/\∃ row row' e off cap,w.heap[b]? = some (.cells row e (0,0))/\w'.heap[b]? = some (.cells row' e (0,0))/\row'.size=row.size/\sv=.slice (some ⟨b,off,none⟩) n cap/\∀ x,x<off+n*i.size->row'[x]? = row[x]?)) /\
  TO w' (.sl i.size (n+m) (Afr n f g)) v' (λb=>(b=w.heap.size/\b<w'.heap.size)\/G.ow b=.lab l\/YQ G ab b):=by
 have h63:n+m<=140737488355328:=aR (Nat.le_mul_of_pos_right _ hby) hb;obtain⟨us,G1,hus,hu1,hu2,hus1,hud,hub⟩:=Ag8 (P:=P) hk hs;have d3:∀ i',i'<n->∀ j,j<i.size->∀ i2,i2<m->∀ j',j'<i.size->∀ b,G1 i' j b->G2 i2 j' b->False:=by intro i1 hi1 j1 hj1 i2 hi2 j2 hj2 b hb1 hb2;have e1:=hus1 i1 hi1 j1 hj1 b hb1;obtain⟨mm,hm,e2⟩:=s2 i2 hi2 j2 hj2 b hb2;grind
 have grow:∀ (ad:Option Addr) (cap:Nat),sv=.slice ad n cap->cap<n+m->∃ v' w',(Builtin.append_ #[t,t] ty #[sv,xv]).run P w=.ok v' w'/\Onward w w'/\(∀ b,G.ow b≠.gone->G.ow b≠.lab l->w'.heap[b]? = w.heap[b]?)/\v'.oneCell'=true/\(∀ b,b<w.heap.size->w'.heap[b]? = w.heap[b]?\/(G.ow b=.lab l/\∃ row row' e off cap,w.heap[b]? = some (.cells row e (0,0))/\w'.heap[b]? = some (.cells row' e (0,0))/\row'.size=row.size/\sv=.slice (some ⟨b,off,none⟩) n cap/\∀ x,x<off+n*i.size->row'[x]? = row[x]?)) /\
  TO w' (.sl i.size (n+m) (Afr n f g)) v' (λb=>(b=w.heap.size/\b<w'.heap.size)\/G.ow b=.lab l\/YQ G ab b):=by
  intro ad cap hsv hlt;subst hsv;have hr:=Hw t ty e i z ht hi hz ad n cap us hus xv m vs hx hlt o_ hb;have hge:=grownCap_ge w (n+m) cap e;have old:∀ b,b<w.heap.size->(w.drew.alloc (.cells (us++vs++(Builtin.zeroCells z.cells (grownCap w (n+m) cap e-(n+m))).toList).toArray e)).heap[b]? = w.heap[b]?:=λb hb=>heap_alloc_old w.drew _ b hb
  refine⟨_,_,hr,⟨rfl,rfl,⟨rfl,by first|exact DrLe.refl _|exact DrLe.succ _|exact DrLe.add _ _⟩,by simp⟩,λb hbg _=>old b (h.lt b hbg),rfl,λb hb=>.inl (old b hb),?_⟩;have ltab:∀ b,YQ G ab b->b<w.heap.size:=by rintro b ⟨mm,_,e⟩;exact h.lt b (by simp[e])
  have ltl:∀ b,G.ow b=.lab l->b<w.heap.size:=λb e=>h.lt b (by simp[e])
  refine AgE (us:=us) (vs:=vs) (G1:=G1) (G2:=G2) hus.len hx.len (heap_alloc_new w.drew _) (.inl ⟨rfl,by simp⟩) hge ?_ ?_ ?_ ?_ ?_ ?_ hud d2 d3
  ·have hzl:=size_zeroCells z.cells (grownCap w (n+m) cap e-(n+m));simp only[List.size_toArray,ak,hus.len,hx.len,fD,hzl,hzs,<-Nat.add_mul];rw[cE];exact Nat.le_of_eq (by congr 1;omega)
  ·intro x hxl;simp only[List.getElem?_toArray,cE];rw[cL (by simp[hus.len,hx.len,<-Nat.add_mul];exact hxl)]
  ·intro i1 hi1 j1 hj1;obtain⟨u,hu,ht⟩:=hu2 i1 hi1 j1 hj1;exact⟨u,hu,ht.frame λb hb _=>⟨old b (ltl b (hus1 i1 hi1 j1 hj1 b hb)),hb⟩⟩
  ·intro i1 hi1 j1 hj1;obtain⟨u,hu,ht⟩:=h2 i1 hi1 j1 hj1;exact⟨u,hu,ht.frame λb hb _=>⟨old b (ltab b (s2 i1 hi1 j1 hj1 b hb)),hb⟩⟩
  ·intro i1 hi1 j1 hj1 b hb;have e1:=hus1 i1 hi1 j1 hj1 b hb;exact⟨.inr (.inl e1),Nat.ne_of_lt (ltl b e1)⟩
  ·intro i1 hi1 j1 hj1 b hb;have e1:=s2 i1 hi1 j1 hj1 b hb;exact⟨.inr (.inr e1),Nat.ne_of_lt (ltab b e1)⟩
 rcases hs with⟨⟨ad0,hsv⟩,hn⟩|⟨g0,off,cap,row0,e0,GG,hsv,_⟩
 ·subst hn;by_cases hm:m=0
  ·subst hm;have hr:=HW t ty e i ht hi ad0 xv vs hx;exact⟨_,_,by rw[hsv];exact hr,⟨rfl,rfl,⟨rfl,by first|exact DrLe.refl _|exact DrLe.succ _|exact DrLe.add _ _⟩,Y_ _⟩,λ_ _ _=>rfl,rfl,λ_ _=>.inl rfl,.inl ⟨⟨ad0,rfl⟩,rfl⟩⟩
  ·exact grow ad0 0 hsv o_
 ·by_cases hroom:n+m<=cap
  ·by_cases hc0:cap=0
   ·have hn0:n=0:=o_
    have hm0:m=0:=o_
    subst hn0 hm0 hc0;have hr:=HW t ty e i ht hi (some ⟨g0,off,none⟩) xv vs hx;exact⟨_,_,by rw[hsv];exact hr,⟨rfl,rfl,⟨rfl,by first|exact DrLe.refl _|exact DrLe.succ _|exact DrLe.add _ _⟩,Y_ _⟩,λ_ _ _=>rfl,rfl,λ_ _=>.inl rfl,.inl ⟨⟨_,rfl⟩,rfl⟩⟩
   obtain⟨hlab,row,e',hg,hnc,hcap,hrow,hne⟩:=hub g0 off cap hsv o_;have hck:(n+m)*i.size<=cap*i.size:=da _ hroom;have hfit:off+n*i.size+vs.length<=row.size:=by rw[hx.len];rw[Nat.add_mul] at hck;omega
   have hr:=HT t ty e i ht hi g0 off n cap row e' hg xv m vs hx h1 hroom hfit;have old:∀ b,b≠g0->(w.setRow g0 (row.toList.take (off+n*i.size)++vs++row.toList.drop (off+n*i.size+vs.length)).toArray).heap[b]? = w.heap[b]?:=λb hb=>setRow_other w g0 b _ hb
   have neab:∀ b,YQ G ab b->b≠g0:=by rintro b ⟨mm,hm,e⟩ rfl;grind
   refine⟨_,w.setRow g0 (row.toList.take (off+n*i.size)++vs++row.toList.drop (off+n*i.size+vs.length)).toArray,by rw[hsv];exact hr,⟨rfl,rfl,⟨rfl,by first|exact DrLe.refl _|exact DrLe.succ _|exact DrLe.add _ _⟩,by simp⟩,λb _ hbl=>old b λe=>hbl (e▸hlab),rfl,λb hb=>?_,?_⟩
   ·by_cases hb0:b=g0
    ·subst hb0;refine .inr ⟨hlab,row,_,e',off,cap,hg,setRow_heap w _ row _ e' _ hg,?_,hsv,λx hx=>?_⟩
     ·simp only[List.size_toArray,ak,cX,fP,fD];omega
     ·simp only[List.getElem?_toArray];rw[bF,cL (by simp;omega)];simp only[fQ,hx,aC];simp
    ·exact .inl (old b hb0)
   refine AgE (us:=us) (vs:=vs) (G1:=G1) (G2:=G2) hus.len hx.len (setRow_heap w g0 row _ e' _ hg) (.inr (.inl hlab)) hroom ?_ ?_ ?_ ?_ ?_ ?_ hud d2 d3
   ·simp only[List.size_toArray,ak,cX,fP,fD];omega
   ·intro x hxl;rw[Nat.add_mul] at hxl;simp only[List.getElem?_toArray];rw[bF];by_cases hlo:x<n*i.size
    ·rw[cL (by simp;omega),cL (by rw[hus.len];exact hlo),<-hrow x hlo];simp only[fQ,show off+x<off+n*i.size from o_,aC];simp
    ·have e1:(List.take (off+n*i.size) row.toList).length=off+n*i.size:=by simp;omega
     rw[cV (by rw[e1];omega),e1,cL (by rw[hx.len];omega),cV (by rw[hus.len];omega),hus.len];congr 1;omega
   ·intro i1 hi1 j1 hj1;obtain⟨u,hu,ht⟩:=hu2 i1 hi1 j1 hj1;exact⟨u,hu,ht.frame λb hb _=>⟨old b (hne i1 hi1 j1 hj1 b hb),hb⟩⟩
   ·intro i1 hi1 j1 hj1;obtain⟨u,hu,ht⟩:=h2 i1 hi1 j1 hj1;exact⟨u,hu,ht.frame λb hb _=>⟨old b (neab b (s2 i1 hi1 j1 hj1 b hb)),hb⟩⟩
   ·intro i1 hi1 j1 hj1 b hb;exact⟨.inr (.inl (hus1 i1 hi1 j1 hj1 b hb)),hne i1 hi1 j1 hj1 b hb⟩
   ·intro i1 hi1 j1 hj1 b hb;have e1:=s2 i1 hi1 j1 hj1 b hb;exact⟨.inr (.inr e1),neab b e1⟩
  ·exact grow _ cap hsv o_
def PD (h:RG F G σ a w) (t ty e:TypeId) (i:TypeInfo) (z:Value) (ht:P.underlying t=some (.slice e)) (hi:P.info? e=some i) (hz:i.zero=some z) (hk:0<i.size) (hzs:z.cells.size=i.size)
 (l:Nat) (ab:List Nat) (hla:l∉ab) {n m:Nat} {f g:Nat->Nat->C} {sv xv:Value} (hs:TO w (.sl i.size n f) sv λb=>G.ow b=.lab l)
 (vs:List Value) (G2:Nat->Nat->Nat->Prop) (hx:SrcOk P w i.size m xv vs) (h1:∀ u∈vs,u.oneCell'=true) (h2:∀ i',i'<m->∀ j,j<i.size->∃ u,vs[i'*i.size+j]? = some u/\TO w (g i' j) u (G2 i' j))
 (s2:∀ i',i'<m->∀ j,j<i.size->∀ b,G2 i' j b->YQ G ab b)
 (d2:∀ i',i'<m->∀ j,j<i.size->∀ i2,i2<m->∀ j',j'<i.size->∀ b,G2 i' j b->G2 i2 j' b->i'=i2/\j=j')
 (hby:0<i.bytes) (hb:(n+m)*i.bytes<=140737488355328) :
 ∃ v' w',(Builtin.append_ #[t,t] ty #[sv,xv]).run P w=.ok v' w'/\Onward w w'/\(∀ b,G.ow b≠.gone->G.ow b≠.lab l->w'.heap[b]? = w.heap[b]?)/\v'.oneCell'=true /\
  TO w' (.sl i.size (n+m) (Afr n f g)) v' (λb=>(b=w.heap.size/\b<w'.heap.size)\/G.ow b=.lab l\/YQ G ab b):=by
 obtain⟨v',w',a1,a2,a3,a4,_,a5⟩:=SV h t ty e i z ht hi hz hk hzs l ab hla hs vs G2 hx h1 h2 s2 d2 hby hb;exact⟨v',w',a1,a2,a3,a4,a5⟩
def M9 (o:Oper) (σ:St) (l:Nat) (ab:List Nat) (T:Tree) (K:St->Out):Out :=
 match o.dst with
 | some d=>if d<σ.nt/\σ.fl.contains l=false/\ab.all (λm=>!σ.fl.contains m)=true then K ((BN σ l ab T).put d (.v false [.ref l])) else .bad
 | none=>.bad
def YY {w':World} {l:Nat} {ab:List Nat} {T:Tree} {v:Value} (h:RG F G σ a w) (hh:(M9 o σ l ab T K).holds Q) (ho:Onward w w') (hs:∀ b,G.ow b≠.gone->G.ow b≠.lab l->w'.heap[b]? = w.heap[b]?) (h1:v.oneCell'=true)
 (hT:TO w' (.sl T.k T.n T.f) v λb=>(w.heap.size<=b/\b<w'.heap.size)\/G.ow b=.lab l\/YQ G ab b):∃ σ' G',RG F G' σ' (a.put o.dst v) w'/\(K σ').holds Q:=by
 unfold M9 at hh;split at hh
 ·rename_i d hd;split at hh
  ·rename_i hc;obtain⟨hlt,hfl,hab⟩:=hc;have hgone:∀ b,w.heap.size<=b->G.ow b=.gone:=by
    intro b hb1;cases hq:G.ow b with
    | gone=>rfl
    | _=>exact absurd (h.lt b (by simp[hq])) o_
   have hN:∀ b,((w.heap.size<=b/\b<w'.heap.size)\/G.ow b=.lab l\/YQ G ab b)->b<w'.heap.size/\(G.ow b=.gone\/G.ow b=.lab l\/∃ m,m∈ab/\G.ow b=.lab m):=by
    intro b hb;rcases hb with⟨hb1,hb2⟩|hb|hb
    ·simp_all
    ·exact⟨fE (h.lt b (by simp[hb])) ho.size,.inr (.inl hb)⟩
    ·obtain⟨m,hm,e⟩:=hb;exact⟨fE (h.lt b (by simp[e])) ho.size,.inr (.inr ⟨m,hm,e⟩)⟩
   obtain⟨G',hG,hv,_⟩:=h.retree l ab T v _ ho hs hN hT (by simpa using hfl) (by simpa using hab);rw[hd];exact⟨_,G',RG.put (x:=.v false [.ref l]) hG hlt ⟨_,rfl,hv.symm,h1⟩,hh⟩
  ·exact hh.elim
 ·exact hh.elim
def L5 {w':World} {l:Nat} {ab:List Nat} {T:Tree} {v:Value} (h:RG F G σ a w) (hh:(M9 o σ l ab T K).holds Q) (ho:Onward w w') (hs:∀ b,G.ow b≠.gone->G.ow b≠.lab l->w'.heap[b]? = w.heap[b]?) (h1:v.oneCell'=true)
 (hT:TO w' (.sl T.k T.n T.f) v λb=>(w.heap.size<=b/\b<w'.heap.size)\/G.ow b=.lab l\/YQ G ab b):Lq F K Q (a.put o.dst v) w':=by
 obtain⟨σ',G',k1,k2⟩:=YY h hh ho hs h1 hT;exact⟨σ',⟨G',k1⟩,k2⟩
def RH {w':World} {T:Tree} {v:Value} (h:RG F G σ a w) (hh:(M9 o σ (64*o.dst.getD 0) [] T K).holds Q) (ho:Onward w w') (hs:∀ b,b<w.heap.size->w'.heap[b]? = w.heap[b]?) (h1:v.oneCell'=true)
 (hT:TO w' (.sl T.k T.n T.f) v λb=>w.heap.size<=b/\b<w'.heap.size):ContE F G a w o.dst K Q (a.put o.dst v) w':=by
 unfold M9 at hh;split at hh
 ·rename_i d hd;split at hh
  ·rename_i hc;obtain⟨hlt,hfl,_⟩:=hc;have hgone:∀ b,w.heap.size<=b->G.ow b=.gone:=by
    intro b hb1;cases hq:G.ow b with
    | gone=>rfl
    | _=>exact absurd (h.lt b (by simp[hq])) o_
   obtain⟨G',hG,hv,hv2,_,hbe,how⟩:=h.retree (64*o.dst.getD 0) [] T v _ ho (λb hb _=>hs b (h.lt b hb)) (λb hb=>⟨hb.2,.inl (hgone b hb.1)⟩) hT (by simpa using hfl) (by simp);refine⟨_,G',?_,hh,⟨v,rfl⟩,ho,λg hg=>.inl (hs g hg),λg hg=>how rfl (λg hg=>hgone g hg.1) g hg,λb _=>by rw[hbe],λl hl=>hv2 l ?_⟩
   ·rw[hd];refine RG.put (x:=.v false [.ref (64*d)]) ?_ hlt ⟨_,rfl,?_,h1⟩
    ·rw[hd] at hG;exact hG
    ·rw[hd] at hv;exact hv.symm
   ·have:=hl d hd;rw[hd];simp only[Option.getD_some];omega
  ·exact hh.elim
 ·exact hh.elim
def AcN (σ:St) (d:Nat) (ty:Option Ty):TV->Option (List Prop×Nat×(t:Ty)×List (El t))
 | .v false [.ref l]=>match look σ.hp l with
  | some T=>some ([],l,⟨T.t,T.xs⟩)
  | none=>none
 | .v false [.sub l k' lo m]=>match look σ.hp l with
  | some T=>if T.k=k' then some ([lo+m<=T.n],l,⟨T.t,cut T.xs lo m⟩) else none
  | none=>none
 | .v false [.nil]=>match ty with
  | some t=>some ([],64*d,⟨t,[]⟩)
  | none=>none
 | _=>none
def M0 {d l:Nat} {p:List Prop} {ty:Option Ty} {s:(t:Ty)×List (El t)} {x:TV} {v:Value} (h:RG F G σ a w) (hx:TVR w G x v) (hs:AcN σ d ty x=some (p,l,s)) (hp:∀ q∈p,q):TO w (fcC (.l s.1 s.2)) v (λb=>G.ow b=.lab l):=by
 unfold AcN at hs;split at hs
 ·rename_i l';split at hs
  ·rename_i T hT;simp only[Q_,bP] at hs;obtain⟨rfl,rfl,rfl⟩:=hs;obtain⟨c,hc,hcr⟩:=hx;injection hc with hc
   subst hc;rw[hcr.1,Ce];exact h.hp _ T hT
  ·simp at hs
 ·rename_i l' k' lo m';split at hs
  ·rename_i T hT;split at hs
   ·rename_i hk;simp only[Q_,bP] at hs;obtain⟨rfl,rfl,rfl⟩:=hs;obtain⟨c,hc,hcr⟩:=hx;injection hc with hc
    subst hc;have hto:=h.hp _ T hT;rw[hk] at hto;have hle:=hp _ (List.mem_singleton.2 rfl);have h2:=Ko hto hcr hle;rw[<-hk] at h2;exact Wv h2 hle
   ·simp at hs
  ·simp at hs
 ·split at hs
  ·simp only[Q_,bP] at hs;obtain⟨rfl,rfl,rfl⟩:=hs;obtain⟨c,hc,hcr⟩:=hx;injection hc with hc
   subst hc;rw[DH];exact .inl ⟨⟨none,hcr⟩,rfl⟩
  ·simp at hs
 ·simp at hs
def IJ (n bytes:Nat):Prop:=n*bytes<=140737488355328
def JH (P:Program) (ty:TypeId->Option Ty) (o:Oper) (T:TypeId) (s x:Operand) (σ:St) (K:St->Out):Out :=
 match P.underlying T with
 | some (.slice e)=>match P.info? e with
  | some i=>match i.zero with
   | some z=>if 0<i.bytes/\z.cells.size=i.size then(match AcN σ (o.dst.getD 0) (ty e) (σ.eval s) with
    | some (p,l,⟨t,xs⟩)=>if t.width=i.size then(match σ.eval x with
     | .v false [.nil]=>obs p (.ob (IJ (xs.length+0) i.bytes) (M9 o σ l [] ⟨t,xs⟩ K))
     | y=>if IN t then(match QW σ y with
      | some (q,⟨t',ys⟩)=>if h:t'=t then obs p (.ob q (.ob (IJ (xs.length+ys.length) i.bytes) (M9 o σ l [] ⟨t,xs++(h▸ys)⟩ K))) else .bad
      | none=>.bad)
      else(match y with
       | .v false [.ref l2]=>match look σ.hp l2 with
        | some t2=>if h:t2.t=t then if l=l2 then .bad else obs p (.ob (IJ (xs.length+t2.xs.length) i.bytes) (M9 o σ l [l2] ⟨t,xs++(h▸t2.xs)⟩ K)) else .bad
        | none=>.bad
       | _=>.bad)) else .bad
    | none=>.bad) else .bad
   | none=>.bad
  | none=>.bad
 | _=>.bad
def WW {t:Ty} {xs ys:List (El t)} {i:Nat} (hi:t.width=i):le (.sl i (xs.length+ys.length) (Afr xs.length (λi j=>fcC (cell t xs i j)) λi j=>fcC (cell t ys i j))) (fcC (.l t (xs++ys))):=by
 rw[DH,ak];subst hi;refine Afl λi hi j hj=>?_
 simp only[Afr];split
 ·rename_i hlt;rw[Hk hlt];exact le.refl _
 ·rename_i hge;rw[Gj o_];exact le.refl _
def Jt {ty:TypeId->Option Ty} {T:TypeId} {s x:Operand} (h:RG F G σ a w) (ho:o.op=.call { callee:=.builtin .append,args := #[s,x],argTypes := #[T,T]}) (hh:(JH P ty o T s x σ K).holds Q):o.wp P a w (Lq F K Q) Qx:=by
 unfold JH at hh;have hsv:=Am h s;have hxv:=Am h x;have fin:∀ v w',(Builtin.append_ #[T,T] o.type #[a.eval s,a.eval x]).run P w=.ok v w'->(execOp a.eval o).run P w=.ok (.value v) w':=by intro v w' hr;simp[execOp,ho,resolve,invoke,builtin,hr]
 split at hh
 ·rename_i e hu;split at hh
  ·rename_i i hi;split at hh
   ·rename_i z hz;split at hh
    ·rename_i hc;obtain⟨hby,hzs⟩:=hc;split at hh
     ·rename_i p l t xs hb;split at hh
      ·rename_i hw;have hk:0<i.size:=by rw[<-hw];exact EB t
       split at hh
       ·rename_i hxe;obtain⟨hp,hroom,hh⟩:=CZ hh;have hbase:=M0 h hsv hb hp;rw[DH,hw] at hbase;rw[hxe] at hxv;obtain⟨c,hcc,hcr⟩:=hxv;injection hcc with hcc
        subst hcc;have htr:TR w (λ_=>True) (.sl i.size 0 λ_ _=>.nl) (a.eval x):=⟨none,0,hcr,Y_ _,.inl rfl⟩;obtain⟨news,hn1,hn2,hn3⟩:=Lv (P:=P) hk htr;obtain⟨v',w',hr,hon,hsame,h1,hT⟩:=PD (P:=P) (g:=λ_ _=>.nl) h T o.type e i z hu hi hz hk hzs l [] (by simp) hbase news (λ_ _ _=>False) hn1 hn2
         (by simp) (by simp) (by simp) hby hroom
        refine D2 (fin _ _ hr) (L5 h hh hon hsame h1 ?_);rw[<-Ce];have hl2:=WW (xs:=xs) (ys:=[]) hw;rw[cz] at hl2;refine TO.le hl2 (TO.le (Afl λi' hi' j' hj'=>?_) (hT.frame λb hb _=>⟨rfl,hb.imp (λhx=>⟨Nat.le_of_eq hx.1.symm,hx.2⟩) id⟩));simp only[Afr];rw[G_ o_,G_ o_];exact le.refl _
       ·split at hh
        ·rename_i hflat;split at hh
         ·rename_i q t' ys hq;split at hh
          ·rename_i he;subst he;obtain⟨hp,hqq,hroom,hh⟩:=CZ hh;have hbase:=M0 h hsv hb hp;rw[DH,hw] at hbase;obtain⟨S,htr⟩:=Is h hxv hq hqq;rw[DH,hw] at htr;obtain⟨news,hn1,hn2,hn3⟩:=Lv (P:=P) hk htr;obtain⟨v',w',hr,hon,hsame,h1,hT⟩:=PD (P:=P) (g:=λi j=>fcC (cell t' ys i j)) h T o.type e i z hu hi hz hk hzs l [] (by simp) hbase news (λ_ _ _=>False) hn1 hn2
            (λi' hi' j hj=>by obtain⟨u,hu',ht⟩:=hn3 i' hi' j hj;obtain⟨u2,hu2⟩:=Ey hflat ys i' j o_;refine⟨u,hu',?_⟩;rw[hu2] at ht ⊢;exact ht)
            (by simp) (by simp) hby hroom
           refine D2 (fin _ _ hr) (L5 h hh hon hsame h1 ?_);rw[<-Ce];exact TO.le (WW hw) (hT.frame λb hb _=>⟨rfl,hb.imp (λhx=>⟨Nat.le_of_eq hx.1.symm,hx.2⟩) id⟩)
          ·exact hh.elim
         ·exact hh.elim
        ·split at hh
         ·rename_i l2 hxe;split at hh
          ·rename_i t2 ht2;split at hh
           ·rename_i he;split at hh
            ·exact hh.elim
            ·rename_i hne;obtain⟨hp,hroom,hh⟩:=CZ hh;have hbase:=M0 h hsv hb hp;rw[DH,hw] at hbase;rw[hxe] at hxv;obtain⟨c,hcc,hcr⟩:=hxv;injection hcc with hcc
             subst hcc;have hto:=h.hp l2 t2 ht2;obtain⟨t2t,t2x⟩:=t2;dsimp only at he;subst he;rw[<-Ce,DH,hw,<-hcr.1] at hto;obtain⟨news,G2,hn1,hn2,hn3,hn4,hn5,_⟩:=Ag8 (P:=P) hk hto;obtain⟨v',w',hr,hon,hsame,h1,hT⟩:=PD (P:=P) h T o.type e i z hu hi hz hk hzs l [l2] (by simpa using hne) hbase news G2 hn1 hn2 hn3
              (λi' hi' j hj b hb=>⟨l2,by simp,hn4 i' hi' j hj b hb⟩) hn5 hby hroom
             refine D2 (fin _ _ hr) (L5 h hh hon hsame h1 ?_);rw[<-Ce];exact TO.le (WW hw) (hT.frame λb hb _=>⟨rfl,hb.imp (λhx=>⟨Nat.le_of_eq hx.1.symm,hx.2⟩) id⟩)
           ·exact hh.elim
          ·exact hh.elim
         ·exact hh.elim
      ·exact hh.elim
     ·exact hh.elim
    ·exact hh.elim
   ·exact hh.elim
  ·exact hh.elim
 ·exact hh.elim
end
end Go.D
namespace Go.D
section
variable {P:Program} {F:Fr P} {G:Gh} {σ:St} {a:Act} {w:World} {o:Oper} {K:St->Out} {Q:Post} {Qx:Exit->Act->World->Prop}
def AiB (t ty e:TypeId) (i:TypeInfo) (z:Value) (ht:P.underlying t=some (.slice e)) (hi:P.info? e=some i) (hz:i.zero=some z) (hk:0<i.size) (hzs:z.cells.size=i.size)
 {m:Nat} {g:Nat->Nat->C} {xv:Value} {ad:Option Addr} (vs:List Value) (hx:SrcOk P w i.size m xv vs) (h2:∀ i',i'<m->∀ j,j<i.size->∃ u,vs[i'*i.size+j]? = some u/\TO w (g i' j) u λ_=>False)
 (hby:0<i.bytes) (hb:m*i.bytes<=140737488355328) :
 ∃ v' w',(Builtin.append_ #[t,t] ty #[.slice ad 0 0,xv]).run P w=.ok v' w'/\Onward w w'/\(∀ b,b<w.heap.size->w'.heap[b]? = w.heap[b]?)/\v'.oneCell'=true /\
  TO w' (.sl i.size m g) v' (λb=>w.heap.size<=b/\b<w'.heap.size):=by
 have h63:m<=140737488355328:=aR (Nat.le_mul_of_pos_right _ hby) hb;by_cases hm:m=0
 ·subst hm;have hr:=HW t ty e i ht hi ad xv vs hx;exact⟨_,_,hr,⟨rfl,rfl,⟨rfl,by first|exact DrLe.refl _|exact DrLe.succ _|exact DrLe.add _ _⟩,Y_ _⟩,λ_ _=>rfl,rfl,.inl ⟨⟨ad,rfl⟩,rfl⟩⟩
 ·have hus:SrcOk P w i.size 0 (.slice ad 0 0) []:=by
   refine⟨⟨ad,0,rfl⟩,by simp,λw' hw'=>?_⟩;cases ad with
   | none=>simp[Builtin.firstCells]
   | some b=>simp[Builtin.firstCells,loadCells,loadCellsFrom]
  have hr:=Hw t ty e i z ht hi hz ad 0 0 [] hus xv m vs hx o_ o_ (by rw[cE];exact hb);rw[cE,ew] at hr;have hge:=grownCap_ge w m 0 e;have old:∀ b,b<w.heap.size->(w.drew.alloc (.cells (vs++(Builtin.zeroCells z.cells (grownCap w m 0 e-m)).toList).toArray e)).heap[b]? = w.heap[b]?:=λb hb=>heap_alloc_old w.drew _ b hb
  refine⟨_,_,hr,⟨rfl,rfl,⟨rfl,by first|exact DrLe.refl _|exact DrLe.succ _|exact DrLe.add _ _⟩,by simp⟩,old,rfl,.inr ⟨w.heap.size,0,grownCap w m 0 e,_,e,λ_ _ _=>False,rfl,hge,?_,heap_alloc_new w.drew _,⟨Y_ _,by simp⟩,λi1 hi1 j1 hj1=>?_,λi1 hi1 j1 hj1 b hb=>hb.elim,λi1 hi1 j1 hj1 i2 hi2 j2 hj2 b hb=>hb.elim⟩⟩
  ·have hzl:=size_zeroCells z.cells (grownCap w m 0 e-m);simp only[List.size_toArray,ak,hx.len,fD,hzl,hzs,<-Nat.add_mul];rw[cE];exact Nat.le_of_eq (by congr 1;omega)
  ·obtain⟨u,hu,ht'⟩:=h2 i1 hi1 j1 hj1;refine⟨u,?_,ht'.frame λb hb _=>hb.elim⟩;have hlt:=(List.getElem?_eq_some_iff.1 hu).1;rw[cE];simp only[List.getElem?_toArray];rw[cL hlt];exact hu
def VU (P:Program) (ty:TypeId->Option Ty) (o:Oper) (T:TypeId) (s x:Operand) (σ:St) (K:St->Out):Out :=
 match s with
 | .tmp ts=>match σ.get ts,P.underlying T with
  | .capd l 0,some (.slice e)=>match P.info? e,look σ.hp l with
   | some i,some T0=>match i.zero with
    | some z=>if 0<i.bytes/\z.cells.size=i.size/\T0.t.width=i.size/\IN T0.t=true then
     (match QW σ (σ.eval x) with
      | some (q,⟨t',ys⟩)=>if h:t'=T0.t then .ob q (.ob (IJ ys.length i.bytes) (M9 o σ (64*o.dst.getD 0) [] ⟨T0.t,h▸ys⟩ K)) else .bad
      | none=>.bad) else .bad
    | none=>.bad
   | _,_=>.bad
  | _,_=>.bad
 | _=>.bad
def RY {ty:TypeId->Option Ty} {T:TypeId} {s x:Operand} (h:RG F G σ a w) (ho:o.op=.call { callee:=.builtin .append,args := #[s,x],argTypes := #[T,T]}) (hh:(VU P ty o T s x σ K).holds Q):o.wp P a w (ContE F G a w o.dst K Q) Qx:=by
 unfold VU at hh;have hxv:=Am h x;have fin:∀ v w',(Builtin.append_ #[T,T] o.type #[a.eval s,a.eval x]).run P w=.ok v w'->(execOp a.eval o).run P w=.ok (.value v) w':=by intro v w' hr;simp[execOp,ho,resolve,invoke,builtin,hr]
 split at hh
 ·rename_i ts;split at hh
  ·rename_i l e hg hu;have hsv:=Gf h ts;rw[hg] at hsv;obtain⟨⟨hv,_⟩,ad,n,hl⟩:=hsv;split at hh
   ·rename_i i T0 hi hT;split at hh
    ·rename_i z hz;split at hh
     ·rename_i hc;obtain⟨hby,hzs,hw,hflat⟩:=hc;have hk:0<i.size:=by rw[<-hw];exact EB T0.t
      have hn:n=0:=by
       rcases h.hp l T0 hT with⟨⟨ad',e1⟩,_⟩|⟨g0,off,cap,row,e',GG,e1,hnc,_⟩
       ·simp_all
       ·simp_all
      subst hn;have hsl:a.eval (.tmp ts)=.slice ad 0 0:=hv.trans hl;split at hh
      ·rename_i q t' ys hq;split at hh
       ·rename_i he;obtain⟨T0t,T0x⟩:=T0;dsimp only at he hw hflat hk;subst he;obtain⟨hqq,hroom,hh⟩:=hh;obtain⟨S,htr⟩:=Is h hxv hq hqq;rw[DH,hw] at htr;obtain⟨news,hn1,hn2,hn3⟩:=Lv (P:=P) hk htr;obtain⟨v',w',hr,hon,hold,h1,hT'⟩:=AiB (P:=P) (g:=λi j=>fcC (cell t' ys i j)) (ad:=ad) T o.type e i z hu hi hz hk hzs news hn1
         (λi' hi' j hj=>by obtain⟨u,hu',ht⟩:=hn3 i' hi' j hj;obtain⟨u2,hu2⟩:=Ey hflat ys i' j o_;refine⟨u,hu',?_⟩;rw[hu2] at ht ⊢;exact ht) hby hroom
        rw[<-hsl] at hr;refine D2 (fin _ _ hr) (RH h hh hon hold h1 ?_);rw[<-Ce,DH,hw];exact hT'
       ·exact hh.elim
      ·exact hh.elim
     ·exact hh.elim
    ·exact hh.elim
   ·exact hh.elim
  ·exact hh.elim
 ·exact hh.elim
def Zt (o:Oper) (σ:St) (c:Nat) (T:Tree) (K:St->Out):Out :=
 match o.dst with
 | some d=>if d<σ.nt/\σ.fl.contains (64*d)=false then K ((BN σ (64*d) [] T).put d (.capd (64*d) c)) else .bad
 | none=>.bad
def XQ {w':World} {T:Tree} {v:Value} {c:Nat} (h:RG F G σ a w) (hh:(Zt o σ c T K).holds Q) (ho:Onward w w') (hs:∀ b,b<w.heap.size->w'.heap[b]? = w.heap[b]?) (h1:v.oneCell'=true) (hc:∃ ad n,v=.slice ad n c)
 (hT:TO w' (.sl T.k T.n T.f) v λb=>w.heap.size<=b/\b<w'.heap.size):ContE F G a w o.dst K Q (a.put o.dst v) w':=by
 unfold Zt at hh;split at hh
 ·rename_i d hd;split at hh
  ·rename_i hcc;obtain⟨hlt,hfl⟩:=hcc;have hgone:∀ b,w.heap.size<=b->G.ow b=.gone:=by
    intro b hb1;cases hq:G.ow b with
    | gone=>rfl
    | _=>exact absurd (h.lt b (by simp[hq])) o_
   obtain⟨G',hG,hv,hv2,_,hbe,how⟩:=h.retree (64*d) [] T v _ ho (λb hb _=>hs b (h.lt b hb)) (λb hb=>⟨hb.2,.inl (hgone b hb.1)⟩) hT (by simpa using hfl) (by simp);refine⟨_,G',?_,hh,⟨v,rfl⟩,ho,λg hg=>.inl (hs g hg),λg hg=>how rfl (λg hg=>hgone g hg.1) g hg,λb _=>by rw[hbe],λl hl=>hv2 l ?_⟩
   ·rw[hd];obtain⟨ad,n,hc⟩:=hc;exact RG.put (x:=.capd (64*d) c) hG hlt ⟨⟨hv.symm,h1⟩,ad,n,hv.trans hc⟩
   ·have:=hl d hd;omega
  ·exact hh.elim
 ·exact hh.elim
end
end Go.D
namespace Go.D
section
variable {P:Program} {F:Fr P} {G:Gh} {σ:St} {a:Act} {w:World} {o:Oper} {K:St->Out} {Q:Post} {Qx:Exit->Act->World->Prop}
def RG.joinLab (h:RG F G σ a w) {g0 l:Nat} (h0:G.ow g0=.gone) (hlt:g0<w.heap.size):∃ G',RG F G' σ a w/\G'.ow g0=.lab l/\(∀ g,G.ow g≠.gone->G'.ow g=G.ow g)/\G'.hv=G.hv/\G'.be=G.be:=by
 let G':Gh:={ ow:=λg=>if g=g0 then .lab l else G.ow g,be:=G.be,hv:=G.hv }
 have hne:∀ g,G.ow g≠.gone->G'.ow g=G.ow g:=by grind
 have fo:BS w w G G':=⟨λg hg=>⟨rfl,by rw[hne g (by simp[hg]),hg]⟩,λg hg=>by rw[hne g (by simp[hg]),hg]⟩;have mo:∀ m,DT w w G G' m:=λm g hg=>⟨rfl,by rw[hne g (by simp[hg]),hg]⟩
 refine⟨G',?_,by simp[G'],hne,rfl,rfl⟩;constructor
 case tm=>exact λt tv hl=>TV.carry fo (λ_ _=>rfl) (λm _=>mo m) (λ_ _=>rfl) (h.tm t tv hl)
 case bx=>
  intro b cs hl;obtain⟨h1,r,e,h2,h3⟩:=h.bx b cs hl;exact⟨(hne (G.be b) (by rw[h1];simp)).trans h1,r,e,h2,Cells.carry fo (λ_ _=>rfl) (λm _=>mo m) h3⟩
 case hp=>exact λl T hl=>(h.hp l T hl).frame λg hg _=>mo l g hg
 case lt=>
  intro g hg;by_cases e:g=g0
  ·subst e;exact hlt
  ·exact h.lt g λe2=>hg (by simp[G',e,e2])
 case os=>exact h.os
 case tape=>exact h.tape
 case output=>exact h.output
 case size=>exact h.size
 case keep=>
  refine h.keep.next fo (λ_ _=>rfl) λg hg=>?_
  grind
 case fb=>exact h.fb
 case fl=>exact h.fl
 case nt=>exact h.nt
 case df=>exact h.df
def Ac6 (P:Program) (o:Oper) (T:TypeId) (l c:Nat) (x:Operand) (σ:St) (K:St->Out):Out :=
 match P.underlying T,look σ.hp l,o.dst with
 | some (.slice e),some T0,some d=>match P.info? e with
  | some i=>match i.zero with
   | some z=>if(0<i.bytes/\z.cells.size=i.size/\T0.t.width=i.size/\IN T0.t=true)/\T0.n=c/\0<c/\d<σ.nt then
    (match QW σ (σ.eval x) with
     | some (q,⟨t',ys⟩)=>if h:t'=T0.t then .ob q (.ob (IJ (c+ys.length) i.bytes) (K (σ.put d (.v false [.im (some l) T0.t (T0.xs++(h▸ys))])))) else .bad
     | none=>.bad) else .bad
   | none=>.bad
  | none=>.bad
 | _,_,_=>.bad
def AcC {T:TypeId} {s x:Operand} {ts l c:Nat} (h:RG F G σ a w) (ho:o.op=.call { callee:=.builtin .append,args := #[s,x],argTypes := #[T,T]}) (hs:s=.tmp ts) (hg:σ.get ts=.capd l c) (hh:(Ac6 P o T l c x σ K).holds Q):o.wp P a w (ContE F G a w o.dst K Q) Qx:=by
 subst hs;unfold Ac6 at hh;have hxv:=Am h x;have fin:∀ v w',(Builtin.append_ #[T,T] o.type #[a.eval (.tmp ts),a.eval x]).run P w=.ok v w'->(execOp a.eval o).run P w=.ok (.value v) w':=by intro v w' hr;simp[execOp,ho,resolve,invoke,builtin,hr]
 split at hh
 ·rename_i e T0 d hu hT hd;have hsv:=Gf h ts;rw[hg] at hsv;obtain⟨⟨hv,h1v⟩,ad,n,hl⟩:=hsv;split at hh
  ·rename_i i hi;split at hh
   ·rename_i z hz;split at hh
    ·rename_i hc;obtain⟨⟨hby,hzs,hw,hflat⟩,hn0,hc0,hlt⟩:=hc;obtain⟨T0t,T0x⟩:=T0;dsimp only at hw hflat;have hk:0<i.size:=by rw[<-hw];exact EB T0t
     have hTO:=h.hp l _ hT;have hn:n=c:=by
      rcases hTO with⟨⟨ad',e1⟩,e2⟩|⟨g0,off,cap,row,e',GG,e1,hnc,_⟩
      ·rw[hl] at e1;injection e1;omega
      ·rw[hl] at e1;injection e1 with _ e2 e3;omega
     subst hn;have hsl:a.eval (.tmp ts)=.slice ad n n:=hv.trans hl;split at hh
     ·rename_i q t' ys hq;split at hh
      ·rename_i he;dsimp only at he;subst he;obtain⟨hqq,hroom,hh⟩:=hh;dsimp only at hh;have hroom:(n+ys.length)*i.bytes<=140737488355328:=hroom;have h63:n+ys.length<=140737488355328:=aR (Nat.le_mul_of_pos_right _ hby) hroom;have hTR:=hTO.read;have hTR2:TR w (λg=>G.ow g=.lab l) (.sl i.size n λi j=>fcC (cell t' T0x i j)) (.slice ad n n):=by rw[<-hl,<-hn0];have:(⟨t',T0x⟩:Tree).k=i.size:=hw;rw[this] at hTR;exact hTR
       obtain⟨olds,ho1,ho2,ho3⟩:=Lv (P:=P) hk hTR2;obtain⟨S,htr⟩:=Is h hxv hq hqq;rw[DH,hw] at htr;obtain⟨news,hn1,hn2,hn3⟩:=Lv (P:=P) hk htr;have hlen:T0x.length=n:=hn0;have hold:∀ (W:World),(∀ g,g<w.heap.size->W.heap[g]? = w.heap[g]?)->∀ g,G.ow g=.lab l->W.heap[g]? = w.heap[g]?:=λW hW g hg'=>hW g (h.lt g (by simp[hg']))
       by_cases hm:ys.length=0
       ·have hys:ys=[]:=List.eq_nil_of_length_eq_zero hm;subst hys;rcases hTO with⟨_,e2⟩|⟨g0,off,cap,row,e',GG,e1,hnc,hfit,hgr,hF,hcell,_⟩
        ·exact absurd (show n=0 from hn0.symm.trans e2) o_
        ·rw[hl] at e1;injection e1 with e1 e2 e3
         subst e1;have hnews:news=[]:=List.eq_nil_of_length_eq_zero (by rw[hn1.len];simp);subst hnews;have hkk:(⟨t',T0x⟩:Tree).k=i.size:=hw;rw[hkk] at hfit;have hr:=HT T o.type e i hu hi g0 off n n row e' hgr (a.eval x) 0 [] hn1 (by simp) o_ (by simp;rw[<-e3] at hfit;exact hfit);rw[<-hsl] at hr;have hrow:(row.toList.take (off+n*i.size)++[]++row.toList.drop (off+n*i.size+([]:List Value).length)).toArray=row:=by simp
         rw[hrow] at hr;have hsame:∀ g:Nat,(w.setRow g0 row).heap[g]? = w.heap[g]?:=by
          intro g;by_cases e0:g=g0
          ·subst e0;rw[setRow_heap w g row _ e' _ hgr,hgr]
          ·exact setRow_other w g0 g _ e0
         have hon:Onward w (w.setRow g0 row):=⟨rfl,rfl,⟨rfl,DrLe.refl _⟩,by simp⟩;refine D2 (fin _ _ hr) ?_;rw[hd];have h1:RG F G σ a (w.setRow g0 row):=RG.world h hon λg _=>hsame g
         refine⟨_,G,RG.put (x:=.v false [.im (some l) t' (T0x++[])]) h1 hlt ⟨.im (some l) t' (T0x++[]),rfl,?_⟩,hh,⟨_,rfl⟩,hon,λg hg=>.inl (hsame g),λ_ _=>rfl,λ_ _=>rfl,λ_ _=>rfl⟩;show TR _ (λg=>G.ow g=.lab l) (fcC (.l t' (T0x++[]))) _;rw[cz,DH,hlen,hw];exact TR.frame (S:=λg=>G.ow g=.lab l) (S':=λg=>G.ow g=.lab l) (λg hg _=>⟨hsame g,hg⟩) hTR2
       ·have hr:=Hw T o.type e i z hu hi hz ad n n olds ho1 (a.eval x) ys.length news hn1 o_ o_ hroom;rw[<-hsl] at hr;have old:∀ b,b<w.heap.size->(w.drew.alloc (.cells (olds++news++(Builtin.zeroCells z.cells (grownCap w (n+ys.length) n e-(n+ys.length))).toList).toArray e)).heap[b]? = w.heap[b]?:=λb hb=>heap_alloc_old w.drew _ b hb
        have hnew:=heap_alloc_new w.drew (.cells (olds++news++(Builtin.zeroCells z.cells (grownCap w (n+ys.length) n e-(n+ys.length))).toList).toArray e);generalize hW:(w.drew.alloc (.cells (olds++news++(Builtin.zeroCells z.cells (grownCap w (n+ys.length) n e-(n+ys.length))).toList).toArray e))=W at hr old hnew;have hon:Onward w W:=by rw[<-hW];exact⟨rfl,rfl,⟨rfl,DrLe.succ _⟩,by simp⟩
        have hsz:w.heap.size<W.heap.size:=by rw[<-hW];simp
        have h1:=h.world hon λg hg=>old g (h.lt g hg)
        have hg0:G.ow w.heap.size=.gone:=by
         cases hq:G.ow w.heap.size with
         | gone=>rfl
         | _=>exact absurd (h.lt w.heap.size (by simp[hq])) (Nat.lt_irrefl _)
        obtain⟨G2,h2,f2,k2,v2,b2⟩:=h1.joinLab (l:=l) hg0 hsz;refine D2 (fin _ _ hr) ?_;rw[hd];refine⟨_,G2,RG.put (x:=.v false [.im (some l) t' (T0x++ys)]) h2 hlt ⟨.im (some l) t' (T0x++ys),rfl,?_⟩,hh,⟨_,rfl⟩,hon,λg hg=>.inl (old g hg),k2,λb _=>by rw[b2],λl _=>by rw[v2]⟩;show TR _ (λg=>G2.ow g=.lab l) (fcC (.l t' (T0x++ys))) _;rw[DH,ak,hlen,hw];have hge:=grownCap_ge w (n+ys.length) n e;refine⟨_,_,rfl,hge,.inr ⟨w.heap.size,0,_,e,_,rfl,f2,hnew,λi1 hi1 j1 hj1=>?_⟩⟩;have hlo:olds.length=n*i.size:=ho1.len;have hln:news.length=ys.length*i.size:=hn1.len;have hj1':j1<t'.width:=o_
        have hb1:i1*i.size+j1<(i1+1)*i.size:=by rw[Nat.add_mul];omega
        rw[cE];simp only[List.getElem?_toArray,bF];by_cases hlo1:i1<n
        ·obtain⟨u,hu',ht⟩:=ho3 i1 hlo1 j1 hj1;refine⟨u,by rw[cL (List.getElem?_eq_some_iff.1 hu').1];exact hu',?_⟩;obtain⟨u2,hu2⟩:=Ey hflat T0x i1 j1 hj1';rw[Hk o_,hu2];rw[hu2] at ht;exact ht
        ·obtain⟨u,hu',ht⟩:=hn3 (i1-n) (show i1-n<ys.length from o_) j1 hj1;have hmul:i1*i.size=n*i.size+(i1-n)*i.size:=by rw[<-Nat.add_mul];congr 1;omega
         refine⟨u,?_,?_⟩
         ·rw[cV (by rw[hlo];omega),hlo,show i1*i.size+j1-n*i.size=(i1-n)*i.size+j1 from o_,cL (List.getElem?_eq_some_iff.1 hu').1];exact hu'
         ·obtain⟨u2,hu2⟩:=Ey hflat ys (i1-n) j1 hj1';rw[Gj o_,hlen,hu2];rw[hu2] at ht;exact ht
      ·exact hh.elim
     ·exact hh.elim
    ·exact hh.elim
   ·exact hh.elim
  ·exact hh.elim
 ·exact hh.elim
def U6 (P:Program) (ty:TypeId->Option Ty) (o:Oper) (T:TypeId) (s x:Operand) (σ:St) (K:St->Out):Out :=
 match s with
 | .tmp ts=>match σ.get ts with
  | .capd l (c+1)=>Ac6 P o T l (c+1) x σ K
  | _=>VU P ty o T s x σ K
 | _=>VU P ty o T s x σ K
def X6 {ty:TypeId->Option Ty} {T:TypeId} {s x:Operand} (h:RG F G σ a w) (ho:o.op=.call { callee:=.builtin .append,args := #[s,x],argTypes := #[T,T]}) (hh:(U6 P ty o T s x σ K).holds Q):o.wp P a w (ContE F G a w o.dst K Q) Qx:=by
 unfold U6 at hh;split at hh
 ·split at hh
  ·rename_i hg;exact AcC h ho rfl hg hh
  ·exact RY h ho hh
 ·exact RY h ho hh
end
end Go.D
namespace Go.D
section
variable {P:Program} {F:Fr P} {G:Gh} {σ:St} {a:Act} {w:World} {o:Oper} {K:St->Out} {Q:Post} {Qx:Exit->Act->World->Prop}
def PQ:Value->Option FC
 | .bool b=>some (.val (.bool b))
 | .int k n=>some (.val (.int k n))
 | .string s=>some (.val (.string s))
 | .slice none 0 0=>some .nl
 | _=>none
def Kj {v:Value} {c:FC} {N:Nat->Prop} (h:PQ v=some c):TO w (fcC c) v N:=by
 unfold PQ at h;split at h<;>simp at h<;>subst h
 ·exact⟨rfl,rfl⟩
 ·exact⟨rfl,rfl⟩
 ·exact⟨rfl,rfl⟩
 ·rfl
def IF:List Value->Option (List FC)
 | []=>some []
 | v::vs=>match PQ v,IF vs with
  | some c,some cs=>some (c::cs)
  | _,_=>none
def Hv {vs:List Value} {cs:List FC} (h:IF vs=some cs):cs.length=vs.length/\∀ (j:Nat) (v:Value),vs[j]? = some v->PQ v=some (cs.getD j .nl):=by
 induction vs generalizing cs with
 | nil=>simp only[IF,Q_] at h;subst h;simp
 | cons v vs ih=>
  simp only[IF] at h;grind
def YV (P:Program) (ty:TypeId->Option Ty) (o:Oper) (T:TypeId) (l c:Operand) (σ:St) (K:St->Out):Out :=
 match P.underlying T with
 | some (.slice e)=>match P.info? e,ty e with
  | some i,some t=>match i.zero with
   | some z=>match IF z.cells.toList,(σ.eval l).scal,(σ.eval c).scal with
    | some zs,some (.int _ n),some (.int _ m)=>match dec t zs with
     | some x=>if t.width=i.size/\z.cells.size=i.size then .ob (n=m/\0<=n/\(i.bytes:Int)*n<=140737488355328/\n<=140737488355328) (M9 o σ (64*o.dst.getD 0) [] ⟨t,List.replicate n.toNat x⟩ K) else .bad
     | none=>.bad
    | _,_,_=>.bad
   | none=>.bad
  | _,_=>.bad
 | _=>.bad
def AcO {ty:TypeId->Option Ty} {T:TypeId} {l c:Operand} (h:RG F G σ a w) (ho:o.op=.makeSlice T l c) (hh:(YV P ty o T l c σ K).holds Q):o.wp P a w (ContE F G a w o.dst K Q) Qx:=by
 unfold YV at hh;split at hh
 ·rename_i e hu;split at hh
  ·rename_i i t hi hty;split at hh
   ·rename_i z hz;split at hh
    ·rename_i zs k1 n k2 m hzs hl hm;split at hh
     ·rename_i x hx;split at hh
      ·rename_i hc;obtain⟨hw,hsz⟩:=hc;obtain⟨⟨rfl,h0,hb,h63⟩,hh⟩:=hh;have hr:=run_make (P:=P) w T e i z hu hi hz k1 k2 n n h0 (Int.le_refl _) o_ o_;have e1:(execOp a.eval o).run P w=.ok (.value (.slice (some ⟨w.heap.size,0,none⟩) n.toNat n.toNat)) (w.alloc (.cells (madeCells z.cells (n.toNat*i.size)) e)):=by simp[execOp,ho,(CP (Am h l) hl).1,(CP (Am h c) hm).1,hr]
       have old:∀ b,b<w.heap.size->(w.alloc (.cells (madeCells z.cells (n.toNat*i.size)) e)).heap[b]? = w.heap[b]?:=λb hb=>heap_alloc_old w _ b hb
       refine D2 e1 (RH h hh ⟨rfl,rfl,⟨rfl,by first|exact DrLe.refl _|exact DrLe.succ _|exact DrLe.add _ _⟩,by simp⟩ old rfl ?_);have hlen:(⟨t,List.replicate n.toNat x⟩:Tree).n=n.toNat:=by simp[Tree.n]
       have hkk:(⟨t,List.replicate n.toNat x⟩:Tree).k=i.size:=hw;rw[hlen,hkk];refine .inr ⟨w.heap.size,0,n.toNat,_,e,λ_ _ _=>False,rfl,Y_ _,?_,heap_alloc_new w _,⟨Y_ _,by simp⟩,λi' hi' j hj=>?_,by simp,by simp⟩
       ·simp[size_madeCells]
       ·have hlt:i'*i.size+j<n.toNat*i.size:=by have:(i'+1)*i.size<=n.toNat*i.size:=da _ hi';grind
        have hmod:(i'*i.size+j) % z.cells.size=j:=by rw[hsz,Nat.mul_comm,Nat.mul_add_mod,Nat.mod_eq_of_lt hj]
        have hjz:j<z.cells.size:=o_
        refine⟨z.cells[j],?_,?_⟩
        ·simp[madeCells,hlt,hmod,hjz]
        ·have hcell:cell t (List.replicate n.toNat x) i' j=(enc t x).getD j .nl:=Io (by grind) j;simp only[Tree.f];rw[hcell];exact TO.le ((dec_ok t zs x hx).get.2 j).le (Kj ((Hv hzs).2 j _ (by simp)))
      ·exact hh.elim
     ·exact hh.elim
    ·exact hh.elim
   ·exact hh.elim
  ·exact hh.elim
 ·exact hh.elim
def AfA (l:List Value):∀ (s off:Nat) (cells:Array Value),(((l.zipIdx s).foldl (λ(cs:Array Value) (p:Value×Nat)=>cs.setIfInBounds (off+p.2) p.1) cells).size=cells.size) /\
 ∀ x,off+s+l.length<=cells.size->((l.zipIdx s).foldl (λ(cs:Array Value) (p:Value×Nat)=>cs.setIfInBounds (off+p.2) p.1) cells)[x]? = if off+s<=x/\x<off+s+l.length then l[x-(off+s)]? else cells[x]?:=by
 induction l with
 | nil=>
  intro s off cells;refine⟨rfl,λx hx=>?_⟩;rw[F_ (by simp)];rfl
 | cons v l ih=>
  intro s off cells;simp;obtain⟨h1,h2⟩:=ih (s+1) off (cells.setIfInBounds (off+s) v);grind
def Mw (v cells:Array Value) (off:Nat) (h:off+v.size<=cells.size) :
 v.zipIdx.foldl (λcs (c,j)=>cs.setIfInBounds (off+j) c) cells=(cells.toList.take off++v.toList++cells.toList.drop (off+v.toList.length)).toArray:=by
 have e:v.zipIdx.foldl (λcs (c,j)=>cs.setIfInBounds (off+j) c) cells=(v.toList.zipIdx 0).foldl (λ(cs:Array Value) (p:Value×Nat)=>cs.setIfInBounds (off+p.2) p.1) cells:=by rw[<-Array.foldl_toList];simp
 rw[e];obtain⟨h1,h2⟩:=AfA v.toList 0 off cells;apply Array.ext_getElem?;intro x;rw[h2 x o_];simp only[Nat.add_zero,fD,List.getElem?_toArray];rw[bF];by_cases hlo:x<off
 ·rw[F_ o_,cL (by grind)];simp[hlo]
 ·have e1:(List.take off cells.toList).length=off:=by simp;omega
  rw[cV o_,e1];by_cases hin:x<off+v.size
  ·rw[G_ ⟨o_,hin⟩,cL (by grind)]
  ·rw[F_ o_,cV (by grind)];simp only[List.getElem?_drop,fD,Array.getElem?_toList];congr 1;omega
def GC (P:Program) (fs:Array Field):List Cell->List (Nat×TV)->Option (List Cell)
 | cells,[]=>some cells
 | cells,(j,.v _ cs)::rest=>match fs[j]? with
  | some f=>match P.info? f.type with
   | some i=>if cs.length=i.size/\f.offset+cs.length<=cells.length then GC P fs (cells.take f.offset++cs++cells.drop (f.offset+cs.length)) rest else none
   | none=>none
  | none=>none
 | _,_=>none
def QN {fs:Array Field} {places:Array (Nat×Nat)} (hpl:∀ (j:Nat) (f:Field) (i:TypeInfo),fs[j]? = some f->P.info? f.type=some i->places[j]? = some (f.offset,i.size)) :
 ∀ (ps:List (Nat×TV)) (vs:List (Nat×Value)) (cells:List Cell) (cur:Array Value) (cs:List Cell),AP w G cells cur->vs.length=ps.length->(∀ (j:Nat) (p:Nat×TV),ps[j]? = some p->∃ v,vs[j]? = some (p.1,v)/\TVR w G p.2 v) ->
  GC P fs cells ps=some cs->∃ r,Instr.fill (places[·]?) cur vs=some r/\AP w G cs r:=by
 intro ps
 induction ps with
 | nil=>
  intro vs cells cur cs hc hl _ hb;simp only[GC,Q_] at hb;subst hb;have:vs=[]:=List.eq_nil_of_length_eq_zero o_;subst this;exact⟨cur,rfl,hc⟩
 | cons p ps ih=>
  intro vs cells cur cs hc hl hv hb;obtain⟨j,tv⟩:=p;obtain⟨v,hv0,htv⟩:=hv 0 (j,tv) rfl;cases vs with
  | nil=>simp at hl
  | cons q vs=>
   simp at hv0;subst hv0;cases tv<;>simp only[GC,reduceCtorEq] at hb;split at hb
   ·rename_i f hf;split at hb
    ·rename_i i hi;split at hb
     ·rename_i hcond;have hcs0:=Ii htv;have hp:=hpl j f i hf hi;simp only[Instr.fill,hp];have hsz:v.cells.size=i.size:=by rw[hcs0.1];exact hcond.1
      have hle:f.offset+v.cells.size<=cur.size:=by rw[hc.1,hcs0.1];exact hcond.2
      simp only[ne_eq,hsz,not_true_eq_false,decide_false,Bool.false_or,av];rw[F_ o_];rw[Mw v.cells cur f.offset hle];exact ih vs _ _ cs (HF hc hcs0 hcond.2) (by simpa using hl) (λj' p' hp'=>by simpa using hv (j'+1) p' (by grind)) hb
     ·simp at hb
    ·simp at hb
   ·simp at hb
def Um (P:Program) (o:Oper) (T:TypeId) (parts:Array (Nat×Operand)) (σ:St) (K:St->Out):Out :=
 match P.underlying T,zeroCells P T with
 | some (.struct fs),some zs=>if fs.toList.all (λf=>(P.info? f.type).isSome) then(match GC P fs zs (parts.toList.map λp=>(p.1,σ.eval p.2)) with
  | some cs=>ret σ o (.v true cs) K
  | none=>.bad) else .bad
 | some (.array _ e),some zs=>bif parts.toList.isEmpty&&(P.info? e).isSome then ret σ o (.v true zs) K else .bad
 | _,_=>.bad
def run_places (fs:List Field) (h:fs.all (λf=>(P.info? f.type).isSome)=true):∃ ps:List (Nat×Nat),(fs.mapM λf=>do pure (f.offset,<-sizeOf f.type):Sem (List (Nat×Nat))).run P w=.ok ps w /\
 ∀ (j:Nat) (f:Field) (i:TypeInfo),fs[j]? = some f->P.info? f.type=some i->ps[j]? = some (f.offset,i.size):=by
 induction fs with
 | nil=>exact⟨[],by simp,by simp⟩
 | cons f fs ih=>
  simp only[List.all_cons,S_] at h;obtain⟨ps,hr,hp⟩:=ih h.2;obtain⟨i,hi⟩:=Option.isSome_iff_exists.1 h.1;refine⟨(f.offset,i.size)::ps,?_,λj f' i' hj hi'=>?_⟩
  ·have hone:(do pure (f.offset,<-sizeOf f.type):Sem (Nat×Nat)).run P w=.ok (f.offset,i.size) w:=by simp[sizeOf,typeInfo,hi]
   rw[List.mapM_cons,Sem.run_bind,hone,Result.andThen_ok,Sem.run_bind,hr,Result.andThen_ok];rfl
  ·grind
def XS {T:TypeId} {parts:Array (Nat×Operand)} (h:RG F G σ a w) (ho:o.op=.build T parts) (hh:(Um P o T parts σ K).holds Q):o.wp P a w (ContE F G a w o.dst K Q) Qx:=by
 unfold Um at hh;split at hh
 ·rename_i fs zs hu hz;split at hh
  ·rename_i hall;split at hh
   ·rename_i cs hb;obtain⟨i,z,hi,hzz,hcz⟩:=HH (w:=w) (G:=G) hz;obtain⟨pl,hpr,hpp⟩:=run_places (P:=P) (w:=w) fs.toList hall;have hpr':(fs.mapM λf=>do pure (f.offset,<-sizeOf f.type):Sem (Array (Nat×Nat))).run P w=.ok pl.toArray w:=by rw[Array.mapM_eq_mapM_toList];simp_all
    obtain⟨r,hfill,hr⟩:=QN (P:=P) (w:=w) (G:=G) (fs:=fs) (places:=pl.toArray) (λj f i hf hi=>by grind)
     (parts.toList.map λp=>(p.1,σ.eval p.2)) (parts.toList.map λp=>(p.1,a.eval p.2)) zs z.cells cs hcz (by simp) (λj p hj=>by
      rw[cp] at hj;cases hq:parts.toList[j]? with
      | none=>simp[hq] at hj
      | some q=>
       simp only[hq,aY,Q_] at hj;subst hj;exact⟨a.eval q.2,by grind,Am h q.2⟩) hb
    refine Ax h hh ⟨r,rfl,hr⟩ ?_;have e1:(parts.map λ(i,x)=>(i,a.eval x)).toList=parts.toList.map λp=>(p.1,a.eval p.2):=by simp
    simp only[execOp,ho,Instr.build,zeroValue,typeInfo,Sem.run_bind,run_program,Result.andThen_ok,hi,hzz,Sem.run_pure,run_underlying hu,hpr',e1,hfill]
   ·exact hh.elim
  ·exact hh.elim
 ·rename_i len e zs hu hz;cases hc:(parts.toList.isEmpty&&(P.info? e).isSome) with
  | false=>rw[hc,cA] at hh;exact hh.elim
  | true=>
   rw[hc,aO] at hh;rw[S_] at hc;obtain⟨i,z,hi,hzz,hcz⟩:=HH (w:=w) (G:=G) hz;obtain⟨ie,hie⟩:=Option.isSome_iff_exists.1 hc.2;have hp0:parts = #[]:=by grind
   subst hp0;refine Ax h hh ⟨z.cells,rfl,hcz⟩ ?_;simp[execOp,ho,Instr.build,zeroValue,sizeOf,typeInfo,hi,hzz,hie,run_underlying hu,Instr.fill]
 ·exact hh.elim
end
end Go.D
namespace Go.D
section
variable {P:Program} {F:Fr P} {G:Gh} {σ:St} {a:Act} {w:World} {o:Oper} {K:St->Out} {Q:Post} {Qx:Exit->Act->World->Prop}
def ZD {L N:List Value} {A x:Nat} (h:A+N.length<=L.length):(L.take A++N++L.drop (A+N.length))[x]? = if x<A then L[x]? else if x<A+N.length then N[x-A]? else L[x]?:=by
 grind
def LR {α:Type} (xs:List α) (e:Nat) (ys:List α):List α:=xs.take e++ys++xs.drop (e+ys.length)
def W0 {α:Type} {xs ys:List α} {e:Nat} (h:e+ys.length<=xs.length):(LR xs e ys).length=xs.length:=by
 simp only[LR,ak,cX,fP];omega
def AbC {α:Type} [Inhabited α] {xs ys:List α} {e i:Nat} (h:e+ys.length<=xs.length):(LR xs e ys).getD i default=if e<=i/\i<e+ys.length then ys.getD (i-e) default else xs.getD i default:=by
 simp only[LR,aV,bF];grind
def Zc {t:Ty} {xs ys:List (El t)} {e i j:Nat} (h:e+ys.length<=xs.length):cell t (LR xs e ys) i j=if e<=i/\i<e+ys.length then cell t ys (i-e) j else cell t xs i j:=by
 unfold cell;rw[AbC h];split<;>rfl
def Ahh (σ:St) (l:Nat) (T:Tree):St:=({ σ with hp:=(l,T)::σ.hp.filter λp=>!([]:List Nat).contains p.1 }.kill []).loose [l]
def VE (h:RG F G σ a w) {l e0:Nat} {T0:Tree} (hl:look σ.hp l=some T0) (hf:IN T0.t=true) {g off cap:Nat} (hv:G.hv l=.slice (some ⟨g,off,none⟩) T0.n cap) (h0:0<T0.n) {ys:List (El T0.t)} {news:List Value}
 (hle:e0+ys.length<=T0.n) (hlen:news.length=ys.length*T0.k) (hnews:∀ i,i<ys.length->∀ j,j<T0.k->∃ u,news[i*T0.k+j]? = some u/\∃ S,TR w S (fcC (cell T0.t ys i j)) u) :
 ∃ row e,w.heap[g]? = some (.cells row e (0,0))/\off+e0*T0.k+news.length<=row.size/\T0.n<=cap/\∃ G',RG F G' (Ahh σ l ⟨T0.t,LR T0.xs e0 ys⟩) a (w.setRow g (row.toList.take (off+e0*T0.k)++news++row.toList.drop (off+e0*T0.k+news.length)).toArray)/\G'.hv=G.hv:=by
 rcases h.hp l T0 hl with⟨_,hz⟩|⟨g',off',cap',row,e,GG,hv2,hnc,hcap,hg,hF,hrow,hsub,hdis⟩
 ·omega
 ·rw[hv] at hv2;injection hv2 with e1 e2 e3
  injection e1 with e1
  injection e1 with e4 e5
  subst e4;subst e5;subst e3;have hk:T0.n=T0.xs.length:=rfl;have b1:(e0+ys.length)*T0.k<=T0.n*T0.k:=da _ hle;have b2:T0.n*T0.k<=cap*T0.k:=da _ hnc;rw[Nat.add_mul] at b1;have bound:off+e0*T0.k+news.length<=row.size:=o_
  refine⟨row,e,hg,bound,hnc,?_⟩;have hlist:off+e0*T0.k+news.length<=row.toList.length:=o_
  have hTn:(⟨T0.t,LR T0.xs e0 ys⟩:Tree).n=T0.n:=W0 hle;have hTk:(⟨T0.t,LR T0.xs e0 ys⟩:Tree).k=T0.k:=rfl;obtain⟨G',hG',hh,_⟩:=h.setTree (w':=w.setRow g (row.toList.take (off+e0*T0.k)++news++row.toList.drop (off+e0*T0.k+news.length)).toArray) l [] T0 ⟨T0.t,LR T0.xs e0 ys⟩ hl (by simp) (by simp) ⟨rfl,rfl,⟨rfl,by first|exact DrLe.refl _|exact DrLe.succ _|exact DrLe.add _ _⟩,by simp⟩
   (λb hb hbl=>setRow_other w g b _ λe=>hbl (e▸hF)) (by
    refine .inr ⟨g,off,cap,_,e,λ_ _ _=>False,by rw[hTn];exact hv,o_,?_,setRow_heap w g row _ e _ hg,.inl hF,?_,by simp,by simp⟩
    ·rw[hTk];simp;omega
    ·intro i hi j hj;rw[hTn] at hi;rw[hTk] at hj ⊢;simp only[Tree.f,List.getElem?_toArray];rw[Zc hle,ZD hlist];have b3:(i+1)*T0.k<=T0.n*T0.k:=da _ hi;by_cases hin:e0<=i/\i<e0+ys.length
     ·rw[G_ hin];obtain⟨u,hu,S,ht⟩:=hnews (i-e0) o_ j hj;have c2:(i-e0+1)*T0.k<=ys.length*T0.k:=da _ o_;have c3:(i-e0)*T0.k+e0*T0.k=i*T0.k:=by rw[<-Nat.add_mul];congr 1;omega
      rw[Nat.add_mul] at c2;rw[F_ o_,G_ o_];refine⟨u,?_,?_⟩
      ·rw[<-hu];congr 1;omega
      ·obtain⟨u2,hu2⟩:=Ey hf ys (i-e0) j hj;rw[hu2] at ht ⊢;exact ht
     ·rw[F_ hin];obtain⟨u,hu,ht⟩:=hrow i hi j hj;have ht2:TO (w.setRow g (row.toList.take (off+e0*T0.k)++news++row.toList.drop (off+e0*T0.k+news.length)).toArray) (fcC (cell T0.t T0.xs i j)) u (λ_=>False):=by obtain⟨u2,hu2⟩:=Ey hf T0.xs i j hj;have ht':TO w (fcC (cell T0.t T0.xs i j)) u (GG i j):=ht;rw[hu2] at ht' ⊢;exact ht'
      refine⟨u,?_,ht2⟩;by_cases hlo:i<e0
      ·have c1:(i+1)*T0.k<=e0*T0.k:=da _ hlo;rw[Nat.add_mul] at c1;rw[G_ o_];simpa using hu
      ·have c1:(e0+ys.length)*T0.k<=i*T0.k:=da _ o_;rw[Nat.add_mul] at c1;rw[F_ o_,F_ o_];simpa using hu)
  exact⟨G',hG',hh⟩
def Alf (o:Oper) (σ:St) (x:TV) (K:St->Out):Out:=match o.dst with
 | some d=>bif decide (d<σ.nt) then K (σ.put d x) else .bad
 | none=>K σ
def UR {w':World} {x:TV} {v:Value} (h:RG F G σ a w') (hh:(Alf o σ x K).holds Q) (hx:TVR w' G x v):Lq F K Q (a.put o.dst v) w':=by
 unfold Alf at hh;split at hh
 ·rename_i d hd;cases hc:decide (d<σ.nt) with
  | false=>rw[hc,cA] at hh;exact hh.elim
  | true=>
   rw[hc,aO] at hh;rw[hd];exact⟨_,⟨G,RG.put h (by grind) hx⟩,hh⟩
 ·rename_i hd;rw[hd];exact⟨_,⟨G,h⟩,hh⟩
def UN (P:Program) (o:Oper) (T:TypeId) (l k lo m k2 lo2 m2:Nat) (σ:St) (K:St->Out):Out :=
 match P.underlying T with
 | some (.slice e)=>match P.info? e,look σ.hp l with
  | some i,some T0=>if T0.k=i.size/\k=i.size/\k2=i.size/\IN T0.t=true then
   .ob (lo=0/\0<T0.n/\lo2+m2<=T0.n/\m+m2<=T0.n) (Alf o (Ahh σ l ⟨T0.t,LR T0.xs m (cut T0.xs lo2 m2)⟩) (.v false [.sub l k 0 (m+m2)]) K) else .bad
  | _,_=>.bad
 | _=>.bad
def XD {T:TypeId} {s x:Operand} {l k lo m k2 lo2 m2:Nat} (h:RG F G σ a w) (ho:o.op=.call { callee:=.builtin .append,args := #[s,x],argTypes := #[T,T]}) (hs:σ.eval s=.v false [.sub l k lo m]) (hx:σ.eval x=.v false [.sub l k2 lo2 m2])
 (hh:(UN P o T l k lo m k2 lo2 m2 σ K).holds Q):o.wp P a w (Lq F K Q) Qx:=by
 unfold UN at hh;have hsv:=Am h s;have hxv:=Am h x;rw[hs] at hsv;obtain⟨c,hc,hcr⟩:=hsv;injection hc with hc
 subst hc;split at hh
 ·rename_i e hu;split at hh
  ·rename_i i T0 hi hl;split at hh
   ·rename_i hc;obtain⟨hk,hk1,hk2,hf⟩:=hc;obtain⟨⟨hlo,h0,hle2,hle⟩,hh⟩:=hh;subst hlo;rcases hcr with⟨ad,e1,_⟩|⟨g,off,mm,cap,off',hv,hlc,hav,hof⟩
    ·rcases h.hp l T0 hl with⟨_,hz⟩|⟨g,off,cap,row,e',GG,hv2,_⟩
     ·omega
     ·rw[e1] at hv2;injection hv2 with _ e2 _;omega
    ·have hmm:mm=T0.n:=by
      rcases h.hp l T0 hl with⟨_,hz⟩|⟨g,off,cap,row,e',GG,hv2,_⟩
      ·omega
      ·rw[hv] at hv2;injection hv2
     subst hmm;have hsrc:QW σ (σ.eval x)=some (lo2+m2<=T0.n,⟨T0.t,cut T0.xs lo2 m2⟩):=by rw[hx];simp only[QW,hl];rw[G_ o_]
     obtain⟨S,htr⟩:=Is h hxv hsrc hle2;have hcl:(cut T0.xs lo2 m2).length=m2:=PV hle2;rw[DH] at htr;have hkt:T0.t.width=i.size:=hk;rw[hkt,hcl] at htr;obtain⟨news,hn1,hn2,hn3⟩:=Lv (P:=P) (by rw[<-hkt];exact EB _) htr;obtain⟨row,er,hg,hb,hnc,G',hG',hh2⟩:=VE (e0:=m) (ys:=cut T0.xs lo2 m2) (news:=news) h hl hf hv h0 o_ (by rw[hcl,hk];exact hn1.len) (by intro i' hi' j' hj';rw[hcl] at hi';rw[hk] at hj' ⊢;obtain⟨u,hu,ht⟩:=hn3 i' hi' j' hj';exact⟨u,hu,S,ht⟩)
     have hoff:off'=off:=o_
     subst hoff;have hrun:=HT (P:=P) (w:=w) T o.type e i hu hi g off' m cap row er hg (a.eval x) m2 news hn1 hn2 o_ (by grind);have hav':a.eval s=.slice (some ⟨g,off',none⟩) m cap:=o_
     refine D2 (v:=.slice (some ⟨g,off',none⟩) (m+m2) cap) ?_ (UR (v:=.slice (some ⟨g,off',none⟩) (m+m2) cap) hG' hh ⟨_,rfl,.inr ⟨g,off',T0.n,cap,off',by grind,o_,by simp,.inl (by simp)⟩⟩);rw[hk];simp[execOp,ho,resolve,invoke,builtin,hav',hrun]
   ·exact hh.elim
  ·exact hh.elim
 ·exact hh.elim
def Ahn (σ:St):TV->Option (Nat×Nat×Nat×Nat)
 | .v false [.ref l]=>match look σ.hp l with
  | some T=>some (l,T.k,0,T.n)
  | none=>none
 | .v false [.sub l k lo n]=>some (l,k,lo,n)
 | _=>none
def Afx {x:TV} {v:Value} {l k lo n:Nat} (h:RG F G σ a w) (hx:TVR w G x v) (hw:Ahn σ x=some (l,k,lo,n)):Alh (G.hv l) k lo n v:=by
 unfold Ahn at hw;split at hw
 ·split at hw
  ·rename_i T hT;obtain⟨rfl,rfl,rfl,rfl⟩:=hw;obtain⟨c,hc,hcr⟩:=hx;injection hc with hc
   subst hc;rcases h.hp _ T hT with⟨⟨ad,e1⟩,e2⟩|⟨g,off,cap,row,e',GG,hv,hnc,_⟩
   ·exact .inl ⟨ad,e1,rfl,e2,by rw[hcr.1,e1]⟩
   ·exact .inr ⟨g,off,T.n,cap,off,hv,o_,by rw[hcr.1,hv];simp,.inl (by simp)⟩
  ·cases hw
 ·obtain⟨rfl,rfl,rfl,rfl⟩:=hw;obtain⟨c,hc,hcr⟩:=hx;injection hc with hc
  subst hc;exact hcr
 ·cases hw
def U7 (P:Program) (o:Oper) (T:TypeId) (x:Operand) (σ:St) (K:St->Out):Out :=
 match P.underlying T,Ahn σ (σ.eval x) with
 | some (.slice e),some (l,k,lo,n)=>match P.info? e,look σ.hp l with
  | some i,some T0=>match i.zero with
   | some z=>match IF z.cells.toList with
    | some zs=>match dec T0.t zs with
     | some x0=>if T0.k=i.size/\k=i.size/\z.cells.size=i.size/\IN T0.t=true then
      .ob (lo+n<=T0.n) (Alf o (Ahh σ l ⟨T0.t,LR T0.xs lo (List.replicate n x0)⟩) (.tup []) K) else .bad
     | none=>.bad
    | none=>.bad
   | none=>.bad
  | _,_=>.bad
 | _,_=>.bad
def Vm {z:Array Value} {n k i j:Nat} (hz:z.size=k) (hi:i<n) (hj:j<k):(Builtin.zeroCells z n).toList[i*k+j]? = some z[j]!:=by
 have hlt:i*k+j<n*k:=by have:(i+1)*k<=n*k:=da _ hi;grind
 have hm:(i*k+j) % k=j:=by rw[Nat.mul_comm,Nat.mul_add_mod,Nat.mod_eq_of_lt hj]
 simp[Builtin.zeroCells,hz,hlt,hm]
def Xo {T:TypeId} {x:Operand} (h:RG F G σ a w) (ho:o.op=.call { callee:=.builtin .clear,args := #[x],argTypes := #[T]}) (hh:(U7 P o T x σ K).holds Q):o.wp P a w (Lq F K Q) Qx:=by
 unfold U7 at hh;have hxv:=Am h x;split at hh
 ·rename_i e l k lo n hu hw;have hs:=Afx h hxv hw;split at hh
  ·rename_i i T0 hi hl;split at hh
   ·rename_i z hz;split at hh
    ·rename_i zs hzs;split at hh
     ·rename_i x0 hx0;split at hh
      ·rename_i hc;obtain⟨hk,hk1,hzk,hf⟩:=hc;obtain⟨hle,hh⟩:=hh;have fin:∀ w',(Builtin.clear_ #[T] o.type #[a.eval x]).run P w=.ok (.tuple #[]) w'->(execOp a.eval o).run P w=.ok (.value (.tuple #[])) w':=by intro w' hr;simp[execOp,ho,resolve,invoke,builtin,hr]
       have htup:∀ (G':Gh) (w':World),TVR w' G' (.tup []) (.tuple #[]):=λG' w'=>⟨#[],rfl,rfl,by simp⟩
       by_cases hn:n=0
       ·subst hn;have hsame:LR T0.xs lo (List.replicate 0 x0)=T0.xs:=by simp[LR]
        rw[hsame] at hh;obtain⟨G',hG',_⟩:=h.setTree (w':=w) l [] T0 ⟨T0.t,T0.xs⟩ hl (by simp) (by simp) ⟨rfl,rfl,⟨rfl,by first|exact DrLe.refl _|exact DrLe.succ _|exact DrLe.add _ _⟩,Y_ _⟩ (λ_ _ _=>rfl) ((h.hp l T0 hl).frame λg hg _=>⟨rfl,.inl hg⟩);refine D2 (fin w ?_) (UR hG' hh (htup _ _));rcases hs with⟨ad,_,_,_,e4⟩|⟨g,off,mm,cap,off',_,_,e4,_⟩
        ·rw[e4];cases ad<;>simp[Builtin.clear_,run_underlying hu]
        ·rw[e4];simp[Builtin.clear_,run_underlying hu]
       ·rcases hs with⟨ad,_,_,e3,e4⟩|⟨g,off,mm,cap,off',hv,hlc,hav,hof⟩
        ·exact absurd e3 hn
        ·have hmm:mm=T0.n:=by
          rcases h.hp l T0 hl with⟨_,hz⟩|⟨g,off,cap,row,e',GG,hv2,_⟩
          ·omega
          ·rw[hv] at hv2;injection hv2
         subst hmm;obtain⟨row,er,hg,hb,hnc,G',hG',hh2⟩:=VE (e0:=lo) (ys:=List.replicate n x0) (news:=(Builtin.zeroCells z.cells n).toList) h hl hf hv o_ (by grind) (by simp[size_zeroCells,hzk,hk]) (by
          intro i' hi' j' hj';rw[List.length_replicate] at hi';rw[hk] at hj' ⊢;have hjz:j'<z.cells.size:=o_
          refine⟨_,Vm hzk hi' hj',λ_=>True,?_⟩;have hcell:cell T0.t (List.replicate n x0) i' j'=(enc T0.t x0).getD j' .nl:=Io (by simp[hi']) j';rw[hcell];have e1:z.cells[j']! = z.cells[j']:=by simp[hjz]
          rw[e1];exact(TO.le ((dec_ok T0.t zs x0 hx0).get.2 j').le (Kj (N:=λ_=>True) ((Hv hzs).2 j' _ (by simp[hjz])))).read)
         have hoff:off'=off+lo*T0.k:=by
          rcases hof with e1|⟨e1,_⟩
          ·rw[e1,hk1,hk]
          ·omega
         have h1:∀ v∈(Builtin.zeroCells z.cells n).toList,v.oneCell'=true:=by
          intro v hv';obtain⟨q,hq⟩:=List.getElem?_of_mem hv';have hlt:q<n*i.size:=by have:=(List.getElem?_eq_some_iff.1 hq).1;simpa [size_zeroCells,hzk] using this
          have hpos:0<i.size:=by grind
          have h2:q / i.size<n:=(Nat.div_lt_iff_lt_mul hpos).2 hlt;have h3:q % i.size<i.size:=Nat.mod_lt _ hpos;have h4:=Vm hzk h2 h3;have e2:q / i.size*i.size+q % i.size=q:=by have:=Nat.div_add_mod q i.size;rw[Nat.mul_comm] at this;omega
          rw[e2,hq] at h4;injection h4 with h4
          rw[h4];have hjz:q % i.size<z.cells.size:=o_
          have e1:z.cells[q % i.size]! = z.cells[q % i.size]:=by simp[hjz]
          rw[e1];exact(Kj (w:=w) (N:=λ_=>True) ((Hv hzs).2 (q % i.size) z.cells[q % i.size] (by simp[hjz]))).read.one
         have hst:=run_storeCells_at P g off' er (Builtin.zeroCells z.cells n).toList 0 row w hg o_ h1;rw[<-hoff] at hG';refine D2 (fin _ ?_) (UR hG' hh (htup _ _));obtain⟨n',rfl⟩:=Nat.exists_eq_succ_of_ne_zero hn;rw[hav];simp[Builtin.clear_,run_underlying hu,zeroValue,typeInfo,hi,hz,hst]
      ·exact hh.elim
     ·exact hh.elim
    ·exact hh.elim
   ·exact hh.elim
  ·exact hh.elim
 ·exact hh.elim
end
end Go.D
