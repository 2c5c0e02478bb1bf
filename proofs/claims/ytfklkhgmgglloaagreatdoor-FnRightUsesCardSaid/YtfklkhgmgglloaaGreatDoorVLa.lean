/-
  The library of the proof, part 1.
-/
import Derived.Calls
import Derived.Orders
import Derived.Below
import Derived.Laws.AppendOwn
import Derived.Laws.MakeOwn
import Derived.KernelRfl
import Derived.ChangeAgain
import Derived.Lib.LaidTab
import Derived.Lib.ItoaNum
import Derived.Laws.Entries
import Derived.Laws.StructEq
import Derived.Laws.Append
import Derived.Laws.BytesString
import Derived.Laws.Cells
set_option linter.defProp false
set_option linter.unusedVariables false
set_option linter.unusedSimpArgs false
def R_:type_of% @Option.some.injEq:=@Option.some.injEq
def T_:type_of% @Bool.and_eq_true:=@Bool.and_eq_true
def al:type_of% @List.length_append:=@List.length_append
def aH:type_of% @List.getElem?_eq_getElem:=@List.getElem?_eq_getElem
def ah:type_of% @List.mem_append:=@List.mem_append
def F_:type_of% @if_neg:=@if_neg
def bB:type_of% @List.getD_eq_getElem?_getD:=@List.getD_eq_getElem?_getD
def G_:type_of% @if_pos:=@if_pos
def X_:type_of% @Nat.le_refl:=@Nat.le_refl
def aw:type_of% @List.length_cons:=@List.length_cons
def az:type_of% @decide_eq_true_eq:=@decide_eq_true_eq
def aQ:type_of% @ByteArray.size_append:=@ByteArray.size_append
def au:type_of% @List.mem_cons:=@List.mem_cons
def aM:type_of% @List.all_eq_true:=@List.all_eq_true
def cw:type_of% @decide_eq_false_iff_not:=@decide_eq_false_iff_not
def cx:type_of% @List.drop_of_length_le:=@List.drop_of_length_le
def bK:type_of% @List.append_assoc:=@List.append_assoc
def bz:type_of% @List.length_nil:=@List.length_nil
def bC:type_of% @Option.map_some:=@Option.map_some
def bI:type_of% @List.any_eq_true:=@List.any_eq_true
def cN:type_of% @List.getElem?_append_left:=@List.getElem?_append_left
def cC:type_of% @List.take_of_length_le:=@List.take_of_length_le
def cX:type_of% @List.getElem?_append_right:=@List.getElem?_append_right
def bN:type_of% @Nat.le_add_right:=@Nat.le_add_right
def aY:type_of% @List.map_cons:=@List.map_cons
def aP:type_of% @Nat.le_trans:=@Nat.le_trans
def cD:type_of% @Bool.false_eq_true:=@Bool.false_eq_true
def cz:type_of% @List.getElem?_map:=@List.getElem?_map
def db:type_of% @ByteArray.size_extract:=@ByteArray.size_extract
def cy:type_of% @List.cons_append:=@List.cons_append
def dc:type_of% @List.take_append_drop:=@List.take_append_drop
def cY:type_of% @List.mem_cons_of_mem:=@List.mem_cons_of_mem
def de:type_of% @Nat.mul_le_mul_right:=@Nat.mul_le_mul_right
def cO:type_of% @Bool.not_eq_true':=@Bool.not_eq_true'
def bM:type_of% @List.mem_map:=@List.mem_map
def cE:type_of% @List.length_map:=@List.length_map
def bW:type_of% @Prod.mk.injEq:=@Prod.mk.injEq
def aX:type_of% @cond_true:=@cond_true
def dZ:type_of% @List.length_singleton:=@List.length_singleton
def cZ:type_of% @List.length_take:=@List.length_take
def cS:type_of% @List.append_nil:=@List.append_nil
def dx:type_of% @List.mem_cons_self:=@List.mem_cons_self
def cP:type_of% @decide_eq_true:=@decide_eq_true
def ek:type_of% @List.length_eq_one_iff:=@List.length_eq_one_iff
def aS:type_of% @if_false:=@if_false
def eF:type_of% @List.mem_singleton_self:=@List.mem_singleton_self
def aD:type_of% @if_true:=@if_true
def dt:type_of% @Bool.or_eq_true:=@Bool.or_eq_true
def cM:type_of% @Nat.zero_add:=@Nat.zero_add
def ee:type_of% @of_decide_eq_true:=@of_decide_eq_true
def dy:type_of% @List.foldl_cons:=@List.foldl_cons
def cF:type_of% @cond_false:=@cond_false
def eo:type_of% @Int.toNat_natCast:=@Int.toNat_natCast
def fp:type_of% @Array.length_toList:=@Array.length_toList
def ft:type_of% @List.mem_of_mem_drop:=@List.mem_of_mem_drop
def fq:type_of% @Nat.lt_of_lt_of_le:=@Nat.lt_of_lt_of_le
def fw:type_of% @List.mem_of_mem_take:=@List.mem_of_mem_take
def dz:type_of% @List.map_map:=@List.map_map
def da:type_of% @beq_iff_eq:=@beq_iff_eq
def eH:type_of% @List.nil_append:=@List.nil_append
def ev:type_of% @List.mem_range:=@List.mem_range
def fB:type_of% @Bool.and_eq_false_iff:=@Bool.and_eq_false_iff
def cG:type_of% @congrArg:=@congrArg
def fu:type_of% @List.map_append:=@List.map_append
def fJ:type_of% @List.mem_of_getElem?:=@List.mem_of_getElem?
def fC:type_of% @List.getElem?_take:=@List.getElem?_take
def fx:type_of% @List.drop_zero:=@List.drop_zero
def fK:type_of% @List.length_drop:=@List.length_drop
def fL:type_of% @List.not_mem_nil:=@List.not_mem_nil
namespace Go.D
def O {p:Prop} (h:p:=by omega):p:=h
def k_ {α:Sort _} {a b:α} (h:a=b:=by kernel_rfl):a=b:=h
inductive C where
 | val (v:Value)
 | nl
 | sl (k n:Nat) (f:Nat->Nat->C)
instance:Inhabited C:=⟨.nl⟩
def plain:Value->Bool
 | .bool _ | .int _ _ | .string _=>true
 | _=>false
def TR (w:World) (S:Nat->Prop):C->Value->Prop
 | .val u,v=>v=u/\plain u=true
 | .nl,v=>v=.slice none 0 0
 | .sl k n f,v=>∃ a cap,v=.slice a n cap/\n<=cap/\(n=0\/∃ g o row e fr,a=some ⟨g,o,none⟩/\S g/\w.heap[g]? = some (.cells row e fr) /\
  ∀ i,i<n->∀ j,j<k->∃ u,row[o+i*k+j]? = some u/\TR w S (f i j) u)
def TO (w:World):C->Value->(Nat->Prop)->Prop
 | .val u,v,_=>v=u/\plain u=true
 | .nl,v,_=>v=.slice none 0 0
 | .sl k n f,v,F=>((∃ ad,v=.slice ad 0 0)/\n=0)\/∃ g o cap row e,∃ G:Nat->Nat->Nat->Prop,v=.slice (some ⟨g,o,none⟩) n cap/\n<=cap/\o+cap*k<=row.size /\
  w.heap[g]? = some (.cells row e (0,0))/\F g /\
  (∀ i,i<n->∀ j,j<k->∃ u,row[o+i*k+j]? = some u/\TO w (f i j) u (G i j)) /\
  (∀ i,i<n->∀ j,j<k->∀ b,G i j b->F b/\b≠g) /\
  (∀ i,i<n->∀ j,j<k->∀ i',i'<n->∀ j',j'<k->∀ b,G i j b->G i' j' b->i=i'/\j=j')
def le:C->C->Prop
 | .val u,d=>d=.val u
 | .nl,d=>d=.nl\/∃ k f,d=.sl k 0 f
 | .sl k n f,d=>∃ f',d=.sl k n f'/\∀ i,i<n->∀ j,j<k->le (f i j) (f' i j)
def le.refl (c:C):le c c:=by
 induction c with
 | val v=>rfl
 | nl=>exact .inl rfl
 | sl k n f ih=>exact⟨f,rfl,λi _ j _=>ih i j⟩
def TR.frame {w w':World} {S S':Nat->Prop} {c:C}:∀ {v:Value},(∀ g,S g->(∃ o,w.heap[g]? = some o)->w'.heap[g]? = w.heap[g]?/\S' g)->TR w S c v->TR w' S' c v:=by
 induction c with
 | val u=>intro v _ h;exact h
 | nl=>intro v _ h;exact h
 | sl k n f ih=>
  intro v hs ⟨a,cap,hv,hc,h⟩;refine⟨a,cap,hv,hc,?_⟩;rcases h with h|⟨g,o,row,e,fr,ha,hS,hg,h⟩
  .exact .inl h
  .obtain⟨h1,h2⟩:=hs g hS ⟨_,hg⟩;grind
def TO.frame {w w':World} {c:C}:∀ {v:Value} {F F':Nat->Prop},(∀ g,F g->(∃ o,w.heap[g]? = some o)->w'.heap[g]? = w.heap[g]?/\F' g)->TO w c v F->TO w' c v F':=by
 induction c with
 | val u=>intro v F F' _ h;exact h
 | nl=>intro v F F' _ h;exact h
 | sl k n f ih=>
  intro v F F' hs h;rcases h with h|⟨g,o,cap,row,e,G,hv,hn,hc,hg,hF,h,hsub,hdis⟩
  .exact .inl h
  .obtain⟨h1,h2⟩:=hs g hF ⟨_,hg⟩;refine .inr ⟨g,o,cap,row,e,λi j b=>G i j b/\F' b,hv,hn,hc,h1.trans hg,h2,λi hi j hj=>?_,λi hi j hj b hb=>⟨hb.2,(hsub i hi j hj b hb.1).2⟩,λi hi j hj i' hi' j' hj' b hb hb'=>hdis i hi j hj i' hi' j' hj' b hb.1 hb'.1⟩;grind
def TO.read {w:World} {c:C}:∀ {v:Value} {F:Nat->Prop},TO w c v F->TR w F c v:=by
 induction c with
 | val u=>intro v F h;exact h
 | nl=>intro v F h;exact h
 | sl k n f ih=>
  intro v F h;rcases h with⟨⟨ad,rfl⟩,rfl⟩|⟨g,o,cap,row,e,G,hv,hn,hc,hg,hF,h,hsub,hdis⟩
  .exact⟨ad,0,rfl,X_ _,.inl rfl⟩
  .refine⟨_,cap,hv,hn,.inr ⟨g,o,row,e,(0,0),rfl,hF,hg,λi hi j hj=>?_⟩⟩;obtain⟨u,hu,ht⟩:=h i hi j hj;exact⟨u,hu,(ih i j ht).frame λb hb _=>⟨rfl,(hsub i hi j hj b hb).1⟩⟩
def TR.le {w:World} {S:Nat->Prop} {c:C}:∀ {d:C} {v:Value},le c d->TR w S c v->TR w S d v:=by
 induction c with
 | val u=>intro d v hl h;obtain rfl:=hl;exact h
 | nl=>
  intro d v hl h;rcases hl with rfl|⟨k,f,rfl⟩
  .exact h
  .exact⟨none,0,h,X_ _,.inl rfl⟩
 | sl k n f ih=>
  intro d v hl h;obtain⟨f',rfl,hl⟩:=hl;obtain⟨a,cap,hv,hc,h⟩:=h;refine⟨a,cap,hv,hc,?_⟩;grind
def TO.le {w:World} {c:C}:∀ {d:C} {v:Value} {F:Nat->Prop},le c d->TO w c v F->TO w d v F:=by
 induction c with
 | val u=>intro d v F hl h;obtain rfl:=hl;exact h
 | nl=>
  intro d v F hl h;rcases hl with rfl|⟨k,f,rfl⟩
  .exact h
  .exact .inl ⟨⟨none,h⟩,rfl⟩
 | sl k n f ih=>
  intro d v F hl h;obtain⟨f',rfl,hl⟩:=hl;rcases h with h|⟨g,o,cap,row,e,G,hv,hn,hc,hg,hF,h,hsub,hdis⟩
  .exact .inl h
  .exact .inr ⟨g,o,cap,row,e,G,hv,hn,hc,hg,hF,λi hi j hj=>let ⟨u,hu,ht⟩:=h i hi j hj;⟨u,hu,ih i j (hl i hi j hj) ht⟩,hsub,hdis⟩
def TR.one {w:World} {S:Nat->Prop} {c:C} {v:Value} (h:TR w S c v):v.oneCell'=true:=by
 cases c with
 | val u=>obtain⟨rfl,h⟩:=h;cases v<;>simp_all [plain,Value.oneCell']
 | nl=>obtain rfl:=h;rfl
 | sl k n f=>obtain⟨a,cap,rfl,_⟩:=h;rfl
end Go.D
namespace Go.D
structure HO where
 host:ByteArray
 path:ByteArray
 deriving DecidableEq,Inhabited
structure cW where
 name:ByteArray
 value:ByteArray
 deriving DecidableEq,Inhabited
structure ai where
 kind:Int
 name:ByteArray
 bq:List cW
 text:ByteArray
 deriving DecidableEq,Inhabited
structure dv where
 rest:ByteArray
 deriving DecidableEq,Inhabited
structure cT where
 name:ByteArray
 text:ByteArray
 parent:Int
 bq:List cW
 deriving DecidableEq,Inhabited
structure am where
 bj:List cT
 bn:List Int
 deriving DecidableEq,Inhabited
structure dL where
 name:ByteArray
 color:Int
 deriving DecidableEq,Inhabited
structure bF where
 rules:List dL
 deriving DecidableEq,Inhabited
structure bU where
 op:Int
 text:ByteArray
 deriving DecidableEq,Inhabited
structure aA where
 set_:Bool
 bt:List ByteArray
 styles:List ByteArray
 images:List ByteArray
 nonce:ByteArray
 deriving DecidableEq,Inhabited
structure M_ where
 status:Int
 kind:Int
 body:ByteArray
 age:Int
 shares:Bool
 bm:ByteArray
 deriving DecidableEq,Inhabited
structure ax where
 kind:Int
 to:HO
 from_:ByteArray
 digest:ByteArray
 deriving DecidableEq,Inhabited
structure aF where
 path:ByteArray
 bd:M_
 deriving DecidableEq,Inhabited
structure V_ where
 host:ByteArray
 files:List aF
 deriving DecidableEq,Inhabited
structure bJ where
 top:ByteArray
 to:HO
 bd:M_
 until_:Int
 deriving DecidableEq,Inhabited
structure aZ where
 bh:List bJ
 deriving DecidableEq,Inhabited
structure dA where
 top:ByteArray
 to:HO
 guess:Bool
 deriving DecidableEq,Inhabited
structure P_ where
 servers:List V_
 cache:aZ
 log:List dA
 now:Int
 deriving DecidableEq,Inhabited
structure av where
 mode:Int
 to:HO
 digest:ByteArray
 node:Int
 done:Bool
 code:Int
 body:ByteArray
 deriving DecidableEq,Inhabited
structure Z_ where
 to:HO
 done:Bool
 code:Int
 body:ByteArray
 deriving DecidableEq,Inhabited
structure A_ where
 addr:HO
 bm:aA
 tok:dv
 bp:List ai
 ended:Bool
 ba:am
 bf:List av
 bi:List Z_
 bh:List HO
 block:Int
 inline:Int
 bo:Int
 bu:Int
 ran:List HO
 log:List ByteArray
 loaded:Bool
 deriving DecidableEq,Inhabited
structure bv where
 to:HO
 bd:M_
 used:Bool
 deriving DecidableEq,Inhabited
structure ao where
 to:HO
 left:Int
 guess:Bool
 bd:M_
 deriving DecidableEq,Inhabited
structure N_ where
 net:P_
 page:A_
 parts:List ByteArray
 conns:List ao
 guesses:List bv
 deriving DecidableEq,Inhabited
inductive Ty where
 | int
 | str
 | bool
 | u8
 | addr
 | attr
 | token
 | tokenizer
 | node
 | ba
 | rule
 | sheet
 | line
 | bm
 | bd
 | request
 | file
 | server
 | entry
 | cache
 | sent
 | net
 | slot
 | module
 | page
 | guess
 | conn
 | loader
 deriving DecidableEq
abbrev El:Ty->Type
 | .int=>Int
 | .str=>ByteArray
 | .bool=>Bool
 | .u8=>Int
 | .addr=>HO
 | .attr=>cW
 | .token=>ai
 | .tokenizer=>dv
 | .node=>cT
 | .ba=>am
 | .rule=>dL
 | .sheet=>bF
 | .line=>bU
 | .bm=>aA
 | .bd=>M_
 | .request=>ax
 | .file=>aF
 | .server=>V_
 | .entry=>bJ
 | .cache=>aZ
 | .sent=>dA
 | .net=>P_
 | .slot=>av
 | .module=>Z_
 | .page=>A_
 | .guess=>bv
 | .conn=>ao
 | .loader=>N_
instance (t:Ty):Inhabited (El t):=match t with
 | .int=>inferInstanceAs (Inhabited (Int))
 | .str=>inferInstanceAs (Inhabited (ByteArray))
 | .bool=>inferInstanceAs (Inhabited (Bool))
 | .u8=>inferInstanceAs (Inhabited (Int))
 | .addr=>inferInstanceAs (Inhabited (HO))
 | .attr=>inferInstanceAs (Inhabited (cW))
 | .token=>inferInstanceAs (Inhabited (ai))
 | .tokenizer=>inferInstanceAs (Inhabited (dv))
 | .node=>inferInstanceAs (Inhabited (cT))
 | .ba=>inferInstanceAs (Inhabited (am))
 | .rule=>inferInstanceAs (Inhabited (dL))
 | .sheet=>inferInstanceAs (Inhabited (bF))
 | .line=>inferInstanceAs (Inhabited (bU))
 | .bm=>inferInstanceAs (Inhabited (aA))
 | .bd=>inferInstanceAs (Inhabited (M_))
 | .request=>inferInstanceAs (Inhabited (ax))
 | .file=>inferInstanceAs (Inhabited (aF))
 | .server=>inferInstanceAs (Inhabited (V_))
 | .entry=>inferInstanceAs (Inhabited (bJ))
 | .cache=>inferInstanceAs (Inhabited (aZ))
 | .sent=>inferInstanceAs (Inhabited (dA))
 | .net=>inferInstanceAs (Inhabited (P_))
 | .slot=>inferInstanceAs (Inhabited (av))
 | .module=>inferInstanceAs (Inhabited (Z_))
 | .page=>inferInstanceAs (Inhabited (A_))
 | .guess=>inferInstanceAs (Inhabited (bv))
 | .conn=>inferInstanceAs (Inhabited (ao))
 | .loader=>inferInstanceAs (Inhabited (N_))
inductive FC where
 | val (v:Value)
 | nl
 | l (t:Ty) (xs:List (El t))
instance:Inhabited FC:=⟨.nl⟩
def Ty.width:Ty->Nat
 | .int=>1
 | .str=>1
 | .bool=>1
 | .u8=>1
 | .addr=>2
 | .attr=>2
 | .token=>4
 | .tokenizer=>1
 | .node=>4
 | .ba=>2
 | .rule=>2
 | .sheet=>1
 | .line=>2
 | .bm=>5
 | .bd=>6
 | .request=>5
 | .file=>7
 | .server=>2
 | .entry=>10
 | .cache=>1
 | .sent=>4
 | .net=>4
 | .slot=>8
 | .module=>5
 | .page=>22
 | .guess=>9
 | .conn=>10
 | .loader=>29
def Ty.rank:Ty->Nat
 | .int=>0
 | .str=>0
 | .bool=>0
 | .u8=>0
 | .addr=>0
 | .attr=>0
 | .token=>1
 | .tokenizer=>0
 | .node=>1
 | .ba=>2
 | .rule=>0
 | .sheet=>1
 | .line=>0
 | .bm=>1
 | .bd=>0
 | .request=>0
 | .file=>0
 | .server=>1
 | .entry=>0
 | .cache=>1
 | .sent=>0
 | .net=>2
 | .slot=>0
 | .module=>0
 | .page=>2
 | .guess=>0
 | .conn=>0
 | .loader=>2
def enc:(t:Ty)->El t->List FC
 | .int,x=>[.val (.int .i64 x)]
 | .str,x=>[.val (.string x)]
 | .bool,x=>[.val (.bool x)]
 | .u8,x=>[.val (.int .u8 x)]
 | .addr,x=>[.val (.string x.host),.val (.string x.path)]
 | .attr,x=>[.val (.string x.name),.val (.string x.value)]
 | .token,x=>[.val (.int .i64 x.kind),.val (.string x.name),.l .attr x.bq,.val (.string x.text)]
 | .tokenizer,x=>[.val (.string x.rest)]
 | .node,x=>[.val (.string x.name),.val (.string x.text),.val (.int .i64 x.parent),.l .attr x.bq]
 | .ba,x=>[.l .node x.bj,.l .int x.bn]
 | .rule,x=>[.val (.string x.name),.val (.int .i64 x.color)]
 | .sheet,x=>[.l .rule x.rules]
 | .line,x=>[.val (.int .i64 x.op),.val (.string x.text)]
 | .bm,x=>[.val (.bool x.set_),.l .str x.bt,.l .str x.styles,.l .str x.images,.val (.string x.nonce)]
 | .bd,x=>[.val (.int .i64 x.status),.val (.int .i64 x.kind),.val (.string x.body),.val (.int .i64 x.age),.val (.bool x.shares),.val (.string x.bm)]
 | .request,x=>[.val (.int .i64 x.kind),.val (.string x.to.host),.val (.string x.to.path),.val (.string x.from_),.val (.string x.digest)]
 | .file,x=>[.val (.string x.path),.val (.int .i64 x.bd.status),.val (.int .i64 x.bd.kind),.val (.string x.bd.body),.val (.int .i64 x.bd.age),.val (.bool x.bd.shares),.val (.string x.bd.bm)]
 | .server,x=>[.val (.string x.host),.l .file x.files]
 | .entry,x=>[.val (.string x.top),.val (.string x.to.host),.val (.string x.to.path),.val (.int .i64 x.bd.status),.val (.int .i64 x.bd.kind),.val (.string x.bd.body),.val (.int .i64 x.bd.age),.val (.bool x.bd.shares),.val (.string x.bd.bm),.val (.int .i64 x.until_)]
 | .cache,x=>[.l .entry x.bh]
 | .sent,x=>[.val (.string x.top),.val (.string x.to.host),.val (.string x.to.path),.val (.bool x.guess)]
 | .net,x=>[.l .server x.servers,.l .entry x.cache.bh,.l .sent x.log,.val (.int .i64 x.now)]
 | .slot,x=>[.val (.int .i64 x.mode),.val (.string x.to.host),.val (.string x.to.path),.val (.string x.digest),.val (.int .i64 x.node),.val (.bool x.done),.val (.int .i64 x.code),.val (.string x.body)]
 | .module,x=>[.val (.string x.to.host),.val (.string x.to.path),.val (.bool x.done),.val (.int .i64 x.code),.val (.string x.body)]
 | .page,x=>[.val (.string x.addr.host),.val (.string x.addr.path),.val (.bool x.bm.set_),.l .str x.bm.bt,.l .str x.bm.styles,.l .str x.bm.images,.val (.string x.bm.nonce),.val (.string x.tok.rest),.l .token x.bp,.val (.bool x.ended),.l .node x.ba.bj,.l .int x.ba.bn,.l .slot x.bf,.l .module x.bi,.l .addr x.bh,.val (.int .i64 x.block),.val (.int .i64 x.inline),.val (.int .i64 x.bo),.val (.int .i64 x.bu),.l .addr x.ran,.l .str x.log,.val (.bool x.loaded)]
 | .guess,x=>[.val (.string x.to.host),.val (.string x.to.path),.val (.int .i64 x.bd.status),.val (.int .i64 x.bd.kind),.val (.string x.bd.body),.val (.int .i64 x.bd.age),.val (.bool x.bd.shares),.val (.string x.bd.bm),.val (.bool x.used)]
 | .conn,x=>[.val (.string x.to.host),.val (.string x.to.path),.val (.int .i64 x.left),.val (.bool x.guess),.val (.int .i64 x.bd.status),.val (.int .i64 x.bd.kind),.val (.string x.bd.body),.val (.int .i64 x.bd.age),.val (.bool x.bd.shares),.val (.string x.bd.bm)]
 | .loader,x=>[.l .server x.net.servers,.l .entry x.net.cache.bh,.l .sent x.net.log,.val (.int .i64 x.net.now),.val (.string x.page.addr.host),.val (.string x.page.addr.path),.val (.bool x.page.bm.set_),.l .str x.page.bm.bt,.l .str x.page.bm.styles,.l .str x.page.bm.images,.val (.string x.page.bm.nonce),.val (.string x.page.tok.rest),.l .token x.page.bp,.val (.bool x.page.ended),.l .node x.page.ba.bj,.l .int x.page.ba.bn,.l .slot x.page.bf,.l .module x.page.bi,.l .addr x.page.bh,.val (.int .i64 x.page.block),.val (.int .i64 x.page.inline),.val (.int .i64 x.page.bo),.val (.int .i64 x.page.bu),.l .addr x.page.ran,.l .str x.page.log,.val (.bool x.page.loaded),.l .str x.parts,.l .conn x.conns,.l .guess x.guesses]
def Amx:FC->Option Int
 | .val (.int .i64 n)=>some n
 | _=>none
def AmR:FC->Option Int
 | .val (.int .u8 n)=>some n
 | _=>none
def AmB:FC->Option ByteArray
 | .val (.string s)=>some s
 | _=>none
def Am6:FC->Option Bool
 | .val (.bool b)=>some b
 | _=>none
def Ame (t:Ty):FC->Option (List (El t))
 | .nl=>some []
 | .l t' xs=>if h:t'=t then some (h▸xs) else none
 | _=>none
def pI {α:Type} (fs:List FC) (k:Int->List FC->Option α):Option α:=match fs with|c::r=>(Amx c).bind λa=>k a r|[]=>none
def pU {α:Type} (fs:List FC) (k:Int->List FC->Option α):Option α:=match fs with|c::r=>(AmR c).bind λa=>k a r|[]=>none
def pS {α:Type} (fs:List FC) (k:ByteArray->List FC->Option α):Option α:=match fs with|c::r=>(AmB c).bind λa=>k a r|[]=>none
def pB {α:Type} (fs:List FC) (k:Bool->List FC->Option α):Option α:=match fs with|c::r=>(Am6 c).bind λa=>k a r|[]=>none
def pL {α:Type} (t:Ty) (fs:List FC) (k:List (El t)->List FC->Option α):Option α:=match fs with|c::r=>(Ame t c).bind λa=>k a r|[]=>none
def pE {α:Type} (fs:List FC) (x:α):Option α:=match fs with|[]=>some x|_=>none
def dec:(t:Ty)->List FC->Option (El t)
 | .int,r=>pI r λa r=>pE r a
 | .str,r=>pS r λa r=>pE r a
 | .bool,r=>pB r λa r=>pE r a
 | .u8,r=>pU r λa r=>pE r a
 | .addr,r=>pS r λa0 r=>pS r λa1 r=>pE r ⟨a0,a1⟩
 | .attr,r=>pS r λa0 r=>pS r λa1 r=>pE r ⟨a0,a1⟩
 | .token,r=>pI r λa0 r=>pS r λa1 r=>pL .attr r λa2 r=>pS r λa3 r=>pE r ⟨a0,a1,a2,a3⟩
 | .tokenizer,r=>pS r λa0 r=>pE r ⟨a0⟩
 | .node,r=>pS r λa0 r=>pS r λa1 r=>pI r λa2 r=>pL .attr r λa3 r=>pE r ⟨a0,a1,a2,a3⟩
 | .ba,r=>pL .node r λa0 r=>pL .int r λa1 r=>pE r ⟨a0,a1⟩
 | .rule,r=>pS r λa0 r=>pI r λa1 r=>pE r ⟨a0,a1⟩
 | .sheet,r=>pL .rule r λa0 r=>pE r ⟨a0⟩
 | .line,r=>pI r λa0 r=>pS r λa1 r=>pE r ⟨a0,a1⟩
 | .bm,r=>pB r λa0 r=>pL .str r λa1 r=>pL .str r λa2 r=>pL .str r λa3 r=>pS r λa4 r=>pE r ⟨a0,a1,a2,a3,a4⟩
 | .bd,r=>pI r λa0 r=>pI r λa1 r=>pS r λa2 r=>pI r λa3 r=>pB r λa4 r=>pS r λa5 r=>pE r ⟨a0,a1,a2,a3,a4,a5⟩
 | .request,r=>pI r λa0 r=>pS r λa1 r=>pS r λa2 r=>pS r λa3 r=>pS r λa4 r=>pE r ⟨a0,⟨a1,a2⟩,a3,a4⟩
 | .file,r=>pS r λa0 r=>pI r λa1 r=>pI r λa2 r=>pS r λa3 r=>pI r λa4 r=>pB r λa5 r=>pS r λa6 r=>pE r ⟨a0,⟨a1,a2,a3,a4,a5,a6⟩⟩
 | .server,r=>pS r λa0 r=>pL .file r λa1 r=>pE r ⟨a0,a1⟩
 | .entry,r=>pS r λa0 r=>pS r λa1 r=>pS r λa2 r=>pI r λa3 r=>pI r λa4 r=>pS r λa5 r=>pI r λa6 r=>pB r λa7 r=>pS r λa8 r=>pI r λa9 r=>pE r ⟨a0,⟨a1,a2⟩,⟨a3,a4,a5,a6,a7,a8⟩,a9⟩
 | .cache,r=>pL .entry r λa0 r=>pE r ⟨a0⟩
 | .sent,r=>pS r λa0 r=>pS r λa1 r=>pS r λa2 r=>pB r λa3 r=>pE r ⟨a0,⟨a1,a2⟩,a3⟩
 | .net,r=>pL .server r λa0 r=>pL .entry r λa1 r=>pL .sent r λa2 r=>pI r λa3 r=>pE r ⟨a0,⟨a1⟩,a2,a3⟩
 | .slot,r=>pI r λa0 r=>pS r λa1 r=>pS r λa2 r=>pS r λa3 r=>pI r λa4 r=>pB r λa5 r=>pI r λa6 r=>pS r λa7 r=>pE r ⟨a0,⟨a1,a2⟩,a3,a4,a5,a6,a7⟩
 | .module,r=>pS r λa0 r=>pS r λa1 r=>pB r λa2 r=>pI r λa3 r=>pS r λa4 r=>pE r ⟨⟨a0,a1⟩,a2,a3,a4⟩
 | .page,r=>pS r λa0 r=>pS r λa1 r=>pB r λa2 r=>pL .str r λa3 r=>pL .str r λa4 r=>pL .str r λa5 r=>pS r λa6 r=>pS r λa7 r=>pL .token r λa8 r=>pB r λa9 r=>pL .node r λa10 r=>pL .int r λa11 r=>pL .slot r λa12 r=>pL .module r λa13 r=>pL .addr r λa14 r=>pI r λa15 r=>pI r λa16 r=>pI r λa17 r=>pI r λa18 r=>pL .addr r λa19 r=>pL .str r λa20 r=>pB r λa21 r=>pE r ⟨⟨a0,a1⟩,⟨a2,a3,a4,a5,a6⟩,⟨a7⟩,a8,a9,⟨a10,a11⟩,a12,a13,a14,a15,a16,a17,a18,a19,a20,a21⟩
 | .guess,r=>pS r λa0 r=>pS r λa1 r=>pI r λa2 r=>pI r λa3 r=>pS r λa4 r=>pI r λa5 r=>pB r λa6 r=>pS r λa7 r=>pB r λa8 r=>pE r ⟨⟨a0,a1⟩,⟨a2,a3,a4,a5,a6,a7⟩,a8⟩
 | .conn,r=>pS r λa0 r=>pS r λa1 r=>pI r λa2 r=>pB r λa3 r=>pI r λa4 r=>pI r λa5 r=>pS r λa6 r=>pI r λa7 r=>pB r λa8 r=>pS r λa9 r=>pE r ⟨⟨a0,a1⟩,a2,a3,⟨a4,a5,a6,a7,a8,a9⟩⟩
 | .loader,r=>pL .server r λa0 r=>pL .entry r λa1 r=>pL .sent r λa2 r=>pI r λa3 r=>pS r λa4 r=>pS r λa5 r=>pB r λa6 r=>pL .str r λa7 r=>pL .str r λa8 r=>pL .str r λa9 r=>pS r λa10 r=>pS r λa11 r=>pL .token r λa12 r=>pB r λa13 r=>pL .node r λa14 r=>pL .int r λa15 r=>pL .slot r λa16 r=>pL .module r λa17 r=>pL .addr r λa18 r=>pI r λa19 r=>pI r λa20 r=>pI r λa21 r=>pI r λa22 r=>pL .addr r λa23 r=>pL .str r λa24 r=>pB r λa25 r=>pL .str r λa26 r=>pL .conn r λa27 r=>pL .guess r λa28 r=>pE r ⟨⟨a0,⟨a1⟩,a2,a3⟩,⟨⟨a4,a5⟩,⟨a6,a7,a8,a9,a10⟩,⟨a11⟩,a12,a13,⟨a14,a15⟩,a16,a17,a18,a19,a20,a21,a22,a23,a24,a25⟩,a26,a27,a28⟩
def fcLe (c d:FC):Prop:=d=c\/(c=.nl/\∃ t,d=.l t [])
inductive FcsLe:List FC->List FC->Prop where
 | nil:FcsLe [] []
 | cons {c d:FC} {cs ds:List FC}:fcLe c d->FcsLe cs ds->FcsLe (c::cs) (d::ds)
def AjJ {c:FC} {n:Int} (h:Amx c=some n):fcLe c (.val (.int .i64 n)):=by
 unfold Amx at h;split at h<;>simp_all [fcLe]
def AiZ {c:FC} {n:Int} (h:AmR c=some n):fcLe c (.val (.int .u8 n)):=by
 unfold AmR at h;split at h<;>simp_all [fcLe]
def Aic {c:FC} {n:ByteArray} (h:AmB c=some n):fcLe c (.val (.string n)):=by
 unfold AmB at h;split at h<;>simp_all [fcLe]
def Aia {c:FC} {n:Bool} (h:Am6 c=some n):fcLe c (.val (.bool n)):=by
 unfold Am6 at h;split at h<;>simp_all [fcLe]
def Abp {t:Ty} {c:FC} {xs:List (El t)} (h:Ame t c=some xs):fcLe c (.l t xs):=by
 unfold Ame at h;split at h
 .simp only[R_] at h;subst h;exact .inr ⟨rfl,t,rfl⟩
 .split at h
  .rename_i e;subst e;simp only[R_] at h;subst h;exact .inl rfl
  .simp at h
 .simp at h
def bind_some {α β:Type} {o:Option α} {f:α->Option β} {b:β} (h:o.bind f=some b):∃ a,o=some a/\f a=some b:=Option.bind_eq_some_iff.1 h
def Anb {α:Type} {fs:List FC} {x y:α} (h:pE fs x=some y):fs=[]/\y=x:=by
 unfold pE at h;split at h<;>simp_all
def Ana {α:Type} {fs:List FC} {k:Int->List FC->Option α} {x:α} (h:pI fs k=some x):∃ c r a,fs=c::r/\fcLe c (.val (.int .i64 a))/\k a r=some x:=by
 unfold pI at h;split at h
 .rename_i c r;obtain⟨a,h0,h⟩:=bind_some h;exact⟨c,r,a,rfl,AjJ h0,h⟩
 .simp at h
def AmX {α:Type} {fs:List FC} {k:Int->List FC->Option α} {x:α} (h:pU fs k=some x):∃ c r a,fs=c::r/\fcLe c (.val (.int .u8 a))/\k a r=some x:=by
 unfold pU at h;split at h
 .rename_i c r;obtain⟨a,h0,h⟩:=bind_some h;exact⟨c,r,a,rfl,AiZ h0,h⟩
 .simp at h
def AmE {α:Type} {fs:List FC} {k:ByteArray->List FC->Option α} {x:α} (h:pS fs k=some x):∃ c r a,fs=c::r/\fcLe c (.val (.string a))/\k a r=some x:=by
 unfold pS at h;split at h
 .rename_i c r;obtain⟨a,h0,h⟩:=bind_some h;exact⟨c,r,a,rfl,Aic h0,h⟩
 .simp at h
def Am5 {α:Type} {fs:List FC} {k:Bool->List FC->Option α} {x:α} (h:pB fs k=some x):∃ c r a,fs=c::r/\fcLe c (.val (.bool a))/\k a r=some x:=by
 unfold pB at h;split at h
 .rename_i c r;obtain⟨a,h0,h⟩:=bind_some h;exact⟨c,r,a,rfl,Aia h0,h⟩
 .simp at h
def Amp {α:Type} {t:Ty} {fs:List FC} {k:List (El t)->List FC->Option α} {x:α} (h:pL t fs k=some x):∃ c r a,fs=c::r/\fcLe c (.l t a)/\k a r=some x:=by
 unfold pL at h;split at h
 .rename_i c r;obtain⟨a,h0,h⟩:=bind_some h;exact⟨c,r,a,rfl,Abp h0,h⟩
 .simp at h
def dec_ok (t:Ty) (fs:List FC) (x:El t) (h:dec t fs=some x):FcsLe fs (enc t x):=by
 cases t;all_goals
  unfold dec at h;repeat (first
   | obtain⟨_,_,_,rfl,_,h⟩:=AmE h
   | obtain⟨_,_,_,rfl,_,h⟩:=Ana h
   | obtain⟨_,_,_,rfl,_,h⟩:=Amp h
   | obtain⟨_,_,_,rfl,_,h⟩:=Am5 h
   | obtain⟨_,_,_,rfl,_,h⟩:=AmX h)
  obtain⟨rfl,rfl⟩:=Anb h;repeat first
   | exact FcsLe.nil
   | refine FcsLe.cons ‹_› ?_
def KI (t:Ty) (x:El t):(enc t x).length=t.width:=by cases t<;>rfl
def Fk (t:Ty):0<t.width:=by cases t<;>decide
def FC.rank:FC->Nat
 | .l t _=>t.rank+1
 | _=>0
def Wl (t:Ty) (x:El t):(enc t x).all (λc=>decide (c.rank<=t.rank))=true:=by cases t<;>rfl
def Je (t:Ty):Bool:=t.rank==0
end Go.D
namespace Go.D
def cell (t:Ty) (xs:List (El t)) (i j:Nat):FC:=(enc t (xs.getD i default)).getD j .nl
def Akw:Nat->FC->C
 | _,.val u=>.val u
 | _,.nl=>.nl
 | 0,.l _ _=>.nl
 | d+1,.l t xs=>.sl t.width xs.length (λi j=>Akw d (cell t xs i j))
def fcC (c:FC):C:=Akw 8 c
def AdD (t:Ty):t.rank<=6:=by cases t<;>decide
def S7 (t:Ty) (xs:List (El t)) (i j:Nat):(cell t xs i j).rank<=t.rank:=by
 unfold cell;have h:=Wl t (xs.getD i default);generalize enc t (xs.getD i default)=l at h;rw[aM] at h;rw[bB];cases hq:l[j]? with
 | none=>exact Nat.zero_le _
 | some c=>simpa using h c (fJ hq)
def AbD:∀ (d e:Nat) (c:FC),c.rank<=d->c.rank<=e->Akw d c=Akw e c:=by
 intro d
 induction d with
 | zero=>
  intro e c h1 h2;cases c with
  | val u=>cases e<;>rfl
  | nl=>cases e<;>rfl
  | l t xs=>simp[FC.rank] at h1
 | succ d ih=>
  intro e c h1 h2;cases c with
  | val u=>cases e<;>rfl
  | nl=>cases e<;>rfl
  | l t xs=>
   cases e with
   | zero=>simp[FC.rank] at h2
   | succ e=>
    simp only[FC.rank] at h1 h2;simp only[Akw];congr 1;funext i j;have:=S7 t xs i j;grind
def Eb (t:Ty) (xs:List (El t)):fcC (.l t xs)=.sl t.width xs.length (λi j=>fcC (cell t xs i j)):=by
 unfold fcC
 conv=>lhs;unfold Akw
 congr 1;funext i j;have h1:=S7 t xs i j;have h2:=AdD t;exact AbD 7 8 _ O O
@[simp] theorem Am1 (u:Value):fcC (.val u)=.val u:=rfl
@[simp] theorem Apg:fcC .nl=.nl:=rfl
def fcLe.le {c d:FC} (h:fcLe c d):D.le (fcC c) (fcC d):=by
 rcases h with rfl|⟨rfl,t,rfl⟩
 .exact le.refl _
 .rw[Eb];exact .inr ⟨_,_,rfl⟩
def fcLe.refl (c:FC):fcLe c c:=.inl rfl
def FcsLe.get {cs ds:List FC} (h:FcsLe cs ds):cs.length=ds.length/\∀ j,fcLe (cs.getD j .nl) (ds.getD j .nl):=by
 induction h with
 | nil=>exact⟨rfl,λj=>by simpa using fcLe.refl _⟩
 | cons h1 h2 ih=>
  refine⟨by simp[ih.1],λj=>?_⟩;cases j with
  | zero=>simpa using h1
  | succ j=>simpa using ih.2 j
def GF {t:Ty} {xs:List (El t)} {i:Nat} {x:El t} (h:xs[i]? = some x) (j:Nat):cell t xs i j=(enc t x).getD j .nl:=by
 simp[cell,bB,h]
def HQ {t:Ty} {xs ys:List (El t)} {i j:Nat} (h:i<xs.length):cell t (xs++ys) i j=cell t xs i j:=by
 simp[cell,bB,cN h]
def Hn {t:Ty} {xs ys:List (El t)} {i j:Nat} (h:xs.length<=i):cell t (xs++ys) i j=cell t ys (i-xs.length) j:=by
 simp[cell,bB,cX h]
def cut {α:Type} (xs:List α) (lo n:Nat):List α:=(xs.drop lo).take n
def QY {t:Ty} {xs:List (El t)} {lo n i j:Nat} (h:i<n):cell t (cut xs lo n) i j=cell t xs (lo+i) j:=by
 simp[cell,cut,bB,h,List.getElem?_drop]
def N6 {α:Type} {xs:List α} {lo n:Nat} (h:lo+n<=xs.length):(cut xs lo n).length=n:=by
 simp[cut];omega
def FC.isVal:FC->Bool
 | .val _=>true
 | _=>false
def AfN (t:Ty) (h:Je t=true) (x:El t):(enc t x).all FC.isVal=true:=by
 cases t<;>first|rfl|exact absurd h (by decide)
def Fm {t:Ty} (h:Je t=true) (xs:List (El t)) (i j:Nat) (hj:j<t.width):∃ u,cell t xs i j=.val u:=by
 unfold cell;have h1:=AfN t h (xs.getD i default);have h2:=KI t (xs.getD i default);generalize enc t (xs.getD i default)=l at h1 h2;rw[aM] at h1;have hlt:j<l.length:=O
 have h3:=h1 l[j] (List.getElem_mem hlt);rw[bB,aH hlt,Option.getD_some];generalize l[j]=c at h3;cases c with
 | val u=>exact⟨u,rfl⟩
 | nl=>simp[FC.isVal] at h3
 | l t xs=>simp[FC.isVal] at h3
def G5 (cs:List FC) (off:Nat) (us:List FC):List FC:=cs.take off++us++cs.drop (off+us.length)
def upd (t:Ty) (off:Nat) (us:List FC) (x:El t):El t:=(dec t (G5 (enc t x) off us)).getD x
def AcM {t:Ty} {off:Nat} {us:List FC} {x:El t} (h:(dec t (G5 (enc t x) off us)).isSome=true):FcsLe (G5 (enc t x) off us) (enc t (upd t off us x)):=by
 obtain⟨y,hy⟩:=Option.isSome_iff_exists.1 h;simp only[upd,hy,Option.getD_some];exact dec_ok t _ _ hy
def EO {cs us:List FC} {off j:Nat} (h:off+us.length<=cs.length):(G5 cs off us).getD j .nl=if off<=j/\j<off+us.length then us.getD (j-off) .nl else cs.getD j .nl:=by
 simp only[G5,bB,bK];grind
def Js {t:Ty} {xs:List (El t)} {e i j:Nat} {g:El t->El t} (h:e<xs.length):cell t (xs.modify e g) i j=if i=e then(enc t (g (xs.getD e default))).getD j .nl else cell t xs i j:=by
 simp only[cell,bB,List.getElem?_modify];grind
end Go.D
namespace Go.D
inductive Shp where
 | ki
 | ku
 | ks
 | kb
 | kl (t:Ty)
 | kx
 deriving DecidableEq
def FC.shp:FC->Shp
 | .val (.int .i64 _)=>.ki
 | .val (.int .u8 _)=>.ku
 | .val (.string _)=>.ks
 | .val (.bool _)=>.kb
 | .l t _=>.kl t
 | _=>.kx
def Ty.shapes:Ty->List Shp
 | .int=>[.ki]
 | .str=>[.ks]
 | .bool=>[.kb]
 | .u8=>[.ku]
 | .addr=>[.ks,.ks]
 | .attr=>[.ks,.ks]
 | .token=>[.ki,.ks,.kl .attr,.ks]
 | .tokenizer=>[.ks]
 | .node=>[.ks,.ks,.ki,.kl .attr]
 | .ba=>[.kl .node,.kl .int]
 | .rule=>[.ks,.ki]
 | .sheet=>[.kl .rule]
 | .line=>[.ki,.ks]
 | .bm=>[.kb,.kl .str,.kl .str,.kl .str,.ks]
 | .bd=>[.ki,.ki,.ks,.ki,.kb,.ks]
 | .request=>[.ki,.ks,.ks,.ks,.ks]
 | .file=>[.ks,.ki,.ki,.ks,.ki,.kb,.ks]
 | .server=>[.ks,.kl .file]
 | .entry=>[.ks,.ks,.ks,.ki,.ki,.ks,.ki,.kb,.ks,.ki]
 | .cache=>[.kl .entry]
 | .sent=>[.ks,.ks,.ks,.kb]
 | .net=>[.kl .server,.kl .entry,.kl .sent,.ki]
 | .slot=>[.ki,.ks,.ks,.ks,.ki,.kb,.ki,.ks]
 | .module=>[.ks,.ks,.kb,.ki,.ks]
 | .page=>[.ks,.ks,.kb,.kl .str,.kl .str,.kl .str,.ks,.ks,.kl .token,.kb,.kl .node,.kl .int,.kl .slot,.kl .module,.kl .addr,.ki,.ki,.ki,.ki,.kl .addr,.kl .str,.kb]
 | .guess=>[.ks,.ks,.ki,.ki,.ks,.ki,.kb,.ks,.kb]
 | .conn=>[.ks,.ks,.ki,.kb,.ki,.ki,.ks,.ki,.kb,.ks]
 | .loader=>[.kl .server,.kl .entry,.kl .sent,.ki,.ks,.ks,.kb,.kl .str,.kl .str,.kl .str,.ks,.ks,.kl .token,.kb,.kl .node,.kl .int,.kl .slot,.kl .module,.kl .addr,.ki,.ki,.ki,.ki,.kl .addr,.kl .str,.kb,.kl .str,.kl .conn,.kl .guess]
def sI {fs:List FC} {r:List Shp} (h:fs.map FC.shp=.ki::r):∃ (a:Int) (gs:List FC),fs=.val (.int .i64 a)::gs/\gs.map FC.shp=r:=by
 cases fs with
 | nil=>simp at h
 | cons c gs=>
  simp only[aY,List.cons.injEq] at h;obtain⟨h1,h2⟩:=h;unfold FC.shp at h1;grind
def sU {fs:List FC} {r:List Shp} (h:fs.map FC.shp=.ku::r):∃ (a:Int) (gs:List FC),fs=.val (.int .u8 a)::gs/\gs.map FC.shp=r:=by
 cases fs with
 | nil=>simp at h
 | cons c gs=>
  simp only[aY,List.cons.injEq] at h;obtain⟨h1,h2⟩:=h;unfold FC.shp at h1;grind
def sS {fs:List FC} {r:List Shp} (h:fs.map FC.shp=.ks::r):∃ (a:ByteArray) (gs:List FC),fs=.val (.string a)::gs/\gs.map FC.shp=r:=by
 cases fs with
 | nil=>simp at h
 | cons c gs=>
  simp only[aY,List.cons.injEq] at h;obtain⟨h1,h2⟩:=h;unfold FC.shp at h1;grind
def sB {fs:List FC} {r:List Shp} (h:fs.map FC.shp=.kb::r):∃ (a:Bool) (gs:List FC),fs=.val (.bool a)::gs/\gs.map FC.shp=r:=by
 cases fs with
 | nil=>simp at h
 | cons c gs=>
  simp only[aY,List.cons.injEq] at h;obtain⟨h1,h2⟩:=h;unfold FC.shp at h1;grind
def sL {t:Ty} {fs:List FC} {r:List Shp} (h:fs.map FC.shp=.kl t::r):∃ (a:List (El t)) (gs:List FC),fs=.l t a::gs/\gs.map FC.shp=r:=by
 cases fs with
 | nil=>simp at h
 | cons c gs=>
  simp only[aY,List.cons.injEq] at h;obtain⟨h1,h2⟩:=h;unfold FC.shp at h1;grind
def sE {fs:List FC} (h:fs.map FC.shp=[]):fs=[]:=by simpa using h
def Z3 {t:Ty} {fs:List FC} (h:(dec t fs).isSome=true) (h2:∀ x,dec t fs=some x->fs=enc t x):∃ x:El t,fs=enc t x:=⟨_,h2 _ (Option.some_get h).symm⟩
def Tv (t:Ty) (fs:List FC) (h:fs.map FC.shp=t.shapes):∃ x:El t,fs=enc t x:=by
 cases t;all_goals
  repeat
   first|have q:=sS h|have q:=sI h|have q:=sL h|have q:=sB h|have q:=sU h
   obtain⟨_,_,e,k⟩:=q;clear h;subst e;have h:=k;clear k
  obtain rfl:=sE h;exact Z3 rfl λx h=>by cases (show some _=some x from h);rfl
end Go.D
namespace Go.D
def DrLe (a b:Nat):Prop:=True
def DrLe.refl (a:Nat):DrLe a a:=trivial
def DrLe.succ (a:Nat):DrLe a (a+1):=trivial
def DrLe.add (a b:Nat):DrLe a (a+b):=trivial
def DrLe.trans {a b c:Nat} (h:DrLe a b) (h2:DrLe b c):DrLe a c:=trivial
end Go.D
namespace Go.D
inductive Cell where
 | sc (v:Value)
 | tt
 | ff
 | nil
 | ref (l:Nat)
 | sub (l k lo n:Nat)
 | im (s:Option Nat) (t:Ty) (xs:List (El t))
 | dead
instance:Inhabited Cell:=⟨.dead⟩
inductive Cap where
 | ptr (b:Nat)
 | aptr (cs:List FC)
inductive TV where
 | v (agg:Bool) (cs:List Cell)
 | tup (ps:List (Bool×List Cell))
 | ptr (b off:Nat)
 | eptr (l k i off:Nat)
 | sptr (s:Option Nat) (t:Ty) (x:El t) (off:Nat)
 | inn (l k i off:Nat) (t:Ty) (xs:List (El t))
 | nptr (l k i off:Nat) (t:Ty) (xs:List (El t)) (i2 off2:Nat)
 | app (l i j:Nat) (tt:Ty) (ts:List (El tt)) (t:Ty) (xs:List (El t))
 | capd (l c:Nat)
 | lit (b n:Nat) (t:Ty)
 | aptr (cs:List FC) (off:Nat)
 | clo (fn:Nat) (caps:List Cap)
 | cur
 | dead
instance:Inhabited TV:=⟨.dead⟩
structure Tree where
 t:Ty
 xs:List (El t)
def Tree.k (T:Tree):Nat:=T.t.width
def Tree.n (T:Tree):Nat:=T.xs.length
def Tree.f (T:Tree) (i j:Nat):C:=fcC (cell T.t T.xs i j)
def Cu (T:Tree):fcC (.l T.t T.xs)=.sl T.k T.n T.f:=Eb T.t T.xs
structure St where
 nt:Nat
 tm:List (Nat×TV)
 bx:List (Nat×List Cell)
 hp:List (Nat×Tree)
 fb:List Nat
 fl:List Nat
def look {α:Type}:List (Nat×α)->Nat->Option α
 | [],_=>none
 | (s,v)::r,t=>if t==s then some v else look r t
def put {α:Type}:List (Nat×α)->Nat->α->List (Nat×α)
 | [],t,v=>[(t,v)]
 | (s,u)::r,t,v=>if t==s then(s,v)::r else(s,u)::put r t v
def DI {α:Type} (l:List (Nat×α)) (t s:Nat) (v:α):look (put l t v) s=if s=t then some v else look l s:=by
 induction l with
 | nil=>simp only[put,look,da]
 | cons p r ih=>
  obtain⟨s',u⟩:=p;simp only[put];by_cases h:t=s'
  .subst h;simp only[BEq.rfl,aD,look,da];simp_all
  .have h0:(t==s')=false:=by simpa using h
   simp only[h0,cD,aS,look,da,ih];grind
inductive Own where
 | gone
 | free
 | lab (l:Nat)
 | box (b:Nat)
 | cur
structure Gh where
 ow:Nat->Own
 be:Nat->Nat
 hv:Nat->Value
def src (G:Gh):Option Nat->Nat->Prop
 | none,g=>G.ow g=.free
 | some l,g=>G.ow g=.lab l
def Amd (hv:Value) (k lo n:Nat) (v:Value):Prop :=
 (∃ ad,hv=.slice ad 0 0/\lo=0/\n=0/\v=.slice ad 0 0) \/
 ∃ g o m cap o',hv=.slice (some ⟨g,o,none⟩) m cap/\lo+n<=cap/\v=.slice (some ⟨g,o',none⟩) n (cap-lo)/\(o'=o+lo*k\/(cap=lo/\o'<=o+cap*k))
def CellR (w:World) (G:Gh):Cell->Value->Prop
 | .sc u,v=>v=u/\plain u=true
 | .tt,v=>v=.bool true
 | .ff,v=>v=.bool false
 | .nil,v=>v=.slice none 0 0
 | .ref l,v=>v=G.hv l/\v.oneCell'=true
 | .sub l k lo n,v=>Amd (G.hv l) k lo n v
 | .im s t xs,v=>TR w (src G s) (fcC (.l t xs)) v
 | .dead,v=>v.oneCell'=true
def A4 (w:World) (G:Gh) (cs:List Cell) (vs:Array Value):Prop:=vs.size=cs.length/\∀ (j:Nat) (c:Cell),cs[j]? = some c->∃ u,vs[j]? = some u/\CellR w G c u
def G6 (w:World) (G:Gh) (agg:Bool) (cs:List Cell) (v:Value):Prop :=
 match agg with
 | false=>∃ c,cs=[c]/\CellR w G c v
 | true=>∃ vs:Array Value,v=.agg vs/\A4 w G cs vs
def Rl (w:World) (G:Gh) (cs:List FC) (r:Array Value):Prop:=∀ (j:Nat) (c:FC),cs[j]? = some c->∃ u,r[j]? = some u/\TR w (src G none) (fcC c) u
def ZF (w:World) (G:Gh):Cap->Value->Prop
 | .ptr b,v=>v=.pointer (some ⟨G.be b,0,none⟩)
 | .aptr cs,v=>∃ g r e fr,v=.pointer (some ⟨g,0,none⟩)/\G.ow g=.free/\w.heap[g]? = some (.cells r e fr)/\Rl w G cs r
structure InnAt (w:World) (G:Gh) (l e j:Nat) (T:Tree) (v:Value) (g o cap:Nat) (row:Array Value) (ety:TypeId) (GG:Nat->Nat->Nat->Prop):Prop where
 hv:G.hv l=.slice (some ⟨g,o,none⟩) T.n cap
 hn:T.n<=cap
 hc:o+cap*T.k<=row.size
 hg:w.heap[g]? = some (.cells row ety (0,0))
 own:G.ow g=.lab l
 cells:∀ i,i<T.n->∀ j,j<T.k->∃ u,row[o+i*T.k+j]? = some u/\TO w (T.f i j) u (GG i j)
 sub:∀ i,i<T.n->∀ j,j<T.k->∀ b,GG i j b->G.ow b=.lab l/\b≠g
 dis:∀ i,i<T.n->∀ j,j<T.k->∀ i',i'<T.n->∀ j',j'<T.k->∀ b,GG i j b->GG i' j' b->i=i'/\j=j'
 he:e<T.n
 hj:j<T.k
 at_:row[o+e*T.k+j]? = some v
def InnR (w:World) (G:Gh) (l k i off:Nat) (v:Value):Prop:=∃ g o n cap r e,G.hv l=.slice (some ⟨g,o,none⟩) n cap/\i<n/\off<k/\G.ow g=.lab l/\w.heap[g]? = some (.cells r e (0,0))/\r[o+i*k+off]? = some v
def SptrR (w:World) (G:Gh) (s:Option Nat) (t:Ty) (x:El t) (off:Nat) (v:Value):Prop:=∃ g o r e fr,v=.pointer (some ⟨g,o+off,none⟩)/\src G s g/\w.heap[g]? = some (.cells r e fr)/\∀ j,j<t.width->∃ u,r[o+j]? = some u/\TR w (src G s) (fcC ((enc t x).getD j .nl)) u
def TVR (w:World) (G:Gh):TV->Value->Prop
 | .v agg cs,v=>G6 w G agg cs v
 | .tup ps,v=>∃ vs:Array Value,v=.tuple vs/\vs.size=ps.length/\∀ (j:Nat) (p:Bool×List Cell),ps[j]? = some p->∃ u,vs[j]? = some u/\G6 w G p.1 p.2 u
 | .ptr b off,v=>v=.pointer (some ⟨G.be b,off,none⟩)
 | .lit b n _,v=>v=.slice (some ⟨G.be b,0,none⟩) n n
 | .eptr l k i off,v=>∃ g o n cap,G.hv l=.slice (some ⟨g,o,none⟩) n cap/\v=.pointer (some ⟨g,o+i*k+off,none⟩)
 | .sptr s t x off,v=>SptrR w G s t x off v
 | .inn l k i off t xs,v=>InnR w G l k i off v/\TR w (src G (some l)) (fcC (.l t xs)) v
 | .nptr l k i off t xs i2 o2,v=>(∃ u g o n cap,InnR w G l k i off u/\u=.slice (some ⟨g,o,none⟩) n cap/\i2<n/\v=.pointer (some ⟨g,o+i2*t.width+o2,none⟩))/\SptrR w G (some l) t (xs.getD i2 default) o2 v
 | .app l e j tt ts t xs,v=>(∃ v0 g o cap row ety GG H,InnAt w G l e j ⟨tt,ts⟩ v0 g o cap row ety GG/\TO w (fcC (.l t xs)) v H/\∀ b,H b->(G.ow b=.lab l/\b≠g)/\∀ i',i'<ts.length->∀ j',j'<tt.width->GG i' j' b->i'=e/\j'=j)/\TR w (src G (some l)) (fcC (.l t xs)) v
 | .capd l c,v=>(v=G.hv l/\v.oneCell'=true)/\∃ a n,G.hv l=.slice a n c
 | .aptr cs off,v=>∃ g r e fr,v=.pointer (some ⟨g,off,none⟩)/\G.ow g=.free/\w.heap[g]? = some (.cells r e fr)/\Rl w G cs r
 | .clo fn caps,v=>∃ vs:Array Value,v=.func (.func fn) #[] vs/\vs.size=caps.length/\∀ (j:Nat) (c:Cap),caps[j]? = some c->∃ u,vs[j]? = some u/\ZF w G c u
 | .cur,v=>∃ g,v=.pointer (some ⟨g,0,none⟩)/\G.ow g=.cur
 | .dead,_=>True
def CurOk (w:World) (G:Gh) (g:Nat):Prop:=∃ (xs:List (El .u8)) (b:Value) (i h:Int) (e:TypeId),w.heap[g]? = some (.cells #[b,.int .i64 i,.int .i64 h] e (0,0))/\TR w (src G none) (fcC (.l .u8 xs)) b/\xs.length<=1000000000000000000/\0<=i/\i<=9223372036854775807/\-9223372036854775808<=h/\h<=9223372036854775807
def CurStep (w w':World) (g:Nat):Prop:=∃ (b:Value) (i h i' h':Int) (e:TypeId),w.heap[g]? = some (.cells #[b,.int .i64 i,.int .i64 h] e (0,0))/\w'.heap[g]? = some (.cells #[b,.int .i64 i',.int .i64 h'] e (0,0))/\0<=i'/\i'<=9223372036854775807/\-9223372036854775808<=h'/\h'<=9223372036854775807
def CurStep.trans {w w1 w2:World} {g:Nat} (h:CurStep w w1 g) (h':CurStep w1 w2 g):CurStep w w2 g:=by
 obtain⟨b,i,n,i',n',e,a1,a2,_⟩:=h;obtain⟨c,j,m,j',m',f,c1,c2,c3⟩:=h';rw[a2] at c1;injection c1 with c1
 injection c1 with q1 q2 q3
 simp only[Array.mk.injEq,List.cons.injEq] at q1;obtain⟨rfl,_⟩:=q1;subst q2;exact⟨b,i,n,j',m',e,a1,c2,c3⟩
def CurOk.same {w w':World} {G:Gh} {g:Nat} (h:CurOk w G g) (hg:w'.heap[g]? = w.heap[g]?):CurStep w w' g:=by
 obtain⟨xs,b,i,n,e,h1,_,_,h2⟩:=h;exact⟨b,i,n,i,n,e,h1,hg.trans h1,h2⟩
def Laid (P:Program) (w:World):Prop := ((P.globalNamed "internal/strconv.uint64pow10").isSome=true->Lib.TabIs P w "internal/strconv.uint64pow10" .u64 Lib.pow10Tab) /\
 ((P.globalNamed "strconv.ErrSyntax").isSome=true->∃ tp p,w.var? P "strconv.ErrSyntax" = some #[.iface tp p])/\((P.globalNamed "strconv.ErrRange").isSome=true->∃ tp p,w.var? P "strconv.ErrRange" = some #[.iface tp p])
def Base (P:Program) (w:World) (ow:Nat->Own):Prop:=∃ w1:World,w1.ShapedOpen P/\Laid P w1/\∀ g,g<w1.heap.size->g<w.heap.size/\ow g=.free/\w.heap[g]? = w1.heap[g]?
def Aav {w:World} {i:Nat} {o:Obj} (h:w.heap[i]? = some o):i<w.heap.size:=(Array.getElem?_eq_some_iff.1 h).1
def Base.shaped {P:Program} {w:World} {ow:Nat->Own} (h:Base P w ow):w.ShapedOpen P:=by
 obtain⟨w1,h1,_,h2⟩:=h;refine⟨λg zero t hg hz=>?_,λk hk1 hk2=>?_⟩
 .obtain⟨cs,a1,a2,a3⟩:=h1.1 g zero t hg hz;refine⟨cs,((h2 g (Aav a1)).2.2).trans a1,a2,λhb=>Row.ok_of_shape (λb x hx=>?_) (a3 hb)⟩;have hlt:b<w1.heap.size:=by
   rcases Nat.lt_or_ge b w1.heap.size with h'|h'
   .exact h'
   .simp[World.shape?,Array.getElem?_eq_none h'] at hx
  simpa [World.shape?,(h2 b hlt).2.2] using hx
 .obtain⟨o,o₀,a1,a2,a3⟩:=h1.2 k hk1 hk2;grind
def TW {P:Program} {w w1:World} {n:String} {cs:Array Value} (h:∀ g,g<w1.heap.size->w.heap[g]? = w1.heap[g]?) (hv:w1.var? P n=some cs):w.var? P n=some cs:=by
 unfold World.var? at hv ⊢;cases hg:P.globalNamed n with
 | none=>simp[hg] at hv
 | some g=>
  grind
def Base.laid {P:Program} {w:World} {ow:Nat->Own} (h:Base P w ow):Laid P w:=by
 obtain⟨w1,_,⟨l1,l2,l3⟩,h2⟩:=h;have he:∀ g,g<w1.heap.size->w.heap[g]? = w1.heap[g]?:=λg hg=>(h2 g hg).2.2
 exact⟨λh=>TW he (l1 h),λh=>let ⟨tp,p,hv⟩:=l2 h;⟨tp,p,TW he hv⟩,λh=>let ⟨tp,p,hv⟩:=l3 h;⟨tp,p,TW he hv⟩⟩
structure Fr (P:Program) where
 w0:World
 ow0:Nat->Own
 be0:List (Nat×Nat)
 hv0:List (Nat×Value)
 ok:Base P w0 ow0
structure Keeps {P:Program} (F:Fr P) (G:Gh) (w:World):Prop where
 free:∀ g,g<F.w0.heap.size->F.ow0 g=.free->w.heap[g]? = F.w0.heap[g]?/\G.ow g=.free
 cur:∀ g,g<F.w0.heap.size->F.ow0 g=.cur->G.ow g=.cur/\CurStep F.w0 w g
 at_:∀ g,G.ow g=.cur->CurOk w G g
structure RG {P:Program} (F:Fr P) (G:Gh) (J:St) (a:Act) (w:World):Prop where
 tm:∀ t tv,look J.tm t=some tv->TVR w G tv (a.tmps.getD t undef)
 bx:∀ b cs,look J.bx b=some cs->G.ow (G.be b)=.box b/\∃ r e,w.heap[G.be b]? = some (.cells r e (0,0))/\A4 w G cs r
 hp:∀ l T,look J.hp l=some T->TO w (.sl T.k T.n T.f) (G.hv l) (λg=>G.ow g=.lab l)
 lt:∀ g,G.ow g≠.gone->g<w.heap.size
 os:w.os=F.w0.os
 tape:w.tape=F.w0.tape
 output:w.output=F.w0.output/\DrLe F.w0.drawn w.drawn
 size:F.w0.heap.size<=w.heap.size
 keep:Keeps F G w
 fb:∀ b β,look F.be0 b=some β->G.be b=β/\J.fb.contains b=true
 fl:∀ l v,look F.hv0 l=some v->G.hv l=v/\J.fl.contains l=true
 nt:a.tmps.size=J.nt
 df:a.defers=[]
def RG.base {P:Program} {F:Fr P} {G:Gh} {J:St} {a:Act} {w:World} (h:RG F G J a w):Base P w G.ow :=
 let ⟨w1,h1,hl,h2⟩:=F.ok
 ⟨w1,h1,hl,λg hg=>let ⟨a,b,c⟩:=h2 g hg;let ⟨d,e⟩:=h.keep.free g a b;⟨fq a h.size,e,d.trans c⟩⟩
def R {P:Program} (F:Fr P) (J:St) (a:Act) (w:World):Prop:=∃ G,RG F G J a w
def Cell.val? : Cell->Option Value
 | .sc v=>some v
 | .tt=>some (.bool true)
 | .ff=>some (.bool false)
 | _=>none
def Gl:Value->Cell
 | .bool true=>.tt
 | .bool false=>.ff
 | .int k n=>.sc (.int k n)
 | .string s=>.sc (.string s)
 | .slice none 0 0=>.nil
 | _=>.dead
def St.get (J:St) (t:Nat):TV:=(look J.tm t).getD .dead
def St.put (J:St) (t:Nat) (v:TV):St:={ J with tm:=D.put J.tm t v }
def TV.flat:TV->TV
 | .inn l _ _ _ t xs=>.v false [.im (some l) t xs]
 | .nptr l _ _ _ t xs i off=>.sptr (some l) t (xs.getD i default) off
 | .app l _ _ _ _ t xs=>.v false [.im (some l) t xs]
 | .capd l _=>.v false [.ref l]
 | x=>x
def St.eval (J:St):Operand->TV
 | .tmp t=>(J.get t).flat
 | .const v=>match Gl v with
  | .dead=>.dead
  | c=>.v false [c]
 | .func f=>.clo f []
 | .global _=>.dead
def Nv {v:Value} (h:plain v=true):v.oneCell'=true:=by cases v<;>simp_all [plain,Value.oneCell']
def CellR.one {w:World} {G:Gh} {c:Cell} {v:Value} (h:CellR w G c v):v.oneCell'=true:=by
 cases c with
 | sc u=>obtain⟨rfl,h⟩:=h;exact Nv h
 | tt=>obtain rfl:=h;rfl
 | ff=>obtain rfl:=h;rfl
 | nil=>obtain rfl:=h;rfl
 | ref l=>exact h.2
 | sub l k lo n=>
  rcases h with⟨_,_,_,_,rfl⟩|⟨g,o,m,cap,o',_,_,rfl,_⟩<;>rfl
 | im s t xs=>exact TR.one h
 | dead=>exact h
def Te (w:World) (G:Gh) (v:Value) (h:v.oneCell'=true):CellR w G (Gl v) v:=by
 unfold Gl;split<;>first|rfl|exact⟨rfl,rfl⟩|exact h
def AiI {w:World} {G:Gh} {x:TV} {v:Value} (h:TVR w G x v):TVR w G x.flat v:=by
 cases x<;>first|exact h|exact⟨_,rfl,h.2⟩|exact⟨_,rfl,h.1⟩|exact h.2
def Hg {P:Program} {F:Fr P} {G:Gh} {J:St} {a:Act} {w:World} (h:RG F G J a w) (t:Nat):TVR w G (J.get t) (a.tmps.getD t undef):=by
 simp only[St.get];cases hl:look J.tm t with
 | none=>trivial
 | some tv=>exact h.tm t tv hl
def Aw {P:Program} {F:Fr P} {G:Gh} {J:St} {a:Act} {w:World} (h:RG F G J a w) (x:Operand):TVR w G (J.eval x) (a.eval x):=by
 cases x with
 | tmp t=>
  exact AiI (Hg h t)
 | const v=>
  simp only[St.eval,Act.eval];have hc:(Gl v=.dead)\/CellR w G (Gl v) v:=by unfold Gl;split<;>first|(exact .inl rfl)|(right;rfl)|(right;exact⟨rfl,rfl⟩)
  split
  .trivial
  .rename_i c hne;exact⟨_,rfl,hc.resolve_left λe=>hne e⟩
 | func f=>
  simp only[St.eval,Act.eval];exact⟨#[],rfl,rfl,by simp⟩
 | global g=>trivial
inductive Res where
 | one (agg:Bool) (cs:List FC)
 | tup (ps:List (Bool×List FC))
inductive Ex where
 | normal
 | exit (id:Nat)
 | ret
inductive Out:Type 1 where
 | leaf (r:Res) (bx:List (Nat×List FC)) (hp:List (Nat×Tree))
 | st (e:Ex) (J:St)
 | br (b:Bool) (x y:Out)
 | ob (p:Prop) (x:Out)
 | lp (X:Type) (p:Prop) (inv:X->Prop) (x:X->Out)
 | lt (X:Type) (e:X) (x:X->Out)
 | ok
 | bad
structure Post where
 res:Res->List (Nat×List FC)->List (Nat×Tree)->Prop
 st:Ex->St->Prop
def Out.holds (Q:Post):Out->Prop
 | .leaf r bx hp=>Q.res r bx hp
 | .st e J=>Q.st e J
 | .br b x y=>(b=true->x.holds Q)/\(b=false->y.holds Q)
 | .ob p x=>p/\x.holds Q
 | .lp _ p inv x=>p/\∀ y,inv y->(x y).holds Q
 | .lt _ e x=>(x e).holds Q
 | .ok=>True
 | .bad=>False
def obs:List Prop->Out->Out
 | [],x=>x
 | p::ps,x=>.ob p (obs ps x)
def Dz {Q:Post}:∀ {ps:List Prop} {x:Out},(obs ps x).holds Q->(∀ p∈ps,p)/\x.holds Q:=by
 intro ps
 induction ps with
 | nil=>intro x h;exact⟨by simp,h⟩
 | cons p ps ih=>
  intro x h;obtain⟨h1,h2⟩:=h;grind
def Cell.refs:Cell->Nat->Bool
 | .ref m,l=>m==l
 | .sub m _ _ _,l=>m==l
 | _,_=>false
def Cell.mems:Cell->Nat->Bool
 | .im (some m) _ _,l=>m==l
 | _,_=>false
def TV.refs:TV->Nat->Bool
 | .v _ cs,l=>cs.any (·.refs l)
 | .tup ps,l=>ps.any λp=>p.2.any (·.refs l)
 | .eptr m _ _ _,l=>m==l
 | .inn m _ _ _ _ _,l=>m==l
 | .nptr m _ _ _ _ _ _ _,l=>m==l
 | .app m _ _ _ _ _ _,l=>m==l
 | .capd m _,l=>m==l
 | _,_=>false
def TV.mems:TV->Nat->Bool
 | .v _ cs,l=>cs.any (·.mems l)
 | .tup ps,l=>ps.any λp=>p.2.any (·.mems l)
 | .sptr (some m) _ _ _,l=>m==l
 | .inn m _ _ _ _ _,l=>m==l
 | .nptr m _ _ _ _ _ _ _,l=>m==l
 | .app m _ _ _ _ _ _,l=>m==l
 | .capd m _,l=>m==l
 | _,_=>false
def Cap.hasB:Cap->Nat->Bool
 | .ptr m,b=>m==b
 | _,_=>false
def TV.hasB:TV->Nat->Bool
 | .ptr m _,b=>m==b
 | .lit m _ _,b=>m==b
 | .clo _ caps,b=>caps.any (·.hasB b)
 | _,_=>false
def St.hasB (J:St) (b:Nat):Bool:=J.tm.any (λp=>p.2.hasB b)||J.fb.contains b
def Cell.kill (ls:List Nat) (c:Cell):Cell:=if ls.any (λl=>c.refs l||c.mems l) then .dead else c
def Cell.loose (ls:List Nat) (c:Cell):Cell:=if ls.any (λl=>c.mems l) then .dead else c
def TV.map (fc:Cell->Cell) (bad:TV->Bool):TV->TV
 | .v a cs=>.v a (cs.map fc)
 | .tup ps=>.tup (ps.map λp=>(p.1,p.2.map fc))
 | x=>if bad x then .dead else x
def TV.kill (ls:List Nat) (x:TV):TV:=x.map (·.kill ls) λx=>ls.any λl=>x.refs l||x.mems l
def TV.loose (ls:List Nat) (x:TV):TV:=x.map (·.loose ls) λx=>ls.any λl=>x.mems l
def St.map (J:St) (fc:Cell->Cell) (fv:TV->TV):St:={ J with tm:=J.tm.map λp=>(p.1,fv p.2),bx:=J.bx.map λp=>(p.1,p.2.map fc)}
def St.kill (J:St) (ls:List Nat):St:=J.map (·.kill ls) (·.kill ls)
def St.loose (J:St) (ls:List Nat):St:=J.map (·.loose ls) (·.loose ls)
end Go.D
namespace Go.D
def A8 {α β:Type} (f:α->β) (l:List (Nat×α)) (t:Nat):look (l.map λp=>(p.1,f p.2)) t=(look l t).map f:=by
 induction l with
 | nil=>rfl
 | cons p r ih=>
  obtain⟨s,v⟩:=p;simp only[aY,look];split<;>simp_all
def U5 {α:Type} (l r:List (Nat×α)) (t:Nat):look (l++r) t=(look l t).or (look r t):=by
 induction l with
 | nil=>simp[look]
 | cons p l ih=>
  obtain⟨s,v⟩:=p;simp only[cy,look];split<;>simp_all
def Bn {α:Type} (q:Nat->Bool) (l:List (Nat×α)) (t:Nat):look (l.filter λp=>q p.1) t=if q t then look l t else none:=by
 induction l with
 | nil=>simp[look]
 | cons p l ih=>
  obtain⟨s,v⟩:=p;simp only[List.filter_cons,look];by_cases h:t=s
  .subst h;cases hq:q t<;>simp[look,hq,ih]
  .have h0:(t==s)=false:=by simpa using h
   cases hq:q s<;>simp[look,h0,ih]
def Cf (w w':World) (G G':Gh):Prop:=(∀ g,G.ow g=.free->w'.heap[g]? = w.heap[g]?/\G'.ow g=.free)/\∀ g,G.ow g=.cur->G'.ow g=.cur
def En (w w':World) (G G':Gh) (m:Nat):Prop:=∀ g,G.ow g=.lab m->w'.heap[g]? = w.heap[g]?/\G'.ow g=.lab m
def Cons.carry {w w':World} {G G':Gh} (hf:Cf w w' G G') {cs:List FC} {r:Array Value} (h:Rl w G cs r):Rl w' G' cs r :=
 λj c hc=>let ⟨u,hu,ht⟩:=h j c hc;⟨u,hu,ht.frame λg hg _=>hf.1 g hg⟩
def Cell.carry {w w':World} {G G':Gh} (hf:Cf w w' G G') {c:Cell} {v:Value} (hr:∀ m,c.refs m=true->G'.hv m=G.hv m) (hm:∀ m,c.mems m=true->En w w' G G' m)
 (h:CellR w G c v):CellR w' G' c v:=by
 cases c with
 | sc u=>exact h
 | tt=>exact h
 | ff=>exact h
 | nil=>exact h
 | dead=>exact h
 | ref l=>exact⟨by rw[hr l (by simp[Cell.refs])];exact h.1,h.2⟩
 | sub l k lo n=>simp only[CellR] at h ⊢;rw[hr l (by simp[Cell.refs])];exact h
 | im s t xs=>
  cases s with
  | none=>exact TR.frame (λg hg _=>hf.1 g hg) h
  | some l=>exact TR.frame (λg hg _=>hm l (by simp[Cell.mems]) g hg) h
def Cells.carry {w w':World} {G G':Gh} (hf:Cf w w' G G') {cs:List Cell} {vs:Array Value} (hr:∀ m,cs.any (·.refs m)=true->G'.hv m=G.hv m) (hm:∀ m,cs.any (·.mems m)=true->En w w' G G' m)
 (h:A4 w G cs vs):A4 w' G' cs vs:=by
 refine⟨h.1,λj c hc=>?_⟩;obtain⟨u,hu,ht⟩:=h.2 j c hc;have hmem:c∈cs:=fJ hc;exact⟨u,hu,Cell.carry hf (λm h=>hr m (bI.2 ⟨c,hmem,h⟩)) (λm h=>hm m (bI.2 ⟨c,hmem,h⟩)) ht⟩
def Part.carry {w w':World} {G G':Gh} (hf:Cf w w' G G') {agg:Bool} {cs:List Cell} {v:Value} (hr:∀ m,cs.any (·.refs m)=true->G'.hv m=G.hv m) (hm:∀ m,cs.any (·.mems m)=true->En w w' G G' m)
 (h:G6 w G agg cs v):G6 w' G' agg cs v:=by
 cases agg with
 | false=>
  obtain⟨c,rfl,h⟩:=h;exact⟨c,rfl,Cell.carry hf (λm hm=>hr m (by simpa using hm)) (λm h=>hm m (by simpa using h)) h⟩
 | true=>
  obtain⟨vs,rfl,h⟩:=h;exact⟨vs,rfl,Cells.carry hf hr hm h⟩
def Cap.carry {w w':World} {G G':Gh} (hf:Cf w w' G G') {c:Cap} {v:Value} (hb:∀ b,c.hasB b=true->G'.be b=G.be b) (h:ZF w G c v):ZF w' G' c v:=by
 cases c with
 | ptr b=>simp only[ZF] at h ⊢;rw[hb b (by simp[Cap.hasB])];exact h
 | aptr cs=>
  obtain⟨g,r,e,fr,hv,ho,hg,h⟩:=h;obtain⟨h1,h2⟩:=hf.1 g ho;exact⟨g,r,e,fr,hv,h2,h1.trans hg,Cons.carry hf h⟩
def InnR.carry {w w':World} {G G':Gh} {l k i off:Nat} {v:Value} (hr:G'.hv l=G.hv l) (hm:En w w' G G' l) (h:InnR w G l k i off v):InnR w' G' l k i off v:=by
 obtain⟨g,o,n,cap,r,e,h1,h2,h3,h4,h5,h6⟩:=h;exact⟨g,o,n,cap,r,e,hr.trans h1,h2,h3,(hm g h4).2,(hm g h4).1.trans h5,h6⟩
def SptrR.carryS {w w':World} {G G':Gh} {l:Nat} {t:Ty} {x:El t} {off:Nat} {v:Value} (hm:En w w' G G' l) (h:SptrR w G (some l) t x off v):SptrR w' G' (some l) t x off v:=by
 obtain⟨g,o,r,e,fr,hv,ho,hg,h⟩:=h;refine⟨g,o,r,e,fr,hv,(hm g ho).2,(hm g ho).1.trans hg,λj hj=>?_⟩;obtain⟨u,hu,ht⟩:=h j hj;exact⟨u,hu,ht.frame λb hb' _=>hm b hb'⟩
def InnAt.carry {w w':World} {G G':Gh} {l e j:Nat} {T:Tree} {v:Value} {g o cap:Nat} {row:Array Value} {ety:TypeId} {GG:Nat->Nat->Nat->Prop} (hr:G'.hv l=G.hv l) (hm:En w w' G G' l) (h:InnAt w G l e j T v g o cap row ety GG):InnAt w' G' l e j T v g o cap row ety GG :=
 ⟨hr.trans h.hv,h.hn,h.hc,(hm g h.own).1.trans h.hg,(hm g h.own).2,λi hi j hj=>let ⟨u,hu,ht⟩:=h.cells i hi j hj;⟨u,hu,ht.frame λb hb _=>⟨(hm b (h.sub i hi j hj b hb).1).1,hb⟩⟩,λi hi j hj b hb=>let ⟨x,y⟩:=h.sub i hi j hj b hb;⟨(hm b x).2,y⟩,h.dis,h.he,h.hj,h.at_⟩
def Pe {w w':World} {G G':Gh} {l k i off:Nat} {t:Ty} {xs:List (El t)} {i2 o2:Nat} {v:Value} (hr:G'.hv l=G.hv l) (hm:En w w' G G' l) (h:TVR w G (.nptr l k i off t xs i2 o2) v):TVR w' G' (.nptr l k i off t xs i2 o2) v:=by
 obtain⟨⟨u,g,o,n,cap,h1,h2,h3,h4⟩,h5⟩:=h;exact⟨⟨u,g,o,n,cap,h1.carry hr hm,h2,h3,h4⟩,h5.carryS hm⟩
def Si {w w':World} {G G':Gh} {l e j:Nat} {tt:Ty} {ts:List (El tt)} {t:Ty} {xs:List (El t)} {v:Value} (hr:G'.hv l=G.hv l) (hm:En w w' G G' l) (h:TVR w G (.app l e j tt ts t xs) v):TVR w' G' (.app l e j tt ts t xs) v:=by
 obtain⟨⟨v0,g,o,cap,row,ety,GG,H,h1,h2,h3⟩,h4⟩:=h;exact⟨⟨v0,g,o,cap,row,ety,GG,H,h1.carry hr hm,h2.frame λb hb _=>⟨(hm b (h3 b hb).1.1).1,hb⟩,λb hb=>⟨⟨(hm b (h3 b hb).1.1).2,(h3 b hb).1.2⟩,(h3 b hb).2⟩⟩,h4.frame λb hb _=>hm b hb⟩
def TV.carry {w w':World} {G G':Gh} (hf:Cf w w' G G') {x:TV} {v:Value} (hr:∀ m,x.refs m=true->G'.hv m=G.hv m) (hm:∀ m,x.mems m=true->En w w' G G' m)
 (hb:∀ b,x.hasB b=true->G'.be b=G.be b) (h:TVR w G x v):TVR w' G' x v:=by
 cases x with
 | dead=>trivial
 | cur=>obtain⟨g,hv,hg⟩:=h;exact⟨g,hv,hf.2 g hg⟩
 | v agg cs=>exact Part.carry hf hr hm h
 | tup ps=>
  obtain⟨vs,hv,hs,h⟩:=h;refine⟨vs,hv,hs,λj p hp=>?_⟩;obtain⟨u,hu,ht⟩:=h j p hp;have hmem:p∈ps:=fJ hp;exact⟨u,hu,Part.carry hf (λm h=>hr m (bI.2 ⟨p,hmem,h⟩)) (λm h=>hm m (bI.2 ⟨p,hmem,h⟩)) ht⟩
 | ptr b off=>simp only[TVR] at h ⊢;rw[hb b (by simp[TV.hasB])];exact h
 | lit b n t=>simp only[TVR] at h ⊢;rw[hb b (by simp[TV.hasB])];exact h
 | eptr l k i off=>simp only[TVR] at h ⊢;rw[hr l (by simp[TV.refs])];exact h
 | inn l k i off t xs=>
  have hml:=hm l (by simp[TV.mems]);exact⟨h.1.carry (hr l (by simp[TV.refs])) hml,h.2.frame λb hb' _=>hml b hb'⟩
 | nptr l k i off t xs i2 o2=>exact Pe (hr l (by simp[TV.refs])) (hm l (by simp[TV.mems])) h
 | app l e j tt ts t xs=>exact Si (hr l (by simp[TV.refs])) (hm l (by simp[TV.mems])) h
 | capd l c=>
  obtain⟨⟨h1,h2⟩,a,n,h3⟩:=h;have e:=hr l (by simp[TV.refs]);exact⟨⟨h1.trans e.symm,h2⟩,a,n,e.trans h3⟩
 | sptr s t x off=>
  obtain⟨g,o,r,e,fr,hv,ho,hg,h⟩:=h;have key:w'.heap[g]? = w.heap[g]?/\src G' s g:=by
   cases s with
   | none=>exact hf.1 g ho
   | some l=>exact hm l (by simp[TV.mems]) g ho
  refine⟨g,o,r,e,fr,hv,key.2,key.1.trans hg,λj hj=>?_⟩;obtain⟨u,hu,ht⟩:=h j hj;refine⟨u,hu,ht.frame λb hb' _=>?_⟩;cases s with
  | none=>exact hf.1 b hb'
  | some l=>exact hm l (by simp[TV.mems]) b hb'
 | aptr cs off=>
  obtain⟨g,r,e,fr,hv,ho,hg,h⟩:=h;obtain⟨h1,h2⟩:=hf.1 g ho;exact⟨g,r,e,fr,hv,h2,h1.trans hg,Cons.carry hf h⟩
 | clo fn caps=>
  obtain⟨vs,hv,hs,h⟩:=h;refine⟨vs,hv,hs,λj c hc=>?_⟩;obtain⟨u,hu,ht⟩:=h j c hc;exact⟨u,hu,Cap.carry hf (λb hb'=>hb b (bI.2 ⟨c,fJ hc,hb'⟩)) ht⟩
def Cell.kill_ok {w:World} {G:Gh} {c:Cell} {v:Value} (ls:List Nat) (h:CellR w G c v):CellR w G (c.kill ls) v:=by
 unfold Cell.kill;split
 .exact h.one
 .exact h
def Cell.loose_ok {w:World} {G:Gh} {c:Cell} {v:Value} (ls:List Nat) (h:CellR w G c v):CellR w G (c.loose ls) v:=by
 unfold Cell.loose;split
 .exact h.one
 .exact h
def Cells.map_ok {w:World} {G:Gh} {cs:List Cell} {vs:Array Value} {f:Cell->Cell} (hf:∀ c v,CellR w G c v->CellR w G (f c) v) (h:A4 w G cs vs):A4 w G (cs.map f) vs:=by
 refine⟨by simpa using h.1,λj c hc=>?_⟩;rw[cz] at hc;cases hq:cs[j]? with
 | none=>simp[hq] at hc
 | some c0=>
  simp only[hq,bC,R_] at hc;subst hc;obtain⟨u,hu,ht⟩:=h.2 j c0 hq;simp_all
def Part.map_ok {w:World} {G:Gh} {agg:Bool} {cs:List Cell} {v:Value} {f:Cell->Cell} (hf:∀ c v,CellR w G c v->CellR w G (f c) v) (h:G6 w G agg cs v):G6 w G agg (cs.map f) v:=by
 cases agg with
 | false=>obtain⟨c,rfl,h⟩:=h;exact⟨f c,rfl,hf _ _ h⟩
 | true=>obtain⟨vs,rfl,h⟩:=h;exact⟨vs,rfl,Cells.map_ok hf h⟩
def TV.map_ok {w:World} {G:Gh} {x:TV} {v:Value} {f:Cell->Cell} {bad:TV->Bool} (hf:∀ c v,CellR w G c v->CellR w G (f c) v) (h:TVR w G x v):TVR w G (x.map f bad) v:=by
 cases x with
 | v agg cs=>exact Part.map_ok hf h
 | tup ps=>
  obtain⟨vs,hv,hs,h⟩:=h;refine⟨vs,hv,by simpa using hs,λj p hp=>?_⟩;rw[cz] at hp;cases hq:ps[j]? with
  | none=>simp[hq] at hp
  | some p0=>
   simp only[hq,bC,R_] at hp;subst hp;obtain⟨u,hu,ht⟩:=h j p0 hq;exact⟨u,hu,Part.map_ok hf ht⟩
 | _=>
  simp only[TV.map];split
  .trivial
  .exact h
def Cell.kill_refs {c:Cell} {ls:List Nat} {m:Nat} (h:(c.kill ls).refs m=true):c.refs m=true/\m∉ls:=by
 unfold Cell.kill at h;split at h
 .simp[Cell.refs] at h
 .grind
def Cell.kill_mems {c:Cell} {ls:List Nat} {m:Nat} (h:(c.kill ls).mems m=true):c.mems m=true/\m∉ls:=by
 unfold Cell.kill at h;split at h
 .simp[Cell.mems] at h
 .grind
def Cell.loose_mems {c:Cell} {ls:List Nat} {m:Nat} (h:(c.loose ls).mems m=true):c.mems m=true/\m∉ls:=by
 unfold Cell.loose at h;split at h
 .simp[Cell.mems] at h
 .grind
def Ht {cs:List Cell} {ls:List Nat} {m:Nat} (h:(cs.map (·.kill ls)).any (·.refs m)=true):m∉ls:=by
 simp only[List.any_map,bI,Function.comp] at h;obtain⟨c,_,hc⟩:=h;exact(Cell.kill_refs hc).2
def Hw {cs:List Cell} {ls:List Nat} {m:Nat} (h:(cs.map (·.kill ls)).any (·.mems m)=true):m∉ls:=by
 simp only[List.any_map,bI,Function.comp] at h;obtain⟨c,_,hc⟩:=h;exact(Cell.kill_mems hc).2
def Jh {cs:List Cell} {ls:List Nat} {m:Nat} (h:(cs.map (·.loose ls)).any (·.mems m)=true):m∉ls:=by
 simp only[List.any_map,bI,Function.comp] at h;obtain⟨c,_,hc⟩:=h;exact(Cell.loose_mems hc).2
def TV.kill_refs {x:TV} {ls:List Nat} {m:Nat} (h:(x.kill ls).refs m=true):m∉ls:=by
 cases x<;>simp only[TV.kill,TV.map] at h
 case v agg cs=>exact Ht h
 case tup ps=>
  simp only[TV.refs,List.any_map,bI] at h;obtain⟨p,_,hp⟩:=h;exact Ht (by simpa using hp)
 all_goals
  split at h
  .simp[TV.refs] at h
  .rename_i hn;exact λhm=>hn (bI.2 ⟨m,hm,by simp[h]⟩)
def TV.kill_mems {x:TV} {ls:List Nat} {m:Nat} (h:(x.kill ls).mems m=true):m∉ls:=by
 cases x<;>simp only[TV.kill,TV.map] at h
 case v agg cs=>exact Hw h
 case tup ps=>
  simp only[TV.mems,List.any_map,bI] at h;obtain⟨p,_,hp⟩:=h;exact Hw (by simpa using hp)
 all_goals
  split at h
  .simp[TV.mems] at h
  .rename_i hn;exact λhm=>hn (bI.2 ⟨m,hm,by simp[h]⟩)
def Iv {cs:List Cell} {ls:List Nat} {m:Nat} (h:(cs.map (·.loose ls)).any (·.mems m)=true):cs.any (·.mems m)=true:=by
 simp only[List.any_map,bI,Function.comp] at h;obtain⟨c,hm,hc⟩:=h;exact bI.2 ⟨c,hm,(Cell.loose_mems hc).1⟩
def TV.loose_mems' {x:TV} {ls:List Nat} {m:Nat} (h:(x.loose ls).mems m=true):x.mems m=true:=by
 cases x<;>simp only[TV.loose,TV.map] at h
 case v agg cs=>exact Iv h
 case tup ps=>
  simp only[TV.mems,List.any_map,bI] at h;obtain⟨p,hm,hp⟩:=h;exact bI.2 ⟨p,hm,Iv (by simpa using hp)⟩
 all_goals
  split at h
  .simp[TV.mems] at h
  .exact h
def TV.loose_mems {x:TV} {ls:List Nat} {m:Nat} (h:(x.loose ls).mems m=true):m∉ls:=by
 cases x<;>simp only[TV.loose,TV.map] at h
 case v agg cs=>exact Jh h
 case tup ps=>
  simp only[TV.mems,List.any_map,bI] at h;obtain⟨p,_,hp⟩:=h;exact Jh (by simpa using hp)
 all_goals
  split at h
  .simp[TV.mems] at h
  .rename_i hn;exact λhm=>hn (bI.2 ⟨m,hm,by simp[h]⟩)
def CurOk.carry {w w':World} {G G':Gh} (hf:Cf w w' G G') {g:Nat} (hg:w'.heap[g]? = w.heap[g]?) (h:CurOk w G g):CurOk w' G' g:=by
 obtain⟨xs,b,i,n,e,h1,h2,h3⟩:=h;exact⟨xs,b,i,n,e,hg.trans h1,h2.frame λg hg _=>hf.1 g hg,h3⟩
def CurOk.step {w w':World} {G G':Gh} (hf:Cf w w' G G') {g:Nat} (hg:CurStep w w' g) (h:CurOk w G g):CurOk w' G' g:=by
 obtain⟨xs,b,i,n,e,h1,h2,h3,_⟩:=h;obtain⟨c,j,m,j',m',f,c1,c2,c3⟩:=hg;rw[h1] at c1;injection c1 with c1
 injection c1 with q1 q2 q3
 simp only[Array.mk.injEq,List.cons.injEq] at q1;obtain⟨rfl,_⟩:=q1;exact⟨xs,b,j',m',f,c2,h2.frame λg hg _=>hf.1 g hg,h3,c3⟩
def Keeps.step {P:Program} {F:Fr P} {w w':World} {G G':Gh} (h:Keeps F G w) (hf:Cf w w' G G') (hc:∀ g,G.ow g=.cur->CurStep w w' g) (hn:∀ g,G'.ow g=.cur->G.ow g=.cur):Keeps F G' w' :=
 ⟨λg h1 h2=>let ⟨a,b⟩:=h.free g h1 h2;⟨(hf.1 g b).1.trans a,(hf.1 g b).2⟩,λg h1 h2=>let ⟨a,b⟩:=h.cur g h1 h2;⟨hf.2 g a,b.trans (hc g a)⟩,λg hg=>(h.at_ g (hn g hg)).step hf (hc g (hn g hg))⟩
def Keeps.next {P:Program} {F:Fr P} {w w':World} {G G':Gh} (h:Keeps F G w) (hf:Cf w w' G G') (hc:∀ g,G.ow g=.cur->w'.heap[g]? = w.heap[g]?) (hn:∀ g,G'.ow g=.cur->G.ow g=.cur):Keeps F G' w' :=
 h.step hf (λg hg=>(h.at_ g hg).same (hc g hg)) hn
end Go.D
namespace Go.D
def St.setTm (J:St) (d:Option Nat) (x:TV):St:=match d with|some d=>J.put d x|none=>J
def RG.put {P:Program} {F:Fr P} {G:Gh} {J:St} {a:Act} {w:World} (h:RG F G J a w) {d:Nat} {x:TV} {v:Value} (hd:d<J.nt) (hx:TVR w G x v) :
 RG F G (J.put d x) (a.put (some d) v) w where
 tm:=by
  intro t tv hl;simp only[St.put,DI] at hl;have hlt:d<a.tmps.size:=h.nt▸hd;by_cases ht:t=d
  .subst ht;simp at hl;subst hl;simpa [Act.put,hlt] using hx
  .simp only[ht,aS] at hl;have:=h.tm t tv hl;simpa [Act.put,Array.getElem?_setIfInBounds_ne (Ne.symm ht)] using this
 bx:=h.bx
 hp:=h.hp
 lt:=h.lt
 os:=h.os
 tape:=h.tape
 output:=h.output
 size:=h.size
 keep:=h.keep
 fb:=h.fb
 fl:=h.fl
 nt:=by simpa [Act.put,St.put] using h.nt
 df:=h.df
def RG.setTm {P:Program} {F:Fr P} {G:Gh} {J:St} {a:Act} {w:World} (h:RG F G J a w) {d:Option Nat} {x:TV} {v:Value} (hd:∀ t,d=some t->t<J.nt) (hx:TVR w G x v) :
 RG F G (J.setTm d x) (a.put d v) w:=by
 cases d with
 | none=>exact h
 | some t=>exact h.put (hd t rfl) hx
def RG.map {P:Program} {F:Fr P} {G:Gh} {J:St} {a:Act} {w:World} (h:RG F G J a w) {fc:Cell->Cell} {fv:TV->TV} (hc:∀ c v,CellR w G c v->CellR w G (fc c) v)
 (hv:∀ x v,TVR w G x v->TVR w G (fv x) v):RG F G (J.map fc fv) a w where
 tm:=by
  intro t tv hl;simp only[St.map,A8 fv] at hl;cases hq:look J.tm t with
  | none=>simp[hq] at hl
  | some x=>
   simp only[hq,bC,R_] at hl;subst hl;exact hv _ _ (h.tm t x hq)
 bx:=by
  intro b cs hl;simp only[St.map,A8 λcs:List Cell=>cs.map fc] at hl;cases hq:look J.bx b with
  | none=>simp[hq] at hl
  | some x=>
   simp only[hq,bC,R_] at hl;subst hl;obtain⟨h1,r,e,h2,h3⟩:=h.bx b x hq;exact⟨h1,r,e,h2,Cells.map_ok hc h3⟩
 hp:=h.hp
 lt:=h.lt
 os:=h.os
 tape:=h.tape
 output:=h.output
 size:=h.size
 keep:=h.keep
 fb:=h.fb
 fl:=h.fl
 nt:=h.nt
 df:=h.df
def RG.kill {P:Program} {F:Fr P} {G:Gh} {J:St} {a:Act} {w:World} (h:RG F G J a w) (ls:List Nat):RG F G (J.kill ls) a w :=
 h.map (λ_ _=>Cell.kill_ok ls) (λ_ _=>TV.map_ok λ_ _=>Cell.kill_ok ls)
def RG.loose {P:Program} {F:Fr P} {G:Gh} {J:St} {a:Act} {w:World} (h:RG F G J a w) (ls:List Nat):RG F G (J.loose ls) a w :=
 h.map (λ_ _=>Cell.loose_ok ls) (λ_ _=>TV.map_ok λ_ _=>Cell.loose_ok ls)
structure Onward (w w':World):Prop where
 os:w'.os=w.os
 tape:w'.tape=w.tape
 output:w'.output=w.output/\DrLe w.drawn w'.drawn
 size:w.heap.size<=w'.heap.size
def RG.world2 {P:Program} {F:Fr P} {G:Gh} {J:St} {a:Act} {w w':World} (h:RG F G J a w) (ho:Onward w w') (hs:∀ g,G.ow g≠.gone->G.ow g≠.cur->w'.heap[g]? = w.heap[g]?) (hc:∀ g,G.ow g=.cur->CurStep w w' g):RG F G J a w' where
 tm:=λt tv hl=>TV.carry ⟨λg hg=>⟨hs g (by grind) (by simp[hg]),hg⟩,λg hg=>hg⟩ (λ_ _=>rfl) (λm _ g hg=>⟨hs g (by simp[hg]) (by simp[hg]),hg⟩) (λ_ _=>rfl) (h.tm t tv hl)
 bx:=λb cs hl=>by obtain⟨h1,r,e,h2,h3⟩:=h.bx b cs hl;exact⟨h1,r,e,(hs _ (by grind) (by simp[h1])).trans h2,Cells.carry ⟨λg hg=>⟨hs g (by simp[hg]) (by simp[hg]),hg⟩,λg hg=>hg⟩ (λ_ _=>rfl) (λm _ g hg=>⟨hs g (by simp[hg]) (by simp[hg]),hg⟩) h3⟩
 hp:=λl T hl=>(h.hp l T hl).frame λg hg _=>⟨hs g (by grind) (by simp[hg]),hg⟩
 lt:=λg hg=>fq (h.lt g hg) ho.size
 os:=ho.os.trans h.os
 tape:=ho.tape.trans h.tape
 output:=⟨ho.output.1.trans h.output.1,DrLe.trans h.output.2 ho.output.2⟩
 size:=aP h.size ho.size
 keep:=h.keep.step ⟨λg hg=>⟨hs g (by grind) (by simp[hg]),hg⟩,λg hg=>hg⟩ hc (λg hg=>hg)
 fb:=h.fb
 fl:=h.fl
 nt:=h.nt
 df:=h.df
def RG.world {P:Program} {F:Fr P} {G:Gh} {J:St} {a:Act} {w w':World} (h:RG F G J a w) (ho:Onward w w') (hs:∀ g,G.ow g≠.gone->w'.heap[g]? = w.heap[g]?):RG F G J a w' :=
 h.world2 ho (λg h1 _=>hs g h1) λg hg=>(h.keep.at_ g hg).same (hs g (by grind))
def RG.drew {P:Program} {F:Fr P} {G:Gh} {J:St} {a:Act} {w:World} (h:RG F G J a w):RG F G J a w.drew :=
 h.world ⟨rfl,rfl,⟨rfl,by first|exact DrLe.refl _|exact DrLe.succ _|exact DrLe.add _ _⟩,X_ _⟩ λ_ _=>rfl
open Classical in
def RG.retree {P:Program} {F:Fr P} {G:Gh} {J:St} {a:Act} {w w':World} (h:RG F G J a w) (l:Nat) (ab:List Nat) (T:Tree) (v:Value) (N:Nat->Prop)
 (ho:Onward w w') (hs:∀ g,G.ow g≠.gone->G.ow g≠.lab l->w'.heap[g]? = w.heap[g]?)
 (hN:∀ g,N g->g<w'.heap.size/\(G.ow g=.gone\/G.ow g=.lab l\/∃ m,m∈ab/\G.ow g=.lab m))
 (hT:TO w' (.sl T.k T.n T.f) v N) (hl:l∉J.fl) (hab:∀ m,m∈ab->m∉J.fl) :
 ∃ G',RG F G' ({ J with hp:=(l,T)::J.hp.filter λp=>!ab.contains p.1 }.kill (l::ab)) a w'/\G'.hv l=v/\(∀ m,m≠l->G'.hv m=G.hv m)/\(∀ b,G.ow b=.gone->¬ N b->G'.ow b=.gone)/\G'.be=G.be/\(ab=[]->(∀ g,N g->G.ow g=.gone)->∀ g,G.ow g≠.gone->G'.ow g=G.ow g):=by
 let G':Gh:={ ow:=λg=>if N g\/∃ m,m∈ab/\G.ow g=.lab m then .lab l else G.ow g,be:=G.be,hv:=λm=>if m=l then v else G.hv m }
 have hfree:∀ g,G.ow g=.free->G'.ow g=.free:=by grind
 have hcur:∀ g,G.ow g=.cur->G'.ow g=.cur:=by grind
 have hbox:∀ g b,G.ow g=.box b->G'.ow g=.box b:=by grind
 have hlab:∀ g m,m∉l::ab->G.ow g=.lab m->w'.heap[g]? = w.heap[g]?/\G'.ow g=.lab m:=by grind
 have fo:Cf w w' G G':=⟨λg hg=>⟨hs g (by simp[hg]) (by simp[hg]),hfree g hg⟩,hcur⟩;have hk:=h.kill (l::ab);refine⟨G',?_,by simp[G'],λm hm=>by simp[G',hm],λb hb hn=>?_,rfl,λhe hNn g hg=>?_⟩
 rotate_left
 rotate_left
 .have:¬ (N g\/∃ m,m∈ab/\G.ow g=.lab m):=by grind
  exact F_ this
 rotate_left
 .have:¬ (N b\/∃ m,m∈ab/\G.ow b=.lab m):=by simp_all
  exact(F_ this).trans hb
 constructor
 case tm=>
  intro t tv hlk;simp only[St.kill,St.map,A8 λx:TV=>x.kill (l::ab)] at hlk;cases hq:look J.tm t with
  | none=>simp[hq] at hlk
  | some x=>
   simp only[hq,bC,R_] at hlk;subst hlk;have hx:=TV.map_ok (f:=λc=>c.kill (l::ab)) (bad:=λx=>(l::ab).any λl=>x.refs l||x.mems l) (λ_ _=>Cell.kill_ok (l::ab)) (h.tm t x hq);refine TV.carry fo (λm hm=>?_) (λm hm g hg=>hlab g m (TV.kill_mems hm) hg) (λ_ _=>rfl) hx;have:=TV.kill_refs hm;grind
 case bx=>
  intro b cs hlk;simp only[St.kill,St.map,A8 λcs:List Cell=>cs.map (·.kill (l::ab))] at hlk;cases hq:look J.bx b with
  | none=>simp[hq] at hlk
  | some x=>
   simp only[hq,bC,R_] at hlk;subst hlk;obtain⟨h1,r,e,h2,h3⟩:=h.bx b x hq;refine⟨hbox _ _ h1,r,e,(hs (G.be b) (by simp[h1]) (by simp[h1])).trans h2,?_⟩;refine Cells.carry fo (λm hm=>?_) (λm hm g hg=>hlab g m (Hw hm) hg) (Cells.map_ok (λ_ _=>Cell.kill_ok (l::ab)) h3);have:=Ht hm;grind
 case hp=>
  intro m T' hlk;simp only[St.kill,St.map,look] at hlk;by_cases hml:m=l
  .subst hml;simp only[BEq.rfl,aD,R_] at hlk;subst hlk;simp only[G',aD];exact hT.frame λg hg _=>⟨rfl,by simp[hg]⟩
  .have h0:(m==l)=false:=by simpa using hml
   simp only[h0,cD,aS,Bn λm=>!ab.contains m] at hlk;split at hlk
   .rename_i hna;have hma:m∉ab:=by simpa using hna
    have:=h.hp m T' hlk;simp only[G',hml,aS];exact this.frame λg hg _=>hlab g m (by simp[hml,hma]) hg
   .cases hlk
 case lt=>
  intro g hg;by_cases hn:N g
  .exact(hN g hn).1
  .refine fq (h.lt g λe=>hg ?_) ho.size;grind
 case os=>exact ho.os.trans h.os
 case tape=>exact ho.tape.trans h.tape
 case output=>exact⟨ho.output.1.trans h.output.1,DrLe.trans h.output.2 ho.output.2⟩
 case size=>exact aP h.size ho.size
 case keep=>
  refine h.keep.next fo (λg hg=>hs g (by simp[hg]) (by simp[hg])) λg hg=>?_
  grind
 case fb=>exact h.fb
 case fl=>
  intro m u hm;obtain⟨h1,h2⟩:=h.fl m u hm;have hml:m≠l:=λe=>hl (by simpa [e] using h2)
  exact⟨by simp only[G',hml,aS];exact h1,h2⟩
 case nt=>exact h.nt
 case df=>exact h.df
open Classical in
def RG.newBox {P:Program} {F:Fr P} {G:Gh} {J:St} {a:Act} {w:World} (h:RG F G J a w) (b:Nat) (cs:List Cell) (g0:Nat) (r:Array Value) (e:TypeId)
 (hb:J.hasB b=false) (h0:G.ow g0=.gone) (hg:w.heap[g0]? = some (.cells r e (0,0))) (hc:A4 w G cs r) :
 ∃ G',RG F G' { J with bx:=D.put J.bx b cs } a w/\G'.be b=g0/\(∀ g,G.ow g≠.gone->G'.ow g=G.ow g)/\(∀ b',b'≠b->G'.be b'=G.be b')/\G'.hv=G.hv:=by
 let G':Gh:={ ow:=λg=>if g=g0 then .box b else G.ow g,be:=λb'=>if b'=b then g0 else G.be b',hv:=G.hv }
 have hne:∀ g,G.ow g≠.gone->G'.ow g=G.ow g:=by grind
 have fo:Cf w w G G':=⟨λg hg=>⟨rfl,by grind⟩,λg hg=>by rw[hne g (by simp[hg]),hg]⟩;have mo:∀ m,En w w G G' m:=λm g hg=>⟨rfl,by grind⟩
 simp only[St.hasB,Bool.or_eq_false_iff] at hb;refine⟨G',?_,by simp[G'],hne,λb' hb'=>by grind,rfl⟩;constructor
 case tm=>
  intro t tv hlk;refine TV.carry fo (λ_ _=>rfl) (λm _=>mo m) (λb' hb'=>?_) (h.tm t tv hlk);have hbb:b'≠b:=by
   have hmem:∀ (l:List (Nat×TV)),look l t=some tv->∃ p∈l,p.2=tv:=by
    intro l
    induction l with
    | nil=>simp[look]
    | cons p l ih=>
     intro hl;simp only[look] at hl;grind
   grind
  simp[G',hbb]
 case bx=>
  intro b' cs' hlk;simp only[DI] at hlk;by_cases hbb:b'=b
  .subst hbb;simp at hlk;subst hlk;exact⟨by simp[G'],r,e,by grind,Cells.carry fo (λ_ _=>rfl) (λm _=>mo m) hc⟩
  .simp only[hbb,aS] at hlk;obtain⟨h1,r',e',h2,h3⟩:=h.bx b' cs' hlk;have:G'.be b'=G.be b':=by grind
   rw[this];exact⟨by grind,r',e',h2,Cells.carry fo (λ_ _=>rfl) (λm _=>mo m) h3⟩
 case hp=>exact λl T hlk=>(h.hp l T hlk).frame λg hg _=>⟨rfl,by grind⟩
 case lt=>
  intro g hgo;by_cases e0:g=g0
  .grind
  .exact h.lt g (by grind)
 case os=>exact h.os
 case tape=>exact h.tape
 case output=>exact h.output
 case size=>exact h.size
 case keep=>
  refine h.keep.next fo (λ_ _=>rfl) λg hg=>?_
  grind
 case fb=>
  intro b' β hlk;obtain⟨h1,h2⟩:=h.fb b' β hlk;grind
 case fl=>exact h.fl
 case nt=>exact h.nt
 case df=>exact h.df
def RG.setBox {P:Program} {F:Fr P} {G:Gh} {J:St} {a:Act} {w w':World} (h:RG F G J a w) (b:Nat) (cs0 cs:List Cell) (r:Array Value) (e:TypeId)
 (hb:look J.bx b=some cs0) (ho:Onward w w') (hs:∀ g,g≠G.be b->w'.heap[g]? = w.heap[g]?) (hg:w'.heap[G.be b]? = some (.cells r e (0,0))) (hc:A4 w G cs r) :
 RG F G { J with bx:=D.put J.bx b cs } a w':=by
 have hbo:=(h.bx b cs0 hb).1;have hne:∀ g,G.ow g≠.box b->w'.heap[g]? = w.heap[g]?:=λg hg=>hs g λe=>hg (e▸hbo)
 have fo:Cf w w' G G:=⟨λg hg=>⟨hne g (by grind),hg⟩,λg hg=>hg⟩;have mo:∀ m,En w w' G G m:=λm g hg=>⟨hne g (by grind),hg⟩
 constructor
 case tm=>exact λt tv hlk=>TV.carry fo (λ_ _=>rfl) (λm _=>mo m) (λ_ _=>rfl) (h.tm t tv hlk)
 case bx=>
  intro b' cs' hlk;simp only[DI] at hlk;by_cases hbb:b'=b
  .subst hbb;simp at hlk;subst hlk;exact⟨hbo,r,e,hg,Cells.carry fo (λ_ _=>rfl) (λm _=>mo m) hc⟩
  .simp only[hbb,aS] at hlk;obtain⟨h1,r',e',h2,h3⟩:=h.bx b' cs' hlk;exact⟨h1,r',e',(hne _ (by grind)).trans h2,Cells.carry fo (λ_ _=>rfl) (λm _=>mo m) h3⟩
 case hp=>exact λl T hlk=>(h.hp l T hlk).frame λg hg _=>⟨hne g (by grind),hg⟩
 case lt=>exact λg hg=>fq (h.lt g hg) ho.size
 case os=>exact ho.os.trans h.os
 case tape=>exact ho.tape.trans h.tape
 case output=>exact⟨ho.output.1.trans h.output.1,DrLe.trans h.output.2 ho.output.2⟩
 case size=>exact aP h.size ho.size
 case keep=>exact h.keep.next fo (λg hg=>hne g (by grind)) λg hg=>hg
 case fb=>exact h.fb
 case fl=>exact h.fl
 case nt=>exact h.nt
 case df=>exact h.df
open Classical in
def RG.setTree {P:Program} {F:Fr P} {G:Gh} {J:St} {a:Act} {w w':World} (h:RG F G J a w) (l:Nat) (ab:List Nat) (T0 T:Tree)
 (hl:look J.hp l=some T0) (hla:l∉ab) (hab:∀ m,m∈ab->m∉J.fl) (ho:Onward w w') (hs:∀ g,G.ow g≠.gone->G.ow g≠.lab l->w'.heap[g]? = w.heap[g]?)
 (hT:TO w' (.sl T.k T.n T.f) (G.hv l) λg=>G.ow g=.lab l\/∃ m,m∈ab/\G.ow g=.lab m) :
 ∃ G',RG F G' (({ J with hp:=(l,T)::J.hp.filter λp=>!ab.contains p.1 }.kill ab).loose [l]) a w'/\G'.hv=G.hv/\G'.be=G.be:=by
 let G':Gh:={ ow:=λg=>if ∃ m,m∈ab/\G.ow g=.lab m then .lab l else G.ow g,be:=G.be,hv:=G.hv }
 have hsame:∀ g,(∀ m,m∈ab->G.ow g≠.lab m)->G'.ow g=G.ow g:=by grind
 have fo:Cf w w' G G':=⟨λg hg=>⟨hs g (by simp[hg]) (by simp[hg]),by rw[hsame g (by simp[hg]),hg]⟩,λg hg=>by rw[hsame g (by simp[hg]),hg]⟩;have mo:∀ m,m≠l->m∉ab->En w w' G G' m:=by intro m hml hma g hg;grind
 have hcell:∀ (c:Cell) (v:Value),CellR w G c v->CellR w' G' ((c.kill ab).loose [l]) v:=by intro c v hc;refine Cell.carry fo (λ_ _=>rfl) (λm hm=>?_) (Cell.loose_ok [l] (Cell.kill_ok ab hc));obtain⟨h1,h2⟩:=Cell.loose_mems hm;exact mo m (by simpa using h2) (Cell.kill_mems h1).2
 have hcells:∀ (cs:List Cell) (vs:Array Value),A4 w G cs vs->A4 w' G' ((cs.map (·.kill ab)).map (·.loose [l])) vs:=by
  intro cs vs hc;rw[dz];refine⟨by simpa using hc.1,λj c hj=>?_⟩;rw[cz] at hj;cases hq:cs[j]? with
  | none=>simp[hq] at hj
  | some c0=>
   simp only[hq,bC,R_] at hj;subst hj;obtain⟨u,hu,ht⟩:=hc.2 j c0 hq;simp_all
 refine⟨G',?_,rfl,rfl⟩;constructor
 case tm=>
  intro t tv hlk;simp only[St.loose,St.kill,St.map,dz,Function.comp_def] at hlk;rw[A8 λx:TV=>(x.kill ab).loose [l]] at hlk;cases hq:look J.tm t with
  | none=>simp[hq] at hlk
  | some x=>
   simp only[hq,bC,R_] at hlk;subst hlk;have hx:=TV.map_ok (f:=λc=>c.loose [l]) (bad:=λx=>[l].any λl=>x.mems l) (λ_ _=>Cell.loose_ok [l]) (TV.map_ok (f:=λc=>c.kill ab) (bad:=λx=>ab.any λl=>x.refs l||x.mems l) (λ_ _=>Cell.kill_ok ab) (h.tm t x hq));refine TV.carry fo (λ_ _=>rfl) (λm hm=>?_) (λ_ _=>rfl) hx;exact mo m (by simpa using TV.loose_mems hm) (TV.kill_mems (TV.loose_mems' hm))
 case bx=>
  intro b cs hlk;simp only[St.loose,St.kill,St.map,dz,Function.comp_def] at hlk;rw[A8 λcs:List Cell=>cs.map λc=>(c.kill ab).loose [l]] at hlk;cases hq:look J.bx b with
  | none=>simp[hq] at hlk
  | some x=>
   simp only[hq,bC,R_] at hlk;subst hlk;obtain⟨h1,r,e,h2,h3⟩:=h.bx b x hq;refine⟨(hsame (G.be b) (by simp[h1])).trans h1,r,e,(hs (G.be b) (by simp[h1]) (by simp[h1])).trans h2,?_⟩;have:=hcells _ _ h3;simpa [dz,Function.comp_def] using this
 case hp=>
  intro m T' hlk;simp only[St.loose,St.kill,St.map,look] at hlk;by_cases hml:m=l
  .subst hml;simp only[BEq.rfl,aD,R_] at hlk;subst hlk;refine hT.frame λg hg _=>⟨rfl,?_⟩
   rcases hg with hg|hg
   .grind
   .grind
  .have h0:(m==l)=false:=by simpa using hml
   simp only[h0,cD,aS,Bn λm=>!ab.contains m] at hlk;split at hlk
   .rename_i hna;have hma:m∉ab:=by simpa using hna
    exact(h.hp m T' hlk).frame λg hg _=>mo m hml hma g hg
   .cases hlk
 case lt=>
  intro g hg;refine fq (h.lt g λe=>hg ?_) ho.size;simp_all
 case os=>exact ho.os.trans h.os
 case tape=>exact ho.tape.trans h.tape
 case output=>exact⟨ho.output.1.trans h.output.1,DrLe.trans h.output.2 ho.output.2⟩
 case size=>exact aP h.size ho.size
 case keep=>
  refine h.keep.next fo (λg hg=>hs g (by simp[hg]) (by simp[hg])) λg hg=>?_
  by_cases hc:∃ m,m∈ab/\G.ow g=.lab m
  .grind
  .simp_all
 case fb=>exact h.fb
 case fl=>exact h.fl
 case nt=>exact h.nt
 case df=>exact h.df
end Go.D
namespace Go.D
def LK {P:Program} (F:Fr P) (K:St->Out) (Q:Post):Act->World->Prop:=λa w=>∃ J',R F J' a w/\(K J').holds Q
structure Ext (d:Option Nat) (G:Gh) (a:Act) (w:World) (G':Gh) (a':Act) (w':World):Prop where
 act:∃ v,a'=a.put d v
 on:Onward w w'
 old:∀ g,g<w.heap.size->w'.heap[g]? = w.heap[g]?\/(G.ow g=.cur/\CurStep w w' g)
 ow:∀ g,G.ow g≠.gone->G'.ow g=G.ow g
 be:∀ b,d≠some b->G'.be b=G.be b
 hv:∀ l,(∀ d0,d=some d0->l<64*d0\/64*d0+64<=l)->G'.hv l=G.hv l
def ContE {P:Program} (F:Fr P) (G:Gh) (a:Act) (w:World) (d:Option Nat) (K:St->Out) (Q:Post):Act->World->Prop:=λa' w'=>∃ J' G',RG F G' J' a' w'/\(K J').holds Q/\Ext d G a w G' a' w'
def ContE.cont {P:Program} {F:Fr P} {G:Gh} {a:Act} {w:World} {d:Option Nat} {K:St->Out} {Q:Post} {a':Act} {w':World} (h:ContE F G a w d K Q a' w'):LK F K Q a' w' :=
 let ⟨J',G',h1,h2,_⟩:=h;⟨J',⟨G',h1⟩,h2⟩
def Ext.sm {d:Option Nat} {G G':Gh} {a a':Act} {w w':World} (h:Ext d G a w G' a' w') {g:Nat} (hg:g<w.heap.size) (hc:G.ow g≠.cur):w'.heap[g]? = w.heap[g]?:=(h.old g hg).resolve_right λe=>hc e.1
def Ext.world {P:Program} {F:Fr P} {J:St} {d:Option Nat} {G G':Gh} {a a' b:Act} {w w':World} (he:Ext d G a w G' a' w') (h:RG F G J b w):RG F G J b w' :=
 h.world2 he.on (λg h1 h2=>he.sm (h.lt g h1) h2) λg hg=>(he.old g (h.lt g (by grind))).elim (λe=>(h.keep.at_ g hg).same e) (·.2)
def Ext.same {d:Option Nat} {G:Gh} {a:Act} {w:World} {v:Value}:Ext d G a w G (a.put d v) w :=
 ⟨⟨v,rfl⟩,⟨rfl,rfl,⟨rfl,by first|exact DrLe.refl _|exact DrLe.succ _|exact DrLe.add _ _⟩,X_ _⟩,λ_ _=>.inl rfl,λ_ _=>rfl,λ_ _=>rfl,λ_ _=>rfl⟩
def AgC (J:St) (o:Oper):Bool:=match o.dst with|some d=>decide (d<J.nt)|none=>true
def ret (J:St) (o:Oper) (x:TV) (K:St->Out):Out:=bif AgC J o then K (J.setTm o.dst x) else .bad
def EM {P:Program} {o:Oper} {a:Act} {w w':World} {v:Value} {K:Act->World->Prop} {Q:Exit->Act->World->Prop} (h:(execOp a.eval o).run P w=.ok (.value v) w') (hk:K (a.put o.dst v) w'):o.wp P a w K Q:=by
 unfold Oper.wp;rw[h];exact hk
def Aeu {P:Program} {o:Oper} {a:Act} {w w':World} {K:Act->World->Prop} {Q:Exit->Act->World->Prop} (h:(execOp a.eval o).run P w=.ok .skip w') (hk:K (a.put o.dst undef) w'):o.wp P a w K Q:=by
 unfold Oper.wp;rw[h];exact hk
def AlQ {J:St} {o:Oper} (h:AgC J o=true):∀ t,o.dst=some t->t<J.nt:=by
 intro t ht;simpa [AgC,ht] using h
def AhE {P:Program} {F:Fr P} {G:Gh} {J:St} {a:Act} {w:World} {o:Oper} {x:TV} {K:St->Out} {Q:Post} {v:Value} (h:RG F G J a w) (hh:(ret J o x K).holds Q) (hx:TVR w G x v) :
 ContE F G a w o.dst K Q (a.put o.dst v) w:=by
 unfold ret at hh;cases hd:AgC J o with
 | false=>simp[hd,Out.holds] at hh
 | true=>
  simp only[hd,aX] at hh;exact⟨_,G,h.setTm (AlQ hd) hx,hh,.same⟩
def TV.scal:TV->Option Value
 | .v false [c]=>c.val?
 | _=>none
def Cell.val_ok {w:World} {G:Gh} {c:Cell} {u v:Value} (h:CellR w G c v) (hc:c.val? = some u):v=u/\plain u=true:=by
 cases c<;>simp only[Cell.val?,R_,reduceCtorEq] at hc
 .subst hc;exact h
 .subst hc;exact⟨h,rfl⟩
 .subst hc;exact⟨h,rfl⟩
def C9 {w:World} {G:Gh} {x:TV} {u v:Value} (h:TVR w G x v) (hx:x.scal=some u):v=u/\plain u=true:=by
 unfold TV.scal at hx;split at hx
 .obtain⟨c,hc,h⟩:=h;injection hc with hc
  subst hc;exact Cell.val_ok h hx
 .cases hx
def PO {α:Type} (P:Program):Sem α->Option α
 | .pure a=>some a
 | .program k=>PO P (k P)
 | _=>none
def Zo {α:Type} {P:Program} {s:Sem α} {r:α} (h:PO P s=some r) (w:World):s.run P w=.ok r w:=by
 induction s<;>simp only[PO,reduceCtorEq] at h
 case pure a=>injection h with h;subst h;rfl
 case program k ih=>exact ih P h
def TP:Value->Option Cell
 | .int k n=>some (.sc (.int k n))
 | .bool b=>some (.sc (.bool b))
 | .string s=>some (.sc (.string s))
 | _=>none
def YP {v:Value} {c:Cell} (w:World) (G:Gh) (h:TP v=some c):CellR w G c v:=by
 cases v<;>simp only[TP,R_,reduceCtorEq] at h<;>subst h<;>exact⟨rfl,rfl⟩
def MU (P:Program) (o:Oper) (s:Sem Value) (J:St) (K:St->Out):Out :=
 match PO P s with
 | some r=>match TP r with
  | some c=>ret J o (.v false [c]) K
  | none=>.bad
 | none=>.bad
section
variable {P:Program} {F:Fr P} {G:Gh} {J:St} {a:Act} {w:World} {o:Oper} {K:St->Out} {Q:Post} {Qx:Exit->Act->World->Prop}
def Ii {s:Sem Value} (h:RG F G J a w) (hh:(MU P o s J K).holds Q) (he:execOp a.eval o=(do pure (.value (<-s)))):o.wp P a w (ContE F G a w o.dst K Q) Qx:=by
 unfold MU at hh;split at hh
 .rename_i r hr;split at hh
  .rename_i c hc;refine EM (w':=w) (v:=r) ?_ (AhE h hh ⟨c,rfl,YP w G hc⟩);rw[he];simp[Zo hr w]
  .exact hh.elim
 .exact hh.elim
def AH {x:TV} {v:Value} (h:RG F G J a w) (hh:(ret J o x K).holds Q) (hx:TVR w G x v) (he:(execOp a.eval o).run P w=.ok (.value v) w):o.wp P a w (ContE F G a w o.dst K Q) Qx :=
 EM he (AhE h hh hx)
def AcF (o:Oper) (x:Operand) (J:St) (K:St->Out):Out:=ret J o (J.eval x) K
def R0 {x:Operand} (h:RG F G J a w) (ho:o.op=.move x\/o.op=.assign x) (hh:(AcF o x J K).holds Q):o.wp P a w (ContE F G a w o.dst K Q) Qx :=
 AH h hh (Aw h x) (by rcases ho with ho|ho<;>simp[execOp,ho])
def sameSize (a b:ByteArray):Prop:=a.size+b.size<=4611686018427387904
def AcL (P:Program) (o:Oper) (op:BinOp) (T:TypeId) (x y:Operand) (u v:Value) (J:St) (K:St->Out):Out :=
 match op,u,v with
 | .add,.string a,.string b=>.ob (sameSize a b) (ret J o (.v false [.sc (.string (a++b))]) K)
 | .quo,.int k a,.int k' b=>bif k==k' then .ob (b≠0) (ret J o (.v false [.sc (.int k (k.wrap (a.tdiv b)))]) K) else .bad
 | .rem,.int k a,.int k' b=>bif k==k' then .ob (b≠0) (ret J o (.v false [.sc (.int k (a.tmod b))]) K) else .bad
 | .shl,.int k a,.int _ b=>.ob (0<=b) (ret J o (.v false [.sc (.int k (k.wrap (a*2 ^ (min b.toNat k.bits))))]) K)
 | .shr,.int k a,.int _ b=>.ob (0<=b) (ret J o (.v false [.sc (.int k (a.fdiv (2 ^ (min b.toNat k.bits))))]) K)
 | _,_,_=>MU P o (do eqGuard op T x y u v;binOp op T u v) J K
def AcS {op:BinOp} {T Ty:TypeId} {x y:Operand} {u v:Value} (h:RG F G J a w) (ho:o.op=.binOp op T x y Ty) (hx:a.eval x=u) (hy:a.eval y=v)
 (hh:(AcL P o op T x y u v J K).holds Q):o.wp P a w (ContE F G a w o.dst K Q) Qx:=by
 unfold AcL at hh;split at hh
 .rename_i s t;obtain⟨h0,hh⟩:=hh;refine AH h hh ⟨_,rfl,rfl,rfl⟩ ?_;have h1:¬ (9223372036854775807<((s.size:Int)+(t.size:Int))):=by unfold sameSize at h0;omega
  simp[execOp,ho,hx,hy,eqGuard,binOp,Op.stringOp,IntKind.max,IntKind.signed,IntKind.bits,h1]
 .rename_i k s k' t;cases hk:k==k' with
  | false=>simp[hk,Out.holds] at hh
  | true=>
   have:k=k':=by grind
   subst this;simp at hh;obtain⟨h0,hh⟩:=hh;refine AH h hh ⟨_,rfl,rfl,rfl⟩ ?_;simp[execOp,ho,hx,hy,eqGuard,binOp,Op.intDiv,h0]
 .rename_i k s k' t;cases hk:k==k' with
  | false=>simp[hk,Out.holds] at hh
  | true=>
   have:k=k':=by grind
   subst this;simp at hh;obtain⟨h0,hh⟩:=hh;refine AH h hh ⟨_,rfl,rfl,rfl⟩ ?_;simp[execOp,ho,hx,hy,eqGuard,binOp,Op.intDiv,h0]
 .rename_i k s k' t;obtain⟨h0,hh⟩:=hh;refine AH h hh ⟨_,rfl,rfl,rfl⟩ ?_;have:¬ t<0:=O
  simp[execOp,ho,hx,hy,eqGuard,binOp,Op.shift,this]
 .rename_i k s k' t;obtain⟨h0,hh⟩:=hh;refine AH h hh ⟨_,rfl,rfl,rfl⟩ ?_;have:¬ t<0:=O
  simp[execOp,ho,hx,hy,eqGuard,binOp,Op.shift,this]
 .refine Ii h hh ?_;simp[execOp,ho,hx,hy]
def Fy (P:Program):Nat->TypeId->List Value->List Value->Option Bool
 | 0,_,_,_=>none
 | d+1,T,us,vs=>match P.underlying T with
  | some .bool=>match us,vs with|[.bool a],[.bool b]=>some (a==b)|_,_=>none
  | some (.int _)=>match us,vs with|[.int k a],[.int k' b]=>bif k==k' then some (a==b) else none|_,_=>none
  | some .string=>match us,vs with|[.string a],[.string b]=>some (a==b)|_,_=>none
  | some (.struct fs)=>if P.stoodInHeld T then none else fs.toList.foldr (λf r=>match P.info? f.type with
   | some i=>if f.name != "_"&&decide (f.offset+i.size<=us.length)&&decide (f.offset+i.size<=vs.length)&&(aggOf f.type||i.size==1) then
    match Fy P d f.type ((us.drop f.offset).take i.size) ((vs.drop f.offset).take i.size),r with
    | some x,some y=>some (x&&y)
    | _,_=>none
    else none
   | none=>none) (some true)
  | _=>none
where aggOf (T:TypeId):Bool:=match P.underlying T with|some (.struct _)=>true|some (.array _ _)=>true|_=>false
def HL (P:Program) (T:TypeId) (us:List Value):Value:=if Fy.aggOf P T then .agg us.toArray else us.headD undef
def Xx (f:TypeId) (i:TypeInfo) (us:List Value) (off:Nat) (d:TypeDesc) (hd:P.underlying f=some d) (hi:P.info? f=some i) (hle:off+i.size<=us.length) (hs:Fy.aggOf P f=true\/i.size=1) :
 (part f us.toArray off).run P w=.ok (HL P f ((us.drop off).take i.size)) w:=by
 have hag:(isAgg f).run P w=.ok (Fy.aggOf P f) w:=by simp only[isAgg,Sem.run_bind,run_underlying hd,Result.andThen_ok,Fy.aggOf,hd];cases d<;>rfl
 unfold part;simp only[Sem.run_bind,hag,Result.andThen_ok];cases hb:Fy.aggOf P f with
 | true=>
  simp[sizeOf,typeInfo,hi,HL,hb,List.extract_eq_take_drop]
 | false=>
  have h1:i.size=1:=by grind
  have hlt:off<us.length:=O
  simp[HL,hb,h1,aH hlt,List.take_one,List.head?_drop]
def Aa2:∀ (d:Nat) (T:TypeId) (us vs:List Value) (b:Bool),Fy P d T us vs=some b->(Op.equalIn d T (HL P T us) (HL P T vs)).run P w=.ok b w:=by
 intro d
 induction d with
 | zero=>intro T us vs b h;simp[Fy] at h
 | succ d ih=>
  intro T us vs b h;unfold Fy at h;split at h
  .rename_i hu;have hag:Fy.aggOf P T=false:=by simp[Fy.aggOf,hu]
   split at h<;>simp at h;subst h;simp[HL,hag,Op.equalIn,run_underlying hu]
  .rename_i k hu;have hag:Fy.aggOf P T=false:=by simp[Fy.aggOf,hu]
   split at h
   .rename_i k1 x k2 y;cases hk:k1==k2 with
    | false=>simp[hk] at h
    | true=>
     have:k1=k2:=by grind
     subst this;simp at h;subst h;simp[HL,hag,Op.equalIn,run_underlying hu]
   .simp at h
  .rename_i hu;have hag:Fy.aggOf P T=false:=by simp[Fy.aggOf,hu]
   split at h<;>simp at h;subst h;simp[HL,hag,Op.equalIn,run_underlying hu]
  .rename_i fs hu;have hag:Fy.aggOf P T=true:=by simp[Fy.aggOf,hu]
   cases hst:P.stoodInHeld T with
   | true=>simp[hst] at h
   | false=>
    simp only[hst,cD,aS] at h;have hf:P.fieldsOf T=fs:=by simp[Program.fieldsOf,hu]
    simp only[HL,hag,aD];rw[run_equalIn_struct w d T us.toArray vs.toArray (by grind) hst,hf];generalize fs.toList=l at h
    induction l generalizing b with
    | nil=>simp only[List.foldr_nil,R_] at h;subst h;simp[Op.eqFields]
    | cons f l ihl=>
     simp only[List.foldr_cons] at h;split at h
     .rename_i i hi;split at h
      .rename_i hc;simp at hc;obtain⟨⟨⟨hn,h1⟩,h2⟩,h3⟩:=hc;split at h
       .rename_i x y hx hy;simp at h;subst h;have hud:∃ dd,P.underlying f.type=some dd:=by
         cases hq:P.underlying f.type with
         | none=>
          cases d with
          | zero=>simp[Fy] at hx
          | succ d=>unfold Fy at hx;simp[hq] at hx
         | some dd=>exact⟨dd,rfl⟩
        obtain⟨dd,hud⟩:=hud;simp only[Op.eqFields,hn,ne_eq,not_false_eq_true,aD,Sem.run_bind,Xx f.type i us f.offset dd hud hi h1 h3,Xx f.type i vs f.offset dd hud hi h2 h3,Result.andThen_ok,ih _ _ _ _ hx];cases x
        .simp
        .simpa using ihl y hy
       .simp at h
      .simp at h
     .simp at h
  .simp at h
def FM:List Cell->Option (List Value)
 | []=>some []
 | c::cs=>match c.val?,FM cs with
  | some v,some vs=>some (v::vs)
  | _,_=>none
def Ho {cs:List Cell} {us:List Value} {vs:Array Value} (h:A4 w G cs vs) (hc:FM cs=some us):vs=us.toArray/\∀ u∈us,plain u=true:=by
 have key:∀ (cs:List Cell) (us:List Value),FM cs=some us->us.length=cs.length/\∀ (j:Nat) (c:Cell),cs[j]? = some c->∃ u,us[j]? = some u/\c.val? = some u:=by
  intro cs
  induction cs with
  | nil=>intro us h;simp only[FM,R_] at h;subst h;simp
  | cons c cs ih=>
   intro us h;simp only[FM] at h;grind
 obtain⟨h1,h2⟩:=key cs us hc;have hget:∀ j,j<cs.length->∃ u,vs[j]? = some u/\us[j]? = some u/\plain u=true:=by intro j hj;obtain⟨v,hv,hr⟩:=h.2 j _ (aH hj);obtain⟨u,hu,hcu⟩:=h2 j _ (aH hj);obtain⟨rfl,hp⟩:=Cell.val_ok hr hcu;exact⟨v,hv,hu,hp⟩
 constructor
 .apply Array.ext_getElem?;intro j;by_cases hj:j<cs.length
  .grind
  .have:us.length<=j:=O
   simp[Array.getElem?_eq_none (show vs.size<=j by rw[h.1];omega),List.getElem?_eq_none this]
 .intro u hu;obtain⟨j,hj⟩:=List.getElem?_of_mem hu;grind
def AiU (P:Program) (o:Oper) (op:BinOp) (T:TypeId) (x y:Operand) (J:St) (K:St->Out):Out :=
 match (J.eval x).scal,(J.eval y).scal with
 | some u,some v=>AcL P o op T x y u v J K
 | _,_=>match op,J.eval x,J.eval y with
  | .eql,.v true cs,.v true ds=>match FM cs,FM ds with
   | some us,some vs=>if P.eqGuardType P.depth T || !Fy.aggOf P T then .bad else match Fy P Op.maxDepth T us vs with
    | some b=>ret J o (.v false [.sc (.bool b)]) K
    | none=>.bad
   | _,_=>.bad
  | .neq,.v true cs,.v true ds=>match FM cs,FM ds with
   | some us,some vs=>if P.eqGuardType P.depth T || !Fy.aggOf P T then .bad else match Fy P Op.maxDepth T us vs with
    | some b=>ret J o (.v false [.sc (.bool !b)]) K
    | none=>.bad
   | _,_=>.bad
  | _,_,_=>.bad
def Agr {op:BinOp} {T Ty:TypeId} {x y:Operand} (h:RG F G J a w) (ho:o.op=.binOp op T x y Ty) (hh:(AiU P o op T x y J K).holds Q):o.wp P a w (ContE F G a w o.dst K Q) Qx:=by
 unfold AiU at hh;have hx:=Aw h x;have hy:=Aw h y;split at hh
 .rename_i u v hu hv;exact AcS h ho (C9 hx hu).1 (C9 hy hv).1 hh
 .split at hh
  .rename_i cs ds hxe hye;rw[hxe] at hx;rw[hye] at hy;obtain⟨xs,hxs,hcx⟩:=hx;obtain⟨ys,hys,hcy⟩:=hy;split at hh
   .rename_i us vs hus hvs;obtain⟨rfl,_⟩:=Ho hcx hus;obtain⟨rfl,_⟩:=Ho hcy hvs;split at hh
    .exact hh.elim
    .rename_i hg;simp at hg;split at hh
     .rename_i b hb;refine AH h hh ⟨_,rfl,rfl,rfl⟩ ?_;have:=Aa2 (P:=P) (w:=w) _ _ _ _ _ hb;simp only[HL,hg.2,aD,Op.maxDepth] at this;simp only[execOp,ho,hxs,hys,Sem.run_bind,run_eqGuard_agg w .eql T x y _ _ hg.1,run_eql_struct,this,Result.andThen_ok];rfl
     .exact hh.elim
   .exact hh.elim
  .rename_i cs ds hxe hye;rw[hxe] at hx;rw[hye] at hy;obtain⟨xs,hxs,hcx⟩:=hx;obtain⟨ys,hys,hcy⟩:=hy;split at hh
   .rename_i us vs hus hvs;obtain⟨rfl,_⟩:=Ho hcx hus;obtain⟨rfl,_⟩:=Ho hcy hvs;split at hh
    .exact hh.elim
    .rename_i hg;simp at hg;split at hh
     .rename_i b hb;refine AH h hh ⟨_,rfl,rfl,rfl⟩ ?_;have:=Aa2 (P:=P) (w:=w) _ _ _ _ _ hb;simp only[HL,hg.2,aD,Op.maxDepth] at this;simp only[execOp,ho,hxs,hys,Sem.run_bind,run_eqGuard_agg w .neq T x y _ _ hg.1,run_neq_struct,this,Result.andThen_ok];rfl
     .exact hh.elim
   .exact hh.elim
  .exact hh.elim
end
end Go.D
namespace Go.D
section
variable {P:Program} {F:Fr P} {G:Gh} {J:St} {a:Act} {w:World} {o:Oper} {K:St->Out} {Q:Post} {Qx:Exit->Act->World->Prop}
def AmD (P:Program) (o:Oper) (op:UnOp) (x:Operand) (J:St) (K:St->Out):Out :=
 match (J.eval x).scal with
 | some u=>MU P o (Op.unary op u) J K
 | none=>.bad
def Ajf {op:UnOp} {T:TypeId} {x:Operand} (h:RG F G J a w) (ho:o.op=.unOp op T x) (hh:(AmD P o op x J K).holds Q):o.wp P a w (ContE F G a w o.dst K Q) Qx:=by
 unfold AmD at hh;split at hh
 .rename_i u hu;have:=(C9 (Aw h x) hu).1;exact Ii h hh (by simp[execOp,ho,this])
 .exact hh.elim
def Aix (x:TV) (y n:Out):Out :=
 match x with
 | .v false [.tt]=>y
 | .v false [.ff]=>n
 | .v false [.sc (.bool b)]=>.br b y n
 | _=>.bad
def Abe {x:TV} {v:Value} {y n:Out} (hx:TVR w G x v) (hh:(Aix x y n).holds Q):∃ b,v=.bool b/\(b=true->y.holds Q)/\(b=false->n.holds Q):=by
 unfold Aix at hh;split at hh
 .obtain⟨c,hc,h⟩:=hx;injection hc with hc;subst hc;exact⟨true,h,λ_=>hh,by simp⟩
 .obtain⟨c,hc,h⟩:=hx;injection hc with hc;subst hc;exact⟨false,h,by simp,λ_=>hh⟩
 .rename_i b;obtain⟨c,hc,h⟩:=hx;injection hc with hc;subst hc;exact⟨b,h.1,hh.1,hh.2⟩
 .exact hh.elim
def Ag5 (o:Oper) (c x y:Operand) (J:St) (K:St->Out):Out:=Aix (J.eval c) (ret J o (J.eval x) K) (ret J o (J.eval y) K)
def Ad0 {c x y:Operand} (h:RG F G J a w) (ho:o.op=.pick c x y) (hh:(Ag5 o c x y J K).holds Q):o.wp P a w (ContE F G a w o.dst K Q) Qx:=by
 obtain⟨b,hb,h1,h2⟩:=Abe (Aw h c) hh;cases b with
 | true=>exact AH h (h1 rfl) (Aw h x) (by simp[execOp,ho,hb,asBool])
 | false=>exact AH h (h2 rfl) (Aw h y) (by simp[execOp,ho,hb,asBool])
def Af0 (o:Oper) (x:Operand) (J:St) (K:St->Out):Out :=
 match J.eval x with
 | .ptr b off=>ret J o (.ptr b off) K
 | .eptr l k i off=>ret J o (.eptr l k i off) K
 | .sptr s k row off=>ret J o (.sptr s k row off) K
 | .aptr cs off=>ret J o (.aptr cs off) K
 | .clo fn caps=>ret J o (.clo fn caps) K
 | _=>.bad
def Wg {x:Operand} (h:RG F G J a w) (ho:o.op=.nilCheck x) (hh:(Af0 o x J K).holds Q):o.wp P a w (ContE F G a w o.dst K Q) Qx:=by
 have hx:=Aw h x;unfold Af0 at hh;split at hh<;>(try exact hh.elim)<;>(rename_i he;rw[he] at hx;refine AH h hh hx ?_)
 .simp only[TVR] at hx;simp[execOp,ho,hx]
 .obtain⟨g,o',n,cap,_,hv⟩:=hx;simp[execOp,ho,hv]
 .obtain⟨g,o',r,e,fr,hv,_⟩:=hx;simp[execOp,ho,hv]
 .obtain⟨g,r,e,fr,hv,_⟩:=hx;simp[execOp,ho,hv]
 .obtain⟨vs,hv,_⟩:=hx;simp[execOp,ho,hv]
def Ob (o:Oper) (x:Operand) (ix:Nat) (J:St) (K:St->Out):Out :=
 match J.eval x with
 | .tup ps=>match ps[ix]? with
  | some p=>ret J o (.v p.1 p.2) K
  | none=>.bad
 | _=>.bad
def SP {x:Operand} {ix:Nat} (h:RG F G J a w) (ho:o.op=.extract x ix) (hh:(Ob o x ix J K).holds Q):o.wp P a w (ContE F G a w o.dst K Q) Qx:=by
 have hx:=Aw h x;unfold Ob at hh;split at hh
 .rename_i ps he;rw[he] at hx;split at hh
  .rename_i p hp;obtain⟨vs,hv,hs,hps⟩:=hx;obtain⟨u,hu,hr⟩:=hps ix p hp;exact AH h hh hr (by simp[execOp,ho,hv,Instr.extract,hu])
  .exact hh.elim
 .exact hh.elim
def Rc (o:Oper) (x i:Operand) (J:St) (K:St->Out):Out :=
 match (J.eval x).scal,(J.eval i).scal with
 | some (.string s),some (.int _ n)=>.ob (0<=n/\n<s.size) (ret J o (.v false [.sc (.int .u8 (s.data.getD n.toNat 0).toNat)]) K)
 | _,_=>.bad
def UW {T:TypeId} {x i:Operand} (h:RG F G J a w) (ho:o.op=.index T x i) (hT:P.underlying T=some .string) (hh:(Rc o x i J K).holds Q):o.wp P a w (ContE F G a w o.dst K Q) Qx:=by
 unfold Rc at hh;split at hh
 .rename_i s k n hs hn;obtain⟨⟨h0,h1⟩,hh⟩:=hh;refine AH h hh ⟨_,rfl,rfl,rfl⟩ ?_;have hlt:n.toNat<s.size:=O
  have hget:s[n.toNat]? = some (s.data.getD n.toNat 0):=by rw[show s[n.toNat]? = some s[n.toNat] from getElem?_pos s n.toNat hlt];have h2:n.toNat<s.data.size:=hlt;unfold Array.getD;rw[dif_pos h2];rfl
  simp[execOp,ho,(C9 (Aw h x) hs).1,(C9 (Aw h i) hn).1,Instr.index,asIntOf,run_underlying hT,h0,hget]
 .exact hh.elim
def FD (g off n:Nat):(⟨g,off,none⟩:Addr).add n=⟨g,off+n,none⟩:=by unfold Addr.add;split<;>simp_all
def TV.shift (n:Nat):TV->TV
 | .ptr b off=>.ptr b (off+n)
 | .eptr l k i off=>.eptr l k i (off+n)
 | .sptr s k row off=>.sptr s k row (off+n)
 | .aptr cs off=>.aptr cs (off+n)
 | _=>.dead
def Afe {x:TV} {v:Value} (n:Nat) (hx:TVR w G x v) (hd:x.shift n≠.dead):∃ g off,v=.pointer (some ⟨g,off,none⟩)/\TVR w G (x.shift n) (.pointer (some ⟨g,off+n,none⟩)):=by
 cases x<;>simp only[TV.shift,ne_eq,not_true_eq_false] at hd
 case ptr b off=>exact⟨_,_,hx,rfl⟩
 case eptr l k i off=>
  obtain⟨g,o',m,cap,h1,h2⟩:=hx;exact⟨_,_,h2,g,o',m,cap,h1,by simp[Nat.add_assoc]⟩
 case sptr s k row off=>
  obtain⟨g,o',r,e,fr,h1,h2⟩:=hx;exact⟨_,_,h1,g,o',r,e,fr,by simp[Nat.add_assoc],h2⟩
 case aptr cs off=>
  obtain⟨g,r,e,fr,h1,h2⟩:=hx;exact⟨_,_,h1,g,r,e,fr,rfl,h2⟩
def HD (P:Program) (o:Oper) (T:TypeId) (x:Operand) (j:Nat) (J:St) (K:St->Out):Out :=
 match P.underlying T with
 | some (.struct fs)=>match fs[j]? with
  | some f=>match P.info? f.type with
   | some i=>if i.size=0 then .bad else match (J.eval x).shift f.offset with
    | .dead=>.bad
    | y=>ret J o y K
   | none=>.bad
  | none=>.bad
 | _=>.bad
def Jg {T:TypeId} {x:Operand} {j:Nat} (h:RG F G J a w) (ho:o.op=.fieldAddr T x j) (hh:(HD P o T x j J K).holds Q):o.wp P a w (ContE F G a w o.dst K Q) Qx:=by
 unfold HD at hh;split at hh
 .rename_i fs hu;split at hh
  .rename_i f hf;split at hh
   .rename_i i hi;split at hh
    .exact hh.elim
    .rename_i hne;have hx:=Aw h x;generalize hy:(J.eval x).shift f.offset=y at hh;have hd:(J.eval x).shift f.offset≠.dead:=by rw[hy];intro e;subst e;exact hh.elim
     obtain⟨g,off,hv,hr⟩:=Afe f.offset hx hd;rw[hy] at hr;have hh':(ret J o y K).holds Q:=by simp_all
     refine AH h hh' hr ?_;simp[execOp,ho,hv,Instr.fieldAt,Instr.sureAddr,run_underlying hu,hf,fieldPlace,sizeOf,typeInfo,hi,hne,FD]
   .exact hh.elim
  .exact hh.elim
 .exact hh.elim
def HF (P:Program) (o:Oper) (T:TypeId) (x i:Operand) (J:St) (K:St->Out):Out :=
 match P.underlying T with
 | some (.slice e)=>match P.info? e,(J.eval i).scal,J.eval x with
  | some ie,some (.int _ n),.v false [.ref l]=>match look J.hp l with
   | some t=>if t.k=ie.size then .ob (0<=n/\n<t.n) (ret J o (.eptr l t.k n.toNat 0) K) else .bad
   | none=>.bad
  | some ie,some (.int _ n),.v false [.sub l k lo m]=>if k=ie.size then .ob (0<=n/\n<m) (ret J o (.eptr l k (lo+n.toNat) 0) K) else .bad
  | some ie,some (.int _ n),.v false [.im s t xs]=>if t.width=ie.size then .ob (0<=n/\n<xs.length) (ret J o (.sptr s t (xs.getD n.toNat default) 0) K) else .bad
  | _,_,_=>.bad
 | some (.array len e)=>match P.info? e,(J.eval i).scal,J.eval x with
  | some ie,some (.int _ n),.ptr b off=>.ob (0<=n/\n<len) (ret J o (.ptr b (off+n.toNat*ie.size)) K)
  | _,_,_=>.bad
 | _=>.bad
def Jf {T:TypeId} {x i:Operand} (h:RG F G J a w) (ho:o.op=.indexAddr T x i) (hh:(HF P o T x i J K).holds Q):o.wp P a w (ContE F G a w o.dst K Q) Qx:=by
 unfold HF at hh;have hx:=Aw h x;split at hh
 .rename_i e hu;split at hh
  .rename_i ie kk n l hie hn hxe;rw[hxe] at hx;obtain⟨c,hc,hcr⟩:=hx;injection hc with hc
   subst hc;split at hh
   .rename_i t hl;split at hh
    .rename_i hk;obtain⟨⟨h0,h1⟩,hh⟩:=hh;rcases h.hp l t hl with⟨_,hz⟩|⟨g,off,cap,row,e',GG,hv,_⟩
     .omega
     .have hav:a.eval x=.slice (some ⟨g,off,none⟩) t.n cap:=hcr.1.trans hv;refine AH h hh ⟨g,off,t.n,cap,hv,rfl⟩ ?_;simp[execOp,ho,hav,(C9 (Aw h i) hn).1,Instr.indexAt,asIntOf,run_underlying hu,h0,h1,sizeOf,typeInfo,hie,FD,hk]
    .exact hh.elim
   .exact hh.elim
  .rename_i ie kk n l k lo m hie hn hxe;rw[hxe] at hx;obtain⟨c,hc,hcr⟩:=hx;injection hc with hc
   subst hc;split at hh
   .rename_i hk;obtain⟨⟨h0,h1⟩,hh⟩:=hh;rcases hcr with⟨_,_,hz,_⟩|⟨g,off,mm,cap,off',hv,hle,hav,hof⟩
    .omega
    .have hof':off'=off+lo*k:=O
     subst hof';refine AH h hh ⟨g,off,mm,cap,hv,rfl⟩ ?_;simp[execOp,ho,hav,(C9 (Aw h i) hn).1,Instr.indexAt,asIntOf,run_underlying hu,h0,h1,sizeOf,typeInfo,hie,FD,hk,Nat.add_mul,Nat.add_assoc]
   .exact hh.elim
  .rename_i ie kk n s t xs hie hn hxe;rw[hxe] at hx;obtain⟨c,hc,hcr⟩:=hx;injection hc with hc
   subst hc;simp only[CellR,Eb] at hcr;split at hh
   .rename_i hk;obtain⟨⟨h0,h1⟩,hh⟩:=hh;obtain⟨ad,cap,hav,_,hz|⟨g,off,row,e',fr,rfl,hS,hg,hrow⟩⟩:=hcr
    .omega
    .refine AH h hh ⟨g,off+n.toNat*t.width,row,e',fr,rfl,hS,hg,λj hj=>?_⟩ ?_
     .obtain⟨u,hu',ht⟩:=hrow n.toNat O j hj;exact⟨u,hu',ht⟩
     .simp[execOp,ho,hav,(C9 (Aw h i) hn).1,Instr.indexAt,asIntOf,run_underlying hu,h0,h1,sizeOf,typeInfo,hie,FD,hk]
   .exact hh.elim
  .exact hh.elim
 .rename_i len e hu;split at hh
  .rename_i ie kk n b off hie hn hxe;rw[hxe] at hx;simp only[TVR] at hx;obtain⟨⟨h0,h1⟩,hh⟩:=hh;refine AH h hh rfl ?_;simp[execOp,ho,hx,(C9 (Aw h i) hn).1,Instr.indexAt,Instr.sureAddr,asIntOf,run_underlying hu,h0,h1,sizeOf,typeInfo,hie,FD]
  .exact hh.elim
 .exact hh.elim
def Ah7 (P:Program) (o:Oper) (T:TypeId) (x:Operand) (J:St) (K:St->Out):Out :=
 match P.underlying T,J.eval x with
 | some (.slice _),.v false [.ref l]=>match look J.hp l with
  | some t=>ret J o (.v false [.sc (.int .i64 t.n)]) K
  | none=>.bad
 | some (.slice _),.v false [.sub _ _ _ n]=>ret J o (.v false [.sc (.int .i64 n)]) K
 | some (.slice _),.v false [.im _ _ xs]=>ret J o (.v false [.sc (.int .i64 xs.length)]) K
 | some (.slice _),.v false [.nil]=>ret J o (.v false [.sc (.int .i64 0)]) K
 | some .string,.v false [.sc (.string s)]=>ret J o (.v false [.sc (.int .i64 s.size)]) K
 | _,_=>.bad
def Af6 {T:TypeId} {x:Operand} (h:RG F G J a w) (ho:o.op=.call { callee:=.builtin .len,args := #[x],argTypes := #[T]}) (hh:(Ah7 P o T x J K).holds Q):o.wp P a w (ContE F G a w o.dst K Q) Qx:=by
 unfold Ah7 at hh;have hx:=Aw h x;have run:∀ (d:TypeDesc) (v:Value) (n:Nat),P.underlying T=some d->a.eval x=v->(∀ w:World,(Builtin.len_ #[T] o.type #[v]).run P w=.ok (.int .i64 n) w)->(execOp a.eval o).run P w=.ok (.value (.int .i64 n)) w:=by intro d v n hu hv hr;simp[execOp,ho,resolve,invoke,builtin,hv,hr w]
 split at hh
 .rename_i e l hu hxe;rw[hxe] at hx;obtain⟨c,hc,hcr⟩:=hx;injection hc with hc
  subst hc;split at hh
  .rename_i t hl;refine AH h hh ⟨_,rfl,rfl,rfl⟩ ?_;rcases h.hp l t hl with⟨⟨ad,hv⟩,hz⟩|⟨g,off,cap,row,e',GG,hv,_⟩
   .exact run _ _ _ hu (hcr.1.trans hv) (λw=>by simp[Builtin.len_,run_underlying hu,goInt,hz])
   .exact run _ _ _ hu (hcr.1.trans hv) (λw=>by simp[Builtin.len_,run_underlying hu,goInt])
  .exact hh.elim
 .rename_i e l k lo n hu hxe;rw[hxe] at hx;obtain⟨c,hc,hcr⟩:=hx;injection hc with hc
  subst hc;refine AH h hh ⟨_,rfl,rfl,rfl⟩ ?_;rcases hcr with⟨ad,_,_,hz,hv⟩|⟨g,off,mm,cap,off',_,_,hv,_⟩
  .exact run _ _ _ hu hv (λw=>by simp[Builtin.len_,run_underlying hu,goInt,hz])
  .exact run _ _ _ hu hv (λw=>by simp[Builtin.len_,run_underlying hu,goInt])
 .rename_i e s t xs hu hxe;rw[hxe] at hx;obtain⟨c,hc,hcr⟩:=hx;injection hc with hc
  subst hc;refine AH h hh ⟨_,rfl,rfl,rfl⟩ ?_;simp only[CellR,Eb] at hcr;obtain⟨ad,cap,hav,_⟩:=hcr;exact run _ _ _ hu hav (λw=>by simp[Builtin.len_,run_underlying hu,goInt])
 .rename_i e hu hxe;rw[hxe] at hx;obtain⟨c,hc,hcr⟩:=hx;injection hc with hc
  subst hc;refine AH h hh ⟨_,rfl,rfl,rfl⟩ ?_;exact run _ _ 0 hu hcr (λw=>by simp[Builtin.len_,run_underlying hu,goInt])
 .rename_i s hu hxe;rw[hxe] at hx;obtain⟨c,hc,hcr⟩:=hx;injection hc with hc
  subst hc;refine AH h hh ⟨_,rfl,rfl,rfl⟩ ?_;exact run _ _ _ hu hcr.1 (λw=>by simp[Builtin.len_,run_underlying hu,goInt])
 .exact hh.elim
end
end Go.D
namespace Go.D
section
variable {P:Program} {F:Fr P} {G:Gh} {J:St} {a:Act} {w:World} {o:Oper} {K:St->Out} {Q:Post} {Qx:Exit->Act->World->Prop}
def Rk (J:St):List Cell->Option (List FC×List Nat)
 | []=>some ([],[])
 | c::cs=>match Rk J cs with
  | some (ds,ab)=>match c with
   | .nil=>some (.nl::ds,ab)
   | .ref l=>match look J.hp l with
    | some t=>if ab.contains l then none else some (.l t.t t.xs::ds,l::ab)
    | none=>none
   | c=>match c.val? with
    | some v=>some (.val v::ds,ab)
    | none=>none
  | none=>none
def AV:Cell->Nat->Prop
 | .ref l,m=>l=m
 | _,_=>False
def Of (h:RG F G J a w):∀ (cs:List Cell) (ds:List FC) (ab:List Nat),Rk J cs=some (ds,ab)->ds.length=cs.length /\
 (∀ (j:Nat) (c:Cell) (u:Value),cs[j]? = some c->CellR w G c u->TO w (fcC (ds.getD j .nl)) u λb=>∃ m,AV c m/\G.ow b=.lab m) /\
 (∀ (j:Nat) (c:Cell) (m:Nat),cs[j]? = some c->AV c m->m∈ab) /\
 (∀ (j j':Nat) (c c':Cell) (m:Nat),cs[j]? = some c->cs[j']? = some c'->AV c m->AV c' m->j=j'):=by
 intro cs
 induction cs with
 | nil=>intro ds ab hl;simp only[Rk,R_,bW] at hl;obtain⟨rfl,rfl⟩:=hl;simp
 | cons c cs ih=>
  intro ds ab hl;simp only[Rk] at hl;split at hl
  .rename_i ds0 ab0 hl0;obtain⟨h1,h2,h3,h4⟩:=ih ds0 ab0 hl0;have step:∀ (d:FC) (ab1:List Nat),ds=d::ds0->ab=ab1->(∀ u,CellR w G c u->TO w (fcC d) u λb=>∃ m,AV c m/\G.ow b=.lab m)->(∀ m,AV c m->m∈ab1)->(∀ m,m∈ab0->m∈ab1)->(∀ m,AV c m->m∉ab0) ->
    ds.length=(c::cs).length/\(∀ (j:Nat) (c':Cell) (u:Value),(c::cs)[j]? = some c'->CellR w G c' u->TO w (fcC (ds.getD j .nl)) u λb=>∃ m,AV c' m/\G.ow b=.lab m) /\
    (∀ (j:Nat) (c':Cell) (m:Nat),(c::cs)[j]? = some c'->AV c' m->m∈ab) /\
    (∀ (j j':Nat) (c1 c2:Cell) (m:Nat),(c::cs)[j]? = some c1->(c::cs)[j']? = some c2->AV c1 m->AV c2 m->j=j'):=by
    intro d ab1 hd hab t1 t2 t3 t4;subst hd;subst hab;refine⟨by simp[h1],λj c' u hj hu=>?_,λj c' m hj hm=>?_,λj j' c1 c2 m hj hj' hm hm'=>?_⟩
    .cases j with
     | zero=>simp only[List.getElem?_cons_zero,R_] at hj;subst hj;simpa using t1 u hu
     | succ j=>simpa using h2 j c' u (by simpa using hj) hu
    .cases j with
     | zero=>simp only[List.getElem?_cons_zero,R_] at hj;subst hj;exact t2 m hm
     | succ j=>exact t3 m (h3 j c' m (by simpa using hj) hm)
    .cases j with
     | zero=>
      simp only[List.getElem?_cons_zero,R_] at hj;subst hj;cases j' with
      | zero=>rfl
      | succ j'=>exact absurd (h3 j' c2 m (by simpa using hj') hm') (t4 m hm)
     | succ j=>
      cases j' with
      | zero=>
       simp only[List.getElem?_cons_zero,R_] at hj';subst hj';exact absurd (h3 j c1 m (by simpa using hj) hm) (t4 m hm')
      | succ j'=>rw[h4 j j' c1 c2 m (by simpa using hj) (by simpa using hj') hm hm']
   split at hl
   .simp only[R_,bW] at hl;exact step _ _ hl.1.symm hl.2.symm (λu hu=>hu) (by simp[AV]) (λ_ h=>h) (by simp[AV])
   .rename_i l;split at hl
    .rename_i t ht;split at hl
     .simp at hl
     .rename_i hnl;simp only[R_,bW] at hl;refine step _ _ hl.1.symm hl.2.symm (λu hu=>?_) (λm hm=>by simp only[AV] at hm;subst hm;simp) (λm hm=>by simp[hm]) (λm hm=>by simp only[AV] at hm;subst hm;simpa using hnl);rw[hu.1,Cu];exact(h.hp l t ht).frame λb hb _=>⟨rfl,l,rfl,hb⟩
    .simp at hl
   .rename_i hn1 hn2;split at hl
    .rename_i v hv;simp only[R_,bW] at hl;have hnl:∀ m,¬ AV c m:=by intro m hm;cases c<;>simp[AV] at hm;exact hn2 _ rfl
     exact step _ _ hl.1.symm hl.2.symm (λu hu=>Cell.val_ok hu hv) (λm hm=>(hnl m hm).elim) (λ_ h=>h) (λm hm=>(hnl m hm).elim)
    .simp at hl
  .simp at hl
end
end Go.D
namespace Go.D
section
variable {P:Program} {F:Fr P} {G:Gh} {J:St} {a:Act} {w:World} {o:Oper} {K:St->Out} {Q:Post} {Qx:Exit->Act->World->Prop}
def toCell (s:Option Nat):FC->Cell
 | .val v=>.sc v
 | .nl=>.nil
 | .l t xs=>.im s t xs
def Hc {s:Option Nat} {c:FC} {v:Value} (h:TR w (src G s) (fcC c) v):CellR w G (toCell s c) v:=by
 cases c<;>exact h
def GW (T:TypeId) (d:TypeDesc) (i:TypeInfo) (g off:Nat) (r:Array Value) (e:TypeId) (fr:Nat×Nat) (hd:P.underlying T=some d) (hi:P.info? T=some i)
 (hg:w.heap[g]? = some (.cells r e fr)) (vs:List Value) (hl:vs.length=i.size) (h:∀ (j:Nat) (v:Value),vs[j]? = some v->r[off+j]? = some v) (hs:Fy.aggOf P T=true\/i.size=1) :
 (loadVar T ⟨g,off,none⟩).run P w=.ok (HL P T vs) w:=by
 have hag:(isAgg T).run P w=.ok (Fy.aggOf P T) w:=by simp only[isAgg,Sem.run_bind,run_underlying hd,Result.andThen_ok,Fy.aggOf,hd];cases d<;>rfl
 have hc:∀ (j:Nat) (v:Value),vs[j]? = some v->w.cell? ((⟨g,off,none⟩:Addr).add j)=some v:=by intro j v hv;rw[FD,cell_of_row w g (off+j) r e fr hg];exact h j v hv
 unfold loadVar;simp only[Sem.run_bind,hag,Result.andThen_ok];cases hb:Fy.aggOf P T with
 | true=>
  have:=run_loadCells_list (P:=P) w ⟨g,off,none⟩ vs hc;rw[hl] at this;simp[sizeOf,typeInfo,hi,HL,hb,this]
 | false=>
  have h1:i.size=1:=by grind
  obtain⟨u,rfl⟩:∃ u,vs=[u]:=by rw[h1] at hl;exact ek.1 hl
  have h0:=hc 0 u rfl;simp only[Addr.add,aD] at h0;simp[HL,hb,h0]
def AaE (T:TypeId) (cs:List Cell) (vs:List Value) (hl:vs.length=cs.length) (h:∀ (j:Nat) (c:Cell),cs[j]? = some c->∃ u,vs[j]? = some u/\CellR w G c u) (hs:Fy.aggOf P T=true\/cs.length=1) :
 TVR w G (.v (Fy.aggOf P T) cs) (HL P T vs):=by
 unfold HL;cases hb:Fy.aggOf P T with
 | true=>exact⟨vs.toArray,rfl,by simpa using hl,λj c hc=>by grind⟩
 | false=>
  have h1:cs.length=1:=by grind
  obtain⟨c,rfl⟩:=ek.1 h1;obtain⟨u,rfl⟩:=ek.1 (hl.trans h1);obtain⟨u',hu',hr⟩:=h 0 c rfl;simp at hu';subst hu';exact⟨c,rfl,hr⟩
def QD {T:TypeId} {x:Operand} (h:RG F G J a w) (ho:o.op=.load T x) {d:TypeDesc} {i:TypeInfo} (hd:P.underlying T=some d) (hi:P.info? T=some i)
 {g off:Nat} {r:Array Value} {e:TypeId} {fr:Nat×Nat} (hx:a.eval x=.pointer (some ⟨g,off,none⟩)) (hg:w.heap[g]? = some (.cells r e fr)) (cs:List Cell) (hl:cs.length=i.size)
 (hc:∀ (j:Nat) (c:Cell),cs[j]? = some c->∃ u,r[off+j]? = some u/\CellR w G c u) (hs:Fy.aggOf P T=true\/i.size=1)
 (hh:(ret J o (.v (Fy.aggOf P T) cs) K).holds Q):o.wp P a w (ContE F G a w o.dst K Q) Qx:=by
 have hget:∀ j,j<cs.length->∃ u,r[off+j]? = some u/\CellR w G (cs.getD j .dead) u:=by simp_all
 let vs:List Value:=(List.range cs.length).map λj=>(r[off+j]?).getD undef
 have hvs:∀ (j:Nat),j<cs.length->vs[j]? = r[off+j]?:=by grind
 refine AH h hh (AaE (P:=P) T cs vs (by grind) (λj c hj=>?_) (by rwa [hl])) ?_
 .have hlt:=(List.getElem?_eq_some_iff.1 hj).1;rw[hvs j hlt];exact hc j c hj
 .have:=GW (P:=P) (w:=w) T d i g off r e fr hd hi hg vs (by grind) (λj v hv=>?_) hs
  .simp[execOp,ho,hx,Instr.loadAt,Instr.sureAddr,this]
  .have hlt:j<cs.length:=by grind
   rw[<-hvs j hlt];exact hv
def Lw (s:Option Nat) (row:Nat->FC) (off n:Nat):List Cell:=(List.range n).map λj=>toCell s (row (off+j))
def Aar (P:Program) (o:Oper) (T:TypeId) (x:Operand) (J:St) (K:St->Out):Out :=
 match P.underlying T,P.info? T with
 | some _,some i=>if Fy.aggOf P T||i.size==1 then match J.eval x with
  | .ptr b off=>match look J.bx b with
   | some cs=>if off+i.size<=cs.length then ret J o (.v (Fy.aggOf P T) ((cs.drop off).take i.size)) K else .bad
   | none=>.bad
  | .eptr l k e off=>match look J.hp l with
   | some t=>if t.k=k/\off+i.size<=k then .ob (e<t.n) (match Fy.aggOf P T,cell t.t t.xs e off with
    | false,.l t' ys=>ret J o (.inn l k e off t' ys) K
    | _,_=>ret J o (.v (Fy.aggOf P T) (Lw (some l) (cell t.t t.xs e) off i.size)) K) else .bad
   | none=>.bad
  | .sptr s t x off=>if off+i.size<=t.width then ret J o (.v (Fy.aggOf P T) (Lw s (λj=>(enc t x).getD j .nl) off i.size)) K else .bad
  | .aptr cs off=>if off+i.size<=cs.length then ret J o (.v (Fy.aggOf P T) (((cs.drop off).take i.size).map (toCell none))) K else .bad
  | _=>.bad
  else .bad
 | _,_=>.bad
def NM {s:Option Nat} {row:Nat->FC} {off n j:Nat} {c:Cell} (h:(Lw s row off n)[j]? = some c):j<n/\c=toCell s (row (off+j)):=by
 unfold Lw at h;grind
def Ada {T:TypeId} {x:Operand} (h:RG F G J a w) (ho:o.op=.load T x) (hh:(Aar P o T x J K).holds Q):o.wp P a w (ContE F G a w o.dst K Q) Qx:=by
 unfold Aar at hh;have hx:=Aw h x;split at hh
 .rename_i d i hd hi;split at hh
  .rename_i hs;have hs:Fy.aggOf P T=true\/i.size=1:=by grind
   split at hh
   .rename_i b off he;rw[he] at hx;split at hh
    .rename_i cs hb;split at hh
     .obtain⟨h1,r,e,h2,h3⟩:=h.bx b cs hb;refine QD h ho hd hi hx h2 _ (by grind) (λj c hj=>?_) hs hh;have hlt:j<i.size:=by have:=(List.getElem?_eq_some_iff.1 hj).1;simp at this;omega
      simp only[fC,hlt,aD,List.getElem?_drop] at hj;exact h3.2 _ _ hj
     .exact hh.elim
    .exact hh.elim
   .rename_i l k e0 off he;rw[he] at hx;split at hh
    .rename_i t hl;split at hh
     .rename_i hle;obtain⟨hk,hle⟩:=hle;obtain⟨hlt,hh⟩:=hh;obtain⟨g,o',m,cap,hv,hav⟩:=hx;obtain⟨_,cap',hv',_,hz|⟨g',o2,row,e,fr,hae,hS,hg,hrow⟩⟩:=(h.hp l t hl).read
      .omega
      .rw[hv] at hv';injection hv' with h1 h2 h3
       subst h1;injection hae with hae
       injection hae with hg1 ho1
       subst hg1;subst ho1;split at hh
       .rename_i _ _ t' ys hag hcl;have h1:i.size=1:=by grind
        rcases h.hp l t hl with⟨_,hz⟩|⟨g2,o3,cap2,row2,e2,GG,hv2,_,_,hg2,hF2,_⟩
        .omega
        rw[hv] at hv2;injection hv2 with ha hn hcap
        injection ha with ha
        injection ha with hgg hoo
        subst hgg;rw[hg] at hg2;injection hg2 with hg2
        injection hg2 with hr2 he2 hfr2
        subst hr2 he2 hfr2;obtain⟨u,hu,ht⟩:=hrow e0 hlt off O;rw[hk] at hu;have hrun:=GW (P:=P) (w:=w) T d i g (o'+e0*k+off) row e (0,0) hd hi hg [u] (by grind) (λj v hj=>by
         cases j with
         | zero=>simp only[List.getElem?_cons_zero,R_] at hj;subst hj;simpa using hu
         | succ j=>simp at hj) hs
        have hmk:HL P T [u]=u:=by simp[HL,hag]
        rw[hmk] at hrun;refine AH h hh (v:=u) ⟨⟨g,o',m,cap,row,e,hv,O,O,hS,hg,hu⟩,?_⟩ (by simp[execOp,ho,hav,Instr.loadAt,Instr.sureAddr,hrun]);rw[<-hcl];exact ht
       .refine QD h ho hd hi hav hg _ (by simp[Lw]) (λj c hj=>?_) hs hh;obtain⟨hj1,rfl⟩:=NM hj;obtain⟨u,hu,ht⟩:=hrow e0 hlt (off+j) O;rw[hk] at hu;exact⟨u,by grind,Hc (s:=some l) ht⟩
     .exact hh.elim
    .exact hh.elim
   .rename_i s t x off he;rw[he] at hx;split at hh
    .obtain⟨g,o',r,e,fr,hav,hS,hg,hrow⟩:=hx;refine QD h ho hd hi hav hg _ (by simp[Lw]) (λj c hj=>?_) hs hh;obtain⟨hj1,rfl⟩:=NM hj;obtain⟨u,hu,ht⟩:=hrow (off+j) O;exact⟨u,by grind,Hc ht⟩
    .exact hh.elim
   .rename_i cs off he;rw[he] at hx;split at hh
    .obtain⟨g,r,e,fr,hav,hS,hg,hrow⟩:=hx;refine QD h ho hd hi hav hg _ (by grind) (λj c hj=>?_) hs hh;have hlt:j<i.size:=by have:=(List.getElem?_eq_some_iff.1 hj).1;simp at this;omega
     simp only[cz,fC,hlt,aD,List.getElem?_drop] at hj;cases hq:cs[off+j]? with
     | none=>simp[hq] at hj
     | some c0=>
      simp only[hq,bC,R_] at hj;subst hj;obtain⟨u,hu,ht⟩:=hrow _ _ hq;exact⟨u,hu,Hc (s:=none) ht⟩
    .exact hh.elim
   .exact hh.elim
  .exact hh.elim
 .exact hh.elim
def KW (h:RG F G J a w):G.ow w.heap.size=.gone:=by
 cases hq:G.ow w.heap.size with
 | gone=>rfl
 | _=>exact absurd (h.lt w.heap.size (by grind)) (Nat.lt_irrefl _)
def RG.alloc (h:RG F G J a w) (ob:Obj):RG F G J a (w.alloc ob) :=
 h.world ⟨rfl,rfl,⟨rfl,by first|exact DrLe.refl _|exact DrLe.succ _|exact DrLe.add _ _⟩,by simp⟩ λg hg=>heap_alloc_old w ob g (h.lt g hg)
def Cells.alloc {cs:List Cell} {vs:Array Value} (h:RG F G J a w) (ob:Obj) (hc:A4 w G cs vs):A4 (w.alloc ob) G cs vs :=
 Cells.carry ⟨λg hg=>⟨heap_alloc_old w ob g (h.lt g (by grind)),hg⟩,λg hg=>hg⟩ (λ_ _=>rfl) (λm _ g hg=>⟨heap_alloc_old w ob g (h.lt g (by simp[hg])),hg⟩) hc
def Afu (o:Oper) (cs:List Cell) (J:St) (K:St->Out):Out :=
 match o.dst with
 | some d=>if J.hasB d then .bad else if d<J.nt then K (({ J with bx:=D.put J.bx d cs }:St).put d (.ptr d 0)) else .bad
 | none=>.bad
def WX {cs:List Cell} {r:Array Value} {e:TypeId} (h:RG F G J a w) (hc:A4 w G cs r) (hh:(Afu o cs J K).holds Q)
 (he:(execOp a.eval o).run P w=.ok (.value (.pointer (some ⟨w.heap.size,0,none⟩))) (w.alloc (.cells r e))):o.wp P a w (ContE F G a w o.dst K Q) Qx:=by
 unfold Afu at hh;split at hh
 .rename_i d hd;split at hh
  .exact hh.elim
  .rename_i hb;split at hh
   .rename_i hlt;obtain⟨G',hG,hbe,how,hob,hhv⟩:=(h.alloc (.cells r e)).newBox d cs w.heap.size r e (by grind) (KW h) (heap_alloc_new w _) (Cells.alloc h _ hc);refine EM he ?_;rw[hd];exact⟨_,G',hG.put hlt (by simp[TVR,hbe]),hh,⟨_,rfl⟩,⟨rfl,rfl,⟨rfl,by first|exact DrLe.refl _|exact DrLe.succ _|exact DrLe.add _ _⟩,by simp⟩,λg hg=>.inl (heap_alloc_old w _ g hg),how,λb hb=>hob b λe=>hb (e▸rfl),λl _=>by rw[hhv]⟩
   .exact hh.elim
 .exact hh.elim
def I1 {agg:Bool} {cs:List Cell} {v:Value} (h:G6 w G agg cs v):A4 w G cs v.cells:=by
 cases agg with
 | true=>obtain⟨vs,rfl,h⟩:=h;exact h
 | false=>
  obtain⟨c,rfl,h⟩:=h;have h1:v.cells = #[v]:=by have:=CellR.one h;cases v<;>simp_all [Value.oneCell',Value.cells]
  rw[h1];refine⟨rfl,λj c' hj=>?_⟩;grind
def Aii (o:Oper) (x:Operand) (J:St) (K:St->Out):Out :=
 match J.eval x with
 | .v _ cs=>Afu o cs J K
 | _=>.bad
def Afp {T:TypeId} {x:Operand} (h:RG F G J a w) (ho:o.op=.box T x) (hh:(Aii o x J K).holds Q):o.wp P a w (ContE F G a w o.dst K Q) Qx:=by
 unfold Aii at hh;have hx:=Aw h x;split at hh
 .rename_i agg cs he;rw[he] at hx;exact WX (e:=T) h (I1 hx) hh (by simp[execOp,ho,Instr.box,newVar,newRow])
 .exact hh.elim
def zeroCells (P:Program) (T:TypeId):Option (List Cell) :=
 match P.info? T with
 | some i=>match i.zero with
  | some z=>if z.cells.toList.all (λv=>v.oneCell') then some (z.cells.toList.map Gl) else none
  | none=>none
 | none=>none
def H7 {T:TypeId} {cs:List Cell} (h:zeroCells P T=some cs):∃ i z,P.info? T=some i/\i.zero=some z/\A4 w G cs z.cells:=by
 unfold zeroCells at h;split at h
 .rename_i i hi;split at h
  .rename_i z hz;split at h
   .rename_i hall;simp at h;subst h;refine⟨i,z,hi,hz,by simp,λj c hj=>?_⟩;rw[cz] at hj;cases hq:z.cells.toList[j]? with
    | none=>simp[hq] at hj
    | some v=>
     simp only[hq,bC,R_] at hj;subst hj;refine⟨v,by grind,Te w G v ?_⟩;grind
   .simp at h
  .simp at h
 .simp at h
def TU (P:Program) (o:Oper) (T:TypeId) (J:St) (K:St->Out):Out :=
 match zeroCells P T with
 | some cs=>Afu o cs J K
 | none=>.bad
def ZC {T:TypeId} (h:RG F G J a w) (ho:o.op=.alloc T) (hh:(TU P o T J K).holds Q):o.wp P a w (ContE F G a w o.dst K Q) Qx:=by
 unfold TU at hh;split at hh
 .rename_i cs hz;obtain⟨i,z,hi,hzz,hc⟩:=H7 (w:=w) (G:=G) hz;exact WX (e:=T) h hc hh (by simp[execOp,ho,Instr.alloc,zeroValue,typeInfo,hi,hzz,newVar,newRow])
 .exact hh.elim
def H4 {cs0 cs:List Cell} {r vs:Array Value} {off:Nat} (h0:A4 w G cs0 r) (h:A4 w G cs vs) (hle:off+cs.length<=cs0.length) :
 A4 w G (cs0.take off++cs++cs0.drop (off+cs.length)) (r.toList.take off++vs.toList++r.toList.drop (off+vs.toList.length)).toArray:=by
 have hr:=h0.1;have hv:=h.1;have hvl:vs.toList.length=cs.length:=O
 refine⟨by grind,λj c hj=>?_⟩;simp only[List.getElem?_toArray];rw[bK] at hj ⊢;by_cases h1:j<off
 .rw[cN (by grind)] at hj;rw[cN (by grind)];simp only[fC,h1,aD] at hj ⊢;simpa using h0.2 j c hj
 .rw[cX (by grind)] at hj;rw[cX (by grind)];have e1:(List.take off cs0).length=off:=by grind
  have e2:(List.take off r.toList).length=off:=by grind
  rw[e1] at hj;rw[e2];by_cases h2:j-off<cs.length
  .rw[cN h2] at hj;rw[cN O];simpa using h.2 _ c hj
  .rw[cX O] at hj;rw[cX O];rw[hvl];simp only[List.getElem?_drop] at hj ⊢;simpa using h0.2 _ c hj
def M1 (P:Program) (o:Oper) (T:TypeId) (p x:Operand) (J:St) (K:St->Out):Out :=
 match P.info? T,J.eval x with
 | some i,.v _ cs=>if i.size=cs.length then(match J.eval p with
  | .ptr b off=>match look J.bx b with
   | some cs0=>if off+cs.length<=cs0.length then K { J with bx:=D.put J.bx b (cs0.take off++cs++cs0.drop (off+cs.length))} else .bad
   | none=>.bad
  | .eptr l k e off=>match look J.hp l,Rk J cs with
   | some T0,some (ds,ab)=>if T0.k=k/\off+cs.length<=k/\(dec T0.t (G5 (enc T0.t (T0.xs.getD e default)) off ds)).isSome=true/\ab.contains l=false/\ab.all (λm=>!J.fl.contains m)=true then
    .ob (e<T0.n) (.lt (List (El T0.t)) (T0.xs.modify e (upd T0.t off ds)) λys=>K (({ J with hp:=(l,⟨T0.t,ys⟩)::J.hp.filter λp=>!ab.contains p.1 }.kill ab).loose [l])) else .bad
   | _,_=>.bad
  | _=>.bad) else .bad
 | _,_=>.bad
def Is {T:TypeId} {p x:Operand} {i:TypeInfo} (ho:o.op=.store T p x) (hi:P.info? T=some i) {v:Value} (hv:a.eval x=v) {g off:Nat} (hp:a.eval p=.pointer (some ⟨g,off,none⟩))
 {r:Array Value} {e:TypeId} (hg:w.heap[g]? = some (.cells r e (0,0))) (hs:v.cells.size=i.size) (hle:off+v.cells.toList.length<=r.size) (h1:∀ u∈v.cells.toList,u.oneCell'=true) :
 (execOp a.eval o).run P w=.ok .skip (w.setRow g (r.toList.take off++v.cells.toList++r.toList.drop (off+v.cells.toList.length)).toArray):=by
 have:=run_storeCells_at P g off e v.cells.toList 0 r w hg O h1;simp only[Nat.add_zero] at this;simp[execOp,ho,hp,hv,Instr.storeAt,Instr.sureAddr,storeVar,sizeOf,typeInfo,hi,hs,this]
def SL {cs:List Cell} {vs:Array Value} (h:A4 w G cs vs):∀ u∈vs.toList,u.oneCell'=true:=by
 intro u hu;obtain⟨j,hj⟩:=List.getElem?_of_mem hu;have hlt:j<cs.length:=by have:=(List.getElem?_eq_some_iff.1 hj).1;rw[<-h.1];exact this
 obtain⟨v,hv,hr⟩:=h.2 j _ (aH hlt);have:u=v:=by simp_all
 subst this;exact hr.one
def XJ {i i' j j' k:Nat} (hj:j<k) (hj':j'<k) (h:i'*k+j'=i*k+j):i'=i/\j'=j:=by
 have h0:0<k:=O
 have e1:(i'*k+j') / k=i':=by rw[Nat.mul_comm,Nat.mul_add_div h0,Nat.div_eq_of_lt hj'];rfl
 have e2:(i*k+j) / k=i:=by rw[Nat.mul_comm,Nat.mul_add_div h0,Nat.div_eq_of_lt hj];rfl
 simp_all
def LC {T:TypeId} {p x:Operand} (h:RG F G J a w) (ho:o.op=.store T p x) (hd:o.dst=none) (hh:(M1 P o T p x J K).holds Q):o.wp P a w (LK F K Q) Qx:=by
 unfold M1 at hh;have hx:=Aw h x;have hp:=Aw h p;have hput:∀ v,a.put o.dst v=a:=by intro v;rw[hd];rfl
 split at hh
 .rename_i i agg cs hi hxe;rw[hxe] at hx;have hcs:=I1 hx;have hsz:(a.eval x).cells.toList.length=cs.length:=by simpa using hcs.1
  split at hh
  .rename_i hs;split at hh
   .rename_i b off hpe;rw[hpe] at hp;split at hh
    .rename_i cs0 hb;split at hh
     .rename_i hle;obtain⟨h1,r,e,h2,h3⟩:=h.bx b cs0 hb;refine Aeu (Is ho hi rfl hp h2 (by grind) (by rw[hsz,h3.1];exact hle) (SL hcs)) ?_;rw[hput];exact⟨_,⟨G,h.setBox b cs0 _ _ e hb ⟨rfl,rfl,⟨rfl,by first|exact DrLe.refl _|exact DrLe.succ _|exact DrLe.add _ _⟩,by simp⟩ (λg hg=>setRow_other w _ g _ hg) (setRow_heap w _ r _ e _ h2) (H4 h3 hcs hle)⟩,hh⟩
     .exact hh.elim
    .exact hh.elim
   .rename_i l k e0 off hpe;rw[hpe] at hp;split at hh
    .rename_i T0 ds ab hl hlit;split at hh
     .rename_i hcond;obtain⟨hk,hle,hdec,hlab,habf⟩:=hcond;obtain⟨hlt,hh⟩:=hh;obtain⟨g,o',m,cap0,hv,hpv⟩:=hp;obtain⟨l1,l2,l3,l4⟩:=Of h cs ds ab hlit;have hla:l∉ab:=by grind
      generalize hvs:(a.eval x).cells.toList=us at hsz;rcases h.hp l T0 hl with⟨_,hz⟩|⟨g',o2,cap,row,e,GG,hv',hnc,hcap,hg,hF,hrow,hsub,hdis⟩
      .omega
      .have hv2:=hv';rw[hv] at hv';injection hv' with hA hB hC
       injection hA with hA
       injection hA with hA1 hA2
       subst hA1;subst hA2;have hin:e0*k+k<=T0.n*k:=by
        have:(e0+1)*k<=T0.n*k:=de _ hlt
        rwa [Nat.add_mul,Nat.one_mul] at this
       have hnk:T0.n*k<=cap*k:=de _ hnc;rw[hk] at hcap;have hfit:o'+e0*k+off+us.length<=row.size:=O
       have hel:(enc T0.t (T0.xs.getD e0 default)).length=k:=by rw[KI];exact hk
       have hupd:=(AcM hdec).get.2;have hTk:(⟨T0.t,T0.xs.modify e0 (upd T0.t off ds)⟩:Tree).k=k:=hk;have hTn:(⟨T0.t,T0.xs.modify e0 (upd T0.t off ds)⟩:Tree).n=T0.n:=by simp[Tree.n]
       refine Aeu (Is ho hi rfl hpv hg (by rw[hcs.1,hs]) (by grind) (by intro u hu;exact SL hcs u hu)) ?_;rw[hput,hvs];have old:∀ b,b≠g->(w.setRow g (row.toList.take (o'+e0*k+off)++us++row.toList.drop (o'+e0*k+off+us.length)).toArray).heap[b]? = w.heap[b]?:=λb hb=>setRow_other w g b _ hb
       obtain⟨G',hG',_⟩:=h.setTree (w':=w.setRow g (row.toList.take (o'+e0*k+off)++us++row.toList.drop (o'+e0*k+off+us.length)).toArray) l ab T0 ⟨T0.t,T0.xs.modify e0 (upd T0.t off ds)⟩ hl hla (by grind) ⟨rfl,rfl,⟨rfl,by first|exact DrLe.refl _|exact DrLe.succ _|exact DrLe.add _ _⟩,by simp⟩
        (λb hb hbl=>old b λe=>hbl (e▸hF)) (by
         refine .inr ⟨g,o',cap,_,e,λi j=>if i=e0/\off<=j/\j<off+us.length then(λb=>∃ c m,cs[j-off]? = some c/\AV c m/\G.ow b=.lab m) else GG i j,by grind,by rw[hTn];exact hnc,?_,setRow_heap w g row _ e _ hg,.inl hF,?_,?_,?_⟩
         .rw[hTk];simp;omega
         .intro i' hi' j' hj';rw[hTn] at hi';rw[hTk] at hj' ⊢;have hfc:(⟨T0.t,T0.xs.modify e0 (upd T0.t off ds)⟩:Tree).f i' j'=fcC (if i'=e0 then(enc T0.t (upd T0.t off ds (T0.xs.getD e0 default))).getD j' .nl else cell T0.t T0.xs i' j'):=by simp only[Tree.f];rw[Js (show e0<T0.xs.length from hlt)]
          rw[hfc];obtain⟨u,hu,ht⟩:=hrow i' hi' j' O;rw[hk] at hu;by_cases hin':i'=e0/\off<=j'/\j'<off+us.length
          .obtain⟨rfl,hj1,hj2⟩:=hin';have hjj:j'-off<us.length:=O
           refine⟨us[j'-off],?_,?_⟩
           .simp only[List.getElem?_toArray];rw[bK,cX (by simp;omega)];have e1:(List.take (o'+i'*k+off) row.toList).length=o'+i'*k+off:=by simp;omega
            rw[e1,cN O,show o'+i'*k+j'-(o'+i'*k+off)=j'-off from O,aH hjj]
           .simp only[hj1,hj2,and_self,aD];have hjc:j'-off<cs.length:=O
            obtain⟨u2,hu2,hcr⟩:=hcs.2 (j'-off) _ (aH hjc);have e2:u2=us[j'-off]:=by
             have h3:(a.eval x).cells.toList[j'-off]? = some u2:=by grind
             rw[hvs,aH hjj] at h3;injection h3 with h3
             exact h3.symm
            subst e2;have hto:=l2 (j'-off) _ _ (aH hjc) hcr;have hle':=hupd j';rw[EO O,G_ ⟨hj1,by rw[l1];omega⟩] at hle';refine TO.le hle'.le (hto.frame λb hb _=>?_);obtain⟨m',hm',hb'⟩:=hb;exact⟨old b (λe=>by grind),_,m',aH hjc,hm',hb'⟩
          .have hne:¬ (o'+e0*k+off<=o'+i'*k+j'/\o'+i'*k+j'<o'+e0*k+off+us.length):=by
            rintro⟨ha,hb⟩;have hx1:i'*k+j'=e0*k+(i'*k+j'-e0*k):=O
            obtain⟨h1,h2⟩:=XJ (i:=e0) (j:=i'*k+j'-e0*k) O hj' hx1;exact hin' ⟨h1,O,O⟩
           refine⟨u,?_,?_⟩
           .simp only[List.getElem?_toArray];rw[bK];by_cases hlo:o'+i'*k+j'<o'+e0*k+off
            .rw[cN (by simp;omega)];simp only[fC,hlo,aD];simpa using hu
            .rw[cX (by simp;omega)];have e1:(List.take (o'+e0*k+off) row.toList).length=o'+e0*k+off:=by simp;omega
             rw[e1,cX O];simp;rw[show o'+e0*k+off+us.length+(o'+i'*k+j'-(o'+e0*k+off)-us.length)=o'+i'*k+j' from O];simpa using hu
           .simp only[hin',aS];have ht':TO (w.setRow g (row.toList.take (o'+e0*k+off)++us++row.toList.drop (o'+e0*k+off+us.length)).toArray) (fcC (cell T0.t T0.xs i' j')) u (GG i' j') :=
             ht.frame λb hb _=>⟨old b (hsub i' hi' j' O b hb).2,hb⟩
            by_cases hie:i'=e0
            .subst hie;simp only[aD];have hle':=hupd j';rw[EO O,F_ (by rw[l1];omega)] at hle';exact TO.le hle'.le ht'
            .simp only[hie,aS];exact ht'
         .intro i' hi' j' hj' b hb;rw[hTn] at hi';rw[hTk] at hj';by_cases hin':i'=e0/\off<=j'/\j'<off+us.length
          .simp only[hin',and_self,aD] at hb;obtain⟨c,m',hc,hm',hb'⟩:=hb;have hma:=l3 _ c m' hc hm';exact⟨.inr ⟨m',hma,hb'⟩,λe=>by grind⟩
          .simp only[hin',aS] at hb;exact⟨.inl (hsub i' hi' j' O b hb).1,(hsub i' hi' j' (by rw[hk];exact hj') b hb).2⟩
         .intro i1 hi1 j1 hj1 i2 hi2 j2 hj2 b hb1 hb2;rw[hTn] at hi1 hi2;rw[hTk] at hj1 hj2;have cross:∀ (i j j3:Nat),i<T0.n->j<k->GG i j b->¬ ∃ c m,cs[j3-off]? = some c/\AV c m/\G.ow b=.lab m:=by
           rintro i j j3 hi hj hb ⟨c,m',hc,hm',hb'⟩;have e1:G.ow b=.lab l:=(hsub i hi j O b hb).1;rw[hb'] at e1;injection e1 with e1
           exact hla (e1▸l3 _ c m' hc hm')
          by_cases hin1:i1=e0/\off<=j1/\j1<off+us.length
          .by_cases hin2:i2=e0/\off<=j2/\j2<off+us.length
           .simp only[hin1,hin2,and_self,aD] at hb1 hb2;obtain⟨c1,m1,hc1,hm1,hbm1⟩:=hb1;obtain⟨c2,m2,hc2,hm2,hbm2⟩:=hb2;rw[hbm1] at hbm2;injection hbm2 with e2
            subst e2;have:=l4 _ _ c1 c2 m1 hc1 hc2 hm1 hm2;exact⟨O,O⟩
           .simp only[hin1,and_self,aD] at hb1;simp only[hin2,aS] at hb2;exact(cross i2 j2 j1 hi2 hj2 hb2 hb1).elim
          .by_cases hin2:i2=e0/\off<=j2/\j2<off+us.length
           .simp only[hin1,aS] at hb1;simp only[hin2,and_self,aD] at hb2;exact(cross i1 j1 j2 hi1 hj1 hb1 hb2).elim
           .simp only[hin1,hin2,aS] at hb1 hb2;exact hdis i1 hi1 j1 O i2 hi2 j2 (by rw[hk];exact hj2) b hb1 hb2)
       exact⟨_,⟨G',hG'⟩,hh⟩
     .exact hh.elim
    .exact hh.elim
   .exact hh.elim
  .exact hh.elim
 .exact hh.elim
def Af7:TV->Option Cap
 | .ptr b 0=>some (.ptr b)
 | .aptr cs 0=>some (.aptr cs)
 | _=>none
def AeS {x:TV} {c:Cap} {v:Value} (h:TVR w G x v) (hc:Af7 x=some c):ZF w G c v:=by
 unfold Af7 at hc;split at hc<;>simp at hc<;>subst hc
 .exact h
 .exact h
def S1:List TV->Option (List Cap)
 | []=>some []
 | x::xs=>match Af7 x,S1 xs with
  | some c,some cs=>some (c::cs)
  | _,_=>none
def AbL {xs:List TV} {cs:List Cap} (hc:S1 xs=some cs):cs.length=xs.length/\∀ (j:Nat) (c:Cap),cs[j]? = some c->∃ x,xs[j]? = some x/\Af7 x=some c:=by
 induction xs generalizing cs with
 | nil=>simp only[S1,R_] at hc;subst hc;simp
 | cons x xs ih=>
  simp only[S1] at hc;grind
def Ly (o:Oper) (fn:Fn) (first captured:Array Operand) (J:St) (K:St->Out):Out :=
 match fn,first.toList with
 | .func f,[]=>match S1 (captured.toList.map J.eval) with
  | some caps=>ret J o (.clo f caps) K
  | none=>.bad
 | _,_=>.bad
def PF {fn:Fn} {first captured:Array Operand} (h:RG F G J a w) (ho:o.op=.makeFunc fn first captured) (hh:(Ly o fn first captured J K).holds Q):o.wp P a w (ContE F G a w o.dst K Q) Qx:=by
 unfold Ly at hh;split at hh
 .rename_i f hf;split at hh
  .rename_i caps hc;have hfirst:first = #[]:=by grind
   obtain⟨h1,h2⟩:=AbL hc;refine AH (v:=.func (.func f) #[] (captured.map a.eval)) h hh ⟨captured.map a.eval,rfl,by grind,λj c hj=>?_⟩ (by simp[execOp,ho,hfirst,Instr.makeFunc]);obtain⟨x,hx,hcx⟩:=h2 j c hj;rw[cz] at hx;cases hq:captured.toList[j]? with
   | none=>simp[hq] at hx
   | some y=>
    simp only[hq,bC,R_] at hx;subst hx;have hq':captured[j]? = some y:=by grind
    exact⟨a.eval y,by grind,AeS (Aw h y) hcx⟩
  .exact hh.elim
 .exact hh.elim
end
end Go.D
namespace Go.D
section
variable {P:Program} {F:Fr P} {G:Gh} {J:St} {a:Act} {w:World} {o:Oper} {K:St->Out} {Q:Post} {Qx:Exit->Act->World->Prop}
def LL (J:St):Option Operand->Option (Option Int)
 | none=>some none
 | some x=>match (J.eval x).scal with
  | some (.int _ n)=>some (some n)
  | _=>none
def G9 {x:Option Operand} {n:Option Int} (h:RG F G J a w) (hx:LL J x=some n):(x=none/\n=none)\/∃ y k z,x=some y/\n=some z/\a.eval y=.int k z:=by
 unfold LL at hx;split at hx
 .simp_all
 .rename_i y;split at hx
  .rename_i k z hz;simp only[R_] at hx;exact .inr ⟨y,k,z,rfl,hx.symm,(C9 (Aw h y) hz).1⟩
  .simp at hx
def bnd (lo hi:Option Int) (n:Nat):Prop×Nat×Nat :=
 match lo,hi with
 | none,none=>(True,0,n)
 | some l,none=>(0<=l/\l<=n,l.toNat,n)
 | none,some h=>(0<=h/\h<=n,0,h.toNat)
 | some l,some h=>(0<=l/\l<=h/\h<=n,l.toNat,h.toNat)
def AbR {lo hi:Option Int} {n:Nat} (h:(bnd lo hi n).1):(bnd lo hi n).2.1<=(bnd lo hi n).2.2/\(bnd lo hi n).2.2<=n:=by
 unfold bnd at *
 grind
def Oo (lo hi:Option Int) (n N:Nat):Prop×Nat×Nat :=
 match lo,hi with
 | none,none=>(True,0,n)
 | some l,none=>(0<=l/\l<=n,l.toNat,n)
 | none,some h=>(0<=h/\h<=N,0,h.toNat)
 | some l,some h=>(0<=l/\l<=h/\h<=N,l.toNat,h.toNat)
def Aec {lo hi:Option Int} {n N M:Nat} (h:(Oo lo hi n N).1) (h1:n<=M) (h2:N<=M):(Oo lo hi n N).2.1<=(Oo lo hi n N).2.2/\(Oo lo hi n N).2.2<=M:=by
 unfold Oo at *
 grind
def Xb {lo hi:Option Operand} {l hh:Option Int} {n N cap:Nat} {b:Bool} (h:RG F G J a w) (hl:LL J lo=some l) (hr:LL J hi=some hh) (hb:(Oo l hh n N).1) (hc:n<=cap) (hN:N<=cap) :
 (Instr.sliceBounds b n cap (lo.map a.eval) (hi.map a.eval) none).run P w=.ok ((Oo l hh n N).2.1,(Oo l hh n N).2.2,cap) w:=by
 rcases G9 h hl with⟨rfl,rfl⟩|⟨y1,k1,z1,rfl,rfl,e1⟩<;>rcases G9 h hr with⟨rfl,rfl⟩|⟨y2,k2,z2,rfl,rfl,e2⟩<;>simp only[Oo] at hb ⊢
 .simp[Instr.sliceBounds]
 .have h1:z2<=(cap:Int):=O
  simp[Instr.sliceBounds,Instr.sliceBound,asIntOf,e2,hb.1,h1]
 .simp[Instr.sliceBounds,Instr.sliceBound,asIntOf,e1,hb.1,hb.2]
 .have h1:z2<=(cap:Int):=O
  have h2:0<=z2:=O
  have h3:z1<=max z2 0:=O
  simp[Instr.sliceBounds,Instr.sliceBound,asIntOf,e1,e2,hb.1,h1,h2,h3]
def Agq {x1 x2 x3:Operand} {z1 z2 z3:Int} {k1 k2 k3:IntKind} {n cap:Nat} (e1:a.eval x1=.int k1 z1) (e2:a.eval x2=.int k2 z2) (e3:a.eval x3=.int k3 z3) (hb:0<=z1/\z1<=z2/\z2<=z3/\z3<=n) (hc:n<=cap) :
 (Instr.sliceBounds true n cap (some (a.eval x1)) (some (a.eval x2)) (some (a.eval x3))).run P w=.ok (z1.toNat,z2.toNat,z3.toNat) w:=by
 have h1:z3<=(cap:Int):=O
 have h2:0<=z3:=O
 have h3:0<=z2:=O
 have h4:z2<=max z3 0:=O
 have h5:z1<=max z2 0:=O
 simp[Instr.sliceBounds,Instr.sliceBound,asIntOf,e1,e2,e3,hb.1,h1,h2,h3,h4,h5]
def M9 {lo hi:Option Operand} {l hh:Option Int} {n cap:Nat} {b:Bool} (h:RG F G J a w) (hl:LL J lo=some l) (hr:LL J hi=some hh) (hb:(bnd l hh n).1) (hc:n<=cap) :
 (Instr.sliceBounds b n cap (lo.map a.eval) (hi.map a.eval) none).run P w=.ok ((bnd l hh n).2.1,(bnd l hh n).2.2,cap) w:=by
 rcases G9 h hl with⟨rfl,rfl⟩|⟨y1,k1,z1,rfl,rfl,e1⟩<;>rcases G9 h hr with⟨rfl,rfl⟩|⟨y2,k2,z2,rfl,rfl,e2⟩<;>simp only[bnd] at hb ⊢
 .simp[Instr.sliceBounds]
 .have h1:z2<=(cap:Int):=O
  simp[Instr.sliceBounds,Instr.sliceBound,asIntOf,e2,hb.1,h1]
 .simp[Instr.sliceBounds,Instr.sliceBound,asIntOf,e1,hb.1,hb.2]
 .have h1:z2<=(cap:Int):=O
  have h2:0<=z2:=O
  have h3:z1<=max z2 0:=O
  simp[Instr.sliceBounds,Instr.sliceBound,asIntOf,e1,e2,hb.1,h1,h2,h3]
def VO (P:Program) (o:Oper) (T:TypeId) (x:Operand) (lo hi mx:Option Operand) (J:St) (K:St->Out):Out :=
 match mx,LL J lo,LL J hi with
 | some x3,some (some l),some (some h)=>match P.underlying T,J.eval x,(J.eval x3).scal with
  | some (.slice e),.v false [.ref m],some (.int _ z)=>match look J.hp m,P.info? e with
   | some t,some ie=>.ob (0<=l/\l<=h/\h<=z/\z<=t.n) (ret J o .dead K)
   | _,_=>.bad
  | _,_,_=>.bad
 | none,some l,some h=>match P.underlying T,J.eval x with
  | some .string,.v false [.sc (.string s)]=>.ob (bnd l h s.size).1 (ret J o (.v false [.sc (.string (s.extract (bnd l h s.size).2.1 (bnd l h s.size).2.2))]) K)
  | some (.slice e),.v false [.ref m]=>match look J.hp m,P.info? e with
   | some t,some ie=>if t.k=ie.size then .ob (bnd l h t.n).1 (ret J o (.v false [.sub m t.k (bnd l h t.n).2.1 ((bnd l h t.n).2.2-(bnd l h t.n).2.1)]) K) else .bad
   | _,_=>.bad
  | some (.slice e),.v false [.sub m k lo0 n]=>match look J.hp m,P.info? e with
   | some t,some ie=>if k=ie.size then .ob (Oo l h n (t.n-lo0)).1 (ret J o (.v false [.sub m k (lo0+(Oo l h n (t.n-lo0)).2.1) ((Oo l h n (t.n-lo0)).2.2-(Oo l h n (t.n-lo0)).2.1)]) K) else .bad
   | _,_=>.bad
  | some (.slice e),.v false [.im s t xs]=>match P.info? e with
   | some ie=>if t.width=ie.size then .ob (bnd l h xs.length).1 (ret J o (.v false [.im s t (cut xs (bnd l h xs.length).2.1 ((bnd l h xs.length).2.2-(bnd l h xs.length).2.1))]) K) else .bad
   | none=>.bad
  | some (.slice e),.v false [.nil]=>match P.info? e with
   | some ie=>.ob (bnd l h 0).1 (ret J o (.v false [.nil]) K)
   | none=>.bad
  | _,_=>.bad
 | _,_,_=>.bad
def EU {T e:TypeId} {x:Operand} {lo hi:Option Operand} {ie:TypeInfo} {ad:Option Addr} {n cap l h:Nat} (ho:o.op=.slice T x lo hi none) (hu:P.underlying T=some (.slice e)) (hi':P.info? e=some ie) (hx:a.eval x=.slice ad n cap)
 (hb:(Instr.sliceBounds true n cap (lo.map a.eval) (hi.map a.eval) none).run P w=.ok (l,h,cap) w) :
 (execOp a.eval o).run P w=.ok (.value (.slice (if cap=l then ad else ad.map (·.add (l*ie.size))) (h-l) (cap-l))) w:=by
 simp[execOp,ho,hx,Instr.sliceAt,Instr.slice,run_underlying hu,hb,sizeOf,typeInfo,hi']
def YA {T:TypeId} {x:Operand} {lo hi mx:Option Operand} (h:RG F G J a w) (ho:o.op=.slice T x lo hi mx) (hh:(VO P o T x lo hi mx J K).holds Q):o.wp P a w (ContE F G a w o.dst K Q) Qx:=by
 unfold VO at hh;have hx:=Aw h x;split at hh
 .rename_i x3 l hi' hl hr;split at hh
  .rename_i e m k3 z hu hxe hx3;rw[hxe] at hx;obtain⟨c,hc,hcr⟩:=hx;injection hc with hc
   subst hc;split at hh
   .rename_i t ie ht hie;obtain⟨hb,hh⟩:=hh;rcases G9 h hl with⟨_,e⟩|⟨y1,k1,z1,rfl,ez1,e1⟩
    .cases e
    .rcases G9 h hr with⟨_,e⟩|⟨y2,k2,z2,rfl,ez2,e2⟩
     .cases e
     .injection ez1 with ez1;injection ez2 with ez2
      subst ez1;subst ez2;have e3:=(C9 (Aw h x3) hx3).1;have hv:∃ ad cap,a.eval x=.slice ad t.n cap/\t.n<=cap:=by
       rcases h.hp m t ht with⟨⟨ad,hv⟩,hz⟩|⟨g,off,cap,row,e',GG,hv,hnc,_⟩
       .exact⟨ad,0,by rw[hcr.1,hv,hz],O⟩
       .exact⟨_,cap,by rw[hcr.1,hv],hnc⟩
      obtain⟨ad,cap,hv,hnc⟩:=hv;have hbb:=Agq (P:=P) (w:=w) e1 e2 e3 hb hnc;refine AH (v:=.slice (if z.toNat=l.toNat then ad else ad.map (·.add (l.toNat*ie.size))) (hi'.toNat-l.toNat) (z.toNat-l.toNat)) h hh trivial ?_;simp[execOp,ho,hv,Instr.sliceAt,Instr.slice,run_underlying hu,hbb,sizeOf,typeInfo,hie]
   .exact hh.elim
  .exact hh.elim
 .rename_i l hi' hl hr;split at hh
  .rename_i s hu hxe;rw[hxe] at hx;obtain⟨c,hc,hcr⟩:=hx;injection hc with hc
   subst hc;obtain⟨hb,hh⟩:=hh;refine AH h hh ⟨_,rfl,rfl,rfl⟩ ?_;have:=M9 (P:=P) (b:=false) h hl hr hb (X_ _);simp[execOp,ho,hcr.1,Instr.sliceAt,Instr.slice,run_underlying hu,this]
  .rename_i e m hu hxe;rw[hxe] at hx;obtain⟨c,hc,hcr⟩:=hx;injection hc with hc
   subst hc;split at hh
   .rename_i t ie ht hie;split at hh
    .rename_i hk;obtain⟨hb,hh⟩:=hh;obtain⟨hb1,hb2⟩:=AbR hb;rcases h.hp m t ht with⟨⟨ad,hv⟩,hz⟩|⟨g,off,cap,row,e',GG,hv,hnc,_⟩
     .rw[hz] at hb hb1 hb2 hh;refine AH h hh ⟨_,rfl,.inl ⟨ad,hv,O,O,rfl⟩⟩ ?_;rw[EU ho hu hie (hcr.1.trans hv) (M9 h hl hr hb (X_ _))];have e1:(bnd l hi' 0).2.1=0:=O
      have e2:(bnd l hi' 0).2.2=0:=O
      simp[e1,e2]
     .refine AH (v:=.slice (some ⟨g,if cap=(bnd l hi' t.n).2.1 then off else off+(bnd l hi' t.n).2.1*t.k,none⟩) ((bnd l hi' t.n).2.2-(bnd l hi' t.n).2.1) (cap-(bnd l hi' t.n).2.1)) h hh
       ⟨_,rfl,.inr ⟨g,off,t.n,cap,_,hv,O,rfl,?_⟩⟩ ?_
      .split
       .rename_i e;exact .inr ⟨e,O⟩
       .exact .inl rfl
      .rw[EU ho hu hie (hcr.1.trans hv) (M9 h hl hr hb hnc)];split<;>simp[FD,hk]
    .exact hh.elim
   .exact hh.elim
  .rename_i e m k lo0 n hu hxe;rw[hxe] at hx;obtain⟨c,hc,hcr⟩:=hx;injection hc with hc
   subst hc;split at hh
   .rename_i t ie ht hie;split at hh
    .rename_i hk;obtain⟨hb,hh⟩:=hh;generalize hN:t.n-lo0=N at hb hh;rcases hcr with⟨ad,hv,hz1,hz2,hav⟩|⟨g,off,mm,cap,off',hv,hle,hav,hof⟩
     .have hN0:N=0:=by
       rcases h.hp m t ht with⟨_,hz⟩|⟨g,off,cap,row,e',GG,hv2,_⟩
       .omega
       .rw[hv] at hv2;injection hv2 with _ e2 _;omega
      rw[hz2,hN0] at hb hh;obtain⟨hb1,hb2⟩:=Aec hb (X_ 0) (X_ 0);refine AH h hh ⟨_,rfl,.inl ⟨ad,hv,O,O,rfl⟩⟩ ?_;rw[EU ho hu hie hav (Xb h hl hr hb (X_ _) (X_ _))];have e1:(Oo l hi' 0 0).2.1=0:=O
      have e2:(Oo l hi' 0 0).2.2=0:=O
      simp[e1,e2]
     .have hNc:N<=cap-lo0:=by
       rcases h.hp m t ht with⟨_,hz⟩|⟨g2,off2,cap2,row,e',GG,hv2,hnc2,_⟩
       .omega
       .rw[hv] at hv2;injection hv2 with _ e2 e3;omega
      obtain⟨hb1,hb2⟩:=Aec hb (show n<=cap-lo0 from O) hNc;refine AH (v:=.slice (some ⟨g,if cap-lo0=(Oo l hi' n N).2.1 then off' else off'+(Oo l hi' n N).2.1*k,none⟩) ((Oo l hi' n N).2.2-(Oo l hi' n N).2.1) (cap-lo0-(Oo l hi' n N).2.1)) h hh
       ⟨_,rfl,.inr ⟨g,off,mm,cap,_,hv,O,by rw[Nat.sub_sub],?_⟩⟩ ?_
      .rcases hof with e1|⟨e1,e2⟩
       .split
        .rename_i e;refine .inr ⟨O,?_⟩;have:lo0*k<=cap*k:=de _ O;omega
        .exact .inl (by rw[e1,Nat.add_mul,Nat.add_assoc])
       .have h0:(Oo l hi' n N).2.1=0:=O
        refine .inr ⟨O,?_⟩;rw[h0];simpa using e2
      .rw[EU ho hu hie hav (Xb h hl hr hb O O)];split<;>simp[FD,hk]
    .exact hh.elim
   .exact hh.elim
  .rename_i e s t xs hu hxe;rw[hxe] at hx;obtain⟨c,hc,hcr⟩:=hx;injection hc with hc
   subst hc;simp only[CellR,Eb] at hcr;generalize hn:xs.length=n at hh hcr;split at hh
   .rename_i ie hie;split at hh
    .rename_i hk;obtain⟨hb,hh⟩:=hh;obtain⟨hb1,hb2⟩:=AbR hb;obtain⟨ad,cap,hav,hnc,hr0⟩:=hcr;refine AH (v:=.slice (if cap=(bnd l hi' n).2.1 then ad else ad.map (·.add ((bnd l hi' n).2.1*ie.size))) ((bnd l hi' n).2.2-(bnd l hi' n).2.1) (cap-(bnd l hi' n).2.1)) h hh
      ?_ (EU ho hu hie hav (M9 h hl hr hb hnc))
     refine⟨_,rfl,?_⟩;show TR w (src G s) (fcC (.l t _)) _;rw[Eb,N6 O];refine⟨_,_,rfl,O,?_⟩;rcases hr0 with hz|⟨g,off,row,e',fr,rfl,hS,hg,hrow⟩
     .exact .inl O
     .by_cases hz:(bnd l hi' n).2.2-(bnd l hi' n).2.1=0
      .exact .inl hz
      .have hne:cap≠(bnd l hi' n).2.1:=O
       refine .inr ⟨g,off+(bnd l hi' n).2.1*t.width,row,e',fr,by simp[hne,FD,hk],hS,hg,λi hi j hj=>?_⟩;obtain⟨u,hu',ht⟩:=hrow ((bnd l hi' n).2.1+i) O j hj;exact⟨u,by rw[<-hu'];congr 1;rw[Nat.add_mul];omega,by dsimp only;rw[QY hi];exact ht⟩
    .exact hh.elim
   .exact hh.elim
  .rename_i e hu hxe;rw[hxe] at hx;obtain⟨c,hc,hcr⟩:=hx;injection hc with hc
   subst hc;split at hh
   .rename_i ie hie;obtain⟨hb,hh⟩:=hh;obtain⟨hb1,hb2⟩:=AbR hb;refine AH h hh ⟨_,rfl,rfl⟩ ?_;rw[EU ho hu hie hcr (M9 h hl hr hb (X_ _))];have e1:(bnd l hi' 0).2.1=0:=O
    have e2:(bnd l hi' 0).2.2=0:=O
    simp[e1,e2]
   .exact hh.elim
  .exact hh.elim
 .exact hh.elim
end
end Go.D
namespace Go.D
section
variable {P:Program} {F:Fr P} {G:Gh} {J:St} {a:Act} {w:World} {o:Oper} {K:St->Out} {Q:Post} {Qx:Exit->Act->World->Prop}
structure SrcOk (P:Program) (w:World) (size m:Nat) (xv:Value) (news:List Value):Prop where
 isSl:∃ b c,xv=.slice b m c
 len:news.length=m*size
 rd:∀ w':World,(∀ p,w'.cell? p=w.cell? p)->(Builtin.firstCells size m xv).run P w'=.ok news.toArray w'
def Ik (t ty e:TypeId) (i:TypeInfo) (ht:P.underlying t=some (.slice e)) (hi:P.info? e=some i) (g off n cap:Nat) (cur:Array Value) (e':TypeId) (hg:w.heap[g]? = some (.cells cur e' (0,0)))
 (xv:Value) (m:Nat) (news:List Value) (hx:SrcOk P w i.size m xv news) (h1:∀ u∈news,u.oneCell'=true) (hroom:n+m<=cap) (hfit:off+n*i.size+news.length<=cur.size) :
 (Builtin.append_ #[t,t] ty #[.slice (some ⟨g,off,none⟩) n cap,xv]).run P w =
  .ok (.slice (some ⟨g,off,none⟩) (n+m) cap) (w.setRow g (cur.toList.take (off+n*i.size)++news++cur.toList.drop (off+n*i.size+news.length)).toArray):=by
 obtain⟨⟨b,c,rfl⟩,hl,hrd⟩:=hx;have hf:=hrd w λ_=>rfl;have hst:=run_storeCells_at P g (off+n*i.size) e' news 0 cur w hg O h1;simp only[Nat.add_zero] at hst;simp[Builtin.append_,run_underlying ht,sizeOf,typeInfo,hi,Builtin.lenOf,hroom,hf,FD,hst]
def Ib (t ty e:TypeId) (i:TypeInfo) (ht:P.underlying t=some (.slice e)) (hi:P.info? e=some i) (ad:Option Addr) (xv:Value) (news:List Value) (hx:SrcOk P w i.size 0 xv news) :
 (Builtin.append_ #[t,t] ty #[.slice ad 0 0,xv]).run P w=.ok (.slice ad 0 0) w:=by
 obtain⟨⟨b,c,rfl⟩,hl,hrd⟩:=hx;have hf:=hrd w λ_=>rfl;have hn:news=[]:=List.eq_nil_of_length_eq_zero O;subst hn;cases ad <;>
 simp[Builtin.append_,run_underlying ht,sizeOf,typeInfo,hi,Builtin.lenOf,hf,storeCells]
def Ip (t ty e:TypeId) (i:TypeInfo) (z:Value) (ht:P.underlying t=some (.slice e)) (hi:P.info? e=some i) (hz:i.zero=some z)
 (ad:Option Addr) (n cap:Nat) (olds:List Value) (hs:SrcOk P w i.size n (.slice ad n cap) olds) (xv:Value) (m:Nat) (news:List Value) (hx:SrcOk P w i.size m xv news)
 (hg:cap<n+m) (h63:((n+m:Nat):Int)<=9223372036854775807) (hfit:(n+m)*i.bytes<=140737488355328) :
 (Builtin.append_ #[t,t] ty #[.slice ad n cap,xv]).run P w =
  .ok (.slice (some ⟨w.heap.size,0,none⟩) (n+m) (grownCap w (n+m) cap e)) (w.drew.alloc (.cells (olds++news++(Builtin.zeroCells z.cells (grownCap w (n+m) cap e-(n+m))).toList).toArray e)):=by
 obtain⟨⟨b,c,rfl⟩,hl,hrd⟩:=hx;have hn:¬ (n+m<=cap):=O
 have h63':¬ (9223372036854775807<((n:Int)+(m:Int))):=O
 have h48:=growslice_fits hg hfit;have h48':¬ (281474976710656<Builtin.nextslicecap (n+m) cap*i.bytes):=O
 have hf:=hrd w.drew λ_=>rfl;have hfo:=hs.rd w.drew λ_=>rfl;simp[Builtin.append_,run_underlying ht,sizeOf,typeInfo,zeroValue,hi,hz,Builtin.lenOf,hn,h63',h48',Question.forced,hf,hfo,newRow,grownCap];congr 2;apply Array.ext';simp
def L0 {S:Nat->Prop} {k m:Nat} {f:Nat->Nat->C} {v:Value} (hk:0<k) (h:TR w S (.sl k m f) v):∃ news,SrcOk P w k m v news/\(∀ u∈news,u.oneCell'=true)/\∀ i,i<m->∀ j,j<k->∃ u,news[i*k+j]? = some u/\TR w S (f i j) u:=by
 obtain⟨ad,cap,rfl,hnc,hz|⟨g,off,row,e,fr,rfl,hS,hg,hrow⟩⟩:=h
 .subst hz;refine⟨[],⟨⟨ad,cap,rfl⟩,by simp,λw' hw'=>?_⟩,by simp,by simp⟩;cases ad with
  | none=>simp[Builtin.firstCells]
  | some b=>simp[Builtin.firstCells,loadCells,loadCellsFrom]
 .let news:List Value:=(List.range (m*k)).map λx=>(row[off+x]?).getD undef
  have hat:∀ x,x<m*k->∃ u,row[off+x]? = some u/\news[x]? = some u/\TR w S (f (x / k) (x % k)) u:=by
   intro x hx;have h1:x / k<m:=(Nat.div_lt_iff_lt_mul hk).2 hx;have h2:x % k<k:=Nat.mod_lt _ hk;have e1:off+x / k*k+x % k=off+x:=by have:=Nat.div_add_mod x k;grind
   grind
  have hlen:news.length=m*k:=by grind
  refine⟨news,⟨⟨_,_,rfl⟩,hlen,λw' hw'=>?_⟩,λu hu=>?_,λi hi j hj=>?_⟩
  .refine run_firstCells_some (P:=P) w' k m ⟨g,off,none⟩ m cap news hlen λx v hv=>?_
   have hx:x<m*k:=by grind
   obtain⟨u,hu,hu',_⟩:=hat x hx;rw[hu'] at hv;rw[FD,hw',cell_of_row w g (off+x) row e fr hg,hu,hv]
  .obtain⟨x,hx⟩:=List.getElem?_of_mem hu;have hlt:x<m*k:=by grind
   obtain⟨u',_,hu',ht⟩:=hat x hlt;rw[hx] at hu';injection hu' with e
   rw[e];exact ht.one
  .have hx:i*k+j<m*k:=by have:(i+1)*k<=m*k:=de _ hi;grind
   grind
def Ahw {S:Nat->Prop} {k m:Nat} {f:Nat->Nat->C} {v:Value} (hk:0<k) (h:TO w (.sl k m f) v S):∃ news,∃ GG:Nat->Nat->Nat->Prop,SrcOk P w k m v news/\(∀ u∈news,u.oneCell'=true) /\
 (∀ i,i<m->∀ j,j<k->∃ u,news[i*k+j]? = some u/\TO w (f i j) u (GG i j))/\(∀ i,i<m->∀ j,j<k->∀ b,GG i j b->S b) /\
 (∀ i,i<m->∀ j,j<k->∀ i',i'<m->∀ j',j'<k->∀ b,GG i j b->GG i' j' b->i=i'/\j=j') /\
 (∀ g off c,v=.slice (some ⟨g,off,none⟩) m c->0<c->S g/\∃ row e,w.heap[g]? = some (.cells row e (0,0))/\m<=c/\off+c*k<=row.size/\(∀ x,x<m*k->row[off+x]? = news[x]?)/\∀ i,i<m->∀ j,j<k->∀ b,GG i j b->b≠g):=by
 obtain⟨news,h1,h2,h3⟩:=L0 (P:=P) hk h.read;rcases h with⟨⟨ad,rfl⟩,rfl⟩|⟨g,off,cap,row,e,GG,rfl,hnc,hcap,hg,hF,hrow,hsub,hdis⟩
 .refine⟨news,λ_ _ _=>False,h1,h2,by simp,by simp,by simp,λg off c hv hc=>by grind⟩
 .have hat:∀ x,x<m*k->row[off+x]? = news[x]?:=by
   intro x hx;have:=h1.rd w λ_=>rfl;have hf:(Builtin.firstCells k m (.slice (some ⟨g,off,none⟩) m cap)).run P w=.ok ((List.range (m*k)).map λx=>(row[off+x]?).getD undef).toArray w:=by
    refine run_firstCells_some (P:=P) w k m ⟨g,off,none⟩ m cap _ (by simp) λx v hv=>?_
    have hx:x<m*k:=by have:=(List.getElem?_eq_some_iff.1 hv).1;simpa using this
    rw[cz,List.getElem?_range hx] at hv;simp at hv;rw[FD,cell_of_row w g (off+x) row e (0,0) hg];have hlt:off+x<row.size:=by have:m*k<=cap*k:=de _ hnc;omega
    rw[Array.getElem?_eq_getElem hlt] at hv ⊢;simpa using hv
   rw[hf] at this;injection this with h5 _
   have h6:((List.range (m*k)).map λx=>(row[off+x]?).getD undef)=news:=by grind
   have hlt:off+x<row.size:=by have:m*k<=cap*k:=de _ hnc;omega
   rw[<-h6,cz,List.getElem?_range hx,bC,Array.getElem?_eq_getElem hlt];rfl
  refine⟨news,GG,h1,h2,λi hi j hj=>?_,λi hi j hj b hb=>(hsub i hi j hj b hb).1,hdis,λg' off' c' hv _=>?_⟩
  .obtain⟨u,hu,ht⟩:=hrow i hi j hj;have hx:i*k+j<m*k:=by have:(i+1)*k<=m*k:=de _ hi;rw[Nat.add_mul] at this;omega
   exact⟨u,by grind,ht⟩
  .injection hv with ha hb hc
   injection ha with ha
   injection ha with ha1 ha2
   subst ha1;subst ha2;subst hc;exact⟨hF,row,e,hg,hnc,hcap,hat,λi hi j hj b hb=>(hsub i hi j hj b hb).2⟩
def AfY (n:Nat) (f g:Nat->Nat->C):Nat->Nat->C:=λi j=>if i<n then f i j else g (i-n) j
def Ahl {w':World} {N:Nat->Prop} {k n m g off cap:Nat} {f h:Nat->Nat->C} {us vs:List Value} {row:Array Value} {e:TypeId} {G1 G2:Nat->Nat->Nat->Prop}
 (hul:us.length=n*k) (hvl:vs.length=m*k) (hg:w'.heap[g]? = some (.cells row e (0,0))) (hN:N g) (hnc:n+m<=cap) (hcap:off+cap*k<=row.size)
 (hrow:∀ x,x<(n+m)*k->row[off+x]? = (us++vs)[x]?)
 (h1:∀ i,i<n->∀ j,j<k->∃ u,us[i*k+j]? = some u/\TO w' (f i j) u (G1 i j)) (h2:∀ i,i<m->∀ j,j<k->∃ u,vs[i*k+j]? = some u/\TO w' (h i j) u (G2 i j))
 (s1:∀ i,i<n->∀ j,j<k->∀ b,G1 i j b->N b/\b≠g) (s2:∀ i,i<m->∀ j,j<k->∀ b,G2 i j b->N b/\b≠g)
 (d1:∀ i,i<n->∀ j,j<k->∀ i',i'<n->∀ j',j'<k->∀ b,G1 i j b->G1 i' j' b->i=i'/\j=j')
 (d2:∀ i,i<m->∀ j,j<k->∀ i',i'<m->∀ j',j'<k->∀ b,G2 i j b->G2 i' j' b->i=i'/\j=j')
 (d3:∀ i,i<n->∀ j,j<k->∀ i',i'<m->∀ j',j'<k->∀ b,G1 i j b->G2 i' j' b->False) :
 TO w' (.sl k (n+m) (AfY n f h)) (.slice (some ⟨g,off,none⟩) (n+m) cap) N:=by
 refine .inr ⟨g,off,cap,row,e,λi j=>if i<n then G1 i j else G2 (i-n) j,rfl,hnc,hcap,hg,hN,λi hi j hj=>?_,λi hi j hj b hb=>?_,λi hi j hj i' hi' j' hj' b hb hb'=>?_⟩
 .have hx:i*k+j<(n+m)*k:=by have:(i+1)*k<=(n+m)*k:=de _ hi;grind
  rw[Nat.add_assoc,hrow _ hx];by_cases hlt:i<n
  .obtain⟨u,hu,ht⟩:=h1 i hlt j hj;refine⟨u,?_,by simp only[AfY,hlt,aD];exact ht⟩;rw[cN]
   .exact hu
   .exact(List.getElem?_eq_some_iff.1 hu).1
  .obtain⟨u,hu,ht⟩:=h2 (i-n) O j hj;refine⟨u,?_,by simp only[AfY,hlt,aS];exact ht⟩;have hle:n*k<=i*k:=de _ O;rw[cX O,hul,<-hu];congr 1;rw[Nat.sub_mul];omega
 .by_cases hlt:i<n
  .simp only[hlt,aD] at hb;exact s1 i hlt j hj b hb
  .simp only[hlt,aS] at hb;exact s2 (i-n) O j hj b hb
 .by_cases hlt:i<n<;>by_cases hlt':i'<n<;>simp only[hlt,hlt',aD,aS] at hb hb'
  .exact d1 i hlt j hj i' hlt' j' hj' b hb hb'
  .exact(d3 i hlt j hj (i'-n) O j' hj' b hb hb').elim
  .exact(d3 i' hlt' j' hj' (i-n) O j hj b hb' hb).elim
  .obtain⟨h5,h6⟩:=d2 (i-n) O j hj (i'-n) O j' hj' b hb hb';exact⟨O,h6⟩
def Lm {S:Nat->Prop} {k n lo m:Nat} {f:Nat->Nat->C} {hv v:Value} (h:TO w (.sl k n f) hv S) (hs:Amd hv k lo m v) (hle:lo+m<=n):TO w (.sl k m λi=>f (lo+i)) v S:=by
 rcases hs with⟨ad,e1,e2,e3,e4⟩|⟨g,off,mm,cap,off',hv1,hlc,hav,hof⟩
 .exact .inl ⟨⟨ad,e4⟩,e3⟩
 .rcases h with⟨⟨ad,e1⟩,e2⟩|⟨g2,off2,cap2,row,e,GG,hv2,hnc,hcap,hg,hF,hrow,hsub,hdis⟩
  .rw[hv1] at e1;injection e1 with ea eb ec
   have hm:m=0:=O
   have hcl:cap-lo=0:=O
   rw[hm,hcl] at hav;exact .inl ⟨⟨_,hav⟩,hm⟩
  .rw[hv1] at hv2;injection hv2 with ha hb hc
   injection ha with ha
   injection ha with ha1 ha2
   subst ha1;subst hc;have hcm:off'+(cap-lo)*k<=row.size:=by
    rcases hof with e1|⟨e1,e2⟩
    .have:lo*k+(cap-lo)*k=cap*k:=by rw[<-Nat.add_mul];congr 1;omega
     omega
    .have:cap-lo=0:=O
     rw[this];omega
   refine .inr ⟨g,off',cap-lo,row,e,λi j=>GG (lo+i) j,hav,O,hcm,hg,hF,λi hi j hj=>?_,λi hi j hj=>hsub (lo+i) O j hj,λi hi j hj i' hi' j' hj' b hb hb'=>?_⟩
   .obtain⟨u,hu,ht⟩:=hrow (lo+i) O j hj;refine⟨u,?_,ht⟩;rcases hof with e1|⟨e1,e2⟩
    .rw[<-hu,e1];congr 1;rw[Nat.add_mul];omega
    .omega
   .obtain⟨h1,h2⟩:=hdis (lo+i) O j hj (lo+i') O j' hj' b hb hb';exact⟨O,h2⟩
def Rg (J:St):TV->Option (Prop×(t:Ty)×List (El t))
 | .v false [.im _ t xs]=>some (True,⟨t,xs⟩)
 | .v false [.ref l]=>match look J.hp l with
  | some T=>some (True,⟨T.t,T.xs⟩)
  | none=>none
 | .v false [.sub l k' lo m]=>match look J.hp l with
  | some T=>if T.k=k' then some (lo+m<=T.n,⟨T.t,cut T.xs lo m⟩) else none
  | none=>none
 | _=>none
def Afj {k n:Nat} {f f':Nat->Nat->C} (h:∀ i,i<n->∀ j,j<k->le (f i j) (f' i j)):le (.sl k n f) (.sl k n f'):=⟨f',rfl,h⟩
def Ahv {S:Nat->Prop} {t:Ty} {xs:List (El t)} {lo m:Nat} {v:Value} (h:TR w S (.sl t.width m λi=>λj=>fcC (cell t xs (lo+i) j)) v) (hle:lo+m<=xs.length):TR w S (fcC (.l t (cut xs lo m))) v:=by
 rw[Eb,N6 hle];refine TR.le (Afj (f:=λi j=>fcC (cell t xs (lo+i) j)) λi hi j hj=>?_) h;rw[QY hi];exact le.refl _
def Wp {S:Nat->Prop} {t:Ty} {xs:List (El t)} {lo m:Nat} {v:Value} (h:TO w (.sl t.width m λi=>λj=>fcC (cell t xs (lo+i) j)) v S) (hle:lo+m<=xs.length):TO w (fcC (.l t (cut xs lo m))) v S:=by
 rw[Eb,N6 hle];refine TO.le (Afj (f:=λi j=>fcC (cell t xs (lo+i) j)) λi hi j hj=>?_) h;rw[QY hi];exact le.refl _
def IF {p:Prop} {s:(t:Ty)×List (El t)} {x:TV} {v:Value} (h:RG F G J a w) (hx:TVR w G x v) (hs:Rg J x=some (p,s)) (hp:p):∃ S,TR w S (fcC (.l s.1 s.2)) v:=by
 unfold Rg at hs;split at hs
 .rename_i s' t xs;obtain⟨rfl,rfl⟩:=hs;obtain⟨c,hc,hcr⟩:=hx;injection hc with hc
  subst hc;exact⟨_,hcr⟩
 .rename_i l;split at hs
  .rename_i T hT;obtain⟨rfl,rfl⟩:=hs;obtain⟨c,hc,hcr⟩:=hx;injection hc with hc
   subst hc;rw[hcr.1,Cu];exact⟨_,(h.hp l T hT).read⟩
  .simp at hs
 .rename_i l k' lo m';split at hs
  .rename_i T hT;split at hs
   .rename_i hk;obtain⟨rfl,rfl⟩:=hs;obtain⟨c,hc,hcr⟩:=hx;injection hc with hc
    subst hc;have hto:=h.hp l T hT;rw[hk] at hto;have h2:=(Lm hto hcr hp).read;rw[<-hk] at h2;exact⟨_,Ahv h2 hp⟩
   .simp at hs
  .simp at hs
 .simp at hs
end
end Go.D
namespace Go.D
section
variable {P:Program} {F:Fr P} {G:Gh} {J:St} {a:Act} {w:World} {o:Oper} {K:St->Out} {Q:Post} {Qx:Exit->Act->World->Prop}
def Mi (xs:List Int):ByteArray:=xs.foldl (λr n=>r.push (UInt8.ofNat n.toNat)) ByteArray.empty
def QP (P:Program) (S T:TypeId):Bool:=match P.underlying S with
 | some (.slice e)=>(match P.underlying e,P.underlying T with
  | some (.int .u8),some .string=>true
  | _,_=>false)
 | _=>false
def OB {S T:TypeId} {R:Nat->Prop} {xs:List Int} {v:Value} (hs:QP P S T=true) (h:TR w R (fcC (.l .u8 xs)) v) :
 (convert S T v).run P w=.ok (.string (Mi xs)) w:=by
 unfold QP at hs;split at hs
 .rename_i e he;split at hs
  .rename_i h1 h2;rw[Eb] at h;obtain⟨b,cap,rfl,_,hc⟩:=h;rw[run_convert_bytes_string w S T e _ _ _ he h1 h2];cases b with
   | none=>
    rcases hc with h0|⟨g,o,row,e,fr,h0,_⟩
    .obtain rfl:xs=[]:=List.length_eq_zero_iff.1 h0;simp[Conv.bytesToString,Sem.run_pure,Mi]
    .cases h0
   | some b=>
    refine run_bytesToString w b xs.length cap xs ?_;have hl:=run_loadCells_list (P:=P) w b (xs.map (Value.int .u8)) ?_
    .rwa [cE] at hl
    .intro j v hj;rw[cz] at hj;obtain⟨n,hn,rfl⟩:=Option.map_eq_some_iff.1 hj;have hlt:j<xs.length:=(List.getElem?_eq_some_iff.1 hn).1;rcases hc with h0|⟨g,o,row,e,fr,h0,_,hrow,hcell⟩
     .omega
     .cases h0;obtain⟨u,hu,ht⟩:=hcell j hlt 0 (by simp[Ty.width]);have hx:xs.getD j default=n:=by simp[List.getD,hn]
      have hu2:u=.int .u8 n:=by
       have h3:fcC (cell .u8 xs j 0)=.val (.int .u8 n):=by unfold cell;rw[hx];rfl
       have ht:TR w R (fcC (cell .u8 xs j 0)) u:=ht;rw[h3] at ht;exact ht.1
      subst hu2;simp only[Ty.width,Nat.mul_one,Nat.add_zero] at hu;by_cases hz:j=0
      .subst hz;simpa [World.cell?,Addr.add,hrow] using hu
      .simpa [World.cell?,Addr.add,hrow,hz] using hu
  .cases hs
 .cases hs
def Ub (P:Program) (o:Oper) (S T:TypeId) (x:Operand) (J:St) (K:St->Out):Out :=
 match (J.eval x).scal with
 | some u=>MU P o (convert S T u) J K
 | none=>match Rg J (J.eval x) with
  | some (p,⟨.u8,xs⟩)=>bif QP P S T then .ob p (ret J o (.v false [.sc (.string (Mi xs))]) K) else .bad
  | _=>.bad
def Zr {S T:TypeId} {x:Operand} (h:RG F G J a w) (ho:o.op=.convert S T x) (hh:(Ub P o S T x J K).holds Q):o.wp P a w (ContE F G a w o.dst K Q) Qx:=by
 unfold Ub at hh;split at hh
 .rename_i u hu;have:=(C9 (Aw h x) hu).1;exact Ii h hh (by simp[execOp,ho,this])
 .split at hh
  .rename_i p xs hs;cases hb:QP P S T with
   | false=>rw[hb] at hh;exact hh.elim
   | true=>
    rw[hb] at hh;obtain⟨hp,hh⟩:=hh;obtain⟨R,hr⟩:=IF h (Aw h x) hs hp;refine AH h hh (v:=.string (Mi xs)) ⟨_,rfl,rfl,rfl⟩ ?_;have:=OB hb hr;simp[execOp,ho,this]
  .exact hh.elim
end
end Go.D
namespace Go.D
section
variable {P:Program} {F:Fr P} {G:Gh} {J:St} {a:Act} {w:World} {o:Oper} {K:St->Out} {Q:Post} {Qx:Exit->Act->World->Prop}
def B7 (J:St) (l:Nat) (ab:List Nat) (T:Tree):St:=({ J with hp:=(l,T)::J.hp.filter λp=>!ab.contains p.1 }:St).kill (l::ab)
def ZE (G:Gh) (ab:List Nat) (b:Nat):Prop:=∃ m,m∈ab/\G.ow b=.lab m
def Tc (h:RG F G J a w) (t ty e:TypeId) (i:TypeInfo) (z:Value) (ht:P.underlying t=some (.slice e)) (hi:P.info? e=some i) (hz:i.zero=some z) (hk:0<i.size) (hzs:z.cells.size=i.size)
 (l:Nat) (ab:List Nat) (hla:l∉ab) {n m:Nat} {f g:Nat->Nat->C} {sv xv:Value} (hs:TO w (.sl i.size n f) sv λb=>G.ow b=.lab l)
 (vs:List Value) (G2:Nat->Nat->Nat->Prop) (hx:SrcOk P w i.size m xv vs) (h1:∀ u∈vs,u.oneCell'=true) (h2:∀ i',i'<m->∀ j,j<i.size->∃ u,vs[i'*i.size+j]? = some u/\TO w (g i' j) u (G2 i' j))
 (s2:∀ i',i'<m->∀ j,j<i.size->∀ b,G2 i' j b->ZE G ab b)
 (d2:∀ i',i'<m->∀ j,j<i.size->∀ i2,i2<m->∀ j',j'<i.size->∀ b,G2 i' j b->G2 i2 j' b->i'=i2/\j=j')
 (hby:0<i.bytes) (hb:(n+m)*i.bytes<=140737488355328) :
 ∃ v' w',(Builtin.append_ #[t,t] ty #[sv,xv]).run P w=.ok v' w'/\Onward w w'/\(∀ b,G.ow b≠.gone->G.ow b≠.lab l->w'.heap[b]? = w.heap[b]?)/\v'.oneCell'=true/\(∀ b,b<w.heap.size->w'.heap[b]? = w.heap[b]?\/(G.ow b=.lab l/\∃ row row' e off cap,w.heap[b]? = some (.cells row e (0,0))/\w'.heap[b]? = some (.cells row' e (0,0))/\row'.size=row.size/\sv=.slice (some ⟨b,off,none⟩) n cap/\∀ x,x<off+n*i.size->row'[x]? = row[x]?)) /\
  TO w' (.sl i.size (n+m) (AfY n f g)) v' (λb=>(b=w.heap.size/\b<w'.heap.size)\/G.ow b=.lab l\/ZE G ab b):=by
 have h63:n+m<=140737488355328:=aP (Nat.le_mul_of_pos_right _ hby) hb;obtain⟨us,G1,hus,hu1,hu2,hus1,hud,hub⟩:=Ahw (P:=P) hk hs;have d3:∀ i',i'<n->∀ j,j<i.size->∀ i2,i2<m->∀ j',j'<i.size->∀ b,G1 i' j b->G2 i2 j' b->False:=by intro i1 hi1 j1 hj1 i2 hi2 j2 hj2 b hb1 hb2;have e1:=hus1 i1 hi1 j1 hj1 b hb1;obtain⟨mm,hm,e2⟩:=s2 i2 hi2 j2 hj2 b hb2;grind
 have grow:∀ (ad:Option Addr) (cap:Nat),sv=.slice ad n cap->cap<n+m->∃ v' w',(Builtin.append_ #[t,t] ty #[sv,xv]).run P w=.ok v' w'/\Onward w w'/\(∀ b,G.ow b≠.gone->G.ow b≠.lab l->w'.heap[b]? = w.heap[b]?)/\v'.oneCell'=true/\(∀ b,b<w.heap.size->w'.heap[b]? = w.heap[b]?\/(G.ow b=.lab l/\∃ row row' e off cap,w.heap[b]? = some (.cells row e (0,0))/\w'.heap[b]? = some (.cells row' e (0,0))/\row'.size=row.size/\sv=.slice (some ⟨b,off,none⟩) n cap/\∀ x,x<off+n*i.size->row'[x]? = row[x]?)) /\
  TO w' (.sl i.size (n+m) (AfY n f g)) v' (λb=>(b=w.heap.size/\b<w'.heap.size)\/G.ow b=.lab l\/ZE G ab b):=by
  intro ad cap hsv hlt;subst hsv;have hr:=Ip t ty e i z ht hi hz ad n cap us hus xv m vs hx hlt O hb;have hge:=grownCap_ge w (n+m) cap e;have old:∀ b,b<w.heap.size->(w.drew.alloc (.cells (us++vs++(Builtin.zeroCells z.cells (grownCap w (n+m) cap e-(n+m))).toList).toArray e)).heap[b]? = w.heap[b]?:=λb hb=>heap_alloc_old w.drew _ b hb
  refine⟨_,_,hr,⟨rfl,rfl,⟨rfl,by first|exact DrLe.refl _|exact DrLe.succ _|exact DrLe.add _ _⟩,by simp⟩,λb hbg _=>old b (h.lt b hbg),rfl,λb hb=>.inl (old b hb),?_⟩;have ltab:∀ b,ZE G ab b->b<w.heap.size:=by rintro b ⟨mm,_,e⟩;exact h.lt b (by simp[e])
  have ltl:∀ b,G.ow b=.lab l->b<w.heap.size:=λb e=>h.lt b (by simp[e])
  refine Ahl (us:=us) (vs:=vs) (G1:=G1) (G2:=G2) hus.len hx.len (heap_alloc_new w.drew _) (.inl ⟨rfl,by simp⟩) hge ?_ ?_ ?_ ?_ ?_ ?_ hud d2 d3
  .have hzl:=size_zeroCells z.cells (grownCap w (n+m) cap e-(n+m));simp only[List.size_toArray,al,hus.len,hx.len,fp,hzl,hzs,<-Nat.add_mul];rw[cM];exact Nat.le_of_eq (by congr 1;omega)
  .intro x hxl;simp only[List.getElem?_toArray,cM];rw[cN (by simp[hus.len,hx.len,<-Nat.add_mul];exact hxl)]
  .intro i1 hi1 j1 hj1;obtain⟨u,hu,ht⟩:=hu2 i1 hi1 j1 hj1;exact⟨u,hu,ht.frame λb hb _=>⟨old b (ltl b (hus1 i1 hi1 j1 hj1 b hb)),hb⟩⟩
  .intro i1 hi1 j1 hj1;obtain⟨u,hu,ht⟩:=h2 i1 hi1 j1 hj1;exact⟨u,hu,ht.frame λb hb _=>⟨old b (ltab b (s2 i1 hi1 j1 hj1 b hb)),hb⟩⟩
  .intro i1 hi1 j1 hj1 b hb;have e1:=hus1 i1 hi1 j1 hj1 b hb;exact⟨.inr (.inl e1),Nat.ne_of_lt (ltl b e1)⟩
  .intro i1 hi1 j1 hj1 b hb;have e1:=s2 i1 hi1 j1 hj1 b hb;exact⟨.inr (.inr e1),Nat.ne_of_lt (ltab b e1)⟩
 rcases hs with⟨⟨ad0,hsv⟩,hn⟩|⟨g0,off,cap,row0,e0,GG,hsv,_⟩
 .subst hn;by_cases hm:m=0
  .subst hm;have hr:=Ib t ty e i ht hi ad0 xv vs hx;exact⟨_,_,by rw[hsv];exact hr,⟨rfl,rfl,⟨rfl,by first|exact DrLe.refl _|exact DrLe.succ _|exact DrLe.add _ _⟩,X_ _⟩,λ_ _ _=>rfl,rfl,λ_ _=>.inl rfl,.inl ⟨⟨ad0,rfl⟩,rfl⟩⟩
  .exact grow ad0 0 hsv O
 .by_cases hroom:n+m<=cap
  .by_cases hc0:cap=0
   .have hn0:n=0:=O
    have hm0:m=0:=O
    subst hn0 hm0 hc0;have hr:=Ib t ty e i ht hi (some ⟨g0,off,none⟩) xv vs hx;exact⟨_,_,by rw[hsv];exact hr,⟨rfl,rfl,⟨rfl,by first|exact DrLe.refl _|exact DrLe.succ _|exact DrLe.add _ _⟩,X_ _⟩,λ_ _ _=>rfl,rfl,λ_ _=>.inl rfl,.inl ⟨⟨_,rfl⟩,rfl⟩⟩
   obtain⟨hlab,row,e',hg,hnc,hcap,hrow,hne⟩:=hub g0 off cap hsv O;have hck:(n+m)*i.size<=cap*i.size:=de _ hroom;have hfit:off+n*i.size+vs.length<=row.size:=by rw[hx.len];rw[Nat.add_mul] at hck;omega
   have hr:=Ik t ty e i ht hi g0 off n cap row e' hg xv m vs hx h1 hroom hfit;have old:∀ b,b≠g0->(w.setRow g0 (row.toList.take (off+n*i.size)++vs++row.toList.drop (off+n*i.size+vs.length)).toArray).heap[b]? = w.heap[b]?:=λb hb=>setRow_other w g0 b _ hb
   have neab:∀ b,ZE G ab b->b≠g0:=by rintro b ⟨mm,hm,e⟩ rfl;grind
   refine⟨_,w.setRow g0 (row.toList.take (off+n*i.size)++vs++row.toList.drop (off+n*i.size+vs.length)).toArray,by rw[hsv];exact hr,⟨rfl,rfl,⟨rfl,by first|exact DrLe.refl _|exact DrLe.succ _|exact DrLe.add _ _⟩,by simp⟩,λb _ hbl=>old b λe=>hbl (e▸hlab),rfl,λb hb=>?_,?_⟩
   .by_cases hb0:b=g0
    .subst hb0;refine .inr ⟨hlab,row,_,e',off,cap,hg,setRow_heap w _ row _ e' _ hg,?_,hsv,λx hx=>?_⟩
     .simp only[List.size_toArray,al,cZ,fK,fp];omega
     .simp only[List.getElem?_toArray];rw[bK,cN (by simp;omega)];simp only[fC,hx,aD];simp
    .exact .inl (old b hb0)
   refine Ahl (us:=us) (vs:=vs) (G1:=G1) (G2:=G2) hus.len hx.len (setRow_heap w g0 row _ e' _ hg) (.inr (.inl hlab)) hroom ?_ ?_ ?_ ?_ ?_ ?_ hud d2 d3
   .simp only[List.size_toArray,al,cZ,fK,fp];omega
   .intro x hxl;rw[Nat.add_mul] at hxl;simp only[List.getElem?_toArray];rw[bK];by_cases hlo:x<n*i.size
    .rw[cN (by simp;omega),cN (by rw[hus.len];exact hlo),<-hrow x hlo];simp only[fC,show off+x<off+n*i.size from O,aD];simp
    .have e1:(List.take (off+n*i.size) row.toList).length=off+n*i.size:=by simp;omega
     rw[cX (by rw[e1];omega),e1,cN (by rw[hx.len];omega),cX (by rw[hus.len];omega),hus.len];congr 1;omega
   .intro i1 hi1 j1 hj1;obtain⟨u,hu,ht⟩:=hu2 i1 hi1 j1 hj1;exact⟨u,hu,ht.frame λb hb _=>⟨old b (hne i1 hi1 j1 hj1 b hb),hb⟩⟩
   .intro i1 hi1 j1 hj1;obtain⟨u,hu,ht⟩:=h2 i1 hi1 j1 hj1;exact⟨u,hu,ht.frame λb hb _=>⟨old b (neab b (s2 i1 hi1 j1 hj1 b hb)),hb⟩⟩
   .intro i1 hi1 j1 hj1 b hb;exact⟨.inr (.inl (hus1 i1 hi1 j1 hj1 b hb)),hne i1 hi1 j1 hj1 b hb⟩
   .intro i1 hi1 j1 hj1 b hb;have e1:=s2 i1 hi1 j1 hj1 b hb;exact⟨.inr (.inr e1),neab b e1⟩
  .exact grow _ cap hsv O
def QJ (h:RG F G J a w) (t ty e:TypeId) (i:TypeInfo) (z:Value) (ht:P.underlying t=some (.slice e)) (hi:P.info? e=some i) (hz:i.zero=some z) (hk:0<i.size) (hzs:z.cells.size=i.size)
 (l:Nat) (ab:List Nat) (hla:l∉ab) {n m:Nat} {f g:Nat->Nat->C} {sv xv:Value} (hs:TO w (.sl i.size n f) sv λb=>G.ow b=.lab l)
 (vs:List Value) (G2:Nat->Nat->Nat->Prop) (hx:SrcOk P w i.size m xv vs) (h1:∀ u∈vs,u.oneCell'=true) (h2:∀ i',i'<m->∀ j,j<i.size->∃ u,vs[i'*i.size+j]? = some u/\TO w (g i' j) u (G2 i' j))
 (s2:∀ i',i'<m->∀ j,j<i.size->∀ b,G2 i' j b->ZE G ab b)
 (d2:∀ i',i'<m->∀ j,j<i.size->∀ i2,i2<m->∀ j',j'<i.size->∀ b,G2 i' j b->G2 i2 j' b->i'=i2/\j=j')
 (hby:0<i.bytes) (hb:(n+m)*i.bytes<=140737488355328) :
 ∃ v' w',(Builtin.append_ #[t,t] ty #[sv,xv]).run P w=.ok v' w'/\Onward w w'/\(∀ b,G.ow b≠.gone->G.ow b≠.lab l->w'.heap[b]? = w.heap[b]?)/\v'.oneCell'=true /\
  TO w' (.sl i.size (n+m) (AfY n f g)) v' (λb=>(b=w.heap.size/\b<w'.heap.size)\/G.ow b=.lab l\/ZE G ab b):=by
 obtain⟨v',w',a1,a2,a3,a4,_,a5⟩:=Tc h t ty e i z ht hi hz hk hzs l ab hla hs vs G2 hx h1 h2 s2 d2 hby hb;exact⟨v',w',a1,a2,a3,a4,a5⟩
def Nc (o:Oper) (J:St) (l:Nat) (ab:List Nat) (T:Tree) (K:St->Out):Out :=
 match o.dst with
 | some d=>if d<J.nt/\J.fl.contains l=false/\ab.all (λm=>!J.fl.contains m)=true then K ((B7 J l ab T).put d (.v false [.ref l])) else .bad
 | none=>.bad
def Aa1 {w':World} {l:Nat} {ab:List Nat} {T:Tree} {v:Value} (h:RG F G J a w) (hh:(Nc o J l ab T K).holds Q) (ho:Onward w w') (hs:∀ b,G.ow b≠.gone->G.ow b≠.lab l->w'.heap[b]? = w.heap[b]?) (h1:v.oneCell'=true)
 (hT:TO w' (.sl T.k T.n T.f) v λb=>(w.heap.size<=b/\b<w'.heap.size)\/G.ow b=.lab l\/ZE G ab b):∃ J' G',RG F G' J' (a.put o.dst v) w'/\(K J').holds Q:=by
 unfold Nc at hh;split at hh
 .rename_i d hd;split at hh
  .rename_i hc;obtain⟨hlt,hfl,hab⟩:=hc;have hgone:∀ b,w.heap.size<=b->G.ow b=.gone:=by
    intro b hb1;cases hq:G.ow b with
    | gone=>rfl
    | _=>exact absurd (h.lt b (by simp[hq])) O
   have hN:∀ b,((w.heap.size<=b/\b<w'.heap.size)\/G.ow b=.lab l\/ZE G ab b)->b<w'.heap.size/\(G.ow b=.gone\/G.ow b=.lab l\/∃ m,m∈ab/\G.ow b=.lab m):=by
    intro b hb;rcases hb with⟨hb1,hb2⟩|hb|hb
    .simp_all
    .exact⟨fq (h.lt b (by simp[hb])) ho.size,.inr (.inl hb)⟩
    .obtain⟨m,hm,e⟩:=hb;exact⟨fq (h.lt b (by simp[e])) ho.size,.inr (.inr ⟨m,hm,e⟩)⟩
   obtain⟨G',hG,hv,_⟩:=h.retree l ab T v _ ho hs hN hT (by simpa using hfl) (by simpa using hab);rw[hd];exact⟨_,G',RG.put (x:=.v false [.ref l]) hG hlt ⟨_,rfl,hv.symm,h1⟩,hh⟩
  .exact hh.elim
 .exact hh.elim
def Ms {w':World} {l:Nat} {ab:List Nat} {T:Tree} {v:Value} (h:RG F G J a w) (hh:(Nc o J l ab T K).holds Q) (ho:Onward w w') (hs:∀ b,G.ow b≠.gone->G.ow b≠.lab l->w'.heap[b]? = w.heap[b]?) (h1:v.oneCell'=true)
 (hT:TO w' (.sl T.k T.n T.f) v λb=>(w.heap.size<=b/\b<w'.heap.size)\/G.ow b=.lab l\/ZE G ab b):LK F K Q (a.put o.dst v) w':=by
 obtain⟨J',G',k1,k2⟩:=Aa1 h hh ho hs h1 hT;exact⟨J',⟨G',k1⟩,k2⟩
def SJ {w':World} {T:Tree} {v:Value} (h:RG F G J a w) (hh:(Nc o J (64*o.dst.getD 0) [] T K).holds Q) (ho:Onward w w') (hs:∀ b,b<w.heap.size->w'.heap[b]? = w.heap[b]?) (h1:v.oneCell'=true)
 (hT:TO w' (.sl T.k T.n T.f) v λb=>w.heap.size<=b/\b<w'.heap.size):ContE F G a w o.dst K Q (a.put o.dst v) w':=by
 unfold Nc at hh;split at hh
 .rename_i d hd;split at hh
  .rename_i hc;obtain⟨hlt,hfl,_⟩:=hc;have hgone:∀ b,w.heap.size<=b->G.ow b=.gone:=by
    intro b hb1;cases hq:G.ow b with
    | gone=>rfl
    | _=>exact absurd (h.lt b (by simp[hq])) O
   obtain⟨G',hG,hv,hv2,_,hbe,how⟩:=h.retree (64*o.dst.getD 0) [] T v _ ho (λb hb _=>hs b (h.lt b hb)) (λb hb=>⟨hb.2,.inl (hgone b hb.1)⟩) hT (by simpa using hfl) (by simp);refine⟨_,G',?_,hh,⟨v,rfl⟩,ho,λg hg=>.inl (hs g hg),λg hg=>how rfl (λg hg=>hgone g hg.1) g hg,λb _=>by rw[hbe],λl hl=>hv2 l ?_⟩
   .rw[hd];refine RG.put (x:=.v false [.ref (64*d)]) ?_ hlt ⟨_,rfl,?_,h1⟩
    .rw[hd] at hG;exact hG
    .rw[hd] at hv;exact hv.symm
   .have:=hl d hd;rw[hd];simp only[Option.getD_some];omega
  .exact hh.elim
 .exact hh.elim
def AdJ (J:St) (d:Nat) (ty:Option Ty):TV->Option (List Prop×Nat×(t:Ty)×List (El t))
 | .v false [.ref l]=>match look J.hp l with
  | some T=>some ([],l,⟨T.t,T.xs⟩)
  | none=>none
 | .v false [.sub l k' lo m]=>match look J.hp l with
  | some T=>if T.k=k' then some ([lo+m<=T.n],l,⟨T.t,cut T.xs lo m⟩) else none
  | none=>none
 | .v false [.nil]=>match ty with
  | some t=>some ([],64*d,⟨t,[]⟩)
  | none=>none
 | _=>none
def Nh {d l:Nat} {p:List Prop} {ty:Option Ty} {s:(t:Ty)×List (El t)} {x:TV} {v:Value} (h:RG F G J a w) (hx:TVR w G x v) (hs:AdJ J d ty x=some (p,l,s)) (hp:∀ q∈p,q):TO w (fcC (.l s.1 s.2)) v (λb=>G.ow b=.lab l):=by
 unfold AdJ at hs;split at hs
 .rename_i l';split at hs
  .rename_i T hT;simp only[R_,bW] at hs;obtain⟨rfl,rfl,rfl⟩:=hs;obtain⟨c,hc,hcr⟩:=hx;injection hc with hc
   subst hc;rw[hcr.1,Cu];exact h.hp _ T hT
  .simp at hs
 .rename_i l' k' lo m';split at hs
  .rename_i T hT;split at hs
   .rename_i hk;simp only[R_,bW] at hs;obtain⟨rfl,rfl,rfl⟩:=hs;obtain⟨c,hc,hcr⟩:=hx;injection hc with hc
    subst hc;have hto:=h.hp _ T hT;rw[hk] at hto;have hle:=hp _ (List.mem_singleton.2 rfl);have h2:=Lm hto hcr hle;rw[<-hk] at h2;exact Wp h2 hle
   .simp at hs
  .simp at hs
 .split at hs
  .simp only[R_,bW] at hs;obtain⟨rfl,rfl,rfl⟩:=hs;obtain⟨c,hc,hcr⟩:=hx;injection hc with hc
   subst hc;rw[Eb];exact .inl ⟨⟨none,hcr⟩,rfl⟩
  .simp at hs
 .simp at hs
def IM (n bytes:Nat):Prop:=n*bytes<=140737488355328
def Kq (P:Program) (ty:TypeId->Option Ty) (o:Oper) (T:TypeId) (s x:Operand) (J:St) (K:St->Out):Out :=
 match P.underlying T with
 | some (.slice e)=>match P.info? e with
  | some i=>match i.zero with
   | some z=>if 0<i.bytes/\z.cells.size=i.size then(match AdJ J (o.dst.getD 0) (ty e) (J.eval s) with
    | some (p,l,⟨t,xs⟩)=>if t.width=i.size then(match J.eval x with
     | .v false [.nil]=>obs p (.ob (IM (xs.length+0) i.bytes) (Nc o J l [] ⟨t,xs⟩ K))
     | y=>if Je t then(match Rg J y with
      | some (q,⟨t',ys⟩)=>if h:t'=t then obs p (.ob q (.ob (IM (xs.length+ys.length) i.bytes) (Nc o J l [] ⟨t,xs++(h▸ys)⟩ K))) else .bad
      | none=>.bad)
      else(match y with
       | .v false [.ref l2]=>match look J.hp l2 with
        | some t2=>if h:t2.t=t then if l=l2 then .bad else obs p (.ob (IM (xs.length+t2.xs.length) i.bytes) (Nc o J l [l2] ⟨t,xs++(h▸t2.xs)⟩ K)) else .bad
        | none=>.bad
       | _=>.bad)) else .bad
    | none=>.bad) else .bad
   | none=>.bad
  | none=>.bad
 | _=>.bad
def Xi {t:Ty} {xs ys:List (El t)} {i:Nat} (hi:t.width=i):le (.sl i (xs.length+ys.length) (AfY xs.length (λi j=>fcC (cell t xs i j)) λi j=>fcC (cell t ys i j))) (fcC (.l t (xs++ys))):=by
 rw[Eb,al];subst hi;refine Afj λi hi j hj=>?_
 simp only[AfY];split
 .rename_i hlt;rw[HQ hlt];exact le.refl _
 .rename_i hge;rw[Hn O];exact le.refl _
def JQ {ty:TypeId->Option Ty} {T:TypeId} {s x:Operand} (h:RG F G J a w) (ho:o.op=.call { callee:=.builtin .append,args := #[s,x],argTypes := #[T,T]}) (hh:(Kq P ty o T s x J K).holds Q):o.wp P a w (LK F K Q) Qx:=by
 unfold Kq at hh;have hsv:=Aw h s;have hxv:=Aw h x;have fin:∀ v w',(Builtin.append_ #[T,T] o.type #[a.eval s,a.eval x]).run P w=.ok v w'->(execOp a.eval o).run P w=.ok (.value v) w':=by intro v w' hr;simp[execOp,ho,resolve,invoke,builtin,hr]
 split at hh
 .rename_i e hu;split at hh
  .rename_i i hi;split at hh
   .rename_i z hz;split at hh
    .rename_i hc;obtain⟨hby,hzs⟩:=hc;split at hh
     .rename_i p l t xs hb;split at hh
      .rename_i hw;have hk:0<i.size:=by rw[<-hw];exact Fk t
       split at hh
       .rename_i hxe;obtain⟨hp,hroom,hh⟩:=Dz hh;have hbase:=Nh h hsv hb hp;rw[Eb,hw] at hbase;rw[hxe] at hxv;obtain⟨c,hcc,hcr⟩:=hxv;injection hcc with hcc
        subst hcc;have htr:TR w (λ_=>True) (.sl i.size 0 λ_ _=>.nl) (a.eval x):=⟨none,0,hcr,X_ _,.inl rfl⟩;obtain⟨news,hn1,hn2,hn3⟩:=L0 (P:=P) hk htr;obtain⟨v',w',hr,hon,hsame,h1,hT⟩:=QJ (P:=P) (g:=λ_ _=>.nl) h T o.type e i z hu hi hz hk hzs l [] (by simp) hbase news (λ_ _ _=>False) hn1 hn2
         (by simp) (by simp) (by simp) hby hroom
        refine EM (fin _ _ hr) (Ms h hh hon hsame h1 ?_);rw[<-Cu];have hl2:=Xi (xs:=xs) (ys:=[]) hw;rw[cS] at hl2;refine TO.le hl2 (TO.le (Afj λi' hi' j' hj'=>?_) (hT.frame λb hb _=>⟨rfl,hb.imp (λhx=>⟨Nat.le_of_eq hx.1.symm,hx.2⟩) id⟩));simp only[AfY];rw[G_ O,G_ O];exact le.refl _
       .split at hh
        .rename_i hflat;split at hh
         .rename_i q t' ys hq;split at hh
          .rename_i he;subst he;obtain⟨hp,hqq,hroom,hh⟩:=Dz hh;have hbase:=Nh h hsv hb hp;rw[Eb,hw] at hbase;obtain⟨S,htr⟩:=IF h hxv hq hqq;rw[Eb,hw] at htr;obtain⟨news,hn1,hn2,hn3⟩:=L0 (P:=P) hk htr;obtain⟨v',w',hr,hon,hsame,h1,hT⟩:=QJ (P:=P) (g:=λi j=>fcC (cell t' ys i j)) h T o.type e i z hu hi hz hk hzs l [] (by simp) hbase news (λ_ _ _=>False) hn1 hn2
            (λi' hi' j hj=>by obtain⟨u,hu',ht⟩:=hn3 i' hi' j hj;obtain⟨u2,hu2⟩:=Fm hflat ys i' j O;refine⟨u,hu',?_⟩;rw[hu2] at ht ⊢;exact ht)
            (by simp) (by simp) hby hroom
           refine EM (fin _ _ hr) (Ms h hh hon hsame h1 ?_);rw[<-Cu];exact TO.le (Xi hw) (hT.frame λb hb _=>⟨rfl,hb.imp (λhx=>⟨Nat.le_of_eq hx.1.symm,hx.2⟩) id⟩)
          .exact hh.elim
         .exact hh.elim
        .split at hh
         .rename_i l2 hxe;split at hh
          .rename_i t2 ht2;split at hh
           .rename_i he;split at hh
            .exact hh.elim
            .rename_i hne;obtain⟨hp,hroom,hh⟩:=Dz hh;have hbase:=Nh h hsv hb hp;rw[Eb,hw] at hbase;rw[hxe] at hxv;obtain⟨c,hcc,hcr⟩:=hxv;injection hcc with hcc
             subst hcc;have hto:=h.hp l2 t2 ht2;obtain⟨t2t,t2x⟩:=t2;dsimp only at he;subst he;rw[<-Cu,Eb,hw,<-hcr.1] at hto;obtain⟨news,G2,hn1,hn2,hn3,hn4,hn5,_⟩:=Ahw (P:=P) hk hto;obtain⟨v',w',hr,hon,hsame,h1,hT⟩:=QJ (P:=P) h T o.type e i z hu hi hz hk hzs l [l2] (by simpa using hne) hbase news G2 hn1 hn2 hn3
              (λi' hi' j hj b hb=>⟨l2,by simp,hn4 i' hi' j hj b hb⟩) hn5 hby hroom
             refine EM (fin _ _ hr) (Ms h hh hon hsame h1 ?_);rw[<-Cu];exact TO.le (Xi hw) (hT.frame λb hb _=>⟨rfl,hb.imp (λhx=>⟨Nat.le_of_eq hx.1.symm,hx.2⟩) id⟩)
           .exact hh.elim
          .exact hh.elim
         .exact hh.elim
      .exact hh.elim
     .exact hh.elim
    .exact hh.elim
   .exact hh.elim
  .exact hh.elim
 .exact hh.elim
end
end Go.D
namespace Go.D
section
variable {P:Program} {F:Fr P} {G:Gh} {J:St} {a:Act} {w:World} {o:Oper} {K:St->Out} {Q:Post} {Qx:Exit->Act->World->Prop}
def Aif (t ty e:TypeId) (i:TypeInfo) (z:Value) (ht:P.underlying t=some (.slice e)) (hi:P.info? e=some i) (hz:i.zero=some z) (hk:0<i.size) (hzs:z.cells.size=i.size)
 {m:Nat} {g:Nat->Nat->C} {xv:Value} {ad:Option Addr} (vs:List Value) (hx:SrcOk P w i.size m xv vs) (h2:∀ i',i'<m->∀ j,j<i.size->∃ u,vs[i'*i.size+j]? = some u/\TO w (g i' j) u λ_=>False)
 (hby:0<i.bytes) (hb:m*i.bytes<=140737488355328) :
 ∃ v' w',(Builtin.append_ #[t,t] ty #[.slice ad 0 0,xv]).run P w=.ok v' w'/\Onward w w'/\(∀ b,b<w.heap.size->w'.heap[b]? = w.heap[b]?)/\v'.oneCell'=true /\
  TO w' (.sl i.size m g) v' (λb=>w.heap.size<=b/\b<w'.heap.size):=by
 have h63:m<=140737488355328:=aP (Nat.le_mul_of_pos_right _ hby) hb;by_cases hm:m=0
 .subst hm;have hr:=Ib t ty e i ht hi ad xv vs hx;exact⟨_,_,hr,⟨rfl,rfl,⟨rfl,by first|exact DrLe.refl _|exact DrLe.succ _|exact DrLe.add _ _⟩,X_ _⟩,λ_ _=>rfl,rfl,.inl ⟨⟨ad,rfl⟩,rfl⟩⟩
 .have hus:SrcOk P w i.size 0 (.slice ad 0 0) []:=by
   refine⟨⟨ad,0,rfl⟩,by simp,λw' hw'=>?_⟩;cases ad with
   | none=>simp[Builtin.firstCells]
   | some b=>simp[Builtin.firstCells,loadCells,loadCellsFrom]
  have hr:=Ip t ty e i z ht hi hz ad 0 0 [] hus xv m vs hx O O (by rw[cM];exact hb);rw[cM,eH] at hr;have hge:=grownCap_ge w m 0 e;have old:∀ b,b<w.heap.size->(w.drew.alloc (.cells (vs++(Builtin.zeroCells z.cells (grownCap w m 0 e-m)).toList).toArray e)).heap[b]? = w.heap[b]?:=λb hb=>heap_alloc_old w.drew _ b hb
  refine⟨_,_,hr,⟨rfl,rfl,⟨rfl,by first|exact DrLe.refl _|exact DrLe.succ _|exact DrLe.add _ _⟩,by simp⟩,old,rfl,.inr ⟨w.heap.size,0,grownCap w m 0 e,_,e,λ_ _ _=>False,rfl,hge,?_,heap_alloc_new w.drew _,⟨X_ _,by simp⟩,λi1 hi1 j1 hj1=>?_,λi1 hi1 j1 hj1 b hb=>hb.elim,λi1 hi1 j1 hj1 i2 hi2 j2 hj2 b hb=>hb.elim⟩⟩
  .have hzl:=size_zeroCells z.cells (grownCap w m 0 e-m);simp only[List.size_toArray,al,hx.len,fp,hzl,hzs,<-Nat.add_mul];rw[cM];exact Nat.le_of_eq (by congr 1;omega)
  .obtain⟨u,hu,ht'⟩:=h2 i1 hi1 j1 hj1;refine⟨u,?_,ht'.frame λb hb _=>hb.elim⟩;have hlt:=(List.getElem?_eq_some_iff.1 hu).1;rw[cM];simp only[List.getElem?_toArray];rw[cN hlt];exact hu
def WW (P:Program) (ty:TypeId->Option Ty) (o:Oper) (T:TypeId) (s x:Operand) (J:St) (K:St->Out):Out :=
 match s with
 | .tmp ts=>match J.get ts,P.underlying T with
  | .capd l 0,some (.slice e)=>match P.info? e,look J.hp l with
   | some i,some T0=>match i.zero with
    | some z=>if 0<i.bytes/\z.cells.size=i.size/\T0.t.width=i.size/\Je T0.t=true then
     (match Rg J (J.eval x) with
      | some (q,⟨t',ys⟩)=>if h:t'=T0.t then .ob q (.ob (IM ys.length i.bytes) (Nc o J (64*o.dst.getD 0) [] ⟨T0.t,h▸ys⟩ K)) else .bad
      | none=>.bad) else .bad
    | none=>.bad
   | _,_=>.bad
  | _,_=>.bad
 | _=>.bad
def S6 {ty:TypeId->Option Ty} {T:TypeId} {s x:Operand} (h:RG F G J a w) (ho:o.op=.call { callee:=.builtin .append,args := #[s,x],argTypes := #[T,T]}) (hh:(WW P ty o T s x J K).holds Q):o.wp P a w (ContE F G a w o.dst K Q) Qx:=by
 unfold WW at hh;have hxv:=Aw h x;have fin:∀ v w',(Builtin.append_ #[T,T] o.type #[a.eval s,a.eval x]).run P w=.ok v w'->(execOp a.eval o).run P w=.ok (.value v) w':=by intro v w' hr;simp[execOp,ho,resolve,invoke,builtin,hr]
 split at hh
 .rename_i ts;split at hh
  .rename_i l e hg hu;have hsv:=Hg h ts;rw[hg] at hsv;obtain⟨⟨hv,_⟩,ad,n,hl⟩:=hsv;split at hh
   .rename_i i T0 hi hT;split at hh
    .rename_i z hz;split at hh
     .rename_i hc;obtain⟨hby,hzs,hw,hflat⟩:=hc;have hk:0<i.size:=by rw[<-hw];exact Fk T0.t
      have hn:n=0:=by
       rcases h.hp l T0 hT with⟨⟨ad',e1⟩,_⟩|⟨g0,off,cap,row,e',GG,e1,hnc,_⟩
       .simp_all
       .simp_all
      subst hn;have hsl:a.eval (.tmp ts)=.slice ad 0 0:=hv.trans hl;split at hh
      .rename_i q t' ys hq;split at hh
       .rename_i he;obtain⟨T0t,T0x⟩:=T0;dsimp only at he hw hflat hk;subst he;obtain⟨hqq,hroom,hh⟩:=hh;obtain⟨S,htr⟩:=IF h hxv hq hqq;rw[Eb,hw] at htr;obtain⟨news,hn1,hn2,hn3⟩:=L0 (P:=P) hk htr;obtain⟨v',w',hr,hon,hold,h1,hT'⟩:=Aif (P:=P) (g:=λi j=>fcC (cell t' ys i j)) (ad:=ad) T o.type e i z hu hi hz hk hzs news hn1
         (λi' hi' j hj=>by obtain⟨u,hu',ht⟩:=hn3 i' hi' j hj;obtain⟨u2,hu2⟩:=Fm hflat ys i' j O;refine⟨u,hu',?_⟩;rw[hu2] at ht ⊢;exact ht) hby hroom
        rw[<-hsl] at hr;refine EM (fin _ _ hr) (SJ h hh hon hold h1 ?_);rw[<-Cu,Eb,hw];exact hT'
       .exact hh.elim
      .exact hh.elim
     .exact hh.elim
    .exact hh.elim
   .exact hh.elim
  .exact hh.elim
 .exact hh.elim
def AbT (o:Oper) (J:St) (c:Nat) (T:Tree) (K:St->Out):Out :=
 match o.dst with
 | some d=>if d<J.nt/\J.fl.contains (64*d)=false then K ((B7 J (64*d) [] T).put d (.capd (64*d) c)) else .bad
 | none=>.bad
def YH {w':World} {T:Tree} {v:Value} {c:Nat} (h:RG F G J a w) (hh:(AbT o J c T K).holds Q) (ho:Onward w w') (hs:∀ b,b<w.heap.size->w'.heap[b]? = w.heap[b]?) (h1:v.oneCell'=true) (hc:∃ ad n,v=.slice ad n c)
 (hT:TO w' (.sl T.k T.n T.f) v λb=>w.heap.size<=b/\b<w'.heap.size):ContE F G a w o.dst K Q (a.put o.dst v) w':=by
 unfold AbT at hh;split at hh
 .rename_i d hd;split at hh
  .rename_i hcc;obtain⟨hlt,hfl⟩:=hcc;have hgone:∀ b,w.heap.size<=b->G.ow b=.gone:=by
    intro b hb1;cases hq:G.ow b with
    | gone=>rfl
    | _=>exact absurd (h.lt b (by simp[hq])) O
   obtain⟨G',hG,hv,hv2,_,hbe,how⟩:=h.retree (64*d) [] T v _ ho (λb hb _=>hs b (h.lt b hb)) (λb hb=>⟨hb.2,.inl (hgone b hb.1)⟩) hT (by simpa using hfl) (by simp);refine⟨_,G',?_,hh,⟨v,rfl⟩,ho,λg hg=>.inl (hs g hg),λg hg=>how rfl (λg hg=>hgone g hg.1) g hg,λb _=>by rw[hbe],λl hl=>hv2 l ?_⟩
   .rw[hd];obtain⟨ad,n,hc⟩:=hc;exact RG.put (x:=.capd (64*d) c) hG hlt ⟨⟨hv.symm,h1⟩,ad,n,hv.trans hc⟩
   .have:=hl d hd;omega
  .exact hh.elim
 .exact hh.elim
end
end Go.D
namespace Go.D
section
variable {P:Program} {F:Fr P} {G:Gh} {J:St} {a:Act} {w:World} {o:Oper} {K:St->Out} {Q:Post} {Qx:Exit->Act->World->Prop}
def RG.joinLab (h:RG F G J a w) {g0 l:Nat} (h0:G.ow g0=.gone) (hlt:g0<w.heap.size):∃ G',RG F G' J a w/\G'.ow g0=.lab l/\(∀ g,G.ow g≠.gone->G'.ow g=G.ow g)/\G'.hv=G.hv/\G'.be=G.be:=by
 let G':Gh:={ ow:=λg=>if g=g0 then .lab l else G.ow g,be:=G.be,hv:=G.hv }
 have hne:∀ g,G.ow g≠.gone->G'.ow g=G.ow g:=by grind
 have fo:Cf w w G G':=⟨λg hg=>⟨rfl,by rw[hne g (by simp[hg]),hg]⟩,λg hg=>by rw[hne g (by simp[hg]),hg]⟩;have mo:∀ m,En w w G G' m:=λm g hg=>⟨rfl,by rw[hne g (by simp[hg]),hg]⟩
 refine⟨G',?_,by simp[G'],hne,rfl,rfl⟩;constructor
 case tm=>exact λt tv hl=>TV.carry fo (λ_ _=>rfl) (λm _=>mo m) (λ_ _=>rfl) (h.tm t tv hl)
 case bx=>
  intro b cs hl;obtain⟨h1,r,e,h2,h3⟩:=h.bx b cs hl;exact⟨(hne (G.be b) (by rw[h1];simp)).trans h1,r,e,h2,Cells.carry fo (λ_ _=>rfl) (λm _=>mo m) h3⟩
 case hp=>exact λl T hl=>(h.hp l T hl).frame λg hg _=>mo l g hg
 case lt=>
  intro g hg;by_cases e:g=g0
  .subst e;exact hlt
  .exact h.lt g λe2=>hg (by simp[G',e,e2])
 case os=>exact h.os
 case tape=>exact h.tape
 case output=>exact h.output
 case size=>exact h.size
 case keep=>
  refine h.keep.next fo (λ_ _=>rfl) λg hg=>?_
  grind
 case fb=>exact h.fb
 case fl=>exact h.fl
 case nt=>exact h.nt
 case df=>exact h.df
def AcT (P:Program) (o:Oper) (T:TypeId) (l c:Nat) (x:Operand) (J:St) (K:St->Out):Out :=
 match P.underlying T,look J.hp l,o.dst with
 | some (.slice e),some T0,some d=>match P.info? e with
  | some i=>match i.zero with
   | some z=>if(0<i.bytes/\z.cells.size=i.size/\T0.t.width=i.size/\Je T0.t=true)/\T0.n=c/\0<c/\d<J.nt then
    (match Rg J (J.eval x) with
     | some (q,⟨t',ys⟩)=>if h:t'=T0.t then .ob q (.ob (IM (c+ys.length) i.bytes) (K (J.put d (.v false [.im (some l) T0.t (T0.xs++(h▸ys))])))) else .bad
     | none=>.bad) else .bad
   | none=>.bad
  | none=>.bad
 | _,_,_=>.bad
def AbF {T:TypeId} {s x:Operand} {ts l c:Nat} (h:RG F G J a w) (ho:o.op=.call { callee:=.builtin .append,args := #[s,x],argTypes := #[T,T]}) (hs:s=.tmp ts) (hg:J.get ts=.capd l c) (hh:(AcT P o T l c x J K).holds Q):o.wp P a w (ContE F G a w o.dst K Q) Qx:=by
 subst hs;unfold AcT at hh;have hxv:=Aw h x;have fin:∀ v w',(Builtin.append_ #[T,T] o.type #[a.eval (.tmp ts),a.eval x]).run P w=.ok v w'->(execOp a.eval o).run P w=.ok (.value v) w':=by intro v w' hr;simp[execOp,ho,resolve,invoke,builtin,hr]
 split at hh
 .rename_i e T0 d hu hT hd;have hsv:=Hg h ts;rw[hg] at hsv;obtain⟨⟨hv,h1v⟩,ad,n,hl⟩:=hsv;split at hh
  .rename_i i hi;split at hh
   .rename_i z hz;split at hh
    .rename_i hc;obtain⟨⟨hby,hzs,hw,hflat⟩,hn0,hc0,hlt⟩:=hc;obtain⟨T0t,T0x⟩:=T0;dsimp only at hw hflat;have hk:0<i.size:=by rw[<-hw];exact Fk T0t
     have hTO:=h.hp l _ hT;have hn:n=c:=by
      rcases hTO with⟨⟨ad',e1⟩,e2⟩|⟨g0,off,cap,row,e',GG,e1,hnc,_⟩
      .rw[hl] at e1;injection e1;omega
      .rw[hl] at e1;injection e1 with _ e2 e3;omega
     subst hn;have hsl:a.eval (.tmp ts)=.slice ad n n:=hv.trans hl;split at hh
     .rename_i q t' ys hq;split at hh
      .rename_i he;dsimp only at he;subst he;obtain⟨hqq,hroom,hh⟩:=hh;dsimp only at hh;have hroom:(n+ys.length)*i.bytes<=140737488355328:=hroom;have h63:n+ys.length<=140737488355328:=aP (Nat.le_mul_of_pos_right _ hby) hroom;have hTR:=hTO.read;have hTR2:TR w (λg=>G.ow g=.lab l) (.sl i.size n λi j=>fcC (cell t' T0x i j)) (.slice ad n n):=by rw[<-hl,<-hn0];have:(⟨t',T0x⟩:Tree).k=i.size:=hw;rw[this] at hTR;exact hTR
       obtain⟨olds,ho1,ho2,ho3⟩:=L0 (P:=P) hk hTR2;obtain⟨S,htr⟩:=IF h hxv hq hqq;rw[Eb,hw] at htr;obtain⟨news,hn1,hn2,hn3⟩:=L0 (P:=P) hk htr;have hlen:T0x.length=n:=hn0;have hold:∀ (W:World),(∀ g,g<w.heap.size->W.heap[g]? = w.heap[g]?)->∀ g,G.ow g=.lab l->W.heap[g]? = w.heap[g]?:=λW hW g hg'=>hW g (h.lt g (by simp[hg']))
       by_cases hm:ys.length=0
       .have hys:ys=[]:=List.eq_nil_of_length_eq_zero hm;subst hys;rcases hTO with⟨_,e2⟩|⟨g0,off,cap,row,e',GG,e1,hnc,hfit,hgr,hF,hcell,_⟩
        .exact absurd (show n=0 from hn0.symm.trans e2) O
        .rw[hl] at e1;injection e1 with e1 e2 e3
         subst e1;have hnews:news=[]:=List.eq_nil_of_length_eq_zero (by rw[hn1.len];simp);subst hnews;have hkk:(⟨t',T0x⟩:Tree).k=i.size:=hw;rw[hkk] at hfit;have hr:=Ik T o.type e i hu hi g0 off n n row e' hgr (a.eval x) 0 [] hn1 (by simp) O (by simp;rw[<-e3] at hfit;exact hfit);rw[<-hsl] at hr;have hrow:(row.toList.take (off+n*i.size)++[]++row.toList.drop (off+n*i.size+([]:List Value).length)).toArray=row:=by simp
         rw[hrow] at hr;have hsame:∀ g:Nat,(w.setRow g0 row).heap[g]? = w.heap[g]?:=by
          intro g;by_cases e0:g=g0
          .subst e0;rw[setRow_heap w g row _ e' _ hgr,hgr]
          .exact setRow_other w g0 g _ e0
         have hon:Onward w (w.setRow g0 row):=⟨rfl,rfl,⟨rfl,DrLe.refl _⟩,by simp⟩;refine EM (fin _ _ hr) ?_;rw[hd];have h1:RG F G J a (w.setRow g0 row):=RG.world h hon λg _=>hsame g
         refine⟨_,G,RG.put (x:=.v false [.im (some l) t' (T0x++[])]) h1 hlt ⟨.im (some l) t' (T0x++[]),rfl,?_⟩,hh,⟨_,rfl⟩,hon,λg hg=>.inl (hsame g),λ_ _=>rfl,λ_ _=>rfl,λ_ _=>rfl⟩;show TR _ (λg=>G.ow g=.lab l) (fcC (.l t' (T0x++[]))) _;rw[cS,Eb,hlen,hw];exact TR.frame (S:=λg=>G.ow g=.lab l) (S':=λg=>G.ow g=.lab l) (λg hg _=>⟨hsame g,hg⟩) hTR2
       .have hr:=Ip T o.type e i z hu hi hz ad n n olds ho1 (a.eval x) ys.length news hn1 O O hroom;rw[<-hsl] at hr;have old:∀ b,b<w.heap.size->(w.drew.alloc (.cells (olds++news++(Builtin.zeroCells z.cells (grownCap w (n+ys.length) n e-(n+ys.length))).toList).toArray e)).heap[b]? = w.heap[b]?:=λb hb=>heap_alloc_old w.drew _ b hb
        have hnew:=heap_alloc_new w.drew (.cells (olds++news++(Builtin.zeroCells z.cells (grownCap w (n+ys.length) n e-(n+ys.length))).toList).toArray e);generalize hW:(w.drew.alloc (.cells (olds++news++(Builtin.zeroCells z.cells (grownCap w (n+ys.length) n e-(n+ys.length))).toList).toArray e))=W at hr old hnew;have hon:Onward w W:=by rw[<-hW];exact⟨rfl,rfl,⟨rfl,DrLe.succ _⟩,by simp⟩
        have hsz:w.heap.size<W.heap.size:=by rw[<-hW];simp
        have h1:=h.world hon λg hg=>old g (h.lt g hg)
        have hg0:G.ow w.heap.size=.gone:=by
         cases hq:G.ow w.heap.size with
         | gone=>rfl
         | _=>exact absurd (h.lt w.heap.size (by simp[hq])) (Nat.lt_irrefl _)
        obtain⟨G2,h2,f2,k2,v2,b2⟩:=h1.joinLab (l:=l) hg0 hsz;refine EM (fin _ _ hr) ?_;rw[hd];refine⟨_,G2,RG.put (x:=.v false [.im (some l) t' (T0x++ys)]) h2 hlt ⟨.im (some l) t' (T0x++ys),rfl,?_⟩,hh,⟨_,rfl⟩,hon,λg hg=>.inl (old g hg),k2,λb _=>by rw[b2],λl _=>by rw[v2]⟩;show TR _ (λg=>G2.ow g=.lab l) (fcC (.l t' (T0x++ys))) _;rw[Eb,al,hlen,hw];have hge:=grownCap_ge w (n+ys.length) n e;refine⟨_,_,rfl,hge,.inr ⟨w.heap.size,0,_,e,_,rfl,f2,hnew,λi1 hi1 j1 hj1=>?_⟩⟩;have hlo:olds.length=n*i.size:=ho1.len;have hln:news.length=ys.length*i.size:=hn1.len;have hj1':j1<t'.width:=O
        have hb1:i1*i.size+j1<(i1+1)*i.size:=by rw[Nat.add_mul];omega
        rw[cM];simp only[List.getElem?_toArray,bK];by_cases hlo1:i1<n
        .obtain⟨u,hu',ht⟩:=ho3 i1 hlo1 j1 hj1;refine⟨u,by rw[cN (List.getElem?_eq_some_iff.1 hu').1];exact hu',?_⟩;obtain⟨u2,hu2⟩:=Fm hflat T0x i1 j1 hj1';rw[HQ O,hu2];rw[hu2] at ht;exact ht
        .obtain⟨u,hu',ht⟩:=hn3 (i1-n) (show i1-n<ys.length from O) j1 hj1;have hmul:i1*i.size=n*i.size+(i1-n)*i.size:=by rw[<-Nat.add_mul];congr 1;omega
         refine⟨u,?_,?_⟩
         .rw[cX (by rw[hlo];omega),hlo,show i1*i.size+j1-n*i.size=(i1-n)*i.size+j1 from O,cN (List.getElem?_eq_some_iff.1 hu').1];exact hu'
         .obtain⟨u2,hu2⟩:=Fm hflat ys (i1-n) j1 hj1';rw[Hn O,hlen,hu2];rw[hu2] at ht;exact ht
      .exact hh.elim
     .exact hh.elim
    .exact hh.elim
   .exact hh.elim
  .exact hh.elim
 .exact hh.elim
def UM (P:Program) (ty:TypeId->Option Ty) (o:Oper) (T:TypeId) (s x:Operand) (J:St) (K:St->Out):Out :=
 match s with
 | .tmp ts=>match J.get ts with
  | .capd l (c+1)=>AcT P o T l (c+1) x J K
  | _=>WW P ty o T s x J K
 | _=>WW P ty o T s x J K
def YW {ty:TypeId->Option Ty} {T:TypeId} {s x:Operand} (h:RG F G J a w) (ho:o.op=.call { callee:=.builtin .append,args := #[s,x],argTypes := #[T,T]}) (hh:(UM P ty o T s x J K).holds Q):o.wp P a w (ContE F G a w o.dst K Q) Qx:=by
 unfold UM at hh;split at hh
 .split at hh
  .rename_i hg;exact AbF h ho rfl hg hh
  .exact S6 h ho hh
 .exact S6 h ho hh
end
end Go.D
namespace Go.D
section
variable {P:Program} {F:Fr P} {G:Gh} {J:St} {a:Act} {w:World} {o:Oper} {K:St->Out} {Q:Post} {Qx:Exit->Act->World->Prop}
def PZ:Value->Option FC
 | .bool b=>some (.val (.bool b))
 | .int k n=>some (.val (.int k n))
 | .string s=>some (.val (.string s))
 | .slice none 0 0=>some .nl
 | _=>none
def K4 {v:Value} {c:FC} {N:Nat->Prop} (h:PZ v=some c):TO w (fcC c) v N:=by
 unfold PZ at h;split at h<;>simp at h<;>subst h
 .exact⟨rfl,rfl⟩
 .exact⟨rfl,rfl⟩
 .exact⟨rfl,rfl⟩
 .rfl
def IY:List Value->Option (List FC)
 | []=>some []
 | v::vs=>match PZ v,IY vs with
  | some c,some cs=>some (c::cs)
  | _,_=>none
def Io {vs:List Value} {cs:List FC} (h:IY vs=some cs):cs.length=vs.length/\∀ (j:Nat) (v:Value),vs[j]? = some v->PZ v=some (cs.getD j .nl):=by
 induction vs generalizing cs with
 | nil=>simp only[IY,R_] at h;subst h;simp
 | cons v vs ih=>
  simp only[IY] at h;grind
def AbQ (P:Program) (ty:TypeId->Option Ty) (o:Oper) (T:TypeId) (l c:Operand) (J:St) (K:St->Out):Out :=
 match P.underlying T with
 | some (.slice e)=>match P.info? e,ty e with
  | some i,some t=>match i.zero with
   | some z=>match IY z.cells.toList,(J.eval l).scal,(J.eval c).scal with
    | some zs,some (.int _ n),some (.int _ m)=>match dec t zs with
     | some x=>if t.width=i.size/\z.cells.size=i.size then .ob (n=m/\0<=n/\(i.bytes:Int)*n<=140737488355328/\n<=140737488355328) (Nc o J (64*o.dst.getD 0) [] ⟨t,List.replicate n.toNat x⟩ K) else .bad
     | none=>.bad
    | _,_,_=>.bad
   | none=>.bad
  | _,_=>.bad
 | _=>.bad
def Aeg {ty:TypeId->Option Ty} {T:TypeId} {l c:Operand} (h:RG F G J a w) (ho:o.op=.makeSlice T l c) (hh:(AbQ P ty o T l c J K).holds Q):o.wp P a w (ContE F G a w o.dst K Q) Qx:=by
 unfold AbQ at hh;split at hh
 .rename_i e hu;split at hh
  .rename_i i t hi hty;split at hh
   .rename_i z hz;split at hh
    .rename_i zs k1 n k2 m hzs hl hm;split at hh
     .rename_i x hx;split at hh
      .rename_i hc;obtain⟨hw,hsz⟩:=hc;obtain⟨⟨rfl,h0,hb,h63⟩,hh⟩:=hh;have hr:=run_make (P:=P) w T e i z hu hi hz k1 k2 n n h0 (Int.le_refl _) O O;have e1:(execOp a.eval o).run P w=.ok (.value (.slice (some ⟨w.heap.size,0,none⟩) n.toNat n.toNat)) (w.alloc (.cells (madeCells z.cells (n.toNat*i.size)) e)):=by simp[execOp,ho,(C9 (Aw h l) hl).1,(C9 (Aw h c) hm).1,hr]
       have old:∀ b,b<w.heap.size->(w.alloc (.cells (madeCells z.cells (n.toNat*i.size)) e)).heap[b]? = w.heap[b]?:=λb hb=>heap_alloc_old w _ b hb
       refine EM e1 (SJ h hh ⟨rfl,rfl,⟨rfl,by first|exact DrLe.refl _|exact DrLe.succ _|exact DrLe.add _ _⟩,by simp⟩ old rfl ?_);have hlen:(⟨t,List.replicate n.toNat x⟩:Tree).n=n.toNat:=by simp[Tree.n]
       have hkk:(⟨t,List.replicate n.toNat x⟩:Tree).k=i.size:=hw;rw[hlen,hkk];refine .inr ⟨w.heap.size,0,n.toNat,_,e,λ_ _ _=>False,rfl,X_ _,?_,heap_alloc_new w _,⟨X_ _,by simp⟩,λi' hi' j hj=>?_,by simp,by simp⟩
       .simp[size_madeCells]
       .have hlt:i'*i.size+j<n.toNat*i.size:=by have:(i'+1)*i.size<=n.toNat*i.size:=de _ hi';grind
        have hmod:(i'*i.size+j) % z.cells.size=j:=by rw[hsz,Nat.mul_comm,Nat.mul_add_mod,Nat.mod_eq_of_lt hj]
        have hjz:j<z.cells.size:=O
        refine⟨z.cells[j],?_,?_⟩
        .simp[madeCells,hlt,hmod,hjz]
        .have hcell:cell t (List.replicate n.toNat x) i' j=(enc t x).getD j .nl:=GF (by grind) j;simp only[Tree.f];rw[hcell];exact TO.le ((dec_ok t zs x hx).get.2 j).le (K4 ((Io hzs).2 j _ (by simp)))
      .exact hh.elim
     .exact hh.elim
    .exact hh.elim
   .exact hh.elim
  .exact hh.elim
 .exact hh.elim
def Ae1 (l:List Value):∀ (s off:Nat) (cells:Array Value),(((l.zipIdx s).foldl (λ(cs:Array Value) (p:Value×Nat)=>cs.setIfInBounds (off+p.2) p.1) cells).size=cells.size) /\
 ∀ x,off+s+l.length<=cells.size->((l.zipIdx s).foldl (λ(cs:Array Value) (p:Value×Nat)=>cs.setIfInBounds (off+p.2) p.1) cells)[x]? = if off+s<=x/\x<off+s+l.length then l[x-(off+s)]? else cells[x]?:=by
 induction l with
 | nil=>
  intro s off cells;refine⟨rfl,λx hx=>?_⟩;rw[F_ (by simp)];rfl
 | cons v l ih=>
  intro s off cells;simp;obtain⟨h1,h2⟩:=ih (s+1) off (cells.setIfInBounds (off+s) v);grind
def NW (v cells:Array Value) (off:Nat) (h:off+v.size<=cells.size) :
 v.zipIdx.foldl (λcs (c,j)=>cs.setIfInBounds (off+j) c) cells=(cells.toList.take off++v.toList++cells.toList.drop (off+v.toList.length)).toArray:=by
 have e:v.zipIdx.foldl (λcs (c,j)=>cs.setIfInBounds (off+j) c) cells=(v.toList.zipIdx 0).foldl (λ(cs:Array Value) (p:Value×Nat)=>cs.setIfInBounds (off+p.2) p.1) cells:=by rw[<-Array.foldl_toList];simp
 rw[e];obtain⟨h1,h2⟩:=Ae1 v.toList 0 off cells;apply Array.ext_getElem?;intro x;rw[h2 x O];simp only[Nat.add_zero,fp,List.getElem?_toArray];rw[bK];by_cases hlo:x<off
 .rw[F_ O,cN (by grind)];simp[hlo]
 .have e1:(List.take off cells.toList).length=off:=by simp;omega
  rw[cX O,e1];by_cases hin:x<off+v.size
  .rw[G_ ⟨O,hin⟩,cN (by grind)]
  .rw[F_ O,cX (by grind)];simp only[List.getElem?_drop,fp,Array.getElem?_toList];congr 1;omega
def Hh (P:Program) (fs:Array Field):List Cell->List (Nat×TV)->Option (List Cell)
 | cells,[]=>some cells
 | cells,(j,.v _ cs)::rest=>match fs[j]? with
  | some f=>match P.info? f.type with
   | some i=>if cs.length=i.size/\f.offset+cs.length<=cells.length then Hh P fs (cells.take f.offset++cs++cells.drop (f.offset+cs.length)) rest else none
   | none=>none
  | none=>none
 | _,_=>none
def Rz {fs:Array Field} {places:Array (Nat×Nat)} (hpl:∀ (j:Nat) (f:Field) (i:TypeInfo),fs[j]? = some f->P.info? f.type=some i->places[j]? = some (f.offset,i.size)) :
 ∀ (ps:List (Nat×TV)) (vs:List (Nat×Value)) (cells:List Cell) (cur:Array Value) (cs:List Cell),A4 w G cells cur->vs.length=ps.length->(∀ (j:Nat) (p:Nat×TV),ps[j]? = some p->∃ v,vs[j]? = some (p.1,v)/\TVR w G p.2 v) ->
  Hh P fs cells ps=some cs->∃ r,Instr.fill (places[·]?) cur vs=some r/\A4 w G cs r:=by
 intro ps
 induction ps with
 | nil=>
  intro vs cells cur cs hc hl _ hb;simp only[Hh,R_] at hb;subst hb;have:vs=[]:=List.eq_nil_of_length_eq_zero O;subst this;exact⟨cur,rfl,hc⟩
 | cons p ps ih=>
  intro vs cells cur cs hc hl hv hb;obtain⟨j,tv⟩:=p;obtain⟨v,hv0,htv⟩:=hv 0 (j,tv) rfl;cases vs with
  | nil=>simp at hl
  | cons q vs=>
   simp at hv0;subst hv0;cases tv<;>simp only[Hh,reduceCtorEq] at hb;split at hb
   .rename_i f hf;split at hb
    .rename_i i hi;split at hb
     .rename_i hcond;have hcs0:=I1 htv;have hp:=hpl j f i hf hi;simp only[Instr.fill,hp];have hsz:v.cells.size=i.size:=by rw[hcs0.1];exact hcond.1
      have hle:f.offset+v.cells.size<=cur.size:=by rw[hc.1,hcs0.1];exact hcond.2
      simp only[ne_eq,hsz,not_true_eq_false,decide_false,Bool.false_or,az];rw[F_ O];rw[NW v.cells cur f.offset hle];exact ih vs _ _ cs (H4 hc hcs0 hcond.2) (by simpa using hl) (λj' p' hp'=>by simpa using hv (j'+1) p' (by grind)) hb
     .simp at hb
    .simp at hb
   .simp at hb
def Un (P:Program) (o:Oper) (T:TypeId) (parts:Array (Nat×Operand)) (J:St) (K:St->Out):Out :=
 match P.underlying T,zeroCells P T with
 | some (.struct fs),some zs=>if fs.toList.all (λf=>(P.info? f.type).isSome) then(match Hh P fs zs (parts.toList.map λp=>(p.1,J.eval p.2)) with
  | some cs=>ret J o (.v true cs) K
  | none=>.bad) else .bad
 | some (.array _ e),some zs=>bif parts.toList.isEmpty&&(P.info? e).isSome then ret J o (.v true zs) K else .bad
 | _,_=>.bad
def run_places (fs:List Field) (h:fs.all (λf=>(P.info? f.type).isSome)=true):∃ ps:List (Nat×Nat),(fs.mapM λf=>do pure (f.offset,<-sizeOf f.type):Sem (List (Nat×Nat))).run P w=.ok ps w /\
 ∀ (j:Nat) (f:Field) (i:TypeInfo),fs[j]? = some f->P.info? f.type=some i->ps[j]? = some (f.offset,i.size):=by
 induction fs with
 | nil=>exact⟨[],by simp,by simp⟩
 | cons f fs ih=>
  simp only[List.all_cons,T_] at h;obtain⟨ps,hr,hp⟩:=ih h.2;obtain⟨i,hi⟩:=Option.isSome_iff_exists.1 h.1;refine⟨(f.offset,i.size)::ps,?_,λj f' i' hj hi'=>?_⟩
  .have hone:(do pure (f.offset,<-sizeOf f.type):Sem (Nat×Nat)).run P w=.ok (f.offset,i.size) w:=by simp[sizeOf,typeInfo,hi]
   rw[List.mapM_cons,Sem.run_bind,hone,Result.andThen_ok,Sem.run_bind,hr,Result.andThen_ok];rfl
  .grind
def XY {T:TypeId} {parts:Array (Nat×Operand)} (h:RG F G J a w) (ho:o.op=.build T parts) (hh:(Un P o T parts J K).holds Q):o.wp P a w (ContE F G a w o.dst K Q) Qx:=by
 unfold Un at hh;split at hh
 .rename_i fs zs hu hz;split at hh
  .rename_i hall;split at hh
   .rename_i cs hb;obtain⟨i,z,hi,hzz,hcz⟩:=H7 (w:=w) (G:=G) hz;obtain⟨pl,hpr,hpp⟩:=run_places (P:=P) (w:=w) fs.toList hall;have hpr':(fs.mapM λf=>do pure (f.offset,<-sizeOf f.type):Sem (Array (Nat×Nat))).run P w=.ok pl.toArray w:=by rw[Array.mapM_eq_mapM_toList];simp_all
    obtain⟨r,hfill,hr⟩:=Rz (P:=P) (w:=w) (G:=G) (fs:=fs) (places:=pl.toArray) (λj f i hf hi=>by grind)
     (parts.toList.map λp=>(p.1,J.eval p.2)) (parts.toList.map λp=>(p.1,a.eval p.2)) zs z.cells cs hcz (by simp) (λj p hj=>by
      rw[cz] at hj;cases hq:parts.toList[j]? with
      | none=>simp[hq] at hj
      | some q=>
       simp only[hq,bC,R_] at hj;subst hj;exact⟨a.eval q.2,by grind,Aw h q.2⟩) hb
    refine AH h hh ⟨r,rfl,hr⟩ ?_;have e1:(parts.map λ(i,x)=>(i,a.eval x)).toList=parts.toList.map λp=>(p.1,a.eval p.2):=by simp
    simp only[execOp,ho,Instr.build,zeroValue,typeInfo,Sem.run_bind,run_program,Result.andThen_ok,hi,hzz,Sem.run_pure,run_underlying hu,hpr',e1,hfill]
   .exact hh.elim
  .exact hh.elim
 .rename_i len e zs hu hz;cases hc:(parts.toList.isEmpty&&(P.info? e).isSome) with
  | false=>rw[hc,cF] at hh;exact hh.elim
  | true=>
   rw[hc,aX] at hh;rw[T_] at hc;obtain⟨i,z,hi,hzz,hcz⟩:=H7 (w:=w) (G:=G) hz;obtain⟨ie,hie⟩:=Option.isSome_iff_exists.1 hc.2;have hp0:parts = #[]:=by grind
   subst hp0;refine AH h hh ⟨z.cells,rfl,hcz⟩ ?_;simp[execOp,ho,Instr.build,zeroValue,sizeOf,typeInfo,hi,hzz,hie,run_underlying hu,Instr.fill]
 .exact hh.elim
end
end Go.D
namespace Go.D
section
variable {P:Program} {F:Fr P} {G:Gh} {J:St} {a:Act} {w:World} {o:Oper} {K:St->Out} {Q:Post} {Qx:Exit->Act->World->Prop}
def AcQ {L N:List Value} {A x:Nat} (h:A+N.length<=L.length):(L.take A++N++L.drop (A+N.length))[x]? = if x<A then L[x]? else if x<A+N.length then N[x-A]? else L[x]?:=by
 grind
def Mz {α:Type} (xs:List α) (e:Nat) (ys:List α):List α:=xs.take e++ys++xs.drop (e+ys.length)
def Xz {α:Type} {xs ys:List α} {e:Nat} (h:e+ys.length<=xs.length):(Mz xs e ys).length=xs.length:=by
 simp only[Mz,al,cZ,fK];omega
def Abb {α:Type} [Inhabited α] {xs ys:List α} {e i:Nat} (h:e+ys.length<=xs.length):(Mz xs e ys).getD i default=if e<=i/\i<e+ys.length then ys.getD (i-e) default else xs.getD i default:=by
 simp only[Mz,bB,bK];grind
def Ab7 {t:Ty} {xs ys:List (El t)} {e i j:Nat} (h:e+ys.length<=xs.length):cell t (Mz xs e ys) i j=if e<=i/\i<e+ys.length then cell t ys (i-e) j else cell t xs i j:=by
 unfold cell;rw[Abb h];split<;>rfl
def Aj7 (J:St) (l:Nat) (T:Tree):St:=({ J with hp:=(l,T)::J.hp.filter λp=>!([]:List Nat).contains p.1 }.kill []).loose [l]
def WN (h:RG F G J a w) {l e0:Nat} {T0:Tree} (hl:look J.hp l=some T0) (hf:Je T0.t=true) {g off cap:Nat} (hv:G.hv l=.slice (some ⟨g,off,none⟩) T0.n cap) (h0:0<T0.n) {ys:List (El T0.t)} {news:List Value}
 (hle:e0+ys.length<=T0.n) (hlen:news.length=ys.length*T0.k) (hnews:∀ i,i<ys.length->∀ j,j<T0.k->∃ u,news[i*T0.k+j]? = some u/\∃ S,TR w S (fcC (cell T0.t ys i j)) u) :
 ∃ row e,w.heap[g]? = some (.cells row e (0,0))/\off+e0*T0.k+news.length<=row.size/\T0.n<=cap/\∃ G',RG F G' (Aj7 J l ⟨T0.t,Mz T0.xs e0 ys⟩) a (w.setRow g (row.toList.take (off+e0*T0.k)++news++row.toList.drop (off+e0*T0.k+news.length)).toArray)/\G'.hv=G.hv:=by
 rcases h.hp l T0 hl with⟨_,hz⟩|⟨g',off',cap',row,e,GG,hv2,hnc,hcap,hg,hF,hrow,hsub,hdis⟩
 .omega
 .rw[hv] at hv2;injection hv2 with e1 e2 e3
  injection e1 with e1
  injection e1 with e4 e5
  subst e4;subst e5;subst e3;have hk:T0.n=T0.xs.length:=rfl;have b1:(e0+ys.length)*T0.k<=T0.n*T0.k:=de _ hle;have b2:T0.n*T0.k<=cap*T0.k:=de _ hnc;rw[Nat.add_mul] at b1;have bound:off+e0*T0.k+news.length<=row.size:=O
  refine⟨row,e,hg,bound,hnc,?_⟩;have hlist:off+e0*T0.k+news.length<=row.toList.length:=O
  have hTn:(⟨T0.t,Mz T0.xs e0 ys⟩:Tree).n=T0.n:=Xz hle;have hTk:(⟨T0.t,Mz T0.xs e0 ys⟩:Tree).k=T0.k:=rfl;obtain⟨G',hG',hh,_⟩:=h.setTree (w':=w.setRow g (row.toList.take (off+e0*T0.k)++news++row.toList.drop (off+e0*T0.k+news.length)).toArray) l [] T0 ⟨T0.t,Mz T0.xs e0 ys⟩ hl (by simp) (by simp) ⟨rfl,rfl,⟨rfl,by first|exact DrLe.refl _|exact DrLe.succ _|exact DrLe.add _ _⟩,by simp⟩
   (λb hb hbl=>setRow_other w g b _ λe=>hbl (e▸hF)) (by
    refine .inr ⟨g,off,cap,_,e,λ_ _ _=>False,by rw[hTn];exact hv,O,?_,setRow_heap w g row _ e _ hg,.inl hF,?_,by simp,by simp⟩
    .rw[hTk];simp;omega
    .intro i hi j hj;rw[hTn] at hi;rw[hTk] at hj ⊢;simp only[Tree.f,List.getElem?_toArray];rw[Ab7 hle,AcQ hlist];have b3:(i+1)*T0.k<=T0.n*T0.k:=de _ hi;by_cases hin:e0<=i/\i<e0+ys.length
     .rw[G_ hin];obtain⟨u,hu,S,ht⟩:=hnews (i-e0) O j hj;have c2:(i-e0+1)*T0.k<=ys.length*T0.k:=de _ O;have c3:(i-e0)*T0.k+e0*T0.k=i*T0.k:=by rw[<-Nat.add_mul];congr 1;omega
      rw[Nat.add_mul] at c2;rw[F_ O,G_ O];refine⟨u,?_,?_⟩
      .rw[<-hu];congr 1;omega
      .obtain⟨u2,hu2⟩:=Fm hf ys (i-e0) j hj;rw[hu2] at ht ⊢;exact ht
     .rw[F_ hin];obtain⟨u,hu,ht⟩:=hrow i hi j hj;have ht2:TO (w.setRow g (row.toList.take (off+e0*T0.k)++news++row.toList.drop (off+e0*T0.k+news.length)).toArray) (fcC (cell T0.t T0.xs i j)) u (λ_=>False):=by obtain⟨u2,hu2⟩:=Fm hf T0.xs i j hj;have ht':TO w (fcC (cell T0.t T0.xs i j)) u (GG i j):=ht;rw[hu2] at ht' ⊢;exact ht'
      refine⟨u,?_,ht2⟩;by_cases hlo:i<e0
      .have c1:(i+1)*T0.k<=e0*T0.k:=de _ hlo;rw[Nat.add_mul] at c1;rw[G_ O];simpa using hu
      .have c1:(e0+ys.length)*T0.k<=i*T0.k:=de _ O;rw[Nat.add_mul] at c1;rw[F_ O,F_ O];simpa using hu)
  exact⟨G',hG',hh⟩
def Amg (o:Oper) (J:St) (x:TV) (K:St->Out):Out:=match o.dst with
 | some d=>bif decide (d<J.nt) then K (J.put d x) else .bad
 | none=>K J
def Vp {w':World} {x:TV} {v:Value} (h:RG F G J a w') (hh:(Amg o J x K).holds Q) (hx:TVR w' G x v):LK F K Q (a.put o.dst v) w':=by
 unfold Amg at hh;split at hh
 .rename_i d hd;cases hc:decide (d<J.nt) with
  | false=>rw[hc,cF] at hh;exact hh.elim
  | true=>
   rw[hc,aX] at hh;rw[hd];exact⟨_,⟨G,RG.put h (by grind) hx⟩,hh⟩
 .rename_i hd;rw[hd];exact⟨_,⟨G,h⟩,hh⟩
def VG (P:Program) (o:Oper) (T:TypeId) (l k lo m k2 lo2 m2:Nat) (J:St) (K:St->Out):Out :=
 match P.underlying T with
 | some (.slice e)=>match P.info? e,look J.hp l with
  | some i,some T0=>if T0.k=i.size/\k=i.size/\k2=i.size/\Je T0.t=true then
   .ob (lo=0/\0<T0.n/\lo2+m2<=T0.n/\m+m2<=T0.n) (Amg o (Aj7 J l ⟨T0.t,Mz T0.xs m (cut T0.xs lo2 m2)⟩) (.v false [.sub l k 0 (m+m2)]) K) else .bad
  | _,_=>.bad
 | _=>.bad
def Yu {T:TypeId} {s x:Operand} {l k lo m k2 lo2 m2:Nat} (h:RG F G J a w) (ho:o.op=.call { callee:=.builtin .append,args := #[s,x],argTypes := #[T,T]}) (hs:J.eval s=.v false [.sub l k lo m]) (hx:J.eval x=.v false [.sub l k2 lo2 m2])
 (hh:(VG P o T l k lo m k2 lo2 m2 J K).holds Q):o.wp P a w (LK F K Q) Qx:=by
 unfold VG at hh;have hsv:=Aw h s;have hxv:=Aw h x;rw[hs] at hsv;obtain⟨c,hc,hcr⟩:=hsv;injection hc with hc
 subst hc;split at hh
 .rename_i e hu;split at hh
  .rename_i i T0 hi hl;split at hh
   .rename_i hc;obtain⟨hk,hk1,hk2,hf⟩:=hc;obtain⟨⟨hlo,h0,hle2,hle⟩,hh⟩:=hh;subst hlo;rcases hcr with⟨ad,e1,_⟩|⟨g,off,mm,cap,off',hv,hlc,hav,hof⟩
    .rcases h.hp l T0 hl with⟨_,hz⟩|⟨g,off,cap,row,e',GG,hv2,_⟩
     .omega
     .rw[e1] at hv2;injection hv2 with _ e2 _;omega
    .have hmm:mm=T0.n:=by
      rcases h.hp l T0 hl with⟨_,hz⟩|⟨g,off,cap,row,e',GG,hv2,_⟩
      .omega
      .rw[hv] at hv2;injection hv2
     subst hmm;have hsrc:Rg J (J.eval x)=some (lo2+m2<=T0.n,⟨T0.t,cut T0.xs lo2 m2⟩):=by rw[hx];simp only[Rg,hl];rw[G_ O]
     obtain⟨S,htr⟩:=IF h hxv hsrc hle2;have hcl:(cut T0.xs lo2 m2).length=m2:=N6 hle2;rw[Eb] at htr;have hkt:T0.t.width=i.size:=hk;rw[hkt,hcl] at htr;obtain⟨news,hn1,hn2,hn3⟩:=L0 (P:=P) (by rw[<-hkt];exact Fk _) htr;obtain⟨row,er,hg,hb,hnc,G',hG',hh2⟩:=WN (e0:=m) (ys:=cut T0.xs lo2 m2) (news:=news) h hl hf hv h0 O (by rw[hcl,hk];exact hn1.len) (by intro i' hi' j' hj';rw[hcl] at hi';rw[hk] at hj' ⊢;obtain⟨u,hu,ht⟩:=hn3 i' hi' j' hj';exact⟨u,hu,S,ht⟩)
     have hoff:off'=off:=O
     subst hoff;have hrun:=Ik (P:=P) (w:=w) T o.type e i hu hi g off' m cap row er hg (a.eval x) m2 news hn1 hn2 O (by grind);have hav':a.eval s=.slice (some ⟨g,off',none⟩) m cap:=O
     refine EM (v:=.slice (some ⟨g,off',none⟩) (m+m2) cap) ?_ (Vp (v:=.slice (some ⟨g,off',none⟩) (m+m2) cap) hG' hh ⟨_,rfl,.inr ⟨g,off',T0.n,cap,off',by grind,O,by simp,.inl (by simp)⟩⟩);rw[hk];simp[execOp,ho,resolve,invoke,builtin,hav',hrun]
   .exact hh.elim
  .exact hh.elim
 .exact hh.elim
def Akc (J:St):TV->Option (Nat×Nat×Nat×Nat)
 | .v false [.ref l]=>match look J.hp l with
  | some T=>some (l,T.k,0,T.n)
  | none=>none
 | .v false [.sub l k lo n]=>some (l,k,lo,n)
 | _=>none
def Agb {x:TV} {v:Value} {l k lo n:Nat} (h:RG F G J a w) (hx:TVR w G x v) (hw:Akc J x=some (l,k,lo,n)):Amd (G.hv l) k lo n v:=by
 unfold Akc at hw;split at hw
 .split at hw
  .rename_i T hT;obtain⟨rfl,rfl,rfl,rfl⟩:=hw;obtain⟨c,hc,hcr⟩:=hx;injection hc with hc
   subst hc;rcases h.hp _ T hT with⟨⟨ad,e1⟩,e2⟩|⟨g,off,cap,row,e',GG,hv,hnc,_⟩
   .exact .inl ⟨ad,e1,rfl,e2,by rw[hcr.1,e1]⟩
   .exact .inr ⟨g,off,T.n,cap,off,hv,O,by rw[hcr.1,hv];simp,.inl (by simp)⟩
  .cases hw
 .obtain⟨rfl,rfl,rfl,rfl⟩:=hw;obtain⟨c,hc,hcr⟩:=hx;injection hc with hc
  subst hc;exact hcr
 .cases hw
def Vu (P:Program) (o:Oper) (T:TypeId) (x:Operand) (J:St) (K:St->Out):Out :=
 match P.underlying T,Akc J (J.eval x) with
 | some (.slice e),some (l,k,lo,n)=>match P.info? e,look J.hp l with
  | some i,some T0=>match i.zero with
   | some z=>match IY z.cells.toList with
    | some zs=>match dec T0.t zs with
     | some x0=>if T0.k=i.size/\k=i.size/\z.cells.size=i.size/\Je T0.t=true then
      .ob (lo+n<=T0.n) (Amg o (Aj7 J l ⟨T0.t,Mz T0.xs lo (List.replicate n x0)⟩) (.tup []) K) else .bad
     | none=>.bad
    | none=>.bad
   | none=>.bad
  | _,_=>.bad
 | _,_=>.bad
def V8 {z:Array Value} {n k i j:Nat} (hz:z.size=k) (hi:i<n) (hj:j<k):(Builtin.zeroCells z n).toList[i*k+j]? = some z[j]!:=by
 have hlt:i*k+j<n*k:=by have:(i+1)*k<=n*k:=de _ hi;grind
 have hm:(i*k+j) % k=j:=by rw[Nat.mul_comm,Nat.mul_add_mod,Nat.mod_eq_of_lt hj]
 simp[Builtin.zeroCells,hz,hlt,hm]
def X8 {T:TypeId} {x:Operand} (h:RG F G J a w) (ho:o.op=.call { callee:=.builtin .clear,args := #[x],argTypes := #[T]}) (hh:(Vu P o T x J K).holds Q):o.wp P a w (LK F K Q) Qx:=by
 unfold Vu at hh;have hxv:=Aw h x;split at hh
 .rename_i e l k lo n hu hw;have hs:=Agb h hxv hw;split at hh
  .rename_i i T0 hi hl;split at hh
   .rename_i z hz;split at hh
    .rename_i zs hzs;split at hh
     .rename_i x0 hx0;split at hh
      .rename_i hc;obtain⟨hk,hk1,hzk,hf⟩:=hc;obtain⟨hle,hh⟩:=hh;have fin:∀ w',(Builtin.clear_ #[T] o.type #[a.eval x]).run P w=.ok (.tuple #[]) w'->(execOp a.eval o).run P w=.ok (.value (.tuple #[])) w':=by intro w' hr;simp[execOp,ho,resolve,invoke,builtin,hr]
       have htup:∀ (G':Gh) (w':World),TVR w' G' (.tup []) (.tuple #[]):=λG' w'=>⟨#[],rfl,rfl,by simp⟩
       by_cases hn:n=0
       .subst hn;have hsame:Mz T0.xs lo (List.replicate 0 x0)=T0.xs:=by simp[Mz]
        rw[hsame] at hh;obtain⟨G',hG',_⟩:=h.setTree (w':=w) l [] T0 ⟨T0.t,T0.xs⟩ hl (by simp) (by simp) ⟨rfl,rfl,⟨rfl,by first|exact DrLe.refl _|exact DrLe.succ _|exact DrLe.add _ _⟩,X_ _⟩ (λ_ _ _=>rfl) ((h.hp l T0 hl).frame λg hg _=>⟨rfl,.inl hg⟩);refine EM (fin w ?_) (Vp hG' hh (htup _ _));rcases hs with⟨ad,_,_,_,e4⟩|⟨g,off,mm,cap,off',_,_,e4,_⟩
        .rw[e4];cases ad<;>simp[Builtin.clear_,run_underlying hu]
        .rw[e4];simp[Builtin.clear_,run_underlying hu]
       .rcases hs with⟨ad,_,_,e3,e4⟩|⟨g,off,mm,cap,off',hv,hlc,hav,hof⟩
        .exact absurd e3 hn
        .have hmm:mm=T0.n:=by
          rcases h.hp l T0 hl with⟨_,hz⟩|⟨g,off,cap,row,e',GG,hv2,_⟩
          .omega
          .rw[hv] at hv2;injection hv2
         subst hmm;obtain⟨row,er,hg,hb,hnc,G',hG',hh2⟩:=WN (e0:=lo) (ys:=List.replicate n x0) (news:=(Builtin.zeroCells z.cells n).toList) h hl hf hv O (by grind) (by simp[size_zeroCells,hzk,hk]) (by
          intro i' hi' j' hj';rw[List.length_replicate] at hi';rw[hk] at hj' ⊢;have hjz:j'<z.cells.size:=O
          refine⟨_,V8 hzk hi' hj',λ_=>True,?_⟩;have hcell:cell T0.t (List.replicate n x0) i' j'=(enc T0.t x0).getD j' .nl:=GF (by simp[hi']) j';rw[hcell];have e1:z.cells[j']! = z.cells[j']:=by simp[hjz]
          rw[e1];exact(TO.le ((dec_ok T0.t zs x0 hx0).get.2 j').le (K4 (N:=λ_=>True) ((Io hzs).2 j' _ (by simp[hjz])))).read)
         have hoff:off'=off+lo*T0.k:=by
          rcases hof with e1|⟨e1,_⟩
          .rw[e1,hk1,hk]
          .omega
         have h1:∀ v∈(Builtin.zeroCells z.cells n).toList,v.oneCell'=true:=by
          intro v hv';obtain⟨q,hq⟩:=List.getElem?_of_mem hv';have hlt:q<n*i.size:=by have:=(List.getElem?_eq_some_iff.1 hq).1;simpa [size_zeroCells,hzk] using this
          have hpos:0<i.size:=by grind
          have h2:q / i.size<n:=(Nat.div_lt_iff_lt_mul hpos).2 hlt;have h3:q % i.size<i.size:=Nat.mod_lt _ hpos;have h4:=V8 hzk h2 h3;have e2:q / i.size*i.size+q % i.size=q:=by have:=Nat.div_add_mod q i.size;rw[Nat.mul_comm] at this;omega
          rw[e2,hq] at h4;injection h4 with h4
          rw[h4];have hjz:q % i.size<z.cells.size:=O
          have e1:z.cells[q % i.size]! = z.cells[q % i.size]:=by simp[hjz]
          rw[e1];exact(K4 (w:=w) (N:=λ_=>True) ((Io hzs).2 (q % i.size) z.cells[q % i.size] (by simp[hjz]))).read.one
         have hst:=run_storeCells_at P g off' er (Builtin.zeroCells z.cells n).toList 0 row w hg O h1;rw[<-hoff] at hG';refine EM (fin _ ?_) (Vp hG' hh (htup _ _));obtain⟨n',rfl⟩:=Nat.exists_eq_succ_of_ne_zero hn;rw[hav];simp[Builtin.clear_,run_underlying hu,zeroValue,typeInfo,hi,hz,hst]
      .exact hh.elim
     .exact hh.elim
    .exact hh.elim
   .exact hh.elim
  .exact hh.elim
 .exact hh.elim
end
end Go.D
