/-
  The struct types of the program as Lean structures; the universe of element types of slices; their cells.
-/
import Derived.Test.YtcgigcmleodjbaaVDa
namespace Go.D
set_option linter.unusedVariables false
structure SAddr where
  host : ByteArray
  path : ByteArray
  deriving DecidableEq, Inhabited
structure SAttr where
  name : ByteArray
  value : ByteArray
  deriving DecidableEq, Inhabited
structure SToken where
  kind : Int
  name : ByteArray
  attrs : List SAttr
  text : ByteArray
  deriving DecidableEq, Inhabited
structure STokenizer where
  rest : ByteArray
  deriving DecidableEq, Inhabited
structure SNode where
  name : ByteArray
  text : ByteArray
  parent : Int
  attrs : List SAttr
  deriving DecidableEq, Inhabited
structure SBuilder where
  nodes : List SNode
  open_ : List Int
  deriving DecidableEq, Inhabited
structure SRule where
  name : ByteArray
  color : Int
  deriving DecidableEq, Inhabited
structure SSheet where
  rules : List SRule
  deriving DecidableEq, Inhabited
structure SLine where
  op : Int
  text : ByteArray
  deriving DecidableEq, Inhabited
structure SPolicy where
  set_ : Bool
  scripts : List ByteArray
  styles : List ByteArray
  images : List ByteArray
  nonce : ByteArray
  deriving DecidableEq, Inhabited
structure SResponse where
  status : Int
  kind : Int
  body : ByteArray
  age : Int
  shares : Bool
  policy : ByteArray
  deriving DecidableEq, Inhabited
structure SRequest where
  kind : Int
  to : SAddr
  from_ : ByteArray
  digest : ByteArray
  deriving DecidableEq, Inhabited
structure SFile where
  path : ByteArray
  response : SResponse
  deriving DecidableEq, Inhabited
structure SServer where
  host : ByteArray
  files : List SFile
  deriving DecidableEq, Inhabited
structure SEntry where
  top : ByteArray
  to : SAddr
  response : SResponse
  until_ : Int
  deriving DecidableEq, Inhabited
structure SCache where
  entries : List SEntry
  deriving DecidableEq, Inhabited
structure SSent where
  top : ByteArray
  to : SAddr
  guess : Bool
  deriving DecidableEq, Inhabited
structure SNet where
  servers : List SServer
  cache : SCache
  log : List SSent
  now : Int
  deriving DecidableEq, Inhabited
structure SSlot where
  mode : Int
  to : SAddr
  digest : ByteArray
  node : Int
  done : Bool
  code : Int
  body : ByteArray
  deriving DecidableEq, Inhabited
structure SModule where
  to : SAddr
  done : Bool
  code : Int
  body : ByteArray
  deriving DecidableEq, Inhabited
structure SPage where
  addr : SAddr
  policy : SPolicy
  tok : STokenizer
  queue : List SToken
  ended : Bool
  builder : SBuilder
  slots : List SSlot
  mods : List SModule
  entries : List SAddr
  block : Int
  inline : Int
  deferred : Int
  entered : Int
  ran : List SAddr
  log : List ByteArray
  loaded : Bool
  deriving DecidableEq, Inhabited
structure SResult where
  builder : SBuilder
  log : List ByteArray
  verdicts : List ByteArray
  sheet : SSheet
  loaded : Bool
  deriving DecidableEq, Inhabited
structure SGuess where
  to : SAddr
  response : SResponse
  used : Bool
  deriving DecidableEq, Inhabited
structure SConn where
  to : SAddr
  left : Int
  guess : Bool
  response : SResponse
  deriving DecidableEq, Inhabited
structure SLoader where
  net : SNet
  page : SPage
  parts : List ByteArray
  conns : List SConn
  guesses : List SGuess
  deriving DecidableEq, Inhabited
structure SVisit where
  addr : SAddr
  page : SPage
  kept : Bool
  deriving DecidableEq, Inhabited
structure STab where
  visits : List SVisit
  at_ : Int
  deriving DecidableEq, Inhabited
structure SKept where
  to : SAddr
  response : SResponse
  deriving DecidableEq, Inhabited
structure SHidden where
  ready : Bool
  page : SPage
  taken : List SKept
  servers : List SServer
  now : Int
  deriving DecidableEq, Inhabited
structure SWorld where
  net : SNet
  tab : STab
  hidden : SHidden
  fast : Bool
  deriving DecidableEq, Inhabited
structure SEvent where
  kind : Int
  to : SAddr
  n : Int
  seed : Int
  deriving DecidableEq, Inhabited
inductive Ty where
  | int
  | str
  | bool
  | u8
  | addr
  | attr
  | token
  | tokenizer
  | node
  | builder
  | rule
  | sheet
  | line
  | policy
  | response
  | request
  | file
  | server
  | entry
  | cache
  | sent
  | net
  | slot
  | module
  | page
  | result
  | guess
  | conn
  | loader
  | visit
  | tab
  | kept
  | hidden
  | world
  | event
  deriving DecidableEq
abbrev El : Ty → Type
  | .int => Int
  | .str => ByteArray
  | .bool => Bool
  | .u8 => Int
  | .addr => SAddr
  | .attr => SAttr
  | .token => SToken
  | .tokenizer => STokenizer
  | .node => SNode
  | .builder => SBuilder
  | .rule => SRule
  | .sheet => SSheet
  | .line => SLine
  | .policy => SPolicy
  | .response => SResponse
  | .request => SRequest
  | .file => SFile
  | .server => SServer
  | .entry => SEntry
  | .cache => SCache
  | .sent => SSent
  | .net => SNet
  | .slot => SSlot
  | .module => SModule
  | .page => SPage
  | .result => SResult
  | .guess => SGuess
  | .conn => SConn
  | .loader => SLoader
  | .visit => SVisit
  | .tab => STab
  | .kept => SKept
  | .hidden => SHidden
  | .world => SWorld
  | .event => SEvent
instance (t : Ty) : Inhabited (El t) := match t with
  | .int => inferInstanceAs (Inhabited (Int))
  | .str => inferInstanceAs (Inhabited (ByteArray))
  | .bool => inferInstanceAs (Inhabited (Bool))
  | .u8 => inferInstanceAs (Inhabited (Int))
  | .addr => inferInstanceAs (Inhabited (SAddr))
  | .attr => inferInstanceAs (Inhabited (SAttr))
  | .token => inferInstanceAs (Inhabited (SToken))
  | .tokenizer => inferInstanceAs (Inhabited (STokenizer))
  | .node => inferInstanceAs (Inhabited (SNode))
  | .builder => inferInstanceAs (Inhabited (SBuilder))
  | .rule => inferInstanceAs (Inhabited (SRule))
  | .sheet => inferInstanceAs (Inhabited (SSheet))
  | .line => inferInstanceAs (Inhabited (SLine))
  | .policy => inferInstanceAs (Inhabited (SPolicy))
  | .response => inferInstanceAs (Inhabited (SResponse))
  | .request => inferInstanceAs (Inhabited (SRequest))
  | .file => inferInstanceAs (Inhabited (SFile))
  | .server => inferInstanceAs (Inhabited (SServer))
  | .entry => inferInstanceAs (Inhabited (SEntry))
  | .cache => inferInstanceAs (Inhabited (SCache))
  | .sent => inferInstanceAs (Inhabited (SSent))
  | .net => inferInstanceAs (Inhabited (SNet))
  | .slot => inferInstanceAs (Inhabited (SSlot))
  | .module => inferInstanceAs (Inhabited (SModule))
  | .page => inferInstanceAs (Inhabited (SPage))
  | .result => inferInstanceAs (Inhabited (SResult))
  | .guess => inferInstanceAs (Inhabited (SGuess))
  | .conn => inferInstanceAs (Inhabited (SConn))
  | .loader => inferInstanceAs (Inhabited (SLoader))
  | .visit => inferInstanceAs (Inhabited (SVisit))
  | .tab => inferInstanceAs (Inhabited (STab))
  | .kept => inferInstanceAs (Inhabited (SKept))
  | .hidden => inferInstanceAs (Inhabited (SHidden))
  | .world => inferInstanceAs (Inhabited (SWorld))
  | .event => inferInstanceAs (Inhabited (SEvent))
/-- the content of a cell, typed -/
inductive FC where
  | val (v : Value)
  | nl
  | l (t : Ty) (xs : List (El t))
instance : Inhabited FC := ⟨.nl⟩
def Ty.width : Ty → Nat
  | .int => 1
  | .str => 1
  | .bool => 1
  | .u8 => 1
  | .addr => 2
  | .attr => 2
  | .token => 4
  | .tokenizer => 1
  | .node => 4
  | .builder => 2
  | .rule => 2
  | .sheet => 1
  | .line => 2
  | .policy => 5
  | .response => 6
  | .request => 5
  | .file => 7
  | .server => 2
  | .entry => 10
  | .cache => 1
  | .sent => 4
  | .net => 4
  | .slot => 8
  | .module => 5
  | .page => 22
  | .result => 6
  | .guess => 9
  | .conn => 10
  | .loader => 29
  | .visit => 25
  | .tab => 2
  | .kept => 8
  | .hidden => 26
  | .world => 33
  | .event => 5
def Ty.rank : Ty → Nat
  | .int => 0
  | .str => 0
  | .bool => 0
  | .u8 => 0
  | .addr => 0
  | .attr => 0
  | .token => 1
  | .tokenizer => 0
  | .node => 1
  | .builder => 2
  | .rule => 0
  | .sheet => 1
  | .line => 0
  | .policy => 1
  | .response => 0
  | .request => 0
  | .file => 0
  | .server => 1
  | .entry => 0
  | .cache => 1
  | .sent => 0
  | .net => 2
  | .slot => 0
  | .module => 0
  | .page => 2
  | .result => 2
  | .guess => 0
  | .conn => 0
  | .loader => 2
  | .visit => 2
  | .tab => 3
  | .kept => 0
  | .hidden => 2
  | .world => 3
  | .event => 0
def enc : (t : Ty) → El t → List FC
  | .int, x => [.val (.int .i64 x)]
  | .str, x => [.val (.string x)]
  | .bool, x => [.val (.bool x)]
  | .u8, x => [.val (.int .u8 x)]
  | .addr, x => [.val (.string x.host), .val (.string x.path)]
  | .attr, x => [.val (.string x.name), .val (.string x.value)]
  | .token, x => [.val (.int .i64 x.kind), .val (.string x.name), .l .attr x.attrs, .val (.string x.text)]
  | .tokenizer, x => [.val (.string x.rest)]
  | .node, x => [.val (.string x.name), .val (.string x.text), .val (.int .i64 x.parent), .l .attr x.attrs]
  | .builder, x => [.l .node x.nodes, .l .int x.open_]
  | .rule, x => [.val (.string x.name), .val (.int .i64 x.color)]
  | .sheet, x => [.l .rule x.rules]
  | .line, x => [.val (.int .i64 x.op), .val (.string x.text)]
  | .policy, x => [.val (.bool x.set_), .l .str x.scripts, .l .str x.styles, .l .str x.images, .val (.string x.nonce)]
  | .response, x => [.val (.int .i64 x.status), .val (.int .i64 x.kind), .val (.string x.body), .val (.int .i64 x.age), .val (.bool x.shares), .val (.string x.policy)]
  | .request, x => [.val (.int .i64 x.kind), .val (.string x.to.host), .val (.string x.to.path), .val (.string x.from_), .val (.string x.digest)]
  | .file, x => [.val (.string x.path), .val (.int .i64 x.response.status), .val (.int .i64 x.response.kind), .val (.string x.response.body), .val (.int .i64 x.response.age), .val (.bool x.response.shares), .val (.string x.response.policy)]
  | .server, x => [.val (.string x.host), .l .file x.files]
  | .entry, x => [.val (.string x.top), .val (.string x.to.host), .val (.string x.to.path), .val (.int .i64 x.response.status), .val (.int .i64 x.response.kind), .val (.string x.response.body), .val (.int .i64 x.response.age), .val (.bool x.response.shares), .val (.string x.response.policy), .val (.int .i64 x.until_)]
  | .cache, x => [.l .entry x.entries]
  | .sent, x => [.val (.string x.top), .val (.string x.to.host), .val (.string x.to.path), .val (.bool x.guess)]
  | .net, x => [.l .server x.servers, .l .entry x.cache.entries, .l .sent x.log, .val (.int .i64 x.now)]
  | .slot, x => [.val (.int .i64 x.mode), .val (.string x.to.host), .val (.string x.to.path), .val (.string x.digest), .val (.int .i64 x.node), .val (.bool x.done), .val (.int .i64 x.code), .val (.string x.body)]
  | .module, x => [.val (.string x.to.host), .val (.string x.to.path), .val (.bool x.done), .val (.int .i64 x.code), .val (.string x.body)]
  | .page, x => [.val (.string x.addr.host), .val (.string x.addr.path), .val (.bool x.policy.set_), .l .str x.policy.scripts, .l .str x.policy.styles, .l .str x.policy.images, .val (.string x.policy.nonce), .val (.string x.tok.rest), .l .token x.queue, .val (.bool x.ended), .l .node x.builder.nodes, .l .int x.builder.open_, .l .slot x.slots, .l .module x.mods, .l .addr x.entries, .val (.int .i64 x.block), .val (.int .i64 x.inline), .val (.int .i64 x.deferred), .val (.int .i64 x.entered), .l .addr x.ran, .l .str x.log, .val (.bool x.loaded)]
  | .result, x => [.l .node x.builder.nodes, .l .int x.builder.open_, .l .str x.log, .l .str x.verdicts, .l .rule x.sheet.rules, .val (.bool x.loaded)]
  | .guess, x => [.val (.string x.to.host), .val (.string x.to.path), .val (.int .i64 x.response.status), .val (.int .i64 x.response.kind), .val (.string x.response.body), .val (.int .i64 x.response.age), .val (.bool x.response.shares), .val (.string x.response.policy), .val (.bool x.used)]
  | .conn, x => [.val (.string x.to.host), .val (.string x.to.path), .val (.int .i64 x.left), .val (.bool x.guess), .val (.int .i64 x.response.status), .val (.int .i64 x.response.kind), .val (.string x.response.body), .val (.int .i64 x.response.age), .val (.bool x.response.shares), .val (.string x.response.policy)]
  | .loader, x => [.l .server x.net.servers, .l .entry x.net.cache.entries, .l .sent x.net.log, .val (.int .i64 x.net.now), .val (.string x.page.addr.host), .val (.string x.page.addr.path), .val (.bool x.page.policy.set_), .l .str x.page.policy.scripts, .l .str x.page.policy.styles, .l .str x.page.policy.images, .val (.string x.page.policy.nonce), .val (.string x.page.tok.rest), .l .token x.page.queue, .val (.bool x.page.ended), .l .node x.page.builder.nodes, .l .int x.page.builder.open_, .l .slot x.page.slots, .l .module x.page.mods, .l .addr x.page.entries, .val (.int .i64 x.page.block), .val (.int .i64 x.page.inline), .val (.int .i64 x.page.deferred), .val (.int .i64 x.page.entered), .l .addr x.page.ran, .l .str x.page.log, .val (.bool x.page.loaded), .l .str x.parts, .l .conn x.conns, .l .guess x.guesses]
  | .visit, x => [.val (.string x.addr.host), .val (.string x.addr.path), .val (.string x.page.addr.host), .val (.string x.page.addr.path), .val (.bool x.page.policy.set_), .l .str x.page.policy.scripts, .l .str x.page.policy.styles, .l .str x.page.policy.images, .val (.string x.page.policy.nonce), .val (.string x.page.tok.rest), .l .token x.page.queue, .val (.bool x.page.ended), .l .node x.page.builder.nodes, .l .int x.page.builder.open_, .l .slot x.page.slots, .l .module x.page.mods, .l .addr x.page.entries, .val (.int .i64 x.page.block), .val (.int .i64 x.page.inline), .val (.int .i64 x.page.deferred), .val (.int .i64 x.page.entered), .l .addr x.page.ran, .l .str x.page.log, .val (.bool x.page.loaded), .val (.bool x.kept)]
  | .tab, x => [.l .visit x.visits, .val (.int .i64 x.at_)]
  | .kept, x => [.val (.string x.to.host), .val (.string x.to.path), .val (.int .i64 x.response.status), .val (.int .i64 x.response.kind), .val (.string x.response.body), .val (.int .i64 x.response.age), .val (.bool x.response.shares), .val (.string x.response.policy)]
  | .hidden, x => [.val (.bool x.ready), .val (.string x.page.addr.host), .val (.string x.page.addr.path), .val (.bool x.page.policy.set_), .l .str x.page.policy.scripts, .l .str x.page.policy.styles, .l .str x.page.policy.images, .val (.string x.page.policy.nonce), .val (.string x.page.tok.rest), .l .token x.page.queue, .val (.bool x.page.ended), .l .node x.page.builder.nodes, .l .int x.page.builder.open_, .l .slot x.page.slots, .l .module x.page.mods, .l .addr x.page.entries, .val (.int .i64 x.page.block), .val (.int .i64 x.page.inline), .val (.int .i64 x.page.deferred), .val (.int .i64 x.page.entered), .l .addr x.page.ran, .l .str x.page.log, .val (.bool x.page.loaded), .l .kept x.taken, .l .server x.servers, .val (.int .i64 x.now)]
  | .world, x => [.l .server x.net.servers, .l .entry x.net.cache.entries, .l .sent x.net.log, .val (.int .i64 x.net.now), .l .visit x.tab.visits, .val (.int .i64 x.tab.at_), .val (.bool x.hidden.ready), .val (.string x.hidden.page.addr.host), .val (.string x.hidden.page.addr.path), .val (.bool x.hidden.page.policy.set_), .l .str x.hidden.page.policy.scripts, .l .str x.hidden.page.policy.styles, .l .str x.hidden.page.policy.images, .val (.string x.hidden.page.policy.nonce), .val (.string x.hidden.page.tok.rest), .l .token x.hidden.page.queue, .val (.bool x.hidden.page.ended), .l .node x.hidden.page.builder.nodes, .l .int x.hidden.page.builder.open_, .l .slot x.hidden.page.slots, .l .module x.hidden.page.mods, .l .addr x.hidden.page.entries, .val (.int .i64 x.hidden.page.block), .val (.int .i64 x.hidden.page.inline), .val (.int .i64 x.hidden.page.deferred), .val (.int .i64 x.hidden.page.entered), .l .addr x.hidden.page.ran, .l .str x.hidden.page.log, .val (.bool x.hidden.page.loaded), .l .kept x.hidden.taken, .l .server x.hidden.servers, .val (.int .i64 x.hidden.now), .val (.bool x.fast)]
  | .event, x => [.val (.int .i64 x.kind), .val (.string x.to.host), .val (.string x.to.path), .val (.int .i64 x.n), .val (.int .i64 x.seed)]
def getI : FC → Option Int
  | .val (.int .i64 n) => some n
  | _ => none
def getU : FC → Option Int
  | .val (.int .u8 n) => some n
  | _ => none
def getS : FC → Option ByteArray
  | .val (.string s) => some s
  | _ => none
def getB : FC → Option Bool
  | .val (.bool b) => some b
  | _ => none
def getL (t : Ty) : FC → Option (List (El t))
  | .nl => some []
  | .l t' xs => if h : t' = t then some (h ▸ xs) else none
  | _ => none
def pI {α : Type} (fs : List FC) (k : Int → List FC → Option α) : Option α := match fs with | c :: r => (getI c).bind fun a => k a r | [] => none
def pU {α : Type} (fs : List FC) (k : Int → List FC → Option α) : Option α := match fs with | c :: r => (getU c).bind fun a => k a r | [] => none
def pS {α : Type} (fs : List FC) (k : ByteArray → List FC → Option α) : Option α := match fs with | c :: r => (getS c).bind fun a => k a r | [] => none
def pB {α : Type} (fs : List FC) (k : Bool → List FC → Option α) : Option α := match fs with | c :: r => (getB c).bind fun a => k a r | [] => none
def pL {α : Type} (t : Ty) (fs : List FC) (k : List (El t) → List FC → Option α) : Option α := match fs with | c :: r => (getL t c).bind fun a => k a r | [] => none
def pE {α : Type} (fs : List FC) (x : α) : Option α := match fs with | [] => some x | _ => none
def SAddr.dec (r : List FC) : Option SAddr := pS r fun a0 r => pS r fun a1 r => pE r ⟨a0, a1⟩
def SAttr.dec (r : List FC) : Option SAttr := pS r fun a0 r => pS r fun a1 r => pE r ⟨a0, a1⟩
def SToken.dec (r : List FC) : Option SToken := pI r fun a0 r => pS r fun a1 r => pL .attr r fun a2 r => pS r fun a3 r => pE r ⟨a0, a1, a2, a3⟩
def STokenizer.dec (r : List FC) : Option STokenizer := pS r fun a0 r => pE r ⟨a0⟩
def SNode.dec (r : List FC) : Option SNode := pS r fun a0 r => pS r fun a1 r => pI r fun a2 r => pL .attr r fun a3 r => pE r ⟨a0, a1, a2, a3⟩
def SBuilder.dec (r : List FC) : Option SBuilder := pL .node r fun a0 r => pL .int r fun a1 r => pE r ⟨a0, a1⟩
def SRule.dec (r : List FC) : Option SRule := pS r fun a0 r => pI r fun a1 r => pE r ⟨a0, a1⟩
def SSheet.dec (r : List FC) : Option SSheet := pL .rule r fun a0 r => pE r ⟨a0⟩
def SLine.dec (r : List FC) : Option SLine := pI r fun a0 r => pS r fun a1 r => pE r ⟨a0, a1⟩
def SPolicy.dec (r : List FC) : Option SPolicy := pB r fun a0 r => pL .str r fun a1 r => pL .str r fun a2 r => pL .str r fun a3 r => pS r fun a4 r => pE r ⟨a0, a1, a2, a3, a4⟩
def SResponse.dec (r : List FC) : Option SResponse := pI r fun a0 r => pI r fun a1 r => pS r fun a2 r => pI r fun a3 r => pB r fun a4 r => pS r fun a5 r => pE r ⟨a0, a1, a2, a3, a4, a5⟩
def SRequest.dec (r : List FC) : Option SRequest := pI r fun a0 r => pS r fun a1 r => pS r fun a2 r => pS r fun a3 r => pS r fun a4 r => pE r ⟨a0, ⟨a1, a2⟩, a3, a4⟩
def SFile.dec (r : List FC) : Option SFile := pS r fun a0 r => pI r fun a1 r => pI r fun a2 r => pS r fun a3 r => pI r fun a4 r => pB r fun a5 r => pS r fun a6 r => pE r ⟨a0, ⟨a1, a2, a3, a4, a5, a6⟩⟩
def SServer.dec (r : List FC) : Option SServer := pS r fun a0 r => pL .file r fun a1 r => pE r ⟨a0, a1⟩
def SEntry.dec (r : List FC) : Option SEntry := pS r fun a0 r => pS r fun a1 r => pS r fun a2 r => pI r fun a3 r => pI r fun a4 r => pS r fun a5 r => pI r fun a6 r => pB r fun a7 r => pS r fun a8 r => pI r fun a9 r => pE r ⟨a0, ⟨a1, a2⟩, ⟨a3, a4, a5, a6, a7, a8⟩, a9⟩
def SCache.dec (r : List FC) : Option SCache := pL .entry r fun a0 r => pE r ⟨a0⟩
def SSent.dec (r : List FC) : Option SSent := pS r fun a0 r => pS r fun a1 r => pS r fun a2 r => pB r fun a3 r => pE r ⟨a0, ⟨a1, a2⟩, a3⟩
def SNet.dec (r : List FC) : Option SNet := pL .server r fun a0 r => pL .entry r fun a1 r => pL .sent r fun a2 r => pI r fun a3 r => pE r ⟨a0, ⟨a1⟩, a2, a3⟩
def SSlot.dec (r : List FC) : Option SSlot := pI r fun a0 r => pS r fun a1 r => pS r fun a2 r => pS r fun a3 r => pI r fun a4 r => pB r fun a5 r => pI r fun a6 r => pS r fun a7 r => pE r ⟨a0, ⟨a1, a2⟩, a3, a4, a5, a6, a7⟩
def SModule.dec (r : List FC) : Option SModule := pS r fun a0 r => pS r fun a1 r => pB r fun a2 r => pI r fun a3 r => pS r fun a4 r => pE r ⟨⟨a0, a1⟩, a2, a3, a4⟩
def SPage.dec (r : List FC) : Option SPage := pS r fun a0 r => pS r fun a1 r => pB r fun a2 r => pL .str r fun a3 r => pL .str r fun a4 r => pL .str r fun a5 r => pS r fun a6 r => pS r fun a7 r => pL .token r fun a8 r => pB r fun a9 r => pL .node r fun a10 r => pL .int r fun a11 r => pL .slot r fun a12 r => pL .module r fun a13 r => pL .addr r fun a14 r => pI r fun a15 r => pI r fun a16 r => pI r fun a17 r => pI r fun a18 r => pL .addr r fun a19 r => pL .str r fun a20 r => pB r fun a21 r => pE r ⟨⟨a0, a1⟩, ⟨a2, a3, a4, a5, a6⟩, ⟨a7⟩, a8, a9, ⟨a10, a11⟩, a12, a13, a14, a15, a16, a17, a18, a19, a20, a21⟩
def SResult.dec (r : List FC) : Option SResult := pL .node r fun a0 r => pL .int r fun a1 r => pL .str r fun a2 r => pL .str r fun a3 r => pL .rule r fun a4 r => pB r fun a5 r => pE r ⟨⟨a0, a1⟩, a2, a3, ⟨a4⟩, a5⟩
def SGuess.dec (r : List FC) : Option SGuess := pS r fun a0 r => pS r fun a1 r => pI r fun a2 r => pI r fun a3 r => pS r fun a4 r => pI r fun a5 r => pB r fun a6 r => pS r fun a7 r => pB r fun a8 r => pE r ⟨⟨a0, a1⟩, ⟨a2, a3, a4, a5, a6, a7⟩, a8⟩
def SConn.dec (r : List FC) : Option SConn := pS r fun a0 r => pS r fun a1 r => pI r fun a2 r => pB r fun a3 r => pI r fun a4 r => pI r fun a5 r => pS r fun a6 r => pI r fun a7 r => pB r fun a8 r => pS r fun a9 r => pE r ⟨⟨a0, a1⟩, a2, a3, ⟨a4, a5, a6, a7, a8, a9⟩⟩
def SLoader.dec (r : List FC) : Option SLoader := pL .server r fun a0 r => pL .entry r fun a1 r => pL .sent r fun a2 r => pI r fun a3 r => pS r fun a4 r => pS r fun a5 r => pB r fun a6 r => pL .str r fun a7 r => pL .str r fun a8 r => pL .str r fun a9 r => pS r fun a10 r => pS r fun a11 r => pL .token r fun a12 r => pB r fun a13 r => pL .node r fun a14 r => pL .int r fun a15 r => pL .slot r fun a16 r => pL .module r fun a17 r => pL .addr r fun a18 r => pI r fun a19 r => pI r fun a20 r => pI r fun a21 r => pI r fun a22 r => pL .addr r fun a23 r => pL .str r fun a24 r => pB r fun a25 r => pL .str r fun a26 r => pL .conn r fun a27 r => pL .guess r fun a28 r => pE r ⟨⟨a0, ⟨a1⟩, a2, a3⟩, ⟨⟨a4, a5⟩, ⟨a6, a7, a8, a9, a10⟩, ⟨a11⟩, a12, a13, ⟨a14, a15⟩, a16, a17, a18, a19, a20, a21, a22, a23, a24, a25⟩, a26, a27, a28⟩
def SVisit.dec (r : List FC) : Option SVisit := pS r fun a0 r => pS r fun a1 r => pS r fun a2 r => pS r fun a3 r => pB r fun a4 r => pL .str r fun a5 r => pL .str r fun a6 r => pL .str r fun a7 r => pS r fun a8 r => pS r fun a9 r => pL .token r fun a10 r => pB r fun a11 r => pL .node r fun a12 r => pL .int r fun a13 r => pL .slot r fun a14 r => pL .module r fun a15 r => pL .addr r fun a16 r => pI r fun a17 r => pI r fun a18 r => pI r fun a19 r => pI r fun a20 r => pL .addr r fun a21 r => pL .str r fun a22 r => pB r fun a23 r => pB r fun a24 r => pE r ⟨⟨a0, a1⟩, ⟨⟨a2, a3⟩, ⟨a4, a5, a6, a7, a8⟩, ⟨a9⟩, a10, a11, ⟨a12, a13⟩, a14, a15, a16, a17, a18, a19, a20, a21, a22, a23⟩, a24⟩
def STab.dec (r : List FC) : Option STab := pL .visit r fun a0 r => pI r fun a1 r => pE r ⟨a0, a1⟩
def SKept.dec (r : List FC) : Option SKept := pS r fun a0 r => pS r fun a1 r => pI r fun a2 r => pI r fun a3 r => pS r fun a4 r => pI r fun a5 r => pB r fun a6 r => pS r fun a7 r => pE r ⟨⟨a0, a1⟩, ⟨a2, a3, a4, a5, a6, a7⟩⟩
def SHidden.dec (r : List FC) : Option SHidden := pB r fun a0 r => pS r fun a1 r => pS r fun a2 r => pB r fun a3 r => pL .str r fun a4 r => pL .str r fun a5 r => pL .str r fun a6 r => pS r fun a7 r => pS r fun a8 r => pL .token r fun a9 r => pB r fun a10 r => pL .node r fun a11 r => pL .int r fun a12 r => pL .slot r fun a13 r => pL .module r fun a14 r => pL .addr r fun a15 r => pI r fun a16 r => pI r fun a17 r => pI r fun a18 r => pI r fun a19 r => pL .addr r fun a20 r => pL .str r fun a21 r => pB r fun a22 r => pL .kept r fun a23 r => pL .server r fun a24 r => pI r fun a25 r => pE r ⟨a0, ⟨⟨a1, a2⟩, ⟨a3, a4, a5, a6, a7⟩, ⟨a8⟩, a9, a10, ⟨a11, a12⟩, a13, a14, a15, a16, a17, a18, a19, a20, a21, a22⟩, a23, a24, a25⟩
def SWorld.dec (r : List FC) : Option SWorld := pL .server r fun a0 r => pL .entry r fun a1 r => pL .sent r fun a2 r => pI r fun a3 r => pL .visit r fun a4 r => pI r fun a5 r => pB r fun a6 r => pS r fun a7 r => pS r fun a8 r => pB r fun a9 r => pL .str r fun a10 r => pL .str r fun a11 r => pL .str r fun a12 r => pS r fun a13 r => pS r fun a14 r => pL .token r fun a15 r => pB r fun a16 r => pL .node r fun a17 r => pL .int r fun a18 r => pL .slot r fun a19 r => pL .module r fun a20 r => pL .addr r fun a21 r => pI r fun a22 r => pI r fun a23 r => pI r fun a24 r => pI r fun a25 r => pL .addr r fun a26 r => pL .str r fun a27 r => pB r fun a28 r => pL .kept r fun a29 r => pL .server r fun a30 r => pI r fun a31 r => pB r fun a32 r => pE r ⟨⟨a0, ⟨a1⟩, a2, a3⟩, ⟨a4, a5⟩, ⟨a6, ⟨⟨a7, a8⟩, ⟨a9, a10, a11, a12, a13⟩, ⟨a14⟩, a15, a16, ⟨a17, a18⟩, a19, a20, a21, a22, a23, a24, a25, a26, a27, a28⟩, a29, a30, a31⟩, a32⟩
def SEvent.dec (r : List FC) : Option SEvent := pI r fun a0 r => pS r fun a1 r => pS r fun a2 r => pI r fun a3 r => pI r fun a4 r => pE r ⟨a0, ⟨a1, a2⟩, a3, a4⟩
def dec : (t : Ty) → List FC → Option (El t)
  | .int, r => pI r fun a r => pE r a
  | .str, r => pS r fun a r => pE r a
  | .bool, r => pB r fun a r => pE r a
  | .u8, r => pU r fun a r => pE r a
  | .addr, r => SAddr.dec r
  | .attr, r => SAttr.dec r
  | .token, r => SToken.dec r
  | .tokenizer, r => STokenizer.dec r
  | .node, r => SNode.dec r
  | .builder, r => SBuilder.dec r
  | .rule, r => SRule.dec r
  | .sheet, r => SSheet.dec r
  | .line, r => SLine.dec r
  | .policy, r => SPolicy.dec r
  | .response, r => SResponse.dec r
  | .request, r => SRequest.dec r
  | .file, r => SFile.dec r
  | .server, r => SServer.dec r
  | .entry, r => SEntry.dec r
  | .cache, r => SCache.dec r
  | .sent, r => SSent.dec r
  | .net, r => SNet.dec r
  | .slot, r => SSlot.dec r
  | .module, r => SModule.dec r
  | .page, r => SPage.dec r
  | .result, r => SResult.dec r
  | .guess, r => SGuess.dec r
  | .conn, r => SConn.dec r
  | .loader, r => SLoader.dec r
  | .visit, r => SVisit.dec r
  | .tab, r => STab.dec r
  | .kept, r => SKept.dec r
  | .hidden, r => SHidden.dec r
  | .world, r => SWorld.dec r
  | .event, r => SEvent.dec r
/-- the second cell content says no more -/
def fcLe (c d : FC) : Prop := d = c ∨ (c = .nl ∧ ∃ t, d = .l t [])
inductive FcsLe : List FC → List FC → Prop where
  | nil : FcsLe [] []
  | cons {c d : FC} {cs ds : List FC} : fcLe c d → FcsLe cs ds → FcsLe (c :: cs) (d :: ds)
theorem getI_ok {c : FC} {n : Int} (h : getI c = some n) : fcLe c (.val (.int .i64 n)) := by
  unfold getI at h; split at h <;> simp_all [fcLe]
theorem getU_ok {c : FC} {n : Int} (h : getU c = some n) : fcLe c (.val (.int .u8 n)) := by
  unfold getU at h; split at h <;> simp_all [fcLe]
theorem getS_ok {c : FC} {n : ByteArray} (h : getS c = some n) : fcLe c (.val (.string n)) := by
  unfold getS at h; split at h <;> simp_all [fcLe]
theorem getB_ok {c : FC} {n : Bool} (h : getB c = some n) : fcLe c (.val (.bool n)) := by
  unfold getB at h; split at h <;> simp_all [fcLe]
theorem getL_ok {t : Ty} {c : FC} {xs : List (El t)} (h : getL t c = some xs) : fcLe c (.l t xs) := by
  unfold getL at h
  split at h
  · simp only [Option.some.injEq] at h; subst h; exact .inr ⟨rfl, t, rfl⟩
  · split at h
    · rename_i e; subst e; simp only [Option.some.injEq] at h; subst h; exact .inl rfl
    · simp at h
  · simp at h
theorem bind_some {α β : Type} {o : Option α} {f : α → Option β} {b : β} (h : o.bind f = some b) : ∃ a, o = some a ∧ f a = some b := Option.bind_eq_some_iff.1 h
theorem pE_ok {α : Type} {fs : List FC} {x y : α} (h : pE fs x = some y) : fs = [] ∧ y = x := by
  unfold pE at h; split at h <;> simp_all
theorem pI_ok {α : Type} {fs : List FC} {k : Int → List FC → Option α} {x : α} (h : pI fs k = some x) : ∃ c r a, fs = c :: r ∧ fcLe c (.val (.int .i64 a)) ∧ k a r = some x := by
  unfold pI at h
  split at h
  · rename_i c r
    obtain ⟨a, h0, h⟩ := bind_some h
    exact ⟨c, r, a, rfl, getI_ok h0, h⟩
  · simp at h
theorem pU_ok {α : Type} {fs : List FC} {k : Int → List FC → Option α} {x : α} (h : pU fs k = some x) : ∃ c r a, fs = c :: r ∧ fcLe c (.val (.int .u8 a)) ∧ k a r = some x := by
  unfold pU at h
  split at h
  · rename_i c r
    obtain ⟨a, h0, h⟩ := bind_some h
    exact ⟨c, r, a, rfl, getU_ok h0, h⟩
  · simp at h
theorem pS_ok {α : Type} {fs : List FC} {k : ByteArray → List FC → Option α} {x : α} (h : pS fs k = some x) : ∃ c r a, fs = c :: r ∧ fcLe c (.val (.string a)) ∧ k a r = some x := by
  unfold pS at h
  split at h
  · rename_i c r
    obtain ⟨a, h0, h⟩ := bind_some h
    exact ⟨c, r, a, rfl, getS_ok h0, h⟩
  · simp at h
theorem pB_ok {α : Type} {fs : List FC} {k : Bool → List FC → Option α} {x : α} (h : pB fs k = some x) : ∃ c r a, fs = c :: r ∧ fcLe c (.val (.bool a)) ∧ k a r = some x := by
  unfold pB at h
  split at h
  · rename_i c r
    obtain ⟨a, h0, h⟩ := bind_some h
    exact ⟨c, r, a, rfl, getB_ok h0, h⟩
  · simp at h
theorem pL_ok {α : Type} {t : Ty} {fs : List FC} {k : List (El t) → List FC → Option α} {x : α} (h : pL t fs k = some x) : ∃ c r a, fs = c :: r ∧ fcLe c (.l t a) ∧ k a r = some x := by
  unfold pL at h
  split at h
  · rename_i c r
    obtain ⟨a, h0, h⟩ := bind_some h
    exact ⟨c, r, a, rfl, getL_ok h0, h⟩
  · simp at h
theorem dec_int {fs : List FC} {x : El .int} (h : dec .int fs = some x) : FcsLe fs (enc .int x) := by
  unfold dec at h
  obtain ⟨c0, r0, a0, rfl, h0, h⟩ := pI_ok h
  obtain ⟨rfl, rfl⟩ := pE_ok h
  exact .cons h0 (.nil)
theorem dec_str {fs : List FC} {x : El .str} (h : dec .str fs = some x) : FcsLe fs (enc .str x) := by
  unfold dec at h
  obtain ⟨c0, r0, a0, rfl, h0, h⟩ := pS_ok h
  obtain ⟨rfl, rfl⟩ := pE_ok h
  exact .cons h0 (.nil)
theorem dec_bool {fs : List FC} {x : El .bool} (h : dec .bool fs = some x) : FcsLe fs (enc .bool x) := by
  unfold dec at h
  obtain ⟨c0, r0, a0, rfl, h0, h⟩ := pB_ok h
  obtain ⟨rfl, rfl⟩ := pE_ok h
  exact .cons h0 (.nil)
theorem dec_u8 {fs : List FC} {x : El .u8} (h : dec .u8 fs = some x) : FcsLe fs (enc .u8 x) := by
  unfold dec at h
  obtain ⟨c0, r0, a0, rfl, h0, h⟩ := pU_ok h
  obtain ⟨rfl, rfl⟩ := pE_ok h
  exact .cons h0 (.nil)
theorem dec_addr {fs : List FC} {x : El .addr} (h : dec .addr fs = some x) : FcsLe fs (enc .addr x) := by
  unfold dec SAddr.dec at h
  obtain ⟨c0, r0, a0, rfl, h0, h⟩ := pS_ok h
  obtain ⟨c1, r1, a1, rfl, h1, h⟩ := pS_ok h
  obtain ⟨rfl, rfl⟩ := pE_ok h
  exact .cons h0 (.cons h1 (.nil))
theorem dec_attr {fs : List FC} {x : El .attr} (h : dec .attr fs = some x) : FcsLe fs (enc .attr x) := by
  unfold dec SAttr.dec at h
  obtain ⟨c0, r0, a0, rfl, h0, h⟩ := pS_ok h
  obtain ⟨c1, r1, a1, rfl, h1, h⟩ := pS_ok h
  obtain ⟨rfl, rfl⟩ := pE_ok h
  exact .cons h0 (.cons h1 (.nil))
theorem dec_token {fs : List FC} {x : El .token} (h : dec .token fs = some x) : FcsLe fs (enc .token x) := by
  unfold dec SToken.dec at h
  obtain ⟨c0, r0, a0, rfl, h0, h⟩ := pI_ok h
  obtain ⟨c1, r1, a1, rfl, h1, h⟩ := pS_ok h
  obtain ⟨c2, r2, a2, rfl, h2, h⟩ := pL_ok h
  obtain ⟨c3, r3, a3, rfl, h3, h⟩ := pS_ok h
  obtain ⟨rfl, rfl⟩ := pE_ok h
  exact .cons h0 (.cons h1 (.cons h2 (.cons h3 (.nil))))
theorem dec_tokenizer {fs : List FC} {x : El .tokenizer} (h : dec .tokenizer fs = some x) : FcsLe fs (enc .tokenizer x) := by
  unfold dec STokenizer.dec at h
  obtain ⟨c0, r0, a0, rfl, h0, h⟩ := pS_ok h
  obtain ⟨rfl, rfl⟩ := pE_ok h
  exact .cons h0 (.nil)
theorem dec_node {fs : List FC} {x : El .node} (h : dec .node fs = some x) : FcsLe fs (enc .node x) := by
  unfold dec SNode.dec at h
  obtain ⟨c0, r0, a0, rfl, h0, h⟩ := pS_ok h
  obtain ⟨c1, r1, a1, rfl, h1, h⟩ := pS_ok h
  obtain ⟨c2, r2, a2, rfl, h2, h⟩ := pI_ok h
  obtain ⟨c3, r3, a3, rfl, h3, h⟩ := pL_ok h
  obtain ⟨rfl, rfl⟩ := pE_ok h
  exact .cons h0 (.cons h1 (.cons h2 (.cons h3 (.nil))))
theorem dec_builder {fs : List FC} {x : El .builder} (h : dec .builder fs = some x) : FcsLe fs (enc .builder x) := by
  unfold dec SBuilder.dec at h
  obtain ⟨c0, r0, a0, rfl, h0, h⟩ := pL_ok h
  obtain ⟨c1, r1, a1, rfl, h1, h⟩ := pL_ok h
  obtain ⟨rfl, rfl⟩ := pE_ok h
  exact .cons h0 (.cons h1 (.nil))
theorem dec_rule {fs : List FC} {x : El .rule} (h : dec .rule fs = some x) : FcsLe fs (enc .rule x) := by
  unfold dec SRule.dec at h
  obtain ⟨c0, r0, a0, rfl, h0, h⟩ := pS_ok h
  obtain ⟨c1, r1, a1, rfl, h1, h⟩ := pI_ok h
  obtain ⟨rfl, rfl⟩ := pE_ok h
  exact .cons h0 (.cons h1 (.nil))
theorem dec_sheet {fs : List FC} {x : El .sheet} (h : dec .sheet fs = some x) : FcsLe fs (enc .sheet x) := by
  unfold dec SSheet.dec at h
  obtain ⟨c0, r0, a0, rfl, h0, h⟩ := pL_ok h
  obtain ⟨rfl, rfl⟩ := pE_ok h
  exact .cons h0 (.nil)
theorem dec_line {fs : List FC} {x : El .line} (h : dec .line fs = some x) : FcsLe fs (enc .line x) := by
  unfold dec SLine.dec at h
  obtain ⟨c0, r0, a0, rfl, h0, h⟩ := pI_ok h
  obtain ⟨c1, r1, a1, rfl, h1, h⟩ := pS_ok h
  obtain ⟨rfl, rfl⟩ := pE_ok h
  exact .cons h0 (.cons h1 (.nil))
theorem dec_policy {fs : List FC} {x : El .policy} (h : dec .policy fs = some x) : FcsLe fs (enc .policy x) := by
  unfold dec SPolicy.dec at h
  obtain ⟨c0, r0, a0, rfl, h0, h⟩ := pB_ok h
  obtain ⟨c1, r1, a1, rfl, h1, h⟩ := pL_ok h
  obtain ⟨c2, r2, a2, rfl, h2, h⟩ := pL_ok h
  obtain ⟨c3, r3, a3, rfl, h3, h⟩ := pL_ok h
  obtain ⟨c4, r4, a4, rfl, h4, h⟩ := pS_ok h
  obtain ⟨rfl, rfl⟩ := pE_ok h
  exact .cons h0 (.cons h1 (.cons h2 (.cons h3 (.cons h4 (.nil)))))
theorem dec_response {fs : List FC} {x : El .response} (h : dec .response fs = some x) : FcsLe fs (enc .response x) := by
  unfold dec SResponse.dec at h
  obtain ⟨c0, r0, a0, rfl, h0, h⟩ := pI_ok h
  obtain ⟨c1, r1, a1, rfl, h1, h⟩ := pI_ok h
  obtain ⟨c2, r2, a2, rfl, h2, h⟩ := pS_ok h
  obtain ⟨c3, r3, a3, rfl, h3, h⟩ := pI_ok h
  obtain ⟨c4, r4, a4, rfl, h4, h⟩ := pB_ok h
  obtain ⟨c5, r5, a5, rfl, h5, h⟩ := pS_ok h
  obtain ⟨rfl, rfl⟩ := pE_ok h
  exact .cons h0 (.cons h1 (.cons h2 (.cons h3 (.cons h4 (.cons h5 (.nil))))))
theorem dec_request {fs : List FC} {x : El .request} (h : dec .request fs = some x) : FcsLe fs (enc .request x) := by
  unfold dec SRequest.dec at h
  obtain ⟨c0, r0, a0, rfl, h0, h⟩ := pI_ok h
  obtain ⟨c1, r1, a1, rfl, h1, h⟩ := pS_ok h
  obtain ⟨c2, r2, a2, rfl, h2, h⟩ := pS_ok h
  obtain ⟨c3, r3, a3, rfl, h3, h⟩ := pS_ok h
  obtain ⟨c4, r4, a4, rfl, h4, h⟩ := pS_ok h
  obtain ⟨rfl, rfl⟩ := pE_ok h
  exact .cons h0 (.cons h1 (.cons h2 (.cons h3 (.cons h4 (.nil)))))
theorem dec_file {fs : List FC} {x : El .file} (h : dec .file fs = some x) : FcsLe fs (enc .file x) := by
  unfold dec SFile.dec at h
  obtain ⟨c0, r0, a0, rfl, h0, h⟩ := pS_ok h
  obtain ⟨c1, r1, a1, rfl, h1, h⟩ := pI_ok h
  obtain ⟨c2, r2, a2, rfl, h2, h⟩ := pI_ok h
  obtain ⟨c3, r3, a3, rfl, h3, h⟩ := pS_ok h
  obtain ⟨c4, r4, a4, rfl, h4, h⟩ := pI_ok h
  obtain ⟨c5, r5, a5, rfl, h5, h⟩ := pB_ok h
  obtain ⟨c6, r6, a6, rfl, h6, h⟩ := pS_ok h
  obtain ⟨rfl, rfl⟩ := pE_ok h
  exact .cons h0 (.cons h1 (.cons h2 (.cons h3 (.cons h4 (.cons h5 (.cons h6 (.nil)))))))
theorem dec_server {fs : List FC} {x : El .server} (h : dec .server fs = some x) : FcsLe fs (enc .server x) := by
  unfold dec SServer.dec at h
  obtain ⟨c0, r0, a0, rfl, h0, h⟩ := pS_ok h
  obtain ⟨c1, r1, a1, rfl, h1, h⟩ := pL_ok h
  obtain ⟨rfl, rfl⟩ := pE_ok h
  exact .cons h0 (.cons h1 (.nil))
theorem dec_entry {fs : List FC} {x : El .entry} (h : dec .entry fs = some x) : FcsLe fs (enc .entry x) := by
  unfold dec SEntry.dec at h
  obtain ⟨c0, r0, a0, rfl, h0, h⟩ := pS_ok h
  obtain ⟨c1, r1, a1, rfl, h1, h⟩ := pS_ok h
  obtain ⟨c2, r2, a2, rfl, h2, h⟩ := pS_ok h
  obtain ⟨c3, r3, a3, rfl, h3, h⟩ := pI_ok h
  obtain ⟨c4, r4, a4, rfl, h4, h⟩ := pI_ok h
  obtain ⟨c5, r5, a5, rfl, h5, h⟩ := pS_ok h
  obtain ⟨c6, r6, a6, rfl, h6, h⟩ := pI_ok h
  obtain ⟨c7, r7, a7, rfl, h7, h⟩ := pB_ok h
  obtain ⟨c8, r8, a8, rfl, h8, h⟩ := pS_ok h
  obtain ⟨c9, r9, a9, rfl, h9, h⟩ := pI_ok h
  obtain ⟨rfl, rfl⟩ := pE_ok h
  exact .cons h0 (.cons h1 (.cons h2 (.cons h3 (.cons h4 (.cons h5 (.cons h6 (.cons h7 (.cons h8 (.cons h9 (.nil))))))))))
theorem dec_cache {fs : List FC} {x : El .cache} (h : dec .cache fs = some x) : FcsLe fs (enc .cache x) := by
  unfold dec SCache.dec at h
  obtain ⟨c0, r0, a0, rfl, h0, h⟩ := pL_ok h
  obtain ⟨rfl, rfl⟩ := pE_ok h
  exact .cons h0 (.nil)
theorem dec_sent {fs : List FC} {x : El .sent} (h : dec .sent fs = some x) : FcsLe fs (enc .sent x) := by
  unfold dec SSent.dec at h
  obtain ⟨c0, r0, a0, rfl, h0, h⟩ := pS_ok h
  obtain ⟨c1, r1, a1, rfl, h1, h⟩ := pS_ok h
  obtain ⟨c2, r2, a2, rfl, h2, h⟩ := pS_ok h
  obtain ⟨c3, r3, a3, rfl, h3, h⟩ := pB_ok h
  obtain ⟨rfl, rfl⟩ := pE_ok h
  exact .cons h0 (.cons h1 (.cons h2 (.cons h3 (.nil))))
theorem dec_net {fs : List FC} {x : El .net} (h : dec .net fs = some x) : FcsLe fs (enc .net x) := by
  unfold dec SNet.dec at h
  obtain ⟨c0, r0, a0, rfl, h0, h⟩ := pL_ok h
  obtain ⟨c1, r1, a1, rfl, h1, h⟩ := pL_ok h
  obtain ⟨c2, r2, a2, rfl, h2, h⟩ := pL_ok h
  obtain ⟨c3, r3, a3, rfl, h3, h⟩ := pI_ok h
  obtain ⟨rfl, rfl⟩ := pE_ok h
  exact .cons h0 (.cons h1 (.cons h2 (.cons h3 (.nil))))
theorem dec_slot {fs : List FC} {x : El .slot} (h : dec .slot fs = some x) : FcsLe fs (enc .slot x) := by
  unfold dec SSlot.dec at h
  obtain ⟨c0, r0, a0, rfl, h0, h⟩ := pI_ok h
  obtain ⟨c1, r1, a1, rfl, h1, h⟩ := pS_ok h
  obtain ⟨c2, r2, a2, rfl, h2, h⟩ := pS_ok h
  obtain ⟨c3, r3, a3, rfl, h3, h⟩ := pS_ok h
  obtain ⟨c4, r4, a4, rfl, h4, h⟩ := pI_ok h
  obtain ⟨c5, r5, a5, rfl, h5, h⟩ := pB_ok h
  obtain ⟨c6, r6, a6, rfl, h6, h⟩ := pI_ok h
  obtain ⟨c7, r7, a7, rfl, h7, h⟩ := pS_ok h
  obtain ⟨rfl, rfl⟩ := pE_ok h
  exact .cons h0 (.cons h1 (.cons h2 (.cons h3 (.cons h4 (.cons h5 (.cons h6 (.cons h7 (.nil))))))))
theorem dec_module {fs : List FC} {x : El .module} (h : dec .module fs = some x) : FcsLe fs (enc .module x) := by
  unfold dec SModule.dec at h
  obtain ⟨c0, r0, a0, rfl, h0, h⟩ := pS_ok h
  obtain ⟨c1, r1, a1, rfl, h1, h⟩ := pS_ok h
  obtain ⟨c2, r2, a2, rfl, h2, h⟩ := pB_ok h
  obtain ⟨c3, r3, a3, rfl, h3, h⟩ := pI_ok h
  obtain ⟨c4, r4, a4, rfl, h4, h⟩ := pS_ok h
  obtain ⟨rfl, rfl⟩ := pE_ok h
  exact .cons h0 (.cons h1 (.cons h2 (.cons h3 (.cons h4 (.nil)))))
theorem dec_page {fs : List FC} {x : El .page} (h : dec .page fs = some x) : FcsLe fs (enc .page x) := by
  unfold dec SPage.dec at h
  obtain ⟨c0, r0, a0, rfl, h0, h⟩ := pS_ok h
  obtain ⟨c1, r1, a1, rfl, h1, h⟩ := pS_ok h
  obtain ⟨c2, r2, a2, rfl, h2, h⟩ := pB_ok h
  obtain ⟨c3, r3, a3, rfl, h3, h⟩ := pL_ok h
  obtain ⟨c4, r4, a4, rfl, h4, h⟩ := pL_ok h
  obtain ⟨c5, r5, a5, rfl, h5, h⟩ := pL_ok h
  obtain ⟨c6, r6, a6, rfl, h6, h⟩ := pS_ok h
  obtain ⟨c7, r7, a7, rfl, h7, h⟩ := pS_ok h
  obtain ⟨c8, r8, a8, rfl, h8, h⟩ := pL_ok h
  obtain ⟨c9, r9, a9, rfl, h9, h⟩ := pB_ok h
  obtain ⟨c10, r10, a10, rfl, h10, h⟩ := pL_ok h
  obtain ⟨c11, r11, a11, rfl, h11, h⟩ := pL_ok h
  obtain ⟨c12, r12, a12, rfl, h12, h⟩ := pL_ok h
  obtain ⟨c13, r13, a13, rfl, h13, h⟩ := pL_ok h
  obtain ⟨c14, r14, a14, rfl, h14, h⟩ := pL_ok h
  obtain ⟨c15, r15, a15, rfl, h15, h⟩ := pI_ok h
  obtain ⟨c16, r16, a16, rfl, h16, h⟩ := pI_ok h
  obtain ⟨c17, r17, a17, rfl, h17, h⟩ := pI_ok h
  obtain ⟨c18, r18, a18, rfl, h18, h⟩ := pI_ok h
  obtain ⟨c19, r19, a19, rfl, h19, h⟩ := pL_ok h
  obtain ⟨c20, r20, a20, rfl, h20, h⟩ := pL_ok h
  obtain ⟨c21, r21, a21, rfl, h21, h⟩ := pB_ok h
  obtain ⟨rfl, rfl⟩ := pE_ok h
  exact .cons h0 (.cons h1 (.cons h2 (.cons h3 (.cons h4 (.cons h5 (.cons h6 (.cons h7 (.cons h8 (.cons h9 (.cons h10 (.cons h11 (.cons h12 (.cons h13 (.cons h14 (.cons h15 (.cons h16 (.cons h17 (.cons h18 (.cons h19 (.cons h20 (.cons h21 (.nil))))))))))))))))))))))
theorem dec_result {fs : List FC} {x : El .result} (h : dec .result fs = some x) : FcsLe fs (enc .result x) := by
  unfold dec SResult.dec at h
  obtain ⟨c0, r0, a0, rfl, h0, h⟩ := pL_ok h
  obtain ⟨c1, r1, a1, rfl, h1, h⟩ := pL_ok h
  obtain ⟨c2, r2, a2, rfl, h2, h⟩ := pL_ok h
  obtain ⟨c3, r3, a3, rfl, h3, h⟩ := pL_ok h
  obtain ⟨c4, r4, a4, rfl, h4, h⟩ := pL_ok h
  obtain ⟨c5, r5, a5, rfl, h5, h⟩ := pB_ok h
  obtain ⟨rfl, rfl⟩ := pE_ok h
  exact .cons h0 (.cons h1 (.cons h2 (.cons h3 (.cons h4 (.cons h5 (.nil))))))
theorem dec_guess {fs : List FC} {x : El .guess} (h : dec .guess fs = some x) : FcsLe fs (enc .guess x) := by
  unfold dec SGuess.dec at h
  obtain ⟨c0, r0, a0, rfl, h0, h⟩ := pS_ok h
  obtain ⟨c1, r1, a1, rfl, h1, h⟩ := pS_ok h
  obtain ⟨c2, r2, a2, rfl, h2, h⟩ := pI_ok h
  obtain ⟨c3, r3, a3, rfl, h3, h⟩ := pI_ok h
  obtain ⟨c4, r4, a4, rfl, h4, h⟩ := pS_ok h
  obtain ⟨c5, r5, a5, rfl, h5, h⟩ := pI_ok h
  obtain ⟨c6, r6, a6, rfl, h6, h⟩ := pB_ok h
  obtain ⟨c7, r7, a7, rfl, h7, h⟩ := pS_ok h
  obtain ⟨c8, r8, a8, rfl, h8, h⟩ := pB_ok h
  obtain ⟨rfl, rfl⟩ := pE_ok h
  exact .cons h0 (.cons h1 (.cons h2 (.cons h3 (.cons h4 (.cons h5 (.cons h6 (.cons h7 (.cons h8 (.nil)))))))))
theorem dec_conn {fs : List FC} {x : El .conn} (h : dec .conn fs = some x) : FcsLe fs (enc .conn x) := by
  unfold dec SConn.dec at h
  obtain ⟨c0, r0, a0, rfl, h0, h⟩ := pS_ok h
  obtain ⟨c1, r1, a1, rfl, h1, h⟩ := pS_ok h
  obtain ⟨c2, r2, a2, rfl, h2, h⟩ := pI_ok h
  obtain ⟨c3, r3, a3, rfl, h3, h⟩ := pB_ok h
  obtain ⟨c4, r4, a4, rfl, h4, h⟩ := pI_ok h
  obtain ⟨c5, r5, a5, rfl, h5, h⟩ := pI_ok h
  obtain ⟨c6, r6, a6, rfl, h6, h⟩ := pS_ok h
  obtain ⟨c7, r7, a7, rfl, h7, h⟩ := pI_ok h
  obtain ⟨c8, r8, a8, rfl, h8, h⟩ := pB_ok h
  obtain ⟨c9, r9, a9, rfl, h9, h⟩ := pS_ok h
  obtain ⟨rfl, rfl⟩ := pE_ok h
  exact .cons h0 (.cons h1 (.cons h2 (.cons h3 (.cons h4 (.cons h5 (.cons h6 (.cons h7 (.cons h8 (.cons h9 (.nil))))))))))
theorem dec_loader {fs : List FC} {x : El .loader} (h : dec .loader fs = some x) : FcsLe fs (enc .loader x) := by
  unfold dec SLoader.dec at h
  obtain ⟨c0, r0, a0, rfl, h0, h⟩ := pL_ok h
  obtain ⟨c1, r1, a1, rfl, h1, h⟩ := pL_ok h
  obtain ⟨c2, r2, a2, rfl, h2, h⟩ := pL_ok h
  obtain ⟨c3, r3, a3, rfl, h3, h⟩ := pI_ok h
  obtain ⟨c4, r4, a4, rfl, h4, h⟩ := pS_ok h
  obtain ⟨c5, r5, a5, rfl, h5, h⟩ := pS_ok h
  obtain ⟨c6, r6, a6, rfl, h6, h⟩ := pB_ok h
  obtain ⟨c7, r7, a7, rfl, h7, h⟩ := pL_ok h
  obtain ⟨c8, r8, a8, rfl, h8, h⟩ := pL_ok h
  obtain ⟨c9, r9, a9, rfl, h9, h⟩ := pL_ok h
  obtain ⟨c10, r10, a10, rfl, h10, h⟩ := pS_ok h
  obtain ⟨c11, r11, a11, rfl, h11, h⟩ := pS_ok h
  obtain ⟨c12, r12, a12, rfl, h12, h⟩ := pL_ok h
  obtain ⟨c13, r13, a13, rfl, h13, h⟩ := pB_ok h
  obtain ⟨c14, r14, a14, rfl, h14, h⟩ := pL_ok h
  obtain ⟨c15, r15, a15, rfl, h15, h⟩ := pL_ok h
  obtain ⟨c16, r16, a16, rfl, h16, h⟩ := pL_ok h
  obtain ⟨c17, r17, a17, rfl, h17, h⟩ := pL_ok h
  obtain ⟨c18, r18, a18, rfl, h18, h⟩ := pL_ok h
  obtain ⟨c19, r19, a19, rfl, h19, h⟩ := pI_ok h
  obtain ⟨c20, r20, a20, rfl, h20, h⟩ := pI_ok h
  obtain ⟨c21, r21, a21, rfl, h21, h⟩ := pI_ok h
  obtain ⟨c22, r22, a22, rfl, h22, h⟩ := pI_ok h
  obtain ⟨c23, r23, a23, rfl, h23, h⟩ := pL_ok h
  obtain ⟨c24, r24, a24, rfl, h24, h⟩ := pL_ok h
  obtain ⟨c25, r25, a25, rfl, h25, h⟩ := pB_ok h
  obtain ⟨c26, r26, a26, rfl, h26, h⟩ := pL_ok h
  obtain ⟨c27, r27, a27, rfl, h27, h⟩ := pL_ok h
  obtain ⟨c28, r28, a28, rfl, h28, h⟩ := pL_ok h
  obtain ⟨rfl, rfl⟩ := pE_ok h
  exact .cons h0 (.cons h1 (.cons h2 (.cons h3 (.cons h4 (.cons h5 (.cons h6 (.cons h7 (.cons h8 (.cons h9 (.cons h10 (.cons h11 (.cons h12 (.cons h13 (.cons h14 (.cons h15 (.cons h16 (.cons h17 (.cons h18 (.cons h19 (.cons h20 (.cons h21 (.cons h22 (.cons h23 (.cons h24 (.cons h25 (.cons h26 (.cons h27 (.cons h28 (.nil)))))))))))))))))))))))))))))
theorem dec_visit {fs : List FC} {x : El .visit} (h : dec .visit fs = some x) : FcsLe fs (enc .visit x) := by
  unfold dec SVisit.dec at h
  obtain ⟨c0, r0, a0, rfl, h0, h⟩ := pS_ok h
  obtain ⟨c1, r1, a1, rfl, h1, h⟩ := pS_ok h
  obtain ⟨c2, r2, a2, rfl, h2, h⟩ := pS_ok h
  obtain ⟨c3, r3, a3, rfl, h3, h⟩ := pS_ok h
  obtain ⟨c4, r4, a4, rfl, h4, h⟩ := pB_ok h
  obtain ⟨c5, r5, a5, rfl, h5, h⟩ := pL_ok h
  obtain ⟨c6, r6, a6, rfl, h6, h⟩ := pL_ok h
  obtain ⟨c7, r7, a7, rfl, h7, h⟩ := pL_ok h
  obtain ⟨c8, r8, a8, rfl, h8, h⟩ := pS_ok h
  obtain ⟨c9, r9, a9, rfl, h9, h⟩ := pS_ok h
  obtain ⟨c10, r10, a10, rfl, h10, h⟩ := pL_ok h
  obtain ⟨c11, r11, a11, rfl, h11, h⟩ := pB_ok h
  obtain ⟨c12, r12, a12, rfl, h12, h⟩ := pL_ok h
  obtain ⟨c13, r13, a13, rfl, h13, h⟩ := pL_ok h
  obtain ⟨c14, r14, a14, rfl, h14, h⟩ := pL_ok h
  obtain ⟨c15, r15, a15, rfl, h15, h⟩ := pL_ok h
  obtain ⟨c16, r16, a16, rfl, h16, h⟩ := pL_ok h
  obtain ⟨c17, r17, a17, rfl, h17, h⟩ := pI_ok h
  obtain ⟨c18, r18, a18, rfl, h18, h⟩ := pI_ok h
  obtain ⟨c19, r19, a19, rfl, h19, h⟩ := pI_ok h
  obtain ⟨c20, r20, a20, rfl, h20, h⟩ := pI_ok h
  obtain ⟨c21, r21, a21, rfl, h21, h⟩ := pL_ok h
  obtain ⟨c22, r22, a22, rfl, h22, h⟩ := pL_ok h
  obtain ⟨c23, r23, a23, rfl, h23, h⟩ := pB_ok h
  obtain ⟨c24, r24, a24, rfl, h24, h⟩ := pB_ok h
  obtain ⟨rfl, rfl⟩ := pE_ok h
  exact .cons h0 (.cons h1 (.cons h2 (.cons h3 (.cons h4 (.cons h5 (.cons h6 (.cons h7 (.cons h8 (.cons h9 (.cons h10 (.cons h11 (.cons h12 (.cons h13 (.cons h14 (.cons h15 (.cons h16 (.cons h17 (.cons h18 (.cons h19 (.cons h20 (.cons h21 (.cons h22 (.cons h23 (.cons h24 (.nil)))))))))))))))))))))))))
theorem dec_tab {fs : List FC} {x : El .tab} (h : dec .tab fs = some x) : FcsLe fs (enc .tab x) := by
  unfold dec STab.dec at h
  obtain ⟨c0, r0, a0, rfl, h0, h⟩ := pL_ok h
  obtain ⟨c1, r1, a1, rfl, h1, h⟩ := pI_ok h
  obtain ⟨rfl, rfl⟩ := pE_ok h
  exact .cons h0 (.cons h1 (.nil))
theorem dec_kept {fs : List FC} {x : El .kept} (h : dec .kept fs = some x) : FcsLe fs (enc .kept x) := by
  unfold dec SKept.dec at h
  obtain ⟨c0, r0, a0, rfl, h0, h⟩ := pS_ok h
  obtain ⟨c1, r1, a1, rfl, h1, h⟩ := pS_ok h
  obtain ⟨c2, r2, a2, rfl, h2, h⟩ := pI_ok h
  obtain ⟨c3, r3, a3, rfl, h3, h⟩ := pI_ok h
  obtain ⟨c4, r4, a4, rfl, h4, h⟩ := pS_ok h
  obtain ⟨c5, r5, a5, rfl, h5, h⟩ := pI_ok h
  obtain ⟨c6, r6, a6, rfl, h6, h⟩ := pB_ok h
  obtain ⟨c7, r7, a7, rfl, h7, h⟩ := pS_ok h
  obtain ⟨rfl, rfl⟩ := pE_ok h
  exact .cons h0 (.cons h1 (.cons h2 (.cons h3 (.cons h4 (.cons h5 (.cons h6 (.cons h7 (.nil))))))))
theorem dec_hidden {fs : List FC} {x : El .hidden} (h : dec .hidden fs = some x) : FcsLe fs (enc .hidden x) := by
  unfold dec SHidden.dec at h
  obtain ⟨c0, r0, a0, rfl, h0, h⟩ := pB_ok h
  obtain ⟨c1, r1, a1, rfl, h1, h⟩ := pS_ok h
  obtain ⟨c2, r2, a2, rfl, h2, h⟩ := pS_ok h
  obtain ⟨c3, r3, a3, rfl, h3, h⟩ := pB_ok h
  obtain ⟨c4, r4, a4, rfl, h4, h⟩ := pL_ok h
  obtain ⟨c5, r5, a5, rfl, h5, h⟩ := pL_ok h
  obtain ⟨c6, r6, a6, rfl, h6, h⟩ := pL_ok h
  obtain ⟨c7, r7, a7, rfl, h7, h⟩ := pS_ok h
  obtain ⟨c8, r8, a8, rfl, h8, h⟩ := pS_ok h
  obtain ⟨c9, r9, a9, rfl, h9, h⟩ := pL_ok h
  obtain ⟨c10, r10, a10, rfl, h10, h⟩ := pB_ok h
  obtain ⟨c11, r11, a11, rfl, h11, h⟩ := pL_ok h
  obtain ⟨c12, r12, a12, rfl, h12, h⟩ := pL_ok h
  obtain ⟨c13, r13, a13, rfl, h13, h⟩ := pL_ok h
  obtain ⟨c14, r14, a14, rfl, h14, h⟩ := pL_ok h
  obtain ⟨c15, r15, a15, rfl, h15, h⟩ := pL_ok h
  obtain ⟨c16, r16, a16, rfl, h16, h⟩ := pI_ok h
  obtain ⟨c17, r17, a17, rfl, h17, h⟩ := pI_ok h
  obtain ⟨c18, r18, a18, rfl, h18, h⟩ := pI_ok h
  obtain ⟨c19, r19, a19, rfl, h19, h⟩ := pI_ok h
  obtain ⟨c20, r20, a20, rfl, h20, h⟩ := pL_ok h
  obtain ⟨c21, r21, a21, rfl, h21, h⟩ := pL_ok h
  obtain ⟨c22, r22, a22, rfl, h22, h⟩ := pB_ok h
  obtain ⟨c23, r23, a23, rfl, h23, h⟩ := pL_ok h
  obtain ⟨c24, r24, a24, rfl, h24, h⟩ := pL_ok h
  obtain ⟨c25, r25, a25, rfl, h25, h⟩ := pI_ok h
  obtain ⟨rfl, rfl⟩ := pE_ok h
  exact .cons h0 (.cons h1 (.cons h2 (.cons h3 (.cons h4 (.cons h5 (.cons h6 (.cons h7 (.cons h8 (.cons h9 (.cons h10 (.cons h11 (.cons h12 (.cons h13 (.cons h14 (.cons h15 (.cons h16 (.cons h17 (.cons h18 (.cons h19 (.cons h20 (.cons h21 (.cons h22 (.cons h23 (.cons h24 (.cons h25 (.nil))))))))))))))))))))))))))
theorem dec_world {fs : List FC} {x : El .world} (h : dec .world fs = some x) : FcsLe fs (enc .world x) := by
  unfold dec SWorld.dec at h
  obtain ⟨c0, r0, a0, rfl, h0, h⟩ := pL_ok h
  obtain ⟨c1, r1, a1, rfl, h1, h⟩ := pL_ok h
  obtain ⟨c2, r2, a2, rfl, h2, h⟩ := pL_ok h
  obtain ⟨c3, r3, a3, rfl, h3, h⟩ := pI_ok h
  obtain ⟨c4, r4, a4, rfl, h4, h⟩ := pL_ok h
  obtain ⟨c5, r5, a5, rfl, h5, h⟩ := pI_ok h
  obtain ⟨c6, r6, a6, rfl, h6, h⟩ := pB_ok h
  obtain ⟨c7, r7, a7, rfl, h7, h⟩ := pS_ok h
  obtain ⟨c8, r8, a8, rfl, h8, h⟩ := pS_ok h
  obtain ⟨c9, r9, a9, rfl, h9, h⟩ := pB_ok h
  obtain ⟨c10, r10, a10, rfl, h10, h⟩ := pL_ok h
  obtain ⟨c11, r11, a11, rfl, h11, h⟩ := pL_ok h
  obtain ⟨c12, r12, a12, rfl, h12, h⟩ := pL_ok h
  obtain ⟨c13, r13, a13, rfl, h13, h⟩ := pS_ok h
  obtain ⟨c14, r14, a14, rfl, h14, h⟩ := pS_ok h
  obtain ⟨c15, r15, a15, rfl, h15, h⟩ := pL_ok h
  obtain ⟨c16, r16, a16, rfl, h16, h⟩ := pB_ok h
  obtain ⟨c17, r17, a17, rfl, h17, h⟩ := pL_ok h
  obtain ⟨c18, r18, a18, rfl, h18, h⟩ := pL_ok h
  obtain ⟨c19, r19, a19, rfl, h19, h⟩ := pL_ok h
  obtain ⟨c20, r20, a20, rfl, h20, h⟩ := pL_ok h
  obtain ⟨c21, r21, a21, rfl, h21, h⟩ := pL_ok h
  obtain ⟨c22, r22, a22, rfl, h22, h⟩ := pI_ok h
  obtain ⟨c23, r23, a23, rfl, h23, h⟩ := pI_ok h
  obtain ⟨c24, r24, a24, rfl, h24, h⟩ := pI_ok h
  obtain ⟨c25, r25, a25, rfl, h25, h⟩ := pI_ok h
  obtain ⟨c26, r26, a26, rfl, h26, h⟩ := pL_ok h
  obtain ⟨c27, r27, a27, rfl, h27, h⟩ := pL_ok h
  obtain ⟨c28, r28, a28, rfl, h28, h⟩ := pB_ok h
  obtain ⟨c29, r29, a29, rfl, h29, h⟩ := pL_ok h
  obtain ⟨c30, r30, a30, rfl, h30, h⟩ := pL_ok h
  obtain ⟨c31, r31, a31, rfl, h31, h⟩ := pI_ok h
  obtain ⟨c32, r32, a32, rfl, h32, h⟩ := pB_ok h
  obtain ⟨rfl, rfl⟩ := pE_ok h
  exact .cons h0 (.cons h1 (.cons h2 (.cons h3 (.cons h4 (.cons h5 (.cons h6 (.cons h7 (.cons h8 (.cons h9 (.cons h10 (.cons h11 (.cons h12 (.cons h13 (.cons h14 (.cons h15 (.cons h16 (.cons h17 (.cons h18 (.cons h19 (.cons h20 (.cons h21 (.cons h22 (.cons h23 (.cons h24 (.cons h25 (.cons h26 (.cons h27 (.cons h28 (.cons h29 (.cons h30 (.cons h31 (.cons h32 (.nil)))))))))))))))))))))))))))))))))
theorem dec_event {fs : List FC} {x : El .event} (h : dec .event fs = some x) : FcsLe fs (enc .event x) := by
  unfold dec SEvent.dec at h
  obtain ⟨c0, r0, a0, rfl, h0, h⟩ := pI_ok h
  obtain ⟨c1, r1, a1, rfl, h1, h⟩ := pS_ok h
  obtain ⟨c2, r2, a2, rfl, h2, h⟩ := pS_ok h
  obtain ⟨c3, r3, a3, rfl, h3, h⟩ := pI_ok h
  obtain ⟨c4, r4, a4, rfl, h4, h⟩ := pI_ok h
  obtain ⟨rfl, rfl⟩ := pE_ok h
  exact .cons h0 (.cons h1 (.cons h2 (.cons h3 (.cons h4 (.nil)))))
theorem dec_ok : ∀ (t : Ty) (fs : List FC) (x : El t), dec t fs = some x → FcsLe fs (enc t x)
  | .int, _, _, h => dec_int h
  | .str, _, _, h => dec_str h
  | .bool, _, _, h => dec_bool h
  | .u8, _, _, h => dec_u8 h
  | .addr, _, _, h => dec_addr h
  | .attr, _, _, h => dec_attr h
  | .token, _, _, h => dec_token h
  | .tokenizer, _, _, h => dec_tokenizer h
  | .node, _, _, h => dec_node h
  | .builder, _, _, h => dec_builder h
  | .rule, _, _, h => dec_rule h
  | .sheet, _, _, h => dec_sheet h
  | .line, _, _, h => dec_line h
  | .policy, _, _, h => dec_policy h
  | .response, _, _, h => dec_response h
  | .request, _, _, h => dec_request h
  | .file, _, _, h => dec_file h
  | .server, _, _, h => dec_server h
  | .entry, _, _, h => dec_entry h
  | .cache, _, _, h => dec_cache h
  | .sent, _, _, h => dec_sent h
  | .net, _, _, h => dec_net h
  | .slot, _, _, h => dec_slot h
  | .module, _, _, h => dec_module h
  | .page, _, _, h => dec_page h
  | .result, _, _, h => dec_result h
  | .guess, _, _, h => dec_guess h
  | .conn, _, _, h => dec_conn h
  | .loader, _, _, h => dec_loader h
  | .visit, _, _, h => dec_visit h
  | .tab, _, _, h => dec_tab h
  | .kept, _, _, h => dec_kept h
  | .hidden, _, _, h => dec_hidden h
  | .world, _, _, h => dec_world h
  | .event, _, _, h => dec_event h
theorem enc_len (t : Ty) (x : El t) : (enc t x).length = t.width := by cases t <;> rfl
theorem width_pos (t : Ty) : 0 < t.width := by cases t <;> decide
def FC.rank : FC → Nat
  | .l t _ => t.rank + 1
  | _ => 0
theorem enc_rank (t : Ty) (x : El t) : (enc t x).all (fun c => decide (c.rank ≤ t.rank)) = true := by cases t <;> rfl
def flatTy (t : Ty) : Bool := t.rank == 0
end Go.D
