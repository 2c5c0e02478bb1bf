/-
  The laws' helpers, type by type: sizes, marks.
-/
import Derived.Test.YtcgigcmleodjbaaVPa
namespace Go.D
set_option linter.unusedVariables false
set_option linter.unusedSimpArgs false
abbrev szString (x : ByteArray) : Nat := x.size
def szAddr (x : SAddr) : Nat := x.host.size + x.path.size
def szAttr (x : SAttr) : Nat := x.name.size + x.value.size
def szToken (x : SToken) : Nat := x.name.size + szL szAttr x.attrs + x.text.size
def szTokenizer (x : STokenizer) : Nat := x.rest.size
def szNode (x : SNode) : Nat := x.name.size + x.text.size + szL szAttr x.attrs
def szBuilder (x : SBuilder) : Nat := szL szNode x.nodes + x.open_.length
def szRule (x : SRule) : Nat := x.name.size
def szSheet (x : SSheet) : Nat := szL szRule x.rules
def szLine (x : SLine) : Nat := x.text.size
def szPolicy (x : SPolicy) : Nat := szL szString x.scripts + szL szString x.styles + szL szString x.images + x.nonce.size
def szResponse (x : SResponse) : Nat := x.body.size + x.policy.size
def szRequest (x : SRequest) : Nat := szAddr x.to + x.from_.size + x.digest.size
def szFile (x : SFile) : Nat := x.path.size + szResponse x.response
def szServer (x : SServer) : Nat := x.host.size + szL szFile x.files
def szEntry (x : SEntry) : Nat := x.top.size + szAddr x.to + szResponse x.response
def szCache (x : SCache) : Nat := szL szEntry x.entries
def szSent (x : SSent) : Nat := x.top.size + szAddr x.to
def szNet (x : SNet) : Nat := szL szServer x.servers + szCache x.cache + szL szSent x.log
def szSlot (x : SSlot) : Nat := szAddr x.to + x.digest.size + x.body.size
def szModule (x : SModule) : Nat := szAddr x.to + x.body.size
def szPage (x : SPage) : Nat := szAddr x.addr + szPolicy x.policy + szTokenizer x.tok + szL szToken x.queue + szBuilder x.builder + szL szSlot x.slots + szL szModule x.mods + szL szAddr x.entries + szL szAddr x.ran + szL szString x.log
def szResult (x : SResult) : Nat := szBuilder x.builder + szL szString x.log + szL szString x.verdicts + szSheet x.sheet
def szGuess (x : SGuess) : Nat := szAddr x.to + szResponse x.response
def szConn (x : SConn) : Nat := szAddr x.to + szResponse x.response
def szLoader (x : SLoader) : Nat := szNet x.net + szPage x.page + szL szString x.parts + szL szConn x.conns + szL szGuess x.guesses
def szVisit (x : SVisit) : Nat := szAddr x.addr + szPage x.page
def szTab (x : STab) : Nat := szL szVisit x.visits
def szKept (x : SKept) : Nat := szAddr x.to + szResponse x.response
def szHidden (x : SHidden) : Nat := szPage x.page + szL szKept x.taken + szL szServer x.servers
def szWorld (x : SWorld) : Nat := szNet x.net + szTab x.tab + szHidden x.hidden
def szEvent (x : SEvent) : Nat := szAddr x.to
def mkAddr (x : SAddr) (k : Int) : SAddr × Int := (⟨mtext (k), mtext (k + 1)⟩, k + 2)
theorem mkAddr_mono : Mono mkAddr := fun x k => by simp only [mkAddr]; omega
def mkAttr (x : SAttr) (k : Int) : SAttr × Int := (⟨mtext (k), mtext (k + 1)⟩, k + 2)
theorem mkAttr_mono : Mono mkAttr := fun x k => by simp only [mkAttr]; omega
def mkTokenizer (x : STokenizer) (k : Int) : STokenizer × Int := (⟨mtext (k)⟩, k + 1)
theorem mkTokenizer_mono : Mono mkTokenizer := fun x k => by simp only [mkTokenizer]; omega
def mkRule (x : SRule) (k : Int) : SRule × Int := (⟨mtext (k), k + 1⟩, k + 2)
theorem mkRule_mono : Mono mkRule := fun x k => by simp only [mkRule]; omega
def mkLine (x : SLine) (k : Int) : SLine × Int := (⟨k, mtext (k + 1)⟩, k + 2)
theorem mkLine_mono : Mono mkLine := fun x k => by simp only [mkLine]; omega
def mkResponse (x : SResponse) (k : Int) : SResponse × Int := (⟨k, k + 1, mtext (k + 2), k + 3, (k + 4).tmod 3 == 0, mtext (k + 5)⟩, k + 6)
theorem mkResponse_mono : Mono mkResponse := fun x k => by simp only [mkResponse]; omega
def mkRequest (x : SRequest) (k : Int) : SRequest × Int := (⟨k, ⟨mtext (k + 1), mtext (k + 2)⟩, mtext (k + 3), mtext (k + 4)⟩, k + 5)
theorem mkRequest_mono : Mono mkRequest := fun x k => by simp only [mkRequest]; omega
def mkFile (x : SFile) (k : Int) : SFile × Int := (⟨mtext (k), ⟨k + 1, k + 2, mtext (k + 3), k + 4, (k + 5).tmod 3 == 0, mtext (k + 6)⟩⟩, k + 7)
theorem mkFile_mono : Mono mkFile := fun x k => by simp only [mkFile]; omega
def mkEntry (x : SEntry) (k : Int) : SEntry × Int := (⟨mtext (k), ⟨mtext (k + 1), mtext (k + 2)⟩, ⟨k + 3, k + 4, mtext (k + 5), k + 6, (k + 7).tmod 3 == 0, mtext (k + 8)⟩, k + 9⟩, k + 10)
theorem mkEntry_mono : Mono mkEntry := fun x k => by simp only [mkEntry]; omega
def mkSent (x : SSent) (k : Int) : SSent × Int := (⟨mtext (k), ⟨mtext (k + 1), mtext (k + 2)⟩, (k + 3).tmod 3 == 0⟩, k + 4)
theorem mkSent_mono : Mono mkSent := fun x k => by simp only [mkSent]; omega
def mkSlot (x : SSlot) (k : Int) : SSlot × Int := (⟨k, ⟨mtext (k + 1), mtext (k + 2)⟩, mtext (k + 3), k + 4, (k + 5).tmod 3 == 0, k + 6, mtext (k + 7)⟩, k + 8)
theorem mkSlot_mono : Mono mkSlot := fun x k => by simp only [mkSlot]; omega
def mkModule (x : SModule) (k : Int) : SModule × Int := (⟨⟨mtext (k), mtext (k + 1)⟩, (k + 2).tmod 3 == 0, k + 3, mtext (k + 4)⟩, k + 5)
theorem mkModule_mono : Mono mkModule := fun x k => by simp only [mkModule]; omega
def mkGuess (x : SGuess) (k : Int) : SGuess × Int := (⟨⟨mtext (k), mtext (k + 1)⟩, ⟨k + 2, k + 3, mtext (k + 4), k + 5, (k + 6).tmod 3 == 0, mtext (k + 7)⟩, (k + 8).tmod 3 == 0⟩, k + 9)
theorem mkGuess_mono : Mono mkGuess := fun x k => by simp only [mkGuess]; omega
def mkConn (x : SConn) (k : Int) : SConn × Int := (⟨⟨mtext (k), mtext (k + 1)⟩, k + 2, (k + 3).tmod 3 == 0, ⟨k + 4, k + 5, mtext (k + 6), k + 7, (k + 8).tmod 3 == 0, mtext (k + 9)⟩⟩, k + 10)
theorem mkConn_mono : Mono mkConn := fun x k => by simp only [mkConn]; omega
def mkKept (x : SKept) (k : Int) : SKept × Int := (⟨⟨mtext (k), mtext (k + 1)⟩, ⟨k + 2, k + 3, mtext (k + 4), k + 5, (k + 6).tmod 3 == 0, mtext (k + 7)⟩⟩, k + 8)
theorem mkKept_mono : Mono mkKept := fun x k => by simp only [mkKept]; omega
def mkEvent (x : SEvent) (k : Int) : SEvent × Int := (⟨k, ⟨mtext (k + 1), mtext (k + 2)⟩, k + 3, k + 4⟩, k + 5)
theorem mkEvent_mono : Mono mkEvent := fun x k => by simp only [mkEvent]; omega
theorem mkAddrS_ub (xs : List SAddr) (k : Int) : (markL mkAddr xs k).2 = k + 2 * xs.length := markL_ub (f := mkAddr) (N := 2) (fun _ _ => rfl) xs k
theorem mkAddrS_idem (xs : List SAddr) (k : Int) : markL mkAddr (markL mkAddr xs k).1 k = markL mkAddr xs k := markL_idem (f := mkAddr) (fun _ _ => rfl) xs k
theorem mkAttrS_ub (xs : List SAttr) (k : Int) : (markL mkAttr xs k).2 = k + 2 * xs.length := markL_ub (f := mkAttr) (N := 2) (fun _ _ => rfl) xs k
theorem mkAttrS_idem (xs : List SAttr) (k : Int) : markL mkAttr (markL mkAttr xs k).1 k = markL mkAttr xs k := markL_idem (f := mkAttr) (fun _ _ => rfl) xs k
theorem mkTokenizerS_ub (xs : List STokenizer) (k : Int) : (markL mkTokenizer xs k).2 = k + 1 * xs.length := markL_ub (f := mkTokenizer) (N := 1) (fun _ _ => rfl) xs k
theorem mkTokenizerS_idem (xs : List STokenizer) (k : Int) : markL mkTokenizer (markL mkTokenizer xs k).1 k = markL mkTokenizer xs k := markL_idem (f := mkTokenizer) (fun _ _ => rfl) xs k
theorem mkRuleS_ub (xs : List SRule) (k : Int) : (markL mkRule xs k).2 = k + 2 * xs.length := markL_ub (f := mkRule) (N := 2) (fun _ _ => rfl) xs k
theorem mkRuleS_idem (xs : List SRule) (k : Int) : markL mkRule (markL mkRule xs k).1 k = markL mkRule xs k := markL_idem (f := mkRule) (fun _ _ => rfl) xs k
theorem mkLineS_ub (xs : List SLine) (k : Int) : (markL mkLine xs k).2 = k + 2 * xs.length := markL_ub (f := mkLine) (N := 2) (fun _ _ => rfl) xs k
theorem mkLineS_idem (xs : List SLine) (k : Int) : markL mkLine (markL mkLine xs k).1 k = markL mkLine xs k := markL_idem (f := mkLine) (fun _ _ => rfl) xs k
theorem mkResponseS_ub (xs : List SResponse) (k : Int) : (markL mkResponse xs k).2 = k + 6 * xs.length := markL_ub (f := mkResponse) (N := 6) (fun _ _ => rfl) xs k
theorem mkResponseS_idem (xs : List SResponse) (k : Int) : markL mkResponse (markL mkResponse xs k).1 k = markL mkResponse xs k := markL_idem (f := mkResponse) (fun _ _ => rfl) xs k
theorem mkRequestS_ub (xs : List SRequest) (k : Int) : (markL mkRequest xs k).2 = k + 5 * xs.length := markL_ub (f := mkRequest) (N := 5) (fun _ _ => rfl) xs k
theorem mkRequestS_idem (xs : List SRequest) (k : Int) : markL mkRequest (markL mkRequest xs k).1 k = markL mkRequest xs k := markL_idem (f := mkRequest) (fun _ _ => rfl) xs k
theorem mkFileS_ub (xs : List SFile) (k : Int) : (markL mkFile xs k).2 = k + 7 * xs.length := markL_ub (f := mkFile) (N := 7) (fun _ _ => rfl) xs k
theorem mkFileS_idem (xs : List SFile) (k : Int) : markL mkFile (markL mkFile xs k).1 k = markL mkFile xs k := markL_idem (f := mkFile) (fun _ _ => rfl) xs k
theorem mkEntryS_ub (xs : List SEntry) (k : Int) : (markL mkEntry xs k).2 = k + 10 * xs.length := markL_ub (f := mkEntry) (N := 10) (fun _ _ => rfl) xs k
theorem mkEntryS_idem (xs : List SEntry) (k : Int) : markL mkEntry (markL mkEntry xs k).1 k = markL mkEntry xs k := markL_idem (f := mkEntry) (fun _ _ => rfl) xs k
theorem mkSentS_ub (xs : List SSent) (k : Int) : (markL mkSent xs k).2 = k + 4 * xs.length := markL_ub (f := mkSent) (N := 4) (fun _ _ => rfl) xs k
theorem mkSentS_idem (xs : List SSent) (k : Int) : markL mkSent (markL mkSent xs k).1 k = markL mkSent xs k := markL_idem (f := mkSent) (fun _ _ => rfl) xs k
theorem mkSlotS_ub (xs : List SSlot) (k : Int) : (markL mkSlot xs k).2 = k + 8 * xs.length := markL_ub (f := mkSlot) (N := 8) (fun _ _ => rfl) xs k
theorem mkSlotS_idem (xs : List SSlot) (k : Int) : markL mkSlot (markL mkSlot xs k).1 k = markL mkSlot xs k := markL_idem (f := mkSlot) (fun _ _ => rfl) xs k
theorem mkModuleS_ub (xs : List SModule) (k : Int) : (markL mkModule xs k).2 = k + 5 * xs.length := markL_ub (f := mkModule) (N := 5) (fun _ _ => rfl) xs k
theorem mkModuleS_idem (xs : List SModule) (k : Int) : markL mkModule (markL mkModule xs k).1 k = markL mkModule xs k := markL_idem (f := mkModule) (fun _ _ => rfl) xs k
theorem mkGuessS_ub (xs : List SGuess) (k : Int) : (markL mkGuess xs k).2 = k + 9 * xs.length := markL_ub (f := mkGuess) (N := 9) (fun _ _ => rfl) xs k
theorem mkGuessS_idem (xs : List SGuess) (k : Int) : markL mkGuess (markL mkGuess xs k).1 k = markL mkGuess xs k := markL_idem (f := mkGuess) (fun _ _ => rfl) xs k
theorem mkConnS_ub (xs : List SConn) (k : Int) : (markL mkConn xs k).2 = k + 10 * xs.length := markL_ub (f := mkConn) (N := 10) (fun _ _ => rfl) xs k
theorem mkConnS_idem (xs : List SConn) (k : Int) : markL mkConn (markL mkConn xs k).1 k = markL mkConn xs k := markL_idem (f := mkConn) (fun _ _ => rfl) xs k
theorem mkKeptS_ub (xs : List SKept) (k : Int) : (markL mkKept xs k).2 = k + 8 * xs.length := markL_ub (f := mkKept) (N := 8) (fun _ _ => rfl) xs k
theorem mkKeptS_idem (xs : List SKept) (k : Int) : markL mkKept (markL mkKept xs k).1 k = markL mkKept xs k := markL_idem (f := mkKept) (fun _ _ => rfl) xs k
theorem mkEventS_ub (xs : List SEvent) (k : Int) : (markL mkEvent xs k).2 = k + 5 * xs.length := markL_ub (f := mkEvent) (N := 5) (fun _ _ => rfl) xs k
theorem mkEventS_idem (xs : List SEvent) (k : Int) : markL mkEvent (markL mkEvent xs k).1 k = markL mkEvent xs k := markL_idem (f := mkEvent) (fun _ _ => rfl) xs k
def mkString (x : ByteArray) (k : Int) : ByteArray × Int := (mtext k, k + 1)
theorem mkString_mono : Mono mkString := fun x k => by simp only [mkString]; omega
def mkInt (x : Int) (k : Int) : Int × Int := (k, k + 1)
theorem mkInt_mono : Mono mkInt := fun x k => by simp only [mkInt]; omega
theorem etaAddr (x : SAddr) : (⟨x.host, x.path⟩ : SAddr) = x := rfl
theorem etaAttr (x : SAttr) : (⟨x.name, x.value⟩ : SAttr) = x := rfl
theorem etaToken (x : SToken) : (⟨x.kind, x.name, x.attrs, x.text⟩ : SToken) = x := rfl
theorem etaTokenizer (x : STokenizer) : (⟨x.rest⟩ : STokenizer) = x := rfl
theorem etaNode (x : SNode) : (⟨x.name, x.text, x.parent, x.attrs⟩ : SNode) = x := rfl
theorem etaBuilder (x : SBuilder) : (⟨x.nodes, x.open_⟩ : SBuilder) = x := rfl
theorem etaRule (x : SRule) : (⟨x.name, x.color⟩ : SRule) = x := rfl
theorem etaSheet (x : SSheet) : (⟨x.rules⟩ : SSheet) = x := rfl
theorem etaLine (x : SLine) : (⟨x.op, x.text⟩ : SLine) = x := rfl
theorem etaPolicy (x : SPolicy) : (⟨x.set_, x.scripts, x.styles, x.images, x.nonce⟩ : SPolicy) = x := rfl
theorem etaResponse (x : SResponse) : (⟨x.status, x.kind, x.body, x.age, x.shares, x.policy⟩ : SResponse) = x := rfl
theorem etaRequest (x : SRequest) : (⟨x.kind, x.to, x.from_, x.digest⟩ : SRequest) = x := rfl
theorem etaFile (x : SFile) : (⟨x.path, x.response⟩ : SFile) = x := rfl
theorem etaServer (x : SServer) : (⟨x.host, x.files⟩ : SServer) = x := rfl
theorem etaEntry (x : SEntry) : (⟨x.top, x.to, x.response, x.until_⟩ : SEntry) = x := rfl
theorem etaCache (x : SCache) : (⟨x.entries⟩ : SCache) = x := rfl
theorem etaSent (x : SSent) : (⟨x.top, x.to, x.guess⟩ : SSent) = x := rfl
theorem etaNet (x : SNet) : (⟨x.servers, x.cache, x.log, x.now⟩ : SNet) = x := rfl
theorem etaSlot (x : SSlot) : (⟨x.mode, x.to, x.digest, x.node, x.done, x.code, x.body⟩ : SSlot) = x := rfl
theorem etaModule (x : SModule) : (⟨x.to, x.done, x.code, x.body⟩ : SModule) = x := rfl
theorem etaPage (x : SPage) : (⟨x.addr, x.policy, x.tok, x.queue, x.ended, x.builder, x.slots, x.mods, x.entries, x.block, x.inline, x.deferred, x.entered, x.ran, x.log, x.loaded⟩ : SPage) = x := rfl
theorem etaResult (x : SResult) : (⟨x.builder, x.log, x.verdicts, x.sheet, x.loaded⟩ : SResult) = x := rfl
theorem etaGuess (x : SGuess) : (⟨x.to, x.response, x.used⟩ : SGuess) = x := rfl
theorem etaConn (x : SConn) : (⟨x.to, x.left, x.guess, x.response⟩ : SConn) = x := rfl
theorem etaLoader (x : SLoader) : (⟨x.net, x.page, x.parts, x.conns, x.guesses⟩ : SLoader) = x := rfl
theorem etaVisit (x : SVisit) : (⟨x.addr, x.page, x.kept⟩ : SVisit) = x := rfl
theorem etaTab (x : STab) : (⟨x.visits, x.at_⟩ : STab) = x := rfl
theorem etaKept (x : SKept) : (⟨x.to, x.response⟩ : SKept) = x := rfl
theorem etaHidden (x : SHidden) : (⟨x.ready, x.page, x.taken, x.servers, x.now⟩ : SHidden) = x := rfl
theorem etaWorld (x : SWorld) : (⟨x.net, x.tab, x.hidden, x.fast⟩ : SWorld) = x := rfl
theorem etaEvent (x : SEvent) : (⟨x.kind, x.to, x.n, x.seed⟩ : SEvent) = x := rfl
theorem baBeq (x y : ByteArray) : (x == y) = decide (x = y) := by
  rw [Bool.eq_iff_iff, decide_eq_true_eq]
  constructor
  · intro h
    have h' : (x.data == y.data) = true := h
    cases x; cases y; simpa using h'
  · rintro rfl
    show (x.data == x.data) = true
    simp
theorem beqAddr (x y : SAddr) : (x.host == y.host && (x.path == y.path && true)) = decide (x = y) := by
  rw [Bool.eq_iff_iff]; cases x; cases y; simp [baBeq]
theorem beqAttr (x y : SAttr) : (x.name == y.name && (x.value == y.value && true)) = decide (x = y) := by
  rw [Bool.eq_iff_iff]; cases x; cases y; simp [baBeq]
theorem beqTokenizer (x y : STokenizer) : (x.rest == y.rest && true) = decide (x = y) := by
  rw [Bool.eq_iff_iff]; cases x; cases y; simp [baBeq]
theorem beqRule (x y : SRule) : (x.name == y.name && (x.color == y.color && true)) = decide (x = y) := by
  rw [Bool.eq_iff_iff]; cases x; cases y; simp [baBeq]
theorem beqLine (x y : SLine) : (x.op == y.op && (x.text == y.text && true)) = decide (x = y) := by
  rw [Bool.eq_iff_iff]; cases x; cases y; simp [baBeq]
theorem beqResponse (x y : SResponse) : (x.status == y.status && (x.kind == y.kind && (x.body == y.body && (x.age == y.age && (x.shares == y.shares && (x.policy == y.policy && true)))))) = decide (x = y) := by
  rw [Bool.eq_iff_iff]; cases x; cases y; simp [baBeq]
theorem beqRequest (x y : SRequest) : (x.kind == y.kind && ((x.to.host == y.to.host && (x.to.path == y.to.path && true)) && (x.from_ == y.from_ && (x.digest == y.digest && true)))) = decide (x = y) := by
  rw [Bool.eq_iff_iff]; simp only [beqAddr]; cases x; cases y; simp [baBeq]
theorem beqFile (x y : SFile) : (x.path == y.path && ((x.response.status == y.response.status && (x.response.kind == y.response.kind && (x.response.body == y.response.body && (x.response.age == y.response.age && (x.response.shares == y.response.shares && (x.response.policy == y.response.policy && true)))))) && true)) = decide (x = y) := by
  rw [Bool.eq_iff_iff]; simp only [beqResponse]; cases x; cases y; simp [baBeq]
theorem beqEntry (x y : SEntry) : (x.top == y.top && ((x.to.host == y.to.host && (x.to.path == y.to.path && true)) && ((x.response.status == y.response.status && (x.response.kind == y.response.kind && (x.response.body == y.response.body && (x.response.age == y.response.age && (x.response.shares == y.response.shares && (x.response.policy == y.response.policy && true)))))) && (x.until_ == y.until_ && true)))) = decide (x = y) := by
  rw [Bool.eq_iff_iff]; simp only [beqAddr, beqResponse]; cases x; cases y; simp [baBeq]
theorem beqSent (x y : SSent) : (x.top == y.top && ((x.to.host == y.to.host && (x.to.path == y.to.path && true)) && (x.guess == y.guess && true))) = decide (x = y) := by
  rw [Bool.eq_iff_iff]; simp only [beqAddr]; cases x; cases y; simp [baBeq]
theorem beqSlot (x y : SSlot) : (x.mode == y.mode && ((x.to.host == y.to.host && (x.to.path == y.to.path && true)) && (x.digest == y.digest && (x.node == y.node && (x.done == y.done && (x.code == y.code && (x.body == y.body && true))))))) = decide (x = y) := by
  rw [Bool.eq_iff_iff]; simp only [beqAddr]; cases x; cases y; simp [baBeq]
theorem beqModule (x y : SModule) : ((x.to.host == y.to.host && (x.to.path == y.to.path && true)) && (x.done == y.done && (x.code == y.code && (x.body == y.body && true)))) = decide (x = y) := by
  rw [Bool.eq_iff_iff]; simp only [beqAddr]; cases x; cases y; simp [baBeq]
theorem beqGuess (x y : SGuess) : ((x.to.host == y.to.host && (x.to.path == y.to.path && true)) && ((x.response.status == y.response.status && (x.response.kind == y.response.kind && (x.response.body == y.response.body && (x.response.age == y.response.age && (x.response.shares == y.response.shares && (x.response.policy == y.response.policy && true)))))) && (x.used == y.used && true))) = decide (x = y) := by
  rw [Bool.eq_iff_iff]; simp only [beqAddr, beqResponse]; cases x; cases y; simp [baBeq]
theorem beqConn (x y : SConn) : ((x.to.host == y.to.host && (x.to.path == y.to.path && true)) && (x.left == y.left && (x.guess == y.guess && ((x.response.status == y.response.status && (x.response.kind == y.response.kind && (x.response.body == y.response.body && (x.response.age == y.response.age && (x.response.shares == y.response.shares && (x.response.policy == y.response.policy && true)))))) && true)))) = decide (x = y) := by
  rw [Bool.eq_iff_iff]; simp only [beqAddr, beqResponse]; cases x; cases y; simp [baBeq]
theorem beqKept (x y : SKept) : ((x.to.host == y.to.host && (x.to.path == y.to.path && true)) && ((x.response.status == y.response.status && (x.response.kind == y.response.kind && (x.response.body == y.response.body && (x.response.age == y.response.age && (x.response.shares == y.response.shares && (x.response.policy == y.response.policy && true)))))) && true)) = decide (x = y) := by
  rw [Bool.eq_iff_iff]; simp only [beqAddr, beqResponse]; cases x; cases y; simp [baBeq]
theorem beqEvent (x y : SEvent) : (x.kind == y.kind && ((x.to.host == y.to.host && (x.to.path == y.to.path && true)) && (x.n == y.n && (x.seed == y.seed && true)))) = decide (x = y) := by
  rw [Bool.eq_iff_iff]; simp only [beqAddr]; cases x; cases y; simp [baBeq]
theorem mkStringS_ub (xs : List ByteArray) (k : Int) : (markL mkString xs k).2 = k + 1 * xs.length := markL_ub (f := mkString) (N := 1) (fun _ _ => rfl) xs k
theorem mkStringS_idem (xs : List ByteArray) (k : Int) : markL mkString (markL mkString xs k).1 k = markL mkString xs k := markL_idem (f := mkString) (fun _ _ => rfl) xs k
theorem mkIntS_ub (xs : List Int) (k : Int) : (markL mkInt xs k).2 = k + 1 * xs.length := markL_ub (f := mkInt) (N := 1) (fun _ _ => rfl) xs k
theorem mkIntS_idem (xs : List Int) (k : Int) : markL mkInt (markL mkInt xs k).1 k = markL mkInt xs k := markL_idem (f := mkInt) (fun _ _ => rfl) xs k
theorem mkStringS_mono (l : List ByteArray) (k : Int) : k ≤ (markL mkString l k).2 := markL_mono mkString_mono l k
theorem mkStringS_ub64 (l : List ByteArray) (k : Int) : (markL mkString l k).2 ≤ k + 64 * (szL szString l : Nat) := by rw [mkStringS_ub]; have := szL_len szString l; omega
theorem mkIntS_mono (l : List Int) (k : Int) : k ≤ (markL mkInt l k).2 := markL_mono mkInt_mono l k
theorem mkIntS_ub64 (l : List Int) (k : Int) : (markL mkInt l k).2 ≤ k + 64 * (l.length : Nat) := by rw [mkIntS_ub]; omega
theorem mkAddrS_mono (l : List SAddr) (k : Int) : k ≤ (markL mkAddr l k).2 := markL_mono mkAddr_mono l k
theorem mkAddrS_ub64 (l : List SAddr) (k : Int) : (markL mkAddr l k).2 ≤ k + 64 * szL szAddr l := markL_ub64 (fun x k => by simp only [mkAddr]; omega) l k
theorem mkAttrS_mono (l : List SAttr) (k : Int) : k ≤ (markL mkAttr l k).2 := markL_mono mkAttr_mono l k
theorem mkAttrS_ub64 (l : List SAttr) (k : Int) : (markL mkAttr l k).2 ≤ k + 64 * szL szAttr l := markL_ub64 (fun x k => by simp only [mkAttr]; omega) l k
def mkToken (x : SToken) (k : Int) : SToken × Int :=
  let r1 := markL mkAttr x.attrs (k + 2)
  (⟨k, mtext (k + 1), r1.1, mtext (r1.2)⟩, r1.2 + 1)
theorem mkToken_mono : Mono mkToken := by
  intro x k
  simp only [mkToken]
  have m0 := mkAttrS_mono x.attrs (k + 2)
  generalize markL mkAttr x.attrs (k + 2) = r1 at *
  omega
theorem mkToken_cnt (x : SToken) (k : Int) : k + 1 ≤ (mkToken x k).2 := by
  simp only [mkToken]
  have m0 := mkAttrS_mono x.attrs (k + 2)
  generalize markL mkAttr x.attrs (k + 2) = r1 at *
  omega
theorem mkToken_idem (x : SToken) (k : Int) : mkToken (mkToken x k).1 k = mkToken x k := by simp only [mkToken, mkAttrS_idem]
theorem mkToken_ub (x : SToken) (k : Int) : (mkToken x k).2 ≤ k + 64 * (szToken x + 1) := by
  simp only [mkToken]
  have u0 := mkAttrS_ub64 x.attrs (k + 2)
  generalize markL mkAttr x.attrs (k + 2) = r1 at *
  simp only [szToken]
  omega
theorem mkTokenS_mono (l : List SToken) (k : Int) : k ≤ (markL mkToken l k).2 := markL_mono mkToken_mono l k
theorem mkTokenS_idem (l : List SToken) (k : Int) : markL mkToken (markL mkToken l k).1 k = markL mkToken l k := markL_idem mkToken_idem l k
theorem mkTokenS_ub64 (l : List SToken) (k : Int) : (markL mkToken l k).2 ≤ k + 64 * szL szToken l := markL_ub64 mkToken_ub l k
theorem mkTokenS_bd (l : List SToken) (k : Int) : k ≤ (markL mkToken l k).2 ∧ (markL mkToken l k).2 ≤ k + 64 * szL szToken l ∧ markL mkToken (markL mkToken l k).1 k = markL mkToken l k := ⟨mkTokenS_mono l k, mkTokenS_ub64 l k, mkTokenS_idem l k⟩
def mvToken (x : SToken) (k : Int) : SToken × Int :=
  let r1 := markL mkAttr x.attrs (k)
  (⟨x.kind, x.name, r1.1, x.text⟩, r1.2)
theorem mvToken_mono (x : SToken) (k : Int) : k ≤ (mvToken x k).2 := by
  simp only [mvToken]
  have m0 := mkAttrS_mono x.attrs (k)
  generalize markL mkAttr x.attrs (k) = r1 at *
  omega
theorem mvToken_idem (x : SToken) (k : Int) : mvToken (mvToken x k).1 k = mvToken x k := by simp only [mvToken, mkAttrS_idem]
theorem mvToken_ub (x : SToken) (k : Int) : (mvToken x k).2 ≤ k + 64 * szToken x := by
  simp only [mvToken]
  have u0 := mkAttrS_ub64 x.attrs (k)
  generalize markL mkAttr x.attrs (k) = r1 at *
  simp only [szToken]
  omega
theorem mvToken_bd (x : SToken) (k : Int) : k ≤ (mvToken x k).2 ∧ (mvToken x k).2 ≤ k + 64 * szToken x ∧ mvToken (mvToken x k).1 k = mvToken x k := ⟨mvToken_mono x k, mvToken_ub x k, mvToken_idem x k⟩
theorem mkTokenizerS_mono (l : List STokenizer) (k : Int) : k ≤ (markL mkTokenizer l k).2 := markL_mono mkTokenizer_mono l k
theorem mkTokenizerS_ub64 (l : List STokenizer) (k : Int) : (markL mkTokenizer l k).2 ≤ k + 64 * szL szTokenizer l := markL_ub64 (fun x k => by simp only [mkTokenizer]; omega) l k
def mkNode (x : SNode) (k : Int) : SNode × Int :=
  let r1 := markL mkAttr x.attrs (k + 3)
  (⟨mtext (k), mtext (k + 1), k + 2, r1.1⟩, r1.2)
theorem mkNode_mono : Mono mkNode := by
  intro x k
  simp only [mkNode]
  have m0 := mkAttrS_mono x.attrs (k + 3)
  generalize markL mkAttr x.attrs (k + 3) = r1 at *
  omega
theorem mkNode_cnt (x : SNode) (k : Int) : k + 1 ≤ (mkNode x k).2 := by
  simp only [mkNode]
  have m0 := mkAttrS_mono x.attrs (k + 3)
  generalize markL mkAttr x.attrs (k + 3) = r1 at *
  omega
theorem mkNode_idem (x : SNode) (k : Int) : mkNode (mkNode x k).1 k = mkNode x k := by simp only [mkNode, mkAttrS_idem]
theorem mkNode_ub (x : SNode) (k : Int) : (mkNode x k).2 ≤ k + 64 * (szNode x + 1) := by
  simp only [mkNode]
  have u0 := mkAttrS_ub64 x.attrs (k + 3)
  generalize markL mkAttr x.attrs (k + 3) = r1 at *
  simp only [szNode]
  omega
theorem mkNodeS_mono (l : List SNode) (k : Int) : k ≤ (markL mkNode l k).2 := markL_mono mkNode_mono l k
theorem mkNodeS_idem (l : List SNode) (k : Int) : markL mkNode (markL mkNode l k).1 k = markL mkNode l k := markL_idem mkNode_idem l k
theorem mkNodeS_ub64 (l : List SNode) (k : Int) : (markL mkNode l k).2 ≤ k + 64 * szL szNode l := markL_ub64 mkNode_ub l k
theorem mkNodeS_bd (l : List SNode) (k : Int) : k ≤ (markL mkNode l k).2 ∧ (markL mkNode l k).2 ≤ k + 64 * szL szNode l ∧ markL mkNode (markL mkNode l k).1 k = markL mkNode l k := ⟨mkNodeS_mono l k, mkNodeS_ub64 l k, mkNodeS_idem l k⟩
def mvNode (x : SNode) (k : Int) : SNode × Int :=
  let r1 := markL mkAttr x.attrs (k)
  (⟨x.name, x.text, x.parent, r1.1⟩, r1.2)
theorem mvNode_mono (x : SNode) (k : Int) : k ≤ (mvNode x k).2 := by
  simp only [mvNode]
  have m0 := mkAttrS_mono x.attrs (k)
  generalize markL mkAttr x.attrs (k) = r1 at *
  omega
theorem mvNode_idem (x : SNode) (k : Int) : mvNode (mvNode x k).1 k = mvNode x k := by simp only [mvNode, mkAttrS_idem]
theorem mvNode_ub (x : SNode) (k : Int) : (mvNode x k).2 ≤ k + 64 * szNode x := by
  simp only [mvNode]
  have u0 := mkAttrS_ub64 x.attrs (k)
  generalize markL mkAttr x.attrs (k) = r1 at *
  simp only [szNode]
  omega
theorem mvNode_bd (x : SNode) (k : Int) : k ≤ (mvNode x k).2 ∧ (mvNode x k).2 ≤ k + 64 * szNode x ∧ mvNode (mvNode x k).1 k = mvNode x k := ⟨mvNode_mono x k, mvNode_ub x k, mvNode_idem x k⟩
def mkBuilder (x : SBuilder) (k : Int) : SBuilder × Int :=
  let r1 := markL mkNode x.nodes (k)
  let r2 := markL mkInt x.open_ (r1.2)
  (⟨r1.1, r2.1⟩, r2.2)
theorem mkBuilder_mono : Mono mkBuilder := by
  intro x k
  simp only [mkBuilder]
  have m0 := mkNodeS_mono x.nodes (k)
  generalize markL mkNode x.nodes (k) = r1 at *
  have m1 := mkIntS_mono x.open_ (r1.2)
  generalize markL mkInt x.open_ (r1.2) = r2 at *
  omega
theorem mkBuilder_idem (x : SBuilder) (k : Int) : mkBuilder (mkBuilder x k).1 k = mkBuilder x k := by simp only [mkBuilder, mkIntS_idem, mkNodeS_idem]
theorem mkBuilder_ub (x : SBuilder) (k : Int) : (mkBuilder x k).2 ≤ k + 64 * (szBuilder x + 1) := by
  simp only [mkBuilder]
  have u0 := mkNodeS_ub64 x.nodes (k)
  generalize markL mkNode x.nodes (k) = r1 at *
  have u1 := mkIntS_ub64 x.open_ (r1.2)
  generalize markL mkInt x.open_ (r1.2) = r2 at *
  simp only [szBuilder]
  omega
theorem mkBuilderS_mono (l : List SBuilder) (k : Int) : k ≤ (markL mkBuilder l k).2 := markL_mono mkBuilder_mono l k
theorem mkBuilderS_idem (l : List SBuilder) (k : Int) : markL mkBuilder (markL mkBuilder l k).1 k = markL mkBuilder l k := markL_idem mkBuilder_idem l k
theorem mkBuilderS_ub64 (l : List SBuilder) (k : Int) : (markL mkBuilder l k).2 ≤ k + 64 * szL szBuilder l := markL_ub64 mkBuilder_ub l k
theorem mkBuilderS_bd (l : List SBuilder) (k : Int) : k ≤ (markL mkBuilder l k).2 ∧ (markL mkBuilder l k).2 ≤ k + 64 * szL szBuilder l ∧ markL mkBuilder (markL mkBuilder l k).1 k = markL mkBuilder l k := ⟨mkBuilderS_mono l k, mkBuilderS_ub64 l k, mkBuilderS_idem l k⟩
def mvBuilder (x : SBuilder) (k : Int) : SBuilder × Int :=
  let r1 := markL mkNode x.nodes (k)
  let r2 := markL mkInt x.open_ (r1.2)
  (⟨r1.1, r2.1⟩, r2.2)
theorem mvBuilder_mono (x : SBuilder) (k : Int) : k ≤ (mvBuilder x k).2 := by
  simp only [mvBuilder]
  have m0 := mkNodeS_mono x.nodes (k)
  generalize markL mkNode x.nodes (k) = r1 at *
  have m1 := mkIntS_mono x.open_ (r1.2)
  generalize markL mkInt x.open_ (r1.2) = r2 at *
  omega
theorem mvBuilder_idem (x : SBuilder) (k : Int) : mvBuilder (mvBuilder x k).1 k = mvBuilder x k := by simp only [mvBuilder, mkIntS_idem, mkNodeS_idem]
theorem mvBuilder_ub (x : SBuilder) (k : Int) : (mvBuilder x k).2 ≤ k + 64 * szBuilder x := by
  simp only [mvBuilder]
  have u0 := mkNodeS_ub64 x.nodes (k)
  generalize markL mkNode x.nodes (k) = r1 at *
  have u1 := mkIntS_ub64 x.open_ (r1.2)
  generalize markL mkInt x.open_ (r1.2) = r2 at *
  simp only [szBuilder]
  omega
theorem mvBuilder_bd (x : SBuilder) (k : Int) : k ≤ (mvBuilder x k).2 ∧ (mvBuilder x k).2 ≤ k + 64 * szBuilder x ∧ mvBuilder (mvBuilder x k).1 k = mvBuilder x k := ⟨mvBuilder_mono x k, mvBuilder_ub x k, mvBuilder_idem x k⟩
theorem mkRuleS_mono (l : List SRule) (k : Int) : k ≤ (markL mkRule l k).2 := markL_mono mkRule_mono l k
theorem mkRuleS_ub64 (l : List SRule) (k : Int) : (markL mkRule l k).2 ≤ k + 64 * szL szRule l := markL_ub64 (fun x k => by simp only [mkRule]; omega) l k
def mkSheet (x : SSheet) (k : Int) : SSheet × Int :=
  let r1 := markL mkRule x.rules (k)
  (⟨r1.1⟩, r1.2)
theorem mkSheet_mono : Mono mkSheet := by
  intro x k
  simp only [mkSheet]
  have m0 := mkRuleS_mono x.rules (k)
  generalize markL mkRule x.rules (k) = r1 at *
  omega
theorem mkSheet_idem (x : SSheet) (k : Int) : mkSheet (mkSheet x k).1 k = mkSheet x k := by simp only [mkSheet, mkRuleS_idem]
theorem mkSheet_ub (x : SSheet) (k : Int) : (mkSheet x k).2 ≤ k + 64 * (szSheet x + 1) := by
  simp only [mkSheet]
  have u0 := mkRuleS_ub64 x.rules (k)
  generalize markL mkRule x.rules (k) = r1 at *
  simp only [szSheet]
  omega
theorem mkSheetS_mono (l : List SSheet) (k : Int) : k ≤ (markL mkSheet l k).2 := markL_mono mkSheet_mono l k
theorem mkSheetS_idem (l : List SSheet) (k : Int) : markL mkSheet (markL mkSheet l k).1 k = markL mkSheet l k := markL_idem mkSheet_idem l k
theorem mkSheetS_ub64 (l : List SSheet) (k : Int) : (markL mkSheet l k).2 ≤ k + 64 * szL szSheet l := markL_ub64 mkSheet_ub l k
theorem mkSheetS_bd (l : List SSheet) (k : Int) : k ≤ (markL mkSheet l k).2 ∧ (markL mkSheet l k).2 ≤ k + 64 * szL szSheet l ∧ markL mkSheet (markL mkSheet l k).1 k = markL mkSheet l k := ⟨mkSheetS_mono l k, mkSheetS_ub64 l k, mkSheetS_idem l k⟩
def mvSheet (x : SSheet) (k : Int) : SSheet × Int :=
  let r1 := markL mkRule x.rules (k)
  (⟨r1.1⟩, r1.2)
theorem mvSheet_mono (x : SSheet) (k : Int) : k ≤ (mvSheet x k).2 := by
  simp only [mvSheet]
  have m0 := mkRuleS_mono x.rules (k)
  generalize markL mkRule x.rules (k) = r1 at *
  omega
theorem mvSheet_idem (x : SSheet) (k : Int) : mvSheet (mvSheet x k).1 k = mvSheet x k := by simp only [mvSheet, mkRuleS_idem]
theorem mvSheet_ub (x : SSheet) (k : Int) : (mvSheet x k).2 ≤ k + 64 * szSheet x := by
  simp only [mvSheet]
  have u0 := mkRuleS_ub64 x.rules (k)
  generalize markL mkRule x.rules (k) = r1 at *
  simp only [szSheet]
  omega
theorem mvSheet_bd (x : SSheet) (k : Int) : k ≤ (mvSheet x k).2 ∧ (mvSheet x k).2 ≤ k + 64 * szSheet x ∧ mvSheet (mvSheet x k).1 k = mvSheet x k := ⟨mvSheet_mono x k, mvSheet_ub x k, mvSheet_idem x k⟩
theorem mkLineS_mono (l : List SLine) (k : Int) : k ≤ (markL mkLine l k).2 := markL_mono mkLine_mono l k
theorem mkLineS_ub64 (l : List SLine) (k : Int) : (markL mkLine l k).2 ≤ k + 64 * szL szLine l := markL_ub64 (fun x k => by simp only [mkLine]; omega) l k
def mkPolicy (x : SPolicy) (k : Int) : SPolicy × Int :=
  let r1 := markL mkString x.scripts (k + 1)
  let r2 := markL mkString x.styles (r1.2)
  let r3 := markL mkString x.images (r2.2)
  (⟨(k).tmod 3 == 0, r1.1, r2.1, r3.1, mtext (r3.2)⟩, r3.2 + 1)
theorem mkPolicy_mono : Mono mkPolicy := by
  intro x k
  simp only [mkPolicy]
  have m0 := mkStringS_mono x.scripts (k + 1)
  generalize markL mkString x.scripts (k + 1) = r1 at *
  have m1 := mkStringS_mono x.styles (r1.2)
  generalize markL mkString x.styles (r1.2) = r2 at *
  have m2 := mkStringS_mono x.images (r2.2)
  generalize markL mkString x.images (r2.2) = r3 at *
  omega
theorem mkPolicy_cnt (x : SPolicy) (k : Int) : k + 1 ≤ (mkPolicy x k).2 := by
  simp only [mkPolicy]
  have m0 := mkStringS_mono x.scripts (k + 1)
  generalize markL mkString x.scripts (k + 1) = r1 at *
  have m1 := mkStringS_mono x.styles (r1.2)
  generalize markL mkString x.styles (r1.2) = r2 at *
  have m2 := mkStringS_mono x.images (r2.2)
  generalize markL mkString x.images (r2.2) = r3 at *
  omega
theorem mkPolicy_idem (x : SPolicy) (k : Int) : mkPolicy (mkPolicy x k).1 k = mkPolicy x k := by simp only [mkPolicy, mkStringS_idem]
theorem mkPolicy_ub (x : SPolicy) (k : Int) : (mkPolicy x k).2 ≤ k + 64 * (szPolicy x + 1) := by
  simp only [mkPolicy]
  have u0 := mkStringS_ub64 x.scripts (k + 1)
  generalize markL mkString x.scripts (k + 1) = r1 at *
  have u1 := mkStringS_ub64 x.styles (r1.2)
  generalize markL mkString x.styles (r1.2) = r2 at *
  have u2 := mkStringS_ub64 x.images (r2.2)
  generalize markL mkString x.images (r2.2) = r3 at *
  simp only [szPolicy]
  omega
theorem mkPolicyS_mono (l : List SPolicy) (k : Int) : k ≤ (markL mkPolicy l k).2 := markL_mono mkPolicy_mono l k
theorem mkPolicyS_idem (l : List SPolicy) (k : Int) : markL mkPolicy (markL mkPolicy l k).1 k = markL mkPolicy l k := markL_idem mkPolicy_idem l k
theorem mkPolicyS_ub64 (l : List SPolicy) (k : Int) : (markL mkPolicy l k).2 ≤ k + 64 * szL szPolicy l := markL_ub64 mkPolicy_ub l k
theorem mkPolicyS_bd (l : List SPolicy) (k : Int) : k ≤ (markL mkPolicy l k).2 ∧ (markL mkPolicy l k).2 ≤ k + 64 * szL szPolicy l ∧ markL mkPolicy (markL mkPolicy l k).1 k = markL mkPolicy l k := ⟨mkPolicyS_mono l k, mkPolicyS_ub64 l k, mkPolicyS_idem l k⟩
def mvPolicy (x : SPolicy) (k : Int) : SPolicy × Int :=
  let r1 := markL mkString x.scripts (k)
  let r2 := markL mkString x.styles (r1.2)
  let r3 := markL mkString x.images (r2.2)
  (⟨x.set_, r1.1, r2.1, r3.1, x.nonce⟩, r3.2)
theorem mvPolicy_mono (x : SPolicy) (k : Int) : k ≤ (mvPolicy x k).2 := by
  simp only [mvPolicy]
  have m0 := mkStringS_mono x.scripts (k)
  generalize markL mkString x.scripts (k) = r1 at *
  have m1 := mkStringS_mono x.styles (r1.2)
  generalize markL mkString x.styles (r1.2) = r2 at *
  have m2 := mkStringS_mono x.images (r2.2)
  generalize markL mkString x.images (r2.2) = r3 at *
  omega
theorem mvPolicy_idem (x : SPolicy) (k : Int) : mvPolicy (mvPolicy x k).1 k = mvPolicy x k := by simp only [mvPolicy, mkStringS_idem]
theorem mvPolicy_ub (x : SPolicy) (k : Int) : (mvPolicy x k).2 ≤ k + 64 * szPolicy x := by
  simp only [mvPolicy]
  have u0 := mkStringS_ub64 x.scripts (k)
  generalize markL mkString x.scripts (k) = r1 at *
  have u1 := mkStringS_ub64 x.styles (r1.2)
  generalize markL mkString x.styles (r1.2) = r2 at *
  have u2 := mkStringS_ub64 x.images (r2.2)
  generalize markL mkString x.images (r2.2) = r3 at *
  simp only [szPolicy]
  omega
theorem mvPolicy_bd (x : SPolicy) (k : Int) : k ≤ (mvPolicy x k).2 ∧ (mvPolicy x k).2 ≤ k + 64 * szPolicy x ∧ mvPolicy (mvPolicy x k).1 k = mvPolicy x k := ⟨mvPolicy_mono x k, mvPolicy_ub x k, mvPolicy_idem x k⟩
theorem mkResponseS_mono (l : List SResponse) (k : Int) : k ≤ (markL mkResponse l k).2 := markL_mono mkResponse_mono l k
theorem mkResponseS_ub64 (l : List SResponse) (k : Int) : (markL mkResponse l k).2 ≤ k + 64 * szL szResponse l := markL_ub64 (fun x k => by simp only [mkResponse]; omega) l k
theorem mkRequestS_mono (l : List SRequest) (k : Int) : k ≤ (markL mkRequest l k).2 := markL_mono mkRequest_mono l k
theorem mkRequestS_ub64 (l : List SRequest) (k : Int) : (markL mkRequest l k).2 ≤ k + 64 * szL szRequest l := markL_ub64 (fun x k => by simp only [mkRequest]; omega) l k
theorem mkFileS_mono (l : List SFile) (k : Int) : k ≤ (markL mkFile l k).2 := markL_mono mkFile_mono l k
theorem mkFileS_ub64 (l : List SFile) (k : Int) : (markL mkFile l k).2 ≤ k + 64 * szL szFile l := markL_ub64 (fun x k => by simp only [mkFile]; omega) l k
def mkServer (x : SServer) (k : Int) : SServer × Int :=
  let r1 := markL mkFile x.files (k + 1)
  (⟨mtext (k), r1.1⟩, r1.2)
theorem mkServer_mono : Mono mkServer := by
  intro x k
  simp only [mkServer]
  have m0 := mkFileS_mono x.files (k + 1)
  generalize markL mkFile x.files (k + 1) = r1 at *
  omega
theorem mkServer_cnt (x : SServer) (k : Int) : k + 1 ≤ (mkServer x k).2 := by
  simp only [mkServer]
  have m0 := mkFileS_mono x.files (k + 1)
  generalize markL mkFile x.files (k + 1) = r1 at *
  omega
theorem mkServer_idem (x : SServer) (k : Int) : mkServer (mkServer x k).1 k = mkServer x k := by simp only [mkServer, mkFileS_idem]
theorem mkServer_ub (x : SServer) (k : Int) : (mkServer x k).2 ≤ k + 64 * (szServer x + 1) := by
  simp only [mkServer]
  have u0 := mkFileS_ub64 x.files (k + 1)
  generalize markL mkFile x.files (k + 1) = r1 at *
  simp only [szServer]
  omega
theorem mkServerS_mono (l : List SServer) (k : Int) : k ≤ (markL mkServer l k).2 := markL_mono mkServer_mono l k
theorem mkServerS_idem (l : List SServer) (k : Int) : markL mkServer (markL mkServer l k).1 k = markL mkServer l k := markL_idem mkServer_idem l k
theorem mkServerS_ub64 (l : List SServer) (k : Int) : (markL mkServer l k).2 ≤ k + 64 * szL szServer l := markL_ub64 mkServer_ub l k
theorem mkServerS_bd (l : List SServer) (k : Int) : k ≤ (markL mkServer l k).2 ∧ (markL mkServer l k).2 ≤ k + 64 * szL szServer l ∧ markL mkServer (markL mkServer l k).1 k = markL mkServer l k := ⟨mkServerS_mono l k, mkServerS_ub64 l k, mkServerS_idem l k⟩
def mvServer (x : SServer) (k : Int) : SServer × Int :=
  let r1 := markL mkFile x.files (k)
  (⟨x.host, r1.1⟩, r1.2)
theorem mvServer_mono (x : SServer) (k : Int) : k ≤ (mvServer x k).2 := by
  simp only [mvServer]
  have m0 := mkFileS_mono x.files (k)
  generalize markL mkFile x.files (k) = r1 at *
  omega
theorem mvServer_idem (x : SServer) (k : Int) : mvServer (mvServer x k).1 k = mvServer x k := by simp only [mvServer, mkFileS_idem]
theorem mvServer_ub (x : SServer) (k : Int) : (mvServer x k).2 ≤ k + 64 * szServer x := by
  simp only [mvServer]
  have u0 := mkFileS_ub64 x.files (k)
  generalize markL mkFile x.files (k) = r1 at *
  simp only [szServer]
  omega
theorem mvServer_bd (x : SServer) (k : Int) : k ≤ (mvServer x k).2 ∧ (mvServer x k).2 ≤ k + 64 * szServer x ∧ mvServer (mvServer x k).1 k = mvServer x k := ⟨mvServer_mono x k, mvServer_ub x k, mvServer_idem x k⟩
theorem mkEntryS_mono (l : List SEntry) (k : Int) : k ≤ (markL mkEntry l k).2 := markL_mono mkEntry_mono l k
theorem mkEntryS_ub64 (l : List SEntry) (k : Int) : (markL mkEntry l k).2 ≤ k + 64 * szL szEntry l := markL_ub64 (fun x k => by simp only [mkEntry]; omega) l k
def mkCache (x : SCache) (k : Int) : SCache × Int :=
  let r1 := markL mkEntry x.entries (k)
  (⟨r1.1⟩, r1.2)
theorem mkCache_mono : Mono mkCache := by
  intro x k
  simp only [mkCache]
  have m0 := mkEntryS_mono x.entries (k)
  generalize markL mkEntry x.entries (k) = r1 at *
  omega
theorem mkCache_idem (x : SCache) (k : Int) : mkCache (mkCache x k).1 k = mkCache x k := by simp only [mkCache, mkEntryS_idem]
theorem mkCache_ub (x : SCache) (k : Int) : (mkCache x k).2 ≤ k + 64 * (szCache x + 1) := by
  simp only [mkCache]
  have u0 := mkEntryS_ub64 x.entries (k)
  generalize markL mkEntry x.entries (k) = r1 at *
  simp only [szCache]
  omega
theorem mkCacheS_mono (l : List SCache) (k : Int) : k ≤ (markL mkCache l k).2 := markL_mono mkCache_mono l k
theorem mkCacheS_idem (l : List SCache) (k : Int) : markL mkCache (markL mkCache l k).1 k = markL mkCache l k := markL_idem mkCache_idem l k
theorem mkCacheS_ub64 (l : List SCache) (k : Int) : (markL mkCache l k).2 ≤ k + 64 * szL szCache l := markL_ub64 mkCache_ub l k
theorem mkCacheS_bd (l : List SCache) (k : Int) : k ≤ (markL mkCache l k).2 ∧ (markL mkCache l k).2 ≤ k + 64 * szL szCache l ∧ markL mkCache (markL mkCache l k).1 k = markL mkCache l k := ⟨mkCacheS_mono l k, mkCacheS_ub64 l k, mkCacheS_idem l k⟩
def mvCache (x : SCache) (k : Int) : SCache × Int :=
  let r1 := markL mkEntry x.entries (k)
  (⟨r1.1⟩, r1.2)
theorem mvCache_mono (x : SCache) (k : Int) : k ≤ (mvCache x k).2 := by
  simp only [mvCache]
  have m0 := mkEntryS_mono x.entries (k)
  generalize markL mkEntry x.entries (k) = r1 at *
  omega
theorem mvCache_idem (x : SCache) (k : Int) : mvCache (mvCache x k).1 k = mvCache x k := by simp only [mvCache, mkEntryS_idem]
theorem mvCache_ub (x : SCache) (k : Int) : (mvCache x k).2 ≤ k + 64 * szCache x := by
  simp only [mvCache]
  have u0 := mkEntryS_ub64 x.entries (k)
  generalize markL mkEntry x.entries (k) = r1 at *
  simp only [szCache]
  omega
theorem mvCache_bd (x : SCache) (k : Int) : k ≤ (mvCache x k).2 ∧ (mvCache x k).2 ≤ k + 64 * szCache x ∧ mvCache (mvCache x k).1 k = mvCache x k := ⟨mvCache_mono x k, mvCache_ub x k, mvCache_idem x k⟩
theorem mkSentS_mono (l : List SSent) (k : Int) : k ≤ (markL mkSent l k).2 := markL_mono mkSent_mono l k
theorem mkSentS_ub64 (l : List SSent) (k : Int) : (markL mkSent l k).2 ≤ k + 64 * szL szSent l := markL_ub64 (fun x k => by simp only [mkSent]; omega) l k
def mkNet (x : SNet) (k : Int) : SNet × Int :=
  let r1 := markL mkServer x.servers (k)
  let r2 := markL mkEntry x.cache.entries (r1.2)
  let r3 := markL mkSent x.log (r2.2)
  (⟨r1.1, ⟨r2.1⟩, r3.1, r3.2⟩, r3.2 + 1)
theorem mkNet_mono : Mono mkNet := by
  intro x k
  simp only [mkNet]
  have m0 := mkServerS_mono x.servers (k)
  generalize markL mkServer x.servers (k) = r1 at *
  have m1 := mkEntryS_mono x.cache.entries (r1.2)
  generalize markL mkEntry x.cache.entries (r1.2) = r2 at *
  have m2 := mkSentS_mono x.log (r2.2)
  generalize markL mkSent x.log (r2.2) = r3 at *
  omega
theorem mkNet_cnt (x : SNet) (k : Int) : k + 1 ≤ (mkNet x k).2 := by
  simp only [mkNet]
  have m0 := mkServerS_mono x.servers (k)
  generalize markL mkServer x.servers (k) = r1 at *
  have m1 := mkEntryS_mono x.cache.entries (r1.2)
  generalize markL mkEntry x.cache.entries (r1.2) = r2 at *
  have m2 := mkSentS_mono x.log (r2.2)
  generalize markL mkSent x.log (r2.2) = r3 at *
  omega
theorem mkNet_idem (x : SNet) (k : Int) : mkNet (mkNet x k).1 k = mkNet x k := by simp only [mkNet, mkEntryS_idem, mkSentS_idem, mkServerS_idem]
theorem mkNet_ub (x : SNet) (k : Int) : (mkNet x k).2 ≤ k + 64 * (szNet x + 1) := by
  simp only [mkNet]
  have u0 := mkServerS_ub64 x.servers (k)
  generalize markL mkServer x.servers (k) = r1 at *
  have u1 := mkEntryS_ub64 x.cache.entries (r1.2)
  generalize markL mkEntry x.cache.entries (r1.2) = r2 at *
  have u2 := mkSentS_ub64 x.log (r2.2)
  generalize markL mkSent x.log (r2.2) = r3 at *
  simp only [szCache, szNet]
  omega
theorem mkNetS_mono (l : List SNet) (k : Int) : k ≤ (markL mkNet l k).2 := markL_mono mkNet_mono l k
theorem mkNetS_idem (l : List SNet) (k : Int) : markL mkNet (markL mkNet l k).1 k = markL mkNet l k := markL_idem mkNet_idem l k
theorem mkNetS_ub64 (l : List SNet) (k : Int) : (markL mkNet l k).2 ≤ k + 64 * szL szNet l := markL_ub64 mkNet_ub l k
theorem mkNetS_bd (l : List SNet) (k : Int) : k ≤ (markL mkNet l k).2 ∧ (markL mkNet l k).2 ≤ k + 64 * szL szNet l ∧ markL mkNet (markL mkNet l k).1 k = markL mkNet l k := ⟨mkNetS_mono l k, mkNetS_ub64 l k, mkNetS_idem l k⟩
def mvNet (x : SNet) (k : Int) : SNet × Int :=
  let r1 := markL mkServer x.servers (k)
  let r2 := markL mkEntry x.cache.entries (r1.2)
  let r3 := markL mkSent x.log (r2.2)
  (⟨r1.1, ⟨r2.1⟩, r3.1, x.now⟩, r3.2)
theorem mvNet_mono (x : SNet) (k : Int) : k ≤ (mvNet x k).2 := by
  simp only [mvNet]
  have m0 := mkServerS_mono x.servers (k)
  generalize markL mkServer x.servers (k) = r1 at *
  have m1 := mkEntryS_mono x.cache.entries (r1.2)
  generalize markL mkEntry x.cache.entries (r1.2) = r2 at *
  have m2 := mkSentS_mono x.log (r2.2)
  generalize markL mkSent x.log (r2.2) = r3 at *
  omega
theorem mvNet_idem (x : SNet) (k : Int) : mvNet (mvNet x k).1 k = mvNet x k := by simp only [mvNet, mkEntryS_idem, mkSentS_idem, mkServerS_idem]
theorem mvNet_ub (x : SNet) (k : Int) : (mvNet x k).2 ≤ k + 64 * szNet x := by
  simp only [mvNet]
  have u0 := mkServerS_ub64 x.servers (k)
  generalize markL mkServer x.servers (k) = r1 at *
  have u1 := mkEntryS_ub64 x.cache.entries (r1.2)
  generalize markL mkEntry x.cache.entries (r1.2) = r2 at *
  have u2 := mkSentS_ub64 x.log (r2.2)
  generalize markL mkSent x.log (r2.2) = r3 at *
  simp only [szCache, szNet]
  omega
theorem mvNet_bd (x : SNet) (k : Int) : k ≤ (mvNet x k).2 ∧ (mvNet x k).2 ≤ k + 64 * szNet x ∧ mvNet (mvNet x k).1 k = mvNet x k := ⟨mvNet_mono x k, mvNet_ub x k, mvNet_idem x k⟩
theorem mkSlotS_mono (l : List SSlot) (k : Int) : k ≤ (markL mkSlot l k).2 := markL_mono mkSlot_mono l k
theorem mkSlotS_ub64 (l : List SSlot) (k : Int) : (markL mkSlot l k).2 ≤ k + 64 * szL szSlot l := markL_ub64 (fun x k => by simp only [mkSlot]; omega) l k
theorem mkModuleS_mono (l : List SModule) (k : Int) : k ≤ (markL mkModule l k).2 := markL_mono mkModule_mono l k
theorem mkModuleS_ub64 (l : List SModule) (k : Int) : (markL mkModule l k).2 ≤ k + 64 * szL szModule l := markL_ub64 (fun x k => by simp only [mkModule]; omega) l k
def mkPage (x : SPage) (k : Int) : SPage × Int :=
  let r1 := markL mkString x.policy.scripts (k + 3)
  let r2 := markL mkString x.policy.styles (r1.2)
  let r3 := markL mkString x.policy.images (r2.2)
  let r4 := markL mkToken x.queue (r3.2 + 2)
  let r5 := markL mkNode x.builder.nodes (r4.2 + 1)
  let r6 := markL mkInt x.builder.open_ (r5.2)
  let r7 := markL mkSlot x.slots (r6.2)
  let r8 := markL mkModule x.mods (r7.2)
  let r9 := markL mkAddr x.entries (r8.2)
  let r10 := markL mkAddr x.ran (r9.2 + 4)
  let r11 := markL mkString x.log (r10.2)
  (⟨⟨mtext (k), mtext (k + 1)⟩, ⟨(k + 2).tmod 3 == 0, r1.1, r2.1, r3.1, mtext (r3.2)⟩, ⟨mtext (r3.2 + 1)⟩, r4.1, (r4.2).tmod 3 == 0, ⟨r5.1, r6.1⟩, r7.1, r8.1, r9.1, r9.2, r9.2 + 1, r9.2 + 2, r9.2 + 3, r10.1, r11.1, (r11.2).tmod 3 == 0⟩, r11.2 + 1)
theorem mkPage_mono : Mono mkPage := by
  intro x k
  simp only [mkPage]
  have m0 := mkStringS_mono x.policy.scripts (k + 3)
  generalize markL mkString x.policy.scripts (k + 3) = r1 at *
  have m1 := mkStringS_mono x.policy.styles (r1.2)
  generalize markL mkString x.policy.styles (r1.2) = r2 at *
  have m2 := mkStringS_mono x.policy.images (r2.2)
  generalize markL mkString x.policy.images (r2.2) = r3 at *
  have m3 := mkTokenS_mono x.queue (r3.2 + 2)
  generalize markL mkToken x.queue (r3.2 + 2) = r4 at *
  have m4 := mkNodeS_mono x.builder.nodes (r4.2 + 1)
  generalize markL mkNode x.builder.nodes (r4.2 + 1) = r5 at *
  have m5 := mkIntS_mono x.builder.open_ (r5.2)
  generalize markL mkInt x.builder.open_ (r5.2) = r6 at *
  have m6 := mkSlotS_mono x.slots (r6.2)
  generalize markL mkSlot x.slots (r6.2) = r7 at *
  have m7 := mkModuleS_mono x.mods (r7.2)
  generalize markL mkModule x.mods (r7.2) = r8 at *
  have m8 := mkAddrS_mono x.entries (r8.2)
  generalize markL mkAddr x.entries (r8.2) = r9 at *
  have m9 := mkAddrS_mono x.ran (r9.2 + 4)
  generalize markL mkAddr x.ran (r9.2 + 4) = r10 at *
  have m10 := mkStringS_mono x.log (r10.2)
  generalize markL mkString x.log (r10.2) = r11 at *
  omega
theorem mkPage_cnt (x : SPage) (k : Int) : k + 1 ≤ (mkPage x k).2 := by
  simp only [mkPage]
  have m0 := mkStringS_mono x.policy.scripts (k + 3)
  generalize markL mkString x.policy.scripts (k + 3) = r1 at *
  have m1 := mkStringS_mono x.policy.styles (r1.2)
  generalize markL mkString x.policy.styles (r1.2) = r2 at *
  have m2 := mkStringS_mono x.policy.images (r2.2)
  generalize markL mkString x.policy.images (r2.2) = r3 at *
  have m3 := mkTokenS_mono x.queue (r3.2 + 2)
  generalize markL mkToken x.queue (r3.2 + 2) = r4 at *
  have m4 := mkNodeS_mono x.builder.nodes (r4.2 + 1)
  generalize markL mkNode x.builder.nodes (r4.2 + 1) = r5 at *
  have m5 := mkIntS_mono x.builder.open_ (r5.2)
  generalize markL mkInt x.builder.open_ (r5.2) = r6 at *
  have m6 := mkSlotS_mono x.slots (r6.2)
  generalize markL mkSlot x.slots (r6.2) = r7 at *
  have m7 := mkModuleS_mono x.mods (r7.2)
  generalize markL mkModule x.mods (r7.2) = r8 at *
  have m8 := mkAddrS_mono x.entries (r8.2)
  generalize markL mkAddr x.entries (r8.2) = r9 at *
  have m9 := mkAddrS_mono x.ran (r9.2 + 4)
  generalize markL mkAddr x.ran (r9.2 + 4) = r10 at *
  have m10 := mkStringS_mono x.log (r10.2)
  generalize markL mkString x.log (r10.2) = r11 at *
  omega
theorem mkPage_idem (x : SPage) (k : Int) : mkPage (mkPage x k).1 k = mkPage x k := by simp only [mkPage, mkAddrS_idem, mkIntS_idem, mkModuleS_idem, mkNodeS_idem, mkSlotS_idem, mkStringS_idem, mkTokenS_idem]
theorem mkPage_ub (x : SPage) (k : Int) : (mkPage x k).2 ≤ k + 64 * (szPage x + 1) := by
  simp only [mkPage]
  have u0 := mkStringS_ub64 x.policy.scripts (k + 3)
  generalize markL mkString x.policy.scripts (k + 3) = r1 at *
  have u1 := mkStringS_ub64 x.policy.styles (r1.2)
  generalize markL mkString x.policy.styles (r1.2) = r2 at *
  have u2 := mkStringS_ub64 x.policy.images (r2.2)
  generalize markL mkString x.policy.images (r2.2) = r3 at *
  have u3 := mkTokenS_ub64 x.queue (r3.2 + 2)
  generalize markL mkToken x.queue (r3.2 + 2) = r4 at *
  have u4 := mkNodeS_ub64 x.builder.nodes (r4.2 + 1)
  generalize markL mkNode x.builder.nodes (r4.2 + 1) = r5 at *
  have u5 := mkIntS_ub64 x.builder.open_ (r5.2)
  generalize markL mkInt x.builder.open_ (r5.2) = r6 at *
  have u6 := mkSlotS_ub64 x.slots (r6.2)
  generalize markL mkSlot x.slots (r6.2) = r7 at *
  have u7 := mkModuleS_ub64 x.mods (r7.2)
  generalize markL mkModule x.mods (r7.2) = r8 at *
  have u8 := mkAddrS_ub64 x.entries (r8.2)
  generalize markL mkAddr x.entries (r8.2) = r9 at *
  have u9 := mkAddrS_ub64 x.ran (r9.2 + 4)
  generalize markL mkAddr x.ran (r9.2 + 4) = r10 at *
  have u10 := mkStringS_ub64 x.log (r10.2)
  generalize markL mkString x.log (r10.2) = r11 at *
  simp only [szAddr, szBuilder, szPage, szPolicy, szTokenizer]
  omega
theorem mkPageS_mono (l : List SPage) (k : Int) : k ≤ (markL mkPage l k).2 := markL_mono mkPage_mono l k
theorem mkPageS_idem (l : List SPage) (k : Int) : markL mkPage (markL mkPage l k).1 k = markL mkPage l k := markL_idem mkPage_idem l k
theorem mkPageS_ub64 (l : List SPage) (k : Int) : (markL mkPage l k).2 ≤ k + 64 * szL szPage l := markL_ub64 mkPage_ub l k
theorem mkPageS_bd (l : List SPage) (k : Int) : k ≤ (markL mkPage l k).2 ∧ (markL mkPage l k).2 ≤ k + 64 * szL szPage l ∧ markL mkPage (markL mkPage l k).1 k = markL mkPage l k := ⟨mkPageS_mono l k, mkPageS_ub64 l k, mkPageS_idem l k⟩
def mvPage (x : SPage) (k : Int) : SPage × Int :=
  let r1 := markL mkString x.policy.scripts (k)
  let r2 := markL mkString x.policy.styles (r1.2)
  let r3 := markL mkString x.policy.images (r2.2)
  let r4 := markL mkToken x.queue (r3.2)
  let r5 := markL mkNode x.builder.nodes (r4.2)
  let r6 := markL mkInt x.builder.open_ (r5.2)
  let r7 := markL mkSlot x.slots (r6.2)
  let r8 := markL mkModule x.mods (r7.2)
  let r9 := markL mkAddr x.entries (r8.2)
  let r10 := markL mkAddr x.ran (r9.2)
  let r11 := markL mkString x.log (r10.2)
  (⟨x.addr, ⟨x.policy.set_, r1.1, r2.1, r3.1, x.policy.nonce⟩, x.tok, r4.1, x.ended, ⟨r5.1, r6.1⟩, r7.1, r8.1, r9.1, x.block, x.inline, x.deferred, x.entered, r10.1, r11.1, x.loaded⟩, r11.2)
theorem mvPage_mono (x : SPage) (k : Int) : k ≤ (mvPage x k).2 := by
  simp only [mvPage]
  have m0 := mkStringS_mono x.policy.scripts (k)
  generalize markL mkString x.policy.scripts (k) = r1 at *
  have m1 := mkStringS_mono x.policy.styles (r1.2)
  generalize markL mkString x.policy.styles (r1.2) = r2 at *
  have m2 := mkStringS_mono x.policy.images (r2.2)
  generalize markL mkString x.policy.images (r2.2) = r3 at *
  have m3 := mkTokenS_mono x.queue (r3.2)
  generalize markL mkToken x.queue (r3.2) = r4 at *
  have m4 := mkNodeS_mono x.builder.nodes (r4.2)
  generalize markL mkNode x.builder.nodes (r4.2) = r5 at *
  have m5 := mkIntS_mono x.builder.open_ (r5.2)
  generalize markL mkInt x.builder.open_ (r5.2) = r6 at *
  have m6 := mkSlotS_mono x.slots (r6.2)
  generalize markL mkSlot x.slots (r6.2) = r7 at *
  have m7 := mkModuleS_mono x.mods (r7.2)
  generalize markL mkModule x.mods (r7.2) = r8 at *
  have m8 := mkAddrS_mono x.entries (r8.2)
  generalize markL mkAddr x.entries (r8.2) = r9 at *
  have m9 := mkAddrS_mono x.ran (r9.2)
  generalize markL mkAddr x.ran (r9.2) = r10 at *
  have m10 := mkStringS_mono x.log (r10.2)
  generalize markL mkString x.log (r10.2) = r11 at *
  omega
theorem mvPage_idem (x : SPage) (k : Int) : mvPage (mvPage x k).1 k = mvPage x k := by simp only [mvPage, mkAddrS_idem, mkIntS_idem, mkModuleS_idem, mkNodeS_idem, mkSlotS_idem, mkStringS_idem, mkTokenS_idem]
theorem mvPage_ub (x : SPage) (k : Int) : (mvPage x k).2 ≤ k + 64 * szPage x := by
  simp only [mvPage]
  have u0 := mkStringS_ub64 x.policy.scripts (k)
  generalize markL mkString x.policy.scripts (k) = r1 at *
  have u1 := mkStringS_ub64 x.policy.styles (r1.2)
  generalize markL mkString x.policy.styles (r1.2) = r2 at *
  have u2 := mkStringS_ub64 x.policy.images (r2.2)
  generalize markL mkString x.policy.images (r2.2) = r3 at *
  have u3 := mkTokenS_ub64 x.queue (r3.2)
  generalize markL mkToken x.queue (r3.2) = r4 at *
  have u4 := mkNodeS_ub64 x.builder.nodes (r4.2)
  generalize markL mkNode x.builder.nodes (r4.2) = r5 at *
  have u5 := mkIntS_ub64 x.builder.open_ (r5.2)
  generalize markL mkInt x.builder.open_ (r5.2) = r6 at *
  have u6 := mkSlotS_ub64 x.slots (r6.2)
  generalize markL mkSlot x.slots (r6.2) = r7 at *
  have u7 := mkModuleS_ub64 x.mods (r7.2)
  generalize markL mkModule x.mods (r7.2) = r8 at *
  have u8 := mkAddrS_ub64 x.entries (r8.2)
  generalize markL mkAddr x.entries (r8.2) = r9 at *
  have u9 := mkAddrS_ub64 x.ran (r9.2)
  generalize markL mkAddr x.ran (r9.2) = r10 at *
  have u10 := mkStringS_ub64 x.log (r10.2)
  generalize markL mkString x.log (r10.2) = r11 at *
  simp only [szAddr, szBuilder, szPage, szPolicy, szTokenizer]
  omega
theorem mvPage_bd (x : SPage) (k : Int) : k ≤ (mvPage x k).2 ∧ (mvPage x k).2 ≤ k + 64 * szPage x ∧ mvPage (mvPage x k).1 k = mvPage x k := ⟨mvPage_mono x k, mvPage_ub x k, mvPage_idem x k⟩
def mkResult (x : SResult) (k : Int) : SResult × Int :=
  let r1 := markL mkNode x.builder.nodes (k)
  let r2 := markL mkInt x.builder.open_ (r1.2)
  let r3 := markL mkString x.log (r2.2)
  let r4 := markL mkString x.verdicts (r3.2)
  let r5 := markL mkRule x.sheet.rules (r4.2)
  (⟨⟨r1.1, r2.1⟩, r3.1, r4.1, ⟨r5.1⟩, (r5.2).tmod 3 == 0⟩, r5.2 + 1)
theorem mkResult_mono : Mono mkResult := by
  intro x k
  simp only [mkResult]
  have m0 := mkNodeS_mono x.builder.nodes (k)
  generalize markL mkNode x.builder.nodes (k) = r1 at *
  have m1 := mkIntS_mono x.builder.open_ (r1.2)
  generalize markL mkInt x.builder.open_ (r1.2) = r2 at *
  have m2 := mkStringS_mono x.log (r2.2)
  generalize markL mkString x.log (r2.2) = r3 at *
  have m3 := mkStringS_mono x.verdicts (r3.2)
  generalize markL mkString x.verdicts (r3.2) = r4 at *
  have m4 := mkRuleS_mono x.sheet.rules (r4.2)
  generalize markL mkRule x.sheet.rules (r4.2) = r5 at *
  omega
theorem mkResult_cnt (x : SResult) (k : Int) : k + 1 ≤ (mkResult x k).2 := by
  simp only [mkResult]
  have m0 := mkNodeS_mono x.builder.nodes (k)
  generalize markL mkNode x.builder.nodes (k) = r1 at *
  have m1 := mkIntS_mono x.builder.open_ (r1.2)
  generalize markL mkInt x.builder.open_ (r1.2) = r2 at *
  have m2 := mkStringS_mono x.log (r2.2)
  generalize markL mkString x.log (r2.2) = r3 at *
  have m3 := mkStringS_mono x.verdicts (r3.2)
  generalize markL mkString x.verdicts (r3.2) = r4 at *
  have m4 := mkRuleS_mono x.sheet.rules (r4.2)
  generalize markL mkRule x.sheet.rules (r4.2) = r5 at *
  omega
theorem mkResult_idem (x : SResult) (k : Int) : mkResult (mkResult x k).1 k = mkResult x k := by simp only [mkResult, mkIntS_idem, mkNodeS_idem, mkRuleS_idem, mkStringS_idem]
theorem mkResult_ub (x : SResult) (k : Int) : (mkResult x k).2 ≤ k + 64 * (szResult x + 1) := by
  simp only [mkResult]
  have u0 := mkNodeS_ub64 x.builder.nodes (k)
  generalize markL mkNode x.builder.nodes (k) = r1 at *
  have u1 := mkIntS_ub64 x.builder.open_ (r1.2)
  generalize markL mkInt x.builder.open_ (r1.2) = r2 at *
  have u2 := mkStringS_ub64 x.log (r2.2)
  generalize markL mkString x.log (r2.2) = r3 at *
  have u3 := mkStringS_ub64 x.verdicts (r3.2)
  generalize markL mkString x.verdicts (r3.2) = r4 at *
  have u4 := mkRuleS_ub64 x.sheet.rules (r4.2)
  generalize markL mkRule x.sheet.rules (r4.2) = r5 at *
  simp only [szBuilder, szResult, szSheet]
  omega
theorem mkResultS_mono (l : List SResult) (k : Int) : k ≤ (markL mkResult l k).2 := markL_mono mkResult_mono l k
theorem mkResultS_idem (l : List SResult) (k : Int) : markL mkResult (markL mkResult l k).1 k = markL mkResult l k := markL_idem mkResult_idem l k
theorem mkResultS_ub64 (l : List SResult) (k : Int) : (markL mkResult l k).2 ≤ k + 64 * szL szResult l := markL_ub64 mkResult_ub l k
theorem mkResultS_bd (l : List SResult) (k : Int) : k ≤ (markL mkResult l k).2 ∧ (markL mkResult l k).2 ≤ k + 64 * szL szResult l ∧ markL mkResult (markL mkResult l k).1 k = markL mkResult l k := ⟨mkResultS_mono l k, mkResultS_ub64 l k, mkResultS_idem l k⟩
def mvResult (x : SResult) (k : Int) : SResult × Int :=
  let r1 := markL mkNode x.builder.nodes (k)
  let r2 := markL mkInt x.builder.open_ (r1.2)
  let r3 := markL mkString x.log (r2.2)
  let r4 := markL mkString x.verdicts (r3.2)
  let r5 := markL mkRule x.sheet.rules (r4.2)
  (⟨⟨r1.1, r2.1⟩, r3.1, r4.1, ⟨r5.1⟩, x.loaded⟩, r5.2)
theorem mvResult_mono (x : SResult) (k : Int) : k ≤ (mvResult x k).2 := by
  simp only [mvResult]
  have m0 := mkNodeS_mono x.builder.nodes (k)
  generalize markL mkNode x.builder.nodes (k) = r1 at *
  have m1 := mkIntS_mono x.builder.open_ (r1.2)
  generalize markL mkInt x.builder.open_ (r1.2) = r2 at *
  have m2 := mkStringS_mono x.log (r2.2)
  generalize markL mkString x.log (r2.2) = r3 at *
  have m3 := mkStringS_mono x.verdicts (r3.2)
  generalize markL mkString x.verdicts (r3.2) = r4 at *
  have m4 := mkRuleS_mono x.sheet.rules (r4.2)
  generalize markL mkRule x.sheet.rules (r4.2) = r5 at *
  omega
theorem mvResult_idem (x : SResult) (k : Int) : mvResult (mvResult x k).1 k = mvResult x k := by simp only [mvResult, mkIntS_idem, mkNodeS_idem, mkRuleS_idem, mkStringS_idem]
theorem mvResult_ub (x : SResult) (k : Int) : (mvResult x k).2 ≤ k + 64 * szResult x := by
  simp only [mvResult]
  have u0 := mkNodeS_ub64 x.builder.nodes (k)
  generalize markL mkNode x.builder.nodes (k) = r1 at *
  have u1 := mkIntS_ub64 x.builder.open_ (r1.2)
  generalize markL mkInt x.builder.open_ (r1.2) = r2 at *
  have u2 := mkStringS_ub64 x.log (r2.2)
  generalize markL mkString x.log (r2.2) = r3 at *
  have u3 := mkStringS_ub64 x.verdicts (r3.2)
  generalize markL mkString x.verdicts (r3.2) = r4 at *
  have u4 := mkRuleS_ub64 x.sheet.rules (r4.2)
  generalize markL mkRule x.sheet.rules (r4.2) = r5 at *
  simp only [szBuilder, szResult, szSheet]
  omega
theorem mvResult_bd (x : SResult) (k : Int) : k ≤ (mvResult x k).2 ∧ (mvResult x k).2 ≤ k + 64 * szResult x ∧ mvResult (mvResult x k).1 k = mvResult x k := ⟨mvResult_mono x k, mvResult_ub x k, mvResult_idem x k⟩
theorem mkGuessS_mono (l : List SGuess) (k : Int) : k ≤ (markL mkGuess l k).2 := markL_mono mkGuess_mono l k
theorem mkGuessS_ub64 (l : List SGuess) (k : Int) : (markL mkGuess l k).2 ≤ k + 64 * szL szGuess l := markL_ub64 (fun x k => by simp only [mkGuess]; omega) l k
theorem mkConnS_mono (l : List SConn) (k : Int) : k ≤ (markL mkConn l k).2 := markL_mono mkConn_mono l k
theorem mkConnS_ub64 (l : List SConn) (k : Int) : (markL mkConn l k).2 ≤ k + 64 * szL szConn l := markL_ub64 (fun x k => by simp only [mkConn]; omega) l k
def mkLoader (x : SLoader) (k : Int) : SLoader × Int :=
  let r1 := markL mkServer x.net.servers (k)
  let r2 := markL mkEntry x.net.cache.entries (r1.2)
  let r3 := markL mkSent x.net.log (r2.2)
  let r4 := markL mkString x.page.policy.scripts (r3.2 + 4)
  let r5 := markL mkString x.page.policy.styles (r4.2)
  let r6 := markL mkString x.page.policy.images (r5.2)
  let r7 := markL mkToken x.page.queue (r6.2 + 2)
  let r8 := markL mkNode x.page.builder.nodes (r7.2 + 1)
  let r9 := markL mkInt x.page.builder.open_ (r8.2)
  let r10 := markL mkSlot x.page.slots (r9.2)
  let r11 := markL mkModule x.page.mods (r10.2)
  let r12 := markL mkAddr x.page.entries (r11.2)
  let r13 := markL mkAddr x.page.ran (r12.2 + 4)
  let r14 := markL mkString x.page.log (r13.2)
  let r15 := markL mkString x.parts (r14.2 + 1)
  let r16 := markL mkConn x.conns (r15.2)
  let r17 := markL mkGuess x.guesses (r16.2)
  (⟨⟨r1.1, ⟨r2.1⟩, r3.1, r3.2⟩, ⟨⟨mtext (r3.2 + 1), mtext (r3.2 + 2)⟩, ⟨(r3.2 + 3).tmod 3 == 0, r4.1, r5.1, r6.1, mtext (r6.2)⟩, ⟨mtext (r6.2 + 1)⟩, r7.1, (r7.2).tmod 3 == 0, ⟨r8.1, r9.1⟩, r10.1, r11.1, r12.1, r12.2, r12.2 + 1, r12.2 + 2, r12.2 + 3, r13.1, r14.1, (r14.2).tmod 3 == 0⟩, r15.1, r16.1, r17.1⟩, r17.2)
theorem mkLoader_mono : Mono mkLoader := by
  intro x k
  simp only [mkLoader]
  have m0 := mkServerS_mono x.net.servers (k)
  generalize markL mkServer x.net.servers (k) = r1 at *
  have m1 := mkEntryS_mono x.net.cache.entries (r1.2)
  generalize markL mkEntry x.net.cache.entries (r1.2) = r2 at *
  have m2 := mkSentS_mono x.net.log (r2.2)
  generalize markL mkSent x.net.log (r2.2) = r3 at *
  have m3 := mkStringS_mono x.page.policy.scripts (r3.2 + 4)
  generalize markL mkString x.page.policy.scripts (r3.2 + 4) = r4 at *
  have m4 := mkStringS_mono x.page.policy.styles (r4.2)
  generalize markL mkString x.page.policy.styles (r4.2) = r5 at *
  have m5 := mkStringS_mono x.page.policy.images (r5.2)
  generalize markL mkString x.page.policy.images (r5.2) = r6 at *
  have m6 := mkTokenS_mono x.page.queue (r6.2 + 2)
  generalize markL mkToken x.page.queue (r6.2 + 2) = r7 at *
  have m7 := mkNodeS_mono x.page.builder.nodes (r7.2 + 1)
  generalize markL mkNode x.page.builder.nodes (r7.2 + 1) = r8 at *
  have m8 := mkIntS_mono x.page.builder.open_ (r8.2)
  generalize markL mkInt x.page.builder.open_ (r8.2) = r9 at *
  have m9 := mkSlotS_mono x.page.slots (r9.2)
  generalize markL mkSlot x.page.slots (r9.2) = r10 at *
  have m10 := mkModuleS_mono x.page.mods (r10.2)
  generalize markL mkModule x.page.mods (r10.2) = r11 at *
  have m11 := mkAddrS_mono x.page.entries (r11.2)
  generalize markL mkAddr x.page.entries (r11.2) = r12 at *
  have m12 := mkAddrS_mono x.page.ran (r12.2 + 4)
  generalize markL mkAddr x.page.ran (r12.2 + 4) = r13 at *
  have m13 := mkStringS_mono x.page.log (r13.2)
  generalize markL mkString x.page.log (r13.2) = r14 at *
  have m14 := mkStringS_mono x.parts (r14.2 + 1)
  generalize markL mkString x.parts (r14.2 + 1) = r15 at *
  have m15 := mkConnS_mono x.conns (r15.2)
  generalize markL mkConn x.conns (r15.2) = r16 at *
  have m16 := mkGuessS_mono x.guesses (r16.2)
  generalize markL mkGuess x.guesses (r16.2) = r17 at *
  omega
theorem mkLoader_cnt (x : SLoader) (k : Int) : k + 1 ≤ (mkLoader x k).2 := by
  simp only [mkLoader]
  have m0 := mkServerS_mono x.net.servers (k)
  generalize markL mkServer x.net.servers (k) = r1 at *
  have m1 := mkEntryS_mono x.net.cache.entries (r1.2)
  generalize markL mkEntry x.net.cache.entries (r1.2) = r2 at *
  have m2 := mkSentS_mono x.net.log (r2.2)
  generalize markL mkSent x.net.log (r2.2) = r3 at *
  have m3 := mkStringS_mono x.page.policy.scripts (r3.2 + 4)
  generalize markL mkString x.page.policy.scripts (r3.2 + 4) = r4 at *
  have m4 := mkStringS_mono x.page.policy.styles (r4.2)
  generalize markL mkString x.page.policy.styles (r4.2) = r5 at *
  have m5 := mkStringS_mono x.page.policy.images (r5.2)
  generalize markL mkString x.page.policy.images (r5.2) = r6 at *
  have m6 := mkTokenS_mono x.page.queue (r6.2 + 2)
  generalize markL mkToken x.page.queue (r6.2 + 2) = r7 at *
  have m7 := mkNodeS_mono x.page.builder.nodes (r7.2 + 1)
  generalize markL mkNode x.page.builder.nodes (r7.2 + 1) = r8 at *
  have m8 := mkIntS_mono x.page.builder.open_ (r8.2)
  generalize markL mkInt x.page.builder.open_ (r8.2) = r9 at *
  have m9 := mkSlotS_mono x.page.slots (r9.2)
  generalize markL mkSlot x.page.slots (r9.2) = r10 at *
  have m10 := mkModuleS_mono x.page.mods (r10.2)
  generalize markL mkModule x.page.mods (r10.2) = r11 at *
  have m11 := mkAddrS_mono x.page.entries (r11.2)
  generalize markL mkAddr x.page.entries (r11.2) = r12 at *
  have m12 := mkAddrS_mono x.page.ran (r12.2 + 4)
  generalize markL mkAddr x.page.ran (r12.2 + 4) = r13 at *
  have m13 := mkStringS_mono x.page.log (r13.2)
  generalize markL mkString x.page.log (r13.2) = r14 at *
  have m14 := mkStringS_mono x.parts (r14.2 + 1)
  generalize markL mkString x.parts (r14.2 + 1) = r15 at *
  have m15 := mkConnS_mono x.conns (r15.2)
  generalize markL mkConn x.conns (r15.2) = r16 at *
  have m16 := mkGuessS_mono x.guesses (r16.2)
  generalize markL mkGuess x.guesses (r16.2) = r17 at *
  omega
theorem mkLoader_idem (x : SLoader) (k : Int) : mkLoader (mkLoader x k).1 k = mkLoader x k := by simp only [mkLoader, mkAddrS_idem, mkConnS_idem, mkEntryS_idem, mkGuessS_idem, mkIntS_idem, mkModuleS_idem, mkNodeS_idem, mkSentS_idem, mkServerS_idem, mkSlotS_idem, mkStringS_idem, mkTokenS_idem]
theorem mkLoader_ub (x : SLoader) (k : Int) : (mkLoader x k).2 ≤ k + 64 * (szLoader x + 1) := by
  simp only [mkLoader]
  have u0 := mkServerS_ub64 x.net.servers (k)
  generalize markL mkServer x.net.servers (k) = r1 at *
  have u1 := mkEntryS_ub64 x.net.cache.entries (r1.2)
  generalize markL mkEntry x.net.cache.entries (r1.2) = r2 at *
  have u2 := mkSentS_ub64 x.net.log (r2.2)
  generalize markL mkSent x.net.log (r2.2) = r3 at *
  have u3 := mkStringS_ub64 x.page.policy.scripts (r3.2 + 4)
  generalize markL mkString x.page.policy.scripts (r3.2 + 4) = r4 at *
  have u4 := mkStringS_ub64 x.page.policy.styles (r4.2)
  generalize markL mkString x.page.policy.styles (r4.2) = r5 at *
  have u5 := mkStringS_ub64 x.page.policy.images (r5.2)
  generalize markL mkString x.page.policy.images (r5.2) = r6 at *
  have u6 := mkTokenS_ub64 x.page.queue (r6.2 + 2)
  generalize markL mkToken x.page.queue (r6.2 + 2) = r7 at *
  have u7 := mkNodeS_ub64 x.page.builder.nodes (r7.2 + 1)
  generalize markL mkNode x.page.builder.nodes (r7.2 + 1) = r8 at *
  have u8 := mkIntS_ub64 x.page.builder.open_ (r8.2)
  generalize markL mkInt x.page.builder.open_ (r8.2) = r9 at *
  have u9 := mkSlotS_ub64 x.page.slots (r9.2)
  generalize markL mkSlot x.page.slots (r9.2) = r10 at *
  have u10 := mkModuleS_ub64 x.page.mods (r10.2)
  generalize markL mkModule x.page.mods (r10.2) = r11 at *
  have u11 := mkAddrS_ub64 x.page.entries (r11.2)
  generalize markL mkAddr x.page.entries (r11.2) = r12 at *
  have u12 := mkAddrS_ub64 x.page.ran (r12.2 + 4)
  generalize markL mkAddr x.page.ran (r12.2 + 4) = r13 at *
  have u13 := mkStringS_ub64 x.page.log (r13.2)
  generalize markL mkString x.page.log (r13.2) = r14 at *
  have u14 := mkStringS_ub64 x.parts (r14.2 + 1)
  generalize markL mkString x.parts (r14.2 + 1) = r15 at *
  have u15 := mkConnS_ub64 x.conns (r15.2)
  generalize markL mkConn x.conns (r15.2) = r16 at *
  have u16 := mkGuessS_ub64 x.guesses (r16.2)
  generalize markL mkGuess x.guesses (r16.2) = r17 at *
  simp only [szAddr, szBuilder, szCache, szLoader, szNet, szPage, szPolicy, szTokenizer]
  omega
theorem mkLoaderS_mono (l : List SLoader) (k : Int) : k ≤ (markL mkLoader l k).2 := markL_mono mkLoader_mono l k
theorem mkLoaderS_idem (l : List SLoader) (k : Int) : markL mkLoader (markL mkLoader l k).1 k = markL mkLoader l k := markL_idem mkLoader_idem l k
theorem mkLoaderS_ub64 (l : List SLoader) (k : Int) : (markL mkLoader l k).2 ≤ k + 64 * szL szLoader l := markL_ub64 mkLoader_ub l k
theorem mkLoaderS_bd (l : List SLoader) (k : Int) : k ≤ (markL mkLoader l k).2 ∧ (markL mkLoader l k).2 ≤ k + 64 * szL szLoader l ∧ markL mkLoader (markL mkLoader l k).1 k = markL mkLoader l k := ⟨mkLoaderS_mono l k, mkLoaderS_ub64 l k, mkLoaderS_idem l k⟩
def mvLoader (x : SLoader) (k : Int) : SLoader × Int :=
  let r1 := markL mkServer x.net.servers (k)
  let r2 := markL mkEntry x.net.cache.entries (r1.2)
  let r3 := markL mkSent x.net.log (r2.2)
  let r4 := markL mkString x.page.policy.scripts (r3.2)
  let r5 := markL mkString x.page.policy.styles (r4.2)
  let r6 := markL mkString x.page.policy.images (r5.2)
  let r7 := markL mkToken x.page.queue (r6.2)
  let r8 := markL mkNode x.page.builder.nodes (r7.2)
  let r9 := markL mkInt x.page.builder.open_ (r8.2)
  let r10 := markL mkSlot x.page.slots (r9.2)
  let r11 := markL mkModule x.page.mods (r10.2)
  let r12 := markL mkAddr x.page.entries (r11.2)
  let r13 := markL mkAddr x.page.ran (r12.2)
  let r14 := markL mkString x.page.log (r13.2)
  let r15 := markL mkString x.parts (r14.2)
  let r16 := markL mkConn x.conns (r15.2)
  let r17 := markL mkGuess x.guesses (r16.2)
  (⟨⟨r1.1, ⟨r2.1⟩, r3.1, x.net.now⟩, ⟨x.page.addr, ⟨x.page.policy.set_, r4.1, r5.1, r6.1, x.page.policy.nonce⟩, x.page.tok, r7.1, x.page.ended, ⟨r8.1, r9.1⟩, r10.1, r11.1, r12.1, x.page.block, x.page.inline, x.page.deferred, x.page.entered, r13.1, r14.1, x.page.loaded⟩, r15.1, r16.1, r17.1⟩, r17.2)
theorem mvLoader_mono (x : SLoader) (k : Int) : k ≤ (mvLoader x k).2 := by
  simp only [mvLoader]
  have m0 := mkServerS_mono x.net.servers (k)
  generalize markL mkServer x.net.servers (k) = r1 at *
  have m1 := mkEntryS_mono x.net.cache.entries (r1.2)
  generalize markL mkEntry x.net.cache.entries (r1.2) = r2 at *
  have m2 := mkSentS_mono x.net.log (r2.2)
  generalize markL mkSent x.net.log (r2.2) = r3 at *
  have m3 := mkStringS_mono x.page.policy.scripts (r3.2)
  generalize markL mkString x.page.policy.scripts (r3.2) = r4 at *
  have m4 := mkStringS_mono x.page.policy.styles (r4.2)
  generalize markL mkString x.page.policy.styles (r4.2) = r5 at *
  have m5 := mkStringS_mono x.page.policy.images (r5.2)
  generalize markL mkString x.page.policy.images (r5.2) = r6 at *
  have m6 := mkTokenS_mono x.page.queue (r6.2)
  generalize markL mkToken x.page.queue (r6.2) = r7 at *
  have m7 := mkNodeS_mono x.page.builder.nodes (r7.2)
  generalize markL mkNode x.page.builder.nodes (r7.2) = r8 at *
  have m8 := mkIntS_mono x.page.builder.open_ (r8.2)
  generalize markL mkInt x.page.builder.open_ (r8.2) = r9 at *
  have m9 := mkSlotS_mono x.page.slots (r9.2)
  generalize markL mkSlot x.page.slots (r9.2) = r10 at *
  have m10 := mkModuleS_mono x.page.mods (r10.2)
  generalize markL mkModule x.page.mods (r10.2) = r11 at *
  have m11 := mkAddrS_mono x.page.entries (r11.2)
  generalize markL mkAddr x.page.entries (r11.2) = r12 at *
  have m12 := mkAddrS_mono x.page.ran (r12.2)
  generalize markL mkAddr x.page.ran (r12.2) = r13 at *
  have m13 := mkStringS_mono x.page.log (r13.2)
  generalize markL mkString x.page.log (r13.2) = r14 at *
  have m14 := mkStringS_mono x.parts (r14.2)
  generalize markL mkString x.parts (r14.2) = r15 at *
  have m15 := mkConnS_mono x.conns (r15.2)
  generalize markL mkConn x.conns (r15.2) = r16 at *
  have m16 := mkGuessS_mono x.guesses (r16.2)
  generalize markL mkGuess x.guesses (r16.2) = r17 at *
  omega
theorem mvLoader_idem (x : SLoader) (k : Int) : mvLoader (mvLoader x k).1 k = mvLoader x k := by simp only [mvLoader, mkAddrS_idem, mkConnS_idem, mkEntryS_idem, mkGuessS_idem, mkIntS_idem, mkModuleS_idem, mkNodeS_idem, mkSentS_idem, mkServerS_idem, mkSlotS_idem, mkStringS_idem, mkTokenS_idem]
theorem mvLoader_ub (x : SLoader) (k : Int) : (mvLoader x k).2 ≤ k + 64 * szLoader x := by
  simp only [mvLoader]
  have u0 := mkServerS_ub64 x.net.servers (k)
  generalize markL mkServer x.net.servers (k) = r1 at *
  have u1 := mkEntryS_ub64 x.net.cache.entries (r1.2)
  generalize markL mkEntry x.net.cache.entries (r1.2) = r2 at *
  have u2 := mkSentS_ub64 x.net.log (r2.2)
  generalize markL mkSent x.net.log (r2.2) = r3 at *
  have u3 := mkStringS_ub64 x.page.policy.scripts (r3.2)
  generalize markL mkString x.page.policy.scripts (r3.2) = r4 at *
  have u4 := mkStringS_ub64 x.page.policy.styles (r4.2)
  generalize markL mkString x.page.policy.styles (r4.2) = r5 at *
  have u5 := mkStringS_ub64 x.page.policy.images (r5.2)
  generalize markL mkString x.page.policy.images (r5.2) = r6 at *
  have u6 := mkTokenS_ub64 x.page.queue (r6.2)
  generalize markL mkToken x.page.queue (r6.2) = r7 at *
  have u7 := mkNodeS_ub64 x.page.builder.nodes (r7.2)
  generalize markL mkNode x.page.builder.nodes (r7.2) = r8 at *
  have u8 := mkIntS_ub64 x.page.builder.open_ (r8.2)
  generalize markL mkInt x.page.builder.open_ (r8.2) = r9 at *
  have u9 := mkSlotS_ub64 x.page.slots (r9.2)
  generalize markL mkSlot x.page.slots (r9.2) = r10 at *
  have u10 := mkModuleS_ub64 x.page.mods (r10.2)
  generalize markL mkModule x.page.mods (r10.2) = r11 at *
  have u11 := mkAddrS_ub64 x.page.entries (r11.2)
  generalize markL mkAddr x.page.entries (r11.2) = r12 at *
  have u12 := mkAddrS_ub64 x.page.ran (r12.2)
  generalize markL mkAddr x.page.ran (r12.2) = r13 at *
  have u13 := mkStringS_ub64 x.page.log (r13.2)
  generalize markL mkString x.page.log (r13.2) = r14 at *
  have u14 := mkStringS_ub64 x.parts (r14.2)
  generalize markL mkString x.parts (r14.2) = r15 at *
  have u15 := mkConnS_ub64 x.conns (r15.2)
  generalize markL mkConn x.conns (r15.2) = r16 at *
  have u16 := mkGuessS_ub64 x.guesses (r16.2)
  generalize markL mkGuess x.guesses (r16.2) = r17 at *
  simp only [szAddr, szBuilder, szCache, szLoader, szNet, szPage, szPolicy, szTokenizer]
  omega
theorem mvLoader_bd (x : SLoader) (k : Int) : k ≤ (mvLoader x k).2 ∧ (mvLoader x k).2 ≤ k + 64 * szLoader x ∧ mvLoader (mvLoader x k).1 k = mvLoader x k := ⟨mvLoader_mono x k, mvLoader_ub x k, mvLoader_idem x k⟩
def mkVisit (x : SVisit) (k : Int) : SVisit × Int :=
  let r1 := markL mkString x.page.policy.scripts (k + 5)
  let r2 := markL mkString x.page.policy.styles (r1.2)
  let r3 := markL mkString x.page.policy.images (r2.2)
  let r4 := markL mkToken x.page.queue (r3.2 + 2)
  let r5 := markL mkNode x.page.builder.nodes (r4.2 + 1)
  let r6 := markL mkInt x.page.builder.open_ (r5.2)
  let r7 := markL mkSlot x.page.slots (r6.2)
  let r8 := markL mkModule x.page.mods (r7.2)
  let r9 := markL mkAddr x.page.entries (r8.2)
  let r10 := markL mkAddr x.page.ran (r9.2 + 4)
  let r11 := markL mkString x.page.log (r10.2)
  (⟨⟨mtext (k), mtext (k + 1)⟩, ⟨⟨mtext (k + 2), mtext (k + 3)⟩, ⟨(k + 4).tmod 3 == 0, r1.1, r2.1, r3.1, mtext (r3.2)⟩, ⟨mtext (r3.2 + 1)⟩, r4.1, (r4.2).tmod 3 == 0, ⟨r5.1, r6.1⟩, r7.1, r8.1, r9.1, r9.2, r9.2 + 1, r9.2 + 2, r9.2 + 3, r10.1, r11.1, (r11.2).tmod 3 == 0⟩, (r11.2 + 1).tmod 3 == 0⟩, r11.2 + 2)
theorem mkVisit_mono : Mono mkVisit := by
  intro x k
  simp only [mkVisit]
  have m0 := mkStringS_mono x.page.policy.scripts (k + 5)
  generalize markL mkString x.page.policy.scripts (k + 5) = r1 at *
  have m1 := mkStringS_mono x.page.policy.styles (r1.2)
  generalize markL mkString x.page.policy.styles (r1.2) = r2 at *
  have m2 := mkStringS_mono x.page.policy.images (r2.2)
  generalize markL mkString x.page.policy.images (r2.2) = r3 at *
  have m3 := mkTokenS_mono x.page.queue (r3.2 + 2)
  generalize markL mkToken x.page.queue (r3.2 + 2) = r4 at *
  have m4 := mkNodeS_mono x.page.builder.nodes (r4.2 + 1)
  generalize markL mkNode x.page.builder.nodes (r4.2 + 1) = r5 at *
  have m5 := mkIntS_mono x.page.builder.open_ (r5.2)
  generalize markL mkInt x.page.builder.open_ (r5.2) = r6 at *
  have m6 := mkSlotS_mono x.page.slots (r6.2)
  generalize markL mkSlot x.page.slots (r6.2) = r7 at *
  have m7 := mkModuleS_mono x.page.mods (r7.2)
  generalize markL mkModule x.page.mods (r7.2) = r8 at *
  have m8 := mkAddrS_mono x.page.entries (r8.2)
  generalize markL mkAddr x.page.entries (r8.2) = r9 at *
  have m9 := mkAddrS_mono x.page.ran (r9.2 + 4)
  generalize markL mkAddr x.page.ran (r9.2 + 4) = r10 at *
  have m10 := mkStringS_mono x.page.log (r10.2)
  generalize markL mkString x.page.log (r10.2) = r11 at *
  omega
theorem mkVisit_cnt (x : SVisit) (k : Int) : k + 1 ≤ (mkVisit x k).2 := by
  simp only [mkVisit]
  have m0 := mkStringS_mono x.page.policy.scripts (k + 5)
  generalize markL mkString x.page.policy.scripts (k + 5) = r1 at *
  have m1 := mkStringS_mono x.page.policy.styles (r1.2)
  generalize markL mkString x.page.policy.styles (r1.2) = r2 at *
  have m2 := mkStringS_mono x.page.policy.images (r2.2)
  generalize markL mkString x.page.policy.images (r2.2) = r3 at *
  have m3 := mkTokenS_mono x.page.queue (r3.2 + 2)
  generalize markL mkToken x.page.queue (r3.2 + 2) = r4 at *
  have m4 := mkNodeS_mono x.page.builder.nodes (r4.2 + 1)
  generalize markL mkNode x.page.builder.nodes (r4.2 + 1) = r5 at *
  have m5 := mkIntS_mono x.page.builder.open_ (r5.2)
  generalize markL mkInt x.page.builder.open_ (r5.2) = r6 at *
  have m6 := mkSlotS_mono x.page.slots (r6.2)
  generalize markL mkSlot x.page.slots (r6.2) = r7 at *
  have m7 := mkModuleS_mono x.page.mods (r7.2)
  generalize markL mkModule x.page.mods (r7.2) = r8 at *
  have m8 := mkAddrS_mono x.page.entries (r8.2)
  generalize markL mkAddr x.page.entries (r8.2) = r9 at *
  have m9 := mkAddrS_mono x.page.ran (r9.2 + 4)
  generalize markL mkAddr x.page.ran (r9.2 + 4) = r10 at *
  have m10 := mkStringS_mono x.page.log (r10.2)
  generalize markL mkString x.page.log (r10.2) = r11 at *
  omega
theorem mkVisit_idem (x : SVisit) (k : Int) : mkVisit (mkVisit x k).1 k = mkVisit x k := by simp only [mkVisit, mkAddrS_idem, mkIntS_idem, mkModuleS_idem, mkNodeS_idem, mkSlotS_idem, mkStringS_idem, mkTokenS_idem]
theorem mkVisit_ub (x : SVisit) (k : Int) : (mkVisit x k).2 ≤ k + 64 * (szVisit x + 1) := by
  simp only [mkVisit]
  have u0 := mkStringS_ub64 x.page.policy.scripts (k + 5)
  generalize markL mkString x.page.policy.scripts (k + 5) = r1 at *
  have u1 := mkStringS_ub64 x.page.policy.styles (r1.2)
  generalize markL mkString x.page.policy.styles (r1.2) = r2 at *
  have u2 := mkStringS_ub64 x.page.policy.images (r2.2)
  generalize markL mkString x.page.policy.images (r2.2) = r3 at *
  have u3 := mkTokenS_ub64 x.page.queue (r3.2 + 2)
  generalize markL mkToken x.page.queue (r3.2 + 2) = r4 at *
  have u4 := mkNodeS_ub64 x.page.builder.nodes (r4.2 + 1)
  generalize markL mkNode x.page.builder.nodes (r4.2 + 1) = r5 at *
  have u5 := mkIntS_ub64 x.page.builder.open_ (r5.2)
  generalize markL mkInt x.page.builder.open_ (r5.2) = r6 at *
  have u6 := mkSlotS_ub64 x.page.slots (r6.2)
  generalize markL mkSlot x.page.slots (r6.2) = r7 at *
  have u7 := mkModuleS_ub64 x.page.mods (r7.2)
  generalize markL mkModule x.page.mods (r7.2) = r8 at *
  have u8 := mkAddrS_ub64 x.page.entries (r8.2)
  generalize markL mkAddr x.page.entries (r8.2) = r9 at *
  have u9 := mkAddrS_ub64 x.page.ran (r9.2 + 4)
  generalize markL mkAddr x.page.ran (r9.2 + 4) = r10 at *
  have u10 := mkStringS_ub64 x.page.log (r10.2)
  generalize markL mkString x.page.log (r10.2) = r11 at *
  simp only [szAddr, szBuilder, szPage, szPolicy, szTokenizer, szVisit]
  omega
theorem mkVisitS_mono (l : List SVisit) (k : Int) : k ≤ (markL mkVisit l k).2 := markL_mono mkVisit_mono l k
theorem mkVisitS_idem (l : List SVisit) (k : Int) : markL mkVisit (markL mkVisit l k).1 k = markL mkVisit l k := markL_idem mkVisit_idem l k
theorem mkVisitS_ub64 (l : List SVisit) (k : Int) : (markL mkVisit l k).2 ≤ k + 64 * szL szVisit l := markL_ub64 mkVisit_ub l k
theorem mkVisitS_bd (l : List SVisit) (k : Int) : k ≤ (markL mkVisit l k).2 ∧ (markL mkVisit l k).2 ≤ k + 64 * szL szVisit l ∧ markL mkVisit (markL mkVisit l k).1 k = markL mkVisit l k := ⟨mkVisitS_mono l k, mkVisitS_ub64 l k, mkVisitS_idem l k⟩
def mvVisit (x : SVisit) (k : Int) : SVisit × Int :=
  let r1 := markL mkString x.page.policy.scripts (k)
  let r2 := markL mkString x.page.policy.styles (r1.2)
  let r3 := markL mkString x.page.policy.images (r2.2)
  let r4 := markL mkToken x.page.queue (r3.2)
  let r5 := markL mkNode x.page.builder.nodes (r4.2)
  let r6 := markL mkInt x.page.builder.open_ (r5.2)
  let r7 := markL mkSlot x.page.slots (r6.2)
  let r8 := markL mkModule x.page.mods (r7.2)
  let r9 := markL mkAddr x.page.entries (r8.2)
  let r10 := markL mkAddr x.page.ran (r9.2)
  let r11 := markL mkString x.page.log (r10.2)
  (⟨x.addr, ⟨x.page.addr, ⟨x.page.policy.set_, r1.1, r2.1, r3.1, x.page.policy.nonce⟩, x.page.tok, r4.1, x.page.ended, ⟨r5.1, r6.1⟩, r7.1, r8.1, r9.1, x.page.block, x.page.inline, x.page.deferred, x.page.entered, r10.1, r11.1, x.page.loaded⟩, x.kept⟩, r11.2)
theorem mvVisit_mono (x : SVisit) (k : Int) : k ≤ (mvVisit x k).2 := by
  simp only [mvVisit]
  have m0 := mkStringS_mono x.page.policy.scripts (k)
  generalize markL mkString x.page.policy.scripts (k) = r1 at *
  have m1 := mkStringS_mono x.page.policy.styles (r1.2)
  generalize markL mkString x.page.policy.styles (r1.2) = r2 at *
  have m2 := mkStringS_mono x.page.policy.images (r2.2)
  generalize markL mkString x.page.policy.images (r2.2) = r3 at *
  have m3 := mkTokenS_mono x.page.queue (r3.2)
  generalize markL mkToken x.page.queue (r3.2) = r4 at *
  have m4 := mkNodeS_mono x.page.builder.nodes (r4.2)
  generalize markL mkNode x.page.builder.nodes (r4.2) = r5 at *
  have m5 := mkIntS_mono x.page.builder.open_ (r5.2)
  generalize markL mkInt x.page.builder.open_ (r5.2) = r6 at *
  have m6 := mkSlotS_mono x.page.slots (r6.2)
  generalize markL mkSlot x.page.slots (r6.2) = r7 at *
  have m7 := mkModuleS_mono x.page.mods (r7.2)
  generalize markL mkModule x.page.mods (r7.2) = r8 at *
  have m8 := mkAddrS_mono x.page.entries (r8.2)
  generalize markL mkAddr x.page.entries (r8.2) = r9 at *
  have m9 := mkAddrS_mono x.page.ran (r9.2)
  generalize markL mkAddr x.page.ran (r9.2) = r10 at *
  have m10 := mkStringS_mono x.page.log (r10.2)
  generalize markL mkString x.page.log (r10.2) = r11 at *
  omega
theorem mvVisit_idem (x : SVisit) (k : Int) : mvVisit (mvVisit x k).1 k = mvVisit x k := by simp only [mvVisit, mkAddrS_idem, mkIntS_idem, mkModuleS_idem, mkNodeS_idem, mkSlotS_idem, mkStringS_idem, mkTokenS_idem]
theorem mvVisit_ub (x : SVisit) (k : Int) : (mvVisit x k).2 ≤ k + 64 * szVisit x := by
  simp only [mvVisit]
  have u0 := mkStringS_ub64 x.page.policy.scripts (k)
  generalize markL mkString x.page.policy.scripts (k) = r1 at *
  have u1 := mkStringS_ub64 x.page.policy.styles (r1.2)
  generalize markL mkString x.page.policy.styles (r1.2) = r2 at *
  have u2 := mkStringS_ub64 x.page.policy.images (r2.2)
  generalize markL mkString x.page.policy.images (r2.2) = r3 at *
  have u3 := mkTokenS_ub64 x.page.queue (r3.2)
  generalize markL mkToken x.page.queue (r3.2) = r4 at *
  have u4 := mkNodeS_ub64 x.page.builder.nodes (r4.2)
  generalize markL mkNode x.page.builder.nodes (r4.2) = r5 at *
  have u5 := mkIntS_ub64 x.page.builder.open_ (r5.2)
  generalize markL mkInt x.page.builder.open_ (r5.2) = r6 at *
  have u6 := mkSlotS_ub64 x.page.slots (r6.2)
  generalize markL mkSlot x.page.slots (r6.2) = r7 at *
  have u7 := mkModuleS_ub64 x.page.mods (r7.2)
  generalize markL mkModule x.page.mods (r7.2) = r8 at *
  have u8 := mkAddrS_ub64 x.page.entries (r8.2)
  generalize markL mkAddr x.page.entries (r8.2) = r9 at *
  have u9 := mkAddrS_ub64 x.page.ran (r9.2)
  generalize markL mkAddr x.page.ran (r9.2) = r10 at *
  have u10 := mkStringS_ub64 x.page.log (r10.2)
  generalize markL mkString x.page.log (r10.2) = r11 at *
  simp only [szAddr, szBuilder, szPage, szPolicy, szTokenizer, szVisit]
  omega
theorem mvVisit_bd (x : SVisit) (k : Int) : k ≤ (mvVisit x k).2 ∧ (mvVisit x k).2 ≤ k + 64 * szVisit x ∧ mvVisit (mvVisit x k).1 k = mvVisit x k := ⟨mvVisit_mono x k, mvVisit_ub x k, mvVisit_idem x k⟩
def mkTab (x : STab) (k : Int) : STab × Int :=
  let r1 := markL mkVisit x.visits (k)
  (⟨r1.1, r1.2⟩, r1.2 + 1)
theorem mkTab_mono : Mono mkTab := by
  intro x k
  simp only [mkTab]
  have m0 := mkVisitS_mono x.visits (k)
  generalize markL mkVisit x.visits (k) = r1 at *
  omega
theorem mkTab_cnt (x : STab) (k : Int) : k + 1 ≤ (mkTab x k).2 := by
  simp only [mkTab]
  have m0 := mkVisitS_mono x.visits (k)
  generalize markL mkVisit x.visits (k) = r1 at *
  omega
theorem mkTab_idem (x : STab) (k : Int) : mkTab (mkTab x k).1 k = mkTab x k := by simp only [mkTab, mkVisitS_idem]
theorem mkTab_ub (x : STab) (k : Int) : (mkTab x k).2 ≤ k + 64 * (szTab x + 1) := by
  simp only [mkTab]
  have u0 := mkVisitS_ub64 x.visits (k)
  generalize markL mkVisit x.visits (k) = r1 at *
  simp only [szTab]
  omega
theorem mkTabS_mono (l : List STab) (k : Int) : k ≤ (markL mkTab l k).2 := markL_mono mkTab_mono l k
theorem mkTabS_idem (l : List STab) (k : Int) : markL mkTab (markL mkTab l k).1 k = markL mkTab l k := markL_idem mkTab_idem l k
theorem mkTabS_ub64 (l : List STab) (k : Int) : (markL mkTab l k).2 ≤ k + 64 * szL szTab l := markL_ub64 mkTab_ub l k
theorem mkTabS_bd (l : List STab) (k : Int) : k ≤ (markL mkTab l k).2 ∧ (markL mkTab l k).2 ≤ k + 64 * szL szTab l ∧ markL mkTab (markL mkTab l k).1 k = markL mkTab l k := ⟨mkTabS_mono l k, mkTabS_ub64 l k, mkTabS_idem l k⟩
def mvTab (x : STab) (k : Int) : STab × Int :=
  let r1 := markL mkVisit x.visits (k)
  (⟨r1.1, x.at_⟩, r1.2)
theorem mvTab_mono (x : STab) (k : Int) : k ≤ (mvTab x k).2 := by
  simp only [mvTab]
  have m0 := mkVisitS_mono x.visits (k)
  generalize markL mkVisit x.visits (k) = r1 at *
  omega
theorem mvTab_idem (x : STab) (k : Int) : mvTab (mvTab x k).1 k = mvTab x k := by simp only [mvTab, mkVisitS_idem]
theorem mvTab_ub (x : STab) (k : Int) : (mvTab x k).2 ≤ k + 64 * szTab x := by
  simp only [mvTab]
  have u0 := mkVisitS_ub64 x.visits (k)
  generalize markL mkVisit x.visits (k) = r1 at *
  simp only [szTab]
  omega
theorem mvTab_bd (x : STab) (k : Int) : k ≤ (mvTab x k).2 ∧ (mvTab x k).2 ≤ k + 64 * szTab x ∧ mvTab (mvTab x k).1 k = mvTab x k := ⟨mvTab_mono x k, mvTab_ub x k, mvTab_idem x k⟩
theorem mkKeptS_mono (l : List SKept) (k : Int) : k ≤ (markL mkKept l k).2 := markL_mono mkKept_mono l k
theorem mkKeptS_ub64 (l : List SKept) (k : Int) : (markL mkKept l k).2 ≤ k + 64 * szL szKept l := markL_ub64 (fun x k => by simp only [mkKept]; omega) l k
def mkHidden (x : SHidden) (k : Int) : SHidden × Int :=
  let r1 := markL mkString x.page.policy.scripts (k + 4)
  let r2 := markL mkString x.page.policy.styles (r1.2)
  let r3 := markL mkString x.page.policy.images (r2.2)
  let r4 := markL mkToken x.page.queue (r3.2 + 2)
  let r5 := markL mkNode x.page.builder.nodes (r4.2 + 1)
  let r6 := markL mkInt x.page.builder.open_ (r5.2)
  let r7 := markL mkSlot x.page.slots (r6.2)
  let r8 := markL mkModule x.page.mods (r7.2)
  let r9 := markL mkAddr x.page.entries (r8.2)
  let r10 := markL mkAddr x.page.ran (r9.2 + 4)
  let r11 := markL mkString x.page.log (r10.2)
  let r12 := markL mkKept x.taken (r11.2 + 1)
  let r13 := markL mkServer x.servers (r12.2)
  (⟨(k).tmod 3 == 0, ⟨⟨mtext (k + 1), mtext (k + 2)⟩, ⟨(k + 3).tmod 3 == 0, r1.1, r2.1, r3.1, mtext (r3.2)⟩, ⟨mtext (r3.2 + 1)⟩, r4.1, (r4.2).tmod 3 == 0, ⟨r5.1, r6.1⟩, r7.1, r8.1, r9.1, r9.2, r9.2 + 1, r9.2 + 2, r9.2 + 3, r10.1, r11.1, (r11.2).tmod 3 == 0⟩, r12.1, r13.1, r13.2⟩, r13.2 + 1)
theorem mkHidden_mono : Mono mkHidden := by
  intro x k
  simp only [mkHidden]
  have m0 := mkStringS_mono x.page.policy.scripts (k + 4)
  generalize markL mkString x.page.policy.scripts (k + 4) = r1 at *
  have m1 := mkStringS_mono x.page.policy.styles (r1.2)
  generalize markL mkString x.page.policy.styles (r1.2) = r2 at *
  have m2 := mkStringS_mono x.page.policy.images (r2.2)
  generalize markL mkString x.page.policy.images (r2.2) = r3 at *
  have m3 := mkTokenS_mono x.page.queue (r3.2 + 2)
  generalize markL mkToken x.page.queue (r3.2 + 2) = r4 at *
  have m4 := mkNodeS_mono x.page.builder.nodes (r4.2 + 1)
  generalize markL mkNode x.page.builder.nodes (r4.2 + 1) = r5 at *
  have m5 := mkIntS_mono x.page.builder.open_ (r5.2)
  generalize markL mkInt x.page.builder.open_ (r5.2) = r6 at *
  have m6 := mkSlotS_mono x.page.slots (r6.2)
  generalize markL mkSlot x.page.slots (r6.2) = r7 at *
  have m7 := mkModuleS_mono x.page.mods (r7.2)
  generalize markL mkModule x.page.mods (r7.2) = r8 at *
  have m8 := mkAddrS_mono x.page.entries (r8.2)
  generalize markL mkAddr x.page.entries (r8.2) = r9 at *
  have m9 := mkAddrS_mono x.page.ran (r9.2 + 4)
  generalize markL mkAddr x.page.ran (r9.2 + 4) = r10 at *
  have m10 := mkStringS_mono x.page.log (r10.2)
  generalize markL mkString x.page.log (r10.2) = r11 at *
  have m11 := mkKeptS_mono x.taken (r11.2 + 1)
  generalize markL mkKept x.taken (r11.2 + 1) = r12 at *
  have m12 := mkServerS_mono x.servers (r12.2)
  generalize markL mkServer x.servers (r12.2) = r13 at *
  omega
theorem mkHidden_cnt (x : SHidden) (k : Int) : k + 1 ≤ (mkHidden x k).2 := by
  simp only [mkHidden]
  have m0 := mkStringS_mono x.page.policy.scripts (k + 4)
  generalize markL mkString x.page.policy.scripts (k + 4) = r1 at *
  have m1 := mkStringS_mono x.page.policy.styles (r1.2)
  generalize markL mkString x.page.policy.styles (r1.2) = r2 at *
  have m2 := mkStringS_mono x.page.policy.images (r2.2)
  generalize markL mkString x.page.policy.images (r2.2) = r3 at *
  have m3 := mkTokenS_mono x.page.queue (r3.2 + 2)
  generalize markL mkToken x.page.queue (r3.2 + 2) = r4 at *
  have m4 := mkNodeS_mono x.page.builder.nodes (r4.2 + 1)
  generalize markL mkNode x.page.builder.nodes (r4.2 + 1) = r5 at *
  have m5 := mkIntS_mono x.page.builder.open_ (r5.2)
  generalize markL mkInt x.page.builder.open_ (r5.2) = r6 at *
  have m6 := mkSlotS_mono x.page.slots (r6.2)
  generalize markL mkSlot x.page.slots (r6.2) = r7 at *
  have m7 := mkModuleS_mono x.page.mods (r7.2)
  generalize markL mkModule x.page.mods (r7.2) = r8 at *
  have m8 := mkAddrS_mono x.page.entries (r8.2)
  generalize markL mkAddr x.page.entries (r8.2) = r9 at *
  have m9 := mkAddrS_mono x.page.ran (r9.2 + 4)
  generalize markL mkAddr x.page.ran (r9.2 + 4) = r10 at *
  have m10 := mkStringS_mono x.page.log (r10.2)
  generalize markL mkString x.page.log (r10.2) = r11 at *
  have m11 := mkKeptS_mono x.taken (r11.2 + 1)
  generalize markL mkKept x.taken (r11.2 + 1) = r12 at *
  have m12 := mkServerS_mono x.servers (r12.2)
  generalize markL mkServer x.servers (r12.2) = r13 at *
  omega
theorem mkHidden_idem (x : SHidden) (k : Int) : mkHidden (mkHidden x k).1 k = mkHidden x k := by simp only [mkHidden, mkAddrS_idem, mkIntS_idem, mkKeptS_idem, mkModuleS_idem, mkNodeS_idem, mkServerS_idem, mkSlotS_idem, mkStringS_idem, mkTokenS_idem]
theorem mkHidden_ub (x : SHidden) (k : Int) : (mkHidden x k).2 ≤ k + 64 * (szHidden x + 1) := by
  simp only [mkHidden]
  have u0 := mkStringS_ub64 x.page.policy.scripts (k + 4)
  generalize markL mkString x.page.policy.scripts (k + 4) = r1 at *
  have u1 := mkStringS_ub64 x.page.policy.styles (r1.2)
  generalize markL mkString x.page.policy.styles (r1.2) = r2 at *
  have u2 := mkStringS_ub64 x.page.policy.images (r2.2)
  generalize markL mkString x.page.policy.images (r2.2) = r3 at *
  have u3 := mkTokenS_ub64 x.page.queue (r3.2 + 2)
  generalize markL mkToken x.page.queue (r3.2 + 2) = r4 at *
  have u4 := mkNodeS_ub64 x.page.builder.nodes (r4.2 + 1)
  generalize markL mkNode x.page.builder.nodes (r4.2 + 1) = r5 at *
  have u5 := mkIntS_ub64 x.page.builder.open_ (r5.2)
  generalize markL mkInt x.page.builder.open_ (r5.2) = r6 at *
  have u6 := mkSlotS_ub64 x.page.slots (r6.2)
  generalize markL mkSlot x.page.slots (r6.2) = r7 at *
  have u7 := mkModuleS_ub64 x.page.mods (r7.2)
  generalize markL mkModule x.page.mods (r7.2) = r8 at *
  have u8 := mkAddrS_ub64 x.page.entries (r8.2)
  generalize markL mkAddr x.page.entries (r8.2) = r9 at *
  have u9 := mkAddrS_ub64 x.page.ran (r9.2 + 4)
  generalize markL mkAddr x.page.ran (r9.2 + 4) = r10 at *
  have u10 := mkStringS_ub64 x.page.log (r10.2)
  generalize markL mkString x.page.log (r10.2) = r11 at *
  have u11 := mkKeptS_ub64 x.taken (r11.2 + 1)
  generalize markL mkKept x.taken (r11.2 + 1) = r12 at *
  have u12 := mkServerS_ub64 x.servers (r12.2)
  generalize markL mkServer x.servers (r12.2) = r13 at *
  simp only [szAddr, szBuilder, szHidden, szPage, szPolicy, szTokenizer]
  omega
theorem mkHiddenS_mono (l : List SHidden) (k : Int) : k ≤ (markL mkHidden l k).2 := markL_mono mkHidden_mono l k
theorem mkHiddenS_idem (l : List SHidden) (k : Int) : markL mkHidden (markL mkHidden l k).1 k = markL mkHidden l k := markL_idem mkHidden_idem l k
theorem mkHiddenS_ub64 (l : List SHidden) (k : Int) : (markL mkHidden l k).2 ≤ k + 64 * szL szHidden l := markL_ub64 mkHidden_ub l k
theorem mkHiddenS_bd (l : List SHidden) (k : Int) : k ≤ (markL mkHidden l k).2 ∧ (markL mkHidden l k).2 ≤ k + 64 * szL szHidden l ∧ markL mkHidden (markL mkHidden l k).1 k = markL mkHidden l k := ⟨mkHiddenS_mono l k, mkHiddenS_ub64 l k, mkHiddenS_idem l k⟩
def mvHidden (x : SHidden) (k : Int) : SHidden × Int :=
  let r1 := markL mkString x.page.policy.scripts (k)
  let r2 := markL mkString x.page.policy.styles (r1.2)
  let r3 := markL mkString x.page.policy.images (r2.2)
  let r4 := markL mkToken x.page.queue (r3.2)
  let r5 := markL mkNode x.page.builder.nodes (r4.2)
  let r6 := markL mkInt x.page.builder.open_ (r5.2)
  let r7 := markL mkSlot x.page.slots (r6.2)
  let r8 := markL mkModule x.page.mods (r7.2)
  let r9 := markL mkAddr x.page.entries (r8.2)
  let r10 := markL mkAddr x.page.ran (r9.2)
  let r11 := markL mkString x.page.log (r10.2)
  let r12 := markL mkKept x.taken (r11.2)
  let r13 := markL mkServer x.servers (r12.2)
  (⟨x.ready, ⟨x.page.addr, ⟨x.page.policy.set_, r1.1, r2.1, r3.1, x.page.policy.nonce⟩, x.page.tok, r4.1, x.page.ended, ⟨r5.1, r6.1⟩, r7.1, r8.1, r9.1, x.page.block, x.page.inline, x.page.deferred, x.page.entered, r10.1, r11.1, x.page.loaded⟩, r12.1, r13.1, x.now⟩, r13.2)
theorem mvHidden_mono (x : SHidden) (k : Int) : k ≤ (mvHidden x k).2 := by
  simp only [mvHidden]
  have m0 := mkStringS_mono x.page.policy.scripts (k)
  generalize markL mkString x.page.policy.scripts (k) = r1 at *
  have m1 := mkStringS_mono x.page.policy.styles (r1.2)
  generalize markL mkString x.page.policy.styles (r1.2) = r2 at *
  have m2 := mkStringS_mono x.page.policy.images (r2.2)
  generalize markL mkString x.page.policy.images (r2.2) = r3 at *
  have m3 := mkTokenS_mono x.page.queue (r3.2)
  generalize markL mkToken x.page.queue (r3.2) = r4 at *
  have m4 := mkNodeS_mono x.page.builder.nodes (r4.2)
  generalize markL mkNode x.page.builder.nodes (r4.2) = r5 at *
  have m5 := mkIntS_mono x.page.builder.open_ (r5.2)
  generalize markL mkInt x.page.builder.open_ (r5.2) = r6 at *
  have m6 := mkSlotS_mono x.page.slots (r6.2)
  generalize markL mkSlot x.page.slots (r6.2) = r7 at *
  have m7 := mkModuleS_mono x.page.mods (r7.2)
  generalize markL mkModule x.page.mods (r7.2) = r8 at *
  have m8 := mkAddrS_mono x.page.entries (r8.2)
  generalize markL mkAddr x.page.entries (r8.2) = r9 at *
  have m9 := mkAddrS_mono x.page.ran (r9.2)
  generalize markL mkAddr x.page.ran (r9.2) = r10 at *
  have m10 := mkStringS_mono x.page.log (r10.2)
  generalize markL mkString x.page.log (r10.2) = r11 at *
  have m11 := mkKeptS_mono x.taken (r11.2)
  generalize markL mkKept x.taken (r11.2) = r12 at *
  have m12 := mkServerS_mono x.servers (r12.2)
  generalize markL mkServer x.servers (r12.2) = r13 at *
  omega
theorem mvHidden_idem (x : SHidden) (k : Int) : mvHidden (mvHidden x k).1 k = mvHidden x k := by simp only [mvHidden, mkAddrS_idem, mkIntS_idem, mkKeptS_idem, mkModuleS_idem, mkNodeS_idem, mkServerS_idem, mkSlotS_idem, mkStringS_idem, mkTokenS_idem]
theorem mvHidden_ub (x : SHidden) (k : Int) : (mvHidden x k).2 ≤ k + 64 * szHidden x := by
  simp only [mvHidden]
  have u0 := mkStringS_ub64 x.page.policy.scripts (k)
  generalize markL mkString x.page.policy.scripts (k) = r1 at *
  have u1 := mkStringS_ub64 x.page.policy.styles (r1.2)
  generalize markL mkString x.page.policy.styles (r1.2) = r2 at *
  have u2 := mkStringS_ub64 x.page.policy.images (r2.2)
  generalize markL mkString x.page.policy.images (r2.2) = r3 at *
  have u3 := mkTokenS_ub64 x.page.queue (r3.2)
  generalize markL mkToken x.page.queue (r3.2) = r4 at *
  have u4 := mkNodeS_ub64 x.page.builder.nodes (r4.2)
  generalize markL mkNode x.page.builder.nodes (r4.2) = r5 at *
  have u5 := mkIntS_ub64 x.page.builder.open_ (r5.2)
  generalize markL mkInt x.page.builder.open_ (r5.2) = r6 at *
  have u6 := mkSlotS_ub64 x.page.slots (r6.2)
  generalize markL mkSlot x.page.slots (r6.2) = r7 at *
  have u7 := mkModuleS_ub64 x.page.mods (r7.2)
  generalize markL mkModule x.page.mods (r7.2) = r8 at *
  have u8 := mkAddrS_ub64 x.page.entries (r8.2)
  generalize markL mkAddr x.page.entries (r8.2) = r9 at *
  have u9 := mkAddrS_ub64 x.page.ran (r9.2)
  generalize markL mkAddr x.page.ran (r9.2) = r10 at *
  have u10 := mkStringS_ub64 x.page.log (r10.2)
  generalize markL mkString x.page.log (r10.2) = r11 at *
  have u11 := mkKeptS_ub64 x.taken (r11.2)
  generalize markL mkKept x.taken (r11.2) = r12 at *
  have u12 := mkServerS_ub64 x.servers (r12.2)
  generalize markL mkServer x.servers (r12.2) = r13 at *
  simp only [szAddr, szBuilder, szHidden, szPage, szPolicy, szTokenizer]
  omega
theorem mvHidden_bd (x : SHidden) (k : Int) : k ≤ (mvHidden x k).2 ∧ (mvHidden x k).2 ≤ k + 64 * szHidden x ∧ mvHidden (mvHidden x k).1 k = mvHidden x k := ⟨mvHidden_mono x k, mvHidden_ub x k, mvHidden_idem x k⟩
def mkWorld (x : SWorld) (k : Int) : SWorld × Int :=
  let r1 := markL mkServer x.net.servers (k)
  let r2 := markL mkEntry x.net.cache.entries (r1.2)
  let r3 := markL mkSent x.net.log (r2.2)
  let r4 := markL mkVisit x.tab.visits (r3.2 + 1)
  let r5 := markL mkString x.hidden.page.policy.scripts (r4.2 + 5)
  let r6 := markL mkString x.hidden.page.policy.styles (r5.2)
  let r7 := markL mkString x.hidden.page.policy.images (r6.2)
  let r8 := markL mkToken x.hidden.page.queue (r7.2 + 2)
  let r9 := markL mkNode x.hidden.page.builder.nodes (r8.2 + 1)
  let r10 := markL mkInt x.hidden.page.builder.open_ (r9.2)
  let r11 := markL mkSlot x.hidden.page.slots (r10.2)
  let r12 := markL mkModule x.hidden.page.mods (r11.2)
  let r13 := markL mkAddr x.hidden.page.entries (r12.2)
  let r14 := markL mkAddr x.hidden.page.ran (r13.2 + 4)
  let r15 := markL mkString x.hidden.page.log (r14.2)
  let r16 := markL mkKept x.hidden.taken (r15.2 + 1)
  let r17 := markL mkServer x.hidden.servers (r16.2)
  (⟨⟨r1.1, ⟨r2.1⟩, r3.1, r3.2⟩, ⟨r4.1, r4.2⟩, ⟨(r4.2 + 1).tmod 3 == 0, ⟨⟨mtext (r4.2 + 2), mtext (r4.2 + 3)⟩, ⟨(r4.2 + 4).tmod 3 == 0, r5.1, r6.1, r7.1, mtext (r7.2)⟩, ⟨mtext (r7.2 + 1)⟩, r8.1, (r8.2).tmod 3 == 0, ⟨r9.1, r10.1⟩, r11.1, r12.1, r13.1, r13.2, r13.2 + 1, r13.2 + 2, r13.2 + 3, r14.1, r15.1, (r15.2).tmod 3 == 0⟩, r16.1, r17.1, r17.2⟩, (r17.2 + 1).tmod 3 == 0⟩, r17.2 + 2)
theorem mkWorld_mono : Mono mkWorld := by
  intro x k
  simp only [mkWorld]
  have m0 := mkServerS_mono x.net.servers (k)
  generalize markL mkServer x.net.servers (k) = r1 at *
  have m1 := mkEntryS_mono x.net.cache.entries (r1.2)
  generalize markL mkEntry x.net.cache.entries (r1.2) = r2 at *
  have m2 := mkSentS_mono x.net.log (r2.2)
  generalize markL mkSent x.net.log (r2.2) = r3 at *
  have m3 := mkVisitS_mono x.tab.visits (r3.2 + 1)
  generalize markL mkVisit x.tab.visits (r3.2 + 1) = r4 at *
  have m4 := mkStringS_mono x.hidden.page.policy.scripts (r4.2 + 5)
  generalize markL mkString x.hidden.page.policy.scripts (r4.2 + 5) = r5 at *
  have m5 := mkStringS_mono x.hidden.page.policy.styles (r5.2)
  generalize markL mkString x.hidden.page.policy.styles (r5.2) = r6 at *
  have m6 := mkStringS_mono x.hidden.page.policy.images (r6.2)
  generalize markL mkString x.hidden.page.policy.images (r6.2) = r7 at *
  have m7 := mkTokenS_mono x.hidden.page.queue (r7.2 + 2)
  generalize markL mkToken x.hidden.page.queue (r7.2 + 2) = r8 at *
  have m8 := mkNodeS_mono x.hidden.page.builder.nodes (r8.2 + 1)
  generalize markL mkNode x.hidden.page.builder.nodes (r8.2 + 1) = r9 at *
  have m9 := mkIntS_mono x.hidden.page.builder.open_ (r9.2)
  generalize markL mkInt x.hidden.page.builder.open_ (r9.2) = r10 at *
  have m10 := mkSlotS_mono x.hidden.page.slots (r10.2)
  generalize markL mkSlot x.hidden.page.slots (r10.2) = r11 at *
  have m11 := mkModuleS_mono x.hidden.page.mods (r11.2)
  generalize markL mkModule x.hidden.page.mods (r11.2) = r12 at *
  have m12 := mkAddrS_mono x.hidden.page.entries (r12.2)
  generalize markL mkAddr x.hidden.page.entries (r12.2) = r13 at *
  have m13 := mkAddrS_mono x.hidden.page.ran (r13.2 + 4)
  generalize markL mkAddr x.hidden.page.ran (r13.2 + 4) = r14 at *
  have m14 := mkStringS_mono x.hidden.page.log (r14.2)
  generalize markL mkString x.hidden.page.log (r14.2) = r15 at *
  have m15 := mkKeptS_mono x.hidden.taken (r15.2 + 1)
  generalize markL mkKept x.hidden.taken (r15.2 + 1) = r16 at *
  have m16 := mkServerS_mono x.hidden.servers (r16.2)
  generalize markL mkServer x.hidden.servers (r16.2) = r17 at *
  omega
theorem mkWorld_cnt (x : SWorld) (k : Int) : k + 1 ≤ (mkWorld x k).2 := by
  simp only [mkWorld]
  have m0 := mkServerS_mono x.net.servers (k)
  generalize markL mkServer x.net.servers (k) = r1 at *
  have m1 := mkEntryS_mono x.net.cache.entries (r1.2)
  generalize markL mkEntry x.net.cache.entries (r1.2) = r2 at *
  have m2 := mkSentS_mono x.net.log (r2.2)
  generalize markL mkSent x.net.log (r2.2) = r3 at *
  have m3 := mkVisitS_mono x.tab.visits (r3.2 + 1)
  generalize markL mkVisit x.tab.visits (r3.2 + 1) = r4 at *
  have m4 := mkStringS_mono x.hidden.page.policy.scripts (r4.2 + 5)
  generalize markL mkString x.hidden.page.policy.scripts (r4.2 + 5) = r5 at *
  have m5 := mkStringS_mono x.hidden.page.policy.styles (r5.2)
  generalize markL mkString x.hidden.page.policy.styles (r5.2) = r6 at *
  have m6 := mkStringS_mono x.hidden.page.policy.images (r6.2)
  generalize markL mkString x.hidden.page.policy.images (r6.2) = r7 at *
  have m7 := mkTokenS_mono x.hidden.page.queue (r7.2 + 2)
  generalize markL mkToken x.hidden.page.queue (r7.2 + 2) = r8 at *
  have m8 := mkNodeS_mono x.hidden.page.builder.nodes (r8.2 + 1)
  generalize markL mkNode x.hidden.page.builder.nodes (r8.2 + 1) = r9 at *
  have m9 := mkIntS_mono x.hidden.page.builder.open_ (r9.2)
  generalize markL mkInt x.hidden.page.builder.open_ (r9.2) = r10 at *
  have m10 := mkSlotS_mono x.hidden.page.slots (r10.2)
  generalize markL mkSlot x.hidden.page.slots (r10.2) = r11 at *
  have m11 := mkModuleS_mono x.hidden.page.mods (r11.2)
  generalize markL mkModule x.hidden.page.mods (r11.2) = r12 at *
  have m12 := mkAddrS_mono x.hidden.page.entries (r12.2)
  generalize markL mkAddr x.hidden.page.entries (r12.2) = r13 at *
  have m13 := mkAddrS_mono x.hidden.page.ran (r13.2 + 4)
  generalize markL mkAddr x.hidden.page.ran (r13.2 + 4) = r14 at *
  have m14 := mkStringS_mono x.hidden.page.log (r14.2)
  generalize markL mkString x.hidden.page.log (r14.2) = r15 at *
  have m15 := mkKeptS_mono x.hidden.taken (r15.2 + 1)
  generalize markL mkKept x.hidden.taken (r15.2 + 1) = r16 at *
  have m16 := mkServerS_mono x.hidden.servers (r16.2)
  generalize markL mkServer x.hidden.servers (r16.2) = r17 at *
  omega
theorem mkWorld_idem (x : SWorld) (k : Int) : mkWorld (mkWorld x k).1 k = mkWorld x k := by simp only [mkWorld, mkAddrS_idem, mkEntryS_idem, mkIntS_idem, mkKeptS_idem, mkModuleS_idem, mkNodeS_idem, mkSentS_idem, mkServerS_idem, mkSlotS_idem, mkStringS_idem, mkTokenS_idem, mkVisitS_idem]
theorem mkWorld_ub (x : SWorld) (k : Int) : (mkWorld x k).2 ≤ k + 64 * (szWorld x + 1) := by
  simp only [mkWorld]
  have u0 := mkServerS_ub64 x.net.servers (k)
  generalize markL mkServer x.net.servers (k) = r1 at *
  have u1 := mkEntryS_ub64 x.net.cache.entries (r1.2)
  generalize markL mkEntry x.net.cache.entries (r1.2) = r2 at *
  have u2 := mkSentS_ub64 x.net.log (r2.2)
  generalize markL mkSent x.net.log (r2.2) = r3 at *
  have u3 := mkVisitS_ub64 x.tab.visits (r3.2 + 1)
  generalize markL mkVisit x.tab.visits (r3.2 + 1) = r4 at *
  have u4 := mkStringS_ub64 x.hidden.page.policy.scripts (r4.2 + 5)
  generalize markL mkString x.hidden.page.policy.scripts (r4.2 + 5) = r5 at *
  have u5 := mkStringS_ub64 x.hidden.page.policy.styles (r5.2)
  generalize markL mkString x.hidden.page.policy.styles (r5.2) = r6 at *
  have u6 := mkStringS_ub64 x.hidden.page.policy.images (r6.2)
  generalize markL mkString x.hidden.page.policy.images (r6.2) = r7 at *
  have u7 := mkTokenS_ub64 x.hidden.page.queue (r7.2 + 2)
  generalize markL mkToken x.hidden.page.queue (r7.2 + 2) = r8 at *
  have u8 := mkNodeS_ub64 x.hidden.page.builder.nodes (r8.2 + 1)
  generalize markL mkNode x.hidden.page.builder.nodes (r8.2 + 1) = r9 at *
  have u9 := mkIntS_ub64 x.hidden.page.builder.open_ (r9.2)
  generalize markL mkInt x.hidden.page.builder.open_ (r9.2) = r10 at *
  have u10 := mkSlotS_ub64 x.hidden.page.slots (r10.2)
  generalize markL mkSlot x.hidden.page.slots (r10.2) = r11 at *
  have u11 := mkModuleS_ub64 x.hidden.page.mods (r11.2)
  generalize markL mkModule x.hidden.page.mods (r11.2) = r12 at *
  have u12 := mkAddrS_ub64 x.hidden.page.entries (r12.2)
  generalize markL mkAddr x.hidden.page.entries (r12.2) = r13 at *
  have u13 := mkAddrS_ub64 x.hidden.page.ran (r13.2 + 4)
  generalize markL mkAddr x.hidden.page.ran (r13.2 + 4) = r14 at *
  have u14 := mkStringS_ub64 x.hidden.page.log (r14.2)
  generalize markL mkString x.hidden.page.log (r14.2) = r15 at *
  have u15 := mkKeptS_ub64 x.hidden.taken (r15.2 + 1)
  generalize markL mkKept x.hidden.taken (r15.2 + 1) = r16 at *
  have u16 := mkServerS_ub64 x.hidden.servers (r16.2)
  generalize markL mkServer x.hidden.servers (r16.2) = r17 at *
  simp only [szAddr, szBuilder, szCache, szHidden, szNet, szPage, szPolicy, szTab, szTokenizer, szWorld]
  omega
theorem mkWorldS_mono (l : List SWorld) (k : Int) : k ≤ (markL mkWorld l k).2 := markL_mono mkWorld_mono l k
theorem mkWorldS_idem (l : List SWorld) (k : Int) : markL mkWorld (markL mkWorld l k).1 k = markL mkWorld l k := markL_idem mkWorld_idem l k
theorem mkWorldS_ub64 (l : List SWorld) (k : Int) : (markL mkWorld l k).2 ≤ k + 64 * szL szWorld l := markL_ub64 mkWorld_ub l k
theorem mkWorldS_bd (l : List SWorld) (k : Int) : k ≤ (markL mkWorld l k).2 ∧ (markL mkWorld l k).2 ≤ k + 64 * szL szWorld l ∧ markL mkWorld (markL mkWorld l k).1 k = markL mkWorld l k := ⟨mkWorldS_mono l k, mkWorldS_ub64 l k, mkWorldS_idem l k⟩
def mvWorld (x : SWorld) (k : Int) : SWorld × Int :=
  let r1 := markL mkServer x.net.servers (k)
  let r2 := markL mkEntry x.net.cache.entries (r1.2)
  let r3 := markL mkSent x.net.log (r2.2)
  let r4 := markL mkVisit x.tab.visits (r3.2)
  let r5 := markL mkString x.hidden.page.policy.scripts (r4.2)
  let r6 := markL mkString x.hidden.page.policy.styles (r5.2)
  let r7 := markL mkString x.hidden.page.policy.images (r6.2)
  let r8 := markL mkToken x.hidden.page.queue (r7.2)
  let r9 := markL mkNode x.hidden.page.builder.nodes (r8.2)
  let r10 := markL mkInt x.hidden.page.builder.open_ (r9.2)
  let r11 := markL mkSlot x.hidden.page.slots (r10.2)
  let r12 := markL mkModule x.hidden.page.mods (r11.2)
  let r13 := markL mkAddr x.hidden.page.entries (r12.2)
  let r14 := markL mkAddr x.hidden.page.ran (r13.2)
  let r15 := markL mkString x.hidden.page.log (r14.2)
  let r16 := markL mkKept x.hidden.taken (r15.2)
  let r17 := markL mkServer x.hidden.servers (r16.2)
  (⟨⟨r1.1, ⟨r2.1⟩, r3.1, x.net.now⟩, ⟨r4.1, x.tab.at_⟩, ⟨x.hidden.ready, ⟨x.hidden.page.addr, ⟨x.hidden.page.policy.set_, r5.1, r6.1, r7.1, x.hidden.page.policy.nonce⟩, x.hidden.page.tok, r8.1, x.hidden.page.ended, ⟨r9.1, r10.1⟩, r11.1, r12.1, r13.1, x.hidden.page.block, x.hidden.page.inline, x.hidden.page.deferred, x.hidden.page.entered, r14.1, r15.1, x.hidden.page.loaded⟩, r16.1, r17.1, x.hidden.now⟩, x.fast⟩, r17.2)
theorem mvWorld_mono (x : SWorld) (k : Int) : k ≤ (mvWorld x k).2 := by
  simp only [mvWorld]
  have m0 := mkServerS_mono x.net.servers (k)
  generalize markL mkServer x.net.servers (k) = r1 at *
  have m1 := mkEntryS_mono x.net.cache.entries (r1.2)
  generalize markL mkEntry x.net.cache.entries (r1.2) = r2 at *
  have m2 := mkSentS_mono x.net.log (r2.2)
  generalize markL mkSent x.net.log (r2.2) = r3 at *
  have m3 := mkVisitS_mono x.tab.visits (r3.2)
  generalize markL mkVisit x.tab.visits (r3.2) = r4 at *
  have m4 := mkStringS_mono x.hidden.page.policy.scripts (r4.2)
  generalize markL mkString x.hidden.page.policy.scripts (r4.2) = r5 at *
  have m5 := mkStringS_mono x.hidden.page.policy.styles (r5.2)
  generalize markL mkString x.hidden.page.policy.styles (r5.2) = r6 at *
  have m6 := mkStringS_mono x.hidden.page.policy.images (r6.2)
  generalize markL mkString x.hidden.page.policy.images (r6.2) = r7 at *
  have m7 := mkTokenS_mono x.hidden.page.queue (r7.2)
  generalize markL mkToken x.hidden.page.queue (r7.2) = r8 at *
  have m8 := mkNodeS_mono x.hidden.page.builder.nodes (r8.2)
  generalize markL mkNode x.hidden.page.builder.nodes (r8.2) = r9 at *
  have m9 := mkIntS_mono x.hidden.page.builder.open_ (r9.2)
  generalize markL mkInt x.hidden.page.builder.open_ (r9.2) = r10 at *
  have m10 := mkSlotS_mono x.hidden.page.slots (r10.2)
  generalize markL mkSlot x.hidden.page.slots (r10.2) = r11 at *
  have m11 := mkModuleS_mono x.hidden.page.mods (r11.2)
  generalize markL mkModule x.hidden.page.mods (r11.2) = r12 at *
  have m12 := mkAddrS_mono x.hidden.page.entries (r12.2)
  generalize markL mkAddr x.hidden.page.entries (r12.2) = r13 at *
  have m13 := mkAddrS_mono x.hidden.page.ran (r13.2)
  generalize markL mkAddr x.hidden.page.ran (r13.2) = r14 at *
  have m14 := mkStringS_mono x.hidden.page.log (r14.2)
  generalize markL mkString x.hidden.page.log (r14.2) = r15 at *
  have m15 := mkKeptS_mono x.hidden.taken (r15.2)
  generalize markL mkKept x.hidden.taken (r15.2) = r16 at *
  have m16 := mkServerS_mono x.hidden.servers (r16.2)
  generalize markL mkServer x.hidden.servers (r16.2) = r17 at *
  omega
theorem mvWorld_idem (x : SWorld) (k : Int) : mvWorld (mvWorld x k).1 k = mvWorld x k := by simp only [mvWorld, mkAddrS_idem, mkEntryS_idem, mkIntS_idem, mkKeptS_idem, mkModuleS_idem, mkNodeS_idem, mkSentS_idem, mkServerS_idem, mkSlotS_idem, mkStringS_idem, mkTokenS_idem, mkVisitS_idem]
theorem mvWorld_ub (x : SWorld) (k : Int) : (mvWorld x k).2 ≤ k + 64 * szWorld x := by
  simp only [mvWorld]
  have u0 := mkServerS_ub64 x.net.servers (k)
  generalize markL mkServer x.net.servers (k) = r1 at *
  have u1 := mkEntryS_ub64 x.net.cache.entries (r1.2)
  generalize markL mkEntry x.net.cache.entries (r1.2) = r2 at *
  have u2 := mkSentS_ub64 x.net.log (r2.2)
  generalize markL mkSent x.net.log (r2.2) = r3 at *
  have u3 := mkVisitS_ub64 x.tab.visits (r3.2)
  generalize markL mkVisit x.tab.visits (r3.2) = r4 at *
  have u4 := mkStringS_ub64 x.hidden.page.policy.scripts (r4.2)
  generalize markL mkString x.hidden.page.policy.scripts (r4.2) = r5 at *
  have u5 := mkStringS_ub64 x.hidden.page.policy.styles (r5.2)
  generalize markL mkString x.hidden.page.policy.styles (r5.2) = r6 at *
  have u6 := mkStringS_ub64 x.hidden.page.policy.images (r6.2)
  generalize markL mkString x.hidden.page.policy.images (r6.2) = r7 at *
  have u7 := mkTokenS_ub64 x.hidden.page.queue (r7.2)
  generalize markL mkToken x.hidden.page.queue (r7.2) = r8 at *
  have u8 := mkNodeS_ub64 x.hidden.page.builder.nodes (r8.2)
  generalize markL mkNode x.hidden.page.builder.nodes (r8.2) = r9 at *
  have u9 := mkIntS_ub64 x.hidden.page.builder.open_ (r9.2)
  generalize markL mkInt x.hidden.page.builder.open_ (r9.2) = r10 at *
  have u10 := mkSlotS_ub64 x.hidden.page.slots (r10.2)
  generalize markL mkSlot x.hidden.page.slots (r10.2) = r11 at *
  have u11 := mkModuleS_ub64 x.hidden.page.mods (r11.2)
  generalize markL mkModule x.hidden.page.mods (r11.2) = r12 at *
  have u12 := mkAddrS_ub64 x.hidden.page.entries (r12.2)
  generalize markL mkAddr x.hidden.page.entries (r12.2) = r13 at *
  have u13 := mkAddrS_ub64 x.hidden.page.ran (r13.2)
  generalize markL mkAddr x.hidden.page.ran (r13.2) = r14 at *
  have u14 := mkStringS_ub64 x.hidden.page.log (r14.2)
  generalize markL mkString x.hidden.page.log (r14.2) = r15 at *
  have u15 := mkKeptS_ub64 x.hidden.taken (r15.2)
  generalize markL mkKept x.hidden.taken (r15.2) = r16 at *
  have u16 := mkServerS_ub64 x.hidden.servers (r16.2)
  generalize markL mkServer x.hidden.servers (r16.2) = r17 at *
  simp only [szAddr, szBuilder, szCache, szHidden, szNet, szPage, szPolicy, szTab, szTokenizer, szWorld]
  omega
theorem mvWorld_bd (x : SWorld) (k : Int) : k ≤ (mvWorld x k).2 ∧ (mvWorld x k).2 ≤ k + 64 * szWorld x ∧ mvWorld (mvWorld x k).1 k = mvWorld x k := ⟨mvWorld_mono x k, mvWorld_ub x k, mvWorld_idem x k⟩
theorem mkEventS_mono (l : List SEvent) (k : Int) : k ≤ (markL mkEvent l k).2 := markL_mono mkEvent_mono l k
theorem mkEventS_ub64 (l : List SEvent) (k : Int) : (markL mkEvent l k).2 ≤ k + 64 * szL szEvent l := markL_ub64 (fun x k => by simp only [mkEvent]; omega) l k
def fmarkText : Fct := ⟨[aI], [rT], fun (x : Int × Unit) => 0 ≤ x.1 ∧ x.1 ≤ 4000000000000000000, fun (x : Int × Unit) => (mtext x.1, ())⟩
abbrev LmTx (k : Int) : LInv := ⟨[⟨.s, 0, true, .el .int⟩, ⟨.s, 3, true, .el .str⟩], fun _ (x : Int × ByteArray × Unit) => 0 ≤ x.1 ∧ x.1 ≤ k ∧ ∃ f, f + x.2.1.size = 64 ∧ x.1.toNat < 10 ^ f ∧ digs 64 k.toNat ⟨#[]⟩ = digs f x.1.toNat x.2.1, fun (x : Int × ByteArray × Unit) => x.1.toNat⟩
abbrev LszS (t : Ty) (f : El t → Nat) (l : List (El t)) (n : Int) : LInv := ⟨[⟨.s, 1, true, .el .int⟩, ⟨.s, 5, true, .el .int⟩], fun _ (x : Int × Int × Unit) => 0 ≤ x.2.1 ∧ x.2.1 ≤ l.length ∧ 0 ≤ x.1 ∧ x.1 = n - l.length - ((l.take x.2.1.toNat).map f).sum, fun (x : Int × Int × Unit) => l.length - x.2.1.toNat⟩
abbrev LtoS (t : Ty) (l : List (El t)) : LInv := ⟨[⟨.s, 4, true, .el .int⟩, ⟨.s, 3, true, .sl t⟩], fun _ (x : Int × List (El t) × Unit) => 0 ≤ x.1 ∧ x.1 ≤ l.length ∧ x.2.1 = l.take x.1.toNat ++ List.replicate (l.length - x.1.toNat) default, fun (x : Int × List (El t) × Unit) => l.length - x.1.toNat⟩
abbrev LeqS (t : Ty) (l m : List (El t)) : LInv := ⟨[⟨.s, 5, true, .el .int⟩], fun _ (x : Int × Unit) => 0 ≤ x.1 ∧ x.1 ≤ l.length ∧ l.take x.1.toNat = m.take x.1.toNat, fun (x : Int × Unit) => l.length - x.1.toNat⟩
abbrev LmkS (t : Ty) (f : El t → Int → El t × Int) (l : List (El t)) (k : Int) : LInv := ⟨[⟨.s, 1, true, .el .int⟩, ⟨.s, 5, true, .el .int⟩, ⟨.t, 0, true, .sl t⟩], fun _ (x : Int × Int × List (El t) × Unit) => 0 ≤ x.2.1 ∧ x.2.1 ≤ l.length ∧ x.1 = (markL f (l.take x.2.1.toNat) k).2 ∧ x.2.2.1 = (markL f (l.take x.2.1.toNat) k).1 ++ l.drop x.2.1.toNat, fun (x : Int × Int × List (El t) × Unit) => l.length - x.2.1.toNat⟩
abbrev LheS (t : Ty) (f : El t → Int → El t × Int) (l : List (El t)) (k : Int) : LInv := ⟨[⟨.s, 1, true, .el .int⟩, ⟨.s, 5, true, .el .int⟩], fun _ (x : Int × Int × Unit) => 0 ≤ x.2.1 ∧ x.2.1 ≤ l.length ∧ x.1 = (markL f (l.take x.2.1.toNat) k).2, fun (x : Int × Int × Unit) => l.length - x.2.1.toNat⟩
def fszStringS : Fct := ⟨[aL .str, aI], [rI], fun (x : List ByteArray × Int × Unit) => Sh.good (.sl .str) x.1 ∧ 0 ≤ x.2.1 ∧ x.2.1 ≤ 1048576, fun (x : List ByteArray × Int × Unit) => (lessen x.2.1 (szL szString x.1), ())⟩
def ftoStringS : Fct := ⟨[aL .str], [rL .str], fun (x : List ByteArray × Unit) => szL szString x.1 ≤ 1048576, fun (x : List ByteArray × Unit) => (x.1, ())⟩
def feqStringS : Fct := ⟨[aL .str, aL .str], [rB], fun (x : List ByteArray × List ByteArray × Unit) => x.1.length ≤ 4000000000000000000, fun (x : List ByteArray × List ByteArray × Unit) => (decide (x.1 = x.2.1), ())⟩
def fmarkStringS : MS := ⟨.sl .str, fun (l : List ByteArray) (k : Int) => 0 ≤ k ∧ (markL mkString l k).2 ≤ 4000000000000000000, fun (l : List ByteArray) (k : Int) => markL mkString l k⟩
def fheldStringS : Fct := ⟨[aL .str, aI], [rI], fun (x : List ByteArray × Int × Unit) => 0 ≤ x.2.1 ∧ (markL mkString x.1 x.2.1).2 ≤ 4000000000000000000 ∧ (markL mkString x.1 x.2.1).1 = x.1, fun (x : List ByteArray × Int × Unit) => ((markL mkString x.1 x.2.1).2, ())⟩
def fszIntS : Fct := ⟨[aL .int, aI], [rI], fun (x : List Int × Int × Unit) => Sh.good (.sl .int) x.1 ∧ 0 ≤ x.2.1 ∧ x.2.1 ≤ 1048576, fun (x : List Int × Int × Unit) => (lessen x.2.1 (x.1.length), ())⟩
def ftoIntS : Fct := ⟨[aL .int], [rL .int], fun (x : List Int × Unit) => x.1.length ≤ 1048576, fun (x : List Int × Unit) => (x.1, ())⟩
def feqIntS : Fct := ⟨[aL .int, aL .int], [rB], fun (x : List Int × List Int × Unit) => x.1.length ≤ 4000000000000000000, fun (x : List Int × List Int × Unit) => (decide (x.1 = x.2.1), ())⟩
def fmarkIntS : MS := ⟨.sl .int, fun (l : List Int) (k : Int) => 0 ≤ k ∧ (markL mkInt l k).2 ≤ 4000000000000000000, fun (l : List Int) (k : Int) => markL mkInt l k⟩
def fheldIntS : Fct := ⟨[aL .int, aI], [rI], fun (x : List Int × Int × Unit) => 0 ≤ x.2.1 ∧ (markL mkInt x.1 x.2.1).2 ≤ 4000000000000000000 ∧ (markL mkInt x.1 x.2.1).1 = x.1, fun (x : List Int × Int × Unit) => ((markL mkInt x.1 x.2.1).2, ())⟩
def fszAddr : Fct := ⟨[aE .addr, aI], [rI], fun (x : SAddr × Int × Unit) => Sh.good (.el .addr) x.1 ∧ 0 ≤ x.2.1 ∧ x.2.1 ≤ 1048576, fun (x : SAddr × Int × Unit) => (lessen x.2.1 (szAddr x.1), ())⟩
def ftoAddr : Fct := ⟨[aE .addr], [rE .addr], fun (x : SAddr × Unit) => szAddr x.1 ≤ 1048576, fun (x : SAddr × Unit) => (x.1, ())⟩
def feqAddr : Fct := ⟨[aE .addr, aE .addr], [rB], fun x => True, fun (x : SAddr × SAddr × Unit) => (decide (x.1 = x.2.1), ())⟩
def fszAddrS : Fct := ⟨[aL .addr, aI], [rI], fun (x : List SAddr × Int × Unit) => Sh.good (.sl .addr) x.1 ∧ 0 ≤ x.2.1 ∧ x.2.1 ≤ 1048576, fun (x : List SAddr × Int × Unit) => (lessen x.2.1 (szL szAddr x.1), ())⟩
def ftoAddrS : Fct := ⟨[aL .addr], [rL .addr], fun (x : List SAddr × Unit) => szL szAddr x.1 ≤ 1048576, fun (x : List SAddr × Unit) => (x.1, ())⟩
def feqAddrS : Fct := ⟨[aL .addr, aL .addr], [rB], fun (x : List SAddr × List SAddr × Unit) => x.1.length ≤ 4000000000000000000, fun (x : List SAddr × List SAddr × Unit) => (decide (x.1 = x.2.1), ())⟩
def fmarkAddrS : MS := ⟨.sl .addr, fun (l : List SAddr) (k : Int) => 0 ≤ k ∧ (markL mkAddr l k).2 ≤ 4000000000000000000, fun (l : List SAddr) (k : Int) => markL mkAddr l k⟩
def fheldAddrS : Fct := ⟨[aL .addr, aI], [rI], fun (x : List SAddr × Int × Unit) => 0 ≤ x.2.1 ∧ (markL mkAddr x.1 x.2.1).2 ≤ 4000000000000000000 ∧ (markL mkAddr x.1 x.2.1).1 = x.1, fun (x : List SAddr × Int × Unit) => ((markL mkAddr x.1 x.2.1).2, ())⟩
def fszAttr : Fct := ⟨[aE .attr, aI], [rI], fun (x : SAttr × Int × Unit) => Sh.good (.el .attr) x.1 ∧ 0 ≤ x.2.1 ∧ x.2.1 ≤ 1048576, fun (x : SAttr × Int × Unit) => (lessen x.2.1 (szAttr x.1), ())⟩
def ftoAttr : Fct := ⟨[aE .attr], [rE .attr], fun (x : SAttr × Unit) => szAttr x.1 ≤ 1048576, fun (x : SAttr × Unit) => (x.1, ())⟩
def feqAttr : Fct := ⟨[aE .attr, aE .attr], [rB], fun x => True, fun (x : SAttr × SAttr × Unit) => (decide (x.1 = x.2.1), ())⟩
def fszAttrS : Fct := ⟨[aL .attr, aI], [rI], fun (x : List SAttr × Int × Unit) => Sh.good (.sl .attr) x.1 ∧ 0 ≤ x.2.1 ∧ x.2.1 ≤ 1048576, fun (x : List SAttr × Int × Unit) => (lessen x.2.1 (szL szAttr x.1), ())⟩
def ftoAttrS : Fct := ⟨[aL .attr], [rL .attr], fun (x : List SAttr × Unit) => szL szAttr x.1 ≤ 1048576, fun (x : List SAttr × Unit) => (x.1, ())⟩
def feqAttrS : Fct := ⟨[aL .attr, aL .attr], [rB], fun (x : List SAttr × List SAttr × Unit) => x.1.length ≤ 4000000000000000000, fun (x : List SAttr × List SAttr × Unit) => (decide (x.1 = x.2.1), ())⟩
def fmarkAttrS : MS := ⟨.sl .attr, fun (l : List SAttr) (k : Int) => 0 ≤ k ∧ (markL mkAttr l k).2 ≤ 4000000000000000000, fun (l : List SAttr) (k : Int) => markL mkAttr l k⟩
def fheldAttrS : Fct := ⟨[aL .attr, aI], [rI], fun (x : List SAttr × Int × Unit) => 0 ≤ x.2.1 ∧ (markL mkAttr x.1 x.2.1).2 ≤ 4000000000000000000 ∧ (markL mkAttr x.1 x.2.1).1 = x.1, fun (x : List SAttr × Int × Unit) => ((markL mkAttr x.1 x.2.1).2, ())⟩
def fszToken : Fct := ⟨[aE .token, aI], [rI], fun (x : SToken × Int × Unit) => Sh.good (.el .token) x.1 ∧ 0 ≤ x.2.1 ∧ x.2.1 ≤ 1048576, fun (x : SToken × Int × Unit) => (lessen x.2.1 (szToken x.1), ())⟩
def ftoToken : Fct := ⟨[aE .token], [rE .token], fun (x : SToken × Unit) => szToken x.1 ≤ 1048576, fun (x : SToken × Unit) => (x.1, ())⟩
def feqToken : Fct := ⟨[aE .token, aE .token], [rB], fun (x : SToken × SToken × Unit) => szToken x.1 ≤ 1125899906842624, fun (x : SToken × SToken × Unit) => (decide (x.1 = x.2.1), ())⟩
def fszTokenS : Fct := ⟨[aL .token, aI], [rI], fun (x : List SToken × Int × Unit) => Sh.good (.sl .token) x.1 ∧ 0 ≤ x.2.1 ∧ x.2.1 ≤ 1048576, fun (x : List SToken × Int × Unit) => (lessen x.2.1 (szL szToken x.1), ())⟩
def ftoTokenS : Fct := ⟨[aL .token], [rL .token], fun (x : List SToken × Unit) => szL szToken x.1 ≤ 1048576, fun (x : List SToken × Unit) => (x.1, ())⟩
def feqTokenS : Fct := ⟨[aL .token, aL .token], [rB], fun (x : List SToken × List SToken × Unit) => szL szToken x.1 ≤ 1125899906842624, fun (x : List SToken × List SToken × Unit) => (decide (x.1 = x.2.1), ())⟩
def fmarkTokenS : MS := ⟨.sl .token, fun (l : List SToken) (k : Int) => 0 ≤ k ∧ (markL mkToken l k).2 ≤ 4000000000000000000, fun (l : List SToken) (k : Int) => markL mkToken l k⟩
def fheldTokenS : Fct := ⟨[aL .token, aI], [rI], fun (x : List SToken × Int × Unit) => 0 ≤ x.2.1 ∧ (markL mkToken x.1 x.2.1).2 ≤ 4000000000000000000 ∧ (markL mkToken x.1 x.2.1).1 = x.1, fun (x : List SToken × Int × Unit) => ((markL mkToken x.1 x.2.1).2, ())⟩
def fmarkToken : MS := ⟨.el .token, fun (x : SToken) (k : Int) => 0 ≤ k ∧ (mvToken x k).2 ≤ 4000000000000000000, fun (x : SToken) (k : Int) => mvToken x k⟩
def fheldToken : Fct := ⟨[aE .token, aI], [rI], fun (x : SToken × Int × Unit) => 0 ≤ x.2.1 ∧ (mvToken x.1 x.2.1).2 ≤ 4000000000000000000 ∧ (mvToken x.1 x.2.1).1 = x.1, fun (x : SToken × Int × Unit) => ((mvToken x.1 x.2.1).2, ())⟩
def fszTokenizer : Fct := ⟨[aE .tokenizer, aI], [rI], fun (x : STokenizer × Int × Unit) => Sh.good (.el .tokenizer) x.1 ∧ 0 ≤ x.2.1 ∧ x.2.1 ≤ 1048576, fun (x : STokenizer × Int × Unit) => (lessen x.2.1 (szTokenizer x.1), ())⟩
def ftoTokenizer : Fct := ⟨[aE .tokenizer], [rE .tokenizer], fun (x : STokenizer × Unit) => szTokenizer x.1 ≤ 1048576, fun (x : STokenizer × Unit) => (x.1, ())⟩
def feqTokenizer : Fct := ⟨[aE .tokenizer, aE .tokenizer], [rB], fun x => True, fun (x : STokenizer × STokenizer × Unit) => (decide (x.1 = x.2.1), ())⟩
def fszTokenizerS : Fct := ⟨[aL .tokenizer, aI], [rI], fun (x : List STokenizer × Int × Unit) => Sh.good (.sl .tokenizer) x.1 ∧ 0 ≤ x.2.1 ∧ x.2.1 ≤ 1048576, fun (x : List STokenizer × Int × Unit) => (lessen x.2.1 (szL szTokenizer x.1), ())⟩
def ftoTokenizerS : Fct := ⟨[aL .tokenizer], [rL .tokenizer], fun (x : List STokenizer × Unit) => szL szTokenizer x.1 ≤ 1048576, fun (x : List STokenizer × Unit) => (x.1, ())⟩
def feqTokenizerS : Fct := ⟨[aL .tokenizer, aL .tokenizer], [rB], fun (x : List STokenizer × List STokenizer × Unit) => x.1.length ≤ 4000000000000000000, fun (x : List STokenizer × List STokenizer × Unit) => (decide (x.1 = x.2.1), ())⟩
def fmarkTokenizerS : MS := ⟨.sl .tokenizer, fun (l : List STokenizer) (k : Int) => 0 ≤ k ∧ (markL mkTokenizer l k).2 ≤ 4000000000000000000, fun (l : List STokenizer) (k : Int) => markL mkTokenizer l k⟩
def fheldTokenizerS : Fct := ⟨[aL .tokenizer, aI], [rI], fun (x : List STokenizer × Int × Unit) => 0 ≤ x.2.1 ∧ (markL mkTokenizer x.1 x.2.1).2 ≤ 4000000000000000000 ∧ (markL mkTokenizer x.1 x.2.1).1 = x.1, fun (x : List STokenizer × Int × Unit) => ((markL mkTokenizer x.1 x.2.1).2, ())⟩
def fszNode : Fct := ⟨[aE .node, aI], [rI], fun (x : SNode × Int × Unit) => Sh.good (.el .node) x.1 ∧ 0 ≤ x.2.1 ∧ x.2.1 ≤ 1048576, fun (x : SNode × Int × Unit) => (lessen x.2.1 (szNode x.1), ())⟩
def ftoNode : Fct := ⟨[aE .node], [rE .node], fun (x : SNode × Unit) => szNode x.1 ≤ 1048576, fun (x : SNode × Unit) => (x.1, ())⟩
def feqNode : Fct := ⟨[aE .node, aE .node], [rB], fun (x : SNode × SNode × Unit) => szNode x.1 ≤ 1125899906842624, fun (x : SNode × SNode × Unit) => (decide (x.1 = x.2.1), ())⟩
def fszNodeS : Fct := ⟨[aL .node, aI], [rI], fun (x : List SNode × Int × Unit) => Sh.good (.sl .node) x.1 ∧ 0 ≤ x.2.1 ∧ x.2.1 ≤ 1048576, fun (x : List SNode × Int × Unit) => (lessen x.2.1 (szL szNode x.1), ())⟩
def ftoNodeS : Fct := ⟨[aL .node], [rL .node], fun (x : List SNode × Unit) => szL szNode x.1 ≤ 1048576, fun (x : List SNode × Unit) => (x.1, ())⟩
def feqNodeS : Fct := ⟨[aL .node, aL .node], [rB], fun (x : List SNode × List SNode × Unit) => szL szNode x.1 ≤ 1125899906842624, fun (x : List SNode × List SNode × Unit) => (decide (x.1 = x.2.1), ())⟩
def fmarkNodeS : MS := ⟨.sl .node, fun (l : List SNode) (k : Int) => 0 ≤ k ∧ (markL mkNode l k).2 ≤ 4000000000000000000, fun (l : List SNode) (k : Int) => markL mkNode l k⟩
def fheldNodeS : Fct := ⟨[aL .node, aI], [rI], fun (x : List SNode × Int × Unit) => 0 ≤ x.2.1 ∧ (markL mkNode x.1 x.2.1).2 ≤ 4000000000000000000 ∧ (markL mkNode x.1 x.2.1).1 = x.1, fun (x : List SNode × Int × Unit) => ((markL mkNode x.1 x.2.1).2, ())⟩
def fmarkNode : MS := ⟨.el .node, fun (x : SNode) (k : Int) => 0 ≤ k ∧ (mvNode x k).2 ≤ 4000000000000000000, fun (x : SNode) (k : Int) => mvNode x k⟩
def fheldNode : Fct := ⟨[aE .node, aI], [rI], fun (x : SNode × Int × Unit) => 0 ≤ x.2.1 ∧ (mvNode x.1 x.2.1).2 ≤ 4000000000000000000 ∧ (mvNode x.1 x.2.1).1 = x.1, fun (x : SNode × Int × Unit) => ((mvNode x.1 x.2.1).2, ())⟩
def fszBuilder : Fct := ⟨[aE .builder, aI], [rI], fun (x : SBuilder × Int × Unit) => Sh.good (.el .builder) x.1 ∧ 0 ≤ x.2.1 ∧ x.2.1 ≤ 1048576, fun (x : SBuilder × Int × Unit) => (lessen x.2.1 (szBuilder x.1), ())⟩
def ftoBuilder : Fct := ⟨[aE .builder], [rE .builder], fun (x : SBuilder × Unit) => szBuilder x.1 ≤ 1048576, fun (x : SBuilder × Unit) => (x.1, ())⟩
def feqBuilder : Fct := ⟨[aE .builder, aE .builder], [rB], fun (x : SBuilder × SBuilder × Unit) => szBuilder x.1 ≤ 1125899906842624, fun (x : SBuilder × SBuilder × Unit) => (decide (x.1 = x.2.1), ())⟩
def fszBuilderS : Fct := ⟨[aL .builder, aI], [rI], fun (x : List SBuilder × Int × Unit) => Sh.good (.sl .builder) x.1 ∧ 0 ≤ x.2.1 ∧ x.2.1 ≤ 1048576, fun (x : List SBuilder × Int × Unit) => (lessen x.2.1 (szL szBuilder x.1), ())⟩
def ftoBuilderS : Fct := ⟨[aL .builder], [rL .builder], fun (x : List SBuilder × Unit) => szL szBuilder x.1 ≤ 1048576, fun (x : List SBuilder × Unit) => (x.1, ())⟩
def feqBuilderS : Fct := ⟨[aL .builder, aL .builder], [rB], fun (x : List SBuilder × List SBuilder × Unit) => szL szBuilder x.1 ≤ 1125899906842624, fun (x : List SBuilder × List SBuilder × Unit) => (decide (x.1 = x.2.1), ())⟩
def fmarkBuilderS : MS := ⟨.sl .builder, fun (l : List SBuilder) (k : Int) => 0 ≤ k ∧ (markL mkBuilder l k).2 ≤ 4000000000000000000, fun (l : List SBuilder) (k : Int) => markL mkBuilder l k⟩
def fheldBuilderS : Fct := ⟨[aL .builder, aI], [rI], fun (x : List SBuilder × Int × Unit) => 0 ≤ x.2.1 ∧ (markL mkBuilder x.1 x.2.1).2 ≤ 4000000000000000000 ∧ (markL mkBuilder x.1 x.2.1).1 = x.1, fun (x : List SBuilder × Int × Unit) => ((markL mkBuilder x.1 x.2.1).2, ())⟩
def fmarkBuilder : MS := ⟨.el .builder, fun (x : SBuilder) (k : Int) => 0 ≤ k ∧ (mvBuilder x k).2 ≤ 4000000000000000000, fun (x : SBuilder) (k : Int) => mvBuilder x k⟩
def fheldBuilder : Fct := ⟨[aE .builder, aI], [rI], fun (x : SBuilder × Int × Unit) => 0 ≤ x.2.1 ∧ (mvBuilder x.1 x.2.1).2 ≤ 4000000000000000000 ∧ (mvBuilder x.1 x.2.1).1 = x.1, fun (x : SBuilder × Int × Unit) => ((mvBuilder x.1 x.2.1).2, ())⟩
def fszRule : Fct := ⟨[aE .rule, aI], [rI], fun (x : SRule × Int × Unit) => Sh.good (.el .rule) x.1 ∧ 0 ≤ x.2.1 ∧ x.2.1 ≤ 1048576, fun (x : SRule × Int × Unit) => (lessen x.2.1 (szRule x.1), ())⟩
def ftoRule : Fct := ⟨[aE .rule], [rE .rule], fun (x : SRule × Unit) => szRule x.1 ≤ 1048576, fun (x : SRule × Unit) => (x.1, ())⟩
def feqRule : Fct := ⟨[aE .rule, aE .rule], [rB], fun x => True, fun (x : SRule × SRule × Unit) => (decide (x.1 = x.2.1), ())⟩
def fszRuleS : Fct := ⟨[aL .rule, aI], [rI], fun (x : List SRule × Int × Unit) => Sh.good (.sl .rule) x.1 ∧ 0 ≤ x.2.1 ∧ x.2.1 ≤ 1048576, fun (x : List SRule × Int × Unit) => (lessen x.2.1 (szL szRule x.1), ())⟩
def ftoRuleS : Fct := ⟨[aL .rule], [rL .rule], fun (x : List SRule × Unit) => szL szRule x.1 ≤ 1048576, fun (x : List SRule × Unit) => (x.1, ())⟩
def feqRuleS : Fct := ⟨[aL .rule, aL .rule], [rB], fun (x : List SRule × List SRule × Unit) => x.1.length ≤ 4000000000000000000, fun (x : List SRule × List SRule × Unit) => (decide (x.1 = x.2.1), ())⟩
def fmarkRuleS : MS := ⟨.sl .rule, fun (l : List SRule) (k : Int) => 0 ≤ k ∧ (markL mkRule l k).2 ≤ 4000000000000000000, fun (l : List SRule) (k : Int) => markL mkRule l k⟩
def fheldRuleS : Fct := ⟨[aL .rule, aI], [rI], fun (x : List SRule × Int × Unit) => 0 ≤ x.2.1 ∧ (markL mkRule x.1 x.2.1).2 ≤ 4000000000000000000 ∧ (markL mkRule x.1 x.2.1).1 = x.1, fun (x : List SRule × Int × Unit) => ((markL mkRule x.1 x.2.1).2, ())⟩
def fszSheet : Fct := ⟨[aE .sheet, aI], [rI], fun (x : SSheet × Int × Unit) => Sh.good (.el .sheet) x.1 ∧ 0 ≤ x.2.1 ∧ x.2.1 ≤ 1048576, fun (x : SSheet × Int × Unit) => (lessen x.2.1 (szSheet x.1), ())⟩
def ftoSheet : Fct := ⟨[aE .sheet], [rE .sheet], fun (x : SSheet × Unit) => szSheet x.1 ≤ 1048576, fun (x : SSheet × Unit) => (x.1, ())⟩
def feqSheet : Fct := ⟨[aE .sheet, aE .sheet], [rB], fun (x : SSheet × SSheet × Unit) => szSheet x.1 ≤ 1125899906842624, fun (x : SSheet × SSheet × Unit) => (decide (x.1 = x.2.1), ())⟩
def fszSheetS : Fct := ⟨[aL .sheet, aI], [rI], fun (x : List SSheet × Int × Unit) => Sh.good (.sl .sheet) x.1 ∧ 0 ≤ x.2.1 ∧ x.2.1 ≤ 1048576, fun (x : List SSheet × Int × Unit) => (lessen x.2.1 (szL szSheet x.1), ())⟩
def ftoSheetS : Fct := ⟨[aL .sheet], [rL .sheet], fun (x : List SSheet × Unit) => szL szSheet x.1 ≤ 1048576, fun (x : List SSheet × Unit) => (x.1, ())⟩
def feqSheetS : Fct := ⟨[aL .sheet, aL .sheet], [rB], fun (x : List SSheet × List SSheet × Unit) => szL szSheet x.1 ≤ 1125899906842624, fun (x : List SSheet × List SSheet × Unit) => (decide (x.1 = x.2.1), ())⟩
def fmarkSheetS : MS := ⟨.sl .sheet, fun (l : List SSheet) (k : Int) => 0 ≤ k ∧ (markL mkSheet l k).2 ≤ 4000000000000000000, fun (l : List SSheet) (k : Int) => markL mkSheet l k⟩
def fheldSheetS : Fct := ⟨[aL .sheet, aI], [rI], fun (x : List SSheet × Int × Unit) => 0 ≤ x.2.1 ∧ (markL mkSheet x.1 x.2.1).2 ≤ 4000000000000000000 ∧ (markL mkSheet x.1 x.2.1).1 = x.1, fun (x : List SSheet × Int × Unit) => ((markL mkSheet x.1 x.2.1).2, ())⟩
def fmarkSheet : MS := ⟨.el .sheet, fun (x : SSheet) (k : Int) => 0 ≤ k ∧ (mvSheet x k).2 ≤ 4000000000000000000, fun (x : SSheet) (k : Int) => mvSheet x k⟩
def fheldSheet : Fct := ⟨[aE .sheet, aI], [rI], fun (x : SSheet × Int × Unit) => 0 ≤ x.2.1 ∧ (mvSheet x.1 x.2.1).2 ≤ 4000000000000000000 ∧ (mvSheet x.1 x.2.1).1 = x.1, fun (x : SSheet × Int × Unit) => ((mvSheet x.1 x.2.1).2, ())⟩
def fszLine : Fct := ⟨[aE .line, aI], [rI], fun (x : SLine × Int × Unit) => Sh.good (.el .line) x.1 ∧ 0 ≤ x.2.1 ∧ x.2.1 ≤ 1048576, fun (x : SLine × Int × Unit) => (lessen x.2.1 (szLine x.1), ())⟩
def ftoLine : Fct := ⟨[aE .line], [rE .line], fun (x : SLine × Unit) => szLine x.1 ≤ 1048576, fun (x : SLine × Unit) => (x.1, ())⟩
def feqLine : Fct := ⟨[aE .line, aE .line], [rB], fun x => True, fun (x : SLine × SLine × Unit) => (decide (x.1 = x.2.1), ())⟩
def fszLineS : Fct := ⟨[aL .line, aI], [rI], fun (x : List SLine × Int × Unit) => Sh.good (.sl .line) x.1 ∧ 0 ≤ x.2.1 ∧ x.2.1 ≤ 1048576, fun (x : List SLine × Int × Unit) => (lessen x.2.1 (szL szLine x.1), ())⟩
def ftoLineS : Fct := ⟨[aL .line], [rL .line], fun (x : List SLine × Unit) => szL szLine x.1 ≤ 1048576, fun (x : List SLine × Unit) => (x.1, ())⟩
def feqLineS : Fct := ⟨[aL .line, aL .line], [rB], fun (x : List SLine × List SLine × Unit) => x.1.length ≤ 4000000000000000000, fun (x : List SLine × List SLine × Unit) => (decide (x.1 = x.2.1), ())⟩
def fmarkLineS : MS := ⟨.sl .line, fun (l : List SLine) (k : Int) => 0 ≤ k ∧ (markL mkLine l k).2 ≤ 4000000000000000000, fun (l : List SLine) (k : Int) => markL mkLine l k⟩
def fheldLineS : Fct := ⟨[aL .line, aI], [rI], fun (x : List SLine × Int × Unit) => 0 ≤ x.2.1 ∧ (markL mkLine x.1 x.2.1).2 ≤ 4000000000000000000 ∧ (markL mkLine x.1 x.2.1).1 = x.1, fun (x : List SLine × Int × Unit) => ((markL mkLine x.1 x.2.1).2, ())⟩
def fszPolicy : Fct := ⟨[aE .policy, aI], [rI], fun (x : SPolicy × Int × Unit) => Sh.good (.el .policy) x.1 ∧ 0 ≤ x.2.1 ∧ x.2.1 ≤ 1048576, fun (x : SPolicy × Int × Unit) => (lessen x.2.1 (szPolicy x.1), ())⟩
def ftoPolicy : Fct := ⟨[aE .policy], [rE .policy], fun (x : SPolicy × Unit) => szPolicy x.1 ≤ 1048576, fun (x : SPolicy × Unit) => (x.1, ())⟩
def feqPolicy : Fct := ⟨[aE .policy, aE .policy], [rB], fun (x : SPolicy × SPolicy × Unit) => szPolicy x.1 ≤ 1125899906842624, fun (x : SPolicy × SPolicy × Unit) => (decide (x.1 = x.2.1), ())⟩
def fszPolicyS : Fct := ⟨[aL .policy, aI], [rI], fun (x : List SPolicy × Int × Unit) => Sh.good (.sl .policy) x.1 ∧ 0 ≤ x.2.1 ∧ x.2.1 ≤ 1048576, fun (x : List SPolicy × Int × Unit) => (lessen x.2.1 (szL szPolicy x.1), ())⟩
def ftoPolicyS : Fct := ⟨[aL .policy], [rL .policy], fun (x : List SPolicy × Unit) => szL szPolicy x.1 ≤ 1048576, fun (x : List SPolicy × Unit) => (x.1, ())⟩
def feqPolicyS : Fct := ⟨[aL .policy, aL .policy], [rB], fun (x : List SPolicy × List SPolicy × Unit) => szL szPolicy x.1 ≤ 1125899906842624, fun (x : List SPolicy × List SPolicy × Unit) => (decide (x.1 = x.2.1), ())⟩
def fmarkPolicyS : MS := ⟨.sl .policy, fun (l : List SPolicy) (k : Int) => 0 ≤ k ∧ (markL mkPolicy l k).2 ≤ 4000000000000000000, fun (l : List SPolicy) (k : Int) => markL mkPolicy l k⟩
def fheldPolicyS : Fct := ⟨[aL .policy, aI], [rI], fun (x : List SPolicy × Int × Unit) => 0 ≤ x.2.1 ∧ (markL mkPolicy x.1 x.2.1).2 ≤ 4000000000000000000 ∧ (markL mkPolicy x.1 x.2.1).1 = x.1, fun (x : List SPolicy × Int × Unit) => ((markL mkPolicy x.1 x.2.1).2, ())⟩
def fmarkPolicy : MS := ⟨.el .policy, fun (x : SPolicy) (k : Int) => 0 ≤ k ∧ (mvPolicy x k).2 ≤ 4000000000000000000, fun (x : SPolicy) (k : Int) => mvPolicy x k⟩
def fheldPolicy : Fct := ⟨[aE .policy, aI], [rI], fun (x : SPolicy × Int × Unit) => 0 ≤ x.2.1 ∧ (mvPolicy x.1 x.2.1).2 ≤ 4000000000000000000 ∧ (mvPolicy x.1 x.2.1).1 = x.1, fun (x : SPolicy × Int × Unit) => ((mvPolicy x.1 x.2.1).2, ())⟩
def fszResponse : Fct := ⟨[aE .response, aI], [rI], fun (x : SResponse × Int × Unit) => Sh.good (.el .response) x.1 ∧ 0 ≤ x.2.1 ∧ x.2.1 ≤ 1048576, fun (x : SResponse × Int × Unit) => (lessen x.2.1 (szResponse x.1), ())⟩
def ftoResponse : Fct := ⟨[aE .response], [rE .response], fun (x : SResponse × Unit) => szResponse x.1 ≤ 1048576, fun (x : SResponse × Unit) => (x.1, ())⟩
def feqResponse : Fct := ⟨[aE .response, aE .response], [rB], fun x => True, fun (x : SResponse × SResponse × Unit) => (decide (x.1 = x.2.1), ())⟩
def fszResponseS : Fct := ⟨[aL .response, aI], [rI], fun (x : List SResponse × Int × Unit) => Sh.good (.sl .response) x.1 ∧ 0 ≤ x.2.1 ∧ x.2.1 ≤ 1048576, fun (x : List SResponse × Int × Unit) => (lessen x.2.1 (szL szResponse x.1), ())⟩
def ftoResponseS : Fct := ⟨[aL .response], [rL .response], fun (x : List SResponse × Unit) => szL szResponse x.1 ≤ 1048576, fun (x : List SResponse × Unit) => (x.1, ())⟩
def feqResponseS : Fct := ⟨[aL .response, aL .response], [rB], fun (x : List SResponse × List SResponse × Unit) => x.1.length ≤ 4000000000000000000, fun (x : List SResponse × List SResponse × Unit) => (decide (x.1 = x.2.1), ())⟩
def fmarkResponseS : MS := ⟨.sl .response, fun (l : List SResponse) (k : Int) => 0 ≤ k ∧ (markL mkResponse l k).2 ≤ 4000000000000000000, fun (l : List SResponse) (k : Int) => markL mkResponse l k⟩
def fheldResponseS : Fct := ⟨[aL .response, aI], [rI], fun (x : List SResponse × Int × Unit) => 0 ≤ x.2.1 ∧ (markL mkResponse x.1 x.2.1).2 ≤ 4000000000000000000 ∧ (markL mkResponse x.1 x.2.1).1 = x.1, fun (x : List SResponse × Int × Unit) => ((markL mkResponse x.1 x.2.1).2, ())⟩
def fszRequest : Fct := ⟨[aE .request, aI], [rI], fun (x : SRequest × Int × Unit) => Sh.good (.el .request) x.1 ∧ 0 ≤ x.2.1 ∧ x.2.1 ≤ 1048576, fun (x : SRequest × Int × Unit) => (lessen x.2.1 (szRequest x.1), ())⟩
def ftoRequest : Fct := ⟨[aE .request], [rE .request], fun (x : SRequest × Unit) => szRequest x.1 ≤ 1048576, fun (x : SRequest × Unit) => (x.1, ())⟩
def feqRequest : Fct := ⟨[aE .request, aE .request], [rB], fun x => True, fun (x : SRequest × SRequest × Unit) => (decide (x.1 = x.2.1), ())⟩
def fszRequestS : Fct := ⟨[aL .request, aI], [rI], fun (x : List SRequest × Int × Unit) => Sh.good (.sl .request) x.1 ∧ 0 ≤ x.2.1 ∧ x.2.1 ≤ 1048576, fun (x : List SRequest × Int × Unit) => (lessen x.2.1 (szL szRequest x.1), ())⟩
def ftoRequestS : Fct := ⟨[aL .request], [rL .request], fun (x : List SRequest × Unit) => szL szRequest x.1 ≤ 1048576, fun (x : List SRequest × Unit) => (x.1, ())⟩
def feqRequestS : Fct := ⟨[aL .request, aL .request], [rB], fun (x : List SRequest × List SRequest × Unit) => x.1.length ≤ 4000000000000000000, fun (x : List SRequest × List SRequest × Unit) => (decide (x.1 = x.2.1), ())⟩
def fmarkRequestS : MS := ⟨.sl .request, fun (l : List SRequest) (k : Int) => 0 ≤ k ∧ (markL mkRequest l k).2 ≤ 4000000000000000000, fun (l : List SRequest) (k : Int) => markL mkRequest l k⟩
def fheldRequestS : Fct := ⟨[aL .request, aI], [rI], fun (x : List SRequest × Int × Unit) => 0 ≤ x.2.1 ∧ (markL mkRequest x.1 x.2.1).2 ≤ 4000000000000000000 ∧ (markL mkRequest x.1 x.2.1).1 = x.1, fun (x : List SRequest × Int × Unit) => ((markL mkRequest x.1 x.2.1).2, ())⟩
def fszFile : Fct := ⟨[aE .file, aI], [rI], fun (x : SFile × Int × Unit) => Sh.good (.el .file) x.1 ∧ 0 ≤ x.2.1 ∧ x.2.1 ≤ 1048576, fun (x : SFile × Int × Unit) => (lessen x.2.1 (szFile x.1), ())⟩
def ftoFile : Fct := ⟨[aE .file], [rE .file], fun (x : SFile × Unit) => szFile x.1 ≤ 1048576, fun (x : SFile × Unit) => (x.1, ())⟩
def feqFile : Fct := ⟨[aE .file, aE .file], [rB], fun x => True, fun (x : SFile × SFile × Unit) => (decide (x.1 = x.2.1), ())⟩
def fszFileS : Fct := ⟨[aL .file, aI], [rI], fun (x : List SFile × Int × Unit) => Sh.good (.sl .file) x.1 ∧ 0 ≤ x.2.1 ∧ x.2.1 ≤ 1048576, fun (x : List SFile × Int × Unit) => (lessen x.2.1 (szL szFile x.1), ())⟩
def ftoFileS : Fct := ⟨[aL .file], [rL .file], fun (x : List SFile × Unit) => szL szFile x.1 ≤ 1048576, fun (x : List SFile × Unit) => (x.1, ())⟩
def feqFileS : Fct := ⟨[aL .file, aL .file], [rB], fun (x : List SFile × List SFile × Unit) => x.1.length ≤ 4000000000000000000, fun (x : List SFile × List SFile × Unit) => (decide (x.1 = x.2.1), ())⟩
def fmarkFileS : MS := ⟨.sl .file, fun (l : List SFile) (k : Int) => 0 ≤ k ∧ (markL mkFile l k).2 ≤ 4000000000000000000, fun (l : List SFile) (k : Int) => markL mkFile l k⟩
def fheldFileS : Fct := ⟨[aL .file, aI], [rI], fun (x : List SFile × Int × Unit) => 0 ≤ x.2.1 ∧ (markL mkFile x.1 x.2.1).2 ≤ 4000000000000000000 ∧ (markL mkFile x.1 x.2.1).1 = x.1, fun (x : List SFile × Int × Unit) => ((markL mkFile x.1 x.2.1).2, ())⟩
def fszServer : Fct := ⟨[aE .server, aI], [rI], fun (x : SServer × Int × Unit) => Sh.good (.el .server) x.1 ∧ 0 ≤ x.2.1 ∧ x.2.1 ≤ 1048576, fun (x : SServer × Int × Unit) => (lessen x.2.1 (szServer x.1), ())⟩
def ftoServer : Fct := ⟨[aE .server], [rE .server], fun (x : SServer × Unit) => szServer x.1 ≤ 1048576, fun (x : SServer × Unit) => (x.1, ())⟩
def feqServer : Fct := ⟨[aE .server, aE .server], [rB], fun (x : SServer × SServer × Unit) => szServer x.1 ≤ 1125899906842624, fun (x : SServer × SServer × Unit) => (decide (x.1 = x.2.1), ())⟩
def fszServerS : Fct := ⟨[aL .server, aI], [rI], fun (x : List SServer × Int × Unit) => Sh.good (.sl .server) x.1 ∧ 0 ≤ x.2.1 ∧ x.2.1 ≤ 1048576, fun (x : List SServer × Int × Unit) => (lessen x.2.1 (szL szServer x.1), ())⟩
def ftoServerS : Fct := ⟨[aL .server], [rL .server], fun (x : List SServer × Unit) => szL szServer x.1 ≤ 1048576, fun (x : List SServer × Unit) => (x.1, ())⟩
def feqServerS : Fct := ⟨[aL .server, aL .server], [rB], fun (x : List SServer × List SServer × Unit) => szL szServer x.1 ≤ 1125899906842624, fun (x : List SServer × List SServer × Unit) => (decide (x.1 = x.2.1), ())⟩
def fmarkServerS : MS := ⟨.sl .server, fun (l : List SServer) (k : Int) => 0 ≤ k ∧ (markL mkServer l k).2 ≤ 4000000000000000000, fun (l : List SServer) (k : Int) => markL mkServer l k⟩
def fheldServerS : Fct := ⟨[aL .server, aI], [rI], fun (x : List SServer × Int × Unit) => 0 ≤ x.2.1 ∧ (markL mkServer x.1 x.2.1).2 ≤ 4000000000000000000 ∧ (markL mkServer x.1 x.2.1).1 = x.1, fun (x : List SServer × Int × Unit) => ((markL mkServer x.1 x.2.1).2, ())⟩
def fmarkServer : MS := ⟨.el .server, fun (x : SServer) (k : Int) => 0 ≤ k ∧ (mvServer x k).2 ≤ 4000000000000000000, fun (x : SServer) (k : Int) => mvServer x k⟩
def fheldServer : Fct := ⟨[aE .server, aI], [rI], fun (x : SServer × Int × Unit) => 0 ≤ x.2.1 ∧ (mvServer x.1 x.2.1).2 ≤ 4000000000000000000 ∧ (mvServer x.1 x.2.1).1 = x.1, fun (x : SServer × Int × Unit) => ((mvServer x.1 x.2.1).2, ())⟩
def fszEntry : Fct := ⟨[aE .entry, aI], [rI], fun (x : SEntry × Int × Unit) => Sh.good (.el .entry) x.1 ∧ 0 ≤ x.2.1 ∧ x.2.1 ≤ 1048576, fun (x : SEntry × Int × Unit) => (lessen x.2.1 (szEntry x.1), ())⟩
def ftoEntry : Fct := ⟨[aE .entry], [rE .entry], fun (x : SEntry × Unit) => szEntry x.1 ≤ 1048576, fun (x : SEntry × Unit) => (x.1, ())⟩
def feqEntry : Fct := ⟨[aE .entry, aE .entry], [rB], fun x => True, fun (x : SEntry × SEntry × Unit) => (decide (x.1 = x.2.1), ())⟩
def fszEntryS : Fct := ⟨[aL .entry, aI], [rI], fun (x : List SEntry × Int × Unit) => Sh.good (.sl .entry) x.1 ∧ 0 ≤ x.2.1 ∧ x.2.1 ≤ 1048576, fun (x : List SEntry × Int × Unit) => (lessen x.2.1 (szL szEntry x.1), ())⟩
def ftoEntryS : Fct := ⟨[aL .entry], [rL .entry], fun (x : List SEntry × Unit) => szL szEntry x.1 ≤ 1048576, fun (x : List SEntry × Unit) => (x.1, ())⟩
def feqEntryS : Fct := ⟨[aL .entry, aL .entry], [rB], fun (x : List SEntry × List SEntry × Unit) => x.1.length ≤ 4000000000000000000, fun (x : List SEntry × List SEntry × Unit) => (decide (x.1 = x.2.1), ())⟩
def fmarkEntryS : MS := ⟨.sl .entry, fun (l : List SEntry) (k : Int) => 0 ≤ k ∧ (markL mkEntry l k).2 ≤ 4000000000000000000, fun (l : List SEntry) (k : Int) => markL mkEntry l k⟩
def fheldEntryS : Fct := ⟨[aL .entry, aI], [rI], fun (x : List SEntry × Int × Unit) => 0 ≤ x.2.1 ∧ (markL mkEntry x.1 x.2.1).2 ≤ 4000000000000000000 ∧ (markL mkEntry x.1 x.2.1).1 = x.1, fun (x : List SEntry × Int × Unit) => ((markL mkEntry x.1 x.2.1).2, ())⟩
def fszCache : Fct := ⟨[aE .cache, aI], [rI], fun (x : SCache × Int × Unit) => Sh.good (.el .cache) x.1 ∧ 0 ≤ x.2.1 ∧ x.2.1 ≤ 1048576, fun (x : SCache × Int × Unit) => (lessen x.2.1 (szCache x.1), ())⟩
def ftoCache : Fct := ⟨[aE .cache], [rE .cache], fun (x : SCache × Unit) => szCache x.1 ≤ 1048576, fun (x : SCache × Unit) => (x.1, ())⟩
def feqCache : Fct := ⟨[aE .cache, aE .cache], [rB], fun (x : SCache × SCache × Unit) => szCache x.1 ≤ 1125899906842624, fun (x : SCache × SCache × Unit) => (decide (x.1 = x.2.1), ())⟩
def fszCacheS : Fct := ⟨[aL .cache, aI], [rI], fun (x : List SCache × Int × Unit) => Sh.good (.sl .cache) x.1 ∧ 0 ≤ x.2.1 ∧ x.2.1 ≤ 1048576, fun (x : List SCache × Int × Unit) => (lessen x.2.1 (szL szCache x.1), ())⟩
def ftoCacheS : Fct := ⟨[aL .cache], [rL .cache], fun (x : List SCache × Unit) => szL szCache x.1 ≤ 1048576, fun (x : List SCache × Unit) => (x.1, ())⟩
def feqCacheS : Fct := ⟨[aL .cache, aL .cache], [rB], fun (x : List SCache × List SCache × Unit) => szL szCache x.1 ≤ 1125899906842624, fun (x : List SCache × List SCache × Unit) => (decide (x.1 = x.2.1), ())⟩
def fmarkCacheS : MS := ⟨.sl .cache, fun (l : List SCache) (k : Int) => 0 ≤ k ∧ (markL mkCache l k).2 ≤ 4000000000000000000, fun (l : List SCache) (k : Int) => markL mkCache l k⟩
def fheldCacheS : Fct := ⟨[aL .cache, aI], [rI], fun (x : List SCache × Int × Unit) => 0 ≤ x.2.1 ∧ (markL mkCache x.1 x.2.1).2 ≤ 4000000000000000000 ∧ (markL mkCache x.1 x.2.1).1 = x.1, fun (x : List SCache × Int × Unit) => ((markL mkCache x.1 x.2.1).2, ())⟩
def fmarkCache : MS := ⟨.el .cache, fun (x : SCache) (k : Int) => 0 ≤ k ∧ (mvCache x k).2 ≤ 4000000000000000000, fun (x : SCache) (k : Int) => mvCache x k⟩
def fheldCache : Fct := ⟨[aE .cache, aI], [rI], fun (x : SCache × Int × Unit) => 0 ≤ x.2.1 ∧ (mvCache x.1 x.2.1).2 ≤ 4000000000000000000 ∧ (mvCache x.1 x.2.1).1 = x.1, fun (x : SCache × Int × Unit) => ((mvCache x.1 x.2.1).2, ())⟩
def fszSent : Fct := ⟨[aE .sent, aI], [rI], fun (x : SSent × Int × Unit) => Sh.good (.el .sent) x.1 ∧ 0 ≤ x.2.1 ∧ x.2.1 ≤ 1048576, fun (x : SSent × Int × Unit) => (lessen x.2.1 (szSent x.1), ())⟩
def ftoSent : Fct := ⟨[aE .sent], [rE .sent], fun (x : SSent × Unit) => szSent x.1 ≤ 1048576, fun (x : SSent × Unit) => (x.1, ())⟩
def feqSent : Fct := ⟨[aE .sent, aE .sent], [rB], fun x => True, fun (x : SSent × SSent × Unit) => (decide (x.1 = x.2.1), ())⟩
def fszSentS : Fct := ⟨[aL .sent, aI], [rI], fun (x : List SSent × Int × Unit) => Sh.good (.sl .sent) x.1 ∧ 0 ≤ x.2.1 ∧ x.2.1 ≤ 1048576, fun (x : List SSent × Int × Unit) => (lessen x.2.1 (szL szSent x.1), ())⟩
def ftoSentS : Fct := ⟨[aL .sent], [rL .sent], fun (x : List SSent × Unit) => szL szSent x.1 ≤ 1048576, fun (x : List SSent × Unit) => (x.1, ())⟩
def feqSentS : Fct := ⟨[aL .sent, aL .sent], [rB], fun (x : List SSent × List SSent × Unit) => x.1.length ≤ 4000000000000000000, fun (x : List SSent × List SSent × Unit) => (decide (x.1 = x.2.1), ())⟩
def fmarkSentS : MS := ⟨.sl .sent, fun (l : List SSent) (k : Int) => 0 ≤ k ∧ (markL mkSent l k).2 ≤ 4000000000000000000, fun (l : List SSent) (k : Int) => markL mkSent l k⟩
def fheldSentS : Fct := ⟨[aL .sent, aI], [rI], fun (x : List SSent × Int × Unit) => 0 ≤ x.2.1 ∧ (markL mkSent x.1 x.2.1).2 ≤ 4000000000000000000 ∧ (markL mkSent x.1 x.2.1).1 = x.1, fun (x : List SSent × Int × Unit) => ((markL mkSent x.1 x.2.1).2, ())⟩
def fszNet : Fct := ⟨[aE .net, aI], [rI], fun (x : SNet × Int × Unit) => Sh.good (.el .net) x.1 ∧ 0 ≤ x.2.1 ∧ x.2.1 ≤ 1048576, fun (x : SNet × Int × Unit) => (lessen x.2.1 (szNet x.1), ())⟩
def ftoNet : Fct := ⟨[aE .net], [rE .net], fun (x : SNet × Unit) => szNet x.1 ≤ 1048576, fun (x : SNet × Unit) => (x.1, ())⟩
def feqNet : Fct := ⟨[aE .net, aE .net], [rB], fun (x : SNet × SNet × Unit) => szNet x.1 ≤ 1125899906842624, fun (x : SNet × SNet × Unit) => (decide (x.1 = x.2.1), ())⟩
def fszNetS : Fct := ⟨[aL .net, aI], [rI], fun (x : List SNet × Int × Unit) => Sh.good (.sl .net) x.1 ∧ 0 ≤ x.2.1 ∧ x.2.1 ≤ 1048576, fun (x : List SNet × Int × Unit) => (lessen x.2.1 (szL szNet x.1), ())⟩
def ftoNetS : Fct := ⟨[aL .net], [rL .net], fun (x : List SNet × Unit) => szL szNet x.1 ≤ 1048576, fun (x : List SNet × Unit) => (x.1, ())⟩
def feqNetS : Fct := ⟨[aL .net, aL .net], [rB], fun (x : List SNet × List SNet × Unit) => szL szNet x.1 ≤ 1125899906842624, fun (x : List SNet × List SNet × Unit) => (decide (x.1 = x.2.1), ())⟩
def fmarkNetS : MS := ⟨.sl .net, fun (l : List SNet) (k : Int) => 0 ≤ k ∧ (markL mkNet l k).2 ≤ 4000000000000000000, fun (l : List SNet) (k : Int) => markL mkNet l k⟩
def fheldNetS : Fct := ⟨[aL .net, aI], [rI], fun (x : List SNet × Int × Unit) => 0 ≤ x.2.1 ∧ (markL mkNet x.1 x.2.1).2 ≤ 4000000000000000000 ∧ (markL mkNet x.1 x.2.1).1 = x.1, fun (x : List SNet × Int × Unit) => ((markL mkNet x.1 x.2.1).2, ())⟩
def fmarkNet : MS := ⟨.el .net, fun (x : SNet) (k : Int) => 0 ≤ k ∧ (mvNet x k).2 ≤ 4000000000000000000, fun (x : SNet) (k : Int) => mvNet x k⟩
def fheldNet : Fct := ⟨[aE .net, aI], [rI], fun (x : SNet × Int × Unit) => 0 ≤ x.2.1 ∧ (mvNet x.1 x.2.1).2 ≤ 4000000000000000000 ∧ (mvNet x.1 x.2.1).1 = x.1, fun (x : SNet × Int × Unit) => ((mvNet x.1 x.2.1).2, ())⟩
def fszSlot : Fct := ⟨[aE .slot, aI], [rI], fun (x : SSlot × Int × Unit) => Sh.good (.el .slot) x.1 ∧ 0 ≤ x.2.1 ∧ x.2.1 ≤ 1048576, fun (x : SSlot × Int × Unit) => (lessen x.2.1 (szSlot x.1), ())⟩
def ftoSlot : Fct := ⟨[aE .slot], [rE .slot], fun (x : SSlot × Unit) => szSlot x.1 ≤ 1048576, fun (x : SSlot × Unit) => (x.1, ())⟩
def feqSlot : Fct := ⟨[aE .slot, aE .slot], [rB], fun x => True, fun (x : SSlot × SSlot × Unit) => (decide (x.1 = x.2.1), ())⟩
def fszSlotS : Fct := ⟨[aL .slot, aI], [rI], fun (x : List SSlot × Int × Unit) => Sh.good (.sl .slot) x.1 ∧ 0 ≤ x.2.1 ∧ x.2.1 ≤ 1048576, fun (x : List SSlot × Int × Unit) => (lessen x.2.1 (szL szSlot x.1), ())⟩
def ftoSlotS : Fct := ⟨[aL .slot], [rL .slot], fun (x : List SSlot × Unit) => szL szSlot x.1 ≤ 1048576, fun (x : List SSlot × Unit) => (x.1, ())⟩
def feqSlotS : Fct := ⟨[aL .slot, aL .slot], [rB], fun (x : List SSlot × List SSlot × Unit) => x.1.length ≤ 4000000000000000000, fun (x : List SSlot × List SSlot × Unit) => (decide (x.1 = x.2.1), ())⟩
def fmarkSlotS : MS := ⟨.sl .slot, fun (l : List SSlot) (k : Int) => 0 ≤ k ∧ (markL mkSlot l k).2 ≤ 4000000000000000000, fun (l : List SSlot) (k : Int) => markL mkSlot l k⟩
def fheldSlotS : Fct := ⟨[aL .slot, aI], [rI], fun (x : List SSlot × Int × Unit) => 0 ≤ x.2.1 ∧ (markL mkSlot x.1 x.2.1).2 ≤ 4000000000000000000 ∧ (markL mkSlot x.1 x.2.1).1 = x.1, fun (x : List SSlot × Int × Unit) => ((markL mkSlot x.1 x.2.1).2, ())⟩
def fszModule : Fct := ⟨[aE .module, aI], [rI], fun (x : SModule × Int × Unit) => Sh.good (.el .module) x.1 ∧ 0 ≤ x.2.1 ∧ x.2.1 ≤ 1048576, fun (x : SModule × Int × Unit) => (lessen x.2.1 (szModule x.1), ())⟩
def ftoModule : Fct := ⟨[aE .module], [rE .module], fun (x : SModule × Unit) => szModule x.1 ≤ 1048576, fun (x : SModule × Unit) => (x.1, ())⟩
def feqModule : Fct := ⟨[aE .module, aE .module], [rB], fun x => True, fun (x : SModule × SModule × Unit) => (decide (x.1 = x.2.1), ())⟩
def fszModuleS : Fct := ⟨[aL .module, aI], [rI], fun (x : List SModule × Int × Unit) => Sh.good (.sl .module) x.1 ∧ 0 ≤ x.2.1 ∧ x.2.1 ≤ 1048576, fun (x : List SModule × Int × Unit) => (lessen x.2.1 (szL szModule x.1), ())⟩
def ftoModuleS : Fct := ⟨[aL .module], [rL .module], fun (x : List SModule × Unit) => szL szModule x.1 ≤ 1048576, fun (x : List SModule × Unit) => (x.1, ())⟩
def feqModuleS : Fct := ⟨[aL .module, aL .module], [rB], fun (x : List SModule × List SModule × Unit) => x.1.length ≤ 4000000000000000000, fun (x : List SModule × List SModule × Unit) => (decide (x.1 = x.2.1), ())⟩
def fmarkModuleS : MS := ⟨.sl .module, fun (l : List SModule) (k : Int) => 0 ≤ k ∧ (markL mkModule l k).2 ≤ 4000000000000000000, fun (l : List SModule) (k : Int) => markL mkModule l k⟩
def fheldModuleS : Fct := ⟨[aL .module, aI], [rI], fun (x : List SModule × Int × Unit) => 0 ≤ x.2.1 ∧ (markL mkModule x.1 x.2.1).2 ≤ 4000000000000000000 ∧ (markL mkModule x.1 x.2.1).1 = x.1, fun (x : List SModule × Int × Unit) => ((markL mkModule x.1 x.2.1).2, ())⟩
def fszPage : Fct := ⟨[aE .page, aI], [rI], fun (x : SPage × Int × Unit) => Sh.good (.el .page) x.1 ∧ 0 ≤ x.2.1 ∧ x.2.1 ≤ 1048576, fun (x : SPage × Int × Unit) => (lessen x.2.1 (szPage x.1), ())⟩
def ftoPage : Fct := ⟨[aE .page], [rE .page], fun (x : SPage × Unit) => szPage x.1 ≤ 1048576, fun (x : SPage × Unit) => (x.1, ())⟩
def feqPage : Fct := ⟨[aE .page, aE .page], [rB], fun (x : SPage × SPage × Unit) => szPage x.1 ≤ 1125899906842624, fun (x : SPage × SPage × Unit) => (decide (x.1 = x.2.1), ())⟩
def fszPageS : Fct := ⟨[aL .page, aI], [rI], fun (x : List SPage × Int × Unit) => Sh.good (.sl .page) x.1 ∧ 0 ≤ x.2.1 ∧ x.2.1 ≤ 1048576, fun (x : List SPage × Int × Unit) => (lessen x.2.1 (szL szPage x.1), ())⟩
def ftoPageS : Fct := ⟨[aL .page], [rL .page], fun (x : List SPage × Unit) => szL szPage x.1 ≤ 1048576, fun (x : List SPage × Unit) => (x.1, ())⟩
def feqPageS : Fct := ⟨[aL .page, aL .page], [rB], fun (x : List SPage × List SPage × Unit) => szL szPage x.1 ≤ 1125899906842624, fun (x : List SPage × List SPage × Unit) => (decide (x.1 = x.2.1), ())⟩
def fmarkPageS : MS := ⟨.sl .page, fun (l : List SPage) (k : Int) => 0 ≤ k ∧ (markL mkPage l k).2 ≤ 4000000000000000000, fun (l : List SPage) (k : Int) => markL mkPage l k⟩
def fheldPageS : Fct := ⟨[aL .page, aI], [rI], fun (x : List SPage × Int × Unit) => 0 ≤ x.2.1 ∧ (markL mkPage x.1 x.2.1).2 ≤ 4000000000000000000 ∧ (markL mkPage x.1 x.2.1).1 = x.1, fun (x : List SPage × Int × Unit) => ((markL mkPage x.1 x.2.1).2, ())⟩
def fmarkPage : MS := ⟨.el .page, fun (x : SPage) (k : Int) => 0 ≤ k ∧ (mvPage x k).2 ≤ 4000000000000000000, fun (x : SPage) (k : Int) => mvPage x k⟩
def fheldPage : Fct := ⟨[aE .page, aI], [rI], fun (x : SPage × Int × Unit) => 0 ≤ x.2.1 ∧ (mvPage x.1 x.2.1).2 ≤ 4000000000000000000 ∧ (mvPage x.1 x.2.1).1 = x.1, fun (x : SPage × Int × Unit) => ((mvPage x.1 x.2.1).2, ())⟩
def fszResult : Fct := ⟨[aE .result, aI], [rI], fun (x : SResult × Int × Unit) => Sh.good (.el .result) x.1 ∧ 0 ≤ x.2.1 ∧ x.2.1 ≤ 1048576, fun (x : SResult × Int × Unit) => (lessen x.2.1 (szResult x.1), ())⟩
def ftoResult : Fct := ⟨[aE .result], [rE .result], fun (x : SResult × Unit) => szResult x.1 ≤ 1048576, fun (x : SResult × Unit) => (x.1, ())⟩
def feqResult : Fct := ⟨[aE .result, aE .result], [rB], fun (x : SResult × SResult × Unit) => szResult x.1 ≤ 1125899906842624, fun (x : SResult × SResult × Unit) => (decide (x.1 = x.2.1), ())⟩
def fszResultS : Fct := ⟨[aL .result, aI], [rI], fun (x : List SResult × Int × Unit) => Sh.good (.sl .result) x.1 ∧ 0 ≤ x.2.1 ∧ x.2.1 ≤ 1048576, fun (x : List SResult × Int × Unit) => (lessen x.2.1 (szL szResult x.1), ())⟩
def ftoResultS : Fct := ⟨[aL .result], [rL .result], fun (x : List SResult × Unit) => szL szResult x.1 ≤ 1048576, fun (x : List SResult × Unit) => (x.1, ())⟩
def feqResultS : Fct := ⟨[aL .result, aL .result], [rB], fun (x : List SResult × List SResult × Unit) => szL szResult x.1 ≤ 1125899906842624, fun (x : List SResult × List SResult × Unit) => (decide (x.1 = x.2.1), ())⟩
def fmarkResultS : MS := ⟨.sl .result, fun (l : List SResult) (k : Int) => 0 ≤ k ∧ (markL mkResult l k).2 ≤ 4000000000000000000, fun (l : List SResult) (k : Int) => markL mkResult l k⟩
def fheldResultS : Fct := ⟨[aL .result, aI], [rI], fun (x : List SResult × Int × Unit) => 0 ≤ x.2.1 ∧ (markL mkResult x.1 x.2.1).2 ≤ 4000000000000000000 ∧ (markL mkResult x.1 x.2.1).1 = x.1, fun (x : List SResult × Int × Unit) => ((markL mkResult x.1 x.2.1).2, ())⟩
def fmarkResult : MS := ⟨.el .result, fun (x : SResult) (k : Int) => 0 ≤ k ∧ (mvResult x k).2 ≤ 4000000000000000000, fun (x : SResult) (k : Int) => mvResult x k⟩
def fheldResult : Fct := ⟨[aE .result, aI], [rI], fun (x : SResult × Int × Unit) => 0 ≤ x.2.1 ∧ (mvResult x.1 x.2.1).2 ≤ 4000000000000000000 ∧ (mvResult x.1 x.2.1).1 = x.1, fun (x : SResult × Int × Unit) => ((mvResult x.1 x.2.1).2, ())⟩
def fszGuess : Fct := ⟨[aE .guess, aI], [rI], fun (x : SGuess × Int × Unit) => Sh.good (.el .guess) x.1 ∧ 0 ≤ x.2.1 ∧ x.2.1 ≤ 1048576, fun (x : SGuess × Int × Unit) => (lessen x.2.1 (szGuess x.1), ())⟩
def ftoGuess : Fct := ⟨[aE .guess], [rE .guess], fun (x : SGuess × Unit) => szGuess x.1 ≤ 1048576, fun (x : SGuess × Unit) => (x.1, ())⟩
def feqGuess : Fct := ⟨[aE .guess, aE .guess], [rB], fun x => True, fun (x : SGuess × SGuess × Unit) => (decide (x.1 = x.2.1), ())⟩
def fszGuessS : Fct := ⟨[aL .guess, aI], [rI], fun (x : List SGuess × Int × Unit) => Sh.good (.sl .guess) x.1 ∧ 0 ≤ x.2.1 ∧ x.2.1 ≤ 1048576, fun (x : List SGuess × Int × Unit) => (lessen x.2.1 (szL szGuess x.1), ())⟩
def ftoGuessS : Fct := ⟨[aL .guess], [rL .guess], fun (x : List SGuess × Unit) => szL szGuess x.1 ≤ 1048576, fun (x : List SGuess × Unit) => (x.1, ())⟩
def feqGuessS : Fct := ⟨[aL .guess, aL .guess], [rB], fun (x : List SGuess × List SGuess × Unit) => x.1.length ≤ 4000000000000000000, fun (x : List SGuess × List SGuess × Unit) => (decide (x.1 = x.2.1), ())⟩
def fmarkGuessS : MS := ⟨.sl .guess, fun (l : List SGuess) (k : Int) => 0 ≤ k ∧ (markL mkGuess l k).2 ≤ 4000000000000000000, fun (l : List SGuess) (k : Int) => markL mkGuess l k⟩
def fheldGuessS : Fct := ⟨[aL .guess, aI], [rI], fun (x : List SGuess × Int × Unit) => 0 ≤ x.2.1 ∧ (markL mkGuess x.1 x.2.1).2 ≤ 4000000000000000000 ∧ (markL mkGuess x.1 x.2.1).1 = x.1, fun (x : List SGuess × Int × Unit) => ((markL mkGuess x.1 x.2.1).2, ())⟩
def fszConn : Fct := ⟨[aE .conn, aI], [rI], fun (x : SConn × Int × Unit) => Sh.good (.el .conn) x.1 ∧ 0 ≤ x.2.1 ∧ x.2.1 ≤ 1048576, fun (x : SConn × Int × Unit) => (lessen x.2.1 (szConn x.1), ())⟩
def ftoConn : Fct := ⟨[aE .conn], [rE .conn], fun (x : SConn × Unit) => szConn x.1 ≤ 1048576, fun (x : SConn × Unit) => (x.1, ())⟩
def feqConn : Fct := ⟨[aE .conn, aE .conn], [rB], fun x => True, fun (x : SConn × SConn × Unit) => (decide (x.1 = x.2.1), ())⟩
def fszConnS : Fct := ⟨[aL .conn, aI], [rI], fun (x : List SConn × Int × Unit) => Sh.good (.sl .conn) x.1 ∧ 0 ≤ x.2.1 ∧ x.2.1 ≤ 1048576, fun (x : List SConn × Int × Unit) => (lessen x.2.1 (szL szConn x.1), ())⟩
def ftoConnS : Fct := ⟨[aL .conn], [rL .conn], fun (x : List SConn × Unit) => szL szConn x.1 ≤ 1048576, fun (x : List SConn × Unit) => (x.1, ())⟩
def feqConnS : Fct := ⟨[aL .conn, aL .conn], [rB], fun (x : List SConn × List SConn × Unit) => x.1.length ≤ 4000000000000000000, fun (x : List SConn × List SConn × Unit) => (decide (x.1 = x.2.1), ())⟩
def fmarkConnS : MS := ⟨.sl .conn, fun (l : List SConn) (k : Int) => 0 ≤ k ∧ (markL mkConn l k).2 ≤ 4000000000000000000, fun (l : List SConn) (k : Int) => markL mkConn l k⟩
def fheldConnS : Fct := ⟨[aL .conn, aI], [rI], fun (x : List SConn × Int × Unit) => 0 ≤ x.2.1 ∧ (markL mkConn x.1 x.2.1).2 ≤ 4000000000000000000 ∧ (markL mkConn x.1 x.2.1).1 = x.1, fun (x : List SConn × Int × Unit) => ((markL mkConn x.1 x.2.1).2, ())⟩
def fszLoader : Fct := ⟨[aE .loader, aI], [rI], fun (x : SLoader × Int × Unit) => Sh.good (.el .loader) x.1 ∧ 0 ≤ x.2.1 ∧ x.2.1 ≤ 1048576, fun (x : SLoader × Int × Unit) => (lessen x.2.1 (szLoader x.1), ())⟩
def ftoLoader : Fct := ⟨[aE .loader], [rE .loader], fun (x : SLoader × Unit) => szLoader x.1 ≤ 1048576, fun (x : SLoader × Unit) => (x.1, ())⟩
def feqLoader : Fct := ⟨[aE .loader, aE .loader], [rB], fun (x : SLoader × SLoader × Unit) => szLoader x.1 ≤ 1125899906842624, fun (x : SLoader × SLoader × Unit) => (decide (x.1 = x.2.1), ())⟩
def fszLoaderS : Fct := ⟨[aL .loader, aI], [rI], fun (x : List SLoader × Int × Unit) => Sh.good (.sl .loader) x.1 ∧ 0 ≤ x.2.1 ∧ x.2.1 ≤ 1048576, fun (x : List SLoader × Int × Unit) => (lessen x.2.1 (szL szLoader x.1), ())⟩
def ftoLoaderS : Fct := ⟨[aL .loader], [rL .loader], fun (x : List SLoader × Unit) => szL szLoader x.1 ≤ 1048576, fun (x : List SLoader × Unit) => (x.1, ())⟩
def feqLoaderS : Fct := ⟨[aL .loader, aL .loader], [rB], fun (x : List SLoader × List SLoader × Unit) => szL szLoader x.1 ≤ 1125899906842624, fun (x : List SLoader × List SLoader × Unit) => (decide (x.1 = x.2.1), ())⟩
def fmarkLoaderS : MS := ⟨.sl .loader, fun (l : List SLoader) (k : Int) => 0 ≤ k ∧ (markL mkLoader l k).2 ≤ 4000000000000000000, fun (l : List SLoader) (k : Int) => markL mkLoader l k⟩
def fheldLoaderS : Fct := ⟨[aL .loader, aI], [rI], fun (x : List SLoader × Int × Unit) => 0 ≤ x.2.1 ∧ (markL mkLoader x.1 x.2.1).2 ≤ 4000000000000000000 ∧ (markL mkLoader x.1 x.2.1).1 = x.1, fun (x : List SLoader × Int × Unit) => ((markL mkLoader x.1 x.2.1).2, ())⟩
def fmarkLoader : MS := ⟨.el .loader, fun (x : SLoader) (k : Int) => 0 ≤ k ∧ (mvLoader x k).2 ≤ 4000000000000000000, fun (x : SLoader) (k : Int) => mvLoader x k⟩
def fheldLoader : Fct := ⟨[aE .loader, aI], [rI], fun (x : SLoader × Int × Unit) => 0 ≤ x.2.1 ∧ (mvLoader x.1 x.2.1).2 ≤ 4000000000000000000 ∧ (mvLoader x.1 x.2.1).1 = x.1, fun (x : SLoader × Int × Unit) => ((mvLoader x.1 x.2.1).2, ())⟩
def fszVisit : Fct := ⟨[aE .visit, aI], [rI], fun (x : SVisit × Int × Unit) => Sh.good (.el .visit) x.1 ∧ 0 ≤ x.2.1 ∧ x.2.1 ≤ 1048576, fun (x : SVisit × Int × Unit) => (lessen x.2.1 (szVisit x.1), ())⟩
def ftoVisit : Fct := ⟨[aE .visit], [rE .visit], fun (x : SVisit × Unit) => szVisit x.1 ≤ 1048576, fun (x : SVisit × Unit) => (x.1, ())⟩
def feqVisit : Fct := ⟨[aE .visit, aE .visit], [rB], fun (x : SVisit × SVisit × Unit) => szVisit x.1 ≤ 1125899906842624, fun (x : SVisit × SVisit × Unit) => (decide (x.1 = x.2.1), ())⟩
def fszVisitS : Fct := ⟨[aL .visit, aI], [rI], fun (x : List SVisit × Int × Unit) => Sh.good (.sl .visit) x.1 ∧ 0 ≤ x.2.1 ∧ x.2.1 ≤ 1048576, fun (x : List SVisit × Int × Unit) => (lessen x.2.1 (szL szVisit x.1), ())⟩
def ftoVisitS : Fct := ⟨[aL .visit], [rL .visit], fun (x : List SVisit × Unit) => szL szVisit x.1 ≤ 1048576, fun (x : List SVisit × Unit) => (x.1, ())⟩
def feqVisitS : Fct := ⟨[aL .visit, aL .visit], [rB], fun (x : List SVisit × List SVisit × Unit) => szL szVisit x.1 ≤ 1125899906842624, fun (x : List SVisit × List SVisit × Unit) => (decide (x.1 = x.2.1), ())⟩
def fmarkVisitS : MS := ⟨.sl .visit, fun (l : List SVisit) (k : Int) => 0 ≤ k ∧ (markL mkVisit l k).2 ≤ 4000000000000000000, fun (l : List SVisit) (k : Int) => markL mkVisit l k⟩
def fheldVisitS : Fct := ⟨[aL .visit, aI], [rI], fun (x : List SVisit × Int × Unit) => 0 ≤ x.2.1 ∧ (markL mkVisit x.1 x.2.1).2 ≤ 4000000000000000000 ∧ (markL mkVisit x.1 x.2.1).1 = x.1, fun (x : List SVisit × Int × Unit) => ((markL mkVisit x.1 x.2.1).2, ())⟩
def fmarkVisit : MS := ⟨.el .visit, fun (x : SVisit) (k : Int) => 0 ≤ k ∧ (mvVisit x k).2 ≤ 4000000000000000000, fun (x : SVisit) (k : Int) => mvVisit x k⟩
def fheldVisit : Fct := ⟨[aE .visit, aI], [rI], fun (x : SVisit × Int × Unit) => 0 ≤ x.2.1 ∧ (mvVisit x.1 x.2.1).2 ≤ 4000000000000000000 ∧ (mvVisit x.1 x.2.1).1 = x.1, fun (x : SVisit × Int × Unit) => ((mvVisit x.1 x.2.1).2, ())⟩
def fszTab : Fct := ⟨[aE .tab, aI], [rI], fun (x : STab × Int × Unit) => Sh.good (.el .tab) x.1 ∧ 0 ≤ x.2.1 ∧ x.2.1 ≤ 1048576, fun (x : STab × Int × Unit) => (lessen x.2.1 (szTab x.1), ())⟩
def ftoTab : Fct := ⟨[aE .tab], [rE .tab], fun (x : STab × Unit) => szTab x.1 ≤ 1048576, fun (x : STab × Unit) => (x.1, ())⟩
def feqTab : Fct := ⟨[aE .tab, aE .tab], [rB], fun (x : STab × STab × Unit) => szTab x.1 ≤ 1125899906842624, fun (x : STab × STab × Unit) => (decide (x.1 = x.2.1), ())⟩
def fszTabS : Fct := ⟨[aL .tab, aI], [rI], fun (x : List STab × Int × Unit) => Sh.good (.sl .tab) x.1 ∧ 0 ≤ x.2.1 ∧ x.2.1 ≤ 1048576, fun (x : List STab × Int × Unit) => (lessen x.2.1 (szL szTab x.1), ())⟩
def ftoTabS : Fct := ⟨[aL .tab], [rL .tab], fun (x : List STab × Unit) => szL szTab x.1 ≤ 1048576, fun (x : List STab × Unit) => (x.1, ())⟩
def feqTabS : Fct := ⟨[aL .tab, aL .tab], [rB], fun (x : List STab × List STab × Unit) => szL szTab x.1 ≤ 1125899906842624, fun (x : List STab × List STab × Unit) => (decide (x.1 = x.2.1), ())⟩
def fmarkTabS : MS := ⟨.sl .tab, fun (l : List STab) (k : Int) => 0 ≤ k ∧ (markL mkTab l k).2 ≤ 4000000000000000000, fun (l : List STab) (k : Int) => markL mkTab l k⟩
def fheldTabS : Fct := ⟨[aL .tab, aI], [rI], fun (x : List STab × Int × Unit) => 0 ≤ x.2.1 ∧ (markL mkTab x.1 x.2.1).2 ≤ 4000000000000000000 ∧ (markL mkTab x.1 x.2.1).1 = x.1, fun (x : List STab × Int × Unit) => ((markL mkTab x.1 x.2.1).2, ())⟩
def fmarkTab : MS := ⟨.el .tab, fun (x : STab) (k : Int) => 0 ≤ k ∧ (mvTab x k).2 ≤ 4000000000000000000, fun (x : STab) (k : Int) => mvTab x k⟩
def fheldTab : Fct := ⟨[aE .tab, aI], [rI], fun (x : STab × Int × Unit) => 0 ≤ x.2.1 ∧ (mvTab x.1 x.2.1).2 ≤ 4000000000000000000 ∧ (mvTab x.1 x.2.1).1 = x.1, fun (x : STab × Int × Unit) => ((mvTab x.1 x.2.1).2, ())⟩
def fszKept : Fct := ⟨[aE .kept, aI], [rI], fun (x : SKept × Int × Unit) => Sh.good (.el .kept) x.1 ∧ 0 ≤ x.2.1 ∧ x.2.1 ≤ 1048576, fun (x : SKept × Int × Unit) => (lessen x.2.1 (szKept x.1), ())⟩
def ftoKept : Fct := ⟨[aE .kept], [rE .kept], fun (x : SKept × Unit) => szKept x.1 ≤ 1048576, fun (x : SKept × Unit) => (x.1, ())⟩
def feqKept : Fct := ⟨[aE .kept, aE .kept], [rB], fun x => True, fun (x : SKept × SKept × Unit) => (decide (x.1 = x.2.1), ())⟩
def fszKeptS : Fct := ⟨[aL .kept, aI], [rI], fun (x : List SKept × Int × Unit) => Sh.good (.sl .kept) x.1 ∧ 0 ≤ x.2.1 ∧ x.2.1 ≤ 1048576, fun (x : List SKept × Int × Unit) => (lessen x.2.1 (szL szKept x.1), ())⟩
def ftoKeptS : Fct := ⟨[aL .kept], [rL .kept], fun (x : List SKept × Unit) => szL szKept x.1 ≤ 1048576, fun (x : List SKept × Unit) => (x.1, ())⟩
def feqKeptS : Fct := ⟨[aL .kept, aL .kept], [rB], fun (x : List SKept × List SKept × Unit) => x.1.length ≤ 4000000000000000000, fun (x : List SKept × List SKept × Unit) => (decide (x.1 = x.2.1), ())⟩
def fmarkKeptS : MS := ⟨.sl .kept, fun (l : List SKept) (k : Int) => 0 ≤ k ∧ (markL mkKept l k).2 ≤ 4000000000000000000, fun (l : List SKept) (k : Int) => markL mkKept l k⟩
def fheldKeptS : Fct := ⟨[aL .kept, aI], [rI], fun (x : List SKept × Int × Unit) => 0 ≤ x.2.1 ∧ (markL mkKept x.1 x.2.1).2 ≤ 4000000000000000000 ∧ (markL mkKept x.1 x.2.1).1 = x.1, fun (x : List SKept × Int × Unit) => ((markL mkKept x.1 x.2.1).2, ())⟩
def fszHidden : Fct := ⟨[aE .hidden, aI], [rI], fun (x : SHidden × Int × Unit) => Sh.good (.el .hidden) x.1 ∧ 0 ≤ x.2.1 ∧ x.2.1 ≤ 1048576, fun (x : SHidden × Int × Unit) => (lessen x.2.1 (szHidden x.1), ())⟩
def ftoHidden : Fct := ⟨[aE .hidden], [rE .hidden], fun (x : SHidden × Unit) => szHidden x.1 ≤ 1048576, fun (x : SHidden × Unit) => (x.1, ())⟩
def feqHidden : Fct := ⟨[aE .hidden, aE .hidden], [rB], fun (x : SHidden × SHidden × Unit) => szHidden x.1 ≤ 1125899906842624, fun (x : SHidden × SHidden × Unit) => (decide (x.1 = x.2.1), ())⟩
def fszHiddenS : Fct := ⟨[aL .hidden, aI], [rI], fun (x : List SHidden × Int × Unit) => Sh.good (.sl .hidden) x.1 ∧ 0 ≤ x.2.1 ∧ x.2.1 ≤ 1048576, fun (x : List SHidden × Int × Unit) => (lessen x.2.1 (szL szHidden x.1), ())⟩
def ftoHiddenS : Fct := ⟨[aL .hidden], [rL .hidden], fun (x : List SHidden × Unit) => szL szHidden x.1 ≤ 1048576, fun (x : List SHidden × Unit) => (x.1, ())⟩
def feqHiddenS : Fct := ⟨[aL .hidden, aL .hidden], [rB], fun (x : List SHidden × List SHidden × Unit) => szL szHidden x.1 ≤ 1125899906842624, fun (x : List SHidden × List SHidden × Unit) => (decide (x.1 = x.2.1), ())⟩
def fmarkHiddenS : MS := ⟨.sl .hidden, fun (l : List SHidden) (k : Int) => 0 ≤ k ∧ (markL mkHidden l k).2 ≤ 4000000000000000000, fun (l : List SHidden) (k : Int) => markL mkHidden l k⟩
def fheldHiddenS : Fct := ⟨[aL .hidden, aI], [rI], fun (x : List SHidden × Int × Unit) => 0 ≤ x.2.1 ∧ (markL mkHidden x.1 x.2.1).2 ≤ 4000000000000000000 ∧ (markL mkHidden x.1 x.2.1).1 = x.1, fun (x : List SHidden × Int × Unit) => ((markL mkHidden x.1 x.2.1).2, ())⟩
def fmarkHidden : MS := ⟨.el .hidden, fun (x : SHidden) (k : Int) => 0 ≤ k ∧ (mvHidden x k).2 ≤ 4000000000000000000, fun (x : SHidden) (k : Int) => mvHidden x k⟩
def fheldHidden : Fct := ⟨[aE .hidden, aI], [rI], fun (x : SHidden × Int × Unit) => 0 ≤ x.2.1 ∧ (mvHidden x.1 x.2.1).2 ≤ 4000000000000000000 ∧ (mvHidden x.1 x.2.1).1 = x.1, fun (x : SHidden × Int × Unit) => ((mvHidden x.1 x.2.1).2, ())⟩
def fszWorld : Fct := ⟨[aE .world, aI], [rI], fun (x : SWorld × Int × Unit) => Sh.good (.el .world) x.1 ∧ 0 ≤ x.2.1 ∧ x.2.1 ≤ 1048576, fun (x : SWorld × Int × Unit) => (lessen x.2.1 (szWorld x.1), ())⟩
def ftoWorld : Fct := ⟨[aE .world], [rE .world], fun (x : SWorld × Unit) => szWorld x.1 ≤ 1048576, fun (x : SWorld × Unit) => (x.1, ())⟩
def feqWorld : Fct := ⟨[aE .world, aE .world], [rB], fun (x : SWorld × SWorld × Unit) => szWorld x.1 ≤ 1125899906842624, fun (x : SWorld × SWorld × Unit) => (decide (x.1 = x.2.1), ())⟩
def fszWorldS : Fct := ⟨[aL .world, aI], [rI], fun (x : List SWorld × Int × Unit) => Sh.good (.sl .world) x.1 ∧ 0 ≤ x.2.1 ∧ x.2.1 ≤ 1048576, fun (x : List SWorld × Int × Unit) => (lessen x.2.1 (szL szWorld x.1), ())⟩
def ftoWorldS : Fct := ⟨[aL .world], [rL .world], fun (x : List SWorld × Unit) => szL szWorld x.1 ≤ 1048576, fun (x : List SWorld × Unit) => (x.1, ())⟩
def feqWorldS : Fct := ⟨[aL .world, aL .world], [rB], fun (x : List SWorld × List SWorld × Unit) => szL szWorld x.1 ≤ 1125899906842624, fun (x : List SWorld × List SWorld × Unit) => (decide (x.1 = x.2.1), ())⟩
def fmarkWorldS : MS := ⟨.sl .world, fun (l : List SWorld) (k : Int) => 0 ≤ k ∧ (markL mkWorld l k).2 ≤ 4000000000000000000, fun (l : List SWorld) (k : Int) => markL mkWorld l k⟩
def fheldWorldS : Fct := ⟨[aL .world, aI], [rI], fun (x : List SWorld × Int × Unit) => 0 ≤ x.2.1 ∧ (markL mkWorld x.1 x.2.1).2 ≤ 4000000000000000000 ∧ (markL mkWorld x.1 x.2.1).1 = x.1, fun (x : List SWorld × Int × Unit) => ((markL mkWorld x.1 x.2.1).2, ())⟩
def fmarkWorld : MS := ⟨.el .world, fun (x : SWorld) (k : Int) => 0 ≤ k ∧ (mvWorld x k).2 ≤ 4000000000000000000, fun (x : SWorld) (k : Int) => mvWorld x k⟩
def fheldWorld : Fct := ⟨[aE .world, aI], [rI], fun (x : SWorld × Int × Unit) => 0 ≤ x.2.1 ∧ (mvWorld x.1 x.2.1).2 ≤ 4000000000000000000 ∧ (mvWorld x.1 x.2.1).1 = x.1, fun (x : SWorld × Int × Unit) => ((mvWorld x.1 x.2.1).2, ())⟩
def fszEvent : Fct := ⟨[aE .event, aI], [rI], fun (x : SEvent × Int × Unit) => Sh.good (.el .event) x.1 ∧ 0 ≤ x.2.1 ∧ x.2.1 ≤ 1048576, fun (x : SEvent × Int × Unit) => (lessen x.2.1 (szEvent x.1), ())⟩
def ftoEvent : Fct := ⟨[aE .event], [rE .event], fun (x : SEvent × Unit) => szEvent x.1 ≤ 1048576, fun (x : SEvent × Unit) => (x.1, ())⟩
def feqEvent : Fct := ⟨[aE .event, aE .event], [rB], fun x => True, fun (x : SEvent × SEvent × Unit) => (decide (x.1 = x.2.1), ())⟩
def fszEventS : Fct := ⟨[aL .event, aI], [rI], fun (x : List SEvent × Int × Unit) => Sh.good (.sl .event) x.1 ∧ 0 ≤ x.2.1 ∧ x.2.1 ≤ 1048576, fun (x : List SEvent × Int × Unit) => (lessen x.2.1 (szL szEvent x.1), ())⟩
def ftoEventS : Fct := ⟨[aL .event], [rL .event], fun (x : List SEvent × Unit) => szL szEvent x.1 ≤ 1048576, fun (x : List SEvent × Unit) => (x.1, ())⟩
def feqEventS : Fct := ⟨[aL .event, aL .event], [rB], fun (x : List SEvent × List SEvent × Unit) => x.1.length ≤ 4000000000000000000, fun (x : List SEvent × List SEvent × Unit) => (decide (x.1 = x.2.1), ())⟩
def fmarkEventS : MS := ⟨.sl .event, fun (l : List SEvent) (k : Int) => 0 ≤ k ∧ (markL mkEvent l k).2 ≤ 4000000000000000000, fun (l : List SEvent) (k : Int) => markL mkEvent l k⟩
def fheldEventS : Fct := ⟨[aL .event, aI], [rI], fun (x : List SEvent × Int × Unit) => 0 ≤ x.2.1 ∧ (markL mkEvent x.1 x.2.1).2 ≤ 4000000000000000000 ∧ (markL mkEvent x.1 x.2.1).1 = x.1, fun (x : List SEvent × Int × Unit) => ((markL mkEvent x.1 x.2.1).2, ())⟩
theorem mvToken_re (x : SToken) (k : Int) : { kind := x.kind, name := x.name, attrs := (mvToken x k).1.attrs, text := x.text : SToken } = (mvToken x k).1 := rfl
theorem mvNode_re (x : SNode) (k : Int) : { name := x.name, text := x.text, parent := x.parent, attrs := (mvNode x k).1.attrs : SNode } = (mvNode x k).1 := rfl
theorem mvPolicy_re (x : SPolicy) (k : Int) : { set_ := x.set_, scripts := (mvPolicy x k).1.scripts, styles := (mvPolicy x k).1.styles, images := (mvPolicy x k).1.images, nonce := x.nonce : SPolicy } = (mvPolicy x k).1 := rfl
theorem mvServer_re (x : SServer) (k : Int) : { host := x.host, files := (mvServer x k).1.files : SServer } = (mvServer x k).1 := rfl
theorem mvNet_re (x : SNet) (k : Int) : { servers := (mvNet x k).1.servers, cache := (mvNet x k).1.cache, log := (mvNet x k).1.log, now := x.now : SNet } = (mvNet x k).1 := rfl
theorem mvPage_re (x : SPage) (k : Int) : { addr := x.addr, policy := { set_ := x.policy.set_, scripts := (mvPage x k).1.policy.scripts, styles := (mvPage x k).1.policy.styles, images := (mvPage x k).1.policy.images, nonce := x.policy.nonce : SPolicy }, tok := x.tok, queue := (mvPage x k).1.queue, ended := x.ended, builder := (mvPage x k).1.builder, slots := (mvPage x k).1.slots, mods := (mvPage x k).1.mods, entries := (mvPage x k).1.entries, block := x.block, inline := x.inline, deferred := x.deferred, entered := x.entered, ran := (mvPage x k).1.ran, log := (mvPage x k).1.log, loaded := x.loaded : SPage } = (mvPage x k).1 := rfl
theorem mvResult_re (x : SResult) (k : Int) : { builder := (mvResult x k).1.builder, log := (mvResult x k).1.log, verdicts := (mvResult x k).1.verdicts, sheet := (mvResult x k).1.sheet, loaded := x.loaded : SResult } = (mvResult x k).1 := rfl
theorem mvLoader_re (x : SLoader) (k : Int) : { net := { servers := (mvLoader x k).1.net.servers, cache := (mvLoader x k).1.net.cache, log := (mvLoader x k).1.net.log, now := x.net.now : SNet }, page := { addr := x.page.addr, policy := { set_ := x.page.policy.set_, scripts := (mvLoader x k).1.page.policy.scripts, styles := (mvLoader x k).1.page.policy.styles, images := (mvLoader x k).1.page.policy.images, nonce := x.page.policy.nonce : SPolicy }, tok := x.page.tok, queue := (mvLoader x k).1.page.queue, ended := x.page.ended, builder := (mvLoader x k).1.page.builder, slots := (mvLoader x k).1.page.slots, mods := (mvLoader x k).1.page.mods, entries := (mvLoader x k).1.page.entries, block := x.page.block, inline := x.page.inline, deferred := x.page.deferred, entered := x.page.entered, ran := (mvLoader x k).1.page.ran, log := (mvLoader x k).1.page.log, loaded := x.page.loaded : SPage }, parts := (mvLoader x k).1.parts, conns := (mvLoader x k).1.conns, guesses := (mvLoader x k).1.guesses : SLoader } = (mvLoader x k).1 := rfl
theorem mvVisit_re (x : SVisit) (k : Int) : { addr := x.addr, page := { addr := x.page.addr, policy := { set_ := x.page.policy.set_, scripts := (mvVisit x k).1.page.policy.scripts, styles := (mvVisit x k).1.page.policy.styles, images := (mvVisit x k).1.page.policy.images, nonce := x.page.policy.nonce : SPolicy }, tok := x.page.tok, queue := (mvVisit x k).1.page.queue, ended := x.page.ended, builder := (mvVisit x k).1.page.builder, slots := (mvVisit x k).1.page.slots, mods := (mvVisit x k).1.page.mods, entries := (mvVisit x k).1.page.entries, block := x.page.block, inline := x.page.inline, deferred := x.page.deferred, entered := x.page.entered, ran := (mvVisit x k).1.page.ran, log := (mvVisit x k).1.page.log, loaded := x.page.loaded : SPage }, kept := x.kept : SVisit } = (mvVisit x k).1 := rfl
theorem mvTab_re (x : STab) (k : Int) : { visits := (mvTab x k).1.visits, at_ := x.at_ : STab } = (mvTab x k).1 := rfl
theorem mvHidden_re (x : SHidden) (k : Int) : { ready := x.ready, page := { addr := x.page.addr, policy := { set_ := x.page.policy.set_, scripts := (mvHidden x k).1.page.policy.scripts, styles := (mvHidden x k).1.page.policy.styles, images := (mvHidden x k).1.page.policy.images, nonce := x.page.policy.nonce : SPolicy }, tok := x.page.tok, queue := (mvHidden x k).1.page.queue, ended := x.page.ended, builder := (mvHidden x k).1.page.builder, slots := (mvHidden x k).1.page.slots, mods := (mvHidden x k).1.page.mods, entries := (mvHidden x k).1.page.entries, block := x.page.block, inline := x.page.inline, deferred := x.page.deferred, entered := x.page.entered, ran := (mvHidden x k).1.page.ran, log := (mvHidden x k).1.page.log, loaded := x.page.loaded : SPage }, taken := (mvHidden x k).1.taken, servers := (mvHidden x k).1.servers, now := x.now : SHidden } = (mvHidden x k).1 := rfl
theorem mvWorld_re (x : SWorld) (k : Int) : { net := { servers := (mvWorld x k).1.net.servers, cache := (mvWorld x k).1.net.cache, log := (mvWorld x k).1.net.log, now := x.net.now : SNet }, tab := { visits := (mvWorld x k).1.tab.visits, at_ := x.tab.at_ : STab }, hidden := { ready := x.hidden.ready, page := { addr := x.hidden.page.addr, policy := { set_ := x.hidden.page.policy.set_, scripts := (mvWorld x k).1.hidden.page.policy.scripts, styles := (mvWorld x k).1.hidden.page.policy.styles, images := (mvWorld x k).1.hidden.page.policy.images, nonce := x.hidden.page.policy.nonce : SPolicy }, tok := x.hidden.page.tok, queue := (mvWorld x k).1.hidden.page.queue, ended := x.hidden.page.ended, builder := (mvWorld x k).1.hidden.page.builder, slots := (mvWorld x k).1.hidden.page.slots, mods := (mvWorld x k).1.hidden.page.mods, entries := (mvWorld x k).1.hidden.page.entries, block := x.hidden.page.block, inline := x.hidden.page.inline, deferred := x.hidden.page.deferred, entered := x.hidden.page.entered, ran := (mvWorld x k).1.hidden.page.ran, log := (mvWorld x k).1.hidden.page.log, loaded := x.hidden.page.loaded : SPage }, taken := (mvWorld x k).1.hidden.taken, servers := (mvWorld x k).1.hidden.servers, now := x.hidden.now : SHidden }, fast := x.fast : SWorld } = (mvWorld x k).1 := rfl
end Go.D
