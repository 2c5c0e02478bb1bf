/-
  The laws' helpers, type by type: sizes, marks.
-/
import Derived.Test.YtmpkhgpieioofaaVPa
namespace Go.D
set_option linter.unusedVariables false
set_option linter.unusedSimpArgs false
abbrev szString (x : ByteArray) : Nat := x.size
def szAddr (x : SAddr) : Nat := x.host.size + x.path.size
def szAttr (x : SAttr) : Nat := x.name.size + x.value.size
def szToken (x : SToken) : Nat := x.name.size + szL szAttr x.attrs + x.text.size
def szTokenizer (x : STokenizer) : Nat := x.rest.size
def szNode (x : SNode) : Nat := x.name.size + x.text.size + szL szAttr x.attrs
def szBuilder (x : SBuilder) : Nat := szL szNode x.nodes + x.open_.length
def szRule (x : SRule) : Nat := x.name.size
def szSheet (x : SSheet) : Nat := szL szRule x.rules
def szLine (x : SLine) : Nat := x.text.size
def szPolicy (x : SPolicy) : Nat := szL szString x.scripts + szL szString x.styles + szL szString x.images + x.nonce.size
def szResponse (x : SResponse) : Nat := x.body.size + x.policy.size
def szRequest (x : SRequest) : Nat := szAddr x.to + x.from_.size + x.digest.size
def szFile (x : SFile) : Nat := x.path.size + szResponse x.response
def szServer (x : SServer) : Nat := x.host.size + szL szFile x.files
def szEntry (x : SEntry) : Nat := x.top.size + szAddr x.to + szResponse x.response
def szCache (x : SCache) : Nat := szL szEntry x.entries
def szSent (x : SSent) : Nat := x.top.size + szAddr x.to
def szNet (x : SNet) : Nat := szL szServer x.servers + szCache x.cache + szL szSent x.log
def szSlot (x : SSlot) : Nat := szAddr x.to + x.digest.size + x.body.size
def szModule (x : SModule) : Nat := szAddr x.to + x.body.size
def szPage (x : SPage) : Nat := szAddr x.addr + szPolicy x.policy + szTokenizer x.tok + szL szToken x.queue + szBuilder x.builder + szL szSlot x.slots + szL szModule x.mods + szL szAddr x.entries + szL szAddr x.ran + szL szString x.log
def szResult (x : SResult) : Nat := szBuilder x.builder + szL szString x.log + szL szString x.verdicts + szSheet x.sheet
def szGuess (x : SGuess) : Nat := szAddr x.to + szResponse x.response
def szConn (x : SConn) : Nat := szAddr x.to + szResponse x.response
def szLoader (x : SLoader) : Nat := szNet x.net + szPage x.page + szL szString x.parts + szL szConn x.conns + szL szGuess x.guesses
def szVisit (x : SVisit) : Nat := szAddr x.addr + szPage x.page
def szTab (x : STab) : Nat := szL szVisit x.visits
def szKept (x : SKept) : Nat := szAddr x.to + szResponse x.response
def szHidden (x : SHidden) : Nat := szPage x.page + szL szKept x.taken + szL szServer x.servers
def szWorld (x : SWorld) : Nat := szNet x.net + szTab x.tab + szHidden x.hidden
def szEvent (x : SEvent) : Nat := szAddr x.to
def mkAddr (x : SAddr) (k : Int) : SAddr × Int := (⟨mtext (k), mtext (k + 1)⟩, k + 2)
theorem mkAddr_mono : Mono mkAddr := fun x k => by simp only [mkAddr]; omega
def mkAttr (x : SAttr) (k : Int) : SAttr × Int := (⟨mtext (k), mtext (k + 1)⟩, k + 2)
theorem mkAttr_mono : Mono mkAttr := fun x k => by simp only [mkAttr]; omega
def mkTokenizer (x : STokenizer) (k : Int) : STokenizer × Int := (⟨mtext (k)⟩, k + 1)
theorem mkTokenizer_mono : Mono mkTokenizer := fun x k => by simp only [mkTokenizer]; omega
def mkRule (x : SRule) (k : Int) : SRule × Int := (⟨mtext (k), k + 1⟩, k + 2)
theorem mkRule_mono : Mono mkRule := fun x k => by simp only [mkRule]; omega
def mkLine (x : SLine) (k : Int) : SLine × Int := (⟨k, mtext (k + 1)⟩, k + 2)
theorem mkLine_mono : Mono mkLine := fun x k => by simp only [mkLine]; omega
def mkResponse (x : SResponse) (k : Int) : SResponse × Int := (⟨k, k + 1, mtext (k + 2), k + 3, (k + 4).tmod 3 == 0, mtext (k + 5)⟩, k + 6)
theorem mkResponse_mono : Mono mkResponse := fun x k => by simp only [mkResponse]; omega
def mkRequest (x : SRequest) (k : Int) : SRequest × Int := (⟨k, ⟨mtext (k + 1), mtext (k + 2)⟩, mtext (k + 3), mtext (k + 4)⟩, k + 5)
theorem mkRequest_mono : Mono mkRequest := fun x k => by simp only [mkRequest]; omega
def mkFile (x : SFile) (k : Int) : SFile × Int := (⟨mtext (k), ⟨k + 1, k + 2, mtext (k + 3), k + 4, (k + 5).tmod 3 == 0, mtext (k + 6)⟩⟩, k + 7)
theorem mkFile_mono : Mono mkFile := fun x k => by simp only [mkFile]; omega
def mkEntry (x : SEntry) (k : Int) : SEntry × Int := (⟨mtext (k), ⟨mtext (k + 1), mtext (k + 2)⟩, ⟨k + 3, k + 4, mtext (k + 5), k + 6, (k + 7).tmod 3 == 0, mtext (k + 8)⟩, k + 9⟩, k + 10)
theorem mkEntry_mono : Mono mkEntry := fun x k => by simp only [mkEntry]; omega
def mkSent (x : SSent) (k : Int) : SSent × Int := (⟨mtext (k), ⟨mtext (k + 1), mtext (k + 2)⟩, (k + 3).tmod 3 == 0⟩, k + 4)
theorem mkSent_mono : Mono mkSent := fun x k => by simp only [mkSent]; omega
def mkSlot (x : SSlot) (k : Int) : SSlot × Int := (⟨k, ⟨mtext (k + 1), mtext (k + 2)⟩, mtext (k + 3), k + 4, (k + 5).tmod 3 == 0, k + 6, mtext (k + 7)⟩, k + 8)
theorem mkSlot_mono : Mono mkSlot := fun x k => by simp only [mkSlot]; omega
def mkModule (x : SModule) (k : Int) : SModule × Int := (⟨⟨mtext (k), mtext (k + 1)⟩, (k + 2).tmod 3 == 0, k + 3, mtext (k + 4)⟩, k + 5)
theorem mkModule_mono : Mono mkModule := fun x k => by simp only [mkModule]; omega
def mkGuess (x : SGuess) (k : Int) : SGuess × Int := (⟨⟨mtext (k), mtext (k + 1)⟩, ⟨k + 2, k + 3, mtext (k + 4), k + 5, (k + 6).tmod 3 == 0, mtext (k + 7)⟩, (k + 8).tmod 3 == 0⟩, k + 9)
theorem mkGuess_mono : Mono mkGuess := fun x k => by simp only [mkGuess]; omega
def mkConn (x : SConn) (k : Int) : SConn × Int := (⟨⟨mtext (k), mtext (k + 1)⟩, k + 2, (k + 3).tmod 3 == 0, ⟨k + 4, k + 5, mtext (k + 6), k + 7, (k + 8).tmod 3 == 0, mtext (k + 9)⟩⟩, k + 10)
theorem mkConn_mono : Mono mkConn := fun x k => by simp only [mkConn]; omega
def mkKept (x : SKept) (k : Int) : SKept × Int := (⟨⟨mtext (k), mtext (k + 1)⟩, ⟨k + 2, k + 3, mtext (k + 4), k + 5, (k + 6).tmod 3 == 0, mtext (k + 7)⟩⟩, k + 8)
theorem mkKept_mono : Mono mkKept := fun x k => by simp only [mkKept]; omega
def mkEvent (x : SEvent) (k : Int) : SEvent × Int := (⟨k, ⟨mtext (k + 1), mtext (k + 2)⟩, k + 3, k + 4⟩, k + 5)
theorem mkEvent_mono : Mono mkEvent := fun x k => by simp only [mkEvent]; omega
theorem mkAddrS_ub (xs : List SAddr) (k : Int) : (markL mkAddr xs k).2 = k + 2 * xs.length := markL_ub (f := mkAddr) (N := 2) (fun _ _ => rfl) xs k
theorem mkAddrS_idem (xs : List SAddr) (k : Int) : markL mkAddr (markL mkAddr xs k).1 k = markL mkAddr xs k := markL_idem (f := mkAddr) (fun _ _ => rfl) xs k
theorem mkAttrS_ub (xs : List SAttr) (k : Int) : (markL mkAttr xs k).2 = k + 2 * xs.length := markL_ub (f := mkAttr) (N := 2) (fun _ _ => rfl) xs k
theorem mkAttrS_idem (xs : List SAttr) (k : Int) : markL mkAttr (markL mkAttr xs k).1 k = markL mkAttr xs k := markL_idem (f := mkAttr) (fun _ _ => rfl) xs k
theorem mkTokenizerS_ub (xs : List STokenizer) (k : Int) : (markL mkTokenizer xs k).2 = k + 1 * xs.length := markL_ub (f := mkTokenizer) (N := 1) (fun _ _ => rfl) xs k
theorem mkTokenizerS_idem (xs : List STokenizer) (k : Int) : markL mkTokenizer (markL mkTokenizer xs k).1 k = markL mkTokenizer xs k := markL_idem (f := mkTokenizer) (fun _ _ => rfl) xs k
theorem mkRuleS_ub (xs : List SRule) (k : Int) : (markL mkRule xs k).2 = k + 2 * xs.length := markL_ub (f := mkRule) (N := 2) (fun _ _ => rfl) xs k
theorem mkRuleS_idem (xs : List SRule) (k : Int) : markL mkRule (markL mkRule xs k).1 k = markL mkRule xs k := markL_idem (f := mkRule) (fun _ _ => rfl) xs k
theorem mkLineS_ub (xs : List SLine) (k : Int) : (markL mkLine xs k).2 = k + 2 * xs.length := markL_ub (f := mkLine) (N := 2) (fun _ _ => rfl) xs k
theorem mkLineS_idem (xs : List SLine) (k : Int) : markL mkLine (markL mkLine xs k).1 k = markL mkLine xs k := markL_idem (f := mkLine) (fun _ _ => rfl) xs k
theorem mkResponseS_ub (xs : List SResponse) (k : Int) : (markL mkResponse xs k).2 = k + 6 * xs.length := markL_ub (f := mkResponse) (N := 6) (fun _ _ => rfl) xs k
theorem mkResponseS_idem (xs : List SResponse) (k : Int) : markL mkResponse (markL mkResponse xs k).1 k = markL mkResponse xs k := markL_idem (f := mkResponse) (fun _ _ => rfl) xs k
theorem mkRequestS_ub (xs : List SRequest) (k : Int) : (markL mkRequest xs k).2 = k + 5 * xs.length := markL_ub (f := mkRequest) (N := 5) (fun _ _ => rfl) xs k
theorem mkRequestS_idem (xs : List SRequest) (k : Int) : markL mkRequest (markL mkRequest xs k).1 k = markL mkRequest xs k := markL_idem (f := mkRequest) (fun _ _ => rfl) xs k
theorem mkFileS_ub (xs : List SFile) (k : Int) : (markL mkFile xs k).2 = k + 7 * xs.length := markL_ub (f := mkFile) (N := 7) (fun _ _ => rfl) xs k
theorem mkFileS_idem (xs : List SFile) (k : Int) : markL mkFile (markL mkFile xs k).1 k = markL mkFile xs k := markL_idem (f := mkFile) (fun _ _ => rfl) xs k
theorem mkEntryS_ub (xs : List SEntry) (k : Int) : (markL mkEntry xs k).2 = k + 10 * xs.length := markL_ub (f := mkEntry) (N := 10) (fun _ _ => rfl) xs k
theorem mkEntryS_idem (xs : List SEntry) (k : Int) : markL mkEntry (markL mkEntry xs k).1 k = markL mkEntry xs k := markL_idem (f := mkEntry) (fun _ _ => rfl) xs k
theorem mkSentS_ub (xs : List SSent) (k : Int) : (markL mkSent xs k).2 = k + 4 * xs.length := markL_ub (f := mkSent) (N := 4) (fun _ _ => rfl) xs k
theorem mkSentS_idem (xs : List SSent) (k : Int) : markL mkSent (markL mkSent xs k).1 k = markL mkSent xs k := markL_idem (f := mkSent) (fun _ _ => rfl) xs k
theorem mkSlotS_ub (xs : List SSlot) (k : Int) : (markL mkSlot xs k).2 = k + 8 * xs.length := markL_ub (f := mkSlot) (N := 8) (fun _ _ => rfl) xs k
theorem mkSlotS_idem (xs : List SSlot) (k : Int) : markL mkSlot (markL mkSlot xs k).1 k = markL mkSlot xs k := markL_idem (f := mkSlot) (fun _ _ => rfl) xs k
theorem mkModuleS_ub (xs : List SModule) (k : Int) : (markL mkModule xs k).2 = k + 5 * xs.length := markL_ub (f := mkModule) (N := 5) (fun _ _ => rfl) xs k
theorem mkModuleS_idem (xs : List SModule) (k : Int) : markL mkModule (markL mkModule xs k).1 k = markL mkModule xs k := markL_idem (f := mkModule) (fun _ _ => rfl) xs k
theorem mkGuessS_ub (xs : List SGuess) (k : Int) : (markL mkGuess xs k).2 = k + 9 * xs.length := markL_ub (f := mkGuess) (N := 9) (fun _ _ => rfl) xs k
theorem mkGuessS_idem (xs : List SGuess) (k : Int) : markL mkGuess (markL mkGuess xs k).1 k = markL mkGuess xs k := markL_idem (f := mkGuess) (fun _ _ => rfl) xs k
theorem mkConnS_ub (xs : List SConn) (k : Int) : (markL mkConn xs k).2 = k + 10 * xs.length := markL_ub (f := mkConn) (N := 10) (fun _ _ => rfl) xs k
theorem mkConnS_idem (xs : List SConn) (k : Int) : markL mkConn (markL mkConn xs k).1 k = markL mkConn xs k := markL_idem (f := mkConn) (fun _ _ => rfl) xs k
theorem mkKeptS_ub (xs : List SKept) (k : Int) : (markL mkKept xs k).2 = k + 8 * xs.length := markL_ub (f := mkKept) (N := 8) (fun _ _ => rfl) xs k
theorem mkKeptS_idem (xs : List SKept) (k : Int) : markL mkKept (markL mkKept xs k).1 k = markL mkKept xs k := markL_idem (f := mkKept) (fun _ _ => rfl) xs k
theorem mkEventS_ub (xs : List SEvent) (k : Int) : (markL mkEvent xs k).2 = k + 5 * xs.length := markL_ub (f := mkEvent) (N := 5) (fun _ _ => rfl) xs k
theorem mkEventS_idem (xs : List SEvent) (k : Int) : markL mkEvent (markL mkEvent xs k).1 k = markL mkEvent xs k := markL_idem (f := mkEvent) (fun _ _ => rfl) xs k
def mkString (x : ByteArray) (k : Int) : ByteArray × Int := (mtext k, k + 1)
theorem mkString_mono : Mono mkString := fun x k => by simp only [mkString]; omega
def mkInt (x : Int) (k : Int) : Int × Int := (k, k + 1)
theorem mkInt_mono : Mono mkInt := fun x k => by simp only [mkInt]; omega
theorem baBeq (x y : ByteArray) : (x == y) = decide (x = y) := by
  rw [Bool.eq_iff_iff, decide_eq_true_eq]
  constructor
  · intro h
    have h' : (x.data == y.data) = true := h
    cases x; cases y; simpa using h'
  · rintro rfl
    show (x.data == x.data) = true
    simp
theorem beqAddr (x y : SAddr) : (x.host == y.host && (x.path == y.path && true)) = decide (x = y) := by
  rw [Bool.eq_iff_iff]; cases x; cases y; simp [baBeq]
theorem beqAttr (x y : SAttr) : (x.name == y.name && (x.value == y.value && true)) = decide (x = y) := by
  rw [Bool.eq_iff_iff]; cases x; cases y; simp [baBeq]
theorem beqTokenizer (x y : STokenizer) : (x.rest == y.rest && true) = decide (x = y) := by
  rw [Bool.eq_iff_iff]; cases x; cases y; simp [baBeq]
theorem beqRule (x y : SRule) : (x.name == y.name && (x.color == y.color && true)) = decide (x = y) := by
  rw [Bool.eq_iff_iff]; cases x; cases y; simp [baBeq]
theorem beqLine (x y : SLine) : (x.op == y.op && (x.text == y.text && true)) = decide (x = y) := by
  rw [Bool.eq_iff_iff]; cases x; cases y; simp [baBeq]
theorem beqResponse (x y : SResponse) : (x.status == y.status && (x.kind == y.kind && (x.body == y.body && (x.age == y.age && (x.shares == y.shares && (x.policy == y.policy && true)))))) = decide (x = y) := by
  rw [Bool.eq_iff_iff]; cases x; cases y; simp [baBeq]
theorem beqRequest (x y : SRequest) : (x.kind == y.kind && ((x.to.host == y.to.host && (x.to.path == y.to.path && true)) && (x.from_ == y.from_ && (x.digest == y.digest && true)))) = decide (x = y) := by
  rw [Bool.eq_iff_iff]; simp only [beqAddr]; cases x; cases y; simp [baBeq]
theorem beqFile (x y : SFile) : (x.path == y.path && ((x.response.status == y.response.status && (x.response.kind == y.response.kind && (x.response.body == y.response.body && (x.response.age == y.response.age && (x.response.shares == y.response.shares && (x.response.policy == y.response.policy && true)))))) && true)) = decide (x = y) := by
  rw [Bool.eq_iff_iff]; simp only [beqResponse]; cases x; cases y; simp [baBeq]
theorem beqEntry (x y : SEntry) : (x.top == y.top && ((x.to.host == y.to.host && (x.to.path == y.to.path && true)) && ((x.response.status == y.response.status && (x.response.kind == y.response.kind && (x.response.body == y.response.body && (x.response.age == y.response.age && (x.response.shares == y.response.shares && (x.response.policy == y.response.policy && true)))))) && (x.until_ == y.until_ && true)))) = decide (x = y) := by
  rw [Bool.eq_iff_iff]; simp only [beqAddr, beqResponse]; cases x; cases y; simp [baBeq]
theorem beqSent (x y : SSent) : (x.top == y.top && ((x.to.host == y.to.host && (x.to.path == y.to.path && true)) && (x.guess == y.guess && true))) = decide (x = y) := by
  rw [Bool.eq_iff_iff]; simp only [beqAddr]; cases x; cases y; simp [baBeq]
theorem beqSlot (x y : SSlot) : (x.mode == y.mode && ((x.to.host == y.to.host && (x.to.path == y.to.path && true)) && (x.digest == y.digest && (x.node == y.node && (x.done == y.done && (x.code == y.code && (x.body == y.body && true))))))) = decide (x = y) := by
  rw [Bool.eq_iff_iff]; simp only [beqAddr]; cases x; cases y; simp [baBeq]
theorem beqModule (x y : SModule) : ((x.to.host == y.to.host && (x.to.path == y.to.path && true)) && (x.done == y.done && (x.code == y.code && (x.body == y.body && true)))) = decide (x = y) := by
  rw [Bool.eq_iff_iff]; simp only [beqAddr]; cases x; cases y; simp [baBeq]
theorem beqGuess (x y : SGuess) : ((x.to.host == y.to.host && (x.to.path == y.to.path && true)) && ((x.response.status == y.response.status && (x.response.kind == y.response.kind && (x.response.body == y.response.body && (x.response.age == y.response.age && (x.response.shares == y.response.shares && (x.response.policy == y.response.policy && true)))))) && (x.used == y.used && true))) = decide (x = y) := by
  rw [Bool.eq_iff_iff]; simp only [beqAddr, beqResponse]; cases x; cases y; simp [baBeq]
theorem beqConn (x y : SConn) : ((x.to.host == y.to.host && (x.to.path == y.to.path && true)) && (x.left == y.left && (x.guess == y.guess && ((x.response.status == y.response.status && (x.response.kind == y.response.kind && (x.response.body == y.response.body && (x.response.age == y.response.age && (x.response.shares == y.response.shares && (x.response.policy == y.response.policy && true)))))) && true)))) = decide (x = y) := by
  rw [Bool.eq_iff_iff]; simp only [beqAddr, beqResponse]; cases x; cases y; simp [baBeq]
theorem beqKept (x y : SKept) : ((x.to.host == y.to.host && (x.to.path == y.to.path && true)) && ((x.response.status == y.response.status && (x.response.kind == y.response.kind && (x.response.body == y.response.body && (x.response.age == y.response.age && (x.response.shares == y.response.shares && (x.response.policy == y.response.policy && true)))))) && true)) = decide (x = y) := by
  rw [Bool.eq_iff_iff]; simp only [beqAddr, beqResponse]; cases x; cases y; simp [baBeq]
theorem beqEvent (x y : SEvent) : (x.kind == y.kind && ((x.to.host == y.to.host && (x.to.path == y.to.path && true)) && (x.n == y.n && (x.seed == y.seed && true)))) = decide (x = y) := by
  rw [Bool.eq_iff_iff]; simp only [beqAddr]; cases x; cases y; simp [baBeq]
theorem mkStringS_ub (xs : List ByteArray) (k : Int) : (markL mkString xs k).2 = k + 1 * xs.length := markL_ub (f := mkString) (N := 1) (fun _ _ => rfl) xs k
theorem mkStringS_idem (xs : List ByteArray) (k : Int) : markL mkString (markL mkString xs k).1 k = markL mkString xs k := markL_idem (f := mkString) (fun _ _ => rfl) xs k
theorem mkIntS_ub (xs : List Int) (k : Int) : (markL mkInt xs k).2 = k + 1 * xs.length := markL_ub (f := mkInt) (N := 1) (fun _ _ => rfl) xs k
theorem mkIntS_idem (xs : List Int) (k : Int) : markL mkInt (markL mkInt xs k).1 k = markL mkInt xs k := markL_idem (f := mkInt) (fun _ _ => rfl) xs k
def fmarkText : Fct := ⟨[aI], [rT], fun (x : Int × Unit) => 0 ≤ x.1 ∧ x.1 ≤ 4000000000000000000, fun (x : Int × Unit) => (mtext x.1, ())⟩
abbrev LmTx (k : Int) : LInv := ⟨[⟨.s, 0, true, .el .int⟩, ⟨.s, 3, true, .el .str⟩], fun _ (x : Int × ByteArray × Unit) => 0 ≤ x.1 ∧ x.1 ≤ k ∧ ∃ f, f + x.2.1.size = 64 ∧ x.1.toNat < 10 ^ f ∧ digs 64 k.toNat ⟨#[]⟩ = digs f x.1.toNat x.2.1, fun (x : Int × ByteArray × Unit) => x.1.toNat⟩
abbrev LszS (t : Ty) (f : El t → Nat) (l : List (El t)) (n : Int) : LInv := ⟨[⟨.s, 1, true, .el .int⟩, ⟨.s, 5, true, .el .int⟩], fun _ (x : Int × Int × Unit) => 0 ≤ x.2.1 ∧ x.2.1 ≤ l.length ∧ 0 ≤ x.1 ∧ x.1 = n - l.length - ((l.take x.2.1.toNat).map f).sum, fun (x : Int × Int × Unit) => l.length - x.2.1.toNat⟩
abbrev LtoS (t : Ty) (l : List (El t)) : LInv := ⟨[⟨.s, 4, true, .el .int⟩, ⟨.s, 3, true, .sl t⟩], fun _ (x : Int × List (El t) × Unit) => 0 ≤ x.1 ∧ x.1 ≤ l.length ∧ x.2.1 = l.take x.1.toNat ++ List.replicate (l.length - x.1.toNat) default, fun (x : Int × List (El t) × Unit) => l.length - x.1.toNat⟩
abbrev LeqS (t : Ty) (l m : List (El t)) : LInv := ⟨[⟨.s, 5, true, .el .int⟩], fun _ (x : Int × Unit) => 0 ≤ x.1 ∧ x.1 ≤ l.length ∧ l.take x.1.toNat = m.take x.1.toNat, fun (x : Int × Unit) => l.length - x.1.toNat⟩
abbrev LmkS (t : Ty) (f : El t → Int → El t × Int) (l : List (El t)) (k : Int) : LInv := ⟨[⟨.s, 1, true, .el .int⟩, ⟨.s, 5, true, .el .int⟩, ⟨.t, 0, true, .sl t⟩], fun _ (x : Int × Int × List (El t) × Unit) => 0 ≤ x.2.1 ∧ x.2.1 ≤ l.length ∧ x.1 = (markL f (l.take x.2.1.toNat) k).2 ∧ x.2.2.1 = (markL f (l.take x.2.1.toNat) k).1 ++ l.drop x.2.1.toNat, fun (x : Int × Int × List (El t) × Unit) => l.length - x.2.1.toNat⟩
abbrev LheS (t : Ty) (f : El t → Int → El t × Int) (l : List (El t)) (k : Int) : LInv := ⟨[⟨.s, 1, true, .el .int⟩, ⟨.s, 5, true, .el .int⟩], fun _ (x : Int × Int × Unit) => 0 ≤ x.2.1 ∧ x.2.1 ≤ l.length ∧ x.1 = (markL f (l.take x.2.1.toNat) k).2, fun (x : Int × Int × Unit) => l.length - x.2.1.toNat⟩
def fszStringS : Fct := ⟨[aL .str, aI], [rI], fun (x : List ByteArray × Int × Unit) => Sh.good (.sl .str) x.1 ∧ 0 ≤ x.2.1 ∧ x.2.1 ≤ 1048576, fun (x : List ByteArray × Int × Unit) => (lessen x.2.1 (szL szString x.1), ())⟩
def ftoStringS : Fct := ⟨[aL .str], [rL .str], fun (x : List ByteArray × Unit) => szL szString x.1 ≤ 1048576, fun (x : List ByteArray × Unit) => (x.1, ())⟩
def feqStringS : Fct := ⟨[aL .str, aL .str], [rB], fun (x : List ByteArray × List ByteArray × Unit) => x.1.length ≤ 4000000000000000000, fun (x : List ByteArray × List ByteArray × Unit) => (decide (x.1 = x.2.1), ())⟩
def fmarkStringS : MS := ⟨.sl .str, fun (l : List ByteArray) (k : Int) => 0 ≤ k ∧ (markL mkString l k).2 ≤ 4000000000000000000, fun (l : List ByteArray) (k : Int) => markL mkString l k⟩
def fheldStringS : Fct := ⟨[aL .str, aI], [rI], fun (x : List ByteArray × Int × Unit) => 0 ≤ x.2.1 ∧ (markL mkString x.1 x.2.1).2 ≤ 4000000000000000000 ∧ (markL mkString x.1 x.2.1).1 = x.1, fun (x : List ByteArray × Int × Unit) => ((markL mkString x.1 x.2.1).2, ())⟩
def fszIntS : Fct := ⟨[aL .int, aI], [rI], fun (x : List Int × Int × Unit) => Sh.good (.sl .int) x.1 ∧ 0 ≤ x.2.1 ∧ x.2.1 ≤ 1048576, fun (x : List Int × Int × Unit) => (lessen x.2.1 (x.1.length), ())⟩
def ftoIntS : Fct := ⟨[aL .int], [rL .int], fun (x : List Int × Unit) => x.1.length ≤ 1048576, fun (x : List Int × Unit) => (x.1, ())⟩
def feqIntS : Fct := ⟨[aL .int, aL .int], [rB], fun (x : List Int × List Int × Unit) => x.1.length ≤ 4000000000000000000, fun (x : List Int × List Int × Unit) => (decide (x.1 = x.2.1), ())⟩
def fmarkIntS : MS := ⟨.sl .int, fun (l : List Int) (k : Int) => 0 ≤ k ∧ (markL mkInt l k).2 ≤ 4000000000000000000, fun (l : List Int) (k : Int) => markL mkInt l k⟩
def fheldIntS : Fct := ⟨[aL .int, aI], [rI], fun (x : List Int × Int × Unit) => 0 ≤ x.2.1 ∧ (markL mkInt x.1 x.2.1).2 ≤ 4000000000000000000 ∧ (markL mkInt x.1 x.2.1).1 = x.1, fun (x : List Int × Int × Unit) => ((markL mkInt x.1 x.2.1).2, ())⟩
def fszAddr : Fct := ⟨[aE .addr, aI], [rI], fun (x : SAddr × Int × Unit) => Sh.good (.el .addr) x.1 ∧ 0 ≤ x.2.1 ∧ x.2.1 ≤ 1048576, fun (x : SAddr × Int × Unit) => (lessen x.2.1 (szAddr x.1), ())⟩
def ftoAddr : Fct := ⟨[aE .addr], [rE .addr], fun (x : SAddr × Unit) => szAddr x.1 ≤ 1048576, fun (x : SAddr × Unit) => (x.1, ())⟩
def feqAddr : Fct := ⟨[aE .addr, aE .addr], [rB], fun x => True, fun (x : SAddr × SAddr × Unit) => (decide (x.1 = x.2.1), ())⟩
def fszAddrS : Fct := ⟨[aL .addr, aI], [rI], fun (x : List SAddr × Int × Unit) => Sh.good (.sl .addr) x.1 ∧ 0 ≤ x.2.1 ∧ x.2.1 ≤ 1048576, fun (x : List SAddr × Int × Unit) => (lessen x.2.1 (szL szAddr x.1), ())⟩
def ftoAddrS : Fct := ⟨[aL .addr], [rL .addr], fun (x : List SAddr × Unit) => szL szAddr x.1 ≤ 1048576, fun (x : List SAddr × Unit) => (x.1, ())⟩
def feqAddrS : Fct := ⟨[aL .addr, aL .addr], [rB], fun (x : List SAddr × List SAddr × Unit) => x.1.length ≤ 4000000000000000000, fun (x : List SAddr × List SAddr × Unit) => (decide (x.1 = x.2.1), ())⟩
def fmarkAddrS : MS := ⟨.sl .addr, fun (l : List SAddr) (k : Int) => 0 ≤ k ∧ (markL mkAddr l k).2 ≤ 4000000000000000000, fun (l : List SAddr) (k : Int) => markL mkAddr l k⟩
def fheldAddrS : Fct := ⟨[aL .addr, aI], [rI], fun (x : List SAddr × Int × Unit) => 0 ≤ x.2.1 ∧ (markL mkAddr x.1 x.2.1).2 ≤ 4000000000000000000 ∧ (markL mkAddr x.1 x.2.1).1 = x.1, fun (x : List SAddr × Int × Unit) => ((markL mkAddr x.1 x.2.1).2, ())⟩
def fszAttr : Fct := ⟨[aE .attr, aI], [rI], fun (x : SAttr × Int × Unit) => Sh.good (.el .attr) x.1 ∧ 0 ≤ x.2.1 ∧ x.2.1 ≤ 1048576, fun (x : SAttr × Int × Unit) => (lessen x.2.1 (szAttr x.1), ())⟩
def ftoAttr : Fct := ⟨[aE .attr], [rE .attr], fun (x : SAttr × Unit) => szAttr x.1 ≤ 1048576, fun (x : SAttr × Unit) => (x.1, ())⟩
def feqAttr : Fct := ⟨[aE .attr, aE .attr], [rB], fun x => True, fun (x : SAttr × SAttr × Unit) => (decide (x.1 = x.2.1), ())⟩
def fszAttrS : Fct := ⟨[aL .attr, aI], [rI], fun (x : List SAttr × Int × Unit) => Sh.good (.sl .attr) x.1 ∧ 0 ≤ x.2.1 ∧ x.2.1 ≤ 1048576, fun (x : List SAttr × Int × Unit) => (lessen x.2.1 (szL szAttr x.1), ())⟩
def ftoAttrS : Fct := ⟨[aL .attr], [rL .attr], fun (x : List SAttr × Unit) => szL szAttr x.1 ≤ 1048576, fun (x : List SAttr × Unit) => (x.1, ())⟩
def feqAttrS : Fct := ⟨[aL .attr, aL .attr], [rB], fun (x : List SAttr × List SAttr × Unit) => x.1.length ≤ 4000000000000000000, fun (x : List SAttr × List SAttr × Unit) => (decide (x.1 = x.2.1), ())⟩
def fmarkAttrS : MS := ⟨.sl .attr, fun (l : List SAttr) (k : Int) => 0 ≤ k ∧ (markL mkAttr l k).2 ≤ 4000000000000000000, fun (l : List SAttr) (k : Int) => markL mkAttr l k⟩
def fheldAttrS : Fct := ⟨[aL .attr, aI], [rI], fun (x : List SAttr × Int × Unit) => 0 ≤ x.2.1 ∧ (markL mkAttr x.1 x.2.1).2 ≤ 4000000000000000000 ∧ (markL mkAttr x.1 x.2.1).1 = x.1, fun (x : List SAttr × Int × Unit) => ((markL mkAttr x.1 x.2.1).2, ())⟩
def fszToken : Fct := ⟨[aE .token, aI], [rI], fun (x : SToken × Int × Unit) => Sh.good (.el .token) x.1 ∧ 0 ≤ x.2.1 ∧ x.2.1 ≤ 1048576, fun (x : SToken × Int × Unit) => (lessen x.2.1 (szToken x.1), ())⟩
def ftoToken : Fct := ⟨[aE .token], [rE .token], fun (x : SToken × Unit) => szToken x.1 ≤ 1048576, fun (x : SToken × Unit) => (x.1, ())⟩
def feqToken : Fct := ⟨[aE .token, aE .token], [rB], fun (x : SToken × SToken × Unit) => szToken x.1 ≤ 1125899906842624, fun (x : SToken × SToken × Unit) => (decide (x.1 = x.2.1), ())⟩
def fszTokenS : Fct := ⟨[aL .token, aI], [rI], fun (x : List SToken × Int × Unit) => Sh.good (.sl .token) x.1 ∧ 0 ≤ x.2.1 ∧ x.2.1 ≤ 1048576, fun (x : List SToken × Int × Unit) => (lessen x.2.1 (szL szToken x.1), ())⟩
def ftoTokenS : Fct := ⟨[aL .token], [rL .token], fun (x : List SToken × Unit) => szL szToken x.1 ≤ 1048576, fun (x : List SToken × Unit) => (x.1, ())⟩
def feqTokenS : Fct := ⟨[aL .token, aL .token], [rB], fun (x : List SToken × List SToken × Unit) => szL szToken x.1 ≤ 1125899906842624, fun (x : List SToken × List SToken × Unit) => (decide (x.1 = x.2.1), ())⟩
def fszTokenizer : Fct := ⟨[aE .tokenizer, aI], [rI], fun (x : STokenizer × Int × Unit) => Sh.good (.el .tokenizer) x.1 ∧ 0 ≤ x.2.1 ∧ x.2.1 ≤ 1048576, fun (x : STokenizer × Int × Unit) => (lessen x.2.1 (szTokenizer x.1), ())⟩
def ftoTokenizer : Fct := ⟨[aE .tokenizer], [rE .tokenizer], fun (x : STokenizer × Unit) => szTokenizer x.1 ≤ 1048576, fun (x : STokenizer × Unit) => (x.1, ())⟩
def feqTokenizer : Fct := ⟨[aE .tokenizer, aE .tokenizer], [rB], fun x => True, fun (x : STokenizer × STokenizer × Unit) => (decide (x.1 = x.2.1), ())⟩
def fszTokenizerS : Fct := ⟨[aL .tokenizer, aI], [rI], fun (x : List STokenizer × Int × Unit) => Sh.good (.sl .tokenizer) x.1 ∧ 0 ≤ x.2.1 ∧ x.2.1 ≤ 1048576, fun (x : List STokenizer × Int × Unit) => (lessen x.2.1 (szL szTokenizer x.1), ())⟩
def ftoTokenizerS : Fct := ⟨[aL .tokenizer], [rL .tokenizer], fun (x : List STokenizer × Unit) => szL szTokenizer x.1 ≤ 1048576, fun (x : List STokenizer × Unit) => (x.1, ())⟩
def feqTokenizerS : Fct := ⟨[aL .tokenizer, aL .tokenizer], [rB], fun (x : List STokenizer × List STokenizer × Unit) => x.1.length ≤ 4000000000000000000, fun (x : List STokenizer × List STokenizer × Unit) => (decide (x.1 = x.2.1), ())⟩
def fmarkTokenizerS : MS := ⟨.sl .tokenizer, fun (l : List STokenizer) (k : Int) => 0 ≤ k ∧ (markL mkTokenizer l k).2 ≤ 4000000000000000000, fun (l : List STokenizer) (k : Int) => markL mkTokenizer l k⟩
def fheldTokenizerS : Fct := ⟨[aL .tokenizer, aI], [rI], fun (x : List STokenizer × Int × Unit) => 0 ≤ x.2.1 ∧ (markL mkTokenizer x.1 x.2.1).2 ≤ 4000000000000000000 ∧ (markL mkTokenizer x.1 x.2.1).1 = x.1, fun (x : List STokenizer × Int × Unit) => ((markL mkTokenizer x.1 x.2.1).2, ())⟩
def fszNode : Fct := ⟨[aE .node, aI], [rI], fun (x : SNode × Int × Unit) => Sh.good (.el .node) x.1 ∧ 0 ≤ x.2.1 ∧ x.2.1 ≤ 1048576, fun (x : SNode × Int × Unit) => (lessen x.2.1 (szNode x.1), ())⟩
def ftoNode : Fct := ⟨[aE .node], [rE .node], fun (x : SNode × Unit) => szNode x.1 ≤ 1048576, fun (x : SNode × Unit) => (x.1, ())⟩
def feqNode : Fct := ⟨[aE .node, aE .node], [rB], fun (x : SNode × SNode × Unit) => szNode x.1 ≤ 1125899906842624, fun (x : SNode × SNode × Unit) => (decide (x.1 = x.2.1), ())⟩
def fszNodeS : Fct := ⟨[aL .node, aI], [rI], fun (x : List SNode × Int × Unit) => Sh.good (.sl .node) x.1 ∧ 0 ≤ x.2.1 ∧ x.2.1 ≤ 1048576, fun (x : List SNode × Int × Unit) => (lessen x.2.1 (szL szNode x.1), ())⟩
def ftoNodeS : Fct := ⟨[aL .node], [rL .node], fun (x : List SNode × Unit) => szL szNode x.1 ≤ 1048576, fun (x : List SNode × Unit) => (x.1, ())⟩
def feqNodeS : Fct := ⟨[aL .node, aL .node], [rB], fun (x : List SNode × List SNode × Unit) => szL szNode x.1 ≤ 1125899906842624, fun (x : List SNode × List SNode × Unit) => (decide (x.1 = x.2.1), ())⟩
def fszBuilder : Fct := ⟨[aE .builder, aI], [rI], fun (x : SBuilder × Int × Unit) => Sh.good (.el .builder) x.1 ∧ 0 ≤ x.2.1 ∧ x.2.1 ≤ 1048576, fun (x : SBuilder × Int × Unit) => (lessen x.2.1 (szBuilder x.1), ())⟩
def ftoBuilder : Fct := ⟨[aE .builder], [rE .builder], fun (x : SBuilder × Unit) => szBuilder x.1 ≤ 1048576, fun (x : SBuilder × Unit) => (x.1, ())⟩
def feqBuilder : Fct := ⟨[aE .builder, aE .builder], [rB], fun (x : SBuilder × SBuilder × Unit) => szBuilder x.1 ≤ 1125899906842624, fun (x : SBuilder × SBuilder × Unit) => (decide (x.1 = x.2.1), ())⟩
def fszBuilderS : Fct := ⟨[aL .builder, aI], [rI], fun (x : List SBuilder × Int × Unit) => Sh.good (.sl .builder) x.1 ∧ 0 ≤ x.2.1 ∧ x.2.1 ≤ 1048576, fun (x : List SBuilder × Int × Unit) => (lessen x.2.1 (szL szBuilder x.1), ())⟩
def ftoBuilderS : Fct := ⟨[aL .builder], [rL .builder], fun (x : List SBuilder × Unit) => szL szBuilder x.1 ≤ 1048576, fun (x : List SBuilder × Unit) => (x.1, ())⟩
def feqBuilderS : Fct := ⟨[aL .builder, aL .builder], [rB], fun (x : List SBuilder × List SBuilder × Unit) => szL szBuilder x.1 ≤ 1125899906842624, fun (x : List SBuilder × List SBuilder × Unit) => (decide (x.1 = x.2.1), ())⟩
def fszRule : Fct := ⟨[aE .rule, aI], [rI], fun (x : SRule × Int × Unit) => Sh.good (.el .rule) x.1 ∧ 0 ≤ x.2.1 ∧ x.2.1 ≤ 1048576, fun (x : SRule × Int × Unit) => (lessen x.2.1 (szRule x.1), ())⟩
def ftoRule : Fct := ⟨[aE .rule], [rE .rule], fun (x : SRule × Unit) => szRule x.1 ≤ 1048576, fun (x : SRule × Unit) => (x.1, ())⟩
def feqRule : Fct := ⟨[aE .rule, aE .rule], [rB], fun x => True, fun (x : SRule × SRule × Unit) => (decide (x.1 = x.2.1), ())⟩
def fszRuleS : Fct := ⟨[aL .rule, aI], [rI], fun (x : List SRule × Int × Unit) => Sh.good (.sl .rule) x.1 ∧ 0 ≤ x.2.1 ∧ x.2.1 ≤ 1048576, fun (x : List SRule × Int × Unit) => (lessen x.2.1 (szL szRule x.1), ())⟩
def ftoRuleS : Fct := ⟨[aL .rule], [rL .rule], fun (x : List SRule × Unit) => szL szRule x.1 ≤ 1048576, fun (x : List SRule × Unit) => (x.1, ())⟩
def feqRuleS : Fct := ⟨[aL .rule, aL .rule], [rB], fun (x : List SRule × List SRule × Unit) => x.1.length ≤ 4000000000000000000, fun (x : List SRule × List SRule × Unit) => (decide (x.1 = x.2.1), ())⟩
def fmarkRuleS : MS := ⟨.sl .rule, fun (l : List SRule) (k : Int) => 0 ≤ k ∧ (markL mkRule l k).2 ≤ 4000000000000000000, fun (l : List SRule) (k : Int) => markL mkRule l k⟩
def fheldRuleS : Fct := ⟨[aL .rule, aI], [rI], fun (x : List SRule × Int × Unit) => 0 ≤ x.2.1 ∧ (markL mkRule x.1 x.2.1).2 ≤ 4000000000000000000 ∧ (markL mkRule x.1 x.2.1).1 = x.1, fun (x : List SRule × Int × Unit) => ((markL mkRule x.1 x.2.1).2, ())⟩
def fszSheet : Fct := ⟨[aE .sheet, aI], [rI], fun (x : SSheet × Int × Unit) => Sh.good (.el .sheet) x.1 ∧ 0 ≤ x.2.1 ∧ x.2.1 ≤ 1048576, fun (x : SSheet × Int × Unit) => (lessen x.2.1 (szSheet x.1), ())⟩
def ftoSheet : Fct := ⟨[aE .sheet], [rE .sheet], fun (x : SSheet × Unit) => szSheet x.1 ≤ 1048576, fun (x : SSheet × Unit) => (x.1, ())⟩
def feqSheet : Fct := ⟨[aE .sheet, aE .sheet], [rB], fun (x : SSheet × SSheet × Unit) => szSheet x.1 ≤ 1125899906842624, fun (x : SSheet × SSheet × Unit) => (decide (x.1 = x.2.1), ())⟩
def fszSheetS : Fct := ⟨[aL .sheet, aI], [rI], fun (x : List SSheet × Int × Unit) => Sh.good (.sl .sheet) x.1 ∧ 0 ≤ x.2.1 ∧ x.2.1 ≤ 1048576, fun (x : List SSheet × Int × Unit) => (lessen x.2.1 (szL szSheet x.1), ())⟩
def ftoSheetS : Fct := ⟨[aL .sheet], [rL .sheet], fun (x : List SSheet × Unit) => szL szSheet x.1 ≤ 1048576, fun (x : List SSheet × Unit) => (x.1, ())⟩
def feqSheetS : Fct := ⟨[aL .sheet, aL .sheet], [rB], fun (x : List SSheet × List SSheet × Unit) => szL szSheet x.1 ≤ 1125899906842624, fun (x : List SSheet × List SSheet × Unit) => (decide (x.1 = x.2.1), ())⟩
def fszLine : Fct := ⟨[aE .line, aI], [rI], fun (x : SLine × Int × Unit) => Sh.good (.el .line) x.1 ∧ 0 ≤ x.2.1 ∧ x.2.1 ≤ 1048576, fun (x : SLine × Int × Unit) => (lessen x.2.1 (szLine x.1), ())⟩
def ftoLine : Fct := ⟨[aE .line], [rE .line], fun (x : SLine × Unit) => szLine x.1 ≤ 1048576, fun (x : SLine × Unit) => (x.1, ())⟩
def feqLine : Fct := ⟨[aE .line, aE .line], [rB], fun x => True, fun (x : SLine × SLine × Unit) => (decide (x.1 = x.2.1), ())⟩
def fszLineS : Fct := ⟨[aL .line, aI], [rI], fun (x : List SLine × Int × Unit) => Sh.good (.sl .line) x.1 ∧ 0 ≤ x.2.1 ∧ x.2.1 ≤ 1048576, fun (x : List SLine × Int × Unit) => (lessen x.2.1 (szL szLine x.1), ())⟩
def ftoLineS : Fct := ⟨[aL .line], [rL .line], fun (x : List SLine × Unit) => szL szLine x.1 ≤ 1048576, fun (x : List SLine × Unit) => (x.1, ())⟩
def feqLineS : Fct := ⟨[aL .line, aL .line], [rB], fun (x : List SLine × List SLine × Unit) => x.1.length ≤ 4000000000000000000, fun (x : List SLine × List SLine × Unit) => (decide (x.1 = x.2.1), ())⟩
def fmarkLineS : MS := ⟨.sl .line, fun (l : List SLine) (k : Int) => 0 ≤ k ∧ (markL mkLine l k).2 ≤ 4000000000000000000, fun (l : List SLine) (k : Int) => markL mkLine l k⟩
def fheldLineS : Fct := ⟨[aL .line, aI], [rI], fun (x : List SLine × Int × Unit) => 0 ≤ x.2.1 ∧ (markL mkLine x.1 x.2.1).2 ≤ 4000000000000000000 ∧ (markL mkLine x.1 x.2.1).1 = x.1, fun (x : List SLine × Int × Unit) => ((markL mkLine x.1 x.2.1).2, ())⟩
def fszPolicy : Fct := ⟨[aE .policy, aI], [rI], fun (x : SPolicy × Int × Unit) => Sh.good (.el .policy) x.1 ∧ 0 ≤ x.2.1 ∧ x.2.1 ≤ 1048576, fun (x : SPolicy × Int × Unit) => (lessen x.2.1 (szPolicy x.1), ())⟩
def ftoPolicy : Fct := ⟨[aE .policy], [rE .policy], fun (x : SPolicy × Unit) => szPolicy x.1 ≤ 1048576, fun (x : SPolicy × Unit) => (x.1, ())⟩
def feqPolicy : Fct := ⟨[aE .policy, aE .policy], [rB], fun (x : SPolicy × SPolicy × Unit) => szPolicy x.1 ≤ 1125899906842624, fun (x : SPolicy × SPolicy × Unit) => (decide (x.1 = x.2.1), ())⟩
def fszPolicyS : Fct := ⟨[aL .policy, aI], [rI], fun (x : List SPolicy × Int × Unit) => Sh.good (.sl .policy) x.1 ∧ 0 ≤ x.2.1 ∧ x.2.1 ≤ 1048576, fun (x : List SPolicy × Int × Unit) => (lessen x.2.1 (szL szPolicy x.1), ())⟩
def ftoPolicyS : Fct := ⟨[aL .policy], [rL .policy], fun (x : List SPolicy × Unit) => szL szPolicy x.1 ≤ 1048576, fun (x : List SPolicy × Unit) => (x.1, ())⟩
def feqPolicyS : Fct := ⟨[aL .policy, aL .policy], [rB], fun (x : List SPolicy × List SPolicy × Unit) => szL szPolicy x.1 ≤ 1125899906842624, fun (x : List SPolicy × List SPolicy × Unit) => (decide (x.1 = x.2.1), ())⟩
def fszResponse : Fct := ⟨[aE .response, aI], [rI], fun (x : SResponse × Int × Unit) => Sh.good (.el .response) x.1 ∧ 0 ≤ x.2.1 ∧ x.2.1 ≤ 1048576, fun (x : SResponse × Int × Unit) => (lessen x.2.1 (szResponse x.1), ())⟩
def ftoResponse : Fct := ⟨[aE .response], [rE .response], fun (x : SResponse × Unit) => szResponse x.1 ≤ 1048576, fun (x : SResponse × Unit) => (x.1, ())⟩
def feqResponse : Fct := ⟨[aE .response, aE .response], [rB], fun x => True, fun (x : SResponse × SResponse × Unit) => (decide (x.1 = x.2.1), ())⟩
def fszResponseS : Fct := ⟨[aL .response, aI], [rI], fun (x : List SResponse × Int × Unit) => Sh.good (.sl .response) x.1 ∧ 0 ≤ x.2.1 ∧ x.2.1 ≤ 1048576, fun (x : List SResponse × Int × Unit) => (lessen x.2.1 (szL szResponse x.1), ())⟩
def ftoResponseS : Fct := ⟨[aL .response], [rL .response], fun (x : List SResponse × Unit) => szL szResponse x.1 ≤ 1048576, fun (x : List SResponse × Unit) => (x.1, ())⟩
def feqResponseS : Fct := ⟨[aL .response, aL .response], [rB], fun (x : List SResponse × List SResponse × Unit) => x.1.length ≤ 4000000000000000000, fun (x : List SResponse × List SResponse × Unit) => (decide (x.1 = x.2.1), ())⟩
def fmarkResponseS : MS := ⟨.sl .response, fun (l : List SResponse) (k : Int) => 0 ≤ k ∧ (markL mkResponse l k).2 ≤ 4000000000000000000, fun (l : List SResponse) (k : Int) => markL mkResponse l k⟩
def fheldResponseS : Fct := ⟨[aL .response, aI], [rI], fun (x : List SResponse × Int × Unit) => 0 ≤ x.2.1 ∧ (markL mkResponse x.1 x.2.1).2 ≤ 4000000000000000000 ∧ (markL mkResponse x.1 x.2.1).1 = x.1, fun (x : List SResponse × Int × Unit) => ((markL mkResponse x.1 x.2.1).2, ())⟩
def fszRequest : Fct := ⟨[aE .request, aI], [rI], fun (x : SRequest × Int × Unit) => Sh.good (.el .request) x.1 ∧ 0 ≤ x.2.1 ∧ x.2.1 ≤ 1048576, fun (x : SRequest × Int × Unit) => (lessen x.2.1 (szRequest x.1), ())⟩
def ftoRequest : Fct := ⟨[aE .request], [rE .request], fun (x : SRequest × Unit) => szRequest x.1 ≤ 1048576, fun (x : SRequest × Unit) => (x.1, ())⟩
def feqRequest : Fct := ⟨[aE .request, aE .request], [rB], fun x => True, fun (x : SRequest × SRequest × Unit) => (decide (x.1 = x.2.1), ())⟩
def fszRequestS : Fct := ⟨[aL .request, aI], [rI], fun (x : List SRequest × Int × Unit) => Sh.good (.sl .request) x.1 ∧ 0 ≤ x.2.1 ∧ x.2.1 ≤ 1048576, fun (x : List SRequest × Int × Unit) => (lessen x.2.1 (szL szRequest x.1), ())⟩
def ftoRequestS : Fct := ⟨[aL .request], [rL .request], fun (x : List SRequest × Unit) => szL szRequest x.1 ≤ 1048576, fun (x : List SRequest × Unit) => (x.1, ())⟩
def feqRequestS : Fct := ⟨[aL .request, aL .request], [rB], fun (x : List SRequest × List SRequest × Unit) => x.1.length ≤ 4000000000000000000, fun (x : List SRequest × List SRequest × Unit) => (decide (x.1 = x.2.1), ())⟩
def fmarkRequestS : MS := ⟨.sl .request, fun (l : List SRequest) (k : Int) => 0 ≤ k ∧ (markL mkRequest l k).2 ≤ 4000000000000000000, fun (l : List SRequest) (k : Int) => markL mkRequest l k⟩
def fheldRequestS : Fct := ⟨[aL .request, aI], [rI], fun (x : List SRequest × Int × Unit) => 0 ≤ x.2.1 ∧ (markL mkRequest x.1 x.2.1).2 ≤ 4000000000000000000 ∧ (markL mkRequest x.1 x.2.1).1 = x.1, fun (x : List SRequest × Int × Unit) => ((markL mkRequest x.1 x.2.1).2, ())⟩
def fszFile : Fct := ⟨[aE .file, aI], [rI], fun (x : SFile × Int × Unit) => Sh.good (.el .file) x.1 ∧ 0 ≤ x.2.1 ∧ x.2.1 ≤ 1048576, fun (x : SFile × Int × Unit) => (lessen x.2.1 (szFile x.1), ())⟩
def ftoFile : Fct := ⟨[aE .file], [rE .file], fun (x : SFile × Unit) => szFile x.1 ≤ 1048576, fun (x : SFile × Unit) => (x.1, ())⟩
def feqFile : Fct := ⟨[aE .file, aE .file], [rB], fun x => True, fun (x : SFile × SFile × Unit) => (decide (x.1 = x.2.1), ())⟩
def fszFileS : Fct := ⟨[aL .file, aI], [rI], fun (x : List SFile × Int × Unit) => Sh.good (.sl .file) x.1 ∧ 0 ≤ x.2.1 ∧ x.2.1 ≤ 1048576, fun (x : List SFile × Int × Unit) => (lessen x.2.1 (szL szFile x.1), ())⟩
def ftoFileS : Fct := ⟨[aL .file], [rL .file], fun (x : List SFile × Unit) => szL szFile x.1 ≤ 1048576, fun (x : List SFile × Unit) => (x.1, ())⟩
def feqFileS : Fct := ⟨[aL .file, aL .file], [rB], fun (x : List SFile × List SFile × Unit) => x.1.length ≤ 4000000000000000000, fun (x : List SFile × List SFile × Unit) => (decide (x.1 = x.2.1), ())⟩
def fmarkFileS : MS := ⟨.sl .file, fun (l : List SFile) (k : Int) => 0 ≤ k ∧ (markL mkFile l k).2 ≤ 4000000000000000000, fun (l : List SFile) (k : Int) => markL mkFile l k⟩
def fheldFileS : Fct := ⟨[aL .file, aI], [rI], fun (x : List SFile × Int × Unit) => 0 ≤ x.2.1 ∧ (markL mkFile x.1 x.2.1).2 ≤ 4000000000000000000 ∧ (markL mkFile x.1 x.2.1).1 = x.1, fun (x : List SFile × Int × Unit) => ((markL mkFile x.1 x.2.1).2, ())⟩
def fszServer : Fct := ⟨[aE .server, aI], [rI], fun (x : SServer × Int × Unit) => Sh.good (.el .server) x.1 ∧ 0 ≤ x.2.1 ∧ x.2.1 ≤ 1048576, fun (x : SServer × Int × Unit) => (lessen x.2.1 (szServer x.1), ())⟩
def ftoServer : Fct := ⟨[aE .server], [rE .server], fun (x : SServer × Unit) => szServer x.1 ≤ 1048576, fun (x : SServer × Unit) => (x.1, ())⟩
def feqServer : Fct := ⟨[aE .server, aE .server], [rB], fun (x : SServer × SServer × Unit) => szServer x.1 ≤ 1125899906842624, fun (x : SServer × SServer × Unit) => (decide (x.1 = x.2.1), ())⟩
def fszServerS : Fct := ⟨[aL .server, aI], [rI], fun (x : List SServer × Int × Unit) => Sh.good (.sl .server) x.1 ∧ 0 ≤ x.2.1 ∧ x.2.1 ≤ 1048576, fun (x : List SServer × Int × Unit) => (lessen x.2.1 (szL szServer x.1), ())⟩
def ftoServerS : Fct := ⟨[aL .server], [rL .server], fun (x : List SServer × Unit) => szL szServer x.1 ≤ 1048576, fun (x : List SServer × Unit) => (x.1, ())⟩
def feqServerS : Fct := ⟨[aL .server, aL .server], [rB], fun (x : List SServer × List SServer × Unit) => szL szServer x.1 ≤ 1125899906842624, fun (x : List SServer × List SServer × Unit) => (decide (x.1 = x.2.1), ())⟩
def fszEntry : Fct := ⟨[aE .entry, aI], [rI], fun (x : SEntry × Int × Unit) => Sh.good (.el .entry) x.1 ∧ 0 ≤ x.2.1 ∧ x.2.1 ≤ 1048576, fun (x : SEntry × Int × Unit) => (lessen x.2.1 (szEntry x.1), ())⟩
def ftoEntry : Fct := ⟨[aE .entry], [rE .entry], fun (x : SEntry × Unit) => szEntry x.1 ≤ 1048576, fun (x : SEntry × Unit) => (x.1, ())⟩
def feqEntry : Fct := ⟨[aE .entry, aE .entry], [rB], fun x => True, fun (x : SEntry × SEntry × Unit) => (decide (x.1 = x.2.1), ())⟩
def fszEntryS : Fct := ⟨[aL .entry, aI], [rI], fun (x : List SEntry × Int × Unit) => Sh.good (.sl .entry) x.1 ∧ 0 ≤ x.2.1 ∧ x.2.1 ≤ 1048576, fun (x : List SEntry × Int × Unit) => (lessen x.2.1 (szL szEntry x.1), ())⟩
def ftoEntryS : Fct := ⟨[aL .entry], [rL .entry], fun (x : List SEntry × Unit) => szL szEntry x.1 ≤ 1048576, fun (x : List SEntry × Unit) => (x.1, ())⟩
def feqEntryS : Fct := ⟨[aL .entry, aL .entry], [rB], fun (x : List SEntry × List SEntry × Unit) => x.1.length ≤ 4000000000000000000, fun (x : List SEntry × List SEntry × Unit) => (decide (x.1 = x.2.1), ())⟩
def fmarkEntryS : MS := ⟨.sl .entry, fun (l : List SEntry) (k : Int) => 0 ≤ k ∧ (markL mkEntry l k).2 ≤ 4000000000000000000, fun (l : List SEntry) (k : Int) => markL mkEntry l k⟩
def fheldEntryS : Fct := ⟨[aL .entry, aI], [rI], fun (x : List SEntry × Int × Unit) => 0 ≤ x.2.1 ∧ (markL mkEntry x.1 x.2.1).2 ≤ 4000000000000000000 ∧ (markL mkEntry x.1 x.2.1).1 = x.1, fun (x : List SEntry × Int × Unit) => ((markL mkEntry x.1 x.2.1).2, ())⟩
def fszCache : Fct := ⟨[aE .cache, aI], [rI], fun (x : SCache × Int × Unit) => Sh.good (.el .cache) x.1 ∧ 0 ≤ x.2.1 ∧ x.2.1 ≤ 1048576, fun (x : SCache × Int × Unit) => (lessen x.2.1 (szCache x.1), ())⟩
def ftoCache : Fct := ⟨[aE .cache], [rE .cache], fun (x : SCache × Unit) => szCache x.1 ≤ 1048576, fun (x : SCache × Unit) => (x.1, ())⟩
def feqCache : Fct := ⟨[aE .cache, aE .cache], [rB], fun (x : SCache × SCache × Unit) => szCache x.1 ≤ 1125899906842624, fun (x : SCache × SCache × Unit) => (decide (x.1 = x.2.1), ())⟩
def fszCacheS : Fct := ⟨[aL .cache, aI], [rI], fun (x : List SCache × Int × Unit) => Sh.good (.sl .cache) x.1 ∧ 0 ≤ x.2.1 ∧ x.2.1 ≤ 1048576, fun (x : List SCache × Int × Unit) => (lessen x.2.1 (szL szCache x.1), ())⟩
def ftoCacheS : Fct := ⟨[aL .cache], [rL .cache], fun (x : List SCache × Unit) => szL szCache x.1 ≤ 1048576, fun (x : List SCache × Unit) => (x.1, ())⟩
def feqCacheS : Fct := ⟨[aL .cache, aL .cache], [rB], fun (x : List SCache × List SCache × Unit) => szL szCache x.1 ≤ 1125899906842624, fun (x : List SCache × List SCache × Unit) => (decide (x.1 = x.2.1), ())⟩
def fszSent : Fct := ⟨[aE .sent, aI], [rI], fun (x : SSent × Int × Unit) => Sh.good (.el .sent) x.1 ∧ 0 ≤ x.2.1 ∧ x.2.1 ≤ 1048576, fun (x : SSent × Int × Unit) => (lessen x.2.1 (szSent x.1), ())⟩
def ftoSent : Fct := ⟨[aE .sent], [rE .sent], fun (x : SSent × Unit) => szSent x.1 ≤ 1048576, fun (x : SSent × Unit) => (x.1, ())⟩
def feqSent : Fct := ⟨[aE .sent, aE .sent], [rB], fun x => True, fun (x : SSent × SSent × Unit) => (decide (x.1 = x.2.1), ())⟩
def fszSentS : Fct := ⟨[aL .sent, aI], [rI], fun (x : List SSent × Int × Unit) => Sh.good (.sl .sent) x.1 ∧ 0 ≤ x.2.1 ∧ x.2.1 ≤ 1048576, fun (x : List SSent × Int × Unit) => (lessen x.2.1 (szL szSent x.1), ())⟩
def ftoSentS : Fct := ⟨[aL .sent], [rL .sent], fun (x : List SSent × Unit) => szL szSent x.1 ≤ 1048576, fun (x : List SSent × Unit) => (x.1, ())⟩
def feqSentS : Fct := ⟨[aL .sent, aL .sent], [rB], fun (x : List SSent × List SSent × Unit) => x.1.length ≤ 4000000000000000000, fun (x : List SSent × List SSent × Unit) => (decide (x.1 = x.2.1), ())⟩
def fmarkSentS : MS := ⟨.sl .sent, fun (l : List SSent) (k : Int) => 0 ≤ k ∧ (markL mkSent l k).2 ≤ 4000000000000000000, fun (l : List SSent) (k : Int) => markL mkSent l k⟩
def fheldSentS : Fct := ⟨[aL .sent, aI], [rI], fun (x : List SSent × Int × Unit) => 0 ≤ x.2.1 ∧ (markL mkSent x.1 x.2.1).2 ≤ 4000000000000000000 ∧ (markL mkSent x.1 x.2.1).1 = x.1, fun (x : List SSent × Int × Unit) => ((markL mkSent x.1 x.2.1).2, ())⟩
def fszNet : Fct := ⟨[aE .net, aI], [rI], fun (x : SNet × Int × Unit) => Sh.good (.el .net) x.1 ∧ 0 ≤ x.2.1 ∧ x.2.1 ≤ 1048576, fun (x : SNet × Int × Unit) => (lessen x.2.1 (szNet x.1), ())⟩
def ftoNet : Fct := ⟨[aE .net], [rE .net], fun (x : SNet × Unit) => szNet x.1 ≤ 1048576, fun (x : SNet × Unit) => (x.1, ())⟩
def feqNet : Fct := ⟨[aE .net, aE .net], [rB], fun (x : SNet × SNet × Unit) => szNet x.1 ≤ 1125899906842624, fun (x : SNet × SNet × Unit) => (decide (x.1 = x.2.1), ())⟩
def fszNetS : Fct := ⟨[aL .net, aI], [rI], fun (x : List SNet × Int × Unit) => Sh.good (.sl .net) x.1 ∧ 0 ≤ x.2.1 ∧ x.2.1 ≤ 1048576, fun (x : List SNet × Int × Unit) => (lessen x.2.1 (szL szNet x.1), ())⟩
def ftoNetS : Fct := ⟨[aL .net], [rL .net], fun (x : List SNet × Unit) => szL szNet x.1 ≤ 1048576, fun (x : List SNet × Unit) => (x.1, ())⟩
def feqNetS : Fct := ⟨[aL .net, aL .net], [rB], fun (x : List SNet × List SNet × Unit) => szL szNet x.1 ≤ 1125899906842624, fun (x : List SNet × List SNet × Unit) => (decide (x.1 = x.2.1), ())⟩
def fszSlot : Fct := ⟨[aE .slot, aI], [rI], fun (x : SSlot × Int × Unit) => Sh.good (.el .slot) x.1 ∧ 0 ≤ x.2.1 ∧ x.2.1 ≤ 1048576, fun (x : SSlot × Int × Unit) => (lessen x.2.1 (szSlot x.1), ())⟩
def ftoSlot : Fct := ⟨[aE .slot], [rE .slot], fun (x : SSlot × Unit) => szSlot x.1 ≤ 1048576, fun (x : SSlot × Unit) => (x.1, ())⟩
def feqSlot : Fct := ⟨[aE .slot, aE .slot], [rB], fun x => True, fun (x : SSlot × SSlot × Unit) => (decide (x.1 = x.2.1), ())⟩
def fszSlotS : Fct := ⟨[aL .slot, aI], [rI], fun (x : List SSlot × Int × Unit) => Sh.good (.sl .slot) x.1 ∧ 0 ≤ x.2.1 ∧ x.2.1 ≤ 1048576, fun (x : List SSlot × Int × Unit) => (lessen x.2.1 (szL szSlot x.1), ())⟩
def ftoSlotS : Fct := ⟨[aL .slot], [rL .slot], fun (x : List SSlot × Unit) => szL szSlot x.1 ≤ 1048576, fun (x : List SSlot × Unit) => (x.1, ())⟩
def feqSlotS : Fct := ⟨[aL .slot, aL .slot], [rB], fun (x : List SSlot × List SSlot × Unit) => x.1.length ≤ 4000000000000000000, fun (x : List SSlot × List SSlot × Unit) => (decide (x.1 = x.2.1), ())⟩
def fmarkSlotS : MS := ⟨.sl .slot, fun (l : List SSlot) (k : Int) => 0 ≤ k ∧ (markL mkSlot l k).2 ≤ 4000000000000000000, fun (l : List SSlot) (k : Int) => markL mkSlot l k⟩
def fheldSlotS : Fct := ⟨[aL .slot, aI], [rI], fun (x : List SSlot × Int × Unit) => 0 ≤ x.2.1 ∧ (markL mkSlot x.1 x.2.1).2 ≤ 4000000000000000000 ∧ (markL mkSlot x.1 x.2.1).1 = x.1, fun (x : List SSlot × Int × Unit) => ((markL mkSlot x.1 x.2.1).2, ())⟩
def fszModule : Fct := ⟨[aE .module, aI], [rI], fun (x : SModule × Int × Unit) => Sh.good (.el .module) x.1 ∧ 0 ≤ x.2.1 ∧ x.2.1 ≤ 1048576, fun (x : SModule × Int × Unit) => (lessen x.2.1 (szModule x.1), ())⟩
def ftoModule : Fct := ⟨[aE .module], [rE .module], fun (x : SModule × Unit) => szModule x.1 ≤ 1048576, fun (x : SModule × Unit) => (x.1, ())⟩
def feqModule : Fct := ⟨[aE .module, aE .module], [rB], fun x => True, fun (x : SModule × SModule × Unit) => (decide (x.1 = x.2.1), ())⟩
def fszModuleS : Fct := ⟨[aL .module, aI], [rI], fun (x : List SModule × Int × Unit) => Sh.good (.sl .module) x.1 ∧ 0 ≤ x.2.1 ∧ x.2.1 ≤ 1048576, fun (x : List SModule × Int × Unit) => (lessen x.2.1 (szL szModule x.1), ())⟩
def ftoModuleS : Fct := ⟨[aL .module], [rL .module], fun (x : List SModule × Unit) => szL szModule x.1 ≤ 1048576, fun (x : List SModule × Unit) => (x.1, ())⟩
def feqModuleS : Fct := ⟨[aL .module, aL .module], [rB], fun (x : List SModule × List SModule × Unit) => x.1.length ≤ 4000000000000000000, fun (x : List SModule × List SModule × Unit) => (decide (x.1 = x.2.1), ())⟩
def fmarkModuleS : MS := ⟨.sl .module, fun (l : List SModule) (k : Int) => 0 ≤ k ∧ (markL mkModule l k).2 ≤ 4000000000000000000, fun (l : List SModule) (k : Int) => markL mkModule l k⟩
def fheldModuleS : Fct := ⟨[aL .module, aI], [rI], fun (x : List SModule × Int × Unit) => 0 ≤ x.2.1 ∧ (markL mkModule x.1 x.2.1).2 ≤ 4000000000000000000 ∧ (markL mkModule x.1 x.2.1).1 = x.1, fun (x : List SModule × Int × Unit) => ((markL mkModule x.1 x.2.1).2, ())⟩
def fszPage : Fct := ⟨[aE .page, aI], [rI], fun (x : SPage × Int × Unit) => Sh.good (.el .page) x.1 ∧ 0 ≤ x.2.1 ∧ x.2.1 ≤ 1048576, fun (x : SPage × Int × Unit) => (lessen x.2.1 (szPage x.1), ())⟩
def ftoPage : Fct := ⟨[aE .page], [rE .page], fun (x : SPage × Unit) => szPage x.1 ≤ 1048576, fun (x : SPage × Unit) => (x.1, ())⟩
def feqPage : Fct := ⟨[aE .page, aE .page], [rB], fun (x : SPage × SPage × Unit) => szPage x.1 ≤ 1125899906842624, fun (x : SPage × SPage × Unit) => (decide (x.1 = x.2.1), ())⟩
def fszPageS : Fct := ⟨[aL .page, aI], [rI], fun (x : List SPage × Int × Unit) => Sh.good (.sl .page) x.1 ∧ 0 ≤ x.2.1 ∧ x.2.1 ≤ 1048576, fun (x : List SPage × Int × Unit) => (lessen x.2.1 (szL szPage x.1), ())⟩
def ftoPageS : Fct := ⟨[aL .page], [rL .page], fun (x : List SPage × Unit) => szL szPage x.1 ≤ 1048576, fun (x : List SPage × Unit) => (x.1, ())⟩
def feqPageS : Fct := ⟨[aL .page, aL .page], [rB], fun (x : List SPage × List SPage × Unit) => szL szPage x.1 ≤ 1125899906842624, fun (x : List SPage × List SPage × Unit) => (decide (x.1 = x.2.1), ())⟩
def fszResult : Fct := ⟨[aE .result, aI], [rI], fun (x : SResult × Int × Unit) => Sh.good (.el .result) x.1 ∧ 0 ≤ x.2.1 ∧ x.2.1 ≤ 1048576, fun (x : SResult × Int × Unit) => (lessen x.2.1 (szResult x.1), ())⟩
def ftoResult : Fct := ⟨[aE .result], [rE .result], fun (x : SResult × Unit) => szResult x.1 ≤ 1048576, fun (x : SResult × Unit) => (x.1, ())⟩
def feqResult : Fct := ⟨[aE .result, aE .result], [rB], fun (x : SResult × SResult × Unit) => szResult x.1 ≤ 1125899906842624, fun (x : SResult × SResult × Unit) => (decide (x.1 = x.2.1), ())⟩
def fszResultS : Fct := ⟨[aL .result, aI], [rI], fun (x : List SResult × Int × Unit) => Sh.good (.sl .result) x.1 ∧ 0 ≤ x.2.1 ∧ x.2.1 ≤ 1048576, fun (x : List SResult × Int × Unit) => (lessen x.2.1 (szL szResult x.1), ())⟩
def ftoResultS : Fct := ⟨[aL .result], [rL .result], fun (x : List SResult × Unit) => szL szResult x.1 ≤ 1048576, fun (x : List SResult × Unit) => (x.1, ())⟩
def feqResultS : Fct := ⟨[aL .result, aL .result], [rB], fun (x : List SResult × List SResult × Unit) => szL szResult x.1 ≤ 1125899906842624, fun (x : List SResult × List SResult × Unit) => (decide (x.1 = x.2.1), ())⟩
def fszGuess : Fct := ⟨[aE .guess, aI], [rI], fun (x : SGuess × Int × Unit) => Sh.good (.el .guess) x.1 ∧ 0 ≤ x.2.1 ∧ x.2.1 ≤ 1048576, fun (x : SGuess × Int × Unit) => (lessen x.2.1 (szGuess x.1), ())⟩
def ftoGuess : Fct := ⟨[aE .guess], [rE .guess], fun (x : SGuess × Unit) => szGuess x.1 ≤ 1048576, fun (x : SGuess × Unit) => (x.1, ())⟩
def feqGuess : Fct := ⟨[aE .guess, aE .guess], [rB], fun x => True, fun (x : SGuess × SGuess × Unit) => (decide (x.1 = x.2.1), ())⟩
def fszGuessS : Fct := ⟨[aL .guess, aI], [rI], fun (x : List SGuess × Int × Unit) => Sh.good (.sl .guess) x.1 ∧ 0 ≤ x.2.1 ∧ x.2.1 ≤ 1048576, fun (x : List SGuess × Int × Unit) => (lessen x.2.1 (szL szGuess x.1), ())⟩
def ftoGuessS : Fct := ⟨[aL .guess], [rL .guess], fun (x : List SGuess × Unit) => szL szGuess x.1 ≤ 1048576, fun (x : List SGuess × Unit) => (x.1, ())⟩
def feqGuessS : Fct := ⟨[aL .guess, aL .guess], [rB], fun (x : List SGuess × List SGuess × Unit) => x.1.length ≤ 4000000000000000000, fun (x : List SGuess × List SGuess × Unit) => (decide (x.1 = x.2.1), ())⟩
def fmarkGuessS : MS := ⟨.sl .guess, fun (l : List SGuess) (k : Int) => 0 ≤ k ∧ (markL mkGuess l k).2 ≤ 4000000000000000000, fun (l : List SGuess) (k : Int) => markL mkGuess l k⟩
def fheldGuessS : Fct := ⟨[aL .guess, aI], [rI], fun (x : List SGuess × Int × Unit) => 0 ≤ x.2.1 ∧ (markL mkGuess x.1 x.2.1).2 ≤ 4000000000000000000 ∧ (markL mkGuess x.1 x.2.1).1 = x.1, fun (x : List SGuess × Int × Unit) => ((markL mkGuess x.1 x.2.1).2, ())⟩
def fszConn : Fct := ⟨[aE .conn, aI], [rI], fun (x : SConn × Int × Unit) => Sh.good (.el .conn) x.1 ∧ 0 ≤ x.2.1 ∧ x.2.1 ≤ 1048576, fun (x : SConn × Int × Unit) => (lessen x.2.1 (szConn x.1), ())⟩
def ftoConn : Fct := ⟨[aE .conn], [rE .conn], fun (x : SConn × Unit) => szConn x.1 ≤ 1048576, fun (x : SConn × Unit) => (x.1, ())⟩
def feqConn : Fct := ⟨[aE .conn, aE .conn], [rB], fun x => True, fun (x : SConn × SConn × Unit) => (decide (x.1 = x.2.1), ())⟩
def fszConnS : Fct := ⟨[aL .conn, aI], [rI], fun (x : List SConn × Int × Unit) => Sh.good (.sl .conn) x.1 ∧ 0 ≤ x.2.1 ∧ x.2.1 ≤ 1048576, fun (x : List SConn × Int × Unit) => (lessen x.2.1 (szL szConn x.1), ())⟩
def ftoConnS : Fct := ⟨[aL .conn], [rL .conn], fun (x : List SConn × Unit) => szL szConn x.1 ≤ 1048576, fun (x : List SConn × Unit) => (x.1, ())⟩
def feqConnS : Fct := ⟨[aL .conn, aL .conn], [rB], fun (x : List SConn × List SConn × Unit) => x.1.length ≤ 4000000000000000000, fun (x : List SConn × List SConn × Unit) => (decide (x.1 = x.2.1), ())⟩
def fmarkConnS : MS := ⟨.sl .conn, fun (l : List SConn) (k : Int) => 0 ≤ k ∧ (markL mkConn l k).2 ≤ 4000000000000000000, fun (l : List SConn) (k : Int) => markL mkConn l k⟩
def fheldConnS : Fct := ⟨[aL .conn, aI], [rI], fun (x : List SConn × Int × Unit) => 0 ≤ x.2.1 ∧ (markL mkConn x.1 x.2.1).2 ≤ 4000000000000000000 ∧ (markL mkConn x.1 x.2.1).1 = x.1, fun (x : List SConn × Int × Unit) => ((markL mkConn x.1 x.2.1).2, ())⟩
def fszLoader : Fct := ⟨[aE .loader, aI], [rI], fun (x : SLoader × Int × Unit) => Sh.good (.el .loader) x.1 ∧ 0 ≤ x.2.1 ∧ x.2.1 ≤ 1048576, fun (x : SLoader × Int × Unit) => (lessen x.2.1 (szLoader x.1), ())⟩
def ftoLoader : Fct := ⟨[aE .loader], [rE .loader], fun (x : SLoader × Unit) => szLoader x.1 ≤ 1048576, fun (x : SLoader × Unit) => (x.1, ())⟩
def feqLoader : Fct := ⟨[aE .loader, aE .loader], [rB], fun (x : SLoader × SLoader × Unit) => szLoader x.1 ≤ 1125899906842624, fun (x : SLoader × SLoader × Unit) => (decide (x.1 = x.2.1), ())⟩
def fszLoaderS : Fct := ⟨[aL .loader, aI], [rI], fun (x : List SLoader × Int × Unit) => Sh.good (.sl .loader) x.1 ∧ 0 ≤ x.2.1 ∧ x.2.1 ≤ 1048576, fun (x : List SLoader × Int × Unit) => (lessen x.2.1 (szL szLoader x.1), ())⟩
def ftoLoaderS : Fct := ⟨[aL .loader], [rL .loader], fun (x : List SLoader × Unit) => szL szLoader x.1 ≤ 1048576, fun (x : List SLoader × Unit) => (x.1, ())⟩
def feqLoaderS : Fct := ⟨[aL .loader, aL .loader], [rB], fun (x : List SLoader × List SLoader × Unit) => szL szLoader x.1 ≤ 1125899906842624, fun (x : List SLoader × List SLoader × Unit) => (decide (x.1 = x.2.1), ())⟩
def fszVisit : Fct := ⟨[aE .visit, aI], [rI], fun (x : SVisit × Int × Unit) => Sh.good (.el .visit) x.1 ∧ 0 ≤ x.2.1 ∧ x.2.1 ≤ 1048576, fun (x : SVisit × Int × Unit) => (lessen x.2.1 (szVisit x.1), ())⟩
def ftoVisit : Fct := ⟨[aE .visit], [rE .visit], fun (x : SVisit × Unit) => szVisit x.1 ≤ 1048576, fun (x : SVisit × Unit) => (x.1, ())⟩
def feqVisit : Fct := ⟨[aE .visit, aE .visit], [rB], fun (x : SVisit × SVisit × Unit) => szVisit x.1 ≤ 1125899906842624, fun (x : SVisit × SVisit × Unit) => (decide (x.1 = x.2.1), ())⟩
def fszVisitS : Fct := ⟨[aL .visit, aI], [rI], fun (x : List SVisit × Int × Unit) => Sh.good (.sl .visit) x.1 ∧ 0 ≤ x.2.1 ∧ x.2.1 ≤ 1048576, fun (x : List SVisit × Int × Unit) => (lessen x.2.1 (szL szVisit x.1), ())⟩
def ftoVisitS : Fct := ⟨[aL .visit], [rL .visit], fun (x : List SVisit × Unit) => szL szVisit x.1 ≤ 1048576, fun (x : List SVisit × Unit) => (x.1, ())⟩
def feqVisitS : Fct := ⟨[aL .visit, aL .visit], [rB], fun (x : List SVisit × List SVisit × Unit) => szL szVisit x.1 ≤ 1125899906842624, fun (x : List SVisit × List SVisit × Unit) => (decide (x.1 = x.2.1), ())⟩
def fszTab : Fct := ⟨[aE .tab, aI], [rI], fun (x : STab × Int × Unit) => Sh.good (.el .tab) x.1 ∧ 0 ≤ x.2.1 ∧ x.2.1 ≤ 1048576, fun (x : STab × Int × Unit) => (lessen x.2.1 (szTab x.1), ())⟩
def ftoTab : Fct := ⟨[aE .tab], [rE .tab], fun (x : STab × Unit) => szTab x.1 ≤ 1048576, fun (x : STab × Unit) => (x.1, ())⟩
def feqTab : Fct := ⟨[aE .tab, aE .tab], [rB], fun (x : STab × STab × Unit) => szTab x.1 ≤ 1125899906842624, fun (x : STab × STab × Unit) => (decide (x.1 = x.2.1), ())⟩
def fszTabS : Fct := ⟨[aL .tab, aI], [rI], fun (x : List STab × Int × Unit) => Sh.good (.sl .tab) x.1 ∧ 0 ≤ x.2.1 ∧ x.2.1 ≤ 1048576, fun (x : List STab × Int × Unit) => (lessen x.2.1 (szL szTab x.1), ())⟩
def ftoTabS : Fct := ⟨[aL .tab], [rL .tab], fun (x : List STab × Unit) => szL szTab x.1 ≤ 1048576, fun (x : List STab × Unit) => (x.1, ())⟩
def feqTabS : Fct := ⟨[aL .tab, aL .tab], [rB], fun (x : List STab × List STab × Unit) => szL szTab x.1 ≤ 1125899906842624, fun (x : List STab × List STab × Unit) => (decide (x.1 = x.2.1), ())⟩
def fszKept : Fct := ⟨[aE .kept, aI], [rI], fun (x : SKept × Int × Unit) => Sh.good (.el .kept) x.1 ∧ 0 ≤ x.2.1 ∧ x.2.1 ≤ 1048576, fun (x : SKept × Int × Unit) => (lessen x.2.1 (szKept x.1), ())⟩
def ftoKept : Fct := ⟨[aE .kept], [rE .kept], fun (x : SKept × Unit) => szKept x.1 ≤ 1048576, fun (x : SKept × Unit) => (x.1, ())⟩
def feqKept : Fct := ⟨[aE .kept, aE .kept], [rB], fun x => True, fun (x : SKept × SKept × Unit) => (decide (x.1 = x.2.1), ())⟩
def fszKeptS : Fct := ⟨[aL .kept, aI], [rI], fun (x : List SKept × Int × Unit) => Sh.good (.sl .kept) x.1 ∧ 0 ≤ x.2.1 ∧ x.2.1 ≤ 1048576, fun (x : List SKept × Int × Unit) => (lessen x.2.1 (szL szKept x.1), ())⟩
def ftoKeptS : Fct := ⟨[aL .kept], [rL .kept], fun (x : List SKept × Unit) => szL szKept x.1 ≤ 1048576, fun (x : List SKept × Unit) => (x.1, ())⟩
def feqKeptS : Fct := ⟨[aL .kept, aL .kept], [rB], fun (x : List SKept × List SKept × Unit) => x.1.length ≤ 4000000000000000000, fun (x : List SKept × List SKept × Unit) => (decide (x.1 = x.2.1), ())⟩
def fmarkKeptS : MS := ⟨.sl .kept, fun (l : List SKept) (k : Int) => 0 ≤ k ∧ (markL mkKept l k).2 ≤ 4000000000000000000, fun (l : List SKept) (k : Int) => markL mkKept l k⟩
def fheldKeptS : Fct := ⟨[aL .kept, aI], [rI], fun (x : List SKept × Int × Unit) => 0 ≤ x.2.1 ∧ (markL mkKept x.1 x.2.1).2 ≤ 4000000000000000000 ∧ (markL mkKept x.1 x.2.1).1 = x.1, fun (x : List SKept × Int × Unit) => ((markL mkKept x.1 x.2.1).2, ())⟩
def fszHidden : Fct := ⟨[aE .hidden, aI], [rI], fun (x : SHidden × Int × Unit) => Sh.good (.el .hidden) x.1 ∧ 0 ≤ x.2.1 ∧ x.2.1 ≤ 1048576, fun (x : SHidden × Int × Unit) => (lessen x.2.1 (szHidden x.1), ())⟩
def ftoHidden : Fct := ⟨[aE .hidden], [rE .hidden], fun (x : SHidden × Unit) => szHidden x.1 ≤ 1048576, fun (x : SHidden × Unit) => (x.1, ())⟩
def feqHidden : Fct := ⟨[aE .hidden, aE .hidden], [rB], fun (x : SHidden × SHidden × Unit) => szHidden x.1 ≤ 1125899906842624, fun (x : SHidden × SHidden × Unit) => (decide (x.1 = x.2.1), ())⟩
def fszHiddenS : Fct := ⟨[aL .hidden, aI], [rI], fun (x : List SHidden × Int × Unit) => Sh.good (.sl .hidden) x.1 ∧ 0 ≤ x.2.1 ∧ x.2.1 ≤ 1048576, fun (x : List SHidden × Int × Unit) => (lessen x.2.1 (szL szHidden x.1), ())⟩
def ftoHiddenS : Fct := ⟨[aL .hidden], [rL .hidden], fun (x : List SHidden × Unit) => szL szHidden x.1 ≤ 1048576, fun (x : List SHidden × Unit) => (x.1, ())⟩
def feqHiddenS : Fct := ⟨[aL .hidden, aL .hidden], [rB], fun (x : List SHidden × List SHidden × Unit) => szL szHidden x.1 ≤ 1125899906842624, fun (x : List SHidden × List SHidden × Unit) => (decide (x.1 = x.2.1), ())⟩
def fszWorld : Fct := ⟨[aE .world, aI], [rI], fun (x : SWorld × Int × Unit) => Sh.good (.el .world) x.1 ∧ 0 ≤ x.2.1 ∧ x.2.1 ≤ 1048576, fun (x : SWorld × Int × Unit) => (lessen x.2.1 (szWorld x.1), ())⟩
def ftoWorld : Fct := ⟨[aE .world], [rE .world], fun (x : SWorld × Unit) => szWorld x.1 ≤ 1048576, fun (x : SWorld × Unit) => (x.1, ())⟩
def feqWorld : Fct := ⟨[aE .world, aE .world], [rB], fun (x : SWorld × SWorld × Unit) => szWorld x.1 ≤ 1125899906842624, fun (x : SWorld × SWorld × Unit) => (decide (x.1 = x.2.1), ())⟩
def fszWorldS : Fct := ⟨[aL .world, aI], [rI], fun (x : List SWorld × Int × Unit) => Sh.good (.sl .world) x.1 ∧ 0 ≤ x.2.1 ∧ x.2.1 ≤ 1048576, fun (x : List SWorld × Int × Unit) => (lessen x.2.1 (szL szWorld x.1), ())⟩
def ftoWorldS : Fct := ⟨[aL .world], [rL .world], fun (x : List SWorld × Unit) => szL szWorld x.1 ≤ 1048576, fun (x : List SWorld × Unit) => (x.1, ())⟩
def feqWorldS : Fct := ⟨[aL .world, aL .world], [rB], fun (x : List SWorld × List SWorld × Unit) => szL szWorld x.1 ≤ 1125899906842624, fun (x : List SWorld × List SWorld × Unit) => (decide (x.1 = x.2.1), ())⟩
def fszEvent : Fct := ⟨[aE .event, aI], [rI], fun (x : SEvent × Int × Unit) => Sh.good (.el .event) x.1 ∧ 0 ≤ x.2.1 ∧ x.2.1 ≤ 1048576, fun (x : SEvent × Int × Unit) => (lessen x.2.1 (szEvent x.1), ())⟩
def ftoEvent : Fct := ⟨[aE .event], [rE .event], fun (x : SEvent × Unit) => szEvent x.1 ≤ 1048576, fun (x : SEvent × Unit) => (x.1, ())⟩
def feqEvent : Fct := ⟨[aE .event, aE .event], [rB], fun x => True, fun (x : SEvent × SEvent × Unit) => (decide (x.1 = x.2.1), ())⟩
def fszEventS : Fct := ⟨[aL .event, aI], [rI], fun (x : List SEvent × Int × Unit) => Sh.good (.sl .event) x.1 ∧ 0 ≤ x.2.1 ∧ x.2.1 ≤ 1048576, fun (x : List SEvent × Int × Unit) => (lessen x.2.1 (szL szEvent x.1), ())⟩
def ftoEventS : Fct := ⟨[aL .event], [rL .event], fun (x : List SEvent × Unit) => szL szEvent x.1 ≤ 1048576, fun (x : List SEvent × Unit) => (x.1, ())⟩
def feqEventS : Fct := ⟨[aL .event, aL .event], [rB], fun (x : List SEvent × List SEvent × Unit) => x.1.length ≤ 4000000000000000000, fun (x : List SEvent × List SEvent × Unit) => (decide (x.1 = x.2.1), ())⟩
def fmarkEventS : MS := ⟨.sl .event, fun (l : List SEvent) (k : Int) => 0 ≤ k ∧ (markL mkEvent l k).2 ≤ 4000000000000000000, fun (l : List SEvent) (k : Int) => markL mkEvent l k⟩
def fheldEventS : Fct := ⟨[aL .event, aI], [rI], fun (x : List SEvent × Int × Unit) => 0 ≤ x.2.1 ∧ (markL mkEvent x.1 x.2.1).2 ≤ 4000000000000000000 ∧ (markL mkEvent x.1 x.2.1).1 = x.1, fun (x : List SEvent × Int × Unit) => ((markL mkEvent x.1 x.2.1).2, ())⟩
end Go.D
