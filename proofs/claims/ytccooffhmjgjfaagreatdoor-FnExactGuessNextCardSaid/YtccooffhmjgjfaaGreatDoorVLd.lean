/-
  The library of the proof, part 4.
-/
import Derived.Test.YtccooffhmjgjfaaGreatDoorVLc
import Derived.Sort.Grow
import Derived.Deep.Draws
set_option linter.unusedVariables false
namespace Go.D
set_option linter.unusedSimpArgs false
abbrev szString (x : ByteArray) : Nat := x.size
def szAddr (x : SAddr) : Nat := x.host.size + x.path.size
def szAttr (x : SAttr) : Nat := x.name.size + x.value.size
def szToken (x : SToken) : Nat := x.name.size + szL szAttr x.attrs + x.text.size
def szTokenizer (x : STokenizer) : Nat := x.rest.size
def szNode (x : SNode) : Nat := x.name.size + x.text.size + szL szAttr x.attrs
def szBuilder (x : SBuilder) : Nat := szL szNode x.nodes + x.open_.length
def szPolicy (x : SPolicy) : Nat := szL szString x.scripts + szL szString x.styles + szL szString x.images + x.nonce.size
def szResponse (x : SResponse) : Nat := x.body.size + x.policy.size
def szRequest (x : SRequest) : Nat := szAddr x.to + x.from_.size + x.digest.size
def szFile (x : SFile) : Nat := x.path.size + szResponse x.response
def szServer (x : SServer) : Nat := x.host.size + szL szFile x.files
def szEntry (x : SEntry) : Nat := x.top.size + szAddr x.to + szResponse x.response
def szCache (x : SCache) : Nat := szL szEntry x.entries
def szSent (x : SSent) : Nat := x.top.size + szAddr x.to
def szNet (x : SNet) : Nat := szL szServer x.servers + szCache x.cache + szL szSent x.log
def szSlot (x : SSlot) : Nat := szAddr x.to + x.digest.size + x.body.size
def szModule (x : SModule) : Nat := szAddr x.to + x.body.size
def szPage (x : SPage) : Nat := szAddr x.addr + szPolicy x.policy + szTokenizer x.tok + szL szToken x.queue + szBuilder x.builder + szL szSlot x.slots + szL szModule x.mods + szL szAddr x.entries + szL szAddr x.ran + szL szString x.log
def szGuess (x : SGuess) : Nat := szAddr x.to + szResponse x.response
def szConn (x : SConn) : Nat := szAddr x.to + szResponse x.response
def szLoader (x : SLoader) : Nat := szNet x.net + szPage x.page + szL szString x.parts + szL szConn x.conns + szL szGuess x.guesses
def mkAddr (x : SAddr) (k : Int) : SAddr × Int := (⟨mtext (k), mtext (k + 1)⟩, k + 2)
theorem mkAddr_mono : Mono mkAddr := fun x k => by simp only [mkAddr]; omega
def mkAttr (x : SAttr) (k : Int) : SAttr × Int := (⟨mtext (k), mtext (k + 1)⟩, k + 2)
theorem mkAttr_mono : Mono mkAttr := fun x k => by simp only [mkAttr]; omega
def mkFile (x : SFile) (k : Int) : SFile × Int := (⟨mtext (k), ⟨k + 1, k + 2, mtext (k + 3), k + 4, (k + 5).tmod 3 == 0, mtext (k + 6)⟩⟩, k + 7)
theorem mkFile_mono : Mono mkFile := fun x k => by simp only [mkFile]; omega
def mkEntry (x : SEntry) (k : Int) : SEntry × Int := (⟨mtext (k), ⟨mtext (k + 1), mtext (k + 2)⟩, ⟨k + 3, k + 4, mtext (k + 5), k + 6, (k + 7).tmod 3 == 0, mtext (k + 8)⟩, k + 9⟩, k + 10)
theorem mkEntry_mono : Mono mkEntry := fun x k => by simp only [mkEntry]; omega
def mkSent (x : SSent) (k : Int) : SSent × Int := (⟨mtext (k), ⟨mtext (k + 1), mtext (k + 2)⟩, (k + 3).tmod 3 == 0⟩, k + 4)
theorem mkSent_mono : Mono mkSent := fun x k => by simp only [mkSent]; omega
def mkSlot (x : SSlot) (k : Int) : SSlot × Int := (⟨k, ⟨mtext (k + 1), mtext (k + 2)⟩, mtext (k + 3), k + 4, (k + 5).tmod 3 == 0, k + 6, mtext (k + 7)⟩, k + 8)
theorem mkSlot_mono : Mono mkSlot := fun x k => by simp only [mkSlot]; omega
def mkModule (x : SModule) (k : Int) : SModule × Int := (⟨⟨mtext (k), mtext (k + 1)⟩, (k + 2).tmod 3 == 0, k + 3, mtext (k + 4)⟩, k + 5)
theorem mkModule_mono : Mono mkModule := fun x k => by simp only [mkModule]; omega
def mkGuess (x : SGuess) (k : Int) : SGuess × Int := (⟨⟨mtext (k), mtext (k + 1)⟩, ⟨k + 2, k + 3, mtext (k + 4), k + 5, (k + 6).tmod 3 == 0, mtext (k + 7)⟩, (k + 8).tmod 3 == 0⟩, k + 9)
theorem mkGuess_mono : Mono mkGuess := fun x k => by simp only [mkGuess]; omega
def mkConn (x : SConn) (k : Int) : SConn × Int := (⟨⟨mtext (k), mtext (k + 1)⟩, k + 2, (k + 3).tmod 3 == 0, ⟨k + 4, k + 5, mtext (k + 6), k + 7, (k + 8).tmod 3 == 0, mtext (k + 9)⟩⟩, k + 10)
theorem mkConn_mono : Mono mkConn := fun x k => by simp only [mkConn]; omega
theorem mkAddrS_idem (xs : List SAddr) (k : Int) : markL mkAddr (markL mkAddr xs k).1 k = markL mkAddr xs k := markL_idem (f := mkAddr) (fun _ _ => rfl) xs k
theorem mkAttrS_idem (xs : List SAttr) (k : Int) : markL mkAttr (markL mkAttr xs k).1 k = markL mkAttr xs k := markL_idem (f := mkAttr) (fun _ _ => rfl) xs k
theorem mkFileS_idem (xs : List SFile) (k : Int) : markL mkFile (markL mkFile xs k).1 k = markL mkFile xs k := markL_idem (f := mkFile) (fun _ _ => rfl) xs k
theorem mkEntryS_idem (xs : List SEntry) (k : Int) : markL mkEntry (markL mkEntry xs k).1 k = markL mkEntry xs k := markL_idem (f := mkEntry) (fun _ _ => rfl) xs k
theorem mkSentS_idem (xs : List SSent) (k : Int) : markL mkSent (markL mkSent xs k).1 k = markL mkSent xs k := markL_idem (f := mkSent) (fun _ _ => rfl) xs k
theorem mkSlotS_idem (xs : List SSlot) (k : Int) : markL mkSlot (markL mkSlot xs k).1 k = markL mkSlot xs k := markL_idem (f := mkSlot) (fun _ _ => rfl) xs k
theorem mkModuleS_idem (xs : List SModule) (k : Int) : markL mkModule (markL mkModule xs k).1 k = markL mkModule xs k := markL_idem (f := mkModule) (fun _ _ => rfl) xs k
theorem mkGuessS_idem (xs : List SGuess) (k : Int) : markL mkGuess (markL mkGuess xs k).1 k = markL mkGuess xs k := markL_idem (f := mkGuess) (fun _ _ => rfl) xs k
theorem mkConnS_idem (xs : List SConn) (k : Int) : markL mkConn (markL mkConn xs k).1 k = markL mkConn xs k := markL_idem (f := mkConn) (fun _ _ => rfl) xs k
def mkString (x : ByteArray) (k : Int) : ByteArray × Int := (mtext k, k + 1)
theorem mkString_mono : Mono mkString := fun x k => by simp only [mkString]; omega
def mkInt (x : Int) (k : Int) : Int × Int := (k, k + 1)
theorem mkInt_mono : Mono mkInt := fun x k => by simp only [mkInt]; omega
theorem etaAddr (x : SAddr) : (⟨x.host, x.path⟩ : SAddr) = x := rfl
theorem etaToken (x : SToken) : (⟨x.kind, x.name, x.attrs, x.text⟩ : SToken) = x := rfl
theorem etaNode (x : SNode) : (⟨x.name, x.text, x.parent, x.attrs⟩ : SNode) = x := rfl
theorem etaBuilder (x : SBuilder) : (⟨x.nodes, x.open_⟩ : SBuilder) = x := rfl
theorem etaSheet (x : SSheet) : (⟨x.rules⟩ : SSheet) = x := rfl
theorem etaPolicy (x : SPolicy) : (⟨x.set_, x.scripts, x.styles, x.images, x.nonce⟩ : SPolicy) = x := rfl
theorem etaResponse (x : SResponse) : (⟨x.status, x.kind, x.body, x.age, x.shares, x.policy⟩ : SResponse) = x := rfl
theorem etaRequest (x : SRequest) : (⟨x.kind, x.to, x.from_, x.digest⟩ : SRequest) = x := rfl
theorem etaFile (x : SFile) : (⟨x.path, x.response⟩ : SFile) = x := rfl
theorem etaServer (x : SServer) : (⟨x.host, x.files⟩ : SServer) = x := rfl
theorem etaEntry (x : SEntry) : (⟨x.top, x.to, x.response, x.until_⟩ : SEntry) = x := rfl
theorem etaCache (x : SCache) : (⟨x.entries⟩ : SCache) = x := rfl
theorem etaSent (x : SSent) : (⟨x.top, x.to, x.guess⟩ : SSent) = x := rfl
theorem etaNet (x : SNet) : (⟨x.servers, x.cache, x.log, x.now⟩ : SNet) = x := rfl
theorem etaSlot (x : SSlot) : (⟨x.mode, x.to, x.digest, x.node, x.done, x.code, x.body⟩ : SSlot) = x := rfl
theorem etaModule (x : SModule) : (⟨x.to, x.done, x.code, x.body⟩ : SModule) = x := rfl
theorem etaPage (x : SPage) : (⟨x.addr, x.policy, x.tok, x.queue, x.ended, x.builder, x.slots, x.mods, x.entries, x.block, x.inline, x.deferred, x.entered, x.ran, x.log, x.loaded⟩ : SPage) = x := rfl
theorem etaResult (x : SResult) : (⟨x.builder, x.log, x.verdicts, x.sheet, x.loaded⟩ : SResult) = x := rfl
theorem etaGuess (x : SGuess) : (⟨x.to, x.response, x.used⟩ : SGuess) = x := rfl
theorem etaConn (x : SConn) : (⟨x.to, x.left, x.guess, x.response⟩ : SConn) = x := rfl
theorem etaLoader (x : SLoader) : (⟨x.net, x.page, x.parts, x.conns, x.guesses⟩ : SLoader) = x := rfl
theorem etaVisit (x : SVisit) : (⟨x.addr, x.page, x.kept⟩ : SVisit) = x := rfl
theorem etaTab (x : STab) : (⟨x.visits, x.at_⟩ : STab) = x := rfl
theorem baBeq (x y : ByteArray) : (x == y) = decide (x = y) := by
  rw [Bool.eq_iff_iff, decide_eq_true_eq]
  constructor
  · intro h
    have h' : (x.data == y.data) = true := h
    cases x; cases y; simpa using h'
  · rintro rfl
    show (x.data == x.data) = true
    simp
theorem beqAddr (x y : SAddr) : (x.host == y.host && (x.path == y.path && true)) = decide (x = y) := by
  rw [Bool.eq_iff_iff]; cases x; cases y; simp [baBeq]
theorem mkStringS_ub (xs : List ByteArray) (k : Int) : (markL mkString xs k).2 = k + 1 * xs.length := markL_ub (f := mkString) (N := 1) (fun _ _ => rfl) xs k
theorem mkStringS_idem (xs : List ByteArray) (k : Int) : markL mkString (markL mkString xs k).1 k = markL mkString xs k := markL_idem (f := mkString) (fun _ _ => rfl) xs k
theorem mkIntS_ub (xs : List Int) (k : Int) : (markL mkInt xs k).2 = k + 1 * xs.length := markL_ub (f := mkInt) (N := 1) (fun _ _ => rfl) xs k
theorem mkIntS_idem (xs : List Int) (k : Int) : markL mkInt (markL mkInt xs k).1 k = markL mkInt xs k := markL_idem (f := mkInt) (fun _ _ => rfl) xs k
theorem mkStringS_mono (l : List ByteArray) (k : Int) : k ≤ (markL mkString l k).2 := markL_mono mkString_mono l k
theorem mkStringS_ub64 (l : List ByteArray) (k : Int) : (markL mkString l k).2 ≤ k + 64 * (szL szString l : Nat) := by rw [mkStringS_ub]; have := szL_len szString l; omega
theorem mkIntS_mono (l : List Int) (k : Int) : k ≤ (markL mkInt l k).2 := markL_mono mkInt_mono l k
theorem mkIntS_ub64 (l : List Int) (k : Int) : (markL mkInt l k).2 ≤ k + 64 * (l.length : Nat) := by rw [mkIntS_ub]; omega
theorem mkAddrS_mono (l : List SAddr) (k : Int) : k ≤ (markL mkAddr l k).2 := markL_mono mkAddr_mono l k
theorem mkAddrS_ub64 (l : List SAddr) (k : Int) : (markL mkAddr l k).2 ≤ k + 64 * szL szAddr l := markL_ub64 (fun x k => by simp only [mkAddr]; omega) l k
theorem mkAttrS_mono (l : List SAttr) (k : Int) : k ≤ (markL mkAttr l k).2 := markL_mono mkAttr_mono l k
theorem mkAttrS_ub64 (l : List SAttr) (k : Int) : (markL mkAttr l k).2 ≤ k + 64 * szL szAttr l := markL_ub64 (fun x k => by simp only [mkAttr]; omega) l k
def mkToken (x : SToken) (k : Int) : SToken × Int :=
  let r1 := markL mkAttr x.attrs (k + 2)
  (⟨k, mtext (k + 1), r1.1, mtext (r1.2)⟩, r1.2 + 1)
theorem mkToken_mono : Mono mkToken := by
  intro x k
  simp only [mkToken]
  have m0 := mkAttrS_mono x.attrs (k + 2)
  generalize markL mkAttr x.attrs (k + 2) = r1 at *
  omega
theorem mkToken_cnt (x : SToken) (k : Int) : k + 1 ≤ (mkToken x k).2 := by
  simp only [mkToken]
  have m0 := mkAttrS_mono x.attrs (k + 2)
  generalize markL mkAttr x.attrs (k + 2) = r1 at *
  omega
theorem mkToken_idem (x : SToken) (k : Int) : mkToken (mkToken x k).1 k = mkToken x k := by simp only [mkToken, mkAttrS_idem]
theorem mkToken_ub (x : SToken) (k : Int) : (mkToken x k).2 ≤ k + 64 * (szToken x + 1) := by
  simp only [mkToken]
  have u0 := mkAttrS_ub64 x.attrs (k + 2)
  generalize markL mkAttr x.attrs (k + 2) = r1 at *
  simp only [szToken]
  omega
theorem mkTokenS_mono (l : List SToken) (k : Int) : k ≤ (markL mkToken l k).2 := markL_mono mkToken_mono l k
theorem mkTokenS_idem (l : List SToken) (k : Int) : markL mkToken (markL mkToken l k).1 k = markL mkToken l k := markL_idem mkToken_idem l k
theorem mkTokenS_ub64 (l : List SToken) (k : Int) : (markL mkToken l k).2 ≤ k + 64 * szL szToken l := markL_ub64 mkToken_ub l k
def mkNode (x : SNode) (k : Int) : SNode × Int :=
  let r1 := markL mkAttr x.attrs (k + 3)
  (⟨mtext (k), mtext (k + 1), k + 2, r1.1⟩, r1.2)
theorem mkNode_mono : Mono mkNode := by
  intro x k
  simp only [mkNode]
  have m0 := mkAttrS_mono x.attrs (k + 3)
  generalize markL mkAttr x.attrs (k + 3) = r1 at *
  omega
theorem mkNode_cnt (x : SNode) (k : Int) : k + 1 ≤ (mkNode x k).2 := by
  simp only [mkNode]
  have m0 := mkAttrS_mono x.attrs (k + 3)
  generalize markL mkAttr x.attrs (k + 3) = r1 at *
  omega
theorem mkNode_idem (x : SNode) (k : Int) : mkNode (mkNode x k).1 k = mkNode x k := by simp only [mkNode, mkAttrS_idem]
theorem mkNode_ub (x : SNode) (k : Int) : (mkNode x k).2 ≤ k + 64 * (szNode x + 1) := by
  simp only [mkNode]
  have u0 := mkAttrS_ub64 x.attrs (k + 3)
  generalize markL mkAttr x.attrs (k + 3) = r1 at *
  simp only [szNode]
  omega
theorem mkNodeS_mono (l : List SNode) (k : Int) : k ≤ (markL mkNode l k).2 := markL_mono mkNode_mono l k
theorem mkNodeS_idem (l : List SNode) (k : Int) : markL mkNode (markL mkNode l k).1 k = markL mkNode l k := markL_idem mkNode_idem l k
theorem mkNodeS_ub64 (l : List SNode) (k : Int) : (markL mkNode l k).2 ≤ k + 64 * szL szNode l := markL_ub64 mkNode_ub l k
def mvBuilder (x : SBuilder) (k : Int) : SBuilder × Int :=
  let r1 := markL mkNode x.nodes (k)
  let r2 := markL mkInt x.open_ (r1.2)
  (⟨r1.1, r2.1⟩, r2.2)
def mvPolicy (x : SPolicy) (k : Int) : SPolicy × Int :=
  let r1 := markL mkString x.scripts (k)
  let r2 := markL mkString x.styles (r1.2)
  let r3 := markL mkString x.images (r2.2)
  (⟨x.set_, r1.1, r2.1, r3.1, x.nonce⟩, r3.2)
theorem mkFileS_mono (l : List SFile) (k : Int) : k ≤ (markL mkFile l k).2 := markL_mono mkFile_mono l k
theorem mkFileS_ub64 (l : List SFile) (k : Int) : (markL mkFile l k).2 ≤ k + 64 * szL szFile l := markL_ub64 (fun x k => by simp only [mkFile]; omega) l k
def mkServer (x : SServer) (k : Int) : SServer × Int :=
  let r1 := markL mkFile x.files (k + 1)
  (⟨mtext (k), r1.1⟩, r1.2)
theorem mkServer_mono : Mono mkServer := by
  intro x k
  simp only [mkServer]
  have m0 := mkFileS_mono x.files (k + 1)
  generalize markL mkFile x.files (k + 1) = r1 at *
  omega
theorem mkServer_cnt (x : SServer) (k : Int) : k + 1 ≤ (mkServer x k).2 := by
  simp only [mkServer]
  have m0 := mkFileS_mono x.files (k + 1)
  generalize markL mkFile x.files (k + 1) = r1 at *
  omega
theorem mkServer_idem (x : SServer) (k : Int) : mkServer (mkServer x k).1 k = mkServer x k := by simp only [mkServer, mkFileS_idem]
theorem mkServer_ub (x : SServer) (k : Int) : (mkServer x k).2 ≤ k + 64 * (szServer x + 1) := by
  simp only [mkServer]
  have u0 := mkFileS_ub64 x.files (k + 1)
  generalize markL mkFile x.files (k + 1) = r1 at *
  simp only [szServer]
  omega
theorem mkServerS_mono (l : List SServer) (k : Int) : k ≤ (markL mkServer l k).2 := markL_mono mkServer_mono l k
theorem mkServerS_idem (l : List SServer) (k : Int) : markL mkServer (markL mkServer l k).1 k = markL mkServer l k := markL_idem mkServer_idem l k
theorem mkServerS_ub64 (l : List SServer) (k : Int) : (markL mkServer l k).2 ≤ k + 64 * szL szServer l := markL_ub64 mkServer_ub l k
theorem mkEntryS_mono (l : List SEntry) (k : Int) : k ≤ (markL mkEntry l k).2 := markL_mono mkEntry_mono l k
theorem mkEntryS_ub64 (l : List SEntry) (k : Int) : (markL mkEntry l k).2 ≤ k + 64 * szL szEntry l := markL_ub64 (fun x k => by simp only [mkEntry]; omega) l k
def mvCache (x : SCache) (k : Int) : SCache × Int :=
  let r1 := markL mkEntry x.entries (k)
  (⟨r1.1⟩, r1.2)
theorem mkSentS_mono (l : List SSent) (k : Int) : k ≤ (markL mkSent l k).2 := markL_mono mkSent_mono l k
theorem mkSentS_ub64 (l : List SSent) (k : Int) : (markL mkSent l k).2 ≤ k + 64 * szL szSent l := markL_ub64 (fun x k => by simp only [mkSent]; omega) l k
def mvNet (x : SNet) (k : Int) : SNet × Int :=
  let r1 := markL mkServer x.servers (k)
  let r2 := markL mkEntry x.cache.entries (r1.2)
  let r3 := markL mkSent x.log (r2.2)
  (⟨r1.1, ⟨r2.1⟩, r3.1, x.now⟩, r3.2)
theorem mkSlotS_mono (l : List SSlot) (k : Int) : k ≤ (markL mkSlot l k).2 := markL_mono mkSlot_mono l k
theorem mkSlotS_ub64 (l : List SSlot) (k : Int) : (markL mkSlot l k).2 ≤ k + 64 * szL szSlot l := markL_ub64 (fun x k => by simp only [mkSlot]; omega) l k
theorem mkModuleS_mono (l : List SModule) (k : Int) : k ≤ (markL mkModule l k).2 := markL_mono mkModule_mono l k
theorem mkModuleS_ub64 (l : List SModule) (k : Int) : (markL mkModule l k).2 ≤ k + 64 * szL szModule l := markL_ub64 (fun x k => by simp only [mkModule]; omega) l k
def mvPage (x : SPage) (k : Int) : SPage × Int :=
  let r1 := markL mkString x.policy.scripts (k)
  let r2 := markL mkString x.policy.styles (r1.2)
  let r3 := markL mkString x.policy.images (r2.2)
  let r4 := markL mkToken x.queue (r3.2)
  let r5 := markL mkNode x.builder.nodes (r4.2)
  let r6 := markL mkInt x.builder.open_ (r5.2)
  let r7 := markL mkSlot x.slots (r6.2)
  let r8 := markL mkModule x.mods (r7.2)
  let r9 := markL mkAddr x.entries (r8.2)
  let r10 := markL mkAddr x.ran (r9.2)
  let r11 := markL mkString x.log (r10.2)
  (⟨x.addr, ⟨x.policy.set_, r1.1, r2.1, r3.1, x.policy.nonce⟩, x.tok, r4.1, x.ended, ⟨r5.1, r6.1⟩, r7.1, r8.1, r9.1, x.block, x.inline, x.deferred, x.entered, r10.1, r11.1, x.loaded⟩, r11.2)
theorem mkGuessS_mono (l : List SGuess) (k : Int) : k ≤ (markL mkGuess l k).2 := markL_mono mkGuess_mono l k
theorem mkGuessS_ub64 (l : List SGuess) (k : Int) : (markL mkGuess l k).2 ≤ k + 64 * szL szGuess l := markL_ub64 (fun x k => by simp only [mkGuess]; omega) l k
theorem mkConnS_mono (l : List SConn) (k : Int) : k ≤ (markL mkConn l k).2 := markL_mono mkConn_mono l k
theorem mkConnS_ub64 (l : List SConn) (k : Int) : (markL mkConn l k).2 ≤ k + 64 * szL szConn l := markL_ub64 (fun x k => by simp only [mkConn]; omega) l k
def mvLoader (x : SLoader) (k : Int) : SLoader × Int :=
  let r1 := markL mkServer x.net.servers (k)
  let r2 := markL mkEntry x.net.cache.entries (r1.2)
  let r3 := markL mkSent x.net.log (r2.2)
  let r4 := markL mkString x.page.policy.scripts (r3.2)
  let r5 := markL mkString x.page.policy.styles (r4.2)
  let r6 := markL mkString x.page.policy.images (r5.2)
  let r7 := markL mkToken x.page.queue (r6.2)
  let r8 := markL mkNode x.page.builder.nodes (r7.2)
  let r9 := markL mkInt x.page.builder.open_ (r8.2)
  let r10 := markL mkSlot x.page.slots (r9.2)
  let r11 := markL mkModule x.page.mods (r10.2)
  let r12 := markL mkAddr x.page.entries (r11.2)
  let r13 := markL mkAddr x.page.ran (r12.2)
  let r14 := markL mkString x.page.log (r13.2)
  let r15 := markL mkString x.parts (r14.2)
  let r16 := markL mkConn x.conns (r15.2)
  let r17 := markL mkGuess x.guesses (r16.2)
  (⟨⟨r1.1, ⟨r2.1⟩, r3.1, x.net.now⟩, ⟨x.page.addr, ⟨x.page.policy.set_, r4.1, r5.1, r6.1, x.page.policy.nonce⟩, x.page.tok, r7.1, x.page.ended, ⟨r8.1, r9.1⟩, r10.1, r11.1, r12.1, x.page.block, x.page.inline, x.page.deferred, x.page.entered, r13.1, r14.1, x.page.loaded⟩, r15.1, r16.1, r17.1⟩, r17.2)
theorem mvLoader_mono (x : SLoader) (k : Int) : k ≤ (mvLoader x k).2 := by
  simp only [mvLoader]
  have m0 := mkServerS_mono x.net.servers (k)
  generalize markL mkServer x.net.servers (k) = r1 at *
  have m1 := mkEntryS_mono x.net.cache.entries (r1.2)
  generalize markL mkEntry x.net.cache.entries (r1.2) = r2 at *
  have m2 := mkSentS_mono x.net.log (r2.2)
  generalize markL mkSent x.net.log (r2.2) = r3 at *
  have m3 := mkStringS_mono x.page.policy.scripts (r3.2)
  generalize markL mkString x.page.policy.scripts (r3.2) = r4 at *
  have m4 := mkStringS_mono x.page.policy.styles (r4.2)
  generalize markL mkString x.page.policy.styles (r4.2) = r5 at *
  have m5 := mkStringS_mono x.page.policy.images (r5.2)
  generalize markL mkString x.page.policy.images (r5.2) = r6 at *
  have m6 := mkTokenS_mono x.page.queue (r6.2)
  generalize markL mkToken x.page.queue (r6.2) = r7 at *
  have m7 := mkNodeS_mono x.page.builder.nodes (r7.2)
  generalize markL mkNode x.page.builder.nodes (r7.2) = r8 at *
  have m8 := mkIntS_mono x.page.builder.open_ (r8.2)
  generalize markL mkInt x.page.builder.open_ (r8.2) = r9 at *
  have m9 := mkSlotS_mono x.page.slots (r9.2)
  generalize markL mkSlot x.page.slots (r9.2) = r10 at *
  have m10 := mkModuleS_mono x.page.mods (r10.2)
  generalize markL mkModule x.page.mods (r10.2) = r11 at *
  have m11 := mkAddrS_mono x.page.entries (r11.2)
  generalize markL mkAddr x.page.entries (r11.2) = r12 at *
  have m12 := mkAddrS_mono x.page.ran (r12.2)
  generalize markL mkAddr x.page.ran (r12.2) = r13 at *
  have m13 := mkStringS_mono x.page.log (r13.2)
  generalize markL mkString x.page.log (r13.2) = r14 at *
  have m14 := mkStringS_mono x.parts (r14.2)
  generalize markL mkString x.parts (r14.2) = r15 at *
  have m15 := mkConnS_mono x.conns (r15.2)
  generalize markL mkConn x.conns (r15.2) = r16 at *
  have m16 := mkGuessS_mono x.guesses (r16.2)
  generalize markL mkGuess x.guesses (r16.2) = r17 at *
  omega
theorem mvLoader_idem (x : SLoader) (k : Int) : mvLoader (mvLoader x k).1 k = mvLoader x k := by simp only [mvLoader, mkAddrS_idem, mkConnS_idem, mkEntryS_idem, mkGuessS_idem, mkIntS_idem, mkModuleS_idem, mkNodeS_idem, mkSentS_idem, mkServerS_idem, mkSlotS_idem, mkStringS_idem, mkTokenS_idem]
theorem mvLoader_ub (x : SLoader) (k : Int) : (mvLoader x k).2 ≤ k + 64 * szLoader x := by
  simp only [mvLoader]
  have u0 := mkServerS_ub64 x.net.servers (k)
  generalize markL mkServer x.net.servers (k) = r1 at *
  have u1 := mkEntryS_ub64 x.net.cache.entries (r1.2)
  generalize markL mkEntry x.net.cache.entries (r1.2) = r2 at *
  have u2 := mkSentS_ub64 x.net.log (r2.2)
  generalize markL mkSent x.net.log (r2.2) = r3 at *
  have u3 := mkStringS_ub64 x.page.policy.scripts (r3.2)
  generalize markL mkString x.page.policy.scripts (r3.2) = r4 at *
  have u4 := mkStringS_ub64 x.page.policy.styles (r4.2)
  generalize markL mkString x.page.policy.styles (r4.2) = r5 at *
  have u5 := mkStringS_ub64 x.page.policy.images (r5.2)
  generalize markL mkString x.page.policy.images (r5.2) = r6 at *
  have u6 := mkTokenS_ub64 x.page.queue (r6.2)
  generalize markL mkToken x.page.queue (r6.2) = r7 at *
  have u7 := mkNodeS_ub64 x.page.builder.nodes (r7.2)
  generalize markL mkNode x.page.builder.nodes (r7.2) = r8 at *
  have u8 := mkIntS_ub64 x.page.builder.open_ (r8.2)
  generalize markL mkInt x.page.builder.open_ (r8.2) = r9 at *
  have u9 := mkSlotS_ub64 x.page.slots (r9.2)
  generalize markL mkSlot x.page.slots (r9.2) = r10 at *
  have u10 := mkModuleS_ub64 x.page.mods (r10.2)
  generalize markL mkModule x.page.mods (r10.2) = r11 at *
  have u11 := mkAddrS_ub64 x.page.entries (r11.2)
  generalize markL mkAddr x.page.entries (r11.2) = r12 at *
  have u12 := mkAddrS_ub64 x.page.ran (r12.2)
  generalize markL mkAddr x.page.ran (r12.2) = r13 at *
  have u13 := mkStringS_ub64 x.page.log (r13.2)
  generalize markL mkString x.page.log (r13.2) = r14 at *
  have u14 := mkStringS_ub64 x.parts (r14.2)
  generalize markL mkString x.parts (r14.2) = r15 at *
  have u15 := mkConnS_ub64 x.conns (r15.2)
  generalize markL mkConn x.conns (r15.2) = r16 at *
  have u16 := mkGuessS_ub64 x.guesses (r16.2)
  generalize markL mkGuess x.guesses (r16.2) = r17 at *
  simp only [szAddr, szBuilder, szCache, szLoader, szNet, szPage, szPolicy, szTokenizer]
  omega
theorem mvLoader_bd (x : SLoader) (k : Int) : k ≤ (mvLoader x k).2 ∧ (mvLoader x k).2 ≤ k + 64 * szLoader x ∧ mvLoader (mvLoader x k).1 k = mvLoader x k := ⟨mvLoader_mono x k, mvLoader_ub x k, mvLoader_idem x k⟩
def fmarkText : Fct := ⟨[aI], [rT], fun (x : Int × Unit) => 0 ≤ x.1 ∧ x.1 ≤ 4000000000000000000, fun (x : Int × Unit) => (mtext x.1, ())⟩
abbrev LmTx (k : Int) : LInv := ⟨[⟨.s, 0, true, .el .int⟩, ⟨.s, 3, true, .el .str⟩], fun _ (x : Int × ByteArray × Unit) => 0 ≤ x.1 ∧ x.1 ≤ k ∧ ∃ f, f + x.2.1.size = 64 ∧ x.1.toNat < 10 ^ f ∧ digs 64 k.toNat ⟨#[]⟩ = digs f x.1.toNat x.2.1, fun (x : Int × ByteArray × Unit) => x.1.toNat⟩
abbrev LszS (t : Ty) (f : El t → Nat) (l : List (El t)) (n : Int) : LInv := ⟨[⟨.s, 1, true, .el .int⟩, ⟨.s, 5, true, .el .int⟩], fun _ (x : Int × Int × Unit) => 0 ≤ x.2.1 ∧ x.2.1 ≤ l.length ∧ 0 ≤ x.1 ∧ x.1 = n - l.length - ((l.take x.2.1.toNat).map f).sum, fun (x : Int × Int × Unit) => l.length - x.2.1.toNat⟩
abbrev LtoS (t : Ty) (l : List (El t)) : LInv := ⟨[⟨.s, 4, true, .el .int⟩, ⟨.s, 3, true, .sl t⟩], fun _ (x : Int × List (El t) × Unit) => 0 ≤ x.1 ∧ x.1 ≤ l.length ∧ x.2.1 = l.take x.1.toNat ++ List.replicate (l.length - x.1.toNat) default, fun (x : Int × List (El t) × Unit) => l.length - x.1.toNat⟩
abbrev LeqS (t : Ty) (l m : List (El t)) : LInv := ⟨[⟨.s, 5, true, .el .int⟩], fun _ (x : Int × Unit) => 0 ≤ x.1 ∧ x.1 ≤ l.length ∧ l.take x.1.toNat = m.take x.1.toNat, fun (x : Int × Unit) => l.length - x.1.toNat⟩
abbrev LmkS (t : Ty) (f : El t → Int → El t × Int) (l : List (El t)) (k : Int) : LInv := ⟨[⟨.s, 1, true, .el .int⟩, ⟨.s, 5, true, .el .int⟩, ⟨.t, 0, true, .sl t⟩], fun _ (x : Int × Int × List (El t) × Unit) => 0 ≤ x.2.1 ∧ x.2.1 ≤ l.length ∧ x.1 = (markL f (l.take x.2.1.toNat) k).2 ∧ x.2.2.1 = (markL f (l.take x.2.1.toNat) k).1 ++ l.drop x.2.1.toNat, fun (x : Int × Int × List (El t) × Unit) => l.length - x.2.1.toNat⟩
abbrev LheS (t : Ty) (f : El t → Int → El t × Int) (l : List (El t)) (k : Int) : LInv := ⟨[⟨.s, 1, true, .el .int⟩, ⟨.s, 5, true, .el .int⟩], fun _ (x : Int × Int × Unit) => 0 ≤ x.2.1 ∧ x.2.1 ≤ l.length ∧ x.1 = (markL f (l.take x.2.1.toNat) k).2, fun (x : Int × Int × Unit) => l.length - x.2.1.toNat⟩
def fszStringS : Fct := ⟨[aL .str, aI], [rI], fun (x : List ByteArray × Int × Unit) => Sh.good (.sl .str) x.1 ∧ 0 ≤ x.2.1 ∧ x.2.1 ≤ 1048576, fun (x : List ByteArray × Int × Unit) => (lessen x.2.1 (szL szString x.1), ())⟩
def ftoStringS : Fct := ⟨[aL .str], [rL .str], fun (x : List ByteArray × Unit) => szL szString x.1 ≤ 1048576, fun (x : List ByteArray × Unit) => (x.1, ())⟩
def feqStringS : Fct := ⟨[aL .str, aL .str], [rB], fun (x : List ByteArray × List ByteArray × Unit) => x.1.length ≤ 4000000000000000000, fun (x : List ByteArray × List ByteArray × Unit) => (decide (x.1 = x.2.1), ())⟩
def fmarkStringS : MS := ⟨.sl .str, fun (l : List ByteArray) (k : Int) => 0 ≤ k ∧ (markL mkString l k).2 ≤ 4000000000000000000, fun (l : List ByteArray) (k : Int) => markL mkString l k⟩
def fheldStringS : Fct := ⟨[aL .str, aI], [rI], fun (x : List ByteArray × Int × Unit) => 0 ≤ x.2.1 ∧ (markL mkString x.1 x.2.1).2 ≤ 4000000000000000000 ∧ (markL mkString x.1 x.2.1).1 = x.1, fun (x : List ByteArray × Int × Unit) => ((markL mkString x.1 x.2.1).2, ())⟩
def fszIntS : Fct := ⟨[aL .int, aI], [rI], fun (x : List Int × Int × Unit) => Sh.good (.sl .int) x.1 ∧ 0 ≤ x.2.1 ∧ x.2.1 ≤ 1048576, fun (x : List Int × Int × Unit) => (lessen x.2.1 (x.1.length), ())⟩
def ftoIntS : Fct := ⟨[aL .int], [rL .int], fun (x : List Int × Unit) => x.1.length ≤ 1048576, fun (x : List Int × Unit) => (x.1, ())⟩
def feqIntS : Fct := ⟨[aL .int, aL .int], [rB], fun (x : List Int × List Int × Unit) => x.1.length ≤ 4000000000000000000, fun (x : List Int × List Int × Unit) => (decide (x.1 = x.2.1), ())⟩
def fmarkIntS : MS := ⟨.sl .int, fun (l : List Int) (k : Int) => 0 ≤ k ∧ (markL mkInt l k).2 ≤ 4000000000000000000, fun (l : List Int) (k : Int) => markL mkInt l k⟩
def fheldIntS : Fct := ⟨[aL .int, aI], [rI], fun (x : List Int × Int × Unit) => 0 ≤ x.2.1 ∧ (markL mkInt x.1 x.2.1).2 ≤ 4000000000000000000 ∧ (markL mkInt x.1 x.2.1).1 = x.1, fun (x : List Int × Int × Unit) => ((markL mkInt x.1 x.2.1).2, ())⟩
def fszAddr : Fct := ⟨[aE .addr, aI], [rI], fun (x : SAddr × Int × Unit) => Sh.good (.el .addr) x.1 ∧ 0 ≤ x.2.1 ∧ x.2.1 ≤ 1048576, fun (x : SAddr × Int × Unit) => (lessen x.2.1 (szAddr x.1), ())⟩
def ftoAddr : Fct := ⟨[aE .addr], [rE .addr], fun (x : SAddr × Unit) => szAddr x.1 ≤ 1048576, fun (x : SAddr × Unit) => (x.1, ())⟩
def feqAddr : Fct := ⟨[aE .addr, aE .addr], [rB], fun x => True, fun (x : SAddr × SAddr × Unit) => (decide (x.1 = x.2.1), ())⟩
def fszAddrS : Fct := ⟨[aL .addr, aI], [rI], fun (x : List SAddr × Int × Unit) => Sh.good (.sl .addr) x.1 ∧ 0 ≤ x.2.1 ∧ x.2.1 ≤ 1048576, fun (x : List SAddr × Int × Unit) => (lessen x.2.1 (szL szAddr x.1), ())⟩
def ftoAddrS : Fct := ⟨[aL .addr], [rL .addr], fun (x : List SAddr × Unit) => szL szAddr x.1 ≤ 1048576, fun (x : List SAddr × Unit) => (x.1, ())⟩
def feqAddrS : Fct := ⟨[aL .addr, aL .addr], [rB], fun (x : List SAddr × List SAddr × Unit) => x.1.length ≤ 4000000000000000000, fun (x : List SAddr × List SAddr × Unit) => (decide (x.1 = x.2.1), ())⟩
def fmarkAddrS : MS := ⟨.sl .addr, fun (l : List SAddr) (k : Int) => 0 ≤ k ∧ (markL mkAddr l k).2 ≤ 4000000000000000000, fun (l : List SAddr) (k : Int) => markL mkAddr l k⟩
def fheldAddrS : Fct := ⟨[aL .addr, aI], [rI], fun (x : List SAddr × Int × Unit) => 0 ≤ x.2.1 ∧ (markL mkAddr x.1 x.2.1).2 ≤ 4000000000000000000 ∧ (markL mkAddr x.1 x.2.1).1 = x.1, fun (x : List SAddr × Int × Unit) => ((markL mkAddr x.1 x.2.1).2, ())⟩
def fszAttr : Fct := ⟨[aE .attr, aI], [rI], fun (x : SAttr × Int × Unit) => Sh.good (.el .attr) x.1 ∧ 0 ≤ x.2.1 ∧ x.2.1 ≤ 1048576, fun (x : SAttr × Int × Unit) => (lessen x.2.1 (szAttr x.1), ())⟩
def ftoAttr : Fct := ⟨[aE .attr], [rE .attr], fun (x : SAttr × Unit) => szAttr x.1 ≤ 1048576, fun (x : SAttr × Unit) => (x.1, ())⟩
def feqAttr : Fct := ⟨[aE .attr, aE .attr], [rB], fun x => True, fun (x : SAttr × SAttr × Unit) => (decide (x.1 = x.2.1), ())⟩
def fszAttrS : Fct := ⟨[aL .attr, aI], [rI], fun (x : List SAttr × Int × Unit) => Sh.good (.sl .attr) x.1 ∧ 0 ≤ x.2.1 ∧ x.2.1 ≤ 1048576, fun (x : List SAttr × Int × Unit) => (lessen x.2.1 (szL szAttr x.1), ())⟩
def ftoAttrS : Fct := ⟨[aL .attr], [rL .attr], fun (x : List SAttr × Unit) => szL szAttr x.1 ≤ 1048576, fun (x : List SAttr × Unit) => (x.1, ())⟩
def feqAttrS : Fct := ⟨[aL .attr, aL .attr], [rB], fun (x : List SAttr × List SAttr × Unit) => x.1.length ≤ 4000000000000000000, fun (x : List SAttr × List SAttr × Unit) => (decide (x.1 = x.2.1), ())⟩
def fmarkAttrS : MS := ⟨.sl .attr, fun (l : List SAttr) (k : Int) => 0 ≤ k ∧ (markL mkAttr l k).2 ≤ 4000000000000000000, fun (l : List SAttr) (k : Int) => markL mkAttr l k⟩
def fheldAttrS : Fct := ⟨[aL .attr, aI], [rI], fun (x : List SAttr × Int × Unit) => 0 ≤ x.2.1 ∧ (markL mkAttr x.1 x.2.1).2 ≤ 4000000000000000000 ∧ (markL mkAttr x.1 x.2.1).1 = x.1, fun (x : List SAttr × Int × Unit) => ((markL mkAttr x.1 x.2.1).2, ())⟩
def fszToken : Fct := ⟨[aE .token, aI], [rI], fun (x : SToken × Int × Unit) => Sh.good (.el .token) x.1 ∧ 0 ≤ x.2.1 ∧ x.2.1 ≤ 1048576, fun (x : SToken × Int × Unit) => (lessen x.2.1 (szToken x.1), ())⟩
def ftoToken : Fct := ⟨[aE .token], [rE .token], fun (x : SToken × Unit) => szToken x.1 ≤ 1048576, fun (x : SToken × Unit) => (x.1, ())⟩
def feqToken : Fct := ⟨[aE .token, aE .token], [rB], fun (x : SToken × SToken × Unit) => szToken x.1 ≤ 1125899906842624, fun (x : SToken × SToken × Unit) => (decide (x.1 = x.2.1), ())⟩
def fszTokenS : Fct := ⟨[aL .token, aI], [rI], fun (x : List SToken × Int × Unit) => Sh.good (.sl .token) x.1 ∧ 0 ≤ x.2.1 ∧ x.2.1 ≤ 1048576, fun (x : List SToken × Int × Unit) => (lessen x.2.1 (szL szToken x.1), ())⟩
def ftoTokenS : Fct := ⟨[aL .token], [rL .token], fun (x : List SToken × Unit) => szL szToken x.1 ≤ 1048576, fun (x : List SToken × Unit) => (x.1, ())⟩
def feqTokenS : Fct := ⟨[aL .token, aL .token], [rB], fun (x : List SToken × List SToken × Unit) => szL szToken x.1 ≤ 1125899906842624, fun (x : List SToken × List SToken × Unit) => (decide (x.1 = x.2.1), ())⟩
def fmarkTokenS : MS := ⟨.sl .token, fun (l : List SToken) (k : Int) => 0 ≤ k ∧ (markL mkToken l k).2 ≤ 4000000000000000000, fun (l : List SToken) (k : Int) => markL mkToken l k⟩
def fheldTokenS : Fct := ⟨[aL .token, aI], [rI], fun (x : List SToken × Int × Unit) => 0 ≤ x.2.1 ∧ (markL mkToken x.1 x.2.1).2 ≤ 4000000000000000000 ∧ (markL mkToken x.1 x.2.1).1 = x.1, fun (x : List SToken × Int × Unit) => ((markL mkToken x.1 x.2.1).2, ())⟩
def fszTokenizer : Fct := ⟨[aE .tokenizer, aI], [rI], fun (x : STokenizer × Int × Unit) => Sh.good (.el .tokenizer) x.1 ∧ 0 ≤ x.2.1 ∧ x.2.1 ≤ 1048576, fun (x : STokenizer × Int × Unit) => (lessen x.2.1 (szTokenizer x.1), ())⟩
def ftoTokenizer : Fct := ⟨[aE .tokenizer], [rE .tokenizer], fun (x : STokenizer × Unit) => szTokenizer x.1 ≤ 1048576, fun (x : STokenizer × Unit) => (x.1, ())⟩
def feqTokenizer : Fct := ⟨[aE .tokenizer, aE .tokenizer], [rB], fun x => True, fun (x : STokenizer × STokenizer × Unit) => (decide (x.1 = x.2.1), ())⟩
def fszNode : Fct := ⟨[aE .node, aI], [rI], fun (x : SNode × Int × Unit) => Sh.good (.el .node) x.1 ∧ 0 ≤ x.2.1 ∧ x.2.1 ≤ 1048576, fun (x : SNode × Int × Unit) => (lessen x.2.1 (szNode x.1), ())⟩
def ftoNode : Fct := ⟨[aE .node], [rE .node], fun (x : SNode × Unit) => szNode x.1 ≤ 1048576, fun (x : SNode × Unit) => (x.1, ())⟩
def feqNode : Fct := ⟨[aE .node, aE .node], [rB], fun (x : SNode × SNode × Unit) => szNode x.1 ≤ 1125899906842624, fun (x : SNode × SNode × Unit) => (decide (x.1 = x.2.1), ())⟩
def fszNodeS : Fct := ⟨[aL .node, aI], [rI], fun (x : List SNode × Int × Unit) => Sh.good (.sl .node) x.1 ∧ 0 ≤ x.2.1 ∧ x.2.1 ≤ 1048576, fun (x : List SNode × Int × Unit) => (lessen x.2.1 (szL szNode x.1), ())⟩
def ftoNodeS : Fct := ⟨[aL .node], [rL .node], fun (x : List SNode × Unit) => szL szNode x.1 ≤ 1048576, fun (x : List SNode × Unit) => (x.1, ())⟩
def feqNodeS : Fct := ⟨[aL .node, aL .node], [rB], fun (x : List SNode × List SNode × Unit) => szL szNode x.1 ≤ 1125899906842624, fun (x : List SNode × List SNode × Unit) => (decide (x.1 = x.2.1), ())⟩
def fmarkNodeS : MS := ⟨.sl .node, fun (l : List SNode) (k : Int) => 0 ≤ k ∧ (markL mkNode l k).2 ≤ 4000000000000000000, fun (l : List SNode) (k : Int) => markL mkNode l k⟩
def fheldNodeS : Fct := ⟨[aL .node, aI], [rI], fun (x : List SNode × Int × Unit) => 0 ≤ x.2.1 ∧ (markL mkNode x.1 x.2.1).2 ≤ 4000000000000000000 ∧ (markL mkNode x.1 x.2.1).1 = x.1, fun (x : List SNode × Int × Unit) => ((markL mkNode x.1 x.2.1).2, ())⟩
def fszBuilder : Fct := ⟨[aE .builder, aI], [rI], fun (x : SBuilder × Int × Unit) => Sh.good (.el .builder) x.1 ∧ 0 ≤ x.2.1 ∧ x.2.1 ≤ 1048576, fun (x : SBuilder × Int × Unit) => (lessen x.2.1 (szBuilder x.1), ())⟩
def ftoBuilder : Fct := ⟨[aE .builder], [rE .builder], fun (x : SBuilder × Unit) => szBuilder x.1 ≤ 1048576, fun (x : SBuilder × Unit) => (x.1, ())⟩
def feqBuilder : Fct := ⟨[aE .builder, aE .builder], [rB], fun (x : SBuilder × SBuilder × Unit) => szBuilder x.1 ≤ 1125899906842624, fun (x : SBuilder × SBuilder × Unit) => (decide (x.1 = x.2.1), ())⟩
def fmarkBuilder : MS := ⟨.el .builder, fun (x : SBuilder) (k : Int) => 0 ≤ k ∧ (mvBuilder x k).2 ≤ 4000000000000000000, fun (x : SBuilder) (k : Int) => mvBuilder x k⟩
def fheldBuilder : Fct := ⟨[aE .builder, aI], [rI], fun (x : SBuilder × Int × Unit) => 0 ≤ x.2.1 ∧ (mvBuilder x.1 x.2.1).2 ≤ 4000000000000000000 ∧ (mvBuilder x.1 x.2.1).1 = x.1, fun (x : SBuilder × Int × Unit) => ((mvBuilder x.1 x.2.1).2, ())⟩
def fszPolicy : Fct := ⟨[aE .policy, aI], [rI], fun (x : SPolicy × Int × Unit) => Sh.good (.el .policy) x.1 ∧ 0 ≤ x.2.1 ∧ x.2.1 ≤ 1048576, fun (x : SPolicy × Int × Unit) => (lessen x.2.1 (szPolicy x.1), ())⟩
def ftoPolicy : Fct := ⟨[aE .policy], [rE .policy], fun (x : SPolicy × Unit) => szPolicy x.1 ≤ 1048576, fun (x : SPolicy × Unit) => (x.1, ())⟩
def feqPolicy : Fct := ⟨[aE .policy, aE .policy], [rB], fun (x : SPolicy × SPolicy × Unit) => szPolicy x.1 ≤ 1125899906842624, fun (x : SPolicy × SPolicy × Unit) => (decide (x.1 = x.2.1), ())⟩
def fmarkPolicy : MS := ⟨.el .policy, fun (x : SPolicy) (k : Int) => 0 ≤ k ∧ (mvPolicy x k).2 ≤ 4000000000000000000, fun (x : SPolicy) (k : Int) => mvPolicy x k⟩
def fheldPolicy : Fct := ⟨[aE .policy, aI], [rI], fun (x : SPolicy × Int × Unit) => 0 ≤ x.2.1 ∧ (mvPolicy x.1 x.2.1).2 ≤ 4000000000000000000 ∧ (mvPolicy x.1 x.2.1).1 = x.1, fun (x : SPolicy × Int × Unit) => ((mvPolicy x.1 x.2.1).2, ())⟩
def fszResponse : Fct := ⟨[aE .response, aI], [rI], fun (x : SResponse × Int × Unit) => Sh.good (.el .response) x.1 ∧ 0 ≤ x.2.1 ∧ x.2.1 ≤ 1048576, fun (x : SResponse × Int × Unit) => (lessen x.2.1 (szResponse x.1), ())⟩
def ftoResponse : Fct := ⟨[aE .response], [rE .response], fun (x : SResponse × Unit) => szResponse x.1 ≤ 1048576, fun (x : SResponse × Unit) => (x.1, ())⟩
def feqResponse : Fct := ⟨[aE .response, aE .response], [rB], fun x => True, fun (x : SResponse × SResponse × Unit) => (decide (x.1 = x.2.1), ())⟩
def fszFile : Fct := ⟨[aE .file, aI], [rI], fun (x : SFile × Int × Unit) => Sh.good (.el .file) x.1 ∧ 0 ≤ x.2.1 ∧ x.2.1 ≤ 1048576, fun (x : SFile × Int × Unit) => (lessen x.2.1 (szFile x.1), ())⟩
def ftoFile : Fct := ⟨[aE .file], [rE .file], fun (x : SFile × Unit) => szFile x.1 ≤ 1048576, fun (x : SFile × Unit) => (x.1, ())⟩
def feqFile : Fct := ⟨[aE .file, aE .file], [rB], fun x => True, fun (x : SFile × SFile × Unit) => (decide (x.1 = x.2.1), ())⟩
def fszFileS : Fct := ⟨[aL .file, aI], [rI], fun (x : List SFile × Int × Unit) => Sh.good (.sl .file) x.1 ∧ 0 ≤ x.2.1 ∧ x.2.1 ≤ 1048576, fun (x : List SFile × Int × Unit) => (lessen x.2.1 (szL szFile x.1), ())⟩
def ftoFileS : Fct := ⟨[aL .file], [rL .file], fun (x : List SFile × Unit) => szL szFile x.1 ≤ 1048576, fun (x : List SFile × Unit) => (x.1, ())⟩
def feqFileS : Fct := ⟨[aL .file, aL .file], [rB], fun (x : List SFile × List SFile × Unit) => x.1.length ≤ 4000000000000000000, fun (x : List SFile × List SFile × Unit) => (decide (x.1 = x.2.1), ())⟩
def fmarkFileS : MS := ⟨.sl .file, fun (l : List SFile) (k : Int) => 0 ≤ k ∧ (markL mkFile l k).2 ≤ 4000000000000000000, fun (l : List SFile) (k : Int) => markL mkFile l k⟩
def fheldFileS : Fct := ⟨[aL .file, aI], [rI], fun (x : List SFile × Int × Unit) => 0 ≤ x.2.1 ∧ (markL mkFile x.1 x.2.1).2 ≤ 4000000000000000000 ∧ (markL mkFile x.1 x.2.1).1 = x.1, fun (x : List SFile × Int × Unit) => ((markL mkFile x.1 x.2.1).2, ())⟩
def fszServer : Fct := ⟨[aE .server, aI], [rI], fun (x : SServer × Int × Unit) => Sh.good (.el .server) x.1 ∧ 0 ≤ x.2.1 ∧ x.2.1 ≤ 1048576, fun (x : SServer × Int × Unit) => (lessen x.2.1 (szServer x.1), ())⟩
def ftoServer : Fct := ⟨[aE .server], [rE .server], fun (x : SServer × Unit) => szServer x.1 ≤ 1048576, fun (x : SServer × Unit) => (x.1, ())⟩
def feqServer : Fct := ⟨[aE .server, aE .server], [rB], fun (x : SServer × SServer × Unit) => szServer x.1 ≤ 1125899906842624, fun (x : SServer × SServer × Unit) => (decide (x.1 = x.2.1), ())⟩
def fszServerS : Fct := ⟨[aL .server, aI], [rI], fun (x : List SServer × Int × Unit) => Sh.good (.sl .server) x.1 ∧ 0 ≤ x.2.1 ∧ x.2.1 ≤ 1048576, fun (x : List SServer × Int × Unit) => (lessen x.2.1 (szL szServer x.1), ())⟩
def ftoServerS : Fct := ⟨[aL .server], [rL .server], fun (x : List SServer × Unit) => szL szServer x.1 ≤ 1048576, fun (x : List SServer × Unit) => (x.1, ())⟩
def feqServerS : Fct := ⟨[aL .server, aL .server], [rB], fun (x : List SServer × List SServer × Unit) => szL szServer x.1 ≤ 1125899906842624, fun (x : List SServer × List SServer × Unit) => (decide (x.1 = x.2.1), ())⟩
def fmarkServerS : MS := ⟨.sl .server, fun (l : List SServer) (k : Int) => 0 ≤ k ∧ (markL mkServer l k).2 ≤ 4000000000000000000, fun (l : List SServer) (k : Int) => markL mkServer l k⟩
def fheldServerS : Fct := ⟨[aL .server, aI], [rI], fun (x : List SServer × Int × Unit) => 0 ≤ x.2.1 ∧ (markL mkServer x.1 x.2.1).2 ≤ 4000000000000000000 ∧ (markL mkServer x.1 x.2.1).1 = x.1, fun (x : List SServer × Int × Unit) => ((markL mkServer x.1 x.2.1).2, ())⟩
def fszEntry : Fct := ⟨[aE .entry, aI], [rI], fun (x : SEntry × Int × Unit) => Sh.good (.el .entry) x.1 ∧ 0 ≤ x.2.1 ∧ x.2.1 ≤ 1048576, fun (x : SEntry × Int × Unit) => (lessen x.2.1 (szEntry x.1), ())⟩
def ftoEntry : Fct := ⟨[aE .entry], [rE .entry], fun (x : SEntry × Unit) => szEntry x.1 ≤ 1048576, fun (x : SEntry × Unit) => (x.1, ())⟩
def feqEntry : Fct := ⟨[aE .entry, aE .entry], [rB], fun x => True, fun (x : SEntry × SEntry × Unit) => (decide (x.1 = x.2.1), ())⟩
def fszEntryS : Fct := ⟨[aL .entry, aI], [rI], fun (x : List SEntry × Int × Unit) => Sh.good (.sl .entry) x.1 ∧ 0 ≤ x.2.1 ∧ x.2.1 ≤ 1048576, fun (x : List SEntry × Int × Unit) => (lessen x.2.1 (szL szEntry x.1), ())⟩
def ftoEntryS : Fct := ⟨[aL .entry], [rL .entry], fun (x : List SEntry × Unit) => szL szEntry x.1 ≤ 1048576, fun (x : List SEntry × Unit) => (x.1, ())⟩
def feqEntryS : Fct := ⟨[aL .entry, aL .entry], [rB], fun (x : List SEntry × List SEntry × Unit) => x.1.length ≤ 4000000000000000000, fun (x : List SEntry × List SEntry × Unit) => (decide (x.1 = x.2.1), ())⟩
def fmarkEntryS : MS := ⟨.sl .entry, fun (l : List SEntry) (k : Int) => 0 ≤ k ∧ (markL mkEntry l k).2 ≤ 4000000000000000000, fun (l : List SEntry) (k : Int) => markL mkEntry l k⟩
def fheldEntryS : Fct := ⟨[aL .entry, aI], [rI], fun (x : List SEntry × Int × Unit) => 0 ≤ x.2.1 ∧ (markL mkEntry x.1 x.2.1).2 ≤ 4000000000000000000 ∧ (markL mkEntry x.1 x.2.1).1 = x.1, fun (x : List SEntry × Int × Unit) => ((markL mkEntry x.1 x.2.1).2, ())⟩
def fszCache : Fct := ⟨[aE .cache, aI], [rI], fun (x : SCache × Int × Unit) => Sh.good (.el .cache) x.1 ∧ 0 ≤ x.2.1 ∧ x.2.1 ≤ 1048576, fun (x : SCache × Int × Unit) => (lessen x.2.1 (szCache x.1), ())⟩
def ftoCache : Fct := ⟨[aE .cache], [rE .cache], fun (x : SCache × Unit) => szCache x.1 ≤ 1048576, fun (x : SCache × Unit) => (x.1, ())⟩
def feqCache : Fct := ⟨[aE .cache, aE .cache], [rB], fun (x : SCache × SCache × Unit) => szCache x.1 ≤ 1125899906842624, fun (x : SCache × SCache × Unit) => (decide (x.1 = x.2.1), ())⟩
def fmarkCache : MS := ⟨.el .cache, fun (x : SCache) (k : Int) => 0 ≤ k ∧ (mvCache x k).2 ≤ 4000000000000000000, fun (x : SCache) (k : Int) => mvCache x k⟩
def fheldCache : Fct := ⟨[aE .cache, aI], [rI], fun (x : SCache × Int × Unit) => 0 ≤ x.2.1 ∧ (mvCache x.1 x.2.1).2 ≤ 4000000000000000000 ∧ (mvCache x.1 x.2.1).1 = x.1, fun (x : SCache × Int × Unit) => ((mvCache x.1 x.2.1).2, ())⟩
def fszSent : Fct := ⟨[aE .sent, aI], [rI], fun (x : SSent × Int × Unit) => Sh.good (.el .sent) x.1 ∧ 0 ≤ x.2.1 ∧ x.2.1 ≤ 1048576, fun (x : SSent × Int × Unit) => (lessen x.2.1 (szSent x.1), ())⟩
def ftoSent : Fct := ⟨[aE .sent], [rE .sent], fun (x : SSent × Unit) => szSent x.1 ≤ 1048576, fun (x : SSent × Unit) => (x.1, ())⟩
def feqSent : Fct := ⟨[aE .sent, aE .sent], [rB], fun x => True, fun (x : SSent × SSent × Unit) => (decide (x.1 = x.2.1), ())⟩
def fszSentS : Fct := ⟨[aL .sent, aI], [rI], fun (x : List SSent × Int × Unit) => Sh.good (.sl .sent) x.1 ∧ 0 ≤ x.2.1 ∧ x.2.1 ≤ 1048576, fun (x : List SSent × Int × Unit) => (lessen x.2.1 (szL szSent x.1), ())⟩
def ftoSentS : Fct := ⟨[aL .sent], [rL .sent], fun (x : List SSent × Unit) => szL szSent x.1 ≤ 1048576, fun (x : List SSent × Unit) => (x.1, ())⟩
def feqSentS : Fct := ⟨[aL .sent, aL .sent], [rB], fun (x : List SSent × List SSent × Unit) => x.1.length ≤ 4000000000000000000, fun (x : List SSent × List SSent × Unit) => (decide (x.1 = x.2.1), ())⟩
def fmarkSentS : MS := ⟨.sl .sent, fun (l : List SSent) (k : Int) => 0 ≤ k ∧ (markL mkSent l k).2 ≤ 4000000000000000000, fun (l : List SSent) (k : Int) => markL mkSent l k⟩
def fheldSentS : Fct := ⟨[aL .sent, aI], [rI], fun (x : List SSent × Int × Unit) => 0 ≤ x.2.1 ∧ (markL mkSent x.1 x.2.1).2 ≤ 4000000000000000000 ∧ (markL mkSent x.1 x.2.1).1 = x.1, fun (x : List SSent × Int × Unit) => ((markL mkSent x.1 x.2.1).2, ())⟩
def fszNet : Fct := ⟨[aE .net, aI], [rI], fun (x : SNet × Int × Unit) => Sh.good (.el .net) x.1 ∧ 0 ≤ x.2.1 ∧ x.2.1 ≤ 1048576, fun (x : SNet × Int × Unit) => (lessen x.2.1 (szNet x.1), ())⟩
def ftoNet : Fct := ⟨[aE .net], [rE .net], fun (x : SNet × Unit) => szNet x.1 ≤ 1048576, fun (x : SNet × Unit) => (x.1, ())⟩
def feqNet : Fct := ⟨[aE .net, aE .net], [rB], fun (x : SNet × SNet × Unit) => szNet x.1 ≤ 1125899906842624, fun (x : SNet × SNet × Unit) => (decide (x.1 = x.2.1), ())⟩
def fmarkNet : MS := ⟨.el .net, fun (x : SNet) (k : Int) => 0 ≤ k ∧ (mvNet x k).2 ≤ 4000000000000000000, fun (x : SNet) (k : Int) => mvNet x k⟩
def fheldNet : Fct := ⟨[aE .net, aI], [rI], fun (x : SNet × Int × Unit) => 0 ≤ x.2.1 ∧ (mvNet x.1 x.2.1).2 ≤ 4000000000000000000 ∧ (mvNet x.1 x.2.1).1 = x.1, fun (x : SNet × Int × Unit) => ((mvNet x.1 x.2.1).2, ())⟩
def fszSlot : Fct := ⟨[aE .slot, aI], [rI], fun (x : SSlot × Int × Unit) => Sh.good (.el .slot) x.1 ∧ 0 ≤ x.2.1 ∧ x.2.1 ≤ 1048576, fun (x : SSlot × Int × Unit) => (lessen x.2.1 (szSlot x.1), ())⟩
def ftoSlot : Fct := ⟨[aE .slot], [rE .slot], fun (x : SSlot × Unit) => szSlot x.1 ≤ 1048576, fun (x : SSlot × Unit) => (x.1, ())⟩
def feqSlot : Fct := ⟨[aE .slot, aE .slot], [rB], fun x => True, fun (x : SSlot × SSlot × Unit) => (decide (x.1 = x.2.1), ())⟩
def fszSlotS : Fct := ⟨[aL .slot, aI], [rI], fun (x : List SSlot × Int × Unit) => Sh.good (.sl .slot) x.1 ∧ 0 ≤ x.2.1 ∧ x.2.1 ≤ 1048576, fun (x : List SSlot × Int × Unit) => (lessen x.2.1 (szL szSlot x.1), ())⟩
def ftoSlotS : Fct := ⟨[aL .slot], [rL .slot], fun (x : List SSlot × Unit) => szL szSlot x.1 ≤ 1048576, fun (x : List SSlot × Unit) => (x.1, ())⟩
def feqSlotS : Fct := ⟨[aL .slot, aL .slot], [rB], fun (x : List SSlot × List SSlot × Unit) => x.1.length ≤ 4000000000000000000, fun (x : List SSlot × List SSlot × Unit) => (decide (x.1 = x.2.1), ())⟩
def fmarkSlotS : MS := ⟨.sl .slot, fun (l : List SSlot) (k : Int) => 0 ≤ k ∧ (markL mkSlot l k).2 ≤ 4000000000000000000, fun (l : List SSlot) (k : Int) => markL mkSlot l k⟩
def fheldSlotS : Fct := ⟨[aL .slot, aI], [rI], fun (x : List SSlot × Int × Unit) => 0 ≤ x.2.1 ∧ (markL mkSlot x.1 x.2.1).2 ≤ 4000000000000000000 ∧ (markL mkSlot x.1 x.2.1).1 = x.1, fun (x : List SSlot × Int × Unit) => ((markL mkSlot x.1 x.2.1).2, ())⟩
def fszModule : Fct := ⟨[aE .module, aI], [rI], fun (x : SModule × Int × Unit) => Sh.good (.el .module) x.1 ∧ 0 ≤ x.2.1 ∧ x.2.1 ≤ 1048576, fun (x : SModule × Int × Unit) => (lessen x.2.1 (szModule x.1), ())⟩
def ftoModule : Fct := ⟨[aE .module], [rE .module], fun (x : SModule × Unit) => szModule x.1 ≤ 1048576, fun (x : SModule × Unit) => (x.1, ())⟩
def feqModule : Fct := ⟨[aE .module, aE .module], [rB], fun x => True, fun (x : SModule × SModule × Unit) => (decide (x.1 = x.2.1), ())⟩
def fszModuleS : Fct := ⟨[aL .module, aI], [rI], fun (x : List SModule × Int × Unit) => Sh.good (.sl .module) x.1 ∧ 0 ≤ x.2.1 ∧ x.2.1 ≤ 1048576, fun (x : List SModule × Int × Unit) => (lessen x.2.1 (szL szModule x.1), ())⟩
def ftoModuleS : Fct := ⟨[aL .module], [rL .module], fun (x : List SModule × Unit) => szL szModule x.1 ≤ 1048576, fun (x : List SModule × Unit) => (x.1, ())⟩
def feqModuleS : Fct := ⟨[aL .module, aL .module], [rB], fun (x : List SModule × List SModule × Unit) => x.1.length ≤ 4000000000000000000, fun (x : List SModule × List SModule × Unit) => (decide (x.1 = x.2.1), ())⟩
def fmarkModuleS : MS := ⟨.sl .module, fun (l : List SModule) (k : Int) => 0 ≤ k ∧ (markL mkModule l k).2 ≤ 4000000000000000000, fun (l : List SModule) (k : Int) => markL mkModule l k⟩
def fheldModuleS : Fct := ⟨[aL .module, aI], [rI], fun (x : List SModule × Int × Unit) => 0 ≤ x.2.1 ∧ (markL mkModule x.1 x.2.1).2 ≤ 4000000000000000000 ∧ (markL mkModule x.1 x.2.1).1 = x.1, fun (x : List SModule × Int × Unit) => ((markL mkModule x.1 x.2.1).2, ())⟩
def fszPage : Fct := ⟨[aE .page, aI], [rI], fun (x : SPage × Int × Unit) => Sh.good (.el .page) x.1 ∧ 0 ≤ x.2.1 ∧ x.2.1 ≤ 1048576, fun (x : SPage × Int × Unit) => (lessen x.2.1 (szPage x.1), ())⟩
def ftoPage : Fct := ⟨[aE .page], [rE .page], fun (x : SPage × Unit) => szPage x.1 ≤ 1048576, fun (x : SPage × Unit) => (x.1, ())⟩
def feqPage : Fct := ⟨[aE .page, aE .page], [rB], fun (x : SPage × SPage × Unit) => szPage x.1 ≤ 1125899906842624, fun (x : SPage × SPage × Unit) => (decide (x.1 = x.2.1), ())⟩
def fmarkPage : MS := ⟨.el .page, fun (x : SPage) (k : Int) => 0 ≤ k ∧ (mvPage x k).2 ≤ 4000000000000000000, fun (x : SPage) (k : Int) => mvPage x k⟩
def fheldPage : Fct := ⟨[aE .page, aI], [rI], fun (x : SPage × Int × Unit) => 0 ≤ x.2.1 ∧ (mvPage x.1 x.2.1).2 ≤ 4000000000000000000 ∧ (mvPage x.1 x.2.1).1 = x.1, fun (x : SPage × Int × Unit) => ((mvPage x.1 x.2.1).2, ())⟩
def fszGuess : Fct := ⟨[aE .guess, aI], [rI], fun (x : SGuess × Int × Unit) => Sh.good (.el .guess) x.1 ∧ 0 ≤ x.2.1 ∧ x.2.1 ≤ 1048576, fun (x : SGuess × Int × Unit) => (lessen x.2.1 (szGuess x.1), ())⟩
def ftoGuess : Fct := ⟨[aE .guess], [rE .guess], fun (x : SGuess × Unit) => szGuess x.1 ≤ 1048576, fun (x : SGuess × Unit) => (x.1, ())⟩
def feqGuess : Fct := ⟨[aE .guess, aE .guess], [rB], fun x => True, fun (x : SGuess × SGuess × Unit) => (decide (x.1 = x.2.1), ())⟩
def fszGuessS : Fct := ⟨[aL .guess, aI], [rI], fun (x : List SGuess × Int × Unit) => Sh.good (.sl .guess) x.1 ∧ 0 ≤ x.2.1 ∧ x.2.1 ≤ 1048576, fun (x : List SGuess × Int × Unit) => (lessen x.2.1 (szL szGuess x.1), ())⟩
def ftoGuessS : Fct := ⟨[aL .guess], [rL .guess], fun (x : List SGuess × Unit) => szL szGuess x.1 ≤ 1048576, fun (x : List SGuess × Unit) => (x.1, ())⟩
def feqGuessS : Fct := ⟨[aL .guess, aL .guess], [rB], fun (x : List SGuess × List SGuess × Unit) => x.1.length ≤ 4000000000000000000, fun (x : List SGuess × List SGuess × Unit) => (decide (x.1 = x.2.1), ())⟩
def fmarkGuessS : MS := ⟨.sl .guess, fun (l : List SGuess) (k : Int) => 0 ≤ k ∧ (markL mkGuess l k).2 ≤ 4000000000000000000, fun (l : List SGuess) (k : Int) => markL mkGuess l k⟩
def fheldGuessS : Fct := ⟨[aL .guess, aI], [rI], fun (x : List SGuess × Int × Unit) => 0 ≤ x.2.1 ∧ (markL mkGuess x.1 x.2.1).2 ≤ 4000000000000000000 ∧ (markL mkGuess x.1 x.2.1).1 = x.1, fun (x : List SGuess × Int × Unit) => ((markL mkGuess x.1 x.2.1).2, ())⟩
def fszConn : Fct := ⟨[aE .conn, aI], [rI], fun (x : SConn × Int × Unit) => Sh.good (.el .conn) x.1 ∧ 0 ≤ x.2.1 ∧ x.2.1 ≤ 1048576, fun (x : SConn × Int × Unit) => (lessen x.2.1 (szConn x.1), ())⟩
def ftoConn : Fct := ⟨[aE .conn], [rE .conn], fun (x : SConn × Unit) => szConn x.1 ≤ 1048576, fun (x : SConn × Unit) => (x.1, ())⟩
def feqConn : Fct := ⟨[aE .conn, aE .conn], [rB], fun x => True, fun (x : SConn × SConn × Unit) => (decide (x.1 = x.2.1), ())⟩
def fszConnS : Fct := ⟨[aL .conn, aI], [rI], fun (x : List SConn × Int × Unit) => Sh.good (.sl .conn) x.1 ∧ 0 ≤ x.2.1 ∧ x.2.1 ≤ 1048576, fun (x : List SConn × Int × Unit) => (lessen x.2.1 (szL szConn x.1), ())⟩
def ftoConnS : Fct := ⟨[aL .conn], [rL .conn], fun (x : List SConn × Unit) => szL szConn x.1 ≤ 1048576, fun (x : List SConn × Unit) => (x.1, ())⟩
def feqConnS : Fct := ⟨[aL .conn, aL .conn], [rB], fun (x : List SConn × List SConn × Unit) => x.1.length ≤ 4000000000000000000, fun (x : List SConn × List SConn × Unit) => (decide (x.1 = x.2.1), ())⟩
def fmarkConnS : MS := ⟨.sl .conn, fun (l : List SConn) (k : Int) => 0 ≤ k ∧ (markL mkConn l k).2 ≤ 4000000000000000000, fun (l : List SConn) (k : Int) => markL mkConn l k⟩
def fheldConnS : Fct := ⟨[aL .conn, aI], [rI], fun (x : List SConn × Int × Unit) => 0 ≤ x.2.1 ∧ (markL mkConn x.1 x.2.1).2 ≤ 4000000000000000000 ∧ (markL mkConn x.1 x.2.1).1 = x.1, fun (x : List SConn × Int × Unit) => ((markL mkConn x.1 x.2.1).2, ())⟩
def fszLoader : Fct := ⟨[aE .loader, aI], [rI], fun (x : SLoader × Int × Unit) => Sh.good (.el .loader) x.1 ∧ 0 ≤ x.2.1 ∧ x.2.1 ≤ 1048576, fun (x : SLoader × Int × Unit) => (lessen x.2.1 (szLoader x.1), ())⟩
def ftoLoader : Fct := ⟨[aE .loader], [rE .loader], fun (x : SLoader × Unit) => szLoader x.1 ≤ 1048576, fun (x : SLoader × Unit) => (x.1, ())⟩
def feqLoader : Fct := ⟨[aE .loader, aE .loader], [rB], fun (x : SLoader × SLoader × Unit) => szLoader x.1 ≤ 1125899906842624, fun (x : SLoader × SLoader × Unit) => (decide (x.1 = x.2.1), ())⟩
def fmarkLoader : MS := ⟨.el .loader, fun (x : SLoader) (k : Int) => 0 ≤ k ∧ (mvLoader x k).2 ≤ 4000000000000000000, fun (x : SLoader) (k : Int) => mvLoader x k⟩
def fheldLoader : Fct := ⟨[aE .loader, aI], [rI], fun (x : SLoader × Int × Unit) => 0 ≤ x.2.1 ∧ (mvLoader x.1 x.2.1).2 ≤ 4000000000000000000 ∧ (mvLoader x.1 x.2.1).1 = x.1, fun (x : SLoader × Int × Unit) => ((mvLoader x.1 x.2.1).2, ())⟩
theorem mvLoader_re (x : SLoader) (k : Int) : { net := { servers := (mvLoader x k).1.net.servers, cache := (mvLoader x k).1.net.cache, log := (mvLoader x k).1.net.log, now := x.net.now : SNet }, page := { addr := x.page.addr, policy := { set_ := x.page.policy.set_, scripts := (mvLoader x k).1.page.policy.scripts, styles := (mvLoader x k).1.page.policy.styles, images := (mvLoader x k).1.page.policy.images, nonce := x.page.policy.nonce : SPolicy }, tok := x.page.tok, queue := (mvLoader x k).1.page.queue, ended := x.page.ended, builder := (mvLoader x k).1.page.builder, slots := (mvLoader x k).1.page.slots, mods := (mvLoader x k).1.page.mods, entries := (mvLoader x k).1.page.entries, block := x.page.block, inline := x.page.inline, deferred := x.page.deferred, entered := x.page.entered, ran := (mvLoader x k).1.page.ran, log := (mvLoader x k).1.page.log, loaded := x.page.loaded : SPage }, parts := (mvLoader x k).1.parts, conns := (mvLoader x k).1.conns, guesses := (mvLoader x k).1.guesses : SLoader } = (mvLoader x k).1 := rfl
end Go.D
namespace Go.D
theorem room_eq (a b : Nat) : Room a b = (a * b ≤ 140737488355328) := rfl
theorem std1 : (∀ {p : Prop} [inst : Decidable p], (decide p = true) = p) ∧ (∀ {p : Prop} {x : Decidable p}, decide p = false ↔ ¬p) ∧ (∀ (b : Bool), ((!b) = true) = (b = false)) ∧ (∀ (b : Bool), ((!b) = false) = (b = true)) ∧
    (∀ {α : Type} [inst : BEq α] [LawfulBEq α] {a b : α}, (a != b) = true ↔ a ≠ b) ∧ (∀ {α : Type} [inst : BEq α] [LawfulBEq α] {a b : α}, (a != b) = false ↔ a = b) ∧ (∀ {α : Type} [inst : BEq α] [LawfulBEq α] {a b : α}, (a == b) = true ↔ a = b) ∧
    (∀ {α : Type} [inst : BEq α] [LawfulBEq α] {a b : α}, (a == b) = false ↔ a ≠ b) ∧ (∀ (a b : ByteArray), (a.toList == b.toList) = decide (a = b)) ∧ (∀ {a b : Int}, ¬a < b ↔ b ≤ a) ∧ (∀ {a b : Int}, ¬a ≤ b ↔ b < a) ∧ (∀ {p : Prop} [Decidable p], ¬¬p ↔ p) ∧ (∀ x, wr x = IntKind.i64.wrap x) ∧ (∀ x, w1 x = IntKind.i64.wrap (x + 1)) ∧ ∀ i n, inB i n = (0 ≤ i ∧ i < (n : Int)) :=
  ⟨@decide_eq_true_eq, @decide_eq_false_iff_not, @Bool.not_eq_true', @Bool.not_eq_false', @bne_iff_ne, @bne_eq_false_iff_eq, @beq_iff_eq, @beq_eq_false_iff_ne, @baEq, @Int.not_lt, @Int.not_le, @Decidable.not_not, fun _ => rfl, fun _ => rfl, fun _ _ => rfl⟩
theorem std2 : (∀ (a : Array UInt8), ByteArray.size { data := a } = a.size) ∧ (∀ {α : Type} {as : List α}, as.toArray.size = as.length) ∧ (∀ {α : Type} {a : α} {as : List α}, (a :: as).length = as.length + 1) ∧ (∀ {α : Type}, ([] : List α).length = 0) ∧
    Int.toNat 0 = 0 ∧ (∀ {α : Type} {l : List α}, List.drop 0 l = l) ∧ (∀ (b : Bool), (¬b = true) = (b = false)) ∧ (∀ (b : Bool), (¬b = false) = (b = true)) ∧ (∀ {p : Prop} [g : Decidable p] [h : Decidable ¬p], (decide ¬p) = !decide p) ∧
    (∀ {α β : Type} (a : α) (b : β) (c : α) (d : β), ((a, b) = (c, d)) = (a = c ∧ b = d)) ∧ (∀ (p : Prop), (p ∧ True) = p) ∧ (∀ (p : Prop), (True ∧ p) = p) ∧ (∀ (a b : Nat), Room a b = (a * b ≤ 140737488355328)) ∧
    (∀ {α : Type} (as : List α), [] ++ as = as) ∧ ∀ (n : Nat), 0 + n = n :=
  ⟨@baSz, @List.size_toArray, @List.length_cons, @List.length_nil, Int.toNat_zero, @List.drop_zero, @Bool.not_eq_true, @Bool.not_eq_false, @decide_not, @Prod.mk.injEq, @and_true, @true_and, room_eq, @List.nil_append, @Nat.zero_add⟩
theorem etaS : (∀ x : SToken, (⟨x.kind, x.name, x.attrs, x.text⟩ : SToken) = x) ∧ (∀ x : SNode, (⟨x.name, x.text, x.parent, x.attrs⟩ : SNode) = x) ∧ (∀ x : SBuilder, (⟨x.nodes, x.open_⟩ : SBuilder) = x) ∧ (∀ x : SPolicy, (⟨x.set_, x.scripts, x.styles, x.images, x.nonce⟩ : SPolicy) = x) ∧ (∀ x : SPage, (⟨x.addr, x.policy, x.tok, x.queue, x.ended, x.builder, x.slots, x.mods, x.entries, x.block, x.inline, x.deferred, x.entered, x.ran, x.log, x.loaded⟩ : SPage) = x) ∧ (∀ x : SVisit, (⟨x.addr, x.page, x.kept⟩ : SVisit) = x) ∧ (∀ x : STab, (⟨x.visits, x.at_⟩ : STab) = x) ∧ (∀ x : SServer, (⟨x.host, x.files⟩ : SServer) = x) ∧ (∀ x : SCache, (⟨x.entries⟩ : SCache) = x) ∧ (∀ x : SNet, (⟨x.servers, x.cache, x.log, x.now⟩ : SNet) = x) ∧ (∀ x : SLoader, (⟨x.net, x.page, x.parts, x.conns, x.guesses⟩ : SLoader) = x) ∧ (∀ x : SSheet, (⟨x.rules⟩ : SSheet) = x) ∧ (∀ x : SResult, (⟨x.builder, x.log, x.verdicts, x.sheet, x.loaded⟩ : SResult) = x) ∧ (∀ x : SSlot, (⟨x.mode, x.to, x.digest, x.node, x.done, x.code, x.body⟩ : SSlot) = x) ∧ (∀ x : SModule, (⟨x.to, x.done, x.code, x.body⟩ : SModule) = x) ∧ (∀ x : SAddr, (⟨x.host, x.path⟩ : SAddr) = x) ∧ (∀ x : SRequest, (⟨x.kind, x.to, x.from_, x.digest⟩ : SRequest) = x) ∧ (∀ x : SResponse, (⟨x.status, x.kind, x.body, x.age, x.shares, x.policy⟩ : SResponse) = x) ∧ (∀ x : SConn, (⟨x.to, x.left, x.guess, x.response⟩ : SConn) = x) ∧ (∀ x : SGuess, (⟨x.to, x.response, x.used⟩ : SGuess) = x) ∧ (∀ x : SEntry, (⟨x.top, x.to, x.response, x.until_⟩ : SEntry) = x) ∧ (∀ x : SSent, (⟨x.top, x.to, x.guess⟩ : SSent) = x) ∧ (∀ x : SFile, (⟨x.path, x.response⟩ : SFile) = x) :=
  ⟨etaToken, etaNode, etaBuilder, etaPolicy, etaPage, etaVisit, etaTab, etaServer, etaCache, etaNet, etaLoader, etaSheet, etaResult, etaSlot, etaModule, etaAddr, etaRequest, etaResponse, etaConn, etaGuess, etaEntry, etaSent, etaFile⟩
theorem std0 : (type_of% @std1) ∧ ∀ {α : Type} (a b : α), (a ≠ b) = ¬a = b := ⟨std1, fun _ _ => rfl⟩
theorem std : (type_of% @etaS) ∧ (type_of% @std1) ∧ (type_of% @std2) ∧ ∀ {α : Type} (a b : α), (a ≠ b) = ¬a = b := ⟨etaS, std1, std2, fun _ _ => rfl⟩
theorem stdW : (∀ x, wr x = IntKind.i64.wrap x) ∧ (∀ x, w1 x = IntKind.i64.wrap (x + 1)) ∧ ∀ i n, inB i n = (0 ≤ i ∧ i < (n : Int)) := ⟨fun _ => rfl, fun _ => rfl, fun _ _ => rfl⟩
end Go.D
namespace Go.D
def splL (b : UInt8) : List UInt8 → List (List UInt8)
  | [] => [[]]
  | x :: l => if x = b then [] :: splL b l else match splL b l with
    | [] => [[x]]
    | h :: t => (x :: h) :: t
theorem splL_ne (b : UInt8) (l : List UInt8) : splL b l ≠ [] := by
  cases l with
  | nil => simp [splL]
  | cons x l => unfold splL; split; · simp
                split <;> simp
def glueL (p : List UInt8) : List (List UInt8) → List (List UInt8)
  | [] => [p]
  | h :: t => (p ++ h) :: t
theorem glueL_nil {l : List (List UInt8)} (h : l ≠ []) : glueL [] l = l := by
  cases l with
  | nil => exact absurd rfl h
  | cons x l => rfl
theorem splL_cons (b x : UInt8) (l : List UInt8) : splL b (x :: l) = if x = b then [] :: splL b l else glueL [x] (splL b l) := by
  rw [splL]
  split
  · rfl
  · have := splL_ne b l
    cases h : splL b l with
    | nil => exact absurd h this
    | cons y t => rfl
theorem glueL_glueL (p q : List UInt8) {l : List (List UInt8)} (h : l ≠ []) : glueL p (glueL q l) = glueL (p ++ q) l := by
  cases l with
  | nil => exact absurd rfl h
  | cons x l => simp [glueL]
theorem glueL_cons (p h : List UInt8) (t : List (List UInt8)) : glueL p (h :: t) = (p ++ h) :: t := rfl
theorem splL_app {b : UInt8} : ∀ {p : List UInt8} (l : List UInt8), b ∉ p → splL b (p ++ b :: l) = p :: splL b l
  | [], l, _ => by rw [List.nil_append, splL_cons, if_pos rfl]
  | x :: p, l, h => by
    simp only [List.mem_cons, not_or] at h
    rw [List.cons_append, splL_cons, if_neg (fun e => h.1 e.symm), splL_app l h.2]; rfl
theorem splL_none {b : UInt8} : ∀ {p : List UInt8}, b ∉ p → splL b p = [p]
  | [], _ => rfl
  | x :: p, h => by
    simp only [List.mem_cons, not_or] at h
    rw [splL_cons, if_neg (fun e => h.1 e.symm), splL_none h.2]; rfl
theorem splL_len (b : UInt8) : ∀ l : List UInt8, (splL b l).length ≤ l.length + 1 ∧ ∀ p ∈ splL b l, p.length ≤ l.length
  | [] => by simp [splL]
  | x :: l => by
    obtain ⟨h1, h2⟩ := splL_len b l
    rw [splL_cons]
    split
    · refine ⟨by simp only [List.length_cons]; omega, fun p hp => ?_⟩
      rcases List.mem_cons.1 hp with rfl | hp
      · simp
      · have := h2 p hp; simp only [List.length_cons]; omega
    · cases h : splL b l with
      | nil => exact absurd h (splL_ne b l)
      | cons y t =>
        rw [h] at h1 h2
        refine ⟨by simp only [glueL, List.length_cons] at h1 ⊢; omega, fun p hp => ?_⟩
        simp only [glueL, List.mem_cons] at hp
        rcases hp with rfl | hp
        · have := h2 y List.mem_cons_self; simp only [List.length_append, List.length_cons, List.length_nil]; omega
        · have := h2 p (List.mem_cons_of_mem _ hp); simp only [List.length_cons]; omega
def ofL (l : List UInt8) : ByteArray := ⟨l.toArray⟩
def toL (s : ByteArray) : List UInt8 := s.data.toList
theorem ofL_toL (s : ByteArray) : ofL (toL s) = s := by simp [ofL, toL]
theorem toL_len (s : ByteArray) : (toL s).length = s.size := rfl
theorem ofL_size (l : List UInt8) : (ofL l).size = l.length := by simp [ofL, ByteArray.size]
theorem toL_append (s t : ByteArray) : toL (s ++ t) = toL s ++ toL t := by simp [toL]
theorem toL_extract (s : ByteArray) (a b : Nat) : toL (s.extract a b) = ((toL s).take b).drop a := by
  simp [toL, List.drop_take]
def spl (b : UInt8) (s : ByteArray) : List ByteArray := (splL b (toL s)).map ofL
def splAt (b : UInt8) (s : ByteArray) (a i : Nat) : List ByteArray := if i ≤ s.size then (glueL (((toL s).take i).drop a) (splL b ((toL s).drop i))).map ofL else []
theorem splAt_zero (b : UInt8) (s : ByteArray) : splAt b s 0 0 = spl b s := by
  unfold splAt spl
  rw [if_pos (Nat.zero_le _)]
  simp [glueL_nil (splL_ne b _)]
theorem splAt_end (b : UInt8) {s : ByteArray} {a i : Nat} (h : s.size < i) : splAt b s a i = [] := by
  unfold splAt; rw [if_neg (by omega)]
theorem splAt_last (b : UInt8) {s : ByteArray} {a i : Nat} (h : i = s.size) : splAt b s a i = [s.extract a i] := by
  subst h
  unfold splAt
  rw [if_pos (Nat.le_refl _), List.drop_of_length_le (l := toL s) (i := s.size) (by rw [toL_len]; exact Nat.le_refl _)]
  rw [splL, glueL_cons, List.append_nil, List.map_cons, ← toL_extract, ofL_toL]; rfl
theorem toL_drop {s : ByteArray} {i : Nat} (h : i < s.size) : (toL s).drop i = s.data.getD i 0 :: (toL s).drop (i + 1) := by
  have h2 : i < s.data.size := h
  have e : s.data.getD i 0 = s.data[i] := by unfold Array.getD; rw [dif_pos h2]; rfl
  rw [List.drop_eq_getElem_cons (by rw [toL_len]; exact h), e]
  rfl
theorem splAt_hit {b : UInt8} {s : ByteArray} {a i : Nat} (h : i < s.size) (hb : s.data.getD i 0 = b) : splAt b s a i = s.extract a i :: splAt b s (i + 1) (i + 1) := by
  unfold splAt
  rw [if_pos (by omega), if_pos (by omega), toL_drop h, splL_cons, if_pos hb]
  rw [glueL_cons, List.append_nil, List.map_cons, ← toL_extract, ofL_toL, List.drop_of_length_le (l := (toL s).take (i + 1)) (i := i + 1) (by rw [List.length_take]; omega), glueL_nil (splL_ne b _)]
theorem splAt_miss {b : UInt8} {s : ByteArray} {a i : Nat} (h : i < s.size) (ha : a ≤ i) (hb : s.data.getD i 0 ≠ b) : splAt b s a i = splAt b s a (i + 1) := by
  unfold splAt
  rw [if_pos (by omega), if_pos (by omega), toL_drop h, splL_cons, if_neg hb, glueL_glueL _ _ (splL_ne b _)]
  congr 2
  have : (toL s).take (i + 1) = (toL s).take i ++ [s.data.getD i 0] := by
    have h2 : i < s.data.size := h
    have e : s.data.getD i 0 = s.data[i] := by unfold Array.getD; rw [dif_pos h2]; rfl
    rw [List.take_succ_eq_append_getElem (by rw [toL_len]; exact h), e]
    rfl
  rw [this, List.drop_append_of_le_length (by rw [List.length_take, toL_len]; omega)]
theorem splL_sum (b : UInt8) : ∀ l : List UInt8, ((splL b l).map fun p => p.length + 1).sum = l.length + 1
  | [] => rfl
  | x :: l => by
    have h := splL_sum b l
    rw [splL_cons]
    split
    · simp only [List.map_cons, List.sum_cons, List.length_nil, List.length_cons, h]; omega
    · cases hq : splL b l with
      | nil => exact absurd hq (splL_ne b l)
      | cons y t =>
        rw [hq] at h
        simp only [List.map_cons, List.sum_cons, glueL, List.length_append, List.length_cons, List.length_nil] at h ⊢
        omega
theorem spl_len (b : UInt8) (s : ByteArray) : 0 < (spl b s).length ∧ (spl b s).length ≤ s.size + 1 := by
  have h := splL_len b (toL s)
  have h2 := splL_ne b (toL s)
  rw [toL_len] at h
  unfold spl
  rw [List.length_map]
  exact ⟨List.length_pos_iff.2 h2, h.1⟩
theorem spl_mem {b : UInt8} {s x : ByteArray} (h : x ∈ spl b s) : x.size ≤ s.size := by
  unfold spl at h
  obtain ⟨p, hp, rfl⟩ := List.mem_map.1 h
  rw [ofL_size]
  exact (splL_len b (toL s)).2 p hp
def cutF (b : UInt8) : List UInt8 → Option (List UInt8 × List UInt8)
  | [] => none
  | x :: l => if x = b then some ([], l) else (cutF b l).map fun r => (x :: r.1, r.2)
theorem cutF_none {b : UInt8} : ∀ {l : List UInt8}, b ∉ l → cutF b l = none
  | [], _ => rfl
  | x :: l, h => by
    simp only [List.mem_cons, not_or] at h
    rw [cutF, if_neg (fun e => h.1 e.symm), cutF_none h.2]; rfl
theorem cutF_app {b : UInt8} : ∀ {p : List UInt8} (l : List UInt8), b ∉ p → cutF b (p ++ b :: l) = some (p, l)
  | [], l, _ => by rw [List.nil_append, cutF, if_pos rfl]
  | x :: p, l, h => by
    simp only [List.mem_cons, not_or] at h
    rw [List.cons_append, cutF, if_neg (fun e => h.1 e.symm), cutF_app l h.2]; rfl
theorem cutF_at {b : UInt8} {s : ByteArray} {i : Nat} (h : i < s.size) (hb : s.data.getD i 0 = b) (hn : b ∉ (toL s).take i) : cutF b (toL s) = some ((toL s).take i, (toL s).drop (i + 1)) := by
  have e : toL s = (toL s).take i ++ b :: (toL s).drop (i + 1) := by
    rw [← hb, ← toL_drop h, List.take_append_drop]
  rw [e, cutF_app _ hn, ← e]
theorem take_no {b : UInt8} {s : ByteArray} {i : Nat} (h : i < s.size) (hb : s.data.getD i 0 ≠ b) (hn : b ∉ (toL s).take i) : b ∉ (toL s).take (i + 1) := by
  have h2 : i < s.data.size := h
  have e : s.data.getD i 0 = s.data[i] := by unfold Array.getD; rw [dif_pos h2]; rfl
  rw [List.take_succ_eq_append_getElem (by rw [toL_len]; exact h), List.mem_append, not_or]
  refine ⟨hn, ?_⟩
  simp only [List.mem_singleton]
  intro h3
  exact hb (by rw [e]; exact h3.symm)
end Go.D
namespace Go.D
open Go.Sort
def pv : Ty → Bool
  | .int => true
  | .bool => true
  | .str => true
  | .u8 => true
  | _ => false
def vOf (t : Ty) (x : El t) : Value := match enc t x with
  | [.val v] => v
  | _ => undef
def argVals : (as : List Ak) → As as → List Value
  | [], _ => []
  | .v (.el t) :: as, x => vOf t x.1 :: argVals as x.2
  | _ :: as, x => undef :: argVals as x.2
def plainAs : List Ak → Bool
  | [] => true
  | .v (.el t) :: as => pv t && plainAs as
  | _ :: _ => false
def plainRs : List Sh → Bool
  | [] => true
  | .el t :: rs => pv t && plainRs rs
  | _ :: _ => false
def resVals : (rs : List Sh) → Ts rs → List Value
  | [], _ => []
  | .el t :: rs, x => vOf t x.1 :: resVals rs x.2
  | .sl _ :: rs, x => undef :: resVals rs x.2
def retOf : List Value → Value
  | [v] => v
  | vs => .tuple vs.toArray
theorem pv_enc {t : Ty} (h : pv t = true) (x : El t) : enc t x = [.val (vOf t x)] ∧ plain (vOf t x) = true ∧ (Sh.el t).agg = false := by
  cases t <;> first | exact ⟨rfl, rfl, rfl⟩ | cases h
theorem plain_args {w : World} {G : Gh} : ∀ (as : List Ak) (x : As as), plainAs as = true → ∀ (vs : List Value), vs.length = (canons as x).length → (∀ (j : Nat) (y : TV), (canons as x)[j]? = some y → ∃ v, vs[j]? = some v ∧ TVR w G y v) → vs = argVals as x := by
  intro as
  induction as with
  | nil => intro x _ vs hl _; exact List.eq_nil_of_length_eq_zero hl
  | cons a as ih =>
    intro x hp vs hl hh
    cases a with
    | v s =>
      cases s with
      | el t =>
        simp only [plainAs, Bool.and_eq_true] at hp
        obtain ⟨e1, e2, e3⟩ := pv_enc hp.1 x.1
        cases vs with
        | nil => simp [canons] at hl
        | cons v vs =>
          obtain ⟨v', hv, hr⟩ := hh 0 _ rfl
          simp only [List.getElem?_cons_zero, Option.some.injEq] at hv
          subst hv
          have hc : canon (.v (.el t)) x.1 = .v false [.sc (vOf t x.1)] := by
            show TV.v (Sh.el t).agg ((enc t x.1).map (toCell none)) = _
            rw [e1, e3]; rfl
          rw [hc] at hr
          obtain ⟨c, hc1, hc2⟩ := hr
          injection hc1 with hc1
          subst hc1
          rw [argVals, hc2.1, ih x.2 hp.2 vs (by simpa [canons] using hl) fun j y hj => hh (j + 1) y hj]
      | sl t => simp [plainAs] at hp
    | _ => simp [plainAs] at hp
theorem plain_parts : ∀ (rs : List Sh) (y : Ts rs), plainRs rs = true → mkParts rs y = (resVals rs y).map fun v => (false, [FC.val v]) := by
  intro rs
  induction rs with
  | nil => intro y _; rfl
  | cons s rs ih =>
    intro y hp
    cases s with
    | el t =>
      simp only [plainRs, Bool.and_eq_true] at hp
      obtain ⟨e1, e2, e3⟩ := pv_enc hp.1 y.1
      simp only [mkParts, resVals, List.map_cons, ih y.2 hp.2, e3]
      congr 2
    | sl t => simp [plainRs] at hp
theorem res_plain : ∀ (rs : List Sh) (y : Ts rs), plainRs rs = true → ∀ v ∈ resVals rs y, plain v = true := by
  intro rs
  induction rs with
  | nil => intro y _ v hv; cases hv
  | cons s rs ih =>
    intro y hp v hv
    cases s with
    | el t =>
      simp only [plainRs, Bool.and_eq_true] at hp
      rcases List.mem_cons.1 hv with rfl | hv
      · exact (pv_enc hp.1 y.1).2.1
      · exact ih y.2 hp.2 v hv
    | sl t => simp [plainRs] at hp
theorem res_of {w : World} : ∀ (vs : List Value), (∀ v ∈ vs, plain v = true) → ResR w (mkRes (vs.map fun v => (false, [FC.val v]))) (retOf vs) (fun _ _ _ => False)
  | [], _ => ⟨#[], rfl, rfl, by simp⟩
  | [v], h => by
    refine ⟨_, rfl, ⟨rfl, h v (by simp)⟩, plain_one (h v (by simp))⟩
  | v :: u :: vs, h => by
    refine ⟨(v :: u :: vs).toArray, rfl, by simp, fun i p hp => ?_⟩
    have hp : ((v :: u :: vs).map fun v => (false, [FC.val v]))[i]? = some p := hp
    rw [List.getElem?_map] at hp
    cases hq : (v :: u :: vs)[i]? with
    | none => rw [hq] at hp; cases hp
    | some x =>
      rw [hq] at hp
      injection hp with hp
      subst hp
      have := h x (List.mem_of_getElem? hq)
      exact ⟨x, by simpa using hq, _, rfl, ⟨rfl, this⟩, plain_one this⟩
theorem lib_ok {P : Program} {f : Nat} {S : Fct} (ha : plainAs S.as = true) (hr : plainRs S.rs = true)
    (h : ∀ x, S.pre x → ∀ (w : World) (ow : Nat → Own), Base P w ow → Calls P f (argVals S.as x).toArray w fun e w' => e = .returned (retOf (resVals S.rs (S.fn x))) ∧ ∃ n os, w' = grow (w.drewN n) os) : S.ok P f := by
  intro x hx w vs G hB hA
  have hvs : vs = (argVals S.as x).toArray := by
    have := plain_args (w := w) (G := G) S.as x ha vs.toList (by simpa [Fct.arg] using hA.sz) fun j y hj => by
      obtain ⟨v, hv, hr⟩ := hA.tm j y hj
      exact ⟨v, by simpa using hv, hr⟩
    rw [← this]
  subst hvs
  refine (h x hx w _ hB).mono ?_
  rintro e w' ⟨rfl, n, os, rfl⟩
  have hold : ∀ g, g < w.heap.size → (grow (w.drewN n) os).heap[g]? = w.heap[g]? := fun g hg => by
    rw [heap_grow_old _ _ (show g < (w.drewN n).heap.size from hg)]; rfl
  refine ⟨_, ⟨mkR S.rs (S.fn x), [], []⟩, rfl, rfl, ⟨rfl, rfl, ⟨rfl, by first | exact DrLe.refl _ | exact DrLe.succ _ | exact DrLe.add _ _⟩, ?_⟩, fun g hg => hold g (hA.lt g (by simp [hg])), fun g hg => (hA.cr g hg).same (hold g (hA.lt g (by simp [hg]))), fun _ _ => False, by simp, by simp, ?_, ?_, ?_⟩
  · show w.heap.size ≤ (w.heap ++ os).size
    simp
  · show ResR _ (mkRes (mkParts S.rs (S.fn x))) _ _
    rw [plain_parts _ _ hr]
    exact res_of _ (res_plain _ _ hr)
  · intro m T hm; cases hm
  · intro b cs hb; cases hb
theorem grow0 (w : World) : w = grow (w.drewN 0) #[] := by
  simp [grow, World.drewN]
end Go.D
