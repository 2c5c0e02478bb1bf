/-
  The ghost state of a call (slots, boxes, owned trees), the relation to the machine's frame and world, and the evaluator of operations.
-/
import Derived.Test.YtcgigcmleodjbaaVCb
namespace Go.D
set_option linter.unusedVariables false
inductive Cell where
  | sc (v : Value)
  | tt
  | ff
  | nil
  | ref (l : Nat)
  | sub (l k lo n : Nat)
  | im (s : Option Nat) (t : Ty) (xs : List (El t))
  | dead
instance : Inhabited Cell := ⟨.dead⟩
inductive Cap where
  | ptr (b : Nat)
  | aptr (cs : List FC)
inductive TV where
  | v (agg : Bool) (cs : List Cell)
  | tup (ps : List (Bool × List Cell))
  | ptr (b off : Nat)
  | eptr (l k i off : Nat)
  | sptr (s : Option Nat) (t : Ty) (x : El t) (off : Nat)
  | inn (l k i off : Nat) (t : Ty) (xs : List (El t))
  | capd (l c : Nat)
  | lit (b n : Nat) (t : Ty)
  | aptr (cs : List FC) (off : Nat)
  | clo (fn : Nat) (caps : List Cap)
  | cur
  | dead
instance : Inhabited TV := ⟨.dead⟩
structure Tree where
  t : Ty
  xs : List (El t)
def Tree.k (T : Tree) : Nat := T.t.width
def Tree.n (T : Tree) : Nat := T.xs.length
def Tree.f (T : Tree) (i j : Nat) : C := fcC (cell T.t T.xs i j)
theorem fcC_tree (T : Tree) : fcC (.l T.t T.xs) = .sl T.k T.n T.f := fcC_l T.t T.xs
structure St where
  nt : Nat
  tm : List (Nat × TV)
  bx : List (Nat × List Cell)
  hp : List (Nat × Tree)
  fb : List Nat
  fl : List Nat
def look {α : Type} : List (Nat × α) → Nat → Option α
  | [], _ => none
  | (s, v) :: r, t => if t == s then some v else look r t
def put {α : Type} : List (Nat × α) → Nat → α → List (Nat × α)
  | [], t, v => [(t, v)]
  | (s, u) :: r, t, v => if t == s then (s, v) :: r else (s, u) :: put r t v
theorem look_put {α : Type} (l : List (Nat × α)) (t s : Nat) (v : α) : look (put l t v) s = if s = t then some v else look l s := by
  induction l with
  | nil => simp only [put, look, beq_iff_eq]
  | cons p r ih =>
    obtain ⟨s', u⟩ := p
    simp only [put]
    by_cases h : t = s'
    · subst h
      simp only [BEq.rfl, if_true, look, beq_iff_eq]
      by_cases h2 : s = t <;> simp [h2]
    · have h0 : (t == s') = false := by simpa using h
      simp only [h0, Bool.false_eq_true, if_false, look, beq_iff_eq, ih]
      by_cases h2 : s = s'
      · subst h2; simp [Ne.symm h]
      · simp [h2]
/-- the ghost of a world -/
inductive Own where
  | gone
  | free
  | lab (l : Nat)
  | box (b : Nat)
  | cur
structure Gh where
  ow : Nat → Own
  be : Nat → Nat
  hv : Nat → Value
def src (G : Gh) : Option Nat → Nat → Prop
  | none, g => G.ow g = .free
  | some l, g => G.ow g = .lab l
def SubR (hv : Value) (k lo n : Nat) (v : Value) : Prop :=
  (∃ ad, hv = .slice ad 0 0 ∧ lo = 0 ∧ n = 0 ∧ v = .slice ad 0 0) ∨
  ∃ g o m cap o', hv = .slice (some ⟨g, o, none⟩) m cap ∧ lo + n ≤ cap ∧ v = .slice (some ⟨g, o', none⟩) n (cap - lo) ∧ (o' = o + lo * k ∨ (cap = lo ∧ o' ≤ o + cap * k))
def CellR (w : World) (G : Gh) : Cell → Value → Prop
  | .sc u, v => v = u ∧ plain u = true
  | .tt, v => v = .bool true
  | .ff, v => v = .bool false
  | .nil, v => v = .slice none 0 0
  | .ref l, v => v = G.hv l ∧ v.oneCell' = true
  | .sub l k lo n, v => SubR (G.hv l) k lo n v
  | .im s t xs, v => TR w (src G s) (fcC (.l t xs)) v
  | .dead, v => v.oneCell' = true
def CellsR (w : World) (G : Gh) (cs : List Cell) (vs : Array Value) : Prop := vs.size = cs.length ∧ ∀ (j : Nat) (c : Cell), cs[j]? = some c → ∃ u, vs[j]? = some u ∧ CellR w G c u
def PartR (w : World) (G : Gh) (agg : Bool) (cs : List Cell) (v : Value) : Prop :=
  match agg with
  | false => ∃ c, cs = [c] ∧ CellR w G c v
  | true => ∃ vs : Array Value, v = .agg vs ∧ CellsR w G cs vs
def ConsR (w : World) (G : Gh) (cs : List FC) (r : Array Value) : Prop := ∀ (j : Nat) (c : FC), cs[j]? = some c → ∃ u, r[j]? = some u ∧ TR w (src G none) (fcC c) u
def CapR (w : World) (G : Gh) : Cap → Value → Prop
  | .ptr b, v => v = .pointer (some ⟨G.be b, 0, none⟩)
  | .aptr cs, v => ∃ g r e fr, v = .pointer (some ⟨g, 0, none⟩) ∧ G.ow g = .free ∧ w.heap[g]? = some (.cells r e fr) ∧ ConsR w G cs r
def TVR (w : World) (G : Gh) : TV → Value → Prop
  | .v agg cs, v => PartR w G agg cs v
  | .tup ps, v => ∃ vs : Array Value, v = .tuple vs ∧ vs.size = ps.length ∧ ∀ (j : Nat) (p : Bool × List Cell), ps[j]? = some p → ∃ u, vs[j]? = some u ∧ PartR w G p.1 p.2 u
  | .ptr b off, v => v = .pointer (some ⟨G.be b, off, none⟩)
  | .lit b n _, v => v = .slice (some ⟨G.be b, 0, none⟩) n n
  | .eptr l k i off, v => ∃ g o n cap, G.hv l = .slice (some ⟨g, o, none⟩) n cap ∧ v = .pointer (some ⟨g, o + i * k + off, none⟩)
  | .sptr s t x off, v => ∃ g o r e fr, v = .pointer (some ⟨g, o + off, none⟩) ∧ src G s g ∧ w.heap[g]? = some (.cells r e fr) ∧ ∀ j, j < t.width → ∃ u, r[o + j]? = some u ∧ TR w (src G s) (fcC ((enc t x).getD j .nl)) u
  | .inn l k i off t xs, v => (∃ g o n cap r e, G.hv l = .slice (some ⟨g, o, none⟩) n cap ∧ i < n ∧ off < k ∧ G.ow g = .lab l ∧ w.heap[g]? = some (.cells r e (0, 0)) ∧ r[o + i * k + off]? = some v) ∧ TR w (src G (some l)) (fcC (.l t xs)) v
  | .capd l c, v => (v = G.hv l ∧ v.oneCell' = true) ∧ ∃ a n, G.hv l = .slice a n c
  | .aptr cs off, v => ∃ g r e fr, v = .pointer (some ⟨g, off, none⟩) ∧ G.ow g = .free ∧ w.heap[g]? = some (.cells r e fr) ∧ ConsR w G cs r
  | .clo fn caps, v => ∃ vs : Array Value, v = .func (.func fn) #[] vs ∧ vs.size = caps.length ∧ ∀ (j : Nat) (c : Cap), caps[j]? = some c → ∃ u, vs[j]? = some u ∧ CapR w G c u
  | .cur, v => ∃ g, v = .pointer (some ⟨g, 0, none⟩) ∧ G.ow g = .cur
  | .dead, _ => True
/-- a cursor: bytes that are borrowed, a place, a number -/
def CurOk (w : World) (G : Gh) (g : Nat) : Prop := ∃ (xs : List (El .u8)) (b : Value) (i h : Int) (e : TypeId), w.heap[g]? = some (.cells #[b, .int .i64 i, .int .i64 h] e (0, 0)) ∧ TR w (src G none) (fcC (.l .u8 xs)) b ∧ xs.length ≤ 1000000000000000000 ∧ 0 ≤ i ∧ i ≤ 9223372036854775807 ∧ -9223372036854775808 ≤ h ∧ h ≤ 9223372036854775807
/-- a cursor is moved: its bytes are the same -/
def CurStep (w w' : World) (g : Nat) : Prop := ∃ (b : Value) (i h i' h' : Int) (e : TypeId), w.heap[g]? = some (.cells #[b, .int .i64 i, .int .i64 h] e (0, 0)) ∧ w'.heap[g]? = some (.cells #[b, .int .i64 i', .int .i64 h'] e (0, 0)) ∧ 0 ≤ i' ∧ i' ≤ 9223372036854775807 ∧ -9223372036854775808 ≤ h' ∧ h' ≤ 9223372036854775807
theorem CurStep.trans {w w1 w2 : World} {g : Nat} (h : CurStep w w1 g) (h' : CurStep w1 w2 g) : CurStep w w2 g := by
  obtain ⟨b, i, n, i', n', e, a1, a2, _⟩ := h
  obtain ⟨c, j, m, j', m', f, c1, c2, c3⟩ := h'
  rw [a2] at c1
  injection c1 with c1
  injection c1 with q1 q2 q3
  simp only [Array.mk.injEq, List.cons.injEq] at q1
  obtain ⟨rfl, _⟩ := q1
  subst q2
  exact ⟨b, i, n, j', m', e, a1, c2, c3⟩
theorem CurOk.same {w w' : World} {G : Gh} {g : Nat} (h : CurOk w G g) (hg : w'.heap[g]? = w.heap[g]?) : CurStep w w' g := by
  obtain ⟨xs, b, i, n, e, h1, _, _, h2⟩ := h
  exact ⟨b, i, n, i, n, e, h1, hg.trans h1, h2⟩
/-- what start-up code has laid in the library's variables -/
def Laid (P : Program) (w : World) : Prop := ((P.globalNamed "internal/strconv.uint64pow10").isSome = true → Lib.TabIs P w "internal/strconv.uint64pow10" .u64 Lib.pow10Tab) ∧
  ((P.globalNamed "strconv.ErrSyntax").isSome = true → ∃ tp p, w.var? P "strconv.ErrSyntax" = some #[.iface tp p]) ∧ ((P.globalNamed "strconv.ErrRange").isSome = true → ∃ tp p, w.var? P "strconv.ErrRange" = some #[.iface tp p])
theorem laid_none {P : Program} {w : World} (h1 : (P.globalNamed "internal/strconv.uint64pow10").isSome = false) (h2 : (P.globalNamed "strconv.ErrSyntax").isSome = false) (h3 : (P.globalNamed "strconv.ErrRange").isSome = false) : Laid P w :=
  ⟨fun h => (by rw [h1] at h; cases h), fun h => (by rw [h2] at h; cases h), fun h => (by rw [h3] at h; cases h)⟩
/-- what every call may lean on: the memory with which the first call began is there, lent, as it was -/
def Base (P : Program) (w : World) (ow : Nat → Own) : Prop := ∃ w1 : World, w1.ShapedOpen P ∧ Laid P w1 ∧ ∀ g, g < w1.heap.size → g < w.heap.size ∧ ow g = .free ∧ w.heap[g]? = w1.heap[g]?
theorem some_lt {w : World} {i : Nat} {o : Obj} (h : w.heap[i]? = some o) : i < w.heap.size := (Array.getElem?_eq_some_iff.1 h).1
theorem Base.shaped {P : Program} {w : World} {ow : Nat → Own} (h : Base P w ow) : w.ShapedOpen P := by
  obtain ⟨w1, h1, _, h2⟩ := h
  refine ⟨fun g zero t hg hz => ?_, fun k hk1 hk2 => ?_⟩
  · obtain ⟨cs, a1, a2, a3⟩ := h1.1 g zero t hg hz
    refine ⟨cs, ((h2 g (some_lt a1)).2.2).trans a1, a2, fun hb => Row.ok_of_shape (fun b x hx => ?_) (a3 hb)⟩
    have hlt : b < w1.heap.size := by
      rcases Nat.lt_or_ge b w1.heap.size with h' | h'
      · exact h'
      · simp [World.shape?, Array.getElem?_eq_none h'] at hx
    simpa [World.shape?, (h2 b hlt).2.2] using hx
  · obtain ⟨o, o₀, a1, a2, a3⟩ := h1.2 k hk1 hk2
    exact ⟨o, o₀, ((h2 k (some_lt a1)).2.2).trans a1, a2, a3⟩
theorem var_ext {P : Program} {w w1 : World} {n : String} {cs : Array Value} (h : ∀ g, g < w1.heap.size → w.heap[g]? = w1.heap[g]?) (hv : w1.var? P n = some cs) : w.var? P n = some cs := by
  unfold World.var? at hv ⊢
  cases hg : P.globalNamed n with
  | none => simp [hg] at hv
  | some g =>
    simp only [hg, Option.bind_some] at hv ⊢
    have hlt : g < w1.heap.size := by
      rcases Nat.lt_or_ge g w1.heap.size with h' | h'
      · exact h'
      · simp [Array.getElem?_eq_none h'] at hv
    rw [h g hlt]
    exact hv
theorem Base.laid {P : Program} {w : World} {ow : Nat → Own} (h : Base P w ow) : Laid P w := by
  obtain ⟨w1, _, ⟨l1, l2, l3⟩, h2⟩ := h
  have he : ∀ g, g < w1.heap.size → w.heap[g]? = w1.heap[g]? := fun g hg => (h2 g hg).2.2
  exact ⟨fun h => var_ext he (l1 h), fun h => let ⟨tp, p, hv⟩ := l2 h; ⟨tp, p, var_ext he hv⟩, fun h => let ⟨tp, p, hv⟩ := l3 h; ⟨tp, p, var_ext he hv⟩⟩
structure Fr (P : Program) where
  w0 : World
  ow0 : Nat → Own
  be0 : List (Nat × Nat)
  hv0 : List (Nat × Value)
  ok : Base P w0 ow0
/-- what was lent is as it was; cursors stay cursors -/
structure Keeps {P : Program} (F : Fr P) (G : Gh) (w : World) : Prop where
  free : ∀ g, g < F.w0.heap.size → F.ow0 g = .free → w.heap[g]? = F.w0.heap[g]? ∧ G.ow g = .free
  cur : ∀ g, g < F.w0.heap.size → F.ow0 g = .cur → G.ow g = .cur ∧ CurStep F.w0 w g
  at_ : ∀ g, G.ow g = .cur → CurOk w G g
structure RG {P : Program} (F : Fr P) (G : Gh) (σ : St) (a : Act) (w : World) : Prop where
  tm : ∀ t tv, look σ.tm t = some tv → TVR w G tv (a.tmps.getD t undef)
  bx : ∀ b cs, look σ.bx b = some cs → G.ow (G.be b) = .box b ∧ ∃ r e, w.heap[G.be b]? = some (.cells r e (0, 0)) ∧ CellsR w G cs r
  hp : ∀ l T, look σ.hp l = some T → TO w (.sl T.k T.n T.f) (G.hv l) (fun g => G.ow g = .lab l)
  lt : ∀ g, G.ow g ≠ .gone → g < w.heap.size
  os : w.os = F.w0.os
  tape : w.tape = F.w0.tape
  output : w.output = F.w0.output ∧ F.w0.drawn ≤ w.drawn
  size : F.w0.heap.size ≤ w.heap.size
  keep : Keeps F G w
  fb : ∀ b β, look F.be0 b = some β → G.be b = β ∧ σ.fb.contains b = true
  fl : ∀ l v, look F.hv0 l = some v → G.hv l = v ∧ σ.fl.contains l = true
  nt : a.tmps.size = σ.nt
  df : a.defers = []
theorem RG.base {P : Program} {F : Fr P} {G : Gh} {σ : St} {a : Act} {w : World} (h : RG F G σ a w) : Base P w G.ow :=
  let ⟨w1, h1, hl, h2⟩ := F.ok
  ⟨w1, h1, hl, fun g hg => let ⟨a, b, c⟩ := h2 g hg; let ⟨d, e⟩ := h.keep.free g a b; ⟨Nat.lt_of_lt_of_le a h.size, e, d.trans c⟩⟩
def R {P : Program} (F : Fr P) (σ : St) (a : Act) (w : World) : Prop := ∃ G, RG F G σ a w
/-! the evaluator -/
def Cell.val? : Cell → Option Value
  | .sc v => some v
  | .tt => some (.bool true)
  | .ff => some (.bool false)
  | _ => none
def Cell.plainer : Cell → Cell
  | .tt => .sc (.bool true)
  | .ff => .sc (.bool false)
  | c => c
def constCell : Value → Cell
  | .bool true => .tt
  | .bool false => .ff
  | .int k n => .sc (.int k n)
  | .string s => .sc (.string s)
  | .slice none 0 0 => .nil
  | _ => .dead
def St.get (σ : St) (t : Nat) : TV := (look σ.tm t).getD .dead
def St.put (σ : St) (t : Nat) (v : TV) : St := { σ with tm := D.put σ.tm t v }
/-- a slice's header in a tree's row, told as what it shows -/
def TV.flat : TV → TV
  | .inn l _ _ _ t xs => .v false [.im (some l) t xs]
  | .capd l _ => .v false [.ref l]
  | x => x
def St.eval (σ : St) : Operand → TV
  | .tmp t => (σ.get t).flat
  | .const v => match constCell v with
    | .dead => .dead
    | c => .v false [c]
  | .func f => .clo f []
  | .global _ => .dead
theorem plain_one {v : Value} (h : plain v = true) : v.oneCell' = true := by cases v <;> simp_all [plain, Value.oneCell']
theorem CellR.one {w : World} {G : Gh} {c : Cell} {v : Value} (h : CellR w G c v) : v.oneCell' = true := by
  cases c with
  | sc u => obtain ⟨rfl, h⟩ := h; exact plain_one h
  | tt => obtain rfl := h; rfl
  | ff => obtain rfl := h; rfl
  | nil => obtain rfl := h; rfl
  | ref l => exact h.2
  | sub l k lo n =>
    rcases h with ⟨_, _, _, _, rfl⟩ | ⟨g, o, m, cap, o', _, _, rfl, _⟩ <;> rfl
  | im s t xs => exact TR.one h
  | dead => exact h
theorem constCell_ok (w : World) (G : Gh) (v : Value) (h : v.oneCell' = true) : CellR w G (constCell v) v := by
  unfold constCell
  split <;> first | rfl | exact ⟨rfl, rfl⟩ | exact h
theorem flat_ok {w : World} {G : Gh} {x : TV} {v : Value} (h : TVR w G x v) : TVR w G x.flat v := by
  cases x <;> first | exact h | exact ⟨_, rfl, h.2⟩ | exact ⟨_, rfl, h.1⟩
theorem raw_ok {P : Program} {F : Fr P} {G : Gh} {σ : St} {a : Act} {w : World} (h : RG F G σ a w) (t : Nat) : TVR w G (σ.get t) (a.tmps.getD t undef) := by
  simp only [St.get]
  cases hl : look σ.tm t with
  | none => trivial
  | some tv => exact h.tm t tv hl
theorem eval_ok {P : Program} {F : Fr P} {G : Gh} {σ : St} {a : Act} {w : World} (h : RG F G σ a w) (x : Operand) : TVR w G (σ.eval x) (a.eval x) := by
  cases x with
  | tmp t =>
    exact flat_ok (raw_ok h t)
  | const v =>
    simp only [St.eval, Act.eval]
    have hc : (constCell v = .dead) ∨ CellR w G (constCell v) v := by
      unfold constCell
      split <;> first | (exact .inl rfl) | (right; rfl) | (right; exact ⟨rfl, rfl⟩)
    split
    · trivial
    · rename_i c hne
      exact ⟨_, rfl, hc.resolve_left (fun e => hne e)⟩
  | func f =>
    simp only [St.eval, Act.eval]
    exact ⟨#[], rfl, rfl, by simp⟩
  | global g => trivial
/-- what a tree of outcomes says -/
inductive Res where
  | one (agg : Bool) (cs : List FC)
  | tup (ps : List (Bool × List FC))
inductive Ex where
  | normal
  | exit (id : Nat)
  | ret
inductive Out : Type 1 where
  | leaf (r : Res) (bx : List (Nat × List FC)) (hp : List (Nat × Tree))
  | st (e : Ex) (σ : St)
  | br (b : Bool) (x y : Out)
  | ob (p : Prop) (x : Out)
  | lp (X : Type) (p : Prop) (inv : X → Prop) (x : X → Out)
  | lt (X : Type) (e : X) (x : X → Out)
  | ok
  | bad
structure Post where
  res : Res → List (Nat × List FC) → List (Nat × Tree) → Prop
  st : Ex → St → Prop
def Out.holds (Q : Post) : Out → Prop
  | .leaf r bx hp => Q.res r bx hp
  | .st e σ => Q.st e σ
  | .br b x y => (b = true → x.holds Q) ∧ (b = false → y.holds Q)
  | .ob p x => p ∧ x.holds Q
  | .lp _ p inv x => p ∧ ∀ y, inv y → (x y).holds Q
  | .lt _ e x => (x e).holds Q
  | .ok => True
  | .bad => False
def obs : List Prop → Out → Out
  | [], x => x
  | p :: ps, x => .ob p (obs ps x)
theorem obs_holds {Q : Post} : ∀ {ps : List Prop} {x : Out}, (obs ps x).holds Q → (∀ p ∈ ps, p) ∧ x.holds Q := by
  intro ps
  induction ps with
  | nil => intro x h; exact ⟨by simp, h⟩
  | cons p ps ih =>
    intro x h
    obtain ⟨h1, h2⟩ := h
    obtain ⟨h3, h4⟩ := ih h2
    refine ⟨fun q hq => ?_, h4⟩
    rcases List.mem_cons.1 hq with rfl | hq
    · exact h1
    · exact h3 q hq
/-! what a state mentions -/
def Cell.refs : Cell → Nat → Bool
  | .ref m, l => m == l
  | .sub m _ _ _, l => m == l
  | _, _ => false
def Cell.mems : Cell → Nat → Bool
  | .im (some m) _ _, l => m == l
  | _, _ => false
def TV.refs : TV → Nat → Bool
  | .v _ cs, l => cs.any (·.refs l)
  | .tup ps, l => ps.any fun p => p.2.any (·.refs l)
  | .eptr m _ _ _, l => m == l
  | .inn m _ _ _ _ _, l => m == l
  | .capd m _, l => m == l
  | _, _ => false
def TV.mems : TV → Nat → Bool
  | .v _ cs, l => cs.any (·.mems l)
  | .tup ps, l => ps.any fun p => p.2.any (·.mems l)
  | .sptr (some m) _ _ _, l => m == l
  | .inn m _ _ _ _ _, l => m == l
  | .capd m _, l => m == l
  | _, _ => false
def Cap.hasB : Cap → Nat → Bool
  | .ptr m, b => m == b
  | _, _ => false
def TV.hasB : TV → Nat → Bool
  | .ptr m _, b => m == b
  | .lit m _ _, b => m == b
  | .clo _ caps, b => caps.any (·.hasB b)
  | _, _ => false
def St.hasB (σ : St) (b : Nat) : Bool := σ.tm.any (fun p => p.2.hasB b) || σ.fb.contains b
/-- dead, where it mentions one of the labels: as a whole; or only as borrowed memory -/
def Cell.kill (ls : List Nat) (c : Cell) : Cell := if ls.any (fun l => c.refs l || c.mems l) then .dead else c
def Cell.loose (ls : List Nat) (c : Cell) : Cell := if ls.any (fun l => c.mems l) then .dead else c
def TV.map (fc : Cell → Cell) (bad : TV → Bool) : TV → TV
  | .v a cs => .v a (cs.map fc)
  | .tup ps => .tup (ps.map fun p => (p.1, p.2.map fc))
  | x => if bad x then .dead else x
def TV.kill (ls : List Nat) (x : TV) : TV := x.map (·.kill ls) fun x => ls.any fun l => x.refs l || x.mems l
def TV.loose (ls : List Nat) (x : TV) : TV := x.map (·.loose ls) fun x => ls.any fun l => x.mems l
def St.map (σ : St) (fc : Cell → Cell) (fv : TV → TV) : St := { σ with tm := σ.tm.map fun p => (p.1, fv p.2), bx := σ.bx.map fun p => (p.1, p.2.map fc) }
def St.kill (σ : St) (ls : List Nat) : St := σ.map (·.kill ls) (·.kill ls)
def St.loose (σ : St) (ls : List Nat) : St := σ.map (·.loose ls) (·.loose ls)
end Go.D
