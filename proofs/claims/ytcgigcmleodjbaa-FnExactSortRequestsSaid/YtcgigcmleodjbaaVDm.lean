/-
  Contracts: what a function is given (lent memory, trees and boxes of the caller's), what it leaves behind.
-/
import Derived.Test.YtcgigcmleodjbaaVDl
namespace Go.D
set_option linter.unusedVariables false
/-- the callee's view: slots, boxes and trees that it is given -/
structure Arg where
  tm : List TV
  bx : List (Nat × List Cell)
  hp : List (Nat × Tree)
/-- what it leaves: the result, the trees that were to be kept, the boxes -/
structure Pst where
  r : Res
  hp : List (Nat × Tree)
  bx : List (Nat × List FC)
structure ArgR (w : World) (G : Gh) (A : Arg) (vs : Array Value) : Prop where
  sz : vs.size = A.tm.length
  tm : ∀ (j : Nat) (x : TV), A.tm[j]? = some x → ∃ v, vs[j]? = some v ∧ TVR w G x v
  bx : ∀ b cs, look A.bx b = some cs → G.ow (G.be b) = .box b ∧ ∃ r e, w.heap[G.be b]? = some (.cells r e (0, 0)) ∧ CellsR w G cs r
  hp : ∀ l T, look A.hp l = some T → TO w (.sl T.k T.n T.f) (G.hv l) (fun g => G.ow g = .lab l)
  lt : ∀ g, G.ow g ≠ .gone → g < w.heap.size
  cr : ∀ g, G.ow g = .cur → CurOk w G g
/-- the places that own memory behind a call -/
inductive Pl where
  | res (p j : Nat)
  | keep (l : Nat)
  | box (b j : Nat)
def PartO (w : World) (agg : Bool) (cs : List FC) (v : Value) (Fs : Nat → Nat → Prop) : Prop :=
  match agg with
  | false => ∃ c, cs = [c] ∧ TO w (fcC c) v (Fs 0) ∧ v.oneCell' = true
  | true => ∃ vs : Array Value, v = .agg vs ∧ vs.size = cs.length ∧ ∀ (j : Nat) (c : FC), cs[j]? = some c → ∃ u, vs[j]? = some u ∧ TO w (fcC c) u (Fs j) ∧ u.oneCell' = true
def ResR (w : World) (r : Res) (v : Value) (Fs : Nat → Nat → Nat → Prop) : Prop :=
  match r with
  | .one agg cs => PartO w agg cs v (Fs 0)
  | .tup ps => ∃ vs : Array Value, v = .tuple vs ∧ vs.size = ps.length ∧ ∀ (i : Nat) (p : Bool × List FC), ps[i]? = some p → ∃ u, vs[i]? = some u ∧ PartO w p.1 p.2 u (Fs i)
structure PstF (w : World) (G : Gh) (w' : World) (v : Value) (p : Pst) (Fs : Pl → Nat → Prop) : Prop where
  own : ∀ s b, Fs s b → b < w'.heap.size ∧ (G.ow b ≠ .free ∧ G.ow b ≠ .cur) ∧ ∀ b0, (look p.bx b0).isSome = true → b ≠ G.be b0
  dis : ∀ s s' b, Fs s b → Fs s' b → s = s'
  res : ResR w' p.r v (fun i j => Fs (.res i j))
  hp : ∀ l T, look p.hp l = some T → TO w' (.sl T.k T.n T.f) (G.hv l) (Fs (.keep l))
  bx : ∀ b cs, look p.bx b = some cs → ∃ r e, w'.heap[G.be b]? = some (.cells r e (0, 0)) ∧ r.size = cs.length ∧ ∀ (j : Nat) (c : FC), cs[j]? = some c → ∃ u, r[j]? = some u ∧ TO w' (fcC c) u (Fs (.box b j)) ∧ u.oneCell' = true
def ConPost (w : World) (G : Gh) (S : Pst → Prop) : Ending → World → Prop := fun e w' => ∃ v p, S p ∧ e = .returned v ∧ Onward w w' ∧ (∀ g, G.ow g = .free → w'.heap[g]? = w.heap[g]?) ∧ (∀ g, G.ow g = .cur → CurStep w w' g) ∧ ∃ Fs, PstF w G w' v p Fs
/-- the contract: at arguments of this form the call returns, what it leaves is in S -/
def Con (P : Program) (f : Nat) (A : Arg) (S : Pst → Prop) : Prop := ∀ (w : World) (vs : Array Value) (G : Gh), Base P w G.ow → ArgR w G A vs → Calls P f vs w (ConPost w G S)
/-- what is asked of the arguments, what is left: known, or one of many -/
inductive Ctr : Type 1 where
  | det (pre : List Prop) (p : Pst)
  | ex (pre : List Prop) (X : Type) (ok : X → Prop) (p : X → Pst)
  | df (pre : List Prop) (X : Type) (e : X) (p : X → Pst)
def Ctr.pre : Ctr → List Prop
  | .det pre _ => pre
  | .ex pre _ _ _ => pre
  | .df pre _ _ _ => pre
def Ctr.sat : Ctr → Pst → Prop
  | .det _ q, p => p = q
  | .ex _ X ok q, p => ∃ x : X, ok x ∧ p = q x
  | .df _ _ e q, p => p = q e
inductive Md where
  | lend
  | give
  | keep
  | box
  | cur
  | new
  deriving DecidableEq
abbrev Spec := Arg → Option Ctr
structure Env : Type 1 where
  fn : Nat → Option (List Md × Spec)
  ty : TypeId → Option Ty
def SpecOk (P : Program) (f : Nat) (g : Spec) : Prop := ∀ A c, g A = some c → (∀ q ∈ c.pre, q) → Con P f A c.sat
/-- a function that makes a new cursor over its bytes -/
def NewOk (P : Program) (f : Nat) : Prop := ∀ (w : World) (v : Value) (S : Nat → Prop) (xs : List (El .u8)), TR w S (fcC (.l .u8 xs)) v → (∀ j, j < xs.length → 0 ≤ (show Int from xs.getD j default) ∧ (show Int from xs.getD j default) ≤ 255) → xs.length ≤ 1000000000000000000 →
  Calls P f #[v] w fun e w' => ∃ (g : Nat) (h : Int) (ty : TypeId), e = .returned (.pointer (some ⟨g, 0, none⟩)) ∧ Onward w w' ∧ (∀ b, b < w.heap.size → w'.heap[b]? = w.heap[b]?) ∧ w.heap.size ≤ g ∧
    w'.heap[g]? = some (.cells #[v, .int .i64 0, .int .i64 h] ty (0, 0)) ∧ -9223372036854775808 ≤ h ∧ h ≤ 9223372036854775807
def isNewMd : List Md → Bool
  | [.new] => true
  | _ => false
def EOk (P : Program) (E : Env) : Prop := ∀ f m g, E.fn f = some (m, g) → SpecOk P f g ∧ (isNewMd m = true → NewOk P f)
def Env.ext (E : Env) (f : Nat) (m : List Md) (g : Spec) : Env := { E with fn := fun f' => if f' = f then some (m, g) else E.fn f' }
def Env.empty (ty : TypeId → Option Ty) : Env := ⟨fun _ => none, ty⟩
theorem EOk.empty (P : Program) (ty : TypeId → Option Ty) : EOk P (Env.empty ty) := by intro f m g h; simp [Env.empty] at h
theorem EOk.ext {P : Program} {E : Env} (h : EOk P E) {f : Nat} {m : List Md} {g : Spec} (hg : SpecOk P f g) (hm : isNewMd m = true → NewOk P f) : EOk P (E.ext f m g) := by
  intro f' m' g' h'
  unfold Env.ext at h'
  dsimp only at h'
  split at h'
  · rename_i e; subst e; injection h' with h'; injection h' with h1 h2; subst h1; subst h2; exact ⟨hg, hm⟩
  · exact h f' m' g' h'
def Env.addN (E : Env) (f : Nat) : Env := E.ext f [.new] fun _ => none
theorem EOk.addN {P : Program} {E : Env} (h : EOk P E) {f : Nat} (hf : NewOk P f) : EOk P (E.addN f) := h.ext (fun _ _ hc => by cases hc) fun _ => hf
/-- of each cell of a type: the element type, where it holds a slice -/
def tcells (P : Program) (ty : TypeId → Option Ty) : Nat → TypeId → List (Option Ty)
  | 0, _ => []
  | d + 1, T => match P.underlying T with
    | some (.slice e) => [ty e]
    | some (.struct fs) => fs.toList.flatMap fun f => tcells P ty d f.type
    | _ => [none]
section
variable {P : Program} {F : Fr P} {G Gc : Gh} {σ : St} {a : Act} {w : World} {o : Oper} {K : St → Out} {Q : Post} {Qx : Exit → Act → World → Prop}
/-- to the callee all is free that is not given -/
def Lent (G Gc : Gh) (gl gb : List Nat) : Prop := (∀ g, (G.ow g = .free ∨ (∃ m, G.ow g = .lab m ∧ m ∉ gl) ∨ ∃ b, G.ow g = .box b ∧ b ∉ gb) → Gc.ow g = .free) ∧ ∀ g, G.ow g = .cur → Gc.ow g = .cur
def lendCell (σ : St) (gl : List Nat) (t : Option Ty) : Cell → Option (List Prop × Cell)
  | .sc v => some ([], .sc v)
  | .tt => some ([], .sc (.bool true))
  | .ff => some ([], .sc (.bool false))
  | .nil => match t with
    | some t => some ([], .im none t [])
    | none => none
  | .ref l => match look σ.hp l with
    | some T => if gl.contains l then none else some ([], .im none T.t T.xs)
    | none => none
  | .sub l k lo n => match look σ.hp l with
    | some T => if T.k = k ∧ gl.contains l = false then some ([lo + n ≤ T.n], .im none T.t (cut T.xs lo n)) else none
    | none => none
  | .im none t xs => some ([], .im none t xs)
  | .im (some m) t xs => if gl.contains m then none else some ([], .im none t xs)
  | .dead => none
theorem lendCell_ok {gl gb : List Nat} {t : Option Ty} {c c' : Cell} {p : List Prop} {v : Value} (hL : Lent G Gc gl gb) (h : RG F G σ a w) (hc : CellR w G c v) (hl : lendCell σ gl t c = some (p, c')) (hp : ∀ q ∈ p, q) : CellR w Gc c' v := by
  have lab : ∀ {l : Nat} {c : C} {v : Value}, l ∉ gl → TR w (fun g => G.ow g = .lab l) c v → TR w (src Gc none) c v := fun hn ht => ht.frame fun g hg _ => ⟨rfl, hL.1 g (.inr (.inl ⟨_, hg, hn⟩))⟩
  unfold lendCell at hl
  split at hl
  · simp only [Option.some.injEq, Prod.mk.injEq] at hl; obtain ⟨rfl, rfl⟩ := hl; exact hc
  · simp only [Option.some.injEq, Prod.mk.injEq] at hl; obtain ⟨rfl, rfl⟩ := hl; exact ⟨hc, rfl⟩
  · simp only [Option.some.injEq, Prod.mk.injEq] at hl; obtain ⟨rfl, rfl⟩ := hl; exact ⟨hc, rfl⟩
  · split at hl
    · simp only [Option.some.injEq, Prod.mk.injEq] at hl
      obtain ⟨rfl, rfl⟩ := hl
      simp only [CellR, fcC_l]
      exact ⟨none, 0, hc, Nat.le_refl _, .inl rfl⟩
    · simp at hl
  · split at hl
    · rename_i l T hT
      split at hl
      · simp at hl
      · rename_i hn
        simp only [Option.some.injEq, Prod.mk.injEq] at hl
        obtain ⟨rfl, rfl⟩ := hl
        show TR w (src Gc none) _ v
        rw [hc.1, fcC_tree]
        exact lab (by simpa using hn) (h.hp _ T hT).read
    · simp at hl
  · split at hl
    · rename_i l k lo n T hT
      split at hl
      · rename_i hk
        simp only [Option.some.injEq, Prod.mk.injEq] at hl
        obtain ⟨rfl, rfl⟩ := hl
        have hle := hp _ (List.mem_singleton.2 rfl)
        have hto := h.hp _ T hT
        rw [hk.1] at hto
        have h2 := (sub_own hto hc hle).read
        rw [← hk.1] at h2
        exact tr_cut (lab (by simpa using hk.2) h2) hle
      · simp at hl
    · simp at hl
  · simp only [Option.some.injEq, Prod.mk.injEq] at hl
    obtain ⟨rfl, rfl⟩ := hl
    exact TR.frame (fun g hg _ => ⟨rfl, hL.1 g (.inl hg)⟩) hc
  · split at hl
    · simp at hl
    · rename_i hn
      simp only [Option.some.injEq, Prod.mk.injEq] at hl
      obtain ⟨rfl, rfl⟩ := hl
      exact lab (by simpa using hn) hc
  · simp at hl
def lendCells (σ : St) (gl : List Nat) : List (Option Ty) → List Cell → Option (List Prop × List Cell)
  | _, [] => some ([], [])
  | ts, c :: cs => match lendCell σ gl (ts.headD none) c, lendCells σ gl ts.tail cs with
    | some (p, c'), some (q, cs') => some (p ++ q, c' :: cs')
    | _, _ => none
theorem lendCells_ok {gl gb : List Nat} (hL : Lent G Gc gl gb) (h : RG F G σ a w) : ∀ (cs : List Cell) (ts : List (Option Ty)) (p : List Prop) (cs' : List Cell), lendCells σ gl ts cs = some (p, cs') → (∀ q ∈ p, q) → cs'.length = cs.length ∧
    ∀ (j : Nat) (c' : Cell), cs'[j]? = some c' → ∃ c, cs[j]? = some c ∧ ∀ v, CellR w G c v → CellR w Gc c' v := by
  intro cs
  induction cs with
  | nil => intro ts p cs' hl _; simp only [lendCells, Option.some.injEq, Prod.mk.injEq] at hl; obtain ⟨rfl, rfl⟩ := hl; simp
  | cons c cs ih =>
    intro ts p cs' hl hp
    simp only [lendCells] at hl
    split at hl
    · rename_i p1 c1 q1 cs1 h1 h2
      simp only [Option.some.injEq, Prod.mk.injEq] at hl
      obtain ⟨rfl, rfl⟩ := hl
      obtain ⟨h3, h4⟩ := ih _ _ _ h2 (fun q hq => hp q (List.mem_append.2 (.inr hq)))
      refine ⟨by simp [h3], fun j c' hj => ?_⟩
      cases j with
      | zero => simp only [List.getElem?_cons_zero, Option.some.injEq] at hj; subst hj; exact ⟨c, rfl, fun v hv => lendCell_ok hL h hv h1 (fun q hq => hp q (List.mem_append.2 (.inl hq)))⟩
      | succ j => simpa using h4 j c' (by simpa using hj)
    · simp at hl
/-- the contents of lent cells -/
def cellCon : Cell → Option FC
  | .sc v => some (.val v)
  | .im none t xs => some (.l t xs)
  | _ => none
def cellCons : List Cell → Option (List FC)
  | [] => some []
  | c :: cs => match cellCon c, cellCons cs with
    | some d, some ds => some (d :: ds)
    | _, _ => none
theorem cellCon_ok {c : Cell} {d : FC} {v : Value} {G : Gh} (h : CellR w G c v) (hd : cellCon c = some d) : TR w (src G none) (fcC d) v := by
  unfold cellCon at hd
  split at hd <;> simp only [Option.some.injEq, reduceCtorEq] at hd <;> subst hd <;> exact h
theorem cellCons_ok : ∀ (cs : List Cell) (ds : List FC), cellCons cs = some ds → ds.length = cs.length ∧ ∀ (j : Nat) (d : FC), ds[j]? = some d → ∃ c, cs[j]? = some c ∧ cellCon c = some d := by
  intro cs
  induction cs with
  | nil => intro ds h; simp only [cellCons, Option.some.injEq] at h; subst h; simp
  | cons c cs ih =>
    intro ds h
    simp only [cellCons] at h
    split at h
    · rename_i d ds' h1 h2
      simp only [Option.some.injEq] at h
      subst h
      obtain ⟨h3, h4⟩ := ih ds' h2
      refine ⟨by simp [h3], fun j d' hj => ?_⟩
      cases j with
      | zero => simp only [List.getElem?_cons_zero, Option.some.injEq] at hj; subst hj; exact ⟨c, rfl, h1⟩
      | succ j => simpa using h4 j d' (by simpa using hj)
    · simp at h
def lendBox (σ : St) (gl gb : List Nat) (ts : List (Option Ty)) (b : Nat) : Option (List Prop × List FC) :=
  if gb.contains b then none else match look σ.bx b with
  | some cs => match lendCells σ gl ts cs with
    | some (p, cs') => match cellCons cs' with
      | some ds => some (p, ds)
      | none => none
    | none => none
  | none => none
theorem lendBox_ok {gl gb : List Nat} {ts : List (Option Ty)} {b : Nat} {p : List Prop} {ds : List FC} (hL : Lent G Gc gl gb) (h : RG F G σ a w) (hl : lendBox σ gl gb ts b = some (p, ds)) (hp : ∀ q ∈ p, q) : ∃ r e fr, w.heap[G.be b]? = some (.cells r e fr) ∧ Gc.ow (G.be b) = .free ∧ ConsR w Gc ds r := by
  unfold lendBox at hl
  split at hl
  · simp at hl
  · rename_i hgb
    split at hl
    · rename_i cs hb
      split at hl
      · rename_i q cs' hl'
        split at hl
        · rename_i ds' hd
          simp only [Option.some.injEq, Prod.mk.injEq] at hl
          obtain ⟨rfl, rfl⟩ := hl
          obtain ⟨h1, r, e, h2, h3⟩ := h.bx b cs hb
          obtain ⟨h4, h5⟩ := lendCells_ok hL h cs _ _ _ hl' hp
          obtain ⟨h6, h7⟩ := cellCons_ok _ _ hd
          refine ⟨r, e, _, h2, hL.1 _ (.inr (.inr ⟨b, h1, by simpa using hgb⟩)), fun j d hj => ?_⟩
          obtain ⟨c', hc', hcd⟩ := h7 j d hj
          obtain ⟨c, hc, hcv⟩ := h5 j c' hc'
          obtain ⟨u, hu, hr⟩ := h3.2 j c hc
          exact ⟨u, hu, cellCon_ok (hcv u hr) hcd⟩
        · simp at hl
      · simp at hl
    · simp at hl
def lendCap (σ : St) (gl gb : List Nat) : Cap → Option (List Prop × Cap)
  | .ptr b => match lendBox σ gl gb [] b with
    | some (p, ds) => some (p, .aptr ds)
    | none => none
  | .aptr cs => some ([], .aptr cs)
def lendCaps (σ : St) (gl gb : List Nat) : List Cap → Option (List Prop × List Cap)
  | [] => some ([], [])
  | c :: cs => match lendCap σ gl gb c, lendCaps σ gl gb cs with
    | some (p, c'), some (q, cs') => some (p ++ q, c' :: cs')
    | _, _ => none
theorem cons_any {gl gb : List Nat} {cs : List FC} {r : Array Value} (hL : Lent G Gc gl gb) (h : ConsR w G cs r) : ConsR w Gc cs r := fun j c hc => let ⟨u, hu, ht⟩ := h j c hc; ⟨u, hu, ht.frame fun g hg _ => ⟨rfl, hL.1 g (.inl hg)⟩⟩
theorem lendCap_ok {gl gb : List Nat} {c c' : Cap} {p : List Prop} {v : Value} (hL : Lent G Gc gl gb) (h : RG F G σ a w) (hc : CapR w G c v) (hl : lendCap σ gl gb c = some (p, c')) (hp : ∀ q ∈ p, q) : CapR w Gc c' v := by
  unfold lendCap at hl
  split at hl
  · rename_i b
    split at hl
    · rename_i q ds hb
      simp only [Option.some.injEq, Prod.mk.injEq] at hl
      obtain ⟨rfl, rfl⟩ := hl
      obtain ⟨r, e, fr, h1, h2, h3⟩ := lendBox_ok hL h hb hp
      exact ⟨_, r, e, fr, hc, h2, h1, h3⟩
    · simp at hl
  · simp only [Option.some.injEq, Prod.mk.injEq] at hl
    obtain ⟨rfl, rfl⟩ := hl
    obtain ⟨g, r, e, fr, h1, h2, h3, h4⟩ := hc
    exact ⟨g, r, e, fr, h1, hL.1 g (.inl h2), h3, cons_any hL h4⟩
theorem lendCaps_ok {gl gb : List Nat} (hL : Lent G Gc gl gb) (h : RG F G σ a w) : ∀ (cs : List Cap) (p : List Prop) (cs' : List Cap), lendCaps σ gl gb cs = some (p, cs') → (∀ q ∈ p, q) → cs'.length = cs.length ∧ ∀ (j : Nat) (c' : Cap), cs'[j]? = some c' → ∃ c, cs[j]? = some c ∧ ∀ v, CapR w G c v → CapR w Gc c' v := by
  intro cs
  induction cs with
  | nil => intro p cs' hl _; simp only [lendCaps, Option.some.injEq, Prod.mk.injEq] at hl; obtain ⟨rfl, rfl⟩ := hl; simp
  | cons c cs ih =>
    intro p cs' hl hp
    simp only [lendCaps] at hl
    split at hl
    · rename_i p1 c1 q1 cs1 h1 h2
      simp only [Option.some.injEq, Prod.mk.injEq] at hl
      obtain ⟨rfl, rfl⟩ := hl
      obtain ⟨h3, h4⟩ := ih _ _ h2 (fun q hq => hp q (List.mem_append.2 (.inr hq)))
      refine ⟨by simp [h3], fun j c' hj => ?_⟩
      cases j with
      | zero => simp only [List.getElem?_cons_zero, Option.some.injEq] at hj; subst hj; exact ⟨c, rfl, fun v hv => lendCap_ok hL h hv h1 (fun q hq => hp q (List.mem_append.2 (.inl hq)))⟩
      | succ j => simpa using h4 j c' (by simpa using hj)
    · simp at hl
def lendTV (σ : St) (gl gb : List Nat) (ts : List (Option Ty)) : TV → Option (List Prop × TV)
  | .v agg cs => match lendCells σ gl ts cs with
    | some (p, cs') => some (p, .v agg cs')
    | none => none
  | .ptr b off => match lendBox σ gl gb [] b with
    | some (p, ds) => some (p, .aptr ds off)
    | none => none
  | .aptr cs off => some ([], .aptr cs off)
  | .clo fn caps => match lendCaps σ gl gb caps with
    | some (p, caps') => some (p, .clo fn caps')
    | none => none
  | .cur => some ([], .cur)
  | _ => none
theorem lendTV_ok {gl gb : List Nat} {ts : List (Option Ty)} {x x' : TV} {p : List Prop} {v : Value} (hL : Lent G Gc gl gb) (h : RG F G σ a w) (hx : TVR w G x v) (hl : lendTV σ gl gb ts x = some (p, x')) (hp : ∀ q ∈ p, q) : TVR w Gc x' v := by
  unfold lendTV at hl
  split at hl
  · rename_i agg cs
    split at hl
    · rename_i q cs' hl'
      simp only [Option.some.injEq, Prod.mk.injEq] at hl
      obtain ⟨rfl, rfl⟩ := hl
      obtain ⟨h1, h2⟩ := lendCells_ok hL h cs _ _ _ hl' hp
      cases agg with
      | false =>
        obtain ⟨c, rfl, hc⟩ := hx
        obtain ⟨c', rfl⟩ := List.length_eq_one_iff.1 h1
        obtain ⟨c0, hc0, hr⟩ := h2 0 c' rfl
        simp only [List.getElem?_cons_zero, Option.some.injEq] at hc0
        subst hc0
        exact ⟨c', rfl, hr v hc⟩
      | true =>
        obtain ⟨vs, rfl, hs, hc⟩ := hx
        refine ⟨vs, rfl, by rw [hs, h1], fun j c' hj => ?_⟩
        obtain ⟨c, hcj, hr⟩ := h2 j c' hj
        obtain ⟨u, hu, hcu⟩ := hc j c hcj
        exact ⟨u, hu, hr u hcu⟩
    · simp at hl
  · rename_i b off
    split at hl
    · rename_i q ds hb
      simp only [Option.some.injEq, Prod.mk.injEq] at hl
      obtain ⟨rfl, rfl⟩ := hl
      obtain ⟨r, e, fr, h1, h2, h3⟩ := lendBox_ok hL h hb hp
      exact ⟨_, r, e, fr, hx, h2, h1, h3⟩
    · simp at hl
  · simp only [Option.some.injEq, Prod.mk.injEq] at hl
    obtain ⟨rfl, rfl⟩ := hl
    obtain ⟨g, r, e, fr, h1, h2, h3, h4⟩ := hx
    exact ⟨g, r, e, fr, h1, hL.1 g (.inl h2), h3, cons_any hL h4⟩
  · rename_i fn caps
    split at hl
    · rename_i q caps' hl'
      simp only [Option.some.injEq, Prod.mk.injEq] at hl
      obtain ⟨rfl, rfl⟩ := hl
      obtain ⟨h1, h2⟩ := lendCaps_ok hL h caps _ _ hl' hp
      obtain ⟨vs, rfl, hs, hc⟩ := hx
      refine ⟨vs, rfl, by rw [hs, h1], fun j c' hj => ?_⟩
      obtain ⟨c, hcj, hr⟩ := h2 j c' hj
      obtain ⟨u, hu, hcu⟩ := hc j c hcj
      exact ⟨u, hu, hr u hcu⟩
    · simp at hl
  · simp only [Option.some.injEq, Prod.mk.injEq] at hl
    obtain ⟨rfl, rfl⟩ := hl
    obtain ⟨g, hv, hg⟩ := hx
    exact ⟨g, hv, hL.2 g hg⟩
  · simp at hl
def capTV : Cap → TV
  | .ptr b => .ptr b 0
  | .aptr cs => .aptr cs 0
theorem capTV_ok {c : Cap} {v : Value} (h : CapR w G c v) : TVR w G (capTV c) v := by
  cases c with
  | ptr b => exact h
  | aptr cs => obtain ⟨g, r, e, fr, h1, h2⟩ := h; exact ⟨g, r, e, fr, h1, h2⟩
end
end Go.D
