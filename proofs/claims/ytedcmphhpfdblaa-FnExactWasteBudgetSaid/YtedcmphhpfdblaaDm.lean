/-
  Contracts of functions that borrow their arguments and hand back memory of their own; calls by contract.
-/
import Derived.Test.YtedcmphhpfdblaaDl
namespace Go.D
set_option linter.unusedVariables false
def G0 (w : World) : Gh := { ow := fun g => if g < w.heap.size then .free else .gone, be := fun _ => 0, hv := fun _ => .nilFunc }
def PartO (w : World) (agg : Bool) (cs : List C) (v : Value) (Fs : Nat → Nat → Prop) : Prop :=
  match agg with
  | false => ∃ c, cs = [c] ∧ TO w c v (Fs 0) ∧ v.oneCell' = true
  | true => ∃ vs : Array Value, v = .agg vs ∧ vs.size = cs.length ∧ ∀ (j : Nat) (c : C), cs[j]? = some c → ∃ u, vs[j]? = some u ∧ TO w c u (Fs j) ∧ u.oneCell' = true
def ResR (B : Nat) (w : World) (r : Res) (v : Value) : Prop :=
  ∃ Fs : Nat → Nat → Nat → Prop, (∀ p j b, Fs p j b → B ≤ b ∧ b < w.heap.size) ∧ (∀ p j p' j' b, Fs p j b → Fs p' j' b → p = p' ∧ j = j') ∧
    match r with
    | .one agg cs => PartO w agg cs v (Fs 0)
    | .tup ps => ∃ vs : Array Value, v = .tuple vs ∧ vs.size = ps.length ∧ ∀ (i : Nat) (p : Bool × List C), ps[i]? = some p → ∃ u, vs[i]? = some u ∧ PartO w p.1 p.2 u (Fs i)
def ArgsR (w : World) (args : List TV) (vs : Array Value) : Prop := vs.size = args.length ∧ ∀ (j : Nat) (x : TV), args[j]? = some x → ∃ v, vs[j]? = some v ∧ TVR w (G0 w) x v
def ConPost (w : World) (r : Res) : Ending → World → Prop := fun e w' => ∃ v, e = .returned v ∧ Onward w w' ∧ (∀ g, g < w.heap.size → w'.heap[g]? = w.heap[g]?) ∧ ResR w.heap.size w' r v
def Con (P : Program) (f : Nat) (args : List TV) (r : Res) : Prop := ∀ (w : World) (vs : Array Value), ArgsR w args vs → Calls P f vs w (ConPost w r)
abbrev Spec := List TV → Option (Prop × Res)
abbrev Env := Nat → Option Spec
def SpecOk (P : Program) (f : Nat) (g : Spec) : Prop := ∀ args p r, g args = some (p, r) → p → Con P f args r
def EOk (P : Program) (E : Env) : Prop := ∀ f g, E f = some g → SpecOk P f g
def Env.ext (E : Env) (f : Nat) (g : Spec) : Env := fun f' => if f' = f then some g else E f'
def Env.empty : Env := fun _ => none
theorem EOk.empty (P : Program) : EOk P Env.empty := by intro f g h; simp [Env.empty] at h
theorem EOk.ext {P : Program} {E : Env} (h : EOk P E) {f : Nat} {g : Spec} (hg : SpecOk P f g) : EOk P (E.ext f g) := by
  intro f' g' h'
  unfold Env.ext at h'
  split at h'
  · rename_i e; subst e; injection h' with h'; subst h'; exact hg
  · exact h f' g' h'
/-- of each cell of a type: how many cells an element of the slice has that it holds (0: no slice) -/
def kcells (P : Program) : Nat → TypeId → List Nat
  | 0, _ => []
  | d + 1, T => match P.underlying T with
    | some (.slice e) => match P.info? e with
      | some i => [i.size]
      | none => [0]
    | some (.struct fs) => fs.toList.flatMap fun f => kcells P d f.type
    | _ => [0]
section
variable {P : Program} {F : Fr} {G : Gh} {σ : St} {a : Act} {w : World} {o : Oper} {K : St → Out} {Q : Post} {Qx : Exit → Act → World → Prop}
def lendCell (σ : St) (k : Nat) : Cell → Option (Prop × Cell)
  | .sc v => some (True, .sc v)
  | .tt => some (True, .sc (.bool true))
  | .ff => some (True, .sc (.bool false))
  | .nil => some (True, .im none k 0 (fun _ _ => .nl))
  | .ref l => match look σ.hp l with
    | some t => some (True, .im none t.k t.n t.f)
    | none => none
  | .sub l k' lo n => match look σ.hp l with
    | some t => if t.k = k' then some (lo + n ≤ t.n, .im none k' n (fun i => t.f (lo + i))) else none
    | none => none
  | .im _ k n f => some (True, .im none k n f)
  | .dead => none
theorem tr_any {S : Nat → Prop} {c : C} {v : Value} (h : TR w S c v) : TR w (src (G0 w) none) c v :=
  h.frame fun g _ ⟨o, hg⟩ => ⟨rfl, by
    have := (Array.getElem?_eq_some_iff.1 hg).1
    simp [src, G0, this]⟩
theorem lendCell_ok {k : Nat} {c c' : Cell} {p : Prop} {v : Value} (h : RG F G σ a w) (hc : CellR w G c v) (hl : lendCell σ k c = some (p, c')) (hp : p) : CellR w (G0 w) c' v := by
  unfold lendCell at hl
  split at hl
  · simp only [Option.some.injEq, Prod.mk.injEq] at hl; obtain ⟨rfl, rfl⟩ := hl; exact hc
  · simp only [Option.some.injEq, Prod.mk.injEq] at hl; obtain ⟨rfl, rfl⟩ := hl; exact ⟨hc, rfl⟩
  · simp only [Option.some.injEq, Prod.mk.injEq] at hl; obtain ⟨rfl, rfl⟩ := hl; exact ⟨hc, rfl⟩
  · simp only [Option.some.injEq, Prod.mk.injEq] at hl; obtain ⟨rfl, rfl⟩ := hl; exact ⟨none, 0, hc, Nat.le_refl _, .inl rfl⟩
  · split at hl
    · rename_i l t ht
      simp only [Option.some.injEq, Prod.mk.injEq] at hl
      obtain ⟨rfl, rfl⟩ := hl
      show TR w (src (G0 w) none) _ v
      rw [hc.1]
      exact tr_any (h.hp _ t ht).read
    · simp at hl
  · split at hl
    · rename_i l k' lo n t ht
      split at hl
      · rename_i hk
        simp only [Option.some.injEq, Prod.mk.injEq] at hl
        obtain ⟨rfl, rfl⟩ := hl
        have hto := h.hp _ t ht
        rw [hk] at hto
        exact tr_any (sub_own hto hc hp).read
      · simp at hl
    · simp at hl
  · simp only [Option.some.injEq, Prod.mk.injEq] at hl; obtain ⟨rfl, rfl⟩ := hl; exact tr_any hc
  · simp at hl
def lendCells (σ : St) : List Nat → List Cell → Option (Prop × List Cell)
  | _, [] => some (True, [])
  | ks, c :: cs => match lendCell σ (ks.headD 0) c, lendCells σ ks.tail cs with
    | some (p, c'), some (q, cs') => some (p ∧ q, c' :: cs')
    | _, _ => none
theorem lendCells_ok (h : RG F G σ a w) : ∀ (cs : List Cell) (ks : List Nat) (p : Prop) (cs' : List Cell), lendCells σ ks cs = some (p, cs') → p → cs'.length = cs.length ∧
    ∀ (j : Nat) (c' : Cell), cs'[j]? = some c' → ∃ c, cs[j]? = some c ∧ ∀ v, CellR w G c v → CellR w (G0 w) c' v := by
  intro cs
  induction cs with
  | nil => intro ks p cs' hl _; simp only [lendCells, Option.some.injEq, Prod.mk.injEq] at hl; obtain ⟨rfl, rfl⟩ := hl; simp
  | cons c cs ih =>
    intro ks p cs' hl hp
    simp only [lendCells] at hl
    split at hl
    · rename_i p1 c1 q1 cs1 h1 h2
      simp only [Option.some.injEq, Prod.mk.injEq] at hl
      obtain ⟨rfl, rfl⟩ := hl
      obtain ⟨h3, h4⟩ := ih _ _ _ h2 hp.2
      refine ⟨by simp [h3], fun j c' hj => ?_⟩
      cases j with
      | zero => simp only [List.getElem?_cons_zero, Option.some.injEq] at hj; subst hj; exact ⟨c, rfl, fun v hv => lendCell_ok h hv h1 hp.1⟩
      | succ j => simpa using h4 j c' (by simpa using hj)
    · simp at hl
/-- the contents of lent cells -/
def cellCon : Cell → Option C
  | .sc v => some (.val v)
  | .im none k n f => some (.sl k n f)
  | _ => none
def cellCons : List Cell → Option (List C)
  | [] => some []
  | c :: cs => match cellCon c, cellCons cs with
    | some d, some ds => some (d :: ds)
    | _, _ => none
theorem cellCon_ok {c : Cell} {d : C} {v : Value} {G : Gh} (h : CellR w G c v) (hd : cellCon c = some d) : TR w (src G none) d v := by
  unfold cellCon at hd
  split at hd <;> simp only [Option.some.injEq, reduceCtorEq] at hd <;> subst hd <;> exact h
theorem cellCons_ok : ∀ (cs : List Cell) (ds : List C), cellCons cs = some ds → ds.length = cs.length ∧ ∀ (j : Nat) (d : C), ds[j]? = some d → ∃ c, cs[j]? = some c ∧ cellCon c = some d := by
  intro cs
  induction cs with
  | nil => intro ds h; simp only [cellCons, Option.some.injEq] at h; subst h; simp
  | cons c cs ih =>
    intro ds h
    simp only [cellCons] at h
    split at h
    · rename_i d ds' h1 h2
      simp only [Option.some.injEq] at h
      subst h
      obtain ⟨h3, h4⟩ := ih ds' h2
      refine ⟨by simp [h3], fun j d' hj => ?_⟩
      cases j with
      | zero => simp only [List.getElem?_cons_zero, Option.some.injEq] at hj; subst hj; exact ⟨c, rfl, h1⟩
      | succ j => simpa using h4 j d' (by simpa using hj)
    · simp at h
def lendBox (σ : St) (b : Nat) : Option (Prop × List C) :=
  match look σ.bx b with
  | some cs => match lendCells σ [] cs with
    | some (p, cs') => match cellCons cs' with
      | some ds => some (p, ds)
      | none => none
    | none => none
  | none => none
theorem lendBox_ok {b off : Nat} {p : Prop} {ds : List C} (h : RG F G σ a w) (hl : lendBox σ b = some (p, ds)) (hp : p) : ∃ r e fr, w.heap[G.be b]? = some (.cells r e fr) ∧ (G0 w).ow (G.be b) = .free ∧ ConsR w (G0 w) ds r := by
  unfold lendBox at hl
  split at hl
  · rename_i cs hb
    split at hl
    · rename_i q cs' hl'
      split at hl
      · rename_i ds' hd
        simp only [Option.some.injEq, Prod.mk.injEq] at hl
        obtain ⟨rfl, rfl⟩ := hl
        obtain ⟨h1, r, e, h2, h3⟩ := h.bx b cs hb
        obtain ⟨h4, h5⟩ := lendCells_ok h cs _ _ _ hl' hp
        obtain ⟨h6, h7⟩ := cellCons_ok _ _ hd
        have hlt := (Array.getElem?_eq_some_iff.1 h2).1
        refine ⟨r, e, _, h2, by simp [G0, hlt], fun j d hj => ?_⟩
        obtain ⟨c', hc', hcd⟩ := h7 j d hj
        obtain ⟨c, hc, hcv⟩ := h5 j c' hc'
        obtain ⟨u, hu, hr⟩ := h3.2 j c hc
        exact ⟨u, hu, cellCon_ok (hcv u hr) hcd⟩
      · simp at hl
    · simp at hl
  · simp at hl
def lendCap (σ : St) : Cap → Option (Prop × Cap)
  | .ptr b => match lendBox σ b with
    | some (p, ds) => some (p, .aptr ds)
    | none => none
  | .aptr cs => some (True, .aptr cs)
def lendCaps (σ : St) : List Cap → Option (Prop × List Cap)
  | [] => some (True, [])
  | c :: cs => match lendCap σ c, lendCaps σ cs with
    | some (p, c'), some (q, cs') => some (p ∧ q, c' :: cs')
    | _, _ => none
theorem cons_any {cs : List C} {r : Array Value} (h : ConsR w G cs r) : ConsR w (G0 w) cs r := fun j c hc => let ⟨u, hu, ht⟩ := h j c hc; ⟨u, hu, tr_any ht⟩
theorem lendCap_ok {c c' : Cap} {p : Prop} {v : Value} (h : RG F G σ a w) (hc : CapR w G c v) (hl : lendCap σ c = some (p, c')) (hp : p) : CapR w (G0 w) c' v := by
  unfold lendCap at hl
  split at hl
  · rename_i b
    split at hl
    · rename_i q ds hb
      simp only [Option.some.injEq, Prod.mk.injEq] at hl
      obtain ⟨rfl, rfl⟩ := hl
      obtain ⟨r, e, fr, h1, h2, h3⟩ := lendBox_ok (off := 0) h hb hp
      exact ⟨_, r, e, fr, hc, h2, h1, h3⟩
    · simp at hl
  · simp only [Option.some.injEq, Prod.mk.injEq] at hl
    obtain ⟨rfl, rfl⟩ := hl
    obtain ⟨g, r, e, fr, h1, h2, h3, h4⟩ := hc
    have hlt := (Array.getElem?_eq_some_iff.1 h3).1
    exact ⟨g, r, e, fr, h1, by simp [G0, hlt], h3, cons_any h4⟩
theorem lendCaps_ok (h : RG F G σ a w) : ∀ (cs : List Cap) (p : Prop) (cs' : List Cap), lendCaps σ cs = some (p, cs') → p → cs'.length = cs.length ∧ ∀ (j : Nat) (c' : Cap), cs'[j]? = some c' → ∃ c, cs[j]? = some c ∧ ∀ v, CapR w G c v → CapR w (G0 w) c' v := by
  intro cs
  induction cs with
  | nil => intro p cs' hl _; simp only [lendCaps, Option.some.injEq, Prod.mk.injEq] at hl; obtain ⟨rfl, rfl⟩ := hl; simp
  | cons c cs ih =>
    intro p cs' hl hp
    simp only [lendCaps] at hl
    split at hl
    · rename_i p1 c1 q1 cs1 h1 h2
      simp only [Option.some.injEq, Prod.mk.injEq] at hl
      obtain ⟨rfl, rfl⟩ := hl
      obtain ⟨h3, h4⟩ := ih _ _ h2 hp.2
      refine ⟨by simp [h3], fun j c' hj => ?_⟩
      cases j with
      | zero => simp only [List.getElem?_cons_zero, Option.some.injEq] at hj; subst hj; exact ⟨c, rfl, fun v hv => lendCap_ok h hv h1 hp.1⟩
      | succ j => simpa using h4 j c' (by simpa using hj)
    · simp at hl
def lendTV (σ : St) (ks : List Nat) : TV → Option (Prop × TV)
  | .v agg cs => match lendCells σ ks cs with
    | some (p, cs') => some (p, .v agg cs')
    | none => none
  | .ptr b off => match lendBox σ b with
    | some (p, ds) => some (p, .aptr ds off)
    | none => none
  | .aptr cs off => some (True, .aptr cs off)
  | .clo fn caps => match lendCaps σ caps with
    | some (p, caps') => some (p, .clo fn caps')
    | none => none
  | _ => none
theorem lendTV_ok {ks : List Nat} {x x' : TV} {p : Prop} {v : Value} (h : RG F G σ a w) (hx : TVR w G x v) (hl : lendTV σ ks x = some (p, x')) (hp : p) : TVR w (G0 w) x' v := by
  unfold lendTV at hl
  split at hl
  · rename_i agg cs
    split at hl
    · rename_i q cs' hl'
      simp only [Option.some.injEq, Prod.mk.injEq] at hl
      obtain ⟨rfl, rfl⟩ := hl
      obtain ⟨h1, h2⟩ := lendCells_ok h cs _ _ _ hl' hp
      cases agg with
      | false =>
        obtain ⟨c, rfl, hc⟩ := hx
        obtain ⟨c', rfl⟩ := List.length_eq_one_iff.1 h1
        obtain ⟨c0, hc0, hr⟩ := h2 0 c' rfl
        simp only [List.getElem?_cons_zero, Option.some.injEq] at hc0
        subst hc0
        exact ⟨c', rfl, hr v hc⟩
      | true =>
        obtain ⟨vs, rfl, hs, hc⟩ := hx
        refine ⟨vs, rfl, by rw [hs, h1], fun j c' hj => ?_⟩
        obtain ⟨c, hcj, hr⟩ := h2 j c' hj
        obtain ⟨u, hu, hcu⟩ := hc j c hcj
        exact ⟨u, hu, hr u hcu⟩
    · simp at hl
  · rename_i b off
    split at hl
    · rename_i q ds hb
      simp only [Option.some.injEq, Prod.mk.injEq] at hl
      obtain ⟨rfl, rfl⟩ := hl
      obtain ⟨r, e, fr, h1, h2, h3⟩ := lendBox_ok (off := off) h hb hp
      exact ⟨_, r, e, fr, hx, h2, h1, h3⟩
    · simp at hl
  · simp only [Option.some.injEq, Prod.mk.injEq] at hl
    obtain ⟨rfl, rfl⟩ := hl
    obtain ⟨g, r, e, fr, h1, h2, h3, h4⟩ := hx
    have hlt := (Array.getElem?_eq_some_iff.1 h3).1
    exact ⟨g, r, e, fr, h1, by simp [G0, hlt], h3, cons_any h4⟩
  · rename_i fn caps
    split at hl
    · rename_i q caps' hl'
      simp only [Option.some.injEq, Prod.mk.injEq] at hl
      obtain ⟨rfl, rfl⟩ := hl
      obtain ⟨h1, h2⟩ := lendCaps_ok h caps _ _ hl' hp
      obtain ⟨vs, rfl, hs, hc⟩ := hx
      refine ⟨vs, rfl, by rw [hs, h1], fun j c' hj => ?_⟩
      obtain ⟨c, hcj, hr⟩ := h2 j c' hj
      obtain ⟨u, hu, hcu⟩ := hc j c hcj
      exact ⟨u, hu, hr u hcu⟩
    · simp at hl
  · simp at hl
def capTV : Cap → TV
  | .ptr b => .ptr b 0
  | .aptr cs => .aptr cs 0
theorem capTV_ok {c : Cap} {v : Value} (h : CapR w G c v) : TVR w G (capTV c) v := by
  cases c with
  | ptr b => exact h
  | aptr cs => obtain ⟨g, r, e, fr, h1, h2⟩ := h; exact ⟨g, r, e, fr, h1, h2⟩
def lendAll (σ : St) : List (List Nat × TV) → Option (Prop × List TV)
  | [] => some (True, [])
  | (ks, x) :: xs => match lendTV σ ks x, lendAll σ xs with
    | some (p, y), some (q, ys) => some (p ∧ q, y :: ys)
    | _, _ => none
theorem lendAll_ok (h : RG F G σ a w) : ∀ (xs : List (List Nat × TV)) (p : Prop) (ys : List TV), lendAll σ xs = some (p, ys) → p → ys.length = xs.length ∧ ∀ (j : Nat) (y : TV), ys[j]? = some y → ∃ kx, xs[j]? = some kx ∧ ∀ v, TVR w G kx.2 v → TVR w (G0 w) y v := by
  intro xs
  induction xs with
  | nil => intro p ys hl _; simp only [lendAll, Option.some.injEq, Prod.mk.injEq] at hl; obtain ⟨rfl, rfl⟩ := hl; simp
  | cons kx xs ih =>
    obtain ⟨ks, x⟩ := kx
    intro p ys hl hp
    simp only [lendAll] at hl
    split at hl
    · rename_i p1 y1 q1 ys1 h1 h2
      simp only [Option.some.injEq, Prod.mk.injEq] at hl
      obtain ⟨rfl, rfl⟩ := hl
      obtain ⟨h3, h4⟩ := ih _ _ h2 hp.2
      refine ⟨by simp [h3], fun j y hj => ?_⟩
      cases j with
      | zero => simp only [List.getElem?_cons_zero, Option.some.injEq] at hj; subst hj; exact ⟨(ks, x), rfl, fun v hv => lendTV_ok h hv h1 hp.1⟩
      | succ j => simpa using h4 j y (by simpa using hj)
    · simp at hl
/-- what a call hands back becomes slots and trees of the caller -/
def takeCells (σ : St) (l : Nat) : List C → List Cell × St
  | [] => ([], σ)
  | c :: cs => match c with
    | .val v => let r := takeCells σ (l + 1) cs; (.sc v :: r.1, r.2)
    | .nl => let r := takeCells σ (l + 1) cs; (.nil :: r.1, r.2)
    | .sl k n f => let r := takeCells (retreeSt σ l [] ⟨k, n, f⟩) (l + 1) cs; (.ref l :: r.1, r.2)
theorem takeCells_nt (cs : List C) : ∀ (σ : St) (l : Nat), (takeCells σ l cs).2.nt = σ.nt ∧ (takeCells σ l cs).2.fl = σ.fl := by
  induction cs with
  | nil => intro σ l; exact ⟨rfl, rfl⟩
  | cons c cs ih => intro σ l; cases c <;> simp only [takeCells] <;> (try exact ih _ _) <;> exact ⟨(ih _ _).1.trans rfl, (ih _ _).2.trans rfl⟩
theorem takeCells_ok : ∀ (cs : List C) (us : List Value) (Fs : Nat → Nat → Prop) (σ : St) (G : Gh) (l : Nat), RG F G σ a w → us.length = cs.length →
    (∀ (j : Nat) (c : C) (u : Value), cs[j]? = some c → us[j]? = some u → TO w c u (Fs j) ∧ u.oneCell' = true) → (∀ j b, Fs j b → b < w.heap.size ∧ G.ow b = .gone) → (∀ j j' b, Fs j b → Fs j' b → j = j') → (∀ m, l ≤ m → m < l + cs.length → m ∉ σ.fl) →
    ∃ G', RG F G' (takeCells σ l cs).2 a w ∧ (∀ (j : Nat) (c : Cell) (u : Value), (takeCells σ l cs).1[j]? = some c → us[j]? = some u → CellR w G' c u) ∧ (takeCells σ l cs).1.length = cs.length ∧
      (∀ m, m < l → G'.hv m = G.hv m) ∧ (∀ b, G.ow b = .gone → (∀ j, ¬ Fs j b) → G'.ow b = .gone) := by
  intro cs
  induction cs with
  | nil => intro us Fs σ G l h _ _ _ _ _; exact ⟨G, h, by simp [takeCells], rfl, fun _ _ => rfl, fun _ h _ => h⟩
  | cons c cs ih =>
    intro us Fs σ G l h hlen hT hF hd hfl
    cases us with
    | nil => simp at hlen
    | cons u us =>
      obtain ⟨hT0, hone⟩ := hT 0 c u rfl rfl
      have easy : ∀ (d : Cell), (takeCells σ l (c :: cs)) = (d :: (takeCells σ (l + 1) cs).1, (takeCells σ (l + 1) cs).2) → (∀ G', CellR w G' d u) → ∃ G', RG F G' (takeCells σ l (c :: cs)).2 a w ∧ (∀ (j : Nat) (c' : Cell) (u' : Value), (takeCells σ l (c :: cs)).1[j]? = some c' → (u :: us)[j]? = some u' → CellR w G' c' u') ∧ (takeCells σ l (c :: cs)).1.length = (c :: cs).length ∧
          (∀ m, m < l → G'.hv m = G.hv m) ∧ (∀ b, G.ow b = .gone → (∀ j, ¬ Fs j b) → G'.ow b = .gone) := by
        intro d he hd'
        obtain ⟨G', h1, h2, h3, h4, h5⟩ := ih us (fun j => Fs (j + 1)) σ G (l + 1) h (by simpa using hlen) (fun j c' u' hc hu => hT (j + 1) c' u' (by simpa using hc) (by simpa using hu)) (fun j b hb => hF (j + 1) b hb) (fun j j' b hb hb' => by have := hd (j + 1) (j' + 1) b hb hb'; omega) (fun m hm hm' => hfl m (by omega) (by simp only [List.length_cons]; omega))
        rw [he]
        refine ⟨G', h1, fun j c' u' hc hu => ?_, by simp [h3], fun m hm => h4 m (by omega), fun b hb hn => h5 b hb fun j => hn (j + 1)⟩
        cases j with
        | zero => simp only [List.getElem?_cons_zero, Option.some.injEq] at hc hu; subst hc; subst hu; exact hd' G'
        | succ j => exact h2 j c' u' (by simpa using hc) (by simpa using hu)
      cases c with
      | val v => exact easy (.sc v) rfl fun G' => hT0
      | nl => exact easy .nil rfl fun G' => hT0
      | sl k n f =>
        obtain ⟨G1, h1, h2, hv1, hg1⟩ := h.retree (w' := w) l [] ⟨k, n, f⟩ u (Fs 0) ⟨rfl, rfl, rfl, Nat.le_refl _⟩ (fun _ _ _ => rfl) (fun b hb => ⟨(hF 0 b hb).1, .inl (hF 0 b hb).2⟩) hT0 (hfl l (Nat.le_refl _) (by simp)) (by simp)
        have hl' : ∀ m, l + 1 ≤ m → m < l + 1 + cs.length → m ∉ σ.fl := fun m hm hm' => hfl m (by omega) (by simp only [List.length_cons]; omega)
        obtain ⟨G', k1, k2, k3, k4, k5⟩ := ih us (fun j => Fs (j + 1)) (retreeSt σ l [] ⟨k, n, f⟩) G1 (l + 1) h1 (by simpa using hlen) (fun j c' u' hc hu => hT (j + 1) c' u' (by simpa using hc) (by simpa using hu))
          (fun j b hb => ⟨(hF (j + 1) b hb).1, hg1 b (hF (j + 1) b hb).2 fun h0 => by have := hd (j + 1) 0 b hb h0; omega⟩) (fun j j' b hb hb' => by have := hd (j + 1) (j' + 1) b hb hb'; omega) hl'
        refine ⟨G', k1, fun j c' u' hc hu => ?_, by simp only [takeCells, List.length_cons, k3], fun m hm => (k4 m (by omega)).trans (hv1 m (by omega)), fun b hb hn => k5 b (hg1 b hb (hn 0)) fun j => hn (j + 1)⟩
        cases j with
        | zero =>
          simp only [takeCells, List.getElem?_cons_zero, Option.some.injEq] at hc hu
          subst hc
          subst hu
          exact ⟨by rw [k4 l (by omega), h2], hone⟩
        | succ j => exact k2 j c' u' (by simpa [takeCells] using hc) (by simpa using hu)
end
end Go.D
