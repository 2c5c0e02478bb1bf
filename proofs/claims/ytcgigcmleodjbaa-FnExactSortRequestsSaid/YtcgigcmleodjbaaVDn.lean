/-
  Contracts: trees and boxes that a callee is given.
-/
import Derived.Test.YtcgigcmleodjbaaVDm
namespace Go.D
set_option linter.unusedVariables false
def nodupB : List Nat → Bool
  | [] => true
  | x :: xs => !xs.contains x && nodupB xs
/-- what is given: (callee's label, the caller's label if any, the tree); (callee's box, the caller's box) -/
structure Giv where
  gv : List (Nat × Option Nat × Tree)
  bs : List (Nat × Nat)
def Giv.gl (g : Giv) : List Nat := g.gv.filterMap (·.2.1)
def Giv.gb (g : Giv) : List Nat := g.bs.map (·.2)
def lab2 : List (Nat × Option Nat × Tree) → Nat → Option Nat
  | [], _ => none
  | (cl, some m', _) :: r, m => if m' == m then some cl else lab2 r m
  | (_, none, _) :: r, m => lab2 r m
def box2 : List (Nat × Nat) → Nat → Option Nat
  | [], _ => none
  | (cb, b') :: r, b => if b' == b then some cb else box2 r b
theorem look_mem {α : Type} {l : List (Nat × α)} (hn : nodupB (l.map (·.1)) = true) {e : Nat × α} (h : e ∈ l) : look l e.1 = some e.2 := by
  induction l with
  | nil => cases h
  | cons p r ih =>
    obtain ⟨s, v⟩ := p
    simp only [List.map_cons, nodupB, Bool.and_eq_true, Bool.not_eq_true'] at hn
    simp only [look]
    rcases List.mem_cons.1 h with rfl | h
    · simp
    · have hne : (e.1 == s) = false := by
        cases hq : e.1 == s with
        | false => rfl
        | true =>
          have he : e.1 = s := by simpa using hq
          have hm : s ∈ r.map (·.1) := List.mem_map.2 ⟨e, h, he⟩
          have h0 := hn.1
          rw [List.contains_eq_mem] at h0
          simp only [decide_eq_false_iff_not] at h0
          exact absurd hm h0
      simp only [hne, Bool.false_eq_true, if_false]
      exact ih hn.2 h
theorem mem_look {α : Type} {l : List (Nat × α)} {t : Nat} {x : α} (h : look l t = some x) : (t, x) ∈ l := by
  induction l with
  | nil => simp [look] at h
  | cons p r ih =>
    obtain ⟨s, v⟩ := p
    simp only [look] at h
    split at h
    · rename_i hq
      have : t = s := by simpa using hq
      subst this
      injection h with h
      subst h
      exact List.mem_cons_self
    · exact List.mem_cons_of_mem _ (ih h)
theorem lab2_mem {l : List (Nat × Option Nat × Tree)} {m cl : Nat} (h : lab2 l m = some cl) : ∃ T, (cl, some m, T) ∈ l := by
  induction l with
  | nil => simp [lab2] at h
  | cons p r ih =>
    obtain ⟨c, o, T⟩ := p
    cases o with
    | none =>
      simp only [lab2] at h
      obtain ⟨T', h'⟩ := ih h
      exact ⟨T', List.mem_cons_of_mem _ h'⟩
    | some m' =>
      simp only [lab2] at h
      split at h
      · rename_i hq
        have : m' = m := by simpa using hq
        subst this
        injection h with h
        subst h
        exact ⟨T, List.mem_cons_self⟩
      · obtain ⟨T', h'⟩ := ih h
        exact ⟨T', List.mem_cons_of_mem _ h'⟩
theorem mem_gl {l : List (Nat × Option Nat × Tree)} {cl m : Nat} {T : Tree} (h : (cl, some m, T) ∈ l) : m ∈ l.filterMap (fun e => e.2.1) := List.mem_filterMap.2 ⟨(cl, some m, T), h, rfl⟩
theorem lab2_of {l : List (Nat × Option Nat × Tree)} {m cl : Nat} {T : Tree} (hn : nodupB (l.filterMap (·.2.1)) = true) (h : (cl, some m, T) ∈ l) : lab2 l m = some cl := by
  induction l with
  | nil => cases h
  | cons p r ih =>
    obtain ⟨c, o, T'⟩ := p
    rcases List.mem_cons.1 h with h' | h'
    · injection h' with h1 h2
      injection h2 with h2 h3
      subst h1
      subst h2
      simp [lab2]
    · cases o with
      | none => simp only [lab2]; exact ih (by simpa using hn) h'
      | some m' =>
        simp only [List.filterMap_cons, nodupB, Bool.and_eq_true, Bool.not_eq_true'] at hn
        have hm : m ∈ r.filterMap (·.2.1) := mem_gl h'
        have hne : (m' == m) = false := by
          cases hq : m' == m with
          | false => rfl
          | true =>
            have : m' = m := by simpa using hq
            subst this
            have h0 := hn.1
            rw [List.contains_eq_mem] at h0
            simp only [decide_eq_false_iff_not] at h0
            exact absurd hm h0
        simp only [lab2, hne, Bool.false_eq_true, if_false]
        exact ih hn.2 h'
theorem lab2_none {l : List (Nat × Option Nat × Tree)} {m : Nat} (h : m ∉ l.filterMap (·.2.1)) : lab2 l m = none := by
  cases hq : lab2 l m with
  | none => rfl
  | some cl =>
    obtain ⟨T, hm⟩ := lab2_mem hq
    exact absurd (mem_gl hm) h
theorem box2_mem {l : List (Nat × Nat)} {b cb : Nat} (h : box2 l b = some cb) : (cb, b) ∈ l := by
  induction l with
  | nil => simp [box2] at h
  | cons p r ih =>
    obtain ⟨c, b'⟩ := p
    simp only [box2] at h
    split at h
    · rename_i hq
      have : b' = b := by simpa using hq
      subst this
      injection h with h
      subst h
      exact List.mem_cons_self
    · exact List.mem_cons_of_mem _ (ih h)
theorem box2_of {l : List (Nat × Nat)} {b cb : Nat} (hn : nodupB (l.map (·.2)) = true) (h : (cb, b) ∈ l) : box2 l b = some cb := by
  induction l with
  | nil => cases h
  | cons p r ih =>
    obtain ⟨c, b'⟩ := p
    simp only [List.map_cons, nodupB, Bool.and_eq_true, Bool.not_eq_true'] at hn
    rcases List.mem_cons.1 h with h | h
    · injection h with h1 h2
      subst h1
      subst h2
      simp [box2]
    · have hne : (b' == b) = false := by
        cases hq : b' == b with
        | false => rfl
        | true =>
          have : b' = b := by simpa using hq
          subst this
          have hm : b' ∈ r.map (·.2) := List.mem_map.2 ⟨_, h, rfl⟩
          have h0 := hn.1
          rw [List.contains_eq_mem] at h0
          simp only [decide_eq_false_iff_not] at h0
          exact absurd hm h0
      simp only [box2, hne, Bool.false_eq_true, if_false]
      exact ih hn.2 h
theorem box2_none {l : List (Nat × Nat)} {b : Nat} (h : b ∉ l.map (·.2)) : box2 l b = none := by
  cases hq : box2 l b with
  | none => rfl
  | some cb => exact absurd (List.mem_map.2 ⟨_, box2_mem hq, rfl⟩) h
/-- the ghost as the callee sees it -/
def gcOw (g : Giv) : Own → Own
  | .lab m => match lab2 g.gv m with
    | some cl => .lab cl
    | none => .free
  | .box b => match box2 g.bs b with
    | some cb => .box cb
    | none => .free
  | .cur => .cur
  | _ => .free
def gc (w : World) (G : Gh) (g : Giv) : Gh where
  ow b := if b < w.heap.size then gcOw g (G.ow b) else .gone
  be cb := match look g.bs cb with
    | some b => G.be b
    | none => 0
  hv cl := match look g.gv cl with
    | some (some m, _) => G.hv m
    | _ => .slice none 0 0
section
variable {P : Program} {F : Fr P} {G : Gh} {σ : St} {a : Act} {w : World} {o : Oper} {K : St → Out} {Q : Post} {Qx : Exit → Act → World → Prop}
theorem gc_lent (h : RG F G σ a w) (g : Giv) : Lent G (gc w G g) g.gl g.gb := by
  refine ⟨fun b hb => ?_, fun b hb => ?_⟩
  rotate_left
  · have hlt : b < w.heap.size := h.lt b (by simp [hb])
    simp only [gc, hlt, if_true, hb, gcOw]
  have hlt : b < w.heap.size := h.lt b (by rcases hb with e | ⟨m, e, _⟩ | ⟨m, e, _⟩ <;> simp [e])
  simp only [gc, hlt, if_true]
  rcases hb with e | ⟨m, e, hm⟩ | ⟨m, e, hm⟩
  · rw [e]; rfl
  · rw [e]; simp only [gcOw, lab2_none hm]
  · rw [e]; simp only [gcOw, box2_none hm]
theorem gc_lab {g : Giv} {b cl : Nat} (h : (gc w G g).ow b = .lab cl) : b < w.heap.size ∧ ∃ m, G.ow b = .lab m ∧ lab2 g.gv m = some cl := by
  simp only [gc] at h
  split at h
  · rename_i hlt
    refine ⟨hlt, ?_⟩
    cases hq : G.ow b with
    | gone => simp [hq, gcOw] at h
    | free => simp [hq, gcOw] at h
    | lab m =>
      simp only [hq, gcOw] at h
      split at h
      · rename_i cl' hc
        injection h with h
        subst h
        exact ⟨m, rfl, hc⟩
      · cases h
    | box b' =>
      simp only [hq, gcOw] at h
      split at h <;> cases h
    | cur => simp [hq, gcOw] at h
  · cases h
theorem gc_cur {g : Giv} {b : Nat} (h : (gc w G g).ow b = .cur) : b < w.heap.size ∧ G.ow b = .cur := by
  simp only [gc] at h
  split at h
  · rename_i hlt
    refine ⟨hlt, ?_⟩
    cases hq : G.ow b with
    | gone => simp [hq, gcOw] at h
    | free => simp [hq, gcOw] at h
    | lab m => simp only [hq, gcOw] at h; split at h <;> cases h
    | box b' => simp only [hq, gcOw] at h; split at h <;> cases h
    | cur => rfl
  · cases h
theorem gc_free {g : Giv} {b : Nat} (hlt : b < w.heap.size) (h0 : G.ow b ≠ .cur) (h : ∀ m, G.ow b = .lab m → m ∉ g.gl) (h2 : ∀ m, G.ow b = .box m → m ∉ g.gb) : (gc w G g).ow b = .free := by
  simp only [gc, hlt, if_true]
  cases hq : G.ow b with
  | gone => rfl
  | free => rfl
  | lab m => simp only [gcOw, lab2_none (h m hq)]
  | box m => simp only [gcOw, box2_none (h2 m hq)]
  | cur => exact absurd hq h0
theorem gc_base (g : Giv) (h : Base P w G.ow) : Base P w (gc w G g).ow :=
  let ⟨w1, h1, hl, h2⟩ := h
  ⟨w1, h1, hl, fun b hb => let ⟨x, y, z⟩ := h2 b hb; ⟨x, gc_free x (by simp [y]) (by simp [y]) (by simp [y]), z⟩⟩
def Valid (σ : St) (e : Nat × Option Nat × Tree) : Prop := match e.2.1 with
  | some l => look σ.hp l = some e.2.2
  | none => e.2.2.xs = []
def giveCell (σ : St) (cl : Nat) (t : Option Ty) : Cell → Option (Cell × List (Nat × Option Nat × Tree))
  | .sc v => some (.sc v, [])
  | .tt => some (.sc (.bool true), [])
  | .ff => some (.sc (.bool false), [])
  | .nil => match t with
    | some t => some (.ref cl, [(cl, none, ⟨t, []⟩)])
    | none => none
  | .ref l => match look σ.hp l with
    | some T => some (.ref cl, [(cl, some l, T)])
    | none => none
  | _ => none
theorem giveCell_ok {g : Giv} {cl : Nat} {t : Option Ty} {c d : Cell} {gs : List (Nat × Option Nat × Tree)} (hg : giveCell σ cl t c = some (d, gs)) (hgs : ∀ e ∈ gs, look g.gv e.1 = some e.2) :
    (∀ v, CellR w G c v → CellR w (gc w G g) d v) ∧ ∀ e ∈ gs, Valid σ e := by
  unfold giveCell at hg
  split at hg
  · simp only [Option.some.injEq, Prod.mk.injEq] at hg; obtain ⟨rfl, rfl⟩ := hg; exact ⟨fun v h => h, by simp⟩
  · simp only [Option.some.injEq, Prod.mk.injEq] at hg; obtain ⟨rfl, rfl⟩ := hg; exact ⟨fun v h => ⟨h, rfl⟩, by simp⟩
  · simp only [Option.some.injEq, Prod.mk.injEq] at hg; obtain ⟨rfl, rfl⟩ := hg; exact ⟨fun v h => ⟨h, rfl⟩, by simp⟩
  · split at hg
    · simp only [Option.some.injEq, Prod.mk.injEq] at hg
      obtain ⟨rfl, rfl⟩ := hg
      have h1 := hgs _ (List.mem_singleton.2 rfl)
      refine ⟨fun v h => ⟨?_, CellR.one h⟩, by simp [Valid]⟩
      simp only [gc, h1]
      exact h
    · simp at hg
  · split at hg
    · rename_i l T hT
      simp only [Option.some.injEq, Prod.mk.injEq] at hg
      obtain ⟨rfl, rfl⟩ := hg
      have h1 := hgs _ (List.mem_singleton.2 rfl)
      refine ⟨fun v h => ⟨?_, h.2⟩, by simp [Valid, hT]⟩
      simp only [gc, h1]
      exact h.1
    · simp at hg
  · simp at hg
def giveCells (σ : St) : Nat → List (Option Ty) → List Cell → Option (List Cell × List (Nat × Option Nat × Tree))
  | _, _, [] => some ([], [])
  | cl, ts, c :: cs => match giveCell σ cl (ts.headD none) c, giveCells σ (cl + 1) ts.tail cs with
    | some (d, gs), some (ds, gs') => some (d :: ds, gs ++ gs')
    | _, _ => none
theorem giveCells_ok {g : Giv} : ∀ (cs : List Cell) (cl : Nat) (ts : List (Option Ty)) (ds : List Cell) (gs : List (Nat × Option Nat × Tree)), giveCells σ cl ts cs = some (ds, gs) → (∀ e ∈ gs, look g.gv e.1 = some e.2) →
    ds.length = cs.length ∧ (∀ (j : Nat) (d : Cell), ds[j]? = some d → ∃ c, cs[j]? = some c ∧ ∀ v, CellR w G c v → CellR w (gc w G g) d v) ∧ ∀ e ∈ gs, Valid σ e := by
  intro cs
  induction cs with
  | nil => intro cl ts ds gs hg _; simp only [giveCells, Option.some.injEq, Prod.mk.injEq] at hg; obtain ⟨rfl, rfl⟩ := hg; simp
  | cons c cs ih =>
    intro cl ts ds gs hg hgs
    simp only [giveCells] at hg
    split at hg
    · rename_i d gs1 ds1 gs2 h1 h2
      simp only [Option.some.injEq, Prod.mk.injEq] at hg
      obtain ⟨rfl, rfl⟩ := hg
      obtain ⟨k1, k2⟩ := giveCell_ok (w := w) (G := G) h1 (fun e he => hgs e (List.mem_append.2 (.inl he)))
      obtain ⟨l1, l2, l3⟩ := ih _ _ _ _ h2 (fun e he => hgs e (List.mem_append.2 (.inr he)))
      refine ⟨by simp [l1], fun j d' hj => ?_, fun e he => ?_⟩
      · cases j with
        | zero => simp only [List.getElem?_cons_zero, Option.some.injEq] at hj; subst hj; exact ⟨c, rfl, k1⟩
        | succ j => simpa using l2 j d' (by simpa using hj)
      · rcases List.mem_append.1 he with he | he
        · exact k2 e he
        · exact l3 e he
    · simp at hg
theorem cells_map {G' : Gh} {cs ds : List Cell} {vs : Array Value} (hl : ds.length = cs.length) (h : ∀ (j : Nat) (d : Cell), ds[j]? = some d → ∃ c, cs[j]? = some c ∧ ∀ v, CellR w G c v → CellR w G' d v) (hc : CellsR w G cs vs) : CellsR w G' ds vs := by
  refine ⟨by rw [hc.1, hl], fun j d hj => ?_⟩
  obtain ⟨c, hcj, hr⟩ := h j d hj
  obtain ⟨u, hu, hcu⟩ := hc.2 j c hcj
  exact ⟨u, hu, hr u hcu⟩
theorem part_map {G' : Gh} {agg : Bool} {cs ds : List Cell} {v : Value} (hl : ds.length = cs.length) (h : ∀ (j : Nat) (d : Cell), ds[j]? = some d → ∃ c, cs[j]? = some c ∧ ∀ v, CellR w G c v → CellR w G' d v) (hc : PartR w G agg cs v) : PartR w G' agg ds v := by
  cases agg with
  | false =>
    obtain ⟨c, rfl, hc⟩ := hc
    obtain ⟨d, rfl⟩ := List.length_eq_one_iff.1 hl
    obtain ⟨c0, hc0, hr⟩ := h 0 d rfl
    simp only [List.getElem?_cons_zero, Option.some.injEq] at hc0
    subst hc0
    exact ⟨d, rfl, hr v hc⟩
  | true =>
    obtain ⟨vs, rfl, hc⟩ := hc
    exact ⟨vs, rfl, cells_map hl h hc⟩
/-- an argument that is given: the callee's slot, its boxes, what is given -/
def give1 (σ : St) (j : Nat) (ts : List (Option Ty)) : Md → TV → Option (Option TV × List (Nat × List Cell) × Giv)
  | .lend, _ => some (none, [], ⟨[], []⟩)
  | .give, .v agg cs => match giveCells σ (64 * j) ts cs with
    | some (ds, gs) => some (some (.v agg ds), [], ⟨gs, []⟩)
    | none => none
  | .keep, .v agg cs => match giveCells σ (64 * j) ts cs with
    | some (ds, gs) => some (some (.v agg ds), [], ⟨gs, []⟩)
    | none => none
  | .box, .ptr b 0 => match look σ.bx b with
    | some cs => match giveCells σ (64 * j) ts cs with
      | some (ds, gs) => some (some (.ptr j 0), [(j, ds)], ⟨gs, [(j, b)]⟩)
      | none => none
    | none => none
  | .cur, .cur => some (none, [], ⟨[], []⟩)
  | _, _ => none
theorem give1_ok {g : Giv} {j : Nat} {ts : List (Option Ty)} {m : Md} {x : TV} {y : Option TV} {bx : List (Nat × List Cell)} {g1 : Giv} (h : RG F G σ a w) (hg : give1 σ j ts m x = some (y, bx, g1)) (hgv : ∀ e ∈ g1.gv, look g.gv e.1 = some e.2) (hbs : ∀ e ∈ g1.bs, look g.bs e.1 = some e.2 ∧ box2 g.bs e.2 = some e.1) :
    (∀ y', y = some y' → ∀ v, TVR w G x v → TVR w (gc w G g) y' v) ∧ (∀ e ∈ g1.gv, Valid σ e) ∧
    (∀ e ∈ bx, (gc w G g).ow ((gc w G g).be e.1) = .box e.1 ∧ ∃ r t, w.heap[(gc w G g).be e.1]? = some (.cells r t (0, 0)) ∧ CellsR w (gc w G g) e.2 r) := by
  unfold give1 at hg
  have agg : ∀ (agg : Bool) (cs : List Cell), (match giveCells σ (64 * j) ts cs with
    | some (ds, gs) => some (some (TV.v agg ds), ([] : List (Nat × List Cell)), (⟨gs, []⟩ : Giv))
    | none => none) = some (y, bx, g1) → (∀ y', y = some y' → ∀ v, TVR w G (.v agg cs) v → TVR w (gc w G g) y' v) ∧ (∀ e ∈ g1.gv, Valid σ e) ∧
    (∀ e ∈ bx, (gc w G g).ow ((gc w G g).be e.1) = .box e.1 ∧ ∃ r t, w.heap[(gc w G g).be e.1]? = some (.cells r t (0, 0)) ∧ CellsR w (gc w G g) e.2 r) := by
    intro agg cs hg
    split at hg
    · rename_i ds gs hgc
      simp only [Option.some.injEq, Prod.mk.injEq] at hg
      obtain ⟨rfl, rfl, rfl⟩ := hg
      obtain ⟨k1, k2, k3⟩ := giveCells_ok (w := w) (G := G) cs _ _ _ _ hgc hgv
      refine ⟨fun y' hy v hv => ?_, k3, by simp⟩
      injection hy with hy
      subst hy
      exact part_map k1 k2 hv
    · simp at hg
  split at hg
  · simp only [Option.some.injEq, Prod.mk.injEq] at hg
    obtain ⟨rfl, rfl, rfl⟩ := hg
    simp
  · exact agg _ _ hg
  · exact agg _ _ hg
  · split at hg
    · rename_i b _ cs hb
      split at hg
      · rename_i ds gs hgc
        simp only [Option.some.injEq, Prod.mk.injEq] at hg
        obtain ⟨rfl, rfl, rfl⟩ := hg
        obtain ⟨k1, k2, k3⟩ := giveCells_ok (w := w) (G := G) cs _ _ _ _ hgc hgv
        obtain ⟨b1, b2⟩ := hbs _ (List.mem_singleton.2 rfl)
        have hbe : (gc w G g).be j = G.be b := by simp only [gc, b1]
        refine ⟨fun y' hy v hv => ?_, k3, fun e he => ?_⟩
        · injection hy with hy
          subst hy
          simp only [TVR] at hv ⊢
          rw [hbe]
          exact hv
        · have := List.mem_singleton.1 he
          subst this
          obtain ⟨h1, r, t, h2, h3⟩ := h.bx b cs hb
          dsimp only
          rw [hbe]
          refine ⟨?_, r, t, h2, cells_map k1 k2 h3⟩
          have hlt : G.be b < w.heap.size := h.lt _ (by simp [h1])
          simp only [gc, hlt, if_true, h1, gcOw, b2]
      · simp at hg
    · simp at hg
  · simp only [Option.some.injEq, Prod.mk.injEq] at hg
    obtain ⟨rfl, rfl, rfl⟩ := hg
    simp
  · simp at hg
abbrev CArg := Md × List (Option Ty) × TV
def giveAll (σ : St) : Nat → List CArg → Option (List (Option TV) × List (Nat × List Cell) × Giv)
  | _, [] => some ([], [], ⟨[], []⟩)
  | j, (m, ts, x) :: r => match give1 σ j ts m x, giveAll σ (j + 1) r with
    | some (y, bx, g), some (ys, bxs, g') => some (y :: ys, bx ++ bxs, ⟨g.gv ++ g'.gv, g.bs ++ g'.bs⟩)
    | _, _ => none
def lendRest (σ : St) (gl gb : List Nat) : List (Option TV) → List CArg → Option (List Prop × List TV)
  | [], [] => some ([], [])
  | some y :: ys, _ :: r => match lendRest σ gl gb ys r with
    | some (p, zs) => some (p, y :: zs)
    | none => none
  | none :: ys, (_, ts, x) :: r => match lendTV σ gl gb ts x, lendRest σ gl gb ys r with
    | some (p, z), some (q, zs) => some (p ++ q, z :: zs)
    | _, _ => none
  | _, _ => none
def lendArgs (σ : St) (xs : List CArg) : Option (List Prop × Arg × Giv) :=
  match giveAll σ 0 xs with
  | some (ys, bxs, g) => if nodupB (g.gv.map (·.1)) && nodupB g.gl && nodupB (g.bs.map (·.1)) && nodupB g.gb then (match lendRest σ g.gl g.gb ys xs with
    | some (p, zs) => some (p, ⟨zs, bxs, g.gv.map fun e => (e.1, e.2.2)⟩, g)
    | none => none) else none
  | none => none
theorem giveAll_ok {g : Giv} (h : RG F G σ a w) : ∀ (xs : List CArg) (j : Nat) (ys : List (Option TV)) (bxs : List (Nat × List Cell)) (g1 : Giv), giveAll σ j xs = some (ys, bxs, g1) → (∀ e ∈ g1.gv, look g.gv e.1 = some e.2) → (∀ e ∈ g1.bs, look g.bs e.1 = some e.2 ∧ box2 g.bs e.2 = some e.1) →
    ys.length = xs.length ∧ (∀ (i : Nat) (y : TV), ys[i]? = some (some y) → ∃ x, xs[i]? = some x ∧ ∀ v, TVR w G x.2.2 v → TVR w (gc w G g) y v) ∧ (∀ e ∈ g1.gv, Valid σ e) ∧
    (∀ e ∈ bxs, (gc w G g).ow ((gc w G g).be e.1) = .box e.1 ∧ ∃ r t, w.heap[(gc w G g).be e.1]? = some (.cells r t (0, 0)) ∧ CellsR w (gc w G g) e.2 r) := by
  intro xs
  induction xs with
  | nil => intro j ys bxs g1 hg _ _; simp only [giveAll, Option.some.injEq, Prod.mk.injEq] at hg; obtain ⟨rfl, rfl, rfl⟩ := hg; simp
  | cons x xs ih =>
    obtain ⟨m, ts, x⟩ := x
    intro j ys bxs g1 hg hgv hbs
    simp only [giveAll] at hg
    split at hg
    · rename_i y bx g2 ys' bxs' g3 h1 h2
      simp only [Option.some.injEq, Prod.mk.injEq] at hg
      obtain ⟨rfl, rfl, rfl⟩ := hg
      obtain ⟨k1, k2, k3⟩ := give1_ok h h1 (fun e he => hgv e (List.mem_append.2 (.inl he))) (fun e he => hbs e (List.mem_append.2 (.inl he)))
      obtain ⟨l1, l2, l3, l4⟩ := ih _ _ _ _ h2 (fun e he => hgv e (List.mem_append.2 (.inr he))) (fun e he => hbs e (List.mem_append.2 (.inr he)))
      refine ⟨by simp [l1], fun i z hi => ?_, fun e he => ?_, fun e he => ?_⟩
      · cases i with
        | zero => simp only [List.getElem?_cons_zero, Option.some.injEq] at hi; exact ⟨_, rfl, k1 z hi⟩
        | succ i => simpa using l2 i z (by simpa using hi)
      · rcases List.mem_append.1 he with he | he
        · exact k2 e he
        · exact l3 e he
      · rcases List.mem_append.1 he with he | he
        · exact k3 e he
        · exact l4 e he
    · simp at hg
theorem lendRest_ok {Gc : Gh} {gl gb : List Nat} (hL : Lent G Gc gl gb) (h : RG F G σ a w) : ∀ (xs : List CArg) (ys : List (Option TV)) (p : List Prop) (zs : List TV), lendRest σ gl gb ys xs = some (p, zs) → (∀ q ∈ p, q) →
    (∀ (i : Nat) (y : TV), ys[i]? = some (some y) → ∃ x, xs[i]? = some x ∧ ∀ v, TVR w G x.2.2 v → TVR w Gc y v) → zs.length = xs.length ∧ ∀ (i : Nat) (z : TV), zs[i]? = some z → ∃ x, xs[i]? = some x ∧ ∀ v, TVR w G x.2.2 v → TVR w Gc z v := by
  intro xs
  induction xs with
  | nil =>
    intro ys p zs hl hp hy
    cases ys with
    | nil => simp only [lendRest, Option.some.injEq, Prod.mk.injEq] at hl; obtain ⟨rfl, rfl⟩ := hl; simp
    | cons y ys => cases y <;> simp [lendRest] at hl
  | cons x xs ih =>
    obtain ⟨m, ts, x⟩ := x
    intro ys p zs hl hp hy
    cases ys with
    | nil => simp [lendRest] at hl
    | cons y ys =>
      have hy' : ∀ (i : Nat) (y : TV), ys[i]? = some (some y) → ∃ x, xs[i]? = some x ∧ ∀ v, TVR w G x.2.2 v → TVR w Gc y v := fun i y hi => by simpa using hy (i + 1) y (by simpa using hi)
      cases y with
      | some y =>
        simp only [lendRest] at hl
        split at hl
        · rename_i q zs' h1
          simp only [Option.some.injEq, Prod.mk.injEq] at hl
          obtain ⟨rfl, rfl⟩ := hl
          obtain ⟨k1, k2⟩ := ih ys _ _ h1 hp hy'
          refine ⟨by simp [k1], fun i z hi => ?_⟩
          cases i with
          | zero => simp only [List.getElem?_cons_zero, Option.some.injEq] at hi; subst hi; exact hy 0 _ rfl
          | succ i => simpa using k2 i z (by simpa using hi)
        · simp at hl
      | none =>
        simp only [lendRest] at hl
        split at hl
        · rename_i p1 z1 q1 zs1 h1 h2
          simp only [Option.some.injEq, Prod.mk.injEq] at hl
          obtain ⟨rfl, rfl⟩ := hl
          obtain ⟨k1, k2⟩ := ih ys _ _ h2 (fun q hq => hp q (List.mem_append.2 (.inr hq))) hy'
          refine ⟨by simp [k1], fun i z hi => ?_⟩
          cases i with
          | zero => simp only [List.getElem?_cons_zero, Option.some.injEq] at hi; subst hi; exact ⟨_, rfl, fun v hv => lendTV_ok hL h hv h1 (fun q hq => hp q (List.mem_append.2 (.inl hq)))⟩
          | succ i => simpa using k2 i z (by simpa using hi)
        · simp at hl
theorem lendArgs_ok {xs : List CArg} {p : List Prop} {A : Arg} {g : Giv} {vs : Array Value} (h : RG F G σ a w) (hl : lendArgs σ xs = some (p, A, g)) (hp : ∀ q ∈ p, q) (hsz : vs.size = xs.length) (hx : ∀ (j : Nat) (x : CArg), xs[j]? = some x → ∃ v, vs[j]? = some v ∧ TVR w G x.2.2 v) :
    ArgR w (gc w G g) A vs ∧ A.hp = (g.gv.map fun e => (e.1, e.2.2)) ∧ nodupB (g.gv.map (·.1)) = true ∧ nodupB g.gl = true ∧ nodupB (g.bs.map (·.1)) = true ∧ nodupB g.gb = true ∧ (∀ e ∈ g.gv, Valid σ e) ∧ A.tm.length = xs.length := by
  unfold lendArgs at hl
  split at hl
  · rename_i ys bxs g1 hg
    split at hl
    · rename_i hn
      simp only [Bool.and_eq_true] at hn
      obtain ⟨⟨⟨n1, n2⟩, n3⟩, n4⟩ := hn
      split at hl
      · rename_i q zs hr
        simp only [Option.some.injEq, Prod.mk.injEq] at hl
        obtain ⟨rfl, rfl, rfl⟩ := hl
        obtain ⟨k1, k2, k3, k4⟩ := giveAll_ok h xs 0 ys bxs g1 hg (fun e he => look_mem n1 he) (fun e he => ⟨look_mem n3 he, box2_of n4 he⟩)
        obtain ⟨l1, l2⟩ := lendRest_ok (gc_lent h g1) h xs ys q zs hr hp k2
        refine ⟨⟨by rw [hsz, l1], fun j z hj => ?_, fun b cs hb => ?_, fun l T hT => ?_, fun b hb => ?_, fun b hb => ?_⟩, rfl, n1, n2, n3, n4, k3, l1⟩
        · obtain ⟨x, hxj, hr⟩ := l2 j z hj
          obtain ⟨v, hv, ht⟩ := hx j x hxj
          exact ⟨v, hv, hr v ht⟩
        · exact k4 _ (mem_look hb)
        · dsimp only at hT
          rw [look_map (fun e : Option Nat × Tree => e.2)] at hT
          cases hq : look g1.gv l with
          | none => simp [hq] at hT
          | some e =>
            obtain ⟨om, T'⟩ := e
            simp only [hq, Option.map_some, Option.some.injEq] at hT
            subst hT
            have hv := k3 _ (mem_look hq)
            cases om with
            | none =>
              simp only [Valid] at hv
              have : (gc w G g1).hv l = .slice none 0 0 := by simp only [gc, hq]
              rw [this]
              exact .inl ⟨⟨none, rfl⟩, by simp [Tree.n, hv]⟩
            | some m =>
              simp only [Valid] at hv
              have : (gc w G g1).hv l = G.hv m := by simp only [gc, hq]
              rw [this]
              refine (h.hp m T' hv).frame fun b hb _ => ⟨rfl, ?_⟩
              have hlt : b < w.heap.size := h.lt b (by simp [hb])
              simp only [gc, hlt, if_true, hb, gcOw, lab2_of n2 (mem_look hq)]
        · by_cases hlt : b < w.heap.size
          · exact hlt
          · simp [gc, hlt] at hb
        · have hL := gc_lent h g1
          exact (h.keep.at_ b (gc_cur hb).2).carry ⟨fun c hc => ⟨rfl, hL.1 c (.inl hc)⟩, hL.2⟩ rfl
      · simp at hl
    · simp at hl
  · simp at hl
end
end Go.D
