/-
  Steps of the relation: a slot is set; the world grows; a tree is made, grown or written; a box is made or written.
-/
import Derived.Test.YtcgigcmleodjbaaVDc
namespace Go.D
set_option linter.unusedVariables false
def St.setTm (σ : St) (d : Option Nat) (x : TV) : St := match d with | some d => σ.put d x | none => σ
theorem RG.put {P : Program} {F : Fr P} {G : Gh} {σ : St} {a : Act} {w : World} (h : RG F G σ a w) {d : Nat} {x : TV} {v : Value} (hd : d < σ.nt) (hx : TVR w G x v) :
    RG F G (σ.put d x) (a.put (some d) v) w where
  tm := by
    intro t tv hl
    simp only [St.put, look_put] at hl
    have hlt : d < a.tmps.size := h.nt ▸ hd
    by_cases ht : t = d
    · subst ht
      simp only [if_true, Option.some.injEq] at hl
      subst hl
      simpa [Act.put, hlt] using hx
    · simp only [ht, if_false] at hl
      have := h.tm t tv hl
      simpa [Act.put, Array.getElem?_setIfInBounds_ne (Ne.symm ht)] using this
  bx := h.bx
  hp := h.hp
  lt := h.lt
  os := h.os
  tape := h.tape
  output := h.output
  size := h.size
  keep := h.keep
  fb := h.fb
  fl := h.fl
  nt := by simpa [Act.put, St.put] using h.nt
  df := h.df
theorem RG.setTm {P : Program} {F : Fr P} {G : Gh} {σ : St} {a : Act} {w : World} (h : RG F G σ a w) {d : Option Nat} {x : TV} {v : Value} (hd : ∀ t, d = some t → t < σ.nt) (hx : TVR w G x v) :
    RG F G (σ.setTm d x) (a.put d v) w := by
  cases d with
  | none => exact h
  | some t => exact h.put (hd t rfl) hx
theorem RG.map {P : Program} {F : Fr P} {G : Gh} {σ : St} {a : Act} {w : World} (h : RG F G σ a w) {fc : Cell → Cell} {fv : TV → TV} (hc : ∀ c v, CellR w G c v → CellR w G (fc c) v)
    (hv : ∀ x v, TVR w G x v → TVR w G (fv x) v) : RG F G (σ.map fc fv) a w where
  tm := by
    intro t tv hl
    simp only [St.map, look_map fv] at hl
    cases hq : look σ.tm t with
    | none => simp [hq] at hl
    | some x =>
      simp only [hq, Option.map_some, Option.some.injEq] at hl
      subst hl
      exact hv _ _ (h.tm t x hq)
  bx := by
    intro b cs hl
    simp only [St.map, look_map (fun cs : List Cell => cs.map fc)] at hl
    cases hq : look σ.bx b with
    | none => simp [hq] at hl
    | some x =>
      simp only [hq, Option.map_some, Option.some.injEq] at hl
      subst hl
      obtain ⟨h1, r, e, h2, h3⟩ := h.bx b x hq
      exact ⟨h1, r, e, h2, Cells.map_ok hc h3⟩
  hp := h.hp
  lt := h.lt
  os := h.os
  tape := h.tape
  output := h.output
  size := h.size
  keep := h.keep
  fb := h.fb
  fl := h.fl
  nt := h.nt
  df := h.df
theorem RG.kill {P : Program} {F : Fr P} {G : Gh} {σ : St} {a : Act} {w : World} (h : RG F G σ a w) (ls : List Nat) : RG F G (σ.kill ls) a w :=
  h.map (fun _ _ => Cell.kill_ok ls) (fun _ _ => TV.map_ok fun _ _ => Cell.kill_ok ls)
theorem RG.loose {P : Program} {F : Fr P} {G : Gh} {σ : St} {a : Act} {w : World} (h : RG F G σ a w) (ls : List Nat) : RG F G (σ.loose ls) a w :=
  h.map (fun _ _ => Cell.loose_ok ls) (fun _ _ => TV.map_ok fun _ _ => Cell.loose_ok ls)
/-- the world goes on, what is not gone is as it was -/
structure Onward (w w' : World) : Prop where
  os : w'.os = w.os
  tape : w'.tape = w.tape
  output : w'.output = w.output ∧ w.drawn ≤ w'.drawn
  size : w.heap.size ≤ w'.heap.size
theorem RG.world2 {P : Program} {F : Fr P} {G : Gh} {σ : St} {a : Act} {w w' : World} (h : RG F G σ a w) (ho : Onward w w') (hs : ∀ g, G.ow g ≠ .gone → G.ow g ≠ .cur → w'.heap[g]? = w.heap[g]?) (hc : ∀ g, G.ow g = .cur → CurStep w w' g) : RG F G σ a w' where
  tm := fun t tv hl => TV.carry ⟨fun g hg => ⟨hs g (by simp [hg]) (by simp [hg]), hg⟩, fun g hg => hg⟩ (fun _ _ => rfl) (fun m _ g hg => ⟨hs g (by simp [hg]) (by simp [hg]), hg⟩) (fun _ _ => rfl) (h.tm t tv hl)
  bx := fun b cs hl => by
    obtain ⟨h1, r, e, h2, h3⟩ := h.bx b cs hl
    exact ⟨h1, r, e, (hs _ (by simp [h1]) (by simp [h1])).trans h2, Cells.carry ⟨fun g hg => ⟨hs g (by simp [hg]) (by simp [hg]), hg⟩, fun g hg => hg⟩ (fun _ _ => rfl) (fun m _ g hg => ⟨hs g (by simp [hg]) (by simp [hg]), hg⟩) h3⟩
  hp := fun l T hl => (h.hp l T hl).frame fun g hg _ => ⟨hs g (by simp [hg]) (by simp [hg]), hg⟩
  lt := fun g hg => Nat.lt_of_lt_of_le (h.lt g hg) ho.size
  os := ho.os.trans h.os
  tape := ho.tape.trans h.tape
  output := ⟨ho.output.1.trans h.output.1, Nat.le_trans h.output.2 ho.output.2⟩
  size := Nat.le_trans h.size ho.size
  keep := h.keep.step ⟨fun g hg => ⟨hs g (by simp [hg]) (by simp [hg]), hg⟩, fun g hg => hg⟩ hc (fun g hg => hg)
  fb := h.fb
  fl := h.fl
  nt := h.nt
  df := h.df
theorem RG.world {P : Program} {F : Fr P} {G : Gh} {σ : St} {a : Act} {w w' : World} (h : RG F G σ a w) (ho : Onward w w') (hs : ∀ g, G.ow g ≠ .gone → w'.heap[g]? = w.heap[g]?) : RG F G σ a w' :=
  h.world2 ho (fun g h1 _ => hs g h1) fun g hg => (h.keep.at_ g hg).same (hs g (by simp [hg]))
theorem RG.drew {P : Program} {F : Fr P} {G : Gh} {σ : St} {a : Act} {w : World} (h : RG F G σ a w) : RG F G σ a w.drew :=
  h.world ⟨rfl, rfl, ⟨rfl, by first | exact Nat.le_refl _ | exact Nat.le_succ _⟩, Nat.le_refl _⟩ fun _ _ => rfl
open Classical in
/-- the tree l is made or made anew, the trees ab go into it -/
theorem RG.retree {P : Program} {F : Fr P} {G : Gh} {σ : St} {a : Act} {w w' : World} (h : RG F G σ a w) (l : Nat) (ab : List Nat) (T : Tree) (v : Value) (N : Nat → Prop)
    (ho : Onward w w') (hs : ∀ g, G.ow g ≠ .gone → G.ow g ≠ .lab l → w'.heap[g]? = w.heap[g]?)
    (hN : ∀ g, N g → g < w'.heap.size ∧ (G.ow g = .gone ∨ G.ow g = .lab l ∨ ∃ m, m ∈ ab ∧ G.ow g = .lab m))
    (hT : TO w' (.sl T.k T.n T.f) v N) (hl : l ∉ σ.fl) (hab : ∀ m, m ∈ ab → m ∉ σ.fl) :
    ∃ G', RG F G' ({ σ with hp := (l, T) :: σ.hp.filter fun p => !ab.contains p.1 }.kill (l :: ab)) a w' ∧ G'.hv l = v ∧ (∀ m, m ≠ l → G'.hv m = G.hv m) ∧ (∀ b, G.ow b = .gone → ¬ N b → G'.ow b = .gone) ∧ G'.be = G.be ∧ (ab = [] → (∀ g, N g → G.ow g = .gone) → ∀ g, G.ow g ≠ .gone → G'.ow g = G.ow g) := by
  let G' : Gh := { ow := fun g => if N g ∨ ∃ m, m ∈ ab ∧ G.ow g = .lab m then .lab l else G.ow g, be := G.be, hv := fun m => if m = l then v else G.hv m }
  have hfree : ∀ g, G.ow g = .free → G'.ow g = .free := by
    intro g hg
    have : ¬ (N g ∨ ∃ m, m ∈ ab ∧ G.ow g = .lab m) := by
      rintro (hn | ⟨m, _, hm⟩)
      · rcases (hN g hn).2 with e | e | ⟨m, _, e⟩ <;> simp [hg] at e
      · simp [hg] at hm
    exact (if_neg this).trans hg
  have hcur : ∀ g, G.ow g = .cur → G'.ow g = .cur := by
    intro g hg
    have : ¬ (N g ∨ ∃ m, m ∈ ab ∧ G.ow g = .lab m) := by
      rintro (hn | ⟨m, _, hm⟩)
      · rcases (hN g hn).2 with e | e | ⟨m, _, e⟩ <;> simp [hg] at e
      · simp [hg] at hm
    exact (if_neg this).trans hg
  have hbox : ∀ g b, G.ow g = .box b → G'.ow g = .box b := by
    intro g b hg
    have : ¬ (N g ∨ ∃ m, m ∈ ab ∧ G.ow g = .lab m) := by
      rintro (hn | ⟨m, _, hm⟩)
      · rcases (hN g hn).2 with e | e | ⟨m, _, e⟩ <;> simp [hg] at e
      · simp [hg] at hm
    exact (if_neg this).trans hg
  have hlab : ∀ g m, m ∉ l :: ab → G.ow g = .lab m → w'.heap[g]? = w.heap[g]? ∧ G'.ow g = .lab m := by
    intro g m hm hg
    have hml : m ≠ l := fun e => hm (by simp [e])
    have hma : m ∉ ab := fun e => hm (by simp [e])
    have : ¬ (N g ∨ ∃ m, m ∈ ab ∧ G.ow g = .lab m) := by
      rintro (hn | ⟨m', h', hm'⟩)
      · rcases (hN g hn).2 with e | e | ⟨m', h', e⟩
        · simp [hg] at e
        · rw [hg] at e; injection e with e; exact hml e
        · rw [hg] at e; injection e with e; exact hma (e ▸ h')
      · rw [hg] at hm'; injection hm' with e; exact hma (e ▸ h')
    exact ⟨hs g (by simp [hg]) (by rw [hg]; intro e; injection e with e; exact hml e), (if_neg this).trans hg⟩
  have fo : FreeOk w w' G G' := ⟨fun g hg => ⟨hs g (by simp [hg]) (by simp [hg]), hfree g hg⟩, hcur⟩
  have hk := h.kill (l :: ab)
  refine ⟨G', ?_, by simp [G'], fun m hm => by simp [G', hm], fun b hb hn => ?_, rfl, fun he hNn g hg => ?_⟩
  rotate_left
  rotate_left
  · have : ¬ (N g ∨ ∃ m, m ∈ ab ∧ G.ow g = .lab m) := by
      rintro (h' | ⟨m', hm', _⟩)
      · exact hg (hNn g h')
      · rw [he] at hm'; cases hm'
    exact if_neg this
  rotate_left
  · have : ¬ (N b ∨ ∃ m, m ∈ ab ∧ G.ow b = .lab m) := by
      rintro (h' | ⟨m', _, hm'⟩)
      · exact hn h'
      · simp [hb] at hm'
    exact (if_neg this).trans hb
  constructor
  case tm =>
    intro t tv hlk
    simp only [St.kill, St.map, look_map (fun x : TV => x.kill (l :: ab))] at hlk
    cases hq : look σ.tm t with
    | none => simp [hq] at hlk
    | some x =>
      simp only [hq, Option.map_some, Option.some.injEq] at hlk
      subst hlk
      have hx := TV.map_ok (f := fun c => c.kill (l :: ab)) (bad := fun x => (l :: ab).any fun l => x.refs l || x.mems l) (fun _ _ => Cell.kill_ok (l :: ab)) (h.tm t x hq)
      refine TV.carry fo (fun m hm => ?_) (fun m hm g hg => hlab g m (TV.kill_mems hm) hg) (fun _ _ => rfl) hx
      have := TV.kill_refs hm
      have hml : m ≠ l := fun e => this (by simp [e])
      simp [G', hml]
  case bx =>
    intro b cs hlk
    simp only [St.kill, St.map, look_map (fun cs : List Cell => cs.map (·.kill (l :: ab)))] at hlk
    cases hq : look σ.bx b with
    | none => simp [hq] at hlk
    | some x =>
      simp only [hq, Option.map_some, Option.some.injEq] at hlk
      subst hlk
      obtain ⟨h1, r, e, h2, h3⟩ := h.bx b x hq
      refine ⟨hbox _ _ h1, r, e, (hs (G.be b) (by simp [h1]) (by simp [h1])).trans h2, ?_⟩
      refine Cells.carry fo (fun m hm => ?_) (fun m hm g hg => hlab g m (any_kill_mems hm) hg) (Cells.map_ok (fun _ _ => Cell.kill_ok (l :: ab)) h3)
      have := any_kill_refs hm
      have hml : m ≠ l := fun e => this (by simp [e])
      simp [G', hml]
  case hp =>
    intro m T' hlk
    simp only [St.kill, St.map, look] at hlk
    by_cases hml : m = l
    · subst hml
      simp only [BEq.rfl, if_true, Option.some.injEq] at hlk
      subst hlk
      simp only [G', if_true]
      exact hT.frame fun g hg _ => ⟨rfl, by simp [hg]⟩
    · have h0 : (m == l) = false := by simpa using hml
      simp only [h0, Bool.false_eq_true, if_false, look_filter (fun m => !ab.contains m)] at hlk
      split at hlk
      · rename_i hna
        have hma : m ∉ ab := by simpa using hna
        have := h.hp m T' hlk
        simp only [G', hml, if_false]
        exact this.frame fun g hg _ => hlab g m (by simp [hml, hma]) hg
      · cases hlk
  case lt =>
    intro g hg
    by_cases hn : N g
    · exact (hN g hn).1
    · refine Nat.lt_of_lt_of_le (h.lt g fun e => hg ?_) ho.size
      have : ¬ (N g ∨ ∃ m, m ∈ ab ∧ G.ow g = .lab m) := by
        rintro (hn' | ⟨m', h', hm'⟩)
        · exact hn hn'
        · simp [e] at hm'
      exact (if_neg this).trans e
  case os => exact ho.os.trans h.os
  case tape => exact ho.tape.trans h.tape
  case output => exact ⟨ho.output.1.trans h.output.1, Nat.le_trans h.output.2 ho.output.2⟩
  case size => exact Nat.le_trans h.size ho.size
  case keep =>
    refine h.keep.next fo (fun g hg => hs g (by simp [hg]) (by simp [hg])) fun g hg => ?_
    by_cases hc : N g ∨ ∃ m, m ∈ ab ∧ G.ow g = .lab m
    · have : G'.ow g = .lab l := if_pos hc
      rw [this] at hg; cases hg
    · have : G'.ow g = G.ow g := if_neg hc
      rw [← this]; exact hg
  case fb => exact h.fb
  case fl =>
    intro m u hm
    obtain ⟨h1, h2⟩ := h.fl m u hm
    have hml : m ≠ l := fun e => hl (by simpa [e] using h2)
    exact ⟨by simp only [G', hml, if_false]; exact h1, h2⟩
  case nt => exact h.nt
  case df => exact h.df
open Classical in
/-- a block becomes the box b -/
theorem RG.newBox {P : Program} {F : Fr P} {G : Gh} {σ : St} {a : Act} {w : World} (h : RG F G σ a w) (b : Nat) (cs : List Cell) (g0 : Nat) (r : Array Value) (e : TypeId)
    (hb : σ.hasB b = false) (h0 : G.ow g0 = .gone) (hg : w.heap[g0]? = some (.cells r e (0, 0))) (hc : CellsR w G cs r) :
    ∃ G', RG F G' { σ with bx := D.put σ.bx b cs } a w ∧ G'.be b = g0 ∧ (∀ g, G.ow g ≠ .gone → G'.ow g = G.ow g) ∧ (∀ b', b' ≠ b → G'.be b' = G.be b') ∧ G'.hv = G.hv := by
  let G' : Gh := { ow := fun g => if g = g0 then .box b else G.ow g, be := fun b' => if b' = b then g0 else G.be b', hv := G.hv }
  have hne : ∀ g, G.ow g ≠ .gone → G'.ow g = G.ow g := by
    intro g hgo
    have : g ≠ g0 := fun e => hgo (e ▸ h0)
    simp [G', this]
  have fo : FreeOk w w G G' := ⟨fun g hg => ⟨rfl, by rw [hne g (by simp [hg]), hg]⟩, fun g hg => by rw [hne g (by simp [hg]), hg]⟩
  have mo : ∀ m, MemOk w w G G' m := fun m g hg => ⟨rfl, by rw [hne g (by simp [hg]), hg]⟩
  simp only [St.hasB, Bool.or_eq_false_iff] at hb
  refine ⟨G', ?_, by simp [G'], hne, fun b' hb' => by simp [G', hb'], rfl⟩
  constructor
  case tm =>
    intro t tv hlk
    refine TV.carry fo (fun _ _ => rfl) (fun m _ => mo m) (fun b' hb' => ?_) (h.tm t tv hlk)
    have hbb : b' ≠ b := by
      intro e
      have hmem : ∀ (l : List (Nat × TV)), look l t = some tv → ∃ p ∈ l, p.2 = tv := by
        intro l
        induction l with
        | nil => simp [look]
        | cons p l ih =>
          intro hl
          simp only [look] at hl
          split at hl
          · exact ⟨p, by simp, by simpa using hl⟩
          · obtain ⟨q, hq, hq'⟩ := ih hl
            exact ⟨q, by simp [hq], hq'⟩
      obtain ⟨p, hp, rfl⟩ := hmem _ hlk
      have := hb.1
      rw [List.any_eq_false] at this
      exact this p hp (e ▸ hb')
    simp [G', hbb]
  case bx =>
    intro b' cs' hlk
    simp only [look_put] at hlk
    by_cases hbb : b' = b
    · subst hbb
      simp only [if_true, Option.some.injEq] at hlk
      subst hlk
      exact ⟨by simp [G'], r, e, by simpa [G'] using hg, Cells.carry fo (fun _ _ => rfl) (fun m _ => mo m) hc⟩
    · simp only [hbb, if_false] at hlk
      obtain ⟨h1, r', e', h2, h3⟩ := h.bx b' cs' hlk
      have : G'.be b' = G.be b' := by simp [G', hbb]
      rw [this]
      exact ⟨by rw [hne _ (by simp [h1]), h1], r', e', h2, Cells.carry fo (fun _ _ => rfl) (fun m _ => mo m) h3⟩
  case hp => exact fun l T hlk => (h.hp l T hlk).frame fun g hg _ => ⟨rfl, by rw [hne g (by simp [hg]), hg]⟩
  case lt =>
    intro g hgo
    by_cases e0 : g = g0
    · subst e0
      exact (Array.getElem?_eq_some_iff.1 hg).1
    · exact h.lt g (by simpa [G', e0] using hgo)
  case os => exact h.os
  case tape => exact h.tape
  case output => exact h.output
  case size => exact h.size
  case keep =>
    refine h.keep.next fo (fun _ _ => rfl) fun g hg => ?_
    by_cases e0 : g = g0
    · simp [G', e0] at hg
    · simpa [G', e0] using hg
  case fb =>
    intro b' β hlk
    obtain ⟨h1, h2⟩ := h.fb b' β hlk
    have : b' ≠ b := by intro e; subst e; rw [h2] at hb; simp at hb
    exact ⟨by simp only [G', this, if_false]; exact h1, h2⟩
  case fl => exact h.fl
  case nt => exact h.nt
  case df => exact h.df
/-- a box is written -/
theorem RG.setBox {P : Program} {F : Fr P} {G : Gh} {σ : St} {a : Act} {w w' : World} (h : RG F G σ a w) (b : Nat) (cs0 cs : List Cell) (r : Array Value) (e : TypeId)
    (hb : look σ.bx b = some cs0) (ho : Onward w w') (hs : ∀ g, g ≠ G.be b → w'.heap[g]? = w.heap[g]?) (hg : w'.heap[G.be b]? = some (.cells r e (0, 0))) (hc : CellsR w G cs r) :
    RG F G { σ with bx := D.put σ.bx b cs } a w' := by
  have hbo := (h.bx b cs0 hb).1
  have hne : ∀ g, G.ow g ≠ .box b → w'.heap[g]? = w.heap[g]? := fun g hg => hs g fun e => hg (e ▸ hbo)
  have fo : FreeOk w w' G G := ⟨fun g hg => ⟨hne g (by simp [hg]), hg⟩, fun g hg => hg⟩
  have mo : ∀ m, MemOk w w' G G m := fun m g hg => ⟨hne g (by simp [hg]), hg⟩
  constructor
  case tm => exact fun t tv hlk => TV.carry fo (fun _ _ => rfl) (fun m _ => mo m) (fun _ _ => rfl) (h.tm t tv hlk)
  case bx =>
    intro b' cs' hlk
    simp only [look_put] at hlk
    by_cases hbb : b' = b
    · subst hbb
      simp only [if_true, Option.some.injEq] at hlk
      subst hlk
      exact ⟨hbo, r, e, hg, Cells.carry fo (fun _ _ => rfl) (fun m _ => mo m) hc⟩
    · simp only [hbb, if_false] at hlk
      obtain ⟨h1, r', e', h2, h3⟩ := h.bx b' cs' hlk
      exact ⟨h1, r', e', (hne _ (by rw [h1]; intro e; injection e with e; exact hbb e)).trans h2, Cells.carry fo (fun _ _ => rfl) (fun m _ => mo m) h3⟩
  case hp => exact fun l T hlk => (h.hp l T hlk).frame fun g hg _ => ⟨hne g (by simp [hg]), hg⟩
  case lt => exact fun g hg => Nat.lt_of_lt_of_le (h.lt g hg) ho.size
  case os => exact ho.os.trans h.os
  case tape => exact ho.tape.trans h.tape
  case output => exact ⟨ho.output.1.trans h.output.1, Nat.le_trans h.output.2 ho.output.2⟩
  case size => exact Nat.le_trans h.size ho.size
  case keep => exact h.keep.next fo (fun g hg => hne g (by simp [hg])) fun g hg => hg
  case fb => exact h.fb
  case fl => exact h.fl
  case nt => exact h.nt
  case df => exact h.df
open Classical in
/-- a tree is written in place (its header stays); the trees ab go into it -/
theorem RG.setTree {P : Program} {F : Fr P} {G : Gh} {σ : St} {a : Act} {w w' : World} (h : RG F G σ a w) (l : Nat) (ab : List Nat) (T0 T : Tree)
    (hl : look σ.hp l = some T0) (hla : l ∉ ab) (hab : ∀ m, m ∈ ab → m ∉ σ.fl) (ho : Onward w w') (hs : ∀ g, G.ow g ≠ .gone → G.ow g ≠ .lab l → w'.heap[g]? = w.heap[g]?)
    (hT : TO w' (.sl T.k T.n T.f) (G.hv l) (fun g => G.ow g = .lab l ∨ ∃ m, m ∈ ab ∧ G.ow g = .lab m)) :
    ∃ G', RG F G' (({ σ with hp := (l, T) :: σ.hp.filter fun p => !ab.contains p.1 }.kill ab).loose [l]) a w' ∧ G'.hv = G.hv ∧ G'.be = G.be := by
  let G' : Gh := { ow := fun g => if ∃ m, m ∈ ab ∧ G.ow g = .lab m then .lab l else G.ow g, be := G.be, hv := G.hv }
  have hsame : ∀ g, (∀ m, m ∈ ab → G.ow g ≠ .lab m) → G'.ow g = G.ow g := by
    intro g hg
    have : ¬ ∃ m, m ∈ ab ∧ G.ow g = .lab m := by rintro ⟨m, hm, e⟩; exact hg m hm e
    simp only [G', this, if_false]
  have fo : FreeOk w w' G G' := ⟨fun g hg => ⟨hs g (by simp [hg]) (by simp [hg]), by rw [hsame g (by simp [hg]), hg]⟩, fun g hg => by rw [hsame g (by simp [hg]), hg]⟩
  have mo : ∀ m, m ≠ l → m ∉ ab → MemOk w w' G G' m := by
    intro m hml hma g hg
    refine ⟨hs g (by simp [hg]) (by rw [hg]; intro e; injection e with e; exact hml e), ?_⟩
    rw [hsame g (fun m' hm' e => by rw [hg] at e; injection e with e; exact hma (e ▸ hm')), hg]
  have hcell : ∀ (c : Cell) (v : Value), CellR w G c v → CellR w' G' ((c.kill ab).loose [l]) v := by
    intro c v hc
    refine Cell.carry fo (fun _ _ => rfl) (fun m hm => ?_) (Cell.loose_ok [l] (Cell.kill_ok ab hc))
    obtain ⟨h1, h2⟩ := Cell.loose_mems hm
    exact mo m (by simpa using h2) (Cell.kill_mems h1).2
  have hcells : ∀ (cs : List Cell) (vs : Array Value), CellsR w G cs vs → CellsR w' G' ((cs.map (·.kill ab)).map (·.loose [l])) vs := by
    intro cs vs hc
    rw [List.map_map]
    refine ⟨by simpa using hc.1, fun j c hj => ?_⟩
    rw [List.getElem?_map] at hj
    cases hq : cs[j]? with
    | none => simp [hq] at hj
    | some c0 =>
      simp only [hq, Option.map_some, Option.some.injEq] at hj
      subst hj
      obtain ⟨u, hu, ht⟩ := hc.2 j c0 hq
      exact ⟨u, hu, hcell _ _ ht⟩
  refine ⟨G', ?_, rfl, rfl⟩
  constructor
  case tm =>
    intro t tv hlk
    simp only [St.loose, St.kill, St.map, List.map_map, Function.comp_def] at hlk
    rw [look_map (fun x : TV => (x.kill ab).loose [l])] at hlk
    cases hq : look σ.tm t with
    | none => simp [hq] at hlk
    | some x =>
      simp only [hq, Option.map_some, Option.some.injEq] at hlk
      subst hlk
      have hx := TV.map_ok (f := fun c => c.loose [l]) (bad := fun x => [l].any fun l => x.mems l) (fun _ _ => Cell.loose_ok [l]) (TV.map_ok (f := fun c => c.kill ab) (bad := fun x => ab.any fun l => x.refs l || x.mems l) (fun _ _ => Cell.kill_ok ab) (h.tm t x hq))
      refine TV.carry fo (fun _ _ => rfl) (fun m hm => ?_) (fun _ _ => rfl) hx
      exact mo m (by simpa using TV.loose_mems hm) (TV.kill_mems (TV.loose_mems' hm))
  case bx =>
    intro b cs hlk
    simp only [St.loose, St.kill, St.map, List.map_map, Function.comp_def] at hlk
    rw [look_map (fun cs : List Cell => (cs.map fun c => (c.kill ab).loose [l]))] at hlk
    cases hq : look σ.bx b with
    | none => simp [hq] at hlk
    | some x =>
      simp only [hq, Option.map_some, Option.some.injEq] at hlk
      subst hlk
      obtain ⟨h1, r, e, h2, h3⟩ := h.bx b x hq
      refine ⟨(hsame (G.be b) (by simp [h1])).trans h1, r, e, (hs (G.be b) (by simp [h1]) (by simp [h1])).trans h2, ?_⟩
      have := hcells _ _ h3
      simpa [List.map_map, Function.comp_def] using this
  case hp =>
    intro m T' hlk
    simp only [St.loose, St.kill, St.map, look] at hlk
    by_cases hml : m = l
    · subst hml
      simp only [BEq.rfl, if_true, Option.some.injEq] at hlk
      subst hlk
      refine hT.frame fun g hg _ => ⟨rfl, ?_⟩
      rcases hg with hg | hg
      · rw [hsame g (fun m' hm' e => by rw [hg] at e; injection e with e; exact hla (e ▸ hm')), hg]
      · simp only [G', hg, if_true]
    · have h0 : (m == l) = false := by simpa using hml
      simp only [h0, Bool.false_eq_true, if_false, look_filter (fun m => !ab.contains m)] at hlk
      split at hlk
      · rename_i hna
        have hma : m ∉ ab := by simpa using hna
        exact (h.hp m T' hlk).frame fun g hg _ => mo m hml hma g hg
      · cases hlk
  case lt =>
    intro g hg
    refine Nat.lt_of_lt_of_le (h.lt g fun e => hg ?_) ho.size
    rw [hsame g (by simp [e]), e]
  case os => exact ho.os.trans h.os
  case tape => exact ho.tape.trans h.tape
  case output => exact ⟨ho.output.1.trans h.output.1, Nat.le_trans h.output.2 ho.output.2⟩
  case size => exact Nat.le_trans h.size ho.size
  case keep =>
    refine h.keep.next fo (fun g hg => hs g (by simp [hg]) (by simp [hg])) fun g hg => ?_
    by_cases hc : ∃ m, m ∈ ab ∧ G.ow g = .lab m
    · have : G'.ow g = .lab l := if_pos hc
      rw [this] at hg; cases hg
    · have : G'.ow g = G.ow g := if_neg hc
      rw [← this]; exact hg
  case fb => exact h.fb
  case fl => exact h.fl
  case nt => exact h.nt
  case df => exact h.df
end Go.D
