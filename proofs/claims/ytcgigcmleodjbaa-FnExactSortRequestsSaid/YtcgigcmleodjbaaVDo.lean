/-
  Behind a call: what was given comes back, the result's memory is taken over.
-/
import Derived.Test.YtcgigcmleodjbaaVDn
namespace Go.D
set_option linter.unusedVariables false
/-! killing by a test on labels -/
def Cell.hit (p q : Nat → Bool) : Cell → Bool
  | .ref m => p m
  | .sub m _ _ _ => p m
  | .im (some m) _ _ => q m
  | _ => false
def Cell.zap (p q : Nat → Bool) (c : Cell) : Cell := bif c.hit p q then .dead else c
def TV.hit (p q : Nat → Bool) : TV → Bool
  | .eptr m _ _ _ => p m
  | .sptr (some m) _ _ _ => q m
  | .inn m _ _ _ _ _ => p m || q m
  | .capd m _ => p m || q m
  | _ => false
def TV.zap (p q : Nat → Bool) : TV → TV
  | .v a cs => .v a (cs.map (·.zap p q))
  | .tup ps => .tup (ps.map fun x => (x.1, x.2.map (·.zap p q)))
  | x => bif x.hit p q then .dead else x
/-- no slot and no box mentions a label of p as a slice, nor one of q as memory -/
def St.zap (σ : St) (p q : Nat → Bool) : St := σ.map (·.zap p q) (·.zap p q)
section
variable {P : Program} {F : Fr P} {G G1 G2 : Gh} {σ : St} {a : Act} {w w' : World} {o : Oper} {K : St → Out} {Q : Post} {Qx : Exit → Act → World → Prop} {p q : Nat → Bool}
theorem Cell.zap_ok {c : Cell} {v : Value} (h : CellR w G c v) : CellR w G (c.zap p q) v := by
  unfold Cell.zap
  cases c.hit p q with
  | true => exact h.one
  | false => exact h
theorem TV.zap_ok {x : TV} {v : Value} (h : TVR w G x v) : TVR w G (x.zap p q) v := by
  cases x with
  | v agg cs => exact Part.map_ok (fun _ _ => Cell.zap_ok) h
  | tup ps => exact TV.map_ok (x := .tup ps) (bad := fun _ => false) (fun _ _ => Cell.zap_ok) h
  | _ =>
    simp only [TV.zap]
    generalize TV.hit p q _ = b
    cases b with
    | true => trivial
    | false => exact h
theorem RG.zap (h : RG F G σ a w) (p q : Nat → Bool) : RG F G (σ.zap p q) a w := h.map (fun _ _ => Cell.zap_ok) (fun _ _ => TV.zap_ok)
theorem Cell.zap_refs {c : Cell} {m : Nat} (h : (c.zap p q).refs m = true) : p m = false := by
  unfold Cell.zap at h
  cases hb : c.hit p q with
  | true => simp [hb, Cell.refs] at h
  | false =>
    simp only [hb, cond_false] at h
    cases c <;> simp [Cell.refs] at h <;> subst h <;> simpa [Cell.hit] using hb
theorem Cell.zap_mems {c : Cell} {m : Nat} (h : (c.zap p q).mems m = true) : q m = false := by
  unfold Cell.zap at h
  cases hb : c.hit p q with
  | true => simp [hb, Cell.mems] at h
  | false =>
    simp only [hb, cond_false] at h
    cases c with
    | im s t xs =>
      cases s with
      | none => simp [Cell.mems] at h
      | some l => simp [Cell.mems] at h; subst h; simpa [Cell.hit] using hb
    | _ => simp [Cell.mems] at h
theorem cells_zap_refs {cs : List Cell} {m : Nat} (h : (cs.map (·.zap p q)).any (·.refs m) = true) : p m = false := by
  simp only [List.any_map, List.any_eq_true, Function.comp] at h
  obtain ⟨c, _, hc⟩ := h
  exact Cell.zap_refs hc
theorem cells_zap_mems {cs : List Cell} {m : Nat} (h : (cs.map (·.zap p q)).any (·.mems m) = true) : q m = false := by
  simp only [List.any_map, List.any_eq_true, Function.comp] at h
  obtain ⟨c, _, hc⟩ := h
  exact Cell.zap_mems hc
theorem TV.zap_refs {x : TV} {m : Nat} (h : (x.zap p q).refs m = true) : p m = false := by
  cases x <;> simp only [TV.zap] at h
  case v agg cs => exact cells_zap_refs h
  case tup ps =>
    simp only [TV.refs, List.any_map, List.any_eq_true] at h
    obtain ⟨p, _, hp⟩ := h
    exact cells_zap_refs (by simpa using hp)
  case eptr l k i off =>
    simp only [TV.hit] at h
    cases hb : p l with
    | true => simp [hb, TV.refs] at h
    | false => simp [hb, TV.refs] at h; subst h; exact hb
  case inn l k i off t xs =>
    simp only [TV.hit] at h
    cases hb : (p l || q l) with
    | true => simp [hb, TV.refs] at h
    | false => simp [hb, TV.refs] at h; subst h; exact (Bool.or_eq_false_iff.1 hb).1
  case capd l c =>
    simp only [TV.hit] at h
    cases hb : (p l || q l) with
    | true => simp [hb, TV.refs] at h
    | false => simp [hb, TV.refs] at h; subst h; exact (Bool.or_eq_false_iff.1 hb).1
  all_goals
    generalize TV.hit p q _ = b at h
    cases b <;> simp [TV.refs] at h
theorem TV.zap_mems {x : TV} {m : Nat} (h : (x.zap p q).mems m = true) : q m = false := by
  cases x <;> simp only [TV.zap] at h
  case v agg cs => exact cells_zap_mems h
  case tup ps =>
    simp only [TV.mems, List.any_map, List.any_eq_true] at h
    obtain ⟨p, _, hp⟩ := h
    exact cells_zap_mems (by simpa using hp)
  case inn l k i off t xs =>
    simp only [TV.hit] at h
    cases hb : (p l || q l) with
    | true => simp [hb, TV.mems] at h
    | false => simp [hb, TV.mems] at h; subst h; exact (Bool.or_eq_false_iff.1 hb).2
  case capd l c =>
    simp only [TV.hit] at h
    cases hb : (p l || q l) with
    | true => simp [hb, TV.mems] at h
    | false => simp [hb, TV.mems] at h; subst h; exact (Bool.or_eq_false_iff.1 hb).2
  case sptr s t x off =>
    cases s with
    | none => simp [TV.hit, TV.mems] at h
    | some l =>
      simp only [TV.hit] at h
      cases hb : q l with
      | true => simp [hb, TV.mems] at h
      | false => simp [hb, TV.mems] at h; subst h; exact hb
  all_goals
    generalize TV.hit p q _ = b at h
    cases b <;> simp [TV.mems] at h
/-- no mention of the label as a slice -/
def NoRef (σ : St) (l : Nat) : Prop := (∀ t tv, look σ.tm t = some tv → tv.refs l = false) ∧ ∀ b cs, look σ.bx b = some cs → cs.any (·.refs l) = false
theorem zap_noRef {l : Nat} (hl : p l = true) : NoRef (σ.zap p q) l := by
  constructor
  · intro t tv h
    simp only [St.zap, St.map, look_map (fun x : TV => x.zap p q)] at h
    cases hq : look σ.tm t with
    | none => simp [hq] at h
    | some x =>
      simp only [hq, Option.map_some, Option.some.injEq] at h
      subst h
      cases hb : (x.zap p q).refs l with
      | false => rfl
      | true => have := TV.zap_refs hb; simp [hl] at this
  · intro b cs h
    simp only [St.zap, St.map, look_map (fun cs : List Cell => cs.map (·.zap p q))] at h
    cases hq : look σ.bx b with
    | none => simp [hq] at h
    | some x =>
      simp only [hq, Option.map_some, Option.some.injEq] at h
      subst h
      cases hb : (x.map (·.zap p q)).any (·.refs l) with
      | false => rfl
      | true => have := cells_zap_refs hb; simp [hl] at this
/-- what has changed of a ghost: owners within U, headers within L -/
structure Grow (U : Nat → Prop) (L : Nat → Prop) (G G' : Gh) : Prop where
  ow : ∀ b, G'.ow b = G.ow b ∨ (U b ∧ G.ow b = .gone)
  be : G'.be = G.be
  hv : ∀ m, G'.hv m = G.hv m ∨ L m
theorem Grow.refl (U L : Nat → Prop) (G : Gh) : Grow U L G G := ⟨fun _ => .inl rfl, rfl, fun _ => .inl rfl⟩
theorem Grow.mono {U U' L L' : Nat → Prop} (h : Grow U L G G1) (hu : ∀ b, U b → U' b) (hl : ∀ m, L m → L' m) : Grow U' L' G G1 :=
  ⟨fun b => (h.ow b).imp id fun x => ⟨hu b x.1, x.2⟩, h.be, fun m => (h.hv m).imp id (hl m)⟩
theorem Grow.trans {U L : Nat → Prop} (h : Grow U L G G1) (h' : Grow U L G1 G2) : Grow U L G G2 := by
  refine ⟨fun b => ?_, h'.be.trans h.be, fun m => ?_⟩
  · rcases h'.ow b with e | ⟨u, e⟩
    · rcases h.ow b with e' | x
      · exact .inl (e.trans e')
      · exact .inr x
    · rcases h.ow b with e' | x
      · exact .inr ⟨u, e' ▸ e⟩
      · exact .inr x
  · rcases h'.hv m with e | x
    · rcases h.hv m with e' | x
      · exact .inl (e.trans e')
      · exact .inr x
    · exact .inr x
theorem Grow.same {U L : Nat → Prop} (h : Grow U L G G1) {b : Nat} (hb : G.ow b ≠ .gone) : G1.ow b = G.ow b := by
  rcases h.ow b with e | ⟨_, e⟩
  · exact e
  · exact absurd e hb
theorem Grow.gone {U L : Nat → Prop} (h : Grow U L G G1) {b : Nat} (hb : G.ow b = .gone) (hu : ¬ U b) : G1.ow b = .gone := by
  rcases h.ow b with e | ⟨u, _⟩
  · exact e.trans hb
  · exact absurd u hu
theorem Grow.carry {U L : Nat → Prop} (h : Grow U L G G1) : FreeOk w w G G1 ∧ ∀ m, MemOk w w G G1 m :=
  ⟨⟨fun g hg => ⟨rfl, (h.same (by simp [hg])).trans hg⟩, fun g hg => (h.same (by simp [hg])).trans hg⟩, fun m g hg => ⟨rfl, (h.same (by simp [hg])).trans hg⟩⟩
open Classical in
/-- a tree comes under a label: new (nothing mentions it), or with the header that the label has -/
theorem RG.addTree (h : RG F G σ a w) (l : Nat) (T : Tree) (v : Value) (N : Nat → Prop) (hN : ∀ g, N g → g < w.heap.size ∧ G.ow g = .gone) (hT : TO w (.sl T.k T.n T.f) v N)
    (hv : G.hv l = v ∨ (l ∉ σ.fl ∧ NoRef σ l)) : ∃ G', RG F G' { σ with hp := (l, T) :: σ.hp } a w ∧ G'.hv l = v ∧ Grow N (· = l) G G' ∧ ∀ g, N g → G'.ow g = .lab l := by
  let G' : Gh := { ow := fun g => if N g then .lab l else G.ow g, be := G.be, hv := fun m => if m = l then v else G.hv m }
  have gr : Grow N (· = l) G G' := by
    refine ⟨fun b => ?_, rfl, fun m => ?_⟩
    · by_cases hb : N b
      · exact .inr ⟨hb, (hN b hb).2⟩
      · exact .inl (if_neg hb)
    · by_cases hm : m = l
      · exact .inr hm
      · exact .inl (if_neg hm)
  obtain ⟨fo, mo⟩ := gr.carry (w := w)
  have hvm : ∀ m, (m = l → G.hv l = v) → G'.hv m = G.hv m := by
    intro m hm
    by_cases e : m = l
    · subst e; simp [G', hm rfl]
    · simp [G', e]
  refine ⟨G', ?_, by simp [G'], gr, fun g hg => by simp [G', hg]⟩
  constructor
  case tm =>
    intro t tv hl
    refine TV.carry fo (fun m hm => hvm m fun e => ?_) (fun m _ => mo m) (fun _ _ => rfl) (h.tm t tv hl)
    rcases hv with hv | ⟨_, hn⟩
    · exact hv
    · subst e; rw [hn.1 t tv hl] at hm; simp at hm
  case bx =>
    intro b cs hl
    obtain ⟨h1, r, e, h2, h3⟩ := h.bx b cs hl
    refine ⟨(gr.same (b := G.be b) (by simp [h1])).trans h1, r, e, h2, Cells.carry fo (fun m hm => hvm m fun e => ?_) (fun m _ => mo m) h3⟩
    rcases hv with hv | ⟨_, hn⟩
    · exact hv
    · subst e; rw [hn.2 b cs hl] at hm; simp at hm
  case hp =>
    intro m T' hl
    simp only [look] at hl
    by_cases hm : m = l
    · subst hm
      simp only [BEq.rfl, if_true, Option.some.injEq] at hl
      subst hl
      simp only [G', if_true]
      exact hT.frame fun g hg _ => ⟨rfl, by simp [hg]⟩
    · have h0 : (m == l) = false := by simpa using hm
      simp only [h0, Bool.false_eq_true, if_false] at hl
      have : G'.hv m = G.hv m := if_neg hm
      rw [this]
      exact (h.hp m T' hl).frame fun g hg _ => mo m g hg
  case lt =>
    intro g hg
    by_cases hn : N g
    · exact (hN g hn).1
    · exact h.lt g (by simpa [G', hn] using hg)
  case os => exact h.os
  case tape => exact h.tape
  case output => exact h.output
  case size => exact h.size
  case keep =>
    refine h.keep.next fo (fun _ _ => rfl) fun g hg => ?_
    by_cases hn : N g
    · simp [G', hn] at hg
    · simpa [G', hn] using hg
  case fb => exact h.fb
  case fl =>
    intro m u hm
    obtain ⟨h1, h2⟩ := h.fl m u hm
    refine ⟨(hvm m fun e => ?_).trans h1, h2⟩
    rcases hv with hv | ⟨hn, _⟩
    · exact hv
    · subst e; exact absurd (by simpa using h2) hn
  case nt => exact h.nt
  case df => exact h.df
open Classical in
/-- a box comes back -/
theorem RG.addBox (h : RG F G σ a w) (b : Nat) (cs : List Cell) (r : Array Value) (e : TypeId) (h0 : G.ow (G.be b) = .gone) (hg : w.heap[G.be b]? = some (.cells r e (0, 0))) (hc : CellsR w G cs r) :
    ∃ G', RG F G' { σ with bx := (b, cs) :: σ.bx } a w ∧ Grow (· = G.be b) (fun _ => False) G G' := by
  let G' : Gh := { ow := fun g => if g = G.be b then .box b else G.ow g, be := G.be, hv := G.hv }
  have gr : Grow (· = G.be b) (fun _ => False) G G' := by
    refine ⟨fun g => ?_, rfl, fun m => .inl rfl⟩
    by_cases hb : g = G.be b
    · exact .inr ⟨hb, hb ▸ h0⟩
    · exact .inl (if_neg hb)
  obtain ⟨fo, mo⟩ := gr.carry (w := w)
  refine ⟨G', ?_, gr⟩
  constructor
  case tm => exact fun t tv hl => TV.carry fo (fun _ _ => rfl) (fun m _ => mo m) (fun _ _ => rfl) (h.tm t tv hl)
  case bx =>
    intro b' cs' hl
    simp only [look] at hl
    by_cases hbb : b' = b
    · subst hbb
      simp only [BEq.rfl, if_true, Option.some.injEq] at hl
      subst hl
      exact ⟨by simp [G'], r, e, hg, Cells.carry fo (fun _ _ => rfl) (fun m _ => mo m) hc⟩
    · have h0' : (b' == b) = false := by simpa using hbb
      simp only [h0', Bool.false_eq_true, if_false] at hl
      obtain ⟨h1, r', e', h2, h3⟩ := h.bx b' cs' hl
      exact ⟨(gr.same (b := G.be b') (by simp [h1])).trans h1, r', e', h2, Cells.carry fo (fun _ _ => rfl) (fun m _ => mo m) h3⟩
  case hp => exact fun l T hl => (h.hp l T hl).frame fun g hg _ => mo l g hg
  case lt =>
    intro g hgo
    by_cases e0 : g = G.be b
    · subst e0; exact (Array.getElem?_eq_some_iff.1 hg).1
    · exact h.lt g (by simpa [G', e0] using hgo)
  case os => exact h.os
  case tape => exact h.tape
  case output => exact h.output
  case size => exact h.size
  case keep =>
    refine h.keep.next fo (fun _ _ => rfl) fun g hg => ?_
    by_cases e0 : g = G.be b
    · simp [G', e0] at hg
    · simpa [G', e0] using hg
  case fb => exact h.fb
  case fl => exact h.fl
  case nt => exact h.nt
  case df => exact h.df
def dropOw (gl kl gb : List Nat) : Own → Own
  | .lab m => if m ∈ gl ∨ m ∈ kl then .gone else .lab m
  | .box b => if b ∈ gb then .gone else .box b
  | x => x
/-- what is given is gone: labels gl, boxes gb; those of kl keep their headers -/
theorem RG.drop (h : RG F G σ a w) (gl kl gb : List Nat) : ∃ G', RG F G' ({ σ with hp := σ.hp.filter (fun x => !(gl.contains x.1 || kl.contains x.1)), bx := σ.bx.filter fun x => !gb.contains x.1 }.zap gl.contains (fun m => gl.contains m || kl.contains m)) a w ∧ G'.be = G.be ∧ G'.hv = G.hv ∧
    (∀ b, G.ow b = .gone → G'.ow b = .gone) ∧ (∀ b m, G.ow b = .lab m → (m ∈ gl ∨ m ∈ kl) → G'.ow b = .gone) ∧ (∀ b m, G.ow b = .box m → m ∈ gb → G'.ow b = .gone) ∧ (∀ b, G'.ow b ≠ .gone → G'.ow b = G.ow b) ∧
    (∀ b m, G'.ow b = .lab m → m ∉ gl ∧ m ∉ kl) ∧ (∀ b m, G'.ow b = .box m → m ∉ gb) ∧ (∀ b, G.ow b = .free → G'.ow b = .free) ∧ (∀ b m, G.ow b = .lab m → m ∉ gl → m ∉ kl → G'.ow b = .lab m) ∧ (∀ b m, G.ow b = .box m → m ∉ gb → G'.ow b = .box m) ∧ ∀ b, G.ow b = .cur → G'.ow b = .cur := by
  let G' : Gh := { ow := fun g => dropOw gl kl gb (G.ow g), be := G.be, hv := G.hv }
  have sm : ∀ g, G'.ow g ≠ .gone → G'.ow g = G.ow g := by
    intro g hg
    simp only [G'] at hg ⊢
    cases hq : G.ow g <;> simp only [hq, dropOw] at hg ⊢ <;> split <;> simp_all
  have fo : FreeOk w w G G' := ⟨fun g hg => ⟨rfl, by simp [G', dropOw, hg]⟩, fun g hg => by simp [G', dropOw, hg]⟩
  have mo : ∀ m, m ∉ gl → m ∉ kl → MemOk w w G G' m := fun m h1 h2 g hg => ⟨rfl, by simp [G', dropOw, hg, h1, h2]⟩
  have mo' : ∀ m, (gl.contains m || kl.contains m) = false → MemOk w w G G' m := by
    intro m hm
    simp only [Bool.or_eq_false_iff] at hm
    exact mo m (by simpa using hm.1) (by simpa using hm.2)
  refine ⟨G', ?_, rfl, rfl, fun b hb => by simp [G', dropOw, hb], fun b m hb hm => by simp [G', dropOw, hb, hm], fun b m hb hm => by simp [G', dropOw, hb, hm], sm, fun b m hb => ?_, fun b m hb => ?_, fun b hb => by simp [G', dropOw, hb], fun b m hb h1 h2 => by simp [G', dropOw, hb, h1, h2], fun b m hb hm => by simp [G', dropOw, hb, hm], fun b hb => by simp [G', dropOw, hb]⟩
  rotate_left
  · have h1 := sm b (by simp [hb])
    rw [hb] at h1
    simp only [G', ← h1, dropOw] at hb
    split at hb
    · simp at hb
    · rename_i hn; exact ⟨fun x => hn (.inl x), fun x => hn (.inr x)⟩
  · have h1 := sm b (by simp [hb])
    rw [hb] at h1
    simp only [G', ← h1, dropOw] at hb
    split at hb
    · simp at hb
    · rename_i hn; exact hn
  constructor
  case tm =>
    intro t tv hl
    simp only [St.zap, St.map, look_map (fun x : TV => x.zap gl.contains (fun m => gl.contains m || kl.contains m))] at hl
    cases hq : look σ.tm t with
    | none => simp [hq] at hl
    | some x =>
      simp only [hq, Option.map_some, Option.some.injEq] at hl
      subst hl
      exact TV.carry fo (fun _ _ => rfl) (fun m hm => mo' m (TV.zap_mems hm)) (fun _ _ => rfl) (TV.zap_ok (h.tm t x hq))
  case bx =>
    intro b cs hl
    simp only [St.zap, St.map, look_map (fun cs : List Cell => cs.map (·.zap gl.contains (fun m => gl.contains m || kl.contains m))), look_filter (fun x => !gb.contains x)] at hl
    split at hl
    · rename_i hgb
      cases hq : look σ.bx b with
      | none => simp [hq] at hl
      | some x =>
        simp only [hq, Option.map_some, Option.some.injEq] at hl
        subst hl
        obtain ⟨h1, r, e, h2, h3⟩ := h.bx b x hq
        refine ⟨?_, r, e, h2, Cells.carry fo (fun _ _ => rfl) (fun m hm => mo' m (cells_zap_mems hm)) (Cells.map_ok (fun _ _ => Cell.zap_ok) h3)⟩
        have : b ∉ gb := by simpa using hgb
        simp [G', dropOw, h1, this]
    · simp at hl
  case hp =>
    intro l T hl
    simp only [St.zap, St.map, look_filter (fun x => !(gl.contains x || kl.contains x))] at hl
    split at hl
    · rename_i hgl
      have h1 : (gl.contains l || kl.contains l) = false := by simpa only [Bool.not_eq_true'] using hgl
      exact (h.hp l T hl).frame fun g hg _ => mo' l h1 g hg
    · cases hl
  case lt => exact fun g hg => h.lt g fun e => hg (by simp [G', dropOw, e])
  case os => exact h.os
  case tape => exact h.tape
  case output => exact h.output
  case size => exact h.size
  case keep => exact h.keep.next fo (fun _ _ => rfl) fun g hg => (sm g (by rw [hg]; intro e; cases e)) ▸ hg
  case fb => exact h.fb
  case fl => exact h.fl
  case nt => exact h.nt
  case df => exact h.df
/-! contents taken over -/
def takeC : Nat → List FC → List Cell
  | _, [] => []
  | l, .val v :: cs => .sc v :: takeC (l + 1) cs
  | l, .nl :: cs => .nil :: takeC (l + 1) cs
  | l, .l _ _ :: cs => .ref l :: takeC (l + 1) cs
def takeH : Nat → List FC → List (Nat × Tree)
  | _, [] => []
  | l, .l t xs :: cs => (l, ⟨t, xs⟩) :: takeH (l + 1) cs
  | l, _ :: cs => takeH (l + 1) cs
theorem takeC_len : ∀ (cs : List FC) (l : Nat), (takeC l cs).length = cs.length := by
  intro cs
  induction cs with
  | nil => intro l; rfl
  | cons c cs ih => intro l; cases c <;> simp [takeC, ih]
/-- labels from l on, n of them, are free to be used -/
def Fresh (σ : St) (l n : Nat) : Prop := ∀ m, l ≤ m → m < l + n → m ∉ σ.fl ∧ NoRef σ m
theorem Fresh.hp {l n : Nat} (h : Fresh σ l n) (hp : List (Nat × Tree)) : Fresh { σ with hp := hp } l n := h
theorem take_ok : ∀ (cs : List FC) (us : List Value) (Fs : Nat → Nat → Prop) (G : Gh) (l : Nat) (σ : St), RG F G σ a w → (takeH l cs ≠ [] → Fresh σ l cs.length) → us.length = cs.length →
    (∀ (j : Nat) (c : FC) (u : Value), cs[j]? = some c → us[j]? = some u → TO w (fcC c) u (Fs j) ∧ u.oneCell' = true) → (∀ j b, Fs j b → b < w.heap.size ∧ G.ow b = .gone) → (∀ j j' b, Fs j b → Fs j' b → j = j') →
    ∃ G', RG F G' { σ with hp := takeH l cs ++ σ.hp } a w ∧ (∀ (j : Nat) (c : Cell) (u : Value), (takeC l cs)[j]? = some c → us[j]? = some u → CellR w G' c u) ∧ Grow (fun b => ∃ j, Fs j b) (fun m => l ≤ m ∧ m < l + cs.length) G G' := by
  intro cs
  induction cs with
  | nil => intro us Fs G l σ h _ _ _ _ _; exact ⟨G, h, by simp [takeC], Grow.refl _ _ _⟩
  | cons c cs ih =>
    intro us Fs G l σ h hfr hlen hT hF hd
    cases us with
    | nil => simp at hlen
    | cons u us =>
      obtain ⟨hT0, hone⟩ := hT 0 c u rfl rfl
      have hfr' : takeH (l + 1) cs ≠ [] → Fresh σ (l + 1) cs.length := fun hne m h1 h2 => hfr (by cases c <;> simp [takeH, hne]) m (by omega) (by simp only [List.length_cons]; omega)
      obtain ⟨G1, k1, k2, k3⟩ := ih us (fun j => Fs (j + 1)) G (l + 1) σ h hfr' (by simpa using hlen) (fun j c' u' hc hu => hT (j + 1) c' u' (by simpa using hc) (by simpa using hu)) (fun j b hb => hF (j + 1) b hb) (fun j j' b hb hb' => by have := hd (j + 1) (j' + 1) b hb hb'; omega)
      have gr : Grow (fun b => ∃ j, Fs j b) (fun m => l ≤ m ∧ m < l + (c :: cs).length) G G1 := k3.mono (fun b ⟨j, hj⟩ => ⟨j + 1, hj⟩) (fun m hm => by simp only [List.length_cons]; omega)
      have easy : ∀ d : Cell, takeC l (c :: cs) = d :: takeC (l + 1) cs → takeH l (c :: cs) = takeH (l + 1) cs → (∀ G', CellR w G' d u) → ∃ G', RG F G' { σ with hp := takeH l (c :: cs) ++ σ.hp } a w ∧ (∀ (j : Nat) (c' : Cell) (u' : Value), (takeC l (c :: cs))[j]? = some c' → (u :: us)[j]? = some u' → CellR w G' c' u') ∧ Grow (fun b => ∃ j, Fs j b) (fun m => l ≤ m ∧ m < l + (c :: cs).length) G G' := by
        intro d e1 e2 hd'
        rw [e1, e2]
        refine ⟨G1, k1, fun j c' u' hc hu => ?_, gr⟩
        cases j with
        | zero => simp only [List.getElem?_cons_zero, Option.some.injEq] at hc hu; subst hc; subst hu; exact hd' G1
        | succ j => exact k2 j c' u' (by simpa using hc) (by simpa using hu)
      cases c with
      | val v => exact easy (.sc v) rfl rfl fun G' => hT0
      | nl => exact easy .nil rfl rfl fun G' => hT0
      | l t xs =>
        have hT1 : TO w (.sl (Tree.mk t xs).k (Tree.mk t xs).n (Tree.mk t xs).f) u (Fs 0) := by rw [← fcC_tree ⟨t, xs⟩]; exact hT0
        obtain ⟨h1, h2⟩ := hfr (by simp [takeH]) l (Nat.le_refl _) (by simp)
        have hg0 : ∀ g, Fs 0 g → g < w.heap.size ∧ G1.ow g = .gone := fun g hg => ⟨(hF 0 g hg).1, k3.gone (hF 0 g hg).2 fun ⟨j, hj⟩ => by have := hd (j + 1) 0 g hj hg; omega⟩
        obtain ⟨G2, m1, m2, m3, _⟩ := k1.addTree l ⟨t, xs⟩ u (Fs 0) hg0 hT1 (.inr ⟨h1, h2⟩)
        refine ⟨G2, m1, fun j c' u' hc hu => ?_, gr.trans (m3.mono (fun b hb => ⟨0, hb⟩) (fun m hm => by subst hm; simp))⟩
        cases j with
        | zero =>
          simp only [takeC, List.getElem?_cons_zero, Option.some.injEq] at hc hu
          subst hc; subst hu
          exact ⟨m2.symm, hone⟩
        | succ j =>
          have hc' := k2 j c' u' (by simpa [takeC] using hc) (by simpa using hu)
          obtain ⟨fo, mo⟩ := m3.carry (w := w)
          refine Cell.carry fo (fun m hm => ?_) (fun m _ => mo m) hc'
          rcases m3.hv m with e | e
          · exact e
          · subst e
            have : ∀ (cs : List FC) (l' j : Nat) (c : Cell), (takeC l' cs)[j]? = some c → ∀ m, c.refs m = true → l' ≤ m := by
              intro cs
              induction cs with
              | nil => intro l' j c h; simp [takeC] at h
              | cons d cs ih =>
                intro l' j c h m hm
                cases d <;> simp only [takeC] at h <;> cases j with
                  | zero => simp only [List.getElem?_cons_zero, Option.some.injEq] at h; subst h; simp [Cell.refs] at hm <;> omega
                  | succ j => have := ih _ j c (by simpa using h) m hm; omega
            have := this cs (m + 1) j c' (by simpa [takeC] using hc) m hm
            omega
end
end Go.D
