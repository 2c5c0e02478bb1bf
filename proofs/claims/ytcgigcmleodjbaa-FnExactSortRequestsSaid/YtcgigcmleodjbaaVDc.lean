/-
  How the relation is carried from one ghost and world to the next.
-/
import Derived.Test.YtcgigcmleodjbaaVDb
namespace Go.D
set_option linter.unusedVariables false
theorem look_map {α β : Type} (f : α → β) (l : List (Nat × α)) (t : Nat) : look (l.map fun p => (p.1, f p.2)) t = (look l t).map f := by
  induction l with
  | nil => rfl
  | cons p r ih =>
    obtain ⟨s, v⟩ := p
    simp only [List.map_cons, look]
    split <;> simp_all
theorem look_append {α : Type} (l r : List (Nat × α)) (t : Nat) : look (l ++ r) t = (look l t).or (look r t) := by
  induction l with
  | nil => simp [look]
  | cons p l ih =>
    obtain ⟨s, v⟩ := p
    simp only [List.cons_append, look]
    split <;> simp_all
theorem look_filter {α : Type} (q : Nat → Bool) (l : List (Nat × α)) (t : Nat) : look (l.filter fun p => q p.1) t = if q t then look l t else none := by
  induction l with
  | nil => simp [look]
  | cons p l ih =>
    obtain ⟨s, v⟩ := p
    simp only [List.filter_cons, look]
    by_cases h : t = s
    · subst h
      cases hq : q t <;> simp [look, hq, ih]
    · have h0 : (t == s) = false := by simpa using h
      cases hq : q s <;> simp [look, h0, ih]
/-- what is free stays free and as it was -/
def FreeOk (w w' : World) (G G' : Gh) : Prop := (∀ g, G.ow g = .free → w'.heap[g]? = w.heap[g]? ∧ G'.ow g = .free) ∧ ∀ g, G.ow g = .cur → G'.ow g = .cur
def MemOk (w w' : World) (G G' : Gh) (m : Nat) : Prop := ∀ g, G.ow g = .lab m → w'.heap[g]? = w.heap[g]? ∧ G'.ow g = .lab m
theorem Cons.carry {w w' : World} {G G' : Gh} (hf : FreeOk w w' G G') {cs : List FC} {r : Array Value} (h : ConsR w G cs r) : ConsR w' G' cs r :=
  fun j c hc => let ⟨u, hu, ht⟩ := h j c hc; ⟨u, hu, ht.frame fun g hg _ => hf.1 g hg⟩
theorem Cell.carry {w w' : World} {G G' : Gh} (hf : FreeOk w w' G G') {c : Cell} {v : Value} (hr : ∀ m, c.refs m = true → G'.hv m = G.hv m) (hm : ∀ m, c.mems m = true → MemOk w w' G G' m)
    (h : CellR w G c v) : CellR w' G' c v := by
  cases c with
  | sc u => exact h
  | tt => exact h
  | ff => exact h
  | nil => exact h
  | dead => exact h
  | ref l => exact ⟨by rw [hr l (by simp [Cell.refs])]; exact h.1, h.2⟩
  | sub l k lo n => simp only [CellR] at h ⊢; rw [hr l (by simp [Cell.refs])]; exact h
  | im s t xs =>
    cases s with
    | none => exact TR.frame (fun g hg _ => hf.1 g hg) h
    | some l => exact TR.frame (fun g hg _ => hm l (by simp [Cell.mems]) g hg) h
theorem Cells.carry {w w' : World} {G G' : Gh} (hf : FreeOk w w' G G') {cs : List Cell} {vs : Array Value} (hr : ∀ m, cs.any (·.refs m) = true → G'.hv m = G.hv m) (hm : ∀ m, cs.any (·.mems m) = true → MemOk w w' G G' m)
    (h : CellsR w G cs vs) : CellsR w' G' cs vs := by
  refine ⟨h.1, fun j c hc => ?_⟩
  obtain ⟨u, hu, ht⟩ := h.2 j c hc
  have hmem : c ∈ cs := List.mem_of_getElem? hc
  exact ⟨u, hu, Cell.carry hf (fun m h => hr m (List.any_eq_true.2 ⟨c, hmem, h⟩)) (fun m h => hm m (List.any_eq_true.2 ⟨c, hmem, h⟩)) ht⟩
theorem Part.carry {w w' : World} {G G' : Gh} (hf : FreeOk w w' G G') {agg : Bool} {cs : List Cell} {v : Value} (hr : ∀ m, cs.any (·.refs m) = true → G'.hv m = G.hv m) (hm : ∀ m, cs.any (·.mems m) = true → MemOk w w' G G' m)
    (h : PartR w G agg cs v) : PartR w' G' agg cs v := by
  cases agg with
  | false =>
    obtain ⟨c, rfl, h⟩ := h
    exact ⟨c, rfl, Cell.carry hf (fun m hm => hr m (by simpa using hm)) (fun m h => hm m (by simpa using h)) h⟩
  | true =>
    obtain ⟨vs, rfl, h⟩ := h
    exact ⟨vs, rfl, Cells.carry hf hr hm h⟩
theorem Cap.carry {w w' : World} {G G' : Gh} (hf : FreeOk w w' G G') {c : Cap} {v : Value} (hb : ∀ b, c.hasB b = true → G'.be b = G.be b) (h : CapR w G c v) : CapR w' G' c v := by
  cases c with
  | ptr b => simp only [CapR] at h ⊢; rw [hb b (by simp [Cap.hasB])]; exact h
  | aptr cs =>
    obtain ⟨g, r, e, fr, hv, ho, hg, h⟩ := h
    obtain ⟨h1, h2⟩ := hf.1 g ho
    exact ⟨g, r, e, fr, hv, h2, h1.trans hg, Cons.carry hf h⟩
theorem TV.carry {w w' : World} {G G' : Gh} (hf : FreeOk w w' G G') {x : TV} {v : Value} (hr : ∀ m, x.refs m = true → G'.hv m = G.hv m) (hm : ∀ m, x.mems m = true → MemOk w w' G G' m)
    (hb : ∀ b, x.hasB b = true → G'.be b = G.be b) (h : TVR w G x v) : TVR w' G' x v := by
  cases x with
  | dead => trivial
  | cur => obtain ⟨g, hv, hg⟩ := h; exact ⟨g, hv, hf.2 g hg⟩
  | v agg cs => exact Part.carry hf hr hm h
  | tup ps =>
    obtain ⟨vs, hv, hs, h⟩ := h
    refine ⟨vs, hv, hs, fun j p hp => ?_⟩
    obtain ⟨u, hu, ht⟩ := h j p hp
    have hmem : p ∈ ps := List.mem_of_getElem? hp
    exact ⟨u, hu, Part.carry hf (fun m h => hr m (List.any_eq_true.2 ⟨p, hmem, h⟩)) (fun m h => hm m (List.any_eq_true.2 ⟨p, hmem, h⟩)) ht⟩
  | ptr b off => simp only [TVR] at h ⊢; rw [hb b (by simp [TV.hasB])]; exact h
  | lit b n t => simp only [TVR] at h ⊢; rw [hb b (by simp [TV.hasB])]; exact h
  | eptr l k i off => simp only [TVR] at h ⊢; rw [hr l (by simp [TV.refs])]; exact h
  | inn l k i off t xs =>
    obtain ⟨⟨g, o, n, cap, r, e, h1, h2, h3, h4, h5, h6⟩, ht⟩ := h
    have hml := hm l (by simp [TV.mems])
    refine ⟨⟨g, o, n, cap, r, e, ?_, h2, h3, (hml g h4).2, (hml g h4).1.trans h5, h6⟩, ht.frame fun b hb' _ => hml b hb'⟩
    rw [hr l (by simp [TV.refs])]; exact h1
  | capd l c =>
    obtain ⟨⟨h1, h2⟩, a, n, h3⟩ := h
    have e := hr l (by simp [TV.refs])
    exact ⟨⟨h1.trans e.symm, h2⟩, a, n, e.trans h3⟩
  | sptr s t x off =>
    obtain ⟨g, o, r, e, fr, hv, ho, hg, h⟩ := h
    have key : w'.heap[g]? = w.heap[g]? ∧ src G' s g := by
      cases s with
      | none => exact hf.1 g ho
      | some l => exact hm l (by simp [TV.mems]) g ho
    refine ⟨g, o, r, e, fr, hv, key.2, key.1.trans hg, fun j hj => ?_⟩
    obtain ⟨u, hu, ht⟩ := h j hj
    refine ⟨u, hu, ht.frame fun b hb' _ => ?_⟩
    cases s with
    | none => exact hf.1 b hb'
    | some l => exact hm l (by simp [TV.mems]) b hb'
  | aptr cs off =>
    obtain ⟨g, r, e, fr, hv, ho, hg, h⟩ := h
    obtain ⟨h1, h2⟩ := hf.1 g ho
    exact ⟨g, r, e, fr, hv, h2, h1.trans hg, Cons.carry hf h⟩
  | clo fn caps =>
    obtain ⟨vs, hv, hs, h⟩ := h
    refine ⟨vs, hv, hs, fun j c hc => ?_⟩
    obtain ⟨u, hu, ht⟩ := h j c hc
    exact ⟨u, hu, Cap.carry hf (fun b hb' => hb b (List.any_eq_true.2 ⟨c, List.mem_of_getElem? hc, hb'⟩)) ht⟩
/-! killing is a weakening, and leaves no mention -/
theorem Cell.kill_ok {w : World} {G : Gh} {c : Cell} {v : Value} (ls : List Nat) (h : CellR w G c v) : CellR w G (c.kill ls) v := by
  unfold Cell.kill
  split
  · exact h.one
  · exact h
theorem Cell.loose_ok {w : World} {G : Gh} {c : Cell} {v : Value} (ls : List Nat) (h : CellR w G c v) : CellR w G (c.loose ls) v := by
  unfold Cell.loose
  split
  · exact h.one
  · exact h
theorem Cells.map_ok {w : World} {G : Gh} {cs : List Cell} {vs : Array Value} {f : Cell → Cell} (hf : ∀ c v, CellR w G c v → CellR w G (f c) v) (h : CellsR w G cs vs) : CellsR w G (cs.map f) vs := by
  refine ⟨by simpa using h.1, fun j c hc => ?_⟩
  rw [List.getElem?_map] at hc
  cases hq : cs[j]? with
  | none => simp [hq] at hc
  | some c0 =>
    simp only [hq, Option.map_some, Option.some.injEq] at hc
    subst hc
    obtain ⟨u, hu, ht⟩ := h.2 j c0 hq
    exact ⟨u, hu, hf _ _ ht⟩
theorem Part.map_ok {w : World} {G : Gh} {agg : Bool} {cs : List Cell} {v : Value} {f : Cell → Cell} (hf : ∀ c v, CellR w G c v → CellR w G (f c) v) (h : PartR w G agg cs v) : PartR w G agg (cs.map f) v := by
  cases agg with
  | false => obtain ⟨c, rfl, h⟩ := h; exact ⟨f c, rfl, hf _ _ h⟩
  | true => obtain ⟨vs, rfl, h⟩ := h; exact ⟨vs, rfl, Cells.map_ok hf h⟩
theorem TV.map_ok {w : World} {G : Gh} {x : TV} {v : Value} {f : Cell → Cell} {bad : TV → Bool} (hf : ∀ c v, CellR w G c v → CellR w G (f c) v) (h : TVR w G x v) : TVR w G (x.map f bad) v := by
  cases x with
  | v agg cs => exact Part.map_ok hf h
  | tup ps =>
    obtain ⟨vs, hv, hs, h⟩ := h
    refine ⟨vs, hv, by simpa using hs, fun j p hp => ?_⟩
    rw [List.getElem?_map] at hp
    cases hq : ps[j]? with
    | none => simp [hq] at hp
    | some p0 =>
      simp only [hq, Option.map_some, Option.some.injEq] at hp
      subst hp
      obtain ⟨u, hu, ht⟩ := h j p0 hq
      exact ⟨u, hu, Part.map_ok hf ht⟩
  | _ =>
    simp only [TV.map]
    split
    · trivial
    · exact h
theorem Cell.kill_refs {c : Cell} {ls : List Nat} {m : Nat} (h : (c.kill ls).refs m = true) : c.refs m = true ∧ m ∉ ls := by
  unfold Cell.kill at h
  split at h
  · simp [Cell.refs] at h
  · rename_i hn
    exact ⟨h, fun hm => hn (List.any_eq_true.2 ⟨m, hm, by simp [h]⟩)⟩
theorem Cell.kill_mems {c : Cell} {ls : List Nat} {m : Nat} (h : (c.kill ls).mems m = true) : c.mems m = true ∧ m ∉ ls := by
  unfold Cell.kill at h
  split at h
  · simp [Cell.mems] at h
  · rename_i hn
    exact ⟨h, fun hm => hn (List.any_eq_true.2 ⟨m, hm, by simp [h]⟩)⟩
theorem Cell.loose_mems {c : Cell} {ls : List Nat} {m : Nat} (h : (c.loose ls).mems m = true) : c.mems m = true ∧ m ∉ ls := by
  unfold Cell.loose at h
  split at h
  · simp [Cell.mems] at h
  · rename_i hn
    exact ⟨h, fun hm => hn (List.any_eq_true.2 ⟨m, hm, by simp [h]⟩)⟩
theorem any_kill_refs {cs : List Cell} {ls : List Nat} {m : Nat} (h : (cs.map (·.kill ls)).any (·.refs m) = true) : m ∉ ls := by
  simp only [List.any_map, List.any_eq_true, Function.comp] at h
  obtain ⟨c, _, hc⟩ := h
  exact (Cell.kill_refs hc).2
theorem any_kill_mems {cs : List Cell} {ls : List Nat} {m : Nat} (h : (cs.map (·.kill ls)).any (·.mems m) = true) : m ∉ ls := by
  simp only [List.any_map, List.any_eq_true, Function.comp] at h
  obtain ⟨c, _, hc⟩ := h
  exact (Cell.kill_mems hc).2
theorem any_loose_mems {cs : List Cell} {ls : List Nat} {m : Nat} (h : (cs.map (·.loose ls)).any (·.mems m) = true) : m ∉ ls := by
  simp only [List.any_map, List.any_eq_true, Function.comp] at h
  obtain ⟨c, _, hc⟩ := h
  exact (Cell.loose_mems hc).2
theorem TV.kill_refs {x : TV} {ls : List Nat} {m : Nat} (h : (x.kill ls).refs m = true) : m ∉ ls := by
  cases x <;> simp only [TV.kill, TV.map] at h
  case v agg cs => exact any_kill_refs h
  case tup ps =>
    simp only [TV.refs, List.any_map, List.any_eq_true] at h
    obtain ⟨p, _, hp⟩ := h
    exact any_kill_refs (by simpa using hp)
  all_goals
    split at h
    · simp [TV.refs] at h
    · rename_i hn
      exact fun hm => hn (List.any_eq_true.2 ⟨m, hm, by simp [h]⟩)
theorem TV.kill_mems {x : TV} {ls : List Nat} {m : Nat} (h : (x.kill ls).mems m = true) : m ∉ ls := by
  cases x <;> simp only [TV.kill, TV.map] at h
  case v agg cs => exact any_kill_mems h
  case tup ps =>
    simp only [TV.mems, List.any_map, List.any_eq_true] at h
    obtain ⟨p, _, hp⟩ := h
    exact any_kill_mems (by simpa using hp)
  all_goals
    split at h
    · simp [TV.mems] at h
    · rename_i hn
      exact fun hm => hn (List.any_eq_true.2 ⟨m, hm, by simp [h]⟩)
theorem any_loose_mems' {cs : List Cell} {ls : List Nat} {m : Nat} (h : (cs.map (·.loose ls)).any (·.mems m) = true) : cs.any (·.mems m) = true := by
  simp only [List.any_map, List.any_eq_true, Function.comp] at h
  obtain ⟨c, hm, hc⟩ := h
  exact List.any_eq_true.2 ⟨c, hm, (Cell.loose_mems hc).1⟩
theorem TV.loose_mems' {x : TV} {ls : List Nat} {m : Nat} (h : (x.loose ls).mems m = true) : x.mems m = true := by
  cases x <;> simp only [TV.loose, TV.map] at h
  case v agg cs => exact any_loose_mems' h
  case tup ps =>
    simp only [TV.mems, List.any_map, List.any_eq_true] at h
    obtain ⟨p, hm, hp⟩ := h
    exact List.any_eq_true.2 ⟨p, hm, any_loose_mems' (by simpa using hp)⟩
  all_goals
    split at h
    · simp [TV.mems] at h
    · exact h
theorem TV.loose_mems {x : TV} {ls : List Nat} {m : Nat} (h : (x.loose ls).mems m = true) : m ∉ ls := by
  cases x <;> simp only [TV.loose, TV.map] at h
  case v agg cs => exact any_loose_mems h
  case tup ps =>
    simp only [TV.mems, List.any_map, List.any_eq_true] at h
    obtain ⟨p, _, hp⟩ := h
    exact any_loose_mems (by simpa using hp)
  all_goals
    split at h
    · simp [TV.mems] at h
    · rename_i hn
      exact fun hm => hn (List.any_eq_true.2 ⟨m, hm, by simp [h]⟩)
theorem CurOk.carry {w w' : World} {G G' : Gh} (hf : FreeOk w w' G G') {g : Nat} (hg : w'.heap[g]? = w.heap[g]?) (h : CurOk w G g) : CurOk w' G' g := by
  obtain ⟨xs, b, i, n, e, h1, h2, h3⟩ := h
  exact ⟨xs, b, i, n, e, hg.trans h1, h2.frame fun g hg _ => hf.1 g hg, h3⟩
theorem CurOk.step {w w' : World} {G G' : Gh} (hf : FreeOk w w' G G') {g : Nat} (hg : CurStep w w' g) (h : CurOk w G g) : CurOk w' G' g := by
  obtain ⟨xs, b, i, n, e, h1, h2, h3, _⟩ := h
  obtain ⟨c, j, m, j', m', f, c1, c2, c3⟩ := hg
  rw [h1] at c1
  injection c1 with c1
  injection c1 with q1 q2 q3
  simp only [Array.mk.injEq, List.cons.injEq] at q1
  obtain ⟨rfl, _⟩ := q1
  exact ⟨xs, b, j', m', f, c2, h2.frame fun g hg _ => hf.1 g hg, h3, c3⟩
theorem Keeps.step {P : Program} {F : Fr P} {w w' : World} {G G' : Gh} (h : Keeps F G w) (hf : FreeOk w w' G G') (hc : ∀ g, G.ow g = .cur → CurStep w w' g) (hn : ∀ g, G'.ow g = .cur → G.ow g = .cur) : Keeps F G' w' :=
  ⟨fun g h1 h2 => let ⟨a, b⟩ := h.free g h1 h2; ⟨(hf.1 g b).1.trans a, (hf.1 g b).2⟩, fun g h1 h2 => let ⟨a, b⟩ := h.cur g h1 h2; ⟨hf.2 g a, b.trans (hc g a)⟩, fun g hg => (h.at_ g (hn g hg)).step hf (hc g (hn g hg))⟩
theorem Keeps.next {P : Program} {F : Fr P} {w w' : World} {G G' : Gh} (h : Keeps F G w) (hf : FreeOk w w' G G') (hc : ∀ g, G.ow g = .cur → w'.heap[g]? = w.heap[g]?) (hn : ∀ g, G'.ow g = .cur → G.ow g = .cur) : Keeps F G' w' :=
  h.step hf (fun g hg => (h.at_ g hg).same (hc g hg)) hn
end Go.D
