/-
  A tree inside a tree's row is taken out under a label of its own, and put back.
-/
import Derived.Test.YtcgigcmleodjbaaVDq
namespace Go.D
set_option linter.unusedVariables false
def Cell.isFree : Cell → Bool
  | .im none _ _ => true
  | _ => false
def Cell.unfree (c : Cell) : Cell := bif c.isFree then .dead else c
def TV.unfree : TV → TV
  | .v a cs => .v a (cs.map Cell.unfree)
  | .tup ps => .tup (ps.map fun p => (p.1, p.2.map Cell.unfree))
  | .sptr none _ _ _ => .dead
  | .cur => .dead
  | .aptr _ _ => .dead
  | .clo _ _ => .dead
  | x => x
/-- the tree l gives place to the tree lp, that lies in its row; both labels are held -/
def innSt (σ : St) (l lp : Nat) (t : Ty) (xs : List (El t)) : St :=
  ({ σ with hp := (lp, ⟨t, xs⟩) :: σ.hp.filter (fun p => !(p.1 == l || p.1 == lp)), fl := lp :: l :: σ.fl }.kill [lp]).loose [l]
def St.unfree (σ : St) : St := σ.map Cell.unfree TV.unfree
def backSt (σ : St) (fl : List Nat) (l lp : Nat) (T : Tree) : St :=
  (({ σ with hp := (l, T) :: σ.hp.filter (fun p => !(p.1 == l || p.1 == lp)), fl := fl }.kill [lp]).loose [l]).unfree
section
variable {P : Program} {F : Fr P} {G G1 : Gh} {σ : St} {a : Act} {w w' : World}
theorem look_cons_filter (hp : List (Nat × Tree)) (l lp m : Nat) (T : Tree) (x : Nat) (hx : x = l ∨ x = lp) : look ((x, T) :: hp.filter (fun p => !(p.1 == l || p.1 == lp))) m = if m = x then some T else if m = l ∨ m = lp then none else look hp m := by
  simp only [look, beq_iff_eq]
  by_cases h1 : m = x
  · simp [h1]
  · simp only [h1, if_false]
    have := look_filter (fun q => !(q == l || q == lp)) hp m
    rw [this]
    by_cases h2 : m = l ∨ m = lp
    · rw [if_pos h2, if_neg]
      rcases h2 with rfl | rfl <;> simp
    · rw [if_neg h2, if_pos]
      simp only [not_or] at h2
      simp [h2.1, h2.2]
theorem cell_carry2 {G G' : Gh} {l lp : Nat} {c : Cell} {v : Value} (hr : ∀ m, m ≠ lp → G'.hv m = G.hv m) (hf : FreeOk w w' G G') (hm : ∀ m, m ≠ l → m ≠ lp → MemOk w w' G G' m) (h : CellR w G c v) : CellR w' G' ((c.kill [lp]).loose [l]) v := by
  refine Cell.carry hf (fun m e => ?_) (fun m e => ?_) (Cell.loose_ok [l] (Cell.kill_ok [lp] h))
  · have e1 : (c.kill [lp]).refs m = true := by
      unfold Cell.loose at e
      split at e
      · simp [Cell.refs] at e
      · exact e
    exact hr m (by simpa using (Cell.kill_refs e1).2)
  · obtain ⟨h1, h2⟩ := Cell.loose_mems e
    exact hm m (by simpa using h2) (by simpa using (Cell.kill_mems h1).2)
theorem loose_refs' {x : TV} {ls : List Nat} {m : Nat} (h : (x.loose ls).refs m = true) : x.refs m = true := by
  have hc : ∀ c : Cell, (c.loose ls).refs m = true → c.refs m = true := by
    intro c e
    unfold Cell.loose at e
    split at e
    · simp [Cell.refs] at e
    · exact e
  have hcs : ∀ cs : List Cell, (cs.map (·.loose ls)).any (·.refs m) = true → cs.any (·.refs m) = true := by
    intro cs e
    simp only [List.any_map, List.any_eq_true, Function.comp] at e
    obtain ⟨c, hm, e⟩ := e
    exact List.any_eq_true.2 ⟨c, hm, hc c e⟩
  cases x <;> simp only [TV.loose, TV.map] at h
  case v agg cs => exact hcs cs h
  case tup ps =>
    simp only [TV.refs, List.any_map, List.any_eq_true] at h
    obtain ⟨p, hm, hp⟩ := h
    exact List.any_eq_true.2 ⟨p, hm, hcs _ (by simpa using hp)⟩
  all_goals
    split at h
    · simp [TV.refs] at h
    · exact h
theorem tv_carry2 {G G' : Gh} {l lp : Nat} {x : TV} {v : Value} (hr : ∀ m, m ≠ lp → G'.hv m = G.hv m) (hb : G'.be = G.be) (hf : FreeOk w w' G G') (hm : ∀ m, m ≠ l → m ≠ lp → MemOk w w' G G' m) (h : TVR w G x v) : TVR w' G' ((x.kill [lp]).loose [l]) v := by
  have hx := TV.map_ok (f := fun c => c.loose [l]) (bad := fun x => [l].any fun l => x.mems l) (fun _ _ => Cell.loose_ok [l]) (TV.map_ok (f := fun c => c.kill [lp]) (bad := fun x => [lp].any fun l => x.refs l || x.mems l) (fun _ _ => Cell.kill_ok [lp]) h)
  refine TV.carry hf (fun m e => ?_) (fun m e => ?_) (fun _ _ => by rw [hb]) hx
  · exact hr m (by simpa using TV.kill_refs (loose_refs' e))
  · exact hm m (by simpa using TV.loose_mems e) (by simpa using TV.kill_mems (TV.loose_mems' e))
/-- what is known of the place: the tree's row, the cell, and whose blocks lie behind which cell -/
structure InnAt (w : World) (G : Gh) (l e j : Nat) (T : Tree) (v : Value) (g o cap : Nat) (row : Array Value) (ety : TypeId) (GG : Nat → Nat → Nat → Prop) : Prop where
  hv : G.hv l = .slice (some ⟨g, o, none⟩) T.n cap
  hn : T.n ≤ cap
  hc : o + cap * T.k ≤ row.size
  hg : w.heap[g]? = some (.cells row ety (0, 0))
  own : G.ow g = .lab l
  cells : ∀ i, i < T.n → ∀ j, j < T.k → ∃ u, row[o + i * T.k + j]? = some u ∧ TO w (T.f i j) u (GG i j)
  sub : ∀ i, i < T.n → ∀ j, j < T.k → ∀ b, GG i j b → G.ow b = .lab l ∧ b ≠ g
  dis : ∀ i, i < T.n → ∀ j, j < T.k → ∀ i', i' < T.n → ∀ j', j' < T.k → ∀ b, GG i j b → GG i' j' b → i = i' ∧ j = j'
  he : e < T.n
  hj : j < T.k
  at_ : row[o + e * T.k + j]? = some v
theorem inn_at {l k e j : Nat} {t : Ty} {xs : List (El t)} {T : Tree} {v : Value} (h : RG F G σ a w) (hT : look σ.hp l = some T) (hk : T.k = k) (hx : TVR w G (.inn l k e j t xs) v) :
    ∃ g o cap row ety GG, InnAt w G l e j T v g o cap row ety GG := by
  obtain ⟨⟨g, o, n, cap, r, ety, h1, h2, h3, h4, h5, h6⟩, _⟩ := hx
  rcases h.hp l T hT with ⟨⟨ad, hz⟩, _⟩ | ⟨g2, o2, cap2, row2, e2, GG, hv2, hn2, hc2, hg2, hF2, hrow2, hsub2, hdis2⟩
  · rw [h1] at hz
    injection hz with _ hz _
    omega
  rw [h1] at hv2
  injection hv2 with ha hn hcap
  injection ha with ha
  injection ha with hgg hoo
  subst hgg hoo hn hcap
  rw [h5] at hg2
  injection hg2 with hg2
  injection hg2 with hr2 he2 hfr2
  subst hr2 he2
  subst hk
  exact ⟨g, o, cap, r, ety, GG, h1, hn2, hc2, h5, h4, hrow2, hsub2, hdis2, h2, h3, h6⟩
/-- the ghost while the tree is out: the rest of l is free to whoever is called -/
structure InnG (G G1 : Gh) (S : Nat → Prop) (l lp : Nat) (v : Value) : Prop where
  be : G1.be = G.be
  hv : ∀ m, G1.hv m = if m = lp then v else G.hv m
  ins : ∀ b, S b → G1.ow b = .lab lp
  out : ∀ b, ¬ S b → G1.ow b = match G.ow b with
    | .lab m => if m = l then .free else if m = lp then .gone else .lab m
    | x => x
open Classical in
theorem innG_ex (G : Gh) (S : Nat → Prop) (l lp : Nat) (v : Value) : ∃ G1, InnG G G1 S l lp v :=
  ⟨⟨fun b => if S b then .lab lp else match G.ow b with
    | .lab m => if m = l then .free else if m = lp then .gone else .lab m
    | x => x, G.be, fun m => if m = lp then v else G.hv m⟩, rfl, fun m => rfl, fun b hb => by simp [hb], fun b hb => by simp [hb]⟩
theorem InnG.base {P : Program} {G G1 : Gh} {S : Nat → Prop} {l lp : Nat} {v : Value} {w : World} (h : Base P w G.ow) (hS : ∀ b, S b → G.ow b = .lab l) (hG : InnG G G1 S l lp v) : Base P w G1.ow :=
  let ⟨w1, h1, hl, h2⟩ := h
  ⟨w1, h1, hl, fun b hb => let ⟨x, y, z⟩ := h2 b hb; ⟨x, by rw [hG.out b (fun hs => by have := hS b hs; rw [y] at this; cases this), y], z⟩⟩
def innFr {P : Program} (F : Fr P) (G G1 : Gh) (w : World) (l lp : Nat) (v : Value) (hb : Base P w G1.ow) : Fr P := { w0 := w, ow0 := G1.ow, be0 := F.be0, hv0 := (lp, v) :: (l, G.hv l) :: F.hv0, ok := hb }
theorem inn_split {l e j lp : Nat} {t : Ty} {xs : List (El t)} {T : Tree} {v : Value} {g o cap : Nat} {row : Array Value} {ety : TypeId} {GG : Nat → Nat → Nat → Prop} (h : RG F G σ a w) (hT : look σ.hp l = some T) (hI : InnAt w G l e j T v g o cap row ety GG)
    (hcell : cell T.t T.xs e j = .l t xs) (hne : lp ≠ l) (hfl : lp ∉ σ.fl) (hG : InnG G G1 (GG e j) l lp v) (hb : Base P w G1.ow) :
    RG (innFr F G G1 w l lp v hb) G1 (innSt σ l lp t xs) a w := by
  have hS : ∀ b, GG e j b → G.ow b = .lab l ∧ b ≠ g := hI.sub e hI.he j hI.hj
  have how : ∀ b x, G.ow b = x → (∀ m, x = .lab m → m ≠ l ∧ m ≠ lp) → G1.ow b = x := by
    intro b x hb hx
    have hn : ¬ GG e j b := fun hs => by
      have := (hS b hs).1
      rw [hb] at this
      exact (hx l this).1 rfl
    rw [hG.out b hn, hb]
    cases x with
    | lab m => obtain ⟨h1, h2⟩ := hx m rfl; simp [h1, h2]
    | _ => rfl
  have hr : ∀ m, m ≠ lp → G1.hv m = G.hv m := fun m hm => by rw [hG.hv, if_neg hm]
  have hf : FreeOk w w G G1 := ⟨fun b hb => ⟨rfl, how b _ hb (fun m e => by cases e)⟩, fun b hb => how b _ hb (fun m e => by cases e)⟩
  have hm : ∀ m, m ≠ l → m ≠ lp → MemOk w w G G1 m := fun m h1 h2 b hb => ⟨rfl, how b _ hb (fun m' e => by injection e with e; subst e; exact ⟨h1, h2⟩)⟩
  constructor
  case tm =>
    intro s tv hlk
    simp only [innSt, St.loose, St.kill, St.map, List.map_map, Function.comp_def] at hlk
    rw [look_map (fun x : TV => (x.kill [lp]).loose [l])] at hlk
    cases hq : look σ.tm s with
    | none => simp [hq] at hlk
    | some x =>
      simp only [hq, Option.map_some, Option.some.injEq] at hlk
      subst hlk
      exact tv_carry2 hr hG.be hf hm (h.tm s x hq)
  case bx =>
    intro b cs hlk
    simp only [innSt, St.loose, St.kill, St.map, List.map_map, Function.comp_def] at hlk
    rw [look_map (fun cs : List Cell => (cs.map fun c => (c.kill [lp]).loose [l]))] at hlk
    cases hq : look σ.bx b with
    | none => simp [hq] at hlk
    | some x =>
      simp only [hq, Option.map_some, Option.some.injEq] at hlk
      subst hlk
      obtain ⟨h1, r, e', h2, h3⟩ := h.bx b x hq
      rw [hG.be]
      refine ⟨how _ _ h1 (fun m e => by cases e), r, e', h2, by simpa using h3.1, fun jj c hjj => ?_⟩
      rw [List.getElem?_map] at hjj
      cases hq2 : x[jj]? with
      | none => simp [hq2] at hjj
      | some c0 =>
        simp only [hq2, Option.map_some, Option.some.injEq] at hjj
        subst hjj
        obtain ⟨u, hu, ht⟩ := h3.2 jj c0 hq2
        exact ⟨u, hu, cell_carry2 hr hf hm ht⟩
  case hp =>
    intro m T' hlk
    simp only [innSt, St.loose, St.kill, St.map] at hlk
    rw [look_cons_filter σ.hp l lp m ⟨t, xs⟩ lp (.inr rfl)] at hlk
    by_cases h1 : m = lp
    · subst h1
      simp only [if_true, Option.some.injEq] at hlk
      subst hlk
      obtain ⟨u, hu, ht⟩ := hI.cells e hI.he j hI.hj
      rw [hI.at_] at hu
      injection hu with hu
      subst hu
      have e1 : G1.hv m = v := by rw [hG.hv, if_pos rfl]
      rw [e1]
      have e2 : T.f e j = .sl (Tree.k ⟨t, xs⟩) (Tree.n ⟨t, xs⟩) (Tree.f ⟨t, xs⟩) := by
        rw [← fcC_tree ⟨t, xs⟩]
        show fcC (cell T.t T.xs e j) = _
        rw [hcell]
      rw [e2] at ht
      exact ht.frame fun b hb _ => ⟨rfl, hG.ins b hb⟩
    · simp only [h1, if_false] at hlk
      by_cases h2 : m = l
      · simp [h2] at hlk
      · simp only [h2, false_or, if_false] at hlk
        rw [hr m h1]
        exact (h.hp m T' hlk).frame fun b hb _ => ⟨rfl, how b _ hb (fun m' e => by injection e with e; subst e; exact ⟨h2, h1⟩)⟩
  case lt =>
    intro b hb
    apply h.lt b
    intro e0
    exact hb (how b _ e0 (fun m e => by cases e))
  case os => rfl
  case tape => rfl
  case output => exact ⟨rfl, Nat.le_refl _⟩
  case size => exact Nat.le_refl _
  case keep =>
    have hcb : ∀ b, G1.ow b = .cur → G.ow b = .cur := by
      intro b hb
      by_cases hs : GG e j b
      · rw [hG.ins b hs] at hb; cases hb
      · rw [hG.out b hs] at hb
        cases hq : G.ow b with
        | cur => rfl
        | lab m =>
          rw [hq] at hb
          dsimp only at hb
          split at hb
          · cases hb
          · split at hb <;> cases hb
        | _ => rw [hq] at hb; cases hb
    exact ⟨fun b _ hb => ⟨rfl, hb⟩, fun b _ hb => ⟨hb, (h.keep.at_ b (hcb b hb)).same rfl⟩, fun b hb => (h.keep.at_ b (hcb b hb)).carry hf rfl⟩
  case fb => exact fun b β hb => by rw [hG.be]; exact h.fb b β hb
  case fl =>
    intro m u hlk
    simp only [innFr, look, beq_iff_eq] at hlk
    by_cases h1 : m = lp
    · simp only [h1, if_true, Option.some.injEq] at hlk
      subst hlk
      exact ⟨by rw [hG.hv, if_pos h1], by simp [innSt, St.loose, St.kill, St.map, h1]⟩
    · simp only [h1, if_false] at hlk
      by_cases h2 : m = l
      · simp only [h2, if_true, Option.some.injEq] at hlk
        subst hlk
        rw [hr m h1]
        exact ⟨by rw [h2], by simp [innSt, St.loose, St.kill, St.map, h2]⟩
      · simp only [h2, if_false] at hlk
        obtain ⟨h3, h4⟩ := h.fl m u hlk
        rw [hr m h1]
        refine ⟨h3, ?_⟩
        simp only [innSt, St.loose, St.kill, St.map, List.contains_eq_mem, List.mem_cons, decide_eq_true_eq] at h4 ⊢
        exact .inr (.inr h4)
  case nt => exact h.nt
  case df => exact h.df
/-! back -/
theorem unfree_cell {G G' : Gh} {c : Cell} {v : Value} (hr : G'.hv = G.hv) (hm : ∀ m, c.mems m = true → MemOk w w G G' m) (h : CellR w G c v) : CellR w G' c.unfree v := by
  unfold Cell.unfree
  cases c with
  | sc u => exact h
  | tt => exact h
  | ff => exact h
  | nil => exact h
  | ref l => exact ⟨by rw [hr]; exact h.1, h.2⟩
  | sub l k lo n => show SubR _ _ _ _ _; rw [hr]; exact h
  | im s t xs =>
    cases s with
    | none => exact h.one
    | some l => exact TR.frame (fun b hb _ => hm l (by simp [Cell.mems]) b hb) h
  | dead => exact h
theorem unfree_cells {G G' : Gh} {cs : List Cell} {vs : Array Value} (hr : G'.hv = G.hv) (hm : ∀ m, cs.any (·.mems m) = true → MemOk w w G G' m) (h : CellsR w G cs vs) : CellsR w G' (cs.map Cell.unfree) vs := by
  refine ⟨by simpa using h.1, fun j c hj => ?_⟩
  rw [List.getElem?_map] at hj
  cases hq : cs[j]? with
  | none => simp [hq] at hj
  | some c0 =>
    simp only [hq, Option.map_some, Option.some.injEq] at hj
    subst hj
    obtain ⟨u, hu, ht⟩ := h.2 j c0 hq
    exact ⟨u, hu, unfree_cell hr (fun m hc => hm m (List.any_eq_true.2 ⟨c0, List.mem_of_getElem? hq, hc⟩)) ht⟩
theorem unfree_part {G G' : Gh} {agg : Bool} {cs : List Cell} {v : Value} (hr : G'.hv = G.hv) (hm : ∀ m, cs.any (·.mems m) = true → MemOk w w G G' m) (h : PartR w G agg cs v) : PartR w G' agg (cs.map Cell.unfree) v := by
  cases agg with
  | false =>
    obtain ⟨c, rfl, h⟩ := h
    exact ⟨_, rfl, unfree_cell hr (fun m hc => hm m (by simp [hc])) h⟩
  | true =>
    obtain ⟨vs, hv, h⟩ := h
    exact ⟨vs, hv, unfree_cells hr hm h⟩
theorem unfree_tv {G G' : Gh} {x : TV} {v : Value} (hr : G'.hv = G.hv) (hb : G'.be = G.be) (hm : ∀ m, x.mems m = true → MemOk w w G G' m) (h : TVR w G x v) : TVR w G' x.unfree v := by
  cases x with
  | v agg cs => exact unfree_part hr hm h
  | tup ps =>
    obtain ⟨vs, hv, hs, h⟩ := h
    refine ⟨vs, hv, by simpa using hs, fun j p hp => ?_⟩
    rw [List.getElem?_map] at hp
    cases hq : ps[j]? with
    | none => simp [hq] at hp
    | some p0 =>
      simp only [hq, Option.map_some, Option.some.injEq] at hp
      subst hp
      obtain ⟨u, hu, ht⟩ := h j p0 hq
      exact ⟨u, hu, unfree_part hr (fun m hc => hm m (List.any_eq_true.2 ⟨p0, List.mem_of_getElem? hq, hc⟩)) ht⟩
  | ptr b off => show _ = _; rw [hb]; exact h
  | lit b n t => show _ = _; rw [hb]; exact h
  | eptr l k i off => show ∃ _, _; rw [hr]; exact h
  | sptr s t x off =>
    cases s with
    | none => trivial
    | some l =>
      obtain ⟨g, o, r, e, fr, hv, ho, hg, h⟩ := h
      have hml := hm l (by simp [TV.mems])
      refine ⟨g, o, r, e, fr, hv, (hml g ho).2, hg, fun j hj => ?_⟩
      obtain ⟨u, hu, ht⟩ := h j hj
      exact ⟨u, hu, ht.frame fun b hb' _ => hml b hb'⟩
  | capd l c =>
    obtain ⟨⟨h1, h2⟩, a, n, h3⟩ := h
    exact ⟨⟨by rw [hr]; exact h1, h2⟩, a, n, by rw [hr]; exact h3⟩
  | inn l k i off t xs =>
    obtain ⟨⟨g, o, n, cap, r, e, h1, h2, h3, h4, h5, h6⟩, ht⟩ := h
    have hml := hm l (by simp [TV.mems])
    exact ⟨⟨g, o, n, cap, r, e, by rw [hr]; exact h1, h2, h3, (hml g h4).2, h5, h6⟩, ht.frame fun b hb' _ => hml b hb'⟩
  | aptr cs off => trivial
  | clo fn caps => trivial
  | cur => trivial
  | dead => trivial
open Classical in
theorem inn_back {l e j lp : Nat} {t : Ty} {ys : List (El t)} {T : Tree} {v : Value} {g o cap : Nat} {row : Array Value} {ety : TypeId} {GG : Nat → Nat → Nat → Prop} {σ' : St} {a' : Act} {G' : Gh} (h : RG F G σ a w) (hI : InnAt w G l e j T v g o cap row ety GG)
    (hne : lp ≠ l) (hfl : lp ∉ σ.fl) (hG : InnG G G1 (GG e j) l lp v) {hb : Base P w G1.ow} (h' : RG (innFr F G G1 w l lp v hb) G' σ' a' w') (hl : look σ'.hp lp = some ⟨t, ys⟩)
    (hd : (dec T.t (splice (enc T.t (T.xs.getD e default)) j [.l t ys])).isSome = true) :
    ∃ G2, RG F G2 (backSt σ' σ.fl l lp ⟨T.t, T.xs.modify e (upd T.t j [.l t ys])⟩) a' w' := by
  have hS : ∀ b, GG e j b → G.ow b = .lab l ∧ b ≠ g := hI.sub e hI.he j hI.hj
  -- what is not in the tree that was out stays where it was
  have rest : ∀ b, G.ow b = .lab l → ¬ GG e j b → w'.heap[b]? = w.heap[b]? ∧ G'.ow b = .free := by
    intro b hb hn
    have e1 : G1.ow b = .free := by rw [hG.out b hn, hb]; simp
    exact h'.keep.free b (h.lt b (by rw [hb]; intro e; cases e)) e1
  have hvl : G'.hv l = G.hv l := (h'.fl l (G.hv l) (by simp [innFr, look, Ne.symm hne])).1
  have hvp : G'.hv lp = v := (h'.fl lp v (by simp [innFr, look])).1
  let G2 : Gh := ⟨fun b => (match G'.ow b with
    | .lab m => if m = lp then .lab l else if m = l then .gone else .lab m
    | .free => if G.ow b = .lab l ∧ ¬ GG e j b then .lab l else .free
    | .cur => if G.ow b = .cur then .cur else .gone
    | x => x), G'.be, G'.hv⟩
  have ow2 : ∀ b m, m ≠ l → m ≠ lp → G'.ow b = .lab m → G2.ow b = .lab m := fun b m h1 h2 hb => by simp [G2, hb, h1, h2]
  have hm2 : ∀ m, m ≠ l → m ≠ lp → MemOk w' w' G' G2 m := fun m h1 h2 b hb => ⟨rfl, ow2 b m h1 h2 hb⟩
  refine ⟨G2, ?_⟩
  have tvs : ∀ (x : TV) (u : Value), TVR w' G' x u → TVR w' G2 ((x.kill [lp]).loose [l]).unfree u := by
    intro x u hx
    have hx1 := TV.map_ok (f := fun c => c.loose [l]) (bad := fun x => [l].any fun l => x.mems l) (fun _ _ => Cell.loose_ok [l]) (TV.map_ok (f := fun c => c.kill [lp]) (bad := fun x => [lp].any fun l => x.refs l || x.mems l) (fun _ _ => Cell.kill_ok [lp]) hx)
    exact unfree_tv (G := G') (G' := G2) rfl rfl (fun m em => hm2 m (by simpa using TV.loose_mems em) (by simpa using TV.kill_mems (TV.loose_mems' em))) hx1
  constructor
  case tm =>
    intro s tv hlk
    simp only [backSt, St.unfree, St.loose, St.kill, St.map, List.map_map, Function.comp_def] at hlk
    rw [look_map (fun x : TV => ((x.kill [lp]).loose [l]).unfree)] at hlk
    cases hq : look σ'.tm s with
    | none => simp [hq] at hlk
    | some x =>
      simp only [hq, Option.map_some, Option.some.injEq] at hlk
      subst hlk
      exact tvs x _ (h'.tm s x hq)
  case bx =>
    intro b cs hlk
    simp only [backSt, St.unfree, St.loose, St.kill, St.map, List.map_map, Function.comp_def] at hlk
    rw [look_map (fun cs : List Cell => (cs.map fun c => ((c.kill [lp]).loose [l]).unfree))] at hlk
    cases hq : look σ'.bx b with
    | none => simp [hq] at hlk
    | some x =>
      simp only [hq, Option.map_some, Option.some.injEq] at hlk
      subst hlk
      obtain ⟨h1, r, e', h2, h3⟩ := h'.bx b x hq
      refine ⟨by simp [G2, h1], r, e', h2, by simpa using h3.1, fun jj c hjj => ?_⟩
      rw [List.getElem?_map] at hjj
      cases hq2 : x[jj]? with
      | none => simp [hq2] at hjj
      | some c0 =>
        simp only [hq2, Option.map_some, Option.some.injEq] at hjj
        subst hjj
        obtain ⟨u, hu, ht⟩ := h3.2 jj c0 hq2
        refine ⟨u, hu, unfree_cell (G := G') (G' := G2) rfl (fun m em => ?_) (Cell.loose_ok [l] (Cell.kill_ok [lp] ht))⟩
        obtain ⟨e1, e2⟩ := Cell.loose_mems em
        exact hm2 m (by simpa using e2) (by simpa using (Cell.kill_mems e1).2)
  case hp =>
    intro m T' hlk
    simp only [backSt, St.unfree, St.loose, St.kill, St.map] at hlk
    rw [look_cons_filter σ'.hp l lp m _ l (.inl rfl)] at hlk
    by_cases h1 : m = l
    · subst h1
      simp only [if_true, Option.some.injEq] at hlk
      subst hlk
      have hxn : (T.xs.modify e (upd T.t j [.l t ys])).length = T.n := by simp [Tree.n]
      have hlen : e < T.xs.length := hI.he
      have hw : (enc T.t (T.xs.getD e default)).length = T.k := enc_len _ _
      have hup := (FcsLe.get (upd_ok hd)).2
      have hfr : ∀ b, G.ow b = .lab m → ¬ GG e j b → w'.heap[b]? = w.heap[b]? ∧ G2.ow b = .lab m := fun b hb hn => ⟨(rest b hb hn).1, by simp [G2, (rest b hb hn).2, hb, hn]⟩
      have hgn : ¬ GG e j g := fun hg => (hS g hg).2 rfl
      show TO w' _ (G'.hv m) _
      rw [hvl]
      refine .inr ⟨g, o, cap, row, ety, fun i' j' b => if i' = e ∧ j' = j then G'.ow b = .lab lp else GG i' j' b, ?_, ?_, hI.hc, (hfr g hI.own hgn).1.trans hI.hg, (hfr g hI.own hgn).2, ?_, ?_, ?_⟩
      · rw [hI.hv]; simp [Tree.n]
      · show (T.xs.modify e _).length ≤ cap; rw [hxn]; exact hI.hn
      · intro i' hi' j' hj'
        have hi2 : i' < T.n := by rw [← hxn]; exact hi'
        obtain ⟨u, hu, ht⟩ := hI.cells i' hi2 j' hj'
        refine ⟨u, hu, ?_⟩
        show TO w' (fcC (cell T.t (T.xs.modify e (upd T.t j [.l t ys])) i' j')) u _
        rw [cell_modify hlen]
        by_cases hij : i' = e ∧ j' = j
        · obtain ⟨rfl, rfl⟩ := hij
          rw [if_pos rfl]
          rw [hI.at_] at hu
          injection hu with hu
          subst hu
          have hp := h'.hp lp _ hl
          rw [hvp, ← fcC_tree] at hp
          have hle := hup j'
          rw [getD_splice (by rw [hw]; simp; exact hI.hj), if_pos ⟨Nat.le_refl _, by simp⟩, Nat.sub_self, List.getD_cons_zero] at hle
          refine TO.le hle.le (hp.frame fun b hb _ => ⟨rfl, ?_⟩)
          simpa using hb
        · have hdj : ∀ b, GG i' j' b → ¬ GG e j b := fun b h1 h2 => hij (hI.dis i' hi2 j' hj' e hI.he j hI.hj b h1 h2)
          have hto : TO w' (T.f i' j') u (GG i' j') := ht.frame fun b hb _ => ⟨(hfr b (hI.sub i' hi2 j' hj' b hb).1 (hdj b hb)).1, hb⟩
          have hto2 : TO w' (T.f i' j') u (fun b => if i' = e ∧ j' = j then G'.ow b = .lab lp else GG i' j' b) := by
            simp only [if_neg hij]; exact hto
          by_cases hie : i' = e
          · subst hie
            rw [if_pos rfl]
            have hne2 : j' ≠ j := fun e0 => hij ⟨rfl, e0⟩
            have hle := hup j'
            rw [getD_splice (by rw [hw]; simp; exact hI.hj), if_neg (by simp; omega)] at hle
            exact TO.le hle.le hto2
          · rw [if_neg hie]
            exact hto2
      · intro i' hi' j' hj' b hb
        have hi2 : i' < T.n := by rw [← hxn]; exact hi'
        try dsimp only at hb
        split at hb
        · refine ⟨by simp [G2, hb], ?_⟩
          rintro rfl
          rw [(rest b hI.own hgn).2] at hb
          cases hb
        · rename_i hij
          have hdj : ¬ GG e j b := fun h2 => hij (hI.dis i' hi2 j' hj' e hI.he j hI.hj b hb h2)
          exact ⟨(hfr b (hI.sub i' hi2 j' hj' b hb).1 hdj).2, (hI.sub i' hi2 j' hj' b hb).2⟩
      · intro i1 hi1 j1 hj1 i2 hi2 j2 hj2 b hb1 hb2
        have hi1' : i1 < T.n := by rw [← hxn]; exact hi1
        have hi2' : i2 < T.n := by rw [← hxn]; exact hi2
        try dsimp only at hb1 hb2
        split at hb1
        · rename_i e1
          split at hb2
          · rename_i e2
            exact ⟨e1.1.trans e2.1.symm, e1.2.trans e2.2.symm⟩
          · rename_i e2
            have hdj : ¬ GG e j b := fun h2 => e2 (hI.dis i2 hi2' j2 hj2 e hI.he j hI.hj b hb2 h2)
            rw [(rest b (hI.sub i2 hi2' j2 hj2 b hb2).1 hdj).2] at hb1
            cases hb1
        · rename_i e1
          split at hb2
          · have hdj : ¬ GG e j b := fun h2 => e1 (hI.dis i1 hi1' j1 hj1 e hI.he j hI.hj b hb1 h2)
            rw [(rest b (hI.sub i1 hi1' j1 hj1 b hb1).1 hdj).2] at hb2
            cases hb2
          · exact hI.dis i1 hi1' j1 hj1 i2 hi2' j2 hj2 b hb1 hb2
    · simp only [h1, if_false] at hlk
      by_cases h2 : m = lp
      · simp [h2] at hlk
      · simp only [h2, false_or, if_false] at hlk
        exact (h'.hp m T' hlk).frame fun b hb _ => ⟨rfl, ow2 b m h1 h2 hb⟩
  case lt =>
    intro b hb
    by_cases e0 : G'.ow b = .gone
    · simp [G2, e0] at hb
    · exact h'.lt b e0
  case os => exact h'.os.trans h.os
  case tape => exact h'.tape.trans h.tape
  case output => exact ⟨h'.output.1.trans h.output.1, Nat.le_trans h.output.2 h'.output.2⟩
  case size => exact Nat.le_trans h.size h'.size
  case keep =>
    have fr : ∀ b, G.ow b = .free → w'.heap[b]? = w.heap[b]? ∧ G2.ow b = .free := by
      intro b h2
      have hn : ¬ GG e j b := fun hg => by have := (hS b hg).1; rw [h2] at this; cases this
      have e1 : G1.ow b = .free := by rw [hG.out b hn, h2]
      obtain ⟨h3, h4⟩ := h'.keep.free b (h.lt b (by rw [h2]; intro e; cases e)) e1
      exact ⟨h3, by simp [G2, h4, h2]⟩
    have cu : ∀ b, G.ow b = .cur → CurStep w w' b ∧ G2.ow b = .cur := by
      intro b h2
      have hn : ¬ GG e j b := fun hg => by have := (hS b hg).1; rw [h2] at this; cases this
      have e1 : G1.ow b = .cur := by rw [hG.out b hn, h2]
      obtain ⟨h3, h4⟩ := h'.keep.cur b (h.lt b (by rw [h2]; intro e; cases e)) e1
      exact ⟨h4, by simp [G2, h3, h2]⟩
    refine h.keep.step ⟨fr, fun b hb => (cu b hb).2⟩ (fun b hb => (cu b hb).1) fun b hb => ?_
    cases hq : G'.ow b with
    | cur =>
      simp only [G2, hq] at hb
      split at hb
      · rename_i hc; exact hc
      · cases hb
    | free =>
      simp only [G2, hq] at hb
      split at hb <;> cases hb
    | lab m =>
      simp only [G2, hq] at hb
      split at hb
      · cases hb
      · split at hb <;> cases hb
    | _ => simp [G2, hq] at hb
  case fb =>
    intro b β hb
    exact h'.fb b β hb
  case fl =>
    intro m u hlk
    obtain ⟨h3, h4⟩ := h.fl m u hlk
    refine ⟨?_, h4⟩
    have hmp : m ≠ lp := by
      rintro rfl
      exact hfl (by simpa using h4)
    show G'.hv m = u
    by_cases h2 : m = l
    · rw [h2, hvl, ← h2, h3]
    · exact (h'.fl m u (by simp [innFr, look, hmp, h2, hlk])).1
  case nt => exact h'.nt
  case df => exact h'.df
end
end Go.D
