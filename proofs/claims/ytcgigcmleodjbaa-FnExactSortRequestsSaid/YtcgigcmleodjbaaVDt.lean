/-
  Regions that draw their order: each operation is told at what stands before it; the whole is put together.
-/
import Derived.Test.YtcgigcmleodjbaaVDs
namespace Go.D
set_option linter.unusedVariables false
/-! what stands before an operation: sets as numbers -/
def dirs (o : Oper) : List Nat := (o.after.toList.filter (Region.binds .any)).map (·.on)
def maskOf (acc : List Nat) (ds : List Nat) : Nat := ds.foldr (fun j s => s ||| 2 ^ j ||| acc.getD j 0) 0
def masksGo : List Oper → List Nat → List Nat
  | [], acc => acc
  | o :: os, acc => masksGo os (acc ++ [maskOf acc (dirs o)])
theorem maskOf_bit {acc ds : List Nat} {j : Nat} (h : (maskOf acc ds).testBit j = true) : ∃ e ∈ ds, j = e ∨ (acc.getD e 0).testBit j = true := by
  induction ds with
  | nil => simp [maskOf] at h
  | cons d ds ih =>
    simp only [maskOf, List.foldr_cons, Nat.testBit_or, Bool.or_eq_true] at h
    rcases h with (h | h) | h
    · obtain ⟨e, he, hh⟩ := ih h; exact ⟨e, by simp [he], hh⟩
    · rw [Nat.testBit_two_pow] at h
      exact ⟨d, by simp, .inl (of_decide_eq_true h).symm⟩
    · exact ⟨d, by simp, .inr h⟩
theorem masksGo_get : ∀ (os : List Oper) (acc : List Nat), (∀ i, i < acc.length → (masksGo os acc)[i]? = acc[i]?) ∧ (masksGo os acc).length = acc.length + os.length ∧
    ∀ i o, os[i]? = some o → ∀ j, ((masksGo os acc).getD (acc.length + i) 0).testBit j = true → ∃ e ∈ dirs o, j = e ∨ ((masksGo os acc).getD e 0).testBit j = true := by
  intro os
  induction os with
  | nil => intro acc; exact ⟨fun i h => rfl, rfl, by simp⟩
  | cons o os ih =>
    intro acc
    obtain ⟨h1, h2, h3⟩ := ih (acc ++ [maskOf acc (dirs o)])
    have hget : ∀ i, i < acc.length → (masksGo os (acc ++ [maskOf acc (dirs o)]))[i]? = acc[i]? := by
      intro i hi
      rw [h1 i (by simp; omega), List.getElem?_append_left hi]
    refine ⟨hget, by simp [masksGo, h2]; omega, fun i o' ho j hj => ?_⟩
    cases i with
    | zero =>
      simp only [List.getElem?_cons_zero, Option.some.injEq] at ho
      subst ho
      have : (masksGo (o :: os) acc).getD (acc.length + 0) 0 = maskOf acc (dirs o) := by
        simp only [masksGo, Nat.add_zero, List.getD_eq_getElem?_getD]
        rw [h1 acc.length (by simp)]
        simp
      rw [this] at hj
      obtain ⟨e, he, hh⟩ := maskOf_bit hj
      refine ⟨e, he, hh.imp id fun hb => ?_⟩
      by_cases hlt : e < acc.length
      · simp only [masksGo, List.getD_eq_getElem?_getD] at hb ⊢
        rw [hget e hlt]
        exact hb
      · simp [List.getD_eq_getElem?_getD, List.getElem?_eq_none (by omega : acc.length ≤ e)] at hb
    | succ i =>
      have := h3 i o' (by simpa using ho) j (by simpa [masksGo, Nat.add_assoc, Nat.add_comm 1] using hj)
      simpa [masksGo] using this
def wsGo : Nat → List Oper → List (Nat × Nat)
  | _, [] => []
  | i, o :: os => match o.dst with
    | some d => (d, i) :: wsGo (i + 1) os
    | none => wsGo (i + 1) os
/-- a region's numbers: who writes a slot; what stands before an operation -/
structure Tab where
  n : Nat
  ws : List (Nat × Nat)
  T : List Nat
/-- an assignment behind and ahead of all the others -/
def asgCut (ops : Array Oper) (T : List Nat) (i : Nat) : Bool := (match (ops[i]?).map (fun o : Oper => o.op) with
  | some (Op.assign _) => true
  | _ => false) && (List.range ops.size).all fun k => k == i || (bif decide (k < i) then (T.getD i 0).testBit k else (T.getD k 0).testBit i)
def tabOf (ops : Array Oper) : Tab := ⟨ops.size, (wsGo 0 ops.toList).filter (fun p => !asgCut ops (masksGo ops.toList []) p.2), masksGo ops.toList []⟩
def Tab.ok (t : Tab) (S : Nat → Bool) (s : Nat) : Bool := match look t.ws s with
  | none => true
  | some j => S j
def Tab.bit (t : Tab) (i j : Nat) : Bool := (t.T.getD i 0).testBit j
def St.view (σ : St) (t : Tab) (S : Nat → Bool) : St := { σ with tm := σ.tm.filter fun p => t.ok S p.1, bx := σ.bx.filter fun p => t.ok S p.1, hp := σ.hp.filter fun p => t.ok S (p.1 / 64) }
/-- may what slot s holds speak of what slot d has made? -/
def Tab.sees (t : Tab) (s d : Nat) : Bool := match look t.ws d with
  | none => true
  | some i => match look t.ws s with
    | none => false
    | some k => i == k || t.bit k i
def Cell.refsAll (p : Nat → Bool) : Cell → Bool
  | .ref m => p m
  | .sub m _ _ _ => p m
  | _ => true
def TV.refsAll (p : Nat → Bool) : TV → Bool
  | .v _ cs => cs.all (·.refsAll p)
  | .tup ps => ps.all fun x => x.2.all (·.refsAll p)
  | .eptr m _ _ _ => p m
  | .inn m _ _ _ _ _ => p m
  | .capd m _ => p m
  | _ => true
def Cap.boxAll (p : Nat → Bool) : Cap → Bool
  | .ptr b => p b
  | _ => true
def TV.boxAll (p : Nat → Bool) : TV → Bool
  | .ptr b _ => p b
  | .lit b _ _ => p b
  | .clo _ caps => caps.all (·.boxAll p)
  | _ => true
def segOk (t : Tab) (σ : St) : Bool :=
  σ.tm.all (fun x => x.2.refsAll (fun m => t.sees x.1 (m / 64)) && x.2.boxAll (fun b => t.sees x.1 b)) && σ.bx.all fun x => x.2.all (·.refsAll fun m => t.sees x.1 (m / 64))
theorem Cell.refsAll_ok {p : Nat → Bool} {c : Cell} {m : Nat} (h : c.refsAll p = true) (hm : c.refs m = true) : p m = true := by
  cases c <;> simp [Cell.refs] at hm <;> subst hm <;> exact h
theorem cells_refsAll {p : Nat → Bool} {cs : List Cell} {m : Nat} (h : cs.all (·.refsAll p) = true) (hm : cs.any (·.refs m) = true) : p m = true := by
  obtain ⟨c, hc, hr⟩ := List.any_eq_true.1 hm
  exact Cell.refsAll_ok (List.all_eq_true.1 h c hc) hr
theorem TV.refsAll_ok {p : Nat → Bool} {x : TV} {m : Nat} (h : x.refsAll p = true) (hm : x.refs m = true) : p m = true := by
  cases x <;> simp only [TV.refs, Bool.false_eq_true] at hm
  case v a cs => exact cells_refsAll h hm
  case tup ps =>
    obtain ⟨x, hx, hr⟩ := List.any_eq_true.1 hm
    exact cells_refsAll (List.all_eq_true.1 h x hx) hr
  case eptr l k i off => simp at hm; subst hm; exact h
  case inn l k i off t xs => simp at hm; subst hm; exact h
  case capd l c => simp at hm; subst hm; exact h
theorem TV.boxAll_ok {p : Nat → Bool} {x : TV} {b : Nat} (h : x.boxAll p = true) (hb : x.hasB b = true) : p b = true := by
  cases x <;> simp only [TV.hasB, Bool.false_eq_true] at hb
  case ptr c off => simp at hb; subst hb; exact h
  case lit c n t => simp at hb; subst hb; exact h
  case clo fn caps =>
    obtain ⟨c, hc, hr⟩ := List.any_eq_true.1 hb
    have := List.all_eq_true.1 h c hc
    cases c with
    | ptr d => simp [Cap.hasB] at hr; subst hr; exact this
    | aptr cs => simp [Cap.hasB] at hr
theorem look_all {α : Type} {l : List (Nat × α)} {t : Nat} {x : α} {p : Nat × α → Bool} (h : l.all p = true) (hl : look l t = some x) : p (t, x) = true := List.all_eq_true.1 h _ (mem_look hl)
theorem segOk_tm {t : Tab} {σ : St} (h : segOk t σ = true) {s : Nat} {x : TV} (hl : look σ.tm s = some x) : (∀ m, x.refs m = true → t.sees s (m / 64) = true) ∧ ∀ b, x.hasB b = true → t.sees s b = true := by
  unfold segOk at h
  rw [Bool.and_eq_true] at h
  have := look_all h.1 hl
  rw [Bool.and_eq_true] at this
  exact ⟨fun m hm => TV.refsAll_ok (p := fun m => t.sees s (m / 64)) this.1 hm, fun b hb => TV.boxAll_ok (p := fun b => t.sees s b) this.2 hb⟩
theorem segOk_bx {t : Tab} {σ : St} (h : segOk t σ = true) {s : Nat} {cs : List Cell} (hl : look σ.bx s = some cs) : ∀ m, cs.any (·.refs m) = true → t.sees s (m / 64) = true := by
  unfold segOk at h
  rw [Bool.and_eq_true] at h
  exact fun m hm => cells_refsAll (p := fun m => t.sees s (m / 64)) (look_all h.2 hl) hm
/-- a set that holds whatever stands before its members -/
def Tab.Closed (t : Tab) (S : Nat → Bool) : Prop := ∀ k, S k = true → ∀ j, t.bit k j = true → S j = true
theorem sees_no {t : Tab} {S : Nat → Bool} (hc : t.Closed S) {s d i : Nat} (hi : look t.ws d = some i) (hS : S i = false) (hs : t.ok S s = true) : t.sees s d = false := by
  unfold Tab.sees
  rw [hi]
  dsimp only
  unfold Tab.ok at hs
  cases e : look t.ws s with
  | none => rfl
  | some k =>
    rw [e] at hs
    dsimp only at hs ⊢
    rw [Bool.or_eq_false_iff]
    constructor
    · rw [beq_eq_false_iff_ne]
      intro e2; subst e2; rw [hS] at hs; cases hs
    · cases hb : t.bit k i with
      | false => rfl
      | true => rw [hc k hs i hb] at hS; cases hS
theorem look_view_tm {σ : St} {t : Tab} {S : Nat → Bool} {s : Nat} : look (σ.view t S).tm s = if t.ok S s then look σ.tm s else none := look_filter (fun s => t.ok S s) σ.tm s
theorem look_view_bx {σ : St} {t : Tab} {S : Nat → Bool} {s : Nat} : look (σ.view t S).bx s = if t.ok S s then look σ.bx s else none := look_filter (fun s => t.ok S s) σ.bx s
theorem look_view_hp {σ : St} {t : Tab} {S : Nat → Bool} {l : Nat} : look (σ.view t S).hp l = if t.ok S (l / 64) then look σ.hp l else none := look_filter (fun l => t.ok S (l / 64)) σ.hp l
/-- what an operation has made is put to the rest -/
def St.merge (σ : St) (d : Option Nat) (σ' : St) : St := match d with
  | none => σ
  | some d => { σ with tm := D.put σ.tm d (σ'.get d), bx := σ'.bx.filter (fun p => p.1 == d) ++ σ.bx.filter (fun p => !(p.1 == d)), hp := σ'.hp.filter (fun p => p.1 / 64 == d) ++ σ.hp.filter (fun p => !(p.1 / 64 == d)) }
theorem look_part {α : Type} (q : Nat → Bool) (l r : List (Nat × α)) (t : Nat) : look (l.filter (fun p => q p.1) ++ r.filter fun p => !q p.1) t = if q t then look l t else look r t := by
  rw [look_append, look_filter q l t, look_filter (fun t => !q t) r t]
  cases hq : q t <;> simp
section
variable {P : Program} {E : Env} {F : Fr P} {G G' : Gh} {σ σ' σb : St} {a a' : Act} {w w' : World} {o : Oper} {K : St → Out} {Q : Post} {Qx : Exit → Act → World → Prop} {t : Tab}
theorem merge_tm {d s : Nat} : look (σ.merge (some d) σ').tm s = if s = d then some (σ'.get d) else look σ.tm s := look_put σ.tm d s (σ'.get d)
theorem merge_bx {d s : Nat} : look (σ.merge (some d) σ').bx s = if s = d then look σ'.bx s else look σ.bx s := by
  have := look_part (fun p => p == d) σ'.bx σ.bx s
  simpa [St.merge] using this
theorem merge_hp {d l : Nat} : look (σ.merge (some d) σ').hp l = if l / 64 = d then look σ'.hp l else look σ.hp l := by
  have := look_part (fun p => p / 64 == d) σ'.hp σ.hp l
  simpa [St.merge] using this
/-- less is known -/
theorem RG.weaken (h : RG F G σ a w) (h1 : ∀ s x, look σ'.tm s = some x → ∃ y, look σ.tm s = some y ∧ ∀ v, TVR w G y v → TVR w G x v) (h2 : ∀ s cs, look σ'.bx s = some cs → look σ.bx s = some cs) (h3 : ∀ l T, look σ'.hp l = some T → look σ.hp l = some T)
    (h4 : σ'.fb = σ.fb) (h5 : σ'.fl = σ.fl) (h6 : σ'.nt = σ.nt) : RG F G σ' a w :=
  ⟨fun s x hx => let ⟨y, hy, hi⟩ := h1 s x hx; hi _ (h.tm s y hy), fun s cs hc => h.bx s cs (h2 s cs hc), fun l T hl => h.hp l T (h3 l T hl), h.lt, h.os, h.tape, h.output, h.size, h.keep,
    fun b β hb => by rw [h4]; exact h.fb b β hb, fun l v hl => by rw [h5]; exact h.fl l v hl, by rw [h6]; exact h.nt, h.df⟩
def Imp (x y : TV) : Prop := ∀ (w : World) (G : Gh) (v : Value), TVR w G x v → TVR w G y v
/-- THE MERGE: what the operation i has made, at what it was told, joins what is known -/
theorem merge_ok {S : Nat → Bool} {i d : Nat} {v : Value} (hc : t.Closed S) (hS : S i = false) (hw : look t.ws d = some i) (hu : ∀ s, look t.ws s = some i → s = d) (hb : segOk t σb = true) (h : RG F G (σb.view t S) a w) (hd : d < a.tmps.size) (h' : RG F G' σ' (a.put (some d) v) w') (he : Ext (some d) G a w G' (a.put (some d) v) w')
    (e1 : ∀ x, look σb.tm d = some x → Imp (σ'.get d) x) (e2 : ∀ cs, look σb.bx d = some cs → look σ'.bx d = some cs) (e3 : ∀ l T, l / 64 = d → look σb.hp l = some T → look σ'.hp l = some T) :
    RG F G' (σb.view t (fun k => S k || k == i)) (a.put (some d) v) w' := by
  have okS : ∀ s, s ≠ d → t.ok (fun k => S k || k == i) s = true → t.ok S s = true := by
    intro s hsd hs
    unfold Tab.ok at hs ⊢
    cases e : look t.ws s with
    | none => rfl
    | some k =>
      rw [e] at hs
      have : ¬ k = i := fun e' => hsd (hu s (e' ▸ e))
      simpa [this] using hs
  have fo : FreeOk w w' G G' := ⟨fun g hg => ⟨he.sm (h.lt g (by simp [hg])) (by simp [hg]), (he.ow g (by simp [hg])).trans hg⟩, fun g hg => (he.ow g (by simp [hg])).trans hg⟩
  have mo : ∀ m, MemOk w w' G G' m := fun m g hg => ⟨he.sm (h.lt g (by simp [hg])) (by simp [hg]), (he.ow g (by simp [hg])).trans hg⟩
  have hvs : ∀ m, m / 64 ≠ d → G'.hv m = G.hv m := fun m hm => he.hv m fun d0 hd0 => by injection hd0 with hd0; subst hd0; omega
  have ne : ∀ s m, t.ok S s = true → t.sees s m = true → m ≠ d := by
    intro s m hs hm e
    subst e
    rw [sees_no hc hw hS hs] at hm
    cases hm
  constructor
  case tm =>
    intro s x hl
    rw [look_view_tm] at hl
    split at hl
    · rename_i hs
      by_cases hsd : s = d
      · subst hsd
        exact e1 x hl _ _ _ (get_ok h' s)
      · have hs' := okS s hsd hs
        have hx := h.tm s x (by rw [look_view_tm, if_pos hs']; exact hl)
        have hget : (a.put (some d) v).tmps.getD s undef = a.tmps.getD s undef := by simp [Act.put, Array.getElem?_setIfInBounds_ne (Ne.symm hsd)]
        rw [hget]
        obtain ⟨q1, q2⟩ := segOk_tm hb hl
        exact TV.carry fo (fun m hm => hvs m (ne s _ hs' (q1 m hm))) (fun m _ => mo m) (fun b hb' => he.be b fun e => by injection e with e; exact ne s b hs' (q2 b hb') e.symm) hx
    · cases hl
  case bx =>
    intro s cs hl
    rw [look_view_bx] at hl
    split at hl
    · rename_i hs
      by_cases hsd : s = d
      · subst hsd
        exact h'.bx s cs (e2 cs hl)
      · have hs' := okS s hsd hs
        obtain ⟨k1, r, e, k2, k3⟩ := h.bx s cs (by rw [look_view_bx, if_pos hs']; exact hl)
        have hbe : G'.be s = G.be s := he.be s fun e => by injection e with e; exact hsd e.symm
        rw [hbe]
        refine ⟨(he.ow _ (by simp [k1])).trans k1, r, e, (he.sm (h.lt _ (by simp [k1])) (by simp [k1])).trans k2, Cells.carry fo (fun m hm => hvs m (ne s _ hs' (segOk_bx hb hl m hm))) (fun m _ => mo m) k3⟩
    · cases hl
  case hp =>
    intro l T hl
    rw [look_view_hp] at hl
    split at hl
    · rename_i hs
      by_cases hsd : l / 64 = d
      · exact h'.hp l T (e3 l T hsd hl)
      · have hs' := okS _ hsd hs
        rw [hvs l hsd]
        exact (h.hp l T (by rw [look_view_hp, if_pos hs']; exact hl)).frame fun g hg _ => mo l g hg
    · cases hl
  case lt => exact h'.lt
  case os => exact h'.os
  case tape => exact h'.tape
  case output => exact h'.output
  case size => exact h'.size
  case keep => exact h'.keep
  case fb => exact fun b β hb' => ⟨(h'.fb b β hb').1, (h.fb b β hb').2⟩
  case fl => exact fun l u hl => ⟨(h'.fl l u hl).1, (h.fl l u hl).2⟩
  case nt => exact (show (a.put (some d) v).tmps.size = a.tmps.size by simp [Act.put]).trans h.nt
  case df => exact h'.df
end
end Go.D
