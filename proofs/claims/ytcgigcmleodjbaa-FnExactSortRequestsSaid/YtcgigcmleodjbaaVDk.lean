/-
  make, composite literals.
-/
import Derived.Test.YtcgigcmleodjbaaVDjb
namespace Go.D
set_option linter.unusedVariables false
section
variable {P : Program} {F : Fr P} {G : Gh} {σ : St} {a : Act} {w : World} {o : Oper} {K : St → Out} {Q : Post} {Qx : Exit → Act → World → Prop}
def constFC : Value → Option FC
  | .bool b => some (.val (.bool b))
  | .int k n => some (.val (.int k n))
  | .string s => some (.val (.string s))
  | .slice none 0 0 => some .nl
  | _ => none
theorem constFC_ok {v : Value} {c : FC} {N : Nat → Prop} (h : constFC v = some c) : TO w (fcC c) v N := by
  unfold constFC at h
  split at h <;> simp only [Option.some.injEq, reduceCtorEq] at h <;> subst h
  · exact ⟨rfl, rfl⟩
  · exact ⟨rfl, rfl⟩
  · exact ⟨rfl, rfl⟩
  · rfl
def constFCs : List Value → Option (List FC)
  | [] => some []
  | v :: vs => match constFC v, constFCs vs with
    | some c, some cs => some (c :: cs)
    | _, _ => none
theorem constFCs_get {vs : List Value} {cs : List FC} (h : constFCs vs = some cs) : cs.length = vs.length ∧ ∀ (j : Nat) (v : Value), vs[j]? = some v → constFC v = some (cs.getD j .nl) := by
  induction vs generalizing cs with
  | nil => simp only [constFCs, Option.some.injEq] at h; subst h; simp
  | cons v vs ih =>
    simp only [constFCs] at h
    split at h
    · rename_i c cs' h1 h2
      simp only [Option.some.injEq] at h
      subst h
      obtain ⟨h3, h4⟩ := ih h2
      refine ⟨by simp [h3], fun j v' hj => ?_⟩
      cases j with
      | zero => simp only [List.getElem?_cons_zero, Option.some.injEq] at hj; subst hj; simpa using h1
      | succ j => simpa using h4 j v' (by simpa using hj)
    · simp at h
def opMake (P : Program) (ty : TypeId → Option Ty) (o : Oper) (T : TypeId) (l c : Operand) (σ : St) (K : St → Out) : Out :=
  match P.underlying T with
  | some (.slice e) => match P.info? e, ty e with
    | some i, some t => match i.zero with
      | some z => match constFCs z.cells.toList, (σ.eval l).scal, (σ.eval c).scal with
        | some zs, some (.int _ n), some (.int _ m) => match dec t zs with
          | some x => if t.width = i.size ∧ z.cells.size = i.size then .ob (n = m ∧ 0 ≤ n ∧ (i.bytes : Int) * n ≤ 140737488355328 ∧ n ≤ 140737488355328) (treeK o σ (64 * o.dst.getD 0) [] ⟨t, List.replicate n.toNat x⟩ K) else .bad
          | none => .bad
        | _, _, _ => .bad
      | none => .bad
    | _, _ => .bad
  | _ => .bad
theorem opMake_ok {ty : TypeId → Option Ty} {T : TypeId} {l c : Operand} (h : RG F G σ a w) (ho : o.op = .makeSlice T l c) (hh : (opMake P ty o T l c σ K).holds Q) : o.wp P a w (ContE F G a w o.dst K Q) Qx := by
  unfold opMake at hh
  split at hh
  · rename_i e hu
    split at hh
    · rename_i i t hi hty
      split at hh
      · rename_i z hz
        split at hh
        · rename_i zs k1 n k2 m hzs hl hm
          split at hh
          · rename_i x hx
            split at hh
            · rename_i hc
              obtain ⟨hw, hsz⟩ := hc
              have hk : 0 < i.size := by rw [← hw]; exact width_pos t
              obtain ⟨⟨rfl, h0, hb, h63⟩, hh⟩ := hh
              have hr := run_make (P := P) w T e i z hu hi hz k1 k2 n n h0 (Int.le_refl _) (by omega) (by omega)
              have e1 : (execOp a.eval o).run P w = .ok (.value (.slice (some ⟨w.heap.size, 0, none⟩) n.toNat n.toNat)) (w.alloc (.cells (madeCells z.cells (n.toNat * i.size)) e)) := by
                simp [execOp, ho, (scal_ok (eval_ok h l) hl).1, (scal_ok (eval_ok h c) hm).1, hr]
              have old : ∀ b, b < w.heap.size → (w.alloc (.cells (madeCells z.cells (n.toNat * i.size)) e)).heap[b]? = w.heap[b]? := fun b hb => heap_alloc_old w _ b hb
              refine wp_val e1 (treeK_new h hh ⟨rfl, rfl, ⟨rfl, by first | exact Nat.le_refl _ | exact Nat.le_succ _⟩, by simp⟩ old rfl ?_)
              have hlen : (⟨t, List.replicate n.toNat x⟩ : Tree).n = n.toNat := by simp [Tree.n]
              have hkk : (⟨t, List.replicate n.toNat x⟩ : Tree).k = i.size := hw
              rw [hlen, hkk]
              refine .inr ⟨w.heap.size, 0, n.toNat, _, e, fun _ _ _ => False, rfl, Nat.le_refl _, ?_, heap_alloc_new w _, ⟨Nat.le_refl _, by simp⟩, fun i' hi' j hj => ?_, by simp, by simp⟩
              · simp [size_madeCells]
              · have hlt : i' * i.size + j < n.toNat * i.size := by
                  have : (i' + 1) * i.size ≤ n.toNat * i.size := Nat.mul_le_mul_right _ hi'
                  rw [Nat.add_mul] at this
                  omega
                have hmod : (i' * i.size + j) % z.cells.size = j := by rw [hsz, Nat.mul_comm, Nat.mul_add_mod, Nat.mod_eq_of_lt hj]
                have hjz : j < z.cells.size := by omega
                refine ⟨z.cells[j], ?_, ?_⟩
                · rw [Nat.zero_add]
                  simp [madeCells, hlt, hmod, hjz]
                · have hcell : cell t (List.replicate n.toNat x) i' j = (enc t x).getD j .nl := cell_get (by simp [hi']) j
                  simp only [Tree.f]
                  rw [hcell]
                  exact TO.le ((dec_ok t zs x hx).get.2 j).le (constFC_ok ((constFCs_get hzs).2 j _ (by simp [hjz])))
            · exact hh.elim
          · exact hh.elim
        · exact hh.elim
      · exact hh.elim
    · exact hh.elim
  · exact hh.elim
/-! filling -/
theorem fold_set (l : List Value) : ∀ (s off : Nat) (cells : Array Value), (((l.zipIdx s).foldl (fun (cs : Array Value) (p : Value × Nat) => cs.setIfInBounds (off + p.2) p.1) cells).size = cells.size) ∧
    ∀ x, off + s + l.length ≤ cells.size → ((l.zipIdx s).foldl (fun (cs : Array Value) (p : Value × Nat) => cs.setIfInBounds (off + p.2) p.1) cells)[x]? = if off + s ≤ x ∧ x < off + s + l.length then l[x - (off + s)]? else cells[x]? := by
  induction l with
  | nil =>
    intro s off cells
    refine ⟨rfl, fun x hx => ?_⟩
    rw [if_neg (by simp only [List.length_nil]; omega)]
    rfl
  | cons v l ih =>
    intro s off cells
    simp only [List.zipIdx_cons, List.foldl_cons]
    obtain ⟨h1, h2⟩ := ih (s + 1) off (cells.setIfInBounds (off + s) v)
    refine ⟨by rw [h1]; simp, fun x hx => ?_⟩
    simp only [List.length_cons] at hx
    rw [h2 x (by simp; omega)]
    by_cases hxs : x = off + s
    · subst hxs
      have : ¬ (off + (s + 1) ≤ off + s ∧ off + s < off + (s + 1) + l.length) := by omega
      rw [if_neg this, if_pos (by simp only [List.length_cons]; omega)]
      have hlt : off + s < cells.size := by omega
      simp [hlt]
    · by_cases hin : off + (s + 1) ≤ x ∧ x < off + (s + 1) + l.length
      · rw [if_pos hin, if_pos (by simp only [List.length_cons]; omega)]
        rw [show x - (off + s) = (x - (off + (s + 1))) + 1 from by omega, List.getElem?_cons_succ]
      · rw [if_neg hin, if_neg (by simp only [List.length_cons]; omega)]
        simp [Array.getElem?_setIfInBounds_ne (Ne.symm hxs)]
theorem fold_splice (v cells : Array Value) (off : Nat) (h : off + v.size ≤ cells.size) :
    v.zipIdx.foldl (fun cs (c, j) => cs.setIfInBounds (off + j) c) cells = (cells.toList.take off ++ v.toList ++ cells.toList.drop (off + v.toList.length)).toArray := by
  have e : v.zipIdx.foldl (fun cs (c, j) => cs.setIfInBounds (off + j) c) cells = (v.toList.zipIdx 0).foldl (fun (cs : Array Value) (p : Value × Nat) => cs.setIfInBounds (off + p.2) p.1) cells := by
    rw [← Array.foldl_toList]
    simp
  rw [e]
  obtain ⟨h1, h2⟩ := fold_set v.toList 0 off cells
  apply Array.ext_getElem?
  intro x
  rw [h2 x (by simpa using h)]
  simp only [Nat.add_zero, Array.length_toList, List.getElem?_toArray]
  rw [List.append_assoc]
  by_cases hlo : x < off
  · rw [if_neg (by omega), List.getElem?_append_left (by simp; omega)]
    simp [hlo]
  · have e1 : (List.take off cells.toList).length = off := by simp; omega
    rw [List.getElem?_append_right (by omega), e1]
    by_cases hin : x < off + v.size
    · rw [if_pos ⟨by omega, hin⟩, List.getElem?_append_left (by simp; omega)]
    · rw [if_neg (by omega), List.getElem?_append_right (by simp; omega)]
      simp only [List.getElem?_drop, Array.length_toList, Array.getElem?_toList]
      congr 1
      omega
/-- the cells of a struct literal -/
def buildCells (P : Program) (fs : Array Field) : List Cell → List (Nat × TV) → Option (List Cell)
  | cells, [] => some cells
  | cells, (j, .v _ cs) :: rest => match fs[j]? with
    | some f => match P.info? f.type with
      | some i => if cs.length = i.size ∧ f.offset + cs.length ≤ cells.length then buildCells P fs (cells.take f.offset ++ cs ++ cells.drop (f.offset + cs.length)) rest else none
      | none => none
    | none => none
  | _, _ => none
theorem buildCells_ok {fs : Array Field} {places : Array (Nat × Nat)} (hpl : ∀ (j : Nat) (f : Field) (i : TypeInfo), fs[j]? = some f → P.info? f.type = some i → places[j]? = some (f.offset, i.size)) :
    ∀ (ps : List (Nat × TV)) (vs : List (Nat × Value)) (cells : List Cell) (cur : Array Value) (cs : List Cell), CellsR w G cells cur → vs.length = ps.length → (∀ (j : Nat) (p : Nat × TV), ps[j]? = some p → ∃ v, vs[j]? = some (p.1, v) ∧ TVR w G p.2 v) →
      buildCells P fs cells ps = some cs → ∃ r, Instr.fill (places[·]?) cur vs = some r ∧ CellsR w G cs r := by
  intro ps
  induction ps with
  | nil =>
    intro vs cells cur cs hc hl _ hb
    simp only [buildCells, Option.some.injEq] at hb
    subst hb
    have : vs = [] := List.eq_nil_of_length_eq_zero (by simpa using hl)
    subst this
    exact ⟨cur, rfl, hc⟩
  | cons p ps ih =>
    intro vs cells cur cs hc hl hv hb
    obtain ⟨j, tv⟩ := p
    obtain ⟨v, hv0, htv⟩ := hv 0 (j, tv) rfl
    cases vs with
    | nil => simp at hl
    | cons q vs =>
      simp only [List.getElem?_cons_zero, Option.some.injEq] at hv0
      subst hv0
      cases tv <;> simp only [buildCells, reduceCtorEq] at hb
      rename_i agg cs0
      split at hb
      · rename_i f hf
        split at hb
        · rename_i i hi
          split at hb
          · rename_i hcond
            have hcs0 := part_cells htv
            have hp := hpl j f i hf hi
            simp only [Instr.fill, hp]
            have hsz : v.cells.size = i.size := by rw [hcs0.1]; exact hcond.1
            have hle : f.offset + v.cells.size ≤ cur.size := by rw [hc.1, hcs0.1]; exact hcond.2
            have hno : ¬ (v.cells.size ≠ i.size ∨ cur.size < f.offset + v.cells.size) := by omega
            simp only [ne_eq, hsz, not_true_eq_false, decide_false, Bool.false_or, decide_eq_true_eq]
            rw [if_neg (by omega)]
            rw [fold_splice v.cells cur f.offset hle]
            exact ih vs _ _ cs (splice_cells hc hcs0 hcond.2) (by simpa using hl) (fun j' p' hp' => by simpa using hv (j' + 1) p' (by simpa using hp')) hb
          · simp at hb
        · simp at hb
      · simp at hb
def opBuild (P : Program) (o : Oper) (T : TypeId) (parts : Array (Nat × Operand)) (σ : St) (K : St → Out) : Out :=
  match P.underlying T, zeroCells P T with
  | some (.struct fs), some zs => if fs.toList.all (fun f => (P.info? f.type).isSome) then (match buildCells P fs zs (parts.toList.map fun p => (p.1, σ.eval p.2)) with
    | some cs => ret σ o (.v true cs) K
    | none => .bad) else .bad
  | _, _ => .bad
theorem run_places (fs : List Field) (h : fs.all (fun f => (P.info? f.type).isSome) = true) : ∃ ps : List (Nat × Nat), (fs.mapM fun f => do pure (f.offset, ← sizeOf f.type) : Sem (List (Nat × Nat))).run P w = .ok ps w ∧
    ∀ (j : Nat) (f : Field) (i : TypeInfo), fs[j]? = some f → P.info? f.type = some i → ps[j]? = some (f.offset, i.size) := by
  induction fs with
  | nil => exact ⟨[], by simp, by simp⟩
  | cons f fs ih =>
    simp only [List.all_cons, Bool.and_eq_true] at h
    obtain ⟨ps, hr, hp⟩ := ih h.2
    obtain ⟨i, hi⟩ := Option.isSome_iff_exists.1 h.1
    refine ⟨(f.offset, i.size) :: ps, ?_, fun j f' i' hj hi' => ?_⟩
    · have hone : (do pure (f.offset, ← sizeOf f.type) : Sem (Nat × Nat)).run P w = .ok (f.offset, i.size) w := by simp [sizeOf, typeInfo, hi]
      rw [List.mapM_cons, Sem.run_bind, hone, Result.andThen_ok, Sem.run_bind, hr, Result.andThen_ok]
      rfl
    · cases j with
      | zero =>
        simp only [List.getElem?_cons_zero, Option.some.injEq] at hj
        subst hj
        rw [hi] at hi'
        injection hi' with hi'
        subst hi'
        rfl
      | succ j => simpa using hp j f' i' (by simpa using hj) hi'
theorem opBuild_ok {T : TypeId} {parts : Array (Nat × Operand)} (h : RG F G σ a w) (ho : o.op = .build T parts) (hh : (opBuild P o T parts σ K).holds Q) : o.wp P a w (ContE F G a w o.dst K Q) Qx := by
  unfold opBuild at hh
  split at hh
  · rename_i fs zs hu hz
    split at hh
    · rename_i hall
      split at hh
      · rename_i cs hb
        obtain ⟨i, z, hi, hzz, hcz⟩ := zeroCells_ok (w := w) (G := G) hz
        obtain ⟨pl, hpr, hpp⟩ := run_places (P := P) (w := w) fs.toList hall
        have hpr' : (fs.mapM fun f => do pure (f.offset, ← sizeOf f.type) : Sem (Array (Nat × Nat))).run P w = .ok pl.toArray w := by
          rw [Array.mapM_eq_mapM_toList]
          simp only [Sem.run_map, hpr, Result.andThen_ok]
        obtain ⟨r, hfill, hr⟩ := buildCells_ok (P := P) (w := w) (G := G) (fs := fs) (places := pl.toArray) (fun j f i hf hi => by simpa using hpp j f i (by simpa using hf) hi)
          (parts.toList.map fun p => (p.1, σ.eval p.2)) (parts.toList.map fun p => (p.1, a.eval p.2)) zs z.cells cs hcz (by simp) (fun j p hj => by
            rw [List.getElem?_map] at hj
            cases hq : parts.toList[j]? with
            | none => simp [hq] at hj
            | some q =>
              simp only [hq, Option.map_some, Option.some.injEq] at hj
              subst hj
              exact ⟨a.eval q.2, by simp [List.getElem?_map, hq], eval_ok h q.2⟩) hb
        refine ret_val h hh ⟨r, rfl, hr⟩ ?_
        have e1 : (parts.map fun (i, x) => (i, a.eval x)).toList = parts.toList.map fun p => (p.1, a.eval p.2) := by simp
        simp only [execOp, ho, Instr.build, zeroValue, typeInfo, Sem.run_bind, run_program, Result.andThen_ok, hi, hzz, Sem.run_pure, run_underlying hu, hpr', e1, hfill]
      · exact hh.elim
    · exact hh.elim
  · exact hh.elim
end
end Go.D
