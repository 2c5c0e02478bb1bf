/-
  slice literals; how a cell's content and its trees are told.
-/
import Derived.Test.YtcgigcmleodjbaaVDjc
namespace Go.D
set_option linter.unusedVariables false
section
variable {P : Program} {F : Fr P} {G : Gh} {σ : St} {a : Act} {w : World} {o : Oper} {K : St → Out} {Q : Post} {Qx : Exit → Act → World → Prop}
def fillC (k : Nat) : List Cell → List (Nat × TV) → Option (List Cell)
  | cells, [] => some cells
  | cells, (j, .v _ cs) :: rest => if cs.length = k ∧ j * k + cs.length ≤ cells.length then fillC k (cells.take (j * k) ++ cs ++ cells.drop (j * k + cs.length)) rest else none
  | _, _ => none
theorem fillC_ok {k : Nat} : ∀ (ps : List (Nat × TV)) (vs : List (Nat × Value)) (cells : List Cell) (cur : Array Value) (cs : List Cell), CellsR w G cells cur → vs.length = ps.length → (∀ (j : Nat) (p : Nat × TV), ps[j]? = some p → ∃ v, vs[j]? = some (p.1, v) ∧ TVR w G p.2 v) →
      fillC k cells ps = some cs → ∃ r, Instr.fill (fun i => some (i * k, k)) cur vs = some r ∧ CellsR w G cs r := by
  intro ps
  induction ps with
  | nil =>
    intro vs cells cur cs hc hl _ hb
    simp only [fillC, Option.some.injEq] at hb
    subst hb
    have : vs = [] := List.eq_nil_of_length_eq_zero (by simpa using hl)
    subst this
    exact ⟨cur, rfl, hc⟩
  | cons p ps ih =>
    intro vs cells cur cs hc hl hv hb
    obtain ⟨j, tv⟩ := p
    obtain ⟨v, hv0, htv⟩ := hv 0 (j, tv) rfl
    cases vs with
    | nil => simp at hl
    | cons q vs =>
      simp only [List.getElem?_cons_zero, Option.some.injEq] at hv0
      subst hv0
      cases tv <;> simp only [fillC, reduceCtorEq] at hb
      rename_i agg cs0
      split at hb
      · rename_i hcond
        have hcs0 := part_cells htv
        simp only [Instr.fill]
        have hsz : v.cells.size = k := by rw [hcs0.1]; exact hcond.1
        have hle : j * k + v.cells.size ≤ cur.size := by rw [hc.1, hcs0.1]; exact hcond.2
        simp only [ne_eq, hsz, not_true_eq_false, decide_false, Bool.false_or, decide_eq_true_eq]
        rw [if_neg (by omega)]
        rw [fold_splice v.cells cur (j * k) hle]
        exact ih vs _ _ cs (splice_cells hc hcs0 hcond.2) (by simpa using hl) (fun j' p' hp' => by simpa using hv (j' + 1) p' (by simpa using hp')) hb
      · simp at hb
/-- rows of cell contents as elements -/
def decRows (t : Ty) : Nat → List FC → Option (List (El t))
  | 0, _ => some []
  | n + 1, ds => match dec t (ds.take t.width), decRows t n (ds.drop t.width) with
    | some x, some xs => some (x :: xs)
    | _, _ => none
theorem decRows_ok {t : Ty} : ∀ (n : Nat) (ds : List FC) (xs : List (El t)), decRows t n ds = some xs → xs.length = n ∧ ∀ i, i < n → ∀ j, j < t.width → fcLe (ds.getD (i * t.width + j) .nl) (cell t xs i j) := by
  intro n
  induction n with
  | zero => intro ds xs h; simp only [decRows, Option.some.injEq] at h; subst h; simp
  | succ n ih =>
    intro ds xs h
    simp only [decRows] at h
    split at h
    · rename_i x xs' h1 h2
      simp only [Option.some.injEq] at h
      subst h
      obtain ⟨h3, h4⟩ := ih _ _ h2
      refine ⟨by simp [h3], fun i hi j hj => ?_⟩
      cases i with
      | zero =>
        have := (dec_ok t _ x h1).get.2 j
        have e1 : cell t (x :: xs') 0 j = (enc t x).getD j .nl := cell_get rfl j
        rw [e1]
        have e2 : (ds.take t.width).getD j .nl = ds.getD (0 * t.width + j) .nl := by
          simp [List.getD_eq_getElem?_getD, hj]
        rw [← e2]
        exact this
      | succ i =>
        have := h4 i (by omega) j hj
        have e1 : cell t (x :: xs') (i + 1) j = cell t xs' i j := by simp [cell, List.getD_eq_getElem?_getD]
        rw [e1]
        have e2 : (ds.drop t.width).getD (i * t.width + j) .nl = ds.getD ((i + 1) * t.width + j) .nl := by
          simp only [List.getD_eq_getElem?_getD, List.getElem?_drop]
          congr 2
          rw [Nat.add_mul]
          omega
        rw [← e2]
        exact this
    · simp at h
/-- cls: only where no tree goes into it -/
def opBuildSlice (P : Program) (ty : TypeId → Option Ty) (cls : Bool) (o : Oper) (T : TypeId) (n : Nat) (parts : Array (Nat × Operand)) (σ : St) (K : St → Out) : Out :=
  match P.underlying T with
  | some (.slice e) => match P.info? e, ty e with
    | some i, some t => match i.zero with
      | some z => if t.width = i.size ∧ z.cells.size = i.size ∧ n * i.size ≤ 16777216 ∧ z.cells.toList.all (fun v => v.oneCell') = true then (match fillC i.size (List.replicate (n * i.size) .dead) (parts.toList.map fun p => (p.1, σ.eval p.2)) with
        | some cs => match litC σ cs with
          | some (ds, ab) => if cls && !ab.isEmpty then .bad else match decRows t n ds with
            | some xs => bif cls then treeKc o σ n ⟨t, xs⟩ K else treeK o σ (64 * o.dst.getD 0) ab ⟨t, xs⟩ K
            | none => .bad
          | none => .bad
        | none => .bad) else .bad
      | none => .bad
    | _, _ => .bad
  | _ => .bad
theorem opBuildSlice_all {ty : TypeId → Option Ty} {cls : Bool} {T : TypeId} {n : Nat} {parts : Array (Nat × Operand)} (h : RG F G σ a w) (ho : o.op = .buildSlice T n parts) (hh : (opBuildSlice P ty cls o T n parts σ K).holds Q) :
    o.wp P a w (if cls then ContE F G a w o.dst K Q else Cont F K Q) Qx := by
  unfold opBuildSlice at hh
  split at hh
  · rename_i e hu
    split at hh
    · rename_i i t hi hty
      split at hh
      · rename_i z hz
        split at hh
        · rename_i hc
          obtain ⟨hwd, hzs, hbig, hz1⟩ := hc
          have hk : 0 < i.size := by rw [← hwd]; exact width_pos t
          split at hh
          · rename_i cs hf
            split at hh
            · rename_i ds ab hlit
              split at hh
              · exact hh.elim
              · rename_i hcls
                split at hh
                · rename_i xs hxs
                  let cur : Array Value := (Array.range (n * i.size)).map (z.cells[· % z.cells.size]!)
                  have hcur : CellsR w G (List.replicate (n * i.size) .dead) cur := by
                    refine ⟨by simp [cur], fun j c hj => ?_⟩
                    have hlt : j < n * i.size := by
                      have := (List.getElem?_eq_some_iff.1 hj).1
                      simpa using this
                    have hm : j % z.cells.size < z.cells.size := Nat.mod_lt _ (by omega)
                    rw [List.getElem?_replicate, if_pos hlt] at hj
                    injection hj with hj
                    subst hj
                    refine ⟨z.cells[j % z.cells.size], by simp [cur, hlt, hm], ?_⟩
                    rw [List.all_eq_true] at hz1
                    exact hz1 _ (by simp)
                  obtain ⟨r, hfill, hr⟩ := fillC_ok (k := i.size) (parts.toList.map fun p => (p.1, σ.eval p.2)) (parts.toList.map fun p => (p.1, a.eval p.2)) _ cur cs hcur (by simp) (fun j p hj => by
                    rw [List.getElem?_map] at hj
                    cases hq : parts.toList[j]? with
                    | none => simp [hq] at hj
                    | some q =>
                      simp only [hq, Option.map_some, Option.some.injEq] at hj
                      subst hj
                      exact ⟨a.eval q.2, by simp [List.getElem?_map, hq], eval_ok h q.2⟩) hf
                  obtain ⟨l1, l2, l3, l4⟩ := litC_ok h cs ds ab hlit
                  obtain ⟨d1, d2⟩ := decRows_ok n ds xs hxs
                  have e1 : (parts.map fun (i, x) => (i, a.eval x)).toList = parts.toList.map fun p => (p.1, a.eval p.2) := by simp
                  have hlen : cs.length = n * i.size := by
                    have key : ∀ (ps : List (Nat × TV)) (c0 c1 : List Cell), fillC i.size c0 ps = some c1 → c1.length = c0.length := by
                      intro ps
                      induction ps with
                      | nil => intro c0 c1 h; simp only [fillC, Option.some.injEq] at h; rw [h]
                      | cons p ps ih =>
                        intro c0 c1 h
                        obtain ⟨j, tv⟩ := p
                        cases tv <;> simp only [fillC, reduceCtorEq] at h
                        split at h
                        · rename_i hcnd
                          rw [ih _ _ h]
                          simp
                          omega
                        · simp at h
                    rw [key _ _ _ hf]
                    simp
                  have he : (execOp a.eval o).run P w = .ok (.value (.slice (some ⟨w.heap.size, 0, none⟩) n n)) (w.alloc (.cells r e)) := by
                    have hnb : ¬ (16777216 < n * i.size) := by omega
                    by_cases hz0 : n * i.size = 0
                    · have hn0 : n = 0 := by
                        rcases Nat.mul_eq_zero.1 hz0 with h | h
                        · exact h
                        · omega
                      subst hn0
                      have hc0 : cur = #[] := by simp [cur]
                      rw [hc0] at hfill
                      simp [execOp, ho, Instr.buildSlice, run_underlying hu, sizeOf, typeInfo, hi, newRow, hfill, Array.range_zero']
                    · simp only [cur] at hfill
                      simp [execOp, ho, Instr.buildSlice, run_underlying hu, sizeOf, typeInfo, hi, hnb, hz0, zeroValue, hz, newRow, hfill]
                  have old : ∀ b, b < w.heap.size → (w.alloc (.cells r e)).heap[b]? = w.heap[b]? := fun b hb => heap_alloc_old w _ b hb
                  have hTn : (⟨t, xs⟩ : Tree).n = n := d1
                  have hTk : (⟨t, xs⟩ : Tree).k = i.size := hwd
                  have at_ : ∀ i', i' < n → ∀ j, j < i.size → ∃ c u, cs[i' * i.size + j]? = some c ∧ r[i' * i.size + j]? = some u ∧ CellR w G c u := by
                    intro i' hi' j hj
                    have hlt : i' * i.size + j < n * i.size := by
                      have : (i' + 1) * i.size ≤ n * i.size := Nat.mul_le_mul_right _ hi'
                      rw [Nat.add_mul] at this
                      omega
                    obtain ⟨u, hu', hr'⟩ := hr.2 _ _ (List.getElem?_eq_getElem (show i' * i.size + j < cs.length by omega))
                    exact ⟨_, u, List.getElem?_eq_getElem (by omega), hu', hr'⟩
                  have hT : TO (w.alloc (.cells r e)) (.sl (⟨t, xs⟩ : Tree).k (⟨t, xs⟩ : Tree).n (⟨t, xs⟩ : Tree).f) (.slice (some ⟨w.heap.size, 0, none⟩) n n) (fun b => (w.heap.size ≤ b ∧ b < (w.alloc (.cells r e)).heap.size) ∨ inAb G ab b) := by
                    rw [hTn, hTk]
                    refine .inr ⟨w.heap.size, 0, n, r, e, fun i' j b => ∃ c m, cs[i' * i.size + j]? = some c ∧ cellLab c m ∧ G.ow b = .lab m, rfl, Nat.le_refl _, ?_, heap_alloc_new w _, .inl ⟨Nat.le_refl _, by simp⟩, fun i' hi' j hj => ?_, fun i' hi' j hj b hb => ?_, fun i' hi' j hj i2 hi2 j2 hj2 b hb hb2 => ?_⟩
                    · rw [hr.1, hlen]; simp
                    · obtain ⟨c, u, hcj, huj, hcu⟩ := at_ i' hi' j hj
                      refine ⟨u, by rw [Nat.zero_add]; exact huj, ?_⟩
                      have hd2 := d2 i' hi' j (by omega)
                      rw [hwd] at hd2
                      exact TO.le hd2.le ((l2 _ c u hcj hcu).frame fun b hb _ => by
                        obtain ⟨m, hm, hb⟩ := hb
                        exact ⟨old b (h.lt b (by simp [hb])), c, m, hcj, hm, hb⟩)
                    · obtain ⟨c, m, hcj, hm, hbm⟩ := hb
                      exact ⟨.inr ⟨m, l3 _ c m hcj hm, hbm⟩, Nat.ne_of_lt (h.lt b (by simp [hbm]))⟩
                    · obtain ⟨c, m, hcj, hm, hbm⟩ := hb
                      obtain ⟨c2, m2, hcj2, hm2, hbm2⟩ := hb2
                      rw [hbm] at hbm2
                      injection hbm2 with e2
                      subst e2
                      exact mul_at hj2 hj (l4 _ _ c c2 m hcj hcj2 hm hm2)
                  cases cls with
                  | true =>
                    have hab : ab = [] := by simpa using hcls
                    subst hab
                    exact wp_val he (treeKc_new h hh ⟨rfl, rfl, ⟨rfl, by first | exact Nat.le_refl _ | exact Nat.le_succ _⟩, by simp⟩ old rfl ⟨_, _, rfl⟩ (hT.frame fun b hb _ => ⟨rfl, hb.resolve_right (by rintro ⟨m, hm, _⟩; cases hm)⟩))
                  | false => exact wp_val he (treeK_ok h hh ⟨rfl, rfl, ⟨rfl, by first | exact Nat.le_refl _ | exact Nat.le_succ _⟩, by simp⟩ (fun b hb _ => old b (h.lt b hb)) rfl (hT.frame fun b hb _ => ⟨rfl, hb.imp id .inr⟩))
                · exact hh.elim
            · exact hh.elim
          · exact hh.elim
        · exact hh.elim
      · exact hh.elim
    · exact hh.elim
  · exact hh.elim
end
end Go.D
