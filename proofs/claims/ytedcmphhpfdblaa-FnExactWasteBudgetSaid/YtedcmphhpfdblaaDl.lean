/-
  slice literals; how a cell's content and its trees are told.
-/
import Derived.Test.YtedcmphhpfdblaaDk
namespace Go.D
set_option linter.unusedVariables false
section
variable {P : Program} {F : Fr} {G : Gh} {σ : St} {a : Act} {w : World} {o : Oper} {K : St → Out} {Q : Post} {Qx : Exit → Act → World → Prop}
def fillC (k : Nat) : List Cell → List (Nat × TV) → Option (List Cell)
  | cells, [] => some cells
  | cells, (j, .v _ cs) :: rest => if cs.length = k ∧ j * k + cs.length ≤ cells.length then fillC k (cells.take (j * k) ++ cs ++ cells.drop (j * k + cs.length)) rest else none
  | _, _ => none
theorem fillC_ok {k : Nat} : ∀ (ps : List (Nat × TV)) (vs : List (Nat × Value)) (cells : List Cell) (cur : Array Value) (cs : List Cell), CellsR w G cells cur → vs.length = ps.length → (∀ (j : Nat) (p : Nat × TV), ps[j]? = some p → ∃ v, vs[j]? = some (p.1, v) ∧ TVR w G p.2 v) →
      fillC k cells ps = some cs → ∃ r, Instr.fill (fun i => some (i * k, k)) cur vs = some r ∧ CellsR w G cs r := by
  intro ps
  induction ps with
  | nil =>
    intro vs cells cur cs hc hl _ hb
    simp only [fillC, Option.some.injEq] at hb
    subst hb
    have : vs = [] := List.eq_nil_of_length_eq_zero (by simpa using hl)
    subst this
    exact ⟨cur, rfl, hc⟩
  | cons p ps ih =>
    intro vs cells cur cs hc hl hv hb
    obtain ⟨j, tv⟩ := p
    obtain ⟨v, hv0, htv⟩ := hv 0 (j, tv) rfl
    cases vs with
    | nil => simp at hl
    | cons q vs =>
      simp only [List.getElem?_cons_zero, Option.some.injEq] at hv0
      subst hv0
      cases tv <;> simp only [fillC, reduceCtorEq] at hb
      rename_i agg cs0
      split at hb
      · rename_i hcond
        have hcs0 := part_cells htv
        simp only [Instr.fill]
        have hsz : v.cells.size = k := by rw [hcs0.1]; exact hcond.1
        have hle : j * k + v.cells.size ≤ cur.size := by rw [hc.1, hcs0.1]; exact hcond.2
        simp only [ne_eq, hsz, not_true_eq_false, decide_false, Bool.false_or, decide_eq_true_eq]
        rw [if_neg (by omega)]
        rw [fold_splice v.cells cur (j * k) hle]
        exact ih vs _ _ cs (splice_cells hc hcs0 hcond.2) (by simpa using hl) (fun j' p' hp' => by simpa using hv (j' + 1) p' (by simpa using hp')) hb
      · simp at hb
/-- what a cell holds, and the tree that goes with it -/
def litC (σ : St) : List Cell → Option (List C × List Nat)
  | [] => some ([], [])
  | c :: cs => match litC σ cs with
    | some (ds, ab) => match c with
      | .nil => some (.nl :: ds, ab)
      | .ref l => match look σ.hp l with
        | some t => if ab.contains l then none else some (.sl t.k t.n t.f :: ds, l :: ab)
        | none => none
      | c => match c.val? with
        | some v => some (.val v :: ds, ab)
        | none => none
    | none => none
def cellLab : Cell → Nat → Prop
  | .ref l, m => l = m
  | _, _ => False
theorem litC_ok (h : RG F G σ a w) : ∀ (cs : List Cell) (ds : List C) (ab : List Nat), litC σ cs = some (ds, ab) → ds.length = cs.length ∧
    (∀ (j : Nat) (c : Cell) (u : Value), cs[j]? = some c → CellR w G c u → TO w (ds.getD j .nl) u (fun b => ∃ m, cellLab c m ∧ G.ow b = .lab m)) ∧
    (∀ (j : Nat) (c : Cell) (m : Nat), cs[j]? = some c → cellLab c m → m ∈ ab) ∧
    (∀ (j j' : Nat) (c c' : Cell) (m : Nat), cs[j]? = some c → cs[j']? = some c' → cellLab c m → cellLab c' m → j = j') := by
  intro cs
  induction cs with
  | nil => intro ds ab hl; simp only [litC, Option.some.injEq, Prod.mk.injEq] at hl; obtain ⟨rfl, rfl⟩ := hl; simp
  | cons c cs ih =>
    intro ds ab hl
    simp only [litC] at hl
    split at hl
    · rename_i ds0 ab0 hl0
      obtain ⟨h1, h2, h3, h4⟩ := ih ds0 ab0 hl0
      have step : ∀ (d : C) (ab1 : List Nat), ds = d :: ds0 → ab = ab1 → (∀ u, CellR w G c u → TO w d u (fun b => ∃ m, cellLab c m ∧ G.ow b = .lab m)) → (∀ m, cellLab c m → m ∈ ab1) → (∀ m, m ∈ ab0 → m ∈ ab1) → (∀ m, cellLab c m → m ∉ ab0) →
          ds.length = (c :: cs).length ∧ (∀ (j : Nat) (c' : Cell) (u : Value), (c :: cs)[j]? = some c' → CellR w G c' u → TO w (ds.getD j .nl) u (fun b => ∃ m, cellLab c' m ∧ G.ow b = .lab m)) ∧
          (∀ (j : Nat) (c' : Cell) (m : Nat), (c :: cs)[j]? = some c' → cellLab c' m → m ∈ ab) ∧
          (∀ (j j' : Nat) (c1 c2 : Cell) (m : Nat), (c :: cs)[j]? = some c1 → (c :: cs)[j']? = some c2 → cellLab c1 m → cellLab c2 m → j = j') := by
        intro d ab1 hd hab t1 t2 t3 t4
        subst hd
        subst hab
        refine ⟨by simp [h1], fun j c' u hj hu => ?_, fun j c' m hj hm => ?_, fun j j' c1 c2 m hj hj' hm hm' => ?_⟩
        · cases j with
          | zero => simp only [List.getElem?_cons_zero, Option.some.injEq] at hj; subst hj; simpa using t1 u hu
          | succ j => simpa using h2 j c' u (by simpa using hj) hu
        · cases j with
          | zero => simp only [List.getElem?_cons_zero, Option.some.injEq] at hj; subst hj; exact t2 m hm
          | succ j => exact t3 m (h3 j c' m (by simpa using hj) hm)
        · cases j with
          | zero =>
            simp only [List.getElem?_cons_zero, Option.some.injEq] at hj
            subst hj
            cases j' with
            | zero => rfl
            | succ j' => exact absurd (h3 j' c2 m (by simpa using hj') hm') (t4 m hm)
          | succ j =>
            cases j' with
            | zero =>
              simp only [List.getElem?_cons_zero, Option.some.injEq] at hj'
              subst hj'
              exact absurd (h3 j c1 m (by simpa using hj) hm) (t4 m hm')
            | succ j' => rw [h4 j j' c1 c2 m (by simpa using hj) (by simpa using hj') hm hm']
      split at hl
      · simp only [Option.some.injEq, Prod.mk.injEq] at hl
        exact step _ _ hl.1.symm hl.2.symm (fun u hu => hu) (by simp [cellLab]) (fun _ h => h) (by simp [cellLab])
      · rename_i l
        split at hl
        · rename_i t ht
          split at hl
          · simp at hl
          · rename_i hnl
            simp only [Option.some.injEq, Prod.mk.injEq] at hl
            refine step _ _ hl.1.symm hl.2.symm (fun u hu => ?_) (fun m hm => by simp only [cellLab] at hm; subst hm; simp) (fun m hm => by simp [hm]) (fun m hm => by simp only [cellLab] at hm; subst hm; simpa using hnl)
            rw [hu.1]
            exact (h.hp l t ht).frame fun b hb _ => ⟨rfl, l, rfl, hb⟩
        · simp at hl
      · rename_i hn1 hn2
        split at hl
        · rename_i v hv
          simp only [Option.some.injEq, Prod.mk.injEq] at hl
          have hnl : ∀ m, ¬ cellLab c m := by
            intro m hm
            cases c <;> simp [cellLab] at hm
            exact hn2 _ rfl
          exact step _ _ hl.1.symm hl.2.symm (fun u hu => Cell.val_ok hu hv) (fun m hm => (hnl m hm).elim) (fun _ h => h) (fun m hm => (hnl m hm).elim)
        · simp at hl
    · simp at hl
theorem litC_flat : ∀ (cs : List Cell) (us : List Value), cellVals cs = some us → litC σ cs = some (us.map .val, []) := by
  intro cs
  induction cs with
  | nil => intro us h; simp only [cellVals, Option.some.injEq] at h; subst h; rfl
  | cons c cs ih =>
    intro us h
    simp only [cellVals] at h
    split at h
    · rename_i v vs hv hvs
      simp only [Option.some.injEq] at h
      subst h
      cases c <;> simp only [Cell.val?, Option.some.injEq, reduceCtorEq] at hv <;> subst hv <;> simp [litC, ih vs hvs, Cell.val?]
    · simp at h
theorem treeK_le {w' : World} {l : Nat} {ab : List Nat} {T T' : Tree} {v : Value} (h : RG F G σ a w) (hh : (treeK o σ l ab T' K).holds Q) (hk : T'.k = T.k) (hn : T'.n = T.n) (hf : ∀ i, i < T.n → ∀ j, j < T.k → T.f i j = T'.f i j) (ho : Onward w w') (hs : ∀ b, G.ow b ≠ .gone → G.ow b ≠ .lab l → w'.heap[b]? = w.heap[b]?) (h1 : v.oneCell' = true)
    (hT : TO w' (.sl T.k T.n T.f) v (fun b => (w.heap.size ≤ b ∧ b < w'.heap.size) ∨ G.ow b = .lab l ∨ inAb G ab b)) : Cont F K Q (a.put o.dst v) w' := by
  refine treeK_ok h hh ho hs h1 (TO.le ?_ hT)
  rw [hk, hn]
  exact ⟨T'.f, rfl, fun i hi j hj => by rw [hf i hi j hj]; exact le.refl _⟩
def opBuildSlice (P : Program) (o : Oper) (T : TypeId) (n : Nat) (parts : Array (Nat × Operand)) (σ : St) (K : St → Out) : Out :=
  match P.underlying T with
  | some (.slice e) => match P.info? e with
    | some i => match i.zero with
      | some z => if 0 < i.size ∧ z.cells.size = i.size ∧ n * i.size ≤ 16777216 ∧ z.cells.toList.all (fun v => v.oneCell') = true then (match fillC i.size (List.replicate (n * i.size) .dead) (parts.toList.map fun p => (p.1, σ.eval p.2)) with
        | some cs => match cellVals cs with
          | some us => treeK o σ (64 * o.dst.getD 0) [] ⟨i.size, n, fun i' j => .val (us.getD (i' * i.size + j) undef)⟩ K
          | none => match litC σ cs with
          | some (ds, ab) => treeK o σ (64 * o.dst.getD 0) ab ⟨i.size, n, fun i' j => ds.getD (i' * i.size + j) .nl⟩ K
          | none => .bad
        | none => .bad) else .bad
      | none => .bad
    | none => .bad
  | _ => .bad
theorem opBuildSlice_ok {T : TypeId} {n : Nat} {parts : Array (Nat × Operand)} (h : RG F G σ a w) (ho : o.op = .buildSlice T n parts) (hh : (opBuildSlice P o T n parts σ K).holds Q) : o.wp P a w (Cont F K Q) Qx := by
  unfold opBuildSlice at hh
  split at hh
  · rename_i e hu
    split at hh
    · rename_i i hi
      split at hh
      · rename_i z hz
        split at hh
        · rename_i hc
          obtain ⟨hk, hzs, hbig, hz1⟩ := hc
          split at hh
          · rename_i cs hf
            have main : ∀ (ds : List C) (ab : List Nat) (T' : Tree), litC σ cs = some (ds, ab) → T'.k = i.size → T'.n = n → (∀ i', i' < n → ∀ j, j < i.size → i' * i.size + j < ds.length → ds.getD (i' * i.size + j) .nl = T'.f i' j) → (treeK o σ (64 * o.dst.getD 0) ab T' K).holds Q → o.wp P a w (Cont F K Q) Qx := by
              intro ds ab T' hlit hTk hTn hTf hh
              let cur : Array Value := (Array.range (n * i.size)).map (z.cells[· % z.cells.size]!)
              have hcur : CellsR w G (List.replicate (n * i.size) .dead) cur := by
                refine ⟨by simp [cur], fun j c hj => ?_⟩
                have hlt : j < n * i.size := by
                  have := (List.getElem?_eq_some_iff.1 hj).1
                  simpa using this
                have hm : j % z.cells.size < z.cells.size := Nat.mod_lt _ (by omega)
                rw [List.getElem?_replicate, if_pos hlt] at hj
                injection hj with hj
                subst hj
                refine ⟨z.cells[j % z.cells.size], by simp [cur, hlt, hm], ?_⟩
                rw [List.all_eq_true] at hz1
                exact hz1 _ (by simp)
              obtain ⟨r, hfill, hr⟩ := fillC_ok (k := i.size) (parts.toList.map fun p => (p.1, σ.eval p.2)) (parts.toList.map fun p => (p.1, a.eval p.2)) _ cur cs hcur (by simp) (fun j p hj => by
                rw [List.getElem?_map] at hj
                cases hq : parts.toList[j]? with
                | none => simp [hq] at hj
                | some q =>
                  simp only [hq, Option.map_some, Option.some.injEq] at hj
                  subst hj
                  exact ⟨a.eval q.2, by simp [List.getElem?_map, hq], eval_ok h q.2⟩) hf
              obtain ⟨l1, l2, l3, l4⟩ := litC_ok h cs ds ab hlit
              have e1 : (parts.map fun (i, x) => (i, a.eval x)).toList = parts.toList.map fun p => (p.1, a.eval p.2) := by simp
              have hlen : cs.length = n * i.size := by
                have key : ∀ (ps : List (Nat × TV)) (c0 c1 : List Cell), fillC i.size c0 ps = some c1 → c1.length = c0.length := by
                  intro ps
                  induction ps with
                  | nil => intro c0 c1 h; simp only [fillC, Option.some.injEq] at h; rw [h]
                  | cons p ps ih =>
                    intro c0 c1 h
                    obtain ⟨j, tv⟩ := p
                    cases tv <;> simp only [fillC, reduceCtorEq] at h
                    split at h
                    · rename_i hcnd
                      rw [ih _ _ h]
                      simp
                      omega
                    · simp at h
                rw [key _ _ _ hf]
                simp
              have he : (execOp a.eval o).run P w = .ok (.value (.slice (some ⟨w.heap.size, 0, none⟩) n n)) (w.alloc (.cells r e)) := by
                have hnb : ¬ (16777216 < n * i.size) := by omega
                by_cases hz0 : n * i.size = 0
                · have hn0 : n = 0 := by
                    rcases Nat.mul_eq_zero.1 hz0 with h | h
                    · exact h
                    · omega
                  subst hn0
                  have hc0 : cur = #[] := by simp [cur]
                  rw [hc0] at hfill
                  simp [execOp, ho, Instr.buildSlice, run_underlying hu, sizeOf, typeInfo, hi, newRow, hfill, Array.range_zero']
                · simp only [cur] at hfill
                  simp [execOp, ho, Instr.buildSlice, run_underlying hu, sizeOf, typeInfo, hi, hnb, hz0, zeroValue, hz, newRow, hfill]
              have old : ∀ b, G.ow b ≠ .gone → (w.alloc (.cells r e)).heap[b]? = w.heap[b]? := fun b hb => heap_alloc_old w _ b (h.lt b hb)
              have hfl : ∀ i', i' < n → ∀ j, j < i.size → ds.getD (i' * i.size + j) .nl = T'.f i' j := by
                intro i' hi' j hj
                refine hTf i' hi' j hj ?_
                have : (i' + 1) * i.size ≤ n * i.size := Nat.mul_le_mul_right _ hi'
                rw [Nat.add_mul] at this
                omega
              refine wp_val he (treeK_le (T := ⟨i.size, n, fun i' j => ds.getD (i' * i.size + j) .nl⟩) h hh hTk hTn hfl ⟨rfl, rfl, rfl, by simp⟩ (fun b hb _ => old b hb) rfl ?_)
              have at_ : ∀ i', i' < n → ∀ j, j < i.size → ∃ c u, cs[i' * i.size + j]? = some c ∧ r[i' * i.size + j]? = some u ∧ CellR w G c u := by
                intro i' hi' j hj
                have hlt : i' * i.size + j < n * i.size := by
                  have : (i' + 1) * i.size ≤ n * i.size := Nat.mul_le_mul_right _ hi'
                  rw [Nat.add_mul] at this
                  omega
                obtain ⟨u, hu', hr'⟩ := hr.2 _ _ (List.getElem?_eq_getElem (show i' * i.size + j < cs.length by omega))
                exact ⟨_, u, List.getElem?_eq_getElem (by omega), hu', hr'⟩
              refine .inr ⟨w.heap.size, 0, n, r, e, fun i' j b => ∃ c m, cs[i' * i.size + j]? = some c ∧ cellLab c m ∧ G.ow b = .lab m, rfl, Nat.le_refl _, ?_, heap_alloc_new w _, .inl ⟨Nat.le_refl _, by simp⟩, fun i' hi' j hj => ?_, fun i' hi' j hj b hb => ?_, fun i' hi' j hj i2 hi2 j2 hj2 b hb hb2 => ?_⟩
              · rw [hr.1, hlen]; simp
              · obtain ⟨c, u, hcj, huj, hcu⟩ := at_ i' hi' j hj
                refine ⟨u, by rw [Nat.zero_add]; exact huj, ?_⟩
                exact (l2 _ c u hcj hcu).frame fun b hb _ => by
                  obtain ⟨m, hm, hb⟩ := hb
                  exact ⟨old b (by simp [hb]), c, m, hcj, hm, hb⟩
              · obtain ⟨c, m, hcj, hm, hbm⟩ := hb
                exact ⟨.inr (.inr ⟨m, l3 _ c m hcj hm, hbm⟩), Nat.ne_of_lt (h.lt b (by simp [hbm]))⟩
              · obtain ⟨c, m, hcj, hm, hbm⟩ := hb
                obtain ⟨c2, m2, hcj2, hm2, hbm2⟩ := hb2
                rw [hbm] at hbm2
                injection hbm2 with e2
                subst e2
                exact mul_at hj2 hj (l4 _ _ c c2 m hcj hcj2 hm hm2)
            split at hh
            · rename_i us hus
              refine main (us.map .val) [] _ (litC_flat cs us hus) rfl rfl (fun i' hi' j hj hlt => ?_) hh
              have hlt' : i' * i.size + j < us.length := by simpa using hlt
              simp [List.getD, List.getElem?_eq_getElem hlt']
            · split at hh
              · rename_i ds ab hlit
                exact main ds ab _ hlit rfl rfl (fun _ _ _ _ _ => rfl) hh
              · exact hh.elim
          · exact hh.elim
        · exact hh.elim
      · exact hh.elim
    · exact hh.elim
  · exact hh.elim
end
end Go.D
