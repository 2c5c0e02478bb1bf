/-
  The evaluator of operations, third part: boxes, loads, stores, closures.
-/
import Derived.Test.YtcgigcmleodjbaaVDfb
namespace Go.D
set_option linter.unusedVariables false
section
variable {P : Program} {F : Fr P} {G : Gh} {σ : St} {a : Act} {w : World} {o : Oper} {K : St → Out} {Q : Post} {Qx : Exit → Act → World → Prop}
def toCell (s : Option Nat) : FC → Cell
  | .val v => .sc v
  | .nl => .nil
  | .l t xs => .im s t xs
theorem toCell_ok {s : Option Nat} {c : FC} {v : Value} (h : TR w (src G s) (fcC c) v) : CellR w G (toCell s c) v := by
  cases c <;> exact h
theorem run_loadVar_at (T : TypeId) (d : TypeDesc) (i : TypeInfo) (g off : Nat) (r : Array Value) (e : TypeId) (fr : Nat × Nat) (hd : P.underlying T = some d) (hi : P.info? T = some i)
    (hg : w.heap[g]? = some (.cells r e fr)) (vs : List Value) (hl : vs.length = i.size) (h : ∀ (j : Nat) (v : Value), vs[j]? = some v → r[off + j]? = some v) (hs : eqTy.aggOf P T = true ∨ i.size = 1) :
    (loadVar T ⟨g, off, none⟩).run P w = .ok (mkVal P T vs) w := by
  have hag : (isAgg T).run P w = .ok (eqTy.aggOf P T) w := by
    simp only [isAgg, Sem.run_bind, run_underlying hd, Result.andThen_ok, eqTy.aggOf, hd]
    cases d <;> rfl
  have hc : ∀ (j : Nat) (v : Value), vs[j]? = some v → w.cell? ((⟨g, off, none⟩ : Addr).add j) = some v := by
    intro j v hv
    rw [add_at, cell_of_row w g (off + j) r e fr hg]
    exact h j v hv
  unfold loadVar
  simp only [Sem.run_bind, hag, Result.andThen_ok]
  cases hb : eqTy.aggOf P T with
  | true =>
    have := run_loadCells_list (P := P) w ⟨g, off, none⟩ vs hc
    rw [hl] at this
    simp [sizeOf, typeInfo, hi, mkVal, hb, this]
  | false =>
    have h1 : i.size = 1 := by rcases hs with h | h <;> simp_all
    obtain ⟨u, rfl⟩ : ∃ u, vs = [u] := by
      rw [h1] at hl
      exact List.length_eq_one_iff.1 hl
    have h0 := hc 0 u rfl
    simp only [Addr.add, if_true] at h0
    simp [mkVal, hb, h0]
/-- a value out of cells that are related one by one -/
theorem part_mk (T : TypeId) (cs : List Cell) (vs : List Value) (hl : vs.length = cs.length) (h : ∀ (j : Nat) (c : Cell), cs[j]? = some c → ∃ u, vs[j]? = some u ∧ CellR w G c u) (hs : eqTy.aggOf P T = true ∨ cs.length = 1) :
    TVR w G (.v (eqTy.aggOf P T) cs) (mkVal P T vs) := by
  unfold mkVal
  cases hb : eqTy.aggOf P T with
  | true => exact ⟨vs.toArray, rfl, by simpa using hl, fun j c hc => by simpa using h j c hc⟩
  | false =>
    have h1 : cs.length = 1 := by rcases hs with h | h <;> simp_all
    obtain ⟨c, rfl⟩ := List.length_eq_one_iff.1 h1
    obtain ⟨u, rfl⟩ := List.length_eq_one_iff.1 (hl.trans h1)
    obtain ⟨u', hu', hr⟩ := h 0 c rfl
    simp only [List.getElem?_cons_zero, Option.some.injEq] at hu'
    subst hu'
    exact ⟨c, rfl, hr⟩
/-- load: a block, an offset, cells that are related one by one -/
theorem load_ok {T : TypeId} {x : Operand} (h : RG F G σ a w) (ho : o.op = .load T x) {d : TypeDesc} {i : TypeInfo} (hd : P.underlying T = some d) (hi : P.info? T = some i)
    {g off : Nat} {r : Array Value} {e : TypeId} {fr : Nat × Nat} (hx : a.eval x = .pointer (some ⟨g, off, none⟩)) (hg : w.heap[g]? = some (.cells r e fr)) (cs : List Cell) (hl : cs.length = i.size)
    (hc : ∀ (j : Nat) (c : Cell), cs[j]? = some c → ∃ u, r[off + j]? = some u ∧ CellR w G c u) (hs : eqTy.aggOf P T = true ∨ i.size = 1)
    (hh : (ret σ o (.v (eqTy.aggOf P T) cs) K).holds Q) : o.wp P a w (ContE F G a w o.dst K Q) Qx := by
  have hget : ∀ j, j < cs.length → ∃ u, r[off + j]? = some u ∧ CellR w G (cs.getD j .dead) u := by
    intro j hj
    obtain ⟨u, hu, hr⟩ := hc j _ (List.getElem?_eq_getElem hj)
    exact ⟨u, hu, by simpa [List.getD, List.getElem?_eq_getElem hj] using hr⟩
  let vs : List Value := (List.range cs.length).map fun j => (r[off + j]?).getD undef
  have hvs : ∀ (j : Nat), j < cs.length → vs[j]? = r[off + j]? := by
    intro j hj
    obtain ⟨u, hu, _⟩ := hget j hj
    simp [vs, List.getElem?_map, List.getElem?_range hj, hu]
  refine ret_val h hh (part_mk (P := P) T cs vs (by simp [vs]) (fun j c hj => ?_) (by rwa [hl])) ?_
  · have hlt := (List.getElem?_eq_some_iff.1 hj).1
    rw [hvs j hlt]
    exact hc j c hj
  · have := run_loadVar_at (P := P) (w := w) T d i g off r e fr hd hi hg vs (by simp [vs, hl]) (fun j v hv => ?_) hs
    · simp [execOp, ho, hx, Instr.loadAt, Instr.sureAddr, this]
    · have hlt : j < cs.length := by
        have := (List.getElem?_eq_some_iff.1 hv).1
        simpa [vs] using this
      rw [← hvs j hlt]
      exact hv
def cellsAt (s : Option Nat) (row : Nat → FC) (off n : Nat) : List Cell := (List.range n).map fun j => toCell s (row (off + j))
def opLoad (P : Program) (o : Oper) (T : TypeId) (x : Operand) (σ : St) (K : St → Out) : Out :=
  match P.underlying T, P.info? T with
  | some _, some i => if eqTy.aggOf P T || i.size == 1 then match σ.eval x with
    | .ptr b off => match look σ.bx b with
      | some cs => if off + i.size ≤ cs.length then ret σ o (.v (eqTy.aggOf P T) ((cs.drop off).take i.size)) K else .bad
      | none => .bad
    | .eptr l k e off => match look σ.hp l with
      | some t => if t.k = k ∧ off + i.size ≤ k then .ob (e < t.n) (match eqTy.aggOf P T, cell t.t t.xs e off with
        | false, .l t' ys => ret σ o (.inn l k e off t' ys) K
        | _, _ => ret σ o (.v (eqTy.aggOf P T) (cellsAt (some l) (cell t.t t.xs e) off i.size)) K) else .bad
      | none => .bad
    | .sptr s t x off => if off + i.size ≤ t.width then ret σ o (.v (eqTy.aggOf P T) (cellsAt s (fun j => (enc t x).getD j .nl) off i.size)) K else .bad
    | .aptr cs off => if off + i.size ≤ cs.length then ret σ o (.v (eqTy.aggOf P T) (((cs.drop off).take i.size).map (toCell none))) K else .bad
    | _ => .bad
    else .bad
  | _, _ => .bad
theorem cellsAt_get {s : Option Nat} {row : Nat → FC} {off n j : Nat} {c : Cell} (h : (cellsAt s row off n)[j]? = some c) : j < n ∧ c = toCell s (row (off + j)) := by
  unfold cellsAt at h
  rw [List.getElem?_map] at h
  cases hq : (List.range n)[j]? with
  | none => simp [hq] at h
  | some m =>
    have hlt : j < n := by simpa using (List.getElem?_eq_some_iff.1 hq).1
    rw [List.getElem?_range hlt] at hq
    simp only [Option.some.injEq] at hq
    subst hq
    rw [List.getElem?_range hlt] at h
    simp only [Option.map_some, Option.some.injEq] at h
    exact ⟨hlt, h.symm⟩
theorem opLoad_ok {T : TypeId} {x : Operand} (h : RG F G σ a w) (ho : o.op = .load T x) (hh : (opLoad P o T x σ K).holds Q) : o.wp P a w (ContE F G a w o.dst K Q) Qx := by
  unfold opLoad at hh
  have hx := eval_ok h x
  split at hh
  · rename_i d i hd hi
    split at hh
    · rename_i hs
      have hs : eqTy.aggOf P T = true ∨ i.size = 1 := by simpa using hs
      split at hh
      · rename_i b off he
        rw [he] at hx
        split at hh
        · rename_i cs hb
          split at hh
          · rename_i hle
            obtain ⟨h1, r, e, h2, h3⟩ := h.bx b cs hb
            refine load_ok h ho hd hi hx h2 _ (by simp; omega) (fun j c hj => ?_) hs hh
            have hlt : j < i.size := by
              have := (List.getElem?_eq_some_iff.1 hj).1
              simp at this
              omega
            simp only [List.getElem?_take, hlt, if_true, List.getElem?_drop] at hj
            exact h3.2 _ _ hj
          · exact hh.elim
        · exact hh.elim
      · rename_i l k e0 off he
        rw [he] at hx
        split at hh
        · rename_i t hl
          split at hh
          · rename_i hle
            obtain ⟨hk, hle⟩ := hle
            obtain ⟨hlt, hh⟩ := hh
            obtain ⟨g, o', m, cap, hv, hav⟩ := hx
            obtain ⟨_, cap', hv', _, hz | ⟨g', o2, row, e, fr, hae, hS, hg, hrow⟩⟩ := (h.hp l t hl).read
            · omega
            · rw [hv] at hv'
              injection hv' with h1 h2 h3
              subst h1
              injection hae with hae
              injection hae with hg1 ho1
              subst hg1
              subst ho1
              split at hh
              · rename_i _ _ t' ys hag hcl
                have h1 : i.size = 1 := by rcases hs with h | h <;> simp_all
                rcases h.hp l t hl with ⟨_, hz⟩ | ⟨g2, o3, cap2, row2, e2, GG, hv2, _, _, hg2, hF2, _⟩
                · omega
                rw [hv] at hv2
                injection hv2 with ha hn hcap
                injection ha with ha
                injection ha with hgg hoo
                subst hgg
                rw [hg] at hg2
                injection hg2 with hg2
                injection hg2 with hr2 he2 hfr2
                subst hr2 he2 hfr2
                obtain ⟨u, hu, ht⟩ := hrow e0 hlt off (by omega)
                rw [hk] at hu
                have hrun := run_loadVar_at (P := P) (w := w) T d i g (o' + e0 * k + off) row e (0, 0) hd hi hg [u] (by simp [h1]) (fun j v hj => by
                  cases j with
                  | zero => simp only [List.getElem?_cons_zero, Option.some.injEq] at hj; subst hj; simpa using hu
                  | succ j => simp at hj) hs
                have hmk : mkVal P T [u] = u := by simp [mkVal, hag]
                rw [hmk] at hrun
                refine ret_val h hh (v := u) ⟨⟨g, o', m, cap, row, e, hv, by omega, by omega, hS, hg, hu⟩, ?_⟩ (by simp [execOp, ho, hav, Instr.loadAt, Instr.sureAddr, hrun])
                rw [← hcl]
                exact ht
              · refine load_ok h ho hd hi hav hg _ (by simp [cellsAt]) (fun j c hj => ?_) hs hh
                obtain ⟨hj1, rfl⟩ := cellsAt_get hj
                obtain ⟨u, hu, ht⟩ := hrow e0 hlt (off + j) (by omega)
                rw [hk] at hu
                exact ⟨u, by rw [← hu]; congr 1; omega, toCell_ok (s := some l) ht⟩
          · exact hh.elim
        · exact hh.elim
      · rename_i s t x off he
        rw [he] at hx
        split at hh
        · rename_i hle
          obtain ⟨g, o', r, e, fr, hav, hS, hg, hrow⟩ := hx
          refine load_ok h ho hd hi hav hg _ (by simp [cellsAt]) (fun j c hj => ?_) hs hh
          obtain ⟨hj1, rfl⟩ := cellsAt_get hj
          obtain ⟨u, hu, ht⟩ := hrow (off + j) (by omega)
          exact ⟨u, by rw [← hu]; congr 1; omega, toCell_ok ht⟩
        · exact hh.elim
      · rename_i cs off he
        rw [he] at hx
        split at hh
        · rename_i hle
          obtain ⟨g, r, e, fr, hav, hS, hg, hrow⟩ := hx
          refine load_ok h ho hd hi hav hg _ (by simp; omega) (fun j c hj => ?_) hs hh
          have hlt : j < i.size := by
            have := (List.getElem?_eq_some_iff.1 hj).1
            simp at this
            omega
          simp only [List.getElem?_map, List.getElem?_take, hlt, if_true, List.getElem?_drop] at hj
          cases hq : cs[off + j]? with
          | none => simp [hq] at hj
          | some c0 =>
            simp only [hq, Option.map_some, Option.some.injEq] at hj
            subst hj
            obtain ⟨u, hu, ht⟩ := hrow _ _ hq
            exact ⟨u, hu, toCell_ok (s := none) ht⟩
        · exact hh.elim
      · exact hh.elim
    · exact hh.elim
  · exact hh.elim
/-! boxes -/
theorem alloc_gone (h : RG F G σ a w) : G.ow w.heap.size = .gone := by
  cases hq : G.ow w.heap.size with
  | gone => rfl
  | _ => exact absurd (h.lt w.heap.size (by simp [hq])) (Nat.lt_irrefl _)
theorem RG.alloc (h : RG F G σ a w) (ob : Obj) : RG F G σ a (w.alloc ob) :=
  h.world ⟨rfl, rfl, ⟨rfl, by first | exact Nat.le_refl _ | exact Nat.le_succ _⟩, by simp⟩ fun g hg => heap_alloc_old w ob g (h.lt g hg)
theorem Cells.alloc {cs : List Cell} {vs : Array Value} (h : RG F G σ a w) (ob : Obj) (hc : CellsR w G cs vs) : CellsR (w.alloc ob) G cs vs :=
  Cells.carry ⟨fun g hg => ⟨heap_alloc_old w ob g (h.lt g (by simp [hg])), hg⟩, fun g hg => hg⟩ (fun _ _ => rfl) (fun m _ g hg => ⟨heap_alloc_old w ob g (h.lt g (by simp [hg])), hg⟩) hc
def boxAt (o : Oper) (cs : List Cell) (σ : St) (K : St → Out) : Out :=
  match o.dst with
  | some d => if σ.hasB d then .bad else if d < σ.nt then K (({ σ with bx := D.put σ.bx d cs } : St).put d (.ptr d 0)) else .bad
  | none => .bad
theorem boxAt_ok {cs : List Cell} {r : Array Value} {e : TypeId} (h : RG F G σ a w) (hc : CellsR w G cs r) (hh : (boxAt o cs σ K).holds Q)
    (he : (execOp a.eval o).run P w = .ok (.value (.pointer (some ⟨w.heap.size, 0, none⟩))) (w.alloc (.cells r e))) : o.wp P a w (ContE F G a w o.dst K Q) Qx := by
  unfold boxAt at hh
  split at hh
  · rename_i d hd
    split at hh
    · exact hh.elim
    · rename_i hb
      split at hh
      · rename_i hlt
        obtain ⟨G', hG, hbe, how, hob, hhv⟩ := (h.alloc (.cells r e)).newBox d cs w.heap.size r e (by simpa using hb) (alloc_gone h) (heap_alloc_new w _) (Cells.alloc h _ hc)
        refine wp_val he ?_
        rw [hd]
        exact ⟨_, G', hG.put hlt (by simp [TVR, hbe]), hh, ⟨_, rfl⟩, ⟨rfl, rfl, ⟨rfl, by first | exact Nat.le_refl _ | exact Nat.le_succ _⟩, by simp⟩, fun g hg => .inl (heap_alloc_old w _ g hg), how, fun b hb => hob b (fun e => hb (e ▸ rfl)), fun l _ => by rw [hhv]⟩
      · exact hh.elim
  · exact hh.elim
theorem part_cells {agg : Bool} {cs : List Cell} {v : Value} (h : PartR w G agg cs v) : CellsR w G cs v.cells := by
  cases agg with
  | true => obtain ⟨vs, rfl, h⟩ := h; exact h
  | false =>
    obtain ⟨c, rfl, h⟩ := h
    have h1 : v.cells = #[v] := by
      have := CellR.one h
      cases v <;> simp_all [Value.oneCell', Value.cells]
    rw [h1]
    refine ⟨rfl, fun j c' hj => ?_⟩
    cases j with
    | zero => simp only [List.getElem?_cons_zero, Option.some.injEq] at hj; subst hj; exact ⟨v, rfl, h⟩
    | succ j => simp at hj
def opBox (o : Oper) (x : Operand) (σ : St) (K : St → Out) : Out :=
  match σ.eval x with
  | .v _ cs => boxAt o cs σ K
  | _ => .bad
theorem opBox_ok {T : TypeId} {x : Operand} (h : RG F G σ a w) (ho : o.op = .box T x) (hh : (opBox o x σ K).holds Q) : o.wp P a w (ContE F G a w o.dst K Q) Qx := by
  unfold opBox at hh
  have hx := eval_ok h x
  split at hh
  · rename_i agg cs he
    rw [he] at hx
    exact boxAt_ok (e := T) h (part_cells hx) hh (by simp [execOp, ho, Instr.box, newVar, newRow])
  · exact hh.elim
def zeroCells (P : Program) (T : TypeId) : Option (List Cell) :=
  match P.info? T with
  | some i => match i.zero with
    | some z => if z.cells.toList.all (fun v => v.oneCell') then some (z.cells.toList.map constCell) else none
    | none => none
  | none => none
theorem zeroCells_ok {T : TypeId} {cs : List Cell} (h : zeroCells P T = some cs) : ∃ i z, P.info? T = some i ∧ i.zero = some z ∧ CellsR w G cs z.cells := by
  unfold zeroCells at h
  split at h
  · rename_i i hi
    split at h
    · rename_i z hz
      split at h
      · rename_i hall
        simp only [Option.some.injEq] at h
        subst h
        refine ⟨i, z, hi, hz, by simp, fun j c hj => ?_⟩
        rw [List.getElem?_map] at hj
        cases hq : z.cells.toList[j]? with
        | none => simp [hq] at hj
        | some v =>
          simp only [hq, Option.map_some, Option.some.injEq] at hj
          subst hj
          refine ⟨v, by simpa using hq, constCell_ok w G v ?_⟩
          rw [List.all_eq_true] at hall
          exact hall v (List.mem_of_getElem? hq)
      · simp at h
    · simp at h
  · simp at h
def opAlloc (P : Program) (o : Oper) (T : TypeId) (σ : St) (K : St → Out) : Out :=
  match zeroCells P T with
  | some cs => boxAt o cs σ K
  | none => .bad
theorem opAlloc_ok {T : TypeId} (h : RG F G σ a w) (ho : o.op = .alloc T) (hh : (opAlloc P o T σ K).holds Q) : o.wp P a w (ContE F G a w o.dst K Q) Qx := by
  unfold opAlloc at hh
  split at hh
  · rename_i cs hz
    obtain ⟨i, z, hi, hzz, hc⟩ := zeroCells_ok (w := w) (G := G) hz
    exact boxAt_ok (e := T) h hc hh (by simp [execOp, ho, Instr.alloc, zeroValue, typeInfo, hi, hzz, newVar, newRow])
  · exact hh.elim
/-! stores -/
theorem splice_cells {cs0 cs : List Cell} {r vs : Array Value} {off : Nat} (h0 : CellsR w G cs0 r) (h : CellsR w G cs vs) (hle : off + cs.length ≤ cs0.length) :
    CellsR w G (cs0.take off ++ cs ++ cs0.drop (off + cs.length)) (r.toList.take off ++ vs.toList ++ r.toList.drop (off + vs.toList.length)).toArray := by
  have hr := h0.1
  have hv := h.1
  have hvl : vs.toList.length = cs.length := by simpa using hv
  refine ⟨by simp; omega, fun j c hj => ?_⟩
  simp only [List.getElem?_toArray]
  rw [List.append_assoc] at hj ⊢
  by_cases h1 : j < off
  · rw [List.getElem?_append_left (by simp; omega)] at hj
    rw [List.getElem?_append_left (by simp; omega)]
    simp only [List.getElem?_take, h1, if_true] at hj ⊢
    simpa using h0.2 j c hj
  · rw [List.getElem?_append_right (by simp; omega)] at hj
    rw [List.getElem?_append_right (by simp; omega)]
    have e1 : (List.take off cs0).length = off := by simp; omega
    have e2 : (List.take off r.toList).length = off := by simp; omega
    rw [e1] at hj
    rw [e2]
    by_cases h2 : j - off < cs.length
    · rw [List.getElem?_append_left h2] at hj
      rw [List.getElem?_append_left (by omega)]
      simpa using h.2 _ c hj
    · rw [List.getElem?_append_right (by omega)] at hj
      rw [List.getElem?_append_right (by omega)]
      rw [hvl]
      simp only [List.getElem?_drop] at hj ⊢
      simpa using h0.2 _ c hj
def opStore (P : Program) (o : Oper) (T : TypeId) (p x : Operand) (σ : St) (K : St → Out) : Out :=
  match P.info? T, σ.eval x with
  | some i, .v _ cs => if i.size = cs.length then (match σ.eval p with
    | .ptr b off => match look σ.bx b with
      | some cs0 => if off + cs.length ≤ cs0.length then K { σ with bx := D.put σ.bx b (cs0.take off ++ cs ++ cs0.drop (off + cs.length)) } else .bad
      | none => .bad
    | .eptr l k e off => match look σ.hp l, litC σ cs with
      | some T0, some (ds, ab) => if T0.k = k ∧ off + cs.length ≤ k ∧ (dec T0.t (splice (enc T0.t (T0.xs.getD e default)) off ds)).isSome = true ∧ ab.contains l = false ∧ ab.all (fun m => !σ.fl.contains m) = true then
          .ob (e < T0.n) (.lt (List (El T0.t)) (T0.xs.modify e (upd T0.t off ds)) fun ys => K (({ σ with hp := (l, ⟨T0.t, ys⟩) :: σ.hp.filter fun p => !ab.contains p.1 }.kill ab).loose [l])) else .bad
      | _, _ => .bad
    | _ => .bad) else .bad
  | _, _ => .bad
theorem run_store_at {T : TypeId} {p x : Operand} {i : TypeInfo} (ho : o.op = .store T p x) (hi : P.info? T = some i) {v : Value} (hv : a.eval x = v) {g off : Nat} (hp : a.eval p = .pointer (some ⟨g, off, none⟩))
    {r : Array Value} {e : TypeId} (hg : w.heap[g]? = some (.cells r e (0, 0))) (hs : v.cells.size = i.size) (hle : off + v.cells.toList.length ≤ r.size) (h1 : ∀ u ∈ v.cells.toList, u.oneCell' = true) :
    (execOp a.eval o).run P w = .ok .skip (w.setRow g (r.toList.take off ++ v.cells.toList ++ r.toList.drop (off + v.cells.toList.length)).toArray) := by
  have := run_storeCells_at P g off e v.cells.toList 0 r w hg (by simpa using hle) h1
  simp only [Nat.add_zero] at this
  simp [execOp, ho, hp, hv, Instr.storeAt, Instr.sureAddr, storeVar, sizeOf, typeInfo, hi, hs, this]
theorem cells_one {cs : List Cell} {vs : Array Value} (h : CellsR w G cs vs) : ∀ u ∈ vs.toList, u.oneCell' = true := by
  intro u hu
  obtain ⟨j, hj⟩ := List.getElem?_of_mem hu
  have hlt : j < cs.length := by
    have := (List.getElem?_eq_some_iff.1 hj).1
    simp at this
    rw [← h.1]
    exact this
  obtain ⟨v, hv, hr⟩ := h.2 j _ (List.getElem?_eq_getElem hlt)
  have : u = v := by
    have h2 : vs.toList[j]? = some v := by simpa using hv
    rw [hj] at h2
    injection h2
  subst this
  exact hr.one
theorem mul_at {i i' j j' k : Nat} (hj : j < k) (hj' : j' < k) (h : i' * k + j' = i * k + j) : i' = i ∧ j' = j := by
  have h0 : 0 < k := by omega
  have e1 : (i' * k + j') / k = i' := by rw [Nat.mul_comm, Nat.mul_add_div h0, Nat.div_eq_of_lt hj']; rfl
  have e2 : (i * k + j) / k = i := by rw [Nat.mul_comm, Nat.mul_add_div h0, Nat.div_eq_of_lt hj]; rfl
  have : i' = i := by rw [← e1, ← e2, h]
  subst this
  exact ⟨rfl, by omega⟩
theorem opStore_ok {T : TypeId} {p x : Operand} (h : RG F G σ a w) (ho : o.op = .store T p x) (hd : o.dst = none) (hh : (opStore P o T p x σ K).holds Q) : o.wp P a w (Cont F K Q) Qx := by
  unfold opStore at hh
  have hx := eval_ok h x
  have hp := eval_ok h p
  have hput : ∀ v, a.put o.dst v = a := by intro v; rw [hd]; rfl
  split at hh
  · rename_i i agg cs hi hxe
    rw [hxe] at hx
    have hcs := part_cells hx
    have hsz : (a.eval x).cells.toList.length = cs.length := by simpa using hcs.1
    split at hh
    · rename_i hs
      split at hh
      · rename_i b off hpe
        rw [hpe] at hp
        split at hh
        · rename_i cs0 hb
          split at hh
          · rename_i hle
            obtain ⟨h1, r, e, h2, h3⟩ := h.bx b cs0 hb
            refine wp_skp (run_store_at ho hi rfl hp h2 (by rw [hcs.1, hs]) (by rw [hsz, h3.1]; exact hle) (cells_one hcs)) ?_
            rw [hput]
            exact ⟨_, ⟨G, h.setBox b cs0 _ _ e hb ⟨rfl, rfl, ⟨rfl, by first | exact Nat.le_refl _ | exact Nat.le_succ _⟩, by simp⟩ (fun g hg => setRow_other w _ g _ hg) (setRow_heap w _ r _ e _ h2) (splice_cells h3 hcs hle)⟩, hh⟩
          · exact hh.elim
        · exact hh.elim
      · rename_i l k e0 off hpe
        rw [hpe] at hp
        split at hh
        · rename_i T0 ds ab hl hlit
          split at hh
          · rename_i hcond
            obtain ⟨hk, hle, hdec, hlab, habf⟩ := hcond
            obtain ⟨hlt, hh⟩ := hh
            obtain ⟨g, o', m, cap0, hv, hpv⟩ := hp
            obtain ⟨l1, l2, l3, l4⟩ := litC_ok h cs ds ab hlit
            have hla : l ∉ ab := by simpa using hlab
            generalize hvs : (a.eval x).cells.toList = us at hsz
            have hul : us.length = cs.length := hsz
            rcases h.hp l T0 hl with ⟨_, hz⟩ | ⟨g', o2, cap, row, e, GG, hv', hnc, hcap, hg, hF, hrow, hsub, hdis⟩
            · omega
            · have hv2 := hv'
              rw [hv] at hv'
              injection hv' with hA hB hC
              injection hA with hA
              injection hA with hA1 hA2
              subst hA1
              subst hA2
              have hin : e0 * k + k ≤ T0.n * k := by
                have : (e0 + 1) * k ≤ T0.n * k := Nat.mul_le_mul_right _ hlt
                rwa [Nat.add_mul, Nat.one_mul] at this
              have hnk : T0.n * k ≤ cap * k := Nat.mul_le_mul_right _ hnc
              rw [hk] at hcap
              have hfit : o' + e0 * k + off + us.length ≤ row.size := by omega
              have hel : (enc T0.t (T0.xs.getD e0 default)).length = k := by rw [enc_len]; exact hk
              have hupd := (upd_ok hdec).get.2
              have hTk : (⟨T0.t, T0.xs.modify e0 (upd T0.t off ds)⟩ : Tree).k = k := hk
              have hTn : (⟨T0.t, T0.xs.modify e0 (upd T0.t off ds)⟩ : Tree).n = T0.n := by simp [Tree.n]
              refine wp_skp (run_store_at ho hi rfl hpv hg (by rw [hcs.1, hs]) (by rw [hvs]; exact hfit) (by intro u hu; exact cells_one hcs u hu)) ?_
              rw [hput, hvs]
              have old : ∀ b, b ≠ g → (w.setRow g (row.toList.take (o' + e0 * k + off) ++ us ++ row.toList.drop (o' + e0 * k + off + us.length)).toArray).heap[b]? = w.heap[b]? := fun b hb => setRow_other w g b _ hb
              obtain ⟨G', hG', _⟩ := h.setTree (w' := w.setRow g (row.toList.take (o' + e0 * k + off) ++ us ++ row.toList.drop (o' + e0 * k + off + us.length)).toArray) l ab T0 ⟨T0.t, T0.xs.modify e0 (upd T0.t off ds)⟩ hl hla (by simpa using habf) ⟨rfl, rfl, ⟨rfl, by first | exact Nat.le_refl _ | exact Nat.le_succ _⟩, by simp⟩
                (fun b hb hbl => old b (fun e => hbl (e ▸ hF))) (by
                  refine .inr ⟨g, o', cap, _, e, fun i j => if i = e0 ∧ off ≤ j ∧ j < off + us.length then (fun b => ∃ c m, cs[j - off]? = some c ∧ cellLab c m ∧ G.ow b = .lab m) else GG i j, by rw [hTn]; exact hv2, by rw [hTn]; exact hnc, ?_, setRow_heap w g row _ e _ hg, .inl hF, ?_, ?_, ?_⟩
                  · rw [hTk]
                    simp only [List.size_toArray, List.length_append, List.length_take, List.length_drop, Array.length_toList]
                    omega
                  · intro i' hi' j' hj'
                    rw [hTn] at hi'
                    rw [hTk] at hj' ⊢
                    have hfc : (⟨T0.t, T0.xs.modify e0 (upd T0.t off ds)⟩ : Tree).f i' j' = fcC (if i' = e0 then (enc T0.t (upd T0.t off ds (T0.xs.getD e0 default))).getD j' .nl else cell T0.t T0.xs i' j') := by
                      simp only [Tree.f]
                      rw [cell_modify (show e0 < T0.xs.length from hlt)]
                    rw [hfc]
                    obtain ⟨u, hu, ht⟩ := hrow i' hi' j' (by rw [hk]; exact hj')
                    rw [hk] at hu
                    by_cases hin' : i' = e0 ∧ off ≤ j' ∧ j' < off + us.length
                    · obtain ⟨rfl, hj1, hj2⟩ := hin'
                      have hjj : j' - off < us.length := by omega
                      refine ⟨us[j' - off], ?_, ?_⟩
                      · simp only [List.getElem?_toArray]
                        rw [List.append_assoc, List.getElem?_append_right (by simp; omega)]
                        have e1 : (List.take (o' + i' * k + off) row.toList).length = o' + i' * k + off := by simp; omega
                        rw [e1, List.getElem?_append_left (by omega), show o' + i' * k + j' - (o' + i' * k + off) = j' - off from by omega, List.getElem?_eq_getElem hjj]
                      · simp only [hj1, hj2, and_self, if_true]
                        have hjc : j' - off < cs.length := by omega
                        obtain ⟨u2, hu2, hcr⟩ := hcs.2 (j' - off) _ (List.getElem?_eq_getElem hjc)
                        have e2 : u2 = us[j' - off] := by
                          have h3 : (a.eval x).cells.toList[j' - off]? = some u2 := by simpa using hu2
                          rw [hvs, List.getElem?_eq_getElem hjj] at h3
                          injection h3 with h3
                          exact h3.symm
                        subst e2
                        have hto := l2 (j' - off) _ _ (List.getElem?_eq_getElem hjc) hcr
                        have hle' := hupd j'
                        rw [getD_splice (by rw [l1, hel]; exact hle), if_pos ⟨hj1, by rw [l1]; omega⟩] at hle'
                        refine TO.le hle'.le (hto.frame fun b hb _ => ?_)
                        obtain ⟨m', hm', hb'⟩ := hb
                        exact ⟨old b (fun e => by rw [e, hF] at hb'; injection hb' with e2; exact hla (e2 ▸ l3 _ _ m' (List.getElem?_eq_getElem hjc) hm')), _, m', List.getElem?_eq_getElem hjc, hm', hb'⟩
                    · have hne : ¬ (o' + e0 * k + off ≤ o' + i' * k + j' ∧ o' + i' * k + j' < o' + e0 * k + off + us.length) := by
                        rintro ⟨ha, hb⟩
                        have hx1 : i' * k + j' = e0 * k + (i' * k + j' - e0 * k) := by omega
                        obtain ⟨h1, h2⟩ := mul_at (i := e0) (j := i' * k + j' - e0 * k) (by omega) hj' hx1
                        exact hin' ⟨h1, by omega, by omega⟩
                      refine ⟨u, ?_, ?_⟩
                      · simp only [List.getElem?_toArray]
                        rw [List.append_assoc]
                        by_cases hlo : o' + i' * k + j' < o' + e0 * k + off
                        · rw [List.getElem?_append_left (by simp; omega)]
                          simp only [List.getElem?_take, hlo, if_true]
                          simpa using hu
                        · rw [List.getElem?_append_right (by simp; omega)]
                          have e1 : (List.take (o' + e0 * k + off) row.toList).length = o' + e0 * k + off := by simp; omega
                          rw [e1, List.getElem?_append_right (by omega)]
                          simp only [List.getElem?_drop]
                          rw [show o' + e0 * k + off + us.length + (o' + i' * k + j' - (o' + e0 * k + off) - us.length) = o' + i' * k + j' from by omega]
                          simpa using hu
                      · simp only [hin', if_false]
                        have ht' : TO (w.setRow g (row.toList.take (o' + e0 * k + off) ++ us ++ row.toList.drop (o' + e0 * k + off + us.length)).toArray) (fcC (cell T0.t T0.xs i' j')) u (GG i' j') :=
                          ht.frame fun b hb _ => ⟨old b (hsub i' hi' j' (by rw [hk]; exact hj') b hb).2, hb⟩
                        by_cases hie : i' = e0
                        · subst hie
                          simp only [if_true]
                          have hle' := hupd j'
                          rw [getD_splice (by rw [l1, hel]; exact hle), if_neg (by rw [l1]; omega)] at hle'
                          exact TO.le hle'.le ht'
                        · simp only [hie, if_false]
                          exact ht'
                  · intro i' hi' j' hj' b hb
                    rw [hTn] at hi'
                    rw [hTk] at hj'
                    by_cases hin' : i' = e0 ∧ off ≤ j' ∧ j' < off + us.length
                    · simp only [hin', and_self, if_true] at hb
                      obtain ⟨c, m', hc, hm', hb'⟩ := hb
                      have hma := l3 _ c m' hc hm'
                      exact ⟨.inr ⟨m', hma, hb'⟩, fun e => by rw [e, hF] at hb'; injection hb' with e2; exact hla (e2 ▸ hma)⟩
                    · simp only [hin', if_false] at hb
                      exact ⟨.inl (hsub i' hi' j' (by rw [hk]; exact hj') b hb).1, (hsub i' hi' j' (by rw [hk]; exact hj') b hb).2⟩
                  · intro i1 hi1 j1 hj1 i2 hi2 j2 hj2 b hb1 hb2
                    rw [hTn] at hi1 hi2
                    rw [hTk] at hj1 hj2
                    have cross : ∀ (i j j3 : Nat), i < T0.n → j < k → GG i j b → ¬ ∃ c m, cs[j3 - off]? = some c ∧ cellLab c m ∧ G.ow b = .lab m := by
                      rintro i j j3 hi hj hb ⟨c, m', hc, hm', hb'⟩
                      have e1 : G.ow b = .lab l := (hsub i hi j (by rw [hk]; exact hj) b hb).1
                      rw [hb'] at e1
                      injection e1 with e1
                      exact hla (e1 ▸ l3 _ c m' hc hm')
                    by_cases hin1 : i1 = e0 ∧ off ≤ j1 ∧ j1 < off + us.length
                    · by_cases hin2 : i2 = e0 ∧ off ≤ j2 ∧ j2 < off + us.length
                      · simp only [hin1, hin2, and_self, if_true] at hb1 hb2
                        obtain ⟨c1, m1, hc1, hm1, hbm1⟩ := hb1
                        obtain ⟨c2, m2, hc2, hm2, hbm2⟩ := hb2
                        rw [hbm1] at hbm2
                        injection hbm2 with e2
                        subst e2
                        have := l4 _ _ c1 c2 m1 hc1 hc2 hm1 hm2
                        exact ⟨by rw [hin1.1, hin2.1], by omega⟩
                      · simp only [hin1, and_self, if_true] at hb1
                        simp only [hin2, if_false] at hb2
                        exact (cross i2 j2 j1 hi2 hj2 hb2 hb1).elim
                    · by_cases hin2 : i2 = e0 ∧ off ≤ j2 ∧ j2 < off + us.length
                      · simp only [hin1, if_false] at hb1
                        simp only [hin2, and_self, if_true] at hb2
                        exact (cross i1 j1 j2 hi1 hj1 hb1 hb2).elim
                      · simp only [hin1, hin2, if_false] at hb1 hb2
                        exact hdis i1 hi1 j1 (by rw [hk]; exact hj1) i2 hi2 j2 (by rw [hk]; exact hj2) b hb1 hb2)
              exact ⟨_, ⟨G', hG'⟩, hh⟩
          · exact hh.elim
        · exact hh.elim
      · exact hh.elim
    · exact hh.elim
  · exact hh.elim
/-! closures -/
def capOf : TV → Option Cap
  | .ptr b 0 => some (.ptr b)
  | .aptr cs 0 => some (.aptr cs)
  | _ => none
theorem capOf_ok {x : TV} {c : Cap} {v : Value} (h : TVR w G x v) (hc : capOf x = some c) : CapR w G c v := by
  unfold capOf at hc
  split at hc <;> simp only [Option.some.injEq, reduceCtorEq] at hc <;> subst hc
  · exact h
  · exact h
def capsOf : List TV → Option (List Cap)
  | [] => some []
  | x :: xs => match capOf x, capsOf xs with
    | some c, some cs => some (c :: cs)
    | _, _ => none
theorem capsOf_ok {xs : List TV} {cs : List Cap} (hc : capsOf xs = some cs) : cs.length = xs.length ∧ ∀ (j : Nat) (c : Cap), cs[j]? = some c → ∃ x, xs[j]? = some x ∧ capOf x = some c := by
  induction xs generalizing cs with
  | nil => simp only [capsOf, Option.some.injEq] at hc; subst hc; simp
  | cons x xs ih =>
    simp only [capsOf] at hc
    split at hc
    · rename_i c cs' h1 h2
      simp only [Option.some.injEq] at hc
      subst hc
      obtain ⟨h3, h4⟩ := ih h2
      refine ⟨by simp [h3], fun j c' hj => ?_⟩
      cases j with
      | zero => simp only [List.getElem?_cons_zero, Option.some.injEq] at hj; subst hj; exact ⟨x, rfl, h1⟩
      | succ j => simpa using h4 j c' (by simpa using hj)
    · simp at hc
def opMakeFunc (o : Oper) (fn : Fn) (first captured : Array Operand) (σ : St) (K : St → Out) : Out :=
  match fn, first.toList with
  | .func f, [] => match capsOf (captured.toList.map σ.eval) with
    | some caps => ret σ o (.clo f caps) K
    | none => .bad
  | _, _ => .bad
theorem opMakeFunc_ok {fn : Fn} {first captured : Array Operand} (h : RG F G σ a w) (ho : o.op = .makeFunc fn first captured) (hh : (opMakeFunc o fn first captured σ K).holds Q) : o.wp P a w (ContE F G a w o.dst K Q) Qx := by
  unfold opMakeFunc at hh
  split at hh
  · rename_i f hf
    split at hh
    · rename_i caps hc
      have hfirst : first = #[] := by simpa using congrArg List.toArray hf
      obtain ⟨h1, h2⟩ := capsOf_ok hc
      refine ret_val (v := .func (.func f) #[] (captured.map a.eval)) h hh ⟨captured.map a.eval, rfl, by simp at h1; simp [h1], fun j c hj => ?_⟩ (by simp [execOp, ho, hfirst, Instr.makeFunc])
      obtain ⟨x, hx, hcx⟩ := h2 j c hj
      rw [List.getElem?_map] at hx
      cases hq : captured.toList[j]? with
      | none => simp [hq] at hx
      | some y =>
        simp only [hq, Option.map_some, Option.some.injEq] at hx
        subst hx
        have hq' : captured[j]? = some y := by simpa using hq
        exact ⟨a.eval y, by simp [hq'], capOf_ok (eval_ok h y) hcx⟩
    · exact hh.elim
  · exact hh.elim
end
end Go.D
