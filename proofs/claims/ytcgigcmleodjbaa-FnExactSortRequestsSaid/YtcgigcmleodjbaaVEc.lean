/-
  From a law's contract to its row.
-/
import Derived.Test.YtcgigcmleodjbaaVEb
namespace Go.D
open Go.RowKit Go.ChangeShapes Go.WideShapes
set_option linter.unusedVariables false
def Sh.shapes : Sh → List Shp
  | .el t => t.shapes
  | .sl t => [.kl t]
theorem Sh.of_shape {s : Sh} {fs : List FC} (h : fs.map FC.shp = s.shapes) : ∃ x : s.X, fs = s.fc x := by
  cases s with
  | el t => exact dec_shape t fs h
  | sl t =>
    obtain ⟨a, g, rfl, h2⟩ := sL h
    obtain rfl := sE h2
    exact ⟨a, rfl⟩
/-- a law: whatever typed arguments come, true is returned -/
def lawFS (as : List Sh) : Fct := ⟨Ls as, [.el .bool], fun x => goods as x, fun _ => (true, ())⟩
/-- a parameter's type is told by a shape -/
def parOk (P : Program) (ty : TypeId → Option Ty) : List TypeId → List Sh → Bool
  | [], [] => true
  | T :: ts, s :: ss => (match shapeOf P ty 20 T with
    | some sh => shpsEq sh s.shapes
    | none => false) && (eqTy.aggOf P T == s.agg) && (match P.underlying T with
    | some .bool => true
    | some (.int _) => true
    | some .string => true
    | some (.slice _) => true
    | some (.struct _) => true
    | _ => false) && parOk P ty ts ss
  | _, _ => false
section
variable {H : Type} {enc' : TypeId × Value → H} {P : Program} {w W W' : World} {ty : TypeId → Option Ty} {spare : Nat → Bool} {held : Bool} {base : Nat}
theorem not_agg {T : TypeId} {cs : Array Value} {d : TypeDesc} (hu : P.underlying T = some d) (hd : d = .bool ∨ (∃ k, d = .int k) ∨ d = .string ∨ ∃ e, d = .slice e) (h : Value.okWide P w .any base T (.agg cs)) : False := by
  unfold Value.okWide at h
  rw [hu] at h
  rcases hd with rfl | ⟨k, rfl⟩ | rfl | ⟨e, rfl⟩ <;> simp only [Cell.okWide, hu, Cell.ok] at h
theorem arg_told (hty : ∀ e t, ty e = some t → shapeOf P ty 20 e = some t.shapes ∧ P.cellsOf e = t.width) {T : TypeId} {s : Sh} {v : Value} {d : DataW H} {p : List MemPlace} (h : DataW.Trod enc' P w 0 spare held T v d p) (hv : Value.okWide P w .any base T v)
    (hp : parOk P ty [T] [s] = true) : ∃ x : s.X, s.good x ∧ ∀ G : Gh, (∀ g, g < w.heap.size → G.ow g = .free) → TVR w G (canonV s x) v := by
  simp only [parOk, Bool.and_eq_true, beq_iff_eq, and_true] at hp
  obtain ⟨⟨hsh, hag⟩, hkind⟩ := hp
  split at hsh
  · rename_i sh hs
    have hse := shpsEq_ok hsh
    subst hse
    obtain ⟨fuel, htr⟩ := h
    obtain ⟨fs, f1, f2, f3, f4⟩ := trod_told hty fuel T _ _ 20 _ htr hs
    obtain ⟨x, rfl⟩ := Sh.of_shape f2
    refine ⟨x, f4, fun G hG => ?_⟩
    have tr : ∀ (j : Nat) (c : FC) (u : Value), (s.fc x)[j]? = some c → v.cells.toList[j]? = some u → CellR w G (toCell none c) u := fun j c u hc hu =>
      toCell_ok ((f3 j c u hc hu).frame fun g hg _ => ⟨rfl, hG g hg⟩)
    have cells : CellsR w G ((s.fc x).map (toCell none)) v.cells := by
      refine ⟨by rw [List.length_map, f1, Array.length_toList], fun j c hj => ?_⟩
      rw [List.getElem?_map] at hj
      cases hq : (s.fc x)[j]? with
      | none => simp [hq] at hj
      | some fc =>
        simp only [hq, Option.map_some, Option.some.injEq] at hj
        subst hj
        have hlt : j < v.cells.size := by
          have := (List.getElem?_eq_some_iff.1 hq).1
          rw [f1, Array.length_toList] at this
          exact this
        exact ⟨v.cells[j], by simp [hlt], tr j fc _ hq (by simp [hlt])⟩
    unfold canonV
    rw [← hag]
    split at hkind
    · rename_i hu
      have h0 : eqTy.aggOf P T = false := by simp [eqTy.aggOf, hu]
      rw [h0]
      have hna : ∀ cs, v ≠ .agg cs := fun cs e => not_agg hu (.inl rfl) (e ▸ hv)
      have hvc : v.cells = #[v] := by cases v <;> first | rfl | exact absurd rfl (hna _)
      obtain ⟨c, hc⟩ := List.length_eq_one_iff.1 (show ((s.fc x).map (toCell none)).length = 1 by rw [← cells.1, hvc]; rfl)
      obtain ⟨u, hu1, hu2⟩ := cells.2 0 c (by rw [hc]; rfl)
      rw [hvc] at hu1
      simp only [List.getElem?_toArray, List.getElem?_cons_zero, Option.some.injEq] at hu1
      subst hu1
      exact ⟨c, hc, hu2⟩
    · rename_i k hu
      have h0 : eqTy.aggOf P T = false := by simp [eqTy.aggOf, hu]
      rw [h0]
      have hna : ∀ cs, v ≠ .agg cs := fun cs e => not_agg hu (.inr (.inl ⟨k, rfl⟩)) (e ▸ hv)
      have hvc : v.cells = #[v] := by cases v <;> first | rfl | exact absurd rfl (hna _)
      obtain ⟨c, hc⟩ := List.length_eq_one_iff.1 (show ((s.fc x).map (toCell none)).length = 1 by rw [← cells.1, hvc]; rfl)
      obtain ⟨u, hu1, hu2⟩ := cells.2 0 c (by rw [hc]; rfl)
      rw [hvc] at hu1
      simp only [List.getElem?_toArray, List.getElem?_cons_zero, Option.some.injEq] at hu1
      subst hu1
      exact ⟨c, hc, hu2⟩
    · rename_i hu
      have h0 : eqTy.aggOf P T = false := by simp [eqTy.aggOf, hu]
      rw [h0]
      have hna : ∀ cs, v ≠ .agg cs := fun cs e => not_agg hu (.inr (.inr (.inl rfl))) (e ▸ hv)
      have hvc : v.cells = #[v] := by cases v <;> first | rfl | exact absurd rfl (hna _)
      obtain ⟨c, hc⟩ := List.length_eq_one_iff.1 (show ((s.fc x).map (toCell none)).length = 1 by rw [← cells.1, hvc]; rfl)
      obtain ⟨u, hu1, hu2⟩ := cells.2 0 c (by rw [hc]; rfl)
      rw [hvc] at hu1
      simp only [List.getElem?_toArray, List.getElem?_cons_zero, Option.some.injEq] at hu1
      subst hu1
      exact ⟨c, hc, hu2⟩
    · rename_i e hu
      have h0 : eqTy.aggOf P T = false := by simp [eqTy.aggOf, hu]
      rw [h0]
      have hna : ∀ cs, v ≠ .agg cs := fun cs e' => not_agg hu (.inr (.inr (.inr ⟨e, rfl⟩))) (e' ▸ hv)
      have hvc : v.cells = #[v] := by cases v <;> first | rfl | exact absurd rfl (hna _)
      obtain ⟨c, hc⟩ := List.length_eq_one_iff.1 (show ((s.fc x).map (toCell none)).length = 1 by rw [← cells.1, hvc]; rfl)
      obtain ⟨u, hu1, hu2⟩ := cells.2 0 c (by rw [hc]; rfl)
      rw [hvc] at hu1
      simp only [List.getElem?_toArray, List.getElem?_cons_zero, Option.some.injEq] at hu1
      subst hu1
      exact ⟨c, hc, hu2⟩
    · rename_i fs hu
      have h0 : eqTy.aggOf P T = true := by simp [eqTy.aggOf, hu]
      rw [h0]
      unfold Value.okWide at hv
      rw [hu] at hv
      obtain ⟨cs, rfl, _⟩ := hv
      exact ⟨cs, rfl, cells⟩
    · cases hkind
  · cases hsh
theorem args_told (hty : ∀ e t, ty e = some t → shapeOf P ty 20 e = some t.shapes ∧ P.cellsOf e = t.width) : ∀ (ts : List TypeId) (ss : List Sh) (vs : List Value) (ds : List (DataW H)) (ps : List MemPlace), parOk P ty ts ss = true → DataW.TrodAll enc' P w 0 spare held ts vs ds ps →
    (∀ (j : Nat) t v, ts[j]? = some t → vs[j]? = some v → Value.okWide P w .any base t v) → ∃ x : As (Ls ss), goods ss x ∧ ∀ G : Gh, (∀ g, g < w.heap.size → G.ow g = .free) → (canons (Ls ss) x).length = vs.length ∧ ∀ (j : Nat) (y : TV), (canons (Ls ss) x)[j]? = some y → ∃ v, vs[j]? = some v ∧ TVR w G y v := by
  intro ts
  induction ts with
  | nil =>
    intro ss vs ds ps hp h _
    cases ss with
    | nil => obtain ⟨rfl, _, _⟩ := trodAll_nil h; exact ⟨(), trivial, fun G _ => ⟨rfl, fun j y hj => by cases hj⟩⟩
    | cons s ss => simp [parOk] at hp
  | cons T ts ih =>
    intro ss vs ds ps hp h hv
    cases ss with
    | nil => simp [parOk] at hp
    | cons s ss =>
      obtain ⟨v, vs', d, ds', p, q, rfl, rfl, rfl, h1, h2⟩ := trodAll_cons h
      have hp1 : parOk P ty [T] [s] = true ∧ parOk P ty ts ss = true := by
        simp only [parOk, Bool.and_eq_true, and_true] at hp ⊢
        exact hp
      obtain ⟨x, g1, x1⟩ := arg_told (base := base) hty h1 (hv 0 T v rfl rfl) hp1.1
      obtain ⟨xs, g2, x2⟩ := ih ss vs' ds' q hp1.2 h2 (fun j t v ht hv' => hv (j + 1) t v (by simpa using ht) (by simpa using hv'))
      refine ⟨(x, xs), ⟨g1, g2⟩, fun G hG => ?_⟩
      obtain ⟨l1, l2⟩ := x2 G hG
      refine ⟨congrArg (· + 1) l1, fun j y hj => ?_⟩
      cases j with
      | zero => have hj' : some (canonV s x) = some y := hj; injection hj' with hj'; subst hj'; exact ⟨v, rfl, x1 G hG⟩
      | succ j => simpa using l2 j y hj
theorem trodAll_stays (hl : laidOutB P = true) (hb : Below W.heap.size W W') : ∀ (ts : List TypeId) (vs : List Value) (ds : List (DataW H)) (ps : List MemPlace), (∀ t ∈ ts, P.readableRec t = true ∧ t < P.types.size) →
    (∀ x ∈ ps, x.block < W.heap.size) → DataW.TrodAll enc' P W 0 (fun _ => true) true ts vs ds ps → DataW.TrodAll enc' P W' 0 (fun b => decide (b < W.heap.size)) true ts vs ds ps := by
  intro ts
  induction ts with
  | nil => intro vs ds ps _ _ h; obtain ⟨rfl, rfl, rfl⟩ := trodAll_nil h; exact trodAll_mk0
  | cons t ts ih =>
    intro vs ds ps ht hlt h
    obtain ⟨v, vs', d, ds', p, q, rfl, rfl, rfl, h1, h2⟩ := trodAll_cons h
    obtain ⟨hr, hrow⟩ := ht t (by simp)
    exact trodAll_cons_mk (Below.trod hl hr hrow h1 hb (fun x hx => hlt x (by simp [hx]))) (ih vs' ds' q (fun t' h' => ht t' (by simp [h'])) (fun x hx => hlt x (by simp [hx])) h2)
theorem trodAll_len {ts : List TypeId} {vs : List Value} {ds : List (DataW H)} {ps : List MemPlace} {spare : Nat → Bool} {base : Nat} {held : Bool} (h : DataW.TrodAll enc' P w base spare held ts vs ds ps) : ds.length = ts.length := by
  induction ts generalizing vs ds ps with
  | nil => obtain ⟨rfl, rfl, rfl⟩ := trodAll_nil h; rfl
  | cons t ts ih => obtain ⟨v, vs', d, ds', p, q, rfl, rfl, rfl, h1, h2⟩ := trodAll_cons h; simp [ih h2]
/-- a law answered true, and what was there is as it was -/
theorem law_post {f : Func} {s : ChangeSpec} {T : TypeId} {args : Array Value} {ds gs : List (DataW H)} {before : List MemPlace} (hl : laidOutB P = true) (hts : ∀ t ∈ f.params.toList, P.readableRec t = true ∧ t < P.types.size)
    (hres : f.resultTypes = #[T]) (hT : P.underlying T = some .bool) (hv : s.vars = []) (hW : DataW.Whole enc' P f.params.toList s.vars false W args.toList ds gs before)
    (hfn : ∀ xs : List (DataW H), xs.length = f.params.toList.length → s.fn H xs = { results := [.lit (.bool true)], args := xs }) (hb : Below W.heap.size W W') :
    s.post enc' P f false true false false W args (.bool true) W' := by
  have hW' := hW
  have hlt := hW.lt
  obtain ⟨p, q, hA, hV, rfl, _, _⟩ := hW
  rw [hv] at hV
  obtain ⟨rfl, rfl⟩ := trodVars_none hV
  have hlen := trodAll_len hA
  have hf := hfn (ds ++ []) (by simpa using hlen)
  refine ⟨ds, [], _, [], p, [], hW', ?_, ?_, ?_, hb.frame _, by simp⟩
  · rw [hf, hres]
    exact trodAll_cons_mk (shut_bool hT true) trodAll_mk0
  · rw [hf]
    simpa using trodAll_stays hl hb _ _ _ _ hts (fun x hx => hlt x (by simp [hx])) hA
  · rw [hf, hv]
    rfl
/-- the checks of a law's row that the kernel makes -/
def rowOk (P : Program) (f : Func) (ty : TypeId → Option Ty) (tl : List TypeId) (as : List Sh) : Bool :=
  laidOutB P && f.params.toList.all (fun t => P.readableRec t && decide (t < P.types.size)) && parOk P ty f.params.toList as && tyOk P ty tl
theorem law_calls {g : Nat} {f : Func} {s : ChangeSpec} {T : TypeId} {args : Array Value} {ds gs : List (DataW H)} {before : List MemPlace} {as : List Sh} {tl : List TypeId} (hk : rowOk P f ty tl as = true) (htl : ∀ e t, ty e = some t → e ∈ tl)
    (hres : f.resultTypes = #[T]) (hT : P.underlying T = some .bool) (hv : s.vars = []) (hW : DataW.Whole enc' P f.params.toList s.vars false W args.toList ds gs before)
    (hfn : ∀ xs : List (DataW H), xs.length = f.params.toList.length → s.fn H xs = { results := [.lit (.bool true)], args := xs })
    (hok : ∀ (j : Nat) t v, f.params[j]? = some t → args[j]? = some v → Value.okWide P W .any base t v)
    (hsh : W.ShapedOpen P) (hld : Laid P W) (hc : (lawFS as).ok P g) : Calls P g args W fun e W' => ∃ v, e = .returned v ∧ s.post enc' P f false true false false W args v W' := by
  unfold rowOk at hk
  simp only [Bool.and_eq_true, List.all_eq_true, decide_eq_true_eq] at hk
  obtain ⟨⟨⟨k1, k2⟩, k3⟩, k4⟩ := hk
  have hty : ∀ e t, ty e = some t → shapeOf P ty 20 e = some t.shapes ∧ P.cellsOf e = t.width := by
    intro e t he
    unfold tyOk at k4
    rw [List.all_eq_true] at k4
    have := k4 e (htl e t he)
    rw [he] at this
    simp only [Bool.and_eq_true, beq_iff_eq] at this
    obtain ⟨h1, h2⟩ := this
    split at h1
    · rename_i s hs; exact ⟨by rw [hs, shpsEq_ok h1], h2⟩
    · cases h1
  have hW0 := hW
  obtain ⟨p, q, hA, _⟩ := hW0
  obtain ⟨x, g1, x1⟩ := args_told (base := base) hty _ as _ _ _ k3 hA (fun j t v ht hv' => hok j t v (by simpa using ht) (by simpa using hv'))
  let G : Gh := { ow := fun g => if g < W.heap.size then .free else .gone, be := fun _ => 0, hv := fun _ => .slice none 0 0 }
  obtain ⟨l1, l2⟩ := x1 G (fun g hg => by simp [G, hg])
  refine (hc x g1 W args G ⟨W, hsh, hld, fun b hb => ⟨hb, by simp [G, hb], rfl⟩⟩ ⟨?_, ?_, by simp [Fct.arg, look], by simp [Fct.arg, look], ?_, fun b hb => ?_⟩).mono ?_
  · rw [← Array.length_toList, ← l1]; rfl
  · intro j y hj
    obtain ⟨v, hv', ht⟩ := l2 j y hj
    exact ⟨v, by simpa using hv', ht⟩
  · intro b hb
    by_cases h : b < W.heap.size
    · exact h
    · simp [G, h] at hb
  · by_cases h : b < W.heap.size <;> simp [G, h] at hb
  · rintro e W' ⟨v, p', hs, rfl, ho, hfr, _, Fs, hpf⟩
    have hp : p' = _ := hs
    subst hp
    have hr := hpf.res
    obtain ⟨c, hcs, hto, _⟩ := hr
    have hcs' : [FC.val (.bool true)] = [c] := hcs
    injection hcs' with hcs'
    subst hcs'
    obtain rfl : v = .bool true := hto.1
    exact ⟨_, rfl, law_post k1 k2 hres hT hv hW hfn ⟨ho.os, ho.tape, ho.output.1, ho.size, fun b hb => hfr b (by simp [G, hb])⟩⟩
end
end Go.D
