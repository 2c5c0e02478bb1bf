/-
  Calls, the step of an operation, regions.
-/
import Derived.Test.YtedcmphhpfdblaaDm
namespace Go.D
set_option linter.unusedVariables false
section
variable {P : Program} {E : Env} {F : Fr} {G : Gh} {σ : St} {a : Act} {w : World} {o : Oper} {K : St → Out} {Q : Post} {Qx : Exit → Act → World → Prop}
def takeParts (σ : St) (l : Nat) : List (Bool × List C) → List (Bool × List Cell) × St
  | [] => ([], σ)
  | p :: ps =>
    let r := takeCells σ l p.2
    let q := takeParts r.2 (l + p.2.length) ps
    ((p.1, r.1) :: q.1, q.2)
def takeRes (σ : St) (l : Nat) : Res → TV × St
  | .one agg cs => let r := takeCells σ l cs; (.v agg r.1, r.2)
  | .tup ps => let r := takeParts σ l ps; (.tup r.1, r.2)
def Res.len : Res → Nat
  | .one _ cs => cs.length
  | .tup ps => (ps.map fun p => p.2.length).foldr (· + ·) 0
theorem partO_vals {agg : Bool} {cs : List C} {v : Value} {Fs : Nat → Nat → Prop} (h : PartO w agg cs v Fs) : ∃ us : List Value, us.length = cs.length ∧ (∀ (j : Nat) (c : C) (u : Value), cs[j]? = some c → us[j]? = some u → TO w c u (Fs j) ∧ u.oneCell' = true) ∧
    ∀ (G : Gh) (ds : List Cell), ds.length = cs.length → (∀ (j : Nat) (c : Cell) (u : Value), ds[j]? = some c → us[j]? = some u → CellR w G c u) → PartR w G agg ds v := by
  cases agg with
  | false =>
    obtain ⟨c, rfl, h1, h2⟩ := h
    refine ⟨[v], rfl, fun j c' u hc hu => ?_, fun G ds hl hd => ?_⟩
    · cases j with
      | zero => simp only [List.getElem?_cons_zero, Option.some.injEq] at hc hu; subst hc; subst hu; exact ⟨h1, h2⟩
      | succ j => simp at hc
    · obtain ⟨d, rfl⟩ := List.length_eq_one_iff.1 hl
      exact ⟨d, rfl, hd 0 d v rfl rfl⟩
  | true =>
    obtain ⟨vs, rfl, hs, h⟩ := h
    refine ⟨vs.toList, by simpa using hs, fun j c u hc hu => ?_, fun G ds hl hd => ⟨vs, rfl, by rw [hs, hl], fun j c hc => ?_⟩⟩
    · obtain ⟨u', hu', ht⟩ := h j c hc
      have : u = u' := by
        have h2 : vs.toList[j]? = some u' := by simpa using hu'
        rw [hu] at h2
        injection h2
      subst this
      exact ht
    · have hlt : j < vs.size := by rw [hs, ← hl]; exact (List.getElem?_eq_some_iff.1 hc).1
      exact ⟨vs[j], by simp [hlt], hd j c vs[j] hc (by simp [hlt])⟩
theorem takeCells_shape (cs : List C) : ∀ (σ : St) (l j : Nat) (c : Cell), (takeCells σ l cs).1[j]? = some c → (∃ v, c = .sc v) ∨ c = .nil ∨ c = .ref (l + j) := by
  induction cs with
  | nil => intro σ l j c h; simp [takeCells] at h
  | cons c0 cs ih =>
    intro σ l j c h
    cases c0 <;> simp only [takeCells] at h <;> cases j with
      | zero => simp only [List.getElem?_cons_zero, Option.some.injEq] at h; subst h; first | exact .inl ⟨_, rfl⟩ | exact .inr (.inl rfl) | exact .inr (.inr rfl)
      | succ j =>
        have := ih _ (l + 1) j c (by simpa using h)
        rwa [show l + 1 + j = l + (j + 1) from by omega] at this
theorem takeParts_ok : ∀ (ps : List (Bool × List C)) (vs : List Value) (Fs : Nat → Nat → Nat → Prop) (σ : St) (G : Gh) (l : Nat), RG F G σ a w → vs.length = ps.length →
    (∀ (i : Nat) (p : Bool × List C) (u : Value), ps[i]? = some p → vs[i]? = some u → PartO w p.1 p.2 u (Fs i)) → (∀ i j b, Fs i j b → b < w.heap.size ∧ G.ow b = .gone) → (∀ i j i' j' b, Fs i j b → Fs i' j' b → i = i' ∧ j = j') →
    (∀ m, l ≤ m → m < l + (Res.tup ps).len → m ∉ σ.fl) →
    ∃ G', RG F G' (takeParts σ l ps).2 a w ∧ (∀ (i : Nat) (p : Bool × List Cell) (u : Value), (takeParts σ l ps).1[i]? = some p → vs[i]? = some u → PartR w G' p.1 p.2 u) ∧ (takeParts σ l ps).1.length = ps.length ∧ (∀ m, m < l → G'.hv m = G.hv m) ∧ True := by
  intro ps
  induction ps with
  | nil => intro vs Fs σ G l h _ _ _ _ _; exact ⟨G, h, by simp [takeParts], rfl, fun _ _ => rfl, trivial⟩
  | cons p ps ih =>
    intro vs Fs σ G l h hlen hT hF hd hfl
    cases vs with
    | nil => simp at hlen
    | cons v vs =>
      obtain ⟨us, u1, u2, u3⟩ := partO_vals (hT 0 p v rfl rfl)
      have hlenp : (Res.tup (p :: ps)).len = p.2.length + (Res.tup ps).len := rfl
      obtain ⟨G1, k1, k2, k3, k4, k5⟩ := takeCells_ok p.2 us (Fs 0) σ G l h u1 u2 (fun j b hb => hF 0 j b hb) (fun j j' b hb hb' => (hd 0 j 0 j' b hb hb').2) (fun m hm hm' => hfl m hm (by omega))
      obtain ⟨G2, m1, m2, m3, m4, _⟩ := ih vs (fun i => Fs (i + 1)) (takeCells σ l p.2).2 G1 (l + p.2.length) k1 (by simpa using hlen) (fun i q u hq hu => hT (i + 1) q u (by simpa using hq) (by simpa using hu))
        (fun i j b hb => ⟨(hF (i + 1) j b hb).1, k5 b (hF (i + 1) j b hb).2 fun j' hb' => by have := (hd (i + 1) j 0 j' b hb hb').1; omega⟩)
        (fun i j i' j' b hb hb' => by have := hd (i + 1) j (i' + 1) j' b hb hb'; omega) (fun m hm hm' => by rw [(takeCells_nt p.2 σ l).2]; exact hfl m (by omega) (by omega))
      refine ⟨G2, m1, fun i q u hq hu => ?_, by simp [takeParts, m3], fun m hm => (m4 m (by omega)).trans (k4 m hm), trivial⟩
      cases i with
      | succ i => exact m2 i q u (by simpa [takeParts] using hq) (by simpa using hu)
      | zero =>
        simp only [takeParts, List.getElem?_cons_zero, Option.some.injEq] at hq hu
        subst hq
        subst hu
        refine u3 G2 _ k3 fun j c u hc hu => ?_
        have hcr := k2 j c u hc hu
        have hjl : j < p.2.length := by rw [← k3]; exact (List.getElem?_eq_some_iff.1 hc).1
        rcases takeCells_shape p.2 σ l j c hc with ⟨v', rfl⟩ | rfl | rfl
        · exact hcr
        · exact hcr
        · exact ⟨by rw [m4 (l + j) (by omega)]; exact hcr.1, hcr.2⟩
theorem takeRes_ok (r : Res) {v : Value} {B : Nat} (h : RG F G σ a w) (hr : ResR B w r v) (hg : ∀ b, B ≤ b → G.ow b = .gone) (l : Nat) (hfl : ∀ m, l ≤ m → m < l + r.len → m ∉ σ.fl) :
    ∃ G', RG F G' (takeRes σ l r).2 a w ∧ TVR w G' (takeRes σ l r).1 v := by
  obtain ⟨Fs, h1, h2, h3⟩ := hr
  cases r with
  | one agg cs =>
    obtain ⟨us, u1, u2, u3⟩ := partO_vals h3
    obtain ⟨G1, k1, k2, k3, _⟩ := takeCells_ok cs us (Fs 0) σ G l h u1 u2 (fun j b hb => ⟨(h1 0 j b hb).2, hg b (h1 0 j b hb).1⟩) (fun j j' b hb hb' => (h2 0 j 0 j' b hb hb').2) hfl
    exact ⟨G1, k1, u3 G1 _ k3 k2⟩
  | tup ps =>
    obtain ⟨vs, rfl, hs, hp⟩ := h3
    obtain ⟨G1, k1, k2, k3, _⟩ := takeParts_ok ps vs.toList Fs σ G l h (by simpa using hs) (fun i p u hpi hu => by
      obtain ⟨u', hu', ht⟩ := hp i p hpi
      have : u = u' := by
        have h2 : vs.toList[i]? = some u' := by simpa using hu'
        rw [hu] at h2
        injection h2
      subst this
      exact ht) (fun i j b hb => ⟨(h1 i j b hb).2, hg b (h1 i j b hb).1⟩) h2 hfl
    refine ⟨G1, k1, vs, rfl, by rw [hs, k3], fun i p hpi => ?_⟩
    have hlt : i < vs.size := by rw [hs, ← k3]; exact (List.getElem?_eq_some_iff.1 hpi).1
    exact ⟨vs[i], by simp [hlt], k2 i p vs[i] hpi (by simp [hlt])⟩
theorem takeRes_nt (r : Res) (l : Nat) : (takeRes σ l r).2.nt = σ.nt := by
  cases r with
  | one agg cs => exact (takeCells_nt cs σ l).1
  | tup ps =>
    simp only [takeRes]
    induction ps generalizing σ l with
    | nil => rfl
    | cons p ps ih => simp only [takeParts]; rw [ih]; exact (takeCells_nt p.2 σ l).1
def callK (P : Program) (E : Env) (o : Oper) (f : Nat) (xs : List (List Nat × TV)) (σ : St) (K : St → Out) : Out :=
  match E f, P.funcs[f]? with
  | some g, some fn => if fn.body.isSome = true ∧ (fn.name == "runtime.NumGoroutine") = false then (match lendAll σ xs with
    | some (p, ys) => match g ys with
      | some (q, r) => match o.dst with
        | some d => if d < σ.nt ∧ r.len < 64 ∧ σ.fl.all (fun m => m < 64 * d || 64 * d + 64 ≤ m) = true then .ob p (.ob q (K ((takeRes σ (64 * d) r).2.put d (takeRes σ (64 * d) r).1))) else .bad
        | none => .ob p (.ob q (K σ))
      | none => .bad
    | none => .bad) else .bad
  | _, _ => .bad
theorem callK_ok {f : Nat} {xs : List (List Nat × TV)} {vs : Array Value} (hE : EOk P E) (h : RG F G σ a w) (hsz : vs.size = xs.length) (hx : ∀ (j : Nat) (kx : List Nat × TV), xs[j]? = some kx → ∃ v, vs[j]? = some v ∧ TVR w G kx.2 v)
    (he : (execOp a.eval o).run P w = (callFunc f vs).run P w) (hh : (callK P E o f xs σ K).holds Q) : o.wp P a w (Cont F K Q) Qx := by
  unfold callK at hh
  split at hh
  · rename_i g fn hg hfn
    split at hh
    · rename_i hc
      obtain ⟨hbody, hname⟩ := hc
      split at hh
      · rename_i p ys hl
        split at hh
        · rename_i q r hgr
          have hrun : (execOp a.eval o).run P w = .ok (.enter f vs) w := by
            rw [he]
            obtain ⟨cb, hb2⟩ := Option.isSome_iff_exists.1 hbody
            have hn2 : ¬ fn.name = "runtime.NumGoroutine" := by simpa using hname
            simp [callFunc, hfn, hb2, hn2]
          have main : p → q → Calls P f vs w (ConPost w r) := by
            intro hp hq
            obtain ⟨h1, h2⟩ := lendAll_ok h xs p ys hl hp
            exact hE f g hg ys q r hgr hq w vs ⟨by rw [hsz, h1], fun j y hy => by
              obtain ⟨kx, hkx, hr⟩ := h2 j y hy
              obtain ⟨v, hv, ht⟩ := hx j kx hkx
              exact ⟨v, hv, hr v ht⟩⟩
          have wd : ∀ w', (∀ g, g < w.heap.size → w'.heap[g]? = w.heap[g]?) → Onward w w' → RG F G σ a w' := fun w' hs ho => h.world ho fun g hg => hs g (h.lt g hg)
          unfold Oper.wp
          rw [hrun, Oper.upon_enter]
          split at hh
          · rename_i d hd
            split at hh
            · rename_i hcd
              obtain ⟨hlt, hlen, hfl⟩ := hcd
              obtain ⟨hp, hq, hh⟩ := hh
              refine (main hp hq).mono ?_
              rintro e w' ⟨v, rfl, ho, hs, hr⟩
              obtain ⟨G', k1, k2⟩ := takeRes_ok r (wd w' hs ho) hr (fun b hb => by
                cases hq' : G.ow b with
                | gone => rfl
                | _ => exact absurd (h.lt b (by simp [hq'])) (by omega)) (64 * d) (fun m hm hm' hmem => by
                  rw [List.all_eq_true] at hfl
                  have hm2 := hfl m hmem
                  have hm3 : m < 64 * d ∨ 64 * d + 64 ≤ m := by simpa only [Bool.or_eq_true, decide_eq_true_eq] using hm2
                  have hlen' : r.len < 64 := hlen
                  clear hfl hm2
                  rcases hm3 with hm3 | hm3
                  · omega
                  · exact absurd hm' (Nat.not_lt.2 (Nat.le_trans (Nat.add_le_add_left (Nat.le_of_lt hlen') _) hm3)))
              show Cont F K Q (a.put o.dst v) w'
              rw [hd]
              exact ⟨_, ⟨G', RG.put k1 (by rw [takeRes_nt]; exact hlt) k2⟩, hh⟩
            · exact hh.elim
          · rename_i hd
            obtain ⟨hp, hq, hh⟩ := hh
            refine (main hp hq).mono ?_
            rintro e w' ⟨v, rfl, ho, hs, hr⟩
            show Cont F K Q (a.put o.dst v) w'
            rw [hd]
            exact ⟨_, ⟨G, wd w' hs ho⟩, hh⟩
        · exact hh.elim
      · exact hh.elim
    · exact hh.elim
  · exact hh.elim
def scalAll : List TV → Option (List Value)
  | [] => some []
  | x :: xs => match x.scal, scalAll xs with
    | some v, some vs => some (v :: vs)
    | _, _ => none
def opMax (P : Program) (o : Oper) (b : Builtin) (tys : Array TypeId) (args : List Operand) (σ : St) (K : St → Out) : Out :=
  match scalAll (args.map σ.eval) with
  | some us => match b with
    | .max => opPure P o (Builtin.max_ tys o.type us.toArray) σ K
    | .min => opPure P o (Builtin.min_ tys o.type us.toArray) σ K
    | _ => .bad
  | none => .bad
theorem scalAll_ok (h : RG F G σ a w) : ∀ (args : List Operand) (us : List Value), scalAll (args.map σ.eval) = some us → args.map a.eval = us := by
  intro args
  induction args with
  | nil => intro us hu; simp only [List.map_nil, scalAll, Option.some.injEq] at hu; exact hu
  | cons x xs ih =>
    intro us hu
    simp only [List.map_cons, scalAll] at hu
    split at hu
    · rename_i v vs hv hvs
      simp only [Option.some.injEq] at hu
      subst hu
      rw [List.map_cons, ih vs hvs, (scal_ok (eval_ok h x) hv).1]
    · simp at hu
def argTVs (P : Program) (σ : St) : List Operand → List TypeId → List (List Nat × TV)
  | [], _ => []
  | x :: xs, ts => (kcells P 8 (ts.headD 0), σ.eval x) :: argTVs P σ xs ts.tail
theorem argTVs_ok (h : RG F G σ a w) : ∀ (xs : List Operand) (ts : List TypeId), (argTVs P σ xs ts).length = xs.length ∧ ∀ (j : Nat) (kx : List Nat × TV), (argTVs P σ xs ts)[j]? = some kx → ∃ v, (xs.map a.eval)[j]? = some v ∧ TVR w G kx.2 v := by
  intro xs
  induction xs with
  | nil => intro ts; simp [argTVs]
  | cons x xs ih =>
    intro ts
    obtain ⟨h1, h2⟩ := ih ts.tail
    refine ⟨by simp [argTVs, h1], fun j kx hj => ?_⟩
    cases j with
    | zero => simp only [argTVs, List.getElem?_cons_zero, Option.some.injEq] at hj; subst hj; exact ⟨_, rfl, eval_ok h x⟩
    | succ j => simpa using h2 j kx (by simpa [argTVs] using hj)
def opCall (P : Program) (E : Env) (o : Oper) (c : Call) (σ : St) (K : St → Out) : Out :=
  match c.callee, c.args.toList, c.argTypes.toList with
  | .builtin .len, [x], [T] => opLen P o T x σ K
  | .builtin .append, [s, x], [T, T'] => if T = T' then opAppend P o T s x σ K else .bad
  | .builtin b, args, _ => opMax P o b c.argTypes args σ K
  | .value f, args, tys => match σ.eval f with
    | .clo g caps => callK P E o g (argTVs P σ args tys ++ caps.map fun c => ([], capTV c)) σ K
    | _ => .bad
  | _, _, _ => .bad
theorem opCall_ok {c : Call} (hE : EOk P E) (h : RG F G σ a w) (ho : o.op = .call c) (hh : (opCall P E o c σ K).holds Q) : o.wp P a w (Cont F K Q) Qx := by
  obtain ⟨callee, args, tys⟩ := c
  unfold opCall at hh
  dsimp only at hh
  split at hh
  · rename_i x T h1 h2
    have e1 : args = #[x] := by simpa using congrArg List.toArray h1
    have e2 : tys = #[T] := by simpa using congrArg List.toArray h2
    subst e1; subst e2
    exact opLen_ok h ho hh
  · rename_i s x T T' h1 h2
    have e1 : args = #[s, x] := by simpa using congrArg List.toArray h1
    have e2 : tys = #[T, T'] := by simpa using congrArg List.toArray h2
    subst e1; subst e2
    split at hh
    · rename_i e; subst e; exact opAppend_ok h ho hh
    · exact hh.elim
  · rename_i b _ _ _ _
    unfold opMax at hh
    split at hh
    · rename_i us hus
      have e1 := scalAll_ok h args.toList us hus
      have e2 : args.map a.eval = us.toArray := by rw [← e1]; apply Array.ext'; simp
      split at hh
      · exact opPure_ok h hh (by simp [execOp, ho, resolve, invoke, builtin, e2])
      · exact opPure_ok h hh (by simp [execOp, ho, resolve, invoke, builtin, e2])
      · exact hh.elim
    · exact hh.elim
  · rename_i f
    split at hh
    · rename_i g caps hf
      have hfv := eval_ok h f
      rw [hf] at hfv
      obtain ⟨cv, hcv, hcs, hcc⟩ := hfv
      obtain ⟨h1, h2⟩ := argTVs_ok (P := P) h args.toList tys.toList
      refine callK_ok (vs := args.map a.eval ++ cv) hE h ?_ ?_ ?_ hh
      · simp only [Array.size_append, Array.size_map, hcs, List.length_append, h1, List.length_map, Array.length_toList]
      · intro j kx hj
        by_cases hlt : j < args.size
        · rw [List.getElem?_append_left (by rw [h1]; simpa using hlt)] at hj
          obtain ⟨v, hv, ht⟩ := h2 j kx hj
          refine ⟨v, ?_, ht⟩
          rw [Array.getElem?_append_left (by simpa using hlt)]
          simpa using hv
        · rw [List.getElem?_append_right (by rw [h1]; simp; omega), h1, List.getElem?_map, Array.length_toList] at hj
          cases hq : caps[j - args.size]? with
          | none => simp [hq] at hj
          | some c0 =>
            simp only [hq, Option.map_some, Option.some.injEq] at hj
            subst hj
            obtain ⟨u, hu, hr⟩ := hcc _ c0 hq
            refine ⟨u, ?_, capTV_ok hr⟩
            rw [Array.getElem?_append_right (by simp; omega)]
            simpa using hu
      · simp [execOp, ho, resolve, Deferred.ofValue, hcv, invoke]
    · exact hh.elim
  · exact hh.elim
def step (P : Program) (E : Env) (o : Oper) (σ : St) (K : St → Out) : Out :=
  match o.op with
  | .move x => opMove o x σ K
  | .assign x => opMove o x σ K
  | .pick c x y => opPick o c x y σ K
  | .alloc T => opAlloc P o T σ K
  | .box _ x => opBox o x σ K
  | .build T ps => opBuild P o T ps σ K
  | .buildSlice T n ps => opBuildSlice P o T n ps σ K
  | .load T x => opLoad P o T x σ K
  | .store T p x => if o.dst = none then opStore P o T p x σ K else .bad
  | .nilCheck x => opNil o x σ K
  | .binOp op T x y _ => opBin P o op T x y σ K
  | .unOp op _ x => opUn P o op x σ K
  | .convert S T x => opConv P o S T x σ K
  | .makeFunc fn first captured => opMakeFunc o fn first captured σ K
  | .makeSlice T l c => opMake P o T l c σ K
  | .slice T x lo hi mx => opSlice P o T x lo hi mx σ K
  | .fieldAddr T x j => opFieldAddr P o T x j σ K
  | .indexAddr T x i => opIndexAddr P o T x i σ K
  | .index T x i => match P.underlying T with
    | some .string => opIndexS o x i σ K
    | _ => .bad
  | .extract x ix => opExtract o x ix σ K
  | .call c => opCall P E o c σ K
  | _ => .bad
theorem step_ok (hE : EOk P E) (h : RG F G σ a w) (hh : (step P E o σ K).holds Q) : o.wp P a w (Cont F K Q) Qx := by
  unfold step at hh
  split at hh
  · exact opMove_ok h (.inl (by assumption)) hh
  · exact opMove_ok h (.inr (by assumption)) hh
  · exact opPick_ok h (by assumption) hh
  · exact opAlloc_ok h (by assumption) hh
  · exact opBox_ok h (by assumption) hh
  · exact opBuild_ok h (by assumption) hh
  · exact opBuildSlice_ok h (by assumption) hh
  · exact opLoad_ok h (by assumption) hh
  · split at hh
    · exact opStore_ok h (by assumption) (by assumption) hh
    · exact hh.elim
  · exact opNil_ok h (by assumption) hh
  · exact opBin_ok h (by assumption) hh
  · exact opUn_ok h (by assumption) hh
  · exact opConv_ok h (by assumption) hh
  · exact opMakeFunc_ok h (by assumption) hh
  · exact opMake_ok h (by assumption) hh
  · exact opSlice_ok h (by assumption) hh
  · exact opFieldAddr_ok h (by assumption) hh
  · exact opIndexAddr_ok h (by assumption) hh
  · split at hh
    · exact opIndexS_ok h (by assumption) (by assumption) hh
    · exact hh.elim
  · exact opExtract_ok h (by assumption) hh
  · exact opCall_ok hE h (by assumption) hh
  · exact hh.elim
end
end Go.D
