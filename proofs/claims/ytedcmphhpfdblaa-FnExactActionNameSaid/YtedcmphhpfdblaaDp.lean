/-
  The contract of a function out of the run of its body.
-/
import Derived.Test.YtedcmphhpfdblaaDo
namespace Go.D
set_option linter.unusedVariables false
section
variable {P : Program} {E : Env} {F : Fr} {G : Gh} {σ : St} {a : Act} {w : World} {K : St → Out} {Q : Post}
def partRun (tmps : Array Value) (r : ResultVar) : Sem Value := match r with
  | .tmp t => pure (tmps.getD t undef)
  | .cell a t => do loadVar t (← asAddr (tmps.getD a undef))
theorem resCells_ok (h : RG F G σ a w) {r : ResultVar} {p : Bool × List Cell} (hr : resCells P σ r = some p) : ∃ v, (partRun a.tmps r).run P w = .ok v w ∧ PartR w G p.1 p.2 v := by
  unfold resCells at hr
  split at hr
  · rename_i t
    have hx := get_ok h t
    split at hr
    · rename_i agg cs he
      simp only [Option.some.injEq] at hr
      subst hr
      rw [he] at hx
      exact ⟨_, rfl, hx⟩
    · simp at hr
  · rename_i t T
    have hx := get_ok h t
    split at hr
    · rename_i b d i he hd hi
      rw [he] at hx
      split at hr
      · rename_i cs hb
        split at hr
        · rename_i hc
          obtain ⟨hlen, hs⟩ := hc
          simp only [Option.some.injEq] at hr
          subst hr
          obtain ⟨h1, row, e, h2, h3⟩ := h.bx b cs hb
          have hrl : row.toList.length = i.size := by rw [Array.length_toList, h3.1, hlen]
          refine ⟨mkVal P T row.toList, ?_, part_mk (P := P) T cs row.toList (by rw [hrl, hlen]) (fun j c hj => by simpa using h3.2 j c hj) (by rwa [hlen])⟩
          have := run_loadVar_at (P := P) (w := w) T d i (G.be b) 0 row e (0, 0) hd hi h2 row.toList hrl (fun j v hv => by simpa using hv) hs
          simp only [TVR] at hx
          simp only [partRun, hx, asAddr, Sem.run_bind, Sem.run_pure, Result.andThen_ok, this]
        · simp at hr
      · simp at hr
    · simp at hr
theorem resParts_ok (h : RG F G σ a w) : ∀ (rs : List ResultVar) (ps : List (Bool × List Cell)), resParts P σ rs = some ps → ∃ vs : List Value, (rs.mapM (partRun a.tmps)).run P w = .ok vs w ∧ vs.length = ps.length ∧
    ∀ (i : Nat) (p : Bool × List Cell), ps[i]? = some p → ∃ v, vs[i]? = some v ∧ PartR w G p.1 p.2 v := by
  intro rs
  induction rs with
  | nil => intro ps hp; simp only [resParts, Option.some.injEq] at hp; subst hp; exact ⟨[], by simp, rfl, by simp⟩
  | cons r rs ih =>
    intro ps hp
    simp only [resParts] at hp
    split at hp
    · rename_i p ps' h1 h2
      simp only [Option.some.injEq] at hp
      subst hp
      obtain ⟨v, hv, hpr⟩ := resCells_ok h h1
      obtain ⟨vs, hvs, hl, hps⟩ := ih ps' h2
      refine ⟨v :: vs, ?_, by simp [hl], fun i q hq => ?_⟩
      · rw [List.mapM_cons, Sem.run_bind, hv, Result.andThen_ok, Sem.run_bind, hvs, Result.andThen_ok]
        rfl
      · cases i with
        | zero => simp only [List.getElem?_cons_zero, Option.some.injEq] at hq; subst hq; exact ⟨v, rfl, hpr⟩
        | succ i => simpa using hps i q (by simpa using hq)
    · simp at hp
theorem litParts_ok (h : RG F G σ a w) : ∀ (ps : List (Bool × List Cell)) (qs : List (Bool × List C)) (ab : List Nat), litParts σ ps = some (qs, ab) → qs.length = ps.length ∧
    (∀ (i : Nat) (p : Bool × List Cell) (v : Value), ps[i]? = some p → PartR w G p.1 p.2 v → ∃ q, qs[i]? = some q ∧ PartO w q.1 q.2 v (fun j b => ∃ c m, p.2[j]? = some c ∧ cellLab c m ∧ G.ow b = .lab m)) ∧
    (∀ (i j : Nat) (p : Bool × List Cell) (c : Cell) (m : Nat), ps[i]? = some p → p.2[j]? = some c → cellLab c m → m ∈ ab) ∧
    (∀ (i j i' j' : Nat) (p p' : Bool × List Cell) (c c' : Cell) (m : Nat), ps[i]? = some p → ps[i']? = some p' → p.2[j]? = some c → p'.2[j']? = some c' → cellLab c m → cellLab c' m → i = i' ∧ j = j') := by
  intro ps
  induction ps with
  | nil => intro qs ab hl; simp only [litParts, Option.some.injEq, Prod.mk.injEq] at hl; obtain ⟨rfl, rfl⟩ := hl; simp
  | cons p ps ih =>
    intro qs ab hl
    simp only [litParts] at hl
    split at hl
    · rename_i ds ab1 qs' ab2 h1 h2
      split at hl
      · rename_i hdis
        simp only [Option.some.injEq, Prod.mk.injEq] at hl
        obtain ⟨rfl, rfl⟩ := hl
        obtain ⟨l1, l2, l3, l4⟩ := litC_ok h p.2 ds ab1 h1
        obtain ⟨k1, k2, k3, k4⟩ := ih qs' ab2 h2
        have hd : ∀ m, m ∈ ab1 → m ∉ ab2 := by
          intro m hm
          rw [List.all_eq_true] at hdis
          simpa using hdis m hm
        refine ⟨by simp [k1], fun i q v hq hv => ?_, fun i j q c m hq hc hm => ?_, fun i j i' j' q q' c c' m hq hq' hc hc' hm hm' => ?_⟩
        · cases i with
          | succ i => simpa using k2 i q v (by simpa using hq) hv
          | zero =>
            simp only [List.getElem?_cons_zero, Option.some.injEq] at hq
            subst hq
            refine ⟨_, rfl, ?_⟩
            have cell : ∀ (j : Nat) (c : Cell) (u : Value), p.2[j]? = some c → CellR w G c u → TO w (ds.getD j .nl) u (fun b => ∃ c m, p.2[j]? = some c ∧ cellLab c m ∧ G.ow b = .lab m) ∧ u.oneCell' = true := by
              intro j c u hc hu
              exact ⟨(l2 j c u hc hu).frame fun b hb _ => ⟨rfl, let ⟨m, hm, hb⟩ := hb; ⟨c, m, hc, hm, hb⟩⟩, hu.one⟩
            obtain ⟨agg, cs⟩ := p
            cases agg with
            | false =>
              obtain ⟨c, hcs, hcr⟩ := hv
              simp only at hcs
              subst hcs
              obtain ⟨d, rfl⟩ := List.length_eq_one_iff.1 l1
              have := cell 0 c v rfl hcr
              exact ⟨d, rfl, by simpa using this.1, this.2⟩
            | true =>
              obtain ⟨vs, rfl, hs, hcr⟩ := hv
              refine ⟨vs, rfl, by rw [hs, l1], fun j d hj => ?_⟩
              have hlt : j < cs.length := by rw [← l1]; exact (List.getElem?_eq_some_iff.1 hj).1
              obtain ⟨u, hu, hcu⟩ := hcr j _ (List.getElem?_eq_getElem hlt)
              have := cell j _ u (List.getElem?_eq_getElem hlt) hcu
              have hdj : ds.getD j .nl = d := by simp [List.getD, hj]
              rw [hdj] at this
              exact ⟨u, hu, this⟩
        · cases i with
          | zero => simp only [List.getElem?_cons_zero, Option.some.injEq] at hq; subst hq; exact List.mem_append.2 (.inl (l3 j c m hc hm))
          | succ i => exact List.mem_append.2 (.inr (k3 i j q c m (by simpa using hq) hc hm))
        · cases i with
          | zero =>
            simp only [List.getElem?_cons_zero, Option.some.injEq] at hq
            subst hq
            cases i' with
            | zero =>
              simp only [List.getElem?_cons_zero, Option.some.injEq] at hq'
              subst hq'
              exact ⟨rfl, l4 j j' c c' m hc hc' hm hm'⟩
            | succ i' => exact absurd (k3 i' j' q' c' m (by simpa using hq') hc' hm') (hd m (l3 j c m hc hm))
          | succ i =>
            cases i' with
            | zero =>
              simp only [List.getElem?_cons_zero, Option.some.injEq] at hq'
              subst hq'
              exact absurd (k3 i j q c m (by simpa using hq) hc hm) (hd m (l3 j' c' m hc' hm'))
            | succ i' =>
              obtain ⟨e1, e2⟩ := k4 i j i' j' q q' c c' m (by simpa using hq) (by simpa using hq') hc hc' hm hm'
              exact ⟨by rw [e1], e2⟩
      · simp at hl
    · simp at hl
theorem results_run (fn : Func) (tmps : Array Value) (vs : List Value) (h : (fn.results.toList.mapM (partRun tmps)).run P w = .ok vs w) :
    (results fn tmps).run P w = .ok (if h : vs.length = 1 then vs[0] else .tuple vs.toArray) w := by
  have e : (fn.results.mapM (partRun tmps) : Sem (Array Value)).run P w = .ok vs.toArray w := by
    rw [Array.mapM_eq_mapM_toList]
    simp only [Sem.run_map, h, Result.andThen_ok]
  have e2 : results fn tmps = (fn.results.mapM (partRun tmps) >>= fun vs => pure (if h : vs.size = 1 then vs[0] else .tuple vs)) := rfl
  rw [e2, Sem.run_bind, e, Result.andThen_ok]
  simp
def leR : Res → Res → Prop
  | .one a cs, .one b ds => a = b ∧ cs.length = ds.length ∧ ∀ (j : Nat) (c d : C), cs[j]? = some c → ds[j]? = some d → le c d
  | .tup ps, .tup qs => ps.length = qs.length ∧ ∀ (i : Nat) (p q : Bool × List C), ps[i]? = some p → qs[i]? = some q → p.1 = q.1 ∧ p.2.length = q.2.length ∧ ∀ (j : Nat) (c d : C), p.2[j]? = some c → q.2[j]? = some d → le c d
  | _, _ => False
theorem PartO.le {agg : Bool} {cs ds : List C} {v : Value} {Fs : Nat → Nat → Prop} (h : PartO w agg cs v Fs) (hl : cs.length = ds.length) (hle : ∀ (j : Nat) (c d : C), cs[j]? = some c → ds[j]? = some d → D.le c d) : PartO w agg ds v Fs := by
  cases agg with
  | false =>
    obtain ⟨c, rfl, h1, h2⟩ := h
    obtain ⟨d, rfl⟩ := List.length_eq_one_iff.1 hl.symm
    exact ⟨d, rfl, TO.le (hle 0 c d rfl rfl) h1, h2⟩
  | true =>
    obtain ⟨vs, rfl, hs, h⟩ := h
    refine ⟨vs, rfl, by rw [hs, hl], fun j d hj => ?_⟩
    have hlt : j < cs.length := by rw [hl]; exact (List.getElem?_eq_some_iff.1 hj).1
    obtain ⟨u, hu, h1, h2⟩ := h j _ (List.getElem?_eq_getElem hlt)
    exact ⟨u, hu, TO.le (hle j _ d (List.getElem?_eq_getElem hlt) hj) h1, h2⟩
theorem ResR.le {B : Nat} {r r' : Res} {v : Value} (h : ResR B w r v) (hl : leR r r') : ResR B w r' v := by
  obtain ⟨Fs, h1, h2, h3⟩ := h
  refine ⟨Fs, h1, h2, ?_⟩
  cases r with
  | one a cs =>
    cases r' with
    | tup qs => exact hl.elim
    | one b ds => obtain ⟨rfl, hlen, hle⟩ := hl; exact PartO.le h3 hlen hle
  | tup ps =>
    cases r' with
    | one b ds => exact hl.elim
    | tup qs =>
      obtain ⟨hlen, hle⟩ := hl
      obtain ⟨vs, rfl, hs, hp⟩ := h3
      refine ⟨vs, rfl, by rw [hs, hlen], fun i q hq => ?_⟩
      have hlt : i < ps.length := by rw [hlen]; exact (List.getElem?_eq_some_iff.1 hq).1
      obtain ⟨u, hu, hpo⟩ := hp i _ (List.getElem?_eq_getElem hlt)
      obtain ⟨e1, e2, e3⟩ := hle i _ q (List.getElem?_eq_getElem hlt) hq
      exact ⟨u, hu, e1 ▸ PartO.le hpo e2 e3⟩
def F0 (w : World) : Fr := ⟨w, (G0 w).ow, [], []⟩
theorem leaf_ok {w0 : World} {fn : Func} {R' : Res → Prop} (h : RG (F0 w0) G σ a w) (hh : (leafOf P fn σ).holds (fun r _ _ => R' r)) : ∃ v r, (results fn a.tmps).run P w = .ok v w ∧ R' r ∧ ResR w0.heap.size w r v := by
  unfold leafOf at hh
  split at hh
  · rename_i r hr
    unfold resOf at hr
    split at hr
    · rename_i ps hps
      obtain ⟨vs, hrun, hlen, hpv⟩ := resParts_ok (P := P) h fn.results.toList ps hps
      have hres := results_run fn a.tmps vs hrun
      have base : ∀ qs ab, litParts σ ps = some (qs, ab) → ∃ Fs : Nat → Nat → Nat → Prop, (∀ p j b, Fs p j b → w0.heap.size ≤ b ∧ b < w.heap.size) ∧ (∀ p j p' j' b, Fs p j b → Fs p' j' b → p = p' ∧ j = j') ∧ qs.length = ps.length ∧
          ∀ (i : Nat) (q : Bool × List C), qs[i]? = some q → ∃ u, vs[i]? = some u ∧ PartO w q.1 q.2 u (Fs i) := by
        intro qs ab hl
        obtain ⟨k1, k2, k3, k4⟩ := litParts_ok h ps qs ab hl
        refine ⟨fun i j b => ∃ p c m, ps[i]? = some p ∧ p.2[j]? = some c ∧ cellLab c m ∧ G.ow b = .lab m, ?_, ?_, k1, fun i q hq => ?_⟩
        · rintro i j b ⟨p, c, m, hp, hc, hm, hb⟩
          refine ⟨?_, h.lt b (by simp [hb])⟩
          rcases Nat.lt_or_ge b w0.heap.size with hlt | hge
          · have := (h.keep b hlt (by simp [F0, G0]; exact hlt)).2
            rw [hb] at this
            cases this
          · exact hge
        · rintro i j i' j' b ⟨p, c, m, hp, hc, hm, hb⟩ ⟨p', c', m', hp', hc', hm', hb'⟩
          rw [hb] at hb'
          injection hb' with e
          subst e
          exact k4 i j i' j' p p' c c' m hp hp' hc hc' hm hm'
        · have hlt : i < ps.length := by rw [← k1]; exact (List.getElem?_eq_some_iff.1 hq).1
          obtain ⟨v, hv, hpr⟩ := hpv i _ (List.getElem?_eq_getElem hlt)
          obtain ⟨q', hq', hpo⟩ := k2 i _ v (List.getElem?_eq_getElem hlt) hpr
          rw [hq] at hq'
          injection hq' with e
          subst e
          refine ⟨v, hv, ?_⟩
          have fo : ∀ (j b : Nat), (∃ (c : Cell) (m : Nat), ps[i].2[j]? = some c ∧ cellLab c m ∧ G.ow b = .lab m) → (∃ (p : Bool × List Cell) (c : Cell) (m : Nat), ps[i]? = some p ∧ p.2[j]? = some c ∧ cellLab c m ∧ G.ow b = .lab m) := by
            rintro j b ⟨c, m, hc, hm⟩
            exact ⟨_, c, m, List.getElem?_eq_getElem hlt, hc, hm⟩
          cases hb : q.1 with
          | false =>
            rw [hb] at hpo
            obtain ⟨c, e1, e2, e3⟩ := hpo
            exact ⟨c, e1, e2.frame fun b hb _ => ⟨rfl, fo 0 b hb⟩, e3⟩
          | true =>
            rw [hb] at hpo
            obtain ⟨us, e1, e2, e3⟩ := hpo
            exact ⟨us, e1, e2, fun j c hc => let ⟨u, hu, ht, h1⟩ := e3 j c hc; ⟨u, hu, ht.frame fun b hb _ => ⟨rfl, fo j b hb⟩, h1⟩⟩
      split at hr
      · rename_i p ab hl
        simp only [Option.some.injEq] at hr
        subst hr
        obtain ⟨Fs, f1, f2, f3, f4⟩ := base _ _ hl
        obtain ⟨u, hu, hpo⟩ := f4 0 p rfl
        have hv1 : vs.length = 1 := by rw [hlen, ← f3]; rfl
        obtain ⟨v0, rfl⟩ := List.length_eq_one_iff.1 hv1
        simp only [List.getElem?_cons_zero, Option.some.injEq] at hu
        subst hu
        exact ⟨v0, _, by rw [hres]; simp, hh, Fs, f1, f2, hpo⟩
      · rename_i qs ab hne hl
        simp only [Option.some.injEq] at hr
        subst hr
        obtain ⟨Fs, f1, f2, f3, f4⟩ := base _ _ hl
        have hv1 : ¬ vs.length = 1 := by
          intro e
          have : qs.length = 1 := by rw [f3, ← hlen, e]
          obtain ⟨q, rfl⟩ := List.length_eq_one_iff.1 this
          exact hne q rfl
        refine ⟨.tuple vs.toArray, _, by rw [hres]; simp [hv1], hh, Fs, f1, f2, vs.toArray, rfl, by simp [hlen, f3], fun i q hq => ?_⟩
        obtain ⟨u, hu, hpo⟩ := f4 i q hq
        exact ⟨u, by simpa using hu, hpo⟩
      · simp at hr
    · simp at hr
  · exact hh.elim
theorem start_look (args : List TV) (t : Nat) : look (args.zipIdx.map (fun p => (p.2, p.1))) t = args[t]? := by
  have key : ∀ (args : List TV) (s t : Nat), look ((args.zipIdx s).map (fun p => (p.2, p.1))) t = if t < s then none else args[t - s]? := by
    intro args
    induction args with
    | nil => intro s t; simp [look]
    | cons x args ih =>
      intro s t
      simp only [List.zipIdx_cons, List.map_cons, look, ih, beq_iff_eq]
      by_cases h1 : t = s
      · subst h1; simp
      · by_cases h2 : t < s
        · simp [h1, h2, show t < s + 1 from by omega]
        · have : t - s = (t - (s + 1)) + 1 := by omega
          simp [h1, h2, show ¬ t < s + 1 from by omega, this]
  simpa using key args 0 t
/-- THE CONTRACT OUT OF THE RUN -/
theorem con_of_run {f : Nat} {fn : Func} {c : Code} {args : List TV} {r : Res} {L : LEnv} {kp : List Nat} (hE : EOk P E) (hf : P.funcs[f]? = some fn) (hb : fn.body = some c) (hn : args.length ≤ fn.ntmps)
    (hh : (run P E L kp c (start fn.ntmps args) (endK P fn)).holds (fun r' _ _ => leR r' r)) : Con P f args r := by
  intro w vs ⟨hsz, hargs⟩
  refine calls_of_wp hf hb ?_
  have h0 : RG (F0 w) (G0 w) (start fn.ntmps args) { tmps := vs ++ Array.replicate (fn.ntmps - vs.size) undef, defers := [] } w := by
    refine ⟨?_, by simp [start, look], by simp [start, look], ?_, rfl, rfl, rfl, Nat.le_refl _, ?_, by simp [F0, look], by simp [F0, look], ?_, rfl⟩
    · intro t tv hl
      simp only [start, start_look] at hl
      obtain ⟨v, hv, ht⟩ := hargs t tv hl
      have hlt : t < vs.size := (Array.getElem?_eq_some_iff.1 hv).1
      have : (vs ++ Array.replicate (fn.ntmps - vs.size) undef).getD t undef = v := by
        rw [Array.getD_eq_getD_getElem?, Array.getElem?_append_left hlt, hv]
        rfl
      rw [this]
      exact ht
    · intro g hg
      by_cases hlt : g < w.heap.size
      · exact hlt
      · simp [G0, hlt] at hg
    · intro g hg hfree
      exact ⟨rfl, by simpa [F0] using hfree⟩
    · simp [start]; omega
  refine wp_mono (run_ok hE c _ _ w _ ⟨_, h0⟩ hh) ?_
  rintro e a' w' ⟨ex, σ', he, ⟨G', h'⟩, hh'⟩
  have fin : (leafOf P fn σ').holds (fun r' _ _ => leR r' r) → a'.defers = [] ∧ ∃ v, (results fn a'.tmps).run P w' = .ok v w' ∧ ConPost w r (.returned v) w' := by
    intro hl
    obtain ⟨v, r', h1, h2, h3⟩ := leaf_ok h' hl
    refine ⟨h'.df, v, h1, v, rfl, ⟨h'.os, h'.tape, h'.output, h'.size⟩, fun g hg => (h'.keep g hg (by simp [F0, G0]; exact hg)).1, h3.le h2⟩
  cases ex with
  | normal => obtain rfl := he; exact fin hh'
  | ret => obtain rfl := he; exact fin hh'
  | exit id => exact hh'.elim
def fnOut (P : Program) (E : Env) (L : LEnv) (kp : List Nat) (fn : Func) (args : List TV) : Out := run P E L kp (fn.body.getD .skip) (start fn.ntmps args) (endK P fn)
theorem con_of {f : Nat} {fn : Func} {args : List TV} {r : Res} {L : LEnv} {kp : List Nat} {X : Out} (hE : EOk P E) (hf : P.funcs[f]? = some fn) (hb : fn.body.isSome = true) (hn : decide (args.length ≤ fn.ntmps) = true)
    (hx : fnOut P E L kp fn args = X) (hh : X.holds (fun r' _ _ => leR r' r)) : Con P f args r := by
  obtain ⟨c, hc⟩ := Option.isSome_iff_exists.1 hb
  refine con_of_run (L := L) (kp := kp) hE hf hc (of_decide_eq_true hn) ?_
  subst hx
  unfold fnOut at hh
  rw [hc] at hh
  exact hh
theorem leR_one1 {c d : C} (h : le c d) : leR (.one false [c]) (.one false [d]) := by
  refine ⟨rfl, rfl, fun j c' d' hc hd => ?_⟩
  cases j with
  | zero => simp only [List.getElem?_cons_zero, Option.some.injEq] at hc hd; subst hc; subst hd; exact h
  | succ j => simp at hc
theorem leR_val {u v : Value} (h : u = v) : leR (.one false [.val u]) (.one false [.val v]) := leR_one1 (by subst h; exact le.refl _)
end
end Go.D
