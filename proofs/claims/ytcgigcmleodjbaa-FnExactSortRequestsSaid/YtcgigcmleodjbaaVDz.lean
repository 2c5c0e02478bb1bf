/-
  The contract of a function out of the run of its body.
-/
import Derived.Test.YtcgigcmleodjbaaVDy
namespace Go.D
set_option linter.unusedVariables false
def resCells (P : Program) (σ : St) : ResultVar → Option (Bool × List Cell)
  | .tmp t => match σ.get t with
    | .v agg cs => some (agg, cs)
    | _ => none
  | .cell t T => match σ.get t, P.underlying T, P.info? T with
    | .ptr b 0, some _, some i => match look σ.bx b with
      | some cs => if cs.length = i.size ∧ (eqTy.aggOf P T = true ∨ i.size = 1) then some (eqTy.aggOf P T, cs) else none
      | none => none
    | _, _, _ => none
def resParts (P : Program) (σ : St) : List ResultVar → Option (List (Bool × List Cell))
  | [] => some []
  | r :: rs => match resCells P σ r, resParts P σ rs with
    | some p, some ps => some (p :: ps)
    | _, _ => none
def litParts (σ : St) : List (Bool × List Cell) → Option (List (Bool × List FC))
  | [] => some []
  | p :: ps => match litC σ p.2, litParts σ ps with
    | some (ds, _), some qs => some ((p.1, ds) :: qs)
    | _, _ => none
def litBoxes (σ : St) : List Nat → Option (List (Nat × List FC))
  | [] => some []
  | b :: bs => match look σ.bx b with
    | some cs => match litC σ cs, litBoxes σ bs with
      | some (ds, _), some qs => some ((b, ds) :: qs)
      | _, _ => none
    | none => none
def keptL (σ : St) : List Nat → Option (List (Nat × Tree))
  | [] => some []
  | l :: ls => match look σ.hp l, keptL σ ls with
    | some T, some hs => some ((l, T) :: hs)
    | _, _ => none
/-- all cells that own memory at the end, by their places -/
def plCells (mk : Nat → Pl) : Nat → List Cell → List (Pl × Cell)
  | _, [] => []
  | j, c :: cs => (mk j, c) :: plCells mk (j + 1) cs
def plParts : Nat → List (Bool × List Cell) → List (Pl × Cell)
  | _, [] => []
  | i, p :: ps => plCells (.res i) 0 p.2 ++ plParts (i + 1) ps
def plBoxes (σ : St) : List Nat → List (Pl × Cell)
  | [] => []
  | b :: bs => (match look σ.bx b with | some cs => plCells (.box b) 0 cs | none => []) ++ plBoxes σ bs
def labsOf : List (Pl × Cell) → List Nat
  | [] => []
  | (_, .ref l) :: r => l :: labsOf r
  | _ :: r => labsOf r
def mkRes : List (Bool × List FC) → Res
  | [p] => .one p.1 p.2
  | qs => .tup qs
def leafOf (P : Program) (fn : Func) (fb kl : List Nat) (σ : St) : Out :=
  match resParts P σ fn.results.toList with
  | some ps => match litParts σ ps, litBoxes σ fb, keptL σ kl with
    | some qs, some bs, some hs => bif nodupB (labsOf (plParts 0 ps) ++ (labsOf (plBoxes σ fb) ++ kl)) && nodupB fb then .leaf (mkRes qs) bs hs else .bad
    | _, _, _ => .bad
  | none => .bad
def endK (P : Program) (fn : Func) (fb kl : List Nat) : Ex → St → Out
  | .normal, σ => settle fn.results.toList σ fun σ => settleBs fb σ (leafOf P fn fb kl)
  | .ret, σ => settle fn.results.toList σ fun σ => settleBs fb σ (leafOf P fn fb kl)
  | .exit _, _ => .bad
def start (nt : Nat) (A : Arg) (kl : List Nat) : St := { nt, tm := A.tm.zipIdx.map (fun p => (p.2, p.1)), bx := A.bx, hp := A.hp, fb := A.bx.map (·.1), fl := kl }
/-! what is left says no less than the contract -/
def fcSame : FC → FC → Prop
  | .val u, .val v => u = v
  | .nl, .nl => True
  | .nl, .l _ ys => ys = []
  | .l t xs, .l t' ys => if h : t = t' then h ▸ xs = ys else False
  | _, _ => False
def fcsSame : List FC → List FC → Prop
  | [], [] => True
  | c :: cs, d :: ds => fcSame c d ∧ fcsSame cs ds
  | _, _ => False
def psSame : List (Bool × List FC) → List (Bool × List FC) → Prop
  | [], [] => True
  | p :: ps, q :: qs => (p.1 = q.1 ∧ fcsSame p.2 q.2) ∧ psSame ps qs
  | _, _ => False
def resSame : Res → Res → Prop
  | .one a cs, .one b ds => a = b ∧ fcsSame cs ds
  | .tup ps, .tup qs => psSame ps qs
  | _, _ => False
def bxSame : List (Nat × List FC) → List (Nat × List FC) → Prop
  | [], [] => True
  | p :: ps, q :: qs => (p.1 = q.1 ∧ fcsSame p.2 q.2) ∧ bxSame ps qs
  | _, _ => False
def pstSame (p q : Pst) : Prop := resSame p.r q.r ∧ bxSame p.bx q.bx ∧ p.hp = q.hp
def Ctr.post (c : Ctr) : Post := ⟨fun r bx hp => match c with
  | .det _ q => pstSame ⟨r, hp, bx⟩ q
  | .ex _ X ok q => ∃ x : X, ok x ∧ pstSame ⟨r, hp, bx⟩ (q x)
  | .df _ _ e q => pstSame ⟨r, hp, bx⟩ (q e), fun _ _ => False⟩
theorem fcSame_le : ∀ {c d : FC}, fcSame c d → fcLe c d := by
  intro c d h
  cases c with
  | val u => cases d <;> first | exact h.elim | (obtain rfl := h; exact fcLe.refl _)
  | nl =>
    cases d with
    | val v => exact h.elim
    | nl => exact fcLe.refl _
    | l t ys => obtain rfl := h; exact .inr ⟨rfl, t, rfl⟩
  | l t xs =>
    cases d with
    | val v => exact h.elim
    | nl => exact h.elim
    | l t' ys =>
      simp only [fcSame] at h
      split at h
      · rename_i e; subst e; obtain rfl := h; exact fcLe.refl _
      · exact h.elim
theorem fcsSame_le : ∀ {cs ds : List FC}, fcsSame cs ds → FcsLe cs ds := by
  intro cs
  induction cs with
  | nil => intro ds h; cases ds with
    | nil => exact .nil
    | cons d ds => exact h.elim
  | cons c cs ih => intro ds h; cases ds with
    | nil => exact h.elim
    | cons d ds => exact .cons (fcSame_le h.1) (ih h.2)
section
variable {P : Program} {E : Env} {F : Fr P} {G : Gh} {σ : St} {a : Act} {w w' : World} {o : Oper} {K : St → Out} {Q : Post} {Qx : Exit → Act → World → Prop}
theorem PartO.le {agg : Bool} {cs ds : List FC} {v : Value} {Fs : Nat → Nat → Prop} (h : PartO w agg cs v Fs) (hl : FcsLe cs ds) : PartO w agg ds v Fs := by
  obtain ⟨hl1, hl2⟩ := hl.get
  have hle : ∀ (j : Nat) (c d : FC), cs[j]? = some c → ds[j]? = some d → D.le (fcC c) (fcC d) := by
    intro j c d hc hd
    have := (hl2 j).le
    simpa [List.getD, hc, hd] using this
  cases agg with
  | false =>
    obtain ⟨c, rfl, h1, h2⟩ := h
    obtain ⟨d, rfl⟩ := List.length_eq_one_iff.1 hl1.symm
    exact ⟨d, rfl, TO.le (hle 0 c d rfl rfl) h1, h2⟩
  | true =>
    obtain ⟨vs, rfl, hs, h⟩ := h
    refine ⟨vs, rfl, by rw [hs, hl1], fun j d hj => ?_⟩
    have hlt : j < cs.length := by rw [hl1]; exact (List.getElem?_eq_some_iff.1 hj).1
    obtain ⟨u, hu, h1, h2⟩ := h j _ (List.getElem?_eq_getElem hlt)
    exact ⟨u, hu, TO.le (hle j _ d (List.getElem?_eq_getElem hlt) hj) h1, h2⟩
theorem psSame_get : ∀ {ps qs : List (Bool × List FC)}, psSame ps qs → ps.length = qs.length ∧ ∀ (i : Nat) (q : Bool × List FC), qs[i]? = some q → ∃ p, ps[i]? = some p ∧ p.1 = q.1 ∧ FcsLe p.2 q.2 := by
  intro ps
  induction ps with
  | nil => intro qs h; cases qs with
    | nil => simp
    | cons q qs => exact h.elim
  | cons p ps ih => intro qs h; cases qs with
    | nil => exact h.elim
    | cons q qs =>
      obtain ⟨h1, h2⟩ := ih h.2
      refine ⟨by simp [h1], fun i q' hq => ?_⟩
      cases i with
      | zero => simp only [List.getElem?_cons_zero, Option.some.injEq] at hq; subst hq; exact ⟨p, rfl, h.1.1, fcsSame_le h.1.2⟩
      | succ i => simpa using h2 i q' (by simpa using hq)
theorem ResR.le {r r' : Res} {v : Value} {Fs : Nat → Nat → Nat → Prop} (h : ResR w r v Fs) (hl : resSame r r') : ResR w r' v Fs := by
  cases r with
  | one a cs =>
    cases r' with
    | tup qs => exact hl.elim
    | one b ds => obtain ⟨rfl, hl⟩ := hl; exact PartO.le h (fcsSame_le hl)
  | tup ps =>
    cases r' with
    | one b ds => exact hl.elim
    | tup qs =>
      obtain ⟨vs, rfl, hs, hp⟩ := h
      obtain ⟨h1, h2⟩ := psSame_get hl
      refine ⟨vs, rfl, by rw [hs, h1], fun i q hq => ?_⟩
      obtain ⟨p, hpi, e1, e2⟩ := h2 i q hq
      obtain ⟨u, hu, hpo⟩ := hp i p hpi
      exact ⟨u, hu, e1 ▸ PartO.le hpo e2⟩
theorem bxSame_look : ∀ {ps qs : List (Nat × List FC)}, bxSame ps qs → ∀ b ds, look qs b = some ds → ∃ cs, look ps b = some cs ∧ FcsLe cs ds := by
  intro ps
  induction ps with
  | nil => intro qs h; cases qs with
    | nil => simp [look]
    | cons q qs => exact h.elim
  | cons p ps ih => intro qs h; cases qs with
    | nil => exact h.elim
    | cons q qs =>
      obtain ⟨p1, p2⟩ := p
      obtain ⟨q1, q2⟩ := q
      obtain ⟨⟨h1, h2⟩, h3⟩ := h
      intro b ds hl
      have h1 : p1 = q1 := h1
      subst h1
      simp only [look] at hl ⊢
      split at hl
      · rename_i e
        simp only [Option.some.injEq] at hl
        subst hl
        exact ⟨p2, by simp [e], fcsSame_le h2⟩
      · rename_i e
        obtain ⟨cs, k1, k2⟩ := ih h3 b ds hl
        exact ⟨cs, by simp [e, k1], k2⟩
theorem PstF.le {p q : Pst} {v : Value} {Fs : Pl → Nat → Prop} (h : PstF w G w' v p Fs) (hl : pstSame p q) : PstF w G w' v q Fs := by
  obtain ⟨h1, h2, h3⟩ := hl
  refine ⟨fun s b hs => ⟨(h.own s b hs).1, (h.own s b hs).2.1, fun b0 hb0 => (h.own s b hs).2.2 b0 ?_⟩, h.dis, h.res.le h1, fun l T hT => h.hp l T (by rw [h3]; exact hT), fun b ds hb => ?_⟩
  · obtain ⟨ds, hds⟩ := Option.isSome_iff_exists.1 hb0
    obtain ⟨cs, hcs, _⟩ := bxSame_look h2 b0 ds hds
    rw [hcs]; rfl
  · obtain ⟨cs, hcs, hle⟩ := bxSame_look h2 b ds hb
    obtain ⟨r, e, k1, k2, k3⟩ := h.bx b cs hcs
    obtain ⟨l1, l2⟩ := hle.get
    refine ⟨r, e, k1, by rw [k2, l1], fun j d hd => ?_⟩
    have hlt : j < cs.length := by rw [l1]; exact (List.getElem?_eq_some_iff.1 hd).1
    obtain ⟨u, hu, ht, h1⟩ := k3 j _ (List.getElem?_eq_getElem hlt)
    have := (l2 j).le
    refine ⟨u, hu, TO.le ?_ ht, h1⟩
    simpa [List.getD, hd, List.getElem?_eq_getElem hlt] using this
def partRun (tmps : Array Value) (r : ResultVar) : Sem Value := match r with
  | .tmp t => pure (tmps.getD t undef)
  | .cell a t => do loadVar t (← asAddr (tmps.getD a undef))
theorem resCells_ok (h : RG F G σ a w) {r : ResultVar} {p : Bool × List Cell} (hr : resCells P σ r = some p) : ∃ v, (partRun a.tmps r).run P w = .ok v w ∧ PartR w G p.1 p.2 v := by
  unfold resCells at hr
  split at hr
  · rename_i t
    have hx := get_ok h t
    split at hr
    · rename_i agg cs he
      simp only [Option.some.injEq] at hr
      subst hr
      rw [he] at hx
      exact ⟨_, rfl, hx⟩
    · simp at hr
  · rename_i t T
    have hx := get_ok h t
    split at hr
    · rename_i b d i he hd hi
      rw [he] at hx
      split at hr
      · rename_i cs hb
        split at hr
        · rename_i hc
          obtain ⟨hlen, hs⟩ := hc
          simp only [Option.some.injEq] at hr
          subst hr
          obtain ⟨h1, row, e, h2, h3⟩ := h.bx b cs hb
          have hrl : row.toList.length = i.size := by rw [Array.length_toList, h3.1, hlen]
          refine ⟨mkVal P T row.toList, ?_, part_mk (P := P) T cs row.toList (by rw [hrl, hlen]) (fun j c hj => by simpa using h3.2 j c hj) (by rwa [hlen])⟩
          have := run_loadVar_at (P := P) (w := w) T d i (G.be b) 0 row e (0, 0) hd hi h2 row.toList hrl (fun j v hv => by simpa using hv) hs
          simp only [TVR] at hx
          simp only [partRun, hx, asAddr, Sem.run_bind, Sem.run_pure, Result.andThen_ok, this]
        · simp at hr
      · simp at hr
    · simp at hr
theorem resParts_ok (h : RG F G σ a w) : ∀ (rs : List ResultVar) (ps : List (Bool × List Cell)), resParts P σ rs = some ps → ∃ vs : List Value, (rs.mapM (partRun a.tmps)).run P w = .ok vs w ∧ vs.length = ps.length ∧
    ∀ (i : Nat) (p : Bool × List Cell), ps[i]? = some p → ∃ v, vs[i]? = some v ∧ PartR w G p.1 p.2 v := by
  intro rs
  induction rs with
  | nil => intro ps hp; simp only [resParts, Option.some.injEq] at hp; subst hp; exact ⟨[], by simp, rfl, by simp⟩
  | cons r rs ih =>
    intro ps hp
    simp only [resParts] at hp
    split at hp
    · rename_i p ps' h1 h2
      simp only [Option.some.injEq] at hp
      subst hp
      obtain ⟨v, hv, hpr⟩ := resCells_ok h h1
      obtain ⟨vs, hvs, hl, hps⟩ := ih ps' h2
      refine ⟨v :: vs, ?_, by simp [hl], fun i q hq => ?_⟩
      · rw [List.mapM_cons, Sem.run_bind, hv, Result.andThen_ok, Sem.run_bind, hvs, Result.andThen_ok]
        rfl
      · cases i with
        | zero => simp only [List.getElem?_cons_zero, Option.some.injEq] at hq; subst hq; exact ⟨v, rfl, hpr⟩
        | succ i => simpa using hps i q (by simpa using hq)
    · simp at hp
theorem results_run (fn : Func) (tmps : Array Value) (vs : List Value) (h : (fn.results.toList.mapM (partRun tmps)).run P w = .ok vs w) :
    (results fn tmps).run P w = .ok (if h : vs.length = 1 then vs[0] else .tuple vs.toArray) w := by
  have e : (fn.results.mapM (partRun tmps) : Sem (Array Value)).run P w = .ok vs.toArray w := by
    rw [Array.mapM_eq_mapM_toList]
    simp only [Sem.run_map, h, Result.andThen_ok]
  have e2 : results fn tmps = (fn.results.mapM (partRun tmps) >>= fun vs => pure (if h : vs.size = 1 then vs[0] else .tuple vs)) := rfl
  rw [e2, Sem.run_bind, e, Result.andThen_ok]
  simp
/-- a part's content, with the labels that own it -/
theorem part_lit (h : RG F G σ a w) {agg : Bool} {cs : List Cell} {ds : List FC} {ab : List Nat} {v : Value} (hl : litC σ cs = some (ds, ab)) (hv : PartR w G agg cs v) :
    PartO w agg ds v (fun j b => ∃ c m, cs[j]? = some c ∧ cellLab c m ∧ G.ow b = .lab m) := by
  obtain ⟨l1, l2, l3, l4⟩ := litC_ok h cs ds ab hl
  have cell : ∀ (j : Nat) (c : Cell) (u : Value), cs[j]? = some c → CellR w G c u → TO w (fcC (ds.getD j .nl)) u (fun b => ∃ c m, cs[j]? = some c ∧ cellLab c m ∧ G.ow b = .lab m) ∧ u.oneCell' = true :=
    fun j c u hc hu => ⟨(l2 j c u hc hu).frame fun b hb _ => ⟨rfl, let ⟨m, hm, hb⟩ := hb; ⟨c, m, hc, hm, hb⟩⟩, hu.one⟩
  cases agg with
  | false =>
    obtain ⟨c, hcs, hcr⟩ := hv
    subst hcs
    obtain ⟨d, rfl⟩ := List.length_eq_one_iff.1 l1
    have := cell 0 c v rfl hcr
    exact ⟨d, rfl, by simpa using this.1, this.2⟩
  | true =>
    obtain ⟨vs, rfl, hs, hcr⟩ := hv
    refine ⟨vs, rfl, by rw [hs, l1], fun j d hj => ?_⟩
    have hlt : j < cs.length := by rw [← l1]; exact (List.getElem?_eq_some_iff.1 hj).1
    obtain ⟨u, hu, hcu⟩ := hcr j _ (List.getElem?_eq_getElem hlt)
    have := cell j _ u (List.getElem?_eq_getElem hlt) hcu
    have hdj : ds.getD j .nl = d := by simp [List.getD, hj]
    rw [hdj] at this
    exact ⟨u, hu, this⟩
theorem litParts_get : ∀ {ps : List (Bool × List Cell)} {qs : List (Bool × List FC)}, litParts σ ps = some qs → qs.length = ps.length ∧ ∀ (i : Nat) (q : Bool × List FC), qs[i]? = some q → ∃ p ab, ps[i]? = some p ∧ p.1 = q.1 ∧ litC σ p.2 = some (q.2, ab) := by
  intro ps
  induction ps with
  | nil => intro qs h; simp only [litParts, Option.some.injEq] at h; subst h; simp
  | cons p ps ih =>
    intro qs h
    simp only [litParts] at h
    split at h
    · rename_i ds ab qs' h1 h2
      simp only [Option.some.injEq] at h
      subst h
      obtain ⟨k1, k2⟩ := ih h2
      refine ⟨by simp [k1], fun i q hq => ?_⟩
      cases i with
      | zero => simp only [List.getElem?_cons_zero, Option.some.injEq] at hq; subst hq; exact ⟨p, ab, rfl, rfl, h1⟩
      | succ i => simpa using k2 i q (by simpa using hq)
    · cases h
theorem litBoxes_look : ∀ {bs : List Nat} {qs : List (Nat × List FC)}, litBoxes σ bs = some qs → qs.map (·.1) = bs ∧ ∀ b ds, look qs b = some ds → b ∈ bs ∧ ∃ cs ab, look σ.bx b = some cs ∧ litC σ cs = some (ds, ab) := by
  intro bs
  induction bs with
  | nil => intro qs h; simp only [litBoxes, Option.some.injEq] at h; subst h; simp [look]
  | cons b bs ih =>
    intro qs h
    simp only [litBoxes] at h
    split at h
    · rename_i cs hcs
      split at h
      · rename_i ds ab qs' h1 h2
        simp only [Option.some.injEq] at h
        subst h
        obtain ⟨k1, k2⟩ := ih h2
        refine ⟨by simp [k1], fun b' ds' hl => ?_⟩
        simp only [look] at hl
        split at hl
        · rename_i e
          simp only [Option.some.injEq] at hl
          subst hl
          have e' : b' = b := beq_iff_eq.1 e
          subst e'
          exact ⟨by simp, cs, ab, hcs, h1⟩
        · obtain ⟨m1, m2⟩ := k2 b' ds' hl
          exact ⟨by simp [m1], m2⟩
      · cases h
    · cases h
theorem keptL_look : ∀ {ls : List Nat} {hs : List (Nat × Tree)}, keptL σ ls = some hs → ∀ l T, look hs l = some T → l ∈ ls ∧ look σ.hp l = some T := by
  intro ls
  induction ls with
  | nil => intro hs h; simp only [keptL, Option.some.injEq] at h; subst h; simp [look]
  | cons l ls ih =>
    intro hs h
    simp only [keptL] at h
    split at h
    · rename_i T hs' h1 h2
      simp only [Option.some.injEq] at h
      subst h
      intro l' T' hl
      simp only [look] at hl
      split at hl
      · rename_i e
        simp only [Option.some.injEq] at hl
        subst hl
        have e' : l' = l := beq_iff_eq.1 e
        subst e'
        exact ⟨by simp, h1⟩
      · obtain ⟨m1, m2⟩ := ih h2 l' T' hl
        exact ⟨by simp [m1], m2⟩
    · cases h
theorem labs_mem : ∀ {L : List (Pl × Cell)} {s : Pl} {c : Cell} {m : Nat}, (s, c) ∈ L → cellLab c m → m ∈ labsOf L := by
  intro L
  induction L with
  | nil => intro s c m h; simp at h
  | cons x L ih =>
    obtain ⟨s0, c0⟩ := x
    intro s c m h hm
    rcases List.mem_cons.1 h with e | h
    · injection e with e1 e2
      subst e2
      cases c <;> simp [cellLab] at hm
      subst hm
      simp [labsOf]
    · have := ih h hm
      cases c0 <;> simp [labsOf, this]
theorem labs_dis : ∀ {L : List (Pl × Cell)} {s s' : Pl} {c c' : Cell} {m : Nat}, nodupB (labsOf L) = true → (s, c) ∈ L → (s', c') ∈ L → cellLab c m → cellLab c' m → s = s' := by
  intro L
  induction L with
  | nil => intro s s' c c' m _ h; simp at h
  | cons x L ih =>
    obtain ⟨s0, c0⟩ := x
    intro s s' c c' m hn h h' hm hm'
    have tail : nodupB (labsOf L) = true := by
      cases c0 <;> simp only [labsOf] at hn <;> first | exact hn | (simp only [nodupB, Bool.and_eq_true] at hn; exact hn.2)
    have key : ∀ {t : Pl} {d : Cell}, (t, d) ∈ L → cellLab d m → ¬ cellLab c0 m := by
      intro t d hd hdm hc0
      cases c0 <;> simp [cellLab] at hc0
      subst hc0
      simp only [labsOf, nodupB, Bool.and_eq_true, Bool.not_eq_true', List.contains_eq_mem, decide_eq_false_iff_not] at hn
      exact hn.1 (labs_mem hd hdm)
    rcases List.mem_cons.1 h with e | h1
    · injection e with e1 e2
      subst e1; subst e2
      rcases List.mem_cons.1 h' with e | h2
      · injection e with e1 e2
        exact e1.symm
      · exact absurd hm (key h2 hm')
    · rcases List.mem_cons.1 h' with e | h2
      · injection e with e1 e2
        subst e1; subst e2
        exact absurd hm' (key h1 hm)
      · exact ih tail h1 h2 hm hm'
theorem plCells_mem {mk : Nat → Pl} : ∀ {cs : List Cell} {s j : Nat} {c : Cell}, cs[j]? = some c → (mk (s + j), c) ∈ plCells mk s cs := by
  intro cs
  induction cs with
  | nil => intro s j c h; simp at h
  | cons d cs ih =>
    intro s j c h
    cases j with
    | zero => simp only [List.getElem?_cons_zero, Option.some.injEq] at h; subst h; simp [plCells]
    | succ j =>
      have := ih (s := s + 1) (j := j) (c := c) (by simpa using h)
      rw [show s + 1 + j = s + (j + 1) from by omega] at this
      simp [plCells, this]
theorem plParts_mem : ∀ {ps : List (Bool × List Cell)} {s i j : Nat} {p : Bool × List Cell} {c : Cell}, ps[i]? = some p → p.2[j]? = some c → (Pl.res (s + i) j, c) ∈ plParts s ps := by
  intro ps
  induction ps with
  | nil => intro s i j p c h; simp at h
  | cons q ps ih =>
    intro s i j p c h hc
    cases i with
    | zero =>
      simp only [List.getElem?_cons_zero, Option.some.injEq] at h
      subst h
      have := plCells_mem (mk := .res s) (s := 0) hc
      rw [Nat.zero_add] at this
      exact List.mem_append.2 (.inl this)
    | succ i =>
      have := ih (s := s + 1) (i := i) (by simpa using h) hc
      rw [show s + 1 + i = s + (i + 1) from by omega] at this
      exact List.mem_append.2 (.inr this)
theorem plBoxes_mem : ∀ {bs : List Nat} {b j : Nat} {cs : List Cell} {c : Cell}, b ∈ bs → look σ.bx b = some cs → cs[j]? = some c → (Pl.box b j, c) ∈ plBoxes σ bs := by
  intro bs
  induction bs with
  | nil => intro b j cs c h; simp at h
  | cons b0 bs ih =>
    intro b j cs c h hl hc
    simp only [plBoxes]
    rcases List.mem_cons.1 h with rfl | h
    · have := plCells_mem (mk := .box b) (s := 0) hc
      rw [Nat.zero_add] at this
      rw [hl]
      exact List.mem_append.2 (.inl this)
    · exact List.mem_append.2 (.inr (ih h hl hc))
theorem labs_append (L R : List (Pl × Cell)) : labsOf (L ++ R) = labsOf L ++ labsOf R := by
  induction L with
  | nil => rfl
  | cons x L ih =>
    obtain ⟨s, c⟩ := x
    cases c <;> simp [labsOf, ih]
def F0 {P : Program} (w : World) (G : Gh) (A : Arg) (kl : List Nat) (hB : Base P w G.ow) : Fr P := ⟨w, G.ow, A.bx.map (fun p => (p.1, G.be p.1)), kl.map fun l => (l, G.hv l), hB⟩
theorem look_pair {α : Type} {f : Nat → α} : ∀ {l : List Nat} {k : Nat}, k ∈ l → look (l.map fun x => (x, f x)) k = some (f k) := by
  intro l
  induction l with
  | nil => intro k h; simp at h
  | cons x l ih =>
    intro k h
    simp only [List.map_cons, look]
    by_cases e : k = x
    · subst e; simp
    · have h0 : (k == x) = false := by simpa using e
      simp only [h0, Bool.false_eq_true, if_false]
      exact ih ((List.mem_cons.1 h).resolve_left e)
theorem leaf_ok {w0 : World} {G0 : Gh} {A : Arg} {fn : Func} {kl : List Nat} {hB : Base P w0 G0.ow} {S : Pst → Prop} (hA : ∀ g, G0.ow g = .free → g < w0.heap.size) (hAc : ∀ g, G0.ow g = .cur → g < w0.heap.size) (h : RG (F0 w0 G0 A kl hB) G σ a w) (hh : (leafOf P fn (A.bx.map (·.1)) kl σ).holds ⟨fun r bx hp => S ⟨r, hp, bx⟩, fun _ _ => False⟩) :
    ∃ v p Fs, (results fn a.tmps).run P w = .ok v w ∧ S p ∧ PstF w0 G0 w v p Fs := by
  unfold leafOf at hh
  split at hh
  · rename_i ps hps
    split at hh
    · rename_i qs bs hs h1 h2 h3
      generalize hcnd : (nodupB (labsOf (plParts 0 ps) ++ (labsOf (plBoxes σ (A.bx.map (·.1))) ++ kl)) && nodupB (A.bx.map (·.1))) = cnd at hh
      cases cnd with
      | false => exact hh.elim
      | true =>
        simp only [cond_true] at hh
        rw [Bool.and_eq_true] at hcnd
        obtain ⟨hn, hnb⟩ := hcnd
        obtain ⟨vs, hrun, hlen, hpv⟩ := resParts_ok (P := P) h fn.results.toList ps hps
        have hres := results_run fn a.tmps vs hrun
        obtain ⟨q1, q2⟩ := litParts_get h1
        obtain ⟨b1, b2⟩ := litBoxes_look h2
        have k2 := keptL_look h3
        let L : List (Pl × Cell) := plParts 0 ps ++ (plBoxes σ (A.bx.map (·.1)) ++ kl.map fun l => (Pl.keep l, Cell.ref l))
        have hlk : labsOf (kl.map fun l => (Pl.keep l, Cell.ref l)) = kl := by
          clear hn h3 k2 h hh L
          induction kl with
          | nil => rfl
          | cons l kl ih => simp [labsOf, ih]
        have hL : nodupB (labsOf L) = true := by
          simp only [L, labs_append, hlk]
          exact hn
        let Fs : Pl → Nat → Prop := fun s b => ∃ c m, (s, c) ∈ L ∧ cellLab c m ∧ G.ow b = .lab m
        have hF : PstF w0 G0 w (if h : vs.length = 1 then vs[0] else .tuple vs.toArray) ⟨mkRes qs, hs, bs⟩ Fs := by
          refine ⟨?_, ?_, ?_, ?_, ?_⟩
          · rintro s b ⟨c, m, _, _, hb⟩
            refine ⟨h.lt b (by simp [hb]), ⟨fun hf => ?_, fun hf => ?_⟩, fun b0 hb0 e => ?_⟩
            · have := (h.keep.free b (hA b hf) hf).2
              rw [hb] at this
              cases this
            · have := (h.keep.cur b (hAc b hf) hf).1
              rw [hb] at this
              cases this
            · obtain ⟨ds, hds⟩ := Option.isSome_iff_exists.1 hb0
              obtain ⟨m1, cs, ab, m2, _⟩ := b2 b0 ds hds
              have hbe : G.be b0 = G0.be b0 := by
                refine (h.fb b0 (G0.be b0) ?_).1
                have := look_pair (f := fun b => G0.be b) m1
                simpa [F0, List.map_map, Function.comp_def] using this
              have := (h.bx b0 cs m2).1
              rw [hbe, ← e, hb] at this
              cases this
          · rintro s s' b ⟨c, m, hc, hm, hb⟩ ⟨c', m', hc', hm', hb'⟩
            rw [hb] at hb'
            injection hb' with e
            subst e
            exact labs_dis hL hc hc' hm hm'
          · have part : ∀ (i : Nat) (q : Bool × List FC), qs[i]? = some q → ∃ u, vs[i]? = some u ∧ PartO w q.1 q.2 u (fun j => Fs (.res i j)) := by
              intro i q hq
              obtain ⟨p, ab, hp, e1, hl⟩ := q2 i q hq
              obtain ⟨u, hu, hpr⟩ := hpv i p hp
              refine ⟨u, hu, ?_⟩
              have := part_lit h hl hpr
              rw [e1] at this
              have fo : ∀ j b, (∃ c m, p.2[j]? = some c ∧ cellLab c m ∧ G.ow b = .lab m) → Fs (.res i j) b := by
                rintro j b ⟨c, m, hc, hm, hb⟩
                refine ⟨c, m, List.mem_append.2 (.inl ?_), hm, hb⟩
                have := plParts_mem (s := 0) hp hc
                rwa [Nat.zero_add] at this
              generalize q.1 = ag at this
              cases ag with
              | false => obtain ⟨c, e1, e2, e3⟩ := this; exact ⟨c, e1, e2.frame fun b hb _ => ⟨rfl, fo 0 b hb⟩, e3⟩
              | true => obtain ⟨us, e1, e2, e3⟩ := this; exact ⟨us, e1, e2, fun j c hc => let ⟨u, hu, ht, h1⟩ := e3 j c hc; ⟨u, hu, ht.frame fun b hb _ => ⟨rfl, fo j b hb⟩, h1⟩⟩
            match qs, q1, part with
            | [], q1, part =>
              have hl0 : vs.length = 0 := by rw [hlen, ← q1]; rfl
              rw [dif_neg (by omega)]
              exact ⟨vs.toArray, rfl, by simpa using hl0, by simp⟩
            | [q], q1, part =>
              have hv1 : vs.length = 1 := by rw [hlen, ← q1]; rfl
              obtain ⟨u, hu, hpo⟩ := part 0 q rfl
              obtain ⟨v0, rfl⟩ := List.length_eq_one_iff.1 hv1
              simp only [List.getElem?_cons_zero, Option.some.injEq] at hu
              subst hu
              exact hpo
            | q :: q' :: qs, q1, part =>
              have hl0 : vs.length = qs.length + 2 := by rw [hlen, ← q1]; rfl
              rw [dif_neg (by omega)]
              refine ⟨vs.toArray, rfl, by simpa using hl0, fun i p hp => ?_⟩
              obtain ⟨u, hu, hpo⟩ := part i p hp
              exact ⟨u, by simpa using hu, hpo⟩
          · intro l T hl
            obtain ⟨m1, m2⟩ := k2 l T hl
            have hv : G.hv l = G0.hv l := (h.fl l (G0.hv l) (look_pair (f := fun l => G0.hv l) m1)).1
            rw [← hv]
            exact (h.hp l T m2).frame fun b hb _ => ⟨rfl, _, l, List.mem_append.2 (.inr (List.mem_append.2 (.inr (List.mem_map.2 ⟨l, m1, rfl⟩)))), rfl, hb⟩
          · intro b ds hb
            obtain ⟨m1, cs, ab, m2, m3⟩ := b2 b ds hb
            have hbe : G.be b = G0.be b := by
              refine (h.fb b (G0.be b) ?_).1
              have := look_pair (f := fun b => G0.be b) m1
              simpa [F0, List.map_map, Function.comp_def] using this
            obtain ⟨_, r, e, n1, n2⟩ := h.bx b cs m2
            have hpr := part_lit h (v := .agg r) (agg := true) m3 ⟨r, rfl, n2⟩
            obtain ⟨r', er, e2, e3⟩ := hpr
            injection er with er
            subst er
            refine ⟨r, e, by rw [← hbe]; exact n1, e2, fun j c hc => ?_⟩
            obtain ⟨u, hu, ht, h1⟩ := e3 j c hc
            refine ⟨u, hu, ht.frame fun x hx _ => ⟨rfl, ?_⟩, h1⟩
            obtain ⟨c', m, hc', hm, hx⟩ := hx
            exact ⟨c', m, List.mem_append.2 (.inr (List.mem_append.2 (.inl (plBoxes_mem m1 m2 hc')))), hm, hx⟩
        exact ⟨_, _, Fs, hres, hh, hF⟩
    · exact hh.elim
  · exact hh.elim
theorem start_look (args : List TV) (t : Nat) : look (args.zipIdx.map (fun p => (p.2, p.1))) t = args[t]? := by
  have key : ∀ (args : List TV) (s t : Nat), look ((args.zipIdx s).map (fun p => (p.2, p.1))) t = if t < s then none else args[t - s]? := by
    intro args
    induction args with
    | nil => intro s t; simp [look]
    | cons x args ih =>
      intro s t
      simp only [List.zipIdx_cons, List.map_cons, look, ih, beq_iff_eq]
      by_cases h1 : t = s
      · subst h1; simp
      · by_cases h2 : t < s
        · simp [h1, h2, show t < s + 1 from by omega]
        · have : t - s = (t - (s + 1)) + 1 := by omega
          simp [h1, h2, show ¬ t < s + 1 from by omega, this]
  simpa using key args 0 t
def fnOut (P : Program) (E : Env) (L : LEnv) (kp kl : List Nat) (fn : Func) (A : Arg) : Out := run P E L kp (fn.body.getD .skip) (start fn.ntmps A kl) (endK P fn (A.bx.map (·.1)) kl)
theorem look_map_fst {α β : Type} {f : Nat → β} : ∀ {l : List (Nat × α)} {b : Nat} {β0 : β}, look (l.map fun p => (p.1, f p.1)) b = some β0 → f b = β0 ∧ (l.map (·.1)).contains b = true := by
  intro l
  induction l with
  | nil => intro b β0 h; simp [look] at h
  | cons p l ih =>
    intro b β0 h
    simp only [List.map_cons, look] at h
    split at h
    · rename_i e
      simp only [Option.some.injEq] at h
      have e' : b = p.1 := beq_iff_eq.1 e
      subst e'
      exact ⟨h, by simp⟩
    · obtain ⟨h1, h2⟩ := ih h
      exact ⟨h1, by simp only [List.map_cons, List.contains_cons, h2, Bool.or_true]⟩
/-- THE CONTRACT OUT OF THE RUN -/
theorem con_run {f : Nat} {fn : Func} {A : Arg} {c : Ctr} {L : LEnv} {kp kl : List Nat} (hE : EOk P E) (hf : P.funcs[f]? = some fn) (hb : fn.body.isSome = true) (hn : decide (A.tm.length ≤ fn.ntmps) = true)
    (hh : (fnOut P E L kp kl fn A).holds c.post) : Con P f A c.sat := by
  obtain ⟨code, hc⟩ := Option.isSome_iff_exists.1 hb
  intro w vs G hB hA
  have hn := of_decide_eq_true hn
  refine calls_of_wp hf hc ?_
  have h0 : RG (F0 w G A kl hB) G (start fn.ntmps A kl) { tmps := vs ++ Array.replicate (fn.ntmps - vs.size) undef, defers := [] } w := by
    refine ⟨?_, hA.bx, hA.hp, hA.lt, rfl, rfl, ⟨rfl, Nat.le_refl _⟩, Nat.le_refl _, ?_, ?_, ?_, ?_, rfl⟩
    · intro t tv hl
      simp only [start, start_look] at hl
      obtain ⟨v, hv, ht⟩ := hA.tm t tv hl
      have hlt : t < vs.size := (Array.getElem?_eq_some_iff.1 hv).1
      have : (vs ++ Array.replicate (fn.ntmps - vs.size) undef).getD t undef = v := by
        rw [Array.getD_eq_getD_getElem?, Array.getElem?_append_left hlt, hv]
        rfl
      rw [this]
      exact ht
    · exact ⟨fun g hg hfree => ⟨rfl, hfree⟩, fun g hg hcu => ⟨hcu, (hA.cr g hcu).same rfl⟩, hA.cr⟩
    · intro b β hl
      exact look_map_fst (f := fun b => G.be b) (l := A.bx) hl
    · intro l v hl
      have := mem_look hl
      simp only [F0, List.mem_map] at this
      obtain ⟨l', h1, h2⟩ := this
      injection h2 with e1 e2
      subst e1; subst e2
      exact ⟨rfl, by simpa [start] using h1⟩
    · have := hA.sz
      simp [start]; omega
  unfold fnOut at hh
  rw [hc] at hh
  refine wp_mono (run_ok hE code _ _ w _ ⟨_, h0⟩ hh) ?_
  rintro e a' w' ⟨ex, σ', he, ⟨G', h'⟩, hh'⟩
  have fin : (settle fn.results.toList σ' fun σ => settleBs (A.bx.map (·.1)) σ (leafOf P fn (A.bx.map (·.1)) kl)).holds c.post → a'.defers = [] ∧ ∃ v, (results fn a'.tmps).run P w' = .ok v w' ∧ ConPost w G c.sat (.returned v) w' := by
    intro hl
    obtain ⟨σ1, G1, h', hl⟩ := settle_ok _ _ _ _ h' hl
    obtain ⟨σ2, G2, h', hl⟩ := settleBs_ok _ _ _ _ h' hl
    have hfr : ∀ g, G.ow g = .free → g < w.heap.size := fun g hg => hA.lt g (by simp [hg])
    have hfc : ∀ g, G.ow g = .cur → g < w.heap.size := fun g hg => hA.lt g (by simp [hg])
    refine ⟨h'.df, ?_⟩
    have on : Onward w w' := ⟨h'.os, h'.tape, h'.output, h'.size⟩
    have fr : ∀ g, G.ow g = .free → w'.heap[g]? = w.heap[g]? := fun g hg => (h'.keep.free g (hfr g hg) hg).1
    have cu : ∀ g, G.ow g = .cur → CurStep w w' g := fun g hg => (h'.keep.cur g (hfc g hg) hg).2
    cases c with
    | det pre q =>
      obtain ⟨v, p, Fs, h1, h2, h3⟩ := leaf_ok (S := fun p => pstSame p q) hfr hfc h' hl
      exact ⟨v, h1, v, q, rfl, rfl, on, fr, cu, Fs, h3.le h2⟩
    | ex pre X ok q =>
      obtain ⟨v, p, Fs, h1, ⟨x, hx, h2⟩, h3⟩ := leaf_ok (S := fun p => ∃ x : X, ok x ∧ pstSame p (q x)) hfr hfc h' hl
      exact ⟨v, h1, v, q x, ⟨x, hx, rfl⟩, rfl, on, fr, cu, Fs, h3.le h2⟩
    | df pre X e q =>
      obtain ⟨v, p, Fs, h1, h2, h3⟩ := leaf_ok (S := fun p => pstSame p (q e)) hfr hfc h' hl
      exact ⟨v, h1, v, q e, rfl, rfl, on, fr, cu, Fs, h3.le h2⟩
  cases ex with
  | normal => obtain rfl := he; exact fin hh'
  | ret => obtain rfl := he; exact fin hh'
  | exit id => exact hh'.elim
theorem con_of {f : Nat} {fn : Func} {A : Arg} {c : Ctr} {L : LEnv} {kp kl : List Nat} {X : Out} (hE : EOk P E) (hf : P.funcs[f]? = some fn) (hb : fn.body.isSome = true) (hn : decide (A.tm.length ≤ fn.ntmps) = true)
    (hx : fnOut P E L kp kl fn A = X) (hh : X.holds c.post) : Con P f A c.sat := con_run hE hf hb hn (hx ▸ hh)
end
end Go.D
