/-
  Calls by contract.
-/
import Derived.Test.YtcgigcmleodjbaaVDo
namespace Go.D
set_option linter.unusedVariables false
def takePs : Nat → List (Bool × List FC) → List (Bool × List Cell) × List (Nat × Tree)
  | _, [] => ([], [])
  | l, p :: ps => ((p.1, takeC l p.2) :: (takePs (l + p.2.length) ps).1, (takePs (l + p.2.length) ps).2 ++ takeH l p.2)
def Res.take (l : Nat) : Res → TV × List (Nat × Tree)
  | .one a cs => (.v a (takeC l cs), takeH l cs)
  | .tup ps => (.tup (takePs l ps).1, (takePs l ps).2)
def lenPs : List (Bool × List FC) → Nat
  | [] => 0
  | p :: ps => p.2.length + lenPs ps
def Res.len : Res → Nat
  | .one _ cs => cs.length
  | .tup ps => lenPs ps
def mdIs : List Md → Nat → Bool
  | ms, j => match ms[j]? with
    | some .keep => true
    | _ => false
def keptOf (ms : List Md) : List (Nat × Option Nat × Tree) → List (Nat × Nat)
  | [] => []
  | (cl, some l, _) :: r => bif mdIs ms (cl / 64) then (cl, l) :: keptOf ms r else keptOf ms r
  | (_, none, _) :: r => keptOf ms r
def keptH (p : Pst) : List (Nat × Nat) → Option (List (Nat × Tree))
  | [] => some []
  | (cl, l) :: r => match look p.hp cl, keptH p r with
    | some T, some hs => some ((l, T) :: hs)
    | _, _ => none
def boxB (p : Pst) : List (Nat × Nat) → Option (List (Nat × Tree) × List (Nat × List Cell))
  | [] => some ([], [])
  | (cb, b) :: r => match look p.bx cb, boxB p r with
    | some ds, some (hs, bs) => bif decide (ds.length ≤ 64) then some (takeH (64 * b) ds ++ hs, (b, takeC (64 * b) ds) :: bs) else none
    | _, _ => none
def noneIn (fl : List Nat) (p : Nat → Bool) : Bool := fl.all fun m => !p m
def dstBase (o : Oper) (σ : St) : Nat := match o.dst with | some d => d | none => σ.nt
/-- the labels that a call may use anew -/
def ranges (d : Nat) (gb : List Nat) (m : Nat) : Bool := m / 64 == d || gb.contains (m / 64)
def dropped (σ : St) (g : Giv) (ks : List (Nat × Nat)) : St :=
  bif g.gl.isEmpty && g.gb.isEmpty then σ else
  let kl := ks.map (·.2)
  let gl := g.gl.filter fun l => !kl.contains l
  { σ with hp := σ.hp.filter (fun x => !(gl.contains x.1 || kl.contains x.1)), bx := σ.bx.filter fun x => !g.gb.contains x.1 }.zap gl.contains (fun m => gl.contains m || kl.contains m)
def afterCall (d : Nat) (σ : St) (ms : List Md) (g : Giv) (p : Pst) : Option (St × TV) :=
  let ks := keptOf ms g.gv
  match keptH p ks, boxB p g.bs with
  | some hk, some (hb, bs) =>
    let r := p.r.take (64 * d)
    let σ1 := dropped σ g ks
    let σ2 := bif hb.isEmpty && r.2.isEmpty then σ1 else σ1.zap (ranges d g.gb) (fun _ => false)
    bif (hb.isEmpty && r.2.isEmpty || noneIn σ.fl (ranges d g.gb)) && decide (p.r.len ≤ 64) && nodupB (ks.map (·.1)) && !g.gb.contains d && g.bs.all (fun e => (look σ.bx e.2).isSome) then
      some ({ σ2 with hp := r.2 ++ (hb ++ (hk ++ σ2.hp)), bx := bs ++ σ2.bx }, r.1)
    else none
  | _, _ => none
def callRest (o : Oper) (σ : St) (ms : List Md) (g : Giv) (K : St → Out) (p : Pst) : Out :=
  match afterCall (dstBase o σ) σ ms g p with
  | some (σ', x) => match o.dst with
    | some d => bif decide (d < σ.nt) then K (σ'.put d x) else .bad
    | none => K σ'
  | none => .bad
def callK (P : Program) (E : Env) (cls : Bool) (o : Oper) (f : Nat) (xs : List (List (Option Ty) × TV)) (σ : St) (K : St → Out) : Out :=
  match E.fn f, P.funcs[f]? with
  | some (ms, sp), some fn => bif fn.body.isSome && !(fn.name == "runtime.NumGoroutine") then (match lendArgs σ (xs.zipIdx.map fun x => ((ms[x.2]?).getD .lend, x.1.1, x.1.2)) with
    | some (p, A, g) => bif cls && !(g.gl.isEmpty && g.gb.isEmpty && o.dst.isSome) then .bad else (match sp A with
      | some (.det q r) => obs p (obs q (callRest o σ ms g K r))
      | some (.ex q X ok r) => obs p (obs q (.lp X True ok fun x => callRest o σ ms g K (r x)))
      | some (.df q X e r) => obs p (obs q (.lt X e fun x => callRest o σ ms g K (r x)))
      | none => .bad)
    | none => .bad) else .bad
  | _, _ => .bad
section
variable {P : Program} {E : Env} {F : Fr P} {G : Gh} {σ : St} {a : Act} {w : World} {o : Oper} {K : St → Out} {Q : Post} {Qx : Exit → Act → World → Prop}
theorem partO_vals {agg : Bool} {cs : List FC} {v : Value} {Fs : Nat → Nat → Prop} (h : PartO w agg cs v Fs) : ∃ us : List Value, us.length = cs.length ∧ (∀ (j : Nat) (c : FC) (u : Value), cs[j]? = some c → us[j]? = some u → TO w (fcC c) u (Fs j) ∧ u.oneCell' = true) ∧
    ∀ (G : Gh) (ds : List Cell), ds.length = cs.length → (∀ (j : Nat) (c : Cell) (u : Value), ds[j]? = some c → us[j]? = some u → CellR w G c u) → PartR w G agg ds v := by
  cases agg with
  | false =>
    obtain ⟨c, rfl, h1, h2⟩ := h
    refine ⟨[v], rfl, fun j c' u hc hu => ?_, fun G ds hl hd => ?_⟩
    · cases j with
      | zero => simp only [List.getElem?_cons_zero, Option.some.injEq] at hc hu; subst hc; subst hu; exact ⟨h1, h2⟩
      | succ j => simp at hc
    · obtain ⟨d, rfl⟩ := List.length_eq_one_iff.1 hl
      exact ⟨d, rfl, hd 0 d v rfl rfl⟩
  | true =>
    obtain ⟨vs, rfl, hs, h⟩ := h
    refine ⟨vs.toList, by simpa using hs, fun j c u hc hu => ?_, fun G ds hl hd => ⟨vs, rfl, by rw [hs, hl], fun j c hc => ?_⟩⟩
    · obtain ⟨u', hu', ht⟩ := h j c hc
      have : u = u' := by
        have h2 : vs.toList[j]? = some u' := by simpa using hu'
        rw [hu] at h2
        injection h2
      subst this
      exact ht
    · have hlt : j < vs.size := by rw [hs, ← hl]; exact (List.getElem?_eq_some_iff.1 hc).1
      exact ⟨vs[j], by simp [hlt], hd j c vs[j] hc (by simp [hlt])⟩
theorem takeC_refs : ∀ (cs : List FC) (l j : Nat) (c : Cell), (takeC l cs)[j]? = some c → (∀ m, c.refs m = true → l ≤ m ∧ m < l + cs.length) ∧ ∀ m, c.mems m = false := by
  intro cs
  induction cs with
  | nil => intro l j c h; simp [takeC] at h
  | cons d cs ih =>
    intro l j c h
    cases j with
    | zero =>
      cases d <;> simp only [takeC, List.getElem?_cons_zero, Option.some.injEq] at h <;> subst h <;> refine ⟨fun m hm => ?_, fun m => rfl⟩ <;> simp [Cell.refs] at hm
      subst hm
      simp
    | succ j =>
      have h' : (takeC (l + 1) cs)[j]? = some c := by cases d <;> simpa [takeC] using h
      obtain ⟨h1, h2⟩ := ih (l + 1) j c h'
      refine ⟨fun m hm => ?_, h2⟩
      have := h1 m hm
      simp only [List.length_cons]
      omega
theorem takePs_len : ∀ (ps : List (Bool × List FC)) (l : Nat), (takePs l ps).1.length = ps.length := by
  intro ps
  induction ps with
  | nil => intro l; rfl
  | cons p ps ih => intro l; simp [takePs, ih]
theorem takePs_ok : ∀ (ps : List (Bool × List FC)) (vs : List Value) (Fs : Nat → Nat → Nat → Prop) (G : Gh) (l : Nat) (σ : St), RG F G σ a w → ((takePs l ps).2 ≠ [] → Fresh σ l (lenPs ps)) → vs.length = ps.length →
    (∀ (i : Nat) (p : Bool × List FC) (u : Value), ps[i]? = some p → vs[i]? = some u → PartO w p.1 p.2 u (Fs i)) → (∀ i j b, Fs i j b → b < w.heap.size ∧ G.ow b = .gone) → (∀ i j i' j' b, Fs i j b → Fs i' j' b → i = i' ∧ j = j') →
    ∃ G', RG F G' { σ with hp := (takePs l ps).2 ++ σ.hp } a w ∧ (∀ (i : Nat) (p : Bool × List Cell) (u : Value), (takePs l ps).1[i]? = some p → vs[i]? = some u → PartR w G' p.1 p.2 u) ∧ Grow (fun b => ∃ i j, Fs i j b) (fun m => l ≤ m ∧ m < l + lenPs ps) G G' := by
  intro ps
  induction ps with
  | nil => intro vs Fs G l σ h _ _ _ _ _; exact ⟨G, h, by simp [takePs], Grow.refl _ _ _⟩
  | cons p ps ih =>
    intro vs Fs G l σ h hfr hlen hT hF hd
    cases vs with
    | nil => simp at hlen
    | cons v vs =>
      obtain ⟨us, u1, u2, u3⟩ := partO_vals (hT 0 p v rfl rfl)
      obtain ⟨G1, k1, k2, k3⟩ := take_ok p.2 us (Fs 0) G l σ h (fun hne m h1 h2 => hfr (by simp [takePs, hne]) m h1 (by simp only [lenPs]; omega)) u1 u2 (fun j b hb => hF 0 j b hb) (fun j j' b hb hb' => (hd 0 j 0 j' b hb hb').2)
      obtain ⟨G2, m1, m2, m3⟩ := ih vs (fun i => Fs (i + 1)) G1 (l + p.2.length) { σ with hp := takeH l p.2 ++ σ.hp } k1 (fun hne m h1 h2 => hfr (by simp [takePs, hne]) m (by omega) (by simp only [lenPs]; omega)) (by simpa using hlen)
        (fun i q u hq hu => hT (i + 1) q u (by simpa using hq) (by simpa using hu)) (fun i j b hb => ⟨(hF (i + 1) j b hb).1, k3.gone (hF (i + 1) j b hb).2 fun ⟨j', hb'⟩ => by have := (hd (i + 1) j 0 j' b hb hb').1; omega⟩)
        (fun i j i' j' b hb hb' => by have := hd (i + 1) j (i' + 1) j' b hb hb'; omega)
      refine ⟨G2, ?_, fun i q u hq hu => ?_, (k3.mono (fun b ⟨j, hj⟩ => ⟨0, j, hj⟩) (fun m hm => by simp only [lenPs]; omega)).trans (m3.mono (fun b ⟨i, j, hj⟩ => ⟨i + 1, j, hj⟩) (fun m hm => by simp only [lenPs]; omega))⟩
      · simpa only [takePs, List.append_assoc] using m1
      · cases i with
        | succ i => exact m2 i q u (by simpa [takePs] using hq) (by simpa using hu)
        | zero =>
          simp only [takePs, List.getElem?_cons_zero, Option.some.injEq] at hq hu
          subst hq
          subst hu
          refine u3 G2 _ (takeC_len _ _) fun j c u hc hu => ?_
          obtain ⟨fo, mo⟩ := m3.carry (w := w)
          obtain ⟨r1, r2⟩ := takeC_refs _ _ _ _ hc
          refine Cell.carry fo (fun m hm => ?_) (fun m hm => by rw [r2 m] at hm; cases hm) (k2 j c u hc hu)
          rcases m3.hv m with e | e
          · exact e
          · have := r1 m hm
            omega
theorem resTake_ok (r : Res) {v : Value} {Fs : Nat → Nat → Nat → Prop} (h : RG F G σ a w) (l : Nat) (hfr : (r.take l).2 ≠ [] → Fresh σ l r.len) (hr : ResR w r v Fs) (hF : ∀ i j b, Fs i j b → b < w.heap.size ∧ G.ow b = .gone) (hd : ∀ i j i' j' b, Fs i j b → Fs i' j' b → i = i' ∧ j = j') :
    ∃ G', RG F G' { σ with hp := (r.take l).2 ++ σ.hp } a w ∧ TVR w G' (r.take l).1 v ∧ Grow (fun b => ∃ i j, Fs i j b) (fun m => l ≤ m ∧ m < l + r.len) G G' := by
  cases r with
  | one agg cs =>
    obtain ⟨us, u1, u2, u3⟩ := partO_vals hr
    obtain ⟨G1, k1, k2, k3⟩ := take_ok cs us (Fs 0) G l σ h hfr u1 u2 (fun j b hb => hF 0 j b hb) (fun j j' b hb hb' => (hd 0 j 0 j' b hb hb').2)
    exact ⟨G1, k1, u3 G1 _ (takeC_len _ _) k2, k3.mono (fun b ⟨j, hj⟩ => ⟨0, j, hj⟩) (fun m hm => hm)⟩
  | tup ps =>
    obtain ⟨vs, rfl, hs, hp⟩ := hr
    obtain ⟨G1, k1, k2, k3⟩ := takePs_ok ps vs.toList Fs G l σ h hfr (by simpa using hs) (fun i p u hpi hu => by
      obtain ⟨u', hu', ht⟩ := hp i p hpi
      have : u = u' := by
        have h2 : vs.toList[i]? = some u' := by simpa using hu'
        rw [hu] at h2
        injection h2
      subst this
      exact ht) hF hd
    refine ⟨G1, k1, ⟨vs, rfl, by rw [hs, takePs_len], fun i p hpi => ?_⟩, k3⟩
    have hlt : i < vs.size := by rw [hs, ← takePs_len ps l]; exact (List.getElem?_eq_some_iff.1 hpi).1
    exact ⟨vs[i], by simp [hlt], k2 i p vs[i] hpi (by simp [hlt])⟩
end
end Go.D
