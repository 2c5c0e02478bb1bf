/-
  Places: the state told anew by its places.
-/
import Derived.Test.YtcgigcmleodjbaaVDw
namespace Go.D
set_option linter.unusedVariables false
section
variable {P : Program} {E : Env} {F : Fr P} {G G1 G' : Gh} {σ σ' σb : St} {a a' : Act} {w w' : World} {o : Oper} {K : St → Out} {Q : Post} {Qx : Exit → Act → World → Prop}
theorem RG.consTm (h : RG F G σ a w) {p : Nat} {x : TV} (hx : TVR w G x (a.tmps.getD p undef)) : RG F G { σ with tm := (p, x) :: σ.tm } a w := by
  refine ⟨?_, h.bx, h.hp, h.lt, h.os, h.tape, h.output, h.size, h.keep, h.fb, h.fl, h.nt, h.df⟩
  intro t tv hl
  simp only [look] at hl
  split at hl
  · rename_i e
    simp only [Option.some.injEq] at hl
    subst hl
    rw [beq_iff_eq.1 e]
    exact hx
  · exact h.tm t tv hl
theorem RG.consBx (h : RG F G σ a w) {b : Nat} {cs : List Cell} {r : Array Value} {e : TypeId} (h1 : G.ow (G.be b) = .box b) (h2 : w.heap[G.be b]? = some (.cells r e (0, 0))) (h3 : CellsR w G cs r) : RG F G { σ with bx := (b, cs) :: σ.bx } a w := by
  refine ⟨h.tm, ?_, h.hp, h.lt, h.os, h.tape, h.output, h.size, h.keep, h.fb, h.fl, h.nt, h.df⟩
  intro t cs' hl
  simp only [look] at hl
  split at hl
  · rename_i e'
    simp only [Option.some.injEq] at hl
    subst hl
    rw [beq_iff_eq.1 e']
    exact ⟨h1, r, e, h2, h3⟩
  · exact h.bx t cs' hl
/-- what is known of a place that is grabbed -/
structure PlaceFact (G : Gh) (a : Act) (w : World) (v : Vr) (x : v.sh.X) (ab : List Nat) (us : List Value) (Fs : Nat → Nat → Prop) : Prop where
  len : us.length = (v.sh.fc x).length
  at_ : v.At G a w us
  own : v.own = true → ∀ (j : Nat) (c : FC) (u : Value), (v.sh.fc x)[j]? = some c → us[j]? = some u → TO w (fcC c) u (Fs j) ∧ u.oneCell' = true
  bor : v.own = false → ∀ (j : Nat) (c : FC) (u : Value), (v.sh.fc x)[j]? = some c → us[j]? = some u → TR w (src G none) (fcC c) u
  lab : ∀ j b, Fs j b → ∃ m, m ∈ ab ∧ G.ow b = .lab m
  dis : ∀ j j' b, Fs j b → Fs j' b → j = j'
theorem grab_fact (h : RG F G σ a w) {v : Vr} {x : v.sh.X} {ab : List Nat} (hT : v.isT = false) (hg : v.grab σ = some (x, ab)) : ∃ us Fs, PlaceFact G a w v x ab us Fs := by
  unfold Vr.grab at hg
  rw [hT] at hg
  dsimp only at hg
  split at hg
  · rename_i cs hcs
    obtain ⟨us, u1, u2, u3⟩ := cells_at h hcs
    split at hg
    · rename_i how
      split at hg
      · rename_i ds ab' hl
        split at hg
        · rename_i y hd
          simp only [Option.some.injEq, Prod.mk.injEq] at hg
          obtain ⟨rfl, rfl⟩ := hg
          obtain ⟨l1, l2, l3, l4⟩ := litC_ok h cs ds ab' hl
          obtain ⟨k1, k2⟩ := (Sh.dec_ok hd).get
          refine ⟨us, fun j b => ∃ c m, cs[j]? = some c ∧ cellLab c m ∧ G.ow b = .lab m, by rw [u1, ← k1, l1], u2, fun _ j c u hc hu => ?_, (fun hf => by rw [how] at hf; cases hf), ?_, ?_⟩
          · have hlt : j < cs.length := by rw [← u1]; exact (List.getElem?_eq_some_iff.1 hu).1
            have hcj := List.getElem?_eq_getElem hlt
            have hr := u3 j _ u hcj hu
            have ht := l2 j _ u hcj hr
            have hle := (k2 j).le
            have hd' : (v.sh.fc y).getD j .nl = c := by simp [List.getD, hc]
            rw [hd'] at hle
            exact ⟨(TO.le hle ht).frame fun b hb _ => ⟨rfl, let ⟨m, h1, h2⟩ := hb; ⟨_, m, hcj, h1, h2⟩⟩, hr.one⟩
          · rintro j b ⟨c, m, hc, hm, hb⟩
            exact ⟨m, l3 j c m hc hm, hb⟩
          · rintro j j' b ⟨c, m, hc, hm, hb⟩ ⟨c', m', hc', hm', hb'⟩
            rw [hb] at hb'
            injection hb' with e
            subst e
            exact l4 j j' c c' m hc hc' hm hm'
        · cases hg
      · cases hg
    · rename_i how
      split at hg
      · rename_i ds hl
        split at hg
        · rename_i y hd
          simp only [Option.some.injEq, Prod.mk.injEq] at hg
          obtain ⟨rfl, rfl⟩ := hg
          obtain ⟨l1, l2⟩ := cellCons'_ok (w := w) (G := G) cs ds hl
          obtain ⟨k1, k2⟩ := (Sh.dec_ok hd).get
          refine ⟨us, fun _ _ => False, by rw [u1, ← k1, l1], u2, (fun hf => by rw [how] at hf; cases hf), fun _ j c u hc hu => ?_, (fun j b hb => hb.elim), fun j j' b hb => hb.elim⟩
          have hlt : j < cs.length := by rw [← u1]; exact (List.getElem?_eq_some_iff.1 hu).1
          have hcj := List.getElem?_eq_getElem hlt
          have ht := l2 j _ u hcj (u3 j _ u hcj hu)
          have hle := (k2 j).le
          have hd' : (v.sh.fc y).getD j .nl = c := by simp [List.getD, hc]
          rw [hd'] at hle
          exact TR.le hle ht
        · cases hg
      · cases hg
  · cases hg
theorem nodupB_append {l r : List Nat} (h : nodupB (l ++ r) = true) : nodupB l = true ∧ nodupB r = true ∧ ∀ m, m ∈ l → m ∉ r := by
  induction l with
  | nil => exact ⟨rfl, h, by simp⟩
  | cons x l ih =>
    simp only [List.cons_append, nodupB, Bool.and_eq_true, Bool.not_eq_true', List.contains_eq_mem, decide_eq_false_iff_not, List.mem_append, not_or] at h ⊢
    obtain ⟨h1, h2, h3⟩ := ih h.2
    refine ⟨⟨h.1.1, h1⟩, h2, fun m hm => ?_⟩
    rcases List.mem_cons.1 hm with rfl | hm
    · exact h.1.2
    · exact h3 m hm
theorem toCell_ref {c : FC} {m : Nat} : (toCell none c).refs m = false := by cases c <;> rfl
theorem to_refs {v : Vr} {x : v.sh.X} {l : Nat} (hl : l / 64 ≠ v.q) : (v.to x).any (·.refs l) = false := by
  cases hq : (v.to x).any (·.refs l) with
  | false => rfl
  | true =>
    exfalso
    obtain ⟨c, hc, hr⟩ := List.any_eq_true.1 hq
    obtain ⟨j, hj⟩ := List.mem_iff_getElem?.1 hc
    unfold Vr.to at hj
    cases hown : v.own with
    | true =>
      simp only [hown, cond_true] at hj
      have h1 := (takeC_refs _ _ _ _ hj).1 l hr
      have h2 := Sh.fc_len v.sh x
      omega
    | false =>
      simp only [hown, cond_false, List.getElem?_map] at hj
      cases hq' : (v.sh.fc x)[j]? with
      | none => simp [hq'] at hj
      | some d =>
        simp only [hq', Option.map_some, Option.some.injEq] at hj
        subst hj
        rw [toCell_ref] at hr
        cases hr
theorem set_noRef {v : Vr} {x : v.sh.X} {l : Nat} (h : NoRef σ l) (hl : v.isT = true ∨ l / 64 ≠ v.q) : NoRef (v.set x σ) l := by
  obtain ⟨bx, p, own, sh⟩ := v
  cases bx with
  | t => exact h
  | b =>
    have hl' : l / 64 ≠ p + 1000000 := hl.resolve_left (by simp [Vr.isT])
    have hr := to_refs (v := ⟨.b, p, own, sh⟩) (x := x) hl'
    refine ⟨h.1, fun b cs hb => ?_⟩
    simp only [Vr.set, look] at hb
    split at hb
    · simp only [Option.some.injEq] at hb; subst hb; exact hr
    · exact h.2 b cs hb
  | s =>
    have hl' : l / 64 ≠ p + 1000000 := hl.resolve_left (by simp [Vr.isT])
    have hr := to_refs (v := ⟨.s, p, own, sh⟩) (x := x) hl'
    refine ⟨fun t tv ht => ?_, h.2⟩
    simp only [Vr.set, look] at ht
    split at ht
    · simp only [Option.some.injEq] at ht; subst ht; exact hr
    · exact h.1 t tv ht
theorem set_fl {v : Vr} {x : v.sh.X} : (v.set x σ).fl = σ.fl := by
  obtain ⟨bx, p, own, sh⟩ := v
  cases bx <;> rfl
theorem RG.consHp (h : RG F G σ a w) {l : Nat} {T : Tree} (hT : TO w (.sl T.k T.n T.f) (G.hv l) (fun g => G.ow g = .lab l)) : RG F G { σ with hp := (l, T) :: σ.hp } a w := by
  refine ⟨h.tm, h.bx, ?_, h.lt, h.os, h.tape, h.output, h.size, h.keep, h.fb, h.fl, h.nt, h.df⟩
  intro m T' hl
  simp only [look] at hl
  split at hl
  · rename_i e
    simp only [Option.some.injEq] at hl
    subst hl
    rw [beq_iff_eq.1 e]
    exact hT
  · exact h.hp m T' hl
theorem head_ok (h : RG F G σ a w) (base : St) (hb : RG F G1 base a w) (hs : List Nat) (hn : ∀ l, l ∉ hs → NoRef base l) (hbe : G1.be = G.be) (hhv : G1.hv = G.hv) (AB : List Nat) (hab : ∀ b m, G.ow b = .lab m → m ∈ AB → G1.ow b = .gone) (hfr : ∀ b, G.ow b = .free → G1.ow b = .free) (hbo : ∀ b m, G.ow b = .box m → G1.ow b = .box m)
    (hlb : ∀ b m, G.ow b = .lab m → m ∉ AB → G1.ow b = .lab m) :
    ∀ (vs : List Vr) (x : Xs vs) (ab : List Nat), grabAll σ vs = some (x, ab) → (∀ m, m ∈ ab → m ∈ AB) → nodupB ab = true → nodupB (pOf vs) = true → (∀ p ∈ pOf vs, ∀ m, m / 64 = p → m ∉ base.fl ∧ m ∉ hs) → (∀ l ∈ hOf vs, l / 64 ∉ pOf vs ∧ l ∉ AB) →
      ∃ G', RG F G' (headSt base vs x) a w ∧ Grow (fun b => ∃ m, m ∈ ab ∧ G.ow b = .lab m) (fun l => l / 64 ∈ pOf vs) G1 G' ∧ (∀ l, l ∉ hs → l / 64 ∉ pOf vs → NoRef (headSt base vs x) l) ∧ (headSt base vs x).fl = base.fl := by
  intro vs
  induction vs with
  | nil => intro x ab _ _ _ _ _ _; exact ⟨G1, hb, Grow.refl _ _ _, fun l hl _ => hn l hl, rfl⟩
  | cons v vs ih =>
    intro x ab hg hsub hnd hps hfl hht
    simp only [grabAll] at hg
    split at hg
    · rename_i y abv xs abt hg1 hg2
      simp only [Option.some.injEq, Prod.mk.injEq] at hg
      obtain ⟨rfl, rfl⟩ := hg
      obtain ⟨nd1, nd2, nd3⟩ := nodupB_append hnd
      cases hvT : v.isT with
      | true =>
        have hpo : pOf (v :: vs) = pOf vs := by simp [pOf, hvT]
        have hho : hOf (v :: vs) = v.p :: hOf vs := by simp [hOf, hvT]
        rw [hpo] at hps hfl hht
        rw [hho] at hht
        obtain ⟨hl1, hl2⟩ := hht v.p (by simp)
        obtain ⟨G2, k1, k2, k3, k4⟩ := ih xs abt hg2 (fun m hm => hsub m (List.mem_append.2 (.inr hm))) nd2 hps hfl (fun l hl => hht l (by simp [hl]))
        have hgr := hg1
        unfold Vr.grab at hgr
        rw [hvT] at hgr
        dsimp only at hgr
        split at hgr
        · rename_i T hT
          split at hgr
          · rename_i y' hy
            simp only [Option.some.injEq, Prod.mk.injEq] at hgr
            obtain ⟨rfl, rfl⟩ := hgr
            have hTT := Sh.tree_ok hy
            have same : ∀ g, G.ow g = .lab v.p → G2.ow g = .lab v.p := fun g hg => by
              have h1 := hlb g v.p hg hl2
              rw [k2.same (by rw [h1]; simp), h1]
            have hhv2 : G2.hv v.p = G.hv v.p := by
              rcases k2.hv v.p with e | e
              · rw [e, hhv]
              · exact absurd e hl1
            have main := k1.consHp (l := v.p) (T := v.sh.toTree y') (by
              rw [hTT, hhv2]
              exact (h.hp v.p T hT).frame fun g hg _ => ⟨rfl, same g hg⟩)
            have hset : headSt base (v :: vs) (y', xs) = { headSt base vs xs with hp := (v.p, v.sh.toTree y') :: (headSt base vs xs).hp } := by
              obtain ⟨kk, p, own, sh⟩ := v
              cases kk <;> simp [Vr.isT] at hvT
              rfl
            rw [hset, hpo]
            exact ⟨G2, main, k2, fun l h1 h2 => k3 l h1 h2, k4⟩
          · cases hgr
        · cases hgr
      | false =>
      have hpo : pOf (v :: vs) = v.q :: pOf vs := by simp [pOf, hvT]
      have hho : hOf (v :: vs) = hOf vs := by simp [hOf, hvT]
      rw [hpo] at hps hfl hht
      rw [hho] at hht
      rw [hpo]
      simp only [nodupB, Bool.and_eq_true, Bool.not_eq_true', List.contains_eq_mem, decide_eq_false_iff_not] at hps
      obtain ⟨G2, k1, k2, k3, k4⟩ := ih xs abt hg2 (fun m hm => hsub m (List.mem_append.2 (.inr hm))) nd2 hps.2 (fun p hp => hfl p (by simp [hp])) (fun l hl => ⟨fun e => (hht l hl).1 (by simp [e]), (hht l hl).2⟩)
      obtain ⟨us, Fs, pf⟩ := grab_fact h hvT hg1
      have hgone : ∀ j b, Fs j b → b < w.heap.size ∧ G2.ow b = .gone := by
        intro j b hb'
        obtain ⟨m, hm, hm2⟩ := pf.lab j b hb'
        refine ⟨h.lt b (by simp [hm2]), k2.gone (hab b m hm2 (hsub m (List.mem_append.2 (.inl hm)))) ?_⟩
        rintro ⟨m', hm', hm3⟩
        rw [hm2] at hm3
        injection hm3 with e
        subst e
        exact nd3 m hm hm'
      have hnr : ∀ l, l / 64 = v.q → NoRef (headSt base vs xs) l := fun l hl => k3 l (hfl v.q (by simp) l hl).2 (by rw [hl]; exact hps.1)
      -- the place's memory under its own labels
      have mem : ∃ G3, RG F G3 { headSt base vs xs with hp := (bif v.own then takeH (64 * v.q) (v.sh.fc y) else []) ++ (headSt base vs xs).hp } a w ∧ (∀ (j : Nat) (c : Cell) (u : Value), (v.to y)[j]? = some c → us[j]? = some u → CellR w G3 c u) ∧ (v.to y).length = us.length ∧
          Grow (fun b => ∃ j, Fs j b) (fun l => l / 64 = v.q) G2 G3 := by
        cases hown : v.own with
        | true =>
          obtain ⟨G3, m1, m2, m3⟩ := take_ok (v.sh.fc y) us Fs G2 (64 * v.q) (headSt base vs xs) k1 (fun _ m h1 h2 => by
              have h3 := Sh.fc_len v.sh y
              have h4 : m / 64 = v.q := by omega
              exact ⟨by rw [k4]; exact (hfl v.q (by simp) m h4).1, hnr m h4⟩) pf.len (pf.own hown) hgone pf.dis
          refine ⟨G3, m1, ?_, ?_, m3.mono (fun _ h => h) fun m hm => by have h3 := Sh.fc_len v.sh y; omega⟩
          · simpa [Vr.to, hown] using m2
          · simp [Vr.to, hown, takeC_len, pf.len]
        | false =>
          refine ⟨G2, by simpa using k1, fun j c u hc hu => ?_, by simp [Vr.to, hown, pf.len], Grow.refl _ _ _⟩
          simp only [Vr.to, hown, cond_false, List.getElem?_map] at hc
          cases hq : (v.sh.fc y)[j]? with
          | none => simp [hq] at hc
          | some d =>
            simp only [hq, Option.map_some, Option.some.injEq] at hc
            subst hc
            refine toCell_ok ((pf.bor hown j d u hq hu).frame fun g hg _ => ⟨rfl, ?_⟩)
            have hg' : G.ow g = .free := hg
            show G2.ow g = .free
            have h1 := hfr g hg'
            rw [k2.same (by rw [h1]; simp), h1]
      obtain ⟨G3, m1, m2, m3, m4⟩ := mem
      have gr : Grow (fun b => ∃ m, m ∈ abv ++ abt ∧ G.ow b = .lab m) (fun l => l / 64 ∈ v.q :: pOf vs) G1 G3 := by
        refine Grow.trans (k2.mono (fun b ⟨m, hm, hb'⟩ => ⟨m, List.mem_append.2 (.inr hm), hb'⟩) fun l hl => by simp [hl]) (m4.mono (fun b ⟨j, hj⟩ => ?_) fun l hl => by simp [hl])
        obtain ⟨m, hm, hm2⟩ := pf.lab j b hj
        exact ⟨m, List.mem_append.2 (.inl hm), hm2⟩
      refine ⟨G3, ?_, gr, fun l hl0 hl => ?_, by simp only [headSt]; rw [set_fl]; exact k4⟩
      · obtain ⟨bx, p, own, sh⟩ := v
        have hat := pf.at_
        cases bx with
        | t => simp [Vr.isT] at hvT
        | b =>
          obtain ⟨q1, r, e, q2, q3⟩ := hat
          have hbe3 : G3.be = G.be := (m4.be.trans k2.be).trans hbe
          refine m1.consBx (b := p) (r := r) (e := e) ?_ (by rw [hbe3]; exact q2) ⟨?_, fun j c hc => ?_⟩
          · rw [hbe3]
            have h1 := hbo _ _ q1
            rw [gr.same (by rw [h1]; simp), h1]
          · rw [m3, ← q3]; simp
          · have hlt : j < us.length := by rw [← m3]; exact (List.getElem?_eq_some_iff.1 hc).1
            have hlt' : j < r.size := by rw [← q3] at hlt; simpa using hlt
            refine ⟨r[j], by simp [hlt'], m2 j c _ hc ?_⟩
            rw [← q3]
            simp [hlt']
        | s => exact m1.consTm (p := p) (hat G3 w _ m3 m2)
      · simp only [List.mem_cons, not_or] at hl
        exact set_noRef (k3 l hl0 hl.2) (.inr hl.1)
    · cases hg
/-- THE STATE TOLD ANEW -/
theorem grab_ok (h : RG F G σ a w) {vs : List Vr} {x : Xs vs} {ab : List Nat} (hg : grabAll σ vs = some (x, ab)) (hp : placesOk σ vs ab = true) (base : St) (h1 : base.bx = []) (h2 : base.hp = []) (h3 : base.fb = σ.fb) (h4 : base.fl = σ.fl) (h5 : base.nt = σ.nt)
    (htm : ∀ t tv, look base.tm t = some tv → tv.memfree (hOf vs) = true ∧ TVR w G tv (a.tmps.getD t undef)) : ∃ G', RG F G' (headSt base vs x) a w := by
  unfold placesOk at hp
  simp only [Bool.and_eq_true] at hp
  obtain ⟨⟨⟨hp1, hp2⟩, hp3⟩, hp4⟩ := hp
  rw [List.all_eq_true] at hp4
  have hht : ∀ l ∈ hOf vs, l / 64 ∉ pOf vs ∧ l ∉ ab := fun l hl => by
    have := hp4 l hl
    simp only [Bool.and_eq_true, Bool.not_eq_true', List.contains_eq_mem, decide_eq_false_iff_not] at this
    exact this
  obtain ⟨G1, d1, d2, d3, d4, d5, d6, d7, d8, d9, hfr, hlb', hbo', hcu⟩ := h.drop ab [] []
  have hbo : ∀ b m, G.ow b = .box m → G1.ow b = .box m := fun b m hb => hbo' b m hb (by simp)
  have hb : RG F G1 base a w := by
    refine ⟨fun t tv hl => ?_, by simp [h1, look], by simp [h2, look], d1.lt, d1.os, d1.tape, d1.output, d1.size, d1.keep, fun b β hb => by rw [h3]; exact d1.fb b β hb, fun l v hl => by rw [h4]; exact d1.fl l v hl, by rw [h5]; exact d1.nt, d1.df⟩
    obtain ⟨q1, q2⟩ := htm t tv hl
    obtain ⟨m1, m2⟩ := memfree_tv q1
    exact TV.carry ⟨fun g hg => ⟨rfl, hfr g hg⟩, hcu⟩ (fun m hm => by rw [d3]) (fun m hm => by rw [m2 m] at hm; cases hm) (fun b _ => by rw [d2]) q2
  have hn : ∀ l, l ∉ hOf vs → NoRef base l := fun l hl => ⟨fun t tv ht => by
    cases hr : tv.refs l with
    | false => rfl
    | true => exact absurd ((memfree_tv (htm t tv ht).1).1 l hr) hl, by simp [h1, look]⟩
  obtain ⟨G', k1, _⟩ := head_ok h base hb (hOf vs) hn d2 d3 ab (fun b m hb hm => d5 b m hb (.inl hm)) hfr hbo (fun b m hb hm => hlb' b m hb hm (by simp)) vs x ab hg (fun _ h => h) hp1 hp2 (fun p hp m hm => by
    refine ⟨fun hmem => ?_, fun hmem => (hht m hmem).1 (by rw [hm]; exact hp)⟩
    rw [h4] at hmem
    unfold noneIn at hp3
    rw [List.all_eq_true] at hp3
    have := hp3 m hmem
    simp only [Bool.not_eq_true', List.contains_eq_mem, decide_eq_false_iff_not] at this
    exact this (by rw [hm]; exact hp)) hht
  exact ⟨G', k1⟩
end
end Go.D
