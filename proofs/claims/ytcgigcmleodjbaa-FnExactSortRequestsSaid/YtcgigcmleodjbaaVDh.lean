/-
  The evaluator of operations, fourth part: slices: cut, append, make.
-/
import Derived.Test.YtcgigcmleodjbaaVDg
namespace Go.D
set_option linter.unusedVariables false
section
variable {P : Program} {F : Fr P} {G : Gh} {σ : St} {a : Act} {w : World} {o : Oper} {K : St → Out} {Q : Post} {Qx : Exit → Act → World → Prop}
/-- an optional bound -/
def optInt (σ : St) : Option Operand → Option (Option Int)
  | none => some none
  | some x => match (σ.eval x).scal with
    | some (.int _ n) => some (some n)
    | _ => none
theorem optInt_ok {x : Option Operand} {n : Option Int} (h : RG F G σ a w) (hx : optInt σ x = some n) : (x = none ∧ n = none) ∨ ∃ y k z, x = some y ∧ n = some z ∧ a.eval y = .int k z := by
  unfold optInt at hx
  split at hx
  · simp only [Option.some.injEq] at hx; exact .inl ⟨rfl, hx.symm⟩
  · rename_i y
    split at hx
    · rename_i k z hz
      simp only [Option.some.injEq] at hx
      exact .inr ⟨y, k, z, rfl, hx.symm, (scal_ok (eval_ok h y) hz).1⟩
    · simp at hx
def bnd (lo hi : Option Int) (n : Nat) : Prop × Nat × Nat :=
  match lo, hi with
  | none, none => (True, 0, n)
  | some l, none => (0 ≤ l ∧ l ≤ n, l.toNat, n)
  | none, some h => (0 ≤ h ∧ h ≤ n, 0, h.toNat)
  | some l, some h => (0 ≤ l ∧ l ≤ h ∧ h ≤ n, l.toNat, h.toNat)
theorem bnd_le {lo hi : Option Int} {n : Nat} (h : (bnd lo hi n).1) : (bnd lo hi n).2.1 ≤ (bnd lo hi n).2.2 ∧ (bnd lo hi n).2.2 ≤ n := by
  unfold bnd at *
  split <;> simp only at h ⊢ <;> omega
/-- bounds at a window of n, which may be widened up to N -/
def bnd2 (lo hi : Option Int) (n N : Nat) : Prop × Nat × Nat :=
  match lo, hi with
  | none, none => (True, 0, n)
  | some l, none => (0 ≤ l ∧ l ≤ n, l.toNat, n)
  | none, some h => (0 ≤ h ∧ h ≤ N, 0, h.toNat)
  | some l, some h => (0 ≤ l ∧ l ≤ h ∧ h ≤ N, l.toNat, h.toNat)
theorem bnd2_le {lo hi : Option Int} {n N M : Nat} (h : (bnd2 lo hi n N).1) (h1 : n ≤ M) (h2 : N ≤ M) : (bnd2 lo hi n N).2.1 ≤ (bnd2 lo hi n N).2.2 ∧ (bnd2 lo hi n N).2.2 ≤ M := by
  unfold bnd2 at *
  split <;> simp only at h ⊢ <;> omega
theorem run_bnd2 {lo hi : Option Operand} {l hh : Option Int} {n N cap : Nat} {b : Bool} (h : RG F G σ a w) (hl : optInt σ lo = some l) (hr : optInt σ hi = some hh) (hb : (bnd2 l hh n N).1) (hc : n ≤ cap) (hN : N ≤ cap) :
    (Instr.sliceBounds b n cap (lo.map a.eval) (hi.map a.eval) none).run P w = .ok ((bnd2 l hh n N).2.1, (bnd2 l hh n N).2.2, cap) w := by
  rcases optInt_ok h hl with ⟨rfl, rfl⟩ | ⟨y1, k1, z1, rfl, rfl, e1⟩ <;> rcases optInt_ok h hr with ⟨rfl, rfl⟩ | ⟨y2, k2, z2, rfl, rfl, e2⟩ <;> simp only [bnd2] at hb ⊢
  · simp [Instr.sliceBounds]
  · have h1 : z2 ≤ (cap : Int) := by omega
    simp [Instr.sliceBounds, Instr.sliceBound, asIntOf, e2, hb.1, h1]
  · simp [Instr.sliceBounds, Instr.sliceBound, asIntOf, e1, hb.1, hb.2]
  · have h1 : z2 ≤ (cap : Int) := by omega
    have h2 : 0 ≤ z2 := by omega
    have h3 : z1 ≤ max z2 0 := by omega
    simp [Instr.sliceBounds, Instr.sliceBound, asIntOf, e1, e2, hb.1, h1, h2, h3]
/-- three bounds -/
theorem run_bnd3 {x1 x2 x3 : Operand} {z1 z2 z3 : Int} {k1 k2 k3 : IntKind} {n cap : Nat} (e1 : a.eval x1 = .int k1 z1) (e2 : a.eval x2 = .int k2 z2) (e3 : a.eval x3 = .int k3 z3) (hb : 0 ≤ z1 ∧ z1 ≤ z2 ∧ z2 ≤ z3 ∧ z3 ≤ n) (hc : n ≤ cap) :
    (Instr.sliceBounds true n cap (some (a.eval x1)) (some (a.eval x2)) (some (a.eval x3))).run P w = .ok (z1.toNat, z2.toNat, z3.toNat) w := by
  have h1 : z3 ≤ (cap : Int) := by omega
  have h2 : 0 ≤ z3 := by omega
  have h3 : 0 ≤ z2 := by omega
  have h4 : z2 ≤ max z3 0 := by omega
  have h5 : z1 ≤ max z2 0 := by omega
  simp [Instr.sliceBounds, Instr.sliceBound, asIntOf, e1, e2, e3, hb.1, h1, h2, h3, h4, h5]
theorem run_bnd {lo hi : Option Operand} {l hh : Option Int} {n cap : Nat} {b : Bool} (h : RG F G σ a w) (hl : optInt σ lo = some l) (hr : optInt σ hi = some hh) (hb : (bnd l hh n).1) (hc : n ≤ cap) :
    (Instr.sliceBounds b n cap (lo.map a.eval) (hi.map a.eval) none).run P w = .ok ((bnd l hh n).2.1, (bnd l hh n).2.2, cap) w := by
  rcases optInt_ok h hl with ⟨rfl, rfl⟩ | ⟨y1, k1, z1, rfl, rfl, e1⟩ <;> rcases optInt_ok h hr with ⟨rfl, rfl⟩ | ⟨y2, k2, z2, rfl, rfl, e2⟩ <;> simp only [bnd] at hb ⊢
  · simp [Instr.sliceBounds]
  · have h1 : z2 ≤ (cap : Int) := by omega
    simp [Instr.sliceBounds, Instr.sliceBound, asIntOf, e2, hb.1, h1]
  · simp [Instr.sliceBounds, Instr.sliceBound, asIntOf, e1, hb.1, hb.2]
  · have h1 : z2 ≤ (cap : Int) := by omega
    have h2 : 0 ≤ z2 := by omega
    have h3 : z1 ≤ max z2 0 := by omega
    simp [Instr.sliceBounds, Instr.sliceBound, asIntOf, e1, e2, hb.1, h1, h2, h3]
def opSlice (P : Program) (o : Oper) (T : TypeId) (x : Operand) (lo hi mx : Option Operand) (σ : St) (K : St → Out) : Out :=
  match mx, optInt σ lo, optInt σ hi with
  | some x3, some (some l), some (some h) => match P.underlying T, σ.eval x, (σ.eval x3).scal with
    | some (.slice e), .v false [.ref m], some (.int _ z) => match look σ.hp m, P.info? e with
      | some t, some ie => .ob (0 ≤ l ∧ l ≤ h ∧ h ≤ z ∧ z ≤ t.n) (ret σ o .dead K)
      | _, _ => .bad
    | _, _, _ => .bad
  | none, some l, some h => match P.underlying T, σ.eval x with
    | some .string, .v false [.sc (.string s)] => .ob (bnd l h s.size).1 (ret σ o (.v false [.sc (.string (s.extract (bnd l h s.size).2.1 (bnd l h s.size).2.2))]) K)
    | some (.slice e), .v false [.ref m] => match look σ.hp m, P.info? e with
      | some t, some ie => if t.k = ie.size then .ob (bnd l h t.n).1 (ret σ o (.v false [.sub m t.k (bnd l h t.n).2.1 ((bnd l h t.n).2.2 - (bnd l h t.n).2.1)]) K) else .bad
      | _, _ => .bad
    | some (.slice e), .v false [.sub m k lo0 n] => match look σ.hp m, P.info? e with
      | some t, some ie => if k = ie.size then .ob (bnd2 l h n (t.n - lo0)).1 (ret σ o (.v false [.sub m k (lo0 + (bnd2 l h n (t.n - lo0)).2.1) ((bnd2 l h n (t.n - lo0)).2.2 - (bnd2 l h n (t.n - lo0)).2.1)]) K) else .bad
      | _, _ => .bad
    | some (.slice e), .v false [.im s t xs] => match P.info? e with
      | some ie => if t.width = ie.size then .ob (bnd l h xs.length).1 (ret σ o (.v false [.im s t (cut xs (bnd l h xs.length).2.1 ((bnd l h xs.length).2.2 - (bnd l h xs.length).2.1))]) K) else .bad
      | none => .bad
    | some (.slice e), .v false [.nil] => match P.info? e with
      | some ie => .ob (bnd l h 0).1 (ret σ o (.v false [.nil]) K)
      | none => .bad
    | _, _ => .bad
  | _, _, _ => .bad
theorem run_sliceAt {T e : TypeId} {x : Operand} {lo hi : Option Operand} {ie : TypeInfo} {ad : Option Addr} {n cap l h : Nat} (ho : o.op = .slice T x lo hi none) (hu : P.underlying T = some (.slice e)) (hi' : P.info? e = some ie) (hx : a.eval x = .slice ad n cap)
    (hb : (Instr.sliceBounds true n cap (lo.map a.eval) (hi.map a.eval) none).run P w = .ok (l, h, cap) w) :
    (execOp a.eval o).run P w = .ok (.value (.slice (if cap = l then ad else ad.map (·.add (l * ie.size))) (h - l) (cap - l))) w := by
  simp [execOp, ho, hx, Instr.sliceAt, Instr.slice, run_underlying hu, hb, sizeOf, typeInfo, hi']
theorem opSlice_ok {T : TypeId} {x : Operand} {lo hi mx : Option Operand} (h : RG F G σ a w) (ho : o.op = .slice T x lo hi mx) (hh : (opSlice P o T x lo hi mx σ K).holds Q) : o.wp P a w (ContE F G a w o.dst K Q) Qx := by
  unfold opSlice at hh
  have hx := eval_ok h x
  split at hh
  · rename_i x3 l hi' hl hr
    split at hh
    · rename_i e m k3 z hu hxe hx3
      rw [hxe] at hx
      obtain ⟨c, hc, hcr⟩ := hx
      injection hc with hc
      subst hc
      split at hh
      · rename_i t ie ht hie
        obtain ⟨hb, hh⟩ := hh
        rcases optInt_ok h hl with ⟨_, e⟩ | ⟨y1, k1, z1, rfl, ez1, e1⟩
        · cases e
        · rcases optInt_ok h hr with ⟨_, e⟩ | ⟨y2, k2, z2, rfl, ez2, e2⟩
          · cases e
          · injection ez1 with ez1; injection ez2 with ez2
            subst ez1; subst ez2
            have e3 := (scal_ok (eval_ok h x3) hx3).1
            have hv : ∃ ad cap, a.eval x = .slice ad t.n cap ∧ t.n ≤ cap := by
              rcases h.hp m t ht with ⟨⟨ad, hv⟩, hz⟩ | ⟨g, off, cap, row, e', GG, hv, hnc, _⟩
              · exact ⟨ad, 0, by rw [hcr.1, hv, hz], by omega⟩
              · exact ⟨_, cap, by rw [hcr.1, hv], hnc⟩
            obtain ⟨ad, cap, hv, hnc⟩ := hv
            have hbb := run_bnd3 (P := P) (w := w) e1 e2 e3 hb hnc
            refine ret_val (v := .slice (if z.toNat = l.toNat then ad else ad.map (·.add (l.toNat * ie.size))) (hi'.toNat - l.toNat) (z.toNat - l.toNat)) h hh trivial ?_
            simp [execOp, ho, hv, Instr.sliceAt, Instr.slice, run_underlying hu, hbb, sizeOf, typeInfo, hie]
      · exact hh.elim
    · exact hh.elim
  · rename_i l hi' hl hr
    split at hh
    · rename_i s hu hxe
      rw [hxe] at hx
      obtain ⟨c, hc, hcr⟩ := hx
      injection hc with hc
      subst hc
      obtain ⟨hb, hh⟩ := hh
      refine ret_val h hh ⟨_, rfl, rfl, rfl⟩ ?_
      have := run_bnd (P := P) (b := false) h hl hr hb (Nat.le_refl _)
      simp [execOp, ho, hcr.1, Instr.sliceAt, Instr.slice, run_underlying hu, this]
    · rename_i e m hu hxe
      rw [hxe] at hx
      obtain ⟨c, hc, hcr⟩ := hx
      injection hc with hc
      subst hc
      split at hh
      · rename_i t ie ht hie
        split at hh
        · rename_i hk
          obtain ⟨hb, hh⟩ := hh
          obtain ⟨hb1, hb2⟩ := bnd_le hb
          rcases h.hp m t ht with ⟨⟨ad, hv⟩, hz⟩ | ⟨g, off, cap, row, e', GG, hv, hnc, _⟩
          · rw [hz] at hb hb1 hb2 hh
            refine ret_val h hh ⟨_, rfl, .inl ⟨ad, hv, by omega, by omega, rfl⟩⟩ ?_
            rw [run_sliceAt ho hu hie (hcr.1.trans hv) (run_bnd h hl hr hb (Nat.le_refl _))]
            have e1 : (bnd l hi' 0).2.1 = 0 := by omega
            have e2 : (bnd l hi' 0).2.2 = 0 := by omega
            simp [e1, e2]
          · refine ret_val (v := .slice (some ⟨g, if cap = (bnd l hi' t.n).2.1 then off else off + (bnd l hi' t.n).2.1 * t.k, none⟩) ((bnd l hi' t.n).2.2 - (bnd l hi' t.n).2.1) (cap - (bnd l hi' t.n).2.1)) h hh
              ⟨_, rfl, .inr ⟨g, off, t.n, cap, _, hv, by omega, rfl, ?_⟩⟩ ?_
            · split
              · rename_i e; exact .inr ⟨e, by omega⟩
              · exact .inl rfl
            · rw [run_sliceAt ho hu hie (hcr.1.trans hv) (run_bnd h hl hr hb hnc)]
              split <;> simp [add_at, hk]
        · exact hh.elim
      · exact hh.elim
    · rename_i e m k lo0 n hu hxe
      rw [hxe] at hx
      obtain ⟨c, hc, hcr⟩ := hx
      injection hc with hc
      subst hc
      split at hh
      · rename_i t ie ht hie
        split at hh
        · rename_i hk
          obtain ⟨hb, hh⟩ := hh
          generalize hN : t.n - lo0 = N at hb hh
          rcases hcr with ⟨ad, hv, hz1, hz2, hav⟩ | ⟨g, off, mm, cap, off', hv, hle, hav, hof⟩
          · have hN0 : N = 0 := by
              rcases h.hp m t ht with ⟨_, hz⟩ | ⟨g, off, cap, row, e', GG, hv2, _⟩
              · omega
              · rw [hv] at hv2; injection hv2 with _ e2 _; omega
            rw [hz2, hN0] at hb hh
            obtain ⟨hb1, hb2⟩ := bnd2_le hb (Nat.le_refl 0) (Nat.le_refl 0)
            refine ret_val h hh ⟨_, rfl, .inl ⟨ad, hv, by omega, by omega, rfl⟩⟩ ?_
            rw [run_sliceAt ho hu hie hav (run_bnd2 h hl hr hb (Nat.le_refl _) (Nat.le_refl _))]
            have e1 : (bnd2 l hi' 0 0).2.1 = 0 := by omega
            have e2 : (bnd2 l hi' 0 0).2.2 = 0 := by omega
            simp [e1, e2]
          · have hNc : N ≤ cap - lo0 := by
              rcases h.hp m t ht with ⟨_, hz⟩ | ⟨g2, off2, cap2, row, e', GG, hv2, hnc2, _⟩
              · omega
              · rw [hv] at hv2; injection hv2 with _ e2 e3; omega
            obtain ⟨hb1, hb2⟩ := bnd2_le hb (show n ≤ cap - lo0 by omega) hNc
            refine ret_val (v := .slice (some ⟨g, if cap - lo0 = (bnd2 l hi' n N).2.1 then off' else off' + (bnd2 l hi' n N).2.1 * k, none⟩) ((bnd2 l hi' n N).2.2 - (bnd2 l hi' n N).2.1) (cap - lo0 - (bnd2 l hi' n N).2.1)) h hh
              ⟨_, rfl, .inr ⟨g, off, mm, cap, _, hv, by omega, by rw [Nat.sub_sub], ?_⟩⟩ ?_
            · rcases hof with e1 | ⟨e1, e2⟩
              · split
                · rename_i e
                  refine .inr ⟨by omega, ?_⟩
                  have : lo0 * k ≤ cap * k := Nat.mul_le_mul_right _ (by omega)
                  omega
                · exact .inl (by rw [e1, Nat.add_mul, Nat.add_assoc])
              · have h0 : (bnd2 l hi' n N).2.1 = 0 := by omega
                refine .inr ⟨by omega, ?_⟩
                rw [h0]
                simpa using e2
            · rw [run_sliceAt ho hu hie hav (run_bnd2 h hl hr hb (by omega) (by omega))]
              split <;> simp [add_at, hk]
        · exact hh.elim
      · exact hh.elim
    · rename_i e s t xs hu hxe
      rw [hxe] at hx
      obtain ⟨c, hc, hcr⟩ := hx
      injection hc with hc
      subst hc
      simp only [CellR, fcC_l] at hcr
      generalize hn : xs.length = n at hh hcr
      split at hh
      · rename_i ie hie
        split at hh
        · rename_i hk
          obtain ⟨hb, hh⟩ := hh
          obtain ⟨hb1, hb2⟩ := bnd_le hb
          obtain ⟨ad, cap, hav, hnc, hr0⟩ := hcr
          refine ret_val (v := .slice (if cap = (bnd l hi' n).2.1 then ad else ad.map (·.add ((bnd l hi' n).2.1 * ie.size))) ((bnd l hi' n).2.2 - (bnd l hi' n).2.1) (cap - (bnd l hi' n).2.1)) h hh
            ?_ (run_sliceAt ho hu hie hav (run_bnd h hl hr hb hnc))
          refine ⟨_, rfl, ?_⟩
          show TR w (src G s) (fcC (.l t _)) _
          rw [fcC_l, len_cut (by omega)]
          refine ⟨_, _, rfl, by omega, ?_⟩
          rcases hr0 with hz | ⟨g, off, row, e', fr, rfl, hS, hg, hrow⟩
          · exact .inl (by omega)
          · by_cases hz : (bnd l hi' n).2.2 - (bnd l hi' n).2.1 = 0
            · exact .inl hz
            · have hne : cap ≠ (bnd l hi' n).2.1 := by omega
              refine .inr ⟨g, off + (bnd l hi' n).2.1 * t.width, row, e', fr, by simp [hne, add_at, hk], hS, hg, fun i hi j hj => ?_⟩
              obtain ⟨u, hu', ht⟩ := hrow ((bnd l hi' n).2.1 + i) (by omega) j hj
              exact ⟨u, by rw [← hu']; congr 1; rw [Nat.add_mul]; omega, by dsimp only; rw [cell_cut hi]; exact ht⟩
        · exact hh.elim
      · exact hh.elim
    · rename_i e hu hxe
      rw [hxe] at hx
      obtain ⟨c, hc, hcr⟩ := hx
      injection hc with hc
      subst hc
      split at hh
      · rename_i ie hie
        obtain ⟨hb, hh⟩ := hh
        obtain ⟨hb1, hb2⟩ := bnd_le hb
        refine ret_val h hh ⟨_, rfl, rfl⟩ ?_
        rw [run_sliceAt ho hu hie hcr (run_bnd h hl hr hb (Nat.le_refl _))]
        have e1 : (bnd l hi' 0).2.1 = 0 := by omega
        have e2 : (bnd l hi' 0).2.2 = 0 := by omega
        simp [e1, e2]
      · exact hh.elim
    · exact hh.elim
  · exact hh.elim
end
end Go.D
