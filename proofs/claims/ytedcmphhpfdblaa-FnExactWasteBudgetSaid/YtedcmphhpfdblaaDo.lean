/-
  Regions and code: the run of a body, its loops by specifications, and the contract of a function out of its run.
-/
import Derived.Test.YtedcmphhpfdblaaDn
namespace Go.D
set_option linter.unusedVariables false
inductive Ex where
  | normal
  | exit (id : Nat)
  | ret
def ExR : Ex → Exit → Prop
  | .normal, e => e = .normal
  | .exit id, e => e = .exit id
  | .ret, e => e = .ret
def Post2 (F : Fr) (K : Ex → St → Out) (Q : Post) : Exit → Act → World → Prop := fun e a w => ∃ ex σ', ExR ex e ∧ R F σ' a w ∧ (K ex σ').holds Q
abbrev LSpec := St → (Ex → St → Out) → Out
def LoopOk (P : Program) (body : Code) (sp : LSpec) : Prop := ∀ (F : Fr) (σ : St) (a : Act) (w : World) (K : Ex → St → Out) (Q : Post), (sp σ K).holds Q → R F σ a w → (Code.loop body).wp P (Post2 F K Q) a w
def evOps (P : Program) (E : Env) (ops : Array Oper) : List Nat → St → (St → Out) → Out
  | [], σ, K => K σ
  | i :: rest, σ, K => match ops[i]? with
    | none => evOps P E ops rest σ K
    | some o => match o.guard with
      | none => step P E o σ (fun σ' => evOps P E ops rest σ' K)
      | some (j, want) => match (ops[j]?).bind (·.dst) with
        | some t => match σ.get t with
          | .v false [.tt] => if want then step P E o σ (fun σ' => evOps P E ops rest σ' K) else evOps P E ops rest (σ.setTm o.dst .dead) K
          | .v false [.ff] => if want then evOps P E ops rest (σ.setTm o.dst .dead) K else step P E o σ (fun σ' => evOps P E ops rest σ' K)
          | .v false [.sc (.bool b)] => .br b
            (if want then step P E o (σ.put t (.v false [.tt])) (fun σ' => evOps P E ops rest σ' K) else evOps P E ops rest ((σ.put t (.v false [.tt])).setTm o.dst .dead) K)
            (if want then evOps P E ops rest ((σ.put t (.v false [.ff])).setTm o.dst .dead) K else step P E o (σ.put t (.v false [.ff])) (fun σ' => evOps P E ops rest σ' K))
          | _ => .bad
        | none => .bad
def St.clean (σ : St) (kp : List Nat) : St := { σ with tm := σ.tm.filter fun p => kp.contains p.1 }
def regId : Code → Nat
  | .region i _ _ => i
  | .seq x y => regId x
  | .cond _ x _ => regId x
  | .block _ x => regId x
  | .loop x => regId x
  | _ => 0
abbrev LEnv := Nat → Option LSpec
def run (P : Program) (E : Env) (L : LEnv) (kp : List Nat) : Code → St → (Ex → St → Out) → Out
  | .skip, σ, K => K .normal σ
  | .region _ ops draw, σ, K => if draw then .bad else evOps P E ops (List.range ops.size) σ (fun σ' => K .normal (σ'.clean kp))
  | .seq x y, σ, K => run P E L kp x σ (fun e σ' => match e with
    | .normal => run P E L kp y σ' K
    | e => K e σ')
  | .cond c x y, σ, K => brTV (σ.eval c) (run P E L kp x σ K) (run P E L kp y σ K)
  | .block id x, σ, K => run P E L kp x σ (fun e σ' => match e with
    | .exit i => if i = id then K .normal σ' else K (.exit i) σ'
    | e => K e σ')
  | .exit id, σ, K => K (.exit id) σ
  | .ret, σ, K => K .ret σ
  | .loop b, σ, K => match L (regId b) with
    | some sp => .ob (LoopOk P b sp) (sp σ K)
    | none => .bad
  | _, _, _ => .bad
section
variable {P : Program} {E : Env} {F : Fr} {G : Gh} {σ : St} {a : Act} {w : World} {o : Oper} {K : St → Out} {Q : Post} {Qx : Exit → Act → World → Prop}
theorem RG.dead (h : RG F G σ a w) (d : Option Nat) (v : Value) : RG F G (σ.setTm d .dead) (a.put d v) w := by
  cases d with
  | none => exact h
  | some d =>
    refine ⟨?_, h.bx, h.hp, h.lt, h.os, h.tape, h.output, h.size, h.keep, h.fb, h.fl, by simpa [Act.put, St.setTm, St.put] using h.nt, h.df⟩
    intro t tv hl
    simp only [St.setTm, St.put, look_put] at hl
    by_cases ht : t = d
    · simp only [ht, if_true, Option.some.injEq] at hl
      subst hl
      trivial
    · simp only [ht, if_false] at hl
      have := h.tm t tv hl
      simpa [Act.put, Array.getElem?_setIfInBounds_ne (Ne.symm ht)] using this
/-- a slot's content may be told otherwise, if it is right -/
theorem RG.retell (h : RG F G σ a w) {t : Nat} {x : TV} (hx : TVR w G x (a.tmps.getD t undef)) : RG F G (σ.put t x) a w := by
  refine ⟨?_, h.bx, h.hp, h.lt, h.os, h.tape, h.output, h.size, h.keep, h.fb, h.fl, h.nt, h.df⟩
  intro t' tv hl
  simp only [St.put, look_put] at hl
  by_cases ht : t' = t
  · subst ht
    simp only [if_true, Option.some.injEq] at hl
    subst hl
    exact hx
  · simp only [ht, if_false] at hl
    exact h.tm t' tv hl
theorem get_ok (h : RG F G σ a w) (t : Nat) : TVR w G (σ.get t) (a.tmps.getD t undef) := eval_ok h (.tmp t)
theorem RG.clean (h : RG F G σ a w) (kp : List Nat) : RG F G (σ.clean kp) a w := by
  refine ⟨?_, h.bx, h.hp, h.lt, h.os, h.tape, h.output, h.size, h.keep, h.fb, h.fl, h.nt, h.df⟩
  intro t tv hl
  simp only [St.clean, look_filter (fun t => kp.contains t)] at hl
  split at hl
  · exact h.tm t tv hl
  · cases hl
theorem yielded_of {ops : Array Oper} {j t : Nat} {b : Bool} (hj : (ops[j]?).bind (·.dst) = some t) (hv : a.tmps.getD t undef = .bool b) : yielded ops a.tmps j = some b := by
  unfold yielded
  rw [hj]
  simp only [Option.bind_some]
  rw [Array.getD_eq_getD_getElem?] at hv
  cases hq : a.tmps[t]? with
  | none => rw [hq] at hv; simp [undef] at hv
  | some v => rw [hq] at hv; simp only [Option.getD_some] at hv; subst hv; rfl
theorem evOps_ok (hE : EOk P E) {ops : Array Oper} : ∀ (l : List Nat) (σ : St) (G : Gh) (a : Act) (w : World), RG F G σ a w → (evOps P E ops l σ K).holds Q →
    wpOps P ops (fun e a w => e = .normal ∧ Cont F K Q a w) l a w := by
  intro l
  induction l with
  | nil => intro σ G a w h hh; exact ⟨rfl, _, ⟨G, h⟩, hh⟩
  | cons i rest ih =>
    intro σ G a w h hh
    simp only [wpOps]
    simp only [evOps] at hh
    cases ho : ops[i]? with
    | none => simp only [ho] at hh ⊢; exact ih σ G a w h hh
    | some o =>
      simp only [ho] at hh ⊢
      have yes : ∀ σ' G', RG F G' σ' a w → (step P E o σ' (fun σ'' => evOps P E ops rest σ'' K)).holds Q → o.wp P a w (wpOps P ops (fun e a w => e = .normal ∧ Cont F K Q a w) rest) (fun e a w => e = .normal ∧ Cont F K Q a w) := by
        intro σ' G' h' hh'
        exact Oper.wp_mono (fun a1 w1 ⟨σ1, ⟨G1, h1⟩, hh1⟩ => ih σ1 G1 a1 w1 h1 hh1) (step_ok hE h' hh')
      have no : ∀ σ' G', RG F G' σ' a w → (evOps P E ops rest (σ'.setTm o.dst .dead) K).holds Q → wpOps P ops (fun e a w => e = .normal ∧ Cont F K Q a w) rest (a.put o.dst undef) w := by
        intro σ' G' h' hh'
        exact ih _ G' _ w (h'.dead o.dst undef) hh'
      cases hg : o.guard with
      | none =>
        simp only [hg] at hh
        have hw : Region.wanted o (yielded ops a.tmps) = true := by simp [Region.wanted, hg]
        simp only [hw, if_true]
        exact .inl (yes σ G h hh)
      | some gw =>
        obtain ⟨j, want⟩ := gw
        simp only [hg] at hh
        split at hh
        · rename_i t hj
          have hx := get_ok h t
          have wan : ∀ b, a.tmps.getD t undef = .bool b → Region.wanted o (yielded ops a.tmps) = (b == want) := by
            intro b hb
            simp only [Region.wanted, hg, yielded_of hj hb]
            cases b <;> cases want <;> rfl
          split at hh
          · rename_i he
            rw [he] at hx
            obtain ⟨c, hc, hcr⟩ := hx
            injection hc with hc; subst hc
            rw [wan true hcr]
            cases want with
            | true => simp only [if_true] at hh; exact .inl (yes σ G h hh)
            | false => simp only [Bool.false_eq_true, if_false] at hh; exact no σ G h hh
          · rename_i he
            rw [he] at hx
            obtain ⟨c, hc, hcr⟩ := hx
            injection hc with hc; subst hc
            rw [wan false hcr]
            cases want with
            | true => simp only [if_true] at hh; exact no σ G h hh
            | false => simp only [Bool.false_eq_true, if_false] at hh; exact .inl (yes σ G h hh)
          · rename_i b he
            rw [he] at hx
            obtain ⟨c, hc, hcr⟩ := hx
            injection hc with hc; subst hc
            have hbv := hcr.1
            rw [wan b hbv]
            cases b with
            | true =>
              have h2 := h.retell (t := t) (x := .v false [.tt]) ⟨_, rfl, hbv⟩
              have hh := hh.1 rfl
              cases want with
              | true => simp only [if_true] at hh; exact .inl (yes _ G h2 hh)
              | false => simp only [Bool.false_eq_true, if_false] at hh; exact no _ G h2 hh
            | false =>
              have h2 := h.retell (t := t) (x := .v false [.ff]) ⟨_, rfl, hbv⟩
              have hh := hh.2 rfl
              cases want with
              | true => simp only [if_true] at hh; exact no _ G h2 hh
              | false => simp only [Bool.false_eq_true, if_false] at hh; exact .inl (yes _ G h2 hh)
          · exact hh.elim
        · exact hh.elim
theorem run_ok (hE : EOk P E) {L : LEnv} {kp : List Nat} : ∀ (c : Code) (σ : St) (a : Act) (w : World) (K : Ex → St → Out), R F σ a w → (run P E L kp c σ K).holds Q → c.wp P (Post2 F K Q) a w := by
  intro c
  induction c with
  | skip => intro σ a w K h hh; exact wp_skip ⟨.normal, σ, rfl, h, hh⟩
  | region id ops draw =>
    intro σ a w K h hh
    simp only [run] at hh
    split at hh
    · exact hh.elim
    · rename_i hd
      have : draw = false := by simpa using hd
      subst this
      obtain ⟨G, h⟩ := h
      refine wp_mono (wp_region (evOps_ok hE (K := fun σ' => K .normal (σ'.clean kp)) _ σ G a w h hh)) ?_
      rintro e a' w' ⟨rfl, σ', ⟨G', h'⟩, hh'⟩
      exact ⟨.normal, _, rfl, ⟨G', h'.clean kp⟩, hh'⟩
  | seq x y ihx ihy =>
    intro σ a w K h hh
    simp only [run] at hh
    refine wp_seq (wp_mono (ihx σ a w _ h hh) ?_)
    rintro e a' w' ⟨ex, σ', he, h', hh'⟩
    cases ex with
    | normal => obtain rfl := he; exact ihy σ' a' w' K h' hh'
    | exit id => obtain rfl := he; exact ⟨.exit id, σ', rfl, h', hh'⟩
    | ret => obtain rfl := he; exact ⟨.ret, σ', rfl, h', hh'⟩
  | cond c x y ihx ihy =>
    intro σ a w K h hh
    simp only [run] at hh
    obtain ⟨G, hG⟩ := h
    obtain ⟨b, hb, h1, h2⟩ := brTV_ok (eval_ok hG c) hh
    exact wp_cond_split hb (fun e => ihx σ a w K ⟨G, hG⟩ (h1 e)) (fun e => ihy σ a w K ⟨G, hG⟩ (h2 e))
  | block id x ih =>
    intro σ a w K h hh
    simp only [run] at hh
    refine wp_block (wp_mono (ih σ a w _ h hh) ?_)
    rintro e a' w' ⟨ex, σ', he, h', hh'⟩
    cases ex with
    | normal => obtain rfl := he; exact ⟨.normal, σ', rfl, h', hh'⟩
    | exit i =>
      obtain rfl := he
      simp only [Exit.inBlock]
      split
      · rename_i hi; simp only [hi, if_true] at hh'; exact ⟨.normal, σ', rfl, h', hh'⟩
      · rename_i hi; simp only [hi, if_false] at hh'; exact ⟨.exit i, σ', rfl, h', hh'⟩
    | ret => obtain rfl := he; exact ⟨.ret, σ', rfl, h', hh'⟩
  | exit id => intro σ a w K h hh; exact wp_exit ⟨.exit id, σ, rfl, h, hh⟩
  | ret => intro σ a w K h hh; exact wp_ret ⟨.ret, σ, rfl, h, hh⟩
  | loop b ih =>
    intro σ a w K h hh
    simp only [run] at hh
    split at hh
    · rename_i sp hsp
      exact hh.1 F σ a w K Q hh.2 h
    · exact hh.elim
  | _ => intro σ a w K h hh; simp only [run] at hh; exact hh.elim
end
/-! results -/
def resCells (P : Program) (σ : St) : ResultVar → Option (Bool × List Cell)
  | .tmp t => match σ.get t with
    | .v agg cs => some (agg, cs)
    | _ => none
  | .cell t T => match σ.get t, P.underlying T, P.info? T with
    | .ptr b 0, some _, some i => match look σ.bx b with
      | some cs => if cs.length = i.size ∧ (eqTy.aggOf P T = true ∨ i.size = 1) then some (eqTy.aggOf P T, cs) else none
      | none => none
    | _, _, _ => none
def resParts (P : Program) (σ : St) : List ResultVar → Option (List (Bool × List Cell))
  | [] => some []
  | r :: rs => match resCells P σ r, resParts P σ rs with
    | some p, some ps => some (p :: ps)
    | _, _ => none
/-- the contents of the result cells, part by part; all trees apart -/
def litParts (σ : St) : List (Bool × List Cell) → Option (List (Bool × List C) × List Nat)
  | [] => some ([], [])
  | p :: ps => match litC σ p.2, litParts σ ps with
    | some (ds, ab), some (qs, ab') => if ab.all (fun l => !ab'.contains l) then some ((p.1, ds) :: qs, ab ++ ab') else none
    | _, _ => none
def resOf (P : Program) (fn : Func) (σ : St) : Option Res :=
  match resParts P σ fn.results.toList with
  | some ps => match litParts σ ps with
    | some ([p], _) => some (.one p.1 p.2)
    | some (qs, _) => some (.tup qs)
    | none => none
  | none => none
def leafOf (P : Program) (fn : Func) (σ : St) : Out :=
  match resOf P fn σ with
  | some r => .leaf r [] []
  | none => .bad
def endK (P : Program) (fn : Func) : Ex → St → Out
  | .normal, σ => leafOf P fn σ
  | .ret, σ => leafOf P fn σ
  | .exit _, _ => .bad
def start (nt : Nat) (args : List TV) : St := { nt, tm := args.zipIdx.map (fun p => (p.2, p.1)), bx := [], hp := [], fb := [], fl := [] }
end Go.D
