/-
  A new cursor.
-/
import Derived.Test.YtcgigcmleodjbaaVDlb
namespace Go.D
set_option linter.unusedVariables false
section
variable {P : Program} {E : Env} {F : Fr P} {G : Gh} {σ : St} {a : Act} {w w' : World} {o : Oper} {K : St → Out} {Q : Post} {Qx : Exit → Act → World → Prop}
open Classical in
/-- a new block becomes a cursor -/
theorem RG.addCur (h : RG F G σ a w) {g : Nat} (h0 : G.ow g = .gone) (hg : CurOk w G g) (hs : g < w.heap.size) : ∃ G', RG F G' σ a w ∧ G'.ow g = .cur := by
  let G' : Gh := { ow := fun b => if b = g then .cur else G.ow b, be := G.be, hv := G.hv }
  have same : ∀ b, G.ow b ≠ .gone → G'.ow b = G.ow b := fun b hb => if_neg fun e => hb (by rw [e]; exact h0)
  have fo : FreeOk w w G G' := ⟨fun b hb => ⟨rfl, (same b (by simp [hb])).trans hb⟩, fun b hb => (same b (by simp [hb])).trans hb⟩
  have mo : ∀ m, MemOk w w G G' m := fun m b hb => ⟨rfl, (same b (by simp [hb])).trans hb⟩
  refine ⟨G', ?_, if_pos rfl⟩
  constructor
  case tm => exact fun t tv hl => TV.carry fo (fun _ _ => rfl) (fun m _ => mo m) (fun _ _ => rfl) (h.tm t tv hl)
  case bx =>
    intro b' cs' hl
    obtain ⟨h1, r', e', h2, h3⟩ := h.bx b' cs' hl
    exact ⟨(same (G.be b') (by rw [h1]; intro e; cases e)).trans h1, r', e', h2, Cells.carry fo (fun _ _ => rfl) (fun m _ => mo m) h3⟩
  case hp => exact fun l T hl => (h.hp l T hl).frame fun g hg _ => mo l g hg
  case lt =>
    intro b hb
    by_cases e : b = g
    · subst e; exact hs
    · exact h.lt b (by simpa [G', e] using hb)
  case os => exact h.os
  case tape => exact h.tape
  case output => exact h.output
  case size => exact h.size
  case keep =>
    refine ⟨fun b h1 h2 => ?_, fun b h1 h2 => ?_, fun b hb => ?_⟩
    · obtain ⟨k1, k2⟩ := h.keep.free b h1 h2
      exact ⟨k1, (same b (by simp [k2])).trans k2⟩
    · obtain ⟨k1, k2⟩ := h.keep.cur b h1 h2
      exact ⟨(same b (by simp [k1])).trans k1, k2⟩
    · by_cases e : b = g
      · subst e; exact hg.carry fo rfl
      · exact (h.keep.at_ b (by simpa [G', e] using hb)).carry fo rfl
  case fb => exact h.fb
  case fl => exact h.fl
  case nt => exact h.nt
  case df => exact h.df
def opNew (P : Program) (o : Oper) (f t : Nat) (σ : St) (K : St → Out) : Out :=
  match σ.eval (.tmp t), o.dst, P.funcs[f]? with
  | .v false [.im none .u8 xs], some d, some fn => bif fn.body.isSome && !(fn.name == "runtime.NumGoroutine") && decide (d < σ.nt) then
    .ob (∀ j, j < xs.length → 0 ≤ (show Int from xs.getD j default) ∧ (show Int from xs.getD j default) ≤ 255) (.ob (xs.length ≤ 1000000000000000000) (K (σ.put d .cur))) else .bad
  | _, _, _ => .bad
theorem opNew_ok {f t : Nat} (h : RG F G σ a w) (hf : NewOk P f) (he : (execOp a.eval o).run P w = (callFunc f #[a.eval (.tmp t)]).run P w) (hh : (opNew P o f t σ K).holds Q) : o.wp P a w (Cont F K Q) Qx := by
  unfold opNew at hh
  split at hh
  · rename_i xs d fn hx hd hfn
    cases hc : (fn.body.isSome && !(fn.name == "runtime.NumGoroutine") && decide (d < σ.nt)) with
    | false => rw [hc, cond_false] at hh; exact hh.elim
    | true =>
      rw [hc, cond_true] at hh
      simp only [Bool.and_eq_true, Bool.not_eq_true', decide_eq_true_eq] at hc
      obtain ⟨⟨hbody, hname⟩, hlt⟩ := hc
      obtain ⟨h1, h2, hh⟩ := hh
      have hv := eval_ok h (.tmp t)
      rw [hx] at hv
      obtain ⟨c, hc, hv⟩ := hv
      injection hc with hc
      subst hc
      have hrun : (execOp a.eval o).run P w = .ok (.enter f #[a.eval (.tmp t)]) w := by
        rw [he]
        obtain ⟨cb, hb2⟩ := Option.isSome_iff_exists.1 hbody
        have hn2 : ¬ fn.name = "runtime.NumGoroutine" := by simpa using hname
        simp [callFunc, hfn, hb2, hn2]
      unfold Oper.wp
      rw [hrun, Oper.upon_enter]
      refine (hf w _ (src G none) xs hv h1 h2).mono ?_
      rintro e w' ⟨g, n, ty, rfl, ho, hs, hg, hcell, hn1, hn2⟩
      have hgone : G.ow g = .gone := by
        cases hq : G.ow g with
        | gone => rfl
        | _ => have := h.lt g (by rw [hq]; intro e; cases e); omega
      have h3 : RG F G σ a w' := h.world ho fun b hb => hs b (h.lt b hb)
      have hfr : ∀ b, src G none b → w'.heap[b]? = w.heap[b]? ∧ src G none b := fun b hb => ⟨hs b (h.lt b (by rw [show G.ow b = .free from hb]; intro e; cases e)), hb⟩
      obtain ⟨G', h4, h5⟩ := h3.addCur hgone ⟨xs, _, 0, n, ty, hcell, TR.frame (fun b hb _ => hfr b hb) hv, h2, by omega, by omega, hn1, hn2⟩ (some_lt hcell)
      rw [hd]
      exact ⟨_, ⟨G', h4.put (x := .cur) hlt ⟨g, rfl, h5⟩⟩, hh⟩
  · exact hh.elim
end
end Go.D
