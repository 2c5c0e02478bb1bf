/-
  The step from a law's contract to its row.
-/
import Derived.Test.YtedcmphhpfdblaaDp
import Derived.Carry
import Derived.ChangeOld
import Derived.ChangeShapes
import Derived.WideShapes
import Derived.ProofKit
import Derived.OpenShut
namespace Go.D
open Go.RowKit Go.ChangeShapes Go.WideShapes
set_option linter.unusedVariables false
section
variable {H : Type} {enc : TypeId × Value → H} {P : Program} {W W' : World}
theorem trodAll_stays (hl : laidOutB P = true) (hb : Below W.heap.size W W') : ∀ (ts : List TypeId) (vs : List Value) (ds : List (DataW H)) (ps : List MemPlace), (∀ t ∈ ts, P.readableRec t = true ∧ t < P.types.size) →
    (∀ x ∈ ps, x.block < W.heap.size) → DataW.TrodAll enc P W 0 (fun _ => true) true ts vs ds ps → DataW.TrodAll enc P W' 0 (fun b => decide (b < W.heap.size)) true ts vs ds ps := by
  intro ts
  induction ts with
  | nil => intro vs ds ps _ _ h; obtain ⟨rfl, rfl, rfl⟩ := trodAll_nil h; exact trodAll_mk0
  | cons t ts ih =>
    intro vs ds ps ht hlt h
    obtain ⟨v, vs', d, ds', p, q, rfl, rfl, rfl, h1, h2⟩ := trodAll_cons h
    obtain ⟨hr, hrow⟩ := ht t (by simp)
    exact trodAll_cons_mk (Below.trod hl hr hrow h1 hb (fun x hx => hlt x (by simp [hx]))) (ih vs' ds' q (fun t' h' => ht t' (by simp [h'])) (fun x hx => hlt x (by simp [hx])) h2)
theorem trodAll_len {ts : List TypeId} {vs : List Value} {ds : List (DataW H)} {ps : List MemPlace} {spare : Nat → Bool} {base : Nat} {held : Bool} (h : DataW.TrodAll enc P W base spare held ts vs ds ps) : ds.length = ts.length := by
  induction ts generalizing vs ds ps with
  | nil => obtain ⟨rfl, rfl, rfl⟩ := trodAll_nil h; rfl
  | cons t ts ih => obtain ⟨v, vs', d, ds', p, q, rfl, rfl, rfl, h1, h2⟩ := trodAll_cons h; simp [ih h2]
/-- a law answered true, and what was there is as it was -/
theorem law_post {f : Func} {s : ChangeSpec} {T : TypeId} {args : Array Value} {ds gs : List (DataW H)} {before : List MemPlace} (hl : laidOutB P = true) (hts : ∀ t ∈ f.params.toList, P.readableRec t = true ∧ t < P.types.size)
    (hres : f.resultTypes = #[T]) (hT : P.underlying T = some .bool) (hv : s.vars = []) (hW : DataW.Whole enc P f.params.toList s.vars false W args.toList ds gs before)
    (hfn : ∀ xs : List (DataW H), xs.length = f.params.toList.length → s.fn H xs = { results := [.lit (.bool true)], args := xs }) (hb : Below W.heap.size W W') :
    s.post enc P f false true false false W args (.bool true) W' := by
  have hW' := hW
  have hlt := hW.lt
  obtain ⟨p, q, hA, hV, rfl, _, _⟩ := hW
  rw [hv] at hV
  obtain ⟨rfl, rfl⟩ := trodVars_none hV
  have hlen := trodAll_len hA
  have hf := hfn (ds ++ []) (by simpa using hlen)
  refine ⟨ds, [], _, [], p, [], hW', ?_, ?_, ?_, hb.frame _, by simp⟩
  · rw [hf, hres]
    exact trodAll_cons_mk (shut_bool hT true) trodAll_mk0
  · rw [hf]
    simpa using trodAll_stays hl hb _ _ _ _ hts (fun x hx => hlt x (by simp [hx])) hA
  · rw [hf, hv]
    rfl
theorem law_calls {g : Nat} {f : Func} {s : ChangeSpec} {T : TypeId} {args : Array Value} {ds gs : List (DataW H)} {before : List MemPlace} {xs : List TV} (hl : laidOutB P = true) (hts : ∀ t ∈ f.params.toList, P.readableRec t = true ∧ t < P.types.size)
    (hres : f.resultTypes = #[T]) (hT : P.underlying T = some .bool) (hv : s.vars = []) (hW : DataW.Whole enc P f.params.toList s.vars false W args.toList ds gs before)
    (hfn : ∀ xs : List (DataW H), xs.length = f.params.toList.length → s.fn H xs = { results := [.lit (.bool true)], args := xs })
    (hc : Con P g xs (.one false [.val (.bool true)])) (ha : ArgsR W xs args) :
    Calls P g args W fun e W' => ∃ v, e = .returned v ∧ s.post enc P f false true false false W args v W' := by
  refine (hc W args ha).mono ?_
  rintro e W' ⟨v, rfl, ho, hs, hr⟩
  obtain ⟨Fs, _, _, c, hcs, hto, _⟩ := hr
  injection hcs with hcs
  subst hcs
  obtain rfl : v = .bool true := hto.1
  exact ⟨_, rfl, law_post hl hts hres hT hv hW hfn ⟨ho.os, ho.tape, ho.output, ho.size, hs⟩⟩
end
end Go.D
