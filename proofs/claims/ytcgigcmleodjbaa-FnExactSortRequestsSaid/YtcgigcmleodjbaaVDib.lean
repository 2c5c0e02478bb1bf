/-
  Bytes to text.
-/
import Derived.Test.YtcgigcmleodjbaaVDi
import Derived.Laws.BytesString
import Derived.Laws.Cells
namespace Go.D
set_option linter.unusedVariables false
section
variable {P : Program} {F : Fr P} {G : Gh} {σ : St} {a : Act} {w : World} {o : Oper} {K : St → Out} {Q : Post} {Qx : Exit → Act → World → Prop}
def bytesStr (xs : List Int) : ByteArray := xs.foldl (fun r n => r.push (UInt8.ofNat n.toNat)) ByteArray.empty
def isBytes (P : Program) (S T : TypeId) : Bool := match P.underlying S with
  | some (.slice e) => (match P.underlying e, P.underlying T with
    | some (.int .u8), some .string => true
    | _, _ => false)
  | _ => false
theorem run_conv_bytes {S T : TypeId} {R : Nat → Prop} {xs : List Int} {v : Value} (hs : isBytes P S T = true) (h : TR w R (fcC (.l .u8 xs)) v) :
    (convert S T v).run P w = .ok (.string (bytesStr xs)) w := by
  unfold isBytes at hs
  split at hs
  · rename_i e he
    split at hs
    · rename_i h1 h2
      rw [fcC_l] at h
      obtain ⟨b, cap, rfl, _, hc⟩ := h
      rw [run_convert_bytes_string w S T e _ _ _ he h1 h2]
      cases b with
      | none =>
        rcases hc with h0 | ⟨g, o, row, e, fr, h0, _⟩
        · obtain rfl : xs = [] := List.length_eq_zero_iff.1 h0
          simp [Conv.bytesToString, Sem.run_pure, bytesStr]
        · cases h0
      | some b =>
        refine run_bytesToString w b xs.length cap xs ?_
        have hl := run_loadCells_list (P := P) w b (xs.map (Value.int .u8)) ?_
        · rwa [List.length_map] at hl
        · intro j v hj
          rw [List.getElem?_map] at hj
          obtain ⟨n, hn, rfl⟩ := Option.map_eq_some_iff.1 hj
          have hlt : j < xs.length := (List.getElem?_eq_some_iff.1 hn).1
          rcases hc with h0 | ⟨g, o, row, e, fr, h0, _, hrow, hcell⟩
          · omega
          · cases h0
            obtain ⟨u, hu, ht⟩ := hcell j hlt 0 (by simp [Ty.width])
            have hx : xs.getD j default = n := by simp [List.getD, hn]
            have hu2 : u = .int .u8 n := by
              have h3 : fcC (cell .u8 xs j 0) = .val (.int .u8 n) := by
                unfold cell
                rw [hx]
                rfl
              have ht : TR w R (fcC (cell .u8 xs j 0)) u := ht
              rw [h3] at ht
              exact ht.1
            subst hu2
            simp only [Ty.width, Nat.mul_one, Nat.add_zero] at hu
            by_cases hz : j = 0
            · subst hz; simpa [World.cell?, Addr.add, hrow] using hu
            · simpa [World.cell?, Addr.add, hrow, hz] using hu
    · cases hs
  · cases hs
def opConvX (P : Program) (o : Oper) (S T : TypeId) (x : Operand) (σ : St) (K : St → Out) : Out :=
  match (σ.eval x).scal with
  | some u => opPure P o (convert S T u) σ K
  | none => match srcOf σ (σ.eval x) with
    | some (p, ⟨.u8, xs⟩) => bif isBytes P S T then .ob p (ret σ o (.v false [.sc (.string (bytesStr xs))]) K) else .bad
    | _ => .bad
theorem opConvX_ok {S T : TypeId} {x : Operand} (h : RG F G σ a w) (ho : o.op = .convert S T x) (hh : (opConvX P o S T x σ K).holds Q) : o.wp P a w (ContE F G a w o.dst K Q) Qx := by
  unfold opConvX at hh
  split at hh
  · rename_i u hu
    have := (scal_ok (eval_ok h x) hu).1
    exact opPure_ok h hh (by simp [execOp, ho, this])
  · split at hh
    · rename_i p xs hs
      cases hb : isBytes P S T with
      | false => rw [hb] at hh; exact hh.elim
      | true =>
        rw [hb] at hh
        obtain ⟨hp, hh⟩ := hh
        obtain ⟨R, hr⟩ := srcOf_ok h (eval_ok h x) hs hp
        refine ret_val h hh (v := .string (bytesStr xs)) ⟨_, rfl, rfl, rfl⟩ ?_
        have := run_conv_bytes hb hr
        simp [execOp, ho, this]
    · exact hh.elim
end
end Go.D
