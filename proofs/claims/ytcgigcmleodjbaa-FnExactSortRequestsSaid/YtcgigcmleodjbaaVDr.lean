/-
  Calls by contract, the step of an operation.
-/
import Derived.Test.YtcgigcmleodjbaaVDnw
namespace Go.D
set_option linter.unusedVariables false
section
variable {P : Program} {E : Env} {F : Fr P} {G : Gh} {σ : St} {a : Act} {w w' : World} {o : Oper} {K : St → Out} {Q : Post} {Qx : Exit → Act → World → Prop}
/-- what is to be shown behind an operation: cls: and what was there is as it was -/
def ContC (cls : Bool) {P : Program} (F : Fr P) (G : Gh) (a : Act) (w : World) (d : Option Nat) (K : St → Out) (Q : Post) : Act → World → Prop := if cls then ContE F G a w d K Q else Cont F K Q
theorem ContC.of {cls : Bool} {d : Option Nat} {a' : Act} {w' : World} (h : ContE F G a w d K Q a' w') : ContC cls F G a w d K Q a' w' := by
  cases cls
  · exact h.cont
  · exact h
theorem wp_cls {cls : Bool} {d : Option Nat} (h : o.wp P a w (ContE F G a w d K Q) Qx) : o.wp P a w (ContC cls F G a w d K Q) Qx := Oper.wp_mono (fun _ _ h => ContC.of h) h
theorem callRest_ok {cls : Bool} {ms : List Md} {g : Giv} {p : Pst} {v : Value} {Fs : Pl → Nat → Prop} (h : RG F G σ a w) (hng : nodupB (g.gv.map (·.1)) = true) (hbs : nodupB (g.bs.map (·.1)) = true) (hgb : nodupB g.gb = true) (ho : Onward w w')
    (hfree : ∀ b, (gc w G g).ow b = .free → w'.heap[b]? = w.heap[b]?) (hcur : ∀ b, (gc w G g).ow b = .cur → CurStep w w' b) (hp : PstF w (gc w G g) w' v p Fs) (hcls : cls = true → g.gl = [] ∧ g.gb = [] ∧ o.dst.isSome = true) (hh : (callRest o σ ms g K p).holds Q) : ContC cls F G a w o.dst K Q (a.put o.dst v) w' := by
  unfold callRest at hh
  split at hh
  · rename_i σ' x hk
    obtain ⟨G', k1, k2, k3⟩ := afterCall_ok h hng hbs hgb ho hfree hcur hp hk
    have main : ∀ σ'', RG F G' σ'' (a.put o.dst v) w' → (K σ'').holds Q → ContC cls F G a w o.dst K Q (a.put o.dst v) w' := by
      intro σ'' h2 hh2
      cases cls with
      | false => exact ⟨σ'', ⟨G', h2⟩, hh2⟩
      | true =>
        obtain ⟨e1, e2, e3⟩ := hcls rfl
        obtain ⟨k4, k5, k6⟩ := k3 e1 e2
        refine ⟨σ'', G', h2, hh2, ⟨v, rfl⟩, ho, fun b hb => ?_, k4, fun b _ => by rw [k5], fun l hl => k6 l ?_⟩
        · have hbs0 : g.bs = [] := by simpa [Giv.gb] using e2
          by_cases hc : G.ow b = .cur
          · exact .inr ⟨hc, hcur b (by simp only [gc, hb, if_true, hc, gcOw])⟩
          · exact .inl (hfree b (gc_free hb hc (fun m _ => by simp [e1]) fun m _ => by simp [e2]))
        · cases hd : o.dst with
          | none =>
            simp [hd] at e3
          | some d0 => simpa [dstBase, hd] using hl d0 hd
    cases hd : o.dst with
    | none =>
      rw [hd] at hh
      rw [hd] at main
      exact main σ' k1 hh
    | some d =>
      rw [hd] at hh
      dsimp only at hh
      cases hlt : decide (d < σ.nt) with
      | false => simp [hlt, Out.holds] at hh
      | true =>
        simp only [hlt, cond_true] at hh
        rw [hd] at main
        have hnt : σ'.nt = σ.nt := by
          have h1 := k1.nt
          rw [h.nt] at h1
          exact h1.symm
        exact main _ (k1.put (by rw [hnt]; exact of_decide_eq_true hlt) k2) hh
  · exact hh.elim
theorem callK_ok {cls : Bool} {f : Nat} {xs : List (List (Option Ty) × TV)} {vs : Array Value} (hE : EOk P E) (h : RG F G σ a w) (hsz : vs.size = xs.length) (hx : ∀ (j : Nat) (kx : List (Option Ty) × TV), xs[j]? = some kx → ∃ v, vs[j]? = some v ∧ TVR w G kx.2 v)
    (he : (execOp a.eval o).run P w = (callFunc f vs).run P w) (hh : (callK P E cls o f xs σ K).holds Q) : o.wp P a w (ContC cls F G a w o.dst K Q) Qx := by
  unfold callK at hh
  split at hh
  · rename_i ms sp fn hg hfn
    cases hc : (fn.body.isSome && !(fn.name == "runtime.NumGoroutine")) with
    | false => simp [hc, Out.holds] at hh
    | true =>
      simp only [hc, cond_true] at hh
      simp only [Bool.and_eq_true, Bool.not_eq_true'] at hc
      obtain ⟨hbody, hname⟩ := hc
      split at hh
      · rename_i p A g hl
        cases hcl : (cls && !(g.gl.isEmpty && g.gb.isEmpty && o.dst.isSome)) with
        | true => rw [hcl, cond_true] at hh; exact hh.elim
        | false =>
          rw [hcl, cond_false] at hh
          have hcls : cls = true → g.gl = [] ∧ g.gb = [] ∧ o.dst.isSome = true := by
            intro e
            rw [e] at hcl
            simpa [and_assoc] using hcl
          have hrun : (execOp a.eval o).run P w = .ok (.enter f vs) w := by
            rw [he]
            obtain ⟨cb, hb2⟩ := Option.isSome_iff_exists.1 hbody
            have hn2 : ¬ fn.name = "runtime.NumGoroutine" := by simpa using hname
            simp [callFunc, hfn, hb2, hn2]
          have main : ∀ (c : Ctr), sp A = some c → (∀ q ∈ p, q) → (∀ q ∈ c.pre, q) → (∀ r, c.sat r → (callRest o σ ms g K r).holds Q) → o.wp P a w (ContC cls F G a w o.dst K Q) Qx := by
            intro c hsp hp hq hr
            obtain ⟨l1, _, l3, l4, l5, l6, _, l7⟩ := lendArgs_ok (vs := vs) h hl hp (by simp [hsz]) (fun j x hj => by
              rw [List.getElem?_map, List.getElem?_zipIdx] at hj
              cases hq2 : xs[j]? with
              | none => simp [hq2] at hj
              | some kx =>
                simp only [hq2, Option.map_some, Option.some.injEq] at hj
                subst hj
                exact hx j kx hq2)
            unfold Oper.wp
            rw [hrun, Oper.upon_enter]
            refine ((hE f ms sp hg).1 A c hsp hq w vs _ (gc_base g h.base) l1).mono ?_
            rintro e w' ⟨v, r, hsat, rfl, ho, hs, hcu, Fs, hpf⟩
            exact callRest_ok h l3 l5 l6 ho hs hcu hpf hcls (hr r hsat)
          split at hh
          · rename_i q r hsp
            obtain ⟨hp, hh⟩ := obs_holds hh
            obtain ⟨hq, hh⟩ := obs_holds hh
            exact main _ hsp hp hq fun r' (hr : r' = r) => hr ▸ hh
          · rename_i q X ok r hsp
            obtain ⟨hp, hh⟩ := obs_holds hh
            obtain ⟨hq, _, hh⟩ := obs_holds hh
            exact main _ hsp hp hq fun r' ⟨x, hx, hr⟩ => hr ▸ hh x hx
          · rename_i q X e r hsp
            obtain ⟨hp, hh⟩ := obs_holds hh
            obtain ⟨hq, hh⟩ := obs_holds hh
            exact main _ hsp hp hq fun r' (hr : r' = r e) => hr ▸ hh
          · exact hh.elim
      · exact hh.elim
  · exact hh.elim
def scalAll : List TV → Option (List Value)
  | [] => some []
  | x :: xs => match x.scal, scalAll xs with
    | some v, some vs => some (v :: vs)
    | _, _ => none
def opMax (P : Program) (o : Oper) (b : Builtin) (tys : Array TypeId) (args : List Operand) (σ : St) (K : St → Out) : Out :=
  match scalAll (args.map σ.eval) with
  | some us => match b with
    | .max => opPure P o (Builtin.max_ tys o.type us.toArray) σ K
    | .min => opPure P o (Builtin.min_ tys o.type us.toArray) σ K
    | _ => .bad
  | none => .bad
theorem scalAll_ok (h : RG F G σ a w) : ∀ (args : List Operand) (us : List Value), scalAll (args.map σ.eval) = some us → args.map a.eval = us := by
  intro args
  induction args with
  | nil => intro us hu; simp only [List.map_nil, scalAll, Option.some.injEq] at hu; exact hu
  | cons x xs ih =>
    intro us hu
    simp only [List.map_cons, scalAll] at hu
    split at hu
    · rename_i v vs hv hvs
      simp only [Option.some.injEq] at hu
      subst hu
      rw [List.map_cons, ih vs hvs, (scal_ok (eval_ok h x) hv).1]
    · simp at hu
def argTVs (P : Program) (ty : TypeId → Option Ty) (σ : St) : List Operand → List TypeId → List (List (Option Ty) × TV)
  | [], _ => []
  | x :: xs, ts => (tcells P ty 8 (ts.headD 0), σ.eval x) :: argTVs P ty σ xs ts.tail
theorem argTVs_ok {ty : TypeId → Option Ty} (h : RG F G σ a w) : ∀ (xs : List Operand) (ts : List TypeId), (argTVs P ty σ xs ts).length = xs.length ∧ ∀ (j : Nat) (kx : List (Option Ty) × TV), (argTVs P ty σ xs ts)[j]? = some kx → ∃ v, (xs.map a.eval)[j]? = some v ∧ TVR w G kx.2 v := by
  intro xs
  induction xs with
  | nil => intro ts; simp [argTVs]
  | cons x xs ih =>
    intro ts
    obtain ⟨h1, h2⟩ := ih ts.tail
    refine ⟨by simp [argTVs, h1], fun j kx hj => ?_⟩
    cases j with
    | zero => simp only [argTVs, List.getElem?_cons_zero, Option.some.injEq] at hj; subst hj; exact ⟨_, rfl, eval_ok h x⟩
    | succ j => simpa using h2 j kx (by simpa [argTVs] using hj)
def keeps (ms : List Md) : Bool := match ms with
  | .keep :: _ => true
  | _ => false
/-- the label of a tree that is out for a call -/
def innLab (o : Oper) : Nat := 64 * o.dst.getD 0 + 63
/-- a call that writes a tree inside a tree's row: the tree is out meanwhile -/
def callIn (P : Program) (E : Env) (o : Oper) (g l k e j : Nat) (args : List Operand) (tys : List TypeId) (σ : St) (K : St → Out) : Out :=
  match look σ.hp l with
  | some T => match cell T.t T.xs e j with
    | .l t xs => bif decide (T.k = k) && decide (innLab o ≠ l) && !σ.fl.contains (innLab o) then
        callK P E false o g ((tcells P E.ty 8 (tys.headD 0), .v false [.ref (innLab o)]) :: argTVs P E.ty (innSt σ l (innLab o) t xs) args tys.tail) (innSt σ l (innLab o) t xs) (fun σ' =>
          match look σ'.hp (innLab o) with
          | some ⟨t', ys⟩ => bif (dec T.t (splice (enc T.t (T.xs.getD e default)) j [.l t' ys])).isSome && decide (t' = t) then .lt (List (El T.t)) (T.xs.modify e (upd T.t j [.l t' ys])) fun zs => K (backSt σ' σ.fl l (innLab o) ⟨T.t, zs⟩) else .bad
          | none => .bad)
      else .bad
    | _ => .bad
  | none => .bad
theorem callIn_ok {g l k e j : Nat} {t0 : Ty} {xs0 : List (El t0)} {args : List Operand} {tys : List TypeId} {v : Value} (hE : EOk P E) (h : RG F G σ a w) (hx : TVR w G (.inn l k e j t0 xs0) v)
    (he : (execOp a.eval o).run P w = (callFunc g (v :: args.map a.eval).toArray).run P w) (hh : (callIn P E o g l k e j args tys σ K).holds Q) : o.wp P a w (Cont F K Q) Qx := by
  unfold callIn at hh
  split at hh
  · rename_i T hT
    split at hh
    · rename_i t xs hcell
      cases hc : (decide (T.k = k) && decide (innLab o ≠ l) && !σ.fl.contains (innLab o)) with
      | false => rw [hc, cond_false] at hh; exact hh.elim
      | true =>
        simp only [hc, cond_true] at hh
        simp only [Bool.and_eq_true, decide_eq_true_eq, Bool.not_eq_true'] at hc
        obtain ⟨⟨hk, hne⟩, hfl⟩ := hc
        have hfl : innLab o ∉ σ.fl := by simpa using hfl
        obtain ⟨g0, o0, cap, row, ety, GG, hI⟩ := inn_at h hT hk hx
        obtain ⟨G1, hG⟩ := innG_ex G (GG e j) l (innLab o) v
        have h1 := inn_split h hT hI hcell hne hfl hG (hG.base h.base fun b hb => (hI.sub e hI.he j hI.hj b hb).1)
        obtain ⟨a1, a2⟩ := argTVs_ok (P := P) (ty := E.ty) h1 args tys.tail
        have := callK_ok (vs := (v :: args.map a.eval).toArray) (Qx := Qx) hE h1 (by simp [a1]) (fun jj kx hj => by
          cases jj with
          | zero =>
            simp only [List.getElem?_cons_zero, Option.some.injEq] at hj
            subst hj
            refine ⟨v, by simp, _, rfl, ?_, ?_⟩
            · rw [hG.hv, if_pos rfl]
            · obtain ⟨u, hu, ht⟩ := hI.cells e hI.he j hI.hj
              rw [hI.at_] at hu
              injection hu with hu
              subst hu
              exact TR.one ht.read
          | succ jj =>
            obtain ⟨u, hu, ht⟩ := a2 jj kx (by simpa using hj)
            exact ⟨u, by simpa using hu, ht⟩) he hh
        refine Oper.wp_mono ?_ this
        rintro a' w' ⟨σ', ⟨G', h'⟩, hh'⟩
        dsimp only at hh'
        split at hh'
        · rename_i t' ys hl
          cases hc2 : ((dec T.t (splice (enc T.t (T.xs.getD e default)) j [.l t' ys])).isSome && decide (t' = t)) with
          | false => rw [hc2, cond_false] at hh'; exact hh'.elim
          | true =>
            simp only [hc2, cond_true] at hh'
            simp only [Bool.and_eq_true, decide_eq_true_eq] at hc2
            obtain ⟨hd, rfl⟩ := hc2
            obtain ⟨G2, h2⟩ := inn_back h hI hne hfl hG h' hl hd
            exact ⟨_, ⟨G2, h2⟩, hh'⟩
        · exact hh'.elim
    · exact hh.elim
  · exact hh.elim
def opCall (P : Program) (E : Env) (cls : Bool) (o : Oper) (c : Call) (σ : St) (K : St → Out) : Out :=
  match c.callee, c.args.toList, c.argTypes.toList with
  | .builtin .len, [x], [T] => opLen P o T x σ K
  | .builtin .append, [s, x], [T, T'] => bif T == T' then (bif cls then opAppC P E.ty o T s x σ K else (match σ.eval s, σ.eval x with
    | .v false [.sub l k lo m], .v false [.sub l2 k2 lo2 m2] => bif l == l2 then opAppIn P o T l k lo m k2 lo2 m2 σ K else opAppend P E.ty o T s x σ K
    | _, _ => opAppend P E.ty o T s x σ K)) else .bad
  | .builtin .clear, [x], [T] => bif cls then .bad else opClear P o T x σ K
  | .builtin b, args, _ => opMax P o b c.argTypes args σ K
  | .value f, args, tys => match σ.eval f with
    | .clo g caps => match cls, args, caps, E.fn g with
      | false, .tmp t :: rest, [], some (ms, sp) => match keeps ms, σ.get t with
        | true, .inn l k e j _ _ => callIn P E o g l k e j rest tys σ K
        | _, _ => bif isNewMd ms && rest.isEmpty then opNew P o g t σ K else callK P E false o g (argTVs P E.ty σ args tys ++ caps.map fun c => ([], capTV c)) σ K
      | _, _, _, _ => callK P E cls o g (argTVs P E.ty σ args tys ++ caps.map fun c => ([], capTV c)) σ K
    | _ => .bad
  | _, _, _ => .bad
theorem opCall_ok {cls : Bool} {c : Call} (hE : EOk P E) (h : RG F G σ a w) (ho : o.op = .call c) (hh : (opCall P E cls o c σ K).holds Q) : o.wp P a w (ContC cls F G a w o.dst K Q) Qx := by
  obtain ⟨callee, args, tys⟩ := c
  unfold opCall at hh
  dsimp only at hh
  split at hh
  · rename_i x T h1 h2
    have e1 : args = #[x] := by simpa using congrArg List.toArray h1
    have e2 : tys = #[T] := by simpa using congrArg List.toArray h2
    subst e1; subst e2
    exact wp_cls (opLen_ok h ho hh)
  · rename_i s x T T' h1 h2
    have e1 : args = #[s, x] := by simpa using congrArg List.toArray h1
    have e2 : tys = #[T, T'] := by simpa using congrArg List.toArray h2
    subst e1; subst e2
    cases hc : (T == T') with
    | false => simp [hc, Out.holds] at hh
    | true =>
      simp only [hc, cond_true] at hh
      rw [beq_iff_eq] at hc
      subst hc
      cases cls with
      | true => exact wp_cls (opAppC_ok (ty := E.ty) h ho hh)
      | false =>
        simp only [cond_false] at hh
        split at hh
        · rename_i l k lo m l2 k2 lo2 m2 hs2 hx2
          cases he : (l == l2) with
          | false => rw [he, cond_false] at hh; exact opAppend_ok (ty := E.ty) h ho hh
          | true =>
            rw [he, cond_true] at hh
            have he' : l = l2 := by simpa using he
            subst he'
            exact opAppIn_ok h ho hs2 hx2 hh
        · exact opAppend_ok (ty := E.ty) h ho hh
  · rename_i x T h1 h2
    have e1 : args = #[x] := by simpa using congrArg List.toArray h1
    have e2 : tys = #[T] := by simpa using congrArg List.toArray h2
    subst e1; subst e2
    cases cls with
    | true => exact hh.elim
    | false => exact opClear_ok h ho hh
  · rename_i b _ _ _ _
    unfold opMax at hh
    split at hh
    · rename_i us hus
      have e1 := scalAll_ok h args.toList us hus
      have e2 : args.map a.eval = us.toArray := by rw [← e1]; apply Array.ext'; simp
      split at hh
      · exact wp_cls (opPure_ok h hh (by simp [execOp, ho, resolve, invoke, builtin, e2]))
      · exact wp_cls (opPure_ok h hh (by simp [execOp, ho, resolve, invoke, builtin, e2]))
      · exact hh.elim
    · exact hh.elim
  · rename_i f
    split at hh
    · rename_i g caps hf
      have hfv := eval_ok h f
      rw [hf] at hfv
      obtain ⟨cv, hcv, hcs, hcc⟩ := hfv
      have gen : ∀ cls, (callK P E cls o g (argTVs P E.ty σ args.toList tys.toList ++ caps.map fun c => ([], capTV c)) σ K).holds Q → o.wp P a w (ContC cls F G a w o.dst K Q) Qx := by
        intro cls hh
        obtain ⟨h1, h2⟩ := argTVs_ok (P := P) (ty := E.ty) h args.toList tys.toList
        refine callK_ok (vs := args.map a.eval ++ cv) hE h ?_ ?_ ?_ hh
        · simp only [Array.size_append, Array.size_map, hcs, List.length_append, h1, List.length_map, Array.length_toList]
        · intro j kx hj
          by_cases hlt : j < args.size
          · rw [List.getElem?_append_left (by rw [h1]; simpa using hlt)] at hj
            obtain ⟨v, hv, ht⟩ := h2 j kx hj
            refine ⟨v, ?_, ht⟩
            rw [Array.getElem?_append_left (by simpa using hlt)]
            simpa using hv
          · rw [List.getElem?_append_right (by rw [h1]; simp; omega), h1, List.getElem?_map, Array.length_toList] at hj
            cases hq : caps[j - args.size]? with
            | none => simp [hq] at hj
            | some c0 =>
              simp only [hq, Option.map_some, Option.some.injEq] at hj
              subst hj
              obtain ⟨u, hu, hr⟩ := hcc _ c0 hq
              refine ⟨u, ?_, capTV_ok hr⟩
              rw [Array.getElem?_append_right (by simp; omega)]
              simpa using hu
        · simp [execOp, ho, resolve, Deferred.ofValue, hcv, invoke]
      split at hh
      · rename_i _ _ _ _ t rest ms sp hargs hfn
        split at hh
        · rename_i l k e j t0 xs0 hkeep hinn
          have hx := raw_ok h t
          rw [hinn] at hx
          have hcv0 : cv = #[] := by
            have : cv.size = 0 := by simpa using hcs
            exact Array.eq_empty_of_size_eq_zero this
          subst hcv0
          have e1 : args.map a.eval = (a.tmps.getD t undef :: rest.map a.eval).toArray := by
            apply Array.ext'
            rw [Array.toList_map, hargs]
            rfl
          exact callIn_ok hE h hx (by simp [execOp, ho, resolve, Deferred.ofValue, hcv, invoke, e1]) hh
        · cases hnw : (isNewMd ms && rest.isEmpty) with
          | false => rw [hnw, cond_false] at hh; exact gen false hh
          | true =>
            rw [hnw, cond_true] at hh
            rw [Bool.and_eq_true] at hnw
            have hr : rest = [] := by simpa using hnw.2
            subst hr
            have hcv0 : cv = #[] := by
              have : cv.size = 0 := by simpa using hcs
              exact Array.eq_empty_of_size_eq_zero this
            subst hcv0
            have e1 : args.map a.eval = #[a.eval (.tmp t)] := by
              apply Array.ext'
              rw [Array.toList_map, hargs]
              rfl
            exact opNew_ok h ((hE g ms sp hfn).2 hnw.1) (by simp [execOp, ho, resolve, Deferred.ofValue, hcv, invoke, e1]) hh
      · exact gen _ hh
    · exact hh.elim
  · exact hh.elim
/-- cls: operations that commute: they read, and make memory of their own -/
def step (P : Program) (E : Env) (cls : Bool) (o : Oper) (σ : St) (K : St → Out) : Out :=
  match o.op with
  | .move x => opMove o x σ K
  | .assign x => opMove o x σ K
  | .pick c x y => opPick o c x y σ K
  | .alloc T => opAlloc P o T σ K
  | .box _ x => opBox o x σ K
  | .build T ps => opBuild P o T ps σ K
  | .buildSlice T n ps => bif litFits P cls T n ps σ then opBuildSlice P E.ty cls o T n ps σ K else opLit P E.ty o T n ps σ (fun σ' => K (bif cls then σ' else σ'.lits))
  | .load T x => opLoad P o T x σ K
  | .store T p x => bif !cls && o.dst.isNone then opStore P o T p x σ K else .bad
  | .nilCheck x => opNil o x σ K
  | .binOp op T x y _ => opBin P o op T x y σ K
  | .unOp op _ x => opUn P o op x σ K
  | .convert S T x => bif isSB P S T then opSB o x σ K else opConvX P o S T x σ K
  | .makeFunc fn first captured => opMakeFunc o fn first captured σ K
  | .makeSlice T l c => opMake P E.ty o T l c σ K
  | .slice T x lo hi mx => opSlice P o T x lo hi mx σ K
  | .fieldAddr T x j => opFieldAddr P o T x j σ K
  | .indexAddr T x i => opIndexAddr P o T x i σ K
  | .index T x i => match P.underlying T with
    | some .string => opIndexS o x i σ K
    | _ => .bad
  | .extract x ix => opExtract o x ix σ K
  | .call c => opCall P E cls o c σ K
  | _ => .bad
theorem step_ok {cls : Bool} (hE : EOk P E) (h : RG F G σ a w) (hh : (step P E cls o σ K).holds Q) : o.wp P a w (ContC cls F G a w o.dst K Q) Qx := by
  unfold step at hh
  split at hh
  · exact wp_cls (opMove_ok h (.inl (by assumption)) hh)
  · exact wp_cls (opMove_ok h (.inr (by assumption)) hh)
  · exact wp_cls (opPick_ok h (by assumption) hh)
  · exact wp_cls (opAlloc_ok h (by assumption) hh)
  · exact wp_cls (opBox_ok h (by assumption) hh)
  · exact wp_cls (opBuild_ok h (by assumption) hh)
  · rename_i T n ps hop
    cases hf : litFits P cls T n ps σ with
    | true =>
      rw [hf, cond_true] at hh
      have := opBuildSlice_all (Qx := Qx) h hop hh
      cases cls with
      | false => simpa [ContC] using this
      | true => simpa [ContC] using this
    | false =>
      rw [hf, cond_false] at hh
      have := opLit_ok (Qx := Qx) h hop hh
      cases cls with
      | true => exact wp_cls this
      | false =>
        refine Oper.wp_mono (fun a' w' h' => ?_) this
        obtain ⟨σ', ⟨G', hG'⟩, hh'⟩ := h'.cont
        exact ⟨_, lits_ok hG', hh'⟩
  · exact wp_cls (opLoad_ok h (by assumption) hh)
  · rename_i T p x hop
    cases hc : (!cls && o.dst.isNone) with
    | false => simp [hc, Out.holds] at hh
    | true =>
      simp only [hc, cond_true] at hh
      simp only [Bool.and_eq_true, Bool.not_eq_true', Option.isNone_iff_eq_none] at hc
      obtain ⟨rfl, hd⟩ := hc
      exact opStore_ok h hop hd hh
  · exact wp_cls (opNil_ok h (by assumption) hh)
  · exact wp_cls (opBin_ok h (by assumption) hh)
  · exact wp_cls (opUn_ok h (by assumption) hh)
  · rename_i S T x hop
    cases hb : isSB P S T with
    | true => rw [hb, cond_true] at hh; exact wp_cls (opSB_ok h hop hb hh)
    | false => rw [hb, cond_false] at hh; exact wp_cls (opConvX_ok h hop hh)
  · exact wp_cls (opMakeFunc_ok h (by assumption) hh)
  · exact wp_cls (opMake_ok h (by assumption) hh)
  · exact wp_cls (opSlice_ok h (by assumption) hh)
  · exact wp_cls (opFieldAddr_ok h (by assumption) hh)
  · exact wp_cls (opIndexAddr_ok h (by assumption) hh)
  · split at hh
    · exact wp_cls (opIndexS_ok h (by assumption) (by assumption) hh)
    · exact hh.elim
  · exact wp_cls (opExtract_ok h (by assumption) hh)
  · exact opCall_ok hE h (by assumption) hh
  · exact hh.elim
end
end Go.D
