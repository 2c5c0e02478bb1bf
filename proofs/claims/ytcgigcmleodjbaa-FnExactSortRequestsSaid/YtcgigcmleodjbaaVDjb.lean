/-
  append to an empty slice without room, where the order is drawn: the memory is new whatever is appended.
-/
import Derived.Test.YtcgigcmleodjbaaVDj
namespace Go.D
set_option linter.unusedVariables false
section
variable {P : Program} {F : Fr P} {G : Gh} {σ : St} {a : Act} {w : World} {o : Oper} {K : St → Out} {Q : Post} {Qx : Exit → Act → World → Prop}
theorem app_new (t ty e : TypeId) (i : TypeInfo) (z : Value) (ht : P.underlying t = some (.slice e)) (hi : P.info? e = some i) (hz : i.zero = some z) (hk : 0 < i.size) (hzs : z.cells.size = i.size)
    {m : Nat} {g : Nat → Nat → C} {xv : Value} {ad : Option Addr} (vs : List Value) (hx : SrcOk P w i.size m xv vs) (h2 : ∀ i', i' < m → ∀ j, j < i.size → ∃ u, vs[i' * i.size + j]? = some u ∧ TO w (g i' j) u (fun _ => False))
    (hby : 0 < i.bytes) (hb : m * i.bytes ≤ 140737488355328) :
    ∃ v' w', (Builtin.append_ #[t, t] ty #[.slice ad 0 0, xv]).run P w = .ok v' w' ∧ Onward w w' ∧ (∀ b, b < w.heap.size → w'.heap[b]? = w.heap[b]?) ∧ v'.oneCell' = true ∧
      TO w' (.sl i.size m g) v' (fun b => w.heap.size ≤ b ∧ b < w'.heap.size) := by
  have h63 : m ≤ 140737488355328 := Nat.le_trans (Nat.le_mul_of_pos_right _ hby) hb
  by_cases hm : m = 0
  · subst hm
    have hr := run_app_nil0 t ty e i ht hi ad xv vs hx
    exact ⟨_, _, hr, ⟨rfl, rfl, ⟨rfl, by first | exact Nat.le_refl _ | exact Nat.le_succ _⟩, Nat.le_refl _⟩, fun _ _ => rfl, rfl, .inl ⟨⟨ad, rfl⟩, rfl⟩⟩
  · have hus : SrcOk P w i.size 0 (.slice ad 0 0) [] := by
      refine ⟨⟨ad, 0, rfl⟩, by simp, fun w' hw' => ?_⟩
      cases ad with
      | none => simp [Builtin.firstCells]
      | some b => simp [Builtin.firstCells, loadCells, loadCellsFrom]
    have hr := run_app_grow t ty e i z ht hi hz ad 0 0 [] hus xv m vs hx (by omega) (by omega) (by rw [Nat.zero_add]; exact hb)
    rw [Nat.zero_add, List.nil_append] at hr
    have hge := grownCap_ge w m 0 e
    have old : ∀ b, b < w.heap.size → (w.drew.alloc (.cells (vs ++ (Builtin.zeroCells z.cells (grownCap w m 0 e - m)).toList).toArray e)).heap[b]? = w.heap[b]? := fun b hb => heap_alloc_old w.drew _ b hb
    refine ⟨_, _, hr, ⟨rfl, rfl, ⟨rfl, by first | exact Nat.le_refl _ | exact Nat.le_succ _⟩, by simp⟩, old, rfl, .inr ⟨w.heap.size, 0, grownCap w m 0 e, _, e, fun _ _ _ => False, rfl, hge, ?_, heap_alloc_new w.drew _, ⟨Nat.le_refl _, by simp⟩, fun i1 hi1 j1 hj1 => ?_, fun i1 hi1 j1 hj1 b hb => hb.elim, fun i1 hi1 j1 hj1 i2 hi2 j2 hj2 b hb => hb.elim⟩⟩
    · have hzl := size_zeroCells z.cells (grownCap w m 0 e - m)
      simp only [List.size_toArray, List.length_append, hx.len, Array.length_toList, hzl, hzs, ← Nat.add_mul]
      rw [Nat.zero_add]
      exact Nat.le_of_eq (by congr 1; omega)
    · obtain ⟨u, hu, ht'⟩ := h2 i1 hi1 j1 hj1
      refine ⟨u, ?_, ht'.frame fun b hb _ => hb.elim⟩
      have hlt := (List.getElem?_eq_some_iff.1 hu).1
      rw [Nat.zero_add]
      simp only [List.getElem?_toArray]
      rw [List.getElem?_append_left hlt]
      exact hu
def opAppC (P : Program) (ty : TypeId → Option Ty) (o : Oper) (T : TypeId) (s x : Operand) (σ : St) (K : St → Out) : Out :=
  match s with
  | .tmp ts => match σ.get ts, P.underlying T with
    | .capd l 0, some (.slice e) => match P.info? e, look σ.hp l with
      | some i, some T0 => match i.zero with
        | some z => if 0 < i.bytes ∧ z.cells.size = i.size ∧ T0.t.width = i.size ∧ flatTy T0.t = true then
            (match srcOf σ (σ.eval x) with
              | some (q, ⟨t', ys⟩) => if h : t' = T0.t then .ob q (.ob (Room ys.length i.bytes) (treeK o σ (64 * o.dst.getD 0) [] ⟨T0.t, h ▸ ys⟩ K)) else .bad
              | none => .bad) else .bad
        | none => .bad
      | _, _ => .bad
    | _, _ => .bad
  | _ => .bad
theorem opAppC_ok {ty : TypeId → Option Ty} {T : TypeId} {s x : Operand} (h : RG F G σ a w) (ho : o.op = .call { callee := .builtin .append, args := #[s, x], argTypes := #[T, T] }) (hh : (opAppC P ty o T s x σ K).holds Q) : o.wp P a w (ContE F G a w o.dst K Q) Qx := by
  unfold opAppC at hh
  have hxv := eval_ok h x
  have fin : ∀ v w', (Builtin.append_ #[T, T] o.type #[a.eval s, a.eval x]).run P w = .ok v w' → (execOp a.eval o).run P w = .ok (.value v) w' := by
    intro v w' hr
    simp [execOp, ho, resolve, invoke, builtin, hr]
  split at hh
  · rename_i ts
    split at hh
    · rename_i l e hg hu
      have hsv := raw_ok h ts
      rw [hg] at hsv
      obtain ⟨⟨hv, _⟩, ad, n, hl⟩ := hsv
      split at hh
      · rename_i i T0 hi hT
        split at hh
        · rename_i z hz
          split at hh
          · rename_i hc
            obtain ⟨hby, hzs, hw, hflat⟩ := hc
            have hk : 0 < i.size := by rw [← hw]; exact width_pos T0.t
            have hn : n = 0 := by
              rcases h.hp l T0 hT with ⟨⟨ad', e1⟩, _⟩ | ⟨g0, off, cap, row, e', GG, e1, hnc, _⟩
              · rw [hl] at e1; injection e1
              · rw [hl] at e1; injection e1 with _ e2 e3; omega
            subst hn
            have hsl : a.eval (.tmp ts) = .slice ad 0 0 := hv.trans hl
            split at hh
            · rename_i q t' ys hq
              split at hh
              · rename_i he
                obtain ⟨T0t, T0x⟩ := T0
                dsimp only at he hw hflat hk
                subst he
                obtain ⟨hqq, hroom, hh⟩ := hh
                obtain ⟨S, htr⟩ := srcOf_ok h hxv hq hqq
                rw [fcC_l, hw] at htr
                obtain ⟨news, hn1, hn2, hn3⟩ := tr_src (P := P) hk htr
                obtain ⟨v', w', hr, hon, hold, h1, hT'⟩ := app_new (P := P) (g := fun i j => fcC (cell t' ys i j)) (ad := ad) T o.type e i z hu hi hz hk hzs news hn1
                  (fun i' hi' j hj => by
                    obtain ⟨u, hu', ht⟩ := hn3 i' hi' j hj
                    obtain ⟨u2, hu2⟩ := cell_flat hflat ys i' j (by omega)
                    refine ⟨u, hu', ?_⟩
                    rw [hu2] at ht ⊢
                    exact ht) hby hroom
                rw [← hsl] at hr
                refine wp_val (fin _ _ hr) (treeK_new h hh hon hold h1 ?_)
                rw [← fcC_tree, fcC_l, hw]
                exact hT'
              · exact hh.elim
            · exact hh.elim
          · exact hh.elim
        · exact hh.elim
      · exact hh.elim
    · exact hh.elim
  · exact hh.elim
/-- a new tree under a label of the slot's own, of known capacity -/
def treeKc (o : Oper) (σ : St) (c : Nat) (T : Tree) (K : St → Out) : Out :=
  match o.dst with
  | some d => if d < σ.nt ∧ σ.fl.contains (64 * d) = false then K ((retreeSt σ (64 * d) [] T).put d (.capd (64 * d) c)) else .bad
  | none => .bad
theorem treeKc_new {w' : World} {T : Tree} {v : Value} {c : Nat} (h : RG F G σ a w) (hh : (treeKc o σ c T K).holds Q) (ho : Onward w w') (hs : ∀ b, b < w.heap.size → w'.heap[b]? = w.heap[b]?) (h1 : v.oneCell' = true) (hc : ∃ ad n, v = .slice ad n c)
    (hT : TO w' (.sl T.k T.n T.f) v (fun b => w.heap.size ≤ b ∧ b < w'.heap.size)) : ContE F G a w o.dst K Q (a.put o.dst v) w' := by
  unfold treeKc at hh
  split at hh
  · rename_i d hd
    split at hh
    · rename_i hcc
      obtain ⟨hlt, hfl⟩ := hcc
      have hgone : ∀ b, w.heap.size ≤ b → G.ow b = .gone := by
        intro b hb1
        cases hq : G.ow b with
        | gone => rfl
        | _ => exact absurd (h.lt b (by simp [hq])) (by omega)
      obtain ⟨G', hG, hv, hv2, _, hbe, how⟩ := h.retree (64 * d) [] T v _ ho (fun b hb _ => hs b (h.lt b hb)) (fun b hb => ⟨hb.2, .inl (hgone b hb.1)⟩) hT (by simpa using hfl) (by simp)
      refine ⟨_, G', ?_, hh, ⟨v, rfl⟩, ho, fun g hg => .inl (hs g hg), fun g hg => how rfl (fun g hg => hgone g hg.1) g hg, fun b _ => by rw [hbe], fun l hl => hv2 l ?_⟩
      · rw [hd]
        obtain ⟨ad, n, hc⟩ := hc
        exact RG.put (x := .capd (64 * d) c) hG hlt ⟨⟨hv.symm, h1⟩, ad, n, hv.trans hc⟩
      · have := hl d hd
        omega
    · exact hh.elim
  · exact hh.elim
end
end Go.D
