/-
  append, at work; make.
-/
import Derived.Test.YtcgigcmleodjbaaVDi
namespace Go.D
set_option linter.unusedVariables false
section
variable {P : Program} {F : Fr P} {G : Gh} {σ : St} {a : Act} {w : World} {o : Oper} {K : St → Out} {Q : Post} {Qx : Exit → Act → World → Prop}
def retreeSt (σ : St) (l : Nat) (ab : List Nat) (T : Tree) : St := ({ σ with hp := (l, T) :: σ.hp.filter fun p => !ab.contains p.1 } : St).kill (l :: ab)
def inAb (G : Gh) (ab : List Nat) (b : Nat) : Prop := ∃ m, m ∈ ab ∧ G.ow b = .lab m
theorem app_core (h : RG F G σ a w) (t ty e : TypeId) (i : TypeInfo) (z : Value) (ht : P.underlying t = some (.slice e)) (hi : P.info? e = some i) (hz : i.zero = some z) (hk : 0 < i.size) (hzs : z.cells.size = i.size)
    (l : Nat) (ab : List Nat) (hla : l ∉ ab) {n m : Nat} {f g : Nat → Nat → C} {sv xv : Value} (hs : TO w (.sl i.size n f) sv (fun b => G.ow b = .lab l))
    (vs : List Value) (G2 : Nat → Nat → Nat → Prop) (hx : SrcOk P w i.size m xv vs) (h1 : ∀ u ∈ vs, u.oneCell' = true) (h2 : ∀ i', i' < m → ∀ j, j < i.size → ∃ u, vs[i' * i.size + j]? = some u ∧ TO w (g i' j) u (G2 i' j))
    (s2 : ∀ i', i' < m → ∀ j, j < i.size → ∀ b, G2 i' j b → inAb G ab b)
    (d2 : ∀ i', i' < m → ∀ j, j < i.size → ∀ i2, i2 < m → ∀ j', j' < i.size → ∀ b, G2 i' j b → G2 i2 j' b → i' = i2 ∧ j = j')
    (hby : 0 < i.bytes) (hb : (n + m) * i.bytes ≤ 140737488355328) :
    ∃ v' w', (Builtin.append_ #[t, t] ty #[sv, xv]).run P w = .ok v' w' ∧ Onward w w' ∧ (∀ b, G.ow b ≠ .gone → G.ow b ≠ .lab l → w'.heap[b]? = w.heap[b]?) ∧ v'.oneCell' = true ∧
      TO w' (.sl i.size (n + m) (appF n f g)) v' (fun b => (b = w.heap.size ∧ b < w'.heap.size) ∨ G.ow b = .lab l ∨ inAb G ab b) := by
  have h63 : n + m ≤ 140737488355328 := Nat.le_trans (Nat.le_mul_of_pos_right _ hby) hb
  obtain ⟨us, G1, hus, hu1, hu2, hus1, hud, hub⟩ := to_src (P := P) hk hs
  have d3 : ∀ i', i' < n → ∀ j, j < i.size → ∀ i2, i2 < m → ∀ j', j' < i.size → ∀ b, G1 i' j b → G2 i2 j' b → False := by
    intro i1 hi1 j1 hj1 i2 hi2 j2 hj2 b hb1 hb2
    have e1 := hus1 i1 hi1 j1 hj1 b hb1
    obtain ⟨mm, hm, e2⟩ := s2 i2 hi2 j2 hj2 b hb2
    rw [e1] at e2
    injection e2 with e2
    exact hla (e2 ▸ hm)
  -- a new block
  have grow : ∀ (ad : Option Addr) (cap : Nat), sv = .slice ad n cap → cap < n + m → ∃ v' w', (Builtin.append_ #[t, t] ty #[sv, xv]).run P w = .ok v' w' ∧ Onward w w' ∧ (∀ b, G.ow b ≠ .gone → G.ow b ≠ .lab l → w'.heap[b]? = w.heap[b]?) ∧ v'.oneCell' = true ∧
      TO w' (.sl i.size (n + m) (appF n f g)) v' (fun b => (b = w.heap.size ∧ b < w'.heap.size) ∨ G.ow b = .lab l ∨ inAb G ab b) := by
    intro ad cap hsv hlt
    subst hsv
    have hr := run_app_grow t ty e i z ht hi hz ad n cap us hus xv m vs hx hlt (by omega) hb
    have hge := grownCap_ge w (n + m) cap e
    have old : ∀ b, b < w.heap.size → (w.drew.alloc (.cells (us ++ vs ++ (Builtin.zeroCells z.cells (grownCap w (n + m) cap e - (n + m))).toList).toArray e)).heap[b]? = w.heap[b]? := fun b hb => heap_alloc_old w.drew _ b hb
    refine ⟨_, _, hr, ⟨rfl, rfl, ⟨rfl, by first | exact Nat.le_refl _ | exact Nat.le_succ _⟩, by simp⟩, fun b hbg _ => old b (h.lt b hbg), rfl, ?_⟩
    have ltab : ∀ b, inAb G ab b → b < w.heap.size := by rintro b ⟨mm, _, e⟩; exact h.lt b (by simp [e])
    have ltl : ∀ b, G.ow b = .lab l → b < w.heap.size := fun b e => h.lt b (by simp [e])
    refine to_app (us := us) (vs := vs) (G1 := G1) (G2 := G2) hus.len hx.len (heap_alloc_new w.drew _) (.inl ⟨rfl, by simp⟩) hge ?_ ?_ ?_ ?_ ?_ ?_ hud d2 d3
    · have hzl := size_zeroCells z.cells (grownCap w (n + m) cap e - (n + m))
      simp only [List.size_toArray, List.length_append, hus.len, hx.len, Array.length_toList, hzl, hzs, ← Nat.add_mul]
      rw [Nat.zero_add]
      exact Nat.le_of_eq (by congr 1; omega)
    · intro x hxl
      simp only [List.getElem?_toArray, Nat.zero_add]
      rw [List.getElem?_append_left (by simp [hus.len, hx.len, ← Nat.add_mul]; exact hxl)]
    · intro i1 hi1 j1 hj1
      obtain ⟨u, hu, ht⟩ := hu2 i1 hi1 j1 hj1
      exact ⟨u, hu, ht.frame fun b hb _ => ⟨old b (ltl b (hus1 i1 hi1 j1 hj1 b hb)), hb⟩⟩
    · intro i1 hi1 j1 hj1
      obtain ⟨u, hu, ht⟩ := h2 i1 hi1 j1 hj1
      exact ⟨u, hu, ht.frame fun b hb _ => ⟨old b (ltab b (s2 i1 hi1 j1 hj1 b hb)), hb⟩⟩
    · intro i1 hi1 j1 hj1 b hb
      have e1 := hus1 i1 hi1 j1 hj1 b hb
      exact ⟨.inr (.inl e1), Nat.ne_of_lt (ltl b e1)⟩
    · intro i1 hi1 j1 hj1 b hb
      have e1 := s2 i1 hi1 j1 hj1 b hb
      exact ⟨.inr (.inr e1), Nat.ne_of_lt (ltab b e1)⟩
  rcases hs with ⟨⟨ad0, hsv⟩, hn⟩ | ⟨g0, off, cap, row0, e0, GG, hsv, _⟩
  · subst hn
    by_cases hm : m = 0
    · subst hm
      have hr := run_app_nil0 t ty e i ht hi ad0 xv vs hx
      exact ⟨_, _, by rw [hsv]; exact hr, ⟨rfl, rfl, ⟨rfl, by first | exact Nat.le_refl _ | exact Nat.le_succ _⟩, Nat.le_refl _⟩, fun _ _ _ => rfl, rfl, .inl ⟨⟨ad0, rfl⟩, rfl⟩⟩
    · exact grow ad0 0 hsv (by omega)
  · by_cases hroom : n + m ≤ cap
    · by_cases hc0 : cap = 0
      · have hn0 : n = 0 := by omega
        have hm0 : m = 0 := by omega
        subst hn0 hm0 hc0
        have hr := run_app_nil0 t ty e i ht hi (some ⟨g0, off, none⟩) xv vs hx
        exact ⟨_, _, by rw [hsv]; exact hr, ⟨rfl, rfl, ⟨rfl, by first | exact Nat.le_refl _ | exact Nat.le_succ _⟩, Nat.le_refl _⟩, fun _ _ _ => rfl, rfl, .inl ⟨⟨_, rfl⟩, rfl⟩⟩
      obtain ⟨hlab, row, e', hg, hnc, hcap, hrow, hne⟩ := hub g0 off cap hsv (by omega)
      have hck : (n + m) * i.size ≤ cap * i.size := Nat.mul_le_mul_right _ hroom
      have hfit : off + n * i.size + vs.length ≤ row.size := by rw [hx.len]; rw [Nat.add_mul] at hck; omega
      have hr := run_app_room t ty e i ht hi g0 off n cap row e' hg xv m vs hx h1 hroom hfit
      have old : ∀ b, b ≠ g0 → (w.setRow g0 (row.toList.take (off + n * i.size) ++ vs ++ row.toList.drop (off + n * i.size + vs.length)).toArray).heap[b]? = w.heap[b]? := fun b hb => setRow_other w g0 b _ hb
      have neab : ∀ b, inAb G ab b → b ≠ g0 := by
        rintro b ⟨mm, hm, e⟩ rfl
        rw [hlab] at e
        injection e with e
        exact hla (e ▸ hm)
      refine ⟨_, w.setRow g0 (row.toList.take (off + n * i.size) ++ vs ++ row.toList.drop (off + n * i.size + vs.length)).toArray, by rw [hsv]; exact hr, ⟨rfl, rfl, ⟨rfl, by first | exact Nat.le_refl _ | exact Nat.le_succ _⟩, by simp⟩, fun b _ hbl => old b (fun e => hbl (e ▸ hlab)), rfl, ?_⟩
      refine to_app (us := us) (vs := vs) (G1 := G1) (G2 := G2) hus.len hx.len (setRow_heap w g0 row _ e' _ hg) (.inr (.inl hlab)) hroom ?_ ?_ ?_ ?_ ?_ ?_ hud d2 d3
      · simp only [List.size_toArray, List.length_append, List.length_take, List.length_drop, Array.length_toList]
        omega
      · intro x hxl
        rw [Nat.add_mul] at hxl
        simp only [List.getElem?_toArray]
        rw [List.append_assoc]
        by_cases hlo : x < n * i.size
        · rw [List.getElem?_append_left (by simp; omega), List.getElem?_append_left (by rw [hus.len]; exact hlo), ← hrow x hlo]
          simp only [List.getElem?_take, show off + x < off + n * i.size from by omega, if_true]
          simp
        · have e1 : (List.take (off + n * i.size) row.toList).length = off + n * i.size := by simp; omega
          rw [List.getElem?_append_right (by rw [e1]; omega), e1, List.getElem?_append_left (by rw [hx.len]; omega), List.getElem?_append_right (by rw [hus.len]; omega), hus.len]
          congr 1
          omega
      · intro i1 hi1 j1 hj1
        obtain ⟨u, hu, ht⟩ := hu2 i1 hi1 j1 hj1
        exact ⟨u, hu, ht.frame fun b hb _ => ⟨old b (hne i1 hi1 j1 hj1 b hb), hb⟩⟩
      · intro i1 hi1 j1 hj1
        obtain ⟨u, hu, ht⟩ := h2 i1 hi1 j1 hj1
        exact ⟨u, hu, ht.frame fun b hb _ => ⟨old b (neab b (s2 i1 hi1 j1 hj1 b hb)), hb⟩⟩
      · intro i1 hi1 j1 hj1 b hb
        exact ⟨.inr (.inl (hus1 i1 hi1 j1 hj1 b hb)), hne i1 hi1 j1 hj1 b hb⟩
      · intro i1 hi1 j1 hj1 b hb
        have e1 := s2 i1 hi1 j1 hj1 b hb
        exact ⟨.inr (.inr e1), neab b e1⟩
    · exact grow _ cap hsv (by omega)
/-- a slot receives a tree that is new or grown -/
def treeK (o : Oper) (σ : St) (l : Nat) (ab : List Nat) (T : Tree) (K : St → Out) : Out :=
  match o.dst with
  | some d => if d < σ.nt ∧ σ.fl.contains l = false ∧ ab.all (fun m => !σ.fl.contains m) = true then K ((retreeSt σ l ab T).put d (.v false [.ref l])) else .bad
  | none => .bad
theorem treeK_all {w' : World} {l : Nat} {ab : List Nat} {T : Tree} {v : Value} (h : RG F G σ a w) (hh : (treeK o σ l ab T K).holds Q) (ho : Onward w w') (hs : ∀ b, G.ow b ≠ .gone → G.ow b ≠ .lab l → w'.heap[b]? = w.heap[b]?) (h1 : v.oneCell' = true)
    (hT : TO w' (.sl T.k T.n T.f) v (fun b => (w.heap.size ≤ b ∧ b < w'.heap.size) ∨ G.ow b = .lab l ∨ inAb G ab b)) : ∃ σ' G', RG F G' σ' (a.put o.dst v) w' ∧ (K σ').holds Q := by
  unfold treeK at hh
  split at hh
  · rename_i d hd
    split at hh
    · rename_i hc
      obtain ⟨hlt, hfl, hab⟩ := hc
      have hgone : ∀ b, w.heap.size ≤ b → G.ow b = .gone := by
        intro b hb1
        cases hq : G.ow b with
        | gone => rfl
        | _ => exact absurd (h.lt b (by simp [hq])) (by omega)
      have hN : ∀ b, ((w.heap.size ≤ b ∧ b < w'.heap.size) ∨ G.ow b = .lab l ∨ inAb G ab b) → b < w'.heap.size ∧ (G.ow b = .gone ∨ G.ow b = .lab l ∨ ∃ m, m ∈ ab ∧ G.ow b = .lab m) := by
        intro b hb
        rcases hb with ⟨hb1, hb2⟩ | hb | hb
        · exact ⟨hb2, .inl (hgone b hb1)⟩
        · exact ⟨Nat.lt_of_lt_of_le (h.lt b (by simp [hb])) ho.size, .inr (.inl hb)⟩
        · obtain ⟨m, hm, e⟩ := hb
          exact ⟨Nat.lt_of_lt_of_le (h.lt b (by simp [e])) ho.size, .inr (.inr ⟨m, hm, e⟩)⟩
      obtain ⟨G', hG, hv, _⟩ := h.retree l ab T v _ ho hs hN hT (by simpa using hfl) (by simpa using hab)
      rw [hd]
      exact ⟨_, G', RG.put (x := .v false [.ref l]) hG hlt ⟨_, rfl, hv.symm, h1⟩, hh⟩
    · exact hh.elim
  · exact hh.elim
theorem treeK_ok {w' : World} {l : Nat} {ab : List Nat} {T : Tree} {v : Value} (h : RG F G σ a w) (hh : (treeK o σ l ab T K).holds Q) (ho : Onward w w') (hs : ∀ b, G.ow b ≠ .gone → G.ow b ≠ .lab l → w'.heap[b]? = w.heap[b]?) (h1 : v.oneCell' = true)
    (hT : TO w' (.sl T.k T.n T.f) v (fun b => (w.heap.size ≤ b ∧ b < w'.heap.size) ∨ G.ow b = .lab l ∨ inAb G ab b)) : Cont F K Q (a.put o.dst v) w' := by
  obtain ⟨σ', G', k1, k2⟩ := treeK_all h hh ho hs h1 hT
  exact ⟨σ', ⟨G', k1⟩, k2⟩
/-- a new tree under a label of the slot's own -/
theorem treeK_new {w' : World} {T : Tree} {v : Value} (h : RG F G σ a w) (hh : (treeK o σ (64 * o.dst.getD 0) [] T K).holds Q) (ho : Onward w w') (hs : ∀ b, b < w.heap.size → w'.heap[b]? = w.heap[b]?) (h1 : v.oneCell' = true)
    (hT : TO w' (.sl T.k T.n T.f) v (fun b => w.heap.size ≤ b ∧ b < w'.heap.size)) : ContE F G a w o.dst K Q (a.put o.dst v) w' := by
  unfold treeK at hh
  split at hh
  · rename_i d hd
    split at hh
    · rename_i hc
      obtain ⟨hlt, hfl, _⟩ := hc
      have hgone : ∀ b, w.heap.size ≤ b → G.ow b = .gone := by
        intro b hb1
        cases hq : G.ow b with
        | gone => rfl
        | _ => exact absurd (h.lt b (by simp [hq])) (by omega)
      obtain ⟨G', hG, hv, hv2, _, hbe, how⟩ := h.retree (64 * o.dst.getD 0) [] T v _ ho (fun b hb _ => hs b (h.lt b hb)) (fun b hb => ⟨hb.2, .inl (hgone b hb.1)⟩) hT (by simpa using hfl) (by simp)
      refine ⟨_, G', ?_, hh, ⟨v, rfl⟩, ho, fun g hg => .inl (hs g hg), fun g hg => how rfl (fun g hg => hgone g hg.1) g hg, fun b _ => by rw [hbe], fun l hl => hv2 l ?_⟩
      · rw [hd]
        refine RG.put (x := .v false [.ref (64 * d)]) ?_ hlt ⟨_, rfl, ?_, h1⟩
        · rw [hd] at hG; exact hG
        · rw [hd] at hv; exact hv.symm
      · have := hl d hd
        rw [hd]
        simp only [Option.getD_some]
        omega
    · exact hh.elim
  · exact hh.elim
/-- the slice that is appended to: its label (a new one for nil), its elements -/
def baseOf (σ : St) (d : Nat) (ty : Option Ty) : TV → Option (List Prop × Nat × (t : Ty) × List (El t))
  | .v false [.ref l] => match look σ.hp l with
    | some T => some ([], l, ⟨T.t, T.xs⟩)
    | none => none
  | .v false [.sub l k' lo m] => match look σ.hp l with
    | some T => if T.k = k' then some ([lo + m ≤ T.n], l, ⟨T.t, cut T.xs lo m⟩) else none
    | none => none
  | .v false [.nil] => match ty with
    | some t => some ([], 64 * d, ⟨t, []⟩)
    | none => none
  | _ => none
theorem baseOf_ok {d l : Nat} {p : List Prop} {ty : Option Ty} {s : (t : Ty) × List (El t)} {x : TV} {v : Value} (h : RG F G σ a w) (hx : TVR w G x v) (hs : baseOf σ d ty x = some (p, l, s)) (hp : ∀ q ∈ p, q) : TO w (fcC (.l s.1 s.2)) v (fun b => G.ow b = .lab l) := by
  unfold baseOf at hs
  split at hs
  · rename_i l'
    split at hs
    · rename_i T hT
      simp only [Option.some.injEq, Prod.mk.injEq] at hs
      obtain ⟨rfl, rfl, rfl⟩ := hs
      obtain ⟨c, hc, hcr⟩ := hx
      injection hc with hc
      subst hc
      rw [hcr.1, fcC_tree]
      exact h.hp _ T hT
    · simp at hs
  · rename_i l' k' lo m'
    split at hs
    · rename_i T hT
      split at hs
      · rename_i hk
        simp only [Option.some.injEq, Prod.mk.injEq] at hs
        obtain ⟨rfl, rfl, rfl⟩ := hs
        obtain ⟨c, hc, hcr⟩ := hx
        injection hc with hc
        subst hc
        have hto := h.hp _ T hT
        rw [hk] at hto
        have hle := hp _ (List.mem_singleton.2 rfl)
        have h2 := sub_own hto hcr hle
        rw [← hk] at h2
        exact to_cut h2 hle
      · simp at hs
    · simp at hs
  · split at hs
    · simp only [Option.some.injEq, Prod.mk.injEq] at hs
      obtain ⟨rfl, rfl, rfl⟩ := hs
      obtain ⟨c, hc, hcr⟩ := hx
      injection hc with hc
      subst hc
      rw [fcC_l]
      exact .inl ⟨⟨none, hcr⟩, rfl⟩
    · simp at hs
  · simp at hs
def Room (n bytes : Nat) : Prop := n * bytes ≤ 140737488355328
def opAppend (P : Program) (ty : TypeId → Option Ty) (o : Oper) (T : TypeId) (s x : Operand) (σ : St) (K : St → Out) : Out :=
  match P.underlying T with
  | some (.slice e) => match P.info? e with
    | some i => match i.zero with
      | some z => if 0 < i.bytes ∧ z.cells.size = i.size then (match baseOf σ (o.dst.getD 0) (ty e) (σ.eval s) with
        | some (p, l, ⟨t, xs⟩) => if t.width = i.size then (match σ.eval x with
          | .v false [.nil] => obs p (.ob (Room (xs.length + 0) i.bytes) (treeK o σ l [] ⟨t, xs⟩ K))
          | y => if flatTy t then (match srcOf σ y with
              | some (q, ⟨t', ys⟩) => if h : t' = t then obs p (.ob q (.ob (Room (xs.length + ys.length) i.bytes) (treeK o σ l [] ⟨t, xs ++ (h ▸ ys)⟩ K))) else .bad
              | none => .bad)
            else (match y with
              | .v false [.ref l2] => match look σ.hp l2 with
                | some t2 => if h : t2.t = t then if l = l2 then .bad else obs p (.ob (Room (xs.length + t2.xs.length) i.bytes) (treeK o σ l [l2] ⟨t, xs ++ (h ▸ t2.xs)⟩ K)) else .bad
                | none => .bad
              | _ => .bad)) else .bad
        | none => .bad) else .bad
      | none => .bad
    | none => .bad
  | _ => .bad
theorem le_app {t : Ty} {xs ys : List (El t)} {i : Nat} (hi : t.width = i) : le (.sl i (xs.length + ys.length) (appF xs.length (fun i j => fcC (cell t xs i j)) (fun i j => fcC (cell t ys i j)))) (fcC (.l t (xs ++ ys))) := by
  rw [fcC_l, List.length_append]
  subst hi
  refine le_sl fun i hi j hj => ?_
  simp only [appF]
  split
  · rename_i hlt; rw [cell_append_left hlt]; exact le.refl _
  · rename_i hge; rw [cell_append_right (by omega)]; exact le.refl _
theorem opAppend_ok {ty : TypeId → Option Ty} {T : TypeId} {s x : Operand} (h : RG F G σ a w) (ho : o.op = .call { callee := .builtin .append, args := #[s, x], argTypes := #[T, T] }) (hh : (opAppend P ty o T s x σ K).holds Q) : o.wp P a w (Cont F K Q) Qx := by
  unfold opAppend at hh
  have hsv := eval_ok h s
  have hxv := eval_ok h x
  have fin : ∀ v w', (Builtin.append_ #[T, T] o.type #[a.eval s, a.eval x]).run P w = .ok v w' → (execOp a.eval o).run P w = .ok (.value v) w' := by
    intro v w' hr
    simp [execOp, ho, resolve, invoke, builtin, hr]
  split at hh
  · rename_i e hu
    split at hh
    · rename_i i hi
      split at hh
      · rename_i z hz
        split at hh
        · rename_i hc
          obtain ⟨hby, hzs⟩ := hc
          split at hh
          · rename_i p l t xs hb
            split at hh
            · rename_i hw
              have hk : 0 < i.size := by rw [← hw]; exact width_pos t
              split at hh
              · rename_i hxe
                obtain ⟨hp, hroom, hh⟩ := obs_holds hh
                have hbase := baseOf_ok h hsv hb hp
                rw [fcC_l, hw] at hbase
                rw [hxe] at hxv
                obtain ⟨c, hcc, hcr⟩ := hxv
                injection hcc with hcc
                subst hcc
                have htr : TR w (fun _ => True) (.sl i.size 0 (fun _ _ => .nl)) (a.eval x) := ⟨none, 0, hcr, Nat.le_refl _, .inl rfl⟩
                obtain ⟨news, hn1, hn2, hn3⟩ := tr_src (P := P) hk htr
                obtain ⟨v', w', hr, hon, hsame, h1, hT⟩ := app_core (P := P) (g := fun _ _ => .nl) h T o.type e i z hu hi hz hk hzs l [] (by simp) hbase news (fun _ _ _ => False) hn1 hn2
                  (by simp) (by simp) (by simp) hby hroom
                refine wp_val (fin _ _ hr) (treeK_ok h hh hon hsame h1 ?_)
                rw [← fcC_tree]
                have hl2 := le_app (xs := xs) (ys := []) hw
                rw [List.append_nil] at hl2
                refine TO.le hl2 (TO.le (le_sl fun i' hi' j' hj' => ?_) (hT.frame fun b hb _ => ⟨rfl, hb.imp (fun hx => ⟨Nat.le_of_eq hx.1.symm, hx.2⟩) id⟩))
                simp only [appF]
                rw [if_pos (by omega), if_pos (by omega)]
                exact le.refl _
              · split at hh
                · rename_i hflat
                  split at hh
                  · rename_i q t' ys hq
                    split at hh
                    · rename_i he
                      subst he
                      obtain ⟨hp, hqq, hroom, hh⟩ := obs_holds hh
                      have hbase := baseOf_ok h hsv hb hp
                      rw [fcC_l, hw] at hbase
                      obtain ⟨S, htr⟩ := srcOf_ok h hxv hq hqq
                      rw [fcC_l, hw] at htr
                      obtain ⟨news, hn1, hn2, hn3⟩ := tr_src (P := P) hk htr
                      obtain ⟨v', w', hr, hon, hsame, h1, hT⟩ := app_core (P := P) (g := fun i j => fcC (cell t' ys i j)) h T o.type e i z hu hi hz hk hzs l [] (by simp) hbase news (fun _ _ _ => False) hn1 hn2
                        (fun i' hi' j hj => by
                          obtain ⟨u, hu', ht⟩ := hn3 i' hi' j hj
                          obtain ⟨u2, hu2⟩ := cell_flat hflat ys i' j (by omega)
                          refine ⟨u, hu', ?_⟩
                          rw [hu2] at ht ⊢
                          exact ht)
                        (by simp) (by simp) hby hroom
                      refine wp_val (fin _ _ hr) (treeK_ok h hh hon hsame h1 ?_)
                      rw [← fcC_tree]
                      exact TO.le (le_app hw) (hT.frame fun b hb _ => ⟨rfl, hb.imp (fun hx => ⟨Nat.le_of_eq hx.1.symm, hx.2⟩) id⟩)
                    · exact hh.elim
                  · exact hh.elim
                · split at hh
                  · rename_i l2 hxe
                    split at hh
                    · rename_i t2 ht2
                      split at hh
                      · rename_i he
                        split at hh
                        · exact hh.elim
                        · rename_i hne
                          obtain ⟨hp, hroom, hh⟩ := obs_holds hh
                          have hbase := baseOf_ok h hsv hb hp
                          rw [fcC_l, hw] at hbase
                          rw [hxe] at hxv
                          obtain ⟨c, hcc, hcr⟩ := hxv
                          injection hcc with hcc
                          subst hcc
                          have hto := h.hp l2 t2 ht2
                          obtain ⟨t2t, t2x⟩ := t2
                          dsimp only at he
                          subst he
                          rw [← fcC_tree, fcC_l, hw, ← hcr.1] at hto
                          obtain ⟨news, G2, hn1, hn2, hn3, hn4, hn5, _⟩ := to_src (P := P) hk hto
                          obtain ⟨v', w', hr, hon, hsame, h1, hT⟩ := app_core (P := P) h T o.type e i z hu hi hz hk hzs l [l2] (by simpa using hne) hbase news G2 hn1 hn2 hn3
                            (fun i' hi' j hj b hb => ⟨l2, by simp, hn4 i' hi' j hj b hb⟩) hn5 hby hroom
                          refine wp_val (fin _ _ hr) (treeK_ok h hh hon hsame h1 ?_)
                          rw [← fcC_tree]
                          exact TO.le (le_app hw) (hT.frame fun b hb _ => ⟨rfl, hb.imp (fun hx => ⟨Nat.le_of_eq hx.1.symm, hx.2⟩) id⟩)
                      · exact hh.elim
                    · exact hh.elim
                  · exact hh.elim
            · exact hh.elim
          · exact hh.elim
        · exact hh.elim
      · exact hh.elim
    · exact hh.elim
  · exact hh.elim
end
end Go.D
