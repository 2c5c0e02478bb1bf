/-
  append.
-/
import Derived.Test.YtcgigcmleodjbaaVDh
namespace Go.D
set_option linter.unusedVariables false
section
variable {P : Program} {F : Fr P} {G : Gh} {σ : St} {a : Act} {w : World} {o : Oper} {K : St → Out} {Q : Post} {Qx : Exit → Act → World → Prop}
structure SrcOk (P : Program) (w : World) (size m : Nat) (xv : Value) (news : List Value) : Prop where
  isSl : ∃ b c, xv = .slice b m c
  len : news.length = m * size
  rd : ∀ w' : World, (∀ p, w'.cell? p = w.cell? p) → (Builtin.firstCells size m xv).run P w' = .ok news.toArray w'
theorem run_app_room (t ty e : TypeId) (i : TypeInfo) (ht : P.underlying t = some (.slice e)) (hi : P.info? e = some i) (g off n cap : Nat) (cur : Array Value) (e' : TypeId) (hg : w.heap[g]? = some (.cells cur e' (0, 0)))
    (xv : Value) (m : Nat) (news : List Value) (hx : SrcOk P w i.size m xv news) (h1 : ∀ u ∈ news, u.oneCell' = true) (hroom : n + m ≤ cap) (hfit : off + n * i.size + news.length ≤ cur.size) :
    (Builtin.append_ #[t, t] ty #[.slice (some ⟨g, off, none⟩) n cap, xv]).run P w =
      .ok (.slice (some ⟨g, off, none⟩) (n + m) cap) (w.setRow g (cur.toList.take (off + n * i.size) ++ news ++ cur.toList.drop (off + n * i.size + news.length)).toArray) := by
  obtain ⟨⟨b, c, rfl⟩, hl, hrd⟩ := hx
  have hf := hrd w (fun _ => rfl)
  have hst := run_storeCells_at P g (off + n * i.size) e' news 0 cur w hg (by simpa using hfit) h1
  simp only [Nat.add_zero] at hst
  simp [Builtin.append_, run_underlying ht, sizeOf, typeInfo, hi, Builtin.lenOf, hroom, hf, add_at, hst]
theorem run_app_nil0 (t ty e : TypeId) (i : TypeInfo) (ht : P.underlying t = some (.slice e)) (hi : P.info? e = some i) (ad : Option Addr) (xv : Value) (news : List Value) (hx : SrcOk P w i.size 0 xv news) :
    (Builtin.append_ #[t, t] ty #[.slice ad 0 0, xv]).run P w = .ok (.slice ad 0 0) w := by
  obtain ⟨⟨b, c, rfl⟩, hl, hrd⟩ := hx
  have hf := hrd w (fun _ => rfl)
  have hn : news = [] := List.eq_nil_of_length_eq_zero (by simpa using hl)
  subst hn
  cases ad <;>
  simp [Builtin.append_, run_underlying ht, sizeOf, typeInfo, hi, Builtin.lenOf, hf, storeCells]
theorem run_app_grow (t ty e : TypeId) (i : TypeInfo) (z : Value) (ht : P.underlying t = some (.slice e)) (hi : P.info? e = some i) (hz : i.zero = some z)
    (ad : Option Addr) (n cap : Nat) (olds : List Value) (hs : SrcOk P w i.size n (.slice ad n cap) olds) (xv : Value) (m : Nat) (news : List Value) (hx : SrcOk P w i.size m xv news)
    (hg : cap < n + m) (h63 : ((n + m : Nat) : Int) ≤ 9223372036854775807) (hfit : (n + m) * i.bytes ≤ 140737488355328) :
    (Builtin.append_ #[t, t] ty #[.slice ad n cap, xv]).run P w =
      .ok (.slice (some ⟨w.heap.size, 0, none⟩) (n + m) (grownCap w (n + m) cap e)) (w.drew.alloc (.cells (olds ++ news ++ (Builtin.zeroCells z.cells (grownCap w (n + m) cap e - (n + m))).toList).toArray e)) := by
  obtain ⟨⟨b, c, rfl⟩, hl, hrd⟩ := hx
  have hn : ¬ (n + m ≤ cap) := by omega
  have h63' : ¬ (9223372036854775807 < ((n : Int) + (m : Int))) := by omega
  have h48 := growslice_fits hg hfit
  have h48' : ¬ (281474976710656 < Builtin.nextslicecap (n + m) cap * i.bytes) := by omega
  have hf := hrd w.drew (fun _ => rfl)
  have hfo := hs.rd w.drew (fun _ => rfl)
  simp [Builtin.append_, run_underlying ht, sizeOf, typeInfo, zeroValue, hi, hz, Builtin.lenOf, hn, h63', h48', Question.forced, hf, hfo, newRow, grownCap]
  congr 2
  apply Array.ext'
  simp
/-- the cells that a slice shows, read as a list -/
theorem tr_src {S : Nat → Prop} {k m : Nat} {f : Nat → Nat → C} {v : Value} (hk : 0 < k) (h : TR w S (.sl k m f) v) : ∃ news, SrcOk P w k m v news ∧ (∀ u ∈ news, u.oneCell' = true) ∧ ∀ i, i < m → ∀ j, j < k → ∃ u, news[i * k + j]? = some u ∧ TR w S (f i j) u := by
  obtain ⟨ad, cap, rfl, hnc, hz | ⟨g, off, row, e, fr, rfl, hS, hg, hrow⟩⟩ := h
  · subst hz
    refine ⟨[], ⟨⟨ad, cap, rfl⟩, by simp, fun w' hw' => ?_⟩, by simp, by simp⟩
    cases ad with
    | none => simp [Builtin.firstCells]
    | some b => simp [Builtin.firstCells, loadCells, loadCellsFrom]
  · let news : List Value := (List.range (m * k)).map fun x => (row[off + x]?).getD undef
    have hat : ∀ x, x < m * k → ∃ u, row[off + x]? = some u ∧ news[x]? = some u ∧ TR w S (f (x / k) (x % k)) u := by
      intro x hx
      have h1 : x / k < m := (Nat.div_lt_iff_lt_mul hk).2 hx
      have h2 : x % k < k := Nat.mod_lt _ hk
      obtain ⟨u, hu, ht⟩ := hrow (x / k) h1 (x % k) h2
      have e1 : off + x / k * k + x % k = off + x := by
        have := Nat.div_add_mod x k
        rw [Nat.mul_comm] at this
        omega
      rw [e1] at hu
      exact ⟨u, hu, by simp [news, List.getElem?_map, List.getElem?_range hx, hu], ht⟩
    have hlen : news.length = m * k := by simp [news]
    refine ⟨news, ⟨⟨_, _, rfl⟩, hlen, fun w' hw' => ?_⟩, fun u hu => ?_, fun i hi j hj => ?_⟩
    · refine run_firstCells_some (P := P) w' k m ⟨g, off, none⟩ m cap news hlen fun x v hv => ?_
      have hx : x < m * k := by rw [← hlen]; exact (List.getElem?_eq_some_iff.1 hv).1
      obtain ⟨u, hu, hu', _⟩ := hat x hx
      rw [hu'] at hv
      injection hv with hv
      rw [add_at, hw', cell_of_row w g (off + x) row e fr hg, hu, hv]
    · obtain ⟨x, hx⟩ := List.getElem?_of_mem hu
      have hlt : x < m * k := by rw [← hlen]; exact (List.getElem?_eq_some_iff.1 hx).1
      obtain ⟨u', _, hu', ht⟩ := hat x hlt
      rw [hx] at hu'
      injection hu' with e
      rw [e]
      exact ht.one
    · have hx : i * k + j < m * k := by
        have : (i + 1) * k ≤ m * k := Nat.mul_le_mul_right _ hi
        rw [Nat.add_mul] at this
        omega
      obtain ⟨u, _, hu', ht⟩ := hat _ hx
      have e1 : (i * k + j) / k = i := by rw [Nat.mul_comm, Nat.mul_add_div hk, Nat.div_eq_of_lt hj]; rfl
      have e2 : (i * k + j) % k = j := by rw [Nat.mul_comm, Nat.mul_add_mod, Nat.mod_eq_of_lt hj]
      rw [e1, e2] at ht
      exact ⟨u, hu', ht⟩
/-- the same, owned: which tree lies behind which cell -/
theorem to_src {S : Nat → Prop} {k m : Nat} {f : Nat → Nat → C} {v : Value} (hk : 0 < k) (h : TO w (.sl k m f) v S) : ∃ news, ∃ GG : Nat → Nat → Nat → Prop, SrcOk P w k m v news ∧ (∀ u ∈ news, u.oneCell' = true) ∧
    (∀ i, i < m → ∀ j, j < k → ∃ u, news[i * k + j]? = some u ∧ TO w (f i j) u (GG i j)) ∧ (∀ i, i < m → ∀ j, j < k → ∀ b, GG i j b → S b) ∧
    (∀ i, i < m → ∀ j, j < k → ∀ i', i' < m → ∀ j', j' < k → ∀ b, GG i j b → GG i' j' b → i = i' ∧ j = j') ∧
    (∀ g off c, v = .slice (some ⟨g, off, none⟩) m c → 0 < c → S g ∧ ∃ row e, w.heap[g]? = some (.cells row e (0, 0)) ∧ m ≤ c ∧ off + c * k ≤ row.size ∧ (∀ x, x < m * k → row[off + x]? = news[x]?) ∧ ∀ i, i < m → ∀ j, j < k → ∀ b, GG i j b → b ≠ g) := by
  obtain ⟨news, h1, h2, h3⟩ := tr_src (P := P) hk h.read
  rcases h with ⟨⟨ad, rfl⟩, rfl⟩ | ⟨g, off, cap, row, e, GG, rfl, hnc, hcap, hg, hF, hrow, hsub, hdis⟩
  · refine ⟨news, fun _ _ _ => False, h1, h2, by simp, by simp, by simp, fun g off c hv hc => by injection hv with _ _ hv; omega⟩
  · have hat : ∀ x, x < m * k → row[off + x]? = news[x]? := by
      intro x hx
      have := h1.rd w (fun _ => rfl)
      have hlen := h1.len
      have hf : (Builtin.firstCells k m (.slice (some ⟨g, off, none⟩) m cap)).run P w = .ok ((List.range (m * k)).map fun x => (row[off + x]?).getD undef).toArray w := by
        refine run_firstCells_some (P := P) w k m ⟨g, off, none⟩ m cap _ (by simp) fun x v hv => ?_
        have hx : x < m * k := by
          have := (List.getElem?_eq_some_iff.1 hv).1
          simpa using this
        rw [List.getElem?_map, List.getElem?_range hx] at hv
        simp only [Option.map_some, Option.some.injEq] at hv
        rw [add_at, cell_of_row w g (off + x) row e (0, 0) hg]
        have hlt : off + x < row.size := by
          have : m * k ≤ cap * k := Nat.mul_le_mul_right _ hnc
          omega
        rw [Array.getElem?_eq_getElem hlt] at hv ⊢
        simpa using hv
      rw [hf] at this
      injection this with h5 _
      have h6 : ((List.range (m * k)).map fun x => (row[off + x]?).getD undef) = news := by simpa using h5
      have hlt : off + x < row.size := by
        have : m * k ≤ cap * k := Nat.mul_le_mul_right _ hnc
        omega
      rw [← h6, List.getElem?_map, List.getElem?_range hx, Option.map_some, Array.getElem?_eq_getElem hlt]
      rfl
    refine ⟨news, GG, h1, h2, fun i hi j hj => ?_, fun i hi j hj b hb => (hsub i hi j hj b hb).1, hdis, fun g' off' c' hv _ => ?_⟩
    · obtain ⟨u, hu, ht⟩ := hrow i hi j hj
      have hx : i * k + j < m * k := by
        have : (i + 1) * k ≤ m * k := Nat.mul_le_mul_right _ hi
        rw [Nat.add_mul] at this
        omega
      exact ⟨u, by rw [← hat _ hx, ← Nat.add_assoc]; exact hu, ht⟩
    · injection hv with ha hb hc
      injection ha with ha
      injection ha with ha1 ha2
      subst ha1
      subst ha2
      subst hc
      exact ⟨hF, row, e, hg, hnc, hcap, hat, fun i hi j hj b hb => (hsub i hi j hj b hb).2⟩
def appF (n : Nat) (f g : Nat → Nat → C) : Nat → Nat → C := fun i j => if i < n then f i j else g (i - n) j
theorem to_app {w' : World} {N : Nat → Prop} {k n m g off cap : Nat} {f h : Nat → Nat → C} {us vs : List Value} {row : Array Value} {e : TypeId} {G1 G2 : Nat → Nat → Nat → Prop}
    (hul : us.length = n * k) (hvl : vs.length = m * k) (hg : w'.heap[g]? = some (.cells row e (0, 0))) (hN : N g) (hnc : n + m ≤ cap) (hcap : off + cap * k ≤ row.size)
    (hrow : ∀ x, x < (n + m) * k → row[off + x]? = (us ++ vs)[x]?)
    (h1 : ∀ i, i < n → ∀ j, j < k → ∃ u, us[i * k + j]? = some u ∧ TO w' (f i j) u (G1 i j)) (h2 : ∀ i, i < m → ∀ j, j < k → ∃ u, vs[i * k + j]? = some u ∧ TO w' (h i j) u (G2 i j))
    (s1 : ∀ i, i < n → ∀ j, j < k → ∀ b, G1 i j b → N b ∧ b ≠ g) (s2 : ∀ i, i < m → ∀ j, j < k → ∀ b, G2 i j b → N b ∧ b ≠ g)
    (d1 : ∀ i, i < n → ∀ j, j < k → ∀ i', i' < n → ∀ j', j' < k → ∀ b, G1 i j b → G1 i' j' b → i = i' ∧ j = j')
    (d2 : ∀ i, i < m → ∀ j, j < k → ∀ i', i' < m → ∀ j', j' < k → ∀ b, G2 i j b → G2 i' j' b → i = i' ∧ j = j')
    (d3 : ∀ i, i < n → ∀ j, j < k → ∀ i', i' < m → ∀ j', j' < k → ∀ b, G1 i j b → G2 i' j' b → False) :
    TO w' (.sl k (n + m) (appF n f h)) (.slice (some ⟨g, off, none⟩) (n + m) cap) N := by
  refine .inr ⟨g, off, cap, row, e, fun i j => if i < n then G1 i j else G2 (i - n) j, rfl, hnc, hcap, hg, hN, fun i hi j hj => ?_, fun i hi j hj b hb => ?_, fun i hi j hj i' hi' j' hj' b hb hb' => ?_⟩
  · have hx : i * k + j < (n + m) * k := by
      have : (i + 1) * k ≤ (n + m) * k := Nat.mul_le_mul_right _ hi
      rw [Nat.add_mul] at this
      omega
    rw [Nat.add_assoc, hrow _ hx]
    by_cases hlt : i < n
    · obtain ⟨u, hu, ht⟩ := h1 i hlt j hj
      refine ⟨u, ?_, by simp only [appF, hlt, if_true]; exact ht⟩
      rw [List.getElem?_append_left]
      · exact hu
      · exact (List.getElem?_eq_some_iff.1 hu).1
    · obtain ⟨u, hu, ht⟩ := h2 (i - n) (by omega) j hj
      refine ⟨u, ?_, by simp only [appF, hlt, if_false]; exact ht⟩
      have hle : n * k ≤ i * k := Nat.mul_le_mul_right _ (by omega)
      rw [List.getElem?_append_right (by omega), hul, ← hu]
      congr 1
      rw [Nat.sub_mul]
      omega
  · by_cases hlt : i < n
    · simp only [hlt, if_true] at hb
      exact s1 i hlt j hj b hb
    · simp only [hlt, if_false] at hb
      exact s2 (i - n) (by omega) j hj b hb
  · by_cases hlt : i < n <;> by_cases hlt' : i' < n <;> simp only [hlt, hlt', if_true, if_false] at hb hb'
    · exact d1 i hlt j hj i' hlt' j' hj' b hb hb'
    · exact (d3 i hlt j hj (i' - n) (by omega) j' hj' b hb hb').elim
    · exact (d3 i' hlt' j' hj' (i - n) (by omega) j hj b hb' hb).elim
    · obtain ⟨h5, h6⟩ := d2 (i - n) (by omega) j hj (i' - n) (by omega) j' hj' b hb hb'
      exact ⟨by omega, h6⟩
theorem sub_own {S : Nat → Prop} {k n lo m : Nat} {f : Nat → Nat → C} {hv v : Value} (h : TO w (.sl k n f) hv S) (hs : SubR hv k lo m v) (hle : lo + m ≤ n) : TO w (.sl k m (fun i => f (lo + i))) v S := by
  rcases hs with ⟨ad, e1, e2, e3, e4⟩ | ⟨g, off, mm, cap, off', hv1, hlc, hav, hof⟩
  · exact .inl ⟨⟨ad, e4⟩, e3⟩
  · rcases h with ⟨⟨ad, e1⟩, e2⟩ | ⟨g2, off2, cap2, row, e, GG, hv2, hnc, hcap, hg, hF, hrow, hsub, hdis⟩
    · rw [hv1] at e1
      injection e1 with ea eb ec
      have hm : m = 0 := by omega
      have hcl : cap - lo = 0 := by omega
      rw [hm, hcl] at hav
      exact .inl ⟨⟨_, hav⟩, hm⟩
    · rw [hv1] at hv2
      injection hv2 with ha hb hc
      injection ha with ha
      injection ha with ha1 ha2
      subst ha1
      subst ha2
      subst hc
      have hcm : off' + (cap - lo) * k ≤ row.size := by
        rcases hof with e1 | ⟨e1, e2⟩
        · have : lo * k + (cap - lo) * k = cap * k := by rw [← Nat.add_mul]; congr 1; omega
          omega
        · have : cap - lo = 0 := by omega
          rw [this]
          omega
      refine .inr ⟨g, off', cap - lo, row, e, fun i j => GG (lo + i) j, hav, by omega, hcm, hg, hF, fun i hi j hj => ?_, fun i hi j hj => hsub (lo + i) (by omega) j hj, fun i hi j hj i' hi' j' hj' b hb hb' => ?_⟩
      · obtain ⟨u, hu, ht⟩ := hrow (lo + i) (by omega) j hj
        refine ⟨u, ?_, ht⟩
        rcases hof with e1 | ⟨e1, e2⟩
        · rw [← hu, e1]; congr 1; rw [Nat.add_mul]; omega
        · omega
      · obtain ⟨h1, h2⟩ := hdis (lo + i) (by omega) j hj (lo + i') (by omega) j' hj' b hb hb'
        exact ⟨by omega, h2⟩
/-- what an operand shows as a source: a condition, the elements -/
def srcOf (σ : St) : TV → Option (Prop × (t : Ty) × List (El t))
  | .v false [.im _ t xs] => some (True, ⟨t, xs⟩)
  | .v false [.ref l] => match look σ.hp l with
    | some T => some (True, ⟨T.t, T.xs⟩)
    | none => none
  | .v false [.sub l k' lo m] => match look σ.hp l with
    | some T => if T.k = k' then some (lo + m ≤ T.n, ⟨T.t, cut T.xs lo m⟩) else none
    | none => none
  | _ => none
theorem le_sl {k n : Nat} {f f' : Nat → Nat → C} (h : ∀ i, i < n → ∀ j, j < k → le (f i j) (f' i j)) : le (.sl k n f) (.sl k n f') := ⟨f', rfl, h⟩
theorem tr_cut {S : Nat → Prop} {t : Ty} {xs : List (El t)} {lo m : Nat} {v : Value} (h : TR w S (.sl t.width m (fun i => fun j => fcC (cell t xs (lo + i) j))) v) (hle : lo + m ≤ xs.length) : TR w S (fcC (.l t (cut xs lo m))) v := by
  rw [fcC_l, len_cut hle]
  refine TR.le (le_sl (f := fun i j => fcC (cell t xs (lo + i) j)) fun i hi j hj => ?_) h
  rw [cell_cut hi]
  exact le.refl _
theorem to_cut {S : Nat → Prop} {t : Ty} {xs : List (El t)} {lo m : Nat} {v : Value} (h : TO w (.sl t.width m (fun i => fun j => fcC (cell t xs (lo + i) j))) v S) (hle : lo + m ≤ xs.length) : TO w (fcC (.l t (cut xs lo m))) v S := by
  rw [fcC_l, len_cut hle]
  refine TO.le (le_sl (f := fun i j => fcC (cell t xs (lo + i) j)) fun i hi j hj => ?_) h
  rw [cell_cut hi]
  exact le.refl _
theorem srcOf_ok {p : Prop} {s : (t : Ty) × List (El t)} {x : TV} {v : Value} (h : RG F G σ a w) (hx : TVR w G x v) (hs : srcOf σ x = some (p, s)) (hp : p) : ∃ S, TR w S (fcC (.l s.1 s.2)) v := by
  unfold srcOf at hs
  split at hs
  · rename_i s' t xs
    simp only [Option.some.injEq, Prod.mk.injEq] at hs
    obtain ⟨rfl, rfl⟩ := hs
    obtain ⟨c, hc, hcr⟩ := hx
    injection hc with hc
    subst hc
    exact ⟨_, hcr⟩
  · rename_i l
    split at hs
    · rename_i T hT
      simp only [Option.some.injEq, Prod.mk.injEq] at hs
      obtain ⟨rfl, rfl⟩ := hs
      obtain ⟨c, hc, hcr⟩ := hx
      injection hc with hc
      subst hc
      rw [hcr.1, fcC_tree]
      exact ⟨_, (h.hp l T hT).read⟩
    · simp at hs
  · rename_i l k' lo m'
    split at hs
    · rename_i T hT
      split at hs
      · rename_i hk
        simp only [Option.some.injEq, Prod.mk.injEq] at hs
        obtain ⟨rfl, rfl⟩ := hs
        obtain ⟨c, hc, hcr⟩ := hx
        injection hc with hc
        subst hc
        have hto := h.hp l T hT
        rw [hk] at hto
        have h2 := (sub_own hto hcr hp).read
        rw [← hk] at h2
        exact ⟨_, tr_cut h2 hp⟩
      · simp at hs
    · simp at hs
  · simp at hs
end
end Go.D
