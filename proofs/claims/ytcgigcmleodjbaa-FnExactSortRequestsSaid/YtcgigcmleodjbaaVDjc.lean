/-
  Runs of flat elements written in place: append of two windows of one tree, clear.
-/
import Derived.Test.YtcgigcmleodjbaaVDk
namespace Go.D
set_option linter.unusedVariables false
section
variable {P : Program} {F : Fr P} {G : Gh} {σ : St} {a : Act} {w : World} {o : Oper} {K : St → Out} {Q : Post} {Qx : Exit → Act → World → Prop}
theorem splice_at {L N : List Value} {A x : Nat} (h : A + N.length ≤ L.length) : (L.take A ++ N ++ L.drop (A + N.length))[x]? = if x < A then L[x]? else if x < A + N.length then N[x - A]? else L[x]? := by
  have e1 : (L.take A).length = A := by simp; omega
  rw [List.append_assoc]
  by_cases h1 : x < A
  · rw [List.getElem?_append_left (by omega), if_pos h1]
    simp [h1]
  · rw [List.getElem?_append_right (by omega), if_neg h1, e1]
    by_cases h2 : x < A + N.length
    · rw [List.getElem?_append_left (by omega), if_pos h2]
    · rw [List.getElem?_append_right (by omega), if_neg h2, List.getElem?_drop]
      congr 1
      omega
/-- some elements of a list told anew -/
def put3 {α : Type} (xs : List α) (e : Nat) (ys : List α) : List α := xs.take e ++ ys ++ xs.drop (e + ys.length)
theorem put3_len {α : Type} {xs ys : List α} {e : Nat} (h : e + ys.length ≤ xs.length) : (put3 xs e ys).length = xs.length := by
  simp only [put3, List.length_append, List.length_take, List.length_drop]
  omega
theorem put3_getD {α : Type} [Inhabited α] {xs ys : List α} {e i : Nat} (h : e + ys.length ≤ xs.length) : (put3 xs e ys).getD i default = if e ≤ i ∧ i < e + ys.length then ys.getD (i - e) default else xs.getD i default := by
  have e1 : (xs.take e).length = e := by simp; omega
  simp only [put3, List.getD_eq_getElem?_getD, List.append_assoc]
  by_cases h1 : i < e
  · rw [List.getElem?_append_left (by omega), if_neg (by omega)]
    simp [h1]
  · rw [List.getElem?_append_right (by omega), e1]
    by_cases h2 : i < e + ys.length
    · rw [List.getElem?_append_left (by omega), if_pos ⟨by omega, h2⟩]
    · rw [List.getElem?_append_right (by omega), if_neg (by omega), List.getElem?_drop]
      congr 2
      omega
theorem cell_put3 {t : Ty} {xs ys : List (El t)} {e i j : Nat} (h : e + ys.length ≤ xs.length) : cell t (put3 xs e ys) i j = if e ≤ i ∧ i < e + ys.length then cell t ys (i - e) j else cell t xs i j := by
  unfold cell
  rw [put3_getD h]
  split <;> rfl
def putSt (σ : St) (l : Nat) (T : Tree) : St := ({ σ with hp := (l, T) :: σ.hp.filter fun p => !([] : List Nat).contains p.1 }.kill []).loose [l]
theorem put_flat (h : RG F G σ a w) {l e0 : Nat} {T0 : Tree} (hl : look σ.hp l = some T0) (hf : flatTy T0.t = true) {g off cap : Nat} (hv : G.hv l = .slice (some ⟨g, off, none⟩) T0.n cap) (h0 : 0 < T0.n) {ys : List (El T0.t)} {news : List Value}
    (hle : e0 + ys.length ≤ T0.n) (hlen : news.length = ys.length * T0.k) (hnews : ∀ i, i < ys.length → ∀ j, j < T0.k → ∃ u, news[i * T0.k + j]? = some u ∧ ∃ S, TR w S (fcC (cell T0.t ys i j)) u) :
    ∃ row e, w.heap[g]? = some (.cells row e (0, 0)) ∧ off + e0 * T0.k + news.length ≤ row.size ∧ T0.n ≤ cap ∧ ∃ G', RG F G' (putSt σ l ⟨T0.t, put3 T0.xs e0 ys⟩) a (w.setRow g (row.toList.take (off + e0 * T0.k) ++ news ++ row.toList.drop (off + e0 * T0.k + news.length)).toArray) ∧ G'.hv = G.hv := by
  rcases h.hp l T0 hl with ⟨_, hz⟩ | ⟨g', off', cap', row, e, GG, hv2, hnc, hcap, hg, hF, hrow, hsub, hdis⟩
  · omega
  · rw [hv] at hv2
    injection hv2 with e1 e2 e3
    injection e1 with e1
    injection e1 with e4 e5
    subst e4; subst e5; subst e3
    have hk : T0.n = T0.xs.length := rfl
    have b1 : (e0 + ys.length) * T0.k ≤ T0.n * T0.k := Nat.mul_le_mul_right _ hle
    have b2 : T0.n * T0.k ≤ cap * T0.k := Nat.mul_le_mul_right _ hnc
    rw [Nat.add_mul] at b1
    have bound : off + e0 * T0.k + news.length ≤ row.size := by omega
    refine ⟨row, e, hg, bound, hnc, ?_⟩
    have hlist : off + e0 * T0.k + news.length ≤ row.toList.length := by simpa using bound
    have hTn : (⟨T0.t, put3 T0.xs e0 ys⟩ : Tree).n = T0.n := put3_len hle
    have hTk : (⟨T0.t, put3 T0.xs e0 ys⟩ : Tree).k = T0.k := rfl
    obtain ⟨G', hG', hh, _⟩ := h.setTree (w' := w.setRow g (row.toList.take (off + e0 * T0.k) ++ news ++ row.toList.drop (off + e0 * T0.k + news.length)).toArray) l [] T0 ⟨T0.t, put3 T0.xs e0 ys⟩ hl (by simp) (by simp) ⟨rfl, rfl, ⟨rfl, by first | exact Nat.le_refl _ | exact Nat.le_succ _⟩, by simp⟩
      (fun b hb hbl => setRow_other w g b _ (fun e => hbl (e ▸ hF))) (by
        refine .inr ⟨g, off, cap, _, e, fun _ _ _ => False, by rw [hTn]; exact hv, by rw [hTn]; exact hnc, ?_, setRow_heap w g row _ e _ hg, .inl hF, ?_, by simp, by simp⟩
        · rw [hTk]
          simp only [List.size_toArray, List.length_append, List.length_take, List.length_drop, Array.length_toList]
          omega
        · intro i hi j hj
          rw [hTn] at hi
          rw [hTk] at hj ⊢
          simp only [Tree.f, List.getElem?_toArray]
          rw [cell_put3 hle, splice_at hlist]
          have b3 : (i + 1) * T0.k ≤ T0.n * T0.k := Nat.mul_le_mul_right _ hi
          rw [Nat.add_mul] at b3
          by_cases hin : e0 ≤ i ∧ i < e0 + ys.length
          · rw [if_pos hin]
            obtain ⟨u, hu, S, ht⟩ := hnews (i - e0) (by omega) j hj
            have c1 : e0 * T0.k ≤ i * T0.k := Nat.mul_le_mul_right _ hin.1
            have c2 : (i - e0 + 1) * T0.k ≤ ys.length * T0.k := Nat.mul_le_mul_right _ (by omega)
            have c3 : (i - e0) * T0.k + e0 * T0.k = i * T0.k := by rw [← Nat.add_mul]; congr 1; omega
            rw [Nat.add_mul] at c2
            rw [if_neg (by omega), if_pos (by omega)]
            refine ⟨u, ?_, ?_⟩
            · rw [← hu]; congr 1; omega
            · obtain ⟨u2, hu2⟩ := cell_flat hf ys (i - e0) j hj
              rw [hu2] at ht ⊢
              exact ht
          · rw [if_neg hin]
            obtain ⟨u, hu, ht⟩ := hrow i hi j hj
            have ht2 : TO (w.setRow g (row.toList.take (off + e0 * T0.k) ++ news ++ row.toList.drop (off + e0 * T0.k + news.length)).toArray) (fcC (cell T0.t T0.xs i j)) u (fun _ => False) := by
              obtain ⟨u2, hu2⟩ := cell_flat hf T0.xs i j hj
              have ht' : TO w (fcC (cell T0.t T0.xs i j)) u (GG i j) := ht
              rw [hu2] at ht' ⊢
              exact ht'
            refine ⟨u, ?_, ht2⟩
            by_cases hlo : i < e0
            · have c1 : (i + 1) * T0.k ≤ e0 * T0.k := Nat.mul_le_mul_right _ hlo
              rw [Nat.add_mul] at c1
              rw [if_pos (by omega)]
              simpa using hu
            · have c1 : (e0 + ys.length) * T0.k ≤ i * T0.k := Nat.mul_le_mul_right _ (by omega)
              rw [Nat.add_mul] at c1
              rw [if_neg (by omega), if_neg (by omega)]
              simpa using hu)
    exact ⟨G', hG', hh⟩
def putK (o : Oper) (σ : St) (x : TV) (K : St → Out) : Out := match o.dst with
  | some d => bif decide (d < σ.nt) then K (σ.put d x) else .bad
  | none => K σ
theorem putK_ok {w' : World} {x : TV} {v : Value} (h : RG F G σ a w') (hh : (putK o σ x K).holds Q) (hx : TVR w' G x v) : Cont F K Q (a.put o.dst v) w' := by
  unfold putK at hh
  split at hh
  · rename_i d hd
    cases hc : decide (d < σ.nt) with
    | false => rw [hc, cond_false] at hh; exact hh.elim
    | true =>
      rw [hc, cond_true] at hh
      rw [hd]
      exact ⟨_, ⟨G, RG.put h (by simpa using hc) hx⟩, hh⟩
  · rename_i hd
    rw [hd]
    exact ⟨_, ⟨G, h⟩, hh⟩
/-- append of two windows of one tree, the first at its start: in place -/
def opAppIn (P : Program) (o : Oper) (T : TypeId) (l k lo m k2 lo2 m2 : Nat) (σ : St) (K : St → Out) : Out :=
  match P.underlying T with
  | some (.slice e) => match P.info? e, look σ.hp l with
    | some i, some T0 => if T0.k = i.size ∧ k = i.size ∧ k2 = i.size ∧ flatTy T0.t = true then
        .ob (lo = 0 ∧ 0 < T0.n ∧ lo2 + m2 ≤ T0.n ∧ m + m2 ≤ T0.n) (putK o (putSt σ l ⟨T0.t, put3 T0.xs m (cut T0.xs lo2 m2)⟩) (.v false [.sub l k 0 (m + m2)]) K) else .bad
    | _, _ => .bad
  | _ => .bad
theorem opAppIn_ok {T : TypeId} {s x : Operand} {l k lo m k2 lo2 m2 : Nat} (h : RG F G σ a w) (ho : o.op = .call { callee := .builtin .append, args := #[s, x], argTypes := #[T, T] }) (hs : σ.eval s = .v false [.sub l k lo m]) (hx : σ.eval x = .v false [.sub l k2 lo2 m2])
    (hh : (opAppIn P o T l k lo m k2 lo2 m2 σ K).holds Q) : o.wp P a w (Cont F K Q) Qx := by
  unfold opAppIn at hh
  have hsv := eval_ok h s
  have hxv := eval_ok h x
  rw [hs] at hsv
  obtain ⟨c, hc, hcr⟩ := hsv
  injection hc with hc
  subst hc
  split at hh
  · rename_i e hu
    split at hh
    · rename_i i T0 hi hl
      split at hh
      · rename_i hc
        obtain ⟨hk, hk1, hk2, hf⟩ := hc
        obtain ⟨⟨hlo, h0, hle2, hle⟩, hh⟩ := hh
        subst hlo
        rcases hcr with ⟨ad, e1, _⟩ | ⟨g, off, mm, cap, off', hv, hlc, hav, hof⟩
        · rcases h.hp l T0 hl with ⟨_, hz⟩ | ⟨g, off, cap, row, e', GG, hv2, _⟩
          · omega
          · rw [e1] at hv2; injection hv2 with _ e2 _; omega
        · have hmm : mm = T0.n := by
            rcases h.hp l T0 hl with ⟨_, hz⟩ | ⟨g, off, cap, row, e', GG, hv2, _⟩
            · omega
            · rw [hv] at hv2; injection hv2
          subst hmm
          have hsrc : srcOf σ (σ.eval x) = some (lo2 + m2 ≤ T0.n, ⟨T0.t, cut T0.xs lo2 m2⟩) := by
            rw [hx]; simp only [srcOf, hl]; rw [if_pos (by omega)]
          obtain ⟨S, htr⟩ := srcOf_ok h hxv hsrc hle2
          have hcl : (cut T0.xs lo2 m2).length = m2 := len_cut hle2
          rw [fcC_l] at htr
          have hkt : T0.t.width = i.size := hk
          rw [hkt, hcl] at htr
          obtain ⟨news, hn1, hn2, hn3⟩ := tr_src (P := P) (by rw [← hkt]; exact width_pos _) htr
          obtain ⟨row, er, hg, hb, hnc, G', hG', hh2⟩ := put_flat (e0 := m) (ys := cut T0.xs lo2 m2) (news := news) h hl hf hv h0 (by rw [hcl]; exact hle) (by rw [hcl, hk]; exact hn1.len) (by
            intro i' hi' j' hj'
            rw [hcl] at hi'
            rw [hk] at hj' ⊢
            obtain ⟨u, hu, ht⟩ := hn3 i' hi' j' hj'
            exact ⟨u, hu, S, ht⟩)
          have hoff : off' = off := by
            rcases hof with e1 | ⟨e1, _⟩
            · simpa using e1
            · omega
          subst hoff
          have hrun := run_app_room (P := P) (w := w) T o.type e i hu hi g off' m cap row er hg (a.eval x) m2 news hn1 hn2 (by omega) (by rw [← hk]; exact hb)
          have hav' : a.eval s = .slice (some ⟨g, off', none⟩) m cap := by simpa using hav
          refine wp_val (v := .slice (some ⟨g, off', none⟩) (m + m2) cap) ?_ (putK_ok (v := .slice (some ⟨g, off', none⟩) (m + m2) cap) hG' hh ⟨_, rfl, .inr ⟨g, off', T0.n, cap, off', by rw [hh2]; exact hv, by omega, by simp, .inl (by simp)⟩⟩)
          rw [hk]
          simp [execOp, ho, resolve, invoke, builtin, hav', hrun]
      · exact hh.elim
    · exact hh.elim
  · exact hh.elim
def winOf (σ : St) : TV → Option (Nat × Nat × Nat × Nat)
  | .v false [.ref l] => match look σ.hp l with
    | some T => some (l, T.k, 0, T.n)
    | none => none
  | .v false [.sub l k lo n] => some (l, k, lo, n)
  | _ => none
theorem winOf_ok {x : TV} {v : Value} {l k lo n : Nat} (h : RG F G σ a w) (hx : TVR w G x v) (hw : winOf σ x = some (l, k, lo, n)) : SubR (G.hv l) k lo n v := by
  unfold winOf at hw
  split at hw
  · rename_i l'
    split at hw
    · rename_i T hT
      simp only [Option.some.injEq, Prod.mk.injEq] at hw
      obtain ⟨rfl, rfl, rfl, rfl⟩ := hw
      obtain ⟨c, hc, hcr⟩ := hx
      injection hc with hc
      subst hc
      rcases h.hp _ T hT with ⟨⟨ad, e1⟩, e2⟩ | ⟨g, off, cap, row, e', GG, hv, hnc, _⟩
      · exact .inl ⟨ad, e1, rfl, e2, by rw [hcr.1, e1]⟩
      · exact .inr ⟨g, off, T.n, cap, off, hv, by omega, by rw [hcr.1, hv]; simp, .inl (by simp)⟩
    · cases hw
  · simp only [Option.some.injEq, Prod.mk.injEq] at hw
    obtain ⟨rfl, rfl, rfl, rfl⟩ := hw
    obtain ⟨c, hc, hcr⟩ := hx
    injection hc with hc
    subst hc
    exact hcr
  · cases hw
def opClear (P : Program) (o : Oper) (T : TypeId) (x : Operand) (σ : St) (K : St → Out) : Out :=
  match P.underlying T, winOf σ (σ.eval x) with
  | some (.slice e), some (l, k, lo, n) => match P.info? e, look σ.hp l with
    | some i, some T0 => match i.zero with
      | some z => match constFCs z.cells.toList with
        | some zs => match dec T0.t zs with
          | some x0 => if T0.k = i.size ∧ k = i.size ∧ z.cells.size = i.size ∧ flatTy T0.t = true then
              .ob (lo + n ≤ T0.n) (putK o (putSt σ l ⟨T0.t, put3 T0.xs lo (List.replicate n x0)⟩) (.tup []) K) else .bad
          | none => .bad
        | none => .bad
      | none => .bad
    | _, _ => .bad
  | _, _ => .bad
theorem zero_get {z : Array Value} {n k i j : Nat} (hz : z.size = k) (hi : i < n) (hj : j < k) : (Builtin.zeroCells z n).toList[i * k + j]? = some z[j]! := by
  have hlt : i * k + j < n * k := by
    have : (i + 1) * k ≤ n * k := Nat.mul_le_mul_right _ hi
    rw [Nat.add_mul] at this
    omega
  have hm : (i * k + j) % k = j := by rw [Nat.mul_comm, Nat.mul_add_mod, Nat.mod_eq_of_lt hj]
  simp [Builtin.zeroCells, hz, hlt, hm]
theorem opClear_ok {T : TypeId} {x : Operand} (h : RG F G σ a w) (ho : o.op = .call { callee := .builtin .clear, args := #[x], argTypes := #[T] }) (hh : (opClear P o T x σ K).holds Q) : o.wp P a w (Cont F K Q) Qx := by
  unfold opClear at hh
  have hxv := eval_ok h x
  split at hh
  · rename_i e l k lo n hu hw
    have hs := winOf_ok h hxv hw
    split at hh
    · rename_i i T0 hi hl
      split at hh
      · rename_i z hz
        split at hh
        · rename_i zs hzs
          split at hh
          · rename_i x0 hx0
            split at hh
            · rename_i hc
              obtain ⟨hk, hk1, hzk, hf⟩ := hc
              obtain ⟨hle, hh⟩ := hh
              have fin : ∀ w', (Builtin.clear_ #[T] o.type #[a.eval x]).run P w = .ok (.tuple #[]) w' → (execOp a.eval o).run P w = .ok (.value (.tuple #[])) w' := by
                intro w' hr
                simp [execOp, ho, resolve, invoke, builtin, hr]
              have htup : ∀ (G' : Gh) (w' : World), TVR w' G' (.tup []) (.tuple #[]) := fun G' w' => ⟨#[], rfl, rfl, by simp⟩
              by_cases hn : n = 0
              · subst hn
                have hsame : put3 T0.xs lo (List.replicate 0 x0) = T0.xs := by simp [put3]
                rw [hsame] at hh
                obtain ⟨G', hG', _⟩ := h.setTree (w' := w) l [] T0 ⟨T0.t, T0.xs⟩ hl (by simp) (by simp) ⟨rfl, rfl, ⟨rfl, by first | exact Nat.le_refl _ | exact Nat.le_succ _⟩, Nat.le_refl _⟩ (fun _ _ _ => rfl) ((h.hp l T0 hl).frame fun g hg _ => ⟨rfl, .inl hg⟩)
                refine wp_val (fin w ?_) (putK_ok hG' hh (htup _ _))
                rcases hs with ⟨ad, _, _, _, e4⟩ | ⟨g, off, mm, cap, off', _, _, e4, _⟩
                · rw [e4]; cases ad <;> simp [Builtin.clear_, run_underlying hu]
                · rw [e4]; simp [Builtin.clear_, run_underlying hu]
              · rcases hs with ⟨ad, _, _, e3, e4⟩ | ⟨g, off, mm, cap, off', hv, hlc, hav, hof⟩
                · exact absurd e3 hn
                · have hmm : mm = T0.n := by
                    rcases h.hp l T0 hl with ⟨_, hz⟩ | ⟨g, off, cap, row, e', GG, hv2, _⟩
                    · omega
                    · rw [hv] at hv2; injection hv2
                  subst hmm
                  obtain ⟨row, er, hg, hb, hnc, G', hG', hh2⟩ := put_flat (e0 := lo) (ys := List.replicate n x0) (news := (Builtin.zeroCells z.cells n).toList) h hl hf hv (by omega) (by simpa using hle) (by simp [size_zeroCells, hzk, hk]) (by
                    intro i' hi' j' hj'
                    rw [List.length_replicate] at hi'
                    rw [hk] at hj' ⊢
                    have hjz : j' < z.cells.size := by omega
                    refine ⟨_, zero_get hzk hi' hj', fun _ => True, ?_⟩
                    have hcell : cell T0.t (List.replicate n x0) i' j' = (enc T0.t x0).getD j' .nl := cell_get (by simp [hi']) j'
                    rw [hcell]
                    have e1 : z.cells[j']! = z.cells[j'] := by simp [hjz]
                    rw [e1]
                    exact (TO.le ((dec_ok T0.t zs x0 hx0).get.2 j').le (constFC_ok (N := fun _ => True) ((constFCs_get hzs).2 j' _ (by simp [hjz])))).read)
                  have hoff : off' = off + lo * T0.k := by
                    rcases hof with e1 | ⟨e1, _⟩
                    · rw [e1, hk1, hk]
                    · omega
                  have h1 : ∀ v ∈ (Builtin.zeroCells z.cells n).toList, v.oneCell' = true := by
                    intro v hv'
                    obtain ⟨q, hq⟩ := List.getElem?_of_mem hv'
                    have hlt : q < n * i.size := by
                      have := (List.getElem?_eq_some_iff.1 hq).1
                      simpa [size_zeroCells, hzk] using this
                    have hpos : 0 < i.size := by rw [← hk]; exact width_pos _
                    have h2 : q / i.size < n := (Nat.div_lt_iff_lt_mul hpos).2 hlt
                    have h3 : q % i.size < i.size := Nat.mod_lt _ hpos
                    have h4 := zero_get hzk h2 h3
                    have e2 : q / i.size * i.size + q % i.size = q := by
                      have := Nat.div_add_mod q i.size
                      rw [Nat.mul_comm] at this
                      omega
                    rw [e2, hq] at h4
                    injection h4 with h4
                    rw [h4]
                    have hjz : q % i.size < z.cells.size := by omega
                    have e1 : z.cells[q % i.size]! = z.cells[q % i.size] := by simp [hjz]
                    rw [e1]
                    exact (constFC_ok (w := w) (N := fun _ => True) ((constFCs_get hzs).2 (q % i.size) z.cells[q % i.size] (by simp [hjz]))).read.one
                  have hst := run_storeCells_at P g off' er (Builtin.zeroCells z.cells n).toList 0 row w hg (by rw [hoff]; simpa using hb) h1
                  simp only [Nat.add_zero] at hst
                  rw [← hoff] at hG'
                  refine wp_val (fin _ ?_) (putK_ok hG' hh (htup _ _))
                  obtain ⟨n', rfl⟩ := Nat.exists_eq_succ_of_ne_zero hn
                  rw [hav]
                  simp only [Nat.succ_eq_add_one] at hst ⊢
                  simp [Builtin.clear_, run_underlying hu, zeroValue, typeInfo, hi, hz, hst]
            · exact hh.elim
          · exact hh.elim
        · exact hh.elim
      · exact hh.elim
    · exact hh.elim
  · exact hh.elim
end
end Go.D
