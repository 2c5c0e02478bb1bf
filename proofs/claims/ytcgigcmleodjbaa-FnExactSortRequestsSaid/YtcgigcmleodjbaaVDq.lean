/-
  Calls by contract: the world behind the call.
-/
import Derived.Test.YtcgigcmleodjbaaVDp
namespace Go.D
set_option linter.unusedVariables false
section
variable {P : Program} {E : Env} {F : Fr P} {G : Gh} {σ : St} {a : Act} {w w' : World} {o : Oper} {K : St → Out} {Q : Post} {Qx : Exit → Act → World → Prop}
theorem keptH_ok {p : Pst} {hvc : Nat → Value} {Fs : Pl → Nat → Prop} (hT : ∀ l T, look p.hp l = some T → TO w (.sl T.k T.n T.f) (hvc l) (Fs (.keep l))) (hd : ∀ s s' b, Fs s b → Fs s' b → s = s') (hlt : ∀ s b, Fs s b → b < w.heap.size) :
    ∀ (ks : List (Nat × Nat)) (hs : List (Nat × Tree)) (σ : St) (G : Gh), RG F G σ a w → keptH p ks = some hs → nodupB (ks.map (·.1)) = true → (∀ e ∈ ks, hvc e.1 = G.hv e.2) → (∀ e ∈ ks, ∀ b, Fs (.keep e.1) b → G.ow b = .gone) →
    ∃ G', RG F G' { σ with hp := hs ++ σ.hp } a w ∧ Grow (fun b => ∃ e ∈ ks, Fs (.keep e.1) b) (fun _ => False) G G' := by
  intro ks
  induction ks with
  | nil => intro hs σ G h hk _ _ _; simp only [keptH, Option.some.injEq] at hk; subst hk; exact ⟨G, h, Grow.refl _ _ _⟩
  | cons e ks ih =>
    obtain ⟨cl, l⟩ := e
    intro hs σ G h hk hn hv hg
    simp only [keptH] at hk
    split at hk
    · rename_i T hs' h1 h2
      simp only [Option.some.injEq] at hk
      subst hk
      simp only [List.map_cons, nodupB, Bool.and_eq_true, Bool.not_eq_true', List.contains_eq_mem, decide_eq_false_iff_not] at hn
      obtain ⟨G1, k1, k2⟩ := ih hs' σ G h h2 hn.2 (fun e he => hv e (by simp [he])) (fun e he => hg e (by simp [he]))
      have hv1 : ∀ m, G1.hv m = G.hv m := fun m => (k2.hv m).resolve_right id
      have hg1 : ∀ b, Fs (.keep cl) b → G1.ow b = .gone := fun b hb => k2.gone (hg (cl, l) (by simp) b hb) fun ⟨e, he, hb'⟩ => by
        have := hd _ _ _ hb hb'
        injection this with this
        exact hn.1 (this ▸ List.mem_map_of_mem he)
      obtain ⟨G2, m1, m2, m3, _⟩ := k1.addTree l T (hvc cl) (Fs (.keep cl)) (fun b hb => ⟨hlt _ _ hb, hg1 b hb⟩) (hT cl T h1) (.inl (by rw [hv1, hv (cl, l) (by simp)]))
      refine ⟨G2, m1, Grow.trans (k2.mono (fun b ⟨e, he, hb⟩ => ⟨e, by simp [he], hb⟩) fun _ h => h) ⟨fun b => (m3.ow b).imp id fun x => ⟨⟨(cl, l), by simp, x.1⟩, x.2⟩, m3.be, fun m => .inl ?_⟩⟩
      rcases m3.hv m with e | e
      · exact e
      · subst e; rw [m2, hv1]; exact hv (cl, m) (by simp)
    · simp at hk
theorem noRef_box {σ : St} {l b : Nat} {cs : List Cell} (h : NoRef σ l) (hc : cs.any (·.refs l) = false) : NoRef { σ with bx := (b, cs) :: σ.bx } l := by
  refine ⟨h.1, fun b' cs' hl => ?_⟩
  simp only [look] at hl
  split at hl
  · simp only [Option.some.injEq] at hl; subst hl; exact hc
  · exact h.2 b' cs' hl
theorem noRef_hp {σ : St} {l : Nat} {hp : List (Nat × Tree)} (h : NoRef σ l) : NoRef { σ with hp := hp } l := h
theorem boxB_ok {p : Pst} {bec : Nat → Nat} {Fs : Pl → Nat → Prop} (hT : ∀ b cs, look p.bx b = some cs → ∃ r e, w.heap[bec b]? = some (.cells r e (0, 0)) ∧ r.size = cs.length ∧ ∀ (j : Nat) (c : FC), cs[j]? = some c → ∃ u, r[j]? = some u ∧ TO w (fcC c) u (Fs (.box b j)) ∧ u.oneCell' = true)
    (hd : ∀ s s' b, Fs s b → Fs s' b → s = s') (hlt : ∀ s b, Fs s b → b < w.heap.size) :
    ∀ (bs : List (Nat × Nat)) (hb : List (Nat × Tree)) (bb : List (Nat × List Cell)) (σ : St) (G : Gh), RG F G σ a w → boxB p bs = some (hb, bb) → nodupB (bs.map (·.1)) = true → nodupB (bs.map (·.2)) = true → (∀ e ∈ bs, bec e.1 = G.be e.2) →
    (∀ e ∈ bs, ∀ e' ∈ bs, G.be e.2 = G.be e'.2 → e.2 = e'.2) → (∀ e ∈ bs, G.ow (G.be e.2) = .gone ∧ ∀ s, ¬ Fs s (G.be e.2)) → (∀ e ∈ bs, ∀ j b, Fs (.box e.1 j) b → G.ow b = .gone) → (hb ≠ [] → ∀ e ∈ bs, Fresh σ (64 * e.2) 64) →
    ∃ G', RG F G' { σ with hp := hb ++ σ.hp, bx := bb ++ σ.bx } a w ∧ Grow (fun b => (∃ e ∈ bs, ∃ j, Fs (.box e.1 j) b) ∨ ∃ e ∈ bs, b = G.be e.2) (fun m => m / 64 ∈ bs.map (·.2)) G G' ∧
      ∀ l, NoRef σ l → l / 64 ∉ bs.map (·.2) → NoRef { σ with hp := hb ++ σ.hp, bx := bb ++ σ.bx } l := by
  intro bs
  induction bs with
  | nil => intro hb bb σ G h hk _ _ _ _ _ _ _; simp only [boxB, Option.some.injEq, Prod.mk.injEq] at hk; obtain ⟨rfl, rfl⟩ := hk; exact ⟨G, h, Grow.refl _ _ _, fun l hl _ => hl⟩
  | cons e bs ih =>
    obtain ⟨cb, b⟩ := e
    intro hb bb σ G h hk hn hn2 hbe hinj hgb hgt hfr
    simp only [boxB] at hk
    split at hk
    · rename_i ds hs' bs' h1 h2
      cases hc : decide (ds.length ≤ 64) with
      | false => simp [hc] at hk
      | true =>
        simp only [hc, cond_true, Option.some.injEq, Prod.mk.injEq] at hk
        obtain ⟨rfl, rfl⟩ := hk
        have hlen : ds.length ≤ 64 := of_decide_eq_true hc
        simp only [List.map_cons, nodupB, Bool.and_eq_true, Bool.not_eq_true', List.contains_eq_mem, decide_eq_false_iff_not] at hn hn2
        obtain ⟨G1, k1, k2, k3⟩ := ih hs' bs' σ G h h2 hn.2 hn2.2 (fun e he => hbe e (by simp [he])) (fun e he e' he' => hinj e (by simp [he]) e' (by simp [he'])) (fun e he => hgb e (by simp [he])) (fun e he => hgt e (by simp [he]))
          (fun hne e he => hfr (by simp [hne]) e (by simp [he]))
        obtain ⟨r, t, r1, r2, r3⟩ := hT cb ds h1
        have hbeb : bec cb = G.be b := hbe (cb, b) (by simp)
        have hgone : ∀ j x, Fs (.box cb j) x → G1.ow x = .gone := fun j x hx => k2.gone (hgt (cb, b) (by simp) j x hx) fun hu => by
          rcases hu with ⟨e, he, j', hx'⟩ | ⟨e, he, rfl⟩
          · have := hd _ _ _ hx hx'
            injection this with this
            exact hn.1 (this ▸ List.mem_map_of_mem he)
          · exact (hgb e (by simp [he])).2 _ hx
        have hnl : ∀ m, 64 * b ≤ m → m < 64 * b + ds.length → m / 64 = b := fun m h1 h2 => by omega
        obtain ⟨G2, m1, m2, m3⟩ := take_ok ds r.toList (fun j => Fs (.box cb j)) G1 (64 * b) { σ with hp := hs' ++ σ.hp, bx := bs' ++ σ.bx } k1
          (fun hne m h1 h2 => ⟨(hfr (by simp [hne]) (cb, b) (by simp) m h1 (by omega)).1, k3 m (hfr (by simp [hne]) (cb, b) (by simp) m h1 (by omega)).2 (by rw [hnl m h1 h2]; exact hn2.1)⟩)
          (by simpa using r2) (fun j c u hj hu => by
            obtain ⟨u', hu', ht⟩ := r3 j c hj
            have h2 : r.toList[j]? = some u' := by simpa using hu'
            rw [hu] at h2
            injection h2 with h2
            subst h2
            exact ht) (fun j x hx => ⟨hlt _ _ hx, hgone j x hx⟩) (fun j j' x hx hx' => by have := hd _ _ _ hx hx'; injection this)
        have hbe2 : G2.be = G.be := m3.be.trans k2.be
        have hg2 : G2.ow (G2.be b) = .gone := by
          rw [hbe2]
          refine m3.gone (k2.gone (hgb (cb, b) (by simp)).1 fun hu => ?_) fun ⟨j, hj⟩ => (hgb (cb, b) (by simp)).2 _ hj
          rcases hu with ⟨e, he, j', hx'⟩ | ⟨e, he, hx⟩
          · exact (hgb (cb, b) (by simp)).2 _ hx'
          · have := hinj (cb, b) (by simp) e (by simp [he]) hx
            have h3 : b = e.2 := this
            exact hn2.1 (h3 ▸ List.mem_map_of_mem he)
        obtain ⟨G3, n1, n2⟩ := m1.addBox b (takeC (64 * b) ds) r t hg2 (by rw [hbe2, ← hbeb]; exact r1) ⟨by rw [takeC_len]; exact r2, fun j c hj => by
          have hlt : j < r.size := by rw [r2, ← takeC_len ds (64 * b)]; exact (List.getElem?_eq_some_iff.1 hj).1
          exact ⟨r[j], by simp [hlt], m2 j c r[j] hj (by simp [hlt])⟩⟩
        refine ⟨G3, ?_, ?_, fun l hl hml => ?_⟩
        · simpa only [List.append_assoc, List.cons_append] using n1
        · refine Grow.trans (k2.mono (fun x hx => ?_) fun m hm => by simp [hm]) (Grow.trans (m3.mono (fun x ⟨j, hx⟩ => .inl ⟨(cb, b), by simp, j, hx⟩) fun m hm => by simp [hnl m hm.1 hm.2]) (n2.mono (fun x hx => .inr ⟨(cb, b), by simp, by rw [← hbe2]; exact hx⟩) fun m hm => hm.elim))
          rcases hx with ⟨e, he, j, hx⟩ | ⟨e, he, hx⟩
          · exact .inl ⟨e, by simp [he], j, hx⟩
          · exact .inr ⟨e, by simp [he], hx⟩
        · have hml' : l / 64 ≠ b ∧ l / 64 ∉ bs.map (·.2) := by simpa using hml
          have hk := k3 l hl hml'.2
          refine noRef_box (σ := { σ with hp := _, bx := bs' ++ σ.bx }) hk ?_
          cases hq : (takeC (64 * b) ds).any (·.refs l) with
          | false => rfl
          | true =>
            obtain ⟨c, hc, hr⟩ := List.any_eq_true.1 hq
            obtain ⟨j, hj⟩ := List.mem_iff_getElem?.1 hc
            have := (takeC_refs _ _ _ _ hj).1 l hr
            exact absurd (hnl l this.1 this.2) hml'.1
    · simp at hk
theorem boxB_some {p : Pst} : ∀ {bs : List (Nat × Nat)} {r : List (Nat × Tree) × List (Nat × List Cell)}, boxB p bs = some r → ∀ e ∈ bs, (look p.bx e.1).isSome = true := by
  intro bs
  induction bs with
  | nil => intro r _ e he; simp at he
  | cons x bs ih =>
    obtain ⟨cb, b⟩ := x
    intro r h e he
    simp only [boxB] at h
    split at h
    · rename_i ds hs bb h1 h2
      rcases List.mem_cons.1 he with rfl | he
      · rw [h1]; rfl
      · exact ih h2 e he
    · cases h
theorem keptOf_mem {ms : List Md} : ∀ {gv : List (Nat × Option Nat × Tree)} {e : Nat × Nat}, e ∈ keptOf ms gv → ∃ T, (e.1, some e.2, T) ∈ gv := by
  intro gv
  induction gv with
  | nil => intro e h; simp [keptOf] at h
  | cons x gv ih =>
    obtain ⟨cl, m, T⟩ := x
    intro e h
    cases m with
    | none => obtain ⟨T', h'⟩ := ih (e := e) (by simpa [keptOf] using h); exact ⟨T', by simp [h']⟩
    | some l =>
      simp only [keptOf] at h
      cases hm : mdIs ms (cl / 64) with
      | false => simp only [hm, cond_false] at h; obtain ⟨T', h'⟩ := ih h; exact ⟨T', by simp [h']⟩
      | true =>
        simp only [hm, cond_true, List.mem_cons] at h
        rcases h with rfl | h
        · exact ⟨T, by simp⟩
        · obtain ⟨T', h'⟩ := ih h; exact ⟨T', by simp [h']⟩
theorem dropped_ok (h : RG F G σ a w) (g : Giv) (ks : List (Nat × Nat)) (hks : ∀ e ∈ ks, e.2 ∈ g.gl) : ∃ G', RG F G' (dropped σ g ks) a w ∧ G'.be = G.be ∧ G'.hv = G.hv ∧ (∀ b, G.ow b = .gone → G'.ow b = .gone) ∧ (∀ b m, G.ow b = .lab m → m ∈ g.gl → G'.ow b = .gone) ∧
    (∀ b m, G.ow b = .box m → m ∈ g.gb → G'.ow b = .gone) ∧ (∀ b, G'.ow b ≠ .gone → G'.ow b = G.ow b) ∧ (∀ b m, G'.ow b = .lab m → m ∉ g.gl) ∧ (∀ b m, G'.ow b = .box m → m ∉ g.gb) ∧ (g.gl = [] → g.gb = [] → G' = G) := by
  unfold dropped
  cases hc : (g.gl.isEmpty && g.gb.isEmpty) with
  | true =>
    simp only [Bool.and_eq_true, List.isEmpty_iff] at hc
    obtain ⟨h1, h2⟩ := hc
    refine ⟨G, h, rfl, rfl, fun _ h => h, ?_, ?_, fun _ _ => rfl, ?_, ?_, fun _ _ => rfl⟩ <;> simp [h1, h2]
  | false =>
    simp only [cond_false]
    obtain ⟨G', k1, k2, k3, k4, k5, k6, k7, k8, k9, _⟩ := h.drop (g.gl.filter fun l => !(ks.map (·.2)).contains l) (ks.map (·.2)) g.gb
    have hsplit : ∀ m, m ∈ g.gl → (m ∈ (g.gl.filter fun l => !(ks.map (·.2)).contains l)) ∨ m ∈ ks.map (·.2) := by
      intro m hm
      by_cases hk : m ∈ ks.map (·.2)
      · exact .inr hk
      · exact .inl (List.mem_filter.2 ⟨hm, by simpa using hk⟩)
    refine ⟨G', k1, k2, k3, k4, fun b m hb hm => k5 b m hb (hsplit m hm), k6, k7, fun b m hb hm => ?_, k9, fun h1 h2 => ?_⟩
    · obtain ⟨n1, n2⟩ := k8 b m hb
      rcases hsplit m hm with x | x
      · exact n1 x
      · exact n2 x
    · simp [h1, h2] at hc
theorem afterCall_ok {d : Nat} {ms : List Md} {g : Giv} {p : Pst} {v : Value} {Fs : Pl → Nat → Prop} {σ' : St} {x : TV} (h : RG F G σ a w) (hng : nodupB (g.gv.map (·.1)) = true) (hbs : nodupB (g.bs.map (·.1)) = true) (hgb : nodupB g.gb = true) (ho : Onward w w')
    (hfree : ∀ b, (gc w G g).ow b = .free → w'.heap[b]? = w.heap[b]?) (hcur : ∀ b, (gc w G g).ow b = .cur → CurStep w w' b) (hp : PstF w (gc w G g) w' v p Fs) (hk : afterCall d σ ms g p = some (σ', x)) :
    ∃ G', RG F G' σ' a w' ∧ TVR w' G' x v ∧ (g.gl = [] → g.gb = [] → (∀ b, G.ow b ≠ .gone → G'.ow b = G.ow b) ∧ G'.be = G.be ∧ ∀ l, (l < 64 * d ∨ 64 * d + 64 ≤ l) → G'.hv l = G.hv l) := by
  unfold afterCall at hk
  dsimp only at hk
  split at hk
  · rename_i hkp hb bs e1 e2
    generalize hcnd : ((hb.isEmpty && (p.r.take (64 * d)).2.isEmpty || noneIn σ.fl (ranges d g.gb)) && decide (p.r.len ≤ 64) && nodupB ((keptOf ms g.gv).map (·.1)) && !g.gb.contains d && g.bs.all (fun e => (look σ.bx e.2).isSome)) = cnd at hk
    cases cnd with
    | false => simp at hk
    | true =>
      simp only [cond_true, Option.some.injEq, Prod.mk.injEq] at hk
      obtain ⟨rfl, rfl⟩ := hk
      simp only [Bool.and_eq_true, Bool.or_eq_true, Bool.not_eq_true', decide_eq_true_eq, List.contains_eq_mem, decide_eq_false_iff_not, List.all_eq_true] at hcnd
      obtain ⟨⟨⟨⟨c1, c2⟩, c3⟩, c4⟩, c5⟩ := hcnd
      have kmem : ∀ e ∈ keptOf ms g.gv, e.2 ∈ g.gl := fun e he => let ⟨T, hT⟩ := keptOf_mem he; mem_gl hT
      obtain ⟨G1, d1, d2, d3, d4, d5, d6, d7, d8, d9, d10⟩ := dropped_ok h g (keptOf ms g.gv) kmem
      have hlt : ∀ b, w.heap.size ≤ b → G.ow b = .gone := by
        intro b hb1
        cases hq : G.ow b with
        | gone => rfl
        | _ => exact absurd (h.lt b (by simp [hq])) (by omega)
      have w1 : RG F G1 (dropped σ g (keptOf ms g.gv)) a w' := d1.world2 ho (fun b hb1 hb2 => by
        have e := d7 b hb1
        refine hfree b (gc_free ?_ (e ▸ hb2) (fun m hm => ?_) fun m hm => ?_)
        · exact h.lt b (e ▸ hb1)
        · exact d8 b m (e.trans hm)
        · exact d9 b m (e.trans hm)) fun b hb1 => by
        have e := d7 b (by rw [hb1]; intro e; cases e)
        have hc : G.ow b = .cur := e ▸ hb1
        have hlt1 : b < w.heap.size := h.lt b (by simp [hc])
        exact hcur b (by simp only [gc, hlt1, if_true, hc, gcOw])
      have hgn : ∀ s b, Fs s b → G1.ow b = .gone := by
        intro s b hs
        have e := (hp.own s b hs).2.1.1
        have e0 := (hp.own s b hs).2.1.2
        by_cases hb1 : b < w.heap.size
        · simp only [gc, hb1, if_true] at e e0
          cases hq : G.ow b with
          | gone => exact d4 b hq
          | free => simp [hq, gcOw] at e
          | lab m =>
            rw [hq] at e
            simp only [gcOw] at e
            split at e
            · rename_i cl hl2
              obtain ⟨T, hT⟩ := lab2_mem hl2
              exact d5 b m hq (mem_gl hT)
            · simp at e
          | box m =>
            rw [hq] at e
            simp only [gcOw] at e
            split at e
            · rename_i cb hl2
              exact d6 b m hq (List.mem_map_of_mem (f := (·.2)) (box2_mem hl2))
            · simp at e
          | cur => rw [hq] at e0; exact absurd rfl e0
        · exact d4 b (hlt b (by omega))
      have hbo : ∀ e ∈ g.bs, G.ow (G.be e.2) = .box e.2 := by
        intro e he
        obtain ⟨cs, hcs⟩ := Option.isSome_iff_exists.1 (c5 e he)
        exact (h.bx e.2 cs hcs).1
      have hnb : ∀ e ∈ g.bs, ∀ s, ¬ Fs s (G.be e.2) := by
        intro e he s hs
        have hbe1 : (gc w G g).be e.1 = G.be e.2 := by
          have := look_mem (l := g.bs) hbs he
          simp only [gc, this]
        exact (hp.own s _ hs).2.2 e.1 (boxB_some e2 e he) hbe1.symm
      have w2 : RG F G1 (bif hb.isEmpty && (p.r.take (64 * d)).2.isEmpty then dropped σ g (keptOf ms g.gv) else (dropped σ g (keptOf ms g.gv)).zap (ranges d g.gb) (fun _ => false)) a w' := by
        cases hb.isEmpty && (p.r.take (64 * d)).2.isEmpty with
        | true => exact w1
        | false => exact w1.zap _ _
      have hfl : (bif hb.isEmpty && (p.r.take (64 * d)).2.isEmpty then dropped σ g (keptOf ms g.gv) else (dropped σ g (keptOf ms g.gv)).zap (ranges d g.gb) (fun _ => false)).fl = σ.fl := by
        have : (dropped σ g (keptOf ms g.gv)).fl = σ.fl := by
          unfold dropped
          cases (g.gl.isEmpty && g.gb.isEmpty) <;> rfl
        cases hb.isEmpty && (p.r.take (64 * d)).2.isEmpty
        · exact this
        · exact this
      have fresh : ∀ m, (hb ≠ [] ∨ (p.r.take (64 * d)).2 ≠ []) → ranges d g.gb m = true → m ∉ σ.fl ∧ NoRef (bif hb.isEmpty && (p.r.take (64 * d)).2.isEmpty then dropped σ g (keptOf ms g.gv) else (dropped σ g (keptOf ms g.gv)).zap (ranges d g.gb) (fun _ => false)) m := by
        intro m hne hm
        have hf : (hb.isEmpty && (p.r.take (64 * d)).2.isEmpty) = false := by
          rcases hne with hne | hne <;> simp [hne]
        rw [hf]
        refine ⟨fun hmem => ?_, zap_noRef hm⟩
        rcases c1 with c1 | c1
        · simp [c1.1, c1.2] at hf
        · unfold noneIn at c1
          rw [List.all_eq_true] at c1
          have := c1 m hmem
          simp [hm] at this
      generalize (bif hb.isEmpty && (p.r.take (64 * d)).2.isEmpty then dropped σ g (keptOf ms g.gv) else (dropped σ g (keptOf ms g.gv)).zap (ranges d g.gb) (fun _ => false)) = σ2 at w2 hfl fresh
      obtain ⟨G2, k1, k2⟩ := keptH_ok (hvc := (gc w G g).hv) hp.hp hp.dis (fun s b hs => (hp.own s b hs).1) (keptOf ms g.gv) hkp σ2 G1 w2 e1 c3 (fun e he => by
        obtain ⟨T, hT⟩ := keptOf_mem he
        have := look_mem (l := g.gv) hng hT
        rw [d3]
        simp only [gc, this]) (fun e he b hb1 => hgn _ _ hb1)
      have hmb : ∀ e ∈ g.bs, e.2 ∈ g.gb := fun e he => List.mem_map_of_mem he
      have hbe1 : ∀ e ∈ g.bs, (gc w G g).be e.1 = G.be e.2 := fun e he => by
        have := look_mem (l := g.bs) hbs he
        simp only [gc, this]
      have hbe2 : G2.be = G.be := k2.be.trans d2
      obtain ⟨G3, m1, m2, m3⟩ := boxB_ok (bec := (gc w G g).be) hp.bx hp.dis (fun s b hs => (hp.own s b hs).1) g.bs hb bs { σ2 with hp := hkp ++ σ2.hp } G2 k1 e2 hbs hgb (fun e he => by rw [hbe2]; exact hbe1 e he)
        (fun e he e' he' hee => by rw [hbe2] at hee; have h1 := hbo e he; rw [hee, hbo e' he'] at h1; injection h1 with h1; exact h1.symm)
        (fun e he => by
          rw [hbe2]
          refine ⟨k2.gone (d6 _ _ (hbo e he) (hmb e he)) fun ⟨e', _, hx⟩ => hnb e he _ hx, hnb e he⟩)
        (fun e he j b hb1 => k2.gone (hgn _ _ hb1) fun ⟨e', _, hx⟩ => by have := hp.dis _ _ _ hb1 hx; cases this)
        (fun hne e he m h1 h2 => by
          have hr : ranges d g.gb m = true := by
            have : m / 64 = e.2 := by omega
            simp [ranges, this, hmb e he]
          have := fresh m (.inl hne) hr
          exact ⟨by show m ∉ σ2.fl; rw [hfl]; exact this.1, this.2⟩)
      obtain ⟨G4, n1, n2, n3⟩ := resTake_ok p.r m1 (64 * d) (fun hne m h1 h2 => by
          have hmd : m / 64 = d := by have := c2; omega
          have hr : ranges d g.gb m = true := by simp [ranges, hmd]
          have := fresh m (.inr hne) hr
          exact ⟨by show m ∉ σ2.fl; rw [hfl]; exact this.1, m3 m this.2 (by rw [hmd]; exact c4)⟩) hp.res
        (fun i j b hb1 => ⟨(hp.own _ _ hb1).1, m2.gone (k2.gone (hgn _ _ hb1) fun ⟨e', _, hx⟩ => by have := hp.dis _ _ _ hb1 hx; cases this) fun hu => by
          rcases hu with ⟨e', _, j', hx⟩ | ⟨e', he', hx⟩
          · have := hp.dis _ _ _ hb1 hx; cases this
          · rw [hbe2] at hx; exact hnb e' he' _ (hx ▸ hb1)⟩)
        (fun i j i' j' b hb1 hb2 => by have := hp.dis _ _ _ hb1 hb2; injection this with x1 x2; exact ⟨x1, x2⟩)
      refine ⟨G4, n1, n2, fun hgl hgb0 => ?_⟩
      have hG : G1 = G := d10 hgl hgb0
      have hbs0 : g.bs = [] := by simpa [Giv.gb] using hgb0
      subst hG
      refine ⟨fun b hb1 => ?_, n3.be.trans (m2.be.trans k2.be), fun l hl => ?_⟩
      · rw [n3.same, m2.same, k2.same hb1]
        · rw [k2.same hb1]; exact hb1
        · rw [m2.same (by rw [k2.same hb1]; exact hb1), k2.same hb1]; exact hb1
      · have q1 : G4.hv l = G3.hv l := (n3.hv l).resolve_right (by omega)
        have q2 : G3.hv l = G2.hv l := (m2.hv l).resolve_right (by simp [hbs0])
        have q3 : G2.hv l = G1.hv l := (k2.hv l).resolve_right id
        rw [q1, q2, q3]
  · simp at hk
end
end Go.D
