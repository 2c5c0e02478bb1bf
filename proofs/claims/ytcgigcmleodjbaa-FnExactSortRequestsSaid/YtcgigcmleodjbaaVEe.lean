/-
  Contracts of functions that are given memory: variables by their address, slices written in place, slices given away; recursion.
-/
import Derived.Test.YtcgigcmleodjbaaVEd
namespace Go.D
set_option linter.unusedVariables false
/-- l: lent; b: a variable's address, the variable comes back; k: memory written in place; g: memory given away -/
inductive Gk where
  | l (a : Ak)
  | b (s : Sh)
  | k (s : Sh)
  | g (s : Sh)
abbrev Gk.X : Gk → Type
  | .l a => a.X
  | .b s => s.X
  | .k s => s.X
  | .g s => s.X
abbrev Gs : List Gk → Type
  | [] => Unit
  | k :: ks => k.X × Gs ks
abbrev Ys : List Gk → Type
  | [] => Unit
  | .l _ :: ks => Ys ks
  | .b s :: ks => s.X × Ys ks
  | .k s :: ks => s.X × Ys ks
  | .g _ :: ks => Ys ks
def gTms : Nat → (ks : List Gk) → Gs ks → List TV
  | _, [], _ => []
  | j, .l a :: ks, x => canon a x.1 :: gTms (j + 1) ks x.2
  | j, .b _ :: ks, x => .ptr j 0 :: gTms (j + 1) ks x.2
  | j, .k s :: ks, x => .v s.agg (takeC (64 * j) (s.fc x.1)) :: gTms (j + 1) ks x.2
  | j, .g s :: ks, x => .v s.agg (takeC (64 * j) (s.fc x.1)) :: gTms (j + 1) ks x.2
def gBxs : Nat → (ks : List Gk) → Gs ks → List (Nat × List Cell)
  | _, [], _ => []
  | j, .l _ :: ks, x => gBxs (j + 1) ks x.2
  | j, .b s :: ks, x => (j, takeC (64 * j) (s.fc x.1)) :: gBxs (j + 1) ks x.2
  | j, .k _ :: ks, x => gBxs (j + 1) ks x.2
  | j, .g _ :: ks, x => gBxs (j + 1) ks x.2
def gHps : Nat → (ks : List Gk) → Gs ks → List (Nat × Tree)
  | _, [], _ => []
  | j, .l _ :: ks, x => gHps (j + 1) ks x.2
  | j, .b s :: ks, x => takeH (64 * j) (s.fc x.1) ++ gHps (j + 1) ks x.2
  | j, .k s :: ks, x => takeH (64 * j) (s.fc x.1) ++ gHps (j + 1) ks x.2
  | j, .g s :: ks, x => takeH (64 * j) (s.fc x.1) ++ gHps (j + 1) ks x.2
def yHps : Nat → (ks : List Gk) → Ys ks → List (Nat × Tree)
  | _, [], _ => []
  | j, .l _ :: ks, y => yHps (j + 1) ks y
  | j, .b _ :: ks, y => yHps (j + 1) ks y.2
  | j, .k s :: ks, y => takeH (64 * j) (s.fc y.1) ++ yHps (j + 1) ks y.2
  | j, .g _ :: ks, y => yHps (j + 1) ks y
def yBxs : Nat → (ks : List Gk) → Ys ks → List (Nat × List FC)
  | _, [], _ => []
  | j, .l _ :: ks, y => yBxs (j + 1) ks y
  | j, .b s :: ks, y => (j, s.fc y.1) :: yBxs (j + 1) ks y.2
  | j, .k _ :: ks, y => yBxs (j + 1) ks y.2
  | j, .g _ :: ks, y => yBxs (j + 1) ks y
/-- a contract: what is given and lent, results, what is asked, what is returned and left behind -/
structure GS where
  as : List Gk
  rs : List Sh
  pre : Gs as → Prop
  fn : Gs as → Ts rs × Ys as
def Gk.md : Gk → Md
  | .l _ => .lend
  | .b _ => .box
  | .k _ => .keep
  | .g _ => .give
def GS.ms (S : GS) : List Md := S.as.map (·.md)
def GS.arg (S : GS) (x : Gs S.as) : Arg := ⟨gTms 0 S.as x, gBxs 0 S.as x, gHps 0 S.as x⟩
/-- the labels that are kept -/
def klOf : Nat → List Gk → List Nat
  | _, [] => []
  | j, .k _ :: ks => 64 * j :: klOf (j + 1) ks
  | j, _ :: ks => klOf (j + 1) ks
def GS.kl (S : GS) : List Nat := klOf 0 S.as
def GS.pst (S : GS) (y : Ts S.rs × Ys S.as) : Pst := ⟨mkR S.rs y.1, yHps 0 S.as y.2, yBxs 0 S.as y.2⟩
def GS.ctr (S : GS) (x : Gs S.as) : Ctr := .det [] (S.pst (S.fn x))
def GS.ok (S : GS) (P : Program) (f : Nat) : Prop := ∀ x, S.pre x → Con P f (S.arg x) (S.ctr x).sat
def decOwn (hp : List (Nat × Tree)) (s : Sh) (j : Nat) (cs : List Cell) : Option s.X := bif refsAt (64 * j) cs then (match litC (hpSt hp) cs with
  | some (ds, _) => s.dec ds
  | none => none) else none
def decG (A : Arg) : Nat → (ks : List Gk) → List TV → Option (Gs ks)
  | _, [], [] => some ()
  | j, .l a :: ks, t :: ts => match decTV a t, decG A (j + 1) ks ts with
    | some x, some xs => some (x, xs)
    | _, _ => none
  | j, .b s :: ks, .ptr b 0 :: ts => bif b == j then (match look A.bx j with
    | some cs => match decOwn A.hp s j cs, decG A (j + 1) ks ts with
      | some x, some xs => some (x, xs)
      | _, _ => none
    | none => none) else none
  | j, .k s :: ks, .v agg cs :: ts => bif agg == s.agg then (match decOwn A.hp s j cs, decG A (j + 1) ks ts with
    | some x, some xs => some (x, xs)
    | _, _ => none) else none
  | j, .g s :: ks, .v agg cs :: ts => bif agg == s.agg then (match decOwn A.hp s j cs, decG A (j + 1) ks ts with
    | some x, some xs => some (x, xs)
    | _, _ => none) else none
  | _, _, _ => none
def GS.spec (S : GS) : D.Spec := fun A => match decG A 0 S.as A.tm with
  | some x => some (.df [S.pre x] (Ts S.rs × Ys S.as) (S.fn x) S.pst)
  | none => none
section
variable {w : World} {G : Gh} {A : Arg} {vs : Array Value}
theorem decOwn_ok {hp : List (Nat × Tree)} {s : Sh} {j : Nat} {cs : List Cell} {x : s.X} (h : decOwn hp s j cs = some x) :
    (takeC (64 * j) (s.fc x)).length = cs.length ∧ (∀ (i : Nat) (d : Cell), (takeC (64 * j) (s.fc x))[i]? = some d → ∃ c, cs[i]? = some c ∧ ∀ v, CellR w G c v → CellR w G d v) ∧
    ∀ l T, look (takeH (64 * j) (s.fc x)) l = some T → look hp l = some T := by
  unfold decOwn at h
  cases hr : refsAt (64 * j) cs with
  | false => simp [hr] at h
  | true =>
    simp only [hr, cond_true] at h
    split at h
    · rename_i ds ab hl
      obtain ⟨l1, l2⟩ := litC_get hl
      obtain ⟨r1, r2⟩ := refsAt_get hr
      have hds : ds = s.fc x := by
        refine (Sh.dec_ok h).eq_of fun i hi => ?_
        have hlt : i < cs.length := by rw [← l1]; exact (List.getElem?_eq_some_iff.1 hi).1
        rcases l2 i _ _ (List.getElem?_eq_getElem hlt) hi with ⟨e, _⟩ | ⟨_, _, _, _, e⟩ | ⟨_, _, e⟩
        · exact r2 i (by rw [List.getElem?_eq_getElem hlt, e])
        · cases e
        · cases e
      subst hds
      refine ⟨by rw [takeC_len, l1], fun i d hd => ?_, fun l T hl' => ?_⟩
      · obtain ⟨fc, hfc, hcase⟩ := takeC_get hd
        have hlt : i < cs.length := by rw [← l1]; exact (List.getElem?_eq_some_iff.1 hfc).1
        refine ⟨cs[i], List.getElem?_eq_getElem hlt, fun u hu => ?_⟩
        have hrel := l2 i _ _ (List.getElem?_eq_getElem hlt) hfc
        rcases hcase with ⟨v', rfl, rfl⟩ | ⟨rfl, rfl⟩ | ⟨t, xs, rfl, rfl⟩
        · rcases hrel with ⟨_, e⟩ | ⟨_, _, _, _, e⟩ | ⟨v'', hv'', e⟩
          · cases e
          · cases e
          · injection e with e; subst e; exact Cell.val_ok hu hv''
        · rcases hrel with ⟨e, _⟩ | ⟨_, _, _, _, e⟩ | ⟨_, _, e⟩
          · exact absurd (by rw [List.getElem?_eq_getElem hlt, e]) (r2 i)
          · cases e
          · cases e
        · rcases hrel with ⟨_, e⟩ | ⟨l, T, e1, _, _⟩ | ⟨_, _, e⟩
          · cases e
          · have hl' := r1 i l (by rw [List.getElem?_eq_getElem hlt, e1])
            rw [e1] at hu
            subst hl'
            exact hu
          · cases e
      · obtain ⟨hle, hfc⟩ := takeH_look hl'
        have hlt : l - 64 * j < cs.length := by rw [← l1]; exact (List.getElem?_eq_some_iff.1 hfc).1
        rcases l2 _ _ _ (List.getElem?_eq_getElem hlt) hfc with ⟨_, e⟩ | ⟨l', T', e1, e2, e3⟩ | ⟨_, _, e⟩
        · cases e
        · have hl2 := r1 _ l' (by rw [List.getElem?_eq_getElem hlt, e1])
          have hl3 : l' = l := by omega
          subst hl3
          obtain ⟨t1, x1⟩ := T
          obtain ⟨t2, x2⟩ := T'
          injection e3 with e4 e5
          subst e4
          have e5 := eq_of_heq e5
          subst e5
          exact e2
        · cases e
    · cases h
theorem look_app {α : Type} {l m : List (Nat × α)} {t : Nat} {x : α} (h : look (l ++ m) t = some x) : look l t = some x ∨ look m t = some x := by
  induction l with
  | nil => exact .inr h
  | cons p l ih =>
    obtain ⟨s, u⟩ := p
    simp only [List.cons_append, look] at h ⊢
    split at h
    · rename_i e; rw [if_pos e]; exact .inl h
    · rename_i e; rw [if_neg e]; exact ih h
theorem decG_ok (hA : ArgR w G A vs) : ∀ (ks : List Gk) (j : Nat) (ts : List TV) (x : Gs ks), decG A j ks ts = some x →
    (gTms j ks x).length = ts.length ∧ (∀ (i : Nat) (y : TV), (gTms j ks x)[i]? = some y → ∃ t, ts[i]? = some t ∧ ∀ v, TVR w G t v → TVR w G y v) ∧
    (∀ b cs, look (gBxs j ks x) b = some cs → G.ow (G.be b) = .box b ∧ ∃ r e, w.heap[G.be b]? = some (.cells r e (0, 0)) ∧ CellsR w G cs r) ∧
    ∀ l T, look (gHps j ks x) l = some T → look A.hp l = some T := by
  intro ks
  induction ks with
  | nil =>
    intro j ts x h
    cases ts with
    | nil => simp [gTms, gBxs, gHps, look]
    | cons t ts => simp [decG] at h
  | cons k ks ih =>
    intro j ts x h
    cases ts with
    | nil => cases k <;> simp [decG] at h
    | cons t ts =>
      have cons : ∀ (y : TV) (ys : List TV), ys.length = ts.length → (∀ v, TVR w G t v → TVR w G y v) → (∀ (i : Nat) (z : TV), ys[i]? = some z → ∃ t, ts[i]? = some t ∧ ∀ v, TVR w G t v → TVR w G z v) →
          (y :: ys).length = (t :: ts).length ∧ (∀ (i : Nat) (z : TV), (y :: ys)[i]? = some z → ∃ t', (t :: ts)[i]? = some t' ∧ ∀ v, TVR w G t' v → TVR w G z v) := by
        intro y ys hl h0 hs
        refine ⟨by simp [hl], fun i z hz => ?_⟩
        cases i with
        | zero => simp only [List.getElem?_cons_zero, Option.some.injEq] at hz; subst hz; exact ⟨t, rfl, h0⟩
        | succ i => simpa using hs i z (by simpa using hz)
      cases k with
      | l a =>
        simp only [decG] at h
        split at h
        · rename_i x1 xs h1 h2
          simp only [Option.some.injEq] at h
          subst h
          obtain ⟨k1, k2, k3, k4⟩ := ih _ _ _ h2
          obtain ⟨c1, c2⟩ := cons _ _ k1 (fun v hv => decTV_ok h1 hv) k2
          exact ⟨c1, c2, k3, k4⟩
        · cases h
      | b s =>
        cases t <;> first | (simp [decG] at h; done) | skip
        rename_i b off
        cases off with
        | succ n => simp [decG] at h
        | zero =>
          simp only [decG] at h
          cases hb : (b == j) with
          | false => simp [hb] at h
          | true =>
            simp only [hb, cond_true] at h
            have hb' : b = j := by simpa using hb
            subst hb'
            split at h
            · rename_i cs hbx
              split at h
              · rename_i x1 xs h1 h2
                simp only [Option.some.injEq] at h
                subst h
                obtain ⟨k1, k2, k3, k4⟩ := ih _ _ _ h2
                obtain ⟨d1, d2, d3⟩ := decOwn_ok (w := w) (G := G) h1
                obtain ⟨c1, c2⟩ := cons (.ptr b 0) _ k1 (fun v hv => hv) k2
                refine ⟨c1, c2, fun b' cs' hl => ?_, fun l T hl => ?_⟩
                · simp only [gBxs, look] at hl
                  split at hl
                  · rename_i e
                    have e' : b' = b := by simpa using e
                    subst e'
                    simp only [Option.some.injEq] at hl
                    subst hl
                    obtain ⟨q1, r, e, q2, q3⟩ := hA.bx b' cs hbx
                    refine ⟨q1, r, e, q2, by rw [d1]; exact q3.1, fun i d hd => ?_⟩
                    obtain ⟨c, hc, hr⟩ := d2 i d hd
                    obtain ⟨u, hu, hcr⟩ := q3.2 i c hc
                    exact ⟨u, hu, hr u hcr⟩
                  · exact k3 b' cs' hl
                · rcases look_app hl with hl | hl
                  · exact d3 l T hl
                  · exact k4 l T hl
              · cases h
            · cases h
      | k s =>
        cases t <;> first | (simp [decG] at h; done) | skip
        rename_i agg cs
        simp only [decG] at h
        cases hb : (agg == s.agg) with
        | false => simp [hb] at h
        | true =>
          simp only [hb, cond_true] at h
          have hb' : agg = s.agg := by simpa using hb
          subst hb'
          split at h
          · rename_i x1 xs h1 h2
            simp only [Option.some.injEq] at h
            subst h
            obtain ⟨k1, k2, k3, k4⟩ := ih _ _ _ h2
            obtain ⟨d1, d2, d3⟩ := decOwn_ok (w := w) (G := G) h1
            obtain ⟨c1, c2⟩ := cons (.v s.agg (takeC (64 * j) (s.fc x1))) _ k1 (fun v hv => part_map d1 d2 hv) k2
            refine ⟨c1, c2, k3, fun l T hl => ?_⟩
            rcases look_app hl with hl | hl
            · exact d3 l T hl
            · exact k4 l T hl
          · cases h
      | g s =>
        cases t <;> first | (simp [decG] at h; done) | skip
        rename_i agg cs
        simp only [decG] at h
        cases hb : (agg == s.agg) with
        | false => simp [hb] at h
        | true =>
          simp only [hb, cond_true] at h
          have hb' : agg = s.agg := by simpa using hb
          subst hb'
          split at h
          · rename_i x1 xs h1 h2
            simp only [Option.some.injEq] at h
            subst h
            obtain ⟨k1, k2, k3, k4⟩ := ih _ _ _ h2
            obtain ⟨d1, d2, d3⟩ := decOwn_ok (w := w) (G := G) h1
            obtain ⟨c1, c2⟩ := cons (.v s.agg (takeC (64 * j) (s.fc x1))) _ k1 (fun v hv => part_map d1 d2 hv) k2
            refine ⟨c1, c2, k3, fun l T hl => ?_⟩
            rcases look_app hl with hl | hl
            · exact d3 l T hl
            · exact k4 l T hl
          · cases h
end
theorem GS.spec_ok {S : GS} {P : Program} {f : Nat} (h : S.ok P f) : SpecOk P f S.spec := by
  intro A c hc hp
  unfold GS.spec at hc
  split at hc
  · rename_i x hx
    simp only [Option.some.injEq] at hc
    subst hc
    have hpre : S.pre x := hp _ (List.mem_singleton_self _)
    intro w vs G hB hA
    obtain ⟨k1, k2, k3, k4⟩ := decG_ok hA _ _ _ _ hx
    refine (h x hpre w vs G hB ⟨?_, ?_, k3, fun l T hl => hA.hp l T (k4 l T hl), hA.lt, hA.cr⟩).mono ?_
    · rw [hA.sz]; exact k1.symm
    · intro j y hj
      obtain ⟨t, ht, hr⟩ := k2 j y hj
      obtain ⟨v, hv, hvt⟩ := hA.tm j t ht
      exact ⟨v, hv, hr v hvt⟩
    · rintro e w' ⟨v, p, hs, hrest⟩
      exact ⟨v, p, hs, hrest⟩
  · cases hc
def mdsEq : List Md → List Md → Bool
  | [], [] => true
  | .lend :: a, .lend :: b => mdsEq a b
  | .give :: a, .give :: b => mdsEq a b
  | .keep :: a, .keep :: b => mdsEq a b
  | .box :: a, .box :: b => mdsEq a b
  | _, _ => false
theorem mdsEq_ok : ∀ {a b : List Md}, mdsEq a b = true → a = b := by
  intro a
  induction a with
  | nil => intro b h; cases b with
    | nil => rfl
    | cons m b => cases m <;> simp [mdsEq] at h
  | cons m a ih =>
    intro b h
    cases b with
    | nil => cases m <;> simp [mdsEq] at h
    | cons n b => cases m <;> cases n <;> simp only [mdsEq, Bool.false_eq_true] at h <;> rw [ih h]
def orSpecG (ms : List Md) (g : D.Spec) : Option (List Md × D.Spec) → D.Spec
  | some (ms', g0) => fun A => match g A with
    | some c => some c
    | none => bif mdsEq ms' ms then g0 A else none
  | none => g
def Env.addG (E : Env) (f : Nat) (S : GS) : Env := E.ext f S.ms (orSpecG S.ms S.spec (E.fn f))
theorem gms_new : ∀ ks : List Gk, isNewMd (ks.map (·.md)) = false
  | [] => rfl
  | [k] => by cases k <;> rfl
  | k :: _ :: _ => by cases k <;> rfl
theorem EOk.addG {P : Program} {E : Env} (h : EOk P E) {f : Nat} {S : GS} (hS : S.ok P f) : EOk P (E.addG f S) := by
  refine h.ext ?_ (fun hn => by rw [GS.ms, gms_new] at hn; cases hn)
  have hS' := GS.spec_ok hS
  unfold orSpecG
  split
  · rename_i ms' g0 hg0
    intro A c hc
    dsimp only at hc
    split at hc
    · rename_i c' hc'
      simp only [Option.some.injEq] at hc
      subst hc
      exact hS' A c' hc'
    · cases hm : mdsEq ms' S.ms with
      | false => simp [hm] at hc
      | true =>
        simp only [hm, cond_true] at hc
        exact (h f ms' g0 hg0).1 A c hc
  · exact hS'
theorem gTms_len : ∀ (ks : List Gk) (j : Nat) (x : Gs ks), (gTms j ks x).length = ks.length := by
  intro ks
  induction ks with
  | nil => intro _ _; rfl
  | cons k ks ih => intro j x; cases k <;> simp [gTms, ih]
theorem GS.of {S : GS} {P : Program} {E : Env} {L : Gs S.as → LEnv} {kp : List Nat} {f : Nat} {fn : Func} (hE : EOk P E) (hf : P.funcs[f]? = some fn) (hb : fn.body.isSome = true) (hn : decide (S.as.length ≤ fn.ntmps) = true)
    (hh : ∀ x, S.pre x → HoldsE (fnOut P E (L x) kp S.kl fn (S.arg x)) (S.ctr x).post) : S.ok P f := by
  intro x hx
  refine con_run hE hf hb ?_ (hh x hx).h
  have : (S.arg x).tm.length = S.as.length := gTms_len _ _ _
  rw [this]
  exact hn
def GS.out (S : GS) (y : Ts S.rs × Ys S.as) : Out := .leaf (mkR S.rs y.1) (yBxs 0 S.as y.2) (yHps 0 S.as y.2)
theorem bxSame_refl : ∀ ps : List (Nat × List FC), bxSame ps ps
  | [] => trivial
  | p :: ps => ⟨⟨rfl, fcsSame_refl _⟩, bxSame_refl ps⟩
theorem GS.leafY {S : GS} {x : Gs S.as} {y : Ts S.rs × Ys S.as} (h : y = S.fn x) : (S.out y).holds (S.ctr x).post := by
  subst h
  exact ⟨resSame_refl _, bxSame_refl _, rfl⟩
theorem GS.leafZ {S : GS} {x : Gs S.as} {r : Res} {bx : List (Nat × List FC)} {hp : List (Nat × Tree)} (y : Ts S.rs × Ys S.as) (h1 : pstSame ⟨r, hp, bx⟩ (S.pst y)) (h : y = S.fn x) : (Out.leaf r bx hp).holds (S.ctr x).post := by
  subst h
  exact h1
/-! recursion: by a measure of the arguments -/
abbrev GS.lim (S : GS) (m : Gs S.as → Nat) (n : Nat) : GS := { S with pre := fun x => S.pre x ∧ m x < n }
abbrev Fct.lim (S : Fct) (m : As S.as → Nat) (n : Nat) : Fct := { S with pre := fun x => S.pre x ∧ m x < n }
theorem GS.ofRec {S : GS} {P : Program} {E : Env} {L : Gs S.as → LEnv} {kp : List Nat} {f : Nat} {fn : Func} (m : Gs S.as → Nat) (hE : EOk P E) (hf : P.funcs[f]? = some fn) (hb : fn.body.isSome = true) (hn : decide (S.as.length ≤ fn.ntmps) = true)
    (hh : ∀ n x, S.pre x → m x < n + 1 → HoldsE (fnOut P (E.addG f (S.lim m n)) (L x) kp S.kl fn (S.arg x)) (S.ctr x).post) : S.ok P f := by
  have key : ∀ n, (S.lim m n).ok P f := by
    intro n
    induction n with
    | zero => intro x hx; exact absurd hx.2 (Nat.not_lt_zero _)
    | succ n ih =>
      intro x hx
      refine con_run (EOk.addG hE ih) hf hb ?_ (hh n x hx.1 hx.2).h
      have : ((S.lim m (n + 1)).arg x).tm.length = S.as.length := gTms_len _ _ _
      rw [this]
      exact hn
  intro x hx
  exact key (m x + 1) x ⟨hx, Nat.lt_succ_self _⟩
theorem canons_len : ∀ (ss : List Ak) (x : As ss), (canons ss x).length = ss.length := by
  intro ss
  induction ss with
  | nil => intro _; rfl
  | cons s ss ih => intro x; simp [canons, ih]
theorem Fct.ofRec {S : Fct} {P : Program} {E : Env} {L : As S.as → LEnv} {kp : List Nat} {f : Nat} {fn : Func} (m : As S.as → Nat) (hE : EOk P E) (hf : P.funcs[f]? = some fn) (hb : fn.body.isSome = true) (hn : decide (S.as.length ≤ fn.ntmps) = true)
    (hh : ∀ n x, S.pre x → m x < n + 1 → HoldsE (fnOut P (E.add f (S.lim m n)) (L x) kp [] fn (S.arg x)) (S.ctr x).post) : S.ok P f := by
  have key : ∀ n, (S.lim m n).ok P f := by
    intro n
    induction n with
    | zero => intro x hx; exact absurd hx.2 (Nat.not_lt_zero _)
    | succ n ih =>
      intro x hx
      refine con_run (EOk.add hE ih) hf hb ?_ (hh n x hx.1 hx.2).h
      have : ((S.lim m (n + 1)).arg x).tm.length = S.as.length := canons_len _ _
      rw [this]
      exact hn
  intro x hx
  exact key (m x + 1) x ⟨hx, Nat.lt_succ_self _⟩
end Go.D
