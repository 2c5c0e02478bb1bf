/-
  A law's arguments, read as data, are typed contents.
-/
import Derived.Test.YtcgigcmleodjbaaVEa
import Derived.Test.YtcgigcmleodjbaaVCc
import Derived.Carry
import Derived.ChangeOld
import Derived.ChangeArms
import Derived.ChangeShapes
import Derived.WideShapes
import Derived.ProofKit
import Derived.OpenShut
namespace Go.D
open Go.RowKit Go.ChangeShapes Go.WideShapes
set_option linter.unusedVariables false
/-- numbers in range, strings and slices of a machine's length, all the way down -/
def goodC : Nat → FC → Prop
  | _, .val (.int k n) => (Lit.int k n).wf = true
  | _, .val (.string s) => s.size ≤ maxLen
  | 0, .l _ xs => xs.length ≤ maxLen
  | d + 1, .l t xs => xs.length ≤ maxLen ∧ ∀ x ∈ xs, ∀ c ∈ enc t x, goodC d c
  | _, _ => True
def good (t : Ty) (x : El t) : Prop := ∀ c ∈ enc t x, goodC 8 c
def Sh.good (s : Sh) (x : s.X) : Prop := ∀ c ∈ s.fc x, goodC 8 c
abbrev Ls (ss : List Sh) : List Ak := ss.map .v
def goods : (ss : List Sh) → As (Ls ss) → Prop
  | [], _ => True
  | s :: ss, x => s.good x.1 ∧ goods ss x.2
theorem goodC_mono : ∀ (d : Nat) (c : FC), goodC (d + 1) c → goodC d c := by
  intro d
  induction d with
  | zero =>
    intro c h
    cases c with
    | val v => cases v <;> exact h
    | nl => trivial
    | l t xs => exact h.1
  | succ d ih =>
    intro c h
    cases c with
    | val v => cases v <;> exact h
    | nl => trivial
    | l t xs => exact ⟨h.1, fun x hx c hc => ih c (h.2 x hx c hc)⟩
theorem goodC_le {d e : Nat} (hde : d ≤ e) {c : FC} (h : goodC e c) : goodC d c := by
  induction e with
  | zero => have : d = 0 := by omega
            subst this; exact h
  | succ e ih =>
    by_cases hd : d = e + 1
    · subst hd; exact h
    · exact ih (by omega) (goodC_mono e c h)
def shapesFs (P : Program) (r : TypeId → Option (List Shp)) : List Field → Nat → Option (List Shp)
  | [], _ => some []
  | f :: fs, off => match r f.type, shapesFs P r fs (off + P.cellsOf f.type) with
    | some s, some s' => bif f.offset == off && s.length == P.cellsOf f.type then some (s ++ s') else none
    | _, _ => none
def shapeOf (P : Program) (ty : TypeId → Option Ty) : Nat → TypeId → Option (List Shp)
  | 0, _ => none
  | d + 1, T => match P.underlying T with
    | some .bool => some [.kb]
    | some (.int .i64) => some [.ki]
    | some (.int .u8) => some [.ku]
    | some .string => some [.ks]
    | some (.slice e) => match ty e with
      | some t => some [.kl t]
      | none => none
    | some (.struct fs) => match shapesFs P (shapeOf P ty d) fs.toList 0 with
      | some s => bif s.length == P.cellsOf T then some s else none
      | none => none
    | _ => none
def shpsEq : List Shp → List Shp → Bool
  | [], [] => true
  | a :: as, b :: bs => decide (a = b) && shpsEq as bs
  | _, _ => false
/-- each element type has the shape that it is told by -/
def tyOk (P : Program) (ty : TypeId → Option Ty) (l : List TypeId) : Bool :=
  l.all fun e => match ty e with
    | some t => (match shapeOf P ty 20 e with
      | some s => shpsEq s t.shapes
      | none => false) && P.cellsOf e == t.width
    | none => false
theorem shpsEq_ok : ∀ {a b : List Shp}, shpsEq a b = true → a = b := by
  intro a
  induction a with
  | nil => intro b h; cases b <;> simp_all [shpsEq]
  | cons x a ih => intro b h; cases b with
    | nil => simp [shpsEq] at h
    | cons y b => simp only [shpsEq, Bool.and_eq_true, decide_eq_true_eq] at h; rw [h.1, ih h.2]
theorem exists_list {α : Type} [Inhabited α] {p : Nat → α → Prop} : ∀ {n : Nat}, (∀ i, i < n → ∃ y, p i y) → ∃ l : List α, l.length = n ∧ ∀ i, i < n → p i (l.getD i default) := by
  intro n
  induction n with
  | zero => intro _; exact ⟨[], rfl, fun i h => by omega⟩
  | succ n ih =>
    intro h
    obtain ⟨l, h1, h2⟩ := ih fun i hi => h i (by omega)
    obtain ⟨y, hy⟩ := h n (by omega)
    refine ⟨l ++ [y], by simp [h1], fun i hi => ?_⟩
    by_cases e : i = n
    · subst e
      simpa [List.getD_eq_getElem?_getD, h1, List.getElem?_append_right] using hy
    · have : i < l.length := by omega
      simpa [List.getD_eq_getElem?_getD, List.getElem?_append_left this] using h2 i (by omega)
section
variable {H : Type} {enc' : TypeId × Value → H} {P : Program} {w : World} {ty : TypeId → Option Ty} {spare : Nat → Bool} {held : Bool}
def inW (w : World) : Nat → Prop := fun g => g < w.heap.size
/-- cells that are told by contents of a shape -/
def Told (w : World) (cs : List Value) (sh : List Shp) : Prop := ∃ fs : List FC, fs.length = cs.length ∧ fs.map FC.shp = sh ∧ (∀ (j : Nat) (c : FC) (u : Value), fs[j]? = some c → cs[j]? = some u → TR w (inW w) (fcC c) u) ∧ ∀ c ∈ fs, goodC 8 c
theorem tr_plain {u : Value} {S : Nat → Prop} (h : plain u = true) : TR w S (.val u) u := ⟨rfl, h⟩
theorem one_told {c : FC} {u : Value} (h : TR w (inW w) (fcC c) u) (hg : goodC 8 c) : Told w [u] [c.shp] := by
  refine ⟨[c], rfl, rfl, fun j c' u' hc hu => ?_, fun c' hc => by simp at hc; subst hc; exact hg⟩
  cases j with
  | zero => simp only [List.getElem?_cons_zero, Option.some.injEq] at hc hu; subst hc; subst hu; exact h
  | succ j => simp at hc
theorem cells_get {a : Addr} {n : Nat} {cs : List Value} (h : w.cells? 0 a n = some cs) : cs.length = n ∧ ∀ j, j < n → w.cell? (a.add j) = cs[j]? := by
  unfold World.cells? at h
  rw [if_pos (Nat.zero_le _)] at h
  refine ⟨by simpa using mapM_some_length h, fun j hj => ?_⟩
  exact mapM_some_get h j j (by simp [hj])
theorem cell_at {a : Addr} {u : Value} (h : w.cell? a = some u) : ∃ g o row e fr, a = ⟨g, o, none⟩ ∧ w.heap[g]? = some (.cells row e fr) ∧ row[o]? = some u := by
  unfold World.cell? at h
  split at h
  · rename_i c t fr hb
    split at h
    · cases h
    · rename_i hs
      obtain ⟨g, o, sp⟩ := a
      simp only [Option.isSome_iff_ne_none, ne_eq, Decidable.not_not] at hs
      subst hs
      exact ⟨g, o, c, t, fr, rfl, hb, h⟩
  · cases h
theorem rank_good (c : FC) (h : goodC 8 c) (d : Nat) (hd : d ≤ 8) : goodC d c := goodC_le hd h
theorem cells_rank_mem {t : Ty} {x : El t} {c : FC} (hc : c ∈ enc t x) : c.rank ≤ t.rank := by
  have := enc_rank t x
  rw [List.all_eq_true] at this
  simpa using this c hc
theorem goodC_up : ∀ (d : Nat) (c : FC), c.rank ≤ d → goodC d c → goodC (d + 1) c := by
  intro d
  induction d with
  | zero =>
    intro c hr h
    cases c with
    | val v => cases v <;> exact h
    | nl => trivial
    | l t xs => simp [FC.rank] at hr
  | succ d ih =>
    intro c hr h
    cases c with
    | val v => cases v <;> exact h
    | nl => trivial
    | l t xs =>
      simp only [FC.rank] at hr
      exact ⟨h.1, fun x hx c hc => ih c (by have := cells_rank_mem hc; omega) (h.2 x hx c hc)⟩
theorem trod_told (hty : ∀ e t, ty e = some t → shapeOf P ty 20 e = some t.shapes ∧ P.cellsOf e = t.width) : ∀ (fuel : Nat) (T : TypeId) (cs : List Value) (x : DataW H × List MemPlace) (d : Nat) (sh : List Shp),
    DataW.trod enc' P w 0 spare held fuel T cs = some x → shapeOf P ty d T = some sh → Told w cs sh := by
  intro fuel
  induction fuel with
  | zero => intro T cs x d sh h; simp [DataW.trod] at h
  | succ n ih =>
    intro T cs x d sh h hs
    cases d with
    | zero => simp [shapeOf] at hs
    | succ d =>
      unfold shapeOf at hs
      split at hs
      · rename_i hu
        simp only [Option.some.injEq] at hs
        subst hs
        obtain ⟨b, rfl, _⟩ := DataW.trod_bool hu h
        exact one_told (c := .val (.bool b)) (tr_plain rfl) trivial
      · rename_i hu
        simp only [Option.some.injEq] at hs
        subst hs
        obtain ⟨m, rfl, _, hw⟩ := DataW.trod_int hu h
        exact one_told (c := .val (.int .i64 m)) (tr_plain rfl) hw
      · rename_i hu
        simp only [Option.some.injEq] at hs
        subst hs
        obtain ⟨m, rfl, _, hw⟩ := DataW.trod_int hu h
        exact one_told (c := .val (.int .u8 m)) (tr_plain rfl) hw
      · rename_i hu
        simp only [Option.some.injEq] at hs
        subst hs
        obtain ⟨s, rfl, _, hw⟩ := DataW.trod_string hu h
        exact one_told (c := .val (.string s)) (tr_plain rfl) hw
      · rename_i e hu
        split at hs
        · rename_i t ht
          simp only [Option.some.injEq] at hs
          subst hs
          obtain ⟨hsh, hcw⟩ := hty e t ht
          rcases DataW.trod_slice hu h with ⟨rfl, _⟩ | ⟨a, len, cap, elems, rest, n', hn, rfl, _, _, hlc, hcm, hlen, hel, _, _⟩
          · refine one_told (c := .l t []) ?_ ⟨Nat.zero_le _, by simp⟩
            rw [fcC_l]
            exact ⟨none, 0, rfl, Nat.le_refl _, .inl rfl⟩
          · have hn' : n = n' := by omega
            subst hn'
            have each : ∀ i, i < len → ∃ y : El t, (∀ j, j < t.width → ∃ u, w.cell? ((a.add (i * t.width)).add j) = some u ∧ TR w (inW w) (fcC ((D.enc t y).getD j .nl)) u) ∧ ∀ c ∈ D.enc t y, goodC 8 c := by
              intro i hi
              have h1 := hel i hi
              rw [hcw] at h1
              have hlt : i < elems.length := by omega
              rw [List.getElem?_eq_getElem hlt, Option.bind_eq_some_iff] at h1
              obtain ⟨cs', hcs, htr⟩ := h1
              obtain ⟨fs, f1, f2, f3, f4⟩ := ih e cs' _ 20 t.shapes htr hsh
              obtain ⟨y, rfl⟩ := dec_shape t fs f2
              obtain ⟨c1, c2⟩ := cells_get hcs
              refine ⟨y, fun j hj => ?_, f4⟩
              have hj' : j < cs'.length := by omega
              refine ⟨cs'[j], by rw [c2 j hj]; simp [hj'], ?_⟩
              have hje : j < (D.enc t y).length := by rw [enc_len]; exact hj
              rw [List.getD_eq_getElem?_getD, List.getElem?_eq_getElem hje, Option.getD_some]
              exact f3 j _ _ (List.getElem?_eq_getElem hje) (List.getElem?_eq_getElem hj')
            obtain ⟨xs, x1, x2⟩ := exists_list each
            refine one_told (c := .l t xs) ?_ ⟨by omega, fun y hy c hc => ?_⟩
            · rw [fcC_l, x1]
              refine ⟨some a, cap, rfl, hlc, ?_⟩
              by_cases h0 : len = 0
              · exact .inl h0
              · right
                obtain ⟨u, hu1, _⟩ := (x2 0 (by omega)).1 0 (width_pos t)
                have ha : (a.add (0 * t.width)).add 0 = a := by simp [Addr.add]
                rw [ha] at hu1
                obtain ⟨g, o, row, te, fr, rfl, hg, _⟩ := cell_at hu1
                refine ⟨g, o, row, te, fr, rfl, (Array.getElem?_eq_some_iff.1 hg).1, hg, fun i hi j hj => ?_⟩
                obtain ⟨u, hu1, hu2⟩ := (x2 i hi).1 j hj
                rw [add_at, add_at] at hu1
                refine ⟨u, ?_, ?_⟩
                · unfold World.cell? at hu1
                  rw [hg] at hu1
                  simpa using hu1
                · simpa [cell] using hu2
            · obtain ⟨i, hi⟩ := List.mem_iff_getElem?.1 hy
              have hilt : i < len := by rw [← x1]; exact (List.getElem?_eq_some_iff.1 hi).1
              have := (x2 i hilt).2
              have hxi : xs.getD i default = y := by simp [List.getD, hi]
              rw [hxi] at this
              exact rank_good c (this c hc) 7 (by omega)
        · cases hs
      · rename_i fs hu
        split at hs
        · rename_i s hsf
          cases hl : (s.length == P.cellsOf T) with
          | false => simp [hl] at hs
          | true =>
            simp only [hl, cond_true, Option.some.injEq] at hs
            subst hs
            obtain ⟨xs, n', hn, _, hcl, hxl, hfld⟩ := DataW.trod_struct hu h
            have hn' : n = n' := by omega
            subst hn'
            have key : ∀ (l : List Field) (i0 off : Nat) (s : List Shp), (∀ (i : Nat) (f : Field), l[i]? = some f → fs[i0 + i]? = some f) → shapesFs P (shapeOf P ty d) l off = some s → off + s.length ≤ cs.length → Told w ((cs.drop off).take s.length) s := by
              intro l
              induction l with
              | nil =>
                intro i0 off s _ hs _
                simp only [shapesFs, Option.some.injEq] at hs
                subst hs
                exact ⟨[], by simp, rfl, by simp, by simp⟩
              | cons f l ihl =>
                intro i0 off s hget hs hoff
                simp only [shapesFs] at hs
                split at hs
                · rename_i s1 s2 h1 h2
                  cases hc : (f.offset == off && s1.length == P.cellsOf f.type) with
                  | false => simp [hc] at hs
                  | true =>
                    simp only [hc, cond_true, Option.some.injEq] at hs
                    subst hs
                    simp only [Bool.and_eq_true, beq_iff_eq] at hc
                    obtain ⟨ho, hsz⟩ := hc
                    have hf := hfld i0 f (by simpa using hget 0 f rfl)
                    have hi0 : i0 < xs.length := by rw [hxl]; exact (Array.getElem?_eq_some_iff.1 (by simpa using hget 0 f rfl)).1
                    rw [List.getElem?_eq_getElem hi0, ho, ← hsz] at hf
                    obtain ⟨fa, a1, a2, a3, a4⟩ := ih f.type _ _ d s1 hf h1
                    simp only [List.length_append] at hoff
                    obtain ⟨fb, b1, b2, b3, b4⟩ := ihl (i0 + 1) (off + P.cellsOf f.type) s2 (fun i f' hi => by
                      have := hget (i + 1) f' (by simpa using hi)
                      rwa [show i0 + (i + 1) = i0 + 1 + i from by omega] at this) h2 (by omega)
                    rw [← hsz] at b1 b3
                    have hsplit : (cs.drop off).take (s1 ++ s2).length = (cs.drop off).take s1.length ++ (cs.drop (off + s1.length)).take s2.length := by
                      rw [List.length_append, List.take_add, List.drop_drop]
                    rw [hsplit]
                    refine ⟨fa ++ fb, by simp only [List.length_append, a1, b1], by rw [List.map_append, a2, b2], fun j c u hc hu => ?_, fun c hc => ?_⟩
                    · by_cases hj : j < fa.length
                      · rw [List.getElem?_append_left hj] at hc
                        rw [List.getElem?_append_left (by rw [← a1]; exact hj)] at hu
                        exact a3 j c u hc hu
                      · rw [List.getElem?_append_right (by omega)] at hc
                        rw [List.getElem?_append_right (by rw [← a1]; omega), ← a1] at hu
                        exact b3 _ c u hc hu
                    · rcases List.mem_append.1 hc with hc | hc
                      · exact a4 c hc
                      · exact b4 c hc
                · cases hs
            have hlen : s.length = cs.length := by rw [hcl]; simpa using hl
            have := key fs.toList 0 0 s (fun i f hi => by simpa using hi) hsf (by omega)
            rw [hlen] at this
            simpa using this
        · cases hs
      · cases hs
end
end Go.D
