/-
  slices.Sort of integers and of strings: the library's contracts, told as contracts of memory written in place.
-/
import Derived.Test.YtkadnfkdgljfoaaVPc
import Derived.Shelf.Sort.Plain
import Derived.Shelf.Slices.In.SortNone
namespace Go.D
open Go.Shelf Go.Proofs Go.Sort
set_option linter.unusedVariables false
abbrev fSort1 (t : Ty) (sf : List (El t) → List (El t)) : GS := ⟨[.k (.sl t)], [], fun x => x.1.length < 4611686018427387904, fun x => ((), (sf x.1, ()))⟩
theorem sort1_ok {P : Program} {f : Nat} {t : Ty} (en : El t → Value) (hw : t.width = 1) (he : ∀ x, enc t x = [.val (en x)]) (hpl : ∀ x, plain (en x) = true) {sf : List (El t) → List (El t)} (hl : ∀ l, (sf l).length = l.length)
    (h0 : ∀ (p : Option Addr) (cap : Nat) (w : World), Calls P f #[.slice p 0 cap] w fun e w' => e = .returned (.tuple #[]) ∧ w' = w)
    (h1 : ∀ (blk off cap : Nat) (zs : List (El t)) (w : World), Holds en w blk off zs.toArray → blk < w.heap.size → zs.length < 4611686018427387904 → Calls P f #[.slice (some ⟨blk, off, none⟩) zs.length cap] w fun e w' => e = .returned (.tuple #[]) ∧ ∃ n os, w' = grow (putRow en (Sort.ahead w n) blk off (sf zs).toArray) os) :
    (fSort1 t sf).ok P f := by
  rintro ⟨l, ⟨⟩⟩ hlen
  intro w vs G _ hA
  obtain ⟨v0, hv0, c0, hc0, hr0⟩ := hA.tm 0 (.v false [.ref 0]) rfl
  injection hc0 with hc0
  subst hc0
  have hvs : vs = #[v0] := by
    have hsz := hA.sz
    apply Array.ext
    · rw [hsz]; rfl
    · intro i h1 h2
      match i, h1, h2 with
      | 0, h1, h2 => rw [Array.getElem?_eq_getElem h1] at hv0; injection hv0
      | i + 1, h1, h2 => exact absurd (show i + 1 < 1 from h2) (by omega)
  have hto := hA.hp 0 ⟨t, l⟩ rfl
  subst hvs
  rw [hr0.1]
  have hcell : ∀ (xs : List (El t)) (i : Nat) (hi : i < xs.length), fcC (cell t xs i 0) = .val (en xs[i]) := by
    intro xs i hi
    have e2 : cell t xs i 0 = (enc t xs[i]).getD 0 .nl := cell_get (t := t) (xs := xs) (by simp [hi]) 0
    rw [e2, he]; rfl
  rcases hto with ⟨⟨ad, hv⟩, hz⟩ | ⟨blk, off, cap, row, e, GG, hv, hnc, hcap, hg, hF, hrow, hsub, hdis⟩
  · have hll : l = [] := List.eq_nil_of_length_eq_zero hz
    subst hll
    have hs0 : sf [] = [] := List.eq_nil_of_length_eq_zero (hl [])
    rw [hv]
    refine (h0 ad 0 w).mono ?_
    rintro e w' ⟨rfl, rfl⟩
    refine ⟨_, _, rfl, rfl, ⟨rfl, rfl, ⟨rfl, Nat.le_refl _⟩, Nat.le_refl _⟩, fun _ _ => rfl, fun _ _ => False, ?_, ?_, ?_, ?_, ?_⟩
    · simp
    · simp
    · exact ⟨#[], rfl, rfl, by simp [mkParts]⟩
    · intro m T hm
      have hm' : look [(0, (⟨t, sf []⟩ : Tree))] m = some T := hm
      simp only [look] at hm'
      split at hm'
      · rename_i e0
        have e0' : m = 0 := by simpa using e0
        subst e0'
        simp only [Option.some.injEq] at hm'
        subst hm'
        exact .inl ⟨⟨ad, by rw [hv]⟩, by simp [Tree.n, hs0]⟩
      · cases hm'
    · intro b cs hb
      simp [GS.pst, yBxs, look] at hb
  · have hn : (⟨t, l⟩ : Tree).n = l.length := rfl
    have hk : (⟨t, l⟩ : Tree).k = 1 := hw
    rw [hn] at hv hnc hrow hsub hdis
    rw [hk] at hcap hrow hsub hdis
    rw [hv]
    have hH : Holds en w blk off l.toArray := by
      intro j hj
      have hj' : j < l.length := by simpa using hj
      obtain ⟨u', hu', htt⟩ := hrow j hj' 0 (by omega)
      have htt' : TO w (fcC (cell t l j 0)) u' _ := htt
      rw [hcell l j hj'] at htt'
      obtain ⟨rfl, _⟩ := htt'
      rw [Nat.mul_one, Nat.add_zero] at hu'
      have e1 : l.toArray[j]! = l[j] := by simp [hj']
      refine ⟨?_, ?_⟩
      · rw [e1]; simp [World.cell?, hg, hu']
      · simp [World.frozen?, hg]
    have hblk : blk < w.heap.size := (Array.getElem?_eq_some_iff.1 hg).1
    refine (h1 blk off cap l w hH hblk hlen).mono ?_
    rintro e2 w' ⟨rfl, n, os, hw'⟩
    have lenS := hl l
    have hpost : (fSort1 t sf).fn (l, ()) = ((), (sf l, ())) := rfl
    generalize sf l = sd at lenS hw' hpost
    have hW : ∀ b, b < w.heap.size → b ≠ blk → w'.heap[b]? = w.heap[b]? := by
      intro b hb hne
      subst hw'
      rw [heap_grow_old _ _ (by rw [size_putRow]; exact hb)]
      simp [putRow, mapBlock, Array.getElem?_modify, Ne.symm hne, Sort.ahead]
    have hcells : ∃ row', w'.heap[blk]? = some (.cells row' e (0, 0)) ∧ row'.size = row.size ∧ ∀ i (hi : i < l.length), row'[off + i]? = some (en (sd[i]'(by omega))) := by
      subst hw'
      refine ⟨putCells en off sd.toArray row, ?_, by simp [putCells], fun i hi => ?_⟩
      · rw [heap_grow_old _ _ (by rw [size_putRow]; exact hblk)]
        simp [putRow, mapBlock, Array.getElem?_modify, Sort.ahead, hg, onCells]
      · have hlt : off + i < row.size := by omega
        simp only [putCells, Array.getElem?_mapIdx, Array.getElem?_eq_getElem hlt, Option.map_some]
        rw [if_pos ⟨by omega, by simp [lenS]; omega⟩, show off + i - off = i by omega]
        simp [show i < sd.length by omega]
    obtain ⟨row', hg', hrs, hcell'⟩ := hcells
    have hos : Onward w w' := by
      subst hw'
      refine ⟨rfl, rfl, ⟨rfl, ?_⟩, ?_⟩
      · show w.drawn ≤ w.drawn + n; omega
      · rw [size_grow, size_putRow]; exact Nat.le_add_right _ _
    refine ⟨_, (fSort1 t sf).pst ((), (sd, ())), by rw [← hpost]; rfl, rfl, hos, ?_, fun s b => match s with
      | .keep 0 => b = blk
      | _ => False, ?_, ?_, ?_, ?_, ?_⟩
    · intro b hb
      refine hW b (hA.lt b (by simp [hb])) ?_
      rintro rfl
      rw [hF] at hb
      cases hb
    · intro s b hs
      match s, hs with
      | .keep 0, hs =>
        obtain rfl := hs
        refine ⟨(Array.getElem?_eq_some_iff.1 hg').1, (by rw [hF]; intro h; cases h), fun b0 hb0 => by simp [GS.pst, yBxs, look] at hb0⟩
    · intro s s' b h1 h2
      match s, h1, s', h2 with
      | .keep 0, _, .keep 0, _ => rfl
    · exact ⟨#[], rfl, rfl, by simp [mkParts]⟩
    · intro m T hm
      have hm' : look [(0, (⟨t, sd⟩ : Tree))] m = some T := hm
      simp only [look] at hm'
      split at hm'
      · rename_i e0
        have e0' : m = 0 := by simpa using e0
        subst e0'
        simp only [Option.some.injEq] at hm'
        subst hm'
        refine .inr ⟨blk, off, cap, row', e, fun _ _ _ => False, by rw [hv]; simp [Tree.n, lenS], by simp [Tree.n, lenS]; exact hnc, by rw [hrs, show (⟨t, sd⟩ : Tree).k = 1 from hw]; exact hcap, hg', rfl, fun i hi j hj => ?_, by simp, by simp⟩
        have hi' : i < sd.length := hi
        have hj' : j < 1 := by rw [show (⟨t, sd⟩ : Tree).k = 1 from hw] at hj; exact hj
        have hj0 : j = 0 := by omega
        subst hj0
        refine ⟨_, by rw [show (⟨t, sd⟩ : Tree).k = 1 from hw, Nat.mul_one, Nat.add_zero]; exact hcell' i (by omega), ?_⟩
        show TO _ (fcC (cell t sd i 0)) _ _
        rw [hcell sd i hi']
        exact ⟨rfl, hpl _⟩
      · cases hm'
    · intro b cs hb
      simp [GS.pst, yBxs, look] at hb
def sortI (l : List Int) : List Int := l.mergeSort fun x y => decide (x ≤ y)
theorem sortI_sorted (l : List Int) : (sortI l).Pairwise (· ≤ ·) := by
  have := List.pairwise_mergeSort (le := fun x y : Int => decide (x ≤ y)) (fun a b c h1 h2 => by simp only [decide_eq_true_eq] at *; omega) (fun a b => by simp only [Bool.or_eq_true, decide_eq_true_eq]; omega) l
  exact this.imp fun h => by simpa using h
theorem sortI_mem {l : List Int} {x : Int} : x ∈ sortI l ↔ x ∈ l := (List.mergeSort_perm _ _).mem_iff
theorem sortI_len (l : List Int) : (sortI l).length = l.length := (List.mergeSort_perm _ _).length_eq
theorem sortInts_ok {P : Program} {ρ : Ren} {f : Nat} (L : Lays.n189 P ρ) (hf : ρ.f 189 = f) : (fSort1 .int sortI).ok P f := by
  subst hf
  exact sort1_ok (t := .int) (fun n => .int .i64 n) rfl (fun _ => rfl) (fun _ => rfl) sortI_len (fun p cap w => Any.slices_Sort_int_none L p cap w) fun blk off cap zs w h1 h2 h3 => Any.slices_Sort_int L blk off cap zs w h1 h2 h3
def sortS (l : List ByteArray) : List ByteArray := ((l.map (·.data.toList)).mergeSort fun x y => decide (x ≤ y)).map fun l => ⟨l.toArray⟩
theorem sortS_len (l : List ByteArray) : (sortS l).length = l.length := by
  unfold sortS; rw [List.length_map, (List.mergeSort_perm _ _).length_eq, List.length_map]
theorem sortStrs_ok {P : Program} {ρ : Ren} {f : Nat} (L : Lays.n190 P ρ) (hf : ρ.f 190 = f) : (fSort1 .str sortS).ok P f := by
  subst hf
  refine sort1_ok (t := .str) (fun n => .string n) rfl (fun _ => rfl) (fun _ => rfl) sortS_len (fun p cap w => Any.slices_Sort_string_none L p cap w) fun blk off cap zs w h1 h2 h3 => ?_
  have hH : Holds encStr w blk off (zs.map (·.data.toList)).toArray := by
    intro j hj
    have hj' : j < zs.length := by simpa using hj
    have := h1 j (by simpa using hj')
    have e1 : zs.toArray[j]! = zs[j] := by simp [hj']
    have e2 : (zs.map (·.data.toList)).toArray[j]! = zs[j].data.toList := by simp [hj']
    rw [e1] at this
    rw [e2]
    exact this
  have hc := Any.slices_Sort_string L blk off cap (zs.map (·.data.toList)) w hH h2 (by simpa using h3)
  rw [List.length_map] at hc
  refine hc.mono ?_
  rintro e w' ⟨he, n, os, hw⟩
  refine ⟨he, n, os, hw.trans ?_⟩
  generalize hm : (zs.map (·.data.toList)).mergeSort (fun x y => decide (x ≤ y)) = ms
  have es : sortS zs = ms.map fun l => ⟨l.toArray⟩ := by unfold sortS; rw [hm]
  rw [es]
  have : putCells encStr off ms.toArray = putCells (fun n => Value.string n) off (ms.map fun l => (⟨l.toArray⟩ : ByteArray)).toArray := by
    funext c
    unfold putCells
    congr 1
    funext k x
    simp only [List.size_toArray, List.length_map]
    split
    · rename_i hk
      have hlt : k - off < ms.length := by omega
      simp [hlt]
    · rfl
  unfold putRow
  rw [this]
end Go.D
