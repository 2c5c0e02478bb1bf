/-
  slices.SortFunc at addresses: the library's contract, told as a contract of memory written in place.
-/
import Derived.Test.YtkadnfkdgljfoaaVPb
import Derived.Shelf.SlSortCmp.NoneTotal
import Derived.Shelf.Small.Strs
namespace Go.D
open Go.Shelf Go.Proofs Go.Sort
set_option linter.unusedVariables false
def encA (x : SAddr) : List Value := [.string x.host, .string x.path]
theorem world_grow {W w' : World} (ho : Onward W w') (hs : ∀ g, g < W.heap.size → w'.heap[g]? = W.heap[g]?) : ∃ q os, w' = grow (W.drewN q) os := by
  obtain ⟨h1, h2, ⟨h3, h4⟩, h5⟩ := ho
  refine ⟨w'.drawn - W.drawn, w'.heap.extract W.heap.size w'.heap.size, ?_⟩
  have e1 : w'.heap = W.heap ++ w'.heap.extract W.heap.size w'.heap.size := by
    apply Array.ext_getElem?
    intro g
    by_cases hg : g < W.heap.size
    · rw [hs g hg, Array.getElem?_append_left hg]
    · rw [Array.getElem?_append_right (by omega)]
      by_cases hg2 : g < w'.heap.size
      · rw [Array.getElem?_eq_getElem hg2, Array.getElem?_eq_getElem (by simp; omega)]
        simp only [Array.getElem_extract]
        congr 2
        omega
      · rw [Array.getElem?_eq_none (by omega), Array.getElem?_eq_none (by simp; omega)]
  obtain ⟨hp', tp', dr', os', ou'⟩ := w'
  obtain ⟨hp, tp, dr, os, ou⟩ := W
  simp only at h1 h2 h3 h4 h5 e1
  subst h1; subst h2; subst h3
  simp only [grow, World.drewN]
  congr 1
  omega
abbrev fCmpOf (cf : SAddr → SAddr → Int) : Fct := ⟨[aE .addr, aE .addr], [rI], fun _ => True, fun x => (cf x.1 x.2.1, ())⟩
abbrev fSortOf (g : Nat) (cf : SAddr → SAddr → Int) : GS := ⟨[.k (.sl .addr), .l (.c g [])], [], fun x => x.1.length < 4611686018427387904, fun x => ((), (x.1.mergeSort (fun a b => !(ltOf cf) b a), ()))⟩
theorem cmp_lays {P : Program} {g blk off size : Nat} {cf : SAddr → SAddr → Int} (hc : (fCmpOf cf).ok P g) (w : World) {ow : Nat → Own} (hB : Base P w ow) (hblk : ow blk ≠ .free) : CmpLays P g #[] encA 2 cf blk off size w := by
  intro m os dk hs x y
  have hWs : ∀ b, b < w.heap.size → b ≠ blk → b < (sortWorldK encA 2 w blk off m dk os).heap.size ∧ (sortWorldK encA 2 w blk off m dk os).heap[b]? = w.heap[b]? := by
    intro b hb hne
    unfold sortWorldK
    refine ⟨by rw [size_grow, size_putRowK]; exact Nat.lt_of_lt_of_le hb (Nat.le_add_right _ _), ?_⟩
    rw [heap_grow_old _ _ (by rw [size_putRowK]; exact hb)]
    simp [putRowK, putRow, mapBlock, Array.getElem?_modify, Ne.symm hne, Sort.ahead]
  generalize sortWorldK encA 2 w blk off m dk os = W at hWs
  have hBW : Base P W (fun b => if b < W.heap.size then .free else .gone) := by
    obtain ⟨w1, h1, h2⟩ := hB
    refine ⟨w1, h1, fun g hg hg1 => ?_⟩
    obtain ⟨a1, a2, a3⟩ := h2 g hg hg1
    obtain ⟨c1, c2⟩ := hWs g a1 (fun e => hblk (e ▸ a2))
    exact ⟨c1, by simp [c1], c2.trans a3⟩
  let G0 : Gh := { ow := fun b => if b < W.heap.size then .free else .gone, be := fun _ => 0, hv := fun _ => undef }
  have part : ∀ z : SAddr, TVR W G0 (canonV (.el .addr) z) (.agg (encA z).toArray) := by
    intro z
    refine ⟨_, rfl, rfl, fun j c hj => ?_⟩
    match j, hj with
    | 0, hj => obtain rfl : Cell.sc (.string z.host) = c := Option.some.inj (show some (Cell.sc (.string z.host)) = some c from hj)
               exact ⟨_, rfl, rfl, rfl⟩
    | 1, hj => obtain rfl : Cell.sc (.string z.path) = c := Option.some.inj (show some (Cell.sc (.string z.path)) = some c from hj)
               exact ⟨_, rfl, rfl, rfl⟩
    | j + 2, hj => cases (show (none : Option Cell) = some c from hj)
  have hA : ArgR W G0 ((fCmpOf cf).arg (x, y, ())) (#[.agg (encA x).toArray, .agg (encA y).toArray] ++ #[]) := by
    refine ⟨rfl, fun j t hj => ?_, by simp [Fct.arg, look], by simp [Fct.arg, look], fun b hb => ?_⟩
    · match j, hj with
      | 0, hj => obtain rfl : canonV (.el .addr) x = t := by simpa [Fct.arg, canons, canon] using hj
                 exact ⟨_, rfl, part x⟩
      | 1, hj => obtain rfl : canonV (.el .addr) y = t := by simpa [Fct.arg, canons, canon] using hj
                 exact ⟨_, rfl, part y⟩
      | j + 2, hj => simp [Fct.arg, canons] at hj
    · by_cases h : b < W.heap.size
      · exact h
      · simp [G0, h] at hb
  refine (hc (x, y, ()) trivial W _ G0 hBW hA).mono ?_
  rintro e w' ⟨v, p, rfl, rfl, ho, hfree, Fs, hF⟩
  obtain ⟨c, hc1, hc2, _⟩ := hF.res
  injection hc1 with hc1
  subst hc1
  obtain ⟨rfl, _⟩ := hc2
  exact ⟨rfl, world_grow ho fun b hb => hfree b (by simp [G0, hb])⟩
theorem flat_get {d : Array SAddr} {i j : Nat} (hi : i < d.size) (hj : j < 2) : (flatK encA 2 d)[i * 2 + j]! = (encA d[i]!)[j]! := by
  rw [get_flatK _ _ _ _ (by omega)]
  have e1 : (i * 2 + j) / 2 = i := by omega
  have e2 : (i * 2 + j) % 2 = j := by omega
  rw [e1, e2]
theorem encA_get (x : SAddr) (j : Nat) (hj : j < 2) : fcC ((enc .addr x).getD j .nl) = .val (encA x)[j]! ∧ plain (encA x)[j]! = true := by
  match j, hj with
  | 0, _ => exact ⟨rfl, rfl⟩
  | 1, _ => exact ⟨rfl, rfl⟩
theorem cellA {l : List SAddr} {i j : Nat} (hi : i < l.length) (hj : j < 2) : fcC (cell .addr l i j) = .val (encA l.toArray[i]!)[j]! ∧ plain (encA l.toArray[i]!)[j]! = true := by
  have e : l.toArray[i]! = l[i] := by simp [hi]
  have e2 : cell .addr l i j = (enc .addr l[i]).getD j .nl := cell_get (t := .addr) (xs := l) (by simp [hi]) j
  rw [e, e2]
  exact encA_get l[i] j hj
theorem sort_ok_ {P : Program} {ρ : Ren} {f g : Nat} {cf : SAddr → SAddr → Int} (L : SlLaysF0.n6 P ρ) (hf : ρ.f 6 = f) (aE : ∀ w, (isAgg (ρ.t 24)).run P w = .ok true w) (zE : ∀ w, (Go.sizeOf (ρ.t 24)).run P w = .ok 2 w)
    (hO : SWO (ltOf cf)) (hT : ∀ x y, (ltOf cf) x y = false → (ltOf cf) y x = false → x = y) (eg : ∀ args w, (callFunc g args).run P w = .ok (.enter g args) w) (hc : (fCmpOf cf).ok P g) : (fSortOf g cf).ok P f := by
  subst hf
  rintro ⟨l, u, ⟨⟩⟩ hlen
  intro w vs G hB hA
  obtain ⟨v0, hv0, c0, hc0, hr0⟩ := hA.tm 0 (.v false [.ref 0]) rfl
  injection hc0 with hc0
  subst hc0
  obtain ⟨v1, hv1, vs1, rfl, hs1, _⟩ := hA.tm 1 (.clo g []) rfl
  have hvs1 : vs1 = #[] := Array.eq_empty_of_size_eq_zero (by simpa using hs1)
  subst hvs1
  have hvs : vs = #[v0, .func (.func g) #[] #[]] := by
    have hsz := hA.sz
    apply Array.ext
    · rw [hsz]; rfl
    · intro i h1 h2
      match i, h1, h2 with
      | 0, h1, h2 => rw [Array.getElem?_eq_getElem h1] at hv0; injection hv0
      | 1, h1, h2 => rw [Array.getElem?_eq_getElem h1] at hv1; injection hv1
      | i + 2, h1, h2 => exact absurd (show i + 2 < 2 from h2) (by omega)
  have hto := hA.hp 0 ⟨.addr, l⟩ rfl
  subst hvs
  rw [hr0.1]
  have lenS : (l.mergeSort fun a b => !(ltOf cf) b a).length = l.length := (List.mergeSort_perm _ _).length_eq
  rcases hto with ⟨⟨ad, hv⟩, hz⟩ | ⟨blk, off, cap, row, e, GG, hv, hnc, hcap, hg, hF, hrow, hsub, hdis⟩
  · have hl : l = [] := List.eq_nil_of_length_eq_zero hz
    subst hl
    rw [hv]
    refine (AnyF.slices_SortFunc_none { L with } ad 0 _ w).mono ?_
    rintro e w' ⟨rfl, rfl⟩
    refine ⟨_, _, rfl, rfl, ⟨rfl, rfl, ⟨rfl, Nat.le_refl _⟩, Nat.le_refl _⟩, fun _ _ => rfl, fun _ _ => False, ?_, ?_, ?_, ?_, ?_⟩
    · simp
    · simp
    · exact ⟨#[], rfl, rfl, by simp [mkParts]⟩
    · intro m T hm
      have hm' : look [(0, (⟨.addr, ([] : List SAddr).mergeSort fun a b => !(ltOf cf) b a⟩ : Tree))] m = some T := hm
      simp only [look] at hm'
      split at hm'
      · rename_i e0
        have e0' : m = 0 := by simpa using e0
        subst e0'
        simp only [Option.some.injEq] at hm'
        subst hm'
        exact .inl ⟨⟨ad, by rw [hv]⟩, by simp [Tree.n]⟩
      · cases hm'
    · intro b cs hb
      simp [GS.pst, yBxs, look] at hb
  · have hn : (⟨.addr, l⟩ : Tree).n = l.length := rfl
    have hk : (⟨.addr, l⟩ : Tree).k = 2 := rfl
    rw [hn] at hv hnc hrow hsub hdis
    rw [hk] at hcap hrow hsub hdis
    rw [hv]
    have hH : HoldsK encA 2 w blk off l.toArray := by
      intro t ht
      have ht' : t < l.length * 2 := by simpa using ht
      have h1 : t / 2 < l.length := by omega
      have h2 : t % 2 < 2 := by omega
      obtain ⟨u', hu', htt⟩ := hrow (t / 2) h1 (t % 2) h2
      have e1 : off + t / 2 * 2 + t % 2 = off + t := by omega
      rw [e1] at hu'
      have hcell := (cellA h1 h2).1
      have htt' : TO w (fcC (cell .addr l (t / 2) (t % 2))) u' _ := htt
      rw [hcell] at htt'
      obtain ⟨rfl, _⟩ := htt'
      have e2 : (flatK encA 2 l.toArray)[t]! = (encA l.toArray[t / 2]!)[t % 2]! := get_flatK _ _ _ _ (by simpa using ht')
      refine ⟨?_, ?_⟩
      · rw [e2]; simp [World.cell?, hg, hu']
      · simp [World.frozen?, hg]
    have hblk : blk < w.heap.size := (Array.getElem?_eq_some_iff.1 hg).1
    have hcon := AnyQ.slices_SortFunc_total L 2 aE zE encA (fun _ => rfl) (by intro x v hv'; simp [encA] at hv'; rcases hv' with rfl | rfl <;> rfl) cf hO g #[] blk off cap l.toArray w eg (cmp_lays hc w hB (by rw [hF]; simp)) hH hblk (by simpa using hlen) hT
    refine hcon.mono ?_
    rintro e2 w' ⟨rfl, n, os, hw⟩
    generalize hsd : (l.mergeSort fun a b => !(ltOf cf) b a) = sd at lenS
    have hpost : (fSortOf g cf).fn (l, u, ()) = ((), (sd, ())) := by rw [← hsd]
    have hW : ∀ b, b < w.heap.size → b ≠ blk → (sortWorldK encA 2 w blk off n sd.toArray os).heap[b]? = w.heap[b]? := by
      intro b hb hne
      unfold sortWorldK
      rw [heap_grow_old _ _ (by rw [size_putRowK]; exact hb)]
      simp [putRowK, putRow, mapBlock, Array.getElem?_modify, Ne.symm hne, Sort.ahead]
    have hcells : ∃ row', (sortWorldK encA 2 w blk off n sd.toArray os).heap[blk]? = some (.cells row' e (0, 0)) ∧ row'.size = row.size ∧ ∀ t, t < l.length * 2 → row'[off + t]? = some (flatK encA 2 sd.toArray)[t]! := by
      refine ⟨putCells id off (flatK encA 2 sd.toArray) row, ?_, by simp [putCells], fun t ht => ?_⟩
      · unfold sortWorldK
        rw [heap_grow_old _ _ (by rw [size_putRowK]; exact hblk)]
        simp [putRowK, putRow, mapBlock, Array.getElem?_modify, Sort.ahead, hg, onCells]
      · have hlt : off + t < row.size := by
          have : l.length * 2 ≤ cap * 2 := Nat.mul_le_mul_right _ hnc
          omega
        simp only [putCells, Array.getElem?_mapIdx, Array.getElem?_eq_getElem hlt, Option.map_some, size_flatK]
        rw [if_pos ⟨by omega, by simp [lenS]; omega⟩, show off + t - off = t by omega]
        rfl
    obtain ⟨row', hg', hrs, hcell'⟩ := hcells
    have hsdef : l.toArray.toList.mergeSort (fun x y => !(ltOf cf) y x) = sd := hsd
    rw [hsdef] at hw
    subst hw
    refine ⟨_, (fSortOf g cf).pst ((), (sd, ())), by rw [← hpost]; rfl, rfl, ?_, ?_, fun s b => match s with
      | .keep 0 => b = blk
      | _ => False, ?_, ?_, ?_, ?_, ?_⟩
    · refine ⟨rfl, rfl, ⟨rfl, ?_⟩, ?_⟩
      · show w.drawn ≤ w.drawn + n; omega
      · unfold sortWorldK; rw [size_grow, size_putRowK]; exact Nat.le_add_right _ _
    · intro b hb
      refine hW b (hA.lt b (by simp [hb])) ?_
      rintro rfl
      rw [hF] at hb
      cases hb
    · intro s b hs
      match s, hs with
      | .keep 0, hs =>
        obtain rfl := hs
        refine ⟨(Array.getElem?_eq_some_iff.1 hg').1, (by rw [hF]; intro h; cases h), fun b0 hb0 => by simp [GS.pst, yBxs, look] at hb0⟩
    · intro s s' b h1 h2
      match s, h1, s', h2 with
      | .keep 0, _, .keep 0, _ => rfl
    · exact ⟨#[], rfl, rfl, by simp [mkParts]⟩
    · intro m T hm
      have hm' : look [(0, (⟨.addr, sd⟩ : Tree))] m = some T := hm
      simp only [look] at hm'
      split at hm'
      · rename_i e0
        have e0' : m = 0 := by simpa using e0
        subst e0'
        simp only [Option.some.injEq] at hm'
        subst hm'
        refine .inr ⟨blk, off, cap, row', e, fun _ _ _ => False, by rw [hv]; simp [Tree.n, lenS], by simp [Tree.n, lenS]; exact hnc, by rw [hrs]; exact hcap, hg', rfl, fun i hi j hj => ?_, by simp, by simp⟩
        have hi' : i < sd.length := hi
        have hj' : j < 2 := hj
        refine ⟨_, by rw [show (⟨.addr, sd⟩ : Tree).k = 2 from rfl, Nat.add_assoc]; exact hcell' (i * 2 + j) (by omega), ?_⟩
        have h3 : (flatK encA 2 sd.toArray)[i * 2 + j]! = (encA sd.toArray[i]!)[j]! := flat_get (by simpa using hi') hj'
        have h4 := cellA hi' hj'
        show TO _ (fcC (cell .addr sd i j)) _ _
        rw [h4.1, h3]
        exact ⟨rfl, h4.2⟩
      · cases hm'
    · intro b cs hb
      simp [GS.pst, yBxs, look] at hb
theorem strs_ok {P : Program} {f : Nat} {S : Fct} {a : ByteArray → ByteArray → Int} (hS : S = ⟨[aT, aT], [rI], fun _ => True, fun x => (a x.1 x.2.1, ())⟩) (h : ∀ (x y : ByteArray) (w : World), Calls P f #[.string x, .string y] w fun e w' => e = .returned (.int .i64 (a x y)) ∧ w' = w) : S.ok P f := by
  subst hS
  rintro ⟨x, y, ⟨⟩⟩ _
  intro w vs G _ hA
  obtain ⟨v0, hv0, c0, hc0, hr0⟩ := hA.tm 0 (.v false [.sc (.string x)]) rfl
  injection hc0 with hc0
  subst hc0
  obtain ⟨v1, hv1, c1, hc1, hr1⟩ := hA.tm 1 (.v false [.sc (.string y)]) rfl
  injection hc1 with hc1
  subst hc1
  have hvs : vs = #[.string x, .string y] := by
    apply Array.ext
    · rw [hA.sz]; rfl
    · intro i h1 h2
      match i, h1, h2 with
      | 0, h1, h2 => rw [Array.getElem?_eq_getElem h1] at hv0; injection hv0 with hv0; rw [hv0]; exact hr0.1
      | 1, h1, h2 => rw [Array.getElem?_eq_getElem h1] at hv1; injection hv1 with hv1; rw [hv1]; exact hr1.1
      | i + 2, h1, h2 => exact absurd (show i + 2 < 2 from h2) (by omega)
  subst hvs
  refine (h x y w).mono ?_
  rintro e w' ⟨rfl, rfl⟩
  refine ⟨_, _, rfl, rfl, ⟨rfl, rfl, ⟨rfl, Nat.le_refl _⟩, Nat.le_refl _⟩, fun _ _ => rfl, fun _ _ => False, by simp, by simp, ?_, ?_, ?_⟩
  · exact ⟨_, rfl, ⟨rfl, rfl⟩, rfl⟩
  · intro m T hm; cases hm
  · intro b cs hb; cases hb
end Go.D
