/-
  Slice literals whose cells own or borrow memory: a box of the slot's own, later told as a tree.
-/
import Derived.Test.YtcgigcmleodjbaaVDqb
import Derived.Test.YtcgigcmleodjbaaVDib
import Derived.Lib.ConvBytes
namespace Go.D
set_option linter.unusedVariables false
section
variable {P : Program} {F : Fr P} {G : Gh} {σ : St} {a : Act} {w : World} {o : Oper} {K : St → Out} {Q : Post} {Qx : Exit → Act → World → Prop}
/-- a slot's content may be told otherwise, if it is right -/
theorem RG.retell (h : RG F G σ a w) {t : Nat} {x : TV} (hx : TVR w G x (a.tmps.getD t undef)) : RG F G (σ.put t x) a w := by
  refine ⟨?_, h.bx, h.hp, h.lt, h.os, h.tape, h.output, h.size, h.keep, h.fb, h.fl, h.nt, h.df⟩
  intro t' tv hl
  simp only [St.put, look_put] at hl
  by_cases ht : t' = t
  · subst ht
    simp only [if_true, Option.some.injEq] at hl
    subst hl
    exact hx
  · simp only [ht, if_false] at hl
    exact h.tm t' tv hl
def cellCons' : List Cell → Option (List FC)
  | [] => some []
  | c :: cs => match (match c with | .tt => some (.val (.bool true)) | .ff => some (.val (.bool false)) | c => cellCon c), cellCons' cs with
    | some d, some ds => some (d :: ds)
    | _, _ => none
theorem cellCons'_ok : ∀ (cs : List Cell) (ds : List FC), cellCons' cs = some ds → ds.length = cs.length ∧ ∀ (j : Nat) (c : Cell) (u : Value), cs[j]? = some c → CellR w G c u → TR w (src G none) (fcC (ds.getD j .nl)) u := by
  intro cs
  induction cs with
  | nil => intro ds h; simp only [cellCons', Option.some.injEq] at h; subst h; simp
  | cons c cs ih =>
    intro ds h
    unfold cellCons' at h
    split at h
    · rename_i d ds' h1 h2
      simp only [Option.some.injEq] at h
      subst h
      obtain ⟨h3, h4⟩ := ih ds' h2
      refine ⟨by simp [h3], fun j c' u hj hu => ?_⟩
      cases j with
      | succ j => simpa using h4 j c' u (by simpa using hj) hu
      | zero =>
        simp only [List.getElem?_cons_zero, Option.some.injEq] at hj
        subst hj
        simp only [List.getD_cons_zero]
        split at h1
        · simp only [Option.some.injEq] at h1; subst h1; exact ⟨hu, rfl⟩
        · simp only [Option.some.injEq] at h1; subst h1; exact ⟨hu, rfl⟩
        · exact cellCon_ok hu h1
    · cases h
/-- a slot receives the slice of a new block, told as a box -/
def opLit (P : Program) (ty : TypeId → Option Ty) (o : Oper) (T : TypeId) (n : Nat) (parts : Array (Nat × Operand)) (σ : St) (K : St → Out) : Out :=
  match P.underlying T, o.dst with
  | some (.slice e), some d => match P.info? e, ty e with
    | some i, some t => match i.zero with
      | some z => if (t.width = i.size ∧ z.cells.size = i.size ∧ n * i.size ≤ 16777216 ∧ z.cells.toList.all (fun v => v.oneCell') = true) ∧ σ.hasB d = false ∧ d < σ.nt then (match fillC i.size (List.replicate (n * i.size) .dead) (parts.toList.map fun p => (p.1, σ.eval p.2)) with
        | some cs => K (({ σ with bx := D.put σ.bx d cs } : St).put d (.lit d n t))
        | none => .bad) else .bad
      | none => .bad
    | _, _ => .bad
  | _, _ => .bad
theorem opLit_ok {ty : TypeId → Option Ty} {T : TypeId} {n : Nat} {parts : Array (Nat × Operand)} (h : RG F G σ a w) (ho : o.op = .buildSlice T n parts) (hh : (opLit P ty o T n parts σ K).holds Q) : o.wp P a w (ContE F G a w o.dst K Q) Qx := by
  unfold opLit at hh
  split at hh
  · rename_i e d hu hd
    split at hh
    · rename_i i t hi hty
      split at hh
      · rename_i z hz
        split at hh
        · rename_i hc
          obtain ⟨⟨hwd, hzs, hbig, hz1⟩, hbb, hlt⟩ := hc
          have hk : 0 < i.size := by rw [← hwd]; exact width_pos t
          split at hh
          · rename_i cs hf
            let cur : Array Value := (Array.range (n * i.size)).map (z.cells[· % z.cells.size]!)
            have hcur : CellsR w G (List.replicate (n * i.size) .dead) cur := by
              refine ⟨by simp [cur], fun j c hj => ?_⟩
              have hlt : j < n * i.size := by
                have := (List.getElem?_eq_some_iff.1 hj).1
                simpa using this
              have hm : j % z.cells.size < z.cells.size := Nat.mod_lt _ (by omega)
              rw [List.getElem?_replicate, if_pos hlt] at hj
              injection hj with hj
              subst hj
              refine ⟨z.cells[j % z.cells.size], by simp [cur, hlt, hm], ?_⟩
              rw [List.all_eq_true] at hz1
              exact hz1 _ (by simp)
            obtain ⟨r, hfill, hr⟩ := fillC_ok (k := i.size) (parts.toList.map fun p => (p.1, σ.eval p.2)) (parts.toList.map fun p => (p.1, a.eval p.2)) _ cur cs hcur (by simp) (fun j p hj => by
              rw [List.getElem?_map] at hj
              cases hq : parts.toList[j]? with
              | none => simp [hq] at hj
              | some q =>
                simp only [hq, Option.map_some, Option.some.injEq] at hj
                subst hj
                exact ⟨a.eval q.2, by simp [List.getElem?_map, hq], eval_ok h q.2⟩) hf
            have he : (execOp a.eval o).run P w = .ok (.value (.slice (some ⟨w.heap.size, 0, none⟩) n n)) (w.alloc (.cells r e)) := by
              have hnb : ¬ (16777216 < n * i.size) := by omega
              by_cases hz0 : n * i.size = 0
              · have hn0 : n = 0 := by
                  rcases Nat.mul_eq_zero.1 hz0 with h | h
                  · exact h
                  · omega
                subst hn0
                have hc0 : cur = #[] := by simp [cur]
                rw [hc0] at hfill
                simp [execOp, ho, Instr.buildSlice, run_underlying hu, sizeOf, typeInfo, hi, newRow, hfill, Array.range_zero']
              · simp only [cur] at hfill
                simp [execOp, ho, Instr.buildSlice, run_underlying hu, sizeOf, typeInfo, hi, hnb, hz0, zeroValue, hz, newRow, hfill]
            obtain ⟨G', hG, hbe, how, hob, hhv⟩ := (h.alloc (.cells r e)).newBox d cs w.heap.size r e hbb (alloc_gone h) (heap_alloc_new w _) (Cells.alloc h _ hr)
            refine wp_val he ?_
            rw [hd]
            exact ⟨_, G', hG.put hlt (by simp [TVR, hbe]), hh, ⟨_, rfl⟩, ⟨rfl, rfl, ⟨rfl, by first | exact Nat.le_refl _ | exact Nat.le_succ _⟩, by simp⟩, fun g hg => .inl (heap_alloc_old w _ g hg), how, fun b hb => hob b (fun e => hb (e ▸ rfl)), fun l _ => by rw [hhv]⟩
          · exact hh.elim
        · exact hh.elim
      · exact hh.elim
    · exact hh.elim
  · exact hh.elim
/-- a block that nobody owns is given to all -/
theorem RG.freeze (h : RG F G σ a w) {g0 : Nat} (h0 : G.ow g0 = .gone) (hlt : g0 < w.heap.size) : ∃ G', RG F G' σ a w ∧ G'.ow g0 = .free ∧ (∀ g, G.ow g ≠ .gone → G'.ow g = G.ow g) ∧ G'.hv = G.hv ∧ G'.be = G.be := by
  let G' : Gh := { ow := fun g => if g = g0 then .free else G.ow g, be := G.be, hv := G.hv }
  have hne : ∀ g, G.ow g ≠ .gone → G'.ow g = G.ow g := by
    intro g hgo
    have : g ≠ g0 := fun e => hgo (e ▸ h0)
    simp [G', this]
  have fo : FreeOk w w G G' := ⟨fun g hg => ⟨rfl, by rw [hne g (by simp [hg]), hg]⟩, fun g hg => by rw [hne g (by simp [hg]), hg]⟩
  have mo : ∀ m, MemOk w w G G' m := fun m g hg => ⟨rfl, by rw [hne g (by simp [hg]), hg]⟩
  refine ⟨G', ?_, by simp [G'], hne, rfl, rfl⟩
  constructor
  case tm => exact fun t tv hl => TV.carry fo (fun _ _ => rfl) (fun m _ => mo m) (fun _ _ => rfl) (h.tm t tv hl)
  case bx =>
    intro b cs hl
    obtain ⟨h1, r, e, h2, h3⟩ := h.bx b cs hl
    exact ⟨(hne (G.be b) (by rw [h1]; simp)).trans h1, r, e, h2, Cells.carry fo (fun _ _ => rfl) (fun m _ => mo m) h3⟩
  case hp => exact fun l T hl => (h.hp l T hl).frame fun g hg _ => mo l g hg
  case lt =>
    intro g hg
    by_cases e : g = g0
    · subst e; exact hlt
    · exact h.lt g fun e2 => hg (by simp [G', e, e2])
  case os => exact h.os
  case tape => exact h.tape
  case output => exact h.output
  case size => exact h.size
  case keep =>
    refine h.keep.next fo (fun _ _ => rfl) fun g hg => ?_
    by_cases e0 : g = g0
    · simp [G', e0] at hg
    · simpa [G', e0] using hg
  case fb => exact h.fb
  case fl => exact h.fl
  case nt => exact h.nt
  case df => exact h.df
/-! the bytes of a string, as a new slice that nobody writes -/
def bytesInts (s : ByteArray) : List Int := s.data.toList.map fun b => (b.toNat : Int)
def isSB (P : Program) (S T : TypeId) : Bool := match P.underlying S, P.underlying T with
  | some .string, some (.slice e) => (match P.underlying e with
    | some (.int .u8) => true
    | _ => false)
  | _, _ => false
def opSB (o : Oper) (x : Operand) (σ : St) (K : St → Out) : Out :=
  match (σ.eval x).scal, o.dst with
  | some (.string s), some d => bif decide (d < σ.nt) then K (σ.put d (.v false [.im none .u8 (bytesInts s)])) else .bad
  | _, _ => .bad
theorem opSB_ok {S T : TypeId} {x : Operand} (h : RG F G σ a w) (ho : o.op = .convert S T x) (hs : isSB P S T = true) (hh : (opSB o x σ K).holds Q) : o.wp P a w (ContE F G a w o.dst K Q) Qx := by
  unfold isSB at hs
  split at hs
  · rename_i e hS hT
    split at hs
    · rename_i he
      unfold opSB at hh
      split at hh
      · rename_i s d hx hd
        cases hc : decide (d < σ.nt) with
        | false => rw [hc, cond_false] at hh; exact hh.elim
        | true =>
          rw [hc, cond_true] at hh
          have hlt := of_decide_eq_true hc
          have hxe := (scal_ok (eval_ok h x) hx).1
          have hrun := Lib.run_convert_string_bytes w S T e s hS hT he
          have hon : Onward w (Lib.bytesWorld w e s) := ⟨rfl, rfl, ⟨rfl, Nat.le_succ _⟩, by rw [Lib.bytesWorld_size]; exact Nat.le_succ _⟩
          have hold : ∀ g, g < w.heap.size → (Lib.bytesWorld w e s).heap[g]? = w.heap[g]? := fun g hg => Lib.bytesWorld_at_old w e s g hg
          have h1 := h.world hon fun g hg => hold g (h.lt g hg)
          have hg0 : G.ow w.heap.size = .gone := by
            cases hq : G.ow w.heap.size with
            | gone => rfl
            | _ => exact absurd (h.lt w.heap.size (by simp [hq])) (Nat.lt_irrefl _)
          obtain ⟨G2, h2, f2, k2, v2, b2⟩ := h1.freeze hg0 (by rw [Lib.bytesWorld_size]; exact Nat.lt_succ_self _)
          have hT2 : TVR (Lib.bytesWorld w e s) G2 (.v false [.im none .u8 (bytesInts s)]) (.slice (some ⟨w.heap.size, 0, none⟩) s.size (grownCap w s.size 0 e)) := by
            refine ⟨_, rfl, ?_⟩
            show TR _ (src G2 none) (fcC (.l .u8 (bytesInts s))) _
            have hl : (bytesInts s).length = s.size := by simp [bytesInts]
            rw [fcC_l, hl]
            refine ⟨_, _, rfl, grownCap_ge w s.size 0 e, .inr ⟨w.heap.size, 0, _, e, _, rfl, f2, Lib.bytesWorld_at_new w e s, fun i hi j hj => ?_⟩⟩
            have hj0 : j = 0 := by simp only [Ty.width] at hj; omega
            subst hj0
            have hi2 : i < s.data.size := hi
            refine ⟨.int .u8 s.data[i].toNat, ?_, ?_⟩
            · have hrow : (Lib.bytesCells w e s)[i]? = some (.int .u8 s.data[i].toNat) := by
                unfold Lib.bytesCells
                rw [Array.getElem?_append_left (by simpa using hi2), Array.getElem?_map, Array.getElem?_eq_getElem hi2]
                rfl
              rw [show 0 + i * Ty.u8.width + 0 = i by simp [Ty.width]]
              exact hrow
            · have e1 : cell .u8 (bytesInts s) i 0 = .val (.int .u8 s.data[i].toNat) := by
                unfold cell
                have : (bytesInts s).getD i default = (s.data[i].toNat : Int) := by
                  rw [bytesInts, List.getD_eq_getElem?_getD, List.getElem?_map, Array.getElem?_toList, Array.getElem?_eq_getElem hi2]
                  rfl
                rw [this]; rfl
              show TR _ _ (fcC (cell .u8 (bytesInts s) i 0)) _
              rw [e1]
              exact ⟨rfl, rfl⟩
          have hev : (execOp a.eval o).run P w = .ok (.value (.slice (some ⟨w.heap.size, 0, none⟩) s.size (grownCap w s.size 0 e))) (Lib.bytesWorld w e s) := by simp [execOp, ho, hxe, hrun]
          refine wp_val hev ?_
          rw [hd]
          exact ⟨_, G2, h2.put hlt hT2, hh, ⟨_, rfl⟩, hon, fun g hg => .inl (hold g hg), k2, fun b _ => by rw [b2], fun l _ => by rw [v2]⟩
      · exact hh.elim
    · cases hs
  · cases hs
def dropB (σ : St) (b : Nat) : St := ({ σ with hp := σ.hp.filter (fun x => !(([] : List Nat).contains x.1 || ([] : List Nat).contains x.1)), bx := σ.bx.filter fun x => !([b] : List Nat).contains x.1 } : St).zap ([] : List Nat).contains (fun m => ([] : List Nat).contains m || ([] : List Nat).contains m)
/-- a literal's box is told as a tree, or as borrowed memory -/
def litOne (σ : St) (s : Nat) : St :=
  match σ.get s with
  | .lit b n t => match look σ.bx b with
    | some cs => match litC (dropB σ b) cs with
      | some (ds, ab) => match decRows t n ds with
        | some xs => if cs.length = n * t.width ∧ σ.fl.contains (64 * b) = false ∧ ab.all (fun m => !σ.fl.contains m) = true then (retreeSt (dropB σ b) (64 * b) ab ⟨t, xs⟩).put s (.v false [.ref (64 * b)]) else σ
        | none => σ
      | none => match cellCons' cs with
        | some ds => match decRows t n ds with
          | some xs => if cs.length = n * t.width then (dropB σ b).put s (.v false [.im none t xs]) else σ
          | none => σ
        | none => σ
    | none => σ
  | _ => σ
theorem litOne_ok (h : RG F G σ a w) (s : Nat) : ∃ G', RG F G' (litOne σ s) a w := by
  unfold litOne
  split
  · rename_i b n t hs
    have hx := raw_ok h s
    rw [hs] at hx
    have hx : a.tmps.getD s undef = .slice (some ⟨G.be b, 0, none⟩) n n := hx
    split
    · rename_i cs hb
      obtain ⟨hbo, r, e, hg, hcs⟩ := h.bx b cs hb
      obtain ⟨G1, hR1, hbe, hhv, hgone, _, hbox, hsm, _, _, hfree, hlab, _, hcu⟩ := h.drop [] [] [b]
      have hcs1 : CellsR w G1 cs r := Cells.carry ⟨fun g hg => ⟨rfl, hfree g hg⟩, hcu⟩ (fun m _ => by rw [hhv]) (fun m _ g hg => ⟨rfl, hlab g m hg (by simp) (by simp)⟩) hcs
      have hg0 : G1.ow (G.be b) = .gone := hbox _ b hbo (by simp)
      have hlt0 : G.be b < w.heap.size := (Array.getElem?_eq_some_iff.1 hg).1
      have at_ : ∀ i', i' < n → ∀ j, j < t.width → cs.length = n * t.width → ∃ c u, cs[i' * t.width + j]? = some c ∧ r[i' * t.width + j]? = some u ∧ CellR w G1 c u := by
        intro i' hi' j hj hlen
        have hlt : i' * t.width + j < n * t.width := by
          have : (i' + 1) * t.width ≤ n * t.width := Nat.mul_le_mul_right _ hi'
          rw [Nat.add_mul] at this
          omega
        obtain ⟨u, hu', hr'⟩ := hcs1.2 _ _ (List.getElem?_eq_getElem (show i' * t.width + j < cs.length by omega))
        exact ⟨_, u, List.getElem?_eq_getElem (by omega), hu', hr'⟩
      split
      · rename_i ds ab hlit
        split
        · rename_i xs hxs
          split
          · rename_i hc
            obtain ⟨hlen, hfl, hab⟩ := hc
            obtain ⟨l1, l2, l3, l4⟩ := litC_ok hR1 cs ds ab hlit
            obtain ⟨d1, d2⟩ := decRows_ok n ds xs hxs
            have hTn : (⟨t, xs⟩ : Tree).n = n := d1
            have hT : TO w (.sl (⟨t, xs⟩ : Tree).k (⟨t, xs⟩ : Tree).n (⟨t, xs⟩ : Tree).f) (.slice (some ⟨G.be b, 0, none⟩) n n) (fun g => g = G.be b ∨ inAb G1 ab g) := by
              rw [hTn]
              refine .inr ⟨G.be b, 0, n, r, e, fun i' j g => ∃ c m, cs[i' * t.width + j]? = some c ∧ cellLab c m ∧ G1.ow g = .lab m, rfl, Nat.le_refl _, ?_, hg, .inl rfl, fun i' hi' j hj => ?_, fun i' hi' j hj g hg' => ?_, fun i' hi' j hj i2 hi2 j2 hj2 g hg' hg2 => ?_⟩
              · rw [hcs.1, hlen]; simp [Tree.k]
              · obtain ⟨c, u, hcj, huj, hcu⟩ := at_ i' hi' j hj hlen
                refine ⟨u, by rw [Nat.zero_add]; exact huj, ?_⟩
                have hd2 := d2 i' hi' j hj
                exact TO.le hd2.le ((l2 _ c u hcj hcu).frame fun g hg' _ => by
                  obtain ⟨m, hm, hg'⟩ := hg'
                  exact ⟨rfl, c, m, hcj, hm, hg'⟩)
              · obtain ⟨c, m, hcj, hm, hgm⟩ := hg'
                exact ⟨.inr ⟨m, l3 _ c m hcj hm, hgm⟩, fun e => by rw [e, hg0] at hgm; cases hgm⟩
              · obtain ⟨c, m, hcj, hm, hgm⟩ := hg'
                obtain ⟨c2, m2, hcj2, hm2, hgm2⟩ := hg2
                rw [hgm] at hgm2
                injection hgm2 with e2
                subst e2
                exact mul_at hj2 hj (l4 _ _ c c2 m hcj hcj2 hm hm2)
            obtain ⟨G2, hR2, hv2, _⟩ := hR1.retree (64 * b) ab ⟨t, xs⟩ _ _ ⟨rfl, rfl, ⟨rfl, Nat.le_refl _⟩, Nat.le_refl _⟩ (fun _ _ _ => rfl) (fun g hg' => by
              rcases hg' with rfl | ⟨m, hm, hgm⟩
              · exact ⟨hlt0, .inl hg0⟩
              · exact ⟨hR1.lt g (by simp [hgm]), .inr (.inr ⟨m, hm, hgm⟩)⟩) hT (show 64 * b ∉ σ.fl by simpa using hfl) (show ∀ m, m ∈ ab → m ∉ σ.fl by simpa using hab)
            refine ⟨G2, RG.retell (σ := retreeSt (dropB σ b) (64 * b) ab ⟨t, xs⟩) hR2 ⟨_, rfl, ?_, ?_⟩⟩
            · rw [hx, hv2]
            · rw [hx]; rfl
          · exact ⟨G, h⟩
        · exact ⟨G, h⟩
      · split
        · rename_i ds hl
          split
          · rename_i xs hxs
            split
            · rename_i hlen
              obtain ⟨G2, hR2, hf2, hk2, hh2, _⟩ := hR1.freeze hg0 hlt0
              obtain ⟨l1, l2⟩ := cellCons'_ok (w := w) (G := G2) cs ds hl
              obtain ⟨d1, d2⟩ := decRows_ok n ds xs hxs
              refine ⟨G2, RG.retell (σ := dropB σ b) hR2 ⟨_, rfl, ?_⟩⟩
              show TR w (src G2 none) (fcC (.l t xs)) _
              rw [hx, fcC_l, ← d1]
              refine ⟨_, _, rfl, Nat.le_refl _, .inr ⟨G.be b, 0, r, e, (0, 0), rfl, hf2, hg, fun i' hi' j hj => ?_⟩⟩
              obtain ⟨c, u, hcj, huj, hcu⟩ := at_ i' (by omega) j hj hlen
              refine ⟨u, by rw [Nat.zero_add]; exact huj, ?_⟩
              have hcu2 : CellR w G2 c u := by
                refine Cell.carry ⟨fun g hg => ⟨rfl, (hk2 g (by rw [hg]; simp)).trans hg⟩, fun g hg => (hk2 g (by rw [hg]; simp)).trans hg⟩ (fun m _ => by rw [hh2]) (fun m _ g hg => ⟨rfl, (hk2 g (by rw [hg]; simp)).trans hg⟩) hcu
              exact TR.le (d2 i' (by omega) j hj).le (l2 _ c u hcj hcu2)
            · exact ⟨G, h⟩
          · exact ⟨G, h⟩
        · exact ⟨G, h⟩
    · exact ⟨G, h⟩
  · exact ⟨G, h⟩
def litsGo : List Nat → St → St
  | [], σ => σ
  | s :: ss, σ => litsGo ss (litOne σ s)
theorem litsGo_ok : ∀ (ss : List Nat) {σ : St} {G : Gh}, RG F G σ a w → ∃ G', RG F G' (litsGo ss σ) a w := by
  intro ss
  induction ss with
  | nil => intro σ G h; exact ⟨G, h⟩
  | cons s ss ih =>
    intro σ G h
    obtain ⟨G1, h1⟩ := litOne_ok h s
    exact ih h1
def isLit : TV → Bool
  | .lit _ _ _ => true
  | _ => false
def St.lits (σ : St) : St := litsGo ((σ.tm.filter fun p => isLit p.2).map (·.1)) σ
theorem lits_ok (h : RG F G σ a w) : ∃ G', RG F G' σ.lits a w := litsGo_ok _ h
/-- may the literal be told at once? -/
def litFits (P : Program) (cls : Bool) (T : TypeId) (n : Nat) (parts : Array (Nat × Operand)) (σ : St) : Bool :=
  match P.underlying T with
  | some (.slice e) => match P.info? e with
    | some i => match fillC i.size (List.replicate (n * i.size) .dead) (parts.toList.map fun p => (p.1, σ.eval p.2)) with
      | some cs => match litC σ cs with
        | some (_, ab) => !(cls && !ab.isEmpty)
        | none => false
      | none => true
    | none => true
  | _ => true
end
end Go.D
