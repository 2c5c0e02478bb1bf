/-
  Code: the run of a body; loops by what their heads know.
-/
import Derived.Test.YtcgigcmleodjbaaVDyb
import Derived.LoopN
namespace Go.D
set_option linter.unusedVariables false
/-- a loop: its places, what holds at its head (of the entry's values and the present ones), a measure -/
structure LInv where
  ps : List Vr
  inv : Xs ps → Xs ps → Prop
  m : Xs ps → Nat
abbrev LEnv := Nat → Option LInv
def ExR : Ex → Exit → Prop
  | .normal, e => e = .normal
  | .exit id, e => e = .exit id
  | .ret, e => e = .ret
def Post2 {P : Program} (F : Fr P) (K : Ex → St → Out) (Q : Post) : Exit → Act → World → Prop := fun e a w => ∃ ex σ', ExR ex e ∧ R F σ' a w ∧ (K ex σ').holds Q
def regId : Code → Nat
  | .region i _ _ => i
  | .seq x _ => regId x
  | .cond _ x _ => regId x
  | .block _ x => regId x
  | .loop x => regId x
  | _ => 0
def dstsOps (ops : List Oper) : List Nat := ops.filterMap (·.dst)
def dstsOf : Code → List Nat
  | .region _ ops _ => dstsOps ops.toList
  | .seq x y => dstsOf x ++ dstsOf y
  | .cond _ x y => dstsOf x ++ dstsOf y
  | .block _ x => dstsOf x
  | .loop x => dstsOf x
  | _ => []
def St.clean (σ : St) (kp : List Nat) : St := { σ with tm := σ.tm.filter fun p => kp.contains p.1 }
/-- a slot that a test alone reads (told by its number and a million) is told no longer behind the test -/
def St.dropC (σ : St) (kp : List Nat) : Operand → St
  | .tmp t => bif kp.contains (t + 1000000) then { σ with tm := σ.tm.filter fun p => !(p.1 == t) } else σ
  | _ => σ
def TV.forget (hs : List Nat) (x : TV) : TV := bif x.memfree hs then x else .dead
def baseTm (kp ds : List Nat) (ps : List Vr) (l : List (Nat × TV)) : List (Nat × TV) := (l.filter fun x => kp.contains x.1 && !(ds.contains x.1 || ps.any fun v => (match v.k with | .s => true | _ => false) && v.p == x.1)).map fun x => (x.1, x.2.forget (hOf ps))
def eqCell : Cell → Cell → Option (List Prop)
  | .sc u, .sc v => some [u = v]
  | .tt, .tt => some []
  | .ff, .ff => some []
  | .nil, .nil => some []
  | .ref l, .ref m => if l = m then some [] else none
  | .sub l k lo n, .sub l' k' lo' n' => if l = l' ∧ k = k' then some [lo = lo', n = n'] else none
  | .sc u, .tt => some [u = .bool true]
  | .sc u, .ff => some [u = .bool false]
  | .tt, .sc u => some [u = .bool true]
  | .ff, .sc u => some [u = .bool false]
  | .im none t xs, .im none t' ys => if h : t = t' then some [h ▸ xs = ys] else none
  | _, _ => none
def eqCells : List Cell → List Cell → Option (List Prop)
  | [], [] => some []
  | c :: cs, d :: ds => match eqCell c d, eqCells cs ds with
    | some p, some q => some (p ++ q)
    | _, _ => none
  | _, _ => none
def eqCaps : List Cap → List Cap → Option (List Prop)
  | [], [] => some []
  | .ptr b :: cs, .ptr b' :: ds => if b = b' then eqCaps cs ds else none
  | .aptr x :: cs, .aptr y :: ds => match eqCaps cs ds with
    | some q => some ((x = y) :: q)
    | none => none
  | _, _ => none
def eqTV : TV → TV → Option (List Prop)
  | .v a cs, .v b ds => if a = b then eqCells cs ds else none
  | .ptr b o, .ptr b' o' => if b = b' ∧ o = o' then some [] else none
  | .aptr cs o, .aptr ds o' => if o = o' then some [cs = ds] else none
  | .clo f cs, .clo g ds => if f = g then eqCaps cs ds else none
  | .cur, .cur => some []
  | .sptr none t x o, .sptr none t' y o' => if h : t = t' then if o = o' then some [h ▸ x = y] else none else none
  | _, _ => none
/-- what is asked, that the slots hold what they held -/
def subTm (σ : St) : List (Nat × TV) → Option (List Prop)
  | [] => some []
  | (_, .dead) :: r => subTm σ r
  | (t, x) :: r => match look σ.tm t with
    | some y => match eqTV y x, subTm σ r with
      | some p, some q => some (p ++ q)
      | _, _ => none
    | none => none
def back (li : LInv) (x0 x : Xs li.ps) (base σ : St) : Out :=
  match grabAll σ li.ps with
  | some (x', ab) => match subTm σ base.tm with
    | some ps => bif placesOk σ li.ps ab && σ.nt == base.nt && σ.fb == base.fb && σ.fl == base.fl then obs ps (.ob (li.inv x0 x' ∧ li.m x' < li.m x) .ok) else .bad
    | none => .bad
  | none => .bad
/-- a loop, written short: bk: what is asked at the way back -/
def lpx (li : LInv) (x0 : Xs li.ps) (f : Xs li.ps → (Xs li.ps → Prop) → Out) : Out := .lp (Xs li.ps) (li.inv x0 x0) (li.inv x0) fun x => f x fun x' => li.inv x0 x' ∧ li.m x' < li.m x
/-- how often a loop is rolled out (told among the slots that live on: 64 * (1000000 + the loop's number) + rounds) -/
def unrollN (kp : List Nat) (id : Nat) : Nat := match kp.find? (fun k => k / 64 == 1000000 + id) with
  | some k => k % 64
  | none => 0
def unroll (f : St → (Ex → St → Out) → Out) (K : Ex → St → Out) : Nat → St → Out
  | 0, _ => .bad
  | n + 1, σ => f σ fun e σ' => match e with
    | .normal => unroll f K n σ'
    | e => K e σ'
def run (P : Program) (E : Env) (L : LEnv) (kp : List Nat) : Code → St → (Ex → St → Out) → Out
  | .skip, σ, K => K .normal σ
  | .region _ ops draw, σ, K => bif draw then evDraw P E ops σ (fun σ' => K .normal (σ'.clean kp)) else evOps P E ops (List.range ops.size) σ (fun σ' => K .normal (σ'.clean kp))
  | .seq x y, σ, K => run P E L kp x σ (fun e σ' => match e with
    | .normal => run P E L kp y σ' K
    | e => K e σ')
  | .cond c x y, σ, K => brTV (σ.eval c) (run P E L kp x (σ.dropC kp c) K) (run P E L kp y (σ.dropC kp c) K)
  | .block id x, σ, K => run P E L kp x σ (fun e σ' => match e with
    | .exit i => bif i == id then K .normal σ' else K (.exit i) σ'
    | e => K e σ')
  | .exit id, σ, K => K (.exit id) σ
  | .ret, σ, K => K .ret σ
  | .loop b, σ, K => bif unrollN kp (regId b) != 0 then unroll (fun σ K => run P E L kp b σ K) K (unrollN kp (regId b)) σ else match L (regId b) with
    | some li => settlePs li.ps σ fun σ => match grabAll σ li.ps with
      | some (x0, ab) =>
        bif placesOk σ li.ps ab then
          .lp (Xs li.ps) (li.inv x0 x0) (li.inv x0) fun x => run P E L kp b (headSt { σ with tm := baseTm kp (dstsOf b) li.ps σ.tm, bx := [], hp := [] } li.ps x) (fun e σ' => match e with
            | .normal => settlePs li.ps σ' fun σ' => back li x0 x { σ with tm := baseTm kp (dstsOf b) li.ps σ.tm, bx := [], hp := [] } σ'
            | e => K e σ')
        else .bad
      | none => .bad
    | none => .bad
  | _, _, _ => .bad
section
variable {P : Program} {E : Env} {F : Fr P} {G : Gh} {σ : St} {a : Act} {w : World} {o : Oper} {K : St → Out} {Q : Post} {Qx : Exit → Act → World → Prop}
theorem RG.clean (h : RG F G σ a w) (kp : List Nat) : RG F G (σ.clean kp) a w := by
  refine ⟨?_, h.bx, h.hp, h.lt, h.os, h.tape, h.output, h.size, h.keep, h.fb, h.fl, h.nt, h.df⟩
  intro t tv hl
  simp only [St.clean, look_filter (fun t => kp.contains t)] at hl
  split at hl
  · exact h.tm t tv hl
  · cases hl
theorem RG.dropC (h : RG F G σ a w) (kp : List Nat) (c : Operand) : RG F G (σ.dropC kp c) a w := by
  unfold St.dropC
  split
  · rename_i t
    cases kp.contains (t + 1000000) with
    | false => exact h
    | true =>
      refine ⟨?_, h.bx, h.hp, h.lt, h.os, h.tape, h.output, h.size, h.keep, h.fb, h.fl, h.nt, h.df⟩
      intro t' tv hl
      simp only [cond_true, look_filter (fun s => !(s == t))] at hl
      split at hl
      · exact h.tm t' tv hl
      · cases hl
  · exact h
theorem forget_memfree (hs : List Nat) (x : TV) : (x.forget hs).memfree hs = true := by
  unfold TV.forget
  cases h : x.memfree hs
  · rfl
  · exact h
theorem forget_ok {hs : List Nat} {x : TV} {v : Value} (h : TVR w G x v) : TVR w G (x.forget hs) v := by
  unfold TV.forget
  cases x.memfree hs
  · trivial
  · exact h
theorem eqCell_ok {c d : Cell} {p : List Prop} {v : Value} (h : eqCell c d = some p) (hp : ∀ q ∈ p, q) (hc : CellR w G c v) : CellR w G d v := by
  unfold eqCell at h
  split at h
  · simp only [Option.some.injEq] at h; subst h; have := hp _ (List.mem_singleton_self _); subst this; exact hc
  · exact hc
  · exact hc
  · exact hc
  · split at h
    · rename_i e; subst e; exact hc
    · cases h
  · split at h
    · rename_i e
      obtain ⟨rfl, rfl⟩ := e
      simp only [Option.some.injEq] at h
      subst h
      have h1 := hp _ List.mem_cons_self
      have h2 := hp _ (List.mem_cons_of_mem _ (List.mem_singleton_self _))
      subst h1; subst h2
      exact hc
    · cases h
  · simp only [Option.some.injEq] at h; subst h; have := hp _ (List.mem_singleton_self _); subst this; exact hc.1
  · simp only [Option.some.injEq] at h; subst h; have := hp _ (List.mem_singleton_self _); subst this; exact hc.1
  · simp only [Option.some.injEq] at h; subst h; have := hp _ (List.mem_singleton_self _); subst this; exact ⟨hc, rfl⟩
  · simp only [Option.some.injEq] at h; subst h; have := hp _ (List.mem_singleton_self _); subst this; exact ⟨hc, rfl⟩
  · rename_i t xs t' ys
    split at h
    · rename_i e
      subst e
      simp only [Option.some.injEq] at h
      subst h
      have := hp _ (List.mem_singleton_self _)
      subst this
      exact hc
    · cases h
  · cases h
theorem eqCells_ok : ∀ {cs ds : List Cell} {p : List Prop}, eqCells cs ds = some p → (∀ q ∈ p, q) → ds.length = cs.length ∧ ∀ (j : Nat) (d : Cell), ds[j]? = some d → ∃ c, cs[j]? = some c ∧ ∀ v, CellR w G c v → CellR w G d v := by
  intro cs
  induction cs with
  | nil =>
    intro ds p h _
    cases ds with
    | nil => simp
    | cons d ds => simp [eqCells] at h
  | cons c cs ih =>
    intro ds p h hp
    cases ds with
    | nil => simp [eqCells] at h
    | cons d ds =>
      simp only [eqCells] at h
      split at h
      · rename_i p1 p2 h1 h2
        simp only [Option.some.injEq] at h
        subst h
        obtain ⟨k1, k2⟩ := ih h2 (fun q hq => hp q (List.mem_append.2 (.inr hq)))
        refine ⟨by simp [k1], fun j d' hj => ?_⟩
        cases j with
        | zero =>
          simp only [List.getElem?_cons_zero, Option.some.injEq] at hj
          subst hj
          exact ⟨c, rfl, fun v hv => eqCell_ok h1 (fun q hq => hp q (List.mem_append.2 (.inl hq))) hv⟩
        | succ j => simpa using k2 j d' (by simpa using hj)
      · cases h
theorem eqCaps_ok : ∀ {cs ds : List Cap} {p : List Prop}, eqCaps cs ds = some p → (∀ q ∈ p, q) → cs = ds := by
  intro cs
  induction cs with
  | nil =>
    intro ds p h _
    cases ds with
    | nil => rfl
    | cons d ds => simp [eqCaps] at h
  | cons c cs ih =>
    intro ds p h hp
    cases ds with
    | nil => cases c <;> simp [eqCaps] at h
    | cons d ds =>
      cases c <;> cases d <;> simp only [eqCaps] at h
      · split at h
        · rename_i e; rw [e, ih h hp]
        · cases h
      · cases h
      · cases h
      · split at h
        · rename_i q h1
          simp only [Option.some.injEq] at h
          subst h
          rw [hp _ (List.mem_cons_self), ih h1 (fun q hq => hp q (List.mem_cons_of_mem _ hq))]
        · cases h
theorem eqTV_ok {x y : TV} {p : List Prop} {v : Value} (h : eqTV x y = some p) (hp : ∀ q ∈ p, q) (hx : TVR w G x v) : TVR w G y v := by
  unfold eqTV at h
  split at h
  · rename_i a cs b ds
    split at h
    · rename_i e
      subst e
      obtain ⟨h1, h2⟩ := eqCells_ok (w := w) (G := G) h hp
      exact part_map h1 h2 hx
    · cases h
  · split at h
    · rename_i e; obtain ⟨rfl, rfl⟩ := e; exact hx
    · cases h
  · split at h
    · rename_i e
      subst e
      simp only [Option.some.injEq] at h
      subst h
      have := hp _ (List.mem_singleton_self _)
      subst this
      exact hx
    · cases h
  · split at h
    · rename_i e
      subst e
      rw [← eqCaps_ok h hp]
      exact hx
    · cases h
  · exact hx
  · split at h
    · rename_i e
      subst e
      split at h
      · rename_i e2
        subst e2
        simp only [Option.some.injEq] at h
        subst h
        have := hp _ (List.mem_singleton_self _)
        subst this
        exact hx
      · cases h
    · cases h
  · cases h
theorem subTm_ok (h : RG F G σ a w) : ∀ {l : List (Nat × TV)} {p : List Prop}, subTm σ l = some p → (∀ q ∈ p, q) → ∀ t x, (t, x) ∈ l → TVR w G x (a.tmps.getD t undef) := by
  intro l
  induction l with
  | nil => intro p _ _ t x hm; simp at hm
  | cons e l ih =>
    obtain ⟨t0, x0⟩ := e
    intro p hs hp t x hm
    unfold subTm at hs
    split at hs
    · rename_i e; cases e
    · rename_i e
      injection e with e1 e2
      injection e1 with e3 e4
      subst e2; subst e3; subst e4
      rcases List.mem_cons.1 hm with e | hm
      · injection e with e1 e2; subst e2; trivial
      · exact ih hs hp t x hm
    · rename_i t1 x1 r1 _ e
      injection e with e1 e2
      injection e1 with e3 e4
      subst e2; subst e3; subst e4
      split at hs
      · rename_i y hl
        split at hs
        · rename_i p1 p2 h1 h2
          simp only [Option.some.injEq] at hs
          subst hs
          rcases List.mem_cons.1 hm with e | hm
          · injection e with e1 e2
            subst e1; subst e2
            exact eqTV_ok h1 (fun q hq => hp q (List.mem_append.2 (.inl hq))) (h.tm t y hl)
          · exact ih h2 (fun q hq => hp q (List.mem_append.2 (.inr hq))) t x hm
        · cases hs
      · cases hs
theorem run_ok (hE : EOk P E) {L : LEnv} {kp : List Nat} : ∀ (c : Code) (σ : St) (a : Act) (w : World) (K : Ex → St → Out), R F σ a w → (run P E L kp c σ K).holds Q → c.wp P (Post2 F K Q) a w := by
  intro c
  induction c with
  | skip => intro σ a w K h hh; exact wp_skip ⟨.normal, σ, rfl, h, hh⟩
  | region id ops draw =>
    intro σ a w K h hh
    simp only [run] at hh
    obtain ⟨G, h⟩ := h
    cases draw with
    | true =>
      simp only [cond_true] at hh
      refine wp_mono (evDraw_ok (K := fun σ' => K .normal (σ'.clean kp)) hE h hh) ?_
      rintro e a' w' ⟨rfl, σ', ⟨G', h'⟩, hh'⟩
      exact ⟨.normal, _, rfl, ⟨G', h'.clean kp⟩, hh'⟩
    | false =>
      simp only [cond_false] at hh
      refine wp_mono (wp_region (evOps_ok hE (K := fun σ' => K .normal (σ'.clean kp)) _ σ G a w h hh)) ?_
      rintro e a' w' ⟨rfl, σ', ⟨G', h'⟩, hh'⟩
      exact ⟨.normal, _, rfl, ⟨G', h'.clean kp⟩, hh'⟩
  | seq x y ihx ihy =>
    intro σ a w K h hh
    simp only [run] at hh
    refine wp_seq (wp_mono (ihx σ a w _ h hh) ?_)
    rintro e a' w' ⟨ex, σ', he, h', hh'⟩
    cases ex with
    | normal => obtain rfl := he; exact ihy σ' a' w' K h' hh'
    | exit id => obtain rfl := he; exact ⟨.exit id, σ', rfl, h', hh'⟩
    | ret => obtain rfl := he; exact ⟨.ret, σ', rfl, h', hh'⟩
  | cond c x y ihx ihy =>
    intro σ a w K h hh
    simp only [run] at hh
    obtain ⟨G, hG⟩ := h
    obtain ⟨b, hb, h1, h2⟩ := brTV_ok (eval_ok hG c) hh
    exact wp_cond_split hb (fun e => ihx _ a w K ⟨G, hG.dropC kp c⟩ (h1 e)) (fun e => ihy _ a w K ⟨G, hG.dropC kp c⟩ (h2 e))
  | block id x ih =>
    intro σ a w K h hh
    simp only [run] at hh
    refine wp_block (wp_mono (ih σ a w _ h hh) ?_)
    rintro e a' w' ⟨ex, σ', he, h', hh'⟩
    cases ex with
    | normal => obtain rfl := he; exact ⟨.normal, σ', rfl, h', hh'⟩
    | exit i =>
      obtain rfl := he
      simp only [Exit.inBlock]
      split
      · rename_i hi; simp only [hi, BEq.rfl, cond_true] at hh'; exact ⟨.normal, σ', rfl, h', hh'⟩
      · rename_i hi
        have h0 : (i == id) = false := by simpa using hi
        simp only [h0, cond_false] at hh'
        exact ⟨.exit i, σ', rfl, h', hh'⟩
    | ret => obtain rfl := he; exact ⟨.ret, σ', rfl, h', hh'⟩
  | exit id => intro σ a w K h hh; exact wp_exit ⟨.exit id, σ, rfl, h, hh⟩
  | ret => intro σ a w K h hh; exact wp_ret ⟨.ret, σ, rfl, h, hh⟩
  | loop b ih =>
    intro σ a w K h hh
    simp only [run] at hh
    cases hu : (unrollN kp (regId b) != 0) with
    | true =>
      rw [hu, cond_true] at hh
      generalize unrollN kp (regId b) = m at hh
      refine wp_loop_rounds m ?_
      clear hu
      induction m generalizing σ a w with
      | zero => exact hh.elim
      | succ m ihm =>
        rw [rounds_succ]
        refine wp_mono (ih σ a w _ h hh) ?_
        rintro e a' w' ⟨ex, σ', he, h', hh'⟩
        cases ex with
        | exit id => obtain rfl := he; exact ⟨.exit id, σ', rfl, h', hh'⟩
        | ret => obtain rfl := he; exact ⟨.ret, σ', rfl, h', hh'⟩
        | normal => obtain rfl := he; exact ihm σ' a' w' h' hh'
    | false =>
    rw [hu, cond_false] at hh
    split at hh
    · rename_i li hli
      obtain ⟨G, hG⟩ := h
      obtain ⟨σ, G, hG, hh⟩ := settlePs_ok _ _ _ _ hG hh
      split at hh
      · rename_i x0 ab hg
        cases hp : placesOk σ li.ps ab with
        | false => simp [hp, Out.holds] at hh
        | true =>
          simp only [hp, cond_true] at hh
          obtain ⟨hinv, hbody⟩ := hh
          generalize hbase : ({ σ with tm := baseTm kp (dstsOf b) li.ps σ.tm, bx := [], hp := [] } : St) = base at hbody
          have hbt : ∀ t tv, look base.tm t = some tv → tv.memfree (hOf li.ps) = true ∧ (t, tv) ∈ base.tm ∧ TVR w G tv (a.tmps.getD t undef) := by
            intro t tv hl
            have h1 := mem_look hl
            subst hbase
            simp only [baseTm] at hl
            rw [look_map (TV.forget (hOf li.ps)), look_filter (fun s => kp.contains s && !((dstsOf b).contains s || li.ps.any fun v => (match v.k with | .s => true | _ => false) && v.p == s))] at hl
            split at hl
            · cases hq : look σ.tm t with
              | none => rw [hq] at hl; cases hl
              | some x =>
                rw [hq] at hl
                simp only [Option.map_some, Option.some.injEq] at hl
                subst hl
                exact ⟨forget_memfree _ x, h1, forget_ok (hG.tm t x hq)⟩
            · cases hl
          obtain ⟨G0, hG0⟩ := grab_ok hG hg hp base (by subst hbase; rfl) (by subst hbase; rfl) (by subst hbase; rfl) (by subst hbase; rfl) (by subst hbase; rfl) (fun t tv hl => ⟨(hbt t tv hl).1, (hbt t tv hl).2.2⟩)
          have key : ∀ n (x : Xs li.ps) (a : Act) (w : World), li.m x < n → li.inv x0 x → R F (headSt base li.ps x) a w → Code.rounds P b (Post2 F K Q) n a w := by
            intro n
            induction n with
            | zero => intro x a w hm _ _; omega
            | succ n ihn =>
              intro x a w hm hx hR
              rw [rounds_succ]
              refine wp_mono (ih _ a w _ hR (hbody x hx)) ?_
              rintro e a' w' ⟨ex, σ', he, ⟨G', h'⟩, hh'⟩
              cases ex with
              | exit id => obtain rfl := he; exact ⟨.exit id, σ', rfl, ⟨G', h'⟩, hh'⟩
              | ret => obtain rfl := he; exact ⟨.ret, σ', rfl, ⟨G', h'⟩, hh'⟩
              | normal =>
                obtain rfl := he
                show Code.rounds P b (Post2 F K Q) n a' w'
                obtain ⟨σ', G', h', hh2⟩ := settlePs_ok _ _ _ _ h' hh'
                have hh2 : (back li x0 x base σ').holds Q := hh2
                unfold back at hh2
                split at hh2
                · rename_i x' ab' hg'
                  split at hh2
                  · rename_i ps hs
                    cases hc : (placesOk σ' li.ps ab' && σ'.nt == base.nt && σ'.fb == base.fb && σ'.fl == base.fl) with
                    | false => simp [hc, Out.holds] at hh2
                    | true =>
                      simp only [hc, cond_true] at hh2
                      simp only [Bool.and_eq_true, beq_iff_eq] at hc
                      obtain ⟨⟨⟨c1, c2⟩, c3⟩, c4⟩ := hc
                      obtain ⟨hps, ⟨hinv', hm'⟩, _⟩ := obs_holds hh2
                      obtain ⟨G2, hG2⟩ := grab_ok h' hg' c1 base (by subst hbase; rfl) (by subst hbase; rfl) c3.symm c4.symm c2.symm (fun t tv hl => ⟨(hbt t tv hl).1, subTm_ok h' hs hps t tv (hbt t tv hl).2.1⟩)
                      exact ihn x' a' w' (by omega) hinv' ⟨G2, hG2⟩
                  · exact hh2.elim
                · exact hh2.elim
          exact wp_loop_rounds _ (key _ x0 a w (Nat.lt_succ_self _) hinv ⟨G0, hG0⟩)
      · exact hh.elim
    · exact hh.elim
  | _ => intro σ a w K h hh; simp only [run] at hh; exact hh.elim
end
end Go.D
