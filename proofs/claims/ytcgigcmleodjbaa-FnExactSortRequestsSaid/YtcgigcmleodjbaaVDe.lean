/-
  The evaluator of operations, first part: moves, numbers, strings, booleans, pointers, boxes, loads and stores.
-/
import Derived.Test.YtcgigcmleodjbaaVDd
import Derived.Laws.Entries
import Derived.Laws.StructEq
import Derived.Laws.Append
namespace Go.D
set_option linter.unusedVariables false
def Cont {P : Program} (F : Fr P) (K : St → Out) (Q : Post) : Act → World → Prop := fun a w => ∃ σ', R F σ' a w ∧ (K σ').holds Q
/-- the ghost goes on: what was there is as it was; new are labels and the box of the slot d -/
structure Ext (d : Option Nat) (G : Gh) (a : Act) (w : World) (G' : Gh) (a' : Act) (w' : World) : Prop where
  act : ∃ v, a' = a.put d v
  on : Onward w w'
  old : ∀ g, g < w.heap.size → w'.heap[g]? = w.heap[g]? ∨ (G.ow g = .cur ∧ CurStep w w' g)
  ow : ∀ g, G.ow g ≠ .gone → G'.ow g = G.ow g
  be : ∀ b, d ≠ some b → G'.be b = G.be b
  hv : ∀ l, (∀ d0, d = some d0 → l < 64 * d0 ∨ 64 * d0 + 64 ≤ l) → G'.hv l = G.hv l
def ContE {P : Program} (F : Fr P) (G : Gh) (a : Act) (w : World) (d : Option Nat) (K : St → Out) (Q : Post) : Act → World → Prop := fun a' w' => ∃ σ' G', RG F G' σ' a' w' ∧ (K σ').holds Q ∧ Ext d G a w G' a' w'
theorem ContE.cont {P : Program} {F : Fr P} {G : Gh} {a : Act} {w : World} {d : Option Nat} {K : St → Out} {Q : Post} {a' : Act} {w' : World} (h : ContE F G a w d K Q a' w') : Cont F K Q a' w' :=
  let ⟨σ', G', h1, h2, _⟩ := h; ⟨σ', ⟨G', h1⟩, h2⟩
theorem Ext.sm {d : Option Nat} {G G' : Gh} {a a' : Act} {w w' : World} (h : Ext d G a w G' a' w') {g : Nat} (hg : g < w.heap.size) (hc : G.ow g ≠ .cur) : w'.heap[g]? = w.heap[g]? := (h.old g hg).resolve_right fun e => hc e.1
theorem Ext.world {P : Program} {F : Fr P} {σ : St} {d : Option Nat} {G G' : Gh} {a a' b : Act} {w w' : World} (he : Ext d G a w G' a' w') (h : RG F G σ b w) : RG F G σ b w' :=
  h.world2 he.on (fun g h1 h2 => he.sm (h.lt g h1) h2) fun g hg => (he.old g (h.lt g (by simp [hg]))).elim (fun e => (h.keep.at_ g hg).same e) (·.2)
theorem Ext.same {d : Option Nat} {G : Gh} {a : Act} {w : World} {v : Value} : Ext d G a w G (a.put d v) w :=
  ⟨⟨v, rfl⟩, ⟨rfl, rfl, ⟨rfl, by first | exact Nat.le_refl _ | exact Nat.le_succ _⟩, Nat.le_refl _⟩, fun _ _ => .inl rfl, fun _ _ => rfl, fun _ _ => rfl, fun _ _ => rfl⟩
def dstOk (σ : St) (o : Oper) : Bool := match o.dst with | some d => decide (d < σ.nt) | none => true
def ret (σ : St) (o : Oper) (x : TV) (K : St → Out) : Out := bif dstOk σ o then K (σ.setTm o.dst x) else .bad
theorem wp_val {P : Program} {o : Oper} {a : Act} {w w' : World} {v : Value} {K : Act → World → Prop} {Q : Exit → Act → World → Prop} (h : (execOp a.eval o).run P w = .ok (.value v) w') (hk : K (a.put o.dst v) w') : o.wp P a w K Q := by
  unfold Oper.wp; rw [h]; exact hk
theorem wp_skp {P : Program} {o : Oper} {a : Act} {w w' : World} {K : Act → World → Prop} {Q : Exit → Act → World → Prop} (h : (execOp a.eval o).run P w = .ok .skip w') (hk : K (a.put o.dst undef) w') : o.wp P a w K Q := by
  unfold Oper.wp; rw [h]; exact hk
theorem dst_lt {σ : St} {o : Oper} (h : dstOk σ o = true) : ∀ t, o.dst = some t → t < σ.nt := by
  intro t ht
  simpa [dstOk, ht] using h
theorem ret_ok {P : Program} {F : Fr P} {G : Gh} {σ : St} {a : Act} {w : World} {o : Oper} {x : TV} {K : St → Out} {Q : Post} {v : Value} (h : RG F G σ a w) (hh : (ret σ o x K).holds Q) (hx : TVR w G x v) :
    ContE F G a w o.dst K Q (a.put o.dst v) w := by
  unfold ret at hh
  cases hd : dstOk σ o with
  | false => simp [hd, Out.holds] at hh
  | true =>
    simp only [hd, cond_true] at hh
    exact ⟨_, G, h.setTm (dst_lt hd) hx, hh, .same⟩
def TV.scal : TV → Option Value
  | .v false [c] => c.val?
  | _ => none
theorem Cell.val_ok {w : World} {G : Gh} {c : Cell} {u v : Value} (h : CellR w G c v) (hc : c.val? = some u) : v = u ∧ plain u = true := by
  cases c <;> simp only [Cell.val?, Option.some.injEq, reduceCtorEq] at hc
  · subst hc; exact h
  · subst hc; exact ⟨h, rfl⟩
  · subst hc; exact ⟨h, rfl⟩
theorem scal_ok {w : World} {G : Gh} {x : TV} {u v : Value} (h : TVR w G x v) (hx : x.scal = some u) : v = u ∧ plain u = true := by
  unfold TV.scal at hx
  split at hx
  · obtain ⟨c, hc, h⟩ := h
    injection hc with hc
    subst hc
    exact Cell.val_ok h hx
  · cases hx
def pureVal {α : Type} (P : Program) : Sem α → Option α
  | .pure a => some a
  | .program k => pureVal P (k P)
  | _ => none
theorem pureVal_ok {α : Type} {P : Program} {s : Sem α} {r : α} (h : pureVal P s = some r) (w : World) : s.run P w = .ok r w := by
  induction s <;> simp only [pureVal, reduceCtorEq] at h
  case pure a => injection h with h; subst h; rfl
  case program k ih => exact ih P h
def resCell : Value → Option Cell
  | .int k n => some (.sc (.int k n))
  | .bool b => some (.sc (.bool b))
  | .string s => some (.sc (.string s))
  | _ => none
theorem resCell_ok {v : Value} {c : Cell} (w : World) (G : Gh) (h : resCell v = some c) : CellR w G c v := by
  cases v <;> simp only [resCell, Option.some.injEq, reduceCtorEq] at h <;> subst h <;> exact ⟨rfl, rfl⟩
def opPure (P : Program) (o : Oper) (s : Sem Value) (σ : St) (K : St → Out) : Out :=
  match pureVal P s with
  | some r => match resCell r with
    | some c => ret σ o (.v false [c]) K
    | none => .bad
  | none => .bad
section
variable {P : Program} {F : Fr P} {G : Gh} {σ : St} {a : Act} {w : World} {o : Oper} {K : St → Out} {Q : Post} {Qx : Exit → Act → World → Prop}
theorem opPure_ok {s : Sem Value} (h : RG F G σ a w) (hh : (opPure P o s σ K).holds Q) (he : execOp a.eval o = (do pure (.value (← s)))) : o.wp P a w (ContE F G a w o.dst K Q) Qx := by
  unfold opPure at hh
  split at hh
  · rename_i r hr
    split at hh
    · rename_i c hc
      refine wp_val (w' := w) (v := r) ?_ (ret_ok h hh ⟨c, rfl, resCell_ok w G hc⟩)
      rw [he]
      simp [pureVal_ok hr w]
    · exact hh.elim
  · exact hh.elim
theorem ret_val {x : TV} {v : Value} (h : RG F G σ a w) (hh : (ret σ o x K).holds Q) (hx : TVR w G x v) (he : (execOp a.eval o).run P w = .ok (.value v) w) : o.wp P a w (ContE F G a w o.dst K Q) Qx :=
  wp_val he (ret_ok h hh hx)
def opMove (o : Oper) (x : Operand) (σ : St) (K : St → Out) : Out := ret σ o (σ.eval x) K
theorem opMove_ok {x : Operand} (h : RG F G σ a w) (ho : o.op = .move x ∨ o.op = .assign x) (hh : (opMove o x σ K).holds Q) : o.wp P a w (ContE F G a w o.dst K Q) Qx :=
  ret_val h hh (eval_ok h x) (by rcases ho with ho | ho <;> simp [execOp, ho])
/-! two operands -/
def sameSize (a b : ByteArray) : Prop := a.size + b.size ≤ 4611686018427387904
def opBinS (P : Program) (o : Oper) (op : BinOp) (T : TypeId) (x y : Operand) (u v : Value) (σ : St) (K : St → Out) : Out :=
  match op, u, v with
  | .add, .string a, .string b => .ob (sameSize a b) (ret σ o (.v false [.sc (.string (a ++ b))]) K)
  | .quo, .int k a, .int k' b => bif k == k' then .ob (b ≠ 0) (ret σ o (.v false [.sc (.int k (k.wrap (a.tdiv b)))]) K) else .bad
  | .rem, .int k a, .int k' b => bif k == k' then .ob (b ≠ 0) (ret σ o (.v false [.sc (.int k (a.tmod b))]) K) else .bad
  | .shl, .int k a, .int _ b => .ob (0 ≤ b) (ret σ o (.v false [.sc (.int k (k.wrap (a * 2 ^ (min b.toNat k.bits))))]) K)
  | .shr, .int k a, .int _ b => .ob (0 ≤ b) (ret σ o (.v false [.sc (.int k (a.fdiv (2 ^ (min b.toNat k.bits))))]) K)
  | _, _, _ => opPure P o (do eqGuard op T x y u v; binOp op T u v) σ K
theorem opBinS_ok {op : BinOp} {T Ty : TypeId} {x y : Operand} {u v : Value} (h : RG F G σ a w) (ho : o.op = .binOp op T x y Ty) (hx : a.eval x = u) (hy : a.eval y = v)
    (hh : (opBinS P o op T x y u v σ K).holds Q) : o.wp P a w (ContE F G a w o.dst K Q) Qx := by
  unfold opBinS at hh
  split at hh
  · rename_i s t
    obtain ⟨h0, hh⟩ := hh
    refine ret_val h hh ⟨_, rfl, rfl, rfl⟩ ?_
    have h1 : ¬ (9223372036854775807 < ((s.size : Int) + (t.size : Int))) := by unfold sameSize at h0; omega
    simp [execOp, ho, hx, hy, eqGuard, binOp, Op.stringOp, IntKind.max, IntKind.signed, IntKind.bits, h1]
  · rename_i k s k' t
    cases hk : k == k' with
    | false => simp [hk, Out.holds] at hh
    | true =>
      have : k = k' := by simpa using hk
      subst this
      simp only [hk, cond_true] at hh
      obtain ⟨h0, hh⟩ := hh
      refine ret_val h hh ⟨_, rfl, rfl, rfl⟩ ?_
      simp [execOp, ho, hx, hy, eqGuard, binOp, Op.intDiv, h0]
  · rename_i k s k' t
    cases hk : k == k' with
    | false => simp [hk, Out.holds] at hh
    | true =>
      have : k = k' := by simpa using hk
      subst this
      simp only [hk, cond_true] at hh
      obtain ⟨h0, hh⟩ := hh
      refine ret_val h hh ⟨_, rfl, rfl, rfl⟩ ?_
      simp [execOp, ho, hx, hy, eqGuard, binOp, Op.intDiv, h0]
  · rename_i k s k' t
    obtain ⟨h0, hh⟩ := hh
    refine ret_val h hh ⟨_, rfl, rfl, rfl⟩ ?_
    have : ¬ t < 0 := by omega
    simp [execOp, ho, hx, hy, eqGuard, binOp, Op.shift, this]
  · rename_i k s k' t
    obtain ⟨h0, hh⟩ := hh
    refine ret_val h hh ⟨_, rfl, rfl, rfl⟩ ?_
    have : ¬ t < 0 := by omega
    simp [execOp, ho, hx, hy, eqGuard, binOp, Op.shift, this]
  · refine opPure_ok h hh ?_
    simp [execOp, ho, hx, hy]
/-- '==' at structs of plain values: the type says how -/
def eqTy (P : Program) : Nat → TypeId → List Value → List Value → Option Bool
  | 0, _, _, _ => none
  | d + 1, T, us, vs => match P.underlying T with
    | some .bool => match us, vs with | [.bool a], [.bool b] => some (a == b) | _, _ => none
    | some (.int _) => match us, vs with | [.int k a], [.int k' b] => bif k == k' then some (a == b) else none | _, _ => none
    | some .string => match us, vs with | [.string a], [.string b] => some (a == b) | _, _ => none
    | some (.struct fs) => if P.stoodInHeld T then none else fs.toList.foldr (fun f r => match P.info? f.type with
        | some i => if f.name != "_" && decide (f.offset + i.size ≤ us.length) && decide (f.offset + i.size ≤ vs.length) && (aggOf f.type || i.size == 1) then
            match eqTy P d f.type ((us.drop f.offset).take i.size) ((vs.drop f.offset).take i.size), r with
            | some x, some y => some (x && y)
            | _, _ => none
          else none
        | none => none) (some true)
    | _ => none
where aggOf (T : TypeId) : Bool := match P.underlying T with | some (.struct _) => true | some (.array _ _) => true | _ => false
def mkVal (P : Program) (T : TypeId) (us : List Value) : Value := if eqTy.aggOf P T then .agg us.toArray else us.headD undef
theorem run_part (f : TypeId) (i : TypeInfo) (us : List Value) (off : Nat) (d : TypeDesc) (hd : P.underlying f = some d) (hi : P.info? f = some i) (hle : off + i.size ≤ us.length) (hs : eqTy.aggOf P f = true ∨ i.size = 1) :
    (part f us.toArray off).run P w = .ok (mkVal P f ((us.drop off).take i.size)) w := by
  have hag : (isAgg f).run P w = .ok (eqTy.aggOf P f) w := by
    simp only [isAgg, Sem.run_bind, run_underlying hd, Result.andThen_ok, eqTy.aggOf, hd]
    cases d <;> rfl
  unfold part
  simp only [Sem.run_bind, hag, Result.andThen_ok]
  cases hb : eqTy.aggOf P f with
  | true =>
    simp [sizeOf, typeInfo, hi, mkVal, hb, List.extract_eq_take_drop]
  | false =>
    have h1 : i.size = 1 := by rcases hs with h | h <;> simp_all
    have hlt : off < us.length := by omega
    simp [mkVal, hb, h1, List.getElem?_eq_getElem hlt, List.take_one, List.head?_drop]
theorem eqTy_ok : ∀ (d : Nat) (T : TypeId) (us vs : List Value) (b : Bool), eqTy P d T us vs = some b → (Op.equalIn d T (mkVal P T us) (mkVal P T vs)).run P w = .ok b w := by
  intro d
  induction d with
  | zero => intro T us vs b h; simp [eqTy] at h
  | succ d ih =>
    intro T us vs b h
    unfold eqTy at h
    split at h
    · rename_i hu
      have hag : eqTy.aggOf P T = false := by simp [eqTy.aggOf, hu]
      split at h <;> simp only [Option.some.injEq, reduceCtorEq] at h
      subst h
      simp [mkVal, hag, Op.equalIn, run_underlying hu]
    · rename_i k hu
      have hag : eqTy.aggOf P T = false := by simp [eqTy.aggOf, hu]
      split at h
      · rename_i k1 x k2 y
        cases hk : k1 == k2 with
        | false => simp [hk] at h
        | true =>
          have : k1 = k2 := by simpa using hk
          subst this
          simp only [hk, cond_true, Option.some.injEq] at h
          subst h
          simp [mkVal, hag, Op.equalIn, run_underlying hu]
      · simp at h
    · rename_i hu
      have hag : eqTy.aggOf P T = false := by simp [eqTy.aggOf, hu]
      split at h <;> simp only [Option.some.injEq, reduceCtorEq] at h
      subst h
      simp [mkVal, hag, Op.equalIn, run_underlying hu]
    · rename_i fs hu
      have hag : eqTy.aggOf P T = true := by simp [eqTy.aggOf, hu]
      cases hst : P.stoodInHeld T with
      | true => simp [hst] at h
      | false =>
        simp only [hst, Bool.false_eq_true, if_false] at h
        have hf : P.fieldsOf T = fs := by simp [Program.fieldsOf, hu]
        simp only [mkVal, hag, if_true]
        rw [run_equalIn_struct w d T us.toArray vs.toArray (by rw [hf]; exact hu) hst, hf]
        clear hu hf
        generalize fs.toList = l at h
        induction l generalizing b with
        | nil => simp only [List.foldr_nil, Option.some.injEq] at h; subst h; simp [Op.eqFields]
        | cons f l ihl =>
          simp only [List.foldr_cons] at h
          split at h
          · rename_i i hi
            split at h
            · rename_i hc
              simp only [Bool.and_eq_true, bne_iff_ne, ne_eq, decide_eq_true_eq, Bool.or_eq_true, beq_iff_eq] at hc
              obtain ⟨⟨⟨hn, h1⟩, h2⟩, h3⟩ := hc
              split at h
              · rename_i x y hx hy
                simp only [Option.some.injEq] at h
                subst h
                have hud : ∃ dd, P.underlying f.type = some dd := by
                  cases hq : P.underlying f.type with
                  | none =>
                    cases d with
                    | zero => simp [eqTy] at hx
                    | succ d => unfold eqTy at hx; simp [hq] at hx
                  | some dd => exact ⟨dd, rfl⟩
                obtain ⟨dd, hud⟩ := hud
                simp only [Op.eqFields, hn, ne_eq, not_false_eq_true, if_true, Sem.run_bind, run_part f.type i us f.offset dd hud hi h1 h3, run_part f.type i vs f.offset dd hud hi h2 h3, Result.andThen_ok, ih _ _ _ _ hx]
                cases x
                · simp
                · simpa using ihl y hy
              · simp at h
            · simp at h
          · simp at h
    · simp at h
def cellVals : List Cell → Option (List Value)
  | [] => some []
  | c :: cs => match c.val?, cellVals cs with
    | some v, some vs => some (v :: vs)
    | _, _ => none
theorem cellVals_ok {cs : List Cell} {us : List Value} {vs : Array Value} (h : CellsR w G cs vs) (hc : cellVals cs = some us) : vs = us.toArray ∧ ∀ u ∈ us, plain u = true := by
  have key : ∀ (cs : List Cell) (us : List Value), cellVals cs = some us → us.length = cs.length ∧ ∀ (j : Nat) (c : Cell), cs[j]? = some c → ∃ u, us[j]? = some u ∧ c.val? = some u := by
    intro cs
    induction cs with
    | nil => intro us h; simp only [cellVals, Option.some.injEq] at h; subst h; simp
    | cons c cs ih =>
      intro us h
      simp only [cellVals] at h
      split at h
      · rename_i v vs hv hvs
        simp only [Option.some.injEq] at h
        subst h
        obtain ⟨h1, h2⟩ := ih vs hvs
        refine ⟨by simp [h1], fun j c' hj => ?_⟩
        cases j with
        | zero => simp only [List.getElem?_cons_zero, Option.some.injEq] at hj; subst hj; exact ⟨v, rfl, hv⟩
        | succ j => simpa using h2 j c' (by simpa using hj)
      · simp at h
  obtain ⟨h1, h2⟩ := key cs us hc
  have hget : ∀ j, j < cs.length → ∃ u, vs[j]? = some u ∧ us[j]? = some u ∧ plain u = true := by
    intro j hj
    obtain ⟨v, hv, hr⟩ := h.2 j _ (List.getElem?_eq_getElem hj)
    obtain ⟨u, hu, hcu⟩ := h2 j _ (List.getElem?_eq_getElem hj)
    obtain ⟨rfl, hp⟩ := Cell.val_ok hr hcu
    exact ⟨v, hv, hu, hp⟩
  constructor
  · apply Array.ext_getElem?
    intro j
    by_cases hj : j < cs.length
    · obtain ⟨u, hu, hu', _⟩ := hget j hj
      simp [hu, hu']
    · have : us.length ≤ j := by omega
      simp [Array.getElem?_eq_none (show vs.size ≤ j by rw [h.1]; omega), List.getElem?_eq_none this]
  · intro u hu
    obtain ⟨j, hj⟩ := List.getElem?_of_mem hu
    have hlt : j < cs.length := by
      have := (List.getElem?_eq_some_iff.1 hj).1
      omega
    obtain ⟨u', _, hu', hp⟩ := hget j hlt
    rw [hj] at hu'
    injection hu' with e
    exact e ▸ hp
def opBin (P : Program) (o : Oper) (op : BinOp) (T : TypeId) (x y : Operand) (σ : St) (K : St → Out) : Out :=
  match (σ.eval x).scal, (σ.eval y).scal with
  | some u, some v => opBinS P o op T x y u v σ K
  | _, _ => match op, σ.eval x, σ.eval y with
    | .eql, .v true cs, .v true ds => match cellVals cs, cellVals ds with
      | some us, some vs => if P.eqGuardType P.depth T || !eqTy.aggOf P T then .bad else match eqTy P Op.maxDepth T us vs with
        | some b => ret σ o (.v false [.sc (.bool b)]) K
        | none => .bad
      | _, _ => .bad
    | .neq, .v true cs, .v true ds => match cellVals cs, cellVals ds with
      | some us, some vs => if P.eqGuardType P.depth T || !eqTy.aggOf P T then .bad else match eqTy P Op.maxDepth T us vs with
        | some b => ret σ o (.v false [.sc (.bool !b)]) K
        | none => .bad
      | _, _ => .bad
    | _, _, _ => .bad
theorem opBin_ok {op : BinOp} {T Ty : TypeId} {x y : Operand} (h : RG F G σ a w) (ho : o.op = .binOp op T x y Ty) (hh : (opBin P o op T x y σ K).holds Q) : o.wp P a w (ContE F G a w o.dst K Q) Qx := by
  unfold opBin at hh
  have hx := eval_ok h x
  have hy := eval_ok h y
  split at hh
  · rename_i u v hu hv
    exact opBinS_ok h ho (scal_ok hx hu).1 (scal_ok hy hv).1 hh
  · split at hh
    · rename_i cs ds hxe hye
      rw [hxe] at hx
      rw [hye] at hy
      obtain ⟨xs, hxs, hcx⟩ := hx
      obtain ⟨ys, hys, hcy⟩ := hy
      split at hh
      · rename_i us vs hus hvs
        obtain ⟨rfl, _⟩ := cellVals_ok hcx hus
        obtain ⟨rfl, _⟩ := cellVals_ok hcy hvs
        split at hh
        · exact hh.elim
        · rename_i hg
          simp only [Bool.or_eq_true, Bool.not_eq_true', not_or, Bool.not_eq_true, Bool.not_eq_false] at hg
          split at hh
          · rename_i b hb
            refine ret_val h hh ⟨_, rfl, rfl, rfl⟩ ?_
            have := eqTy_ok (P := P) (w := w) _ _ _ _ _ hb
            simp only [mkVal, hg.2, if_true, Op.maxDepth] at this
            simp only [execOp, ho, hxs, hys, Sem.run_bind, run_eqGuard_agg w .eql T x y _ _ hg.1, run_eql_struct, this, Result.andThen_ok]
            rfl
          · exact hh.elim
      · exact hh.elim
    · rename_i cs ds hxe hye
      rw [hxe] at hx
      rw [hye] at hy
      obtain ⟨xs, hxs, hcx⟩ := hx
      obtain ⟨ys, hys, hcy⟩ := hy
      split at hh
      · rename_i us vs hus hvs
        obtain ⟨rfl, _⟩ := cellVals_ok hcx hus
        obtain ⟨rfl, _⟩ := cellVals_ok hcy hvs
        split at hh
        · exact hh.elim
        · rename_i hg
          simp only [Bool.or_eq_true, Bool.not_eq_true', not_or, Bool.not_eq_true, Bool.not_eq_false] at hg
          split at hh
          · rename_i b hb
            refine ret_val h hh ⟨_, rfl, rfl, rfl⟩ ?_
            have := eqTy_ok (P := P) (w := w) _ _ _ _ _ hb
            simp only [mkVal, hg.2, if_true, Op.maxDepth] at this
            simp only [execOp, ho, hxs, hys, Sem.run_bind, run_eqGuard_agg w .neq T x y _ _ hg.1, run_neq_struct, this, Result.andThen_ok]
            rfl
          · exact hh.elim
      · exact hh.elim
    · exact hh.elim
end
end Go.D
