/-
  The evaluator of operations, second part: branches on a bool, pointers, boxes, loads, stores, lengths, closures.
-/
import Derived.Test.YtcgigcmleodjbaaVDe
namespace Go.D
set_option linter.unusedVariables false
section
variable {P : Program} {F : Fr P} {G : Gh} {σ : St} {a : Act} {w : World} {o : Oper} {K : St → Out} {Q : Post} {Qx : Exit → Act → World → Prop}
def opUn (P : Program) (o : Oper) (op : UnOp) (x : Operand) (σ : St) (K : St → Out) : Out :=
  match (σ.eval x).scal with
  | some u => opPure P o (Op.unary op u) σ K
  | none => .bad
theorem opUn_ok {op : UnOp} {T : TypeId} {x : Operand} (h : RG F G σ a w) (ho : o.op = .unOp op T x) (hh : (opUn P o op x σ K).holds Q) : o.wp P a w (ContE F G a w o.dst K Q) Qx := by
  unfold opUn at hh
  split at hh
  · rename_i u hu
    have := (scal_ok (eval_ok h x) hu).1
    exact opPure_ok h hh (by simp [execOp, ho, this])
  · exact hh.elim
def opConv (P : Program) (o : Oper) (S T : TypeId) (x : Operand) (σ : St) (K : St → Out) : Out :=
  match (σ.eval x).scal with
  | some u => opPure P o (convert S T u) σ K
  | none => .bad
theorem opConv_ok {S T : TypeId} {x : Operand} (h : RG F G σ a w) (ho : o.op = .convert S T x) (hh : (opConv P o S T x σ K).holds Q) : o.wp P a w (ContE F G a w o.dst K Q) Qx := by
  unfold opConv at hh
  split at hh
  · rename_i u hu
    have := (scal_ok (eval_ok h x) hu).1
    exact opPure_ok h hh (by simp [execOp, ho, this])
  · exact hh.elim
def brTV (x : TV) (y n : Out) : Out :=
  match x with
  | .v false [.tt] => y
  | .v false [.ff] => n
  | .v false [.sc (.bool b)] => .br b y n
  | _ => .bad
theorem brTV_ok {x : TV} {v : Value} {y n : Out} (hx : TVR w G x v) (hh : (brTV x y n).holds Q) : ∃ b, v = .bool b ∧ (b = true → y.holds Q) ∧ (b = false → n.holds Q) := by
  unfold brTV at hh
  split at hh
  · obtain ⟨c, hc, h⟩ := hx; injection hc with hc; subst hc; exact ⟨true, h, fun _ => hh, by simp⟩
  · obtain ⟨c, hc, h⟩ := hx; injection hc with hc; subst hc; exact ⟨false, h, by simp, fun _ => hh⟩
  · rename_i b
    obtain ⟨c, hc, h⟩ := hx; injection hc with hc; subst hc; exact ⟨b, h.1, hh.1, hh.2⟩
  · exact hh.elim
def opPick (o : Oper) (c x y : Operand) (σ : St) (K : St → Out) : Out := brTV (σ.eval c) (ret σ o (σ.eval x) K) (ret σ o (σ.eval y) K)
theorem opPick_ok {c x y : Operand} (h : RG F G σ a w) (ho : o.op = .pick c x y) (hh : (opPick o c x y σ K).holds Q) : o.wp P a w (ContE F G a w o.dst K Q) Qx := by
  obtain ⟨b, hb, h1, h2⟩ := brTV_ok (eval_ok h c) hh
  cases b with
  | true => exact ret_val h (h1 rfl) (eval_ok h x) (by simp [execOp, ho, hb, asBool])
  | false => exact ret_val h (h2 rfl) (eval_ok h y) (by simp [execOp, ho, hb, asBool])
def opNil (o : Oper) (x : Operand) (σ : St) (K : St → Out) : Out :=
  match σ.eval x with
  | .ptr b off => ret σ o (.ptr b off) K
  | .eptr l k i off => ret σ o (.eptr l k i off) K
  | .sptr s k row off => ret σ o (.sptr s k row off) K
  | .aptr cs off => ret σ o (.aptr cs off) K
  | .clo fn caps => ret σ o (.clo fn caps) K
  | _ => .bad
theorem opNil_ok {x : Operand} (h : RG F G σ a w) (ho : o.op = .nilCheck x) (hh : (opNil o x σ K).holds Q) : o.wp P a w (ContE F G a w o.dst K Q) Qx := by
  have hx := eval_ok h x
  unfold opNil at hh
  split at hh <;> (try exact hh.elim) <;> (rename_i he; rw [he] at hx; refine ret_val h hh hx ?_)
  · simp only [TVR] at hx; simp [execOp, ho, hx]
  · obtain ⟨g, o', n, cap, _, hv⟩ := hx; simp [execOp, ho, hv]
  · obtain ⟨g, o', r, e, fr, hv, _⟩ := hx; simp [execOp, ho, hv]
  · obtain ⟨g, r, e, fr, hv, _⟩ := hx; simp [execOp, ho, hv]
  · obtain ⟨vs, hv, _⟩ := hx; simp [execOp, ho, hv]
def opExtract (o : Oper) (x : Operand) (ix : Nat) (σ : St) (K : St → Out) : Out :=
  match σ.eval x with
  | .tup ps => match ps[ix]? with
    | some p => ret σ o (.v p.1 p.2) K
    | none => .bad
  | _ => .bad
theorem opExtract_ok {x : Operand} {ix : Nat} (h : RG F G σ a w) (ho : o.op = .extract x ix) (hh : (opExtract o x ix σ K).holds Q) : o.wp P a w (ContE F G a w o.dst K Q) Qx := by
  have hx := eval_ok h x
  unfold opExtract at hh
  split at hh
  · rename_i ps he
    rw [he] at hx
    split at hh
    · rename_i p hp
      obtain ⟨vs, hv, hs, hps⟩ := hx
      obtain ⟨u, hu, hr⟩ := hps ix p hp
      exact ret_val h hh hr (by simp [execOp, ho, hv, Instr.extract, hu])
    · exact hh.elim
  · exact hh.elim
def opIndexS (o : Oper) (x i : Operand) (σ : St) (K : St → Out) : Out :=
  match (σ.eval x).scal, (σ.eval i).scal with
  | some (.string s), some (.int _ n) => .ob (0 ≤ n ∧ n < s.size) (ret σ o (.v false [.sc (.int .u8 (s.data.getD n.toNat 0).toNat)]) K)
  | _, _ => .bad
theorem opIndexS_ok {T : TypeId} {x i : Operand} (h : RG F G σ a w) (ho : o.op = .index T x i) (hT : P.underlying T = some .string) (hh : (opIndexS o x i σ K).holds Q) : o.wp P a w (ContE F G a w o.dst K Q) Qx := by
  unfold opIndexS at hh
  split at hh
  · rename_i s k n hs hn
    obtain ⟨⟨h0, h1⟩, hh⟩ := hh
    refine ret_val h hh ⟨_, rfl, rfl, rfl⟩ ?_
    have hlt : n.toNat < s.size := by omega
    have hget : s[n.toNat]? = some (s.data.getD n.toNat 0) := by
      rw [show s[n.toNat]? = some s[n.toNat] from getElem?_pos s n.toNat hlt]
      have h2 : n.toNat < s.data.size := hlt
      unfold Array.getD
      rw [dif_pos h2]
      rfl
    simp [execOp, ho, (scal_ok (eval_ok h x) hs).1, (scal_ok (eval_ok h i) hn).1, Instr.index, asIntOf, run_underlying hT, h0, hget]
  · exact hh.elim
/-! places -/
theorem add_at (g off n : Nat) : (⟨g, off, none⟩ : Addr).add n = ⟨g, off + n, none⟩ := by unfold Addr.add; split <;> simp_all
def TV.shift (n : Nat) : TV → TV
  | .ptr b off => .ptr b (off + n)
  | .eptr l k i off => .eptr l k i (off + n)
  | .sptr s k row off => .sptr s k row (off + n)
  | .aptr cs off => .aptr cs (off + n)
  | _ => .dead
theorem shift_ok {x : TV} {v : Value} (n : Nat) (hx : TVR w G x v) (hd : x.shift n ≠ .dead) : ∃ g off, v = .pointer (some ⟨g, off, none⟩) ∧ TVR w G (x.shift n) (.pointer (some ⟨g, off + n, none⟩)) := by
  cases x <;> simp only [TV.shift, ne_eq, not_true_eq_false] at hd
  case ptr b off => exact ⟨_, _, hx, rfl⟩
  case eptr l k i off =>
    obtain ⟨g, o', m, cap, h1, h2⟩ := hx
    exact ⟨_, _, h2, g, o', m, cap, h1, by simp [Nat.add_assoc]⟩
  case sptr s k row off =>
    obtain ⟨g, o', r, e, fr, h1, h2⟩ := hx
    exact ⟨_, _, h1, g, o', r, e, fr, by simp [Nat.add_assoc], h2⟩
  case aptr cs off =>
    obtain ⟨g, r, e, fr, h1, h2⟩ := hx
    exact ⟨_, _, h1, g, r, e, fr, rfl, h2⟩
def opFieldAddr (P : Program) (o : Oper) (T : TypeId) (x : Operand) (j : Nat) (σ : St) (K : St → Out) : Out :=
  match P.underlying T with
  | some (.struct fs) => match fs[j]? with
    | some f => match P.info? f.type with
      | some i => if i.size = 0 then .bad else match (σ.eval x).shift f.offset with
        | .dead => .bad
        | y => ret σ o y K
      | none => .bad
    | none => .bad
  | _ => .bad
theorem opFieldAddr_ok {T : TypeId} {x : Operand} {j : Nat} (h : RG F G σ a w) (ho : o.op = .fieldAddr T x j) (hh : (opFieldAddr P o T x j σ K).holds Q) : o.wp P a w (ContE F G a w o.dst K Q) Qx := by
  unfold opFieldAddr at hh
  split at hh
  · rename_i fs hu
    split at hh
    · rename_i f hf
      split at hh
      · rename_i i hi
        split at hh
        · exact hh.elim
        · rename_i hne
          have hx := eval_ok h x
          generalize hy : (σ.eval x).shift f.offset = y at hh
          have hd : (σ.eval x).shift f.offset ≠ .dead := by
            rw [hy]
            intro e
            subst e
            exact hh.elim
          obtain ⟨g, off, hv, hr⟩ := shift_ok f.offset hx hd
          rw [hy] at hr
          have hh' : (ret σ o y K).holds Q := by
            split at hh
            · exact hh.elim
            · exact hh
          refine ret_val h hh' hr ?_
          simp [execOp, ho, hv, Instr.fieldAt, Instr.sureAddr, run_underlying hu, hf, fieldPlace, sizeOf, typeInfo, hi, hne, add_at]
      · exact hh.elim
    · exact hh.elim
  · exact hh.elim
def opIndexAddr (P : Program) (o : Oper) (T : TypeId) (x i : Operand) (σ : St) (K : St → Out) : Out :=
  match P.underlying T with
  | some (.slice e) => match P.info? e, (σ.eval i).scal, σ.eval x with
    | some ie, some (.int _ n), .v false [.ref l] => match look σ.hp l with
      | some t => if t.k = ie.size then .ob (0 ≤ n ∧ n < t.n) (ret σ o (.eptr l t.k n.toNat 0) K) else .bad
      | none => .bad
    | some ie, some (.int _ n), .v false [.sub l k lo m] => if k = ie.size then .ob (0 ≤ n ∧ n < m) (ret σ o (.eptr l k (lo + n.toNat) 0) K) else .bad
    | some ie, some (.int _ n), .v false [.im s t xs] => if t.width = ie.size then .ob (0 ≤ n ∧ n < xs.length) (ret σ o (.sptr s t (xs.getD n.toNat default) 0) K) else .bad
    | _, _, _ => .bad
  | some (.array len e) => match P.info? e, (σ.eval i).scal, σ.eval x with
    | some ie, some (.int _ n), .ptr b off => .ob (0 ≤ n ∧ n < len) (ret σ o (.ptr b (off + n.toNat * ie.size)) K)
    | _, _, _ => .bad
  | _ => .bad
theorem opIndexAddr_ok {T : TypeId} {x i : Operand} (h : RG F G σ a w) (ho : o.op = .indexAddr T x i) (hh : (opIndexAddr P o T x i σ K).holds Q) : o.wp P a w (ContE F G a w o.dst K Q) Qx := by
  unfold opIndexAddr at hh
  have hx := eval_ok h x
  split at hh
  · rename_i e hu
    split at hh
    · rename_i ie kk n l hie hn hxe
      rw [hxe] at hx
      obtain ⟨c, hc, hcr⟩ := hx
      injection hc with hc
      subst hc
      split at hh
      · rename_i t hl
        split at hh
        · rename_i hk
          obtain ⟨⟨h0, h1⟩, hh⟩ := hh
          rcases h.hp l t hl with ⟨_, hz⟩ | ⟨g, off, cap, row, e', GG, hv, _⟩
          · omega
          · have hav : a.eval x = .slice (some ⟨g, off, none⟩) t.n cap := hcr.1.trans hv
            refine ret_val h hh ⟨g, off, t.n, cap, hv, rfl⟩ ?_
            simp [execOp, ho, hav, (scal_ok (eval_ok h i) hn).1, Instr.indexAt, asIntOf, run_underlying hu, h0, h1, sizeOf, typeInfo, hie, add_at, hk]
        · exact hh.elim
      · exact hh.elim
    · rename_i ie kk n l k lo m hie hn hxe
      rw [hxe] at hx
      obtain ⟨c, hc, hcr⟩ := hx
      injection hc with hc
      subst hc
      split at hh
      · rename_i hk
        obtain ⟨⟨h0, h1⟩, hh⟩ := hh
        rcases hcr with ⟨_, _, hz, _⟩ | ⟨g, off, mm, cap, off', hv, hle, hav, hof⟩
        · omega
        · have hof' : off' = off + lo * k := by
            rcases hof with e | ⟨e, _⟩
            · exact e
            · omega
          subst hof'
          refine ret_val h hh ⟨g, off, mm, cap, hv, rfl⟩ ?_
          simp [execOp, ho, hav, (scal_ok (eval_ok h i) hn).1, Instr.indexAt, asIntOf, run_underlying hu, h0, h1, sizeOf, typeInfo, hie, add_at, hk, Nat.add_mul, Nat.add_assoc]
      · exact hh.elim
    · rename_i ie kk n s t xs hie hn hxe
      rw [hxe] at hx
      obtain ⟨c, hc, hcr⟩ := hx
      injection hc with hc
      subst hc
      simp only [CellR, fcC_l] at hcr
      split at hh
      · rename_i hk
        obtain ⟨⟨h0, h1⟩, hh⟩ := hh
        obtain ⟨ad, cap, hav, _, hz | ⟨g, off, row, e', fr, rfl, hS, hg, hrow⟩⟩ := hcr
        · omega
        · refine ret_val h hh ⟨g, off + n.toNat * t.width, row, e', fr, rfl, hS, hg, fun j hj => ?_⟩ ?_
          · obtain ⟨u, hu', ht⟩ := hrow n.toNat (by omega) j hj
            exact ⟨u, hu', ht⟩
          · simp [execOp, ho, hav, (scal_ok (eval_ok h i) hn).1, Instr.indexAt, asIntOf, run_underlying hu, h0, h1, sizeOf, typeInfo, hie, add_at, hk]
      · exact hh.elim
    · exact hh.elim
  · rename_i len e hu
    split at hh
    · rename_i ie kk n b off hie hn hxe
      rw [hxe] at hx
      simp only [TVR] at hx
      obtain ⟨⟨h0, h1⟩, hh⟩ := hh
      refine ret_val h hh rfl ?_
      simp [execOp, ho, hx, (scal_ok (eval_ok h i) hn).1, Instr.indexAt, Instr.sureAddr, asIntOf, run_underlying hu, h0, h1, sizeOf, typeInfo, hie, add_at]
    · exact hh.elim
  · exact hh.elim
def opLen (P : Program) (o : Oper) (T : TypeId) (x : Operand) (σ : St) (K : St → Out) : Out :=
  match P.underlying T, σ.eval x with
  | some (.slice _), .v false [.ref l] => match look σ.hp l with
    | some t => ret σ o (.v false [.sc (.int .i64 t.n)]) K
    | none => .bad
  | some (.slice _), .v false [.sub _ _ _ n] => ret σ o (.v false [.sc (.int .i64 n)]) K
  | some (.slice _), .v false [.im _ _ xs] => ret σ o (.v false [.sc (.int .i64 xs.length)]) K
  | some (.slice _), .v false [.nil] => ret σ o (.v false [.sc (.int .i64 0)]) K
  | some .string, .v false [.sc (.string s)] => ret σ o (.v false [.sc (.int .i64 s.size)]) K
  | _, _ => .bad
theorem opLen_ok {T : TypeId} {x : Operand} (h : RG F G σ a w) (ho : o.op = .call { callee := .builtin .len, args := #[x], argTypes := #[T] }) (hh : (opLen P o T x σ K).holds Q) : o.wp P a w (ContE F G a w o.dst K Q) Qx := by
  unfold opLen at hh
  have hx := eval_ok h x
  have run : ∀ (d : TypeDesc) (v : Value) (n : Nat), P.underlying T = some d → a.eval x = v → (∀ w : World, (Builtin.len_ #[T] o.type #[v]).run P w = .ok (.int .i64 n) w) → (execOp a.eval o).run P w = .ok (.value (.int .i64 n)) w := by
    intro d v n hu hv hr
    simp [execOp, ho, resolve, invoke, builtin, hv, hr w]
  split at hh
  · rename_i e l hu hxe
    rw [hxe] at hx
    obtain ⟨c, hc, hcr⟩ := hx
    injection hc with hc
    subst hc
    split at hh
    · rename_i t hl
      refine ret_val h hh ⟨_, rfl, rfl, rfl⟩ ?_
      rcases h.hp l t hl with ⟨⟨ad, hv⟩, hz⟩ | ⟨g, off, cap, row, e', GG, hv, _⟩
      · exact run _ _ _ hu (hcr.1.trans hv) (fun w => by simp [Builtin.len_, run_underlying hu, goInt, hz])
      · exact run _ _ _ hu (hcr.1.trans hv) (fun w => by simp [Builtin.len_, run_underlying hu, goInt])
    · exact hh.elim
  · rename_i e l k lo n hu hxe
    rw [hxe] at hx
    obtain ⟨c, hc, hcr⟩ := hx
    injection hc with hc
    subst hc
    refine ret_val h hh ⟨_, rfl, rfl, rfl⟩ ?_
    rcases hcr with ⟨ad, _, _, hz, hv⟩ | ⟨g, off, mm, cap, off', _, _, hv, _⟩
    · exact run _ _ _ hu hv (fun w => by simp [Builtin.len_, run_underlying hu, goInt, hz])
    · exact run _ _ _ hu hv (fun w => by simp [Builtin.len_, run_underlying hu, goInt])
  · rename_i e s t xs hu hxe
    rw [hxe] at hx
    obtain ⟨c, hc, hcr⟩ := hx
    injection hc with hc
    subst hc
    refine ret_val h hh ⟨_, rfl, rfl, rfl⟩ ?_
    simp only [CellR, fcC_l] at hcr
    obtain ⟨ad, cap, hav, _⟩ := hcr
    exact run _ _ _ hu hav (fun w => by simp [Builtin.len_, run_underlying hu, goInt])
  · rename_i e hu hxe
    rw [hxe] at hx
    obtain ⟨c, hc, hcr⟩ := hx
    injection hc with hc
    subst hc
    refine ret_val h hh ⟨_, rfl, rfl, rfl⟩ ?_
    exact run _ _ 0 hu hcr (fun w => by simp [Builtin.len_, run_underlying hu, goInt])
  · rename_i s hu hxe
    rw [hxe] at hx
    obtain ⟨c, hc, hcr⟩ := hx
    injection hc with hc
    subst hc
    refine ret_val h hh ⟨_, rfl, rfl, rfl⟩ ?_
    exact run _ _ _ hu hcr.1 (fun w => by simp [Builtin.len_, run_underlying hu, goInt])
  · exact hh.elim
end
end Go.D
