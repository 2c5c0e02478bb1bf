/-
  Small laws of numbers and lists.
-/
import Derived.Test.YtcgigcmleodjbaaVEg
namespace Go.D
set_option linter.unusedVariables false
theorem wrapId {n : Int} (h : -9223372036854775808 ≤ n ∧ n ≤ 9223372036854775807) : IntKind.i64.wrap n = n := by
  rw [IntKind.wrap_i64]
  omega
theorem wrapId' {n : Int} (h1 : -9223372036854775808 ≤ n) (h2 : n ≤ 9223372036854775807) : IntKind.i64.wrap n = n := wrapId ⟨h1, h2⟩
def maxL : Nat := 1000000000
theorem baEq (a b : ByteArray) : (a.toList == b.toList) = decide (a = b) := by
  have h : a.toList = b.toList ↔ a = b := by
    constructor
    · intro h
      rw [ByteArray.toList_eq, ByteArray.toList_eq] at h
      cases a; cases b
      simp only [ByteArray.mk.injEq]
      exact Array.ext' h
    · rintro rfl; rfl
  by_cases hab : a = b
  · simp [hab]
  · have : ¬ a.toList = b.toList := fun e => hab (h.1 e)
    simp [hab, this]
theorem toNatN (n : Nat) : ((n : Int)).toNat = n := rfl
theorem toNat1 {i : Int} (h : 0 ≤ i) : (i + 1).toNat = i.toNat + 1 := by omega
theorem getD_lt {α : Type} [Inhabited α] {l : List α} {i : Nat} (h : i < l.length) : l.getD i default = l[i] := by simp [h]
theorem take_succ {α : Type} [Inhabited α] {l : List α} {i : Nat} (h : i < l.length) : l.take (i + 1) = l.take i ++ [l.getD i default] := by
  rw [getD_lt h, List.take_succ_eq_append_getElem h]
theorem good_mem {t : Ty} {l : List (El t)} (h : Sh.good (.sl t) l) {x : El t} (hx : x ∈ l) : Sh.good (.el t) x := by
  intro c hc
  have h1 := h (.l t l) (by simp [Sh.fc])
  have h2 := h1.2 x hx c hc
  have hr := cells_rank_mem hc
  have := rank_le t
  exact goodC_up 7 c (by omega) h2
theorem good_getD {t : Ty} {l : List (El t)} (h : Sh.good (.sl t) l) {i : Nat} (hi : i < l.length) : Sh.good (.el t) (l.getD i default) := good_mem h (by rw [getD_lt hi]; exact List.getElem_mem hi)
theorem good_len {t : Ty} {l : List (El t)} (h : Sh.good (.sl t) l) : l.length ≤ maxLen := (h (.l t l) (by simp [Sh.fc])).1
/-! sizes -/
def lessen (left : Int) (n : Nat) : Int := if (n : Int) ≤ left then left - n else -1
def szL {α : Type} (f : α → Nat) (l : List α) : Nat := l.length + (l.map f).sum
theorem sum_take {α : Type} [Inhabited α] (f : α → Nat) {l : List α} {i : Nat} (h : i < l.length) : ((l.take (i + 1)).map f).sum = ((l.take i).map f).sum + f (l.getD i default) := by
  rw [take_succ h]; simp
theorem sum_take_le {α : Type} (f : α → Nat) (l : List α) (i : Nat) : ((l.take i).map f).sum ≤ (l.map f).sum := by
  have : (l.map f).sum = ((l.take i).map f).sum + ((l.drop i).map f).sum := by rw [← List.sum_append_nat, ← List.map_append, List.take_append_drop]
  omega
theorem lessen_lt {left : Int} {n : Nat} (h0 : 0 ≤ left) : lessen left n < 0 ↔ left < n := by unfold lessen; split <;> omega
theorem lessen_ge {left : Int} {n : Nat} (h : (n : Int) ≤ left) : lessen left n = left - n := if_pos h
theorem lessenNeg {left : Int} {n : Nat} (h : left < n) : lessen left n = -1 := if_neg (by omega)
theorem szL_len {α : Type} (f : α → Nat) (l : List α) : l.length ≤ szL f l := Nat.le_add_right _ _
/-! marks -/
def digs : Nat → Nat → ByteArray → ByteArray
  | 0, _, out => out
  | f + 1, k, out => if k = 0 then out else digs f (k / 10) (⟨#[UInt8.ofNat (48 + k % 10)]⟩ ++ out)
def mtext (k : Int) : ByteArray := if k ≤ 0 then ⟨#[109, 48]⟩ else ⟨#[109]⟩ ++ digs 64 k.toNat ⟨#[]⟩
def markL {α : Type} (f : α → Int → α × Int) : List α → Int → List α × Int
  | [], k => ([], k)
  | x :: xs, k => ((f x k).1 :: (markL f xs (f x k).2).1, (markL f xs (f x k).2).2)
def Mono {α : Type} (f : α → Int → α × Int) : Prop := ∀ x k, k ≤ (f x k).2
section
variable {α : Type} {f : α → Int → α × Int}
theorem markL_append : ∀ (xs ys : List α) (k : Int), markL f (xs ++ ys) k = ((markL f xs k).1 ++ (markL f ys (markL f xs k).2).1, (markL f ys (markL f xs k).2).2) := by
  intro xs
  induction xs with
  | nil => intro ys k; simp [markL]
  | cons x xs ih => intro ys k; simp [markL, ih]
theorem markL_len : ∀ (xs : List α) (k : Int), (markL f xs k).1.length = xs.length := by
  intro xs
  induction xs with
  | nil => intro k; rfl
  | cons x xs ih => intro k; simp [markL, ih]
theorem markL_mono (h : Mono f) : ∀ (xs : List α) (k : Int), k ≤ (markL f xs k).2 := by
  intro xs
  induction xs with
  | nil => intro k; exact Int.le_refl _
  | cons x xs ih => intro k; have h1 := h x k; have h2 := ih (f x k).2; simp only [markL]; omega
theorem markL_cnt (h : ∀ x k, k + 1 ≤ (f x k).2) : ∀ (xs : List α) (k : Int), k + xs.length ≤ (markL f xs k).2 := by
  intro xs
  induction xs with
  | nil => intro k; simp [markL]
  | cons x xs ih => intro k; have h1 := h x k; have h2 := ih (f x k).2; simp only [markL, List.length_cons]; omega
theorem markL_take [Inhabited α] {l : List α} {i : Nat} (h : i < l.length) (k : Int) : markL f (l.take (i + 1)) k = ((markL f (l.take i) k).1 ++ [(f (l.getD i default) (markL f (l.take i) k).2).1], (f (l.getD i default) (markL f (l.take i) k).2).2) := by
  rw [take_succ h, markL_append]; rfl
theorem markL_take_le (h : Mono f) (l : List α) (i : Nat) (k : Int) : k ≤ (markL f (l.take i) k).2 ∧ (markL f (l.take i) k).2 ≤ (markL f l k).2 := by
  refine ⟨markL_mono h _ _, ?_⟩
  have e : markL f l k = markL f (l.take i ++ l.drop i) k := by rw [List.take_append_drop]
  rw [e, markL_append]
  exact markL_mono h _ _
theorem drop_cons [Inhabited α] {l : List α} {i : Nat} (h : i < l.length) : l.drop i = l.getD i default :: l.drop (i + 1) := by
  rw [getD_lt h]; exact List.drop_eq_getElem_cons h
theorem drop_end {α : Type} {l : List α} {i : Nat} (h : l.length ≤ i) : l.drop i = [] := List.drop_of_length_le h
/-- marking what is marked: it stays -/
theorem markL_held [Inhabited α] {l : List α} {k : Int} (h : (markL f l k).1 = l) {i : Nat} (hi : i < l.length) : (f (l.getD i default) (markL f (l.take i) k).2).1 = l.getD i default := by
  have e : (markL f l k).1 = (markL f (l.take (i + 1)) k).1 ++ (markL f (l.drop (i + 1)) (markL f (l.take (i + 1)) k).2).1 := by
    have : markL f l k = markL f (l.take (i + 1) ++ l.drop (i + 1)) k := by rw [List.take_append_drop]
    rw [this, markL_append]
  rw [e, markL_take hi] at h
  have h2 := congrArg (·[i]?) h
  have hl : (markL f (l.take i) k).1.length = i := by rw [markL_len, List.length_take]; omega
  simp only [List.append_assoc] at h2
  rw [List.getElem?_append_right (by omega), hl, Nat.sub_self] at h2
  simp only [List.cons_append, List.nil_append, List.getElem?_cons_zero] at h2
  rw [getD_lt hi]
  rw [List.getElem?_eq_getElem hi, getD_lt hi] at h2
  injection h2
theorem mod_at {A r : List α} {x : α} {g : α → α} {i : Nat} (h : A.length = i) : (A ++ x :: r).modify i g = A ++ g x :: r := by
  subst h
  induction A with
  | nil => rfl
  | cons a A ih => simp [List.modify_succ_cons, ih]
theorem getD_at [Inhabited α] {A r : List α} {x : α} {i : Nat} (h : A.length = i) : (A ++ x :: r).getD i default = x := by
  subst h; simp
end
theorem digByte {k : Int} (h0 : 0 ≤ k) : List.foldl (fun (r : ByteArray) (n : Int) => r.push (UInt8.ofNat n.toNat)) ByteArray.empty [IntKind.u8.wrap (IntKind.i64.wrap ((48 : Int) + k.tmod (10 : Int)))] = ⟨#[UInt8.ofNat (48 + k.toNat % 10)]⟩ := by
  rw [Int.tmod_eq_emod_of_nonneg h0, wrapId (by omega)]
  have hu : IntKind.u8.wrap (48 + k % 10) = 48 + k % 10 := by
    simp [IntKind.wrap, IntKind.bits, IntKind.signed]
    omega
  rw [hu]
  have : (48 + k % 10).toNat = 48 + k.toNat % 10 := by omega
  rw [List.foldl_cons, List.foldl_nil, this]
  rfl
theorem sz1 (b : UInt8) (out : ByteArray) : ((⟨#[b]⟩ : ByteArray) ++ out).size = out.size + 1 := by
  rw [ByteArray.size_append, Nat.add_comm]; rfl
theorem tdiv10 {k : Int} (h0 : 0 ≤ k) : IntKind.i64.wrap (k.tdiv 10) = k / 10 ∨ 9223372036854775807 < k := by
  rw [Int.tdiv_eq_ediv_of_nonneg h0]
  by_cases h : 9223372036854775807 < k
  · exact .inr h
  · exact .inl (wrapId (by omega))
theorem digs_step {f k : Nat} {out : ByteArray} (hk : 0 < k) : digs (f + 1) k out = digs f (k / 10) (⟨#[UInt8.ofNat (48 + k % 10)]⟩ ++ out) := by
  rw [digs, if_neg (by omega)]
theorem digs_end {f : Nat} {out : ByteArray} : digs f 0 out = out := by
  cases f <;> simp [digs]
/-! first place of a list where a test holds -/
def fidx {α : Type} (p : α → Bool) : List α → Int → Int
  | [], _ => -1
  | c :: l, i => if p c then i else fidx p l (i + 1)
theorem fidx_ge {α : Type} (p : α → Bool) : ∀ (l : List α) (i : Int), 0 ≤ i → (0 ≤ fidx p l i ↔ l.any p = true) := by
  intro l
  induction l with
  | nil => intro i _; simp [fidx]
  | cons c l ih =>
    intro i hi
    simp only [fidx, List.any_cons, Bool.or_eq_true]
    split
    · rename_i h; simp [h, hi]
    · rename_i h; rw [ih (i + 1) (by omega)]; simp [h]
theorem fidx_lt {α : Type} (p : α → Bool) : ∀ (l : List α) (i : Int), 0 ≤ i → fidx p l i < i + l.length ∧ -1 ≤ fidx p l i := by
  intro l
  induction l with
  | nil => intro i h; simp [fidx]; omega
  | cons c l ih =>
    intro i hi
    simp only [fidx, List.length_cons]
    have := ih (i + 1) (by omega)
    split <;> omega
theorem markL_idem {α : Type} {f : α → Int → α × Int} (h : ∀ x k, f (f x k).1 k = f x k) : ∀ (xs : List α) (k : Int), markL f (markL f xs k).1 k = markL f xs k := by
  intro xs
  induction xs with
  | nil => intro k; rfl
  | cons x xs ih => intro k; simp only [markL, h, ih]
theorem markL_ub {α : Type} {f : α → Int → α × Int} {N : Int} (h : ∀ x k, (f x k).2 = k + N) : ∀ (xs : List α) (k : Int), (markL f xs k).2 = k + N * xs.length := by
  intro xs
  induction xs with
  | nil => intro k; simp [markL]
  | cons x xs ih => intro k; simp only [markL, ih, h, List.length_cons, Int.natCast_add, Int.mul_add]; omega
theorem lessen_nn {a : Int} {n : Nat} (h : 0 ≤ lessen a n) : (n : Int) ≤ a := by unfold lessen at h; split at h <;> omega
theorem lessen_le1 {a : Int} {n : Nat} (h : a ≤ 1048576) : lessen a n ≤ 1048576 := by unfold lessen; split <;> omega
theorem szL_get {α : Type} [Inhabited α] (f : α → Nat) {l : List α} {i : Nat} (h : i < l.length) : f (l.getD i default) + l.length ≤ szL f l := by
  have h1 := sum_take_le f l (i + 1)
  rw [sum_take f h] at h1
  simp only [szL]; omega
/-! how many; cuts -/
def countIf {α : Type} (p : α → Bool) : List α → Int
  | [] => 0
  | x :: l => (if p x then 1 else 0) + countIf p l
theorem countIf_le {α : Type} (p : α → Bool) (l : List α) : 0 ≤ countIf p l ∧ countIf p l ≤ l.length := by
  induction l with
  | nil => simp [countIf]
  | cons x l ih => simp only [countIf, List.length_cons]; split <;> omega
theorem countIf_app {α : Type} (p : α → Bool) (l m : List α) : countIf p (l ++ m) = countIf p l + countIf p m := by
  induction l with
  | nil => simp [countIf]
  | cons x l ih => simp only [List.cons_append, countIf, ih]; omega
theorem cut_end {α : Type} (l : List α) (n : Nat) : cut l n (l.length - n) = l.drop n := by
  unfold cut; rw [List.take_of_length_le (by simp)]
theorem cut_from0 {α : Type} (l : List α) (n : Nat) : cut l 0 n = l.take n := rfl
/-- each once, in the order in which they come -/
def uniqBy {α β : Type} [DecidableEq β] (f : α → β) : List β → List α → List β
  | out, [] => out
  | out, x :: l => uniqBy f (if out.any (fun c => decide (c = f x)) then out else out ++ [f x]) l
theorem uniqBy_len {α β : Type} [DecidableEq β] (f : α → β) : ∀ (l : List α) (out : List β), (uniqBy f out l).length ≤ out.length + l.length := by
  intro l
  induction l with
  | nil => intro out; simp [uniqBy]
  | cons x l ih =>
    intro out
    simp only [uniqBy, List.length_cons]
    refine Nat.le_trans (ih _) ?_
    split
    · omega
    · simp; omega
theorem goodI {t : Ty} {x : El t} (n : Int) (h : Sh.good (.el t) x) (hm : FC.val (.int .i64 n) ∈ enc t x) : -9223372036854775808 ≤ n ∧ n ≤ 9223372036854775807 := by
  have h1 := h _ hm
  simp only [goodC, Lit.wf, Bool.and_eq_true, decide_eq_true_eq] at h1
  exact h1
theorem and_i {a b : Bool} (h : a = true) (h' : b = true) : (a && b) = true := by rw [h, h']; rfl
theorem markL_ub64 {α : Type} {f : α → Int → α × Int} {g : α → Nat} (h : ∀ x k, (f x k).2 ≤ k + 64 * (g x + 1)) : ∀ (xs : List α) (k : Int), (markL f xs k).2 ≤ k + 64 * szL g xs := by
  intro xs
  induction xs with
  | nil => intro k; simp [markL, szL]
  | cons x xs ih =>
    intro k
    have h1 := h x k
    have h2 := ih (f x k).2
    simp only [markL, szL, List.map_cons, List.sum_cons, List.length_cons] at h2 ⊢
    omega
theorem take_end {α : Type} {l : List α} {i : Nat} (h : l.length ≤ i) : l.take i = l := List.take_of_length_le h
theorem baSz (a : Array UInt8) : (ByteArray.mk a).size = a.size := rfl
end Go.D
