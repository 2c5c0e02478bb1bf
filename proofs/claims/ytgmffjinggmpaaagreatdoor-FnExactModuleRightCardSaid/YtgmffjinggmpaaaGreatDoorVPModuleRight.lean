/-
  The program's ModuleRight returns what the reference's returns, for all arguments: the law returns true. No condition.
-/
import Derived.Test.YtgmffjinggmpaaaGreatDoorVPModuleRight1
import Derived.Test.YtgmffjinggmpaaaGreatDoorVLe
import Derived.Test.YtgmffjinggmpaaaGreatDoorRows
import Derived.Test.YtgmffjinggmpaaaGreatDoorCards
import Derived.Test.YtgmffjinggmpaaaGreatDoorTie
import Derived.LaidMore
import Derived.Lay
import Derived.SevenTiedAt
import Derived.WalkKit
import Derived.ProofKit
import Derived.OpenShut
namespace Go.Proofs.YtgmffjinggmpaaaGreatDoor.fnExactModuleRight
open Go.Proofs.YtgmffjinggmpaaaGreatDoor
open Go.D
set_option maxRecDepth 100000
set_option linter.unusedVariables false
set_option linter.unusedSimpArgs false
theorem k189_135 : fFindEntry.ok Tryz.prog 189 := Fct.of (S := fFindEntry) (L := fun _ _ => none) (kp := [3,4,5,6]) E135ok Tryz.func189 (by kernel_rfl) (by kernel_rfl) (by
  rintro ⟨(c : SCache), (t : ByteArray), (a : SAddr), _⟩ hp
  refine holds_of (X := .cl fIndexFunc_entry_impl_entryAt_1 (c.entries, (t, a, ()), ()) fun z2 =>
 .leaf (mkR fFindEntry.rs (z2.1, ())) [] []) (by kernel_rfl) ?_
  refine cl_i ?_ fun o1 => (Fct.leafY ?_)
  all_goals try simp only [std1, ne_eq] at *
  all_goals try simp only [fFindEntry, fIndexFunc_entry_impl_entryAt_1, etaS, std1, std2, Nat.reduceAdd, ne_eq, fEntryAt1] at *
  all_goals try simp (disch := omega) only [wrapId', toNat1] at *
  all_goals try simp (disch := omega) only [if_pos, if_neg]
  all_goals first | trivial | omega | grind [wrapId', toNat1, drop_cons, drop_end, good_len, maxLen, fEntryAt1])
def E136 : D.Env := E135.add 189 fFindEntry
theorem E136ok : EOk Tryz.prog E136 := E135ok.add k189_135
def freshEntry (t : ByteArray) (a : SAddr) (now : Int) (e : SEntry) : Bool := decide (e.top = t) && (decide (e.to = a) && decide (now ≤ e.until_))
def lookUp (c : SCache) (t : ByteArray) (a : SAddr) (now : Int) : Option SResponse := (c.entries.find? (freshEntry t a now)).map (·.response)
def fLookUp : Fct := ⟨[.v (.el .cache), .v (.el .str), .v (.el .addr), .v (.el .int)], [.el .response, .el .bool], fun (x_ : SCache × ByteArray × SAddr × Int × Unit) => x_.1.entries.length ≤ 1000000000000, fun (x_ : SCache × ByteArray × SAddr × Int × Unit) => ((lookUp x_.1 x_.2.1 x_.2.2.1 x_.2.2.2.1).getD notFound, (lookUp x_.1 x_.2.1 x_.2.2.1 x_.2.2.2.1).isSome, ())⟩
theorem find_fidx {α : Type} [Inhabited α] (p : α → Bool) : ∀ (l : List α) (i : Int), 0 ≤ i → l.find? p = if 0 ≤ fidx p l i then some (l.getD (fidx p l i - i).toNat default) else none := by
  intro l
  induction l with
  | nil => intro i _; simp [fidx]
  | cons x l ih =>
    intro i hi
    simp only [List.find?_cons, fidx]
    by_cases hx : p x = true
    · simp [hx, hi]
    ·
      have hx : p x = false := by simpa using hx
      have h1 := fidx_lt p l (i + 1) (by omega)
      have h2 := ih (i + 1) (by omega)
      simp only [hx, Bool.false_eq_true, if_false, h2]
      split
      · rename_i h3
        have h4 : i + 1 ≤ fidx p l (i + 1) := by
          have : ∀ (l : List α) (i : Int), 0 ≤ i → 0 ≤ fidx p l i → i ≤ fidx p l i := by
            intro l
            induction l with
            | nil => intro i _ h; simp [fidx] at h
            | cons y l ih =>
              intro i hi h
              simp only [fidx] at h ⊢
              split
              · omega
              · rename_i hy
                rw [if_neg hy] at h
                have := ih (i + 1) (by omega) h
                omega
          exact this l (i + 1) (by omega) h3
        have h5 : (fidx p l (i + 1) - i).toNat = (fidx p l (i + 1) - (i + 1)).toNat + 1 := by omega
        rw [h5]; rfl
      · rfl
abbrev W_spec_LookUp_fLookUp_2 (c : SCache) (t : ByteArray) (a : SAddr) (now : Int) : LInv := ⟨[⟨.s, 10, true, .el .int⟩, ⟨.b, 4, false, .el .cache⟩, ⟨.b, 6, true, .el .addr⟩, ⟨.b, 8, true, .el .response⟩], fun (z_ : Int × SCache × SAddr × SResponse × Unit) (x_ : Int × SCache × SAddr × SResponse × Unit) => (((0 ≤ x_.1 ∧ x_.1 ≤ c.entries.length ∧ (c.entries.drop x_.1.toNat).find? (freshEntry t a now) = c.entries.find? (freshEntry t a now)) ∧ x_.2.1 = z_.2.1) ∧ x_.2.2.1 = z_.2.2.1) ∧ x_.2.2.2.1 = z_.2.2.2.1, fun (x_ : Int × SCache × SAddr × SResponse × Unit) => c.entries.length - x_.1.toNat⟩
theorem k131_136 : fLookUp.ok Tryz.prog 131 := Fct.of (S := fLookUp) (L := fun ⟨c, t, a, now, _⟩ => fun | 2 => some (W_spec_LookUp_fLookUp_2 c t a now) | _ => none) (kp := [1,3,4,6,8,9,10,15,45,1000015,1000045]) E136ok Tryz.func131 (by kernel_rfl) (by kernel_rfl) (by
  rintro ⟨(c : SCache), (t : ByteArray), (a : SAddr), (now : Int), _⟩ hp
  refine holds_of (X := lpx (W_spec_LookUp_fLookUp_2 c t a now) ((0 : Int), (c, (a, (default, ())))) fun (y1 : Int × SCache × SAddr × SResponse × PUnit) bk1 =>
 .br (decide (y1.1 < (↑y1.2.1.entries.length : Int)))
 (.ob ((0 : Int) ≤ y1.1 ∧ y1.1 < (↑y1.2.1.entries.length : Int)) <| .br ((y1.2.1.entries.getD y1.1.toNat default).top.toList == t.toList)
 (.ob ((0 : Int) ≤ y1.1 ∧ y1.1 < (↑y1.2.1.entries.length : Int)) <| .br ((y1.2.1.entries.getD y1.1.toNat default).to.host == y1.2.2.1.host &&
 ((y1.2.1.entries.getD y1.1.toNat default).to.path == y1.2.2.1.path && true))
 (.ob ((0 : Int) ≤ y1.1 ∧ y1.1 < (↑y1.2.1.entries.length : Int)) <| .br (decide ((y1.2.1.entries.getD y1.1.toNat default).until_ ≥ now))
 (.ob ((0 : Int) ≤ y1.1 ∧ y1.1 < (↑y1.2.1.entries.length : Int)) <| .leaf (mkR fLookUp.rs ((y1.2.1.entries.getD y1.1.toNat default).response, true, ())) [] [])
 (.ob (Value.string t = Value.string t) <| .ob (Value.int IntKind.i64 now = Value.int IntKind.i64 now) <| .ob (bk1 (IntKind.i64.wrap (y1.1 + (1 : Int)), (y1.2.1, (y1.2.2.1, (y1.2.2.2.1, ()))))) <| .ok))
 (.ob (Value.string t = Value.string t) <| .ob (Value.int IntKind.i64 now = Value.int IntKind.i64 now) <| .ob (bk1 (IntKind.i64.wrap (y1.1 + (1 : Int)), (y1.2.1, (y1.2.2.1, (y1.2.2.2.1, ()))))) <| .ok))
 (.ob (Value.string t = Value.string t) <| .ob (Value.int IntKind.i64 now = Value.int IntKind.i64 now) <| .ob (bk1 (IntKind.i64.wrap (y1.1 + (1 : Int)), (y1.2.1, (y1.2.2.1, (y1.2.2.2.1, ()))))) <| .ok))
 (.cl fNotFound () fun z2 =>
 .leaf (mkR fLookUp.rs (z2.1, false, ())) [] [])) (by kernel_rfl) ?_
  refine lpx_i ?_ fun (y1 : Int × SCache × SAddr × SResponse × PUnit) i1 => br_i (fun h2 => ob_i ?_ fun o3 => br_i (fun h4 => ob_i ?_ fun o5 => br_i (fun h6 => ob_i ?_ fun o7 => br_i (fun h8 => ob_i ?_ fun o9 => Fct.leafY ?_) (fun h8 => ob_i rfl fun _ => ob_i rfl fun _ => ob_i ?_ fun o10 => trivial)) (fun h6 => ob_i rfl fun _ => ob_i rfl fun _ => ob_i ?_ fun o11 => trivial)) (fun h4 => ob_i rfl fun _ => ob_i rfl fun _ => ob_i ?_ fun o12 => trivial)) (fun h2 => cl_i trivial fun _ => (Fct.leafY ?_))
  all_goals try simp only [beqAddr] at *
  all_goals try simp only [std1, ne_eq] at *
  all_goals try simp only [W_spec_LookUp_fLookUp_2, fLookUp, fNotFound, etaS, std1, std2, Nat.reduceAdd, ne_eq, lookUp, freshEntry, fNotFound] at *
  all_goals try simp (disch := omega) only [wrapId', toNat1] at *
  all_goals try simp (disch := omega) only [if_pos, if_neg]
  all_goals first | trivial | omega | grind [wrapId', toNat1, drop_cons, drop_end, good_len, maxLen, lookUp, freshEntry, fNotFound])
def E137 : D.Env := E136.add 131 fLookUp
theorem E137ok : EOk Tryz.prog E137 := E136ok.add k131_136
def fLookUp1 : Fct := ⟨[.v (.el .entry), .p (.el .str), .p (.el .addr), .p (.el .int)], [.el .bool], fun (x_ : SEntry × ByteArray × SAddr × Int × Unit) => True, fun (x_ : SEntry × ByteArray × SAddr × Int × Unit) => (freshEntry x_.2.1 x_.2.2.1 x_.2.2.2.1 x_.1, ())⟩
theorem k169_137 : fLookUp1.ok Tryz.prog 169 := Fct.of (S := fLookUp1) (L := fun _ _ => none) (kp := [1,2,3,4,5]) E137ok Tryz.func169 (by kernel_rfl) (by kernel_rfl) (by
  rintro ⟨(e : SEntry), (t : ByteArray), (a : SAddr), (now : Int), _⟩ hp
  refine holds_of (X := .br (e.top.toList == ByteArray.toList t)
 (.br (e.to.host == a.host && (e.to.path == a.path && true))
 (.leaf (mkR fLookUp1.rs (decide (e.until_ ≥ now), ())) [] [])
 (.leaf (mkR fLookUp1.rs (false, ())) [] []))
 (.leaf (mkR fLookUp1.rs (false, ())) [] [])) (by kernel_rfl) ?_
  refine br_i (fun h1 => br_i (fun h2 => Fct.leafY ?_) (fun h2 => Fct.leafY ?_)) (fun h1 => Fct.leafY ?_)
  all_goals try simp only [beqAddr] at *
  all_goals try simp only [std1, ne_eq] at *
  all_goals try simp only [fLookUp1, etaS, std1, std2, Nat.reduceAdd, ne_eq, freshEntry] at *
  all_goals try simp (disch := omega) only [wrapId', toNat1] at *
  all_goals try simp (disch := omega) only [if_pos, if_neg]
  all_goals first | trivial | omega | grind [wrapId', toNat1, drop_cons, drop_end, good_len, maxLen, freshEntry])
def E138 : D.Env := E137.add 169 fLookUp1
theorem E138ok : EOk Tryz.prog E138 := E137ok.add k169_137
def fIndexFunc_entry_impl_LookUp_1 : Fct := ⟨[aL .entry, .c 169 [.el .str, .el .addr, .el .int]], [rI], fun x => x.1.length ≤ 1000000000000000000 ∧ ∀ c, fLookUp1.pre (c, x.2.1), fun x => (fidx (fun c => (fLookUp1.fn (c, x.2.1)).1) x.1 0, ())⟩
abbrev W_slices_IndexFunc_impl_Entry_impl_Entry_fIndexFunc_entry_impl_LookUp_1_2 (l : (List SEntry)) (u : (ByteArray × SAddr × Int × Unit)) : LInv := ⟨[⟨.s, 8, true, .el .int⟩], fun _ (x_ : Int × Unit) => 0 ≤ x_.1 ∧ x_.1 ≤ l.length ∧ fidx (fun c => (fLookUp1.fn (c, u)).1) l 0 = fidx (fun c => (fLookUp1.fn (c, u)).1) (l.drop x_.1.toNat) x_.1, fun (x_ : Int × Unit) => l.length - x_.1.toNat⟩
theorem k168_138 : fIndexFunc_entry_impl_LookUp_1.ok Tryz.prog 168 := Fct.of (S := fIndexFunc_entry_impl_LookUp_1) (L := fun ⟨l, u, _⟩ => fun | 2 => some (W_slices_IndexFunc_impl_Entry_impl_Entry_fIndexFunc_entry_impl_LookUp_1_2 l u) | _ => none) (kp := [0,1,4,5,7,8,9,16,1000009,1000016]) E138ok Tryz.func168 (by kernel_rfl) (by kernel_rfl) (by
  rintro ⟨(l : List SEntry), (u : ByteArray × SAddr × Int × PUnit), _⟩ hp
  refine holds_of (X := lpx (W_slices_IndexFunc_impl_Entry_impl_Entry_fIndexFunc_entry_impl_LookUp_1_2 l u) ((0 : Int), ()) fun (y1 : Int × PUnit) bk1 =>
 .br (decide (y1.1 < (↑l.length : Int)))
 (.ob ((0 : Int) ≤ y1.1 ∧ y1.1 < (↑l.length : Int)) <| .cl fLookUp1 (l.getD y1.1.toNat default, u.1, u.2.1, u.2.2.1, ()) fun z2 =>
 .br (z2.1)
 (.leaf (mkR fIndexFunc_entry_impl_LookUp_1.rs (y1.1, ())) [] [])
 (.ob (l = l) <| .ob (enc Ty.str u.1 = enc Ty.str u.1) <| .ob (enc Ty.addr u.2.1 = enc Ty.addr u.2.1) <| .ob (enc Ty.int u.2.2.1 = enc Ty.int u.2.2.1) <| .ob (Value.int IntKind.i64 (↑l.length : Int) = Value.int IntKind.i64 (↑l.length : Int)) <| .ob (bk1 (IntKind.i64.wrap (y1.1 + (1 : Int)), ())) <| .ok))
 (.leaf (mkR fIndexFunc_entry_impl_LookUp_1.rs ((-1 : Int), ())) [] [])) (by kernel_rfl) ?_
  refine lpx_i ?_ fun (y1 : Int × PUnit) i1 => br_i (fun h2 => ob_i ?_ fun o3 => cl_i trivial fun _ => (br_i (fun h4 => Fct.leafY ?_) (fun h4 => ob_i rfl fun _ => ob_i rfl fun _ => ob_i rfl fun _ => ob_i rfl fun _ => ob_i rfl fun _ => ob_i ?_ fun o5 => trivial))) (fun h2 => Fct.leafY ?_)
  all_goals try simp only [std1, ne_eq] at *
  all_goals try simp only [W_slices_IndexFunc_impl_Entry_impl_Entry_fIndexFunc_entry_impl_LookUp_1_2, fIndexFunc_entry_impl_LookUp_1, fLookUp1, etaS, std1, std2, Nat.reduceAdd, ne_eq] at *
  all_goals try have hp2 := hp.2
  all_goals try have hp1 := hp.1
  all_goals first | trivial | omega | grind [wrapId', toNat1, drop_cons, drop_end, good_len, maxLen, fidx])
def E139 : D.Env := E138.add 168 fIndexFunc_entry_impl_LookUp_1
theorem E139ok : EOk Tryz.prog E139 := E138ok.add k168_138
theorem k147_139 : fLookUp.ok Tryz.prog 147 := Fct.of (S := fLookUp) (L := fun _ _ => none) (kp := [4,5,6,7,8,9,10,16,1000016]) E139ok Tryz.func147 (by kernel_rfl) (by kernel_rfl) (by
  rintro ⟨(c : SCache), (t : ByteArray), (a : SAddr), (now : Int), _⟩ hp
  refine holds_of (X := .cl fIndexFunc_entry_impl_LookUp_1 (c.entries, (t, a, now, ()), ()) fun z2 =>
 .br (decide (z2.1 < (0 : Int)))
 (.cl fNotFound () fun z3 =>
 .leaf (mkR fLookUp.rs (z3.1, false, ())) [] [])
 (.ob ((0 : Int) ≤ z2.1 ∧ z2.1 < (↑c.entries.length : Int)) <| .leaf (mkR fLookUp.rs ((c.entries.getD z2.1.toNat default).response, true, ())) [] [])) (by kernel_rfl) ?_
  refine cl_i ?_ fun o1 => (br_i (fun h2 => cl_i trivial fun _ => (Fct.leafY ?_)) (fun h2 => ob_i ?_ fun o3 => Fct.leafY ?_))
  all_goals have hf := fidx_lt (freshEntry t a now) c.entries 0 (by omega)
  all_goals have hf2 := find_fidx (freshEntry t a now) c.entries 0 (by omega)
  all_goals try simp only [std1, ne_eq] at *
  all_goals try simp only [fIndexFunc_entry_impl_LookUp_1, fLookUp, fNotFound, etaS, std1, std2, Nat.reduceAdd, ne_eq, lookUp, fLookUp1, fNotFound] at *
  all_goals try simp (disch := omega) only [wrapId', toNat1] at *
  all_goals try simp (disch := omega) only [if_pos, if_neg]
  all_goals first | trivial | omega | grind [wrapId', toNat1, drop_cons, drop_end, good_len, maxLen, lookUp, fLookUp1, fNotFound])
def E140 : D.Env := E139.add 147 fLookUp
theorem E140ok : EOk Tryz.prog E140 := E139ok.add k147_139
def modM (n m : Int) : Int := if 1 ≤ m ∧ m ≤ 1000000000000 then n.emod m else 0
def fMod : Fct := ⟨[.v (.el .int), .v (.el .int)], [.el .int], fun (x_ : Int × Int × Unit) => -9223372036854775808 ≤ x_.1 ∧ x_.1 ≤ 9223372036854775807, fun (x_ : Int × Int × Unit) => (modM x_.1 x_.2.1, ())⟩
theorem tmod_emod1 {n m : Int} (hm : 0 < m) : (n.tmod m + m).tmod m = n.emod m := by
  have h1 := Int.tmod_lt_of_pos n hm
  have h2 : -m < n.tmod m := by
    have := Int.lt_tmod_of_pos n hm
    omega
  rw [Int.tmod_eq_emod_of_nonneg (by omega)]
  rw [Int.tmod_eq_emod]
  split
  · simp; rfl
  · rw [show n % m - m.natAbs + m = n % m by omega]; simp; rfl
theorem tmod_emod2 {n m : Int} (hm : 0 < m) : (if n.tmod m < 0 then n.tmod m + m else n.tmod m) = n.emod m := by
  have h0 := Int.emod_nonneg n (show m ≠ 0 by omega)
  have h3 := Int.emod_lt_of_pos n hm
  have e0 : n.emod m = n % m := rfl
  rw [Int.tmod_eq_emod, e0]
  split <;> split <;> omega
theorem k184_140 : fMod.ok Tryz.prog 184 := Fct.of (S := fMod) (L := fun _ _ => none) (kp := [0,1,4,7,1000007]) E140ok Tryz.func184 (by kernel_rfl) (by kernel_rfl) (by
  rintro ⟨(n : Int), (m : Int), _⟩ hp
  refine holds_of (X := .cl fInRange (m, (1 : Int), (1000000000000 : Int), ()) fun z2 =>
 .br (!z2.1)
 (.leaf (mkR fMod.rs ((0 : Int), ())) [] [])
 (.ob (m ≠ (0 : Int)) <| .ob (m ≠ (0 : Int)) <| .leaf (mkR fMod.rs ((IntKind.i64.wrap (Int.tmod n m + m)).tmod m, ())) [] [])) (by kernel_rfl) ?_
  refine cl_i trivial fun _ => (br_i (fun h1 => Fct.leafY ?_) (fun h1 => ob_i ?_ fun o2 => ob_i ?_ fun o3 => Fct.leafY ?_))
  all_goals (by_cases hm : 1 ≤ m ∧ m ≤ 1000000000000)
  all_goals try have e1 := tmod_emod1 (n := n) (m := m) (by omega)
  all_goals try have e2 := tmod_emod2 (n := n) (m := m) (by omega)
  all_goals try have e3 := Int.tmod_lt_of_pos n (show 0 < m by omega)
  all_goals try have e4 := Int.lt_tmod_of_pos n (show 0 < m by omega)
  all_goals try simp only [std1, ne_eq] at *
  all_goals try simp only [fInRange, fMod, etaS, std1, std2, Nat.reduceAdd, ne_eq, fInRange, inRange, modM] at *
  all_goals try simp (disch := omega) only [wrapId', toNat1] at *
  all_goals try simp (disch := omega) only [if_pos, if_neg]
  all_goals try simp only [Bool.and_eq_true, Bool.and_eq_false_iff, decide_eq_true_eq, decide_eq_false_iff_not] at *
  all_goals first | omega | skip
  all_goals try rw [wrapId (by omega)]
  all_goals try rw [if_pos hm]
  all_goals first | omega | exact e1 | (rw [if_pos (by omega)] at e2; exact e2) | (rw [if_neg (by omega)] at e2; exact e2) | (rw [if_neg hm]))
def E141 : D.Env := E140.add 184 fMod
theorem E141ok : EOk Tryz.prog E141 := E140ok.add k184_140
theorem k196_141 : fMod.ok Tryz.prog 196 := Fct.of (S := fMod) (L := fun _ _ => none) (kp := [0,1,4,5,8,13,1000008,1000013]) E141ok Tryz.func196 (by kernel_rfl) (by kernel_rfl) (by
  rintro ⟨(n : Int), (m : Int), _⟩ hp
  refine holds_of (X := .cl fInRange (m, (1 : Int), (1000000000000 : Int), ()) fun z2 =>
 .br (!z2.1)
 (.leaf (mkR fMod.rs ((0 : Int), ())) [] [])
 (.ob (m ≠ (0 : Int)) <| .br (decide (Int.tmod n m < (0 : Int)))
 (.leaf (mkR fMod.rs (IntKind.i64.wrap (Int.tmod n m + m), ())) [] [])
 (.leaf (mkR fMod.rs (Int.tmod n m, ())) [] []))) (by kernel_rfl) ?_
  refine cl_i trivial fun _ => (br_i (fun h1 => Fct.leafY ?_) (fun h1 => ob_i ?_ fun o2 => br_i (fun h3 => Fct.leafY ?_) (fun h3 => Fct.leafY ?_)))
  all_goals (by_cases hm : 1 ≤ m ∧ m ≤ 1000000000000)
  all_goals try have e1 := tmod_emod1 (n := n) (m := m) (by omega)
  all_goals try have e2 := tmod_emod2 (n := n) (m := m) (by omega)
  all_goals try have e3 := Int.tmod_lt_of_pos n (show 0 < m by omega)
  all_goals try have e4 := Int.lt_tmod_of_pos n (show 0 < m by omega)
  all_goals try simp only [std1, ne_eq] at *
  all_goals try simp only [fInRange, fMod, etaS, std1, std2, Nat.reduceAdd, ne_eq, fInRange, inRange, modM] at *
  all_goals try simp (disch := omega) only [wrapId', toNat1] at *
  all_goals try simp (disch := omega) only [if_pos, if_neg]
  all_goals try simp only [Bool.and_eq_true, Bool.and_eq_false_iff, decide_eq_true_eq, decide_eq_false_iff_not] at *
  all_goals first | omega | skip
  all_goals try rw [wrapId (by omega)]
  all_goals try rw [if_pos hm]
  all_goals first | omega | exact e1 | (rw [if_pos (by omega)] at e2; exact e2) | (rw [if_neg (by omega)] at e2; exact e2) | (rw [if_neg hm]))
def E142 : D.Env := E141.add 196 fMod
theorem E142ok : EOk Tryz.prog E142 := E141ok.add k196_141
def hashI : List Int → Int → Int
  | [], d => d
  | x :: l, d => hashI l ((d * 1000003 + modM x 2147483647 + 13).tmod 2147483647)
theorem hashI_at {l : List Int} {i : Nat} {d : Int} (h : i < l.length) : hashI (l.drop i) d = hashI (l.drop (i + 1)) ((d * 1000003 + modM (l.getD i default) 2147483647 + 13).tmod 2147483647) := by rw [drop_cons h]; rfl
theorem hashI_end {l : List Int} {i : Nat} {d : Int} (h : l.length ≤ i) : hashI (l.drop i) d = d := by rw [List.drop_of_length_le h]; rfl
theorem modM_range (x : Int) : 0 ≤ modM x 2147483647 ∧ modM x 2147483647 < 2147483647 := by
  have h0 := Int.emod_nonneg x (show (2147483647 : Int) ≠ 0 by omega)
  have h3 := Int.emod_lt_of_pos x (show (0 : Int) < 2147483647 by omega)
  have e0 : modM x 2147483647 = x % 2147483647 := rfl
  omega
theorem tmod_range {x : Int} (h : 0 ≤ x) : 0 ≤ x.tmod 2147483647 ∧ x.tmod 2147483647 < 2147483647 := by
  rw [Int.tmod_eq_emod_of_nonneg h]
  have h0 := Int.emod_nonneg x (show (2147483647 : Int) ≠ 0 by omega)
  have h3 := Int.emod_lt_of_pos x (show (0 : Int) < 2147483647 by omega)
  omega
def fHash : Fct := ⟨[.v (.sl .int)], [.el .int], fun (x_ : (List Int) × Unit) => x_.1.length ≤ 1000000000000 ∧ ∀ i, i < x_.1.length → -9223372036854775808 ≤ x_.1.getD i default ∧ x_.1.getD i default ≤ 9223372036854775807, fun (x_ : (List Int) × Unit) => (hashI x_.1 11, ())⟩
abbrev W_spec_Hash_fHash_3 (l : (List Int)) : LInv := ⟨[⟨.s, 3, true, .el .int⟩, ⟨.s, 4, true, .el .int⟩], fun _ (x_ : Int × Int × Unit) => 0 ≤ x_.2.1 ∧ x_.2.1 ≤ l.length ∧ 0 ≤ x_.1 ∧ x_.1 < 2147483647 ∧ hashI (l.drop x_.2.1.toNat) x_.1 = hashI l 11, fun (x_ : Int × Int × Unit) => l.length - x_.2.1.toNat⟩
theorem k163_142 : fHash.ok Tryz.prog 163 := Fct.of (S := fHash) (L := fun ⟨l, _⟩ => fun | 3 => some (W_spec_Hash_fHash_3 l) | _ => none) (kp := [0,2,3,4,8,1000008]) E142ok Tryz.func163 (by kernel_rfl) (by kernel_rfl) (by
  rintro ⟨(l : List Int), _⟩ hp
  refine holds_of (X := lpx (W_spec_Hash_fHash_3 l) ((11 : Int), ((0 : Int), ())) fun (y1 : Int × Int × PUnit) bk1 =>
 .br (decide (y1.2.1 < (↑l.length : Int)))
 (.ob ((0 : Int) ≤ y1.2.1 ∧ y1.2.1 < (↑l.length : Int)) <| .cl fMod (l.getD y1.2.1.toNat default, (2147483647 : Int), ()) fun z2 =>
 .ob ((2147483647 : Int) ≠ (0 : Int)) <| .ob (l = l) <| .ob (Value.int IntKind.i64 (0 : Int) = Value.int IntKind.i64 (0 : Int)) <| .ob (bk1 ((IntKind.i64.wrap (IntKind.i64.wrap (IntKind.i64.wrap (y1.1 * (1000003 : Int)) + z2.1) + (13 : Int))).tmod
 (2147483647 : Int), (IntKind.i64.wrap (y1.2.1 + (1 : Int)), ()))) <| .ok)
 (.leaf (mkR fHash.rs (y1.1, ())) [] [])) (by kernel_rfl) ?_
  refine lpx_i ?_ fun (y1 : Int × Int × PUnit) i1 => br_i (fun h2 => ob_i ?_ fun o3 => cl_i ?_ fun o4 => (ob_i ?_ fun o5 => ob_i rfl fun _ => ob_i rfl fun _ => ob_i ?_ fun o6 => trivial)) (fun h2 => Fct.leafY ?_)
  all_goals try simp only [std1, ne_eq] at *
  all_goals try simp only [W_spec_Hash_fHash_3, fHash, fMod, etaS, std1, std2, Nat.reduceAdd, ne_eq, fMod] at *
  all_goals obtain ⟨hp1, hp2⟩ := hp
  all_goals try (obtain ⟨a1, a2, a3, a4, a5⟩ := i1)
  all_goals try (have hm := modM_range (l.getD y1.2.1.toNat default); have ht := tmod_range (x := y1.1 * 1000003 + modM (l.getD y1.2.1.toNat default) 2147483647 + 13) (by omega))
  all_goals try simp (disch := omega) only [wrapId', toNat1] at *
  all_goals first | trivial | omega | exact ⟨by omega, by omega, by omega, by omega, rfl⟩ | exact hp2 _ (by omega) | skip
  · rw [hashI_at (by omega)] at a5; exact ⟨⟨by omega, by omega, ht.1, ht.2, a5⟩, by omega⟩
  · rw [hashI_end (by omega)] at a5; exact a5)
def E143 : D.Env := E142.add 163 fHash
theorem E143ok : EOk Tryz.prog E143 := E142ok.add k163_142
abbrev W_impl_Hash_fHash_3 (l : (List Int)) : LInv := ⟨[⟨.s, 3, true, .el .int⟩, ⟨.s, 8, true, .el .int⟩], fun _ (x_ : Int × Int × Unit) => 0 ≤ x_.2.1 ∧ x_.2.1 ≤ l.length ∧ 0 ≤ x_.1 ∧ x_.1 < 2147483647 ∧ hashI (l.drop x_.2.1.toNat) x_.1 = hashI l 11, fun (x_ : Int × Int × Unit) => l.length - x_.2.1.toNat⟩
theorem k178_143 : fHash.ok Tryz.prog 178 := Fct.of (S := fHash) (L := fun ⟨l, _⟩ => fun | 3 => some (W_impl_Hash_fHash_3 l) | _ => none) (kp := [0,2,3,5,6,7,8,9,1000009]) E143ok Tryz.func178 (by kernel_rfl) (by kernel_rfl) (by
  rintro ⟨(l : List Int), _⟩ hp
  refine holds_of (X := lpx (W_impl_Hash_fHash_3 l) ((11 : Int), ((0 : Int), ())) fun (y1 : Int × Int × PUnit) bk1 =>
 .br (decide (y1.2.1 < (↑l.length : Int)))
 (.ob ((0 : Int) ≤ y1.2.1 ∧ y1.2.1 < (↑l.length : Int)) <| .cl fMod (l.getD y1.2.1.toNat default, (2147483647 : Int), ()) fun z2 =>
 .ob ((2147483647 : Int) ≠ (0 : Int)) <| .ob (l = l) <| .ob (Value.int IntKind.i64 (0 : Int) = Value.int IntKind.i64 (0 : Int)) <| .ob (l = l) <| .ob (Value.int IntKind.i64 (↑l.length : Int) = Value.int IntKind.i64 (↑l.length : Int)) <| .ob (bk1 ((IntKind.i64.wrap (IntKind.i64.wrap (IntKind.i64.wrap (y1.1 * (1000003 : Int)) + z2.1) + (13 : Int))).tmod
 (2147483647 : Int), (IntKind.i64.wrap (y1.2.1 + (1 : Int)), ()))) <| .ok)
 (.leaf (mkR fHash.rs (y1.1, ())) [] [])) (by kernel_rfl) ?_
  refine lpx_i ?_ fun (y1 : Int × Int × PUnit) i1 => br_i (fun h2 => ob_i ?_ fun o3 => cl_i ?_ fun o4 => (ob_i ?_ fun o5 => ob_i rfl fun _ => ob_i rfl fun _ => ob_i rfl fun _ => ob_i rfl fun _ => ob_i ?_ fun o6 => trivial)) (fun h2 => Fct.leafY ?_)
  all_goals try simp only [std1, ne_eq] at *
  all_goals try simp only [W_impl_Hash_fHash_3, fHash, fMod, etaS, std1, std2, Nat.reduceAdd, ne_eq, fMod] at *
  all_goals obtain ⟨hp1, hp2⟩ := hp
  all_goals try (obtain ⟨a1, a2, a3, a4, a5⟩ := i1)
  all_goals try (have hm := modM_range (l.getD y1.2.1.toNat default); have ht := tmod_range (x := y1.1 * 1000003 + modM (l.getD y1.2.1.toNat default) 2147483647 + 13) (by omega))
  all_goals try simp (disch := omega) only [wrapId', toNat1] at *
  all_goals first | trivial | omega | exact ⟨by omega, by omega, by omega, by omega, rfl⟩ | exact hp2 _ (by omega) | skip
  · rw [hashI_at (by omega)] at a5; exact ⟨⟨by omega, by omega, ht.1, ht.2, a5⟩, by omega⟩
  · rw [hashI_end (by omega)] at a5; exact a5)
def E144 : D.Env := E143.add 178 fHash
theorem E144ok : EOk Tryz.prog E144 := E143ok.add k178_143
def bti (b l : List Int) : List Int := (b.length : Int) :: l
def fBytesToInts : Fct := ⟨[.v (.sl .u8)], [.sl .int], fun (x_ : (List Int) × Unit) => x_.1.length ≤ 68719476736 ∧ ∀ i, i < x_.1.length → 0 ≤ x_.1.getD i default ∧ x_.1.getD i default ≤ 255, fun (x_ : (List Int) × Unit) => (bti x_.1 x_.1, ())⟩
abbrev W_spec_BytesToInts_fBytesToInts_3 (b : (List Int)) : LInv := ⟨[⟨.s, 3, true, .sl .int⟩, ⟨.s, 4, true, .el .int⟩], fun _ (x_ : (List Int) × Int × Unit) => 0 ≤ x_.2.1 ∧ x_.2.1 ≤ b.length ∧ x_.1 = bti b (b.take x_.2.1.toNat), fun (x_ : (List Int) × Int × Unit) => b.length - x_.2.1.toNat⟩
theorem k164_144 : fBytesToInts.ok Tryz.prog 164 := Fct.of (S := fBytesToInts) (L := fun ⟨b, _⟩ => fun | 3 => some (W_spec_BytesToInts_fBytesToInts_3 b) | _ => none) (kp := [0,2,3,4,11,1000011]) E144ok Tryz.func164 (by kernel_rfl) (by kernel_rfl) (by
  rintro ⟨(b : List Int), _⟩ hp
  refine holds_of (X := lpx (W_spec_BytesToInts_fBytesToInts_3 b) ([(↑b.length : Int)], ((0 : Int), ())) fun (y1 : List Int × Int × PUnit) bk1 =>
 .br (decide (y1.2.1 < (↑b.length : Int)))
 (.ob ((0 : Int) ≤ y1.2.1 ∧ y1.2.1 < (↑b.length : Int)) <| .ob (True) <| .ob (Room (y1.1.length + [IntKind.i64.wrap (b.getD y1.2.1.toNat default)].length) 8) <| .ob (b = b) <| .ob (bk1 (y1.1 ++ [IntKind.i64.wrap (b.getD y1.2.1.toNat default)], (IntKind.i64.wrap (y1.2.1 + (1 : Int)), ()))) <| .ok)
 (.leaf (mkR fBytesToInts.rs (y1.1, ())) [] [])) (by kernel_rfl) ?_
  refine lpx_i ?_ fun (y1 : List Int × Int × PUnit) i1 => br_i (fun h2 => ob_i ?_ fun o3 => ob_i trivial fun _ => ob_i ?_ fun o4 => ob_i rfl fun _ => ob_i ?_ fun o5 => trivial) (fun h2 => Fct.leafY ?_)
  all_goals try simp only [std1, ne_eq] at *
  all_goals try simp only [W_spec_BytesToInts_fBytesToInts_3, fBytesToInts, etaS, std1, std2, Nat.reduceAdd, ne_eq, take_succ, take_end, bti] at *
  all_goals try simp (disch := omega) only [wrapId', toNat1] at *
  all_goals try simp (disch := omega) only [if_pos, if_neg]
  all_goals first | trivial | omega | grind [wrapId', toNat1, drop_cons, drop_end, good_len, maxLen, take_succ, take_end, bti])
def E145 : D.Env := E144.add 164 fBytesToInts
theorem E145ok : EOk Tryz.prog E145 := E144ok.add k164_144
abbrev W_impl_BytesToInts_fBytesToInts_3 (b : (List Int)) : LInv := ⟨[⟨.s, 3, true, .sl .int⟩, ⟨.s, 11, true, .el .int⟩], fun _ (x_ : (List Int) × Int × Unit) => 0 ≤ x_.2.1 ∧ x_.2.1 ≤ b.length ∧ x_.1 = bti b (b.take x_.2.1.toNat), fun (x_ : (List Int) × Int × Unit) => b.length - x_.2.1.toNat⟩
theorem k179_145 : fBytesToInts.ok Tryz.prog 179 := Fct.of (S := fBytesToInts) (L := fun ⟨b, _⟩ => fun | 3 => some (W_impl_BytesToInts_fBytesToInts_3 b) | _ => none) (kp := [0,2,3,5,9,10,11,12,1000012]) E145ok Tryz.func179 (by kernel_rfl) (by kernel_rfl) (by
  rintro ⟨(b : List Int), _⟩ hp
  refine holds_of (X := lpx (W_impl_BytesToInts_fBytesToInts_3 b) ([(↑b.length : Int)], ((0 : Int), ())) fun (y1 : List Int × Int × PUnit) bk1 =>
 .br (decide (y1.2.1 < (↑b.length : Int)))
 (.ob ((0 : Int) ≤ y1.2.1 ∧ y1.2.1 < (↑b.length : Int)) <| .ob (True) <| .ob (Room (y1.1.length + [IntKind.i64.wrap (b.getD y1.2.1.toNat default)].length) 8) <| .ob (b = b) <| .ob (b = b) <| .ob (Value.int IntKind.i64 (↑b.length : Int) = Value.int IntKind.i64 (↑b.length : Int)) <| .ob (bk1 (y1.1 ++ [IntKind.i64.wrap (b.getD y1.2.1.toNat default)], (IntKind.i64.wrap (y1.2.1 + (1 : Int)), ()))) <| .ok)
 (.leaf (mkR fBytesToInts.rs (y1.1, ())) [] [])) (by kernel_rfl) ?_
  refine lpx_i ?_ fun (y1 : List Int × Int × PUnit) i1 => br_i (fun h2 => ob_i ?_ fun o3 => ob_i trivial fun _ => ob_i ?_ fun o4 => ob_i rfl fun _ => ob_i rfl fun _ => ob_i rfl fun _ => ob_i ?_ fun o5 => trivial) (fun h2 => Fct.leafY ?_)
  all_goals try simp only [std1, ne_eq] at *
  all_goals try simp only [W_impl_BytesToInts_fBytesToInts_3, fBytesToInts, etaS, std1, std2, Nat.reduceAdd, ne_eq, take_succ, take_end, bti] at *
  all_goals try simp (disch := omega) only [wrapId', toNat1] at *
  all_goals try simp (disch := omega) only [if_pos, if_neg]
  all_goals first | trivial | omega | grind [wrapId', toNat1, drop_cons, drop_end, good_len, maxLen, take_succ, take_end, bti])
def E146 : D.Env := E145.add 179 fBytesToInts
theorem E146ok : EOk Tryz.prog E146 := E145ok.add k179_145
def fFormatInt : Fct := ⟨[.v (.el .int)], [.el .str], fun (x_ : Int × Unit) => -9223372036854775808 ≤ x_.1 ∧ x_.1 ≤ 9223372036854775807, fun (x_ : Int × Unit) => (fmtI x_.1, ())⟩
abbrev W_spec_FormatInt_fFormatInt_5 (n : Int) : LInv := ⟨[⟨.s, 3, true, .el .str⟩, ⟨.s, 4, true, .el .int⟩], fun _ (x_ : ByteArray × Int × Unit) => n ≠ 0 ∧ -9223372036854775808 ≤ x_.2.1 ∧ x_.2.1 ≤ 9223372036854775807 ∧ (x_.2.1 : Int).natAbs + 4 * x_.1.size ≤ n.natAbs + (if x_.2.1 = 0 then 4 else 0) ∧ decS (x_.2.1 : Int).natAbs x_.1 = decS n.natAbs ⟨#[]⟩, fun (x_ : ByteArray × Int × Unit) => (x_.2.1 : Int).natAbs⟩
theorem k135_146 : fFormatInt.ok Tryz.prog 135 := Fct.of (S := fFormatInt) (L := fun ⟨n, _⟩ => fun | 5 => some (W_spec_FormatInt_fFormatInt_5 n) | _ => none) (kp := [0,2,3,4,5,7,10,16,27,1000007,1000010,1000016,1000027]) E146ok Tryz.func135 (by kernel_rfl) (by kernel_rfl) (by
  rintro ⟨(n : Int), _⟩ hp
  refine holds_of (X := .br (n == (0 : Int))
 (.leaf (mkR fFormatInt.rs ((⟨#[48]⟩ : ByteArray), ())) [] [])
 (lpx (W_spec_FormatInt_fFormatInt_5 n) ((⟨#[]⟩ : ByteArray), (n, ())) fun (y2 : ByteArray × Int × PUnit) bk2 =>
 .br (y2.2.1 != (0 : Int))
 (.ob ((10 : Int) ≠ (0 : Int)) <| .br (decide (y2.2.1.tmod (10 : Int) < (0 : Int)))
 (.ob (True) <| .ob (sameSize
 (List.foldl (fun r n => r.push (UInt8.ofNat n.toNat)) ByteArray.empty
 [IntKind.u8.wrap (IntKind.i64.wrap ((48 : Int) + IntKind.i64.wrap ((0 : Int) - y2.2.1.tmod (10 : Int))))])
 y2.1) <| .ob ((10 : Int) ≠ (0 : Int)) <| .ob (Value.int IntKind.i64 n = Value.int IntKind.i64 n) <| .ob (Value.string (⟨#[]⟩ : ByteArray) = Value.string (⟨#[]⟩ : ByteArray)) <| .ob (bk2 (List.foldl (fun r n => r.push (UInt8.ofNat n.toNat)) ByteArray.empty
 [IntKind.u8.wrap (IntKind.i64.wrap ((48 : Int) + IntKind.i64.wrap ((0 : Int) - y2.2.1.tmod (10 : Int))))] ++
 y2.1, (IntKind.i64.wrap (y2.2.1.tdiv (10 : Int)), ()))) <| .ok)
 (.ob (True) <| .ob (sameSize
 (List.foldl (fun r n => r.push (UInt8.ofNat n.toNat)) ByteArray.empty
 [IntKind.u8.wrap (IntKind.i64.wrap ((48 : Int) + y2.2.1.tmod (10 : Int)))])
 y2.1) <| .ob ((10 : Int) ≠ (0 : Int)) <| .ob (Value.int IntKind.i64 n = Value.int IntKind.i64 n) <| .ob (Value.string (⟨#[]⟩ : ByteArray) = Value.string (⟨#[]⟩ : ByteArray)) <| .ob (bk2 (List.foldl (fun r n => r.push (UInt8.ofNat n.toNat)) ByteArray.empty
 [IntKind.u8.wrap (IntKind.i64.wrap ((48 : Int) + y2.2.1.tmod (10 : Int)))] ++
 y2.1, (IntKind.i64.wrap (y2.2.1.tdiv (10 : Int)), ()))) <| .ok))
 (.br (decide (n < (0 : Int)))
 (.ob (sameSize (⟨#[45]⟩ : ByteArray) y2.1) <| .leaf (mkR fFormatInt.rs ((⟨#[45]⟩ : ByteArray) ++ y2.1, ())) [] [])
 (.leaf (mkR fFormatInt.rs (y2.1, ())) [] [])))) (by kernel_rfl) ?_
  refine br_i (fun h1 => Fct.leafY ?_) (fun h1 => lpx_i ?_ fun (y2 : ByteArray × Int × PUnit) i2 => br_i (fun h3 => ob_i ?_ fun o4 => br_i (fun h5 => ob_i trivial fun _ => ob_i ?_ fun o6 => ob_i ?_ fun o7 => ob_i rfl fun _ => ob_i rfl fun _ => ob_i ?_ fun o8 => trivial) (fun h5 => ob_i trivial fun _ => ob_i ?_ fun o9 => ob_i ?_ fun o10 => ob_i rfl fun _ => ob_i rfl fun _ => ob_i ?_ fun o11 => trivial)) (fun h3 => br_i (fun h12 => ob_i ?_ fun o13 => Fct.leafY ?_) (fun h12 => Fct.leafY ?_)))
  all_goals try (have hk := Nat.mod_lt y2.2.1.natAbs (show 0 < 10 by omega); have ht := tmod_abs y2.2.1)
  all_goals try (have hv := tdiv_abs y2.2.1)
  all_goals try simp only [std1, ne_eq] at *
  all_goals try simp only [W_spec_FormatInt_fFormatInt_5, fFormatInt, etaS, std1, std2, Nat.reduceAdd, ne_eq] at *
  all_goals first | trivial | omega | skip
  all_goals try (obtain ⟨a1, a2, a3, a4, a5⟩ := i2)
  all_goals first | trivial | omega | skip
  all_goals try simp only [h5, if_true, if_false] at ht
  all_goals try rw [if_neg (by omega)] at ht
  all_goals try (rw [wrapId (n := 0 - _) (by omega), show (0 : Int) - y2.2.1.tmod 10 = ((y2.2.1.natAbs % 10 : Nat) : Int) by omega, digU hk, digPush hk] at *)
  all_goals try (rw [ht, digU hk, digPush hk] at *)
  all_goals try rw [if_neg h3] at a4
  all_goals try (have e1 : IntKind.i64.wrap (y2.2.1.tdiv 10) = y2.2.1.tdiv 10 := wrapId (by omega); rw [e1])
  · rw [h1, fmtI_zero]
  · unfold sameSize; rw [show ByteArray.size ⟨#[UInt8.ofNat (48 + y2.2.1.natAbs % 10)]⟩ = 1 from rfl]; omega
  · rw [decS_step (by omega)] at a5
    rw [hv, ByteArray.size_append, show ByteArray.size ⟨#[UInt8.ofNat (48 + y2.2.1.natAbs % 10)]⟩ = 1 from rfl]
    exact ⟨⟨h1, by omega, by omega, by split <;> omega, a5⟩, by omega⟩
  · unfold sameSize; rw [show ByteArray.size ⟨#[UInt8.ofNat (48 + y2.2.1.natAbs % 10)]⟩ = 1 from rfl]; omega
  · rw [decS_step (by omega)] at a5
    have hv' : ((y2.2.1.natAbs : Nat) : Int) = y2.2.1.natAbs := rfl
    rw [hv, ByteArray.size_append, show ByteArray.size ⟨#[UInt8.ofNat (48 + y2.2.1.natAbs % 10)]⟩ = 1 from rfl]
    exact ⟨⟨h1, by omega, by omega, by split <;> omega, a5⟩, by omega⟩
  · unfold sameSize; rw [show ByteArray.size ⟨#[45]⟩ = 1 from rfl]; rw [if_pos h3] at a4; omega
  · rw [h3] at a5; rw [fmtI_neg h12, ← a5]; rfl
  · rw [h3] at a5; rw [fmtI_pos (by omega), ← a5]; rfl)
def E147 : D.Env := E146.add 135 fFormatInt
theorem E147ok : EOk Tryz.prog E147 := E146ok.add k135_146
def laysItoa_r : Go.Shelf.Ren := ⟨fun | 0 => 0 | 1 => 1 | 2 => 2 | 101 => 174 | 109 => 165 | 110 => 144 | 129 => 229 | 138 => 200 | 143 => 201 | 146 => 173 | 156 => 194 | 165 => 204 | 166 => 205 | 169 => 206 | 171 => 177 | 195 => 208 | 197 => 209 | 206 => 202 | 208 => 192 | 217 => 221 | 218 => 210 | 219 => 211 | 221 => 191 | 224 => 223 | 225 => 222 | 240 => 214 | 241 => 215 | 243 => 195 | 246 => 207 | 260 => 220 | 266 => 233 | 267 => 224 | 268 => 199 | 276 => 226 | 277 => 227 | 283 => 216 | 284 => 217 | 285 => 218 | 286 => 219 | 314 => 234 | 317 => 228 | 318 => 230 | 319 => 231 | 320 => 232 | 337 => 235 | 338 => 236 | 347 => 237 | 348 => 238 | 349 => 239 | 350 => 240 | 351 => 241 | 352 => 242 | 353 => 243 | 354 => 244 | 355 => 245 | 356 => 246 | 357 => 247 | 358 => 248 | 359 => 249 | 360 => 250 | 361 => 251 | 362 => 252 | 366 => 253 | 367 => 261 | _ => 0, fun | 0 => 0 | 1 => 1 | 2 => 2 | 3 => 3 | 4 => 4 | 5 => 5 | 6 => 6 | 7 => 7 | 8 => 8 | 9 => 9 | 10 => 10 | 11 => 11 | 12 => 12 | 13 => 13 | 14 => 14 | 15 => 15 | 16 => 16 | 17 => 17 | 18 => 18 | 19 => 19 | 20 => 20 | 21 => 21 | 22 => 188 | 23 => 245 | 24 => 145 | 27 => 260 | 28 => 38 | 30 => 134 | 31 => 31 | 32 => 240 | 33 => 210 | 34 => 169 | 36 => 238 | 37 => 237 | 43 => 251 | 46 => 282 | 47 => 292 | 51 => 289 | 52 => 299 | 53 => 277 | 54 => 278 | 55 => 273 | 61 => 243 | 67 => 257 | 70 => 261 | 71 => 262 | 72 => 263 | 73 => 264 | 74 => 265 | 75 => 266 | 76 => 267 | 77 => 268 | 80 => 269 | 81 => 307 | 83 => 219 | 84 => 270 | 101 => 118 | 102 => 106 | 103 => 220 | 104 => 209 | 105 => 271 | 106 => 272 | 111 => 291 | 113 => 256 | 114 => 172 | 119 => 293 | 127 => 275 | 137 => 294 | 138 => 295 | 139 => 296 | 146 => 297 | 150 => 259 | 151 => 298 | 164 => 284 | 165 => 285 | 166 => 286 | 171 => 276 | 172 => 279 | 173 => 280 | 174 => 281 | 211 => 287 | 212 => 288 | 213 => 290 | 232 => 300 | 233 => 301 | 238 => 302 | 239 => 303 | 240 => 304 | 241 => 305 | 242 => 306 | 243 => 308 | 244 => 309 | 245 => 310 | 246 => 311 | 247 => 312 | 248 => 313 | 249 => 314 | _ => 0, fun | 1 => 0 | 3 => 2 | 4 => 3 | 17 => 1 | 18 => 4 | 19 => 5 | _ => 0⟩
theorem laysItoa : Go.Proofs.LaysM.n171 Tryz.prog laysItoa_r where
  mixed := by kernel_rfl
  f129 := by kernel_rfl
  f171 := by kernel_rfl
  f243 := by kernel_rfl
  f246 := by kernel_rfl
  f283 := by kernel_rfl
  f284 := by kernel_rfl
  f285 := by kernel_rfl
  f286 := by kernel_rfl
  f317 := by kernel_rfl
  f318 := by kernel_rfl
  f319 := by kernel_rfl
  f320 := by kernel_rfl
  f337 := by kernel_rfl
  f338 := by kernel_rfl
  t0 := by kernel_rfl
  a0 := fun _ => by kernel_rfl
  z0 := fun _ => by kernel_rfl
  v0 := fun _ => by kernel_rfl
  t2 := by kernel_rfl
  a2 := fun _ => by kernel_rfl
  z2 := fun _ => by kernel_rfl
  v2 := fun _ => by kernel_rfl
  t3 := by kernel_rfl
  a3 := fun _ => by kernel_rfl
  z3 := fun _ => by kernel_rfl
  v3 := fun _ => by kernel_rfl
  t4 := by kernel_rfl
  a4 := fun _ => by kernel_rfl
  z4 := fun _ => by kernel_rfl
  v4 := fun _ => by kernel_rfl
  t5 := by kernel_rfl
  a5 := fun _ => by kernel_rfl
  z5 := fun _ => by kernel_rfl
  v5 := fun _ => by kernel_rfl
  t9 := by kernel_rfl
  a9 := fun _ => by kernel_rfl
  z9 := fun _ => by kernel_rfl
  v9 := fun _ => by kernel_rfl
  t20 := by kernel_rfl
  a20 := fun _ => by kernel_rfl
  z20 := fun _ => by kernel_rfl
  v20 := fun _ => by kernel_rfl
  t37 := by kernel_rfl
  a37 := fun _ => by kernel_rfl
  z37 := fun _ => by kernel_rfl
  v37 := fun _ => by kernel_rfl
  t46 := by kernel_rfl
  a46 := fun _ => by kernel_rfl
  z46 := fun _ => by kernel_rfl
  v46 := fun _ => by kernel_rfl
  t51 := by kernel_rfl
  a51 := fun _ => by kernel_rfl
  z51 := fun _ => by kernel_rfl
  v51 := fun _ => by kernel_rfl
  t53 := by kernel_rfl
  a53 := fun _ => by kernel_rfl
  z53 := fun _ => by kernel_rfl
  v53 := fun _ => by kernel_rfl
  t171 := by kernel_rfl
  a171 := fun _ => by kernel_rfl
  z171 := fun _ => by kernel_rfl
  v171 := fun _ => by kernel_rfl
  t173 := by kernel_rfl
  a173 := fun _ => by kernel_rfl
  z173 := fun _ => by kernel_rfl
  v173 := fun _ => by kernel_rfl
  t212 := by kernel_rfl
  a212 := fun _ => by kernel_rfl
  z212 := fun _ => by kernel_rfl
  v212 := fun _ => by kernel_rfl
  t213 := by kernel_rfl
  a213 := fun _ => by kernel_rfl
  z213 := fun _ => by kernel_rfl
  t232 := by kernel_rfl
  a232 := fun _ => by kernel_rfl
  z232 := fun _ => by kernel_rfl
  v232 := fun _ => by kernel_rfl
  t233 := by kernel_rfl
  a233 := fun _ => by kernel_rfl
  z233 := fun _ => by kernel_rfl
  v233 := fun _ => by kernel_rfl
  g17 := by kernel_rfl
  g18 := by kernel_rfl
  g19 := by kernel_rfl
  i0 := by kernel_rfl
  i2 := by kernel_rfl
  i3 := by kernel_rfl
  i4 := by kernel_rfl
  i5 := by kernel_rfl
  i9 := by kernel_rfl
  i20 := by kernel_rfl
  i37 := by kernel_rfl
  i46 := by kernel_rfl
  i51 := by kernel_rfl
  i53 := by kernel_rfl
  i171 := by kernel_rfl
  i173 := by kernel_rfl
  i212 := by kernel_rfl
  i232 := by kernel_rfl
  i233 := by kernel_rfl
  m17 := by kernel_rfl
  m18 := by kernel_rfl
  m19 := by kernel_rfl
theorem k177_147 : fItoa.ok Tryz.prog 177 :=
  itoa_ok (by kernel_rfl) (Go.Proofs.Any.strconv_Itoa laysItoa)
def E148 : D.Env := E147.add 177 fItoa
theorem E148ok : EOk Tryz.prog E148 := E147ok.add k177_147
theorem k151_148 : fFormatInt.ok Tryz.prog 151 := Fct.of (S := fFormatInt) (L := fun _ _ => none) (kp := [0,2]) E148ok Tryz.func151 (by kernel_rfl) (by kernel_rfl) (by
  rintro ⟨(n : Int), _⟩ hp
  refine holds_of (X := .cl fItoa (n, ()) fun z2 =>
 .leaf (mkR fFormatInt.rs (z2.1, ())) [] []) (by kernel_rfl) ?_
  refine cl_i ?_ fun o1 => (Fct.leafY ?_)
  all_goals try simp only [std1, ne_eq] at *
  all_goals try simp only [fFormatInt, fItoa, etaS, std1, std2, Nat.reduceAdd, ne_eq, fItoa] at *
  all_goals try simp (disch := omega) only [wrapId', toNat1] at *
  all_goals try simp (disch := omega) only [if_pos, if_neg]
  all_goals first | trivial | omega | grind [wrapId', toNat1, drop_cons, drop_end, good_len, maxLen, fItoa])
def E149 : D.Env := E148.add 151 fFormatInt
theorem E149ok : EOk Tryz.prog E149 := E148ok.add k151_148
theorem getD_in {α : Type} [Inhabited α] {l : List α} {i : Nat} (h : i < l.length) : l.getD i default ∈ l := by
  rw [List.getD_eq_getElem?_getD, List.getElem?_eq_getElem h]; exact List.getElem_mem _
theorem isName_size {s : ByteArray} (h : isName s = true) : s.size ≤ 8 := by
  simp only [isName, Bool.and_eq_true, decide_eq_true_eq] at h; omega
def words9 : ByteArray → List ByteArray → ByteArray
  | w, [] => w
  | w, x :: l => words9 (w ++ ⟨#[32]⟩ ++ x) l
theorem words9_at {w : ByteArray} {l : List ByteArray} {i : Nat} (h : i < l.length) : words9 w (l.drop i) = words9 (w ++ ⟨#[32]⟩ ++ l.getD i default) (l.drop (i + 1)) := by rw [drop_cons h]; rfl
theorem words9_end {w : ByteArray} {l : List ByteArray} {i : Nat} (h : l.length ≤ i) : words9 w (l.drop i) = w := by rw [List.drop_of_length_le h]; rfl
theorem words9_size : ∀ (l : List ByteArray) (w : ByteArray), l.all isName = true → (words9 w l).size ≤ w.size + 9 * l.length := by
  intro l
  induction l with
  | nil => intro w _; simp [words9]
  | cons x l ih =>
    intro w h
    simp only [List.all_cons, Bool.and_eq_true] at h
    have h1 := isName_size h.1
    have h2 := ih (w ++ ⟨#[32]⟩ ++ x) h.2
    simp only [words9, List.length_cons]
    rw [ByteArray.size_append, ByteArray.size_append, show ByteArray.size ⟨#[32]⟩ = 1 from rfl] at h2
    omega
def fWords9 : Fct := ⟨[.v (.el .str), .v (.sl .str)], [.el .str], fun (x_ : ByteArray × (List ByteArray) × Unit) => x_.1.size ≤ 100 ∧ x_.2.1.length ≤ 4 ∧ x_.2.1.all isName = true, fun (x_ : ByteArray × (List ByteArray) × Unit) => (words9 x_.1 x_.2.1, ())⟩
abbrev W_spec_l9Words_fWords9_2 (w : ByteArray) (l : (List ByteArray)) : LInv := ⟨[⟨.s, 0, true, .el .str⟩, ⟨.s, 5, true, .el .int⟩], fun _ (x_ : ByteArray × Int × Unit) => 0 ≤ x_.2.1 ∧ x_.2.1 ≤ l.length ∧ x_.1.size ≤ 100 + 9 * x_.2.1 ∧ words9 x_.1 (l.drop x_.2.1.toNat) = words9 w l, fun (x_ : ByteArray × Int × Unit) => l.length - x_.2.1.toNat⟩
theorem k183_149 : fWords9.ok Tryz.prog 183 := Fct.of (S := fWords9) (L := fun ⟨w, l, _⟩ => fun | 2 => some (W_spec_l9Words_fWords9_2 w l) | _ => none) (kp := [0,1,4,5,9,1000009]) E149ok Tryz.func183 (by kernel_rfl) (by kernel_rfl) (by
  rintro ⟨(w : ByteArray), (l : List ByteArray), _⟩ hp
  refine holds_of (X := lpx (W_spec_l9Words_fWords9_2 w l) (w, ((0 : Int), ())) fun (y1 : ByteArray × Int × PUnit) bk1 =>
 .br (decide (y1.2.1 < (↑l.length : Int)))
 (.ob (sameSize y1.1 (⟨#[32]⟩ : ByteArray)) <| .ob ((0 : Int) ≤ y1.2.1 ∧ y1.2.1 < (↑l.length : Int)) <| .ob (sameSize (y1.1 ++ (⟨#[32]⟩ : ByteArray)) (l.getD y1.2.1.toNat default)) <| .ob (l = l) <| .ob (Value.string (⟨#[]⟩ : ByteArray) = Value.string (⟨#[]⟩ : ByteArray)) <| .ob (bk1 (y1.1 ++ (⟨#[32]⟩ : ByteArray) ++ l.getD y1.2.1.toNat default, (IntKind.i64.wrap (y1.2.1 + (1 : Int)), ()))) <| .ok)
 (.leaf (mkR fWords9.rs (y1.1, ())) [] [])) (by kernel_rfl) ?_
  refine lpx_i ?_ fun (y1 : ByteArray × Int × PUnit) i1 => br_i (fun h2 => ob_i ?_ fun o3 => ob_i ?_ fun o4 => ob_i ?_ fun o5 => ob_i rfl fun _ => ob_i rfl fun _ => ob_i ?_ fun o6 => trivial) (fun h2 => Fct.leafY ?_)
  all_goals have hg : ∀ i, i < l.length → (l.getD i default).size ≤ 8 := fun i h => isName_size (List.all_eq_true.1 hp.2.2 _ (getD_in h))
  all_goals try simp only [std1, ne_eq] at *
  all_goals try simp only [W_spec_l9Words_fWords9_2, fWords9, etaS, std1, std2, Nat.reduceAdd, ne_eq, words9_at, words9_end, sameSize, ByteArray.size_append] at *
  all_goals try simp (disch := omega) only [wrapId', toNat1] at *
  all_goals try simp (disch := omega) only [if_pos, if_neg]
  all_goals first | trivial | omega | grind [wrapId', toNat1, good_len, maxLen, words9_at, words9_end, sameSize, ByteArray.size_append])
def E150 : D.Env := E149.add 183 fWords9
theorem E150ok : EOk Tryz.prog E150 := E149ok.add k183_149
def formatPolicy (p : SPolicy) : ByteArray := if isPolicy p && p.set_ then (if p.nonce = ⟨#[]⟩ then words9 ⟨#[115, 99, 114, 105, 112, 116]⟩ p.scripts ++ ⟨#[59]⟩ ++ words9 ⟨#[115, 116, 121, 108, 101]⟩ p.styles ++ ⟨#[59]⟩ ++ words9 ⟨#[105, 109, 103]⟩ p.images else words9 ⟨#[115, 99, 114, 105, 112, 116]⟩ p.scripts ++ ⟨#[59]⟩ ++ words9 ⟨#[115, 116, 121, 108, 101]⟩ p.styles ++ ⟨#[59]⟩ ++ words9 ⟨#[105, 109, 103]⟩ p.images ++ ⟨#[59, 110, 111, 110, 99, 101, 32]⟩ ++ p.nonce) else ⟨#[]⟩
theorem isPolicy_set {p : SPolicy} (h : isPolicy p = true) (hs : p.set_ = true) : p.scripts.all isName = true ∧ p.scripts.length ≤ 4 ∧ p.styles.all isName = true ∧ p.styles.length ≤ 4 ∧ p.images.all isName = true ∧ p.images.length ≤ 4 ∧ p.nonce.size ≤ 20 := by
  simp only [isPolicy, hs, if_true, Bool.and_eq_true, Bool.or_eq_true, decide_eq_true_eq] at h
  obtain ⟨⟨⟨⟨a1, a2⟩, a3, a4⟩, a5, a6⟩, a7⟩ := h
  refine ⟨a1, a2, a3, a4, a5, a6, ?_⟩
  rcases a7 with h | h
  · rw [h]; exact Nat.zero_le _
  · simp only [isValue, Bool.and_eq_true, decide_eq_true_eq] at h; omega
theorem words9_sz {l : List ByteArray} {w : ByteArray} (h : l.all isName = true) (hl : l.length ≤ 4) (hw : w.size ≤ 6) : (words9 w l).size ≤ 42 := by
  have := words9_size l w h; omega
def fFormatPolicy : Fct := ⟨[.v (.el .policy)], [.el .str], fun (x_ : SPolicy × Unit) => szPolicy x_.1 ≤ 1099511627776, fun (x_ : SPolicy × Unit) => (formatPolicy x_.1, ())⟩
theorem k162_150 : fFormatPolicy.ok Tryz.prog 162 := Fct.of (S := fFormatPolicy) (L := fun _ _ => none) (kp := [1,2,3,11,27,1000011,1000027]) E150ok Tryz.func162 (by kernel_rfl) (by kernel_rfl) (by
  rintro ⟨(p : SPolicy), _⟩ hp
  refine holds_of (X := .cl fIsPolicy (p, ()) fun z2 =>
 .br (!z2.1)
 (.leaf (mkR fFormatPolicy.rs ((⟨#[]⟩ : ByteArray), ())) [] [])
 (.br (!p.set_)
 (.leaf (mkR fFormatPolicy.rs ((⟨#[]⟩ : ByteArray), ())) [] [])
 (.ob (fWords9.pre
 ((⟨#[115, 99, 114, 105, 112, 116]⟩ : ByteArray),
 p.scripts, ())) <| .lt (ByteArray × PUnit) (fWords9.fn
 ((⟨#[115, 99, 114, 105, 112, 116]⟩ : ByteArray),
 p.scripts, ())) fun z3 =>
 .ob (sameSize z3.1 (⟨#[59]⟩ : ByteArray)) <| .ob (fWords9.pre
 ((⟨#[115, 116, 121, 108, 101]⟩ : ByteArray), p.styles, ())) <| .lt (ByteArray × PUnit) (fWords9.fn
 ((⟨#[115, 116, 121, 108, 101]⟩ : ByteArray), p.styles, ())) fun z4 =>
 .ob (sameSize (z3.1 ++ (⟨#[59]⟩ : ByteArray)) z4.1) <| .ob (sameSize (z3.1 ++ (⟨#[59]⟩ : ByteArray) ++ z4.1) (⟨#[59]⟩ : ByteArray)) <| .cl fWords9 ((⟨#[105, 109, 103]⟩ : ByteArray), p.images, ()) fun z5 =>
 .ob (sameSize (z3.1 ++ (⟨#[59]⟩ : ByteArray) ++ z4.1 ++ (⟨#[59]⟩ : ByteArray)) z5.1) <| .br (!p.nonce.toList == (⟨#[]⟩ : ByteArray).toList)
 (.ob (sameSize
 (z3.1 ++ (⟨#[59]⟩ : ByteArray) ++ z4.1 ++ (⟨#[59]⟩ : ByteArray) ++ z5.1)
 { data := #[59, 110, 111, 110, 99, 101, 32] :
 ByteArray }) <| .ob (sameSize
 (z3.1 ++ (⟨#[59]⟩ : ByteArray) ++ z4.1 ++ (⟨#[59]⟩ : ByteArray) ++ z5.1 ++
 { data := #[59, 110, 111, 110, 99, 101, 32] :
 ByteArray })
 p.nonce) <| .leaf (mkR fFormatPolicy.rs (z3.1 ++ (⟨#[59]⟩ : ByteArray) ++ z4.1 ++ (⟨#[59]⟩ : ByteArray) ++ z5.1 ++
 { data := #[59, 110, 111, 110, 99, 101, 32] :
 ByteArray } ++
 p.nonce, ())) [] [])
 (.leaf (mkR fFormatPolicy.rs (z3.1 ++ (⟨#[59]⟩ : ByteArray) ++ z4.1 ++ (⟨#[59]⟩ : ByteArray) ++ z5.1, ())) [] [])))) (by kernel_rfl) ?_
  refine cl_i ?_ fun o1 => (br_i (fun h2 => Fct.leafY ?_) (fun h2 => br_i (fun h3 => Fct.leafY ?_) (fun h3 => ob_i ?_ fun o4 => lt_i (ob_i ?_ fun o5 => ob_i ?_ fun o6 => lt_i (ob_i ?_ fun o7 => ob_i ?_ fun o8 => cl_i ?_ fun o9 => (ob_i ?_ fun o10 => br_i (fun h11 => ob_i ?_ fun o12 => ob_i ?_ fun o13 => Fct.leafY ?_) (fun h11 => Fct.leafY ?_)))))))
  all_goals try simp only [std1, ne_eq] at *
  all_goals try simp only [fFormatPolicy, fIsPolicy, fWords9, etaS, std1, std2, Nat.reduceAdd, ne_eq] at *
  all_goals first | trivial | omega | skip
  all_goals try (have hA : isPolicy p = true := by assumption
                 have hB : p.set_ = true := by assumption
                 obtain ⟨a1, a2, a3, a4, a5, a6, a7⟩ := isPolicy_set hA hB)
  all_goals try have b1 := words9_sz (w := ⟨#[115, 99, 114, 105, 112, 116]⟩) a1 a2 (by decide)
  all_goals try have b2 := words9_sz (w := ⟨#[115, 116, 121, 108, 101]⟩) a3 a4 (by decide)
  all_goals try have b3 := words9_sz (w := ⟨#[105, 109, 103]⟩) a5 a6 (by decide)
  all_goals try simp only [std1, ne_eq] at *
  all_goals try simp only [fFormatPolicy, fIsPolicy, fWords9, etaS, std1, std2, Nat.reduceAdd, ne_eq, formatPolicy, sameSize, ByteArray.size_append] at *
  all_goals try simp (disch := omega) only [wrapId', toNat1] at *
  all_goals try simp (disch := omega) only [if_pos, if_neg]
  all_goals first | trivial | omega | grind [wrapId', toNat1, drop_cons, drop_end, good_len, maxLen, formatPolicy, sameSize, ByteArray.size_append])
def E151 : D.Env := E150.add 162 fFormatPolicy
theorem E151ok : EOk Tryz.prog E151 := E150ok.add k162_150
theorem szL_eq {α : Type} (f : α → Nat) (l : List α) : szL f l = (l.map fun x => f x + 1).sum := by
  induction l with
  | nil => rfl
  | cons x l ih =>
    have h3 : szL f (x :: l) = f x + 1 + szL f l := by simp only [szL, List.map_cons, List.sum_cons, List.length_cons]; omega
    rw [h3, ih, List.map_cons, List.sum_cons]
theorem szL_spl (b : UInt8) (s : ByteArray) : szL szString (spl b s) = s.size + 1 := by
  rw [szL_eq, ← toL_len, ← splL_sum b (toL s)]
  unfold spl
  rw [List.map_map]
  congr 1
def fSplit5 : Fct := ⟨[.v (.el .str), .v (.el .u8)], [.sl .str], fun (x_ : ByteArray × Int × Unit) => x_.1.size ≤ 1099511627776 ∧ 0 ≤ x_.2.1 ∧ x_.2.1 ≤ 255, fun (x_ : ByteArray × Int × Unit) => (spl (UInt8.ofNat x_.2.1.toNat) x_.1, ())⟩
theorem byte_eq {s : ByteArray} {i : Nat} {b : Int} (h0 : 0 ≤ b) (h1 : b ≤ 255) : ((s.data.getD i 0).toNat : Int) = b ↔ s.data.getD i 0 = UInt8.ofNat b.toNat := by
  constructor
  · intro h
    apply UInt8.toNat_inj.1
    rw [UInt8.toNat_ofNat']; omega
  · intro h
    rw [h, UInt8.toNat_ofNat']; omega
abbrev W_spec_l5Split_fSplit5_4 (s : ByteArray) (b : Int) : LInv := ⟨[⟨.s, 5, true, .sl .str⟩, ⟨.s, 6, true, .el .int⟩, ⟨.s, 7, true, .el .int⟩], fun _ (x_ : (List ByteArray) × Int × Int × Unit) => 0 ≤ x_.2.2.1 ∧ x_.2.2.1 ≤ s.size + 1 ∧ 0 ≤ x_.2.1 ∧ x_.2.1 ≤ x_.2.2.1 ∧ x_.1.length ≤ x_.2.2.1 ∧ x_.1 ++ splAt (UInt8.ofNat b.toNat) s x_.2.1.toNat x_.2.2.1.toNat = spl (UInt8.ofNat b.toNat) s, fun (x_ : (List ByteArray) × Int × Int × Unit) => (s.size + 1 - x_.2.2.1).toNat⟩
theorem k161_151 : fSplit5.ok Tryz.prog 161 := Fct.of (S := fSplit5) (L := fun ⟨s, b, _⟩ => fun | 4 => some (W_spec_l5Split_fSplit5_4 s b) | _ => none) (kp := [0,1,4,5,6,7,12,25,1000012,1000025]) E151ok Tryz.func161 (by kernel_rfl) (by kernel_rfl) (by
  rintro ⟨(s : ByteArray), (b : Int), _⟩ hp
  refine holds_of (X := lpx (W_spec_l5Split_fSplit5_4 s b) ([], ((0 : Int), ((0 : Int), ()))) fun (y1 : List ByteArray × Int × Int × PUnit) bk1 =>
 .br (decide (y1.2.2.1 ≤ (↑s.size : Int)))
 (.br (y1.2.2.1 == (↑s.size : Int))
 (.ob ((0 : Int) ≤ y1.2.1 ∧ y1.2.1 ≤ y1.2.2.1 ∧ y1.2.2.1 ≤ (↑s.size : Int)) <| .ob (True) <| .ob (Room (y1.1.length + [s.extract y1.2.1.toNat y1.2.2.1.toNat].length) 16) <| .ob (Value.string s = Value.string s) <| .ob (Value.int IntKind.u8 b = Value.int IntKind.u8 b) <| .ob (bk1 (y1.1 ++ [s.extract y1.2.1.toNat y1.2.2.1.toNat], (IntKind.i64.wrap (y1.2.2.1 + (1 : Int)), (IntKind.i64.wrap (y1.2.2.1 + (1 : Int)), ())))) <| .ok)
 (.ob ((0 : Int) ≤ y1.2.2.1 ∧ y1.2.2.1 < (↑s.size : Int)) <| .br ((↑(s.data.getD y1.2.2.1.toNat 0).toNat : Int) == b)
 (.ob ((0 : Int) ≤ y1.2.1 ∧ y1.2.1 ≤ y1.2.2.1 ∧ y1.2.2.1 ≤ (↑s.size : Int)) <| .ob (True) <| .ob (Room (y1.1.length + [s.extract y1.2.1.toNat y1.2.2.1.toNat].length) 16) <| .ob (Value.string s = Value.string s) <| .ob (Value.int IntKind.u8 b = Value.int IntKind.u8 b) <| .ob (bk1 (y1.1 ++ [s.extract y1.2.1.toNat y1.2.2.1.toNat], (IntKind.i64.wrap (y1.2.2.1 + (1 : Int)), (IntKind.i64.wrap (y1.2.2.1 + (1 : Int)), ())))) <| .ok)
 (.ob (Value.string s = Value.string s) <| .ob (Value.int IntKind.u8 b = Value.int IntKind.u8 b) <| .ob (bk1 (y1.1, (y1.2.1, (IntKind.i64.wrap (y1.2.2.1 + (1 : Int)), ())))) <| .ok)))
 (.leaf (mkR fSplit5.rs (y1.1, ())) [] [])) (by kernel_rfl) ?_
  refine lpx_i ?_ fun (y1 : List ByteArray × Int × Int × PUnit) i1 => br_i (fun h2 => br_i (fun h3 => ob_i ?_ fun o4 => ob_i trivial fun _ => ob_i ?_ fun o5 => ob_i rfl fun _ => ob_i rfl fun _ => ob_i ?_ fun o6 => trivial) (fun h3 => ob_i ?_ fun o7 => br_i (fun h8 => ob_i ?_ fun o9 => ob_i trivial fun _ => ob_i ?_ fun o10 => ob_i rfl fun _ => ob_i rfl fun _ => ob_i ?_ fun o11 => trivial) (fun h8 => ob_i rfl fun _ => ob_i rfl fun _ => ob_i ?_ fun o12 => trivial))) (fun h2 => Fct.leafY ?_)
  all_goals obtain ⟨hp1, hp2, hp3⟩ := hp
  all_goals try obtain ⟨a1, a2, a3, a4, a5, a6⟩ := i1
  all_goals try obtain ⟨a1, a2, a3, a4, a5, a6⟩ := i2
  all_goals try obtain ⟨a1, a2, a3, a4, a5, a6⟩ := i3
  all_goals try simp only [std1, ne_eq] at *
  all_goals try simp only [W_spec_l5Split_fSplit5_4, fSplit5, etaS, std1, std2, Nat.reduceAdd, ne_eq, List.length_append, List.length_cons, List.length_nil, byte_eq hp2 hp3] at *
  all_goals try simp (disch := omega) only [wrapId', toNat1] at *
  all_goals first | trivial | omega | exact ⟨by omega, by omega, by omega, by omega, by omega, splAt_zero _ _⟩ | skip
  all_goals first | (refine ⟨⟨by omega, by omega, by omega, by omega, by omega, ?_⟩, by omega⟩; rw [splAt_last _ (by omega)] at a6; rw [splAt_end _ (by omega), List.append_nil]; exact a6) | (refine ⟨⟨by omega, by omega, by omega, by omega, by omega, ?_⟩, by omega⟩; rw [splAt_hit (by omega) (by assumption)] at a6; rw [List.append_assoc]; exact a6) | (refine ⟨⟨by omega, by omega, by omega, by omega, by omega, ?_⟩, by omega⟩; rw [splAt_miss (by omega) (by omega) (by assumption)] at a6; exact a6) | (rw [splAt_end _ (by omega), List.append_nil] at a6; exact a6) | skip)
def E152 : D.Env := E151.add 161 fSplit5
theorem E152ok : EOk Tryz.prog E152 := E151ok.add k161_151
def polCand (s : ByteArray) : SPolicy := ⟨true, (spl 32 ((spl 59 s).getD 0 default)).drop 1, (spl 32 ((spl 59 s).getD 1 default)).drop 1, (spl 32 ((spl 59 s).getD 2 default)).drop 1, if 3 < (spl 59 s).length ∧ 6 < ((spl 59 s).getD 3 default).size then ((spl 59 s).getD 3 default).extract 6 ((spl 59 s).getD 3 default).size else ⟨#[]⟩⟩
def parsePolicy (s : ByteArray) : SPolicy × Bool := if s = ⟨#[]⟩ then (default, true) else if 3 ≤ (spl 59 s).length ∧ formatPolicy (polCand s) = s then (polCand s, true) else (default, false)
theorem spl_get (b : UInt8) (s : ByteArray) (k : Nat) : ((spl b s).getD k default).size ≤ s.size := by
  by_cases h : k < (spl b s).length
  · exact spl_mem (getD_in h)
  · rw [List.getD_eq_getElem?_getD, List.getElem?_eq_none (by omega)]; exact Nat.zero_le _
theorem pol_sz {s n : ByteArray} (hn : n.size ≤ s.size) : szPolicy ⟨true, (spl 32 ((spl 59 s).getD 0 default)).drop 1, (spl 32 ((spl 59 s).getD 1 default)).drop 1, (spl 32 ((spl 59 s).getD 2 default)).drop 1, n⟩ ≤ 4 * (s.size + 1) := by
  have h0 := spl_get 59 s 0
  have h1 := spl_get 59 s 1
  have h2 := spl_get 59 s 2
  have d0 := szL_drop szString (spl 32 ((spl 59 s).getD 0 default)) 1
  have d1 := szL_drop szString (spl 32 ((spl 59 s).getD 1 default)) 1
  have d2 := szL_drop szString (spl 32 ((spl 59 s).getD 2 default)) 1
  rw [szL_spl] at d0 d1 d2
  simp only [szPolicy]; omega
def fParsePolicy : Fct := ⟨[.v (.el .str)], [.el .policy, .el .bool], fun (x_ : ByteArray × Unit) => x_.1.size ≤ 200000000, fun (x_ : ByteArray × Unit) => ((parsePolicy x_.1).1, (parsePolicy x_.1).2, ())⟩
set_option maxHeartbeats 2000000 in
theorem k134_152 : fParsePolicy.ok Tryz.prog 134 := Fct.of (S := fParsePolicy) (L := fun _ _ => none) (kp := [0,2,3,4,5,7,13,40,49,1000007,1000013,1000040,1000049]) E152ok Tryz.func134 (by kernel_rfl) (by kernel_rfl) (by
  rintro ⟨(s : ByteArray), _⟩ hp
  refine holds_of (X := .br (ByteArray.toList s == { data := #[] : ByteArray }.toList)
 (.leaf (.tup [(true, [vb (false), .nl, .nl, .nl, vs ({ data := #[] : ByteArray })]), (false, [vb (true)])]) [] [])
 (.ob (fSplit5.pre (s, (59 : Int), ())) <|
  .lt (List ByteArray × PUnit) (fSplit5.fn (s, (59 : Int), ())) fun z2 =>
  .br (decide ((↑z2.fst.length : Int) < (3 : Int)))
   (.leaf (.tup [(true, [vb (false), .nl, .nl, .nl, vs ({ data := #[] : ByteArray })]), (false, [vb (false)])]) [] [])
   (.ob ((0 : Int) ≤ (0 : Int) ∧ (0 : Int) < (↑z2.fst.length : Int)) <|
    .ob ((0 : Nat) < z2.fst.length) <|
    .ob (fSplit5.pre (z2.fst.getD (0 : Nat) default, (32 : Int), ())) <|
    .lt (List ByteArray × PUnit) (fSplit5.fn (z2.fst.getD (0 : Nat) default, (32 : Int), ())) fun z3 =>
    .ob ((0 : Int) ≤ (1 : Int) ∧ (1 : Int) ≤ (↑z3.fst.length : Int)) <|
     .ob ((0 : Int) ≤ (1 : Int) ∧ (1 : Int) < (↑z2.fst.length : Int)) <|
     .ob ((1 : Nat) < z2.fst.length) <|
     .ob (fSplit5.pre (z2.fst.getD (1 : Nat) default, (32 : Int), ())) <|
     .lt (List ByteArray × PUnit) (fSplit5.fn (z2.fst.getD (1 : Nat) default, (32 : Int), ())) fun z4 =>
     .ob ((0 : Int) ≤ (1 : Int) ∧ (1 : Int) ≤ (↑z4.fst.length : Int)) <|
      .ob ((0 : Int) ≤ (2 : Int) ∧ (2 : Int) < (↑z2.fst.length : Int)) <|
      .ob ((2 : Nat) < z2.fst.length) <|
      .ob (fSplit5.pre (z2.fst.getD (2 : Nat) default, (32 : Int), ())) <|
      .lt (List ByteArray × PUnit) (fSplit5.fn (z2.fst.getD (2 : Nat) default, (32 : Int), ())) fun z5 =>
      .ob ((0 : Int) ≤ (1 : Int) ∧ (1 : Int) ≤ (↑z5.fst.length : Int)) <|
       .br (decide ((↑z2.fst.length : Int) > (3 : Int)))
       (.ob ((0 : Int) ≤ (3 : Int) ∧ (3 : Int) < (↑z2.fst.length : Int)) <|
        .ob ((3 : Nat) < z2.fst.length) <|
        .br (decide ((↑(z2.fst.getD (3 : Nat) default).size : Int) > (6 : Int)))
        (.ob ((0 : Int) ≤ (3 : Int) ∧ (3 : Int) < (↑z2.fst.length : Int)) <|
         .ob ((3 : Nat) < z2.fst.length) <|
         .ob ((0 : Int) ≤ (6 : Int) ∧ (6 : Int) ≤ (↑(z2.fst.getD (3 : Nat) default).size : Int)) <|
         .ob ((1 : Nat) + (z3.fst.length - (1 : Nat)) ≤ z3.fst.length) <|
         .ob ((1 : Nat) + (z4.fst.length - (1 : Nat)) ≤ z4.fst.length) <|
         .ob ((1 : Nat) + (z5.fst.length - (1 : Nat)) ≤ z5.fst.length) <|
         .ob (fFormatPolicy.pre ({ set_ := true, scripts := cut z3.fst (1 : Nat) (z3.fst.length - (1 : Nat)), styles := cut z4.fst (1 : Nat) (z4.fst.length - (1 : Nat)), images := cut z5.fst (1 : Nat) (z5.fst.length - (1 : Nat)), nonce := (z2.fst.getD (3 : Nat) default).extract (6 : Nat) (z2.fst.getD (3 : Nat) default).size : SPolicy }, ())) <|
         .lt (ByteArray × PUnit) (fFormatPolicy.fn ({ set_ := true, scripts := cut z3.fst (1 : Nat) (z3.fst.length - (1 : Nat)), styles := cut z4.fst (1 : Nat) (z4.fst.length - (1 : Nat)), images := cut z5.fst (1 : Nat) (z5.fst.length - (1 : Nat)), nonce := (z2.fst.getD (3 : Nat) default).extract (6 : Nat) (z2.fst.getD (3 : Nat) default).size : SPolicy }, ())) fun z6 =>
         .br (!z6.fst.toList == ByteArray.toList s)
          (.leaf (.tup [(true, [vb (false), .nl, .nl, .nl, vs ({ data := #[] : ByteArray })]), (false, [vb (false)])]) [] [])
          (.ob ((1 : Nat) + (z3.fst.length - (1 : Nat)) ≤ z3.fst.length) <|
           .ob ((1 : Nat) + (z4.fst.length - (1 : Nat)) ≤ z4.fst.length) <|
           .ob ((1 : Nat) + (z5.fst.length - (1 : Nat)) ≤ z5.fst.length) <|
           .leaf (mkR fParsePolicy.rs (⟨true, cut z3.fst (1 : Nat) (z3.fst.length - (1 : Nat)), cut z4.fst (1 : Nat) (z4.fst.length - (1 : Nat)), cut z5.fst (1 : Nat) (z5.fst.length - (1 : Nat)), (z2.fst.getD (3 : Nat) default).extract (6 : Nat) (z2.fst.getD (3 : Nat) default).size⟩, true, ())) [] []))
        (.ob ((1 : Nat) + (z3.fst.length - (1 : Nat)) ≤ z3.fst.length) <|
         .ob ((1 : Nat) + (z4.fst.length - (1 : Nat)) ≤ z4.fst.length) <|
         .ob ((1 : Nat) + (z5.fst.length - (1 : Nat)) ≤ z5.fst.length) <|
         .ob (fFormatPolicy.pre ({ set_ := true, scripts := cut z3.fst (1 : Nat) (z3.fst.length - (1 : Nat)), styles := cut z4.fst (1 : Nat) (z4.fst.length - (1 : Nat)), images := cut z5.fst (1 : Nat) (z5.fst.length - (1 : Nat)), nonce := { data := #[] : ByteArray } : SPolicy }, ())) <|
         .lt (ByteArray × PUnit) (fFormatPolicy.fn ({ set_ := true, scripts := cut z3.fst (1 : Nat) (z3.fst.length - (1 : Nat)), styles := cut z4.fst (1 : Nat) (z4.fst.length - (1 : Nat)), images := cut z5.fst (1 : Nat) (z5.fst.length - (1 : Nat)), nonce := { data := #[] : ByteArray } : SPolicy }, ())) fun z7 =>
         .br (!z7.fst.toList == ByteArray.toList s)
          (.leaf (.tup [(true, [vb (false), .nl, .nl, .nl, vs ({ data := #[] : ByteArray })]), (false, [vb (false)])]) [] [])
          (.ob ((1 : Nat) + (z3.fst.length - (1 : Nat)) ≤ z3.fst.length) <|
           .ob ((1 : Nat) + (z4.fst.length - (1 : Nat)) ≤ z4.fst.length) <|
           .ob ((1 : Nat) + (z5.fst.length - (1 : Nat)) ≤ z5.fst.length) <|
           .leaf (mkR fParsePolicy.rs (⟨true, cut z3.fst (1 : Nat) (z3.fst.length - (1 : Nat)), cut z4.fst (1 : Nat) (z4.fst.length - (1 : Nat)), cut z5.fst (1 : Nat) (z5.fst.length - (1 : Nat)), { data := #[] : ByteArray }⟩, true, ())) [] [])))
       (.ob ((1 : Nat) + (z3.fst.length - (1 : Nat)) ≤ z3.fst.length) <|
        .ob ((1 : Nat) + (z4.fst.length - (1 : Nat)) ≤ z4.fst.length) <|
        .ob ((1 : Nat) + (z5.fst.length - (1 : Nat)) ≤ z5.fst.length) <|
        .ob (fFormatPolicy.pre ({ set_ := true, scripts := cut z3.fst (1 : Nat) (z3.fst.length - (1 : Nat)), styles := cut z4.fst (1 : Nat) (z4.fst.length - (1 : Nat)), images := cut z5.fst (1 : Nat) (z5.fst.length - (1 : Nat)), nonce := { data := #[] : ByteArray } : SPolicy }, ())) <|
        .lt (ByteArray × PUnit) (fFormatPolicy.fn ({ set_ := true, scripts := cut z3.fst (1 : Nat) (z3.fst.length - (1 : Nat)), styles := cut z4.fst (1 : Nat) (z4.fst.length - (1 : Nat)), images := cut z5.fst (1 : Nat) (z5.fst.length - (1 : Nat)), nonce := { data := #[] : ByteArray } : SPolicy }, ())) fun z8 =>
        .br (!z8.fst.toList == ByteArray.toList s)
         (.leaf (.tup [(true, [vb (false), .nl, .nl, .nl, vs ({ data := #[] : ByteArray })]), (false, [vb (false)])]) [] [])
         (.ob ((1 : Nat) + (z3.fst.length - (1 : Nat)) ≤ z3.fst.length) <|
          .ob ((1 : Nat) + (z4.fst.length - (1 : Nat)) ≤ z4.fst.length) <|
          .ob ((1 : Nat) + (z5.fst.length - (1 : Nat)) ≤ z5.fst.length) <|
          .leaf (mkR fParsePolicy.rs (⟨true, cut z3.fst (1 : Nat) (z3.fst.length - (1 : Nat)), cut z4.fst (1 : Nat) (z4.fst.length - (1 : Nat)), cut z5.fst (1 : Nat) (z5.fst.length - (1 : Nat)), { data := #[] : ByteArray }⟩, true, ())) [] []))))) (by kernel_rfl) ?_
  refine br_i (fun h1 => Fct.leafZ (default, true, ()) (by repeat' first | exact rfl | exact trivial | refine And.intro ?_ ?_) ?_) (fun h1 => ob_i ?_ fun o2 => lt_i (br_i (fun h3 => Fct.leafZ (default, false, ()) (by repeat' first | exact rfl | exact trivial | refine And.intro ?_ ?_) ?_) (fun h3 => ob_i ?_ fun o4 => ob_i ?_ fun o5 => ob_i ?_ fun o6 => lt_i (ob_i ?_ fun o7 => ob_i ?_ fun o8 => ob_i ?_ fun o9 => ob_i ?_ fun o10 => lt_i (ob_i ?_ fun o11 => ob_i ?_ fun o12 => ob_i ?_ fun o13 => ob_i ?_ fun o14 => lt_i (ob_i ?_ fun o15 => br_i (fun h16 => ob_i ?_ fun o17 => ob_i ?_ fun o18 => br_i (fun h19 => ob_i ?_ fun o20 => ob_i ?_ fun o21 => ob_i ?_ fun o22 => ob_i ?_ fun o23 => ob_i ?_ fun o24 => ob_i ?_ fun o25 => ob_i ?_ fun o26 => lt_i (br_i (fun h27 => Fct.leafZ (default, false, ()) (by repeat' first | exact rfl | exact trivial | refine And.intro ?_ ?_) ?_) (fun h27 => ob_i ?_ fun o28 => ob_i ?_ fun o29 => ob_i ?_ fun o30 => Fct.leafY ?_))) (fun h19 => ob_i ?_ fun o31 => ob_i ?_ fun o32 => ob_i ?_ fun o33 => ob_i ?_ fun o34 => lt_i (br_i (fun h35 => Fct.leafZ (default, false, ()) (by repeat' first | exact rfl | exact trivial | refine And.intro ?_ ?_) ?_) (fun h35 => ob_i ?_ fun o36 => ob_i ?_ fun o37 => ob_i ?_ fun o38 => Fct.leafY ?_)))) (fun h16 => ob_i ?_ fun o39 => ob_i ?_ fun o40 => ob_i ?_ fun o41 => ob_i ?_ fun o42 => lt_i (br_i (fun h43 => Fct.leafZ (default, false, ()) (by repeat' first | exact rfl | exact trivial | refine And.intro ?_ ?_) ?_) (fun h43 => ob_i ?_ fun o44 => ob_i ?_ fun o45 => ob_i ?_ fun o46 => Fct.leafY ?_)))))))))
  all_goals try simp only [std1, ne_eq] at *
  all_goals try simp only [fFormatPolicy, fParsePolicy, fSplit5, etaS, std1, std2, Nat.reduceAdd, ne_eq, cut_end] at *
  all_goals try simp only [show UInt8.ofNat (Int.toNat 59) = 59 from rfl, show UInt8.ofNat (Int.toNat 32) = 32 from rfl] at *
  all_goals have g0 := spl_get 59 s 0
  all_goals have g1 := spl_get 59 s 1
  all_goals have g2 := spl_get 59 s 2
  all_goals have g3 := spl_get 59 s 3
  all_goals have k0 := spl_len 32 ((spl 59 s).getD 0 default)
  all_goals have k1 := spl_len 32 ((spl 59 s).getD 1 default)
  all_goals have k2 := spl_len 32 ((spl 59 s).getD 2 default)
  all_goals first | trivial | omega | (with_reducible refine Nat.le_trans (pol_sz (Nat.zero_le _)) ?_; omega) | (with_reducible refine Nat.le_trans (pol_sz ?_) ?_; (rw [ByteArray.size_extract]; omega); omega) | skip
  all_goals first | (simp only [parsePolicy]; rw [if_pos (by assumption)]; exact ⟨rfl, rfl⟩) | (simp only [parsePolicy]; rw [if_neg (by assumption), if_neg (by omega)]; exact ⟨rfl, rfl⟩) | (simp only [parsePolicy, polCand]; grind) | skip)
def E153 : D.Env := E152.add 134 fParsePolicy
theorem E153ok : EOk Tryz.prog E153 := E152ok.add k134_152
def isResponse (x : SResponse) : Bool := inRange x.status 100 599 && (inRange x.kind 1 5 && (decide (x.body.size ≤ 400) && (inRange x.age 0 1000 && (parsePolicy x.policy).2)))
def fIsResponse : Fct := ⟨[.v (.el .response)], [.el .bool], fun (x_ : SResponse × Unit) => x_.1.policy.size ≤ 200000000, fun (x_ : SResponse × Unit) => (isResponse x_.1, ())⟩
theorem k105_153 : fIsResponse.ok Tryz.prog 105 := Fct.of (S := fIsResponse) (L := fun _ _ => none) (kp := [1,2,4]) E153ok Tryz.func105 (by kernel_rfl) (by kernel_rfl) (by
  rintro ⟨(x : SResponse), _⟩ hp
  refine holds_of (X := .cl fParsePolicy (x.policy, ()) fun z2 =>
 .cl fInRange (x.status, (100 : Int), (599 : Int), ()) fun z3 =>
 .br (z3.1)
 (.cl fInRange (x.kind, (1 : Int), (5 : Int), ()) fun z4 =>
 .br (z4.1)
 (.br (decide ((↑x.body.size : Int) ≤ (400 : Int)))
 (.cl fInRange (x.age, (0 : Int), (1000 : Int), ()) fun z5 =>
 .br (z5.1)
 (.leaf (mkR fIsResponse.rs (z2.2.1, ())) [] [])
 (.leaf (mkR fIsResponse.rs (false, ())) [] []))
 (.leaf (mkR fIsResponse.rs (false, ())) [] []))
 (.leaf (mkR fIsResponse.rs (false, ())) [] []))
 (.leaf (mkR fIsResponse.rs (false, ())) [] [])) (by kernel_rfl) ?_
  refine cl_i ?_ fun o1 => (cl_i trivial fun _ => (br_i (fun h2 => cl_i trivial fun _ => (br_i (fun h3 => br_i (fun h4 => cl_i trivial fun _ => (br_i (fun h5 => Fct.leafY ?_) (fun h5 => Fct.leafY ?_))) (fun h4 => Fct.leafY ?_)) (fun h3 => Fct.leafY ?_))) (fun h2 => Fct.leafY ?_)))
  all_goals try simp only [std1, ne_eq] at *
  all_goals try simp only [fInRange, fIsResponse, fParsePolicy, etaS, std1, std2, Nat.reduceAdd, ne_eq, isResponse, fParsePolicy, fInRange] at *
  all_goals try simp (disch := omega) only [wrapId', toNat1] at *
  all_goals try simp (disch := omega) only [if_pos, if_neg]
  all_goals first | trivial | omega | grind [wrapId', toNat1, drop_cons, drop_end, good_len, maxLen, isResponse, fParsePolicy, fInRange])
def E154 : D.Env := E153.add 105 fIsResponse
theorem E154ok : EOk Tryz.prog E154 := E153ok.add k105_153
def entOk (all : List SEntry) : List SEntry → Int → Bool
  | [], _ => true
  | e :: l, i => isName e.top && (isName e.to.host && isName e.to.path) && isResponse e.response && decide (e.response.status = 200) && decide (fidx (fun x => decide (x.top = e.top) && decide (x.to = e.to)) all 0 = i) && entOk all l (i + 1)
theorem entOk_at {all l : List SEntry} {i : Nat} {k : Int} (h : i < l.length) : entOk all (l.drop i) k = (isName (l.getD i default).top && (isName (l.getD i default).to.host && isName (l.getD i default).to.path) && isResponse (l.getD i default).response && decide ((l.getD i default).response.status = 200) && decide (fidx (fun x => decide (x.top = (l.getD i default).top) && decide (x.to = (l.getD i default).to)) all 0 = k) && entOk all (l.drop (i + 1)) (k + 1)) := by rw [drop_cons h]; rfl
theorem entOk_end {all l : List SEntry} {i : Nat} {k : Int} (h : l.length ≤ i) : entOk all (l.drop i) k = true := by rw [List.drop_of_length_le h]; rfl
def isCache (c : SCache) : Bool := entOk c.entries c.entries 0 && decide (c.entries.length ≤ 100)
def fIsCache : Fct := ⟨[.v (.el .cache)], [.el .bool], fun (x_ : SCache × Unit) => szCache x_.1 ≤ 200000000, fun (x_ : SCache × Unit) => (isCache x_.1, ())⟩
theorem szEntry_get {l : List SEntry} {i : Nat} (h : i < l.length) : szEntry (l.getD i default) + l.length ≤ szL szEntry l := szL_get szEntry h
abbrev W_spec_IsCache_fIsCache_2 (c : SCache) : LInv := ⟨[⟨.s, 3, true, .el .int⟩, ⟨.b, 1, false, .el .cache⟩], fun (z_ : Int × SCache × Unit) (x_ : Int × SCache × Unit) => (0 ≤ x_.1 ∧ x_.1 ≤ c.entries.length ∧ entOk c.entries (c.entries.drop x_.1.toNat) x_.1 = entOk c.entries c.entries 0) ∧ x_.2.1 = z_.2.1, fun (x_ : Int × SCache × Unit) => c.entries.length - x_.1.toNat⟩
theorem k180_154 : fIsCache.ok Tryz.prog 180 := Fct.of (S := fIsCache) (L := fun ⟨c, _⟩ => fun | 2 => some (W_spec_IsCache_fIsCache_2 c) | _ => none) (kp := [1,2,3,4,9,48,1000009,1000048]) E154ok Tryz.func180 (by kernel_rfl) (by kernel_rfl) (by
  rintro ⟨(c : SCache), _⟩ hp
  refine holds_of (X := lpx (W_spec_IsCache_fIsCache_2 c) ((0 : Int), (c, ())) fun (y1 : Int × SCache × PUnit) bk1 =>
 .br (decide (y1.1 < (↑y1.2.1.entries.length : Int)))
 (.ob ((0 : Int) ≤ y1.1 ∧ y1.1 < (↑y1.2.1.entries.length : Int)) <| .cl fIsName ((y1.2.1.entries.getD y1.1.toNat default).top, ()) fun z2 =>
 .br (!z2.1)
 (.leaf (mkR fIsCache.rs (false, ())) [] [])
 (.cl fIsAddr ((y1.2.1.entries.getD y1.1.toNat default).to, ()) fun z3 =>
 .br (!z3.1)
 (.leaf (mkR fIsCache.rs (false, ())) [] [])
 (.cl fIsResponse ((y1.2.1.entries.getD y1.1.toNat default).response, ()) fun z4 =>
 .br (!z4.1)
 (.leaf (mkR fIsCache.rs (false, ())) [] [])
 (.br ((y1.2.1.entries.getD y1.1.toNat default).response.status != (200 : Int))
 (.leaf (mkR fIsCache.rs (false, ())) [] [])
 (.cl fFindEntry (y1.2.1, (y1.2.1.entries.getD y1.1.toNat default).top, (y1.2.1.entries.getD y1.1.toNat default).to, ()) fun z5 =>
 .br (z5.1 != y1.1)
 (.leaf (mkR fIsCache.rs (false, ())) [] [])
 (.ob (bk1 (IntKind.i64.wrap (y1.1 + (1 : Int)), (y1.2.1, ()))) <| .ok))))))
 (.leaf (mkR fIsCache.rs (decide ((↑y1.2.1.entries.length : Int) ≤ (100 : Int)), ())) [] [])) (by kernel_rfl) ?_
  refine lpx_i ?_ fun (y1 : Int × SCache × PUnit) i1 => br_i (fun h2 => ob_i ?_ fun o3 => cl_i ?_ fun o4 => (br_i (fun h5 => Fct.leafY ?_) (fun h5 => cl_i ?_ fun o6 => (br_i (fun h7 => Fct.leafY ?_) (fun h7 => cl_i ?_ fun o8 => (br_i (fun h9 => Fct.leafY ?_) (fun h9 => br_i (fun h10 => Fct.leafY ?_) (fun h10 => cl_i ?_ fun o11 => (br_i (fun h12 => Fct.leafY ?_) (fun h12 => ob_i ?_ fun o13 => trivial)))))))))) (fun h2 => Fct.leafY ?_)
  all_goals have hl := szL_len szEntry c.entries
  all_goals have hg : ∀ i, i < c.entries.length → (c.entries.getD i default).top.size ≤ 200000000 ∧ (c.entries.getD i default).to.host.size ≤ 200000000 ∧ (c.entries.getD i default).to.path.size ≤ 200000000 ∧ (c.entries.getD i default).response.policy.size ≤ 200000000 := fun i h => by have := szEntry_get h; have hp2 : szCache c ≤ 200000000 := hp; simp only [szEntry, szCache, szAddr, szResponse] at *; omega
  all_goals try simp only [std1, ne_eq] at *
  all_goals try simp only [W_spec_IsCache_fIsCache_2, fFindEntry, fIsAddr, fIsCache, fIsName, fIsResponse, etaS, std1, std2, Nat.reduceAdd, ne_eq, isCache, fIsName, fIsAddr, fIsResponse, fFindEntry, szCache, entOk_at, entOk_end] at *
  all_goals try simp (disch := omega) only [wrapId', toNat1] at *
  all_goals try simp (disch := omega) only [if_pos, if_neg]
  all_goals first | trivial | omega | grind [wrapId', toNat1, drop_cons, drop_end, good_len, maxLen, isCache, fIsName, fIsAddr, fIsResponse, fFindEntry, szCache, entOk_at, entOk_end])
def E155 : D.Env := E154.add 180 fIsCache
theorem E155ok : EOk Tryz.prog E155 := E154ok.add k180_154
def laysTrim_r : Go.Shelf.Ren := ⟨fun | 0 => 0 | 1 => 1 | 2 => 2 | 101 => 174 | 109 => 165 | 110 => 144 | 129 => 229 | 138 => 200 | 143 => 201 | 146 => 173 | 156 => 194 | 165 => 204 | 166 => 205 | 169 => 206 | 171 => 177 | 195 => 208 | 197 => 209 | 206 => 202 | 208 => 192 | 217 => 221 | 218 => 210 | 219 => 211 | 221 => 191 | 224 => 223 | 225 => 222 | 240 => 214 | 241 => 215 | 243 => 195 | 246 => 207 | 260 => 220 | 266 => 233 | 267 => 224 | 268 => 199 | 276 => 226 | 277 => 227 | 283 => 216 | 284 => 217 | 285 => 218 | 286 => 219 | 314 => 234 | 317 => 228 | 318 => 230 | 319 => 231 | 320 => 232 | 337 => 235 | 338 => 236 | 347 => 237 | 348 => 238 | 349 => 239 | 350 => 240 | 351 => 241 | 352 => 242 | 353 => 243 | 354 => 244 | 355 => 245 | 356 => 246 | 357 => 247 | 358 => 248 | 359 => 249 | 360 => 250 | 361 => 251 | 362 => 252 | 366 => 253 | 367 => 261 | _ => 0, fun | 0 => 0 | 1 => 1 | 2 => 2 | 3 => 3 | 4 => 4 | 5 => 5 | 6 => 6 | 7 => 7 | 8 => 8 | 9 => 9 | 10 => 10 | 11 => 11 | 12 => 12 | 13 => 13 | 14 => 14 | 15 => 15 | 16 => 16 | 17 => 17 | 18 => 18 | 19 => 19 | 20 => 20 | 21 => 21 | 22 => 188 | 23 => 245 | 24 => 145 | 27 => 260 | 28 => 38 | 30 => 134 | 31 => 31 | 32 => 240 | 33 => 210 | 34 => 169 | 36 => 238 | 37 => 237 | 43 => 251 | 46 => 282 | 47 => 292 | 51 => 289 | 52 => 299 | 53 => 277 | 54 => 278 | 55 => 273 | 61 => 243 | 67 => 257 | 70 => 261 | 71 => 262 | 72 => 263 | 73 => 264 | 74 => 265 | 75 => 266 | 76 => 267 | 77 => 268 | 80 => 269 | 81 => 307 | 83 => 219 | 84 => 270 | 101 => 118 | 102 => 106 | 103 => 220 | 104 => 209 | 105 => 271 | 106 => 272 | 111 => 291 | 113 => 256 | 114 => 172 | 119 => 293 | 127 => 275 | 137 => 294 | 138 => 295 | 139 => 296 | 146 => 297 | 150 => 259 | 151 => 298 | 164 => 284 | 165 => 285 | 166 => 286 | 171 => 276 | 172 => 279 | 173 => 280 | 174 => 281 | 211 => 287 | 212 => 288 | 213 => 290 | 232 => 300 | 233 => 301 | 238 => 302 | 239 => 303 | 240 => 304 | 241 => 305 | 242 => 306 | 243 => 308 | 244 => 309 | 245 => 310 | 246 => 311 | 247 => 312 | 248 => 313 | 249 => 314 | _ => 0, fun | 1 => 0 | 3 => 2 | 4 => 3 | 17 => 1 | 18 => 4 | 19 => 5 | _ => 0⟩
theorem laysTrim : Go.Proofs.Lays.n101 Tryz.prog laysTrim_r where
  mixed := by kernel_rfl
  f101 := by kernel_rfl
  f206 := by kernel_rfl
  f208 := by kernel_rfl
  t3 := by kernel_rfl
  a3 := fun _ => by kernel_rfl
  z3 := fun _ => by kernel_rfl
  v3 := fun _ => by kernel_rfl
  t4 := by kernel_rfl
  a4 := fun _ => by kernel_rfl
  z4 := fun _ => by kernel_rfl
  v4 := fun _ => by kernel_rfl
  t9 := by kernel_rfl
  a9 := fun _ => by kernel_rfl
  z9 := fun _ => by kernel_rfl
  v9 := fun _ => by kernel_rfl
theorem k174_155 : fTrimPrefix.ok Tryz.prog 174 :=
  trim_ok (Go.Proofs.Any.strings_TrimPrefix laysTrim)
def E156 : D.Env := E155.add 174 fTrimPrefix
theorem E156ok : EOk Tryz.prog E156 := E155ok.add k174_155
def laysSplit_r : Go.Shelf.Ren := ⟨fun | 0 => 0 | 1 => 1 | 2 => 2 | 101 => 174 | 109 => 165 | 110 => 144 | 129 => 229 | 138 => 200 | 143 => 201 | 146 => 173 | 156 => 194 | 165 => 204 | 166 => 205 | 169 => 206 | 171 => 177 | 195 => 208 | 197 => 209 | 206 => 202 | 208 => 192 | 217 => 221 | 218 => 210 | 219 => 211 | 221 => 191 | 224 => 223 | 225 => 222 | 240 => 214 | 241 => 215 | 243 => 195 | 246 => 207 | 260 => 220 | 266 => 233 | 267 => 224 | 268 => 199 | 276 => 226 | 277 => 227 | 283 => 216 | 284 => 217 | 285 => 218 | 286 => 219 | 314 => 234 | 317 => 228 | 318 => 230 | 319 => 231 | 320 => 232 | 337 => 235 | 338 => 236 | 347 => 237 | 348 => 238 | 349 => 239 | 350 => 240 | 351 => 241 | 352 => 242 | 353 => 243 | 354 => 244 | 355 => 245 | 356 => 246 | 357 => 247 | 358 => 248 | 359 => 249 | 360 => 250 | 361 => 251 | 362 => 252 | 366 => 253 | 367 => 261 | _ => 0, fun | 0 => 0 | 1 => 1 | 2 => 2 | 3 => 3 | 4 => 4 | 5 => 5 | 6 => 6 | 7 => 7 | 8 => 8 | 9 => 9 | 10 => 10 | 11 => 11 | 12 => 12 | 13 => 13 | 14 => 14 | 15 => 15 | 16 => 16 | 17 => 17 | 18 => 18 | 19 => 19 | 20 => 20 | 21 => 21 | 22 => 188 | 23 => 245 | 24 => 145 | 27 => 260 | 28 => 38 | 30 => 134 | 31 => 31 | 32 => 240 | 33 => 210 | 34 => 169 | 36 => 238 | 37 => 237 | 43 => 251 | 46 => 282 | 47 => 292 | 51 => 289 | 52 => 299 | 53 => 277 | 54 => 278 | 55 => 273 | 61 => 243 | 67 => 257 | 70 => 261 | 71 => 262 | 72 => 263 | 73 => 264 | 74 => 265 | 75 => 266 | 76 => 267 | 77 => 268 | 80 => 269 | 81 => 307 | 83 => 219 | 84 => 270 | 101 => 118 | 102 => 106 | 103 => 220 | 104 => 209 | 105 => 271 | 106 => 272 | 111 => 291 | 113 => 256 | 114 => 172 | 119 => 293 | 127 => 275 | 137 => 294 | 138 => 295 | 139 => 296 | 146 => 297 | 150 => 259 | 151 => 298 | 164 => 284 | 165 => 285 | 166 => 286 | 171 => 276 | 172 => 279 | 173 => 280 | 174 => 281 | 211 => 287 | 212 => 288 | 213 => 290 | 232 => 300 | 233 => 301 | 238 => 302 | 239 => 303 | 240 => 304 | 241 => 305 | 242 => 306 | 243 => 308 | 244 => 309 | 245 => 310 | 246 => 311 | 247 => 312 | 248 => 313 | 249 => 314 | _ => 0, fun | 1 => 0 | 3 => 2 | 4 => 3 | 17 => 1 | 18 => 4 | 19 => 5 | _ => 0⟩
theorem laysSplit : Go.Proofs.Lays.n146 Tryz.prog laysSplit_r where
  mixed := by kernel_rfl
  f138 := by kernel_rfl
  f143 := by kernel_rfl
  f146 := by kernel_rfl
  f195 := by kernel_rfl
  f197 := by kernel_rfl
  f217 := by kernel_rfl
  f218 := by kernel_rfl
  f219 := by kernel_rfl
  f221 := by kernel_rfl
  f224 := by kernel_rfl
  f225 := by kernel_rfl
  f260 := by kernel_rfl
  f266 := by kernel_rfl
  f267 := by kernel_rfl
  f268 := by kernel_rfl
  f314 := by kernel_rfl
  t0 := by kernel_rfl
  a0 := fun _ => by kernel_rfl
  z0 := fun _ => by kernel_rfl
  v0 := fun _ => by kernel_rfl
  t3 := by kernel_rfl
  a3 := fun _ => by kernel_rfl
  z3 := fun _ => by kernel_rfl
  v3 := fun _ => by kernel_rfl
  t4 := by kernel_rfl
  a4 := fun _ => by kernel_rfl
  z4 := fun _ => by kernel_rfl
  v4 := fun _ => by kernel_rfl
  t5 := by kernel_rfl
  a5 := fun _ => by kernel_rfl
  z5 := fun _ => by kernel_rfl
  v5 := fun _ => by kernel_rfl
  t9 := by kernel_rfl
  a9 := fun _ => by kernel_rfl
  z9 := fun _ => by kernel_rfl
  v9 := fun _ => by kernel_rfl
  t21 := by kernel_rfl
  a21 := fun _ => by kernel_rfl
  z21 := fun _ => by kernel_rfl
  v21 := fun _ => by kernel_rfl
  t31 := by kernel_rfl
  a31 := fun _ => by kernel_rfl
  z31 := fun _ => by kernel_rfl
  v31 := fun _ => by kernel_rfl
  t46 := by kernel_rfl
  a46 := fun _ => by kernel_rfl
  z46 := fun _ => by kernel_rfl
  v46 := fun _ => by kernel_rfl
  t51 := by kernel_rfl
  a51 := fun _ => by kernel_rfl
  z51 := fun _ => by kernel_rfl
  v51 := fun _ => by kernel_rfl
  t105 := by kernel_rfl
  a105 := fun _ => by kernel_rfl
  z105 := fun _ => by kernel_rfl
  v105 := fun _ => by kernel_rfl
  t119 := by kernel_rfl
  a119 := fun _ => by kernel_rfl
  z119 := fun _ => by kernel_rfl
  t138 := by kernel_rfl
  a138 := fun _ => by kernel_rfl
  z138 := fun _ => by kernel_rfl
  v138 := fun _ => by kernel_rfl
  t139 := by kernel_rfl
  a139 := fun _ => by kernel_rfl
  z139 := fun _ => by kernel_rfl
  v139 := fun _ => by kernel_rfl
  t146 := by kernel_rfl
  a146 := fun _ => by kernel_rfl
  z146 := fun _ => by kernel_rfl
  v146 := fun _ => by kernel_rfl
  g1 := by kernel_rfl
  g3 := by kernel_rfl
  g4 := by kernel_rfl
theorem k173_156 : fSplit.ok Tryz.prog 173 :=
  split_ok fun s sep w h hs h1 => by obtain ⟨m, hm⟩ := maxLen_cell (zero := #[.int .i64 0]) (t := 3) (g := laysSplit_r.g 1) h (of_decide_eq_true (by kernel_rfl)) (by kernel_rfl) rfl (by kernel_rfl) (by kernel_rfl) Tryz.underlying3; exact Go.Proofs.Any.strings_Split laysSplit (by kernel_rfl) s sep m w hs hm h1
def E157 : D.Env := E156.add 173 fSplit
theorem E157ok : EOk Tryz.prog E157 := E156ok.add k173_156
def laysJoin_r : Go.Shelf.Ren := ⟨fun | 0 => 0 | 1 => 1 | 2 => 2 | 101 => 174 | 109 => 165 | 110 => 144 | 129 => 229 | 138 => 200 | 143 => 201 | 146 => 173 | 156 => 194 | 165 => 204 | 166 => 205 | 169 => 206 | 171 => 177 | 195 => 208 | 197 => 209 | 206 => 202 | 208 => 192 | 217 => 221 | 218 => 210 | 219 => 211 | 221 => 191 | 224 => 223 | 225 => 222 | 240 => 214 | 241 => 215 | 243 => 195 | 246 => 207 | 260 => 220 | 266 => 233 | 267 => 224 | 268 => 199 | 276 => 226 | 277 => 227 | 283 => 216 | 284 => 217 | 285 => 218 | 286 => 219 | 314 => 234 | 317 => 228 | 318 => 230 | 319 => 231 | 320 => 232 | 337 => 235 | 338 => 236 | 347 => 237 | 348 => 238 | 349 => 239 | 350 => 240 | 351 => 241 | 352 => 242 | 353 => 243 | 354 => 244 | 355 => 245 | 356 => 246 | 357 => 247 | 358 => 248 | 359 => 249 | 360 => 250 | 361 => 251 | 362 => 252 | 366 => 253 | 367 => 261 | _ => 0, fun | 0 => 0 | 1 => 1 | 2 => 2 | 3 => 3 | 4 => 4 | 5 => 5 | 6 => 6 | 7 => 7 | 8 => 8 | 9 => 9 | 10 => 10 | 11 => 11 | 12 => 12 | 13 => 13 | 14 => 14 | 15 => 15 | 16 => 16 | 17 => 17 | 18 => 18 | 19 => 19 | 20 => 20 | 21 => 21 | 22 => 188 | 23 => 245 | 24 => 145 | 27 => 260 | 28 => 38 | 30 => 134 | 31 => 31 | 32 => 240 | 33 => 210 | 34 => 169 | 36 => 238 | 37 => 237 | 43 => 251 | 46 => 282 | 47 => 292 | 51 => 289 | 52 => 299 | 53 => 277 | 54 => 278 | 55 => 273 | 61 => 243 | 67 => 257 | 70 => 261 | 71 => 262 | 72 => 263 | 73 => 264 | 74 => 265 | 75 => 266 | 76 => 267 | 77 => 268 | 80 => 269 | 81 => 307 | 83 => 219 | 84 => 270 | 101 => 118 | 102 => 106 | 103 => 220 | 104 => 209 | 105 => 271 | 106 => 272 | 111 => 291 | 113 => 256 | 114 => 172 | 119 => 293 | 127 => 275 | 137 => 294 | 138 => 295 | 139 => 296 | 146 => 297 | 150 => 259 | 151 => 298 | 164 => 284 | 165 => 285 | 166 => 286 | 171 => 276 | 172 => 279 | 173 => 280 | 174 => 281 | 211 => 287 | 212 => 288 | 213 => 290 | 232 => 300 | 233 => 301 | 238 => 302 | 239 => 303 | 240 => 304 | 241 => 305 | 242 => 306 | 243 => 308 | 244 => 309 | 245 => 310 | 246 => 311 | 247 => 312 | 248 => 313 | 249 => 314 | _ => 0, fun | 1 => 0 | 3 => 2 | 4 => 3 | 17 => 1 | 18 => 4 | 19 => 5 | _ => 0⟩
theorem laysJoin : Go.Proofs.Lays.n156 Tryz.prog laysJoin_r where
  mixed := by kernel_rfl
  f156 := by kernel_rfl
  f165 := by kernel_rfl
  f166 := by kernel_rfl
  f169 := by kernel_rfl
  f240 := by kernel_rfl
  f241 := by kernel_rfl
  f276 := by kernel_rfl
  f277 := by kernel_rfl
  t0 := by kernel_rfl
  a0 := fun _ => by kernel_rfl
  z0 := fun _ => by kernel_rfl
  v0 := fun _ => by kernel_rfl
  t3 := by kernel_rfl
  a3 := fun _ => by kernel_rfl
  z3 := fun _ => by kernel_rfl
  v3 := fun _ => by kernel_rfl
  t4 := by kernel_rfl
  a4 := fun _ => by kernel_rfl
  z4 := fun _ => by kernel_rfl
  v4 := fun _ => by kernel_rfl
  t9 := by kernel_rfl
  a9 := fun _ => by kernel_rfl
  z9 := fun _ => by kernel_rfl
  v9 := fun _ => by kernel_rfl
  t20 := by kernel_rfl
  a20 := fun _ => by kernel_rfl
  z20 := fun _ => by kernel_rfl
  v20 := fun _ => by kernel_rfl
  t31 := by kernel_rfl
  a31 := fun _ => by kernel_rfl
  z31 := fun _ => by kernel_rfl
  v31 := fun _ => by kernel_rfl
  t37 := by kernel_rfl
  a37 := fun _ => by kernel_rfl
  z37 := fun _ => by kernel_rfl
  v37 := fun _ => by kernel_rfl
  t70 := by kernel_rfl
  a70 := fun _ => by kernel_rfl
  z70 := fun _ => by kernel_rfl
  v70 := fun _ => by kernel_rfl
  t72 := by kernel_rfl
  a72 := fun _ => by kernel_rfl
  z72 := fun _ => by kernel_rfl
  v72 := fun _ => by kernel_rfl
  t75 := by kernel_rfl
  a75 := fun _ => by kernel_rfl
  z75 := fun _ => by kernel_rfl
  v75 := fun _ => by kernel_rfl
  t76 := by kernel_rfl
  a76 := fun _ => by kernel_rfl
  z76 := fun _ => by kernel_rfl
  v76 := fun _ => by kernel_rfl
  t127 := by kernel_rfl
  a127 := fun _ => by kernel_rfl
  z127 := fun _ => by kernel_rfl
  v127 := fun _ => by kernel_rfl
  t164 := by kernel_rfl
  a164 := fun _ => by kernel_rfl
  z164 := fun _ => by kernel_rfl
  v164 := fun _ => by kernel_rfl
theorem laysJoinX : Go.Proofs.Builder.Extra Tryz.prog laysJoin_r := ⟨⟨by kernel_rfl, by kernel_rfl⟩, by kernel_rfl, fun _ => by kernel_rfl, fun _ => by kernel_rfl, fun _ => by kernel_rfl, by kernel_rfl, by kernel_rfl, by kernel_rfl, by decide⟩
theorem k194_157 : fJoin.ok Tryz.prog 194 :=
  join_ok (fun _ _ => trivial) (Go.Proofs.Any.strings_Join_none laysJoin laysJoinX) (Go.Proofs.Any.strings_Join laysJoin laysJoinX)
def E158 : D.Env := E157.add 194 fJoin
theorem E158ok : EOk Tryz.prog E158 := E157ok.add k194_157
theorem joinL_cons (sep x : List UInt8) : ∀ l : List (List UInt8), joinL sep (x :: l) = x ++ (l.map (sep ++ ·)).flatten
  | [] => by simp [joinL]
  | y :: l => by rw [joinL, joinL_cons sep y l, List.map_cons, List.flatten_cons]; simp
theorem words9_toL : ∀ (l : List ByteArray) (w : ByteArray), toL (words9 w l) = toL w ++ (l.map fun x => 32 :: toL x).flatten
  | [], w => by simp [words9]
  | x :: l, w => by
    rw [words9, words9_toL l, toL_append, toL_append, List.map_cons, List.flatten_cons]
    simp [toL]
theorem joinS_words (w : ByteArray) (l : List ByteArray) : joinS (w :: l) ⟨#[32]⟩ = words9 w l := by
  unfold joinS
  rw [← ofL_toL (words9 w l), words9_toL, List.map_cons, joinL_cons, List.map_map]
  congr 2
theorem k175_158 : fFormatPolicy.ok Tryz.prog 175 := Fct.of (S := fFormatPolicy) (L := fun _ _ => none) (kp := [1,2,3,11,33,1000011,1000033]) E158ok Tryz.func175 (by kernel_rfl) (by kernel_rfl) (by
  rintro ⟨(p : SPolicy), _⟩ hp
  refine holds_of (X := .cl fIsPolicy (p, ()) fun z2 =>
 .br (!z2.1)
 (.leaf (mkR fFormatPolicy.rs ((⟨#[]⟩ : ByteArray), ())) [] [])
 (.br (!p.set_)
 (.leaf (mkR fFormatPolicy.rs ((⟨#[]⟩ : ByteArray), ())) [] [])
 (.ob (True) <| .ob (Room (1 + p.scripts.length) 16) <| .cl fJoin ([(⟨#[115, 99, 114, 105, 112, 116]⟩ : ByteArray)] ++ p.scripts, (⟨#[32]⟩ : ByteArray), ()) fun z3 =>
 .ob (sameSize z3.1 (⟨#[59]⟩ : ByteArray)) <| .ob (True) <| .ob (Room (1 + p.styles.length) 16) <| .cl fJoin ([(⟨#[115, 116, 121, 108, 101]⟩ : ByteArray)] ++ p.styles, (⟨#[32]⟩ : ByteArray), ()) fun z4 =>
 .ob (sameSize (z3.1 ++ (⟨#[59]⟩ : ByteArray)) z4.1) <| .ob (sameSize (z3.1 ++ (⟨#[59]⟩ : ByteArray) ++ z4.1) (⟨#[59]⟩ : ByteArray)) <| .ob (True) <| .ob (Room (1 + p.images.length) 16) <| .cl fJoin ([(⟨#[105, 109, 103]⟩ : ByteArray)] ++ p.images, (⟨#[32]⟩ : ByteArray), ()) fun z5 =>
 .ob (sameSize (z3.1 ++ (⟨#[59]⟩ : ByteArray) ++ z4.1 ++ (⟨#[59]⟩ : ByteArray)) z5.1) <| .br (!p.nonce.toList == (⟨#[]⟩ : ByteArray).toList)
 (.ob (sameSize (⟨#[59, 110, 111, 110, 99, 101, 32]⟩ : ByteArray) p.nonce) <| .ob (sameSize (z3.1 ++ (⟨#[59]⟩ : ByteArray) ++ z4.1 ++ (⟨#[59]⟩ : ByteArray) ++ z5.1) ((⟨#[59, 110, 111, 110, 99, 101, 32]⟩ : ByteArray) ++ p.nonce)) <| .leaf (mkR fFormatPolicy.rs (z3.1 ++ (⟨#[59]⟩ : ByteArray) ++ z4.1 ++ (⟨#[59]⟩ : ByteArray) ++ z5.1 ++ ((⟨#[59, 110, 111, 110, 99, 101, 32]⟩ : ByteArray) ++ p.nonce), ())) [] [])
 (.leaf (mkR fFormatPolicy.rs (z3.1 ++ (⟨#[59]⟩ : ByteArray) ++ z4.1 ++ (⟨#[59]⟩ : ByteArray) ++ z5.1, ())) [] [])))) (by kernel_rfl) ?_
  refine cl_i ?_ fun o1 => (br_i (fun h2 => Fct.leafY ?_) (fun h2 => br_i (fun h3 => Fct.leafY ?_) (fun h3 => ob_i trivial fun _ => ob_i ?_ fun o4 => cl_i ?_ fun o5 => (ob_i ?_ fun o6 => ob_i trivial fun _ => ob_i ?_ fun o7 => cl_i ?_ fun o8 => (ob_i ?_ fun o9 => ob_i ?_ fun o10 => ob_i trivial fun _ => ob_i ?_ fun o11 => cl_i ?_ fun o12 => (ob_i ?_ fun o13 => br_i (fun h14 => ob_i ?_ fun o15 => ob_i ?_ fun o16 => Fct.leafY ?_) (fun h14 => Fct.leafY ?_)))))))
  all_goals try simp only [std1, ne_eq] at *
  all_goals try simp only [fFormatPolicy, fIsPolicy, fJoin, etaS, std1, std2, Nat.reduceAdd, ne_eq, fJoin, List.singleton_append, joinS_words] at *
  all_goals first | trivial | omega | skip
  all_goals try (have hA : isPolicy p = true := by assumption
                 have hB : p.set_ = true := by assumption
                 obtain ⟨a1, a2, a3, a4, a5, a6, a7⟩ := isPolicy_set hA hB)
  all_goals try have b1 := words9_sz (w := ⟨#[115, 99, 114, 105, 112, 116]⟩) a1 a2 (by decide)
  all_goals try have b2 := words9_sz (w := ⟨#[115, 116, 121, 108, 101]⟩) a3 a4 (by decide)
  all_goals try have b3 := words9_sz (w := ⟨#[105, 109, 103]⟩) a5 a6 (by decide)
  all_goals try simp only [std1, ne_eq] at *
  all_goals try simp only [fFormatPolicy, fIsPolicy, fJoin, etaS, std1, std2, Nat.reduceAdd, ne_eq, formatPolicy, sameSize, ByteArray.size_append, ByteArray.append_assoc] at *
  all_goals try simp (disch := omega) only [wrapId', toNat1] at *
  all_goals try simp (disch := omega) only [if_pos, if_neg]
  all_goals first | trivial | omega | grind [wrapId', toNat1, drop_cons, drop_end, good_len, maxLen, formatPolicy, sameSize, ByteArray.size_append, ByteArray.append_assoc])
def E159 : D.Env := E158.add 175 fFormatPolicy
theorem E159ok : EOk Tryz.prog E159 := E158ok.add k175_158
theorem name_no {b : UInt8} (hb : nameByte b = false) {s : ByteArray} (h : isName s = true) : b ∉ toL s := by
  intro hm
  simp only [isName, Bool.and_eq_true, allB, List.all_eq_true] at h
  rw [h.1 b hm] at hb; cases hb
theorem words9_no {b : UInt8} (hb : nameByte b = false) (h32 : b ≠ 32) {l : List ByteArray} {w : ByteArray} (hl : l.all isName = true) (hw : b ∉ toL w) : b ∉ toL (words9 w l) := by
  rw [words9_toL]
  simp only [List.mem_append, not_or, List.mem_flatten, List.mem_map, not_exists, not_and]
  refine ⟨hw, ?_⟩
  rintro _ ⟨x, hx, rfl⟩ hm
  rcases List.mem_cons.1 hm with rfl | hm
  · exact h32 rfl
  · exact name_no hb (List.all_eq_true.1 hl x hx) hm
theorem value_no {b : UInt8} (hb : valByte b = false) {s : ByteArray} (h : isValue s = true) : b ∉ toL s := by
  intro hm
  simp only [isValue, Bool.and_eq_true, allB, List.all_eq_true] at h
  rw [h.1 b hm] at hb; cases hb
theorem spl_one {b : UInt8} {s : ByteArray} (h : b ∉ toL s) : spl b s = [s] := by
  unfold spl; rw [splL_none h]; simp [ofL_toL]
theorem spl_more {b : UInt8} {s t : ByteArray} (h : b ∉ toL s) : spl b (s ++ ⟨#[b]⟩ ++ t) = s :: spl b t := by
  unfold spl
  rw [toL_append, toL_append, show toL ⟨#[b]⟩ = [b] from rfl, List.append_assoc, List.singleton_append, splL_app _ h, List.map_cons, ofL_toL]
theorem format_spl {q : SPolicy} (hp : isPolicy q = true) (hs : q.set_ = true) : (q.nonce = ⟨#[]⟩ ∧ (spl 59 (formatPolicy q)).length = 3) ∨ (q.nonce ≠ ⟨#[]⟩ ∧ (spl 59 (formatPolicy q)).length = 4 ∧ (spl 59 (formatPolicy q)).getD 3 default = ⟨#[110, 111, 110, 99, 101, 32]⟩ ++ q.nonce) := by
  obtain ⟨a1, a2, a3, a4, a5, a6, a7⟩ := isPolicy_set hp hs
  have b1 := words9_no (b := 59) rfl (by decide) a1 (w := ⟨#[115, 99, 114, 105, 112, 116]⟩) (by decide)
  have b2 := words9_no (b := 59) rfl (by decide) a3 (w := ⟨#[115, 116, 121, 108, 101]⟩) (by decide)
  have b3 := words9_no (b := 59) rfl (by decide) a5 (w := ⟨#[105, 109, 103]⟩) (by decide)
  by_cases hn : q.nonce = ⟨#[]⟩
  · refine .inl ⟨hn, ?_⟩
    have e : formatPolicy q = words9 ⟨#[115, 99, 114, 105, 112, 116]⟩ q.scripts ++ ⟨#[59]⟩ ++ (words9 ⟨#[115, 116, 121, 108, 101]⟩ q.styles ++ ⟨#[59]⟩ ++ words9 ⟨#[105, 109, 103]⟩ q.images) := by
      unfold formatPolicy
      rw [if_pos (by simp [hp, hs]), if_pos hn]
      simp only [ByteArray.append_assoc]
    rw [e, spl_more b1, spl_more b2, spl_one b3]
    rfl
  · refine .inr ⟨hn, ?_⟩
    have hv : isValue q.nonce = true := by
      simp only [isPolicy, hs, if_true, Bool.and_eq_true, Bool.or_eq_true, decide_eq_true_eq] at hp
      exact hp.2.resolve_left hn
    have b4 : (59 : UInt8) ∉ toL (⟨#[110, 111, 110, 99, 101, 32]⟩ ++ q.nonce) := by
      rw [toL_append, List.mem_append, not_or]
      exact ⟨by decide, value_no rfl hv⟩
    have e : formatPolicy q = words9 ⟨#[115, 99, 114, 105, 112, 116]⟩ q.scripts ++ ⟨#[59]⟩ ++ (words9 ⟨#[115, 116, 121, 108, 101]⟩ q.styles ++ ⟨#[59]⟩ ++ (words9 ⟨#[105, 109, 103]⟩ q.images ++ ⟨#[59]⟩ ++ (⟨#[110, 111, 110, 99, 101, 32]⟩ ++ q.nonce))) := by
      unfold formatPolicy
      rw [if_pos (by simp [hp, hs]), if_neg hn]
      have : (⟨#[59, 110, 111, 110, 99, 101, 32]⟩ : ByteArray) = ⟨#[59]⟩ ++ ⟨#[110, 111, 110, 99, 101, 32]⟩ := by decide
      rw [this]
      simp only [ByteArray.append_assoc]
    rw [e, spl_more b1, spl_more b2, spl_more b3, spl_one b4]
    exact ⟨rfl, rfl⟩
def polCandI (s : ByteArray) : SPolicy := { polCand s with nonce := if 3 < (spl 59 s).length then trimP ((spl 59 s).getD 3 default) ⟨#[110, 111, 110, 99, 101, 32]⟩ else ⟨#[]⟩ }
theorem format_ne {q : SPolicy} {s : ByteArray} (h : formatPolicy q = s) (hs : s ≠ ⟨#[]⟩) : isPolicy q = true ∧ q.set_ = true := by
  unfold formatPolicy at h
  split at h
  · rename_i hc; simpa using hc
  · exact absurd h.symm hs
theorem trimP_app (n : ByteArray) : trimP (⟨#[110, 111, 110, 99, 101, 32]⟩ ++ n) ⟨#[110, 111, 110, 99, 101, 32]⟩ = n := by
  unfold trimP Go.Lib.trimPrefix Go.Lib.hasPrefix
  apply ByteArray.ext
  simp
theorem extr_app (n : ByteArray) : (⟨#[110, 111, 110, 99, 101, 32]⟩ ++ n : ByteArray).extract 6 (⟨#[110, 111, 110, 99, 101, 32]⟩ ++ n : ByteArray).size = n := by
  rw [← ofL_toL (ByteArray.extract _ _ _), toL_extract, toL_append, List.take_of_length_le (by rw [List.length_append, toL_len, toL_len, ByteArray.size_append]; exact Nat.le_refl _)]
  rw [show toL ⟨#[110, 111, 110, 99, 101, 32]⟩ = [110, 111, 110, 99, 101, 32] from rfl]
  simp only [List.cons_append, List.nil_append, List.drop_succ_cons, List.drop_zero, ofL_toL]
theorem cand_same {s : ByteArray} (hs : s ≠ ⟨#[]⟩) : (formatPolicy (polCandI s) = s ↔ formatPolicy (polCand s) = s) ∧ (formatPolicy (polCand s) = s → polCandI s = polCand s) := by
  have key : ∀ q : SPolicy, formatPolicy q = s → (3 < (spl 59 s).length → q.nonce = trimP ((spl 59 s).getD 3 default) ⟨#[110, 111, 110, 99, 101, 32]⟩ ∧ q.nonce = (if 3 < (spl 59 s).length ∧ 6 < ((spl 59 s).getD 3 default).size then ((spl 59 s).getD 3 default).extract 6 ((spl 59 s).getD 3 default).size else ⟨#[]⟩)) := by
    intro q hq hl
    obtain ⟨h1, h2⟩ := format_ne hq hs
    rcases format_spl h1 h2 with ⟨_, h3⟩ | ⟨h3, h4, h5⟩
    · rw [hq] at h3; omega
    · rw [hq] at h4 h5
      rw [h5, trimP_app]
      refine ⟨rfl, ?_⟩
      have hsz : 0 < q.nonce.size := by
        rcases Nat.eq_zero_or_pos q.nonce.size with h | h
        · exact absurd (ByteArray.ext (Array.eq_empty_of_size_eq_zero h)) h3
        · exact h
      rw [if_pos ⟨hl, by rw [ByteArray.size_append, show ByteArray.size ⟨#[110, 111, 110, 99, 101, 32]⟩ = 6 from rfl]; omega⟩, extr_app]
  have same : (formatPolicy (polCandI s) = s ∨ formatPolicy (polCand s) = s) → polCandI s = polCand s := by
    intro h
    by_cases hl : 3 < (spl 59 s).length
    · have hn : (polCandI s).nonce = (polCand s).nonce := by
        have e1 : (polCandI s).nonce = trimP ((spl 59 s).getD 3 default) ⟨#[110, 111, 110, 99, 101, 32]⟩ := by simp only [polCandI]; rw [if_pos hl]
        rcases h with h | h
        · exact (key _ h hl).2
        · rw [e1]; exact (key _ h hl).1.symm
      have e : polCandI s = { polCand s with nonce := (polCandI s).nonce } := rfl
      rw [e, hn]
    · have e : polCandI s = { polCand s with nonce := (polCandI s).nonce } := rfl
      have h1 : (polCandI s).nonce = ⟨#[]⟩ := by simp only [polCandI]; rw [if_neg hl]
      have h2 : (polCand s).nonce = ⟨#[]⟩ := by simp only [polCand]; rw [if_neg (fun hh => hl hh.1)]
      rw [e, h1, ← h2]
  exact ⟨⟨fun h => same (.inl h) ▸ h, fun h => (same (.inr h)).symm ▸ h⟩, fun h => same (.inr h)⟩
theorem parse_I {s : ByteArray} (h1 : s ≠ ⟨#[]⟩) (h3 : 3 ≤ (spl 59 s).length) {q : SPolicy} (hq : q = polCandI s) : (formatPolicy q ≠ s → parsePolicy s = (default, false)) ∧ (formatPolicy q = s → parsePolicy s = (q, true)) := by
  subst hq
  have hc := cand_same h1
  unfold parsePolicy
  rw [if_neg h1]
  refine ⟨fun h => ?_, fun h => ?_⟩
  · rw [if_neg]; rintro ⟨_, h4⟩; exact h (hc.1.2 h4)
  · have h4 := hc.1.1 h
    rw [if_pos ⟨h3, h4⟩, hc.2 h4]
theorem candI_a {s : ByteArray} (h : 3 < (spl 59 s).length) : (⟨true, (spl 32 ((spl 59 s).getD 0 default)).drop 1, (spl 32 ((spl 59 s).getD 1 default)).drop 1, (spl 32 ((spl 59 s).getD 2 default)).drop 1, trimP ((spl 59 s).getD 3 default) ⟨#[110, 111, 110, 99, 101, 32]⟩⟩ : SPolicy) = polCandI s := by
  unfold polCandI polCand; rw [if_pos h]
theorem candI_b {s : ByteArray} (h : ¬ 3 < (spl 59 s).length) : (⟨true, (spl 32 ((spl 59 s).getD 0 default)).drop 1, (spl 32 ((spl 59 s).getD 1 default)).drop 1, (spl 32 ((spl 59 s).getD 2 default)).drop 1, ⟨#[]⟩⟩ : SPolicy) = polCandI s := by
  unfold polCandI polCand; rw [if_neg h]
theorem trimP_size (s p : ByteArray) : (trimP s p).size ≤ s.size := by
  unfold trimP Go.Lib.trimPrefix
  rw [show ∀ l : List UInt8, ByteArray.size ⟨l.toArray⟩ = l.length from fun l => by simp [ByteArray.size]]
  split
  · rw [List.length_drop]; exact Nat.sub_le _ _
  · exact Nat.le_refl _
set_option maxHeartbeats 2000000 in
theorem k150_159 : fParsePolicy.ok Tryz.prog 150 := Fct.of (S := fParsePolicy) (L := fun _ _ => none) (kp := [0,2,3,4,5,6,7,9,15,18,19,39,48,1000009,1000015,1000019,1000039,1000048,64000516,200000019]) E159ok Tryz.func150 (by kernel_rfl) (by kernel_rfl) (by
  rintro ⟨(s : ByteArray), _⟩ hp
  refine holds_of (X := .br (ByteArray.toList s == (⟨#[]⟩ : ByteArray).toList)
 (.leaf (.tup [(true, [vb (false), .nl, .nl, .nl, vs ((⟨#[]⟩ : ByteArray))]), (false, [vb (true)])]) [] [])
 (.cl fSplit (s, (⟨#[59]⟩ : ByteArray), ()) fun z2 =>
 .br (decide ((↑z2.1.length : Int) < (3 : Int)))
 (.leaf (.tup [(true, [vb (false), .nl, .nl, .nl, vs ((⟨#[]⟩ : ByteArray))]), (false, [vb (false)])]) [] [])
 (.ob ((0 : Int) ≤ (0 : Int) ∧ (0 : Int) < (↑z2.1.length : Int)) <| .ob (0 < z2.1.length) <| .cl fSplit (z2.1.getD 0 default, (⟨#[32]⟩ : ByteArray), ()) fun z3 =>
 .ob ((0 : Int) ≤ (1 : Int) ∧ (1 : Int) ≤ (↑z3.1.length : Int)) <| .ob ((0 : Int) ≤ (0 : Int) ∧ (0 : Int) < (3 : Int)) <| .ob (1 + (z3.1.length - 1) ≤ z3.1.length) <| .ob ((0 : Int) ≤ (1 : Int) ∧ (1 : Int) < (↑z2.1.length : Int)) <| .ob (1 < z2.1.length) <| .cl fSplit (z2.1.getD 1 default, (⟨#[32]⟩ : ByteArray), ()) fun z4 =>
 .ob ((0 : Int) ≤ (1 : Int) ∧ (1 : Int) ≤ (↑z4.1.length : Int)) <| .ob ((0 : Int) ≤ (1 : Int) ∧ (1 : Int) < (3 : Int)) <| .ob (1 + (z4.1.length - 1) ≤ z4.1.length) <| .ob ((0 : Int) ≤ (2 : Int) ∧ (2 : Int) < (↑z2.1.length : Int)) <| .ob (2 < z2.1.length) <| .cl fSplit (z2.1.getD 2 default, (⟨#[32]⟩ : ByteArray), ()) fun z5 =>
 .ob ((0 : Int) ≤ (1 : Int) ∧ (1 : Int) ≤ (↑z5.1.length : Int)) <| .ob ((0 : Int) ≤ (2 : Int) ∧ (2 : Int) < (3 : Int)) <| .ob (1 + (z5.1.length - 1) ≤ z5.1.length) <| .ob ((0 : Int) ≤ (0 : Int) ∧ (0 : Int) < (3 : Int)) <| .ob ((0 : Int) ≤ (1 : Int) ∧ (1 : Int) < (3 : Int)) <| .ob ((0 : Int) ≤ (2 : Int) ∧ (2 : Int) < (3 : Int)) <| .br (decide ((↑z2.1.length : Int) > (3 : Int)))
 (.ob ((0 : Int) ≤ (3 : Int) ∧ (3 : Int) < (↑z2.1.length : Int)) <| .ob (3 < z2.1.length) <| .cl fTrimPrefix (z2.1.getD 3 default, (⟨#[110, 111, 110, 99, 101, 32]⟩ : ByteArray), ()) fun z6 =>
 .cl fFormatPolicy ((⟨true, cut z3.1 1 (z3.1.length - 1), cut z4.1 1 (z4.1.length - 1), cut z5.1 1 (z5.1.length - 1), z6.1⟩ : SPolicy), ()) fun z7 =>
 .br (!z7.1.toList == ByteArray.toList s)
 (.leaf (.tup [(true, [vb (false), .nl, .nl, .nl, vs ((⟨#[]⟩ : ByteArray))]), (false, [vb (false)])]) [] [])
 (.cl fCopyPolicy ((⟨true, cut z3.1 1 (z3.1.length - 1), cut z4.1 1 (z4.1.length - 1), cut z5.1 1 (z5.1.length - 1), z6.1⟩ : SPolicy), ()) fun z8 =>
 .leaf (mkR fParsePolicy.rs (z8.1, true, ())) [] []))
 (.cl fFormatPolicy ((⟨true, cut z3.1 1 (z3.1.length - 1), cut z4.1 1 (z4.1.length - 1), cut z5.1 1 (z5.1.length - 1), (⟨#[]⟩ : ByteArray)⟩ : SPolicy), ()) fun z9 =>
 .br (!z9.1.toList == ByteArray.toList s)
 (.leaf (.tup [(true, [vb (false), .nl, .nl, .nl, vs ((⟨#[]⟩ : ByteArray))]), (false, [vb (false)])]) [] [])
 (.cl fCopyPolicy ((⟨true, cut z3.1 1 (z3.1.length - 1), cut z4.1 1 (z4.1.length - 1), cut z5.1 1 (z5.1.length - 1), (⟨#[]⟩ : ByteArray)⟩ : SPolicy), ()) fun z10 =>
 .leaf (mkR fParsePolicy.rs (z10.1, true, ())) [] []))))) (by kernel_rfl) ?_
  refine br_i (fun h1 => Fct.leafZ (default, true, ()) (by repeat' first | exact rfl | exact trivial | refine And.intro ?_ ?_) ?_) (fun h1 => cl_i ?_ fun o2 => (br_i (fun h3 => Fct.leafZ (default, false, ()) (by repeat' first | exact rfl | exact trivial | refine And.intro ?_ ?_) ?_) (fun h3 => ob_i ?_ fun o4 => ob_i ?_ fun o5 => cl_i ?_ fun o6 => (ob_i ?_ fun o7 => ob_i ?_ fun o8 => ob_i ?_ fun o9 => ob_i ?_ fun o10 => ob_i ?_ fun o11 => cl_i ?_ fun o12 => (ob_i ?_ fun o13 => ob_i ?_ fun o14 => ob_i ?_ fun o15 => ob_i ?_ fun o16 => ob_i ?_ fun o17 => cl_i ?_ fun o18 => (ob_i ?_ fun o19 => ob_i ?_ fun o20 => ob_i ?_ fun o21 => ob_i ?_ fun o22 => ob_i ?_ fun o23 => ob_i ?_ fun o24 => br_i (fun h25 => ob_i ?_ fun o26 => ob_i ?_ fun o27 => cl_i trivial fun _ => (cl_i ?_ fun o28 => (br_i (fun h29 => Fct.leafZ (default, false, ()) (by repeat' first | exact rfl | exact trivial | refine And.intro ?_ ?_) ?_) (fun h29 => cl_i ?_ fun o30 => (Fct.leafY ?_))))) (fun h25 => cl_i ?_ fun o31 => (br_i (fun h32 => Fct.leafZ (default, false, ()) (by repeat' first | exact rfl | exact trivial | refine And.intro ?_ ?_) ?_) (fun h32 => cl_i ?_ fun o33 => (Fct.leafY ?_))))))))))
  all_goals try simp only [std1, ne_eq] at *
  all_goals try simp only [fCopyPolicy, fFormatPolicy, fParsePolicy, fSplit, fTrimPrefix, etaS, std1, std2, Nat.reduceAdd, ne_eq, fSplit, fTrimPrefix, cut_end] at *
  all_goals try simp only [show (ByteArray.mk #[59]).data.getD 0 0 = 59 from rfl, show (ByteArray.mk #[32]).data.getD 0 0 = 32 from rfl, show (ByteArray.mk #[59]).size = 1 from rfl, show (ByteArray.mk #[32]).size = 1 from rfl] at *
  all_goals have g0 := spl_get 59 s 0
  all_goals have g1 := spl_get 59 s 1
  all_goals have g2 := spl_get 59 s 2
  all_goals have g3 := spl_get 59 s 3
  all_goals have k0 := spl_len 32 ((spl 59 s).getD 0 default)
  all_goals have k1 := spl_len 32 ((spl 59 s).getD 1 default)
  all_goals have k2 := spl_len 32 ((spl 59 s).getD 2 default)
  all_goals have tz := trimP_size ((spl 59 s).getD 3 default) ⟨#[110, 111, 110, 99, 101, 32]⟩
  all_goals first | trivial | omega | (with_reducible refine Nat.le_trans (pol_sz (Nat.zero_le _)) ?_; omega) | (with_reducible refine Nat.le_trans (pol_sz ?_) ?_; omega; omega) | skip
  all_goals first | (simp only [parsePolicy]; rw [if_pos (by assumption)]; exact ⟨rfl, rfl⟩) | (simp only [parsePolicy]; rw [if_neg (by assumption), if_neg (by omega)]; exact ⟨rfl, rfl⟩) | skip
  all_goals first | (have hq := candI_a (s := s) (by omega)) | (have hq := candI_b (s := s) (by omega))
  all_goals obtain ⟨p1, p2⟩ := parse_I (by assumption) (by omega) hq
  all_goals first | (rw [p1 (by assumption)]; exact ⟨rfl, rfl⟩) | (rw [p2 (by assumption)]; exact ⟨rfl, rfl⟩))
def E160 : D.Env := E159.add 150 fParsePolicy
theorem E160ok : EOk Tryz.prog E160 := E159ok.add k150_159
theorem k115_160 : fIsResponse.ok Tryz.prog 115 := Fct.of (S := fIsResponse) (L := fun _ _ => none) (kp := [1,2,4]) E160ok Tryz.func115 (by kernel_rfl) (by kernel_rfl) (by
  rintro ⟨(x : SResponse), _⟩ hp
  refine holds_of (X := .cl fParsePolicy (x.policy, ()) fun z2 =>
 .br (z2.2.1)
 (.cl fInRange (x.status, (100 : Int), (599 : Int), ()) fun z3 =>
 .br (z3.1)
 (.cl fInRange (x.kind, (1 : Int), (5 : Int), ()) fun z4 =>
 .br (z4.1)
 (.br (decide ((↑x.body.size : Int) ≤ (400 : Int)))
 (.cl fInRange (x.age, (0 : Int), (1000 : Int), ()) fun z5 =>
 .leaf (mkR fIsResponse.rs (z5.1, ())) [] [])
 (.leaf (mkR fIsResponse.rs (false, ())) [] []))
 (.leaf (mkR fIsResponse.rs (false, ())) [] []))
 (.leaf (mkR fIsResponse.rs (false, ())) [] []))
 (.leaf (mkR fIsResponse.rs (false, ())) [] [])) (by kernel_rfl) ?_
  refine cl_i ?_ fun o1 => (br_i (fun h2 => cl_i trivial fun _ => (br_i (fun h3 => cl_i trivial fun _ => (br_i (fun h4 => br_i (fun h5 => cl_i trivial fun _ => (Fct.leafY ?_)) (fun h5 => Fct.leafY ?_)) (fun h4 => Fct.leafY ?_))) (fun h3 => Fct.leafY ?_))) (fun h2 => Fct.leafY ?_))
  all_goals try simp only [std1, ne_eq] at *
  all_goals try simp only [fInRange, fIsResponse, fParsePolicy, etaS, std1, std2, Nat.reduceAdd, ne_eq, isResponse, fParsePolicy, fInRange] at *
  all_goals try simp (disch := omega) only [wrapId', toNat1] at *
  all_goals try simp (disch := omega) only [if_pos, if_neg]
  all_goals first | trivial | omega | grind [wrapId', toNat1, drop_cons, drop_end, good_len, maxLen, isResponse, fParsePolicy, fInRange])
def E161 : D.Env := E160.add 115 fIsResponse
theorem E161ok : EOk Tryz.prog E161 := E160ok.add k115_160
abbrev W_impl_IsCache_fIsCache_2 (c : SCache) : LInv := ⟨[⟨.s, 8, true, .el .int⟩, ⟨.b, 1, false, .el .cache⟩], fun (z_ : Int × SCache × Unit) (x_ : Int × SCache × Unit) => (0 ≤ x_.1 ∧ x_.1 ≤ c.entries.length ∧ entOk c.entries (c.entries.drop x_.1.toNat) x_.1 = entOk c.entries c.entries 0) ∧ x_.2.1 = z_.2.1, fun (x_ : Int × SCache × Unit) => c.entries.length - x_.1.toNat⟩
theorem k190_161 : fIsCache.ok Tryz.prog 190 := Fct.of (S := fIsCache) (L := fun ⟨c, _⟩ => fun | 2 => some (W_impl_IsCache_fIsCache_2 c) | _ => none) (kp := [1,2,3,4,6,7,8,9,44,1000009,1000044]) E161ok Tryz.func190 (by kernel_rfl) (by kernel_rfl) (by
  rintro ⟨(c : SCache), _⟩ hp
  refine holds_of (X := lpx (W_impl_IsCache_fIsCache_2 c) ((0 : Int), (c, ())) fun (y1 : Int × SCache × PUnit) bk1 =>
 .br (decide (y1.1 < (↑c.entries.length : Int)))
 (.ob ((0 : Int) ≤ y1.1 ∧ y1.1 < (↑c.entries.length : Int)) <| .cl fIsName ((c.entries.getD y1.1.toNat default).top, ()) fun z2 =>
 .br (!z2.1)
 (.leaf (mkR fIsCache.rs (false, ())) [] [])
 (.cl fIsAddr ((c.entries.getD y1.1.toNat default).to, ()) fun z3 =>
 .br (!z3.1)
 (.leaf (mkR fIsCache.rs (false, ())) [] [])
 (.cl fIsResponse ((c.entries.getD y1.1.toNat default).response, ()) fun z4 =>
 .br (!z4.1)
 (.leaf (mkR fIsCache.rs (false, ())) [] [])
 (.br ((c.entries.getD y1.1.toNat default).response.status != (200 : Int))
 (.leaf (mkR fIsCache.rs (false, ())) [] [])
 (.cl fFindEntry (y1.2.1, (c.entries.getD y1.1.toNat default).top, (c.entries.getD y1.1.toNat default).to, ()) fun z5 =>
 .br (z5.1 != y1.1)
 (.leaf (mkR fIsCache.rs (false, ())) [] [])
 (.ob (c.entries = c.entries) <| .ob (Value.int IntKind.i64 (↑c.entries.length : Int) = Value.int IntKind.i64 (↑c.entries.length : Int)) <| .ob (bk1 (IntKind.i64.wrap (y1.1 + (1 : Int)), (y1.2.1, ()))) <| .ok))))))
 (.leaf (mkR fIsCache.rs (decide ((↑y1.2.1.entries.length : Int) ≤ (100 : Int)), ())) [] [])) (by kernel_rfl) ?_
  refine lpx_i ?_ fun (y1 : Int × SCache × PUnit) i1 => br_i (fun h2 => ob_i ?_ fun o3 => cl_i ?_ fun o4 => (br_i (fun h5 => Fct.leafY ?_) (fun h5 => cl_i ?_ fun o6 => (br_i (fun h7 => Fct.leafY ?_) (fun h7 => cl_i ?_ fun o8 => (br_i (fun h9 => Fct.leafY ?_) (fun h9 => br_i (fun h10 => Fct.leafY ?_) (fun h10 => cl_i ?_ fun o11 => (br_i (fun h12 => Fct.leafY ?_) (fun h12 => ob_i rfl fun _ => ob_i rfl fun _ => ob_i ?_ fun o13 => trivial)))))))))) (fun h2 => Fct.leafY ?_)
  all_goals have hl := szL_len szEntry c.entries
  all_goals have hg : ∀ i, i < c.entries.length → (c.entries.getD i default).top.size ≤ 200000000 ∧ (c.entries.getD i default).to.host.size ≤ 200000000 ∧ (c.entries.getD i default).to.path.size ≤ 200000000 ∧ (c.entries.getD i default).response.policy.size ≤ 200000000 := fun i h => by have := szEntry_get h; have hp2 : szCache c ≤ 200000000 := hp; simp only [szEntry, szCache, szAddr, szResponse] at *; omega
  all_goals try simp only [std1, ne_eq] at *
  all_goals try simp only [W_impl_IsCache_fIsCache_2, fFindEntry, fIsAddr, fIsCache, fIsName, fIsResponse, etaS, std1, std2, Nat.reduceAdd, ne_eq, isCache, fIsName, fIsAddr, fIsResponse, fFindEntry, szCache, entOk_at, entOk_end] at *
  all_goals try simp (disch := omega) only [wrapId', toNat1] at *
  all_goals try simp (disch := omega) only [if_pos, if_neg]
  all_goals first | trivial | omega | grind [wrapId', toNat1, drop_cons, drop_end, good_len, maxLen, isCache, fIsName, fIsAddr, fIsResponse, fFindEntry, szCache, entOk_at, entOk_end])
def E162 : D.Env := E161.add 190 fIsCache
theorem E162ok : EOk Tryz.prog E162 := E161ok.add k190_161
theorem szL_cons {α : Type} (f : α → Nat) (x : α) (l : List α) : szL f (x :: l) = f x + 1 + szL f l := by simp only [szL, List.map_cons, List.sum_cons, List.length_cons]; omega
theorem szL_snoc {α : Type} (f : α → Nat) (l : List α) (x : α) : szL f (l ++ [x]) = szL f l + (f x + 1) := by
  induction l with
  | nil => rw [List.nil_append, szL_cons]; simp [szL]
  | cons y l ih => rw [List.cons_append, szL_cons, szL_cons, ih]; omega
theorem szL_mod {α : Type} (f : α → Nat) (e : α) : ∀ (l : List α) (i : Nat), szL f (l.modify i fun _ => e) ≤ szL f l + (f e + 1)
  | [], i => by cases i <;> simp [List.modify, szL]
  | y :: l, 0 => by rw [List.modify_zero_cons, szL_cons, szL_cons]; omega
  | y :: l, i + 1 => by rw [List.modify_succ_cons, szL_cons, szL_cons]; have := szL_mod f e l i; omega
def putEntry (c : SCache) (e : SEntry) (i : Int) : SCache := if 0 ≤ i then ⟨c.entries.modify i.toNat fun _ => e⟩ else ⟨c.entries ++ [e]⟩
def entry (t : ByteArray) (a : SAddr) (x : SResponse) (now : Int) : SEntry := ⟨t, a, x, IntKind.i64.wrap (now + x.age)⟩
def storeEntry (c : SCache) (t : ByteArray) (a : SAddr) (x : SResponse) (now : Int) : SCache :=
  if x.age ≠ 0 ∧ inRange now 0 999999999000 = true ∧ isCache c = true ∧ isCache (putEntry c (entry t a x now) (fidx (fun e => decide (e.top = t) && decide (e.to = a)) c.entries 0)) = true then putEntry c (entry t a x now) (fidx (fun e => decide (e.top = t) && decide (e.to = a)) c.entries 0) else c
theorem entOk_resp {all : List SEntry} : ∀ {l : List SEntry} {k : Int}, entOk all l k = true → ∀ e ∈ l, isResponse e.response = true
  | [], _, _, e, he => by cases he
  | y :: l, k, h, e, he => by
    simp only [entOk, Bool.and_eq_true] at h
    rcases List.mem_cons.1 he with rfl | he
    · exact h.1.1.1.2
    · exact entOk_resp h.2 e he
theorem put_resp {c : SCache} {e : SEntry} {i : Int} (hi : i < c.entries.length) (h : isCache (putEntry c e i) = true) : isResponse e.response = true := by
  unfold isCache at h
  rw [Bool.and_eq_true] at h
  refine entOk_resp h.1 e ?_
  unfold putEntry
  split
  · rw [List.mem_iff_getElem?]
    exact ⟨i.toNat, by rw [List.getElem?_modify_eq, List.getElem?_eq_getElem (by omega)]; rfl⟩
  · simp
def fStoreEntry : Fct := ⟨[.v (.el .cache), .v (.el .str), .v (.el .addr), .v (.el .response), .v (.el .int)], [.el .cache], fun (x_ : SCache × ByteArray × SAddr × SResponse × Int × Unit) => szCache x_.1 ≤ 100000000 ∧ x_.2.1.size ≤ 10000000 ∧ szAddr x_.2.2.1 ≤ 10000000 ∧ szResponse x_.2.2.2.1 ≤ 10000000, fun (x_ : SCache × ByteArray × SAddr × SResponse × Int × Unit) => (storeEntry x_.1 x_.2.1 x_.2.2.1 x_.2.2.2.1 x_.2.2.2.2.1, ())⟩
theorem k160_162 : fStoreEntry.ok Tryz.prog 160 := Fct.of (S := fStoreEntry) (L := fun _ _ => none) (kp := [1,4,5,7,8,10,11,12,13,33,48,62,1000033,1000048,1000062]) E162ok Tryz.func160 (by kernel_rfl) (by kernel_rfl) (by
  rintro ⟨(c : SCache), (t : ByteArray), (a : SAddr), (x : SResponse), (now : Int), _⟩ hp
  refine holds_of (X := .cl fCopyCache (c, ()) fun z2 =>
 .br (x.age == (0 : Int))
 (.leaf (mkR fStoreEntry.rs (z2.1, ())) [] [])
 (.cl fInRange (now, (0 : Int), (999999999000 : Int), ()) fun z3 =>
 .br (!z3.1)
 (.leaf (mkR fStoreEntry.rs (z2.1, ())) [] [])
 (.cl fIsResponse (x, ()) fun z4 =>
 .br (!z4.1)
 (.leaf (mkR fStoreEntry.rs (z2.1, ())) [] [])
 (.cl fIsCache (c, ()) fun z5 =>
 .br (!z5.1)
 (.leaf (mkR fStoreEntry.rs (z2.1, ())) [] [])
 (.cl fFindEntry (c, t, a, ()) fun z6 =>
 .br (decide (z6.1 ≥ (0 : Int)))
 (.ob ((0 : Int) ≤ z6.1 ∧ z6.1 < (↑z2.1.entries.length : Int)) <| .ob (z6.1.toNat < z2.1.entries.length) <| .lt (List SEntry) (z2.1.entries.modify z6.1.toNat fun z => (⟨t, a, x, IntKind.i64.wrap (now + x.age)⟩ : SEntry)) fun z7 =>
 .cl fIsCache ((⟨z7⟩ : SCache), ()) fun z8 =>
 .br (!z8.1)
 (.cl fCopyCache (c, ()) fun z9 =>
 .leaf (mkR fStoreEntry.rs (z9.1, ())) [] [])
 (.leaf (mkR fStoreEntry.rs (⟨z7⟩, ())) [] []))
 (.ob (True) <| .ob (Room (z2.1.entries.length + [(⟨t, a, x, IntKind.i64.wrap (now + x.age)⟩ : SEntry)].length) 120) <| .cl fIsCache ((⟨z2.1.entries ++ [(⟨t, a, x, IntKind.i64.wrap (now + x.age)⟩ : SEntry)]⟩ : SCache), ()) fun z10 =>
 .br (!z10.1)
 (.cl fCopyCache (c, ()) fun z11 =>
 .leaf (mkR fStoreEntry.rs (z11.1, ())) [] [])
 (.leaf (mkR fStoreEntry.rs (⟨z2.1.entries ++ [(⟨t, a, x, IntKind.i64.wrap (now + x.age)⟩ : SEntry)]⟩, ())) [] []))))))) (by kernel_rfl) ?_
  refine cl_i ?_ fun o1 => (br_i (fun h2 => Fct.leafY ?_) (fun h2 => cl_i trivial fun _ => (br_i (fun h3 => Fct.leafY ?_) (fun h3 => cl_i ?_ fun o4 => (br_i (fun h5 => Fct.leafY ?_) (fun h5 => cl_i ?_ fun o6 => (br_i (fun h7 => Fct.leafY ?_) (fun h7 => cl_i ?_ fun o8 => (br_i (fun h9 => ob_i ?_ fun o10 => ob_i ?_ fun o11 => lt_i (cl_i ?_ fun o12 => (br_i (fun h13 => cl_i ?_ fun o14 => (Fct.leafY ?_)) (fun h13 => Fct.leafY ?_)))) (fun h9 => ob_i trivial fun _ => ob_i ?_ fun o15 => cl_i ?_ fun o16 => (br_i (fun h17 => cl_i ?_ fun o18 => (Fct.leafY ?_)) (fun h17 => Fct.leafY ?_))))))))))))
  all_goals have hi := fidx_lt (fun e : SEntry => decide (e.top = t) && decide (e.to = a)) c.entries 0 (by omega)
  all_goals have hr := fun (i : Int) (h : i < c.entries.length) => put_resp (c := c) (e := entry t a x now) h
  all_goals have hm := fun i => szL_mod szEntry (entry t a x now) c.entries i
  all_goals have hs := szL_snoc szEntry c.entries (entry t a x now)
  all_goals have hz : szEntry (entry t a x now) ≤ 40000000 := by have hp2 : szCache c ≤ 100000000 ∧ t.size ≤ 10000000 ∧ szAddr a ≤ 10000000 ∧ szResponse x ≤ 10000000 := hp; simp only [szEntry, entry]; omega
  all_goals have hq : x.policy.size ≤ 10000000 := by have hp2 : szCache c ≤ 100000000 ∧ t.size ≤ 10000000 ∧ szAddr a ≤ 10000000 ∧ szResponse x ≤ 10000000 := hp; simp only [szResponse] at hp2; omega
  all_goals have hn := szL_len szEntry c.entries
  all_goals try simp only [std1, ne_eq] at *
  all_goals try simp only [fCopyCache, fFindEntry, fInRange, fIsCache, fIsResponse, fStoreEntry, etaS, std1, std2, Nat.reduceAdd, ne_eq, storeEntry, putEntry, entry, szCache, fIsCache, fIsResponse, fInRange, fFindEntry, fCopyCache] at *
  all_goals try simp (disch := omega) only [wrapId', toNat1] at *
  all_goals try simp (disch := omega) only [if_pos, if_neg]
  all_goals first | trivial | omega | grind [wrapId', toNat1, good_len, maxLen, storeEntry, putEntry, entry, szCache, fIsCache, fIsResponse, fInRange, fFindEntry, fCopyCache])
def E163 : D.Env := E162.add 160 fStoreEntry
theorem E163ok : EOk Tryz.prog E163 := E162ok.add k160_162
theorem k172_163 : fStoreEntry.ok Tryz.prog 172 := Fct.of (S := fStoreEntry) (L := fun _ _ => none) (kp := [1,4,5,7,8,10,11,12,13,29,58,1000029,1000058]) E163ok Tryz.func172 (by kernel_rfl) (by kernel_rfl) (by
  rintro ⟨(c : SCache), (t : ByteArray), (a : SAddr), (x : SResponse), (now : Int), _⟩ hp
  refine holds_of (X := .cl fCopyCache (c, ()) fun z2 =>
 .cl fFindEntry (c, t, a, ()) fun z3 =>
 .br (decide (z3.1 ≥ (0 : Int)))
 (.ob ((0 : Int) ≤ z3.1 ∧ z3.1 < (↑z2.1.entries.length : Int)) <| .ob (z3.1.toNat < z2.1.entries.length) <| .lt (List SEntry) (z2.1.entries.modify z3.1.toNat fun z => (⟨t, a, x, IntKind.i64.wrap (now + x.age)⟩ : SEntry)) fun z4 =>
 .br (x.age == (0 : Int))
 (.cl fCopyCache (c, ()) fun z5 =>
 .leaf (mkR fStoreEntry.rs (z5.1, ())) [] [])
 (.cl fInRange (now, (0 : Int), (999999999000 : Int), ()) fun z6 =>
 .br (!z6.1)
 (.cl fCopyCache (c, ()) fun z7 =>
 .leaf (mkR fStoreEntry.rs (z7.1, ())) [] [])
 (.cl fIsCache (c, ()) fun z8 =>
 .br (!z8.1)
 (.cl fCopyCache (c, ()) fun z9 =>
 .leaf (mkR fStoreEntry.rs (z9.1, ())) [] [])
 (.cl fIsCache ((⟨z4⟩ : SCache), ()) fun z10 =>
 .br (!z10.1)
 (.cl fCopyCache (c, ()) fun z11 =>
 .leaf (mkR fStoreEntry.rs (z11.1, ())) [] [])
 (.leaf (mkR fStoreEntry.rs (⟨z4⟩, ())) [] [])))))
 (.ob (True) <| .ob (Room (z2.1.entries.length + [(⟨t, a, x, IntKind.i64.wrap (now + x.age)⟩ : SEntry)].length) 120) <| .br (x.age == (0 : Int))
 (.cl fCopyCache (c, ()) fun z12 =>
 .leaf (mkR fStoreEntry.rs (z12.1, ())) [] [])
 (.cl fInRange (now, (0 : Int), (999999999000 : Int), ()) fun z13 =>
 .br (!z13.1)
 (.cl fCopyCache (c, ()) fun z14 =>
 .leaf (mkR fStoreEntry.rs (z14.1, ())) [] [])
 (.cl fIsCache (c, ()) fun z15 =>
 .br (!z15.1)
 (.cl fCopyCache (c, ()) fun z16 =>
 .leaf (mkR fStoreEntry.rs (z16.1, ())) [] [])
 (.cl fIsCache ((⟨z2.1.entries ++ [(⟨t, a, x, IntKind.i64.wrap (now + x.age)⟩ : SEntry)]⟩ : SCache), ()) fun z17 =>
 .br (!z17.1)
 (.cl fCopyCache (c, ()) fun z18 =>
 .leaf (mkR fStoreEntry.rs (z18.1, ())) [] [])
 (.leaf (mkR fStoreEntry.rs (⟨z2.1.entries ++ [(⟨t, a, x, IntKind.i64.wrap (now + x.age)⟩ : SEntry)]⟩, ())) [] [])))))) (by kernel_rfl) ?_
  refine cl_i ?_ fun o1 => (cl_i ?_ fun o2 => (br_i (fun h3 => ob_i ?_ fun o4 => ob_i ?_ fun o5 => lt_i (br_i (fun h6 => cl_i ?_ fun o7 => (Fct.leafY ?_)) (fun h6 => cl_i trivial fun _ => (br_i (fun h8 => cl_i ?_ fun o9 => (Fct.leafY ?_)) (fun h8 => cl_i ?_ fun o10 => (br_i (fun h11 => cl_i ?_ fun o12 => (Fct.leafY ?_)) (fun h11 => cl_i ?_ fun o13 => (br_i (fun h14 => cl_i ?_ fun o15 => (Fct.leafY ?_)) (fun h14 => Fct.leafY ?_))))))))) (fun h3 => ob_i trivial fun _ => ob_i ?_ fun o16 => br_i (fun h17 => cl_i ?_ fun o18 => (Fct.leafY ?_)) (fun h17 => cl_i trivial fun _ => (br_i (fun h19 => cl_i ?_ fun o20 => (Fct.leafY ?_)) (fun h19 => cl_i ?_ fun o21 => (br_i (fun h22 => cl_i ?_ fun o23 => (Fct.leafY ?_)) (fun h22 => cl_i ?_ fun o24 => (br_i (fun h25 => cl_i ?_ fun o26 => (Fct.leafY ?_)) (fun h25 => Fct.leafY ?_))))))))))
  all_goals have hi := fidx_lt (fun e : SEntry => decide (e.top = t) && decide (e.to = a)) c.entries 0 (by omega)
  all_goals have hr := fun (i : Int) (h : i < c.entries.length) => put_resp (c := c) (e := entry t a x now) h
  all_goals have hm := fun i => szL_mod szEntry (entry t a x now) c.entries i
  all_goals have hs := szL_snoc szEntry c.entries (entry t a x now)
  all_goals have hz : szEntry (entry t a x now) ≤ 40000000 := by have hp2 : szCache c ≤ 100000000 ∧ t.size ≤ 10000000 ∧ szAddr a ≤ 10000000 ∧ szResponse x ≤ 10000000 := hp; simp only [szEntry, entry]; omega
  all_goals have hq : x.policy.size ≤ 10000000 := by have hp2 : szCache c ≤ 100000000 ∧ t.size ≤ 10000000 ∧ szAddr a ≤ 10000000 ∧ szResponse x ≤ 10000000 := hp; simp only [szResponse] at hp2; omega
  all_goals have hn := szL_len szEntry c.entries
  all_goals try simp only [std1, ne_eq] at *
  all_goals try simp only [fCopyCache, fFindEntry, fInRange, fIsCache, fStoreEntry, etaS, std1, std2, Nat.reduceAdd, ne_eq, storeEntry, putEntry, entry, szCache, fIsCache, fIsResponse, fInRange, fFindEntry, fCopyCache] at *
  all_goals try simp (disch := omega) only [wrapId', toNat1] at *
  all_goals try simp (disch := omega) only [if_pos, if_neg]
  all_goals first | trivial | omega | grind [wrapId', toNat1, good_len, maxLen, storeEntry, putEntry, entry, szCache, fIsCache, fIsResponse, fInRange, fFindEntry, fCopyCache])
def E164 : D.Env := E163.add 172 fStoreEntry
theorem E164ok : EOk Tryz.prog E164 := E163ok.add k172_163
def keepAnswer (n : SNet) (t : ByteArray) (a : SAddr) (x : SResponse) : SNet := if (lookUp n.cache t a n.now).isSome = false ∧ isResponse x = true ∧ x.status = 200 then { n with cache := storeEntry n.cache t a x n.now } else n
def fKeepAnswer : Fct := ⟨[.v (.el .net), .v (.el .str), .v (.el .addr), .v (.el .response)], [.el .net], fun (x_ : SNet × ByteArray × SAddr × SResponse × Unit) => szNet x_.1 ≤ 10000000000 ∧ szCache x_.1.cache ≤ 90000000 ∧ x_.2.1.size ≤ 10000000 ∧ szAddr x_.2.2.1 ≤ 10000000 ∧ szResponse x_.2.2.2.1 ≤ 10000000, fun (x_ : SNet × ByteArray × SAddr × SResponse × Unit) => (keepAnswer x_.1 x_.2.1 x_.2.2.1 x_.2.2.2.1, ())⟩
theorem k133_164 : fKeepAnswer.ok Tryz.prog 133 := Fct.of (S := fKeepAnswer) (L := fun _ _ => none) (kp := [1,4,6,7,8,9,11,34,1000034]) E164ok Tryz.func133 (by kernel_rfl) (by kernel_rfl) (by
  rintro ⟨(n : SNet), (t : ByteArray), (a : SAddr), (x : SResponse), _⟩ hp
  refine holds_of (X := .cl fCopyNet (n, ()) fun z2 =>
 .cl fLookUp (n.cache, t, a, n.now, ()) fun z3 =>
 .br (!z3.2.1)
 (.cl fIsResponse (x, ()) fun z4 =>
 .br (z4.1)
 (.br (x.status == (200 : Int))
 (.cl fStoreEntry (n.cache, t, a, x, n.now, ()) fun z5 =>
 .leaf (mkR fKeepAnswer.rs (⟨z2.1.servers, z5.1, z2.1.log, z2.1.now⟩, ())) [] [])
 (.leaf (mkR fKeepAnswer.rs (z2.1, ())) [] []))
 (.leaf (mkR fKeepAnswer.rs (z2.1, ())) [] []))
 (.leaf (mkR fKeepAnswer.rs (z2.1, ())) [] [])) (by kernel_rfl) ?_
  refine cl_i ?_ fun o1 => (cl_i ?_ fun o2 => (br_i (fun h3 => cl_i ?_ fun o4 => (br_i (fun h5 => br_i (fun h6 => cl_i ?_ fun o7 => (Fct.leafY ?_)) (fun h6 => Fct.leafY ?_)) (fun h5 => Fct.leafY ?_))) (fun h3 => Fct.leafY ?_)))
  all_goals have hn := szL_len szEntry n.cache.entries
  all_goals have hc : szCache n.cache = szL szEntry n.cache.entries := rfl
  all_goals have hq : x.policy.size ≤ 10000000 := by have hp2 : szNet n ≤ 10000000000 ∧ szCache n.cache ≤ 90000000 ∧ t.size ≤ 10000000 ∧ szAddr a ≤ 10000000 ∧ szResponse x ≤ 10000000 := hp; simp only [szResponse] at hp2; omega
  all_goals try simp only [std1, ne_eq] at *
  all_goals try simp only [fCopyNet, fIsResponse, fKeepAnswer, fLookUp, fStoreEntry, etaS, std1, std2, Nat.reduceAdd, ne_eq, keepAnswer, fCopyNet, fLookUp, fIsResponse, fStoreEntry] at *
  all_goals try simp (disch := omega) only [wrapId', toNat1] at *
  all_goals try simp (disch := omega) only [if_pos, if_neg]
  all_goals first | trivial | omega | grind [wrapId', toNat1, drop_cons, drop_end, good_len, maxLen, keepAnswer, fCopyNet, fLookUp, fIsResponse, fStoreEntry])
def E165 : D.Env := E164.add 133 fKeepAnswer
theorem E165ok : EOk Tryz.prog E165 := E164ok.add k133_164
theorem k149_165 : fKeepAnswer.ok Tryz.prog 149 := Fct.of (S := fKeepAnswer) (L := fun _ _ => none) (kp := [1,4,6,7,8,9,11,34,1000034]) E165ok Tryz.func149 (by kernel_rfl) (by kernel_rfl) (by
  rintro ⟨(n : SNet), (t : ByteArray), (a : SAddr), (x : SResponse), _⟩ hp
  refine holds_of (X := .cl fCopyNet (n, ()) fun z2 =>
 .cl fLookUp (n.cache, t, a, n.now, ()) fun z3 =>
 .cl fIsResponse (x, ()) fun z4 =>
 .br (z4.1)
 (.br (x.status == (200 : Int))
 (.br (!z3.2.1)
 (.cl fStoreEntry (z2.1.cache, t, a, x, n.now, ()) fun z5 =>
 .leaf (mkR fKeepAnswer.rs (⟨z2.1.servers, z5.1, z2.1.log, z2.1.now⟩, ())) [] [])
 (.leaf (mkR fKeepAnswer.rs (z2.1, ())) [] []))
 (.leaf (mkR fKeepAnswer.rs (z2.1, ())) [] []))
 (.leaf (mkR fKeepAnswer.rs (z2.1, ())) [] [])) (by kernel_rfl) ?_
  refine cl_i ?_ fun o1 => (cl_i ?_ fun o2 => (cl_i ?_ fun o3 => (br_i (fun h4 => br_i (fun h5 => br_i (fun h6 => cl_i ?_ fun o7 => (Fct.leafY ?_)) (fun h6 => Fct.leafY ?_)) (fun h5 => Fct.leafY ?_)) (fun h4 => Fct.leafY ?_))))
  all_goals have hn := szL_len szEntry n.cache.entries
  all_goals have hc : szCache n.cache = szL szEntry n.cache.entries := rfl
  all_goals have hq : x.policy.size ≤ 10000000 := by have hp2 : szNet n ≤ 10000000000 ∧ szCache n.cache ≤ 90000000 ∧ t.size ≤ 10000000 ∧ szAddr a ≤ 10000000 ∧ szResponse x ≤ 10000000 := hp; simp only [szResponse] at hp2; omega
  all_goals try simp only [std1, ne_eq] at *
  all_goals try simp only [fCopyNet, fIsResponse, fKeepAnswer, fLookUp, fStoreEntry, etaS, std1, std2, Nat.reduceAdd, ne_eq, keepAnswer, fCopyNet, fLookUp, fIsResponse, fStoreEntry] at *
  all_goals try simp (disch := omega) only [wrapId', toNat1] at *
  all_goals try simp (disch := omega) only [if_pos, if_neg]
  all_goals first | trivial | omega | grind [wrapId', toNat1, drop_cons, drop_end, good_len, maxLen, keepAnswer, fCopyNet, fLookUp, fIsResponse, fStoreEntry])
def E166 : D.Env := E165.add 149 fKeepAnswer
theorem E166ok : EOk Tryz.prog E166 := E165ok.add k149_165
def logSent (n : SNet) (t : ByteArray) (a : SAddr) (g : Bool) : SNet := if n.log.length < 400 then { n with log := n.log ++ [⟨t, a, g⟩] } else n
def fetchNow (n : SNet) (t : ByteArray) (a : SAddr) (g : Bool) : SNet × SResponse :=
  if (isName a.host && isName a.path) = false then (n, notFound)
  else if (lookUp n.cache t a n.now).isSome then (n, (lookUp n.cache t a n.now).getD notFound)
  else (if g then logSent n t a g else keepAnswer (logSent n t a g) t a (answerTo n.servers a), answerTo n.servers a)
theorem answer_sz (l : List SServer) (a : SAddr) : szResponse (answerTo l a) ≤ szL szServer l := by
  unfold answerTo
  split
  · exact Nat.zero_le _
  split
  · exact Nat.zero_le _
  · rename_i h1 h2
    have h3 := fidx_lt (fun s : SServer => decide (s.host = a.host)) l 0 (by omega)
    have h4 := szL_get szServer (l := l) (i := (fidx (fun s => decide (s.host = a.host)) l 0).toNat) (by omega)
    have h5 := fidx_lt (fun f : SFile => decide (f.path = a.path)) (l.getD (fidx (fun s => decide (s.host = a.host)) l 0).toNat default).files 0 (by omega)
    have h6 := szL_get szFile (l := (l.getD (fidx (fun s => decide (s.host = a.host)) l 0).toNat default).files) (i := (fidx (fun f : SFile => decide (f.path = a.path)) (l.getD (fidx (fun s => decide (s.host = a.host)) l 0).toNat default).files 0).toNat) (by omega)
    simp only [szServer, szFile] at h4 h6
    omega
def fFetchNow : Fct := ⟨[.v (.el .net), .v (.el .str), .v (.el .addr), .v (.el .bool)], [.el .net, .el .response], fun (x_ : SNet × ByteArray × SAddr × Bool × Unit) => szNet x_.1 ≤ 9000000000 ∧ szCache x_.1.cache ≤ 90000000 ∧ szL szServer x_.1.servers ≤ 10000000 ∧ x_.2.1.size ≤ 10000000 ∧ szAddr x_.2.2.1 ≤ 10000000, fun (x_ : SNet × ByteArray × SAddr × Bool × Unit) => ((fetchNow x_.1 x_.2.1 x_.2.2.1 x_.2.2.2.1).1, (fetchNow x_.1 x_.2.1 x_.2.2.1 x_.2.2.2.1).2, ())⟩
theorem k104_166 : fFetchNow.ok Tryz.prog 104 := Fct.of (S := fFetchNow) (L := fun _ _ => none) (kp := [1,3,4,6,8,9,10,11,12,13,18,31,41,52,1000018,1000031,1000041,1000052]) E166ok Tryz.func104 (by kernel_rfl) (by kernel_rfl) (by
  rintro ⟨(n : SNet), (t : ByteArray), (a : SAddr), (g : Bool), _⟩ hp
  refine holds_of (X := .cl fCopyNet (n, ()) fun z2 =>
 .cl fIsAddr (a, ()) fun z3 =>
 .br (!z3.1)
 (.cl fNotFound () fun z4 =>
 .leaf (mkR fFetchNow.rs (z2.1, z4.1, ())) [] [])
 (.cl fLookUp (n.cache, t, a, n.now, ()) fun z5 =>
 .br (z5.2.1)
 (.lp (Bool) (True) (fun x => True) fun y6 =>
 .br (y6)
 (.leaf (mkR fFetchNow.rs (z2.1, z5.1, ())) [] [])
 (.leaf (mkR fFetchNow.rs (z2.1, z5.1, ())) [] []))
 (.cl fAnswerTo (n.servers, a, ()) fun z6 =>
 .br (decide ((↑n.log.length : Int) < (400 : Int)))
 (.ob (True) <| .ob (Room (z2.1.log.length + [(⟨t, a, g⟩ : SSent)].length) 56) <| .br (!g)
 (.cl fKeepAnswer ((⟨z2.1.servers, z2.1.cache, z2.1.log ++ [(⟨t, a, g⟩ : SSent)], z2.1.now⟩ : SNet), t, a, z6.1, ()) fun z7 =>
 .lp (Bool) (True) (fun x => True) fun y13 =>
 .br (y13)
 (.leaf (mkR fFetchNow.rs (z7.1, z6.1, ())) [] [])
 (.leaf (mkR fFetchNow.rs (z7.1, z6.1, ())) [] []))
 (.lp (Bool) (True) (fun x => True) fun y15 =>
 .br (y15)
 (.leaf (mkR fFetchNow.rs (⟨z2.1.servers, z2.1.cache, z2.1.log ++ [(⟨t, a, g⟩ : SSent)], z2.1.now⟩, z6.1, ())) [] [])
 (.leaf (mkR fFetchNow.rs (⟨z2.1.servers, z2.1.cache, z2.1.log ++ [(⟨t, a, g⟩ : SSent)], z2.1.now⟩, z6.1, ())) [] [])))
 (.br (!g)
 (.cl fKeepAnswer (z2.1, t, a, z6.1, ()) fun z8 =>
 .lp (Bool) (True) (fun x => True) fun y19 =>
 .br (y19)
 (.leaf (mkR fFetchNow.rs (z8.1, z6.1, ())) [] [])
 (.leaf (mkR fFetchNow.rs (z8.1, z6.1, ())) [] []))
 (.lp (Bool) (True) (fun x => True) fun y21 =>
 .br (y21)
 (.leaf (mkR fFetchNow.rs (z2.1, z6.1, ())) [] [])
 (.leaf (mkR fFetchNow.rs (z2.1, z6.1, ())) [] [])))))) (by kernel_rfl) ?_
  refine cl_i ?_ fun o1 => (cl_i ?_ fun o2 => (br_i (fun h3 => cl_i trivial fun _ => (Fct.leafY ?_)) (fun h3 => cl_i ?_ fun o4 => (br_i (fun h5 => lp_i trivial fun y6 i6 => br_i (fun h7 => Fct.leafY ?_) (fun h7 => Fct.leafY ?_)) (fun h5 => cl_i ?_ fun o8 => (br_i (fun h9 => ob_i trivial fun _ => ob_i ?_ fun o10 => br_i (fun h11 => cl_i ?_ fun o12 => (lp_i trivial fun y13 i13 => br_i (fun h14 => Fct.leafY ?_) (fun h14 => Fct.leafY ?_))) (fun h11 => lp_i trivial fun y15 i15 => br_i (fun h16 => Fct.leafY ?_) (fun h16 => Fct.leafY ?_))) (fun h9 => br_i (fun h17 => cl_i ?_ fun o18 => (lp_i trivial fun y19 i19 => br_i (fun h20 => Fct.leafY ?_) (fun h20 => Fct.leafY ?_))) (fun h17 => lp_i trivial fun y21 i21 => br_i (fun h22 => Fct.leafY ?_) (fun h22 => Fct.leafY ?_)))))))))
  all_goals have hn := szL_len szEntry n.cache.entries
  all_goals have hc : szCache n.cache = szL szEntry n.cache.entries := rfl
  all_goals have ha := answer_sz n.servers a
  all_goals have hs := szL_snoc szSent n.log ⟨t, a, g⟩
  all_goals have hs2 : szSent ⟨t, a, g⟩ = t.size + szAddr a := rfl
  all_goals have hd : a.host.size ≤ szAddr a ∧ a.path.size ≤ szAddr a := ⟨Nat.le_add_right _ _, Nat.le_add_left _ _⟩
  all_goals have hl := szL_len szSent n.log
  all_goals try simp only [std1, ne_eq] at *
  all_goals try simp only [fAnswerTo, fCopyNet, fFetchNow, fIsAddr, fKeepAnswer, fLookUp, fNotFound, etaS, std1, std2, Nat.reduceAdd, ne_eq, fetchNow, logSent, szNet, fCopyNet, fLookUp, fIsAddr, fKeepAnswer, fAnswerTo, fNotFound] at *
  all_goals try simp (disch := omega) only [wrapId', toNat1] at *
  all_goals try simp (disch := omega) only [if_pos, if_neg]
  all_goals first | trivial | omega | grind [wrapId', toNat1, drop_cons, drop_end, good_len, maxLen, fetchNow, logSent, szNet, fCopyNet, fLookUp, fIsAddr, fKeepAnswer, fAnswerTo, fNotFound])
def E167 : D.Env := E166.add 104 fFetchNow
theorem E167ok : EOk Tryz.prog E167 := E166ok.add k104_166
theorem k114_167 : fFetchNow.ok Tryz.prog 114 := Fct.of (S := fFetchNow) (L := fun _ _ => none) (kp := [1,3,4,6,8,9,10,11,12,13,18,31,41,52,1000018,1000031,1000041,1000052]) E167ok Tryz.func114 (by kernel_rfl) (by kernel_rfl) (by
  rintro ⟨(n : SNet), (t : ByteArray), (a : SAddr), (g : Bool), _⟩ hp
  refine holds_of (X := .cl fCopyNet (n, ()) fun z2 =>
 .cl fIsAddr (a, ()) fun z3 =>
 .br (!z3.1)
 (.cl fNotFound () fun z4 =>
 .leaf (mkR fFetchNow.rs (z2.1, z4.1, ())) [] [])
 (.cl fLookUp (n.cache, t, a, n.now, ()) fun z5 =>
 .br (z5.2.1)
 (.lp (Bool) (True) (fun x => True) fun y6 =>
 .br (y6)
 (.leaf (mkR fFetchNow.rs (z2.1, z5.1, ())) [] [])
 (.leaf (mkR fFetchNow.rs (z2.1, z5.1, ())) [] []))
 (.cl fAnswerTo (n.servers, a, ()) fun z6 =>
 .br (decide ((↑z2.1.log.length : Int) < (400 : Int)))
 (.ob (True) <| .ob (Room (z2.1.log.length + [(⟨t, a, g⟩ : SSent)].length) 56) <| .br (!g)
 (.cl fKeepAnswer ((⟨z2.1.servers, z2.1.cache, z2.1.log ++ [(⟨t, a, g⟩ : SSent)], z2.1.now⟩ : SNet), t, a, z6.1, ()) fun z7 =>
 .lp (Bool) (True) (fun x => True) fun y13 =>
 .br (y13)
 (.leaf (mkR fFetchNow.rs (z7.1, z6.1, ())) [] [])
 (.leaf (mkR fFetchNow.rs (z7.1, z6.1, ())) [] []))
 (.lp (Bool) (True) (fun x => True) fun y15 =>
 .br (y15)
 (.leaf (mkR fFetchNow.rs (⟨z2.1.servers, z2.1.cache, z2.1.log ++ [(⟨t, a, g⟩ : SSent)], z2.1.now⟩, z6.1, ())) [] [])
 (.leaf (mkR fFetchNow.rs (⟨z2.1.servers, z2.1.cache, z2.1.log ++ [(⟨t, a, g⟩ : SSent)], z2.1.now⟩, z6.1, ())) [] [])))
 (.br (!g)
 (.cl fKeepAnswer (z2.1, t, a, z6.1, ()) fun z8 =>
 .lp (Bool) (True) (fun x => True) fun y19 =>
 .br (y19)
 (.leaf (mkR fFetchNow.rs (z8.1, z6.1, ())) [] [])
 (.leaf (mkR fFetchNow.rs (z8.1, z6.1, ())) [] []))
 (.lp (Bool) (True) (fun x => True) fun y21 =>
 .br (y21)
 (.leaf (mkR fFetchNow.rs (z2.1, z6.1, ())) [] [])
 (.leaf (mkR fFetchNow.rs (z2.1, z6.1, ())) [] [])))))) (by kernel_rfl) ?_
  refine cl_i ?_ fun o1 => (cl_i ?_ fun o2 => (br_i (fun h3 => cl_i trivial fun _ => (Fct.leafY ?_)) (fun h3 => cl_i ?_ fun o4 => (br_i (fun h5 => lp_i trivial fun y6 i6 => br_i (fun h7 => Fct.leafY ?_) (fun h7 => Fct.leafY ?_)) (fun h5 => cl_i ?_ fun o8 => (br_i (fun h9 => ob_i trivial fun _ => ob_i ?_ fun o10 => br_i (fun h11 => cl_i ?_ fun o12 => (lp_i trivial fun y13 i13 => br_i (fun h14 => Fct.leafY ?_) (fun h14 => Fct.leafY ?_))) (fun h11 => lp_i trivial fun y15 i15 => br_i (fun h16 => Fct.leafY ?_) (fun h16 => Fct.leafY ?_))) (fun h9 => br_i (fun h17 => cl_i ?_ fun o18 => (lp_i trivial fun y19 i19 => br_i (fun h20 => Fct.leafY ?_) (fun h20 => Fct.leafY ?_))) (fun h17 => lp_i trivial fun y21 i21 => br_i (fun h22 => Fct.leafY ?_) (fun h22 => Fct.leafY ?_)))))))))
  all_goals have hn := szL_len szEntry n.cache.entries
  all_goals have hc : szCache n.cache = szL szEntry n.cache.entries := rfl
  all_goals have ha := answer_sz n.servers a
  all_goals have hs := szL_snoc szSent n.log ⟨t, a, g⟩
  all_goals have hs2 : szSent ⟨t, a, g⟩ = t.size + szAddr a := rfl
  all_goals have hd : a.host.size ≤ szAddr a ∧ a.path.size ≤ szAddr a := ⟨Nat.le_add_right _ _, Nat.le_add_left _ _⟩
  all_goals have hl := szL_len szSent n.log
  all_goals try simp only [std1, ne_eq] at *
  all_goals try simp only [fAnswerTo, fCopyNet, fFetchNow, fIsAddr, fKeepAnswer, fLookUp, fNotFound, etaS, std1, std2, Nat.reduceAdd, ne_eq, fetchNow, logSent, szNet, fCopyNet, fLookUp, fIsAddr, fKeepAnswer, fAnswerTo, fNotFound] at *
  all_goals try simp (disch := omega) only [wrapId', toNat1] at *
  all_goals try simp (disch := omega) only [if_pos, if_neg]
  all_goals first | trivial | omega | grind [wrapId', toNat1, drop_cons, drop_end, good_len, maxLen, fetchNow, logSent, szNet, fCopyNet, fLookUp, fIsAddr, fKeepAnswer, fAnswerTo, fNotFound])
def E168 : D.Env := E167.add 114 fFetchNow
theorem E168ok : EOk Tryz.prog E168 := E167ok.add k114_167
theorem lookUp_sz {c : SCache} {t : ByteArray} {a : SAddr} {now : Int} {x : SResponse} (h : lookUp c t a now = some x) : szResponse x ≤ szCache c := by
  unfold lookUp at h
  obtain ⟨e, he, rfl⟩ := Option.map_eq_some_iff.1 h
  obtain ⟨i, hi, rfl⟩ := List.mem_iff_getElem.1 (List.mem_of_find?_eq_some he)
  have := szL_get szEntry (l := c.entries) (i := i) hi
  rw [List.getD_eq_getElem?_getD, List.getElem?_eq_getElem hi] at this
  simp only [Option.getD_some, szEntry] at this
  simp only [szCache]; omega
theorem fetch_sz (n : SNet) (t : ByteArray) (a : SAddr) (g : Bool) : szResponse (fetchNow n t a g).2 ≤ szNet n := by
  unfold fetchNow
  split
  · exact Nat.zero_le _
  split
  · rename_i h
    obtain ⟨x, hx⟩ := Option.isSome_iff_exists.1 h
    have := lookUp_sz hx
    rw [hx]
    simp only [Option.getD_some, szNet]; omega
  · have := answer_sz n.servers a
    simp only [szNet]; omega
def digestOf (b : ByteArray) : Int := hashI (151 :: bti (bytesInts b) (bytesInts b)) 11
theorem bytesInts_at (b : ByteArray) (i : Nat) : 0 ≤ (bytesInts b).getD i default ∧ (bytesInts b).getD i default ≤ 255 := by
  unfold bytesInts
  rw [List.getD_eq_getElem?_getD, List.getElem?_map]
  cases h : b.data.toList[i]? with
  | none => exact ⟨Int.le_refl _, by decide⟩
  | some x => have := x.toNat_lt; simp only [Option.map_some, Option.getD_some]; omega
theorem bytesInts_len (b : ByteArray) : (bytesInts b).length = b.size := by rw [bytesInts, List.length_map]; rfl
theorem bytesInts_eq (b : ByteArray) : List.map (fun b : UInt8 => (b.toNat : Int)) b.data.toList = bytesInts b := rfl
theorem dig_in {b : ByteArray} (hb : b.size ≤ 1000000000) (i : Nat) : -9223372036854775808 ≤ (151 :: bti (bytesInts b) (bytesInts b)).getD i default ∧ (151 :: bti (bytesInts b) (bytesInts b)).getD i default ≤ 9223372036854775807 := by
  match i with
  | 0 =>
    show -9223372036854775808 ≤ (151 : Int) ∧ (151 : Int) ≤ 9223372036854775807
    omega
  | 1 =>
    show -9223372036854775808 ≤ ((bytesInts b).length : Int) ∧ ((bytesInts b).length : Int) ≤ 9223372036854775807
    rw [bytesInts_len]; omega
  | i + 2 =>
    have := bytesInts_at b i
    show -9223372036854775808 ≤ (bytesInts b).getD i default ∧ (bytesInts b).getD i default ≤ 9223372036854775807
    omega
theorem dig_len (b : ByteArray) : (151 :: bti (bytesInts b) (bytesInts b)).length = b.size + 2 := by simp [bti, bytesInts_len]
def fDigestOf : Fct := ⟨[.v (.el .str)], [.el .int], fun (x_ : ByteArray × Unit) => x_.1.size ≤ 1000000000, fun (x_ : ByteArray × Unit) => (digestOf x_.1, ())⟩
theorem k136_168 : fDigestOf.ok Tryz.prog 136 := Fct.of (S := fDigestOf) (L := fun _ _ => none) (kp := [0,2]) E168ok Tryz.func136 (by kernel_rfl) (by kernel_rfl) (by
  rintro ⟨(b : ByteArray), _⟩ hp
  refine holds_of (X := .cl fBytesToInts (List.map (fun b => (↑b.toNat : Int)) b.data.toList, ()) fun z2 =>
 .ob (True) <| .ob (Room (1 + z2.1.length) 8) <| .cl fHash ([(151 : Int)] ++ z2.1, ()) fun z3 =>
 .leaf (mkR fDigestOf.rs (z3.1, ())) [] []) (by kernel_rfl) ?_
  refine cl_i ?_ fun o1 => (ob_i trivial fun _ => ob_i ?_ fun o2 => cl_i ?_ fun o3 => (Fct.leafY ?_))
  all_goals have h1 := bytesInts_at b
  all_goals have h2 := bytesInts_len b
  all_goals have h3 := dig_len b
  all_goals have h4 := dig_in (show b.size ≤ 1000000000 from hp)
  all_goals try simp only [std1, ne_eq] at *
  all_goals try simp only [fBytesToInts, fDigestOf, fHash, etaS, std1, std2, Nat.reduceAdd, ne_eq, bytesInts_eq, fHash, fBytesToInts, digestOf, List.singleton_append] at *
  all_goals first | trivial | omega | exact ⟨by omega, fun i _ => h1 i⟩ | exact ⟨by omega, fun i _ => h4 i⟩ | skip)
def E169 : D.Env := E168.add 136 fDigestOf
theorem E169ok : EOk Tryz.prog E169 := E168ok.add k136_168
theorem k152_169 : fDigestOf.ok Tryz.prog 152 := Fct.of (S := fDigestOf) (L := fun _ _ => none) (kp := [0,2]) E169ok Tryz.func152 (by kernel_rfl) (by kernel_rfl) (by
  rintro ⟨(b : ByteArray), _⟩ hp
  refine holds_of (X := .cl fBytesToInts (List.map (fun b => (↑b.toNat : Int)) b.data.toList, ()) fun z2 =>
 .ob (True) <| .ob (Room (1 + z2.1.length) 8) <| .cl fHash ([(151 : Int)] ++ z2.1, ()) fun z3 =>
 .leaf (mkR fDigestOf.rs (z3.1, ())) [] []) (by kernel_rfl) ?_
  refine cl_i ?_ fun o1 => (ob_i trivial fun _ => ob_i ?_ fun o2 => cl_i ?_ fun o3 => (Fct.leafY ?_))
  all_goals have h1 := bytesInts_at b
  all_goals have h2 := bytesInts_len b
  all_goals have h3 := dig_len b
  all_goals have h4 := dig_in (show b.size ≤ 1000000000 from hp)
  all_goals try simp only [std1, ne_eq] at *
  all_goals try simp only [fBytesToInts, fDigestOf, fHash, etaS, std1, std2, Nat.reduceAdd, ne_eq, bytesInts_eq, fHash, fBytesToInts, digestOf, List.singleton_append] at *
  all_goals first | trivial | omega | exact ⟨by omega, fun i _ => h1 i⟩ | exact ⟨by omega, fun i _ => h4 i⟩ | skip)
def E170 : D.Env := E169.add 152 fDigestOf
theorem E170ok : EOk Tryz.prog E170 := E169ok.add k152_169
theorem hashI_range : ∀ (l : List Int) (d : Int), 0 ≤ d → d < 2147483647 → 0 ≤ hashI l d ∧ hashI l d < 2147483647
  | [], d, h0, h1 => ⟨h0, h1⟩
  | x :: l, d, h0, h1 => by
    have hm := modM_range x
    have ht := tmod_range (x := d * 1000003 + modM x 2147483647 + 13) (by omega)
    exact hashI_range l _ ht.1 ht.2
theorem digest_range (b : ByteArray) : 0 ≤ digestOf b ∧ digestOf b < 2147483647 := hashI_range _ 11 (by decide) (by decide)
def fCheckDigest : Fct := ⟨[.v (.el .str), .v (.el .str)], [.el .bool], fun (x_ : ByteArray × ByteArray × Unit) => x_.1.size ≤ 1000000000, fun (x_ : ByteArray × ByteArray × Unit) => (decide (x_.2.1 = ⟨#[]⟩) || decide (x_.2.1 = fmtI (digestOf x_.1)), ())⟩
theorem k107_170 : fCheckDigest.ok Tryz.prog 107 := Fct.of (S := fCheckDigest) (L := fun _ _ => none) (kp := [0,1,4]) E170ok Tryz.func107 (by kernel_rfl) (by kernel_rfl) (by
  rintro ⟨(b : ByteArray), (v : ByteArray), _⟩ hp
  refine holds_of (X := .br (ByteArray.toList v == (⟨#[]⟩ : ByteArray).toList)
 (.leaf (mkR fCheckDigest.rs (true, ())) [] [])
 (.cl fDigestOf (b, ()) fun z2 =>
 .cl fFormatInt (z2.1, ()) fun z3 =>
 .leaf (mkR fCheckDigest.rs (ByteArray.toList v == z3.1.toList, ())) [] [])) (by kernel_rfl) ?_
  refine br_i (fun h1 => Fct.leafY ?_) (fun h1 => cl_i ?_ fun o2 => (cl_i ?_ fun o3 => (Fct.leafY ?_)))
  all_goals have h := digest_range b
  all_goals try simp only [std1, ne_eq] at *
  all_goals try simp only [fCheckDigest, fDigestOf, fFormatInt, etaS, std1, std2, Nat.reduceAdd, ne_eq, fDigestOf, fFormatInt] at *
  all_goals try simp (disch := omega) only [wrapId', toNat1] at *
  all_goals try simp (disch := omega) only [if_pos, if_neg]
  all_goals first | trivial | omega | grind [wrapId', toNat1, drop_cons, drop_end, good_len, maxLen, fDigestOf, fFormatInt])
def E171 : D.Env := E170.add 107 fCheckDigest
theorem E171ok : EOk Tryz.prog E171 := E170ok.add k107_170
theorem k117_171 : fCheckDigest.ok Tryz.prog 117 := Fct.of (S := fCheckDigest) (L := fun _ _ => none) (kp := [0,1,4]) E171ok Tryz.func117 (by kernel_rfl) (by kernel_rfl) (by
  rintro ⟨(b : ByteArray), (v : ByteArray), _⟩ hp
  refine holds_of (X := .br (ByteArray.toList v == (⟨#[]⟩ : ByteArray).toList)
 (.leaf (mkR fCheckDigest.rs (true, ())) [] [])
 (.cl fDigestOf (b, ()) fun z2 =>
 .cl fFormatInt (z2.1, ()) fun z3 =>
 .leaf (mkR fCheckDigest.rs (ByteArray.toList v == z3.1.toList, ())) [] [])) (by kernel_rfl) ?_
  refine br_i (fun h1 => Fct.leafY ?_) (fun h1 => cl_i ?_ fun o2 => (cl_i ?_ fun o3 => (Fct.leafY ?_)))
  all_goals have h := digest_range b
  all_goals try simp only [std1, ne_eq] at *
  all_goals try simp only [fCheckDigest, fDigestOf, fFormatInt, etaS, std1, std2, Nat.reduceAdd, ne_eq, fDigestOf, fFormatInt] at *
  all_goals try simp (disch := omega) only [wrapId', toNat1] at *
  all_goals try simp (disch := omega) only [if_pos, if_neg]
  all_goals first | trivial | omega | grind [wrapId', toNat1, drop_cons, drop_end, good_len, maxLen, fDigestOf, fFormatInt])
def E172 : D.Env := E171.add 117 fCheckDigest
theorem E172ok : EOk Tryz.prog E172 := E171ok.add k117_171
def checkResponse (p : SPolicy) (r : SRequest) (x : SResponse) : Int := if checkRequest p r ≠ 1 then 2 else if isResponse x = false ∨ x.status ≠ 200 then 3 else if (decide (x.kind = r.kind) || decide (r.kind = 5 ∧ x.kind = 2)) = false then 4 else if r.from_ ≠ r.to.host ∧ x.shares = false ∧ (r.kind = 5 ∨ r.digest ≠ ⟨#[]⟩) then 5 else if (decide (r.digest = ⟨#[]⟩) || decide (r.digest = fmtI (digestOf x.body))) = false then 6 else 1
theorem checkRequest_two {p : SPolicy} {r : SRequest} (h : checkRequest p r ≠ 1) : checkRequest p r = 2 := by
  unfold checkRequest at *; split <;> simp_all
def fCheckResponse : Fct := ⟨[.v (.el .policy), .v (.el .request), .v (.el .response)], [.el .int], fun (x_ : SPolicy × SRequest × SResponse × Unit) => szPolicy x_.1 ≤ 1099511627776 ∧ szRequest x_.2.1 ≤ 1099511627776 ∧ x_.2.2.1.policy.size ≤ 200000000 ∧ x_.2.2.1.body.size ≤ 1000000000, fun (x_ : SPolicy × SRequest × SResponse × Unit) => (checkResponse x_.1 x_.2.1 x_.2.2.1, ())⟩
theorem k75_172 : fCheckResponse.ok Tryz.prog 75 := Fct.of (S := fCheckResponse) (L := fun _ _ => none) (kp := [3,4,5,6,7,12,21,27,49,1000007,1000012,1000021,1000027,1000049]) E172ok Tryz.func75 (by kernel_rfl) (by kernel_rfl) (by
  rintro ⟨(p : SPolicy), (r : SRequest), (x : SResponse), _⟩ hp
  refine holds_of (X := .cl fCheckRequest (p, r, ()) fun z2 =>
 .br (z2.1 != (1 : Int))
 (.leaf (mkR fCheckResponse.rs ((2 : Int), ())) [] [])
 (.cl fIsResponse (x, ()) fun z3 =>
 .br (!z3.1)
 (.leaf (mkR fCheckResponse.rs ((3 : Int), ())) [] [])
 (.br (x.status != (200 : Int))
 (.leaf (mkR fCheckResponse.rs ((3 : Int), ())) [] [])
 (.cl fFitsKind (x, r.kind, ()) fun z4 =>
 .br (!z4.1)
 (.leaf (mkR fCheckResponse.rs ((4 : Int), ())) [] [])
 (.br (!r.from_.toList == r.to.host.toList)
 (.br (!x.shares)
 (.br (r.kind == (5 : Int))
 (.leaf (mkR fCheckResponse.rs ((5 : Int), ())) [] [])
 (.br (!r.digest.toList == (⟨#[]⟩ : ByteArray).toList)
 (.leaf (mkR fCheckResponse.rs ((5 : Int), ())) [] [])
 (.cl fCheckDigest (x.body, r.digest, ()) fun z5 =>
 .br (!z5.1)
 (.leaf (mkR fCheckResponse.rs ((6 : Int), ())) [] [])
 (.leaf (mkR fCheckResponse.rs ((1 : Int), ())) [] []))))
 (.cl fCheckDigest (x.body, r.digest, ()) fun z6 =>
 .br (!z6.1)
 (.leaf (mkR fCheckResponse.rs ((6 : Int), ())) [] [])
 (.leaf (mkR fCheckResponse.rs ((1 : Int), ())) [] [])))
 (.cl fCheckDigest (x.body, r.digest, ()) fun z7 =>
 .br (!z7.1)
 (.leaf (mkR fCheckResponse.rs ((6 : Int), ())) [] [])
 (.leaf (mkR fCheckResponse.rs ((1 : Int), ())) [] []))))))) (by kernel_rfl) ?_
  refine cl_i ?_ fun o1 => (br_i (fun h2 => Fct.leafY ?_) (fun h2 => cl_i ?_ fun o3 => (br_i (fun h4 => Fct.leafY ?_) (fun h4 => br_i (fun h5 => Fct.leafY ?_) (fun h5 => cl_i trivial fun _ => (br_i (fun h6 => Fct.leafY ?_) (fun h6 => br_i (fun h7 => br_i (fun h8 => br_i (fun h9 => Fct.leafY ?_) (fun h9 => br_i (fun h10 => Fct.leafY ?_) (fun h10 => cl_i ?_ fun o11 => (br_i (fun h12 => Fct.leafY ?_) (fun h12 => Fct.leafY ?_))))) (fun h8 => cl_i ?_ fun o13 => (br_i (fun h14 => Fct.leafY ?_) (fun h14 => Fct.leafY ?_)))) (fun h7 => cl_i ?_ fun o15 => (br_i (fun h16 => Fct.leafY ?_) (fun h16 => Fct.leafY ?_))))))))))
  all_goals have hc := fun h => checkRequest_two (p := p) (r := r) h
  all_goals try simp only [std1, ne_eq] at *
  all_goals try simp only [fCheckDigest, fCheckRequest, fCheckResponse, fFitsKind, fIsResponse, etaS, std1, std2, Nat.reduceAdd, ne_eq, checkResponse, fCheckRequest, fIsResponse, fFitsKind, fCheckDigest] at *
  all_goals try simp (disch := omega) only [wrapId', toNat1] at *
  all_goals try simp (disch := omega) only [if_pos, if_neg]
  all_goals first | trivial | omega | grind [wrapId', toNat1, drop_cons, drop_end, good_len, maxLen, checkResponse, fCheckRequest, fIsResponse, fFitsKind, fCheckDigest])
def E173 : D.Env := E172.add 75 fCheckResponse
theorem E173ok : EOk Tryz.prog E173 := E172ok.add k75_172
theorem k87_173 : fCheckResponse.ok Tryz.prog 87 := Fct.of (S := fCheckResponse) (L := fun _ _ => none) (kp := [3,4,5,6,7,15,24,30,52,1000007,1000015,1000024,1000030,1000052]) E173ok Tryz.func87 (by kernel_rfl) (by kernel_rfl) (by
  rintro ⟨(p : SPolicy), (r : SRequest), (x : SResponse), _⟩ hp
  refine holds_of (X := .cl fCheckRequest (p, r, ()) fun z2 =>
 .br (z2.1 != (1 : Int))
 (.cl fCheckRequest (p, r, ()) fun z3 =>
 .leaf (mkR fCheckResponse.rs (z3.1, ())) [] [])
 (.cl fIsResponse (x, ()) fun z4 =>
 .br (!z4.1)
 (.leaf (mkR fCheckResponse.rs ((3 : Int), ())) [] [])
 (.br (x.status != (200 : Int))
 (.leaf (mkR fCheckResponse.rs ((3 : Int), ())) [] [])
 (.cl fFitsKind (x, r.kind, ()) fun z5 =>
 .br (!z5.1)
 (.leaf (mkR fCheckResponse.rs ((4 : Int), ())) [] [])
 (.br (!r.from_.toList == r.to.host.toList)
 (.br (!x.shares)
 (.br (r.kind == (5 : Int))
 (.leaf (mkR fCheckResponse.rs ((5 : Int), ())) [] [])
 (.br (!r.digest.toList == (⟨#[]⟩ : ByteArray).toList)
 (.leaf (mkR fCheckResponse.rs ((5 : Int), ())) [] [])
 (.cl fCheckDigest (x.body, r.digest, ()) fun z6 =>
 .br (!z6.1)
 (.leaf (mkR fCheckResponse.rs ((6 : Int), ())) [] [])
 (.leaf (mkR fCheckResponse.rs ((1 : Int), ())) [] []))))
 (.cl fCheckDigest (x.body, r.digest, ()) fun z7 =>
 .br (!z7.1)
 (.leaf (mkR fCheckResponse.rs ((6 : Int), ())) [] [])
 (.leaf (mkR fCheckResponse.rs ((1 : Int), ())) [] [])))
 (.cl fCheckDigest (x.body, r.digest, ()) fun z8 =>
 .br (!z8.1)
 (.leaf (mkR fCheckResponse.rs ((6 : Int), ())) [] [])
 (.leaf (mkR fCheckResponse.rs ((1 : Int), ())) [] []))))))) (by kernel_rfl) ?_
  refine cl_i ?_ fun o1 => (br_i (fun h2 => cl_i ?_ fun o3 => (Fct.leafY ?_)) (fun h2 => cl_i ?_ fun o4 => (br_i (fun h5 => Fct.leafY ?_) (fun h5 => br_i (fun h6 => Fct.leafY ?_) (fun h6 => cl_i trivial fun _ => (br_i (fun h7 => Fct.leafY ?_) (fun h7 => br_i (fun h8 => br_i (fun h9 => br_i (fun h10 => Fct.leafY ?_) (fun h10 => br_i (fun h11 => Fct.leafY ?_) (fun h11 => cl_i ?_ fun o12 => (br_i (fun h13 => Fct.leafY ?_) (fun h13 => Fct.leafY ?_))))) (fun h9 => cl_i ?_ fun o14 => (br_i (fun h15 => Fct.leafY ?_) (fun h15 => Fct.leafY ?_)))) (fun h8 => cl_i ?_ fun o16 => (br_i (fun h17 => Fct.leafY ?_) (fun h17 => Fct.leafY ?_))))))))))
  all_goals have hc := fun h => checkRequest_two (p := p) (r := r) h
  all_goals try simp only [std1, ne_eq] at *
  all_goals try simp only [fCheckDigest, fCheckRequest, fCheckResponse, fFitsKind, fIsResponse, etaS, std1, std2, Nat.reduceAdd, ne_eq, checkResponse, fCheckRequest, fIsResponse, fFitsKind, fCheckDigest] at *
  all_goals try simp (disch := omega) only [wrapId', toNat1] at *
  all_goals try simp (disch := omega) only [if_pos, if_neg]
  all_goals first | trivial | omega | grind [wrapId', toNat1, drop_cons, drop_end, good_len, maxLen, checkResponse, fCheckRequest, fIsResponse, fFitsKind, fCheckDigest])
def E174 : D.Env := E173.add 87 fCheckResponse
theorem E174ok : EOk Tryz.prog E174 := E173ok.add k87_173
def usable (p : SPolicy) (r : SRequest) (x : SResponse) : ByteArray × Bool := if checkResponse p r x = 1 then (x.body, true) else (⟨#[]⟩, false)
def fUsableBody : Fct := ⟨[.v (.el .policy), .v (.el .request), .v (.el .response)], [.el .str, .el .bool], fun (x_ : SPolicy × SRequest × SResponse × Unit) => szPolicy x_.1 ≤ 1099511627776 ∧ szRequest x_.2.1 ≤ 1099511627776 ∧ x_.2.2.1.policy.size ≤ 200000000 ∧ x_.2.2.1.body.size ≤ 1000000000, fun (x_ : SPolicy × SRequest × SResponse × Unit) => ((usable x_.1 x_.2.1 x_.2.2.1).1, (usable x_.1 x_.2.1 x_.2.2.1).2, ())⟩
theorem k74_174 : fUsableBody.ok Tryz.prog 74 := Fct.of (S := fUsableBody) (L := fun _ _ => none) (kp := [3,4,5,6,7,12,1000012]) E174ok Tryz.func74 (by kernel_rfl) (by kernel_rfl) (by
  rintro ⟨(p : SPolicy), (r : SRequest), (x : SResponse), _⟩ hp
  refine holds_of (X := .cl fCheckResponse (p, r, x, ()) fun z2 =>
 .br (z2.1 != (1 : Int))
 (.leaf (mkR fUsableBody.rs ((⟨#[]⟩ : ByteArray), false, ())) [] [])
 (.leaf (mkR fUsableBody.rs (x.body, true, ())) [] [])) (by kernel_rfl) ?_
  refine cl_i ?_ fun o1 => (br_i (fun h2 => Fct.leafY ?_) (fun h2 => Fct.leafY ?_))
  all_goals try simp only [std1, ne_eq] at *
  all_goals try simp only [fCheckResponse, fUsableBody, etaS, std1, std2, Nat.reduceAdd, ne_eq, usable, fCheckResponse] at *
  all_goals try simp (disch := omega) only [wrapId', toNat1] at *
  all_goals try simp (disch := omega) only [if_pos, if_neg]
  all_goals first | trivial | omega | grind [wrapId', toNat1, drop_cons, drop_end, good_len, maxLen, usable, fCheckResponse])
def E175 : D.Env := E174.add 74 fUsableBody
theorem E175ok : EOk Tryz.prog E175 := E174ok.add k74_174
theorem k86_175 : fUsableBody.ok Tryz.prog 86 := Fct.of (S := fUsableBody) (L := fun _ _ => none) (kp := [3,4,5,6,7,12,1000012]) E175ok Tryz.func86 (by kernel_rfl) (by kernel_rfl) (by
  rintro ⟨(p : SPolicy), (r : SRequest), (x : SResponse), _⟩ hp
  refine holds_of (X := .cl fCheckResponse (p, r, x, ()) fun z2 =>
 .br (z2.1 != (1 : Int))
 (.leaf (mkR fUsableBody.rs ((⟨#[]⟩ : ByteArray), false, ())) [] [])
 (.leaf (mkR fUsableBody.rs (x.body, true, ())) [] [])) (by kernel_rfl) ?_
  refine cl_i ?_ fun o1 => (br_i (fun h2 => Fct.leafY ?_) (fun h2 => Fct.leafY ?_))
  all_goals try simp only [std1, ne_eq] at *
  all_goals try simp only [fCheckResponse, fUsableBody, etaS, std1, std2, Nat.reduceAdd, ne_eq, usable, fCheckResponse] at *
  all_goals try simp (disch := omega) only [wrapId', toNat1] at *
  all_goals try simp (disch := omega) only [if_pos, if_neg]
  all_goals first | trivial | omega | grind [wrapId', toNat1, drop_cons, drop_end, good_len, maxLen, usable, fCheckResponse])
def E176 : D.Env := E175.add 86 fUsableBody
theorem E176ok : EOk Tryz.prog E176 := E175ok.add k86_175
def respondTo (n : SNet) (t : ByteArray) (a : SAddr) : SResponse := (fetchNow n t a true).2
def fRespondTo : Fct := ⟨[.v (.el .net), .v (.el .str), .v (.el .addr)], [.el .response], fun (x_ : SNet × ByteArray × SAddr × Unit) => szNet x_.1 ≤ 9000000000 ∧ szCache x_.1.cache ≤ 90000000 ∧ szL szServer x_.1.servers ≤ 10000000 ∧ x_.2.1.size ≤ 10000000 ∧ szAddr x_.2.2.1 ≤ 10000000, fun (x_ : SNet × ByteArray × SAddr × Unit) => (respondTo x_.1 x_.2.1 x_.2.2.1, ())⟩
theorem k73_176 : fRespondTo.ok Tryz.prog 73 := Fct.of (S := fRespondTo) (L := fun _ _ => none) (kp := [1,3,5,6,8]) E176ok Tryz.func73 (by kernel_rfl) (by kernel_rfl) (by
  rintro ⟨(n : SNet), (t : ByteArray), (a : SAddr), _⟩ hp
  refine holds_of (X := .cl fFetchNow (n, t, a, true, ()) fun z2 =>
 .leaf (mkR fRespondTo.rs (z2.2.1, ())) [] []) (by kernel_rfl) ?_
  refine cl_i ?_ fun o1 => (Fct.leafY ?_)
  all_goals try simp only [std1, ne_eq] at *
  all_goals try simp only [fFetchNow, fRespondTo, etaS, std1, std2, Nat.reduceAdd, ne_eq, respondTo, fFetchNow] at *
  all_goals try simp (disch := omega) only [wrapId', toNat1] at *
  all_goals try simp (disch := omega) only [if_pos, if_neg]
  all_goals first | trivial | omega | grind [wrapId', toNat1, drop_cons, drop_end, good_len, maxLen, respondTo, fFetchNow])
def E177 : D.Env := E176.add 73 fRespondTo
theorem E177ok : EOk Tryz.prog E177 := E176ok.add k73_176
theorem k85_177 : fRespondTo.ok Tryz.prog 85 := Fct.of (S := fRespondTo) (L := fun _ _ => none) (kp := [1,3,5,6,8]) E177ok Tryz.func85 (by kernel_rfl) (by kernel_rfl) (by
  rintro ⟨(n : SNet), (t : ByteArray), (a : SAddr), _⟩ hp
  refine holds_of (X := .cl fFetchNow (n, t, a, true, ()) fun z2 =>
 .leaf (mkR fRespondTo.rs (z2.2.1, ())) [] []) (by kernel_rfl) ?_
  refine cl_i ?_ fun o1 => (Fct.leafY ?_)
  all_goals try simp only [std1, ne_eq] at *
  all_goals try simp only [fFetchNow, fRespondTo, etaS, std1, std2, Nat.reduceAdd, ne_eq, respondTo, fFetchNow] at *
  all_goals try simp (disch := omega) only [wrapId', toNat1] at *
  all_goals try simp (disch := omega) only [if_pos, if_neg]
  all_goals first | trivial | omega | grind [wrapId', toNat1, drop_cons, drop_end, good_len, maxLen, respondTo, fFetchNow])
def E178 : D.Env := E177.add 85 fRespondTo
theorem E178ok : EOk Tryz.prog E178 := E177ok.add k85_177
def modRequest (p : SPage) (k : Int) : SRequest := if 0 ≤ k ∧ k < p.mods.length then ⟨5, (p.mods.getD k.toNat default).to, p.addr.host, ⟨#[]⟩⟩ else default
def fModRequest : Fct := ⟨[.v (.el .page), .v (.el .int)], [.el .request], fun (x_ : SPage × Int × Unit) => x_.1.mods.length ≤ 1000000000000 ∧ -9223372036854775808 ≤ x_.2.1 ∧ x_.2.1 ≤ 9223372036854775807, fun (x_ : SPage × Int × Unit) => (modRequest x_.1 x_.2.1, ())⟩
theorem k35_178 : fModRequest.ok Tryz.prog 35 := Fct.of (S := fModRequest) (L := fun _ _ => none) (kp := [1,2,4,11,1000011]) E178ok Tryz.func35 (by kernel_rfl) (by kernel_rfl) (by
  rintro ⟨(p : SPage), (k : Int), _⟩ hp
  refine holds_of (X := .cl fInRange (k, (0 : Int), IntKind.i64.wrap ((↑p.mods.length : Int) - (1 : Int)), ()) fun z2 =>
 .br (!z2.1)
 (.leaf (mkR fModRequest.rs (default, ())) [] [])
 (.ob ((0 : Int) ≤ k ∧ k < (↑p.mods.length : Int)) <| .leaf (mkR fModRequest.rs (⟨(5 : Int), (p.mods.getD (Int.toNat k) default).to, p.addr.host, (⟨#[]⟩ : ByteArray)⟩, ())) [] [])) (by kernel_rfl) ?_
  refine cl_i trivial fun _ => (br_i (fun h1 => Fct.leafY ?_) (fun h1 => ob_i ?_ fun o2 => Fct.leafY ?_))
  all_goals try simp only [std1, ne_eq] at *
  all_goals try simp only [fInRange, fModRequest, etaS, std1, std2, Nat.reduceAdd, ne_eq, modRequest, fInRange, inRange] at *
  all_goals try simp (disch := omega) only [wrapId', toNat1] at *
  all_goals try simp (disch := omega) only [if_pos, if_neg]
  all_goals first | trivial | omega | grind [wrapId', toNat1, drop_cons, drop_end, good_len, maxLen, modRequest, fInRange, inRange])
def E179 : D.Env := E178.add 35 fModRequest
theorem E179ok : EOk Tryz.prog E179 := E178ok.add k35_178
theorem k49_179 : fModRequest.ok Tryz.prog 49 := Fct.of (S := fModRequest) (L := fun _ _ => none) (kp := [1,2,4,13,1000013]) E179ok Tryz.func49 (by kernel_rfl) (by kernel_rfl) (by
  rintro ⟨(p : SPage), (k : Int), _⟩ hp
  refine holds_of (X := .br (decide (k < (0 : Int)))
 (.leaf (mkR fModRequest.rs (default, ())) [] [])
 (.br (decide (k ≥ (↑p.mods.length : Int)))
 (.leaf (mkR fModRequest.rs (default, ())) [] [])
 (.ob ((0 : Int) ≤ k ∧ k < (↑p.mods.length : Int)) <| .leaf (mkR fModRequest.rs (⟨(5 : Int), (p.mods.getD (Int.toNat k) default).to, p.addr.host, (⟨#[]⟩ : ByteArray)⟩, ())) [] []))) (by kernel_rfl) ?_
  refine br_i (fun h1 => Fct.leafY ?_) (fun h1 => br_i (fun h2 => Fct.leafY ?_) (fun h2 => ob_i ?_ fun o3 => Fct.leafY ?_))
  all_goals try simp only [std1, ne_eq] at *
  all_goals try simp only [fModRequest, etaS, std1, std2, Nat.reduceAdd, ne_eq, modRequest, fInRange, inRange] at *
  all_goals try simp (disch := omega) only [wrapId', toNat1] at *
  all_goals try simp (disch := omega) only [if_pos, if_neg]
  all_goals first | trivial | omega | grind [wrapId', toNat1, drop_cons, drop_end, good_len, maxLen, modRequest, fInRange, inRange])
def E180 : D.Env := E179.add 49 fModRequest
theorem E180ok : EOk Tryz.prog E180 := E179ok.add k49_179
def usedRight (n : SNet) (p : SPage) (r : SRequest) (done : Bool) (code : Int) (body : ByteArray) : Bool := if done = false then true else if checkRequest p.policy r ≠ 1 then decide (code = 2) && decide (body = ⟨#[]⟩) else decide (code = checkResponse p.policy r (respondTo n p.addr.host r.to)) && decide (body = (usable p.policy r (respondTo n p.addr.host r.to)).1)
theorem respond_sz (n : SNet) (t : ByteArray) (a : SAddr) : (respondTo n t a).policy.size ≤ szNet n ∧ (respondTo n t a).body.size ≤ szNet n := by
  have := fetch_sz n t a true
  unfold respondTo
  simp only [szResponse] at this; omega
theorem page_sz (p : SPage) : szPolicy p.policy ≤ szPage p ∧ p.addr.host.size ≤ szPage p ∧ szL szSlot p.slots ≤ szPage p ∧ szL szModule p.mods ≤ szPage p := by
  simp only [szPage, szAddr]; omega
theorem net_sz (n : SNet) : szCache n.cache ≤ szNet n ∧ szL szServer n.servers ≤ szNet n := by simp only [szNet]; omega
def fUsedRight : Fct := ⟨[.v (.el .net), .v (.el .page), .v (.el .request), .v (.el .bool), .v (.el .int), .v (.el .str)], [.el .bool], fun (x_ : SNet × SPage × SRequest × Bool × Int × ByteArray × Unit) => szNet x_.1 ≤ 10000000 ∧ szPage x_.2.1 ≤ 10000000 ∧ szRequest x_.2.2.1 ≤ 10000000, fun (x_ : SNet × SPage × SRequest × Bool × Int × ByteArray × Unit) => (usedRight x_.1 x_.2.1 x_.2.2.1 x_.2.2.2.1 x_.2.2.2.2.1 x_.2.2.2.2.2.1, ())⟩
theorem k34_180 : fUsedRight.ok Tryz.prog 34 := Fct.of (S := fUsedRight) (L := fun _ _ => none) (kp := [3,4,5,6,7,8,12,13,14,17,22,1000017,1000022]) E180ok Tryz.func34 (by kernel_rfl) (by kernel_rfl) (by
  rintro ⟨(n : SNet), (p : SPage), (r : SRequest), (done : Bool), (code : Int), (body : ByteArray), _⟩ hp
  refine holds_of (X := .br (!done)
 (.leaf (mkR fUsedRight.rs (true, ())) [] [])
 (.cl fCheckRequest (p.policy, r, ()) fun z2 =>
 .br (z2.1 != (1 : Int))
 (.br (code == (2 : Int))
 (.leaf (mkR fUsedRight.rs (ByteArray.toList body == (⟨#[]⟩ : ByteArray).toList, ())) [] [])
 (.leaf (mkR fUsedRight.rs (false, ())) [] []))
 (.cl fRespondTo (n, p.addr.host, r.to, ()) fun z3 =>
 .cl fUsableBody (p.policy, r, z3.1, ()) fun z4 =>
 .cl fCheckResponse (p.policy, r, z3.1, ()) fun z5 =>
 .br (code == z5.1)
 (.leaf (mkR fUsedRight.rs (ByteArray.toList body == z4.1.toList, ())) [] [])
 (.leaf (mkR fUsedRight.rs (false, ())) [] [])))) (by kernel_rfl) ?_
  refine br_i (fun h1 => Fct.leafY ?_) (fun h1 => cl_i ?_ fun o2 => (br_i (fun h3 => br_i (fun h4 => Fct.leafY ?_) (fun h4 => Fct.leafY ?_)) (fun h3 => cl_i ?_ fun o5 => (cl_i ?_ fun o6 => (cl_i ?_ fun o7 => (br_i (fun h8 => Fct.leafY ?_) (fun h8 => Fct.leafY ?_)))))))
  all_goals have h1 := respond_sz n p.addr.host r.to
  all_goals have h2 := page_sz p
  all_goals have h3 := net_sz n
  all_goals have h4 : szAddr r.to ≤ szRequest r := by simp only [szRequest]; omega
  all_goals try simp only [std1, ne_eq] at *
  all_goals try simp only [fCheckRequest, fCheckResponse, fRespondTo, fUsableBody, fUsedRight, etaS, std1, std2, Nat.reduceAdd, ne_eq, usedRight, fCheckRequest, fRespondTo, fUsableBody, fCheckResponse] at *
  all_goals try simp (disch := omega) only [wrapId', toNat1] at *
  all_goals try simp (disch := omega) only [if_pos, if_neg]
  all_goals first | trivial | omega | grind [wrapId', toNat1, drop_cons, drop_end, good_len, maxLen, usedRight, fCheckRequest, fRespondTo, fUsableBody, fCheckResponse])
def E181 : D.Env := E180.add 34 fUsedRight
theorem E181ok : EOk Tryz.prog E181 := E180ok.add k34_180
theorem k48_181 : fUsedRight.ok Tryz.prog 48 := Fct.of (S := fUsedRight) (L := fun _ _ => none) (kp := [3,4,5,6,7,8,12,13,14,17,22,1000017,1000022]) E181ok Tryz.func48 (by kernel_rfl) (by kernel_rfl) (by
  rintro ⟨(n : SNet), (p : SPage), (r : SRequest), (done : Bool), (code : Int), (body : ByteArray), _⟩ hp
  refine holds_of (X := .br (!done)
 (.leaf (mkR fUsedRight.rs (true, ())) [] [])
 (.cl fCheckRequest (p.policy, r, ()) fun z2 =>
 .br (z2.1 != (1 : Int))
 (.br (code == (2 : Int))
 (.leaf (mkR fUsedRight.rs (ByteArray.toList body == (⟨#[]⟩ : ByteArray).toList, ())) [] [])
 (.leaf (mkR fUsedRight.rs (false, ())) [] []))
 (.cl fRespondTo (n, p.addr.host, r.to, ()) fun z3 =>
 .cl fUsableBody (p.policy, r, z3.1, ()) fun z4 =>
 .cl fCheckResponse (p.policy, r, z3.1, ()) fun z5 =>
 .br (code == z5.1)
 (.leaf (mkR fUsedRight.rs (ByteArray.toList body == z4.1.toList, ())) [] [])
 (.leaf (mkR fUsedRight.rs (false, ())) [] [])))) (by kernel_rfl) ?_
  refine br_i (fun h1 => Fct.leafY ?_) (fun h1 => cl_i ?_ fun o2 => (br_i (fun h3 => br_i (fun h4 => Fct.leafY ?_) (fun h4 => Fct.leafY ?_)) (fun h3 => cl_i ?_ fun o5 => (cl_i ?_ fun o6 => (cl_i ?_ fun o7 => (br_i (fun h8 => Fct.leafY ?_) (fun h8 => Fct.leafY ?_)))))))
  all_goals have h1 := respond_sz n p.addr.host r.to
  all_goals have h2 := page_sz p
  all_goals have h3 := net_sz n
  all_goals have h4 : szAddr r.to ≤ szRequest r := by simp only [szRequest]; omega
  all_goals try simp only [std1, ne_eq] at *
  all_goals try simp only [fCheckRequest, fCheckResponse, fRespondTo, fUsableBody, fUsedRight, etaS, std1, std2, Nat.reduceAdd, ne_eq, usedRight, fCheckRequest, fRespondTo, fUsableBody, fCheckResponse] at *
  all_goals try simp (disch := omega) only [wrapId', toNat1] at *
  all_goals try simp (disch := omega) only [if_pos, if_neg]
  all_goals first | trivial | omega | grind [wrapId', toNat1, drop_cons, drop_end, good_len, maxLen, usedRight, fCheckRequest, fRespondTo, fUsableBody, fCheckResponse])
def E182 : D.Env := E181.add 48 fUsedRight
theorem E182ok : EOk Tryz.prog E182 := E181ok.add k48_181
def moduleRight (n : SNet) (p : SPage) (k : Int) : Bool := if 0 ≤ k ∧ k < p.mods.length then usedRight n p (modRequest p k) (p.mods.getD k.toNat default).done (p.mods.getD k.toNat default).code (p.mods.getD k.toNat default).body else false
theorem modReq_sz (p : SPage) (k : Int) : szRequest (modRequest p k) ≤ 2 * szPage p := by
  unfold modRequest
  split
  · have h1 := szL_get szModule (l := p.mods) (i := k.toNat) (by omega)
    have h2 := page_sz p
    have h3 : ByteArray.size ⟨#[]⟩ = 0 := rfl
    simp only [szRequest, szModule, h3] at *; omega
  · have : szRequest (default : SRequest) = 0 := by decide
    omega
def fModuleRight : Fct := ⟨[.v (.el .net), .v (.el .page), .v (.el .int)], [.el .bool], fun (x_ : SNet × SPage × Int × Unit) => szNet x_.1 ≤ 5000000 ∧ szPage x_.2.1 ≤ 5000000 ∧ -9223372036854775808 ≤ x_.2.2.1 ∧ x_.2.2.1 ≤ 9223372036854775807, fun (x_ : SNet × SPage × Int × Unit) => (moduleRight x_.1 x_.2.1 x_.2.2.1, ())⟩
theorem k9_182 : fModuleRight.ok Tryz.prog 9 := Fct.of (S := fModuleRight) (L := fun _ _ => none) (kp := [2,3,4,6,7,14,1000014]) E182ok Tryz.func9 (by kernel_rfl) (by kernel_rfl) (by
  rintro ⟨(n : SNet), (p : SPage), (k : Int), _⟩ hp
  refine holds_of (X := .cl fInRange (k, (0 : Int), IntKind.i64.wrap ((↑p.mods.length : Int) - (1 : Int)), ()) fun z2 =>
 .br (!z2.1)
 (.leaf (mkR fModuleRight.rs (false, ())) [] [])
 (.ob ((0 : Int) ≤ k ∧ k < (↑p.mods.length : Int)) <| .cl fModRequest (p, k, ()) fun z3 =>
 .cl fUsedRight (n, p, z3.1, (p.mods.getD (Int.toNat k) default).done, (p.mods.getD (Int.toNat k) default).code, (p.mods.getD (Int.toNat k) default).body, ()) fun z4 =>
 .leaf (mkR fModuleRight.rs (z4.1, ())) [] [])) (by kernel_rfl) ?_
  refine cl_i trivial fun _ => (br_i (fun h1 => Fct.leafY ?_) (fun h1 => ob_i ?_ fun o2 => cl_i ?_ fun o3 => (cl_i ?_ fun o4 => (Fct.leafY ?_))))
  all_goals have h1 := modReq_sz p k
  all_goals have h2 := page_sz p
  all_goals have h3 := szL_len szModule p.mods
  all_goals try simp only [std1, ne_eq] at *
  all_goals try simp only [fInRange, fModRequest, fModuleRight, fUsedRight, etaS, std1, std2, Nat.reduceAdd, ne_eq, moduleRight, fInRange, inRange, fModRequest, fUsedRight] at *
  all_goals try simp (disch := omega) only [wrapId', toNat1] at *
  all_goals try simp (disch := omega) only [if_pos, if_neg]
  all_goals first | trivial | omega | grind [wrapId', toNat1, drop_cons, drop_end, good_len, maxLen, moduleRight, fInRange, inRange, fModRequest, fUsedRight])
def E183 : D.Env := E182.add 9 fModuleRight
theorem E183ok : EOk Tryz.prog E183 := E182ok.add k9_182
theorem k12_183 : fModuleRight.ok Tryz.prog 12 := Fct.of (S := fModuleRight) (L := fun _ _ => none) (kp := [2,3,4,6,7,16,1000016]) E183ok Tryz.func12 (by kernel_rfl) (by kernel_rfl) (by
  rintro ⟨(n : SNet), (p : SPage), (k : Int), _⟩ hp
  refine holds_of (X := .br (decide (k < (0 : Int)))
 (.leaf (mkR fModuleRight.rs (false, ())) [] [])
 (.br (decide (k ≥ (↑p.mods.length : Int)))
 (.leaf (mkR fModuleRight.rs (false, ())) [] [])
 (.ob ((0 : Int) ≤ k ∧ k < (↑p.mods.length : Int)) <| .cl fModRequest (p, k, ()) fun z2 =>
 .cl fUsedRight (n, p, z2.1, (p.mods.getD (Int.toNat k) default).done, (p.mods.getD (Int.toNat k) default).code, (p.mods.getD (Int.toNat k) default).body, ()) fun z3 =>
 .leaf (mkR fModuleRight.rs (z3.1, ())) [] []))) (by kernel_rfl) ?_
  refine br_i (fun h1 => Fct.leafY ?_) (fun h1 => br_i (fun h2 => Fct.leafY ?_) (fun h2 => ob_i ?_ fun o3 => cl_i ?_ fun o4 => (cl_i ?_ fun o5 => (Fct.leafY ?_))))
  all_goals have h1 := modReq_sz p k
  all_goals have h2 := page_sz p
  all_goals have h3 := szL_len szModule p.mods
  all_goals try simp only [std1, ne_eq] at *
  all_goals try simp only [fModRequest, fModuleRight, fUsedRight, etaS, std1, std2, Nat.reduceAdd, ne_eq, moduleRight, fInRange, inRange, fModRequest, fUsedRight] at *
  all_goals try simp (disch := omega) only [wrapId', toNat1] at *
  all_goals try simp (disch := omega) only [if_pos, if_neg]
  all_goals first | trivial | omega | grind [wrapId', toNat1, drop_cons, drop_end, good_len, maxLen, moduleRight, fInRange, inRange, fModRequest, fUsedRight])
def E184 : D.Env := E183.add 12 fModuleRight
theorem E184ok : EOk Tryz.prog E184 := E183ok.add k12_183
def lNetPageInt : Fct := lawFS [.el .net, .el .page, .el .int]
set_option maxHeartbeats 2000000 in
theorem k3_184 : lNetPageInt.ok Tryz.prog 3 := Fct.of (S := lNetPageInt) (L := fun _ _ => none) (kp := [2,3,4,6,7,8,9,10,11,16,21,38,43,48,1000016,1000021,1000038,1000043,1000048]) E184ok Tryz.func3 (by kernel_rfl) (by kernel_rfl) (by
  rintro ⟨(n : SNet), (p : SPage), (k : Int), _⟩ hp
  refine holds_of (X := .cl fszNet (n, (1048576 : Int), ()) fun z2 =>
 .br (decide (z2.1 < (0 : Int)))
 (.leaf (mkR lNetPageInt.rs (true, ())) [] [])
 (.cl fszPage (p, z2.1, ()) fun z3 =>
 .br (decide (z3.1 < (0 : Int)))
 (.leaf (mkR lNetPageInt.rs (true, ())) [] [])
 (.cl ftoNet (n, ()) fun z4 =>
 .cl ftoPage (p, ()) fun z5 =>
 .cl fModuleRight (z4.1, z5.1, k, ()) fun z6 =>
 .cl ftoNet (n, ()) fun z7 =>
 .cl ftoPage (p, ()) fun z8 =>
 .cl fModuleRight (z7.1, z8.1, k, ()) fun z9 =>
 .br (!z9.1 == z6.1)
 (.leaf (mkR lNetPageInt.rs (false, ())) [] [])
 (.cl ftoNet (n, ()) fun z10 =>
 .cl feqNet (z7.1, z10.1, ()) fun z11 =>
 .br (!z11.1)
 (.leaf (mkR lNetPageInt.rs (false, ())) [] [])
 (.cl ftoPage (p, ()) fun z12 =>
 .cl feqPage (z8.1, z12.1, ()) fun z13 =>
 .br (!z13.1)
 (.leaf (mkR lNetPageInt.rs (false, ())) [] [])
 (.leaf (mkR lNetPageInt.rs (true, ())) [] [])))))) (by kernel_rfl) ?_
  refine cl_e ?_ fun o1 z2 ez2 => (br_i (fun h2 => Fct.leafY ?_) (fun h2 => cl_e ?_ fun o3 z3 ez3 => (br_i (fun h4 => Fct.leafY ?_) (fun h4 => cl_e ?_ fun o5 z4 ez4 => (cl_e ?_ fun o6 z5 ez5 => (cl_e ?_ fun o7 z6 ez6 => (cl_e ?_ fun o8 z7 ez7 => (cl_e ?_ fun o9 z8 ez8 => (cl_e ?_ fun o10 z9 ez9 => (br_i (fun h11 => Fct.leafY ?_) (fun h11 => cl_e ?_ fun o12 z10 ez10 => (cl_e ?_ fun o13 z11 ez11 => (br_i (fun h14 => Fct.leafY ?_) (fun h14 => cl_e ?_ fun o15 z12 ez12 => (cl_e ?_ fun o16 z13 ez13 => (br_i (fun h17 => Fct.leafY ?_) (fun h17 => Fct.leafY ?_)))))))))))))))))
  all_goals have hg0 : Sh.good (.el .net) n := hp.1
  all_goals have hg1 : Sh.good (.el .page) p := hp.2.1
  all_goals have hg2 : Sh.good (.el .int) k := hp.2.2.1
  all_goals have hI0 := goodI (k) hg2 (by simp [enc])
  all_goals clear hp
  all_goals subst_vars
  all_goals try simp only [std1, ne_eq] at *
  all_goals try simp only [fModuleRight, feqNet, feqPage, fszNet, fszPage, ftoNet, ftoPage, lNetPageInt, etaS, std1, std2, Nat.reduceAdd, ne_eq, decide_true] at *
  all_goals first | trivial | omega | grind [lessen])
def E185 : D.Env := E184.add 3 lNetPageInt
theorem E185ok : EOk Tryz.prog E185 := E184ok.add k3_184
section
open Go.ChangeShapes Go.WideShapes Go.ChangeAt Go.RowKit
theorem own : ownKnob Tryz.prog.godebug = none := by kernel_rfl
theorem types : ∀ e t, tyOf e = some t → e ∈ ([3, 4, 5, 9, 25, 28, 30, 33, 35, 40, 45, 52, 55, 57, 58, 59, 63, 68, 90, 93, 120, 124, 128, 132, 137, 140, 143, 150, 154, 158, 175, 177, 181, 191, 195, 203, 207, 222, 225] : List TypeId) := by
  intro e t h
  unfold tyOf at h
  split at h <;> first | (simp; done) | cases h
theorem lifted (os : Os) (started : os.Started) (H : Type) (enc : TypeId × Value → H) :
    ReturnsInHanded {} Tryz.checked os 3 .any (fun w args => (Rows.fnExactModuleRightSpec.pre enc Tryz.prog Tryz.f3 [] false w args ∧ laidMetH Tryz.prog [("math/bits.deBruijn32tab", Rows.laid_math_bits_deBruijn32tab), ("math/bits.deBruijn64tab", Rows.laid_math_bits_deBruijn64tab), ("internal/strconv.uint64pow10", Rows.laid_internal_strconv_uint64pow10), ("unicode/utf8.acceptRanges", Rows.laid_unicode_utf8_acceptRanges), ("unicode/utf8.first", Rows.laid_unicode_utf8_first)] w) ∧ sizedMet enc Tryz.prog Tryz.f3 (OpenSpec.ofChange Rows.fnExactModuleRightSpec) false w args) (Rows.fnExactModuleRightSpec.post enc Tryz.prog Tryz.f3 false true false false) := by
  refine handed_shL (C := Tryz.checked) (X := fun w _ => laidMetH Tryz.prog [("math/bits.deBruijn32tab", Rows.laid_math_bits_deBruijn32tab), ("math/bits.deBruijn64tab", Rows.laid_math_bits_deBruijn64tab), ("internal/strconv.uint64pow10", Rows.laid_internal_strconv_uint64pow10), ("unicode/utf8.acceptRanges", Rows.laid_unicode_utf8_acceptRanges), ("unicode/utf8.first", Rows.laid_unicode_utf8_first)] w) (fun _ _ _ hh h => h.of_heap hh) own started (by kernel_rfl) Tryz.func3
    (ChangeSpec.witness_shaped (enc := enc) (C := Tryz.checked) (os := os) (X := fun w _ => laidMetH Tryz.prog [("math/bits.deBruijn32tab", Rows.laid_math_bits_deBruijn32tab), ("math/bits.deBruijn64tab", Rows.laid_math_bits_deBruijn64tab), ("internal/strconv.uint64pow10", Rows.laid_internal_strconv_uint64pow10), ("unicode/utf8.acceptRanges", Rows.laid_unicode_utf8_acceptRanges), ("unicode/utf8.first", Rows.laid_unicode_utf8_first)] w) false (World.laidAll Tryz.prog os [("math/bits.deBruijn32tab", Rows.laid_math_bits_deBruijn32tab), ("math/bits.deBruijn64tab", Rows.laid_math_bits_deBruijn64tab), ("internal/strconv.uint64pow10", Rows.laid_internal_strconv_uint64pow10), ("unicode/utf8.acceptRanges", Rows.laid_unicode_utf8_acceptRanges), ("unicode/utf8.first", Rows.laid_unicode_utf8_first)]) #[.agg #[.slice none 0 0, .slice none 0 0, .slice none 0 0, .int .i64 0], .agg #[.string ⟨#[]⟩, .string ⟨#[]⟩, .bool false, .slice none 0 0, .slice none 0 0, .slice none 0 0, .string ⟨#[]⟩, .string ⟨#[]⟩, .slice none 0 0, .bool false, .slice none 0 0, .slice none 0 0, .slice none 0 0, .slice none 0 0, .slice none 0 0, .int .i64 0, .int .i64 0, .int .i64 0, .int .i64 0, .slice none 0 0, .slice none 0 0, .bool false], .int .i64 0] 8 (World.laidAll_os _ _ _) (World.shaped_of_ZipB (by kernel_rfl) (by kernel_rfl)) (by kernel_rfl) (by kernel_rfl) (by kernel_rfl)
      (by rw [MakeChecks.laidMetH_plain _ _ _ (by kernel_rfl)]; exact laidMet_laidAll _ (by kernel_rfl) (by kernel_rfl))) ?_
  intro W base args ds gs before hval0 hW hsh hL
  have hval : ∀ (j : Nat) t v, Tryz.f3.params[j]? = some t → args[j]? = some v → Value.okWide Tryz.prog W .any base t v := hval0
  refine law_calls (show rowOk Tryz.prog Tryz.f3 tyOf [3, 4, 5, 9, 25, 28, 30, 33, 35, 40, 45, 52, 55, 57, 58, 59, 63, 68, 90, 93, 120, 124, 128, 132, 137, 140, 143, 150, 154, 158, 175, 177, 181, 191, 195, 203, 207, 222, 225] [.el .net, .el .page, .el .int] = true by kernel_rfl) types rfl Tryz.underlying4 rfl hW (fun xs h => ?_) hval hsh (laid_tab (i := 2) (g := 1) (t := 288) (e := 277) (n := 20) (by kernel_rfl) (by kernel_rfl) (by kernel_rfl) (by kernel_rfl) (by kernel_rfl) (by kernel_rfl) (by kernel_rfl) (by kernel_rfl) (by kernel_rfl) (by kernel_rfl) hL) k3_184
  · rw [Tryz.params3] at h
    match xs, (show xs.length = 3 from h) with
    | [x0, x1, x2], _ => rfl
set_option maxHeartbeats 0 in
theorem closed : joinedFacts Tryz.prog 3 Tryz.f3 Rows.fnExactModuleRightSpec Rows.fnExactModuleRightRow = true := by
  unfold joinedFacts
  refine (and_i (and_i (and_i (and_i (and_i (and_i (and_i (and_i (and_i (and_i (and_i (and_i (and_i (and_i (and_i (and_i (and_i (and_i (and_i (and_i (and_i (and_i (and_i (and_i (and_i (and_i (and_i (and_i (and_i (and_i (and_i ?_ ?_) ?_) ?_) ?_) ?_) ?_) ?_) ?_) ?_) ?_) ?_) ?_) ?_) ?_) ?_) ?_) ?_) ?_) ?_) ?_) ?_) ?_) ?_) ?_) ?_) ?_) ?_) ?_) ?_) ?_) ?_)
  all_goals decide +kernel
theorem over : Rows.fnExactModuleRightRow.holds Tryz.pinned (OpenSpec.ofChange Rows.fnExactModuleRightSpec) :=
  OpenClaim.holds_of_wide 3 Tryz.f3 rfl rfl rfl rfl rfl rfl rfl ⟨rfl, rfl, rfl, rfl, rfl⟩ rfl rfl rfl rfl rfl (by kernel_rfl) Tryz.func3 closed
    (of_decide_eq_true (by kernel_rfl)) (by unfold Func.isWrapper; first | (rw [if_pos (by decide +kernel)]; kernel_rfl) | (rw [if_neg (by decide +kernel)]; exact ⟨rfl, rfl⟩))
    (fun os started H enc _ => lifted os started H enc)
theorem proved : Rows.FnExactModuleRightCardSaid :=
  Claim7.holds_tied_plain_at .later [] [.data, .data, .data, .data, .pinned] true (true, "9143ca12ca8a407c1a1bbe20a04f3555c4939503102843a7d0236390d5285a07") false
    over (fun _ h => by cases h) (by kernel_rfl) (fun _ h => by cases h) fnExactModuleRight_row_tie rfl ⟨rfl, rfl⟩ (by kernel_rfl) rfl
    (fun f fn hf hfn => by
      obtain rfl : f = 3 := Option.some.inj ((show Tryz.prog.funcNamed "loop.example/g00586/laws.FnExactModuleRight" = some 3 by kernel_rfl).symm.trans hf) |>.symm
      obtain rfl : fn = Tryz.f3 := (Option.some.inj (Tryz.func3.symm.trans hfn)).symm
      exact ⟨by kernel_rfl, fun j t ht => by
        have hm := Array.mem_of_getElem? ht
        have hall : (Tryz.f3.params.toList.all fun u => !Tryz.prog.wantsStandIn u) = true := by kernel_rfl
        exact (show Tryz.prog.wantsStandIn t = false by simpa using List.all_eq_true.1 hall t (Array.mem_toList_iff.2 hm))⟩)
    (by kernel_rfl)
end
end Go.Proofs.YtgmffjinggmpaaaGreatDoor.fnExactModuleRight
