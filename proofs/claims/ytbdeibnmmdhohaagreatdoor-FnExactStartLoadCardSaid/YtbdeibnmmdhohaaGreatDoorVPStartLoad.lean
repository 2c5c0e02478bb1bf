/-
  The program's StartLoad returns what the reference's returns, for all arguments: the law returns true. No condition.
-/
import Derived.Test.YtbdeibnmmdhohaaGreatDoorVPStartLoad2
import Derived.Test.YtbdeibnmmdhohaaGreatDoorVLe
import Derived.Test.YtbdeibnmmdhohaaGreatDoorRows
import Derived.Test.YtbdeibnmmdhohaaGreatDoorCards
import Derived.Test.YtbdeibnmmdhohaaGreatDoorTie
import Derived.LaidMore
import Derived.Lay
import Derived.SevenTiedAt
import Derived.WalkKit
import Derived.ProofKit
import Derived.OpenShut
namespace Go.Proofs.YtbdeibnmmdhohaaGreatDoor.fnExactStartLoad
open Go.Proofs.YtbdeibnmmdhohaaGreatDoor
open Go.D
set_option maxRecDepth 100000
set_option linter.unusedVariables false
set_option linter.unusedSimpArgs false
theorem k59_151 : fIsResponse.ok Tryz.prog 59 := Fct.of (S := fIsResponse) (L := fun _ _ => none) (kp := [1,2,4]) E151ok Tryz.func59 (by kernel_rfl) (by kernel_rfl) (by
  rintro ⟨(x : SResponse), _⟩ hp
  refine holds_of (X := .ob (fParsePolicy.pre (x.policy, ())) <|
 .lt (SPolicy × Bool × PUnit) (fParsePolicy.fn (x.policy, ())) fun z2 =>
 .ob (fInRange.pre (x.status, (100 : Int), (599 : Int), ())) <|
  .lt (Bool × PUnit) (fInRange.fn (x.status, (100 : Int), (599 : Int), ())) fun z3 =>
  .br (z3.fst)
   (.ob (fInRange.pre (x.kind, (1 : Int), (5 : Int), ())) <|
    .lt (Bool × PUnit) (fInRange.fn (x.kind, (1 : Int), (5 : Int), ())) fun z4 =>
    .br (z4.fst)
     (.br (decide ((↑x.body.size : Int) ≤ (400 : Int)))
      (.ob (fInRange.pre (x.age, (0 : Int), (1000 : Int), ())) <|
       .lt (Bool × PUnit) (fInRange.fn (x.age, (0 : Int), (1000 : Int), ())) fun z5 =>
       .br (z5.fst)
        (.leaf (mkR fIsResponse.rs (z2.snd.fst, ())) [] [])
        (.leaf (mkR fIsResponse.rs (false, ())) [] []))
      (.leaf (mkR fIsResponse.rs (false, ())) [] []))
     (.leaf (mkR fIsResponse.rs (false, ())) [] []))
   (.leaf (mkR fIsResponse.rs (false, ())) [] [])) (by kernel_rfl) ?_
  refine ob_i ?_ fun o1 => lt_i (ob_i trivial fun _ => lt_i (br_i (fun h2 => ob_i trivial fun _ => lt_i (br_i (fun h3 => br_i (fun h4 => ob_i trivial fun _ => lt_i (br_i (fun h5 => Fct.leafY ?_) (fun h5 => Fct.leafY ?_))) (fun h4 => Fct.leafY ?_)) (fun h3 => Fct.leafY ?_))) (fun h2 => Fct.leafY ?_)))
  all_goals try simp only [std1, ne_eq] at *
  all_goals try simp only [fInRange, fIsResponse, fParsePolicy, etaS, std1, std2, Nat.reduceAdd, ne_eq, isResponse, fParsePolicy, fInRange] at *
  all_goals try simp (disch := omega) only [wrapId', toNat1] at *
  all_goals try simp (disch := omega) only [if_pos, if_neg]
  all_goals first | trivial | omega | grind [wrapId', toNat1, drop_cons, drop_end, good_len, maxLen, isResponse, fParsePolicy, fInRange])
def E152 : D.Env := E151.add 59 fIsResponse
theorem E152ok : EOk Tryz.prog E152 := E151ok.add k59_151
def entOk (all : List SEntry) : List SEntry → Int → Bool
  | [], _ => true
  | e :: l, i => isName e.top && (isName e.to.host && isName e.to.path) && isResponse e.response && decide (e.response.status = 200) && decide (fidx (fun x => decide (x.top = e.top) && decide (x.to = e.to)) all 0 = i) && entOk all l (i + 1)
theorem entOk_at {all l : List SEntry} {i : Nat} {k : Int} (h : i < l.length) : entOk all (l.drop i) k = (isName (l.getD i default).top && (isName (l.getD i default).to.host && isName (l.getD i default).to.path) && isResponse (l.getD i default).response && decide ((l.getD i default).response.status = 200) && decide (fidx (fun x => decide (x.top = (l.getD i default).top) && decide (x.to = (l.getD i default).to)) all 0 = k) && entOk all (l.drop (i + 1)) (k + 1)) := by rw [drop_cons h]; rfl
theorem entOk_end {all l : List SEntry} {i : Nat} {k : Int} (h : l.length ≤ i) : entOk all (l.drop i) k = true := by rw [List.drop_of_length_le h]; rfl
def isCache (c : SCache) : Bool := entOk c.entries c.entries 0 && decide (c.entries.length ≤ 100)
def fIsCache : Fct := ⟨[.v (.el .cache)], [.el .bool], fun (x_ : SCache × Unit) => szCache x_.1 ≤ 200000000, fun (x_ : SCache × Unit) => (isCache x_.1, ())⟩
theorem szEntry_get {l : List SEntry} {i : Nat} (h : i < l.length) : szEntry (l.getD i default) + l.length ≤ szL szEntry l := szL_get szEntry h
abbrev W_spec_IsCache_fIsCache_2 (c : SCache) : LInv := ⟨[⟨.s, 3, true, .el .int⟩, ⟨.b, 1, false, .el .cache⟩], fun (z_ : Int × SCache × Unit) (x_ : Int × SCache × Unit) => (0 ≤ x_.1 ∧ x_.1 ≤ c.entries.length ∧ entOk c.entries (c.entries.drop x_.1.toNat) x_.1 = entOk c.entries c.entries 0) ∧ x_.2.1 = z_.2.1, fun (x_ : Int × SCache × Unit) => c.entries.length - x_.1.toNat⟩
theorem k151_152 : fIsCache.ok Tryz.prog 151 := Fct.of (S := fIsCache) (L := fun ⟨c, _⟩ => fun | 2 => some (W_spec_IsCache_fIsCache_2 c) | _ => none) (kp := [1,2,3,4,9,48,1000009,1000048]) E152ok Tryz.func151 (by kernel_rfl) (by kernel_rfl) (by
  rintro ⟨(c : SCache), _⟩ hp
  refine holds_of (X := lpx (W_spec_IsCache_fIsCache_2 c) ((0 : Int), (c, ())) fun (y1 : Int × SCache × PUnit) bk1 =>
 .br (decide (y1.fst < (↑y1.snd.fst.entries.length : Int)))
  (.ob ((0 : Int) ≤ y1.fst ∧ y1.fst < (↑y1.snd.fst.entries.length : Int)) <|
   .ob (fIsName.pre ((y1.snd.fst.entries.getD y1.fst.toNat default).top, ())) <|
   .lt (Bool × PUnit) (fIsName.fn ((y1.snd.fst.entries.getD y1.fst.toNat default).top, ())) fun z2 =>
   .br (!z2.fst)
    (.leaf (mkR fIsCache.rs (false, ())) [] [])
    (.ob (fIsAddr.pre ((y1.snd.fst.entries.getD y1.fst.toNat default).to, ())) <|
     .lt (Bool × PUnit) (fIsAddr.fn ((y1.snd.fst.entries.getD y1.fst.toNat default).to, ())) fun z3 =>
     .br (!z3.fst)
      (.leaf (mkR fIsCache.rs (false, ())) [] [])
      (.ob (fIsResponse.pre ((y1.snd.fst.entries.getD y1.fst.toNat default).response, ())) <|
       .lt (Bool × PUnit) (fIsResponse.fn ((y1.snd.fst.entries.getD y1.fst.toNat default).response, ())) fun z4 =>
       .br (!z4.fst)
        (.leaf (mkR fIsCache.rs (false, ())) [] [])
        (.br ((y1.snd.fst.entries.getD y1.fst.toNat default).response.status != (200 : Int))
         (.leaf (mkR fIsCache.rs (false, ())) [] [])
         (.ob (fFindEntry.pre (y1.snd.fst, (y1.snd.fst.entries.getD y1.fst.toNat default).top, (y1.snd.fst.entries.getD y1.fst.toNat default).to, ())) <|
          .lt (Int × PUnit) (fFindEntry.fn (y1.snd.fst, (y1.snd.fst.entries.getD y1.fst.toNat default).top, (y1.snd.fst.entries.getD y1.fst.toNat default).to, ())) fun z5 =>
          .br (z5.fst != y1.fst)
           (.leaf (mkR fIsCache.rs (false, ())) [] [])
           (.ob (bk1 (IntKind.i64.wrap (y1.fst + (1 : Int)), (y1.snd.fst, ()))) <|
            .ok))))))
  (.leaf (mkR fIsCache.rs (decide ((↑y1.snd.fst.entries.length : Int) ≤ (100 : Int)), ())) [] [])) (by kernel_rfl) ?_
  refine lpx_i ?_ fun (y1 : Int × SCache × PUnit) i1 => br_i (fun h2 => ob_i ?_ fun o3 => ob_i ?_ fun o4 => lt_i (br_i (fun h5 => Fct.leafY ?_) (fun h5 => ob_i ?_ fun o6 => lt_i (br_i (fun h7 => Fct.leafY ?_) (fun h7 => ob_i ?_ fun o8 => lt_i (br_i (fun h9 => Fct.leafY ?_) (fun h9 => br_i (fun h10 => Fct.leafY ?_) (fun h10 => ob_i ?_ fun o11 => lt_i (br_i (fun h12 => Fct.leafY ?_) (fun h12 => ob_i ?_ fun o13 => trivial)))))))))) (fun h2 => Fct.leafY ?_)
  all_goals have hl := szL_len szEntry c.entries
  all_goals have hg : ∀ i, i < c.entries.length → (c.entries.getD i default).top.size ≤ 200000000 ∧ (c.entries.getD i default).to.host.size ≤ 200000000 ∧ (c.entries.getD i default).to.path.size ≤ 200000000 ∧ (c.entries.getD i default).response.policy.size ≤ 200000000 := fun i h => by have := szEntry_get h; have hp2 : szCache c ≤ 200000000 := hp; simp only [szEntry, szCache, szAddr, szResponse] at *; omega
  all_goals try simp only [std1, ne_eq] at *
  all_goals try simp only [W_spec_IsCache_fIsCache_2, fFindEntry, fIsAddr, fIsCache, fIsName, fIsResponse, etaS, std1, std2, Nat.reduceAdd, ne_eq, isCache, fIsName, fIsAddr, fIsResponse, fFindEntry, szCache, entOk_at, entOk_end] at *
  all_goals try simp (disch := omega) only [wrapId', toNat1] at *
  all_goals try simp (disch := omega) only [if_pos, if_neg]
  all_goals first | trivial | omega | grind [wrapId', toNat1, drop_cons, drop_end, good_len, maxLen, isCache, fIsName, fIsAddr, fIsResponse, fFindEntry, szCache, entOk_at, entOk_end])
def E153 : D.Env := E152.add 151 fIsCache
theorem E153ok : EOk Tryz.prog E153 := E152ok.add k151_152
def laysTrim_r : Go.Shelf.Ren := ⟨fun | 0 => 0 | 1 => 1 | 2 => 2 | 101 => 130 | 125 => 134 | 128 => 176 | 129 => 177 | 138 => 185 | 143 => 186 | 146 => 129 | 156 => 166 | 165 => 190 | 166 => 191 | 169 => 192 | 189 => 75 | 195 => 200 | 197 => 201 | 206 => 187 | 208 => 164 | 215 => 198 | 216 => 173 | 217 => 210 | 218 => 202 | 219 => 203 | 221 => 163 | 224 => 212 | 225 => 211 | 240 => 206 | 241 => 207 | 257 => 133 | 260 => 209 | 266 => 217 | 267 => 213 | 268 => 184 | 276 => 215 | 277 => 216 | 294 => 167 | 295 => 168 | 296 => 169 | 297 => 170 | 298 => 171 | 299 => 172 | 300 => 174 | 301 => 175 | 314 => 218 | 328 => 193 | 329 => 194 | 330 => 195 | 331 => 196 | 332 => 197 | 343 => 208 | 347 => 219 | 348 => 220 | 349 => 221 | 350 => 222 | 351 => 223 | 352 => 224 | 353 => 225 | 354 => 226 | 355 => 227 | 356 => 228 | 357 => 229 | 358 => 230 | 359 => 231 | 360 => 232 | 361 => 233 | 362 => 234 | 366 => 235 | 367 => 240 | _ => 0, fun | 0 => 0 | 1 => 1 | 2 => 2 | 3 => 3 | 4 => 4 | 5 => 5 | 6 => 6 | 7 => 7 | 8 => 8 | 9 => 9 | 10 => 10 | 11 => 11 | 12 => 12 | 13 => 13 | 14 => 14 | 15 => 15 | 16 => 16 | 17 => 17 | 18 => 18 | 19 => 19 | 20 => 20 | 21 => 21 | 22 => 239 | 23 => 181 | 27 => 238 | 28 => 31 | 30 => 69 | 31 => 42 | 34 => 67 | 35 => 128 | 37 => 199 | 43 => 120 | 46 => 185 | 47 => 184 | 51 => 228 | 52 => 227 | 53 => 230 | 54 => 229 | 55 => 260 | 61 => 179 | 67 => 217 | 70 => 240 | 71 => 241 | 72 => 242 | 73 => 243 | 74 => 244 | 75 => 245 | 76 => 246 | 77 => 247 | 80 => 248 | 81 => 282 | 83 => 146 | 101 => 86 | 103 => 257 | 104 => 162 | 105 => 258 | 106 => 259 | 111 => 255 | 112 => 223 | 113 => 216 | 114 => 266 | 119 => 271 | 127 => 262 | 131 => 225 | 134 => 183 | 137 => 272 | 138 => 273 | 139 => 274 | 146 => 275 | 150 => 237 | 151 => 276 | 164 => 268 | 165 => 269 | 166 => 270 | 181 => 218 | 182 => 219 | 183 => 220 | 184 => 221 | 185 => 222 | 186 => 224 | 187 => 226 | 218 => 249 | 219 => 250 | 220 => 251 | 221 => 252 | 222 => 253 | 223 => 254 | 228 => 263 | 229 => 264 | 230 => 265 | 238 => 277 | 239 => 278 | 240 => 279 | 241 => 280 | 242 => 281 | 243 => 283 | 244 => 284 | 245 => 285 | 246 => 286 | 247 => 287 | 248 => 288 | 249 => 289 | _ => 0, fun | 1 => 0 | 3 => 1 | 4 => 2 | _ => 0⟩
theorem laysTrim : Go.Proofs.Lays.n101 Tryz.prog laysTrim_r where
  mixed := by kernel_rfl
  f101 := by kernel_rfl
  f206 := by kernel_rfl
  f208 := by kernel_rfl
  t3 := by kernel_rfl
  a3 := fun _ => by kernel_rfl
  z3 := fun _ => by kernel_rfl
  v3 := fun _ => by kernel_rfl
  t4 := by kernel_rfl
  a4 := fun _ => by kernel_rfl
  z4 := fun _ => by kernel_rfl
  v4 := fun _ => by kernel_rfl
  t9 := by kernel_rfl
  a9 := fun _ => by kernel_rfl
  z9 := fun _ => by kernel_rfl
  v9 := fun _ => by kernel_rfl
theorem k130_153 : fTrimPrefix.ok Tryz.prog 130 :=
  trim_ok (Go.Proofs.Any.strings_TrimPrefix laysTrim)
def E154 : D.Env := E153.add 130 fTrimPrefix
theorem E154ok : EOk Tryz.prog E154 := E153ok.add k130_153
def laysSplit_r : Go.Shelf.Ren := ⟨fun | 0 => 0 | 1 => 1 | 2 => 2 | 101 => 130 | 125 => 134 | 128 => 176 | 129 => 177 | 138 => 185 | 143 => 186 | 146 => 129 | 156 => 166 | 165 => 190 | 166 => 191 | 169 => 192 | 189 => 75 | 195 => 200 | 197 => 201 | 206 => 187 | 208 => 164 | 215 => 198 | 216 => 173 | 217 => 210 | 218 => 202 | 219 => 203 | 221 => 163 | 224 => 212 | 225 => 211 | 240 => 206 | 241 => 207 | 257 => 133 | 260 => 209 | 266 => 217 | 267 => 213 | 268 => 184 | 276 => 215 | 277 => 216 | 294 => 167 | 295 => 168 | 296 => 169 | 297 => 170 | 298 => 171 | 299 => 172 | 300 => 174 | 301 => 175 | 314 => 218 | 328 => 193 | 329 => 194 | 330 => 195 | 331 => 196 | 332 => 197 | 343 => 208 | 347 => 219 | 348 => 220 | 349 => 221 | 350 => 222 | 351 => 223 | 352 => 224 | 353 => 225 | 354 => 226 | 355 => 227 | 356 => 228 | 357 => 229 | 358 => 230 | 359 => 231 | 360 => 232 | 361 => 233 | 362 => 234 | 366 => 235 | 367 => 240 | _ => 0, fun | 0 => 0 | 1 => 1 | 2 => 2 | 3 => 3 | 4 => 4 | 5 => 5 | 6 => 6 | 7 => 7 | 8 => 8 | 9 => 9 | 10 => 10 | 11 => 11 | 12 => 12 | 13 => 13 | 14 => 14 | 15 => 15 | 16 => 16 | 17 => 17 | 18 => 18 | 19 => 19 | 20 => 20 | 21 => 21 | 22 => 239 | 23 => 181 | 27 => 238 | 28 => 31 | 30 => 69 | 31 => 42 | 34 => 67 | 35 => 128 | 37 => 199 | 43 => 120 | 46 => 185 | 47 => 184 | 51 => 228 | 52 => 227 | 53 => 230 | 54 => 229 | 55 => 260 | 61 => 179 | 67 => 217 | 70 => 240 | 71 => 241 | 72 => 242 | 73 => 243 | 74 => 244 | 75 => 245 | 76 => 246 | 77 => 247 | 80 => 248 | 81 => 282 | 83 => 146 | 101 => 86 | 103 => 257 | 104 => 162 | 105 => 258 | 106 => 259 | 111 => 255 | 112 => 223 | 113 => 216 | 114 => 266 | 119 => 271 | 127 => 262 | 131 => 225 | 134 => 183 | 137 => 272 | 138 => 273 | 139 => 274 | 146 => 275 | 150 => 237 | 151 => 276 | 164 => 268 | 165 => 269 | 166 => 270 | 181 => 218 | 182 => 219 | 183 => 220 | 184 => 221 | 185 => 222 | 186 => 224 | 187 => 226 | 218 => 249 | 219 => 250 | 220 => 251 | 221 => 252 | 222 => 253 | 223 => 254 | 228 => 263 | 229 => 264 | 230 => 265 | 238 => 277 | 239 => 278 | 240 => 279 | 241 => 280 | 242 => 281 | 243 => 283 | 244 => 284 | 245 => 285 | 246 => 286 | 247 => 287 | 248 => 288 | 249 => 289 | _ => 0, fun | 1 => 0 | 3 => 1 | 4 => 2 | _ => 0⟩
theorem laysSplit : Go.Proofs.Lays.n146 Tryz.prog laysSplit_r where
  mixed := by kernel_rfl
  f138 := by kernel_rfl
  f143 := by kernel_rfl
  f146 := by kernel_rfl
  f195 := by kernel_rfl
  f197 := by kernel_rfl
  f217 := by kernel_rfl
  f218 := by kernel_rfl
  f219 := by kernel_rfl
  f221 := by kernel_rfl
  f224 := by kernel_rfl
  f225 := by kernel_rfl
  f260 := by kernel_rfl
  f266 := by kernel_rfl
  f267 := by kernel_rfl
  f268 := by kernel_rfl
  f314 := by kernel_rfl
  t0 := by kernel_rfl
  a0 := fun _ => by kernel_rfl
  z0 := fun _ => by kernel_rfl
  v0 := fun _ => by kernel_rfl
  t3 := by kernel_rfl
  a3 := fun _ => by kernel_rfl
  z3 := fun _ => by kernel_rfl
  v3 := fun _ => by kernel_rfl
  t4 := by kernel_rfl
  a4 := fun _ => by kernel_rfl
  z4 := fun _ => by kernel_rfl
  v4 := fun _ => by kernel_rfl
  t5 := by kernel_rfl
  a5 := fun _ => by kernel_rfl
  z5 := fun _ => by kernel_rfl
  v5 := fun _ => by kernel_rfl
  t9 := by kernel_rfl
  a9 := fun _ => by kernel_rfl
  z9 := fun _ => by kernel_rfl
  v9 := fun _ => by kernel_rfl
  t21 := by kernel_rfl
  a21 := fun _ => by kernel_rfl
  z21 := fun _ => by kernel_rfl
  v21 := fun _ => by kernel_rfl
  t31 := by kernel_rfl
  a31 := fun _ => by kernel_rfl
  z31 := fun _ => by kernel_rfl
  v31 := fun _ => by kernel_rfl
  t46 := by kernel_rfl
  a46 := fun _ => by kernel_rfl
  z46 := fun _ => by kernel_rfl
  v46 := fun _ => by kernel_rfl
  t51 := by kernel_rfl
  a51 := fun _ => by kernel_rfl
  z51 := fun _ => by kernel_rfl
  v51 := fun _ => by kernel_rfl
  t105 := by kernel_rfl
  a105 := fun _ => by kernel_rfl
  z105 := fun _ => by kernel_rfl
  v105 := fun _ => by kernel_rfl
  t119 := by kernel_rfl
  a119 := fun _ => by kernel_rfl
  z119 := fun _ => by kernel_rfl
  t138 := by kernel_rfl
  a138 := fun _ => by kernel_rfl
  z138 := fun _ => by kernel_rfl
  v138 := fun _ => by kernel_rfl
  t139 := by kernel_rfl
  a139 := fun _ => by kernel_rfl
  z139 := fun _ => by kernel_rfl
  v139 := fun _ => by kernel_rfl
  t146 := by kernel_rfl
  a146 := fun _ => by kernel_rfl
  z146 := fun _ => by kernel_rfl
  v146 := fun _ => by kernel_rfl
  g1 := by kernel_rfl
  g3 := by kernel_rfl
  g4 := by kernel_rfl
theorem k129_154 : fSplit.ok Tryz.prog 129 :=
  split_ok fun s sep w h hs h1 => by obtain ⟨m, hm⟩ := maxLen_cell (zero := #[.int .i64 0]) (t := 3) (g := laysSplit_r.g 1) h (of_decide_eq_true (by kernel_rfl)) (by kernel_rfl) rfl (by kernel_rfl) (by kernel_rfl) Tryz.underlying3; exact Go.Proofs.Any.strings_Split laysSplit (by kernel_rfl) s sep m w hs hm h1
def E155 : D.Env := E154.add 129 fSplit
theorem E155ok : EOk Tryz.prog E155 := E154ok.add k129_154
def laysJoin_r : Go.Shelf.Ren := ⟨fun | 0 => 0 | 1 => 1 | 2 => 2 | 101 => 130 | 125 => 134 | 128 => 176 | 129 => 177 | 138 => 185 | 143 => 186 | 146 => 129 | 156 => 166 | 165 => 190 | 166 => 191 | 169 => 192 | 189 => 75 | 195 => 200 | 197 => 201 | 206 => 187 | 208 => 164 | 215 => 198 | 216 => 173 | 217 => 210 | 218 => 202 | 219 => 203 | 221 => 163 | 224 => 212 | 225 => 211 | 240 => 206 | 241 => 207 | 257 => 133 | 260 => 209 | 266 => 217 | 267 => 213 | 268 => 184 | 276 => 215 | 277 => 216 | 294 => 167 | 295 => 168 | 296 => 169 | 297 => 170 | 298 => 171 | 299 => 172 | 300 => 174 | 301 => 175 | 314 => 218 | 328 => 193 | 329 => 194 | 330 => 195 | 331 => 196 | 332 => 197 | 343 => 208 | 347 => 219 | 348 => 220 | 349 => 221 | 350 => 222 | 351 => 223 | 352 => 224 | 353 => 225 | 354 => 226 | 355 => 227 | 356 => 228 | 357 => 229 | 358 => 230 | 359 => 231 | 360 => 232 | 361 => 233 | 362 => 234 | 366 => 235 | 367 => 240 | _ => 0, fun | 0 => 0 | 1 => 1 | 2 => 2 | 3 => 3 | 4 => 4 | 5 => 5 | 6 => 6 | 7 => 7 | 8 => 8 | 9 => 9 | 10 => 10 | 11 => 11 | 12 => 12 | 13 => 13 | 14 => 14 | 15 => 15 | 16 => 16 | 17 => 17 | 18 => 18 | 19 => 19 | 20 => 20 | 21 => 21 | 22 => 239 | 23 => 181 | 27 => 238 | 28 => 31 | 30 => 69 | 31 => 42 | 34 => 67 | 35 => 128 | 37 => 199 | 43 => 120 | 46 => 185 | 47 => 184 | 51 => 228 | 52 => 227 | 53 => 230 | 54 => 229 | 55 => 260 | 61 => 179 | 67 => 217 | 70 => 240 | 71 => 241 | 72 => 242 | 73 => 243 | 74 => 244 | 75 => 245 | 76 => 246 | 77 => 247 | 80 => 248 | 81 => 282 | 83 => 146 | 101 => 86 | 103 => 257 | 104 => 162 | 105 => 258 | 106 => 259 | 111 => 255 | 112 => 223 | 113 => 216 | 114 => 266 | 119 => 271 | 127 => 262 | 131 => 225 | 134 => 183 | 137 => 272 | 138 => 273 | 139 => 274 | 146 => 275 | 150 => 237 | 151 => 276 | 164 => 268 | 165 => 269 | 166 => 270 | 181 => 218 | 182 => 219 | 183 => 220 | 184 => 221 | 185 => 222 | 186 => 224 | 187 => 226 | 218 => 249 | 219 => 250 | 220 => 251 | 221 => 252 | 222 => 253 | 223 => 254 | 228 => 263 | 229 => 264 | 230 => 265 | 238 => 277 | 239 => 278 | 240 => 279 | 241 => 280 | 242 => 281 | 243 => 283 | 244 => 284 | 245 => 285 | 246 => 286 | 247 => 287 | 248 => 288 | 249 => 289 | _ => 0, fun | 1 => 0 | 3 => 1 | 4 => 2 | _ => 0⟩
theorem laysJoin : Go.Proofs.Lays.n156 Tryz.prog laysJoin_r where
  mixed := by kernel_rfl
  f156 := by kernel_rfl
  f165 := by kernel_rfl
  f166 := by kernel_rfl
  f169 := by kernel_rfl
  f240 := by kernel_rfl
  f241 := by kernel_rfl
  f276 := by kernel_rfl
  f277 := by kernel_rfl
  t0 := by kernel_rfl
  a0 := fun _ => by kernel_rfl
  z0 := fun _ => by kernel_rfl
  v0 := fun _ => by kernel_rfl
  t3 := by kernel_rfl
  a3 := fun _ => by kernel_rfl
  z3 := fun _ => by kernel_rfl
  v3 := fun _ => by kernel_rfl
  t4 := by kernel_rfl
  a4 := fun _ => by kernel_rfl
  z4 := fun _ => by kernel_rfl
  v4 := fun _ => by kernel_rfl
  t9 := by kernel_rfl
  a9 := fun _ => by kernel_rfl
  z9 := fun _ => by kernel_rfl
  v9 := fun _ => by kernel_rfl
  t20 := by kernel_rfl
  a20 := fun _ => by kernel_rfl
  z20 := fun _ => by kernel_rfl
  v20 := fun _ => by kernel_rfl
  t31 := by kernel_rfl
  a31 := fun _ => by kernel_rfl
  z31 := fun _ => by kernel_rfl
  v31 := fun _ => by kernel_rfl
  t37 := by kernel_rfl
  a37 := fun _ => by kernel_rfl
  z37 := fun _ => by kernel_rfl
  v37 := fun _ => by kernel_rfl
  t70 := by kernel_rfl
  a70 := fun _ => by kernel_rfl
  z70 := fun _ => by kernel_rfl
  v70 := fun _ => by kernel_rfl
  t72 := by kernel_rfl
  a72 := fun _ => by kernel_rfl
  z72 := fun _ => by kernel_rfl
  v72 := fun _ => by kernel_rfl
  t75 := by kernel_rfl
  a75 := fun _ => by kernel_rfl
  z75 := fun _ => by kernel_rfl
  v75 := fun _ => by kernel_rfl
  t76 := by kernel_rfl
  a76 := fun _ => by kernel_rfl
  z76 := fun _ => by kernel_rfl
  v76 := fun _ => by kernel_rfl
  t127 := by kernel_rfl
  a127 := fun _ => by kernel_rfl
  z127 := fun _ => by kernel_rfl
  v127 := fun _ => by kernel_rfl
  t164 := by kernel_rfl
  a164 := fun _ => by kernel_rfl
  z164 := fun _ => by kernel_rfl
  v164 := fun _ => by kernel_rfl
theorem laysJoinX : Go.Proofs.Builder.Extra Tryz.prog laysJoin_r := ⟨⟨by kernel_rfl, by kernel_rfl⟩, by kernel_rfl, fun _ => by kernel_rfl, fun _ => by kernel_rfl, fun _ => by kernel_rfl, by kernel_rfl, by kernel_rfl, by kernel_rfl, by decide⟩
theorem k166_155 : fJoin.ok Tryz.prog 166 :=
  join_ok (fun _ _ => trivial) (Go.Proofs.Any.strings_Join_none laysJoin laysJoinX) (Go.Proofs.Any.strings_Join laysJoin laysJoinX)
def E156 : D.Env := E155.add 166 fJoin
theorem E156ok : EOk Tryz.prog E156 := E155ok.add k166_155
theorem joinL_cons (sep x : List UInt8) : ∀ l : List (List UInt8), joinL sep (x :: l) = x ++ (l.map (sep ++ ·)).flatten
  | [] => by simp [joinL]
  | y :: l => by rw [joinL, joinL_cons sep y l, List.map_cons, List.flatten_cons]; simp
theorem words9_toL : ∀ (l : List ByteArray) (w : ByteArray), toL (words9 w l) = toL w ++ (l.map fun x => 32 :: toL x).flatten
  | [], w => by simp [words9]
  | x :: l, w => by
    rw [words9, words9_toL l, toL_append, toL_append, List.map_cons, List.flatten_cons]
    simp [toL]
theorem joinS_words (w : ByteArray) (l : List ByteArray) : joinS (w :: l) ⟨#[32]⟩ = words9 w l := by
  unfold joinS
  rw [← ofL_toL (words9 w l), words9_toL, List.map_cons, joinL_cons, List.map_map]
  congr 2
theorem k131_156 : fFormatPolicy.ok Tryz.prog 131 := Fct.of (S := fFormatPolicy) (L := fun _ _ => none) (kp := [1,2,3,11,33,1000011,1000033]) E156ok Tryz.func131 (by kernel_rfl) (by kernel_rfl) (by
  rintro ⟨(p : SPolicy), _⟩ hp
  refine holds_of (X := .ob (fIsPolicy.pre (p, ())) <|
 .lt (Bool × PUnit) (fIsPolicy.fn (p, ())) fun z2 =>
 .br (!z2.fst)
  (.leaf (mkR fFormatPolicy.rs ({ data := #[] : ByteArray }, ())) [] [])
  (.br (!p.set_)
   (.leaf (mkR fFormatPolicy.rs ({ data := #[] : ByteArray }, ())) [] [])
   (.ob (True) <|
    .ob (Room ((1 : Nat) + p.scripts.length) (16 : Nat)) <|
    .ob (fJoin.pre ([{ data := #[(115 : UInt8), (99 : UInt8), (114 : UInt8), (105 : UInt8), (112 : UInt8), (116 : UInt8)] : ByteArray }] ++ p.scripts, { data := #[(32 : UInt8)] : ByteArray }, ())) <|
    .lt (ByteArray × PUnit) (fJoin.fn ([{ data := #[(115 : UInt8), (99 : UInt8), (114 : UInt8), (105 : UInt8), (112 : UInt8), (116 : UInt8)] : ByteArray }] ++ p.scripts, { data := #[(32 : UInt8)] : ByteArray }, ())) fun z3 =>
    .ob (sameSize z3.fst { data := #[(59 : UInt8)] : ByteArray }) <|
     .ob (True) <|
     .ob (Room ((1 : Nat) + p.styles.length) (16 : Nat)) <|
     .ob (fJoin.pre ([{ data := #[(115 : UInt8), (116 : UInt8), (121 : UInt8), (108 : UInt8), (101 : UInt8)] : ByteArray }] ++ p.styles, { data := #[(32 : UInt8)] : ByteArray }, ())) <|
     .lt (ByteArray × PUnit) (fJoin.fn ([{ data := #[(115 : UInt8), (116 : UInt8), (121 : UInt8), (108 : UInt8), (101 : UInt8)] : ByteArray }] ++ p.styles, { data := #[(32 : UInt8)] : ByteArray }, ())) fun z4 =>
     .ob (sameSize (z3.fst ++ { data := #[(59 : UInt8)] : ByteArray }) z4.fst) <|
      .ob (sameSize (z3.fst ++ { data := #[(59 : UInt8)] : ByteArray } ++ z4.fst) { data := #[(59 : UInt8)] : ByteArray }) <|
      .ob (True) <|
      .ob (Room ((1 : Nat) + p.images.length) (16 : Nat)) <|
      .ob (fJoin.pre ([{ data := #[(105 : UInt8), (109 : UInt8), (103 : UInt8)] : ByteArray }] ++ p.images, { data := #[(32 : UInt8)] : ByteArray }, ())) <|
      .lt (ByteArray × PUnit) (fJoin.fn ([{ data := #[(105 : UInt8), (109 : UInt8), (103 : UInt8)] : ByteArray }] ++ p.images, { data := #[(32 : UInt8)] : ByteArray }, ())) fun z5 =>
      .ob (sameSize (z3.fst ++ { data := #[(59 : UInt8)] : ByteArray } ++ z4.fst ++ { data := #[(59 : UInt8)] : ByteArray }) z5.fst) <|
       .br (!p.nonce.toList == { data := #[] : ByteArray }.toList)
       (.ob (sameSize { data := #[(59 : UInt8), (110 : UInt8), (111 : UInt8), (110 : UInt8), (99 : UInt8), (101 : UInt8), (32 : UInt8)] : ByteArray } p.nonce) <|
        .ob (sameSize (z3.fst ++ { data := #[(59 : UInt8)] : ByteArray } ++ z4.fst ++ { data := #[(59 : UInt8)] : ByteArray } ++ z5.fst) ({ data := #[(59 : UInt8), (110 : UInt8), (111 : UInt8), (110 : UInt8), (99 : UInt8), (101 : UInt8), (32 : UInt8)] : ByteArray } ++ p.nonce)) <|
        .leaf (mkR fFormatPolicy.rs (z3.fst ++ { data := #[(59 : UInt8)] : ByteArray } ++ z4.fst ++ { data := #[(59 : UInt8)] : ByteArray } ++ z5.fst ++ ({ data := #[(59 : UInt8), (110 : UInt8), (111 : UInt8), (110 : UInt8), (99 : UInt8), (101 : UInt8), (32 : UInt8)] : ByteArray } ++ p.nonce), ())) [] [])
       (.leaf (mkR fFormatPolicy.rs (z3.fst ++ { data := #[(59 : UInt8)] : ByteArray } ++ z4.fst ++ { data := #[(59 : UInt8)] : ByteArray } ++ z5.fst, ())) [] [])))) (by kernel_rfl) ?_
  refine ob_i ?_ fun o1 => lt_i (br_i (fun h2 => Fct.leafY ?_) (fun h2 => br_i (fun h3 => Fct.leafY ?_) (fun h3 => ob_i trivial fun _ => ob_i ?_ fun o4 => ob_i ?_ fun o5 => lt_i (ob_i ?_ fun o6 => ob_i trivial fun _ => ob_i ?_ fun o7 => ob_i ?_ fun o8 => lt_i (ob_i ?_ fun o9 => ob_i ?_ fun o10 => ob_i trivial fun _ => ob_i ?_ fun o11 => ob_i ?_ fun o12 => lt_i (ob_i ?_ fun o13 => br_i (fun h14 => ob_i ?_ fun o15 => ob_i ?_ fun o16 => Fct.leafY ?_) (fun h14 => Fct.leafY ?_)))))))
  all_goals try simp only [std1, ne_eq] at *
  all_goals try simp only [fFormatPolicy, fIsPolicy, fJoin, etaS, std1, std2, Nat.reduceAdd, ne_eq, fJoin, List.singleton_append, joinS_words] at *
  all_goals first | trivial | omega | skip
  all_goals try (have hA : isPolicy p = true := by assumption
                 have hB : p.set_ = true := by assumption
                 obtain ⟨a1, a2, a3, a4, a5, a6, a7⟩ := isPolicy_set hA hB)
  all_goals try have b1 := words9_sz (w := ⟨#[115, 99, 114, 105, 112, 116]⟩) a1 a2 (by decide)
  all_goals try have b2 := words9_sz (w := ⟨#[115, 116, 121, 108, 101]⟩) a3 a4 (by decide)
  all_goals try have b3 := words9_sz (w := ⟨#[105, 109, 103]⟩) a5 a6 (by decide)
  all_goals try simp only [std1, ne_eq] at *
  all_goals try simp only [fFormatPolicy, fIsPolicy, fJoin, etaS, std1, std2, Nat.reduceAdd, ne_eq, formatPolicy, sameSize, ByteArray.size_append, ByteArray.append_assoc] at *
  all_goals try simp (disch := omega) only [wrapId', toNat1] at *
  all_goals try simp (disch := omega) only [if_pos, if_neg]
  all_goals first | trivial | omega | grind [wrapId', toNat1, drop_cons, drop_end, good_len, maxLen, formatPolicy, sameSize, ByteArray.size_append, ByteArray.append_assoc])
def E157 : D.Env := E156.add 131 fFormatPolicy
theorem E157ok : EOk Tryz.prog E157 := E156ok.add k131_156
theorem name_no {b : UInt8} (hb : nameByte b = false) {s : ByteArray} (h : isName s = true) : b ∉ toL s := by
  intro hm
  simp only [isName, Bool.and_eq_true, allB, List.all_eq_true] at h
  rw [h.1 b hm] at hb; cases hb
theorem words9_no {b : UInt8} (hb : nameByte b = false) (h32 : b ≠ 32) {l : List ByteArray} {w : ByteArray} (hl : l.all isName = true) (hw : b ∉ toL w) : b ∉ toL (words9 w l) := by
  rw [words9_toL]
  simp only [List.mem_append, not_or, List.mem_flatten, List.mem_map, not_exists, not_and]
  refine ⟨hw, ?_⟩
  rintro _ ⟨x, hx, rfl⟩ hm
  rcases List.mem_cons.1 hm with rfl | hm
  · exact h32 rfl
  · exact name_no hb (List.all_eq_true.1 hl x hx) hm
theorem value_no {b : UInt8} (hb : valByte b = false) {s : ByteArray} (h : isValue s = true) : b ∉ toL s := by
  intro hm
  simp only [isValue, Bool.and_eq_true, allB, List.all_eq_true] at h
  rw [h.1 b hm] at hb; cases hb
theorem spl_one {b : UInt8} {s : ByteArray} (h : b ∉ toL s) : spl b s = [s] := by
  unfold spl; rw [splL_none h]; simp [ofL_toL]
theorem spl_more {b : UInt8} {s t : ByteArray} (h : b ∉ toL s) : spl b (s ++ ⟨#[b]⟩ ++ t) = s :: spl b t := by
  unfold spl
  rw [toL_append, toL_append, show toL ⟨#[b]⟩ = [b] from rfl, List.append_assoc, List.singleton_append, splL_app _ h, List.map_cons, ofL_toL]
theorem format_spl {q : SPolicy} (hp : isPolicy q = true) (hs : q.set_ = true) : (q.nonce = ⟨#[]⟩ ∧ (spl 59 (formatPolicy q)).length = 3) ∨ (q.nonce ≠ ⟨#[]⟩ ∧ (spl 59 (formatPolicy q)).length = 4 ∧ (spl 59 (formatPolicy q)).getD 3 default = ⟨#[110, 111, 110, 99, 101, 32]⟩ ++ q.nonce) := by
  obtain ⟨a1, a2, a3, a4, a5, a6, a7⟩ := isPolicy_set hp hs
  have b1 := words9_no (b := 59) rfl (by decide) a1 (w := ⟨#[115, 99, 114, 105, 112, 116]⟩) (by decide)
  have b2 := words9_no (b := 59) rfl (by decide) a3 (w := ⟨#[115, 116, 121, 108, 101]⟩) (by decide)
  have b3 := words9_no (b := 59) rfl (by decide) a5 (w := ⟨#[105, 109, 103]⟩) (by decide)
  by_cases hn : q.nonce = ⟨#[]⟩
  · refine .inl ⟨hn, ?_⟩
    have e : formatPolicy q = words9 ⟨#[115, 99, 114, 105, 112, 116]⟩ q.scripts ++ ⟨#[59]⟩ ++ (words9 ⟨#[115, 116, 121, 108, 101]⟩ q.styles ++ ⟨#[59]⟩ ++ words9 ⟨#[105, 109, 103]⟩ q.images) := by
      unfold formatPolicy
      rw [if_pos (by simp [hp, hs]), if_pos hn]
      simp only [ByteArray.append_assoc]
    rw [e, spl_more b1, spl_more b2, spl_one b3]
    rfl
  · refine .inr ⟨hn, ?_⟩
    have hv : isValue q.nonce = true := by
      simp only [isPolicy, hs, if_true, Bool.and_eq_true, Bool.or_eq_true, decide_eq_true_eq] at hp
      exact hp.2.resolve_left hn
    have b4 : (59 : UInt8) ∉ toL (⟨#[110, 111, 110, 99, 101, 32]⟩ ++ q.nonce) := by
      rw [toL_append, List.mem_append, not_or]
      exact ⟨by decide, value_no rfl hv⟩
    have e : formatPolicy q = words9 ⟨#[115, 99, 114, 105, 112, 116]⟩ q.scripts ++ ⟨#[59]⟩ ++ (words9 ⟨#[115, 116, 121, 108, 101]⟩ q.styles ++ ⟨#[59]⟩ ++ (words9 ⟨#[105, 109, 103]⟩ q.images ++ ⟨#[59]⟩ ++ (⟨#[110, 111, 110, 99, 101, 32]⟩ ++ q.nonce))) := by
      unfold formatPolicy
      rw [if_pos (by simp [hp, hs]), if_neg hn]
      have : (⟨#[59, 110, 111, 110, 99, 101, 32]⟩ : ByteArray) = ⟨#[59]⟩ ++ ⟨#[110, 111, 110, 99, 101, 32]⟩ := by decide
      rw [this]
      simp only [ByteArray.append_assoc]
    rw [e, spl_more b1, spl_more b2, spl_more b3, spl_one b4]
    exact ⟨rfl, rfl⟩
def polCandI (s : ByteArray) : SPolicy := { polCand s with nonce := if 3 < (spl 59 s).length then trimP ((spl 59 s).getD 3 default) ⟨#[110, 111, 110, 99, 101, 32]⟩ else ⟨#[]⟩ }
theorem format_ne {q : SPolicy} {s : ByteArray} (h : formatPolicy q = s) (hs : s ≠ ⟨#[]⟩) : isPolicy q = true ∧ q.set_ = true := by
  unfold formatPolicy at h
  split at h
  · rename_i hc; simpa using hc
  · exact absurd h.symm hs
theorem trimP_app (n : ByteArray) : trimP (⟨#[110, 111, 110, 99, 101, 32]⟩ ++ n) ⟨#[110, 111, 110, 99, 101, 32]⟩ = n := by
  unfold trimP Go.Lib.trimPrefix Go.Lib.hasPrefix
  apply ByteArray.ext
  simp
theorem extr_app (n : ByteArray) : (⟨#[110, 111, 110, 99, 101, 32]⟩ ++ n : ByteArray).extract 6 (⟨#[110, 111, 110, 99, 101, 32]⟩ ++ n : ByteArray).size = n := by
  rw [← ofL_toL (ByteArray.extract _ _ _), toL_extract, toL_append, List.take_of_length_le (by rw [List.length_append, toL_len, toL_len, ByteArray.size_append]; exact Nat.le_refl _)]
  rw [show toL ⟨#[110, 111, 110, 99, 101, 32]⟩ = [110, 111, 110, 99, 101, 32] from rfl]
  simp only [List.cons_append, List.nil_append, List.drop_succ_cons, List.drop_zero, ofL_toL]
theorem cand_same {s : ByteArray} (hs : s ≠ ⟨#[]⟩) : (formatPolicy (polCandI s) = s ↔ formatPolicy (polCand s) = s) ∧ (formatPolicy (polCand s) = s → polCandI s = polCand s) := by
  have key : ∀ q : SPolicy, formatPolicy q = s → (3 < (spl 59 s).length → q.nonce = trimP ((spl 59 s).getD 3 default) ⟨#[110, 111, 110, 99, 101, 32]⟩ ∧ q.nonce = (if 3 < (spl 59 s).length ∧ 6 < ((spl 59 s).getD 3 default).size then ((spl 59 s).getD 3 default).extract 6 ((spl 59 s).getD 3 default).size else ⟨#[]⟩)) := by
    intro q hq hl
    obtain ⟨h1, h2⟩ := format_ne hq hs
    rcases format_spl h1 h2 with ⟨_, h3⟩ | ⟨h3, h4, h5⟩
    · rw [hq] at h3; omega
    · rw [hq] at h4 h5
      rw [h5, trimP_app]
      refine ⟨rfl, ?_⟩
      have hsz : 0 < q.nonce.size := by
        rcases Nat.eq_zero_or_pos q.nonce.size with h | h
        · exact absurd (ByteArray.ext (Array.eq_empty_of_size_eq_zero h)) h3
        · exact h
      rw [if_pos ⟨hl, by rw [ByteArray.size_append, show ByteArray.size ⟨#[110, 111, 110, 99, 101, 32]⟩ = 6 from rfl]; omega⟩, extr_app]
  have same : (formatPolicy (polCandI s) = s ∨ formatPolicy (polCand s) = s) → polCandI s = polCand s := by
    intro h
    by_cases hl : 3 < (spl 59 s).length
    · have hn : (polCandI s).nonce = (polCand s).nonce := by
        have e1 : (polCandI s).nonce = trimP ((spl 59 s).getD 3 default) ⟨#[110, 111, 110, 99, 101, 32]⟩ := by simp only [polCandI]; rw [if_pos hl]
        rcases h with h | h
        · exact (key _ h hl).2
        · rw [e1]; exact (key _ h hl).1.symm
      have e : polCandI s = { polCand s with nonce := (polCandI s).nonce } := rfl
      rw [e, hn]
    · have e : polCandI s = { polCand s with nonce := (polCandI s).nonce } := rfl
      have h1 : (polCandI s).nonce = ⟨#[]⟩ := by simp only [polCandI]; rw [if_neg hl]
      have h2 : (polCand s).nonce = ⟨#[]⟩ := by simp only [polCand]; rw [if_neg (fun hh => hl hh.1)]
      rw [e, h1, ← h2]
  exact ⟨⟨fun h => same (.inl h) ▸ h, fun h => (same (.inr h)).symm ▸ h⟩, fun h => same (.inr h)⟩
theorem parse_I {s : ByteArray} (h1 : s ≠ ⟨#[]⟩) (h3 : 3 ≤ (spl 59 s).length) {q : SPolicy} (hq : q = polCandI s) : (formatPolicy q ≠ s → parsePolicy s = (default, false)) ∧ (formatPolicy q = s → parsePolicy s = (q, true)) := by
  subst hq
  have hc := cand_same h1
  unfold parsePolicy
  rw [if_neg h1]
  refine ⟨fun h => ?_, fun h => ?_⟩
  · rw [if_neg]; rintro ⟨_, h4⟩; exact h (hc.1.2 h4)
  · have h4 := hc.1.1 h
    rw [if_pos ⟨h3, h4⟩, hc.2 h4]
theorem candI_a {s : ByteArray} (h : 3 < (spl 59 s).length) : (⟨true, (spl 32 ((spl 59 s).getD 0 default)).drop 1, (spl 32 ((spl 59 s).getD 1 default)).drop 1, (spl 32 ((spl 59 s).getD 2 default)).drop 1, trimP ((spl 59 s).getD 3 default) ⟨#[110, 111, 110, 99, 101, 32]⟩⟩ : SPolicy) = polCandI s := by
  unfold polCandI polCand; rw [if_pos h]
theorem candI_b {s : ByteArray} (h : ¬ 3 < (spl 59 s).length) : (⟨true, (spl 32 ((spl 59 s).getD 0 default)).drop 1, (spl 32 ((spl 59 s).getD 1 default)).drop 1, (spl 32 ((spl 59 s).getD 2 default)).drop 1, ⟨#[]⟩⟩ : SPolicy) = polCandI s := by
  unfold polCandI polCand; rw [if_neg h]
theorem trimP_size (s p : ByteArray) : (trimP s p).size ≤ s.size := by
  unfold trimP Go.Lib.trimPrefix
  rw [show ∀ l : List UInt8, ByteArray.size ⟨l.toArray⟩ = l.length from fun l => by simp [ByteArray.size]]
  split
  · rw [List.length_drop]; exact Nat.sub_le _ _
  · exact Nat.le_refl _
set_option maxHeartbeats 2000000 in
theorem k72_157 : fParsePolicy.ok Tryz.prog 72 := Fct.of (S := fParsePolicy) (L := fun _ _ => none) (kp := [0,2,3,4,5,6,7,9,15,18,19,39,48,1000009,1000015,1000019,1000039,1000048,64000516,200000019]) E157ok Tryz.func72 (by kernel_rfl) (by kernel_rfl) (by
  rintro ⟨(s : ByteArray), _⟩ hp
  refine holds_of (X := .br (ByteArray.toList s == { data := #[] : ByteArray }.toList)
 (.leaf (.tup [(true, [vb (false), .nl, .nl, .nl, vs ({ data := #[] : ByteArray })]), (false, [vb (true)])]) [] [])
 (.ob (fSplit.pre (s, { data := #[(59 : UInt8)] : ByteArray }, ())) <|
  .lt (List ByteArray × PUnit) (fSplit.fn (s, { data := #[(59 : UInt8)] : ByteArray }, ())) fun z2 =>
  .br (decide ((↑z2.fst.length : Int) < (3 : Int)))
   (.leaf (.tup [(true, [vb (false), .nl, .nl, .nl, vs ({ data := #[] : ByteArray })]), (false, [vb (false)])]) [] [])
   (.ob ((0 : Int) ≤ (0 : Int) ∧ (0 : Int) < (↑z2.fst.length : Int)) <|
    .ob ((0 : Nat) < z2.fst.length) <|
    .ob (fSplit.pre (z2.fst.getD (0 : Nat) default, { data := #[(32 : UInt8)] : ByteArray }, ())) <|
    .lt (List ByteArray × PUnit) (fSplit.fn (z2.fst.getD (0 : Nat) default, { data := #[(32 : UInt8)] : ByteArray }, ())) fun z3 =>
    .ob ((0 : Int) ≤ (1 : Int) ∧ (1 : Int) ≤ (↑z3.fst.length : Int)) <|
     .ob ((0 : Int) ≤ (0 : Int) ∧ (0 : Int) < (3 : Int)) <|
     .ob ((1 : Nat) + (z3.fst.length - (1 : Nat)) ≤ z3.fst.length) <|
     .ob ((0 : Int) ≤ (1 : Int) ∧ (1 : Int) < (↑z2.fst.length : Int)) <|
     .ob ((1 : Nat) < z2.fst.length) <|
     .ob (fSplit.pre (z2.fst.getD (1 : Nat) default, { data := #[(32 : UInt8)] : ByteArray }, ())) <|
     .lt (List ByteArray × PUnit) (fSplit.fn (z2.fst.getD (1 : Nat) default, { data := #[(32 : UInt8)] : ByteArray }, ())) fun z4 =>
     .ob ((0 : Int) ≤ (1 : Int) ∧ (1 : Int) ≤ (↑z4.fst.length : Int)) <|
      .ob ((0 : Int) ≤ (1 : Int) ∧ (1 : Int) < (3 : Int)) <|
      .ob ((1 : Nat) + (z4.fst.length - (1 : Nat)) ≤ z4.fst.length) <|
      .ob ((0 : Int) ≤ (2 : Int) ∧ (2 : Int) < (↑z2.fst.length : Int)) <|
      .ob ((2 : Nat) < z2.fst.length) <|
      .ob (fSplit.pre (z2.fst.getD (2 : Nat) default, { data := #[(32 : UInt8)] : ByteArray }, ())) <|
      .lt (List ByteArray × PUnit) (fSplit.fn (z2.fst.getD (2 : Nat) default, { data := #[(32 : UInt8)] : ByteArray }, ())) fun z5 =>
      .ob ((0 : Int) ≤ (1 : Int) ∧ (1 : Int) ≤ (↑z5.fst.length : Int)) <|
       .ob ((0 : Int) ≤ (2 : Int) ∧ (2 : Int) < (3 : Int)) <|
       .ob ((1 : Nat) + (z5.fst.length - (1 : Nat)) ≤ z5.fst.length) <|
       .ob ((0 : Int) ≤ (0 : Int) ∧ (0 : Int) < (3 : Int)) <|
       .ob ((0 : Int) ≤ (1 : Int) ∧ (1 : Int) < (3 : Int)) <|
       .ob ((0 : Int) ≤ (2 : Int) ∧ (2 : Int) < (3 : Int)) <|
       .br (decide ((↑z2.fst.length : Int) > (3 : Int)))
       (.ob ((0 : Int) ≤ (3 : Int) ∧ (3 : Int) < (↑z2.fst.length : Int)) <|
        .ob ((3 : Nat) < z2.fst.length) <|
        .ob (fTrimPrefix.pre (z2.fst.getD (3 : Nat) default, { data := #[(110 : UInt8), (111 : UInt8), (110 : UInt8), (99 : UInt8), (101 : UInt8), (32 : UInt8)] : ByteArray }, ())) <|
        .lt (ByteArray × PUnit) (fTrimPrefix.fn (z2.fst.getD (3 : Nat) default, { data := #[(110 : UInt8), (111 : UInt8), (110 : UInt8), (99 : UInt8), (101 : UInt8), (32 : UInt8)] : ByteArray }, ())) fun z6 =>
        .ob (fFormatPolicy.pre ({ set_ := true, scripts := cut z3.fst (1 : Nat) (z3.fst.length - (1 : Nat)), styles := cut z4.fst (1 : Nat) (z4.fst.length - (1 : Nat)), images := cut z5.fst (1 : Nat) (z5.fst.length - (1 : Nat)), nonce := z6.fst : SPolicy }, ())) <|
         .lt (ByteArray × PUnit) (fFormatPolicy.fn ({ set_ := true, scripts := cut z3.fst (1 : Nat) (z3.fst.length - (1 : Nat)), styles := cut z4.fst (1 : Nat) (z4.fst.length - (1 : Nat)), images := cut z5.fst (1 : Nat) (z5.fst.length - (1 : Nat)), nonce := z6.fst : SPolicy }, ())) fun z7 =>
         .br (!z7.fst.toList == ByteArray.toList s)
          (.leaf (.tup [(true, [vb (false), .nl, .nl, .nl, vs ({ data := #[] : ByteArray })]), (false, [vb (false)])]) [] [])
          (.ob (fCopyPolicy.pre ({ set_ := true, scripts := cut z3.fst (1 : Nat) (z3.fst.length - (1 : Nat)), styles := cut z4.fst (1 : Nat) (z4.fst.length - (1 : Nat)), images := cut z5.fst (1 : Nat) (z5.fst.length - (1 : Nat)), nonce := z6.fst : SPolicy }, ())) <|
           .lt (SPolicy × PUnit) (fCopyPolicy.fn ({ set_ := true, scripts := cut z3.fst (1 : Nat) (z3.fst.length - (1 : Nat)), styles := cut z4.fst (1 : Nat) (z4.fst.length - (1 : Nat)), images := cut z5.fst (1 : Nat) (z5.fst.length - (1 : Nat)), nonce := z6.fst : SPolicy }, ())) fun z8 =>
           .leaf (mkR fParsePolicy.rs (z8.fst, true, ())) [] []))
       (.ob (fFormatPolicy.pre ({ set_ := true, scripts := cut z3.fst (1 : Nat) (z3.fst.length - (1 : Nat)), styles := cut z4.fst (1 : Nat) (z4.fst.length - (1 : Nat)), images := cut z5.fst (1 : Nat) (z5.fst.length - (1 : Nat)), nonce := { data := #[] : ByteArray } : SPolicy }, ())) <|
        .lt (ByteArray × PUnit) (fFormatPolicy.fn ({ set_ := true, scripts := cut z3.fst (1 : Nat) (z3.fst.length - (1 : Nat)), styles := cut z4.fst (1 : Nat) (z4.fst.length - (1 : Nat)), images := cut z5.fst (1 : Nat) (z5.fst.length - (1 : Nat)), nonce := { data := #[] : ByteArray } : SPolicy }, ())) fun z9 =>
        .br (!z9.fst.toList == ByteArray.toList s)
         (.leaf (.tup [(true, [vb (false), .nl, .nl, .nl, vs ({ data := #[] : ByteArray })]), (false, [vb (false)])]) [] [])
         (.ob (fCopyPolicy.pre ({ set_ := true, scripts := cut z3.fst (1 : Nat) (z3.fst.length - (1 : Nat)), styles := cut z4.fst (1 : Nat) (z4.fst.length - (1 : Nat)), images := cut z5.fst (1 : Nat) (z5.fst.length - (1 : Nat)), nonce := { data := #[] : ByteArray } : SPolicy }, ())) <|
          .lt (SPolicy × PUnit) (fCopyPolicy.fn ({ set_ := true, scripts := cut z3.fst (1 : Nat) (z3.fst.length - (1 : Nat)), styles := cut z4.fst (1 : Nat) (z4.fst.length - (1 : Nat)), images := cut z5.fst (1 : Nat) (z5.fst.length - (1 : Nat)), nonce := { data := #[] : ByteArray } : SPolicy }, ())) fun z10 =>
          .leaf (mkR fParsePolicy.rs (z10.fst, true, ())) [] []))))) (by kernel_rfl) ?_
  refine br_i (fun h1 => Fct.leafZ (default, true, ()) (by repeat' first | exact rfl | exact trivial | refine And.intro ?_ ?_) ?_) (fun h1 => ob_i ?_ fun o2 => lt_i (br_i (fun h3 => Fct.leafZ (default, false, ()) (by repeat' first | exact rfl | exact trivial | refine And.intro ?_ ?_) ?_) (fun h3 => ob_i ?_ fun o4 => ob_i ?_ fun o5 => ob_i ?_ fun o6 => lt_i (ob_i ?_ fun o7 => ob_i ?_ fun o8 => ob_i ?_ fun o9 => ob_i ?_ fun o10 => ob_i ?_ fun o11 => ob_i ?_ fun o12 => lt_i (ob_i ?_ fun o13 => ob_i ?_ fun o14 => ob_i ?_ fun o15 => ob_i ?_ fun o16 => ob_i ?_ fun o17 => ob_i ?_ fun o18 => lt_i (ob_i ?_ fun o19 => ob_i ?_ fun o20 => ob_i ?_ fun o21 => ob_i ?_ fun o22 => ob_i ?_ fun o23 => ob_i ?_ fun o24 => br_i (fun h25 => ob_i ?_ fun o26 => ob_i ?_ fun o27 => ob_i trivial fun _ => lt_i (ob_i ?_ fun o28 => lt_i (br_i (fun h29 => Fct.leafZ (default, false, ()) (by repeat' first | exact rfl | exact trivial | refine And.intro ?_ ?_) ?_) (fun h29 => ob_i ?_ fun o30 => lt_i (Fct.leafY ?_))))) (fun h25 => ob_i ?_ fun o31 => lt_i (br_i (fun h32 => Fct.leafZ (default, false, ()) (by repeat' first | exact rfl | exact trivial | refine And.intro ?_ ?_) ?_) (fun h32 => ob_i ?_ fun o33 => lt_i (Fct.leafY ?_))))))))))
  all_goals try simp only [std1, ne_eq] at *
  all_goals try simp only [fCopyPolicy, fFormatPolicy, fParsePolicy, fSplit, fTrimPrefix, etaS, std1, std2, Nat.reduceAdd, ne_eq, fSplit, fTrimPrefix, cut_end] at *
  all_goals try simp only [show (ByteArray.mk #[59]).data.getD 0 0 = 59 from rfl, show (ByteArray.mk #[32]).data.getD 0 0 = 32 from rfl, show (ByteArray.mk #[59]).size = 1 from rfl, show (ByteArray.mk #[32]).size = 1 from rfl] at *
  all_goals have g0 := spl_get 59 s 0
  all_goals have g1 := spl_get 59 s 1
  all_goals have g2 := spl_get 59 s 2
  all_goals have g3 := spl_get 59 s 3
  all_goals have k0 := spl_len 32 ((spl 59 s).getD 0 default)
  all_goals have k1 := spl_len 32 ((spl 59 s).getD 1 default)
  all_goals have k2 := spl_len 32 ((spl 59 s).getD 2 default)
  all_goals have tz := trimP_size ((spl 59 s).getD 3 default) ⟨#[110, 111, 110, 99, 101, 32]⟩
  all_goals first | trivial | omega | (with_reducible refine Nat.le_trans (pol_sz (Nat.zero_le _)) ?_; omega) | (with_reducible refine Nat.le_trans (pol_sz ?_) ?_; omega; omega) | skip
  all_goals first | (simp only [parsePolicy]; rw [if_pos (by assumption)]; exact ⟨rfl, rfl⟩) | (simp only [parsePolicy]; rw [if_neg (by assumption), if_neg (by omega)]; exact ⟨rfl, rfl⟩) | skip
  all_goals first | (have hq := candI_a (s := s) (by omega)) | (have hq := candI_b (s := s) (by omega))
  all_goals obtain ⟨p1, p2⟩ := parse_I (by assumption) (by omega) hq
  all_goals first | (rw [p1 (by assumption)]; exact ⟨rfl, rfl⟩) | (rw [p2 (by assumption)]; exact ⟨rfl, rfl⟩))
def E158 : D.Env := E157.add 72 fParsePolicy
theorem E158ok : EOk Tryz.prog E158 := E157ok.add k72_157
theorem k71_158 : fIsResponse.ok Tryz.prog 71 := Fct.of (S := fIsResponse) (L := fun _ _ => none) (kp := [1,2,4]) E158ok Tryz.func71 (by kernel_rfl) (by kernel_rfl) (by
  rintro ⟨(x : SResponse), _⟩ hp
  refine holds_of (X := .ob (fParsePolicy.pre (x.policy, ())) <|
 .lt (SPolicy × Bool × PUnit) (fParsePolicy.fn (x.policy, ())) fun z2 =>
 .br (z2.snd.fst)
  (.ob (fInRange.pre (x.status, (100 : Int), (599 : Int), ())) <|
   .lt (Bool × PUnit) (fInRange.fn (x.status, (100 : Int), (599 : Int), ())) fun z3 =>
   .br (z3.fst)
    (.ob (fInRange.pre (x.kind, (1 : Int), (5 : Int), ())) <|
     .lt (Bool × PUnit) (fInRange.fn (x.kind, (1 : Int), (5 : Int), ())) fun z4 =>
     .br (z4.fst)
      (.br (decide ((↑x.body.size : Int) ≤ (400 : Int)))
       (.ob (fInRange.pre (x.age, (0 : Int), (1000 : Int), ())) <|
        .lt (Bool × PUnit) (fInRange.fn (x.age, (0 : Int), (1000 : Int), ())) fun z5 =>
        .leaf (mkR fIsResponse.rs (z5.fst, ())) [] [])
       (.leaf (mkR fIsResponse.rs (false, ())) [] []))
      (.leaf (mkR fIsResponse.rs (false, ())) [] []))
    (.leaf (mkR fIsResponse.rs (false, ())) [] []))
  (.leaf (mkR fIsResponse.rs (false, ())) [] [])) (by kernel_rfl) ?_
  refine ob_i ?_ fun o1 => lt_i (br_i (fun h2 => ob_i trivial fun _ => lt_i (br_i (fun h3 => ob_i trivial fun _ => lt_i (br_i (fun h4 => br_i (fun h5 => ob_i trivial fun _ => lt_i (Fct.leafY ?_)) (fun h5 => Fct.leafY ?_)) (fun h4 => Fct.leafY ?_))) (fun h3 => Fct.leafY ?_))) (fun h2 => Fct.leafY ?_))
  all_goals try simp only [std1, ne_eq] at *
  all_goals try simp only [fInRange, fIsResponse, fParsePolicy, etaS, std1, std2, Nat.reduceAdd, ne_eq, isResponse, fParsePolicy, fInRange] at *
  all_goals try simp (disch := omega) only [wrapId', toNat1] at *
  all_goals try simp (disch := omega) only [if_pos, if_neg]
  all_goals first | trivial | omega | grind [wrapId', toNat1, drop_cons, drop_end, good_len, maxLen, isResponse, fParsePolicy, fInRange])
def E159 : D.Env := E158.add 71 fIsResponse
theorem E159ok : EOk Tryz.prog E159 := E158ok.add k71_158
abbrev W_impl_IsCache_fIsCache_2 (c : SCache) : LInv := ⟨[⟨.s, 8, true, .el .int⟩, ⟨.b, 1, false, .el .cache⟩], fun (z_ : Int × SCache × Unit) (x_ : Int × SCache × Unit) => (0 ≤ x_.1 ∧ x_.1 ≤ c.entries.length ∧ entOk c.entries (c.entries.drop x_.1.toNat) x_.1 = entOk c.entries c.entries 0) ∧ x_.2.1 = z_.2.1, fun (x_ : Int × SCache × Unit) => c.entries.length - x_.1.toNat⟩
theorem k162_159 : fIsCache.ok Tryz.prog 162 := Fct.of (S := fIsCache) (L := fun ⟨c, _⟩ => fun | 2 => some (W_impl_IsCache_fIsCache_2 c) | _ => none) (kp := [1,2,3,4,6,7,8,9,44,1000009,1000044]) E159ok Tryz.func162 (by kernel_rfl) (by kernel_rfl) (by
  rintro ⟨(c : SCache), _⟩ hp
  refine holds_of (X := lpx (W_impl_IsCache_fIsCache_2 c) ((0 : Int), (c, ())) fun (y1 : Int × SCache × PUnit) bk1 =>
 .br (decide (y1.fst < (↑c.entries.length : Int)))
  (.ob ((0 : Int) ≤ y1.fst ∧ y1.fst < (↑c.entries.length : Int)) <|
   .ob (fIsName.pre ((c.entries.getD y1.fst.toNat default).top, ())) <|
   .lt (Bool × PUnit) (fIsName.fn ((c.entries.getD y1.fst.toNat default).top, ())) fun z2 =>
   .br (!z2.fst)
    (.leaf (mkR fIsCache.rs (false, ())) [] [])
    (.ob (fIsAddr.pre ((c.entries.getD y1.fst.toNat default).to, ())) <|
     .lt (Bool × PUnit) (fIsAddr.fn ((c.entries.getD y1.fst.toNat default).to, ())) fun z3 =>
     .br (!z3.fst)
      (.leaf (mkR fIsCache.rs (false, ())) [] [])
      (.ob (fIsResponse.pre ((c.entries.getD y1.fst.toNat default).response, ())) <|
       .lt (Bool × PUnit) (fIsResponse.fn ((c.entries.getD y1.fst.toNat default).response, ())) fun z4 =>
       .br (!z4.fst)
        (.leaf (mkR fIsCache.rs (false, ())) [] [])
        (.br ((c.entries.getD y1.fst.toNat default).response.status != (200 : Int))
         (.leaf (mkR fIsCache.rs (false, ())) [] [])
         (.ob (fFindEntry.pre (y1.snd.fst, (c.entries.getD y1.fst.toNat default).top, (c.entries.getD y1.fst.toNat default).to, ())) <|
          .lt (Int × PUnit) (fFindEntry.fn (y1.snd.fst, (c.entries.getD y1.fst.toNat default).top, (c.entries.getD y1.fst.toNat default).to, ())) fun z5 =>
          .br (z5.fst != y1.fst)
           (.leaf (mkR fIsCache.rs (false, ())) [] [])
           (.ob (c.entries = c.entries) <|
            .ob (Value.int IntKind.i64 (↑c.entries.length : Int) = Value.int IntKind.i64 (↑c.entries.length : Int)) <|
            .ob (bk1 (IntKind.i64.wrap (y1.fst + (1 : Int)), (y1.snd.fst, ()))) <|
            .ok))))))
  (.leaf (mkR fIsCache.rs (decide ((↑y1.snd.fst.entries.length : Int) ≤ (100 : Int)), ())) [] [])) (by kernel_rfl) ?_
  refine lpx_i ?_ fun (y1 : Int × SCache × PUnit) i1 => br_i (fun h2 => ob_i ?_ fun o3 => ob_i ?_ fun o4 => lt_i (br_i (fun h5 => Fct.leafY ?_) (fun h5 => ob_i ?_ fun o6 => lt_i (br_i (fun h7 => Fct.leafY ?_) (fun h7 => ob_i ?_ fun o8 => lt_i (br_i (fun h9 => Fct.leafY ?_) (fun h9 => br_i (fun h10 => Fct.leafY ?_) (fun h10 => ob_i ?_ fun o11 => lt_i (br_i (fun h12 => Fct.leafY ?_) (fun h12 => ob_i rfl fun _ => ob_i rfl fun _ => ob_i ?_ fun o13 => trivial)))))))))) (fun h2 => Fct.leafY ?_)
  all_goals have hl := szL_len szEntry c.entries
  all_goals have hg : ∀ i, i < c.entries.length → (c.entries.getD i default).top.size ≤ 200000000 ∧ (c.entries.getD i default).to.host.size ≤ 200000000 ∧ (c.entries.getD i default).to.path.size ≤ 200000000 ∧ (c.entries.getD i default).response.policy.size ≤ 200000000 := fun i h => by have := szEntry_get h; have hp2 : szCache c ≤ 200000000 := hp; simp only [szEntry, szCache, szAddr, szResponse] at *; omega
  all_goals try simp only [std1, ne_eq] at *
  all_goals try simp only [W_impl_IsCache_fIsCache_2, fFindEntry, fIsAddr, fIsCache, fIsName, fIsResponse, etaS, std1, std2, Nat.reduceAdd, ne_eq, isCache, fIsName, fIsAddr, fIsResponse, fFindEntry, szCache, entOk_at, entOk_end] at *
  all_goals try simp (disch := omega) only [wrapId', toNat1] at *
  all_goals try simp (disch := omega) only [if_pos, if_neg]
  all_goals first | trivial | omega | grind [wrapId', toNat1, drop_cons, drop_end, good_len, maxLen, isCache, fIsName, fIsAddr, fIsResponse, fFindEntry, szCache, entOk_at, entOk_end])
def E160 : D.Env := E159.add 162 fIsCache
theorem E160ok : EOk Tryz.prog E160 := E159ok.add k162_159
theorem szL_cons {α : Type} (f : α → Nat) (x : α) (l : List α) : szL f (x :: l) = f x + 1 + szL f l := by simp only [szL, List.map_cons, List.sum_cons, List.length_cons]; omega
theorem szL_snoc {α : Type} (f : α → Nat) (l : List α) (x : α) : szL f (l ++ [x]) = szL f l + (f x + 1) := by
  induction l with
  | nil => rw [List.nil_append, szL_cons]; simp [szL]
  | cons y l ih => rw [List.cons_append, szL_cons, szL_cons, ih]; omega
theorem szL_mod {α : Type} (f : α → Nat) (e : α) : ∀ (l : List α) (i : Nat), szL f (l.modify i fun _ => e) ≤ szL f l + (f e + 1)
  | [], i => by cases i <;> simp [List.modify, szL]
  | y :: l, 0 => by rw [List.modify_zero_cons, szL_cons, szL_cons]; omega
  | y :: l, i + 1 => by rw [List.modify_succ_cons, szL_cons, szL_cons]; have := szL_mod f e l i; omega
def putEntry (c : SCache) (e : SEntry) (i : Int) : SCache := if 0 ≤ i then ⟨c.entries.modify i.toNat fun _ => e⟩ else ⟨c.entries ++ [e]⟩
def entry (t : ByteArray) (a : SAddr) (x : SResponse) (now : Int) : SEntry := ⟨t, a, x, IntKind.i64.wrap (now + x.age)⟩
def storeEntry (c : SCache) (t : ByteArray) (a : SAddr) (x : SResponse) (now : Int) : SCache :=
  if x.age ≠ 0 ∧ inRange now 0 999999999000 = true ∧ isCache c = true ∧ isCache (putEntry c (entry t a x now) (fidx (fun e => decide (e.top = t) && decide (e.to = a)) c.entries 0)) = true then putEntry c (entry t a x now) (fidx (fun e => decide (e.top = t) && decide (e.to = a)) c.entries 0) else c
theorem entOk_resp {all : List SEntry} : ∀ {l : List SEntry} {k : Int}, entOk all l k = true → ∀ e ∈ l, isResponse e.response = true
  | [], _, _, e, he => by cases he
  | y :: l, k, h, e, he => by
    simp only [entOk, Bool.and_eq_true] at h
    rcases List.mem_cons.1 he with rfl | he
    · exact h.1.1.1.2
    · exact entOk_resp h.2 e he
theorem put_resp {c : SCache} {e : SEntry} {i : Int} (hi : i < c.entries.length) (h : isCache (putEntry c e i) = true) : isResponse e.response = true := by
  unfold isCache at h
  rw [Bool.and_eq_true] at h
  refine entOk_resp h.1 e ?_
  unfold putEntry
  split
  · rw [List.mem_iff_getElem?]
    exact ⟨i.toNat, by rw [List.getElem?_modify_eq, List.getElem?_eq_getElem (by omega)]; rfl⟩
  · simp
theorem store_sz (c : SCache) (t : ByteArray) (a : SAddr) (x : SResponse) (now : Int) : szCache (storeEntry c t a x now) ≤ szCache c + (t.size + szAddr a + szResponse x + 20) := by
  unfold storeEntry
  split
  · unfold putEntry
    split
    · have := szL_mod szEntry (entry t a x now) c.entries (fidx (fun e => decide (e.top = t) && decide (e.to = a)) c.entries 0).toNat
      simp only [szCache] at *
      simp only [szEntry, entry] at this ⊢; omega
    · simp only [szCache]
      rw [szL_snoc]
      simp only [szEntry, entry]; omega
  · omega
def fStoreEntry : Fct := ⟨[.v (.el .cache), .v (.el .str), .v (.el .addr), .v (.el .response), .v (.el .int)], [.el .cache], fun (x_ : SCache × ByteArray × SAddr × SResponse × Int × Unit) => szCache x_.1 ≤ 100000000 ∧ x_.2.1.size ≤ 10000000 ∧ szAddr x_.2.2.1 ≤ 10000000 ∧ szResponse x_.2.2.2.1 ≤ 10000000, fun (x_ : SCache × ByteArray × SAddr × SResponse × Int × Unit) => (storeEntry x_.1 x_.2.1 x_.2.2.1 x_.2.2.2.1 x_.2.2.2.2.1, ())⟩
theorem k115_160 : fStoreEntry.ok Tryz.prog 115 := Fct.of (S := fStoreEntry) (L := fun _ _ => none) (kp := [1,4,5,7,8,10,11,12,13,33,48,62,1000033,1000048,1000062]) E160ok Tryz.func115 (by kernel_rfl) (by kernel_rfl) (by
  rintro ⟨(c : SCache), (t : ByteArray), (a : SAddr), (x : SResponse), (now : Int), _⟩ hp
  refine holds_of (X := .ob (fCopyCache.pre (c, ())) <|
 .lt (SCache × PUnit) (fCopyCache.fn (c, ())) fun z2 =>
 .br (x.age == (0 : Int))
  (.leaf (mkR fStoreEntry.rs (z2.fst, ())) [] [])
  (.ob (fInRange.pre (now, (0 : Int), (999999999000 : Int), ())) <|
   .lt (Bool × PUnit) (fInRange.fn (now, (0 : Int), (999999999000 : Int), ())) fun z3 =>
   .br (!z3.fst)
    (.leaf (mkR fStoreEntry.rs (z2.fst, ())) [] [])
    (.ob (fIsResponse.pre (x, ())) <|
     .lt (Bool × PUnit) (fIsResponse.fn (x, ())) fun z4 =>
     .br (!z4.fst)
      (.leaf (mkR fStoreEntry.rs (z2.fst, ())) [] [])
      (.ob (fIsCache.pre (c, ())) <|
       .lt (Bool × PUnit) (fIsCache.fn (c, ())) fun z5 =>
       .br (!z5.fst)
        (.leaf (mkR fStoreEntry.rs (z2.fst, ())) [] [])
        (.ob (fFindEntry.pre (c, t, a, ())) <|
         .lt (Int × PUnit) (fFindEntry.fn (c, t, a, ())) fun z6 =>
         .br (decide (z6.fst ≥ (0 : Int)))
          (.ob ((0 : Int) ≤ z6.fst ∧ z6.fst < (↑z2.fst.entries.length : Int)) <|
           .ob (z6.fst.toNat < z2.fst.entries.length) <|
           .lt (List SEntry) (z2.fst.entries.modify z6.fst.toNat fun z => { top := t, to := a, response := x, until_ := IntKind.i64.wrap (now + x.age) : SEntry }) fun z7 =>
           .ob (fIsCache.pre ({ entries := z7 : SCache }, ())) <|
            .lt (Bool × PUnit) (fIsCache.fn ({ entries := z7 : SCache }, ())) fun z8 =>
            .br (!z8.fst)
             (.ob (fCopyCache.pre (c, ())) <|
              .lt (SCache × PUnit) (fCopyCache.fn (c, ())) fun z9 =>
              .leaf (mkR fStoreEntry.rs (z9.fst, ())) [] [])
             (.leaf (mkR fStoreEntry.rs (⟨z7⟩, ())) [] []))
          (.ob (True) <|
           .ob (Room (z2.fst.entries.length + [{ top := t, to := a, response := x, until_ := IntKind.i64.wrap (now + x.age) : SEntry }].length) (120 : Nat)) <|
           .ob (fIsCache.pre ({ entries := z2.fst.entries ++ [{ top := t, to := a, response := x, until_ := IntKind.i64.wrap (now + x.age) : SEntry }] : SCache }, ())) <|
           .lt (Bool × PUnit) (fIsCache.fn ({ entries := z2.fst.entries ++ [{ top := t, to := a, response := x, until_ := IntKind.i64.wrap (now + x.age) : SEntry }] : SCache }, ())) fun z10 =>
           .br (!z10.fst)
            (.ob (fCopyCache.pre (c, ())) <|
             .lt (SCache × PUnit) (fCopyCache.fn (c, ())) fun z11 =>
             .leaf (mkR fStoreEntry.rs (z11.fst, ())) [] [])
            (.leaf (mkR fStoreEntry.rs (⟨z2.fst.entries ++ [{ top := t, to := a, response := x, until_ := IntKind.i64.wrap (now + x.age) : SEntry }]⟩, ())) [] []))))))) (by kernel_rfl) ?_
  refine ob_i ?_ fun o1 => lt_i (br_i (fun h2 => Fct.leafY ?_) (fun h2 => ob_i trivial fun _ => lt_i (br_i (fun h3 => Fct.leafY ?_) (fun h3 => ob_i ?_ fun o4 => lt_i (br_i (fun h5 => Fct.leafY ?_) (fun h5 => ob_i ?_ fun o6 => lt_i (br_i (fun h7 => Fct.leafY ?_) (fun h7 => ob_i ?_ fun o8 => lt_i (br_i (fun h9 => ob_i ?_ fun o10 => ob_i ?_ fun o11 => lt_i (ob_i ?_ fun o12 => lt_i (br_i (fun h13 => ob_i ?_ fun o14 => lt_i (Fct.leafY ?_)) (fun h13 => Fct.leafY ?_)))) (fun h9 => ob_i trivial fun _ => ob_i ?_ fun o15 => ob_i ?_ fun o16 => lt_i (br_i (fun h17 => ob_i ?_ fun o18 => lt_i (Fct.leafY ?_)) (fun h17 => Fct.leafY ?_))))))))))))
  all_goals have hi := fidx_lt (fun e : SEntry => decide (e.top = t) && decide (e.to = a)) c.entries 0 (by omega)
  all_goals have hr := fun (i : Int) (h : i < c.entries.length) => put_resp (c := c) (e := entry t a x now) h
  all_goals have hm := fun i => szL_mod szEntry (entry t a x now) c.entries i
  all_goals have hs := szL_snoc szEntry c.entries (entry t a x now)
  all_goals have hz : szEntry (entry t a x now) ≤ 40000000 := by have hp2 : szCache c ≤ 100000000 ∧ t.size ≤ 10000000 ∧ szAddr a ≤ 10000000 ∧ szResponse x ≤ 10000000 := hp; simp only [szEntry, entry]; omega
  all_goals have hq : x.policy.size ≤ 10000000 := by have hp2 : szCache c ≤ 100000000 ∧ t.size ≤ 10000000 ∧ szAddr a ≤ 10000000 ∧ szResponse x ≤ 10000000 := hp; simp only [szResponse] at hp2; omega
  all_goals have hn := szL_len szEntry c.entries
  all_goals try simp only [std1, ne_eq] at *
  all_goals try simp only [fCopyCache, fFindEntry, fInRange, fIsCache, fIsResponse, fStoreEntry, etaS, std1, std2, Nat.reduceAdd, ne_eq, storeEntry, putEntry, entry, szCache, fIsCache, fIsResponse, fInRange, fFindEntry, fCopyCache] at *
  all_goals try simp (disch := omega) only [wrapId', toNat1] at *
  all_goals try simp (disch := omega) only [if_pos, if_neg]
  all_goals first | trivial | omega | grind [wrapId', toNat1, good_len, maxLen, storeEntry, putEntry, entry, szCache, fIsCache, fIsResponse, fInRange, fFindEntry, fCopyCache])
def E161 : D.Env := E160.add 115 fStoreEntry
theorem E161ok : EOk Tryz.prog E161 := E160ok.add k115_160
theorem k128_161 : fStoreEntry.ok Tryz.prog 128 := Fct.of (S := fStoreEntry) (L := fun _ _ => none) (kp := [1,4,5,7,8,10,11,12,13,29,58,1000029,1000058]) E161ok Tryz.func128 (by kernel_rfl) (by kernel_rfl) (by
  rintro ⟨(c : SCache), (t : ByteArray), (a : SAddr), (x : SResponse), (now : Int), _⟩ hp
  refine holds_of (X := .ob (fCopyCache.pre (c, ())) <|
 .lt (SCache × PUnit) (fCopyCache.fn (c, ())) fun z2 =>
 .ob (fFindEntry.pre (c, t, a, ())) <|
  .lt (Int × PUnit) (fFindEntry.fn (c, t, a, ())) fun z3 =>
  .br (decide (z3.fst ≥ (0 : Int)))
   (.ob ((0 : Int) ≤ z3.fst ∧ z3.fst < (↑z2.fst.entries.length : Int)) <|
    .ob (z3.fst.toNat < z2.fst.entries.length) <|
    .lt (List SEntry) (z2.fst.entries.modify z3.fst.toNat fun z => { top := t, to := a, response := x, until_ := IntKind.i64.wrap (now + x.age) : SEntry }) fun z4 =>
    .br (x.age == (0 : Int))
     (.ob (fCopyCache.pre (c, ())) <|
      .lt (SCache × PUnit) (fCopyCache.fn (c, ())) fun z5 =>
      .leaf (mkR fStoreEntry.rs (z5.fst, ())) [] [])
     (.ob (fInRange.pre (now, (0 : Int), (999999999000 : Int), ())) <|
      .lt (Bool × PUnit) (fInRange.fn (now, (0 : Int), (999999999000 : Int), ())) fun z6 =>
      .br (!z6.fst)
       (.ob (fCopyCache.pre (c, ())) <|
        .lt (SCache × PUnit) (fCopyCache.fn (c, ())) fun z7 =>
        .leaf (mkR fStoreEntry.rs (z7.fst, ())) [] [])
       (.ob (fIsCache.pre (c, ())) <|
        .lt (Bool × PUnit) (fIsCache.fn (c, ())) fun z8 =>
        .br (!z8.fst)
         (.ob (fCopyCache.pre (c, ())) <|
          .lt (SCache × PUnit) (fCopyCache.fn (c, ())) fun z9 =>
          .leaf (mkR fStoreEntry.rs (z9.fst, ())) [] [])
         (.ob (fIsCache.pre ({ entries := z4 : SCache }, ())) <|
          .lt (Bool × PUnit) (fIsCache.fn ({ entries := z4 : SCache }, ())) fun z10 =>
          .br (!z10.fst)
           (.ob (fCopyCache.pre (c, ())) <|
            .lt (SCache × PUnit) (fCopyCache.fn (c, ())) fun z11 =>
            .leaf (mkR fStoreEntry.rs (z11.fst, ())) [] [])
           (.leaf (mkR fStoreEntry.rs (⟨z4⟩, ())) [] [])))))
   (.ob (True) <|
    .ob (Room (z2.fst.entries.length + [{ top := t, to := a, response := x, until_ := IntKind.i64.wrap (now + x.age) : SEntry }].length) (120 : Nat)) <|
    .br (x.age == (0 : Int))
    (.ob (fCopyCache.pre (c, ())) <|
     .lt (SCache × PUnit) (fCopyCache.fn (c, ())) fun z12 =>
     .leaf (mkR fStoreEntry.rs (z12.fst, ())) [] [])
    (.ob (fInRange.pre (now, (0 : Int), (999999999000 : Int), ())) <|
     .lt (Bool × PUnit) (fInRange.fn (now, (0 : Int), (999999999000 : Int), ())) fun z13 =>
     .br (!z13.fst)
      (.ob (fCopyCache.pre (c, ())) <|
       .lt (SCache × PUnit) (fCopyCache.fn (c, ())) fun z14 =>
       .leaf (mkR fStoreEntry.rs (z14.fst, ())) [] [])
      (.ob (fIsCache.pre (c, ())) <|
       .lt (Bool × PUnit) (fIsCache.fn (c, ())) fun z15 =>
       .br (!z15.fst)
        (.ob (fCopyCache.pre (c, ())) <|
         .lt (SCache × PUnit) (fCopyCache.fn (c, ())) fun z16 =>
         .leaf (mkR fStoreEntry.rs (z16.fst, ())) [] [])
        (.ob (fIsCache.pre ({ entries := z2.fst.entries ++ [{ top := t, to := a, response := x, until_ := IntKind.i64.wrap (now + x.age) : SEntry }] : SCache }, ())) <|
         .lt (Bool × PUnit) (fIsCache.fn ({ entries := z2.fst.entries ++ [{ top := t, to := a, response := x, until_ := IntKind.i64.wrap (now + x.age) : SEntry }] : SCache }, ())) fun z17 =>
         .br (!z17.fst)
          (.ob (fCopyCache.pre (c, ())) <|
           .lt (SCache × PUnit) (fCopyCache.fn (c, ())) fun z18 =>
           .leaf (mkR fStoreEntry.rs (z18.fst, ())) [] [])
          (.leaf (mkR fStoreEntry.rs (⟨z2.fst.entries ++ [{ top := t, to := a, response := x, until_ := IntKind.i64.wrap (now + x.age) : SEntry }]⟩, ())) [] [])))))) (by kernel_rfl) ?_
  refine ob_i ?_ fun o1 => lt_i (ob_i ?_ fun o2 => lt_i (br_i (fun h3 => ob_i ?_ fun o4 => ob_i ?_ fun o5 => lt_i (br_i (fun h6 => ob_i ?_ fun o7 => lt_i (Fct.leafY ?_)) (fun h6 => ob_i trivial fun _ => lt_i (br_i (fun h8 => ob_i ?_ fun o9 => lt_i (Fct.leafY ?_)) (fun h8 => ob_i ?_ fun o10 => lt_i (br_i (fun h11 => ob_i ?_ fun o12 => lt_i (Fct.leafY ?_)) (fun h11 => ob_i ?_ fun o13 => lt_i (br_i (fun h14 => ob_i ?_ fun o15 => lt_i (Fct.leafY ?_)) (fun h14 => Fct.leafY ?_))))))))) (fun h3 => ob_i trivial fun _ => ob_i ?_ fun o16 => br_i (fun h17 => ob_i ?_ fun o18 => lt_i (Fct.leafY ?_)) (fun h17 => ob_i trivial fun _ => lt_i (br_i (fun h19 => ob_i ?_ fun o20 => lt_i (Fct.leafY ?_)) (fun h19 => ob_i ?_ fun o21 => lt_i (br_i (fun h22 => ob_i ?_ fun o23 => lt_i (Fct.leafY ?_)) (fun h22 => ob_i ?_ fun o24 => lt_i (br_i (fun h25 => ob_i ?_ fun o26 => lt_i (Fct.leafY ?_)) (fun h25 => Fct.leafY ?_))))))))))
  all_goals have hi := fidx_lt (fun e : SEntry => decide (e.top = t) && decide (e.to = a)) c.entries 0 (by omega)
  all_goals have hr := fun (i : Int) (h : i < c.entries.length) => put_resp (c := c) (e := entry t a x now) h
  all_goals have hm := fun i => szL_mod szEntry (entry t a x now) c.entries i
  all_goals have hs := szL_snoc szEntry c.entries (entry t a x now)
  all_goals have hz : szEntry (entry t a x now) ≤ 40000000 := by have hp2 : szCache c ≤ 100000000 ∧ t.size ≤ 10000000 ∧ szAddr a ≤ 10000000 ∧ szResponse x ≤ 10000000 := hp; simp only [szEntry, entry]; omega
  all_goals have hq : x.policy.size ≤ 10000000 := by have hp2 : szCache c ≤ 100000000 ∧ t.size ≤ 10000000 ∧ szAddr a ≤ 10000000 ∧ szResponse x ≤ 10000000 := hp; simp only [szResponse] at hp2; omega
  all_goals have hn := szL_len szEntry c.entries
  all_goals try simp only [std1, ne_eq] at *
  all_goals try simp only [fCopyCache, fFindEntry, fInRange, fIsCache, fStoreEntry, etaS, std1, std2, Nat.reduceAdd, ne_eq, storeEntry, putEntry, entry, szCache, fIsCache, fIsResponse, fInRange, fFindEntry, fCopyCache] at *
  all_goals try simp (disch := omega) only [wrapId', toNat1] at *
  all_goals try simp (disch := omega) only [if_pos, if_neg]
  all_goals first | trivial | omega | grind [wrapId', toNat1, good_len, maxLen, storeEntry, putEntry, entry, szCache, fIsCache, fIsResponse, fInRange, fFindEntry, fCopyCache])
def E162 : D.Env := E161.add 128 fStoreEntry
theorem E162ok : EOk Tryz.prog E162 := E161ok.add k128_161
def keepAnswer (n : SNet) (t : ByteArray) (a : SAddr) (x : SResponse) : SNet := if (lookUp n.cache t a n.now).isSome = false ∧ isResponse x = true ∧ x.status = 200 then { n with cache := storeEntry n.cache t a x n.now } else n
def fKeepAnswer : Fct := ⟨[.v (.el .net), .v (.el .str), .v (.el .addr), .v (.el .response)], [.el .net], fun (x_ : SNet × ByteArray × SAddr × SResponse × Unit) => szNet x_.1 ≤ 10000000000 ∧ szCache x_.1.cache ≤ 90000000 ∧ x_.2.1.size ≤ 10000000 ∧ szAddr x_.2.2.1 ≤ 10000000 ∧ szResponse x_.2.2.2.1 ≤ 10000000, fun (x_ : SNet × ByteArray × SAddr × SResponse × Unit) => (keepAnswer x_.1 x_.2.1 x_.2.2.1 x_.2.2.2.1, ())⟩
theorem k57_162 : fKeepAnswer.ok Tryz.prog 57 := Fct.of (S := fKeepAnswer) (L := fun _ _ => none) (kp := [1,4,6,7,8,9,11,34,1000034]) E162ok Tryz.func57 (by kernel_rfl) (by kernel_rfl) (by
  rintro ⟨(n : SNet), (t : ByteArray), (a : SAddr), (x : SResponse), _⟩ hp
  refine holds_of (X := .ob (fCopyNet.pre (n, ())) <|
 .lt (SNet × PUnit) (fCopyNet.fn (n, ())) fun z2 =>
 .ob (fLookUp.pre (n.cache, t, a, n.now, ())) <|
  .lt (SResponse × Bool × PUnit) (fLookUp.fn (n.cache, t, a, n.now, ())) fun z3 =>
  .br (!z3.snd.fst)
   (.ob (fIsResponse.pre (x, ())) <|
    .lt (Bool × PUnit) (fIsResponse.fn (x, ())) fun z4 =>
    .br (z4.fst)
     (.br (x.status == (200 : Int))
      (.ob (fStoreEntry.pre (n.cache, t, a, x, n.now, ())) <|
       .lt (SCache × PUnit) (fStoreEntry.fn (n.cache, t, a, x, n.now, ())) fun z5 =>
       .leaf (mkR fKeepAnswer.rs (⟨z2.fst.servers, z5.fst, z2.fst.log, z2.fst.now⟩, ())) [] [])
      (.leaf (mkR fKeepAnswer.rs (z2.fst, ())) [] []))
     (.leaf (mkR fKeepAnswer.rs (z2.fst, ())) [] []))
   (.leaf (mkR fKeepAnswer.rs (z2.fst, ())) [] [])) (by kernel_rfl) ?_
  refine ob_i ?_ fun o1 => lt_i (ob_i ?_ fun o2 => lt_i (br_i (fun h3 => ob_i ?_ fun o4 => lt_i (br_i (fun h5 => br_i (fun h6 => ob_i ?_ fun o7 => lt_i (Fct.leafY ?_)) (fun h6 => Fct.leafY ?_)) (fun h5 => Fct.leafY ?_))) (fun h3 => Fct.leafY ?_)))
  all_goals have hn := szL_len szEntry n.cache.entries
  all_goals have hc : szCache n.cache = szL szEntry n.cache.entries := rfl
  all_goals have hq : x.policy.size ≤ 10000000 := by have hp2 : szNet n ≤ 10000000000 ∧ szCache n.cache ≤ 90000000 ∧ t.size ≤ 10000000 ∧ szAddr a ≤ 10000000 ∧ szResponse x ≤ 10000000 := hp; simp only [szResponse] at hp2; omega
  all_goals try simp only [std1, ne_eq] at *
  all_goals try simp only [fCopyNet, fIsResponse, fKeepAnswer, fLookUp, fStoreEntry, etaS, std1, std2, Nat.reduceAdd, ne_eq, keepAnswer, fCopyNet, fLookUp, fIsResponse, fStoreEntry] at *
  all_goals try simp (disch := omega) only [wrapId', toNat1] at *
  all_goals try simp (disch := omega) only [if_pos, if_neg]
  all_goals first | trivial | omega | grind [wrapId', toNat1, drop_cons, drop_end, good_len, maxLen, keepAnswer, fCopyNet, fLookUp, fIsResponse, fStoreEntry])
def E163 : D.Env := E162.add 57 fKeepAnswer
theorem E163ok : EOk Tryz.prog E163 := E162ok.add k57_162
theorem k70_163 : fKeepAnswer.ok Tryz.prog 70 := Fct.of (S := fKeepAnswer) (L := fun _ _ => none) (kp := [1,4,6,7,8,9,11,34,1000034]) E163ok Tryz.func70 (by kernel_rfl) (by kernel_rfl) (by
  rintro ⟨(n : SNet), (t : ByteArray), (a : SAddr), (x : SResponse), _⟩ hp
  refine holds_of (X := .ob (fCopyNet.pre (n, ())) <|
 .lt (SNet × PUnit) (fCopyNet.fn (n, ())) fun z2 =>
 .ob (fLookUp.pre (n.cache, t, a, n.now, ())) <|
  .lt (SResponse × Bool × PUnit) (fLookUp.fn (n.cache, t, a, n.now, ())) fun z3 =>
  .ob (fIsResponse.pre (x, ())) <|
   .lt (Bool × PUnit) (fIsResponse.fn (x, ())) fun z4 =>
   .br (z4.fst)
    (.br (x.status == (200 : Int))
     (.br (!z3.snd.fst)
      (.ob (fStoreEntry.pre (z2.fst.cache, t, a, x, n.now, ())) <|
       .lt (SCache × PUnit) (fStoreEntry.fn (z2.fst.cache, t, a, x, n.now, ())) fun z5 =>
       .leaf (mkR fKeepAnswer.rs (⟨z2.fst.servers, z5.fst, z2.fst.log, z2.fst.now⟩, ())) [] [])
      (.leaf (mkR fKeepAnswer.rs (z2.fst, ())) [] []))
     (.leaf (mkR fKeepAnswer.rs (z2.fst, ())) [] []))
    (.leaf (mkR fKeepAnswer.rs (z2.fst, ())) [] [])) (by kernel_rfl) ?_
  refine ob_i ?_ fun o1 => lt_i (ob_i ?_ fun o2 => lt_i (ob_i ?_ fun o3 => lt_i (br_i (fun h4 => br_i (fun h5 => br_i (fun h6 => ob_i ?_ fun o7 => lt_i (Fct.leafY ?_)) (fun h6 => Fct.leafY ?_)) (fun h5 => Fct.leafY ?_)) (fun h4 => Fct.leafY ?_))))
  all_goals have hn := szL_len szEntry n.cache.entries
  all_goals have hc : szCache n.cache = szL szEntry n.cache.entries := rfl
  all_goals have hq : x.policy.size ≤ 10000000 := by have hp2 : szNet n ≤ 10000000000 ∧ szCache n.cache ≤ 90000000 ∧ t.size ≤ 10000000 ∧ szAddr a ≤ 10000000 ∧ szResponse x ≤ 10000000 := hp; simp only [szResponse] at hp2; omega
  all_goals try simp only [std1, ne_eq] at *
  all_goals try simp only [fCopyNet, fIsResponse, fKeepAnswer, fLookUp, fStoreEntry, etaS, std1, std2, Nat.reduceAdd, ne_eq, keepAnswer, fCopyNet, fLookUp, fIsResponse, fStoreEntry] at *
  all_goals try simp (disch := omega) only [wrapId', toNat1] at *
  all_goals try simp (disch := omega) only [if_pos, if_neg]
  all_goals first | trivial | omega | grind [wrapId', toNat1, drop_cons, drop_end, good_len, maxLen, keepAnswer, fCopyNet, fLookUp, fIsResponse, fStoreEntry])
def E164 : D.Env := E163.add 70 fKeepAnswer
theorem E164ok : EOk Tryz.prog E164 := E163ok.add k70_163
def logSent (n : SNet) (t : ByteArray) (a : SAddr) (g : Bool) : SNet := if n.log.length < 400 then { n with log := n.log ++ [⟨t, a, g⟩] } else n
def fetchNow (n : SNet) (t : ByteArray) (a : SAddr) (g : Bool) : SNet × SResponse :=
  if (isName a.host && isName a.path) = false then (n, notFound)
  else if (lookUp n.cache t a n.now).isSome then (n, (lookUp n.cache t a n.now).getD notFound)
  else (if g then logSent n t a g else keepAnswer (logSent n t a g) t a (answerTo n.servers a), answerTo n.servers a)
theorem answer_sz (l : List SServer) (a : SAddr) : szResponse (answerTo l a) ≤ szL szServer l := by
  unfold answerTo
  split
  · exact Nat.zero_le _
  split
  · exact Nat.zero_le _
  · rename_i h1 h2
    have h3 := fidx_lt (fun s : SServer => decide (s.host = a.host)) l 0 (by omega)
    have h4 := szL_get szServer (l := l) (i := (fidx (fun s => decide (s.host = a.host)) l 0).toNat) (by omega)
    have h5 := fidx_lt (fun f : SFile => decide (f.path = a.path)) (l.getD (fidx (fun s => decide (s.host = a.host)) l 0).toNat default).files 0 (by omega)
    have h6 := szL_get szFile (l := (l.getD (fidx (fun s => decide (s.host = a.host)) l 0).toNat default).files) (i := (fidx (fun f : SFile => decide (f.path = a.path)) (l.getD (fidx (fun s => decide (s.host = a.host)) l 0).toNat default).files 0).toNat) (by omega)
    simp only [szServer, szFile] at h4 h6
    omega
def fFetchNow : Fct := ⟨[.v (.el .net), .v (.el .str), .v (.el .addr), .v (.el .bool)], [.el .net, .el .response], fun (x_ : SNet × ByteArray × SAddr × Bool × Unit) => szNet x_.1 ≤ 9000000000 ∧ szCache x_.1.cache ≤ 90000000 ∧ szL szServer x_.1.servers ≤ 10000000 ∧ x_.2.1.size ≤ 10000000 ∧ szAddr x_.2.2.1 ≤ 10000000, fun (x_ : SNet × ByteArray × SAddr × Bool × Unit) => ((fetchNow x_.1 x_.2.1 x_.2.2.1 x_.2.2.2.1).1, (fetchNow x_.1 x_.2.1 x_.2.2.1 x_.2.2.2.1).2, ())⟩
theorem k21_164 : fFetchNow.ok Tryz.prog 21 := Fct.of (S := fFetchNow) (L := fun _ _ => none) (kp := [1,3,4,6,8,9,10,11,12,13,18,31,41,52,1000018,1000031,1000041,1000052]) E164ok Tryz.func21 (by kernel_rfl) (by kernel_rfl) (by
  rintro ⟨(n : SNet), (t : ByteArray), (a : SAddr), (g : Bool), _⟩ hp
  refine holds_of (X := .ob (fCopyNet.pre (n, ())) <|
 .lt (SNet × PUnit) (fCopyNet.fn (n, ())) fun z2 =>
 .ob (fIsAddr.pre (a, ())) <|
  .lt (Bool × PUnit) (fIsAddr.fn (a, ())) fun z3 =>
  .br (!z3.fst)
   (.ob (fNotFound.pre ()) <|
    .lt (SResponse × PUnit) (fNotFound.fn ()) fun z4 =>
    .leaf (mkR fFetchNow.rs (z2.fst, z4.fst, ())) [] [])
   (.ob (fLookUp.pre (n.cache, t, a, n.now, ())) <|
    .lt (SResponse × Bool × PUnit) (fLookUp.fn (n.cache, t, a, n.now, ())) fun z5 =>
    .br (z5.snd.fst)
     (.lp (Bool) (True) (fun x => True) fun y6 =>
      .br (y6)
       (.leaf (mkR fFetchNow.rs (z2.fst, z5.fst, ())) [] [])
       (.leaf (mkR fFetchNow.rs (z2.fst, z5.fst, ())) [] []))
     (.ob (fAnswerTo.pre (n.servers, a, ())) <|
      .lt (SResponse × PUnit) (fAnswerTo.fn (n.servers, a, ())) fun z6 =>
      .br (decide ((↑n.log.length : Int) < (400 : Int)))
       (.ob (True) <|
        .ob (Room (z2.fst.log.length + [{ top := t, to := a, guess := g : SSent }].length) (56 : Nat)) <|
        .br (!g)
        (.ob (fKeepAnswer.pre ({ servers := z2.fst.servers, cache := z2.fst.cache, log := z2.fst.log ++ [{ top := t, to := a, guess := g : SSent }], now := z2.fst.now : SNet }, t, a, z6.fst, ())) <|
         .lt (SNet × PUnit) (fKeepAnswer.fn ({ servers := z2.fst.servers, cache := z2.fst.cache, log := z2.fst.log ++ [{ top := t, to := a, guess := g : SSent }], now := z2.fst.now : SNet }, t, a, z6.fst, ())) fun z7 =>
         .lp (Bool) (True) (fun x => True) fun y13 =>
          .br (y13)
           (.leaf (mkR fFetchNow.rs (z7.fst, z6.fst, ())) [] [])
           (.leaf (mkR fFetchNow.rs (z7.fst, z6.fst, ())) [] []))
        (.lp (Bool) (True) (fun x => True) fun y15 =>
         .br (y15)
          (.leaf (mkR fFetchNow.rs (⟨z2.fst.servers, z2.fst.cache, z2.fst.log ++ [{ top := t, to := a, guess := g : SSent }], z2.fst.now⟩, z6.fst, ())) [] [])
          (.leaf (mkR fFetchNow.rs (⟨z2.fst.servers, z2.fst.cache, z2.fst.log ++ [{ top := t, to := a, guess := g : SSent }], z2.fst.now⟩, z6.fst, ())) [] [])))
       (.br (!g)
        (.ob (fKeepAnswer.pre (z2.fst, t, a, z6.fst, ())) <|
         .lt (SNet × PUnit) (fKeepAnswer.fn (z2.fst, t, a, z6.fst, ())) fun z8 =>
         .lp (Bool) (True) (fun x => True) fun y19 =>
          .br (y19)
           (.leaf (mkR fFetchNow.rs (z8.fst, z6.fst, ())) [] [])
           (.leaf (mkR fFetchNow.rs (z8.fst, z6.fst, ())) [] []))
        (.lp (Bool) (True) (fun x => True) fun y21 =>
         .br (y21)
          (.leaf (mkR fFetchNow.rs (z2.fst, z6.fst, ())) [] [])
          (.leaf (mkR fFetchNow.rs (z2.fst, z6.fst, ())) [] [])))))) (by kernel_rfl) ?_
  refine ob_i ?_ fun o1 => lt_i (ob_i ?_ fun o2 => lt_i (br_i (fun h3 => ob_i trivial fun _ => lt_i (Fct.leafY ?_)) (fun h3 => ob_i ?_ fun o4 => lt_i (br_i (fun h5 => lp_i trivial fun y6 i6 => br_i (fun h7 => Fct.leafY ?_) (fun h7 => Fct.leafY ?_)) (fun h5 => ob_i ?_ fun o8 => lt_i (br_i (fun h9 => ob_i trivial fun _ => ob_i ?_ fun o10 => br_i (fun h11 => ob_i ?_ fun o12 => lt_i (lp_i trivial fun y13 i13 => br_i (fun h14 => Fct.leafY ?_) (fun h14 => Fct.leafY ?_))) (fun h11 => lp_i trivial fun y15 i15 => br_i (fun h16 => Fct.leafY ?_) (fun h16 => Fct.leafY ?_))) (fun h9 => br_i (fun h17 => ob_i ?_ fun o18 => lt_i (lp_i trivial fun y19 i19 => br_i (fun h20 => Fct.leafY ?_) (fun h20 => Fct.leafY ?_))) (fun h17 => lp_i trivial fun y21 i21 => br_i (fun h22 => Fct.leafY ?_) (fun h22 => Fct.leafY ?_)))))))))
  all_goals have hn := szL_len szEntry n.cache.entries
  all_goals have hc : szCache n.cache = szL szEntry n.cache.entries := rfl
  all_goals have ha := answer_sz n.servers a
  all_goals have hs := szL_snoc szSent n.log ⟨t, a, g⟩
  all_goals have hs2 : szSent ⟨t, a, g⟩ = t.size + szAddr a := rfl
  all_goals have hd : a.host.size ≤ szAddr a ∧ a.path.size ≤ szAddr a := ⟨Nat.le_add_right _ _, Nat.le_add_left _ _⟩
  all_goals have hl := szL_len szSent n.log
  all_goals try simp only [std1, ne_eq] at *
  all_goals try simp only [fAnswerTo, fCopyNet, fFetchNow, fIsAddr, fKeepAnswer, fLookUp, fNotFound, etaS, std1, std2, Nat.reduceAdd, ne_eq, fetchNow, logSent, szNet, fCopyNet, fLookUp, fIsAddr, fKeepAnswer, fAnswerTo, fNotFound] at *
  all_goals try simp (disch := omega) only [wrapId', toNat1] at *
  all_goals try simp (disch := omega) only [if_pos, if_neg]
  all_goals first | trivial | omega | grind [wrapId', toNat1, drop_cons, drop_end, good_len, maxLen, fetchNow, logSent, szNet, fCopyNet, fLookUp, fIsAddr, fKeepAnswer, fAnswerTo, fNotFound])
def E165 : D.Env := E164.add 21 fFetchNow
theorem E165ok : EOk Tryz.prog E165 := E164ok.add k21_164
theorem k27_165 : fFetchNow.ok Tryz.prog 27 := Fct.of (S := fFetchNow) (L := fun _ _ => none) (kp := [1,3,4,6,8,9,10,11,12,13,18,31,41,52,1000018,1000031,1000041,1000052]) E165ok Tryz.func27 (by kernel_rfl) (by kernel_rfl) (by
  rintro ⟨(n : SNet), (t : ByteArray), (a : SAddr), (g : Bool), _⟩ hp
  refine holds_of (X := .ob (fCopyNet.pre (n, ())) <|
 .lt (SNet × PUnit) (fCopyNet.fn (n, ())) fun z2 =>
 .ob (fIsAddr.pre (a, ())) <|
  .lt (Bool × PUnit) (fIsAddr.fn (a, ())) fun z3 =>
  .br (!z3.fst)
   (.ob (fNotFound.pre ()) <|
    .lt (SResponse × PUnit) (fNotFound.fn ()) fun z4 =>
    .leaf (mkR fFetchNow.rs (z2.fst, z4.fst, ())) [] [])
   (.ob (fLookUp.pre (n.cache, t, a, n.now, ())) <|
    .lt (SResponse × Bool × PUnit) (fLookUp.fn (n.cache, t, a, n.now, ())) fun z5 =>
    .br (z5.snd.fst)
     (.lp (Bool) (True) (fun x => True) fun y6 =>
      .br (y6)
       (.leaf (mkR fFetchNow.rs (z2.fst, z5.fst, ())) [] [])
       (.leaf (mkR fFetchNow.rs (z2.fst, z5.fst, ())) [] []))
     (.ob (fAnswerTo.pre (n.servers, a, ())) <|
      .lt (SResponse × PUnit) (fAnswerTo.fn (n.servers, a, ())) fun z6 =>
      .br (decide ((↑z2.fst.log.length : Int) < (400 : Int)))
       (.ob (True) <|
        .ob (Room (z2.fst.log.length + [{ top := t, to := a, guess := g : SSent }].length) (56 : Nat)) <|
        .br (!g)
        (.ob (fKeepAnswer.pre ({ servers := z2.fst.servers, cache := z2.fst.cache, log := z2.fst.log ++ [{ top := t, to := a, guess := g : SSent }], now := z2.fst.now : SNet }, t, a, z6.fst, ())) <|
         .lt (SNet × PUnit) (fKeepAnswer.fn ({ servers := z2.fst.servers, cache := z2.fst.cache, log := z2.fst.log ++ [{ top := t, to := a, guess := g : SSent }], now := z2.fst.now : SNet }, t, a, z6.fst, ())) fun z7 =>
         .lp (Bool) (True) (fun x => True) fun y13 =>
          .br (y13)
           (.leaf (mkR fFetchNow.rs (z7.fst, z6.fst, ())) [] [])
           (.leaf (mkR fFetchNow.rs (z7.fst, z6.fst, ())) [] []))
        (.lp (Bool) (True) (fun x => True) fun y15 =>
         .br (y15)
          (.leaf (mkR fFetchNow.rs (⟨z2.fst.servers, z2.fst.cache, z2.fst.log ++ [{ top := t, to := a, guess := g : SSent }], z2.fst.now⟩, z6.fst, ())) [] [])
          (.leaf (mkR fFetchNow.rs (⟨z2.fst.servers, z2.fst.cache, z2.fst.log ++ [{ top := t, to := a, guess := g : SSent }], z2.fst.now⟩, z6.fst, ())) [] [])))
       (.br (!g)
        (.ob (fKeepAnswer.pre (z2.fst, t, a, z6.fst, ())) <|
         .lt (SNet × PUnit) (fKeepAnswer.fn (z2.fst, t, a, z6.fst, ())) fun z8 =>
         .lp (Bool) (True) (fun x => True) fun y19 =>
          .br (y19)
           (.leaf (mkR fFetchNow.rs (z8.fst, z6.fst, ())) [] [])
           (.leaf (mkR fFetchNow.rs (z8.fst, z6.fst, ())) [] []))
        (.lp (Bool) (True) (fun x => True) fun y21 =>
         .br (y21)
          (.leaf (mkR fFetchNow.rs (z2.fst, z6.fst, ())) [] [])
          (.leaf (mkR fFetchNow.rs (z2.fst, z6.fst, ())) [] [])))))) (by kernel_rfl) ?_
  refine ob_i ?_ fun o1 => lt_i (ob_i ?_ fun o2 => lt_i (br_i (fun h3 => ob_i trivial fun _ => lt_i (Fct.leafY ?_)) (fun h3 => ob_i ?_ fun o4 => lt_i (br_i (fun h5 => lp_i trivial fun y6 i6 => br_i (fun h7 => Fct.leafY ?_) (fun h7 => Fct.leafY ?_)) (fun h5 => ob_i ?_ fun o8 => lt_i (br_i (fun h9 => ob_i trivial fun _ => ob_i ?_ fun o10 => br_i (fun h11 => ob_i ?_ fun o12 => lt_i (lp_i trivial fun y13 i13 => br_i (fun h14 => Fct.leafY ?_) (fun h14 => Fct.leafY ?_))) (fun h11 => lp_i trivial fun y15 i15 => br_i (fun h16 => Fct.leafY ?_) (fun h16 => Fct.leafY ?_))) (fun h9 => br_i (fun h17 => ob_i ?_ fun o18 => lt_i (lp_i trivial fun y19 i19 => br_i (fun h20 => Fct.leafY ?_) (fun h20 => Fct.leafY ?_))) (fun h17 => lp_i trivial fun y21 i21 => br_i (fun h22 => Fct.leafY ?_) (fun h22 => Fct.leafY ?_)))))))))
  all_goals have hn := szL_len szEntry n.cache.entries
  all_goals have hc : szCache n.cache = szL szEntry n.cache.entries := rfl
  all_goals have ha := answer_sz n.servers a
  all_goals have hs := szL_snoc szSent n.log ⟨t, a, g⟩
  all_goals have hs2 : szSent ⟨t, a, g⟩ = t.size + szAddr a := rfl
  all_goals have hd : a.host.size ≤ szAddr a ∧ a.path.size ≤ szAddr a := ⟨Nat.le_add_right _ _, Nat.le_add_left _ _⟩
  all_goals have hl := szL_len szSent n.log
  all_goals try simp only [std1, ne_eq] at *
  all_goals try simp only [fAnswerTo, fCopyNet, fFetchNow, fIsAddr, fKeepAnswer, fLookUp, fNotFound, etaS, std1, std2, Nat.reduceAdd, ne_eq, fetchNow, logSent, szNet, fCopyNet, fLookUp, fIsAddr, fKeepAnswer, fAnswerTo, fNotFound] at *
  all_goals try simp (disch := omega) only [wrapId', toNat1] at *
  all_goals try simp (disch := omega) only [if_pos, if_neg]
  all_goals first | trivial | omega | grind [wrapId', toNat1, drop_cons, drop_end, good_len, maxLen, fetchNow, logSent, szNet, fCopyNet, fLookUp, fIsAddr, fKeepAnswer, fAnswerTo, fNotFound])
def E166 : D.Env := E165.add 27 fFetchNow
theorem E166ok : EOk Tryz.prog E166 := E165ok.add k27_165
def newBuilder : SBuilder := ⟨[⟨⟨#[112, 97, 103, 101]⟩, ⟨#[]⟩, -1, []⟩], [0]⟩
def fNewBuilder : Fct := ⟨[], [rE .builder], fun _ => True, fun _ => (newBuilder, ())⟩
theorem k60_166 : fNewBuilder.ok Tryz.prog 60 := Fct.of (S := fNewBuilder) (L := fun _ _ => none) (kp := [0]) E166ok Tryz.func60 (by kernel_rfl) (by kernel_rfl) (by
  rintro ⟨_⟩ hp
  refine holds_of (X := .leaf (mkR fNewBuilder.rs (⟨[{ name := { data := #[(112 : UInt8), (97 : UInt8), (103 : UInt8), (101 : UInt8)] : ByteArray }, text := { data := #[] : ByteArray }, parent := (-1 : Int), attrs := [] : SNode }], [(0 : Int)]⟩, ())) [] []) (by kernel_rfl) ?_
  refine Fct.leafY ?_
  all_goals try simp only [std1, ne_eq] at *
  all_goals try simp only [fNewBuilder, etaS, std1, std2, Nat.reduceAdd, ne_eq, newBuilder] at *
  all_goals try simp (disch := omega) only [wrapId', toNat1] at *
  all_goals try simp (disch := omega) only [if_pos, if_neg]
  all_goals first | trivial | omega | grind [wrapId', toNat1, drop_cons, drop_end, good_len, maxLen, newBuilder])
def E167 : D.Env := E166.add 60 fNewBuilder
theorem E167ok : EOk Tryz.prog E167 := E166ok.add k60_166
theorem k73_167 : fNewBuilder.ok Tryz.prog 73 := Fct.of (S := fNewBuilder) (L := fun _ _ => none) (kp := [0]) E167ok Tryz.func73 (by kernel_rfl) (by kernel_rfl) (by
  rintro ⟨_⟩ hp
  refine holds_of (X := .leaf (mkR fNewBuilder.rs (⟨[{ name := { data := #[(112 : UInt8), (97 : UInt8), (103 : UInt8), (101 : UInt8)] : ByteArray }, text := { data := #[] : ByteArray }, parent := (-1 : Int), attrs := [] : SNode }], [(0 : Int)]⟩, ())) [] []) (by kernel_rfl) ?_
  refine Fct.leafY ?_
  all_goals try simp only [std1, ne_eq] at *
  all_goals try simp only [fNewBuilder, etaS, std1, std2, Nat.reduceAdd, ne_eq, newBuilder] at *
  all_goals try simp (disch := omega) only [wrapId', toNat1] at *
  all_goals try simp (disch := omega) only [if_pos, if_neg]
  all_goals first | trivial | omega | grind [wrapId', toNat1, drop_cons, drop_end, good_len, maxLen, newBuilder])
def E168 : D.Env := E167.add 73 fNewBuilder
theorem E168ok : EOk Tryz.prog E168 := E167ok.add k73_167
def newPage (a : SAddr) (x : SResponse) : SPage × Bool := if (isName a.host && isName a.path) = true ∧ isResponse x = true ∧ x.status = 200 ∧ x.kind = 1 then (⟨a, (parsePolicy x.policy).1, default, [], false, newBuilder, [], [], [], 0, 0, 0, 0, [], [], false⟩, true) else (default, false)
def fNewPage : Fct := ⟨[.v (.el .addr), .v (.el .response)], [.el .page, .el .bool], fun (x_ : SAddr × SResponse × Unit) => x_.2.1.policy.size ≤ 200000000 ∧ szAddr x_.1 ≤ 10000000, fun (x_ : SAddr × SResponse × Unit) => ((newPage x_.1 x_.2.1).1, (newPage x_.1 x_.2.1).2, ())⟩
theorem k22_168 : fNewPage.ok Tryz.prog 22 := Fct.of (S := fNewPage) (L := fun _ _ => none) (kp := [2,3,4,5,6,7,35,1000035]) E168ok Tryz.func22 (by kernel_rfl) (by kernel_rfl) (by
  rintro ⟨(a : SAddr), (x : SResponse), _⟩ hp
  refine holds_of (X := .ob (fParsePolicy.pre (x.policy, ())) <|
 .lt (SPolicy × Bool × PUnit) (fParsePolicy.fn (x.policy, ())) fun z2 =>
 .ob (fIsAddr.pre (a, ())) <|
  .lt (Bool × PUnit) (fIsAddr.fn (a, ())) fun z3 =>
  .br (!z3.fst)
   (.leaf (.tup [(true, [vs ({ data := #[] : ByteArray }), vs ({ data := #[] : ByteArray }), vb (false), .nl, .nl, .nl, vs ({ data := #[] : ByteArray }), vs ({ data := #[] : ByteArray }), .nl, vb (false), .nl, .nl, .nl, .nl, .nl, vi ((0 : Int)), vi ((0 : Int)), vi ((0 : Int)), vi ((0 : Int)), .nl, .nl, vb (false)]), (false, [vb (false)])]) [] [])
   (.ob (fIsResponse.pre (x, ())) <|
    .lt (Bool × PUnit) (fIsResponse.fn (x, ())) fun z4 =>
    .br (!z4.fst)
     (.leaf (.tup [(true, [vs ({ data := #[] : ByteArray }), vs ({ data := #[] : ByteArray }), vb (false), .nl, .nl, .nl, vs ({ data := #[] : ByteArray }), vs ({ data := #[] : ByteArray }), .nl, vb (false), .nl, .nl, .nl, .nl, .nl, vi ((0 : Int)), vi ((0 : Int)), vi ((0 : Int)), vi ((0 : Int)), .nl, .nl, vb (false)]), (false, [vb (false)])]) [] [])
     (.br (!z2.snd.fst)
      (.leaf (.tup [(true, [vs ({ data := #[] : ByteArray }), vs ({ data := #[] : ByteArray }), vb (false), .nl, .nl, .nl, vs ({ data := #[] : ByteArray }), vs ({ data := #[] : ByteArray }), .nl, vb (false), .nl, .nl, .nl, .nl, .nl, vi ((0 : Int)), vi ((0 : Int)), vi ((0 : Int)), vi ((0 : Int)), .nl, .nl, vb (false)]), (false, [vb (false)])]) [] [])
      (.br (x.status != (200 : Int))
       (.leaf (.tup [(true, [vs ({ data := #[] : ByteArray }), vs ({ data := #[] : ByteArray }), vb (false), .nl, .nl, .nl, vs ({ data := #[] : ByteArray }), vs ({ data := #[] : ByteArray }), .nl, vb (false), .nl, .nl, .nl, .nl, .nl, vi ((0 : Int)), vi ((0 : Int)), vi ((0 : Int)), vi ((0 : Int)), .nl, .nl, vb (false)]), (false, [vb (false)])]) [] [])
       (.br (x.kind != (1 : Int))
        (.leaf (.tup [(true, [vs ({ data := #[] : ByteArray }), vs ({ data := #[] : ByteArray }), vb (false), .nl, .nl, .nl, vs ({ data := #[] : ByteArray }), vs ({ data := #[] : ByteArray }), .nl, vb (false), .nl, .nl, .nl, .nl, .nl, vi ((0 : Int)), vi ((0 : Int)), vi ((0 : Int)), vi ((0 : Int)), .nl, .nl, vb (false)]), (false, [vb (false)])]) [] [])
        (.ob (fNewBuilder.pre ()) <|
         .lt (SBuilder × PUnit) (fNewBuilder.fn ()) fun z5 =>
         .leaf (.tup [(true, [vs (a.host), vs (a.path), vb (z2.fst.set_), .l Ty.str (z2.fst.scripts), .l Ty.str (z2.fst.styles), .l Ty.str (z2.fst.images), vs (z2.fst.nonce), vs ({ data := #[] : ByteArray }), .nl, vb (false), .l Ty.node (z5.fst.nodes), .l Ty.int (z5.fst.open_), .nl, .nl, .nl, vi ((0 : Int)), vi ((0 : Int)), vi ((0 : Int)), vi ((0 : Int)), .nl, .nl, vb (false)]), (false, [vb (true)])]) [] [])))))) (by kernel_rfl) ?_
  refine ob_i ?_ fun o1 => lt_e fun z2 ez2 => (ob_i ?_ fun o2 => lt_e fun z3 ez3 => (br_i (fun h3 => Fct.leafZ (default, false, ()) (by repeat' first | exact rfl | exact trivial | refine And.intro ?_ ?_) ?_) (fun h3 => ob_i ?_ fun o4 => lt_e fun z4 ez4 => (br_i (fun h5 => Fct.leafZ (default, false, ()) (by repeat' first | exact rfl | exact trivial | refine And.intro ?_ ?_) ?_) (fun h5 => br_i (fun h6 => Fct.leafZ (default, false, ()) (by repeat' first | exact rfl | exact trivial | refine And.intro ?_ ?_) ?_) (fun h6 => br_i (fun h7 => Fct.leafZ (default, false, ()) (by repeat' first | exact rfl | exact trivial | refine And.intro ?_ ?_) ?_) (fun h7 => br_i (fun h8 => Fct.leafZ (default, false, ()) (by repeat' first | exact rfl | exact trivial | refine And.intro ?_ ?_) ?_) (fun h8 => ob_i trivial fun _ => lt_e fun z5 ez5 => (Fct.leafZ (⟨a, z2.fst, default, [], false, z5.fst, [], [], [], (0 : Int), (0 : Int), (0 : Int), (0 : Int), [], [], false⟩, true, ()) (by repeat' first | exact rfl | exact trivial | refine And.intro ?_ ?_) ?_)))))))))
  all_goals subst_vars
  all_goals have hd : a.host.size ≤ szAddr a ∧ a.path.size ≤ szAddr a := ⟨Nat.le_add_right _ _, Nat.le_add_left _ _⟩
  all_goals try simp only [std1, ne_eq] at *
  all_goals try simp only [fIsAddr, fIsResponse, fNewBuilder, fNewPage, fParsePolicy, etaS, std1, std2, Nat.reduceAdd, ne_eq, newPage, isResponse, fIsAddr, fIsResponse, fParsePolicy, fNewBuilder] at *
  all_goals try simp (disch := omega) only [wrapId', toNat1] at *
  all_goals try simp (disch := omega) only [if_pos, if_neg]
  all_goals first | trivial | omega | grind [wrapId', toNat1, drop_cons, drop_end, good_len, maxLen, newPage, isResponse, fIsAddr, fIsResponse, fParsePolicy, fNewBuilder])
def E169 : D.Env := E168.add 22 fNewPage
theorem E169ok : EOk Tryz.prog E169 := E168ok.add k22_168
theorem k28_169 : fNewPage.ok Tryz.prog 28 := Fct.of (S := fNewPage) (L := fun _ _ => none) (kp := [2,3,4,5,6,25,1000025]) E169ok Tryz.func28 (by kernel_rfl) (by kernel_rfl) (by
  rintro ⟨(a : SAddr), (x : SResponse), _⟩ hp
  refine holds_of (X := .ob (fIsAddr.pre (a, ())) <|
 .lt (Bool × PUnit) (fIsAddr.fn (a, ())) fun z2 =>
 .br (!z2.fst)
  (.leaf (.tup [(true, [vs ({ data := #[] : ByteArray }), vs ({ data := #[] : ByteArray }), vb (false), .nl, .nl, .nl, vs ({ data := #[] : ByteArray }), vs ({ data := #[] : ByteArray }), .nl, vb (false), .nl, .nl, .nl, .nl, .nl, vi ((0 : Int)), vi ((0 : Int)), vi ((0 : Int)), vi ((0 : Int)), .nl, .nl, vb (false)]), (false, [vb (false)])]) [] [])
  (.ob (fIsResponse.pre (x, ())) <|
   .lt (Bool × PUnit) (fIsResponse.fn (x, ())) fun z3 =>
   .br (!z3.fst)
    (.leaf (.tup [(true, [vs ({ data := #[] : ByteArray }), vs ({ data := #[] : ByteArray }), vb (false), .nl, .nl, .nl, vs ({ data := #[] : ByteArray }), vs ({ data := #[] : ByteArray }), .nl, vb (false), .nl, .nl, .nl, .nl, .nl, vi ((0 : Int)), vi ((0 : Int)), vi ((0 : Int)), vi ((0 : Int)), .nl, .nl, vb (false)]), (false, [vb (false)])]) [] [])
    (.br (x.status != (200 : Int))
     (.leaf (.tup [(true, [vs ({ data := #[] : ByteArray }), vs ({ data := #[] : ByteArray }), vb (false), .nl, .nl, .nl, vs ({ data := #[] : ByteArray }), vs ({ data := #[] : ByteArray }), .nl, vb (false), .nl, .nl, .nl, .nl, .nl, vi ((0 : Int)), vi ((0 : Int)), vi ((0 : Int)), vi ((0 : Int)), .nl, .nl, vb (false)]), (false, [vb (false)])]) [] [])
     (.br (x.kind != (1 : Int))
      (.leaf (.tup [(true, [vs ({ data := #[] : ByteArray }), vs ({ data := #[] : ByteArray }), vb (false), .nl, .nl, .nl, vs ({ data := #[] : ByteArray }), vs ({ data := #[] : ByteArray }), .nl, vb (false), .nl, .nl, .nl, .nl, .nl, vi ((0 : Int)), vi ((0 : Int)), vi ((0 : Int)), vi ((0 : Int)), .nl, .nl, vb (false)]), (false, [vb (false)])]) [] [])
      (.ob (fParsePolicy.pre (x.policy, ())) <|
       .lt (SPolicy × Bool × PUnit) (fParsePolicy.fn (x.policy, ())) fun z4 =>
       .ob (fNewBuilder.pre ()) <|
        .lt (SBuilder × PUnit) (fNewBuilder.fn ()) fun z5 =>
        .leaf (.tup [(true, [vs (a.host), vs (a.path), vb (z4.fst.set_), .l Ty.str (z4.fst.scripts), .l Ty.str (z4.fst.styles), .l Ty.str (z4.fst.images), vs (z4.fst.nonce), vs ({ data := #[] : ByteArray }), .nl, vb (false), .l Ty.node (z5.fst.nodes), .l Ty.int (z5.fst.open_), .nl, .nl, .nl, vi ((0 : Int)), vi ((0 : Int)), vi ((0 : Int)), vi ((0 : Int)), .nl, .nl, vb (false)]), (false, [vb (true)])]) [] []))))) (by kernel_rfl) ?_
  refine ob_i ?_ fun o1 => lt_e fun z2 ez2 => (br_i (fun h2 => Fct.leafZ (default, false, ()) (by repeat' first | exact rfl | exact trivial | refine And.intro ?_ ?_) ?_) (fun h2 => ob_i ?_ fun o3 => lt_e fun z3 ez3 => (br_i (fun h4 => Fct.leafZ (default, false, ()) (by repeat' first | exact rfl | exact trivial | refine And.intro ?_ ?_) ?_) (fun h4 => br_i (fun h5 => Fct.leafZ (default, false, ()) (by repeat' first | exact rfl | exact trivial | refine And.intro ?_ ?_) ?_) (fun h5 => br_i (fun h6 => Fct.leafZ (default, false, ()) (by repeat' first | exact rfl | exact trivial | refine And.intro ?_ ?_) ?_) (fun h6 => ob_i ?_ fun o7 => lt_e fun z4 ez4 => (ob_i trivial fun _ => lt_e fun z5 ez5 => (Fct.leafZ (⟨a, z4.fst, default, [], false, z5.fst, [], [], [], (0 : Int), (0 : Int), (0 : Int), (0 : Int), [], [], false⟩, true, ()) (by repeat' first | exact rfl | exact trivial | refine And.intro ?_ ?_) ?_))))))))
  all_goals subst_vars
  all_goals have hd : a.host.size ≤ szAddr a ∧ a.path.size ≤ szAddr a := ⟨Nat.le_add_right _ _, Nat.le_add_left _ _⟩
  all_goals try simp only [std1, ne_eq] at *
  all_goals try simp only [fIsAddr, fIsResponse, fNewBuilder, fNewPage, fParsePolicy, etaS, std1, std2, Nat.reduceAdd, ne_eq, newPage, isResponse, fIsAddr, fIsResponse, fParsePolicy, fNewBuilder] at *
  all_goals try simp (disch := omega) only [wrapId', toNat1] at *
  all_goals try simp (disch := omega) only [if_pos, if_neg]
  all_goals first | trivial | omega | grind [wrapId', toNat1, drop_cons, drop_end, good_len, maxLen, newPage, isResponse, fIsAddr, fIsResponse, fParsePolicy, fNewBuilder])
def E170 : D.Env := E169.add 28 fNewPage
theorem E170ok : EOk Tryz.prog E170 := E169ok.add k28_169
def startLoad (n : SNet) (a : SAddr) (cs : List Int) : SLoader × Bool := if (newPage a (fetchNow n a.host a false).2).2 then (⟨(fetchNow n a.host a false).1, (newPage a (fetchNow n a.host a false).2).1, cutText (fetchNow n a.host a false).2.body cs, [], []⟩, true) else (⟨(fetchNow n a.host a false).1, default, [], [], []⟩, false)
theorem lookUp_sz {c : SCache} {t : ByteArray} {a : SAddr} {now : Int} {x : SResponse} (h : lookUp c t a now = some x) : szResponse x ≤ szCache c := by
  unfold lookUp at h
  obtain ⟨e, he, rfl⟩ := Option.map_eq_some_iff.1 h
  obtain ⟨i, hi, rfl⟩ := List.mem_iff_getElem.1 (List.mem_of_find?_eq_some he)
  have := szL_get szEntry (l := c.entries) (i := i) hi
  rw [List.getD_eq_getElem?_getD, List.getElem?_eq_getElem hi] at this
  simp only [Option.getD_some, szEntry] at this
  simp only [szCache]; omega
theorem fetch_sz (n : SNet) (t : ByteArray) (a : SAddr) (g : Bool) : szResponse (fetchNow n t a g).2 ≤ szNet n := by
  unfold fetchNow
  split
  · exact Nat.zero_le _
  split
  · rename_i h
    obtain ⟨x, hx⟩ := Option.isSome_iff_exists.1 h
    have := lookUp_sz hx
    rw [hx]
    simp only [Option.getD_some, szNet]; omega
  · have := answer_sz n.servers a
    simp only [szNet]; omega
def fStartLoad : Fct := ⟨[.v (.el .net), .v (.el .addr), .v (.sl .int)], [.el .loader, .el .bool], fun (x_ : SNet × SAddr × (List Int) × Unit) => szNet x_.1 ≤ 1048576 ∧ szAddr x_.2.1 ≤ 1048576 ∧ x_.2.2.1.length ≤ 1048576, fun (x_ : SNet × SAddr × (List Int) × Unit) => ((startLoad x_.1 x_.2.1 x_.2.2.1).1, (startLoad x_.1 x_.2.1 x_.2.2.1).2, ())⟩
theorem k6_170 : fStartLoad.ok Tryz.prog 6 := Fct.of (S := fStartLoad) (L := fun _ _ => none) (kp := [2,3,4,6,7,8,9,10,11,12,30,1000030]) E170ok Tryz.func6 (by kernel_rfl) (by kernel_rfl) (by
  rintro ⟨(n : SNet), (a : SAddr), (cs : List Int), _⟩ hp
  refine holds_of (X := .ob (fFetchNow.pre (n, a.host, a, false, ())) <|
 .lt (SNet × SResponse × PUnit) (fFetchNow.fn (n, a.host, a, false, ())) fun z2 =>
 .ob (fNewPage.pre (a, z2.snd.fst, ())) <|
  .lt (SPage × Bool × PUnit) (fNewPage.fn (a, z2.snd.fst, ())) fun z3 =>
  .br (!z3.snd.fst)
   (.leaf (.tup [(true, [.l Ty.server (z2.fst.servers), .l Ty.entry (z2.fst.cache.entries), .l Ty.sent (z2.fst.log), vi (z2.fst.now), vs ({ data := #[] : ByteArray }), vs ({ data := #[] : ByteArray }), vb (false), .nl, .nl, .nl, vs ({ data := #[] : ByteArray }), vs ({ data := #[] : ByteArray }), .nl, vb (false), .nl, .nl, .nl, .nl, .nl, vi ((0 : Int)), vi ((0 : Int)), vi ((0 : Int)), vi ((0 : Int)), .nl, .nl, vb (false), .nl, .nl, .nl]), (false, [vb (false)])]) [] [])
   (.ob (fCutText.pre (z2.snd.fst.body, cs, ())) <|
    .lt (List ByteArray × PUnit) (fCutText.fn (z2.snd.fst.body, cs, ())) fun z4 =>
    .leaf (.tup [(true, [.l Ty.server (z2.fst.servers), .l Ty.entry (z2.fst.cache.entries), .l Ty.sent (z2.fst.log), vi (z2.fst.now), vs (z3.fst.addr.host), vs (z3.fst.addr.path), vb (z3.fst.policy.set_), .l Ty.str (z3.fst.policy.scripts), .l Ty.str (z3.fst.policy.styles), .l Ty.str (z3.fst.policy.images), vs (z3.fst.policy.nonce), vs (z3.fst.tok.rest), .l Ty.token (z3.fst.queue), vb (z3.fst.ended), .l Ty.node (z3.fst.builder.nodes), .l Ty.int (z3.fst.builder.open_), .l Ty.slot (z3.fst.slots), .l Ty.module (z3.fst.mods), .l Ty.addr (z3.fst.entries), vi (z3.fst.block), vi (z3.fst.inline), vi (z3.fst.deferred), vi (z3.fst.entered), .l Ty.addr (z3.fst.ran), .l Ty.str (z3.fst.log), vb (z3.fst.loaded), .l Ty.str (z4.fst), .nl, .nl]), (false, [vb (true)])]) [] [])) (by kernel_rfl) ?_
  refine ob_i ?_ fun o1 => lt_e fun z2 ez2 => (ob_i ?_ fun o2 => lt_e fun z3 ez3 => (br_i (fun h3 => Fct.leafZ (⟨z2.fst, default, [], [], []⟩, false, ()) (by repeat' first | exact rfl | exact trivial | refine And.intro ?_ ?_) ?_) (fun h3 => ob_i ?_ fun o4 => lt_e fun z4 ez4 => (Fct.leafZ (⟨z2.fst, z3.fst, z4.fst, [], []⟩, true, ()) (by repeat' first | exact rfl | exact trivial | refine And.intro ?_ ?_) ?_))))
  all_goals subst_vars
  all_goals have hf := fetch_sz n a.host a false
  all_goals have hd : a.host.size ≤ szAddr a ∧ a.path.size ≤ szAddr a := ⟨Nat.le_add_right _ _, Nat.le_add_left _ _⟩
  all_goals have he : (fetchNow n a.host a false).2.body.size ≤ szResponse (fetchNow n a.host a false).2 ∧ (fetchNow n a.host a false).2.policy.size ≤ szResponse (fetchNow n a.host a false).2 := ⟨Nat.le_add_right _ _, Nat.le_add_left _ _⟩
  all_goals try simp only [std1, ne_eq] at *
  all_goals try simp only [fCutText, fFetchNow, fNewPage, fStartLoad, etaS, std1, std2, Nat.reduceAdd, ne_eq, startLoad, szNet, fFetchNow, fNewPage, fCutText] at *
  all_goals try simp (disch := omega) only [wrapId', toNat1] at *
  all_goals try simp (disch := omega) only [if_pos, if_neg]
  all_goals first | trivial | omega | grind [wrapId', toNat1, drop_cons, drop_end, good_len, maxLen, startLoad, szNet, fFetchNow, fNewPage, fCutText])
def E171 : D.Env := E170.add 6 fStartLoad
theorem E171ok : EOk Tryz.prog E171 := E170ok.add k6_170
theorem k10_171 : fStartLoad.ok Tryz.prog 10 := Fct.of (S := fStartLoad) (L := fun _ _ => none) (kp := [2,3,4,6,7,8,9,10,11,27,1000027]) E171ok Tryz.func10 (by kernel_rfl) (by kernel_rfl) (by
  rintro ⟨(n : SNet), (a : SAddr), (cs : List Int), _⟩ hp
  refine holds_of (X := .ob (fFetchNow.pre (n, a.host, a, false, ())) <|
 .lt (SNet × SResponse × PUnit) (fFetchNow.fn (n, a.host, a, false, ())) fun z2 =>
 .ob (fNewPage.pre (a, z2.snd.fst, ())) <|
  .lt (SPage × Bool × PUnit) (fNewPage.fn (a, z2.snd.fst, ())) fun z3 =>
  .br (!z3.snd.fst)
   (.leaf (.tup [(true, [.l Ty.server (z2.fst.servers), .l Ty.entry (z2.fst.cache.entries), .l Ty.sent (z2.fst.log), vi (z2.fst.now), vs ({ data := #[] : ByteArray }), vs ({ data := #[] : ByteArray }), vb (false), .nl, .nl, .nl, vs ({ data := #[] : ByteArray }), vs ({ data := #[] : ByteArray }), .nl, vb (false), .nl, .nl, .nl, .nl, .nl, vi ((0 : Int)), vi ((0 : Int)), vi ((0 : Int)), vi ((0 : Int)), .nl, .nl, vb (false), .nl, .nl, .nl]), (false, [vb (false)])]) [] [])
   (.ob (fCutText.pre (z2.snd.fst.body, cs, ())) <|
    .lt (List ByteArray × PUnit) (fCutText.fn (z2.snd.fst.body, cs, ())) fun z4 =>
    .leaf (.tup [(true, [.l Ty.server (z2.fst.servers), .l Ty.entry (z2.fst.cache.entries), .l Ty.sent (z2.fst.log), vi (z2.fst.now), vs (z3.fst.addr.host), vs (z3.fst.addr.path), vb (z3.fst.policy.set_), .l Ty.str (z3.fst.policy.scripts), .l Ty.str (z3.fst.policy.styles), .l Ty.str (z3.fst.policy.images), vs (z3.fst.policy.nonce), vs (z3.fst.tok.rest), .l Ty.token (z3.fst.queue), vb (z3.fst.ended), .l Ty.node (z3.fst.builder.nodes), .l Ty.int (z3.fst.builder.open_), .l Ty.slot (z3.fst.slots), .l Ty.module (z3.fst.mods), .l Ty.addr (z3.fst.entries), vi (z3.fst.block), vi (z3.fst.inline), vi (z3.fst.deferred), vi (z3.fst.entered), .l Ty.addr (z3.fst.ran), .l Ty.str (z3.fst.log), vb (z3.fst.loaded), .l Ty.str (z4.fst), .nl, .nl]), (false, [vb (true)])]) [] [])) (by kernel_rfl) ?_
  refine ob_i ?_ fun o1 => lt_e fun z2 ez2 => (ob_i ?_ fun o2 => lt_e fun z3 ez3 => (br_i (fun h3 => Fct.leafZ (⟨z2.fst, default, [], [], []⟩, false, ()) (by repeat' first | exact rfl | exact trivial | refine And.intro ?_ ?_) ?_) (fun h3 => ob_i ?_ fun o4 => lt_e fun z4 ez4 => (Fct.leafZ (⟨z2.fst, z3.fst, z4.fst, [], []⟩, true, ()) (by repeat' first | exact rfl | exact trivial | refine And.intro ?_ ?_) ?_))))
  all_goals subst_vars
  all_goals have hf := fetch_sz n a.host a false
  all_goals have hd : a.host.size ≤ szAddr a ∧ a.path.size ≤ szAddr a := ⟨Nat.le_add_right _ _, Nat.le_add_left _ _⟩
  all_goals have he : (fetchNow n a.host a false).2.body.size ≤ szResponse (fetchNow n a.host a false).2 ∧ (fetchNow n a.host a false).2.policy.size ≤ szResponse (fetchNow n a.host a false).2 := ⟨Nat.le_add_right _ _, Nat.le_add_left _ _⟩
  all_goals try simp only [std1, ne_eq] at *
  all_goals try simp only [fCutText, fFetchNow, fNewPage, fStartLoad, etaS, std1, std2, Nat.reduceAdd, ne_eq, startLoad, szNet, fFetchNow, fNewPage, fCutText] at *
  all_goals try simp (disch := omega) only [wrapId', toNat1] at *
  all_goals try simp (disch := omega) only [if_pos, if_neg]
  all_goals first | trivial | omega | grind [wrapId', toNat1, drop_cons, drop_end, good_len, maxLen, startLoad, szNet, fFetchNow, fNewPage, fCutText])
def E172 : D.Env := E171.add 10 fStartLoad
theorem E172ok : EOk Tryz.prog E172 := E171ok.add k10_171
theorem cutGo_mem (s : ByteArray) (cs : List Int) : ∀ (f : Nat) (i a : Int), ∀ x ∈ cutGo s cs f i a, szString x ≤ s.size
  | 0, i, a, x, h => by
    simp only [cutGo, List.mem_singleton] at h
    subst h
    simp only [szString, ByteArray.size_extract]; omega
  | f + 1, i, a, x, h => by
    simp only [cutGo] at h
    split at h
    · rcases List.mem_cons.1 h with rfl | h
      · simp only [szString, ByteArray.size_extract]; omega
      · exact cutGo_mem s cs f _ _ x h
    · exact cutGo_mem s cs f _ _ x h
theorem cutText_sz (s : ByteArray) (cs : List Int) : szL szString (cutText s cs) ≤ (s.size + 1) * 8 :=
  Nat.le_trans (szL_le (fun x hx => cutGo_mem s cs _ _ _ x hx)) (Nat.mul_le_mul_left _ (cutText_len s cs))
theorem parse_sz (s : ByteArray) : szPolicy (parsePolicy s).1 ≤ 4 * (s.size + 1) := by
  unfold parsePolicy
  split
  · have : szPolicy (default : SPolicy) = 0 := by decide
    simp only [this]; exact Nat.zero_le _
  split
  · unfold polCand
    exact pol_sz (by
      split
      · rw [ByteArray.size_extract]; have := spl_get 59 s 3; omega
      · exact Nat.zero_le _)
  · have : szPolicy (default : SPolicy) = 0 := by decide
    simp only [this]; exact Nat.zero_le _
theorem fetch_net_sz (n : SNet) (t : ByteArray) (a : SAddr) (g : Bool) : szNet (fetchNow n t a g).1 ≤ szNet n + (2 * t.size + 2 * szAddr a + szNet n + 30) := by
  have hl : szNet (logSent n t a g) ≤ szNet n + (t.size + szAddr a + 1) ∧ (logSent n t a g).cache = n.cache := by
    unfold logSent
    split
    · have := szL_snoc szSent n.log ⟨t, a, g⟩
      refine ⟨?_, rfl⟩
      simp only [szNet] at *
      rw [this]; simp only [szSent]; omega
    · exact ⟨by omega, rfl⟩
  have ha := answer_sz n.servers a
  have hn : szL szServer n.servers ≤ szNet n := by simp only [szNet]; omega
  unfold fetchNow
  split
  · simp only; omega
  split
  · simp only; omega
  split
  · simp only; omega
  · unfold keepAnswer
    split
    · have := store_sz (logSent n t a g).cache t a (answerTo n.servers a) (logSent n t a g).now
      simp only [szNet] at *; omega
    · simp only; omega
theorem newPage_sz (a : SAddr) (x : SResponse) : szPage (newPage a x).1 ≤ szAddr a + 4 * (x.policy.size + 1) + 20 := by
  unfold newPage
  split
  · have h1 := parse_sz x.policy
    have h2 : szBuilder newBuilder ≤ 20 := by decide
    have h3 : szPage ⟨a, (parsePolicy x.policy).1, default, [], false, newBuilder, [], [], [], 0, 0, 0, 0, [], [], false⟩ = szAddr a + szPolicy (parsePolicy x.policy).1 + 0 + 0 + szBuilder newBuilder + 0 + 0 + 0 + 0 + 0 := rfl
    simp only [h3]; omega
  · have : szPage (default : SPage) = 0 := by decide
    simp only [this]; omega
theorem startLoad_sz (n : SNet) (a : SAddr) (cs : List Int) : szLoader (startLoad n a cs).1 ≤ 20 * szNet n + 10 * szAddr a + 100 := by
  have h1 := fetch_net_sz n a.host a false
  have h2 := newPage_sz a (fetchNow n a.host a false).2
  have h3 := cutText_sz (fetchNow n a.host a false).2.body cs
  have h4 := fetch_sz n a.host a false
  have h5 : (fetchNow n a.host a false).2.body.size + (fetchNow n a.host a false).2.policy.size = szResponse (fetchNow n a.host a false).2 := rfl
  have h6 : a.host.size ≤ szAddr a := Nat.le_add_right _ _
  unfold startLoad
  split
  · have e : ∀ (x : SNet) (p : SPage) (l : List ByteArray), szLoader ⟨x, p, l, [], []⟩ = szNet x + szPage p + szL szString l + 0 + 0 := fun _ _ _ => rfl
    simp only [e]; omega
  · have e : ∀ (x : SNet), szLoader ⟨x, default, [], [], []⟩ = szNet x + szPage (default : SPage) + 0 + 0 + 0 := fun _ => rfl
    have : szPage (default : SPage) = 0 := by decide
    simp only [e, this]; omega
def lStartLoad : Fct := lawFS [.el .net, .el .addr, .sl .int]
set_option maxHeartbeats 2000000 in
theorem k3_172 : lStartLoad.ok Tryz.prog 3 := Fct.of (S := lStartLoad) (L := fun _ _ => none) (kp := [2,3,4,6,7,8,9,10,11,12,13,14,15,16,17,18,21,26,31,62,67,72,91,99,102,121,126,129,1000021,1000026,1000031,1000062,1000067,1000072,1000091,1000099,1000102,1000121,1000126,1000129]) E172ok Tryz.func3 (by kernel_rfl) (by kernel_rfl) (by
  rintro ⟨(n : SNet), (a : SAddr), (cs : List Int), _⟩ hp
  refine holds_of (X := .br (decide ((↑(List.length cs) : Int) > (1048576 : Int)))
 (.leaf (mkR lStartLoad.rs (true, ())) [] [])
 (.ob (fszNet.pre (n, (1048576 : Int), ())) <|
  .lt (Int × PUnit) (fszNet.fn (n, (1048576 : Int), ())) fun z2 =>
  .br (decide (z2.fst < (0 : Int)))
   (.leaf (mkR lStartLoad.rs (true, ())) [] [])
   (.ob (fszAddr.pre (a, z2.fst, ())) <|
    .lt (Int × PUnit) (fszAddr.fn (a, z2.fst, ())) fun z3 =>
    .br (decide (z3.fst < (0 : Int)))
     (.leaf (mkR lStartLoad.rs (true, ())) [] [])
     (.ob (ftoNet.pre (n, ())) <|
      .lt (SNet × PUnit) (ftoNet.fn (n, ())) fun z4 =>
      .ob (ftoAddr.pre (a, ())) <|
       .lt (SAddr × PUnit) (ftoAddr.fn (a, ())) fun z5 =>
       .ob (ftoIntS.pre (cs, ())) <|
        .lt (List Int × PUnit) (ftoIntS.fn (cs, ())) fun z6 =>
        .ob (fStartLoad.pre (z4.fst, z5.fst, z6.fst, ())) <|
         .lt (SLoader × Bool × PUnit) (fStartLoad.fn (z4.fst, z5.fst, z6.fst, ())) fun z7 =>
         .ob (ftoNet.pre (n, ())) <|
          .lt (SNet × PUnit) (ftoNet.fn (n, ())) fun z8 =>
          .ob (ftoIntS.pre (cs, ())) <|
           .lt (List Int × PUnit) (ftoIntS.fn (cs, ())) fun z9 =>
           .ob (ftoAddr.pre (a, ())) <|
            .lt (SAddr × PUnit) (ftoAddr.fn (a, ())) fun z10 =>
            .ob (fStartLoad.pre (z8.fst, z10.fst, z9.fst, ())) <|
             .lt (SLoader × Bool × PUnit) (fStartLoad.fn (z8.fst, z10.fst, z9.fst, ())) fun z11 =>
             .ob (feqLoader.pre (z11.fst, z7.fst, ())) <|
              .lt (Bool × PUnit) (feqLoader.fn (z11.fst, z7.fst, ())) fun z12 =>
              .br (!z12.fst)
               (.leaf (mkR lStartLoad.rs (false, ())) [] [])
               (.br (!z11.snd.fst == z7.snd.fst)
                (.leaf (mkR lStartLoad.rs (false, ())) [] [])
                (.ob (ftoNet.pre (n, ())) <|
                 .lt (SNet × PUnit) (ftoNet.fn (n, ())) fun z13 =>
                 .ob (feqNet.pre (z8.fst, z13.fst, ())) <|
                  .lt (Bool × PUnit) (feqNet.fn (z8.fst, z13.fst, ())) fun z14 =>
                  .br (!z14.fst)
                   (.leaf (mkR lStartLoad.rs (false, ())) [] [])
                   (.ob (ftoIntS.pre (cs, ())) <|
                    .lt (List Int × PUnit) (ftoIntS.fn (cs, ())) fun z15 =>
                    .ob (feqIntS.pre (z9.fst, z15.fst, ())) <|
                     .lt (Bool × PUnit) (feqIntS.fn (z9.fst, z15.fst, ())) fun z16 =>
                     .br (!z16.fst)
                      (.leaf (mkR lStartLoad.rs (false, ())) [] [])
                      (.ob (fmarkNet.pre z8.fst (1 : Int)) <|
                       .lt (SNet × Int) (fmarkNet.fn z8.fst (1 : Int)) fun z17 =>
                       .ob (fmarkIntS.pre z9.fst z17.snd) <|
                        .lt (List Int × Int) (fmarkIntS.fn z9.fst z17.snd) fun z18 =>
                        .br (decide (z18.snd < (0 : Int)))
                         (.leaf (mkR lStartLoad.rs (false, ())) [] [])
                         (.ob (feqLoader.pre (z11.fst, z7.fst, ())) <|
                          .lt (Bool × PUnit) (feqLoader.fn (z11.fst, z7.fst, ())) fun z19 =>
                          .br (!z19.fst)
                           (.leaf (mkR lStartLoad.rs (false, ())) [] [])
                           (.br (!z11.snd.fst == z7.snd.fst)
                            (.leaf (mkR lStartLoad.rs (false, ())) [] [])
                            (.ob (fmarkLoader.pre z11.fst (1 : Int)) <|
                             .lt (SLoader × Int) (fmarkLoader.fn z11.fst (1 : Int)) fun z20 =>
                             .ob (fheldLoader.pre ({ net := { servers := z20.fst.net.servers, cache := z20.fst.net.cache, log := z20.fst.net.log, now := z11.fst.net.now : SNet }, page := { addr := z11.fst.page.addr, policy := { set_ := z11.fst.page.policy.set_, scripts := z20.fst.page.policy.scripts, styles := z20.fst.page.policy.styles, images := z20.fst.page.policy.images, nonce := z11.fst.page.policy.nonce : SPolicy }, tok := z11.fst.page.tok, queue := z20.fst.page.queue, ended := z11.fst.page.ended, builder := z20.fst.page.builder, slots := z20.fst.page.slots, mods := z20.fst.page.mods, entries := z20.fst.page.entries, block := z11.fst.page.block, inline := z11.fst.page.inline, deferred := z11.fst.page.deferred, entered := z11.fst.page.entered, ran := z20.fst.page.ran, log := z20.fst.page.log, loaded := z11.fst.page.loaded : SPage }, parts := z20.fst.parts, conns := z20.fst.conns, guesses := z20.fst.guesses : SLoader }, (1 : Int), ())) <|
                              .lt (Int × PUnit) (fheldLoader.fn ({ net := { servers := z20.fst.net.servers, cache := z20.fst.net.cache, log := z20.fst.net.log, now := z11.fst.net.now : SNet }, page := { addr := z11.fst.page.addr, policy := { set_ := z11.fst.page.policy.set_, scripts := z20.fst.page.policy.scripts, styles := z20.fst.page.policy.styles, images := z20.fst.page.policy.images, nonce := z11.fst.page.policy.nonce : SPolicy }, tok := z11.fst.page.tok, queue := z20.fst.page.queue, ended := z11.fst.page.ended, builder := z20.fst.page.builder, slots := z20.fst.page.slots, mods := z20.fst.page.mods, entries := z20.fst.page.entries, block := z11.fst.page.block, inline := z11.fst.page.inline, deferred := z11.fst.page.deferred, entered := z11.fst.page.entered, ran := z20.fst.page.ran, log := z20.fst.page.log, loaded := z11.fst.page.loaded : SPage }, parts := z20.fst.parts, conns := z20.fst.conns, guesses := z20.fst.guesses : SLoader }, (1 : Int), ())) fun z21 =>
                              .br (decide (z21.fst < (0 : Int)))
                               (.leaf (mkR lStartLoad.rs (false, ())) [] [])
                               (.br (z21.fst != z20.snd)
                                (.leaf (mkR lStartLoad.rs (false, ())) [] [])
                                (.ob (ftoNet.pre (n, ())) <|
                                 .lt (SNet × PUnit) (ftoNet.fn (n, ())) fun z22 =>
                                 .ob (ftoAddr.pre (a, ())) <|
                                  .lt (SAddr × PUnit) (ftoAddr.fn (a, ())) fun z23 =>
                                  .ob (ftoIntS.pre (cs, ())) <|
                                   .lt (List Int × PUnit) (ftoIntS.fn (cs, ())) fun z24 =>
                                   .ob (fStartLoad.pre (z22.fst, z23.fst, z24.fst, ())) <|
                                    .lt (SLoader × Bool × PUnit) (fStartLoad.fn (z22.fst, z23.fst, z24.fst, ())) fun z25 =>
                                    .ob (feqLoader.pre (z25.fst, z7.fst, ())) <|
                                     .lt (Bool × PUnit) (feqLoader.fn (z25.fst, z7.fst, ())) fun z26 =>
                                     .br (!z26.fst)
                                      (.leaf (mkR lStartLoad.rs (false, ())) [] [])
                                      (.br (!z25.snd.fst == z7.snd.fst)
                                       (.leaf (mkR lStartLoad.rs (false, ())) [] [])
                                       (.ob (fheldLoader.pre ({ net := { servers := z20.fst.net.servers, cache := z20.fst.net.cache, log := z20.fst.net.log, now := z11.fst.net.now : SNet }, page := { addr := z11.fst.page.addr, policy := { set_ := z11.fst.page.policy.set_, scripts := z20.fst.page.policy.scripts, styles := z20.fst.page.policy.styles, images := z20.fst.page.policy.images, nonce := z11.fst.page.policy.nonce : SPolicy }, tok := z11.fst.page.tok, queue := z20.fst.page.queue, ended := z11.fst.page.ended, builder := z20.fst.page.builder, slots := z20.fst.page.slots, mods := z20.fst.page.mods, entries := z20.fst.page.entries, block := z11.fst.page.block, inline := z11.fst.page.inline, deferred := z11.fst.page.deferred, entered := z11.fst.page.entered, ran := z20.fst.page.ran, log := z20.fst.page.log, loaded := z11.fst.page.loaded : SPage }, parts := z20.fst.parts, conns := z20.fst.conns, guesses := z20.fst.guesses : SLoader }, (1 : Int), ())) <|
                                        .lt (Int × PUnit) (fheldLoader.fn ({ net := { servers := z20.fst.net.servers, cache := z20.fst.net.cache, log := z20.fst.net.log, now := z11.fst.net.now : SNet }, page := { addr := z11.fst.page.addr, policy := { set_ := z11.fst.page.policy.set_, scripts := z20.fst.page.policy.scripts, styles := z20.fst.page.policy.styles, images := z20.fst.page.policy.images, nonce := z11.fst.page.policy.nonce : SPolicy }, tok := z11.fst.page.tok, queue := z20.fst.page.queue, ended := z11.fst.page.ended, builder := z20.fst.page.builder, slots := z20.fst.page.slots, mods := z20.fst.page.mods, entries := z20.fst.page.entries, block := z11.fst.page.block, inline := z11.fst.page.inline, deferred := z11.fst.page.deferred, entered := z11.fst.page.entered, ran := z20.fst.page.ran, log := z20.fst.page.log, loaded := z11.fst.page.loaded : SPage }, parts := z20.fst.parts, conns := z20.fst.conns, guesses := z20.fst.guesses : SLoader }, (1 : Int), ())) fun z27 =>
                                        .br (decide (z27.fst < (0 : Int)))
                                         (.leaf (mkR lStartLoad.rs (false, ())) [] [])
                                         (.br (z27.fst != z20.snd)
                                          (.leaf (mkR lStartLoad.rs (false, ())) [] [])
                                          (.leaf (mkR lStartLoad.rs (true, ())) [] []))))))))))))))))) (by kernel_rfl) ?_
  refine br_i (fun h1 => Fct.leafY ?_) (fun h1 => ob_i ?_ fun o2 => lt_e fun z2 ez2 => (br_i (fun h3 => Fct.leafY ?_) (fun h3 => ob_i ?_ fun o4 => lt_e fun z3 ez3 => (br_i (fun h5 => Fct.leafY ?_) (fun h5 => ob_i ?_ fun o6 => lt_e fun z4 ez4 => (ob_i ?_ fun o7 => lt_e fun z5 ez5 => (ob_i ?_ fun o8 => lt_e fun z6 ez6 => (ob_i ?_ fun o9 => lt_e fun z7 ez7 => (ob_i ?_ fun o10 => lt_e fun z8 ez8 => (ob_i ?_ fun o11 => lt_e fun z9 ez9 => (ob_i ?_ fun o12 => lt_e fun z10 ez10 => (ob_i ?_ fun o13 => lt_e fun z11 ez11 => (ob_i ?_ fun o14 => lt_e fun z12 ez12 => (br_i (fun h15 => Fct.leafY ?_) (fun h15 => br_i (fun h16 => Fct.leafY ?_) (fun h16 => ob_i ?_ fun o17 => lt_e fun z13 ez13 => (ob_i ?_ fun o18 => lt_e fun z14 ez14 => (br_i (fun h19 => Fct.leafY ?_) (fun h19 => ob_i ?_ fun o20 => lt_e fun z15 ez15 => (ob_i ?_ fun o21 => lt_e fun z16 ez16 => (br_i (fun h22 => Fct.leafY ?_) (fun h22 => ob_i ?_ fun o23 => lt_e fun z17 ez17 => (ob_i ?_ fun o24 => lt_e fun z18 ez18 => (br_i (fun h25 => Fct.leafY ?_) (fun h25 => ob_i ?_ fun o26 => lt_e fun z19 ez19 => (br_i (fun h27 => Fct.leafY ?_) (fun h27 => br_i (fun h28 => Fct.leafY ?_) (fun h28 => ob_i ?_ fun o29 => lt_e fun z20 ez20 => (ob_i ?_ fun o30 => lt_e fun z21 ez21 => (br_i (fun h31 => Fct.leafY ?_) (fun h31 => br_i (fun h32 => Fct.leafY ?_) (fun h32 => ob_i ?_ fun o33 => lt_e fun z22 ez22 => (ob_i ?_ fun o34 => lt_e fun z23 ez23 => (ob_i ?_ fun o35 => lt_e fun z24 ez24 => (ob_i ?_ fun o36 => lt_e fun z25 ez25 => (ob_i ?_ fun o37 => lt_e fun z26 ez26 => (br_i (fun h38 => Fct.leafY ?_) (fun h38 => br_i (fun h39 => Fct.leafY ?_) (fun h39 => ob_i ?_ fun o40 => lt_e fun z27 ez27 => (br_i (fun h41 => Fct.leafY ?_) (fun h41 => br_i (fun h42 => Fct.leafY ?_) (fun h42 => Fct.leafY ?_))))))))))))))))))))))))))))))))))))))))))
  all_goals have hsz := startLoad_sz n a cs
  all_goals have hg0 : Sh.good (.el .net) n := hp.1
  all_goals have hg1 : Sh.good (.el .addr) a := hp.2.1
  all_goals have hg2 : Sh.good (.sl .int) cs := hp.2.2.1
  all_goals clear hp
  all_goals try have hbd0 := mvNet_bd z8.fst (1 : Int)
  all_goals try have hbd2 := mvLoader_bd z11.fst (1 : Int)
  all_goals subst_vars
  all_goals try simp only [std1, ne_eq] at *
  all_goals try simp only [fStartLoad, feqIntS, feqLoader, feqNet, fheldLoader, fmarkIntS, fmarkLoader, fmarkNet, fszAddr, fszNet, ftoAddr, ftoIntS, ftoNet, lStartLoad, etaS, std1, std2, Nat.reduceAdd, ne_eq, decide_true] at *
  all_goals try simp only [mkIntS_idem, mkIntS_ub] at *
  all_goals try simp only [mvLoader_re, mvNet_re] at *
  all_goals first | trivial | omega | grind [lessen])
def E173 : D.Env := E172.add 3 lStartLoad
theorem E173ok : EOk Tryz.prog E173 := E172ok.add k3_172
section
open Go.ChangeShapes Go.WideShapes Go.ChangeAt Go.RowKit
theorem own : ownKnob Tryz.prog.godebug = none := by kernel_rfl
theorem types : ∀ e t, tyOf e = some t → e ∈ ([3, 4, 5, 9, 25, 28, 30, 37, 40, 41, 44, 46, 50, 55, 59, 76, 102, 106, 114, 123, 139, 142, 157, 159, 164, 168, 174, 188, 192, 195, 204, 235] : List TypeId) := by
  intro e t h
  unfold tyOf at h
  split at h <;> first | (simp; done) | cases h
theorem lifted (os : Os) (started : os.Started) (H : Type) (enc : TypeId × Value → H) :
    ReturnsInHanded {} Tryz.checked os 3 .any (fun w args => (Rows.fnExactStartLoadSpec.pre enc Tryz.prog Tryz.f3 [] false w args ∧ laidMetH Tryz.prog [("unicode/utf8.acceptRanges", Rows.laid_unicode_utf8_acceptRanges), ("unicode/utf8.first", Rows.laid_unicode_utf8_first)] w) ∧ sizedMet enc Tryz.prog Tryz.f3 (OpenSpec.ofChange Rows.fnExactStartLoadSpec) false w args) (Rows.fnExactStartLoadSpec.post enc Tryz.prog Tryz.f3 false true false false) := by
  refine handed_shL (C := Tryz.checked) (X := fun w _ => laidMetH Tryz.prog [("unicode/utf8.acceptRanges", Rows.laid_unicode_utf8_acceptRanges), ("unicode/utf8.first", Rows.laid_unicode_utf8_first)] w) (fun _ _ _ hh h => h.of_heap hh) own started (by kernel_rfl) Tryz.func3
    (ChangeSpec.witness_shaped (enc := enc) (C := Tryz.checked) (os := os) (X := fun w _ => laidMetH Tryz.prog [("unicode/utf8.acceptRanges", Rows.laid_unicode_utf8_acceptRanges), ("unicode/utf8.first", Rows.laid_unicode_utf8_first)] w) false (World.laidAll Tryz.prog os [("unicode/utf8.acceptRanges", Rows.laid_unicode_utf8_acceptRanges), ("unicode/utf8.first", Rows.laid_unicode_utf8_first)]) #[.agg #[.slice none 0 0, .slice none 0 0, .slice none 0 0, .int .i64 0], .agg #[.string ⟨#[]⟩, .string ⟨#[]⟩], .slice none 0 0] 8 (World.laidAll_os _ _ _) (World.shaped_of_ZipB (by kernel_rfl) (by kernel_rfl)) (by kernel_rfl) (by kernel_rfl) (by kernel_rfl)
      (by rw [MakeChecks.laidMetH_plain _ _ _ (by kernel_rfl)]; exact laidMet_laidAll _ (by kernel_rfl) (by kernel_rfl))) ?_
  intro W base args ds gs before hval0 hW hsh hL
  have hval : ∀ (j : Nat) t v, Tryz.f3.params[j]? = some t → args[j]? = some v → Value.okWide Tryz.prog W .any base t v := hval0
  refine law_calls (show rowOk Tryz.prog Tryz.f3 tyOf [3, 4, 5, 9, 25, 28, 30, 37, 40, 41, 44, 46, 50, 55, 59, 76, 102, 106, 114, 123, 139, 142, 157, 159, 164, 168, 174, 188, 192, 195, 204, 235] [.el .net, .el .addr, .sl .int] = true by kernel_rfl) types rfl Tryz.underlying4 rfl hW (fun xs h => ?_) hval hsh (laid_none (by kernel_rfl) (by kernel_rfl) (by kernel_rfl)) k3_172
  · rw [Tryz.params3] at h
    match xs, (show xs.length = 3 from h) with
    | [x0, x1, x2], _ => rfl
set_option maxHeartbeats 0 in
theorem closed : joinedFacts Tryz.prog 3 Tryz.f3 Rows.fnExactStartLoadSpec Rows.fnExactStartLoadRow = true := by
  unfold joinedFacts
  refine (and_i (and_i (and_i (and_i (and_i (and_i (and_i (and_i (and_i (and_i (and_i (and_i (and_i (and_i (and_i (and_i (and_i (and_i (and_i (and_i (and_i (and_i (and_i (and_i (and_i (and_i (and_i (and_i (and_i (and_i (and_i ?_ ?_) ?_) ?_) ?_) ?_) ?_) ?_) ?_) ?_) ?_) ?_) ?_) ?_) ?_) ?_) ?_) ?_) ?_) ?_) ?_) ?_) ?_) ?_) ?_) ?_) ?_) ?_) ?_) ?_) ?_) ?_)
  all_goals decide +kernel
theorem over : Rows.fnExactStartLoadRow.holds Tryz.pinned (OpenSpec.ofChange Rows.fnExactStartLoadSpec) :=
  OpenClaim.holds_of_wide 3 Tryz.f3 rfl rfl rfl rfl rfl rfl rfl ⟨rfl, rfl, rfl, rfl, rfl⟩ rfl rfl rfl rfl rfl (by kernel_rfl) Tryz.func3 closed
    (of_decide_eq_true (by kernel_rfl)) (by unfold Func.isWrapper; first | (rw [if_pos (by decide +kernel)]; kernel_rfl) | (rw [if_neg (by decide +kernel)]; exact ⟨rfl, rfl⟩))
    (fun os started H enc _ => lifted os started H enc)
theorem proved : Rows.FnExactStartLoadCardSaid :=
  Claim7.holds_tied_plain_at .later [] [.data, .pinned] true (true, "2768a17cb93a29f19deac7def855307743be05ced85c49e15669d13b241426d0") false
    over (fun _ h => by cases h) (by kernel_rfl) (fun _ h => by cases h) fnExactStartLoad_row_tie rfl ⟨rfl, rfl⟩ (by kernel_rfl) rfl
    (fun f fn hf hfn => by
      obtain rfl : f = 3 := Option.some.inj ((show Tryz.prog.funcNamed "loop.example/g00586/laws.FnExactStartLoad" = some 3 by kernel_rfl).symm.trans hf) |>.symm
      obtain rfl : fn = Tryz.f3 := (Option.some.inj (Tryz.func3.symm.trans hfn)).symm
      exact ⟨by kernel_rfl, fun j t ht => by
        have hm := Array.mem_of_getElem? ht
        have hall : (Tryz.f3.params.toList.all fun u => !Tryz.prog.wantsStandIn u) = true := by kernel_rfl
        exact (show Tryz.prog.wantsStandIn t = false by simpa using List.all_eq_true.1 hall t (Array.mem_toList_iff.2 hm))⟩)
    (by kernel_rfl)
end
end Go.Proofs.YtbdeibnmmdhohaaGreatDoor.fnExactStartLoad
