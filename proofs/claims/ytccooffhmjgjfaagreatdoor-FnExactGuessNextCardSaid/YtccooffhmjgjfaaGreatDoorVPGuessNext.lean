/-
  The program's GuessNext returns what the reference's returns, for all arguments: the law returns true. No condition.
-/
import Derived.Test.YtccooffhmjgjfaaGreatDoorVPGuessNext2
import Derived.Test.YtccooffhmjgjfaaGreatDoorVLe
import Derived.Test.YtccooffhmjgjfaaGreatDoorRows
import Derived.Test.YtccooffhmjgjfaaGreatDoorCards
import Derived.Test.YtccooffhmjgjfaaGreatDoorTie
import Derived.LaidMore
import Derived.Lay
import Derived.SevenTiedAt
import Derived.WalkKit
import Derived.ProofKit
import Derived.OpenShut
namespace Go.Proofs.YtccooffhmjgjfaaGreatDoor.fnExactGuessNext
open Go.Proofs.YtccooffhmjgjfaaGreatDoor
open Go.D
set_option maxRecDepth 100000
set_option maxHeartbeats 2000000
set_option linter.unusedVariables false
set_option linter.unusedSimpArgs false
theorem k223_239 : fIsCache.ok Tryz.prog 223 := Fct.of (S := fIsCache) (L := fun ⟨c, _⟩ => fun | 2 => some (W_spec_IsCache_fIsCache_2 c) | _ => none) (kp := [1,2,3,4,9,48,1000009,1000048]) E239ok Tryz.func223 (by kernel_rfl) (by kernel_rfl) (by
  rintro ⟨(c : SCache), _⟩ hp
  refine ho (lpx (W_spec_IsCache_fIsCache_2 c) ((0 : Int), (c, ())) fun (y1 : Int × SCache × PUnit) bk1 => .br (decide (y1.1 < (↑y1.2.1.entries.length : Int))) (.ob (inB y1.1 y1.2.1.entries.length) <| .cl fIsName ((y1.2.1.entries.getD y1.1.toNat default).top, ()) fun z2 => .br (!z2.1) (.lf fIsCache (false, ())) (.cl fIsAddr ((y1.2.1.entries.getD y1.1.toNat default).to, ()) fun z3 => .br (!z3.1) (.lf fIsCache (false, ())) (.cl fIsResponse ((y1.2.1.entries.getD y1.1.toNat default).response, ()) fun z4 => .br (!z4.1) (.lf fIsCache (false, ())) (.br ((y1.2.1.entries.getD y1.1.toNat default).response.status != 200) (.lf fIsCache (false, ())) (.cl fFindEntry (y1.2.1, (y1.2.1.entries.getD y1.1.toNat default).top, (y1.2.1.entries.getD y1.1.toNat default).to, ()) fun z5 => .br (z5.1 != y1.1) (.lf fIsCache (false, ())) (.ob (bk1 (w1 y1.1, (y1.2.1, ()))) <| .ok)))))) (.lf fIsCache (decide ((↑y1.2.1.entries.length : Int) ≤ 100), ()))) ?_
  refine lpx_i ?_ fun (y1 : Int × SCache × PUnit) i1 => br_i (fun h2 => ob_i ?_ fun o3 => cl_i ?_ fun o4 => (br_i (fun h5 => lfY ?_) (fun h5 => cl_i ?_ fun o6 => (br_i (fun h7 => lfY ?_) (fun h7 => cl_i ?_ fun o8 => (br_i (fun h9 => lfY ?_) (fun h9 => br_i (fun h10 => lfY ?_) (fun h10 => cl_i ?_ fun o11 => (br_i (fun h12 => lfY ?_) (fun h12 => ob_i ?_ fun o13 => trivial)))))))))) (fun h2 => lfY ?_)
  all_goals
   have hl := szL_len szEntry c.entries
   have hg : ∀ i, i < c.entries.length → (c.entries.getD i default).top.size ≤ 200000000 ∧ (c.entries.getD i default).to.host.size ≤ 200000000 ∧ (c.entries.getD i default).to.path.size ≤ 200000000 ∧ (c.entries.getD i default).response.policy.size ≤ 200000000 := fun i h => by have := szEntry_get h; have hp2 : szCache c ≤ 200000000 := hp; simp only [szEntry, szCache, szAddr, szResponse] at *; omega
   try simp only [W_spec_IsCache_fIsCache_2, fFindEntry, fIsAddr, fIsCache, fIsName, fIsResponse, std, Nat.reduceAdd, isCache, fIsName, fIsAddr, fIsResponse, fFindEntry, szCache, entOk_at, entOk_end] at *
   try simp (disch := omega) only [wrapId', toNat1] at *
   try simp (disch := omega) only [if_pos, if_neg]
  all_goals first | trivial | omega | grind [wrapId', toNat1, drop_cons, drop_end, good_len, maxLen, isCache, fIsName, fIsAddr, fIsResponse, fFindEntry, szCache, entOk_at, entOk_end])
def E240 := E239.add 223 fIsCache
theorem E240ok : EOk Tryz.prog E240 := E239ok.add k223_239
def laysTrim_r : Go.Shelf.Ren := ⟨fun | 0 => 0 | 1 => 1 | 2 => 2 | 101 => 261 | 109 => 259 | 110 => 234 | 138 => 276 | 143 => 277 | 145 => 258 | 146 => 260 | 156 => 272 | 165 => 280 | 166 => 281 | 169 => 282 | 195 => 287 | 197 => 288 | 206 => 278 | 208 => 270 | 217 => 283 | 218 => 289 | 219 => 274 | 220 => 268 | 221 => 269 | 224 => 285 | 225 => 284 | 240 => 292 | 241 => 293 | 260 => 296 | 266 => 294 | 267 => 286 | 268 => 275 | 276 => 298 | 277 => 299 | 314 => 295 | 347 => 300 | 348 => 301 | 349 => 302 | 350 => 303 | 351 => 304 | 352 => 305 | 353 => 306 | 354 => 307 | 355 => 308 | 356 => 309 | 357 => 310 | 358 => 311 | 359 => 312 | 360 => 313 | 361 => 314 | 362 => 315 | 366 => 316 | 367 => 321 | _ => 0, fun | 0 => 0 | 1 => 1 | 2 => 2 | 3 => 3 | 4 => 4 | 5 => 5 | 6 => 6 | 7 => 7 | 8 => 8 | 9 => 9 | 10 => 10 | 11 => 11 | 12 => 12 | 13 => 13 | 14 => 14 | 15 => 15 | 16 => 16 | 17 => 17 | 18 => 18 | 19 => 19 | 20 => 20 | 21 => 21 | 22 => 336 | 23 => 326 | 24 => 281 | 27 => 334 | 28 => 38 | 30 => 207 | 31 => 31 | 32 => 323 | 33 => 286 | 34 => 261 | 37 => 269 | 46 => 348 | 51 => 354 | 55 => 346 | 59 => 321 | 60 => 322 | 61 => 324 | 67 => 332 | 70 => 337 | 71 => 338 | 72 => 339 | 73 => 340 | 74 => 341 | 75 => 342 | 76 => 343 | 77 => 344 | 80 => 345 | 81 => 370 | 83 => 193 | 101 => 104 | 102 => 99 | 103 => 349 | 104 => 229 | 105 => 350 | 106 => 351 | 113 => 331 | 114 => 347 | 119 => 361 | 127 => 353 | 137 => 362 | 138 => 363 | 139 => 364 | 146 => 355 | 150 => 335 | 151 => 356 | 164 => 358 | 165 => 359 | 166 => 360 | 238 => 365 | 239 => 366 | 240 => 367 | 241 => 368 | 242 => 369 | 243 => 371 | 244 => 372 | 245 => 373 | 246 => 374 | 247 => 375 | 248 => 376 | 249 => 377 | _ => 0, fun | 1 => 0 | 3 => 1 | 4 => 2 | _ => 0⟩
theorem laysTrim : Go.Proofs.Lays.n101 Tryz.prog laysTrim_r := ⟨by kernel_rfl, by kernel_rfl, by kernel_rfl, by kernel_rfl, by kernel_rfl, (fun _ => by kernel_rfl), (fun _ => by kernel_rfl), (fun _ => by kernel_rfl), by kernel_rfl, (fun _ => by kernel_rfl), (fun _ => by kernel_rfl), (fun _ => by kernel_rfl), by kernel_rfl, (fun _ => by kernel_rfl), (fun _ => by kernel_rfl), (fun _ => by kernel_rfl)⟩
theorem k261_240 : fTrimPrefix.ok Tryz.prog 261 :=
  trim_ok (Go.Proofs.Any.strings_TrimPrefix laysTrim)
def E241 : D.Env := E240.add 261 fTrimPrefix
theorem E241ok : EOk Tryz.prog E241 := E240ok.add k261_240
def laysSplit_r : Go.Shelf.Ren := ⟨fun | 0 => 0 | 1 => 1 | 2 => 2 | 101 => 261 | 109 => 259 | 110 => 234 | 138 => 276 | 143 => 277 | 145 => 258 | 146 => 260 | 156 => 272 | 165 => 280 | 166 => 281 | 169 => 282 | 195 => 287 | 197 => 288 | 206 => 278 | 208 => 270 | 217 => 283 | 218 => 289 | 219 => 274 | 220 => 268 | 221 => 269 | 224 => 285 | 225 => 284 | 240 => 292 | 241 => 293 | 260 => 296 | 266 => 294 | 267 => 286 | 268 => 275 | 276 => 298 | 277 => 299 | 314 => 295 | 347 => 300 | 348 => 301 | 349 => 302 | 350 => 303 | 351 => 304 | 352 => 305 | 353 => 306 | 354 => 307 | 355 => 308 | 356 => 309 | 357 => 310 | 358 => 311 | 359 => 312 | 360 => 313 | 361 => 314 | 362 => 315 | 366 => 316 | 367 => 321 | _ => 0, fun | 0 => 0 | 1 => 1 | 2 => 2 | 3 => 3 | 4 => 4 | 5 => 5 | 6 => 6 | 7 => 7 | 8 => 8 | 9 => 9 | 10 => 10 | 11 => 11 | 12 => 12 | 13 => 13 | 14 => 14 | 15 => 15 | 16 => 16 | 17 => 17 | 18 => 18 | 19 => 19 | 20 => 20 | 21 => 21 | 22 => 336 | 23 => 326 | 24 => 281 | 27 => 334 | 28 => 38 | 30 => 207 | 31 => 31 | 32 => 323 | 33 => 286 | 34 => 261 | 37 => 269 | 46 => 348 | 51 => 354 | 55 => 346 | 59 => 321 | 60 => 322 | 61 => 324 | 67 => 332 | 70 => 337 | 71 => 338 | 72 => 339 | 73 => 340 | 74 => 341 | 75 => 342 | 76 => 343 | 77 => 344 | 80 => 345 | 81 => 370 | 83 => 193 | 101 => 104 | 102 => 99 | 103 => 349 | 104 => 229 | 105 => 350 | 106 => 351 | 113 => 331 | 114 => 347 | 119 => 361 | 127 => 353 | 137 => 362 | 138 => 363 | 139 => 364 | 146 => 355 | 150 => 335 | 151 => 356 | 164 => 358 | 165 => 359 | 166 => 360 | 238 => 365 | 239 => 366 | 240 => 367 | 241 => 368 | 242 => 369 | 243 => 371 | 244 => 372 | 245 => 373 | 246 => 374 | 247 => 375 | 248 => 376 | 249 => 377 | _ => 0, fun | 1 => 0 | 3 => 1 | 4 => 2 | _ => 0⟩
theorem laysSplit : Go.Proofs.Lays.n146 Tryz.prog laysSplit_r := ⟨by kernel_rfl, by kernel_rfl, by kernel_rfl, by kernel_rfl, by kernel_rfl, by kernel_rfl, by kernel_rfl, by kernel_rfl, by kernel_rfl, by kernel_rfl, by kernel_rfl, by kernel_rfl, by kernel_rfl, by kernel_rfl, by kernel_rfl, by kernel_rfl, by kernel_rfl, by kernel_rfl, (fun _ => by kernel_rfl), (fun _ => by kernel_rfl), (fun _ => by kernel_rfl), by kernel_rfl, (fun _ => by kernel_rfl), (fun _ => by kernel_rfl), (fun _ => by kernel_rfl), by kernel_rfl, (fun _ => by kernel_rfl), (fun _ => by kernel_rfl), (fun _ => by kernel_rfl), by kernel_rfl, (fun _ => by kernel_rfl), (fun _ => by kernel_rfl), (fun _ => by kernel_rfl), by kernel_rfl, (fun _ => by kernel_rfl), (fun _ => by kernel_rfl), (fun _ => by kernel_rfl), by kernel_rfl, (fun _ => by kernel_rfl), (fun _ => by kernel_rfl), (fun _ => by kernel_rfl), by kernel_rfl, (fun _ => by kernel_rfl), (fun _ => by kernel_rfl), (fun _ => by kernel_rfl), by kernel_rfl, (fun _ => by kernel_rfl), (fun _ => by kernel_rfl), (fun _ => by kernel_rfl), by kernel_rfl, (fun _ => by kernel_rfl), (fun _ => by kernel_rfl), (fun _ => by kernel_rfl), by kernel_rfl, (fun _ => by kernel_rfl), (fun _ => by kernel_rfl), (fun _ => by kernel_rfl), by kernel_rfl, (fun _ => by kernel_rfl), (fun _ => by kernel_rfl), by kernel_rfl, (fun _ => by kernel_rfl), (fun _ => by kernel_rfl), (fun _ => by kernel_rfl), by kernel_rfl, (fun _ => by kernel_rfl), (fun _ => by kernel_rfl), (fun _ => by kernel_rfl), by kernel_rfl, (fun _ => by kernel_rfl), (fun _ => by kernel_rfl), (fun _ => by kernel_rfl), by kernel_rfl, by kernel_rfl, by kernel_rfl⟩
theorem k260_241 : fSplit.ok Tryz.prog 260 :=
  split_ok fun s sep w h hs h1 => by obtain ⟨m, hm⟩ := maxLen_cell (zero := #[.int .i64 0]) (t := 3) (g := laysSplit_r.g 1) h (of_decide_eq_true (by kernel_rfl)) (by kernel_rfl) rfl (by kernel_rfl) (by kernel_rfl) Tryz.underlying3; exact Go.Proofs.Any.strings_Split laysSplit (by kernel_rfl) s sep m w hs hm h1
def E242 : D.Env := E241.add 260 fSplit
theorem E242ok : EOk Tryz.prog E242 := E241ok.add k260_241
def laysJoin_r : Go.Shelf.Ren := ⟨fun | 0 => 0 | 1 => 1 | 2 => 2 | 101 => 261 | 109 => 259 | 110 => 234 | 138 => 276 | 143 => 277 | 145 => 258 | 146 => 260 | 156 => 272 | 165 => 280 | 166 => 281 | 169 => 282 | 195 => 287 | 197 => 288 | 206 => 278 | 208 => 270 | 217 => 283 | 218 => 289 | 219 => 274 | 220 => 268 | 221 => 269 | 224 => 285 | 225 => 284 | 240 => 292 | 241 => 293 | 260 => 296 | 266 => 294 | 267 => 286 | 268 => 275 | 276 => 298 | 277 => 299 | 314 => 295 | 347 => 300 | 348 => 301 | 349 => 302 | 350 => 303 | 351 => 304 | 352 => 305 | 353 => 306 | 354 => 307 | 355 => 308 | 356 => 309 | 357 => 310 | 358 => 311 | 359 => 312 | 360 => 313 | 361 => 314 | 362 => 315 | 366 => 316 | 367 => 321 | _ => 0, fun | 0 => 0 | 1 => 1 | 2 => 2 | 3 => 3 | 4 => 4 | 5 => 5 | 6 => 6 | 7 => 7 | 8 => 8 | 9 => 9 | 10 => 10 | 11 => 11 | 12 => 12 | 13 => 13 | 14 => 14 | 15 => 15 | 16 => 16 | 17 => 17 | 18 => 18 | 19 => 19 | 20 => 20 | 21 => 21 | 22 => 336 | 23 => 326 | 24 => 281 | 27 => 334 | 28 => 38 | 30 => 207 | 31 => 31 | 32 => 323 | 33 => 286 | 34 => 261 | 37 => 269 | 46 => 348 | 51 => 354 | 55 => 346 | 59 => 321 | 60 => 322 | 61 => 324 | 67 => 332 | 70 => 337 | 71 => 338 | 72 => 339 | 73 => 340 | 74 => 341 | 75 => 342 | 76 => 343 | 77 => 344 | 80 => 345 | 81 => 370 | 83 => 193 | 101 => 104 | 102 => 99 | 103 => 349 | 104 => 229 | 105 => 350 | 106 => 351 | 113 => 331 | 114 => 347 | 119 => 361 | 127 => 353 | 137 => 362 | 138 => 363 | 139 => 364 | 146 => 355 | 150 => 335 | 151 => 356 | 164 => 358 | 165 => 359 | 166 => 360 | 238 => 365 | 239 => 366 | 240 => 367 | 241 => 368 | 242 => 369 | 243 => 371 | 244 => 372 | 245 => 373 | 246 => 374 | 247 => 375 | 248 => 376 | 249 => 377 | _ => 0, fun | 1 => 0 | 3 => 1 | 4 => 2 | _ => 0⟩
theorem laysJoin : Go.Proofs.Lays.n156 Tryz.prog laysJoin_r := ⟨by kernel_rfl, by kernel_rfl, by kernel_rfl, by kernel_rfl, by kernel_rfl, by kernel_rfl, by kernel_rfl, by kernel_rfl, by kernel_rfl, by kernel_rfl, (fun _ => by kernel_rfl), (fun _ => by kernel_rfl), (fun _ => by kernel_rfl), by kernel_rfl, (fun _ => by kernel_rfl), (fun _ => by kernel_rfl), (fun _ => by kernel_rfl), by kernel_rfl, (fun _ => by kernel_rfl), (fun _ => by kernel_rfl), (fun _ => by kernel_rfl), by kernel_rfl, (fun _ => by kernel_rfl), (fun _ => by kernel_rfl), (fun _ => by kernel_rfl), by kernel_rfl, (fun _ => by kernel_rfl), (fun _ => by kernel_rfl), (fun _ => by kernel_rfl), by kernel_rfl, (fun _ => by kernel_rfl), (fun _ => by kernel_rfl), (fun _ => by kernel_rfl), by kernel_rfl, (fun _ => by kernel_rfl), (fun _ => by kernel_rfl), (fun _ => by kernel_rfl), by kernel_rfl, (fun _ => by kernel_rfl), (fun _ => by kernel_rfl), (fun _ => by kernel_rfl), by kernel_rfl, (fun _ => by kernel_rfl), (fun _ => by kernel_rfl), (fun _ => by kernel_rfl), by kernel_rfl, (fun _ => by kernel_rfl), (fun _ => by kernel_rfl), (fun _ => by kernel_rfl), by kernel_rfl, (fun _ => by kernel_rfl), (fun _ => by kernel_rfl), (fun _ => by kernel_rfl), by kernel_rfl, (fun _ => by kernel_rfl), (fun _ => by kernel_rfl), (fun _ => by kernel_rfl), by kernel_rfl, (fun _ => by kernel_rfl), (fun _ => by kernel_rfl), (fun _ => by kernel_rfl)⟩
theorem laysJoinX : Go.Proofs.Builder.Extra Tryz.prog laysJoin_r := ⟨⟨by kernel_rfl, by kernel_rfl⟩, by kernel_rfl, fun _ => by kernel_rfl, fun _ => by kernel_rfl, fun _ => by kernel_rfl, by kernel_rfl, by kernel_rfl, by kernel_rfl, by decide⟩
theorem k272_242 : fJoin.ok Tryz.prog 272 :=
  join_ok (fun _ _ => trivial) (Go.Proofs.Any.strings_Join_none laysJoin laysJoinX) (Go.Proofs.Any.strings_Join laysJoin laysJoinX)
def E243 : D.Env := E242.add 272 fJoin
theorem E243ok : EOk Tryz.prog E243 := E242ok.add k272_242
theorem joinL_cons (sep x : List UInt8) : ∀ l : List (List UInt8), joinL sep (x :: l) = x ++ (l.map (sep ++ ·)).flatten
  | [] => by simp [joinL]
  | y :: l => by rw [joinL, joinL_cons sep y l, List.map_cons, List.flatten_cons]; simp
theorem words9_toL : ∀ (l : List ByteArray) (w : ByteArray), toL (words9 w l) = toL w ++ (l.map fun x => 32 :: toL x).flatten
  | [], w => by simp [words9]
  | x :: l, w => by
    rw [words9, words9_toL l, toL_append, toL_append, List.map_cons, List.flatten_cons]
    simp [toL]
theorem joinS_words (w : ByteArray) (l : List ByteArray) : joinS (w :: l) ⟨#[32]⟩ = words9 w l := by
  unfold joinS
  rw [← ofL_toL (words9 w l), words9_toL, List.map_cons, joinL_cons, List.map_map]
  congr 2
theorem k262_243 : fFormatPolicy.ok Tryz.prog 262 := Fct.o [1,2,3,11,33,1000011,1000033] E243ok Tryz.func262 (by
  rintro ⟨(p : SPolicy), _⟩ hp
  refine ho (.cl fIsPolicy (p, ()) fun z2 => .br (!z2.1) (.lf fFormatPolicy ((⟨#[]⟩ : ByteArray), ())) (.br (!p.set_) (.lf fFormatPolicy ((⟨#[]⟩ : ByteArray), ())) (.ob (True) <| .ob (Room (1 + p.scripts.length) 16) <| .cl fJoin ([(⟨#[115, 99, 114, 105, 112, 116]⟩ : ByteArray)] ++ p.scripts, (⟨#[32]⟩ : ByteArray), ()) fun z3 => .ob (sameSize z3.1 (⟨#[59]⟩ : ByteArray)) <| .ob (True) <| .ob (Room (1 + p.styles.length) 16) <| .cl fJoin ([(⟨#[115, 116, 121, 108, 101]⟩ : ByteArray)] ++ p.styles, (⟨#[32]⟩ : ByteArray), ()) fun z4 => .ob (sameSize (z3.1 ++ (⟨#[59]⟩ : ByteArray)) z4.1) <| .ob (sameSize (z3.1 ++ (⟨#[59]⟩ : ByteArray) ++ z4.1) (⟨#[59]⟩ : ByteArray)) <| .ob (True) <| .ob (Room (1 + p.images.length) 16) <| .cl fJoin ([(⟨#[105, 109, 103]⟩ : ByteArray)] ++ p.images, (⟨#[32]⟩ : ByteArray), ()) fun z5 => .ob (sameSize (z3.1 ++ (⟨#[59]⟩ : ByteArray) ++ z4.1 ++ (⟨#[59]⟩ : ByteArray)) z5.1) <| .br (!p.nonce.toList == (⟨#[]⟩ : ByteArray).toList) (.ob (sameSize (⟨#[59, 110, 111, 110, 99, 101, 32]⟩ : ByteArray) p.nonce) <| .ob (sameSize (z3.1 ++ (⟨#[59]⟩ : ByteArray) ++ z4.1 ++ (⟨#[59]⟩ : ByteArray) ++ z5.1) ((⟨#[59, 110, 111, 110, 99, 101, 32]⟩ : ByteArray) ++ p.nonce)) <| .lf fFormatPolicy (z3.1 ++ (⟨#[59]⟩ : ByteArray) ++ z4.1 ++ (⟨#[59]⟩ : ByteArray) ++ z5.1 ++ ((⟨#[59, 110, 111, 110, 99, 101, 32]⟩ : ByteArray) ++ p.nonce), ())) (.lf fFormatPolicy (z3.1 ++ (⟨#[59]⟩ : ByteArray) ++ z4.1 ++ (⟨#[59]⟩ : ByteArray) ++ z5.1, ()))))) ?_
  refine cl_i ?_ fun o1 => (br_i (fun h2 => lfY ?_) (fun h2 => br_i (fun h3 => lfY ?_) (fun h3 => ob_i trivial fun _ => ob_i ?_ fun o4 => cl_i ?_ fun o5 => (ob_i ?_ fun o6 => ob_i trivial fun _ => ob_i ?_ fun o7 => cl_i ?_ fun o8 => (ob_i ?_ fun o9 => ob_i ?_ fun o10 => ob_i trivial fun _ => ob_i ?_ fun o11 => cl_i ?_ fun o12 => (ob_i ?_ fun o13 => br_i (fun h14 => ob_i ?_ fun o15 => ob_i ?_ fun o16 => lfY ?_) (fun h14 => lfY ?_)))))))
  all_goals try simp only [fFormatPolicy, fIsPolicy, fJoin, std, Nat.reduceAdd, fJoin, List.singleton_append, joinS_words] at *
  all_goals first | trivial | omega | skip
  all_goals try (have hA : isPolicy p = true := by assumption
                 have hB : p.set_ = true := by assumption
                 obtain ⟨a1, a2, a3, a4, a5, a6, a7⟩ := isPolicy_set hA hB)
  all_goals
   try have b1 := words9_sz (w := ⟨#[115, 99, 114, 105, 112, 116]⟩) a1 a2 (by decide)
   try have b2 := words9_sz (w := ⟨#[115, 116, 121, 108, 101]⟩) a3 a4 (by decide)
   try have b3 := words9_sz (w := ⟨#[105, 109, 103]⟩) a5 a6 (by decide)
   try simp only [fFormatPolicy, fIsPolicy, fJoin, std, Nat.reduceAdd, formatPolicy, sameSize, ByteArray.size_append, ByteArray.append_assoc] at *
   try simp (disch := omega) only [wrapId', toNat1] at *
   try simp (disch := omega) only [if_pos, if_neg]
  all_goals first | trivial | omega | grind [wrapId', toNat1, drop_cons, drop_end, good_len, maxLen, formatPolicy, sameSize, ByteArray.size_append, ByteArray.append_assoc])
def E244 := E243.add 262 fFormatPolicy
theorem E244ok : EOk Tryz.prog E244 := E243ok.add k262_243
theorem name_no {b : UInt8} (hb : nameByte b = false) {s : ByteArray} (h : isName s = true) : b ∉ toL s := by
  intro hm
  simp only [isName, Bool.and_eq_true, allB, List.all_eq_true] at h
  rw [h.1 b hm] at hb; cases hb
theorem words9_no {b : UInt8} (hb : nameByte b = false) (h32 : b ≠ 32) {l : List ByteArray} {w : ByteArray} (hl : l.all isName = true) (hw : b ∉ toL w) : b ∉ toL (words9 w l) := by
  rw [words9_toL]
  simp only [List.mem_append, not_or, List.mem_flatten, List.mem_map, not_exists, not_and]
  refine ⟨hw, ?_⟩
  rintro _ ⟨x, hx, rfl⟩ hm
  rcases List.mem_cons.1 hm with rfl | hm
  · exact h32 rfl
  · exact name_no hb (List.all_eq_true.1 hl x hx) hm
theorem value_no {b : UInt8} (hb : valByte b = false) {s : ByteArray} (h : isValue s = true) : b ∉ toL s := by
  intro hm
  simp only [isValue, Bool.and_eq_true, allB, List.all_eq_true] at h
  rw [h.1 b hm] at hb; cases hb
theorem spl_one {b : UInt8} {s : ByteArray} (h : b ∉ toL s) : spl b s = [s] := by
  unfold spl; rw [splL_none h]; simp [ofL_toL]
theorem spl_more {b : UInt8} {s t : ByteArray} (h : b ∉ toL s) : spl b (s ++ ⟨#[b]⟩ ++ t) = s :: spl b t := by
  unfold spl
  rw [toL_append, toL_append, show toL ⟨#[b]⟩ = [b] from rfl, List.append_assoc, List.singleton_append, splL_app _ h, List.map_cons, ofL_toL]
theorem format_spl {q : SPolicy} (hp : isPolicy q = true) (hs : q.set_ = true) : (q.nonce = ⟨#[]⟩ ∧ (spl 59 (formatPolicy q)).length = 3) ∨ (q.nonce ≠ ⟨#[]⟩ ∧ (spl 59 (formatPolicy q)).length = 4 ∧ (spl 59 (formatPolicy q)).getD 3 default = ⟨#[110, 111, 110, 99, 101, 32]⟩ ++ q.nonce) := by
  obtain ⟨a1, a2, a3, a4, a5, a6, a7⟩ := isPolicy_set hp hs
  have b1 := words9_no (b := 59) rfl (by decide) a1 (w := ⟨#[115, 99, 114, 105, 112, 116]⟩) (by decide)
  have b2 := words9_no (b := 59) rfl (by decide) a3 (w := ⟨#[115, 116, 121, 108, 101]⟩) (by decide)
  have b3 := words9_no (b := 59) rfl (by decide) a5 (w := ⟨#[105, 109, 103]⟩) (by decide)
  by_cases hn : q.nonce = ⟨#[]⟩
  · refine .inl ⟨hn, ?_⟩
    have e : formatPolicy q = words9 ⟨#[115, 99, 114, 105, 112, 116]⟩ q.scripts ++ ⟨#[59]⟩ ++ (words9 ⟨#[115, 116, 121, 108, 101]⟩ q.styles ++ ⟨#[59]⟩ ++ words9 ⟨#[105, 109, 103]⟩ q.images) := by
      unfold formatPolicy
      rw [if_pos (by simp [hp, hs]), if_pos hn]
      simp only [ByteArray.append_assoc]
    rw [e, spl_more b1, spl_more b2, spl_one b3]
    rfl
  · refine .inr ⟨hn, ?_⟩
    have hv : isValue q.nonce = true := by
      simp only [isPolicy, hs, if_true, Bool.and_eq_true, Bool.or_eq_true, decide_eq_true_eq] at hp
      exact hp.2.resolve_left hn
    have b4 : (59 : UInt8) ∉ toL (⟨#[110, 111, 110, 99, 101, 32]⟩ ++ q.nonce) := by
      rw [toL_append, List.mem_append, not_or]
      exact ⟨by decide, value_no rfl hv⟩
    have e : formatPolicy q = words9 ⟨#[115, 99, 114, 105, 112, 116]⟩ q.scripts ++ ⟨#[59]⟩ ++ (words9 ⟨#[115, 116, 121, 108, 101]⟩ q.styles ++ ⟨#[59]⟩ ++ (words9 ⟨#[105, 109, 103]⟩ q.images ++ ⟨#[59]⟩ ++ (⟨#[110, 111, 110, 99, 101, 32]⟩ ++ q.nonce))) := by
      unfold formatPolicy
      rw [if_pos (by simp [hp, hs]), if_neg hn]
      have : (⟨#[59, 110, 111, 110, 99, 101, 32]⟩ : ByteArray) = ⟨#[59]⟩ ++ ⟨#[110, 111, 110, 99, 101, 32]⟩ := by decide
      rw [this]
      simp only [ByteArray.append_assoc]
    rw [e, spl_more b1, spl_more b2, spl_more b3, spl_one b4]
    exact ⟨rfl, rfl⟩
def polCandI (s : ByteArray) : SPolicy := { polCand s with nonce := if 3 < (spl 59 s).length then trimP ((spl 59 s).getD 3 default) ⟨#[110, 111, 110, 99, 101, 32]⟩ else ⟨#[]⟩ }
theorem format_ne {q : SPolicy} {s : ByteArray} (h : formatPolicy q = s) (hs : s ≠ ⟨#[]⟩) : isPolicy q = true ∧ q.set_ = true := by
  unfold formatPolicy at h
  split at h
  · rename_i hc; simpa using hc
  · exact absurd h.symm hs
theorem trimP_app (n : ByteArray) : trimP (⟨#[110, 111, 110, 99, 101, 32]⟩ ++ n) ⟨#[110, 111, 110, 99, 101, 32]⟩ = n := by
  unfold trimP Go.Lib.trimPrefix Go.Lib.hasPrefix
  apply ByteArray.ext
  simp
theorem extr_app (n : ByteArray) : (⟨#[110, 111, 110, 99, 101, 32]⟩ ++ n : ByteArray).extract 6 (⟨#[110, 111, 110, 99, 101, 32]⟩ ++ n : ByteArray).size = n := by
  rw [← ofL_toL (ByteArray.extract _ _ _), toL_extract, toL_append, List.take_of_length_le (by rw [List.length_append, toL_len, toL_len, ByteArray.size_append]; exact Nat.le_refl _)]
  rw [show toL ⟨#[110, 111, 110, 99, 101, 32]⟩ = [110, 111, 110, 99, 101, 32] from rfl]
  simp only [List.cons_append, List.nil_append, List.drop_succ_cons, List.drop_zero, ofL_toL]
theorem cand_same {s : ByteArray} (hs : s ≠ ⟨#[]⟩) : (formatPolicy (polCandI s) = s ↔ formatPolicy (polCand s) = s) ∧ (formatPolicy (polCand s) = s → polCandI s = polCand s) := by
  have key : ∀ q : SPolicy, formatPolicy q = s → (3 < (spl 59 s).length → q.nonce = trimP ((spl 59 s).getD 3 default) ⟨#[110, 111, 110, 99, 101, 32]⟩ ∧ q.nonce = (if 3 < (spl 59 s).length ∧ 6 < ((spl 59 s).getD 3 default).size then ((spl 59 s).getD 3 default).extract 6 ((spl 59 s).getD 3 default).size else ⟨#[]⟩)) := by
    intro q hq hl
    obtain ⟨h1, h2⟩ := format_ne hq hs
    rcases format_spl h1 h2 with ⟨_, h3⟩ | ⟨h3, h4, h5⟩
    · rw [hq] at h3; omega
    · rw [hq] at h4 h5
      rw [h5, trimP_app]
      refine ⟨rfl, ?_⟩
      have hsz : 0 < q.nonce.size := by
        rcases Nat.eq_zero_or_pos q.nonce.size with h | h
        · exact absurd (ByteArray.ext (Array.eq_empty_of_size_eq_zero h)) h3
        · exact h
      rw [if_pos ⟨hl, by rw [ByteArray.size_append, show ByteArray.size ⟨#[110, 111, 110, 99, 101, 32]⟩ = 6 from rfl]; omega⟩, extr_app]
  have same : (formatPolicy (polCandI s) = s ∨ formatPolicy (polCand s) = s) → polCandI s = polCand s := by
    intro h
    by_cases hl : 3 < (spl 59 s).length
    · have hn : (polCandI s).nonce = (polCand s).nonce := by
        have e1 : (polCandI s).nonce = trimP ((spl 59 s).getD 3 default) ⟨#[110, 111, 110, 99, 101, 32]⟩ := by simp only [polCandI]; rw [if_pos hl]
        rcases h with h | h
        · exact (key _ h hl).2
        · rw [e1]; exact (key _ h hl).1.symm
      have e : polCandI s = { polCand s with nonce := (polCandI s).nonce } := rfl
      rw [e, hn]
    · have e : polCandI s = { polCand s with nonce := (polCandI s).nonce } := rfl
      have h1 : (polCandI s).nonce = ⟨#[]⟩ := by simp only [polCandI]; rw [if_neg hl]
      have h2 : (polCand s).nonce = ⟨#[]⟩ := by simp only [polCand]; rw [if_neg (fun hh => hl hh.1)]
      rw [e, h1, ← h2]
  exact ⟨⟨fun h => same (.inl h) ▸ h, fun h => (same (.inr h)).symm ▸ h⟩, fun h => same (.inr h)⟩
theorem parse_I {s : ByteArray} (h1 : s ≠ ⟨#[]⟩) (h3 : 3 ≤ (spl 59 s).length) {q : SPolicy} (hq : q = polCandI s) : (formatPolicy q ≠ s → parsePolicy s = (default, false)) ∧ (formatPolicy q = s → parsePolicy s = (q, true)) := by
  subst hq
  have hc := cand_same h1
  unfold parsePolicy
  rw [if_neg h1]
  refine ⟨fun h => ?_, fun h => ?_⟩
  · rw [if_neg]; rintro ⟨_, h4⟩; exact h (hc.1.2 h4)
  · have h4 := hc.1.1 h
    rw [if_pos ⟨h3, h4⟩, hc.2 h4]
theorem candI_a {s : ByteArray} (h : 3 < (spl 59 s).length) : (⟨true, (spl 32 ((spl 59 s).getD 0 default)).drop 1, (spl 32 ((spl 59 s).getD 1 default)).drop 1, (spl 32 ((spl 59 s).getD 2 default)).drop 1, trimP ((spl 59 s).getD 3 default) ⟨#[110, 111, 110, 99, 101, 32]⟩⟩ : SPolicy) = polCandI s := by
  unfold polCandI polCand; rw [if_pos h]
theorem candI_b {s : ByteArray} (h : ¬ 3 < (spl 59 s).length) : (⟨true, (spl 32 ((spl 59 s).getD 0 default)).drop 1, (spl 32 ((spl 59 s).getD 1 default)).drop 1, (spl 32 ((spl 59 s).getD 2 default)).drop 1, ⟨#[]⟩⟩ : SPolicy) = polCandI s := by
  unfold polCandI polCand; rw [if_neg h]
theorem trimP_size (s p : ByteArray) : (trimP s p).size ≤ s.size := by
  unfold trimP Go.Lib.trimPrefix
  rw [show ∀ l : List UInt8, ByteArray.size ⟨l.toArray⟩ = l.length from fun l => by simp [ByteArray.size]]
  split
  · rw [List.length_drop]; exact Nat.sub_le _ _
  · exact Nat.le_refl _
theorem k243_244 : fParsePolicy.ok Tryz.prog 243 := Fct.o [0,2,3,4,5,6,7,9,15,18,19,39,48,1000009,1000015,1000019,1000039,1000048,64000516,200000019] E244ok Tryz.func243 (by
  rintro ⟨(s : ByteArray), _⟩ hp
  refine ho (.br (ByteArray.toList s == (⟨#[]⟩ : ByteArray).toList) (.leaf (.tup [(true, [vb (false), .nl, .nl, .nl, vs ((⟨#[]⟩ : ByteArray))]), (false, [vb (true)])]) [] []) (.cl fSplit (s, (⟨#[59]⟩ : ByteArray), ()) fun z2 => .br (decide ((↑z2.1.length : Int) < 3)) (.leaf (.tup [(true, [vb (false), .nl, .nl, .nl, vs ((⟨#[]⟩ : ByteArray))]), (false, [vb (false)])]) [] []) (.ob ((0 : Int) ≤ (0 : Int) ∧ (0 : Int) < (↑z2.1.length : Int)) <| .ob (0 < z2.1.length) <| .cl fSplit (z2.1.getD 0 default, (⟨#[32]⟩ : ByteArray), ()) fun z3 => .ob ((0 : Int) ≤ (1 : Int) ∧ (1 : Int) ≤ (↑z3.1.length : Int)) <| .ob ((0 : Int) ≤ (0 : Int) ∧ (0 : Int) < (3 : Int)) <| .ob (1 + (z3.1.length - 1) ≤ z3.1.length) <| .ob ((0 : Int) ≤ (1 : Int) ∧ (1 : Int) < (↑z2.1.length : Int)) <| .ob (1 < z2.1.length) <| .cl fSplit (z2.1.getD 1 default, (⟨#[32]⟩ : ByteArray), ()) fun z4 => .ob ((0 : Int) ≤ (1 : Int) ∧ (1 : Int) ≤ (↑z4.1.length : Int)) <| .ob ((0 : Int) ≤ (1 : Int) ∧ (1 : Int) < (3 : Int)) <| .ob (1 + (z4.1.length - 1) ≤ z4.1.length) <| .ob ((0 : Int) ≤ (2 : Int) ∧ (2 : Int) < (↑z2.1.length : Int)) <| .ob (2 < z2.1.length) <| .cl fSplit (z2.1.getD 2 default, (⟨#[32]⟩ : ByteArray), ()) fun z5 => .ob ((0 : Int) ≤ (1 : Int) ∧ (1 : Int) ≤ (↑z5.1.length : Int)) <| .ob ((0 : Int) ≤ (2 : Int) ∧ (2 : Int) < (3 : Int)) <| .ob (1 + (z5.1.length - 1) ≤ z5.1.length) <| .ob ((0 : Int) ≤ (0 : Int) ∧ (0 : Int) < (3 : Int)) <| .ob ((0 : Int) ≤ (1 : Int) ∧ (1 : Int) < (3 : Int)) <| .ob ((0 : Int) ≤ (2 : Int) ∧ (2 : Int) < (3 : Int)) <| .br (decide ((↑z2.1.length : Int) > 3)) (.ob ((0 : Int) ≤ (3 : Int) ∧ (3 : Int) < (↑z2.1.length : Int)) <| .ob (3 < z2.1.length) <| .cl fTrimPrefix (z2.1.getD 3 default, (⟨#[110, 111, 110, 99, 101, 32]⟩ : ByteArray), ()) fun z6 => .cl fFormatPolicy ((⟨true, cut z3.1 1 (z3.1.length - 1), cut z4.1 1 (z4.1.length - 1), cut z5.1 1 (z5.1.length - 1), z6.1⟩ : SPolicy), ()) fun z7 => .br (!z7.1.toList == ByteArray.toList s) (.leaf (.tup [(true, [vb (false), .nl, .nl, .nl, vs ((⟨#[]⟩ : ByteArray))]), (false, [vb (false)])]) [] []) (.cl fCopyPolicy ((⟨true, cut z3.1 1 (z3.1.length - 1), cut z4.1 1 (z4.1.length - 1), cut z5.1 1 (z5.1.length - 1), z6.1⟩ : SPolicy), ()) fun z8 => .lf fParsePolicy (z8.1, true, ()))) (.cl fFormatPolicy ((⟨true, cut z3.1 1 (z3.1.length - 1), cut z4.1 1 (z4.1.length - 1), cut z5.1 1 (z5.1.length - 1), (⟨#[]⟩ : ByteArray)⟩ : SPolicy), ()) fun z9 => .br (!z9.1.toList == ByteArray.toList s) (.leaf (.tup [(true, [vb (false), .nl, .nl, .nl, vs ((⟨#[]⟩ : ByteArray))]), (false, [vb (false)])]) [] []) (.cl fCopyPolicy ((⟨true, cut z3.1 1 (z3.1.length - 1), cut z4.1 1 (z4.1.length - 1), cut z5.1 1 (z5.1.length - 1), (⟨#[]⟩ : ByteArray)⟩ : SPolicy), ()) fun z10 => .lf fParsePolicy (z10.1, true, ())))))) ?_
  refine br_i (fun h1 => Fct.leafZ (default, true, ()) (by repeat' first | exact rfl | exact trivial | refine And.intro ?_ ?_) ?_) (fun h1 => cl_i ?_ fun o2 => (br_i (fun h3 => Fct.leafZ (default, false, ()) (by repeat' first | exact rfl | exact trivial | refine And.intro ?_ ?_) ?_) (fun h3 => ob_i ?_ fun o4 => ob_i ?_ fun o5 => cl_i ?_ fun o6 => (ob_i ?_ fun o7 => ob_i ?_ fun o8 => ob_i ?_ fun o9 => ob_i ?_ fun o10 => ob_i ?_ fun o11 => cl_i ?_ fun o12 => (ob_i ?_ fun o13 => ob_i ?_ fun o14 => ob_i ?_ fun o15 => ob_i ?_ fun o16 => ob_i ?_ fun o17 => cl_i ?_ fun o18 => (ob_i ?_ fun o19 => ob_i ?_ fun o20 => ob_i ?_ fun o21 => ob_i ?_ fun o22 => ob_i ?_ fun o23 => ob_i ?_ fun o24 => br_i (fun h25 => ob_i ?_ fun o26 => ob_i ?_ fun o27 => cl_i trivial fun _ => (cl_i ?_ fun o28 => (br_i (fun h29 => Fct.leafZ (default, false, ()) (by repeat' first | exact rfl | exact trivial | refine And.intro ?_ ?_) ?_) (fun h29 => cl_i ?_ fun o30 => (lfY ?_))))) (fun h25 => cl_i ?_ fun o31 => (br_i (fun h32 => Fct.leafZ (default, false, ()) (by repeat' first | exact rfl | exact trivial | refine And.intro ?_ ?_) ?_) (fun h32 => cl_i ?_ fun o33 => (lfY ?_))))))))))
  all_goals
   try simp only [std0] at *
   try simp only [fCopyPolicy, fFormatPolicy, fParsePolicy, fSplit, fTrimPrefix, std, Nat.reduceAdd, fSplit, fTrimPrefix, cut_end] at *
   try simp only [show (ByteArray.mk #[59]).data.getD 0 0 = 59 from rfl, show (ByteArray.mk #[32]).data.getD 0 0 = 32 from rfl, show (ByteArray.mk #[59]).size = 1 from rfl, show (ByteArray.mk #[32]).size = 1 from rfl] at *
  all_goals
   have g0 := spl_get 59 s 0
   have g1 := spl_get 59 s 1
   have g2 := spl_get 59 s 2
   have g3 := spl_get 59 s 3
   have k0 := spl_len 32 ((spl 59 s).getD 0 default)
   have k1 := spl_len 32 ((spl 59 s).getD 1 default)
   have k2 := spl_len 32 ((spl 59 s).getD 2 default)
   have tz := trimP_size ((spl 59 s).getD 3 default) ⟨#[110, 111, 110, 99, 101, 32]⟩
  all_goals first | trivial | omega | (with_reducible refine Nat.le_trans (pol_sz (Nat.zero_le _)) ?_; omega) | (with_reducible refine Nat.le_trans (pol_sz ?_) ?_; omega; omega) | skip
  all_goals first | (simp only [parsePolicy]; rw [if_pos (by assumption)]; exact ⟨rfl, rfl⟩) | (simp only [parsePolicy]; rw [if_neg (by assumption), if_neg (by omega)]; exact ⟨rfl, rfl⟩) | skip
  all_goals first | (have hq := candI_a (s := s) (by omega)) | (have hq := candI_b (s := s) (by omega))
  all_goals obtain ⟨p1, p2⟩ := parse_I (by assumption) (by omega) hq
  all_goals first | (rw [p1 (by assumption)]; exact ⟨rfl, rfl⟩) | (rw [p2 (by assumption)]; exact ⟨rfl, rfl⟩))
def E245 := E244.add 243 fParsePolicy
theorem E245ok : EOk Tryz.prog E245 := E244ok.add k243_244
theorem k191_245 : fIsResponse.ok Tryz.prog 191 := Fct.o [1,2,4] E245ok Tryz.func191 (by
  rintro ⟨(x : SResponse), _⟩ hp
  refine ho (.cl fParsePolicy (x.policy, ()) fun z2 => .br (z2.2.1) (.cl fInRange (x.status, (100 : Int), (599 : Int), ()) fun z3 => .br (z3.1) (.cl fInRange (x.kind, (1 : Int), (5 : Int), ()) fun z4 => .br (z4.1) (.br (decide ((↑x.body.size : Int) ≤ 400)) (.cl fInRange (x.age, (0 : Int), (1000 : Int), ()) fun z5 => .lf fIsResponse (z5.1, ())) (.lf fIsResponse (false, ()))) (.lf fIsResponse (false, ()))) (.lf fIsResponse (false, ()))) (.lf fIsResponse (false, ()))) ?_
  refine cl_i ?_ fun o1 => (br_i (fun h2 => cl_i trivial fun _ => (br_i (fun h3 => cl_i trivial fun _ => (br_i (fun h4 => br_i (fun h5 => cl_i trivial fun _ => (lfY ?_)) (fun h5 => lfY ?_)) (fun h4 => lfY ?_))) (fun h3 => lfY ?_))) (fun h2 => lfY ?_))
  all_goals
   try simp only [fInRange, fIsResponse, fParsePolicy, std, Nat.reduceAdd, isResponse, fParsePolicy, fInRange] at *
   try simp (disch := omega) only [wrapId', toNat1] at *
   try simp (disch := omega) only [if_pos, if_neg]
  all_goals first | trivial | omega | grind [wrapId', toNat1, drop_cons, drop_end, good_len, maxLen, isResponse, fParsePolicy, fInRange])
def E246 := E245.add 191 fIsResponse
theorem E246ok : EOk Tryz.prog E246 := E245ok.add k191_245
abbrev W_impl_IsCache_fIsCache_2 (c : SCache) : LInv := ⟨[⟨.s, 8, true, .el .int⟩, ⟨.b, 1, false, .el .cache⟩], fun (z_ : Int × SCache × Unit) (x_ : Int × SCache × Unit) => (0 ≤ x_.1 ∧ x_.1 ≤ c.entries.length ∧ entOk c.entries (c.entries.drop x_.1.toNat) x_.1 = entOk c.entries c.entries 0) ∧ x_.2.1 = z_.2.1, fun (x_ : Int × SCache × Unit) => c.entries.length - x_.1.toNat⟩
theorem k245_246 : fIsCache.ok Tryz.prog 245 := Fct.of (S := fIsCache) (L := fun ⟨c, _⟩ => fun | 2 => some (W_impl_IsCache_fIsCache_2 c) | _ => none) (kp := [1,2,3,4,6,7,8,9,44,1000009,1000044]) E246ok Tryz.func245 (by kernel_rfl) (by kernel_rfl) (by
  rintro ⟨(c : SCache), _⟩ hp
  refine ho (lpx (W_impl_IsCache_fIsCache_2 c) ((0 : Int), (c, ())) fun (y1 : Int × SCache × PUnit) bk1 => .br (decide (y1.1 < (↑c.entries.length : Int))) (.ob (inB y1.1 c.entries.length) <| .cl fIsName ((c.entries.getD y1.1.toNat default).top, ()) fun z2 => .br (!z2.1) (.lf fIsCache (false, ())) (.cl fIsAddr ((c.entries.getD y1.1.toNat default).to, ()) fun z3 => .br (!z3.1) (.lf fIsCache (false, ())) (.cl fIsResponse ((c.entries.getD y1.1.toNat default).response, ()) fun z4 => .br (!z4.1) (.lf fIsCache (false, ())) (.br ((c.entries.getD y1.1.toNat default).response.status != 200) (.lf fIsCache (false, ())) (.cl fFindEntry (y1.2.1, (c.entries.getD y1.1.toNat default).top, (c.entries.getD y1.1.toNat default).to, ()) fun z5 => .br (z5.1 != y1.1) (.lf fIsCache (false, ())) (.ob (c.entries = c.entries) <| .ob (Value.int IntKind.i64 (↑c.entries.length : Int) = Value.int IntKind.i64 (↑c.entries.length : Int)) <| .ob (bk1 (w1 y1.1, (y1.2.1, ()))) <| .ok)))))) (.lf fIsCache (decide ((↑y1.2.1.entries.length : Int) ≤ 100), ()))) ?_
  refine lpx_i ?_ fun (y1 : Int × SCache × PUnit) i1 => br_i (fun h2 => ob_i ?_ fun o3 => cl_i ?_ fun o4 => (br_i (fun h5 => lfY ?_) (fun h5 => cl_i ?_ fun o6 => (br_i (fun h7 => lfY ?_) (fun h7 => cl_i ?_ fun o8 => (br_i (fun h9 => lfY ?_) (fun h9 => br_i (fun h10 => lfY ?_) (fun h10 => cl_i ?_ fun o11 => (br_i (fun h12 => lfY ?_) (fun h12 => ob_i rfl fun _ => ob_i rfl fun _ => ob_i ?_ fun o13 => trivial)))))))))) (fun h2 => lfY ?_)
  all_goals
   have hl := szL_len szEntry c.entries
   have hg : ∀ i, i < c.entries.length → (c.entries.getD i default).top.size ≤ 200000000 ∧ (c.entries.getD i default).to.host.size ≤ 200000000 ∧ (c.entries.getD i default).to.path.size ≤ 200000000 ∧ (c.entries.getD i default).response.policy.size ≤ 200000000 := fun i h => by have := szEntry_get h; have hp2 : szCache c ≤ 200000000 := hp; simp only [szEntry, szCache, szAddr, szResponse] at *; omega
   try simp only [W_impl_IsCache_fIsCache_2, fFindEntry, fIsAddr, fIsCache, fIsName, fIsResponse, std, Nat.reduceAdd, isCache, fIsName, fIsAddr, fIsResponse, fFindEntry, szCache, entOk_at, entOk_end] at *
   try simp (disch := omega) only [wrapId', toNat1] at *
   try simp (disch := omega) only [if_pos, if_neg]
  all_goals first | trivial | omega | grind [wrapId', toNat1, drop_cons, drop_end, good_len, maxLen, isCache, fIsName, fIsAddr, fIsResponse, fFindEntry, szCache, entOk_at, entOk_end])
def E247 := E246.add 245 fIsCache
theorem E247ok : EOk Tryz.prog E247 := E246ok.add k245_246
theorem szL_cons {α : Type} (f : α → Nat) (x : α) (l : List α) : szL f (x :: l) = f x + 1 + szL f l := by simp only [szL, List.map_cons, List.sum_cons, List.length_cons]; omega
theorem szL_snoc {α : Type} (f : α → Nat) (l : List α) (x : α) : szL f (l ++ [x]) = szL f l + (f x + 1) := by
  induction l with
  | nil => rw [List.nil_append, szL_cons]; simp [szL]
  | cons y l ih => rw [List.cons_append, szL_cons, szL_cons, ih]; omega
theorem szL_mod {α : Type} (f : α → Nat) (e : α) : ∀ (l : List α) (i : Nat), szL f (l.modify i fun _ => e) ≤ szL f l + (f e + 1)
  | [], i => by cases i <;> simp [List.modify, szL]
  | y :: l, 0 => by rw [List.modify_zero_cons, szL_cons, szL_cons]; omega
  | y :: l, i + 1 => by rw [List.modify_succ_cons, szL_cons, szL_cons]; have := szL_mod f e l i; omega
def putEntry (c : SCache) (e : SEntry) (i : Int) : SCache := if 0 ≤ i then ⟨c.entries.modify i.toNat fun _ => e⟩ else ⟨c.entries ++ [e]⟩
def entry (t : ByteArray) (a : SAddr) (x : SResponse) (now : Int) : SEntry := ⟨t, a, x, IntKind.i64.wrap (now + x.age)⟩
def storeEntry (c : SCache) (t : ByteArray) (a : SAddr) (x : SResponse) (now : Int) : SCache :=
  if x.age ≠ 0 ∧ inRange now 0 999999999000 = true ∧ isCache c = true ∧ isCache (putEntry c (entry t a x now) (fidx (fun e => decide (e.top = t) && decide (e.to = a)) c.entries 0)) = true then putEntry c (entry t a x now) (fidx (fun e => decide (e.top = t) && decide (e.to = a)) c.entries 0) else c
theorem entOk_resp {all : List SEntry} : ∀ {l : List SEntry} {k : Int}, entOk all l k = true → ∀ e ∈ l, isResponse e.response = true
  | [], _, _, e, he => by cases he
  | y :: l, k, h, e, he => by
    simp only [entOk, Bool.and_eq_true] at h
    rcases List.mem_cons.1 he with rfl | he
    · exact h.1.1.1.2
    · exact entOk_resp h.2 e he
theorem put_resp {c : SCache} {e : SEntry} {i : Int} (hi : i < c.entries.length) (h : isCache (putEntry c e i) = true) : isResponse e.response = true := by
  unfold isCache at h
  rw [Bool.and_eq_true] at h
  refine entOk_resp h.1 e ?_
  unfold putEntry
  split
  · rw [List.mem_iff_getElem?]
    exact ⟨i.toNat, by rw [List.getElem?_modify_eq, List.getElem?_eq_getElem (by omega)]; rfl⟩
  · simp
theorem store_sz (c : SCache) (t : ByteArray) (a : SAddr) (x : SResponse) (now : Int) : szCache (storeEntry c t a x now) ≤ szCache c + (t.size + szAddr a + szResponse x + 20) := by
  unfold storeEntry
  split
  · unfold putEntry
    split
    · have := szL_mod szEntry (entry t a x now) c.entries (fidx (fun e => decide (e.top = t) && decide (e.to = a)) c.entries 0).toNat
      simp only [szCache] at *
      simp only [szEntry, entry] at this ⊢; omega
    · simp only [szCache]
      rw [szL_snoc]
      simp only [szEntry, entry]; omega
  · omega
def fStoreEntry : Fct := ⟨[.v (.el .cache), .v (.el .str), .v (.el .addr), .v (.el .response), .v (.el .int)], [.el .cache], fun (x_ : SCache × ByteArray × SAddr × SResponse × Int × Unit) => szCache x_.1 ≤ 100000000 ∧ x_.2.1.size ≤ 10000000 ∧ szAddr x_.2.2.1 ≤ 10000000 ∧ szResponse x_.2.2.2.1 ≤ 10000000, fun (x_ : SCache × ByteArray × SAddr × SResponse × Int × Unit) => (storeEntry x_.1 x_.2.1 x_.2.2.1 x_.2.2.2.1 x_.2.2.2.2.1, ())⟩
theorem k164_247 : fStoreEntry.ok Tryz.prog 164 := Fct.o [1,4,5,7,8,10,11,12,13,33,48,62,1000033,1000048,1000062] E247ok Tryz.func164 (by
  rintro ⟨(c : SCache), (t : ByteArray), (a : SAddr), (x : SResponse), (now : Int), _⟩ hp
  refine ho (.cl fCopyCache (c, ()) fun z2 => .br (x.age == 0) (.lf fStoreEntry (z2.1, ())) (.cl fInRange (now, (0 : Int), (999999999000 : Int), ()) fun z3 => .br (!z3.1) (.lf fStoreEntry (z2.1, ())) (.cl fIsResponse (x, ()) fun z4 => .br (!z4.1) (.lf fStoreEntry (z2.1, ())) (.cl fIsCache (c, ()) fun z5 => .br (!z5.1) (.lf fStoreEntry (z2.1, ())) (.cl fFindEntry (c, t, a, ()) fun z6 => .br (decide (z6.1 ≥ 0)) (.ob (inB z6.1 z2.1.entries.length) <| .ob (z6.1.toNat < z2.1.entries.length) <| .lt (List SEntry) (z2.1.entries.modify z6.1.toNat fun z => (⟨t, a, x, wr (now + x.age)⟩ : SEntry)) fun z7 => .cl fIsCache ((⟨z7⟩ : SCache), ()) fun z8 => .br (!z8.1) (.cl fCopyCache (c, ()) fun z9 => .lf fStoreEntry (z9.1, ())) (.lf fStoreEntry (⟨z7⟩, ()))) (.ob (True) <| .ob (Room (z2.1.entries.length + [(⟨t, a, x, wr (now + x.age)⟩ : SEntry)].length) 120) <| .cl fIsCache ((⟨z2.1.entries ++ [(⟨t, a, x, wr (now + x.age)⟩ : SEntry)]⟩ : SCache), ()) fun z10 => .br (!z10.1) (.cl fCopyCache (c, ()) fun z11 => .lf fStoreEntry (z11.1, ())) (.lf fStoreEntry (⟨z2.1.entries ++ [(⟨t, a, x, wr (now + x.age)⟩ : SEntry)]⟩, ())))))))) ?_
  refine cl_i ?_ fun o1 => (br_i (fun h2 => lfY ?_) (fun h2 => cl_i trivial fun _ => (br_i (fun h3 => lfY ?_) (fun h3 => cl_i ?_ fun o4 => (br_i (fun h5 => lfY ?_) (fun h5 => cl_i ?_ fun o6 => (br_i (fun h7 => lfY ?_) (fun h7 => cl_i ?_ fun o8 => (br_i (fun h9 => ob_i ?_ fun o10 => ob_i ?_ fun o11 => lt_i (cl_i ?_ fun o12 => (br_i (fun h13 => cl_i ?_ fun o14 => (lfY ?_)) (fun h13 => lfY ?_)))) (fun h9 => ob_i trivial fun _ => ob_i ?_ fun o15 => cl_i ?_ fun o16 => (br_i (fun h17 => cl_i ?_ fun o18 => (lfY ?_)) (fun h17 => lfY ?_))))))))))))
  all_goals
   have hi := fidx_lt (fun e : SEntry => decide (e.top = t) && decide (e.to = a)) c.entries 0 (by omega)
   have hr := fun (i : Int) (h : i < c.entries.length) => put_resp (c := c) (e := entry t a x now) h
   have hm := fun i => szL_mod szEntry (entry t a x now) c.entries i
   have hs := szL_snoc szEntry c.entries (entry t a x now)
   have hz : szEntry (entry t a x now) ≤ 40000000 := by have hp2 : szCache c ≤ 100000000 ∧ t.size ≤ 10000000 ∧ szAddr a ≤ 10000000 ∧ szResponse x ≤ 10000000 := hp; simp only [szEntry, entry]; omega
   have hq : x.policy.size ≤ 10000000 := by have hp2 : szCache c ≤ 100000000 ∧ t.size ≤ 10000000 ∧ szAddr a ≤ 10000000 ∧ szResponse x ≤ 10000000 := hp; simp only [szResponse] at hp2; omega
   have hn := szL_len szEntry c.entries
   try simp only [fCopyCache, fFindEntry, fInRange, fIsCache, fIsResponse, fStoreEntry, std, Nat.reduceAdd, storeEntry, putEntry, entry, szCache, fIsCache, fIsResponse, fInRange, fFindEntry, fCopyCache] at *
   try simp (disch := omega) only [wrapId', toNat1] at *
   try simp (disch := omega) only [if_pos, if_neg]
  all_goals first | trivial | omega | grind [wrapId', toNat1, good_len, maxLen, storeEntry, putEntry, entry, szCache, fIsCache, fIsResponse, fInRange, fFindEntry, fCopyCache])
def E248 := E247.add 164 fStoreEntry
theorem E248ok : EOk Tryz.prog E248 := E247ok.add k164_247
theorem k192_248 : fStoreEntry.ok Tryz.prog 192 := Fct.o [1,4,5,7,8,10,11,12,13,29,58,1000029,1000058] E248ok Tryz.func192 (by
  rintro ⟨(c : SCache), (t : ByteArray), (a : SAddr), (x : SResponse), (now : Int), _⟩ hp
  refine ho (.cl fCopyCache (c, ()) fun z2 => .cl fFindEntry (c, t, a, ()) fun z3 => .br (decide (z3.1 ≥ 0)) (.ob (inB z3.1 z2.1.entries.length) <| .ob (z3.1.toNat < z2.1.entries.length) <| .lt (List SEntry) (z2.1.entries.modify z3.1.toNat fun z => (⟨t, a, x, wr (now + x.age)⟩ : SEntry)) fun z4 => .br (x.age == 0) (.cl fCopyCache (c, ()) fun z5 => .lf fStoreEntry (z5.1, ())) (.cl fInRange (now, (0 : Int), (999999999000 : Int), ()) fun z6 => .br (!z6.1) (.cl fCopyCache (c, ()) fun z7 => .lf fStoreEntry (z7.1, ())) (.cl fIsCache (c, ()) fun z8 => .br (!z8.1) (.cl fCopyCache (c, ()) fun z9 => .lf fStoreEntry (z9.1, ())) (.cl fIsCache ((⟨z4⟩ : SCache), ()) fun z10 => .br (!z10.1) (.cl fCopyCache (c, ()) fun z11 => .lf fStoreEntry (z11.1, ())) (.lf fStoreEntry (⟨z4⟩, ())))))) (.ob (True) <| .ob (Room (z2.1.entries.length + [(⟨t, a, x, wr (now + x.age)⟩ : SEntry)].length) 120) <| .br (x.age == 0) (.cl fCopyCache (c, ()) fun z12 => .lf fStoreEntry (z12.1, ())) (.cl fInRange (now, (0 : Int), (999999999000 : Int), ()) fun z13 => .br (!z13.1) (.cl fCopyCache (c, ()) fun z14 => .lf fStoreEntry (z14.1, ())) (.cl fIsCache (c, ()) fun z15 => .br (!z15.1) (.cl fCopyCache (c, ()) fun z16 => .lf fStoreEntry (z16.1, ())) (.cl fIsCache ((⟨z2.1.entries ++ [(⟨t, a, x, wr (now + x.age)⟩ : SEntry)]⟩ : SCache), ()) fun z17 => .br (!z17.1) (.cl fCopyCache (c, ()) fun z18 => .lf fStoreEntry (z18.1, ())) (.lf fStoreEntry (⟨z2.1.entries ++ [(⟨t, a, x, wr (now + x.age)⟩ : SEntry)]⟩, ()))))))) ?_
  refine cl_i ?_ fun o1 => (cl_i ?_ fun o2 => (br_i (fun h3 => ob_i ?_ fun o4 => ob_i ?_ fun o5 => lt_i (br_i (fun h6 => cl_i ?_ fun o7 => (lfY ?_)) (fun h6 => cl_i trivial fun _ => (br_i (fun h8 => cl_i ?_ fun o9 => (lfY ?_)) (fun h8 => cl_i ?_ fun o10 => (br_i (fun h11 => cl_i ?_ fun o12 => (lfY ?_)) (fun h11 => cl_i ?_ fun o13 => (br_i (fun h14 => cl_i ?_ fun o15 => (lfY ?_)) (fun h14 => lfY ?_))))))))) (fun h3 => ob_i trivial fun _ => ob_i ?_ fun o16 => br_i (fun h17 => cl_i ?_ fun o18 => (lfY ?_)) (fun h17 => cl_i trivial fun _ => (br_i (fun h19 => cl_i ?_ fun o20 => (lfY ?_)) (fun h19 => cl_i ?_ fun o21 => (br_i (fun h22 => cl_i ?_ fun o23 => (lfY ?_)) (fun h22 => cl_i ?_ fun o24 => (br_i (fun h25 => cl_i ?_ fun o26 => (lfY ?_)) (fun h25 => lfY ?_))))))))))
  all_goals
   have hi := fidx_lt (fun e : SEntry => decide (e.top = t) && decide (e.to = a)) c.entries 0 (by omega)
   have hr := fun (i : Int) (h : i < c.entries.length) => put_resp (c := c) (e := entry t a x now) h
   have hm := fun i => szL_mod szEntry (entry t a x now) c.entries i
   have hs := szL_snoc szEntry c.entries (entry t a x now)
   have hz : szEntry (entry t a x now) ≤ 40000000 := by have hp2 : szCache c ≤ 100000000 ∧ t.size ≤ 10000000 ∧ szAddr a ≤ 10000000 ∧ szResponse x ≤ 10000000 := hp; simp only [szEntry, entry]; omega
   have hq : x.policy.size ≤ 10000000 := by have hp2 : szCache c ≤ 100000000 ∧ t.size ≤ 10000000 ∧ szAddr a ≤ 10000000 ∧ szResponse x ≤ 10000000 := hp; simp only [szResponse] at hp2; omega
   have hn := szL_len szEntry c.entries
   try simp only [fCopyCache, fFindEntry, fInRange, fIsCache, fStoreEntry, std, Nat.reduceAdd, storeEntry, putEntry, entry, szCache, fIsCache, fIsResponse, fInRange, fFindEntry, fCopyCache] at *
   try simp (disch := omega) only [wrapId', toNat1] at *
   try simp (disch := omega) only [if_pos, if_neg]
  all_goals first | trivial | omega | grind [wrapId', toNat1, good_len, maxLen, storeEntry, putEntry, entry, szCache, fIsCache, fIsResponse, fInRange, fFindEntry, fCopyCache])
def E249 := E248.add 192 fStoreEntry
theorem E249ok : EOk Tryz.prog E249 := E248ok.add k192_248
def keepAnswer (n : SNet) (t : ByteArray) (a : SAddr) (x : SResponse) : SNet := if (lookUp n.cache t a n.now).isSome = false ∧ isResponse x = true ∧ x.status = 200 then { n with cache := storeEntry n.cache t a x n.now } else n
def fKeepAnswer : Fct := ⟨[.v (.el .net), .v (.el .str), .v (.el .addr), .v (.el .response)], [.el .net], fun (x_ : SNet × ByteArray × SAddr × SResponse × Unit) => szNet x_.1 ≤ 10000000000 ∧ szCache x_.1.cache ≤ 90000000 ∧ x_.2.1.size ≤ 10000000 ∧ szAddr x_.2.2.1 ≤ 10000000 ∧ szResponse x_.2.2.2.1 ≤ 10000000, fun (x_ : SNet × ByteArray × SAddr × SResponse × Unit) => (keepAnswer x_.1 x_.2.1 x_.2.2.1 x_.2.2.2.1, ())⟩
theorem k76_249 : fKeepAnswer.ok Tryz.prog 76 := Fct.o [1,4,6,7,8,9,11,34,1000034] E249ok Tryz.func76 (by
  rintro ⟨(n : SNet), (t : ByteArray), (a : SAddr), (x : SResponse), _⟩ hp
  refine ho (.cl fCopyNet (n, ()) fun z2 => .cl fLookUp (n.cache, t, a, n.now, ()) fun z3 => .br (!z3.2.1) (.cl fIsResponse (x, ()) fun z4 => .br (z4.1) (.br (x.status == 200) (.cl fStoreEntry (n.cache, t, a, x, n.now, ()) fun z5 => .lf fKeepAnswer (⟨z2.1.servers, z5.1, z2.1.log, z2.1.now⟩, ())) (.lf fKeepAnswer (z2.1, ()))) (.lf fKeepAnswer (z2.1, ()))) (.lf fKeepAnswer (z2.1, ()))) ?_
  refine cl_i ?_ fun o1 => (cl_i ?_ fun o2 => (br_i (fun h3 => cl_i ?_ fun o4 => (br_i (fun h5 => br_i (fun h6 => cl_i ?_ fun o7 => (lfY ?_)) (fun h6 => lfY ?_)) (fun h5 => lfY ?_))) (fun h3 => lfY ?_)))
  all_goals
   have hn := szL_len szEntry n.cache.entries
   have hc : szCache n.cache = szL szEntry n.cache.entries := rfl
   have hq : x.policy.size ≤ 10000000 := by have hp2 : szNet n ≤ 10000000000 ∧ szCache n.cache ≤ 90000000 ∧ t.size ≤ 10000000 ∧ szAddr a ≤ 10000000 ∧ szResponse x ≤ 10000000 := hp; simp only [szResponse] at hp2; omega
   try simp only [fCopyNet, fIsResponse, fKeepAnswer, fLookUp, fStoreEntry, std, Nat.reduceAdd, keepAnswer, fCopyNet, fLookUp, fIsResponse, fStoreEntry] at *
   try simp (disch := omega) only [wrapId', toNat1] at *
   try simp (disch := omega) only [if_pos, if_neg]
  all_goals first | trivial | omega | grind [wrapId', toNat1, drop_cons, drop_end, good_len, maxLen, keepAnswer, fCopyNet, fLookUp, fIsResponse, fStoreEntry])
def E250 := E249.add 76 fKeepAnswer
theorem E250ok : EOk Tryz.prog E250 := E249ok.add k76_249
theorem k108_250 : fKeepAnswer.ok Tryz.prog 108 := Fct.o [1,4,6,7,8,9,11,34,1000034] E250ok Tryz.func108 (by
  rintro ⟨(n : SNet), (t : ByteArray), (a : SAddr), (x : SResponse), _⟩ hp
  refine ho (.cl fCopyNet (n, ()) fun z2 => .cl fLookUp (n.cache, t, a, n.now, ()) fun z3 => .cl fIsResponse (x, ()) fun z4 => .br (z4.1) (.br (x.status == 200) (.br (!z3.2.1) (.cl fStoreEntry (z2.1.cache, t, a, x, n.now, ()) fun z5 => .lf fKeepAnswer (⟨z2.1.servers, z5.1, z2.1.log, z2.1.now⟩, ())) (.lf fKeepAnswer (z2.1, ()))) (.lf fKeepAnswer (z2.1, ()))) (.lf fKeepAnswer (z2.1, ()))) ?_
  refine cl_i ?_ fun o1 => (cl_i ?_ fun o2 => (cl_i ?_ fun o3 => (br_i (fun h4 => br_i (fun h5 => br_i (fun h6 => cl_i ?_ fun o7 => (lfY ?_)) (fun h6 => lfY ?_)) (fun h5 => lfY ?_)) (fun h4 => lfY ?_))))
  all_goals
   have hn := szL_len szEntry n.cache.entries
   have hc : szCache n.cache = szL szEntry n.cache.entries := rfl
   have hq : x.policy.size ≤ 10000000 := by have hp2 : szNet n ≤ 10000000000 ∧ szCache n.cache ≤ 90000000 ∧ t.size ≤ 10000000 ∧ szAddr a ≤ 10000000 ∧ szResponse x ≤ 10000000 := hp; simp only [szResponse] at hp2; omega
   try simp only [fCopyNet, fIsResponse, fKeepAnswer, fLookUp, fStoreEntry, std, Nat.reduceAdd, keepAnswer, fCopyNet, fLookUp, fIsResponse, fStoreEntry] at *
   try simp (disch := omega) only [wrapId', toNat1] at *
   try simp (disch := omega) only [if_pos, if_neg]
  all_goals first | trivial | omega | grind [wrapId', toNat1, drop_cons, drop_end, good_len, maxLen, keepAnswer, fCopyNet, fLookUp, fIsResponse, fStoreEntry])
def E251 := E250.add 108 fKeepAnswer
theorem E251ok : EOk Tryz.prog E251 := E250ok.add k108_250
def logSent (n : SNet) (t : ByteArray) (a : SAddr) (g : Bool) : SNet := if n.log.length < 400 then { n with log := n.log ++ [⟨t, a, g⟩] } else n
def fetchNow (n : SNet) (t : ByteArray) (a : SAddr) (g : Bool) : SNet × SResponse :=
  if (isName a.host && isName a.path) = false then (n, notFound)
  else if (lookUp n.cache t a n.now).isSome then (n, (lookUp n.cache t a n.now).getD notFound)
  else (if g then logSent n t a g else keepAnswer (logSent n t a g) t a (answerTo n.servers a), answerTo n.servers a)
theorem answer_sz (l : List SServer) (a : SAddr) : szResponse (answerTo l a) ≤ szL szServer l := by
  unfold answerTo
  split
  · exact Nat.zero_le _
  split
  · exact Nat.zero_le _
  · rename_i h1 h2
    have h3 := fidx_lt (fun s : SServer => decide (s.host = a.host)) l 0 (by omega)
    have h4 := szL_get szServer (l := l) (i := (fidx (fun s => decide (s.host = a.host)) l 0).toNat) (by omega)
    have h5 := fidx_lt (fun f : SFile => decide (f.path = a.path)) (l.getD (fidx (fun s => decide (s.host = a.host)) l 0).toNat default).files 0 (by omega)
    have h6 := szL_get szFile (l := (l.getD (fidx (fun s => decide (s.host = a.host)) l 0).toNat default).files) (i := (fidx (fun f : SFile => decide (f.path = a.path)) (l.getD (fidx (fun s => decide (s.host = a.host)) l 0).toNat default).files 0).toNat) (by omega)
    simp only [szServer, szFile] at h4 h6
    omega
def fFetchNow : Fct := ⟨[.v (.el .net), .v (.el .str), .v (.el .addr), .v (.el .bool)], [.el .net, .el .response], fun (x_ : SNet × ByteArray × SAddr × Bool × Unit) => szNet x_.1 ≤ 9000000000 ∧ szCache x_.1.cache ≤ 90000000 ∧ szL szServer x_.1.servers ≤ 10000000 ∧ x_.2.1.size ≤ 10000000 ∧ szAddr x_.2.2.1 ≤ 10000000, fun (x_ : SNet × ByteArray × SAddr × Bool × Unit) => ((fetchNow x_.1 x_.2.1 x_.2.2.1 x_.2.2.2.1).1, (fetchNow x_.1 x_.2.1 x_.2.2.1 x_.2.2.2.1).2, ())⟩
theorem k22_251 : fFetchNow.ok Tryz.prog 22 := Fct.o [1,3,4,6,8,9,10,11,12,13,18,31,41,52,1000018,1000031,1000041,1000052] E251ok Tryz.func22 (by
  rintro ⟨(n : SNet), (t : ByteArray), (a : SAddr), (g : Bool), _⟩ hp
  refine ho (.cl fCopyNet (n, ()) fun z2 => .cl fIsAddr (a, ()) fun z3 => .br (!z3.1) (.cl fNotFound () fun z4 => .lf fFetchNow (z2.1, z4.1, ())) (.cl fLookUp (n.cache, t, a, n.now, ()) fun z5 => .br (z5.2.1) (.lp (Bool) (True) (fun x => True) fun y6 => .br (y6) (.lf fFetchNow (z2.1, z5.1, ())) (.lf fFetchNow (z2.1, z5.1, ()))) (.cl fAnswerTo (n.servers, a, ()) fun z6 => .br (decide ((↑n.log.length : Int) < 400)) (.ob (True) <| .ob (Room (z2.1.log.length + [(⟨t, a, g⟩ : SSent)].length) 56) <| .br (!g) (.cl fKeepAnswer ((⟨z2.1.servers, z2.1.cache, z2.1.log ++ [(⟨t, a, g⟩ : SSent)], z2.1.now⟩ : SNet), t, a, z6.1, ()) fun z7 => .lp (Bool) (True) (fun x => True) fun y13 => .br (y13) (.lf fFetchNow (z7.1, z6.1, ())) (.lf fFetchNow (z7.1, z6.1, ()))) (.lp (Bool) (True) (fun x => True) fun y15 => .br (y15) (.lf fFetchNow (⟨z2.1.servers, z2.1.cache, z2.1.log ++ [(⟨t, a, g⟩ : SSent)], z2.1.now⟩, z6.1, ())) (.lf fFetchNow (⟨z2.1.servers, z2.1.cache, z2.1.log ++ [(⟨t, a, g⟩ : SSent)], z2.1.now⟩, z6.1, ())))) (.br (!g) (.cl fKeepAnswer (z2.1, t, a, z6.1, ()) fun z8 => .lp (Bool) (True) (fun x => True) fun y19 => .br (y19) (.lf fFetchNow (z8.1, z6.1, ())) (.lf fFetchNow (z8.1, z6.1, ()))) (.lp (Bool) (True) (fun x => True) fun y21 => .br (y21) (.lf fFetchNow (z2.1, z6.1, ())) (.lf fFetchNow (z2.1, z6.1, ()))))))) ?_
  refine cl_i ?_ fun o1 => (cl_i ?_ fun o2 => (br_i (fun h3 => cl_i trivial fun _ => (lfY ?_)) (fun h3 => cl_i ?_ fun o4 => (br_i (fun h5 => lp_i trivial fun y6 i6 => br_i (fun h7 => lfY ?_) (fun h7 => lfY ?_)) (fun h5 => cl_i ?_ fun o8 => (br_i (fun h9 => ob_i trivial fun _ => ob_i ?_ fun o10 => br_i (fun h11 => cl_i ?_ fun o12 => (lp_i trivial fun y13 i13 => br_i (fun h14 => lfY ?_) (fun h14 => lfY ?_))) (fun h11 => lp_i trivial fun y15 i15 => br_i (fun h16 => lfY ?_) (fun h16 => lfY ?_))) (fun h9 => br_i (fun h17 => cl_i ?_ fun o18 => (lp_i trivial fun y19 i19 => br_i (fun h20 => lfY ?_) (fun h20 => lfY ?_))) (fun h17 => lp_i trivial fun y21 i21 => br_i (fun h22 => lfY ?_) (fun h22 => lfY ?_)))))))))
  all_goals
   have hn := szL_len szEntry n.cache.entries
   have hc : szCache n.cache = szL szEntry n.cache.entries := rfl
   have ha := answer_sz n.servers a
   have hs := szL_snoc szSent n.log ⟨t, a, g⟩
   have hs2 : szSent ⟨t, a, g⟩ = t.size + szAddr a := rfl
   have hd : a.host.size ≤ szAddr a ∧ a.path.size ≤ szAddr a := ⟨Nat.le_add_right _ _, Nat.le_add_left _ _⟩
   have hl := szL_len szSent n.log
   try simp only [fAnswerTo, fCopyNet, fFetchNow, fIsAddr, fKeepAnswer, fLookUp, fNotFound, std, Nat.reduceAdd, fetchNow, logSent, szNet, fCopyNet, fLookUp, fIsAddr, fKeepAnswer, fAnswerTo, fNotFound] at *
   try simp (disch := omega) only [wrapId', toNat1] at *
   try simp (disch := omega) only [if_pos, if_neg]
  all_goals first | trivial | omega | grind [wrapId', toNat1, drop_cons, drop_end, good_len, maxLen, fetchNow, logSent, szNet, fCopyNet, fLookUp, fIsAddr, fKeepAnswer, fAnswerTo, fNotFound])
def E252 := E251.add 22 fFetchNow
theorem E252ok : EOk Tryz.prog E252 := E251ok.add k22_251
theorem k35_252 : fFetchNow.ok Tryz.prog 35 := Fct.o [1,3,4,6,8,9,10,11,12,13,18,31,41,52,1000018,1000031,1000041,1000052] E252ok Tryz.func35 (by
  rintro ⟨(n : SNet), (t : ByteArray), (a : SAddr), (g : Bool), _⟩ hp
  refine ho (.cl fCopyNet (n, ()) fun z2 => .cl fIsAddr (a, ()) fun z3 => .br (!z3.1) (.cl fNotFound () fun z4 => .lf fFetchNow (z2.1, z4.1, ())) (.cl fLookUp (n.cache, t, a, n.now, ()) fun z5 => .br (z5.2.1) (.lp (Bool) (True) (fun x => True) fun y6 => .br (y6) (.lf fFetchNow (z2.1, z5.1, ())) (.lf fFetchNow (z2.1, z5.1, ()))) (.cl fAnswerTo (n.servers, a, ()) fun z6 => .br (decide ((↑z2.1.log.length : Int) < 400)) (.ob (True) <| .ob (Room (z2.1.log.length + [(⟨t, a, g⟩ : SSent)].length) 56) <| .br (!g) (.cl fKeepAnswer ((⟨z2.1.servers, z2.1.cache, z2.1.log ++ [(⟨t, a, g⟩ : SSent)], z2.1.now⟩ : SNet), t, a, z6.1, ()) fun z7 => .lp (Bool) (True) (fun x => True) fun y13 => .br (y13) (.lf fFetchNow (z7.1, z6.1, ())) (.lf fFetchNow (z7.1, z6.1, ()))) (.lp (Bool) (True) (fun x => True) fun y15 => .br (y15) (.lf fFetchNow (⟨z2.1.servers, z2.1.cache, z2.1.log ++ [(⟨t, a, g⟩ : SSent)], z2.1.now⟩, z6.1, ())) (.lf fFetchNow (⟨z2.1.servers, z2.1.cache, z2.1.log ++ [(⟨t, a, g⟩ : SSent)], z2.1.now⟩, z6.1, ())))) (.br (!g) (.cl fKeepAnswer (z2.1, t, a, z6.1, ()) fun z8 => .lp (Bool) (True) (fun x => True) fun y19 => .br (y19) (.lf fFetchNow (z8.1, z6.1, ())) (.lf fFetchNow (z8.1, z6.1, ()))) (.lp (Bool) (True) (fun x => True) fun y21 => .br (y21) (.lf fFetchNow (z2.1, z6.1, ())) (.lf fFetchNow (z2.1, z6.1, ()))))))) ?_
  refine cl_i ?_ fun o1 => (cl_i ?_ fun o2 => (br_i (fun h3 => cl_i trivial fun _ => (lfY ?_)) (fun h3 => cl_i ?_ fun o4 => (br_i (fun h5 => lp_i trivial fun y6 i6 => br_i (fun h7 => lfY ?_) (fun h7 => lfY ?_)) (fun h5 => cl_i ?_ fun o8 => (br_i (fun h9 => ob_i trivial fun _ => ob_i ?_ fun o10 => br_i (fun h11 => cl_i ?_ fun o12 => (lp_i trivial fun y13 i13 => br_i (fun h14 => lfY ?_) (fun h14 => lfY ?_))) (fun h11 => lp_i trivial fun y15 i15 => br_i (fun h16 => lfY ?_) (fun h16 => lfY ?_))) (fun h9 => br_i (fun h17 => cl_i ?_ fun o18 => (lp_i trivial fun y19 i19 => br_i (fun h20 => lfY ?_) (fun h20 => lfY ?_))) (fun h17 => lp_i trivial fun y21 i21 => br_i (fun h22 => lfY ?_) (fun h22 => lfY ?_)))))))))
  all_goals
   have hn := szL_len szEntry n.cache.entries
   have hc : szCache n.cache = szL szEntry n.cache.entries := rfl
   have ha := answer_sz n.servers a
   have hs := szL_snoc szSent n.log ⟨t, a, g⟩
   have hs2 : szSent ⟨t, a, g⟩ = t.size + szAddr a := rfl
   have hd : a.host.size ≤ szAddr a ∧ a.path.size ≤ szAddr a := ⟨Nat.le_add_right _ _, Nat.le_add_left _ _⟩
   have hl := szL_len szSent n.log
   try simp only [fAnswerTo, fCopyNet, fFetchNow, fIsAddr, fKeepAnswer, fLookUp, fNotFound, std, Nat.reduceAdd, fetchNow, logSent, szNet, fCopyNet, fLookUp, fIsAddr, fKeepAnswer, fAnswerTo, fNotFound] at *
   try simp (disch := omega) only [wrapId', toNat1] at *
   try simp (disch := omega) only [if_pos, if_neg]
  all_goals first | trivial | omega | grind [wrapId', toNat1, drop_cons, drop_end, good_len, maxLen, fetchNow, logSent, szNet, fCopyNet, fLookUp, fIsAddr, fKeepAnswer, fAnswerTo, fNotFound])
def E253 := E252.add 35 fFetchNow
theorem E253ok : EOk Tryz.prog E253 := E252ok.add k35_252
theorem lookUp_sz {c : SCache} {t : ByteArray} {a : SAddr} {now : Int} {x : SResponse} (h : lookUp c t a now = some x) : szResponse x ≤ szCache c := by
  unfold lookUp at h
  obtain ⟨e, he, rfl⟩ := Option.map_eq_some_iff.1 h
  obtain ⟨i, hi, rfl⟩ := List.mem_iff_getElem.1 (List.mem_of_find?_eq_some he)
  have := szL_get szEntry (l := c.entries) (i := i) hi
  rw [List.getD_eq_getElem?_getD, List.getElem?_eq_getElem hi] at this
  simp only [Option.getD_some, szEntry] at this
  simp only [szCache]; omega
theorem fetch_sz (n : SNet) (t : ByteArray) (a : SAddr) (g : Bool) : szResponse (fetchNow n t a g).2 ≤ szNet n := by
  unfold fetchNow
  split
  · exact Nat.zero_le _
  split
  · rename_i h
    obtain ⟨x, hx⟩ := Option.isSome_iff_exists.1 h
    have := lookUp_sz hx
    rw [hx]
    simp only [Option.getD_some, szNet]; omega
  · have := answer_sz n.servers a
    simp only [szNet]; omega
theorem fetch_net_sz (n : SNet) (t : ByteArray) (a : SAddr) (g : Bool) : szNet (fetchNow n t a g).1 ≤ szNet n + (2 * t.size + 2 * szAddr a + szNet n + 30) := by
  have hl : szNet (logSent n t a g) ≤ szNet n + (t.size + szAddr a + 1) ∧ (logSent n t a g).cache = n.cache := by
    unfold logSent
    split
    · have := szL_snoc szSent n.log ⟨t, a, g⟩
      refine ⟨?_, rfl⟩
      simp only [szNet] at *
      rw [this]; simp only [szSent]; omega
    · exact ⟨by omega, rfl⟩
  have ha := answer_sz n.servers a
  have hn : szL szServer n.servers ≤ szNet n := by simp only [szNet]; omega
  unfold fetchNow
  split
  · simp only; omega
  split
  · simp only; omega
  split
  · simp only; omega
  · unfold keepAnswer
    split
    · have := store_sz (logSent n t a g).cache t a (answerTo n.servers a) (logSent n t a g).now
      simp only [szNet] at *; omega
    · simp only; omega
theorem page_sz (p : SPage) : szPolicy p.policy ≤ szPage p ∧ p.addr.host.size ≤ szPage p ∧ szL szSlot p.slots ≤ szPage p ∧ szL szModule p.mods ≤ szPage p := by
  simp only [szPage, szAddr]; omega
theorem net_sz (n : SNet) : szCache n.cache ≤ szNet n ∧ szL szServer n.servers ≤ szNet n := by simp only [szNet]; omega
def addrOf (s b : ByteArray) : SAddr := match cutF 47 (toL s) with
  | some (p, q) => ⟨ofL p, ofL q⟩
  | none => ⟨b, s⟩
def parseAddr (s b : ByteArray) : SAddr × Bool := if isName (addrOf s b).host && isName (addrOf s b).path then (addrOf s b, true) else (default, false)
theorem addrOf_hit {s b : ByteArray} {i : Nat} (h : i < s.size) (hb : s.data.getD i 0 = 47) (hn : 47 ∉ (toL s).take i) : addrOf s b = ⟨s.extract 0 i, s.extract (i + 1) s.size⟩ := by
  unfold addrOf
  rw [cutF_at h hb hn]
  have e1 : ofL ((toL s).take i) = s.extract 0 i := by rw [← ofL_toL (s.extract 0 i), toL_extract, List.drop_zero]
  have e2 : ofL ((toL s).drop (i + 1)) = s.extract (i + 1) s.size := by rw [← ofL_toL (s.extract (i + 1) s.size), toL_extract, List.take_of_length_le (by rw [toL_len]; exact Nat.le_refl _)]
  simp only [e1, e2]
theorem addrOf_end {s b : ByteArray} {i : Nat} (h : s.size ≤ i) (hn : 47 ∉ (toL s).take i) : addrOf s b = ⟨b, s⟩ := by
  rw [List.take_of_length_le (by rw [toL_len]; exact h)] at hn
  unfold addrOf
  rw [cutF_none hn]
theorem cutF_len {b : UInt8} : ∀ {l p q : List UInt8}, cutF b l = some (p, q) → p.length ≤ l.length ∧ q.length ≤ l.length
  | [], p, q, h => by cases h
  | x :: l, p, q, h => by
    rw [cutF] at h
    split at h
    · simp only [Option.some.injEq, Prod.mk.injEq] at h
      obtain ⟨rfl, rfl⟩ := h
      simp
    · obtain ⟨r, hr, he⟩ := Option.map_eq_some_iff.1 h
      simp only [Prod.mk.injEq] at he
      obtain ⟨rfl, rfl⟩ := he
      have := cutF_len (p := r.1) (q := r.2) hr
      simp only [List.length_cons]; omega
theorem addrOf_sz (s b : ByteArray) : (addrOf s b).host.size ≤ s.size + b.size ∧ (addrOf s b).path.size ≤ s.size := by
  unfold addrOf
  cases h : cutF 47 (toL s) with
  | none => exact ⟨by simp only; omega, Nat.le_refl _⟩
  | some r =>
    have := cutF_len (p := r.1) (q := r.2) h
    rw [toL_len] at this
    simp only [ofL_size]; omega
theorem parseAddr_nil (b : ByteArray) : parseAddr ⟨#[]⟩ b = (default, false) := by
  unfold parseAddr
  have : addrOf ⟨#[]⟩ b = ⟨b, ⟨#[]⟩⟩ := rfl
  rw [this, if_neg]
  rw [show isName ⟨#[]⟩ = false from rfl, Bool.and_false]; decide
theorem addrOf_cut (s b : ByteArray) : addrOf s b = if (cutS 47 s).2.2 then ⟨(cutS 47 s).1, (cutS 47 s).2.1⟩ else ⟨b, s⟩ := by
  unfold addrOf cutS
  cases cutF 47 (toL s) <;> rfl
def fParseAddr : Fct := ⟨[.v (.el .str), .v (.el .str)], [.el .addr, .el .bool], fun (x_ : ByteArray × ByteArray × Unit) => x_.1.size ≤ 200000000 ∧ x_.2.1.size ≤ 200000000, fun (x_ : ByteArray × ByteArray × Unit) => ((parseAddr x_.1 x_.2.1).1, (parseAddr x_.1 x_.2.1).2, ())⟩
def laysCut_r : Go.Shelf.Ren := ⟨fun | 0 => 0 | 1 => 1 | 2 => 2 | 101 => 261 | 109 => 259 | 110 => 234 | 138 => 276 | 143 => 277 | 145 => 258 | 146 => 260 | 156 => 272 | 165 => 280 | 166 => 281 | 169 => 282 | 195 => 287 | 197 => 288 | 206 => 278 | 208 => 270 | 217 => 283 | 218 => 289 | 219 => 274 | 220 => 268 | 221 => 269 | 224 => 285 | 225 => 284 | 240 => 292 | 241 => 293 | 260 => 296 | 266 => 294 | 267 => 286 | 268 => 275 | 276 => 298 | 277 => 299 | 314 => 295 | 347 => 300 | 348 => 301 | 349 => 302 | 350 => 303 | 351 => 304 | 352 => 305 | 353 => 306 | 354 => 307 | 355 => 308 | 356 => 309 | 357 => 310 | 358 => 311 | 359 => 312 | 360 => 313 | 361 => 314 | 362 => 315 | 366 => 316 | 367 => 321 | _ => 0, fun | 0 => 0 | 1 => 1 | 2 => 2 | 3 => 3 | 4 => 4 | 5 => 5 | 6 => 6 | 7 => 7 | 8 => 8 | 9 => 9 | 10 => 10 | 11 => 11 | 12 => 12 | 13 => 13 | 14 => 14 | 15 => 15 | 16 => 16 | 17 => 17 | 18 => 18 | 19 => 19 | 20 => 20 | 21 => 21 | 22 => 336 | 23 => 326 | 24 => 281 | 27 => 334 | 28 => 38 | 30 => 207 | 31 => 31 | 32 => 323 | 33 => 286 | 34 => 261 | 37 => 269 | 46 => 348 | 51 => 354 | 55 => 346 | 59 => 321 | 60 => 322 | 61 => 324 | 67 => 332 | 70 => 337 | 71 => 338 | 72 => 339 | 73 => 340 | 74 => 341 | 75 => 342 | 76 => 343 | 77 => 344 | 80 => 345 | 81 => 370 | 83 => 193 | 101 => 104 | 102 => 99 | 103 => 349 | 104 => 229 | 105 => 350 | 106 => 351 | 113 => 331 | 114 => 347 | 119 => 361 | 127 => 353 | 137 => 362 | 138 => 363 | 139 => 364 | 146 => 355 | 150 => 335 | 151 => 356 | 164 => 358 | 165 => 359 | 166 => 360 | 238 => 365 | 239 => 366 | 240 => 367 | 241 => 368 | 242 => 369 | 243 => 371 | 244 => 372 | 245 => 373 | 246 => 374 | 247 => 375 | 248 => 376 | 249 => 377 | _ => 0, fun | 1 => 0 | 3 => 1 | 4 => 2 | _ => 0⟩
theorem laysCut : Go.Proofs.Lays.n145 Tryz.prog laysCut_r := ⟨by kernel_rfl, by kernel_rfl, by kernel_rfl, by kernel_rfl, by kernel_rfl, by kernel_rfl, by kernel_rfl, by kernel_rfl, by kernel_rfl, by kernel_rfl, by kernel_rfl, (fun _ => by kernel_rfl), (fun _ => by kernel_rfl), (fun _ => by kernel_rfl), by kernel_rfl, (fun _ => by kernel_rfl), (fun _ => by kernel_rfl), (fun _ => by kernel_rfl), by kernel_rfl, (fun _ => by kernel_rfl), (fun _ => by kernel_rfl), (fun _ => by kernel_rfl), by kernel_rfl, (fun _ => by kernel_rfl), (fun _ => by kernel_rfl), (fun _ => by kernel_rfl), by kernel_rfl, (fun _ => by kernel_rfl), (fun _ => by kernel_rfl), (fun _ => by kernel_rfl), by kernel_rfl, (fun _ => by kernel_rfl), (fun _ => by kernel_rfl), (fun _ => by kernel_rfl), by kernel_rfl, (fun _ => by kernel_rfl), (fun _ => by kernel_rfl), (fun _ => by kernel_rfl), by kernel_rfl, (fun _ => by kernel_rfl), (fun _ => by kernel_rfl), (fun _ => by kernel_rfl), by kernel_rfl⟩
theorem k258_253 : fCut.ok Tryz.prog 258 :=
  cut_ok fun s sep w h hs => by obtain ⟨m, hm⟩ := maxLen_cell (zero := #[.int .i64 0]) (t := 3) (g := laysCut_r.g 1) h (of_decide_eq_true (by kernel_rfl)) (by kernel_rfl) rfl (by kernel_rfl) (by kernel_rfl) Tryz.underlying3; exact Go.Proofs.Any.strings_Cut laysCut s sep m w hs hm
def E254 : D.Env := E253.add 258 fCut
theorem E254ok : EOk Tryz.prog E254 := E253ok.add k258_253
theorem byte47 {s : ByteArray} {i : Nat} : ((s.data.getD i 0).toNat : Int) = 47 ↔ s.data.getD i 0 = 47 := byte_eq (b := 47) (by omega) (by omega)
abbrev W_spec_ParseAddr_fParseAddr_3 (s : ByteArray) (b : ByteArray) : LInv := ⟨[⟨.b, 6, true, .el .addr⟩, ⟨.s, 7, true, .el .int⟩, ⟨.b, 4, true, .el .addr⟩], fun (z_ : SAddr × Int × SAddr × Unit) (x_ : SAddr × Int × SAddr × Unit) => (0 ≤ x_.2.1 ∧ x_.2.1 ≤ s.size ∧ x_.1 = ⟨b, s⟩ ∧ 47 ∉ (toL s).take x_.2.1.toNat) ∧ x_.2.2.1 = z_.2.2.1, fun (x_ : SAddr × Int × SAddr × Unit) => s.size - x_.2.1.toNat⟩
theorem k218_254 : fParseAddr.ok Tryz.prog 218 := Fct.of (S := fParseAddr) (L := fun ⟨s, b, _⟩ => fun | 3 => some (W_spec_ParseAddr_fParseAddr_3 s b) | _ => none) (kp := [0,1,4,5,6,7,14,20,31,1000014,1000020,1000031]) E254ok Tryz.func218 (by kernel_rfl) (by kernel_rfl) (by
  rintro ⟨(s : ByteArray), (b : ByteArray), _⟩ hp
  refine ho (lpx (W_spec_ParseAddr_fParseAddr_3 s b) ((⟨b, s⟩ : SAddr), ((0 : Int), (default, ()))) fun (y1 : SAddr × Int × SAddr × PUnit) bk1 => .br (decide (y1.2.1 < (↑s.size : Int))) (.ob (0 ≤ y1.2.1 ∧ y1.2.1 < (↑s.size : Int)) <| .br ((↑(s.data.getD y1.2.1.toNat 0).toNat : Int) == 47) (.ob (0 ≤ y1.2.1 ∧ y1.2.1 ≤ (↑s.size : Int)) <| .ob (0 ≤ w1 y1.2.1 ∧ w1 y1.2.1 ≤ (↑s.size : Int)) <| .cl fIsAddr ((⟨s.extract 0 y1.2.1.toNat, s.extract (w1 y1.2.1).toNat s.size⟩ : SAddr), ()) fun z2 => .br (!z2.1) (.lf fParseAddr (default, false, ())) (.lf fParseAddr (⟨s.extract 0 y1.2.1.toNat, s.extract (w1 y1.2.1).toNat s.size⟩, true, ()))) (.ob (Value.string s = Value.string s) <| .ob (Value.string b = Value.string b) <| .ob (bk1 (y1.1, (w1 y1.2.1, (y1.2.2.1, ())))) <| .ok)) (.cl fIsAddr (y1.1, ()) fun z3 => .br (!z3.1) (.lf fParseAddr (default, false, ())) (.lf fParseAddr (y1.1, true, ())))) ?_
  refine lpx_i ?_ fun (y1 : SAddr × Int × SAddr × PUnit) i1 => br_i (fun h2 => ob_i ?_ fun o3 => br_i (fun h4 => ob_i ?_ fun o5 => ob_i ?_ fun o6 => cl_i ?_ fun o7 => (br_i (fun h8 => lfY ?_) (fun h8 => lfY ?_))) (fun h4 => ob_i rfl fun _ => ob_i rfl fun _ => ob_i ?_ fun o9 => trivial)) (fun h2 => cl_i ?_ fun o10 => (br_i (fun h11 => lfY ?_) (fun h11 => lfY ?_)))
  all_goals have hz := addrOf_sz s b
  all_goals try (obtain ⟨⟨a1, a2, a3, a4⟩, a5⟩ := i1)
  all_goals
   try simp only [W_spec_ParseAddr_fParseAddr_3, fIsAddr, fParseAddr, std, Nat.reduceAdd, parseAddr, fIsAddr, byte47] at *
   try simp (disch := omega) only [wrapId', toNat1] at *
   try simp (disch := omega) only [if_pos, if_neg]
  all_goals try (have e := addrOf_hit (b := b) (show y1.2.1.toNat < s.size by omega) h4 a4; simp only [e] at *)
  all_goals try (have t := take_no (show y1.2.1.toNat < s.size by omega) h4 a4)
  all_goals try (have e := addrOf_end (b := b) (show s.size ≤ y1.2.1.toNat by omega) a4; simp only [e] at *)
  all_goals first | trivial | omega | grind [ByteArray.size_extract])
def E255 := E254.add 218 fParseAddr
theorem E255ok : EOk Tryz.prog E255 := E254ok.add k218_254
def findAttr (l : List SAttr) (n : ByteArray) : Option ByteArray := (l.find? fun a => decide (a.name = n)).map (·.value)
def fFindAttr : Fct := ⟨[.v (.sl .attr), .v (.el .str)], [.el .str, .el .bool], fun (x_ : (List SAttr) × ByteArray × Unit) => x_.1.length ≤ 1000000000000, fun (x_ : (List SAttr) × ByteArray × Unit) => ((findAttr x_.1 x_.2.1).getD ⟨#[]⟩, (findAttr x_.1 x_.2.1).isSome, ())⟩
abbrev W_spec_FindAttr_fFindAttr_2 (l : (List SAttr)) (n : ByteArray) : LInv := ⟨[⟨.s, 6, true, .el .int⟩], fun _ (x_ : Int × Unit) => 0 ≤ x_.1 ∧ x_.1 ≤ l.length ∧ findAttr (l.drop x_.1.toNat) n = findAttr l n, fun (x_ : Int × Unit) => l.length - x_.1.toNat⟩
theorem k217_255 : fFindAttr.ok Tryz.prog 217 := Fct.of (S := fFindAttr) (L := fun ⟨l, n, _⟩ => fun | 2 => some (W_spec_FindAttr_fFindAttr_2 l n) | _ => none) (kp := [0,1,4,5,6,10,19,1000010,1000019]) E255ok Tryz.func217 (by kernel_rfl) (by kernel_rfl) (by
  rintro ⟨(l : List SAttr), (n : ByteArray), _⟩ hp
  refine ho (lpx (W_spec_FindAttr_fFindAttr_2 l n) ((0 : Int), ()) fun (y1 : Int × PUnit) bk1 => .br (decide (y1.1 < (↑l.length : Int))) (.ob (inB y1.1 l.length) <| .br ((l.getD y1.1.toNat default).name.toList == n.toList) (.ob (inB y1.1 l.length) <| .lf fFindAttr ((l.getD y1.1.toNat default).value, true, ())) (.ob (l = l) <| .ob (Value.string n = Value.string n) <| .ob (bk1 (w1 y1.1, ())) <| .ok)) (.lf fFindAttr ((⟨#[]⟩ : ByteArray), false, ()))) ?_
  refine lpx_i ?_ fun (y1 : Int × PUnit) i1 => br_i (fun h2 => ob_i ?_ fun o3 => br_i (fun h4 => ob_i ?_ fun o5 => lfY ?_) (fun h4 => ob_i rfl fun _ => ob_i rfl fun _ => ob_i ?_ fun o6 => trivial)) (fun h2 => lfY ?_)
  all_goals
   try simp only [W_spec_FindAttr_fFindAttr_2, fFindAttr, std, Nat.reduceAdd, findAttr] at *
   try simp (disch := omega) only [wrapId', toNat1] at *
   try simp (disch := omega) only [if_pos, if_neg]
  all_goals first | trivial | omega | grind [wrapId', toNat1, drop_cons, drop_end, good_len, maxLen, findAttr])
def E256 := E255.add 217 fFindAttr
theorem E256ok : EOk Tryz.prog E256 := E255ok.add k217_255
def fFindAttr1 : Fct := ⟨[.v (.el .attr), .p (.el .str)], [.el .bool], fun (x_ : SAttr × ByteArray × Unit) => True, fun (x_ : SAttr × ByteArray × Unit) => (decide (x_.1.name = x_.2.1), ())⟩
theorem k257_256 : fFindAttr1.ok Tryz.prog 257 := Fct.o [1,2,3] E256ok Tryz.func257 (by
  rintro ⟨(a : SAttr), (n : ByteArray), _⟩ hp
  refine ho (.lf fFindAttr1 (a.name.toList == ByteArray.toList n, ())) ?_
  refine lfY ?_
  all_goals
   try simp only [fFindAttr1, std, Nat.reduceAdd] at *
   try simp (disch := omega) only [wrapId', toNat1] at *
   try simp (disch := omega) only [if_pos, if_neg]
  all_goals first | trivial | omega | grind [wrapId', toNat1, drop_cons, drop_end, good_len, maxLen])
def E257 := E256.add 257 fFindAttr1
theorem E257ok : EOk Tryz.prog E257 := E256ok.add k257_256
def fIndexFunc_attr_impl_FindAttr_1 : Fct := ⟨[aL .attr, .c 257 [.el .str]], [rI], fun x => x.1.length ≤ 1000000000000000000 ∧ ∀ c, fFindAttr1.pre (c, x.2.1), fun x => (fidx (fun c => (fFindAttr1.fn (c, x.2.1)).1) x.1 0, ())⟩
abbrev W_slices_IndexFunc_impl_Attr_impl_Attr_fIndexFunc_attr_impl_FindAttr_1_2 (l : (List SAttr)) (u : (ByteArray × Unit)) : LInv := ⟨[⟨.s, 8, true, .el .int⟩], fun _ (x_ : Int × Unit) => 0 ≤ x_.1 ∧ x_.1 ≤ l.length ∧ fidx (fun c => (fFindAttr1.fn (c, u)).1) l 0 = fidx (fun c => (fFindAttr1.fn (c, u)).1) (l.drop x_.1.toNat) x_.1, fun (x_ : Int × Unit) => l.length - x_.1.toNat⟩
theorem k256_257 : fIndexFunc_attr_impl_FindAttr_1.ok Tryz.prog 256 := Fct.of (S := fIndexFunc_attr_impl_FindAttr_1) (L := fun ⟨l, u, _⟩ => fun | 2 => some (W_slices_IndexFunc_impl_Attr_impl_Attr_fIndexFunc_attr_impl_FindAttr_1_2 l u) | _ => none) (kp := [0,1,4,5,7,8,9,16,1000009,1000016]) E257ok Tryz.func256 (by kernel_rfl) (by kernel_rfl) (by
  rintro ⟨(l : List SAttr), (u : ByteArray × PUnit), _⟩ hp
  refine ho (lpx (W_slices_IndexFunc_impl_Attr_impl_Attr_fIndexFunc_attr_impl_FindAttr_1_2 l u) ((0 : Int), ()) fun (y1 : Int × PUnit) bk1 => .br (decide (y1.1 < (↑l.length : Int))) (.ob (inB y1.1 l.length) <| .cl fFindAttr1 (l.getD y1.1.toNat default, u.1, ()) fun z2 => .br (z2.1) (.lf fIndexFunc_attr_impl_FindAttr_1 (y1.1, ())) (.ob (l = l) <| .ob (enc Ty.str u.1 = enc Ty.str u.1) <| .ob (Value.int IntKind.i64 (↑l.length : Int) = Value.int IntKind.i64 (↑l.length : Int)) <| .ob (bk1 (w1 y1.1, ())) <| .ok)) (.lf fIndexFunc_attr_impl_FindAttr_1 ((-1 : Int), ()))) ?_
  refine lpx_i ?_ fun (y1 : Int × PUnit) i1 => br_i (fun h2 => ob_i ?_ fun o3 => cl_i trivial fun _ => (br_i (fun h4 => lfY ?_) (fun h4 => ob_i rfl fun _ => ob_i rfl fun _ => ob_i rfl fun _ => ob_i ?_ fun o5 => trivial))) (fun h2 => lfY ?_)
  all_goals
   try simp only [W_slices_IndexFunc_impl_Attr_impl_Attr_fIndexFunc_attr_impl_FindAttr_1_2, fFindAttr1, fIndexFunc_attr_impl_FindAttr_1, std, Nat.reduceAdd] at *
   try have hp2 := hp.2
   try have hp1 := hp.1
  all_goals first | trivial | omega | grind [wrapId', toNat1, drop_cons, drop_end, good_len, maxLen, fidx])
def E258 := E257.add 256 fIndexFunc_attr_impl_FindAttr_1
theorem E258ok : EOk Tryz.prog E258 := E257ok.add k256_257
theorem k230_258 : fFindAttr.ok Tryz.prog 230 := Fct.o [0,3,4,5,6,11,1000011] E258ok Tryz.func230 (by
  rintro ⟨(l : List SAttr), (n : ByteArray), _⟩ hp
  refine ho (.cl fIndexFunc_attr_impl_FindAttr_1 (l, (n, ()), ()) fun z2 => .br (decide (z2.1 < 0)) (.lf fFindAttr ((⟨#[]⟩ : ByteArray), false, ())) (.ob (0 ≤ z2.1 ∧ z2.1 < (↑(List.length l) : Int)) <| .lf fFindAttr ((List.getD l z2.1.toNat default).value, true, ()))) ?_
  refine cl_i ?_ fun o1 => (br_i (fun h2 => lfY ?_) (fun h2 => ob_i ?_ fun o3 => lfY ?_))
  all_goals
   have hf := fidx_lt (fun a : SAttr => decide (a.name = n)) l 0 (by omega)
   have hf2 := find_fidx (fun a : SAttr => decide (a.name = n)) l 0 (by omega)
   try simp only [fFindAttr, fIndexFunc_attr_impl_FindAttr_1, std, Nat.reduceAdd, findAttr, fFindAttr1] at *
   try simp (disch := omega) only [wrapId', toNat1] at *
   try simp (disch := omega) only [if_pos, if_neg]
  all_goals first | trivial | omega | grind [wrapId', toNat1, drop_cons, drop_end, good_len, maxLen, findAttr, fFindAttr1])
def E259 := E258.add 230 fFindAttr
theorem E259ok : EOk Tryz.prog E259 := E258ok.add k230_258
theorem k231_259 : fParseAddr.ok Tryz.prog 231 := Fct.o [0,1,4,5,6,7,8,9,19,25,1000019,1000025] E259ok Tryz.func231 (by
  rintro ⟨(s : ByteArray), (b : ByteArray), _⟩ hp
  refine ho (.cl fCut (s, (⟨#[47]⟩ : ByteArray), ()) fun z2 => .br (z2.2.2.1) (.cl fIsAddr ((⟨z2.1, z2.2.1⟩ : SAddr), ()) fun z3 => .br (!z3.1) (.lf fParseAddr (default, false, ())) (.lf fParseAddr (⟨z2.1, z2.2.1⟩, true, ()))) (.cl fIsAddr ((⟨b, s⟩ : SAddr), ()) fun z4 => .br (!z4.1) (.lf fParseAddr (default, false, ())) (.lf fParseAddr (⟨b, s⟩, true, ())))) ?_
  refine cl_i ?_ fun o1 => (br_i (fun h2 => cl_i ?_ fun o3 => (br_i (fun h4 => lfY ?_) (fun h4 => lfY ?_))) (fun h2 => cl_i ?_ fun o5 => (br_i (fun h6 => lfY ?_) (fun h6 => lfY ?_))))
  all_goals
   have hz := addrOf_sz s b
   have hc := addrOf_cut s b
   try simp only [fCut, fIsAddr, fParseAddr, std, Nat.reduceAdd, parseAddr, fIsAddr, fCut] at *
   try simp only [show (ByteArray.mk #[47]).data.getD 0 0 = 47 from rfl, show (ByteArray.mk #[47]).size = 1 from rfl] at *
  all_goals first | trivial | omega | grind)
def E260 := E259.add 231 fParseAddr
theorem E260ok : EOk Tryz.prog E260 := E259ok.add k231_259
def scanKind (t : SToken) : Int := if t.kind ≠ 1 then 0 else if t.name = ⟨#[115, 99, 114, 105, 112, 116]⟩ then (if (findAttr t.attrs ⟨#[107, 105, 110, 100]⟩).getD ⟨#[]⟩ = ⟨#[109, 111, 100, 117, 108, 101]⟩ then 5 else 2) else if t.name = ⟨#[108, 105, 110, 107]⟩ then 3 else if t.name = ⟨#[105, 109, 103]⟩ then 4 else 0
def scanTo (t : SToken) : ByteArray := if t.name = ⟨#[108, 105, 110, 107]⟩ then (findAttr t.attrs ⟨#[104, 114, 101, 102]⟩).getD ⟨#[]⟩ else (findAttr t.attrs ⟨#[115, 114, 99]⟩).getD ⟨#[]⟩
def scanToken (t : SToken) (b : ByteArray) : SRequest × Bool := if scanKind t ≠ 0 ∧ (parseAddr (scanTo t) b).2 = true then (⟨scanKind t, (parseAddr (scanTo t) b).1, b, if scanKind t = 5 then ⟨#[]⟩ else (findAttr t.attrs ⟨#[100, 105, 103, 101, 115, 116]⟩).getD ⟨#[]⟩⟩, true) else (default, false)
theorem findAttr_sz (l : List SAttr) (n : ByteArray) : ((findAttr l n).getD ⟨#[]⟩).size ≤ szL szAttr l := by
  unfold findAttr
  cases h : l.find? fun a => decide (a.name = n) with
  | none => exact Nat.zero_le _
  | some a =>
    obtain ⟨i, hi, he⟩ := List.mem_iff_getElem.1 (List.mem_of_find?_eq_some h)
    have := szL_get szAttr (l := l) (i := i) hi
    rw [List.getD_eq_getElem?_getD, List.getElem?_eq_getElem hi, he] at this
    simp only [Option.map_some, Option.getD_some, szAttr] at *; omega
theorem findAttr_no {l : List SAttr} {n : ByteArray} (h : (findAttr l n).isSome = false) : (findAttr l n).getD ⟨#[]⟩ = ⟨#[]⟩ := by
  cases h2 : findAttr l n with
  | none => rfl
  | some x => rw [h2] at h; cases h
def fScanToken : Fct := ⟨[.v (.el .token), .v (.el .str)], [.el .request, .el .bool], fun (x_ : SToken × ByteArray × Unit) => szToken x_.1 ≤ 100000000 ∧ x_.2.1.size ≤ 100000000, fun (x_ : SToken × ByteArray × Unit) => ((scanToken x_.1 x_.2.1).1, (scanToken x_.1 x_.2.1).2, ())⟩
theorem k156_260 : fScanToken.ok Tryz.prog 156 := Fct.o [1,2,4,5,6,7,8,10,12,13,17,22,34,36,41,60,66,1000017,1000022,1000034,1000036,1000041,1000060,1000066] E260ok Tryz.func156 (by
  rintro ⟨(t : SToken), (b : ByteArray), _⟩ hp
  refine ho (.br (t.kind != 1) (.lf fScanToken (default, false, ())) (.br (t.name.toList == (⟨#[115, 99, 114, 105, 112, 116]⟩ : ByteArray).toList) (.cl fFindAttr (t.attrs, (⟨#[107, 105, 110, 100]⟩ : ByteArray), ()) fun z2 => .br (z2.1.toList == (⟨#[109, 111, 100, 117, 108, 101]⟩ : ByteArray).toList) (.cl fFindAttr (t.attrs, (⟨#[115, 114, 99]⟩ : ByteArray), ()) fun z3 => .cl fParseAddr (z3.1, b, ()) fun z4 => .br (!z4.2.1) (.lf fScanToken (default, false, ())) (.br ((5 : Int) != (5 : Int)) (.cl fFindAttr (t.attrs, (⟨#[100, 105, 103, 101, 115, 116]⟩ : ByteArray), ()) fun z5 => .lf fScanToken (⟨(5 : Int), z4.1, b, z5.1⟩, true, ())) (.lf fScanToken (⟨(5 : Int), z4.1, b, (⟨#[]⟩ : ByteArray)⟩, true, ())))) (.cl fFindAttr (t.attrs, (⟨#[115, 114, 99]⟩ : ByteArray), ()) fun z6 => .cl fParseAddr (z6.1, b, ()) fun z7 => .br (!z7.2.1) (.lf fScanToken (default, false, ())) (.br ((2 : Int) != (5 : Int)) (.cl fFindAttr (t.attrs, (⟨#[100, 105, 103, 101, 115, 116]⟩ : ByteArray), ()) fun z8 => .lf fScanToken (⟨(2 : Int), z7.1, b, z8.1⟩, true, ())) (.lf fScanToken (⟨(2 : Int), z7.1, b, (⟨#[]⟩ : ByteArray)⟩, true, ()))))) (.br (t.name.toList == (⟨#[108, 105, 110, 107]⟩ : ByteArray).toList) (.cl fFindAttr (t.attrs, (⟨#[104, 114, 101, 102]⟩ : ByteArray), ()) fun z9 => .cl fParseAddr (z9.1, b, ()) fun z10 => .br (!z10.2.1) (.lf fScanToken (default, false, ())) (.br ((3 : Int) != (5 : Int)) (.cl fFindAttr (t.attrs, (⟨#[100, 105, 103, 101, 115, 116]⟩ : ByteArray), ()) fun z11 => .lf fScanToken (⟨(3 : Int), z10.1, b, z11.1⟩, true, ())) (.lf fScanToken (⟨(3 : Int), z10.1, b, (⟨#[]⟩ : ByteArray)⟩, true, ())))) (.br (t.name.toList == (⟨#[105, 109, 103]⟩ : ByteArray).toList) (.cl fFindAttr (t.attrs, (⟨#[115, 114, 99]⟩ : ByteArray), ()) fun z12 => .cl fParseAddr (z12.1, b, ()) fun z13 => .br (!z13.2.1) (.lf fScanToken (default, false, ())) (.br ((4 : Int) != (5 : Int)) (.cl fFindAttr (t.attrs, (⟨#[100, 105, 103, 101, 115, 116]⟩ : ByteArray), ()) fun z14 => .lf fScanToken (⟨(4 : Int), z13.1, b, z14.1⟩, true, ())) (.lf fScanToken (⟨(4 : Int), z13.1, b, (⟨#[]⟩ : ByteArray)⟩, true, ())))) (.lf fScanToken (default, false, ())))))) ?_
  refine br_i (fun h1 => lfY ?_) (fun h1 => br_i (fun h2 => cl_e ?_ fun o3 z2 ez2 => (br_i (fun h4 => cl_e ?_ fun o5 z3 ez3 => (cl_e ?_ fun o6 z4 ez4 => (br_i (fun h7 => lfY ?_) (fun h7 => br_i (fun h8 => cl_e ?_ fun o9 z5 ez5 => (lfY ?_)) (fun h8 => lfY ?_))))) (fun h4 => cl_e ?_ fun o10 z6 ez6 => (cl_e ?_ fun o11 z7 ez7 => (br_i (fun h12 => lfY ?_) (fun h12 => br_i (fun h13 => cl_e ?_ fun o14 z8 ez8 => (lfY ?_)) (fun h13 => lfY ?_))))))) (fun h2 => br_i (fun h15 => cl_e ?_ fun o16 z9 ez9 => (cl_e ?_ fun o17 z10 ez10 => (br_i (fun h18 => lfY ?_) (fun h18 => br_i (fun h19 => cl_e ?_ fun o20 z11 ez11 => (lfY ?_)) (fun h19 => lfY ?_))))) (fun h15 => br_i (fun h21 => cl_e ?_ fun o22 z12 ez12 => (cl_e ?_ fun o23 z13 ez13 => (br_i (fun h24 => lfY ?_) (fun h24 => br_i (fun h25 => cl_e ?_ fun o26 z14 ez14 => (lfY ?_)) (fun h25 => lfY ?_))))) (fun h21 => lfY ?_))))
  all_goals subst_vars
  all_goals
   have hl := szL_len szAttr t.attrs
   have hs := findAttr_sz t.attrs
   have hn := fun n => findAttr_no (l := t.attrs) (n := n)
   have hp0 := parseAddr_nil b
   try simp only [fFindAttr, fParseAddr, fScanToken, std, Nat.reduceAdd, scanToken, scanKind, scanTo, fFindAttr, fParseAddr, szToken] at *
   try simp (disch := omega) only [wrapId', toNat1] at *
   try simp (disch := omega) only [if_pos, if_neg]
  all_goals first | trivial | omega | grind [wrapId', toNat1, drop_cons, drop_end, good_len, maxLen, scanToken, scanKind, scanTo, fFindAttr, fParseAddr, szToken])
def E261 := E260.add 156 fScanToken
theorem E261ok : EOk Tryz.prog E261 := E260ok.add k156_260
theorem k179_261 : fScanToken.ok Tryz.prog 179 := Fct.o [1,2,4,5,6,7,8,10,11,12,13,14,15,20,31,32,36,62,69,1000015,1000020,1000031,1000032,1000036,1000062,1000069] E261ok Tryz.func179 (by
  rintro ⟨(t : SToken), (b : ByteArray), _⟩ hp
  refine ho (.br (t.kind != 1) (.lf fScanToken (default, false, ())) (.br (t.name.toList == (⟨#[115, 99, 114, 105, 112, 116]⟩ : ByteArray).toList) (.cl fFindAttr (t.attrs, (⟨#[107, 105, 110, 100]⟩ : ByteArray), ()) fun z2 => .br (z2.1.toList == (⟨#[109, 111, 100, 117, 108, 101]⟩ : ByteArray).toList) (.cl fFindAttr (t.attrs, (⟨#[115, 114, 99]⟩ : ByteArray), ()) fun z3 => .cl fParseAddr (z3.1, b, ()) fun z4 => .br ((5 : Int) == (0 : Int)) (.lf fScanToken (default, false, ())) (.br (!z3.2.1) (.lf fScanToken (default, false, ())) (.br (!z4.2.1) (.lf fScanToken (default, false, ())) (.br ((5 : Int) != (5 : Int)) (.cl fFindAttr (t.attrs, (⟨#[100, 105, 103, 101, 115, 116]⟩ : ByteArray), ()) fun z5 => .lf fScanToken (⟨(5 : Int), z4.1, b, z5.1⟩, true, ())) (.lf fScanToken (⟨(5 : Int), z4.1, b, (⟨#[]⟩ : ByteArray)⟩, true, ())))))) (.cl fFindAttr (t.attrs, (⟨#[115, 114, 99]⟩ : ByteArray), ()) fun z6 => .cl fParseAddr (z6.1, b, ()) fun z7 => .br ((2 : Int) == (0 : Int)) (.lf fScanToken (default, false, ())) (.br (!z6.2.1) (.lf fScanToken (default, false, ())) (.br (!z7.2.1) (.lf fScanToken (default, false, ())) (.br ((2 : Int) != (5 : Int)) (.cl fFindAttr (t.attrs, (⟨#[100, 105, 103, 101, 115, 116]⟩ : ByteArray), ()) fun z8 => .lf fScanToken (⟨(2 : Int), z7.1, b, z8.1⟩, true, ())) (.lf fScanToken (⟨(2 : Int), z7.1, b, (⟨#[]⟩ : ByteArray)⟩, true, ()))))))) (.br (t.name.toList == (⟨#[108, 105, 110, 107]⟩ : ByteArray).toList) (.cl fFindAttr (t.attrs, (⟨#[104, 114, 101, 102]⟩ : ByteArray), ()) fun z9 => .cl fParseAddr (z9.1, b, ()) fun z10 => .br ((3 : Int) == (0 : Int)) (.lf fScanToken (default, false, ())) (.br (!z9.2.1) (.lf fScanToken (default, false, ())) (.br (!z10.2.1) (.lf fScanToken (default, false, ())) (.br ((3 : Int) != (5 : Int)) (.cl fFindAttr (t.attrs, (⟨#[100, 105, 103, 101, 115, 116]⟩ : ByteArray), ()) fun z11 => .lf fScanToken (⟨(3 : Int), z10.1, b, z11.1⟩, true, ())) (.lf fScanToken (⟨(3 : Int), z10.1, b, (⟨#[]⟩ : ByteArray)⟩, true, ())))))) (.br (t.name.toList == (⟨#[105, 109, 103]⟩ : ByteArray).toList) (.cl fFindAttr (t.attrs, (⟨#[115, 114, 99]⟩ : ByteArray), ()) fun z12 => .cl fParseAddr (z12.1, b, ()) fun z13 => .br ((4 : Int) == (0 : Int)) (.lf fScanToken (default, false, ())) (.br (!z12.2.1) (.lf fScanToken (default, false, ())) (.br (!z13.2.1) (.lf fScanToken (default, false, ())) (.br ((4 : Int) != (5 : Int)) (.cl fFindAttr (t.attrs, (⟨#[100, 105, 103, 101, 115, 116]⟩ : ByteArray), ()) fun z14 => .lf fScanToken (⟨(4 : Int), z13.1, b, z14.1⟩, true, ())) (.lf fScanToken (⟨(4 : Int), z13.1, b, (⟨#[]⟩ : ByteArray)⟩, true, ())))))) (.cl fFindAttr (t.attrs, (⟨#[115, 114, 99]⟩ : ByteArray), ()) fun z15 => .cl fParseAddr (z15.1, b, ()) fun z16 => .br ((0 : Int) == (0 : Int)) (.lf fScanToken (default, false, ())) (.br (!z15.2.1) (.lf fScanToken (default, false, ())) (.br (!z16.2.1) (.lf fScanToken (default, false, ())) (.br ((0 : Int) != (5 : Int)) (.cl fFindAttr (t.attrs, (⟨#[100, 105, 103, 101, 115, 116]⟩ : ByteArray), ()) fun z17 => .lf fScanToken (⟨(0 : Int), z16.1, b, z17.1⟩, true, ())) (.lf fScanToken (⟨(0 : Int), z16.1, b, (⟨#[]⟩ : ByteArray)⟩, true, ())))))))))) ?_
  refine br_i (fun h1 => lfY ?_) (fun h1 => br_i (fun h2 => cl_e ?_ fun o3 z2 ez2 => (br_i (fun h4 => cl_e ?_ fun o5 z3 ez3 => (cl_e ?_ fun o6 z4 ez4 => (br_i (fun h7 => lfY ?_) (fun h7 => br_i (fun h8 => lfY ?_) (fun h8 => br_i (fun h9 => lfY ?_) (fun h9 => br_i (fun h10 => cl_e ?_ fun o11 z5 ez5 => (lfY ?_)) (fun h10 => lfY ?_))))))) (fun h4 => cl_e ?_ fun o12 z6 ez6 => (cl_e ?_ fun o13 z7 ez7 => (br_i (fun h14 => lfY ?_) (fun h14 => br_i (fun h15 => lfY ?_) (fun h15 => br_i (fun h16 => lfY ?_) (fun h16 => br_i (fun h17 => cl_e ?_ fun o18 z8 ez8 => (lfY ?_)) (fun h17 => lfY ?_))))))))) (fun h2 => br_i (fun h19 => cl_e ?_ fun o20 z9 ez9 => (cl_e ?_ fun o21 z10 ez10 => (br_i (fun h22 => lfY ?_) (fun h22 => br_i (fun h23 => lfY ?_) (fun h23 => br_i (fun h24 => lfY ?_) (fun h24 => br_i (fun h25 => cl_e ?_ fun o26 z11 ez11 => (lfY ?_)) (fun h25 => lfY ?_))))))) (fun h19 => br_i (fun h27 => cl_e ?_ fun o28 z12 ez12 => (cl_e ?_ fun o29 z13 ez13 => (br_i (fun h30 => lfY ?_) (fun h30 => br_i (fun h31 => lfY ?_) (fun h31 => br_i (fun h32 => lfY ?_) (fun h32 => br_i (fun h33 => cl_e ?_ fun o34 z14 ez14 => (lfY ?_)) (fun h33 => lfY ?_))))))) (fun h27 => cl_e ?_ fun o35 z15 ez15 => (cl_e ?_ fun o36 z16 ez16 => (br_i (fun h37 => lfY ?_) (fun h37 => br_i (fun h38 => lfY ?_) (fun h38 => br_i (fun h39 => lfY ?_) (fun h39 => br_i (fun h40 => cl_e ?_ fun o41 z17 ez17 => (lfY ?_)) (fun h40 => lfY ?_))))))))))
  all_goals subst_vars
  all_goals
   have hl := szL_len szAttr t.attrs
   have hs := findAttr_sz t.attrs
   have hn := fun n => findAttr_no (l := t.attrs) (n := n)
   have hp0 := parseAddr_nil b
   try simp only [fFindAttr, fParseAddr, fScanToken, std, Nat.reduceAdd, scanToken, scanKind, scanTo, fFindAttr, fParseAddr, szToken] at *
   try simp (disch := omega) only [wrapId', toNat1] at *
   try simp (disch := omega) only [if_pos, if_neg]
  all_goals first | trivial | omega | grind [wrapId', toNat1, drop_cons, drop_end, good_len, maxLen, scanToken, scanKind, scanTo, fFindAttr, fParseAddr, szToken])
def E262 := E261.add 179 fScanToken
theorem E262ok : EOk Tryz.prog E262 := E261ok.add k179_261
def scanTokens (b : ByteArray) : List SToken → List SRequest
  | [] => []
  | t :: l => if (scanToken t b).2 then (scanToken t b).1 :: scanTokens b l else scanTokens b l
theorem scanTokens_at {b : ByteArray} {l : List SToken} {i : Nat} (h : i < l.length) : scanTokens b (l.drop i) = if (scanToken (l.getD i default) b).2 then (scanToken (l.getD i default) b).1 :: scanTokens b (l.drop (i + 1)) else scanTokens b (l.drop (i + 1)) := by rw [drop_cons h]; rfl
theorem scanTokens_end {b : ByteArray} {l : List SToken} {i : Nat} (h : l.length ≤ i) : scanTokens b (l.drop i) = [] := by rw [List.drop_of_length_le h]; rfl
theorem scanTokens_len (b : ByteArray) : ∀ l : List SToken, (scanTokens b l).length ≤ l.length
  | [] => Nat.le_refl _
  | t :: l => by have := scanTokens_len b l; simp only [scanTokens]; split <;> simp only [List.length_cons] <;> omega
def fScanTokens : Fct := ⟨[.v (.sl .token), .v (.el .str)], [.sl .request], fun (x_ : (List SToken) × ByteArray × Unit) => szL szToken x_.1 ≤ 10000000 ∧ x_.2.1.size ≤ 10000000, fun (x_ : (List SToken) × ByteArray × Unit) => (scanTokens x_.2.1 x_.1, ())⟩
abbrev W_spec_ScanTokens_fScanTokens_3 (l : (List SToken)) (b : ByteArray) : LInv := ⟨[⟨.s, 5, true, .sl .request⟩, ⟨.s, 6, true, .el .int⟩], fun _ (x_ : (List SRequest) × Int × Unit) => 0 ≤ x_.2.1 ∧ x_.2.1 ≤ l.length ∧ x_.1.length ≤ x_.2.1 ∧ x_.1 ++ scanTokens b (l.drop x_.2.1.toNat) = scanTokens b l, fun (x_ : (List SRequest) × Int × Unit) => l.length - x_.2.1.toNat⟩
theorem k67_262 : fScanTokens.ok Tryz.prog 67 := Fct.of (S := fScanTokens) (L := fun ⟨l, b, _⟩ => fun | 3 => some (W_spec_ScanTokens_fScanTokens_3 l b) | _ => none) (kp := [0,1,4,5,6,7,8,13,25,1000013,1000025]) E262ok Tryz.func67 (by kernel_rfl) (by kernel_rfl) (by
  rintro ⟨(l : List SToken), (b : ByteArray), _⟩ hp
  refine ho (lpx (W_spec_ScanTokens_fScanTokens_3 l b) ([], ((0 : Int), ())) fun (y1 : List SRequest × Int × PUnit) bk1 => .br (decide (y1.2.1 < (↑l.length : Int))) (.ob (inB y1.2.1 l.length) <| .cl fScanToken (l.getD y1.2.1.toNat default, b, ()) fun z2 => .br (z2.2.1) (.ob (True) <| .ob (Room (y1.1.length + [z2.1].length) 72) <| .ob (l = l) <| .ob (Value.string b = Value.string b) <| .ob (bk1 (y1.1 ++ [z2.1], (w1 y1.2.1, ()))) <| .ok) (.ob (l = l) <| .ob (Value.string b = Value.string b) <| .ob (bk1 (y1.1, (w1 y1.2.1, ()))) <| .ok)) (.lf fScanTokens (y1.1, ()))) ?_
  refine lpx_i ?_ fun (y1 : List SRequest × Int × PUnit) i1 => br_i (fun h2 => ob_i ?_ fun o3 => cl_i ?_ fun o4 => (br_i (fun h5 => ob_i trivial fun _ => ob_i ?_ fun o6 => ob_i rfl fun _ => ob_i rfl fun _ => ob_i ?_ fun o7 => trivial) (fun h5 => ob_i rfl fun _ => ob_i rfl fun _ => ob_i ?_ fun o8 => trivial))) (fun h2 => lfY ?_)
  all_goals
   have hl := szL_len szToken l
   have hg : ∀ i, i < l.length → szToken (l.getD i default) ≤ 10000000 := fun i h => by have := szL_get szToken h; have hp2 : szL szToken l ≤ 10000000 ∧ b.size ≤ 10000000 := hp; omega
   try simp only [W_spec_ScanTokens_fScanTokens_3, fScanToken, fScanTokens, std, Nat.reduceAdd, fScanToken, scanTokens_at, scanTokens_end, List.append_assoc, List.singleton_append, List.length_append, List.length_singleton] at *
   try simp (disch := omega) only [wrapId', toNat1] at *
   try simp (disch := omega) only [if_pos, if_neg]
  all_goals first | trivial | omega | grind [wrapId', toNat1, good_len, maxLen, fScanToken, scanTokens_at, scanTokens_end, List.append_assoc, List.singleton_append, List.length_append, List.length_singleton])
def E263 := E262.add 67 fScanTokens
theorem E263ok : EOk Tryz.prog E263 := E262ok.add k67_262
abbrev W_impl_ScanTokens_fScanTokens_3 (l : (List SToken)) (b : ByteArray) : LInv := ⟨[⟨.s, 5, true, .sl .request⟩, ⟨.s, 13, true, .el .int⟩], fun _ (x_ : (List SRequest) × Int × Unit) => 0 ≤ x_.2.1 ∧ x_.2.1 ≤ l.length ∧ x_.1.length ≤ x_.2.1 ∧ x_.1 ++ scanTokens b (l.drop x_.2.1.toNat) = scanTokens b l, fun (x_ : (List SRequest) × Int × Unit) => l.length - x_.2.1.toNat⟩
theorem k95_263 : fScanTokens.ok Tryz.prog 95 := Fct.of (S := fScanTokens) (L := fun ⟨l, b, _⟩ => fun | 3 => some (W_impl_ScanTokens_fScanTokens_3 l b) | _ => none) (kp := [0,1,4,5,7,8,9,11,12,13,14,23,1000014,1000023]) E263ok Tryz.func95 (by kernel_rfl) (by kernel_rfl) (by
  rintro ⟨(l : List SToken), (b : ByteArray), _⟩ hp
  refine ho (lpx (W_impl_ScanTokens_fScanTokens_3 l b) ([], ((0 : Int), ())) fun (y1 : List SRequest × Int × PUnit) bk1 => .br (decide (y1.2.1 < (↑l.length : Int))) (.ob (inB y1.2.1 l.length) <| .cl fScanToken (l.getD y1.2.1.toNat default, b, ()) fun z2 => .br (z2.2.1) (.ob (True) <| .ob (Room (y1.1.length + [z2.1].length) 72) <| .ob (l = l) <| .ob (Value.string b = Value.string b) <| .ob (l = l) <| .ob (Value.int IntKind.i64 (↑l.length : Int) = Value.int IntKind.i64 (↑l.length : Int)) <| .ob (bk1 (y1.1 ++ [z2.1], (w1 y1.2.1, ()))) <| .ok) (.ob (l = l) <| .ob (Value.string b = Value.string b) <| .ob (l = l) <| .ob (Value.int IntKind.i64 (↑l.length : Int) = Value.int IntKind.i64 (↑l.length : Int)) <| .ob (bk1 (y1.1, (w1 y1.2.1, ()))) <| .ok)) (.lf fScanTokens (y1.1, ()))) ?_
  refine lpx_i ?_ fun (y1 : List SRequest × Int × PUnit) i1 => br_i (fun h2 => ob_i ?_ fun o3 => cl_i ?_ fun o4 => (br_i (fun h5 => ob_i trivial fun _ => ob_i ?_ fun o6 => ob_i rfl fun _ => ob_i rfl fun _ => ob_i rfl fun _ => ob_i rfl fun _ => ob_i ?_ fun o7 => trivial) (fun h5 => ob_i rfl fun _ => ob_i rfl fun _ => ob_i rfl fun _ => ob_i rfl fun _ => ob_i ?_ fun o8 => trivial))) (fun h2 => lfY ?_)
  all_goals
   have hl := szL_len szToken l
   have hg : ∀ i, i < l.length → szToken (l.getD i default) ≤ 10000000 := fun i h => by have := szL_get szToken h; have hp2 : szL szToken l ≤ 10000000 ∧ b.size ≤ 10000000 := hp; omega
   try simp only [W_impl_ScanTokens_fScanTokens_3, fScanToken, fScanTokens, std, Nat.reduceAdd, fScanToken, scanTokens_at, scanTokens_end, List.append_assoc, List.singleton_append, List.length_append, List.length_singleton] at *
   try simp (disch := omega) only [wrapId', toNat1] at *
   try simp (disch := omega) only [if_pos, if_neg]
  all_goals first | trivial | omega | grind [wrapId', toNat1, good_len, maxLen, fScanToken, scanTokens_at, scanTokens_end, List.append_assoc, List.singleton_append, List.length_append, List.length_singleton])
def E264 := E263.add 95 fScanTokens
theorem E264ok : EOk Tryz.prog E264 := E263ok.add k95_263
def canGuess (r : SRequest) : Bool := isRequest r && (decide (r.kind ≠ 1) && decide (r.to.host = r.from_))
def fCanGuess : Fct := ⟨[.v (.el .request)], [.el .bool], fun (x_ : SRequest × Unit) => szRequest x_.1 ≤ 1099511627776, fun (x_ : SRequest × Unit) => (canGuess x_.1, ())⟩
theorem k68_264 : fCanGuess.ok Tryz.prog 68 := Fct.o [1,2] E264ok Tryz.func68 (by
  rintro ⟨(r : SRequest), _⟩ hp
  refine ho (.cl fIsRequest (r, ()) fun z2 => .br (z2.1) (.br (r.kind != 1) (.lf fCanGuess (r.to.host.toList == r.from_.toList, ())) (.lf fCanGuess (false, ()))) (.lf fCanGuess (false, ()))) ?_
  refine cl_i ?_ fun o1 => (br_i (fun h2 => br_i (fun h3 => lfY ?_) (fun h3 => lfY ?_)) (fun h2 => lfY ?_))
  all_goals
   try simp only [fCanGuess, fIsRequest, std, Nat.reduceAdd, canGuess, fIsRequest] at *
   try simp (disch := omega) only [wrapId', toNat1] at *
   try simp (disch := omega) only [if_pos, if_neg]
  all_goals first | trivial | omega | grind [wrapId', toNat1, drop_cons, drop_end, good_len, maxLen, canGuess, fIsRequest])
def E265 := E264.add 68 fCanGuess
theorem E265ok : EOk Tryz.prog E265 := E264ok.add k68_264
theorem k96_265 : fCanGuess.ok Tryz.prog 96 := Fct.o [1,2] E265ok Tryz.func96 (by
  rintro ⟨(r : SRequest), _⟩ hp
  refine ho (.cl fIsRequest (r, ()) fun z2 => .br (z2.1) (.br (r.kind != 1) (.lf fCanGuess (r.to.host.toList == r.from_.toList, ())) (.lf fCanGuess (false, ()))) (.lf fCanGuess (false, ()))) ?_
  refine cl_i ?_ fun o1 => (br_i (fun h2 => br_i (fun h3 => lfY ?_) (fun h3 => lfY ?_)) (fun h2 => lfY ?_))
  all_goals
   try simp only [fCanGuess, fIsRequest, std, Nat.reduceAdd, canGuess, fIsRequest] at *
   try simp (disch := omega) only [wrapId', toNat1] at *
   try simp (disch := omega) only [if_pos, if_neg]
  all_goals first | trivial | omega | grind [wrapId', toNat1, drop_cons, drop_end, good_len, maxLen, canGuess, fIsRequest])
def E266 := E265.add 96 fCanGuess
theorem E266ok : EOk Tryz.prog E266 := E265ok.add k96_265
def guessOk (p : SPage) (out : List SAddr) (r : SRequest) : Bool := canGuess r && (decide (checkRequest p.policy r = 1) && (!isAsked p r.to && !out.any fun c => decide (c = r.to)))
def guessL (p : SPage) : List SRequest → List SAddr → List SAddr
  | [], out => out
  | r :: l, out => if guessOk p out r then guessL p l (out ++ [r.to]) else guessL p l out
theorem guessL_at {p : SPage} {l : List SRequest} {i : Nat} {out : List SAddr} (h : i < l.length) : guessL p (l.drop i) out = if guessOk p out (l.getD i default) then guessL p (l.drop (i + 1)) (out ++ [(l.getD i default).to]) else guessL p (l.drop (i + 1)) out := by rw [drop_cons h]; rfl
theorem guessL_end {p : SPage} {l : List SRequest} {i : Nat} {out : List SAddr} (h : l.length ≤ i) : guessL p (l.drop i) out = out := by rw [List.drop_of_length_le h]; rfl
def guessesOf (p : SPage) : List SAddr := guessL p (scanTokens p.addr.host p.queue) []
theorem guessL_mem {p : SPage} : ∀ {l : List SRequest} {out : List SAddr}, (∀ a ∈ out, isName a.host = true ∧ isName a.path = true) → ∀ a ∈ guessL p l out, isName a.host = true ∧ isName a.path = true
  | [], out, h => h
  | r :: l, out, h => by
    rw [guessL]
    split
    · rename_i hg
      refine guessL_mem fun a ha => ?_
      rcases List.mem_append.1 ha with ha | ha
      · exact h a ha
      · simp only [List.mem_singleton] at ha
        subst ha
        simp only [guessOk, canGuess, isRequest, Bool.and_eq_true] at hg
        exact ⟨hg.1.1.1.1.2.1, hg.1.1.1.1.2.2⟩
    · exact guessL_mem h
theorem scanTo_sz (t : SToken) : (scanTo t).size ≤ szToken t := by
  unfold scanTo
  have h1 := findAttr_sz t.attrs ⟨#[104, 114, 101, 102]⟩
  have h2 := findAttr_sz t.attrs ⟨#[115, 114, 99]⟩
  have h3 : szL szAttr t.attrs ≤ szToken t := by simp only [szToken]; omega
  split <;> omega
theorem scanToken_sz (t : SToken) (b : ByteArray) : szRequest (scanToken t b).1 ≤ 3 * szToken t + 2 * b.size := by
  unfold scanToken
  split
  · have h1 := addrOf_sz (scanTo t) b
    have h2 := scanTo_sz t
    have h3 := findAttr_sz t.attrs ⟨#[100, 105, 103, 101, 115, 116]⟩
    have h4 : szL szAttr t.attrs ≤ szToken t := by simp only [szToken]; omega
    have h5 : szAddr (parseAddr (scanTo t) b).1 ≤ 2 * szToken t + b.size := by
      unfold parseAddr
      split
      · simp only [szAddr]; omega
      · exact Nat.zero_le _
    have h6 : ByteArray.size ⟨#[]⟩ = 0 := rfl
    simp only [szRequest]
    split <;> omega
  · exact Nat.zero_le _
theorem scanTokens_sz (b : ByteArray) {l : List SToken} {B : Nat} (h : szL szToken l ≤ B) : ∀ r ∈ scanTokens b l, szRequest r ≤ 3 * B + 2 * b.size := by
  have key : ∀ l : List SToken, ∀ r ∈ scanTokens b l, szRequest r ≤ 3 * szL szToken l + 2 * b.size := by
    intro l
    induction l with
    | nil => intro r hr; cases hr
    | cons t l ih =>
      intro r hr
      rw [szL_cons]
      simp only [scanTokens] at hr
      split at hr
      · rcases List.mem_cons.1 hr with rfl | hr
        · have := scanToken_sz t b; omega
        · have := ih r hr; omega
      · have := ih r hr; omega
  intro r hr
  have := key l r hr
  omega
def fGuessesOf : Fct := ⟨[.v (.el .page)], [.sl .addr], fun (x_ : SPage × Unit) => szPage x_.1 ≤ 5000000, fun (x_ : SPage × Unit) => (guessesOf x_.1, ())⟩
abbrev W_spec_GuessesOf_fGuessesOf_4 (p : SPage) : LInv := ⟨[⟨.s, 3, true, .sl .addr⟩, ⟨.s, 5, true, .el .int⟩, ⟨.b, 1, false, .el .page⟩, ⟨.s, 4, true, .sl .request⟩], fun (z_ : (List SAddr) × Int × SPage × (List SRequest) × Unit) (x_ : (List SAddr) × Int × SPage × (List SRequest) × Unit) => ((0 ≤ x_.2.1 ∧ x_.2.1 ≤ (scanTokens p.addr.host p.queue).length ∧ x_.1.length ≤ x_.2.1 ∧ guessL p ((scanTokens p.addr.host p.queue).drop x_.2.1.toNat) x_.1 = guessesOf p) ∧ x_.2.2.1 = z_.2.2.1) ∧ x_.2.2.2.1 = z_.2.2.2.1, fun (x_ : (List SAddr) × Int × SPage × (List SRequest) × Unit) => (scanTokens p.addr.host p.queue).length - x_.2.1.toNat⟩
theorem k19_266 : fGuessesOf.ok Tryz.prog 19 := Fct.of (S := fGuessesOf) (L := fun ⟨p, _⟩ => fun | 4 => some (W_spec_GuessesOf_fGuessesOf_4 p) | _ => none) (kp := [1,2,3,4,5,6,17,51,1000017,1000051]) E266ok Tryz.func19 (by kernel_rfl) (by kernel_rfl) (by
  rintro ⟨(p : SPage), _⟩ hp
  refine ho (.cl fScanTokens (p.queue, p.addr.host, ()) fun z2 => lpx (W_spec_GuessesOf_fGuessesOf_4 p) ([], ((0 : Int), (p, (z2.1, ())))) fun (y2 : List SAddr × Int × SPage × List SRequest × PUnit) bk2 => .br (decide (y2.2.1 < (↑y2.2.2.2.1.length : Int))) (.ob (inB y2.2.1 y2.2.2.2.1.length) <| .ob (y2.2.1.toNat < y2.2.2.2.1.length) <| .ob (inB y2.2.1 y2.2.2.2.1.length) <| .ob (y2.2.1.toNat < y2.2.2.2.1.length) <| .cl fCanGuess (y2.2.2.2.1.getD y2.2.1.toNat default, ()) fun z3 => .br (z3.1) (.ob (inB y2.2.1 y2.2.2.2.1.length) <| .ob (y2.2.1.toNat < y2.2.2.2.1.length) <| .cl fCheckRequest (y2.2.2.1.policy, y2.2.2.2.1.getD y2.2.1.toNat default, ()) fun z4 => .br (z4.1 == 1) (.cl fIsAsked (y2.2.2.1, (y2.2.2.2.1.getD y2.2.1.toNat default).to, ()) fun z5 => .br (!z5.1) (.cl fHasAddr (y2.1, (y2.2.2.2.1.getD y2.2.1.toNat default).to, ()) fun z6 => .br (!z6.1) (.ob (True) <| .ob (Room (y2.1.length + [(y2.2.2.2.1.getD y2.2.1.toNat default).to].length) 32) <| .ob (bk2 (y2.1 ++ [(y2.2.2.2.1.getD y2.2.1.toNat default).to], (w1 y2.2.1, (y2.2.2.1, (y2.2.2.2.1, ()))))) <| .ok) (.ob (bk2 (y2.1, (w1 y2.2.1, (y2.2.2.1, (y2.2.2.2.1, ()))))) <| .ok)) (.ob (bk2 (y2.1, (w1 y2.2.1, (y2.2.2.1, (y2.2.2.2.1, ()))))) <| .ok)) (.ob (bk2 (y2.1, (w1 y2.2.1, (y2.2.2.1, (y2.2.2.2.1, ()))))) <| .ok)) (.ob (bk2 (y2.1, (w1 y2.2.1, (y2.2.2.1, (y2.2.2.2.1, ()))))) <| .ok)) (.lf fGuessesOf (y2.1, ()))) ?_
  refine cl_i ?_ fun o1 => (lpx_i ?_ fun (y2 : List SAddr × Int × SPage × List SRequest × PUnit) i2 => br_i (fun h3 => ob_i ?_ fun o4 => ob_i ?_ fun o5 => ob_i ?_ fun o6 => ob_i ?_ fun o7 => cl_i ?_ fun o8 => (br_i (fun h9 => ob_i ?_ fun o10 => ob_i ?_ fun o11 => cl_i ?_ fun o12 => (br_i (fun h13 => cl_i ?_ fun o14 => (br_i (fun h15 => cl_i ?_ fun o16 => (br_i (fun h17 => ob_i trivial fun _ => ob_i ?_ fun o18 => ob_i ?_ fun o19 => trivial) (fun h17 => ob_i ?_ fun o20 => trivial))) (fun h15 => ob_i ?_ fun o21 => trivial))) (fun h13 => ob_i ?_ fun o22 => trivial))) (fun h9 => ob_i ?_ fun o23 => trivial))) (fun h3 => lfY ?_))
  all_goals
   have hz : szL szToken p.queue ≤ szPage p ∧ szL szSlot p.slots ≤ szPage p ∧ szL szModule p.mods ≤ szPage p ∧ p.addr.host.size ≤ szPage p ∧ szPolicy p.policy ≤ szPage p := by simp only [szPage, szAddr]; omega
   have hl := szL_len szToken p.queue
   have hl2 := szL_len szSlot p.slots
   have hl3 := szL_len szModule p.mods
   have hl4 := scanTokens_len p.addr.host p.queue
   have hg : ∀ i, i < (scanTokens p.addr.host p.queue).length → szRequest ((scanTokens p.addr.host p.queue).getD i default) ≤ 100000000 := fun i h => by have := scanTokens_sz p.addr.host hz.1 _ (getD_in (i := i) h); have hp2 : szPage p ≤ 5000000 := hp; omega
   try simp only [W_spec_GuessesOf_fGuessesOf_4, fCanGuess, fCheckRequest, fGuessesOf, fHasAddr, fIsAsked, fScanTokens, std, Nat.reduceAdd, fScanTokens, fCanGuess, fCheckRequest, fIsAsked, fHasAddr, guessL_at, guessL_end, guessOk, guessesOf, List.length_append, List.length_singleton] at *
   try simp (disch := omega) only [wrapId', toNat1] at *
   try simp (disch := omega) only [if_pos, if_neg]
  all_goals first | trivial | omega | grind [wrapId', toNat1, good_len, maxLen, fScanTokens, fCanGuess, fCheckRequest, fIsAsked, fHasAddr, guessL_at, guessL_end, guessOk, guessesOf, List.length_append, List.length_singleton])
def E267 := E266.add 19 fGuessesOf
theorem E267ok : EOk Tryz.prog E267 := E266ok.add k19_266
abbrev W_impl_GuessesOf_fGuessesOf_3 (p : SPage) : LInv := ⟨[⟨.s, 3, true, .sl .addr⟩, ⟨.s, 14, true, .el .int⟩, ⟨.b, 1, false, .el .page⟩, ⟨.s, 12, true, .sl .request⟩], fun (z_ : (List SAddr) × Int × SPage × (List SRequest) × Unit) (x_ : (List SAddr) × Int × SPage × (List SRequest) × Unit) => ((0 ≤ x_.2.1 ∧ x_.2.1 ≤ (scanTokens p.addr.host p.queue).length ∧ x_.1.length ≤ x_.2.1 ∧ guessL p ((scanTokens p.addr.host p.queue).drop x_.2.1.toNat) x_.1 = guessesOf p) ∧ x_.2.2.1 = z_.2.2.1) ∧ x_.2.2.2.1 = z_.2.2.2.1, fun (x_ : (List SAddr) × Int × SPage × (List SRequest) × Unit) => (scanTokens p.addr.host p.queue).length - x_.2.1.toNat⟩
theorem k32_267 : fGuessesOf.ok Tryz.prog 32 := Fct.of (S := fGuessesOf) (L := fun ⟨p, _⟩ => fun | 3 => some (W_impl_GuessesOf_fGuessesOf_3 p) | _ => none) (kp := [1,2,3,5,12,13,14,15,40,1000015,1000040]) E267ok Tryz.func32 (by kernel_rfl) (by kernel_rfl) (by
  rintro ⟨(p : SPage), _⟩ hp
  refine ho (.cl fScanTokens (p.queue, p.addr.host, ()) fun z2 => lpx (W_impl_GuessesOf_fGuessesOf_3 p) ([], ((0 : Int), (p, (z2.1, ())))) fun (y2 : List SAddr × Int × SPage × List SRequest × PUnit) bk2 => .br (decide (y2.2.1 < (↑z2.1.length : Int))) (.ob (inB y2.2.1 y2.2.2.2.1.length) <| .ob (y2.2.1.toNat < y2.2.2.2.1.length) <| .cl fCanGuess (y2.2.2.2.1.getD y2.2.1.toNat default, ()) fun z3 => .br (z3.1) (.cl fCheckRequest (y2.2.2.1.policy, y2.2.2.2.1.getD y2.2.1.toNat default, ()) fun z4 => .br (z4.1 == 1) (.cl fIsAsked (y2.2.2.1, (y2.2.2.2.1.getD y2.2.1.toNat default).to, ()) fun z5 => .br (!z5.1) (.cl fHasAddr (y2.1, (y2.2.2.2.1.getD y2.2.1.toNat default).to, ()) fun z6 => .br (!z6.1) (.ob (True) <| .ob (Room (y2.1.length + [(y2.2.2.2.1.getD y2.2.1.toNat default).to].length) 32) <| .ob (Value.int IntKind.i64 (↑z2.1.length : Int) = Value.int IntKind.i64 (↑z2.1.length : Int)) <| .ob (bk2 (y2.1 ++ [(y2.2.2.2.1.getD y2.2.1.toNat default).to], (w1 y2.2.1, (y2.2.2.1, (y2.2.2.2.1, ()))))) <| .ok) (.ob (Value.int IntKind.i64 (↑z2.1.length : Int) = Value.int IntKind.i64 (↑z2.1.length : Int)) <| .ob (bk2 (y2.1, (w1 y2.2.1, (y2.2.2.1, (y2.2.2.2.1, ()))))) <| .ok)) (.ob (Value.int IntKind.i64 (↑z2.1.length : Int) = Value.int IntKind.i64 (↑z2.1.length : Int)) <| .ob (bk2 (y2.1, (w1 y2.2.1, (y2.2.2.1, (y2.2.2.2.1, ()))))) <| .ok)) (.ob (Value.int IntKind.i64 (↑z2.1.length : Int) = Value.int IntKind.i64 (↑z2.1.length : Int)) <| .ob (bk2 (y2.1, (w1 y2.2.1, (y2.2.2.1, (y2.2.2.2.1, ()))))) <| .ok)) (.ob (Value.int IntKind.i64 (↑z2.1.length : Int) = Value.int IntKind.i64 (↑z2.1.length : Int)) <| .ob (bk2 (y2.1, (w1 y2.2.1, (y2.2.2.1, (y2.2.2.2.1, ()))))) <| .ok)) (.lf fGuessesOf (y2.1, ()))) ?_
  refine cl_i ?_ fun o1 => (lpx_i ?_ fun (y2 : List SAddr × Int × SPage × List SRequest × PUnit) i2 => br_i (fun h3 => ob_i ?_ fun o4 => ob_i ?_ fun o5 => cl_i ?_ fun o6 => (br_i (fun h7 => cl_i ?_ fun o8 => (br_i (fun h9 => cl_i ?_ fun o10 => (br_i (fun h11 => cl_i ?_ fun o12 => (br_i (fun h13 => ob_i trivial fun _ => ob_i ?_ fun o14 => ob_i rfl fun _ => ob_i ?_ fun o15 => trivial) (fun h13 => ob_i rfl fun _ => ob_i ?_ fun o16 => trivial))) (fun h11 => ob_i rfl fun _ => ob_i ?_ fun o17 => trivial))) (fun h9 => ob_i rfl fun _ => ob_i ?_ fun o18 => trivial))) (fun h7 => ob_i rfl fun _ => ob_i ?_ fun o19 => trivial))) (fun h3 => lfY ?_))
  all_goals
   have hz : szL szToken p.queue ≤ szPage p ∧ szL szSlot p.slots ≤ szPage p ∧ szL szModule p.mods ≤ szPage p ∧ p.addr.host.size ≤ szPage p ∧ szPolicy p.policy ≤ szPage p := by simp only [szPage, szAddr]; omega
   have hl := szL_len szToken p.queue
   have hl2 := szL_len szSlot p.slots
   have hl3 := szL_len szModule p.mods
   have hl4 := scanTokens_len p.addr.host p.queue
   have hg : ∀ i, i < (scanTokens p.addr.host p.queue).length → szRequest ((scanTokens p.addr.host p.queue).getD i default) ≤ 100000000 := fun i h => by have := scanTokens_sz p.addr.host hz.1 _ (getD_in (i := i) h); have hp2 : szPage p ≤ 5000000 := hp; omega
   try simp only [W_impl_GuessesOf_fGuessesOf_3, fCanGuess, fCheckRequest, fGuessesOf, fHasAddr, fIsAsked, fScanTokens, std, Nat.reduceAdd, fScanTokens, fCanGuess, fCheckRequest, fIsAsked, fHasAddr, guessL_at, guessL_end, guessOk, guessesOf, List.length_append, List.length_singleton] at *
   try simp (disch := omega) only [wrapId', toNat1] at *
   try simp (disch := omega) only [if_pos, if_neg]
  all_goals first | trivial | omega | grind [wrapId', toNat1, good_len, maxLen, fScanTokens, fCanGuess, fCheckRequest, fIsAsked, fHasAddr, guessL_at, guessL_end, guessOk, guessesOf, List.length_append, List.length_singleton])
def E268 := E267.add 32 fGuessesOf
theorem E268ok : EOk Tryz.prog E268 := E267ok.add k32_267
def fCopyLoader : Fct := ⟨[.v (.el .loader)], [.el .loader], fun (x_ : SLoader × Unit) => szNet x_.1.net ≤ 68719476736 ∧ szPage x_.1.page ≤ 1073741824 ∧ x_.1.parts.length ≤ 1000000000 ∧ x_.1.conns.length ≤ 1048576 ∧ x_.1.guesses.length ≤ 1048576, fun (x_ : SLoader × Unit) => (x_.1, ())⟩
theorem k16_268 : fCopyLoader.ok Tryz.prog 16 := Fct.o [1,2] E268ok Tryz.func16 (by
  rintro ⟨(l : SLoader), _⟩ hp
  refine ho (.cl fCopyNet (l.net, ()) fun z2 => .cl fCopyPage (l.page, ()) fun z3 => .ob (True) <| .ob (Room l.parts.length 16) <| .ob (True) <| .ob (Room l.conns.length 112) <| .ob (True) <| .ob (Room l.guesses.length 104) <| .lf fCopyLoader (⟨z2.1, z3.1, l.parts, l.conns, l.guesses⟩, ())) ?_
  refine cl_i ?_ fun o1 => (cl_i ?_ fun o2 => (ob_i trivial fun _ => ob_i ?_ fun o3 => ob_i trivial fun _ => ob_i ?_ fun o4 => ob_i trivial fun _ => ob_i ?_ fun o5 => lfY ?_))
  all_goals
   try simp only [fCopyLoader, fCopyNet, fCopyPage, std, Nat.reduceAdd, fCopyNet, fCopyPage, fCopyConns, fCopyGuesses] at *
   try simp (disch := omega) only [wrapId', toNat1] at *
   try simp (disch := omega) only [if_pos, if_neg]
  all_goals first | trivial | omega | grind [wrapId', toNat1, drop_cons, drop_end, good_len, maxLen, fCopyNet, fCopyPage, fCopyConns, fCopyGuesses])
def E269 := E268.add 16 fCopyLoader
theorem E269ok : EOk Tryz.prog E269 := E268ok.add k16_268
theorem k29_269 : fCopyLoader.ok Tryz.prog 29 := Fct.o [1,2] E269ok Tryz.func29 (by
  rintro ⟨(l : SLoader), _⟩ hp
  refine ho (.cl fCopyNet (l.net, ()) fun z2 => .cl fCopyPage (l.page, ()) fun z3 => .ob (True) <| .ob (Room l.parts.length 16) <| .cl fCopyConns (l.conns, ()) fun z4 => .cl fCopyGuesses (l.guesses, ()) fun z5 => .lf fCopyLoader (⟨z2.1, z3.1, l.parts, z4.1, z5.1⟩, ())) ?_
  refine cl_i ?_ fun o1 => (cl_i ?_ fun o2 => (ob_i trivial fun _ => ob_i ?_ fun o3 => cl_i ?_ fun o4 => (cl_i ?_ fun o5 => (lfY ?_))))
  all_goals
   try simp only [fCopyConns, fCopyGuesses, fCopyLoader, fCopyNet, fCopyPage, std, Nat.reduceAdd, fCopyNet, fCopyPage, fCopyConns, fCopyGuesses] at *
   try simp (disch := omega) only [wrapId', toNat1] at *
   try simp (disch := omega) only [if_pos, if_neg]
  all_goals first | trivial | omega | grind [wrapId', toNat1, drop_cons, drop_end, good_len, maxLen, fCopyNet, fCopyPage, fCopyConns, fCopyGuesses])
def E270 := E269.add 29 fCopyLoader
theorem E270ok : EOk Tryz.prog E270 := E269ok.add k29_269
def nextGuess (l : SLoader) : List SAddr → SLoader × Bool
  | [] => (l, false)
  | a :: r => if 0 ≤ findGuess l.guesses a ∨ 0 ≤ findConn a l.conns 0 then nextGuess l r else (⟨(fetchNow l.net l.page.addr.host a true).1, l.page, l.parts, (openConn l.conns a (fetchNow l.net l.page.addr.host a true).2 true).1, l.guesses⟩, true)
theorem nextGuess_at {l : SLoader} {m : List SAddr} {i : Nat} (h : i < m.length) : nextGuess l (m.drop i) = if 0 ≤ findGuess l.guesses (m.getD i default) ∨ 0 ≤ findConn (m.getD i default) l.conns 0 then nextGuess l (m.drop (i + 1)) else (⟨(fetchNow l.net l.page.addr.host (m.getD i default) true).1, l.page, l.parts, (openConn l.conns (m.getD i default) (fetchNow l.net l.page.addr.host (m.getD i default) true).2 true).1, l.guesses⟩, true) := by rw [drop_cons h]; rfl
theorem nextGuess_end {l : SLoader} {m : List SAddr} {i : Nat} (h : m.length ≤ i) : nextGuess l (m.drop i) = (l, false) := by rw [List.drop_of_length_le h]; rfl
def guessNext (l : SLoader) : SLoader × Bool := if 3 ≤ l.conns.length ∨ 6 ≤ (countIf (fun g : SGuess => !g.used) l.guesses : Int) + (countGuess l.conns : Int) then (l, false) else nextGuess l (guessesOf l.page)
theorem guesses_name {p : SPage} {i : Nat} (h : i < (guessesOf p).length) : szAddr ((guessesOf p).getD i default) ≤ 16 := by
  have := guessL_mem (p := p) (l := scanTokens p.addr.host p.queue) (out := []) (by simp) _ (getD_in (i := i) h)
  have h1 := isName_size this.1
  have h2 := isName_size this.2
  simp only [szAddr]
  simp only [guessesOf]; omega
theorem loader_sz (l : SLoader) : szNet l.net ≤ szLoader l ∧ szPage l.page ≤ szLoader l ∧ l.parts.length ≤ szLoader l ∧ l.conns.length ≤ szLoader l ∧ l.guesses.length ≤ szLoader l ∧ l.page.addr.host.size ≤ szLoader l ∧ szCache l.net.cache ≤ szLoader l ∧ szL szServer l.net.servers ≤ szLoader l := by
  have h1 := szL_len szString l.parts
  have h2 := szL_len szConn l.conns
  have h3 := szL_len szGuess l.guesses
  have h4 := net_sz l.net
  have h5 := page_sz l.page
  simp only [szLoader]; omega
theorem guessL_len {p : SPage} : ∀ {l : List SRequest} {out : List SAddr}, (guessL p l out).length ≤ out.length + l.length
  | [], out => Nat.le_refl _
  | r :: l, out => by
    rw [guessL]
    split
    · have := guessL_len (p := p) (l := l) (out := out ++ [r.to]); simp only [List.length_append, List.length_cons, List.length_nil] at *; omega
    · have := guessL_len (p := p) (l := l) (out := out); simp only [List.length_cons]; omega
theorem guessesOf_len (p : SPage) : (guessesOf p).length ≤ szPage p := by
  have h1 := guessL_len (p := p) (l := scanTokens p.addr.host p.queue) (out := [])
  have h2 := scanTokens_len p.addr.host p.queue
  have h3 := szL_len szToken p.queue
  simp only [guessesOf, szPage, List.length_nil] at *; omega
def fGuessNext : Fct := ⟨[.v (.el .loader)], [.el .loader, .el .bool], fun (x_ : SLoader × Unit) => szLoader x_.1 ≤ 1048576, fun (x_ : SLoader × Unit) => ((guessNext x_.1).1, (guessNext x_.1).2, ())⟩
abbrev W_spec_GuessNext_fGuessNext_6 (l : SLoader) : LInv := ⟨[⟨.s, 6, true, .el .int⟩, ⟨.b, 1, false, .el .loader⟩, ⟨.b, 2, true, .el .loader⟩, ⟨.b, 4, true, .el .loader⟩, ⟨.s, 5, true, .sl .addr⟩], fun (z_ : Int × SLoader × SLoader × SLoader × (List SAddr) × Unit) (x_ : Int × SLoader × SLoader × SLoader × (List SAddr) × Unit) => ((((0 ≤ x_.1 ∧ x_.1 ≤ (guessesOf l.page).length ∧ nextGuess l ((guessesOf l.page).drop x_.1.toNat) = nextGuess l (guessesOf l.page)) ∧ x_.2.1 = z_.2.1) ∧ x_.2.2.1 = z_.2.2.1) ∧ x_.2.2.2.1 = z_.2.2.2.1) ∧ x_.2.2.2.2.1 = z_.2.2.2.2.1, fun (x_ : Int × SLoader × SLoader × SLoader × (List SAddr) × Unit) => (guessesOf l.page).length - x_.1.toNat⟩
theorem k5_270 : fGuessNext.ok Tryz.prog 5 := Fct.of (S := fGuessNext) (L := fun ⟨l, _⟩ => fun | 6 => some (W_spec_GuessNext_fGuessNext_6 l) | _ => none) (kp := [1,2,3,4,5,6,7,8,9,25,33,51,1000025,1000033,1000051]) E270ok Tryz.func5 (by kernel_rfl) (by kernel_rfl) (by
  rintro ⟨(l : SLoader), _⟩ hp
  refine ho (.cl fCopyLoader (l, ()) fun z2 => .br (decide ((↑l.conns.length : Int) ≥ 3)) (.lf fGuessNext (z2.1, false, ())) (.cl fUnused (l.guesses, ()) fun z3 => .cl fCount (l.conns, ()) fun z4 => .br (decide (wr (z3.1 + z4.1) ≥ 6)) (.lf fGuessNext (z2.1, false, ())) (.cl fGuessesOf (l.page, ()) fun z5 => lpx (W_spec_GuessNext_fGuessNext_6 l) ((0 : Int), (l, (default, (z2.1, (z5.1, ()))))) fun (y7 : Int × SLoader × SLoader × SLoader × List SAddr × PUnit) bk7 => .br (decide (y7.1 < (↑y7.2.2.2.2.1.length : Int))) (.ob (inB y7.1 y7.2.2.2.2.1.length) <| .ob (y7.1.toNat < y7.2.2.2.2.1.length) <| .cl fFindGuess (y7.2.1.guesses, y7.2.2.2.2.1.getD y7.1.toNat default, ()) fun z6 => .br (decide (z6.1 ≥ 0)) (.ob (bk7 (w1 y7.1, (y7.2.1, (y7.2.2.1, (y7.2.2.2.1, (y7.2.2.2.2.1, ())))))) <| .ok) (.cl fFind (y7.2.1.conns, y7.2.2.2.2.1.getD y7.1.toNat default, ()) fun z7 => .br (decide (z7.1 ≥ 0)) (.ob (bk7 (w1 y7.1, (y7.2.1, (y7.2.2.1, (y7.2.2.2.1, (y7.2.2.2.2.1, ())))))) <| .ok) (.cl fFetchNow (y7.2.1.net, y7.2.1.page.addr.host, y7.2.2.2.2.1.getD y7.1.toNat default, true, ()) fun z8 => .cl fOpen (y7.2.1.conns, y7.2.2.2.2.1.getD y7.1.toNat default, z8.2.1, true, ()) fun z9 => .lf fGuessNext (⟨z8.1, y7.2.2.2.1.page, y7.2.2.2.1.parts, z9.1, y7.2.2.2.1.guesses⟩, true, ())))) (.lf fGuessNext (y7.2.2.2.1, false, ()))))) ?_
  refine cl_i ?_ fun o1 => (br_i (fun h2 => lfY ?_) (fun h2 => cl_i ?_ fun o3 => (cl_i ?_ fun o4 => (br_i (fun h5 => lfY ?_) (fun h5 => cl_i ?_ fun o6 => (lpx_i ?_ fun (y7 : Int × SLoader × SLoader × SLoader × List SAddr × PUnit) i7 => br_i (fun h8 => ob_i ?_ fun o9 => ob_i ?_ fun o10 => cl_i ?_ fun o11 => (br_i (fun h12 => ob_i ?_ fun o13 => trivial) (fun h12 => cl_i ?_ fun o14 => (br_i (fun h15 => ob_i ?_ fun o16 => trivial) (fun h15 => cl_i ?_ fun o17 => (cl_i ?_ fun o18 => (lfY ?_))))))) (fun h8 => lfY ?_)))))))
  all_goals
   have hz := loader_sz l
   have hf := fun a => fetch_sz l.net l.page.addr.host a true
   have hb2 : ∀ x : SResponse, x.body.size ≤ szResponse x := fun x => Nat.le_add_right _ _
   have hn := fun {i : Nat} (h : i < (guessesOf l.page).length) => guesses_name (p := l.page) h
   have hc := countIf_le (fun g : SGuess => !g.used) l.guesses
   have hc2 := countGuess_le l.conns
   have hgl := guessesOf_len l.page
  all_goals try (obtain ⟨⟨⟨⟨⟨a1, a2, a3⟩, a4⟩, a5⟩, a6⟩, a7⟩ := i7; simp only [a4, a5, a6, a7] at *)
  all_goals
   try simp only [W_spec_GuessNext_fGuessNext_6, fCopyLoader, fCount, fFetchNow, fFind, fFindGuess, fGuessNext, fGuessesOf, fOpen, fUnused, std, Nat.reduceAdd, guessNext, fCopyLoader, fGuessesOf, fUnused, fCount, fFindGuess, fFind, fFetchNow, fOpen, nextGuess_at, nextGuess_end] at *
   try simp (disch := omega) only [wrapId', toNat1] at *
   try simp (disch := omega) only [if_pos, if_neg]
  all_goals first | trivial | omega | grind [wrapId', toNat1, good_len, maxLen, guessNext, fCopyLoader, fGuessesOf, fUnused, fCount, fFindGuess, fFind, fFetchNow, fOpen, nextGuess_at, nextGuess_end])
def E271 := E270.add 5 fGuessNext
theorem E271ok : EOk Tryz.prog E271 := E270ok.add k5_270
abbrev W_impl_GuessNext_fGuessNext_5 (l : SLoader) : LInv := ⟨[⟨.s, 30, true, .el .int⟩, ⟨.b, 1, false, .el .loader⟩, ⟨.b, 2, true, .el .loader⟩, ⟨.b, 4, true, .el .loader⟩, ⟨.s, 28, true, .sl .addr⟩], fun (z_ : Int × SLoader × SLoader × SLoader × (List SAddr) × Unit) (x_ : Int × SLoader × SLoader × SLoader × (List SAddr) × Unit) => ((((0 ≤ x_.1 ∧ x_.1 ≤ (guessesOf l.page).length ∧ nextGuess l ((guessesOf l.page).drop x_.1.toNat) = nextGuess l (guessesOf l.page)) ∧ x_.2.1 = z_.2.1) ∧ x_.2.2.1 = z_.2.2.1) ∧ x_.2.2.2.1 = z_.2.2.2.1) ∧ x_.2.2.2.2.1 = z_.2.2.2.2.1, fun (x_ : Int × SLoader × SLoader × SLoader × (List SAddr) × Unit) => (guessesOf l.page).length - x_.1.toNat⟩
theorem k7_271 : fGuessNext.ok Tryz.prog 7 := Fct.of (S := fGuessNext) (L := fun ⟨l, _⟩ => fun | 5 => some (W_impl_GuessNext_fGuessNext_5 l) | _ => none) (kp := [1,2,3,4,6,7,8,24,28,29,30,31,45,1000024,1000031,1000045]) E271ok Tryz.func7 (by kernel_rfl) (by kernel_rfl) (by
  rintro ⟨(l : SLoader), _⟩ hp
  refine ho (.cl fCopyLoader (l, ()) fun z2 => .br (decide ((↑l.conns.length : Int) ≥ 3)) (.lf fGuessNext (z2.1, false, ())) (.cl fUnused (l.guesses, ()) fun z3 => .cl fCount (l.conns, ()) fun z4 => .br (decide (wr (z3.1 + z4.1) ≥ 6)) (.lf fGuessNext (z2.1, false, ())) (.cl fGuessesOf (l.page, ()) fun z5 => lpx (W_impl_GuessNext_fGuessNext_5 l) ((0 : Int), (l, (default, (z2.1, (z5.1, ()))))) fun (y7 : Int × SLoader × SLoader × SLoader × List SAddr × PUnit) bk7 => .br (decide (y7.1 < (↑z5.1.length : Int))) (.ob (inB y7.1 y7.2.2.2.2.1.length) <| .ob (y7.1.toNat < y7.2.2.2.2.1.length) <| .cl fFindGuess (y7.2.1.guesses, y7.2.2.2.2.1.getD y7.1.toNat default, ()) fun z6 => .br (decide (z6.1 ≥ 0)) (.ob (Value.int IntKind.i64 (↑z5.1.length : Int) = Value.int IntKind.i64 (↑z5.1.length : Int)) <| .ob (bk7 (w1 y7.1, (y7.2.1, (y7.2.2.1, (y7.2.2.2.1, (y7.2.2.2.2.1, ())))))) <| .ok) (.cl fFind (y7.2.1.conns, y7.2.2.2.2.1.getD y7.1.toNat default, ()) fun z7 => .br (decide (z7.1 ≥ 0)) (.ob (Value.int IntKind.i64 (↑z5.1.length : Int) = Value.int IntKind.i64 (↑z5.1.length : Int)) <| .ob (bk7 (w1 y7.1, (y7.2.1, (y7.2.2.1, (y7.2.2.2.1, (y7.2.2.2.2.1, ())))))) <| .ok) (.cl fFetchNow (y7.2.2.2.1.net, y7.2.1.page.addr.host, y7.2.2.2.2.1.getD y7.1.toNat default, true, ()) fun z8 => .cl fOpen (y7.2.2.2.1.conns, y7.2.2.2.2.1.getD y7.1.toNat default, z8.2.1, true, ()) fun z9 => .lf fGuessNext (⟨z8.1, y7.2.2.2.1.page, y7.2.2.2.1.parts, z9.1, y7.2.2.2.1.guesses⟩, true, ())))) (.lf fGuessNext (y7.2.2.2.1, false, ()))))) ?_
  refine cl_i ?_ fun o1 => (br_i (fun h2 => lfY ?_) (fun h2 => cl_i ?_ fun o3 => (cl_i ?_ fun o4 => (br_i (fun h5 => lfY ?_) (fun h5 => cl_i ?_ fun o6 => (lpx_i ?_ fun (y7 : Int × SLoader × SLoader × SLoader × List SAddr × PUnit) i7 => br_i (fun h8 => ob_i ?_ fun o9 => ob_i ?_ fun o10 => cl_i ?_ fun o11 => (br_i (fun h12 => ob_i rfl fun _ => ob_i ?_ fun o13 => trivial) (fun h12 => cl_i ?_ fun o14 => (br_i (fun h15 => ob_i rfl fun _ => ob_i ?_ fun o16 => trivial) (fun h15 => cl_i ?_ fun o17 => (cl_i ?_ fun o18 => (lfY ?_))))))) (fun h8 => lfY ?_)))))))
  all_goals
   have hz := loader_sz l
   have hf := fun a => fetch_sz l.net l.page.addr.host a true
   have hb2 : ∀ x : SResponse, x.body.size ≤ szResponse x := fun x => Nat.le_add_right _ _
   have hn := fun {i : Nat} (h : i < (guessesOf l.page).length) => guesses_name (p := l.page) h
   have hc := countIf_le (fun g : SGuess => !g.used) l.guesses
   have hc2 := countGuess_le l.conns
   have hgl := guessesOf_len l.page
  all_goals try (obtain ⟨⟨⟨⟨⟨a1, a2, a3⟩, a4⟩, a5⟩, a6⟩, a7⟩ := i7; simp only [a4, a5, a6, a7] at *)
  all_goals
   try simp only [W_impl_GuessNext_fGuessNext_5, fCopyLoader, fCount, fFetchNow, fFind, fFindGuess, fGuessNext, fGuessesOf, fOpen, fUnused, std, Nat.reduceAdd, guessNext, fCopyLoader, fGuessesOf, fUnused, fCount, fFindGuess, fFind, fFetchNow, fOpen, nextGuess_at, nextGuess_end] at *
   try simp (disch := omega) only [wrapId', toNat1] at *
   try simp (disch := omega) only [if_pos, if_neg]
  all_goals first | trivial | omega | grind [wrapId', toNat1, good_len, maxLen, guessNext, fCopyLoader, fGuessesOf, fUnused, fCount, fFindGuess, fFind, fFetchNow, fOpen, nextGuess_at, nextGuess_end])
def E272 := E271.add 7 fGuessNext
theorem E272ok : EOk Tryz.prog E272 := E271ok.add k7_271
theorem nextGuess_sz {l : SLoader} : ∀ {m : List SAddr}, (∀ a ∈ m, szAddr a ≤ 16) → szLoader (nextGuess l m).1 ≤ 10 * szLoader l + 200
  | [], _ => by simp only [nextGuess]; omega
  | a :: m, h => by
    have ih := nextGuess_sz (l := l) (m := m) fun x hx => h x (List.mem_cons_of_mem _ hx)
    have ha := h a List.mem_cons_self
    have h1 := fetch_net_sz l.net l.page.addr.host a true
    have h2 := fetch_sz l.net l.page.addr.host a true
    have h3 := loader_sz l
    have h4 : szL szConn (openConn l.conns a (fetchNow l.net l.page.addr.host a true).2 true).1 ≤ szL szConn l.conns + (szAddr a + szResponse (fetchNow l.net l.page.addr.host a true).2 + 1) := by
      unfold openConn
      split
      · simp only; omega
      · simp only; rw [szL_snoc]; simp only [szConn]; omega
    simp only [nextGuess]
    split
    · exact ih
    · simp only [szLoader] at *; omega
theorem guessNext_sz (l : SLoader) : szLoader (guessNext l).1 ≤ 10 * szLoader l + 200 := by
  unfold guessNext
  split
  · simp only; omega
  · refine nextGuess_sz fun a ha => ?_
    obtain ⟨i, hi, he⟩ := List.mem_iff_getElem.1 ha
    have := guesses_name (p := l.page) hi
    rw [List.getD_eq_getElem?_getD, List.getElem?_eq_getElem hi, he] at this
    exact this
def lLoader1 : Fct := lawFS [.el .loader]
theorem k3_272 : lLoader1.ok Tryz.prog 3 := Fct.o [1,2,3,4,5,6,7,8,9,10,11,12,13,18,40,45,61,69,72,87,92,95,1000018,1000040,1000045,1000061,1000069,1000072,1000087,1000092,1000095] E272ok Tryz.func3 (by
  rintro ⟨(l : SLoader), _⟩ hp
  refine ho (.cl fszLoader (l, (1048576 : Int), ()) fun z2 => .br (decide (z2.1 < 0)) (.leaf (mkR lLoader1.rs (true, ())) [] []) (.cl ftoLoader (l, ()) fun z3 => .cl fGuessNext (z3.1, ()) fun z4 => .cl ftoLoader (l, ()) fun z5 => .cl fGuessNext (z5.1, ()) fun z6 => .cl feqLoader (z6.1, z4.1, ()) fun z7 => .br (!z7.1) (.leaf (mkR lLoader1.rs (false, ())) [] []) (.br (!z6.2.1 == z4.2.1) (.leaf (mkR lLoader1.rs (false, ())) [] []) (.cl ftoLoader (l, ()) fun z8 => .cl feqLoader (z5.1, z8.1, ()) fun z9 => .br (!z9.1) (.leaf (mkR lLoader1.rs (false, ())) [] []) (.ob (fmarkLoader.pre z5.1 (1 : Int)) <| .lt _ (fmarkLoader.fn z5.1 (1 : Int)) fun z10 => .br (decide (z10.2 < 0)) (.leaf (mkR lLoader1.rs (false, ())) [] []) (.cl feqLoader (z6.1, z4.1, ()) fun z11 => .br (!z11.1) (.leaf (mkR lLoader1.rs (false, ())) [] []) (.br (!z6.2.1 == z4.2.1) (.leaf (mkR lLoader1.rs (false, ())) [] []) (.ob (fmarkLoader.pre z6.1 (1 : Int)) <| .lt _ (fmarkLoader.fn z6.1 (1 : Int)) fun z12 => .cl fheldLoader ((⟨(⟨z12.1.net.servers, z12.1.net.cache, z12.1.net.log, z6.1.net.now⟩ : SNet), (⟨z6.1.page.addr, (⟨z6.1.page.policy.set_, z12.1.page.policy.scripts, z12.1.page.policy.styles, z12.1.page.policy.images, z6.1.page.policy.nonce⟩ : SPolicy), z6.1.page.tok, z12.1.page.queue, z6.1.page.ended, z12.1.page.builder, z12.1.page.slots, z12.1.page.mods, z12.1.page.entries, z6.1.page.block, z6.1.page.inline, z6.1.page.deferred, z6.1.page.entered, z12.1.page.ran, z12.1.page.log, z6.1.page.loaded⟩ : SPage), z12.1.parts, z12.1.conns, z12.1.guesses⟩ : SLoader), (1 : Int), ()) fun z13 => .br (decide (z13.1 < 0)) (.leaf (mkR lLoader1.rs (false, ())) [] []) (.br (z13.1 != z12.2) (.leaf (mkR lLoader1.rs (false, ())) [] []) (.cl ftoLoader (l, ()) fun z14 => .cl fGuessNext (z14.1, ()) fun z15 => .cl feqLoader (z15.1, z4.1, ()) fun z16 => .br (!z16.1) (.leaf (mkR lLoader1.rs (false, ())) [] []) (.br (!z15.2.1 == z4.2.1) (.leaf (mkR lLoader1.rs (false, ())) [] []) (.cl fheldLoader ((⟨(⟨z12.1.net.servers, z12.1.net.cache, z12.1.net.log, z6.1.net.now⟩ : SNet), (⟨z6.1.page.addr, (⟨z6.1.page.policy.set_, z12.1.page.policy.scripts, z12.1.page.policy.styles, z12.1.page.policy.images, z6.1.page.policy.nonce⟩ : SPolicy), z6.1.page.tok, z12.1.page.queue, z6.1.page.ended, z12.1.page.builder, z12.1.page.slots, z12.1.page.mods, z12.1.page.entries, z6.1.page.block, z6.1.page.inline, z6.1.page.deferred, z6.1.page.entered, z12.1.page.ran, z12.1.page.log, z6.1.page.loaded⟩ : SPage), z12.1.parts, z12.1.conns, z12.1.guesses⟩ : SLoader), (1 : Int), ()) fun z17 => .br (decide (z17.1 < 0)) (.leaf (mkR lLoader1.rs (false, ())) [] []) (.br (z17.1 != z12.2) (.leaf (mkR lLoader1.rs (false, ())) [] []) (.leaf (mkR lLoader1.rs (true, ())) [] [])))))))))))))) ?_
  refine cl_e ?_ fun o1 z2 ez2 => (br_i (fun h2 => Fct.leafY ?_) (fun h2 => cl_e ?_ fun o3 z3 ez3 => (cl_e ?_ fun o4 z4 ez4 => (cl_e ?_ fun o5 z5 ez5 => (cl_e ?_ fun o6 z6 ez6 => (cl_e ?_ fun o7 z7 ez7 => (br_i (fun h8 => Fct.leafY ?_) (fun h8 => br_i (fun h9 => Fct.leafY ?_) (fun h9 => cl_e ?_ fun o10 z8 ez8 => (cl_e ?_ fun o11 z9 ez9 => (br_i (fun h12 => Fct.leafY ?_) (fun h12 => ob_i ?_ fun o13 => lt_e fun z10 ez10 => (br_i (fun h14 => Fct.leafY ?_) (fun h14 => cl_e ?_ fun o15 z11 ez11 => (br_i (fun h16 => Fct.leafY ?_) (fun h16 => br_i (fun h17 => Fct.leafY ?_) (fun h17 => ob_i ?_ fun o18 => lt_e fun z12 ez12 => (cl_e ?_ fun o19 z13 ez13 => (br_i (fun h20 => Fct.leafY ?_) (fun h20 => br_i (fun h21 => Fct.leafY ?_) (fun h21 => cl_e ?_ fun o22 z14 ez14 => (cl_e ?_ fun o23 z15 ez15 => (cl_e ?_ fun o24 z16 ez16 => (br_i (fun h25 => Fct.leafY ?_) (fun h25 => br_i (fun h26 => Fct.leafY ?_) (fun h26 => cl_e ?_ fun o27 z17 ez17 => (br_i (fun h28 => Fct.leafY ?_) (fun h28 => br_i (fun h29 => Fct.leafY ?_) (fun h29 => Fct.leafY ?_)))))))))))))))))))))))))))))
  all_goals
   have hsz := guessNext_sz l
   have hg0 : Sh.good (.el .loader) l := hp.1
   clear hp
   try have hbd0 := mvLoader_bd z5.fst (1 : Int)
   try have hbd1 := mvLoader_bd z6.fst (1 : Int)
  all_goals subst_vars
  all_goals
   try simp only [std0] at *
   try simp only [fGuessNext, feqLoader, fheldLoader, fmarkLoader, fszLoader, ftoLoader, lLoader1, std, Nat.reduceAdd, decide_true] at *
   try simp only [mvLoader_re] at *
  all_goals first | trivial | omega | grind [lessen])
def E273 := E272.add 3 lLoader1
theorem E273ok : EOk Tryz.prog E273 := E272ok.add k3_272
section
open Go.ChangeShapes Go.WideShapes Go.ChangeAt Go.RowKit
theorem own : ownKnob Tryz.prog.godebug = none := by kernel_rfl
theorem types : ∀ e t, tyOf e = some t → e ∈ ([3, 4, 5, 9, 25, 28, 30, 33, 35, 40, 45, 49, 54, 57, 58, 59, 60, 64, 69, 73, 92, 123, 125, 128, 132, 134, 138, 149, 197, 201, 205, 210, 213, 224, 227, 231, 236, 238, 249, 273, 277, 280, 309, 312, 314] : List TypeId) := by
  intro e t h
  unfold tyOf at h
  split at h <;> first | (simp; done) | cases h
theorem lifted (os : Os) (started : os.Started) (H : Type) (enc : TypeId × Value → H) :
    ReturnsInHanded {} Tryz.checked os 3 .any (fun w args => (Rows.fnExactGuessNextSpec.pre enc Tryz.prog Tryz.f3 [] false w args ∧ laidMetH Tryz.prog [("unicode/utf8.acceptRanges", Rows.laid_unicode_utf8_acceptRanges), ("unicode/utf8.first", Rows.laid_unicode_utf8_first)] w) ∧ sizedMet enc Tryz.prog Tryz.f3 (OpenSpec.ofChange Rows.fnExactGuessNextSpec) false w args) (Rows.fnExactGuessNextSpec.post enc Tryz.prog Tryz.f3 false true false false) := by
  refine handed_shL (C := Tryz.checked) (X := fun w _ => laidMetH Tryz.prog [("unicode/utf8.acceptRanges", Rows.laid_unicode_utf8_acceptRanges), ("unicode/utf8.first", Rows.laid_unicode_utf8_first)] w) (fun _ _ _ hh h => h.of_heap hh) own started (by kernel_rfl) Tryz.func3
    (ChangeSpec.witness_shaped (enc := enc) (C := Tryz.checked) (os := os) (X := fun w _ => laidMetH Tryz.prog [("unicode/utf8.acceptRanges", Rows.laid_unicode_utf8_acceptRanges), ("unicode/utf8.first", Rows.laid_unicode_utf8_first)] w) false (World.laidAll Tryz.prog os [("unicode/utf8.acceptRanges", Rows.laid_unicode_utf8_acceptRanges), ("unicode/utf8.first", Rows.laid_unicode_utf8_first)]) #[.agg #[.slice none 0 0, .slice none 0 0, .slice none 0 0, .int .i64 0, .string ⟨#[]⟩, .string ⟨#[]⟩, .bool false, .slice none 0 0, .slice none 0 0, .slice none 0 0, .string ⟨#[]⟩, .string ⟨#[]⟩, .slice none 0 0, .bool false, .slice none 0 0, .slice none 0 0, .slice none 0 0, .slice none 0 0, .slice none 0 0, .int .i64 0, .int .i64 0, .int .i64 0, .int .i64 0, .slice none 0 0, .slice none 0 0, .bool false, .slice none 0 0, .slice none 0 0, .slice none 0 0]] 8 (World.laidAll_os _ _ _) (World.shaped_of_ZipB (by kernel_rfl) (by kernel_rfl)) (by kernel_rfl) (by kernel_rfl) (by kernel_rfl)
      (by rw [MakeChecks.laidMetH_plain _ _ _ (by kernel_rfl)]; exact laidMet_laidAll _ (by kernel_rfl) (by kernel_rfl))) ?_
  intro W base args ds gs before hval0 hW hsh hL
  have hval : ∀ (j : Nat) t v, Tryz.f3.params[j]? = some t → args[j]? = some v → Value.okWide Tryz.prog W .any base t v := hval0
  refine law_calls (show rowOk Tryz.prog Tryz.f3 tyOf [3, 4, 5, 9, 25, 28, 30, 33, 35, 40, 45, 49, 54, 57, 58, 59, 60, 64, 69, 73, 92, 123, 125, 128, 132, 134, 138, 149, 197, 201, 205, 210, 213, 224, 227, 231, 236, 238, 249, 273, 277, 280, 309, 312, 314] [.el .loader] = true by kernel_rfl) types rfl Tryz.underlying4 rfl hW (fun xs h => ?_) hval hsh (laid_none (by kernel_rfl) (by kernel_rfl) (by kernel_rfl)) k3_272
  · rw [Tryz.params3] at h
    obtain ⟨x, rfl⟩ := List.length_eq_one_iff.1 (show xs.length = 1 from h)
    rfl
set_option maxHeartbeats 0 in
theorem closed : joinedFacts Tryz.prog 3 Tryz.f3 Rows.fnExactGuessNextSpec Rows.fnExactGuessNextRow = true := by
  unfold joinedFacts
  refine (and_i (and_i (and_i (and_i (and_i (and_i (and_i (and_i (and_i (and_i (and_i (and_i (and_i (and_i (and_i (and_i (and_i (and_i (and_i (and_i (and_i (and_i (and_i (and_i (and_i (and_i (and_i (and_i (and_i (and_i (and_i ?_ ?_) ?_) ?_) ?_) ?_) ?_) ?_) ?_) ?_) ?_) ?_) ?_) ?_) ?_) ?_) ?_) ?_) ?_) ?_) ?_) ?_) ?_) ?_) ?_) ?_) ?_) ?_) ?_) ?_) ?_) ?_)
  all_goals decide +kernel
theorem over : Rows.fnExactGuessNextRow.holds Tryz.pinned (OpenSpec.ofChange Rows.fnExactGuessNextSpec) :=
  OpenClaim.holds_of_wide 3 Tryz.f3 rfl rfl rfl rfl rfl rfl rfl ⟨rfl, rfl, rfl, rfl, rfl⟩ rfl rfl rfl rfl rfl (by kernel_rfl) Tryz.func3 closed
    (of_decide_eq_true (by kernel_rfl)) (by unfold Func.isWrapper; first | (rw [if_pos (by decide +kernel)]; kernel_rfl) | (rw [if_neg (by decide +kernel)]; exact ⟨rfl, rfl⟩))
    (fun os started H enc _ => lifted os started H enc)
theorem proved : Rows.FnExactGuessNextCardSaid :=
  Claim7.holds_tied_plain_at .later [] [.data, .pinned] true (true, "92fc9a3dfac32c44edbb900c3e5d269f4aefd00080e442c8af46fd4619099a11") false
    over (fun _ h => by cases h) (by kernel_rfl) (fun _ h => by cases h) fnExactGuessNext_row_tie rfl ⟨rfl, rfl⟩ (by kernel_rfl) rfl
    (fun f fn hf hfn => by
      obtain rfl : f = 3 := Option.some.inj ((show Tryz.prog.funcNamed "loop.example/g00586/laws.FnExactGuessNext" = some 3 by kernel_rfl).symm.trans hf) |>.symm
      obtain rfl : fn = Tryz.f3 := (Option.some.inj (Tryz.func3.symm.trans hfn)).symm
      exact ⟨by kernel_rfl, fun j t ht => by
        have hm := Array.mem_of_getElem? ht
        have hall : (Tryz.f3.params.toList.all fun u => !Tryz.prog.wantsStandIn u) = true := by kernel_rfl
        exact (show Tryz.prog.wantsStandIn t = false by simpa using List.all_eq_true.1 hall t (Array.mem_toList_iff.2 hm))⟩)
    (by kernel_rfl)
end
end Go.Proofs.YtccooffhmjgjfaaGreatDoor.fnExactGuessNext
