/-
  The program's RequestNext returns what the reference's returns, for all arguments: the law returns true. No condition.
-/
import Derived.Test.YtjgmhdnhlpckeaaGreatDoorVPRequestNext9
import Derived.Test.YtjgmhdnhlpckeaaGreatDoorVPRequestNextT
import Derived.Test.YtjgmhdnhlpckeaaGreatDoorVLe
import Derived.WalkKit
import Derived.BigGuard
import Derived.Deep.QuietTactic
import Derived.BigQuiet
import Derived.Lib.ConvBytes
import Derived.Sort.WalkC
import Derived.Handy
import Derived.Lib.Overlaps
import Derived.Lib.AppendZerosOnto
import Derived.Laws.Externs
import Derived.Shelf.RegionOpenPlain
import Derived.Defers
import Derived.Laws.Pointers
import Derived.Laws.LoneSync
import Derived.RegionCalls
import Derived.ChangeAlike
import Derived.LoopN
import Derived.Lib.SliceRun
import Derived.Shelf.Strconv.AtoiAll
import Derived.Shelf.Small.Strs
import Derived.Test.YtjgmhdnhlpckeaaGreatDoorRows
import Derived.Test.YtjgmhdnhlpckeaaGreatDoorCards
import Derived.LaidMore
import Derived.Lay
import Derived.SevenTiedAt
import Derived.WalkKit
import Derived.ProofKit
import Derived.OpenShut
namespace Go.Proofs.YtjgmhdnhlpckeaaGreatDoor.fnExactRequestNext
open Go.Proofs.YtjgmhdnhlpckeaaGreatDoor
open Go.D Go.Proofs.Tryz
set_option maxRecDepth 100000
set_option maxHeartbeats 2000000
set_option linter.unusedVariables false
set_option linter.unusedSimpArgs false
section
open Go.ChangeShapes Go.WideShapes Go.ChangeAt Go.RowKit
theorem own:ownKnob Tryz.prog.godebug=none:=by kernel_rfl
theorem types:∀ e t,tyOf e=some t->e∈([3,4,5,9,25,28,30,33,35,40,45,49,54,57,58,59,60,64,69,73,98,100,104,141,143,146,163,208,214,218,222,227,230,239,245,250,253,270,300,304,308,311,345,355,357,373,413,438]:List TypeId):=by
 intro e t h;unfold tyOf at h;split at h<;>first|(simp;done)|cases h
theorem lifted (os:Os) (started:os.Started) (H:Type) (enc:TypeId×Value->H) :
 ReturnsInHanded {} Tryz.checked os 4 .any (fun w args=>(Rows.fnExactRequestNextSpec.pre enc Tryz.prog Tryz.f4 [] false w args/\laidMetH Tryz.prog [("unicode/utf8.first",Rows.laid_unicode_utf8_first),("unicode/utf8.acceptRanges",Rows.laid_unicode_utf8_acceptRanges),("internal/strconv.uint64pow10",Rows.laid_internal_strconv_uint64pow10),("math/bits.deBruijn32tab",Rows.laid_math_bits_deBruijn32tab),("math/bits.deBruijn64tab",Rows.laid_math_bits_deBruijn64tab),("strconv.ErrSyntax",Rows.laid_strconv_ErrSyntax),("strconv.ErrRange",Rows.laid_strconv_ErrRange)] w)/\sizedMet enc Tryz.prog Tryz.f4 (OpenSpec.ofChange Rows.fnExactRequestNextSpec) false w args) (Rows.fnExactRequestNextSpec.post enc Tryz.prog Tryz.f4 false true false false):=by
 refine UE (C:=Tryz.checked) (X:=fun w _=>laidMetH Tryz.prog [("unicode/utf8.first",Rows.laid_unicode_utf8_first),("unicode/utf8.acceptRanges",Rows.laid_unicode_utf8_acceptRanges),("internal/strconv.uint64pow10",Rows.laid_internal_strconv_uint64pow10),("math/bits.deBruijn32tab",Rows.laid_math_bits_deBruijn32tab),("math/bits.deBruijn64tab",Rows.laid_math_bits_deBruijn64tab),("strconv.ErrSyntax",Rows.laid_strconv_ErrSyntax),("strconv.ErrRange",Rows.laid_strconv_ErrRange)] w) (fun _ _ _ hh h=>h.of_heap hh) own started (by kernel_rfl) func4
  (ChangeSpec.witness_shaped (enc:=enc) (C:=Tryz.checked) (os:=os) (X:=fun w _=>laidMetH Tryz.prog [("unicode/utf8.first",Rows.laid_unicode_utf8_first),("unicode/utf8.acceptRanges",Rows.laid_unicode_utf8_acceptRanges),("internal/strconv.uint64pow10",Rows.laid_internal_strconv_uint64pow10),("math/bits.deBruijn32tab",Rows.laid_math_bits_deBruijn32tab),("math/bits.deBruijn64tab",Rows.laid_math_bits_deBruijn64tab),("strconv.ErrSyntax",Rows.laid_strconv_ErrSyntax),("strconv.ErrRange",Rows.laid_strconv_ErrRange)] w) false (World.laidAll Tryz.prog os [("unicode/utf8.first",Rows.laid_unicode_utf8_first),("unicode/utf8.acceptRanges",Rows.laid_unicode_utf8_acceptRanges),("internal/strconv.uint64pow10",Rows.laid_internal_strconv_uint64pow10),("math/bits.deBruijn32tab",Rows.laid_math_bits_deBruijn32tab),("math/bits.deBruijn64tab",Rows.laid_math_bits_deBruijn64tab),("strconv.ErrSyntax",Rows.laid_strconv_ErrSyntax),("strconv.ErrRange",Rows.laid_strconv_ErrRange)]) #[.agg #[.slice none 0 0,.slice none 0 0,.slice none 0 0,.int .i64 0,.string ⟨#[]⟩,.string ⟨#[]⟩,.bool false,.slice none 0 0,.slice none 0 0,.slice none 0 0,.string ⟨#[]⟩,.string ⟨#[]⟩,.slice none 0 0,.bool false,.slice none 0 0,.slice none 0 0,.slice none 0 0,.slice none 0 0,.slice none 0 0,.int .i64 0,.int .i64 0,.int .i64 0,.int .i64 0,.slice none 0 0,.slice none 0 0,.bool false,.slice none 0 0,.slice none 0 0,.slice none 0 0]] 8 (World.laidAll_os _ _ _) (World.shaped_of_ZipB (by kernel_rfl) (by kernel_rfl)) (by kernel_rfl) (by kernel_rfl) (by kernel_rfl)
   (by rw[MakeChecks.laidMetH_plain _ _ _ (by kernel_rfl)];exact laidMet_laidAll _ (by kernel_rfl) (by kernel_rfl))) ?_
 intro W base args ds gs before hval0 hW hsh hL;have hval:∀ (j:Nat) t v,Tryz.f4.params[j]? = some t->args[j]? = some v->Value.okWide Tryz.prog W .any base t v:=hval0;refine YP rowFacts types rfl Tryz.underlying4 rfl hW (fun xs h=>?_) hval hsh (UT (i:=2) (g:=3) (t:=477) (e:=447) (n:=20) (i2:=5) (i3:=6) (by kernel_rfl) (by kernel_rfl) (by kernel_rfl) (by kernel_rfl) (by kernel_rfl) (by kernel_rfl) (by kernel_rfl) (by kernel_rfl) rfl rfl (by kernel_rfl) (by kernel_rfl) hL) k4_398
 ·rw[Tryz.params4] at h;obtain⟨x,rfl⟩:=Qd9.1 (show xs.length=1 from h);rfl
theorem over:Rows.fnExactRequestNextRow.holds Tryz.pinned (OpenSpec.ofChange Rows.fnExactRequestNextSpec) :=
 OpenClaim.holds_of_wide 4 Tryz.f4 rfl rfl rfl rfl rfl rfl rfl ⟨rfl,rfl,rfl,rfl,rfl⟩ rfl rfl rfl rfl rfl (by kernel_rfl) func4 closed
  (Qf9 (by kernel_rfl)) (by unfold Func.isWrapper;first|(rw[Qa2 (by decide +kernel)];kernel_rfl)|(rw[Qa3 (by decide +kernel)];exact⟨rfl,rfl⟩))
  (fun os started H enc _=>lifted os started H enc)
theorem pfA:Rows.fnExactRequestNextRow.wfByText (OpenSpec.ofChange Rows.fnExactRequestNextSpec)=true:=by kernel_rfl
theorem pfB:Tryz.pinned.checked.prog.mainIs=some (true, "9a6bec028a22fd11b35c2c54f86102b85ba8d4e0ec2a6ebd57beb61c9fcf0ab5".toList):=by kernel_rfl
theorem pfC:Tryz.prog.funcNamed "loop.example/g00586/laws.FnExactRequestNext" = some 4:=by kernel_rfl
theorem pfD:true=Tryz.pinned.checked.prog.looks []:=by kernel_rfl
theorem pfE:(Tryz.f4.params.toList.all fun u=>!Tryz.prog.wantsStandIn u)=true:=by kernel_rfl
theorem pfF:Tryz.pinned.checked.prog.funcs.any Func.goes=false:=by kernel_rfl
theorem proved:Rows.FnExactRequestNextCardSaid :=
 Claim7.holds_tied_plain_at .later [] [.pinned,.data,.data,.data,.data,.sentinel,.sentinel] true (true, "9a6bec028a22fd11b35c2c54f86102b85ba8d4e0ec2a6ebd57beb61c9fcf0ab5") true
  over (fun _ h=>by cases h) pfA (fun _ h=>by cases h) fnExactRequestNext_row_tie rfl ⟨rfl,rfl⟩ pfB rfl
  (fun f fn hf hfn=>by
   obtain rfl:f=4:=Option.some.inj (pfC.symm.trans hf) |>.symm
   obtain rfl:fn=Tryz.f4:=(Option.some.inj (func4.symm.trans hfn)).symm;exact⟨pfD,fun j t ht=>by
    have hm:=Array.mem_of_getElem? ht;have hall:=pfE
    exact(show Tryz.prog.wantsStandIn t=false by simpa using Qc4.1 hall t (Array.mem_toList_iff.2 hm))⟩)
  (Pr pfF _).symm
end
end Go.Proofs.YtjgmhdnhlpckeaaGreatDoor.fnExactRequestNext
