/-
  The program's Transfer returns what the reference's returns, for all arguments: the law returns true. No condition.
-/
import Derived.Test.YtjgmhdnhlpckeaaGreatDoorVPTransfer9
import Derived.Test.YtjgmhdnhlpckeaaGreatDoorVPTransferT
import Derived.Test.YtjgmhdnhlpckeaaGreatDoorVLe
import Derived.WalkKit
import Derived.BigGuard
import Derived.Deep.QuietTactic
import Derived.BigQuiet
import Derived.Lib.ConvBytes
import Derived.Sort.WalkC
import Derived.Handy
import Derived.Lib.Overlaps
import Derived.Lib.AppendZerosOnto
import Derived.Laws.Externs
import Derived.Shelf.RegionOpenPlain
import Derived.Defers
import Derived.Laws.Pointers
import Derived.Laws.LoneSync
import Derived.RegionCalls
import Derived.ChangeAlike
import Derived.LoopN
import Derived.Lib.SliceRun
import Derived.Shelf.Strconv.AtoiAll
import Derived.Shelf.Small.Strs
import Derived.Test.YtjgmhdnhlpckeaaGreatDoorRows
import Derived.Test.YtjgmhdnhlpckeaaGreatDoorCards
import Derived.LaidMore
import Derived.Lay
import Derived.SevenTiedAt
import Derived.WalkKit
import Derived.ProofKit
import Derived.OpenShut
namespace Go.Proofs.YtjgmhdnhlpckeaaGreatDoor.fnExactTransfer
open Go.Proofs.YtjgmhdnhlpckeaaGreatDoor
open Go.D Go.Proofs.Tryz
set_option maxRecDepth 100000
set_option maxHeartbeats 2000000
set_option linter.unusedVariables false
set_option linter.unusedSimpArgs false
section
open Go.ChangeShapes Go.WideShapes Go.ChangeAt Go.RowKit
theorem own:ownKnob Tryz.prog.godebug=none:=by kernel_rfl
theorem types:∀ e t,tyOf e=some t->e∈([3,4,5,9,25,28,30,33,35,40,45,49,54,57,58,59,60,64,69,73,98,100,104,141,143,146,163,208,214,218,222,227,230,239,245,250,253,270,300,304,308,311,345,355,357,373,413,438]:List TypeId):=by
 intro e t h;unfold tyOf at h;split at h<;>first|(simp;done)|cases h
theorem lifted (os:Os) (started:os.Started) (H:Type) (enc:TypeId×Value->H) :
 ReturnsInHanded {} Tryz.checked os 3 .any (fun w args=>(Rows.fnExactTransferSpec.pre enc Tryz.prog Tryz.f3 [] false w args/\laidMetH Tryz.prog [("unicode/utf8.first",Rows.laid_unicode_utf8_first),("unicode/utf8.acceptRanges",Rows.laid_unicode_utf8_acceptRanges),("internal/strconv.uint64pow10",Rows.laid_internal_strconv_uint64pow10),("math/bits.deBruijn32tab",Rows.laid_math_bits_deBruijn32tab),("math/bits.deBruijn64tab",Rows.laid_math_bits_deBruijn64tab),("strconv.ErrSyntax",Rows.laid_strconv_ErrSyntax),("strconv.ErrRange",Rows.laid_strconv_ErrRange)] w)/\sizedMet enc Tryz.prog Tryz.f3 (OpenSpec.ofChange Rows.fnExactTransferSpec) false w args) (Rows.fnExactTransferSpec.post enc Tryz.prog Tryz.f3 false true false false):=by
 refine TC (C:=Tryz.checked) (X:=fun w _=>laidMetH Tryz.prog [("unicode/utf8.first",Rows.laid_unicode_utf8_first),("unicode/utf8.acceptRanges",Rows.laid_unicode_utf8_acceptRanges),("internal/strconv.uint64pow10",Rows.laid_internal_strconv_uint64pow10),("math/bits.deBruijn32tab",Rows.laid_math_bits_deBruijn32tab),("math/bits.deBruijn64tab",Rows.laid_math_bits_deBruijn64tab),("strconv.ErrSyntax",Rows.laid_strconv_ErrSyntax),("strconv.ErrRange",Rows.laid_strconv_ErrRange)] w) (fun _ _ _ hh h=>h.of_heap hh) own started (by kernel_rfl) func3
  (ChangeSpec.witness_shaped (enc:=enc) (C:=Tryz.checked) (os:=os) (X:=fun w _=>laidMetH Tryz.prog [("unicode/utf8.first",Rows.laid_unicode_utf8_first),("unicode/utf8.acceptRanges",Rows.laid_unicode_utf8_acceptRanges),("internal/strconv.uint64pow10",Rows.laid_internal_strconv_uint64pow10),("math/bits.deBruijn32tab",Rows.laid_math_bits_deBruijn32tab),("math/bits.deBruijn64tab",Rows.laid_math_bits_deBruijn64tab),("strconv.ErrSyntax",Rows.laid_strconv_ErrSyntax),("strconv.ErrRange",Rows.laid_strconv_ErrRange)] w) false (World.laidAll Tryz.prog os [("unicode/utf8.first",Rows.laid_unicode_utf8_first),("unicode/utf8.acceptRanges",Rows.laid_unicode_utf8_acceptRanges),("internal/strconv.uint64pow10",Rows.laid_internal_strconv_uint64pow10),("math/bits.deBruijn32tab",Rows.laid_math_bits_deBruijn32tab),("math/bits.deBruijn64tab",Rows.laid_math_bits_deBruijn64tab),("strconv.ErrSyntax",Rows.laid_strconv_ErrSyntax),("strconv.ErrRange",Rows.laid_strconv_ErrRange)]) #[.agg #[.slice none 0 0,.slice none 0 0,.slice none 0 0,.int .i64 0,.string ⟨#[]⟩,.string ⟨#[]⟩,.bool false,.slice none 0 0,.slice none 0 0,.slice none 0 0,.string ⟨#[]⟩,.string ⟨#[]⟩,.slice none 0 0,.bool false,.slice none 0 0,.slice none 0 0,.slice none 0 0,.slice none 0 0,.slice none 0 0,.int .i64 0,.int .i64 0,.int .i64 0,.int .i64 0,.slice none 0 0,.slice none 0 0,.bool false,.slice none 0 0,.slice none 0 0,.slice none 0 0],.int .i64 0] 8 (World.laidAll_os _ _ _) (World.shaped_of_ZipB (by kernel_rfl) (by kernel_rfl)) (by kernel_rfl) (by kernel_rfl) (by kernel_rfl)
   (by rw[MakeChecks.laidMetH_plain _ _ _ (by kernel_rfl)];exact laidMet_laidAll _ (by kernel_rfl) (by kernel_rfl))) ?_
 intro W base args ds gs before hval0 hW hsh hL;have hval:∀ (j:Nat) t v,Tryz.f3.params[j]? = some t->args[j]? = some v->Value.okWide Tryz.prog W .any base t v:=hval0;refine Wi rowFacts types rfl Tryz.underlying4 rfl hW (fun xs h=>?_) hval hsh (T1 (i:=2) (g:=3) (t:=477) (e:=447) (n:=20) (i2:=5) (i3:=6) (by kernel_rfl) (by kernel_rfl) (by kernel_rfl) (by kernel_rfl) (by kernel_rfl) (by kernel_rfl) (by kernel_rfl) (by kernel_rfl) rfl rfl (by kernel_rfl) (by kernel_rfl) hL) k3_385
 ·rw[Tryz.params3] at h
  match xs,(show xs.length=2 from h) with
  | [x0,x1],_=>rfl
theorem over:Rows.fnExactTransferRow.holds Tryz.pinned (OpenSpec.ofChange Rows.fnExactTransferSpec) :=
 OpenClaim.holds_of_wide 3 Tryz.f3 rfl rfl rfl rfl rfl rfl rfl ⟨rfl,rfl,rfl,rfl,rfl⟩ rfl rfl rfl rfl rfl (by kernel_rfl) func3 closed
  (Qf9 (by kernel_rfl)) (by unfold Func.isWrapper;first|(rw[Qa2 (by decide +kernel)];kernel_rfl)|(rw[Qa3 (by decide +kernel)];exact⟨rfl,rfl⟩))
  (fun os started H enc _=>lifted os started H enc)
theorem pfA:Rows.fnExactTransferRow.wfByText (OpenSpec.ofChange Rows.fnExactTransferSpec)=true:=by kernel_rfl
theorem pfB:Tryz.pinned.checked.prog.mainIs=some (true, "9a6bec028a22fd11b35c2c54f86102b85ba8d4e0ec2a6ebd57beb61c9fcf0ab5".toList):=by kernel_rfl
theorem pfC:Tryz.prog.funcNamed "loop.example/g00586/laws.FnExactTransfer" = some 3:=by kernel_rfl
theorem pfD:true=Tryz.pinned.checked.prog.looks []:=by kernel_rfl
theorem pfE:(Tryz.f3.params.toList.all fun u=>!Tryz.prog.wantsStandIn u)=true:=by kernel_rfl
theorem pfF:Tryz.pinned.checked.prog.funcs.any Func.goes=false:=by kernel_rfl
theorem proved:Rows.FnExactTransferCardSaid :=
 Claim7.holds_tied_plain_at .later [] [.pinned,.data,.data,.data,.data,.sentinel,.sentinel] true (true, "9a6bec028a22fd11b35c2c54f86102b85ba8d4e0ec2a6ebd57beb61c9fcf0ab5") true
  over (fun _ h=>by cases h) pfA (fun _ h=>by cases h) fnExactTransfer_row_tie rfl ⟨rfl,rfl⟩ pfB rfl
  (fun f fn hf hfn=>by
   obtain rfl:f=3:=Option.some.inj (pfC.symm.trans hf) |>.symm
   obtain rfl:fn=Tryz.f3:=(Option.some.inj (func3.symm.trans hfn)).symm;exact⟨pfD,fun j t ht=>by
    have hm:=Array.mem_of_getElem? ht;have hall:=pfE
    exact(show Tryz.prog.wantsStandIn t=false by simpa using Qc5.1 hall t (Array.mem_toList_iff.2 hm))⟩)
  (O9 pfF _).symm
end
end Go.Proofs.YtjgmhdnhlpckeaaGreatDoor.fnExactTransfer
