/-
  The program's RunLoad returns what the reference's returns, for all arguments: the law returns true. No condition.
-/
import Derived.Test.YtmeicddakaciiaaGreatDoorVPRunLoad9
import Derived.Test.YtmeicddakaciiaaGreatDoorVPRunLoad8
import Derived.Test.YtmeicddakaciiaaGreatDoorVPRunLoadT
namespace Go.Proofs.YtmeicddakaciiaaGreatDoor.fnExactRunLoad
open Go.Proofs.YtmeicddakaciiaaGreatDoor
open Go.D Go.Proofs.Tryz
set_option maxRecDepth 100000
set_option maxHeartbeats 2000000
set_option linter.defProp false
set_option linter.unusedVariables false
set_option linter.unusedSimpArgs false
section
open Go.ChangeShapes Go.WideShapes Go.ChangeAt Go.RowKit
theorem own:ownKnob Tryz.prog.godebug=none:=k_
theorem types:∀ e t,tyOf e=some t->e∈([3,4,5,9,25,28,30,37,40,41,44,46,50,55,68,69,73,78,82,87,144,148,150,158,162,170,174,177,191,193,196,208,211,221,234,243,246,248,252,256,259,268,298,319,366,451,458,482]:List TypeId):=by
 intro e t h;unfold tyOf at h;split at h<;>first|(simp;done)|cases h
theorem lifted (os:Os) (started:os.Started) (H:Type) (enc:TypeId×Value->H) :
 ReturnsInHanded {} Tryz.checked os 5 .any (λw args=>(Rows.fnExactRunLoadSpec.pre enc Tryz.prog Tryz.f5 [] false w args/\laidMetH Tryz.prog [("unicode/utf8.first",Rows.laid_unicode_utf8_first),("unicode/utf8.acceptRanges",Rows.laid_unicode_utf8_acceptRanges),("strconv.ErrSyntax",Rows.laid_strconv_ErrSyntax),("strconv.ErrRange",Rows.laid_strconv_ErrRange),("internal/strconv.uint64pow10",Rows.laid_internal_strconv_uint64pow10),("math/bits.deBruijn32tab",Rows.laid_math_bits_deBruijn32tab),("math/bits.deBruijn64tab",Rows.laid_math_bits_deBruijn64tab)] w)/\sizedMet enc Tryz.prog Tryz.f5 (OpenSpec.ofChange Rows.fnExactRunLoadSpec) false w args) (Rows.fnExactRunLoadSpec.post enc Tryz.prog Tryz.f5 false true false false):=by
 refine V6 (C:=Tryz.checked) (X:=λw _=>laidMetH Tryz.prog [("unicode/utf8.first",Rows.laid_unicode_utf8_first),("unicode/utf8.acceptRanges",Rows.laid_unicode_utf8_acceptRanges),("strconv.ErrSyntax",Rows.laid_strconv_ErrSyntax),("strconv.ErrRange",Rows.laid_strconv_ErrRange),("internal/strconv.uint64pow10",Rows.laid_internal_strconv_uint64pow10),("math/bits.deBruijn32tab",Rows.laid_math_bits_deBruijn32tab),("math/bits.deBruijn64tab",Rows.laid_math_bits_deBruijn64tab)] w) (λ_ _ _ hh h=>h.of_heap hh) own started k_ func5
  (ChangeSpec.witness_shaped (enc:=enc) (C:=Tryz.checked) (os:=os) (X:=λw _=>laidMetH Tryz.prog [("unicode/utf8.first",Rows.laid_unicode_utf8_first),("unicode/utf8.acceptRanges",Rows.laid_unicode_utf8_acceptRanges),("strconv.ErrSyntax",Rows.laid_strconv_ErrSyntax),("strconv.ErrRange",Rows.laid_strconv_ErrRange),("internal/strconv.uint64pow10",Rows.laid_internal_strconv_uint64pow10),("math/bits.deBruijn32tab",Rows.laid_math_bits_deBruijn32tab),("math/bits.deBruijn64tab",Rows.laid_math_bits_deBruijn64tab)] w) false (World.laidAll Tryz.prog os [("unicode/utf8.first",Rows.laid_unicode_utf8_first),("unicode/utf8.acceptRanges",Rows.laid_unicode_utf8_acceptRanges),("strconv.ErrSyntax",Rows.laid_strconv_ErrSyntax),("strconv.ErrRange",Rows.laid_strconv_ErrRange),("internal/strconv.uint64pow10",Rows.laid_internal_strconv_uint64pow10),("math/bits.deBruijn32tab",Rows.laid_math_bits_deBruijn32tab),("math/bits.deBruijn64tab",Rows.laid_math_bits_deBruijn64tab)]) #[.agg #[.slice none 0 0,.slice none 0 0,.slice none 0 0,.int .i64 0,.string ⟨#[]⟩,.string ⟨#[]⟩,.bool false,.slice none 0 0,.slice none 0 0,.slice none 0 0,.string ⟨#[]⟩,.string ⟨#[]⟩,.slice none 0 0,.bool false,.slice none 0 0,.slice none 0 0,.slice none 0 0,.slice none 0 0,.slice none 0 0,.int .i64 0,.int .i64 0,.int .i64 0,.int .i64 0,.slice none 0 0,.slice none 0 0,.bool false,.slice none 0 0,.slice none 0 0,.slice none 0 0],.slice none 0 0] 8 (World.laidAll_os _ _ _) (World.shaped_of_ZipB k_ k_) k_ k_ k_
   (by rw[MakeChecks.laidMetH_plain _ _ _ k_];exact laidMet_laidAll _ k_ k_)) ?_
 intro W base args ds gs before hval0 hW hsh hL;have hval:∀ (j:Nat) t v,Tryz.f5.params[j]? = some t->args[j]? = some v->Value.okWide Tryz.prog W .any base t v:=hval0;refine AaT rowFacts types rfl Tryz.underlying4 rfl hW (λxs h=>?_) hval hsh (V8 (i:=4) (g:=3) (t:=526) (e:=364) (n:=20) (i2:=2) (i3:=3) k_ k_ k_ k_ k_ k_ k_ k_ rfl rfl k_ k_ hL) k5_451
 ·rw[Tryz.params5] at h
  match xs,(show xs.length=2 from h) with
  | [x0,x1],_=>rfl
theorem over:Rows.fnExactRunLoadRow.holds Tryz.pinned (OpenSpec.ofChange Rows.fnExactRunLoadSpec) :=
 OpenClaim.holds_of_wide 5 Tryz.f5 rfl rfl rfl rfl rfl rfl rfl ⟨rfl,rfl,rfl,rfl,rfl⟩ rfl rfl rfl rfl rfl k_ func5 closed
  (Qg4 k_) (by unfold Func.isWrapper;first|(rw[Qa1 (by decide +kernel)];kernel_rfl)|(rw[Qa4 (by decide +kernel)];exact⟨rfl,rfl⟩))
  (λos started H enc _=>lifted os started H enc)
theorem pfA:Rows.fnExactRunLoadRow.wfByText (OpenSpec.ofChange Rows.fnExactRunLoadSpec)=true:=by kernel_rfl
theorem pfB:Tryz.pinned.checked.prog.mainIs=some (true, "26ee634addc6cbac71cb8f9493483f0745a5c33240e48dfdf66ca884b3e99941".toList):=by kernel_rfl
theorem pfC:Tryz.prog.funcNamed "loop.example/g00586/laws.FnExactRunLoad" = some 5:=by kernel_rfl
theorem pfD:true=Tryz.pinned.checked.prog.looks []:=by kernel_rfl
theorem pfE:(Tryz.f5.params.toList.all λu=>!Tryz.prog.wantsStandIn u)=true:=by kernel_rfl
theorem pfF:Tryz.pinned.checked.prog.funcs.any Func.goes=false:=by kernel_rfl
theorem proved:Rows.FnExactRunLoadCardSaid :=
 Claim7.holds_tied_plain_at .later [] [.pinned,.data,.sentinel,.sentinel,.data,.data,.data] true (true, "26ee634addc6cbac71cb8f9493483f0745a5c33240e48dfdf66ca884b3e99941") true
  over (λ_ h=>by cases h) pfA (λ_ h=>by cases h) fnExactRunLoad_row_tie rfl ⟨rfl,rfl⟩ pfB rfl
  (λf fn hf hfn=>by
   obtain rfl:f=5:=Option.some.inj (pfC.symm.trans hf) |>.symm
   obtain rfl:fn=Tryz.f5:=(Option.some.inj (func5.symm.trans hfn)).symm;exact⟨pfD,λj t ht=>by
    have hm:=Array.mem_of_getElem? ht;have hall:=pfE
    exact(show Tryz.prog.wantsStandIn t=false by simpa using Qc3.1 hall t (Array.mem_toList_iff.2 hm))⟩)
  (QD pfF _).symm
end
end Go.Proofs.YtmeicddakaciiaaGreatDoor.fnExactRunLoad
