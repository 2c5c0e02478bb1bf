/-
  The program's LoadFast returns what the reference's returns, for all arguments: the law returns true. No condition.
-/
import Derived.Test.YtglhphmnikpkfaaGreatDoorVPLoadFast9
import Derived.Test.YtglhphmnikpkfaaGreatDoorVPLoadFastT
namespace Go.Proofs.YtglhphmnikpkfaaGreatDoor.fnExactLoadFast
open Go.Proofs.YtglhphmnikpkfaaGreatDoor
open Go.D Go.Proofs.Tryz
set_option maxRecDepth 100000
set_option maxHeartbeats 2000000
set_option linter.defProp false
set_option linter.unusedVariables false
set_option linter.unusedSimpArgs false
section
open Go.ChangeShapes Go.WideShapes Go.ChangeAt Go.RowKit
theorem own:ownKnob Tryz.prog.godebug=none:=k_
theorem types:∀ e t,tyOf e=some t->e∈([3,4,5,9,25,28,30,37,40,41,44,46,50,55,74,106,110,112,123,127,135,139,142,150,152,169,180,183,185,188,227,261,276,373,380,406]:List TypeId):=by
 intro e t h;unfold tyOf at h;split at h<;>first|(simp;done)|cases h
theorem lifted (os:Os) (started:os.Started) (H:Type) (enc:TypeId×Value->H) :
 ReturnsInHanded {} Tryz.checked os 3 .any (λw args=>(Rows.fnExactLoadFastSpec.pre enc Tryz.prog Tryz.f3 [] false w args/\laidMetH Tryz.prog [("unicode/utf8.first",Rows.laid_unicode_utf8_first),("unicode/utf8.acceptRanges",Rows.laid_unicode_utf8_acceptRanges),("strconv.ErrSyntax",Rows.laid_strconv_ErrSyntax),("strconv.ErrRange",Rows.laid_strconv_ErrRange),("internal/strconv.uint64pow10",Rows.laid_internal_strconv_uint64pow10),("math/bits.deBruijn32tab",Rows.laid_math_bits_deBruijn32tab),("math/bits.deBruijn64tab",Rows.laid_math_bits_deBruijn64tab)] w)/\sizedMet enc Tryz.prog Tryz.f3 (OpenSpec.ofChange Rows.fnExactLoadFastSpec) false w args) (Rows.fnExactLoadFastSpec.post enc Tryz.prog Tryz.f3 false true false false):=by
 refine Wd (C:=Tryz.checked) (X:=λw _=>laidMetH Tryz.prog [("unicode/utf8.first",Rows.laid_unicode_utf8_first),("unicode/utf8.acceptRanges",Rows.laid_unicode_utf8_acceptRanges),("strconv.ErrSyntax",Rows.laid_strconv_ErrSyntax),("strconv.ErrRange",Rows.laid_strconv_ErrRange),("internal/strconv.uint64pow10",Rows.laid_internal_strconv_uint64pow10),("math/bits.deBruijn32tab",Rows.laid_math_bits_deBruijn32tab),("math/bits.deBruijn64tab",Rows.laid_math_bits_deBruijn64tab)] w) (λ_ _ _ hh h=>h.of_heap hh) own started k_ func3
  (ChangeSpec.witness_shaped (enc:=enc) (C:=Tryz.checked) (os:=os) (X:=λw _=>laidMetH Tryz.prog [("unicode/utf8.first",Rows.laid_unicode_utf8_first),("unicode/utf8.acceptRanges",Rows.laid_unicode_utf8_acceptRanges),("strconv.ErrSyntax",Rows.laid_strconv_ErrSyntax),("strconv.ErrRange",Rows.laid_strconv_ErrRange),("internal/strconv.uint64pow10",Rows.laid_internal_strconv_uint64pow10),("math/bits.deBruijn32tab",Rows.laid_math_bits_deBruijn32tab),("math/bits.deBruijn64tab",Rows.laid_math_bits_deBruijn64tab)] w) false (World.laidAll Tryz.prog os [("unicode/utf8.first",Rows.laid_unicode_utf8_first),("unicode/utf8.acceptRanges",Rows.laid_unicode_utf8_acceptRanges),("strconv.ErrSyntax",Rows.laid_strconv_ErrSyntax),("strconv.ErrRange",Rows.laid_strconv_ErrRange),("internal/strconv.uint64pow10",Rows.laid_internal_strconv_uint64pow10),("math/bits.deBruijn32tab",Rows.laid_math_bits_deBruijn32tab),("math/bits.deBruijn64tab",Rows.laid_math_bits_deBruijn64tab)]) #[.agg #[.slice none 0 0,.slice none 0 0,.slice none 0 0,.int .i64 0],.agg #[.string ⟨#[]⟩,.string ⟨#[]⟩],.slice none 0 0,.slice none 0 0] 8 (World.laidAll_os _ _ _) (World.shaped_of_ZipB k_ k_) k_ k_ k_
   (by rw[MakeChecks.laidMetH_plain _ _ _ k_];exact laidMet_laidAll _ k_ k_)) ?_
 intro W base args ds gs before hval0 hW hsh hL;have hval:∀ (j:Nat) t v,Tryz.f3.params[j]? = some t->args[j]? = some v->Value.okWide Tryz.prog W .any base t v:=hval0;refine X2 rowFacts types rfl Tryz.underlying4 rfl hW (λxs h=>?_) hval hsh (Vx (i:=4) (g:=3) (t:=444) (e:=258) (n:=20) (i2:=2) (i3:=3) k_ k_ k_ k_ k_ k_ k_ k_ rfl rfl k_ k_ hL) k3_409
 ·rw[Tryz.params3] at h
  match xs,(show xs.length=4 from h) with
  | [x0,x1,x2,x3],_=>rfl
theorem over:Rows.fnExactLoadFastRow.holds Tryz.pinned (OpenSpec.ofChange Rows.fnExactLoadFastSpec) :=
 OpenClaim.holds_of_wide 3 Tryz.f3 rfl rfl rfl rfl rfl rfl rfl ⟨rfl,rfl,rfl,rfl,rfl⟩ rfl rfl rfl rfl rfl k_ func3 closed
  (Qg3 k_) (by unfold Func.isWrapper;first|(rw[Qa1 (by decide +kernel)];kernel_rfl)|(rw[Qa3 (by decide +kernel)];exact⟨rfl,rfl⟩))
  (λos started H enc _=>lifted os started H enc)
theorem pfA:Rows.fnExactLoadFastRow.wfByText (OpenSpec.ofChange Rows.fnExactLoadFastSpec)=true:=by kernel_rfl
theorem pfB:Tryz.pinned.checked.prog.mainIs=some (true, "73f6b7eb66929a4775c1d27088fa0fda66e1be21f2841915a267c692d613d897".toList):=by kernel_rfl
theorem pfC:Tryz.prog.funcNamed "loop.example/g00586/laws.FnExactLoadFast" = some 3:=by kernel_rfl
theorem pfD:true=Tryz.pinned.checked.prog.looks []:=by kernel_rfl
theorem pfE:(Tryz.f3.params.toList.all λu=>!Tryz.prog.wantsStandIn u)=true:=by kernel_rfl
theorem pfF:Tryz.pinned.checked.prog.funcs.any Func.goes=false:=by kernel_rfl
theorem proved:Rows.FnExactLoadFastCardSaid :=
 Claim7.holds_tied_plain_at .later [] [.pinned,.data,.sentinel,.sentinel,.data,.data,.data] true (true, "73f6b7eb66929a4775c1d27088fa0fda66e1be21f2841915a267c692d613d897") true
  over (λ_ h=>by cases h) pfA (λ_ h=>by cases h) fnExactLoadFast_row_tie rfl ⟨rfl,rfl⟩ pfB rfl
  (λf fn hf hfn=>by
   obtain rfl:f=3:=Option.some.inj (pfC.symm.trans hf) |>.symm
   obtain rfl:fn=Tryz.f3:=(Option.some.inj (func3.symm.trans hfn)).symm;exact⟨pfD,λj t ht=>by
    have hm:=Array.mem_of_getElem? ht;have hall:=pfE
    exact(show Tryz.prog.wantsStandIn t=false by simpa using Qc5.1 hall t (Array.mem_toList_iff.2 hm))⟩)
  (QJ pfF _).symm
end
end Go.Proofs.YtglhphmnikpkfaaGreatDoor.fnExactLoadFast
