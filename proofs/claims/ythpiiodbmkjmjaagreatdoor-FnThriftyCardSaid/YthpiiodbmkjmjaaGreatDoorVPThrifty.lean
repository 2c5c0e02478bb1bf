/-
  The law FnThrifty returns true for all codes, whatever is drawn from them. No condition.
-/
import Derived.Test.YthpiiodbmkjmjaaGreatDoorVPThrifty9
import Derived.Test.YthpiiodbmkjmjaaGreatDoorVPThriftyT
namespace Go.Proofs.YthpiiodbmkjmjaaGreatDoor.fnThrifty
open Go.Proofs.YthpiiodbmkjmjaaGreatDoor
open Go.D Go.Proofs.Tryz
set_option maxRecDepth 100000
set_option maxHeartbeats 2000000
set_option linter.defProp false
set_option linter.unusedVariables false
set_option linter.unusedSimpArgs false
section
open Go.ChangeShapes Go.WideShapes Go.ChangeAt Go.RowKit
theorem own:ownKnob Tryz.prog.godebug=none:=k_
theorem types:∀ e t,tyOf e=some t->e∈([3,4,5,9,27,30,32,35,37,42,47,51,80,82,88,127,156,173,178,181,216,234,236,250,253,326,352,370]:List TypeId):=by
 intro e t h;unfold tyOf at h;split at h<;>first|(simp;done)|cases h
theorem gx (os:Os) (started:os.Started) (H:Type) (enc:TypeId×Value->H) :
 ReturnsInHanded {} Tryz.checked os 4 .any (λw args=>(Rows.fnThriftySpec.pre enc Tryz.prog Tryz.f4 [] false w args/\laidMetH Tryz.prog [("unicode/utf8.first",Rows.laid_unicode_utf8_first),("unicode/utf8.acceptRanges",Rows.laid_unicode_utf8_acceptRanges),("strconv.ErrSyntax",Rows.laid_strconv_ErrSyntax),("strconv.ErrRange",Rows.laid_strconv_ErrRange),("internal/strconv.uint64pow10",Rows.laid_internal_strconv_uint64pow10),("math/bits.deBruijn32tab",Rows.laid_math_bits_deBruijn32tab),("math/bits.deBruijn64tab",Rows.laid_math_bits_deBruijn64tab)] w)/\sizedMet enc Tryz.prog Tryz.f4 (OpenSpec.ofChange Rows.fnThriftySpec) false w args) (Rows.fnThriftySpec.post enc Tryz.prog Tryz.f4 false true false false):=by
 refine X3 (C:=Tryz.checked) (X:=λw _=>laidMetH Tryz.prog [("unicode/utf8.first",Rows.laid_unicode_utf8_first),("unicode/utf8.acceptRanges",Rows.laid_unicode_utf8_acceptRanges),("strconv.ErrSyntax",Rows.laid_strconv_ErrSyntax),("strconv.ErrRange",Rows.laid_strconv_ErrRange),("internal/strconv.uint64pow10",Rows.laid_internal_strconv_uint64pow10),("math/bits.deBruijn32tab",Rows.laid_math_bits_deBruijn32tab),("math/bits.deBruijn64tab",Rows.laid_math_bits_deBruijn64tab)] w) (λ_ _ _ hh h=>h.of_heap hh) own started k_ func4
  (ChangeSpec.witness_shaped (enc:=enc) (C:=Tryz.checked) (os:=os) (X:=λw _=>laidMetH Tryz.prog [("unicode/utf8.first",Rows.laid_unicode_utf8_first),("unicode/utf8.acceptRanges",Rows.laid_unicode_utf8_acceptRanges),("strconv.ErrSyntax",Rows.laid_strconv_ErrSyntax),("strconv.ErrRange",Rows.laid_strconv_ErrRange),("internal/strconv.uint64pow10",Rows.laid_internal_strconv_uint64pow10),("math/bits.deBruijn32tab",Rows.laid_math_bits_deBruijn32tab),("math/bits.deBruijn64tab",Rows.laid_math_bits_deBruijn64tab)] w) false (World.laidAll Tryz.prog os [("unicode/utf8.first",Rows.laid_unicode_utf8_first),("unicode/utf8.acceptRanges",Rows.laid_unicode_utf8_acceptRanges),("strconv.ErrSyntax",Rows.laid_strconv_ErrSyntax),("strconv.ErrRange",Rows.laid_strconv_ErrRange),("internal/strconv.uint64pow10",Rows.laid_internal_strconv_uint64pow10),("math/bits.deBruijn32tab",Rows.laid_math_bits_deBruijn32tab),("math/bits.deBruijn64tab",Rows.laid_math_bits_deBruijn64tab)]) #[.slice none 0 0] 8 (World.laidAll_os _ _ _) (World.shaped_of_ZipB k_ k_) k_ k_ k_
   (by rw[MakeChecks.laidMetH_plain _ _ _ k_];exact laidMet_laidAll _ k_ k_)) ?_
 intro W base args ds gs before hval0 hW hsh hL;have hval:∀ (j:Nat) t v,Tryz.f4.params[j]? = some t->args[j]? = some v->Value.okWide Tryz.prog W .any base t v:=hval0;refine Aa5 rowFacts types rfl Tryz.underlying4 rfl hW (λxs h=>?_) hval hsh (Yk (i:=4) (g:=3) (t:=419) (e:=268) (n:=20) (i2:=2) (i3:=3) k_ k_ k_ k_ k_ k_ k_ k_ rfl rfl k_ k_ hL) k4_374
 ·rw[Tryz.params4] at h;obtain⟨x,rfl⟩:=eo.1 (show xs.length=1 from h);rfl
theorem gE:Rows.fnThriftyRow.holds Tryz.pinned (OpenSpec.ofChange Rows.fnThriftySpec) :=
 OpenClaim.holds_of_wide 4 Tryz.f4 rfl rfl rfl rfl rfl rfl rfl ⟨rfl,rfl,rfl,rfl,rfl⟩ rfl rfl rfl rfl rfl k_ func4 closed
  (fx k_) (by unfold Func.isWrapper;first|(rw[I_ (by decide +kernel)];kernel_rfl)|(rw[J_ (by decide +kernel)];exact⟨rfl,rfl⟩))
  (λos started H enc _=>gx os started H enc)
theorem pfA:Rows.fnThriftyRow.wfByText (OpenSpec.ofChange Rows.fnThriftySpec)=true:=by kernel_rfl
theorem pfB:Tryz.pinned.checked.prog.mainIs=some (true, "c46f00f4deb4c48173a0043831ff1d0a930ff038ae23e559e976318dff1d6b38".toList):=by kernel_rfl
theorem pfC:Tryz.prog.funcNamed "loop.example/g00586/laws.FnThrifty" = some 4:=by kernel_rfl
theorem pfD:true=Tryz.pinned.checked.prog.looks []:=by kernel_rfl
theorem pfE:(Tryz.f4.params.toList.all λu=>!Tryz.prog.wantsStandIn u)=true:=by kernel_rfl
theorem pfF:Tryz.pinned.checked.prog.funcs.any Func.goes=false:=by kernel_rfl
theorem proved:Rows.FnThriftyCardSaid :=
 Claim7.holds_tied_plain_at .later [] [.pinned,.data,.sentinel,.sentinel,.data,.data,.data] true (true, "c46f00f4deb4c48173a0043831ff1d0a930ff038ae23e559e976318dff1d6b38") true
  gE (λ_ h=>by cases h) pfA (λ_ h=>by cases h) fnThrifty_row_tie rfl ⟨rfl,rfl⟩ pfB rfl
  (λf fn hf hfn=>by
   obtain rfl:f=4:=Option.some.inj (pfC.symm.trans hf) |>.symm
   obtain rfl:fn=Tryz.f4:=(Option.some.inj (func4.symm.trans hfn)).symm;exact⟨pfD,λj t ht=>by
    have hm:=Array.mem_of_getElem? ht;have hall:=pfE
    exact(show Tryz.prog.wantsStandIn t=false by simpa using bM.1 hall t (Array.mem_toList_iff.2 hm))⟩)
  (SK pfF _).symm
end
end Go.Proofs.YthpiiodbmkjmjaaGreatDoor.fnThrifty
