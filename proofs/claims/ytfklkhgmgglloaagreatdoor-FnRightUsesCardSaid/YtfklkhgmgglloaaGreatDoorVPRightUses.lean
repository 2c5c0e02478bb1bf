/-
  The law FnRightUses returns true for all codes, whatever is drawn from them. No condition.
-/
import Derived.Test.YtfklkhgmgglloaaGreatDoorVPRightUses9
import Derived.Test.YtfklkhgmgglloaaGreatDoorVPRightUsesT
namespace Go.Proofs.YtfklkhgmgglloaaGreatDoor.fnRightUses
open Go.Proofs.YtfklkhgmgglloaaGreatDoor
open Go.D Go.Proofs.Tryz
set_option maxRecDepth 100000
set_option maxHeartbeats 2000000
set_option linter.defProp false
set_option linter.unusedVariables false
set_option linter.unusedSimpArgs false
section
open Go.ChangeShapes Go.WideShapes Go.ChangeAt Go.RowKit
theorem own:ownKnob Tryz.prog.godebug=none:=k_
theorem types:∀ e t,tyOf e=some t->e∈([3,4,5,9,27,30,32,38,40,44,49,70,75,85,88,90,118,151,154,160,165,174,215,246,253,271,274,293]:List TypeId):=by
 intro e t h;unfold tyOf at h;split at h<;>first|(simp;done)|cases h
theorem gL (os:Os) (started:os.Started) (H:Type) (enc:TypeId×Value->H) :
 ReturnsInHanded {} Tryz.checked os 3 .any (λw args=>(Rows.fnRightUsesSpec.pre enc Tryz.prog Tryz.f3 [] false w args/\laidMetH Tryz.prog [("math/bits.deBruijn32tab",Rows.laid_math_bits_deBruijn32tab),("math/bits.deBruijn64tab",Rows.laid_math_bits_deBruijn64tab),("internal/strconv.uint64pow10",Rows.laid_internal_strconv_uint64pow10),("unicode/utf8.acceptRanges",Rows.laid_unicode_utf8_acceptRanges),("unicode/utf8.first",Rows.laid_unicode_utf8_first)] w)/\sizedMet enc Tryz.prog Tryz.f3 (OpenSpec.ofChange Rows.fnRightUsesSpec) false w args) (Rows.fnRightUsesSpec.post enc Tryz.prog Tryz.f3 false true false false):=by
 refine XQ (C:=Tryz.checked) (X:=λw _=>laidMetH Tryz.prog [("math/bits.deBruijn32tab",Rows.laid_math_bits_deBruijn32tab),("math/bits.deBruijn64tab",Rows.laid_math_bits_deBruijn64tab),("internal/strconv.uint64pow10",Rows.laid_internal_strconv_uint64pow10),("unicode/utf8.acceptRanges",Rows.laid_unicode_utf8_acceptRanges),("unicode/utf8.first",Rows.laid_unicode_utf8_first)] w) (λ_ _ _ hh h=>h.of_heap hh) own started k_ func3
  (ChangeSpec.witness_shaped (enc:=enc) (C:=Tryz.checked) (os:=os) (X:=λw _=>laidMetH Tryz.prog [("math/bits.deBruijn32tab",Rows.laid_math_bits_deBruijn32tab),("math/bits.deBruijn64tab",Rows.laid_math_bits_deBruijn64tab),("internal/strconv.uint64pow10",Rows.laid_internal_strconv_uint64pow10),("unicode/utf8.acceptRanges",Rows.laid_unicode_utf8_acceptRanges),("unicode/utf8.first",Rows.laid_unicode_utf8_first)] w) false (World.laidAll Tryz.prog os [("math/bits.deBruijn32tab",Rows.laid_math_bits_deBruijn32tab),("math/bits.deBruijn64tab",Rows.laid_math_bits_deBruijn64tab),("internal/strconv.uint64pow10",Rows.laid_internal_strconv_uint64pow10),("unicode/utf8.acceptRanges",Rows.laid_unicode_utf8_acceptRanges),("unicode/utf8.first",Rows.laid_unicode_utf8_first)]) #[.slice none 0 0] 8 (World.laidAll_os _ _ _) (World.shaped_of_ZipB k_ k_) k_ k_ k_
   (by rw[MakeChecks.laidMetH_plain _ _ _ k_];exact laidMet_laidAll _ k_ k_)) ?_
 intro W base args ds gs before hval0 hW hsh hL;have hval:∀ (j:Nat) t v,Tryz.f3.params[j]? = some t->args[j]? = some v->Value.okWide Tryz.prog W .any base t v:=hval0;refine AaT rowFacts types rfl Tryz.underlying4 rfl hW (λxs h=>?_) hval hsh (Afh (i:=2) (g:=1) (t:=330) (e:=227) (n:=20) k_ k_ k_ k_ k_ k_ k_ k_ k_ k_ hL) k3_269
 .rw[Tryz.params3] at h;obtain⟨x,rfl⟩:=ek.1 (show xs.length=1 from h);rfl
theorem gT:Rows.fnRightUsesRow.holds Tryz.pinned (OpenSpec.ofChange Rows.fnRightUsesSpec) :=
 OpenClaim.holds_of_wide 3 Tryz.f3 rfl rfl rfl rfl rfl rfl rfl ⟨rfl,rfl,rfl,rfl,rfl⟩ rfl rfl rfl rfl rfl k_ func3 closed
  (ee k_) (by unfold Func.isWrapper;first|(rw[G_ (by decide +kernel)];kernel_rfl)|(rw[F_ (by decide +kernel)];exact⟨rfl,rfl⟩))
  (λos started H enc _=>gL os started H enc)
theorem zfA:Rows.fnRightUsesRow.wfByText (OpenSpec.ofChange Rows.fnRightUsesSpec)=true:=by kernel_rfl
theorem zfB:Tryz.pinned.checked.prog.mainIs=some (true, "11484434f922c7d7daf77ed4e25e96ee48d64557c9702343510b4e044ddf174c".toList):=by kernel_rfl
theorem zfC:Tryz.prog.funcNamed "loop.example/g00586/laws.FnRightUses" = some 3:=by kernel_rfl
theorem zfD:false=Tryz.pinned.checked.prog.looks []:=by kernel_rfl
theorem zfE:(Tryz.f3.params.toList.all λu=>!Tryz.prog.wantsStandIn u)=true:=by kernel_rfl
theorem zfF:Tryz.pinned.checked.prog.funcs.any Func.goes=false:=by kernel_rfl
theorem proved:Rows.FnRightUsesCardSaid :=
 Claim7.holds_tied_plain_at .later [] [.data,.data,.data,.data,.pinned] true (true, "11484434f922c7d7daf77ed4e25e96ee48d64557c9702343510b4e044ddf174c") false
  gT (λ_ h=>by cases h) zfA (λ_ h=>by cases h) fnRightUses_row_tie rfl ⟨rfl,rfl⟩ zfB rfl
  (λf fn hf hfn=>by
   obtain rfl:f=3:=Option.some.inj (zfC.symm.trans hf) |>.symm
   obtain rfl:fn=Tryz.f3:=(Option.some.inj (func3.symm.trans hfn)).symm;exact⟨zfD,λj t ht=>by
    have hm:=Array.mem_of_getElem? ht;have hall:=zfE
    exact(show Tryz.prog.wantsStandIn t=false by simpa using aM.1 hall t (Array.mem_toList_iff.2 hm))⟩)
  (RP zfF _).symm
end
end Go.Proofs.YtfklkhgmgglloaaGreatDoor.fnRightUses
