/-
  The variables that the law of FnRightUses lists hold what the program's text lays in them. Each closed fact stands alone.
-/
import Derived.Test.YtfklkhgmgglloaaGreatDoorRows
import Derived.LaidByTextLater
import Derived.SevenTiedAt
import Derived.LaidSub
import Derived.LaidOnce
namespace Go.Proofs.YtfklkhgmgglloaaGreatDoor
open Go
set_option maxRecDepth 100000
abbrev ownL:List (String×DataW Unit) := [("math/bits.deBruijn32tab",Rows.laid_math_bits_deBruijn32tab),("math/bits.deBruijn64tab",Rows.laid_math_bits_deBruijn64tab),("internal/strconv.uint64pow10",Rows.laid_internal_strconv_uint64pow10),("unicode/utf8.acceptRanges",Rows.laid_unicode_utf8_acceptRanges)]
abbrev ownK:List LaidKind:=[.data,.data,.data,.data]
theorem ownTie1:Tryz.prog.worded (varsWordLater true)=true:=by kernel_rfl
theorem ownTie2:Tryz.prog.worded (varsWordLater !true)=false:=by kernel_rfl
theorem ownTie3:Tryz.prog.worded rootWordLater=true:=by kernel_rfl
theorem ownTie4:ownL.map (fun x=>Tryz.prog.kindOfLater x.1)=ownK.map some:=by kernel_rfl
theorem ownTie5 : (Tryz.prog.funcNamed "gosem.cut.vars").isSome=true:=by kernel_rfl
theorem ownTie6:varsNamedLaterB Tryz.prog (varsId Tryz.prog) ownL=true:=by kernel_rfl
theorem ownTie7:∀ os tape,doorLeaves Tryz.prog 34 8 65 ownL os tape=some (ownL.filter fun x=>x.2.handleName?.isNone,(funcsListed ownL).map (·.2.funcsOut)):=fun _ _=>by kernel_rfl
theorem ownTie:Tryz.prog.laidByTextLater ownL ownK true:=Program.laidByTextLater_by_one 34 8 65 ownTie1 ownTie2 ownTie3 ownTie4 ownTie5 ownTie6 ownTie7
theorem own_pin_laid_unicode_utf8_first : Tryz.pinned.checked.prog.pinnedFits "unicode/utf8.first" = true:=by kernel_rfl
theorem own_noOwnUnsafe : Tryz.pinned.checked.prog.headLifts.contains "ownunsafe" = false:=by kernel_rfl
theorem own_fits1:Tryz.pinned.checked.prog.listedFits [("math/bits.deBruijn32tab",Rows.laid_math_bits_deBruijn32tab),("math/bits.deBruijn64tab",Rows.laid_math_bits_deBruijn64tab),("internal/strconv.uint64pow10",Rows.laid_internal_strconv_uint64pow10),("unicode/utf8.acceptRanges",Rows.laid_unicode_utf8_acceptRanges),("unicode/utf8.first",Rows.laid_unicode_utf8_first)]=true:=by
 unfold Program.listedFits
 rw[own_noOwnUnsafe]
 kernel_rfl
theorem ownTieS:Tryz.prog.laidByTextLater ownL ownK true:=Program.laidByTextLater.sub ownTie ["math/bits.deBruijn32tab", "math/bits.deBruijn64tab", "internal/strconv.uint64pow10", "unicode/utf8.acceptRanges"] (by kernel_rfl) (by kernel_rfl)
theorem fnRightUses_row_tie:Rows.fnRightUsesRow.laidByTextAt .later Tryz.pinned [.data,.data,.data,.data,.pinned] true :=
 OpenClaim.laidByTextAt_pinned rfl rfl ownTieS rfl rfl rfl rfl (fun y hy _e=>by
  simp only[Rows.fnRightUsesRow,List.zip_cons_cons,List.zip_nil_right,List.mem_cons,List.mem_nil_iff,or_false] at hy
  rcases hy with rfl|rfl|rfl|rfl|rfl
  ·cases _e
  ·cases _e
  ·cases _e
  ·cases _e
  ·exact⟨own_pin_laid_unicode_utf8_first,by kernel_rfl⟩) own_fits1
end Go.Proofs.YtfklkhgmgglloaaGreatDoor
