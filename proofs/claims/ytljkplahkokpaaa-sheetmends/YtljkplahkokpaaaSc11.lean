/-
  SheetMends: the cards of any files, each once, are as the document says, or the error is. (At most 8 files of 8100 bytes; 20000 bytes together.) No condition beyond the statement's own.
-/
import Derived.Test.YtljkplahkokpaaaLb
set_option linter.unusedVariables false
set_option linter.unusedSimpArgs false
set_option linter.unusedVariables false
set_option maxRecDepth 100000
namespace Go.Proofs.Ytljkplahkokpaaa
open Go.Ev Go.Ev.Ytljkplahkokpaaa
theorem mends_of_args (args : List D) (h : OkA tb 6 [45] args) : Pure Try.prog 7 args (dB true) := by
 obtain ⟨d1, r1, rfl, h1, rfl⟩ := h
 obtain ⟨l, rfl, hb⟩ := okV_bss h1
 exact mends_pure l hb
theorem mends_lifted (os : Os) (started : os.Started) (H : Type) (enc : TypeId × Value → H) :
  ReturnsInHanded {} Try.checked os 7 .any (Rows.sheetMendsSpec.pre6 enc Try.prog Try.f7 Rows.sheetMendsRow.domain false) (Rows.sheetMendsSpec.post enc Try.prog Try.f7 false true false false) := by
 refine returnsInHanded_of_change (C := Try.checked) law_own started (by kernel_rfl) Try.func7
  (ChangeSpec.witness6 (enc := enc) (C := Try.checked) false ⟨#[], #[.slice none 0 0], []⟩ 8 (by kernel_rfl) (by kernel_rfl) (by kernel_rfl) (by kernel_rfl)) ?_
 intro W base args ds gs before hval hW _ _
 exact law_contract pg law_laid 6 rfl rfl Try.underlying4 (by kernel_rfl) (fun H ds hl => by match ds, hl with | [a], _ => exact ⟨rfl, rfl, rfl⟩) mends_of_args hval hW
theorem mends_holds : Rows.SheetMendsSaid :=
 OpenClaim.holds_of_wide 7 Try.f7 rfl rfl rfl rfl rfl rfl rfl ⟨rfl, rfl, rfl, rfl, rfl⟩ rfl rfl rfl rfl rfl (by kernel_rfl) Try.func7 (by kernel_rfl)
  (of_decide_eq_true (by kernel_rfl)) (by unfold Func.isWrapper; first | (rw [if_pos (by decide +kernel)]; kernel_rfl) | (rw [if_neg (by decide +kernel)]; exact ⟨rfl, rfl⟩))
  (fun os started H enc _ => mends_lifted os started H enc)
end Go.Proofs.Ytljkplahkokpaaa

