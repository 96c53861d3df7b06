/-
  SheetReads: the sheets that are whole in any bytes, and how many blocks are spoilt, are as the document says, or the error is. (At most 8100 bytes.) No condition beyond the statement's own.
-/
import Derived.Test.YtljkplahkokpaaaLb
set_option linter.unusedVariables false
set_option linter.unusedSimpArgs false
set_option linter.unusedVariables false
set_option maxRecDepth 100000
namespace Go.Proofs.Ytljkplahkokpaaa
open Go.Ev Go.Ev.Ytljkplahkokpaaa
theorem reads_of_args (args : List D) (h : OkA tb 6 [22] args) : Pure Try.prog 3 args (dB true) := by
 obtain ⟨d1, r1, rfl, h1, rfl⟩ := h
 obtain ⟨b, rfl, hb⟩ := okV_bs h1
 exact reads_pure b hb
theorem reads_lifted (os : Os) (started : os.Started) (H : Type) (enc : TypeId × Value → H) :
  ReturnsInHanded {} Try.checked os 3 .any (Rows.sheetReadsSpec.pre6 enc Try.prog Try.f3 Rows.sheetReadsRow.domain false) (Rows.sheetReadsSpec.post enc Try.prog Try.f3 false true false false) := by
 refine returnsInHanded_of_change (C := Try.checked) law_own started (by kernel_rfl) Try.func3
  (ChangeSpec.witness6 (enc := enc) (C := Try.checked) false ⟨#[], #[.slice none 0 0], []⟩ 8 (by kernel_rfl) (by kernel_rfl) (by kernel_rfl) (by kernel_rfl)) ?_
 intro W base args ds gs before hval hW _ _
 exact law_contract pg law_laid 6 rfl rfl Try.underlying4 (by kernel_rfl) (fun H ds hl => by match ds, hl with | [a], _ => exact ⟨rfl, rfl, rfl⟩) reads_of_args hval hW
theorem reads_holds : Rows.SheetReadsSaid :=
 OpenClaim.holds_of_wide 3 Try.f3 rfl rfl rfl rfl rfl rfl rfl ⟨rfl, rfl, rfl, rfl, rfl⟩ rfl rfl rfl rfl rfl (by kernel_rfl) Try.func3 (by kernel_rfl)
  (of_decide_eq_true (by kernel_rfl)) (by unfold Func.isWrapper; first | (rw [if_pos (by decide +kernel)]; kernel_rfl) | (rw [if_neg (by decide +kernel)]; exact ⟨rfl, rfl⟩))
  (fun os started H enc _ => reads_lifted os started H enc)
end Go.Proofs.Ytljkplahkokpaaa

