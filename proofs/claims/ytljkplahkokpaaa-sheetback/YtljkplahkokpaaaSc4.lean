/-
  SheetBack: Read returns of a file its sheets, by rising number, and nothing spoilt; nothing lacks in it; without the reference, apart from what is valid. (At most 12 sheets of 110 points.) No condition beyond the statement's own.
-/
import Derived.Test.YtljkplahkokpaaaLb
set_option linter.unusedVariables false
set_option linter.unusedSimpArgs false
set_option linter.unusedVariables false
set_option maxRecDepth 100000
namespace Go.Proofs.Ytljkplahkokpaaa
open Go.Ev Go.Ev.Ytljkplahkokpaaa
theorem back_of_args (args : List D) (h : OkA tb 6 [33] args) : Pure Try.prog 10 args (dB true) := by
 obtain ⟨d1, r1, rfl, h1, rfl⟩ := h
 obtain ⟨l, rfl⟩ := okV_shs h1
 exact back_pure l
theorem back_lifted (os : Os) (started : os.Started) (H : Type) (enc : TypeId × Value → H) :
  ReturnsInHanded {} Try.checked os 10 .any (Rows.sheetBackSpec.pre6 enc Try.prog Try.f10 Rows.sheetBackRow.domain false) (Rows.sheetBackSpec.post enc Try.prog Try.f10 false true false false) := by
 refine returnsInHanded_of_change (C := Try.checked) law_own started (by kernel_rfl) Try.func10
  (ChangeSpec.witness6 (enc := enc) (C := Try.checked) false ⟨#[], #[.slice none 0 0], []⟩ 8 (by kernel_rfl) (by kernel_rfl) (by kernel_rfl) (by kernel_rfl)) ?_
 intro W base args ds gs before hval hW _ _
 exact law_contract pg law_laid 6 rfl rfl Try.underlying4 (by kernel_rfl) (fun H ds hl => by match ds, hl with | [a], _ => exact ⟨rfl, rfl, rfl⟩) back_of_args hval hW
theorem back_holds : Rows.SheetBackSaid :=
 OpenClaim.holds_of_wide 10 Try.f10 rfl rfl rfl rfl rfl rfl rfl ⟨rfl, rfl, rfl, rfl, rfl⟩ rfl rfl rfl rfl rfl (by kernel_rfl) Try.func10 (by kernel_rfl)
  (of_decide_eq_true (by kernel_rfl)) (by unfold Func.isWrapper; first | (rw [if_pos (by decide +kernel)]; kernel_rfl) | (rw [if_neg (by decide +kernel)]; exact ⟨rfl, rfl⟩))
  (fun os started H enc _ => back_lifted os started H enc)
end Go.Proofs.Ytljkplahkokpaaa
