/-
  SheetNames: the examples, and errors. (A closed statement.) No condition beyond the statement's own.
-/
import Derived.Test.YtljkplahkokpaaaLb
set_option linter.unusedVariables false
set_option linter.unusedSimpArgs false
set_option linter.unusedVariables false
set_option maxRecDepth 100000
namespace Go.Proofs.Ytljkplahkokpaaa
open Go.Ev Go.Ev.Ytljkplahkokpaaa
theorem names_of_args (args : List D) (h : OkA tb 6 [] args) : Pure Try.prog 15 args (dB true) := by
 cases h
 exact names_pure
theorem names_lifted (os : Os) (started : os.Started) (H : Type) (enc : TypeId × Value → H) :
  ReturnsInHanded {} Try.checked os 15 .any (Rows.sheetNamesSpec.pre6 enc Try.prog Try.f15 Rows.sheetNamesRow.domain false) (Rows.sheetNamesSpec.post enc Try.prog Try.f15 false true false false) := by
 refine returnsInHanded_of_change (C := Try.checked) law_own started (by kernel_rfl) Try.func15
  (ChangeSpec.witness6 (enc := enc) (C := Try.checked) false ⟨#[], #[], []⟩ 8 (by kernel_rfl) (by kernel_rfl) (by kernel_rfl) (by kernel_rfl)) ?_
 intro W base args ds gs before hval hW _ _
 exact law_contract pg law_laid 6 rfl rfl Try.underlying4 (by kernel_rfl) (fun H ds hl => by match ds, hl with | [], _ => exact ⟨rfl, rfl, rfl⟩) names_of_args hval hW
theorem names_holds : Rows.SheetNamesSaid :=
 OpenClaim.holds_of_wide 15 Try.f15 rfl rfl rfl rfl rfl rfl rfl ⟨rfl, rfl, rfl, rfl, rfl⟩ rfl rfl rfl rfl rfl (by kernel_rfl) Try.func15 (by kernel_rfl)
  (of_decide_eq_true (by kernel_rfl)) (by unfold Func.isWrapper; first | (rw [if_pos (by decide +kernel)]; kernel_rfl) | (rw [if_neg (by decide +kernel)]; exact ⟨rfl, rfl⟩))
  (fun os started H enc _ => names_lifted os started H enc)
end Go.Proofs.Ytljkplahkokpaaa

