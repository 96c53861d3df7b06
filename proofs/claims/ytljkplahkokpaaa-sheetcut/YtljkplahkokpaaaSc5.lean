/-
  SheetCut: of the beginning of a file all sheets are read whose cards are wholly in it; what is left behind the last whole block is spoilt, if there is something; without the reference, apart from what is valid. (As SheetBack.) No condition beyond the statement's own.
-/
import Derived.Test.YtljkplahkokpaaaLb
set_option linter.unusedVariables false
set_option linter.unusedSimpArgs false
set_option linter.unusedVariables false
set_option maxRecDepth 100000
namespace Go.Proofs.Ytljkplahkokpaaa
open Go.Ev Go.Ev.Ytljkplahkokpaaa
theorem cut_of_args (args : List D) (h : OkA tb 6 [33, 58] args) : Pure Try.prog 6 args (dB true) := by
 obtain ⟨d1, r1, rfl, h1, d2, r2, rfl, h2, rfl⟩ := h
 obtain ⟨l, rfl⟩ := okV_shs h1
 obtain ⟨z, rfl, hz⟩ := okV_u16 h2
 exact cut_pure2 l z hz
theorem cut_lifted (os : Os) (started : os.Started) (H : Type) (enc : TypeId × Value → H) :
  ReturnsInHanded {} Try.checked os 6 .any (Rows.sheetCutSpec.pre6 enc Try.prog Try.f6 Rows.sheetCutRow.domain false) (Rows.sheetCutSpec.post enc Try.prog Try.f6 false true false false) := by
 refine returnsInHanded_of_change (C := Try.checked) law_own started (by kernel_rfl) Try.func6
  (ChangeSpec.witness6 (enc := enc) (C := Try.checked) false ⟨#[], #[.slice none 0 0, .int .u16 0], []⟩ 8 (by kernel_rfl) (by kernel_rfl) (by kernel_rfl) (by kernel_rfl)) ?_
 intro W base args ds gs before hval hW _ _
 exact law_contract pg law_laid 6 rfl rfl Try.underlying4 (by kernel_rfl) (fun H ds hl => by match ds, hl with | [a, b], _ => exact ⟨rfl, rfl, rfl⟩) cut_of_args hval hW
theorem cut_holds : Rows.SheetCutSaid :=
 OpenClaim.holds_of_wide 6 Try.f6 rfl rfl rfl rfl rfl rfl rfl ⟨rfl, rfl, rfl, rfl, rfl⟩ rfl rfl rfl rfl rfl (by kernel_rfl) Try.func6 (by kernel_rfl)
  (of_decide_eq_true (by kernel_rfl)) (by unfold Func.isWrapper; first | (rw [if_pos (by decide +kernel)]; kernel_rfl) | (rw [if_neg (by decide +kernel)]; exact ⟨rfl, rfl⟩))
  (fun os started H enc _ => cut_lifted os started H enc)
end Go.Proofs.Ytljkplahkokpaaa
