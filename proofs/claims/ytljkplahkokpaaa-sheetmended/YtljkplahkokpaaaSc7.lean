/-
  SheetMended: if each card of a file is in one copy of it at least, however many blocks of the copies are spoilt, Mend of the copies makes the file again (of sheets by rising number); without the reference, apart from what is valid. (As SheetBack; two copies: which one has each block unspoilt, by bits; what is changed, by words.) No condition beyond the statement's own.
-/
import Derived.Test.YtljkplahkokpaaaLc
set_option linter.unusedVariables false
set_option linter.unusedSimpArgs false
set_option linter.unusedVariables false
set_option maxRecDepth 100000
namespace Go.Proofs.Ytljkplahkokpaaa
open Go.Ev Go.Ev.Ytljkplahkokpaaa
theorem mended_of_args (args : List D) (h : OkA tb 6 [33, 80, 81] args) : Pure Try.prog 11 args (dB true) := by
 obtain ⟨d1, r1, rfl, h1, d2, r2, rfl, h2, d3, r3, rfl, h3, rfl⟩ := h
 obtain ⟨l, rfl⟩ := okV_shs h1
 obtain ⟨z, rfl, hz⟩ := okV_u64 h2
 obtain ⟨ws, rfl, hwl, hws⟩ := okV_words h3
 exact mended_pure l z ws hz hws hwl
theorem mended_lifted (os : Os) (started : os.Started) (H : Type) (enc : TypeId × Value → H) :
  ReturnsInHanded {} Try.checked os 11 .any (Rows.sheetMendedSpec.pre6 enc Try.prog Try.f11 Rows.sheetMendedRow.domain false) (Rows.sheetMendedSpec.post enc Try.prog Try.f11 false true false false) := by
 refine returnsInHanded_of_change (C := Try.checked) law_own started (by kernel_rfl) Try.func11
  (ChangeSpec.witness6 (enc := enc) (C := Try.checked) false ⟨#[], #[.slice none 0 0, .int .u64 0, .slice none 0 0], []⟩ 8 (by kernel_rfl) (by kernel_rfl) (by kernel_rfl) (by kernel_rfl)) ?_
 intro W base args ds gs before hval hW _ _
 exact law_contract pg law_laid 6 rfl rfl Try.underlying4 (by kernel_rfl) (fun H ds hl => by match ds, hl with | [a, b, c], _ => exact ⟨rfl, rfl, rfl⟩) mended_of_args hval hW
theorem mended_holds : Rows.SheetMendedSaid :=
 OpenClaim.holds_of_wide 11 Try.f11 rfl rfl rfl rfl rfl rfl rfl ⟨rfl, rfl, rfl, rfl, rfl⟩ rfl rfl rfl rfl rfl (by kernel_rfl) Try.func11 (by kernel_rfl)
  (of_decide_eq_true (by kernel_rfl)) (by unfold Func.isWrapper; first | (rw [if_pos (by decide +kernel)]; kernel_rfl) | (rw [if_neg (by decide +kernel)]; exact ⟨rfl, rfl⟩))
  (fun os started H enc _ => mended_lifted os started H enc)
end Go.Proofs.Ytljkplahkokpaaa
