/-
  SheetByte: if one byte of a file is changed, just its block is spoilt; if that was a card of a sheet of more than one card, just this card lacks, else no card of its sheet is there; all other sheets are read as before; without the reference, apart from what is valid. (As SheetBack; one byte.) No condition beyond the statement's own.
-/
import Derived.Test.YtljkplahkokpaaaLb
set_option linter.unusedVariables false
set_option linter.unusedSimpArgs false
set_option linter.unusedVariables false
set_option maxRecDepth 100000
namespace Go.Proofs.Ytljkplahkokpaaa
open Go.Ev Go.Ev.Ytljkplahkokpaaa
theorem byte_of_args (args : List D) (h : OkA tb 6 [33, 58, 5] args) : Pure Try.prog 14 args (dB true) := by
 obtain ⟨d1, r1, rfl, h1, d2, r2, rfl, h2, d3, r3, rfl, h3, rfl⟩ := h
 obtain ⟨l, rfl⟩ := okV_shs h1
 obtain ⟨z, rfl, hz⟩ := okV_u16 h2
 obtain ⟨y, rfl, hy⟩ := okV_u8 h3
 exact byte_pure l z y hz hy
theorem byte_lifted (os : Os) (started : os.Started) (H : Type) (enc : TypeId × Value → H) :
  ReturnsInHanded {} Try.checked os 14 .any (Rows.sheetByteSpec.pre6 enc Try.prog Try.f14 Rows.sheetByteRow.domain false) (Rows.sheetByteSpec.post enc Try.prog Try.f14 false true false false) := by
 refine returnsInHanded_of_change (C := Try.checked) law_own started (by kernel_rfl) Try.func14
  (ChangeSpec.witness6 (enc := enc) (C := Try.checked) false ⟨#[], #[.slice none 0 0, .int .u16 0, .int .u8 0], []⟩ 8 (by kernel_rfl) (by kernel_rfl) (by kernel_rfl) (by kernel_rfl)) ?_
 intro W base args ds gs before hval hW _ _
 exact law_contract pg law_laid 6 rfl rfl Try.underlying4 (by kernel_rfl) (fun H ds hl => by match ds, hl with | [a, b, c], _ => exact ⟨rfl, rfl, rfl⟩) byte_of_args hval hW
theorem byte_holds : Rows.SheetByteSaid :=
 OpenClaim.holds_of_wide 14 Try.f14 rfl rfl rfl rfl rfl rfl rfl ⟨rfl, rfl, rfl, rfl, rfl⟩ rfl rfl rfl rfl rfl (by kernel_rfl) Try.func14 (by kernel_rfl)
  (of_decide_eq_true (by kernel_rfl)) (by unfold Func.isWrapper; first | (rw [if_pos (by decide +kernel)]; kernel_rfl) | (rw [if_neg (by decide +kernel)]; exact ⟨rfl, rfl⟩))
  (fun os started H enc _ => byte_lifted os started H enc)
end Go.Proofs.Ytljkplahkokpaaa

