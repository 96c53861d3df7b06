/-
  SheetOrder: blocks in another order, and one of them twice, are read the same, lack the same, and have the same pieces (but for how many are spoilt); without the reference. (At most 8000 bytes.) No condition beyond the statement's own.
-/
import Derived.Test.YtljkplahkokpaaaLb
set_option linter.unusedVariables false
set_option linter.unusedSimpArgs false
set_option linter.unusedVariables false
set_option maxRecDepth 100000
namespace Go.Proofs.Ytljkplahkokpaaa
open Go.Ev Go.Ev.Ytljkplahkokpaaa
theorem order_of_args (args : List D) (h : OkA tb 6 [22, 5, 5, 58] args) : Pure Try.prog 13 args (dB true) := by
 obtain ⟨d1, r1, rfl, h1, d2, r2, rfl, h2, d3, r3, rfl, h3, d4, r4, rfl, h4, rfl⟩ := h
 obtain ⟨b, rfl, hb⟩ := okV_bs h1
 obtain ⟨x, rfl, hx⟩ := okV_u8 h2
 obtain ⟨y, rfl, hy⟩ := okV_u8 h3
 obtain ⟨z, rfl, hz⟩ := okV_u16 h4
 exact order_pure b x y z hb hx hy
theorem order_lifted (os : Os) (started : os.Started) (H : Type) (enc : TypeId × Value → H) :
  ReturnsInHanded {} Try.checked os 13 .any (Rows.sheetOrderSpec.pre6 enc Try.prog Try.f13 Rows.sheetOrderRow.domain false) (Rows.sheetOrderSpec.post enc Try.prog Try.f13 false true false false) := by
 refine returnsInHanded_of_change (C := Try.checked) law_own started (by kernel_rfl) Try.func13
  (ChangeSpec.witness6 (enc := enc) (C := Try.checked) false ⟨#[], #[.slice none 0 0, .int .u8 0, .int .u8 0, .int .u16 0], []⟩ 8 (by kernel_rfl) (by kernel_rfl) (by kernel_rfl) (by kernel_rfl)) ?_
 intro W base args ds gs before hval hW _ _
 exact law_contract pg law_laid 6 rfl rfl Try.underlying4 (by kernel_rfl) (fun H ds hl => by match ds, hl with | [a, b, c, d], _ => exact ⟨rfl, rfl, rfl⟩) order_of_args hval hW
theorem order_holds : Rows.SheetOrderSaid :=
 OpenClaim.holds_of_wide 13 Try.f13 rfl rfl rfl rfl rfl rfl rfl ⟨rfl, rfl, rfl, rfl, rfl⟩ rfl rfl rfl rfl rfl (by kernel_rfl) Try.func13 (by kernel_rfl)
  (of_decide_eq_true (by kernel_rfl)) (by unfold Func.isWrapper; first | (rw [if_pos (by decide +kernel)]; kernel_rfl) | (rw [if_neg (by decide +kernel)]; exact ⟨rfl, rfl⟩))
  (fun os started H enc _ => order_lifted os started H enc)
end Go.Proofs.Ytljkplahkokpaaa
