/-
  PlateOrder: with specimens in another order the best plans are worth as much, with as many cuts. (Valid plates of at most 30 units and 3 specimens; they are turned.) No condition beyond the statement's own.
-/
import Derived.Test.YtojlbcodfebmgaaLg
set_option linter.unusedVariables false
set_option maxRecDepth 100000
namespace Go.Proofs.Ytojlbcodfebmgaa
open Go.Ev Go.Ev.Ytojlbcodfebmgaa
theorem order_of_args (args : List D) (h : OkA tb 6 [24, 5] args) : Pure Try.prog 9 args (dB true) := by
  obtain ⟨d1, r1, rfl, h1, d2, r2, rfl, h2, rfl⟩ := h
  obtain ⟨p, rfl, _⟩ := okV_plate h1
  obtain ⟨b, rfl, hb⟩ := okV_u8 h2
  exact plateOrder_pure p b hb
theorem order_lifted (os : Os) (started : os.Started) (H : Type) (enc : TypeId × Value → H) :
    ReturnsInHanded {} Try.checked os 9 .any (Rows.plateOrderSpec.pre6 enc Try.prog Try.f9 Rows.plateOrderRow.domain false) (Rows.plateOrderSpec.post enc Try.prog Try.f9 false true false false) := by
  refine returnsInHanded_of_change (C := Try.checked) law_own started (by kernel_rfl) Try.func9
    (ChangeSpec.witness6 (enc := enc) (C := Try.checked) false ⟨#[], #[.agg #[.int .i64 0, .int .i64 0, .int .i64 0, .slice none 0 0], .int .u8 0], []⟩ 8 (by kernel_rfl) (by kernel_rfl) (by kernel_rfl) (by kernel_rfl)) ?_
  intro W base args ds gs before hval hW _ _
  exact law_contract pg law_laid 6 rfl rfl Try.underlying4 (by kernel_rfl) (fun H ds hl => by match ds, hl with | [a, b], _ => exact ⟨rfl, rfl, rfl⟩) order_of_args hval hW
theorem order_holds : Rows.PlateOrderSaid :=
  OpenClaim.holds_of_wide 9 Try.f9 rfl rfl rfl rfl rfl rfl rfl ⟨rfl, rfl, rfl, rfl, rfl⟩ rfl rfl rfl rfl rfl (by kernel_rfl) Try.func9 (by kernel_rfl)
    (of_decide_eq_true (by kernel_rfl)) (by unfold Func.isWrapper; first | (rw [if_pos (by decide +kernel)]; kernel_rfl) | (rw [if_neg (by decide +kernel)]; exact ⟨rfl, rfl⟩))
    (fun os started H enc _ => order_lifted os started H enc)
end Go.Proofs.Ytojlbcodfebmgaa
