/-
  PlanFewest: the single plan keeps the demand, and no plan of one stage with fewer pieces does; the double plan keeps it, and its mean is at most that of any plan of two stages that keeps it. No condition beyond the statement's own.
-/
import Derived.Test.YthmandhpmkfopaaLh
set_option linter.unusedVariables false
set_option maxRecDepth 100000
namespace Go.Proofs.Ythmandhpmkfopaa
open Go.Ev Go.Ev.Ythmandhpmkfopaa
theorem fewest_of_args (args : List D) (h : OkA tb 6 [5, 64, 24, 5, 5] args) : Pure Try.prog 13 args (dB true) := by
  obtain ⟨d1, r1, rfl, h1, d2, r2, rfl, h2, d3, r3, rfl, h3, d4, r4, rfl, h4, d5, r5, rfl, h5, rfl⟩ := h
  obtain ⟨lot, rfl, hlot⟩ := okV_int rfl h1
  obtain ⟨x, rfl, _, hx, _, _⟩ := okV_dem h2
  obtain ⟨ol, l, rfl, _, hl, hr⟩ := okV_plan h3
  obtain ⟨t, rfl, ht⟩ := okV_int rfl h4
  obtain ⟨a, rfl, ha⟩ := okV_int rfl h5
  exact fewest_pure lot (bounds_u8 hlot) x hx ol l hl hr t a (bounds_u8 ht) (bounds_u8 ha)
theorem fewest_lifted (os : Os) (started : os.Started) (H : Type) (enc : TypeId × Value → H) :
    ReturnsInHanded {} Try.checked os 13 .any (Rows.planFewestSpec.pre6 enc Try.prog Try.f13 Rows.planFewestRow.domain false) (Rows.planFewestSpec.post enc Try.prog Try.f13 false true false false) := by
  refine returnsInHanded_of_change (C := Try.checked) law_own started (by kernel_rfl) Try.func13
    (ChangeSpec.witness6 (enc := enc) (C := Try.checked) false ⟨#[], #[.int .u8 0, .agg #[.int .i64 0, .int .i64 0, .int .i64 0, .int .i64 0], .agg #[.int .i64 0, .slice none 0 0], .int .u8 0, .int .u8 0], []⟩ 8 (by kernel_rfl) (by kernel_rfl) (by kernel_rfl) (by kernel_rfl)) ?_
  intro W base args ds gs before hval hW _ _
  exact law_contract pg law_laid 6 rfl rfl Try.underlying4 (by kernel_rfl) (fun H ds hl => by match ds, hl with | [a, b, c, d, e], _ => exact ⟨rfl, rfl, rfl⟩) fewest_of_args hval hW
theorem fewest_holds : Rows.PlanFewestSaid :=
  OpenClaim.holds_of_wide 13 Try.f13 rfl rfl rfl rfl rfl rfl rfl ⟨rfl, rfl, rfl, rfl, rfl⟩ rfl rfl rfl rfl rfl (by kernel_rfl) Try.func13 (by kernel_rfl)
    (of_decide_eq_true (by kernel_rfl)) (by unfold Func.isWrapper; first | (rw [if_pos (by decide +kernel)]; kernel_rfl) | (rw [if_neg (by decide +kernel)]; exact ⟨rfl, rfl⟩))
    (fun os started H enc _ => fewest_lifted os started H enc)
end Go.Proofs.Ythmandhpmkfopaa
