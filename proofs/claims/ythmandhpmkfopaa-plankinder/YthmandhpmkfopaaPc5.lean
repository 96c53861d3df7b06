/-
  PlanKinder: with a greater Alpha or Beta, a lesser Good or a greater Bad, a plan that kept the demand still does, and the single plan does not take more pieces. No condition beyond the statement's own.
-/
import Derived.Test.YthmandhpmkfopaaLd
set_option linter.unusedVariables false
set_option maxRecDepth 100000
namespace Go.Proofs.Ythmandhpmkfopaa
open Go.Ev Go.Ev.Ythmandhpmkfopaa
theorem okV_demand {d : D} (h : OkV tb 6 64 d) : ∃ x : S4, d = deD x ∧ InR x.1 ∧ InR x.2.1 ∧ InR x.2.2.1 ∧ InR x.2.2.2 := by
  obtain ⟨y, ds, hy, hd, rfl⟩ := h
  cases hy
  obtain ⟨d1, d2, rfl, ⟨i1, rfl, w1⟩, d3, d4, rfl, ⟨i2, rfl, w2⟩, d5, d6, rfl, ⟨i3, rfl, w3⟩, d7, d8, rfl, ⟨i4, rfl, w4⟩, rfl⟩ := hd
  exact ⟨(i1, i2, i3, i4), rfl, inR_of w1, inR_of w2, inR_of w3, inR_of w4⟩
theorem kinder_of_args (args : List D) (h : OkA tb 6 [24, 64, 5, 5] args) : Pure Try.prog 11 args (dB true) := by
  obtain ⟨d, r, rfl, h1, d2, r2, rfl, h2, d3, r3, rfl, h3, d4, r4, rfl, h4, rfl⟩ := h
  obtain ⟨lot, l, rfl, _, hl, hr⟩ := okV_plan h1
  obtain ⟨x, rfl, _, hx, _, _⟩ := okV_demand h2
  obtain ⟨w, rfl, hw⟩ := okV_int rfl h3
  obtain ⟨b, rfl, hb⟩ := okV_int rfl h4
  exact kinder_pure lot l hl hr x hx w b (bounds_u8 hw) (bounds_u8 hb)
theorem kinder_lifted (os : Os) (started : os.Started) (H : Type) (enc : TypeId × Value → H) :
    ReturnsInHanded {} Try.checked os 11 .any (Rows.planKinderSpec.pre6 enc Try.prog Try.f11 Rows.planKinderRow.domain false) (Rows.planKinderSpec.post enc Try.prog Try.f11 false true false false) := by
  refine returnsInHanded_of_change (C := Try.checked) law_own started (by kernel_rfl) Try.func11
    (ChangeSpec.witness6 (enc := enc) (C := Try.checked) false ⟨#[], #[.agg #[.int .i64 0, .slice none 0 0], .agg #[.int .i64 0, .int .i64 0, .int .i64 0, .int .i64 0], .int .u8 0, .int .u8 0], []⟩ 8 (by kernel_rfl) (by kernel_rfl) (by kernel_rfl) (by kernel_rfl)) ?_
  intro W base args ds gs before hval hW _ _
  exact law_contract pg law_laid 6 rfl rfl Try.underlying4 (by kernel_rfl) (fun H ds hl => by match ds, hl with | [a, b, c, d], _ => exact ⟨rfl, rfl, rfl⟩) kinder_of_args hval hW
theorem kinder_holds : Rows.PlanKinderSaid :=
  OpenClaim.holds_of_wide 11 Try.f11 rfl rfl rfl rfl rfl rfl rfl ⟨rfl, rfl, rfl, rfl, rfl⟩ rfl rfl rfl rfl rfl (by kernel_rfl) Try.func11 (by kernel_rfl)
    (of_decide_eq_true (by kernel_rfl)) (by unfold Func.isWrapper; first | (rw [if_pos (by decide +kernel)]; kernel_rfl) | (rw [if_neg (by decide +kernel)]; exact ⟨rfl, rfl⟩))
    (fun os started H enc _ => kinder_lifted os started H enc)
end Go.Proofs.Ythmandhpmkfopaa
