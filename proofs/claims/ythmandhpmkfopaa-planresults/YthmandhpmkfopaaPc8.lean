/-
  PlanResults: which pieces of a stage are bad does not matter, only how many; results that are open go on with as many as are needed until they decide; what is decided by some results is by the same ones alone. No condition beyond the statement's own.
-/
import Derived.Test.YthmandhpmkfopaaLd
set_option linter.unusedVariables false
set_option maxRecDepth 100000
namespace Go.Proofs.Ythmandhpmkfopaa
open Go.Ev Go.Ev.Ythmandhpmkfopaa
theorem okV_words {d : D} (h : OkV tb 6 59 d) : ∃ l : List Int, d = .seq (l.map fun w => [dU w]) ∧ l.length ≤ 9223372036854775807 ∧ ∀ x ∈ l, 0 ≤ x ∧ x ≤ 255 := by
  obtain ⟨y, ds, hy, hd, rfl⟩ := h
  cases hy
  obtain ⟨es, rfl, hlen, hel⟩ := hd
  obtain ⟨l, rfl, hl⟩ := map_of (f := fun w : Int => [dU w]) (q := fun x => 0 ≤ x ∧ x ≤ 255) (es := es) fun el he => by
    obtain ⟨i, rfl, hw⟩ := hel el he
    exact ⟨i, rfl, bounds_u8 hw⟩
  exact ⟨l, rfl, by simpa [maxLen] using hlen, hl⟩
theorem results_of_args (args : List D) (h : OkA tb 6 [24, 44, 59] args) : Pure Try.prog 8 args (dB true) := by
  obtain ⟨d1, r1, rfl, h1, d2, r2, rfl, h2, d3, r3, rfl, h3, rfl⟩ := h
  obtain ⟨lot, l, rfl, _, hl, hr⟩ := okV_plan h1
  obtain ⟨res, rfl, hres⟩ := okV_bools h2
  obtain ⟨ws, rfl, hws, hw⟩ := okV_words h3
  exact results_pure lot l hl hr res hres ws hws hw
theorem results_lifted (os : Os) (started : os.Started) (H : Type) (enc : TypeId × Value → H) :
    ReturnsInHanded {} Try.checked os 8 .any (Rows.planResultsSpec.pre6 enc Try.prog Try.f8 Rows.planResultsRow.domain false) (Rows.planResultsSpec.post enc Try.prog Try.f8 false true false false) := by
  refine returnsInHanded_of_change (C := Try.checked) law_own started (by kernel_rfl) Try.func8
    (ChangeSpec.witness6 (enc := enc) (C := Try.checked) false ⟨#[], #[.agg #[.int .i64 0, .slice none 0 0], .slice none 0 0, .slice none 0 0], []⟩ 8 (by kernel_rfl) (by kernel_rfl) (by kernel_rfl) (by kernel_rfl)) ?_
  intro W base args ds gs before hval hW _ _
  exact law_contract pg law_laid 6 rfl rfl Try.underlying4 (by kernel_rfl) (fun H ds hl => by match ds, hl with | [a, b, c], _ => exact ⟨rfl, rfl, rfl⟩) results_of_args hval hW
theorem results_holds : Rows.PlanResultsSaid :=
  OpenClaim.holds_of_wide 8 Try.f8 rfl rfl rfl rfl rfl rfl rfl ⟨rfl, rfl, rfl, rfl, rfl⟩ rfl rfl rfl rfl rfl (by kernel_rfl) Try.func8 (by kernel_rfl)
    (of_decide_eq_true (by kernel_rfl)) (by unfold Func.isWrapper; first | (rw [if_pos (by decide +kernel)]; kernel_rfl) | (rw [if_neg (by decide +kernel)]; exact ⟨rfl, rfl⟩))
    (fun os started H enc _ => results_lifted os started H enc)
end Go.Proofs.Ythmandhpmkfopaa
