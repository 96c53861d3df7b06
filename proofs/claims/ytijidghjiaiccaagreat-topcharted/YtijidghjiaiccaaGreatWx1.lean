/-
  TopCharted: a sheet of what was read of a specimen is read back from its cards in another order, and the curve says the same of it; of the cards that are left each piece's points are the sheet's, and no load is above the strength that was read, nor above its span. No condition beyond the statement's own.
-/
import Derived.Test.YtijidghjiaiccaaGreatLb
set_option linter.unusedVariables false
set_option linter.unusedSimpArgs false
set_option linter.unusedSectionVars false
set_option maxRecDepth 100000
namespace Go.Proofs.YtijidghjiaiccaaGreat
open Go.Ev Go.Ev.YtijidghjiaiccaaGreat
theorem charted_of_args (args : List D) (h : OkA tb 6 [66, 68, 25, 37, 26] args) : Pure Tryz.prog 4 args (dB true) := by
 obtain ⟨d1, r1, rfl, h1, d2, r2, rfl, h2, d3, r3, rfl, h3, d4, r4, rfl, h4, d5, r5, rfl, h5, rfl⟩ := h
 obtain ⟨l, rfl⟩ := okV_curve h1
 obtain ⟨r, rfl⟩ := okV_rule h2
 obtain ⟨ws, rfl, hwl, hw⟩ := okV_words h3
 obtain ⟨N, rfl, hN⟩ := okV_u16 h4
 obtain ⟨z, rfl, hz⟩ := okV_u32 h5
 exact charted_walk l r ws hw hwl N z hN hz
theorem charted_lifted (os : Os) (started : os.Started) (H : Type) (enc : TypeId × Value → H) :
  ReturnsInHanded {} Tryz.checked os 4 .any (Rows.topChartedSpec.pre6 enc Tryz.prog Tryz.f4 Rows.topChartedRow.domain false) (Rows.topChartedSpec.post enc Tryz.prog Tryz.f4 false true false false) := by
 refine returnsInHanded_of_change (C := Tryz.checked) law_own started (by kernel_rfl) Tryz.func4
  (ChangeSpec.witness6 (enc := enc) (C := Tryz.checked) false ⟨#[], #[.agg #[.slice none 0 0], .agg #[.int .i64 0, .int .i64 0, .int .i64 0], .slice none 0 0, .int .u16 0, .int .u32 0], []⟩ 8 (by kernel_rfl) (by kernel_rfl) (by kernel_rfl) (by kernel_rfl)) ?_
 intro W base args ds gs before hval hW _ _
 exact law_contract pg law_laid 6 rfl rfl Tryz.underlying4 (by kernel_rfl) (fun H ds hl => by match ds, hl with | [a, b, c, d, e], _ => exact ⟨rfl, rfl, rfl⟩) charted_of_args hval hW
theorem charted_holds : Rows.TopChartedSaid :=
 OpenClaim.holds_of_wide 4 Tryz.f4 rfl rfl rfl rfl rfl rfl rfl ⟨rfl, rfl, rfl, rfl, rfl⟩ rfl rfl rfl rfl rfl (by kernel_rfl) Tryz.func4 (by kernel_rfl)
  (of_decide_eq_true (by kernel_rfl)) (by unfold Func.isWrapper; first | (rw [if_pos (by decide +kernel)]; kernel_rfl) | (rw [if_neg (by decide +kernel)]; exact ⟨rfl, rfl⟩))
  (fun os started H enc _ => charted_lifted os started H enc)
end Go.Proofs.YtijidghjiaiccaaGreat

