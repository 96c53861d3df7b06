/-
  TopLogged: a specimen creeps in one band, and its stretch is written down as a sheet: each piece that is left of the sheet's cards is a run, all these runs allow the true rates, and the band's rate is in the range that Rates tells; it is told exactly, if a piece has two points. No condition beyond the statement's own.
-/
import Derived.Test.YtijidghjiaiccaaGreatLb
set_option linter.unusedVariables false
set_option linter.unusedSimpArgs false
set_option linter.unusedSectionVars false
set_option maxRecDepth 100000
namespace Go.Proofs.YtijidghjiaiccaaGreat
open Go.Ev Go.Ev.YtijidghjiaiccaaGreat
theorem logged_of_args (args : List D) (h : OkA tb 6 [24, 5, 5, 25, 26] args) : Pure Tryz.prog 3 args (dB true) := by
 obtain ⟨d1, r1, rfl, h1, d2, r2, rfl, h2, d3, r3, rfl, h3, d4, r4, rfl, h4, d5, r5, rfl, h5, rfl⟩ := h
 obtain ⟨rs, rfl⟩ := okV_mat h1
 obtain ⟨B, rfl, hB⟩ := okV_u8 h2
 obtain ⟨P, rfl, hP⟩ := okV_u8 h3
 obtain ⟨ws, rfl, hwl, hw⟩ := okV_words h4
 obtain ⟨z, rfl, hz⟩ := okV_u32 h5
 exact logged_walk rs B P z hB hP hz ws hw hwl
theorem logged_lifted (os : Os) (started : os.Started) (H : Type) (enc : TypeId × Value → H) :
  ReturnsInHanded {} Tryz.checked os 3 .any (Rows.topLoggedSpec.pre6 enc Tryz.prog Tryz.f3 Rows.topLoggedRow.domain false) (Rows.topLoggedSpec.post enc Tryz.prog Tryz.f3 false true false false) := by
 refine returnsInHanded_of_change (C := Tryz.checked) law_own started (by kernel_rfl) Tryz.func3
  (ChangeSpec.witness6 (enc := enc) (C := Tryz.checked) false ⟨#[], #[.agg #[.slice none 0 0], .int .u8 0, .int .u8 0, .slice none 0 0, .int .u32 0], []⟩ 8 (by kernel_rfl) (by kernel_rfl) (by kernel_rfl) (by kernel_rfl)) ?_
 intro W base args ds gs before hval hW _ _
 exact law_contract pg law_laid 6 rfl rfl Tryz.underlying4 (by kernel_rfl) (fun H ds hl => by match ds, hl with | [a, b, c, d, e], _ => exact ⟨rfl, rfl, rfl⟩) logged_of_args hval hW
theorem logged_holds : Rows.TopLoggedSaid :=
 OpenClaim.holds_of_wide 3 Tryz.f3 rfl rfl rfl rfl rfl rfl rfl ⟨rfl, rfl, rfl, rfl, rfl⟩ rfl rfl rfl rfl rfl (by kernel_rfl) Tryz.func3 (by kernel_rfl)
  (of_decide_eq_true (by kernel_rfl)) (by unfold Func.isWrapper; first | (rw [if_pos (by decide +kernel)]; kernel_rfl) | (rw [if_neg (by decide +kernel)]; exact ⟨rfl, rfl⟩))
  (fun os started H enc _ => logged_lifted os started H enc)
end Go.Proofs.YtijidghjiaiccaaGreat

