/-
  Contracts of functions, and plain laws, that lead to the statement. Written by an agent.
-/
import Derived.Test.YtdgjogeddogbdaaLg
set_option linter.unusedVariables false
set_option linter.unusedSimpArgs false
set_option maxRecDepth 100000
namespace Go.Ev.Ytdgjogeddogbdaa
open Go.Proofs
theorem ck_of {l : List P3} {r : P3} (h : erC l r = 0) : ckC l = 0 := by
  unfold erC at h
  split at h
  · assumption
  · exact h
/-- what a curve of few truths is -/
theorem few_of {l : List P3} {r : P3} (hf : fewB l = true) (he : erC l r = 0) : cntN l 0 l.length ≤ 800 := by
  have hv := erC_iff.1 he
  unfold fewB at hf
  rw [Bool.and_eq_true, Bool.or_eq_true, ck_of he] at hf
  have hm : manyN l l.length ≤ 800 := by
    rcases hf.2 with h | h
    · exact absurd h (by decide)
    · exact of_decide_eq_true h
  have := many_cnt (sz_pos hv) l.length (Nat.le_refl _) hm
  omega
theorem few_len {l : List P3} (hf : fewB l = true) : l.length ≤ 25 := by
  unfold fewB at hf
  rw [Bool.and_eq_true, decide_eq_true_eq] at hf
  omega
/-- the document's span, of all truths -/
theorem spans_call {l : List P3} {r : P3} (hf : fewB l = true) (he : erC l r = 0) {kind : Nat} (hk : kind < 4) :
    Pure Try.prog 26 [crD l, isD []] (tsD (trN l [] l.length)) ∧
    Pure Try.prog 25 [crD l, ruD r, dU kind, tsD (trN l [] l.length)] (.tup [.agg [dI (spanI kind l r).1, dI (spanI kind l r).2], dB (decide (0 < (emK kind l r).length))]) := by
  have hv := erC_iff.1 he
  have hc := few_of hf he
  refine ⟨truths_pure hv hc l.length [] (by simp) hc, ?_⟩
  have h := rspan_pure hv hk (trN l [] l.length) (fun t ht => TB.of hv (tr_all.1 ht)) (by rw [trN_len]; exact hc)
  rw [span_all hv hk] at h
  by_cases hn : 0 < (emK kind l r).length
  · have h0 := askE_zero.2 ⟨hv, hk, hn⟩
    have e : spanI kind l r = (numQ kind l r (endsF kind l r).1, numQ kind l r (endsF kind l r).2) := by unfold spanI; rw [if_pos h0]
    rw [if_pos hn] at h
    rw [e, decide_eq_true hn]
    exact h
  · have e : spanI kind l r = (0, 0) := by
      unfold spanI
      rw [if_neg fun h0 => hn (askE_zero.1 h0).2.2]
    rw [if_neg hn] at h
    rw [e, decide_eq_false hn]
    exact h
attribute [local irreducible] Pure Bor Iter inB ptB ruB okL goodB lineI ckC truB maxN fstN yvN mvN wkN metI tA pAt erC cF tv lsI resQ qs lstI knL bkN numQ bkF lowF highF mEm mEm1 yEm emK endsN endsF askE hasT spanI shT prB reE reD fewB trN cntN manyN szI
set_option maxHeartbeats 4000000 in
theorem spans_pure (l : List P3) (r : P3) (k : Nat) (hk : k ≤ 255) : Pure Try.prog 4 [crD l, ruD r, dU k] (dB true) := by
  have c1 := few_pure l (by omega)
  by_cases h1 : fewB l = true
  · have h1' : (!fewB l) = false := by rw [h1]; rfl
    have hlen := few_len h1
    have hl : l.length ≤ 1000 := by omega
    have cc := curve_pure l hl
    have cr := rule_pure r
    have cs := span_pure l hl r k hk
    have cf := fault_pure l hl r
    have bb : ∀ x : Int, (x == x) = true := fun x => by rw [beq_iff_eq]
    by_cases he : erC l r = 0
    · by_cases h3 : k < 4
      · have hk3 : decide ((k : Int) > 3) = false := by rw [decide_eq_false_iff_not]; omega
        obtain ⟨ct, cS⟩ := spans_call h1 he h3
        rw [he] at cf
        by_cases hn : 0 < (emK k l r).length
        · have h0 : askE k l r = 0 := askE_zero.2 ⟨erC_iff.1 he, h3, hn⟩
          rw [h0] at cs
          rw [decide_eq_true hn] at cS
          have f1 := bb (spanI k l r).1
          have f2 := bb (spanI k l r).2
          generalize spanI k l r = S at *
          obtain ⟨S1, S2⟩ := S
          dsimp only at cs cS f1 f2
          have f3 : (S1 == S1 && (S2 == S2 && true)) = true := by simp
          refine pure_of pg Try.func4 (by kernel_rfl) ?_
          conv => whnf
          (refine .inl ⟨_, c1, ?_⟩; conv => whnf)
          (repeat' (first | (apply kT (by with_reducible first | rfl | assumption); conv => whnf) | (apply kF (by with_reducible first | rfl | assumption); conv => whnf) | (apply kT (by decide); conv => whnf) | (apply kF (by decide); conv => whnf) | (apply kB <;> intro _ <;> conv => whnf) | (refine .inl ⟨_, cc, ?_⟩; conv => whnf) | (refine .inl ⟨_, cr, ?_⟩; conv => whnf) | (refine .inl ⟨_, cs, ?_⟩; conv => whnf) | (refine .inl ⟨_, cf, ?_⟩; conv => whnf) | (refine .inl ⟨_, ct, ?_⟩; conv => whnf) | (refine .inl ⟨_, cS, ?_⟩; conv => whnf) | (refine .inl ⟨_, awake_pure, ?_⟩; conv => whnf) | fail))
          all_goals first | rfl | (exfalso; rename_i hx; first | (rw [f3] at hx; exact Bool.noConfusion hx) | (rw [h1'] at hx; exact Bool.noConfusion hx) | exact Bool.noConfusion hx)
        · have h0 : askE k l r = 7 := by unfold askE; rw [if_pos he, if_neg (by omega), if_pos (by omega)]
          have e : spanI k l r = (0, 0) := by unfold spanI; rw [if_neg (by omega)]
          rw [h0, e] at cs
          rw [decide_eq_false hn, e] at cS
          refine pure_of pg Try.func4 (by kernel_rfl) ?_
          conv => whnf
          (refine .inl ⟨_, c1, ?_⟩; conv => whnf)
          (repeat' (first | (apply kT (by with_reducible first | rfl | assumption); conv => whnf) | (apply kF (by with_reducible first | rfl | assumption); conv => whnf) | (apply kT (by decide); conv => whnf) | (apply kF (by decide); conv => whnf) | (apply kB <;> intro _ <;> conv => whnf) | (refine .inl ⟨_, cc, ?_⟩; conv => whnf) | (refine .inl ⟨_, cr, ?_⟩; conv => whnf) | (refine .inl ⟨_, cs, ?_⟩; conv => whnf) | (refine .inl ⟨_, cf, ?_⟩; conv => whnf) | (refine .inl ⟨_, ct, ?_⟩; conv => whnf) | (refine .inl ⟨_, cS, ?_⟩; conv => whnf) | (refine .inl ⟨_, awake_pure, ?_⟩; conv => whnf) | fail))
          all_goals first | rfl | (exfalso; rename_i hx; first | (rw [h1'] at hx; exact Bool.noConfusion hx) | exact Bool.noConfusion hx)
      · have hk3 : decide ((k : Int) > 3) = true := by rw [decide_eq_true_eq]; omega
        have h0 : askE k l r = 2 := by unfold askE; rw [if_pos he, if_pos (by omega)]
        have e : spanI k l r = (0, 0) := by unfold spanI; rw [if_neg (by omega)]
        rw [h0, e] at cs
        rw [he] at cf
        refine pure_of pg Try.func4 (by kernel_rfl) ?_
        conv => whnf
        (refine .inl ⟨_, c1, ?_⟩; conv => whnf)
        (repeat' (first | (apply kT (by with_reducible first | rfl | assumption); conv => whnf) | (apply kF (by with_reducible first | rfl | assumption); conv => whnf) | (apply kT (by decide); conv => whnf) | (apply kF (by decide); conv => whnf) | (apply kB <;> intro _ <;> conv => whnf) | (refine .inl ⟨_, cc, ?_⟩; conv => whnf) | (refine .inl ⟨_, cr, ?_⟩; conv => whnf) | (refine .inl ⟨_, cs, ?_⟩; conv => whnf) | (refine .inl ⟨_, cf, ?_⟩; conv => whnf) | (refine .inl ⟨_, awake_pure, ?_⟩; conv => whnf) | fail))
        all_goals first | rfl | (exfalso; rename_i hx; first | (rw [h1'] at hx; exact Bool.noConfusion hx) | exact Bool.noConfusion hx)
    · have h0 : askE k l r = erC l r := by unfold askE; rw [if_neg he]
      have e : spanI k l r = (0, 0) := by unfold spanI; rw [if_neg (by omega)]
      rw [h0, e] at cs
      have g1 : (erC l r == 0) = false := by rw [beq_eq_false_iff_ne]; exact he
      have g2 : (erC l r != 0) = true := by rw [bne_iff_ne]; exact he
      have g3 := bb (erC l r)
      refine pure_of pg Try.func4 (by kernel_rfl) ?_
      conv => whnf
      (refine .inl ⟨_, c1, ?_⟩; conv => whnf)
      (repeat' (first | (apply kT (by with_reducible first | rfl | assumption); conv => whnf) | (apply kF (by with_reducible first | rfl | assumption); conv => whnf) | (apply kT (by decide); conv => whnf) | (apply kF (by decide); conv => whnf) | (apply kB <;> intro _ <;> conv => whnf) | (refine .inl ⟨_, cc, ?_⟩; conv => whnf) | (refine .inl ⟨_, cr, ?_⟩; conv => whnf) | (refine .inl ⟨_, cs, ?_⟩; conv => whnf) | (refine .inl ⟨_, cf, ?_⟩; conv => whnf) | (refine .inl ⟨_, awake_pure, ?_⟩; conv => whnf) | fail))
      all_goals first | rfl | (exfalso; rename_i hx; first | (rw [h1'] at hx; exact Bool.noConfusion hx) | exact Bool.noConfusion hx)
  · have h1' : (!fewB l) = true := by simpa using h1
    refine pure_of pg Try.func4 (by kernel_rfl) ?_
    conv => whnf
    (refine .inl ⟨_, c1, ?_⟩; conv => whnf)
    (repeat' (first | (apply kT (by with_reducible first | rfl | assumption); conv => whnf) | (apply kF (by with_reducible first | rfl | assumption); conv => whnf) | (apply kT (by decide); conv => whnf) | (apply kF (by decide); conv => whnf) | (apply kB <;> intro _ <;> conv => whnf) | (refine .inl ⟨_, awake_pure, ?_⟩; conv => whnf) | fail))
    all_goals first | rfl | (exfalso; rename_i hx; first | (rw [h1'] at hx; exact Bool.noConfusion hx) | exact Bool.noConfusion hx)
end Go.Ev.Ytdgjogeddogbdaa
