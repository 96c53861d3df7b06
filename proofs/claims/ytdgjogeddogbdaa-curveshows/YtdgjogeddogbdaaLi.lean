/-
  Contracts of functions, and plain laws, that lead to the statement. Written by an agent.
-/
import Derived.Test.YtdgjogeddogbdaaLh
set_option linter.unusedVariables false
set_option linter.unusedSimpArgs false
set_option maxRecDepth 100000
namespace Go.Ev.Ytdgjogeddogbdaa
open Go.Proofs
theorem pr_err {kind : Nat} {l : List P3} {r : P3} {t : List Int} {n : Int} (h : erC l r ≠ 0) : prB kind l r t n = false := by unfold prB; rw [beq_false_of_ne h]; simp
theorem pr_kind {kind : Nat} {l : List P3} {r : P3} {t : List Int} {n : Int} (h : ¬ kind < 4) : prB kind l r t n = false := by unfold prB; rw [decide_eq_false h]; simp
theorem pr_tru {kind : Nat} {l : List P3} {r : P3} {t : List Int} {n : Int} (h : truB l t = false) : prB kind l r t n = false := by unfold prB; rw [h]; simp
theorem pr_has {kind : Nat} {l : List P3} {r : P3} {t : List Int} {n : Int} (h : hasT kind l r t = false) : prB kind l r t n = false := by unfold prB; rw [h]; simp
theorem pr_num {kind : Nat} {l : List P3} {r : P3} {t : List Int} {n : Int} (h0 : erC l r = 0) (h1 : truB l t = true) (h2 : kind < 4) (h3 : hasT kind l r t = true) : prB kind l r t n = ((resQ kind l r t).1 == n) := by
  unfold prB; rw [h0, h1, h3, decide_eq_true h2]; simp
attribute [local irreducible] Pure Bor Iter inB ptB ruB okL goodB lineI ckC truB maxN fstN yvN mvN wkN metI tA pAt erC cF tv lsI resQ qs lstI knL bkN numQ bkF lowF highF mEm mEm1 yEm emK endsN endsF askE hasT spanI shT prB reE reD fewB trN cntN manyN szI
set_option maxHeartbeats 8000000 in
theorem showsS_pure (l : List P3) (r : P3) (k : Nat) (hk : k ≤ 255) (high : Bool) (t : List Int) (n : Int) : Pure Try.prog 9 [crD l, ruD r, dU k, dB high, isD t, dI n] (dB true) := by
  have c1 := few_pure l (by omega)
  have hm2 : ((List.map (fun n => [dI n]) t).length : Int) = (t.length : Int) := by rw [List.length_map]
  by_cases h1 : fewB l = true
  · have h1' : (!fewB l) = false := by rw [h1]; rfl
    by_cases h30 : t.length ≤ 30
    · have h30' : decide (((List.map (fun n => [dI n]) t).length : Int) > 30) = false := by rw [decide_eq_false_iff_not, hm2]; omega
      have hlen := few_len h1
      have hl : l.length ≤ 1000 := by omega
      have cc := curve_pure l hl
      have cr := rule_pure r
      have cl := list_pure t (by omega)
      have cs := shows_pure l hl r k hk high
      have cp := prove_pure l hl r t k hk n
      have cf := fault_pure l hl r
      have ct := rtruth_pure l hl t
      have bb : ∀ x : Int, (x == x) = true := fun x => by rw [beq_iff_eq]
      have bx : ∀ x : Bool, (x != x) = false := fun x => by cases x <;> rfl
      by_cases he : erC l r = 0
      · by_cases h3 : k < 4
        · have hv := erC_iff.1 he
          have hk3 : decide ((k : Int) > 3) = false := by rw [decide_eq_false_iff_not]; omega
          have hk4 : decide ((k : Int) ≤ 3) = true := by rw [decide_eq_true_eq]; omega
          obtain ⟨cT, cS⟩ := spans_call h1 he h3
          rw [he] at cf
          have hpr : (truB l t = false ∧ prB k l r t n = false) ∨ (truB l t = true ∧ hasT k l r t = false ∧ prB k l r t n = false) ∨ (truB l t = true ∧ hasT k l r t = true ∧ prB k l r t n = ((resQ k l r t).1 == n)) := by
            by_cases q1 : truB l t = true
            · by_cases q2 : hasT k l r t = true
              · exact .inr (.inr ⟨q1, q2, pr_num he q1 h3 q2⟩)
              · have q2 : hasT k l r t = false := by simpa using q2
                exact .inr (.inl ⟨q1, q2, pr_has q2⟩)
            · have q1 : truB l t = false := by simpa using q1
              exact .inl ⟨q1, pr_tru q1⟩
          have cR : truB l t = true → Pure Try.prog 22 [crD l, ruD r, isD t] (resD l r t) := fun q => rread_pure hv (TB.of hv q)
          have cH := rhas_pure h3 l r t
          have cN := rnumber_pure h3 l r t
          unfold resD resL7 at cR cH cN
          have bn := bx ((resQ k l r t).1 == n)
          by_cases hn : 0 < (emK k l r).length
          · have h0 : askE k l r = 0 := askE_zero.2 ⟨hv, h3, hn⟩
            have e : spanI k l r = (numQ k l r (endsF k l r).1, numQ k l r (endsF k l r).2) := by unfold spanI; rw [if_pos h0]
            have es : shT k l r high = if high = true then lsI l.length (endsF k l r).2 else lsI l.length (endsF k l r).1 := by unfold shT; rw [if_pos h0]
            obtain ⟨g1, g2, _⟩ := span_law hv h3 hn
            rw [h0, es] at cs
            rw [decide_eq_true hn, e] at cS
            generalize endsF k l r = F at *
            have d1 := rtruth_pure l hl (lsI l.length F.1)
            have d2 := rtruth_pure l hl (lsI l.length F.2)
            rw [bx_tru g1.1] at d1
            rw [bx_tru g2.1] at d2
            have r1 := rread_pure hv (TB.of hv (bx_tru g1.1))
            have r2 := rread_pure hv (TB.of hv (bx_tru g2.1))
            have a1 := rhas_pure h3 l r (lsI l.length F.1)
            have a2 := rhas_pure h3 l r (lsI l.length F.2)
            have b1 := rnumber_pure h3 l r (lsI l.length F.1)
            have b2 := rnumber_pure h3 l r (lsI l.length F.2)
            rw [g1.2] at a1
            rw [g2.2] at a2
            rw [← numQ_eq] at b1 b2
            unfold resD resL7 at r1 r2 a1 a2 b1 b2
            have f1 := bb (numQ k l r F.1)
            have f2 := bb (numQ k l r F.2)
            generalize numQ k l r F.1 = m1 at *
            generalize numQ k l r F.2 = m2 at *
            generalize lsI l.length F.1 = u1 at *
            generalize lsI l.length F.2 = u2 at *
            rcases hpr with ⟨p1, p2⟩ | ⟨p1, p2, p3⟩ | ⟨p1, p2, p3⟩ <;> cases high
            all_goals (try rw [p2] at cp)
            all_goals (try rw [p3] at cp)
            all_goals (try rw [p2] at cH)
            all_goals (rw [p1] at ct)
            all_goals (try have cR := cR p1)
            all_goals (first | rw [if_pos rfl] at cs | rw [if_neg (by decide)] at cs)
            all_goals (refine pure_of pg Try.func9 (by kernel_rfl) ?_)
            all_goals (conv => whnf)
            all_goals (refine .inl ⟨_, c1, ?_⟩; conv => whnf)
            all_goals (repeat' (first | (apply kT (by with_reducible first | rfl | assumption); conv => whnf) | (apply kF (by with_reducible first | rfl | assumption); conv => whnf) | (apply kT (by decide); conv => whnf) | (apply kF (by decide); conv => whnf) | (apply kB <;> intro _ <;> conv => whnf) | (refine .inl ⟨_, cc, ?_⟩; conv => whnf) | (refine .inl ⟨_, cr, ?_⟩; conv => whnf) | (refine .inl ⟨_, cl, ?_⟩; conv => whnf) | (refine .inl ⟨_, cs, ?_⟩; conv => whnf) | (refine .inl ⟨_, cp, ?_⟩; conv => whnf) | (refine .inl ⟨_, cf, ?_⟩; conv => whnf) | (refine .inl ⟨_, ct, ?_⟩; conv => whnf) | (refine .inl ⟨_, cR, ?_⟩; conv => whnf) | (refine .inl ⟨_, cH, ?_⟩; conv => whnf) | (refine .inl ⟨_, cN, ?_⟩; conv => whnf) | (refine .inl ⟨_, cT, ?_⟩; conv => whnf) | (refine .inl ⟨_, cS, ?_⟩; conv => whnf) | (refine .inl ⟨_, d1, ?_⟩; conv => whnf) | (refine .inl ⟨_, d2, ?_⟩; conv => whnf) | (refine .inl ⟨_, r1, ?_⟩; conv => whnf) | (refine .inl ⟨_, r2, ?_⟩; conv => whnf) | (refine .inl ⟨_, a1, ?_⟩; conv => whnf) | (refine .inl ⟨_, a2, ?_⟩; conv => whnf) | (refine .inl ⟨_, b1, ?_⟩; conv => whnf) | (refine .inl ⟨_, b2, ?_⟩; conv => whnf) | (refine .inl ⟨_, awake_pure, ?_⟩; conv => whnf) | fail))
            all_goals first | rfl | (exfalso; rename_i hx; first | (rw [h1'] at hx; exact Bool.noConfusion hx) | (rw [bn] at hx; exact Bool.noConfusion hx) | exact Bool.noConfusion hx)
          · have h0 : askE k l r = 7 := by unfold askE; rw [if_pos he, if_neg (by omega), if_pos (by omega)]
            have e : spanI k l r = (0, 0) := by unfold spanI; rw [if_neg (by omega)]
            have es : shT k l r high = [] := by unfold shT; rw [if_neg (by omega)]
            rw [h0, es] at cs
            rw [decide_eq_false hn, e] at cS
            rcases hpr with ⟨p1, p2⟩ | ⟨p1, p2, p3⟩ | ⟨p1, p2, p3⟩
            all_goals (try rw [p2] at cp)
            all_goals (try rw [p3] at cp)
            all_goals (try rw [p2] at cH)
            all_goals (rw [p1] at ct)
            all_goals (try have cR := cR p1)
            all_goals (refine pure_of pg Try.func9 (by kernel_rfl) ?_)
            all_goals (conv => whnf)
            all_goals (refine .inl ⟨_, c1, ?_⟩; conv => whnf)
            all_goals (repeat' (first | (apply kT (by with_reducible first | rfl | assumption); conv => whnf) | (apply kF (by with_reducible first | rfl | assumption); conv => whnf) | (apply kT (by decide); conv => whnf) | (apply kF (by decide); conv => whnf) | (apply kB <;> intro _ <;> conv => whnf) | (refine .inl ⟨_, cc, ?_⟩; conv => whnf) | (refine .inl ⟨_, cr, ?_⟩; conv => whnf) | (refine .inl ⟨_, cl, ?_⟩; conv => whnf) | (refine .inl ⟨_, cs, ?_⟩; conv => whnf) | (refine .inl ⟨_, cp, ?_⟩; conv => whnf) | (refine .inl ⟨_, cf, ?_⟩; conv => whnf) | (refine .inl ⟨_, ct, ?_⟩; conv => whnf) | (refine .inl ⟨_, cR, ?_⟩; conv => whnf) | (refine .inl ⟨_, cH, ?_⟩; conv => whnf) | (refine .inl ⟨_, cN, ?_⟩; conv => whnf) | (refine .inl ⟨_, cT, ?_⟩; conv => whnf) | (refine .inl ⟨_, cS, ?_⟩; conv => whnf) | (refine .inl ⟨_, awake_pure, ?_⟩; conv => whnf) | fail))
            all_goals first | rfl | (exfalso; rename_i hx; first | (rw [h1'] at hx; exact Bool.noConfusion hx) | (rw [bn] at hx; exact Bool.noConfusion hx) | exact Bool.noConfusion hx)
        · have hk3 : decide ((k : Int) > 3) = true := by rw [decide_eq_true_eq]; omega
          have hk4 : decide ((k : Int) ≤ 3) = false := by rw [decide_eq_false_iff_not]; omega
          have h0 : askE k l r = 2 := by unfold askE; rw [if_pos he, if_pos (by omega)]
          have es : shT k l r high = [] := by unfold shT; rw [if_neg (by omega)]
          rw [h0, es] at cs
          rw [pr_kind h3] at cp
          rw [he] at cf
          refine pure_of pg Try.func9 (by kernel_rfl) ?_
          conv => whnf
          (refine .inl ⟨_, c1, ?_⟩; conv => whnf)
          (repeat' (first | (apply kT (by with_reducible first | rfl | assumption); conv => whnf) | (apply kF (by with_reducible first | rfl | assumption); conv => whnf) | (apply kT (by decide); conv => whnf) | (apply kF (by decide); conv => whnf) | (apply kB <;> intro _ <;> conv => whnf) | (refine .inl ⟨_, cc, ?_⟩; conv => whnf) | (refine .inl ⟨_, cr, ?_⟩; conv => whnf) | (refine .inl ⟨_, cl, ?_⟩; conv => whnf) | (refine .inl ⟨_, cs, ?_⟩; conv => whnf) | (refine .inl ⟨_, cp, ?_⟩; conv => whnf) | (refine .inl ⟨_, cf, ?_⟩; conv => whnf) | (refine .inl ⟨_, awake_pure, ?_⟩; conv => whnf) | fail))
          all_goals first | rfl | (exfalso; rename_i hx; first | (rw [h1'] at hx; exact Bool.noConfusion hx) | exact Bool.noConfusion hx)
      · have h0 : askE k l r = erC l r := by unfold askE; rw [if_neg he]
        have es : shT k l r high = [] := by unfold shT; rw [if_neg (by omega)]
        rw [h0, es] at cs
        rw [pr_err he] at cp
        have g1 : (erC l r == 0) = false := by rw [beq_eq_false_iff_ne]; exact he
        have g2 : (erC l r != 0) = true := by rw [bne_iff_ne]; exact he
        have g3 := bb (erC l r)
        refine pure_of pg Try.func9 (by kernel_rfl) ?_
        conv => whnf
        (refine .inl ⟨_, c1, ?_⟩; conv => whnf)
        (repeat' (first | (apply kT (by with_reducible first | rfl | assumption); conv => whnf) | (apply kF (by with_reducible first | rfl | assumption); conv => whnf) | (apply kT (by decide); conv => whnf) | (apply kF (by decide); conv => whnf) | (apply kB <;> intro _ <;> conv => whnf) | (refine .inl ⟨_, cc, ?_⟩; conv => whnf) | (refine .inl ⟨_, cr, ?_⟩; conv => whnf) | (refine .inl ⟨_, cl, ?_⟩; conv => whnf) | (refine .inl ⟨_, cs, ?_⟩; conv => whnf) | (refine .inl ⟨_, cp, ?_⟩; conv => whnf) | (refine .inl ⟨_, cf, ?_⟩; conv => whnf) | (refine .inl ⟨_, awake_pure, ?_⟩; conv => whnf) | fail))
        all_goals first | rfl | (exfalso; rename_i hx; first | (rw [h1'] at hx; exact Bool.noConfusion hx) | exact Bool.noConfusion hx)
    · have h30' : decide (((List.map (fun n => [dI n]) t).length : Int) > 30) = true := by rw [decide_eq_true_eq, hm2]; omega
      refine pure_of pg Try.func9 (by kernel_rfl) ?_
      conv => whnf
      (refine .inl ⟨_, c1, ?_⟩; conv => whnf)
      (repeat' (first | (apply kT (by with_reducible first | rfl | assumption); conv => whnf) | (apply kF (by with_reducible first | rfl | assumption); conv => whnf) | (apply kT (by decide); conv => whnf) | (apply kF (by decide); conv => whnf) | (apply kB <;> intro _ <;> conv => whnf) | (refine .inl ⟨_, awake_pure, ?_⟩; conv => whnf) | fail))
      all_goals first | rfl | (exfalso; rename_i hx; first | (rw [h1'] at hx; exact Bool.noConfusion hx) | exact Bool.noConfusion hx)
  · have h1' : (!fewB l) = true := by simpa using h1
    refine pure_of pg Try.func9 (by kernel_rfl) ?_
    conv => whnf
    (refine .inl ⟨_, c1, ?_⟩; conv => whnf)
    (repeat' (first | (apply kT (by with_reducible first | rfl | assumption); conv => whnf) | (apply kF (by with_reducible first | rfl | assumption); conv => whnf) | (apply kT (by decide); conv => whnf) | (apply kF (by decide); conv => whnf) | (apply kB <;> intro _ <;> conv => whnf) | (refine .inl ⟨_, awake_pure, ?_⟩; conv => whnf) | fail))
    all_goals first | rfl | (exfalso; rename_i hx; first | (rw [h1'] at hx; exact Bool.noConfusion hx) | exact Bool.noConfusion hx)
end Go.Ev.Ytdgjogeddogbdaa
