/-
  Contracts of functions, and plain laws, that lead to the statement. Written by an agent.
-/
import Derived.Test.YtojlbcodfebmgaaLg
set_option linter.unusedVariables false
set_option linter.unusedSimpArgs false
set_option maxRecDepth 100000
namespace Go.Ev.Ytojlbcodfebmgaa
open Go.Proofs
attribute [local irreducible] Pure Bor Iter inB wtB partsL stepC useB usesB fitsB runC weighL uIdx betB cutsF bestP seeS memF cutsL partsW useF memN doN covB traceL thinB
theorem bneF (n : Int) : (n != n) = false := by simp
theorem thinC_pure (p : Pl) (cs : List Ct) : Pure Try.prog 16 [plD p, .agg [ctsD cs, .v (.slice none 0 0)]] (dB (thinB p ⟨cs, []⟩)) := by
  have e : thinB p ⟨cs, []⟩ = (decide (((p.ws.map wtD).length : Int) ≤ 6) && decide (((cs.map ctD).length : Int) ≤ 45)) := by
    rw [Bool.eq_iff_iff, thinB_iff]
    simp only [Bool.and_eq_true, decide_eq_true_eq, List.length_map, List.length_nil]
    omega
  rw [e]
  refine pure_of pg Try.func16 (by kernel_rfl) ?_
  conv => whnf
  (repeat' (first | (apply kT (by with_reducible first | rfl | assumption); conv => whnf) | (apply kF (by with_reducible first | rfl | assumption); conv => whnf) | (apply kT (by decide); conv => whnf) | (apply kF (by decide); conv => whnf) | (apply kB <;> intro _ <;> conv => whnf) | fail))
  all_goals (simp only [*, Bool.true_and, Bool.false_and, Bool.and_true, Bool.and_false]; rfl)
set_option maxHeartbeats 4000000 in
theorem plateCuts_pure (p : Pl) (cs : List Ct) (hi : ∀ c ∈ cs, InI c.n ∧ InI c.at_) : Pure Try.prog 12 [plD p, ctsD cs] (dB true) := by
  have ct := thinC_pure p cs
  have hm : ((cs.map ctD).length : Int) = cs.length := by rw [List.length_map]
  cases hth : thinB p ⟨cs, []⟩ with
  | false =>
    rw [hth] at ct
    refine pure_of pg Try.func12 (by kernel_rfl) ?_
    conv => whnf
    (repeat' (first | (apply kT (by with_reducible first | rfl | assumption); conv => whnf) | (apply kF (by with_reducible first | rfl | assumption); conv => whnf) | (apply kT (by decide); conv => whnf) | (apply kF (by decide); conv => whnf) | (apply kB <;> intro _ <;> conv => whnf) | (refine .inl ⟨_, ct, ?_⟩; conv => whnf) | (refine .inl ⟨_, wakes_pure, ?_⟩; conv => whnf) | fail))
    rfl
  | true =>
    rw [hth] at ct
    obtain ⟨h1, h2, _⟩ := thinB_iff.1 hth
    dsimp only at h2
    have c1 := plateC_pure p (by omega)
    have c2 := cutsC_pure cs (by omega)
    have c3 := check_pure p (by omega)
    have c4 := pieces_pure (p := p) (by omega) hi
    have c5 := fault_pure p (by omega)
    have f0 : (checkI p != checkI p) = false := bneF _
    by_cases hp : checkI p = 0
    case neg =>
      have e : piecesI p cs = ([], checkI p) := by unfold piecesI; rw [if_pos hp]
      have f1 : (checkI p == 0) = false := eqF hp
      have f2 : (checkI p != 0) = true := by simpa using hp
      have f3 : (checkI p == checkI p) = true := by simp
      rw [e] at c4
      dsimp only at c4
      refine pure_of pg Try.func12 (by kernel_rfl) ?_
      conv => whnf
      (repeat' (first | (apply kT (by with_reducible first | rfl | assumption); conv => whnf) | (apply kF (by with_reducible first | rfl | assumption); conv => whnf) | (apply kT (by decide); conv => whnf) | (apply kF (by decide); conv => whnf) | (apply kB <;> intro _ <;> conv => whnf) | (refine .inl ⟨_, ct, ?_⟩; conv => whnf) | (refine .inl ⟨_, c1, ?_⟩; conv => whnf) | (refine .inl ⟨_, c2, ?_⟩; conv => whnf) | (refine .inl ⟨_, c3, ?_⟩; conv => whnf) | (refine .inl ⟨_, c4, ?_⟩; conv => whnf) | (refine .inl ⟨_, c5, ?_⟩; conv => whnf) | (refine .inl ⟨_, wakes_pure, ?_⟩; conv => whnf) | fail))
      rfl
    by_cases hl : 40 < cs.length
    · have e : piecesI p cs = ([], 3) := by unfold piecesI; rw [if_neg (by omega), if_pos hl]
      have f1 : decide (((cs.map ctD).length : Int) > 40) = true := decide_eq_true (by rw [hm]; omega)
      rw [hp] at c3 c5
      rw [e] at c4
      dsimp only at c4
      refine pure_of pg Try.func12 (by kernel_rfl) ?_
      conv => whnf
      (repeat' (first | (apply kT (by with_reducible first | rfl | assumption); conv => whnf) | (apply kF (by with_reducible first | rfl | assumption); conv => whnf) | (apply kT (by decide); conv => whnf) | (apply kF (by decide); conv => whnf) | (apply kB <;> intro _ <;> conv => whnf) | (refine .inl ⟨_, ct, ?_⟩; conv => whnf) | (refine .inl ⟨_, c1, ?_⟩; conv => whnf) | (refine .inl ⟨_, c2, ?_⟩; conv => whnf) | (refine .inl ⟨_, c3, ?_⟩; conv => whnf) | (refine .inl ⟨_, c4, ?_⟩; conv => whnf) | (refine .inl ⟨_, c5, ?_⟩; conv => whnf) | (refine .inl ⟨_, wakes_pure, ?_⟩; conv => whnf) | fail))
      rfl
    have f1 : decide (((cs.map ctD).length : Int) > 40) = false := decide_eq_false (by rw [hm]; omega)
    have c6 := piecesR_pure hp (cs := cs) h2 rfl
    rw [hp] at c3 c5
    cases hr : runC p.s cs (st0 p) with
    | none =>
      have e : piecesI p cs = ([], 11) := by unfold piecesI; rw [if_neg (by omega), if_neg hl, hr]
      rw [hr] at c6
      rw [e] at c4
      dsimp only at c4
      refine pure_of pg Try.func12 (by kernel_rfl) ?_
      conv => whnf
      (repeat' (first | (apply kT (by with_reducible first | rfl | assumption); conv => whnf) | (apply kF (by with_reducible first | rfl | assumption); conv => whnf) | (apply kT (by decide); conv => whnf) | (apply kF (by decide); conv => whnf) | (apply kB <;> intro _ <;> conv => whnf) | (refine .inl ⟨_, ct, ?_⟩; conv => whnf) | (refine .inl ⟨_, c1, ?_⟩; conv => whnf) | (refine .inl ⟨_, c2, ?_⟩; conv => whnf) | (refine .inl ⟨_, c3, ?_⟩; conv => whnf) | (refine .inl ⟨_, c4, ?_⟩; conv => whnf) | (refine .inl ⟨_, c5, ?_⟩; conv => whnf) | (refine .inl ⟨_, c6, ?_⟩; conv => whnf) | (refine .inl ⟨_, wakes_pure, ?_⟩; conv => whnf) | fail))
      rfl
    | some st =>
      have e : piecesI p cs = (st.1, 0) := by unfold piecesI; rw [if_neg (by omega), if_neg hl, hr]
      rw [hr] at c6
      rw [e] at c4
      dsimp only at c4
      have hok := (runC_ok hp (st0_ok hp) hr).2
      simp only [st0, List.length_singleton] at hok
      have hpl : ((st.1.map pcD).length : Int) = st.1.length := by rw [List.length_map]
      have f2 : (((st.1.map pcD).length : Int) != ((st.1.map pcD).length : Int)) = false := bneF _
      refine pure_of pg Try.func12 (by kernel_rfl) ?_
      conv => whnf
      (repeat' (first | (apply kT (by with_reducible first | rfl | assumption); conv => whnf) | (apply kF (by with_reducible first | rfl | assumption); conv => whnf) | (apply kT (by decide); conv => whnf) | (apply kF (by decide); conv => whnf) | (apply kB <;> intro _ <;> conv => whnf) | (refine .inl ⟨_, ct, ?_⟩; conv => whnf) | (refine .inl ⟨_, c1, ?_⟩; conv => whnf) | (refine .inl ⟨_, c2, ?_⟩; conv => whnf) | (refine .inl ⟨_, c3, ?_⟩; conv => whnf) | (refine .inl ⟨_, c4, ?_⟩; conv => whnf) | (refine .inl ⟨_, c5, ?_⟩; conv => whnf) | (refine .inl ⟨_, c6, ?_⟩; conv => whnf) | fail))
      refine ⟨[], [4, 6, 9, 11], [], 0, fun m s => ∃ k : Nat, k + m = st.1.length ∧ s = ⟨[(4, .d (dB false)), (6, .d (pcsD st.1)), (9, .d (pcsD st.1)), (11, .d (dI k))], [], 0⟩, ?_, ?_⟩
      · conv => whnf
        exact ⟨st.1.length, 0, by omega, rfl⟩
      · rintro m _ ⟨k, hk, rfl⟩
        by_cases hlt : k < st.1.length
        · have f3 : decide ((k : Int) < ((st.1.map pcD).length : Int)) = true := decide_eq_true (by rw [hpl]; omega)
          have g1 := bneF (st.1[k]).x
          have g2 := bneF (st.1[k]).y
          have g3 := bneF (st.1[k]).w
          have g4 := bneF (st.1[k]).l
          have hg := getpc st.1 k hlt
          conv => whnf
          (repeat' (first | (apply kT (by with_reducible first | rfl | assumption); conv => whnf) | (apply kF (by with_reducible first | rfl | assumption); conv => whnf) | (apply kT (by decide); conv => whnf) | (apply kF (by decide); conv => whnf) | (apply kB <;> intro _ <;> conv => whnf) | fail))
          (refine ⟨k, _, rfl, hg, rfl, ?_⟩; conv => whnf)
          (refine ⟨k, _, rfl, hg, rfl, ?_⟩; conv => whnf)
          (repeat' (first | (apply kT (by with_reducible first | rfl | assumption); conv => whnf) | (apply kF (by with_reducible first | rfl | assumption); conv => whnf) | (apply kT (by decide); conv => whnf) | (apply kF (by decide); conv => whnf) | (apply kB <;> intro _ <;> conv => whnf) | fail))
          (refine ⟨k, _, rfl, hg, rfl, ?_⟩; conv => whnf)
          (repeat' (first | (apply kT (by with_reducible first | rfl | assumption); conv => whnf) | (apply kF (by with_reducible first | rfl | assumption); conv => whnf) | (apply kT (by decide); conv => whnf) | (apply kF (by decide); conv => whnf) | (apply kB <;> intro _ <;> conv => whnf) | fail))
          (refine ⟨k, _, rfl, hg, rfl, ?_⟩; conv => whnf)
          (repeat' (first | (apply kT (by with_reducible first | rfl | assumption); conv => whnf) | (apply kF (by with_reducible first | rfl | assumption); conv => whnf) | (apply kT (by decide); conv => whnf) | (apply kF (by decide); conv => whnf) | (apply kB <;> intro _ <;> conv => whnf) | fail))
          (refine ⟨k, _, rfl, hg, rfl, ?_⟩; conv => whnf)
          (repeat' (first | (apply kT (by with_reducible first | rfl | assumption); conv => whnf) | (apply kF (by with_reducible first | rfl | assumption); conv => whnf) | (apply kT (by decide); conv => whnf) | (apply kF (by decide); conv => whnf) | (apply kB <;> intro _ <;> conv => whnf) | fail))
          (refine ⟨k, _, rfl, hg, rfl, ?_⟩; conv => whnf)
          (repeat' (first | (apply kT (by with_reducible first | rfl | assumption); conv => whnf) | (apply kF (by with_reducible first | rfl | assumption); conv => whnf) | (apply kT (by decide); conv => whnf) | (apply kF (by decide); conv => whnf) | (apply kB <;> intro _ <;> conv => whnf) | fail))
          (refine ⟨k, _, rfl, hg, rfl, ?_⟩; conv => whnf)
          (repeat' (first | (apply kT (by with_reducible first | rfl | assumption); conv => whnf) | (apply kF (by with_reducible first | rfl | assumption); conv => whnf) | (apply kT (by decide); conv => whnf) | (apply kF (by decide); conv => whnf) | (apply kB <;> intro _ <;> conv => whnf) | fail))
          (refine ⟨k, _, rfl, hg, rfl, ?_⟩; conv => whnf)
          (repeat' (first | (apply kT (by with_reducible first | rfl | assumption); conv => whnf) | (apply kF (by with_reducible first | rfl | assumption); conv => whnf) | (apply kT (by decide); conv => whnf) | (apply kF (by decide); conv => whnf) | (apply kB <;> intro _ <;> conv => whnf) | fail))
          refine ⟨m - 1, by omega, k + 1, by omega, ?_⟩
          rw [w1 k (by omega)]
        · have f3 : decide ((k : Int) < ((st.1.map pcD).length : Int)) = false := decide_eq_false (by rw [hpl]; omega)
          conv => whnf
          (repeat' (first | (apply kT (by with_reducible first | rfl | assumption); conv => whnf) | (apply kF (by with_reducible first | rfl | assumption); conv => whnf) | (apply kT (by decide); conv => whnf) | (apply kF (by decide); conv => whnf) | (apply kB <;> intro _ <;> conv => whnf) | (refine .inl ⟨_, wakes_pure, ?_⟩; conv => whnf) | fail))
          rfl
end Go.Ev.Ytojlbcodfebmgaa
