/-
  Contracts of functions, and plain laws, that lead to the statement. Written by an agent.
-/
import Derived.Test.YthmandhpmkfopaaLg
set_option linter.unusedVariables false
set_option linter.unusedSimpArgs false
set_option maxRecDepth 100000
namespace Go.Ev.Ythmandhpmkfopaa
open Go.Proofs
abbrev twL : List S3 := [(2, 0, 2), (2, 1, 2)]
theorem tw_ins : ∀ x ∈ twL, InS x := by intro x hx; simp at hx; rcases hx with rfl | rfl <;> simp [InS, InR]
theorem nm1 : sh (·.1) 6 twL 0 = (1, 1, 0) := by kernel_rfl
theorem nm2 : sh (·.1) 6 twL 1 = (1, 1, 0) := by kernel_rfl
theorem nm3 : sh (·.2.1) 6 twL 0 = (2, 1, 0) := by kernel_rfl
theorem nm4 : playI 6 twL [] = (3, 2, 0) := by kernel_rfl
theorem nm5 : playI 6 twL [false, true] = (3, 2, 0) := by kernel_rfl
theorem nm6 : playI 6 twL [true, true] = (2, 0, 0) := by kernel_rfl
theorem nm7 : doubleI 3 (0, 1, 0, 0) = (3, [(1, -1, 1), (2, 0, 1)], 0) := by kernel_rfl
theorem nm8 : check 6 twL = 0 := by kernel_rfl
theorem nm9 : keptL 6 twL (1, 2, 0, 667) = true := by kernel_rfl
theorem nm10 : keptL 6 twL (1, 2, 0, 666) = false := by kernel_rfl
theorem nm11 : sh (·.1) 6 twL 7 = (0, 0, 2) := by kernel_rfl
theorem nm12 : playI 6 twL [true, true, true] = (0, 0, 2) := by kernel_rfl
theorem nm13 : singleI 31 (0, 1, 0, 0) = (0, [], 2) := by kernel_rfl
theorem nm14 : doubleI 11 (0, 1, 0, 0) = (0, [], 2) := by kernel_rfl
theorem nm15 : doubleI 1 (0, 1, 0, 0) = (0, [], 9) := by kernel_rfl
theorem nm16 : check 6 [(2, 0, 2), (2, 1, 3)] = 1 := by kernel_rfl
theorem nm17 : check 6 [(2, 0, 2), (2, -1, 2)] = 1 := by kernel_rfl
theorem nm18 : check 5 [] = 1 := by kernel_rfl
theorem nm19 : check 5 [(0, 0, 0), (0, 0, 0), (0, 0, 0), (0, 0, 0)] = 3 := by kernel_rfl
theorem nm20 : validB (2, 2, 0, 0) = false := by kernel_rfl
theorem nm21 : validB (2, 7, 0, 0) = true := by kernel_rfl
attribute [local irreducible] Pure Bor Iter tri C memo goN check keptS keptL singleN sh playI doubleI singleI validB
theorem twice_own : Bor tb Try.prog 34 [] [] 2 (.agg [.d (dI 6), .own 1]) [(1, .arr 61 [[dI 2, dI 0, dI 2], [dI 2, dI 1, dI 2]])] := by
  refine bor_ofO pg Try.func34 (by kernel_rfl) ?_
  conv => whnf
  refine ⟨[1], ?_⟩
  conv => whnf
  exact ⟨rfl, rfl⟩
theorem keeps_arg : Pure Try.prog 31 [plD 6 twL, deD (2, 2, 0, 0)] (.tup [dB false, dI 1]) := by
  have h1 := check_pure 6 twL (by decide)
  have h2 := valid_pure (2, 2, 0, 0)
  rw [nm8] at h1
  rw [nm20] at h2
  refine pure_of pg Try.func31 (by kernel_rfl) ?_
  conv => whnf
  (repeat' (first | (apply kT (by with_reducible first | rfl | assumption); conv => whnf) | (apply kF (by with_reducible first | rfl | assumption); conv => whnf) | (apply kT (by decide); conv => whnf) | (apply kF (by decide); conv => whnf) | (apply kB <;> intro _ <;> conv => whnf) | (refine .inl ⟨_, h1, ?_⟩; conv => whnf) | (refine .inl ⟨_, h2, ?_⟩; conv => whnf) | fail))
  rfl
theorem keeps_range : Pure Try.prog 31 [plD 6 twL, deD (2, 7, 0, 0)] (.tup [dB false, dI 2]) := by
  have h1 := check_pure 6 twL (by decide)
  have h2 := valid_pure (2, 7, 0, 0)
  rw [nm8] at h1
  rw [nm21] at h2
  refine pure_of pg Try.func31 (by kernel_rfl) ?_
  conv => whnf
  (repeat' (first | (apply kT (by with_reducible first | rfl | assumption); conv => whnf) | (apply kF (by with_reducible first | rfl | assumption); conv => whnf) | (apply kT (by decide); conv => whnf) | (apply kF (by decide); conv => whnf) | (apply kB <;> intro _ <;> conv => whnf) | (refine .inl ⟨_, h1, ?_⟩; conv => whnf) | (refine .inl ⟨_, h2, ?_⟩; conv => whnf) | fail))
  rfl
theorem pure_nil {f : FuncId} {d d' : D} {r : D} (hd : nilD d = d') (h : Pure Try.prog f [d'] r) : Pure Try.prog f [d] r := by
  unfold Pure at h ⊢
  refine ⟨h.1, fun w I vs hI rep => h.2 w I vs hI ?_⟩
  obtain ⟨v, q, rfl, r1, r2⟩ := rep.uncons
  exact RepL.cons (hd ▸ RepD.nil d v r1) r2
set_option maxHeartbeats 4000000 in
theorem names_pure : Pure Try.prog 12 [] (dB true) := by
  have c1 := chance_pure 6 twL (by decide) tw_ins 0
  have c2 := chance_pure 6 twL (by decide) tw_ins 1
  have c3 := mean_pure 6 twL (by decide) tw_ins 0
  have c4 := play_pure 6 twL (by decide) tw_ins [] (by decide)
  have c5 := play_pure 6 twL (by decide) tw_ins [false, true] (by decide)
  have c6 := play_pure 6 twL (by decide) tw_ins [true, true] (by decide)
  have c7 := double_pure 3 (0, 1, 0, 0) (by unfold Dem; decide)
  have c9 := keeps_pure (n := 6) (l := twL) (by decide) tw_ins nm8 (d := (1, 2, 0, 667)) (by unfold Dem; decide) (by decide)
  have c10 := keeps_pure (n := 6) (l := twL) (by decide) tw_ins nm8 (d := (1, 2, 0, 666)) (by unfold Dem; decide) (by decide)
  have c11 := chance_pure 6 twL (by decide) tw_ins 7
  have c12 := play_pure 6 twL (by decide) tw_ins [true, true, true] (by decide)
  have c13 := single_pure 31 (0, 1, 0, 0) (by unfold Dem; decide)
  have c14 := double_pure 11 (0, 1, 0, 0) (by unfold Dem; decide)
  have c15 := double_pure 1 (0, 1, 0, 0) (by unfold Dem; decide)
  have c16 := check_pure 6 [(2, 0, 2), (2, 1, 3)] (by decide)
  have c17 := check_pure 6 [(2, 0, 2), (2, -1, 2)] (by decide)
  have c18 := check_pure 5 [] (by decide)
  have c19 := check_pure 5 [(0, 0, 0), (0, 0, 0), (0, 0, 0), (0, 0, 0)] (by decide)
  rw [nm1] at c1
  rw [nm2] at c2
  rw [nm3] at c3
  rw [nm4] at c4
  rw [nm5] at c5
  rw [nm6] at c6
  rw [nm7] at c7
  rw [nm9] at c9
  rw [nm10] at c10
  rw [nm11] at c11
  rw [nm12] at c12
  rw [nm13] at c13
  rw [nm14] at c14
  rw [nm15] at c15
  rw [nm16] at c16
  rw [nm17] at c17
  rw [nm18] at c18
  rw [nm19] at c19
  have c18' : Pure Try.prog 16 [.agg [dI 5, .v (.slice none 0 0)]] (dI 1) := pure_nil rfl c18
  refine pure_of pg Try.func12 (by kernel_rfl) ?_
  conv => whnf
  (refine .inl ⟨_, twice_pure, ?_⟩; conv => whnf)
  (refine .inl ⟨_, c1, ?_⟩; conv => whnf)
  (refine .inl ⟨_, twice_pure, ?_⟩; conv => whnf)
  (refine .inl ⟨_, c2, ?_⟩; conv => whnf)
  (refine .inl ⟨_, twice_pure, ?_⟩; conv => whnf)
  (refine .inl ⟨_, c3, ?_⟩; conv => whnf)
  (refine .inl ⟨_, twice_pure, ?_⟩; conv => whnf)
  (refine .inl ⟨_, c4, ?_⟩; conv => whnf)
  (refine .inl ⟨_, twice_pure, ?_⟩; conv => whnf)
  (refine .inl ⟨_, c5, ?_⟩; conv => whnf)
  (refine .inl ⟨_, twice_pure, ?_⟩; conv => whnf)
  (refine .inl ⟨_, c6, ?_⟩; conv => whnf)
  (refine .inl ⟨_, c7, ?_⟩; conv => whnf)
  (repeat' (first | (apply kT (by with_reducible first | rfl | assumption); conv => whnf) | (apply kF (by with_reducible first | rfl | assumption); conv => whnf) | (apply kT (by decide); conv => whnf) | (apply kF (by decide); conv => whnf) | (apply kB <;> intro _ <;> conv => whnf) | (refine ⟨0, _, rfl, rfl, rfl, ?_⟩; conv => whnf) | (refine ⟨1, _, rfl, rfl, rfl, ?_⟩; conv => whnf) | fail))
  (refine .inl ⟨_, twice_pure, ?_⟩; conv => whnf)
  (refine .inl ⟨_, c9, ?_⟩; conv => whnf)
  (refine .inl ⟨_, twice_pure, ?_⟩; conv => whnf)
  (refine .inl ⟨_, c10, ?_⟩; conv => whnf)
  (repeat' (first | (apply kT (by with_reducible first | rfl | assumption); conv => whnf) | (apply kF (by with_reducible first | rfl | assumption); conv => whnf) | (apply kT (by decide); conv => whnf) | (apply kF (by decide); conv => whnf) | (apply kB <;> intro _ <;> conv => whnf) | fail))
  (refine .inl ⟨_, twice_pure, ?_⟩; conv => whnf)
  (refine .inl ⟨_, c11, ?_⟩; conv => whnf)
  (refine .inl ⟨_, twice_pure, ?_⟩; conv => whnf)
  (refine .inl ⟨_, c12, ?_⟩; conv => whnf)
  (refine .inl ⟨_, twice_pure, ?_⟩; conv => whnf)
  (refine .inl ⟨_, keeps_arg, ?_⟩; conv => whnf)
  (refine .inl ⟨_, twice_pure, ?_⟩; conv => whnf)
  (refine .inl ⟨_, keeps_range, ?_⟩; conv => whnf)
  (refine .inl ⟨_, c13, ?_⟩; conv => whnf)
  (refine .inl ⟨_, c14, ?_⟩; conv => whnf)
  (refine .inl ⟨_, c15, ?_⟩; conv => whnf)
  (refine .inr ⟨[], 2, _, _, twice_own, ?_⟩; conv => whnf)
  (refine .inr ⟨[], 2, _, _, twice_own, ?_⟩; conv => whnf)
  (refine ⟨1, rfl, by decide, ?_⟩; conv => whnf)
  (refine ⟨_, rfl, rfl, by decide, [[dI 2, dI 0, dI 2], [dI 2, dI 1, dI 3]], rfl, ?_⟩; conv => whnf)
  (refine ⟨1, rfl, by decide, ?_⟩; conv => whnf)
  (refine ⟨_, rfl, rfl, by decide, [[dI 2, dI 0, dI 2], [dI 2, dI (-1), dI 2]], rfl, ?_⟩; conv => whnf)
  (repeat' (first | (apply kT (by with_reducible first | rfl | assumption); conv => whnf) | (apply kF (by with_reducible first | rfl | assumption); conv => whnf) | (apply kT (by decide); conv => whnf) | (apply kF (by decide); conv => whnf) | (apply kB <;> intro _ <;> conv => whnf) | fail))
  (refine .inl ⟨_, c16, ?_⟩; conv => whnf)
  (repeat' (first | (apply kT (by with_reducible first | rfl | assumption); conv => whnf) | (apply kF (by with_reducible first | rfl | assumption); conv => whnf) | (apply kT (by decide); conv => whnf) | (apply kF (by decide); conv => whnf) | (apply kB <;> intro _ <;> conv => whnf) | fail))
  (refine .inl ⟨_, c17, ?_⟩; conv => whnf)
  (repeat' (first | (apply kT (by with_reducible first | rfl | assumption); conv => whnf) | (apply kF (by with_reducible first | rfl | assumption); conv => whnf) | (apply kT (by decide); conv => whnf) | (apply kF (by decide); conv => whnf) | (apply kB <;> intro _ <;> conv => whnf) | fail))
  (refine .inl ⟨_, c18', ?_⟩; conv => whnf)
  (repeat' (first | (apply kT (by with_reducible first | rfl | assumption); conv => whnf) | (apply kF (by with_reducible first | rfl | assumption); conv => whnf) | (apply kT (by decide); conv => whnf) | (apply kF (by decide); conv => whnf) | (apply kB <;> intro _ <;> conv => whnf) | fail))
  (refine ⟨4, rfl, rfl, by decide, by decide, [[dI 0, dI 0, dI 0], [dI 0, dI 0, dI 0], [dI 0, dI 0, dI 0], [dI 0, dI 0, dI 0]], rfl, ?_⟩; conv => whnf)
  (repeat' (first | (apply kT (by with_reducible first | rfl | assumption); conv => whnf) | (apply kF (by with_reducible first | rfl | assumption); conv => whnf) | (apply kT (by decide); conv => whnf) | (apply kF (by decide); conv => whnf) | (apply kB <;> intro _ <;> conv => whnf) | fail))
  (refine .inl ⟨_, c19, ?_⟩; conv => whnf)
  (repeat' (first | (apply kT (by with_reducible first | rfl | assumption); conv => whnf) | (apply kF (by with_reducible first | rfl | assumption); conv => whnf) | (apply kT (by decide); conv => whnf) | (apply kF (by decide); conv => whnf) | (apply kB <;> intro _ <;> conv => whnf) | (refine .inl ⟨_, wakes_pure, ?_⟩; conv => whnf) | fail))
  rfl
end Go.Ev.Ythmandhpmkfopaa
