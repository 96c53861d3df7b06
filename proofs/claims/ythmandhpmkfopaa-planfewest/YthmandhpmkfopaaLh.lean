/-
  Contracts of functions, and plain laws, that lead to the statement. Written by an agent.
-/
import Derived.Test.YthmandhpmkfopaaLg
set_option linter.unusedVariables false
set_option linter.unusedSimpArgs false
set_option maxRecDepth 100000
namespace Go.Ev.Ythmandhpmkfopaa
open Go.Proofs
attribute [local irreducible] Pure Bor Iter tri C memo goN check accR cntR restN chP chQ mnP mnQ keptL singleN
set_option maxHeartbeats 4000000 in
theorem fewest_pure (lot : Int) (h1 : 0 ≤ lot ∧ lot ≤ 255) (d : S4) (hdi : InR d.2.1) (ol : Int) (l : List S3) (hl : l.length ≤ 9223372036854775807) (hr : ∀ x ∈ l, InS x) (take acc : Int) (h2 : 0 ≤ take ∧ take ≤ 255) (h3 : 0 ≤ acc ∧ acc ≤ 255) :
    Pure Try.prog 13 [dU lot, deD d, plD ol l, dU take, dU acc] (dB true) := by
  have hdb := demB_iff hdi
  have dp := demand_pure d
  have ap := asked0_pure ((IntKind.i64.wrap lot).tmod 31) 30 d
  obtain ⟨n, hn, hn31⟩ : ∃ n : Nat, (IntKind.i64.wrap lot).tmod 31 = n ∧ n < 31 := u8_mod h1 (m := 31) (by omega)
  by_cases hq : demB d = true ∧ 1 ≤ n ∧ d.2.1 ≤ n
  · obtain ⟨hdm, h1n, hb⟩ := hq
    have hd := hdb.1 hdm
    have e0 : (if demB d = false then (1 : Int) else if inB ((IntKind.i64.wrap lot).tmod 31) 1 30 = false ∨ (IntKind.i64.wrap lot).tmod 31 < d.2.1 then 2 else 0) = 0 := by
      rw [hn, if_neg (by rw [hdm]; simp), if_neg]
      simp only [inB, not_or, Bool.not_eq_false, Bool.and_eq_true, decide_eq_true_eq]
      omega
    rw [e0] at ap
    have sp := single_at h1n (by omega) hd hb
    obtain ⟨s1, s2, s3, s4, s5, s6⟩ := singleN_spec h1n (by omega) hd hb n 1 (by omega) (by omega) h1n
    generalize singleN n d n 1 = s at sp s1 s2 s3 s4 s5 s6
    obtain ⟨st, sa⟩ := s
    dsimp only at sp s1 s2 s3 s4 s5 s6
    have sc := check_one h1n (by omega : n ≤ 30) s2 s3 s4 s5
    have si : ∀ x ∈ oneP (st : Int) sa, InS x := by intro x hx; simp at hx; subst hx; refine ⟨?_, ?_, ?_⟩ <;> unfold InR <;> dsimp only <;> omega
    have sb := back_pure n (oneP (st : Int) sa) (by simp)
    have sf := fault0_pure n (oneP (st : Int) sa)
    rw [fault_check si, sc] at sf
    have sk := keeps_pure (by simp) si sc hd hb
    rw [← keptS_eq, s1] at sk
    rw [← hn] at sp sb sf sk
    have f1 : (((List.map stD (oneP (st : Int) sa)).length : Int) != 1) = false := rfl
    have f2 : ((IntKind.i64.wrap lot).tmod 31 != (IntKind.i64.wrap lot).tmod 31) = false := by simp
    have hrl : (IntKind.i64.wrap lot).tmod 31 ≠ 0 := by rw [hn]; omega
    obtain ⟨r1, hr1, hr1n⟩ := u8_mod h2 (m := n) h1n
    have ht : IntKind.i64.wrap (1 + (IntKind.i64.wrap take).tmod ((IntKind.i64.wrap lot).tmod 31)) = ((1 + r1 : Nat) : Int) := by
      rw [hn, hr1]; exact (wrapI (by omega) (by omega)).trans (by omega)
    have ht2 : IntKind.i64.wrap (IntKind.i64.wrap (1 + (IntKind.i64.wrap take).tmod ((IntKind.i64.wrap lot).tmod 31)) + 2) = ((r1 + 3 : Nat) : Int) := by
      rw [ht]; exact (wrapI (by omega) (by omega)).trans (by omega)
    have hrt : IntKind.i64.wrap (IntKind.i64.wrap (1 + (IntKind.i64.wrap take).tmod ((IntKind.i64.wrap lot).tmod 31)) + 2) ≠ 0 := by rw [ht2]; omega
    obtain ⟨r2, hr2, hr2n⟩ := u8_mod h3 (m := r1 + 3) (by omega)
    have ha : IntKind.i64.wrap ((IntKind.i64.wrap acc).tmod (IntKind.i64.wrap (IntKind.i64.wrap (1 + (IntKind.i64.wrap take).tmod ((IntKind.i64.wrap lot).tmod 31)) + 2)) - 1) = (r2 : Int) - 1 := by
      rw [ht2, hr2]; exact wrapI (by omega) (by omega)
    obtain ⟨RT, hRT⟩ : ∃ x, x = IntKind.i64.wrap (1 + (IntKind.i64.wrap take).tmod ((IntKind.i64.wrap lot).tmod 31)) := ⟨_, rfl⟩
    obtain ⟨RA, hRA⟩ : ∃ x, x = IntKind.i64.wrap ((IntKind.i64.wrap acc).tmod (IntKind.i64.wrap (IntKind.i64.wrap (1 + (IntKind.i64.wrap take).tmod ((IntKind.i64.wrap lot).tmod 31)) + 2)) - 1) := ⟨_, rfl⟩
    have one : (∃ v, Pure Try.prog 31 [.agg [dI ((IntKind.i64.wrap lot).tmod 31), .seq [[dI RT, dI RA, dI (IntKind.i64.wrap (RA + 1))]]], deD d] (.tup [dB v, dI 0]) ∧ ((decide (RT < (st : Int)) = true ∧ v = false) ∨ decide (RT < (st : Int)) = false)) := by
      have c := check_one (t := 1 + r1) (a := (r2 : Int) - 1) h1n (by omega : n ≤ 30) (by omega) (by omega) (by omega) (by omega)
      have ci : ∀ x ∈ oneP ((1 + r1 : Nat) : Int) ((r2 : Int) - 1), InS x := by intro x hx; simp at hx; subst hx; refine ⟨?_, ?_, ?_⟩ <;> unfold InR <;> dsimp only <;> omega
      have k := keeps_pure (by simp) ci c hd hb
      have e : IntKind.i64.wrap (RA + 1) = RA + 1 := by rw [hRA, ha]; exact wrapI (by omega) (by omega)
      rw [e, hn, hRA, ha, hRT, ht]
      refine ⟨_, k, ?_⟩
      by_cases hlt : ((1 + r1 : Nat) : Int) < st
      · refine .inl ⟨by simpa using hlt, ?_⟩
        rw [← keptS_eq]
        exact s6 _ (by omega) (by omega) _ (by omega) (by omega)
      · exact .inr (by simpa using hlt)
    obtain ⟨v, kS, hv⟩ := one
    rw [hRT, hRA] at kS
    rw [hRT] at hv
    clear hRT hRA ht ht2 ha hr1 hr2
    by_cases h7 : n > 7
    · have h7' : decide ((IntKind.i64.wrap lot).tmod 31 > 7) = true := by rw [hn, decide_eq_true_eq]; omega
      rcases hv with ⟨hv, rfl⟩ | hv
      all_goals
      refine pure_of pg Try.func13 (by kernel_rfl) ?_
      conv => whnf
      (refine ⟨by decide, ?_⟩; conv => whnf)
      (repeat' (first | (apply kT (by with_reducible first | rfl | assumption); conv => whnf) | (apply kF (by with_reducible first | rfl | assumption); conv => whnf) | (apply kT (by decide); conv => whnf) | (apply kF (by decide); conv => whnf) | (apply kB <;> intro _ <;> conv => whnf) | (refine .inl ⟨_, ap, ?_⟩; conv => whnf) | (refine .inl ⟨_, dp, ?_⟩; conv => whnf) | (refine .inl ⟨_, sp, ?_⟩; conv => whnf) | (refine .inl ⟨_, sb, ?_⟩; conv => whnf) | (refine .inl ⟨_, sf, ?_⟩; conv => whnf) | (refine .inl ⟨_, sk, ?_⟩; conv => whnf) | (refine .inl ⟨_, kS, ?_⟩; conv => whnf) | (refine .inl ⟨_, wakes_pure, ?_⟩; conv => whnf) | (refine ⟨hrl, ?_⟩; conv => whnf) | (refine ⟨hrt, ?_⟩; conv => whnf) | (refine ⟨0, _, rfl, rfl, rfl, ?_⟩; conv => whnf) | fail))
      rfl
    · have h7' : decide ((IntKind.i64.wrap lot).tmod 31 > 7) = false := by rw [hn, decide_eq_false_iff_not]; omega
      have rp := ready_pure ol l hr
      have hml : ((List.map stD l).length : Int) = (l.length : Int) := by rw [List.length_map]
      by_cases htr : readyB ol l = true ∧ ol = (IntKind.i64.wrap lot).tmod 31 ∧ l.length = 2
      · obtain ⟨g1, rfl, g3⟩ := htr
        have g2' : ((IntKind.i64.wrap lot).tmod 31 == (IntKind.i64.wrap lot).tmod 31) = true := by simp
        have g3' : (((List.map stD l).length : Int) == 2) = true := by rw [hml, g3]; rfl
        have hcl : check n l = 0 := by
          unfold readyB at g1
          rw [Bool.and_eq_true, decide_eq_true_eq, beq_iff_eq, hn] at g1
          exact g1.2
        have hel := en_of (by omega) g3 hr hcl
        obtain ⟨lf, le⟩ := hel.fit
        have pp := plan_pure ((IntKind.i64.wrap lot).tmod 31) l (by omega)
        have ko := keeps_pure (by omega) hr hcl hd hb
        rw [← hn] at ko
        rcases double_at h1n (by omega : n ≤ 10) hd hb with ⟨c35, hno⟩ | ⟨q, c35, hq1, hq2, hq3⟩
        · rw [hno l hel] at ko
          rw [← hn] at c35
          rcases hv with ⟨hv, rfl⟩ | hv
          all_goals
          refine pure_of pg Try.func13 (by kernel_rfl) ?_
          conv => whnf
          (refine ⟨by decide, ?_⟩; conv => whnf)
          (repeat' (first | (apply kT (by with_reducible first | rfl | assumption); conv => whnf) | (apply kF (by with_reducible first | rfl | assumption); conv => whnf) | (apply kT (by decide); conv => whnf) | (apply kF (by decide); conv => whnf) | (apply kB <;> intro _ <;> conv => whnf) | (refine .inl ⟨_, ap, ?_⟩; conv => whnf) | (refine .inl ⟨_, dp, ?_⟩; conv => whnf) | (refine .inl ⟨_, sp, ?_⟩; conv => whnf) | (refine .inl ⟨_, sb, ?_⟩; conv => whnf) | (refine .inl ⟨_, sf, ?_⟩; conv => whnf) | (refine .inl ⟨_, sk, ?_⟩; conv => whnf) | (refine .inl ⟨_, kS, ?_⟩; conv => whnf) | (refine .inl ⟨_, wakes_pure, ?_⟩; conv => whnf) | (refine .inl ⟨_, rp, ?_⟩; conv => whnf) | (refine .inl ⟨_, c35, ?_⟩; conv => whnf) | (refine .inl ⟨_, pp, ?_⟩; conv => whnf) | (refine .inl ⟨_, ko, ?_⟩; conv => whnf) | (refine ⟨hrl, ?_⟩; conv => whnf) | (refine ⟨hrt, ?_⟩; conv => whnf) | (refine ⟨0, _, rfl, rfl, rfl, ?_⟩; conv => whnf) | fail))
          rfl
        · obtain ⟨qf, qe⟩ := hq1.fit
          have ql := hq1.len
          have qi := hq1.ins (by omega)
          have qc := hq1.check (by omega)
          have bq := back_pure n q (by omega)
          have fq := fault0_pure n q
          rw [fault_check qi, qc] at fq
          have kq := keeps_pure (by omega) qi qc hd hb
          rw [hq2] at kq
          obtain ⟨g, hg⟩ : ∃ g : Nat, d.1 = g := ⟨d.1.toNat, by have := hd.1; omega⟩
          have hgn : g ≤ n := by have := hd.2.1; omega
          have mq := mean_at (by omega) qi (by omega) qf qe qc hgn
          have mo := mean_at (by omega) hr (by omega) lf le hcl hgn
          have q2 : (((List.map stD q).length : Int) != 2) = false := by rw [List.length_map, ql]; rfl
          rw [← hg] at mq mo
          rw [← hn] at c35 bq fq kq mq mo
          cases hkl : keptL n l d with
          | false =>
            rw [hkl] at ko
            rcases hv with ⟨hv, rfl⟩ | hv
            all_goals
            refine pure_of pg Try.func13 (by kernel_rfl) ?_
            conv => whnf
            (refine ⟨by decide, ?_⟩; conv => whnf)
            (repeat' (first | (apply kT (by with_reducible first | rfl | assumption); conv => whnf) | (apply kF (by with_reducible first | rfl | assumption); conv => whnf) | (apply kT (by decide); conv => whnf) | (apply kF (by decide); conv => whnf) | (apply kB <;> intro _ <;> conv => whnf) | (refine .inl ⟨_, ap, ?_⟩; conv => whnf) | (refine .inl ⟨_, dp, ?_⟩; conv => whnf) | (refine .inl ⟨_, sp, ?_⟩; conv => whnf) | (refine .inl ⟨_, sb, ?_⟩; conv => whnf) | (refine .inl ⟨_, sf, ?_⟩; conv => whnf) | (refine .inl ⟨_, sk, ?_⟩; conv => whnf) | (refine .inl ⟨_, kS, ?_⟩; conv => whnf) | (refine .inl ⟨_, wakes_pure, ?_⟩; conv => whnf) | (refine .inl ⟨_, rp, ?_⟩; conv => whnf) | (refine .inl ⟨_, c35, ?_⟩; conv => whnf) | (refine .inl ⟨_, pp, ?_⟩; conv => whnf) | (refine .inl ⟨_, ko, ?_⟩; conv => whnf) | (refine .inl ⟨_, bq, ?_⟩; conv => whnf) | (refine .inl ⟨_, fq, ?_⟩; conv => whnf) | (refine .inl ⟨_, kq, ?_⟩; conv => whnf) | (refine .inl ⟨_, mq, ?_⟩; conv => whnf) | (refine ⟨hrl, ?_⟩; conv => whnf) | (refine ⟨hrt, ?_⟩; conv => whnf) | (refine ⟨0, _, rfl, rfl, rfl, ?_⟩; conv => whnf) | fail))
            rfl
          | true =>
            rw [hkl] at ko
            have hle := hq3 l hel hkl
            rw [hg, Int.toNat_natCast] at hle
            have lt : Pure Try.prog 28 [.agg [dI (mnP n q g : Nat), dI (mnQ n q g : Nat)], .agg [dI (mnP n l g : Nat), dI (mnQ n l g : Nat)]] (dB true) := by
              refine least_true (mn_pos qf g) (mn_pos lf g) ?_
              have := cross2 (rest_pos n q 0 qf) (rest_pos n l 0 lf) hle
              unfold mnP mnQ; exact this
            rcases hv with ⟨hv, rfl⟩ | hv
            all_goals
            refine pure_of pg Try.func13 (by kernel_rfl) ?_
            conv => whnf
            (refine ⟨by decide, ?_⟩; conv => whnf)
            (repeat' (first | (apply kT (by with_reducible first | rfl | assumption); conv => whnf) | (apply kF (by with_reducible first | rfl | assumption); conv => whnf) | (apply kT (by decide); conv => whnf) | (apply kF (by decide); conv => whnf) | (apply kB <;> intro _ <;> conv => whnf) | (refine .inl ⟨_, ap, ?_⟩; conv => whnf) | (refine .inl ⟨_, dp, ?_⟩; conv => whnf) | (refine .inl ⟨_, sp, ?_⟩; conv => whnf) | (refine .inl ⟨_, sb, ?_⟩; conv => whnf) | (refine .inl ⟨_, sf, ?_⟩; conv => whnf) | (refine .inl ⟨_, sk, ?_⟩; conv => whnf) | (refine .inl ⟨_, kS, ?_⟩; conv => whnf) | (refine .inl ⟨_, wakes_pure, ?_⟩; conv => whnf) | (refine .inl ⟨_, rp, ?_⟩; conv => whnf) | (refine .inl ⟨_, c35, ?_⟩; conv => whnf) | (refine .inl ⟨_, pp, ?_⟩; conv => whnf) | (refine .inl ⟨_, ko, ?_⟩; conv => whnf) | (refine .inl ⟨_, bq, ?_⟩; conv => whnf) | (refine .inl ⟨_, fq, ?_⟩; conv => whnf) | (refine .inl ⟨_, kq, ?_⟩; conv => whnf) | (refine .inl ⟨_, mq, ?_⟩; conv => whnf) | (refine .inl ⟨_, mo, ?_⟩; conv => whnf) | (refine .inl ⟨_, lt, ?_⟩; conv => whnf) | (refine ⟨hrl, ?_⟩; conv => whnf) | (refine ⟨hrt, ?_⟩; conv => whnf) | (refine ⟨0, _, rfl, rfl, rfl, ?_⟩; conv => whnf) | fail))
            rfl
      · have htr' : (readyB ol l = false ∧ (!readyB ol l) = true) ∨ (readyB ol l = true ∧ (ol == (IntKind.i64.wrap lot).tmod 31) = false ∧ (!(ol == (IntKind.i64.wrap lot).tmod 31)) = true) ∨
            (readyB ol l = true ∧ (ol == (IntKind.i64.wrap lot).tmod 31) = true ∧ (((List.map stD l).length : Int) == 2) = false ∧ (!(((List.map stD l).length : Int) == 2)) = true) := by
          cases g1 : readyB ol l with
          | false => exact .inl ⟨rfl, rfl⟩
          | true =>
            refine .inr ?_
            by_cases g2 : ol = (IntKind.i64.wrap lot).tmod 31
            · have g3 : (((List.map stD l).length : Int) == 2) = false := by
                rw [hml, beq_eq_false_iff_ne]
                intro g3
                exact htr ⟨g1, g2, by omega⟩
              exact .inr ⟨rfl, by simpa using g2, g3, by rw [g3]; rfl⟩
            · have g3 : (ol == (IntKind.i64.wrap lot).tmod 31) = false := by simpa using g2
              exact .inl ⟨rfl, g3, by rw [g3]; rfl⟩
        rcases double_at h1n (by omega : n ≤ 10) hd hb with ⟨c35, hno⟩ | ⟨q, c35, hq1, hq2, hq3⟩
        · rw [← hn] at c35
          rcases htr' with ⟨g, g4⟩ | ⟨g, g', g4⟩ | ⟨g, g', g'', g4⟩
          all_goals
          rcases hv with ⟨hv, rfl⟩ | hv
          all_goals
          refine pure_of pg Try.func13 (by kernel_rfl) ?_
          conv => whnf
          (refine ⟨by decide, ?_⟩; conv => whnf)
          (repeat' (first | (apply kT (by with_reducible first | rfl | assumption); conv => whnf) | (apply kF (by with_reducible first | rfl | assumption); conv => whnf) | (apply kT (by decide); conv => whnf) | (apply kF (by decide); conv => whnf) | (apply kB <;> intro _ <;> conv => whnf) | (refine .inl ⟨_, ap, ?_⟩; conv => whnf) | (refine .inl ⟨_, dp, ?_⟩; conv => whnf) | (refine .inl ⟨_, sp, ?_⟩; conv => whnf) | (refine .inl ⟨_, sb, ?_⟩; conv => whnf) | (refine .inl ⟨_, sf, ?_⟩; conv => whnf) | (refine .inl ⟨_, sk, ?_⟩; conv => whnf) | (refine .inl ⟨_, kS, ?_⟩; conv => whnf) | (refine .inl ⟨_, wakes_pure, ?_⟩; conv => whnf) | (refine .inl ⟨_, rp, ?_⟩; conv => whnf) | (refine .inl ⟨_, c35, ?_⟩; conv => whnf) | (refine ⟨hrl, ?_⟩; conv => whnf) | (refine ⟨hrt, ?_⟩; conv => whnf) | (refine ⟨0, _, rfl, rfl, rfl, ?_⟩; conv => whnf) | fail))
          rfl
        · obtain ⟨qf, qe⟩ := hq1.fit
          have ql := hq1.len
          have qi := hq1.ins (by omega)
          have qc := hq1.check (by omega)
          have bq := back_pure n q (by omega)
          have fq := fault0_pure n q
          rw [fault_check qi, qc] at fq
          have kq := keeps_pure (by omega) qi qc hd hb
          rw [hq2] at kq
          obtain ⟨g0, hg⟩ : ∃ g : Nat, d.1 = g := ⟨d.1.toNat, by have := hd.1; omega⟩
          have hgn : g0 ≤ n := by have := hd.2.1; omega
          have mq := mean_at (by omega) qi (by omega) qf qe qc hgn
          have q2 : (((List.map stD q).length : Int) != 2) = false := by rw [List.length_map, ql]; rfl
          rw [← hg] at mq
          rw [← hn] at c35 bq fq kq mq
          rcases htr' with ⟨g, g4⟩ | ⟨g, g', g4⟩ | ⟨g, g', g'', g4⟩
          all_goals
          rcases hv with ⟨hv, rfl⟩ | hv
          all_goals
          refine pure_of pg Try.func13 (by kernel_rfl) ?_
          conv => whnf
          (refine ⟨by decide, ?_⟩; conv => whnf)
          (repeat' (first | (apply kT (by with_reducible first | rfl | assumption); conv => whnf) | (apply kF (by with_reducible first | rfl | assumption); conv => whnf) | (apply kT (by decide); conv => whnf) | (apply kF (by decide); conv => whnf) | (apply kB <;> intro _ <;> conv => whnf) | (refine .inl ⟨_, ap, ?_⟩; conv => whnf) | (refine .inl ⟨_, dp, ?_⟩; conv => whnf) | (refine .inl ⟨_, sp, ?_⟩; conv => whnf) | (refine .inl ⟨_, sb, ?_⟩; conv => whnf) | (refine .inl ⟨_, sf, ?_⟩; conv => whnf) | (refine .inl ⟨_, sk, ?_⟩; conv => whnf) | (refine .inl ⟨_, kS, ?_⟩; conv => whnf) | (refine .inl ⟨_, wakes_pure, ?_⟩; conv => whnf) | (refine .inl ⟨_, rp, ?_⟩; conv => whnf) | (refine .inl ⟨_, c35, ?_⟩; conv => whnf) | (refine .inl ⟨_, bq, ?_⟩; conv => whnf) | (refine .inl ⟨_, fq, ?_⟩; conv => whnf) | (refine .inl ⟨_, kq, ?_⟩; conv => whnf) | (refine .inl ⟨_, mq, ?_⟩; conv => whnf) | (refine ⟨hrl, ?_⟩; conv => whnf) | (refine ⟨hrt, ?_⟩; conv => whnf) | (refine ⟨0, _, rfl, rfl, rfl, ?_⟩; conv => whnf) | fail))
          rfl
  · have e0 : ∃ e : Int, e ≠ 0 ∧ (if demB d = false then (1 : Int) else if inB ((IntKind.i64.wrap lot).tmod 31) 1 30 = false ∨ (IntKind.i64.wrap lot).tmod 31 < d.2.1 then 2 else 0) = e := by
      rw [hn]
      refine ⟨_, ?_, rfl⟩
      by_cases hdm : demB d = false
      · rw [if_pos hdm]; decide
      · rw [if_neg hdm, if_pos]
        · decide
        · simp only [inB, Bool.and_eq_false_iff, decide_eq_false_iff_not]
          have : demB d = true := by simpa using hdm
          have : ¬ (1 ≤ n ∧ d.2.1 ≤ n) := fun h => hq ⟨this, h⟩
          omega
    obtain ⟨e, he, e0⟩ := e0
    rw [e0] at ap
    have f : (e != 0) = true := by simpa using he
    refine pure_of pg Try.func13 (by kernel_rfl) ?_
    conv => whnf
    (refine ⟨by decide, ?_⟩; conv => whnf)
    (repeat' (first | (apply kT (by with_reducible first | rfl | assumption); conv => whnf) | (apply kF (by with_reducible first | rfl | assumption); conv => whnf) | (apply kT (by decide); conv => whnf) | (apply kF (by decide); conv => whnf) | (apply kB <;> intro _ <;> conv => whnf) | (refine .inl ⟨_, ap, ?_⟩; conv => whnf) | (refine .inl ⟨_, wakes_pure, ?_⟩; conv => whnf) | fail))
    rfl
end Go.Ev.Ythmandhpmkfopaa

set_option linter.unusedVariables false
set_option maxRecDepth 100000
namespace Go.Proofs.Ythmandhpmkfopaa
open Go.Ev Go.Ev.Ythmandhpmkfopaa
theorem okV_dem {d : D} (h : OkV tb 6 64 d) : ∃ x : S4, d = deD x ∧ InR x.1 ∧ InR x.2.1 ∧ InR x.2.2.1 ∧ InR x.2.2.2 := by
  obtain ⟨y, ds, hy, hd, rfl⟩ := h
  cases hy
  obtain ⟨d1, d2, rfl, ⟨i1, rfl, w1⟩, d3, d4, rfl, ⟨i2, rfl, w2⟩, d5, d6, rfl, ⟨i3, rfl, w3⟩, d7, d8, rfl, ⟨i4, rfl, w4⟩, rfl⟩ := hd
  exact ⟨(i1, i2, i3, i4), rfl, inR_of w1, inR_of w2, inR_of w3, inR_of w4⟩
end Go.Proofs.Ythmandhpmkfopaa
