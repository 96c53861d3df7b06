/-
  Contracts of functions, and plain laws, that lead to the statement. Written by an agent.
-/
import Derived.Test.YthmandhpmkfopaaLa
set_option linter.unusedVariables false
set_option linter.unusedSimpArgs false
set_option maxRecDepth 100000
namespace Go.Ev.Ythmandhpmkfopaa
open Go.Proofs
def readyB (lot : Int) (l : List S3) : Bool := decide ((l.length : Int) ≤ 5) && (check lot l == 0)
def takeS : List S3 → Nat
  | [] => 0
  | s :: r => s.1.toNat + takeS r
theorem takeS_append : ∀ (a b : List S3), takeS (a ++ b) = takeS a + takeS b
  | [], b => by simp [takeS]
  | s :: r, b => by rw [List.cons_append, takeS, takeS, takeS_append r b]; omega
theorem takeS_fit {lot : Nat} : ∀ {r : List S3} {taken : Nat}, Fit lot taken r → taken + takeS r ≤ lot ∨ r = []
  | [], _, _ => .inr rfl
  | s :: r, taken, h => by
    obtain ⟨t, ht, ht1, ht2, hf⟩ := h
    left
    rw [takeS, ht, Int.toNat_natCast]
    rcases takeS_fit hf with h | h
    · omega
    · subst h; simp only [takeS]; omega
theorem takeS_take (l : List S3) (k : Nat) : takeS (l.take k) ≤ takeS l := by
  have := takeS_append (l.take k) (l.drop k)
  rw [List.take_append_drop] at this
  omega
theorem fit_at {lot : Nat} : ∀ {r : List S3} {taken : Nat}, Fit lot taken r → ∀ {k : Nat} {s : S3}, r[k]? = some s → ∃ t : Nat, s.1 = t ∧ 1 ≤ t ∧ t ≤ lot
  | [], _, _, k, s, h => by simp at h
  | x :: r, taken, hf, k, s, h => by
    obtain ⟨t, ht, ht1, ht2, hf'⟩ := hf
    cases k with
    | zero => simp at h; subst h; exact ⟨t, ht, ht1, by omega⟩
    | succ k => exact fit_at hf' (by simpa using h)
/-- the pieces that are taken: at least those of the first stage, at most all -/
theorem go_pieces (lot bad : Nat) : ∀ (r : List S3) (taken found : Nat), Fit lot taken r → Ends r → taken ≤ lot → found ≤ bad → bad - found ≤ lot - taken →
    (∀ s r', r = s :: r' → (taken + s.1.toNat) * restN lot taken r ≤ (goN lot bad r taken found).2.1 ∧ (s.2.2 = s.2.1 + 1 → (goN lot bad r taken found).2.1 = (taken + s.1.toNat) * restN lot taken r)) ∧
    (goN lot bad r taken found).2.1 ≤ (taken + takeS r) * restN lot taken r
  | [], _, _, _, h, _, _, _ => h.elim
  | s :: r, taken, found, hf, he, htl, hfb, hbl => by
    obtain ⟨t, ht, ht1, ht2, hf'⟩ := hf
    have e3 : s.1.toNat = t := by rw [ht, Int.toNat_natCast]
    have key : ∀ i, i < cntN (lot - taken) (bad - found) t →
        (taken + t) * restN lot (taken + t) r ≤ (nextN lot bad s r taken found (lowN (lot - taken) (bad - found) t + i)).2.1 ∧
        (s.2.2 = s.2.1 + 1 → (nextN lot bad s r taken found (lowN (lot - taken) (bad - found) t + i)).2.1 = (taken + t) * restN lot (taken + t) r) ∧
        (nextN lot bad s r taken found (lowN (lot - taken) (bad - found) t + i)).2.1 ≤ (taken + (t + takeS r)) * restN lot (taken + t) r := by
      intro i hi
      unfold nextN
      rw [e3]
      split
      · exact ⟨Nat.le_refl _, fun _ => rfl, Nat.mul_le_mul_right _ (by omega)⟩
      · split
        · exact ⟨Nat.le_refl _, fun _ => rfl, Nat.mul_le_mul_right _ (by omega)⟩
        · rename_i h1 h2
          have her : Ends r := by
            cases r with
            | nil => exfalso; have : s.2.2 = s.2.1 + 1 := he; omega
            | cons s' r' => exact he
          obtain ⟨q1, q2⟩ := go_pieces lot bad r (taken + t) (found + (lowN (lot - taken) (bad - found) t + i)) hf' her ht2 (by unfold cntN lowN at *; omega) (by unfold cntN lowN at *; omega)
          refine ⟨?_, fun h => by omega, by rw [← Nat.add_assoc taken t]; exact q2⟩
          cases r with
          | nil => exact her.elim
          | cons s' r' => exact Nat.le_trans (Nat.mul_le_mul_right _ (by omega)) (q1 s' r' rfl).1
    have hm := many_sum (left := lot - taken) (b := bad - found) (t := t) hbl (by omega)
    have hR : restN lot taken (s :: r) = C (lot - taken) t * restN lot (taken + t) r := by rw [restN, e3]
    rw [goN_sm, hR, ← hm]
    simp only [e3, takeS]
    refine ⟨fun s2 r2 h => ?_, ?_⟩
    · cases h
      rw [e3]
      refine ⟨?_, fun hd => ?_⟩
      · rw [Nat.mul_left_comm, ← sm_mul]
        exact sm_le fun i hi => Nat.mul_le_mul_left _ (key i hi).1
      · rw [Nat.mul_left_comm, ← sm_mul]
        exact sm_congr fun i hi => by rw [(key i hi).2.1 hd]
    · rw [Nat.mul_left_comm, ← sm_mul]
      exact sm_le fun i hi => Nat.mul_le_mul_left _ (key i hi).2.2
theorem div_gcd_le {p d t : Nat} (hd : 0 < d) (h : t * d ≤ p) : t * (d / Nat.gcd p d) ≤ p / Nat.gcd p d := by
  have hg : 0 < Nat.gcd p d := Nat.gcd_pos_of_pos_right _ hd
  obtain ⟨p', hp⟩ := Nat.gcd_dvd_left p d
  obtain ⟨d', hd'⟩ := Nat.gcd_dvd_right p d
  generalize Nat.gcd p d = g at hg hp hd'
  subst hp; subst hd'
  rw [Nat.mul_div_cancel_left _ hg, Nat.mul_div_cancel_left _ hg]
  rw [Nat.mul_left_comm] at h
  exact Nat.le_of_mul_le_mul_left h hg
theorem div_gcd_ge {p d t : Nat} (hd : 0 < d) (h : p ≤ t * d) : p / Nat.gcd p d ≤ t * (d / Nat.gcd p d) := by
  have hg : 0 < Nat.gcd p d := Nat.gcd_pos_of_pos_right _ hd
  obtain ⟨p', hp⟩ := Nat.gcd_dvd_left p d
  obtain ⟨d', hd'⟩ := Nat.gcd_dvd_right p d
  generalize Nat.gcd p d = g at hg hp hd'
  subst hp; subst hd'
  rw [Nat.mul_div_cancel_left _ hg, Nat.mul_div_cancel_left _ hg]
  rw [Nat.mul_left_comm] at h
  exact Nat.le_of_mul_le_mul_left h hg
theorem div_gcd_pos {p d : Nat} (hd : 0 < d) : 1 ≤ d / Nat.gcd p d := by
  have hg : 0 < Nat.gcd p d := Nat.gcd_pos_of_pos_right _ hd
  exact (Nat.le_div_iff_mul_le hg).2 (by rw [Nat.one_mul]; exact Nat.le_of_dvd hd (Nat.gcd_dvd_right p d))
attribute [local irreducible] Pure Bor Iter tri C memo goN check accR cntR restN
theorem ready_pure (lot : Int) (l : List S3) (hi : ∀ x ∈ l, InS x) : Pure Try.prog 26 [plD lot l] (dB (readyB lot l)) := by
  have h := fault0_pure lot l
  rw [fault_check hi] at h
  refine pure_of pg Try.func26 (by kernel_rfl) ?_
  ((conv => whnf); repeat (first | (refine ChL.l ?_; (conv => whnf)) | (refine ChC.r ?_; (conv => whnf))))
  (refine .inl ⟨_, thin_pure lot l, ?_⟩; ((conv => whnf); repeat (first | (refine ChL.l ?_; (conv => whnf)) | (refine ChC.r ?_; (conv => whnf)))))
  (repeat' (first | (apply kT (by with_reducible first | rfl | assumption); ((conv => whnf); repeat (first | (refine ChL.l ?_; (conv => whnf)) | (refine ChC.r ?_; (conv => whnf))))) | (apply kF (by with_reducible first | rfl | assumption); ((conv => whnf); repeat (first | (refine ChL.l ?_; (conv => whnf)) | (refine ChC.r ?_; (conv => whnf))))) | (apply kT (by decide); ((conv => whnf); repeat (first | (refine ChL.l ?_; (conv => whnf)) | (refine ChC.r ?_; (conv => whnf))))) | (apply kF (by decide); ((conv => whnf); repeat (first | (refine ChL.l ?_; (conv => whnf)) | (refine ChC.r ?_; (conv => whnf))))) | (apply kB <;> intro _ <;> ((conv => whnf); repeat (first | (refine ChL.l ?_; (conv => whnf)) | (refine ChC.r ?_; (conv => whnf))))) | (refine .inl ⟨_, h, ?_⟩; ((conv => whnf); repeat (first | (refine ChL.l ?_; (conv => whnf)) | (refine ChC.r ?_; (conv => whnf))))) | fail))
  all_goals (rename_i h'; unfold readyB; rw [h']; rfl)
theorem takes_pure' {n : Nat} (hn : n ≤ 30) {l : List S3} (hl : l.length ≤ 3) (hf : Fit n 0 l) (k : Nat) (hk : k ≤ l.length) : Pure Try.prog 29 [plD n l, dI k] (dI (takeS (l.take k) : Nat)) := by
  have hm : ((List.map stD l).length : Int) = (l.length : Int) := by rw [List.length_map]
  refine pure_of pg Try.func29 (by kernel_rfl) ?_
  ((conv => whnf); repeat (first | (refine ChL.l ?_; (conv => whnf)) | (refine ChC.r ?_; (conv => whnf))))
  refine ⟨[], [1, 2, 5, 6], [0], 1, fun m s => ∃ i : Nat, i + m = k ∧ s = ⟨[(1, .d (dI k)), (2, .ref 0 0), (5, .d (dI (takeS (l.take i) : Nat))), (6, .d (dI i))], [(0, .var false 24 [.d (dI n), .d (.seq (l.map stD))])], 1⟩, ?_, ?_⟩
  · ((conv => whnf); repeat (first | (refine ChL.l ?_; (conv => whnf)) | (refine ChC.r ?_; (conv => whnf))))
    exact ⟨k, 0, by omega, rfl⟩
  · rintro m _ ⟨i, him, rfl⟩
    ((conv => whnf); repeat (first | (refine ChL.l ?_; (conv => whnf)) | (refine ChC.r ?_; (conv => whnf))))
    (apply kB <;> intro h <;> ((conv => whnf); repeat (first | (refine ChL.l ?_; (conv => whnf)) | (refine ChC.r ?_; (conv => whnf)))))
    · have hh := h
      rw [decide_eq_true_eq] at hh
      have h2 : decide ((i : Int) < ((List.map stD l).length : Int)) = true := by rw [hm, decide_eq_true_eq]; omega
      have hlt : i < l.length := by omega
      obtain ⟨t, ht, ht1, ht2⟩ := fit_at hf (List.getElem?_eq_getElem hlt)
      have hs : takeS (l.take (i + 1)) = takeS (l.take i) + t := by
        rw [List.take_succ_eq_append_getElem hlt, takeS_append]
        simp only [takeS, ht, Int.toNat_natCast, Nat.add_zero]
      have hle : takeS l ≤ n := by
        rcases takeS_fit hf with h | h
        · omega
        · subst h; simp only [takeS]; omega
      have htk := takeS_take l i
      have e1 : IntKind.i64.wrap ((i : Int) + 1) = ((i + 1 : Nat) : Int) := by rw [wrapI (by omega) (by omega)]; rfl
      have e2 : IntKind.i64.wrap (((takeS (l.take i) : Nat) : Int) + (l[i]).1) = ((takeS (l.take (i + 1)) : Nat) : Int) := by rw [ht, hs, wrapI (by omega) (by omega)]; omega
      (repeat' (first | (apply kT (by with_reducible first | rfl | assumption); ((conv => whnf); repeat (first | (refine ChL.l ?_; (conv => whnf)) | (refine ChC.r ?_; (conv => whnf))))) | (apply kF (by with_reducible first | rfl | assumption); ((conv => whnf); repeat (first | (refine ChL.l ?_; (conv => whnf)) | (refine ChC.r ?_; (conv => whnf))))) | (apply kT (by decide); ((conv => whnf); repeat (first | (refine ChL.l ?_; (conv => whnf)) | (refine ChC.r ?_; (conv => whnf))))) | (apply kF (by decide); ((conv => whnf); repeat (first | (refine ChL.l ?_; (conv => whnf)) | (refine ChC.r ?_; (conv => whnf))))) | (apply kB <;> intro _ <;> ((conv => whnf); repeat (first | (refine ChL.l ?_; (conv => whnf)) | (refine ChC.r ?_; (conv => whnf))))) | fail))
      (refine ⟨i, stD l[i], rfl, getD? l i hlt, rfl, ?_⟩; ((conv => whnf); repeat (first | (refine ChL.l ?_; (conv => whnf)) | (refine ChC.r ?_; (conv => whnf)))))
      refine ⟨m - 1, by omega, i + 1, by omega, ?_⟩
      rw [e1, e2]
    · have hh := h
      rw [decide_eq_false_iff_not] at hh
      have : i = k := by omega
      subst this
      (repeat' (first | (apply kT (by with_reducible first | rfl | assumption); ((conv => whnf); repeat (first | (refine ChL.l ?_; (conv => whnf)) | (refine ChC.r ?_; (conv => whnf))))) | (apply kF (by with_reducible first | rfl | assumption); ((conv => whnf); repeat (first | (refine ChL.l ?_; (conv => whnf)) | (refine ChC.r ?_; (conv => whnf))))) | (apply kT (by decide); ((conv => whnf); repeat (first | (refine ChL.l ?_; (conv => whnf)) | (refine ChC.r ?_; (conv => whnf))))) | (apply kF (by decide); ((conv => whnf); repeat (first | (refine ChL.l ?_; (conv => whnf)) | (refine ChC.r ?_; (conv => whnf))))) | (apply kB <;> intro _ <;> ((conv => whnf); repeat (first | (refine ChL.l ?_; (conv => whnf)) | (refine ChC.r ?_; (conv => whnf))))) | fail))
      rfl
theorem between_pure (lot : Int) (l : List S3) (hl : l.length ≤ 9223372036854775807) (hr : ∀ x ∈ l, InS x) (by' : Int) (hby : 0 ≤ by' ∧ by' ≤ 255) : Pure Try.prog 9 [plD lot l, dU by'] (dB true) := by
  refine pure_of pg Try.func9 (by kernel_rfl) ?_
  ((conv => whnf); repeat (first | (refine ChL.l ?_; (conv => whnf)) | (refine ChC.r ?_; (conv => whnf))))
  (refine .inl ⟨_, ready_pure lot l hr, ?_⟩; ((conv => whnf); repeat (first | (refine ChL.l ?_; (conv => whnf)) | (refine ChC.r ?_; (conv => whnf)))))
  by_cases hrd : readyB lot l = true
  · have hrd' : (!readyB lot l) = false := by rw [hrd]; rfl
    (apply kF (hrd'); ((conv => whnf); repeat (first | (refine ChL.l ?_; (conv => whnf)) | (refine ChC.r ?_; (conv => whnf)))))
    have hrd2 := hrd
    unfold readyB at hrd2
    rw [Bool.and_eq_true, decide_eq_true_eq, beq_iff_eq] at hrd2
    obtain ⟨h5, hc⟩ := hrd2
    obtain ⟨n, rfl, hn1, hn2, hl3, hf, he⟩ := check_good hr hc
    obtain ⟨b, hb, hbn⟩ : ∃ b : Nat, (IntKind.i64.wrap by').tmod (IntKind.i64.wrap ((n : Int) + 1)) = (b : Int) ∧ b ≤ n := by
      have w1 : IntKind.i64.wrap by' = by' := wrapI (by omega) (by omega)
      have w2 : IntKind.i64.wrap ((n : Int) + 1) = ((n + 1 : Nat) : Int) := (wrapI (by omega) (by omega)).trans (by omega)
      rw [w1, w2, Int.tmod_eq_emod_of_nonneg hby.1]
      refine ⟨(by' % ((n + 1 : Nat) : Int)).toNat, ?_, ?_⟩
      · have := Int.emod_nonneg by' (b := ((n + 1 : Nat) : Int)) (by omega)
        omega
      · have := Int.emod_lt_of_pos by' (b := ((n + 1 : Nat) : Int)) (by omega)
        omega
    (refine .inl ⟨_, plan_pure n l (by omega), ?_⟩; ((conv => whnf); repeat (first | (refine ChL.l ?_; (conv => whnf)) | (refine ChC.r ?_; (conv => whnf)))))
    (refine ⟨by rw [wrapI (by omega) (by omega)]; omega, ?_⟩; ((conv => whnf); repeat (first | (refine ChL.l ?_; (conv => whnf)) | (refine ChC.r ?_; (conv => whnf)))))
    have hm := mean_pure n l (by omega) hr b
    have hs : sh (·.2.1) n l b = ((((goN n b l 0 0).2.1 / Nat.gcd (goN n b l 0 0).2.1 (goN n b l 0 0).2.2 : Nat) : Int), (((goN n b l 0 0).2.2 / Nat.gcd (goN n b l 0 0).2.1 (goN n b l 0 0).2.2 : Nat) : Int), 0) := by
      unfold sh
      rw [if_neg (by simp [hc]), if_neg (by omega), Int.toNat_natCast, Int.toNat_natCast]
    rw [hs, ← hb] at hm
    clear hs
    obtain ⟨q1, q2, q3⟩ := go_facts n b l 0 0 hf he (by omega) (by omega) (by omega)
    obtain ⟨p1, p2⟩ := go_pieces n b l 0 0 hf he (by omega) (by omega) (by omega)
    have gp := rest_pos n l 0 hf
    have gl := rest_lt hn2 hl3 hf
    cases l with
    | nil => exact he.elim
    | cons s r =>
      obtain ⟨p3, p4⟩ := p1 s r rfl
      rw [← q1] at p2 p3 p4 gp gl
      generalize goN n b (s :: r) 0 0 = g at hm p2 p3 p4 gp gl
      obtain ⟨t, ht, ht1, ht2, hf'⟩ := id hf
      have e3 : s.1.toNat = t := by rw [ht, Int.toNat_natCast]
      rw [e3, Nat.zero_add] at p3 p4
      rw [Nat.zero_add] at p2
      have hT : takeS (s :: r) ≤ n := by
        rcases takeS_fit hf with h | h
        · omega
        · cases h
      have htk := takes_pure' hn2 hl3 hf (s :: r).length (Nat.le_refl _)
      rw [List.take_length] at htk
      have hm' : ((s :: r).length : Int) = ((List.map stD (s :: r)).length : Int) := by rw [List.length_map]
      rw [hm'] at htk
      generalize takeS (s :: r) = T at htk p2 hT
      have k1 := div_gcd_le gp p3
      have k2 := div_gcd_ge gp p2
      have k3 : 1 ≤ g.2.2 / Nat.gcd g.2.1 g.2.2 := div_gcd_pos gp
      have k4 : g.2.2 / Nat.gcd g.2.1 g.2.2 ≤ 2 ^ 58 := Nat.le_trans (Nat.div_le_self _ _) gl
      have k5 : s.2.2 = s.2.1 + 1 → g.2.1 / Nat.gcd g.2.1 g.2.2 = t ∧ g.2.2 / Nat.gcd g.2.1 g.2.2 = 1 := fun h => by
        have e : Nat.gcd g.2.1 g.2.2 = g.2.2 := by rw [p4 h]; exact Nat.gcd_mul_left_left _ _
        rw [e, Nat.div_self gp, p4 h]
        exact ⟨Nat.mul_div_cancel _ gp, rfl⟩
      generalize g.2.1 / Nat.gcd g.2.1 g.2.2 = P at hm k1 k2 k5
      generalize g.2.2 / Nat.gcd g.2.1 g.2.2 = Q at hm k1 k2 k3 k4 k5
      have b1 : t * Q ≤ 30 * 2 ^ 58 := Nat.mul_le_mul (by omega) k4
      have b2 : T * Q ≤ 30 * 2 ^ 58 := Nat.mul_le_mul (by omega) k4
      have w1 : IntKind.i64.wrap (s.1 * (Q : Int)) = ((t * Q : Nat) : Int) := by rw [ht, ← Int.natCast_mul, wrapI (by omega) (by omega)]
      have w2 : IntKind.i64.wrap ((T : Int) * (Q : Int)) = ((T * Q : Nat) : Int) := by rw [← Int.natCast_mul, wrapI (by omega) (by omega)]
      have i2 := (hr s (by simp)).2.1
      have hend : s.2.1 ≤ 100 := by
        have hck := hc
        rw [← fault_check hr] at hck
        unfold faultR at hck
        have h3 : decide (((s :: r).length : Int) > 3) = false := by rw [decide_eq_false_iff_not]; omega
        rw [h3, cond_false] at hck
        cases hq : (!inB n 1 30 || (s :: r).isEmpty) with
        | true => rw [hq] at hck; cases hck
        | false =>
          rw [hq, cond_false, fR_cons] at hck
          cases h6 : (!inB s.1 1 30 || decide (wI (0 + s.1) > n)) with
          | true => rw [h6] at hck; cases hck
          | false =>
            rw [h6, cond_false] at hck
            cases h7 : (!inB s.2.1 (-1) 30 || decide (s.2.2 ≤ s.2.1) || decide (s.2.2 > wI (wI (0 + s.1) + 1))) with
            | true => rw [h7] at hck; cases hck
            | false =>
              simp only [Bool.or_eq_false_iff, Bool.not_eq_false', inB, Bool.and_eq_true, decide_eq_true_eq] at h7
              omega
      have w3 : IntKind.i64.wrap (s.2.1 + 1) = s.2.1 + 1 := wrapI (by have := i2.1; omega) (by omega)
      have f1 : decide ((Q : Int) < 1) = false := by rw [decide_eq_false_iff_not]; omega
      have f2 : decide ((P : Int) < IntKind.i64.wrap (s.1 * (Q : Int))) = false := by rw [w1, decide_eq_false_iff_not]; omega
      have f3 : decide ((P : Int) > IntKind.i64.wrap ((T : Int) * (Q : Int))) = false := by rw [w2, decide_eq_false_iff_not]; omega
      (refine .inl ⟨_, hm, ?_⟩; ((conv => whnf); repeat (first | (refine ChL.l ?_; (conv => whnf)) | (refine ChC.r ?_; (conv => whnf)))))
      (refine ⟨0, stD s, rfl, rfl, rfl, ?_⟩; ((conv => whnf); repeat (first | (refine ChL.l ?_; (conv => whnf)) | (refine ChC.r ?_; (conv => whnf)))))
      cases hne : (s.2.2 != IntKind.i64.wrap (s.2.1 + 1)) with
      | true =>
        (repeat' (first | (apply kT (by with_reducible first | rfl | assumption); ((conv => whnf); repeat (first | (refine ChL.l ?_; (conv => whnf)) | (refine ChC.r ?_; (conv => whnf))))) | (apply kF (by with_reducible first | rfl | assumption); ((conv => whnf); repeat (first | (refine ChL.l ?_; (conv => whnf)) | (refine ChC.r ?_; (conv => whnf))))) | (apply kT (by decide); ((conv => whnf); repeat (first | (refine ChL.l ?_; (conv => whnf)) | (refine ChC.r ?_; (conv => whnf))))) | (apply kF (by decide); ((conv => whnf); repeat (first | (refine ChL.l ?_; (conv => whnf)) | (refine ChC.r ?_; (conv => whnf))))) | (apply kB <;> intro _ <;> ((conv => whnf); repeat (first | (refine ChL.l ?_; (conv => whnf)) | (refine ChC.r ?_; (conv => whnf))))) | (refine .inl ⟨_, htk, ?_⟩; ((conv => whnf); repeat (first | (refine ChL.l ?_; (conv => whnf)) | (refine ChC.r ?_; (conv => whnf))))) | (refine .inl ⟨_, wakes_pure, ?_⟩; ((conv => whnf); repeat (first | (refine ChL.l ?_; (conv => whnf)) | (refine ChC.r ?_; (conv => whnf))))) | fail))
        all_goals first | rfl | (rename_i h; simp at h)
      | false =>
        have h8 : s.2.2 = s.2.1 + 1 := by rw [← w3]; simpa using hne
        obtain ⟨q1, q2⟩ := k5 h8
        have f4 : ((P : Int) == s.1) = true := by rw [ht, q1]; simp
        have f5 : ((Q : Int) == 1) = true := by rw [q2]; rfl
        (repeat' (first | (apply kT (by with_reducible first | rfl | assumption); ((conv => whnf); repeat (first | (refine ChL.l ?_; (conv => whnf)) | (refine ChC.r ?_; (conv => whnf))))) | (apply kF (by with_reducible first | rfl | assumption); ((conv => whnf); repeat (first | (refine ChL.l ?_; (conv => whnf)) | (refine ChC.r ?_; (conv => whnf))))) | (apply kT (by decide); ((conv => whnf); repeat (first | (refine ChL.l ?_; (conv => whnf)) | (refine ChC.r ?_; (conv => whnf))))) | (apply kF (by decide); ((conv => whnf); repeat (first | (refine ChL.l ?_; (conv => whnf)) | (refine ChC.r ?_; (conv => whnf))))) | (apply kB <;> intro _ <;> ((conv => whnf); repeat (first | (refine ChL.l ?_; (conv => whnf)) | (refine ChC.r ?_; (conv => whnf))))) | (refine .inl ⟨_, htk, ?_⟩; ((conv => whnf); repeat (first | (refine ChL.l ?_; (conv => whnf)) | (refine ChC.r ?_; (conv => whnf))))) | (refine .inl ⟨_, wakes_pure, ?_⟩; ((conv => whnf); repeat (first | (refine ChL.l ?_; (conv => whnf)) | (refine ChC.r ?_; (conv => whnf))))) | fail))
        all_goals first | rfl | (rename_i h; simp at h)
  · have hrd' : (!readyB lot l) = true := by simpa using hrd
    (repeat' (first | (apply kT (by with_reducible first | rfl | assumption); ((conv => whnf); repeat (first | (refine ChL.l ?_; (conv => whnf)) | (refine ChC.r ?_; (conv => whnf))))) | (apply kF (by with_reducible first | rfl | assumption); ((conv => whnf); repeat (first | (refine ChL.l ?_; (conv => whnf)) | (refine ChC.r ?_; (conv => whnf))))) | (apply kT (by decide); ((conv => whnf); repeat (first | (refine ChL.l ?_; (conv => whnf)) | (refine ChC.r ?_; (conv => whnf))))) | (apply kF (by decide); ((conv => whnf); repeat (first | (refine ChL.l ?_; (conv => whnf)) | (refine ChC.r ?_; (conv => whnf))))) | (apply kB <;> intro _ <;> ((conv => whnf); repeat (first | (refine ChL.l ?_; (conv => whnf)) | (refine ChC.r ?_; (conv => whnf))))) | (refine .inl ⟨_, wakes_pure, ?_⟩; ((conv => whnf); repeat (first | (refine ChL.l ?_; (conv => whnf)) | (refine ChC.r ?_; (conv => whnf))))) | fail))
    rfl
end Go.Ev.Ythmandhpmkfopaa
