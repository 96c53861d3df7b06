/-
  Contracts of functions, and plain laws, that lead to the statement. Written by an agent.
-/
import Derived.Test.YthmandhpmkfopaaLb
set_option linter.unusedVariables false
set_option linter.unusedSimpArgs false
namespace Go.Ev.Ythmandhpmkfopaa
/-- a sum over all numbers of bad pieces is one over those that can be -/
theorem sum_mid {left b t : Nat} (hb : b ≤ left) (ht : t ≤ left) (g : Nat → Nat) : sm (fun i => manyN left b t (lowN left b t + i) * g (lowN left b t + i)) (cntN left b t) = sm (fun i => manyR left b t i * g i) (t + 1) := by
  have hz1 : ∀ i, i < lowN left b t → manyR left b t i = 0 := fun i hi => by
    unfold manyR; rw [C_zero (left - b) (t - i) (by unfold lowN at hi; omega)]; simp
  have hz2 : ∀ i, lowN left b t + cntN left b t ≤ i → i < t + 1 → manyR left b t i = 0 := fun i hi hit => by
    unfold manyR
    by_cases h : b < i
    · rw [C_zero _ _ h]; simp
    · rw [C_zero (left - b) (t - i) (by unfold cntN lowN at hi; omega)]; simp
  have hle : lowN left b t + cntN left b t ≤ t + 1 := by unfold cntN lowN; omega
  rw [sm_mid (f := fun i => manyR left b t i * g i) (lo := lowN left b t) (cnt := cntN left b t) (fun i hi => by rw [hz1 i hi]; simp) (fun i hi hit => by rw [hz2 i hi hit]; simp) hle]
  rfl
theorem go_acc (lot bad : Nat) (s : S3) (r : List S3) (taken found : Nat) (hb : bad - found ≤ lot - taken) (ht : s.1.toNat ≤ lot - taken) :
    (goN lot bad (s :: r) taken found).1 = sm (fun i => manyR (lot - taken) (bad - found) s.1.toNat i * (nextN lot bad s r taken found i).1) (s.1.toNat + 1) := by
  rw [goN_sm]
  exact sum_mid hb ht fun i => (nextN lot bad s r taken found i).1
/-- one marked piece is bad, or good -/
theorem mark_bad (b M : Nat) (g : Nat → Nat) (t : Nat) : sm (fun i => C (b + 1) i * C M (t - i) * g i) (t + 1) = sm (fun i => C b i * C M (t - i) * g i) (t + 1) + sm (fun j => C b j * C M (t - 1 - j) * g (j + 1)) t := by
  cases t with
  | zero => simp [sm, C_one]
  | succ t =>
    rw [sm_head, sm_head (fun i => C b i * C M (t + 1 - i) * g i), C_one, C_one, Nat.add_assoc, ← sm_add]
    refine congrArg _ (sm_congr fun i hi => ?_)
    rw [C_step, Nat.add_mul, Nat.add_mul, show t + 1 - (i + 1) = t - i by omega, show t + 1 - 1 - i = t - i by omega]
    omega
theorem mark_good (b M : Nat) (g : Nat → Nat) (t : Nat) : sm (fun i => C b i * C (M + 1) (t - i) * g i) (t + 1) = sm (fun i => C b i * C M (t - i) * g i) (t + 1) + sm (fun j => C b j * C M (t - 1 - j) * g j) t := by
  rw [sm, sm, Nat.sub_self, C_one, C_one]
  have e : sm (fun i => C b i * C (M + 1) (t - i) * g i) t = sm (fun i => C b i * C M (t - i) * g i) t + sm (fun j => C b j * C M (t - 1 - j) * g j) t := by
    rw [← sm_add]
    refine sm_congr fun i hi => ?_
    obtain ⟨q, hq⟩ : ∃ q, t - i = q + 1 := ⟨t - i - 1, by omega⟩
    rw [hq, C_step, show t - 1 - i = q by omega, Nat.mul_add, Nat.add_mul]
    omega
  rw [e]; omega
theorem go_mono (lot : Nat) : ∀ (r : List S3) (taken : Nat), Fit lot taken r → Ends r → taken ≤ lot →
    (∀ found bad, found ≤ bad → bad - found + 1 ≤ lot - taken → (goN lot (bad + 1) r taken found).1 ≤ (goN lot bad r taken found).1) ∧
    (∀ found bad, found ≤ bad → bad - found ≤ lot - taken → (goN lot (bad + 1) r taken (found + 1)).1 ≤ (goN lot bad r taken found).1)
  | [], _, _, h, _ => h.elim
  | s :: r, taken, hf, he, htl => by
    obtain ⟨t, ht, ht1, ht2, hf'⟩ := hf
    have e3 : s.1.toNat = t := by rw [ht, Int.toNat_natCast]
    have ends : ∀ x : Nat, ¬ (x : Int) ≤ s.2.1 → ¬ s.2.2 ≤ (x : Int) → Ends r := fun x h1 h2 => by
      cases r with
      | nil => exfalso; have : s.2.2 = s.2.1 + 1 := he; omega
      | cons s' r' => exact he
    -- one more found, the same to come
    have vB : ∀ found bad i, found + i ≤ bad → bad - (found + i) ≤ lot - (taken + t) → (nextN lot (bad + 1) s r taken (found + 1) i).1 ≤ (nextN lot bad s r taken found i).1 := fun found bad i h1 h2 => by
      unfold nextN
      rw [e3]
      by_cases c1 : ((found + i : Nat) : Int) ≤ s.2.1
      · rw [if_pos c1]
        split
        · exact Nat.le_refl _
        · split
          · exact Nat.zero_le _
          · rename_i c2 c3
            have her := ends _ c2 c3
            exact (go_facts lot (bad + 1) r (taken + t) (found + 1 + i) hf' her ht2 (by omega) (by omega)).2.1
      · rw [if_neg c1, if_neg (by omega)]
        by_cases c2 : s.2.2 ≤ ((found + i : Nat) : Int)
        · rw [if_pos c2, if_pos (by omega)]; exact Nat.le_refl _
        · rw [if_neg c2]
          split
          · exact Nat.zero_le _
          · have := (go_mono lot r (taken + t) hf' (ends _ c1 c2) ht2).2 (found + i) bad h1 h2
            rw [show found + 1 + i = found + i + 1 by omega]
            exact this
    -- as many found, one more to come
    have vA : ∀ found bad i, found + i ≤ bad → bad - (found + i) + 1 ≤ lot - (taken + t) → (nextN lot (bad + 1) s r taken found i).1 ≤ (nextN lot bad s r taken found i).1 := fun found bad i h1 h2 => by
      unfold nextN
      rw [e3]
      split
      · exact Nat.le_refl _
      · split
        · exact Nat.le_refl _
        · rename_i c1 c2
          exact (go_mono lot r (taken + t) hf' (ends _ c1 c2) ht2).1 (found + i) bad h1 h2
    -- one of those that are found is the marked one
    have vC : ∀ found bad i, found + i ≤ bad → bad - (found + i) ≤ lot - (taken + t) → (nextN lot (bad + 1) s r taken found (i + 1)).1 ≤ (nextN lot bad s r taken found i).1 := fun found bad i h1 h2 => by
      have := vB found bad i h1 h2
      have e : nextN lot (bad + 1) s r taken (found + 1) i = nextN lot (bad + 1) s r taken found (i + 1) := by
        unfold nextN
        rw [show found + 1 + i = found + (i + 1) by omega]
      rwa [e] at this
    refine ⟨fun found bad h1 h2 => ?_, fun found bad h1 h2 => ?_⟩
    · rw [go_acc _ _ _ _ _ _ (by omega) (by omega), go_acc _ _ _ _ _ _ (by omega) (by omega), e3]
      obtain ⟨M, hM⟩ : ∃ M, lot - taken - (bad - found) = M + 1 := ⟨lot - taken - (bad - found) - 1, by omega⟩
      have m1 : ∀ i, manyR (lot - taken) (bad + 1 - found) t i = C (bad - found + 1) i * C M (t - i) := fun i => by
        unfold manyR
        rw [show bad + 1 - found = bad - found + 1 by omega, show lot - taken - (bad - found + 1) = M by omega]
      have m2 : ∀ i, manyR (lot - taken) (bad - found) t i = C (bad - found) i * C (M + 1) (t - i) := fun i => by
        unfold manyR
        rw [hM]
      simp only [m1, m2]
      rw [mark_bad, mark_good]
      refine Nat.add_le_add (sm_le fun i hi => ?_) (sm_le fun i hi => ?_)
      · rcases Nat.lt_or_ge (bad - found) i with h3 | h3
        · rw [C_zero _ _ h3]; simp
        · rcases Nat.lt_or_ge M (t - i) with h4 | h4
          · rw [C_zero _ _ h4]; simp
          · exact Nat.mul_le_mul_left _ (vA found bad i (by omega) (by omega))
      · rcases Nat.lt_or_ge (bad - found) i with h3 | h3
        · rw [C_zero _ _ h3]; simp
        · rcases Nat.lt_or_ge M (t - 1 - i) with h4 | h4
          · rw [C_zero _ _ h4]; simp
          · exact Nat.mul_le_mul_left _ (vC found bad i (by omega) (by omega))
    · rw [go_acc _ _ _ _ _ _ (by omega) (by omega), go_acc _ _ _ _ _ _ (by omega) (by omega), e3, show bad + 1 - (found + 1) = bad - found by omega]
      refine sm_le fun i hi => ?_
      unfold manyR
      rcases Nat.lt_or_ge (bad - found) i with h3 | h3
      · rw [C_zero _ _ h3]; simp
      · rcases Nat.lt_or_ge (lot - taken - (bad - found)) (t - i) with h4 | h4
        · rw [C_zero _ _ h4]; simp
        · exact Nat.mul_le_mul_left _ (vB found bad i (by omega) (by omega))
/-- what a checked plan's stages are -/
def Good (lot : Nat) : Nat → Int → Int → List S3 → Prop
  | _, _, _, [] => True
  | taken, pA, pR, s :: r => ∃ t : Nat, s.1 = t ∧ 1 ≤ t ∧ taken + t ≤ lot ∧ pA ≤ s.2.1 ∧ pR ≤ s.2.2 ∧ s.2.1 < s.2.2 ∧ s.2.2 ≤ ((taken + t + 1 : Nat) : Int) ∧ Good lot (taken + t) s.2.1 s.2.2 r
theorem fR_good {lot : Nat} (hlot : lot ≤ 30) : ∀ (r : List S3) (taken : Nat) (prev : Option S3) (pA pR : Int), taken ≤ lot → (∀ x ∈ r, InS x) → ((prev = none ∧ pA = -1 ∧ pR = 0) ∨ ∃ p, prev = some p ∧ pA = p.2.1 ∧ pR = p.2.2) → fR lot r taken prev = 0 → Good lot taken pA pR r
  | [], _, _, _, _, _, _, _, _ => trivial
  | s :: r, taken, prev, pA, pR, ht, hi, hp, h => by
    rw [fR_cons] at h
    cases h6 : (!inB s.1 1 30 || decide (wI ((taken : Int) + s.1) > lot)) with
    | true => rw [h6] at h; cases h
    | false =>
      rw [h6, cond_false] at h
      simp only [Bool.or_eq_false_iff, Bool.not_eq_false', inB, Bool.and_eq_true, decide_eq_true_eq, decide_eq_false_iff_not] at h6
      obtain ⟨⟨h1, h2⟩, h3⟩ := h6
      obtain ⟨t, hst⟩ : ∃ t : Nat, s.1 = t := ⟨s.1.toNat, by omega⟩
      have e : wI ((taken : Int) + s.1) = ((taken + t : Nat) : Int) := by rw [hst]; exact (wrapI (by omega) (by omega)).trans (by omega)
      have e' : wI (((taken + t : Nat) : Int) + 1) = ((taken + t + 1 : Nat) : Int) := (wrapI (by omega) (by omega)).trans (by omega)
      rw [e] at h3 h
      rw [e'] at h
      cases h7 : (!inB s.2.1 (-1) 30 || decide (s.2.2 ≤ s.2.1) || decide (s.2.2 > ((taken + t + 1 : Nat) : Int))) with
      | true => rw [h7] at h; cases h
      | false =>
        rw [h7, cond_false] at h
        simp only [Bool.or_eq_false_iff, Bool.not_eq_false', inB, Bool.and_eq_true, decide_eq_true_eq, decide_eq_false_iff_not] at h7
        cases h8 : ltP s prev with
        | true => rw [h8] at h; cases h
        | false =>
          rw [h8, cond_false] at h
          have h9 : pA ≤ s.2.1 ∧ pR ≤ s.2.2 := by
            rcases hp with ⟨rfl, rfl, rfl⟩ | ⟨p, rfl, rfl, rfl⟩
            · omega
            · simp only [ltP, Bool.or_eq_false_iff, decide_eq_false_iff_not] at h8
              omega
          refine ⟨t, hst, by omega, by omega, h9.1, h9.2, by omega, by omega, ?_⟩
          cases h10 : (r.isEmpty && (s.2.2 != wI (s.2.1 + 1))) with
          | true => rw [h10] at h; cases h
          | false =>
            rw [h10, cond_false] at h
            exact fR_good hlot r (taken + t) (some s) s.2.1 s.2.2 (by omega) (fun x hx => hi x (by simp [hx])) (.inr ⟨s, rfl, rfl, rfl⟩) h
theorem good_of {n : Nat} (hn : n ≤ 30) {l : List S3} (hi : ∀ x ∈ l, InS x) (hc : check n l = 0) : Good n 0 (-1) 0 l := by
  rw [← fault_check hi] at hc
  unfold faultR at hc
  cases h1 : decide ((l.length : Int) > 3) with
  | true => rw [h1] at hc; cases hc
  | false =>
    rw [h1, cond_false] at hc
    cases h2 : (!inB n 1 30 || l.isEmpty) with
    | true => rw [h2] at hc; cases hc
    | false =>
      rw [h2, cond_false] at hc
      exact fR_good hn l 0 none (-1) 0 (Nat.zero_le _) hi (.inl ⟨rfl, rfl, rfl⟩) hc
end Go.Ev.Ythmandhpmkfopaa

set_option linter.unusedVariables false
set_option linter.unusedSimpArgs false
set_option maxRecDepth 100000
namespace Go.Ev.Ythmandhpmkfopaa
open Go.Proofs
theorem nextN_one (lot bad : Nat) (s : S3) (r : List S3) (taken found i : Nat) : (nextN lot bad s r taken found i).1 =
    if ((found + i : Nat) : Int) ≤ s.2.1 then restN lot (taken + s.1.toNat) r else if s.2.2 ≤ ((found + i : Nat) : Int) then 0 else (goN lot bad r (taken + s.1.toNat) (found + i)).1 := by
  unfold nextN
  split
  · rfl
  · split <;> rfl
theorem none_bad (lot : Nat) : ∀ (r : List S3) (taken : Nat) (pA pR : Int), Good lot taken pA pR r → Ends r → taken ≤ lot → (∀ s r', r = s :: r' → 0 < s.2.2) → (goN lot 0 r taken 0).1 = restN lot taken r
  | [], _, _, _, _, h, _, _ => h.elim
  | s :: r, taken, pA, pR, hg, he, htl, hp => by
    obtain ⟨t, ht, ht1, ht2, g1, g2, g3, g4, hg'⟩ := hg
    have e3 : s.1.toNat = t := by rw [ht, Int.toNat_natCast]
    have h0 := hp s r rfl
    have hv : (nextN lot 0 s r taken 0 0).1 = restN lot (taken + t) r := by
      rw [nextN_one, e3]
      by_cases c1 : ((0 + 0 : Nat) : Int) ≤ s.2.1
      · rw [if_pos c1]
      · rw [if_neg c1, if_neg (by omega)]
        have her : Ends r := by
          cases r with
          | nil => exfalso; have : s.2.2 = s.2.1 + 1 := he; omega
          | cons s' r' => exact he
        refine none_bad lot r (taken + t) _ _ hg' her ht2 fun s' r' h => ?_
        subst h
        obtain ⟨_, _, _, _, _, q, _⟩ := hg'
        omega
    rw [go_acc _ _ _ _ _ _ (by omega) (by omega), e3, sm_head, hv]
    have z : sm (fun i => manyR (lot - taken) (0 - 0) t (i + 1) * (nextN lot 0 s r taken 0 (i + 1)).1) t = 0 := sm_zero fun i hi => by
      unfold manyR; rw [C_zero (0 - 0) (i + 1) (by omega)]; simp
    rw [z, restN, e3]
    unfold manyR
    rw [C_one]
    simp
theorem none_rej {lot : Nat} {s : S3} {r : List S3} {taken : Nat} {pA pR : Int} (hg : Good lot taken pA pR (s :: r)) (hA : -1 ≤ pA) (htl : taken ≤ lot) (h : ¬ 0 < s.2.2) : (goN lot 0 (s :: r) taken 0).1 = 0 := by
  obtain ⟨t, ht, ht1, ht2, g1, g2, g3, g4, hg'⟩ := hg
  have e3 : s.1.toNat = t := by rw [ht, Int.toNat_natCast]
  rw [go_acc _ _ _ _ _ _ (by omega) (by omega), e3]
  refine sm_zero fun i hi => ?_
  rw [nextN_one, if_neg (by omega), if_pos (by omega)]
  simp
def Strict : Nat → List S3 → Prop
  | _, [] => True
  | taken, s :: r => s.2.1 < ((taken + s.1.toNat : Nat) : Int) ∧ Strict (taken + s.1.toNat) r
theorem all_bad (lot : Nat) : ∀ (r : List S3) (taken : Nat), Fit lot taken r → taken ≤ lot → Strict taken r → (goN lot lot r taken taken).1 = 0
  | [], _, _, _, _ => rfl
  | s :: r, taken, hf, htl, hs => by
    obtain ⟨t, ht, ht1, ht2, hf'⟩ := hf
    have e3 : s.1.toNat = t := by rw [ht, Int.toNat_natCast]
    obtain ⟨s1, s2⟩ := hs
    rw [e3] at s1 s2
    rw [go_acc _ _ _ _ _ _ (by omega) (by omega), e3]
    refine sm_zero fun i hi => ?_
    by_cases h : i = t
    · subst h
      rw [nextN_one, e3, if_neg (by omega)]
      split
      · simp
      · rw [all_bad lot r (taken + i) hf' ht2 s2]; simp
    · unfold manyR
      rw [Nat.sub_self, C_zero 0 (t - i) (by omega)]; simp
/-- are the accepts less than the pieces that are taken by then, up to a stage -/
def strB (l : List S3) : Nat → Bool
  | 0 => true
  | i + 1 => strB l i && decide ((l.getD i (0, 0, 0)).2.1 < ((takeS (l.take (i + 1)) : Nat) : Int))
theorem strB_at {l : List S3} : ∀ {k : Nat}, strB l k = true → ∀ i, i < k → (l.getD i (0, 0, 0)).2.1 < ((takeS (l.take (i + 1)) : Nat) : Int)
  | 0, _, i, h => absurd h (Nat.not_lt_zero _)
  | k + 1, h, i, hi => by
    rw [strB, Bool.and_eq_true, decide_eq_true_eq] at h
    rcases Nat.lt_or_ge i k with h1 | h1
    · exact strB_at h.1 i h1
    · have : i = k := by omega
      subst this; exact h.2
theorem strict_of {l : List S3} (h : ∀ i, i < l.length → (l.getD i (0, 0, 0)).2.1 < ((takeS (l.take (i + 1)) : Nat) : Int)) : ∀ (r : List S3) (k : Nat), l.drop k = r → Strict (takeS (l.take k)) r
  | [], _, _ => trivial
  | s :: r, k, hk => by
    have hlt : k < l.length := by
      rcases Nat.lt_or_ge k l.length with h | h
      · exact h
      · rw [List.drop_of_length_le h] at hk; cases hk
    have hs : l[k]? = some s := by
      have h5 : (l.drop k)[0]? = some s := by rw [hk]; rfl
      rwa [List.getElem?_drop, Nat.add_zero] at h5
    have hk' : l.drop (k + 1) = r := by rw [← List.drop_drop, hk]; rfl
    have e : takeS (l.take (k + 1)) = takeS (l.take k) + s.1.toNat := by
      have hg : l[k] = s := (List.getElem?_eq_some_iff.1 hs).2
      rw [List.take_succ_eq_append_getElem hlt, takeS_append, hg]
      simp only [takeS, Nat.add_zero]
    have h1 := h k hlt
    rw [List.getD_eq_getElem?_getD, hs, e] at h1
    refine ⟨h1, ?_⟩
    have := strict_of h r (k + 1) hk'
    rwa [e] at this
theorem sh_chance {n b : Nat} {l : List S3} (hc : check n l = 0) (hb : b ≤ n) : sh (·.1) n l b = ((((goN n b l 0 0).1 / Nat.gcd (goN n b l 0 0).1 (goN n b l 0 0).2.2 : Nat) : Int), (((goN n b l 0 0).2.2 / Nat.gcd (goN n b l 0 0).1 (goN n b l 0 0).2.2 : Nat) : Int), 0) := by
  unfold sh
  rw [if_neg (by simp [hc]), if_neg (by omega), Int.toNat_natCast, Int.toNat_natCast]
/-- numerator and denominator of the chance -/
def chP (n : Nat) (l : List S3) (b : Nat) : Nat := (goN n b l 0 0).1 / Nat.gcd (goN n b l 0 0).1 (restN n 0 l)
def chQ (n : Nat) (l : List S3) (b : Nat) : Nat := restN n 0 l / Nat.gcd (goN n b l 0 0).1 (restN n 0 l)
theorem cross_le {a c R : Nat} (hR : 0 < R) (h : a ≤ c) : a / Nat.gcd a R * (R / Nat.gcd c R) ≤ c / Nat.gcd c R * (R / Nat.gcd a R) := by
  have g1 : 0 < Nat.gcd a R := Nat.gcd_pos_of_pos_right _ hR
  have g2 : 0 < Nat.gcd c R := Nat.gcd_pos_of_pos_right _ hR
  obtain ⟨a', ha⟩ := Nat.gcd_dvd_left a R
  obtain ⟨r1, hr1⟩ := Nat.gcd_dvd_right a R
  obtain ⟨c', hc⟩ := Nat.gcd_dvd_left c R
  obtain ⟨r2, hr2⟩ := Nat.gcd_dvd_right c R
  generalize Nat.gcd a R = x at g1 ha hr1
  generalize Nat.gcd c R = y at g2 hc hr2
  have e1 : a / x = a' := by rw [ha, Nat.mul_div_cancel_left _ g1]
  have e2 : c / y = c' := by rw [hc, Nat.mul_div_cancel_left _ g2]
  have e3 : R / x = r1 := by rw [hr1, Nat.mul_div_cancel_left _ g1]
  have e4 : R / y = r2 := by rw [hr2, Nat.mul_div_cancel_left _ g2]
  rw [e1, e2, e3, e4]
  -- a' * r2 ≤ c' * r1, as x * a' ≤ y * c', x * r1 = y * r2
  have h1 : x * a' * (y * r2) ≤ y * c' * (x * r1) := by
    rw [← ha, ← hc, ← hr1, ← hr2]; exact Nat.mul_le_mul_right _ h
  have h2 : (x * y) * (a' * r2) ≤ (x * y) * (c' * r1) := by
    have l1 : x * a' * (y * r2) = (x * y) * (a' * r2) := by ac_rfl
    have l2 : y * c' * (x * r1) = (x * y) * (c' * r1) := by ac_rfl
    rw [← l1, ← l2]; exact h1
  exact Nat.le_of_mul_le_mul_left h2 (Nat.mul_pos g1 g2)
theorem ch_facts {n : Nat} (hn : n ≤ 30) {l : List S3} (hl3 : l.length ≤ 3) (hf : Fit n 0 l) (he : Ends l) {b : Nat} (hb : b ≤ n) : 1 ≤ chQ n l b ∧ chP n l b ≤ chQ n l b ∧ (∀ c, c ≤ b → chP n l b * chQ n l c ≤ chP n l c * chQ n l b) := by
  have gp := rest_pos n l 0 hf
  obtain ⟨q1, q2, q3⟩ := go_facts n b l 0 0 hf he (by omega) (by omega) (by omega)
  refine ⟨div_gcd_pos gp, ?_, fun c hc => ?_⟩
  · have := div_gcd_ge (p := (goN n b l 0 0).1) (d := restN n 0 l) (t := 1) gp (by omega)
    unfold chP chQ; omega
  · have mono : ∀ k, c + k ≤ n → (goN n (c + k) l 0 0).1 ≤ (goN n c l 0 0).1 := by
      intro k
      induction k with
      | zero => intro _; exact Nat.le_refl _
      | succ k ih =>
        intro hk
        exact Nat.le_trans ((go_mono n l 0 hf he (Nat.zero_le _)).1 0 (c + k) (by omega) (by omega)) (ih (by omega))
    have := mono (b - c) (by omega)
    rw [show c + (b - c) = b by omega] at this
    exact cross_le gp this
attribute [local irreducible] Pure Bor Iter tri C memo goN check accR cntR restN chP chQ
theorem least_true {a b c d : Nat} (hb : 1 ≤ b) (hd : 1 ≤ d) (h : a * d ≤ c * b) : Pure Try.prog 28 [.agg [dI a, dI b], .agg [dI c, dI d]] (dB true) := by
  have f1 : decide ((b : Int) ≤ 0) = false := by rw [decide_eq_false_iff_not]; omega
  have f2 : decide ((d : Int) ≤ 0) = false := by rw [decide_eq_false_iff_not]; omega
  have f3 : decide ((b : Int) > 0) = true := by rw [decide_eq_true_eq]; omega
  have f4 : decide ((d : Int) > 0) = true := by rw [decide_eq_true_eq]; omega
  refine pure_of pg Try.func28 (by kernel_rfl) ?_
  ((conv => whnf); repeat (first | (refine ChL.l ?_; (conv => whnf)) | (refine ChC.r ?_; (conv => whnf))))
  (repeat' (first | (apply kT (by with_reducible first | rfl | assumption); ((conv => whnf); repeat (first | (refine ChL.l ?_; (conv => whnf)) | (refine ChC.r ?_; (conv => whnf))))) | (apply kF (by with_reducible first | rfl | assumption); ((conv => whnf); repeat (first | (refine ChL.l ?_; (conv => whnf)) | (refine ChC.r ?_; (conv => whnf))))) | (apply kT (by decide); ((conv => whnf); repeat (first | (refine ChL.l ?_; (conv => whnf)) | (refine ChC.r ?_; (conv => whnf))))) | (apply kF (by decide); ((conv => whnf); repeat (first | (refine ChL.l ?_; (conv => whnf)) | (refine ChC.r ?_; (conv => whnf))))) | (apply kB <;> intro _ <;> ((conv => whnf); repeat (first | (refine ChL.l ?_; (conv => whnf)) | (refine ChC.r ?_; (conv => whnf))))) | fail))
  all_goals first
    | (simp only [f4]; rfl)
    | skip
  all_goals
    rename_i h1 h2 h3 h4
    rw [decide_eq_false_iff_not] at h1 h2 h3 h4
    have m1 : a * d ≤ 1000000000 * 1000000000 := Nat.mul_le_mul (by omega) (by omega)
    have m2 : c * b ≤ 1000000000 * 1000000000 := Nat.mul_le_mul (by omega) (by omega)
    have w1 : IntKind.i64.wrap ((a : Int) * (d : Int)) = ((a * d : Nat) : Int) := by rw [← Int.natCast_mul, wrapI (by omega) (by omega)]
    have w2 : IntKind.i64.wrap ((c : Int) * (b : Int)) = ((c * b : Nat) : Int) := by rw [← Int.natCast_mul, wrapI (by omega) (by omega)]
    rw [w1, w2, decide_eq_true (by omega)]
    rfl
end Go.Ev.Ythmandhpmkfopaa
