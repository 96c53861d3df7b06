/-
  Contracts of functions, and plain laws, that lead to the statement. Written by an agent.
-/
import Derived.Test.YthmandhpmkfopaaLd
set_option linter.unusedVariables false
set_option linter.unusedSimpArgs false
set_option maxRecDepth 100000
namespace Go.Ev.Ythmandhpmkfopaa
open Go.Proofs
theorem C_tri : ∀ (b j k : Nat), C b j * C (b - j) k = C b (j + k) * C (j + k) j
  | b, 0, k => by rw [C_one, C_one, Nat.zero_add, Nat.one_mul, Nat.mul_one, Nat.sub_zero]
  | 0, j + 1, k => by rw [C_zero 0 (j + 1) (by omega), C_zero 0 (j + 1 + k) (by omega), Nat.zero_mul, Nat.zero_mul]
  | b + 1, j + 1, k => by
    -- (j + 1) C (b + 1) (j + 1) = (b + 1) C b j
    have h1 := C_mul b j
    have ih := C_tri b j k
    have h2 := C_mul b (j + k)
    have h3 := C_mul (j + k) j
    rw [show b + 1 - (j + 1) = b - j by omega, show j + 1 + k = j + k + 1 by omega]
    -- multiply by (j + 1)
    have l : C (b + 1) (j + 1) * C (b - j) k * (j + 1) = C (b + 1) (j + k + 1) * C (j + k + 1) (j + 1) * (j + 1) := by
      have e1 : C (b + 1) (j + 1) * C (b - j) k * (j + 1) = (C (b + 1) (j + 1) * (j + 1)) * C (b - j) k := by ac_rfl
      have e2 : C (b + 1) (j + k + 1) * C (j + k + 1) (j + 1) * (j + 1) = C (b + 1) (j + k + 1) * (C (j + k + 1) (j + 1) * (j + 1)) := by ac_rfl
      rw [e1, e2, h1, h3]
      have e3 : C b j * (b + 1) * C (b - j) k = (C b j * C (b - j) k) * (b + 1) := by ac_rfl
      have e4 : C (b + 1) (j + k + 1) * (C (j + k) j * (j + k + 1)) = (C (b + 1) (j + k + 1) * (j + k + 1)) * C (j + k) j := by ac_rfl
      rw [e3, e4, ih, h2]
      ac_rfl
    exact Nat.eq_of_mul_eq_mul_right (Nat.succ_pos j) l
theorem sm_swap (g : Nat → Nat → Nat) (n : Nat) : ∀ m, sm (fun i => sm (fun j => g i j) n) m = sm (fun j => sm (fun i => g i j) m) n
  | 0 => by rw [sm]; exact (sm_zero fun _ _ => rfl).symm
  | m + 1 => by rw [sm, sm_swap g n m, ← sm_add]; exact sm_congr fun j _ => rfl
def ind (p : Prop) [Decidable p] : Nat := if p then 1 else 0
theorem acc_one {n b t : Nat} {a : Int} (hb : b ≤ n) (ht : t ≤ n) : (goN n b (oneP t a) 0 0).1 = sm (fun i => C b i * C (n - b) (t - i) * ind ((i : Int) ≤ a)) (t + 1) := by
  rw [go_acc n b (t, a, a + 1) [] 0 0 (by omega) (by simp; omega)]
  simp only [Int.toNat_natCast, Nat.sub_zero]
  refine sm_congr fun i hi => ?_
  rw [nextN_one]
  unfold manyR ind
  simp only [Int.toNat_natCast, Nat.zero_add, restN]
  split
  · rfl
  · rw [if_pos (by show a + 1 ≤ (i : Int); omega)]
theorem acc_two {n b t f : Nat} {a : Int} (hb : b ≤ n) (hf : f ≤ t) (hf1 : 1 ≤ f) (ht : t ≤ n) :
    (goN n b [(f, -1, min ((f : Int) + 1) (a + 1)), ((t - f : Nat), a, a + 1)] 0 0).1 = (goN n b (oneP t a) 0 0).1 * C t f := by
  obtain ⟨m, hm⟩ : ∃ m, n - b = m := ⟨_, rfl⟩
  rw [acc_one hb ht, go_acc n b _ _ 0 0 (by omega) (by simp; omega)]
  simp only [Int.toNat_natCast, Nat.sub_zero, hm]
  -- the inner sums
  have inner : ∀ j, j < f + 1 → manyR n b f j * (nextN n b (f, -1, min ((f : Int) + 1) (a + 1)) [((t - f : Nat), a, a + 1)] 0 0 j).1 =
      sm (fun i => ind ((i : Int) ≤ a) * (C b i * C i j) * (C m (t - i) * C (t - i) (f - j))) (t + 1) := by
    intro j hj
    have hG : sm (fun i => ind ((i : Int) ≤ a) * (C b i * C i j) * (C m (t - i) * C (t - i) (f - j))) (t + 1) =
        sm (fun k => ind (((j + k : Nat) : Int) ≤ a) * (C b (j + k) * C (j + k) j) * (C m (t - (j + k)) * C (t - (j + k)) (f - j))) (t - f + 1) := by
      refine sm_mid (f := fun i => ind ((i : Int) ≤ a) * (C b i * C i j) * (C m (t - i) * C (t - i) (f - j))) (lo := j) (cnt := t - f + 1) (fun i hi => ?_) (fun i hi hit => ?_) (by omega)
      · rw [C_zero i j hi]; simp
      · rw [C_zero (t - i) (f - j) (by omega)]; simp
    rw [hG]
    unfold manyR
    rw [hm]
    rcases Nat.lt_or_ge b j with h1 | h1
    · rw [C_zero b j h1, Nat.zero_mul, Nat.zero_mul]
      refine (sm_zero fun k hk => ?_).symm
      rw [C_zero b (j + k) (by omega)]; simp
    · rcases Nat.lt_or_ge m (f - j) with h2 | h2
      · rw [C_zero m (f - j) h2, Nat.mul_zero, Nat.zero_mul]
        refine (sm_zero fun k hk => ?_).symm
        rw [C_zero m (t - (j + k)) (by omega)]; simp
      · have hin : (nextN n b (f, -1, min ((f : Int) + 1) (a + 1)) [((t - f : Nat), a, a + 1)] 0 0 j).1 =
            sm (fun k => C (b - j) k * C (m - (f - j)) (t - f - k) * ind (((j + k : Nat) : Int) ≤ a)) (t - f + 1) := by
          rw [nextN_one]
          simp only [Int.toNat_natCast, Nat.zero_add]
          rw [if_neg (by show ¬ ((j : Nat) : Int) ≤ -1; omega)]
          split
          · rename_i h3
            have h3 : min ((f : Int) + 1) (a + 1) ≤ (j : Int) := h3
            refine (sm_zero fun k hk => ?_).symm
            unfold ind
            rw [if_neg (by omega), Nat.mul_zero]
          · rw [go_acc n b _ _ f j (by omega) (by simp; omega)]
            simp only [Int.toNat_natCast]
            refine sm_congr fun k hk => ?_
            rw [nextN_one]
            unfold manyR ind
            simp only [Int.toNat_natCast, restN]
            rw [show n - f - (b - j) = m - (f - j) by omega]
            split
            · rfl
            · rw [if_pos (by show a + 1 ≤ ((j + k : Nat) : Int); omega)]
        rw [hin, Nat.mul_comm, ← sm_mul]
        refine sm_congr fun k hk => ?_
        have e1 := C_tri b j k
        have e2 := C_tri m (f - j) (t - f - k)
        rw [show f - j + (t - f - k) = t - (j + k) by omega] at e2
        rw [← e1, ← e2]
        ac_rfl
  rw [sm_congr inner, sm_swap, ← sm_mul]
  refine sm_congr fun i hi => ?_
  have hv := vander (t - i) i f
  rw [show i + (t - i) = t by omega] at hv
  rw [← hv, Nat.mul_comm _ (sm _ _), ← sm_mul]
  refine sm_congr fun j hj => ?_
  ac_rfl
theorem same_chance {A R c : Nat} (hc : 0 < c) (hR : 0 < R) : A * c / Nat.gcd (A * c) (R * c) = A / Nat.gcd A R ∧ R * c / Nat.gcd (A * c) (R * c) = R / Nat.gcd A R := by
  rw [Nat.gcd_mul_right]
  exact ⟨Nat.mul_div_mul_right _ _ hc, Nat.mul_div_mul_right _ _ hc⟩
theorem check_one {n t : Nat} {a : Int} (hn1 : 1 ≤ n) (hn : n ≤ 30) (ht1 : 1 ≤ t) (ht : t ≤ n) (ha1 : -1 ≤ a) (ha2 : a ≤ t) : check n (oneP t a) = 0 := by
  have w1 : wI ((n : Int) - 0) = n := (wrapI (by omega) (by omega)).trans (by omega)
  have w2 : wI (0 + (t : Int)) = t := (wrapI (by omega) (by omega)).trans (by omega)
  have w3 : wI (a + 1) = a + 1 := wrapI (by omega) (by omega)
  have w4 : wI ((t : Int) + 1) = t + 1 := wrapI (by omega) (by omega)
  unfold check
  rw [if_neg (by simp), if_neg (by simp; omega)]
  simp only [chk, w1, w2, w3, w4]
  rw [if_neg (by omega), if_neg (by omega), if_neg (by omega)]
theorem check_two {n t f : Nat} {a : Int} (hn1 : 1 ≤ n) (hn : n ≤ 30) (hf1 : 1 ≤ f) (hft : f < t) (ht : t ≤ n) (ha1 : -1 ≤ a) (ha2 : a ≤ t) : check n [(f, -1, min ((f : Int) + 1) (a + 1)), ((t - f : Nat), a, a + 1)] = 0 := by
  have w1 : wI ((n : Int) - 0) = n := (wrapI (by omega) (by omega)).trans (by omega)
  have w2 : wI (0 + (f : Int)) = f := (wrapI (by omega) (by omega)).trans (by omega)
  have w3 : wI (a + 1) = a + 1 := wrapI (by omega) (by omega)
  have w4 : wI ((f : Int) + 1) = f + 1 := wrapI (by omega) (by omega)
  have w5 : wI (-1 + 1) = 0 := by decide
  have w6 : wI ((n : Int) - f) = n - f := wrapI (by omega) (by omega)
  have w7 : wI ((f : Int) + ((t - f : Nat) : Int)) = t := (wrapI (by omega) (by omega)).trans (by omega)
  have w8 : wI ((t : Int) + 1) = t + 1 := wrapI (by omega) (by omega)
  unfold check
  rw [if_neg (by simp), if_neg (by simp; omega)]
  simp only [chk, w1, w2, w3, w4, w5, w6, w7, w8]
  rw [if_neg (by omega), if_neg (by omega), if_neg (by omega), if_neg (by omega), if_neg (by omega)]
end Go.Ev.Ythmandhpmkfopaa

set_option linter.unusedVariables false
set_option linter.unusedSimpArgs false
set_option maxRecDepth 100000
namespace Go.Ev.Ythmandhpmkfopaa
open Go.Proofs
attribute [local irreducible] Pure Bor Iter tri C memo goN check accR cntR restN chP chQ
abbrev rN (lot : Int) : Int := IntKind.i64.wrap (2 + (IntKind.i64.wrap lot).tmod 29)
abbrev rT (lot take : Int) : Int := IntKind.i64.wrap (2 + (IntKind.i64.wrap take).tmod (IntKind.i64.wrap (rN lot - 1)))
abbrev rA (lot take acc : Int) : Int := IntKind.i64.wrap ((IntKind.i64.wrap acc).tmod (IntKind.i64.wrap (rT lot take + 2)) - 1)
abbrev rF (lot take first : Int) : Int := IntKind.i64.wrap (1 + (IntKind.i64.wrap first).tmod (IntKind.i64.wrap (rT lot take - 1)))
abbrev rB (lot bad : Int) : Int := (IntKind.i64.wrap bad).tmod (IntKind.i64.wrap (rN lot + 1))
theorem check_goodN {n : Nat} {l : List S3} (hr : ∀ x ∈ l, InS x) (h : check n l = 0) : Fit n 0 l ∧ Ends l := by
  obtain ⟨m, e, _, _, _, hf, he⟩ := check_good hr h
  have : m = n := by omega
  subst this
  exact ⟨hf, he⟩
theorem u8_mod {x : Int} (hx : 0 ≤ x ∧ x ≤ 255) {m : Nat} (hm : 1 ≤ m) : ∃ r : Nat, (IntKind.i64.wrap x).tmod (m : Int) = r ∧ r < m := by
  have w : IntKind.i64.wrap x = x := wrapI (by omega) (by omega)
  rw [w, Int.tmod_eq_emod_of_nonneg hx.1]
  have h1 := Int.emod_nonneg x (b := (m : Int)) (by omega)
  have h2 := Int.emod_lt_of_pos x (b := (m : Int)) (by omega)
  exact ⟨(x % (m : Int)).toNat, by omega, by omega⟩
theorem split_pure (lot take acc first bad : Int) (h1 : 0 ≤ lot ∧ lot ≤ 255) (h2 : 0 ≤ take ∧ take ≤ 255) (h3 : 0 ≤ acc ∧ acc ≤ 255) (h4 : 0 ≤ first ∧ first ≤ 255) (h5 : 0 ≤ bad ∧ bad ≤ 255) :
    Pure Try.prog 10 [dU lot, dU take, dU acc, dU first, dU bad] (dB true) := by
  obtain ⟨n, hn, hn1, hn2⟩ : ∃ n : Nat, rN lot = n ∧ 2 ≤ n ∧ n ≤ 30 := by
    obtain ⟨r, e, hr⟩ := u8_mod h1 (m := 29) (by omega)
    have e : (IntKind.i64.wrap lot).tmod 29 = r := e
    exact ⟨2 + r, by unfold rN; rw [e]; exact (wrapI (by omega) (by omega)).trans (by omega), by omega, by omega⟩
  have hn' : IntKind.i64.wrap (rN lot - 1) = ((n - 1 : Nat) : Int) := by rw [hn]; exact (wrapI (by omega) (by omega)).trans (by omega)
  obtain ⟨t, ht, ht1, ht2⟩ : ∃ t : Nat, rT lot take = t ∧ 2 ≤ t ∧ t ≤ n := by
    obtain ⟨r, e, hr⟩ := u8_mod h2 (m := n - 1) (by omega)
    exact ⟨2 + r, by unfold rT; rw [hn', e]; exact (wrapI (by omega) (by omega)).trans (by omega), by omega, by omega⟩
  have ht' : IntKind.i64.wrap (rT lot take + 2) = ((t + 2 : Nat) : Int) := by rw [ht]; exact (wrapI (by omega) (by omega)).trans (by omega)
  have ht'' : IntKind.i64.wrap (rT lot take - 1) = ((t - 1 : Nat) : Int) := by rw [ht]; exact (wrapI (by omega) (by omega)).trans (by omega)
  obtain ⟨a, ha, ha1, ha2⟩ : ∃ a : Int, rA lot take acc = a ∧ -1 ≤ a ∧ a ≤ t := by
    obtain ⟨r, e, hr⟩ := u8_mod h3 (m := t + 2) (by omega)
    exact ⟨r - 1, by unfold rA; rw [ht', e]; exact wrapI (by omega) (by omega), by omega, by omega⟩
  obtain ⟨f, hf, hf1, hf2⟩ : ∃ f : Nat, rF lot take first = f ∧ 1 ≤ f ∧ f < t := by
    obtain ⟨r, e, hr⟩ := u8_mod h4 (m := t - 1) (by omega)
    exact ⟨1 + r, by unfold rF; rw [ht'', e]; exact (wrapI (by omega) (by omega)).trans (by omega), by omega, by omega⟩
  have hn'' : IntKind.i64.wrap (rN lot + 1) = ((n + 1 : Nat) : Int) := by rw [hn]; exact (wrapI (by omega) (by omega)).trans (by omega)
  obtain ⟨b, hb, hbn⟩ : ∃ b : Nat, rB lot bad = b ∧ b < n + 1 := by
    obtain ⟨r, e, hr⟩ := u8_mod h5 (m := n + 1) (by omega)
    exact ⟨r, by unfold rB; rw [hn'', e], hr⟩
  have k1 := check_one (n := n) (t := t) (a := a) (by omega) hn2 (by omega) ht2 ha1 ha2
  have k2 := check_two (n := n) (t := t) (f := f) (a := a) (by omega) hn2 hf1 hf2 ht2 ha1 ha2
  have i1 : ∀ x ∈ oneP (t : Int) a, InS x := by intro x hx; simp at hx; subst hx; refine ⟨?_, ?_, ?_⟩ <;> unfold InR <;> dsimp only <;> omega
  have i2 : ∀ x ∈ [((f : Int), (-1 : Int), min ((f : Int) + 1) (a + 1)), (((t - f : Nat) : Int), a, a + 1)], InS x := by
    intro x hx; simp at hx
    rcases hx with rfl | rfl <;> refine ⟨?_, ?_, ?_⟩ <;> unfold InR <;> dsimp only <;> omega
  have c1 := chance_pure n (oneP (t : Int) a) (by simp) i1 b
  have c2 := chance_pure n [((f : Int), (-1 : Int), min ((f : Int) + 1) (a + 1)), (((t - f : Nat) : Int), a, a + 1)] (by simp) i2 b
  obtain ⟨hf1', he1⟩ := check_goodN i1 k1
  obtain ⟨hf2', he2⟩ := check_goodN i2 k2
  have q : sh (·.1) n (oneP (t : Int) a) b = sh (·.1) n [((f : Int), (-1 : Int), min ((f : Int) + 1) (a + 1)), (((t - f : Nat) : Int), a, a + 1)] b := by
    obtain ⟨q1, _, _⟩ := go_facts n b _ 0 0 hf1' he1 (by omega) (by omega) (by omega)
    obtain ⟨q2, _, _⟩ := go_facts n b _ 0 0 hf2' he2 (by omega) (by omega) (by omega)
    have gp := rest_pos n _ 0 hf1'
    have r2 : restN n 0 [((f : Int), (-1 : Int), min ((f : Int) + 1) (a + 1)), (((t - f : Nat) : Int), a, a + 1)] = restN n 0 (oneP (t : Int) a) * C t f := by
      have := C_tri n f (t - f)
      rw [show f + (t - f) = t by omega] at this
      unfold restN
      unfold restN
      unfold restN
      simp only [Int.toNat_natCast, Nat.sub_zero, Nat.zero_add, Nat.mul_one]
      exact this
    rw [sh_chance k1 (by omega), sh_chance k2 (by omega), q1, q2, acc_two (by omega) (by omega) hf1 ht2, r2]
    obtain ⟨s1, s2⟩ := same_chance (A := (goN n b (oneP t a) 0 0).1) (R := restN n 0 (oneP (t : Int) a)) (C_pos t f (by omega)) gp
    rw [s1, s2]
  rw [← q] at c2
  have hz : (sh (·.1) n (oneP (t : Int) a) b).2.2 = 0 := by rw [sh_chance k1 (by omega)]
  generalize sh (·.1) n (oneP (t : Int) a) b = x at c1 c2 hz
  have w1 : IntKind.i64.wrap (rA lot take acc + 1) = a + 1 := by rw [ha]; exact wrapI (by omega) (by omega)
  have w2 : IntKind.i64.wrap (rF lot take first + 1) = (f : Int) + 1 := by rw [hf]; exact wrapI (by omega) (by omega)
  have w3 : IntKind.i64.wrap (rT lot take - rF lot take first) = ((t - f : Nat) : Int) := by rw [ht, hf]; exact (wrapI (by omega) (by omega)).trans (by omega)
  have d1 : Pure Try.prog 18 [.agg [dI (rN lot), .seq [[dI (rT lot take), dI (rA lot take acc), dI (IntKind.i64.wrap (rA lot take acc + 1))]]], dI (rB lot bad)] (shD x) := by
    rw [w1, ha, ht, hn, hb]; exact c1
  have d2 : Pure Try.prog 18 [.agg [dI (rN lot), .seq [[dI (rF lot take first), dI (-1), dI (min (IntKind.i64.wrap (rF lot take first + 1)) (IntKind.i64.wrap (rA lot take acc + 1)))], [dI (IntKind.i64.wrap (rT lot take - rF lot take first)), dI (rA lot take acc), dI (IntKind.i64.wrap (rA lot take acc + 1))]]], dI (rB lot bad)] (shD x) := by
    rw [w1, w2, w3, ha, hf, hn, hb]; exact c2
  have z1 : IntKind.i64.wrap (rN lot - 1) ≠ 0 := by rw [hn']; omega
  have z2 : IntKind.i64.wrap (rT lot take + 2) ≠ 0 := by rw [ht']; omega
  have z3 : IntKind.i64.wrap (rT lot take - 1) ≠ 0 := by rw [ht'']; omega
  have z4 : IntKind.i64.wrap (rN lot + 1) ≠ 0 := by rw [hn'']; omega
  have g1 : (x.2.2 == 0) = true := by rw [hz]; rfl
  have g2 : (x.1 == x.1 && (x.2.1 == x.2.1 && true)) = true := by simp
  refine pure_of pg Try.func10 (by kernel_rfl) ?_
  conv => whnf
  (refine ⟨by decide, ?_⟩; conv => whnf)
  (refine ⟨z1, ?_⟩; conv => whnf)
  (refine ⟨z2, ?_⟩; conv => whnf)
  (refine ⟨z3, ?_⟩; conv => whnf)
  (refine ⟨z4, ?_⟩; conv => whnf)
  (refine .inl ⟨_, d1, ?_⟩; conv => whnf)
  (refine ⟨z4, ?_⟩; conv => whnf)
  (refine .inl ⟨_, d2, ?_⟩; conv => whnf)
  (repeat' (first | (apply kT (by with_reducible first | rfl | assumption); conv => whnf) | (apply kF (by with_reducible first | rfl | assumption); conv => whnf) | (apply kT (by decide); conv => whnf) | (apply kF (by decide); conv => whnf) | (apply kB <;> intro _ <;> conv => whnf) | (refine .inl ⟨_, wakes_pure, ?_⟩; conv => whnf) | fail))
  all_goals rfl
end Go.Ev.Ythmandhpmkfopaa
