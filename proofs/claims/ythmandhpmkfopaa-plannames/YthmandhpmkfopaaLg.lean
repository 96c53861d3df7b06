/-
  Contracts of functions, and plain laws, that lead to the statement. Written by an agent.
-/
import Derived.Test.YthmandhpmkfopaaLf
set_option linter.unusedVariables false
set_option linter.unusedSimpArgs false
set_option maxRecDepth 100000
namespace Go.Ev.Ythmandhpmkfopaa
open Go.Proofs
attribute [local irreducible] Pure Bor Iter tri C memo goN check keptS
theorem mem_rngK {x : Int} : ∀ {k : Nat} {a : Int}, x ∈ rngK k a ↔ a ≤ x ∧ x < a + k
  | 0, a => by rw [rngK_zero]; simp
  | k + 1, a => by rw [rngK_succ, List.mem_cons, mem_rngK (k := k)]; omega
/-- all plans of two stages -/
def allD (n : Nat) : List (List S3) :=
  (takes1 n).flatMap fun t => (accepts t).flatMap fun a => (rejects t a).flatMap fun r => (mores n t).flatMap fun m => (lasts t a r m).map (twoP t a r m)
theorem see_all (n : Nat) (d : S4) (b : BS) : see1 n d (takes1 n) b = (allD n).foldl (seeB n d) b := by
  have e5 : ∀ t a r m l b, see5 n d t a r m l b = (l.map (twoP t a r m)).foldl (seeB n d) b := fun t a r m l b => by unfold see5; rw [List.foldl_map]
  have e4 : ∀ t a r l b, see4 n d t a r l b = (l.flatMap fun m => (lasts t a r m).map (twoP t a r m)).foldl (seeB n d) b := fun t a r l b => by unfold see4; rw [List.foldl_flatMap]; simp only [e5]
  have e3 : ∀ t a l b, see3 n d t a l b = (l.flatMap fun r => (mores n t).flatMap fun m => (lasts t a r m).map (twoP t a r m)).foldl (seeB n d) b := fun t a l b => by unfold see3; rw [List.foldl_flatMap]; simp only [e4]
  have e2 : ∀ t l b, see2 n d t l b = (l.flatMap fun a => (rejects t a).flatMap fun r => (mores n t).flatMap fun m => (lasts t a r m).map (twoP t a r m)).foldl (seeB n d) b := fun t l b => by unfold see2; rw [List.foldl_flatMap]; simp only [e3]
  unfold see1 allD
  rw [List.foldl_flatMap]
  simp only [e2]
/-- the plans that are looked at -/
def En (n : Nat) (l : List S3) : Prop := ∃ t a r m last : Int, l = twoP t a r m last ∧ 1 ≤ t ∧ t < n ∧ -1 ≤ a ∧ a ≤ t ∧ a + 1 ≤ r ∧ r ≤ t + 1 ∧ 1 ≤ m ∧ m ≤ n - t ∧ a ≤ last ∧ r - 1 ≤ last ∧ last ≤ t + m
theorem mem_allD {n : Nat} {l : List S3} : l ∈ allD n ↔ En n l := by
  unfold allD takes1 accepts rejects mores lasts En
  simp only [List.mem_flatMap, List.mem_map, mem_rngK]
  constructor
  · rintro ⟨t, ht, a, ha, r, hr, m, hm, last, hl, rfl⟩
    exact ⟨t, a, r, m, last, rfl, by omega, by omega, by omega, by omega, by omega, by omega, by omega, by omega, by omega, by omega, by omega⟩
  · rintro ⟨t, a, r, m, last, rfl, h1, h2, h3, h4, h5, h6, h7, h8, h9, h10, h11⟩
    exact ⟨t, by omega, a, by omega, r, by omega, m, by omega, last, by omega, rfl⟩
theorem En.fit {n : Nat} {l : List S3} (h : En n l) : Fit n 0 l ∧ Ends l := by
  obtain ⟨t, a, r, m, last, rfl, h1, h2, h3, h4, h5, h6, h7, h8, h9, h10, h11⟩ := h
  exact two_fit h1 h7 (by omega)
theorem En.check {n : Nat} {l : List S3} (hn : n ≤ 30) (h : En n l) : check n l = 0 := by
  obtain ⟨t, a, r, m, last, rfl, h1, h2, h3, h4, h5, h6, h7, h8, h9, h10, h11⟩ := h
  have w1 : wI ((n : Int) - 0) = n := (wrapI (by omega) (by omega)).trans (by omega)
  have w2 : wI (0 + t) = t := (wrapI (by omega) (by omega)).trans (by omega)
  have w3 : wI (a + 1) = a + 1 := wrapI (by omega) (by omega)
  have w4 : wI (t + 1) = t + 1 := wrapI (by omega) (by omega)
  have w5 : wI (last + 1) = last + 1 := wrapI (by omega) (by omega)
  have w6 : wI ((n : Int) - t) = n - t := wrapI (by omega) (by omega)
  have w7 : wI (t + m) = t + m := wrapI (by omega) (by omega)
  have w8 : wI (t + m + 1) = t + m + 1 := wrapI (by omega) (by omega)
  unfold Go.Ev.Ythmandhpmkfopaa.check
  rw [if_neg (by simp), if_neg (by simp; omega)]
  simp only [chk, w1, w2, w3, w4, w5, w6, w7, w8]
  rw [if_neg (by omega), if_neg (by omega), if_neg (by omega), if_neg (by omega), if_neg (by simp)]
theorem En.ins {n : Nat} {l : List S3} (hn : n ≤ 30) (h : En n l) : ∀ x ∈ l, InS x := by
  obtain ⟨t, a, r, m, last, rfl, h1, h2, h3, h4, h5, h6, h7, h8, h9, h10, h11⟩ := h
  intro x hx; simp at hx
  rcases hx with rfl | rfl <;> refine ⟨?_, ?_, ?_⟩ <;> unfold InR <;> dsimp only <;> omega
theorem En.len {n : Nat} {l : List S3} (h : En n l) : l.length = 2 := by
  obtain ⟨t, a, r, m, last, rfl, _⟩ := h; rfl
theorem en_of {n : Nat} (hn : n ≤ 30) {l : List S3} (hl : l.length = 2) (hi : ∀ x ∈ l, InS x) (hc : check n l = 0) : En n l := by
  have hg := good_of hn hi hc
  obtain ⟨_, he⟩ := check_goodN hi hc
  match l, hl with
  | [s1, s2], _ =>
    obtain ⟨t, g1, g2, g3, g4, g5, g6, g7, t2, k1, k2, k3, k4, k5, k6, k7, _⟩ := hg
    have he : s2.2.2 = s2.2.1 + 1 := he
    clear hi hc
    obtain ⟨a1, a2, a3⟩ := s1
    obtain ⟨b1, b2, b3⟩ := s2
    dsimp only at *
    have he : b3 = b2 + 1 := he
    subst g1 k1
    exact ⟨t, a2, a3, t2, b2, by rw [show b3 = b2 + 1 from he], by omega, by omega, by omega, by omega, by omega, by omega, by omega, by omega, by omega, by omega, by omega⟩
/-- What is known of the best plan among some. -/
def BestOf (n : Nat) (d : S4) (S : List S3 → Prop) (b : BS) : Prop :=
  (b = bs0 ∧ ∀ l, S l → keptL n l d = false) ∨
  (b.1.1 = n ∧ S b.1.2 ∧ keptL n b.1.2 d = true ∧ b.2 = goN n d.1.toNat b.1.2 0 0 ∧ ∀ l, S l → keptL n l d = true → (goN n d.1.toNat b.1.2 0 0).2.1 * restN n 0 l ≤ (goN n d.1.toNat l 0 0).2.1 * restN n 0 b.1.2)
theorem less_iff {n g : Nat} (hn : n ≤ 10) {l x : List S3} (hl : En n l) (hx : En n x) (hg : g ≤ n) :
    lessB (goN n g l 0 0) (goN n g x 0 0) = decide ((goN n g l 0 0).2.1 * restN n 0 x < (goN n g x 0 0).2.1 * restN n 0 l) := by
  have key : ∀ y, En n y → (goN n g y 0 0).2.2 = restN n 0 y ∧ restN n 0 y ≤ 19683 ∧ (goN n g y 0 0).2.1 ≤ 196830 := by
    intro y hy
    obtain ⟨hf, he⟩ := hy.fit
    obtain ⟨q1, _, q3⟩ := go_facts n g y 0 0 hf he (by omega) (by omega) (by omega)
    have h1 := rest_le n y 0 hf
    rw [hy.len] at h1
    have h2 : restN n 0 y ≤ 19683 := Nat.le_trans h1 (Nat.le_trans (Nat.pow_le_pow_right (by omega) (by omega : n - 0 - 1 ≤ 9)) (by decide))
    refine ⟨q1, h2, Nat.le_trans q3 ?_⟩
    exact Nat.le_trans (Nat.mul_le_mul hn h2) (by decide)
  obtain ⟨a1, a2, a3⟩ := key l hl
  obtain ⟨b1, b2, b3⟩ := key x hx
  unfold lessB
  rw [a1, b1]
  have m1 : (goN n g l 0 0).2.1 * restN n 0 x ≤ 196830 * 19683 := Nat.mul_le_mul a3 b2
  have m2 : (goN n g x 0 0).2.1 * restN n 0 l ≤ 196830 * 19683 := Nat.mul_le_mul b3 a2
  rw [show wI ((goN n g l 0 0).2.1 : Int) = (goN n g l 0 0).2.1 from wrapI (by omega) (by omega), show wI ((goN n g x 0 0).2.1 : Int) = (goN n g x 0 0).2.1 from wrapI (by omega) (by omega), mul_wn, mul_wn]
  generalize (goN n g l 0 0).2.1 * restN n 0 x = p at *
  generalize (goN n g x 0 0).2.1 * restN n 0 l = q at *
  rw [show wI (p : Int) = p from wrapI (by omega) (by omega), show wI (q : Int) = q from wrapI (by omega) (by omega)]
  simp
theorem best_step {n : Nat} (h1n : 1 ≤ n) (hn : n ≤ 10) {d : S4} (hd : Dem d) (hb : d.2.1 ≤ n) {S : List S3 → Prop} (hS : ∀ x, S x → En n x) {b : BS} (h : BestOf n d S b) {l : List S3} (hl : En n l) :
    BestOf n d (fun x => S x ∨ x = l) (seeB n d b l) := by
  obtain ⟨k1, k2, k3, k4, k5, k6, k7⟩ := hd
  have hg : d.1.toNat ≤ n := by omega
  have hpos : ∀ y, En n y → 0 < restN n 0 y := fun y hy => rest_pos n y 0 hy.fit.1
  have hk : seeB n d b l = if keptL n l d = false then b else if b.1.1 = 0 ∨ lessB (goN n d.1.toNat l 0 0) b.2 = true then ((n, l), goN n d.1.toNat l 0 0) else b := by unfold seeB keptL; rfl
  rw [hk]
  by_cases h1 : keptL n l d = false
  · rw [if_pos h1]
    rcases h with ⟨rfl, h⟩ | ⟨g1, g2, g3, g4, g5⟩
    · refine .inl ⟨rfl, fun x hx => ?_⟩
      rcases hx with hx | rfl
      · exact h x hx
      · exact h1
    · refine .inr ⟨g1, .inl g2, g3, g4, fun x hx hkx => ?_⟩
      rcases hx with hx | rfl
      · exact g5 x hx hkx
      · rw [h1] at hkx; cases hkx
  · rw [if_neg h1]
    have h1 : keptL n l d = true := by simpa using h1
    rcases h with ⟨rfl, h⟩ | ⟨g1, g2, g3, g4, g5⟩
    · rw [if_pos (.inl rfl)]
      refine .inr ⟨rfl, .inr rfl, h1, rfl, fun x hx hkx => ?_⟩
      rcases hx with hx | rfl
      · rw [h x hx] at hkx; cases hkx
      · exact Nat.le_refl _
    · rw [g4, less_iff hn hl (hS _ g2) hg]
      generalize hP : (goN n d.1.toNat b.1.2 0 0).2.1 = P at *
      generalize hQ : (goN n d.1.toNat l 0 0).2.1 = Q at *
      have r1 := hpos _ (hS _ g2)
      have r2 := hpos _ hl
      by_cases h2 : Q * restN n 0 b.1.2 < P * restN n 0 l
      · rw [if_pos (.inr (by simpa using h2))]
        refine .inr ⟨rfl, .inr rfl, h1, rfl, fun x hx hkx => ?_⟩
        rcases hx with hx | rfl
        · have h3 := g5 x hx hkx
          rw [hQ]
          show Q * restN n 0 x ≤ (goN n d.1.toNat x 0 0).2.1 * restN n 0 l
          refine Nat.le_of_mul_le_mul_right (c := restN n 0 b.1.2) ?_ r1
          have e1 := Nat.mul_le_mul_right (restN n 0 x) (Nat.le_of_lt h2)
          have e2 := Nat.mul_le_mul_right (restN n 0 l) h3
          calc Q * restN n 0 x * restN n 0 b.1.2 = Q * restN n 0 b.1.2 * restN n 0 x := by ac_rfl
            _ ≤ P * restN n 0 l * restN n 0 x := e1
            _ = P * restN n 0 x * restN n 0 l := by ac_rfl
            _ ≤ _ := e2
            _ = _ := by ac_rfl
        · exact Nat.le_refl _
      · rw [if_neg (by rw [g1]; simp; omega)]
        refine .inr ⟨g1, .inl g2, g3, g4, fun x hx hkx => ?_⟩
        rcases hx with hx | rfl
        · rw [hP]; exact g5 x hx hkx
        · rw [hP, hQ]; omega
theorem best_fold {n : Nat} (h1n : 1 ≤ n) (hn : n ≤ 10) {d : S4} (hd : Dem d) (hb : d.2.1 ≤ n) : ∀ (xs : List (List S3)) (S : List S3 → Prop) (b : BS), (∀ x, S x → En n x) → (∀ x ∈ xs, En n x) → BestOf n d S b → BestOf n d (fun x => S x ∨ x ∈ xs) (xs.foldl (seeB n d) b)
  | [], S, b, _, _, h => by
    have e : (fun x => S x ∨ x ∈ ([] : List (List S3))) = S := by funext x; simp
    rw [e]; exact h
  | y :: ys, S, b, hS, hx, h => by
    have hy := hx y (by simp)
    have := best_fold h1n hn hd hb ys (fun x => S x ∨ x = y) _ (fun x h => h.elim (hS x) (fun e => e ▸ hy)) (fun x h => hx x (by simp [h])) (best_step h1n hn hd hb hS h hy)
    have e : (fun x => S x ∨ x ∈ y :: ys) = fun x => (S x ∨ x = y) ∨ x ∈ ys := by funext x; simp [or_assoc]
    rw [e]; exact this
theorem best_all {n : Nat} (h1n : 1 ≤ n) (hn : n ≤ 10) {d : S4} (hd : Dem d) (hb : d.2.1 ≤ n) : BestOf n d (En n) (see1 n d (takes1 n) bs0) := by
  have h := best_fold h1n hn hd hb (allD n) (fun _ => False) bs0 (fun x h => h.elim) (fun x h => mem_allD.1 h) (.inl ⟨rfl, fun l h => h.elim⟩)
  rw [see_all]
  have e : (fun x => False ∨ x ∈ allD n) = En n := by funext x; simp [mem_allD]
  rw [e] at h; exact h
end Go.Ev.Ythmandhpmkfopaa

set_option linter.unusedVariables false
set_option linter.unusedSimpArgs false
set_option maxRecDepth 100000
namespace Go.Ev.Ythmandhpmkfopaa
open Go.Proofs
/-- all pieces are taken, and not more bad ones than Good are accepted: that keeps each demand -/
theorem kept_full {n : Nat} (h1n : 1 ≤ n) (hn : n ≤ 30) {d : S4} (hd : Dem d) (hb : d.2.1 ≤ n) : keptS n d n d.1 = true := by
  have hfe := one_fit (n := n) (take := n) (accept := d.1) h1n (Nat.le_refl _)
  rw [keptS_eq, keptL_plain hn (by simp) hfe.1 hfe.2 hd hb]
  obtain ⟨k1, k2, k3, k4, k5, k6, k7⟩ := hd
  have acc : ∀ b : Nat, b ≤ n → (goN n b (oneP n d.1) 0 0).1 = if (b : Int) ≤ d.1 then 1 else 0 := by
    intro b hb
    have e1 : (oneP (n : Int) d.1) = [((n : Int), d.1, d.1 + 1)] := rfl
    rw [e1, goN]
    simp only [Int.toNat_natCast]
    have l1 : lowN (n - 0) (b - 0) n = b := by unfold lowN; omega
    have l2 : cntN (n - 0) (b - 0) n = 1 := by unfold cntN; rw [l1]; omega
    have l3 : manyN (n - 0) (b - 0) n b = 1 := by
      unfold manyN
      rw [show b - 0 = b by omega, show n - 0 - b = n - b by omega, C_self, C_self]
    rw [l1, l2]
    simp only [List.range'_one, List.foldl_cons, List.foldl_nil, l3]
    simp only [restN, addN, mulN, Nat.zero_add]
    by_cases hc : (b : Int) ≤ d.1
    · rw [if_pos hc, if_pos hc]; rfl
    · rw [if_neg hc, if_neg hc, if_pos (by omega)]; rfl
  have hR : restN n 0 (oneP n d.1) = 1 := by
    simp only [restN, Int.toNat_natCast, Nat.sub_zero, C_self]
  rw [hR, acc _ (by omega), acc _ (by omega), if_pos (by omega), if_neg (by omega)]
  unfold keptN
  simp
theorem singleA_spec {n : Nat} {d : S4} {take : Nat} : ∀ (j : Nat) (acc : Int),
    (∃ a, singleA n d take j acc = some a ∧ acc ≤ a ∧ a < acc + j ∧ keptS n d take a = true) ∨ (singleA n d take j acc = none ∧ ∀ a, acc ≤ a → a < acc + j → keptS n d take a = false)
  | 0, acc => .inr ⟨singleA_zero .., fun a h1 h2 => by omega⟩
  | j + 1, acc => by
    rw [singleA_succ]
    cases hk : keptS n d take acc with
    | true => exact .inl ⟨acc, by simp, by omega, by omega, hk⟩
    | false =>
      rcases singleA_spec (n := n) (d := d) (take := take) j (acc + 1) with ⟨a, h1, h2, h3, h4⟩ | ⟨h1, h2⟩
      · exact .inl ⟨a, by simp [h1], by omega, by omega, h4⟩
      · refine .inr ⟨by simp [h1], fun a h3 h4 => ?_⟩
        by_cases e : a = acc
        · rw [e]; exact hk
        · exact h2 a (by omega) (by omega)
theorem singleN_spec {n : Nat} (h1n : 1 ≤ n) (hn : n ≤ 30) {d : S4} (hd : Dem d) (hb : d.2.1 ≤ n) : ∀ (k take : Nat), take + k = n + 1 → 1 ≤ take → take ≤ n →
    keptS n d (singleN n d k take).1 (singleN n d k take).2 = true ∧ take ≤ (singleN n d k take).1 ∧ (singleN n d k take).1 ≤ n ∧ -1 ≤ (singleN n d k take).2 ∧ (singleN n d k take).2 ≤ (singleN n d k take).1 ∧
    ∀ t, take ≤ t → t < (singleN n d k take).1 → ∀ a : Int, -1 ≤ a → a ≤ t → keptS n d t a = false
  | 0, take, h, _, h2 => by omega
  | k + 1, take, h, h1, h2 => by
    rw [singleN_succ]
    rcases singleA_spec (n := n) (d := d) (take := take) (take + 2) (-1) with ⟨a, e1, e2, e3, e4⟩ | ⟨e1, e2⟩
    · rw [e1]
      exact ⟨e4, Nat.le_refl _, h2, e2, by show a ≤ (take : Int); omega, fun t h3 h4 => by dsimp only at h4; omega⟩
    · rw [e1]
      dsimp only
      by_cases hl : take = n
      · exfalso
        have := e2 d.1 (by have := hd.1; omega) (by have := hd.2.1; omega)
        rw [hl, kept_full h1n hn hd hb] at this
        cases this
      · obtain ⟨q1, q2, q3, q4, q5, q6⟩ := singleN_spec h1n hn hd hb k (take + 1) (by omega) (by omega) (by omega)
        refine ⟨q1, by omega, q3, q4, q5, fun t h3 h4 a h5 h6 => ?_⟩
        by_cases e : t = take
        · subst e; exact e2 a h5 (by omega)
        · exact q6 t (by omega) h4 a h5 h6
attribute [local irreducible] Pure Bor Iter tri C memo goN check keptS
theorem asked0_pure (n most : Int) (d : S4) : Pure Try.prog 36 [dI n, dI most, deD d] (dI (if demB d = false then 1 else if inB n 1 most = false ∨ n < d.2.1 then 2 else 0)) := by
  refine pure_of pg Try.func36 (by kernel_rfl) ?_
  conv => whnf
  (refine .inl ⟨_, isDemand_pure d, ?_⟩; conv => whnf)
  (apply kB <;> intro h <;> conv => whnf)
  · have h : demB d = false := by simpa using h
    rw [if_pos h]; rfl
  · have h : ¬ demB d = false := by simpa using h
    rw [if_neg h]
    (refine .inl ⟨_, in_pure .., ?_⟩; conv => whnf)
    by_cases h1 : inB n 1 most = false
    · rw [if_pos (.inl h1), h1]
      (repeat' (first | (apply kT (by with_reducible first | rfl | assumption); conv => whnf) | (apply kF (by with_reducible first | rfl | assumption); conv => whnf) | (apply kT (by decide); conv => whnf) | (apply kF (by decide); conv => whnf) | (apply kB <;> intro _ <;> conv => whnf) | fail))
      rfl
    · have h1 : inB n 1 most = true := by simpa only [Bool.not_eq_false] using h1
      rw [h1]
      (repeat' (first | (apply kT (by with_reducible first | rfl | assumption); conv => whnf) | (apply kF (by with_reducible first | rfl | assumption); conv => whnf) | (apply kT (by decide); conv => whnf) | (apply kF (by decide); conv => whnf) | (apply kB <;> intro _ <;> conv => whnf) | fail))
      · rename_i h2
        rw [if_pos (.inr (by simpa using h2))]
        rfl
      · rename_i h2
        rw [if_neg (by simpa using h2)]
        rfl
theorem back_pure (lot : Int) (l : List S3) (hl : l.length ≤ 1000) : Pure Try.prog 38 [plD lot l] (plD lot l) := by
  refine pure_of pg Try.func38 (by kernel_rfl) ?_
  conv => whnf
  refine ⟨[.cown 2 1 57], [1, 2, 3, 4], [0, 1, 2, 3], 4, fun m s => ∃ k : Nat, k + m = l.length ∧
    s = ⟨[(1, .ref 0 0), (2, .ref 1 0), (3, .ref 2 0), (4, .d (dI k))], [(0, .var false 31 [.d (dI lot), .d (.seq (l.map stD))]), (1, .var false 24 [.d (dI 0), .d (.v (.slice none 0 0))]), (2, .var false 24 [.d (dI lot), .own 3]), (3, .arr 57 ((l.take k).map stD))], 4⟩, ?_, ?_⟩
  · conv => whnf
    exact ⟨l.length, 0, by simp, rfl⟩
  · rintro m _ ⟨k, hk, rfl⟩
    conv => whnf
    (apply kB <;> intro h <;> conv => whnf)
    · have hlt : k < l.length := by simpa using h
      have e1 : IntKind.i64.wrap ((k : Int) + 1) = ((k + 1 : Nat) : Int) := by rw [wrapI (by omega) (by omega)]; rfl
      have htk : (l.take k).length ≤ k := List.length_take_le _ _
      (refine ⟨k, stD l[k], rfl, getD? l k hlt, rfl, ?_⟩; conv => whnf)
      (refine ⟨by simp, ?_⟩; conv => whnf)
      (refine ⟨by rw [List.length_map]; simp only [List.length_singleton]; omega, ?_⟩; conv => whnf)
      refine ⟨m - 1, by omega, k + 1, by omega, ?_⟩
      rw [e1, List.take_succ_eq_append_getElem hlt, List.map_append]
      rfl
    · have hge : l.length ≤ k := by simpa using h
      have e : l.take k = l := List.take_of_length_le hge
      rw [e]
      rfl
end Go.Ev.Ythmandhpmkfopaa

set_option linter.unusedVariables false
set_option linter.unusedSimpArgs false
set_option maxRecDepth 100000
namespace Go.Ev.Ythmandhpmkfopaa
open Go.Proofs
theorem cross2 {a R b Q : Nat} (hR : 0 < R) (hQ : 0 < Q) (h : a * Q ≤ b * R) : a / Nat.gcd a R * (Q / Nat.gcd b Q) ≤ b / Nat.gcd b Q * (R / Nat.gcd a R) := by
  have g1 : 0 < Nat.gcd a R := Nat.gcd_pos_of_pos_right _ hR
  have g2 : 0 < Nat.gcd b Q := Nat.gcd_pos_of_pos_right _ hQ
  obtain ⟨a', ha⟩ := Nat.gcd_dvd_left a R
  obtain ⟨r1, hr1⟩ := Nat.gcd_dvd_right a R
  obtain ⟨b', hb⟩ := Nat.gcd_dvd_left b Q
  obtain ⟨r2, hr2⟩ := Nat.gcd_dvd_right b Q
  generalize Nat.gcd a R = x at g1 ha hr1
  generalize Nat.gcd b Q = y at g2 hb hr2
  have e1 : a / x = a' := by rw [ha, Nat.mul_div_cancel_left _ g1]
  have e2 : b / y = b' := by rw [hb, Nat.mul_div_cancel_left _ g2]
  have e3 : R / x = r1 := by rw [hr1, Nat.mul_div_cancel_left _ g1]
  have e4 : Q / y = r2 := by rw [hr2, Nat.mul_div_cancel_left _ g2]
  rw [e1, e2, e3, e4]
  have h1 : x * a' * (y * r2) ≤ y * b' * (x * r1) := by rw [← ha, ← hb, ← hr1, ← hr2]; exact h
  have h2 : (x * y) * (a' * r2) ≤ (x * y) * (b' * r1) := by
    have l1 : x * a' * (y * r2) = (x * y) * (a' * r2) := by ac_rfl
    have l2 : y * b' * (x * r1) = (x * y) * (b' * r1) := by ac_rfl
    rw [← l1, ← l2]; exact h1
  exact Nat.le_of_mul_le_mul_left h2 (Nat.mul_pos g1 g2)
/-- numerator and denominator of the mean -/
def mnP (n : Nat) (l : List S3) (b : Nat) : Nat := (goN n b l 0 0).2.1 / Nat.gcd (goN n b l 0 0).2.1 (restN n 0 l)
def mnQ (n : Nat) (l : List S3) (b : Nat) : Nat := restN n 0 l / Nat.gcd (goN n b l 0 0).2.1 (restN n 0 l)
theorem mn_pos {n : Nat} {l : List S3} (hf : Fit n 0 l) (b : Nat) : 1 ≤ mnQ n l b := div_gcd_pos (rest_pos n l 0 hf)
theorem mean_at {n : Nat} {l : List S3} (hl : l.length ≤ 3) (hr : ∀ x ∈ l, InS x) (hn : n ≤ 30) (hf : Fit n 0 l) (he : Ends l) (hc : check n l = 0) {b : Nat} (hb : b ≤ n) : Pure Try.prog 23 [plD n l, dI b] (.tup [.agg [dI (mnP n l b : Nat), dI (mnQ n l b : Nat)], dI 0]) := by
  have h := mean_pure n l (by omega) hr b
  have e : sh (·.2.1) n l b = ((((goN n b l 0 0).2.1 / Nat.gcd (goN n b l 0 0).2.1 (goN n b l 0 0).2.2 : Nat) : Int), (((goN n b l 0 0).2.2 / Nat.gcd (goN n b l 0 0).2.1 (goN n b l 0 0).2.2 : Nat) : Int), 0) := by
    unfold sh
    rw [if_neg (by simp [hc]), if_neg (by omega), Int.toNat_natCast, Int.toNat_natCast]
  rw [e] at h
  obtain ⟨q1, _, _⟩ := go_facts n b l 0 0 hf he (by omega) (by omega) (by omega)
  rw [q1] at h
  unfold mnP mnQ
  exact h
/-- what Double answers -/
theorem double_at {n : Nat} (h1n : 1 ≤ n) (hn : n ≤ 10) {d : S4} (hd : Dem d) (hb : d.2.1 ≤ n) :
    (Pure Try.prog 35 [dI n, deD d] (.tup [plD 0 [], dI 9]) ∧ ∀ l, En n l → keptL n l d = false) ∨
    ∃ q, Pure Try.prog 35 [dI n, deD d] (.tup [plD n q, dI 0]) ∧ En n q ∧ keptL n q d = true ∧ ∀ l, En n l → keptL n l d = true → (goN n d.1.toNat q 0 0).2.1 * restN n 0 l ≤ (goN n d.1.toNat l 0 0).2.1 * restN n 0 q := by
  have h := double_pure n d hd
  have hi : inB n 1 10 = true := by simp only [inB, Bool.and_eq_true, decide_eq_true_eq]; omega
  have e : doubleI n d = if (see1 n d (takes1 n) bs0).1.1 = 0 then (0, [], 9) else ((see1 n d (takes1 n) bs0).1.1, (see1 n d (takes1 n) bs0).1.2, 0) := by
    unfold doubleI
    rw [if_neg (by rw [hi]; simp; omega), Int.toNat_natCast]
  rw [e] at h
  rcases best_all h1n hn hd hb with ⟨b1, b2⟩ | ⟨g1, g2, g3, g4, g5⟩
  · rw [b1, if_pos rfl] at h
    exact .inl ⟨h, b2⟩
  · rw [if_neg (by rw [g1]; omega), g1] at h
    exact .inr ⟨_, h, g2, g3, g5⟩
end Go.Ev.Ythmandhpmkfopaa
