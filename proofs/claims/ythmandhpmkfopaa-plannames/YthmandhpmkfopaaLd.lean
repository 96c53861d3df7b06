/-
  Contracts of functions, and plain laws, that lead to the statement. Written by an agent.
-/
import Derived.Test.YthmandhpmkfopaaLc
set_option linter.unusedVariables false
set_option linter.unusedSimpArgs false
set_option maxRecDepth 100000
namespace Go.Ev.Ythmandhpmkfopaa
def rowAux : Nat → List Nat → List Nat
  | a, [] => [a]
  | a, b :: r => (a + b) :: rowAux b r
def rowC : Nat → List Nat
  | 0 => [1]
  | n + 1 => rowAux 0 (rowC n)
theorem rowAux_zero : ∀ (a : Nat) (r : List Nat), (rowAux a r).getD 0 0 = a + r.getD 0 0
  | a, [] => by simp [rowAux]
  | a, b :: r => by simp [rowAux]
theorem rowAux_succ : ∀ (r : List Nat) (a k : Nat), (rowAux a r).getD (k + 1) 0 = r.getD k 0 + r.getD (k + 1) 0
  | [], a, k => by simp [rowAux]
  | b :: r, a, 0 => by
    have := rowAux_zero b r
    simpa [rowAux] using this
  | b :: r, a, k + 1 => by
    have := rowAux_succ r b k
    simpa [rowAux] using this
theorem rowC_get : ∀ n k, (rowC n).getD k 0 = C n k
  | 0, 0 => rfl
  | 0, k + 1 => by simp [rowC, C]
  | n + 1, 0 => by
    rw [rowC, rowAux_zero, rowC_get n 0, C_one, C_one]
  | n + 1, k + 1 => by
    rw [rowC, rowAux_succ, rowC_get n k, rowC_get n (k + 1), C_step]
def rowsL : List (List Nat) := [[1],
  [1, 1],
  [1, 2, 1],
  [1, 3, 3, 1],
  [1, 4, 6, 4, 1],
  [1, 5, 10, 10, 5, 1],
  [1, 6, 15, 20, 15, 6, 1],
  [1, 7, 21, 35, 35, 21, 7, 1],
  [1, 8, 28, 56, 70, 56, 28, 8, 1],
  [1, 9, 36, 84, 126, 126, 84, 36, 9, 1],
  [1, 10, 45, 120, 210, 252, 210, 120, 45, 10, 1],
  [1, 11, 55, 165, 330, 462, 462, 330, 165, 55, 11, 1],
  [1, 12, 66, 220, 495, 792, 924, 792, 495, 220, 66, 12, 1],
  [1, 13, 78, 286, 715, 1287, 1716, 1716, 1287, 715, 286, 78, 13, 1],
  [1, 14, 91, 364, 1001, 2002, 3003, 3432, 3003, 2002, 1001, 364, 91, 14, 1],
  [1, 15, 105, 455, 1365, 3003, 5005, 6435, 6435, 5005, 3003, 1365, 455, 105, 15, 1],
  [1, 16, 120, 560, 1820, 4368, 8008, 11440, 12870, 11440, 8008, 4368, 1820, 560, 120, 16, 1],
  [1, 17, 136, 680, 2380, 6188, 12376, 19448, 24310, 24310, 19448, 12376, 6188, 2380, 680, 136, 17, 1],
  [1, 18, 153, 816, 3060, 8568, 18564, 31824, 43758, 48620, 43758, 31824, 18564, 8568, 3060, 816, 153, 18, 1],
  [1, 19, 171, 969, 3876, 11628, 27132, 50388, 75582, 92378, 92378, 75582, 50388, 27132, 11628, 3876, 969, 171, 19, 1],
  [1, 20, 190, 1140, 4845, 15504, 38760, 77520, 125970, 167960, 184756, 167960, 125970, 77520, 38760, 15504, 4845, 1140, 190, 20, 1],
  [1, 21, 210, 1330, 5985, 20349, 54264, 116280, 203490, 293930, 352716, 352716, 293930, 203490, 116280, 54264, 20349, 5985, 1330, 210, 21, 1],
  [1, 22, 231, 1540, 7315, 26334, 74613, 170544, 319770, 497420, 646646, 705432, 646646, 497420, 319770, 170544, 74613, 26334, 7315, 1540, 231, 22, 1],
  [1, 23, 253, 1771, 8855, 33649, 100947, 245157, 490314, 817190, 1144066, 1352078, 1352078, 1144066, 817190, 490314, 245157, 100947, 33649, 8855, 1771, 253, 23, 1],
  [1, 24, 276, 2024, 10626, 42504, 134596, 346104, 735471, 1307504, 1961256, 2496144, 2704156, 2496144, 1961256, 1307504, 735471, 346104, 134596, 42504, 10626, 2024, 276, 24, 1],
  [1, 25, 300, 2300, 12650, 53130, 177100, 480700, 1081575, 2042975, 3268760, 4457400, 5200300, 5200300, 4457400, 3268760, 2042975, 1081575, 480700, 177100, 53130, 12650, 2300, 300, 25, 1],
  [1, 26, 325, 2600, 14950, 65780, 230230, 657800, 1562275, 3124550, 5311735, 7726160, 9657700, 10400600, 9657700, 7726160, 5311735, 3124550, 1562275, 657800, 230230, 65780, 14950, 2600, 325, 26, 1],
  [1, 27, 351, 2925, 17550, 80730, 296010, 888030, 2220075, 4686825, 8436285, 13037895, 17383860, 20058300, 20058300, 17383860, 13037895, 8436285, 4686825, 2220075, 888030, 296010, 80730, 17550, 2925, 351, 27, 1],
  [1, 28, 378, 3276, 20475, 98280, 376740, 1184040, 3108105, 6906900, 13123110, 21474180, 30421755, 37442160, 40116600, 37442160, 30421755, 21474180, 13123110, 6906900, 3108105, 1184040, 376740, 98280, 20475, 3276, 378, 28, 1],
  [1, 29, 406, 3654, 23751, 118755, 475020, 1560780, 4292145, 10015005, 20030010, 34597290, 51895935, 67863915, 77558760, 77558760, 67863915, 51895935, 34597290, 20030010, 10015005, 4292145, 1560780, 475020, 118755, 23751, 3654, 406, 29, 1],
  [1, 30, 435, 4060, 27405, 142506, 593775, 2035800, 5852925, 14307150, 30045015, 54627300, 86493225, 119759850, 145422675, 155117520, 145422675, 119759850, 86493225, 54627300, 30045015, 14307150, 5852925, 2035800, 593775, 142506, 27405, 4060, 435, 30, 1]]
def mostR : Nat := 6423296287122000
def triB (T : List (List Nat)) : Bool := (List.range 31).all fun a => (List.range (31 - a)).all fun b => (List.range (31 - a - b)).all fun c =>
  Nat.ble ((T.getD 30 []).getD a 0 * ((T.getD (30 - a) []).getD b 0 * (T.getD (30 - a - b) []).getD c 0)) mostR
theorem rowsL_eq : rowsL = (List.range 31).map rowC := by kernel_rfl
theorem triB_ok : triB rowsL = true := by kernel_rfl
theorem rowsL_get {n : Nat} (h : n ≤ 30) : rowsL.getD n [] = rowC n := by
  rw [rowsL_eq, List.getD_eq_getElem?_getD, List.getElem?_map, List.getElem?_range (by omega)]
  rfl
theorem multi_le {a b c : Nat} (h : a + b + c ≤ 30) : C 30 a * (C (30 - a) b * C (30 - a - b) c) ≤ mostR := by
  have h0 := triB_ok
  unfold triB at h0
  simp only [List.all_eq_true, List.mem_range] at h0
  have := h0 a (by omega) b (by omega) c (by omega)
  rw [rowsL_get (by omega), rowsL_get (by omega), rowsL_get (by omega), rowC_get, rowC_get, rowC_get] at this
  exact Nat.le_of_ble_eq_true this
theorem C_mono1 (n : Nat) : ∀ k, C n k ≤ C (n + 1) k
  | 0 => by rw [C_one, C_one]; exact Nat.le_refl _
  | k + 1 => by rw [C_step]; omega
theorem C_mono {n m : Nat} (h : n ≤ m) (k : Nat) : C n k ≤ C m k := by
  induction m with
  | zero => have : n = 0 := by omega
            subst this; exact Nat.le_refl _
  | succ m ih =>
    rcases Nat.lt_or_ge n (m + 1) with h1 | h1
    · exact Nat.le_trans (ih (by omega)) (C_mono1 m k)
    · have : n = m + 1 := by omega
      subst this; exact Nat.le_refl _
theorem rest_most {n : Nat} (hn : n ≤ 30) {l : List S3} (hl : l.length ≤ 3) (hf : Fit n 0 l) : restN n 0 l ≤ mostR := by
  match l, hl, hf with
  | [], _, _ =>
    have := multi_le (a := 0) (b := 0) (c := 0) (by omega)
    simp only [C_one] at this
    simpa [restN] using this
  | [s1], _, ⟨a, ha, _, h1, _⟩ =>
    have := multi_le (a := a) (b := 0) (c := 0) (by omega)
    simp only [C_one] at this
    simp only [restN, ha, Int.toNat_natCast, Nat.sub_zero, Nat.mul_one]
    exact Nat.le_trans (C_mono hn a) (by simpa using this)
  | [s1, s2], _, ⟨a, ha, _, h1, b, hb, _, h2, _⟩ =>
    have := multi_le (a := a) (b := b) (c := 0) (by omega)
    simp only [C_one] at this
    simp only [restN, ha, hb, Int.toNat_natCast, Nat.sub_zero, Nat.mul_one, Nat.zero_add]
    exact Nat.le_trans (Nat.mul_le_mul (C_mono hn a) (C_mono (m := 30 - a) (by omega) b)) (by simpa using this)
  | [s1, s2, s3], _, ⟨a, ha, _, h1, b, hb, _, h2, c, hc, _, h3, _⟩ =>
    have := multi_le (a := a) (b := b) (c := c) (by omega)
    simp only [restN, ha, hb, hc, Int.toNat_natCast, Nat.sub_zero, Nat.mul_one, Nat.zero_add]
    exact Nat.le_trans (Nat.mul_le_mul (C_mono hn a) (Nat.mul_le_mul (C_mono (m := 30 - a) (by omega) b) (C_mono (m := 30 - a - b) (by omega) c))) this
  | _ :: _ :: _ :: _ :: _, h, _ => simp at h
/-- is a demand kept, in plain numbers -/
def keptN (R ga ba al be : Nat) : Bool := decide ((1000 - al) * R ≤ ga * 1000) && decide (ba * 1000 ≤ be * R)
theorem keptB_plain {g b : N3} {R al be : Nat} (h1 : g.2.2 = R) (h2 : b.2.2 = R) (h3 : g.1 ≤ R) (h4 : b.1 ≤ R) (hR : R ≤ mostR) (ha : al ≤ 1000) (hb : be ≤ 1000) : keptB g b al be = keptN R g.1 b.1 al be := by
  have hm : mostR * 1000 < 2 ^ 63 := by decide
  have w : ∀ x y : Nat, x * y < 2 ^ 63 → y < 2 ^ 63 → mulI (mulI 1 (x : Int)) (wI (y : Int)) = ((x * y : Nat) : Int) := fun x y h hy => by
    rw [mul_w, ← Int.natCast_mul]; exact wI_nat h
  have w2 : ∀ x : Nat, x ≤ R → mulI (mulI 1 (wI (x : Int))) 1000 = ((x * 1000 : Nat) : Int) := fun x h => by
    have hx : x * 1000 < 2 ^ 63 := by omega
    have e : wI (x : Int) = x := wI_nat (by omega)
    have e2 : (1000 : Int) = wI ((1000 : Nat) : Int) := by decide
    rw [e, e2]
    exact w x 1000 hx (by decide)
  have ea : wI (1000 - (al : Int)) = ((1000 - al : Nat) : Int) := (wrapI (by omega) (by omega)).trans (by omega)
  have b1 : (1000 - al) * R ≤ 1000 * R := Nat.mul_le_mul_right _ (by omega)
  have b2 : be * R ≤ 1000 * R := Nat.mul_le_mul_right _ hb
  unfold keptB keptN
  rw [w2 g.1 h3, w2 b.1 h4, ea, h1, h2, w (1000 - al) R (by omega) (by omega), w be R (by omega) (by omega)]
  have c1 : (((g.1 * 1000 : Nat) : Int) ≥ (((1000 - al) * R : Nat) : Int)) ↔ (1000 - al) * R ≤ g.1 * 1000 := by omega
  have c2 : (((b.1 * 1000 : Nat) : Int) ≤ ((be * R : Nat) : Int)) ↔ b.1 * 1000 ≤ be * R := by omega
  rw [decide_eq_decide.2 c1, decide_eq_decide.2 c2]
theorem keptN_kinder {R ga ba al be ga' ba' al' be' : Nat} (h1 : ga ≤ ga') (h2 : ba' ≤ ba) (h3 : al ≤ al') (h4 : be ≤ be') (h : keptN R ga ba al be = true) : keptN R ga' ba' al' be' = true := by
  unfold keptN at h ⊢
  rw [Bool.and_eq_true, decide_eq_true_eq, decide_eq_true_eq] at h ⊢
  have b1 : (1000 - al') * R ≤ (1000 - al) * R := Nat.mul_le_mul_right _ (by omega)
  have b2 : be * R ≤ be' * R := Nat.mul_le_mul_right _ h4
  omega
/-- a kinder demand -/
def Kinder (n : Nat) (d x : S4) : Prop := Dem d ∧ Dem x ∧ d.2.1 ≤ n ∧ x.2.1 ≤ n ∧ x.1 ≤ d.1 ∧ d.2.1 ≤ x.2.1 ∧ d.2.2.1 ≤ x.2.2.1 ∧ d.2.2.2 ≤ x.2.2.2
theorem acc_anti {n : Nat} {l : List S3} (hf : Fit n 0 l) (he : Ends l) {c b : Nat} (hcb : c ≤ b) (hb : b ≤ n) : (goN n b l 0 0).1 ≤ (goN n c l 0 0).1 := by
  have mono : ∀ k, c + k ≤ n → (goN n (c + k) l 0 0).1 ≤ (goN n c l 0 0).1 := by
    intro k
    induction k with
    | zero => intro _; exact Nat.le_refl _
    | succ k ih =>
      intro hk
      exact Nat.le_trans ((go_mono n l 0 hf he (Nat.zero_le _)).1 0 (c + k) (by omega) (by omega)) (ih (by omega))
  have := mono (b - c) (by omega)
  rwa [show c + (b - c) = b by omega] at this
/-- does a plan keep a demand -/
def keptL (n : Nat) (l : List S3) (d : S4) : Bool := keptB (goN n d.1.toNat l 0 0) (goN n d.2.1.toNat l 0 0) d.2.2.1 d.2.2.2
theorem keptL_plain {n : Nat} (hn : n ≤ 30) {l : List S3} (hl : l.length ≤ 3) (hf : Fit n 0 l) (he : Ends l) {d : S4} (hd : Dem d) (hb : d.2.1 ≤ n) :
    keptL n l d = keptN (restN n 0 l) (goN n d.1.toNat l 0 0).1 (goN n d.2.1.toNat l 0 0).1 d.2.2.1.toNat d.2.2.2.toNat := by
  obtain ⟨h1, h2, h3, h4, h5, h6, h7⟩ := hd
  obtain ⟨q1, q2, _⟩ := go_facts n d.1.toNat l 0 0 hf he (by omega) (by omega) (by omega)
  obtain ⟨p1, p2, _⟩ := go_facts n d.2.1.toNat l 0 0 hf he (by omega) (by omega) (by omega)
  have e1 : d.2.2.1 = ((d.2.2.1.toNat : Nat) : Int) := by omega
  have e2 : d.2.2.2 = ((d.2.2.2.toNat : Nat) : Int) := by omega
  unfold keptL
  rw [e1, e2, keptB_plain q1 p1 q2 p2 (rest_most hn hl hf) (by omega) (by omega)]
  simp only [Int.toNat_natCast]
theorem keptL_kinder {n : Nat} (hn : n ≤ 30) {l : List S3} (hl : l.length ≤ 3) (hf : Fit n 0 l) (he : Ends l) {d x : S4} (h : Kinder n d x) (hk : keptL n l d = true) : keptL n l x = true := by
  obtain ⟨hd, hx, hb, hb', k1, k2, k3, k4⟩ := h
  rw [keptL_plain hn hl hf he hd hb] at hk
  rw [keptL_plain hn hl hf he hx hb']
  obtain ⟨h1, h2, h3, h4, h5, h6, h7⟩ := hd
  obtain ⟨j1, j2, j3, j4, j5, j6, j7⟩ := hx
  exact keptN_kinder (acc_anti hf he (by omega) (by omega)) (acc_anti hf he (by omega) (by omega)) (by omega) (by omega) hk
theorem keptS_eq (n : Nat) (d : S4) (take : Nat) (acc : Int) : keptS n d take acc = keptL n (oneP take acc) d := by
  unfold keptS keptL; rfl
theorem singleA_kinder {n : Nat} (hn : n ≤ 30) {d x : S4} (h : Kinder n d x) {take : Nat} (ht1 : 1 ≤ take) (ht2 : take ≤ n) : ∀ (j : Nat) (acc : Int), singleA n d take j acc ≠ none → singleA n x take j acc ≠ none
  | 0, acc, hk => by rw [singleA_zero] at hk; exact absurd rfl hk
  | j + 1, acc, hk => by
    rw [singleA_succ] at hk ⊢
    by_cases c : keptS n d take acc = true
    · have hfe := one_fit (n := n) (take := take) (accept := acc) ht1 ht2
      rw [keptS_eq] at c
      have := keptL_kinder hn (by simp) hfe.1 hfe.2 h c
      rw [← keptS_eq] at this
      rw [if_pos this]
      exact fun e => by cases e
    · rw [if_neg c] at hk
      split
      · exact fun e => by cases e
      · exact singleA_kinder hn h ht1 ht2 j _ hk
theorem singleN_ge {n : Nat} {d : S4} : ∀ (k take : Nat), take + k = n + 1 → min take n ≤ (singleN n d k take).1 ∧ (singleN n d k take).1 ≤ n
  | 0, take, h => by rw [singleN_zero]; exact ⟨by omega, Nat.le_refl _⟩
  | k + 1, take, h => by
    rw [singleN_succ]
    split
    · exact ⟨Nat.min_le_left _ _, by show take ≤ n; omega⟩
    · obtain ⟨p, q⟩ := singleN_ge (n := n) (d := d) k (take + 1) (by omega)
      exact ⟨by omega, q⟩
theorem singleN_kinder {n : Nat} (hn : n ≤ 30) {d x : S4} (h : Kinder n d x) : ∀ (k take : Nat), take + k = n + 1 → 1 ≤ take → (singleN n x k take).1 ≤ (singleN n d k take).1
  | 0, take, _, _ => by rw [singleN_zero, singleN_zero]; exact Nat.le_refl _
  | k + 1, take, hk, h1 => by
    rw [singleN_succ, singleN_succ]
    cases hd : singleA n d take (take + 2) (-1) with
    | some a =>
      have := singleA_kinder hn h h1 (by omega) (take + 2) (-1) (by rw [hd]; exact fun e => by cases e)
      cases hx : singleA n x take (take + 2) (-1) with
      | some b => exact Nat.le_refl _
      | none => exact absurd hx this
    | none =>
      cases hx : singleA n x take (take + 2) (-1) with
      | some b =>
        have := (singleN_ge (n := n) (d := d) k (take + 1) (by omega)).1
        show take ≤ (singleN n d k (take + 1)).1
        omega
      | none => exact singleN_kinder hn h k (take + 1) (by omega) (by omega)
end Go.Ev.Ythmandhpmkfopaa

set_option linter.unusedVariables false
set_option linter.unusedSimpArgs false
set_option maxRecDepth 100000
namespace Go.Ev.Ythmandhpmkfopaa
open Go.Proofs
attribute [local irreducible] Pure Bor Iter tri C memo goN check accR cntR restN keptB keptL singleN
def demB (d : S4) : Bool := inB d.2.1 1 30 && inB d.1 0 (wI (d.2.1 - 1)) && inB d.2.2.1 0 1000 && inB d.2.2.2 0 1000
theorem demB_iff {d : S4} (hb : InR d.2.1) : demB d = true ↔ Dem d := by
  unfold demB Dem
  simp only [inB, Bool.and_eq_true, decide_eq_true_eq]
  by_cases h : 1 ≤ d.2.1 ∧ d.2.1 ≤ 30
  · have e : wI (d.2.1 - 1) = d.2.1 - 1 := wrapI (by omega) (by omega)
    rw [e]; omega
  · omega
theorem isDemand_pure (d : S4) : Pure Try.prog 30 [deD d] (dB (demB d)) := by
  refine pure_of pg Try.func30 (by kernel_rfl) ?_
  conv => whnf
  (repeat' (first | (apply kT (by with_reducible first | rfl | assumption); conv => whnf) | (apply kF (by with_reducible first | rfl | assumption); conv => whnf) | (apply kT (by decide); conv => whnf) | (apply kF (by decide); conv => whnf) | (apply kB <;> intro _ <;> conv => whnf) | (refine .inl ⟨_, in_pure .., ?_⟩; conv => whnf) | fail))
  all_goals (simp only [oneD, demB, wI, *, Bool.true_and, Bool.and_true, Bool.false_and, Bool.and_false])
theorem demand_pure (d : S4) : Pure Try.prog 32 [deD d] (deD d) := by
  refine pure_of pg Try.func32 (by kernel_rfl) ?_
  conv => whnf
  rfl
theorem keeps_pure {n : Nat} {l : List S3} (hl : l.length < 2 ^ 63) (hr : ∀ x ∈ l, InS x) (hc : check n l = 0) {d : S4} (hd : Dem d) (hb : d.2.1 ≤ n) : Pure Try.prog 31 [plD n l, deD d] (.tup [dB (keptL n l d), dI 0]) := by
  obtain ⟨n', hn', hn1, hn2, hl3, hf, he⟩ := check_good hr hc
  have : n' = n := by omega
  subst this
  have h1 := check_pure n' l (by omega)
  rw [hc] at h1
  have h2 := valid_pure d
  rw [hd.valid] at h2
  obtain ⟨k1, k2, k3, k4, k5, k6, k7⟩ := hd
  obtain ⟨good, bad, al, be⟩ := d
  dsimp only at k1 k2 k3 k4 k5 k6 k7 hb
  obtain ⟨g, rfl⟩ : ∃ g : Nat, good = g := ⟨good.toNat, by omega⟩
  obtain ⟨b, rfl⟩ : ∃ b : Nat, bad = b := ⟨bad.toNat, by omega⟩
  have h3 := kept_pure hn2 hl3 (good := g) (bad := b) (by omega) (by omega) hf he al be
  have e : keptB (goN n' g l 0 0) (goN n' b l 0 0) al be = keptL n' l (g, b, al, be) := by unfold keptL; rfl
  rw [e] at h3
  have h4 : decide ((b : Int) > (n' : Int)) = false := by rw [decide_eq_false_iff_not]; omega
  refine pure_of pg Try.func31 (by kernel_rfl) ?_
  conv => whnf
  (repeat' (first | (apply kT (by with_reducible first | rfl | assumption); conv => whnf) | (apply kF (by with_reducible first | rfl | assumption); conv => whnf) | (apply kT (by decide); conv => whnf) | (apply kF (by decide); conv => whnf) | (apply kB <;> intro _ <;> conv => whnf) | (refine .inl ⟨_, h1, ?_⟩; conv => whnf) | (refine .inl ⟨_, h2, ?_⟩; conv => whnf) | (refine .inl ⟨_, h3, ?_⟩; conv => whnf) | fail))
  rfl
theorem single_at {n : Nat} (hn1 : 1 ≤ n) (hn : n ≤ 30) {d : S4} (hd : Dem d) (hb : d.2.1 ≤ n) : Pure Try.prog 33 [dI n, deD d] (.tup [plD n (oneP (singleN n d n 1).1 (singleN n d n 1).2), dI 0]) := by
  have h := single_pure n d hd
  have hi : inB n 1 30 = true := by simp only [inB, Bool.and_eq_true, decide_eq_true_eq]; omega
  have e : singleI n d = ((n : Int), oneP (singleN n d n 1).1 (singleN n d n 1).2, 0) := by
    unfold singleI
    rw [if_neg (by rw [hi]; simp; omega), Int.toNat_natCast]
  rw [e] at h
  exact h
set_option maxHeartbeats 4000000 in
theorem kinder_pure (lot : Int) (l : List S3) (hl : l.length ≤ 9223372036854775807) (hr : ∀ x ∈ l, InS x) (d : S4) (hdi : InR d.2.1) (wh by' : Int) (hw : 0 ≤ wh ∧ wh ≤ 255) (hby : 0 ≤ by' ∧ by' ≤ 255) :
    Pure Try.prog 11 [plD lot l, deD d, dU wh, dU by'] (dB true) := by
  have hdb := demB_iff hdi
  obtain ⟨good, bad, al, be⟩ := d
  refine pure_of pg Try.func11 (by kernel_rfl) ?_
  conv => whnf
  (refine .inl ⟨_, ready_pure lot l hr, ?_⟩; conv => whnf)
  by_cases hrd : readyB lot l = true
  · have hrd' : (!readyB lot l) = false := by rw [hrd]; rfl
    have hrd2 := hrd
    unfold readyB at hrd2
    rw [Bool.and_eq_true, decide_eq_true_eq, beq_iff_eq] at hrd2
    obtain ⟨h5, hc⟩ := hrd2
    obtain ⟨n, rfl, hn1, hn2, hl3, hf, he⟩ := check_good hr hc
    by_cases hdm : demB (good, bad, al, be) = true
    · have hdm' : (!demB (good, bad, al, be)) = false := by rw [hdm]; rfl
      have hdem := hdb.1 hdm
      have q := hdem
      unfold Dem at q
      dsimp only at q
      by_cases hbn : bad > n
      · have hbn' : decide (bad > (n : Int)) = true := by rw [decide_eq_true_eq]; exact hbn
        (repeat' (first | (apply kT (by with_reducible first | rfl | assumption); conv => whnf) | (apply kF (by with_reducible first | rfl | assumption); conv => whnf) | (apply kT (by decide); conv => whnf) | (apply kF (by decide); conv => whnf) | (apply kB <;> intro _ <;> conv => whnf) | (refine .inl ⟨_, isDemand_pure (good, bad, al, be), ?_⟩; conv => whnf) | (refine .inl ⟨_, wakes_pure, ?_⟩; conv => whnf) | fail))
        rfl
      have hbn' : decide (bad > (n : Int)) = false := by rw [decide_eq_false_iff_not]; exact hbn
      (repeat' (first | (apply kT (by with_reducible first | rfl | assumption); conv => whnf) | (apply kF (by with_reducible first | rfl | assumption); conv => whnf) | (apply kT (by decide); conv => whnf) | (apply kF (by decide); conv => whnf) | (apply kB <;> intro _ <;> conv => whnf) | (refine .inl ⟨_, isDemand_pure (good, bad, al, be), ?_⟩; conv => whnf) | fail))
      (refine ⟨by decide, ?_⟩; conv => whnf)
      have w0 : IntKind.i64.wrap by' = by' := wrapI (by omega) (by omega)
      have w1 : IntKind.i64.wrap (al + IntKind.i64.wrap by') = al + by' := by rw [w0]; exact wrapI (by omega) (by omega)
      have w2 : IntKind.i64.wrap (be + IntKind.i64.wrap by') = be + by' := by rw [w0]; exact wrapI (by omega) (by omega)
      have w3 : 0 ≤ (IntKind.i64.wrap by').tmod 4 ∧ (IntKind.i64.wrap by').tmod 4 ≤ 3 := by rw [w0, Int.tmod_eq_emod_of_nonneg hby.1]; omega
      have w4 : IntKind.i64.wrap (good - (IntKind.i64.wrap by').tmod 4) = good - (IntKind.i64.wrap by').tmod 4 := wrapI (by omega) (by omega)
      have w5 : IntKind.i64.wrap (bad + (IntKind.i64.wrap by').tmod 4) = bad + (IntKind.i64.wrap by').tmod 4 := wrapI (by omega) (by omega)
      clear w0
      apply kB
      · intro _
        conv => whnf
        obtain ⟨x, hx⟩ : ∃ x : S4, x = (good, bad, min 1000 (IntKind.i64.wrap (al + IntKind.i64.wrap by')), be) := ⟨_, rfl⟩
        have kx : Kinder n (good, bad, al, be) x := by
          rw [hx]
          refine ⟨hdem, ?_, by show bad ≤ n; omega, by show bad ≤ n; omega, Int.le_refl _, Int.le_refl _, ?_, ?_⟩
          · unfold Dem; dsimp only; omega
          · dsimp only; omega
          · dsimp only; omega
        have c1 := keeps_pure (by omega) hr hc hdem (by show bad ≤ n; omega)
        have c2 := keeps_pure (by omega) hr hc kx.2.1 kx.2.2.2.1
        have c3 := single_at hn1 hn2 hdem (by show bad ≤ n; omega)
        have c4 := single_at hn1 hn2 kx.2.1 kx.2.2.2.1
        have k1 : keptL n l (good, bad, al, be) = true → keptL n l x = true := keptL_kinder hn2 hl3 hf he kx
        have k2 := singleN_kinder hn2 kx n 1 (by omega) (by omega)
        have d2 := demand_pure x
        rw [hx] at c2 c4 d2
        rw [← hx] at c2 c4
        have c2' : Pure Try.prog 31 [plD n l, deD (good, bad, min 1000 (IntKind.i64.wrap (al + IntKind.i64.wrap by')), be)] (.tup [dB (keptL n l x), dI 0]) := by rw [hx] at c2 ⊢; exact c2
        have c4' : Pure Try.prog 33 [dI n, deD (good, bad, min 1000 (IntKind.i64.wrap (al + IntKind.i64.wrap by')), be)] (.tup [plD n (oneP (singleN n x n 1).1 (singleN n x n 1).2), dI 0]) := by rw [hx] at c4 ⊢; exact c4
        clear c2 c4
        generalize singleN n (good, bad, al, be) n 1 = s at c3 k2
        generalize singleN n x n 1 = t at c4' k2
        generalize keptL n l (good, bad, al, be) = a at c1 k1
        generalize keptL n l x = b at c2' k1
        clear hx kx
        have f1 : (((List.map stD (oneP (s.1 : Int) s.2)).length : Int) == 1) = true := rfl
        have f2 : (((List.map stD (oneP (t.1 : Int) t.2)).length : Int) == 1) = true := rfl
        have f3 : decide ((t.1 : Int) ≤ (s.1 : Int)) = true := by rw [decide_eq_true_eq]; omega
        (refine .inl ⟨_, plan_pure n l (by omega), ?_⟩; conv => whnf)
        (refine .inl ⟨_, demand_pure (good, bad, al, be), ?_⟩; conv => whnf)
        (refine .inl ⟨_, c1, ?_⟩; conv => whnf)
        (refine .inl ⟨_, plan_pure n l (by omega), ?_⟩; conv => whnf)
        (refine .inl ⟨_, d2, ?_⟩; conv => whnf)
        (refine .inl ⟨_, c2', ?_⟩; conv => whnf)
        (refine .inl ⟨_, demand_pure (good, bad, al, be), ?_⟩; conv => whnf)
        (refine .inl ⟨_, c3, ?_⟩; conv => whnf)
        (refine .inl ⟨_, d2, ?_⟩; conv => whnf)
        (refine .inl ⟨_, c4', ?_⟩; conv => whnf)
        cases a with
        | false =>
          (repeat' (first | (apply kT (by with_reducible first | rfl | assumption); conv => whnf) | (apply kF (by with_reducible first | rfl | assumption); conv => whnf) | (apply kT (by decide); conv => whnf) | (apply kF (by decide); conv => whnf) | (apply kB <;> intro _ <;> conv => whnf) | (refine .inl ⟨_, wakes_pure, ?_⟩; conv => whnf) | (refine ⟨0, _, rfl, rfl, rfl, ?_⟩; conv => whnf) | fail))
          rfl
        | true =>
          have hb := k1 rfl
          subst hb
          (repeat' (first | (apply kT (by with_reducible first | rfl | assumption); conv => whnf) | (apply kF (by with_reducible first | rfl | assumption); conv => whnf) | (apply kT (by decide); conv => whnf) | (apply kF (by decide); conv => whnf) | (apply kB <;> intro _ <;> conv => whnf) | (refine .inl ⟨_, wakes_pure, ?_⟩; conv => whnf) | (refine ⟨0, _, rfl, rfl, rfl, ?_⟩; conv => whnf) | fail))
          rfl
      · intro _
        conv => whnf
        apply kB
        · intro _
          conv => whnf
          obtain ⟨x, hx⟩ : ∃ x : S4, x = (good, bad, al, min 1000 (IntKind.i64.wrap (be + IntKind.i64.wrap by'))) := ⟨_, rfl⟩
          have kx : Kinder n (good, bad, al, be) x := by
            rw [hx]
            refine ⟨hdem, ?_, by show bad ≤ n; omega, by show bad ≤ n; omega, Int.le_refl _, Int.le_refl _, ?_, ?_⟩
            · unfold Dem; dsimp only; omega
            · dsimp only; omega
            · dsimp only; omega
          have c1 := keeps_pure (by omega) hr hc hdem (by show bad ≤ n; omega)
          have c2 := keeps_pure (by omega) hr hc kx.2.1 kx.2.2.2.1
          have c3 := single_at hn1 hn2 hdem (by show bad ≤ n; omega)
          have c4 := single_at hn1 hn2 kx.2.1 kx.2.2.2.1
          have k1 : keptL n l (good, bad, al, be) = true → keptL n l x = true := keptL_kinder hn2 hl3 hf he kx
          have k2 := singleN_kinder hn2 kx n 1 (by omega) (by omega)
          have d2 := demand_pure x
          rw [hx] at c2 c4 d2
          rw [← hx] at c2 c4
          have c2' : Pure Try.prog 31 [plD n l, deD (good, bad, al, min 1000 (IntKind.i64.wrap (be + IntKind.i64.wrap by')))] (.tup [dB (keptL n l x), dI 0]) := by rw [hx] at c2 ⊢; exact c2
          have c4' : Pure Try.prog 33 [dI n, deD (good, bad, al, min 1000 (IntKind.i64.wrap (be + IntKind.i64.wrap by')))] (.tup [plD n (oneP (singleN n x n 1).1 (singleN n x n 1).2), dI 0]) := by rw [hx] at c4 ⊢; exact c4
          clear c2 c4
          generalize singleN n (good, bad, al, be) n 1 = s at c3 k2
          generalize singleN n x n 1 = t at c4' k2
          generalize keptL n l (good, bad, al, be) = a at c1 k1
          generalize keptL n l x = b at c2' k1
          clear hx kx
          have f1 : (((List.map stD (oneP (s.1 : Int) s.2)).length : Int) == 1) = true := rfl
          have f2 : (((List.map stD (oneP (t.1 : Int) t.2)).length : Int) == 1) = true := rfl
          have f3 : decide ((t.1 : Int) ≤ (s.1 : Int)) = true := by rw [decide_eq_true_eq]; omega
          (refine .inl ⟨_, plan_pure n l (by omega), ?_⟩; conv => whnf)
          (refine .inl ⟨_, demand_pure (good, bad, al, be), ?_⟩; conv => whnf)
          (refine .inl ⟨_, c1, ?_⟩; conv => whnf)
          (refine .inl ⟨_, plan_pure n l (by omega), ?_⟩; conv => whnf)
          (refine .inl ⟨_, d2, ?_⟩; conv => whnf)
          (refine .inl ⟨_, c2', ?_⟩; conv => whnf)
          (refine .inl ⟨_, demand_pure (good, bad, al, be), ?_⟩; conv => whnf)
          (refine .inl ⟨_, c3, ?_⟩; conv => whnf)
          (refine .inl ⟨_, d2, ?_⟩; conv => whnf)
          (refine .inl ⟨_, c4', ?_⟩; conv => whnf)
          cases a with
          | false =>
            (repeat' (first | (apply kT (by with_reducible first | rfl | assumption); conv => whnf) | (apply kF (by with_reducible first | rfl | assumption); conv => whnf) | (apply kT (by decide); conv => whnf) | (apply kF (by decide); conv => whnf) | (apply kB <;> intro _ <;> conv => whnf) | (refine .inl ⟨_, wakes_pure, ?_⟩; conv => whnf) | (refine ⟨0, _, rfl, rfl, rfl, ?_⟩; conv => whnf) | fail))
            rfl
          | true =>
            have hb := k1 rfl
            subst hb
            (repeat' (first | (apply kT (by with_reducible first | rfl | assumption); conv => whnf) | (apply kF (by with_reducible first | rfl | assumption); conv => whnf) | (apply kT (by decide); conv => whnf) | (apply kF (by decide); conv => whnf) | (apply kB <;> intro _ <;> conv => whnf) | (refine .inl ⟨_, wakes_pure, ?_⟩; conv => whnf) | (refine ⟨0, _, rfl, rfl, rfl, ?_⟩; conv => whnf) | fail))
            rfl
        · intro _
          conv => whnf
          apply kB
          · intro _
            conv => whnf
            (refine ⟨by decide, ?_⟩; conv => whnf)
            obtain ⟨x, hx⟩ : ∃ x : S4, x = (max 0 (IntKind.i64.wrap (good - (IntKind.i64.wrap by').tmod 4)), bad, al, be) := ⟨_, rfl⟩
            have kx : Kinder n (good, bad, al, be) x := by
              rw [hx]
              refine ⟨hdem, ?_, by show bad ≤ n; omega, by show bad ≤ n; omega, ?_, Int.le_refl _, Int.le_refl _, Int.le_refl _⟩
              · unfold Dem; dsimp only; omega
              · dsimp only; omega
            have c1 := keeps_pure (by omega) hr hc hdem (by show bad ≤ n; omega)
            have c2 := keeps_pure (by omega) hr hc kx.2.1 kx.2.2.2.1
            have c3 := single_at hn1 hn2 hdem (by show bad ≤ n; omega)
            have c4 := single_at hn1 hn2 kx.2.1 kx.2.2.2.1
            have k1 : keptL n l (good, bad, al, be) = true → keptL n l x = true := keptL_kinder hn2 hl3 hf he kx
            have k2 := singleN_kinder hn2 kx n 1 (by omega) (by omega)
            have d2 := demand_pure x
            rw [hx] at c2 c4 d2
            rw [← hx] at c2 c4
            have c2' : Pure Try.prog 31 [plD n l, deD (max 0 (IntKind.i64.wrap (good - (IntKind.i64.wrap by').tmod 4)), bad, al, be)] (.tup [dB (keptL n l x), dI 0]) := by rw [hx] at c2 ⊢; exact c2
            have c4' : Pure Try.prog 33 [dI n, deD (max 0 (IntKind.i64.wrap (good - (IntKind.i64.wrap by').tmod 4)), bad, al, be)] (.tup [plD n (oneP (singleN n x n 1).1 (singleN n x n 1).2), dI 0]) := by rw [hx] at c4 ⊢; exact c4
            clear c2 c4
            generalize singleN n (good, bad, al, be) n 1 = s at c3 k2
            generalize singleN n x n 1 = t at c4' k2
            generalize keptL n l (good, bad, al, be) = a at c1 k1
            generalize keptL n l x = b at c2' k1
            clear hx kx
            have f1 : (((List.map stD (oneP (s.1 : Int) s.2)).length : Int) == 1) = true := rfl
            have f2 : (((List.map stD (oneP (t.1 : Int) t.2)).length : Int) == 1) = true := rfl
            have f3 : decide ((t.1 : Int) ≤ (s.1 : Int)) = true := by rw [decide_eq_true_eq]; omega
            (refine .inl ⟨_, plan_pure n l (by omega), ?_⟩; conv => whnf)
            (refine .inl ⟨_, demand_pure (good, bad, al, be), ?_⟩; conv => whnf)
            (refine .inl ⟨_, c1, ?_⟩; conv => whnf)
            (refine .inl ⟨_, plan_pure n l (by omega), ?_⟩; conv => whnf)
            (refine .inl ⟨_, d2, ?_⟩; conv => whnf)
            (refine .inl ⟨_, c2', ?_⟩; conv => whnf)
            (refine .inl ⟨_, demand_pure (good, bad, al, be), ?_⟩; conv => whnf)
            (refine .inl ⟨_, c3, ?_⟩; conv => whnf)
            (refine .inl ⟨_, d2, ?_⟩; conv => whnf)
            (refine .inl ⟨_, c4', ?_⟩; conv => whnf)
            cases a with
            | false =>
              (repeat' (first | (apply kT (by with_reducible first | rfl | assumption); conv => whnf) | (apply kF (by with_reducible first | rfl | assumption); conv => whnf) | (apply kT (by decide); conv => whnf) | (apply kF (by decide); conv => whnf) | (apply kB <;> intro _ <;> conv => whnf) | (refine .inl ⟨_, wakes_pure, ?_⟩; conv => whnf) | (refine ⟨0, _, rfl, rfl, rfl, ?_⟩; conv => whnf) | fail))
              rfl
            | true =>
              have hb := k1 rfl
              subst hb
              (repeat' (first | (apply kT (by with_reducible first | rfl | assumption); conv => whnf) | (apply kF (by with_reducible first | rfl | assumption); conv => whnf) | (apply kT (by decide); conv => whnf) | (apply kF (by decide); conv => whnf) | (apply kB <;> intro _ <;> conv => whnf) | (refine .inl ⟨_, wakes_pure, ?_⟩; conv => whnf) | (refine ⟨0, _, rfl, rfl, rfl, ?_⟩; conv => whnf) | fail))
              rfl
          · intro _
            conv => whnf
            (refine ⟨by decide, ?_⟩; conv => whnf)
            obtain ⟨x, hx⟩ : ∃ x : S4, x = (good, min (n : Int) (IntKind.i64.wrap (bad + (IntKind.i64.wrap by').tmod 4)), al, be) := ⟨_, rfl⟩
            have kx : Kinder n (good, bad, al, be) x := by
              rw [hx]
              refine ⟨hdem, ?_, by show bad ≤ n; omega, ?_, Int.le_refl _, ?_, Int.le_refl _, Int.le_refl _⟩
              · unfold Dem; dsimp only; omega
              · dsimp only; omega
              · dsimp only; omega
            have c1 := keeps_pure (by omega) hr hc hdem (by show bad ≤ n; omega)
            have c2 := keeps_pure (by omega) hr hc kx.2.1 kx.2.2.2.1
            have c3 := single_at hn1 hn2 hdem (by show bad ≤ n; omega)
            have c4 := single_at hn1 hn2 kx.2.1 kx.2.2.2.1
            have k1 : keptL n l (good, bad, al, be) = true → keptL n l x = true := keptL_kinder hn2 hl3 hf he kx
            have k2 := singleN_kinder hn2 kx n 1 (by omega) (by omega)
            have d2 := demand_pure x
            rw [hx] at c2 c4 d2
            rw [← hx] at c2 c4
            have c2' : Pure Try.prog 31 [plD n l, deD (good, min (n : Int) (IntKind.i64.wrap (bad + (IntKind.i64.wrap by').tmod 4)), al, be)] (.tup [dB (keptL n l x), dI 0]) := by rw [hx] at c2 ⊢; exact c2
            have c4' : Pure Try.prog 33 [dI n, deD (good, min (n : Int) (IntKind.i64.wrap (bad + (IntKind.i64.wrap by').tmod 4)), al, be)] (.tup [plD n (oneP (singleN n x n 1).1 (singleN n x n 1).2), dI 0]) := by rw [hx] at c4 ⊢; exact c4
            clear c2 c4
            generalize singleN n (good, bad, al, be) n 1 = s at c3 k2
            generalize singleN n x n 1 = t at c4' k2
            generalize keptL n l (good, bad, al, be) = a at c1 k1
            generalize keptL n l x = b at c2' k1
            clear hx kx
            have f1 : (((List.map stD (oneP (s.1 : Int) s.2)).length : Int) == 1) = true := rfl
            have f2 : (((List.map stD (oneP (t.1 : Int) t.2)).length : Int) == 1) = true := rfl
            have f3 : decide ((t.1 : Int) ≤ (s.1 : Int)) = true := by rw [decide_eq_true_eq]; omega
            (refine .inl ⟨_, plan_pure n l (by omega), ?_⟩; conv => whnf)
            (refine .inl ⟨_, demand_pure (good, bad, al, be), ?_⟩; conv => whnf)
            (refine .inl ⟨_, c1, ?_⟩; conv => whnf)
            (refine .inl ⟨_, plan_pure n l (by omega), ?_⟩; conv => whnf)
            (refine .inl ⟨_, d2, ?_⟩; conv => whnf)
            (refine .inl ⟨_, c2', ?_⟩; conv => whnf)
            (refine .inl ⟨_, demand_pure (good, bad, al, be), ?_⟩; conv => whnf)
            (refine .inl ⟨_, c3, ?_⟩; conv => whnf)
            (refine .inl ⟨_, d2, ?_⟩; conv => whnf)
            (refine .inl ⟨_, c4', ?_⟩; conv => whnf)
            cases a with
            | false =>
              (repeat' (first | (apply kT (by with_reducible first | rfl | assumption); conv => whnf) | (apply kF (by with_reducible first | rfl | assumption); conv => whnf) | (apply kT (by decide); conv => whnf) | (apply kF (by decide); conv => whnf) | (apply kB <;> intro _ <;> conv => whnf) | (refine .inl ⟨_, wakes_pure, ?_⟩; conv => whnf) | (refine ⟨0, _, rfl, rfl, rfl, ?_⟩; conv => whnf) | fail))
              rfl
            | true =>
              have hb := k1 rfl
              subst hb
              (repeat' (first | (apply kT (by with_reducible first | rfl | assumption); conv => whnf) | (apply kF (by with_reducible first | rfl | assumption); conv => whnf) | (apply kT (by decide); conv => whnf) | (apply kF (by decide); conv => whnf) | (apply kB <;> intro _ <;> conv => whnf) | (refine .inl ⟨_, wakes_pure, ?_⟩; conv => whnf) | (refine ⟨0, _, rfl, rfl, rfl, ?_⟩; conv => whnf) | fail))
              rfl
    · have hdm' : (!demB (good, bad, al, be)) = true := by simpa using hdm
      (repeat' (first | (apply kT (by with_reducible first | rfl | assumption); conv => whnf) | (apply kF (by with_reducible first | rfl | assumption); conv => whnf) | (apply kT (by decide); conv => whnf) | (apply kF (by decide); conv => whnf) | (apply kB <;> intro _ <;> conv => whnf) | (refine .inl ⟨_, isDemand_pure (good, bad, al, be), ?_⟩; conv => whnf) | (refine .inl ⟨_, wakes_pure, ?_⟩; conv => whnf) | fail))
      rfl
  · have hrd' : (!readyB lot l) = true := by simpa using hrd
    (repeat' (first | (apply kT (by with_reducible first | rfl | assumption); conv => whnf) | (apply kF (by with_reducible first | rfl | assumption); conv => whnf) | (apply kT (by decide); conv => whnf) | (apply kF (by decide); conv => whnf) | (apply kB <;> intro _ <;> conv => whnf) | (refine .inl ⟨_, wakes_pure, ?_⟩; conv => whnf) | fail))
    rfl
end Go.Ev.Ythmandhpmkfopaa
