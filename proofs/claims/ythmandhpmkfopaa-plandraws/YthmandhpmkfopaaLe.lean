/-
  Contracts of functions, and plain laws, that lead to the statement. Written by an agent.
-/
import Derived.Test.YthmandhpmkfopaaLd
set_option linter.unusedVariables false
set_option linter.unusedSimpArgs false
namespace Go.Ev.Ythmandhpmkfopaa
/-- stage by stage: so many bad ones and so many good ones are left -/
def Gs : List Nat → (List Nat → Nat) → Nat → Nat → Nat
  | [], f, _, _ => f []
  | r :: rs, f, nb, ng => sm (fun d => C nb d * C ng (r - d) * Gs rs (fun xs => f (d :: xs)) (nb - d) (ng - (r - d))) (r + 1)
def dec (rs : List Nat) (i : Nat) : List Nat := rs.set i ((rs[i]?).getD 0 - 1)
def bump (xs : List Nat) (i : Nat) : List Nat := xs.set i ((xs[i]?).getD 0 + 1)
theorem sm_swap (f : Nat → Nat → Nat) (m : Nat) : ∀ n, sm (fun i => sm (fun j => f i j) m) n = sm (fun j => sm (fun i => f i j) n) m
  | 0 => by
    rw [sm, sm_zero]
    intros; rfl
  | n + 1 => by
    rw [sm, sm_swap f m n, ← sm_add]
    rfl
theorem sm_mulL (f : Nat → Nat) (c : Nat) (n : Nat) : sm (fun i => c * f i) n = c * sm f n := by
  rw [Nat.mul_comm, ← sm_mul]
  exact sm_congr fun i _ => Nat.mul_comm _ _
/-- what a piece may become: one stage's -/
def brB (rs : List Nat) (f : List Nat → Nat) (nb ng : Nat) : Nat := sm (fun i => if 0 < (rs[i]?).getD 0 then Gs (dec rs i) (fun xs => f (bump xs i)) nb ng else 0) rs.length
def brG (rs : List Nat) (f : List Nat → Nat) (nb ng : Nat) : Nat := sm (fun i => if 0 < (rs[i]?).getD 0 then Gs (dec rs i) f nb ng else 0) rs.length
theorem brB_cons (r : Nat) (rs : List Nat) (f : List Nat → Nat) (nb ng : Nat) : brB (r :: rs) f nb ng =
    (if 0 < r then Gs ((r - 1) :: rs) (fun xs => f (bump xs 0)) nb ng else 0) + sm (fun d => C nb d * C ng (r - d) * brB rs (fun xs => f (d :: xs)) (nb - d) (ng - (r - d))) (r + 1) := by
  unfold brB
  rw [List.length_cons, sm_head]
  congr 1
  have e : ∀ d, C nb d * C ng (r - d) * sm (fun i => if 0 < (rs[i]?).getD 0 then Gs (dec rs i) (fun xs => f (d :: bump xs i)) (nb - d) (ng - (r - d)) else 0) rs.length =
      sm (fun i => C nb d * C ng (r - d) * (if 0 < (rs[i]?).getD 0 then Gs (dec rs i) (fun xs => f (d :: bump xs i)) (nb - d) (ng - (r - d)) else 0)) rs.length := fun d => (sm_mulL _ _ _).symm
  rw [sm_congr (g := fun d => sm (fun i => C nb d * C ng (r - d) * (if 0 < (rs[i]?).getD 0 then Gs (dec rs i) (fun xs => f (d :: bump xs i)) (nb - d) (ng - (r - d)) else 0)) rs.length) fun d _ => e d, sm_swap]
  refine sm_congr fun i hi => ?_
  show (if 0 < ((r :: rs)[i + 1]?).getD 0 then Gs (dec (r :: rs) (i + 1)) (fun xs => f (bump xs (i + 1))) nb ng else 0) = _
  rw [List.getElem?_cons_succ]
  by_cases h : 0 < (rs[i]?).getD 0
  · rw [if_pos h]
    have e2 : dec (r :: rs) (i + 1) = r :: dec rs i := by unfold dec; rw [List.getElem?_cons_succ]; rfl
    rw [e2, Gs]
    refine sm_congr fun d _ => ?_
    rw [if_pos h]
    rfl
  · rw [if_neg h, sm_zero]
    intro d _
    rw [if_neg h, Nat.mul_zero]
theorem brG_cons (r : Nat) (rs : List Nat) (f : List Nat → Nat) (nb ng : Nat) : brG (r :: rs) f nb ng =
    (if 0 < r then Gs ((r - 1) :: rs) f nb ng else 0) + sm (fun d => C nb d * C ng (r - d) * brG rs (fun xs => f (d :: xs)) (nb - d) (ng - (r - d))) (r + 1) := by
  unfold brG
  rw [List.length_cons, sm_head]
  congr 1
  have e : ∀ d, C nb d * C ng (r - d) * sm (fun i => if 0 < (rs[i]?).getD 0 then Gs (dec rs i) (fun xs => f (d :: xs)) (nb - d) (ng - (r - d)) else 0) rs.length =
      sm (fun i => C nb d * C ng (r - d) * (if 0 < (rs[i]?).getD 0 then Gs (dec rs i) (fun xs => f (d :: xs)) (nb - d) (ng - (r - d)) else 0)) rs.length := fun d => (sm_mulL _ _ _).symm
  rw [sm_congr (g := fun d => sm (fun i => C nb d * C ng (r - d) * (if 0 < (rs[i]?).getD 0 then Gs (dec rs i) (fun xs => f (d :: xs)) (nb - d) (ng - (r - d)) else 0)) rs.length) fun d _ => e d, sm_swap]
  refine sm_congr fun i hi => ?_
  show (if 0 < ((r :: rs)[i + 1]?).getD 0 then Gs (dec (r :: rs) (i + 1)) f nb ng else 0) = _
  rw [List.getElem?_cons_succ]
  by_cases h : 0 < (rs[i]?).getD 0
  · rw [if_pos h]
    have e2 : dec (r :: rs) (i + 1) = r :: dec rs i := by unfold dec; rw [List.getElem?_cons_succ]; rfl
    rw [e2, Gs]
    refine sm_congr fun d _ => ?_
    rw [if_pos h]
  · rw [if_neg h, sm_zero]
    intro d _
    rw [if_neg h, Nat.mul_zero]
theorem C_succ0 (n : Nat) : ∀ d, C (n + 1) d = C n d + (if 0 < d then C n (d - 1) else 0)
  | 0 => by rw [C_one, C_one]; rfl
  | d + 1 => by rw [C_step, if_pos (by omega), Nat.add_sub_cancel, Nat.add_comm]
theorem Gs_bad : ∀ (rs : List Nat) (f : List Nat → Nat) (nb ng : Nat), Gs rs f (nb + 1) ng = Gs rs f nb ng + brB rs f nb ng
  | [], f, nb, ng => by unfold brB; rfl
  | r :: rs, f, nb, ng => by
    rw [brB_cons, Gs, Gs]
    have e1 : ∀ d, C (nb + 1) d * C ng (r - d) * Gs rs (fun xs => f (d :: xs)) (nb + 1 - d) (ng - (r - d)) =
        (C nb d * C ng (r - d) * Gs rs (fun xs => f (d :: xs)) (nb - d) (ng - (r - d)) + C nb d * C ng (r - d) * brB rs (fun xs => f (d :: xs)) (nb - d) (ng - (r - d))) +
          (if 0 < d then C nb (d - 1) * C ng (r - d) * Gs rs (fun xs => f (d :: xs)) (nb + 1 - d) (ng - (r - d)) else 0) := fun d => by
      rw [C_succ0, Nat.add_mul, Nat.add_mul]
      congr 1
      · by_cases h : d ≤ nb
        · rw [show nb + 1 - d = nb - d + 1 by omega, Gs_bad rs, Nat.mul_add]
        · rw [C_zero nb d (by omega)]; simp
      · by_cases h : 0 < d
        · rw [if_pos h, if_pos h]
        · rw [if_neg h, if_neg h]; simp
    rw [sm_congr fun d _ => e1 d, sm_add, sm_add]
    have e2 : sm (fun d => if 0 < d then C nb (d - 1) * C ng (r - d) * Gs rs (fun xs => f (d :: xs)) (nb + 1 - d) (ng - (r - d)) else 0) (r + 1) =
        if 0 < r then Gs ((r - 1) :: rs) (fun xs => f (bump xs 0)) nb ng else 0 := by
      rw [sm_head]
      rw [if_neg (Nat.lt_irrefl 0), Nat.zero_add]
      cases r with
      | zero => rw [sm, if_neg (Nat.lt_irrefl 0)]
      | succ r =>
        rw [if_pos (by omega), Nat.add_sub_cancel, Gs]
        refine sm_congr fun d _ => ?_
        rw [if_pos (by omega), Nat.add_sub_cancel, show r + 1 - (d + 1) = r - d by omega, show nb + 1 - (d + 1) = nb - d by omega]
        rfl
    rw [e2]
    omega
theorem Gs_good : ∀ (rs : List Nat) (f : List Nat → Nat) (nb ng : Nat), Gs rs f nb (ng + 1) = Gs rs f nb ng + brG rs f nb ng
  | [], f, nb, ng => by unfold brG; rfl
  | r :: rs, f, nb, ng => by
    rw [brG_cons, Gs, Gs]
    have e1 : ∀ d, C nb d * C (ng + 1) (r - d) * Gs rs (fun xs => f (d :: xs)) (nb - d) (ng + 1 - (r - d)) =
        (C nb d * C ng (r - d) * Gs rs (fun xs => f (d :: xs)) (nb - d) (ng - (r - d)) + C nb d * C ng (r - d) * brG rs (fun xs => f (d :: xs)) (nb - d) (ng - (r - d))) +
          (if 0 < r - d then C nb d * C ng (r - d - 1) * Gs rs (fun xs => f (d :: xs)) (nb - d) (ng + 1 - (r - d)) else 0) := fun d => by
      rw [C_succ0, Nat.mul_add, Nat.add_mul]
      congr 1
      · by_cases h : r - d ≤ ng
        · rw [show ng + 1 - (r - d) = ng - (r - d) + 1 by omega, Gs_good rs, Nat.mul_add]
        · rw [C_zero ng (r - d) (by omega)]; simp
      · by_cases h : 0 < r - d
        · rw [if_pos h, if_pos h]
        · rw [if_neg h, if_neg h]; simp
    rw [sm_congr fun d _ => e1 d, sm_add, sm_add]
    have e2 : sm (fun d => if 0 < r - d then C nb d * C ng (r - d - 1) * Gs rs (fun xs => f (d :: xs)) (nb - d) (ng + 1 - (r - d)) else 0) (r + 1) =
        if 0 < r then Gs ((r - 1) :: rs) f nb ng else 0 := by
      rw [sm, if_neg (by omega), Nat.add_zero]
      cases r with
      | zero => rw [sm, if_neg (Nat.lt_irrefl 0)]
      | succ r =>
        rw [if_pos (by omega), Nat.add_sub_cancel, Gs]
        refine sm_congr fun d hd => ?_
        rw [if_pos (by omega), show r + 1 - d - 1 = r - d by omega, show ng + 1 - (r + 1 - d) = ng - (r - d) by omega]
    rw [e2]
    omega
/-- piece by piece -/
def Tp : List Bool → List Nat → (List Nat → Nat) → Nat
  | [], rs, f => if rs.all (· == 0) then f (rs.map fun _ => 0) else 0
  | b :: β, rs, f => Tp β rs f + sm (fun i => if 0 < (rs[i]?).getD 0 then Tp β (dec rs i) (if b then fun xs => f (bump xs i) else f) else 0) rs.length
theorem Gs_none : ∀ (rs : List Nat) (f : List Nat → Nat), Gs rs f 0 0 = if rs.all (· == 0) then f (rs.map fun _ => 0) else 0
  | [], f => rfl
  | r :: rs, f => by
    rw [Gs]
    cases r with
    | zero =>
      rw [sm, sm, C_one]
      simp only [Nat.zero_add, Nat.mul_one, Nat.one_mul, Nat.sub_zero]
      rw [Gs_none rs]
      simp
    | succ r =>
      rw [sm_zero]
      · simp
      · intro d hd
        by_cases h : d = 0
        · subst h; rw [C_zero 0 (r + 1 - 0) (by omega)]; simp
        · rw [C_zero 0 d (by omega)]; simp
theorem Tp_eq : ∀ (β : List Bool) (rs : List Nat) (f : List Nat → Nat), Tp β rs f = Gs rs f (β.countP id) (β.countP (!·))
  | [], rs, f => by rw [Tp]; exact (Gs_none rs f).symm
  | true :: β, rs, f => by
    rw [Tp, List.countP_cons_of_pos (by rfl), List.countP_cons_of_neg (by simp), Gs_bad, Tp_eq β]
    congr 1
    unfold brB
    refine sm_congr fun i _ => ?_
    rw [Tp_eq β]
    rfl
  | false :: β, rs, f => by
    rw [Tp, List.countP_cons_of_neg (by simp), List.countP_cons_of_pos (by rfl), Gs_good, Tp_eq β]
    congr 1
    unfold brG
    refine sm_congr fun i _ => ?_
    rw [Tp_eq β]
    rfl
end Go.Ev.Ythmandhpmkfopaa

set_option linter.unusedVariables false
set_option linter.unusedSimpArgs false
namespace Go.Ev.Ythmandhpmkfopaa
def tksL (r : List S3) : List Nat := r.map fun s => s.1.toNat
theorem sm_window {f : Nat → Nat} {lo cnt n : Nat} (h1 : ∀ i, i < lo → f i = 0) (h2 : ∀ i, lo + cnt ≤ i → i < n → f i = 0) (h3 : lo + cnt ≤ n) : sm f n = sm (fun i => f (lo + i)) cnt := by
  obtain ⟨d, rfl⟩ : ∃ d, n = lo + (cnt + d) := ⟨n - lo - cnt, by omega⟩
  have z : sm (fun i => f (lo + (cnt + i))) d = 0 := sm_zero fun i hi => h2 _ (by omega) (by omega)
  rw [sm_split, sm_split, sm_zero h1, z]
  omega
theorem Gs_const (k : Nat) {lot : Nat} : ∀ (r : List S3) (taken nb ng : Nat), Fit lot taken r → nb + ng = lot - taken → Gs (tksL r) (fun _ => k) nb ng = k * restN lot taken r
  | [], taken, nb, ng, _, _ => by show k = k * 1; omega
  | s :: r, taken, nb, ng, hf, hn => by
    obtain ⟨t, ht, ht1, ht2, hf'⟩ := hf
    have e3 : s.1.toNat = t := by rw [ht, Int.toNat_natCast]
    show Gs (s.1.toNat :: tksL r) _ nb ng = _
    rw [Gs, restN, e3]
    have e : ∀ d, d < t + 1 → C nb d * C ng (t - d) * Gs (tksL r) (fun _ => k) (nb - d) (ng - (t - d)) = C nb d * C ng (t - d) * (k * restN lot (taken + t) r) := fun d hd => by
      by_cases h1 : d ≤ nb
      · by_cases h2 : t - d ≤ ng
        · rw [Gs_const k r (taken + t) _ _ hf' (by omega)]
        · rw [C_zero ng (t - d) (by omega)]; simp
      · rw [C_zero nb d (by omega)]; simp
    rw [sm_congr e, sm_mul, vander, hn]
    rw [Nat.mul_comm, Nat.mul_assoc, Nat.mul_comm (restN lot (taken + t) r)]
/-- what a draw says: accepted, its pieces, 1 -/
def evN : List S3 → Nat → Nat → List Nat → N3
  | [], _, _, _ => (0, 0, 0)
  | s :: r, taken, found, xs =>
    if ((found + (xs[0]?).getD 0 : Nat) : Int) ≤ s.2.1 then (1, taken + s.1.toNat, 1)
    else if s.2.2 ≤ ((found + (xs[0]?).getD 0 : Nat) : Int) then (0, taken + s.1.toNat, 1)
    else evN r (taken + s.1.toNat) (found + (xs[0]?).getD 0) (xs.drop 1)
theorem go_Gs {lot bad : Nat} : ∀ (r : List S3) (taken found : Nat), Fit lot taken r → Ends r → taken ≤ lot → found ≤ bad → bad - found ≤ lot - taken →
    goN lot bad r taken found = (Gs (tksL r) (fun xs => (evN r taken found xs).1) (bad - found) (lot - taken - (bad - found)),
      Gs (tksL r) (fun xs => (evN r taken found xs).2.1) (bad - found) (lot - taken - (bad - found)), Gs (tksL r) (fun xs => (evN r taken found xs).2.2) (bad - found) (lot - taken - (bad - found)))
  | [], _, _, _, h, _, _, _ => h.elim
  | s :: r, taken, found, hf, he, htl, hfb, hbl => by
    obtain ⟨t, ht, ht1, ht2, hf'⟩ := hf
    have e3 : s.1.toNat = t := by rw [ht, Int.toNat_natCast]
    have her : ∀ d : Nat, ¬ ((found + d : Nat) : Int) ≤ s.2.1 → ¬ s.2.2 ≤ ((found + d : Nat) : Int) → Ends r := fun d h1 h2 => by
      cases r with
      | nil => exfalso; have : s.2.2 = s.2.1 + 1 := he; omega
      | cons s' r' => exact he
    have key : ∀ d, d < t + 1 → d ≤ bad - found → t - d ≤ lot - taken - (bad - found) →
        nextN lot bad s r taken found d = (Gs (tksL r) (fun xs => (evN (s :: r) taken found (d :: xs)).1) (bad - found - d) (lot - taken - (bad - found) - (t - d)),
          Gs (tksL r) (fun xs => (evN (s :: r) taken found (d :: xs)).2.1) (bad - found - d) (lot - taken - (bad - found) - (t - d)), Gs (tksL r) (fun xs => (evN (s :: r) taken found (d :: xs)).2.2) (bad - found - d) (lot - taken - (bad - found) - (t - d))) := fun d hd h1 h2 => by
      have hc := fun k => Gs_const k r (taken + t) (bad - found - d) (lot - taken - (bad - found) - (t - d)) hf' (by omega)
      unfold nextN
      rw [e3]
      simp only [evN, List.getElem?_cons_zero, Option.getD_some, List.drop_succ_cons, List.drop_zero, e3]
      split
      · rename_i h
        try simp only [if_pos h]
        show _ = (Gs (tksL r) (fun _ => 1) _ _, Gs (tksL r) (fun _ => taken + t) _ _, Gs (tksL r) (fun _ => 1) _ _)
        rw [hc, hc, Nat.one_mul]
      · rename_i h
        split
        · rename_i h'
          try simp only [if_neg h, if_pos h']
          show _ = (Gs (tksL r) (fun _ => 0) _ _, Gs (tksL r) (fun _ => taken + t) _ _, Gs (tksL r) (fun _ => 1) _ _)
          rw [hc, hc, hc, Nat.one_mul, Nat.zero_mul]
        · rename_i h'
          try simp only [if_neg h, if_neg h']
          rw [go_Gs r (taken + t) (found + d) hf' (her d h h') ht2 (by omega) (by omega)]
          rw [show bad - (found + d) = bad - found - d by omega, show lot - (taken + t) - (bad - found - d) = lot - taken - (bad - found) - (t - d) by omega]
    rw [goN_sm]
    simp only [e3]
    have win : ∀ f : N3 → Nat, sm (fun i => manyN (lot - taken) (bad - found) t (lowN (lot - taken) (bad - found) t + i) * f (nextN lot bad s r taken found (lowN (lot - taken) (bad - found) t + i))) (cntN (lot - taken) (bad - found) t) =
        sm (fun d => C (bad - found) d * C (lot - taken - (bad - found)) (t - d) * f (nextN lot bad s r taken found d)) (t + 1) := fun f => by
      refine (sm_window (f := fun d => C (bad - found) d * C (lot - taken - (bad - found)) (t - d) * f (nextN lot bad s r taken found d)) (fun i hi => ?_) (fun i hi hi2 => ?_) ?_).symm
      · rw [C_zero (lot - taken - (bad - found)) (t - i) (by unfold lowN at hi; omega)]; simp
      · rw [C_zero (bad - found) i (by unfold cntN lowN at hi; omega)]; simp
      · unfold cntN lowN; omega
    have w1 := win (·.1)
    have w2 := win (·.2.1)
    have w3 := win (·.2.2)
    rw [w1, w2, w3]
    have fin : ∀ (f : N3 → Nat) (g : List Nat → Nat), (∀ d, d < t + 1 → d ≤ bad - found → t - d ≤ lot - taken - (bad - found) → f (nextN lot bad s r taken found d) = Gs (tksL r) (fun xs => g (d :: xs)) (bad - found - d) (lot - taken - (bad - found) - (t - d))) →
        sm (fun d => C (bad - found) d * C (lot - taken - (bad - found)) (t - d) * f (nextN lot bad s r taken found d)) (t + 1) = Gs (tksL (s :: r)) g (bad - found) (lot - taken - (bad - found)) := fun f g h => by
      show _ = Gs (s.1.toNat :: tksL r) g _ _
      rw [Gs, e3]
      refine sm_congr fun d hd => ?_
      by_cases h1 : d ≤ bad - found
      · by_cases h2 : t - d ≤ lot - taken - (bad - found)
        · rw [h d hd h1 h2]
        · rw [C_zero (lot - taken - (bad - found)) (t - d) (by omega)]; simp
      · rw [C_zero (bad - found) d (by omega)]; simp
    rw [fin (·.1) (fun xs => (evN (s :: r) taken found xs).1) (fun d a b c => by rw [key d a b c]), fin (·.2.1) (fun xs => (evN (s :: r) taken found xs).2.1) (fun d a b c => by rw [key d a b c]), fin (·.2.2) (fun xs => (evN (s :: r) taken found xs).2.2) (fun d a b c => by rw [key d a b c])]
/-! ### all draws, one by one -/
/-- which pieces a draw has in a stage: how many, how many bad ones -/
def cntD (b : List Int) (i : Nat) : Nat := b.countP fun x => x == (i : Int)
def badD (bits : Nat → Bool) (b : List Int) (i : Nat) : Nat := (b.zipIdx.countP fun p => p.1 == (i : Int) && bits p.2)
def fullD (ts : List Nat) (b : List Int) : Bool := (List.range ts.length).all fun i => cntD b i == (ts[i]?).getD 0
def drawsL (ts : List Nat) : Nat → List Int → List (List Int)
  | 0, b => if fullD ts b then [b] else []
  | m + 1, b => drawsL ts m (b ++ [-1]) ++ (List.range ts.length).flatMap fun i => if cntD b i < (ts[i]?).getD 0 then drawsL ts m (b ++ [(i : Int)]) else []
def remD (ts : List Nat) (b : List Int) : List Nat := (List.range ts.length).map fun i => (ts[i]?).getD 0 - cntD b i
def addD (bits : Nat → Bool) (b : List Int) (n : Nat) (ys : List Nat) : List Nat := (List.range n).map fun i => badD bits b i + (ys[i]?).getD 0
theorem cntD_app (b : List Int) (x : Int) (i : Nat) : cntD (b ++ [x]) i = cntD b i + if x = (i : Int) then 1 else 0 := by
  unfold cntD
  rw [List.countP_append]
  congr 1
  by_cases h : x = (i : Int)
  · rw [if_pos h, h]; simp
  · rw [if_neg h]; simp [h]
theorem badD_app (bits : Nat → Bool) (b : List Int) (x : Int) (i : Nat) : badD bits (b ++ [x]) i = badD bits b i + if x = (i : Int) ∧ bits b.length = true then 1 else 0 := by
  unfold badD
  rw [List.zipIdx_append, List.countP_append]
  congr 1
  by_cases h : x = (i : Int)
  · cases hb : bits b.length with
    | true => rw [if_pos ⟨h, rfl⟩, h]; simp [hb]
    | false => rw [if_neg (by simp)]; simp [hb]
  · rw [if_neg fun h' => h h'.1]; simp [h]
theorem Tp_congr : ∀ (β : List Bool) (rs : List Nat) (f f' : List Nat → Nat), (∀ ys, ys.length = rs.length → f ys = f' ys) → Tp β rs f = Tp β rs f'
  | [], rs, f, f', h => by rw [Tp, Tp, h _ (by simp)]
  | b :: β, rs, f, f', h => by
    rw [Tp, Tp, Tp_congr β rs f f' h]
    congr 1
    refine sm_congr fun i hi => ?_
    by_cases hp : 0 < (rs[i]?).getD 0
    · rw [if_pos hp, if_pos hp]
      refine Tp_congr β _ _ _ fun ys hy => ?_
      have hy : ys.length = rs.length := by rw [hy]; unfold dec; rw [List.length_set]
      cases b with
      | true => exact h _ (by unfold bump; rw [List.length_set]; exact hy)
      | false => exact h _ hy
    · rw [if_neg hp, if_neg hp]
theorem sum_fm {α : Type} (f : α → List Nat) : ∀ l : List α, (l.flatMap f).sum = (l.map fun a => (f a).sum).sum
  | [] => rfl
  | a :: l => by rw [List.flatMap_cons, List.sum_append, sum_fm f l, List.map_cons, List.sum_cons]
theorem sum_range (f : Nat → Nat) : ∀ n, ((List.range n).map f).sum = sm f n
  | 0 => rfl
  | n + 1 => by rw [List.range_succ, List.map_append, List.sum_append, sum_range f n, sm]; simp
theorem remD_get {ts : List Nat} {b : List Int} {i : Nat} (h : i < ts.length) : ((remD ts b)[i]?).getD 0 = (ts[i]?).getD 0 - cntD b i := by
  unfold remD
  rw [List.getElem?_map, List.getElem?_range h]
  rfl
theorem remD_at {ts : List Nat} {b : List Int} {j : Nat} (h : j < (remD ts b).length) : (remD ts b)[j] = (ts[j]?).getD 0 - cntD b j := by simp [remD]
theorem remD_len (ts : List Nat) (b : List Int) : (remD ts b).length = ts.length := by unfold remD; simp
/-- the sum over all draws that begin so -/
theorem draws_sum (ts : List Nat) (bits : Nat → Bool) (g : List Nat → Nat) : ∀ (m : Nat) (b : List Int), (∀ i, i < ts.length → cntD b i ≤ (ts[i]?).getD 0) →
    ((drawsL ts m b).map fun a => g ((List.range ts.length).map (badD bits a))).sum = Tp ((List.range' b.length m).map bits) (remD ts b) (fun ys => g (addD bits b ts.length ys))
  | 0, b, hc => by
    rw [drawsL, List.range'_zero, List.map_nil, Tp]
    have e : (remD ts b).all (· == 0) = fullD ts b := by
      unfold remD fullD
      rw [List.all_map, Bool.eq_iff_iff, List.all_eq_true, List.all_eq_true]
      refine forall_congr' fun i => forall_congr' fun hi => ?_
      have := hc i (List.mem_range.1 hi)
      simp only [Function.comp, beq_iff_eq]
      omega
    rw [e]
    split
    · simp only [List.map_cons, List.map_nil, List.sum_cons, List.sum_nil, Nat.add_zero]
      congr 1
      unfold addD
      refine List.map_congr_left fun i hi => ?_
      have hi := List.mem_range.1 hi
      rw [List.getElem?_map]
      cases (remD ts b)[i]? <;> simp
    · rfl
  | m + 1, b, hc => by
    rw [drawsL, List.range'_succ, List.map_cons, Tp, List.map_append, List.sum_append]
    have hl : ∀ x : Int, (b ++ [x]).length = b.length + 1 := fun x => by simp
    congr 1
    · rw [draws_sum ts bits g m (b ++ [-1]) (fun i hi => by rw [cntD_app, if_neg (by omega)]; exact hc i hi), hl]
      have e1 : remD ts (b ++ [-1]) = remD ts b := by
        unfold remD
        refine List.map_congr_left fun i _ => ?_
        rw [cntD_app, if_neg (by omega), Nat.add_zero]
      rw [e1]
      refine Tp_congr _ _ _ _ fun ys _ => ?_
      congr 1
      unfold addD
      refine List.map_congr_left fun i _ => ?_
      rw [badD_app, if_neg (by omega), Nat.add_zero]
    · rw [List.map_flatMap, sum_fm, sum_range, remD_len]
      refine sm_congr fun i hi => ?_
      rw [remD_get hi]
      by_cases hp : cntD b i < (ts[i]?).getD 0
      · rw [if_pos hp, if_pos (by omega)]
        rw [draws_sum ts bits g m (b ++ [(i : Int)]) (fun j hj => by
          rw [cntD_app]
          by_cases h : (i : Int) = (j : Int)
          · have : i = j := by omega
            subst this
            rw [if_pos rfl]; omega
          · rw [if_neg h]; exact hc j hj), hl]
        have e1 : remD ts (b ++ [(i : Int)]) = dec (remD ts b) i := by
          unfold dec
          rw [remD_get hi]
          refine List.ext_getElem (by simp [remD]) fun j h1 h2 => ?_
          have hj : j < ts.length := by simpa [remD] using h1
          rw [List.getElem_set, remD_at h1, cntD_app]
          by_cases h : i = j
          · subst h; rw [if_pos rfl, if_pos rfl]; omega
          · rw [if_neg (by omega), if_neg h, remD_at (by rw [remD_len]; exact hj)]; omega
        rw [e1]
        refine Tp_congr _ _ _ _ fun ys hy => ?_
        have hy : ys.length = ts.length := by rw [hy]; unfold dec; rw [List.length_set, remD_len]
        cases hb : bits b.length with
        | true =>
          simp only [if_true]
          congr 1
          unfold addD
          refine List.map_congr_left fun j hj => ?_
          have hj := List.mem_range.1 hj
          rw [badD_app]
          unfold bump
          by_cases h : i = j
          · subst h
            rw [if_pos ⟨rfl, hb⟩, List.getElem?_set_self (by omega)]
            simp only [Option.getD_some]
            omega
          · rw [if_neg (by omega), List.getElem?_set_ne h]
            omega
        | false =>
          simp only [if_false, Bool.false_eq_true]
          congr 1
          unfold addD
          refine List.map_congr_left fun j hj => ?_
          rw [badD_app, if_neg (by rw [hb]; simp), Nat.add_zero]
      · rw [if_neg hp, if_neg (by omega)]; rfl
/-- all draws have their pieces -/
theorem draws_full {ts : List Nat} : ∀ (m : Nat) (b a : List Int), a ∈ drawsL ts m b → fullD ts a = true ∧ a.length = b.length + m
  | 0, b, a, h => by
    rw [drawsL] at h
    split at h
    · rename_i hf
      rw [List.mem_singleton] at h
      subst h
      exact ⟨hf, rfl⟩
    · cases h
  | m + 1, b, a, h => by
    rw [drawsL] at h
    rcases List.mem_append.1 h with h | h
    · have := draws_full m _ a h
      simp only [List.length_append, List.length_singleton] at this
      exact ⟨this.1, by omega⟩
    · obtain ⟨i, hi, h⟩ := List.mem_flatMap.1 h
      split at h
      · have := draws_full m _ a h
        simp only [List.length_append, List.length_singleton] at this
        exact ⟨this.1, by omega⟩
      · cases h
end Go.Ev.Ythmandhpmkfopaa

set_option linter.unusedVariables false
set_option linter.unusedSimpArgs false
namespace Go.Ev.Ythmandhpmkfopaa
/-- the results of a stage's pieces, of the first so many pieces -/
def stB (bits : Nat → Bool) (a : List Int) (s : Nat) : Nat → List Bool
  | 0 => []
  | k + 1 => stB bits a s k ++ (if (a[k]?).getD (-1) = (s : Int) then [bits k] else [])
theorem badN_app (a b : List Bool) : badN (a ++ b) = badN a + badN b := by unfold badN; rw [List.countP_append]
theorem stB_take (bits : Nat → Bool) (a : List Int) (s : Nat) : ∀ k, k ≤ a.length → (stB bits a s k).length = cntD (a.take k) s ∧ badN (stB bits a s k) = badD bits (a.take k) s
  | 0, _ => by rw [List.take_zero]; exact ⟨rfl, rfl⟩
  | k + 1, h => by
    obtain ⟨h1, h2⟩ := stB_take bits a s k (by omega)
    have hk : k < a.length := by omega
    have e : a.take (k + 1) = a.take k ++ [a[k]] := by rw [List.take_add_one, List.getElem?_eq_getElem hk]; rfl
    have hl : (a.take k).length = k := by rw [List.length_take]; omega
    rw [stB, e, cntD_app, badD_app, hl, List.length_append, badN_app, h1, h2, List.getElem?_eq_getElem hk, Option.getD_some]
    by_cases hs : a[k] = (s : Int)
    · rw [if_pos hs, if_pos hs]
      refine ⟨rfl, ?_⟩
      congr 1
      cases hb : bits k with
      | true => rw [if_pos ⟨hs, rfl⟩]; rfl
      | false => rw [if_neg (by simp)]; rfl
    · rw [if_neg hs, if_neg hs, if_neg fun h' => hs h'.1]
      exact ⟨rfl, rfl⟩
theorem stB_all {bits : Nat → Bool} {a : List Int} (s : Nat) : (stB bits a s a.length).length = cntD a s ∧ badN (stB bits a s a.length) = badD bits a s := by
  have := stB_take bits a s a.length (Nat.le_refl _)
  rwa [List.take_length] at this
/-- results of stages that decided nothing -/
def Opened (l : List S3) (i : Nat) (res : List Bool) : Prop := ∃ v, ∀ ext, playN (res ++ ext) l 0 0 0 = playN (res ++ ext) (l.drop i) res.length (badN res) v
theorem opened0 (l : List S3) : Opened l 0 [] := ⟨0, fun ext => rfl⟩
theorem blk_mid (res bl ext : List Bool) : blk (res ++ bl ++ ext) res.length bl.length = badN bl := by
  unfold blk
  have e : (res ++ bl ++ ext).take (res.length + bl.length) = res ++ bl := by
    rw [← List.length_append, List.take_left]
  rw [e, List.drop_left]
theorem opened_step {l : List S3} {i : Nat} {res bl : List Bool} {q : S3} {r : List S3} (h : Opened l i res) (hd : l.drop i = q :: r) (ht : q.1.toNat = bl.length) (hs : says q.2.1 q.2.2 ((badN res + badN bl : Nat) : Int) = 3) : Opened l (i + 1) (res ++ bl) := by
  obtain ⟨v, h⟩ := h
  refine ⟨3, fun ext => ?_⟩
  have := h (bl ++ ext)
  rw [← List.append_assoc] at this
  have hd1 : l.drop (i + 1) = r := by rw [← List.drop_drop, hd]; rfl
  rw [this, hd, playN_cons, ht, blk_mid, hd1, if_neg (by simp only [List.length_append]; omega), if_neg (by rw [hs]; simp), List.length_append, badN_app]
theorem opened_play {l : List S3} {i : Nat} {res bl : List Bool} {q : S3} {r : List S3} (h : Opened l i res) (hd : l.drop i = q :: r) (ht : q.1.toNat = bl.length) (he : Ends (q :: r)) (h1 : r ≠ [] → ∃ q' r', r = q' :: r' ∧ 1 ≤ q'.1.toNat) :
    (playN (res ++ bl) l 0 0 0).1 = says q.2.1 q.2.2 ((badN res + badN bl : Nat) : Int) ∧ (playN (res ++ bl) l 0 0 0).2.2 = 0 := by
  obtain ⟨v, h⟩ := h
  have hb := blk_mid res bl []
  rw [List.append_nil] at hb
  rw [h bl, hd, playN_cons, ht, hb, if_neg (by simp only [List.length_append]; omega)]
  by_cases hs : says q.2.1 q.2.2 ((badN res + badN bl : Nat) : Int) = 3
  · rw [if_neg (by rw [hs]; simp), hs]
    cases r with
    | nil => exact absurd hs (says_end he)
    | cons q' r' =>
      obtain ⟨q2, r2, e, h2⟩ := h1 (by simp)
      cases e
      rw [playN_cons, if_pos (by simp only [List.length_append]; omega)]
      exact ⟨rfl, rfl⟩
  · rw [if_pos hs, if_neg (by simp only [List.length_append]; omega)]
    exact ⟨rfl, rfl⟩
theorem says_cases (a r b : Int) : (b ≤ a ∧ says a r b = 1) ∨ (¬ b ≤ a ∧ r ≤ b ∧ says a r b = 2) ∨ (¬ b ≤ a ∧ ¬ r ≤ b ∧ says a r b = 3) := by
  unfold says
  by_cases h : b ≤ a
  · exact .inl ⟨h, by rw [if_pos h]⟩
  · by_cases h2 : r ≤ b
    · exact .inr (.inl ⟨h, h2, by rw [if_neg h, if_pos h2]⟩)
    · exact .inr (.inr ⟨h, h2, by rw [if_neg h, if_neg h2]⟩)
/-! ### all draws together -/
def evD (l : List S3) (bits : Nat → Bool) (a : List Int) : N3 := evN l 0 0 ((List.range l.length).map (badD bits a))
theorem all_draws {n : Nat} {l : List S3} (hf : Fit n 0 l) (he : Ends l) (bits : Nat → Bool) {bad : Nat} (hb : bad = ((List.range n).map bits).countP id) (f : N3 → Nat) (hfc : f = (·.1) ∨ f = (·.2.1) ∨ f = (·.2.2)) :
    ((drawsL (tksL l) n []).map fun a => f (evD l bits a)).sum = f (goN n bad l 0 0) := by
  have hlen : (tksL l).length = l.length := by unfold tksL; simp
  have hbn : bad ≤ n := by rw [hb]; exact Nat.le_trans List.countP_le_length (by simp)
  have h := draws_sum (tksL l) bits (fun xs => f (evN l 0 0 xs)) n [] (fun i _ => Nat.zero_le _)
  rw [hlen] at h
  have e0 : remD (tksL l) [] = tksL l := by
    unfold remD
    refine List.ext_getElem (by simp) fun j h1 h2 => ?_
    rw [List.getElem_map, List.getElem_range, List.getElem?_eq_getElem h2]
    rfl
  have e1 : Tp ((List.range' ([] : List Int).length n).map bits) (remD (tksL l) []) (fun ys => f (evN l 0 0 (addD bits [] l.length ys))) = Tp ((List.range n).map bits) (tksL l) (fun ys => f (evN l 0 0 ys)) := by
    rw [e0, List.length_nil, ← List.range_eq_range']
    refine Tp_congr _ _ _ _ fun ys hy => ?_
    congr 2
    rw [hlen] at hy
    unfold addD
    refine List.ext_getElem (by simp [hy]) fun j h1 h2 => ?_
    rw [List.getElem_map, List.getElem_range, List.getElem?_eq_getElem h2]
    show 0 + ys[j] = ys[j]
    omega
  have e2 : ((List.range n).map bits).countP (!·) = n - bad := by
    have := List.length_eq_countP_add_countP (id : Bool → Bool) (l := (List.range n).map bits)
    rw [← hb] at this
    have e3 : ((List.range n).map bits).countP (fun b => decide ¬ (id b = true)) = ((List.range n).map bits).countP (!·) := by
      refine List.countP_congr fun b _ => ?_
      cases b <;> simp
    simp only [List.length_map, List.length_range] at this
    omega
  show ((drawsL (tksL l) n []).map fun a => (fun xs => f (evN l 0 0 xs)) ((List.range l.length).map (badD bits a))).sum = _
  rw [h, e1, Tp_eq, ← hb, e2]
  have hg := go_Gs (lot := n) (bad := bad) l 0 0 hf he (Nat.zero_le _) (Nat.zero_le _) (by omega)
  simp only [Nat.sub_zero] at hg
  rw [hg]
  rcases hfc with rfl | rfl | rfl <;> rfl
theorem ev_one {l : List S3} : ∀ {taken found : Nat} {xs : List Nat}, Ends l → (evN l taken found xs).2.2 = 1 := by
  induction l with
  | nil => intro _ _ _ h; exact h.elim
  | cons s r ih =>
    intro taken found xs he
    rw [evN]
    split
    · rfl
    · split
      · rfl
      · cases r with
        | nil => exfalso; have : s.2.2 = s.2.1 + 1 := he; omega
        | cons s' r' => exact ih he
theorem draws_many {n : Nat} {l : List S3} (hf : Fit n 0 l) (he : Ends l) : (drawsL (tksL l) n []).length = restN n 0 l := by
  have h := all_draws hf he (fun _ => false) (bad := ((List.range n).map fun _ => false).countP id) rfl (·.2.2) (.inr (.inr rfl))
  have e : ((drawsL (tksL l) n []).map fun a => (evD l (fun _ => false) a).2.2) = (drawsL (tksL l) n []).map fun _ => 1 := List.map_congr_left fun a _ => ev_one he
  have hb : ((List.range n).map fun _ => false).countP id ≤ n := Nat.le_trans List.countP_le_length (by simp)
  rw [e, (go_facts n _ l 0 0 hf he (Nat.zero_le _) (Nat.zero_le _) (by omega)).1] at h
  rw [← h]
  induction drawsL (tksL l) n [] with
  | nil => rfl
  | cons a l ih => rw [List.map_cons, List.sum_cons, List.length_cons, ih]; omega
end Go.Ev.Ythmandhpmkfopaa

set_option linter.unusedVariables false
set_option linter.unusedSimpArgs false
set_option maxRecDepth 100000
namespace Go.Ev.Ythmandhpmkfopaa
open Go.Proofs
abbrev isD (b : List Int) : D := .seq (b.map fun x => [dI x])
abbrev dsD (L : List (List Int)) : D := .seq (L.map fun a => [isD a])
theorem draws_len (ts : List Nat) : ∀ (m : Nat) (b : List Int), (drawsL ts m b).length ≤ (ts.length + 1) ^ m
  | 0, b => by
    rw [drawsL]
    split <;> simp
  | m + 1, b => by
    have h1 := draws_len ts m (b ++ [-1])
    have key : ∀ k, ((List.range k).flatMap fun i => if cntD b i < (ts[i]?).getD 0 then drawsL ts m (b ++ [(i : Int)]) else []).length ≤ k * (ts.length + 1) ^ m := fun k => by
      induction k with
      | zero => simp
      | succ k ih =>
        rw [List.range_succ, List.flatMap_append, List.length_append, Nat.add_mul, Nat.one_mul]
        refine Nat.add_le_add ih ?_
        simp only [List.flatMap_cons, List.flatMap_nil, List.append_nil]
        split
        · exact draws_len ts m _
        · simp
    have h2 := key ts.length
    rw [drawsL, List.length_append, Nat.pow_succ, Nat.mul_add, Nat.mul_one]
    rw [Nat.mul_comm ts.length] at h2
    omega
/-- the draws up to a stage -/
def outD (ts : List Nat) (m : Nat) (b : List Int) : Nat → List (List Int)
  | 0 => []
  | 1 => drawsL ts m (b ++ [-1])
  | j + 2 => outD ts m b (j + 1) ++ if cntD b j < (ts[j]?).getD 0 then drawsL ts m (b ++ [(j : Int)]) else []
theorem outD_eq (ts : List Nat) (m : Nat) (b : List Int) : ∀ j, outD ts m b (j + 1) = drawsL ts m (b ++ [-1]) ++ (List.range j).flatMap fun i => if cntD b i < (ts[i]?).getD 0 then drawsL ts m (b ++ [(i : Int)]) else []
  | 0 => by simp [outD]
  | j + 1 => by
    rw [outD, outD_eq ts m b j, List.range_succ, List.flatMap_append, List.append_assoc]
    simp
theorem outD_all (ts : List Nat) (m : Nat) (b : List Int) : outD ts m b (ts.length + 1) = drawsL ts (m + 1) b := by rw [outD_eq, drawsL]
theorem outD_len (ts : List Nat) (m : Nat) (b : List Int) : ∀ j, (outD ts m b j).length ≤ j * (ts.length + 1) ^ m
  | 0 => by simp [outD]
  | 1 => by rw [outD, Nat.one_mul]; exact draws_len ts m _
  | j + 2 => by
    have h := outD_len ts m b (j + 1)
    rw [outD, List.length_append, Nat.add_mul (j + 1) 1, Nat.one_mul]
    refine Nat.add_le_add h ?_
    split
    · exact draws_len ts m _
    · simp
theorem cntD_take {b : List Int} {k : Nat} (h : k < b.length) (i : Nat) : cntD (b.take (k + 1)) i = cntD (b.take k) i + if b[k] = (i : Int) then 1 else 0 := by
  rw [List.take_add_one, List.getElem?_eq_getElem h]
  exact cntD_app _ _ _
theorem cntD_le (b : List Int) (i : Nat) : cntD b i ≤ b.length := List.countP_le_length
theorem geti' (b : List Int) (k : Nat) (h : k < b.length) : (b.map fun x => [dI x])[k]? = some [dI b[k]] := by simp [h]
theorem tks_get {l : List S3} {n : Nat} (hf : Fit n 0 l) {i : Nat} (h : i < l.length) : ∃ t : Nat, (l[i]).1 = t ∧ ((tksL l)[i]?).getD 0 = t ∧ t ≤ n := by
  obtain ⟨t, h1, h2, h3⟩ := fit_at hf (List.getElem?_eq_getElem h)
  refine ⟨t, h1, ?_, h3⟩
  unfold tksL
  rw [List.getElem?_map, List.getElem?_eq_getElem h]
  show (l[i]).1.toNat = t
  rw [h1, Int.toNat_natCast]
attribute [local irreducible] Pure Bor Iter tri C memo goN check accR cntR restN drawsL
set_option maxHeartbeats 4000000 in
theorem draws_pure {n : Nat} (hn : n ≤ 7) {l : List S3} (hl : l.length ≤ 3) (hf : Fit n 0 l) : ∀ (m : Nat) (b : List Int), b.length + m = n → Pure Try.prog 27 [plD n l, isD b] (dsD (drawsL (tksL l) m b))
  | 0, b, hb => by
    have hm : ((l.map stD).length : Int) = l.length := by rw [List.length_map]
    have hmb : ((b.map fun x => [dI x]).length : Int) = b.length := by rw [List.length_map]
    have f1 : (((b.map fun x => [dI x]).length : Int) == (n : Int)) = true := by rw [hmb, beq_iff_eq]; omega
    refine pure_of_n pg Try.func27 (by kernel_rfl) ?_
    conv => whnf
    (repeat' (first | (apply kT (by with_reducible first | rfl | assumption); conv => whnf) | (apply kF (by with_reducible first | rfl | assumption); conv => whnf) | (apply kT (by decide); conv => whnf) | (apply kF (by decide); conv => whnf) | (apply kB <;> intro _ <;> conv => whnf) | fail))
    refine ⟨[], [1, 2, 5], [0], 1, fun m s => ∃ i : Nat, i + m = l.length ∧ (∀ j, j < i → cntD b j = ((tksL l)[j]?).getD 0) ∧ s = ⟨[(1, .d (isD b)), (2, .ref 0 0), (5, .d (dI i))], [(0, .var false 24 [.d (dI n), .d (.seq (l.map stD))])], 1⟩, ?_, ?_⟩
    · conv => whnf
      exact ⟨l.length, 0, by omega, fun j hj => by omega, rfl⟩
    · rintro m _ ⟨i, hi, hall, rfl⟩
      have htl : (tksL l).length = l.length := by unfold tksL; simp
      by_cases hil : i < l.length
      · have f2 : decide ((i : Int) < ((l.map stD).length : Int)) = true := decide_eq_true (by rw [hm]; omega)
        have hgs := getD? l i hil
        have htk := tks_get hf hil
        conv => whnf
        (repeat' (first | (apply kT (by with_reducible first | rfl | assumption); conv => whnf) | (apply kF (by with_reducible first | rfl | assumption); conv => whnf) | (apply kT (by decide); conv => whnf) | (apply kF (by decide); conv => whnf) | (apply kB <;> intro _ <;> conv => whnf) | fail))
        refine ⟨[], [1, 2, 5, 6, 7], [0], 1, fun m s => ∃ k : Nat, k + m = b.length ∧ s = ⟨[(1, .d (isD b)), (2, .ref 0 0), (5, .d (dI i)), (6, .d (dI (cntD (b.take k) i : Nat))), (7, .d (dI k))], [(0, .var false 24 [.d (dI n), .d (.seq (l.map stD))])], 1⟩, ?_, ?_⟩
        · conv => whnf
          exact ⟨b.length, 0, by omega, rfl⟩
        · rintro m2 _ ⟨k, hk, rfl⟩
          by_cases hkl : k < b.length
          · have f3 : decide ((k : Int) < ((b.map fun x => [dI x]).length : Int)) = true := decide_eq_true (by rw [hmb]; omega)
            have hgb := geti' b k hkl
            have hct := cntD_take hkl i
            have hcl := Nat.le_trans (cntD_le (b.take k) i) (by rw [List.length_take]; exact Nat.min_le_right _ _)
            have w1k : IntKind.i64.wrap ((k : Int) + 1) = ((k + 1 : Nat) : Int) := by rw [wrapI (by omega) (by omega)]; rfl
            have w1c : IntKind.i64.wrap ((cntD (b.take k) i : Int) + 1) = ((cntD (b.take k) i + 1 : Nat) : Int) := by rw [wrapI (by omega) (by omega)]; rfl
            by_cases hbe : b[k] = (i : Int)
            · have f4 : (b[k] == (i : Int)) = true := by rw [hbe]; simp
              rw [if_pos hbe] at hct
              conv => whnf
              (repeat' (first | (apply kT (by with_reducible first | rfl | assumption); conv => whnf) | (apply kF (by with_reducible first | rfl | assumption); conv => whnf) | (apply kT (by decide); conv => whnf) | (apply kF (by decide); conv => whnf) | (apply kB <;> intro _ <;> conv => whnf) | fail))
              (refine ⟨k, _, rfl, hgb, rfl, ?_⟩; conv => whnf)
              (repeat' (first | (apply kT (by with_reducible first | rfl | assumption); conv => whnf) | (apply kF (by with_reducible first | rfl | assumption); conv => whnf) | (apply kT (by decide); conv => whnf) | (apply kF (by decide); conv => whnf) | (apply kB <;> intro _ <;> conv => whnf) | fail))
              refine ⟨m2 - 1, by omega, k + 1, by omega, ?_⟩
              rw [hct, w1k, w1c]
            · have f4 : (b[k] == (i : Int)) = false := by rw [beq_eq_false_iff_ne]; exact hbe
              rw [if_neg hbe] at hct
              conv => whnf
              (repeat' (first | (apply kT (by with_reducible first | rfl | assumption); conv => whnf) | (apply kF (by with_reducible first | rfl | assumption); conv => whnf) | (apply kT (by decide); conv => whnf) | (apply kF (by decide); conv => whnf) | (apply kB <;> intro _ <;> conv => whnf) | fail))
              (refine ⟨k, _, rfl, hgb, rfl, ?_⟩; conv => whnf)
              (repeat' (first | (apply kT (by with_reducible first | rfl | assumption); conv => whnf) | (apply kF (by with_reducible first | rfl | assumption); conv => whnf) | (apply kT (by decide); conv => whnf) | (apply kF (by decide); conv => whnf) | (apply kB <;> intro _ <;> conv => whnf) | fail))
              refine ⟨m2 - 1, by omega, k + 1, by omega, ?_⟩
              rw [hct, w1k]
              rfl
          · have f3 : decide ((k : Int) < ((b.map fun x => [dI x]).length : Int)) = false := decide_eq_false (by rw [hmb]; omega)
            have hkb : k = b.length := by omega
            subst hkb
            rw [List.take_length]
            refine Exists.elim htk fun t ht => ?_
            have w1i : IntKind.i64.wrap ((i : Int) + 1) = ((i + 1 : Nat) : Int) := by rw [wrapI (by omega) (by omega)]; rfl
            by_cases hne : cntD b i = t
            · have f4 : ((cntD b i : Int) != (l[i]).1) = false := by rw [ht.1, bne_eq_false_iff_eq]; omega
              conv => whnf
              (repeat' (first | (apply kT (by with_reducible first | rfl | assumption); conv => whnf) | (apply kF (by with_reducible first | rfl | assumption); conv => whnf) | (apply kT (by decide); conv => whnf) | (apply kF (by decide); conv => whnf) | (apply kB <;> intro _ <;> conv => whnf) | fail))
              (refine ⟨i, _, rfl, hgs, rfl, ?_⟩; conv => whnf)
              (repeat' (first | (apply kT (by with_reducible first | rfl | assumption); conv => whnf) | (apply kF (by with_reducible first | rfl | assumption); conv => whnf) | (apply kT (by decide); conv => whnf) | (apply kF (by decide); conv => whnf) | (apply kB <;> intro _ <;> conv => whnf) | fail))
              refine ⟨m - 1, by omega, i + 1, by omega, fun j hj => ?_, ?_⟩
              · by_cases h : j < i
                · exact hall j h
                · have : j = i := by omega
                  subst this
                  rw [ht.2.1, hne]
              · rw [w1i]
            · have f4 : ((cntD b i : Int) != (l[i]).1) = true := by rw [ht.1, bne_iff_ne]; omega
              have hfl : fullD (tksL l) b = false := by
                refine (Bool.not_eq_true _).mp fun h => ?_
                unfold fullD at h
                have := List.all_eq_true.1 h i (List.mem_range.2 (by rw [htl]; exact hil))
                rw [beq_iff_eq, ht.2.1] at this
                exact hne this
              have e : drawsL (tksL l) 0 b = [] := by rw [drawsL, if_neg (by rw [hfl]; simp)]
              rw [e]
              conv => whnf
              (repeat' (first | (apply kT (by with_reducible first | rfl | assumption); conv => whnf) | (apply kF (by with_reducible first | rfl | assumption); conv => whnf) | (apply kT (by decide); conv => whnf) | (apply kF (by decide); conv => whnf) | (apply kB <;> intro _ <;> conv => whnf) | fail))
              (refine ⟨i, _, rfl, hgs, rfl, ?_⟩; conv => whnf)
              (repeat' (first | (apply kT (by with_reducible first | rfl | assumption); conv => whnf) | (apply kF (by with_reducible first | rfl | assumption); conv => whnf) | (apply kT (by decide); conv => whnf) | (apply kF (by decide); conv => whnf) | (apply kB <;> intro _ <;> conv => whnf) | fail))
              rfl
      · have f2 : decide ((i : Int) < ((l.map stD).length : Int)) = false := decide_eq_false (by rw [hm]; omega)
        have hfl : fullD (tksL l) b = true := by
          unfold fullD
          refine List.all_eq_true.2 fun j hj => ?_
          rw [htl] at hj
          have := List.mem_range.1 hj
          rw [hall j (by omega)]
          simp
        have e : drawsL (tksL l) 0 b = [b] := by rw [drawsL, if_pos hfl]
        rw [e]
        conv => whnf
        (repeat' (first | (apply kT (by with_reducible first | rfl | assumption); conv => whnf) | (apply kF (by with_reducible first | rfl | assumption); conv => whnf) | (apply kT (by decide); conv => whnf) | (apply kF (by decide); conv => whnf) | (apply kB <;> intro _ <;> conv => whnf) | fail))
        (refine ⟨by simp, by simp only [List.length_nil, List.length_map]; omega, ?_⟩; conv => whnf)
        (repeat' (first | (apply kT (by with_reducible first | rfl | assumption); conv => whnf) | (apply kF (by with_reducible first | rfl | assumption); conv => whnf) | (apply kT (by decide); conv => whnf) | (apply kF (by decide); conv => whnf) | (apply kB <;> intro _ <;> conv => whnf) | fail))
        rfl
  | m + 1, b, hb => by
    have hm : ((l.map stD).length : Int) = l.length := by rw [List.length_map]
    have hmb : ((b.map fun x => [dI x]).length : Int) = b.length := by rw [List.length_map]
    have f1 : (((b.map fun x => [dI x]).length : Int) == (n : Int)) = false := by rw [hmb, beq_eq_false_iff_ne]; omega
    have ih := fun x => draws_pure hn hl hf m (b ++ [x]) (by simp; omega)
    refine pure_of_n pg Try.func27 (by kernel_rfl) ?_
    conv => whnf
    (repeat' (first | (apply kT (by with_reducible first | rfl | assumption); conv => whnf) | (apply kF (by with_reducible first | rfl | assumption); conv => whnf) | (apply kT (by decide); conv => whnf) | (apply kF (by decide); conv => whnf) | (apply kB <;> intro _ <;> conv => whnf) | fail))
    have htl : (tksL l).length = l.length := by unfold tksL; simp
    refine ⟨[.own 8 53, .rex], [1, 2, 8, 9], [0, 1], 2, fun m' s => ∃ j : Nat, j + m' = l.length + 1 ∧ s = ⟨[(1, .d (isD b)), (2, .ref 0 0), (8, .own 1), (9, .d (dI ((j : Int) - 1)))],
      [(0, .var false 24 [.d (dI n), .d (.seq (l.map stD))]), (1, .arr 53 ((outD (tksL l) m b j).map fun a => [isD a]))], 2⟩, ?_, ?_⟩
    · conv => whnf
      exact ⟨l.length + 1, 0, by omega, rfl⟩
    · rintro m' _ ⟨j, hj, rfl⟩
      by_cases hjl : j < l.length + 1
      · have f2 : decide ((j : Int) - 1 < ((l.map stD).length : Int)) = true := decide_eq_true (by rw [hm]; omega)
        have w1j : IntKind.i64.wrap ((j : Int) - 1 + 1) = ((j + 1 : Nat) : Int) - 1 := by rw [wrapI (by omega) (by omega)]; omega
        conv => whnf
        (repeat' (first | (apply kT (by with_reducible first | rfl | assumption); conv => whnf) | (apply kF (by with_reducible first | rfl | assumption); conv => whnf) | (apply kT (by decide); conv => whnf) | (apply kF (by decide); conv => whnf) | (apply kB <;> intro _ <;> conv => whnf) | fail))
        refine ⟨[], [1, 2, 8, 9, 10, 11], [0, 1], 2, fun m'' s => ∃ k : Nat, k + m'' = b.length ∧ s = ⟨[(1, .d (isD b)), (2, .ref 0 0), (8, .own 1), (9, .d (dI ((j : Int) - 1))), (10, .d (dI ((b.take k).countP (fun x => x == (j : Int) - 1) : Nat))), (11, .d (dI k))],
          [(0, .var false 24 [.d (dI n), .d (.seq (l.map stD))]), (1, .arr 53 ((outD (tksL l) m b j).map fun a => [isD a]))], 2⟩, ?_, ?_⟩
        · conv => whnf
          exact ⟨b.length, 0, by omega, rfl⟩
        · rintro m2 _ ⟨k, hk, rfl⟩
          by_cases hkl : k < b.length
          · have f3 : decide ((k : Int) < ((b.map fun x => [dI x]).length : Int)) = true := decide_eq_true (by rw [hmb]; omega)
            have hgb := geti' b k hkl
            have hct : (b.take (k + 1)).countP (fun x => x == (j : Int) - 1) = (b.take k).countP (fun x => x == (j : Int) - 1) + if b[k] = (j : Int) - 1 then 1 else 0 := by
              rw [List.take_add_one, List.getElem?_eq_getElem hkl, List.countP_append]
              congr 1
              by_cases h : b[k] = (j : Int) - 1
              · rw [if_pos h]; simp [h]
              · rw [if_neg h]; simp [h]
            have hcl : (b.take k).countP (fun x => x == (j : Int) - 1) ≤ b.length := Nat.le_trans List.countP_le_length (by rw [List.length_take]; exact Nat.min_le_right _ _)
            have w1k : IntKind.i64.wrap ((k : Int) + 1) = ((k + 1 : Nat) : Int) := by rw [wrapI (by omega) (by omega)]; rfl
            have w1c : IntKind.i64.wrap (((b.take k).countP (fun x => x == (j : Int) - 1) : Int) + 1) = (((b.take k).countP (fun x => x == (j : Int) - 1) + 1 : Nat) : Int) := by rw [wrapI (by omega) (by omega)]; rfl
            by_cases hbe : b[k] = (j : Int) - 1
            · have f4 : (b[k] == (j : Int) - 1) = true := by rw [hbe]; simp
              rw [if_pos hbe] at hct
              conv => whnf
              (repeat' (first | (apply kT (by with_reducible first | rfl | assumption); conv => whnf) | (apply kF (by with_reducible first | rfl | assumption); conv => whnf) | (apply kT (by decide); conv => whnf) | (apply kF (by decide); conv => whnf) | (apply kB <;> intro _ <;> conv => whnf) | fail))
              (refine ⟨k, _, rfl, hgb, rfl, ?_⟩; conv => whnf)
              (repeat' (first | (apply kT (by with_reducible first | rfl | assumption); conv => whnf) | (apply kF (by with_reducible first | rfl | assumption); conv => whnf) | (apply kT (by decide); conv => whnf) | (apply kF (by decide); conv => whnf) | (apply kB <;> intro _ <;> conv => whnf) | fail))
              refine ⟨m2 - 1, by omega, k + 1, by omega, ?_⟩
              rw [hct, w1k, w1c]
            · have f4 : (b[k] == (j : Int) - 1) = false := by rw [beq_eq_false_iff_ne]; exact hbe
              rw [if_neg hbe] at hct
              conv => whnf
              (repeat' (first | (apply kT (by with_reducible first | rfl | assumption); conv => whnf) | (apply kF (by with_reducible first | rfl | assumption); conv => whnf) | (apply kT (by decide); conv => whnf) | (apply kF (by decide); conv => whnf) | (apply kB <;> intro _ <;> conv => whnf) | fail))
              (refine ⟨k, _, rfl, hgb, rfl, ?_⟩; conv => whnf)
              (repeat' (first | (apply kT (by with_reducible first | rfl | assumption); conv => whnf) | (apply kF (by with_reducible first | rfl | assumption); conv => whnf) | (apply kT (by decide); conv => whnf) | (apply kF (by decide); conv => whnf) | (apply kB <;> intro _ <;> conv => whnf) | fail))
              refine ⟨m2 - 1, by omega, k + 1, by omega, ?_⟩
              rw [hct, w1k]
              rfl
          · have f3 : decide ((k : Int) < ((b.map fun x => [dI x]).length : Int)) = false := decide_eq_false (by rw [hmb]; omega)
            have hkb : k = b.length := by omega
            subst hkb
            rw [List.take_length]
            have hpow : ((tksL l).length + 1) ^ m ≤ 4 ^ 7 := Nat.le_trans (Nat.pow_le_pow_left (by omega) m) (Nat.pow_le_pow_right (by omega) (by omega))
            have hdl := fun x : Int => Nat.le_trans (draws_len (tksL l) m (b ++ [x])) hpow
            have hol : (outD (tksL l) m b j).length ≤ 4 * 4 ^ 7 := Nat.le_trans (outD_len (tksL l) m b j) (Nat.mul_le_mul (by omega) hpow)
            have h47 : 4 * 4 ^ 7 = 65536 := by decide
            have h47' : 4 ^ 7 = 16384 := by decide
            have hlo : ((outD (tksL l) m b j).map fun a => [isD a]).length = (outD (tksL l) m b j).length := List.length_map _
            have hld : ∀ x : Int, ((drawsL (tksL l) m (b ++ [x])).map fun a => [isD a]).length = (drawsL (tksL l) m (b ++ [x])).length := fun x => List.length_map _
            have ihr : ∀ x : Int, Pure Try.prog 27 [plD n l, .seq (([] ++ (b.map fun x => [dI x])) ++ [[dI x]])] (dsD (drawsL (tksL l) m (b ++ [x]))) := fun x => by
              have h := ih x
              rw [isD, List.map_append] at h
              exact h
            have hstep : j = 0 ∨ (∃ i, j = i + 1 ∧ cntD b i < ((tksL l)[i]?).getD 0) → outD (tksL l) m b (j + 1) = outD (tksL l) m b j ++ drawsL (tksL l) m (b ++ [(j : Int) - 1]) := by
              rintro (rfl | ⟨i, rfl, hi⟩)
              · show drawsL (tksL l) m (b ++ [-1]) = [] ++ drawsL (tksL l) m (b ++ [((0 : Nat) : Int) - 1])
                rfl
              · rw [outD, if_pos hi, show ((i + 1 : Nat) : Int) - 1 = (i : Int) by omega]
            have hsz : (((outD (tksL l) m b j).map fun a => [isD a]).length + ((drawsL (tksL l) m (b ++ [(j : Int) - 1])).map fun a => [isD a]).length) * 24 ≤ 140737488355328 := by
              have := hdl ((j : Int) - 1); rw [hlo, hld]; omega
            by_cases h0 : j = 0
            · have f4 : decide ((j : Int) - 1 < 0) = true := decide_eq_true (by omega)
              have hst := hstep (.inl h0)
              conv => whnf
              (repeat' (first | (apply kT (by with_reducible first | rfl | assumption); conv => whnf) | (apply kF (by with_reducible first | rfl | assumption); conv => whnf) | (apply kT (by decide); conv => whnf) | (apply kF (by decide); conv => whnf) | (apply kB <;> intro _ <;> conv => whnf) | fail))
              (refine ⟨by simp, by simp only [List.length_nil, List.length_map]; omega, ?_⟩; conv => whnf)
              (repeat' (first | (apply kT (by with_reducible first | rfl | assumption); conv => whnf) | (apply kF (by with_reducible first | rfl | assumption); conv => whnf) | (apply kT (by decide); conv => whnf) | (apply kF (by decide); conv => whnf) | (apply kB <;> intro _ <;> conv => whnf) | fail))
              (refine .l ?_; conv => whnf)
              (refine ⟨by simp, by simp only [List.length_append, List.length_nil, List.length_map, List.length_singleton]; omega, ?_⟩; conv => whnf)
              (repeat' (first | (apply kT (by with_reducible first | rfl | assumption); conv => whnf) | (apply kF (by with_reducible first | rfl | assumption); conv => whnf) | (apply kT (by decide); conv => whnf) | (apply kF (by decide); conv => whnf) | (apply kB <;> intro _ <;> conv => whnf) | fail))
              (refine .inl ⟨_, ihr ((j : Int) - 1), ?_⟩; conv => whnf)
              (refine .r ?_; conv => whnf)
              (refine ⟨by simp, hsz, ?_⟩; conv => whnf)
              (refine ⟨[0, 38], ?_⟩; conv => whnf)
              refine ⟨m' - 1, by omega, j + 1, by omega, ?_⟩
              rw [hst, List.map_append, w1j]
              rfl
            · refine Exists.elim (⟨j - 1, by omega⟩ : ∃ i, j = i + 1) fun i hij => ?_
              have hil : i < l.length := by omega
              have f4 : decide ((j : Int) - 1 < 0) = false := decide_eq_false (by omega)
              have hgs := getD? l i hil
              refine Exists.elim (tks_get hf hil) fun t ht => ?_
              have hji : (j : Int) - 1 = (i : Int) := by omega
              have hcn : b.countP (fun x => x == (j : Int) - 1) = cntD b i := by unfold cntD; rw [hji]
              by_cases hlt : cntD b i < t
              · have f5 : decide (((b.countP (fun x => x == (j : Int) - 1) : Nat) : Int) < (l[i]).1) = true := decide_eq_true (by rw [hcn, ht.1]; omega)
                have hst := hstep (.inr ⟨i, hij, by rw [ht.2.1]; exact hlt⟩)
                conv => whnf
                (repeat' (first | (apply kT (by with_reducible first | rfl | assumption); conv => whnf) | (apply kF (by with_reducible first | rfl | assumption); conv => whnf) | (apply kT (by decide); conv => whnf) | (apply kF (by decide); conv => whnf) | (apply kB <;> intro _ <;> conv => whnf) | fail))
                (refine ⟨i, _, hji, hgs, rfl, ?_⟩; conv => whnf)
                (repeat' (first | (apply kT (by with_reducible first | rfl | assumption); conv => whnf) | (apply kF (by with_reducible first | rfl | assumption); conv => whnf) | (apply kT (by decide); conv => whnf) | (apply kF (by decide); conv => whnf) | (apply kB <;> intro _ <;> conv => whnf) | fail))
                (refine ⟨by simp, by simp only [List.length_nil, List.length_map]; omega, ?_⟩; conv => whnf)
                (repeat' (first | (apply kT (by with_reducible first | rfl | assumption); conv => whnf) | (apply kF (by with_reducible first | rfl | assumption); conv => whnf) | (apply kT (by decide); conv => whnf) | (apply kF (by decide); conv => whnf) | (apply kB <;> intro _ <;> conv => whnf) | fail))
                (refine .l ?_; conv => whnf)
                (refine ⟨by simp, by simp only [List.length_append, List.length_nil, List.length_map, List.length_singleton]; omega, ?_⟩; conv => whnf)
                (repeat' (first | (apply kT (by with_reducible first | rfl | assumption); conv => whnf) | (apply kF (by with_reducible first | rfl | assumption); conv => whnf) | (apply kT (by decide); conv => whnf) | (apply kF (by decide); conv => whnf) | (apply kB <;> intro _ <;> conv => whnf) | fail))
                (refine .inl ⟨_, ihr ((j : Int) - 1), ?_⟩; conv => whnf)
                (refine .r ?_; conv => whnf)
                (refine ⟨by simp, hsz, ?_⟩; conv => whnf)
                (refine ⟨[0, 38], ?_⟩; conv => whnf)
                refine ⟨m' - 1, by omega, j + 1, by omega, ?_⟩
                rw [hst, List.map_append, w1j]
                rfl
              · have f5 : decide (((b.countP (fun x => x == (j : Int) - 1) : Nat) : Int) < (l[i]).1) = false := decide_eq_false (by rw [hcn, ht.1]; omega)
                have hst : outD (tksL l) m b (j + 1) = outD (tksL l) m b j := by
                  rw [hij, outD, if_neg (by rw [ht.2.1]; exact hlt), List.append_nil]
                conv => whnf
                (repeat' (first | (apply kT (by with_reducible first | rfl | assumption); conv => whnf) | (apply kF (by with_reducible first | rfl | assumption); conv => whnf) | (apply kT (by decide); conv => whnf) | (apply kF (by decide); conv => whnf) | (apply kB <;> intro _ <;> conv => whnf) | fail))
                (refine ⟨i, _, hji, hgs, rfl, ?_⟩; conv => whnf)
                (repeat' (first | (apply kT (by with_reducible first | rfl | assumption); conv => whnf) | (apply kF (by with_reducible first | rfl | assumption); conv => whnf) | (apply kT (by decide); conv => whnf) | (apply kF (by decide); conv => whnf) | (apply kB <;> intro _ <;> conv => whnf) | fail))
                (refine ⟨[0, 1], ?_⟩; conv => whnf)
                refine ⟨m' - 1, by omega, j + 1, by omega, ?_⟩
                rw [hst, w1j]
                rfl
      · have f2 : decide ((j : Int) - 1 < ((l.map stD).length : Int)) = false := decide_eq_false (by rw [hm]; omega)
        have hjS : j = (tksL l).length + 1 := by rw [htl]; omega
        have hall : outD (tksL l) m b j = drawsL (tksL l) (m + 1) b := by rw [hjS]; exact outD_all _ _ _
        rw [← hall]
        conv => whnf
        (repeat' (first | (apply kT (by with_reducible first | rfl | assumption); conv => whnf) | (apply kF (by with_reducible first | rfl | assumption); conv => whnf) | (apply kT (by decide); conv => whnf) | (apply kF (by decide); conv => whnf) | (apply kB <;> intro _ <;> conv => whnf) | fail))
        rfl
end Go.Ev.Ythmandhpmkfopaa
