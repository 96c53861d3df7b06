/-
  Contracts of functions, and plain laws, that lead to the statement. Written by an agent.
-/
import Derived.Test.YthmandhpmkfopaaLc
set_option linter.unusedVariables false
set_option linter.unusedSimpArgs false
set_option maxRecDepth 100000
namespace Go.Ev.Ythmandhpmkfopaa
open Go.Proofs
/-- a lot is accepted or rejected -/
def Dcd (x : Int × Int × Int) : Prop := (x.1 = 1 ∨ x.1 = 2) ∧ x.2.1 = 0 ∧ x.2.2 = 0
def Opn (x : Int × Int × Int) (n : Nat) : Prop := x = (3, (n : Int), 0)
theorem says_end {a r b : Int} (h : r = a + 1) : says a r b ≠ 3 := by
  unfold says
  split
  · decide
  · rw [if_pos (by omega)]; decide
theorem says_two {a r b : Int} (h : says a r b ≠ 3) : says a r b = 1 ∨ says a r b = 2 := by
  unfold says at h ⊢
  split at h
  · rename_i h1; rw [if_pos h1]; exact .inl rfl
  · rename_i h1
    split at h
    · rename_i h2; rw [if_neg h1, if_pos h2]; exact .inr rfl
    · exact absurd rfl h
/-- how many bad ones a stage has -/
def blk (res : List Bool) (taken t : Nat) : Nat := badN ((res.take (taken + t)).drop taken)
theorem playN_cons (res : List Bool) (s : S3) (r : List S3) (taken bad : Nat) (v : Int) : playN res (s :: r) taken bad v =
    if res.length < taken + s.1.toNat then (3, ((taken + s.1.toNat - res.length : Nat) : Int), 0)
    else if says s.2.1 s.2.2 ((bad + blk res taken s.1.toNat : Nat) : Int) ≠ 3 then
      (if taken + s.1.toNat < res.length then (0, 0, 2) else (says s.2.1 s.2.2 ((bad + blk res taken s.1.toNat : Nat) : Int), 0, 0))
    else playN res r (taken + s.1.toNat) (bad + blk res taken s.1.toNat) 3 := rfl
theorem blk_pre {res ext : List Bool} {taken t : Nat} (h : taken + t ≤ res.length) : blk (res ++ ext) taken t = blk res taken t := by
  unfold blk; rw [List.take_append_of_le_length h]
/-- whatever is said: too many results, a verdict, or open -/
theorem play_kinds (res : List Bool) : ∀ (r : List S3) (taken bad : Nat) (v : Int), Ends r → (playN res r taken bad v).2.2 = 2 ∨ Dcd (playN res r taken bad v) ∨ ∃ n, 1 ≤ n ∧ Opn (playN res r taken bad v) n
  | [], _, _, _, h => h.elim
  | s :: r, taken, bad, v, he => by
    rw [playN_cons]
    split
    · rename_i h; exact .inr (.inr ⟨_, by omega, rfl⟩)
    · split
      · rename_i h1 h2
        split
        · exact .inl rfl
        · exact .inr (.inl ⟨says_two h2, rfl, rfl⟩)
      · rename_i h1 h2
        cases r with
        | nil => exact absurd (says_end he) h2
        | cons s' r => exact play_kinds res (s' :: r) _ _ _ he
/-- with one result less -/
theorem play_less (res : List Bool) (x : Bool) : ∀ (r : List S3) (taken bad : Nat) (v : Int), Ends r → taken ≤ (res ++ [x]).length → (playN (res ++ [x]) r taken bad v).2.2 = 2 →
    taken < (res ++ [x]).length ∧ ((playN res r taken bad v).2.2 = 2 ∨ Dcd (playN res r taken bad v))
  | [], _, _, _, h, _, _ => h.elim
  | s :: r, taken, bad, v, he, ht, h => by
    rw [playN_cons] at h
    rw [playN_cons]
    have hlen : (res ++ [x]).length = res.length + 1 := by simp
    rw [hlen] at h ht ⊢
    split at h
    · cases h
    · rename_i h1
      split at h
      · rename_i h2
        split at h
        · rename_i h3
          have hb : blk (res ++ [x]) taken s.1.toNat = blk res taken s.1.toNat := blk_pre (by omega)
          rw [hb] at h2
          refine ⟨by omega, ?_⟩
          rw [if_neg (by omega), if_pos h2]
          split
          · exact .inl rfl
          · exact .inr ⟨says_two h2, rfl, rfl⟩
        · have := says_two h2
          cases h
      · rename_i h2
        cases r with
        | nil => exact absurd (says_end he) h2
        | cons s' r =>
          obtain ⟨q1, q2⟩ := play_less res x (s' :: r) _ _ _ he (by rw [hlen]; omega) h
          rw [hlen] at q1
          have hb : blk (res ++ [x]) taken s.1.toNat = blk res taken s.1.toNat := blk_pre (by omega)
          rw [hb] at h2 q2
          refine ⟨by omega, ?_⟩
          rw [if_neg (by omega), if_neg h2]
          exact q2
/-- the stages that are not full -/
def left (res : List Bool) : List S3 → Nat → Nat
  | [], _ => 0
  | s :: r, taken => if res.length < taken + s.1.toNat then r.length + 1 else left res r (taken + s.1.toNat)
theorem left_le (res : List Bool) : ∀ (r : List S3) (taken : Nat), left res r taken ≤ r.length
  | [], _ => Nat.le_refl _
  | s :: r, taken => by
    rw [left]
    split
    · exact Nat.le_refl _
    · exact Nat.le_trans (left_le res r _) (Nat.le_succ _)
/-- open results go on -/
theorem play_more (lot : Nat) (res ext : List Bool) : ∀ (r : List S3) (taken bad : Nat) (v : Int), Ends r → Fit lot taken r → taken ≤ res.length → ∀ n, Opn (playN res r taken bad v) n → n ≤ lot ∧ 1 ≤ left res r taken ∧ (ext.length = n →
    Dcd (playN (res ++ ext) r taken bad v) ∨ ∃ m, 1 ≤ m ∧ Opn (playN (res ++ ext) r taken bad v) m ∧ left (res ++ ext) r taken + 1 ≤ left res r taken)
  | [], _, _, _, h, _, _, _, _ => h.elim
  | s :: r, taken, bad, v, he, hf, ht, n, ho => by
    obtain ⟨t, f1, f2, f3, f4⟩ := hf
    have e1 : s.1.toNat = t := by rw [f1, Int.toNat_natCast]
    unfold Opn at ho
    rw [playN_cons, e1] at ho
    rw [playN_cons, left, left, e1]
    by_cases h1 : res.length < taken + t
    · rw [if_pos h1] at ho
      rw [if_pos h1]
      simp only [Prod.mk.injEq, true_and, and_true] at ho
      have hn : n = taken + t - res.length := by omega
      refine ⟨by omega, by omega, fun hx => ?_⟩
      have hl : (res ++ ext).length = taken + t := by rw [List.length_append]; omega
      have hlt : ¬ (taken + t < taken + t) := by omega
      rw [hl, if_neg hlt, if_neg hlt]
      split
      · rename_i h2
        exact .inl ⟨says_two h2, rfl, rfl⟩
      · rename_i h2
        cases r with
        | nil => exact absurd (says_end he) h2
        | cons s' r =>
          obtain ⟨t', g1, g2, g3, g4⟩ := f4
          have e2 : s'.1.toNat = t' := by rw [g1, Int.toNat_natCast]
          rw [playN_cons, hl, e2, if_pos (by omega)]
          refine .inr ⟨_, by omega, rfl, ?_⟩
          rw [left, hl, e2, if_pos (by omega)]
          simp
    · rw [if_neg h1] at ho
      rw [if_neg h1]
      have hlx : ¬ (res ++ ext).length < taken + t := by rw [List.length_append]; omega
      rw [if_neg hlx, if_neg hlx, blk_pre (by omega)]
      split at ho
      · rename_i h2
        split at ho
        · simp at ho
        · exfalso
          have := says_two h2
          simp only [Prod.mk.injEq] at ho
          omega
      · rename_i h2
        rw [if_neg h2]
        cases r with
        | nil => exact absurd (says_end he) h2
        | cons s' r => exact play_more lot res ext (s' :: r) _ _ _ he f4 (by omega) n ho
/-- each stage turned round -/
def turnR : List S3 → List Bool → List Bool
  | [], res => res
  | s :: r, res => if s.1.toNat ≤ res.length then (res.take s.1.toNat).reverse ++ turnR r (res.drop s.1.toNat) else res
theorem turnR_len : ∀ (r : List S3) (res : List Bool), (turnR r res).length = res.length
  | [], _ => rfl
  | s :: r, res => by
    rw [turnR]
    split
    · rename_i h
      rw [List.length_append, List.length_reverse, turnR_len r, List.length_take, List.length_drop]; omega
    · rfl
theorem badN_rev (l : List Bool) : badN l.reverse = badN l := by unfold badN; exact List.countP_reverse ..
theorem play_turn (res : List Bool) : ∀ (r : List S3) (pre : List Bool) (bad : Nat) (v : Int), pre.length ≤ res.length → playN (pre ++ turnR r (res.drop pre.length)) r pre.length bad v = playN res r pre.length bad v
  | [], pre, bad, v, h => by
    have : (pre ++ turnR [] (res.drop pre.length)).length = res.length := by rw [List.length_append, turnR_len, List.length_drop]; omega
    simp only [playN, this]
  | s :: r, pre, bad, v, h => by
    have hl : (pre ++ turnR (s :: r) (res.drop pre.length)).length = res.length := by rw [List.length_append, turnR_len, List.length_drop]; omega
    rw [playN_cons, playN_cons, hl]
    by_cases h1 : res.length < pre.length + s.1.toNat
    · rw [if_pos h1, if_pos h1]
    · have hd : s.1.toNat ≤ (res.drop pre.length).length := by rw [List.length_drop]; omega
      have e1 : turnR (s :: r) (res.drop pre.length) = ((res.drop pre.length).take s.1.toNat).reverse ++ turnR r ((res.drop pre.length).drop s.1.toNat) := by rw [turnR, if_pos hd]
      have hk : ((res.drop pre.length).take s.1.toNat).reverse.length = s.1.toNat := by rw [List.length_reverse, List.length_take]; omega
      have hb : blk (pre ++ turnR (s :: r) (res.drop pre.length)) pre.length s.1.toNat = blk res pre.length s.1.toNat := by
        unfold blk
        rw [e1, ← List.append_assoc]
        have l1 : (pre ++ ((res.drop pre.length).take s.1.toNat).reverse).length = pre.length + s.1.toNat := by rw [List.length_append, hk]
        rw [← l1, List.take_left, List.drop_left, badN_rev, List.drop_take]
        congr 2
        rw [l1]; omega
      rw [if_neg h1, if_neg h1, hb]
      split
      · rfl
      · have ih := play_turn res r (pre ++ ((res.drop pre.length).take s.1.toNat).reverse) (bad + blk res pre.length s.1.toNat) 3 (by rw [List.length_append, hk]; omega)
        rw [List.length_append, hk, ← List.drop_drop, List.append_assoc, ← e1] at ih
        exact ih
theorem turn_same (l : List S3) (res : List Bool) : playN (turnR l res) l 0 0 0 = playN res l 0 0 0 := by
  have := play_turn res l [] 0 0 (Nat.zero_le _)
  simpa using this
/-- a verdict by just so many results: the stages are full, one by one -/
theorem play_step {res : List Bool} {s : S3} {r : List S3} {taken bad : Nat} {v : Int} (he : Ends (s :: r)) (h : Dcd (playN res (s :: r) taken bad v)) :
    taken + s.1.toNat ≤ res.length ∧ (taken + s.1.toNat = res.length ∨ (Ends r ∧ ∃ bad' v', Dcd (playN res r (taken + s.1.toNat) bad' v'))) := by
  rw [playN_cons] at h
  split at h
  · obtain ⟨h1, _, _⟩ := h
    simp at h1
  · rename_i h1
    refine ⟨by omega, ?_⟩
    split at h
    · split at h
      · obtain ⟨h2, _, _⟩ := h; simp at h2
      · exact .inl (by omega)
    · rename_i h2
      cases r with
      | nil => exact absurd (says_end he) h2
      | cons s' r => exact .inr ⟨he, _, _, h⟩
end Go.Ev.Ythmandhpmkfopaa
