/-
  Contracts of functions, and plain laws, that lead to the statement. Written by an agent.
-/
import Derived.Test.YtijidghjiaiccaaRows
import Derived.Test.YtijidghjiaiccaaLa
set_option linter.unusedVariables false
set_option linter.unusedSimpArgs false
set_option linter.unusedVariables false
set_option linter.unusedSimpArgs false
set_option maxRecDepth 100000
namespace Go.Ev.Ytijidghjiaiccaa.P
open Go.Proofs
theorem within_pure (n lo hi : Int) : Pure Try.prog 49 [dI n, dI lo, dI hi] (dB (decide (lo ≤ n) && decide (n ≤ hi))) := by
 refine pure_of pg Try.func49 (by kernel_rfl) ?_
 ((conv => whnf); repeat (first | (refine ChL.l ?_; (conv => whnf)) | (refine ChC.r ?_; (conv => whnf))))
 repeat' (first | (apply kT (by assumption); ((conv => whnf); repeat (first | (refine ChL.l ?_; (conv => whnf)) | (refine ChC.r ?_; (conv => whnf))))) | (apply kF (by assumption); ((conv => whnf); repeat (first | (refine ChL.l ?_; (conv => whnf)) | (refine ChC.r ?_; (conv => whnf))))) | (apply kB <;> intro h <;> ((conv => whnf); repeat (first | (refine ChL.l ?_; (conv => whnf)) | (refine ChC.r ?_; (conv => whnf))))))
 all_goals (rw [h]; rfl)
def says (a r bad : Int) : Int := if bad ≤ a then 1 else if r ≤ bad then 2 else 3
theorem says_pure (t a r bad : Int) : Pure Try.prog 20 [.agg [dI t, dI a, dI r], dI bad] (dU (says a r bad)) := by
 refine pure_of pg Try.func20 (by kernel_rfl) ?_
 ((conv => whnf); repeat (first | (refine ChL.l ?_; (conv => whnf)) | (refine ChC.r ?_; (conv => whnf))))
 repeat' (first | (apply kT (by assumption); ((conv => whnf); repeat (first | (refine ChL.l ?_; (conv => whnf)) | (refine ChC.r ?_; (conv => whnf))))) | (apply kF (by assumption); ((conv => whnf); repeat (first | (refine ChL.l ?_; (conv => whnf)) | (refine ChC.r ?_; (conv => whnf))))) | (apply kB <;> intro h <;> ((conv => whnf); repeat (first | (refine ChL.l ?_; (conv => whnf)) | (refine ChC.r ?_; (conv => whnf))))))
 all_goals (simp only [decide_eq_true_eq, decide_eq_false_iff_not, ge_iff_le] at *; simp [oneD, says, *])
theorem takes_pure (t a r : Int) : Pure Try.prog 51 [.agg [dI t, dI a, dI r]] (dB (decide (1 ≤ t))) := by
 refine pure_of pg Try.func51 (by kernel_rfl) ?_
 ((conv => whnf); repeat (first | (refine ChL.l ?_; (conv => whnf)) | (refine ChC.r ?_; (conv => whnf))))
 rfl
abbrev rightO : Ob := .var false 114 [.d (.fn (.func 51) [] [])]
theorem all1_bor (t a r : Int) : Bor tb Try.prog 79 [.d (.agg [dI t, dI a, dI r]), .ref 0 0] [rightO] 1 (.d (dB (!decide (1 ≤ t)))) [(0, rightO)] := by
 refine bor_of pg Try.func79 (by kernel_rfl) ?_
 ((conv => whnf); repeat (first | (refine ChL.l ?_; (conv => whnf)) | (refine ChC.r ?_; (conv => whnf))))
 refine .inl ⟨_, takes_pure t a r, ?_⟩
 ((conv => whnf); repeat (first | (refine ChL.l ?_; (conv => whnf)) | (refine ChC.r ?_; (conv => whnf))))
 refine ⟨[], [0], ?_⟩
 ((conv => whnf); repeat (first | (refine ChL.l ?_; (conv => whnf)) | (refine ChC.r ?_; (conv => whnf))))
 exact ⟨rfl, rfl⟩
def stD (x : Int × Int × Int) : List D := [dI x.1, dI x.2.1, dI x.2.2]
theorem indexFunc_bor (l : List (Int × Int × Int)) (hl : l.length < 2 ^ 63) : Bor tb Try.prog 94 [.d (.seq (l.map stD)), .fn (.func 79) [] [.ref 0 0]] [rightO] 1 (.d (dI (match l.findIdx? (fun x => !decide (1 ≤ x.1)) with | some i => (i : Int) | none => -1))) [(0, rightO)] := by
 refine bor_of pg Try.func94 (by kernel_rfl) ?_
 ((conv => whnf); repeat (first | (refine ChL.l ?_; (conv => whnf)) | (refine ChC.r ?_; (conv => whnf))))
 refine ⟨[], [0, 1, 7, 8], [0], 1, fun m s => ∃ k : Nat, k + m = l.length ∧ (∀ i (h : i < k) (h' : i < l.length), decide (1 ≤ (l[i]).1) = true) ∧ s = ⟨[(0, .d (.seq (l.map stD))), (1, .fn (.func 79) [] [.ref 0 0]), (7, .d (dI l.length)), (8, .d (dI k))], [(0, rightO)], 1⟩, ?_, ?_⟩
 ·((conv => whnf); repeat (first | (refine ChL.l ?_; (conv => whnf)) | (refine ChC.r ?_; (conv => whnf))))
  exact ⟨l.length, 0, by simp, by simp, by simp⟩
 ·rintro m _ ⟨k, hk, hall, rfl⟩
  ((conv => whnf); repeat (first | (refine ChL.l ?_; (conv => whnf)) | (refine ChC.r ?_; (conv => whnf))))
  apply kB <;> intro h <;> ((conv => whnf); repeat (first | (refine ChL.l ?_; (conv => whnf)) | (refine ChC.r ?_; (conv => whnf))))
  ·have hlt : k < l.length := by simpa using h
   refine ⟨k, stD l[k], rfl, by simp [hlt], rfl, ?_⟩
   ((conv => whnf); repeat (first | (refine ChL.l ?_; (conv => whnf)) | (refine ChC.r ?_; (conv => whnf))))
   refine .inr ⟨[0], 1, _, _, all1_bor l[k].1 l[k].2.1 l[k].2.2, ?_⟩
   ((conv => whnf); repeat (first | (refine ChL.l ?_; (conv => whnf)) | (refine ChC.r ?_; (conv => whnf))))
   apply kB <;> intro h1 <;> ((conv => whnf); repeat (first | (refine ChL.l ?_; (conv => whnf)) | (refine ChC.r ?_; (conv => whnf))))
   ·refine ⟨[], [0], ?_⟩
    ((conv => whnf); repeat (first | (refine ChL.l ?_; (conv => whnf)) | (refine ChC.r ?_; (conv => whnf))))
    refine ⟨?_, rfl⟩
    have hf : l.findIdx? (fun x => !decide (1 ≤ x.1)) = some k := by
     rw [List.findIdx?_eq_some_iff_getElem]
     exact ⟨hlt, h1, fun j hj => by simp [hall j hj (by omega)]⟩
    rw [hf]
    rfl
   ·have e1 : IntKind.i64.wrap ((k : Int) + 1) = ((k + 1 : Nat) : Int) := by rw [wrapI (by omega) (by omega)]; rfl
    refine ⟨m - 1, by omega, k + 1, by omega, fun i hi hi' => ?_, ?_⟩
    ·rcases Nat.lt_or_ge i k with h2 | h2
     ·exact hall i h2 hi'
     ·have : i = k := by omega
      subst this
      simpa using h1
    ·simp [e1, dI]
  ·have hge : l.length ≤ k := by simpa using h
   refine ⟨[], [0], ?_⟩
   ((conv => whnf); repeat (first | (refine ChL.l ?_; (conv => whnf)) | (refine ChC.r ?_; (conv => whnf))))
   refine ⟨?_, rfl⟩
   have hf : l.findIdx? (fun x => !decide (1 ≤ x.1)) = none := by
    rw [List.findIdx?_eq_none_iff]
    intro x hx
    obtain ⟨i, hi, rfl⟩ := List.mem_iff_getElem.1 hx
    simp [hall i (by omega) hi]
   rw [hf]
   rfl
theorem contains_bor (l : List (Int × Int × Int)) (hl : l.length < 2 ^ 63) : Bor tb Try.prog 78 [.d (.seq (l.map stD)), .fn (.func 79) [] [.ref 0 0]] [rightO] 1 (.d (dB (!l.all fun x => decide (1 ≤ x.1)))) [(0, rightO)] := by
 refine bor_of pg Try.func78 (by kernel_rfl) ?_
 ((conv => whnf); repeat (first | (refine ChL.l ?_; (conv => whnf)) | (refine ChC.r ?_; (conv => whnf))))
 refine .inr ⟨[0], 1, _, _, indexFunc_bor l hl, ?_⟩
 ((conv => whnf); repeat (first | (refine ChL.l ?_; (conv => whnf)) | (refine ChC.r ?_; (conv => whnf))))
 refine ⟨[], [0], ?_⟩
 ((conv => whnf); repeat (first | (refine ChL.l ?_; (conv => whnf)) | (refine ChC.r ?_; (conv => whnf))))
 refine ⟨?_, rfl⟩
 show A.d (dB (decide ((match l.findIdx? (fun x => !decide (1 ≤ x.1)) with | some i => (i : Int) | none => -1) ≥ 0))) = _
 congr 1
 cases h : l.findIdx? (fun x => !decide (1 ≤ x.1)) with
 | none =>
  rw [List.findIdx?_eq_none_iff] at h
  have : (l.all fun x => decide (1 ≤ x.1)) = true := by
   rw [List.all_eq_true]
   intro x hx
   simpa using h x hx
  simp [this]
 | some i =>
  rw [List.findIdx?_eq_some_iff_getElem] at h
  obtain ⟨h1, h2, _⟩ := h
  have : (l.all fun x => decide (1 ≤ x.1)) = false := by
   rw [Bool.eq_false_iff]
   intro h3
   have := List.all_eq_true.1 h3 _ (List.getElem_mem h1)
   rw [this] at h2
   cases h2
  rw [this]
  have : (i : Int) ≥ 0 := by omega
  simp [this]
theorem all_pure (l : List (Int × Int × Int)) (hl : l.length < 2 ^ 63) : Pure Try.prog 50 [.seq (l.map stD), .fn (.func 51) [] []] (dB (l.all fun x => decide (1 ≤ x.1))) := by
 refine pure_of pg Try.func50 (by kernel_rfl) ?_
 ((conv => whnf); repeat (first | (refine ChL.l ?_; (conv => whnf)) | (refine ChC.r ?_; (conv => whnf))))
 refine .inr ⟨[0], 1, _, _, contains_bor l hl, ?_⟩
 ((conv => whnf); repeat (first | (refine ChL.l ?_; (conv => whnf)) | (refine ChC.r ?_; (conv => whnf))))
 simp [oneD]
attribute [local irreducible] Pure Bor Iter
abbrev S3 := Int × Int × Int
abbrev wI (n : Int) : Int := IntKind.i64.wrap n
def chk (lot : Int) : List S3 → Int → S3 → Int
 | [], _, last => if last.2.2 ≠ wI (last.2.1 + 1) then 1 else 0
 | s :: r, taken, last => if s.1 > wI (lot - taken) then 1 else
   if s.2.1 < last.2.1 ∨ s.2.2 < last.2.2 ∨ ¬ (wI (s.2.1 + 1) ≤ s.2.2 ∧ s.2.2 ≤ wI (wI (taken + s.1) + 1)) then 1 else chk lot r (wI (taken + s.1)) s
def check (lot : Int) (l : List S3) : Int :=
 if (l.length : Int) > 3 then 3 else if ¬ (1 ≤ lot ∧ lot ≤ 30) ∨ l.length = 0 ∨ ¬ (∀ x ∈ l, 1 ≤ x.1) then 1 else chk lot l 0 (0, -1, 0)
abbrev plD (lot : Int) (l : List S3) : D := .agg [dI lot, .seq (l.map stD)]
theorem getD? (l : List S3) (k : Nat) (h : k < l.length) : (l.map stD)[k]? = some (stD l[k]) := by simp [h]
theorem check_pure (lot : Int) (l : List S3) (hl : l.length < 2 ^ 63) : Pure Try.prog 19 [plD lot l] (dI (check lot l)) := by
 refine pure_of pg Try.func19 (by kernel_rfl) ?_
 ((conv => whnf); repeat (first | (refine ChL.l ?_; (conv => whnf)) | (refine ChC.r ?_; (conv => whnf))))
 have hall := all_pure l hl
 repeat' (first | (first | (apply kT (by with_reducible first | rfl | assumption); ((conv => whnf); repeat (first | (refine ChL.l ?_; (conv => whnf)) | (refine ChC.r ?_; (conv => whnf))))) | (apply kF (by with_reducible first | rfl | assumption); ((conv => whnf); repeat (first | (refine ChL.l ?_; (conv => whnf)) | (refine ChC.r ?_; (conv => whnf))))) | (apply kB <;> intro _ <;> ((conv => whnf); repeat (first | (refine ChL.l ?_; (conv => whnf)) | (refine ChC.r ?_; (conv => whnf))))) | (refine .inl ⟨_, within_pure .., ?_⟩; ((conv => whnf); repeat (first | (refine ChL.l ?_; (conv => whnf)) | (refine ChC.r ?_; (conv => whnf)))))) | (refine .inl ⟨_, hall, ?_⟩; ((conv => whnf); repeat (first | (refine ChL.l ?_; (conv => whnf)) | (refine ChC.r ?_; (conv => whnf))))))
 case y.y.y.y =>
  (simp only [decide_eq_true_eq, decide_eq_false_iff_not, Bool.not_eq_true', Bool.not_eq_false', Bool.and_eq_true, Bool.and_eq_false_iff, Bool.or_eq_true, Bool.or_eq_false_iff, gt_iff_lt, ge_iff_le, bne_iff_ne, beq_iff_eq, ne_eq, beq_eq_false_iff_ne, bne_eq_false_iff_eq] at *)
  rename_i h3 h2 h1 h
  have e0 : check lot l = chk lot l 0 (0, -1, 0) := by
   unfold check
   rw [if_neg (by simpa using h3), if_neg]
   rintro (h' | h' | h')
   ·exact h' h2
   ·simp [h'] at h1
   ·exact h' (by simpa using h)
  refine ⟨[], [1, 3, 4, 31, 32, 33], [0, 1], 2, fun m s => ∃ (k : Nat) (taken : Int) (last : S3), k + m = l.length ∧ chk lot (l.drop k) taken last = chk lot l 0 (0, -1, 0) ∧
   s = ⟨[(1, .ref 0 0), (3, .d (dI taken)), (4, .ref 1 0), (31, .d (.seq (l.map stD))), (32, .d (dI l.length)), (33, .d (dI k))], [(0, .var false 50 [.d (dI lot), .d (.seq (l.map stD))]), (1, .var false 72 [.d (dI last.1), .d (dI last.2.1), .d (dI last.2.2)])], 2⟩, ?_, ?_⟩
  ·((conv => whnf); repeat (first | (refine ChL.l ?_; (conv => whnf)) | (refine ChC.r ?_; (conv => whnf))))
   exact ⟨l.length, 0, 0, (0, -1, 0), by simp, rfl, by simp⟩
  ·rintro m _ ⟨k, taken, last, hk, hc, rfl⟩
   ((conv => whnf); repeat (first | (refine ChL.l ?_; (conv => whnf)) | (refine ChC.r ?_; (conv => whnf))))
   apply kB <;> intro h <;> ((conv => whnf); repeat (first | (refine ChL.l ?_; (conv => whnf)) | (refine ChC.r ?_; (conv => whnf))))
   ·have hlt : k < l.length := by simpa using h
    have hd : l.drop k = l[k] :: l.drop (k + 1) := (List.getElem_cons_drop ..).symm
    rw [hd] at hc
    have hq := getD? l k hlt
    generalize l[k] = q at hc hq
    have e1 : IntKind.i64.wrap ((k : Int) + 1) = ((k + 1 : Nat) : Int) := by rw [wrapI (by omega) (by omega)]; rfl
    refine ⟨k, stD q, rfl, hq, rfl, ?_⟩
    ((conv => whnf); repeat (first | (refine ChL.l ?_; (conv => whnf)) | (refine ChC.r ?_; (conv => whnf))))
    (repeat' (first | (apply kT (by with_reducible first | rfl | assumption); ((conv => whnf); repeat (first | (refine ChL.l ?_; (conv => whnf)) | (refine ChC.r ?_; (conv => whnf))))) | (apply kF (by with_reducible first | rfl | assumption); ((conv => whnf); repeat (first | (refine ChL.l ?_; (conv => whnf)) | (refine ChC.r ?_; (conv => whnf))))) | (apply kB <;> intro _ <;> ((conv => whnf); repeat (first | (refine ChL.l ?_; (conv => whnf)) | (refine ChC.r ?_; (conv => whnf))))) | (refine .inl ⟨_, within_pure .., ?_⟩; ((conv => whnf); repeat (first | (refine ChL.l ?_; (conv => whnf)) | (refine ChC.r ?_; (conv => whnf)))))))
    all_goals clear hd
    all_goals (simp only [decide_eq_true_eq, decide_eq_false_iff_not, Bool.not_eq_true', Bool.not_eq_false', Bool.and_eq_true, Bool.and_eq_false_iff, Bool.or_eq_true, Bool.or_eq_false_iff, gt_iff_lt, ge_iff_le, bne_iff_ne, beq_iff_eq, ne_eq, beq_eq_false_iff_ne, bne_eq_false_iff_eq] at *)
    case x => rw [e0, ← hc]; simp [chk, *]; rfl
    case y.x => rw [e0, ← hc]; simp [chk, *]; rfl
    case y.y.x => rw [e0, ← hc]; simp [chk, *]; rfl
    case y.y.y.x =>
     rename_i h
     have : ¬ (wI (q.2.1 + 1) ≤ q.2.2 ∧ q.2.2 ≤ wI (wI (taken + q.1) + 1)) := by
      rintro ⟨h1, h2⟩
      simp [h1, h2] at h
     rw [e0, ← hc]; simp [chk, *]; rfl
    case y.y.y.y =>
     rename_i h4 h3 h2 h1
     refine ⟨m - 1, by omega, k + 1, wI (taken + q.1), q, by omega, ?_, ?_⟩
     ·rw [← hc]
      simp [chk, h1, h2, h3, h4]
     ·simp [e1]
   ·have hge : l.length ≤ k := by simpa using h
    rw [List.drop_of_length_le hge] at hc
    apply kB <;> intro h <;> ((conv => whnf); repeat (first | (refine ChL.l ?_; (conv => whnf)) | (refine ChC.r ?_; (conv => whnf))))
    all_goals (simp only [decide_eq_true_eq, decide_eq_false_iff_not, Bool.not_eq_true', Bool.not_eq_false', Bool.and_eq_true, Bool.and_eq_false_iff, Bool.or_eq_true, Bool.or_eq_false_iff, gt_iff_lt, ge_iff_le, bne_iff_ne, beq_iff_eq, ne_eq, beq_eq_false_iff_ne, bne_eq_false_iff_eq] at *)
    all_goals (rw [e0, ← hc]; simp [chk, h]; rfl)
 all_goals (simp only [decide_eq_true_eq, decide_eq_false_iff_not, Bool.not_eq_true', Bool.not_eq_false', Bool.and_eq_true, Bool.and_eq_false_iff, Bool.or_eq_true, Bool.or_eq_false_iff, gt_iff_lt, ge_iff_le, bne_iff_ne, beq_iff_eq, ne_eq, beq_eq_false_iff_ne, bne_eq_false_iff_eq] at *)
 case x => rename_i h; simp at h; simp [check, h]; rfl
 case y.x =>
  rename_i h1 h2
  simp at h1
  have : ¬ (1 ≤ lot ∧ lot ≤ 30) := by omega
  simp [check, Int.not_lt.2 h1, this]; rfl
 case y.y.x =>
  rename_i h1 h2 h3
  simp at h1 h3
  subst h3
  simp [check]; rfl
 case y.y.y.x =>
  rename_i h1 h2 h3 h4
  simp at h1 h3
  have : ¬ ∀ x ∈ l, 1 ≤ x.1 := by
   intro h5
   rw [List.all_eq_true.2 (fun x hx => by simpa using h5 x hx)] at h4
   cases h4
  unfold check
  rw [if_neg (by simpa using h1), if_pos (.inr (.inr this))]; rfl
end Go.Ev.Ytijidghjiaiccaa.P


set_option linter.unusedVariables false
set_option linter.unusedSimpArgs false
set_option maxRecDepth 100000
namespace Go.Ev.Ytijidghjiaiccaa.P
open Go.Proofs
attribute [local irreducible] Pure Bor Iter
def Fit (lot : Nat) : Nat → List S3 → Prop
 | _, [] => True
 | taken, s :: r => ∃ t : Nat, s.1 = t ∧ 1 ≤ t ∧ taken + t ≤ lot ∧ Fit lot (taken + t) r
def Ends : List S3 → Prop
 | [] => False
 | [s] => s.2.2 = s.2.1 + 1
 | _ :: s :: r => Ends (s :: r)
def InR (n : Int) : Prop := -9223372036854775808 ≤ n ∧ n < 9223372036854775808
def InS (s : S3) : Prop := InR s.1 ∧ InR s.2.1 ∧ InR s.2.2
theorem wI_max {n : Int} (h : InR n) : wI (n + 1) = n + 1 ∨ (wI (n + 1) = -9223372036854775808 ∧ n = 9223372036854775807) := by
 by_cases h1 : n = 9223372036854775807
 ·right; subst h1; exact ⟨by decide, rfl⟩
 ·left
  obtain ⟨h2, h3⟩ := h
  exact wrapI (by omega) (by omega)
theorem chk_fit (lot : Nat) (hlot : lot ≤ 30) : ∀ (r : List S3) (taken : Nat) (last : S3), taken ≤ lot → (∀ x ∈ r, 1 ≤ x.1) → (∀ x ∈ r, InS x) → 0 ≤ last.2.2 → InR last.2.1 → chk lot r taken last = 0 → Fit lot taken r ∧ Ends (last :: r)
 | [], taken, last, _, _, _, h0, hi, h => by
  refine ⟨trivial, ?_⟩
  show last.2.2 = last.2.1 + 1
  unfold chk at h
  split at h
  ·cases h
  ·rename_i h1
   have h1 : last.2.2 = wI (last.2.1 + 1) := Classical.not_not.1 h1
   rcases wI_max hi with h2 | ⟨h2, _⟩
   ·rw [h1, h2]
   ·omega
 | s :: r, taken, last, ht, h1, h2, h0, hi, h => by
  unfold chk at h
  split at h
  ·cases h
  ·rename_i h3
   split at h
   ·cases h
   ·rename_i h4
    have hs := h1 s (by simp)
    have hw : wI ((lot : Int) - taken) = (lot : Int) - taken := wrapI (by omega) (by omega)
    rw [hw] at h3
    have hw2 : wI ((taken : Int) + s.1) = (taken : Int) + s.1 := wrapI (by omega) (by omega)
    rw [hw2] at h
    obtain ⟨t, hst⟩ : ∃ t : Nat, s.1 = t := ⟨s.1.toNat, by omega⟩
    rw [hst, show (taken : Int) + (t : Int) = ((taken + t : Nat) : Int) by omega] at h
    have h5 : 0 ≤ s.2.2 := by omega
    obtain ⟨q1, q2⟩ := chk_fit lot hlot r (taken + t) s (by omega) (fun x hx => h1 x (by simp [hx])) (fun x hx => h2 x (by simp [hx])) h5 (h2 s (by simp)).2.1 h
    exact ⟨⟨t, hst, by omega, by omega, q1⟩, q2⟩
theorem check_good {lot : Int} {l : List S3} (hr : ∀ x ∈ l, InS x) (h : check lot l = 0) : ∃ n : Nat, lot = n ∧ 1 ≤ n ∧ n ≤ 30 ∧ l.length ≤ 3 ∧ Fit n 0 l ∧ Ends l := by
 unfold check at h
 split at h
 ·cases h
 ·rename_i h1
  split at h
  ·cases h
  ·rename_i h2
   have h3 : 1 ≤ lot ∧ lot ≤ 30 := Classical.not_not.1 fun hn => h2 (.inl hn)
   have h4 : l.length ≠ 0 := fun hn => h2 (.inr (.inl hn))
   have h5 : ∀ x ∈ l, 1 ≤ x.1 := Classical.not_not.1 fun hn => h2 (.inr (.inr hn))
   obtain ⟨n, rfl⟩ : ∃ n : Nat, lot = n := ⟨lot.toNat, by omega⟩
   obtain ⟨q1, q2⟩ := chk_fit n (by omega) l 0 (0, -1, 0) (Nat.zero_le _) h5 hr (by simp) (by simp [InR]) h
   refine ⟨n, rfl, by omega, by omega, by omega, q1, ?_⟩
   cases l with
   | nil => simp at h4
   | cons s r => exact q2
attribute [local irreducible] check
abbrev bsD (l : List Bool) : D := .seq (l.map fun b => [dB b])
def badN (l : List Bool) : Nat := l.countP id
def playN (res : List Bool) : List S3 → Nat → Nat → Int → Int × Int × Int
 | [], taken, bad, v => if taken < res.length then (0, 0, 2) else (v, 0, 0)
 | s :: r, taken, bad, v =>
  if res.length < taken + s.1.toNat then (3, ((taken + s.1.toNat - res.length : Nat) : Int), 0)
  else if says s.2.1 s.2.2 ((bad + badN ((res.take (taken + s.1.toNat)).drop taken) : Nat) : Int) ≠ 3 then
   (if taken + s.1.toNat < res.length then (0, 0, 2) else (says s.2.1 s.2.2 ((bad + badN ((res.take (taken + s.1.toNat)).drop taken) : Nat) : Int), 0, 0))
  else playN res r (taken + s.1.toNat) (bad + badN ((res.take (taken + s.1.toNat)).drop taken)) 3
def playI (lot : Int) (l : List S3) (res : List Bool) : Int × Int × Int := if check lot l ≠ 0 then (0, 0, check lot l) else playN res l 0 0 0
set_option maxHeartbeats 2000000 in
theorem play_pure (lot : Int) (l : List S3) (hl : l.length < 2 ^ 63) (hr : ∀ x ∈ l, InS x) (res : List Bool) (hres : res.length < 2 ^ 62) :
  Pure Try.prog 9 [plD lot l, bsD res] (.tup [dU (playI lot l res).1, dI (playI lot l res).2.1, dI (playI lot l res).2.2]) := by
 refine pure_of pg Try.func9 (by kernel_rfl) ?_
 ((conv => whnf); repeat (first | (refine ChL.l ?_; (conv => whnf)) | (refine ChC.r ?_; (conv => whnf))))
 refine .inl ⟨_, check_pure lot l hl, ?_⟩
 ((conv => whnf); repeat (first | (refine ChL.l ?_; (conv => whnf)) | (refine ChC.r ?_; (conv => whnf))))
 apply kB <;> intro h <;> ((conv => whnf); repeat (first | (refine ChL.l ?_; (conv => whnf)) | (refine ChC.r ?_; (conv => whnf))))
 ·have hc : check lot l ≠ 0 := by simpa using h
  unfold playI
  rw [if_pos hc]
  rfl
 ·have hc : check lot l = 0 := by simpa using h
  have hp : playI lot l res = playN res l 0 0 0 := by unfold playI; rw [if_neg (by simp [hc])]
  rw [hp]
  obtain ⟨n, rfl, hn1, hn2, hl3, hf, he⟩ := check_good hr hc
  refine ⟨[], [1, 4, 8, 9, 20, 21, 22], [], 1, fun m s => ∃ (k taken bad : Nat) (v : Int), k + m = l.length ∧ taken ≤ n ∧ bad ≤ taken ∧ Fit n taken (l.drop k) ∧ playN res (l.drop k) taken bad v = playN res l 0 0 0 ∧
   s = ⟨[(1, .d (bsD res)), (4, .d (dU v)), (8, .d (dI taken)), (9, .d (dI bad)), (20, .d (.seq (l.map stD))), (21, .d (dI l.length)), (22, .d (dI k))], [], 1⟩, ?_, ?_⟩
  ·((conv => whnf); repeat (first | (refine ChL.l ?_; (conv => whnf)) | (refine ChC.r ?_; (conv => whnf))))
   exact ⟨l.length, 0, 0, 0, 0, by simp, by omega, by omega, hf, rfl, by simp⟩
  ·rintro m _ ⟨k, taken, bad, v, hk, ht, hb, hf', hpl, rfl⟩
   ((conv => whnf); repeat (first | (refine ChL.l ?_; (conv => whnf)) | (refine ChC.r ?_; (conv => whnf))))
   apply kB <;> intro h <;> ((conv => whnf); repeat (first | (refine ChL.l ?_; (conv => whnf)) | (refine ChC.r ?_; (conv => whnf))))
   ·have hlt : k < l.length := by simpa using h
    have hd : l.drop k = l[k] :: l.drop (k + 1) := (List.getElem_cons_drop ..).symm
    have hq := getD? l k hlt
    rw [hd] at hf' hpl
    generalize l[k] = q at hf' hpl hq
    obtain ⟨t, ht0, ht1, ht2, hf2⟩ := hf'
    have e1 : IntKind.i64.wrap ((k : Int) + 1) = ((k + 1 : Nat) : Int) := by rw [wrapI (by omega) (by omega)]; rfl
    have e2 : IntKind.i64.wrap ((taken : Int) + q.1) = ((taken + t : Nat) : Int) := by rw [ht0, wrapI (by omega) (by omega)]; rfl
    refine ⟨k, stD q, rfl, hq, rfl, ?_⟩
    ((conv => whnf); repeat (first | (refine ChL.l ?_; (conv => whnf)) | (refine ChC.r ?_; (conv => whnf))))
    apply kB <;> intro h <;> ((conv => whnf); repeat (first | (refine ChL.l ?_; (conv => whnf)) | (refine ChC.r ?_; (conv => whnf))))
    ·have hlen : res.length < taken + t := by
      rw [decide_eq_true_eq, e2, List.length_map] at h; omega
     rw [e2] at h
     rw [← hpl, playN, ht0, Int.toNat_natCast, if_pos hlen]
     have e3 : IntKind.i64.wrap (IntKind.i64.wrap ((taken : Int) + (t : Int)) - ((List.map (fun b => [dB b]) res).length : Int)) = ((taken + t - res.length : Nat) : Int) := by
      rw [← ht0, e2, List.length_map, wrapI (by omega) (by omega)]; omega
     rw [e3]
     rfl
    ·have hlen : taken + t ≤ res.length := by
      rw [decide_eq_false_iff_not, e2, List.length_map] at h; omega
     refine ⟨taken, rfl, ?_⟩
     ((conv => whnf); repeat (first | (refine ChL.l ?_; (conv => whnf)) | (refine ChC.r ?_; (conv => whnf))))
     refine ⟨taken + t, e2, by omega, by rw [List.length_map]; exact hlen, by intro el he; obtain ⟨b, _, rfl⟩ := List.mem_map.1 he; rfl, ?_⟩
     ((conv => whnf); repeat (first | (refine ChL.l ?_; (conv => whnf)) | (refine ChC.r ?_; (conv => whnf))))
     obtain ⟨seg, hseg⟩ : ∃ seg, seg = (res.take (taken + t)).drop taken := ⟨_, rfl⟩
     have hsm : ((res.map fun b => [dB b]).take (taken + t)).drop taken = seg.map fun b => [dB b] := by rw [hseg, List.map_drop, List.map_take]
     have hsl : seg.length = t := by rw [hseg, List.length_drop, List.length_take]; omega
     rw [hsm]
     refine ⟨[], [1, 4, 8, 9, 11, 20, 21, 22, 46, 47, 48], [1], 2, fun m s => ∃ j : Nat, j + m = t ∧
      s = ⟨[(1, .d (bsD res)), (4, .d (dU v)), (8, .d (dI taken)), (9, .d (dI ((bad + badN (seg.take j) : Nat) : Int))), (11, .ref 1 0), (20, .d (.seq (l.map stD))), (21, .d (dI l.length)), (22, .d (dI k)), (46, .d (bsD seg)), (47, .d (dI t)), (48, .d (dI j))], [(1, .var false 72 [.d (dI q.1), .d (dI q.2.1), .d (dI q.2.2)])], 2⟩, ?_, ?_⟩
     ·((conv => whnf); repeat (first | (refine ChL.l ?_; (conv => whnf)) | (refine ChC.r ?_; (conv => whnf))))
      exact ⟨t, 0, by omega, by simp [badN, hsl]⟩
     ·rintro m' _ ⟨j, hj, rfl⟩
      ((conv => whnf); repeat (first | (refine ChL.l ?_; (conv => whnf)) | (refine ChC.r ?_; (conv => whnf))))
      (apply kB <;> intro h <;> ((conv => whnf); repeat (first | (refine ChL.l ?_; (conv => whnf)) | (refine ChC.r ?_; (conv => whnf)))))
      ·have hjt : j < seg.length := by rw [decide_eq_true_eq] at h; omega
       have hw : IntKind.i64.wrap ((j : Int) + 1) = ((j + 1 : Nat) : Int) := by rw [wrapI (by omega) (by omega)]; rfl
       have hbl : badN (seg.take j) ≤ j := by
        unfold badN; exact Nat.le_trans List.countP_le_length (by simp; omega)
       have hbs : badN (seg.take (j + 1)) = badN (seg.take j) + if seg[j] then 1 else 0 := by
        unfold badN; rw [List.take_succ_eq_append_getElem hjt, List.countP_append, List.countP_singleton]; rfl
       (refine ⟨j, [dB seg[j]], rfl, by simp [hjt], rfl, ?_⟩; ((conv => whnf); repeat (first | (refine ChL.l ?_; (conv => whnf)) | (refine ChC.r ?_; (conv => whnf)))))
       (apply kB <;> intro h' <;> ((conv => whnf); repeat (first | (refine ChL.l ?_; (conv => whnf)) | (refine ChC.r ?_; (conv => whnf)))))
       ·rw [h', if_pos rfl] at hbs
        have hv : IntKind.i64.wrap (((bad + badN (seg.take j) : Nat) : Int) + 1) = ((bad + badN (seg.take (j + 1)) : Nat) : Int) := by
         rw [hbs, wrapI (by omega) (by omega)]; omega
        refine ⟨m' - 1, by omega, j + 1, by omega, ?_⟩
        rw [hv, hw]
       ·rw [h', if_neg (by simp)] at hbs
        refine ⟨m' - 1, by omega, j + 1, by omega, ?_⟩
        rw [hbs, hw]; rfl
      ·have hjt : j = t := by rw [decide_eq_false_iff_not] at h; omega
       have hst : seg.take j = seg := List.take_of_length_le (by omega)
       rw [hst, e2]
       refine .inl ⟨_, says_pure .., ?_⟩
       ((conv => whnf); repeat (first | (refine ChL.l ?_; (conv => whnf)) | (refine ChC.r ?_; (conv => whnf))))
       have hpl' := hpl
       rw [playN, ht0, Int.toNat_natCast, if_neg (by omega), ← hseg] at hpl'
       (apply kB <;> intro h' <;> ((conv => whnf); repeat (first | (refine ChL.l ?_; (conv => whnf)) | (refine ChC.r ?_; (conv => whnf)))))
       ·rw [if_pos (by simpa using h')] at hpl'
        (apply kB <;> intro h2 <;> ((conv => whnf); repeat (first | (refine ChL.l ?_; (conv => whnf)) | (refine ChC.r ?_; (conv => whnf)))))
        ·rw [decide_eq_true_eq, List.length_map] at h2
         rw [if_pos (by omega)] at hpl'
         rw [← hpl']
         rfl
        ·rw [decide_eq_false_iff_not, List.length_map] at h2
         rw [if_neg (by omega)] at hpl'
         rw [← hpl']
         rfl
       ·have h3 : says q.2.1 q.2.2 ((bad + badN seg : Nat) : Int) = 3 := by simpa using h'
        rw [if_neg (fun hh => hh h3)] at hpl'
        refine ⟨m - 1, by omega, k + 1, taken + t, bad + badN seg, 3, by omega, by omega, ?_, hf2, hpl', ?_⟩
        ·have : badN seg ≤ seg.length := List.countP_le_length
         omega
        ·rw [h3, e1]
   ·have hkl : k = l.length := by rw [decide_eq_false_iff_not] at h; omega
    rw [hkl, List.drop_length, playN] at hpl
    (apply kB <;> intro h2 <;> ((conv => whnf); repeat (first | (refine ChL.l ?_; (conv => whnf)) | (refine ChC.r ?_; (conv => whnf)))))
    ·rw [decide_eq_true_eq, List.length_map] at h2
     rw [if_pos (by omega)] at hpl
     rw [← hpl]
     rfl
    ·rw [decide_eq_false_iff_not, List.length_map] at h2
     rw [if_neg (by omega)] at hpl
     rw [← hpl]
     rfl
end Go.Ev.Ytijidghjiaiccaa.P


set_option linter.unusedVariables false
set_option linter.unusedSimpArgs false
set_option maxRecDepth 100000
namespace Go.Ev.Ytijidghjiaiccaa.P
open Go.Proofs
attribute [local irreducible] Pure Bor Iter
abbrev inB (n lo hi : Int) : Bool := decide (lo ≤ n) && decide (n ≤ hi)
def fR (lot : Int) : List S3 → Int → Option S3 → Int
 | [], _, _ => 0
 | s :: r, taken, prev =>
  bif !inB s.1 1 30 || decide (wI (taken + s.1) > lot) then 1 else
  bif !inB s.2.1 (-1) 30 || decide (s.2.2 ≤ s.2.1) || decide (s.2.2 > wI (wI (taken + s.1) + 1)) then 1 else
  bif (match prev with | none => false | some q => decide (s.2.1 < q.2.1) || decide (s.2.2 < q.2.2)) then 1 else
  bif r.isEmpty && (s.2.2 != wI (s.2.1 + 1)) then 1 else fR lot r (wI (taken + s.1)) (some s)
def ltP (q : S3) : Option S3 → Bool
 | none => false
 | some p => decide (q.2.1 < p.2.1) || decide (q.2.2 < p.2.2)
def faultR (lot : Int) (l : List S3) : Int := bif decide ((l.length : Int) > 3) then 3 else bif !inB lot 1 30 || l.isEmpty then 1 else fR lot l 0 none
end Go.Ev.Ytijidghjiaiccaa.P


set_option linter.unusedVariables false
set_option linter.unusedSimpArgs false
set_option maxRecDepth 100000
namespace Go.Ev.Ytijidghjiaiccaa
open Go.Proofs
abbrev isC (l : List Int) : List (List D) := l.map fun x => [dI x]
theorem sWithin_pure (n lo hi : Int) : Pure Try.prog 24 [dI n, dI lo, dI hi] (dB (inB n lo hi)) := by
 refine pure_of pg Try.func24 (by kernel_rfl) ?_
 conv => whnf
 (repeat' (first | (apply kT (by with_reducible first | rfl | assumption); conv => whnf) | (apply kF (by with_reducible first | rfl | assumption); conv => whnf) | (apply kT (by decide); conv => whnf) | (apply kF (by decide); conv => whnf) | (apply kB <;> intro _ <;> conv => whnf) | fail))
 all_goals (rename_i h; unfold inB; rw [h]; rfl)
attribute [local irreducible] Pure Bor Iter inB
theorem rank_bor (n x : Int) : Bor tb Try.prog 23 [.d (dI x), .ref 0 0] [intO n] 2 (.d (dB (inB x 0 n))) [(0, intO n)] := by
 refine bor_of pg Try.func23 (by kernel_rfl) ?_
 conv => whnf
 (repeat' (first | (apply kT (by with_reducible first | rfl | assumption); conv => whnf) | (apply kF (by with_reducible first | rfl | assumption); conv => whnf) | (apply kT (by decide); conv => whnf) | (apply kF (by decide); conv => whnf) | (apply kB <;> intro _ <;> conv => whnf) | (refine .inl ⟨_, sWithin_pure .., ?_⟩; conv => whnf) | fail))
 (refine ⟨[], [0], ?_⟩; conv => whnf)
 exact ⟨rfl, rfl⟩
abbrev fOI : Ob := .var false 87 [.fn (.func 23) [] [.ref 0 0]]
theorem all1I (n : Int) (x : Int) : Bor tb Try.prog 53 [.d (dI x), .ref 1 0] [intO n, fOI] 2 (.d (dB (!inB x 0 n))) [(0, intO n), (1, fOI)] := by
 have c := rank_bor n x
 refine bor_of pg Try.func53 (by kernel_rfl) ?_
 conv => whnf
 (repeat' (first | (apply kT (by with_reducible first | rfl | assumption); conv => whnf) | (apply kF (by with_reducible first | rfl | assumption); conv => whnf) | (apply kT (by decide); conv => whnf) | (apply kF (by decide); conv => whnf) | (apply kB <;> intro _ <;> conv => whnf) | fail))
 (refine .inr ⟨[0], 2, _, _, c, ?_⟩; conv => whnf)
 (repeat' (first | (apply kT (by with_reducible first | rfl | assumption); conv => whnf) | (apply kF (by with_reducible first | rfl | assumption); conv => whnf) | (apply kT (by decide); conv => whnf) | (apply kF (by decide); conv => whnf) | (apply kB <;> intro _ <;> conv => whnf) | fail))
 (refine ⟨[], [0, 1], ?_⟩; conv => whnf)
 exact ⟨by cases inB x 0 n <;> rfl, rfl⟩
theorem idxI (n : Int) (l : List Int) (hl : l.length ≤ 100000) : Bor tb Try.prog 74 [.d (.seq (isC l)), .fn (.func 53) [] [.ref 1 0]] [intO n, fOI] 2 (.d (dI (ixI (fun x => !inB x 0 n) l))) [(0, intO n), (1, fOI)] := by
 have hm : ((isC l).length : Int) = l.length := by rw [List.length_map]
 refine bor_of pg Try.func74 (by kernel_rfl) ?_
 conv => whnf
 (repeat' (first | (apply kT (by with_reducible first | rfl | assumption); conv => whnf) | (apply kF (by with_reducible first | rfl | assumption); conv => whnf) | (apply kT (by decide); conv => whnf) | (apply kF (by decide); conv => whnf) | (apply kB <;> intro _ <;> conv => whnf) | fail))
 refine ⟨[], [0, 1, 7, 8], [0, 1], 2, fun m s => ∃ k : Nat, k + m = l.length ∧ (∀ j (h : j < k) (h2 : j < l.length), (!inB l[j] 0 n) = false) ∧ s = ⟨[(0, .d (.seq (isC l))), (1, .fn (.func 53) [] [.ref 1 0]), (7, .d (dI ((isC l).length : Nat))), (8, .d (dI k))], [(0, intO n), (1, fOI)], 2⟩, ?_, ?_⟩
 ·conv => whnf
  exact ⟨l.length, 0, by omega, fun j h => by omega, rfl⟩
 ·rintro m _ ⟨k, hk, hno, rfl⟩
  by_cases hkl : k < l.length
  ·have f1 : decide ((k : Int) < ((isC l).length : Int)) = true := decide_eq_true (by rw [hm]; omega)
   have hg : (isC l)[k]? = some ([dI l[k]]) := by rw [List.getElem?_map, List.getElem?_eq_getElem hkl]; rfl
   have w1k : IntKind.i64.wrap ((k : Int) + 1) = ((k + 1 : Nat) : Int) := by rw [wrapI (by omega) (by omega)]; rfl
   have cs := all1I n l[k]
   by_cases he : (!inB l[k] 0 n) = true
   ·have e := ixI_at (q := fun x => !inB x 0 n) hkl (fun j hj => hno j hj (by omega)) he
    rw [e]
    rw [he] at cs
    conv => whnf
    (repeat' (first | (apply kT (by with_reducible first | rfl | assumption); conv => whnf) | (apply kF (by with_reducible first | rfl | assumption); conv => whnf) | (apply kT (by decide); conv => whnf) | (apply kF (by decide); conv => whnf) | (apply kB <;> intro _ <;> conv => whnf) | fail))
    (refine ⟨k, _, rfl, hg, rfl, ?_⟩; conv => whnf)
    (refine .inr ⟨[0, 1], 2, _, _, cs, ?_⟩; conv => whnf)
    (repeat' (first | (apply kT (by with_reducible first | rfl | assumption); conv => whnf) | (apply kF (by with_reducible first | rfl | assumption); conv => whnf) | (apply kT (by decide); conv => whnf) | (apply kF (by decide); conv => whnf) | (apply kB <;> intro _ <;> conv => whnf) | fail))
    (refine ⟨[], [0, 1], ?_⟩; conv => whnf)
    exact ⟨rfl, rfl⟩
   ·have he := (Bool.not_eq_true _).mp he
    rw [he] at cs
    conv => whnf
    (repeat' (first | (apply kT (by with_reducible first | rfl | assumption); conv => whnf) | (apply kF (by with_reducible first | rfl | assumption); conv => whnf) | (apply kT (by decide); conv => whnf) | (apply kF (by decide); conv => whnf) | (apply kB <;> intro _ <;> conv => whnf) | fail))
    (refine ⟨k, _, rfl, hg, rfl, ?_⟩; conv => whnf)
    (refine .inr ⟨[0, 1], 2, _, _, cs, ?_⟩; conv => whnf)
    (repeat' (first | (apply kT (by with_reducible first | rfl | assumption); conv => whnf) | (apply kF (by with_reducible first | rfl | assumption); conv => whnf) | (apply kT (by decide); conv => whnf) | (apply kF (by decide); conv => whnf) | (apply kB <;> intro _ <;> conv => whnf) | fail))
    refine ⟨m - 1, by omega, k + 1, by omega, fun j hj hjl => ?_, ?_⟩
    ·by_cases h : j < k
     ·exact hno j h hjl
     ·have : j = k := by omega
      subst this
      exact he
    ·rw [w1k]; rfl
  ·have f1 : decide ((k : Int) < ((isC l).length : Int)) = false := decide_eq_false (by rw [hm]; omega)
   have e := ixI_none (q := fun x => !inB x 0 n) (l := l) fun j hj => hno j (by omega) hj
   rw [e]
   conv => whnf
   (repeat' (first | (apply kT (by with_reducible first | rfl | assumption); conv => whnf) | (apply kF (by with_reducible first | rfl | assumption); conv => whnf) | (apply kT (by decide); conv => whnf) | (apply kF (by decide); conv => whnf) | (apply kB <;> intro _ <;> conv => whnf) | fail))
   (refine ⟨[], [0, 1], ?_⟩; conv => whnf)
   exact ⟨rfl, rfl⟩
theorem hasI (n : Int) (l : List Int) (hl : l.length ≤ 100000) : Bor tb Try.prog 52 [.d (.seq (isC l)), .fn (.func 53) [] [.ref 1 0]] [intO n, fOI] 2 (.d (dB (!l.all (fun x => inB x 0 n)))) [(0, intO n), (1, fOI)] := by
 have ci := idxI n l hl
 rw [← ixI_all]
 refine bor_of pg Try.func52 (by kernel_rfl) ?_
 conv => whnf
 (repeat' (first | (apply kT (by with_reducible first | rfl | assumption); conv => whnf) | (apply kF (by with_reducible first | rfl | assumption); conv => whnf) | (apply kT (by decide); conv => whnf) | (apply kF (by decide); conv => whnf) | (apply kB <;> intro _ <;> conv => whnf) | fail))
 (refine .inr ⟨[0, 1], 2, _, _, ci, ?_⟩; conv => whnf)
 (repeat' (first | (apply kT (by with_reducible first | rfl | assumption); conv => whnf) | (apply kF (by with_reducible first | rfl | assumption); conv => whnf) | (apply kT (by decide); conv => whnf) | (apply kF (by decide); conv => whnf) | (apply kB <;> intro _ <;> conv => whnf) | fail))
 (refine ⟨[], [0, 1], ?_⟩; conv => whnf)
 exact ⟨rfl, rfl⟩
theorem allI (n : Int) (l : List Int) (hl : l.length ≤ 100000) : Bor tb Try.prog 22 [.d (.seq (isC l)), .fn (.func 23) [] [.ref 0 0]] [intO n] 2 (.d (dB (l.all (fun x => inB x 0 n)))) [(0, intO n)] := by
 have ci := hasI n l hl
 refine bor_of pg Try.func22 (by kernel_rfl) ?_
 conv => whnf
 (repeat' (first | (apply kT (by with_reducible first | rfl | assumption); conv => whnf) | (apply kF (by with_reducible first | rfl | assumption); conv => whnf) | (apply kT (by decide); conv => whnf) | (apply kF (by decide); conv => whnf) | (apply kB <;> intro _ <;> conv => whnf) | fail))
 (refine .inr ⟨[0, 1], 2, _, _, ci, ?_⟩; conv => whnf)
 (repeat' (first | (apply kT (by with_reducible first | rfl | assumption); conv => whnf) | (apply kF (by with_reducible first | rfl | assumption); conv => whnf) | (apply kT (by decide); conv => whnf) | (apply kF (by decide); conv => whnf) | (apply kB <;> intro _ <;> conv => whnf) | fail))
 (refine ⟨[], [0], ?_⟩; conv => whnf)
 exact ⟨by cases l.all (fun x => inB x 0 n) <;> rfl, rfl⟩
theorem place_pure (a b : Int) : Pure Try.prog 21 [dI a, dI b] (dB (inB a 1 8 && inB b 0 (IntKind.i64.wrap (a - 1)))) := by
 refine pure_of pg Try.func21 (by kernel_rfl) ?_
 conv => whnf
 (repeat' (first | (apply kT (by with_reducible first | rfl | assumption); conv => whnf) | (apply kF (by with_reducible first | rfl | assumption); conv => whnf) | (apply kT (by decide); conv => whnf) | (apply kF (by decide); conv => whnf) | (apply kB <;> intro _ <;> conv => whnf) | (refine .inl ⟨_, sWithin_pure .., ?_⟩; conv => whnf) | fail))
 all_goals (simp only [*, Bool.true_and, Bool.false_and, Bool.and_true, Bool.and_false]; rfl)
theorem stays_pure (a b x : Int) : Pure Try.prog 56 [.agg [dI a, dI b, .v (.slice none 0 0)], dI x] (dI x) := by
 refine pure_of pg Try.func56 (by kernel_rfl) ?_
 conv => whnf
 (repeat' (first | (apply kT (by with_reducible first | rfl | assumption); conv => whnf) | (apply kF (by with_reducible first | rfl | assumption); conv => whnf) | (apply kT (by decide); conv => whnf) | (apply kF (by decide); conv => whnf) | (apply kB <;> intro _ <;> conv => whnf) | fail))
 rfl
theorem moves_pure : Pure Try.prog 25 [] (.seq [fnE 54, fnE 55, fnE 56]) := by
 refine pure_of pg Try.func25 (by kernel_rfl) ?_
 conv => whnf
 (repeat' (first | (apply kT (by with_reducible first | rfl | assumption); conv => whnf) | (apply kF (by with_reducible first | rfl | assumption); conv => whnf) | (apply kT (by decide); conv => whnf) | (apply kF (by decide); conv => whnf) | (apply kB <;> intro _ <;> conv => whnf) | fail))
 (refine .l ?_; conv => whnf)
 rfl
theorem shake_wait : Pure Try.prog 11 [dI 3, dI 1, isD [2], .seq [[dB true]]] (.tup [.seq [[dI 1, dU 2]], dI 0]) := by
 have c1 : Pure Try.prog 21 [dI 3, dI 1] (dB true) := by
  have h := place_pure 3 1
  have e : (inB 3 1 8 && inB 1 0 (IntKind.i64.wrap (3 - 1))) = true := by unfold inB; decide
  rwa [e] at h
 have c2 := allI 3 [2] (by simp)
 have e2 : ([2] : List Int).all (fun x => inB x 0 3) = true := by unfold inB; decide
 rw [e2] at c2
 refine pure_of pg Try.func11 (by kernel_rfl) ?_
 conv => whnf
 (repeat' (first | (apply kT (by with_reducible first | rfl | assumption); conv => whnf) | (apply kF (by with_reducible first | rfl | assumption); conv => whnf) | (apply kT (by decide); conv => whnf) | (apply kF (by decide); conv => whnf) | (apply kB <;> intro _ <;> conv => whnf) | (refine .inl ⟨_, c1, ?_⟩; conv => whnf) | fail))
 (refine .inr ⟨[0], 2, _, _, c2, ?_⟩; conv => whnf)
 (repeat' (first | (apply kT (by with_reducible first | rfl | assumption); conv => whnf) | (apply kF (by with_reducible first | rfl | assumption); conv => whnf) | (apply kT (by decide); conv => whnf) | (apply kF (by decide); conv => whnf) | (apply kB <;> intro _ <;> conv => whnf) | fail))
 refine ⟨[.own 12 65], [3, 10, 11, 12, 41, 42, 43], [2, 3], 4, fun m s => ∃ k : Nat, k + m = 1 ∧ s = ⟨[(3, .d (.seq [[dB true]])), (10, .ref 2 0), (11, .d (dI 1)), (12, .own 3), (41, .d (isD [2])), (42, .d (dI 1)), (43, .d (dI k))], [(2, .var false 69 [.d (dI 3), .d (dI 1), .d (.v (.slice none 0 0))]), (3, .arr 65 (List.replicate k [dI 1, dU 2]))], 4⟩, ?_, ?_⟩
 ·conv => whnf
  exact ⟨1, 0, rfl, rfl⟩
 ·rintro m _ ⟨k, hk, rfl⟩
  rcases (by omega : k = 0 ∨ k = 1) with rfl | rfl
  ·have c3 := stays_pure 3 1 1
   conv => whnf
   (repeat' (first | (apply kT (by with_reducible first | rfl | assumption); conv => whnf) | (apply kF (by with_reducible first | rfl | assumption); conv => whnf) | (apply kT (by decide); conv => whnf) | (apply kF (by decide); conv => whnf) | (apply kB <;> intro _ <;> conv => whnf) | fail))
   (refine ⟨0, _, rfl, rfl, rfl, ?_⟩; conv => whnf)
   (repeat' (first | (apply kT (by with_reducible first | rfl | assumption); conv => whnf) | (apply kF (by with_reducible first | rfl | assumption); conv => whnf) | (apply kT (by decide); conv => whnf) | (apply kF (by decide); conv => whnf) | (apply kB <;> intro _ <;> conv => whnf) | fail))
   (refine ⟨0, _, rfl, rfl, rfl, ?_⟩; conv => whnf)
   (repeat' (first | (apply kT (by with_reducible first | rfl | assumption); conv => whnf) | (apply kF (by with_reducible first | rfl | assumption); conv => whnf) | (apply kT (by decide); conv => whnf) | (apply kF (by decide); conv => whnf) | (apply kB <;> intro _ <;> conv => whnf) | fail))
   (refine .l ?_; conv => whnf)
   (repeat' (first | (apply kT (by with_reducible first | rfl | assumption); conv => whnf) | (apply kF (by with_reducible first | rfl | assumption); conv => whnf) | (apply kT (by decide); conv => whnf) | (apply kF (by decide); conv => whnf) | (apply kB <;> intro _ <;> conv => whnf) | (refine .inl ⟨_, moves_pure, ?_⟩; conv => whnf) | fail))
   (refine ⟨fun el h => by rw [List.mem_singleton.1 h]; rfl, by decide, ?_⟩; conv => whnf)
   (repeat' (first | (apply kT (by with_reducible first | rfl | assumption); conv => whnf) | (apply kF (by with_reducible first | rfl | assumption); conv => whnf) | (apply kT (by decide); conv => whnf) | (apply kF (by decide); conv => whnf) | (apply kB <;> intro _ <;> conv => whnf) | (refine .inl ⟨_, moves_pure, ?_⟩; conv => whnf) | (refine .inl ⟨_, c3, ?_⟩; conv => whnf) | fail))
   (refine ⟨2, _, rfl, rfl, rfl, ?_⟩; conv => whnf)
   (repeat' (first | (apply kT (by with_reducible first | rfl | assumption); conv => whnf) | (apply kF (by with_reducible first | rfl | assumption); conv => whnf) | (apply kT (by decide); conv => whnf) | (apply kF (by decide); conv => whnf) | (apply kB <;> intro _ <;> conv => whnf) | (refine .inl ⟨_, c3, ?_⟩; conv => whnf) | fail))
   exact ⟨m - 1, by omega, 1, by omega, rfl⟩
  ·conv => whnf
   (repeat' (first | (apply kT (by with_reducible first | rfl | assumption); conv => whnf) | (apply kF (by with_reducible first | rfl | assumption); conv => whnf) | (apply kT (by decide); conv => whnf) | (apply kF (by decide); conv => whnf) | (apply kB <;> intro _ <;> conv => whnf) | fail))
   rfl
end Go.Ev.Ytijidghjiaiccaa


set_option linter.unusedVariables false
set_option linter.unusedSimpArgs false
set_option maxRecDepth 100000
namespace Go.Ev.Ytijidghjiaiccaa
open Go.Proofs
abbrev nilS : D := .v (.slice none 0 0)
def Wk (d d' : D) : Prop := ∀ (I : Nat → Prop) (x : Array Obj) (u : Value), RepD I x d u → RepD I x d' u
def WkL (l l' : List D) : Prop := l.length = l'.length ∧ ∀ (I : Nat → Prop) (x : Array Obj) (us : List Value), RepL I x l us → RepL I x l' us
theorem Wk.refl (d : D) : Wk d d := fun _ _ _ h => h
theorem Wk.nil : Wk nilS (.seq []) := fun I x u h => by
 rw [RepD] at h
 subst h
 rw [RepD]; exact ⟨none, 0, 0, rfl, rfl, Nat.le_refl _, .inl rfl⟩
theorem WkL.nil : WkL [] [] := ⟨rfl, fun _ _ _ h => h⟩
theorem WkL.refl (l : List D) : WkL l l := ⟨rfl, fun _ _ _ h => h⟩
theorem WkL.cons {d d' : D} {l l' : List D} (h : Wk d d') (hl : WkL l l') : WkL (d :: l) (d' :: l') := ⟨by rw [List.length_cons, List.length_cons, hl.1], fun I x us r => by
 rw [RepL] at r ⊢
 obtain ⟨v, q, rfl, h1, h2⟩ := r
 exact ⟨v, q, rfl, h I x v h1, hl.2 I x q h2⟩⟩
theorem Wk.agg {l l' : List D} (h : WkL l l') : Wk (.agg l) (.agg l') := fun I x u r => by
 rw [RepD] at r ⊢
 obtain ⟨c, h1, h2⟩ := r
 exact ⟨c, h1, h.2 I x _ h2⟩
inductive WkR : List (List D) → List (List D) → Prop
 | nil : WkR [] []
 | cons {e e' es es'} : WkL e e' → WkR es es' → WkR (e :: es) (e' :: es')
theorem WkR.len : ∀ {a b : List (List D)}, WkR a b → a.length = b.length
 | _, _, .nil => rfl
 | _, _, .cons _ h => by rw [List.length_cons, List.length_cons, h.len]
theorem WkR.rep {I : Nat → Prop} {x : Array Obj} {sz : Nat} : ∀ {a b : List (List D)} {vs : List Value}, WkR a b → RepR I x sz a vs → RepR I x sz b vs
 | _, _, vs, .nil, h => h
 | _, _, vs, .cons he hs, h => by
  rw [RepR] at h ⊢
  obtain ⟨h1, h2, h3, h4⟩ := h
  exact ⟨by rw [← he.1]; exact h1, he.2 I x _ h2, h3, hs.rep h4⟩
theorem Wk.seq {a b : List (List D)} (h : WkR a b) : Wk (.seq a) (.seq b) := fun I x u r => by
 rw [RepD] at r ⊢
 obtain ⟨ad, len, cap, q1, q2, q3, q4⟩ := r
 refine ⟨ad, len, cap, q1, by rw [← h.len]; exact q2, q3, q4.imp id ?_⟩
 rintro ⟨sz, bb, off, cc, T, fr, u1, u2, u3, u4⟩
 exact ⟨sz, bb, off, cc, T, fr, u1, u2, u3, h.rep u4⟩
theorem pure_wk {P : Program} {f : FuncId} {ds es : List D} {r : D} (hp : Pure P f ds r) (h : WkL es ds) : Pure P f es r :=
 ⟨hp.1, fun w I vs hI hr => hp.2 w I vs hI (h.2 _ _ _ hr)⟩
theorem play_wait : Pure Try.prog 9 [.agg [dI 3, .seq [[dI 2, dI 0, dI 1]]], .seq []] (.tup [dU 3, dI 2, dI 0]) := by
 have h := P.play_pure 3 [(2, 0, 1)] (by decide) (fun x hx => by
  rw [List.mem_singleton.1 hx]
  unfold P.InS P.InR
  decide) [] (by decide)
 have e : P.playI 3 [(2, 0, 1)] [] = (3, 2, 0) := by decide
 rw [e] at h
 exact h
theorem earl_wait : Pure Try.prog 8 [.agg [.seq [[nilS]], .seq [[dI 2, dI 0, .seq [[dB true]]]]]] (.tup [.seq [[isD [0]], [isD [0]]], dI 2, dI 0]) := by
 have h := earliest_pure ⟨[[]], [⟨2, 0, [true]⟩]⟩
 have e : earlD ⟨[[]], [⟨2, 0, [true]⟩]⟩ = .tup [.seq [[isD [0]], [isD [0]]], dI 2, dI 0] := by
  have e1 : checkQ ⟨[[]], [⟨2, 0, [true]⟩]⟩ = 0 := by decide
  have e2 : layL (quQ ⟨[[]], [⟨2, 0, [true]⟩]⟩) 40 [] (itK (hrsQ ⟨[[]], [⟨2, 0, [true]⟩]⟩) 1) = some [[0, -1, -1, -1], [0, -1, -1, -1]] := by decide
  unfold earlD
  rw [if_neg (by rw [e1]; simp)]
  show (match layL (quQ ⟨[[]], [⟨2, 0, [true]⟩]⟩) 40 [] (itK (hrsQ ⟨[[]], [⟨2, 0, [true]⟩]⟩) 1) with
   | some P => D.tup [.seq (plRows 1 P), dI (P.length : Nat), dI 0]
   | none => .tup [.seq [], dI 0, dI 9]) = _
  rw [e2]
  rfl
 rw [e] at h
 exact pure_wk h (.cons (.agg (.cons (.seq (.cons (.cons .nil .nil) .nil)) (.refl _))) .nil)
attribute [local irreducible] Pure Bor Iter
theorem waits_pure : Pure Try.prog 7 [] (dB true) := by
 refine pure_of pg Try.func7 (by kernel_rfl) ?_
 conv => whnf
 (repeat' (first | (apply kT (by with_reducible first | rfl | assumption); conv => whnf) | (apply kF (by with_reducible first | rfl | assumption); conv => whnf) | (apply kT (by decide); conv => whnf) | (apply kF (by decide); conv => whnf) | (apply kB <;> intro _ <;> conv => whnf) | (refine ChL.l ?_; conv => whnf) | (refine .inl ⟨_, shake_wait, ?_⟩; conv => whnf) | (refine .inl ⟨_, play_wait, ?_⟩; conv => whnf) | (refine .inl ⟨_, earl_wait, ?_⟩; conv => whnf) | (refine ⟨0, _, rfl, rfl, rfl, ?_⟩; conv => whnf) | (refine ⟨true, rfl, ?_⟩; conv => whnf) | fail))
 rfl
end Go.Ev.Ytijidghjiaiccaa


set_option linter.unusedVariables false
set_option linter.unusedSimpArgs false
set_option maxRecDepth 100000
namespace Go.Ev.Ytijidghjiaiccaa
open Go.Proofs
attribute [local irreducible] Pure Bor Iter inB
theorem max2_pure (a b : Int) : Pure Try.prog 60 [.seq [[dI a], [dI b]]] (dI (max a b)) := by
 refine pure_of pg Try.func60 (by kernel_rfl) ?_
 conv => whnf
 (apply kF (rfl); conv => whnf)
 (refine ⟨0, _, rfl, rfl, rfl, ?_⟩; conv => whnf)
 refine ⟨[], [0, 3, 4], [], 0, fun m s => ∃ k : Nat, (k = 1 ∨ k = 2) ∧ k + m = 2 ∧ s = ⟨[(0, .d (.seq [[dI a], [dI b]])), (3, .d (dI (if k = 1 then a else max a b))), (4, .d (dI k))], [], 0⟩, ?_, ?_⟩
 ·conv => whnf
  exact ⟨1, 1, .inl rfl, rfl, rfl⟩
 ·rintro m _ ⟨k, hk, hkm, rfl⟩
  rcases hk with rfl | rfl
  ·conv => whnf
   (apply kT (rfl); conv => whnf)
   (refine ⟨1, _, rfl, rfl, rfl, ?_⟩; conv => whnf)
   exact ⟨0, by omega, 2, .inr rfl, rfl, rfl⟩
  ·conv => whnf
   (apply kF (rfl); conv => whnf)
   rfl
theorem min2_pure (a b : Int) : Pure Try.prog 95 [.seq [[dI a], [dI b]]] (dI (min a b)) := by
 refine pure_of pg Try.func95 (by kernel_rfl) ?_
 conv => whnf
 (apply kF (rfl); conv => whnf)
 (refine ⟨0, _, rfl, rfl, rfl, ?_⟩; conv => whnf)
 refine ⟨[], [0, 3, 4], [], 0, fun m s => ∃ k : Nat, (k = 1 ∨ k = 2) ∧ k + m = 2 ∧ s = ⟨[(0, .d (.seq [[dI a], [dI b]])), (3, .d (dI (if k = 1 then a else min a b))), (4, .d (dI k))], [], 0⟩, ?_, ?_⟩
 ·conv => whnf
  exact ⟨1, 1, .inl rfl, rfl, rfl⟩
 ·rintro m _ ⟨k, hk, hkm, rfl⟩
  rcases hk with rfl | rfl
  ·conv => whnf
   (apply kT (rfl); conv => whnf)
   (refine ⟨1, _, rfl, rfl, rfl, ?_⟩; conv => whnf)
   exact ⟨0, by omega, 2, .inr rfl, rfl, rfl⟩
  ·conv => whnf
   (apply kF (rfl); conv => whnf)
   rfl
theorem greatest_pure (a b : Int) : Pure Try.prog 80 [.seq [[dI a], [dI b]]] (dI (max a b)) := by
 refine pure_of pg Try.func80 (by kernel_rfl) ?_
 conv => whnf
 (refine .inl ⟨_, max2_pure a b, ?_⟩; conv => whnf)
 rfl
theorem least_pure (a b : Int) : Pure Try.prog 81 [.seq [[dI a], [dI b]]] (dI (min a b)) := by
 refine pure_of pg Try.func81 (by kernel_rfl) ?_
 conv => whnf
 (refine .inl ⟨_, min2_pure a b, ?_⟩; conv => whnf)
 rfl
def RunsD (z : D) : Prop := z = .v (.slice none 0 0) ∨ ∃ rows, z = .seq rows
theorem runs0 : RunsD (.v (.slice none 0 0)) := .inl rfl
theorem runs1 (rows : List (List D)) : RunsD (.seq rows) := .inr ⟨rows, rfl⟩
theorem lower_pure (a b x : Int) {z : D} (hz : RunsD z) (hx : 0 ≤ x ∧ x ≤ 1000) : Pure Try.prog 54 [.agg [dI a, dI b, z], dI x] (dI (max 0 (x - 1))) := by
 have w : IntKind.i64.wrap (x - 1) = x - 1 := wrapI (by omega) (by omega)
 have c := greatest_pure 0 (x - 1)
 rw [← w] at c
 rw [← w]
 rcases hz with rfl | ⟨rows, rfl⟩
 ·refine pure_of pg Try.func54 (by kernel_rfl) ?_
  conv => whnf
  (refine .l ?_; conv => whnf)
  (refine .inl ⟨_, c, ?_⟩; conv => whnf)
  rfl
 ·refine pure_of pg Try.func54 (by kernel_rfl) ?_
  conv => whnf
  (refine .l ?_; conv => whnf)
  (refine .inl ⟨_, c, ?_⟩; conv => whnf)
  rfl
theorem higher_pure (a b x : Int) {z : D} (hz : RunsD z) (hx : 0 ≤ x ∧ x ≤ 1000) (ha : 1 ≤ a ∧ a ≤ 1000) : Pure Try.prog 55 [.agg [dI a, dI b, z], dI x] (dI (min (a - 1) (x + 1))) := by
 have w : IntKind.i64.wrap (x + 1) = x + 1 := wrapI (by omega) (by omega)
 have w2 : IntKind.i64.wrap (a - 1) = a - 1 := wrapI (by omega) (by omega)
 have c := least_pure (a - 1) (x + 1)
 rw [← w, ← w2] at c
 rw [← w, ← w2]
 rcases hz with rfl | ⟨rows, rfl⟩
 ·refine pure_of pg Try.func55 (by kernel_rfl) ?_
  conv => whnf
  (refine .l ?_; conv => whnf)
  (refine .inl ⟨_, c, ?_⟩; conv => whnf)
  rfl
 ·refine pure_of pg Try.func55 (by kernel_rfl) ?_
  conv => whnf
  (refine .l ?_; conv => whnf)
  (refine .inl ⟨_, c, ?_⟩; conv => whnf)
  rfl
theorem stay_pure (a b x : Int) {z : D} (hz : RunsD z) : Pure Try.prog 56 [.agg [dI a, dI b, z], dI x] (dI x) := by
 rcases hz with rfl | ⟨rows, rfl⟩
 ·refine pure_of pg Try.func56 (by kernel_rfl) ?_
  conv => whnf
  (repeat' (first | (apply kT (by with_reducible first | rfl | assumption); conv => whnf) | (apply kF (by with_reducible first | rfl | assumption); conv => whnf) | (apply kT (by decide); conv => whnf) | (apply kF (by decide); conv => whnf) | (apply kB <;> intro _ <;> conv => whnf) | fail))
  rfl
 ·refine pure_of pg Try.func56 (by kernel_rfl) ?_
  conv => whnf
  (repeat' (first | (apply kT (by with_reducible first | rfl | assumption); conv => whnf) | (apply kF (by with_reducible first | rfl | assumption); conv => whnf) | (apply kT (by decide); conv => whnf) | (apply kF (by decide); conv => whnf) | (apply kB <;> intro _ <;> conv => whnf) | fail))
  rfl
def nextS (lv : Int) (res : Nat) (x : Int) : Int := if res = 0 then max 0 (x - 1) else if res = 1 then min (lv - 1) (x + 1) else x
def resS (x t : Int) (c : Bool) : Nat := if c = true then 2 else if x < t then 1 else 0
def lvS (lv st : Int) (T : Nat → Int) (C : Nat → Bool) : Nat → Int
 | 0 => st
 | k + 1 => nextS lv (resS (lvS lv st T C k) (T k) (C k)) (lvS lv st T C k)
def rsS (lv st : Int) (T : Nat → Int) (C : Nat → Bool) (k : Nat) : Nat := resS (lvS lv st T C k) (T k) (C k)
theorem lvS_succ (lv st : Int) (T : Nat → Int) (C : Nat → Bool) (k : Nat) : lvS lv st T C (k + 1) = nextS lv (rsS lv st T C k) (lvS lv st T C k) := by rw [lvS]; rfl
theorem nextS_ok {lv x : Int} (hx : 0 ≤ x ∧ x < lv) (r : Nat) : 0 ≤ nextS lv r x ∧ nextS lv r x < lv := by
 unfold nextS
 split
 ·omega
 ·split <;> omega
theorem lvS_ok {lv st : Int} (hst : 0 ≤ st ∧ st < lv) (T : Nat → Int) (C : Nat → Bool) : ∀ k, 0 ≤ lvS lv st T C k ∧ lvS lv st T C k < lv
 | 0 => hst
 | k + 1 => by rw [lvS_succ]; exact nextS_ok (lvS_ok hst T C k) _
abbrev rowsS (lv st : Int) (T : Nat → Int) (C : Nat → Bool) (n : Nat) : List (List D) := (List.range n).map fun i => [dI (lvS lv st T C i), dU (rsS lv st T C i : Nat)]
abbrev csD (C : Nat → Bool) (n : Nat) : D := .seq ((List.range n).map fun i => [dB (C i)])
theorem range_at {α : Type} (f : Nat → α) {n k : Nat} (h : k < n) : ((List.range n).map f)[k]? = some (f k) := by
 rw [List.getElem?_map, List.getElem?_range h]; rfl
theorem map_range_succ {α : Type} (f : Nat → α) (k : Nat) : (List.range (k + 1)).map f = (List.range k).map f ++ [f k] := by
 rw [List.range_succ, List.map_append]; rfl
theorem lvS_zero (lv st : Int) (T : Nat → Int) (C : Nat → Bool) : lvS lv st T C 0 = st := by rw [lvS]
theorem rowsS_succ (lv st : Int) (T : Nat → Int) (C : Nat → Bool) (k : Nat) : rowsS lv st T C (k + 1) = rowsS lv st T C k ++ [[dI (lvS lv st T C k), dU (rsS lv st T C k : Nat)]] := map_range_succ _ k
attribute [local irreducible] lvS
set_option maxHeartbeats 2000000 in
theorem shake_pure {lv st : Int} (hlv : 1 ≤ lv ∧ lv ≤ 8) (hst : 0 ≤ st ∧ st < lv) (T : Nat → Int) (C : Nat → Bool) {n : Nat} (hn : n ≤ 6) (hT : ∀ i, i < n → 0 ≤ T i ∧ T i ≤ lv) :
  Pure Try.prog 11 [dI lv, dI st, isD ((List.range n).map T), csD C n] (.tup [.seq (rowsS lv st T C n), dI 0]) := by
 have c1 := place_pure lv st
 have w0 : IntKind.i64.wrap (lv - 1) = lv - 1 := wrapI (by omega) (by omega)
 have e1 : (inB lv 1 8 && inB st 0 (IntKind.i64.wrap (lv - 1))) = true := by
  rw [w0]; unfold inB
  simp only [Bool.and_eq_true, decide_eq_true_eq]; omega
 rw [e1] at c1
 have c2 := allI lv ((List.range n).map T) (by simp; omega)
 have e2 : ((List.range n).map T).all (fun x => inB x 0 lv) = true := by
  rw [List.all_eq_true]
  intro x hx
  obtain ⟨i, hi, rfl⟩ := List.mem_map.1 hx
  have := hT i (List.mem_range.1 hi)
  unfold inB
  simp only [Bool.and_eq_true, decide_eq_true_eq]; omega
 rw [e2] at c2
 have hl1 : ((((List.range n).map T).map fun x => [dI x]).length : Int) = n := by simp
 have hl2 : (((List.range n).map fun i => [dB (C i)]).length : Int) = n := by simp
 have f1 : decide (((((List.range n).map T).map fun x => [dI x]).length : Int) > 14) = false := decide_eq_false (by rw [hl1]; omega)
 have f2 : ((((List.range n).map fun i => [dB (C i)]).length : Int) != ((((List.range n).map T).map fun x => [dI x]).length : Int)) = false := by rw [hl1, hl2]; simp
 refine pure_of_n pg Try.func11 (by kernel_rfl) ?_
 conv => whnf
 (repeat' (first | (apply kT (by with_reducible first | rfl | assumption); conv => whnf) | (apply kF (by with_reducible first | rfl | assumption); conv => whnf) | (apply kT (by decide); conv => whnf) | (apply kF (by decide); conv => whnf) | (apply kB <;> intro _ <;> conv => whnf) | (refine .inl ⟨_, c1, ?_⟩; conv => whnf) | fail))
 (refine .inr ⟨[0], 2, _, _, c2, ?_⟩; conv => whnf)
 (repeat' (first | (apply kT (by with_reducible first | rfl | assumption); conv => whnf) | (apply kF (by with_reducible first | rfl | assumption); conv => whnf) | (apply kT (by decide); conv => whnf) | (apply kF (by decide); conv => whnf) | (apply kB <;> intro _ <;> conv => whnf) | fail))
 refine ⟨[.own 12 65], [3, 10, 11, 12, 41, 42, 43], [2, 3], 4, fun m s => ∃ k : Nat, k + m = n ∧ s = ⟨[(3, .d (csD C n)), (10, .ref 2 0), (11, .d (dI (lvS lv st T C k))), (12, .own 3), (41, .d (isD ((List.range n).map T))), (42, .d (dI ((((List.range n).map T).map fun x => [dI x]).length : Nat))), (43, .d (dI k))], [(2, .var false 69 [.d (dI lv), .d (dI st), .d (.v (.slice none 0 0))]), (3, .arr 65 (rowsS lv st T C k))], 4⟩, ?_, ?_⟩
 ·conv => whnf
  exact ⟨n, 0, by omega, by rw [lvS_zero]; rfl⟩
 ·rintro m _ ⟨k, hk, rfl⟩
  by_cases hkn : k < n
  ·have g1 : decide ((k : Int) < ((((List.range n).map T).map fun x => [dI x]).length : Int)) = true := decide_eq_true (by rw [hl1]; omega)
   have hL := lvS_ok hst T C k
   have w1k : IntKind.i64.wrap ((k : Int) + 1) = ((k + 1 : Nat) : Int) := by rw [wrapI (by omega) (by omega)]; rfl
   have hg1 : (((List.range n).map T).map fun x => [dI x])[k]? = some [dI (T k)] := by rw [List.getElem?_map, range_at T hkn]; rfl
   have hg2 : ((List.range n).map fun i => [dB (C i)])[k]? = some [dB (C k)] := range_at _ hkn
   have hsu := lvS_succ lv st T C k
   have hrow := rowsS_succ lv st T C k
   have hrb : ((rowsS lv st T C k).length + 1) * 16 ≤ 140737488355328 := by rw [List.length_map, List.length_range]; omega
   have hL1 : lv ≤ 1000 := by omega
   cases hC : C k with
   | true =>
    have er : rsS lv st T C k = 2 := by unfold rsS resS; rw [if_pos hC]
    have c3 := stay_pure lv st (lvS lv st T C k) runs0
    rw [er] at hsu
    rw [er] at hrow
    have en : nextS lv 2 (lvS lv st T C k) = lvS lv st T C k := by unfold nextS; simp
    rw [en] at hsu
    rw [hC] at hg2
    conv => whnf
    (repeat' (first | (apply kT (by with_reducible first | rfl | assumption); conv => whnf) | (apply kF (by with_reducible first | rfl | assumption); conv => whnf) | (apply kT (by decide); conv => whnf) | (apply kF (by decide); conv => whnf) | (apply kB <;> intro _ <;> conv => whnf) | fail))
    (refine ⟨k, _, rfl, hg1, rfl, ?_⟩; conv => whnf)
    (repeat' (first | (apply kT (by with_reducible first | rfl | assumption); conv => whnf) | (apply kF (by with_reducible first | rfl | assumption); conv => whnf) | (apply kT (by decide); conv => whnf) | (apply kF (by decide); conv => whnf) | (apply kB <;> intro _ <;> conv => whnf) | fail))
    (refine ⟨k, _, rfl, hg2, rfl, ?_⟩; conv => whnf)
    (repeat' (first | (apply kT (by with_reducible first | rfl | assumption); conv => whnf) | (apply kF (by with_reducible first | rfl | assumption); conv => whnf) | (apply kT (by decide); conv => whnf) | (apply kF (by decide); conv => whnf) | (apply kB <;> intro _ <;> conv => whnf) | fail))
    (refine .l ?_; conv => whnf)
    (refine ⟨fun el h => by rw [List.mem_singleton.1 h]; rfl, hrb, ?_⟩; conv => whnf)
    (repeat' (first | (apply kT (by with_reducible first | rfl | assumption); conv => whnf) | (apply kF (by with_reducible first | rfl | assumption); conv => whnf) | (apply kT (by decide); conv => whnf) | (apply kF (by decide); conv => whnf) | (apply kB <;> intro _ <;> conv => whnf) | (refine .inl ⟨_, moves_pure, ?_⟩; conv => whnf) | fail))
    (refine ⟨2, _, rfl, rfl, rfl, ?_⟩; conv => whnf)
    (repeat' (first | (apply kT (by with_reducible first | rfl | assumption); conv => whnf) | (apply kF (by with_reducible first | rfl | assumption); conv => whnf) | (apply kT (by decide); conv => whnf) | (apply kF (by decide); conv => whnf) | (apply kB <;> intro _ <;> conv => whnf) | (refine .inl ⟨_, c3, ?_⟩; conv => whnf) | fail))
    refine ⟨m - 1, by omega, k + 1, by omega, ?_⟩
    rw [w1k, hsu, hrow]
    rfl
   | false =>
    rw [hC] at hg2
    by_cases hlt : lvS lv st T C k < T k
    ·have er : rsS lv st T C k = 1 := by unfold rsS resS; rw [if_neg (by rw [hC]; simp), if_pos hlt]
     have g2 : decide (lvS lv st T C k < T k) = true := decide_eq_true hlt
     have c3 := higher_pure lv st (lvS lv st T C k) runs0 (by omega) (by omega)
     rw [er] at hsu
     rw [er] at hrow
     have en : nextS lv 1 (lvS lv st T C k) = min (lv - 1) (lvS lv st T C k + 1) := by unfold nextS; simp
     rw [en] at hsu
     conv => whnf
     (repeat' (first | (apply kT (by with_reducible first | rfl | assumption); conv => whnf) | (apply kF (by with_reducible first | rfl | assumption); conv => whnf) | (apply kT (by decide); conv => whnf) | (apply kF (by decide); conv => whnf) | (apply kB <;> intro _ <;> conv => whnf) | fail))
     (refine ⟨k, _, rfl, hg1, rfl, ?_⟩; conv => whnf)
     (repeat' (first | (apply kT (by with_reducible first | rfl | assumption); conv => whnf) | (apply kF (by with_reducible first | rfl | assumption); conv => whnf) | (apply kT (by decide); conv => whnf) | (apply kF (by decide); conv => whnf) | (apply kB <;> intro _ <;> conv => whnf) | fail))
     (refine ⟨k, _, rfl, hg2, rfl, ?_⟩; conv => whnf)
     (repeat' (first | (apply kT (by with_reducible first | rfl | assumption); conv => whnf) | (apply kF (by with_reducible first | rfl | assumption); conv => whnf) | (apply kT (by decide); conv => whnf) | (apply kF (by decide); conv => whnf) | (apply kB <;> intro _ <;> conv => whnf) | fail))
     (refine .l ?_; conv => whnf)
     (refine ⟨fun el h => by rw [List.mem_singleton.1 h]; rfl, hrb, ?_⟩; conv => whnf)
     (repeat' (first | (apply kT (by with_reducible first | rfl | assumption); conv => whnf) | (apply kF (by with_reducible first | rfl | assumption); conv => whnf) | (apply kT (by decide); conv => whnf) | (apply kF (by decide); conv => whnf) | (apply kB <;> intro _ <;> conv => whnf) | (refine .inl ⟨_, moves_pure, ?_⟩; conv => whnf) | fail))
     (refine ⟨1, _, rfl, rfl, rfl, ?_⟩; conv => whnf)
     (repeat' (first | (apply kT (by with_reducible first | rfl | assumption); conv => whnf) | (apply kF (by with_reducible first | rfl | assumption); conv => whnf) | (apply kT (by decide); conv => whnf) | (apply kF (by decide); conv => whnf) | (apply kB <;> intro _ <;> conv => whnf) | (refine .inl ⟨_, c3, ?_⟩; conv => whnf) | fail))
     refine ⟨m - 1, by omega, k + 1, by omega, ?_⟩
     rw [w1k, hsu, hrow]
     rfl
    ·have er : rsS lv st T C k = 0 := by unfold rsS resS; rw [if_neg (by rw [hC]; simp), if_neg hlt]
     have g2 : decide (lvS lv st T C k < T k) = false := decide_eq_false hlt
     have c3 := lower_pure lv st (lvS lv st T C k) runs0 (by omega)
     rw [er] at hsu
     rw [er] at hrow
     have en : nextS lv 0 (lvS lv st T C k) = max 0 (lvS lv st T C k - 1) := by unfold nextS; simp
     rw [en] at hsu
     conv => whnf
     (repeat' (first | (apply kT (by with_reducible first | rfl | assumption); conv => whnf) | (apply kF (by with_reducible first | rfl | assumption); conv => whnf) | (apply kT (by decide); conv => whnf) | (apply kF (by decide); conv => whnf) | (apply kB <;> intro _ <;> conv => whnf) | fail))
     (refine ⟨k, _, rfl, hg1, rfl, ?_⟩; conv => whnf)
     (repeat' (first | (apply kT (by with_reducible first | rfl | assumption); conv => whnf) | (apply kF (by with_reducible first | rfl | assumption); conv => whnf) | (apply kT (by decide); conv => whnf) | (apply kF (by decide); conv => whnf) | (apply kB <;> intro _ <;> conv => whnf) | fail))
     (refine ⟨k, _, rfl, hg2, rfl, ?_⟩; conv => whnf)
     (repeat' (first | (apply kT (by with_reducible first | rfl | assumption); conv => whnf) | (apply kF (by with_reducible first | rfl | assumption); conv => whnf) | (apply kT (by decide); conv => whnf) | (apply kF (by decide); conv => whnf) | (apply kB <;> intro _ <;> conv => whnf) | fail))
     (refine .l ?_; conv => whnf)
     (refine ⟨fun el h => by rw [List.mem_singleton.1 h]; rfl, hrb, ?_⟩; conv => whnf)
     (repeat' (first | (apply kT (by with_reducible first | rfl | assumption); conv => whnf) | (apply kF (by with_reducible first | rfl | assumption); conv => whnf) | (apply kT (by decide); conv => whnf) | (apply kF (by decide); conv => whnf) | (apply kB <;> intro _ <;> conv => whnf) | (refine .inl ⟨_, moves_pure, ?_⟩; conv => whnf) | fail))
     (refine ⟨0, _, rfl, rfl, rfl, ?_⟩; conv => whnf)
     (repeat' (first | (apply kT (by with_reducible first | rfl | assumption); conv => whnf) | (apply kF (by with_reducible first | rfl | assumption); conv => whnf) | (apply kT (by decide); conv => whnf) | (apply kF (by decide); conv => whnf) | (apply kB <;> intro _ <;> conv => whnf) | (refine .inl ⟨_, c3, ?_⟩; conv => whnf) | fail))
     refine ⟨m - 1, by omega, k + 1, by omega, ?_⟩
     rw [w1k, hsu, hrow]
     rfl
  ·have g1 : decide ((k : Int) < ((((List.range n).map T).map fun x => [dI x]).length : Int)) = false := decide_eq_false (by rw [hl1]; omega)
   have ek : k = n := by omega
   subst ek
   conv => whnf
   (repeat' (first | (apply kT (by with_reducible first | rfl | assumption); conv => whnf) | (apply kF (by with_reducible first | rfl | assumption); conv => whnf) | (apply kT (by decide); conv => whnf) | (apply kF (by decide); conv => whnf) | (apply kB <;> intro _ <;> conv => whnf) | fail))
   rfl
end Go.Ev.Ytijidghjiaiccaa


set_option linter.unusedVariables false
set_option linter.unusedSimpArgs false
set_option maxRecDepth 100000
namespace Go.Ev.Ytijidghjiaiccaa
open Go.Proofs
attribute [local irreducible] Pure Bor Iter inB lvS rsS
abbrev rwS (lv st : Int) (T : Nat → Int) (C : Nat → Bool) (i : Nat) : List D := [dI (lvS lv st T C i), dU (rsS lv st T C i : Nat)]
abbrev rwA (lv st : Int) (T : Nat → Int) (C : Nat → Bool) (i : Nat) : D := .agg (rwS lv st T C i)
abbrev fOS (f : Nat) (z : List D) : Ob := .var false 149 [.d (.fn (.func f) [.agg z] [])]
theorem all1S (lv st : Int) (T : Nat → Int) (C : Nat → Bool) (z : List D) (f : Nat) (p : Nat → Bool) (x : Nat) (hp : Pure Try.prog f [.agg z, (rwA lv st T C) x] (dB (p x))) : Bor tb Try.prog 97 [.d ((rwA lv st T C) x), .ref 0 0] [fOS f z] 2 (.d (dB (!p x))) [(0, fOS f z)] := by
 refine bor_of pg Try.func97 (by kernel_rfl) ?_
 conv => whnf
 (repeat' (first | (apply kT (by with_reducible first | rfl | assumption); conv => whnf) | (apply kF (by with_reducible first | rfl | assumption); conv => whnf) | (apply kT (by decide); conv => whnf) | (apply kF (by decide); conv => whnf) | (apply kB <;> intro _ <;> conv => whnf) | (refine .inl ⟨_, hp, ?_⟩; conv => whnf) | fail))
 (refine ⟨[], [0], ?_⟩; conv => whnf)
 exact ⟨by cases p x <;> rfl, rfl⟩
theorem idxS (lv st : Int) (T : Nat → Int) (C : Nat → Bool) (z : List D) (f : Nat) (p : Nat → Bool) (l : List Nat) (hl : l.length ≤ 100000) (hp : ∀ x ∈ l, Pure Try.prog f [.agg z, (rwA lv st T C) x] (dB (p x))) : Bor tb Try.prog 100 [.d (.seq (l.map (rwS lv st T C))), .fn (.func 97) [] [.ref 0 0]] [fOS f z] 2 (.d (dI (ixI (fun x => !p x) l))) [(0, fOS f z)] := by
 have hm : ((l.map (rwS lv st T C)).length : Int) = l.length := by rw [List.length_map]
 refine bor_of pg Try.func100 (by kernel_rfl) ?_
 conv => whnf
 (repeat' (first | (apply kT (by with_reducible first | rfl | assumption); conv => whnf) | (apply kF (by with_reducible first | rfl | assumption); conv => whnf) | (apply kT (by decide); conv => whnf) | (apply kF (by decide); conv => whnf) | (apply kB <;> intro _ <;> conv => whnf) | fail))
 refine ⟨[], [0, 1, 7, 8], [0], 1, fun m s => ∃ k : Nat, k + m = l.length ∧ (∀ j (h : j < k) (h2 : j < l.length), (!p l[j]) = false) ∧ s = ⟨[(0, .d (.seq (l.map (rwS lv st T C)))), (1, .fn (.func 97) [] [.ref 0 0]), (7, .d (dI ((l.map (rwS lv st T C)).length : Nat))), (8, .d (dI k))], [(0, fOS f z)], 1⟩, ?_, ?_⟩
 ·conv => whnf
  exact ⟨l.length, 0, by omega, fun j h => by omega, rfl⟩
 ·rintro m _ ⟨k, hk, hno, rfl⟩
  by_cases hkl : k < l.length
  ·have f1 : decide ((k : Int) < ((l.map (rwS lv st T C)).length : Int)) = true := decide_eq_true (by rw [hm]; omega)
   have hg : (l.map (rwS lv st T C))[k]? = some ((rwS lv st T C) l[k]) := by rw [List.getElem?_map, List.getElem?_eq_getElem hkl]; rfl
   have w1k : IntKind.i64.wrap ((k : Int) + 1) = ((k + 1 : Nat) : Int) := by rw [wrapI (by omega) (by omega)]; rfl
   have cs := all1S lv st T C z f p l[k] (hp _ (List.getElem_mem _))
   by_cases he : (!p l[k]) = true
   ·have e := ixI_at (q := fun x => !p x) hkl (fun j hj => hno j hj (by omega)) he
    rw [e]
    rw [he] at cs
    conv => whnf
    (repeat' (first | (apply kT (by with_reducible first | rfl | assumption); conv => whnf) | (apply kF (by with_reducible first | rfl | assumption); conv => whnf) | (apply kT (by decide); conv => whnf) | (apply kF (by decide); conv => whnf) | (apply kB <;> intro _ <;> conv => whnf) | fail))
    (refine ⟨k, _, rfl, hg, rfl, ?_⟩; conv => whnf)
    (refine .inr ⟨[0], 2, _, _, cs, ?_⟩; conv => whnf)
    (repeat' (first | (apply kT (by with_reducible first | rfl | assumption); conv => whnf) | (apply kF (by with_reducible first | rfl | assumption); conv => whnf) | (apply kT (by decide); conv => whnf) | (apply kF (by decide); conv => whnf) | (apply kB <;> intro _ <;> conv => whnf) | fail))
    (refine ⟨[], [0], ?_⟩; conv => whnf)
    exact ⟨rfl, rfl⟩
   ·have he := (Bool.not_eq_true _).mp he
    rw [he] at cs
    conv => whnf
    (repeat' (first | (apply kT (by with_reducible first | rfl | assumption); conv => whnf) | (apply kF (by with_reducible first | rfl | assumption); conv => whnf) | (apply kT (by decide); conv => whnf) | (apply kF (by decide); conv => whnf) | (apply kB <;> intro _ <;> conv => whnf) | fail))
    (refine ⟨k, _, rfl, hg, rfl, ?_⟩; conv => whnf)
    (refine .inr ⟨[0], 2, _, _, cs, ?_⟩; conv => whnf)
    (repeat' (first | (apply kT (by with_reducible first | rfl | assumption); conv => whnf) | (apply kF (by with_reducible first | rfl | assumption); conv => whnf) | (apply kT (by decide); conv => whnf) | (apply kF (by decide); conv => whnf) | (apply kB <;> intro _ <;> conv => whnf) | fail))
    refine ⟨m - 1, by omega, k + 1, by omega, fun j hj hjl => ?_, ?_⟩
    ·by_cases h : j < k
     ·exact hno j h hjl
     ·have : j = k := by omega
      subst this
      exact he
    ·rw [w1k]
  ·have f1 : decide ((k : Int) < ((l.map (rwS lv st T C)).length : Int)) = false := decide_eq_false (by rw [hm]; omega)
   have e := ixI_none (q := fun x => !p x) (l := l) fun j hj => hno j (by omega) hj
   rw [e]
   conv => whnf
   (repeat' (first | (apply kT (by with_reducible first | rfl | assumption); conv => whnf) | (apply kF (by with_reducible first | rfl | assumption); conv => whnf) | (apply kT (by decide); conv => whnf) | (apply kF (by decide); conv => whnf) | (apply kB <;> intro _ <;> conv => whnf) | fail))
   (refine ⟨[], [0], ?_⟩; conv => whnf)
   exact ⟨rfl, rfl⟩
theorem hasS (lv st : Int) (T : Nat → Int) (C : Nat → Bool) (z : List D) (f : Nat) (p : Nat → Bool) (l : List Nat) (hl : l.length ≤ 100000) (hp : ∀ x ∈ l, Pure Try.prog f [.agg z, (rwA lv st T C) x] (dB (p x))) : Bor tb Try.prog 96 [.d (.seq (l.map (rwS lv st T C))), .fn (.func 97) [] [.ref 0 0]] [fOS f z] 2 (.d (dB (!l.all p))) [(0, fOS f z)] := by
 have ci := idxS lv st T C z f p l hl hp
 rw [← ixI_all]
 refine bor_of pg Try.func96 (by kernel_rfl) ?_
 conv => whnf
 (repeat' (first | (apply kT (by with_reducible first | rfl | assumption); conv => whnf) | (apply kF (by with_reducible first | rfl | assumption); conv => whnf) | (apply kT (by decide); conv => whnf) | (apply kF (by decide); conv => whnf) | (apply kB <;> intro _ <;> conv => whnf) | fail))
 (refine .inr ⟨[0], 2, _, _, ci, ?_⟩; conv => whnf)
 (repeat' (first | (apply kT (by with_reducible first | rfl | assumption); conv => whnf) | (apply kF (by with_reducible first | rfl | assumption); conv => whnf) | (apply kT (by decide); conv => whnf) | (apply kF (by decide); conv => whnf) | (apply kB <;> intro _ <;> conv => whnf) | fail))
 (refine ⟨[], [0], ?_⟩; conv => whnf)
 exact ⟨rfl, rfl⟩
theorem allS (lv st : Int) (T : Nat → Int) (C : Nat → Bool) (z : List D) (f : Nat) (p : Nat → Bool) (l : List Nat) (hl : l.length ≤ 100000) (hp : ∀ x ∈ l, Pure Try.prog f [.agg z, (rwA lv st T C) x] (dB (p x))) : Pure Try.prog 84 [.seq (l.map (rwS lv st T C)), .fn (.func f) [.agg z] []] (dB (l.all p)) := by
 have ci := hasS lv st T C z f p l hl hp
 refine pure_of pg Try.func84 (by kernel_rfl) ?_
 conv => whnf
 (repeat' (first | (apply kT (by with_reducible first | rfl | assumption); conv => whnf) | (apply kF (by with_reducible first | rfl | assumption); conv => whnf) | (apply kT (by decide); conv => whnf) | (apply kF (by decide); conv => whnf) | (apply kB <;> intro _ <;> conv => whnf) | fail))
 (refine .inr ⟨[0], 2, _, _, ci, ?_⟩; conv => whnf)
 (repeat' (first | (apply kT (by with_reducible first | rfl | assumption); conv => whnf) | (apply kF (by with_reducible first | rfl | assumption); conv => whnf) | (apply kT (by decide); conv => whnf) | (apply kF (by decide); conv => whnf) | (apply kB <;> intro _ <;> conv => whnf) | fail))
 cases l.all p <;> rfl
abbrev stC (lv st : Int) (T : Nat → Int) (C : Nat → Bool) (n : Nat) : List D := [dI lv, dI st, .seq (rowsS lv st T C n)]
abbrev stD (lv st : Int) (T : Nat → Int) (C : Nat → Bool) (n : Nat) : D := .agg (stC lv st T C n)
theorem rsS_le (lv st : Int) (T : Nat → Int) (C : Nat → Bool) (k : Nat) : rsS lv st T C k ≤ 2 := by
 unfold rsS resS
 split
 ·omega
 ·split <;> omega
theorem run_pure {lv st : Int} (hlv : 1 ≤ lv ∧ lv ≤ 8) (hst : 0 ≤ st ∧ st < lv) (T : Nat → Int) (C : Nat → Bool) (n k : Nat) : Pure Try.prog 85 [stD lv st T C n, rwA lv st T C k] (dB true) := by
 have hL := lvS_ok hst T C k
 have hr := rsS_le lv st T C k
 have w0 : IntKind.i64.wrap (lv - 1) = lv - 1 := wrapI (by omega) (by omega)
 have c := sWithin_pure (lvS lv st T C k) (-1) (IntKind.i64.wrap (lv - 1))
 have e : inB (lvS lv st T C k) (-1) (IntKind.i64.wrap (lv - 1)) = true := by
  rw [w0]; unfold inB
  simp only [Bool.and_eq_true, decide_eq_true_eq]; omega
 rw [e] at c
 have f1 : decide (((rsS lv st T C k : Nat) : Int) ≤ 3) = true := decide_eq_true (by omega)
 refine pure_of pg Try.func85 (by kernel_rfl) ?_
 conv => whnf
 (repeat' (first | (apply kT (by with_reducible first | rfl | assumption); conv => whnf) | (apply kF (by with_reducible first | rfl | assumption); conv => whnf) | (apply kT (by decide); conv => whnf) | (apply kF (by decide); conv => whnf) | (apply kB <;> intro _ <;> conv => whnf) | (refine .inl ⟨_, c, ?_⟩; conv => whnf) | fail))
 rw [f1]
 rfl
theorem checkS_pure {lv st : Int} (hlv : 1 ≤ lv ∧ lv ≤ 8) (hst : 0 ≤ st ∧ st < lv) (T : Nat → Int) (C : Nat → Bool) {n : Nat} (hn : n ≤ 6) : Pure Try.prog 62 [stD lv st T C n] (dI 0) := by
 have c1 := place_pure lv st
 have w0 : IntKind.i64.wrap (lv - 1) = lv - 1 := wrapI (by omega) (by omega)
 have e1 : (inB lv 1 8 && inB st 0 (IntKind.i64.wrap (lv - 1))) = true := by
  rw [w0]; unfold inB
  simp only [Bool.and_eq_true, decide_eq_true_eq]; omega
 rw [e1] at c1
 have c2 := allS lv st T C (stC lv st T C n) 85 (fun _ => true) (List.range n) (by simp; omega) fun x _ => run_pure hlv hst T C n x
 have e2 : (List.range n).all (fun _ => true) = true := List.all_eq_true.2 fun _ _ => rfl
 rw [e2] at c2
 have hl : ((rowsS lv st T C n).length : Int) = n := by simp
 have f1 : decide (((rowsS lv st T C n).length : Int) > 14) = false := decide_eq_false (by rw [hl]; omega)
 refine pure_of pg Try.func62 (by kernel_rfl) ?_
 conv => whnf
 (repeat' (first | (apply kT (by with_reducible first | rfl | assumption); conv => whnf) | (apply kF (by with_reducible first | rfl | assumption); conv => whnf) | (apply kT (by decide); conv => whnf) | (apply kF (by decide); conv => whnf) | (apply kB <;> intro _ <;> conv => whnf) | fail))
 refine ⟨[], [1, 3, 7, 8, 9], [0], 1, fun m s => ∃ k : Nat, k + m = n ∧ s = ⟨[(1, .ref 0 0), (3, .d (dI 0)), (7, .d (.seq (rowsS lv st T C n))), (8, .d (dI ((rowsS lv st T C n).length : Nat))), (9, .d (dI k))], [(0, .var false 69 [.d (dI lv), .d (dI st), .d (.seq (rowsS lv st T C n))])], 1⟩, ?_, ?_⟩
 ·conv => whnf
  exact ⟨n, 0, by omega, rfl⟩
 ·rintro m _ ⟨k, hk, rfl⟩
  by_cases hkn : k < n
  ·have g1 : decide ((k : Int) < ((rowsS lv st T C n).length : Int)) = true := decide_eq_true (by rw [hl]; omega)
   have w1k : IntKind.i64.wrap ((k : Int) + 1) = ((k + 1 : Nat) : Int) := by rw [wrapI (by omega) (by omega)]; rfl
   have hg : (rowsS lv st T C n)[k]? = some (rwS lv st T C k) := range_at _ hkn
   have hr := rsS_le lv st T C k
   have g2 : (((rsS lv st T C k : Nat) : Int) == 3) = false := beq_eq_false_iff_ne.2 (by omega)
   conv => whnf
   (repeat' (first | (apply kT (by with_reducible first | rfl | assumption); conv => whnf) | (apply kF (by with_reducible first | rfl | assumption); conv => whnf) | (apply kT (by decide); conv => whnf) | (apply kF (by decide); conv => whnf) | (apply kB <;> intro _ <;> conv => whnf) | fail))
   (refine ⟨k, _, rfl, hg, rfl, ?_⟩; conv => whnf)
   (repeat' (first | (apply kT (by with_reducible first | rfl | assumption); conv => whnf) | (apply kF (by with_reducible first | rfl | assumption); conv => whnf) | (apply kT (by decide); conv => whnf) | (apply kF (by decide); conv => whnf) | (apply kB <;> intro _ <;> conv => whnf) | fail))
   refine ⟨m - 1, by omega, k + 1, by omega, ?_⟩
   rw [w1k]
  ·have g1 : decide ((k : Int) < ((rowsS lv st T C n).length : Int)) = false := decide_eq_false (by rw [hl]; omega)
   conv => whnf
   (repeat' (first | (apply kT (by with_reducible first | rfl | assumption); conv => whnf) | (apply kF (by with_reducible first | rfl | assumption); conv => whnf) | (apply kT (by decide); conv => whnf) | (apply kF (by decide); conv => whnf) | (apply kB <;> intro _ <;> conv => whnf) | (refine .inl ⟨_, c1, ?_⟩; conv => whnf) | (refine .inl ⟨_, c2, ?_⟩; conv => whnf) | fail))
   rfl
theorem mayS_pure (lv st : Int) (T : Nat → Int) (C : Nat → Bool) {n k : Nat} (hk : k < n) (r : Nat) : Pure Try.prog 63 [stD lv st T C n, .agg [dI k, dI (lvS lv st T C k)], dU (r : Nat)] (dB (((rsS lv st T C k : Nat) : Int) == ((r : Nat) : Int))) := by
 have hg : (rowsS lv st T C n)[k]? = some (rwS lv st T C k) := range_at _ hk
 have hr := rsS_le lv st T C k
 have g2 : (((rsS lv st T C k : Nat) : Int) == 3) = false := beq_eq_false_iff_ne.2 (by omega)
 have g3 : (lvS lv st T C k == lvS lv st T C k) = true := beq_self_eq_true _
 refine pure_of pg Try.func63 (by kernel_rfl) ?_
 conv => whnf
 (repeat' (first | (apply kT (by with_reducible first | rfl | assumption); conv => whnf) | (apply kF (by with_reducible first | rfl | assumption); conv => whnf) | (apply kT (by decide); conv => whnf) | (apply kF (by decide); conv => whnf) | (apply kB <;> intro _ <;> conv => whnf) | (refine ⟨k, _, rfl, hg, rfl, ?_⟩; conv => whnf) | fail))
 all_goals rfl
end Go.Ev.Ytijidghjiaiccaa


set_option linter.unusedVariables false
set_option linter.unusedSimpArgs false
set_option maxRecDepth 100000
namespace Go.Ev.Ytijidghjiaiccaa
open Go.Proofs
attribute [local irreducible] Pure Bor Iter SubC inB lvS rsS
section
variable (lv st : Int) (T : Nat → Int) (C : Nat → Bool) (n : Nat)
abbrev kyS (i : Nat) : D := .agg [dI i, dI (lvS lv st T C i)]
def esS (j : Nat) : List (D × D) := (List.range j).map fun q => (kyS lv st T C (n - 1 - q), dB true)
theorem esS_get {j i : Nat} (hj : j ≤ n) (hi : i < n) : mapGet (esS lv st T C n j) (kyS lv st T C i) = if n ≤ i + j then some (dB true) else none := by
 have key : ∀ l : List Nat, (∀ q ∈ l, q < n) → mapGet (l.map fun q => (kyS lv st T C (n - 1 - q), dB true)) (kyS lv st T C i) = if (n - 1 - i) ∈ l then some (dB true) else none := by
  intro l
  induction l with
  | nil => intro _; rfl
  | cons q l ih =>
   intro hl
   have hq := hl q (by simp)
   have ih := ih fun x hx => hl x (List.mem_cons_of_mem _ hx)
   show (bif keyEq (kyS lv st T C i) (kyS lv st T C (n - 1 - q)) then some (dB true) else mapGet (l.map fun q => (kyS lv st T C (n - 1 - q), dB true)) (kyS lv st T C i)) = _
   have e : keyEq (kyS lv st T C i) (kyS lv st T C (n - 1 - q)) = decide (i = n - 1 - q) := by
    show (((i : Int) == ((n - 1 - q : Nat) : Int)) && ((lvS lv st T C i == lvS lv st T C (n - 1 - q)) && true)) = _
    by_cases h : i = n - 1 - q
    ·rw [← h]; simp
    ·rw [decide_eq_false h]
     have : ((i : Int) == ((n - 1 - q : Nat) : Int)) = false := beq_eq_false_iff_ne.2 (by omega)
     rw [this]; rfl
   rw [e]
   by_cases h : i = n - 1 - q
   ·rw [decide_eq_true h, cond_true, if_pos (by rw [show n - 1 - i = q by omega]; simp)]
   ·rw [decide_eq_false h, cond_false, ih]
    have : (n - 1 - i ∈ q :: l) ↔ (n - 1 - i ∈ l) := by
     rw [List.mem_cons]
     constructor
     ·rintro (h2 | h2)
      ·omega
      ·exact h2
     ·exact .inr
    simp only [this]
 unfold esS
 rw [key _ fun q hq => by have := List.mem_range.1 hq; omega]
 have : (n - 1 - i ∈ List.range j) ↔ (n ≤ i + j) := by rw [List.mem_range]; omega
 simp only [this]
theorem esS_set {j : Nat} (hj : j < n) : mapSet (esS lv st T C n j) (kyS lv st T C (n - 1 - j)) (dB true) = esS lv st T C n (j + 1) := by
 have key : ∀ l : List Nat, (∀ q ∈ l, q < j) → mapSet (l.map fun q => (kyS lv st T C (n - 1 - q), dB true)) (kyS lv st T C (n - 1 - j)) (dB true) = (l ++ [j]).map fun q => (kyS lv st T C (n - 1 - q), dB true) := by
  intro l
  induction l with
  | nil => intro _; rfl
  | cons q l ih =>
   intro hl
   have hq := hl q (by simp)
   have ih := ih fun x hx => hl x (List.mem_cons_of_mem _ hx)
   show (bif keyEq (kyS lv st T C (n - 1 - j)) (kyS lv st T C (n - 1 - q)) then _ else (kyS lv st T C (n - 1 - q), dB true) :: mapSet (l.map fun q => (kyS lv st T C (n - 1 - q), dB true)) (kyS lv st T C (n - 1 - j)) (dB true)) = _
   have e : keyEq (kyS lv st T C (n - 1 - j)) (kyS lv st T C (n - 1 - q)) = false := by
    show ((((n - 1 - j : Nat) : Int) == ((n - 1 - q : Nat) : Int)) && ((lvS lv st T C (n - 1 - j) == lvS lv st T C (n - 1 - q)) && true)) = _
    have : (((n - 1 - j : Nat) : Int) == ((n - 1 - q : Nat) : Int)) = false := beq_eq_false_iff_ne.2 (by omega)
    rw [this]; rfl
   rw [e, cond_false, ih]
   rfl
 unfold esS
 rw [key _ fun q hq => List.mem_range.1 hq, List.range_succ]
attribute [local irreducible] esS
abbrev stO : Ob := .var false 69 [.d (dI lv), .d (dI st), .d (.seq (rowsS lv st T C n))]
abbrev canF (a : Nat) : A := .fn (.func 64) [] [.ref a 0, .ref (a + 1) 0, .ref (a + 3) 0, .ref (a + 4) 0]
abbrev mayO : Ob := .var false 120 [.d (.fn (.func 63) [stD lv st T C n] [])]
abbrev hsO (a j : Nat) : List Ob := [stO lv st T C n, .var false 121 [.own (a + 2)], .map 124 4 (esS lv st T C n j), mayO lv st T C n, .var false 122 [canF a]]
abbrev hsP (a j : Nat) : List (Nat × Ob) := [(a, stO lv st T C n), (a + 1, .var false 121 [.own (a + 2)]), (a + 2, .map 124 4 (esS lv st T C n j)), (a + 3, mayO lv st T C n), (a + 4, .var false 122 [canF a])]
abbrev caA (i : Nat) : List A := [.d (kyS lv st T C i), .ref 0 0, .ref 1 0, .ref 3 0, .ref 4 0]
end
theorem move_pure {lv st : Int} (hlv : 1 ≤ lv ∧ lv ≤ 8) (hst : 0 ≤ st ∧ st < lv) (T : Nat → Int) (C : Nat → Bool) (n i : Nat) :
  Pure Try.prog (54 + rsS lv st T C i) [stD lv st T C n, dI (lvS lv st T C i)] (dI (lvS lv st T C (i + 1))) := by
 have hL := lvS_ok hst T C i
 have hr := rsS_le lv st T C i
 rw [lvS_succ]
 unfold nextS
 rcases (by omega : rsS lv st T C i = 0 ∨ rsS lv st T C i = 1 ∨ rsS lv st T C i = 2) with h | h | h
 ·rw [h]; exact lower_pure lv st _ (runs1 _) (by omega)
 ·rw [h]; exact higher_pure lv st _ (runs1 _) (by omega) (by omega)
 ·rw [h]; exact stay_pure lv st _ (runs1 _)
set_option maxHeartbeats 4000000 in
theorem can_bor {lv st : Int} (hlv : 1 ≤ lv ∧ lv ≤ 8) (hst : 0 ≤ st ∧ st < lv) (T : Nat → Int) (C : Nat → Bool) {n : Nat} (hn : n ≤ 6) : ∀ (d i j : Nat), i + d = n → j ≤ n →
  Bor tb Try.prog 64 (caA lv st T C i) (hsO lv st T C n 0 j) 5 (.d (dB true)) (hsP lv st T C n 0 (max j d))
 | 0, i, j, hi, hj => by
  have hl : ((rowsS lv st T C n).length : Int) = n := by simp
  have f1 : ((i : Int) == ((rowsS lv st T C n).length : Int)) = true := by rw [hl, show i = n by omega]; exact beq_self_eq_true _
  rw [Nat.max_eq_left (Nat.zero_le j)]
  refine bor_of pg Try.func64 (by kernel_rfl) ?_
  conv => whnf
  (repeat' (first | (apply kT (by with_reducible first | rfl | assumption); conv => whnf) | (apply kF (by with_reducible first | rfl | assumption); conv => whnf) | (apply kT (by decide); conv => whnf) | (apply kF (by decide); conv => whnf) | (apply kB <;> intro _ <;> conv => whnf) | fail))
  (refine ⟨[], [0, 1, 2, 3, 4], ?_⟩; conv => whnf)
  exact ⟨rfl, rfl⟩
 | d + 1, i, j, hi, hj => by
  have hl : ((rowsS lv st T C n).length : Int) = n := by simp
  have f1 : ((i : Int) == ((rowsS lv st T C n).length : Int)) = false := by rw [hl]; exact beq_eq_false_iff_ne.2 (by omega)
  have hg := esS_get lv st T C n hj (i := i) (by omega)
  by_cases hk : n ≤ i + j
  ·rw [if_pos hk] at hg
   rw [Nat.max_eq_left (by omega)]
   refine bor_of pg Try.func64 (by kernel_rfl) ?_
   conv => whnf
   (repeat' (first | (apply kT (by with_reducible first | rfl | assumption); conv => whnf) | (apply kF (by with_reducible first | rfl | assumption); conv => whnf) | (apply kT (by decide); conv => whnf) | (apply kF (by decide); conv => whnf) | (apply kB <;> intro _ <;> conv => whnf) | fail))
   (refine ⟨_, hg, ?_⟩; conv => whnf)
   (repeat' (first | (apply kT (by with_reducible first | rfl | assumption); conv => whnf) | (apply kF (by with_reducible first | rfl | assumption); conv => whnf) | (apply kT (by decide); conv => whnf) | (apply kF (by decide); conv => whnf) | (apply kB <;> intro _ <;> conv => whnf) | fail))
   (refine ⟨[], [0, 1, 2, 3, 4], ?_⟩; conv => whnf)
   exact ⟨rfl, rfl⟩
  ·rw [if_neg hk] at hg
   rw [Nat.max_eq_right (by omega)]
   have ih := can_bor hlv hst T C hn d (i + 1) j (by omega) hj
   rw [Nat.max_eq_right (by omega)] at ih
   have hs := esS_set lv st T C n (j := d) (by omega)
   rw [show n - 1 - d = i by omega] at hs
   have cm := move_pure hlv hst T C n i
   have hr := rsS_le lv st T C i
   have c0 := mayS_pure lv st T C (n := n) (k := i) (by omega) 0
   have c1 := mayS_pure lv st T C (n := n) (k := i) (by omega) 1
   have c2 := mayS_pure lv st T C (n := n) (k := i) (by omega) 2
   have w1i : IntKind.i64.wrap ((i : Int) + 1) = ((i + 1 : Nat) : Int) := by rw [wrapI (by omega) (by omega)]; rfl
   have ih : Bor tb Try.prog 64 [.d (.agg [dI (IntKind.i64.wrap ((i : Int) + 1)), dI (lvS lv st T C (i + 1))]), .ref 0 0, .ref 1 0, .ref 3 0, .ref 4 0] (hsO lv st T C n 0 j) 5 (.d (dB true)) (hsP lv st T C n 0 d) := by rw [w1i]; exact ih
   refine bor_of pg Try.func64 (by kernel_rfl) ?_
   conv => whnf
   (repeat' (first | (apply kT (by with_reducible first | rfl | assumption); conv => whnf) | (apply kF (by with_reducible first | rfl | assumption); conv => whnf) | (apply kT (by decide); conv => whnf) | (apply kF (by decide); conv => whnf) | (apply kB <;> intro _ <;> conv => whnf) | fail))
   (refine ⟨_, hg, ?_⟩; conv => whnf)
   (repeat' (first | (apply kT (by with_reducible first | rfl | assumption); conv => whnf) | (apply kF (by with_reducible first | rfl | assumption); conv => whnf) | (apply kT (by decide); conv => whnf) | (apply kF (by decide); conv => whnf) | (apply kB <;> intro _ <;> conv => whnf) | (refine .inl ⟨_, moves_pure, ?_⟩; conv => whnf) | fail))
   refine ⟨[], [1, 2, 3, 4, 5, 7, 25, 26, 27], [0, 1, 2, 3, 4, 5], 6, fun m s => ∃ q : Nat, q + m = 3 ∧ q ≤ rsS lv st T C i ∧ s = ⟨[(1, .ref 0 0), (2, .ref 1 0), (3, .ref 3 0), (4, .ref 4 0), (5, .ref 5 0), (7, .d (dB false)), (25, .d (.seq [fnE 54, fnE 55, fnE 56])), (26, .d (dI 3)), (27, .d (dI q))],
    hsP lv st T C n 0 j ++ [(5, .var false 124 [.d (dI i), .d (dI (lvS lv st T C i))])], 6⟩, ?_, ?_⟩
   ·conv => whnf
    exact ⟨3, 0, rfl, Nat.zero_le _, rfl⟩
   ·rintro m _ ⟨q, hq, hqr, rfl⟩
    rcases (by omega : q = 0 ∨ q = 1 ∨ q = 2 ∨ q = 3) with rfl | rfl | rfl | rfl
    ·by_cases hz : rsS lv st T C i = 0
     ·have e : (((rsS lv st T C i : Nat) : Int) == ((0 : Nat) : Int)) = true := by rw [hz]; exact beq_self_eq_true _
      rw [e] at c0
      rw [hz] at cm
      conv => whnf
      (repeat' (first | (apply kT (by with_reducible first | rfl | assumption); conv => whnf) | (apply kF (by with_reducible first | rfl | assumption); conv => whnf) | (apply kT (by decide); conv => whnf) | (apply kF (by decide); conv => whnf) | (apply kB <;> intro _ <;> conv => whnf) | fail))
      (refine ⟨0, _, rfl, rfl, rfl, ?_⟩; conv => whnf)
      (repeat' (first | (apply kT (by with_reducible first | rfl | assumption); conv => whnf) | (apply kF (by with_reducible first | rfl | assumption); conv => whnf) | (apply kT (by decide); conv => whnf) | (apply kF (by decide); conv => whnf) | (apply kB <;> intro _ <;> conv => whnf) | (refine .inl ⟨_, c0, ?_⟩; conv => whnf) | (refine .inl ⟨_, cm, ?_⟩; conv => whnf) | fail))
      (refine .inr ⟨[0, 1, 2, 3, 4], 5, _, _, ih, ?_⟩; conv => whnf)
      (repeat' (first | (apply kT (by with_reducible first | rfl | assumption); conv => whnf) | (apply kF (by with_reducible first | rfl | assumption); conv => whnf) | (apply kT (by decide); conv => whnf) | (apply kF (by decide); conv => whnf) | (apply kB <;> intro _ <;> conv => whnf) | fail))
      (refine ⟨_, hs, ?_⟩; conv => whnf)
      (repeat' (first | (apply kT (by with_reducible first | rfl | assumption); conv => whnf) | (apply kF (by with_reducible first | rfl | assumption); conv => whnf) | (apply kT (by decide); conv => whnf) | (apply kF (by decide); conv => whnf) | (apply kB <;> intro _ <;> conv => whnf) | fail))
      (refine ⟨[], [0, 1, 2, 3, 4], ?_⟩; conv => whnf)
      exact ⟨rfl, rfl⟩
     ·have e : (((rsS lv st T C i : Nat) : Int) == ((0 : Nat) : Int)) = false := beq_eq_false_iff_ne.2 (by omega)
      rw [e] at c0
      conv => whnf
      (repeat' (first | (apply kT (by with_reducible first | rfl | assumption); conv => whnf) | (apply kF (by with_reducible first | rfl | assumption); conv => whnf) | (apply kT (by decide); conv => whnf) | (apply kF (by decide); conv => whnf) | (apply kB <;> intro _ <;> conv => whnf) | fail))
      (refine ⟨0, _, rfl, rfl, rfl, ?_⟩; conv => whnf)
      (repeat' (first | (apply kT (by with_reducible first | rfl | assumption); conv => whnf) | (apply kF (by with_reducible first | rfl | assumption); conv => whnf) | (apply kT (by decide); conv => whnf) | (apply kF (by decide); conv => whnf) | (apply kB <;> intro _ <;> conv => whnf) | (refine .inl ⟨_, c0, ?_⟩; conv => whnf) | fail))
      exact ⟨m - 1, by omega, 0 + 1, by omega, by omega, rfl⟩
    ·by_cases hz : rsS lv st T C i = 1
     ·have e : (((rsS lv st T C i : Nat) : Int) == ((1 : Nat) : Int)) = true := by rw [hz]; exact beq_self_eq_true _
      rw [e] at c1
      rw [hz] at cm
      conv => whnf
      (repeat' (first | (apply kT (by with_reducible first | rfl | assumption); conv => whnf) | (apply kF (by with_reducible first | rfl | assumption); conv => whnf) | (apply kT (by decide); conv => whnf) | (apply kF (by decide); conv => whnf) | (apply kB <;> intro _ <;> conv => whnf) | fail))
      (refine ⟨1, _, rfl, rfl, rfl, ?_⟩; conv => whnf)
      (repeat' (first | (apply kT (by with_reducible first | rfl | assumption); conv => whnf) | (apply kF (by with_reducible first | rfl | assumption); conv => whnf) | (apply kT (by decide); conv => whnf) | (apply kF (by decide); conv => whnf) | (apply kB <;> intro _ <;> conv => whnf) | (refine .inl ⟨_, c1, ?_⟩; conv => whnf) | (refine .inl ⟨_, cm, ?_⟩; conv => whnf) | fail))
      (refine .inr ⟨[0, 1, 2, 3, 4], 5, _, _, ih, ?_⟩; conv => whnf)
      (repeat' (first | (apply kT (by with_reducible first | rfl | assumption); conv => whnf) | (apply kF (by with_reducible first | rfl | assumption); conv => whnf) | (apply kT (by decide); conv => whnf) | (apply kF (by decide); conv => whnf) | (apply kB <;> intro _ <;> conv => whnf) | fail))
      (refine ⟨_, hs, ?_⟩; conv => whnf)
      (repeat' (first | (apply kT (by with_reducible first | rfl | assumption); conv => whnf) | (apply kF (by with_reducible first | rfl | assumption); conv => whnf) | (apply kT (by decide); conv => whnf) | (apply kF (by decide); conv => whnf) | (apply kB <;> intro _ <;> conv => whnf) | fail))
      (refine ⟨[], [0, 1, 2, 3, 4], ?_⟩; conv => whnf)
      exact ⟨rfl, rfl⟩
     ·have e : (((rsS lv st T C i : Nat) : Int) == ((1 : Nat) : Int)) = false := beq_eq_false_iff_ne.2 (by omega)
      rw [e] at c1
      conv => whnf
      (repeat' (first | (apply kT (by with_reducible first | rfl | assumption); conv => whnf) | (apply kF (by with_reducible first | rfl | assumption); conv => whnf) | (apply kT (by decide); conv => whnf) | (apply kF (by decide); conv => whnf) | (apply kB <;> intro _ <;> conv => whnf) | fail))
      (refine ⟨1, _, rfl, rfl, rfl, ?_⟩; conv => whnf)
      (repeat' (first | (apply kT (by with_reducible first | rfl | assumption); conv => whnf) | (apply kF (by with_reducible first | rfl | assumption); conv => whnf) | (apply kT (by decide); conv => whnf) | (apply kF (by decide); conv => whnf) | (apply kB <;> intro _ <;> conv => whnf) | (refine .inl ⟨_, c1, ?_⟩; conv => whnf) | fail))
      exact ⟨m - 1, by omega, 1 + 1, by omega, by omega, rfl⟩
    ·by_cases hz : rsS lv st T C i = 2
     ·have e : (((rsS lv st T C i : Nat) : Int) == ((2 : Nat) : Int)) = true := by rw [hz]; exact beq_self_eq_true _
      rw [e] at c2
      rw [hz] at cm
      conv => whnf
      (repeat' (first | (apply kT (by with_reducible first | rfl | assumption); conv => whnf) | (apply kF (by with_reducible first | rfl | assumption); conv => whnf) | (apply kT (by decide); conv => whnf) | (apply kF (by decide); conv => whnf) | (apply kB <;> intro _ <;> conv => whnf) | fail))
      (refine ⟨2, _, rfl, rfl, rfl, ?_⟩; conv => whnf)
      (repeat' (first | (apply kT (by with_reducible first | rfl | assumption); conv => whnf) | (apply kF (by with_reducible first | rfl | assumption); conv => whnf) | (apply kT (by decide); conv => whnf) | (apply kF (by decide); conv => whnf) | (apply kB <;> intro _ <;> conv => whnf) | (refine .inl ⟨_, c2, ?_⟩; conv => whnf) | (refine .inl ⟨_, cm, ?_⟩; conv => whnf) | fail))
      (refine .inr ⟨[0, 1, 2, 3, 4], 5, _, _, ih, ?_⟩; conv => whnf)
      (repeat' (first | (apply kT (by with_reducible first | rfl | assumption); conv => whnf) | (apply kF (by with_reducible first | rfl | assumption); conv => whnf) | (apply kT (by decide); conv => whnf) | (apply kF (by decide); conv => whnf) | (apply kB <;> intro _ <;> conv => whnf) | fail))
      (refine ⟨_, hs, ?_⟩; conv => whnf)
      (repeat' (first | (apply kT (by with_reducible first | rfl | assumption); conv => whnf) | (apply kF (by with_reducible first | rfl | assumption); conv => whnf) | (apply kT (by decide); conv => whnf) | (apply kF (by decide); conv => whnf) | (apply kB <;> intro _ <;> conv => whnf) | fail))
      (refine ⟨[], [0, 1, 2, 3, 4], ?_⟩; conv => whnf)
      exact ⟨rfl, rfl⟩
     ·have e : (((rsS lv st T C i : Nat) : Int) == ((2 : Nat) : Int)) = false := beq_eq_false_iff_ne.2 (by omega)
      rw [e] at c2
      conv => whnf
      (repeat' (first | (apply kT (by with_reducible first | rfl | assumption); conv => whnf) | (apply kF (by with_reducible first | rfl | assumption); conv => whnf) | (apply kT (by decide); conv => whnf) | (apply kF (by decide); conv => whnf) | (apply kB <;> intro _ <;> conv => whnf) | fail))
      (refine ⟨2, _, rfl, rfl, rfl, ?_⟩; conv => whnf)
      (repeat' (first | (apply kT (by with_reducible first | rfl | assumption); conv => whnf) | (apply kF (by with_reducible first | rfl | assumption); conv => whnf) | (apply kT (by decide); conv => whnf) | (apply kF (by decide); conv => whnf) | (apply kB <;> intro _ <;> conv => whnf) | (refine .inl ⟨_, c2, ?_⟩; conv => whnf) | fail))
      exact ⟨m - 1, by omega, 2 + 1, by omega, by omega, rfl⟩
    ·exact absurd hqr (by omega)
end Go.Ev.Ytijidghjiaiccaa


set_option linter.unusedVariables false
set_option linter.unusedSimpArgs false
set_option maxRecDepth 100000
namespace Go.Ev.Ytijidghjiaiccaa
open Go.Proofs
attribute [local irreducible] Pure Bor Iter SubC inB lvS rsS esS
section
variable (lv st : Int) (T : Nat → Int) (C : Nat → Bool) (n : Nat)
def hdS (i : Nat) : List D := [dI lv, dI st, .seq (rowsS lv st T C n)] ++ ((List.range 14).map (fun q => dU (if q < i then ((rsS lv st T C q : Nat) : Int) else 0)) ++ (List.range 14).map (fun q => dI (if q < i then lvS lv st T C q else 0)))
abbrev furF : A := .fn (.func 66) [] [.ref 1 0, .ref 6 0, .ref 7 0, .ref 4 0, .ref 5 0, .ref 8 0]
abbrev fuO (j i : Nat) : List Ob := hsO lv st T C n 1 j ++ [.var false 126 [.own 0], .var true 131 ((hdS lv st T C n i).map A.d), .var false 122 [furF]]
abbrev fuP (j i : Nat) : List (Nat × Ob) := hsP lv st T C n 1 j ++ [(6, .var false 126 [.own 0]), (7, .var true 131 ((hdS lv st T C n i).map A.d)), (8, .var false 122 [furF])]
abbrev fuA (i : Nat) : List A := [.d (kyS lv st T C i), .ref 1 0, .ref 6 0, .ref 7 0, .ref 4 0, .ref 5 0, .ref 8 0]
abbrev hsE : List (List D) := [[.agg (hdS lv st T C n n)]]
end
theorem hdS_len (lv st : Int) (T : Nat → Int) (C : Nat → Bool) (n i : Nat) : (hdS lv st T C n i).length = 31 := by unfold hdS; simp
theorem hdS_zero (lv st : Int) (T : Nat → Int) (C : Nat → Bool) (n : Nat) : hdS lv st T C n 0 = [dI lv, dI st, .seq (rowsS lv st T C n)] ++ (List.replicate 14 (dU 0) ++ List.replicate 14 (dI 0)) := by
 unfold hdS
 simp only [Nat.not_lt_zero, if_false]
 rfl
theorem hdS_set (lv st : Int) (T : Nat → Int) (C : Nat → Bool) (n : Nat) {i : Nat} (hi : i < 14) :
  (((hdS lv st T C n i).map A.d).set (3 + i) (.d (dU (rsS lv st T C i : Nat)))).set (17 + i) (.d (dI (lvS lv st T C i))) = (hdS lv st T C n (i + 1)).map A.d := by
 have e : ∀ i, (hdS lv st T C n i).map A.d = (List.range 31).map fun q => if q = 0 then A.d (dI lv) else if q = 1 then .d (dI st) else if q = 2 then .d (.seq (rowsS lv st T C n)) else if q < 17 then .d (dU (if q - 3 < i then ((rsS lv st T C (q - 3) : Nat) : Int) else 0)) else .d (dI (if q - 17 < i then lvS lv st T C (q - 17) else 0)) := by
  intro i
  unfold hdS
  rfl
 rw [e, e]
 apply List.ext_getElem?
 intro q
 by_cases hq : q < 31
 ·rw [List.getElem?_set, List.getElem?_set]
  simp only [List.length_set, List.length_map, List.length_range]
  rw [range_at _ hq, range_at _ hq]
  by_cases h1 : 17 + i = q
  ·subst h1
   rw [if_pos rfl, if_pos hq]
   rw [if_neg (by omega), if_neg (by omega), if_neg (by omega), if_neg (by omega), show 17 + i - 17 = i by omega, if_pos (by omega)]
  ·rw [if_neg h1]
   by_cases h2 : 3 + i = q
   ·subst h2
    rw [if_pos rfl, if_pos hq]
    rw [if_neg (by omega), if_neg (by omega), if_neg (by omega), if_pos (by omega), show 3 + i - 3 = i by omega, if_pos (by omega)]
   ·rw [if_neg h2]
    congr 1
    by_cases q0 : q = 0
    ·rw [if_pos q0, if_pos q0]
    by_cases q1 : q = 1
    ·rw [if_neg q0, if_neg q0, if_pos q1, if_pos q1]
    by_cases q2 : q = 2
    ·rw [if_neg q0, if_neg q0, if_neg q1, if_neg q1, if_pos q2, if_pos q2]
    rw [if_neg q0, if_neg q0, if_neg q1, if_neg q1, if_neg q2, if_neg q2]
    by_cases q3 : q < 17
    ·rw [if_pos q3, if_pos q3]
     have : (q - 3 < i) = (q - 3 < i + 1) := by apply propext; omega
     simp only [this]
    ·rw [if_neg q3, if_neg q3]
     have : (q - 17 < i) = (q - 17 < i + 1) := by apply propext; omega
     simp only [this]
 ·rw [List.getElem?_eq_none (by simp; omega), List.getElem?_eq_none (by simp; omega)]
theorem set_at (ρ : List Nat) (lv st : Int) (T : Nat → Int) (C : Nat → Bool) (n : Nat) {i : Nat} (hi : i < 14) {x : Int} (hx : ((rsS lv st T C i : Nat) : Int) = x) :
  invAL ρ ((((hdS lv st T C n i).map A.d).set (0 + 3 + i * 1) (.d (dU x))).set (0 + 17 + i * 1) (.d (dI (lvS lv st T C i)))) = (hdS lv st T C n (i + 1)).map A.d := by
 rw [← hx, Nat.mul_one, Nat.zero_add, Nat.zero_add, hdS_set _ _ _ _ _ hi, inv_d]
attribute [local irreducible] hdS
set_option maxHeartbeats 4000000 in
theorem further_sub {lv st : Int} (hlv : 1 ≤ lv ∧ lv ≤ 8) (hst : 0 ≤ st ∧ st < lv) (T : Nat → Int) (C : Nat → Bool) {n : Nat} (hn : n ≤ 6) (t : Nat) {b : Bool} (hb : b = decide (0 < t)) : ∀ (d i j : Nat), i + d = n → j ≤ n → (i = 0 ∨ n ≤ i + j) →
  SubC tb Try.prog (Yt (hsE lv st T C n) t) 66 (fuA lv st T C i) (fuO lv st T C n j i) 0 (.d (dB b)) 1 (fuP lv st T C n (max j (d - 1)) n)
 | 0, i, j, hi, hj, _ => by
  have hl : ((rowsS lv st T C n).length : Int) = n := by simp
  have ei : i = n := by omega
  subst ei
  have f1 : ((i : Int) == ((rowsS lv st T C i).length : Int)) = true := by rw [hl]; exact beq_self_eq_true _
  have hle := hdS_len lv st T C i i
  rw [Nat.max_eq_left (Nat.zero_le j)]
  refine sub_of pg Try.func66 (by kernel_rfl) ?_
  conv => whnf
  (repeat' (first | (apply kT (by with_reducible first | rfl | assumption); conv => whnf) | (apply kF (by with_reducible first | rfl | assumption); conv => whnf) | (apply kT (by decide); conv => whnf) | (apply kF (by decide); conv => whnf) | (apply kB <;> intro _ <;> conv => whnf) | fail))
  (refine ⟨hdS lv st T C i i, by rw [List.drop_zero]; exact List.take_of_length_le (by rw [List.length_map, hle]; decide), hle, ?_⟩; conv => whnf)
  (refine ⟨b, ⟨Nat.zero_le t, rfl, hb⟩, ?_⟩; conv => whnf)
  (repeat' (first | (apply kT (by with_reducible first | rfl | assumption); conv => whnf) | (apply kF (by with_reducible first | rfl | assumption); conv => whnf) | (apply kT (by decide); conv => whnf) | (apply kF (by decide); conv => whnf) | (apply kB <;> intro _ <;> conv => whnf) | fail))
  (refine ⟨[0, 1, 2, 3, 4, 5, 6, 7, 8], ?_⟩; conv => whnf)
  (refine ⟨only_d _ _, ?_⟩; conv => whnf)
  exact ⟨rfl, rfl⟩
 | d + 1, i, j, hi, hj, hij => by
  have hl : ((rowsS lv st T C n).length : Int) = n := by simp
  have f1 : ((i : Int) == ((rowsS lv st T C n).length : Int)) = false := by rw [hl]; exact beq_eq_false_iff_ne.2 (by omega)
  have hL := lvS_ok hst T C i
  obtain ⟨j', hj'⟩ : ∃ j', j' = max j d := ⟨_, rfl⟩
  have cc := can_bor hlv hst T C hn d (i + 1) j (by omega) hj
  have ih := further_sub hlv hst T C hn t hb d (i + 1) j' (by omega) (by omega) (by omega)
  rw [Nat.max_eq_left (by omega)] at ih
  rw [← hj'] at cc
  rw [Nat.add_sub_cancel, ← hj']
  have w1i : IntKind.i64.wrap ((i : Int) + 1) = ((i + 1 : Nat) : Int) := by rw [wrapI (by omega) (by omega)]; rfl
  have cc : Bor tb Try.prog 64 [.d (.agg [dI (IntKind.i64.wrap ((i : Int) + 1)), dI (lvS lv st T C (i + 1))]), .ref 0 0, .ref 1 0, .ref 3 0, .ref 4 0] (hsO lv st T C n 0 j) 5 (.d (dB true)) (hsP lv st T C n 0 j') := by rw [w1i]; exact cc
  have ih : SubC tb Try.prog (Yt (hsE lv st T C n) t) 66 [.d (.agg [dI (IntKind.i64.wrap ((i : Int) + 1)), dI (lvS lv st T C (i + 1))]), .ref 1 0, .ref 6 0, .ref 7 0, .ref 4 0, .ref 5 0, .ref 8 0] (fuO lv st T C n j' (i + 1)) 0 (.d (dB b)) 1 (fuP lv st T C n j' n) := by rw [w1i]; exact ih
  have cm := move_pure hlv hst T C n i
  have hr := rsS_le lv st T C i
  have c0 := mayS_pure lv st T C (n := n) (k := i) (by omega) 0
  have c1 := mayS_pure lv st T C (n := n) (k := i) (by omega) 1
  have c2 := mayS_pure lv st T C (n := n) (k := i) (by omega) 2
  have m0 := lower_pure lv st (lvS lv st T C i) (runs1 (rowsS lv st T C n)) (by omega)
  have m1 := higher_pure lv st (lvS lv st T C i) (runs1 (rowsS lv st T C n)) (by omega) (by omega)
  have m2 := stay_pure lv st (lvS lv st T C i) (runs1 (rowsS lv st T C n))
  have hset := hdS_set lv st T C n (i := i) (by omega)
  have hlen := hdS_len lv st T C n i
  refine sub_of pg Try.func66 (by kernel_rfl) ?_
  conv => whnf
  (repeat' (first | (apply kT (by with_reducible first | rfl | assumption); conv => whnf) | (apply kF (by with_reducible first | rfl | assumption); conv => whnf) | (apply kT (by decide); conv => whnf) | (apply kF (by decide); conv => whnf) | (apply kB <;> intro _ <;> conv => whnf) | (refine .inl ⟨_, moves_pure, ?_⟩; conv => whnf) | fail))
  refine ⟨[], [1, 2, 3, 4, 5, 6, 7, 21, 22, 23], [0, 1, 2, 3, 4, 5, 6, 7, 8, 9], 10, fun m s => ∃ q : Nat, q + m = 3 ∧ ((q ≤ rsS lv st T C i ∧ s = ⟨[(1, .ref 1 0), (2, .ref 6 0), (3, .ref 7 0), (4, .ref 4 0), (5, .ref 5 0), (6, .ref 8 0), (7, .ref 9 0), (21, .d (.seq [fnE 54, fnE 55, fnE 56])), (22, .d (dI 3)), (23, .d (dI q))],
    (0, .env 0) :: (fuP lv st T C n j i ++ [(9, .var false 124 [.d (dI i), .d (dI (lvS lv st T C i))])]), 10⟩) ∨ (rsS lv st T C i < q ∧ 0 < t ∧ s = ⟨[(1, .ref 1 0), (2, .ref 6 0), (3, .ref 7 0), (4, .ref 4 0), (5, .ref 5 0), (6, .ref 8 0), (7, .ref 9 0), (21, .d (.seq [fnE 54, fnE 55, fnE 56])), (22, .d (dI 3)), (23, .d (dI q))],
    (0, .env 1) :: (fuP lv st T C n j' n ++ [(9, .var false 124 [.d (dI i), .d (dI (lvS lv st T C i))])]), 10⟩)), ?_, ?_⟩
  ·conv => whnf
   (refine ⟨only_d _ _, ?_⟩; conv => whnf)
   exact ⟨3, 0, rfl, .inl ⟨Nat.zero_le _, rfl⟩⟩
  ·rintro m _ ⟨q, hq, hs⟩
   rcases hs with ⟨hqr, rfl⟩ | ⟨hqr, ht, rfl⟩
   ·rcases (by omega : q = 0 ∨ q = 1 ∨ q = 2 ∨ q = 3) with rfl | rfl | rfl | rfl
    ·by_cases hz : rsS lv st T C i = 0
     ·have e : (((rsS lv st T C i : Nat) : Int) == ((0 : Nat) : Int)) = true := by rw [hz]; exact beq_self_eq_true _
      have hx : ((rsS lv st T C i : Nat) : Int) = IntKind.u8.wrap ((0 : Nat) : Int) := by rw [hz]; decide
      have hsa := set_at [0, 1, 2, 3, 4, 5, 6, 7, 8] lv st T C n (i := i) (by omega) hx
      rw [e] at c0
      rw [hz] at cm
      conv => whnf
      (repeat' (first | (apply kT (by with_reducible first | rfl | assumption); conv => whnf) | (apply kF (by with_reducible first | rfl | assumption); conv => whnf) | (apply kT (by decide); conv => whnf) | (apply kF (by decide); conv => whnf) | (apply kB <;> intro _ <;> conv => whnf) | fail))
      (refine ⟨0, _, rfl, rfl, rfl, ?_⟩; conv => whnf)
      (repeat' (first | (apply kT (by with_reducible first | rfl | assumption); conv => whnf) | (apply kF (by with_reducible first | rfl | assumption); conv => whnf) | (apply kT (by decide); conv => whnf) | (apply kF (by decide); conv => whnf) | (apply kB <;> intro _ <;> conv => whnf) | (refine .inl ⟨_, c0, ?_⟩; conv => whnf) | (refine .inl ⟨_, cm, ?_⟩; conv => whnf) | fail))
      (refine .inr ⟨[1, 2, 3, 4, 5], 5, _, _, cc, ?_⟩; conv => whnf)
      (repeat' (first | (apply kT (by with_reducible first | rfl | assumption); conv => whnf) | (apply kF (by with_reducible first | rfl | assumption); conv => whnf) | (apply kT (by decide); conv => whnf) | (apply kF (by decide); conv => whnf) | (apply kB <;> intro _ <;> conv => whnf) | fail))
      (refine ⟨i, rfl, by omega, ?_⟩; conv => whnf)
      (refine ⟨by rw [List.length_map, hlen]; show 0 + 3 + i * 1 < 31; omega, ?_⟩; conv => whnf)
      (refine ⟨i, rfl, by omega, ?_⟩; conv => whnf)
      (refine ⟨by rw [List.length_set, List.length_map, hlen]; show 0 + 17 + i * 1 < 31; omega, ?_⟩; conv => whnf)
      (repeat' (first | (apply kT (by with_reducible first | rfl | assumption); conv => whnf) | (apply kF (by with_reducible first | rfl | assumption); conv => whnf) | (apply kT (by decide); conv => whnf) | (apply kF (by decide); conv => whnf) | (apply kB <;> intro _ <;> conv => whnf) | fail))
      refine .inp (.inr (.inr ⟨[1, 2, 3, 4, 5, 6, 7, 8], 9, _, 1, _, fuO lv st T C n j' (i + 1), congrArg (fun c => hsO lv st T C n 1 j' ++ [Ob.var false 126 [.own 0], .var true 131 c, .var false 122 [furF]]) hsa, ih, ?_⟩))
      conv => whnf
      cases b with
      | false =>
       (repeat' (first | (apply kT (by with_reducible first | rfl | assumption); conv => whnf) | (apply kF (by with_reducible first | rfl | assumption); conv => whnf) | (apply kT (by decide); conv => whnf) | (apply kF (by decide); conv => whnf) | (apply kB <;> intro _ <;> conv => whnf) | fail))
       (refine ⟨[0, 1, 2, 3, 4, 5, 6, 7, 8], ?_⟩; conv => whnf)
       rw [out_d]
       (refine ⟨only_d _ _, ?_⟩; conv => whnf)
       exact ⟨rfl, rfl⟩
      | true =>
       have ht : 0 < t := of_decide_eq_true hb.symm
       (repeat' (first | (apply kT (by with_reducible first | rfl | assumption); conv => whnf) | (apply kF (by with_reducible first | rfl | assumption); conv => whnf) | (apply kT (by decide); conv => whnf) | (apply kF (by decide); conv => whnf) | (apply kB <;> intro _ <;> conv => whnf) | fail))
       rw [out_d]
       (refine ⟨only_d _ _, ?_⟩; conv => whnf)
       exact ⟨m - 1, by omega, 0 + 1, by omega, .inr ⟨by omega, ht, rfl⟩⟩
     ·have e : (((rsS lv st T C i : Nat) : Int) == ((0 : Nat) : Int)) = false := beq_eq_false_iff_ne.2 (by omega)
      rw [e] at c0
      conv => whnf
      (repeat' (first | (apply kT (by with_reducible first | rfl | assumption); conv => whnf) | (apply kF (by with_reducible first | rfl | assumption); conv => whnf) | (apply kT (by decide); conv => whnf) | (apply kF (by decide); conv => whnf) | (apply kB <;> intro _ <;> conv => whnf) | fail))
      (refine ⟨0, _, rfl, rfl, rfl, ?_⟩; conv => whnf)
      (repeat' (first | (apply kT (by with_reducible first | rfl | assumption); conv => whnf) | (apply kF (by with_reducible first | rfl | assumption); conv => whnf) | (apply kT (by decide); conv => whnf) | (apply kF (by decide); conv => whnf) | (apply kB <;> intro _ <;> conv => whnf) | (refine .inl ⟨_, c0, ?_⟩; conv => whnf) | (refine .inl ⟨_, m0, ?_⟩; conv => whnf) | fail))
      (refine ⟨only_d _ _, ?_⟩; conv => whnf)
      exact ⟨m - 1, by omega, 0 + 1, by omega, .inl ⟨by omega, rfl⟩⟩
    ·by_cases hz : rsS lv st T C i = 1
     ·have e : (((rsS lv st T C i : Nat) : Int) == ((1 : Nat) : Int)) = true := by rw [hz]; exact beq_self_eq_true _
      have hx : ((rsS lv st T C i : Nat) : Int) = IntKind.u8.wrap ((1 : Nat) : Int) := by rw [hz]; decide
      have hsa := set_at [0, 1, 2, 3, 4, 5, 6, 7, 8] lv st T C n (i := i) (by omega) hx
      rw [e] at c1
      rw [hz] at cm
      conv => whnf
      (repeat' (first | (apply kT (by with_reducible first | rfl | assumption); conv => whnf) | (apply kF (by with_reducible first | rfl | assumption); conv => whnf) | (apply kT (by decide); conv => whnf) | (apply kF (by decide); conv => whnf) | (apply kB <;> intro _ <;> conv => whnf) | fail))
      (refine ⟨1, _, rfl, rfl, rfl, ?_⟩; conv => whnf)
      (repeat' (first | (apply kT (by with_reducible first | rfl | assumption); conv => whnf) | (apply kF (by with_reducible first | rfl | assumption); conv => whnf) | (apply kT (by decide); conv => whnf) | (apply kF (by decide); conv => whnf) | (apply kB <;> intro _ <;> conv => whnf) | (refine .inl ⟨_, c1, ?_⟩; conv => whnf) | (refine .inl ⟨_, cm, ?_⟩; conv => whnf) | fail))
      (refine .inr ⟨[1, 2, 3, 4, 5], 5, _, _, cc, ?_⟩; conv => whnf)
      (repeat' (first | (apply kT (by with_reducible first | rfl | assumption); conv => whnf) | (apply kF (by with_reducible first | rfl | assumption); conv => whnf) | (apply kT (by decide); conv => whnf) | (apply kF (by decide); conv => whnf) | (apply kB <;> intro _ <;> conv => whnf) | fail))
      (refine ⟨i, rfl, by omega, ?_⟩; conv => whnf)
      (refine ⟨by rw [List.length_map, hlen]; show 0 + 3 + i * 1 < 31; omega, ?_⟩; conv => whnf)
      (refine ⟨i, rfl, by omega, ?_⟩; conv => whnf)
      (refine ⟨by rw [List.length_set, List.length_map, hlen]; show 0 + 17 + i * 1 < 31; omega, ?_⟩; conv => whnf)
      (repeat' (first | (apply kT (by with_reducible first | rfl | assumption); conv => whnf) | (apply kF (by with_reducible first | rfl | assumption); conv => whnf) | (apply kT (by decide); conv => whnf) | (apply kF (by decide); conv => whnf) | (apply kB <;> intro _ <;> conv => whnf) | fail))
      refine .inp (.inr (.inr ⟨[1, 2, 3, 4, 5, 6, 7, 8], 9, _, 1, _, fuO lv st T C n j' (i + 1), congrArg (fun c => hsO lv st T C n 1 j' ++ [Ob.var false 126 [.own 0], .var true 131 c, .var false 122 [furF]]) hsa, ih, ?_⟩))
      conv => whnf
      cases b with
      | false =>
       (repeat' (first | (apply kT (by with_reducible first | rfl | assumption); conv => whnf) | (apply kF (by with_reducible first | rfl | assumption); conv => whnf) | (apply kT (by decide); conv => whnf) | (apply kF (by decide); conv => whnf) | (apply kB <;> intro _ <;> conv => whnf) | fail))
       (refine ⟨[0, 1, 2, 3, 4, 5, 6, 7, 8], ?_⟩; conv => whnf)
       rw [out_d]
       (refine ⟨only_d _ _, ?_⟩; conv => whnf)
       exact ⟨rfl, rfl⟩
      | true =>
       have ht : 0 < t := of_decide_eq_true hb.symm
       (repeat' (first | (apply kT (by with_reducible first | rfl | assumption); conv => whnf) | (apply kF (by with_reducible first | rfl | assumption); conv => whnf) | (apply kT (by decide); conv => whnf) | (apply kF (by decide); conv => whnf) | (apply kB <;> intro _ <;> conv => whnf) | fail))
       rw [out_d]
       (refine ⟨only_d _ _, ?_⟩; conv => whnf)
       exact ⟨m - 1, by omega, 1 + 1, by omega, .inr ⟨by omega, ht, rfl⟩⟩
     ·have e : (((rsS lv st T C i : Nat) : Int) == ((1 : Nat) : Int)) = false := beq_eq_false_iff_ne.2 (by omega)
      rw [e] at c1
      conv => whnf
      (repeat' (first | (apply kT (by with_reducible first | rfl | assumption); conv => whnf) | (apply kF (by with_reducible first | rfl | assumption); conv => whnf) | (apply kT (by decide); conv => whnf) | (apply kF (by decide); conv => whnf) | (apply kB <;> intro _ <;> conv => whnf) | fail))
      (refine ⟨1, _, rfl, rfl, rfl, ?_⟩; conv => whnf)
      (repeat' (first | (apply kT (by with_reducible first | rfl | assumption); conv => whnf) | (apply kF (by with_reducible first | rfl | assumption); conv => whnf) | (apply kT (by decide); conv => whnf) | (apply kF (by decide); conv => whnf) | (apply kB <;> intro _ <;> conv => whnf) | (refine .inl ⟨_, c1, ?_⟩; conv => whnf) | (refine .inl ⟨_, m1, ?_⟩; conv => whnf) | fail))
      (refine ⟨only_d _ _, ?_⟩; conv => whnf)
      exact ⟨m - 1, by omega, 1 + 1, by omega, .inl ⟨by omega, rfl⟩⟩
    ·by_cases hz : rsS lv st T C i = 2
     ·have e : (((rsS lv st T C i : Nat) : Int) == ((2 : Nat) : Int)) = true := by rw [hz]; exact beq_self_eq_true _
      have hx : ((rsS lv st T C i : Nat) : Int) = IntKind.u8.wrap ((2 : Nat) : Int) := by rw [hz]; decide
      have hsa := set_at [0, 1, 2, 3, 4, 5, 6, 7, 8] lv st T C n (i := i) (by omega) hx
      rw [e] at c2
      rw [hz] at cm
      conv => whnf
      (repeat' (first | (apply kT (by with_reducible first | rfl | assumption); conv => whnf) | (apply kF (by with_reducible first | rfl | assumption); conv => whnf) | (apply kT (by decide); conv => whnf) | (apply kF (by decide); conv => whnf) | (apply kB <;> intro _ <;> conv => whnf) | fail))
      (refine ⟨2, _, rfl, rfl, rfl, ?_⟩; conv => whnf)
      (repeat' (first | (apply kT (by with_reducible first | rfl | assumption); conv => whnf) | (apply kF (by with_reducible first | rfl | assumption); conv => whnf) | (apply kT (by decide); conv => whnf) | (apply kF (by decide); conv => whnf) | (apply kB <;> intro _ <;> conv => whnf) | (refine .inl ⟨_, c2, ?_⟩; conv => whnf) | (refine .inl ⟨_, cm, ?_⟩; conv => whnf) | fail))
      (refine .inr ⟨[1, 2, 3, 4, 5], 5, _, _, cc, ?_⟩; conv => whnf)
      (repeat' (first | (apply kT (by with_reducible first | rfl | assumption); conv => whnf) | (apply kF (by with_reducible first | rfl | assumption); conv => whnf) | (apply kT (by decide); conv => whnf) | (apply kF (by decide); conv => whnf) | (apply kB <;> intro _ <;> conv => whnf) | fail))
      (refine ⟨i, rfl, by omega, ?_⟩; conv => whnf)
      (refine ⟨by rw [List.length_map, hlen]; show 0 + 3 + i * 1 < 31; omega, ?_⟩; conv => whnf)
      (refine ⟨i, rfl, by omega, ?_⟩; conv => whnf)
      (refine ⟨by rw [List.length_set, List.length_map, hlen]; show 0 + 17 + i * 1 < 31; omega, ?_⟩; conv => whnf)
      (repeat' (first | (apply kT (by with_reducible first | rfl | assumption); conv => whnf) | (apply kF (by with_reducible first | rfl | assumption); conv => whnf) | (apply kT (by decide); conv => whnf) | (apply kF (by decide); conv => whnf) | (apply kB <;> intro _ <;> conv => whnf) | fail))
      refine .inp (.inr (.inr ⟨[1, 2, 3, 4, 5, 6, 7, 8], 9, _, 1, _, fuO lv st T C n j' (i + 1), congrArg (fun c => hsO lv st T C n 1 j' ++ [Ob.var false 126 [.own 0], .var true 131 c, .var false 122 [furF]]) hsa, ih, ?_⟩))
      conv => whnf
      cases b with
      | false =>
       (repeat' (first | (apply kT (by with_reducible first | rfl | assumption); conv => whnf) | (apply kF (by with_reducible first | rfl | assumption); conv => whnf) | (apply kT (by decide); conv => whnf) | (apply kF (by decide); conv => whnf) | (apply kB <;> intro _ <;> conv => whnf) | fail))
       (refine ⟨[0, 1, 2, 3, 4, 5, 6, 7, 8], ?_⟩; conv => whnf)
       rw [out_d]
       (refine ⟨only_d _ _, ?_⟩; conv => whnf)
       exact ⟨rfl, rfl⟩
      | true =>
       have ht : 0 < t := of_decide_eq_true hb.symm
       (repeat' (first | (apply kT (by with_reducible first | rfl | assumption); conv => whnf) | (apply kF (by with_reducible first | rfl | assumption); conv => whnf) | (apply kT (by decide); conv => whnf) | (apply kF (by decide); conv => whnf) | (apply kB <;> intro _ <;> conv => whnf) | fail))
       rw [out_d]
       (refine ⟨only_d _ _, ?_⟩; conv => whnf)
       exact ⟨m - 1, by omega, 2 + 1, by omega, .inr ⟨by omega, ht, rfl⟩⟩
     ·have e : (((rsS lv st T C i : Nat) : Int) == ((2 : Nat) : Int)) = false := beq_eq_false_iff_ne.2 (by omega)
      rw [e] at c2
      conv => whnf
      (repeat' (first | (apply kT (by with_reducible first | rfl | assumption); conv => whnf) | (apply kF (by with_reducible first | rfl | assumption); conv => whnf) | (apply kT (by decide); conv => whnf) | (apply kF (by decide); conv => whnf) | (apply kB <;> intro _ <;> conv => whnf) | fail))
      (refine ⟨2, _, rfl, rfl, rfl, ?_⟩; conv => whnf)
      (repeat' (first | (apply kT (by with_reducible first | rfl | assumption); conv => whnf) | (apply kF (by with_reducible first | rfl | assumption); conv => whnf) | (apply kT (by decide); conv => whnf) | (apply kF (by decide); conv => whnf) | (apply kB <;> intro _ <;> conv => whnf) | (refine .inl ⟨_, c2, ?_⟩; conv => whnf) | (refine .inl ⟨_, m2, ?_⟩; conv => whnf) | fail))
      (refine ⟨only_d _ _, ?_⟩; conv => whnf)
      exact ⟨m - 1, by omega, 2 + 1, by omega, .inl ⟨by omega, rfl⟩⟩
    ·exact absurd hqr (by omega)
   ·have hb1 : b = true := by rw [hb]; exact decide_eq_true ht
    rcases (by omega : q = 0 ∨ q = 1 ∨ q = 2 ∨ q = 3) with rfl | rfl | rfl | rfl
    ·exact absurd hqr (by omega)
    ·have e : (((rsS lv st T C i : Nat) : Int) == ((1 : Nat) : Int)) = false := beq_eq_false_iff_ne.2 (by omega)
     rw [e] at c1
     conv => whnf
     (repeat' (first | (apply kT (by with_reducible first | rfl | assumption); conv => whnf) | (apply kF (by with_reducible first | rfl | assumption); conv => whnf) | (apply kT (by decide); conv => whnf) | (apply kF (by decide); conv => whnf) | (apply kB <;> intro _ <;> conv => whnf) | fail))
     (refine ⟨1, _, rfl, rfl, rfl, ?_⟩; conv => whnf)
     (repeat' (first | (apply kT (by with_reducible first | rfl | assumption); conv => whnf) | (apply kF (by with_reducible first | rfl | assumption); conv => whnf) | (apply kT (by decide); conv => whnf) | (apply kF (by decide); conv => whnf) | (apply kB <;> intro _ <;> conv => whnf) | (refine .inl ⟨_, c1, ?_⟩; conv => whnf) | (refine .inl ⟨_, m1, ?_⟩; conv => whnf) | fail))
     (refine ⟨only_d _ _, ?_⟩; conv => whnf)
     exact ⟨m - 1, by omega, 1 + 1, by omega, .inr ⟨by omega, ht, rfl⟩⟩
    ·have e : (((rsS lv st T C i : Nat) : Int) == ((2 : Nat) : Int)) = false := beq_eq_false_iff_ne.2 (by omega)
     rw [e] at c2
     conv => whnf
     (repeat' (first | (apply kT (by with_reducible first | rfl | assumption); conv => whnf) | (apply kF (by with_reducible first | rfl | assumption); conv => whnf) | (apply kT (by decide); conv => whnf) | (apply kF (by decide); conv => whnf) | (apply kB <;> intro _ <;> conv => whnf) | fail))
     (refine ⟨2, _, rfl, rfl, rfl, ?_⟩; conv => whnf)
     (repeat' (first | (apply kT (by with_reducible first | rfl | assumption); conv => whnf) | (apply kF (by with_reducible first | rfl | assumption); conv => whnf) | (apply kT (by decide); conv => whnf) | (apply kF (by decide); conv => whnf) | (apply kB <;> intro _ <;> conv => whnf) | (refine .inl ⟨_, c2, ?_⟩; conv => whnf) | (refine .inl ⟨_, m2, ?_⟩; conv => whnf) | fail))
     (refine ⟨only_d _ _, ?_⟩; conv => whnf)
     exact ⟨m - 1, by omega, 2 + 1, by omega, .inr ⟨by omega, ht, rfl⟩⟩
    ·conv => whnf
     (repeat' (first | (apply kT (by with_reducible first | rfl | assumption); conv => whnf) | (apply kF (by with_reducible first | rfl | assumption); conv => whnf) | (apply kT (by decide); conv => whnf) | (apply kF (by decide); conv => whnf) | (apply kB <;> intro _ <;> conv => whnf) | fail))
     (refine ⟨[0, 1, 2, 3, 4, 5, 6, 7, 8], ?_⟩; conv => whnf)
     (refine ⟨only_d _ _, ?_⟩; conv => whnf)
     subst hb1
     exact ⟨rfl, rfl⟩
end Go.Ev.Ytijidghjiaiccaa


set_option linter.unusedVariables false
set_option linter.unusedSimpArgs false
set_option maxRecDepth 100000
namespace Go.Ev.Ytijidghjiaiccaa
open Go.Proofs
attribute [local irreducible] Pure Bor Iter SubC inB lvS rsS esS hdS
theorem hist_iter {lv st : Int} (hlv : 1 ≤ lv ∧ lv ≤ 8) (hst : 0 ≤ st ∧ st < lv) (T : Nat → Int) (C : Nat → Bool) {n : Nat} (hn : n ≤ 6) (t : Nat) :
  Iter tb Try.prog 65 [.own 0, .ref 1 0, .ref 4 0, .ref 5 0] (hsO lv st T C n 1 0) (hsE lv st T C n) t (hsP lv st T C n 1 (n - 1)) := by
 have c := further_sub hlv hst T C hn t rfl n 0 0 (by omega) (Nat.zero_le _) (.inl rfl)
 rw [Nat.max_eq_right (Nat.zero_le _)] at c
 have hz := lvS_zero lv st T C
 have ek : D.agg [dI 0, dI st] = kyS lv st T C 0 := by show _ = D.agg [dI 0, dI (lvS lv st T C 0)]; rw [hz]
 have c : SubC tb Try.prog (Yt (hsE lv st T C n) t) 66 [.d (.agg [dI 0, dI st]), .ref 1 0, .ref 6 0, .ref 7 0, .ref 4 0, .ref 5 0, .ref 8 0] (fuO lv st T C n 0 0) 0 (.d (dB (decide (0 < t)))) 1 (fuP lv st T C n (n - 1) n) := by rw [ek]; exact c
 have hlen := hdS_len lv st T C n 0
 have e1 : min (t + 1) (hsE lv st T C n).length = 1 := by show min (t + 1) 1 = 1; omega
 refine iter_of pg Try.func65 (by kernel_rfl) ?_
 rw [e1]
 conv => whnf
 (repeat' (first | (apply kT (by with_reducible first | rfl | assumption); conv => whnf) | (apply kF (by with_reducible first | rfl | assumption); conv => whnf) | (apply kT (by decide); conv => whnf) | (apply kF (by decide); conv => whnf) | (apply kB <;> intro _ <;> conv => whnf) | fail))
 (refine ⟨(hdS lv st T C n 0).map A.d, by rw [hdS_zero]; rfl, ?_⟩; conv => whnf)
 (repeat' (first | (apply kT (by with_reducible first | rfl | assumption); conv => whnf) | (apply kF (by with_reducible first | rfl | assumption); conv => whnf) | (apply kT (by decide); conv => whnf) | (apply kF (by decide); conv => whnf) | (apply kB <;> intro _ <;> conv => whnf) | fail))
 (refine ⟨(hdS lv st T C n 0).map A.d, rfl, by rw [List.length_map, hlen], by rw [List.length_map, hlen]; decide, by rw [hdS_zero]; rfl, ?_⟩; conv => whnf)
 (repeat' (first | (apply kT (by with_reducible first | rfl | assumption); conv => whnf) | (apply kF (by with_reducible first | rfl | assumption); conv => whnf) | (apply kT (by decide); conv => whnf) | (apply kF (by decide); conv => whnf) | (apply kB <;> intro _ <;> conv => whnf) | fail))
 refine .inp (.inr (.inr ⟨[1, 2, 3, 4, 5, 6, 7, 8], 9, _, 1, _, fuO lv st T C n 0 0, congrArg (fun c => hsO lv st T C n 1 0 ++ [Ob.var false 126 [.own 0], .var true 131 c, .var false 122 [furF]]) (by rw [hdS_zero]; rfl), c, ?_⟩))
 conv => whnf
 (repeat' (first | (apply kT (by with_reducible first | rfl | assumption); conv => whnf) | (apply kF (by with_reducible first | rfl | assumption); conv => whnf) | (apply kT (by decide); conv => whnf) | (apply kF (by decide); conv => whnf) | (apply kB <;> intro _ <;> conv => whnf) | fail))
 (refine ⟨[0, 1, 2, 3, 4, 5], ?_⟩; conv => whnf)
 rfl
abbrev hsN (lv st : Int) (T : Nat → Int) (C : Nat → Bool) (n : Nat) : List (Nat × Ob) := [(0, stO lv st T C n), (1, mayO lv st T C n), (2, .map 124 4 []), (3, .var false 121 [.own 2]), (4, .var false 122 [.fn (.func 64) [] [.ref 0 0, .ref 3 0, .ref 1 0, .ref 4 0]])]
theorem hist_bor (lv st : Int) (T : Nat → Int) (C : Nat → Bool) (n : Nat) : Bor tb Try.prog 37 [.d (stD lv st T C n)] [] 5 (.fn (.func 65) [] [.ref 0 0, .ref 1 0, .ref 4 0]) (hsN lv st T C n) := by
 refine bor_of pg Try.func37 (by kernel_rfl) ?_
 conv => whnf
 (repeat' (first | (apply kT (by with_reducible first | rfl | assumption); conv => whnf) | (apply kF (by with_reducible first | rfl | assumption); conv => whnf) | (apply kT (by decide); conv => whnf) | (apply kF (by decide); conv => whnf) | (apply kB <;> intro _ <;> conv => whnf) | fail))
 (refine ⟨[], [0, 1, 2, 3, 4], ?_⟩; conv => whnf)
 exact ⟨rfl, rfl⟩
theorem esS_zero (lv st : Int) (T : Nat → Int) (C : Nat → Bool) (n : Nat) : esS lv st T C n 0 = [] := by unfold esS; rfl
theorem hist_it {lv st : Int} (hlv : 1 ≤ lv ∧ lv ≤ 8) (hst : 0 ≤ st ∧ st < lv) (T : Nat → Int) (C : Nat → Bool) {n : Nat} (hn : n ≤ 6) (t : Nat) :
  Iter tb Try.prog 65 [.own 0, .ref 1 0, .ref 4 0, .ref 5 0] [stO lv st T C n, .var false 121 [.own 3], .map 124 4 [], mayO lv st T C n, .var false 122 [canF 1]] (hsE lv st T C n) t (hsP lv st T C n 1 (n - 1)) := by
 have h := hist_iter hlv hst T C hn t
 have e : hsO lv st T C n 1 0 = [stO lv st T C n, .var false 121 [.own 3], .map 124 4 [], mayO lv st T C n, .var false 122 [canF 1]] := by
  show [stO lv st T C n, .var false 121 [.own 3], .map 124 4 (esS lv st T C n 0), mayO lv st T C n, .var false 122 [canF 1]] = _
  rw [esS_zero]
 rw [← e]; exact h
theorem possible_pure {lv st : Int} (hlv : 1 ≤ lv ∧ lv ≤ 8) (hst : 0 ≤ st ∧ st < lv) (T : Nat → Int) (C : Nat → Bool) {n : Nat} (hn : n ≤ 6) : Pure Try.prog 36 [stD lv st T C n] (dI 0) := by
 have cc := checkS_pure hlv hst T C hn
 have ch := hist_bor lv st T C n
 have hit := hist_it hlv hst T C hn 0
 refine pure_of pg Try.func36 (by kernel_rfl) ?_
 conv => whnf
 (repeat' (first | (apply kT (by with_reducible first | rfl | assumption); conv => whnf) | (apply kF (by with_reducible first | rfl | assumption); conv => whnf) | (apply kT (by decide); conv => whnf) | (apply kF (by decide); conv => whnf) | (apply kB <;> intro _ <;> conv => whnf) | (refine .inl ⟨_, cc, ?_⟩; conv => whnf) | fail))
 (refine .inr ⟨[], 5, _, _, ch, ?_⟩; conv => whnf)
 refine ⟨[2, 5, 4, 3, 6], [1, 2], [0, 1], hsE lv st T C n, 0, _, fun k ob n1 => k = 0 ∧ n1 = 8 ∧ ob = [(0, stO lv st T C n), (1, .var false 42 [.d (dI 0)])], hit, ?_⟩
 conv => whnf
 refine ⟨⟨rfl, rfl, rfl⟩, ?_, ?_⟩
 ·rintro k ds _ _ hi hile ⟨rfl, rfl, rfl⟩
  have hds : ds = [.agg (hdS lv st T C n n)] := by
   have h : (hsE lv st T C n)[0]? = some ds := hi
   simpa using h.symm
  subst hds
  refine ⟨rfl, ?_⟩
  conv => whnf
  (repeat' (first | (apply kT (by with_reducible first | rfl | assumption); conv => whnf) | (apply kF (by with_reducible first | rfl | assumption); conv => whnf) | (apply kT (by decide); conv => whnf) | (apply kF (by decide); conv => whnf) | (apply kB <;> intro _ <;> conv => whnf) | fail))
  (refine ⟨[0, 1], 8, rfl, ?_⟩; conv => whnf)
  (refine ⟨rfl, ?_⟩; conv => whnf)
  rfl
 ·rintro ob n1 h0 ⟨h1, rfl, rfl⟩
  exact absurd h0 (Nat.not_succ_le_zero 0)
theorem histories_pure {lv st : Int} (hlv : 1 ≤ lv ∧ lv ≤ 8) (hst : 0 ≤ st ∧ st < lv) (T : Nat → Int) (C : Nat → Bool) {n : Nat} (hn : n ≤ 6) : Pure Try.prog 14 [stD lv st T C n] (.tup [dI 1, dI 0]) := by
 have cc := possible_pure hlv hst T C hn
 have ch := hist_bor lv st T C n
 have hit := hist_it hlv hst T C hn 1
 refine pure_of pg Try.func14 (by kernel_rfl) ?_
 conv => whnf
 (repeat' (first | (apply kT (by with_reducible first | rfl | assumption); conv => whnf) | (apply kF (by with_reducible first | rfl | assumption); conv => whnf) | (apply kT (by decide); conv => whnf) | (apply kF (by decide); conv => whnf) | (apply kB <;> intro _ <;> conv => whnf) | (refine .inl ⟨_, cc, ?_⟩; conv => whnf) | fail))
 (refine .inr ⟨[], 5, _, _, ch, ?_⟩; conv => whnf)
 refine ⟨[2, 5, 4, 3, 6], [1, 2], [0, 1], hsE lv st T C n, 1, _, fun k ob n1 => k ≤ 1 ∧ n1 = 8 ∧ ob = [(0, stO lv st T C n), (1, .var false 3 [.d (dI k)])], hit, ?_⟩
 conv => whnf
 refine ⟨⟨Nat.zero_le _, rfl, rfl⟩, ?_, ?_⟩
 ·rintro k ds _ _ hi hile ⟨hk, rfl, rfl⟩
  have hk0 : k = 0 := by
   have := (List.getElem?_eq_some_iff.1 hi).1
   exact Nat.lt_one_iff.1 this
  subst hk0
  have hds : ds = [.agg (hdS lv st T C n n)] := by
   have h : (hsE lv st T C n)[0]? = some ds := hi
   simpa using h.symm
  subst hds
  refine ⟨rfl, ?_⟩
  conv => whnf
  (repeat' (first | (apply kT (by with_reducible first | rfl | assumption); conv => whnf) | (apply kF (by with_reducible first | rfl | assumption); conv => whnf) | (apply kT (by decide); conv => whnf) | (apply kF (by decide); conv => whnf) | (apply kB <;> intro _ <;> conv => whnf) | fail))
  (refine ⟨[0, 1], 8, rfl, ?_⟩; conv => whnf)
  exact ⟨Nat.zero_lt_one, Nat.le_refl _, rfl, rfl⟩
 ·rintro ob n1 h0 ⟨h1, rfl, rfl⟩
  conv => whnf
  (repeat' (first | (apply kT (by with_reducible first | rfl | assumption); conv => whnf) | (apply kF (by with_reducible first | rfl | assumption); conv => whnf) | (apply kT (by decide); conv => whnf) | (apply kF (by decide); conv => whnf) | (apply kB <;> intro _ <;> conv => whnf) | fail))
  rfl
end Go.Ev.Ytijidghjiaiccaa


set_option linter.unusedVariables false
set_option linter.unusedSimpArgs false
set_option maxRecDepth 100000
namespace Go.Ev.Ytijidghjiaiccaa
open Go.Proofs
attribute [local irreducible] Pure Bor Iter inB
abbrev oneR : List D := [dI 1, dI 0, .seq [[dB true]]]
abbrev oneW (n : Nat) : D := .agg [.seq [[nilS]], .seq (List.replicate n oneR)]
def oneQ (n : Nat) : Que := ⟨[[]], List.replicate n ⟨1, 0, [true]⟩⟩
theorem oneQ_D (n : Nat) : quD (oneQ n) = .agg [.seq [[.seq []]], .seq (List.replicate n oneR)] := by
 unfold oneQ
 show D.agg [.seq [[.seq []]], .seq ((List.replicate n (⟨1, 0, [true]⟩ : Rn)).map rnD)] = _
 rw [List.map_replicate]
 rfl
theorem one_wk {f : Nat} {n : Nat} {r : D} {rest : List D} (h : Pure Try.prog f (quD (oneQ n) :: rest) r) : Pure Try.prog f (oneW n :: rest) r := by
 rw [oneQ_D] at h
 exact pure_wk h (.cons (.agg (.cons (.seq (.cons (.cons .nil .nil) .nil)) (.refl _))) (.refl _))
theorem one_pure {n : Nat} (h0 : 0 < n) (hn : n ≤ 6) : Pure Try.prog 12 [dI n] (oneW n) := by
 refine pure_of_v pg Try.func12 (by kernel_rfl) ?_
 conv => whnf
 (repeat' (first | (apply kT (by with_reducible first | rfl | assumption); conv => whnf) | (apply kF (by with_reducible first | rfl | assumption); conv => whnf) | (apply kT (by decide); conv => whnf) | (apply kF (by decide); conv => whnf) | (apply kB <;> intro _ <;> conv => whnf) | fail))
 (refine .l ?_; conv => whnf)
 (repeat' (first | (apply kT (by with_reducible first | rfl | assumption); conv => whnf) | (apply kF (by with_reducible first | rfl | assumption); conv => whnf) | (apply kT (by decide); conv => whnf) | (apply kF (by decide); conv => whnf) | (apply kB <;> intro _ <;> conv => whnf) | fail))
 refine ⟨[.cown 1 1 40], [0, 2, 3, 4], [0, 1, 2], 3, fun m s => ∃ k : Nat, k + m = n ∧ s = ⟨[(0, .d (dI n)), (2, .ref 0 0), (3, .ref 1 0), (4, .d (dI k))], [(0, .var false 37 [.d nilS, .d nilS]), (1, .var false 37 [.d (.seq [[nilS]]), .own 2]), (2, .arr 40 (List.replicate k oneR))], 3⟩, ?_, ?_⟩
 ·conv => whnf
  exact ⟨n, 0, by omega, rfl⟩
 ·rintro m _ ⟨k, hk, rfl⟩
  by_cases hkn : k < n
  ·have g1 : decide ((k : Int) < (n : Int)) = true := decide_eq_true (by omega)
   have w1k : IntKind.i64.wrap ((k : Int) + 1) = ((k + 1 : Nat) : Int) := by rw [wrapI (by omega) (by omega)]; rfl
   conv => whnf
   (repeat' (first | (apply kT (by with_reducible first | rfl | assumption); conv => whnf) | (apply kF (by with_reducible first | rfl | assumption); conv => whnf) | (apply kT (by decide); conv => whnf) | (apply kF (by decide); conv => whnf) | (apply kB <;> intro _ <;> conv => whnf) | fail))
   (refine .l ?_; conv => whnf)
   (refine .l ?_; conv => whnf)
   (refine ⟨fun el h => by rw [List.mem_singleton.1 h]; rfl, by rw [List.length_replicate]; show (k + 1) * 40 ≤ _; omega, ?_⟩; conv => whnf)
   (repeat' (first | (apply kT (by with_reducible first | rfl | assumption); conv => whnf) | (apply kF (by with_reducible first | rfl | assumption); conv => whnf) | (apply kT (by decide); conv => whnf) | (apply kF (by decide); conv => whnf) | (apply kB <;> intro _ <;> conv => whnf) | fail))
   refine ⟨m - 1, by omega, k + 1, by omega, ?_⟩
   rw [w1k, List.replicate_succ']
  ·have g1 : decide ((k : Int) < (n : Int)) = false := decide_eq_false (by omega)
   have ek : k = n := by omega
   subst ek
   conv => whnf
   (repeat' (first | (apply kT (by with_reducible first | rfl | assumption); conv => whnf) | (apply kF (by with_reducible first | rfl | assumption); conv => whnf) | (apply kT (by decide); conv => whnf) | (apply kF (by decide); conv => whnf) | (apply kB <;> intro _ <;> conv => whnf) | fail))
   (refine ⟨[.frz 2], ?_⟩; conv => whnf)
   rfl
abbrev wO (n : Nat) : Ob := .var false 37 [.d (.seq [[nilS]]), .d (.seq (List.replicate n oneR))]
abbrev lsC (x : Nat) : List D := [dI 0, dI x]
abbrev lssD (l : List Nat) : List (List D) := l.map lsC
def losB (x : Nat) : Bool := inB x 0 39
theorem los_bor (n : Nat) (x : Nat) : Bor tb Try.prog 26 [.d (.agg (lsC x)), .ref 0 0] [wO n] 2 (.d (dB (losB x))) [(0, wO n)] := by
 have c1 := within_pure 0 0 0
 have e1 : inB 0 0 0 = true := by unfold inB; decide
 rw [e1] at c1
 have w : IntKind.i64.wrap ((1 : Int) - 1) = 0 := by decide
 have c1 : Pure Try.prog 27 [dI 0, dI 0, dI (IntKind.i64.wrap ((1 : Int) - 1))] (dB true) := by rw [w]; exact c1
 have c2 := hour_pure (x : Int)
 refine bor_of pg Try.func26 (by kernel_rfl) ?_
 conv => whnf
 (repeat' (first | (apply kT (by with_reducible first | rfl | assumption); conv => whnf) | (apply kF (by with_reducible first | rfl | assumption); conv => whnf) | (apply kT (by decide); conv => whnf) | (apply kF (by decide); conv => whnf) | (apply kB <;> intro _ <;> conv => whnf) | (refine .inl ⟨_, c1, ?_⟩; conv => whnf) | (refine .inl ⟨_, c2, ?_⟩; conv => whnf) | fail))
 (refine ⟨[], [0], ?_⟩; conv => whnf)
 exact ⟨rfl, rfl⟩
abbrev fOL : Ob := .var false 93 [.fn (.func 26) [] [.ref 0 0]]
theorem all1L (n : Nat) (x : Nat) : Bor tb Try.prog 59 [.d (.agg (lsC x)), .ref 1 0] [wO n, fOL] 2 (.d (dB (!losB x))) [(0, wO n), (1, fOL)] := by
 have c := los_bor n x
 refine bor_of pg Try.func59 (by kernel_rfl) ?_
 conv => whnf
 (repeat' (first | (apply kT (by with_reducible first | rfl | assumption); conv => whnf) | (apply kF (by with_reducible first | rfl | assumption); conv => whnf) | (apply kT (by decide); conv => whnf) | (apply kF (by decide); conv => whnf) | (apply kB <;> intro _ <;> conv => whnf) | fail))
 (refine .inr ⟨[0], 2, _, _, c, ?_⟩; conv => whnf)
 (repeat' (first | (apply kT (by with_reducible first | rfl | assumption); conv => whnf) | (apply kF (by with_reducible first | rfl | assumption); conv => whnf) | (apply kT (by decide); conv => whnf) | (apply kF (by decide); conv => whnf) | (apply kB <;> intro _ <;> conv => whnf) | fail))
 (refine ⟨[], [0, 1], ?_⟩; conv => whnf)
 exact ⟨by cases losB x <;> rfl, rfl⟩
theorem idxL (n : Nat) (l : List Nat) (hl : l.length ≤ 100000) : Bor tb Try.prog 83 [.d (.seq (lssD l)), .fn (.func 59) [] [.ref 1 0]] [wO n, fOL] 2 (.d (dI (ixI (fun x => !losB x) l))) [(0, wO n), (1, fOL)] := by
 have hm : ((lssD l).length : Int) = l.length := by rw [List.length_map]
 refine bor_of pg Try.func83 (by kernel_rfl) ?_
 conv => whnf
 (repeat' (first | (apply kT (by with_reducible first | rfl | assumption); conv => whnf) | (apply kF (by with_reducible first | rfl | assumption); conv => whnf) | (apply kT (by decide); conv => whnf) | (apply kF (by decide); conv => whnf) | (apply kB <;> intro _ <;> conv => whnf) | fail))
 refine ⟨[], [0, 1, 7, 8], [0, 1], 2, fun m s => ∃ k : Nat, k + m = l.length ∧ (∀ j (h : j < k) (h2 : j < l.length), (!losB l[j]) = false) ∧ s = ⟨[(0, .d (.seq (lssD l))), (1, .fn (.func 59) [] [.ref 1 0]), (7, .d (dI ((lssD l).length : Nat))), (8, .d (dI k))], [(0, wO n), (1, fOL)], 2⟩, ?_, ?_⟩
 ·conv => whnf
  exact ⟨l.length, 0, by omega, fun j h => by omega, rfl⟩
 ·rintro m _ ⟨k, hk, hno, rfl⟩
  by_cases hkl : k < l.length
  ·have f1 : decide ((k : Int) < ((lssD l).length : Int)) = true := decide_eq_true (by rw [hm]; omega)
   have hg : (lssD l)[k]? = some (lsC l[k]) := by rw [List.getElem?_map, List.getElem?_eq_getElem hkl]; rfl
   have w1k : IntKind.i64.wrap ((k : Int) + 1) = ((k + 1 : Nat) : Int) := by rw [wrapI (by omega) (by omega)]; rfl
   have cs := all1L n l[k]
   by_cases he : (!losB l[k]) = true
   ·have e := ixI_at (q := fun x => !losB x) hkl (fun j hj => hno j hj (by omega)) he
    rw [e]
    rw [he] at cs
    conv => whnf
    (repeat' (first | (apply kT (by with_reducible first | rfl | assumption); conv => whnf) | (apply kF (by with_reducible first | rfl | assumption); conv => whnf) | (apply kT (by decide); conv => whnf) | (apply kF (by decide); conv => whnf) | (apply kB <;> intro _ <;> conv => whnf) | fail))
    (refine ⟨k, _, rfl, hg, rfl, ?_⟩; conv => whnf)
    (refine .inr ⟨[0, 1], 2, _, _, cs, ?_⟩; conv => whnf)
    (repeat' (first | (apply kT (by with_reducible first | rfl | assumption); conv => whnf) | (apply kF (by with_reducible first | rfl | assumption); conv => whnf) | (apply kT (by decide); conv => whnf) | (apply kF (by decide); conv => whnf) | (apply kB <;> intro _ <;> conv => whnf) | fail))
    (refine ⟨[], [0, 1], ?_⟩; conv => whnf)
    exact ⟨rfl, rfl⟩
   ·have he := (Bool.not_eq_true _).mp he
    rw [he] at cs
    conv => whnf
    (repeat' (first | (apply kT (by with_reducible first | rfl | assumption); conv => whnf) | (apply kF (by with_reducible first | rfl | assumption); conv => whnf) | (apply kT (by decide); conv => whnf) | (apply kF (by decide); conv => whnf) | (apply kB <;> intro _ <;> conv => whnf) | fail))
    (refine ⟨k, _, rfl, hg, rfl, ?_⟩; conv => whnf)
    (refine .inr ⟨[0, 1], 2, _, _, cs, ?_⟩; conv => whnf)
    (repeat' (first | (apply kT (by with_reducible first | rfl | assumption); conv => whnf) | (apply kF (by with_reducible first | rfl | assumption); conv => whnf) | (apply kT (by decide); conv => whnf) | (apply kF (by decide); conv => whnf) | (apply kB <;> intro _ <;> conv => whnf) | fail))
    refine ⟨m - 1, by omega, k + 1, by omega, fun j hj hjl => ?_, ?_⟩
    ·by_cases h : j < k
     ·exact hno j h hjl
     ·have : j = k := by omega
      subst this
      exact he
    ·rw [w1k]; rfl
  ·have f1 : decide ((k : Int) < ((lssD l).length : Int)) = false := decide_eq_false (by rw [hm]; omega)
   have e := ixI_none (q := fun x => !losB x) (l := l) fun j hj => hno j (by omega) hj
   rw [e]
   conv => whnf
   (repeat' (first | (apply kT (by with_reducible first | rfl | assumption); conv => whnf) | (apply kF (by with_reducible first | rfl | assumption); conv => whnf) | (apply kT (by decide); conv => whnf) | (apply kF (by decide); conv => whnf) | (apply kB <;> intro _ <;> conv => whnf) | fail))
   (refine ⟨[], [0, 1], ?_⟩; conv => whnf)
   exact ⟨rfl, rfl⟩
theorem hasL (n : Nat) (l : List Nat) (hl : l.length ≤ 100000) : Bor tb Try.prog 58 [.d (.seq (lssD l)), .fn (.func 59) [] [.ref 1 0]] [wO n, fOL] 2 (.d (dB (!l.all (losB)))) [(0, wO n), (1, fOL)] := by
 have ci := idxL n l hl
 rw [← ixI_all]
 refine bor_of pg Try.func58 (by kernel_rfl) ?_
 conv => whnf
 (repeat' (first | (apply kT (by with_reducible first | rfl | assumption); conv => whnf) | (apply kF (by with_reducible first | rfl | assumption); conv => whnf) | (apply kT (by decide); conv => whnf) | (apply kF (by decide); conv => whnf) | (apply kB <;> intro _ <;> conv => whnf) | fail))
 (refine .inr ⟨[0, 1], 2, _, _, ci, ?_⟩; conv => whnf)
 (repeat' (first | (apply kT (by with_reducible first | rfl | assumption); conv => whnf) | (apply kF (by with_reducible first | rfl | assumption); conv => whnf) | (apply kT (by decide); conv => whnf) | (apply kF (by decide); conv => whnf) | (apply kB <;> intro _ <;> conv => whnf) | fail))
 (refine ⟨[], [0, 1], ?_⟩; conv => whnf)
 exact ⟨rfl, rfl⟩
theorem allL (n : Nat) (l : List Nat) (hl : l.length ≤ 100000) : Bor tb Try.prog 30 [.d (.seq (lssD l)), .fn (.func 26) [] [.ref 0 0]] [wO n] 2 (.d (dB (l.all (losB)))) [(0, wO n)] := by
 have ci := hasL n l hl
 refine bor_of pg Try.func30 (by kernel_rfl) ?_
 conv => whnf
 (repeat' (first | (apply kT (by with_reducible first | rfl | assumption); conv => whnf) | (apply kF (by with_reducible first | rfl | assumption); conv => whnf) | (apply kT (by decide); conv => whnf) | (apply kF (by decide); conv => whnf) | (apply kB <;> intro _ <;> conv => whnf) | fail))
 (refine .inr ⟨[0, 1], 2, _, _, ci, ?_⟩; conv => whnf)
 (repeat' (first | (apply kT (by with_reducible first | rfl | assumption); conv => whnf) | (apply kF (by with_reducible first | rfl | assumption); conv => whnf) | (apply kT (by decide); conv => whnf) | (apply kF (by decide); conv => whnf) | (apply kB <;> intro _ <;> conv => whnf) | fail))
 (refine ⟨[], [0], ?_⟩; conv => whnf)
 exact ⟨by cases l.all (losB) <;> rfl, rfl⟩
theorem ls_ix (L : List Nat) (h : Nat) (hl : L.length ≤ 100000) : Pure Try.prog 61 [.seq (lssD L), .agg (lsC h)] (dI (ixI (fun x => !(x != h)) L)) := by
 have hm : ((lssD L).length : Int) = L.length := by rw [List.length_map]
 refine pure_of pg Try.func61 (by kernel_rfl) ?_
 conv => whnf
 (repeat' (first | (apply kT (by with_reducible first | rfl | assumption); conv => whnf) | (apply kF (by with_reducible first | rfl | assumption); conv => whnf) | (apply kT (by decide); conv => whnf) | (apply kF (by decide); conv => whnf) | (apply kB <;> intro _ <;> conv => whnf) | fail))
 refine ⟨[], [0, 3, 7, 8], [0], 1, fun m s => ∃ k : Nat, k + m = L.length ∧ (∀ j (hj : j < k) (h2 : j < L.length), (!(L[j] != h)) = false) ∧ s = ⟨[(0, .d (.seq (lssD L))), (3, .ref 0 0), (7, .d (dI ((lssD L).length : Nat))), (8, .d (dI k))], [(0, .var false 57 [.d (dI 0), .d (dI h)])], 1⟩, ?_, ?_⟩
 ·conv => whnf
  exact ⟨L.length, 0, by omega, fun j h => by omega, rfl⟩
 ·rintro m _ ⟨k, hk, hno, rfl⟩
  by_cases hkl : k < L.length
  ·have f1 : decide ((k : Int) < ((lssD L).length : Int)) = true := decide_eq_true (by rw [hm]; omega)
   have hg : (lssD L)[k]? = some (lsC L[k]) := by rw [List.getElem?_map, List.getElem?_eq_getElem hkl]; rfl
   have w1k : IntKind.i64.wrap ((k : Int) + 1) = ((k + 1 : Nat) : Int) := by rw [wrapI (by omega) (by omega)]; rfl
   by_cases he : L[k] = h
   ·have e := ixI_at (q := fun x => !(x != h)) hkl (fun j hj => hno j hj (by omega)) (by simp [he])
    have g : ((0 : Int) == 0 && ((h : Int) == (L[k] : Int) && true)) = true := by rw [he]; simp
    rw [e]
    conv => whnf
    (repeat' (first | (apply kT (by with_reducible first | rfl | assumption); conv => whnf) | (apply kF (by with_reducible first | rfl | assumption); conv => whnf) | (apply kT (by decide); conv => whnf) | (apply kF (by decide); conv => whnf) | (apply kB <;> intro _ <;> conv => whnf) | fail))
    (refine ⟨k, _, rfl, hg, rfl, ?_⟩; conv => whnf)
    (repeat' (first | (apply kT (by with_reducible first | rfl | assumption); conv => whnf) | (apply kF (by with_reducible first | rfl | assumption); conv => whnf) | (apply kT (by decide); conv => whnf) | (apply kF (by decide); conv => whnf) | (apply kB <;> intro _ <;> conv => whnf) | fail))
    rfl
   ·have g : ((0 : Int) == 0 && ((h : Int) == (L[k] : Int) && true)) = false := by
     have : ((h : Int) == (L[k] : Int)) = false := beq_eq_false_iff_ne.2 (by omega)
     rw [this]; rfl
    conv => whnf
    (repeat' (first | (apply kT (by with_reducible first | rfl | assumption); conv => whnf) | (apply kF (by with_reducible first | rfl | assumption); conv => whnf) | (apply kT (by decide); conv => whnf) | (apply kF (by decide); conv => whnf) | (apply kB <;> intro _ <;> conv => whnf) | fail))
    (refine ⟨k, _, rfl, hg, rfl, ?_⟩; conv => whnf)
    (repeat' (first | (apply kT (by with_reducible first | rfl | assumption); conv => whnf) | (apply kF (by with_reducible first | rfl | assumption); conv => whnf) | (apply kT (by decide); conv => whnf) | (apply kF (by decide); conv => whnf) | (apply kB <;> intro _ <;> conv => whnf) | fail))
    refine ⟨m - 1, by omega, k + 1, by omega, fun j hj hjl => ?_, ?_⟩
    ·by_cases h : j < k
     ·exact hno j h hjl
     ·have : j = k := by omega
      subst this
      simp [he]
    ·rw [w1k]
  ·have f1 : decide ((k : Int) < ((lssD L).length : Int)) = false := decide_eq_false (by rw [hm]; omega)
   have e := ixI_none (q := fun x => !(x != h)) (l := L) fun j hj => hno j (by omega) hj
   rw [e]
   conv => whnf
   (repeat' (first | (apply kT (by with_reducible first | rfl | assumption); conv => whnf) | (apply kF (by with_reducible first | rfl | assumption); conv => whnf) | (apply kT (by decide); conv => whnf) | (apply kF (by decide); conv => whnf) | (apply kB <;> intro _ <;> conv => whnf) | fail))
   rfl
theorem ls_has (L : List Nat) (h : Nat) (hl : L.length ≤ 100000) : Pure Try.prog 35 [.seq (lssD L), .agg (lsC h)] (dB (!L.all fun x => x != h)) := by
 have ci := ls_ix L h hl
 rw [← ixI_all]
 refine pure_of pg Try.func35 (by kernel_rfl) ?_
 conv => whnf
 (repeat' (first | (apply kT (by with_reducible first | rfl | assumption); conv => whnf) | (apply kF (by with_reducible first | rfl | assumption); conv => whnf) | (apply kT (by decide); conv => whnf) | (apply kF (by decide); conv => whnf) | (apply kB <;> intro _ <;> conv => whnf) | (refine .inl ⟨_, ci, ?_⟩; conv => whnf) | fail))
 rfl
end Go.Ev.Ytijidghjiaiccaa


set_option linter.unusedVariables false
set_option linter.unusedSimpArgs false
set_option maxRecDepth 100000
namespace Go.Ev.Ytijidghjiaiccaa
open Go.Proofs
attribute [local irreducible] Pure Bor Iter inB
theorem one_may {n i : Nat} (hi : i < n) (hn : n ≤ 6) : Pure Try.prog 57 [oneW n, dI i, dI 0, dI i] (dB true) := by
 have hl : (oneQ n).rs.length = n := by unfold oneQ; simp
 have hr : ∀ h, ((oneQ n).rs[i]'h) = ⟨1, 0, [true]⟩ := fun h => by simp only [oneQ, List.getElem_replicate]
 have hm : (oneQ n).ms = [[]] := rfl
 have c := may_pure (oneQ n) i 0 i (by rw [hl]; exact hi) (by rw [hm]; decide) (by rw [hr, hm]; rfl) (Nat.zero_le _)
 have e : mayQ (oneQ n) i 0 i = true := by
  unfold mayQ
  rw [List.getElem?_eq_getElem (by rw [hl]; exact hi), hr, hm]
  show ((true && decide ((0 : Int) ≤ (i : Int))) && !decide (stI i [] ≥ 0)) = true
  rw [decide_eq_true (by omega)]
  rfl
 rw [e] at c
 exact one_wk c
theorem one_check {n : Nat} (hn : n ≤ 6) : Pure Try.prog 16 [oneW n] (dI 0) := by
 have c := check_pure (oneQ n)
 have e : checkQ (oneQ n) = 0 := by
  have : n = 0 ∨ n = 1 ∨ n = 2 ∨ n = 3 ∨ n = 4 ∨ n = 5 ∨ n = 6 := by omega
  rcases this with rfl | rfl | rfl | rfl | rfl | rfl | rfl <;> (unfold oneQ checkQ runB inB; decide)
 rw [e] at c
 exact one_wk c
abbrev onePl (n : Nat) : List (List D) := (List.range n).map fun (i : Nat) => [isD [(i : Int)]]
def ranE (n k : Nat) : List (List D) := (List.range n).map fun i => [dI (if i < k then 1 else 0)]
theorem ranE_set {n k : Nat} (hk : k < n) : (ranE n k).set k [dI 1] = ranE n (k + 1) := by
 unfold ranE
 apply List.ext_getElem?
 intro q
 rw [List.getElem?_set]
 by_cases hq : q < n
 ·rw [range_at _ hq, range_at _ hq]
  by_cases h1 : k = q
  ·subst h1
   rw [if_pos rfl, if_pos (by simpa using hq), if_pos (by omega)]
  ·rw [if_neg h1]
   have : (q < k) = (q < k + 1) := by apply propext; omega
   simp only [this]
 ·rw [List.getElem?_eq_none (by simp; omega), List.getElem?_eq_none (by simp; omega)]
  split
  ·rw [if_neg (by simp; omega)]
  ·rfl
theorem ranE_zero (n : Nat) : ranE n 0 = List.replicate n [dI 0] := by
 unfold ranE
 apply List.ext_getElem?
 intro q
 by_cases hq : q < n
 ·rw [range_at _ hq, List.getElem?_replicate, if_pos hq]; rfl
 ·rw [List.getElem?_eq_none (by simp; omega), List.getElem?_eq_none (by simp; omega)]
theorem ranE_len (n k : Nat) : (ranE n k).length = n := by unfold ranE; simp
theorem ranE_at {n k i : Nat} (hi : i < n) : (ranE n k)[i]? = some [dI (if i < k then 1 else 0)] := by unfold ranE; exact range_at _ hi
attribute [local irreducible] ranE
set_option maxHeartbeats 4000000 in
theorem right_pure {n : Nat} (h0 : 0 < n) (hn : n ≤ 6) : Pure Try.prog 29 [oneW n, .seq (onePl n)] (dB true) := by
 have hlp : ((onePl n).length : Int) = n := by simp
 have hlr : ((List.replicate n oneR).length : Int) = n := by simp
 have f1 : decide (((onePl n).length : Int) > 40) = false := decide_eq_false (by rw [hlp]; omega)
 refine pure_of pg Try.func29 (by kernel_rfl) ?_
 conv => whnf
 (repeat' (first | (apply kT (by with_reducible first | rfl | assumption); conv => whnf) | (apply kF (by with_reducible first | rfl | assumption); conv => whnf) | (apply kT (by decide); conv => whnf) | (apply kF (by decide); conv => whnf) | (apply kB <;> intro _ <;> conv => whnf) | fail))
 (refine ⟨n, hlr, hlr, by show n * 8 ≤ _; omega, by omega, ranE n 0, by rw [ranE_zero]; rfl, ?_⟩; conv => whnf)
 (repeat' (first | (apply kT (by with_reducible first | rfl | assumption); conv => whnf) | (apply kF (by with_reducible first | rfl | assumption); conv => whnf) | (apply kT (by decide); conv => whnf) | (apply kF (by decide); conv => whnf) | (apply kB <;> intro _ <;> conv => whnf) | fail))
 refine ⟨[], [2, 5, 20, 21, 22], [0, 1], 2, fun m s => ∃ k : Nat, k + m = n ∧ s = ⟨[(2, .ref 0 0), (5, .own 1), (20, .d (.seq (onePl n))), (21, .d (dI ((onePl n).length : Nat))), (22, .d (dI k))], [(0, wO n), (1, .arr 3 (ranE n k))], 2⟩, ?_, ?_⟩
 ·conv => whnf
  exact ⟨n, 0, by omega, rfl⟩
 ·rintro m _ ⟨k, hk, rfl⟩
  by_cases hkn : k < n
  ·have g1 : decide ((k : Int) < ((onePl n).length : Int)) = true := decide_eq_true (by rw [hlp]; omega)
   have hg : (onePl n)[k]? = some [isD [(k : Int)]] := range_at _ hkn
   have w1k : IntKind.i64.wrap ((k : Int) + 1) = ((k + 1 : Nat) : Int) := by rw [wrapI (by omega) (by omega)]; rfl
   have cw := within_pure (k : Int) 0 (IntKind.i64.wrap (((List.replicate n oneR).length : Int) - 1))
   have ew : inB (k : Int) 0 (IntKind.i64.wrap (((List.replicate n oneR).length : Int) - 1)) = true := by
    rw [hlr, wrapI (by omega) (by omega)]
    unfold inB
    simp only [Bool.and_eq_true, decide_eq_true_eq]; omega
   rw [ew] at cw
   have cm := one_may hkn hn
   have hset := ranE_set hkn
   have hrl := ranE_len n k
   have hra := ranE_at (k := k) hkn
   rw [if_neg (Nat.lt_irrefl k)] at hra
   have hidle : ((k : Int) == -1) = false := beq_eq_false_iff_ne.2 (by omega)
   have f2 : ∀ x : Int, ((([x].map fun x => [dI x]).length : Int) != (([[nilS]] : List (List D)).length : Int)) = false := fun _ => rfl
   have f2 := f2 k
   have h6 : k = 0 ∨ k = 1 ∨ k = 2 ∨ k = 3 ∨ k = 4 ∨ k = 5 := by omega
   rcases h6 with rfl | rfl | rfl | rfl | rfl | rfl
   ·conv => whnf
    (repeat' (first | (apply kT (by with_reducible first | rfl | assumption); conv => whnf) | (apply kF (by with_reducible first | rfl | assumption); conv => whnf) | (apply kT (by decide); conv => whnf) | (apply kF (by decide); conv => whnf) | (apply kB <;> intro _ <;> conv => whnf) | fail))
    (refine ⟨0, _, rfl, hg, rfl, ?_⟩; conv => whnf)
    (repeat' (first | (apply kT (by with_reducible first | rfl | assumption); conv => whnf) | (apply kF (by with_reducible first | rfl | assumption); conv => whnf) | (apply kT (by decide); conv => whnf) | (apply kF (by decide); conv => whnf) | (apply kB <;> intro _ <;> conv => whnf) | fail))
    refine ⟨[], [2, 5, 6, 8, 20, 21, 22, 33, 34, 35], [0, 1, 2], 3, fun q s => ∃ j : Nat, j + q = 1 ∧ ((j = 0 ∧ s = ⟨[(2, .ref 0 0), (5, .own 1), (6, .d (dI (0 : Nat))), (8, .ref 2 0), (20, .d (.seq (onePl n))), (21, .d (dI ((onePl n).length : Nat))), (22, .d (dI (0 : Nat))), (33, .d (isD [((0 : Nat) : Int)])), (34, .d (dI 1)), (35, .d (dI 0))], [(0, wO n), (1, .arr 3 (ranE n 0)), (2, .var false 116 [.d (dB false), .d (dB false), .d (dB false), .d (dB false), .d (dB false), .d (dB false)])], 3⟩) ∨
     (j = 1 ∧ s = ⟨[(2, .ref 0 0), (5, .own 1), (6, .d (dI (0 : Nat))), (8, .ref 2 0), (20, .d (.seq (onePl n))), (21, .d (dI ((onePl n).length : Nat))), (22, .d (dI (0 : Nat))), (33, .d (isD [((0 : Nat) : Int)])), (34, .d (dI 1)), (35, .d (dI 1))], [(0, wO n), (1, .arr 3 (ranE n (0 + 1))), (2, .var false 116 [.d (dB true), .d (dB false), .d (dB false), .d (dB false), .d (dB false), .d (dB false)])], 3⟩)), ?_, ?_⟩
    ·conv => whnf
     exact ⟨1, 0, rfl, .inl ⟨rfl, rfl⟩⟩
    ·rintro q _ ⟨j, hj, hs⟩
     rcases hs with ⟨rfl, rfl⟩ | ⟨rfl, rfl⟩
     ·conv => whnf
      (repeat' (first | (apply kT (by with_reducible first | rfl | assumption); conv => whnf) | (apply kF (by with_reducible first | rfl | assumption); conv => whnf) | (apply kT (by decide); conv => whnf) | (apply kF (by decide); conv => whnf) | (apply kB <;> intro _ <;> conv => whnf) | fail))
      (refine ⟨0, _, rfl, rfl, rfl, ?_⟩; conv => whnf)
      (repeat' (first | (apply kT (by with_reducible first | rfl | assumption); conv => whnf) | (apply kF (by with_reducible first | rfl | assumption); conv => whnf) | (apply kT (by decide); conv => whnf) | (apply kF (by decide); conv => whnf) | (apply kB <;> intro _ <;> conv => whnf) | (refine .inl ⟨_, cw, ?_⟩; conv => whnf) | fail))
      (refine ⟨0, rfl, by decide, ?_⟩; conv => whnf)
      (repeat' (first | (apply kT (by with_reducible first | rfl | assumption); conv => whnf) | (apply kF (by with_reducible first | rfl | assumption); conv => whnf) | (apply kT (by decide); conv => whnf) | (apply kF (by decide); conv => whnf) | (apply kB <;> intro _ <;> conv => whnf) | (refine .inl ⟨_, cm, ?_⟩; conv => whnf) | fail))
      (refine ⟨0, rfl, by decide, ?_⟩; conv => whnf)
      (repeat' (first | (apply kT (by with_reducible first | rfl | assumption); conv => whnf) | (apply kF (by with_reducible first | rfl | assumption); conv => whnf) | (apply kT (by decide); conv => whnf) | (apply kF (by decide); conv => whnf) | (apply kB <;> intro _ <;> conv => whnf) | fail))
      (refine ⟨0, rfl, by rw [hrl]; exact hkn, ?_⟩; conv => whnf)
      (refine ⟨_, hra, ?_⟩; conv => whnf)
      (refine ⟨_, rfl, ?_⟩; conv => whnf)
      (repeat' (first | (apply kT (by with_reducible first | rfl | assumption); conv => whnf) | (apply kF (by with_reducible first | rfl | assumption); conv => whnf) | (apply kT (by decide); conv => whnf) | (apply kF (by decide); conv => whnf) | (apply kB <;> intro _ <;> conv => whnf) | fail))
      (refine ⟨0, rfl, by rw [hrl]; exact hkn, ?_⟩; conv => whnf)
      (refine ⟨_, hra, rfl, Nat.le_refl _, ranE n (0 + 1), hset, ?_⟩; conv => whnf)
      (repeat' (first | (apply kT (by with_reducible first | rfl | assumption); conv => whnf) | (apply kF (by with_reducible first | rfl | assumption); conv => whnf) | (apply kT (by decide); conv => whnf) | (apply kF (by decide); conv => whnf) | (apply kB <;> intro _ <;> conv => whnf) | fail))
      exact ⟨q - 1, by omega, 1, by omega, .inr ⟨rfl, rfl⟩⟩
     ·conv => whnf
      (repeat' (first | (apply kT (by with_reducible first | rfl | assumption); conv => whnf) | (apply kF (by with_reducible first | rfl | assumption); conv => whnf) | (apply kT (by decide); conv => whnf) | (apply kF (by decide); conv => whnf) | (apply kB <;> intro _ <;> conv => whnf) | fail))
      refine ⟨m - 1, by omega, 0 + 1, by omega, ?_⟩
      rw [w1k]
   ·conv => whnf
    (repeat' (first | (apply kT (by with_reducible first | rfl | assumption); conv => whnf) | (apply kF (by with_reducible first | rfl | assumption); conv => whnf) | (apply kT (by decide); conv => whnf) | (apply kF (by decide); conv => whnf) | (apply kB <;> intro _ <;> conv => whnf) | fail))
    (refine ⟨1, _, rfl, hg, rfl, ?_⟩; conv => whnf)
    (repeat' (first | (apply kT (by with_reducible first | rfl | assumption); conv => whnf) | (apply kF (by with_reducible first | rfl | assumption); conv => whnf) | (apply kT (by decide); conv => whnf) | (apply kF (by decide); conv => whnf) | (apply kB <;> intro _ <;> conv => whnf) | fail))
    refine ⟨[], [2, 5, 6, 8, 20, 21, 22, 33, 34, 35], [0, 1, 2], 3, fun q s => ∃ j : Nat, j + q = 1 ∧ ((j = 0 ∧ s = ⟨[(2, .ref 0 0), (5, .own 1), (6, .d (dI (1 : Nat))), (8, .ref 2 0), (20, .d (.seq (onePl n))), (21, .d (dI ((onePl n).length : Nat))), (22, .d (dI (1 : Nat))), (33, .d (isD [((1 : Nat) : Int)])), (34, .d (dI 1)), (35, .d (dI 0))], [(0, wO n), (1, .arr 3 (ranE n 1)), (2, .var false 116 [.d (dB false), .d (dB false), .d (dB false), .d (dB false), .d (dB false), .d (dB false)])], 3⟩) ∨
     (j = 1 ∧ s = ⟨[(2, .ref 0 0), (5, .own 1), (6, .d (dI (1 : Nat))), (8, .ref 2 0), (20, .d (.seq (onePl n))), (21, .d (dI ((onePl n).length : Nat))), (22, .d (dI (1 : Nat))), (33, .d (isD [((1 : Nat) : Int)])), (34, .d (dI 1)), (35, .d (dI 1))], [(0, wO n), (1, .arr 3 (ranE n (1 + 1))), (2, .var false 116 [.d (dB false), .d (dB true), .d (dB false), .d (dB false), .d (dB false), .d (dB false)])], 3⟩)), ?_, ?_⟩
    ·conv => whnf
     exact ⟨1, 0, rfl, .inl ⟨rfl, rfl⟩⟩
    ·rintro q _ ⟨j, hj, hs⟩
     rcases hs with ⟨rfl, rfl⟩ | ⟨rfl, rfl⟩
     ·conv => whnf
      (repeat' (first | (apply kT (by with_reducible first | rfl | assumption); conv => whnf) | (apply kF (by with_reducible first | rfl | assumption); conv => whnf) | (apply kT (by decide); conv => whnf) | (apply kF (by decide); conv => whnf) | (apply kB <;> intro _ <;> conv => whnf) | fail))
      (refine ⟨0, _, rfl, rfl, rfl, ?_⟩; conv => whnf)
      (repeat' (first | (apply kT (by with_reducible first | rfl | assumption); conv => whnf) | (apply kF (by with_reducible first | rfl | assumption); conv => whnf) | (apply kT (by decide); conv => whnf) | (apply kF (by decide); conv => whnf) | (apply kB <;> intro _ <;> conv => whnf) | (refine .inl ⟨_, cw, ?_⟩; conv => whnf) | fail))
      (refine ⟨1, rfl, by decide, ?_⟩; conv => whnf)
      (repeat' (first | (apply kT (by with_reducible first | rfl | assumption); conv => whnf) | (apply kF (by with_reducible first | rfl | assumption); conv => whnf) | (apply kT (by decide); conv => whnf) | (apply kF (by decide); conv => whnf) | (apply kB <;> intro _ <;> conv => whnf) | (refine .inl ⟨_, cm, ?_⟩; conv => whnf) | fail))
      (refine ⟨1, rfl, by decide, ?_⟩; conv => whnf)
      (repeat' (first | (apply kT (by with_reducible first | rfl | assumption); conv => whnf) | (apply kF (by with_reducible first | rfl | assumption); conv => whnf) | (apply kT (by decide); conv => whnf) | (apply kF (by decide); conv => whnf) | (apply kB <;> intro _ <;> conv => whnf) | fail))
      (refine ⟨1, rfl, by rw [hrl]; exact hkn, ?_⟩; conv => whnf)
      (refine ⟨_, hra, ?_⟩; conv => whnf)
      (refine ⟨_, rfl, ?_⟩; conv => whnf)
      (repeat' (first | (apply kT (by with_reducible first | rfl | assumption); conv => whnf) | (apply kF (by with_reducible first | rfl | assumption); conv => whnf) | (apply kT (by decide); conv => whnf) | (apply kF (by decide); conv => whnf) | (apply kB <;> intro _ <;> conv => whnf) | fail))
      (refine ⟨1, rfl, by rw [hrl]; exact hkn, ?_⟩; conv => whnf)
      (refine ⟨_, hra, rfl, Nat.le_refl _, ranE n (1 + 1), hset, ?_⟩; conv => whnf)
      (repeat' (first | (apply kT (by with_reducible first | rfl | assumption); conv => whnf) | (apply kF (by with_reducible first | rfl | assumption); conv => whnf) | (apply kT (by decide); conv => whnf) | (apply kF (by decide); conv => whnf) | (apply kB <;> intro _ <;> conv => whnf) | fail))
      exact ⟨q - 1, by omega, 1, by omega, .inr ⟨rfl, rfl⟩⟩
     ·conv => whnf
      (repeat' (first | (apply kT (by with_reducible first | rfl | assumption); conv => whnf) | (apply kF (by with_reducible first | rfl | assumption); conv => whnf) | (apply kT (by decide); conv => whnf) | (apply kF (by decide); conv => whnf) | (apply kB <;> intro _ <;> conv => whnf) | fail))
      refine ⟨m - 1, by omega, 1 + 1, by omega, ?_⟩
      rw [w1k]
   ·conv => whnf
    (repeat' (first | (apply kT (by with_reducible first | rfl | assumption); conv => whnf) | (apply kF (by with_reducible first | rfl | assumption); conv => whnf) | (apply kT (by decide); conv => whnf) | (apply kF (by decide); conv => whnf) | (apply kB <;> intro _ <;> conv => whnf) | fail))
    (refine ⟨2, _, rfl, hg, rfl, ?_⟩; conv => whnf)
    (repeat' (first | (apply kT (by with_reducible first | rfl | assumption); conv => whnf) | (apply kF (by with_reducible first | rfl | assumption); conv => whnf) | (apply kT (by decide); conv => whnf) | (apply kF (by decide); conv => whnf) | (apply kB <;> intro _ <;> conv => whnf) | fail))
    refine ⟨[], [2, 5, 6, 8, 20, 21, 22, 33, 34, 35], [0, 1, 2], 3, fun q s => ∃ j : Nat, j + q = 1 ∧ ((j = 0 ∧ s = ⟨[(2, .ref 0 0), (5, .own 1), (6, .d (dI (2 : Nat))), (8, .ref 2 0), (20, .d (.seq (onePl n))), (21, .d (dI ((onePl n).length : Nat))), (22, .d (dI (2 : Nat))), (33, .d (isD [((2 : Nat) : Int)])), (34, .d (dI 1)), (35, .d (dI 0))], [(0, wO n), (1, .arr 3 (ranE n 2)), (2, .var false 116 [.d (dB false), .d (dB false), .d (dB false), .d (dB false), .d (dB false), .d (dB false)])], 3⟩) ∨
     (j = 1 ∧ s = ⟨[(2, .ref 0 0), (5, .own 1), (6, .d (dI (2 : Nat))), (8, .ref 2 0), (20, .d (.seq (onePl n))), (21, .d (dI ((onePl n).length : Nat))), (22, .d (dI (2 : Nat))), (33, .d (isD [((2 : Nat) : Int)])), (34, .d (dI 1)), (35, .d (dI 1))], [(0, wO n), (1, .arr 3 (ranE n (2 + 1))), (2, .var false 116 [.d (dB false), .d (dB false), .d (dB true), .d (dB false), .d (dB false), .d (dB false)])], 3⟩)), ?_, ?_⟩
    ·conv => whnf
     exact ⟨1, 0, rfl, .inl ⟨rfl, rfl⟩⟩
    ·rintro q _ ⟨j, hj, hs⟩
     rcases hs with ⟨rfl, rfl⟩ | ⟨rfl, rfl⟩
     ·conv => whnf
      (repeat' (first | (apply kT (by with_reducible first | rfl | assumption); conv => whnf) | (apply kF (by with_reducible first | rfl | assumption); conv => whnf) | (apply kT (by decide); conv => whnf) | (apply kF (by decide); conv => whnf) | (apply kB <;> intro _ <;> conv => whnf) | fail))
      (refine ⟨0, _, rfl, rfl, rfl, ?_⟩; conv => whnf)
      (repeat' (first | (apply kT (by with_reducible first | rfl | assumption); conv => whnf) | (apply kF (by with_reducible first | rfl | assumption); conv => whnf) | (apply kT (by decide); conv => whnf) | (apply kF (by decide); conv => whnf) | (apply kB <;> intro _ <;> conv => whnf) | (refine .inl ⟨_, cw, ?_⟩; conv => whnf) | fail))
      (refine ⟨2, rfl, by decide, ?_⟩; conv => whnf)
      (repeat' (first | (apply kT (by with_reducible first | rfl | assumption); conv => whnf) | (apply kF (by with_reducible first | rfl | assumption); conv => whnf) | (apply kT (by decide); conv => whnf) | (apply kF (by decide); conv => whnf) | (apply kB <;> intro _ <;> conv => whnf) | (refine .inl ⟨_, cm, ?_⟩; conv => whnf) | fail))
      (refine ⟨2, rfl, by decide, ?_⟩; conv => whnf)
      (repeat' (first | (apply kT (by with_reducible first | rfl | assumption); conv => whnf) | (apply kF (by with_reducible first | rfl | assumption); conv => whnf) | (apply kT (by decide); conv => whnf) | (apply kF (by decide); conv => whnf) | (apply kB <;> intro _ <;> conv => whnf) | fail))
      (refine ⟨2, rfl, by rw [hrl]; exact hkn, ?_⟩; conv => whnf)
      (refine ⟨_, hra, ?_⟩; conv => whnf)
      (refine ⟨_, rfl, ?_⟩; conv => whnf)
      (repeat' (first | (apply kT (by with_reducible first | rfl | assumption); conv => whnf) | (apply kF (by with_reducible first | rfl | assumption); conv => whnf) | (apply kT (by decide); conv => whnf) | (apply kF (by decide); conv => whnf) | (apply kB <;> intro _ <;> conv => whnf) | fail))
      (refine ⟨2, rfl, by rw [hrl]; exact hkn, ?_⟩; conv => whnf)
      (refine ⟨_, hra, rfl, Nat.le_refl _, ranE n (2 + 1), hset, ?_⟩; conv => whnf)
      (repeat' (first | (apply kT (by with_reducible first | rfl | assumption); conv => whnf) | (apply kF (by with_reducible first | rfl | assumption); conv => whnf) | (apply kT (by decide); conv => whnf) | (apply kF (by decide); conv => whnf) | (apply kB <;> intro _ <;> conv => whnf) | fail))
      exact ⟨q - 1, by omega, 1, by omega, .inr ⟨rfl, rfl⟩⟩
     ·conv => whnf
      (repeat' (first | (apply kT (by with_reducible first | rfl | assumption); conv => whnf) | (apply kF (by with_reducible first | rfl | assumption); conv => whnf) | (apply kT (by decide); conv => whnf) | (apply kF (by decide); conv => whnf) | (apply kB <;> intro _ <;> conv => whnf) | fail))
      refine ⟨m - 1, by omega, 2 + 1, by omega, ?_⟩
      rw [w1k]
   ·conv => whnf
    (repeat' (first | (apply kT (by with_reducible first | rfl | assumption); conv => whnf) | (apply kF (by with_reducible first | rfl | assumption); conv => whnf) | (apply kT (by decide); conv => whnf) | (apply kF (by decide); conv => whnf) | (apply kB <;> intro _ <;> conv => whnf) | fail))
    (refine ⟨3, _, rfl, hg, rfl, ?_⟩; conv => whnf)
    (repeat' (first | (apply kT (by with_reducible first | rfl | assumption); conv => whnf) | (apply kF (by with_reducible first | rfl | assumption); conv => whnf) | (apply kT (by decide); conv => whnf) | (apply kF (by decide); conv => whnf) | (apply kB <;> intro _ <;> conv => whnf) | fail))
    refine ⟨[], [2, 5, 6, 8, 20, 21, 22, 33, 34, 35], [0, 1, 2], 3, fun q s => ∃ j : Nat, j + q = 1 ∧ ((j = 0 ∧ s = ⟨[(2, .ref 0 0), (5, .own 1), (6, .d (dI (3 : Nat))), (8, .ref 2 0), (20, .d (.seq (onePl n))), (21, .d (dI ((onePl n).length : Nat))), (22, .d (dI (3 : Nat))), (33, .d (isD [((3 : Nat) : Int)])), (34, .d (dI 1)), (35, .d (dI 0))], [(0, wO n), (1, .arr 3 (ranE n 3)), (2, .var false 116 [.d (dB false), .d (dB false), .d (dB false), .d (dB false), .d (dB false), .d (dB false)])], 3⟩) ∨
     (j = 1 ∧ s = ⟨[(2, .ref 0 0), (5, .own 1), (6, .d (dI (3 : Nat))), (8, .ref 2 0), (20, .d (.seq (onePl n))), (21, .d (dI ((onePl n).length : Nat))), (22, .d (dI (3 : Nat))), (33, .d (isD [((3 : Nat) : Int)])), (34, .d (dI 1)), (35, .d (dI 1))], [(0, wO n), (1, .arr 3 (ranE n (3 + 1))), (2, .var false 116 [.d (dB false), .d (dB false), .d (dB false), .d (dB true), .d (dB false), .d (dB false)])], 3⟩)), ?_, ?_⟩
    ·conv => whnf
     exact ⟨1, 0, rfl, .inl ⟨rfl, rfl⟩⟩
    ·rintro q _ ⟨j, hj, hs⟩
     rcases hs with ⟨rfl, rfl⟩ | ⟨rfl, rfl⟩
     ·conv => whnf
      (repeat' (first | (apply kT (by with_reducible first | rfl | assumption); conv => whnf) | (apply kF (by with_reducible first | rfl | assumption); conv => whnf) | (apply kT (by decide); conv => whnf) | (apply kF (by decide); conv => whnf) | (apply kB <;> intro _ <;> conv => whnf) | fail))
      (refine ⟨0, _, rfl, rfl, rfl, ?_⟩; conv => whnf)
      (repeat' (first | (apply kT (by with_reducible first | rfl | assumption); conv => whnf) | (apply kF (by with_reducible first | rfl | assumption); conv => whnf) | (apply kT (by decide); conv => whnf) | (apply kF (by decide); conv => whnf) | (apply kB <;> intro _ <;> conv => whnf) | (refine .inl ⟨_, cw, ?_⟩; conv => whnf) | fail))
      (refine ⟨3, rfl, by decide, ?_⟩; conv => whnf)
      (repeat' (first | (apply kT (by with_reducible first | rfl | assumption); conv => whnf) | (apply kF (by with_reducible first | rfl | assumption); conv => whnf) | (apply kT (by decide); conv => whnf) | (apply kF (by decide); conv => whnf) | (apply kB <;> intro _ <;> conv => whnf) | (refine .inl ⟨_, cm, ?_⟩; conv => whnf) | fail))
      (refine ⟨3, rfl, by decide, ?_⟩; conv => whnf)
      (repeat' (first | (apply kT (by with_reducible first | rfl | assumption); conv => whnf) | (apply kF (by with_reducible first | rfl | assumption); conv => whnf) | (apply kT (by decide); conv => whnf) | (apply kF (by decide); conv => whnf) | (apply kB <;> intro _ <;> conv => whnf) | fail))
      (refine ⟨3, rfl, by rw [hrl]; exact hkn, ?_⟩; conv => whnf)
      (refine ⟨_, hra, ?_⟩; conv => whnf)
      (refine ⟨_, rfl, ?_⟩; conv => whnf)
      (repeat' (first | (apply kT (by with_reducible first | rfl | assumption); conv => whnf) | (apply kF (by with_reducible first | rfl | assumption); conv => whnf) | (apply kT (by decide); conv => whnf) | (apply kF (by decide); conv => whnf) | (apply kB <;> intro _ <;> conv => whnf) | fail))
      (refine ⟨3, rfl, by rw [hrl]; exact hkn, ?_⟩; conv => whnf)
      (refine ⟨_, hra, rfl, Nat.le_refl _, ranE n (3 + 1), hset, ?_⟩; conv => whnf)
      (repeat' (first | (apply kT (by with_reducible first | rfl | assumption); conv => whnf) | (apply kF (by with_reducible first | rfl | assumption); conv => whnf) | (apply kT (by decide); conv => whnf) | (apply kF (by decide); conv => whnf) | (apply kB <;> intro _ <;> conv => whnf) | fail))
      exact ⟨q - 1, by omega, 1, by omega, .inr ⟨rfl, rfl⟩⟩
     ·conv => whnf
      (repeat' (first | (apply kT (by with_reducible first | rfl | assumption); conv => whnf) | (apply kF (by with_reducible first | rfl | assumption); conv => whnf) | (apply kT (by decide); conv => whnf) | (apply kF (by decide); conv => whnf) | (apply kB <;> intro _ <;> conv => whnf) | fail))
      refine ⟨m - 1, by omega, 3 + 1, by omega, ?_⟩
      rw [w1k]
   ·conv => whnf
    (repeat' (first | (apply kT (by with_reducible first | rfl | assumption); conv => whnf) | (apply kF (by with_reducible first | rfl | assumption); conv => whnf) | (apply kT (by decide); conv => whnf) | (apply kF (by decide); conv => whnf) | (apply kB <;> intro _ <;> conv => whnf) | fail))
    (refine ⟨4, _, rfl, hg, rfl, ?_⟩; conv => whnf)
    (repeat' (first | (apply kT (by with_reducible first | rfl | assumption); conv => whnf) | (apply kF (by with_reducible first | rfl | assumption); conv => whnf) | (apply kT (by decide); conv => whnf) | (apply kF (by decide); conv => whnf) | (apply kB <;> intro _ <;> conv => whnf) | fail))
    refine ⟨[], [2, 5, 6, 8, 20, 21, 22, 33, 34, 35], [0, 1, 2], 3, fun q s => ∃ j : Nat, j + q = 1 ∧ ((j = 0 ∧ s = ⟨[(2, .ref 0 0), (5, .own 1), (6, .d (dI (4 : Nat))), (8, .ref 2 0), (20, .d (.seq (onePl n))), (21, .d (dI ((onePl n).length : Nat))), (22, .d (dI (4 : Nat))), (33, .d (isD [((4 : Nat) : Int)])), (34, .d (dI 1)), (35, .d (dI 0))], [(0, wO n), (1, .arr 3 (ranE n 4)), (2, .var false 116 [.d (dB false), .d (dB false), .d (dB false), .d (dB false), .d (dB false), .d (dB false)])], 3⟩) ∨
     (j = 1 ∧ s = ⟨[(2, .ref 0 0), (5, .own 1), (6, .d (dI (4 : Nat))), (8, .ref 2 0), (20, .d (.seq (onePl n))), (21, .d (dI ((onePl n).length : Nat))), (22, .d (dI (4 : Nat))), (33, .d (isD [((4 : Nat) : Int)])), (34, .d (dI 1)), (35, .d (dI 1))], [(0, wO n), (1, .arr 3 (ranE n (4 + 1))), (2, .var false 116 [.d (dB false), .d (dB false), .d (dB false), .d (dB false), .d (dB true), .d (dB false)])], 3⟩)), ?_, ?_⟩
    ·conv => whnf
     exact ⟨1, 0, rfl, .inl ⟨rfl, rfl⟩⟩
    ·rintro q _ ⟨j, hj, hs⟩
     rcases hs with ⟨rfl, rfl⟩ | ⟨rfl, rfl⟩
     ·conv => whnf
      (repeat' (first | (apply kT (by with_reducible first | rfl | assumption); conv => whnf) | (apply kF (by with_reducible first | rfl | assumption); conv => whnf) | (apply kT (by decide); conv => whnf) | (apply kF (by decide); conv => whnf) | (apply kB <;> intro _ <;> conv => whnf) | fail))
      (refine ⟨0, _, rfl, rfl, rfl, ?_⟩; conv => whnf)
      (repeat' (first | (apply kT (by with_reducible first | rfl | assumption); conv => whnf) | (apply kF (by with_reducible first | rfl | assumption); conv => whnf) | (apply kT (by decide); conv => whnf) | (apply kF (by decide); conv => whnf) | (apply kB <;> intro _ <;> conv => whnf) | (refine .inl ⟨_, cw, ?_⟩; conv => whnf) | fail))
      (refine ⟨4, rfl, by decide, ?_⟩; conv => whnf)
      (repeat' (first | (apply kT (by with_reducible first | rfl | assumption); conv => whnf) | (apply kF (by with_reducible first | rfl | assumption); conv => whnf) | (apply kT (by decide); conv => whnf) | (apply kF (by decide); conv => whnf) | (apply kB <;> intro _ <;> conv => whnf) | (refine .inl ⟨_, cm, ?_⟩; conv => whnf) | fail))
      (refine ⟨4, rfl, by decide, ?_⟩; conv => whnf)
      (repeat' (first | (apply kT (by with_reducible first | rfl | assumption); conv => whnf) | (apply kF (by with_reducible first | rfl | assumption); conv => whnf) | (apply kT (by decide); conv => whnf) | (apply kF (by decide); conv => whnf) | (apply kB <;> intro _ <;> conv => whnf) | fail))
      (refine ⟨4, rfl, by rw [hrl]; exact hkn, ?_⟩; conv => whnf)
      (refine ⟨_, hra, ?_⟩; conv => whnf)
      (refine ⟨_, rfl, ?_⟩; conv => whnf)
      (repeat' (first | (apply kT (by with_reducible first | rfl | assumption); conv => whnf) | (apply kF (by with_reducible first | rfl | assumption); conv => whnf) | (apply kT (by decide); conv => whnf) | (apply kF (by decide); conv => whnf) | (apply kB <;> intro _ <;> conv => whnf) | fail))
      (refine ⟨4, rfl, by rw [hrl]; exact hkn, ?_⟩; conv => whnf)
      (refine ⟨_, hra, rfl, Nat.le_refl _, ranE n (4 + 1), hset, ?_⟩; conv => whnf)
      (repeat' (first | (apply kT (by with_reducible first | rfl | assumption); conv => whnf) | (apply kF (by with_reducible first | rfl | assumption); conv => whnf) | (apply kT (by decide); conv => whnf) | (apply kF (by decide); conv => whnf) | (apply kB <;> intro _ <;> conv => whnf) | fail))
      exact ⟨q - 1, by omega, 1, by omega, .inr ⟨rfl, rfl⟩⟩
     ·conv => whnf
      (repeat' (first | (apply kT (by with_reducible first | rfl | assumption); conv => whnf) | (apply kF (by with_reducible first | rfl | assumption); conv => whnf) | (apply kT (by decide); conv => whnf) | (apply kF (by decide); conv => whnf) | (apply kB <;> intro _ <;> conv => whnf) | fail))
      refine ⟨m - 1, by omega, 4 + 1, by omega, ?_⟩
      rw [w1k]
   ·conv => whnf
    (repeat' (first | (apply kT (by with_reducible first | rfl | assumption); conv => whnf) | (apply kF (by with_reducible first | rfl | assumption); conv => whnf) | (apply kT (by decide); conv => whnf) | (apply kF (by decide); conv => whnf) | (apply kB <;> intro _ <;> conv => whnf) | fail))
    (refine ⟨5, _, rfl, hg, rfl, ?_⟩; conv => whnf)
    (repeat' (first | (apply kT (by with_reducible first | rfl | assumption); conv => whnf) | (apply kF (by with_reducible first | rfl | assumption); conv => whnf) | (apply kT (by decide); conv => whnf) | (apply kF (by decide); conv => whnf) | (apply kB <;> intro _ <;> conv => whnf) | fail))
    refine ⟨[], [2, 5, 6, 8, 20, 21, 22, 33, 34, 35], [0, 1, 2], 3, fun q s => ∃ j : Nat, j + q = 1 ∧ ((j = 0 ∧ s = ⟨[(2, .ref 0 0), (5, .own 1), (6, .d (dI (5 : Nat))), (8, .ref 2 0), (20, .d (.seq (onePl n))), (21, .d (dI ((onePl n).length : Nat))), (22, .d (dI (5 : Nat))), (33, .d (isD [((5 : Nat) : Int)])), (34, .d (dI 1)), (35, .d (dI 0))], [(0, wO n), (1, .arr 3 (ranE n 5)), (2, .var false 116 [.d (dB false), .d (dB false), .d (dB false), .d (dB false), .d (dB false), .d (dB false)])], 3⟩) ∨
     (j = 1 ∧ s = ⟨[(2, .ref 0 0), (5, .own 1), (6, .d (dI (5 : Nat))), (8, .ref 2 0), (20, .d (.seq (onePl n))), (21, .d (dI ((onePl n).length : Nat))), (22, .d (dI (5 : Nat))), (33, .d (isD [((5 : Nat) : Int)])), (34, .d (dI 1)), (35, .d (dI 1))], [(0, wO n), (1, .arr 3 (ranE n (5 + 1))), (2, .var false 116 [.d (dB false), .d (dB false), .d (dB false), .d (dB false), .d (dB false), .d (dB true)])], 3⟩)), ?_, ?_⟩
    ·conv => whnf
     exact ⟨1, 0, rfl, .inl ⟨rfl, rfl⟩⟩
    ·rintro q _ ⟨j, hj, hs⟩
     rcases hs with ⟨rfl, rfl⟩ | ⟨rfl, rfl⟩
     ·conv => whnf
      (repeat' (first | (apply kT (by with_reducible first | rfl | assumption); conv => whnf) | (apply kF (by with_reducible first | rfl | assumption); conv => whnf) | (apply kT (by decide); conv => whnf) | (apply kF (by decide); conv => whnf) | (apply kB <;> intro _ <;> conv => whnf) | fail))
      (refine ⟨0, _, rfl, rfl, rfl, ?_⟩; conv => whnf)
      (repeat' (first | (apply kT (by with_reducible first | rfl | assumption); conv => whnf) | (apply kF (by with_reducible first | rfl | assumption); conv => whnf) | (apply kT (by decide); conv => whnf) | (apply kF (by decide); conv => whnf) | (apply kB <;> intro _ <;> conv => whnf) | (refine .inl ⟨_, cw, ?_⟩; conv => whnf) | fail))
      (refine ⟨5, rfl, by decide, ?_⟩; conv => whnf)
      (repeat' (first | (apply kT (by with_reducible first | rfl | assumption); conv => whnf) | (apply kF (by with_reducible first | rfl | assumption); conv => whnf) | (apply kT (by decide); conv => whnf) | (apply kF (by decide); conv => whnf) | (apply kB <;> intro _ <;> conv => whnf) | (refine .inl ⟨_, cm, ?_⟩; conv => whnf) | fail))
      (refine ⟨5, rfl, by decide, ?_⟩; conv => whnf)
      (repeat' (first | (apply kT (by with_reducible first | rfl | assumption); conv => whnf) | (apply kF (by with_reducible first | rfl | assumption); conv => whnf) | (apply kT (by decide); conv => whnf) | (apply kF (by decide); conv => whnf) | (apply kB <;> intro _ <;> conv => whnf) | fail))
      (refine ⟨5, rfl, by rw [hrl]; exact hkn, ?_⟩; conv => whnf)
      (refine ⟨_, hra, ?_⟩; conv => whnf)
      (refine ⟨_, rfl, ?_⟩; conv => whnf)
      (repeat' (first | (apply kT (by with_reducible first | rfl | assumption); conv => whnf) | (apply kF (by with_reducible first | rfl | assumption); conv => whnf) | (apply kT (by decide); conv => whnf) | (apply kF (by decide); conv => whnf) | (apply kB <;> intro _ <;> conv => whnf) | fail))
      (refine ⟨5, rfl, by rw [hrl]; exact hkn, ?_⟩; conv => whnf)
      (refine ⟨_, hra, rfl, Nat.le_refl _, ranE n (5 + 1), hset, ?_⟩; conv => whnf)
      (repeat' (first | (apply kT (by with_reducible first | rfl | assumption); conv => whnf) | (apply kF (by with_reducible first | rfl | assumption); conv => whnf) | (apply kT (by decide); conv => whnf) | (apply kF (by decide); conv => whnf) | (apply kB <;> intro _ <;> conv => whnf) | fail))
      exact ⟨q - 1, by omega, 1, by omega, .inr ⟨rfl, rfl⟩⟩
     ·conv => whnf
      (repeat' (first | (apply kT (by with_reducible first | rfl | assumption); conv => whnf) | (apply kF (by with_reducible first | rfl | assumption); conv => whnf) | (apply kT (by decide); conv => whnf) | (apply kF (by decide); conv => whnf) | (apply kB <;> intro _ <;> conv => whnf) | fail))
      refine ⟨m - 1, by omega, 5 + 1, by omega, ?_⟩
      rw [w1k]
  ·have g1 : decide ((k : Int) < ((onePl n).length : Int)) = false := decide_eq_false (by rw [hlp]; omega)
   have ek : k = n := by omega
   subst ek
   have hrl : ((ranE k k).length : Int) = k := by rw [ranE_len]
   conv => whnf
   (repeat' (first | (apply kT (by with_reducible first | rfl | assumption); conv => whnf) | (apply kF (by with_reducible first | rfl | assumption); conv => whnf) | (apply kT (by decide); conv => whnf) | (apply kF (by decide); conv => whnf) | (apply kB <;> intro _ <;> conv => whnf) | fail))
   refine ⟨[], [2, 72, 73, 74], [0, 1], 2, fun m s => ∃ j : Nat, j + m = k ∧ s = ⟨[(2, .ref 0 0), (72, .own 1), (73, .d (dI ((ranE k k).length : Nat))), (74, .d (dI j))], [(0, wO k), (1, .arr 3 (ranE k k))], 2⟩, ?_, ?_⟩
   ·conv => whnf
    exact ⟨k, 0, by omega, rfl⟩
   ·rintro m _ ⟨j, hj, rfl⟩
    by_cases hjk : j < k
    ·have g2 : decide ((j : Int) < ((ranE k k).length : Int)) = true := decide_eq_true (by rw [hrl]; omega)
     have hra := ranE_at (k := k) hjk
     rw [if_pos hjk] at hra
     have hgo : (List.replicate k oneR)[j]? = some oneR := by rw [List.getElem?_replicate, if_pos hjk]
     have w1j : IntKind.i64.wrap ((j : Int) + 1) = ((j + 1 : Nat) : Int) := by rw [wrapI (by omega) (by omega)]; rfl
     conv => whnf
     (repeat' (first | (apply kT (by with_reducible first | rfl | assumption); conv => whnf) | (apply kF (by with_reducible first | rfl | assumption); conv => whnf) | (apply kT (by decide); conv => whnf) | (apply kF (by decide); conv => whnf) | (apply kB <;> intro _ <;> conv => whnf) | fail))
     (refine ⟨j, rfl, by rw [ranE_len]; exact hjk, ?_⟩; conv => whnf)
     (refine ⟨_, hra, ?_⟩; conv => whnf)
     (refine ⟨_, rfl, ?_⟩; conv => whnf)
     (repeat' (first | (apply kT (by with_reducible first | rfl | assumption); conv => whnf) | (apply kF (by with_reducible first | rfl | assumption); conv => whnf) | (apply kT (by decide); conv => whnf) | (apply kF (by decide); conv => whnf) | (apply kB <;> intro _ <;> conv => whnf) | fail))
     (refine ⟨j, _, rfl, hgo, rfl, ?_⟩; conv => whnf)
     (repeat' (first | (apply kT (by with_reducible first | rfl | assumption); conv => whnf) | (apply kF (by with_reducible first | rfl | assumption); conv => whnf) | (apply kT (by decide); conv => whnf) | (apply kF (by decide); conv => whnf) | (apply kB <;> intro _ <;> conv => whnf) | fail))
     refine ⟨m - 1, by omega, j + 1, by omega, ?_⟩
     rw [w1j]
    ·have g2 : decide ((j : Int) < ((ranE k k).length : Int)) = false := decide_eq_false (by rw [hrl]; omega)
     conv => whnf
     (repeat' (first | (apply kT (by with_reducible first | rfl | assumption); conv => whnf) | (apply kF (by with_reducible first | rfl | assumption); conv => whnf) | (apply kT (by decide); conv => whnf) | (apply kF (by decide); conv => whnf) | (apply kB <;> intro _ <;> conv => whnf) | fail))
     rfl
end Go.Ev.Ytijidghjiaiccaa


set_option linter.unusedVariables false
set_option linter.unusedSimpArgs false
set_option maxRecDepth 100000
namespace Go.Ev.Ytijidghjiaiccaa
open Go.Proofs
attribute [local irreducible] Pure Bor Iter inB ranE
theorem clone_nil : Bor tb Try.prog 32 [.d nilS] [] 1 (.d (.seq [])) [] := by
 refine bor_of pg Try.func32 (by kernel_rfl) ?_
 conv => whnf
 (repeat' (first | (apply kT (by with_reducible first | rfl | assumption); conv => whnf) | (apply kF (by with_reducible first | rfl | assumption); conv => whnf) | (apply kT (by decide); conv => whnf) | (apply kF (by decide); conv => whnf) | (apply kB <;> intro _ <;> conv => whnf) | fail))
 (refine ⟨[], [], ?_⟩; conv => whnf)
 exact ⟨rfl, rfl⟩
theorem last_pure (a b : Int) : Pure Try.prog 33 [.seq [[dI a], [dI b]]] (dI (max a b)) := by
 refine pure_of pg Try.func33 (by kernel_rfl) ?_
 conv => whnf
 (refine .inl ⟨_, max2_pure a b, ?_⟩; conv => whnf)
 rfl
theorem clone_on : Pure Try.prog 34 [.seq [[dB true]]] (.seq [[dB true]]) := by
 refine pure_of pg Try.func34 (by kernel_rfl) ?_
 conv => whnf
 (refine ⟨by simp, ?_⟩; conv => whnf)
 (repeat' (first | (apply kT (by with_reducible first | rfl | assumption); conv => whnf) | (apply kF (by with_reducible first | rfl | assumption); conv => whnf) | (apply kT (by decide); conv => whnf) | (apply kF (by decide); conv => whnf) | (apply kB <;> intro _ <;> conv => whnf) | fail))
 (refine ⟨fun el h => by rw [List.mem_singleton.1 h]; rfl, by decide, ?_⟩; conv => whnf)
 rfl
abbrev lfR (C : Nat → Bool) (n k i : Nat) : List D := [dI (if i < k ∧ C i = false then 0 else 1), dI n, .seq [[dB true]]]
def lfE (C : Nat → Bool) (n k : Nat) : List (List D) := (List.range n).map (lfR C n k)
theorem lfE_len (C : Nat → Bool) (n k : Nat) : (lfE C n k).length = n := by unfold lfE; simp
theorem lfE_at (C : Nat → Bool) {n k i : Nat} (hi : i < n) : (lfE C n k)[i]? = some (lfR C n k i) := by unfold lfE; exact range_at _ hi
theorem lfE_same {C : Nat → Bool} {n k : Nat} (hC : C k = true) : lfE C n k = lfE C n (k + 1) := by
 unfold lfE
 apply List.map_congr_left
 intro i _
 by_cases h : i = k
 ·subst h
  unfold lfR
  rw [if_neg (by simp), if_neg (by simp [hC])]
 ·have : (i < k ∧ C i = false) = (i < k + 1 ∧ C i = false) := by
   apply propext
   constructor
   ·rintro ⟨h1, h2⟩; exact ⟨by omega, h2⟩
   ·rintro ⟨h1, h2⟩; exact ⟨by omega, h2⟩
  unfold lfR
  simp only [this]
theorem lfE_set {C : Nat → Bool} {n k : Nat} (hk : k < n) (hC : C k = false) : (lfE C n k).set k [dI 0, dI n, .seq [[dB true]]] = lfE C n (k + 1) := by
 apply List.ext_getElem?
 intro q
 rw [List.getElem?_set]
 by_cases hq : q < n
 ·rw [lfE_at C hq, lfE_at C hq, lfE_len]
  by_cases h1 : k = q
  ·subst h1
   rw [if_pos rfl, if_pos hq]
   unfold lfR
   rw [if_pos ⟨by omega, hC⟩]
  ·rw [if_neg h1]
   have : (q < k ∧ C q = false) = (q < k + 1 ∧ C q = false) := by
    apply propext
    constructor
    ·rintro ⟨h1, h2⟩; exact ⟨by omega, h2⟩
    ·rintro ⟨h1, h2⟩; exact ⟨by omega, h2⟩
   unfold lfR
   simp only [this]
 ·rw [List.getElem?_eq_none (by rw [lfE_len]; omega), List.getElem?_eq_none (by rw [lfE_len]; omega), lfE_len]
  rw [if_neg (by omega)]
abbrev lf0 (n : Nat) : List D := [dI 1, dI n, .seq [[dB true]]]
theorem lfE_zero (C : Nat → Bool) (n : Nat) : lfE C n 0 = List.replicate n (lf0 n) := by
 apply List.ext_getElem?
 intro q
 by_cases hq : q < n
 ·rw [lfE_at C hq, List.getElem?_replicate, if_pos hq]
  unfold lfR
  rw [if_neg (by omega)]
 ·rw [List.getElem?_eq_none (by rw [lfE_len]; omega), List.getElem?_eq_none (by simp; omega)]
attribute [local irreducible] lfE
set_option maxHeartbeats 8000000 in
theorem rest_pure {n : Nat} (h0 : 0 < n) (hn : n ≤ 6) (C : Nat → Bool) (L : List Nat) (hL : L.length ≤ 6) (hLn : ∀ x ∈ L, x < n) (hC : ∀ h, h < n → (!L.all fun x => x != h) = C h) :
  Pure Try.prog 13 [oneW n, .seq (onePl n), dI n, .seq (lssD L)] (.tup [.agg [.seq [[.seq []]], .seq (lfE C n n)], dI 0]) := by
 have hlp : ((onePl n).length : Int) = n := by simp
 have hlr : ((List.replicate n oneR).length : Int) = n := by simp
 have cc := one_check hn
 have cr := right_pure h0 hn
 have cl := allL n L (by omega)
 have el : L.all losB = true := by
  rw [List.all_eq_true]
  intro x hx
  have := hLn x hx
  unfold losB inB
  simp only [Bool.and_eq_true, decide_eq_true_eq]; omega
 rw [el] at cl
 have cm := many_pure (n : Int)
 have em : inB (n : Int) 0 40 = true := by unfold inB; simp only [Bool.and_eq_true, decide_eq_true_eq]; omega
 rw [em] at cm
 refine pure_of_v pg Try.func13 (by kernel_rfl) ?_
 conv => whnf
 (repeat' (first | (apply kT (by with_reducible first | rfl | assumption); conv => whnf) | (apply kF (by with_reducible first | rfl | assumption); conv => whnf) | (apply kT (by decide); conv => whnf) | (apply kF (by decide); conv => whnf) | (apply kB <;> intro _ <;> conv => whnf) | (refine .inl ⟨_, cc, ?_⟩; conv => whnf) | (refine .inl ⟨_, cr, ?_⟩; conv => whnf) | fail))
 (refine .inr ⟨[0], 2, _, _, cl, ?_⟩; conv => whnf)
 (repeat' (first | (apply kT (by with_reducible first | rfl | assumption); conv => whnf) | (apply kF (by with_reducible first | rfl | assumption); conv => whnf) | (apply kT (by decide); conv => whnf) | (apply kF (by decide); conv => whnf) | (apply kB <;> intro _ <;> conv => whnf) | (refine .inl ⟨_, cm, ?_⟩; conv => whnf) | fail))
 refine ⟨[.cown 3 0 33, .rex], [1, 2, 3, 4, 8, 12, 45, 46, 47], [0, 1, 3, 4], 5, fun m s => ∃ k : Nat, k + m = 1 ∧ s = ⟨[(1, .d (.seq (onePl n))), (2, .d (dI n)), (3, .d (.seq (lssD L))), (4, .ref 0 0), (8, .ref 1 0), (12, .ref 3 0), (45, .d (.seq [[nilS]])), (46, .d (dI 1)), (47, .d (dI k))], [(0, wO n), (1, .var false 37 [.d nilS, .d nilS]), (3, .var false 37 [.own 4, .d nilS]), (4, .arr 33 (List.replicate k [.seq []]))], 5⟩, ?_, ?_⟩
 ·conv => whnf
  exact ⟨1, 0, rfl, rfl⟩
 ·rintro m _ ⟨k, hk, rfl⟩
  rcases (by omega : k = 0 ∨ k = 1) with rfl | rfl
  ·conv => whnf
   (repeat' (first | (apply kT (by with_reducible first | rfl | assumption); conv => whnf) | (apply kF (by with_reducible first | rfl | assumption); conv => whnf) | (apply kT (by decide); conv => whnf) | (apply kF (by decide); conv => whnf) | (apply kB <;> intro _ <;> conv => whnf) | fail))
   (refine ⟨0, _, rfl, rfl, rfl, ?_⟩; conv => whnf)
   (repeat' (first | (apply kT (by with_reducible first | rfl | assumption); conv => whnf) | (apply kF (by with_reducible first | rfl | assumption); conv => whnf) | (apply kT (by decide); conv => whnf) | (apply kF (by decide); conv => whnf) | (apply kB <;> intro _ <;> conv => whnf) | fail))
   (refine .inr ⟨[], 1, _, _, clone_nil, ?_⟩; conv => whnf)
   (refine .l ?_; conv => whnf)
   (refine ⟨fun el h => by rw [List.mem_singleton.1 h]; rfl, by decide, ?_⟩; conv => whnf)
   (repeat' (first | (apply kT (by with_reducible first | rfl | assumption); conv => whnf) | (apply kF (by with_reducible first | rfl | assumption); conv => whnf) | (apply kT (by decide); conv => whnf) | (apply kF (by decide); conv => whnf) | (apply kB <;> intro _ <;> conv => whnf) | fail))
   (refine ⟨[0, 1, 2, 3, 45], ?_⟩; conv => whnf)
   exact ⟨m - 1, by omega, 1, by omega, rfl⟩
  ·conv => whnf
   (repeat' (first | (apply kT (by with_reducible first | rfl | assumption); conv => whnf) | (apply kF (by with_reducible first | rfl | assumption); conv => whnf) | (apply kT (by decide); conv => whnf) | (apply kF (by decide); conv => whnf) | (apply kB <;> intro _ <;> conv => whnf) | fail))
   refine ⟨[.frz 4, .cown 3 1 40, .rex], [1, 2, 3, 4, 8, 12, 60, 61, 62], [0, 1, 3, 5], 6, fun m s => ∃ k : Nat, k + m = n ∧ s = ⟨[(1, .d (.seq (onePl n))), (2, .d (dI n)), (3, .d (.seq (lssD L))), (4, .ref 0 0), (8, .ref 1 0), (12, .ref 3 0), (60, .d (.seq (List.replicate n oneR))), (61, .d (dI ((List.replicate n oneR).length : Nat))), (62, .d (dI k))], [(0, wO n), (1, .var false 37 [.d nilS, .d nilS]), (3, .var false 37 [.d (.seq [[.seq []]]), .own 5]), (5, .arr 40 (List.replicate k (lf0 n)))], 6⟩, ?_, ?_⟩
   ·conv => whnf
    exact ⟨n, 0, by omega, rfl⟩
   ·rintro m _ ⟨k, hk, rfl⟩
    by_cases hkn : k < n
    ·have g1 : decide ((k : Int) < ((List.replicate n oneR).length : Int)) = true := decide_eq_true (by rw [hlr]; omega)
     have hgo : (List.replicate n oneR)[k]? = some oneR := by rw [List.getElem?_replicate, if_pos hkn]
     have w1k : IntKind.i64.wrap ((k : Int) + 1) = ((k + 1 : Nat) : Int) := by rw [wrapI (by omega) (by omega)]; rfl
     have cx := last_pure 0 (n : Int)
     have ex : max 0 (n : Int) = n := by omega
     rw [ex] at cx
     conv => whnf
     (repeat' (first | (apply kT (by with_reducible first | rfl | assumption); conv => whnf) | (apply kF (by with_reducible first | rfl | assumption); conv => whnf) | (apply kT (by decide); conv => whnf) | (apply kF (by decide); conv => whnf) | (apply kB <;> intro _ <;> conv => whnf) | fail))
     (refine ⟨k, _, rfl, hgo, rfl, ?_⟩; conv => whnf)
     (repeat' (first | (apply kT (by with_reducible first | rfl | assumption); conv => whnf) | (apply kF (by with_reducible first | rfl | assumption); conv => whnf) | (apply kT (by decide); conv => whnf) | (apply kF (by decide); conv => whnf) | (apply kB <;> intro _ <;> conv => whnf) | fail))
     (refine .l ?_; conv => whnf)
     (repeat' (first | (apply kT (by with_reducible first | rfl | assumption); conv => whnf) | (apply kF (by with_reducible first | rfl | assumption); conv => whnf) | (apply kT (by decide); conv => whnf) | (apply kF (by decide); conv => whnf) | (apply kB <;> intro _ <;> conv => whnf) | (refine .inl ⟨_, cx, ?_⟩; conv => whnf) | (refine .inl ⟨_, clone_on, ?_⟩; conv => whnf) | fail))
     (refine .l ?_; conv => whnf)
     (refine ⟨fun el h => by rw [List.mem_singleton.1 h]; rfl, by rw [List.length_replicate]; show (k + 1) * 40 ≤ _; omega, ?_⟩; conv => whnf)
     (repeat' (first | (apply kT (by with_reducible first | rfl | assumption); conv => whnf) | (apply kF (by with_reducible first | rfl | assumption); conv => whnf) | (apply kT (by decide); conv => whnf) | (apply kF (by decide); conv => whnf) | (apply kB <;> intro _ <;> conv => whnf) | fail))
     (refine ⟨[0, 1, 2, 3, 4, 119], ?_⟩; conv => whnf)
     refine ⟨m - 1, by omega, k + 1, by omega, ?_⟩
     rw [w1k, List.replicate_succ']
     rfl
    ·have g1 : decide ((k : Int) < ((List.replicate n oneR).length : Int)) = false := decide_eq_false (by rw [hlr]; omega)
     have ek : k = n := by omega
     subst ek
     rw [← lfE_zero C k]
     have hmin : min (k : Int) ((onePl k).length : Int) = k := by rw [hlp]; omega
     have hel : ∀ el ∈ onePl k, el.length = 1 := fun el h => by obtain ⟨i, _, rfl⟩ := List.mem_map.1 h; rfl
     have htk : List.drop 0 (List.take k (onePl k)) = onePl k := by rw [List.drop_zero]; exact List.take_of_length_le (by simp)
     conv => whnf
     (repeat' (first | (apply kT (by with_reducible first | rfl | assumption); conv => whnf) | (apply kF (by with_reducible first | rfl | assumption); conv => whnf) | (apply kT (by decide); conv => whnf) | (apply kF (by decide); conv => whnf) | (apply kB <;> intro _ <;> conv => whnf) | fail))
     refine ⟨k, hmin, Nat.zero_le _, by simp, hel, ?_⟩
     rw [htk]
     conv => whnf
     (repeat' (first | (apply kT (by with_reducible first | rfl | assumption); conv => whnf) | (apply kF (by with_reducible first | rfl | assumption); conv => whnf) | (apply kT (by decide); conv => whnf) | (apply kF (by decide); conv => whnf) | (apply kB <;> intro _ <;> conv => whnf) | fail))
     refine ⟨[], [3, 8, 12, 88, 89, 90], [0, 1, 3, 5], 6, fun m s => ∃ h : Nat, h + m = k ∧ s = ⟨[(3, .d (.seq (lssD L))), (8, .ref 1 0), (12, .ref 3 0), (88, .d (.seq (onePl k))), (89, .d (dI ((onePl k).length : Nat))), (90, .d (dI h))], [(0, wO k), (1, .var false 37 [.d nilS, .d nilS]), (3, .var false 37 [.d (.seq [[.seq []]]), .own 5]), (5, .arr 40 (lfE C k h))], 6⟩, ?_, ?_⟩
     ·conv => whnf
      exact ⟨k, 0, by omega, rfl⟩
     ·rintro m _ ⟨h, hh, rfl⟩
      by_cases hk : h < k
      ·have g2 : decide ((h : Int) < ((onePl k).length : Int)) = true := decide_eq_true (by rw [hlp]; omega)
       have hg : (onePl k)[h]? = some [isD [(h : Int)]] := range_at _ hk
       have w1h : IntKind.i64.wrap ((h : Int) + 1) = ((h + 1 : Nat) : Int) := by rw [wrapI (by omega) (by omega)]; rfl
       have hidle : ((h : Int) != -1) = true := bne_iff_ne.2 (by omega)
       have ch := ls_has L h (by omega)
       rw [hC h hk] at ch
       have hrow : (lfE C k h)[h]? = some (lf0 k) := by
        rw [lfE_at C hk]
        unfold lfR
        rw [if_neg (by omega)]
       have hrl := lfE_len C k h
       conv => whnf
       (repeat' (first | (apply kT (by with_reducible first | rfl | assumption); conv => whnf) | (apply kF (by with_reducible first | rfl | assumption); conv => whnf) | (apply kT (by decide); conv => whnf) | (apply kF (by decide); conv => whnf) | (apply kB <;> intro _ <;> conv => whnf) | fail))
       (refine ⟨h, _, rfl, hg, rfl, ?_⟩; conv => whnf)
       (repeat' (first | (apply kT (by with_reducible first | rfl | assumption); conv => whnf) | (apply kF (by with_reducible first | rfl | assumption); conv => whnf) | (apply kT (by decide); conv => whnf) | (apply kF (by decide); conv => whnf) | (apply kB <;> intro _ <;> conv => whnf) | fail))
       refine ⟨[], [3, 8, 12, 17, 88, 89, 90, 95, 96, 97], [0, 1, 3, 5], 6, fun q s => ∃ j : Nat, j + q = 1 ∧ ((j = 0 ∧ s = ⟨[(3, .d (.seq (lssD L))), (8, .ref 1 0), (12, .ref 3 0), (17, .d (dI h)), (88, .d (.seq (onePl k))), (89, .d (dI ((onePl k).length : Nat))), (90, .d (dI h)), (95, .d (isD [(h : Int)])), (96, .d (dI 1)), (97, .d (dI 0))], [(0, wO k), (1, .var false 37 [.d nilS, .d nilS]), (3, .var false 37 [.d (.seq [[.seq []]]), .own 5]), (5, .arr 40 (lfE C k h))], 6⟩) ∨
        (j = 1 ∧ s = ⟨[(3, .d (.seq (lssD L))), (8, .ref 1 0), (12, .ref 3 0), (17, .d (dI h)), (88, .d (.seq (onePl k))), (89, .d (dI ((onePl k).length : Nat))), (90, .d (dI h)), (95, .d (isD [(h : Int)])), (96, .d (dI 1)), (97, .d (dI 1))], [(0, wO k), (1, .var false 37 [.d nilS, .d nilS]), (3, .var false 37 [.d (.seq [[.seq []]]), .own 5]), (5, .arr 40 (lfE C k (h + 1)))], 6⟩)), ?_, ?_⟩
       ·conv => whnf
        exact ⟨1, 0, rfl, .inl ⟨rfl, rfl⟩⟩
       ·rintro q _ ⟨j, hj, hs⟩
        rcases hs with ⟨rfl, rfl⟩ | ⟨rfl, rfl⟩
        ·cases hc : C h with
         | true =>
          rw [hc] at ch
          have hsm := lfE_same (n := k) hc
          conv => whnf
          (repeat' (first | (apply kT (by with_reducible first | rfl | assumption); conv => whnf) | (apply kF (by with_reducible first | rfl | assumption); conv => whnf) | (apply kT (by decide); conv => whnf) | (apply kF (by decide); conv => whnf) | (apply kB <;> intro _ <;> conv => whnf) | fail))
          (refine ⟨0, _, rfl, rfl, rfl, ?_⟩; conv => whnf)
          (repeat' (first | (apply kT (by with_reducible first | rfl | assumption); conv => whnf) | (apply kF (by with_reducible first | rfl | assumption); conv => whnf) | (apply kT (by decide); conv => whnf) | (apply kF (by decide); conv => whnf) | (apply kB <;> intro _ <;> conv => whnf) | (refine .inl ⟨_, ch, ?_⟩; conv => whnf) | fail))
          refine ⟨q - 1, by omega, 1, by omega, .inr ⟨rfl, ?_⟩⟩
          rw [← hsm]
          rfl
         | false =>
          rw [hc] at ch
          have w0 : IntKind.i64.wrap ((1 : Int) - 1) = 0 := by decide
          have hset : (lfE C k h).set h [dI (IntKind.i64.wrap ((1 : Int) - 1)), dI k, .seq [[dB true]]] = lfE C k (h + 1) := by rw [w0]; exact lfE_set hk hc
          conv => whnf
          (repeat' (first | (apply kT (by with_reducible first | rfl | assumption); conv => whnf) | (apply kF (by with_reducible first | rfl | assumption); conv => whnf) | (apply kT (by decide); conv => whnf) | (apply kF (by decide); conv => whnf) | (apply kB <;> intro _ <;> conv => whnf) | fail))
          (refine ⟨0, _, rfl, rfl, rfl, ?_⟩; conv => whnf)
          (repeat' (first | (apply kT (by with_reducible first | rfl | assumption); conv => whnf) | (apply kF (by with_reducible first | rfl | assumption); conv => whnf) | (apply kT (by decide); conv => whnf) | (apply kF (by decide); conv => whnf) | (apply kB <;> intro _ <;> conv => whnf) | (refine .inl ⟨_, ch, ?_⟩; conv => whnf) | fail))
          (refine ⟨h, rfl, by rw [hrl]; exact hk, ?_⟩; conv => whnf)
          (refine ⟨_, hrow, ?_⟩; conv => whnf)
          (refine ⟨_, rfl, ?_⟩; conv => whnf)
          (repeat' (first | (apply kT (by with_reducible first | rfl | assumption); conv => whnf) | (apply kF (by with_reducible first | rfl | assumption); conv => whnf) | (apply kT (by decide); conv => whnf) | (apply kF (by decide); conv => whnf) | (apply kB <;> intro _ <;> conv => whnf) | fail))
          (refine ⟨h, rfl, by rw [hrl]; exact hk, ?_⟩; conv => whnf)
          (refine ⟨_, hrow, rfl, by decide, lfE C k (h + 1), hset, ?_⟩; conv => whnf)
          (repeat' (first | (apply kT (by with_reducible first | rfl | assumption); conv => whnf) | (apply kF (by with_reducible first | rfl | assumption); conv => whnf) | (apply kT (by decide); conv => whnf) | (apply kF (by decide); conv => whnf) | (apply kB <;> intro _ <;> conv => whnf) | fail))
          exact ⟨q - 1, by omega, 1, by omega, .inr ⟨rfl, rfl⟩⟩
        ·conv => whnf
         (repeat' (first | (apply kT (by with_reducible first | rfl | assumption); conv => whnf) | (apply kF (by with_reducible first | rfl | assumption); conv => whnf) | (apply kT (by decide); conv => whnf) | (apply kF (by decide); conv => whnf) | (apply kB <;> intro _ <;> conv => whnf) | fail))
         refine ⟨m - 1, by omega, h + 1, by omega, ?_⟩
         rw [w1h]
      ·have g2 : decide ((h : Int) < ((onePl k).length : Int)) = false := decide_eq_false (by rw [hlp]; omega)
       have eh : h = k := by omega
       subst eh
       conv => whnf
       (repeat' (first | (apply kT (by with_reducible first | rfl | assumption); conv => whnf) | (apply kF (by with_reducible first | rfl | assumption); conv => whnf) | (apply kT (by decide); conv => whnf) | (apply kF (by decide); conv => whnf) | (apply kB <;> intro _ <;> conv => whnf) | fail))
       (refine ⟨[.frz 5], ?_⟩; conv => whnf)
       rfl
end Go.Ev.Ytijidghjiaiccaa


set_option linter.unusedVariables false
set_option linter.unusedSimpArgs false
set_option maxRecDepth 100000
namespace Go.Ev.Ytijidghjiaiccaa
abbrev cutQ (q : Que) (k : Nat) : Que := ⟨q.ms, q.rs.take k⟩
def endQ (q : Que) : Option Nat := (layL (quQ q) 40 [] (itK (hrsQ q) q.rs.length)).map List.length
theorem earl_some {q : Que} (h0 : checkQ q = 0) {e : Nat} (h : endQ q = some e) : ∃ rows, earlD q = .tup [.seq rows, dI e, dI 0] := by
 unfold endQ at h
 obtain ⟨P, hP, rfl⟩ := Option.map_eq_some_iff.1 h
 refine ⟨plRows q.ms.length P, ?_⟩
 unfold earlD
 rw [if_neg (by rw [h0]; simp), hP]
end Go.Ev.Ytijidghjiaiccaa


set_option linter.unusedVariables false
set_option linter.unusedSimpArgs false
set_option maxRecDepth 100000
namespace Go.Ev.Ytijidghjiaiccaa.P
def takN : List S3 → Nat
 | [] => 0
 | s :: r => s.1.toNat + takN r
def OnL (lot : Int) (l : List S3) (k : Nat) (res : List Bool) : Prop :=
 res.length = takN (l.take k) ∧ ∀ ext : List Bool, ∃ v, playN (res ++ ext) l 0 0 0 = playN (res ++ ext) (l.drop k) res.length (badN res) v
def saidN (s : S3) (res seg : List Bool) : Int := says s.2.1 s.2.2 ((badN res + badN seg : Nat) : Int)
end Go.Ev.Ytijidghjiaiccaa.P


set_option linter.unusedVariables false
set_option linter.unusedSimpArgs false
set_option maxRecDepth 100000
namespace Go.Ev.Ytijidghjiaiccaa
open Go.Proofs
open P (S3 plD InS check takN OnL Fit Ends faultR)
abbrev usD (l : List Int) : D := .seq (l.map fun x => [dU x])
abbrev msT : D := .seq [[nilS], [.seq [[dI 3, dI 4]]]]
def hrT (ws : List Int) (i : Nat) : Int := (((ws[i % ws.length]?).getD 0).toNat % 7 : Nat)
def rnT (ws : List Int) (i : Nat) : Rn := ⟨hrT ws i, 0, [true, decide (i % 2 = 0)]⟩
abbrev runsT (ws : List Int) (k : Nat) : List Rn := (List.range k).map (rnT ws)
abbrev qT (ws : List Int) (k : Nat) : Que := ⟨[[], [(3, 4)]], runsT ws k⟩
def bitT (w : Int) (p : Nat) : Bool := (w.fdiv (2 ^ min p IntKind.u8.bits)).tmod 2 == 1
abbrev segT (w : Int) (p j : Nat) : List Bool := (List.range j).map fun x => bitT w (p + x)
attribute [local irreducible] Pure Bor Iter check takN earlD endQ checkQ bitT
end Go.Ev.Ytijidghjiaiccaa


set_option linter.unusedVariables false
set_option linter.unusedSimpArgs false
set_option maxRecDepth 100000
namespace Go.Ev.Ytijidghjiaiccaa
theorem sg_from (t : Nat) : ∀ H, sg (fun h => if t ≤ h then 1 else 0) H = H - t
 | 0 => by rw [sg]; omega
 | H + 1 => by
  rw [sg, sg_from t H]
  split <;> omega
theorem one_ge {n t : Nat} {may : Nat → Nat → Nat → Bool} {hrs : Nat → Nat} {H : Nat} (hm : ∀ r m h, may r m h = true → t ≤ h) (f : Feas ⟨1, n, may⟩ hrs H) : sg hrs n ≤ H - t := by
 obtain ⟨c, v, hc⟩ := f
 have e1 : sg hrs n = sg (fun r => sg (fun h => sg (fun m => at1 c h m r) 4) H) n := sg_congr fun r hr => (hc r hr).symm
 rw [e1, sg_comm (fun r h => sg (fun m => at1 c h m r) 4) H n, ← sg_from t H]
 refine sg_le fun h hh => ?_
 have hv : ∀ m r, m < 4 → at1 c h m r ≠ 0 → m = 0 ∧ t ≤ h := fun m r hm4 hne => by
  have e := at1_ne hne
  rcases v.ok h hh m hm4 with e2 | ⟨r', e2, _, e3, e4⟩
  ·rw [e] at e2; omega
  ·have e3 : m < 1 := e3
   exact ⟨by omega, hm _ _ _ e4⟩
 split
 ·refine sg_one (fun r => ?_) fun r r' _ _ h1 h2 => ?_
  ·refine sg_one (fun m => at1_le c h m r) fun m m' hm4 hm4' h1 h2 => ?_
   have := (hv m r hm4 h1).1
   have := (hv m' r hm4' h2).1
   omega
  ·obtain ⟨m, hm4, hne⟩ := sg_pos h1
   obtain ⟨m', hm4', hne'⟩ := sg_pos h2
   have q1 := (hv m r hm4 hne).1
   have q2 := (hv m' r' hm4' hne').1
   have e1 := at1_ne hne
   have e2 := at1_ne hne'
   rw [q1] at e1
   rw [q2] at e2
   rw [e1] at e2
   omega
 ·rename_i hlt
  refine Nat.le_of_eq (sg_eq_zero fun r _ => sg_eq_zero fun m hm4 => Classical.byContradiction fun hne => hlt (hv m r hm4 hne).2)
theorem nodup_idx {l : List Nat} (h : l.Nodup) {i j x : Nat} (hi : l[i]? = some x) (hj : l[j]? = some x) : i = j := by
 obtain ⟨h1, e1⟩ := List.getElem?_eq_some_iff.1 hi
 obtain ⟨h2, e2⟩ := List.getElem?_eq_some_iff.1 hj
 have hp := List.pairwise_iff_getElem.1 h
 rcases Nat.lt_trichotomy i j with hlt | heq | hgt
 ·exact absurd (e1.trans e2.symm) (hp i j h1 h2 hlt)
 ·exact heq
 ·exact absurd (e2.trans e1.symm) (hp j i h2 h1 hgt)
theorem one_feas {n t : Nat} {may : Nat → Nat → Nat → Bool} {C : Nat → Bool} (hm : ∀ r h, r < n → t ≤ h → may r 0 h = true) {hrs : Nat → Nat} (hh : ∀ r, r < n → hrs r = if C r = true then 1 else 0) :
  Feas ⟨1, n, may⟩ hrs (t + ((List.range n).filter C).length) := by
 obtain ⟨R, hR⟩ : ∃ R, R = (List.range n).filter C := ⟨_, rfl⟩
 rw [← hR]
 have hRn : ∀ r, r ∈ R ↔ r < n ∧ C r = true := fun r => by rw [hR, List.mem_filter, List.mem_range]
 have hnd : R.Nodup := by rw [hR]; exact List.Pairwise.filter _ List.nodup_range
 obtain ⟨c, hc⟩ : ∃ c : Nat → Nat → Int, c = fun h m => if m = 0 ∧ t ≤ h then (match R[h - t]? with | some r => (r : Int) | none => -1) else -1 := ⟨_, rfl⟩
 have hc0 : ∀ h m, ¬ (m = 0 ∧ t ≤ h) → c h m = -1 := fun h m hn => by rw [hc]; exact if_neg hn
 have hc1 : ∀ h, t ≤ h → ∀ r, R[h - t]? = some r → c h 0 = r := fun h ht r hr => by
  rw [hc]; dsimp only; rw [if_pos ⟨rfl, ht⟩, hr]
 have hc2 : ∀ h, t ≤ h → R[h - t]? = none → c h 0 = -1 := fun h ht hr => by
  rw [hc]; dsimp only; rw [if_pos ⟨rfl, ht⟩, hr]
 have hcase : ∀ h m, c h m = -1 ∨ ∃ r : Nat, c h m = r ∧ m = 0 ∧ t ≤ h ∧ R[h - t]? = some r := fun h m => by
  by_cases hp : m = 0 ∧ t ≤ h
  ·obtain ⟨rfl, ht⟩ := hp
   cases e : R[h - t]? with
   | none => exact .inl (hc2 h ht e)
   | some r => exact .inr ⟨r, hc1 h ht r e, rfl, ht, rfl⟩
  ·exact .inl (hc0 h m hp)
 refine ⟨c, ⟨fun h _ m _ => ?_, fun h _ m m' _ _ e hne => ?_⟩, fun r hr => ?_⟩
 ·rcases hcase h m with e | ⟨r, e1, e2, e3, e4⟩
  ·exact .inl e
  ·have := (hRn r).1 (List.mem_of_getElem? e4)
   exact .inr ⟨r, e1, this.1, by show m < 1; omega, by rw [e2]; exact hm r h this.1 e3⟩
 ·rcases hcase h m with e1 | ⟨r, e1, e2, _⟩
  ·exact e1
  ·rw [e]
   exact hc0 h m' (by omega)
 ·have hr : r < n := hr
  have hat : ∀ h m, at1 c h m r ≠ 0 → m = 0 ∧ t ≤ h ∧ R[h - t]? = some r := fun h m hne => by
   have e := at1_ne hne
   rcases hcase h m with e1 | ⟨r', e1, e2, e3, e4⟩
   ·rw [e] at e1; omega
   ·rw [e] at e1
    have : r' = r := by omega
    subst this
    exact ⟨e2, e3, e4⟩
  rw [hh r hr]
  by_cases hC : C r = true
  ·rw [if_pos hC]
   obtain ⟨j, hj⟩ := List.mem_iff_getElem?.1 ((hRn r).2 ⟨hr, hC⟩)
   have hjl : j < R.length := (List.getElem?_eq_some_iff.1 hj).1
   have hle : cnt c (t + R.length) r ≤ 1 := by
    refine sg_one (fun h => sg_one (fun m => at1_le c h m r) fun m m' _ _ h1 h2 => ?_) fun h h' _ _ h1 h2 => ?_
    ·have := (hat h m h1).1
     have := (hat h m' h2).1
     omega
    ·obtain ⟨m, _, hne⟩ := sg_pos h1
     obtain ⟨m', _, hne'⟩ := sg_pos h2
     obtain ⟨_, q2, q3⟩ := hat h m hne
     obtain ⟨_, q5, q6⟩ := hat h' m' hne'
     have := nodup_idx hnd q3 q6
     omega
   have hge : 1 ≤ cnt c (t + R.length) r := by
    have h1 : at1 c (t + j) 0 r = 1 := by
     unfold at1
     rw [if_pos (hc1 (t + j) (by omega) r (by rw [show t + j - t = j by omega]; exact hj))]
    have h2 : at1 c (t + j) 0 r ≤ sg (fun m => at1 c (t + j) m r) 4 := sg_ge (f := fun m => at1 c (t + j) m r) (by omega)
    have h3 : sg (fun m => at1 c (t + j) m r) 4 ≤ cnt c (t + R.length) r := sg_ge (f := fun h => sg (fun m => at1 c h m r) 4) (by omega)
    omega
   omega
  ·rw [if_neg hC]
   refine sg_eq_zero fun h _ => sg_eq_zero fun m _ => Classical.byContradiction fun hne => ?_
   have := (hRn r).1 (List.mem_of_getElem? (hat h m hne).2.2)
   exact hC this.2
theorem sg_count (C : Nat → Bool) : ∀ n, sg (fun r => if C r = true then 1 else 0) n = ((List.range n).filter C).length
 | 0 => rfl
 | n + 1 => by
  rw [sg, sg_count C n, List.range_succ, List.filter_append, List.length_append]
  congr 1
  rw [List.filter_cons]
  split <;> rfl
def qA (n t : Nat) (C : Nat → Bool) : Que := ⟨[[]], (List.range n).map fun i => ⟨if C i = true then 1 else 0, (t : Int), [true]⟩⟩
theorem qA_may (n t : Nat) (C : Nat → Bool) (r m h : Nat) : mayQ (qA n t C) r m h = (decide (r < n) && decide (m = 0) && decide (t ≤ h)) := by
 unfold mayQ qA
 dsimp only
 by_cases hr : r < n
 ·rw [range_at _ hr]
  cases m with
  | zero =>
   show ((true && decide ((t : Int) ≤ (h : Int))) && !decide (stI h [] ≥ 0)) = _
   have e : decide ((t : Int) ≤ (h : Int)) = decide (t ≤ h) := by congr 1; apply propext; omega
   rw [e, decide_eq_true hr]
   have : (!decide (stI h [] ≥ 0)) = true := rfl
   rw [this]
   simp
  | succ m => simp
 ·rw [List.getElem?_eq_none (by simp; omega), decide_eq_false hr]
  simp
theorem qA_hrs (n t : Nat) (C : Nat → Bool) {r : Nat} (hr : r < n) : ((hrsQ (qA n t C))[r]?).getD 0 = if C r = true then 1 else 0 := by
 unfold hrsQ qA
 rw [List.getElem?_map, range_at _ hr]
 show (if C r = true then (1 : Int) else 0).toNat = _
 split <;> rfl
theorem qA_end {n t : Nat} (C : Nat → Bool) (hn : n ≤ 6) (ht : t ≤ 6) :
  endQ (qA n t C) = some (if ((List.range n).filter C).length = 0 then 0 else t + ((List.range n).filter C).length) := by
 obtain ⟨K, hK⟩ : ∃ K, K = ((List.range n).filter C).length := ⟨_, rfl⟩
 rw [← hK]
 have hKn : K ≤ n := by rw [hK]; have := List.length_filter_le C (List.range n); rwa [List.length_range] at this
 have hl : (hrsQ (qA n t C)).length = n := by unfold qA; simp
 have hge : ∀ H, Feas ⟨1, n, mayQ (qA n t C)⟩ (fun r => ((hrsQ (qA n t C))[r]?).getD 0) H → K ≤ H - t := fun H f => by
  have h1 := one_ge (t := t) (fun r m h hm => by rw [qA_may] at hm; simp at hm; exact hm.2) f
  rwa [sg_congr (g := fun r => if C r = true then 1 else 0) fun r hr => qA_hrs n t C hr, sg_count, ← hK] at h1
 have hfe : Feas ⟨1, n, mayQ (qA n t C)⟩ (fun r => ((hrsQ (qA n t C))[r]?).getD 0) (t + K) := by
  rw [hK]
  exact one_feas (fun r h hr ht => by rw [qA_may, decide_eq_true hr, decide_eq_true ht]; rfl) fun r hr => qA_hrs n t C hr
 have hf0 : K = 0 → Feas ⟨1, n, mayQ (qA n t C)⟩ (fun r => ((hrsQ (qA n t C))[r]?).getD 0) 0 := fun h0 => by
  refine ⟨fun _ _ => -1, ⟨fun h hh => absurd hh (Nat.not_lt_zero _), fun h hh => absurd hh (Nat.not_lt_zero _)⟩, fun r hr => ?_⟩
  show 0 = ((hrsQ (qA n t C))[r]?).getD 0
  rw [qA_hrs n t C hr]
  have hem : (List.range n).filter C = [] := List.eq_nil_of_length_eq_zero (by rw [← hK]; exact h0)
  split
  ·rename_i hC
   have : r ∈ (List.range n).filter C := List.mem_filter.2 ⟨List.mem_range.2 hr, hC⟩
   rw [hem] at this
   cases this
  ·rfl
 unfold endQ
 have e : layL (quQ (qA n t C)) 40 [] (itK (hrsQ (qA n t C)) (qA n t C).rs.length) = earliest 1 (mayQ (qA n t C)) (hrsQ (qA n t C)) := (earliest_lay (qA n t C)).symm
 rw [e]
 rcases earliest_law (nm := 1) (may := mayQ (qA n t C)) (hrs := hrsQ (qA n t C)) (by rw [hl]; exact hn) (by omega) with ⟨P, e1, hP, _, _, hf, hlast⟩ | ⟨_, hno⟩
 ·rw [e1, Option.map_some]
  rw [hl] at hf hlast
  have h1 := hge _ hf
  congr 1
  split
  ·rename_i h0
   rcases hlast with h | h
   ·exact h
   ·exact absurd (feas_more (Nat.zero_le _) (hf0 h0)) h
  ·rename_i h0
   rcases hlast with h | h
   ·omega
   ·by_cases hb : P.length ≤ t + K
    ·omega
    ·exact absurd (feas_more (by omega) hfe) h
 ·rw [hl] at hno
  exact absurd (feas_more (by omega) hfe) hno
theorem qA_check {n t : Nat} (C : Nat → Bool) (hn : n ≤ 6) (ht : t ≤ 6) : checkQ (qA n t C) = 0 := by
 have hl : (qA n t C).rs.length = n := by unfold qA; simp
 have hm : (qA n t C).ms = [[]] := rfl
 have h1 : (qA n t C).rs.all (runB (qA n t C)) = true := by
  rw [List.all_eq_true]
  intro x hx
  obtain ⟨i, _, rfl⟩ := List.mem_map.1 hx
  unfold runB inB
  simp only [Bool.and_eq_true, decide_eq_true_eq, beq_iff_eq]
  refine ⟨⟨?_, by omega, by omega⟩, rfl⟩
  split <;> decide
 unfold checkQ
 rw [if_neg (by rw [hl, hm]; simp; omega), h1, hm, if_neg (by decide)]
theorem qA_D (n t : Nat) (C : Nat → Bool) : quD (qA n t C) = .agg [.seq [[.seq []]], .seq ((List.range n).map fun i => [dI (if C i = true then 1 else 0), dI t, .seq [[dB true]]])] := by
 unfold qA
 show D.agg [.seq [[.seq []]], .seq (((List.range n).map _).map rnD)] = _
 rw [List.map_map]
 rfl
theorem one_qA (n : Nat) : oneQ n = qA n 0 fun _ => true := by
 unfold oneQ qA
 congr 1
 apply List.ext_getElem?
 intro i
 by_cases hi : i < n
 ·rw [range_at _ hi, List.getElem?_replicate, if_pos hi]; rfl
 ·rw [List.getElem?_eq_none (by simp; omega), List.getElem?_eq_none (by simp; omega)]
open Go.Proofs in
theorem earl_one {n : Nat} (hn : n ≤ 6) (h0 : 0 < n) : ∃ rows, Pure Try.prog 8 [oneW n] (.tup [.seq rows, dI n, dI 0]) := by
 have hc : checkQ (oneQ n) = 0 := by rw [one_qA]; exact qA_check _ hn (by omega)
 have he : endQ (oneQ n) = some n := by
  rw [one_qA, qA_end _ hn (by omega)]
  have : (List.range n).filter (fun _ => true) = List.range n := List.filter_eq_self.2 fun _ _ => rfl
  rw [this, List.length_range, if_neg (by omega), Nat.zero_add]
 obtain ⟨rows, hr⟩ := earl_some hc he
 have h := earliest_pure (oneQ n)
 rw [hr] at h
 exact ⟨rows, one_wk h⟩
open Go.Proofs in
theorem earl_rest {n : Nat} (hn : n ≤ 6) (C : Nat → Bool) : ∃ rows, Pure Try.prog 8 [.agg [.seq [[.seq []]], .seq (lfE C n n)]] (.tup [.seq rows, dI ((if ((List.range n).filter C).length = 0 then 0 else n + ((List.range n).filter C).length : Nat) : Nat), dI 0]) := by
 obtain ⟨rows, hr⟩ := earl_some (qA_check C hn hn) (qA_end C hn hn)
 have h := earliest_pure (qA n n C)
 rw [hr, qA_D] at h
 have e : ((List.range n).map fun i => [dI (if C i = true then 1 else 0), dI n, D.seq [[dB true]]]) = lfE C n n := by
  apply List.ext_getElem?
  intro i
  by_cases hi : i < n
  ·rw [range_at _ hi, lfE_at C hi]
   unfold lfR
   congr 3
   cases hc : C i with
   | true => rw [if_pos rfl, if_neg (by simp)]
   | false => rw [if_neg (by simp), if_pos ⟨hi, rfl⟩]
  ·rw [List.getElem?_eq_none (by simp; omega), List.getElem?_eq_none (by rw [lfE_len]; omega)]
 rw [e] at h
 exact ⟨rows, h⟩
end Go.Ev.Ytijidghjiaiccaa


set_option linter.unusedVariables false
set_option linter.unusedSimpArgs false
namespace Go.Ev.Ytijidghjiaiccaa
open Go.Proofs
open P (S3 plD InR InS stD)
theorem map_of {α β : Type} {f : α → β} {q : α → Prop} : ∀ {es : List β}, (∀ el ∈ es, ∃ x, el = f x ∧ q x) → ∃ l : List α, es = l.map f ∧ ∀ x ∈ l, q x
 | [], _ => ⟨[], rfl, fun x hx => by cases hx⟩
 | e :: es, h => by
  obtain ⟨x, rfl, hq⟩ := h e (by simp)
  obtain ⟨l, rfl, hl⟩ := map_of (es := es) fun el he => h el (by simp [he])
  exact ⟨x :: l, rfl, fun y hy => by
   rcases List.mem_cons.1 hy with rfl | hy
   ·exact hq
   ·exact hl y hy⟩
theorem byte_of {n : Int} (h : (Lit.int .u8 n).wf = true) : 0 ≤ n ∧ n ≤ 255 := by
 have h : IntKind.u8.min ≤ n ∧ n ≤ IntKind.u8.max := by simpa [Lit.wf] using h
 have h1 : IntKind.u8.min = 0 := rfl
 have h2 : IntKind.u8.max = 255 := rfl
 omega
theorem okV_u8 {d : D} (h : OkV tb 6 5 d) : ∃ w : Int, d = dU w ∧ 0 ≤ w ∧ w ≤ 255 := by
 obtain ⟨y, ds, hy, hd, rfl⟩ := h
 cases hy
 obtain ⟨i, rfl, hw⟩ := hd
 exact ⟨i, rfl, byte_of hw⟩
theorem okV_us {d : D} (h : OkV tb 6 25 d) : ∃ l : List Int, d = usD l ∧ l.length ≤ 9223372036854775807 ∧ ∀ x ∈ l, 0 ≤ x ∧ x ≤ 255 := by
 obtain ⟨y, ds, hy, hd, rfl⟩ := h
 cases hy
 obtain ⟨es, rfl, hlen, hel⟩ := hd
 obtain ⟨l, rfl, hl⟩ := map_of (f := fun x : Int => [dU x]) (q := fun x => 0 ≤ x ∧ x ≤ 255) (es := es) fun el he => by
  obtain ⟨i, rfl, hw⟩ := hel el he
  exact ⟨i, rfl, byte_of hw⟩
 exact ⟨l, rfl, by simpa [maxLen] using hlen, hl⟩
theorem law_own : ownKnob Try.prog.godebug = none := by kernel_rfl
theorem law_laid : laidOutB Try.prog = true := by kernel_rfl
end Go.Ev.Ytijidghjiaiccaa


set_option linter.unusedVariables false
set_option linter.unusedSimpArgs false
set_option maxRecDepth 100000
namespace Go.Ev.Ytijidghjiaiccaa
open Go.Proofs
def tL (lv : Int) (ls : List Int) (i : Nat) : Int := (IntKind.i64.wrap (ls.getD i 0)).tmod (IntKind.i64.wrap (lv + 1))
def cL (w : Int) (i : Nat) : Bool := (w.fdiv (2 ^ min i IntKind.u16.bits)).tmod 2 == 1
theorem filter_succ (C : Nat → Bool) (k : Nat) : (List.range (k + 1)).filter C = (List.range k).filter C ++ (if C k = true then [k] else []) := by
 rw [List.range_succ, List.filter_append, List.filter_cons]
 rfl
theorem rsS_cut {lv st : Int} {T : Nat → Int} {C : Nat → Bool} {i : Nat} : rsS lv st T C i = 2 ↔ C i = true := by
 unfold rsS resS
 constructor
 ·intro h
  split at h
  ·assumption
  ·split at h <;> omega
 ·intro h
  rw [if_pos h]
attribute [local irreducible] Pure Bor Iter SubC inB lvS rsS lfE tL cL
set_option maxHeartbeats 4000000 in
theorem stopped_pure (b0 b1 : Int) (h0 : 0 ≤ b0 ∧ b0 ≤ 255) (h1 : 0 ≤ b1 ∧ b1 ≤ 255) (ls : List Int) (hll : ls.length ≤ 9223372036854775807) (hls : ∀ x ∈ ls, 0 ≤ x ∧ x ≤ 255) (w : Int) (hw : 0 ≤ w ∧ w ≤ 65535) :
  Pure Try.prog 4 [dU b0, dU b1, usD ls, .v (.int .u16 w)] (dB true) := by
 have hm : ((ls.map fun x => [dU x]).length : Int) = ls.length := by rw [List.length_map]
 refine pure_of pg Try.func4 (by kernel_rfl) ?_
 conv => whnf
 (repeat' (first | (apply kT (by with_reducible first | rfl | assumption); conv => whnf) | (apply kF (by with_reducible first | rfl | assumption); conv => whnf) | (apply kT (by decide); conv => whnf) | (apply kF (by decide); conv => whnf) | (apply kB <;> intro _ <;> conv => whnf) | (refine .inl ⟨_, waits_pure, ?_⟩; conv => whnf) | fail))
 all_goals try rfl
 rename_i hl6 hl0
 have hl6 : ls.length ≤ 6 := by
  rw [decide_eq_false_iff_not, hm] at hl6; omega
 have hl0 : 0 < ls.length := by
  rw [beq_eq_false_iff_ne, hm] at hl0; omega
 obtain ⟨n, hn⟩ : ∃ n, n = ls.length := ⟨_, rfl⟩
 rw [← hn] at hm hl6 hl0
 (refine ⟨by decide, ?_⟩; conv => whnf)
 (repeat' (first | (apply kT (by with_reducible first | rfl | assumption); conv => whnf) | (apply kF (by with_reducible first | rfl | assumption); conv => whnf) | (apply kT (by decide); conv => whnf) | (apply kF (by decide); conv => whnf) | (apply kB <;> intro _ <;> conv => whnf) | fail))
 obtain ⟨lv, hlv⟩ : ∃ lv, lv = IntKind.i64.wrap (1 + (IntKind.i64.wrap b0).tmod 8) := ⟨_, rfl⟩
 have wb0 : IntKind.i64.wrap b0 = b0 := wrapI (by omega) (by omega)
 have wb1 : IntKind.i64.wrap b1 = b1 := wrapI (by omega) (by omega)
 have hlv1 : 1 ≤ lv ∧ lv ≤ 8 := by
  have q1 := Int.tmod_nonneg 8 h0.1
  have q2 := Int.tmod_lt_of_pos b0 (b := 8) (by omega)
  rw [hlv, wb0, wrapI (by omega) (by omega)]
  omega
 refine ⟨[.own 10 3, .own 11 4, .own 12 57, .own 13 54], [1, 2, 3, 9, 10, 11, 12, 13, 14], [0, 1, 2, 3], 4, fun m s => ∃ k : Nat, k + m = n ∧ s = ⟨[(1, .d (dU b1)), (2, .d (usD ls)), (3, .d (.v (.int .u16 w))), (9, .d (dI lv)), (10, .own 0), (11, .own 1), (12, .own 2), (13, .own 3), (14, .d (dI k))],
  [(0, .arr 3 (((List.range k).map (tL lv ls)).map fun x => [dI x])), (1, .arr 4 ((List.range k).map fun i => [dB (cL w i)])), (2, .arr 57 (lssD ((List.range k).filter (cL w)))), (3, .arr 54 (onePl k))], 4⟩, ?_, ?_⟩
 ·conv => whnf
  exact ⟨n, 0, by omega, by rw [hlv]; rfl⟩
 ·rintro m _ ⟨k, hk, rfl⟩
  clear hlv
  by_cases hkn : k < n
  ·have g1 : decide ((k : Int) < ((ls.map fun x => [dU x]).length : Int)) = true := decide_eq_true (by rw [hm]; omega)
   have w1k : IntKind.i64.wrap ((k : Int) + 1) = ((k + 1 : Nat) : Int) := by rw [wrapI (by omega) (by omega)]; rfl
   have hg : (ls.map fun x => [dU x])[k]? = some [dU (ls.getD k 0)] := by
    rw [List.getElem?_map, List.getElem?_eq_getElem (by omega), List.getD_eq_getElem?_getD, List.getElem?_eq_getElem (by omega)]; rfl
   have wu : IntKind.u64.wrap (k : Int) = (k : Int) := (show ∀ z : Nat, z ≤ 6 → IntKind.u64.wrap ((z : Nat) : Int) = (z : Int) by decide) k (by omega)
   have wlv : IntKind.i64.wrap (lv + 1) = lv + 1 := wrapI (by omega) (by omega)
   have hbit : ((w.fdiv (2 ^ min (IntKind.u64.wrap (k : Int)).toNat IntKind.u16.bits)).tmod 2 == 1) = cL w k := by unfold cL; rw [wu, Int.toNat_natCast]
   have htl : (IntKind.i64.wrap (ls.getD k 0)).tmod (IntKind.i64.wrap (lv + 1)) = tL lv ls k := by unfold tL; rfl
   have hr1 : ((((List.range k).map (tL lv ls)).map fun x => [dI x]).length + 1) * 8 ≤ 140737488355328 := by simp; omega
   have hr2 : (((List.range k).map fun i => [dB (cL w i)]).length + 1) * 1 ≤ 140737488355328 := by simp; omega
   have hr3 : ((onePl k).length + 1) * 24 ≤ 140737488355328 := by simp; omega
   have hr4 : ((lssD ((List.range k).filter (cL w))).length + 1) * 16 ≤ 140737488355328 := by
    have := List.length_filter_le (cL w) (List.range k)
    rw [List.length_range] at this
    rw [List.length_map]; omega
   have hs1 := map_range_succ (tL lv ls) k
   have hs2 := map_range_succ (fun i => [dB (cL w i)]) k
   have hs3 : onePl (k + 1) = onePl k ++ [[isD [(k : Int)]]] := map_range_succ _ k
   have hs4 : lssD ((List.range (k + 1)).filter (cL w)) = lssD ((List.range k).filter (cL w)) ++ (if cL w k = true then [lsC k] else []) := by
    rw [filter_succ]
    show List.map lsC (_ ++ _) = _
    rw [List.map_append]
    split <;> rfl
   cases hc : cL w k with
   | true =>
    rw [hc] at hbit hs2 hs4
    conv => whnf
    (repeat' (first | (apply kT (by with_reducible first | rfl | assumption); conv => whnf) | (apply kF (by with_reducible first | rfl | assumption); conv => whnf) | (apply kT (by decide); conv => whnf) | (apply kF (by decide); conv => whnf) | (apply kB <;> intro _ <;> conv => whnf) | fail))
    (refine ⟨by rw [wu]; omega, ?_⟩; conv => whnf)
    (refine ⟨by decide, ?_⟩; conv => whnf)
    (repeat' (first | (apply kT (by with_reducible first | rfl | assumption); conv => whnf) | (apply kF (by with_reducible first | rfl | assumption); conv => whnf) | (apply kT (by decide); conv => whnf) | (apply kF (by decide); conv => whnf) | (apply kB <;> intro _ <;> conv => whnf) | fail))
    (refine ⟨k, _, rfl, hg, rfl, ?_⟩; conv => whnf)
    (repeat' (first | (apply kT (by with_reducible first | rfl | assumption); conv => whnf) | (apply kF (by with_reducible first | rfl | assumption); conv => whnf) | (apply kT (by decide); conv => whnf) | (apply kF (by decide); conv => whnf) | (apply kB <;> intro _ <;> conv => whnf) | fail))
    (refine ⟨by rw [wlv]; omega, ?_⟩; conv => whnf)
    (repeat' (first | (apply kT (by with_reducible first | rfl | assumption); conv => whnf) | (apply kF (by with_reducible first | rfl | assumption); conv => whnf) | (apply kT (by decide); conv => whnf) | (apply kF (by decide); conv => whnf) | (apply kB <;> intro _ <;> conv => whnf) | (refine ChL.l ?_; conv => whnf) | fail))
    (refine ⟨fun el h => by rw [List.mem_singleton.1 h]; rfl, hr1, ?_⟩; conv => whnf)
    (repeat' (first | (apply kT (by with_reducible first | rfl | assumption); conv => whnf) | (apply kF (by with_reducible first | rfl | assumption); conv => whnf) | (apply kT (by decide); conv => whnf) | (apply kF (by decide); conv => whnf) | (apply kB <;> intro _ <;> conv => whnf) | (refine ChL.l ?_; conv => whnf) | fail))
    (refine ⟨fun el h => by rw [List.mem_singleton.1 h]; rfl, hr2, ?_⟩; conv => whnf)
    (repeat' (first | (apply kT (by with_reducible first | rfl | assumption); conv => whnf) | (apply kF (by with_reducible first | rfl | assumption); conv => whnf) | (apply kT (by decide); conv => whnf) | (apply kF (by decide); conv => whnf) | (apply kB <;> intro _ <;> conv => whnf) | (refine ChL.l ?_; conv => whnf) | fail))
    (refine ⟨fun el h => by rw [List.mem_singleton.1 h]; rfl, hr3, ?_⟩; conv => whnf)
    (repeat' (first | (apply kT (by with_reducible first | rfl | assumption); conv => whnf) | (apply kF (by with_reducible first | rfl | assumption); conv => whnf) | (apply kT (by decide); conv => whnf) | (apply kF (by decide); conv => whnf) | (apply kB <;> intro _ <;> conv => whnf) | (refine ChL.l ?_; conv => whnf) | fail))
    (refine ⟨fun el h => by rw [List.mem_singleton.1 h]; rfl, hr4, ?_⟩; conv => whnf)
    (repeat' (first | (apply kT (by with_reducible first | rfl | assumption); conv => whnf) | (apply kF (by with_reducible first | rfl | assumption); conv => whnf) | (apply kT (by decide); conv => whnf) | (apply kF (by decide); conv => whnf) | (apply kB <;> intro _ <;> conv => whnf) | fail))
    refine ⟨m - 1, by omega, k + 1, by omega, ?_⟩
    rw [w1k, hbit, htl, hs1, hs2, hs3, hs4, List.map_append, if_pos rfl]
    rfl
   | false =>
    rw [hc] at hbit hs2 hs4
    conv => whnf
    (repeat' (first | (apply kT (by with_reducible first | rfl | assumption); conv => whnf) | (apply kF (by with_reducible first | rfl | assumption); conv => whnf) | (apply kT (by decide); conv => whnf) | (apply kF (by decide); conv => whnf) | (apply kB <;> intro _ <;> conv => whnf) | fail))
    (refine ⟨by rw [wu]; omega, ?_⟩; conv => whnf)
    (refine ⟨by decide, ?_⟩; conv => whnf)
    (repeat' (first | (apply kT (by with_reducible first | rfl | assumption); conv => whnf) | (apply kF (by with_reducible first | rfl | assumption); conv => whnf) | (apply kT (by decide); conv => whnf) | (apply kF (by decide); conv => whnf) | (apply kB <;> intro _ <;> conv => whnf) | fail))
    (refine ⟨k, _, rfl, hg, rfl, ?_⟩; conv => whnf)
    (repeat' (first | (apply kT (by with_reducible first | rfl | assumption); conv => whnf) | (apply kF (by with_reducible first | rfl | assumption); conv => whnf) | (apply kT (by decide); conv => whnf) | (apply kF (by decide); conv => whnf) | (apply kB <;> intro _ <;> conv => whnf) | fail))
    (refine ⟨by rw [wlv]; omega, ?_⟩; conv => whnf)
    (repeat' (first | (apply kT (by with_reducible first | rfl | assumption); conv => whnf) | (apply kF (by with_reducible first | rfl | assumption); conv => whnf) | (apply kT (by decide); conv => whnf) | (apply kF (by decide); conv => whnf) | (apply kB <;> intro _ <;> conv => whnf) | (refine ChL.l ?_; conv => whnf) | fail))
    (refine ⟨fun el h => by rw [List.mem_singleton.1 h]; rfl, hr1, ?_⟩; conv => whnf)
    (repeat' (first | (apply kT (by with_reducible first | rfl | assumption); conv => whnf) | (apply kF (by with_reducible first | rfl | assumption); conv => whnf) | (apply kT (by decide); conv => whnf) | (apply kF (by decide); conv => whnf) | (apply kB <;> intro _ <;> conv => whnf) | (refine ChL.l ?_; conv => whnf) | fail))
    (refine ⟨fun el h => by rw [List.mem_singleton.1 h]; rfl, hr2, ?_⟩; conv => whnf)
    (repeat' (first | (apply kT (by with_reducible first | rfl | assumption); conv => whnf) | (apply kF (by with_reducible first | rfl | assumption); conv => whnf) | (apply kT (by decide); conv => whnf) | (apply kF (by decide); conv => whnf) | (apply kB <;> intro _ <;> conv => whnf) | (refine ChL.l ?_; conv => whnf) | fail))
    (refine ⟨fun el h => by rw [List.mem_singleton.1 h]; rfl, hr3, ?_⟩; conv => whnf)
    (repeat' (first | (apply kT (by with_reducible first | rfl | assumption); conv => whnf) | (apply kF (by with_reducible first | rfl | assumption); conv => whnf) | (apply kT (by decide); conv => whnf) | (apply kF (by decide); conv => whnf) | (apply kB <;> intro _ <;> conv => whnf) | (refine ChL.l ?_; conv => whnf) | fail))
    refine ⟨m - 1, by omega, k + 1, by omega, ?_⟩
    rw [w1k, hbit, htl, hs1, hs2, hs3, hs4, List.map_append, if_neg (by simp), List.append_nil]
    rfl
  ·have g1 : decide ((k : Int) < ((ls.map fun x => [dU x]).length : Int)) = false := decide_eq_false (by rw [hm]; omega)
   have ek : k = n := by omega
   subst ek
   obtain ⟨C, hCe⟩ : ∃ C, C = cL w := ⟨_, rfl⟩
   obtain ⟨T, hTe⟩ : ∃ T, T = tL lv ls := ⟨_, rfl⟩
   have hT : ∀ i, i < k → 0 ≤ T i ∧ T i ≤ lv := fun i hi => by
    have hx := hls _ (List.getElem_mem (show i < ls.length by omega))
    rw [hTe]
    unfold tL
    rw [List.getD_eq_getElem?_getD, List.getElem?_eq_getElem (by omega), Option.getD_some, wrapI (by omega) (by omega), wrapI (n := lv + 1) (by omega) (by omega)]
    have q1 := Int.tmod_nonneg (lv + 1) hx.1
    have q2 := Int.tmod_lt_of_pos (ls[i]'(by omega)) (b := lv + 1) (by omega)
    omega
   rw [← hCe, ← hTe]
   clear hTe
   obtain ⟨st, hst⟩ : ∃ st, st = (IntKind.i64.wrap b1).tmod lv := ⟨_, rfl⟩
   have hst1 : 0 ≤ st ∧ st < lv := by
    have q1 := Int.tmod_nonneg lv h1.1
    have q2 := Int.tmod_lt_of_pos b1 (b := lv) (by omega)
    rw [hst, wb1]
    omega
   obtain ⟨L, hL⟩ : ∃ L, L = (List.range k).filter C := ⟨_, rfl⟩
   have hLl : L.length ≤ k := by rw [hL]; have := List.length_filter_le C (List.range k); rwa [List.length_range] at this
   have hLn : ∀ x ∈ L, x < k := fun x hx => by rw [hL] at hx; exact List.mem_range.1 (List.mem_filter.1 hx).1
   have hLC : ∀ h, h < k → (!L.all fun x => x != h) = C h := fun h hh => by
    rw [Bool.eq_iff_iff, Bool.not_eq_true', List.all_eq_false]
    constructor
    ·rintro ⟨x, hx, hne⟩
     have : x = h := by simpa using hne
     subst this
     rw [hL] at hx
     exact (List.mem_filter.1 hx).2
    ·intro hC
     exact ⟨h, by rw [hL]; exact List.mem_filter.2 ⟨List.mem_range.2 hh, hC⟩, by simp⟩
   have c11 := shake_pure hlv1 hst1 T C hl6 hT
   rw [hst] at c11
   have c12 := one_pure hl0 hl6
   rw [← hm] at c12
   obtain ⟨rows1, c8⟩ := earl_one hl6 hl0
   have c13 := rest_pure hl0 hl6 C L (by omega) hLn hLC
   rw [← hm] at c13
   obtain ⟨rows2, c8b⟩ := earl_rest hl6 C
   rw [← hL] at c8b
   have c14 := histories_pure hlv1 hst1 T C hl6
   have f1 : (((k : Nat) : Int) != ((ls.map fun x => [dU x]).length : Int)) = false := by rw [hm]; simp
   have f2 : (((rowsS lv ((IntKind.i64.wrap b1).tmod lv) T C k).length : Int) != ((ls.map fun x => [dU x]).length : Int)) = false := by rw [hm]; simp
   have f3 : (((lfE C k k).length : Int) != ((ls.map fun x => [dU x]).length : Int)) = false := by rw [hm, lfE_len]; simp
   have hrl : ((rowsS lv ((IntKind.i64.wrap b1).tmod lv) T C k).length : Int) = k := by simp
   rw [← hL]
   conv => whnf
   (repeat' (first | (apply kT (by with_reducible first | rfl | assumption); conv => whnf) | (apply kF (by with_reducible first | rfl | assumption); conv => whnf) | (apply kT (by decide); conv => whnf) | (apply kF (by decide); conv => whnf) | (apply kB <;> intro _ <;> conv => whnf) | fail))
   (refine ⟨by omega, ?_⟩; conv => whnf)
   (repeat' (first | (apply kT (by with_reducible first | rfl | assumption); conv => whnf) | (apply kF (by with_reducible first | rfl | assumption); conv => whnf) | (apply kT (by decide); conv => whnf) | (apply kF (by decide); conv => whnf) | (apply kB <;> intro _ <;> conv => whnf) | (refine .inl ⟨_, c11, ?_⟩; conv => whnf) | (refine ChC.r ?_; conv => whnf) | (refine .inl ⟨_, c12, ?_⟩; conv => whnf) | (refine .inl ⟨_, c8, ?_⟩; conv => whnf) | (refine .inl ⟨_, c13, ?_⟩; conv => whnf) | fail))
   rw [hst] at c14
   have hll : ((lssD L).length : Int) = L.length := by simp
   refine ⟨[], [1, 2, 9, 11, 12, 16, 21, 23], [4], 5, fun m s => ∃ i : Nat, i + m = k ∧ s = ⟨[(1, .d (dU b1)), (2, .d (usD ls)), (9, .d (dI lv)), (11, .d (csD C k)), (12, .d (.seq (lssD L))), (16, .d (.seq (rowsS lv ((IntKind.i64.wrap b1).tmod lv) T C k))), (21, .ref 4 0), (23, .d (dI i))],
    [(4, .var false 37 [.d (.seq [[.seq []]]), .d (.seq (lfE C k k))])], 5⟩, ?_, ?_⟩
   ·conv => whnf
    exact ⟨k, 0, by omega, rfl⟩
   ·rintro m _ ⟨i, hi, rfl⟩
    by_cases hik : i < k
    ·have g2 : decide ((i : Int) < ((rowsS lv ((IntKind.i64.wrap b1).tmod lv) T C k).length : Int)) = true := decide_eq_true (by rw [hrl]; omega)
     have w1i : IntKind.i64.wrap ((i : Int) + 1) = ((i + 1 : Nat) : Int) := by rw [wrapI (by omega) (by omega)]; rfl
     have hg1 : (rowsS lv ((IntKind.i64.wrap b1).tmod lv) T C k)[i]? = some (rwS lv ((IntKind.i64.wrap b1).tmod lv) T C i) := range_at _ hik
     have hg2 : ((List.range k).map fun i => [dB (C i)])[i]? = some [dB (C i)] := range_at _ hik
     have hg3 : (lfE C k k)[i]? = some (lfR C k k i) := lfE_at C hik
     unfold lfR at hg3
     have hcut := rsS_cut (lv := lv) (st := (IntKind.i64.wrap b1).tmod lv) (T := T) (C := C) (i := i)
     cases hc : C i with
     | true =>
      rw [hc] at hg2
      rw [if_neg (by rw [hc]; simp)] at hg3
      have g3 : (((rsS lv ((IntKind.i64.wrap b1).tmod lv) T C i : Nat) : Int) == 2) = true := by rw [hcut.2 hc]; rfl
      conv => whnf
      (repeat' (first | (apply kT (by with_reducible first | rfl | assumption); conv => whnf) | (apply kF (by with_reducible first | rfl | assumption); conv => whnf) | (apply kT (by decide); conv => whnf) | (apply kF (by decide); conv => whnf) | (apply kB <;> intro _ <;> conv => whnf) | fail))
      (refine ⟨i, _, rfl, hg1, rfl, ?_⟩; conv => whnf)
      (repeat' (first | (apply kT (by with_reducible first | rfl | assumption); conv => whnf) | (apply kF (by with_reducible first | rfl | assumption); conv => whnf) | (apply kT (by decide); conv => whnf) | (apply kF (by decide); conv => whnf) | (apply kB <;> intro _ <;> conv => whnf) | fail))
      (refine ⟨i, _, rfl, hg2, rfl, ?_⟩; conv => whnf)
      (repeat' (first | (apply kT (by with_reducible first | rfl | assumption); conv => whnf) | (apply kF (by with_reducible first | rfl | assumption); conv => whnf) | (apply kT (by decide); conv => whnf) | (apply kF (by decide); conv => whnf) | (apply kB <;> intro _ <;> conv => whnf) | fail))
      (refine ⟨i, _, rfl, hg3, rfl, ?_⟩; conv => whnf)
      (repeat' (first | (apply kT (by with_reducible first | rfl | assumption); conv => whnf) | (apply kF (by with_reducible first | rfl | assumption); conv => whnf) | (apply kT (by decide); conv => whnf) | (apply kF (by decide); conv => whnf) | (apply kB <;> intro _ <;> conv => whnf) | fail))
      refine ⟨m - 1, by omega, i + 1, by omega, ?_⟩
      rw [w1i]
     | false =>
      rw [hc] at hg2
      rw [if_pos ⟨hik, hc⟩] at hg3
      have g3 : (((rsS lv ((IntKind.i64.wrap b1).tmod lv) T C i : Nat) : Int) == 2) = false := beq_eq_false_iff_ne.2 fun h => by
       have h : rsS lv ((IntKind.i64.wrap b1).tmod lv) T C i = 2 := by omega
       rw [hcut.1 h] at hc
       cases hc
      conv => whnf
      (repeat' (first | (apply kT (by with_reducible first | rfl | assumption); conv => whnf) | (apply kF (by with_reducible first | rfl | assumption); conv => whnf) | (apply kT (by decide); conv => whnf) | (apply kF (by decide); conv => whnf) | (apply kB <;> intro _ <;> conv => whnf) | fail))
      (refine ⟨i, _, rfl, hg1, rfl, ?_⟩; conv => whnf)
      (repeat' (first | (apply kT (by with_reducible first | rfl | assumption); conv => whnf) | (apply kF (by with_reducible first | rfl | assumption); conv => whnf) | (apply kT (by decide); conv => whnf) | (apply kF (by decide); conv => whnf) | (apply kB <;> intro _ <;> conv => whnf) | fail))
      (refine ⟨i, _, rfl, hg2, rfl, ?_⟩; conv => whnf)
      (repeat' (first | (apply kT (by with_reducible first | rfl | assumption); conv => whnf) | (apply kF (by with_reducible first | rfl | assumption); conv => whnf) | (apply kT (by decide); conv => whnf) | (apply kF (by decide); conv => whnf) | (apply kB <;> intro _ <;> conv => whnf) | fail))
      (refine ⟨i, _, rfl, hg3, rfl, ?_⟩; conv => whnf)
      (repeat' (first | (apply kT (by with_reducible first | rfl | assumption); conv => whnf) | (apply kF (by with_reducible first | rfl | assumption); conv => whnf) | (apply kT (by decide); conv => whnf) | (apply kF (by decide); conv => whnf) | (apply kB <;> intro _ <;> conv => whnf) | fail))
      refine ⟨m - 1, by omega, i + 1, by omega, ?_⟩
      rw [w1i]
    ·have g2 : decide ((i : Int) < ((rowsS lv ((IntKind.i64.wrap b1).tmod lv) T C k).length : Int)) = false := decide_eq_false (by rw [hrl]; omega)
     have hlv0 : lv ≠ 0 := by omega
     by_cases hz : L.length = 0
     ·have g3 : decide (((lssD L).length : Int) > 0) = false := decide_eq_false (by rw [hll]; omega)
      rw [if_pos hz] at c8b
      conv => whnf
      (repeat' (first | (apply kT (by with_reducible first | rfl | assumption); conv => whnf) | (apply kF (by with_reducible first | rfl | assumption); conv => whnf) | (apply kT (by decide); conv => whnf) | (apply kF (by decide); conv => whnf) | (apply kB <;> intro _ <;> conv => whnf) | (refine .inl ⟨_, c8b, ?_⟩; conv => whnf) | fail))
      (refine ⟨hlv0, ?_⟩; conv => whnf)
      (repeat' (first | (apply kT (by with_reducible first | rfl | assumption); conv => whnf) | (apply kF (by with_reducible first | rfl | assumption); conv => whnf) | (apply kT (by decide); conv => whnf) | (apply kF (by decide); conv => whnf) | (apply kB <;> intro _ <;> conv => whnf) | (refine .inl ⟨_, c14, ?_⟩; conv => whnf) | (refine .inl ⟨_, waits_pure, ?_⟩; conv => whnf) | fail))
      rfl
     ·have g3 : decide (((lssD L).length : Int) > 0) = true := decide_eq_true (by rw [hll]; omega)
      rw [if_neg hz] at c8b
      have g4 : (((k + L.length : Nat) : Int) == IntKind.i64.wrap (((ls.map fun x => [dU x]).length : Int) + ((lssD L).length : Int))) = true := by
       rw [hm, hll, wrapI (by omega) (by omega)]
       exact beq_iff_eq.2 (by omega)
      conv => whnf
      (repeat' (first | (apply kT (by with_reducible first | rfl | assumption); conv => whnf) | (apply kF (by with_reducible first | rfl | assumption); conv => whnf) | (apply kT (by decide); conv => whnf) | (apply kF (by decide); conv => whnf) | (apply kB <;> intro _ <;> conv => whnf) | (refine .inl ⟨_, c8b, ?_⟩; conv => whnf) | fail))
      (refine ⟨hlv0, ?_⟩; conv => whnf)
      (repeat' (first | (apply kT (by with_reducible first | rfl | assumption); conv => whnf) | (apply kF (by with_reducible first | rfl | assumption); conv => whnf) | (apply kT (by decide); conv => whnf) | (apply kF (by decide); conv => whnf) | (apply kB <;> intro _ <;> conv => whnf) | (refine .inl ⟨_, c14, ?_⟩; conv => whnf) | (refine .inl ⟨_, waits_pure, ?_⟩; conv => whnf) | fail))
      rfl
end Go.Ev.Ytijidghjiaiccaa

