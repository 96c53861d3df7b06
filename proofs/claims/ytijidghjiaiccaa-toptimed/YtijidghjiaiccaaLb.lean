/-
  Contracts of functions, and plain laws, that lead to the statement. Written by an agent.
-/
import Derived.Test.YtijidghjiaiccaaRows
import Derived.Test.YtijidghjiaiccaaLa
set_option linter.unusedVariables false
set_option linter.unusedSimpArgs false
set_option linter.unusedVariables false
set_option linter.unusedSimpArgs false
set_option maxRecDepth 100000
namespace Go.Ev.Ytijidghjiaiccaa.P
open Go.Proofs
theorem within_pure (n lo hi : Int) : Pure Try.prog 49 [dI n, dI lo, dI hi] (dB (decide (lo ≤ n) && decide (n ≤ hi))) := by
 refine pure_of pg Try.func49 (by kernel_rfl) ?_
 ((conv => whnf); repeat (first | (refine ChL.l ?_; (conv => whnf)) | (refine ChC.r ?_; (conv => whnf))))
 repeat' (first | (apply kT (by assumption); ((conv => whnf); repeat (first | (refine ChL.l ?_; (conv => whnf)) | (refine ChC.r ?_; (conv => whnf))))) | (apply kF (by assumption); ((conv => whnf); repeat (first | (refine ChL.l ?_; (conv => whnf)) | (refine ChC.r ?_; (conv => whnf))))) | (apply kB <;> intro h <;> ((conv => whnf); repeat (first | (refine ChL.l ?_; (conv => whnf)) | (refine ChC.r ?_; (conv => whnf))))))
 all_goals (rw [h]; rfl)
def says (a r bad : Int) : Int := if bad ≤ a then 1 else if r ≤ bad then 2 else 3
theorem says_pure (t a r bad : Int) : Pure Try.prog 20 [.agg [dI t, dI a, dI r], dI bad] (dU (says a r bad)) := by
 refine pure_of pg Try.func20 (by kernel_rfl) ?_
 ((conv => whnf); repeat (first | (refine ChL.l ?_; (conv => whnf)) | (refine ChC.r ?_; (conv => whnf))))
 repeat' (first | (apply kT (by assumption); ((conv => whnf); repeat (first | (refine ChL.l ?_; (conv => whnf)) | (refine ChC.r ?_; (conv => whnf))))) | (apply kF (by assumption); ((conv => whnf); repeat (first | (refine ChL.l ?_; (conv => whnf)) | (refine ChC.r ?_; (conv => whnf))))) | (apply kB <;> intro h <;> ((conv => whnf); repeat (first | (refine ChL.l ?_; (conv => whnf)) | (refine ChC.r ?_; (conv => whnf))))))
 all_goals (simp only [decide_eq_true_eq, decide_eq_false_iff_not, ge_iff_le] at *; simp [oneD, says, *])
theorem takes_pure (t a r : Int) : Pure Try.prog 51 [.agg [dI t, dI a, dI r]] (dB (decide (1 ≤ t))) := by
 refine pure_of pg Try.func51 (by kernel_rfl) ?_
 ((conv => whnf); repeat (first | (refine ChL.l ?_; (conv => whnf)) | (refine ChC.r ?_; (conv => whnf))))
 rfl
abbrev rightO : Ob := .var false 114 [.d (.fn (.func 51) [] [])]
theorem all1_bor (t a r : Int) : Bor tb Try.prog 79 [.d (.agg [dI t, dI a, dI r]), .ref 0 0] [rightO] 1 (.d (dB (!decide (1 ≤ t)))) [(0, rightO)] := by
 refine bor_of pg Try.func79 (by kernel_rfl) ?_
 ((conv => whnf); repeat (first | (refine ChL.l ?_; (conv => whnf)) | (refine ChC.r ?_; (conv => whnf))))
 refine .inl ⟨_, takes_pure t a r, ?_⟩
 ((conv => whnf); repeat (first | (refine ChL.l ?_; (conv => whnf)) | (refine ChC.r ?_; (conv => whnf))))
 refine ⟨[], [0], ?_⟩
 ((conv => whnf); repeat (first | (refine ChL.l ?_; (conv => whnf)) | (refine ChC.r ?_; (conv => whnf))))
 exact ⟨rfl, rfl⟩
def stD (x : Int × Int × Int) : List D := [dI x.1, dI x.2.1, dI x.2.2]
theorem indexFunc_bor (l : List (Int × Int × Int)) (hl : l.length < 2 ^ 63) : Bor tb Try.prog 94 [.d (.seq (l.map stD)), .fn (.func 79) [] [.ref 0 0]] [rightO] 1 (.d (dI (match l.findIdx? (fun x => !decide (1 ≤ x.1)) with | some i => (i : Int) | none => -1))) [(0, rightO)] := by
 refine bor_of pg Try.func94 (by kernel_rfl) ?_
 ((conv => whnf); repeat (first | (refine ChL.l ?_; (conv => whnf)) | (refine ChC.r ?_; (conv => whnf))))
 refine ⟨[], [0, 1, 7, 8], [0], 1, fun m s => ∃ k : Nat, k + m = l.length ∧ (∀ i (h : i < k) (h' : i < l.length), decide (1 ≤ (l[i]).1) = true) ∧ s = ⟨[(0, .d (.seq (l.map stD))), (1, .fn (.func 79) [] [.ref 0 0]), (7, .d (dI l.length)), (8, .d (dI k))], [(0, rightO)], 1⟩, ?_, ?_⟩
 ·((conv => whnf); repeat (first | (refine ChL.l ?_; (conv => whnf)) | (refine ChC.r ?_; (conv => whnf))))
  exact ⟨l.length, 0, by simp, by simp, by simp⟩
 ·rintro m _ ⟨k, hk, hall, rfl⟩
  ((conv => whnf); repeat (first | (refine ChL.l ?_; (conv => whnf)) | (refine ChC.r ?_; (conv => whnf))))
  apply kB <;> intro h <;> ((conv => whnf); repeat (first | (refine ChL.l ?_; (conv => whnf)) | (refine ChC.r ?_; (conv => whnf))))
  ·have hlt : k < l.length := by simpa using h
   refine ⟨k, stD l[k], rfl, by simp [hlt], rfl, ?_⟩
   ((conv => whnf); repeat (first | (refine ChL.l ?_; (conv => whnf)) | (refine ChC.r ?_; (conv => whnf))))
   refine .inr ⟨[0], 1, _, _, all1_bor l[k].1 l[k].2.1 l[k].2.2, ?_⟩
   ((conv => whnf); repeat (first | (refine ChL.l ?_; (conv => whnf)) | (refine ChC.r ?_; (conv => whnf))))
   apply kB <;> intro h1 <;> ((conv => whnf); repeat (first | (refine ChL.l ?_; (conv => whnf)) | (refine ChC.r ?_; (conv => whnf))))
   ·refine ⟨[], [0], ?_⟩
    ((conv => whnf); repeat (first | (refine ChL.l ?_; (conv => whnf)) | (refine ChC.r ?_; (conv => whnf))))
    refine ⟨?_, rfl⟩
    have hf : l.findIdx? (fun x => !decide (1 ≤ x.1)) = some k := by
     rw [List.findIdx?_eq_some_iff_getElem]
     exact ⟨hlt, h1, fun j hj => by simp [hall j hj (by omega)]⟩
    rw [hf]
    rfl
   ·have e1 : IntKind.i64.wrap ((k : Int) + 1) = ((k + 1 : Nat) : Int) := by rw [wrapI (by omega) (by omega)]; rfl
    refine ⟨m - 1, by omega, k + 1, by omega, fun i hi hi' => ?_, ?_⟩
    ·rcases Nat.lt_or_ge i k with h2 | h2
     ·exact hall i h2 hi'
     ·have : i = k := by omega
      subst this
      simpa using h1
    ·simp [e1, dI]
  ·have hge : l.length ≤ k := by simpa using h
   refine ⟨[], [0], ?_⟩
   ((conv => whnf); repeat (first | (refine ChL.l ?_; (conv => whnf)) | (refine ChC.r ?_; (conv => whnf))))
   refine ⟨?_, rfl⟩
   have hf : l.findIdx? (fun x => !decide (1 ≤ x.1)) = none := by
    rw [List.findIdx?_eq_none_iff]
    intro x hx
    obtain ⟨i, hi, rfl⟩ := List.mem_iff_getElem.1 hx
    simp [hall i (by omega) hi]
   rw [hf]
   rfl
theorem contains_bor (l : List (Int × Int × Int)) (hl : l.length < 2 ^ 63) : Bor tb Try.prog 78 [.d (.seq (l.map stD)), .fn (.func 79) [] [.ref 0 0]] [rightO] 1 (.d (dB (!l.all fun x => decide (1 ≤ x.1)))) [(0, rightO)] := by
 refine bor_of pg Try.func78 (by kernel_rfl) ?_
 ((conv => whnf); repeat (first | (refine ChL.l ?_; (conv => whnf)) | (refine ChC.r ?_; (conv => whnf))))
 refine .inr ⟨[0], 1, _, _, indexFunc_bor l hl, ?_⟩
 ((conv => whnf); repeat (first | (refine ChL.l ?_; (conv => whnf)) | (refine ChC.r ?_; (conv => whnf))))
 refine ⟨[], [0], ?_⟩
 ((conv => whnf); repeat (first | (refine ChL.l ?_; (conv => whnf)) | (refine ChC.r ?_; (conv => whnf))))
 refine ⟨?_, rfl⟩
 show A.d (dB (decide ((match l.findIdx? (fun x => !decide (1 ≤ x.1)) with | some i => (i : Int) | none => -1) ≥ 0))) = _
 congr 1
 cases h : l.findIdx? (fun x => !decide (1 ≤ x.1)) with
 | none =>
  rw [List.findIdx?_eq_none_iff] at h
  have : (l.all fun x => decide (1 ≤ x.1)) = true := by
   rw [List.all_eq_true]
   intro x hx
   simpa using h x hx
  simp [this]
 | some i =>
  rw [List.findIdx?_eq_some_iff_getElem] at h
  obtain ⟨h1, h2, _⟩ := h
  have : (l.all fun x => decide (1 ≤ x.1)) = false := by
   rw [Bool.eq_false_iff]
   intro h3
   have := List.all_eq_true.1 h3 _ (List.getElem_mem h1)
   rw [this] at h2
   cases h2
  rw [this]
  have : (i : Int) ≥ 0 := by omega
  simp [this]
theorem all_pure (l : List (Int × Int × Int)) (hl : l.length < 2 ^ 63) : Pure Try.prog 50 [.seq (l.map stD), .fn (.func 51) [] []] (dB (l.all fun x => decide (1 ≤ x.1))) := by
 refine pure_of pg Try.func50 (by kernel_rfl) ?_
 ((conv => whnf); repeat (first | (refine ChL.l ?_; (conv => whnf)) | (refine ChC.r ?_; (conv => whnf))))
 refine .inr ⟨[0], 1, _, _, contains_bor l hl, ?_⟩
 ((conv => whnf); repeat (first | (refine ChL.l ?_; (conv => whnf)) | (refine ChC.r ?_; (conv => whnf))))
 simp [oneD]
attribute [local irreducible] Pure Bor Iter
abbrev S3 := Int × Int × Int
abbrev wI (n : Int) : Int := IntKind.i64.wrap n
def chk (lot : Int) : List S3 → Int → S3 → Int
 | [], _, last => if last.2.2 ≠ wI (last.2.1 + 1) then 1 else 0
 | s :: r, taken, last => if s.1 > wI (lot - taken) then 1 else
   if s.2.1 < last.2.1 ∨ s.2.2 < last.2.2 ∨ ¬ (wI (s.2.1 + 1) ≤ s.2.2 ∧ s.2.2 ≤ wI (wI (taken + s.1) + 1)) then 1 else chk lot r (wI (taken + s.1)) s
def check (lot : Int) (l : List S3) : Int :=
 if (l.length : Int) > 3 then 3 else if ¬ (1 ≤ lot ∧ lot ≤ 30) ∨ l.length = 0 ∨ ¬ (∀ x ∈ l, 1 ≤ x.1) then 1 else chk lot l 0 (0, -1, 0)
abbrev plD (lot : Int) (l : List S3) : D := .agg [dI lot, .seq (l.map stD)]
theorem getD? (l : List S3) (k : Nat) (h : k < l.length) : (l.map stD)[k]? = some (stD l[k]) := by simp [h]
theorem check_pure (lot : Int) (l : List S3) (hl : l.length < 2 ^ 63) : Pure Try.prog 19 [plD lot l] (dI (check lot l)) := by
 refine pure_of pg Try.func19 (by kernel_rfl) ?_
 ((conv => whnf); repeat (first | (refine ChL.l ?_; (conv => whnf)) | (refine ChC.r ?_; (conv => whnf))))
 have hall := all_pure l hl
 repeat' (first | (first | (apply kT (by with_reducible first | rfl | assumption); ((conv => whnf); repeat (first | (refine ChL.l ?_; (conv => whnf)) | (refine ChC.r ?_; (conv => whnf))))) | (apply kF (by with_reducible first | rfl | assumption); ((conv => whnf); repeat (first | (refine ChL.l ?_; (conv => whnf)) | (refine ChC.r ?_; (conv => whnf))))) | (apply kB <;> intro _ <;> ((conv => whnf); repeat (first | (refine ChL.l ?_; (conv => whnf)) | (refine ChC.r ?_; (conv => whnf))))) | (refine .inl ⟨_, within_pure .., ?_⟩; ((conv => whnf); repeat (first | (refine ChL.l ?_; (conv => whnf)) | (refine ChC.r ?_; (conv => whnf)))))) | (refine .inl ⟨_, hall, ?_⟩; ((conv => whnf); repeat (first | (refine ChL.l ?_; (conv => whnf)) | (refine ChC.r ?_; (conv => whnf))))))
 case y.y.y.y =>
  (simp only [decide_eq_true_eq, decide_eq_false_iff_not, Bool.not_eq_true', Bool.not_eq_false', Bool.and_eq_true, Bool.and_eq_false_iff, Bool.or_eq_true, Bool.or_eq_false_iff, gt_iff_lt, ge_iff_le, bne_iff_ne, beq_iff_eq, ne_eq, beq_eq_false_iff_ne, bne_eq_false_iff_eq] at *)
  rename_i h3 h2 h1 h
  have e0 : check lot l = chk lot l 0 (0, -1, 0) := by
   unfold check
   rw [if_neg (by simpa using h3), if_neg]
   rintro (h' | h' | h')
   ·exact h' h2
   ·simp [h'] at h1
   ·exact h' (by simpa using h)
  refine ⟨[], [1, 3, 4, 31, 32, 33], [0, 1], 2, fun m s => ∃ (k : Nat) (taken : Int) (last : S3), k + m = l.length ∧ chk lot (l.drop k) taken last = chk lot l 0 (0, -1, 0) ∧
   s = ⟨[(1, .ref 0 0), (3, .d (dI taken)), (4, .ref 1 0), (31, .d (.seq (l.map stD))), (32, .d (dI l.length)), (33, .d (dI k))], [(0, .var false 50 [.d (dI lot), .d (.seq (l.map stD))]), (1, .var false 72 [.d (dI last.1), .d (dI last.2.1), .d (dI last.2.2)])], 2⟩, ?_, ?_⟩
  ·((conv => whnf); repeat (first | (refine ChL.l ?_; (conv => whnf)) | (refine ChC.r ?_; (conv => whnf))))
   exact ⟨l.length, 0, 0, (0, -1, 0), by simp, rfl, by simp⟩
  ·rintro m _ ⟨k, taken, last, hk, hc, rfl⟩
   ((conv => whnf); repeat (first | (refine ChL.l ?_; (conv => whnf)) | (refine ChC.r ?_; (conv => whnf))))
   apply kB <;> intro h <;> ((conv => whnf); repeat (first | (refine ChL.l ?_; (conv => whnf)) | (refine ChC.r ?_; (conv => whnf))))
   ·have hlt : k < l.length := by simpa using h
    have hd : l.drop k = l[k] :: l.drop (k + 1) := (List.getElem_cons_drop ..).symm
    rw [hd] at hc
    have hq := getD? l k hlt
    generalize l[k] = q at hc hq
    have e1 : IntKind.i64.wrap ((k : Int) + 1) = ((k + 1 : Nat) : Int) := by rw [wrapI (by omega) (by omega)]; rfl
    refine ⟨k, stD q, rfl, hq, rfl, ?_⟩
    ((conv => whnf); repeat (first | (refine ChL.l ?_; (conv => whnf)) | (refine ChC.r ?_; (conv => whnf))))
    (repeat' (first | (apply kT (by with_reducible first | rfl | assumption); ((conv => whnf); repeat (first | (refine ChL.l ?_; (conv => whnf)) | (refine ChC.r ?_; (conv => whnf))))) | (apply kF (by with_reducible first | rfl | assumption); ((conv => whnf); repeat (first | (refine ChL.l ?_; (conv => whnf)) | (refine ChC.r ?_; (conv => whnf))))) | (apply kB <;> intro _ <;> ((conv => whnf); repeat (first | (refine ChL.l ?_; (conv => whnf)) | (refine ChC.r ?_; (conv => whnf))))) | (refine .inl ⟨_, within_pure .., ?_⟩; ((conv => whnf); repeat (first | (refine ChL.l ?_; (conv => whnf)) | (refine ChC.r ?_; (conv => whnf)))))))
    all_goals clear hd
    all_goals (simp only [decide_eq_true_eq, decide_eq_false_iff_not, Bool.not_eq_true', Bool.not_eq_false', Bool.and_eq_true, Bool.and_eq_false_iff, Bool.or_eq_true, Bool.or_eq_false_iff, gt_iff_lt, ge_iff_le, bne_iff_ne, beq_iff_eq, ne_eq, beq_eq_false_iff_ne, bne_eq_false_iff_eq] at *)
    case x => rw [e0, ← hc]; simp [chk, *]; rfl
    case y.x => rw [e0, ← hc]; simp [chk, *]; rfl
    case y.y.x => rw [e0, ← hc]; simp [chk, *]; rfl
    case y.y.y.x =>
     rename_i h
     have : ¬ (wI (q.2.1 + 1) ≤ q.2.2 ∧ q.2.2 ≤ wI (wI (taken + q.1) + 1)) := by
      rintro ⟨h1, h2⟩
      simp [h1, h2] at h
     rw [e0, ← hc]; simp [chk, *]; rfl
    case y.y.y.y =>
     rename_i h4 h3 h2 h1
     refine ⟨m - 1, by omega, k + 1, wI (taken + q.1), q, by omega, ?_, ?_⟩
     ·rw [← hc]
      simp [chk, h1, h2, h3, h4]
     ·simp [e1]
   ·have hge : l.length ≤ k := by simpa using h
    rw [List.drop_of_length_le hge] at hc
    apply kB <;> intro h <;> ((conv => whnf); repeat (first | (refine ChL.l ?_; (conv => whnf)) | (refine ChC.r ?_; (conv => whnf))))
    all_goals (simp only [decide_eq_true_eq, decide_eq_false_iff_not, Bool.not_eq_true', Bool.not_eq_false', Bool.and_eq_true, Bool.and_eq_false_iff, Bool.or_eq_true, Bool.or_eq_false_iff, gt_iff_lt, ge_iff_le, bne_iff_ne, beq_iff_eq, ne_eq, beq_eq_false_iff_ne, bne_eq_false_iff_eq] at *)
    all_goals (rw [e0, ← hc]; simp [chk, h]; rfl)
 all_goals (simp only [decide_eq_true_eq, decide_eq_false_iff_not, Bool.not_eq_true', Bool.not_eq_false', Bool.and_eq_true, Bool.and_eq_false_iff, Bool.or_eq_true, Bool.or_eq_false_iff, gt_iff_lt, ge_iff_le, bne_iff_ne, beq_iff_eq, ne_eq, beq_eq_false_iff_ne, bne_eq_false_iff_eq] at *)
 case x => rename_i h; simp at h; simp [check, h]; rfl
 case y.x =>
  rename_i h1 h2
  simp at h1
  have : ¬ (1 ≤ lot ∧ lot ≤ 30) := by omega
  simp [check, Int.not_lt.2 h1, this]; rfl
 case y.y.x =>
  rename_i h1 h2 h3
  simp at h1 h3
  subst h3
  simp [check]; rfl
 case y.y.y.x =>
  rename_i h1 h2 h3 h4
  simp at h1 h3
  have : ¬ ∀ x ∈ l, 1 ≤ x.1 := by
   intro h5
   rw [List.all_eq_true.2 (fun x hx => by simpa using h5 x hx)] at h4
   cases h4
  unfold check
  rw [if_neg (by simpa using h1), if_pos (.inr (.inr this))]; rfl
end Go.Ev.Ytijidghjiaiccaa.P


set_option linter.unusedVariables false
set_option linter.unusedSimpArgs false
set_option maxRecDepth 100000
namespace Go.Ev.Ytijidghjiaiccaa.P
open Go.Proofs
attribute [local irreducible] Pure Bor Iter
def Fit (lot : Nat) : Nat → List S3 → Prop
 | _, [] => True
 | taken, s :: r => ∃ t : Nat, s.1 = t ∧ 1 ≤ t ∧ taken + t ≤ lot ∧ Fit lot (taken + t) r
def Ends : List S3 → Prop
 | [] => False
 | [s] => s.2.2 = s.2.1 + 1
 | _ :: s :: r => Ends (s :: r)
def InR (n : Int) : Prop := -9223372036854775808 ≤ n ∧ n < 9223372036854775808
def InS (s : S3) : Prop := InR s.1 ∧ InR s.2.1 ∧ InR s.2.2
theorem wI_max {n : Int} (h : InR n) : wI (n + 1) = n + 1 ∨ (wI (n + 1) = -9223372036854775808 ∧ n = 9223372036854775807) := by
 by_cases h1 : n = 9223372036854775807
 ·right; subst h1; exact ⟨by decide, rfl⟩
 ·left
  obtain ⟨h2, h3⟩ := h
  exact wrapI (by omega) (by omega)
theorem chk_fit (lot : Nat) (hlot : lot ≤ 30) : ∀ (r : List S3) (taken : Nat) (last : S3), taken ≤ lot → (∀ x ∈ r, 1 ≤ x.1) → (∀ x ∈ r, InS x) → 0 ≤ last.2.2 → InR last.2.1 → chk lot r taken last = 0 → Fit lot taken r ∧ Ends (last :: r)
 | [], taken, last, _, _, _, h0, hi, h => by
  refine ⟨trivial, ?_⟩
  show last.2.2 = last.2.1 + 1
  unfold chk at h
  split at h
  ·cases h
  ·rename_i h1
   have h1 : last.2.2 = wI (last.2.1 + 1) := Classical.not_not.1 h1
   rcases wI_max hi with h2 | ⟨h2, _⟩
   ·rw [h1, h2]
   ·omega
 | s :: r, taken, last, ht, h1, h2, h0, hi, h => by
  unfold chk at h
  split at h
  ·cases h
  ·rename_i h3
   split at h
   ·cases h
   ·rename_i h4
    have hs := h1 s (by simp)
    have hw : wI ((lot : Int) - taken) = (lot : Int) - taken := wrapI (by omega) (by omega)
    rw [hw] at h3
    have hw2 : wI ((taken : Int) + s.1) = (taken : Int) + s.1 := wrapI (by omega) (by omega)
    rw [hw2] at h
    obtain ⟨t, hst⟩ : ∃ t : Nat, s.1 = t := ⟨s.1.toNat, by omega⟩
    rw [hst, show (taken : Int) + (t : Int) = ((taken + t : Nat) : Int) by omega] at h
    have h5 : 0 ≤ s.2.2 := by omega
    obtain ⟨q1, q2⟩ := chk_fit lot hlot r (taken + t) s (by omega) (fun x hx => h1 x (by simp [hx])) (fun x hx => h2 x (by simp [hx])) h5 (h2 s (by simp)).2.1 h
    exact ⟨⟨t, hst, by omega, by omega, q1⟩, q2⟩
theorem check_good {lot : Int} {l : List S3} (hr : ∀ x ∈ l, InS x) (h : check lot l = 0) : ∃ n : Nat, lot = n ∧ 1 ≤ n ∧ n ≤ 30 ∧ l.length ≤ 3 ∧ Fit n 0 l ∧ Ends l := by
 unfold check at h
 split at h
 ·cases h
 ·rename_i h1
  split at h
  ·cases h
  ·rename_i h2
   have h3 : 1 ≤ lot ∧ lot ≤ 30 := Classical.not_not.1 fun hn => h2 (.inl hn)
   have h4 : l.length ≠ 0 := fun hn => h2 (.inr (.inl hn))
   have h5 : ∀ x ∈ l, 1 ≤ x.1 := Classical.not_not.1 fun hn => h2 (.inr (.inr hn))
   obtain ⟨n, rfl⟩ : ∃ n : Nat, lot = n := ⟨lot.toNat, by omega⟩
   obtain ⟨q1, q2⟩ := chk_fit n (by omega) l 0 (0, -1, 0) (Nat.zero_le _) h5 hr (by simp) (by simp [InR]) h
   refine ⟨n, rfl, by omega, by omega, by omega, q1, ?_⟩
   cases l with
   | nil => simp at h4
   | cons s r => exact q2
attribute [local irreducible] check
abbrev bsD (l : List Bool) : D := .seq (l.map fun b => [dB b])
def badN (l : List Bool) : Nat := l.countP id
def playN (res : List Bool) : List S3 → Nat → Nat → Int → Int × Int × Int
 | [], taken, bad, v => if taken < res.length then (0, 0, 2) else (v, 0, 0)
 | s :: r, taken, bad, v =>
  if res.length < taken + s.1.toNat then (3, ((taken + s.1.toNat - res.length : Nat) : Int), 0)
  else if says s.2.1 s.2.2 ((bad + badN ((res.take (taken + s.1.toNat)).drop taken) : Nat) : Int) ≠ 3 then
   (if taken + s.1.toNat < res.length then (0, 0, 2) else (says s.2.1 s.2.2 ((bad + badN ((res.take (taken + s.1.toNat)).drop taken) : Nat) : Int), 0, 0))
  else playN res r (taken + s.1.toNat) (bad + badN ((res.take (taken + s.1.toNat)).drop taken)) 3
def playI (lot : Int) (l : List S3) (res : List Bool) : Int × Int × Int := if check lot l ≠ 0 then (0, 0, check lot l) else playN res l 0 0 0
set_option maxHeartbeats 2000000 in
theorem play_pure (lot : Int) (l : List S3) (hl : l.length < 2 ^ 63) (hr : ∀ x ∈ l, InS x) (res : List Bool) (hres : res.length < 2 ^ 62) :
  Pure Try.prog 9 [plD lot l, bsD res] (.tup [dU (playI lot l res).1, dI (playI lot l res).2.1, dI (playI lot l res).2.2]) := by
 refine pure_of pg Try.func9 (by kernel_rfl) ?_
 ((conv => whnf); repeat (first | (refine ChL.l ?_; (conv => whnf)) | (refine ChC.r ?_; (conv => whnf))))
 refine .inl ⟨_, check_pure lot l hl, ?_⟩
 ((conv => whnf); repeat (first | (refine ChL.l ?_; (conv => whnf)) | (refine ChC.r ?_; (conv => whnf))))
 apply kB <;> intro h <;> ((conv => whnf); repeat (first | (refine ChL.l ?_; (conv => whnf)) | (refine ChC.r ?_; (conv => whnf))))
 ·have hc : check lot l ≠ 0 := by simpa using h
  unfold playI
  rw [if_pos hc]
  rfl
 ·have hc : check lot l = 0 := by simpa using h
  have hp : playI lot l res = playN res l 0 0 0 := by unfold playI; rw [if_neg (by simp [hc])]
  rw [hp]
  obtain ⟨n, rfl, hn1, hn2, hl3, hf, he⟩ := check_good hr hc
  refine ⟨[], [1, 4, 8, 9, 20, 21, 22], [], 1, fun m s => ∃ (k taken bad : Nat) (v : Int), k + m = l.length ∧ taken ≤ n ∧ bad ≤ taken ∧ Fit n taken (l.drop k) ∧ playN res (l.drop k) taken bad v = playN res l 0 0 0 ∧
   s = ⟨[(1, .d (bsD res)), (4, .d (dU v)), (8, .d (dI taken)), (9, .d (dI bad)), (20, .d (.seq (l.map stD))), (21, .d (dI l.length)), (22, .d (dI k))], [], 1⟩, ?_, ?_⟩
  ·((conv => whnf); repeat (first | (refine ChL.l ?_; (conv => whnf)) | (refine ChC.r ?_; (conv => whnf))))
   exact ⟨l.length, 0, 0, 0, 0, by simp, by omega, by omega, hf, rfl, by simp⟩
  ·rintro m _ ⟨k, taken, bad, v, hk, ht, hb, hf', hpl, rfl⟩
   ((conv => whnf); repeat (first | (refine ChL.l ?_; (conv => whnf)) | (refine ChC.r ?_; (conv => whnf))))
   apply kB <;> intro h <;> ((conv => whnf); repeat (first | (refine ChL.l ?_; (conv => whnf)) | (refine ChC.r ?_; (conv => whnf))))
   ·have hlt : k < l.length := by simpa using h
    have hd : l.drop k = l[k] :: l.drop (k + 1) := (List.getElem_cons_drop ..).symm
    have hq := getD? l k hlt
    rw [hd] at hf' hpl
    generalize l[k] = q at hf' hpl hq
    obtain ⟨t, ht0, ht1, ht2, hf2⟩ := hf'
    have e1 : IntKind.i64.wrap ((k : Int) + 1) = ((k + 1 : Nat) : Int) := by rw [wrapI (by omega) (by omega)]; rfl
    have e2 : IntKind.i64.wrap ((taken : Int) + q.1) = ((taken + t : Nat) : Int) := by rw [ht0, wrapI (by omega) (by omega)]; rfl
    refine ⟨k, stD q, rfl, hq, rfl, ?_⟩
    ((conv => whnf); repeat (first | (refine ChL.l ?_; (conv => whnf)) | (refine ChC.r ?_; (conv => whnf))))
    apply kB <;> intro h <;> ((conv => whnf); repeat (first | (refine ChL.l ?_; (conv => whnf)) | (refine ChC.r ?_; (conv => whnf))))
    ·have hlen : res.length < taken + t := by
      rw [decide_eq_true_eq, e2, List.length_map] at h; omega
     rw [e2] at h
     rw [← hpl, playN, ht0, Int.toNat_natCast, if_pos hlen]
     have e3 : IntKind.i64.wrap (IntKind.i64.wrap ((taken : Int) + (t : Int)) - ((List.map (fun b => [dB b]) res).length : Int)) = ((taken + t - res.length : Nat) : Int) := by
      rw [← ht0, e2, List.length_map, wrapI (by omega) (by omega)]; omega
     rw [e3]
     rfl
    ·have hlen : taken + t ≤ res.length := by
      rw [decide_eq_false_iff_not, e2, List.length_map] at h; omega
     refine ⟨taken, rfl, ?_⟩
     ((conv => whnf); repeat (first | (refine ChL.l ?_; (conv => whnf)) | (refine ChC.r ?_; (conv => whnf))))
     refine ⟨taken + t, e2, by omega, by rw [List.length_map]; exact hlen, by intro el he; obtain ⟨b, _, rfl⟩ := List.mem_map.1 he; rfl, ?_⟩
     ((conv => whnf); repeat (first | (refine ChL.l ?_; (conv => whnf)) | (refine ChC.r ?_; (conv => whnf))))
     obtain ⟨seg, hseg⟩ : ∃ seg, seg = (res.take (taken + t)).drop taken := ⟨_, rfl⟩
     have hsm : ((res.map fun b => [dB b]).take (taken + t)).drop taken = seg.map fun b => [dB b] := by rw [hseg, List.map_drop, List.map_take]
     have hsl : seg.length = t := by rw [hseg, List.length_drop, List.length_take]; omega
     rw [hsm]
     refine ⟨[], [1, 4, 8, 9, 11, 20, 21, 22, 46, 47, 48], [1], 2, fun m s => ∃ j : Nat, j + m = t ∧
      s = ⟨[(1, .d (bsD res)), (4, .d (dU v)), (8, .d (dI taken)), (9, .d (dI ((bad + badN (seg.take j) : Nat) : Int))), (11, .ref 1 0), (20, .d (.seq (l.map stD))), (21, .d (dI l.length)), (22, .d (dI k)), (46, .d (bsD seg)), (47, .d (dI t)), (48, .d (dI j))], [(1, .var false 72 [.d (dI q.1), .d (dI q.2.1), .d (dI q.2.2)])], 2⟩, ?_, ?_⟩
     ·((conv => whnf); repeat (first | (refine ChL.l ?_; (conv => whnf)) | (refine ChC.r ?_; (conv => whnf))))
      exact ⟨t, 0, by omega, by simp [badN, hsl]⟩
     ·rintro m' _ ⟨j, hj, rfl⟩
      ((conv => whnf); repeat (first | (refine ChL.l ?_; (conv => whnf)) | (refine ChC.r ?_; (conv => whnf))))
      (apply kB <;> intro h <;> ((conv => whnf); repeat (first | (refine ChL.l ?_; (conv => whnf)) | (refine ChC.r ?_; (conv => whnf)))))
      ·have hjt : j < seg.length := by rw [decide_eq_true_eq] at h; omega
       have hw : IntKind.i64.wrap ((j : Int) + 1) = ((j + 1 : Nat) : Int) := by rw [wrapI (by omega) (by omega)]; rfl
       have hbl : badN (seg.take j) ≤ j := by
        unfold badN; exact Nat.le_trans List.countP_le_length (by simp; omega)
       have hbs : badN (seg.take (j + 1)) = badN (seg.take j) + if seg[j] then 1 else 0 := by
        unfold badN; rw [List.take_succ_eq_append_getElem hjt, List.countP_append, List.countP_singleton]; rfl
       (refine ⟨j, [dB seg[j]], rfl, by simp [hjt], rfl, ?_⟩; ((conv => whnf); repeat (first | (refine ChL.l ?_; (conv => whnf)) | (refine ChC.r ?_; (conv => whnf)))))
       (apply kB <;> intro h' <;> ((conv => whnf); repeat (first | (refine ChL.l ?_; (conv => whnf)) | (refine ChC.r ?_; (conv => whnf)))))
       ·rw [h', if_pos rfl] at hbs
        have hv : IntKind.i64.wrap (((bad + badN (seg.take j) : Nat) : Int) + 1) = ((bad + badN (seg.take (j + 1)) : Nat) : Int) := by
         rw [hbs, wrapI (by omega) (by omega)]; omega
        refine ⟨m' - 1, by omega, j + 1, by omega, ?_⟩
        rw [hv, hw]
       ·rw [h', if_neg (by simp)] at hbs
        refine ⟨m' - 1, by omega, j + 1, by omega, ?_⟩
        rw [hbs, hw]; rfl
      ·have hjt : j = t := by rw [decide_eq_false_iff_not] at h; omega
       have hst : seg.take j = seg := List.take_of_length_le (by omega)
       rw [hst, e2]
       refine .inl ⟨_, says_pure .., ?_⟩
       ((conv => whnf); repeat (first | (refine ChL.l ?_; (conv => whnf)) | (refine ChC.r ?_; (conv => whnf))))
       have hpl' := hpl
       rw [playN, ht0, Int.toNat_natCast, if_neg (by omega), ← hseg] at hpl'
       (apply kB <;> intro h' <;> ((conv => whnf); repeat (first | (refine ChL.l ?_; (conv => whnf)) | (refine ChC.r ?_; (conv => whnf)))))
       ·rw [if_pos (by simpa using h')] at hpl'
        (apply kB <;> intro h2 <;> ((conv => whnf); repeat (first | (refine ChL.l ?_; (conv => whnf)) | (refine ChC.r ?_; (conv => whnf)))))
        ·rw [decide_eq_true_eq, List.length_map] at h2
         rw [if_pos (by omega)] at hpl'
         rw [← hpl']
         rfl
        ·rw [decide_eq_false_iff_not, List.length_map] at h2
         rw [if_neg (by omega)] at hpl'
         rw [← hpl']
         rfl
       ·have h3 : says q.2.1 q.2.2 ((bad + badN seg : Nat) : Int) = 3 := by simpa using h'
        rw [if_neg (fun hh => hh h3)] at hpl'
        refine ⟨m - 1, by omega, k + 1, taken + t, bad + badN seg, 3, by omega, by omega, ?_, hf2, hpl', ?_⟩
        ·have : badN seg ≤ seg.length := List.countP_le_length
         omega
        ·rw [h3, e1]
   ·have hkl : k = l.length := by rw [decide_eq_false_iff_not] at h; omega
    rw [hkl, List.drop_length, playN] at hpl
    (apply kB <;> intro h2 <;> ((conv => whnf); repeat (first | (refine ChL.l ?_; (conv => whnf)) | (refine ChC.r ?_; (conv => whnf)))))
    ·rw [decide_eq_true_eq, List.length_map] at h2
     rw [if_pos (by omega)] at hpl
     rw [← hpl]
     rfl
    ·rw [decide_eq_false_iff_not, List.length_map] at h2
     rw [if_neg (by omega)] at hpl
     rw [← hpl]
     rfl
end Go.Ev.Ytijidghjiaiccaa.P


set_option linter.unusedVariables false
set_option linter.unusedSimpArgs false
set_option maxRecDepth 100000
namespace Go.Ev.Ytijidghjiaiccaa.P
open Go.Proofs
attribute [local irreducible] Pure Bor Iter
abbrev inB (n lo hi : Int) : Bool := decide (lo ≤ n) && decide (n ≤ hi)
theorem in_pure (n lo hi : Int) : Pure Try.prog 15 [dI n, dI lo, dI hi] (dB (inB n lo hi)) := by
 refine pure_of pg Try.func15 (by kernel_rfl) ?_
 ((conv => whnf); repeat (first | (refine ChL.l ?_; (conv => whnf)) | (refine ChC.r ?_; (conv => whnf))))
 (repeat' (first | (apply kT (by with_reducible first | rfl | assumption); ((conv => whnf); repeat (first | (refine ChL.l ?_; (conv => whnf)) | (refine ChC.r ?_; (conv => whnf))))) | (apply kF (by with_reducible first | rfl | assumption); ((conv => whnf); repeat (first | (refine ChL.l ?_; (conv => whnf)) | (refine ChC.r ?_; (conv => whnf))))) | (apply kB <;> intro _ <;> ((conv => whnf); repeat (first | (refine ChL.l ?_; (conv => whnf)) | (refine ChC.r ?_; (conv => whnf))))) | (refine .inl ⟨_, within_pure .., ?_⟩; ((conv => whnf); repeat (first | (refine ChL.l ?_; (conv => whnf)) | (refine ChC.r ?_; (conv => whnf)))))))
 all_goals (rename_i h; unfold inB; simp only [ge_iff_le] at h; rw [h]; rfl)
theorem thin_pure (lot : Int) (l : List S3) : Pure Try.prog 5 [plD lot l] (dB (decide ((l.length : Int) ≤ 5))) := by
 refine pure_of pg Try.func5 (by kernel_rfl) ?_
 ((conv => whnf); repeat (first | (refine ChL.l ?_; (conv => whnf)) | (refine ChC.r ?_; (conv => whnf))))
 rw [List.length_map]
 rfl
theorem plan_pure (lot : Int) (l : List S3) (hl : l.length ≤ 1000) : Pure Try.prog 10 [plD lot l] (plD lot l) := by
 refine pure_of pg Try.func10 (by kernel_rfl) ?_
 ((conv => whnf); repeat (first | (refine ChL.l ?_; (conv => whnf)) | (refine ChC.r ?_; (conv => whnf))))
 refine ⟨[.cown 2 1 72], [1, 2, 3, 4], [0, 1, 2, 3], 4, fun m s => ∃ k : Nat, k + m = l.length ∧
  s = ⟨[(1, .ref 0 0), (2, .ref 1 0), (3, .ref 2 0), (4, .d (dI k))], [(0, .var false 24 [.d (dI lot), .d (.seq (l.map stD))]), (1, .var false 50 [.d (dI 0), .d (.v (.slice none 0 0))]), (2, .var false 50 [.d (dI lot), .own 3]), (3, .arr 72 ((l.take k).map stD))], 4⟩, ?_, ?_⟩
 ·((conv => whnf); repeat (first | (refine ChL.l ?_; (conv => whnf)) | (refine ChC.r ?_; (conv => whnf))))
  exact ⟨l.length, 0, by simp, rfl⟩
 ·rintro m _ ⟨k, hk, rfl⟩
  ((conv => whnf); repeat (first | (refine ChL.l ?_; (conv => whnf)) | (refine ChC.r ?_; (conv => whnf))))
  (apply kB <;> intro h <;> ((conv => whnf); repeat (first | (refine ChL.l ?_; (conv => whnf)) | (refine ChC.r ?_; (conv => whnf)))))
  ·have hlt : k < l.length := by simpa using h
   have e1 : IntKind.i64.wrap ((k : Int) + 1) = ((k + 1 : Nat) : Int) := by rw [wrapI (by omega) (by omega)]; rfl
   have htk : (l.take k).length ≤ k := List.length_take_le _ _
   (refine ⟨k, stD l[k], rfl, getD? l k hlt, rfl, ?_⟩; ((conv => whnf); repeat (first | (refine ChL.l ?_; (conv => whnf)) | (refine ChC.r ?_; (conv => whnf)))))
   (refine ⟨by simp, ?_⟩; ((conv => whnf); repeat (first | (refine ChL.l ?_; (conv => whnf)) | (refine ChC.r ?_; (conv => whnf)))))
   (refine ⟨by rw [List.length_map]; simp only [List.length_singleton]; omega, ?_⟩; ((conv => whnf); repeat (first | (refine ChL.l ?_; (conv => whnf)) | (refine ChC.r ?_; (conv => whnf)))))
   refine ⟨m - 1, by omega, k + 1, by omega, ?_⟩
   rw [e1, List.take_succ_eq_append_getElem hlt, List.map_append]
   rfl
  ·have hge : l.length ≤ k := by simpa using h
   have e : l.take k = l := List.take_of_length_le hge
   rw [e]
   rfl
def fR (lot : Int) : List S3 → Int → Option S3 → Int
 | [], _, _ => 0
 | s :: r, taken, prev =>
  bif !inB s.1 1 30 || decide (wI (taken + s.1) > lot) then 1 else
  bif !inB s.2.1 (-1) 30 || decide (s.2.2 ≤ s.2.1) || decide (s.2.2 > wI (wI (taken + s.1) + 1)) then 1 else
  bif (match prev with | none => false | some q => decide (s.2.1 < q.2.1) || decide (s.2.2 < q.2.2)) then 1 else
  bif r.isEmpty && (s.2.2 != wI (s.2.1 + 1)) then 1 else fR lot r (wI (taken + s.1)) (some s)
def ltP (q : S3) : Option S3 → Bool
 | none => false
 | some p => decide (q.2.1 < p.2.1) || decide (q.2.2 < p.2.2)
theorem fR_cons (lot : Int) (q : S3) (r : List S3) (taken : Int) (prev : Option S3) : fR lot (q :: r) taken prev = bif !inB q.1 1 30 || decide (wI (taken + q.1) > lot) then 1 else
      bif !inB q.2.1 (-1) 30 || decide (q.2.2 ≤ q.2.1) || decide (q.2.2 > wI (wI (taken + q.1) + 1)) then 1 else
      bif ltP q prev then 1 else
      bif r.isEmpty && (q.2.2 != wI (q.2.1 + 1)) then 1 else fR lot r (wI (taken + q.1)) (some q) := by
 cases prev <;> rfl
def faultR (lot : Int) (l : List S3) : Int := bif decide ((l.length : Int) > 3) then 3 else bif !inB lot 1 30 || l.isEmpty then 1 else fR lot l 0 none
theorem fault0_pure (lot : Int) (l : List S3) : Pure Try.prog 6 [plD lot l] (dI (faultR lot l)) := by
 refine pure_of pg Try.func6 (by kernel_rfl) ?_
 ((conv => whnf); repeat (first | (refine ChL.l ?_; (conv => whnf)) | (refine ChC.r ?_; (conv => whnf))))
 have hm : ((List.map stD l).length : Int) = (l.length : Int) := by rw [List.length_map]
 (apply kB <;> intro h3 <;> ((conv => whnf); repeat (first | (refine ChL.l ?_; (conv => whnf)) | (refine ChC.r ?_; (conv => whnf)))))
 ·rw [hm] at h3
  simp only [faultR, h3, cond_true]
  rfl
 ·rw [hm] at h3
  (refine .inl ⟨_, in_pure .., ?_⟩; ((conv => whnf); repeat (first | (refine ChL.l ?_; (conv => whnf)) | (refine ChC.r ?_; (conv => whnf)))))
  (repeat' (first | (apply kT (by with_reducible first | rfl | assumption); ((conv => whnf); repeat (first | (refine ChL.l ?_; (conv => whnf)) | (refine ChC.r ?_; (conv => whnf))))) | (apply kF (by with_reducible first | rfl | assumption); ((conv => whnf); repeat (first | (refine ChL.l ?_; (conv => whnf)) | (refine ChC.r ?_; (conv => whnf))))) | (apply kT (by decide); ((conv => whnf); repeat (first | (refine ChL.l ?_; (conv => whnf)) | (refine ChC.r ?_; (conv => whnf))))) | (apply kF (by decide); ((conv => whnf); repeat (first | (refine ChL.l ?_; (conv => whnf)) | (refine ChC.r ?_; (conv => whnf))))) | (apply kB <;> intro _ <;> ((conv => whnf); repeat (first | (refine ChL.l ?_; (conv => whnf)) | (refine ChC.r ?_; (conv => whnf))))) | fail))
  ·rename_i h
   simp only [faultR, h3, h, cond_false, Bool.true_or, cond_true]
   rfl
  ·rename_i h h'
   have hl : l = [] := by
    rw [hm] at h'
    have : (l.length : Int) = 0 := by simpa using h'
    exact List.length_eq_zero_iff.1 (by omega)
   simp only [faultR, h3, h, hl, cond_false, List.isEmpty_nil, Bool.or_true, cond_true]
   rfl
  ·rename_i h h'
   have hl : l.isEmpty = false := by
    rw [hm] at h'
    cases l with
    | nil => simp at h'
    | cons a l => rfl
   have hlen : l.length ≤ 3 := by
    have : ¬ ((l.length : Int) > 3) := by simpa using h3
    omega
   have hf : faultR lot l = fR lot l 0 none := by simp only [faultR, h3, h, hl, cond_false, Bool.or_false]
   rw [hf]
   clear hf h' h h3
   refine ⟨[], [1, 3, 4], [0], 1, fun m s => ∃ (k : Nat) (taken : Int) (prev : Option S3), k + m = l.length ∧ fR lot (l.drop k) taken prev = fR lot l 0 none ∧
    ((k = 0 ∧ prev = none) ∨ ∃ j q, k = j + 1 ∧ (l.map stD)[j]? = some (stD q) ∧ prev = some q) ∧
    s = ⟨[(1, .ref 0 0), (3, .d (dI taken)), (4, .d (dI k))], [(0, .var false 24 [.d (dI lot), .d (.seq (l.map stD))])], 1⟩, ?_, ?_⟩
   ·((conv => whnf); repeat (first | (refine ChL.l ?_; (conv => whnf)) | (refine ChC.r ?_; (conv => whnf))))
    exact ⟨l.length, 0, 0, none, by omega, rfl, .inl ⟨rfl, rfl⟩, rfl⟩
   ·rintro m _ ⟨k, taken, prev, hk, hc, hprev, rfl⟩
    ((conv => whnf); repeat (first | (refine ChL.l ?_; (conv => whnf)) | (refine ChC.r ?_; (conv => whnf))))
    (apply kB <;> intro h <;> ((conv => whnf); repeat (first | (refine ChL.l ?_; (conv => whnf)) | (refine ChC.r ?_; (conv => whnf)))))
    ·have hlt : k < l.length := by rw [decide_eq_true_eq, hm] at h; omega
     have hd : l.drop k = l[k] :: l.drop (k + 1) := (List.getElem_cons_drop ..).symm
     rw [hd] at hc
     have hq := getD? l k hlt
     generalize l[k] = q at hc hq
     clear hd
     have e1 : IntKind.i64.wrap ((k : Int) + 1) = ((k + 1 : Nat) : Int) := by rw [wrapI (by omega) (by omega)]; rfl
     have hlast : (((k : Nat) : Int) == IntKind.i64.wrap (((List.map stD l).length : Int) - 1)) = (l.drop (k + 1)).isEmpty := by
      rw [hm, wrapI (by omega) (by omega), Bool.eq_iff_iff, beq_iff_eq, List.isEmpty_iff, List.drop_eq_nil_iff]
      omega
     generalize hrd : l.drop (k + 1) = r at hc hlast
     (refine ⟨k, stD q, rfl, hq, rfl, ?_⟩; ((conv => whnf); repeat (first | (refine ChL.l ?_; (conv => whnf)) | (refine ChC.r ?_; (conv => whnf)))))
     rw [fR_cons] at hc
     rcases Bool.eq_false_or_eq_true r.isEmpty with hr | hr <;> rw [hr] at hlast hc <;> rcases hprev with ⟨hk0, hp⟩ | ⟨j, p, hj, hp, hpp⟩
     case inl.inl | inr.inl =>
      have hk0' : decide ((k : Int) > 0) = false := by simp; omega
      rw [hp, ltP] at hc
      (repeat' (first | (apply kT (by with_reducible first | rfl | assumption); ((conv => whnf); repeat (first | (refine ChL.l ?_; (conv => whnf)) | (refine ChC.r ?_; (conv => whnf))))) | (apply kF (by with_reducible first | rfl | assumption); ((conv => whnf); repeat (first | (refine ChL.l ?_; (conv => whnf)) | (refine ChC.r ?_; (conv => whnf))))) | (apply kT (by decide); ((conv => whnf); repeat (first | (refine ChL.l ?_; (conv => whnf)) | (refine ChC.r ?_; (conv => whnf))))) | (apply kF (by decide); ((conv => whnf); repeat (first | (refine ChL.l ?_; (conv => whnf)) | (refine ChC.r ?_; (conv => whnf))))) | (apply kB <;> intro _ <;> ((conv => whnf); repeat (first | (refine ChL.l ?_; (conv => whnf)) | (refine ChC.r ?_; (conv => whnf))))) | (refine .inl ⟨_, in_pure .., ?_⟩; ((conv => whnf); repeat (first | (refine ChL.l ?_; (conv => whnf)) | (refine ChC.r ?_; (conv => whnf))))) | fail))
      all_goals simp only [*, cond_true, cond_false, Bool.or_true, Bool.true_or, Bool.or_false, Bool.false_or, Bool.and_true, Bool.true_and, Bool.and_false, Bool.false_and] at hc
      all_goals first
       | (rw [← hc]; rfl)
       | (refine ⟨m - 1, by omega, k + 1, _, some q, by omega, by rw [hrd]; exact hc, .inr ⟨k, q, rfl, hq, rfl⟩, ?_⟩; rw [e1])
     case inl.inr | inr.inr =>
      have hk0' : decide ((k : Int) > 0) = true := by simp; omega
      have e2 : IntKind.i64.wrap ((k : Int) - 1) = (j : Int) := by rw [wrapI (by omega) (by omega)]; omega
      rw [hpp, ltP] at hc
      (repeat' (first | (apply kT (by with_reducible first | rfl | assumption); ((conv => whnf); repeat (first | (refine ChL.l ?_; (conv => whnf)) | (refine ChC.r ?_; (conv => whnf))))) | (apply kF (by with_reducible first | rfl | assumption); ((conv => whnf); repeat (first | (refine ChL.l ?_; (conv => whnf)) | (refine ChC.r ?_; (conv => whnf))))) | (apply kT (by decide); ((conv => whnf); repeat (first | (refine ChL.l ?_; (conv => whnf)) | (refine ChC.r ?_; (conv => whnf))))) | (apply kF (by decide); ((conv => whnf); repeat (first | (refine ChL.l ?_; (conv => whnf)) | (refine ChC.r ?_; (conv => whnf))))) | (apply kB <;> intro _ <;> ((conv => whnf); repeat (first | (refine ChL.l ?_; (conv => whnf)) | (refine ChC.r ?_; (conv => whnf))))) | (refine .inl ⟨_, in_pure .., ?_⟩; ((conv => whnf); repeat (first | (refine ChL.l ?_; (conv => whnf)) | (refine ChC.r ?_; (conv => whnf))))) | (refine ⟨j, stD p, e2, hp, rfl, ?_⟩; ((conv => whnf); repeat (first | (refine ChL.l ?_; (conv => whnf)) | (refine ChC.r ?_; (conv => whnf))))) | fail))
      all_goals simp only [*, cond_true, cond_false, Bool.or_true, Bool.true_or, Bool.or_false, Bool.false_or, Bool.and_true, Bool.true_and, Bool.and_false, Bool.false_and] at hc
      all_goals first
       | (rw [← hc]; rfl)
       | (refine ⟨m - 1, by omega, k + 1, _, some q, by omega, by rw [hrd]; exact hc, .inr ⟨k, q, rfl, hq, rfl⟩, ?_⟩; rw [e1])
    ·have hkl : l.length ≤ k := by rw [decide_eq_false_iff_not, hm] at h; omega
     rw [List.drop_of_length_le hkl, fR] at hc
     rw [← hc]
     rfl
theorem bif_iff {p : Bool} {q : Prop} [Decidable q] {α : Type} {a b : α} (h : p = true ↔ q) : (bif p then a else b) = if q then a else b := by
 by_cases hq : q
 ·rw [if_pos hq, h.2 hq]; rfl
 ·rw [if_neg hq]
  have : p = false := by
   cases p with
   | false => rfl
   | true => exact absurd (h.1 rfl) hq
  rw [this]; rfl
theorem fR_low {lot : Int} : ∀ {r : List S3} {taken : Int} {prev : Option S3}, (∃ x ∈ r, x.1 < 1) → fR lot r taken prev = 1
 | [], _, _, h => by obtain ⟨x, hx, _⟩ := h; cases hx
 | s :: r, taken, prev, h => by
  rw [fR_cons]
  by_cases h1 : s.1 < 1
  ·have : inB s.1 1 30 = false := by
    simp only [inB, Bool.and_eq_false_iff, decide_eq_false_iff_not]; left; omega
   rw [this]; rfl
  ·have h' : ∃ x ∈ r, x.1 < 1 := by
    obtain ⟨x, hx, hx1⟩ := h
    rcases List.mem_cons.1 hx with rfl | hx
    ·exact absurd hx1 h1
    ·exact ⟨x, hx, hx1⟩
   have hr : r.isEmpty = false := by
    obtain ⟨x, hx, _⟩ := h'
    cases r with
    | nil => cases hx
    | cons a r => rfl
   rw [fR_low h', hr]
   simp only [Bool.false_and, cond_false]
   generalize (!inB s.1 1 30 || decide (wI (taken + s.1) > lot)) = a
   generalize (!inB s.2.1 (-1) 30 || decide (s.2.2 ≤ s.2.1) || decide (s.2.2 > wI (wI (taken + s.1) + 1))) = b
   generalize ltP s prev = c
   cases a <;> cases b <;> cases c <;> rfl
theorem chk_max {lot : Int} : ∀ {r : List S3} {taken : Int} {last : S3}, (∀ x ∈ r, InS x) → last.2.1 = 9223372036854775807 → 0 ≤ last.2.2 → chk lot r taken last = 1
 | [], taken, last, _, h1, h2 => by
  unfold chk
  rw [if_pos]
  rw [h1]
  have : wI (9223372036854775807 + 1) = -9223372036854775808 := by decide
  rw [this]; omega
 | s :: r, taken, last, hi, h1, h2 => by
  unfold chk
  split
  ·rfl
  ·split
   ·rfl
   ·rename_i h3
    have hs := (hi s (by simp)).2.1
    have h4 : s.2.1 = 9223372036854775807 := by
     unfold InR at hs
     omega
    exact chk_max (fun x hx => hi x (by simp [hx])) h4 (by omega)
theorem chk_fR {lot : Nat} (hlot : lot ≤ 30) : ∀ (r : List S3) (taken : Nat) (last : S3) (prev : Option S3), r ≠ [] → taken ≤ lot → (∀ x ∈ r, 1 ≤ x.1) → (∀ x ∈ r, InS x) → ((prev = none ∧ last = (0, -1, 0)) ∨ (prev = some last ∧ -1 ≤ last.2.1 ∧ 0 ≤ last.2.2)) →
  chk lot r taken last = fR lot r taken prev
 | [], _, _, _, h, _, _, _, _ => absurd rfl h
 | s :: r, taken, last, prev, _, ht, h1, hi, hp => by
  have hs1 := h1 s (by simp)
  obtain ⟨i1, i2, i3⟩ := hi s (by simp)
  have hw : wI ((lot : Int) - taken) = (lot : Int) - taken := wrapI (by omega) (by omega)
  rw [fR_cons, chk, hw]
  by_cases c1 : s.1 > (lot : Int) - taken
  ·rw [if_pos c1]
   have : (!inB s.1 1 30 || decide (wI ((taken : Int) + s.1) > lot)) = true := by
    by_cases c2 : s.1 ≤ 30
    ·have e : wI ((taken : Int) + s.1) = (taken : Int) + s.1 := wrapI (by omega) (by omega)
     rw [e]
     simp only [Bool.or_eq_true, decide_eq_true_eq]
     right; omega
    ·have : inB s.1 1 30 = false := by
      simp only [inB, Bool.and_eq_false_iff, decide_eq_false_iff_not]; right; exact c2
     rw [this]; rfl
   rw [this]; rfl
  ·rw [if_neg c1]
   obtain ⟨t, hst⟩ : ∃ t : Nat, s.1 = t := ⟨s.1.toNat, by omega⟩
   have e : wI ((taken : Int) + s.1) = ((taken + t : Nat) : Int) := by rw [hst]; exact (wrapI (by omega) (by omega)).trans (by omega)
   have e' : wI (((taken + t : Nat) : Int) + 1) = ((taken + t + 1 : Nat) : Int) := (wrapI (by omega) (by omega)).trans (by omega)
   rw [e, e']
   have hin : inB s.1 1 30 = true := by simp only [inB, Bool.and_eq_true, decide_eq_true_eq]; omega
   have hgt : decide (((taken + t : Nat) : Int) > lot) = false := by simp only [decide_eq_false_iff_not]; omega
   rw [hin, hgt]
   simp only [Bool.not_true, Bool.or_false, cond_false]
   by_cases hmax : s.2.1 = 9223372036854775807
   ·have : inB s.2.1 (-1) 30 = false := by
     simp only [inB, Bool.and_eq_false_iff, decide_eq_false_iff_not]; right; omega
    rw [this]
    simp only [Bool.not_false, Bool.true_or, cond_true]
    split
    ·rfl
    ·rename_i c2
     refine chk_max (fun x hx => hi x (by simp [hx])) hmax ?_
     rcases hp with ⟨_, rfl⟩ | ⟨_, _, h3⟩
     ·simp only at c2; omega
     ·omega
   ·have e2 : wI (s.2.1 + 1) = s.2.1 + 1 := wrapI (by have := i2.1; omega) (by have := i2.2; omega)
    rw [e2]
    have key : (!inB s.2.1 (-1) 30 || decide (s.2.2 ≤ s.2.1) || decide (s.2.2 > ((taken + t + 1 : Nat) : Int)) || ltP s prev) = true ↔
      (s.2.1 < last.2.1 ∨ s.2.2 < last.2.2 ∨ ¬ (s.2.1 + 1 ≤ s.2.2 ∧ s.2.2 ≤ ((taken + t + 1 : Nat) : Int))) := by
     simp only [Bool.or_eq_true, Bool.not_eq_true', inB, Bool.and_eq_false_iff, decide_eq_false_iff_not, decide_eq_true_eq]
     rcases hp with ⟨rfl, rfl⟩ | ⟨rfl, h2, h3⟩
     ·simp only [ltP, Bool.false_eq_true, or_false]
      omega
     ·simp only [ltP, Bool.or_eq_true, decide_eq_true_eq]
      omega
    have split2 : ∀ (a b : Bool) (x y : Int), (bif a then x else bif b then x else y) = bif a || b then x else y := by
     intro a b x y; cases a <;> cases b <;> rfl
    rw [split2, bif_iff key]
    split
    ·rfl
    ·rename_i c2
     have her : (r.isEmpty = true) ∨ r.isEmpty = false := by cases r <;> simp
     rcases her with her | her
     ·have : r = [] := List.isEmpty_iff.1 her
      subst this
      rw [her, chk, fR, e2]
      simp only [Bool.true_and]
      exact (bif_iff (by simp)).symm
     ·rw [her]
      simp only [Bool.false_and, cond_false]
      refine chk_fR hlot r (taken + t) s (some s) (by intro h; rw [h] at her; cases her) (by omega) (fun x hx => h1 x (by simp [hx])) (fun x hx => hi x (by simp [hx])) (.inr ⟨rfl, ?_, ?_⟩)
      ·rcases hp with ⟨_, rfl⟩ | ⟨_, h2, _⟩
       ·simp only at c2; omega
       ·omega
      ·rcases hp with ⟨_, rfl⟩ | ⟨_, _, h3⟩
       ·simp only at c2; omega
       ·omega
theorem fault_check {lot : Int} {l : List S3} (hi : ∀ x ∈ l, InS x) : faultR lot l = check lot l := by
 unfold faultR check
 rw [bif_iff (q := (l.length : Int) > 3) (by simp)]
 split
 ·rfl
 ·have key : (!inB lot 1 30 || l.isEmpty) = true ↔ (¬ (1 ≤ lot ∧ lot ≤ 30) ∨ l.length = 0) := by
   have he : l.isEmpty = true ↔ l.length = 0 := by rw [List.isEmpty_iff, List.length_eq_zero_iff]
   rw [Bool.or_eq_true, Bool.not_eq_true', he]
   simp only [inB, Bool.and_eq_false_iff, decide_eq_false_iff_not]
   omega
  rw [bif_iff key]
  by_cases h1 : ¬ (1 ≤ lot ∧ lot ≤ 30) ∨ l.length = 0
  ·rw [if_pos h1, if_pos (h1.elim .inl fun h => .inr (.inl h))]
  ·rw [if_neg h1]
   by_cases h2 : ∀ x ∈ l, 1 ≤ x.1
   ·rw [if_neg (fun h => h.elim (fun h => h1 (.inl h)) fun h => h.elim (fun h => h1 (.inr h)) fun h => h h2)]
    obtain ⟨n, rfl⟩ : ∃ n : Nat, lot = n := ⟨lot.toNat, by omega⟩
    exact (chk_fR (by omega) l 0 (0, -1, 0) none (by intro h; subst h; exact h1 (.inr rfl)) (Nat.zero_le _) h2 hi (.inl ⟨rfl, rfl⟩)).symm
   ·rw [if_pos (.inr (.inr h2))]
    refine fR_low ?_
    rw [Classical.not_forall] at h2
    obtain ⟨x, hx⟩ := h2
    rw [Classical.not_imp] at hx
    exact ⟨x, hx.1, by omega⟩
end Go.Ev.Ytijidghjiaiccaa.P


set_option linter.unusedVariables false
set_option linter.unusedSimpArgs false
set_option maxRecDepth 100000
namespace Go.Ev.Ytijidghjiaiccaa
open Go.Proofs
abbrev isC (l : List Int) : List (List D) := l.map fun x => [dI x]
theorem sWithin_pure (n lo hi : Int) : Pure Try.prog 24 [dI n, dI lo, dI hi] (dB (inB n lo hi)) := by
 refine pure_of pg Try.func24 (by kernel_rfl) ?_
 conv => whnf
 (repeat' (first | (apply kT (by with_reducible first | rfl | assumption); conv => whnf) | (apply kF (by with_reducible first | rfl | assumption); conv => whnf) | (apply kT (by decide); conv => whnf) | (apply kF (by decide); conv => whnf) | (apply kB <;> intro _ <;> conv => whnf) | fail))
 all_goals (rename_i h; unfold inB; rw [h]; rfl)
attribute [local irreducible] Pure Bor Iter inB
theorem rank_bor (n x : Int) : Bor tb Try.prog 23 [.d (dI x), .ref 0 0] [intO n] 2 (.d (dB (inB x 0 n))) [(0, intO n)] := by
 refine bor_of pg Try.func23 (by kernel_rfl) ?_
 conv => whnf
 (repeat' (first | (apply kT (by with_reducible first | rfl | assumption); conv => whnf) | (apply kF (by with_reducible first | rfl | assumption); conv => whnf) | (apply kT (by decide); conv => whnf) | (apply kF (by decide); conv => whnf) | (apply kB <;> intro _ <;> conv => whnf) | (refine .inl ⟨_, sWithin_pure .., ?_⟩; conv => whnf) | fail))
 (refine ⟨[], [0], ?_⟩; conv => whnf)
 exact ⟨rfl, rfl⟩
abbrev fOI : Ob := .var false 87 [.fn (.func 23) [] [.ref 0 0]]
theorem all1I (n : Int) (x : Int) : Bor tb Try.prog 53 [.d (dI x), .ref 1 0] [intO n, fOI] 2 (.d (dB (!inB x 0 n))) [(0, intO n), (1, fOI)] := by
 have c := rank_bor n x
 refine bor_of pg Try.func53 (by kernel_rfl) ?_
 conv => whnf
 (repeat' (first | (apply kT (by with_reducible first | rfl | assumption); conv => whnf) | (apply kF (by with_reducible first | rfl | assumption); conv => whnf) | (apply kT (by decide); conv => whnf) | (apply kF (by decide); conv => whnf) | (apply kB <;> intro _ <;> conv => whnf) | fail))
 (refine .inr ⟨[0], 2, _, _, c, ?_⟩; conv => whnf)
 (repeat' (first | (apply kT (by with_reducible first | rfl | assumption); conv => whnf) | (apply kF (by with_reducible first | rfl | assumption); conv => whnf) | (apply kT (by decide); conv => whnf) | (apply kF (by decide); conv => whnf) | (apply kB <;> intro _ <;> conv => whnf) | fail))
 (refine ⟨[], [0, 1], ?_⟩; conv => whnf)
 exact ⟨by cases inB x 0 n <;> rfl, rfl⟩
theorem idxI (n : Int) (l : List Int) (hl : l.length ≤ 100000) : Bor tb Try.prog 74 [.d (.seq (isC l)), .fn (.func 53) [] [.ref 1 0]] [intO n, fOI] 2 (.d (dI (ixI (fun x => !inB x 0 n) l))) [(0, intO n), (1, fOI)] := by
 have hm : ((isC l).length : Int) = l.length := by rw [List.length_map]
 refine bor_of pg Try.func74 (by kernel_rfl) ?_
 conv => whnf
 (repeat' (first | (apply kT (by with_reducible first | rfl | assumption); conv => whnf) | (apply kF (by with_reducible first | rfl | assumption); conv => whnf) | (apply kT (by decide); conv => whnf) | (apply kF (by decide); conv => whnf) | (apply kB <;> intro _ <;> conv => whnf) | fail))
 refine ⟨[], [0, 1, 7, 8], [0, 1], 2, fun m s => ∃ k : Nat, k + m = l.length ∧ (∀ j (h : j < k) (h2 : j < l.length), (!inB l[j] 0 n) = false) ∧ s = ⟨[(0, .d (.seq (isC l))), (1, .fn (.func 53) [] [.ref 1 0]), (7, .d (dI ((isC l).length : Nat))), (8, .d (dI k))], [(0, intO n), (1, fOI)], 2⟩, ?_, ?_⟩
 ·conv => whnf
  exact ⟨l.length, 0, by omega, fun j h => by omega, rfl⟩
 ·rintro m _ ⟨k, hk, hno, rfl⟩
  by_cases hkl : k < l.length
  ·have f1 : decide ((k : Int) < ((isC l).length : Int)) = true := decide_eq_true (by rw [hm]; omega)
   have hg : (isC l)[k]? = some ([dI l[k]]) := by rw [List.getElem?_map, List.getElem?_eq_getElem hkl]; rfl
   have w1k : IntKind.i64.wrap ((k : Int) + 1) = ((k + 1 : Nat) : Int) := by rw [wrapI (by omega) (by omega)]; rfl
   have cs := all1I n l[k]
   by_cases he : (!inB l[k] 0 n) = true
   ·have e := ixI_at (q := fun x => !inB x 0 n) hkl (fun j hj => hno j hj (by omega)) he
    rw [e]
    rw [he] at cs
    conv => whnf
    (repeat' (first | (apply kT (by with_reducible first | rfl | assumption); conv => whnf) | (apply kF (by with_reducible first | rfl | assumption); conv => whnf) | (apply kT (by decide); conv => whnf) | (apply kF (by decide); conv => whnf) | (apply kB <;> intro _ <;> conv => whnf) | fail))
    (refine ⟨k, _, rfl, hg, rfl, ?_⟩; conv => whnf)
    (refine .inr ⟨[0, 1], 2, _, _, cs, ?_⟩; conv => whnf)
    (repeat' (first | (apply kT (by with_reducible first | rfl | assumption); conv => whnf) | (apply kF (by with_reducible first | rfl | assumption); conv => whnf) | (apply kT (by decide); conv => whnf) | (apply kF (by decide); conv => whnf) | (apply kB <;> intro _ <;> conv => whnf) | fail))
    (refine ⟨[], [0, 1], ?_⟩; conv => whnf)
    exact ⟨rfl, rfl⟩
   ·have he := (Bool.not_eq_true _).mp he
    rw [he] at cs
    conv => whnf
    (repeat' (first | (apply kT (by with_reducible first | rfl | assumption); conv => whnf) | (apply kF (by with_reducible first | rfl | assumption); conv => whnf) | (apply kT (by decide); conv => whnf) | (apply kF (by decide); conv => whnf) | (apply kB <;> intro _ <;> conv => whnf) | fail))
    (refine ⟨k, _, rfl, hg, rfl, ?_⟩; conv => whnf)
    (refine .inr ⟨[0, 1], 2, _, _, cs, ?_⟩; conv => whnf)
    (repeat' (first | (apply kT (by with_reducible first | rfl | assumption); conv => whnf) | (apply kF (by with_reducible first | rfl | assumption); conv => whnf) | (apply kT (by decide); conv => whnf) | (apply kF (by decide); conv => whnf) | (apply kB <;> intro _ <;> conv => whnf) | fail))
    refine ⟨m - 1, by omega, k + 1, by omega, fun j hj hjl => ?_, ?_⟩
    ·by_cases h : j < k
     ·exact hno j h hjl
     ·have : j = k := by omega
      subst this
      exact he
    ·rw [w1k]; rfl
  ·have f1 : decide ((k : Int) < ((isC l).length : Int)) = false := decide_eq_false (by rw [hm]; omega)
   have e := ixI_none (q := fun x => !inB x 0 n) (l := l) fun j hj => hno j (by omega) hj
   rw [e]
   conv => whnf
   (repeat' (first | (apply kT (by with_reducible first | rfl | assumption); conv => whnf) | (apply kF (by with_reducible first | rfl | assumption); conv => whnf) | (apply kT (by decide); conv => whnf) | (apply kF (by decide); conv => whnf) | (apply kB <;> intro _ <;> conv => whnf) | fail))
   (refine ⟨[], [0, 1], ?_⟩; conv => whnf)
   exact ⟨rfl, rfl⟩
theorem hasI (n : Int) (l : List Int) (hl : l.length ≤ 100000) : Bor tb Try.prog 52 [.d (.seq (isC l)), .fn (.func 53) [] [.ref 1 0]] [intO n, fOI] 2 (.d (dB (!l.all (fun x => inB x 0 n)))) [(0, intO n), (1, fOI)] := by
 have ci := idxI n l hl
 rw [← ixI_all]
 refine bor_of pg Try.func52 (by kernel_rfl) ?_
 conv => whnf
 (repeat' (first | (apply kT (by with_reducible first | rfl | assumption); conv => whnf) | (apply kF (by with_reducible first | rfl | assumption); conv => whnf) | (apply kT (by decide); conv => whnf) | (apply kF (by decide); conv => whnf) | (apply kB <;> intro _ <;> conv => whnf) | fail))
 (refine .inr ⟨[0, 1], 2, _, _, ci, ?_⟩; conv => whnf)
 (repeat' (first | (apply kT (by with_reducible first | rfl | assumption); conv => whnf) | (apply kF (by with_reducible first | rfl | assumption); conv => whnf) | (apply kT (by decide); conv => whnf) | (apply kF (by decide); conv => whnf) | (apply kB <;> intro _ <;> conv => whnf) | fail))
 (refine ⟨[], [0, 1], ?_⟩; conv => whnf)
 exact ⟨rfl, rfl⟩
theorem allI (n : Int) (l : List Int) (hl : l.length ≤ 100000) : Bor tb Try.prog 22 [.d (.seq (isC l)), .fn (.func 23) [] [.ref 0 0]] [intO n] 2 (.d (dB (l.all (fun x => inB x 0 n)))) [(0, intO n)] := by
 have ci := hasI n l hl
 refine bor_of pg Try.func22 (by kernel_rfl) ?_
 conv => whnf
 (repeat' (first | (apply kT (by with_reducible first | rfl | assumption); conv => whnf) | (apply kF (by with_reducible first | rfl | assumption); conv => whnf) | (apply kT (by decide); conv => whnf) | (apply kF (by decide); conv => whnf) | (apply kB <;> intro _ <;> conv => whnf) | fail))
 (refine .inr ⟨[0, 1], 2, _, _, ci, ?_⟩; conv => whnf)
 (repeat' (first | (apply kT (by with_reducible first | rfl | assumption); conv => whnf) | (apply kF (by with_reducible first | rfl | assumption); conv => whnf) | (apply kT (by decide); conv => whnf) | (apply kF (by decide); conv => whnf) | (apply kB <;> intro _ <;> conv => whnf) | fail))
 (refine ⟨[], [0], ?_⟩; conv => whnf)
 exact ⟨by cases l.all (fun x => inB x 0 n) <;> rfl, rfl⟩
theorem place_pure (a b : Int) : Pure Try.prog 21 [dI a, dI b] (dB (inB a 1 8 && inB b 0 (IntKind.i64.wrap (a - 1)))) := by
 refine pure_of pg Try.func21 (by kernel_rfl) ?_
 conv => whnf
 (repeat' (first | (apply kT (by with_reducible first | rfl | assumption); conv => whnf) | (apply kF (by with_reducible first | rfl | assumption); conv => whnf) | (apply kT (by decide); conv => whnf) | (apply kF (by decide); conv => whnf) | (apply kB <;> intro _ <;> conv => whnf) | (refine .inl ⟨_, sWithin_pure .., ?_⟩; conv => whnf) | fail))
 all_goals (simp only [*, Bool.true_and, Bool.false_and, Bool.and_true, Bool.and_false]; rfl)
theorem stays_pure (a b x : Int) : Pure Try.prog 56 [.agg [dI a, dI b, .v (.slice none 0 0)], dI x] (dI x) := by
 refine pure_of pg Try.func56 (by kernel_rfl) ?_
 conv => whnf
 (repeat' (first | (apply kT (by with_reducible first | rfl | assumption); conv => whnf) | (apply kF (by with_reducible first | rfl | assumption); conv => whnf) | (apply kT (by decide); conv => whnf) | (apply kF (by decide); conv => whnf) | (apply kB <;> intro _ <;> conv => whnf) | fail))
 rfl
theorem moves_pure : Pure Try.prog 25 [] (.seq [fnE 54, fnE 55, fnE 56]) := by
 refine pure_of pg Try.func25 (by kernel_rfl) ?_
 conv => whnf
 (repeat' (first | (apply kT (by with_reducible first | rfl | assumption); conv => whnf) | (apply kF (by with_reducible first | rfl | assumption); conv => whnf) | (apply kT (by decide); conv => whnf) | (apply kF (by decide); conv => whnf) | (apply kB <;> intro _ <;> conv => whnf) | fail))
 (refine .l ?_; conv => whnf)
 rfl
theorem shake_wait : Pure Try.prog 11 [dI 3, dI 1, isD [2], .seq [[dB true]]] (.tup [.seq [[dI 1, dU 2]], dI 0]) := by
 have c1 : Pure Try.prog 21 [dI 3, dI 1] (dB true) := by
  have h := place_pure 3 1
  have e : (inB 3 1 8 && inB 1 0 (IntKind.i64.wrap (3 - 1))) = true := by unfold inB; decide
  rwa [e] at h
 have c2 := allI 3 [2] (by simp)
 have e2 : ([2] : List Int).all (fun x => inB x 0 3) = true := by unfold inB; decide
 rw [e2] at c2
 refine pure_of pg Try.func11 (by kernel_rfl) ?_
 conv => whnf
 (repeat' (first | (apply kT (by with_reducible first | rfl | assumption); conv => whnf) | (apply kF (by with_reducible first | rfl | assumption); conv => whnf) | (apply kT (by decide); conv => whnf) | (apply kF (by decide); conv => whnf) | (apply kB <;> intro _ <;> conv => whnf) | (refine .inl ⟨_, c1, ?_⟩; conv => whnf) | fail))
 (refine .inr ⟨[0], 2, _, _, c2, ?_⟩; conv => whnf)
 (repeat' (first | (apply kT (by with_reducible first | rfl | assumption); conv => whnf) | (apply kF (by with_reducible first | rfl | assumption); conv => whnf) | (apply kT (by decide); conv => whnf) | (apply kF (by decide); conv => whnf) | (apply kB <;> intro _ <;> conv => whnf) | fail))
 refine ⟨[.own 12 65], [3, 10, 11, 12, 41, 42, 43], [2, 3], 4, fun m s => ∃ k : Nat, k + m = 1 ∧ s = ⟨[(3, .d (.seq [[dB true]])), (10, .ref 2 0), (11, .d (dI 1)), (12, .own 3), (41, .d (isD [2])), (42, .d (dI 1)), (43, .d (dI k))], [(2, .var false 69 [.d (dI 3), .d (dI 1), .d (.v (.slice none 0 0))]), (3, .arr 65 (List.replicate k [dI 1, dU 2]))], 4⟩, ?_, ?_⟩
 ·conv => whnf
  exact ⟨1, 0, rfl, rfl⟩
 ·rintro m _ ⟨k, hk, rfl⟩
  rcases (by omega : k = 0 ∨ k = 1) with rfl | rfl
  ·have c3 := stays_pure 3 1 1
   conv => whnf
   (repeat' (first | (apply kT (by with_reducible first | rfl | assumption); conv => whnf) | (apply kF (by with_reducible first | rfl | assumption); conv => whnf) | (apply kT (by decide); conv => whnf) | (apply kF (by decide); conv => whnf) | (apply kB <;> intro _ <;> conv => whnf) | fail))
   (refine ⟨0, _, rfl, rfl, rfl, ?_⟩; conv => whnf)
   (repeat' (first | (apply kT (by with_reducible first | rfl | assumption); conv => whnf) | (apply kF (by with_reducible first | rfl | assumption); conv => whnf) | (apply kT (by decide); conv => whnf) | (apply kF (by decide); conv => whnf) | (apply kB <;> intro _ <;> conv => whnf) | fail))
   (refine ⟨0, _, rfl, rfl, rfl, ?_⟩; conv => whnf)
   (repeat' (first | (apply kT (by with_reducible first | rfl | assumption); conv => whnf) | (apply kF (by with_reducible first | rfl | assumption); conv => whnf) | (apply kT (by decide); conv => whnf) | (apply kF (by decide); conv => whnf) | (apply kB <;> intro _ <;> conv => whnf) | fail))
   (refine .l ?_; conv => whnf)
   (repeat' (first | (apply kT (by with_reducible first | rfl | assumption); conv => whnf) | (apply kF (by with_reducible first | rfl | assumption); conv => whnf) | (apply kT (by decide); conv => whnf) | (apply kF (by decide); conv => whnf) | (apply kB <;> intro _ <;> conv => whnf) | (refine .inl ⟨_, moves_pure, ?_⟩; conv => whnf) | fail))
   (refine ⟨fun el h => by rw [List.mem_singleton.1 h]; rfl, by decide, ?_⟩; conv => whnf)
   (repeat' (first | (apply kT (by with_reducible first | rfl | assumption); conv => whnf) | (apply kF (by with_reducible first | rfl | assumption); conv => whnf) | (apply kT (by decide); conv => whnf) | (apply kF (by decide); conv => whnf) | (apply kB <;> intro _ <;> conv => whnf) | (refine .inl ⟨_, moves_pure, ?_⟩; conv => whnf) | (refine .inl ⟨_, c3, ?_⟩; conv => whnf) | fail))
   (refine ⟨2, _, rfl, rfl, rfl, ?_⟩; conv => whnf)
   (repeat' (first | (apply kT (by with_reducible first | rfl | assumption); conv => whnf) | (apply kF (by with_reducible first | rfl | assumption); conv => whnf) | (apply kT (by decide); conv => whnf) | (apply kF (by decide); conv => whnf) | (apply kB <;> intro _ <;> conv => whnf) | (refine .inl ⟨_, c3, ?_⟩; conv => whnf) | fail))
   exact ⟨m - 1, by omega, 1, by omega, rfl⟩
  ·conv => whnf
   (repeat' (first | (apply kT (by with_reducible first | rfl | assumption); conv => whnf) | (apply kF (by with_reducible first | rfl | assumption); conv => whnf) | (apply kT (by decide); conv => whnf) | (apply kF (by decide); conv => whnf) | (apply kB <;> intro _ <;> conv => whnf) | fail))
   rfl
end Go.Ev.Ytijidghjiaiccaa


set_option linter.unusedVariables false
set_option linter.unusedSimpArgs false
set_option maxRecDepth 100000
namespace Go.Ev.Ytijidghjiaiccaa
open Go.Proofs
abbrev nilS : D := .v (.slice none 0 0)
def Wk (d d' : D) : Prop := ∀ (I : Nat → Prop) (x : Array Obj) (u : Value), RepD I x d u → RepD I x d' u
def WkL (l l' : List D) : Prop := l.length = l'.length ∧ ∀ (I : Nat → Prop) (x : Array Obj) (us : List Value), RepL I x l us → RepL I x l' us
theorem Wk.refl (d : D) : Wk d d := fun _ _ _ h => h
theorem Wk.nil : Wk nilS (.seq []) := fun I x u h => by
 rw [RepD] at h
 subst h
 rw [RepD]; exact ⟨none, 0, 0, rfl, rfl, Nat.le_refl _, .inl rfl⟩
theorem WkL.nil : WkL [] [] := ⟨rfl, fun _ _ _ h => h⟩
theorem WkL.refl (l : List D) : WkL l l := ⟨rfl, fun _ _ _ h => h⟩
theorem WkL.cons {d d' : D} {l l' : List D} (h : Wk d d') (hl : WkL l l') : WkL (d :: l) (d' :: l') := ⟨by rw [List.length_cons, List.length_cons, hl.1], fun I x us r => by
 rw [RepL] at r ⊢
 obtain ⟨v, q, rfl, h1, h2⟩ := r
 exact ⟨v, q, rfl, h I x v h1, hl.2 I x q h2⟩⟩
theorem Wk.agg {l l' : List D} (h : WkL l l') : Wk (.agg l) (.agg l') := fun I x u r => by
 rw [RepD] at r ⊢
 obtain ⟨c, h1, h2⟩ := r
 exact ⟨c, h1, h.2 I x _ h2⟩
inductive WkR : List (List D) → List (List D) → Prop
 | nil : WkR [] []
 | cons {e e' es es'} : WkL e e' → WkR es es' → WkR (e :: es) (e' :: es')
theorem WkR.len : ∀ {a b : List (List D)}, WkR a b → a.length = b.length
 | _, _, .nil => rfl
 | _, _, .cons _ h => by rw [List.length_cons, List.length_cons, h.len]
theorem WkR.rep {I : Nat → Prop} {x : Array Obj} {sz : Nat} : ∀ {a b : List (List D)} {vs : List Value}, WkR a b → RepR I x sz a vs → RepR I x sz b vs
 | _, _, vs, .nil, h => h
 | _, _, vs, .cons he hs, h => by
  rw [RepR] at h ⊢
  obtain ⟨h1, h2, h3, h4⟩ := h
  exact ⟨by rw [← he.1]; exact h1, he.2 I x _ h2, h3, hs.rep h4⟩
theorem Wk.seq {a b : List (List D)} (h : WkR a b) : Wk (.seq a) (.seq b) := fun I x u r => by
 rw [RepD] at r ⊢
 obtain ⟨ad, len, cap, q1, q2, q3, q4⟩ := r
 refine ⟨ad, len, cap, q1, by rw [← h.len]; exact q2, q3, q4.imp id ?_⟩
 rintro ⟨sz, bb, off, cc, T, fr, u1, u2, u3, u4⟩
 exact ⟨sz, bb, off, cc, T, fr, u1, u2, u3, h.rep u4⟩
theorem pure_wk {P : Program} {f : FuncId} {ds es : List D} {r : D} (hp : Pure P f ds r) (h : WkL es ds) : Pure P f es r :=
 ⟨hp.1, fun w I vs hI hr => hp.2 w I vs hI (h.2 _ _ _ hr)⟩
theorem play_wait : Pure Try.prog 9 [.agg [dI 3, .seq [[dI 2, dI 0, dI 1]]], .seq []] (.tup [dU 3, dI 2, dI 0]) := by
 have h := P.play_pure 3 [(2, 0, 1)] (by decide) (fun x hx => by
  rw [List.mem_singleton.1 hx]
  unfold P.InS P.InR
  decide) [] (by decide)
 have e : P.playI 3 [(2, 0, 1)] [] = (3, 2, 0) := by decide
 rw [e] at h
 exact h
theorem earl_wait : Pure Try.prog 8 [.agg [.seq [[nilS]], .seq [[dI 2, dI 0, .seq [[dB true]]]]]] (.tup [.seq [[isD [0]], [isD [0]]], dI 2, dI 0]) := by
 have h := earliest_pure ⟨[[]], [⟨2, 0, [true]⟩]⟩
 have e : earlD ⟨[[]], [⟨2, 0, [true]⟩]⟩ = .tup [.seq [[isD [0]], [isD [0]]], dI 2, dI 0] := by
  have e1 : checkQ ⟨[[]], [⟨2, 0, [true]⟩]⟩ = 0 := by decide
  have e2 : layL (quQ ⟨[[]], [⟨2, 0, [true]⟩]⟩) 40 [] (itK (hrsQ ⟨[[]], [⟨2, 0, [true]⟩]⟩) 1) = some [[0, -1, -1, -1], [0, -1, -1, -1]] := by decide
  unfold earlD
  rw [if_neg (by rw [e1]; simp)]
  show (match layL (quQ ⟨[[]], [⟨2, 0, [true]⟩]⟩) 40 [] (itK (hrsQ ⟨[[]], [⟨2, 0, [true]⟩]⟩) 1) with
   | some P => D.tup [.seq (plRows 1 P), dI (P.length : Nat), dI 0]
   | none => .tup [.seq [], dI 0, dI 9]) = _
  rw [e2]
  rfl
 rw [e] at h
 exact pure_wk h (.cons (.agg (.cons (.seq (.cons (.cons .nil .nil) .nil)) (.refl _))) .nil)
attribute [local irreducible] Pure Bor Iter
theorem waits_pure : Pure Try.prog 7 [] (dB true) := by
 refine pure_of pg Try.func7 (by kernel_rfl) ?_
 conv => whnf
 (repeat' (first | (apply kT (by with_reducible first | rfl | assumption); conv => whnf) | (apply kF (by with_reducible first | rfl | assumption); conv => whnf) | (apply kT (by decide); conv => whnf) | (apply kF (by decide); conv => whnf) | (apply kB <;> intro _ <;> conv => whnf) | (refine ChL.l ?_; conv => whnf) | (refine .inl ⟨_, shake_wait, ?_⟩; conv => whnf) | (refine .inl ⟨_, play_wait, ?_⟩; conv => whnf) | (refine .inl ⟨_, earl_wait, ?_⟩; conv => whnf) | (refine ⟨0, _, rfl, rfl, rfl, ?_⟩; conv => whnf) | (refine ⟨true, rfl, ?_⟩; conv => whnf) | fail))
 rfl
end Go.Ev.Ytijidghjiaiccaa


set_option linter.unusedVariables false
set_option linter.unusedSimpArgs false
set_option maxRecDepth 100000
namespace Go.Ev.Ytijidghjiaiccaa
theorem feas_may {nm n : Nat} {may may' : Nat → Nat → Nat → Bool} {hrs : Nat → Nat} {T : Nat} (h : ∀ r m x, r < n → may r m x = true → may' r m x = true) (f : Feas ⟨nm, n, may⟩ hrs T) : Feas ⟨nm, n, may'⟩ hrs T := by
 obtain ⟨c, v, hc⟩ := f
 refine ⟨c, ⟨fun x hx m hm => ?_, fun x hx => v.one x hx⟩, hc⟩
 rcases v.ok x hx m hm with e | ⟨r, e1, e2, e3, e4⟩
 ·exact .inl e
 ·exact .inr ⟨r, e1, e2, e3, h r m x e2 e4⟩
theorem earl_le {nm : Nat} {may may' : Nat → Nat → Nat → Bool} {hrs : List Nat} (hn : hrs.length ≤ 6) (hnm : nm ≤ 4) {k : Nat} (hm : ∀ r m x, r < (hrs.take k).length → may r m x = true → may' r m x = true) {P : Pl} (h : earliest nm may hrs = some P) :
  ∃ P', earliest nm may' (hrs.take k) = some P' ∧ P'.length ≤ P.length := by
 rcases earliest_law (may := may) hn hnm with ⟨P1, e1, hl1, _, _, hf1, _⟩ | ⟨e1, _⟩
 ·rw [h] at e1
  cases e1
  have hlk : (hrs.take k).length ≤ hrs.length := by rw [List.length_take]; exact Nat.min_le_right _ _
  have hf : Feas ⟨nm, (hrs.take k).length, may'⟩ (fun r => ((hrs.take k)[r]?).getD 0) P.length := by
   refine feas_may hm ?_
   obtain ⟨c, v, hc⟩ := feas_fewer (n' := (hrs.take k).length) hlk hf1
   refine ⟨c, v, fun r hr => ?_⟩
   rw [hc r hr]
   have hr' : r < (hrs.take k).length := hr
   dsimp only
   rw [List.getElem?_take_of_lt (by rw [List.length_take] at hr'; omega)]
  rcases earliest_law (nm := nm) (may := may') (hrs := hrs.take k) (by omega) hnm with ⟨P2, e2, _, _, _, _, h0⟩ | ⟨_, hno⟩
  ·refine ⟨P2, e2, ?_⟩
   rcases h0 with h0 | h0
   ·omega
   ·exact Nat.le_of_not_lt fun hlt => h0 (feas_more (by omega) hf)
  ·exact absurd (feas_more hl1 hf) hno
 ·rw [h] at e1; cases e1
abbrev cutQ (q : Que) (k : Nat) : Que := ⟨q.ms, q.rs.take k⟩
theorem cut_le {q : Que} (hq : QOK q) (k : Nat) {P : Pl} (h : layL (quQ q) 40 [] (itK (hrsQ q) q.rs.length) = some P) :
  ∃ P', layL (quQ (cutQ q k)) 40 [] (itK (hrsQ (cutQ q k)) (cutQ q k).rs.length) = some P' ∧ P'.length ≤ P.length := by
 rw [← earliest_lay] at h ⊢
 have e : hrsQ (cutQ q k) = (hrsQ q).take k := by
  show (q.rs.take k).map _ = _
  rw [List.map_take]
 rw [e]
 refine earl_le (by rw [List.length_map]; exact hq.n) hq.nm (fun r m x hr hm => ?_) h
 rw [List.length_take, List.length_map] at hr
 unfold mayQ at hm ⊢
 rw [List.getElem?_take_of_lt (by omega)]
 exact hm
def endQ (q : Que) : Option Nat := (layL (quQ q) 40 [] (itK (hrsQ q) q.rs.length)).map List.length
theorem end_cut {q : Que} (h0 : checkQ q = 0) (k : Nat) {e : Nat} (h : endQ q = some e) : ∃ e', endQ (cutQ q k) = some e' ∧ e' ≤ e := by
 unfold endQ at h ⊢
 obtain ⟨P, hP, rfl⟩ := Option.map_eq_some_iff.1 h
 obtain ⟨P', h1, h2⟩ := cut_le (check_ok h0).1 k hP
 exact ⟨P'.length, by rw [h1]; rfl, h2⟩
theorem earl_some {q : Que} (h0 : checkQ q = 0) {e : Nat} (h : endQ q = some e) : ∃ rows, earlD q = .tup [.seq rows, dI e, dI 0] := by
 unfold endQ at h
 obtain ⟨P, hP, rfl⟩ := Option.map_eq_some_iff.1 h
 refine ⟨plRows q.ms.length P, ?_⟩
 unfold earlD
 rw [if_neg (by rw [h0]; simp), hP]
theorem earl_none {q : Que} (h0 : checkQ q = 0) (h : endQ q = none) : earlD q = .tup [.seq [], dI 0, dI 9] := by
 unfold endQ at h
 unfold earlD
 rw [if_neg (by rw [h0]; simp), Option.map_eq_none_iff.1 h]
end Go.Ev.Ytijidghjiaiccaa


set_option linter.unusedVariables false
set_option linter.unusedSimpArgs false
set_option maxRecDepth 100000
namespace Go.Ev.Ytijidghjiaiccaa.P
def takN : List S3 → Nat
 | [] => 0
 | s :: r => s.1.toNat + takN r
def OnL (lot : Int) (l : List S3) (k : Nat) (res : List Bool) : Prop :=
 res.length = takN (l.take k) ∧ ∀ ext : List Bool, ∃ v, playN (res ++ ext) l 0 0 0 = playN (res ++ ext) (l.drop k) res.length (badN res) v
theorem on_zero (lot : Int) (l : List S3) : OnL lot l 0 [] := ⟨rfl, fun ext => ⟨0, rfl⟩⟩
def saidN (s : S3) (res seg : List Bool) : Int := says s.2.1 s.2.2 ((badN res + badN seg : Nat) : Int)
theorem seg_eq (res seg ext : List Bool) : ((res ++ seg ++ ext).take (res.length + seg.length)).drop res.length = seg := by
 rw [show res.length + seg.length = (res ++ seg).length by simp, List.take_left, List.drop_left]
theorem on_step {lot : Int} {l : List S3} {k : Nat} {res seg : List Bool} {s : S3} {r : List S3} (h : OnL lot l k res) (hd : l.drop k = s :: r) (hs : seg.length = s.1.toNat) (h3 : saidN s res seg = 3) : OnL lot l (k + 1) (res ++ seg) := by
 have hk : k < l.length := Nat.lt_of_not_le fun hge => by rw [List.drop_of_length_le hge] at hd; cases hd
 have hlk : l[k] = s := by
  have := List.getElem_cons_drop (h := hk)
  rw [hd] at this
  exact (List.cons.inj this).1
 refine ⟨?_, fun ext => ?_⟩
 ·rw [List.length_append, h.1, List.take_add_one, List.getElem?_eq_getElem hk, hlk, hs]
  have : ∀ (a b : List S3), takN (a ++ b) = takN a + takN b := by
   intro a b
   induction a with
   | nil => simp [takN]
   | cons x a ih => simp only [List.cons_append, takN, ih]; omega
  rw [this]
  simp [takN]
 ·obtain ⟨v, hv⟩ := h.2 (seg ++ ext)
  rw [← List.append_assoc] at hv
  refine ⟨3, ?_⟩
  rw [hv, hd, playN]
  have hr : l.drop (k + 1) = r := by rw [← List.drop_drop, hd]; rfl
  rw [hr, if_neg (by simp only [List.length_append]; omega), ← hs, seg_eq]
  have e : badN (res ++ seg) = badN res + badN seg := by unfold badN; rw [List.countP_append]
  rw [if_neg (by unfold saidN at h3; rw [h3]; simp), List.length_append, e]
theorem play_at {lot : Int} {l : List S3} (hc : check lot l = 0) {k : Nat} {res seg : List Bool} {s : S3} {r : List S3} (h : OnL lot l k res) (hd : l.drop k = s :: r) (hs : seg.length = s.1.toNat) :
  (saidN s res seg ≠ 3 ∧ playI lot l (res ++ seg) = (saidN s res seg, 0, 0)) ∨ (saidN s res seg = 3 ∧ playI lot l (res ++ seg) = match r with
   | [] => (3, 0, 0)
   | s2 :: _ => if s2.1.toNat = 0 then playI lot l (res ++ seg) else (3, (s2.1.toNat : Int), 0)) := by
 have hp : playI lot l (res ++ seg) = playN (res ++ seg) l 0 0 0 := by unfold playI; rw [if_neg (by simp [hc])]
 by_cases h3 : saidN s res seg = 3
 ·refine .inr ⟨h3, ?_⟩
  have h1 := on_step h hd hs h3
  have hr : l.drop (k + 1) = r := by rw [← List.drop_drop, hd]; rfl
  obtain ⟨v, hv⟩ := h.2 (seg ++ [])
  have e : badN (res ++ seg) = badN res + badN seg := by unfold badN; rw [List.countP_append]
  have hv3 : playN (res ++ seg) l 0 0 0 = playN (res ++ seg) r (res ++ seg).length (badN (res ++ seg)) 3 := by
   rw [List.append_nil] at hv
   rw [hv, hd, playN, if_neg (by simp only [List.length_append]; omega), ← hs]
   have := seg_eq res seg []
   rw [List.append_nil] at this
   rw [this, if_neg (by unfold saidN at h3; rw [h3]; simp), List.length_append, e]
  rw [hp, hv3]
  cases r with
  | nil => rw [playN, if_neg (by omega)]
  | cons s2 r2 =>
   dsimp only
   split
   ·rfl
   ·rename_i h0
    rw [playN, if_pos (by omega)]
    congr 2
    omega
 ·refine .inl ⟨h3, ?_⟩
  obtain ⟨v, hv⟩ := h.2 (seg ++ [])
  rw [List.append_nil] at hv
  have := seg_eq res seg []
  rw [List.append_nil] at this
  rw [hp, hv, hd, playN, if_neg (by simp only [List.length_append]; omega), ← hs, this, if_pos (by unfold saidN at h3; exact h3), if_neg (by simp only [List.length_append]; omega)]
  rfl
theorem last_said {l : List S3} (he : Ends l) {k : Nat} {s : S3} (hd : l.drop k = [s]) (res seg : List Bool) : saidN s res seg ≠ 3 := by
 have hs : ∀ (l : List S3) (k : Nat), Ends l → l.drop k = [s] → s.2.2 = s.2.1 + 1 := by
  intro l
  induction l with
  | nil => intro k h; exact h.elim
  | cons a l ih =>
   intro k h hd
   cases l with
   | nil =>
    cases k with
    | zero => cases hd; exact h
    | succ k => simp at hd
   | cons b l =>
    cases k with
    | zero => simp at hd
    | succ k => exact ih k h (by simpa using hd)
 have e := hs l k he hd
 unfold saidN says
 rw [e]
 intro h
 split at h
 ·cases h
 ·split at h
  ·cases h
  ·omega
end Go.Ev.Ytijidghjiaiccaa.P


set_option linter.unusedVariables false
set_option linter.unusedSimpArgs false
set_option maxRecDepth 100000
namespace Go.Ev.Ytijidghjiaiccaa
open Go.Proofs
open P (S3 plD InS check takN OnL Fit Ends faultR)
abbrev usD (l : List Int) : D := .seq (l.map fun x => [dU x])
theorem takN_app : ∀ (a b : List S3), takN (a ++ b) = takN a + takN b
 | [], b => by simp [takN]
 | x :: a, b => by simp only [List.cons_append, takN, takN_app a b]; omega
theorem fit_tak {n : Nat} : ∀ (l : List S3) (t : Nat), Fit n t l → t ≤ n → t + takN l ≤ n
 | [], t, _, h => by simpa [takN] using h
 | s :: r, t, h, ht => by
  obtain ⟨m, e, h1, h2, h3⟩ := h
  have := fit_tak r (t + m) h3 h2
  rw [takN, e, Int.toNat_natCast]
  omega
theorem fit_mem {n : Nat} : ∀ (l : List S3) (t : Nat), Fit n t l → ∀ k (h : k < l.length), 1 ≤ (l[k]).1 ∧ (l[k]).1 ≤ n
 | s :: r, t, h, 0, _ => by
  obtain ⟨m, e, h1, h2, h3⟩ := h
  show 1 ≤ s.1 ∧ s.1 ≤ n
  rw [e]; omega
 | s :: r, t, h, k + 1, hk => by
  obtain ⟨m, e, h1, h2, h3⟩ := h
  exact fit_mem r _ h3 k (by simpa using hk)
theorem takN_succ (l : List S3) (k : Nat) (h : k < l.length) : takN (l.take (k + 1)) = takN (l.take k) + (l[k]).1.toNat := by
 rw [List.take_add_one, List.getElem?_eq_getElem h, takN_app]
 simp [takN]
abbrev msT : D := .seq [[nilS], [.seq [[dI 3, dI 4]]]]
def hrT (ws : List Int) (i : Nat) : Int := (((ws[i % ws.length]?).getD 0).toNat % 7 : Nat)
def rnT (ws : List Int) (i : Nat) : Rn := ⟨hrT ws i, 0, [true, decide (i % 2 = 0)]⟩
abbrev runsT (ws : List Int) (k : Nat) : List Rn := (List.range k).map (rnT ws)
abbrev qT (ws : List Int) (k : Nat) : Que := ⟨[[], [(3, 4)]], runsT ws k⟩
theorem earl_T (ws : List Int) (k : Nat) : Pure Try.prog 8 [.agg [msT, .seq (rnsD (runsT ws k))]] (earlD (qT ws k)) :=
 pure_wk (earliest_pure (qT ws k)) (.cons (.agg (.cons (.seq (.cons (.cons .nil .nil) (.cons (.refl _) .nil))) (.refl _))) .nil)
theorem check_T (ws : List Int) (k : Nat) (hk : k ≤ 6) : checkQ (qT ws k) = 0 := by
 have h1 : (runsT ws k).length = k := by simp
 have h2 : (runsT ws k).all (runB (qT ws k)) = true := by
  rw [List.all_eq_true]
  intro x hx
  obtain ⟨i, _, rfl⟩ := List.mem_map.1 hx
  have h3 : inB (hrT ws i) 0 40 = true := by
   unfold inB hrT
   rw [Bool.and_eq_true, decide_eq_true_eq, decide_eq_true_eq]
   omega
  show ((inB (hrT ws i) 0 40 && inB 0 0 40) && _) = true
  rw [h3]
  rfl
 unfold checkQ
 rw [if_neg, if_neg]
 ·show ¬ (_ || !(runsT ws k).all (runB (qT ws k))) = true
  rw [h2]
  exact Bool.false_ne_true
 ·show ¬ ((_ || decide ((runsT ws k).length > 6)) || _) = true
  rw [h1, show decide (k > 6) = false from decide_eq_false (by omega)]
  exact Bool.false_ne_true
theorem cut_T (ws : List Int) {k T : Nat} (h : k ≤ T) : cutQ (qT ws T) k = qT ws k := by
 show (⟨_, ((List.range T).map (rnT ws)).take k⟩ : Que) = ⟨_, (List.range k).map (rnT ws)⟩
 rw [← List.map_take, List.take_range, Nat.min_eq_left h]
theorem earl_mono (ws : List Int) (i : Nat) (hi : i ≤ 6) {a T' e e1 : Nat} (h1 : a ≤ T') (h2 : T' ≤ i) (hf : ∀ T', T' ≤ i → ∃ e', endQ (qT ws T') = some e' ∧ e' ≤ e) (ha : endQ (qT ws a) = some e1) : ∃ e2, endQ (qT ws T') = some e2 ∧ e1 ≤ e2 := by
 obtain ⟨e2, g1, _⟩ := hf T' h2
 refine ⟨e2, g1, ?_⟩
 obtain ⟨e3, g3, g4⟩ := end_cut (check_T ws T' (by omega)) a g1
 rw [cut_T ws h1, ha] at g3
 cases g3
 exact g4
def bitT (w : Int) (p : Nat) : Bool := (w.fdiv (2 ^ min p IntKind.u8.bits)).tmod 2 == 1
abbrev segT (w : Int) (p j : Nat) : List Bool := (List.range j).map fun x => bitT w (p + x)
theorem segT_succ (w : Int) (p j : Nat) : segT w p (j + 1) = segT w p j ++ [bitT w (p + j)] := by
 show (List.range (j + 1)).map _ = _
 rw [List.range_succ, List.map_append]
 rfl
theorem play_at2 {lot : Int} {l : List S3} (hc : check lot l = 0) {k : Nat} {res seg : List Bool} {s : S3} {r : List S3} (h : OnL lot l k res) (hd : l.drop k = s :: r) (hs : seg.length = s.1.toNat) :
  (P.saidN s res seg ≠ 3 ∧ P.playI lot l (res ++ seg) = (P.saidN s res seg, 0, 0)) ∨ (P.saidN s res seg = 3 ∧ (r = [] ∨ ∃ s2 r2, r = s2 :: r2 ∧ (1 ≤ s2.1 → P.playI lot l (res ++ seg) = (3, (s2.1.toNat : Int), 0)))) := by
 have h := P.play_at hc h hd hs
 cases r with
 | nil => exact h.imp id fun h => ⟨h.1, .inl rfl⟩
 | cons s2 r2 =>
  refine h.imp id fun h => ⟨h.1, .inr ⟨s2, r2, rfl, fun hp => ?_⟩⟩
  have h2 := h.2
  dsimp only at h2
  rw [if_neg (by omega)] at h2
  exact h2
attribute [local irreducible] Pure Bor Iter check takN earlD endQ checkQ bitT
theorem timed_start (lot : Int) (l : List S3) (hl : l.length ≤ 9223372036854775807) (hi : ∀ x ∈ l, InS x) (w : Int) (hw : 0 ≤ w ∧ w ≤ 255) (ws : List Int) (hwl : ws.length ≤ 9223372036854775807) (hws : ∀ x ∈ ws, 0 ≤ x ∧ x ≤ 255) :
  Pure Try.prog 3 [plD lot l, dU w, usD ws] (dB true) := by
 have c1 := P.thin_pure lot l
 have c2 := P.fault0_pure lot l
 rw [P.fault_check hi] at c2
 refine pure_of pg Try.func3 (by kernel_rfl) ?_
 conv => whnf
 (repeat' (first | (apply kT (by with_reducible first | rfl | assumption); conv => whnf) | (apply kF (by with_reducible first | rfl | assumption); conv => whnf) | (apply kT (by decide); conv => whnf) | (apply kF (by decide); conv => whnf) | (apply kB <;> intro _ <;> conv => whnf) | (refine .inl ⟨_, c1, ?_⟩; conv => whnf) | (refine .inl ⟨_, c2, ?_⟩; conv => whnf) | (refine .inl ⟨_, waits_pure, ?_⟩; conv => whnf) | fail))
 all_goals try rfl
 rename_i hthin hck hlen
 have hc : check lot l = 0 := by simpa using hck
 obtain ⟨n, rfl, hn1, hn2, hl3, hf, he⟩ := P.check_good hi hc
 have hw0 : 0 < ws.length := by
  rw [beq_eq_false_iff_ne] at hlen
  simp at hlen
  cases ws with
  | nil => exact absurd rfl hlen
  | cons a b => simp
 have hml : ((l.map P.stD).length : Int) = l.length := by rw [List.length_map]
 refine ⟨[], [1, 2, 3, 7, 8], [0], 1, fun m s => ∃ k : Nat, k + m = l.length ∧ s = ⟨[(1, .d (dU w)), (2, .d (usD ws)), (3, .ref 0 0), (7, .d (dI (takN (l.take k) : Nat))), (8, .d (dI k))], [(0, .var false 24 [.d (dI n), .d (.seq (l.map P.stD))])], 1⟩, ?_, ?_⟩
 ·conv => whnf
  refine ⟨l.length, 0, by omega, ?_⟩
  have e : takN (l.take 0) = 0 := by unfold takN; rfl
  rw [e]
  rfl
 ·rintro m _ ⟨k, hk, rfl⟩
  rcases Decidable.em (k < l.length) with hkn | hkn
  ·have g1 : decide ((k : Int) < ((l.map P.stD).length : Int)) = true := decide_eq_true (by rw [hml]; omega)
   have hg := P.getD? l k hkn
   obtain ⟨b1, b2⟩ := fit_mem l 0 hf k hkn
   have hts := takN_succ l k hkn
   have htl : takN (l.take k) ≤ 30 := by
    have h1 := takN_app (l.take k) (l.drop k)
    rw [List.take_append_drop] at h1
    have h2 := fit_tak l 0 hf (Nat.zero_le _)
    omega
   have w1 : IntKind.i64.wrap (((takN (l.take k) : Nat) : Int) + (l[k]).1) = ((takN (l.take (k + 1)) : Nat) : Int) := by
    rw [wrapI (by omega) (by omega), hts]; omega
   have wk : IntKind.i64.wrap ((k : Int) + 1) = ((k + 1 : Nat) : Int) := by
    rw [wrapI (by omega) (by omega)]; omega
   conv => whnf
   (repeat' (first | (apply kT (by with_reducible first | rfl | assumption); conv => whnf) | (apply kF (by with_reducible first | rfl | assumption); conv => whnf) | (apply kT (by decide); conv => whnf) | (apply kF (by decide); conv => whnf) | (apply kB <;> intro _ <;> conv => whnf) | fail))
   (refine ⟨k, _, rfl, hg, rfl, ?_⟩; conv => whnf)
   (repeat' (first | (apply kT (by with_reducible first | rfl | assumption); conv => whnf) | (apply kF (by with_reducible first | rfl | assumption); conv => whnf) | (apply kT (by decide); conv => whnf) | (apply kF (by decide); conv => whnf) | (apply kB <;> intro _ <;> conv => whnf) | fail))
   refine ⟨m - 1, by omega, k + 1, by omega, ?_⟩
   rw [w1, wk]
  ·have ekn : k = l.length := by omega
   have g1 : decide ((k : Int) < ((l.map P.stD).length : Int)) = false := decide_eq_false (by rw [hml]; omega)
   have htk : l.take k = l := List.take_of_length_le (by omega)
   rw [htk]
   conv => whnf
   (repeat' (first | (apply kT (by with_reducible first | rfl | assumption); conv => whnf) | (apply kF (by with_reducible first | rfl | assumption); conv => whnf) | (apply kT (by decide); conv => whnf) | (apply kF (by decide); conv => whnf) | (apply kB <;> intro _ <;> conv => whnf) | (refine .inl ⟨_, waits_pure, ?_⟩; conv => whnf) | fail))
   all_goals try rfl
   rename_i h6
   have hT : takN l ≤ 6 := by
    rw [decide_eq_false_iff_not] at h6
    omega
   obtain ⟨T, hTe⟩ : ∃ T, T = takN l := ⟨_, rfl⟩
   rw [← hTe] at hT ⊢
   clear h6 g1 hk
   (repeat' (first | (apply kT (by with_reducible first | rfl | assumption); conv => whnf) | (apply kF (by with_reducible first | rfl | assumption); conv => whnf) | (apply kT (by decide); conv => whnf) | (apply kF (by decide); conv => whnf) | (apply kB <;> intro _ <;> conv => whnf) | (refine ChL.l ?_; conv => whnf) | fail))
   refine ⟨[.cown 1 1 40, .rex], [1, 2, 3, 7, 9, 10], [0, 1, 2], 3, fun m s => ∃ i : Nat, i + m = T ∧ s = ⟨[(1, .d (dU w)), (2, .d (usD ws)), (3, .ref 0 0), (7, .d (dI (T : Nat))), (9, .ref 1 0), (10, .d (dI i))], [(0, .var false 24 [.d (dI n), .d (.seq (l.map P.stD))]), (1, .var false 37 [.d msT, .own 2]), (2, .arr 40 (rnsD (runsT ws i)))], 3⟩, ?_, ?_⟩
   ·conv => whnf
    exact ⟨T, 0, by omega, rfl⟩
   ·rintro m _ ⟨i, hi', rfl⟩
    rcases Decidable.em (i < T) with hin | hin
    ·have g2 : decide ((i : Int) < (T : Int)) = true := decide_eq_true (by omega)
     have hwm : ((ws.map fun x => [dU x]).length : Int) = ws.length := by rw [List.length_map]
     have hne : ((ws.map fun x => [dU x]).length : Int) ≠ 0 := by rw [hwm]; omega
     have hil : i % ws.length < ws.length := Nat.mod_lt _ hw0
     have hg : (ws.map fun x => [dU x])[i % ws.length]? = some [dU ws[i % ws.length]] := by rw [List.getElem?_map, List.getElem?_eq_getElem hil]; rfl
     conv => whnf
     (repeat' (first | (apply kT (by with_reducible first | rfl | assumption); conv => whnf) | (apply kF (by with_reducible first | rfl | assumption); conv => whnf) | (apply kT (by decide); conv => whnf) | (apply kF (by decide); conv => whnf) | (apply kB <;> intro _ <;> conv => whnf) | fail))
     have htm : ((i : Int)).tmod ((ws.map fun x => [dU x]).length : Int) = ((i % ws.length : Nat) : Int) := by rw [hwm]; rfl
     (refine ⟨hne, ?_⟩; conv => whnf)
     (repeat' (first | (apply kT (by with_reducible first | rfl | assumption); conv => whnf) | (apply kF (by with_reducible first | rfl | assumption); conv => whnf) | (apply kT (by decide); conv => whnf) | (apply kF (by decide); conv => whnf) | (apply kB <;> intro _ <;> conv => whnf) | fail))
     (refine ⟨i % ws.length, _, htm, hg, rfl, ?_⟩; conv => whnf)
     (repeat' (first | (apply kT (by with_reducible first | rfl | assumption); conv => whnf) | (apply kF (by with_reducible first | rfl | assumption); conv => whnf) | (apply kT (by decide); conv => whnf) | (apply kF (by decide); conv => whnf) | (apply kB <;> intro _ <;> conv => whnf) | fail))
     (refine ⟨by decide, ?_⟩; conv => whnf)
     (repeat' (first | (apply kT (by with_reducible first | rfl | assumption); conv => whnf) | (apply kF (by with_reducible first | rfl | assumption); conv => whnf) | (apply kT (by decide); conv => whnf) | (apply kF (by decide); conv => whnf) | (apply kB <;> intro _ <;> conv => whnf) | fail))
     (refine ⟨by decide, ?_⟩; conv => whnf)
     (repeat' (first | (apply kT (by with_reducible first | rfl | assumption); conv => whnf) | (apply kF (by with_reducible first | rfl | assumption); conv => whnf) | (apply kT (by decide); conv => whnf) | (apply kF (by decide); conv => whnf) | (apply kB <;> intro _ <;> conv => whnf) | (refine ChL.l ?_; conv => whnf) | fail))
     have hx := hws _ (List.getElem_mem hil)
     have hh1 : (IntKind.i64.wrap ws[i % ws.length]).tmod 7 = hrT ws i := by
      unfold hrT
      rw [wrapI (by omega) (by omega), List.getElem?_eq_getElem hil, Option.getD_some]
      generalize ws[i % ws.length] = x at hx
      obtain ⟨y, rfl⟩ : ∃ y : Nat, x = y := ⟨x.toNat, by omega⟩
      rfl
     have hh2 : ((i : Int).tmod 2 == 0) = decide (i % 2 = 0) := by
      have : (i : Int).tmod 2 = ((i % 2 : Nat) : Int) := rfl
      rw [this, Bool.eq_iff_iff, beq_iff_eq, decide_eq_true_eq]
      omega
     have hrl : (rnsD (runsT ws i)).length = i := by simp
     have hrr : rnsD (runsT ws (i + 1)) = rnsD (runsT ws i) ++ [[dI (hrT ws i), dI 0, .seq [[dB true], [dB (decide (i % 2 = 0))]]]] := by
      show ((List.range (i + 1)).map _).map _ = _
      rw [List.range_succ, List.map_append, List.map_append]
      rfl
     have wk : IntKind.i64.wrap ((i : Int) + 1) = ((i + 1 : Nat) : Int) := by
      rw [wrapI (by omega) (by omega)]; omega
     (refine ⟨fun el h => by rw [List.mem_singleton.1 h]; rfl, by show (_ + 1) * 40 ≤ _; rw [hrl]; omega, ?_⟩; conv => whnf)
     (repeat' (first | (apply kT (by with_reducible first | rfl | assumption); conv => whnf) | (apply kF (by with_reducible first | rfl | assumption); conv => whnf) | (apply kT (by decide); conv => whnf) | (apply kF (by decide); conv => whnf) | (apply kB <;> intro _ <;> conv => whnf) | fail))
     (refine ⟨[0, 1, 139], ?_⟩; conv => whnf)
     refine ⟨m - 1, by omega, i + 1, by omega, ?_⟩
     rw [wk, hh1, hh2, hrr]
     rfl
    ·have g2 : decide ((i : Int) < (T : Int)) = false := decide_eq_false (by omega)
     have eiT : i = T := by omega
     subst eiT
     have hck0 := check_T ws i hT
     have c8 := earl_T ws i
     cases hend : endQ (qT ws i) with
     | none =>
      rw [earl_none hck0 hend] at c8
      conv => whnf
      (repeat' (first | (apply kT (by with_reducible first | rfl | assumption); conv => whnf) | (apply kF (by with_reducible first | rfl | assumption); conv => whnf) | (apply kT (by decide); conv => whnf) | (apply kF (by decide); conv => whnf) | (apply kB <;> intro _ <;> conv => whnf) | (refine .inl ⟨_, c8, ?_⟩; conv => whnf) | (refine .inl ⟨_, waits_pure, ?_⟩; conv => whnf) | (refine ChC.r ?_; conv => whnf) | fail))
      rfl
     | some e =>
      obtain ⟨rows, hea⟩ := earl_some hck0 hend
      rw [hea] at c8
      conv => whnf
      (repeat' (first | (apply kT (by with_reducible first | rfl | assumption); conv => whnf) | (apply kF (by with_reducible first | rfl | assumption); conv => whnf) | (apply kT (by decide); conv => whnf) | (apply kF (by decide); conv => whnf) | (apply kB <;> intro _ <;> conv => whnf) | (refine .inl ⟨_, c8, ?_⟩; conv => whnf) | (refine ChC.r ?_; conv => whnf) | fail))
      have hfirst : ∀ T', T' ≤ i → ∃ e', endQ (qT ws T') = some e' ∧ e' ≤ e := fun T' hT' => by
       obtain ⟨e', h1, h2⟩ := end_cut hck0 T' hend
       rw [cut_T ws hT'] at h1
       exact ⟨e', h1, h2⟩
      have hl0 : 0 < l.length := by
       cases l with
       | nil => exact he.elim
       | cons a b => simp
      refine ⟨[.own 15 4, .rex], [1, 3, 9, 12, 14, 15, 16], [0, 1, 3], 4, fun m s => ∃ (k : Nat) (res : List Bool) (last : Nat), k + m = l.length ∧ k < l.length ∧ OnL n l k res ∧ (∀ T', res.length ≤ T' → T' ≤ i → ∃ e', endQ (qT ws T') = some e' ∧ last ≤ e') ∧
       s = ⟨[(1, .d (dU w)), (3, .ref 0 0), (9, .ref 1 0), (12, .d (dI e)), (14, .d (dI last)), (15, .own 3), (16, .d (dI k))], [(0, .var false 24 [.d (dI n), .d (.seq (l.map P.stD))]), (1, .var false 37 [.d msT, .d (.seq (rnsD (runsT ws i)))]), (3, .arr 4 (res.map fun b => [dB b]))], 4⟩, ?_, ?_⟩
      ·conv => whnf
       exact ⟨l.length, 0, [], 0, by omega, hl0, P.on_zero _ _, fun T' _ hT' => (hfirst T' hT').imp fun e' h => ⟨h.1, Nat.zero_le _⟩, rfl⟩
      ·rintro m _ ⟨k, res, last, hk, hkl, hon, hlast, rfl⟩
       have g3 : decide ((k : Int) < ((l.map P.stD).length : Int)) = true := decide_eq_true (by rw [hml]; omega)
       have hg := P.getD? l k hkl
       obtain ⟨b1, b2⟩ := fit_mem l 0 hf k hkl
       obtain ⟨t, ht⟩ : ∃ t : Nat, (l[k]).1 = t := ⟨(l[k]).1.toNat, by omega⟩
       have hts := takN_succ l k hkl
       have hsum : takN (l.take (k + 1)) ≤ i := by
        have h1 := takN_app (l.take (k + 1)) (l.drop (k + 1))
        rw [List.take_append_drop] at h1
        omega
       have hrs := hon.1
       have hrt : res.length + t ≤ i := by rw [hts, ht, ← hrs] at hsum; simpa using hsum
       conv => whnf
       (repeat' (first | (apply kT (by with_reducible first | rfl | assumption); conv => whnf) | (apply kF (by with_reducible first | rfl | assumption); conv => whnf) | (apply kT (by decide); conv => whnf) | (apply kF (by decide); conv => whnf) | (apply kB <;> intro _ <;> conv => whnf) | fail))
       refine ⟨[], [1, 3, 9, 12, 14, 15, 16, 17], [0, 1, 3], 4, fun m s => ∃ j : Nat, j + m = t ∧
        s = ⟨[(1, .d (dU w)), (3, .ref 0 0), (9, .ref 1 0), (12, .d (dI e)), (14, .d (dI last)), (15, .own 3), (16, .d (dI k)), (17, .d (dI j))], [(0, .var false 24 [.d (dI n), .d (.seq (l.map P.stD))]), (1, .var false 37 [.d msT, .d (.seq (rnsD (runsT ws i)))]), (3, .arr 4 ((res ++ segT w res.length j).map fun b => [dB b]))], 4⟩, ?_, ?_⟩
       ·conv => whnf
        refine ⟨t, 0, by omega, ?_⟩
        have e0 : res ++ segT w res.length 0 = res := by simp
        rw [e0]
        rfl
       ·rintro m' _ ⟨j, hj, rfl⟩
        rcases Decidable.em (j < t) with hjt | hjt
        ·have g4 : decide ((j : Int) < (l[k]).1) = true := decide_eq_true (by omega)
         have hsl : ((res ++ segT w res.length j).map fun b => [dB b]).length = res.length + j := by simp
         conv => whnf
         (repeat' (first | (apply kT (by with_reducible first | rfl | assumption); conv => whnf) | (apply kF (by with_reducible first | rfl | assumption); conv => whnf) | (apply kT (by decide); conv => whnf) | (apply kF (by decide); conv => whnf) | (apply kB <;> intro _ <;> conv => whnf) | (refine ⟨k, _, rfl, hg, rfl, ?_⟩; conv => whnf) | (refine ChL.l ?_; conv => whnf) | fail))
         have wu : IntKind.u64.wrap ((((res ++ segT w res.length j).map fun b => [dB b]).length : Nat) : Int) = ((res.length + j : Nat) : Int) := by
          rw [hsl]
          exact (show ∀ z : Nat, z ≤ 40 → IntKind.u64.wrap ((z : Nat) : Int) = (z : Int) by decide) _ (by omega)
         (refine ⟨by rw [wu]; omega, ?_⟩; conv => whnf)
         (repeat' (first | (apply kT (by with_reducible first | rfl | assumption); conv => whnf) | (apply kF (by with_reducible first | rfl | assumption); conv => whnf) | (apply kT (by decide); conv => whnf) | (apply kF (by decide); conv => whnf) | (apply kB <;> intro _ <;> conv => whnf) | fail))
         (refine ⟨by decide, ?_⟩; conv => whnf)
         (repeat' (first | (apply kT (by with_reducible first | rfl | assumption); conv => whnf) | (apply kF (by with_reducible first | rfl | assumption); conv => whnf) | (apply kT (by decide); conv => whnf) | (apply kF (by decide); conv => whnf) | (apply kB <;> intro _ <;> conv => whnf) | (refine ChL.l ?_; conv => whnf) | fail))
         (refine ⟨fun el h => by rw [List.mem_singleton.1 h]; rfl, by show (_ + 1) * 1 ≤ _; rw [hsl]; omega, ?_⟩; conv => whnf)
         (repeat' (first | (apply kT (by with_reducible first | rfl | assumption); conv => whnf) | (apply kF (by with_reducible first | rfl | assumption); conv => whnf) | (apply kT (by decide); conv => whnf) | (apply kF (by decide); conv => whnf) | (apply kB <;> intro _ <;> conv => whnf) | fail))
         have wj : IntKind.i64.wrap ((j : Int) + 1) = ((j + 1 : Nat) : Int) := by
          rw [wrapI (by omega) (by omega)]; omega
         have hsg : (res ++ segT w res.length (j + 1)).map (fun b => [dB b]) = (res ++ segT w res.length j).map (fun b => [dB b]) ++ [[dB (bitT w (res.length + j))]] := by
          rw [segT_succ, ← List.append_assoc, List.map_append]
          rfl
         refine ⟨m' - 1, by omega, j + 1, by omega, ?_⟩
         rw [wj, wu, Int.toNat_natCast, hsg]
         unfold bitT
         rfl
        ·have ejt : j = t := by omega
         subst ejt
         have g4 : decide ((j : Int) < (l[k]).1) = false := decide_eq_false (by omega)
         conv => whnf
         (repeat' (first | (apply kT (by with_reducible first | rfl | assumption); conv => whnf) | (apply kF (by with_reducible first | rfl | assumption); conv => whnf) | (apply kT (by decide); conv => whnf) | (apply kF (by decide); conv => whnf) | (apply kB <;> intro _ <;> conv => whnf) | (refine ⟨k, _, rfl, hg, rfl, ?_⟩; conv => whnf) | (refine ChL.l ?_; conv => whnf) | fail))
         have hsl : ((res ++ segT w res.length j).map fun b => [dB b]).length = res.length + j := by simp
         have hrl : (rnsD (runsT ws i)).length = i := by simp
         (refine ⟨res.length + j, by rw [hsl], Nat.zero_le _, by rw [hrl]; omega, fun el h => by obtain ⟨x, _, rfl⟩ := List.mem_map.1 h; rfl, ?_⟩; conv => whnf)
         (repeat' (first | (apply kT (by with_reducible first | rfl | assumption); conv => whnf) | (apply kF (by with_reducible first | rfl | assumption); conv => whnf) | (apply kT (by decide); conv => whnf) | (apply kF (by decide); conv => whnf) | (apply kB <;> intro _ <;> conv => whnf) | fail))
         have htk : List.drop 0 ((rnsD (runsT ws i)).take (res.length + j)) = rnsD (runsT ws (res.length + j)) := by
          have h1 := cut_T ws hrt
          have h2 : (runsT ws i).take (res.length + j) = runsT ws (res.length + j) := congrArg Que.rs h1
          rw [List.drop_zero, ← h2]
          exact (List.map_take ..).symm
         (refine ⟨fun el h => by rw [htk] at h; obtain ⟨x, _, rfl⟩ := List.mem_map.1 h; rfl, by show (_ + _) * 40 ≤ _; rw [htk]; simp; omega, ?_⟩; conv => whnf)
         (repeat' (first | (apply kT (by with_reducible first | rfl | assumption); conv => whnf) | (apply kF (by with_reducible first | rfl | assumption); conv => whnf) | (apply kT (by decide); conv => whnf) | (apply kF (by decide); conv => whnf) | (apply kB <;> intro _ <;> conv => whnf) | fail))
         obtain ⟨e', hend', hle'⟩ := hlast (res.length + j) (by omega) hrt
         obtain ⟨rows', hea'⟩ := earl_some (check_T ws (res.length + j) (by omega)) hend'
         have c8' : Pure Try.prog 8 [.agg [msT, .seq ([] ++ List.drop 0 ((rnsD (runsT ws i)).take (res.length + j)))]] (.tup [.seq rows', dI e', dI 0]) := by
          rw [List.nil_append, htk, ← hea']
          exact earl_T ws (res.length + j)
         have c10 := P.plan_pure n l (by omega)
         (repeat' (first | (apply kT (by with_reducible first | rfl | assumption); conv => whnf) | (apply kF (by with_reducible first | rfl | assumption); conv => whnf) | (apply kT (by decide); conv => whnf) | (apply kF (by decide); conv => whnf) | (apply kB <;> intro _ <;> conv => whnf) | (refine .inl ⟨_, c8', ?_⟩; conv => whnf) | (refine ChC.r ?_; conv => whnf) | (refine .inl ⟨_, c10, ?_⟩; conv => whnf) | fail))
         obtain ⟨e1, hend1, hle1⟩ := hfirst (res.length + j) hrt
         have hee : e1 = e' := by rw [hend'] at hend1; exact (Option.some.inj hend1).symm
         subst hee
         have d1 : decide ((e1 : Int) < (last : Int)) = false := decide_eq_false (by omega)
         have d2 : decide ((e1 : Int) > (e : Int)) = false := decide_eq_false (by omega)
         have hdr : l.drop k = l[k] :: l.drop (k + 1) := (List.getElem_cons_drop ..).symm
         have hsgl : (segT w res.length j).length = (l[k]).1.toNat := by rw [ht]; simp
         have c9 := P.play_pure n l (by omega) hi (res ++ segT w res.length j) (by simp; omega)
         have hpa := play_at2 hc hon hdr hsgl
         (refine ⟨fun el h => by obtain ⟨x, _, rfl⟩ := List.mem_map.1 h; rfl, by show _ * 1 ≤ _; rw [hsl]; omega, ?_⟩; conv => whnf)
         rcases hpa with ⟨q1, q2⟩ | ⟨q1, q2⟩
         ·rw [q2] at c9
          dsimp only at c9
          have d3 : (P.saidN l[k] res (segT w res.length j) != 3) = true := by rw [bne_iff_ne]; exact q1
          (repeat' (first | (apply kT (by with_reducible first | rfl | assumption); conv => whnf) | (apply kF (by with_reducible first | rfl | assumption); conv => whnf) | (apply kT (by decide); conv => whnf) | (apply kF (by decide); conv => whnf) | (apply kB <;> intro _ <;> conv => whnf) | (refine .inl ⟨_, c9, ?_⟩; conv => whnf) | (refine ChC.r ?_; conv => whnf) | (refine .inl ⟨_, waits_pure, ?_⟩; conv => whnf) | fail))
          rfl
         ·rcases q2 with q2 | ⟨s2, r2, hr, q2⟩
          ·rw [q2] at hdr
           exact absurd q1 (P.last_said he hdr _ _)
          ·have hk1 : k + 1 < l.length := Nat.lt_of_not_le fun hge => by rw [List.drop_of_length_le hge] at hr; cases hr
           have hls : l[k + 1] = s2 := by
            have := List.getElem_cons_drop (h := hk1)
            rw [hr] at this
            exact (List.cons.inj this).1
           have hs1 := fit_mem l 0 hf (k + 1) hk1
           rw [hls] at hs1
           rw [q2 hs1.1] at c9
           dsimp only at c9
           have hg1 := P.getD? l (k + 1) hk1
           rw [hls] at hg1
           have wk1 : IntKind.i64.wrap ((k : Int) + 1) = ((k + 1 : Nat) : Int) := by
            rw [wrapI (by omega) (by omega)]; omega
           have d4 : (IntKind.i64.wrap ((k : Int) + 1) == ((l.map P.stD).length : Int)) = false := by
            rw [wk1, beq_eq_false_iff_ne, hml]; omega
           have d5 : ((s2.1.toNat : Int) != s2.1) = false := by
            rw [bne_eq_false_iff_eq]; omega
           (repeat' (first | (apply kT (by with_reducible first | rfl | assumption); conv => whnf) | (apply kF (by with_reducible first | rfl | assumption); conv => whnf) | (apply kT (by decide); conv => whnf) | (apply kF (by decide); conv => whnf) | (apply kB <;> intro _ <;> conv => whnf) | (refine .inl ⟨_, c9, ?_⟩; conv => whnf) | (refine ChC.r ?_; conv => whnf) | (refine ⟨k + 1, _, wk1, hg1, rfl, ?_⟩; conv => whnf) | fail))
           (refine ⟨[0, 1, 2, 3], ?_⟩; conv => whnf)
           have hns : (res ++ segT w res.length j).length = res.length + j := by simp
           refine ⟨m - 1, by omega, k + 1, res ++ segT w res.length j, e1, by omega, hk1, P.on_step hon (by rw [hdr, hr]) hsgl q1, fun T' h1 h2 => ?_, ?_⟩
           ·rw [hns] at h1
            obtain ⟨e2, g5, g6⟩ := earl_mono ws i hT h1 h2 hfirst hend1
            exact ⟨e2, g5, g6⟩
           ·rw [wk1]
            rfl
end Go.Ev.Ytijidghjiaiccaa


set_option linter.unusedVariables false
set_option linter.unusedSimpArgs false
namespace Go.Ev.Ytijidghjiaiccaa
open Go.Proofs
open P (S3 plD InR InS stD)
theorem map_of {α β : Type} {f : α → β} {q : α → Prop} : ∀ {es : List β}, (∀ el ∈ es, ∃ x, el = f x ∧ q x) → ∃ l : List α, es = l.map f ∧ ∀ x ∈ l, q x
 | [], _ => ⟨[], rfl, fun x hx => by cases hx⟩
 | e :: es, h => by
  obtain ⟨x, rfl, hq⟩ := h e (by simp)
  obtain ⟨l, rfl, hl⟩ := map_of (es := es) fun el he => h el (by simp [he])
  exact ⟨x :: l, rfl, fun y hy => by
   rcases List.mem_cons.1 hy with rfl | hy
   ·exact hq
   ·exact hl y hy⟩
theorem inR_of {n : Int} (h : (Lit.int .i64 n).wf = true) : InR n := by
 have := bounds_i64 h
 unfold InR; omega
theorem byte_of {n : Int} (h : (Lit.int .u8 n).wf = true) : 0 ≤ n ∧ n ≤ 255 := by
 have h : IntKind.u8.min ≤ n ∧ n ≤ IntKind.u8.max := by simpa [Lit.wf] using h
 have h1 : IntKind.u8.min = 0 := rfl
 have h2 : IntKind.u8.max = 255 := rfl
 omega
theorem okV_plan {d : D} (h : OkV tb 6 24 d) : ∃ lot l, d = plD lot l ∧ InR lot ∧ l.length ≤ 9223372036854775807 ∧ ∀ x ∈ l, InS x := by
 obtain ⟨y, ds, hy, hd, rfl⟩ := h
 cases hy
 obtain ⟨d1, d2, rfl, ⟨lot, rfl, hw⟩, d3, d4, rfl, ⟨es, rfl, hlen, hel⟩, rfl⟩ := hd
 obtain ⟨l, rfl, hl⟩ := map_of (f := stD) (q := InS) (es := es) fun el he => by
  obtain ⟨a1, r1, rfl, ⟨i1, rfl, w1⟩, a2, r2, rfl, ⟨i2, rfl, w2⟩, a3, r3, rfl, ⟨i3, rfl, w3⟩, rfl⟩ := hel el he
  exact ⟨(i1, i2, i3), rfl, inR_of w1, inR_of w2, inR_of w3⟩
 exact ⟨lot, l, rfl, inR_of hw, by simpa [maxLen] using hlen, hl⟩
theorem okV_u8 {d : D} (h : OkV tb 6 5 d) : ∃ w : Int, d = dU w ∧ 0 ≤ w ∧ w ≤ 255 := by
 obtain ⟨y, ds, hy, hd, rfl⟩ := h
 cases hy
 obtain ⟨i, rfl, hw⟩ := hd
 exact ⟨i, rfl, byte_of hw⟩
theorem okV_us {d : D} (h : OkV tb 6 25 d) : ∃ l : List Int, d = usD l ∧ l.length ≤ 9223372036854775807 ∧ ∀ x ∈ l, 0 ≤ x ∧ x ≤ 255 := by
 obtain ⟨y, ds, hy, hd, rfl⟩ := h
 cases hy
 obtain ⟨es, rfl, hlen, hel⟩ := hd
 obtain ⟨l, rfl, hl⟩ := map_of (f := fun x : Int => [dU x]) (q := fun x => 0 ≤ x ∧ x ≤ 255) (es := es) fun el he => by
  obtain ⟨i, rfl, hw⟩ := hel el he
  exact ⟨i, rfl, byte_of hw⟩
 exact ⟨l, rfl, by simpa [maxLen] using hlen, hl⟩
theorem law_own : ownKnob Try.prog.godebug = none := by kernel_rfl
theorem law_laid : laidOutB Try.prog = true := by kernel_rfl
end Go.Ev.Ytijidghjiaiccaa

