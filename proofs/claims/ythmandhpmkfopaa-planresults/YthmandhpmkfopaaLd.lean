/-
  Contracts of functions, and plain laws, that lead to the statement. Written by an agent.
-/
import Derived.Test.YthmandhpmkfopaaLc
set_option linter.unusedVariables false
set_option linter.unusedSimpArgs false
set_option maxRecDepth 100000
namespace Go.Ev.Ythmandhpmkfopaa
open Go.Proofs
/-- a lot is accepted or rejected -/
def Dcd (x : Int × Int × Int) : Prop := (x.1 = 1 ∨ x.1 = 2) ∧ x.2.1 = 0 ∧ x.2.2 = 0
def Opn (x : Int × Int × Int) (n : Nat) : Prop := x = (3, (n : Int), 0)
theorem says_end {a r b : Int} (h : r = a + 1) : says a r b ≠ 3 := by
  unfold says
  split
  · decide
  · rw [if_pos (by omega)]; decide
theorem says_two {a r b : Int} (h : says a r b ≠ 3) : says a r b = 1 ∨ says a r b = 2 := by
  unfold says at h ⊢
  split at h
  · rename_i h1; rw [if_pos h1]; exact .inl rfl
  · rename_i h1
    split at h
    · rename_i h2; rw [if_neg h1, if_pos h2]; exact .inr rfl
    · exact absurd rfl h
/-- how many bad ones a stage has -/
def blk (res : List Bool) (taken t : Nat) : Nat := badN ((res.take (taken + t)).drop taken)
theorem playN_cons (res : List Bool) (s : S3) (r : List S3) (taken bad : Nat) (v : Int) : playN res (s :: r) taken bad v =
    if res.length < taken + s.1.toNat then (3, ((taken + s.1.toNat - res.length : Nat) : Int), 0)
    else if says s.2.1 s.2.2 ((bad + blk res taken s.1.toNat : Nat) : Int) ≠ 3 then
      (if taken + s.1.toNat < res.length then (0, 0, 2) else (says s.2.1 s.2.2 ((bad + blk res taken s.1.toNat : Nat) : Int), 0, 0))
    else playN res r (taken + s.1.toNat) (bad + blk res taken s.1.toNat) 3 := rfl
theorem blk_pre {res ext : List Bool} {taken t : Nat} (h : taken + t ≤ res.length) : blk (res ++ ext) taken t = blk res taken t := by
  unfold blk; rw [List.take_append_of_le_length h]
/-- whatever is said: too many results, a verdict, or open -/
theorem play_kinds (res : List Bool) : ∀ (r : List S3) (taken bad : Nat) (v : Int), Ends r → (playN res r taken bad v).2.2 = 2 ∨ Dcd (playN res r taken bad v) ∨ ∃ n, 1 ≤ n ∧ Opn (playN res r taken bad v) n
  | [], _, _, _, h => h.elim
  | s :: r, taken, bad, v, he => by
    rw [playN_cons]
    split
    · rename_i h; exact .inr (.inr ⟨_, by omega, rfl⟩)
    · split
      · rename_i h1 h2
        split
        · exact .inl rfl
        · exact .inr (.inl ⟨says_two h2, rfl, rfl⟩)
      · rename_i h1 h2
        cases r with
        | nil => exact absurd (says_end he) h2
        | cons s' r => exact play_kinds res (s' :: r) _ _ _ he
/-- with one result less -/
theorem play_less (res : List Bool) (x : Bool) : ∀ (r : List S3) (taken bad : Nat) (v : Int), Ends r → taken ≤ (res ++ [x]).length → (playN (res ++ [x]) r taken bad v).2.2 = 2 →
    taken < (res ++ [x]).length ∧ ((playN res r taken bad v).2.2 = 2 ∨ Dcd (playN res r taken bad v))
  | [], _, _, _, h, _, _ => h.elim
  | s :: r, taken, bad, v, he, ht, h => by
    rw [playN_cons] at h
    rw [playN_cons]
    have hlen : (res ++ [x]).length = res.length + 1 := by simp
    rw [hlen] at h ht ⊢
    split at h
    · cases h
    · rename_i h1
      split at h
      · rename_i h2
        split at h
        · rename_i h3
          have hb : blk (res ++ [x]) taken s.1.toNat = blk res taken s.1.toNat := blk_pre (by omega)
          rw [hb] at h2
          refine ⟨by omega, ?_⟩
          rw [if_neg (by omega), if_pos h2]
          split
          · exact .inl rfl
          · exact .inr ⟨says_two h2, rfl, rfl⟩
        · have := says_two h2
          cases h
      · rename_i h2
        cases r with
        | nil => exact absurd (says_end he) h2
        | cons s' r =>
          obtain ⟨q1, q2⟩ := play_less res x (s' :: r) _ _ _ he (by rw [hlen]; omega) h
          rw [hlen] at q1
          have hb : blk (res ++ [x]) taken s.1.toNat = blk res taken s.1.toNat := blk_pre (by omega)
          rw [hb] at h2 q2
          refine ⟨by omega, ?_⟩
          rw [if_neg (by omega), if_neg h2]
          exact q2
/-- the stages that are not full -/
def left (res : List Bool) : List S3 → Nat → Nat
  | [], _ => 0
  | s :: r, taken => if res.length < taken + s.1.toNat then r.length + 1 else left res r (taken + s.1.toNat)
theorem left_le (res : List Bool) : ∀ (r : List S3) (taken : Nat), left res r taken ≤ r.length
  | [], _ => Nat.le_refl _
  | s :: r, taken => by
    rw [left]
    split
    · exact Nat.le_refl _
    · exact Nat.le_trans (left_le res r _) (Nat.le_succ _)
/-- open results go on -/
theorem play_more (lot : Nat) (res ext : List Bool) : ∀ (r : List S3) (taken bad : Nat) (v : Int), Ends r → Fit lot taken r → taken ≤ res.length → ∀ n, Opn (playN res r taken bad v) n → n ≤ lot ∧ 1 ≤ left res r taken ∧ (ext.length = n →
    Dcd (playN (res ++ ext) r taken bad v) ∨ ∃ m, 1 ≤ m ∧ Opn (playN (res ++ ext) r taken bad v) m ∧ left (res ++ ext) r taken + 1 ≤ left res r taken)
  | [], _, _, _, h, _, _, _, _ => h.elim
  | s :: r, taken, bad, v, he, hf, ht, n, ho => by
    obtain ⟨t, f1, f2, f3, f4⟩ := hf
    have e1 : s.1.toNat = t := by rw [f1, Int.toNat_natCast]
    unfold Opn at ho
    rw [playN_cons, e1] at ho
    rw [playN_cons, left, left, e1]
    by_cases h1 : res.length < taken + t
    · rw [if_pos h1] at ho
      rw [if_pos h1]
      simp only [Prod.mk.injEq, true_and, and_true] at ho
      have hn : n = taken + t - res.length := by omega
      refine ⟨by omega, by omega, fun hx => ?_⟩
      have hl : (res ++ ext).length = taken + t := by rw [List.length_append]; omega
      have hlt : ¬ (taken + t < taken + t) := by omega
      rw [hl, if_neg hlt, if_neg hlt]
      split
      · rename_i h2
        exact .inl ⟨says_two h2, rfl, rfl⟩
      · rename_i h2
        cases r with
        | nil => exact absurd (says_end he) h2
        | cons s' r =>
          obtain ⟨t', g1, g2, g3, g4⟩ := f4
          have e2 : s'.1.toNat = t' := by rw [g1, Int.toNat_natCast]
          rw [playN_cons, hl, e2, if_pos (by omega)]
          refine .inr ⟨_, by omega, rfl, ?_⟩
          rw [left, hl, e2, if_pos (by omega)]
          simp
    · rw [if_neg h1] at ho
      rw [if_neg h1]
      have hlx : ¬ (res ++ ext).length < taken + t := by rw [List.length_append]; omega
      rw [if_neg hlx, if_neg hlx, blk_pre (by omega)]
      split at ho
      · rename_i h2
        split at ho
        · simp at ho
        · exfalso
          have := says_two h2
          simp only [Prod.mk.injEq] at ho
          omega
      · rename_i h2
        rw [if_neg h2]
        cases r with
        | nil => exact absurd (says_end he) h2
        | cons s' r => exact play_more lot res ext (s' :: r) _ _ _ he f4 (by omega) n ho
/-- each stage turned round -/
def turnR : List S3 → List Bool → List Bool
  | [], res => res
  | s :: r, res => if s.1.toNat ≤ res.length then (res.take s.1.toNat).reverse ++ turnR r (res.drop s.1.toNat) else res
theorem turnR_len : ∀ (r : List S3) (res : List Bool), (turnR r res).length = res.length
  | [], _ => rfl
  | s :: r, res => by
    rw [turnR]
    split
    · rename_i h
      rw [List.length_append, List.length_reverse, turnR_len r, List.length_take, List.length_drop]; omega
    · rfl
theorem badN_rev (l : List Bool) : badN l.reverse = badN l := by unfold badN; exact List.countP_reverse ..
theorem play_turn (res : List Bool) : ∀ (r : List S3) (pre : List Bool) (bad : Nat) (v : Int), pre.length ≤ res.length → playN (pre ++ turnR r (res.drop pre.length)) r pre.length bad v = playN res r pre.length bad v
  | [], pre, bad, v, h => by
    have : (pre ++ turnR [] (res.drop pre.length)).length = res.length := by rw [List.length_append, turnR_len, List.length_drop]; omega
    simp only [playN, this]
  | s :: r, pre, bad, v, h => by
    have hl : (pre ++ turnR (s :: r) (res.drop pre.length)).length = res.length := by rw [List.length_append, turnR_len, List.length_drop]; omega
    rw [playN_cons, playN_cons, hl]
    by_cases h1 : res.length < pre.length + s.1.toNat
    · rw [if_pos h1, if_pos h1]
    · have hd : s.1.toNat ≤ (res.drop pre.length).length := by rw [List.length_drop]; omega
      have e1 : turnR (s :: r) (res.drop pre.length) = ((res.drop pre.length).take s.1.toNat).reverse ++ turnR r ((res.drop pre.length).drop s.1.toNat) := by rw [turnR, if_pos hd]
      have hk : ((res.drop pre.length).take s.1.toNat).reverse.length = s.1.toNat := by rw [List.length_reverse, List.length_take]; omega
      have hb : blk (pre ++ turnR (s :: r) (res.drop pre.length)) pre.length s.1.toNat = blk res pre.length s.1.toNat := by
        unfold blk
        rw [e1, ← List.append_assoc]
        have l1 : (pre ++ ((res.drop pre.length).take s.1.toNat).reverse).length = pre.length + s.1.toNat := by rw [List.length_append, hk]
        rw [← l1, List.take_left, List.drop_left, badN_rev, List.drop_take]
        congr 2
        rw [l1]; omega
      rw [if_neg h1, if_neg h1, hb]
      split
      · rfl
      · have ih := play_turn res r (pre ++ ((res.drop pre.length).take s.1.toNat).reverse) (bad + blk res pre.length s.1.toNat) 3 (by rw [List.length_append, hk]; omega)
        rw [List.length_append, hk, ← List.drop_drop, List.append_assoc, ← e1] at ih
        exact ih
theorem turn_same (l : List S3) (res : List Bool) : playN (turnR l res) l 0 0 0 = playN res l 0 0 0 := by
  have := play_turn res l [] 0 0 (Nat.zero_le _)
  simpa using this
/-- a verdict by just so many results: the stages are full, one by one -/
theorem play_step {res : List Bool} {s : S3} {r : List S3} {taken bad : Nat} {v : Int} (he : Ends (s :: r)) (h : Dcd (playN res (s :: r) taken bad v)) :
    taken + s.1.toNat ≤ res.length ∧ (taken + s.1.toNat = res.length ∨ (Ends r ∧ ∃ bad' v', Dcd (playN res r (taken + s.1.toNat) bad' v'))) := by
  rw [playN_cons] at h
  split at h
  · obtain ⟨h1, _, _⟩ := h
    simp at h1
  · rename_i h1
    refine ⟨by omega, ?_⟩
    split at h
    · split at h
      · obtain ⟨h2, _, _⟩ := h; simp at h2
      · exact .inl (by omega)
    · rename_i h2
      cases r with
      | nil => exact absurd (says_end he) h2
      | cons s' r => exact .inr ⟨he, _, _, h⟩
end Go.Ev.Ythmandhpmkfopaa

set_option linter.unusedVariables false
set_option linter.unusedSimpArgs false
set_option maxRecDepth 100000
namespace Go.Ev.Ythmandhpmkfopaa
open Go.Proofs
attribute [local irreducible] Pure Bor Iter tri C memo goN check accR cntR restN chP chQ playN playI turnR left
abbrev bL (l : List Bool) : List (List D) := l.map fun b => [dB b]
abbrev PN (l : List S3) (res : List Bool) : Int × Int × Int := playN res l 0 0 0
theorem play_at {n : Nat} {l : List S3} (hl : l.length ≤ 3) (hr : ∀ x ∈ l, InS x) (hc : check n l = 0) (res : List Bool) (hres : res.length < 2 ^ 62) :
    Pure Try.prog 24 [plD n l, bsD res] (.tup [dU (PN l res).1, dI (PN l res).2.1, dI (PN l res).2.2]) := by
  have h := play_pure n l (by omega) hr res hres
  have e : playI n l res = playN res l 0 0 0 := by unfold playI; rw [if_neg (by simp [hc])]
  rw [e] at h
  exact h
theorem play_nil {l : List S3} {n : Nat} (hf : Fit n 0 l) (he : Ends l) : (PN l []).2.2 = 0 ∧ (PN l []).1 = 3 := by
  match l, hf, he with
  | s :: r, ⟨t, f1, f2, f3, _⟩, he =>
    have e1 : s.1.toNat = t := by rw [f1, Int.toNat_natCast]
    unfold PN
    rw [playN_cons, e1, if_pos (by simp; omega)]
    exact ⟨rfl, rfl⟩
theorem play_drop {l : List S3} {r : List Bool} (he : Ends l) (hr : r ≠ []) (h : (PN l r).2.2 = 2) : (PN l r.dropLast).2.2 = 2 ∨ Dcd (PN l r.dropLast) := by
  have e := List.dropLast_concat_getLast hr
  have := play_less r.dropLast (r.getLast hr) l 0 0 0 he (Nat.zero_le _) (by rw [e]; exact h)
  exact this.2
theorem take_last (r : List Bool) : (bL r).take (r.length - 1) = bL r.dropLast := by
  unfold bL
  rw [← List.map_take, List.dropLast_eq_take]
theorem elB (r : List Bool) : ∀ el ∈ bL r, el.length = 1 := by
  intro el he; obtain ⟨b, _, rfl⟩ := List.mem_map.1 he; rfl
theorem byB (r : List Bool) (h : r.length ≤ 1000) : (0 + (bL r).length) * 1 ≤ 140737488355328 := by rw [List.length_map]; omega
theorem bL_snoc (r : List Bool) (b : Bool) : bL (r ++ [b]) = bL r ++ [[dB b]] := by simp
theorem oneB (b : Bool) : ∀ el ∈ [[dB b]], el.length = 1 := by intro el he; simp at he; subst he; rfl
theorem by1 (r : List Bool) (h : r.length ≤ 1000) : ((bL r).length + 1) * 1 ≤ 140737488355328 := by rw [List.length_map]; omega
theorem fit_at2 {n : Nat} : ∀ (l : List S3) (taken : Nat), Fit n taken l → ∀ i (h : i < l.length), ∃ t : Nat, (l[i]'h).1 = t ∧ 1 ≤ t ∧ t ≤ n
  | [], _, _, i, h => by simp at h
  | s :: r, taken, ⟨t, h1, h2, h3, h4⟩, i, h => by
    cases i with
    | zero => exact ⟨t, h1, h2, by omega⟩
    | succ i => exact fit_at2 r (taken + t) h4 i (by simpa using h)
theorem turn_set {done r : List Bool} {fr t k : Nat} (hd : done.length = fr) (hk : k < t) (ht : fr + t ≤ r.length) :
    (bL (done ++ ((r.drop fr).take t).reverse.take k ++ r.drop (fr + k))).set (fr + k) [dB (r[fr + t - 1 - k]'(by omega))] = bL (done ++ ((r.drop fr).take t).reverse.take (k + 1) ++ r.drop (fr + (k + 1))) := by
  have hrl : ((r.drop fr).take t).reverse.length = t := by rw [List.length_reverse, List.length_take, List.length_drop]; omega
  have e1 : ((r.drop fr).take t).reverse.take (k + 1) = ((r.drop fr).take t).reverse.take k ++ [r[fr + t - 1 - k]'(by omega)] := by
    rw [List.take_succ_eq_append_getElem (by omega)]
    congr 2
    rw [List.getElem_reverse, List.getElem_take, List.getElem_drop]
    congr 1
    rw [List.length_take, List.length_drop]; omega
  have e2 : r.drop (fr + k) = (r[fr + k]'(by omega)) :: r.drop (fr + k + 1) := (List.getElem_cons_drop ..).symm
  have hl : (done ++ ((r.drop fr).take t).reverse.take k).length = fr + k := by rw [List.length_append, List.length_take, hrl, hd]; omega
  have e3 : ∀ (a c : List Bool) (x y : Bool), a.length = fr + k → (a ++ x :: c).set (fr + k) y = a ++ y :: c := by
    intro a c x y ha
    rw [List.set_append, if_neg (by omega), ha, Nat.sub_self, List.set_cons_zero]
  unfold bL
  rw [← List.map_set, e1, e2, e3 _ _ _ _ hl]
  simp [Nat.add_assoc]
theorem dcd_facts {x : Int × Int × Int} (h : Dcd x) : (x.2.2 == 0) = true ∧ (x.2.2 == 2) = false ∧ (x.2.2 != 0) = false ∧ (x.2.1 == 0) = true ∧ (x.2.1 != 0) = false ∧ (x.1 == 3) = false ∧
    (((x.1 == 1) = true ∧ (x.1 != 1) = false) ∨ ((x.1 == 1) = false ∧ (x.1 != 1) = true ∧ (x.1 == 2) = true ∧ (x.1 != 2) = false)) := by
  obtain ⟨a, b, c⟩ := x
  obtain ⟨h1, h2, h3⟩ := h
  dsimp only at h1 h2 h3 ⊢
  subst h2 h3
  refine ⟨rfl, rfl, rfl, rfl, rfl, ?_, ?_⟩
  · rcases h1 with rfl | rfl <;> rfl
  · rcases h1 with rfl | rfl
    · exact .inl ⟨rfl, rfl⟩
    · exact .inr ⟨rfl, rfl, rfl, rfl⟩
set_option maxHeartbeats 4000000 in
theorem results_pure (lot : Int) (l : List S3) (hl : l.length ≤ 9223372036854775807) (hr : ∀ x ∈ l, InS x) (res : List Bool) (hres : res.length ≤ 9223372036854775807) (ws : List Int) (hws : ws.length ≤ 9223372036854775807) (hw : ∀ x ∈ ws, 0 ≤ x ∧ x ≤ 255) :
    Pure Try.prog 8 [plD lot l, bsD res, .seq (ws.map fun w => [dU w])] (dB true) := by
  have rp := ready_pure lot l hr
  have hml : ((List.map (fun b => [dB b]) res).length : Int) = (res.length : Int) := by rw [List.length_map]
  by_cases hrd : readyB lot l = true
  · have hrd' : (!readyB lot l) = false := by rw [hrd]; rfl
    by_cases h40 : res.length ≤ 40
    · have h40' : decide (((List.map (fun b => [dB b]) res).length : Int) > 40) = false := by rw [hml, decide_eq_false_iff_not]; omega
      have hc0 := hrd
      unfold readyB at hc0
      rw [Bool.and_eq_true, decide_eq_true_eq, beq_iff_eq] at hc0
      obtain ⟨n, rfl, hn1, hn2, hl3, hf, he⟩ := check_good hr hc0.2
      have hc := hc0.2
      have pp := plan_pure n l (by omega)
      have p0 := play_at hl3 hr hc res (by omega)
      rcases play_kinds res l 0 0 0 he with hk | hk
      · have g1 : ((PN l res).2.2 != 0) = true := by rw [hk]; rfl
        have g2 : ((PN l res).2.2 != 2) = false := by rw [hk]; rfl
        have hne : res ≠ [] := by
          intro h; rw [h] at hk
          have := (play_nil hf he).1
          unfold PN at this; omega
        have g3 : (((([] : List (List D)) ++ List.map (fun b => [dB b]) res).length : Int) == 0) = false := by
          rw [List.nil_append, hml, beq_eq_false_iff_ne]
          have := List.length_pos_iff.2 hne
          omega
        refine pure_of pg Try.func8 (by kernel_rfl) ?_
        conv => whnf
        (repeat' (first | (apply kT (by with_reducible first | rfl | assumption); conv => whnf) | (apply kF (by with_reducible first | rfl | assumption); conv => whnf) | (apply kT (by decide); conv => whnf) | (apply kF (by decide); conv => whnf) | (apply kB <;> intro _ <;> conv => whnf) | (refine .inl ⟨_, rp, ?_⟩; conv => whnf) | fail))
        (refine ⟨elB res, byB res (by omega), ?_⟩; conv => whnf)
        (refine .inl ⟨_, pp, ?_⟩; conv => whnf)
        (refine ⟨elB res, byB res (by omega), ?_⟩; conv => whnf)
        (refine .inl ⟨_, p0, ?_⟩; conv => whnf)
        (repeat' (first | (apply kT (by with_reducible first | rfl | assumption); conv => whnf) | (apply kF (by with_reducible first | rfl | assumption); conv => whnf) | (apply kT (by decide); conv => whnf) | (apply kF (by decide); conv => whnf) | (apply kB <;> intro _ <;> conv => whnf) | fail))
        refine ⟨[], [3, 7, 8, 9, 10], [0, 1], 2, fun m s => ∃ r : List Bool, r.length = m ∧ m ≤ 40 ∧ ((PN l r).2.2 = 2 ∨ Dcd (PN l r)) ∧
          s = ⟨[(3, .ref 0 0), (7, .own 1), (8, .d (dU (PN l r).1)), (9, .d (dI (PN l r).2.1)), (10, .d (dI (PN l r).2.2))], [(0, .var false 24 [.d (dI n), .d (.seq (l.map stD))]), (1, .arr 4 (bL r))], 2⟩, ?_, ?_⟩
        · conv => whnf
          exact ⟨res.length, res, rfl, h40, .inl hk, rfl⟩
        · rintro m _ ⟨r, hm, hm40, hrr, rfl⟩
          have hlr : ((bL r).length : Int) = r.length := by rw [List.length_map]
          refine hrr.elim (fun h => ?_) (fun h => ?_)
          · have hner : r ≠ [] := fun e => by
              rw [e] at h
              have := (play_nil hf he).1
              omega
            have hpos := List.length_pos_iff.2 hner
            have q1 : decide (((bL r).length : Int) > 0) = true := by rw [hlr, decide_eq_true_eq]; omega
            have q2 : ((PN l r).2.2 == 2) = true := by rw [h]; rfl
            have q3 : IntKind.i64.wrap (((bL r).length : Int) - 1) = ((r.length - 1 : Nat) : Int) := by rw [hlr]; exact (wrapI (by omega) (by omega)).trans (by omega)
            have hdl : r.dropLast.length = r.length - 1 := List.length_dropLast ..
            have p1 := play_at hl3 hr hc r.dropLast (by omega)
            have q4 := play_drop he hner h
            conv => whnf
            (repeat' (first | (apply kT (by with_reducible first | rfl | assumption); conv => whnf) | (apply kF (by with_reducible first | rfl | assumption); conv => whnf) | (apply kT (by decide); conv => whnf) | (apply kF (by decide); conv => whnf) | (apply kB <;> intro _ <;> conv => whnf) | fail))
            (refine ⟨r.length - 1, q3, by rw [List.length_map]; omega, bL r.dropLast, take_last r, ?_⟩; conv => whnf)
            (refine .inl ⟨_, pp, ?_⟩; conv => whnf)
            (refine ⟨elB r.dropLast, byB r.dropLast (by omega), ?_⟩; conv => whnf)
            (refine .inl ⟨_, p1, ?_⟩; conv => whnf)
            exact ⟨m - 1, by omega, r.dropLast, by omega, by omega, q4, rfl⟩
          · obtain ⟨d1, d2, d3, d4, d5, d6, d7⟩ := dcd_facts h
            refine d7.elim (fun d7 => ?_) (fun d7 => ?_)
            · have d8 := d7.1
              have d9 := d7.2
              conv => whnf
              (repeat' (first | (apply kT (by with_reducible first | rfl | assumption); conv => whnf) | (apply kF (by with_reducible first | rfl | assumption); conv => whnf) | (apply kT (by decide); conv => whnf) | (apply kF (by decide); conv => whnf) | (apply kB <;> intro _ <;> conv => whnf) | (refine .inl ⟨_, wakes_pure, ?_⟩; conv => whnf) | fail))
              all_goals rfl
            · have d8 := d7.1
              have d9 := d7.2.1
              have d10 := d7.2.2.1
              have d11 := d7.2.2.2
              conv => whnf
              (repeat' (first | (apply kT (by with_reducible first | rfl | assumption); conv => whnf) | (apply kF (by with_reducible first | rfl | assumption); conv => whnf) | (apply kT (by decide); conv => whnf) | (apply kF (by decide); conv => whnf) | (apply kB <;> intro _ <;> conv => whnf) | (refine .inl ⟨_, wakes_pure, ?_⟩; conv => whnf) | fail))
              all_goals rfl
      · have hk2 : (PN l res).2.2 = 0 := by
          rcases hk with ⟨_, _, h⟩ | ⟨k, _, h⟩
          · exact h
          · unfold Opn at h; unfold PN; rw [h]
        have hk3 : Dcd (PN l res) ∨ ∃ k, 1 ≤ k ∧ Opn (PN l res) k ∧ left res l 0 + 0 ≤ 3 := by
          rcases hk with h | ⟨k, h1, h⟩
          · exact .inl h
          · exact .inr ⟨k, h1, h, Nat.le_trans (left_le res l 0) hl3⟩
        have g1 : ((PN l res).2.2 != 0) = false := by rw [hk2]; rfl
        refine pure_of pg Try.func8 (by kernel_rfl) ?_
        conv => whnf
        (repeat' (first | (apply kT (by with_reducible first | rfl | assumption); conv => whnf) | (apply kF (by with_reducible first | rfl | assumption); conv => whnf) | (apply kT (by decide); conv => whnf) | (apply kF (by decide); conv => whnf) | (apply kB <;> intro _ <;> conv => whnf) | (refine .inl ⟨_, rp, ?_⟩; conv => whnf) | fail))
        (refine ⟨elB res, byB res (by omega), ?_⟩; conv => whnf)
        (refine .inl ⟨_, pp, ?_⟩; conv => whnf)
        (refine ⟨elB res, byB res (by omega), ?_⟩; conv => whnf)
        (refine .inl ⟨_, p0, ?_⟩; conv => whnf)
        (repeat' (first | (apply kT (by with_reducible first | rfl | assumption); conv => whnf) | (apply kF (by with_reducible first | rfl | assumption); conv => whnf) | (apply kT (by decide); conv => whnf) | (apply kF (by decide); conv => whnf) | (apply kB <;> intro _ <;> conv => whnf) | fail))
        refine ⟨[], [2, 3, 7, 8, 9, 11], [0, 1], 2, fun m s => ∃ (turn : Nat) (r : List Bool), turn + m = 3 ∧ r.length ≤ 40 + 30 * turn ∧ (Dcd (PN l r) ∨ ∃ k, 1 ≤ k ∧ Opn (PN l r) k ∧ left r l 0 + turn ≤ 3) ∧
          s = ⟨[(2, .d (.seq (ws.map fun w => [dU w]))), (3, .ref 0 0), (7, .own 1), (8, .d (dU (PN l r).1)), (9, .d (dI (PN l r).2.1)), (11, .d (dI turn))], [(0, .var false 24 [.d (dI n), .d (.seq (l.map stD))]), (1, .arr 4 (bL r))], 2⟩, ?_, ?_⟩
        · conv => whnf
          exact ⟨3, 0, res, rfl, h40, hk3, rfl⟩
        · rintro m _ ⟨turn, r, hm, hlr, hrr, rfl⟩
          have hbr : ((bL r).length : Int) = r.length := by rw [List.length_map]
          refine hrr.elim (fun hd => ?_) (fun ho => ?_)
          · obtain ⟨d1, d2, d3, d4, d5, d6, d7⟩ := dcd_facts hd
            have dv : ((PN l r).1 == (PN l r).1) = true := by simp
            have d8 : ((PN l r).1 != 1) = false ∨ (((PN l r).1 != 1) = true ∧ ((PN l r).1 != 2) = false) := by
              rcases d7 with ⟨_, h⟩ | ⟨_, h, _, h'⟩
              · exact .inl h
              · exact .inr ⟨h, h'⟩
            have hr130 : r.length ≤ 130 := by omega
            refine d8.elim (fun d9 => ?_) (fun d9' => ?_)
            all_goals
            first
            | have d9 := d9'.1
              have d10 := d9'.2
              skip
            | skip
            all_goals
            conv => whnf
            (repeat' (first | (apply kT (by with_reducible first | rfl | assumption); conv => whnf) | (apply kF (by with_reducible first | rfl | assumption); conv => whnf) | (apply kT (by decide); conv => whnf) | (apply kF (by decide); conv => whnf) | (apply kB <;> intro _ <;> conv => whnf) | fail))
            all_goals
            (refine ⟨elB r, byB r (by omega), ?_⟩; conv => whnf)
            refine ⟨[], [3, 7, 8, 13, 14, 15], [0, 1, 2], 3, fun m s => ∃ (i fr : Nat) (done : List Bool), i + m = l.length ∧ fr ≤ r.length ∧ done.length = fr ∧ done ++ turnR (l.drop i) (r.drop fr) = turnR l r ∧
              (fr = r.length ∨ (Ends (l.drop i) ∧ ∃ bad v, Dcd (playN r (l.drop i) fr bad v))) ∧
              s = ⟨[(3, .ref 0 0), (7, .own 1), (8, .d (dU (PN l r).1)), (13, .own 2), (14, .d (dI fr)), (15, .d (dI i))], [(0, .var false 24 [.d (dI n), .d (.seq (l.map stD))]), (1, .arr 4 (bL r)), (2, .arr 4 (bL (done ++ r.drop fr)))], 3⟩, ?_, ?_⟩
            · conv => whnf
              exact ⟨l.length, 0, 0, [], by simp, by omega, rfl, by simp, .inr ⟨by simpa using he, 0, 0, by simpa using hd⟩, rfl⟩
            · rintro m' _ ⟨i, fr, done, hi, hfr, hdl, hT, hst, rfl⟩
              have hll : ((List.map stD l).length : Int) = l.length := by rw [List.length_map]
              have fin : fr = r.length → done ++ r.drop fr = turnR l r := fun h => by
                have e0 : ∀ q : List S3, turnR q (r.drop fr) = [] := fun q => List.eq_nil_of_length_eq_zero (by rw [turnR_len, List.length_drop]; omega)
                rw [e0, List.append_nil] at hT
                rw [List.drop_eq_nil_of_le (by omega), List.append_nil]; exact hT
              have p9 : fr = r.length → Pure Try.prog 24 [plD n l, bsD (done ++ r.drop fr)] (.tup [dU (PN l r).1, dI (PN l r).2.1, dI (PN l r).2.2]) := fun h => by
                have q := play_at hl3 hr hc (done ++ r.drop fr) (by rw [List.length_append, List.length_drop]; omega)
                have e0 : PN l (done ++ r.drop fr) = PN l r := by rw [fin h]; exact turn_same l r
                rw [e0] at q; exact q
              refine (Nat.lt_or_ge i l.length).elim (fun hil => ?_) (fun hil => ?_)
              · have c1 : decide ((i : Int) < ((List.map stD l).length : Int)) = true := by rw [hll, decide_eq_true_eq]; omega
                have ex := getD? l i hil
                have hdr : l.drop i = l[i] :: l.drop (i + 1) := (List.getElem_cons_drop ..).symm
                refine (fit_at2 l 0 hf i hil).elim fun t ht => ?_
                have w1 : IntKind.i64.wrap ((fr : Int) + (l[i]'hil).1) = ((fr + t : Nat) : Int) := by rw [ht.1]; exact (wrapI (by omega) (by omega)).trans (by omega)
                refine (Nat.lt_or_ge r.length (fr + t)).elim (fun hft => ?_) (fun hft => ?_)
                · have c2 : decide (IntKind.i64.wrap ((fr : Int) + (l[i]'hil).1) ≤ ((bL r).length : Int)) = false := by rw [w1, hbr, decide_eq_false_iff_not]; omega
                  have hfe : fr = r.length := by
                    rcases hst with h | ⟨h1, b, v, h2⟩
                    · exact h
                    · rw [hdr] at h1 h2
                      have := (play_step h1 h2).1
                      rw [ht.1, Int.toNat_natCast] at this; omega
                  have p10 := p9 hfe
                  have c3 : ((fr : Int) == ((bL r).length : Int)) = true := by rw [hbr, hfe]; simp
                  conv => whnf
                  (repeat' (first | (apply kT (by with_reducible first | rfl | assumption); conv => whnf) | (apply kF (by with_reducible first | rfl | assumption); conv => whnf) | (apply kT (by decide); conv => whnf) | (apply kF (by decide); conv => whnf) | (apply kB <;> intro _ <;> conv => whnf) | (refine .inl ⟨_, pp, ?_⟩; conv => whnf) | (refine .inl ⟨_, p10, ?_⟩; conv => whnf) | (refine .inl ⟨_, wakes_pure, ?_⟩; conv => whnf) | (refine ⟨i, stD l[i], rfl, ex, rfl, ?_⟩; conv => whnf) | fail))
                  rfl
                · have c2 : decide (IntKind.i64.wrap ((fr : Int) + (l[i]'hil).1) ≤ ((bL r).length : Int)) = true := by rw [w1, hbr, decide_eq_true_eq]; omega
                  have hrl : ((r.drop fr).take t).reverse.length = t := by rw [List.length_reverse, List.length_take, List.length_drop]; omega
                  have htn : (l[i]'hil).1.toNat = t := by rw [ht.1, Int.toNat_natCast]
                  have hT2 : done ++ ((r.drop fr).take t).reverse ++ turnR (l.drop (i + 1)) (r.drop (fr + t)) = turnR l r := by
                    rw [hdr, turnR, htn, if_pos (by rw [List.length_drop]; omega), List.drop_drop, ← List.append_assoc] at hT
                    exact hT
                  have hst2 : fr + t = r.length ∨ (Ends (l.drop (i + 1)) ∧ ∃ bad v, Dcd (playN r (l.drop (i + 1)) (fr + t) bad v)) := by
                    rcases hst with h | ⟨h1, b, v, h2⟩
                    · omega
                    · rw [hdr] at h1 h2
                      have := (play_step h1 h2).2
                      rw [htn] at this; exact this
                  have ei : IntKind.i64.wrap ((i : Int) + 1) = ((i + 1 : Nat) : Int) := (wrapI (by omega) (by omega)).trans (by omega)
                  have w4 : IntKind.i64.wrap (IntKind.i64.wrap ((fr : Int) + (l[i]'hil).1) - 1) = ((fr + t - 1 : Nat) : Int) := by rw [w1]; exact (wrapI (by omega) (by omega)).trans (by omega)
                  conv => whnf
                  (repeat' (first | (apply kT (by with_reducible first | rfl | assumption); conv => whnf) | (apply kF (by with_reducible first | rfl | assumption); conv => whnf) | (apply kT (by decide); conv => whnf) | (apply kF (by decide); conv => whnf) | (apply kB <;> intro _ <;> conv => whnf) | (refine ⟨i, stD l[i], rfl, ex, rfl, ?_⟩; conv => whnf) | fail))
                  refine ⟨[], [3, 7, 8, 13, 14, 15, 16, 17], [0, 1, 2], 3, fun m s => ∃ k : Nat, k + m = t ∧ s = ⟨[(3, .ref 0 0), (7, .own 1), (8, .d (dU (PN l r).1)), (13, .own 2), (14, .d (dI fr)), (15, .d (dI i)), (16, .d (dI (l[i]'hil).1)), (17, .d (dI k))],
                    [(0, .var false 24 [.d (dI n), .d (.seq (l.map stD))]), (1, .arr 4 (bL r)), (2, .arr 4 (bL (done ++ ((r.drop fr).take t).reverse.take k ++ r.drop (fr + k))))], 3⟩, ?_, ?_⟩
                  · conv => whnf
                    exact ⟨t, 0, by omega, by rw [List.take_zero, List.append_nil]; rfl⟩
                  · rintro m2 _ ⟨k, hk, rfl⟩
                    conv => whnf
                    (apply kB <;> intro c <;> conv => whnf)
                    · rw [ht.1, decide_eq_true_eq] at c
                      have hkt : k < t := by omega
                      have w2 : IntKind.i64.wrap (IntKind.i64.wrap (IntKind.i64.wrap ((fr : Int) + (l[i]'hil).1) - 1) - (k : Int)) = ((fr + t - 1 - k : Nat) : Int) := by rw [w4]; exact (wrapI (by omega) (by omega)).trans (by omega)
                      have w3 : IntKind.i64.wrap ((fr : Int) + (k : Int)) = ((fr + k : Nat) : Int) := (wrapI (by omega) (by omega)).trans (by omega)
                      have ek : IntKind.i64.wrap ((k : Int) + 1) = ((k + 1 : Nat) : Int) := (wrapI (by omega) (by omega)).trans (by omega)
                      have hx : (bL r)[fr + t - 1 - k]? = some [dB (r[fr + t - 1 - k]'(by omega))] := by
                        unfold bL; rw [List.getElem?_map, List.getElem?_eq_getElem (by omega)]; rfl
                      have hlen : (done ++ ((r.drop fr).take t).reverse.take k ++ r.drop (fr + k)).length = r.length := by
                        rw [List.length_append, List.length_append, List.length_take, List.length_drop, hrl]; omega
                      have hy : (bL (done ++ ((r.drop fr).take t).reverse.take k ++ r.drop (fr + k)))[fr + k]? = some [dB ((done ++ ((r.drop fr).take t).reverse.take k ++ r.drop (fr + k))[fr + k]'(by omega))] := by
                        unfold bL; rw [List.getElem?_map, List.getElem?_eq_getElem (by omega)]; rfl
                      (refine ⟨fr + t - 1 - k, w2, by rw [List.length_map]; omega, ?_⟩; conv => whnf)
                      (refine ⟨_, hx, ?_⟩; conv => whnf)
                      (refine ⟨_, rfl, ?_⟩; conv => whnf)
                      (refine ⟨fr + k, w3, by rw [List.length_map]; omega, ?_⟩; conv => whnf)
                      (refine ⟨_, hy, rfl, Nat.le_refl 1, _, turn_set hdl hkt hft, ?_⟩; conv => whnf)
                      refine ⟨m2 - 1, by omega, k + 1, by omega, ?_⟩
                      rw [ek]
                    · rw [ht.1, decide_eq_false_iff_not] at c
                      have hkt : k = t := by omega
                      refine ⟨m' - 1, by omega, i + 1, fr + t, done ++ ((r.drop fr).take t).reverse, by omega, by omega, by rw [List.length_append, hrl, hdl], hT2, hst2, ?_⟩
                      rw [w1, ei, hkt, List.take_of_length_le (Nat.le_of_eq hrl)]
              · have c1 : decide ((i : Int) < ((List.map stD l).length : Int)) = false := by rw [hll, decide_eq_false_iff_not]; omega
                have hfe : fr = r.length := by
                  rcases hst with h | ⟨h1, _⟩
                  · exact h
                  · rw [List.drop_eq_nil_of_le hil] at h1; exact h1.elim
                have p10 := p9 hfe
                have c3 : ((fr : Int) == ((bL r).length : Int)) = true := by rw [hbr, hfe]; simp
                conv => whnf
                (repeat' (first | (apply kT (by with_reducible first | rfl | assumption); conv => whnf) | (apply kF (by with_reducible first | rfl | assumption); conv => whnf) | (apply kT (by decide); conv => whnf) | (apply kF (by decide); conv => whnf) | (apply kB <;> intro _ <;> conv => whnf) | (refine .inl ⟨_, pp, ?_⟩; conv => whnf) | (refine .inl ⟨_, p10, ?_⟩; conv => whnf) | (refine .inl ⟨_, wakes_pure, ?_⟩; conv => whnf) | fail))
                rfl
          · obtain ⟨k, hk1, hko, hkl⟩ := ho
            obtain ⟨hkn, hk0, _⟩ := play_more n r [] l 0 0 0 he hf (Nat.zero_le _) k hko
            have o1 : (PN l r).1 = 3 := by unfold Opn at hko; rw [hko]
            have o2 : (PN l r).2.1 = k := by unfold Opn at hko; rw [hko]
            have e1 : ((PN l r).1 == 3) = true := by rw [o1]; rfl
            have e2 : decide ((turn : Int) < 3) = true := by rw [decide_eq_true_eq]; omega
            have e3 : decide ((PN l r).2.1 < 1) = false := by rw [o2, decide_eq_false_iff_not]; omega
            have e4 : decide ((PN l r).2.1 > 30) = false := by rw [o2, decide_eq_false_iff_not]; omega
            conv => whnf
            (repeat' (first | (apply kT (by with_reducible first | rfl | assumption); conv => whnf) | (apply kF (by with_reducible first | rfl | assumption); conv => whnf) | (apply kT (by decide); conv => whnf) | (apply kF (by decide); conv => whnf) | (apply kB <;> intro _ <;> conv => whnf) | fail))
            refine ⟨[], [2, 3, 7, 9, 11, 12], [0, 1], 2, fun m s => ∃ (j : Nat) (ext : List Bool), j + m = k ∧ ext.length = j ∧
              s = ⟨[(2, .d (.seq (ws.map fun w => [dU w]))), (3, .ref 0 0), (7, .own 1), (9, .d (dI (PN l r).2.1)), (11, .d (dI turn)), (12, .d (dI j))], [(0, .var false 24 [.d (dI n), .d (.seq (l.map stD))]), (1, .arr 4 (bL (r ++ ext)))], 2⟩, ?_, ?_⟩
            · conv => whnf
              exact ⟨k, 0, [], by omega, rfl, by rw [List.append_nil]; rfl⟩
            · rintro m' _ ⟨j, ext, hj, hje, rfl⟩
              conv => whnf
              (apply kB <;> intro h <;> conv => whnf)
              · rw [o2, decide_eq_true_eq] at h
                have hwl : ((List.map (fun w => [dU w]) ws).length : Int) = ws.length := by rw [List.length_map]
                have hbx : ((bL (r ++ ext)).length : Int) = ((r.length + j : Nat) : Int) := by rw [List.length_map, List.length_append, hje]
                have e8 : IntKind.i64.wrap ((j : Int) + 1) = ((j + 1 : Nat) : Int) := (wrapI (by omega) (by omega)).trans (by omega)
                refine (Classical.em (ws = [])).elim (fun hw0 => ?_) (fun hw0 => ?_)
                · have e5 : decide (((List.map (fun w => [dU w]) ws).length : Int) > 0) = false := by rw [hwl, hw0]; rfl
                  (repeat' (first | (apply kT (by with_reducible first | rfl | assumption); conv => whnf) | (apply kF (by with_reducible first | rfl | assumption); conv => whnf) | (apply kT (by decide); conv => whnf) | (apply kF (by decide); conv => whnf) | (apply kB <;> intro _ <;> conv => whnf) | fail))
                  (refine ⟨oneB false, by1 (r ++ ext) (by rw [List.length_append]; omega), ?_⟩; conv => whnf)
                  refine ⟨m' - 1, by omega, j + 1, ext ++ [false], by omega, by rw [List.length_append, hje]; rfl, ?_⟩
                  rw [e8, ← List.append_assoc, bL_snoc]
                · have hpw := List.length_pos_iff.2 hw0
                  have e5 : decide (((List.map (fun w => [dU w]) ws).length : Int) > 0) = true := by rw [hwl, decide_eq_true_eq]; omega
                  have e6 : ((List.map (fun w => [dU w]) ws).length : Int) ≠ 0 := by rw [hwl]; omega
                  have e7 : ∃ q : Nat, (IntKind.i64.wrap ((j : Int) + ((bL (r ++ ext)).length : Int))).tmod ((List.map (fun w => [dU w]) ws).length : Int) = q ∧ q < ws.length := by
                    rw [hwl, hbx, show IntKind.i64.wrap ((j : Int) + ((r.length + j : Nat) : Int)) = ((j + (r.length + j) : Nat) : Int) from (wrapI (by omega) (by omega)).trans (by omega)]
                    exact ⟨(j + (r.length + j)) % ws.length, Int.ofNat_tmod .. |>.symm, Nat.mod_lt _ hpw⟩
                  refine e7.elim fun q hq => ?_
                  have e10 : (List.map (fun w => [dU w]) ws)[q]? = some [dU (ws[q]'hq.2)] := by rw [List.getElem?_map, List.getElem?_eq_getElem hq.2]; rfl
                  (repeat' (first | (apply kT (by with_reducible first | rfl | assumption); conv => whnf) | (apply kF (by with_reducible first | rfl | assumption); conv => whnf) | (apply kT (by decide); conv => whnf) | (apply kF (by decide); conv => whnf) | (apply kB <;> intro _ <;> conv => whnf) | (refine ⟨e6, ?_⟩; conv => whnf) | (refine ⟨q, [dU (ws[q]'hq.2)], hq.1, e10, rfl, ?_⟩; conv => whnf) | (refine ⟨(by decide : (3 : Int) ≠ 0), ?_⟩; conv => whnf) | fail))
                  (refine ⟨oneB _, by1 (r ++ ext) (by rw [List.length_append]; omega), ?_⟩; conv => whnf)
                  refine ⟨m' - 1, by omega, j + 1, ext ++ [(ws[q]'hq.2).tmod 3 == 0], by omega, by rw [List.length_append, hje]; rfl, ?_⟩
                  rw [e8, ← List.append_assoc, bL_snoc]
              · rw [o2, decide_eq_false_iff_not] at h
                have hjk : ext.length = k := by omega
                have hle : (r ++ ext).length ≤ 40 + 30 * (turn + 1) := by rw [List.length_append]; omega
                have hmo := (play_more n r ext l 0 0 0 he hf (Nat.zero_le _) k hko).2.2 hjk
                have hmo2 : Dcd (PN l (r ++ ext)) ∨ ∃ k, 1 ≤ k ∧ Opn (PN l (r ++ ext)) k ∧ left (r ++ ext) l 0 + (turn + 1) ≤ 3 := by
                  rcases hmo with h | ⟨k', h1, h2, h3⟩
                  · exact .inl h
                  · exact .inr ⟨k', h1, h2, by omega⟩
                have hmo3 : ((PN l (r ++ ext)).2.2 != 0) = false := by
                  rcases hmo2 with h | ⟨k', h1, h2, h3⟩
                  · exact (dcd_facts h).2.2.1
                  · unfold Opn at h2; rw [h2]; rfl
                have e9 : IntKind.i64.wrap ((turn : Int) + 1) = ((turn + 1 : Nat) : Int) := (wrapI (by omega) (by omega)).trans (by omega)
                have p1 := play_at hl3 hr hc (r ++ ext) (by omega)
                (refine .inl ⟨_, pp, ?_⟩; conv => whnf)
                (refine ⟨elB (r ++ ext), byB (r ++ ext) (by omega), ?_⟩; conv => whnf)
                (refine .inl ⟨_, p1, ?_⟩; conv => whnf)
                (repeat' (first | (apply kT (by with_reducible first | rfl | assumption); conv => whnf) | (apply kF (by with_reducible first | rfl | assumption); conv => whnf) | (apply kT (by decide); conv => whnf) | (apply kF (by decide); conv => whnf) | (apply kB <;> intro _ <;> conv => whnf) | fail))
                refine ⟨m - 1, by omega, turn + 1, r ++ ext, by omega, hle, hmo2, ?_⟩
                rw [e9]
    · have h40' : decide (((List.map (fun b => [dB b]) res).length : Int) > 40) = true := by rw [hml, decide_eq_true_eq]; omega
      refine pure_of pg Try.func8 (by kernel_rfl) ?_
      conv => whnf
      (repeat' (first | (apply kT (by with_reducible first | rfl | assumption); conv => whnf) | (apply kF (by with_reducible first | rfl | assumption); conv => whnf) | (apply kT (by decide); conv => whnf) | (apply kF (by decide); conv => whnf) | (apply kB <;> intro _ <;> conv => whnf) | (refine .inl ⟨_, rp, ?_⟩; conv => whnf) | (refine .inl ⟨_, wakes_pure, ?_⟩; conv => whnf) | fail))
      rfl
  · have hrd' : (!readyB lot l) = true := by simpa using hrd
    refine pure_of pg Try.func8 (by kernel_rfl) ?_
    conv => whnf
    (repeat' (first | (apply kT (by with_reducible first | rfl | assumption); conv => whnf) | (apply kF (by with_reducible first | rfl | assumption); conv => whnf) | (apply kT (by decide); conv => whnf) | (apply kF (by decide); conv => whnf) | (apply kB <;> intro _ <;> conv => whnf) | (refine .inl ⟨_, rp, ?_⟩; conv => whnf) | (refine .inl ⟨_, wakes_pure, ?_⟩; conv => whnf) | fail))
    rfl
end Go.Ev.Ythmandhpmkfopaa
