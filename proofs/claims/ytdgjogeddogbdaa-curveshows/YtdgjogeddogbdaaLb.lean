/-
  Contracts of functions, and plain laws, that lead to the statement. Written by an agent.
-/
import Derived.Test.YtdgjogeddogbdaaLa
set_option linter.unusedVariables false
set_option linter.unusedSimpArgs false
set_option maxRecDepth 100000
namespace Go.Ev.Ytdgjogeddogbdaa
open Go.Proofs
theorem re_bad {l : List P3} {r : P3} {t : List Int} (h : erC l r ≠ 0) : reE l r t = erC l r ∧ reD l r t = res0 := by
  have e : reE l r t = erC l r := by unfold reE; rw [if_neg h]
  exact ⟨e, by unfold reD; rw [if_neg (by omega)]⟩
theorem re_range {l : List P3} {r : P3} {t : List Int} (h : erC l r = 0) (ht : truB l t = false) : reE l r t = 2 ∧ reD l r t = res0 := by
  have e : reE l r t = 2 := by unfold reE; rw [if_pos h, if_neg (by simp [ht])]
  exact ⟨e, by unfold reD; rw [if_neg (by omega)]⟩
theorem re_ok {l : List P3} {r : P3} {t : List Int} (h : erC l r = 0) (ht : truB l t = true) : reE l r t = 0 ∧ reD l r t = resD l r t := by
  have e : reE l r t = 0 := by unfold reE; rw [if_pos h, if_pos ht]
  exact ⟨e, by unfold reD; rw [if_pos e]⟩
attribute [local irreducible] Pure Bor Iter inB ptB ruB okL goodB lineI ckC truB maxN fstN yvN mvN wkN metI tA pAt erC reE
theorem reads_pure (l : List P3) (r : P3) (t : List Int) : Pure Try.prog 3 [crD l, ruD r, isD t] (dB true) := by
  have hm2 : ((List.map (fun n => [dI n]) t).length : Int) = (t.length : Int) := by rw [List.length_map]
  by_cases h25 : (l.length : Int) ≤ 25
  · have h25' : (!decide ((l.length : Int) ≤ 25)) = false := by rw [decide_eq_true h25]; rfl
    by_cases h30 : (t.length : Int) > 30
    · have h30' : decide (((List.map (fun n => [dI n]) t).length : Int) > 30) = true := by rw [decide_eq_true_eq, hm2]; exact h30
      refine pure_of pg Try.func3 (by kernel_rfl) ?_
      conv => whnf
      (repeat' (first | (apply kT (by with_reducible first | rfl | assumption); conv => whnf) | (apply kF (by with_reducible first | rfl | assumption); conv => whnf) | (apply kT (by decide); conv => whnf) | (apply kF (by decide); conv => whnf) | (apply kB <;> intro _ <;> conv => whnf) | (refine .inl ⟨_, thin_pure l, ?_⟩; conv => whnf) | (refine .inl ⟨_, awake_pure, ?_⟩; conv => whnf) | fail))
      rfl
    · have h30' : decide (((List.map (fun n => [dI n]) t).length : Int) > 30) = false := by rw [decide_eq_false_iff_not, hm2]; exact h30
      have hl : l.length ≤ 1000 := by omega
      have ht1 : t.length ≤ 1000 := by omega
      have cR := Read_pure l hl r t
      have hck : (ckC l != ckC l) = false := by rw [bne_eq_false_iff_eq]
      by_cases he : erC l r = 0
      · have he1 : (erC l r == 0) = true := by rw [he]; rfl
        have he2 : (erC l r != 0) = false := by rw [he]; rfl
        by_cases ht : truB l t = true
        · have ht' : (!truB l t) = false := by rw [ht]; rfl
          obtain ⟨e1, e2⟩ := re_ok he ht
          rw [e1, e2] at cR
          have cr := rread_pure (erC_iff.1 he) (TB.of (erC_iff.1 he) ht)
          unfold resD resL7 at cR cr
          refine pure_of pg Try.func3 (by kernel_rfl) ?_
          conv => whnf
          (refine .inl ⟨_, thin_pure l, ?_⟩; conv => whnf)
          (repeat' (first | (apply kT (by with_reducible first | rfl | assumption); conv => whnf) | (apply kF (by with_reducible first | rfl | assumption); conv => whnf) | (apply kT (by decide); conv => whnf) | (apply kF (by decide); conv => whnf) | (apply kB <;> intro _ <;> conv => whnf) | fail))
          (refine .inl ⟨_, curve_pure l hl, ?_⟩; conv => whnf)
          (refine .inl ⟨_, check_pure l hl, ?_⟩; conv => whnf)
          (refine .inl ⟨_, curve_pure l hl, ?_⟩; conv => whnf)
          (refine .inl ⟨_, rule_pure r, ?_⟩; conv => whnf)
          (refine .inl ⟨_, list_pure t ht1, ?_⟩; conv => whnf)
          (refine .inl ⟨_, cR, ?_⟩; conv => whnf)
          (refine .inl ⟨_, fault_pure l hl r, ?_⟩; conv => whnf)
          (refine .inl ⟨_, rfault_pure l hl, ?_⟩; conv => whnf)
          (repeat' (first | (apply kT (by with_reducible first | rfl | assumption); conv => whnf) | (apply kF (by with_reducible first | rfl | assumption); conv => whnf) | (apply kT (by decide); conv => whnf) | (apply kF (by decide); conv => whnf) | (apply kB <;> intro _ <;> conv => whnf) | fail))
          (refine .inl ⟨_, rtruth_pure l hl t, ?_⟩; conv => whnf)
          (repeat' (first | (apply kT (by with_reducible first | rfl | assumption); conv => whnf) | (apply kF (by with_reducible first | rfl | assumption); conv => whnf) | (apply kT (by decide); conv => whnf) | (apply kF (by decide); conv => whnf) | (apply kB <;> intro _ <;> conv => whnf) | fail))
          (refine .inl ⟨_, cr, ?_⟩; conv => whnf)
          (repeat' (first | (apply kT (by with_reducible first | rfl | assumption); conv => whnf) | (apply kF (by with_reducible first | rfl | assumption); conv => whnf) | (apply kT (by decide); conv => whnf) | (apply kF (by decide); conv => whnf) | (apply kB <;> intro _ <;> conv => whnf) | fail))
          (refine .inl ⟨_, resconv_pure .., ?_⟩; conv => whnf)
          (repeat' (first | (apply kT (by with_reducible first | rfl | assumption); conv => whnf) | (apply kF (by with_reducible first | rfl | assumption); conv => whnf) | (apply kT (by decide); conv => whnf) | (apply kF (by decide); conv => whnf) | (apply kB <;> intro _ <;> conv => whnf) | (refine .inl ⟨_, awake_pure, ?_⟩; conv => whnf) | fail))
          · rfl
          · rename_i hx; simp at hx
        · have ht : truB l t = false := by simpa using ht
          have ht' : (!truB l t) = true := by rw [ht]; rfl
          obtain ⟨e1, e2⟩ := re_range he ht
          rw [e1, e2] at cR
          refine pure_of pg Try.func3 (by kernel_rfl) ?_
          conv => whnf
          (refine .inl ⟨_, thin_pure l, ?_⟩; conv => whnf)
          (repeat' (first | (apply kT (by with_reducible first | rfl | assumption); conv => whnf) | (apply kF (by with_reducible first | rfl | assumption); conv => whnf) | (apply kT (by decide); conv => whnf) | (apply kF (by decide); conv => whnf) | (apply kB <;> intro _ <;> conv => whnf) | fail))
          (refine .inl ⟨_, curve_pure l hl, ?_⟩; conv => whnf)
          (refine .inl ⟨_, check_pure l hl, ?_⟩; conv => whnf)
          (refine .inl ⟨_, curve_pure l hl, ?_⟩; conv => whnf)
          (refine .inl ⟨_, rule_pure r, ?_⟩; conv => whnf)
          (refine .inl ⟨_, list_pure t ht1, ?_⟩; conv => whnf)
          (refine .inl ⟨_, cR, ?_⟩; conv => whnf)
          (refine .inl ⟨_, fault_pure l hl r, ?_⟩; conv => whnf)
          (refine .inl ⟨_, rfault_pure l hl, ?_⟩; conv => whnf)
          (repeat' (first | (apply kT (by with_reducible first | rfl | assumption); conv => whnf) | (apply kF (by with_reducible first | rfl | assumption); conv => whnf) | (apply kT (by decide); conv => whnf) | (apply kF (by decide); conv => whnf) | (apply kB <;> intro _ <;> conv => whnf) | fail))
          (refine .inl ⟨_, rtruth_pure l hl t, ?_⟩; conv => whnf)
          (repeat' (first | (apply kT (by with_reducible first | rfl | assumption); conv => whnf) | (apply kF (by with_reducible first | rfl | assumption); conv => whnf) | (apply kT (by decide); conv => whnf) | (apply kF (by decide); conv => whnf) | (apply kB <;> intro _ <;> conv => whnf) | (refine .inl ⟨_, awake_pure, ?_⟩; conv => whnf) | fail))
          rfl
      · have he1 : (erC l r == 0) = false := by rw [beq_eq_false_iff_ne]; exact he
        have he2 : (erC l r != 0) = true := by rw [bne_iff_ne]; exact he
        have he3 : (erC l r == erC l r) = true := by rw [beq_iff_eq]
        obtain ⟨e1, e2⟩ := re_bad (t := t) he
        rw [e1, e2] at cR
        refine pure_of pg Try.func3 (by kernel_rfl) ?_
        conv => whnf
        (refine .inl ⟨_, thin_pure l, ?_⟩; conv => whnf)
        (repeat' (first | (apply kT (by with_reducible first | rfl | assumption); conv => whnf) | (apply kF (by with_reducible first | rfl | assumption); conv => whnf) | (apply kT (by decide); conv => whnf) | (apply kF (by decide); conv => whnf) | (apply kB <;> intro _ <;> conv => whnf) | fail))
        (refine .inl ⟨_, curve_pure l hl, ?_⟩; conv => whnf)
        (refine .inl ⟨_, check_pure l hl, ?_⟩; conv => whnf)
        (refine .inl ⟨_, curve_pure l hl, ?_⟩; conv => whnf)
        (refine .inl ⟨_, rule_pure r, ?_⟩; conv => whnf)
        (refine .inl ⟨_, list_pure t ht1, ?_⟩; conv => whnf)
        (refine .inl ⟨_, cR, ?_⟩; conv => whnf)
        (refine .inl ⟨_, fault_pure l hl r, ?_⟩; conv => whnf)
        (refine .inl ⟨_, rfault_pure l hl, ?_⟩; conv => whnf)
        (repeat' (first | (apply kT (by with_reducible first | rfl | assumption); conv => whnf) | (apply kF (by with_reducible first | rfl | assumption); conv => whnf) | (apply kT (by decide); conv => whnf) | (apply kF (by decide); conv => whnf) | (apply kB <;> intro _ <;> conv => whnf) | (refine .inl ⟨_, awake_pure, ?_⟩; conv => whnf) | fail))
        rfl
  · have h25' : (!decide ((l.length : Int) ≤ 25)) = true := by rw [decide_eq_false h25]; rfl
    refine pure_of pg Try.func3 (by kernel_rfl) ?_
    conv => whnf
    (repeat' (first | (apply kT (by with_reducible first | rfl | assumption); conv => whnf) | (apply kF (by with_reducible first | rfl | assumption); conv => whnf) | (apply kT (by decide); conv => whnf) | (apply kF (by decide); conv => whnf) | (apply kB <;> intro _ <;> conv => whnf) | (refine .inl ⟨_, thin_pure l, ?_⟩; conv => whnf) | (refine .inl ⟨_, awake_pure, ?_⟩; conv => whnf) | fail))
    rfl
end Go.Ev.Ytdgjogeddogbdaa
