/-
  Contracts of functions, and plain laws, that lead to the statement. Written by an agent.
-/
import Derived.Test.YtojlbcodfebmgaaRows
import Derived.Test.YtojlbcodfebmgaaLf
set_option linter.unusedVariables false
set_option linter.unusedSimpArgs false
set_option maxRecDepth 100000
namespace Go.Ev.Ytojlbcodfebmgaa
open Go.Proofs
attribute [local irreducible] Pure Bor Iter inB wtB partsL stepC useB usesB fitsB runC weighL uIdx betB cutsF bestP seeS memF cutsL partsW useF memN doN
theorem plnI_long {p : Pl} {x : Pn} (hp : checkI p = 0) (h : 40 < x.cs.length) : plnI p x = 3 := by unfold plnI; rw [if_neg (by omega), if_pos h]
theorem plnI_none {p : Pl} {x : Pn} (hp : checkI p = 0) (h : x.cs.length ≤ 40) (hr : runC p.s x.cs (st0 p) = none) : plnI p x = 11 := by unfold plnI; rw [if_neg (by omega), if_neg (by omega), hr]
theorem plnI_some {p : Pl} {x : Pn} (hp : checkI p = 0) (h : x.cs.length ≤ 40) {st : St2} (hr : runC p.s x.cs (st0 p) = some st) : plnI p x = if x.us.length ≠ p.ws.length ∨ x.us.all (useB st) = false then 2 else if usesB p.ws st x.us 0 [] then 0 else 11 := by unfold plnI; rw [if_neg (by omega), if_neg (by omega), hr]
def seenL (us : List Int) (k : Nat) : List Int := (us.take k).filter (· ≠ -1)
theorem seenL_skip {us : List Int} {k : Nat} (h : k < us.length) (hn : us[k] = -1) : seenL us (k + 1) = seenL us k := by
  unfold seenL
  rw [List.take_add_one, List.getElem?_eq_getElem h, List.filter_append, hn]
  simp
theorem seenL_next {us : List Int} {k : Nat} (h : k < us.length) (hn : us[k] ≠ -1) : seenL us (k + 1) = seenL us k ++ [us[k]] := by
  unfold seenL
  rw [List.take_add_one, List.getElem?_eq_getElem h, List.filter_append]
  simp [hn]
theorem seenL_mem {us : List Int} {k : Nat} {n : Int} (hn : n ≠ -1) : n ∈ seenL us k ↔ ∃ (i : Nat) (h : i < us.length), i < k ∧ us[i] = n := by
  unfold seenL
  rw [List.mem_filter, List.mem_take_iff_getElem]
  constructor
  · rintro ⟨⟨i, h, e⟩, _⟩
    exact ⟨i, by omega, by omega, e⟩
  · rintro ⟨i, h, hk, e⟩
    exact ⟨⟨i, by omega, e⟩, by simpa using hn⟩
theorem getiw (l : List Int) (k : Nat) (h : k < l.length) : (l.map fun n => [dI n])[k]? = some [dI l[k]] := geti l k h
set_option maxHeartbeats 4000000 in
theorem planFault_pure {p : Pl} (hp : checkI p = 0) {x : Pn} (hl : x.cs.length ≤ 45) (hul : x.us.length ≤ 100000) :
    Pure Try.prog 32 [plD p, pnD x] (dI (plnI p x)) := by
  have hm : ((x.cs.map ctD).length : Int) = x.cs.length := by rw [List.length_map]
  have hmu : ((x.us.map fun n => [dI n]).length : Int) = x.us.length := by rw [List.length_map]
  have hmw : ((p.ws.map wtD).length : Int) = p.ws.length := by rw [List.length_map]
  by_cases h40 : 40 < x.cs.length
  · have f1 : decide (((x.cs.map ctD).length : Int) > 40) = true := decide_eq_true (by rw [hm]; omega)
    rw [plnI_long hp h40]
    refine pure_of pg Try.func32 (by kernel_rfl) ?_
    conv => whnf
    (repeat' (first | (apply kT (by with_reducible first | rfl | assumption); conv => whnf) | (apply kF (by with_reducible first | rfl | assumption); conv => whnf) | (apply kT (by decide); conv => whnf) | (apply kF (by decide); conv => whnf) | (apply kB <;> intro _ <;> conv => whnf) | fail))
    rfl
  have f1 : decide (((x.cs.map ctD).length : Int) > 40) = false := decide_eq_false (by rw [hm]; omega)
  have cp := piecesR_pure hp (cs := x.cs) hl rfl
  cases hr : runC p.s x.cs (st0 p) with
  | none =>
    rw [hr] at cp
    rw [plnI_none hp (by omega) hr]
    refine pure_of pg Try.func32 (by kernel_rfl) ?_
    conv => whnf
    (repeat' (first | (apply kT (by with_reducible first | rfl | assumption); conv => whnf) | (apply kF (by with_reducible first | rfl | assumption); conv => whnf) | (apply kT (by decide); conv => whnf) | (apply kF (by decide); conv => whnf) | (apply kB <;> intro _ <;> conv => whnf) | (refine .inl ⟨_, cp, ?_⟩; conv => whnf) | fail))
    rfl
  | some st =>
    rw [hr] at cp
    have hok := runC_ok hp (st0_ok hp) hr
    rw [plnI_some hp (by omega) hr]
    by_cases hn : x.us.length ≠ p.ws.length
    · have f2 : (((x.us.map fun n => [dI n]).length : Int) != ((p.ws.map wtD).length : Int)) = true := by rw [hmu, hmw]; simp; omega
      rw [if_pos (.inl hn)]
      refine pure_of pg Try.func32 (by kernel_rfl) ?_
      conv => whnf
      (repeat' (first | (apply kT (by with_reducible first | rfl | assumption); conv => whnf) | (apply kF (by with_reducible first | rfl | assumption); conv => whnf) | (apply kT (by decide); conv => whnf) | (apply kF (by decide); conv => whnf) | (apply kB <;> intro _ <;> conv => whnf) | (refine .inl ⟨_, cp, ?_⟩; conv => whnf) | fail))
      rfl
    have hn := Decidable.not_not.1 hn
    have f2 : (((x.us.map fun n => [dI n]).length : Int) != ((p.ws.map wtD).length : Int)) = false := by rw [hmu, hmw]; simp; omega
    have hsl : st.1.length ≤ 1000 := by have := hok.2; simp only [st0, List.length_singleton] at this; omega
    have hok := hok.1
    have hpl : ((st.1.map pcD).length : Int) = st.1.length := by rw [List.length_map]
    have hbl : (bsE st.2).length = st.1.length := by rw [List.length_map, hok.len]
    have wl : IntKind.i64.wrap (((st.1.map pcD).length : Int) - 1) = (st.1.length : Int) - 1 := by rw [hpl]; exact wS (by omega) (by omega)
    obtain ⟨z, hz⟩ : ∃ z : Int, z = if x.us.length ≠ p.ws.length ∨ x.us.all (useB st) = false then 2 else if usesB p.ws st x.us 0 [] then 0 else 11 := ⟨_, rfl⟩
    rw [← hz]
    refine pure_of pg Try.func32 (by kernel_rfl) ?_
    conv => whnf
    (repeat' (first | (apply kT (by with_reducible first | rfl | assumption); conv => whnf) | (apply kF (by with_reducible first | rfl | assumption); conv => whnf) | (apply kT (by decide); conv => whnf) | (apply kF (by decide); conv => whnf) | (apply kB <;> intro _ <;> conv => whnf) | (refine .inl ⟨_, cp, ?_⟩; conv => whnf) | fail))
    refine ⟨[], [2, 3, 4, 5, 6, 8], [0, 1], 2, fun m s => ∃ k : Nat, k + m = x.us.length ∧ (∀ (i : Nat) (h : i < x.us.length), i < k → useB st x.us[i] = true) ∧
      s = ⟨[(2, .ref 0 0), (3, .ref 1 0), (4, .d (dI 0)), (5, .d (pcsD st.1)), (6, .d (.seq (bsE st.2))), (8, .d (dI k))], [(0, .var false 24 ((plC p).map A.d)), (1, .var false 28 ((pnC x).map A.d))], 2⟩, ?_, ?_⟩
    · conv => whnf
      exact ⟨x.us.length, 0, by omega, fun _ _ h => by omega, rfl⟩
    · rintro m _ ⟨k, hk, hall, rfl⟩
      by_cases hlt : k < x.us.length
      · have f3 : decide ((k : Int) < ((x.us.map fun n => [dI n]).length : Int)) = true := decide_eq_true (by rw [hmu]; omega)
        have ci := in_pure x.us[k] (-1) (IntKind.i64.wrap (((st.1.map pcD).length : Int) - 1))
        have hub : inB x.us[k] (-1) (IntKind.i64.wrap (((st.1.map pcD).length : Int) - 1)) = useB st x.us[k] := by rw [wl]; unfold useB; rfl
        cases hu : useB st x.us[k] with
        | false =>
          have hz2 : z = 2 := by
            rw [hz, if_pos]
            refine .inr ?_
            rw [List.all_eq_false]
            exact ⟨_, List.getElem_mem hlt, by rw [hu]; simp⟩
          rw [hub, hu] at ci
          rw [hz2]
          conv => whnf
          (repeat' (first | (apply kT (by with_reducible first | rfl | assumption); conv => whnf) | (apply kF (by with_reducible first | rfl | assumption); conv => whnf) | (apply kT (by decide); conv => whnf) | (apply kF (by decide); conv => whnf) | (apply kB <;> intro _ <;> conv => whnf) | fail))
          (refine ⟨k, _, rfl, geti x.us k hlt, rfl, ?_⟩; conv => whnf)
          (repeat' (first | (apply kT (by with_reducible first | rfl | assumption); conv => whnf) | (apply kF (by with_reducible first | rfl | assumption); conv => whnf) | (apply kT (by decide); conv => whnf) | (apply kF (by decide); conv => whnf) | (apply kB <;> intro _ <;> conv => whnf) | (refine .inl ⟨_, ci, ?_⟩; conv => whnf) | fail))
          rfl
        | true =>
          rw [hub, hu] at ci
          conv => whnf
          (repeat' (first | (apply kT (by with_reducible first | rfl | assumption); conv => whnf) | (apply kF (by with_reducible first | rfl | assumption); conv => whnf) | (apply kT (by decide); conv => whnf) | (apply kF (by decide); conv => whnf) | (apply kB <;> intro _ <;> conv => whnf) | fail))
          (refine ⟨k, _, rfl, geti x.us k hlt, rfl, ?_⟩; conv => whnf)
          (repeat' (first | (apply kT (by with_reducible first | rfl | assumption); conv => whnf) | (apply kF (by with_reducible first | rfl | assumption); conv => whnf) | (apply kT (by decide); conv => whnf) | (apply kF (by decide); conv => whnf) | (apply kB <;> intro _ <;> conv => whnf) | (refine .inl ⟨_, ci, ?_⟩; conv => whnf) | fail))
          refine ⟨m - 1, by omega, k + 1, by omega, fun i h hi => ?_, ?_⟩
          · rcases Nat.lt_or_ge i k with h' | h'
            · exact hall i h h'
            · have : i = k := by omega
              subst this; exact hu
          · rw [w1 k (by omega)]
            rfl
      · have f3 : decide ((k : Int) < ((x.us.map fun n => [dI n]).length : Int)) = false := decide_eq_false (by rw [hmu]; omega)
        have hall2 : x.us.all (useB st) = true := by
          rw [List.all_eq_true]
          intro y hy
          obtain ⟨i, hi, rfl⟩ := List.getElem_of_mem hy
          exact hall i hi (by omega)
        rw [if_neg (by rw [hall2]; simp [hn])] at hz
        conv => whnf
        (repeat' (first | (apply kT (by with_reducible first | rfl | assumption); conv => whnf) | (apply kF (by with_reducible first | rfl | assumption); conv => whnf) | (apply kT (by decide); conv => whnf) | (apply kF (by decide); conv => whnf) | (apply kB <;> intro _ <;> conv => whnf) | fail))
        refine ⟨[], [2, 3, 4, 5, 6, 9], [0, 1], 2, fun m s => ∃ k : Nat, k + m = x.us.length ∧ usesB p.ws st (x.us.drop k) k (seenL x.us k) = usesB p.ws st x.us 0 [] ∧
          s = ⟨[(2, .ref 0 0), (3, .ref 1 0), (4, .d (dI 0)), (5, .d (pcsD st.1)), (6, .d (.seq (bsE st.2))), (9, .d (dI k))], [(0, .var false 24 ((plC p).map A.d)), (1, .var false 28 ((pnC x).map A.d))], 2⟩, ?_, ?_⟩
        · conv => whnf
          exact ⟨x.us.length, 0, by omega, rfl, rfl⟩
        · rintro m _ ⟨k, hk, hrun, rfl⟩
          by_cases hlt : k < x.us.length
          · have f4 : decide ((k : Int) < ((x.us.map fun n => [dI n]).length : Int)) = true := decide_eq_true (by rw [hmu]; omega)
            have hub := hall k hlt (by omega)
            have hub' : inB x.us[k] (-1) ((st.1.length : Int) - 1) = true := by rw [← hub]; unfold useB; rfl
            have hub2 := inB_true.1 hub'
            rw [List.drop_eq_getElem_cons hlt] at hrun
            by_cases h1 : x.us[k] = -1
            · have f5 : decide (x.us[k] < 0) = true := decide_eq_true (by omega)
              rw [usesB_skip _ _ _ _ _ h1, ← seenL_skip hlt h1] at hrun
              conv => whnf
              (repeat' (first | (apply kT (by with_reducible first | rfl | assumption); conv => whnf) | (apply kF (by with_reducible first | rfl | assumption); conv => whnf) | (apply kT (by decide); conv => whnf) | (apply kF (by decide); conv => whnf) | (apply kB <;> intro _ <;> conv => whnf) | fail))
              (refine ⟨k, _, rfl, geti x.us k hlt, rfl, ?_⟩; conv => whnf)
              (repeat' (first | (apply kT (by with_reducible first | rfl | assumption); conv => whnf) | (apply kF (by with_reducible first | rfl | assumption); conv => whnf) | (apply kT (by decide); conv => whnf) | (apply kF (by decide); conv => whnf) | (apply kB <;> intro _ <;> conv => whnf) | fail))
              refine ⟨m - 1, by omega, k + 1, by omega, hrun, ?_⟩
              rw [w1 k (by omega)]
              rfl
            have f5 : decide (x.us[k] < 0) = false := decide_eq_false (by omega)
            have hn0 : 0 ≤ x.us[k] := by omega
            have hnn : (x.us[k].toNat : Int) = x.us[k] := Int.toNat_of_nonneg hn0
            have hgb := getba (l := st.2) hn0 (by have := hok.len; omega)
            have hgp := getpa (l := st.1) hn0 (by omega)
            have cf := fitsR_pure (wtAt p.ws k) (pcAt st.1 x.us[k])
            cases h2 : cutAt st.2 x.us[k] with
            | true =>
              rw [usesB_bad _ _ _ _ _ h1 (.inr (.inl h2))] at hrun
              rw [h2] at hgb
              rw [hz, ← hrun]
              conv => whnf
              (repeat' (first | (apply kT (by with_reducible first | rfl | assumption); conv => whnf) | (apply kF (by with_reducible first | rfl | assumption); conv => whnf) | (apply kT (by decide); conv => whnf) | (apply kF (by decide); conv => whnf) | (apply kB <;> intro _ <;> conv => whnf) | fail))
              (refine ⟨k, _, rfl, geti x.us k hlt, rfl, ?_⟩; conv => whnf)
              (repeat' (first | (apply kT (by with_reducible first | rfl | assumption); conv => whnf) | (apply kF (by with_reducible first | rfl | assumption); conv => whnf) | (apply kT (by decide); conv => whnf) | (apply kF (by decide); conv => whnf) | (apply kB <;> intro _ <;> conv => whnf) | fail))
              (refine ⟨_, _, hnn.symm, hgb, rfl, ?_⟩; conv => whnf)
              (repeat' (first | (apply kT (by with_reducible first | rfl | assumption); conv => whnf) | (apply kF (by with_reducible first | rfl | assumption); conv => whnf) | (apply kT (by decide); conv => whnf) | (apply kF (by decide); conv => whnf) | (apply kB <;> intro _ <;> conv => whnf) | fail))
              rfl
            | false =>
              rw [h2] at hgb
              cases h3 : fitsB (wtAt p.ws k) (pcAt st.1 x.us[k]) with
              | false =>
                rw [usesB_bad _ _ _ _ _ h1 (.inr (.inr h3))] at hrun
                rw [h3] at cf
                rw [hz, ← hrun]
                conv => whnf
                (repeat' (first | (apply kT (by with_reducible first | rfl | assumption); conv => whnf) | (apply kF (by with_reducible first | rfl | assumption); conv => whnf) | (apply kT (by decide); conv => whnf) | (apply kF (by decide); conv => whnf) | (apply kB <;> intro _ <;> conv => whnf) | fail))
                (refine ⟨k, _, rfl, geti x.us k hlt, rfl, ?_⟩; conv => whnf)
                (repeat' (first | (apply kT (by with_reducible first | rfl | assumption); conv => whnf) | (apply kF (by with_reducible first | rfl | assumption); conv => whnf) | (apply kT (by decide); conv => whnf) | (apply kF (by decide); conv => whnf) | (apply kB <;> intro _ <;> conv => whnf) | fail))
                (refine ⟨_, _, hnn.symm, hgb, rfl, ?_⟩; conv => whnf)
                (repeat' (first | (apply kT (by with_reducible first | rfl | assumption); conv => whnf) | (apply kF (by with_reducible first | rfl | assumption); conv => whnf) | (apply kT (by decide); conv => whnf) | (apply kF (by decide); conv => whnf) | (apply kB <;> intro _ <;> conv => whnf) | fail))
                (refine ⟨k, _, rfl, getwa (l := p.ws) (by omega), rfl, ?_⟩; conv => whnf)
                (repeat' (first | (apply kT (by with_reducible first | rfl | assumption); conv => whnf) | (apply kF (by with_reducible first | rfl | assumption); conv => whnf) | (apply kT (by decide); conv => whnf) | (apply kF (by decide); conv => whnf) | (apply kB <;> intro _ <;> conv => whnf) | fail))
                (refine ⟨_, _, hnn.symm, hgp, rfl, ?_⟩; conv => whnf)
                (repeat' (first | (apply kT (by with_reducible first | rfl | assumption); conv => whnf) | (apply kF (by with_reducible first | rfl | assumption); conv => whnf) | (apply kT (by decide); conv => whnf) | (apply kF (by decide); conv => whnf) | (apply kB <;> intro _ <;> conv => whnf) | (refine .inl ⟨_, cf, ?_⟩; conv => whnf) | fail))
                rfl
              | true =>
                rw [h3] at cf
                conv => whnf
                (repeat' (first | (apply kT (by with_reducible first | rfl | assumption); conv => whnf) | (apply kF (by with_reducible first | rfl | assumption); conv => whnf) | (apply kT (by decide); conv => whnf) | (apply kF (by decide); conv => whnf) | (apply kB <;> intro _ <;> conv => whnf) | fail))
                (refine ⟨k, _, rfl, geti x.us k hlt, rfl, ?_⟩; conv => whnf)
                (repeat' (first | (apply kT (by with_reducible first | rfl | assumption); conv => whnf) | (apply kF (by with_reducible first | rfl | assumption); conv => whnf) | (apply kT (by decide); conv => whnf) | (apply kF (by decide); conv => whnf) | (apply kB <;> intro _ <;> conv => whnf) | fail))
                (refine ⟨_, _, hnn.symm, hgb, rfl, ?_⟩; conv => whnf)
                (repeat' (first | (apply kT (by with_reducible first | rfl | assumption); conv => whnf) | (apply kF (by with_reducible first | rfl | assumption); conv => whnf) | (apply kT (by decide); conv => whnf) | (apply kF (by decide); conv => whnf) | (apply kB <;> intro _ <;> conv => whnf) | fail))
                (refine ⟨k, _, rfl, getwa (l := p.ws) (by omega), rfl, ?_⟩; conv => whnf)
                (repeat' (first | (apply kT (by with_reducible first | rfl | assumption); conv => whnf) | (apply kF (by with_reducible first | rfl | assumption); conv => whnf) | (apply kT (by decide); conv => whnf) | (apply kF (by decide); conv => whnf) | (apply kB <;> intro _ <;> conv => whnf) | fail))
                (refine ⟨_, _, hnn.symm, hgp, rfl, ?_⟩; conv => whnf)
                (repeat' (first | (apply kT (by with_reducible first | rfl | assumption); conv => whnf) | (apply kF (by with_reducible first | rfl | assumption); conv => whnf) | (apply kT (by decide); conv => whnf) | (apply kF (by decide); conv => whnf) | (apply kB <;> intro _ <;> conv => whnf) | (refine .inl ⟨_, cf, ?_⟩; conv => whnf) | fail))
                refine ⟨[], [2, 3, 4, 5, 6, 9, 10, 11], [0, 1], 2, fun j s => ∃ i : Nat, i + j = k ∧ (∀ (i' : Nat) (h : i' < x.us.length), i' < i → x.us[i'] ≠ x.us[k]) ∧
                  s = ⟨[(2, .ref 0 0), (3, .ref 1 0), (4, .d (dI 0)), (5, .d (pcsD st.1)), (6, .d (.seq (bsE st.2))), (9, .d (dI k)), (10, .d (dI x.us[k])), (11, .d (dI i))], [(0, .var false 24 ((plC p).map A.d)), (1, .var false 28 ((pnC x).map A.d))], 2⟩, ?_, ?_⟩
                · conv => whnf
                  exact ⟨k, 0, by omega, fun _ _ h => by omega, rfl⟩
                · rintro j _ ⟨i, hij, hne, rfl⟩
                  by_cases hik : i < k
                  · have f6 : decide ((i : Int) < (k : Int)) = true := decide_eq_true (by omega)
                    by_cases he : x.us[i] = x.us[k]
                    · have f7 : (x.us[i] == x.us[k]) = true := eqT he
                      rw [usesB_bad _ _ _ _ _ h1 (.inl ((seenL_mem h1).2 ⟨i, by omega, hik, he⟩))] at hrun
                      rw [hz, ← hrun]
                      conv => whnf
                      (repeat' (first | (apply kT (by with_reducible first | rfl | assumption); conv => whnf) | (apply kF (by with_reducible first | rfl | assumption); conv => whnf) | (apply kT (by decide); conv => whnf) | (apply kF (by decide); conv => whnf) | (apply kB <;> intro _ <;> conv => whnf) | fail))
                      (refine ⟨i, _, rfl, geti x.us i (by omega), rfl, ?_⟩; conv => whnf)
                      (repeat' (first | (apply kT (by with_reducible first | rfl | assumption); conv => whnf) | (apply kF (by with_reducible first | rfl | assumption); conv => whnf) | (apply kT (by decide); conv => whnf) | (apply kF (by decide); conv => whnf) | (apply kB <;> intro _ <;> conv => whnf) | fail))
                      rfl
                    · have f7 : (x.us[i] == x.us[k]) = false := eqF he
                      conv => whnf
                      (repeat' (first | (apply kT (by with_reducible first | rfl | assumption); conv => whnf) | (apply kF (by with_reducible first | rfl | assumption); conv => whnf) | (apply kT (by decide); conv => whnf) | (apply kF (by decide); conv => whnf) | (apply kB <;> intro _ <;> conv => whnf) | fail))
                      (refine ⟨i, _, rfl, geti x.us i (by omega), rfl, ?_⟩; conv => whnf)
                      (repeat' (first | (apply kT (by with_reducible first | rfl | assumption); conv => whnf) | (apply kF (by with_reducible first | rfl | assumption); conv => whnf) | (apply kT (by decide); conv => whnf) | (apply kF (by decide); conv => whnf) | (apply kB <;> intro _ <;> conv => whnf) | fail))
                      refine ⟨j - 1, by omega, i + 1, by omega, fun i' h hi => ?_, ?_⟩
                      · rcases Nat.lt_or_ge i' i with h' | h'
                        · exact hne i' h h'
                        · have : i' = i := by omega
                          subst this; exact he
                      · rw [w1 i (by omega)]
                        rfl
                  · have f6 : decide ((i : Int) < (k : Int)) = false := decide_eq_false (by omega)
                    have hns : ¬ (x.us[k] ∈ seenL x.us k ∨ cutAt st.2 x.us[k] = true ∨ fitsB (wtAt p.ws k) (pcAt st.1 x.us[k]) = false) := by
                      rw [h2, h3, seenL_mem h1]
                      rintro (⟨i', h', hk', e⟩ | h | h)
                      · exact hne i' h' (by omega) e
                      · cases h
                      · cases h
                    rw [usesB_good _ _ _ _ _ h1 hns, ← seenL_next hlt h1] at hrun
                    conv => whnf
                    (repeat' (first | (apply kT (by with_reducible first | rfl | assumption); conv => whnf) | (apply kF (by with_reducible first | rfl | assumption); conv => whnf) | (apply kT (by decide); conv => whnf) | (apply kF (by decide); conv => whnf) | (apply kB <;> intro _ <;> conv => whnf) | fail))
                    refine ⟨m - 1, by omega, k + 1, by omega, hrun, ?_⟩
                    rw [w1 k (by omega)]
                    rfl
          · have f4 : decide ((k : Int) < ((x.us.map fun n => [dI n]).length : Int)) = false := decide_eq_false (by rw [hmu]; omega)
            rw [List.drop_of_length_le (by omega), usesB_nil] at hrun
            rw [hz, ← hrun]
            conv => whnf
            (repeat' (first | (apply kT (by with_reducible first | rfl | assumption); conv => whnf) | (apply kF (by with_reducible first | rfl | assumption); conv => whnf) | (apply kT (by decide); conv => whnf) | (apply kF (by decide); conv => whnf) | (apply kB <;> intro _ <;> conv => whnf) | fail))
            rfl
end Go.Ev.Ytojlbcodfebmgaa

set_option linter.unusedVariables false
set_option linter.unusedSimpArgs false
set_option maxRecDepth 100000
namespace Go.Ev.Ytojlbcodfebmgaa
open Go.Proofs
attribute [local irreducible] Pure Bor Iter inB wtB partsL stepC useB usesB fitsB runC weighL uIdx betB cutsF bestP seeS memF cutsL partsW useF memN doN covB
theorem usedAs_pure (x : Pn) (hl : x.us.length ≤ 100000) (n : Int) : Pure Try.prog 26 [pnD x, dI n] (dI (uIdx x.us n)) := by
  have hm : ((x.us.map fun n => [dI n]).length : Int) = (x.us.length : Int) := by rw [List.length_map]
  refine pure_of pg Try.func26 (by kernel_rfl) ?_
  conv => whnf
  refine ⟨[], [1, 2, 5], [0], 1, fun m s => ∃ k : Nat, k + m = x.us.length ∧ (∀ i (h : i < k) (h' : i < x.us.length), (n == x.us[i]) = false) ∧ s = ⟨[(1, .d (dI n)), (2, .ref 0 0), (5, .d (dI k))], [(0, .var false 28 ((pnC x).map A.d))], 1⟩, ?_, ?_⟩
  · conv => whnf
    exact ⟨x.us.length, 0, by omega, fun i h => by omega, rfl⟩
  · rintro m _ ⟨k, hk, hall, rfl⟩
    by_cases hlt : k < x.us.length
    · have f1 : decide ((k : Int) < ((x.us.map fun n => [dI n]).length : Int)) = true := decide_eq_true (by rw [hm]; omega)
      by_cases h1 : x.us[k] = n
      · have f2 : (x.us[k] == n) = true := eqT h1
        have hf : x.us.findIdx? (fun x => n == x) = some k := by
          rw [List.findIdx?_eq_some_iff_getElem]
          exact ⟨hlt, by simp [h1], fun j hj => by simp only [hall j hj (by omega)]; decide⟩
        have e : uIdx x.us n = k := by unfold uIdx; rw [hf]
        rw [e]
        conv => whnf
        (repeat' (first | (apply kT (by with_reducible first | rfl | assumption); conv => whnf) | (apply kF (by with_reducible first | rfl | assumption); conv => whnf) | (apply kT (by decide); conv => whnf) | (apply kF (by decide); conv => whnf) | (apply kB <;> intro _ <;> conv => whnf) | fail))
        (refine ⟨k, _, rfl, geti x.us k hlt, rfl, ?_⟩; conv => whnf)
        (repeat' (first | (apply kT (by with_reducible first | rfl | assumption); conv => whnf) | (apply kF (by with_reducible first | rfl | assumption); conv => whnf) | (apply kT (by decide); conv => whnf) | (apply kF (by decide); conv => whnf) | (apply kB <;> intro _ <;> conv => whnf) | fail))
        rfl
      · have f2 : (x.us[k] == n) = false := eqF h1
        conv => whnf
        (repeat' (first | (apply kT (by with_reducible first | rfl | assumption); conv => whnf) | (apply kF (by with_reducible first | rfl | assumption); conv => whnf) | (apply kT (by decide); conv => whnf) | (apply kF (by decide); conv => whnf) | (apply kB <;> intro _ <;> conv => whnf) | fail))
        (refine ⟨k, _, rfl, geti x.us k hlt, rfl, ?_⟩; conv => whnf)
        (repeat' (first | (apply kT (by with_reducible first | rfl | assumption); conv => whnf) | (apply kF (by with_reducible first | rfl | assumption); conv => whnf) | (apply kT (by decide); conv => whnf) | (apply kF (by decide); conv => whnf) | (apply kB <;> intro _ <;> conv => whnf) | fail))
        refine ⟨m - 1, by omega, k + 1, by omega, fun i hi hi' => ?_, ?_⟩
        · rcases Nat.lt_or_ge i k with h2 | h2
          · exact hall i h2 hi'
          · have : i = k := by omega
            subst this
            exact eqF fun h => h1 h.symm
        · rw [w1 k (by omega)]
          rfl
    · have f1 : decide ((k : Int) < ((x.us.map fun n => [dI n]).length : Int)) = false := decide_eq_false (by rw [hm]; omega)
      have hf : x.us.findIdx? (fun x => n == x) = none := by
        rw [List.findIdx?_eq_none_iff]
        intro y hy
        obtain ⟨i, hi, rfl⟩ := List.mem_iff_getElem.1 hy
        exact hall i (by omega) hi
      have e : uIdx x.us n = -1 := by unfold uIdx; rw [hf]
      rw [e]
      conv => whnf
      (repeat' (first | (apply kT (by with_reducible first | rfl | assumption); conv => whnf) | (apply kF (by with_reducible first | rfl | assumption); conv => whnf) | (apply kT (by decide); conv => whnf) | (apply kF (by decide); conv => whnf) | (apply kB <;> intro _ <;> conv => whnf) | fail))
      rfl
def covR (q : Pc) (ux uy : Int) : Bool := inB ux q.x (q.x + q.w - 1) && inB uy q.y (q.y + q.l - 1)
theorem covB_eq {q : Pc} (hq : OkP q) {ux uy : Int} (hx : -1000 ≤ ux ∧ ux ≤ 1000) (hy : -1000 ≤ uy ∧ uy ≤ 1000) : covB q ux uy = covR q ux uy := by
  have := hq.x0; have := hq.y0; have := hq.w0; have := hq.l0; have := hq.x1; have := hq.y1
  unfold covB covR inB
  rw [show wI (ux - q.x) = ux - q.x from wS (by omega) (by omega), show wI (uy - q.y) = uy - q.y from wS (by omega) (by omega), show wI (q.w - 1) = q.w - 1 from wS (by omega) (by omega), show wI (q.l - 1) = q.l - 1 from wS (by omega) (by omega)]
  rw [Bool.eq_iff_iff]
  simp only [Bool.and_eq_true, decide_eq_true_eq]
  omega
theorem covR_iff {q : Pc} {ux uy : Int} : covR q ux uy = true ↔ (q.x ≤ ux ∧ ux < q.x + q.w) ∧ (q.y ≤ uy ∧ uy < q.y + q.l) := by
  unfold covR
  rw [Bool.and_eq_true, inB_true, inB_true]
  omega
theorem traceL_drop {ux uy : Int} {ps : List Pc} {cs : List Bool} {k : Nat} (h : k < ps.length) (h2 : cs.length = ps.length) : traceL ux uy (ps.drop k) (cs.drop k) k = if cutAt cs k = false ∧ covB (pcAt ps k) ux uy = true then (k : Int) else traceL ux uy (ps.drop (k + 1)) (cs.drop (k + 1)) (k + 1) := by
  rw [List.drop_eq_getElem_cons h, List.drop_eq_getElem_cons (i := k) (l := cs) (by omega), traceL_cons]
  have e1 : pcAt ps k = ps[k] := by unfold pcAt; rw [Int.toNat_natCast, List.getElem?_eq_getElem h]; rfl
  have e2 : cutAt cs k = cs[k] := by unfold cutAt; rw [Int.toNat_natCast, List.getElem?_eq_getElem (by omega)]; rfl
  rw [e1, e2]
attribute [local irreducible] traceL
theorem traceR_pure {p : Pl} (hp : checkI p = 0) {x : Pn} (hl : x.cs.length ≤ 45) {st : St2} (hr : runC p.s x.cs (st0 p) = some st) {ux uy : Int} (hx : -1000 ≤ ux ∧ ux ≤ 1000) (hy : -1000 ≤ uy ∧ uy ≤ 1000) :
    Pure Try.prog 25 [plD p, pnD x, dI ux, dI uy] (dI (traceL ux uy st.1 st.2 0)) := by
  have hok := runC_ok hp (st0_ok hp) hr
  have hsl : st.1.length ≤ 1000 := by have := hok.2; simp only [st0, List.length_singleton] at this; omega
  have hok := hok.1
  have cp := piecesR_pure hp hl hr
  have hpl : ((st.1.map pcD).length : Int) = st.1.length := by rw [List.length_map]
  refine pure_of pg Try.func25 (by kernel_rfl) ?_
  conv => whnf
  (repeat' (first | (apply kT (by with_reducible first | rfl | assumption); conv => whnf) | (apply kF (by with_reducible first | rfl | assumption); conv => whnf) | (apply kT (by decide); conv => whnf) | (apply kF (by decide); conv => whnf) | (apply kB <;> intro _ <;> conv => whnf) | (refine .inl ⟨_, cp, ?_⟩; conv => whnf) | fail))
  refine ⟨[], [2, 3, 4, 5, 8, 9, 10, 12], [0, 1], 2, fun m s => ∃ k : Nat, k + m = st.1.length ∧ traceL ux uy (st.1.drop k) (st.2.drop k) k = traceL ux uy st.1 st.2 0 ∧
    s = ⟨[(2, .d (dI ux)), (3, .d (dI uy)), (4, .ref 0 0), (5, .ref 1 0), (8, .d (dI 0)), (9, .d (pcsD st.1)), (10, .d (.seq (bsE st.2))), (12, .d (dI k))], [(0, .var false 24 ((plC p).map A.d)), (1, .var false 28 ((pnC x).map A.d))], 2⟩, ?_, ?_⟩
  · conv => whnf
    exact ⟨st.1.length, 0, by omega, rfl, rfl⟩
  · rintro m _ ⟨k, hk, hrun, rfl⟩
    by_cases hlt : k < st.1.length
    · have f1 : decide ((k : Int) < ((st.1.map pcD).length : Int)) = true := decide_eq_true (by rw [hpl]; omega)
      have hq : OkP (pcAt st.1 k) := hok.at (n := (k : Int)) (by omega) (by omega)
      have hgp : (st.1.map pcD)[k]? = some (pcD (pcAt st.1 k)) := getpa (n := (k : Int)) (by omega) (by omega)
      have hgb : (bsE st.2)[k]? = some [dB (cutAt st.2 k)] := getba (n := (k : Int)) (by omega) (by have := hok.len; omega)
      rw [traceL_drop hlt hok.len, covB_eq hq hx hy] at hrun
      generalize hQ : pcAt st.1 k = q at hq hgp hrun
      have := hq.x0; have := hq.y0; have := hq.w0; have := hq.l0; have := hq.x1; have := hq.y1
      have wx : IntKind.i64.wrap (IntKind.i64.wrap (q.x + q.w) - 1) = q.x + q.w - 1 := by rw [wS (z := q.x + q.w) (by omega) (by omega)]; exact wS (by omega) (by omega)
      have wy : IntKind.i64.wrap (IntKind.i64.wrap (q.y + q.l) - 1) = q.y + q.l - 1 := by rw [wS (z := q.y + q.l) (by omega) (by omega)]; exact wS (by omega) (by omega)
      have cx := in_pure ux q.x (IntKind.i64.wrap (IntKind.i64.wrap (q.x + q.w) - 1))
      have cy := in_pure uy q.y (IntKind.i64.wrap (IntKind.i64.wrap (q.y + q.l) - 1))
      rw [show inB ux q.x (IntKind.i64.wrap (IntKind.i64.wrap (q.x + q.w) - 1)) = inB ux q.x (q.x + q.w - 1) by rw [wx]] at cx
      rw [show inB uy q.y (IntKind.i64.wrap (IntKind.i64.wrap (q.y + q.l) - 1)) = inB uy q.y (q.y + q.l - 1) by rw [wy]] at cy
      cases hb : cutAt st.2 k with
      | true =>
        rw [hb] at hgb
        rw [hb, if_neg (by simp)] at hrun
        conv => whnf
        (repeat' (first | (apply kT (by with_reducible first | rfl | assumption); conv => whnf) | (apply kF (by with_reducible first | rfl | assumption); conv => whnf) | (apply kT (by decide); conv => whnf) | (apply kF (by decide); conv => whnf) | (apply kB <;> intro _ <;> conv => whnf) | fail))
        (refine ⟨k, _, rfl, hgp, rfl, ?_⟩; conv => whnf)
        (repeat' (first | (apply kT (by with_reducible first | rfl | assumption); conv => whnf) | (apply kF (by with_reducible first | rfl | assumption); conv => whnf) | (apply kT (by decide); conv => whnf) | (apply kF (by decide); conv => whnf) | (apply kB <;> intro _ <;> conv => whnf) | fail))
        (refine ⟨k, _, rfl, hgb, rfl, ?_⟩; conv => whnf)
        (repeat' (first | (apply kT (by with_reducible first | rfl | assumption); conv => whnf) | (apply kF (by with_reducible first | rfl | assumption); conv => whnf) | (apply kT (by decide); conv => whnf) | (apply kF (by decide); conv => whnf) | (apply kB <;> intro _ <;> conv => whnf) | fail))
        refine ⟨m - 1, by omega, k + 1, by omega, hrun, ?_⟩
        rw [w1 k (by omega)]
        rfl
      | false =>
        rw [hb] at hgb
        cases h1 : inB ux q.x (q.x + q.w - 1) with
        | false =>
          have hcv : covR q ux uy = false := by unfold covR; rw [h1]; rfl
          rw [h1] at cx
          rw [hb, hcv, if_neg (by simp)] at hrun
          conv => whnf
          (repeat' (first | (apply kT (by with_reducible first | rfl | assumption); conv => whnf) | (apply kF (by with_reducible first | rfl | assumption); conv => whnf) | (apply kT (by decide); conv => whnf) | (apply kF (by decide); conv => whnf) | (apply kB <;> intro _ <;> conv => whnf) | fail))
          (refine ⟨k, _, rfl, hgp, rfl, ?_⟩; conv => whnf)
          (repeat' (first | (apply kT (by with_reducible first | rfl | assumption); conv => whnf) | (apply kF (by with_reducible first | rfl | assumption); conv => whnf) | (apply kT (by decide); conv => whnf) | (apply kF (by decide); conv => whnf) | (apply kB <;> intro _ <;> conv => whnf) | fail))
          (refine ⟨k, _, rfl, hgb, rfl, ?_⟩; conv => whnf)
          (repeat' (first | (apply kT (by with_reducible first | rfl | assumption); conv => whnf) | (apply kF (by with_reducible first | rfl | assumption); conv => whnf) | (apply kT (by decide); conv => whnf) | (apply kF (by decide); conv => whnf) | (apply kB <;> intro _ <;> conv => whnf) | (refine .inl ⟨_, cx, ?_⟩; conv => whnf) | fail))
          refine ⟨m - 1, by omega, k + 1, by omega, hrun, ?_⟩
          rw [w1 k (by omega)]
          rfl
        | true =>
          rw [h1] at cx
          cases h2 : inB uy q.y (q.y + q.l - 1) with
          | false =>
            have hcv : covR q ux uy = false := by unfold covR; rw [h1, h2]; rfl
            rw [h2] at cy
            rw [hb, hcv, if_neg (by simp)] at hrun
            conv => whnf
            (repeat' (first | (apply kT (by with_reducible first | rfl | assumption); conv => whnf) | (apply kF (by with_reducible first | rfl | assumption); conv => whnf) | (apply kT (by decide); conv => whnf) | (apply kF (by decide); conv => whnf) | (apply kB <;> intro _ <;> conv => whnf) | fail))
            (refine ⟨k, _, rfl, hgp, rfl, ?_⟩; conv => whnf)
            (repeat' (first | (apply kT (by with_reducible first | rfl | assumption); conv => whnf) | (apply kF (by with_reducible first | rfl | assumption); conv => whnf) | (apply kT (by decide); conv => whnf) | (apply kF (by decide); conv => whnf) | (apply kB <;> intro _ <;> conv => whnf) | fail))
            (refine ⟨k, _, rfl, hgb, rfl, ?_⟩; conv => whnf)
            (repeat' (first | (apply kT (by with_reducible first | rfl | assumption); conv => whnf) | (apply kF (by with_reducible first | rfl | assumption); conv => whnf) | (apply kT (by decide); conv => whnf) | (apply kF (by decide); conv => whnf) | (apply kB <;> intro _ <;> conv => whnf) | (refine .inl ⟨_, cx, ?_⟩; conv => whnf) | (refine .inl ⟨_, cy, ?_⟩; conv => whnf) | fail))
            refine ⟨m - 1, by omega, k + 1, by omega, hrun, ?_⟩
            rw [w1 k (by omega)]
            rfl
          | true =>
            have hcv : covR q ux uy = true := by unfold covR; rw [h1, h2]; rfl
            rw [h2] at cy
            rw [hb, hcv, if_pos (by simp)] at hrun
            rw [← hrun]
            conv => whnf
            (repeat' (first | (apply kT (by with_reducible first | rfl | assumption); conv => whnf) | (apply kF (by with_reducible first | rfl | assumption); conv => whnf) | (apply kT (by decide); conv => whnf) | (apply kF (by decide); conv => whnf) | (apply kB <;> intro _ <;> conv => whnf) | fail))
            (refine ⟨k, _, rfl, hgp, rfl, ?_⟩; conv => whnf)
            (repeat' (first | (apply kT (by with_reducible first | rfl | assumption); conv => whnf) | (apply kF (by with_reducible first | rfl | assumption); conv => whnf) | (apply kT (by decide); conv => whnf) | (apply kF (by decide); conv => whnf) | (apply kB <;> intro _ <;> conv => whnf) | fail))
            (refine ⟨k, _, rfl, hgb, rfl, ?_⟩; conv => whnf)
            (repeat' (first | (apply kT (by with_reducible first | rfl | assumption); conv => whnf) | (apply kF (by with_reducible first | rfl | assumption); conv => whnf) | (apply kT (by decide); conv => whnf) | (apply kF (by decide); conv => whnf) | (apply kB <;> intro _ <;> conv => whnf) | (refine .inl ⟨_, cx, ?_⟩; conv => whnf) | (refine .inl ⟨_, cy, ?_⟩; conv => whnf) | fail))
            rfl
    · have f1 : decide ((k : Int) < ((st.1.map pcD).length : Int)) = false := decide_eq_false (by rw [hpl]; omega)
      rw [List.drop_of_length_le (by omega), traceL_nil] at hrun
      rw [← hrun]
      conv => whnf
      (repeat' (first | (apply kT (by with_reducible first | rfl | assumption); conv => whnf) | (apply kF (by with_reducible first | rfl | assumption); conv => whnf) | (apply kT (by decide); conv => whnf) | (apply kF (by decide); conv => whnf) | (apply kB <;> intro _ <;> conv => whnf) | fail))
      rfl
end Go.Ev.Ytojlbcodfebmgaa

set_option linter.unusedVariables false
set_option linter.unusedSimpArgs false
set_option maxRecDepth 100000
namespace Go.Ev.Ytojlbcodfebmgaa
open Go.Proofs
attribute [local irreducible] Pure Bor Iter inB wtB partsL stepC useB usesB fitsB runC weighL uIdx betB cutsF bestP seeS memF cutsL partsW useF memN doN covB traceL
def cntC (f : Int → Int → Bool) (x : Int) : Nat → Nat
  | 0 => 0
  | l + 1 => cntC f x l + (if f x l then 1 else 0)
def cntA (f : Int → Int → Bool) (L : Nat) : Nat → Nat
  | 0 => 0
  | w + 1 => cntA f L w + cntC f w L
theorem cntC_le (f : Int → Int → Bool) (x : Int) : ∀ l, cntC f x l ≤ l
  | 0 => Nat.le_refl _
  | l + 1 => by rw [cntC]; have := cntC_le f x l; split <;> omega
theorem cntA_le (f : Int → Int → Bool) (L : Nat) : ∀ w, cntA f L w ≤ L * w
  | 0 => Nat.zero_le _
  | w + 1 => by rw [cntA, Nat.mul_succ]; have := cntA_le f L w; have := cntC_le f w L; omega
/-- what a unit has become: 0 chips, 1 a specimen, 2 a remnant -/
def clsN (st : St2) (us : List Int) (ux uy : Int) : Nat := if traceL ux uy st.1 st.2 0 < 0 then 0 else if 0 ≤ uIdx us (traceL ux uy st.1 st.2 0) then 1 else 2
def clsB (st : St2) (us : List Int) (k : Nat) (ux uy : Int) : Bool := Nat.beq (clsN st us ux uy) k
def usAt (us : List Int) (k : Nat) : Int := (us[k]?).getD (-1)
def wthN (ws : List Wt) (us : List Int) : Nat → Int
  | 0 => 0
  | k + 1 => wthN ws us k + (if 0 ≤ usAt us k then (wtAt ws k).g else 0)
theorem wtB_g {w : Wt} (h : wtB w = true) : 0 ≤ w.g ∧ w.g ≤ 1000 := by
  unfold wtB at h
  simp only [Bool.and_eq_true] at h
  exact inB_true.1 h.1.1.2
theorem wtAt_ok {p : Pl} (hp : checkI p = 0) {k : Nat} (hk : k < p.ws.length) : wtB (wtAt p.ws k) = true := by
  have h := (check_zero hp).2.2.2.2
  unfold wtAt
  rw [List.getElem?_eq_getElem hk]
  exact List.all_eq_true.1 h _ (List.getElem_mem hk)
theorem wthN_bd {p : Pl} (hp : checkI p = 0) (us : List Int) : ∀ k, k ≤ p.ws.length → 0 ≤ wthN p.ws us k ∧ wthN p.ws us k ≤ 1000 * k
  | 0, _ => by simp [wthN]
  | k + 1, h => by
    have ih := wthN_bd hp us k (by omega)
    have hg := wtB_g (wtAt_ok hp (k := k) (by omega))
    rw [wthN]
    split <;> omega
attribute [local irreducible] cntC cntA wthN clsB
set_option maxHeartbeats 4000000 in
theorem weighR_pure {p : Pl} {x : Pn} {st : St2} (o : OkX p x st) :
    Pure Try.prog 22 [plD p, pnD x] (.tup [dI (cntA (clsB st x.us 1) p.l.toNat p.w.toNat), dI (cntA (clsB st x.us 2) p.l.toNat p.w.toNat), dI (cntA (clsB st x.us 0) p.l.toNat p.w.toNat), dI (wthN p.ws x.us x.us.length)]) := by
  have hp := o.chk
  obtain ⟨hw4, hpw, hpl, hs, _⟩ := check_zero hp
  have hus := o.us
  have hmu : ((x.us.map fun n => [dI n]).length : Int) = x.us.length := by rw [List.length_map]
  obtain ⟨W, hW⟩ : ∃ W : Nat, p.w = W := ⟨p.w.toNat, by omega⟩
  obtain ⟨L, hL⟩ : ∃ L : Nat, p.l = L := ⟨p.l.toNat, by omega⟩
  have eW : p.w.toNat = W := by omega
  have eL : p.l.toNat = L := by omega
  rw [eW, eL]
  have hW8 : W ≤ 8 := by omega
  have hL8 : L ≤ 8 := by omega
  have ct := fun ux uy hx hy => traceR_pure hp (by have := o.len; omega) o.run (ux := ux) (uy := uy) hx hy
  have cu := usedAs_pure x (by omega)
  have bd : ∀ k i j : Nat, i ≤ W → j ≤ L → cntA (clsB st x.us k) L i + cntC (clsB st x.us k) i j ≤ 100 := fun k i j hi hj => by
    have h1 := cntA_le (clsB st x.us k) L i
    have h2 := cntC_le (clsB st x.us k) i j
    have h3 : L * i ≤ 8 * 8 := Nat.mul_le_mul (by omega) (by omega)
    omega
  refine pure_of pg Try.func22 (by kernel_rfl) ?_
  conv => whnf
  refine ⟨[], [2, 3, 8, 9, 10, 11, 12], [0, 1], 2, fun m s => ∃ i : Nat, i + m = W ∧
    s = ⟨[(2, .ref 0 0), (3, .ref 1 0), (8, .d (dI (cntA (clsB st x.us 1) L i))), (9, .d (dI (cntA (clsB st x.us 2) L i))), (10, .d (dI (cntA (clsB st x.us 0) L i))), (11, .d (dI 0)), (12, .d (dI i))], [(0, .var false 24 ((plC p).map A.d)), (1, .var false 28 ((pnC x).map A.d))], 2⟩, ?_, ?_⟩
  · conv => whnf
    refine ⟨W, 0, by omega, ?_⟩
    rw [cntA, cntA, cntA]
    rfl
  · rintro m _ ⟨i, him, rfl⟩
    by_cases hi : i < W
    · have f1 : decide ((i : Int) < p.w) = true := decide_eq_true (by omega)
      conv => whnf
      (repeat' (first | (apply kT (by with_reducible first | rfl | assumption); conv => whnf) | (apply kF (by with_reducible first | rfl | assumption); conv => whnf) | (apply kT (by decide); conv => whnf) | (apply kF (by decide); conv => whnf) | (apply kB <;> intro _ <;> conv => whnf) | fail))
      refine ⟨[], [2, 3, 8, 9, 10, 11, 12, 13], [0, 1], 2, fun m s => ∃ j : Nat, j + m = L ∧
        s = ⟨[(2, .ref 0 0), (3, .ref 1 0), (8, .d (dI (cntA (clsB st x.us 1) L i + cntC (clsB st x.us 1) i j : Nat))), (9, .d (dI (cntA (clsB st x.us 2) L i + cntC (clsB st x.us 2) i j : Nat))), (10, .d (dI (cntA (clsB st x.us 0) L i + cntC (clsB st x.us 0) i j : Nat))), (11, .d (dI 0)), (12, .d (dI i)), (13, .d (dI j))], [(0, .var false 24 ((plC p).map A.d)), (1, .var false 28 ((pnC x).map A.d))], 2⟩, ?_, ?_⟩
      · conv => whnf
        refine ⟨L, 0, by omega, ?_⟩
        rw [cntC, cntC, cntC]
        rfl
      · rintro m2 _ ⟨j, hjm, rfl⟩
        by_cases hj : j < L
        · have f2 : decide ((j : Int) < p.l) = true := decide_eq_true (by omega)
          have ct := ct i j (by omega) (by omega)
          have cu := cu (traceL i j st.1 st.2 0)
          have b0 := bd 0 i j (by omega) (by omega)
          have b1 := bd 1 i j (by omega) (by omega)
          have b2 := bd 2 i j (by omega) (by omega)
          have n0 : cntA (clsB st x.us 0) L i + cntC (clsB st x.us 0) i (j + 1) = cntA (clsB st x.us 0) L i + cntC (clsB st x.us 0) i j + (if clsB st x.us 0 i j then 1 else 0) := by rw [cntC, Nat.add_assoc]
          have n1 : cntA (clsB st x.us 1) L i + cntC (clsB st x.us 1) i (j + 1) = cntA (clsB st x.us 1) L i + cntC (clsB st x.us 1) i j + (if clsB st x.us 1 i j then 1 else 0) := by rw [cntC, Nat.add_assoc]
          have n2 : cntA (clsB st x.us 2) L i + cntC (clsB st x.us 2) i (j + 1) = cntA (clsB st x.us 2) L i + cntC (clsB st x.us 2) i j + (if clsB st x.us 2 i j then 1 else 0) := by rw [cntC, Nat.add_assoc]
          have hc : clsN st x.us i j = if traceL i j st.1 st.2 0 < 0 then 0 else if 0 ≤ uIdx x.us (traceL i j st.1 st.2 0) then 1 else 2 := rfl
          have hcb : ∀ k, clsB st x.us k i j = Nat.beq (clsN st x.us i j) k := fun k => by unfold clsB; rfl
          rw [hcb] at n0 n1 n2
          generalize traceL i j st.1 st.2 0 = t at ct cu hc
          have key : ∀ (s' : St), (s' = ⟨[(2, .ref 0 0), (3, .ref 1 0), (8, .d (dI (cntA (clsB st x.us 1) L i + cntC (clsB st x.us 1) i (j + 1) : Nat))), (9, .d (dI (cntA (clsB st x.us 2) L i + cntC (clsB st x.us 2) i (j + 1) : Nat))), (10, .d (dI (cntA (clsB st x.us 0) L i + cntC (clsB st x.us 0) i (j + 1) : Nat))), (11, .d (dI 0)), (12, .d (dI i)), (13, .d (dI ((j + 1 : Nat) : Int)))], [(0, .var false 24 ((plC p).map A.d)), (1, .var false 28 ((pnC x).map A.d))], 2⟩) → ∃ j' : Nat, j' + (m2 - 1) = L ∧
            s' = ⟨[(2, .ref 0 0), (3, .ref 1 0), (8, .d (dI (cntA (clsB st x.us 1) L i + cntC (clsB st x.us 1) i j' : Nat))), (9, .d (dI (cntA (clsB st x.us 2) L i + cntC (clsB st x.us 2) i j' : Nat))), (10, .d (dI (cntA (clsB st x.us 0) L i + cntC (clsB st x.us 0) i j' : Nat))), (11, .d (dI 0)), (12, .d (dI i)), (13, .d (dI j'))], [(0, .var false 24 ((plC p).map A.d)), (1, .var false 28 ((pnC x).map A.d))], 2⟩ := fun s' h => ⟨j + 1, by omega, h⟩
          by_cases ht : t < 0
          · have f3 : decide (t < 0) = true := decide_eq_true ht
            rw [hc, if_pos ht] at n0 n1 n2
            conv => whnf
            (repeat' (first | (apply kT (by with_reducible first | rfl | assumption); conv => whnf) | (apply kF (by with_reducible first | rfl | assumption); conv => whnf) | (apply kT (by decide); conv => whnf) | (apply kF (by decide); conv => whnf) | (apply kB <;> intro _ <;> conv => whnf) | (refine .inl ⟨_, ct, ?_⟩; conv => whnf) | fail))
            refine ⟨m2 - 1, by omega, key _ ?_⟩
            rw [n0, n1, n2]
            simp only [Nat.beq, if_true, if_false, Bool.false_eq_true, Nat.add_zero]
            rw [w1 j (by omega), w1 _ (by omega)]
            rfl
          · have f3 : decide (t < 0) = false := decide_eq_false ht
            by_cases hu : 0 ≤ uIdx x.us t
            · have f4 : decide (uIdx x.us t ≥ 0) = true := decide_eq_true hu
              rw [hc, if_neg ht, if_pos hu] at n0 n1 n2
              conv => whnf
              (repeat' (first | (apply kT (by with_reducible first | rfl | assumption); conv => whnf) | (apply kF (by with_reducible first | rfl | assumption); conv => whnf) | (apply kT (by decide); conv => whnf) | (apply kF (by decide); conv => whnf) | (apply kB <;> intro _ <;> conv => whnf) | (refine .inl ⟨_, ct, ?_⟩; conv => whnf) | (refine .inl ⟨_, cu, ?_⟩; conv => whnf) | fail))
              refine ⟨m2 - 1, by omega, key _ ?_⟩
              rw [n0, n1, n2]
              simp only [Nat.beq, if_true, if_false, Bool.false_eq_true, Nat.add_zero]
              rw [w1 j (by omega), w1 _ (by omega)]
              rfl
            · have f4 : decide (uIdx x.us t ≥ 0) = false := decide_eq_false hu
              rw [hc, if_neg ht, if_neg hu] at n0 n1 n2
              conv => whnf
              (repeat' (first | (apply kT (by with_reducible first | rfl | assumption); conv => whnf) | (apply kF (by with_reducible first | rfl | assumption); conv => whnf) | (apply kT (by decide); conv => whnf) | (apply kF (by decide); conv => whnf) | (apply kB <;> intro _ <;> conv => whnf) | (refine .inl ⟨_, ct, ?_⟩; conv => whnf) | (refine .inl ⟨_, cu, ?_⟩; conv => whnf) | fail))
              refine ⟨m2 - 1, by omega, key _ ?_⟩
              rw [n0, n1, n2]
              simp only [Nat.beq, if_true, if_false, Bool.false_eq_true, Nat.add_zero]
              rw [w1 j (by omega), w1 _ (by omega)]
              rfl
        · have f2 : decide ((j : Int) < p.l) = false := decide_eq_false (by omega)
          have hjL : j = L := by omega
          subst hjL
          conv => whnf
          (repeat' (first | (apply kT (by with_reducible first | rfl | assumption); conv => whnf) | (apply kF (by with_reducible first | rfl | assumption); conv => whnf) | (apply kT (by decide); conv => whnf) | (apply kF (by decide); conv => whnf) | (apply kB <;> intro _ <;> conv => whnf) | fail))
          refine ⟨m - 1, by omega, i + 1, by omega, ?_⟩
          rw [cntA, cntA, cntA, w1 i (by omega)]
          rfl
    · have f1 : decide ((i : Int) < p.w) = false := decide_eq_false (by omega)
      have hiW : i = W := by omega
      subst hiW
      conv => whnf
      (repeat' (first | (apply kT (by with_reducible first | rfl | assumption); conv => whnf) | (apply kF (by with_reducible first | rfl | assumption); conv => whnf) | (apply kT (by decide); conv => whnf) | (apply kF (by decide); conv => whnf) | (apply kB <;> intro _ <;> conv => whnf) | fail))
      refine ⟨[], [2, 3, 8, 9, 10, 11, 15], [0, 1], 2, fun m s => ∃ k : Nat, k + m = x.us.length ∧
        s = ⟨[(2, .ref 0 0), (3, .ref 1 0), (8, .d (dI (cntA (clsB st x.us 1) L i))), (9, .d (dI (cntA (clsB st x.us 2) L i))), (10, .d (dI (cntA (clsB st x.us 0) L i))), (11, .d (dI (wthN p.ws x.us k))), (15, .d (dI k))], [(0, .var false 24 ((plC p).map A.d)), (1, .var false 28 ((pnC x).map A.d))], 2⟩, ?_, ?_⟩
      · conv => whnf
        refine ⟨x.us.length, 0, by omega, ?_⟩
        rw [wthN]
        rfl
      · rintro m _ ⟨k, hkm, rfl⟩
        by_cases hk : k < x.us.length
        · have f3 : decide ((k : Int) < ((x.us.map fun n => [dI n]).length : Int)) = true := decide_eq_true (by rw [hmu]; omega)
          have hbd := wthN_bd hp x.us k (by omega)
          have hg := wtB_g (wtAt_ok hp (k := k) (by omega))
          have eu : usAt x.us k = x.us[k] := by unfold usAt; rw [List.getElem?_eq_getElem hk]; rfl
          by_cases h0 : 0 ≤ x.us[k]
          · have f4 : decide (x.us[k] ≥ 0) = true := decide_eq_true h0
            conv => whnf
            (repeat' (first | (apply kT (by with_reducible first | rfl | assumption); conv => whnf) | (apply kF (by with_reducible first | rfl | assumption); conv => whnf) | (apply kT (by decide); conv => whnf) | (apply kF (by decide); conv => whnf) | (apply kB <;> intro _ <;> conv => whnf) | fail))
            (refine ⟨k, _, rfl, geti x.us k hk, rfl, ?_⟩; conv => whnf)
            (repeat' (first | (apply kT (by with_reducible first | rfl | assumption); conv => whnf) | (apply kF (by with_reducible first | rfl | assumption); conv => whnf) | (apply kT (by decide); conv => whnf) | (apply kF (by decide); conv => whnf) | (apply kB <;> intro _ <;> conv => whnf) | fail))
            (refine ⟨k, _, rfl, getwa (l := p.ws) (by omega), rfl, ?_⟩; conv => whnf)
            refine ⟨m - 1, by omega, k + 1, by omega, ?_⟩
            rw [wthN, eu, if_pos h0, w1 k (by omega), wS (by omega) (by omega)]
            rfl
          · have f4 : decide (x.us[k] ≥ 0) = false := decide_eq_false h0
            conv => whnf
            (repeat' (first | (apply kT (by with_reducible first | rfl | assumption); conv => whnf) | (apply kF (by with_reducible first | rfl | assumption); conv => whnf) | (apply kT (by decide); conv => whnf) | (apply kF (by decide); conv => whnf) | (apply kB <;> intro _ <;> conv => whnf) | fail))
            (refine ⟨k, _, rfl, geti x.us k hk, rfl, ?_⟩; conv => whnf)
            (repeat' (first | (apply kT (by with_reducible first | rfl | assumption); conv => whnf) | (apply kF (by with_reducible first | rfl | assumption); conv => whnf) | (apply kT (by decide); conv => whnf) | (apply kF (by decide); conv => whnf) | (apply kB <;> intro _ <;> conv => whnf) | fail))
            refine ⟨m - 1, by omega, k + 1, by omega, ?_⟩
            rw [wthN, eu, if_neg h0, w1 k (by omega), Int.add_zero]
            rfl
        · have f3 : decide ((k : Int) < ((x.us.map fun n => [dI n]).length : Int)) = false := decide_eq_false (by rw [hmu]; omega)
          have hk' : k = x.us.length := by omega
          subst hk'
          conv => whnf
          (repeat' (first | (apply kT (by with_reducible first | rfl | assumption); conv => whnf) | (apply kF (by with_reducible first | rfl | assumption); conv => whnf) | (apply kT (by decide); conv => whnf) | (apply kF (by decide); conv => whnf) | (apply kB <;> intro _ <;> conv => whnf) | fail))
          rfl
end Go.Ev.Ytojlbcodfebmgaa

set_option linter.unusedVariables false
set_option linter.unusedSimpArgs false
set_option maxRecDepth 100000
namespace Go.Ev.Ytojlbcodfebmgaa
open Go.Proofs
def sawnX : Pn := ⟨[⟨0, false, 2⟩, ⟨2, true, 1⟩], [1, 3, -1]⟩
theorem sawn_w : weighI sheetP sawnX = [dI 11, dI 6, dI 7, dI 9] ∧ plnI sheetP sawnX = 0 := by constructor <;> kernel_rfl
theorem sheet_chk : checkI sheetP = 0 := by decide
theorem sawn_t : traceI sheetP sawnX 4 0 = (3, 1, 0) := by kernel_rfl
attribute [local irreducible] Pure Bor Iter inB wtB partsL stepC useB usesB fitsB runC weighL uIdx betB cutsF bestP seeS memF cutsL partsW useF memN doN covB traceL
theorem sheet_cuts : ((dsAll sheetP).cs.length : Int) = 3 := by
  have hp := sheet_chk
  have hp0 : OkP (wholeP sheetP) := by constructor <;> decide
  have ok0 : DsOk sheetP ⟨[wholeP sheetP], [], List.replicate sheetP.ws.length (-1), []⟩ := ⟨fun q hq => by simp only [List.mem_singleton] at hq; subst hq; exact hp0, (fun q w v h0 h1 hg => by cases hg), by simp⟩
  have h := doN_cuts (p := sheetP) (by decide) (sizeP (wholeP sheetP)) 0 (allW sheetP.ws.length) _ ok0 (by simp) (Nat.le_refl _)
  have e : pcAt [wholeP sheetP] ((0 : Nat) : Int) = ⟨0, 0, 6, 4⟩ := rfl
  have e2 : allW sheetP.ws.length = ⟨true, true, true, false⟩ := rfl
  dsimp only at h
  rw [e, e2, sheet_best.2] at h
  exact h
theorem sheet_pure : Pure Try.prog 45 [] (plD sheetP) := by
  refine pure_of pg Try.func45 (by kernel_rfl) ?_
  conv => whnf
  (refine .l ?_; conv => whnf)
  rfl
theorem sawn_pure : Pure Try.prog 46 [] (pnD sawnX) := by
  refine pure_of pg Try.func46 (by kernel_rfl) ?_
  conv => whnf
  (refine .l ?_; conv => whnf)
  (refine .l ?_; conv => whnf)
  rfl
theorem wakes_pure : Pure Try.prog 17 [] (dB true) := by
  have hp := sheet_chk
  have hi : InX sawnX := by intro c hc; simp only [sawnX, List.mem_cons, List.not_mem_nil, or_false] at hc; rcases hc with rfl | rfl <;> constructor <;> constructor <;> decide
  have c1 := weigh_pure (p := sheetP) (x := sawnX) (by decide) (by decide) hi
  have c2 := trace_pure (p := sheetP) (x := sawnX) (by decide) (by decide) hi 4 0
  have c3 := bestfn_pure hp
  rw [sawn_w.1, sawn_w.2] at c1
  rw [sawn_t] at c2
  dsimp only at c2
  have e3 : (bestP sheetP (wholeP sheetP) (allW sheetP.ws.length)).g = 12 := sheet_best.1
  rw [e3] at c3
  have f1 : ((((dsAll sheetP).cs.map ctD).length : Int) == 3) = true := eqT (by rw [List.length_map]; exact sheet_cuts)
  refine pure_of pg Try.func17 (by kernel_rfl) ?_
  conv => whnf
  (repeat' (first | (apply kT (by with_reducible first | rfl | assumption); conv => whnf) | (apply kF (by with_reducible first | rfl | assumption); conv => whnf) | (apply kT (by decide); conv => whnf) | (apply kF (by decide); conv => whnf) | (apply kB <;> intro _ <;> conv => whnf) | (refine .inl ⟨_, sheet_pure, ?_⟩; conv => whnf) | (refine .inl ⟨_, sawn_pure, ?_⟩; conv => whnf) | (refine .inl ⟨_, c1, ?_⟩; conv => whnf) | (refine .inl ⟨_, c2, ?_⟩; conv => whnf) | (refine .inl ⟨_, c3, ?_⟩; conv => whnf) | fail))
  rw [f1]
  rfl
def thinB (p : Pl) (x : Pn) : Bool := decide (p.ws.length ≤ 6) && decide (x.cs.length ≤ 45) && decide (x.us.length ≤ 6)
theorem thinB_iff {p : Pl} {x : Pn} : thinB p x = true ↔ p.ws.length ≤ 6 ∧ x.cs.length ≤ 45 ∧ x.us.length ≤ 6 := by unfold thinB; simp [and_assoc]
theorem thinB_pure (p : Pl) (x : Pn) : Pure Try.prog 16 [plD p, pnD x] (dB (thinB p x)) := by
  have h := thin_pure p x
  rw [show (decide (((p.ws.map wtD).length : Int) ≤ 6) && decide (((x.cs.map ctD).length : Int) ≤ 45) && decide (((x.us.map fun n => [dI n]).length : Int) ≤ 6)) = thinB p x by
    unfold thinB
    simp only [List.length_map]
    rw [Bool.eq_iff_iff]
    simp only [Bool.and_eq_true, decide_eq_true_eq]
    omega] at h
  exact h
theorem fault_pure (p : Pl) (h : p.ws.length ≤ 100000) : Pure Try.prog 29 [plD p] (dI (checkI p)) := by
  have c := faultR_pure p h
  refine pure_of pg Try.func29 (by kernel_rfl) ?_
  conv => whnf
  (repeat' (first | (apply kT (by with_reducible first | rfl | assumption); conv => whnf) | (apply kF (by with_reducible first | rfl | assumption); conv => whnf) | (apply kT (by decide); conv => whnf) | (apply kF (by decide); conv => whnf) | (apply kB <;> intro _ <;> conv => whnf) | (refine .inl ⟨_, c, ?_⟩; conv => whnf) | fail))
  rfl
theorem plannedR_pure (p : Pl) (x : Pn) (h : p.ws.length ≤ 100000) (hc : x.cs.length ≤ 45) (hu : x.us.length ≤ 100000) : Pure Try.prog 21 [plD p, pnD x] (dI (plnI p x)) := by
  have c := fault_pure p h
  by_cases hp : checkI p = 0
  · have c2 := planFault_pure hp hc hu
    rw [hp] at c
    refine pure_of pg Try.func21 (by kernel_rfl) ?_
    conv => whnf
    (repeat' (first | (apply kT (by with_reducible first | rfl | assumption); conv => whnf) | (apply kF (by with_reducible first | rfl | assumption); conv => whnf) | (apply kT (by decide); conv => whnf) | (apply kF (by decide); conv => whnf) | (apply kB <;> intro _ <;> conv => whnf) | (refine .inl ⟨_, c, ?_⟩; conv => whnf) | (refine .inl ⟨_, c2, ?_⟩; conv => whnf) | fail))
    rfl
  · have e : plnI p x = checkI p := by unfold plnI; rw [if_pos hp]
    have f1 : (checkI p != 0) = true := by simpa using hp
    rw [e]
    refine pure_of pg Try.func21 (by kernel_rfl) ?_
    conv => whnf
    (repeat' (first | (apply kT (by with_reducible first | rfl | assumption); conv => whnf) | (apply kF (by with_reducible first | rfl | assumption); conv => whnf) | (apply kT (by decide); conv => whnf) | (apply kF (by decide); conv => whnf) | (apply kB <;> intro _ <;> conv => whnf) | (refine .inl ⟨_, c, ?_⟩; conv => whnf) | fail))
    rfl
theorem checkI_wl {p : Pl} (hp : checkI p = 0) : IntKind.i64.wrap (p.w * p.l) = p.w * p.l := by
  obtain ⟨_, hw, hl, _⟩ := check_zero hp
  have : p.w * p.l ≤ 8 * 8 := Int.mul_le_mul hw.2 hl.2 (by omega) (by omega)
  have : 0 ≤ p.w * p.l := Int.mul_nonneg (by omega) (by omega)
  exact wS (by omega) (by omega)
def readyB (p : Pl) : Bool := decide (p.ws.length ≤ 6) && decide (checkI p = 0)
theorem ready_pure (p : Pl) : Pure Try.prog 36 [plD p] (dB (readyB p)) := by
  have hm : ((p.ws.map wtD).length : Int) = p.ws.length := by rw [List.length_map]
  by_cases h6 : p.ws.length ≤ 6
  · have f1 : decide (((p.ws.map wtD).length : Int) ≤ 6) = true := decide_eq_true (by rw [hm]; omega)
    have c := faultR_pure p (by omega)
    have e : readyB p = (checkI p == 0) := by unfold readyB; rw [decide_eq_true h6]; rfl
    rw [e]
    refine pure_of pg Try.func36 (by kernel_rfl) ?_
    conv => whnf
    (repeat' (first | (apply kT (by with_reducible first | rfl | assumption); conv => whnf) | (apply kF (by with_reducible first | rfl | assumption); conv => whnf) | (apply kT (by decide); conv => whnf) | (apply kF (by decide); conv => whnf) | (apply kB <;> intro _ <;> conv => whnf) | (refine .inl ⟨_, c, ?_⟩; conv => whnf) | fail))
    rfl
  · have f1 : decide (((p.ws.map wtD).length : Int) ≤ 6) = false := decide_eq_false (by rw [hm]; omega)
    have e : readyB p = false := by unfold readyB; rw [decide_eq_false h6]; rfl
    rw [e]
    refine pure_of pg Try.func36 (by kernel_rfl) ?_
    conv => whnf
    (repeat' (first | (apply kT (by with_reducible first | rfl | assumption); conv => whnf) | (apply kF (by with_reducible first | rfl | assumption); conv => whnf) | (apply kT (by decide); conv => whnf) | (apply kF (by decide); conv => whnf) | (apply kB <;> intro _ <;> conv => whnf) | fail))
    rfl
def lightB (p : Pl) : Bool := readyB p && decide (p.w * p.l ≤ 30) && decide (p.ws.length ≤ 3)
theorem lightB_iff {p : Pl} : lightB p = true ↔ checkI p = 0 ∧ p.w * p.l ≤ 30 ∧ p.ws.length ≤ 3 := by
  unfold lightB readyB
  simp only [Bool.and_eq_true, decide_eq_true_eq]
  constructor
  · rintro ⟨⟨⟨_, h1⟩, h2⟩, h3⟩; exact ⟨h1, h2, h3⟩
  · rintro ⟨h1, h2, h3⟩; exact ⟨⟨⟨by omega, h1⟩, h2⟩, h3⟩
theorem light_pure (p : Pl) : Pure Try.prog 33 [plD p] (dB (lightB p)) := by
  have c := ready_pure p
  have hm : ((p.ws.map wtD).length : Int) = p.ws.length := by rw [List.length_map]
  cases hr : readyB p with
  | false =>
    rw [hr] at c
    have e : lightB p = false := by unfold lightB; rw [hr]; rfl
    rw [e]
    refine pure_of pg Try.func33 (by kernel_rfl) ?_
    conv => whnf
    (repeat' (first | (apply kT (by with_reducible first | rfl | assumption); conv => whnf) | (apply kF (by with_reducible first | rfl | assumption); conv => whnf) | (apply kT (by decide); conv => whnf) | (apply kF (by decide); conv => whnf) | (apply kB <;> intro _ <;> conv => whnf) | (refine .inl ⟨_, c, ?_⟩; conv => whnf) | fail))
    rfl
  | true =>
    rw [hr] at c
    have hp : checkI p = 0 := by unfold readyB at hr; simp only [Bool.and_eq_true, decide_eq_true_eq] at hr; exact hr.2
    have hw := checkI_wl hp
    by_cases h1 : p.w * p.l ≤ 30
    · have f1 : decide (IntKind.i64.wrap (p.w * p.l) ≤ 30) = true := decide_eq_true (by rw [hw]; exact h1)
      have e : lightB p = decide (((p.ws.map wtD).length : Int) ≤ 3) := by
        unfold lightB; rw [hr, decide_eq_true h1, hm, Bool.true_and, Bool.true_and, decide_eq_decide]; omega
      rw [e]
      refine pure_of pg Try.func33 (by kernel_rfl) ?_
      conv => whnf
      (repeat' (first | (apply kT (by with_reducible first | rfl | assumption); conv => whnf) | (apply kF (by with_reducible first | rfl | assumption); conv => whnf) | (apply kT (by decide); conv => whnf) | (apply kF (by decide); conv => whnf) | (apply kB <;> intro _ <;> conv => whnf) | (refine .inl ⟨_, c, ?_⟩; conv => whnf) | fail))
      rfl
    · have f1 : decide (IntKind.i64.wrap (p.w * p.l) ≤ 30) = false := decide_eq_false (by rw [hw]; exact h1)
      have e : lightB p = false := by unfold lightB; rw [hr, decide_eq_false h1]; rfl
      rw [e]
      refine pure_of pg Try.func33 (by kernel_rfl) ?_
      conv => whnf
      (repeat' (first | (apply kT (by with_reducible first | rfl | assumption); conv => whnf) | (apply kF (by with_reducible first | rfl | assumption); conv => whnf) | (apply kT (by decide); conv => whnf) | (apply kF (by decide); conv => whnf) | (apply kB <;> intro _ <;> conv => whnf) | (refine .inl ⟨_, c, ?_⟩; conv => whnf) | fail))
      rfl
def freeB (n s : Int) : Bool := n == 0 || decide (n ≥ max 1 s)
theorem free_pure (n s : Int) : Pure Try.prog 38 [dI n, dI s] (dB (freeB n s)) := by
  cases h : (n == 0) with
  | true =>
    have e : freeB n s = true := by unfold freeB; rw [h]; rfl
    rw [e]
    refine pure_of pg Try.func38 (by kernel_rfl) ?_
    conv => whnf
    (repeat' (first | (apply kT (by with_reducible first | rfl | assumption); conv => whnf) | (apply kF (by with_reducible first | rfl | assumption); conv => whnf) | (apply kT (by decide); conv => whnf) | (apply kF (by decide); conv => whnf) | (apply kB <;> intro _ <;> conv => whnf) | fail))
    rfl
  | false =>
    have e : freeB n s = decide (n ≥ max 1 s) := by unfold freeB; rw [h]; rfl
    rw [e]
    refine pure_of pg Try.func38 (by kernel_rfl) ?_
    conv => whnf
    (repeat' (first | (apply kT (by with_reducible first | rfl | assumption); conv => whnf) | (apply kF (by with_reducible first | rfl | assumption); conv => whnf) | (apply kT (by decide); conv => whnf) | (apply kF (by decide); conv => whnf) | (apply kB <;> intro _ <;> conv => whnf) | fail))
    rfl
/-- worth and cuts of the best -/
def bwP (p : Pl) : Int := (bestP p (wholeP p) (allW p.ws.length)).g
def bcP (p : Pl) : Int := (bestP p (wholeP p) (allW p.ws.length)).c
theorem wholeP_ok {p : Pl} (hp : checkI p = 0) : OkP (wholeP p) := by
  obtain ⟨_, hw, hl, _⟩ := check_zero hp
  unfold wholeP; constructor <;> dsimp only <;> omega
theorem ds0_ok {p : Pl} (hp : checkI p = 0) : DsOk p ⟨[wholeP p], [], List.replicate p.ws.length (-1), []⟩ := ⟨fun q hq => by simp only [List.mem_singleton] at hq; subst hq; exact wholeP_ok hp, (fun q w v h0 h1 hg => by cases hg), by simp⟩
theorem dsAll_cuts {p : Pl} (hp : checkI p = 0) : ((dsAll p).cs.length : Int) = bcP p := by
  have h := doN_cuts (check_zero hp).2.2.2.1.1 (sizeP (wholeP p)) 0 (allW p.ws.length) _ (ds0_ok hp) (by simp) (Nat.le_refl _)
  have e : pcAt [wholeP p] ((0 : Nat) : Int) = wholeP p := rfl
  dsimp only at h
  rw [e] at h
  simp only [List.length_nil, Int.natCast_zero, Int.zero_add] at h
  exact h
theorem worth_pure {p : Pl} (hp : checkI p = 0) : Pure Try.prog 35 [plD p] (.tup [dI (bwP p), dI (bcP p), dB true]) := by
  have h4 := (check_zero hp).1
  have c1 := plateC_pure p (by omega)
  have c2 := bestfn_pure hp
  have hm : (((dsAll p).cs.map ctD).length : Int) = bcP p := by rw [List.length_map]; exact dsAll_cuts hp
  refine pure_of pg Try.func35 (by kernel_rfl) ?_
  conv => whnf
  (repeat' (first | (apply kT (by with_reducible first | rfl | assumption); conv => whnf) | (apply kF (by with_reducible first | rfl | assumption); conv => whnf) | (apply kT (by decide); conv => whnf) | (apply kF (by decide); conv => whnf) | (apply kB <;> intro _ <;> conv => whnf) | (refine .inl ⟨_, c1, ?_⟩; conv => whnf) | (refine .inl ⟨_, c2, ?_⟩; conv => whnf) | fail))
  rw [← hm]
  rfl
end Go.Ev.Ytojlbcodfebmgaa

set_option linter.unusedVariables false
set_option linter.unusedSimpArgs false
namespace Go.Ev.Ytojlbcodfebmgaa
open Go.Proofs
theorem map_of {α β : Type} {f : α → β} {q : α → Prop} : ∀ {es : List β}, (∀ el ∈ es, ∃ x, el = f x ∧ q x) → ∃ l : List α, es = l.map f ∧ ∀ x ∈ l, q x
  | [], _ => ⟨[], rfl, fun x hx => by cases hx⟩
  | e :: es, h => by
    obtain ⟨x, rfl, hq⟩ := h e (by simp)
    obtain ⟨l, rfl, hl⟩ := map_of (es := es) fun el he => h el (by simp [he])
    exact ⟨x :: l, rfl, fun y hy => by
      rcases List.mem_cons.1 hy with rfl | hy
      · exact hq
      · exact hl y hy⟩
theorem inI_of {n : Int} (h : (Lit.int .i64 n).wf = true) : InI n := by
  have := bounds_i64 h
  unfold InI; omega
def InW (w : Wt) : Prop := InI w.w ∧ InI w.l ∧ InI w.g ∧ InI w.x1 ∧ InI w.x2 ∧ InI w.y1 ∧ InI w.y2
theorem okV_plate {d : D} (h : OkV tb 6 24 d) : ∃ p : Pl, d = plD p ∧ p.ws.length ≤ 9223372036854775807 ∧ InI p.w ∧ InI p.l ∧ InI p.s ∧ ∀ w ∈ p.ws, InW w := by
  obtain ⟨y, ds, hy, hd, rfl⟩ := h
  cases hy
  obtain ⟨a1, r1, rfl, ⟨i1, rfl, w1⟩, a2, r2, rfl, ⟨i2, rfl, w2⟩, a3, r3, rfl, ⟨i3, rfl, w3⟩, a4, r4, rfl, h4, rfl⟩ := hd
  obtain ⟨es, rfl, hlen, hel⟩ := h4
  obtain ⟨l, rfl, hl⟩ := map_of (f := wtD) (q := InW) (es := es) fun el he => by
    obtain ⟨b1, s1, rfl, ⟨j1, rfl, v1⟩, b2, s2, rfl, ⟨j2, rfl, v2⟩, b3, s3, rfl, ⟨t, rfl⟩, b4, s4, rfl, ⟨j4, rfl, v4⟩, b5, s5, rfl, ⟨c1, u1, rfl, ⟨x1, rfl, y1⟩, c2, u2, rfl, ⟨x2, rfl, y2⟩, rfl⟩, b6, s6, rfl, ⟨c3, u3, rfl, ⟨x3, rfl, y3⟩, c4, u4, rfl, ⟨x4, rfl, y4⟩, rfl⟩, rfl⟩ := hel el he
    exact ⟨⟨j1, j2, t, j4, x1, x2, x3, x4⟩, rfl, inI_of v1, inI_of v2, inI_of v4, inI_of y1, inI_of y2, inI_of y3, inI_of y4⟩
  exact ⟨⟨i1, i2, i3, l⟩, rfl, by simpa [maxLen] using hlen, inI_of w1, inI_of w2, inI_of w3, hl⟩
theorem okV_wanted {d : D} (h : OkV tb 6 65 d) : ∃ w : Wt, d = .agg (wtD w) ∧ InW w := by
  obtain ⟨y, ds, hy, hd, rfl⟩ := h
  cases hy
  obtain ⟨b1, s1, rfl, ⟨j1, rfl, v1⟩, b2, s2, rfl, ⟨j2, rfl, v2⟩, b3, s3, rfl, ⟨t, rfl⟩, b4, s4, rfl, ⟨j4, rfl, v4⟩, b5, s5, rfl, ⟨c1, u1, rfl, ⟨x1, rfl, y1⟩, c2, u2, rfl, ⟨x2, rfl, y2⟩, rfl⟩, b6, s6, rfl, ⟨c3, u3, rfl, ⟨x3, rfl, y3⟩, c4, u4, rfl, ⟨x4, rfl, y4⟩, rfl⟩, rfl⟩ := hd
  exact ⟨⟨j1, j2, t, j4, x1, x2, x3, x4⟩, rfl, inI_of v1, inI_of v2, inI_of v4, inI_of y1, inI_of y2, inI_of y3, inI_of y4⟩
theorem okV_int {d : D} (h : OkV tb 6 3 d) : ∃ i, d = dI i ∧ InI i := by
  obtain ⟨y, ds, hy, hd, rfl⟩ := h
  cases hy
  obtain ⟨i, rfl, hw⟩ := hd
  exact ⟨i, rfl, inI_of hw⟩
theorem okV_plan {d : D} (h : OkV tb 6 28 d) : ∃ x : Pn, d = pnD x ∧ x.cs.length ≤ 9223372036854775807 ∧ x.us.length ≤ 9223372036854775807 ∧ (∀ c ∈ x.cs, InI c.n ∧ InI c.at_) ∧ ∀ u ∈ x.us, InI u := by
  obtain ⟨y, ds, hy, hd, rfl⟩ := h
  cases hy
  obtain ⟨a1, r1, rfl, ⟨es, rfl, hlen, hel⟩, a2, r2, rfl, ⟨es2, rfl, hlen2, hel2⟩, rfl⟩ := hd
  obtain ⟨l, rfl, hl⟩ := map_of (f := ctD) (q := fun c => InI c.n ∧ InI c.at_) (es := es) fun el he => by
    obtain ⟨b1, s1, rfl, ⟨j1, rfl, v1⟩, b2, s2, rfl, ⟨t, rfl⟩, b3, s3, rfl, ⟨j3, rfl, v3⟩, rfl⟩ := hel el he
    exact ⟨⟨j1, t, j3⟩, rfl, inI_of v1, inI_of v3⟩
  obtain ⟨l2, rfl, hl2⟩ := map_of (f := fun n : Int => [dI n]) (q := InI) (es := es2) fun el he => by
    obtain ⟨i, rfl, hw⟩ := hel2 el he
    exact ⟨i, rfl, inI_of hw⟩
  exact ⟨⟨l, l2⟩, rfl, by simpa [maxLen] using hlen, by simpa [maxLen] using hlen2, hl, hl2⟩
theorem okV_cuts {d : D} (h : OkV tb 6 25 d) : ∃ l, d = ctsD l ∧ l.length ≤ 9223372036854775807 ∧ ∀ c ∈ l, InI c.n ∧ InI c.at_ := by
  obtain ⟨y, ds, hy, hd, rfl⟩ := h
  cases hy
  obtain ⟨es, rfl, hlen, hel⟩ := hd
  obtain ⟨l, rfl, hl⟩ := map_of (f := ctD) (q := fun c => InI c.n ∧ InI c.at_) (es := es) fun el he => by
    obtain ⟨b1, s1, rfl, ⟨j1, rfl, v1⟩, b2, s2, rfl, ⟨t, rfl⟩, b3, s3, rfl, ⟨j3, rfl, v3⟩, rfl⟩ := hel el he
    exact ⟨⟨j1, t, j3⟩, rfl, inI_of v1, inI_of v3⟩
  exact ⟨l, rfl, by simpa [maxLen] using hlen, hl⟩
theorem law_own : ownKnob Try.prog.godebug = none := by kernel_rfl
theorem law_laid : laidOutB Try.prog = true := by kernel_rfl
end Go.Ev.Ytojlbcodfebmgaa

set_option linter.unusedVariables false
set_option linter.unusedSimpArgs false
namespace Go.Ev.Ytojlbcodfebmgaa
open Go.Proofs
theorem bounds_u8' {n : Int} (h : (Lit.int .u8 n).wf = true) : 0 ≤ n ∧ n ≤ 255 := by
  have h1 : IntKind.u8.min ≤ n ∧ n ≤ IntKind.u8.max := by simpa [Lit.wf] using h
  have h2 : IntKind.u8.min = 0 := by decide
  have h3 : IntKind.u8.max = 255 := by decide
  omega
theorem bounds_u16 {n : Int} (h : (Lit.int .u16 n).wf = true) : 0 ≤ n ∧ n ≤ 65535 := by
  have h1 : IntKind.u16.min ≤ n ∧ n ≤ IntKind.u16.max := by simpa [Lit.wf] using h
  have h2 : IntKind.u16.min = 0 := by decide
  have h3 : IntKind.u16.max = 65535 := by decide
  omega
theorem okV_u8 {d : D} (h : OkV tb 6 5 d) : ∃ i, d = .v (.int .u8 i) ∧ 0 ≤ i ∧ i ≤ 255 := by
  obtain ⟨y, ds, hy, hd, rfl⟩ := h
  cases hy
  obtain ⟨i, rfl, hw⟩ := hd
  have := bounds_u8' hw
  exact ⟨i, rfl, this.1, this.2⟩
theorem okV_words {d : D} (h : OkV tb 6 77 d) : ∃ ws : List Int, d = .seq (ws.map fun w => [.v (.int .u16 w)]) ∧ ws.length ≤ 9223372036854775807 ∧ ∀ x ∈ ws, 0 ≤ x ∧ x ≤ 65535 := by
  obtain ⟨y, ds, hy, hd, rfl⟩ := h
  cases hy
  obtain ⟨es, rfl, hlen, hel⟩ := hd
  obtain ⟨l, rfl, hl⟩ := map_of (f := fun w : Int => [D.v (.int .u16 w)]) (q := fun x => 0 ≤ x ∧ x ≤ 65535) (es := es) fun el he => by
    obtain ⟨i, rfl, hw⟩ := hel el he
    exact ⟨i, rfl, bounds_u16 hw⟩
  exact ⟨l, rfl, by simpa [maxLen] using hlen, hl⟩
end Go.Ev.Ytojlbcodfebmgaa

set_option linter.unusedVariables false
set_option linter.unusedSimpArgs false
set_option maxRecDepth 100000
namespace Go.Ev.Ytojlbcodfebmgaa
open Go.Proofs
theorem Pure.argN {f : FuncId} {args args' : List D} {r : D} (hp : Pure Try.prog f args r) (h : Go.Ev.nilL args' = args) : Pure Try.prog f args' r :=
  ⟨hp.1, fun w I vs hI hr => hp.2 w I vs hI (by rw [← h]; exact RepL.nils args' vs hr)⟩
def bestSh : Pn := ⟨[⟨0, false, 3⟩, ⟨1, true, 3⟩, ⟨3, false, 1⟩], [2, 5, 4]⟩
theorem e_pcs : piecesI sheetP sawnX.cs = ([⟨0, 0, 6, 4⟩, ⟨0, 0, 2, 4⟩, ⟨3, 0, 3, 4⟩, ⟨3, 0, 3, 1⟩, ⟨3, 2, 3, 2⟩], 0) := by kernel_rfl
theorem e_tr1 : traceI sheetP sawnX 2 3 = (-1, -1, 0) := by kernel_rfl
theorem e_tr2 : traceI sheetP sawnX 5 3 = (4, -1, 0) := by kernel_rfl
theorem e_tr3 : traceI sheetP sawnX 6 0 = (0, 0, 2) := by kernel_rfl
theorem e_pr1 : proveI sheetP bestSh 12 3 = true := by kernel_rfl
theorem e_pr2 : proveI sheetP bestSh 12 2 = false := by kernel_rfl
theorem e_pr3 : proveI sheetP bestSh 13 3 = false := by kernel_rfl
theorem e_pr4 : proveI sheetP sawnX 9 2 = true := by kernel_rfl
theorem e_p1 : piecesI sheetP [⟨0, false, 6⟩] = ([], 11) := by kernel_rfl
theorem e_p2 : piecesI sheetP [⟨0, false, 2⟩, ⟨0, false, 1⟩] = ([], 11) := by kernel_rfl
theorem e_p3 : piecesI sheetP (List.replicate 41 ⟨0, false, 0⟩) = ([], 3) := by kernel_rfl
theorem e_w1 : plnI sheetP ⟨sawnX.cs, [1, 3, 5]⟩ = 2 := by kernel_rfl
theorem e_w2 : plnI sheetP ⟨sawnX.cs, [1, 3]⟩ = 2 := by kernel_rfl
theorem e_w3 : plnI sheetP ⟨sawnX.cs, [1, 3, 3]⟩ = 11 := by kernel_rfl
theorem e_c1 : checkI ⟨6, 4, 1, List.replicate 5 ⟨0, 0, false, 0, 0, 0, 0, 0⟩⟩ = 3 := by kernel_rfl
theorem e_c2 : checkI ⟨6, 4, 3, sheetP.ws⟩ = 1 := by kernel_rfl
theorem e_c3 : checkI ⟨0, 0, 0, []⟩ = 1 := by kernel_rfl
def noneP : Pl := ⟨1, 1, 0, []⟩
theorem e_c4 : checkI noneP = 0 := by kernel_rfl
theorem e_b1 : (dsAll noneP).cs = [] ∧ (dsAll noneP).us = [] := ⟨by kernel_rfl, by kernel_rfl⟩
theorem e_b2 : (bestP noneP (wholeP noneP) (allW noneP.ws.length)).g = 0 := by kernel_rfl
attribute [local irreducible] Pure Bor Iter inB wtB partsL stepC useB usesB fitsB runC weighL uIdx betB cutsF bestP seeS memF cutsL partsW useF memN doN covB traceL checkI plnI proveI piecesI traceI dsAll
theorem sawn_bor : Bor tb Try.prog 46 [] [] 2 (.agg [.d (ctsD sawnX.cs), .own 1]) [(1, .arr 3 [[dI 1], [dI 3], [dI (-1)]])] := by
  refine bor_ofO pg Try.func46 (by kernel_rfl) ?_
  conv => whnf
  (refine .l ?_; conv => whnf)
  (refine .r ⟨by decide, ?_⟩; conv => whnf)
  (refine ⟨[1], ?_⟩; conv => whnf)
  exact ⟨rfl, rfl⟩
set_option maxHeartbeats 8000000 in
theorem plateNames_pure : Pure Try.prog 15 [] (dB true) := by
  have hin : ∀ c ∈ sawnX.cs, InI c.n ∧ InI c.at_ := by intro c hc; simp only [sawnX, List.mem_cons, List.not_mem_nil, or_false] at hc; rcases hc with rfl | rfl <;> constructor <;> constructor <;> decide
  have hiX : InX sawnX := hin
  have hiB : InX bestSh := by intro c hc; simp only [bestSh, List.mem_cons, List.not_mem_nil, or_false] at hc; rcases hc with rfl | rfl | rfl <;> constructor <;> constructor <;> decide
  have q0 := pieces_pure (p := sheetP) (by decide) hin
  rw [e_pcs] at q0
  have q1 := pieces_pure (p := sheetP) (cs := [⟨0, false, 6⟩]) (by decide) (by intro c hc; simp only [List.mem_cons, List.not_mem_nil, or_false] at hc; rcases hc with rfl <;> constructor <;> constructor <;> decide)
  rw [e_p1] at q1
  have q2 := pieces_pure (p := sheetP) (cs := [⟨0, false, 2⟩, ⟨0, false, 1⟩]) (by decide) (by intro c hc; simp only [List.mem_cons, List.not_mem_nil, or_false] at hc; rcases hc with rfl | rfl <;> constructor <;> constructor <;> decide)
  rw [e_p2] at q2
  have q3 := pieces_pure (p := sheetP) (cs := List.replicate 41 ⟨0, false, 0⟩) (by decide) (by intro c hc; rw [List.eq_of_mem_replicate hc]; constructor <;> constructor <;> decide)
  rw [e_p3] at q3
  have t1 := trace_pure (p := sheetP) (x := sawnX) (by decide) (by decide) hiX 2 3
  rw [e_tr1] at t1
  have t2 := trace_pure (p := sheetP) (x := sawnX) (by decide) (by decide) hiX 5 3
  rw [e_tr2] at t2
  have t3 := trace_pure (p := sheetP) (x := sawnX) (by decide) (by decide) hiX 6 0
  rw [e_tr3] at t3
  dsimp only at q0 q1 q2 q3 t1 t2 t3
  have p1 := prove_pure (p := sheetP) (x := bestSh) (by decide) (by decide) hiB 12 3
  rw [e_pr1] at p1
  have p2 := prove_pure (p := sheetP) (x := bestSh) (by decide) (by decide) hiB 12 2
  rw [e_pr2] at p2
  have p3 := prove_pure (p := sheetP) (x := bestSh) (by decide) (by decide) hiB 13 3
  rw [e_pr3] at p3
  have p4 := prove_pure (p := sheetP) (x := sawnX) (by decide) (by decide) hiX 9 2
  rw [e_pr4] at p4
  have wz : ∀ us, plnI sheetP ⟨sawnX.cs, us⟩ ≠ 0 → weighI sheetP ⟨sawnX.cs, us⟩ = [dI 0, dI 0, dI 0, dI 0] := fun us h => by unfold weighI; rw [if_neg h]
  have v1 := weigh_pure (p := sheetP) (x := ⟨sawnX.cs, [1, 3, 5]⟩) (by decide) (by decide) hin
  rw [wz _ (by rw [e_w1]; decide), e_w1] at v1
  have v2 := weigh_pure (p := sheetP) (x := ⟨sawnX.cs, [1, 3]⟩) (by decide) (by decide) hin
  rw [wz _ (by rw [e_w2]; decide), e_w2] at v2
  have v3 := weigh_pure (p := sheetP) (x := ⟨sawnX.cs, [1, 3, 3]⟩) (by decide) (by decide) hin
  rw [wz _ (by rw [e_w3]; decide), e_w3] at v3
  have k1 := check_pure ⟨6, 4, 1, List.replicate 5 ⟨0, 0, false, 0, 0, 0, 0, 0⟩⟩ (by decide)
  rw [e_c1] at k1
  have k2 := check_pure ⟨6, 4, 3, sheetP.ws⟩ (by decide)
  rw [e_c2] at k2
  have k3 := check_pure ⟨0, 0, 0, []⟩ (by decide)
  rw [e_c3] at k3
  have b := bestfn_pure e_c4
  rw [e_b1.1, e_b1.2, e_b2] at b
  have b' : Pure Try.prog 28 [.agg [dI 1, dI 1, dI 0, .v (.slice none 0 0)]] (.tup [.agg [.seq [], .seq []], dI 0, dI 0]) := Pure.argN b rfl
  have k3' : Pure Try.prog 41 [.agg [dI 0, dI 0, dI 0, .v (.slice none 0 0)]] (dI 1) := Pure.argN k3 rfl
  refine pure_of pg Try.func15 (by kernel_rfl) ?_
  conv => whnf
  (repeat' (first | (apply kT (by with_reducible first | rfl | assumption); conv => whnf) | (apply kF (by with_reducible first | rfl | assumption); conv => whnf) | (apply kT (by decide); conv => whnf) | (apply kF (by decide); conv => whnf) | (apply kB <;> intro _ <;> conv => whnf) | (refine .inl ⟨_, sheet_pure, ?_⟩; conv => whnf) | (refine .inl ⟨_, sawn_pure, ?_⟩; conv => whnf) | (refine .inl ⟨_, q0, ?_⟩; conv => whnf) | (refine .inl ⟨_, t1, ?_⟩; conv => whnf) | (refine .inl ⟨_, t2, ?_⟩; conv => whnf) | fail))
  (refine .l ?_; conv => whnf)
  (refine .l ?_; conv => whnf)
  (repeat' (first | (apply kT (by with_reducible first | rfl | assumption); conv => whnf) | (apply kF (by with_reducible first | rfl | assumption); conv => whnf) | (apply kT (by decide); conv => whnf) | (apply kF (by decide); conv => whnf) | (apply kB <;> intro _ <;> conv => whnf) | fail))
  (refine ⟨0, _, rfl, rfl, rfl, ?_⟩; conv => whnf)
  (repeat' (first | (apply kT (by with_reducible first | rfl | assumption); conv => whnf) | (apply kF (by with_reducible first | rfl | assumption); conv => whnf) | (apply kT (by decide); conv => whnf) | (apply kF (by decide); conv => whnf) | (apply kB <;> intro _ <;> conv => whnf) | (refine .inl ⟨_, sheet_pure, ?_⟩; conv => whnf) | (refine .inl ⟨_, sawn_pure, ?_⟩; conv => whnf) | (refine .inl ⟨_, p1, ?_⟩; conv => whnf) | (refine .inl ⟨_, p2, ?_⟩; conv => whnf) | (refine .inl ⟨_, p3, ?_⟩; conv => whnf) | (refine .inl ⟨_, p4, ?_⟩; conv => whnf) | fail))
  (refine ⟨1, _, rfl, rfl, rfl, ?_⟩; conv => whnf)
  (repeat' (first | (apply kT (by with_reducible first | rfl | assumption); conv => whnf) | (apply kF (by with_reducible first | rfl | assumption); conv => whnf) | (apply kT (by decide); conv => whnf) | (apply kF (by decide); conv => whnf) | (apply kB <;> intro _ <;> conv => whnf) | (refine .inl ⟨_, sheet_pure, ?_⟩; conv => whnf) | (refine .inl ⟨_, sawn_pure, ?_⟩; conv => whnf) | (refine .inl ⟨_, p1, ?_⟩; conv => whnf) | (refine .inl ⟨_, p2, ?_⟩; conv => whnf) | (refine .inl ⟨_, p3, ?_⟩; conv => whnf) | (refine .inl ⟨_, p4, ?_⟩; conv => whnf) | fail))
  (refine ⟨2, _, rfl, rfl, rfl, ?_⟩; conv => whnf)
  (repeat' (first | (apply kT (by with_reducible first | rfl | assumption); conv => whnf) | (apply kF (by with_reducible first | rfl | assumption); conv => whnf) | (apply kT (by decide); conv => whnf) | (apply kF (by decide); conv => whnf) | (apply kB <;> intro _ <;> conv => whnf) | (refine .inl ⟨_, sheet_pure, ?_⟩; conv => whnf) | (refine .inl ⟨_, sawn_pure, ?_⟩; conv => whnf) | (refine .inl ⟨_, p1, ?_⟩; conv => whnf) | (refine .inl ⟨_, p2, ?_⟩; conv => whnf) | (refine .inl ⟨_, p3, ?_⟩; conv => whnf) | (refine .inl ⟨_, p4, ?_⟩; conv => whnf) | fail))
  (refine ⟨3, _, rfl, rfl, rfl, ?_⟩; conv => whnf)
  (repeat' (first | (apply kT (by with_reducible first | rfl | assumption); conv => whnf) | (apply kF (by with_reducible first | rfl | assumption); conv => whnf) | (apply kT (by decide); conv => whnf) | (apply kF (by decide); conv => whnf) | (apply kB <;> intro _ <;> conv => whnf) | (refine .inl ⟨_, sheet_pure, ?_⟩; conv => whnf) | (refine .inl ⟨_, sawn_pure, ?_⟩; conv => whnf) | (refine .inl ⟨_, p1, ?_⟩; conv => whnf) | (refine .inl ⟨_, p2, ?_⟩; conv => whnf) | (refine .inl ⟨_, p3, ?_⟩; conv => whnf) | (refine .inl ⟨_, p4, ?_⟩; conv => whnf) | fail))
  (refine ⟨4, _, rfl, rfl, rfl, ?_⟩; conv => whnf)
  (repeat' (first | (apply kT (by with_reducible first | rfl | assumption); conv => whnf) | (apply kF (by with_reducible first | rfl | assumption); conv => whnf) | (apply kT (by decide); conv => whnf) | (apply kF (by decide); conv => whnf) | (apply kB <;> intro _ <;> conv => whnf) | (refine .inl ⟨_, sheet_pure, ?_⟩; conv => whnf) | (refine .inl ⟨_, sawn_pure, ?_⟩; conv => whnf) | (refine .inl ⟨_, p1, ?_⟩; conv => whnf) | (refine .inl ⟨_, p2, ?_⟩; conv => whnf) | (refine .inl ⟨_, p3, ?_⟩; conv => whnf) | (refine .inl ⟨_, p4, ?_⟩; conv => whnf) | fail))
  (refine .l ?_; conv => whnf)
  (repeat' (first | (apply kT (by with_reducible first | rfl | assumption); conv => whnf) | (apply kF (by with_reducible first | rfl | assumption); conv => whnf) | (apply kT (by decide); conv => whnf) | (apply kF (by decide); conv => whnf) | (apply kB <;> intro _ <;> conv => whnf) | (refine .inl ⟨_, sheet_pure, ?_⟩; conv => whnf) | (refine .inl ⟨_, q1, ?_⟩; conv => whnf) | fail))
  (refine .l ?_; conv => whnf)
  (repeat' (first | (apply kT (by with_reducible first | rfl | assumption); conv => whnf) | (apply kF (by with_reducible first | rfl | assumption); conv => whnf) | (apply kT (by decide); conv => whnf) | (apply kF (by decide); conv => whnf) | (apply kB <;> intro _ <;> conv => whnf) | (refine .inl ⟨_, sheet_pure, ?_⟩; conv => whnf) | (refine .inl ⟨_, q2, ?_⟩; conv => whnf) | fail))
  have hrep : List.replicate 41 [dI 0, dB false, dI 0] = (List.replicate 41 (⟨0, false, 0⟩ : Ct)).map ctD := by rw [List.map_replicate]
  (refine ⟨41, rfl, rfl, by decide, by decide, (List.replicate 41 (⟨0, false, 0⟩ : Ct)).map ctD, hrep, ?_⟩; conv => whnf)
  (repeat' (first | (apply kT (by with_reducible first | rfl | assumption); conv => whnf) | (apply kF (by with_reducible first | rfl | assumption); conv => whnf) | (apply kT (by decide); conv => whnf) | (apply kF (by decide); conv => whnf) | (apply kB <;> intro _ <;> conv => whnf) | fail))
  (refine .inl ⟨_, q3, ?_⟩; conv => whnf)
  (refine .r ?_; conv => whnf)
  (repeat' (first | (apply kT (by with_reducible first | rfl | assumption); conv => whnf) | (apply kF (by with_reducible first | rfl | assumption); conv => whnf) | (apply kT (by decide); conv => whnf) | (apply kF (by decide); conv => whnf) | (apply kB <;> intro _ <;> conv => whnf) | fail))
  (refine .inr ⟨[], 2, _, _, sawn_bor, ?_⟩; conv => whnf)
  (refine .inr ⟨[], 2, _, _, sawn_bor, ?_⟩; conv => whnf)
  (refine .inr ⟨[], 2, _, _, sawn_bor, ?_⟩; conv => whnf)
  (repeat' (first | (apply kT (by with_reducible first | rfl | assumption); conv => whnf) | (apply kF (by with_reducible first | rfl | assumption); conv => whnf) | (apply kT (by decide); conv => whnf) | (apply kF (by decide); conv => whnf) | (apply kB <;> intro _ <;> conv => whnf) | fail))
  (refine ⟨2, rfl, by decide, ?_⟩; conv => whnf)
  (repeat' (first | (apply kT (by with_reducible first | rfl | assumption); conv => whnf) | (apply kF (by with_reducible first | rfl | assumption); conv => whnf) | (apply kT (by decide); conv => whnf) | (apply kF (by decide); conv => whnf) | (apply kB <;> intro _ <;> conv => whnf) | fail))
  (refine ⟨_, rfl, rfl, by decide, [[dI 1], [dI 3], [dI 5]], rfl, ?_⟩; conv => whnf)
  (repeat' (first | (apply kT (by with_reducible first | rfl | assumption); conv => whnf) | (apply kF (by with_reducible first | rfl | assumption); conv => whnf) | (apply kT (by decide); conv => whnf) | (apply kF (by decide); conv => whnf) | (apply kB <;> intro _ <;> conv => whnf) | fail))
  (refine ⟨2, rfl, ?_⟩; conv => whnf)
  (refine ⟨by decide, ?_⟩; conv => whnf)
  (refine .l ⟨[[dI 1], [dI 3]], rfl, ?_⟩; conv => whnf)
  (repeat' (first | (apply kT (by with_reducible first | rfl | assumption); conv => whnf) | (apply kF (by with_reducible first | rfl | assumption); conv => whnf) | (apply kT (by decide); conv => whnf) | (apply kF (by decide); conv => whnf) | (apply kB <;> intro _ <;> conv => whnf) | fail))
  (refine ⟨2, rfl, by decide, ?_⟩; conv => whnf)
  (repeat' (first | (apply kT (by with_reducible first | rfl | assumption); conv => whnf) | (apply kF (by with_reducible first | rfl | assumption); conv => whnf) | (apply kT (by decide); conv => whnf) | (apply kF (by decide); conv => whnf) | (apply kB <;> intro _ <;> conv => whnf) | fail))
  (refine ⟨_, rfl, rfl, by decide, [[dI 1], [dI 3], [dI 3]], rfl, ?_⟩; conv => whnf)
  (repeat' (first | (apply kT (by with_reducible first | rfl | assumption); conv => whnf) | (apply kF (by with_reducible first | rfl | assumption); conv => whnf) | (apply kT (by decide); conv => whnf) | (apply kF (by decide); conv => whnf) | (apply kB <;> intro _ <;> conv => whnf) | (refine .inl ⟨_, sheet_pure, ?_⟩; conv => whnf) | fail))
  (refine .inl ⟨_, v1, ?_⟩; conv => whnf)
  (refine .l ⟨rfl, ?_⟩; conv => whnf)
  (repeat' (first | (apply kT (by with_reducible first | rfl | assumption); conv => whnf) | (apply kF (by with_reducible first | rfl | assumption); conv => whnf) | (apply kT (by decide); conv => whnf) | (apply kF (by decide); conv => whnf) | (apply kB <;> intro _ <;> conv => whnf) | (refine .inl ⟨_, sheet_pure, ?_⟩; conv => whnf) | fail))
  (refine .inl ⟨_, v2, ?_⟩; conv => whnf)
  (refine .l ⟨rfl, ?_⟩; conv => whnf)
  (repeat' (first | (apply kT (by with_reducible first | rfl | assumption); conv => whnf) | (apply kF (by with_reducible first | rfl | assumption); conv => whnf) | (apply kT (by decide); conv => whnf) | (apply kF (by decide); conv => whnf) | (apply kB <;> intro _ <;> conv => whnf) | (refine .inl ⟨_, sheet_pure, ?_⟩; conv => whnf) | fail))
  (refine .inl ⟨_, v3, ?_⟩; conv => whnf)
  (refine .l ⟨rfl, ?_⟩; conv => whnf)
  (repeat' (first | (apply kT (by with_reducible first | rfl | assumption); conv => whnf) | (apply kF (by with_reducible first | rfl | assumption); conv => whnf) | (apply kT (by decide); conv => whnf) | (apply kF (by decide); conv => whnf) | (apply kB <;> intro _ <;> conv => whnf) | (refine .inl ⟨_, sheet_pure, ?_⟩; conv => whnf) | (refine .inl ⟨_, sawn_pure, ?_⟩; conv => whnf) | (refine .inl ⟨_, t3, ?_⟩; conv => whnf) | fail))
  have hrep2 : List.replicate 5 [dI 0, dI 0, dB false, dI 0, dI 0, dI 0, dI 0, dI 0] = (List.replicate 5 (⟨0, 0, false, 0, 0, 0, 0, 0⟩ : Wt)).map wtD := by rw [List.map_replicate]
  (refine ⟨5, rfl, rfl, by decide, by decide, (List.replicate 5 (⟨0, 0, false, 0, 0, 0, 0, 0⟩ : Wt)).map wtD, hrep2, ?_⟩; conv => whnf)
  (repeat' (first | (apply kT (by with_reducible first | rfl | assumption); conv => whnf) | (apply kF (by with_reducible first | rfl | assumption); conv => whnf) | (apply kT (by decide); conv => whnf) | (apply kF (by decide); conv => whnf) | (apply kB <;> intro _ <;> conv => whnf) | (refine .inl ⟨_, b', ?_⟩; conv => whnf) | fail))
  (refine .inl ⟨_, k1, ?_⟩; conv => whnf)
  (refine .l ⟨rfl, ?_⟩; conv => whnf)
  (repeat' (first | (apply kT (by with_reducible first | rfl | assumption); conv => whnf) | (apply kF (by with_reducible first | rfl | assumption); conv => whnf) | (apply kT (by decide); conv => whnf) | (apply kF (by decide); conv => whnf) | (apply kB <;> intro _ <;> conv => whnf) | (refine .inl ⟨_, k2, ?_⟩; conv => whnf) | (refine .inl ⟨_, k3', ?_⟩; conv => whnf) | (refine .inl ⟨_, wakes_pure, ?_⟩; conv => whnf) | fail))
  rfl
end Go.Ev.Ytojlbcodfebmgaa
