/-
  Contracts of functions, and plain laws, that lead to the statement. Written by an agent.
-/
import Derived.Test.YthmandhpmkfopaaLe
set_option linter.unusedVariables false
set_option linter.unusedSimpArgs false
set_option maxRecDepth 100000
namespace Go.Ev.Ythmandhpmkfopaa
open Go.Proofs
abbrev dU8 (n : Int) : D := .v (.int .u8 n)
def bitB (w : Int) (k : Nat) : Bool := (w.fdiv (2 ^ (min (IntKind.u64.wrap (k : Int)).toNat IntKind.u8.bits))).tmod 2 == 1
theorem u64_p {k : Nat} (h : k ≤ 7) : 0 ≤ IntKind.u64.wrap (k : Int) := by
  have : ∀ k : Fin 8, 0 ≤ IntKind.u64.wrap ((k.val : Nat) : Int) := by decide +kernel
  exact this ⟨k, by omega⟩
theorem ends_drop : ∀ {l : List S3} {k : Nat}, Ends l → k < l.length → Ends (l.drop k)
  | [], _, h, _ => h.elim
  | s :: r, 0, h, _ => h
  | [s], k + 1, h, hk => by simp at hk
  | s :: s' :: r, k + 1, h, hk => by
    rw [List.drop_succ_cons]
    exact ends_drop (l := s' :: r) h (by simpa using hk)
theorem fit_drop {n : Nat} : ∀ {l : List S3} {taken : Nat}, Fit n taken l → ∀ k : Nat, ∃ t, Fit n t (l.drop k)
  | l, taken, h, 0 => ⟨taken, h⟩
  | [], taken, h, k + 1 => ⟨taken, trivial⟩
  | s :: r, taken, h, k + 1 => by
    obtain ⟨t, h1, h2, h3, h4⟩ := h
    exact fit_drop h4 k
theorem div_mul_gcd (p d : Nat) : p / Nat.gcd p d * d = p * (d / Nat.gcd p d) := by
  obtain ⟨p', hp⟩ := Nat.gcd_dvd_left p d
  obtain ⟨d', hd'⟩ := Nat.gcd_dvd_right p d
  by_cases h : Nat.gcd p d = 0
  · have h1 := Nat.gcd_eq_zero_iff.1 h
    rw [h1.1, h1.2]; simp
  · have hg : 0 < Nat.gcd p d := Nat.pos_of_ne_zero h
    generalize Nat.gcd p d = g at hg hp hd'
    subst hp hd'
    rw [Nat.mul_div_cancel_left _ hg, Nat.mul_div_cancel_left _ hg]
    simp only [Nat.mul_comm, Nat.mul_left_comm]
theorem shares {n bd : Nat} {l : List S3} {β : Nat → Bool} (hf : Fit n 0 l) (he : Ends l) (hbd : bd = ((List.range n).map β).countP id) (hc : check n l = 0) (h7 : n ≤ 7) (hR : (drawsL (tksL l) n []).length ≤ 16384) :
    ∃ N1 D1 N2 D2 : Nat, sh (·.1) n l bd = ((N1 : Int), (D1 : Int), 0) ∧ sh (·.2.1) n l bd = ((N2 : Int), (D2 : Int), 0) ∧ 0 < D1 ∧ 0 < D2 ∧ D1 ≤ 16384 ∧ D2 ≤ 16384 ∧ N1 ≤ 16384 ∧ N2 ≤ 114688 ∧
      N1 * (drawsL (tksL l) n []).length = ((drawsL (tksL l) n []).map fun a => (evD l β a).1).sum * D1 ∧
      N2 * (drawsL (tksL l) n []).length = ((drawsL (tksL l) n []).map fun a => (evD l β a).2.1).sum * D2 := by
  have hbn : bd ≤ n := by rw [hbd]; exact Nat.le_trans List.countP_le_length (by simp)
  have e1 := all_draws hf he β hbd (·.1) (.inl rfl)
  have e2 := all_draws hf he β hbd (·.2.1) (.inr (.inl rfl))
  have e3 := draws_many hf he
  have e4 := go_facts n bd l 0 0 hf he (Nat.zero_le _) (Nat.zero_le _) (by omega)
  have e5 := rest_pos n l 0 hf
  rw [e1, e2, e3]
  rw [e3] at hR
  generalize hg : goN n bd l 0 0 = g at *
  have hgp : ∀ x, 0 < Nat.gcd x g.2.2 := fun x => Nat.gcd_pos_of_pos_right _ (by omega)
  have hbnd : ∀ f : N3 → Nat, sh f n l bd = (((f g / Nat.gcd (f g) g.2.2 : Nat) : Int), ((g.2.2 / Nat.gcd (f g) g.2.2 : Nat) : Int), 0) := fun f => by
    unfold sh
    rw [if_neg (by rw [hc]; simp), if_neg (by omega), Int.toNat_natCast, Int.toNat_natCast, hg]
  have hdp : ∀ x, 0 < g.2.2 / Nat.gcd x g.2.2 := fun x => Nat.div_pos (Nat.le_of_dvd (by omega) (Nat.gcd_dvd_right x g.2.2)) (hgp x)
  have hdl : ∀ x y, y / Nat.gcd x g.2.2 ≤ y := fun x y => Nat.div_le_self _ _
  have hm7 : n * restN n 0 l ≤ 7 * 16384 := Nat.mul_le_mul h7 hR
  refine ⟨_, _, _, _, hbnd _, hbnd _, hdp _, hdp _, Nat.le_trans (hdl _ _) (by omega), Nat.le_trans (hdl _ _) (by omega), Nat.le_trans (hdl _ _) (by omega), Nat.le_trans (hdl _ _) (by omega), ?_, ?_⟩
  · rw [← e4.1]; exact div_mul_gcd g.1 g.2.2
  · rw [← e4.1]; exact div_mul_gcd g.2.1 g.2.2
attribute [local irreducible] Pure Bor Iter tri C memo goN check accR cntR restN drawsL stB bitB
set_option maxHeartbeats 8000000 in
theorem planDraws_pure (lot : Int) (l : List S3) (hl : l.length ≤ 9223372036854775807) (hr : ∀ x ∈ l, InS x) (w : Int) (hw : 0 ≤ w ∧ w ≤ 255) : Pure Try.prog 6 [plD lot l, dU8 w] (dB true) := by
  have ct := ready_pure lot l hr
  cases hth : readyB lot l with
  | false =>
    rw [hth] at ct
    refine pure_of pg Try.func6 (by kernel_rfl) ?_
    conv => whnf
    (repeat' (first | (apply kT (by with_reducible first | rfl | assumption); conv => whnf) | (apply kF (by with_reducible first | rfl | assumption); conv => whnf) | (apply kT (by decide); conv => whnf) | (apply kF (by decide); conv => whnf) | (apply kB <;> intro _ <;> conv => whnf) | (refine .inl ⟨_, ct, ?_⟩; conv => whnf) | (refine .inl ⟨_, wakes_pure, ?_⟩; conv => whnf) | fail))
    rfl
  | true =>
    rw [hth] at ct
    have hc : check lot l = 0 := by unfold readyB at hth; simp only [Bool.and_eq_true, decide_eq_true_eq, beq_iff_eq] at hth; exact hth.2
    obtain ⟨n, rfl, hn1, hn2, hl3, hf, he⟩ := check_good hr hc
    by_cases h7 : n ≤ 7
    case neg =>
      have f1 : decide ((n : Int) > 7) = true := decide_eq_true (by omega)
      refine pure_of pg Try.func6 (by kernel_rfl) ?_
      conv => whnf
      (repeat' (first | (apply kT (by with_reducible first | rfl | assumption); conv => whnf) | (apply kF (by with_reducible first | rfl | assumption); conv => whnf) | (apply kT (by decide); conv => whnf) | (apply kF (by decide); conv => whnf) | (apply kB <;> intro _ <;> conv => whnf) | (refine .inl ⟨_, ct, ?_⟩; conv => whnf) | (refine .inl ⟨_, wakes_pure, ?_⟩; conv => whnf) | fail))
      rfl
    have f1 : decide ((n : Int) > 7) = false := decide_eq_false (by omega)
    have hm : ((l.map stD).length : Int) = l.length := by rw [List.length_map]
    have cD := draws_pure h7 hl3 hf n [] (by simp)
    have cP := plan_pure n l (by omega)
    obtain ⟨L, hL⟩ : ∃ L, L = drawsL (tksL l) n [] := ⟨_, rfl⟩
    rw [← hL] at cD
    have hmL : ((L.map fun a => [isD a]).length : Int) = L.length := by rw [List.length_map]
    obtain ⟨β, hβ⟩ : ∃ β : Nat → Bool, β = bitB w := ⟨_, rfl⟩
    obtain ⟨BD, hBD⟩ : ∃ BD : Nat → Nat, BD = fun k => ((List.range k).map β).countP id := ⟨_, rfl⟩
    have hBs : ∀ k, BD (k + 1) = BD k + if β k = true then 1 else 0 := fun k => by
      rw [hBD]
      dsimp only
      rw [List.range_succ, List.map_append, List.countP_append]
      congr 1
      simp only [List.map_cons, List.map_nil, List.countP_cons, List.countP_nil, id, Nat.zero_add]
    have hraw : ∀ k : Nat, ((w.fdiv (2 ^ (min (IntKind.u64.wrap (k : Int)).toNat IntKind.u8.bits))).tmod 2 == 1) = β k := fun k => by rw [hβ]; unfold bitB; rfl
    have hBle : ∀ k, BD k ≤ k := fun k => by rw [hBD]; exact Nat.le_trans List.countP_le_length (by simp)
    refine pure_of pg Try.func6 (by kernel_rfl) ?_
    conv => whnf
    (repeat' (first | (apply kT (by with_reducible first | rfl | assumption); conv => whnf) | (apply kF (by with_reducible first | rfl | assumption); conv => whnf) | (apply kT (by decide); conv => whnf) | (apply kF (by decide); conv => whnf) | (apply kB <;> intro _ <;> conv => whnf) | (refine .inl ⟨_, ct, ?_⟩; conv => whnf) | fail))
    refine ⟨[], [1, 2, 4, 5, 6], [0], 1, fun m s => ∃ k : Nat, k + m = n ∧ s = ⟨[(1, .d (dU8 w)), (2, .ref 0 0), (4, .d (dB false)), (5, .d (dI (BD k : Nat))), (6, .d (dI k))], [(0, .var false 24 [.d (dI n), .d (.seq (l.map stD))])], 1⟩, ?_, ?_⟩
    · conv => whnf
      exact ⟨n, 0, by omega, by rw [hBD]; rfl⟩
    · rintro m _ ⟨k, hk, rfl⟩
      by_cases hkn : k < n
      · have f2 : decide ((k : Int) < (n : Int)) = true := decide_eq_true (by omega)
        have hb1 := hBs k
        have hb2 := hBle k
        have w1k : IntKind.i64.wrap ((k : Int) + 1) = ((k + 1 : Nat) : Int) := by rw [wrapI (by omega) (by omega)]; rfl
        have w1c : IntKind.i64.wrap ((BD k : Int) + 1) = ((BD k + 1 : Nat) : Int) := by rw [wrapI (by omega) (by omega)]; rfl
        by_cases hbk : β k = true
        · have fb := hraw k
          rw [hbk] at fb
          rw [if_pos hbk] at hb1
          conv => whnf
          (repeat' (first | (apply kT (by with_reducible first | rfl | assumption); conv => whnf) | (apply kF (by with_reducible first | rfl | assumption); conv => whnf) | (apply kT (by decide); conv => whnf) | (apply kF (by decide); conv => whnf) | (apply kB <;> intro _ <;> conv => whnf) | fail))
          (refine ⟨u64_p (by omega), ?_⟩; conv => whnf)
          (refine ⟨by omega, ?_⟩; conv => whnf)
          (repeat' (first | (apply kT (by with_reducible first | rfl | assumption); conv => whnf) | (apply kF (by with_reducible first | rfl | assumption); conv => whnf) | (apply kT (by decide); conv => whnf) | (apply kF (by decide); conv => whnf) | (apply kB <;> intro _ <;> conv => whnf) | fail))
          refine ⟨m - 1, by omega, k + 1, by omega, ?_⟩
          rw [hb1, w1k, w1c]
        · have fb := hraw k
          rw [(Bool.not_eq_true _).mp hbk] at fb
          rw [if_neg hbk] at hb1
          conv => whnf
          (repeat' (first | (apply kT (by with_reducible first | rfl | assumption); conv => whnf) | (apply kF (by with_reducible first | rfl | assumption); conv => whnf) | (apply kT (by decide); conv => whnf) | (apply kF (by decide); conv => whnf) | (apply kB <;> intro _ <;> conv => whnf) | fail))
          (refine ⟨u64_p (by omega), ?_⟩; conv => whnf)
          (refine ⟨by omega, ?_⟩; conv => whnf)
          (repeat' (first | (apply kT (by with_reducible first | rfl | assumption); conv => whnf) | (apply kF (by with_reducible first | rfl | assumption); conv => whnf) | (apply kT (by decide); conv => whnf) | (apply kF (by decide); conv => whnf) | (apply kB <;> intro _ <;> conv => whnf) | fail))
          refine ⟨m - 1, by omega, k + 1, by omega, ?_⟩
          rw [hb1, w1k]
          rfl
      · have f2 : decide ((k : Int) < (n : Int)) = false := decide_eq_false (by omega)
        have hkn' : k = n := by omega
        subst hkn'
        obtain ⟨bd, hbd⟩ : ∃ bd, bd = BD k := ⟨_, rfl⟩
        have hbdk := hBle k
        rw [← hbd] at hbdk ⊢
        obtain ⟨SA, hSA⟩ : ∃ SA : Nat → Nat, SA = fun i => ((L.take i).map fun a => (evD l β a).1).sum := ⟨_, rfl⟩
        obtain ⟨SP, hSP⟩ : ∃ SP : Nat → Nat, SP = fun i => ((L.take i).map fun a => (evD l β a).2.1).sum := ⟨_, rfl⟩
        have hSs : ∀ i (h : i < L.length), SA (i + 1) = SA i + (evD l β L[i]).1 ∧ SP (i + 1) = SP i + (evD l β L[i]).2.1 := fun i h => by
          rw [hSA, hSP]
          dsimp only
          have e : L.take (i + 1) = L.take i ++ [L[i]] := by rw [List.take_add_one, List.getElem?_eq_getElem h]; rfl
          rw [e, List.map_append, List.sum_append, List.map_append, List.sum_append]
          exact ⟨by simp only [List.map_cons, List.map_nil, List.sum_cons, List.sum_nil, Nat.add_zero], by simp only [List.map_cons, List.map_nil, List.sum_cons, List.sum_nil, Nat.add_zero]⟩
        have hLl : L.length ≤ 16384 := by
          rw [hL]
          refine Nat.le_trans (draws_len _ _ _) ?_
          have htl : (tksL l).length = l.length := by unfold tksL; simp
          exact Nat.le_trans (Nat.pow_le_pow_left (show _ ≤ 4 by omega) k) (Nat.pow_le_pow_right (by omega) h7)
        have hLf : ∀ a ∈ L, fullD (tksL l) a = true ∧ a.length = k := fun a ha => by
          rw [hL] at ha
          have := draws_full k [] a ha
          simpa using this
        conv => whnf
        (repeat' (first | (apply kT (by with_reducible first | rfl | assumption); conv => whnf) | (apply kF (by with_reducible first | rfl | assumption); conv => whnf) | (apply kT (by decide); conv => whnf) | (apply kF (by decide); conv => whnf) | (apply kB <;> intro _ <;> conv => whnf) | (refine .inl ⟨_, cD, ?_⟩; conv => whnf) | fail))
        refine ⟨[], [1, 2, 4, 5, 7, 8, 9, 10], [0], 1, fun m s => ∃ i : Nat, i + m = L.length ∧ SA i ≤ i ∧ SP i ≤ 21 * i ∧ s = ⟨[(1, .d (dU8 w)), (2, .ref 0 0), (4, .d (dB false)), (5, .d (dI bd)), (7, .d (dsD L)), (8, .d (dI (SA i : Nat))), (9, .d (dI (SP i : Nat))), (10, .d (dI i))], [(0, .var false 24 [.d (dI k), .d (.seq (l.map stD))])], 1⟩, ?_, ?_⟩
        · conv => whnf
          exact ⟨L.length, 0, by omega, by rw [hSA]; exact Nat.le_refl _, by rw [hSP]; exact Nat.le_refl _, by rw [hSA, hSP]; rfl⟩
        · rintro m1 _ ⟨i, hi, hA1, hP1, rfl⟩
          by_cases hil : i < L.length
          · have f3 : decide ((i : Int) < ((L.map fun a => [isD a]).length : Int)) = true := decide_eq_true (by rw [hmL]; omega)
            have hgL : (L.map fun a => [isD a])[i]? = some [isD L[i]] := by rw [List.getElem?_map, List.getElem?_eq_getElem hil]; rfl
            have hful := hLf _ (List.getElem_mem hil)
            have hS := hSs i hil
            obtain ⟨a, ea⟩ : ∃ a, a = L[i] := ⟨_, rfl⟩
            rw [← ea] at hgL hful hS
            obtain ⟨xs, exs⟩ : ∃ xs, xs = (List.range l.length).map (badD β a) := ⟨_, rfl⟩
            have hev : evD l β a = evN l 0 0 xs := by unfold evD; rw [exs]
            have hone : (evD l β a).2.2 = 1 := ev_one he
            conv => whnf
            (repeat' (first | (apply kT (by with_reducible first | rfl | assumption); conv => whnf) | (apply kF (by with_reducible first | rfl | assumption); conv => whnf) | (apply kT (by decide); conv => whnf) | (apply kF (by decide); conv => whnf) | (apply kB <;> intro _ <;> conv => whnf) | fail))
            refine ⟨[.own 11 4], [1, 2, 4, 5, 7, 8, 9, 10, 11, 12, 13], [0, 1], 2, fun m s => ∃ (sg : Nat) (res : List Bool) (v : Int), sg + m = l.length ∧ res.length ≤ 7 * sg ∧
              ((v = 3 ∧ Opened l sg res ∧ evD l β a = evN (l.drop sg) res.length (badN res) (xs.drop sg)) ∨ (v = 1 ∧ evD l β a = (1, res.length, 1)) ∨ (v = 2 ∧ evD l β a = (0, res.length, 1))) ∧
              s = ⟨[(1, .d (dU8 w)), (2, .ref 0 0), (4, .d (dB false)), (5, .d (dI bd)), (7, .d (dsD L)), (8, .d (dI (SA i : Nat))), (9, .d (dI (SP i : Nat))), (10, .d (dI i)), (11, .own 1), (12, .d (dU8 v)), (13, .d (dI sg))],
                [(0, .var false 24 [.d (dI k), .d (.seq (l.map stD))]), (1, .arr 4 (res.map fun b => [dB b]))], 2⟩, ?_, ?_⟩
            · conv => whnf
              exact ⟨l.length, 0, [], 3, by omega, Nat.zero_le _, .inl ⟨rfl, opened0 l, by rw [hev]; rfl⟩, rfl⟩
            · rintro m2 _ ⟨sg, res, v, hsg, hres, hv, rfl⟩
              have hmr : ((res.map fun b => [dB b]).length : Int) = res.length := by rw [List.length_map]
              have w1s : IntKind.i64.wrap ((sg : Int) + 1) = ((sg + 1 : Nat) : Int) := by rw [wrapI (by omega) (by omega)]; rfl
              by_cases hgo : sg < l.length ∧ v = 3
              · have f4 : decide ((sg : Int) < ((l.map stD).length : Int)) = true := decide_eq_true (by rw [hm]; omega)
                have f5 : (v == 3) = true := by rw [hgo.2]; rfl
                have hv3 : Opened l sg res ∧ evD l β a = evN (l.drop sg) res.length (badN res) (xs.drop sg) := by
                  rcases hv with h | ⟨h, _⟩ | ⟨h, _⟩
                  · exact h.2
                  · omega
                  · omega
                have hd : l.drop sg = l[sg] :: l.drop (sg + 1) := (List.getElem_cons_drop ..).symm
                have hxd : (xs.drop sg)[0]? = some (badD β a sg) := by
                  rw [List.getElem?_drop, exs, List.getElem?_map, Nat.add_zero, List.getElem?_range hgo.1]; rfl
                have hxd2 : (xs.drop sg).drop 1 = xs.drop (sg + 1) := by rw [List.drop_drop]
                have hEn : Ends (l.drop sg) := ends_drop he hgo.1
                have hFd := fit_drop hf sg
                have htk := tks_get hf hgo.1
                have hnx : l.drop (sg + 1) ≠ [] → ∃ q' r', l.drop (sg + 1) = q' :: r' ∧ 1 ≤ q'.1.toNat := fun hne => by
                  have h2 : sg + 1 < l.length := by
                    refine Nat.lt_of_not_le fun h => hne (List.drop_of_length_le h)
                  refine ⟨l[sg + 1], l.drop (sg + 2), (List.getElem_cons_drop ..).symm, ?_⟩
                  obtain ⟨t, e1, e2, e3⟩ := fit_at hf (List.getElem?_eq_getElem h2)
                  rw [e1, Int.toNat_natCast]; exact e2
                have hcnt : ∀ t : Nat, ((tksL l)[sg]?).getD 0 = t → cntD a sg = t := fun t ht => by
                  have h := hful.1
                  unfold fullD at h
                  have htl : (tksL l).length = l.length := by unfold tksL; simp
                  have := List.all_eq_true.1 h sg (List.mem_range.2 (by rw [htl]; exact hgo.1))
                  rw [beq_iff_eq, ht] at this
                  exact this
                refine Exists.elim (⟨_, rfl⟩ : ∃ z, z = l[sg]) fun q eq => ?_
                rw [← eq] at hd htk
                conv => whnf
                (repeat' (first | (apply kT (by with_reducible first | rfl | assumption); conv => whnf) | (apply kF (by with_reducible first | rfl | assumption); conv => whnf) | (apply kT (by decide); conv => whnf) | (apply kF (by decide); conv => whnf) | (apply kB <;> intro _ <;> conv => whnf) | fail))
                refine ⟨[], [1, 2, 4, 5, 7, 8, 9, 10, 11, 12, 13, 14], [0, 1], 2, fun m s => ∃ kk : Nat, kk + m = k ∧ s = ⟨[(1, .d (dU8 w)), (2, .ref 0 0), (4, .d (dB false)), (5, .d (dI bd)), (7, .d (dsD L)), (8, .d (dI (SA i : Nat))), (9, .d (dI (SP i : Nat))), (10, .d (dI i)), (11, .own 1), (12, .d (dU8 v)), (13, .d (dI sg)), (14, .d (dI kk))],
                  [(0, .var false 24 [.d (dI k), .d (.seq (l.map stD))]), (1, .arr 4 ((res ++ stB β a sg kk).map fun b => [dB b]))], 2⟩, ?_, ?_⟩
                · conv => whnf
                  refine ⟨k, 0, by omega, ?_⟩
                  rw [show stB β a sg 0 = [] by unfold stB; rfl, List.append_nil]
                  rfl
                · rintro m3 _ ⟨kk, hkk, rfl⟩
                  have hsl := stB_take β a sg kk (by omega)
                  have hsll : (stB β a sg kk).length ≤ kk := by rw [hsl.1]; exact Nat.le_trans (cntD_le _ _) (by rw [List.length_take]; exact Nat.min_le_left _ _)
                  by_cases hkl : kk < k
                  · have f6 : decide ((kk : Int) < (k : Int)) = true := decide_eq_true (by omega)
                    have hka : kk < a.length := by omega
                    have hga := geti' a kk hka
                    have hst : stB β a sg (kk + 1) = stB β a sg kk ++ (if (a[kk]?).getD (-1) = (sg : Int) then [β kk] else []) := by rw [stB]
                    rw [List.getElem?_eq_getElem hka, Option.getD_some] at hst
                    have w1kk : IntKind.i64.wrap ((kk : Int) + 1) = ((kk + 1 : Nat) : Int) := by rw [wrapI (by omega) (by omega)]; rfl
                    have hrk := hraw kk
                    by_cases hae : a[kk] = (sg : Int)
                    · have f7 : (a[kk] == (sg : Int)) = true := by rw [hae]; simp
                      rw [if_pos hae, ← hrk] at hst
                      conv => whnf
                      (repeat' (first | (apply kT (by with_reducible first | rfl | assumption); conv => whnf) | (apply kF (by with_reducible first | rfl | assumption); conv => whnf) | (apply kT (by decide); conv => whnf) | (apply kF (by decide); conv => whnf) | (apply kB <;> intro _ <;> conv => whnf) | fail))
                      (refine ⟨i, _, rfl, hgL, rfl, ?_⟩; conv => whnf)
                      (repeat' (first | (apply kT (by with_reducible first | rfl | assumption); conv => whnf) | (apply kF (by with_reducible first | rfl | assumption); conv => whnf) | (apply kT (by decide); conv => whnf) | (apply kF (by decide); conv => whnf) | (apply kB <;> intro _ <;> conv => whnf) | fail))
                      (refine ⟨kk, _, rfl, hga, rfl, ?_⟩; conv => whnf)
                      (repeat' (first | (apply kT (by with_reducible first | rfl | assumption); conv => whnf) | (apply kF (by with_reducible first | rfl | assumption); conv => whnf) | (apply kT (by decide); conv => whnf) | (apply kF (by decide); conv => whnf) | (apply kB <;> intro _ <;> conv => whnf) | fail))
                      (refine ⟨u64_p (by omega), ?_⟩; conv => whnf)
                      (refine ⟨by omega, ?_⟩; conv => whnf)
                      (repeat' (first | (apply kT (by with_reducible first | rfl | assumption); conv => whnf) | (apply kF (by with_reducible first | rfl | assumption); conv => whnf) | (apply kT (by decide); conv => whnf) | (apply kF (by decide); conv => whnf) | (apply kB <;> intro _ <;> conv => whnf) | fail))
                      (refine .l ?_; conv => whnf)
                      (refine ⟨by simp, by simp only [List.length_map, List.length_append, List.length_singleton]; omega, ?_⟩; conv => whnf)
                      (repeat' (first | (apply kT (by with_reducible first | rfl | assumption); conv => whnf) | (apply kF (by with_reducible first | rfl | assumption); conv => whnf) | (apply kT (by decide); conv => whnf) | (apply kF (by decide); conv => whnf) | (apply kB <;> intro _ <;> conv => whnf) | fail))
                      refine ⟨m3 - 1, by omega, kk + 1, by omega, ?_⟩
                      rw [hst, ← List.append_assoc, List.map_append (l₂ := [_]), w1kk]
                      try rfl
                    · have f7 : (a[kk] == (sg : Int)) = false := by rw [beq_eq_false_iff_ne]; exact hae
                      rw [if_neg hae, List.append_nil] at hst
                      conv => whnf
                      (repeat' (first | (apply kT (by with_reducible first | rfl | assumption); conv => whnf) | (apply kF (by with_reducible first | rfl | assumption); conv => whnf) | (apply kT (by decide); conv => whnf) | (apply kF (by decide); conv => whnf) | (apply kB <;> intro _ <;> conv => whnf) | fail))
                      (refine ⟨i, _, rfl, hgL, rfl, ?_⟩; conv => whnf)
                      (repeat' (first | (apply kT (by with_reducible first | rfl | assumption); conv => whnf) | (apply kF (by with_reducible first | rfl | assumption); conv => whnf) | (apply kT (by decide); conv => whnf) | (apply kF (by decide); conv => whnf) | (apply kB <;> intro _ <;> conv => whnf) | fail))
                      (refine ⟨kk, _, rfl, hga, rfl, ?_⟩; conv => whnf)
                      (repeat' (first | (apply kT (by with_reducible first | rfl | assumption); conv => whnf) | (apply kF (by with_reducible first | rfl | assumption); conv => whnf) | (apply kT (by decide); conv => whnf) | (apply kF (by decide); conv => whnf) | (apply kB <;> intro _ <;> conv => whnf) | fail))
                      refine ⟨m3 - 1, by omega, kk + 1, by omega, ?_⟩
                      rw [hst, w1kk]
                  · have f6 : decide ((kk : Int) < (k : Int)) = false := decide_eq_false (by omega)
                    have hkk2 : kk = k := by omega
                    subst hkk2
                    have hall := stB_all (bits := β) (a := a) sg
                    rw [hful.2] at hall
                    have hcl : cntD a sg ≤ 7 := Nat.le_trans (cntD_le _ _) (by omega)
                    refine Exists.elim (⟨_, rfl⟩ : ∃ z, z = stB β a sg kk) fun bl ebl => ?_
                    rw [← ebl] at hall
                    refine Exists.elim htk fun t ht => ?_
                    have hct := hcnt t ht.2.1
                    have ht' : q.1.toNat = bl.length := by rw [ht.1, Int.toNat_natCast, hall.1, hct]
                    rw [hd] at hEn
                    have hpl := opened_play hv3.1 hd ht' hEn hnx
                    have hE := hv3.2
                    rw [hd, evN, hxd, Option.getD_some, hxd2, ← hall.2, ht'] at hE
                    have hRl : (res ++ bl).length = res.length + bl.length := List.length_append
                    have cPl : Pure Try.prog 24 [plD kk l, .seq ([] ++ ((res ++ bl).map fun b => [dB b]))] (.tup [dU8 (says q.2.1 q.2.2 ((badN res + badN bl : Nat) : Int)), dI (playN (res ++ bl) l 0 0 0).2.1, dI 0]) := by
                      have h := play_pure kk l (by omega) hr (res ++ bl) (by rw [hRl]; omega)
                      rw [show playI kk l (res ++ bl) = playN (res ++ bl) l 0 0 0 by unfold playI; rw [if_neg (by rw [hc]; simp)], hpl.1, hpl.2] at h
                      exact h
                    have hbn : badN (res ++ bl) = badN res + badN bl := badN_app _ _
                    have hnew : ∀ S : Int, says q.2.1 q.2.2 ((badN res + badN bl : Nat) : Int) = S → (S = 3 ∧ Opened l (sg + 1) (res ++ bl) ∧ evD l β a = evN (l.drop (sg + 1)) (res ++ bl).length (badN (res ++ bl)) (xs.drop (sg + 1))) ∨ (S = 1 ∧ evD l β a = (1, (res ++ bl).length, 1)) ∨ (S = 2 ∧ evD l β a = (0, (res ++ bl).length, 1)) := fun S hS => by
                      rcases says_cases q.2.1 q.2.2 ((badN res + badN bl : Nat) : Int) with ⟨h1, h2⟩ | ⟨h1, h2, h3⟩ | ⟨h1, h2, h3⟩
                      · rw [if_pos h1] at hE
                        exact .inr (.inl ⟨by rw [← hS, h2], by rw [hE, hRl]⟩)
                      · rw [if_neg h1, if_pos h2] at hE
                        exact .inr (.inr ⟨by rw [← hS, h3], by rw [hE, hRl]⟩)
                      · rw [if_neg h1, if_neg h2] at hE
                        exact .inl ⟨by rw [← hS, h3], opened_step hv3.1 hd ht' h3, by rw [hE, hRl, hbn]⟩
                    refine Exists.elim (⟨_, rfl⟩ : ∃ z, z = says q.2.1 q.2.2 ((badN res + badN bl : Nat) : Int)) fun S eS => ?_
                    rw [← eS] at cPl
                    have hnw := hnew S eS.symm
                    have hsz : (0 + ((res ++ bl).map fun b => [dB b]).length) * 1 ≤ 140737488355328 := by rw [List.length_map, hRl]; omega
                    have hel : ∀ el ∈ (res ++ stB β a sg kk).map fun b => [dB b], el.length = 1 := fun el he => by
                      rcases List.mem_map.1 he with ⟨b, _, rfl⟩; rfl
                    rw [ebl] at cPl hsz hnw
                    have hlr : (res ++ stB β a sg kk).length ≤ 7 * (sg + 1) := by rw [← ebl, hRl]; omega
                    conv => whnf
                    (repeat' (first | (apply kT (by with_reducible first | rfl | assumption); conv => whnf) | (apply kF (by with_reducible first | rfl | assumption); conv => whnf) | (apply kT (by decide); conv => whnf) | (apply kF (by decide); conv => whnf) | (apply kB <;> intro _ <;> conv => whnf) | (refine .inl ⟨_, cP, ?_⟩; conv => whnf) | fail))
                    (refine ⟨hel, hsz, ?_⟩; conv => whnf)
                    (repeat' (first | (apply kT (by with_reducible first | rfl | assumption); conv => whnf) | (apply kF (by with_reducible first | rfl | assumption); conv => whnf) | (apply kT (by decide); conv => whnf) | (apply kF (by decide); conv => whnf) | (apply kB <;> intro _ <;> conv => whnf) | fail))
                    (refine .inl ⟨_, cPl, ?_⟩; conv => whnf)
                    (refine .l ⟨rfl, ?_⟩; conv => whnf)
                    (repeat' (first | (apply kT (by with_reducible first | rfl | assumption); conv => whnf) | (apply kF (by with_reducible first | rfl | assumption); conv => whnf) | (apply kT (by decide); conv => whnf) | (apply kF (by decide); conv => whnf) | (apply kB <;> intro _ <;> conv => whnf) | fail))
                    refine ⟨m2 - 1, by omega, sg + 1, res ++ stB β a sg kk, S, by omega, hlr, hnw, ?_⟩
                    rw [w1s]
              · have hfin : ((v == 1) = true ∧ evD l β a = (1, res.length, 1)) ∨ ((v == 1) = false ∧ (v == 2) = true ∧ evD l β a = (0, res.length, 1)) := by
                  rcases hv with ⟨h1, h2, h3⟩ | ⟨h, h'⟩ | ⟨h, h'⟩
                  · exfalso
                    have hsl : l.length ≤ sg := Nat.le_of_not_lt fun h => hgo ⟨h, h1⟩
                    rw [h3, List.drop_of_length_le hsl] at hone
                    exact absurd hone (by rw [evN]; decide)
                  · exact .inl ⟨by rw [h]; rfl, h'⟩
                  · exact .inr ⟨by rw [h]; rfl, by rw [h]; rfl, h'⟩
                have hlen21 : res.length ≤ 21 := by omega
                have w1i : IntKind.i64.wrap ((i : Int) + 1) = ((i + 1 : Nat) : Int) := by rw [wrapI (by omega) (by omega)]; rfl
                have w1a : IntKind.i64.wrap ((SA i : Int) + 1) = ((SA i + 1 : Nat) : Int) := by rw [wrapI (by omega) (by omega)]; rfl
                have w1p : IntKind.i64.wrap ((SP i : Int) + ((res.map fun b => [dB b]).length : Int)) = ((SP i + res.length : Nat) : Int) := by rw [hmr, wrapI (by omega) (by omega)]; rfl
                refine Or.elim hfin (fun hq => ?_) (fun hq => ?_)
                · have hA2 : SA (i + 1) = SA i + 1 := by rw [hS.1, hq.2]
                  have hP2 : SP (i + 1) = SP i + res.length := by rw [hS.2, hq.2]
                  have g1 := hq.1
                  by_cases hsl : sg < l.length
                  · have f4 : decide ((sg : Int) < ((l.map stD).length : Int)) = true := decide_eq_true (by rw [hm]; omega)
                    have f5 : (v == 3) = false := by rw [beq_eq_false_iff_ne]; exact fun h => hgo ⟨hsl, h⟩
                    conv => whnf
                    (repeat' (first | (apply kT (by with_reducible first | rfl | assumption); conv => whnf) | (apply kF (by with_reducible first | rfl | assumption); conv => whnf) | (apply kT (by decide); conv => whnf) | (apply kF (by decide); conv => whnf) | (apply kB <;> intro _ <;> conv => whnf) | fail))
                    refine ⟨m1 - 1, by omega, i + 1, by omega, by rw [hA2]; omega, by rw [hP2]; omega, ?_⟩
                    rw [w1i, w1a, w1p, hA2, hP2]
                    try rfl
                  · have f4 : decide ((sg : Int) < ((l.map stD).length : Int)) = false := decide_eq_false (by rw [hm]; omega)
                    conv => whnf
                    (repeat' (first | (apply kT (by with_reducible first | rfl | assumption); conv => whnf) | (apply kF (by with_reducible first | rfl | assumption); conv => whnf) | (apply kT (by decide); conv => whnf) | (apply kF (by decide); conv => whnf) | (apply kB <;> intro _ <;> conv => whnf) | fail))
                    refine ⟨m1 - 1, by omega, i + 1, by omega, by rw [hA2]; omega, by rw [hP2]; omega, ?_⟩
                    rw [w1i, w1a, w1p, hA2, hP2]
                    try rfl
                · have hA2 : SA (i + 1) = SA i := by rw [hS.1, hq.2.2]; rfl
                  have hP2 : SP (i + 1) = SP i + res.length := by rw [hS.2, hq.2.2]
                  have g1 := hq.1
                  have g2 := hq.2.1
                  by_cases hsl : sg < l.length
                  · have f4 : decide ((sg : Int) < ((l.map stD).length : Int)) = true := decide_eq_true (by rw [hm]; omega)
                    have f5 : (v == 3) = false := by rw [beq_eq_false_iff_ne]; exact fun h => hgo ⟨hsl, h⟩
                    conv => whnf
                    (repeat' (first | (apply kT (by with_reducible first | rfl | assumption); conv => whnf) | (apply kF (by with_reducible first | rfl | assumption); conv => whnf) | (apply kT (by decide); conv => whnf) | (apply kF (by decide); conv => whnf) | (apply kB <;> intro _ <;> conv => whnf) | fail))
                    refine ⟨m1 - 1, by omega, i + 1, by omega, by rw [hA2]; omega, by rw [hP2]; omega, ?_⟩
                    rw [w1i, w1p, hA2, hP2]
                    try rfl
                  · have f4 : decide ((sg : Int) < ((l.map stD).length : Int)) = false := decide_eq_false (by rw [hm]; omega)
                    conv => whnf
                    (repeat' (first | (apply kT (by with_reducible first | rfl | assumption); conv => whnf) | (apply kF (by with_reducible first | rfl | assumption); conv => whnf) | (apply kT (by decide); conv => whnf) | (apply kF (by decide); conv => whnf) | (apply kB <;> intro _ <;> conv => whnf) | fail))
                    refine ⟨m1 - 1, by omega, i + 1, by omega, by rw [hA2]; omega, by rw [hP2]; omega, ?_⟩
                    rw [w1i, w1p, hA2, hP2]
                    try rfl
          · have f3 : decide ((i : Int) < ((L.map fun a => [isD a]).length : Int)) = false := decide_eq_false (by rw [hmL]; omega)
            have hiL : i = L.length := by omega
            have hsh := shares (bd := bd) (β := β) hf he (by rw [hbd, hBD]) hc h7 (by rw [← hL]; exact hLl)
            rw [← hL] at hsh
            have hAL : SA i = (L.map fun a => (evD l β a).1).sum := by rw [hSA, hiL]; show ((L.take L.length).map _).sum = _; rw [List.take_length]
            have hPL : SP i = (L.map fun a => (evD l β a).2.1).sum := by rw [hSP, hiL]; show ((L.take L.length).map _).sum = _; rw [List.take_length]
            rw [← hAL, ← hPL] at hsh
            refine Exists.elim hsh fun N1 hsh => Exists.elim hsh fun D1 hsh => Exists.elim hsh fun N2 hsh => Exists.elim hsh fun D2 hsh => ?_
            have cc := chance_pure k l (by omega) hr bd
            have cm := mean_pure k l (by omega) hr bd
            rw [hsh.1] at cc
            rw [hsh.2.1] at cm
            have cc' : Pure Try.prog 18 [plD k l, dI bd] (.tup [.agg [dI N1, dI D1], dI 0]) := cc
            have cm' : Pure Try.prog 23 [plD k l, dI bd] (.tup [.agg [dI N2, dI D2], dI 0]) := cm
            have hb := hsh.2.2
            have q1 : decide ((D1 : Int) > 0) = true := decide_eq_true (by omega)
            have q2 : decide ((D2 : Int) > 0) = true := decide_eq_true (by omega)
            have m1' : N1 * L.length ≤ 16384 * 16384 := Nat.mul_le_mul (by omega) (by omega)
            have m2' : SA i * D1 ≤ 16384 * 16384 := Nat.mul_le_mul (by omega) (by omega)
            have m3' : N2 * L.length ≤ 114688 * 16384 := Nat.mul_le_mul (by omega) (by omega)
            have m4' : SP i * D2 ≤ 344064 * 16384 := Nat.mul_le_mul (by omega) (by omega)
            have z1 : IntKind.i64.wrap ((N1 : Int) * ((L.map fun a => [isD a]).length : Int)) = ((N1 * L.length : Nat) : Int) := by rw [hmL, wrapI (by rw [← Int.natCast_mul]; omega) (by rw [← Int.natCast_mul]; omega)]; rfl
            have z2 : IntKind.i64.wrap ((SA i : Int) * (D1 : Int)) = ((SA i * D1 : Nat) : Int) := by rw [wrapI (by rw [← Int.natCast_mul]; omega) (by rw [← Int.natCast_mul]; omega)]; rfl
            have z3 : IntKind.i64.wrap ((N2 : Int) * ((L.map fun a => [isD a]).length : Int)) = ((N2 * L.length : Nat) : Int) := by rw [hmL, wrapI (by rw [← Int.natCast_mul]; omega) (by rw [← Int.natCast_mul]; omega)]; rfl
            have z4 : IntKind.i64.wrap ((SP i : Int) * (D2 : Int)) = ((SP i * D2 : Nat) : Int) := by rw [wrapI (by rw [← Int.natCast_mul]; omega) (by rw [← Int.natCast_mul]; omega)]; rfl
            have q3 : (IntKind.i64.wrap ((N1 : Int) * ((L.map fun a => [isD a]).length : Int)) == IntKind.i64.wrap ((SA i : Int) * (D1 : Int))) = true := by rw [z1, z2, hb.2.2.2.2.2.2.1]; simp
            have q4 : (IntKind.i64.wrap ((N2 : Int) * ((L.map fun a => [isD a]).length : Int)) == IntKind.i64.wrap ((SP i : Int) * (D2 : Int))) = true := by rw [z3, z4, hb.2.2.2.2.2.2.2]; simp
            conv => whnf
            (repeat' (first | (apply kT (by with_reducible first | rfl | assumption); conv => whnf) | (apply kF (by with_reducible first | rfl | assumption); conv => whnf) | (apply kT (by decide); conv => whnf) | (apply kF (by decide); conv => whnf) | (apply kB <;> intro _ <;> conv => whnf) | (refine .inl ⟨_, cP, ?_⟩; conv => whnf) | (refine .inl ⟨_, cc', ?_⟩; conv => whnf) | (refine .inl ⟨_, cm', ?_⟩; conv => whnf) | (refine .inl ⟨_, wakes_pure, ?_⟩; conv => whnf) | fail))
            rfl
end Go.Ev.Ythmandhpmkfopaa
