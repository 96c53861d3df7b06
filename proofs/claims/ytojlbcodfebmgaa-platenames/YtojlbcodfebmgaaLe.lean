/-
  Contracts of functions, and plain laws, that lead to the statement. Written by an agent.
-/
import Derived.Test.YtojlbcodfebmgaaLd
set_option linter.unusedVariables false
set_option linter.unusedSimpArgs false
set_option maxRecDepth 100000
namespace Go.Ev.Ytojlbcodfebmgaa
open Go.Proofs
attribute [local irreducible] Pure Bor Iter inB wtB partsL stepC useB usesB fitsB runC weighL uIdx betB cutsF bestP seeS memF cutsL partsW useF memN doN
abbrev doFn : A := .fn (.func 54) [] [.ref 0 0, .ref 1 0, .ref 2 0, .ref 3 0, .ref 4 0]
abbrev xO (i j : Nat) : Ob := .var false 42 [.own i, .own j]
abbrev usE (us : List Int) : List (List D) := us.map fun n => [dI n]
abbrev preD (p : Pl) (d : Ds) : List Ob :=
  [.var false 113 [.ref 5 0], .var false 82 [.own 7], xO 8 9, .var false 38 ((plC p).map A.d), .var false 119 [doFn], ctO p 6, .map 126 123 d.es, .arr 90 (d.ps.map pcD), .arr 99 (d.cs.map ctD), .arr 3 (usE d.us)]
abbrev postD (p : Pl) (d : Ds) : List (Nat × Ob) :=
  [(0, .var false 113 [.ref 5 0]), (1, .var false 82 [.own 7]), (2, xO 8 9), (3, .var false 38 ((plC p).map A.d)), (4, .var false 119 [doFn]), (5, ctO p 6), (6, .map 126 123 d.es), (7, .arr 90 (d.ps.map pcD)), (8, .arr 99 (d.cs.map ctD)), (9, .arr 3 (usE d.us))]
abbrev rawD (p : Pl) (d : Ds) (N : Nat) : List (Nat × Ob) :=
  [(0, .var false 113 [.ref 5 0]), (1, .var false 82 [.own N]), (2, xO 8 9), (3, .var false 38 ((plC p).map A.d)), (4, .var false 119 [doFn]), (5, ctO p 6), (6, .map 126 123 d.es), (7, .dead), (8, .arr 99 (d.cs.map ctD)), (9, .arr 3 (usE d.us)), (N, .arr 90 (d.ps.map pcD))]
theorem usE_set (l : List Int) (n : Nat) (b : Int) : (usE l).set n [dI b] = usE (l.set n b) := by
  show (l.map fun n => [dI n]).set n [dI b] = (l.set n b).map fun n => [dI n]
  rw [List.map_set]
abbrev doA (n : Nat) (w : Wn) : List A := [.d (dI (n : Nat)), .d (.agg (wnD w)), .ref 0 0, .ref 1 0, .ref 2 0, .ref 3 0, .ref 4 0]
theorem doN_succ (p : Pl) (k n : Nat) (w : Wn) (d : Ds) : doN p (k + 1) n w d =
    if (bestP p (pcAt d.ps n) w).cut = false then ⟨d.ps, d.cs, useU d.us (bestP p (pcAt d.ps n) w).use n, memN p (sizeP (pcAt d.ps n)) (pcAt d.ps n) w d.es⟩ else
    match partsL (pcAt d.ps n) (bestP p (pcAt d.ps n) w).how.ac (bestP p (pcAt d.ps n) w).how.at_ p.s with
    | [a] => doN p k d.ps.length (bestP p (pcAt d.ps n) w).first ⟨d.ps ++ [a], d.cs ++ [⟨n, (bestP p (pcAt d.ps n) w).how.ac, (bestP p (pcAt d.ps n) w).how.at_⟩], d.us, memN p (sizeP (pcAt d.ps n)) (pcAt d.ps n) w d.es⟩
    | [a, b] => doN p k (d.ps.length + 1) (w.less (bestP p (pcAt d.ps n) w).first) (doN p k d.ps.length (bestP p (pcAt d.ps n) w).first ⟨d.ps ++ [a, b], d.cs ++ [⟨n, (bestP p (pcAt d.ps n) w).how.ac, (bestP p (pcAt d.ps n) w).how.at_⟩], d.us, memN p (sizeP (pcAt d.ps n)) (pcAt d.ps n) w d.es⟩)
    | _ => d := by
  rw [doN]
  rfl
set_option maxHeartbeats 8000000 in
theorem do1_bor {p : Pl} (hp : checkI p = 0) : ∀ (k n : Nat) (w : Wn) (d : Ds), DsOk p d → n < d.ps.length → sizeP (pcAt d.ps n) ≤ k → d.ps.length + 2 * unitsP (pcAt d.ps n) ≤ 30000 → d.cs.length + unitsP (pcAt d.ps n) ≤ 30000 →
    Bor tb Try.prog 54 (doA n w) (preD p d) 10 (.d (.tup [])) (postD p (doN p k n w d))
  | 0, n, w, d, h, hn, hk, _, _ => by
    have := (h.at hn).w0; have := (h.at hn).l0
    unfold sizeP at hk; omega
  | k + 1, n, w, d, h, hn, hk, hb1, hb2 => by
    have hW := wsOk hp
    have hs := (check_zero hp).2.2.2.1
    have hw4 := (check_zero hp).1
    have hq := h.at hn
    have hu := bestP_use hs.1 hq w
    have hes := memN_ok hs.1 (sizeP (pcAt d.ps n)) w d.es hq.w0 hq.l0 (Nat.le_refl _) h.es
    have cb := best_ok hp (sizeP (pcAt d.ps n)) (pcAt d.ps n) w d.es hq (Nat.le_refl _) h.es
    have hsm := fun (ac : Bool) (a : Int) => part_small (q := pcAt d.ps n) (ac := ac) (a := a) hs.1 hq.w0 hq.l0
    have hok := fun (ac : Bool) (a : Int) => parts_ok hq (ac := ac) (a := a) hs.1
    have hgp : (d.ps.map pcD)[n]? = some (pcD (pcAt d.ps n)) := getpa (n := (n : Int)) (by omega) (by omega)
    have hlp : n < (d.ps.map pcD).length := by rw [List.length_map]; exact hn
    rw [doN_succ]
    have huq := unitsP_pos hq
    have hu1 := fun (ac : Bool) (a : Int) r => units_one (q := pcAt d.ps n) (r := r) (ac := ac) (a := a) hs.1 hq
    have hu2 := fun (ac : Bool) (a : Int) r t => units_two (q := pcAt d.ps n) (r := r) (t := t) (ac := ac) (a := a) hs.1 hq
    generalize memN p (sizeP (pcAt d.ps n)) (pcAt d.ps n) w d.es = es1 at hes cb
    generalize hS : bestP p (pcAt d.ps n) w = S at hu cb
    generalize hQ : pcAt d.ps n = q at hq hu hsm hok hk cb hgp huq hu1 hu2 hb1 hb2
    cases hc : S.cut with
    | false =>
      rw [if_pos rfl]
      have f0 : (!S.cut) = true := by simp [hc]
      rcases hu.noCutB hc with ⟨e1, _, _⟩ | ⟨e1, e2, _⟩
      · have f1 : (S.use != -1) = false := by simp [e1]
        have eu : useU d.us S.use n = d.us := by unfold useU; rw [if_pos e1]
        rw [eu]
        refine bor_ofO pg Try.func54 (by kernel_rfl) ?_
        conv => whnf
        (refine ⟨n, rfl, hlp, ?_⟩; conv => whnf)
        (refine ⟨_, hgp, ?_⟩; conv => whnf)
        (refine ⟨rfl, ?_⟩; conv => whnf)
        (refine .inr ⟨[5, 6], 2, _, _, cb, ?_⟩; conv => whnf)
        (repeat' (first | (apply kT (by with_reducible first | rfl | assumption); conv => whnf) | (apply kF (by with_reducible first | rfl | assumption); conv => whnf) | (apply kT (by decide); conv => whnf) | (apply kF (by decide); conv => whnf) | (apply kB <;> intro _ <;> conv => whnf) | fail))
        (refine ⟨[0, 1, 2, 3, 4, 5, 6, 7, 8, 9], ?_⟩; conv => whnf)
        exact ⟨rfl, rfl⟩
      · have f1 : (S.use != -1) = true := by simp; omega
        have eu : useU d.us S.use n = d.us.set S.use.toNat n := by unfold useU; rw [if_neg (by omega)]
        rw [eu]
        have hun : (S.use.toNat : Int) = S.use := Int.toNat_of_nonneg e1
        have hul : S.use.toNat < d.us.length := by rw [h.us]; omega
        refine bor_ofO pg Try.func54 (by kernel_rfl) ?_
        conv => whnf
        (refine ⟨n, rfl, hlp, ?_⟩; conv => whnf)
        (refine ⟨_, hgp, ?_⟩; conv => whnf)
        (refine ⟨rfl, ?_⟩; conv => whnf)
        (refine .inr ⟨[5, 6], 2, _, _, cb, ?_⟩; conv => whnf)
        (repeat' (first | (apply kT (by with_reducible first | rfl | assumption); conv => whnf) | (apply kF (by with_reducible first | rfl | assumption); conv => whnf) | (apply kT (by decide); conv => whnf) | (apply kF (by decide); conv => whnf) | (apply kB <;> intro _ <;> conv => whnf) | fail))
        (refine ⟨_, hun.symm, by rw [List.length_map]; exact hul, ?_⟩; conv => whnf)
        (refine ⟨_, geti d.us _ hul, rfl, Nat.le_refl _, usE (d.us.set S.use.toNat n), usE_set .., ?_⟩; conv => whnf)
        (repeat' (first | (apply kT (by with_reducible first | rfl | assumption); conv => whnf) | (apply kF (by with_reducible first | rfl | assumption); conv => whnf) | (apply kT (by decide); conv => whnf) | (apply kF (by decide); conv => whnf) | (apply kB <;> intro _ <;> conv => whnf) | fail))
        (refine ⟨[0, 1, 2, 3, 4, 5, 6, 7, 8, 9], ?_⟩; conv => whnf)
        exact ⟨rfl, rfl⟩
    | true =>
      rw [if_neg (by simp)]
      have f0 : (!S.cut) = false := by simp [hc]
      obtain ⟨e1, hmem, _, hone, _, _⟩ := hu.cutB hc
      obtain ⟨_, a0, a1, hne⟩ := cutsL_mem hq hmem
      have f1 : (S.use != -1) = false := by simp [e1]
      have ca := fun es he => appendOwn_bor hq S.how.ac (a := S.how.at_) (s := p.s) ⟨by omega, by omega⟩ hs.1 hs.2 es he
      have hsm := hsm S.how.ac S.how.at_
      have hok := hok S.how.ac S.how.at_
      have hu1 := hu1 S.how.ac S.how.at_
      have hu2 := hu2 S.how.ac S.how.at_
      have hl := parts_len q S.how.ac S.how.at_ p.s
      have co : Pure Try.prog 57 [.agg [dI (n : Nat), dB S.how.ac, dI S.how.at_]] (.agg (dirC S.how.ac)) := of_pure ⟨n, S.how.ac, S.how.at_⟩
      generalize partsL q S.how.ac S.how.at_ p.s = l at hsm hok hu1 hu2 hl hne hone ca
      match l, hsm, hok, hu1, hu2, hl, hne, hone, ca with
      | [], _, _, _, _, _, hne, _, _ => exact absurd rfl hne
      | [a], hsm, hok, hu1, _, _, _, hone, ca =>
        have ha := hok a (by simp)
        have hau := unitsP_pos ha
        have h1 := hu1 a rfl
        have hda : pcAt (d.ps ++ [a]) d.ps.length = a := pcAt_app0
        obtain ⟨d1, hd1⟩ : ∃ d1 : Ds, d1 = ⟨d.ps ++ [a], d.cs ++ [⟨n, S.how.ac, S.how.at_⟩], d.us, es1⟩ := ⟨_, rfl⟩
        have ok1 : DsOk p d1 := by
          rw [hd1]
          exact ⟨fun q hq => by
            rcases List.mem_append.1 hq with hq | hq
            · exact h.pcs q hq
            · simp only [List.mem_singleton] at hq; subst hq; exact ha, hes, h.us⟩
        have ih := do1_bor hp k d.ps.length S.first d1 ok1 (by rw [hd1]; simp) (by rw [hd1]; dsimp only; rw [hda]; have := (hsm a (by simp)).1; omega) (by rw [hd1]; dsimp only; rw [hda]; simp; omega) (by rw [hd1]; dsimp only; rw [hda]; simp; omega)
        show Bor tb Try.prog 54 (doA n w) (preD p d) 10 (.d (.tup [])) (postD p (doN p k d.ps.length S.first ⟨d.ps ++ [a], d.cs ++ [⟨n, S.how.ac, S.how.at_⟩], d.us, es1⟩))
        rw [← hd1]
        obtain ⟨d2, hd2⟩ : ∃ d2, d2 = doN p k d.ps.length S.first d1 := ⟨_, rfl⟩
        rw [← hd2] at ih ⊢
        have hlen : ((d.ps.map pcD).length : Int) = d.ps.length := by rw [List.length_map]
        have w0 : IntKind.i64.wrap (((d.ps.map pcD).length : Int) + 0) = ((d.ps.length : Nat) : Int) := by rw [hlen, Int.add_zero]; exact wS (by omega) (by omega)
        have wl : IntKind.i64.wrap ((((d.ps ++ [a]).map pcD).length : Int) - ((d.ps.map pcD).length : Int)) = ((1 : Nat) : Int) := by
          rw [hlen, List.length_map, List.length_append, wS (by simp; omega) (by simp; omega)]; simp; omega
        have ih : Bor tb Try.prog 54 [.d (dI (IntKind.i64.wrap (((d.ps.map pcD).length : Int) + 0))), .d (.agg (wnD S.first)), .ref 0 0, .ref 1 0, .ref 2 0, .ref 3 0, .ref 4 0] (preD p d1) 10 (.d (.tup [])) (postD p d2) := by rw [w0]; exact ih
        have ec : d1.cs.map ctD = d.cs.map ctD ++ [ctD ⟨n, S.how.ac, S.how.at_⟩] := by rw [hd1]; exact List.map_append
        have w01 : IntKind.i64.wrap ((0 : Int) + 1) = ((1 : Nat) : Int) := by decide
        refine BorC.mv (r := .d (.tup [])) (post := rawD p d2 203) ?_ [0, 1, 2, 3, 4, 5, 6, 203, 8, 9] rfl rfl rfl
        refine borC_ofO (N := 219) pg Try.func54 (by kernel_rfl) ?_
        conv => whnf
        (refine ⟨n, rfl, hlp, ?_⟩; conv => whnf)
        (refine ⟨_, hgp, ?_⟩; conv => whnf)
        (refine ⟨rfl, ?_⟩; conv => whnf)
        (refine .inr ⟨[5, 6], 2, _, _, cb, ?_⟩; conv => whnf)
        (repeat' (first | (apply kT (by with_reducible first | rfl | assumption); conv => whnf) | (apply kF (by with_reducible first | rfl | assumption); conv => whnf) | (apply kT (by decide); conv => whnf) | (apply kF (by decide); conv => whnf) | (apply kB <;> intro _ <;> conv => whnf) | fail))
        (refine .l ?_; conv => whnf)
        (refine ⟨by simp, ?_⟩; conv => whnf)
        (refine ⟨by simp only [List.length_map, List.length_singleton]; omega, ?_⟩; conv => whnf)
        (refine .inl ⟨_, co, ?_⟩; conv => whnf)
        (refine ⟨n, rfl, hlp, ?_⟩; conv => whnf)
        (refine ⟨_, hgp, ?_⟩; conv => whnf)
        (refine ⟨rfl, ?_⟩; conv => whnf)
        (refine .inr ⟨[], 4, _, _, parts_bor .., ?_⟩; conv => whnf)
        (refine .inr ⟨[7, 195, 196, 197, 198], 6, _, _, ca d.ps (by omega), ?_⟩; conv => whnf)
        (refine .inl ⟨_, less_pure w S.first, ?_⟩; conv => whnf)
        (refine .l ?_; conv => whnf)
        (refine ⟨1, wl, Nat.zero_le _, by simp, by intro el hel; simp only [List.mem_cons, List.not_mem_nil, or_false] at hel; rcases hel with h | h <;> subst h <;> rfl, ?_⟩; conv => whnf)
        refine ⟨[], [6, 10, 71, 72, 73], [0, 1, 2, 3, 4, 5, 6, 7, 8, 9, 203], 219, fun m s => (m = 1 ∧ s = ⟨[(6, .ref 4 0), (10, .d (dI (d.ps.map pcD).length)), (71, .d (.seq [wnD S.first])), (72, .d (dI 1)), (73, .d (dI 0))], rawD p d1 203, 219⟩) ∨
          (m = 0 ∧ s = ⟨[(6, .ref 4 0), (10, .d (dI (d.ps.map pcD).length)), (71, .d (.seq [wnD S.first])), (72, .d (dI 1)), (73, .d (dI 1))], rawD p d2 203, 219⟩), ?_, ?_⟩
        · conv => whnf
          refine ⟨1, .inl ⟨rfl, ?_⟩⟩
          unfold rawD
          rw [ec, hd1]
          rfl
        · rintro m _ (⟨rfl, rfl⟩ | ⟨rfl, rfl⟩)
          · conv => whnf
            (repeat' (first | (apply kT (by with_reducible first | rfl | assumption); conv => whnf) | (apply kF (by with_reducible first | rfl | assumption); conv => whnf) | (apply kT (by decide); conv => whnf) | (apply kF (by decide); conv => whnf) | (apply kB <;> intro _ <;> conv => whnf) | fail))
            (refine ⟨0, wnD S.first, rfl, rfl, rfl, ?_⟩; conv => whnf)
            (refine .inr ⟨[0, 1, 2, 3, 4, 5, 6, 203, 8, 9], 10, _, _, ih, ?_⟩; conv => whnf)
            refine ⟨0, by omega, .inr ⟨rfl, ?_⟩⟩
            rw [w01]
            rfl
          · conv => whnf
            (repeat' (first | (apply kT (by with_reducible first | rfl | assumption); conv => whnf) | (apply kF (by with_reducible first | rfl | assumption); conv => whnf) | (apply kT (by decide); conv => whnf) | (apply kF (by decide); conv => whnf) | (apply kB <;> intro _ <;> conv => whnf) | fail))
            (refine ⟨[0, 1, 2, 3, 4, 5, 6, 7, 8, 9, 203], ?_⟩; conv => whnf)
            exact ⟨rfl, rfl⟩
      | [a, b], hsm, hok, _, hu2, _, _, _, ca =>
        have ha := hok a (by simp)
        have hb := hok b (by simp)
        have hau := unitsP_pos ha
        have hbu := unitsP_pos hb
        obtain ⟨h1, _, _⟩ := hu2 a b rfl
        have hda : pcAt (d.ps ++ [a, b]) d.ps.length = a := pcAt_app0
        obtain ⟨d1, hd1⟩ : ∃ d1 : Ds, d1 = ⟨d.ps ++ [a, b], d.cs ++ [⟨n, S.how.ac, S.how.at_⟩], d.us, es1⟩ := ⟨_, rfl⟩
        have ok1 : DsOk p d1 := by
          rw [hd1]
          exact ⟨fun q hq => by
            rcases List.mem_append.1 hq with hq | hq
            · exact h.pcs q hq
            · simp only [List.mem_cons, List.not_mem_nil, or_false] at hq; rcases hq with rfl | rfl <;> first | exact ha | exact hb, hes, h.us⟩
        have n1 : d.ps.length < d1.ps.length := by rw [hd1]; simp
        have k1 : sizeP (pcAt d1.ps d.ps.length) ≤ k := by rw [hd1]; dsimp only; rw [hda]; have := (hsm a (by simp)).1; omega
        have ih := do1_bor hp k d.ps.length S.first d1 ok1 n1 k1 (by rw [hd1]; dsimp only; rw [hda]; simp; omega) (by rw [hd1]; dsimp only; rw [hda]; simp; omega)
        have gr := doN_grows hs.1 k d.ps.length S.first d1 ok1 n1 k1
        show Bor tb Try.prog 54 (doA n w) (preD p d) 10 (.d (.tup [])) (postD p (doN p k (d.ps.length + 1) (w.less S.first) (doN p k d.ps.length S.first ⟨d.ps ++ [a, b], d.cs ++ [⟨n, S.how.ac, S.how.at_⟩], d.us, es1⟩)))
        rw [← hd1]
        obtain ⟨d2, hd2⟩ : ∃ d2, d2 = doN p k d.ps.length S.first d1 := ⟨_, rfl⟩
        rw [← hd2] at ih gr ⊢
        have g1 : unitsP (pcAt d1.ps d.ps.length) = unitsP a := by rw [hd1]; dsimp only; rw [hda]
        rw [g1] at gr
        obtain ⟨ok2, ⟨t, t1, t2⟩, ⟨t', t3, t4⟩⟩ := gr
        have l1 : d1.ps.length = d.ps.length + 2 := by rw [hd1]; simp
        have l1' : d1.cs.length = d.cs.length + 1 := by rw [hd1]; simp
        have l2 : d2.ps.length = d.ps.length + 2 + t.length := by rw [t1, List.length_append, l1]
        have l2' : d2.cs.length = d.cs.length + 1 + t'.length := by rw [t3, List.length_append, l1']
        have hdb : pcAt d2.ps ((d.ps.length + 1 : Nat) : Int) = b := by
          rw [t1, hd1, List.append_assoc]
          exact pcAt_app1 (r := t)
        have ih2 := do1_bor hp k (d.ps.length + 1) (w.less S.first) d2 ok2 (by omega) (by rw [hdb]; have := (hsm b (by simp)).1; omega) (by rw [hdb]; omega) (by rw [hdb]; omega)
        obtain ⟨d3, hd3⟩ : ∃ d3, d3 = doN p k (d.ps.length + 1) (w.less S.first) d2 := ⟨_, rfl⟩
        rw [← hd3] at ih2 ⊢
        have hlen : ((d.ps.map pcD).length : Int) = d.ps.length := by rw [List.length_map]
        have w0 : IntKind.i64.wrap (((d.ps.map pcD).length : Int) + 0) = ((d.ps.length : Nat) : Int) := by rw [hlen, Int.add_zero]; exact wS (by omega) (by omega)
        have w1' : IntKind.i64.wrap (((d.ps.map pcD).length : Int) + 1) = ((d.ps.length + 1 : Nat) : Int) := by rw [hlen]; exact wS (by omega) (by omega)
        have wl : IntKind.i64.wrap ((((d.ps ++ [a, b]).map pcD).length : Int) - ((d.ps.map pcD).length : Int)) = ((2 : Nat) : Int) := by
          rw [hlen, List.length_map, List.length_append, wS (by simp; omega) (by simp; omega)]; simp; omega
        have ih : Bor tb Try.prog 54 [.d (dI (IntKind.i64.wrap (((d.ps.map pcD).length : Int) + 0))), .d (.agg (wnD S.first)), .ref 0 0, .ref 1 0, .ref 2 0, .ref 3 0, .ref 4 0] (preD p d1) 10 (.d (.tup [])) (postD p d2) := by rw [w0]; exact ih
        have ih2 : Bor tb Try.prog 54 [.d (dI (IntKind.i64.wrap (((d.ps.map pcD).length : Int) + 1))), .d (.agg (wnD (w.less S.first))), .ref 0 0, .ref 1 0, .ref 2 0, .ref 3 0, .ref 4 0] (preD p d2) 10 (.d (.tup [])) (postD p d3) := by rw [w1']; exact ih2
        have ec : d1.cs.map ctD = d.cs.map ctD ++ [ctD ⟨n, S.how.ac, S.how.at_⟩] := by rw [hd1]; exact List.map_append
        have w01 : IntKind.i64.wrap ((0 : Int) + 1) = ((1 : Nat) : Int) := by decide
        have w12 : IntKind.i64.wrap ((1 : Int) + 1) = ((2 : Nat) : Int) := by decide
        refine BorC.mv (r := .d (.tup [])) (post := rawD p d3 203) ?_ [0, 1, 2, 3, 4, 5, 6, 203, 8, 9] rfl rfl rfl
        refine borC_ofO (N := 219) pg Try.func54 (by kernel_rfl) ?_
        conv => whnf
        (refine ⟨n, rfl, hlp, ?_⟩; conv => whnf)
        (refine ⟨_, hgp, ?_⟩; conv => whnf)
        (refine ⟨rfl, ?_⟩; conv => whnf)
        (refine .inr ⟨[5, 6], 2, _, _, cb, ?_⟩; conv => whnf)
        (repeat' (first | (apply kT (by with_reducible first | rfl | assumption); conv => whnf) | (apply kF (by with_reducible first | rfl | assumption); conv => whnf) | (apply kT (by decide); conv => whnf) | (apply kF (by decide); conv => whnf) | (apply kB <;> intro _ <;> conv => whnf) | fail))
        (refine .l ?_; conv => whnf)
        (refine ⟨by simp, ?_⟩; conv => whnf)
        (refine ⟨by simp only [List.length_map, List.length_singleton]; omega, ?_⟩; conv => whnf)
        (refine .inl ⟨_, co, ?_⟩; conv => whnf)
        (refine ⟨n, rfl, hlp, ?_⟩; conv => whnf)
        (refine ⟨_, hgp, ?_⟩; conv => whnf)
        (refine ⟨rfl, ?_⟩; conv => whnf)
        (refine .inr ⟨[], 4, _, _, parts_bor .., ?_⟩; conv => whnf)
        (refine .inr ⟨[7, 195, 196, 197, 198], 6, _, _, ca d.ps (by omega), ?_⟩; conv => whnf)
        (refine .inl ⟨_, less_pure w S.first, ?_⟩; conv => whnf)
        (refine .l ?_; conv => whnf)
        (refine ⟨2, wl, Nat.zero_le _, by simp, by intro el hel; simp only [List.mem_cons, List.not_mem_nil, or_false] at hel; rcases hel with h | h <;> subst h <;> rfl, ?_⟩; conv => whnf)
        refine ⟨[], [6, 10, 71, 72, 73], [0, 1, 2, 3, 4, 5, 6, 7, 8, 9, 203], 219, fun m s => (m = 2 ∧ s = ⟨[(6, .ref 4 0), (10, .d (dI (d.ps.map pcD).length)), (71, .d (.seq [wnD S.first, wnD (w.less S.first)])), (72, .d (dI 2)), (73, .d (dI 0))], rawD p d1 203, 219⟩) ∨
          (m = 1 ∧ s = ⟨[(6, .ref 4 0), (10, .d (dI (d.ps.map pcD).length)), (71, .d (.seq [wnD S.first, wnD (w.less S.first)])), (72, .d (dI 2)), (73, .d (dI 1))], rawD p d2 203, 219⟩) ∨
          (m = 0 ∧ s = ⟨[(6, .ref 4 0), (10, .d (dI (d.ps.map pcD).length)), (71, .d (.seq [wnD S.first, wnD (w.less S.first)])), (72, .d (dI 2)), (73, .d (dI 2))], rawD p d3 203, 219⟩), ?_, ?_⟩
        · conv => whnf
          refine ⟨2, .inl ⟨rfl, ?_⟩⟩
          unfold rawD
          rw [ec, hd1]
          rfl
        · rintro m _ (⟨rfl, rfl⟩ | ⟨rfl, rfl⟩ | ⟨rfl, rfl⟩)
          · conv => whnf
            (repeat' (first | (apply kT (by with_reducible first | rfl | assumption); conv => whnf) | (apply kF (by with_reducible first | rfl | assumption); conv => whnf) | (apply kT (by decide); conv => whnf) | (apply kF (by decide); conv => whnf) | (apply kB <;> intro _ <;> conv => whnf) | fail))
            (refine ⟨0, wnD S.first, rfl, rfl, rfl, ?_⟩; conv => whnf)
            (refine .inr ⟨[0, 1, 2, 3, 4, 5, 6, 203, 8, 9], 10, _, _, ih, ?_⟩; conv => whnf)
            refine ⟨1, by omega, .inr (.inl ⟨rfl, ?_⟩)⟩
            rw [w01]
            rfl
          · conv => whnf
            (repeat' (first | (apply kT (by with_reducible first | rfl | assumption); conv => whnf) | (apply kF (by with_reducible first | rfl | assumption); conv => whnf) | (apply kT (by decide); conv => whnf) | (apply kF (by decide); conv => whnf) | (apply kB <;> intro _ <;> conv => whnf) | fail))
            (refine ⟨1, wnD (w.less S.first), rfl, rfl, rfl, ?_⟩; conv => whnf)
            (refine .inr ⟨[0, 1, 2, 3, 4, 5, 6, 203, 8, 9], 10, _, _, ih2, ?_⟩; conv => whnf)
            refine ⟨0, by omega, .inr (.inr ⟨rfl, ?_⟩)⟩
            rw [w12]
            rfl
          · conv => whnf
            (repeat' (first | (apply kT (by with_reducible first | rfl | assumption); conv => whnf) | (apply kF (by with_reducible first | rfl | assumption); conv => whnf) | (apply kT (by decide); conv => whnf) | (apply kF (by decide); conv => whnf) | (apply kB <;> intro _ <;> conv => whnf) | fail))
            (refine ⟨[0, 1, 2, 3, 4, 5, 6, 7, 8, 9, 203], ?_⟩; conv => whnf)
            exact ⟨rfl, rfl⟩
      | _ :: _ :: _ :: _, _, _, _, _, hl, _, _, _ => simp at hl
end Go.Ev.Ytojlbcodfebmgaa

set_option linter.unusedVariables false
set_option linter.unusedSimpArgs false
set_option maxRecDepth 100000
namespace Go.Ev.Ytojlbcodfebmgaa
open Go.Proofs
attribute [local irreducible] Pure Bor Iter inB wtB partsL stepC useB usesB fitsB runC weighL uIdx betB cutsF bestP seeS memF cutsL partsW useF memN doN
def allW (n : Nat) : Wn := ⟨Nat.blt 0 n, Nat.blt 1 n, Nat.blt 2 n, Nat.blt 3 n⟩
def wholeP (p : Pl) : Pc := ⟨0, 0, p.w, p.l⟩
def dsAll (p : Pl) : Ds := doN p (sizeP (wholeP p)) 0 (allW p.ws.length) ⟨[wholeP p], [], List.replicate p.ws.length (-1), []⟩
def pnE (x : Pn) : D := .agg [.seq (x.cs.map ctD), .seq (usE x.us)]
set_option maxHeartbeats 8000000 in
theorem bestfn_pure {p : Pl} (hp : checkI p = 0) : Pure Try.prog 28 [plD p] (.tup [.agg [.seq ((dsAll p).cs.map ctD), .seq (usE (dsAll p).us)], dI (bestP p (wholeP p) (allW p.ws.length)).g, dI 0]) := by
  obtain ⟨hw4, _, _, hs, _⟩ := check_zero hp
  have hc := check_pure p (by omega)
  rw [hp] at hc
  have cw := whole_pure p
  have hp0 : OkP (wholeP p) := by unfold wholeP; constructor <;> dsimp only <;> omega
  have ok0 : DsOk p ⟨[wholeP p], [], List.replicate p.ws.length (-1), []⟩ := ⟨fun q hq => by simp only [List.mem_singleton] at hq; subst hq; exact hp0, (fun q w v h0 h1 hg => by cases hg), by simp⟩
  have hu0 := unitsP_pos hp0
  have cd := do1_bor hp (sizeP (wholeP p)) 0 (allW p.ws.length) _ ok0 (by simp) (Nat.le_refl _) (by show 1 + 2 * unitsP (wholeP p) ≤ 30000; omega) (by show 0 + unitsP (wholeP p) ≤ 30000; omega)
  have gr := doN_grows hs.1 (sizeP (wholeP p)) 0 (allW p.ws.length) _ ok0 (by simp) (Nat.le_refl _)
  have ed : doN p (sizeP (wholeP p)) 0 (allW p.ws.length) ⟨[wholeP p], [], List.replicate p.ws.length (-1), []⟩ = dsAll p := rfl
  rw [ed] at cd gr
  have cb := best_ok hp (sizeP (wholeP p)) (wholeP p) (allW p.ws.length) _ hp0 (Nat.le_refl _) gr.ok.es
  have hm : ((p.ws.map wtD).length : Int) = p.ws.length := by rw [List.length_map]
  have hwi : ∀ n : Nat, n ≤ 40 → IntKind.i64.wrap ((n : Int) + 1) = ((n + 1 : Nat) : Int) := fun n hn => wS (by omega) (by omega)
  refine pure_of pg Try.func28 (by kernel_rfl) ?_
  conv => whnf
  (refine .inl ⟨_, hc, ?_⟩; conv => whnf)
  (repeat' (first | (apply kT (by with_reducible first | rfl | assumption); conv => whnf) | (apply kF (by with_reducible first | rfl | assumption); conv => whnf) | (apply kT (by decide); conv => whnf) | (apply kF (by decide); conv => whnf) | (apply kB <;> intro _ <;> conv => whnf) | fail))
  refine ⟨[.cown 1 0 99, .cown 1 1 3], [1, 2, 3, 4, 6, 7, 23, 24], [0, 1, 2, 3, 4, 5, 6, 7], 8, fun j s => ∃ i : Nat, i + j = p.ws.length ∧
    s = ⟨[(1, .ref 0 0), (2, .ref 1 0), (3, .d (dI 0)), (4, .d (dI 0)), (6, .ref 4 0), (7, .ref 5 0), (23, .d (dI (p.ws.map wtD).length)), (24, .d (dI i))],
      [(0, .var false 38 ((plC p).map A.d)), (1, .var false 42 [.own 6, .own 7]), (2, .map 126 123 []), (3, .var false 116 ((plC p).map A.d ++ [.own 2])), (4, .var false 113 [.ref 3 0]), (5, .var false 118 ((wnD (allW i)).map A.d)), (6, .arr 99 []), (7, .arr 3 (usE (List.replicate i (-1))))], 8⟩, ?_, ?_⟩
  · conv => whnf
    refine ⟨p.ws.length, 0, by omega, rfl⟩
  · rintro j _ ⟨i, hij, rfl⟩
    by_cases hil : i < p.ws.length
    · obtain rfl | rfl | rfl | rfl : i = 0 ∨ i = 1 ∨ i = 2 ∨ i = 3 := by omega
      · have f4 : decide (((0 : Nat) : Int) < ((p.ws.map wtD).length : Int)) = true := decide_eq_true (by rw [hm]; omega)
        conv => whnf
        (repeat' (first | (apply kT (by with_reducible first | rfl | assumption); conv => whnf) | (apply kF (by with_reducible first | rfl | assumption); conv => whnf) | (apply kT (by decide); conv => whnf) | (apply kF (by decide); conv => whnf) | (apply kB <;> intro _ <;> conv => whnf) | fail))
        (refine ⟨0, rfl, by decide, ?_⟩; conv => whnf)
        (refine .l ?_; conv => whnf)
        (refine ⟨by simp, ?_⟩; conv => whnf)
        (refine ⟨by simp, ?_⟩; conv => whnf)
        refine ⟨j - 1, by omega, 1, by omega, ?_⟩
        rw [hwi 0 (by omega)]
        rfl
      · have f4 : decide (((1 : Nat) : Int) < ((p.ws.map wtD).length : Int)) = true := decide_eq_true (by rw [hm]; omega)
        conv => whnf
        (repeat' (first | (apply kT (by with_reducible first | rfl | assumption); conv => whnf) | (apply kF (by with_reducible first | rfl | assumption); conv => whnf) | (apply kT (by decide); conv => whnf) | (apply kF (by decide); conv => whnf) | (apply kB <;> intro _ <;> conv => whnf) | fail))
        (refine ⟨1, rfl, by decide, ?_⟩; conv => whnf)
        (refine .l ?_; conv => whnf)
        (refine ⟨by simp, ?_⟩; conv => whnf)
        (refine ⟨by simp, ?_⟩; conv => whnf)
        refine ⟨j - 1, by omega, 2, by omega, ?_⟩
        rw [hwi 1 (by omega)]
        rfl
      · have f4 : decide (((2 : Nat) : Int) < ((p.ws.map wtD).length : Int)) = true := decide_eq_true (by rw [hm]; omega)
        conv => whnf
        (repeat' (first | (apply kT (by with_reducible first | rfl | assumption); conv => whnf) | (apply kF (by with_reducible first | rfl | assumption); conv => whnf) | (apply kT (by decide); conv => whnf) | (apply kF (by decide); conv => whnf) | (apply kB <;> intro _ <;> conv => whnf) | fail))
        (refine ⟨2, rfl, by decide, ?_⟩; conv => whnf)
        (refine .l ?_; conv => whnf)
        (refine ⟨by simp, ?_⟩; conv => whnf)
        (refine ⟨by simp, ?_⟩; conv => whnf)
        refine ⟨j - 1, by omega, 3, by omega, ?_⟩
        rw [hwi 2 (by omega)]
        rfl
      · have f4 : decide (((3 : Nat) : Int) < ((p.ws.map wtD).length : Int)) = true := decide_eq_true (by rw [hm]; omega)
        conv => whnf
        (repeat' (first | (apply kT (by with_reducible first | rfl | assumption); conv => whnf) | (apply kF (by with_reducible first | rfl | assumption); conv => whnf) | (apply kT (by decide); conv => whnf) | (apply kF (by decide); conv => whnf) | (apply kB <;> intro _ <;> conv => whnf) | fail))
        (refine ⟨3, rfl, by decide, ?_⟩; conv => whnf)
        (refine .l ?_; conv => whnf)
        (refine ⟨by simp, ?_⟩; conv => whnf)
        (refine ⟨by simp, ?_⟩; conv => whnf)
        refine ⟨j - 1, by omega, 4, by omega, ?_⟩
        rw [hwi 3 (by omega)]
        rfl
    · have f4 : decide ((i : Int) < ((p.ws.map wtD).length : Int)) = false := decide_eq_false (by rw [hm]; omega)
      have hi : i = p.ws.length := by omega
      subst hi
      conv => whnf
      (repeat' (first | (apply kT (by with_reducible first | rfl | assumption); conv => whnf) | (apply kF (by with_reducible first | rfl | assumption); conv => whnf) | (apply kT (by decide); conv => whnf) | (apply kF (by decide); conv => whnf) | (apply kB <;> intro _ <;> conv => whnf) | fail))
      (refine .inl ⟨_, cw, ?_⟩; conv => whnf)
      (refine .r ⟨by decide, ?_⟩; conv => whnf)
      (refine .inr ⟨[4, 9, 1, 0, 10, 3, 2, 8, 6, 7], 10, _, _, cd, ?_⟩; conv => whnf)
      (refine .inl ⟨_, cw, ?_⟩; conv => whnf)
      (refine .inr ⟨[3, 2], 2, _, _, cb, ?_⟩; conv => whnf)
      rfl
theorem bestfn_bad {p : Pl} (hp : checkI p ≠ 0) (hl : p.ws.length ≤ 100000) :
    Pure Try.prog 28 [plD p] (.tup [.agg [.v (.slice none 0 0), .v (.slice none 0 0)], dI 0, dI (checkI p)]) := by
  have hc := check_pure p hl
  have f1 : (checkI p != 0) = true := by simpa using hp
  refine pure_of pg Try.func28 (by kernel_rfl) ?_
  conv => whnf
  (refine .inl ⟨_, hc, ?_⟩; conv => whnf)
  (repeat' (first | (apply kT (by with_reducible first | rfl | assumption); conv => whnf) | (apply kF (by with_reducible first | rfl | assumption); conv => whnf) | (apply kT (by decide); conv => whnf) | (apply kF (by decide); conv => whnf) | (apply kB <;> intro _ <;> conv => whnf) | fail))
  rfl
end Go.Ev.Ytojlbcodfebmgaa
