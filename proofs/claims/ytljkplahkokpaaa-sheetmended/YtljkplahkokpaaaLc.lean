/-
  Contracts of functions, and plain laws, that lead to the statement. Written by an agent.
-/
import Derived.Test.YtljkplahkokpaaaRows
import Derived.Test.YtljkplahkokpaaaLb
set_option linter.unusedVariables false
set_option linter.unusedSimpArgs false
set_option linter.unusedVariables false
set_option linter.unusedSimpArgs false
set_option maxRecDepth 100000
namespace Go.Ev.Ytljkplahkokpaaa
open Go.Proofs
abbrev woC (w : Int) : List D := [.v (.int .u16 w)]
theorem getwo (l : List Int) (k : Nat) (h : k < l.length) : (l.map woC)[k]? = some (woC l[k]) := by simp [h]
theorem sorted_ready {l : List Sh} (hc : checkI l = 0) (hnd : (l.map Sh.n).Nodup) : WriteL (sortS l) = (fileL (sortS l), 0) := by
 have hp := sortS_perm l
 have h1 : checkI (sortS l) = 0 := checkI_ok.2 ⟨by rw [hp.length_eq]; exact (checkI_ok.1 hc).1, fun s hs => (checkI_ok.1 hc).2 s (hp.mem_iff.1 hs)⟩
 have h2 : ((sortS l).map Sh.n).Nodup := (hp.map Sh.n).nodup_iff.2 hnd
 unfold WriteL
 rw [if_pos h1]
 unfold writeI
 rw [if_pos h2]
theorem u64p (n : Int) : 0 ≤ IntKind.u64.wrap n := by
 have : IntKind.u64.wrap n = n % 18446744073709551616 := rfl
 rw [this]
 omega
theorem Mend_as {fs : List (List Int)} {b : List Int} {e : Int} (hl : fs.length ≤ 100000) (hb : ∀ f ∈ fs, By f) (h : MendL fs = (b, e)) : Pure Try.prog 37 [.seq (fs.map chE)] (.tup [bsD b, dI e]) := by
 have := Mend_pure fs hl hb
 rw [h] at this
 exact this
theorem pure_weak {P : Program} {f : FuncId} {ds es : List D} {r : D} (hp : Pure P f ds r) (h : ∀ (I : Nat → Prop) (x : Array Obj) (vs : List Value), RepL I x es vs → RepL I x ds vs) : Pure P f es r :=
 ⟨hp.1, fun w I vs hI hr => hp.2 w I vs hI (h _ _ _ hr)⟩
theorem rep_nil {I : Nat → Prop} {x : Array Obj} {vs : List Value} (h : RepL I x [.v (.slice none 0 0)] vs) : RepL I x [.seq []] vs := by
 rw [RepL] at h ⊢
 obtain ⟨v, r, rfl, h1, h2⟩ := h
 rw [RepD] at h1
 subst h1
 exact ⟨_, r, rfl, by rw [RepD]; exact ⟨none, 0, 0, rfl, rfl, Nat.le_refl _, .inl rfl⟩, h2⟩
theorem rows_nil {I : Nat → Prop} {x : Array Obj} {a b c : List D} {vs : List Value} (h : RepL I x [.seq [a, [.v (.slice none 0 0)], b, c]] vs) : RepL I x [.seq [a, [.seq []], b, c]] vs := by
 rw [RepL] at h ⊢
 obtain ⟨v, r, rfl, h1, h2⟩ := h
 refine ⟨_, r, rfl, ?_, h2⟩
 rw [RepD] at h1 ⊢
 obtain ⟨ad, len, cap, q1, q2, q3, q4⟩ := h1
 refine ⟨ad, len, cap, q1, q2, q3, q4.imp id ?_⟩
 rintro ⟨sz, bb, off, cc, T, fr, u1, u2, u3, u4⟩
 refine ⟨sz, bb, off, cc, T, fr, u1, u2, u3, ?_⟩
 rw [RepR, RepR] at u4 ⊢
 obtain ⟨a1, a2, a3, b1, b2, b3, b4⟩ := u4
 exact ⟨a1, a2, a3, b1, rep_nil b2, b3, b4⟩
attribute [local irreducible] Pure Bor Iter Pan sortS fileL checkI thinB ReadL MissL cardsL cardsA readyB MendL layB readR
theorem mended_pure (l : List Sh) (z : Int) (ws : List Int) (hz : 0 ≤ z) (hws : ∀ w ∈ ws, 0 ≤ w ∧ w < 65536) (hwl : ws.length ≤ 9223372036854775807) : Pure Try.prog 11 [shsD l, .v (.int .u64 z), .seq (ws.map woC)] (dB true) := by
 have cr := ready_pure l
 cases hr : readyB l with
 | false =>
  rw [hr] at cr
  refine pure_of pg Try.func11 (by kernel_rfl) ?_
  conv => whnf
  (repeat' (first | (apply kT (by with_reducible first | rfl | assumption); conv => whnf) | (apply kF (by with_reducible first | rfl | assumption); conv => whnf) | (apply kT (by decide); conv => whnf) | (apply kF (by decide); conv => whnf) | (apply kB <;> intro _ <;> conv => whnf) | (refine .inl ⟨_, cr, ?_⟩; conv => whnf) | (refine .inl ⟨_, awake_pure, ?_⟩; conv => whnf) | fail))
  rfl
 | true =>
  rw [hr] at cr
  obtain ⟨hc, hnd⟩ := readyB_ok hr
  obtain ⟨h1, h2, h3, h4, _⟩ := ready_ok hc hnd
  have hw := sorted_ready hc hnd
  have cso := sorted_pure l (by omega) hnd
  have hSl : (sortS l).length ≤ 10 := by rw [(sortS_perm l).length_eq]; exact h2
  generalize sortS l = S at h3 h4 hw cso hSl
  have hp : ∀ s ∈ S, s.ps.length ≤ 100000 := fun s hs => by have := (h3 s hs).2.1; omega
  have cs := sheets_pure S (by omega) hp
  have cw := Write_as (by omega) hp hw
  have hfl := file_le h3 hSl
  have hlen := file_len h3
  have hfb := file_by h3
  have hok := cardsA_ok h3
  have hmf : (((fileL S).map byC).length : Int) = (fileL S).length := by rw [List.length_map]
  have hmw : ((ws.map woC).length : Int) = ws.length := by rw [List.length_map]
  have cb := bytes_bor (fileL S) (by omega)
  have hcpy : ∀ i (h : i < (cardsA S).length), chAt (fileL S) i = layB (cardsA S)[i] := fun i h => by rw [file_cards]; exact chAt_flat _ hok i h
  have hC0 : Cpy (cardsA S) (fileL S) := ⟨hlen, hfb, fun i h => .inl (hcpy i h)⟩
  have hmend : ∀ {fs : List (List Int)}, fs.length ≤ 5 → (∀ f ∈ fs, f = [] ∨ Cpy (cardsA S) f) → (∀ i (hi : i < (cardsA S).length), ∃ f ∈ fs, Cpy (cardsA S) f ∧ chAt f i = layB (cardsA S)[i]) → MendL fs = (fileL S, 0) := fun a b c => mend_copies h3 h4 hSl a b c
  generalize cardsA S = A at *
  generalize fileL S = F at *
  refine pure_of pg Try.func11 (by kernel_rfl) ?_
  conv => whnf
  (repeat' (first | (apply kT (by with_reducible first | rfl | assumption); conv => whnf) | (apply kF (by with_reducible first | rfl | assumption); conv => whnf) | (apply kT (by decide); conv => whnf) | (apply kF (by decide); conv => whnf) | (apply kB <;> intro _ <;> conv => whnf) | (refine .inl ⟨_, cr, ?_⟩; conv => whnf) | (refine .inl ⟨_, cso, ?_⟩; conv => whnf) | (refine .inl ⟨_, cs, ?_⟩; conv => whnf) | (refine .inl ⟨_, cw, ?_⟩; conv => whnf) | (refine .inr ⟨[], 1, _, _, cb, ?_⟩; conv => whnf) | (refine ChC.r ?_; conv => whnf) | fail))
  refine ⟨[], [1, 2, 7, 9, 10, 11], [0, 1], 2, fun m t => ∃ (k : Nat) (x y : List Int), k + m = A.length ∧ Cpy A x ∧ Cpy A y ∧ (∀ i (h : i < A.length), k ≤ i → chAt x i = layB A[i] ∧ chAt y i = layB A[i]) ∧ (∀ i (h : i < A.length), chAt x i = layB A[i] ∨ chAt y i = layB A[i]) ∧
   t = ⟨[(1, .d (.v (.int .u64 z))), (2, .d (.seq (ws.map woC))), (7, .d (bsD F)), (9, .own 0), (10, .own 1), (11, .d (dI k))], [(0, .arr 5 (x.map byC)), (1, .arr 5 (y.map byC))], 2⟩, ?_, ?_⟩
  ·conv => whnf
   exact ⟨A.length, 0, F, F, by omega, hC0, hC0, fun i h _ => ⟨hcpy i h, hcpy i h⟩, fun i h => .inl (hcpy i h), rfl⟩
  ·rintro m _ ⟨k, x, y, hk, hx, hy, hfr, hcov, rfl⟩
   have e1 : IntKind.i64.wrap (40 * (k : Int)) = ((40 * k : Nat) : Int) := by rw [wS (by omega) (by omega)]; omega
   by_cases hkl : k < A.length
   ·have f1 : decide (IntKind.i64.wrap (40 * (k : Int)) < ((F.map byC).length : Int)) = true := decide_eq_true (by rw [e1, hmf]; omega)
    have step : ∀ w : Int, 0 ≤ w ∧ w < 65536 → ∃ (r d : Nat), r < 40 ∧ 1 ≤ d ∧ d ≤ 255 ∧ IntKind.i64.wrap (IntKind.i64.wrap (40 * (k : Int)) + w.tmod 40) = ((40 * k + r : Nat) : Int) ∧ IntKind.u8.wrap (1 + IntKind.u8.wrap ((IntKind.i64.wrap (w.tdiv 40)).tmod 255)) = (d : Int) := fun w hw => by
     refine ⟨w.toNat % 40, 1 + w.toNat / 40 % 255, by omega, by omega, by omega, ?_, ?_⟩
     ·rw [e1, Int.tmod_eq_emod_of_nonneg (by omega), wS (by omega) (by omega)]
      omega
     ·rw [Int.tdiv_eq_ediv_of_nonneg (by omega), wS (by omega) (by omega), Int.tmod_eq_emod_of_nonneg (by omega), u8w, u8w]
      omega
    have old : ∀ {q : List Int}, Cpy A q → ∀ {p : Nat}, p < 40 * A.length → 0 ≤ q.getD p 0 ∧ q.getD p 0 < 256 ∧ (q.map byC)[p]? = some (byC (q.getD p 0)) ∧ p < (q.map byC).length := fun {q} hq {p} hp => by
     have hl := hq.len
     have hp2 : p < q.length := by omega
     have e : q.getD p 0 = q[p] := by rw [List.getD_eq_getElem?_getD, List.getElem?_eq_getElem hp2]; rfl
     have := hq.by' _ (List.getElem_mem hp2)
     rw [e]
     exact ⟨this.1, this.2, by simp [hp2], by rw [List.length_map]; exact hp2⟩
    have next : ∀ {r d : Nat}, r < 40 → 1 ≤ d → d ≤ 255 → ∀ (q : List Int), Cpy A q → chAt q k = layB A[k] → Cpy A (q.set (40 * k + r) (IntKind.u8.wrap (q.getD (40 * k + r) 0 + (d : Int)))) ∧ (∀ i, i ≠ k → chAt (q.set (40 * k + r) (IntKind.u8.wrap (q.getD (40 * k + r) 0 + (d : Int)))) i = chAt q i) := fun {r d} hr hd1 hd2 q hq he => by
     obtain ⟨o1, o2, _, _⟩ := old hq (p := 40 * k + r) (by omega)
     refine ⟨hq.set hok hkl hr he (by rw [u8w]; omega) (by rw [u8w]; omega), fun i hi => ?_⟩
     rw [chAt_set q k r i hr, if_neg hi]
    obtain ⟨hxk, hyk⟩ := hfr k hkl (Nat.le_refl _)
    by_cases hw0 : 0 < ws.length
    ·have f2 : decide (((ws.map woC).length : Int) > 0) = true := decide_eq_true (by rw [hmw]; omega)
     have hkm : k % ws.length < ws.length := Nat.mod_lt _ hw0
     have e2 : (k : Int).tmod ((ws.map woC).length : Int) = ((k % ws.length : Nat) : Int) := by rw [hmw, Int.tmod_eq_emod_of_nonneg (by omega), Int.natCast_emod]
     have hwr := hws _ (List.getElem_mem hkm)
     have hwg := getwo ws _ hkm
     generalize ws[k % ws.length] = w0 at hwr hwg
     have ew : IntKind.i64.wrap w0 = w0 := wS (by omega) (by omega)
     obtain ⟨r, d, hr, hd1, hd2, eP, eB⟩ := step (IntKind.i64.wrap w0) (by rw [ew]; exact hwr)
     obtain ⟨_, _, hgx, hlx⟩ := old hx (p := 40 * k + r) (by omega)
     obtain ⟨_, _, hgy, hly⟩ := old hy (p := 40 * k + r) (by omega)
     have es : ∀ q : List Int, (q.map byC).set (40 * k + r) (List.take 0 (byC (q.getD (40 * k + r) 0)) ++ byC (IntKind.u8.wrap (q.getD (40 * k + r) 0 + (d : Int))) ++ List.drop (0 + (byC (IntKind.u8.wrap (q.getD (40 * k + r) 0 + (d : Int)))).length) (byC (q.getD (40 * k + r) 0))) = (q.set (40 * k + r) (IntKind.u8.wrap (q.getD (40 * k + r) 0 + (d : Int)))).map byC := fun q => by
      show (q.map byC).set (40 * k + r) (byC (IntKind.u8.wrap (q.getD (40 * k + r) 0 + (d : Int)))) = _
      rw [List.map_set]
     conv => whnf
     (repeat' (first | (apply kT (by with_reducible first | rfl | assumption); conv => whnf) | (apply kF (by with_reducible first | rfl | assumption); conv => whnf) | (apply kT (by decide); conv => whnf) | (apply kF (by decide); conv => whnf) | (apply kB <;> intro _ <;> conv => whnf) | (refine ⟨by rw [hmw]; omega, ?_⟩; conv => whnf) | (refine ⟨k % ws.length, _, e2, hwg, rfl, ?_⟩; conv => whnf) | (refine ⟨by decide, ?_⟩; conv => whnf) | (refine ⟨u64p _, ?_⟩; conv => whnf) | (refine ⟨40 * k + r, eP, hlx, ?_⟩; conv => whnf) | (refine ⟨40 * k + r, eP, hly, ?_⟩; conv => whnf) | (refine ⟨_, hgx, ?_⟩; conv => whnf) | (refine ⟨_, hgy, ?_⟩; conv => whnf) | (refine ⟨_, rfl, ?_⟩; conv => whnf) | fail))
     ·rw [eB]
      (refine ⟨rfl, Nat.le_refl 1, _, es x, ?_⟩; conv => whnf)
      refine ⟨m - 1, by omega, k + 1, _, y, by omega, (next hr hd1 hd2 x hx hxk).1, hy, fun i h hi => ?_, fun i h => ?_, ?_⟩
      ·rw [(next hr hd1 hd2 x hx hxk).2 i (by omega)]; exact hfr i h (by omega)
      ·by_cases hik : i = k
       ·subst hik; exact .inr hyk
       ·rw [(next hr hd1 hd2 x hx hxk).2 i hik]; exact hcov i h
      ·rw [w1 k (by omega)]
     ·rw [eB]
      (refine ⟨rfl, Nat.le_refl 1, _, es y, ?_⟩; conv => whnf)
      refine ⟨m - 1, by omega, k + 1, x, _, by omega, hx, (next hr hd1 hd2 y hy hyk).1, fun i h hi => ?_, fun i h => ?_, ?_⟩
      ·rw [(next hr hd1 hd2 y hy hyk).2 i (by omega)]; exact hfr i h (by omega)
      ·by_cases hik : i = k
       ·subst hik; exact .inl hxk
       ·rw [(next hr hd1 hd2 y hy hyk).2 i hik]; exact hcov i h
      ·rw [w1 k (by omega)]
    ·have f2 : decide (((ws.map woC).length : Int) > 0) = false := decide_eq_false (by rw [hmw]; omega)
     obtain ⟨r, d, hr, hd1, hd2, eP, eB⟩ := step 17 (by omega)
     obtain ⟨_, _, hgx, hlx⟩ := old hx (p := 40 * k + r) (by omega)
     obtain ⟨_, _, hgy, hly⟩ := old hy (p := 40 * k + r) (by omega)
     have es : ∀ q : List Int, (q.map byC).set (40 * k + r) (List.take 0 (byC (q.getD (40 * k + r) 0)) ++ byC (IntKind.u8.wrap (q.getD (40 * k + r) 0 + (d : Int))) ++ List.drop (0 + (byC (IntKind.u8.wrap (q.getD (40 * k + r) 0 + (d : Int)))).length) (byC (q.getD (40 * k + r) 0))) = (q.set (40 * k + r) (IntKind.u8.wrap (q.getD (40 * k + r) 0 + (d : Int)))).map byC := fun q => by
      show (q.map byC).set (40 * k + r) (byC (IntKind.u8.wrap (q.getD (40 * k + r) 0 + (d : Int)))) = _
      rw [List.map_set]
     conv => whnf
     (repeat' (first | (apply kT (by with_reducible first | rfl | assumption); conv => whnf) | (apply kF (by with_reducible first | rfl | assumption); conv => whnf) | (apply kT (by decide); conv => whnf) | (apply kF (by decide); conv => whnf) | (apply kB <;> intro _ <;> conv => whnf) | (refine ⟨by decide, ?_⟩; conv => whnf) | (refine ⟨u64p _, ?_⟩; conv => whnf) | (refine ⟨40 * k + r, eP, hlx, ?_⟩; conv => whnf) | (refine ⟨40 * k + r, eP, hly, ?_⟩; conv => whnf) | (refine ⟨_, hgx, ?_⟩; conv => whnf) | (refine ⟨_, hgy, ?_⟩; conv => whnf) | (refine ⟨_, rfl, ?_⟩; conv => whnf) | fail))
     ·rw [eB]
      (refine ⟨rfl, Nat.le_refl 1, _, es x, ?_⟩; conv => whnf)
      refine ⟨m - 1, by omega, k + 1, _, y, by omega, (next hr hd1 hd2 x hx hxk).1, hy, fun i h hi => ?_, fun i h => ?_, ?_⟩
      ·rw [(next hr hd1 hd2 x hx hxk).2 i (by omega)]; exact hfr i h (by omega)
      ·by_cases hik : i = k
       ·subst hik; exact .inr hyk
       ·rw [(next hr hd1 hd2 x hx hxk).2 i hik]; exact hcov i h
      ·rw [w1 k (by omega)]
     ·rw [eB]
      (refine ⟨rfl, Nat.le_refl 1, _, es y, ?_⟩; conv => whnf)
      refine ⟨m - 1, by omega, k + 1, x, _, by omega, hx, (next hr hd1 hd2 y hy hyk).1, fun i h hi => ?_, fun i h => ?_, ?_⟩
      ·rw [(next hr hd1 hd2 y hy hyk).2 i (by omega)]; exact hfr i h (by omega)
      ·by_cases hik : i = k
       ·subst hik; exact .inl hxk
       ·rw [(next hr hd1 hd2 y hy hyk).2 i hik]; exact hcov i h
      ·rw [w1 k (by omega)]
   ·have f1 : decide (IntKind.i64.wrap (40 * (k : Int)) < ((F.map byC).length : Int)) = false := decide_eq_false (by rw [e1, hmf]; omega)
    conv => whnf
    (apply kF (f1); conv => whnf)
    have hall : ∀ i (h : i < A.length), chAt x i = layB A[i] ∨ chAt y i = layB A[i] := hcov
    have cm1 := Mend_as (fs := [x, y]) (by simp) (fun f hf => by
     rcases List.mem_cons.1 hf with hf | hf
     ·rw [hf]; exact hx.by'
     ·rw [List.mem_singleton.1 hf]; exact hy.by') (hmend (by simp) (fun f hf => by
     rcases List.mem_cons.1 hf with hf | hf
     ·rw [hf]; exact .inr hx
     ·rw [List.mem_singleton.1 hf]; exact .inr hy) (fun i hi => by
     rcases hall i hi with h | h
     ·exact ⟨x, by simp, hx, h⟩
     ·exact ⟨y, by simp, hy, h⟩))
    (refine .l ?_; conv => whnf)
    have cm2 := Mend_as (fs := [y, [], x, x]) (by simp) (fun f hf => by
     simp only [List.mem_cons, List.not_mem_nil, or_false] at hf
     rcases hf with hf | hf | hf | hf <;> rw [hf] <;> first | exact hy.by' | exact hx.by' | exact .nil) (hmend (by simp) (fun f hf => by
     simp only [List.mem_cons, List.not_mem_nil, or_false] at hf
     rcases hf with hf | hf | hf | hf <;> rw [hf] <;> first | exact .inr hy | exact .inr hx | exact .inl rfl) (fun i hi => by
     rcases hall i hi with h | h
     ·exact ⟨x, by simp, hx, h⟩
     ·exact ⟨y, by simp, hy, h⟩))
    have cm3 : Pure Try.prog 37 [.seq [[bsD y], [.v (.slice none 0 0)], [bsD x], [bsD x]]] (.tup [bsD F, dI 0]) := pure_weak cm2 fun I h vs hr => rows_nil hr
    (repeat' (first | (apply kT (by with_reducible first | rfl | assumption); conv => whnf) | (apply kF (by with_reducible first | rfl | assumption); conv => whnf) | (apply kT (by decide); conv => whnf) | (apply kF (by decide); conv => whnf) | (apply kB <;> intro _ <;> conv => whnf) | (refine ChC.r ?_; conv => whnf) | (refine .inl ⟨_, cm1, ?_⟩; conv => whnf) | (refine .inl ⟨_, cm3, ?_⟩; conv => whnf) | (refine ChL.l ?_; conv => whnf) | (refine .inl ⟨_, awake_pure, ?_⟩; conv => whnf) | (refine ⟨strB F, strB_bytes hfb, ?_⟩; conv => whnf) | (refine ⟨true, beq_self_eq_true _, ?_⟩; conv => whnf) | fail))
    rfl
end Go.Ev.Ytljkplahkokpaaa

set_option linter.unusedVariables false
set_option linter.unusedSimpArgs false
namespace Go.Ev.Ytljkplahkokpaaa
open Go.Proofs
theorem map_of {α β : Type} {f : α → β} {q : α → Prop} : ∀ {es : List β}, (∀ el ∈ es, ∃ x, el = f x ∧ q x) → ∃ l : List α, es = l.map f ∧ ∀ x ∈ l, q x
 | [], _ => ⟨[], rfl, fun x hx => by cases hx⟩
 | e :: es, h => by
  obtain ⟨x, rfl, hq⟩ := h e (by simp)
  obtain ⟨l, rfl, hl⟩ := map_of (es := es) fun el he => h el (by simp [he])
  exact ⟨x :: l, rfl, fun y hy => by
   rcases List.mem_cons.1 hy with rfl | hy
   ·exact hq
   ·exact hl y hy⟩
theorem okV_shs {d : D} (h : OkV tb 6 33 d) : ∃ l : List Sh, d = shsD l := by
 obtain ⟨y, ds, hy, hd, rfl⟩ := h
 cases hy
 obtain ⟨es, rfl, hlen, hel⟩ := hd
 obtain ⟨l, rfl, hl⟩ := map_of (f := shC) (q := fun _ => True) (es := es) fun el he => by
  obtain ⟨b1, s1, rfl, ⟨j1, rfl, v1⟩, b2, s2, rfl, ⟨qs, rfl, ql, qel⟩, rfl⟩ := hel el he
  obtain ⟨ps, rfl, _⟩ := map_of (f := ptD) (q := fun _ => True) (es := qs) fun el he => by
   obtain ⟨c1, t1, rfl, ⟨i1, rfl, u1⟩, c2, t2, rfl, ⟨i2, rfl, u2⟩, rfl⟩ := qel el he
   exact ⟨⟨i1, i2⟩, rfl, trivial⟩
  exact ⟨⟨j1, ps⟩, rfl, trivial⟩
 exact ⟨l, rfl⟩
theorem okV_sh {d : D} (h : OkV tb 6 38 d) : ∃ s : Sh, d = .agg (shC s) := by
 obtain ⟨y, ds, hy, hd, rfl⟩ := h
 cases hy
 obtain ⟨b1, s1, rfl, ⟨j1, rfl, v1⟩, b2, s2, rfl, ⟨qs, rfl, ql, qel⟩, rfl⟩ := hd
 obtain ⟨ps, rfl, _⟩ := map_of (f := ptD) (q := fun _ => True) (es := qs) fun el he => by
  obtain ⟨c1, t1, rfl, ⟨i1, rfl, u1⟩, c2, t2, rfl, ⟨i2, rfl, u2⟩, rfl⟩ := qel el he
  exact ⟨⟨i1, i2⟩, rfl, trivial⟩
 exact ⟨⟨j1, ps⟩, rfl⟩
theorem byte_of {n : Int} (h : (Lit.int .u8 n).wf = true) : 0 ≤ n ∧ n < 256 := by
 have h : IntKind.u8.min ≤ n ∧ n ≤ IntKind.u8.max := by simpa [Lit.wf] using h
 have h1 : IntKind.u8.min = 0 := rfl
 have h2 : IntKind.u8.max = 255 := rfl
 omega
theorem okV_bs {d : D} (h : OkV tb 6 22 d) : ∃ l : List Int, d = bsD l ∧ By l := by
 obtain ⟨y, ds, hy, hd, rfl⟩ := h
 cases hy
 obtain ⟨es, rfl, hlen, hel⟩ := hd
 obtain ⟨l, rfl, hl⟩ := map_of (f := byC) (q := fun n => 0 ≤ n ∧ n < 256) (es := es) fun el he => by
  obtain ⟨i, rfl, hw⟩ := hel el he
  exact ⟨i, rfl, byte_of hw⟩
 exact ⟨l, rfl, hl⟩
theorem law_own : ownKnob Try.prog.godebug = none := by kernel_rfl
theorem law_laid : laidOutB Try.prog = true := by kernel_rfl
end Go.Ev.Ytljkplahkokpaaa

set_option linter.unusedVariables false
set_option linter.unusedSimpArgs false
namespace Go.Ev.Ytljkplahkokpaaa
open Go.Proofs
theorem okV_int {d : D} (h : OkV tb 6 3 d) : ∃ i, d = dI i := by
 obtain ⟨y, ds, hy, hd, rfl⟩ := h
 cases hy
 obtain ⟨i, rfl, hw⟩ := hd
 exact ⟨i, rfl⟩
theorem okV_u8 {d : D} (h : OkV tb 6 5 d) : ∃ i, d = bD i ∧ 0 ≤ i ∧ i < 256 := by
 obtain ⟨y, ds, hy, hd, rfl⟩ := h
 cases hy
 obtain ⟨i, rfl, hw⟩ := hd
 exact ⟨i, rfl, byte_of hw⟩
theorem word_of {n : Int} (h : (Lit.int .u16 n).wf = true) : 0 ≤ n ∧ n < 65536 := by
 have h : IntKind.u16.min ≤ n ∧ n ≤ IntKind.u16.max := by simpa [Lit.wf] using h
 have h1 : IntKind.u16.min = 0 := rfl
 have h2 : IntKind.u16.max = 65535 := rfl
 omega
theorem okV_u16 {d : D} (h : OkV tb 6 58 d) : ∃ i, d = .v (.int .u16 i) ∧ 0 ≤ i ∧ i < 65536 := by
 obtain ⟨y, ds, hy, hd, rfl⟩ := h
 cases hy
 obtain ⟨i, rfl, hw⟩ := hd
 exact ⟨i, rfl, word_of hw⟩
theorem okV_bss {d : D} (h : OkV tb 6 45 d) : ∃ l : List (List Int), d = .seq (l.map fun b => [bsD b]) ∧ ∀ b ∈ l, By b := by
 obtain ⟨y, ds, hy, hd, rfl⟩ := h
 cases hy
 obtain ⟨es, rfl, hlen, hel⟩ := hd
 obtain ⟨l, rfl, hl⟩ := map_of (f := fun b : List Int => [bsD b]) (q := By) (es := es) fun el he => by
  obtain ⟨qs, rfl, ql, qel⟩ := hel el he
  obtain ⟨l, rfl, hl⟩ := map_of (f := byC) (q := fun n => 0 ≤ n ∧ n < 256) (es := qs) fun el he => by
   obtain ⟨i, rfl, hw⟩ := qel el he
   exact ⟨i, rfl, byte_of hw⟩
  exact ⟨l, rfl, hl⟩
 exact ⟨l, rfl, hl⟩
theorem long_of {n : Int} (h : (Lit.int .u64 n).wf = true) : 0 ≤ n := by
 have h : IntKind.u64.min ≤ n ∧ n ≤ IntKind.u64.max := by simpa [Lit.wf] using h
 have h1 : IntKind.u64.min = 0 := rfl
 omega
theorem okV_u64 {d : D} (h : OkV tb 6 80 d) : ∃ i, d = .v (.int .u64 i) ∧ 0 ≤ i := by
 obtain ⟨y, ds, hy, hd, rfl⟩ := h
 cases hy
 obtain ⟨i, rfl, hw⟩ := hd
 exact ⟨i, rfl, long_of hw⟩
theorem okV_words {d : D} (h : OkV tb 6 81 d) : ∃ l : List Int, d = .seq (l.map fun w => [.v (.int .u16 w)]) ∧ l.length ≤ 9223372036854775807 ∧ ∀ w ∈ l, 0 ≤ w ∧ w < 65536 := by
 obtain ⟨y, ds, hy, hd, rfl⟩ := h
 cases hy
 obtain ⟨es, rfl, hlen, hel⟩ := hd
 obtain ⟨l, rfl, hl⟩ := map_of (f := fun w : Int => [.v (.int .u16 w)]) (q := fun n => 0 ≤ n ∧ n < 65536) (es := es) fun el he => by
  obtain ⟨i, rfl, hw⟩ := hel el he
  exact ⟨i, rfl, word_of hw⟩
 exact ⟨l, rfl, by simpa [maxLen] using hlen, hl⟩
end Go.Ev.Ytljkplahkokpaaa
