/-
  Contracts of functions, and plain laws, that lead to the statement. Written by an agent.
-/
import Derived.Test.YtljkplahkokpaaaRows
import Derived.Test.YtljkplahkokpaaaLa
set_option linter.unusedVariables false
set_option linter.unusedSimpArgs false
set_option linter.unusedVariables false
set_option linter.unusedSimpArgs false
set_option maxRecDepth 100000
namespace Go.Ev.Ytljkplahkokpaaa
open Go.Proofs
attribute [local irreducible] Pure Bor Iter Pan layB layF readR readD findC addC addK addL chAt sortC goG numG openL
def sameL (a b : Cd) : Bool := decide (a.ps.length = b.ps.length)
theorem sameL_pure (a b : Cd) : Pure Try.prog 71 [.agg (cdC a), .agg (cdC b)] (dB (sameL a b)) := by
 have e : sameL a b = (((a.ps.map ptD).length : Int) == ((b.ps.map ptD).length : Int)) := by
  rw [List.length_map, List.length_map, sameL]
  by_cases h : a.ps.length = b.ps.length
  ·rw [h]; simp
  ·rw [decide_eq_false h]; symm; rw [beq_eq_false_iff_ne]; omega
 rw [e]
 refine pure_of pg Try.func71 (by kernel_rfl) ?_
 conv => whnf
 (repeat' (first | (apply kT (by with_reducible first | rfl | assumption); conv => whnf) | (apply kF (by with_reducible first | rfl | assumption); conv => whnf) | (apply kT (by decide); conv => whnf) | (apply kF (by decide); conv => whnf) | (apply kB <;> intro _ <;> conv => whnf) | fail))
 rfl
def alikeL : List Cd → List Cd → Bool
 | [], [] => true
 | a :: l, b :: r => sameL a b && alikeL l r
 | _, _ => false
theorem alikeL_iff : ∀ {a b : List Cd}, alikeL a b = true ↔ a.length = b.length ∧ ∀ i (h : i < a.length) (h2 : i < b.length), sameL a[i] b[i] = true
 | [], [] => by simp [alikeL]
 | [], b :: r => by simp [alikeL]
 | a :: l, [] => by simp [alikeL]
 | a :: l, b :: r => by
  rw [alikeL, Bool.and_eq_true, alikeL_iff (a := l) (b := r)]
  constructor
  ·rintro ⟨h1, h2, h3⟩
   refine ⟨by simp [h2], fun i hi hi2 => ?_⟩
   cases i with
   | zero => exact h1
   | succ i => exact h3 i (by simpa using hi) (by simpa using hi2)
  ·rintro ⟨h1, h2⟩
   exact ⟨h2 0 (by simp) (by simp), by simpa using h1, fun i hi hi2 => h2 (i + 1) (by simpa using hi) (by simpa using hi2)⟩
theorem alikeL_false {a b : List Cd} {i : Nat} (h : i < a.length) (h2 : i < b.length) (hf : sameL a[i] b[i] = false) : alikeL a b = false := by
 cases e : alikeL a b with
 | false => rfl
 | true => have := (alikeL_iff.1 e).2 i h h2; rw [hf] at this; cases this
attribute [local irreducible] sameL
theorem equal_pure (a b : List Cd) (ha : a.length ≤ 100000) (hb : b.length ≤ 100000) : Pure Try.prog 70 [.seq (a.map cdC), .seq (b.map cdC), .fn (.func 71) [] []] (dB (alikeL a b)) := by
 have hma : ((a.map cdC).length : Int) = a.length := by rw [List.length_map]
 have hmb : ((b.map cdC).length : Int) = b.length := by rw [List.length_map]
 refine pure_of pg Try.func70 (by kernel_rfl) ?_
 by_cases hl : a.length = b.length
 ·have f1 : (((a.map cdC).length : Int) != ((b.map cdC).length : Int)) = false := by rw [hma, hmb, hl]; simp
  conv => whnf
  (repeat' (first | (apply kT (by with_reducible first | rfl | assumption); conv => whnf) | (apply kF (by with_reducible first | rfl | assumption); conv => whnf) | (apply kT (by decide); conv => whnf) | (apply kF (by decide); conv => whnf) | (apply kB <;> intro _ <;> conv => whnf) | fail))
  refine ⟨[], [1, 2, 15, 16, 17], [], 0, fun m s => ∃ k : Nat, k + m = a.length ∧ (∀ i (h : i < k) (h1 : i < a.length) (h2 : i < b.length), sameL a[i] b[i] = true) ∧ s = ⟨[(1, .d (.seq (b.map cdC))), (2, .d (.fn (.func 71) [] [])), (15, .d (.seq (a.map cdC))), (16, .d (dI (a.map cdC).length)), (17, .d (dI k))], [], 0⟩, ?_, ?_⟩
  ·conv => whnf
   exact ⟨a.length, 0, by omega, fun i h => by omega, rfl⟩
  ·rintro m _ ⟨k, hk, hall, rfl⟩
   by_cases hkl : k < a.length
   ·have f2 : decide ((k : Int) < ((a.map cdC).length : Int)) = true := decide_eq_true (by rw [hma]; omega)
    cases hs : sameL a[k] b[k] with
    | true =>
     have cs := sameL_pure a[k] b[k]
     rw [hs] at cs
     conv => whnf
     (repeat' (first | (apply kT (by with_reducible first | rfl | assumption); conv => whnf) | (apply kF (by with_reducible first | rfl | assumption); conv => whnf) | (apply kT (by decide); conv => whnf) | (apply kF (by decide); conv => whnf) | (apply kB <;> intro _ <;> conv => whnf) | (refine ⟨k, _, rfl, getcd a k hkl, rfl, ?_⟩; conv => whnf) | (refine ⟨k, _, rfl, getcd b k (by omega), rfl, ?_⟩; conv => whnf) | (refine .inl ⟨_, cs, ?_⟩; conv => whnf) | fail))
     refine ⟨m - 1, by omega, k + 1, by omega, fun i hi h1 h2 => ?_, ?_⟩
     ·by_cases h : i < k
      ·exact hall i h h1 h2
      ·have : i = k := by omega
       subst this
       exact hs
     ·rw [w1 k (by omega)]
    | false =>
     have cs := sameL_pure a[k] b[k]
     rw [hs] at cs
     rw [alikeL_false hkl (by omega) hs]
     conv => whnf
     (repeat' (first | (apply kT (by with_reducible first | rfl | assumption); conv => whnf) | (apply kF (by with_reducible first | rfl | assumption); conv => whnf) | (apply kT (by decide); conv => whnf) | (apply kF (by decide); conv => whnf) | (apply kB <;> intro _ <;> conv => whnf) | (refine ⟨k, _, rfl, getcd a k hkl, rfl, ?_⟩; conv => whnf) | (refine ⟨k, _, rfl, getcd b k (by omega), rfl, ?_⟩; conv => whnf) | (refine .inl ⟨_, cs, ?_⟩; conv => whnf) | fail))
     rfl
   ·have f2 : decide ((k : Int) < ((a.map cdC).length : Int)) = false := decide_eq_false (by rw [hma]; omega)
    have e : alikeL a b = true := alikeL_iff.2 ⟨hl, fun i h1 h2 => hall i (by omega) h1 h2⟩
    rw [e]
    conv => whnf
    (apply kF (f2); conv => whnf)
    rfl
 ·have f1 : (((a.map cdC).length : Int) != ((b.map cdC).length : Int)) = true := by rw [hma, hmb, bne_iff_ne]; omega
  have e : alikeL a b = false := by
   cases e : alikeL a b with
   | false => rfl
   | true => exact absurd (alikeL_iff.1 e).1 hl
  rw [e]
  conv => whnf
  (apply kT (f1); conv => whnf)
  rfl
def ptsOf (g : List Cd) : List Pt := (g.map Cd.ps).flatten
def wholeL (g : List Cd) : Sh × Bool := match g with
 | [] => (⟨0, []⟩, false)
 | h :: t => (⟨h.n, ptsOf (h :: t)⟩, decide (((h :: t).length : Int) = h.m) && (checkI [⟨h.n, ptsOf (h :: t)⟩] == 0) && (decide ((cardsL ⟨h.n, ptsOf (h :: t)⟩).length = (h :: t).length) && alikeL (cardsL ⟨h.n, ptsOf (h :: t)⟩) (h :: t)))
theorem ptsOf_len {g : List Cd} (h : ∀ c ∈ g, CdOK c) : (ptsOf g).length ≤ g.length * 15 := by
 induction g with
 | nil => simp [ptsOf]
 | cons c r ih =>
  have h1 := (h c (by simp)).many
  have h2 := ih fun d hd => h d (by simp [hd])
  unfold ptsOf at *
  rw [List.map_cons, List.flatten_cons, List.length_append, List.length_cons]
  omega
theorem ptsOf_take (g : List Cd) {k : Nat} (h : k < g.length) : ptsOf (g.take (k + 1)) = ptsOf (g.take k) ++ g[k].ps := by
 unfold ptsOf
 rw [List.take_add_one, List.getElem?_eq_getElem h, List.map_append, List.flatten_append]
 simp
attribute [local irreducible] cardsL checkI alikeL
theorem whole_pure (h : Cd) (t : List Cd) (hg : ∀ c ∈ h :: t, CdOK c) (hl : t.length ≤ 5000) : Pure Try.prog 52 [.seq ((h :: t).map cdC)] (.tup [.agg (shC (wholeL (h :: t)).1), dB (wholeL (h :: t)).2]) := by
 obtain ⟨g, hgd⟩ : ∃ g, g = h :: t := ⟨_, rfl⟩
 have hg0 : 0 < g.length := by rw [hgd]; simp
 have hgl : g.length ≤ 5001 := by rw [hgd]; simp; omega
 have hgh : (g.map cdC)[0]? = some (cdC h) := by rw [hgd]; rfl
 have hw : wholeL (h :: t) = (⟨h.n, ptsOf g⟩, decide ((g.length : Int) = h.m) && (checkI [⟨h.n, ptsOf g⟩] == 0) && (decide ((cardsL ⟨h.n, ptsOf g⟩).length = g.length) && alikeL (cardsL ⟨h.n, ptsOf g⟩) g)) := by rw [hgd]; rfl
 rw [hw, ← hgd]
 rw [← hgd] at hg
 clear hw
 have hm : ((g.map cdC).length : Int) = g.length := by rw [List.length_map]
 have hpl := ptsOf_len hg
 refine pure_of pg Try.func52 (by kernel_rfl) ?_
 conv => whnf
 (refine ⟨0, _, rfl, hgh, rfl, ?_⟩; conv => whnf)
 refine ⟨[.cown 1 1 74], [0, 2, 3, 4, 13, 14, 15], [0, 1, 2], 3, fun m s => ∃ k : Nat, k + m = g.length ∧ s = ⟨[(0, .d (.seq (g.map cdC))), (2, .ref 0 0), (3, .d (dB false)), (4, .ref 1 0), (13, .d (.seq (g.map cdC))), (14, .d (dI (g.map cdC).length)), (15, .d (dI k))],
  [(0, .var false 50 [.d (dI 0), .d (.v (.slice none 0 0))]), (1, .var false 50 [.d (dI h.n), .own 2]), (2, .arr 74 ((ptsOf (g.take k)).map ptD))], 3⟩, ?_, ?_⟩
 ·conv => whnf
  exact ⟨g.length, 0, by omega, rfl⟩
 ·rintro m _ ⟨k, hk, rfl⟩
  by_cases hkl : k < g.length
  ·have f1 : decide ((k : Int) < ((g.map cdC).length : Int)) = true := decide_eq_true (by rw [hm]; omega)
   have hpt := ptsOf_take g hkl
   have hptl : (ptsOf (g.take (k + 1))).length ≤ (g.take (k + 1)).length * 15 := ptsOf_len fun c hc => hg c (List.mem_of_mem_take hc)
   rw [hpt, List.length_append, List.length_take] at hptl
   conv => whnf
   (repeat' (first | (apply kT (by with_reducible first | rfl | assumption); conv => whnf) | (apply kF (by with_reducible first | rfl | assumption); conv => whnf) | (apply kT (by decide); conv => whnf) | (apply kF (by decide); conv => whnf) | (apply kB <;> intro _ <;> conv => whnf) | (refine ⟨k, _, rfl, getcd g k hkl, rfl, ?_⟩; conv => whnf) | fail))
   (refine ⟨ptL _, by rw [List.length_map, List.length_map]; show _ * 16 ≤ _; omega, ?_⟩; conv => whnf)
   refine ⟨m - 1, by omega, k + 1, by omega, ?_⟩
   rw [w1 k (by omega), hpt, List.map_append]
  ·have f1 : decide ((k : Int) < ((g.map cdC).length : Int)) = false := decide_eq_false (by rw [hm]; omega)
   have hkg : g.take k = g := List.take_of_length_le (by omega)
   rw [hkg]
   by_cases hmm : (g.length : Int) = h.m
   ·have f2 : (((g.map cdC).length : Int) != h.m) = false := by rw [hm, hmm]; simp
    have ck := check_pure [⟨h.n, ptsOf g⟩] (by simp) (by simp; omega)
    rw [decide_eq_true hmm, Bool.true_and]
    by_cases hc0 : checkI [⟨h.n, ptsOf g⟩] = 0
    ·have f3 : (checkI [⟨h.n, ptsOf g⟩] != 0) = false := by simp [hc0]
     have f3' : (checkI [⟨h.n, ptsOf g⟩] == 0) = true := by simp [hc0]
     rw [f3', Bool.true_and]
     have h1 := (checkI_ok.1 hc0).2 _ (List.mem_singleton.2 rfl)
     have hr := (runB_ok.1 (shB_ok.1 h1.2).2.2).2.2
     have cc := cards_pure ⟨h.n, ptsOf g⟩ (by dsimp only; omega) hr
     have hcl := (cardsL_ok hr).2
     dsimp only at hcl
     have ce := equal_pure (cardsL ⟨h.n, ptsOf g⟩) g (by omega) (by omega)
     have hmc : (((cardsL ⟨h.n, ptsOf g⟩).map cdC).length : Int) = (cardsL ⟨h.n, ptsOf g⟩).length := by rw [List.length_map]
     by_cases hln : (cardsL ⟨h.n, ptsOf g⟩).length = g.length
     ·have f4 : ((((cardsL ⟨h.n, ptsOf g⟩).map cdC).length : Int) == ((g.map cdC).length : Int)) = true := by rw [hmc, hm, hln]; simp
      rw [decide_eq_true hln, Bool.true_and]
      conv => whnf
      (repeat' (first | (apply kT (by with_reducible first | rfl | assumption); conv => whnf) | (apply kF (by with_reducible first | rfl | assumption); conv => whnf) | (apply kT (by decide); conv => whnf) | (apply kF (by decide); conv => whnf) | (apply kB <;> intro _ <;> conv => whnf) | (refine ⟨0, _, rfl, hgh, rfl, ?_⟩; conv => whnf) | fail))
      (refine .l ?_; conv => whnf)
      (repeat' (first | (apply kT (by with_reducible first | rfl | assumption); conv => whnf) | (apply kF (by with_reducible first | rfl | assumption); conv => whnf) | (apply kT (by decide); conv => whnf) | (apply kF (by decide); conv => whnf) | (apply kB <;> intro _ <;> conv => whnf) | (refine .inl ⟨_, ck, ?_⟩; conv => whnf) | (refine .inl ⟨_, cc, ?_⟩; conv => whnf) | (refine .inl ⟨_, ce, ?_⟩; conv => whnf) | fail))
      rfl
     ·have f4 : ((((cardsL ⟨h.n, ptsOf g⟩).map cdC).length : Int) == ((g.map cdC).length : Int)) = false := by rw [hmc, hm, beq_eq_false_iff_ne]; omega
      rw [decide_eq_false hln, Bool.false_and]
      conv => whnf
      (repeat' (first | (apply kT (by with_reducible first | rfl | assumption); conv => whnf) | (apply kF (by with_reducible first | rfl | assumption); conv => whnf) | (apply kT (by decide); conv => whnf) | (apply kF (by decide); conv => whnf) | (apply kB <;> intro _ <;> conv => whnf) | (refine ⟨0, _, rfl, hgh, rfl, ?_⟩; conv => whnf) | fail))
      (refine .l ?_; conv => whnf)
      (repeat' (first | (apply kT (by with_reducible first | rfl | assumption); conv => whnf) | (apply kF (by with_reducible first | rfl | assumption); conv => whnf) | (apply kT (by decide); conv => whnf) | (apply kF (by decide); conv => whnf) | (apply kB <;> intro _ <;> conv => whnf) | (refine .inl ⟨_, ck, ?_⟩; conv => whnf) | (refine .inl ⟨_, cc, ?_⟩; conv => whnf) | fail))
      rfl
    ·have f3 : (checkI [⟨h.n, ptsOf g⟩] != 0) = true := by simpa using hc0
     have f3' : (checkI [⟨h.n, ptsOf g⟩] == 0) = false := by simpa using hc0
     rw [f3', Bool.false_and]
     conv => whnf
     (repeat' (first | (apply kT (by with_reducible first | rfl | assumption); conv => whnf) | (apply kF (by with_reducible first | rfl | assumption); conv => whnf) | (apply kT (by decide); conv => whnf) | (apply kF (by decide); conv => whnf) | (apply kB <;> intro _ <;> conv => whnf) | (refine ⟨0, _, rfl, hgh, rfl, ?_⟩; conv => whnf) | fail))
     (refine .l ?_; conv => whnf)
     (repeat' (first | (apply kT (by with_reducible first | rfl | assumption); conv => whnf) | (apply kF (by with_reducible first | rfl | assumption); conv => whnf) | (apply kT (by decide); conv => whnf) | (apply kF (by decide); conv => whnf) | (apply kB <;> intro _ <;> conv => whnf) | (refine .inl ⟨_, ck, ?_⟩; conv => whnf) | fail))
     rfl
   ·have f2 : (((g.map cdC).length : Int) != h.m) = true := by rw [hm]; simpa using hmm
    rw [decide_eq_false hmm, Bool.false_and, Bool.false_and]
    conv => whnf
    (repeat' (first | (apply kT (by with_reducible first | rfl | assumption); conv => whnf) | (apply kF (by with_reducible first | rfl | assumption); conv => whnf) | (apply kT (by decide); conv => whnf) | (apply kF (by decide); conv => whnf) | (apply kB <;> intro _ <;> conv => whnf) | (refine ⟨0, _, rfl, hgh, rfl, ?_⟩; conv => whnf) | fail))
    rfl
theorem whole_pure' (g : List Cd) (hne : g ≠ []) (hg : ∀ c ∈ g, CdOK c) (hl : g.length ≤ 5000) : Pure Try.prog 52 [.seq (g.map cdC)] (.tup [.agg (shC (wholeL g).1), dB (wholeL g).2]) := by
 cases g with
 | nil => exact absurd rfl hne
 | cons h t => exact whole_pure h t hg (by simp at hl; omega)
def readG : List (List Cd) → List Sh
 | [] => []
 | g :: r => bif (wholeL g).2 then (wholeL g).1 :: readG r else readG r
def ReadL (l : List Int) : List Sh × Int × Int := (readG (openL l).1, (openL l).2.1, (openL l).2.2)
theorem readG_append : ∀ (a b : List (List Cd)), readG (a ++ b) = readG a ++ readG b
 | [], b => rfl
 | g :: a, b => by
  rw [List.cons_append, readG, readG, readG_append a b]
  cases (wholeL g).2 <;> rfl
theorem readG_len : ∀ (a : List (List Cd)), (readG a).length ≤ a.length
 | [] => Nat.le_refl _
 | g :: a => by
  have := readG_len a
  rw [readG]
  cases (wholeL g).2 with
  | true => rw [cond_true, List.length_cons, List.length_cons]; omega
  | false => rw [cond_false, List.length_cons]; omega
def GsOK (G : List (List Cd)) : Prop := G.length ≤ 5000 ∧ ∀ g ∈ G, g ≠ [] ∧ g.length ≤ 5000 ∧ ∀ c ∈ g, CdOK c
attribute [local irreducible] wholeL
theorem getgp (G : List (List Cd)) (k : Nat) (h : k < G.length) : (G.map fun g => [gpD g])[k]? = some [gpD G[k]] := by simp [h]
theorem openL_err {l : List Int} (h : (openL l).2.2 ≠ 0) : (openL l).1 = [] ∧ (openL l).2.1 = 0 := by
 unfold openL at *
 split
 ·exact ⟨rfl, rfl⟩
 ·rename_i h8
  rw [if_neg h8] at h
  cases hc : (numG (addL tr0 l).tw (sortC (addL tr0 l).es)).2 with
  | true => exact ⟨rfl, rfl⟩
  | false => rw [hc] at h; exact absurd rfl h
theorem Read_pure (l : List Int) (hl : l.length ≤ 100000) (hb : By l) (hG : GsOK (openL l).1) : Pure Try.prog 17 [bsD l] (.tup [shsD (ReadL l).1, dI (ReadL l).2.1, dI (ReadL l).2.2]) := by
 have co := open_pure l hl hb
 have hE := openL_err (l := l)
 unfold ReadL
 generalize openL l = r at *
 obtain ⟨G, sp, e⟩ := r
 dsimp only at *
 have co : Pure Try.prog 51 [bsD l] (.tup [gpsD G, dI sp, dI e]) := co
 have hm : ((G.map fun g => [gpD g]).length : Int) = G.length := by rw [List.length_map]
 obtain ⟨hG1, hG2⟩ := hG
 refine pure_of pg Try.func17 (by kernel_rfl) ?_
 by_cases he : e = 0
 ·have f1 : (e != 0) = false := by simp [he]
  conv => whnf
  (refine .inl ⟨_, co, ?_⟩; conv => whnf)
  (apply kF (f1); conv => whnf)
  refine ⟨[.own 2 50], [2, 3, 19, 20, 21], [0], 1, fun m s => ∃ k : Nat, k + m = G.length ∧ s = ⟨[(2, .own 0), (3, .d (dI sp)), (19, .d (gpsD G)), (20, .d (dI (G.map fun g => [gpD g]).length)), (21, .d (dI k))], [(0, .arr 50 ((readG (G.take k)).map shC))], 1⟩, ?_, ?_⟩
  ·conv => whnf
   exact ⟨G.length, 0, by omega, rfl⟩
  ·rintro m _ ⟨k, hk, rfl⟩
   by_cases hkl : k < G.length
   ·have f2 : decide ((k : Int) < ((G.map fun g => [gpD g]).length : Int)) = true := decide_eq_true (by rw [hm]; omega)
    have hgk := hG2 _ (List.getElem_mem hkl)
    have cw := whole_pure' G[k] hgk.1 hgk.2.2 hgk.2.1
    have hrt : readG (G.take (k + 1)) = readG (G.take k) ++ bif (wholeL G[k]).2 then [(wholeL G[k]).1] else [] := by
     rw [List.take_add_one, List.getElem?_eq_getElem hkl, readG_append]
     congr 1
    have hrl := readG_len (G.take k)
    rw [List.length_take] at hrl
    cases hw : (wholeL G[k]).2 with
    | true =>
     rw [hw] at cw
     conv => whnf
     (repeat' (first | (apply kT (by with_reducible first | rfl | assumption); conv => whnf) | (apply kF (by with_reducible first | rfl | assumption); conv => whnf) | (apply kT (by decide); conv => whnf) | (apply kF (by decide); conv => whnf) | (apply kB <;> intro _ <;> conv => whnf) | (refine ⟨k, _, rfl, getgp G k hkl, rfl, ?_⟩; conv => whnf) | (refine .inl ⟨_, cw, ?_⟩; conv => whnf) | fail))
     (refine .l ?_; conv => whnf)
     (refine ⟨fun el h => by rw [List.mem_singleton.1 h]; rfl, by rw [List.length_map]; show (_ + 1) * 32 ≤ _; omega, ?_⟩; conv => whnf)
     refine ⟨m - 1, by omega, k + 1, by omega, ?_⟩
     rw [w1 k (by omega), hrt, hw, cond_true, List.map_append]
     rfl
    | false =>
     rw [hw] at cw
     conv => whnf
     (repeat' (first | (apply kT (by with_reducible first | rfl | assumption); conv => whnf) | (apply kF (by with_reducible first | rfl | assumption); conv => whnf) | (apply kT (by decide); conv => whnf) | (apply kF (by decide); conv => whnf) | (apply kB <;> intro _ <;> conv => whnf) | (refine ⟨k, _, rfl, getgp G k hkl, rfl, ?_⟩; conv => whnf) | (refine .inl ⟨_, cw, ?_⟩; conv => whnf) | fail))
     refine ⟨m - 1, by omega, k + 1, by omega, ?_⟩
     rw [w1 k (by omega), hrt, hw, cond_false, List.append_nil]
   ·have f2 : decide ((k : Int) < ((G.map fun g => [gpD g]).length : Int)) = false := decide_eq_false (by rw [hm]; omega)
    rw [List.take_of_length_le (show G.length ≤ k by omega), he]
    conv => whnf
    (apply kF (f2); conv => whnf)
    rfl
 ·obtain ⟨q1, q2⟩ := hE he
  have f1 : (e != 0) = true := by simpa using he
  subst q1 q2
  conv => whnf
  (refine .inl ⟨_, co, ?_⟩; conv => whnf)
  (apply kT (f1); conv => whnf)
  rfl
theorem goG_flat : ∀ (r : List Cd) (done : List (List Cd)) (h : Cd) (t : List Cd) (tw : Bool), (goG done h t tw r).1.flatten = done.flatten ++ (h :: t) ++ r
 | [], done, h, t, tw => by rw [goG_nil]; simp
 | c :: r, done, h, t, tw => by
  by_cases hn : h.n = c.n
  ·rw [goG_same hn, goG_flat r]; simp
  ·rw [goG_new hn, goG_flat r]; simp
theorem goG_ne : ∀ (r : List Cd) (done : List (List Cd)) (h : Cd) (t : List Cd) (tw : Bool), ∀ g ∈ (goG done h t tw r).1, g ∈ done ∨ g ≠ []
 | [], done, h, t, tw => by
  rw [goG_nil]
  intro g hg
  rcases List.mem_append.1 hg with hg | hg
  ·exact .inl hg
  ·rw [List.mem_singleton.1 hg]; exact .inr (by simp)
 | c :: r, done, h, t, tw => by
  intro g hg
  by_cases hn : h.n = c.n
  ·rw [goG_same hn] at hg
   exact goG_ne r _ _ _ _ g hg
  ·rw [goG_new hn] at hg
   rcases goG_ne r _ _ _ _ g hg with hg | hg
   ·rcases List.mem_append.1 hg with hg | hg
    ·exact .inl hg
    ·rw [List.mem_singleton.1 hg]; exact .inr (by simp)
   ·exact .inr hg
theorem numG_flat (tw : Bool) (L : List Cd) : (numG tw L).1.flatten = L := by
 cases L with
 | nil => unfold numG; rfl
 | cons c r => unfold numG; rw [goG_flat]; simp
theorem numG_ne (tw : Bool) (L : List Cd) : ∀ g ∈ (numG tw L).1, g ≠ [] := by
 cases L with
 | nil => unfold numG; intro g hg; simp at hg
 | cons c r =>
  unfold numG
  intro g hg
  rcases goG_ne r _ _ _ _ g hg with hg | hg
  ·simp at hg
  ·exact hg
theorem flat_lens : ∀ {G : List (List Cd)}, (∀ g ∈ G, g ≠ []) → G.length ≤ G.flatten.length ∧ ∀ g ∈ G, g.length ≤ G.flatten.length
 | [], _ => ⟨Nat.le_refl _, fun g hg => by simp at hg⟩
 | x :: G, h => by
  obtain ⟨h1, h2⟩ := flat_lens (G := G) fun g hg => h g (by simp [hg])
  have hx : 0 < x.length := List.length_pos_iff.2 (h x (by simp))
  rw [List.flatten_cons, List.length_append, List.length_cons]
  refine ⟨by omega, fun g hg => ?_⟩
  rcases List.mem_cons.1 hg with rfl | hg
  ·omega
  ·have := h2 g hg; omega
theorem openL_gs {l : List Int} (hl : l.length ≤ 100000) (hb : By l) : GsOK (openL l).1 := by
 have hok := addL_ok tr0_ok hb
 have hlen := addL_len tr0 l
 have h0 : tr0.es.length = 0 := rfl
 have hn : nCh l ≤ 2500 := by unfold nCh; omega
 have e0 : GsOK [] := ⟨by simp, fun g hg => by simp at hg⟩
 unfold openL
 split
 ·exact e0
 ·cases hc : (numG (addL tr0 l).tw (sortC (addL tr0 l).es)).2 with
  | true => exact e0
  | false =>
   rw [cond_false]
   have hf := numG_flat (addL tr0 l).tw (sortC (addL tr0 l).es)
   have hne := numG_ne (addL tr0 l).tw (sortC (addL tr0 l).es)
   obtain ⟨q1, q2⟩ := flat_lens hne
   rw [hf, (sortC_perm _).length_eq] at q1 q2
   refine ⟨by dsimp only; omega, fun g hg => ⟨hne g hg, by have := q2 g hg; omega, fun c hc => ?_⟩⟩
   have : c ∈ (numG (addL tr0 l).tw (sortC (addL tr0 l).es)).1.flatten := List.mem_flatten.2 ⟨g, hg, hc⟩
   rw [hf] at this
   exact hok.1 c ((sortC_perm _).mem_iff.1 this)
theorem Read_pure' (l : List Int) (hl : l.length ≤ 100000) (hb : By l) : Pure Try.prog 17 [bsD l] (.tup [shsD (ReadL l).1, dI (ReadL l).2.1, dI (ReadL l).2.2]) := Read_pure l hl hb (openL_gs hl hb)
end Go.Ev.Ytljkplahkokpaaa


set_option linter.unusedVariables false
set_option linter.unusedSimpArgs false
set_option maxRecDepth 100000
namespace Go.Ev.Ytljkplahkokpaaa
open Go.Proofs
def smallS : Sh := ⟨258, [⟨3, 5⟩, ⟨4, 4⟩]⟩
def laidL : List Int := [1, 2, 0, 1, 2, 0, 3, 0, 0, 5, 1, 1, 0, 0, 0, 0, 0, 0, 0, 0, 0, 0, 0, 0, 0, 0, 0, 0, 0, 0, 0, 0, 0, 0, 0, 0, 0, 0, 113, 16]
theorem small_ok : checkI [smallS] = 0 := by kernel_rfl
theorem small_cards : (cardsL smallS).map bytesRow = [[bsD laidL]] := by kernel_rfl
theorem small_read : ReadL (laidL ++ [1, 2, 3, 4, 5]) = ([smallS], 1, 0) := by kernel_rfl
def strB (l : List Int) : ByteArray := ⟨(l.map fun n => UInt8.ofNat n.toNat).toArray⟩
theorem strB_bytes {l : List Int} (h : By l) : l.map byC = bytesD (strB l) := by
 unfold bytesD strB
 rw [List.map_map]
 refine List.map_congr_left fun n hn => ?_
 have := h n hn
 have e : (UInt8.ofNat n.toNat).toNat = n.toNat := UInt8.toNat_ofNat_of_lt' (by show n.toNat < 256; omega)
 show [D.v (.int .u8 n)] = [D.v (.int .u8 ((UInt8.ofNat n.toNat).toNat : Nat))]
 rw [e]
 congr 3
 omega
theorem laid_by : By laidL := by
 unfold laidL
 repeat first | exact .nil | refine .cons (by omega) ?_
theorem small_pure : Pure Try.prog 50 [] (.agg (shC smallS)) := by
 refine pure_of pg Try.func50 (by kernel_rfl) ?_
 conv => whnf
 (refine .l ?_; conv => whnf)
 (repeat' (first | (apply kT (by with_reducible first | rfl | assumption); conv => whnf) | (apply kF (by with_reducible first | rfl | assumption); conv => whnf) | (apply kT (by decide); conv => whnf) | (apply kF (by decide); conv => whnf) | (apply kB <;> intro _ <;> conv => whnf) | fail))
 rfl
theorem laid_bor : Bor tb Try.prog 49 [] [] 1 (.own 0) [(0, .arr 5 (laidL.map byC))] := by
 refine bor_ofO pg Try.func49 (by kernel_rfl) ?_
 conv => whnf
 (refine ⟨40, rfl, rfl, by decide, by decide, (List.replicate 40 0).map byC, rfl, ?_⟩; conv => whnf)
 (refine .l ?_; conv => whnf)
 (refine ⟨byL [1, 2, 0, 1, 2, 0, 3, 0, 0, 5, 1, 1], (laidL.take 38 ++ [0, 0]).map byC, rfl, ?_⟩; conv => whnf)
 (refine ⟨38, rfl, by decide, ?_⟩; conv => whnf)
 (refine ⟨byC 0, rfl, rfl, by decide, (laidL.take 38 ++ [113, 0]).map byC, rfl, ?_⟩; conv => whnf)
 (refine ⟨39, rfl, by decide, ?_⟩; conv => whnf)
 (refine ⟨byC 0, rfl, rfl, by decide, laidL.map byC, rfl, ?_⟩; conv => whnf)
 (refine ⟨[0], ?_⟩; conv => whnf)
 exact ⟨rfl, rfl⟩
attribute [local irreducible] Pure Bor Iter Pan
theorem awake_pure : Pure Try.prog 16 [] (dB true) := by
 have c1 := Cards_ok smallS small_ok
 rw [small_cards] at c1
 have c2 := Read_pure' (laidL ++ [1, 2, 3, 4, 5]) (by decide) (laid_by.app (by repeat first | exact .nil | refine .cons (by omega) ?_))
 rw [small_read] at c2
 refine pure_of pg Try.func16 (by kernel_rfl) ?_
 conv => whnf
 (refine .inl ⟨_, small_pure, ?_⟩; conv => whnf)
 (refine .inl ⟨_, c1, ?_⟩; conv => whnf)
 (refine .inr ⟨[], 1, _, _, laid_bor, ?_⟩; conv => whnf)
 (refine .l ?_; conv => whnf)
 (refine ⟨byL [1, 2, 3, 4, 5], by decide, ?_⟩; conv => whnf)
 (refine .inl ⟨_, c2, ?_⟩; conv => whnf)
 (refine .r ?_; conv => whnf)
 (repeat' (first | (apply kT (by with_reducible first | rfl | assumption); conv => whnf) | (apply kF (by with_reducible first | rfl | assumption); conv => whnf) | (apply kT (by decide); conv => whnf) | (apply kF (by decide); conv => whnf) | (apply kB <;> intro _ <;> conv => whnf) | (refine ⟨0, _, rfl, rfl, rfl, ?_⟩; conv => whnf) | (refine ⟨strB laidL, strB_bytes laid_by, ?_⟩; conv => whnf) | (refine .inr ⟨[], 1, _, _, laid_bor, ?_⟩; conv => whnf) | (refine ⟨true, beq_self_eq_true _, ?_⟩; conv => whnf) | (refine ⟨1, _, rfl, rfl, rfl, ?_⟩; conv => whnf) | fail))
 rfl
end Go.Ev.Ytljkplahkokpaaa


set_option linter.unusedVariables false
set_option linter.unusedSimpArgs false
set_option maxRecDepth 100000
namespace Go.Ev.Ytljkplahkokpaaa
open Go.Proofs
attribute [local irreducible] Pure Bor Iter Pan
theorem points_pure (l : List Pt) (hl : l.length ≤ 100000) : Pure Try.prog 39 [ptsD l] (ptsD l) := by
 have hm : ((l.map ptD).length : Int) = l.length := by rw [List.length_map]
 refine pure_of pg Try.func39 (by kernel_rfl) ?_
 conv => whnf
 refine ⟨[.own 3 74, .rex], [0, 3, 4], [0], 1, fun m s => ∃ k : Nat, k + m = l.length ∧ s = ⟨[(0, .d (ptsD l)), (3, .own 0), (4, .d (dI k))], [(0, .arr 74 ((l.take k).map ptD))], 1⟩, ?_, ?_⟩
 ·conv => whnf
  exact ⟨l.length, 0, by omega, rfl⟩
 ·rintro m _ ⟨k, hk, rfl⟩
  by_cases hkl : k < l.length
  ·have f1 : decide ((k : Int) < ((l.map ptD).length : Int)) = true := decide_eq_true (by rw [hm]; omega)
   conv => whnf
   (repeat' (first | (apply kT (by with_reducible first | rfl | assumption); conv => whnf) | (apply kF (by with_reducible first | rfl | assumption); conv => whnf) | (apply kT (by decide); conv => whnf) | (apply kF (by decide); conv => whnf) | (apply kB <;> intro _ <;> conv => whnf) | (refine ⟨k, _, rfl, getpt l k hkl, rfl, ?_⟩; conv => whnf) | fail))
   (refine .l ?_; conv => whnf)
   (refine ⟨fun el h => by rw [List.mem_singleton.1 h]; rfl, by rw [List.length_map, List.length_take]; show (min k _ + 1) * 16 ≤ _; omega, ?_⟩; conv => whnf)
   (refine ⟨[105], ?_⟩; conv => whnf)
   refine ⟨m - 1, by omega, k + 1, by omega, ?_⟩
   rw [w1 k (by omega), List.take_add_one, List.getElem?_eq_getElem hkl, List.map_append]
   rfl
  ·have f1 : decide ((k : Int) < ((l.map ptD).length : Int)) = false := decide_eq_false (by rw [hm]; omega)
   conv => whnf
   (apply kF (f1); conv => whnf)
   rw [List.take_of_length_le (by omega)]
   rfl
theorem sheets_pure (l : List Sh) (hl : l.length ≤ 100000) (hp : ∀ s ∈ l, s.ps.length ≤ 100000) : Pure Try.prog 27 [shsD l] (shsD l) := by
 have hm : ((l.map shC).length : Int) = l.length := by rw [List.length_map]
 refine pure_of pg Try.func27 (by kernel_rfl) ?_
 conv => whnf
 refine ⟨[.own 3 50, .rex], [0, 3, 4], [0], 1, fun m s => ∃ k : Nat, k + m = l.length ∧ s = ⟨[(0, .d (shsD l)), (3, .own 0), (4, .d (dI k))], [(0, .arr 50 ((l.take k).map shC))], 1⟩, ?_, ?_⟩
 ·conv => whnf
  exact ⟨l.length, 0, by omega, rfl⟩
 ·rintro m _ ⟨k, hk, rfl⟩
  by_cases hkl : k < l.length
  ·have f1 : decide ((k : Int) < ((l.map shC).length : Int)) = true := decide_eq_true (by rw [hm]; omega)
   have cp := points_pure l[k].ps (hp _ (List.getElem_mem hkl))
   conv => whnf
   (repeat' (first | (apply kT (by with_reducible first | rfl | assumption); conv => whnf) | (apply kF (by with_reducible first | rfl | assumption); conv => whnf) | (apply kT (by decide); conv => whnf) | (apply kF (by decide); conv => whnf) | (apply kB <;> intro _ <;> conv => whnf) | (refine ⟨k, _, rfl, getsh l k hkl, rfl, ?_⟩; conv => whnf) | (refine .inl ⟨_, cp, ?_⟩; conv => whnf) | fail))
   (refine .l ?_; conv => whnf)
   (refine ⟨fun el h => by rw [List.mem_singleton.1 h]; rfl, by rw [List.length_map, List.length_take]; show (min k _ + 1) * 32 ≤ _; omega, ?_⟩; conv => whnf)
   (refine ⟨[113], ?_⟩; conv => whnf)
   refine ⟨m - 1, by omega, k + 1, by omega, ?_⟩
   rw [w1 k (by omega), List.take_add_one, List.getElem?_eq_getElem hkl, List.map_append]
   rfl
  ·have f1 : decide ((k : Int) < ((l.map shC).length : Int)) = false := decide_eq_false (by rw [hm]; omega)
   conv => whnf
   (apply kF (f1); conv => whnf)
   rw [List.take_of_length_le (by omega)]
   rfl
theorem eqF' {α : Type} [DecidableEq α] {a b : List α} {k : Nat} (ha : k < a.length) (hb : k < b.length) (h : a[k] ≠ b[k]) : decide (a = b) = false := by
 refine decide_eq_false fun e => h ?_
 subst e; rfl
def thinB (l : List Sh) : Bool := decide (l.length ≤ 12) && l.all fun s => decide (s.ps.length ≤ 110)
end Go.Ev.Ytljkplahkokpaaa


set_option linter.unusedVariables false
set_option linter.unusedSimpArgs false
set_option maxRecDepth 100000
namespace Go.Ev.Ytljkplahkokpaaa
open Go.Proofs
attribute [local irreducible] Pure Bor Iter Pan furL stepL
def PtsOK (l : List Pt) : Prop := runB l = true
theorem PtsOK.get {l : List Pt} (h : PtsOK l) {k : Nat} (hk : k < l.length) : 0 ≤ l[k].s ∧ l[k].s ≤ 65535 ∧ 0 ≤ l[k].l ∧ l[k].l ≤ 1000000 := ptB_ok.1 ((runB_ok.1 h).2.1 _ (List.getElem_mem hk))
def bodyH (l : List Pt) : List Int := match l with
 | [] => []
 | p :: r => [((r.length + 1 : Nat) : Int) % 256, p.s / 256 % 256, p.s % 256, p.l / 65536 % 256, p.l / 256 % 256, p.l % 256]
theorem flat_by {l : List (List Int)} (h : ∀ x ∈ l, By x) : By l.flatten := fun y hy => by
 obtain ⟨x, hx, hy⟩ := List.mem_flatten.1 hy
 exact h x hx y hy
attribute [local irreducible] bodyL wsum psum
end Go.Ev.Ytljkplahkokpaaa


set_option linter.unusedVariables false
set_option linter.unusedSimpArgs false
set_option maxRecDepth 100000
namespace Go.Ev.Ytljkplahkokpaaa
open Go.Proofs
def PtsV (l : List Pt) : Prop := (∀ p ∈ l, ptB p = true) ∧ Run l
theorem PtsV.take {l : List Pt} (h : PtsV l) (k : Nat) : PtsV (l.take k) := ⟨fun p hp => h.1 p (List.mem_of_mem_take hp), fun i hi => by
 rw [List.length_take] at hi
 have := h.2 i (by omega)
 simpa using this⟩
theorem PtsV.drop {l : List Pt} (h : PtsV l) (k : Nat) : PtsV (l.drop k) := ⟨fun p hp => h.1 p (List.mem_of_mem_drop hp), h.2.drop k⟩
theorem PtsV.ok {l : List Pt} (h : PtsV l) (h0 : 0 < l.length) : PtsOK l := runB_ok.2 ⟨h0, h.1, h.2⟩
theorem PtsOK.v {l : List Pt} (h : PtsOK l) : PtsV l := ⟨(runB_ok.1 h).2.1, (runB_ok.1 h).2.2⟩
abbrev rowP (l : List Pt) : List D := [ptsD l]
attribute [local irreducible] Pure Bor Iter Pan furL stepL bodyL growN cutN
end Go.Ev.Ytljkplahkokpaaa


set_option linter.unusedVariables false
set_option linter.unusedSimpArgs false
set_option maxRecDepth 100000
namespace Go.Ev.Ytljkplahkokpaaa
open Go.Proofs
theorem grow_room : ∀ (l : List Pt) (room : Nat), room ≤ 38 → room + (furs (l.take (1 + growN room l))).flatten.length ≤ 38
 | [], room, h => by simpa [furs] using h
 | [a], room, h => by rw [List.take_of_length_le (by simp)]; simpa [furs] using h
 | a :: b :: r, room, h => by
  rw [growN_cons]
  split
  ·rename_i h1
   have ih := grow_room (b :: r) (room + (furL a b).length) h1
   rw [show 1 + (1 + growN (room + (furL a b).length) (b :: r)) = (1 + growN (room + (furL a b).length) (b :: r)) + 1 from by omega, List.take_succ_cons]
   rw [show 1 + growN (room + (furL a b).length) (b :: r) = growN (room + (furL a b).length) (b :: r) + 1 from by omega, List.take_succ_cons] at ih ⊢
   rw [furs, List.flatten_cons, List.length_append]
   omega
  ·rw [show 1 + 0 = 0 + 1 from rfl, List.take_succ_cons, List.take_zero]
   simpa [furs] using h
theorem cut_room (l : List Pt) : 10 + (furs (l.take (cutN l))).flatten.length ≤ 38 := grow_room l 10 (by omega)
theorem cutsF_room : ∀ (f : Nat) (l : List Pt), ∀ p ∈ cutsF f l, 10 + (furs p).flatten.length ≤ 38
 | 0, l => fun p hp => by simp [cutsF] at hp
 | f + 1, l => fun p hp => by
  rw [cutsF] at hp
  split at hp
  ·simp at hp
  ·rcases List.mem_cons.1 hp with rfl | hp
   ·exact cut_room l
   ·exact cutsF_room f _ p hp
theorem cards_room {s : Sh} (hr : Run s.ps) {c : Cd} (hc : c ∈ cardsL s) : (cardRaw c).length ≤ 38 := by
 have h0 := ((cardsL_ok hr).1 c hc).1
 rw [raw_len h0]
 exact cutsF_room _ _ _ (mem_cds hc)
theorem cutsF_v : ∀ (f : Nat) (l : List Pt), PtsV l → ∀ p ∈ cutsF f l, PtsV p
 | 0, l, _ => fun p hp => by simp [cutsF] at hp
 | f + 1, l, h => fun p hp => by
  rw [cutsF] at hp
  split at hp
  ·simp at hp
  ·rcases List.mem_cons.1 hp with rfl | hp
   ·exact h.take _
   ·exact cutsF_v f _ (h.drop _) p hp
theorem cards_len (s : Sh) : (cardsL s).length = (cuts s.ps).length := by unfold cardsL; rw [cds_len]
theorem cards_get (s : Sh) (k : Nat) (h : k < (cuts s.ps).length) : (cardsL s)[k]? = some ⟨s.n, k, (cuts s.ps).length, (cuts s.ps)[k]⟩ := by
 unfold cardsL; rw [cds_get _ _ _ _ _ h, Nat.zero_add]
attribute [local irreducible] Pure Bor Iter Pan furL stepL bodyL growN cutN layB cardsL cuts refCard
theorem layL_len {l : List Cd} (h : ∀ c ∈ l, 0 < c.ps.length) : (l.map layB).flatten.length = 40 * l.length := by
 induction l with
 | nil => rfl
 | cons c r ih =>
  rw [List.map_cons, List.flatten_cons, List.length_append, ih fun d hd => h d (by simp [hd]), lay_len (h c (by simp)), List.length_cons]
  omega
attribute [local irreducible] checkI
end Go.Ev.Ytljkplahkokpaaa


set_option linter.unusedVariables false
set_option linter.unusedSimpArgs false
set_option maxRecDepth 100000
namespace Go.Ev.Ytljkplahkokpaaa
open Go.Proofs
theorem grow_ge : ∀ (j : Nat) (l : List Pt) (room : Nat), room + 3 * j ≤ 38 → min j (l.length - 1) ≤ growN room l
 | 0, l, room, _ => by simp
 | j + 1, [], room, _ => by simp
 | j + 1, [a], room, _ => by simp
 | j + 1, a :: b :: r, room, h => by
  have hf := furL_len a b
  have ih := grow_ge j (b :: r) (room + (furL a b).length) (by omega)
  rw [growN_cons, if_pos (by omega)]
  simp only [List.length_cons] at *
  omega
theorem cutN_ge (l : List Pt) : min 10 l.length ≤ cutN l ∨ l.length = 0 := by
 have := grow_ge 9 l 10 (by omega)
 rcases Nat.eq_zero_or_pos l.length with h | h
 ·exact .inr h
 ·left
  unfold cutN
  omega
theorem cutN_le15 {l : List Pt} (h : 0 < l.length) : cutN l ≤ 15 := by
 have h1 := cut_room l
 have h2 := furs_flat_len (l.take (cutN l))
 have h3 := cutN_le h
 rw [List.length_take] at h2
 omega
theorem cutsF_count : ∀ (f : Nat) (l : List Pt), l.length ≤ f → (cutsF f l).length ≤ (l.length + 9) / 10
 | 0, l, h => by rw [cutsF]; simp
 | f + 1, l, h => by
  rw [cutsF]
  split
  ·simp
  ·rename_i h0
   have h1 := cutN_le (l := l) (by omega)
   have h2 := (cutN_ge l).resolve_right (by omega)
   have ih := cutsF_count f (l.drop (cutN l)) (by rw [List.length_drop]; omega)
   rw [List.length_drop] at ih
   rw [List.length_cons]
   omega
theorem cuts_count (l : List Pt) : (cuts l).length ≤ (l.length + 9) / 10 := cutsF_count _ _ (Nat.le_refl _)
theorem cutsF_more : ∀ (f g : Nat) (l : List Pt), l.length ≤ f → l.length ≤ g → cutsF f l = cutsF g l
 | 0, 0, l, _, _ => rfl
 | 0, g + 1, l, h, _ => by rw [cutsF, cutsF, if_pos (by omega)]
 | f + 1, 0, l, _, h => by rw [cutsF, cutsF, if_pos (by omega)]
 | f + 1, g + 1, l, hf, hg => by
  rw [cutsF, cutsF]
  split
  ·rfl
  ·rename_i h0
   have h1 := cutN_le (l := l) (by omega)
   rw [cutsF_more f g (l.drop (cutN l)) (by rw [List.length_drop]; omega) (by rw [List.length_drop]; omega)]
theorem cuts_nil : cuts [] = [] := rfl
theorem cuts_cons {l : List Pt} (h : 0 < l.length) : cuts l = l.take (cutN l) :: cuts (l.drop (cutN l)) := by
 have h1 := cutN_le h
 have e : l.length = (l.length - 1) + 1 := by omega
 unfold cuts
 conv => lhs; rw [e, cutsF]
 rw [if_neg (by omega), cutsF_more (l.length - 1) (l.drop (cutN l)).length _ (by rw [List.length_drop]; omega) (Nat.le_refl _)]
def ahead (l : List Pt) (i : Nat) : Nat := ((cuts l).take i).flatten.length
theorem ahead_zero (l : List Pt) : ahead l 0 = 0 := rfl
theorem ahead_succ {l : List Pt} {i : Nat} (h : i < (cuts l).length) : ahead l (i + 1) = ahead l i + (cuts l)[i].length := by
 unfold ahead
 rw [List.take_add_one, List.getElem?_eq_getElem h, List.flatten_append, List.length_append]
 simp
theorem ahead_all {l : List Pt} (hr : Run l) : ahead l (cuts l).length = l.length := by
 unfold ahead
 rw [List.take_length, (cuts_ok hr).2.1]
theorem ahead_mono {l : List Pt} {i j : Nat} (h : i ≤ j) : ahead l i ≤ ahead l j := by
 unfold ahead
 have e0 : ((cuts l).take j).take i = (cuts l).take i := by rw [List.take_take, Nat.min_eq_left h]
 have e : (cuts l).take j = (cuts l).take i ++ ((cuts l).take j).drop i := by
  rw [← e0, List.take_append_drop]
 rw [e, List.flatten_append, List.length_append]
 omega
theorem cuts_at : ∀ (n : Nat) (l : List Pt), l.length ≤ n → ∀ (i : Nat) (h : i < (cuts l).length), ahead l i < l.length ∧ (cuts l)[i] = (l.drop (ahead l i)).take (cutN (l.drop (ahead l i)))
 | 0, l, hn, i, h => by
  rw [List.eq_nil_of_length_eq_zero (show l.length = 0 by omega), cuts_nil] at h
  simp at h
 | n + 1, l, hn, i, h => by
  rcases Nat.eq_zero_or_pos l.length with h0 | h0
  ·rw [List.eq_nil_of_length_eq_zero h0, cuts_nil] at h
   simp at h
  ·have hc := cuts_cons h0
   have h1 := cutN_le h0
   cases i with
   | zero =>
    refine ⟨by rw [ahead_zero]; exact h0, ?_⟩
    rw [ahead_zero, List.drop_zero]
    simp only [hc, List.getElem_cons_zero]
   | succ i =>
    have hl : i < (cuts (l.drop (cutN l))).length := by rw [hc, List.length_cons] at h; omega
    obtain ⟨q1, q2⟩ := cuts_at n (l.drop (cutN l)) (by rw [List.length_drop]; omega) i hl
    have ea : ahead l (i + 1) = cutN l + ahead (l.drop (cutN l)) i := by
     unfold ahead
     rw [hc, List.take_succ_cons, List.flatten_cons, List.length_append, List.length_take]
     omega
    rw [List.length_drop] at q1
    refine ⟨by omega, ?_⟩
    rw [ea, ← List.drop_drop]
    simp only [hc, List.getElem_cons_succ]
    exact q2
theorem layB_many {c : Cd} (h : (cardRaw c).length ≤ 38) (h0 : 0 < c.ps.length) : (layB c)[4]? = some (((c.ps.length : Nat) : Int) % 256) := by
 rw [layB_room h0 h]
 obtain ⟨n, i, m, ps⟩ := c
 cases ps with
 | nil => simp at h0
 | cons p r => rfl
end Go.Ev.Ytljkplahkokpaaa


set_option linter.unusedVariables false
set_option linter.unusedSimpArgs false
set_option maxRecDepth 100000
namespace Go.Ev.Ytljkplahkokpaaa
open Go.Proofs
def WriteL (l : List Sh) : List Int × Int := if checkI l = 0 then writeI l else ([], checkI l)
def CardsL (s : Sh) : List Cd × Int := if checkI [s] = 0 then (cardsL s, 0) else ([], checkI [s])
def wantI (l : List Sh) : Int := if checkI l = 0 then (if (l.map Sh.n).Nodup then 0 else 6) else checkI l
attribute [local irreducible] Pure Bor Iter Pan layB cardsL cuts refCard checkI thinB fileL
end Go.Ev.Ytljkplahkokpaaa


set_option linter.unusedVariables false
set_option linter.unusedSimpArgs false
set_option maxRecDepth 100000
namespace Go.Ev.Ytljkplahkokpaaa
open Go.Proofs
theorem check_one {s : Sh} (h1 : s.ps.length ≤ 100) (h2 : shB s = true) : checkI [s] = 0 := checkI_ok.2 ⟨by simp, fun x hx => by rw [List.mem_singleton.1 hx]; exact ⟨h1, h2⟩⟩
theorem cards_at (s : Sh) (k : Nat) (h : k < (cardsL s).length) : (cardsL s)[k] = ⟨s.n, k, (cuts s.ps).length, (cuts s.ps)[k]'(by rw [← cards_len]; exact h)⟩ := by
 have h2 : k < (cuts s.ps).length := by rw [← cards_len]; exact h
 have := cards_get s k h2
 rw [List.getElem?_eq_getElem h] at this
 exact Option.some.inj this
attribute [local irreducible] Pure Bor Iter Pan layB cardsL cuts refCard checkI thinB fileL shB cutN growN
end Go.Ev.Ytljkplahkokpaaa


set_option linter.unusedVariables false
set_option linter.unusedSimpArgs false
set_option maxRecDepth 100000
namespace Go.Ev.Ytljkplahkokpaaa
open Go.Proofs
def lackF (n : Int) : Nat → Nat → List Cd → List (Int × Int)
 | 0, _, _ => []
 | j + 1, i, [] => (n, (i : Int)) :: lackF n j (i + 1) []
 | j + 1, i, c :: r => bif c.i == (i : Int) then lackF n j (i + 1) r else (n, (i : Int)) :: lackF n j (i + 1) (c :: r)
def lacks : List Cd → List (Int × Int)
 | [] => []
 | h :: t => lackF h.n h.m.toNat 0 (h :: t)
def missG (G : List (List Cd)) : List (Int × Int) := (G.map lacks).flatten
def MissL (l : List Int) : List (Int × Int) × Int := (missG (openL l).1, (openL l).2.2)
abbrev lkC (p : Int × Int) : List D := [dI p.1, dI p.2]
attribute [local irreducible] Pure Bor Iter Pan layB cardsL cuts refCard checkI thinB fileL openL lackF
end Go.Ev.Ytljkplahkokpaaa


set_option linter.unusedVariables false
set_option linter.unusedSimpArgs false
set_option maxRecDepth 100000
namespace Go.Ev.Ytljkplahkokpaaa
open Go.Proofs
def pieceF : List Pt → Int → List Cd → List (List Pt)
 | cur, _, [] => [cur]
 | cur, i, c :: r => bif i + 1 == c.i then pieceF (cur ++ c.ps) c.i r else cur :: pieceF c.ps c.i r
def piecesC : List Cd → List (List Pt)
 | [] => []
 | h :: t => pieceF h.ps h.i t
def headN : List Cd → Int
 | [] => -1
 | h :: _ => h.n
def piecesG (n : Int) : List (List Cd) → List (List Pt)
 | [] => []
 | g :: G => bif headN g != n then piecesG n G else piecesC g ++ piecesG n G
def PiecesL (l : List Int) (n : Int) : List (List Pt) × Int :=
 bif (openL l).2.2 != 0 then ([], (openL l).2.2) else bif !inB n 0 9999 then ([], 2) else bif (piecesG n (openL l).1).length == 0 then ([], 7) else (piecesG n (openL l).1, 0)
theorem piecesG_append (n : Int) : ∀ (A B : List (List Cd)), piecesG n (A ++ B) = piecesG n A ++ piecesG n B
 | [], B => rfl
 | g :: A, B => by
  rw [List.cons_append, piecesG, piecesG, piecesG_append n A B]
  cases headN g != n with
  | true => rfl
  | false => simp
theorem piecesG_take (n : Int) (G : List (List Cd)) {k : Nat} (h : k < G.length) : piecesG n (G.take (k + 1)) = piecesG n (G.take k) ++ (bif headN G[k] != n then [] else piecesC G[k]) := by
 rw [List.take_add_one, List.getElem?_eq_getElem h, piecesG_append]
 congr 1
 show piecesG n [G[k]] = _
 rw [piecesG, piecesG, List.append_nil]
theorem pieceF_nil (cur : List Pt) (i : Int) : pieceF cur i [] = [cur] := by rw [pieceF]
theorem pieceF_on {cur : List Pt} {i : Int} {c : Cd} {r : List Cd} (h : i + 1 = c.i) : pieceF cur i (c :: r) = pieceF (cur ++ c.ps) c.i r := by rw [pieceF, h]; simp
theorem pieceF_new {cur : List Pt} {i : Int} {c : Cd} {r : List Cd} (h : i + 1 ≠ c.i) : pieceF cur i (c :: r) = cur :: pieceF c.ps c.i r := by
 rw [pieceF, show (i + 1 == c.i) = false from by rw [beq_eq_false_iff_ne]; exact h, cond_false]
theorem cloneP_bor (l : List Pt) (h0 : 0 < l.length) (hl : l.length ≤ 100000) : Bor tb Try.prog 68 [.d (ptsD l)] [] 1 (.own 0) [(0, .arr 74 (l.map ptD))] := by
 have hne : l.map ptD ≠ [] := by intro h; rw [List.map_eq_nil_iff] at h; rw [h] at h0; simp at h0
 have hel : ∀ x ∈ l.map ptD, x.length = 2 := fun x h => by rw [List.mem_map] at h; obtain ⟨y, _, rfl⟩ := h; rfl
 have hb : (0 + (l.map ptD).length) * 16 ≤ 140737488355328 := by rw [List.length_map]; omega
 refine bor_ofO pg Try.func68 (by kernel_rfl) ?_
 conv => whnf
 (refine ⟨hne, ?_⟩; conv => whnf)
 (repeat' (first | (apply kT (by with_reducible first | rfl | assumption); conv => whnf) | (apply kF (by with_reducible first | rfl | assumption); conv => whnf) | (apply kT (by decide); conv => whnf) | (apply kF (by decide); conv => whnf) | (apply kB <;> intro _ <;> conv => whnf) | fail))
 (refine ⟨hel, hb, ?_⟩; conv => whnf)
 (refine ⟨[0], ?_⟩; conv => whnf)
 exact ⟨rfl, rfl⟩
abbrev ppA (done : List (List Pt)) : List A := done.map fun p => A.d (ptsD p)
theorem invP (ρ : List Nat) (x : A) : ∀ done : List (List Pt), invAL ρ (ppA done ++ [x]) = ppA done ++ [invA ρ x]
 | [] => rfl
 | g :: r => by rw [ppA, List.map_cons, List.cons_append, invAL, invP ρ x r]; rfl
theorem frzPp (i : Nat) (d : D) : ∀ done : List (List Pt), frzAL [(i, d)] (ppA done ++ [.own i]) = ppA done ++ [.d d]
 | [] => by show [frzA [(i, d)] (.own i)] = _; rw [frzA, lookD, beq_self]; rfl
 | g :: r => by rw [ppA, List.map_cons, List.cons_append, frzAL, frzPp i d r]; rfl
theorem onlyPp {os : List Nat} {x : A} (h : x.onlyB os = true) : ∀ done : List (List Pt), A.onlyL os (ppA done ++ [x]) = true
 | [] => by show (x.onlyB os && true) = true; rw [h]; rfl
 | g :: r => by rw [ppA, List.map_cons, List.cons_append, A.onlyL, onlyPp h r]; rfl
def pcO (out : List (List Pt)) (ob : List (Nat × Ob)) : Prop :=
 (out = [] ∧ ∃ X : List Pt, ob = [(0, .arr 74 (X.map ptD)), (1, .arw 48 [])]) ∨
 ∃ (done : List (List Pt)) (cur : List Pt), out = done ++ [cur] ∧ ob = [(0, .arr 74 (cur.map ptD)), (1, .arw 48 (ppA done ++ [.own 0]))]
theorem pieceF_len : ∀ (r : List Cd) (cur : List Pt) (i : Int), (pieceF cur i r).length ≤ 1 + r.length
 | [], cur, i => by rw [pieceF]; simp
 | c :: r, cur, i => by
  rw [pieceF]
  cases i + 1 == c.i with
  | true => have := pieceF_len r (cur ++ c.ps) c.i; rw [cond_true, List.length_cons]; omega
  | false => have := pieceF_len r c.ps c.i; rw [cond_false, List.length_cons, List.length_cons]; omega
theorem piecesC_len (g : List Cd) : (piecesC g).length ≤ g.length := by
 cases g with
 | nil => exact Nat.le_refl _
 | cons h t => have := pieceF_len t h.ps h.i; rw [List.length_cons]; show (pieceF h.ps h.i t).length ≤ _; omega
theorem piecesG_len (n : Int) : ∀ {G : List (List Cd)}, (∀ g ∈ G, g.length ≤ 5000) → (piecesG n G).length ≤ 5000 * G.length
 | [], _ => by simp [piecesG]
 | g :: G, h => by
  have ih := piecesG_len n (G := G) fun x hx => h x (by simp [hx])
  have h1 := piecesC_len g
  have h2 := h g (by simp)
  rw [piecesG, List.length_cons]
  cases headN g != n with
  | true => rw [cond_true]; omega
  | false => rw [cond_false, List.length_append]; omega
theorem piecesG_nil (n : Int) : piecesG n [] = [] := rfl
theorem piecesC_cons (h : Cd) (t : List Cd) : piecesC (h :: t) = pieceF h.ps h.i t := rfl
attribute [local irreducible] Pure Bor Iter Pan layB cardsL cuts refCard checkI thinB fileL openL pieceF piecesG piecesC
theorem Pieces_pure (l : List Int) (n : Int) (hl : l.length ≤ 100000) (hb : By l) : Pure Try.prog 40 [bsD l, dI n] (.tup [.seq ((PiecesL l n).1.map rowP), dI (PiecesL l n).2]) := by
 have co := open_pure l hl hb
 have hE := openL_err (l := l)
 have hGs := openL_gs hl hb
 have cw := within_pure n 0 9999
 unfold PiecesL
 generalize openL l = r at *
 obtain ⟨G, sp, e⟩ := r
 dsimp only at *
 have co : Pure Try.prog 51 [bsD l] (.tup [gpsD G, dI sp, dI e]) := co
 have hm : ((G.map fun g => [gpD g]).length : Int) = G.length := by rw [List.length_map]
 obtain ⟨hG1, hG2⟩ := hGs
 by_cases he : e = 0
 ·have f1 : (e != 0) = false := by simp [he]
  rw [f1, cond_false]
  cases hin : inB n 0 9999 with
  | false =>
   rw [hin] at cw
   refine pure_of pg Try.func40 (by kernel_rfl) ?_
   conv => whnf
   (repeat' (first | (apply kT (by with_reducible first | rfl | assumption); conv => whnf) | (apply kF (by with_reducible first | rfl | assumption); conv => whnf) | (apply kT (by decide); conv => whnf) | (apply kF (by decide); conv => whnf) | (apply kB <;> intro _ <;> conv => whnf) | (refine .inl ⟨_, co, ?_⟩; conv => whnf) | (refine .inl ⟨_, cw, ?_⟩; conv => whnf) | fail))
   rfl
  | true =>
   rw [hin] at cw
   rw [Bool.not_true, cond_false]
   obtain ⟨R, hR⟩ : ∃ R, R = piecesG n G := ⟨_, rfl⟩
   rw [← hR]
   refine pure_of_v pg Try.func40 (by kernel_rfl) ?_
   conv => whnf
   (repeat' (first | (apply kT (by with_reducible first | rfl | assumption); conv => whnf) | (apply kF (by with_reducible first | rfl | assumption); conv => whnf) | (apply kT (by decide); conv => whnf) | (apply kF (by decide); conv => whnf) | (apply kB <;> intro _ <;> conv => whnf) | (refine .inl ⟨_, co, ?_⟩; conv => whnf) | (refine .inl ⟨_, cw, ?_⟩; conv => whnf) | fail))
   refine ⟨[.own 4 74, .ownw 9 48, .rex], [1, 9, 28, 29, 30], [0, 1], 2, fun m s => ∃ (k : Nat) (ob : List (Nat × Ob)), k + m = G.length ∧ pcO (piecesG n (G.take k)) ob ∧ s = ⟨[(1, .d (dI n)), (9, .own 1), (28, .d (gpsD G)), (29, .d (dI (G.map fun g => [gpD g]).length)), (30, .d (dI k))], ob, 2⟩, ?_, ?_⟩
   ·conv => whnf
    (refine ⟨rfl, ?_⟩; conv => whnf)
    exact ⟨G.length, 0, _, by omega, .inl ⟨by rw [List.take_zero, piecesG_nil], [], rfl⟩, rfl⟩
   ·rintro m _ ⟨k, ob, hk, hob, rfl⟩
    by_cases hkl : k < G.length
    ·have f2 : decide ((k : Int) < ((G.map fun g => [gpD g]).length : Int)) = true := decide_eq_true (by rw [hm]; omega)
     obtain ⟨hgne, hgl, hgc⟩ := hG2 _ (List.getElem_mem hkl)
     have htk := piecesG_take n G hkl
     have hgt := getgp G k hkl
     have hlen1 := piecesG_len n (G := G.take (k + 1)) fun g hg => (hG2 g (List.mem_of_mem_take hg)).2.1
     rw [List.length_take] at hlen1
     generalize hT : piecesG n (G.take (k + 1)) = T at *
     generalize hO : piecesG n (G.take k) = O at *
     generalize hgd : G[k] = g at *
     obtain ⟨h, t, hgt2⟩ : ∃ h t, g = h :: t := by
      cases g with
      | nil => exact absurd rfl hgne
      | cons h t => exact ⟨h, t, rfl⟩
     have hgl0 : 0 < g.length := by rw [hgt2]; simp
     have hg0 : (g.map cdC)[0]? = some (cdC h) := by rw [hgt2]; rfl
     have hhd : headN g = h.n := by rw [hgt2]; rfl
     have hg0' : ∀ h0 : 0 < g.length, g[0] = h := fun _ => by simp only [hgt2, List.getElem_cons_zero]
     have hdr1 : g.drop 1 = t := by rw [hgt2]; rfl
     have hmg : ((g.map cdC).length : Int) = g.length := by rw [List.length_map]
     rw [hhd] at htk
     by_cases hn : h.n = n
     ·have f3 : (h.n != n) = false := by simp [hn]
      rw [f3, cond_false] at htk
      have hpc : piecesC g = pieceF h.ps h.i t := by rw [hgt2, piecesC_cons]
      rw [hpc] at htk
      conv => whnf
      (repeat' (first | (apply kT (by with_reducible first | rfl | assumption); conv => whnf) | (apply kF (by with_reducible first | rfl | assumption); conv => whnf) | (apply kT (by decide); conv => whnf) | (apply kF (by decide); conv => whnf) | (apply kB <;> intro _ <;> conv => whnf) | (refine ⟨k, _, rfl, hgt, rfl, ?_⟩; conv => whnf) | (refine ⟨0, _, rfl, hg0, rfl, ?_⟩; conv => whnf) | fail))
      refine ⟨[.rex], [1, 9, 11, 28, 29, 30, 40, 41, 42], [0, 1], 2, fun q s => ∃ (j : Nat) (ob : List (Nat × Ob)), j + q = g.length ∧
       ((j = 0 ∧ pcO O ob) ∨ ∃ (done : List (List Pt)) (cur : List Pt) (j' : Nat) (hj' : j' < g.length), j = j' + 1 ∧ cur.length ≤ 15 * j ∧ T = done ++ pieceF cur g[j'].i (g.drop j) ∧ ob = [(0, .arr 74 (cur.map ptD)), (1, .arw 48 (ppA done ++ [.own 0]))]) ∧
       s = ⟨[(1, .d (dI n)), (9, .own 1), (11, .d (gpD g)), (28, .d (gpsD G)), (29, .d (dI (G.map fun g => [gpD g]).length)), (30, .d (dI k)), (40, .d (gpD g)), (41, .d (dI (g.map cdC).length)), (42, .d (dI j))], ob, 2⟩, ?_, ?_⟩
      ·rcases hob with ⟨hO0, X, rfl⟩ | ⟨done, cur, hO1, rfl⟩
       ·conv => whnf
        (refine ⟨rfl, ?_⟩; conv => whnf)
        exact ⟨g.length, 0, _, by omega, .inl ⟨rfl, .inl ⟨hO0, X, rfl⟩⟩, rfl⟩
       ·conv => whnf
        (refine ⟨onlyPp rfl _, ?_⟩; conv => whnf)
        exact ⟨g.length, 0, _, by omega, .inl ⟨rfl, .inr ⟨done, cur, hO1, rfl⟩⟩, rfl⟩
      ·rintro q _ ⟨j, ob, hj, hst, rfl⟩
       by_cases hjl : j < g.length
       ·have g1 : decide ((j : Int) < ((g.map cdC).length : Int)) = true := decide_eq_true (by rw [hmg]; omega)
        have hcj := hgc _ (List.getElem_mem hjl)
        have hcm := hcj.many
        have ccl := cloneP_bor g[j].ps hcm.1 (by omega)
        rcases hst with ⟨rfl, ⟨hO0, X, rfl⟩ | ⟨done, cur, hO1, rfl⟩⟩ | ⟨done, cur, j', hj', rfl, hcur, hTd, rfl⟩
        ·conv => whnf
         (repeat' (first | (apply kT (by with_reducible first | rfl | assumption); conv => whnf) | (apply kF (by with_reducible first | rfl | assumption); conv => whnf) | (apply kT (by decide); conv => whnf) | (apply kF (by decide); conv => whnf) | (apply kB <;> intro _ <;> conv => whnf) | (refine ⟨0, _, rfl, getcd g 0 hjl, rfl, ?_⟩; conv => whnf) | (refine .inr ⟨[], 1, _, _, ccl, ?_⟩; conv => whnf) | fail))
         (refine .r ⟨[], ?_⟩; conv => whnf)
         (refine ⟨_, rfl, ?_⟩; conv => whnf)
         (refine ⟨by decide, [.own 115], rfl, ?_⟩; conv => whnf)
         (refine ⟨[115, 117], ?_⟩; conv => whnf)
         (refine ⟨rfl, ?_⟩; conv => whnf)
         refine ⟨q - 1, by omega, 1, _, by omega, .inr ⟨[], g[0].ps, 0, hjl, rfl, by omega, by rw [htk, hO0, hg0', hdr1], rfl⟩, ?_⟩
         rw [w1 0 (by omega)]
         rfl
        ·have hdl : done.length ≤ 30000000 := by
          have := congrArg List.length htk
          rw [hO1, List.length_append, List.length_append] at this
          simp only [List.length_singleton] at this
          omega
         conv => whnf
         (repeat' (first | (apply kT (by with_reducible first | rfl | assumption); conv => whnf) | (apply kF (by with_reducible first | rfl | assumption); conv => whnf) | (apply kT (by decide); conv => whnf) | (apply kF (by decide); conv => whnf) | (apply kB <;> intro _ <;> conv => whnf) | (refine ⟨0, _, rfl, getcd g 0 hjl, rfl, ?_⟩; conv => whnf) | (refine .inr ⟨[], 1, _, _, ccl, ?_⟩; conv => whnf) | fail))
         (refine .r ⟨[0], ?_⟩; conv => whnf)
         (refine ⟨_, rfl, ?_⟩; conv => whnf)
         (refine ⟨_, frzPp 0 _ done, ?_⟩; conv => whnf)
         (refine ⟨by rw [List.length_append, List.length_map]; show (done.length + 1 + 1) * 24 ≤ _; omega, ppA (done ++ [cur]) ++ [.own 115], by rw [show ppA (done ++ [cur]) = ppA done ++ [A.d (ptsD cur)] from List.map_append]; rfl, ?_⟩; conv => whnf)
         (refine ⟨[115, 117], ?_⟩; conv => whnf)
         (refine ⟨by rw [invP]; exact onlyPp rfl _, ?_⟩; conv => whnf)
         refine ⟨q - 1, by omega, 1, _, by omega, .inr ⟨done ++ [cur], g[0].ps, 0, hjl, rfl, by omega, by rw [htk, hO1, hg0', hdr1], rfl⟩, ?_⟩
         rw [invP, w1 0 (by omega)]
         rfl
        ·have hdl : done.length ≤ 30000000 := by
          have := congrArg List.length hTd
          rw [List.length_append] at this
          omega
         have hgj : g.drop (j' + 1) = g[j' + 1] :: g.drop (j' + 1 + 1) := List.drop_eq_getElem_cons hjl
         rw [hgj] at hTd
         have hcp := hgc _ (List.getElem_mem hj')
         obtain ⟨_, ⟨p1, p2⟩, ⟨p3, p4⟩, _⟩ := hcp
         have g2 : decide (((j' + 1 : Nat) : Int) > 0) = true := decide_eq_true (by omega)
         have e1 : IntKind.i64.wrap (((j' + 1 : Nat) : Int) - 1) = ((j' : Nat) : Int) := by rw [wrapI (by omega) (by omega)]; omega
         have e2 : IntKind.i64.wrap (g[j'].i + 1) = g[j'].i + 1 := wS (by omega) (by omega)
         by_cases hon : g[j'].i + 1 = g[j' + 1].i
         ·have g3 : (IntKind.i64.wrap (g[j'].i + 1) == g[j' + 1].i) = true := by rw [e2, hon]; simp
          have hAl : (ppA done ++ [A.own 0]).length = done.length + 1 := by simp
          have hAg : (ppA done ++ [A.own 0])[done.length]? = some (A.own 0) := by simp
          have hAs : ∀ x, (ppA done ++ [A.own 0]).set done.length x = ppA done ++ [x] := fun x => by
           rw [List.set_append_right _ _ (by simp)]; simp
          have ew : IntKind.i64.wrap (((ppA done ++ [A.own 0]).length : Int) - 1) = ((done.length : Nat) : Int) := by rw [hAl, wrapI (by omega) (by omega)]; omega
          rw [pieceF_on hon] at hTd
          conv => whnf
          (repeat' (first | (apply kT (by with_reducible first | rfl | assumption); conv => whnf) | (apply kF (by with_reducible first | rfl | assumption); conv => whnf) | (apply kT (by decide); conv => whnf) | (apply kF (by decide); conv => whnf) | (apply kB <;> intro _ <;> conv => whnf) | (refine ⟨j' + 1, _, rfl, getcd g (j' + 1) hjl, rfl, ?_⟩; conv => whnf) | (refine ⟨j', _, e1, getcd g j' hj', rfl, ?_⟩; conv => whnf) | (refine ⟨done.length, ew, by rw [hAl]; omega, ?_⟩; conv => whnf) | (refine ⟨_, hAg, ?_⟩; conv => whnf) | fail))
          (refine ⟨ptL _, by rw [List.length_map, List.length_map]; show _ * 16 ≤ _; omega, ?_⟩; conv => whnf)
          (repeat' (first | (apply kT (by with_reducible first | rfl | assumption); conv => whnf) | (apply kF (by with_reducible first | rfl | assumption); conv => whnf) | (apply kT (by decide); conv => whnf) | (apply kF (by decide); conv => whnf) | (apply kB <;> intro _ <;> conv => whnf) | (refine ⟨done.length, ew, by rw [hAl]; omega, ?_⟩; conv => whnf) | (refine ⟨by rw [hAl]; omega, _, hAs _, ?_⟩; conv => whnf) | fail))
          (refine ⟨[211, 1], ?_⟩; conv => whnf)
          (refine ⟨by rw [invP]; exact onlyPp rfl _, ?_⟩; conv => whnf)
          refine ⟨q - 1, by omega, j' + 1 + 1, _, by omega, .inr ⟨done, cur ++ g[j' + 1].ps, j' + 1, hjl, rfl, by rw [List.length_append]; omega, hTd, rfl⟩, ?_⟩
          rw [invP, w1 (j' + 1) (by omega), List.map_append]
          rfl
         ·have g3 : (IntKind.i64.wrap (g[j'].i + 1) == g[j' + 1].i) = false := by rw [e2, beq_eq_false_iff_ne]; exact hon
          rw [pieceF_new hon] at hTd
          conv => whnf
          (repeat' (first | (apply kT (by with_reducible first | rfl | assumption); conv => whnf) | (apply kF (by with_reducible first | rfl | assumption); conv => whnf) | (apply kT (by decide); conv => whnf) | (apply kF (by decide); conv => whnf) | (apply kB <;> intro _ <;> conv => whnf) | (refine ⟨j' + 1, _, rfl, getcd g (j' + 1) hjl, rfl, ?_⟩; conv => whnf) | (refine ⟨j', _, e1, getcd g j' hj', rfl, ?_⟩; conv => whnf) | (refine .inr ⟨[], 1, _, _, ccl, ?_⟩; conv => whnf) | fail))
          (refine .r ⟨[0], ?_⟩; conv => whnf)
          (refine ⟨_, rfl, ?_⟩; conv => whnf)
          (refine ⟨_, frzPp 0 _ done, ?_⟩; conv => whnf)
          (refine ⟨by rw [List.length_append, List.length_map]; show (done.length + 1 + 1) * 24 ≤ _; omega, ppA (done ++ [cur]) ++ [.own 115], by rw [show ppA (done ++ [cur]) = ppA done ++ [A.d (ptsD cur)] from List.map_append]; rfl, ?_⟩; conv => whnf)
          (refine ⟨[115, 117], ?_⟩; conv => whnf)
          (refine ⟨by rw [invP]; exact onlyPp rfl _, ?_⟩; conv => whnf)
          refine ⟨q - 1, by omega, j' + 1 + 1, _, by omega, .inr ⟨done ++ [cur], g[j' + 1].ps, j' + 1, hjl, rfl, by omega, by rw [hTd]; simp, rfl⟩, ?_⟩
          rw [invP, w1 (j' + 1) (by omega)]
          rfl
       ·have g1 : decide ((j : Int) < ((g.map cdC).length : Int)) = false := decide_eq_false (by rw [hmg]; omega)
        rcases hst with ⟨rfl, _⟩ | ⟨done, cur, j', hj', rfl, hcur, hTd, rfl⟩
        ·omega
        rw [List.drop_of_length_le (by omega), pieceF_nil] at hTd
        conv => whnf
        (apply kF (g1); conv => whnf)
        (refine ⟨[0, 1], ?_⟩; conv => whnf)
        (refine ⟨by rw [invP]; exact onlyPp rfl _, ?_⟩; conv => whnf)
        refine ⟨m - 1, by omega, k + 1, _, by omega, .inr ⟨done, cur, by rw [hT, hTd], rfl⟩, ?_⟩
        rw [w1 k (by omega), invP]
        rfl
     ·have f3 : (h.n != n) = true := by simpa using hn
      rw [f3, cond_true, List.append_nil] at htk
      rcases hob with ⟨hO0, X, rfl⟩ | ⟨done, cur, hO1, rfl⟩
      ·conv => whnf
       (repeat' (first | (apply kT (by with_reducible first | rfl | assumption); conv => whnf) | (apply kF (by with_reducible first | rfl | assumption); conv => whnf) | (apply kT (by decide); conv => whnf) | (apply kF (by decide); conv => whnf) | (apply kB <;> intro _ <;> conv => whnf) | (refine ⟨k, _, rfl, hgt, rfl, ?_⟩; conv => whnf) | (refine ⟨0, _, rfl, hg0, rfl, ?_⟩; conv => whnf) | fail))
       (refine ⟨[0, 1], ?_⟩; conv => whnf)
       (refine ⟨rfl, ?_⟩; conv => whnf)
       refine ⟨m - 1, by omega, k + 1, _, by omega, .inl ⟨by rw [hT, htk, hO0], X, rfl⟩, ?_⟩
       rw [w1 k (by omega)]
       rfl
      ·conv => whnf
       (repeat' (first | (apply kT (by with_reducible first | rfl | assumption); conv => whnf) | (apply kF (by with_reducible first | rfl | assumption); conv => whnf) | (apply kT (by decide); conv => whnf) | (apply kF (by decide); conv => whnf) | (apply kB <;> intro _ <;> conv => whnf) | (refine ⟨k, _, rfl, hgt, rfl, ?_⟩; conv => whnf) | (refine ⟨0, _, rfl, hg0, rfl, ?_⟩; conv => whnf) | fail))
       (refine ⟨[0, 1], ?_⟩; conv => whnf)
       (refine ⟨by rw [invP]; exact onlyPp rfl _, ?_⟩; conv => whnf)
       refine ⟨m - 1, by omega, k + 1, _, by omega, .inr ⟨done, cur, by rw [hT, htk, hO1], rfl⟩, ?_⟩
       rw [w1 k (by omega), invP]
       rfl
    ·have f2 : decide ((k : Int) < ((G.map fun g => [gpD g]).length : Int)) = false := decide_eq_false (by rw [hm]; omega)
     have hkG : G.take k = G := List.take_of_length_le (by omega)
     rw [hkG, ← hR] at hob
     rcases hob with ⟨hO0, X, rfl⟩ | ⟨done, cur, hO1, rfl⟩
     ·rw [hO0]
      conv => whnf
      (apply kF (f2); conv => whnf)
      (repeat' (first | (apply kT (by with_reducible first | rfl | assumption); conv => whnf) | (apply kF (by with_reducible first | rfl | assumption); conv => whnf) | (apply kT (by decide); conv => whnf) | (apply kF (by decide); conv => whnf) | (apply kB <;> intro _ <;> conv => whnf) | fail))
      refine ⟨[], ?_⟩
      conv => whnf
      rfl
     ·have f3 : (((done ++ [cur]).length : Nat) == 0) = false := by rw [List.length_append]; simp
      have f4 : ((((ppA done ++ [A.own 0]).length : Nat) : Int) == 0) = false := by rw [List.length_append, beq_eq_false_iff_ne]; simp; omega
      rw [hO1, f3, cond_false]
      conv => whnf
      (apply kF (f2); conv => whnf)
      (repeat' (first | (apply kT (by with_reducible first | rfl | assumption); conv => whnf) | (apply kF (by with_reducible first | rfl | assumption); conv => whnf) | (apply kT (by decide); conv => whnf) | (apply kF (by decide); conv => whnf) | (apply kB <;> intro _ <;> conv => whnf) | fail))
      refine ⟨[.frz 0, .toArr 1], ?_⟩
      conv => whnf
      (refine ⟨_, frzPp 0 _ done, ?_⟩; conv => whnf)
      (refine ⟨(done ++ [cur]).map ptsD, by rw [List.map_map, List.map_append]; rfl, ?_⟩; conv => whnf)
      rw [List.map_map]
      rfl
 ·obtain ⟨q1, q2⟩ := hE he
  have f1 : (e != 0) = true := by simpa using he
  rw [f1, cond_true]
  subst q1 q2
  refine pure_of pg Try.func40 (by kernel_rfl) ?_
  conv => whnf
  (refine .inl ⟨_, co, ?_⟩; conv => whnf)
  (apply kT (f1); conv => whnf)
  rfl
end Go.Ev.Ytljkplahkokpaaa


set_option linter.unusedVariables false
set_option linter.unusedSimpArgs false
set_option maxRecDepth 100000
namespace Go.Ev.Ytljkplahkokpaaa
open Go.Proofs
abbrev BL := List Int
attribute [local irreducible] Pure Bor Iter Pan layB cardsL cuts refCard checkI thinB fileL openL addL sortC numG
abbrev fOB (f : Nat) : Ob := .var false 43 [.d (.fn (.func f) [] [])]
def goodF (l : List Int) : Bool := decide (l.length ≤ 8000)
def trF (fs : List (List Int)) : Tr := fs.foldl addL tr0
def MendL (fs : List (List Int)) : List Int × Int :=
 if 5 < fs.length ∨ fs.all goodF = false then ([], 3)
 else bif (numG (trF fs).tw (sortC (trF fs).es)).2 then ([], 6)
 else if 8000 < ((sortC (trF fs).es).map layB).flatten.length then ([], 3) else (((sortC (trF fs).es).map layB).flatten, 0)
end Go.Ev.Ytljkplahkokpaaa


set_option linter.unusedVariables false
set_option linter.unusedSimpArgs false
set_option maxRecDepth 100000
namespace Go.Ev.Ytljkplahkokpaaa
open Go.Proofs
def cardOf (p : List Int × Bool) : Option Cd := bif p.2 then readR p.1 else none
def addO (t : Tr) (o : Option Cd) : Tr := match o with
 | none => ⟨t.es, t.sp + 1, t.tw⟩
 | some c => match findC t.es c.n c.i with
  | some old => ⟨t.es, t.sp, t.tw || !decide (old = c)⟩
  | none => ⟨t.es ++ [c], t.sp, t.tw⟩
theorem addC_O {t : Tr} {p : List Int × Bool} (hb : By p.1) (ht : ∀ c ∈ t.es, CdOK c) : addC t p = addO t (cardOf p) := by
 unfold addC cardOf
 cases hr : readR p.1 with
 | none => cases p.2 <;> rfl
 | some c =>
  cases p.2 with
  | false => rfl
  | true =>
   simp only [cond_true, addO]
   cases hf : findC t.es c.n c.i with
   | none => rfl
   | some old =>
    simp only
    obtain ⟨h1, h2⟩ := readR_ok hb hr
    have h3 := ht old (find_mem hf).1
    have e : decide (layB old = p.1) = decide (old = c) := by
     by_cases h : old = c
     ·rw [decide_eq_true h, decide_eq_true (by rw [h, h2])]
     ·rw [decide_eq_false h, decide_eq_false fun e => h (layB_inj h3 h1 (by rw [h2, e]))]
    rw [e]
def Vs (l : List Int) : List (Option Cd) := (blks l).map cardOf
theorem fold_O : ∀ (ps : List (List Int × Bool)) {t : Tr} {b : Int}, TrOK t b → (∀ p ∈ ps, By p.1) → ps.foldl addC t = (ps.map cardOf).foldl addO t
 | [], _, _, _, _ => rfl
 | p :: ps, t, b, ht, hb => by
  have h1 := addC_O (hb p (by simp)) ht.1
  rw [List.foldl_cons, List.map_cons, List.foldl_cons, ← h1]
  exact fold_O ps (addC_ok ht (hb p (by simp))) fun q hq => hb q (by simp [hq])
theorem blks_by {l : List Int} (hb : By l) : ∀ p ∈ blks l, By p.1 := fun p hp => by
 unfold blks chL at hp
 rw [List.map_map, List.mem_map] at hp
 obtain ⟨k, _, rfl⟩ := hp
 exact chAt_by hb k
theorem addL_O {t : Tr} {b : Int} {l : List Int} (ht : TrOK t b) (hb : By l) : addL t l = (Vs l).foldl addO t := fold_O _ ht (blks_by hb)
def Conf (os : List (Option Cd)) : Prop := ∃ c d, some c ∈ os ∧ some d ∈ os ∧ c.n = d.n ∧ c.i = d.i ∧ c ≠ d
def MConf (os : List (Option Cd)) : Prop := ∃ c d, some c ∈ os ∧ some d ∈ os ∧ c.n = d.n ∧ c.m ≠ d.m
structure TrL (os : List (Option Cd)) (t : Tr) : Prop where
 sp : t.sp = (os.countP Option.isNone : Nat)
 keys : Keys t.es
 sub : ∀ c ∈ t.es, some c ∈ os
 cov : ∀ c, some c ∈ os → ∃ d ∈ t.es, d.n = c.n ∧ d.i = c.i ∧ (t.tw = false → d = c)
 tw : t.tw = true → Conf os
theorem Conf.mono {a b : List (Option Cd)} (h : ∀ c, some c ∈ a → some c ∈ b) : Conf a → Conf b := fun ⟨c, d, h1, h2, h3⟩ => ⟨c, d, h c h1, h d h2, h3⟩
theorem MConf.mono {a b : List (Option Cd)} (h : ∀ c, some c ∈ a → some c ∈ b) : MConf a → MConf b := fun ⟨c, d, h1, h2, h3⟩ => ⟨c, d, h c h1, h d h2, h3⟩
theorem TrL.step {os : List (Option Cd)} {t : Tr} (h : TrL os t) (o : Option Cd) : TrL (os ++ [o]) (addO t o) := by
 cases o with
 | none =>
  refine ⟨?_, h.keys, fun c hc => by simp [h.sub c hc], fun c hc => ?_, fun ht => (h.tw ht).mono fun c hc => by simp [hc]⟩
  ·show t.sp + 1 = _
   rw [h.sp, List.countP_append]; simp
  ·rcases List.mem_append.1 hc with hc | hc
   ·exact h.cov c hc
   ·simp at hc
 | some c =>
  have hsp : ∀ x : Tr, x.sp = t.sp → x.sp = ((os ++ [some c]).countP Option.isNone : Nat) := fun x hx => by
   rw [hx, h.sp, List.countP_append]; simp
  unfold addO
  simp only
  cases hf : findC t.es c.n c.i with
  | none =>
   simp only
   refine ⟨hsp _ rfl, List.pairwise_append.2 ⟨h.keys, List.pairwise_singleton _ _, fun a ha b hb => ?_⟩, fun d hd => ?_, fun d hd => ?_, fun ht => (h.tw ht).mono fun c hc => by simp [hc]⟩
   ·rw [List.mem_singleton.1 hb]
    exact find_none hf a ha
   ·rcases List.mem_append.1 hd with hd | hd
    ·simp [h.sub d hd]
    ·rw [List.mem_singleton.1 hd]; simp
   ·rcases List.mem_append.1 hd with hd | hd
    ·obtain ⟨x, h1, h2⟩ := h.cov d hd
     exact ⟨x, by simp [h1], h2⟩
    ·simp only [List.mem_singleton, Option.some.injEq] at hd
     exact ⟨c, by simp, by rw [hd], by rw [hd], fun _ => hd.symm⟩
  | some old =>
   simp only
   obtain ⟨q1, q2, q3⟩ := find_mem hf
   refine ⟨hsp _ rfl, h.keys, fun d hd => by simp [h.sub d hd], fun d hd => ?_, fun ht => ?_⟩
   ·rcases List.mem_append.1 hd with hd | hd
    ·obtain ⟨x, h1, h2, h3, h4⟩ := h.cov d hd
     refine ⟨x, h1, h2, h3, fun ht => h4 ?_⟩
     rw [Bool.or_eq_false_iff] at ht
     exact ht.1
    ·simp only [List.mem_singleton, Option.some.injEq] at hd
     subst hd
     refine ⟨old, q1, q2, q3, fun ht => ?_⟩
     rw [Bool.or_eq_false_iff] at ht
     simpa using ht.2
   ·rw [Bool.or_eq_true] at ht
    rcases ht with ht | ht
    ·exact (h.tw ht).mono fun c hc => by simp [hc]
    ·have hne : old ≠ c := by simpa using ht
     exact ⟨old, c, by simp [h.sub old q1], by simp, q2, q3, hne⟩
theorem tray_law : ∀ (os : List (Option Cd)), TrL os (os.foldl addO tr0) := by
 have key : ∀ (ps os : List (Option Cd)) (t : Tr), TrL os t → TrL (os ++ ps) (ps.foldl addO t) := by
  intro ps
  induction ps with
  | nil => intro os t h; simpa using h
  | cons p ps ih =>
   intro os t h
   have := ih (os ++ [p]) (addO t p) (h.step p)
   rwa [List.append_assoc] at this
 intro os
 have := key os [] tr0 ⟨rfl, tr0_keys, fun c hc => by simp [tr0] at hc, fun c hc => by simp at hc, fun h => by simp [tr0] at h⟩
 rwa [List.nil_append] at this
theorem keys_one {l : List Cd} (hk : Keys l) {a b : Cd} (ha : a ∈ l) (hb : b ∈ l) (h1 : a.n = b.n) (h2 : a.i = b.i) : a = b := by
 induction l with
 | nil => simp at ha
 | cons x r ih =>
  unfold Keys at hk ih
  rw [List.pairwise_cons] at hk
  rcases List.mem_cons.1 ha with ha' | ha'
  ·rcases List.mem_cons.1 hb with hb' | hb'
   ·rw [ha', hb']
   ·rw [ha'] at h1 h2
    exact absurd ⟨h1, h2⟩ (hk.1 b hb')
  ·rcases List.mem_cons.1 hb with hb' | hb'
   ·rw [hb'] at h1 h2
    exact absurd ⟨h1.symm, h2.symm⟩ (hk.1 a ha')
   ·exact ih hk.2 ha' hb'
theorem TrL.mem {os : List (Option Cd)} {t : Tr} (h : TrL os t) (ht : t.tw = false) (c : Cd) : c ∈ t.es ↔ some c ∈ os := by
 refine ⟨h.sub c, fun hc => ?_⟩
 obtain ⟨d, d1, _, _, d4⟩ := h.cov c hc
 rw [← d4 ht]; exact d1
theorem Keys.nodup {l : List Cd} (h : Keys l) : l.Nodup := h.imp fun hk e => hk ⟨by rw [e], by rw [e]⟩
def Srt (os : List (Option Cd)) (L : List Cd) : Prop := L.Pairwise kLt ∧ ∀ c, c ∈ L ↔ some c ∈ os
theorem kLt_irr {a : Cd} : ¬ kLt a a := by unfold kLt; omega
theorem Srt.nodup {os : List (Option Cd)} {L : List Cd} (h : Srt os L) : L.Nodup := h.1.imp fun hk e => by rw [e] at hk; exact kLt_irr hk
theorem kLt_asym {a b : Cd} (h : kLt a b) : ¬ kLt b a := by unfold kLt at *; omega
theorem Srt.unique {os : List (Option Cd)} {L M : List Cd} (h : Srt os L) (g : Srt os M) : L = M := by
 have hp : L.Perm M := (List.perm_ext_iff_of_nodup h.nodup g.nodup).2 fun c => by rw [h.2, g.2]
 exact (sorted_one L M hp h.1 (g.1.imp kLt_asym)).symm
theorem TrL.srt {os : List (Option Cd)} {t : Tr} (h : TrL os t) (ht : t.tw = false) : Srt os (sortC t.es) :=
 ⟨sortC_sorted h.keys, fun c => by rw [(sortC_perm _).mem_iff, h.mem ht]⟩
theorem goG_tw : ∀ (r : List Cd) (done : List (List Cd)) (h : Cd) (t : List Cd) (tw : Bool), (h :: r).Pairwise (fun a b => a.n ≤ b.n) →
  ((goG done h t tw r).2 = true ↔ tw = true ∨ ∃ c d, c ∈ h :: r ∧ d ∈ h :: r ∧ c.n = d.n ∧ c.m ≠ d.m)
 | [], done, h, t, tw, _ => by
  rw [goG_nil]
  constructor
  ·exact .inl
  ·rintro (h1 | ⟨c, d, hc, hd, _, hm⟩)
   ·exact h1
   ·rw [List.mem_singleton.1 hc, List.mem_singleton.1 hd] at hm
    exact absurd rfl hm
 | c :: r, done, h, t, tw, hs => by
  rw [List.pairwise_cons] at hs
  obtain ⟨hs1, hs2⟩ := hs
  by_cases hn : h.n = c.n
  ·rw [goG_same hn, goG_tw r done h (t ++ [c]) _ (List.pairwise_cons.2 ⟨fun x hx => hs1 x (by simp [hx]), (List.pairwise_cons.1 hs2).2⟩)]
   rw [Bool.or_eq_true, bne_iff_ne]
   constructor
   ·rintro ((h1 | h1) | ⟨a, b, ha, hb, hab, hm⟩)
    ·exact .inl h1
    ·exact .inr ⟨h, c, by simp, by simp, hn, h1⟩
    ·exact .inr ⟨a, b, by rcases List.mem_cons.1 ha with rfl | ha <;> simp [*], by rcases List.mem_cons.1 hb with rfl | hb <;> simp [*], hab, hm⟩
   ·rintro (h1 | ⟨a, b, ha, hb, hab, hm⟩)
    ·exact .inl (.inl h1)
    ·by_cases hmc : h.m = c.m
     ·right
      have fix : ∀ x, x ∈ h :: c :: r → ∃ y, y ∈ h :: r ∧ y.n = x.n ∧ y.m = x.m := fun x hx => by
       rcases List.mem_cons.1 hx with rfl | hx
       ·exact ⟨x, by simp, rfl, rfl⟩
       ·rcases List.mem_cons.1 hx with rfl | hx
        ·exact ⟨h, by simp, hn, hmc⟩
        ·exact ⟨x, by simp [hx], rfl, rfl⟩
      obtain ⟨a', a1, a2, a3⟩ := fix a ha
      obtain ⟨b', b1, b2, b3⟩ := fix b hb
      exact ⟨a', b', a1, b1, by rw [a2, b2, hab], by rw [a3, b3]; exact hm⟩
     ·exact .inl (.inr hmc)
  ·rw [goG_new hn, goG_tw r _ c [] tw hs2]
   constructor
   ·rintro (h1 | ⟨a, b, ha, hb, hab⟩)
    ·exact .inl h1
    ·exact .inr ⟨a, b, by simp [ha], by simp [hb], hab⟩
   ·rintro (h1 | ⟨a, b, ha, hb, hab, hm⟩)
    ·exact .inl h1
    ·have hlt : ∀ x, x ∈ c :: r → h.n < x.n := fun x hx => by
      have h1 := hs1 c (by simp)
      have h2 : c.n ≤ x.n := by
       rcases List.mem_cons.1 hx with rfl | hx
       ·exact Int.le_refl _
       ·exact (List.pairwise_cons.1 hs2).1 x hx
      omega
     right
     rcases List.mem_cons.1 ha with ha | ha
     ·rcases List.mem_cons.1 hb with hb | hb
      ·rw [ha, hb] at hm; exact absurd rfl hm
      ·have := hlt b hb; rw [ha] at hab; omega
     ·rcases List.mem_cons.1 hb with hb | hb
      ·have := hlt a ha; rw [hb] at hab; omega
      ·exact ⟨a, b, ha, hb, hab, hm⟩
theorem numG_tw {tw : Bool} {L : List Cd} (hs : L.Pairwise kLt) : (numG tw L).2 = true ↔ tw = true ∨ ∃ c d, c ∈ L ∧ d ∈ L ∧ c.n = d.n ∧ c.m ≠ d.m := by
 cases L with
 | nil => unfold numG; simp
 | cons h r => unfold numG; exact goG_tw r [] h [] tw (hs.imp fun hk => by unfold kLt at hk; omega)
def Grp : List (List Cd) → Prop
 | [] => True
 | g :: G => g ≠ [] ∧ (∀ c ∈ g, c.n = headN g) ∧ (∀ g' ∈ G.head?, headN g' ≠ headN g) ∧ Grp G
theorem goG_of : ∀ (G : List (List Cd)) (r : List Cd) (done : List (List Cd)) (h : Cd) (t : List Cd) (tw : Bool), Grp G → (∀ c ∈ r, c.n = h.n) → (∀ g' ∈ G.head?, headN g' ≠ h.n) → (goG done h t tw (r ++ G.flatten)).1 = done ++ [h :: t ++ r] ++ G
 | G, c :: r, done, h, t, tw, hG, hr, hh => by
  rw [List.cons_append, goG_same (hr c (by simp)).symm, goG_of G r done h (t ++ [c]) _ hG (fun x hx => hr x (by simp [hx])) hh]
  simp
 | [], [], done, h, t, tw, _, _, _ => by
  rw [List.flatten_nil, List.append_nil, goG_nil]; simp
 | g :: G, [], done, h, t, tw, hG, _, hh => by
  obtain ⟨g1, g2, g3, g4⟩ := hG
  cases g with
  | nil => exact absurd rfl g1
  | cons x g =>
   have hx : h.n ≠ x.n := fun e => hh (x :: g) rfl e.symm
   rw [List.nil_append, List.flatten_cons, List.cons_append, goG_new hx, goG_of G g _ x [] tw g4 (fun y hy => g2 y (by simp [hy])) g3]
   simp
theorem numG_of {G : List (List Cd)} (tw : Bool) (h : Grp G) : (numG tw G.flatten).1 = G := by
 cases G with
 | nil => rfl
 | cons g G =>
  obtain ⟨g1, g2, g3, g4⟩ := h
  cases g with
  | nil => exact absurd rfl g1
  | cons x g =>
   rw [List.flatten_cons, List.cons_append]
   unfold numG
   rw [goG_of G g [] x [] tw g4 (fun y hy => g2 y (by simp [hy])) g3]
   simp
theorem openL_ok {l : List Int} (hl : l.length ≤ 8000) (hb : By l) {L : List Cd} (hL : Srt (Vs l) L) (hc : ¬ Conf (Vs l)) (hm : ¬ MConf (Vs l)) : openL l = ((numG false L).1, (((Vs l).countP Option.isNone : Nat) : Int), 0) := by
 have ht := tray_law (Vs l)
 rw [← addL_O tr0_ok hb] at ht
 have htw : (addL tr0 l).tw = false := by
  cases e : (addL tr0 l).tw with
  | false => rfl
  | true => exact absurd (ht.tw e) hc
 have hs := ht.srt htw
 have e := hs.unique hL
 have h2 : (numG false L).2 = false := by
  cases e2 : (numG false L).2 with
  | false => rfl
  | true =>
   rcases (numG_tw hL.1).1 e2 with h | ⟨c, d, h1, h2, h3⟩
   ·cases h
   ·exact absurd ⟨c, d, (hL.2 c).1 h1, (hL.2 d).1 h2, h3⟩ hm
 unfold openL
 rw [if_neg (by omega), htw, e, h2, cond_false, ht.sp]
end Go.Ev.Ytljkplahkokpaaa


set_option linter.unusedVariables false
set_option linter.unusedSimpArgs false
set_option maxRecDepth 100000
namespace Go.Ev.Ytljkplahkokpaaa
open Go.Proofs
theorem chL_app {A B : List Int} {n : Nat} (h : A.length = 40 * n) : chL (A ++ B) = chL A ++ chL B := by
 unfold chL
 have e1 : nCh A = n := by unfold nCh; omega
 have e2 : nCh (A ++ B) = n + nCh B := by unfold nCh; rw [List.length_append]; omega
 rw [e1, e2, List.range_add, List.map_append, List.map_map]
 congr 1
 ·refine List.map_congr_left fun k hk => ?_
  rw [List.mem_range] at hk
  unfold chAt
  rw [List.drop_append_of_le_length (by omega), List.take_append_of_le_length (by rw [List.length_drop]; omega)]
 ·refine List.map_congr_left fun k hk => ?_
  show chAt (A ++ B) (n + k) = chAt B k
  unfold chAt
  rw [List.drop_append, List.drop_of_length_le (by omega), List.nil_append]
  congr 2
  omega
theorem Vs_app {A B : List Int} {n : Nat} (h : A.length = 40 * n) : Vs (A ++ B) = Vs A ++ Vs B := by
 unfold Vs blks
 rw [chL_app h, List.map_append, List.map_append]
theorem pad_full {x : List Int} (h : x.length = 40) : pad x = x := by unfold pad; rw [h]; simp
theorem chL_one {x : List Int} (h0 : 0 < x.length) (h : x.length ≤ 40) : chL x = [x] := by
 unfold chL
 have e : nCh x = 1 := by unfold nCh; omega
 rw [e]
 show [chAt x 0] = [x]
 unfold chAt
 rw [show 40 * 0 = 0 from rfl, List.drop_zero, List.take_of_length_le h]
theorem Vs_block {x : List Int} (h : x.length = 40) : Vs x = [readR x] := by
 unfold Vs blks
 rw [chL_one (by omega) (by omega), List.map_cons, List.map_nil, List.map_cons, List.map_nil, pad_full h]
 unfold cardOf
 rw [decide_eq_true h]
 rfl
def SameS (a b : List (Option Cd)) : Prop := ∀ c, some c ∈ a ↔ some c ∈ b
def turnedL (b : List Int) (k t : Nat) : List Int := bif decide (b.length / 40 = 0) then b else
 ((b.drop (40 * k)).take (40 * (b.length / 40) - 40 * k) ++ b.take (40 * k)) ++ (bif decide (b.length + 40 ≤ 8000) then (b.drop (40 * t)).take 40 else []) ++ b.drop (40 * (b.length / 40))
end Go.Ev.Ytljkplahkokpaaa


set_option linter.unusedVariables false
set_option linter.unusedSimpArgs false
set_option maxRecDepth 100000
namespace Go.Ev.Ytljkplahkokpaaa
open Go.Proofs
attribute [local irreducible] Pure Bor Iter Pan
theorem same_pure (a b : List Pt) (ha : a.length ≤ 100000) (hb : b.length ≤ 100000) : Pure Try.prog 41 [ptsD a, ptsD b] (dB (decide (a = b))) := by
 have hma : ((a.map ptD).length : Int) = a.length := by rw [List.length_map]
 have hmb : ((b.map ptD).length : Int) = b.length := by rw [List.length_map]
 refine pure_of pg Try.func41 (by kernel_rfl) ?_
 by_cases hl : a.length = b.length
 ·have f1 : (((a.map ptD).length : Int) != ((b.map ptD).length : Int)) = false := by rw [hma, hmb, hl]; simp
  conv => whnf
  (repeat' (first | (apply kT (by with_reducible first | rfl | assumption); conv => whnf) | (apply kF (by with_reducible first | rfl | assumption); conv => whnf) | (apply kT (by decide); conv => whnf) | (apply kF (by decide); conv => whnf) | (apply kB <;> intro _ <;> conv => whnf) | fail))
  refine ⟨[], [0, 1, 5], [], 0, fun m s => ∃ k : Nat, k + m = a.length ∧ (∀ i (h : i < k) (h1 : i < a.length) (h2 : i < b.length), a[i] = b[i]) ∧ s = ⟨[(0, .d (ptsD a)), (1, .d (ptsD b)), (5, .d (dI k))], [], 0⟩, ?_, ?_⟩
  ·conv => whnf
   exact ⟨a.length, 0, by omega, fun i h => by omega, rfl⟩
  ·rintro m _ ⟨k, hk, hall, rfl⟩
   by_cases hkl : k < a.length
   ·have f2 : decide ((k : Int) < ((a.map ptD).length : Int)) = true := decide_eq_true (by rw [hma]; omega)
    by_cases h1 : a[k] = b[k]
    ·have g1 : (!(a[k].s == b[k].s && (a[k].l == b[k].l && true))) = false := by rw [h1]; simp
     conv => whnf
     (repeat' (first | (apply kT (by with_reducible first | rfl | assumption); conv => whnf) | (apply kF (by with_reducible first | rfl | assumption); conv => whnf) | (apply kT (by decide); conv => whnf) | (apply kF (by decide); conv => whnf) | (apply kB <;> intro _ <;> conv => whnf) | (refine ⟨k, _, rfl, getpt a k hkl, rfl, ?_⟩; conv => whnf) | (refine ⟨k, _, rfl, getpt b k (by omega), rfl, ?_⟩; conv => whnf) | fail))
     refine ⟨m - 1, by omega, k + 1, by omega, fun i hi q1 q2 => ?_, ?_⟩
     ·by_cases h : i < k
      ·exact hall i h q1 q2
      ·have : i = k := by omega
       subst this
       exact h1
     ·rw [w1 k (by omega)]
    ·have g1 : (!(a[k].s == b[k].s && (a[k].l == b[k].l && true))) = true := by
      rw [Bool.not_eq_true', Bool.and_true]
      cases e : (a[k].s == b[k].s && a[k].l == b[k].l) with
      | false => rfl
      | true =>
       rw [Bool.and_eq_true, beq_iff_eq, beq_iff_eq] at e
       have ea : a[k] = ⟨a[k].s, a[k].l⟩ := rfl
       exact absurd (by rw [ea, e.1, e.2]) h1
     rw [eqF' hkl (by omega) h1]
     conv => whnf
     (repeat' (first | (apply kT (by with_reducible first | rfl | assumption); conv => whnf) | (apply kF (by with_reducible first | rfl | assumption); conv => whnf) | (apply kT (by decide); conv => whnf) | (apply kF (by decide); conv => whnf) | (apply kB <;> intro _ <;> conv => whnf) | (refine ⟨k, _, rfl, getpt a k hkl, rfl, ?_⟩; conv => whnf) | (refine ⟨k, _, rfl, getpt b k (by omega), rfl, ?_⟩; conv => whnf) | fail))
     rfl
   ·have f2 : decide ((k : Int) < ((a.map ptD).length : Int)) = false := decide_eq_false (by rw [hma]; omega)
    have e : decide (a = b) = true := decide_eq_true (List.ext_getElem hl fun i h1 h2 => hall i (by omega) h1 h2)
    rw [e]
    conv => whnf
    (apply kF (f2); conv => whnf)
    rfl
 ·have f1 : (((a.map ptD).length : Int) != ((b.map ptD).length : Int)) = true := by rw [hma, hmb, bne_iff_ne]; omega
  have e : decide (a = b) = false := decide_eq_false fun e => hl (by rw [e])
  rw [e]
  conv => whnf
  (apply kT (f1); conv => whnf)
  rfl
end Go.Ev.Ytljkplahkokpaaa


set_option linter.unusedVariables false
set_option linter.unusedSimpArgs false
set_option maxRecDepth 100000
namespace Go.Ev.Ytljkplahkokpaaa
open Go.Proofs
theorem getpp (l : List (List Pt)) (k : Nat) (h : k < l.length) : (l.map rowP)[k]? = some (rowP l[k]) := by simp [h]
attribute [local irreducible] Pure Bor Iter Pan openL readG missG piecesG turnedL
end Go.Ev.Ytljkplahkokpaaa


set_option linter.unusedVariables false
set_option linter.unusedSimpArgs false
set_option maxRecDepth 100000
namespace Go.Ev.Ytljkplahkokpaaa
open Go.Proofs
def ShOK (s : Sh) : Prop := PtsOK s.ps ∧ s.ps.length ≤ 100 ∧ 0 ≤ s.n ∧ s.n ≤ 9999
theorem ShOK.check {s : Sh} (h : ShOK s) : checkI [s] = 0 := check_one h.2.1 (shB_ok.2 ⟨h.2.2.1, h.2.2.2, h.1⟩)
theorem ShOK.run {s : Sh} (h : ShOK s) : Run s.ps := (runB_ok.1 h.1).2.2
theorem ShOK.pos {s : Sh} (h : ShOK s) : 0 < s.ps.length := (runB_ok.1 h.1).1
theorem ShOK.many {s : Sh} (h : ShOK s) : 0 < (cardsL s).length ∧ (cardsL s).length ≤ 10 := by
 have := cuts_count s.ps
 have h2 := h.2.1
 rw [cards_len]
 refine ⟨?_, by omega⟩
 rw [cuts_cons h.pos]
 simp
theorem card_at {s : Sh} {c : Cd} (h : c ∈ cardsL s) : ∃ (k : Nat) (hk : k < (cardsL s).length), c = ⟨s.n, k, (cardsL s).length, (cuts s.ps)[k]'(by rw [← cards_len]; exact hk)⟩ := by
 obtain ⟨k, hk, rfl⟩ := List.getElem_of_mem h
 refine ⟨k, hk, ?_⟩
 rw [cards_at s k hk]
 simp only [cards_len]
theorem ShOK.card {s : Sh} (h : ShOK s) {c : Cd} (hc : c ∈ cardsL s) : CdOK c ∧ c.n = s.n ∧ c.m = (cardsL s).length := by
 have hroom := cards_room h.run hc
 obtain ⟨k, hk, rfl⟩ := card_at hc
 have hm := h.many
 have hp : (cuts s.ps)[k]'(by rw [← cards_len]; exact hk) ∈ cuts s.ps := List.getElem_mem _
 have hv := cutsF_v _ _ h.1.v _ hp
 have h0 := ((cuts_ok h.run).1 _ hp).1
 refine ⟨⟨h.2.2, ⟨?_, ?_⟩, ⟨?_, ?_⟩, hv.ok h0, hroom⟩, rfl, rfl⟩
 ·show (1 : Int) ≤ ((cardsL s).length : Nat); omega
 ·show (((cardsL s).length : Nat) : Int) ≤ 20; omega
 ·show (0 : Int) ≤ (k : Nat); omega
 ·show ((k : Nat) : Int) < ((cardsL s).length : Nat); omega
theorem cards_lt (s : Sh) : (cardsL s).Pairwise kLt := by
 rw [List.pairwise_iff_getElem]
 intro i j hi hj hij
 rw [cards_at s i hi, cards_at s j hj]
 right
 exact ⟨rfl, by show ((i : Nat) : Int) < (j : Nat); omega⟩
theorem cds_ps (n m : Int) : ∀ (l : List (List Pt)) (k : Nat), (cds n m k l).map Cd.ps = l
 | [], k => rfl
 | p :: r, k => by rw [cds_cons, List.map_cons, cds_ps n m r]
theorem ptsOf_cards {s : Sh} (h : ShOK s) : ptsOf (cardsL s) = s.ps := by
 unfold ptsOf cardsL
 rw [cds_ps]
 exact (cuts_ok h.run).2.1
def keptAt (keep : Cd → Bool) (s : Sh) : List Cd := (cardsL s).filter keep
def kept (keep : Cd → Bool) (S : List Sh) : List (List Cd) := (S.map (keptAt keep)).filter fun g => !g.isEmpty
theorem flat_ne : ∀ (G : List (List Cd)), (G.filter fun g => !g.isEmpty).flatten = G.flatten
 | [] => rfl
 | [] :: G => by simp [flat_ne G]
 | (c :: g) :: G => by simp [flat_ne G]
theorem kept_head {keep : Cd → Bool} {S : List Sh} (h : ∀ s ∈ S, ShOK s) {g : List Cd} (hg : g ∈ kept keep S) : ∃ s ∈ S, g = keptAt keep s ∧ g ≠ [] ∧ headN g = s.n ∧ ∀ c ∈ g, c.n = s.n := by
 unfold kept at hg
 obtain ⟨h1, h2⟩ := List.mem_filter.1 hg
 obtain ⟨s, hs, rfl⟩ := List.mem_map.1 h1
 have hn : ∀ c ∈ keptAt keep s, c.n = s.n := fun c hc => ((h s hs).card (List.mem_filter.1 hc).1).2.1
 refine ⟨s, hs, rfl, ?_, ?_, hn⟩
 ·cases e : keptAt keep s with
  | nil => rw [e] at h2; simp at h2
  | cons => simp
 ·cases e : keptAt keep s with
  | nil => rw [e] at h2; simp at h2
  | cons c t => exact hn c (by rw [e]; simp)
theorem kept_grp (keep : Cd → Bool) : ∀ {S : List Sh}, (∀ s ∈ S, ShOK s) → S.Pairwise (fun a b => a.n < b.n) → Grp (kept keep S)
 | [], _, _ => trivial
 | s :: S, h, hp => by
  rw [List.pairwise_cons] at hp
  have ih := kept_grp keep (S := S) (fun x hx => h x (by simp [hx])) hp.2
  have e : kept keep (s :: S) = if (!(keptAt keep s).isEmpty) = true then keptAt keep s :: kept keep S else kept keep S := by
   unfold kept
   rw [List.map_cons, List.filter_cons]
  rw [e]
  split
  ·rename_i he
   obtain ⟨s', hs', e1, e2, e3, e4⟩ := kept_head (S := [s]) (keep := keep) (fun x hx => h x (by rw [List.mem_singleton.1 hx]; simp)) (g := keptAt keep s) (by unfold kept; rw [List.map_cons, List.filter_cons, if_pos he]; simp)
   rw [List.mem_singleton.1 hs'] at e3 e4
   refine ⟨e2, fun c hc => by rw [e3, e4 c hc], fun g' hg' => ?_, ih⟩
   obtain ⟨x, hx, _, _, q, _⟩ := kept_head (S := S) (keep := keep) (fun x hx => h x (by simp [hx])) (List.mem_of_mem_head? hg')
   have := hp.1 x hx
   rw [q, e3]
   omega
  ·exact ih
theorem kept_flat (keep : Cd → Bool) (S : List Sh) : (kept keep S).flatten = (S.map (keptAt keep)).flatten := flat_ne _
theorem kept_srt (keep : Cd → Bool) {S : List Sh} (h : ∀ s ∈ S, ShOK s) (hp : S.Pairwise fun a b => a.n < b.n) : (S.map (keptAt keep)).flatten.Pairwise kLt := by
 rw [List.pairwise_flatten]
 refine ⟨fun g hg => ?_, ?_⟩
 ·obtain ⟨s, hs, rfl⟩ := List.mem_map.1 hg
  exact (cards_lt s).sublist List.filter_sublist
 ·rw [List.pairwise_map]
  refine hp.imp_of_mem fun {a b} ha hb hab => ?_
  intro x hx y hy
  have h1 := ((h a ha).card (List.mem_filter.1 hx).1).2.1
  have h2 := ((h b hb).card (List.mem_filter.1 hy).1).2.1
  left
  omega
theorem srt_one {L : List Cd} (h : L.Pairwise kLt) {c d : Cd} (hc : c ∈ L) (hd : d ∈ L) (h1 : c.n = d.n) (h2 : c.i = d.i) : c = d :=
 keys_one (l := L) (h.imp fun hk => by unfold kLt at hk; omega) hc hd h1 h2
theorem mem_kept {keep : Cd → Bool} {S : List Sh} {c : Cd} : c ∈ (S.map (keptAt keep)).flatten ↔ (∃ s ∈ S, c ∈ cardsL s) ∧ keep c = true := by
 rw [List.mem_flatten]
 constructor
 ·rintro ⟨g, hg, hc⟩
  obtain ⟨s, hs, rfl⟩ := List.mem_map.1 hg
  obtain ⟨h1, h2⟩ := List.mem_filter.1 hc
  exact ⟨⟨s, hs, h1⟩, h2⟩
 ·rintro ⟨⟨s, hs, h1⟩, h2⟩
  exact ⟨_, List.mem_map.2 ⟨s, hs, rfl⟩, List.mem_filter.2 ⟨h1, h2⟩⟩
theorem kept_open {keep : Cd → Bool} {S : List Sh} (h : ∀ s ∈ S, ShOK s) (hp : S.Pairwise fun a b => a.n < b.n) {b : List Int} (hb : By b) (hl : b.length ≤ 8000)
  (hv : ∀ c, some c ∈ Vs b ↔ (∃ s ∈ S, c ∈ cardsL s) ∧ keep c = true) : openL b = (kept keep S, (((Vs b).countP Option.isNone : Nat) : Int), 0) := by
 have hs : Srt (Vs b) (S.map (keptAt keep)).flatten := ⟨kept_srt keep h hp, fun c => by rw [mem_kept, hv]⟩
 have hone : ∀ s t, s ∈ S → t ∈ S → s.n = t.n → s = t := by
  intro s t hs ht hn
  obtain ⟨i, hi, rfl⟩ := List.getElem_of_mem hs
  obtain ⟨j, hj, rfl⟩ := List.getElem_of_mem ht
  rcases Nat.lt_trichotomy i j with hij | hij | hij
  ·have := List.pairwise_iff_getElem.1 hp i j hi hj hij; omega
  ·subst hij; rfl
  ·have := List.pairwise_iff_getElem.1 hp j i hj hi hij; omega
 have hc : ¬ Conf (Vs b) := fun ⟨c, d, h1, h2, h3, h4, h5⟩ => h5 (srt_one hs.1 ((hs.2 c).2 h1) ((hs.2 d).2 h2) h3 h4)
 have hm : ¬ MConf (Vs b) := fun ⟨c, d, h1, h2, h3, h4⟩ => by
  obtain ⟨⟨s, s1, s2⟩, _⟩ := (hv c).1 h1
  obtain ⟨⟨t, t1, t2⟩, _⟩ := (hv d).1 h2
  obtain ⟨_, u1, u2⟩ := (h s s1).card s2
  obtain ⟨_, v1, v2⟩ := (h t t1).card t2
  have := hone s t s1 t1 (by omega)
  subst this
  omega
 rw [openL_ok hl hb hs hc hm, ← kept_flat, numG_of false (kept_grp keep h hp)]
theorem Vs_flat : ∀ (cs : List Cd), (∀ c ∈ cs, CdOK c) → Vs ((cs.map layB).flatten) = cs.map some
 | [], _ => rfl
 | c :: cs, h => by
  have hc := h c (by simp)
  rw [List.map_cons, List.flatten_cons, Vs_app (n := 1) (lay_len hc.many.1), Vs_block (lay_len hc.many.1), readR_enc hc, Vs_flat cs fun d hd => h d (by simp [hd])]
  rfl
def cardsA (l : List Sh) : List Cd := (l.map cardsL).flatten
end Go.Ev.Ytljkplahkokpaaa


set_option linter.unusedVariables false
set_option linter.unusedSimpArgs false
set_option maxRecDepth 100000
namespace Go.Ev.Ytljkplahkokpaaa
open Go.Proofs
def insS (s : Sh) : List Sh → List Sh
 | [] => [s]
 | t :: r => bif decide (s.n < t.n) then s :: t :: r else t :: insS s r
def sortS (l : List Sh) : List Sh := l.foldr insS []
abbrev sLt (a b : Sh) : Prop := a.n < b.n
attribute [local irreducible] Pure Bor Iter Pan sortS
end Go.Ev.Ytljkplahkokpaaa


set_option linter.unusedVariables false
set_option linter.unusedSimpArgs false
set_option maxRecDepth 100000
namespace Go.Ev.Ytljkplahkokpaaa
open Go.Proofs
def readyB (l : List Sh) : Bool := thinB l && (checkI l == 0) && decide ((l.map Sh.n).Nodup)
theorem Pieces_as {b : List Int} {k : Int} {x : List (List Pt)} {e : Int} (hl : b.length ≤ 100000) (hb : By b) (h : PiecesL b k = (x, e)) : Pure Try.prog 40 [bsD b, dI k] (.tup [.seq (x.map rowP), dI e]) := by
 have := Pieces_pure b k hl hb
 rw [h] at this
 exact this
attribute [local irreducible] Pure Bor Iter Pan sortS fileL checkI thinB ReadL MissL
end Go.Ev.Ytljkplahkokpaaa


set_option linter.unusedVariables false
set_option linter.unusedSimpArgs false
set_option maxRecDepth 100000
namespace Go.Ev.Ytljkplahkokpaaa
open Go.Proofs
def VsF (fs : List (List Int)) : List (Option Cd) := (fs.map Vs).flatten
theorem cat_by {L : List Cd} (h : ∀ c ∈ L, CdOK c) : By (L.map layB).flatten := flat_by fun y hy => by
 obtain ⟨c, hc, rfl⟩ := List.mem_map.1 hy
 obtain ⟨q1, q2, q3, q4, q5⟩ := h c hc
 exact layB_by (h c hc).many.1 (runB_ok.1 q4).2.2
end Go.Ev.Ytljkplahkokpaaa


set_option linter.unusedVariables false
set_option linter.unusedSimpArgs false
set_option maxRecDepth 100000
namespace Go.Ev.Ytljkplahkokpaaa
open Go.Proofs
def onL (on : Nat → Bool) (s : Sh) (k : Nat) : List Cd := ((cardsL s).take k).filter fun c => on c.i.toNat
def onB (on : Nat → Bool) (s : Sh) (k : Nat) : List Int := ((onL on s k).reverse.map layB).flatten
def onP (on : Nat → Bool) (s : Sh) (k : Nat) : List Pt := ptsOf (onL on s k)
def onN (on : Nat → Bool) : Nat → Nat
 | 0 => 0
 | k + 1 => onN on k + (bif on k && (decide (k = 0) || !on (k - 1)) then 1 else 0)
theorem card_i {s : Sh} {k : Nat} (h : k < (cardsL s).length) : (cardsL s)[k].i = (k : Int) := by rw [cards_at s k h]
theorem onL_succ (on : Nat → Bool) {s : Sh} {k : Nat} (h : k < (cardsL s).length) : onL on s (k + 1) = onL on s k ++ (bif on k then [(cardsL s)[k]] else []) := by
 unfold onL
 rw [List.take_add_one, List.getElem?_eq_getElem h, List.filter_append, Option.toList_some, List.filter_cons, card_i h, Int.toNat_natCast]
 cases on k <;> rfl
theorem onB_succ (on : Nat → Bool) {s : Sh} {k : Nat} (h : k < (cardsL s).length) : onB on s (k + 1) = bif on k then layB (cardsL s)[k] ++ onB on s k else onB on s k := by
 unfold onB
 rw [onL_succ on h]
 cases on k <;> simp
theorem onP_succ (on : Nat → Bool) {s : Sh} {k : Nat} (h : k < (cardsL s).length) : onP on s (k + 1) = bif on k then onP on s k ++ (cardsL s)[k].ps else onP on s k := by
 unfold onP ptsOf
 rw [onL_succ on h]
 cases on k <;> simp
theorem onL_zero (on : Nat → Bool) (s : Sh) : onL on s 0 = [] := by unfold onL; rw [List.take_zero]; rfl
theorem onB_zero (on : Nat → Bool) (s : Sh) : onB on s 0 = [] := by unfold onB; rw [onL_zero]; rfl
theorem onP_zero (on : Nat → Bool) (s : Sh) : onP on s 0 = [] := by unfold onP; rw [onL_zero]; rfl
theorem onL_all (on : Nat → Bool) (s : Sh) : onL on s (cardsL s).length = keptAt (fun c => on c.i.toNat) s := by unfold onL keptAt; rw [List.take_length]
theorem pieceF_flat : ∀ (r : List Cd) (cur : List Pt) (i : Int), (pieceF cur i r).flatten = cur ++ ptsOf r
 | [], cur, i => by rw [pieceF]; unfold ptsOf; simp
 | c :: r, cur, i => by
  have e : ptsOf (c :: r) = c.ps ++ ptsOf r := by unfold ptsOf; rw [List.map_cons, List.flatten_cons]
  rw [pieceF, e]
  cases i + 1 == c.i with
  | true => rw [cond_true, pieceF_flat r, List.append_assoc]
  | false => rw [cond_false, List.flatten_cons, pieceF_flat r]
theorem piecesC_flat (g : List Cd) : (piecesC g).flatten = ptsOf g := by
 cases g with
 | nil => rfl
 | cons c t =>
  rw [piecesC_cons, pieceF_flat]
  unfold ptsOf
  rw [List.map_cons, List.flatten_cons]
theorem pieceF_snoc : ∀ (r : List Cd) (cur : List Pt) (i : Int) (c : Cd), (pieceF cur i (r ++ [c])).length = (pieceF cur i r).length + (bif ((r.getLast?.elim i Cd.i) + 1 == c.i) then 0 else 1)
 | [], cur, i, c => by
  rw [List.nil_append, pieceF, pieceF, pieceF, pieceF]
  show _ = _ + (bif i + 1 == c.i then 0 else 1)
  cases i + 1 == c.i <;> rfl
 | d :: r, cur, i, c => by
  have e : (d :: r).getLast?.elim i Cd.i = r.getLast?.elim d.i Cd.i := by
   cases r with
   | nil => rfl
   | cons a r => rw [List.getLast?_cons_cons]; cases h : (a :: r).getLast? with
    | none => rw [List.getLast?_eq_none_iff] at h; cases h
    | some x => rfl
  rw [List.cons_append, pieceF, pieceF, e]
  cases i + 1 == d.i with
  | true => rw [cond_true, cond_true]; exact pieceF_snoc r _ _ c
  | false => rw [cond_false, cond_false, List.length_cons, List.length_cons, pieceF_snoc r _ _ c]; omega
theorem piecesC_snoc (g : List Cd) (c : Cd) : (piecesC (g ++ [c])).length = (piecesC g).length + (bif g.getLast?.elim false (fun d => d.i + 1 == c.i) then 0 else 1) := by
 cases g with
 | nil => rfl
 | cons d t =>
  rw [List.cons_append, piecesC_cons, piecesC_cons, pieceF_snoc]
  congr 2
  cases t with
  | nil => rfl
  | cons a t => rw [List.getLast?_cons_cons]; cases h : (a :: t).getLast? with
   | none => rw [List.getLast?_eq_none_iff] at h; cases h
   | some x => rfl
theorem on_last (on : Nat → Bool) {s : Sh} : ∀ (k : Nat), k ≤ (cardsL s).length → (onL on s k).getLast?.elim false (fun d => d.i + 1 == (k : Int)) = (decide (0 < k) && on (k - 1))
 | 0, _ => by rw [onL_zero]; rfl
 | k + 1, h => by
  have ih := on_last (s := s) on k (by omega)
  rw [onL_succ on (s := s) (k := k) (by omega)]
  rw [show decide (0 < k + 1) = true from decide_eq_true (by omega), Bool.true_and, Nat.add_sub_cancel]
  cases ho : on k with
  | true =>
   rw [cond_true, List.getLast?_concat]
   show ((cardsL s)[k].i + 1 == ((k + 1 : Nat) : Int)) = true
   rw [card_i (s := s) (k := k) (by omega)]
   simp
  | false =>
   rw [cond_false, List.append_nil]
   cases hl : (onL on s k).getLast? with
   | none => rfl
   | some d =>
    have hd := List.mem_of_getLast? hl
    unfold onL at hd
    have hd := (List.mem_filter.1 hd).1
    obtain ⟨j, hj, rfl⟩ := List.getElem_of_mem hd
    rw [List.length_take] at hj
    rw [List.getElem_take]
    show ((cardsL s)[j].i + 1 == ((k + 1 : Nat) : Int)) = false
    rw [card_i (s := s) (k := j) (by omega), beq_eq_false_iff_ne]
    omega
theorem on_pieces (on : Nat → Bool) {s : Sh} : ∀ (k : Nat), k ≤ (cardsL s).length → (piecesC (onL on s k)).length = onN on k
 | 0, _ => by rw [onL_zero]; rfl
 | k + 1, h => by
  have ih := on_pieces (s := s) on k (by omega)
  have hla := on_last (s := s) on k (by omega)
  rw [onL_succ on (s := s) (k := k) (by omega), onN]
  cases ho : on k with
  | false => rw [cond_false, List.append_nil, ih]; rfl
  | true =>
   rw [cond_true, piecesC_snoc, ih, card_i (s := s) (k := k) (by omega), hla]
   congr 1
   by_cases hk : k = 0
   ·subst hk; rfl
   ·rw [decide_eq_true (by omega : 0 < k), decide_eq_false hk]
    cases on (k - 1) <;> rfl
theorem on_ok {s : Sh} (h : ShOK s) (on : Nat → Bool) (k : Nat) : ∀ c ∈ onL on s k, CdOK c := fun c hc => (h.card (List.mem_of_mem_take (List.mem_filter.1 hc).1)).1
theorem on_law {s : Sh} (h : ShOK s) (on : Nat → Bool) : By (onB on s (cardsL s).length) ∧ (onB on s (cardsL s).length).length ≤ 400 ∧
  ((onN on (cardsL s).length = 0 ∧ PiecesL (onB on s (cardsL s).length) s.n = ([], 7)) ∨ (0 < onN on (cardsL s).length ∧ PiecesL (onB on s (cardsL s).length) s.n = (piecesC (keptAt (fun c => on c.i.toNat) s), 0))) := by
 have hok := on_ok h on (cardsL s).length
 have hok2 : ∀ c ∈ (onL on s (cardsL s).length).reverse, CdOK c := fun c hc => hok c (List.mem_reverse.1 hc)
 have hmany := h.many
 have hl : (onL on s (cardsL s).length).length ≤ 10 := by
  unfold onL
  refine Nat.le_trans (List.length_filter_le _ _) ?_
  rw [List.length_take]; omega
 have hbl : (onB on s (cardsL s).length).length ≤ 400 := by
  unfold onB
  rw [layL_len fun c hc => (hok2 c hc).many.1, List.length_reverse]
  omega
 have hby : By (onB on s (cardsL s).length) := cat_by hok2
 refine ⟨hby, hbl, ?_⟩
 have hv : ∀ c, some c ∈ Vs (onB on s (cardsL s).length) ↔ (∃ t ∈ [s], c ∈ cardsL t) ∧ (fun c : Cd => on c.i.toNat) c = true := fun c => by
  have e : Vs (onB on s (cardsL s).length) = (onL on s (cardsL s).length).reverse.map some := by unfold onB; rw [Vs_flat _ hok2]
  rw [e, List.mem_map]
  simp only [List.mem_reverse, Option.some.injEq, exists_eq_right, List.mem_singleton, exists_eq_left]
  rw [onL_all]
  unfold keptAt
  rw [List.mem_filter]
 have ho := kept_open (keep := fun c : Cd => on c.i.toNat) (S := [s]) (fun t ht => by rw [List.mem_singleton.1 ht]; exact h) (List.pairwise_singleton _ _) hby (by omega) hv
 have hp := on_pieces (s := s) on _ (Nat.le_refl _)
 rw [onL_all] at hp
 have hin : inB s.n 0 9999 = true := by
  unfold inB
  rw [Bool.and_eq_true, decide_eq_true_eq, decide_eq_true_eq]
  exact ⟨h.2.2.1, h.2.2.2⟩
 have hkn : kept (fun c : Cd => on c.i.toNat) [s] = if (!(keptAt (fun c : Cd => on c.i.toNat) s).isEmpty) = true then [keptAt (fun c : Cd => on c.i.toNat) s] else [] := by
  unfold kept
  rw [List.map_cons, List.map_nil, List.filter_cons]
  rfl
 unfold PiecesL
 rw [ho, hin, hkn]
 have hn : ∀ c ∈ keptAt (fun c : Cd => on c.i.toNat) s, c.n = s.n := fun c hc => (h.card (List.mem_filter.1 hc).1).2.1
 generalize keptAt (fun c : Cd => on c.i.toNat) s = K at *
 cases K with
 | nil =>
  left
  refine ⟨by rw [← hp]; rfl, rfl⟩
 | cons c t =>
  right
  have h0 : 0 < (piecesC (c :: t)).length := by
   rw [piecesC_cons]
   have : ∀ (r : List Cd) (cur : List Pt) (i : Int), 0 < (pieceF cur i r).length := by
    intro r
    induction r with
    | nil => intro cur i; rw [pieceF]; simp
    | cons d r ih =>
     intro cur i
     rw [pieceF]
     cases i + 1 == d.i with
     | true => exact ih _ _
     | false => simp
   exact this _ _ _
  refine ⟨by omega, ?_⟩
  have e : piecesG s.n [c :: t] = piecesC (c :: t) := by
   show (bif headN (c :: t) != s.n then piecesG s.n [] else piecesC (c :: t) ++ piecesG s.n []) = _
   rw [show (headN (c :: t) != s.n) = false from by show (c.n != s.n) = false; rw [hn c (by simp)]; simp, cond_false, piecesG_nil, List.append_nil]
  rw [if_pos (show (!(c :: t).isEmpty) = true from rfl)]
  show (bif (piecesG s.n [c :: t]).length == 0 then ([], 7) else (piecesG s.n [c :: t], 0)) = _
  rw [e, show ((piecesC (c :: t)).length == 0) = false from by rw [beq_eq_false_iff_ne]; omega, cond_false]
theorem on_mem {s : Sh} (h : ShOK s) (on : Nat → Bool) (k : Nat) : ∀ p ∈ onP on s k, p ∈ s.ps := fun p hp => by
 unfold onP ptsOf at hp
 obtain ⟨l, hl, hpl⟩ := List.mem_flatten.1 hp
 obtain ⟨c, hc, rfl⟩ := List.mem_map.1 hl
 unfold onL at hc
 have hc := List.mem_of_mem_take (List.mem_filter.1 hc).1
 rw [← ptsOf_cards h]
 unfold ptsOf
 exact List.mem_flatten.2 ⟨_, List.mem_map.2 ⟨c, hc, rfl⟩, hpl⟩
end Go.Ev.Ytljkplahkokpaaa


set_option linter.unusedVariables false
set_option linter.unusedSimpArgs false
set_option maxRecDepth 100000
namespace Go.Ev.Ytljkplahkokpaaa
open Go.Proofs
theorem cloneB_bor (l : List Int) (h0 : 0 < l.length) (hl : l.length ≤ 100000) : Bor tb Try.prog 57 [.d (bsD l)] [] 1 (.own 0) [(0, .arr 5 (l.map byC))] := by
 have hne : l.map byC ≠ [] := by intro h; rw [List.map_eq_nil_iff] at h; rw [h] at h0; simp at h0
 have hel : ∀ x ∈ l.map byC, x.length = 1 := fun x h => by rw [List.mem_map] at h; obtain ⟨y, _, rfl⟩ := h; rfl
 have hb : (0 + (l.map byC).length) * 1 ≤ 140737488355328 := by rw [List.length_map]; omega
 refine bor_ofO pg Try.func57 (by kernel_rfl) ?_
 conv => whnf
 (refine ⟨hne, ?_⟩; conv => whnf)
 (repeat' (first | (apply kT (by with_reducible first | rfl | assumption); conv => whnf) | (apply kF (by with_reducible first | rfl | assumption); conv => whnf) | (apply kT (by decide); conv => whnf) | (apply kF (by decide); conv => whnf) | (apply kB <;> intro _ <;> conv => whnf) | fail))
 (refine ⟨hel, hb, ?_⟩; conv => whnf)
 (refine ⟨[0], ?_⟩; conv => whnf)
 exact ⟨rfl, rfl⟩
def rowJ (C : List Cd) (k j : Nat) : List (List D) := match Nat.blt j k with
 | true => match C[j]? with
  | some c => (layB c).map byC
  | none => []
 | false => []
theorem rowJ_new {C : List Cd} {k : Nat} (h : k < C.length) : rowJ C (k + 1) k = (layB C[k]).map byC := by
 unfold rowJ
 rw [show Nat.blt k (k + 1) = true from Nat.ble_eq_true_of_le (by omega), List.getElem?_eq_getElem h]
def ownsC (m n : Nat) : List A := (List.range' n m).map A.own
theorem only10 : ∀ m, m < 11 → A.onlyL [1, 2, 3, 4, 5, 6, 7, 8, 9, 10, 11] (ownsC m 2) = true := by decide
attribute [local irreducible] Pure Bor Iter Pan layB cardsL checkI
abbrev tenO (k : Nat) (C : List Cd) : List (Nat × Ob) := [(2, .arr 5 (rowJ C k 0)), (3, .arr 5 (rowJ C k 1)), (4, .arr 5 (rowJ C k 2)), (5, .arr 5 (rowJ C k 3)), (6, .arr 5 (rowJ C k 4)), (7, .arr 5 (rowJ C k 5)), (8, .arr 5 (rowJ C k 6)), (9, .arr 5 (rowJ C k 7)), (10, .arr 5 (rowJ C k 8)), (11, .arr 5 (rowJ C k 9))]
set_option maxHeartbeats 4000000 in
theorem cards_own (s : Sh) (h : checkI [s] = 0) : Bor tb Try.prog 26 [.d (.agg (shC s))] [] 12 (.tup [.own 1, .d (dI 0)]) ((1, .arw 22 (ownsC (cardsL s).length 2)) :: tenO (cardsL s).length (cardsL s)) := by
 have h1 := (checkI_ok.1 h).2 s (by simp)
 have hr := (runB_ok.1 (shB_ok.1 h1.2).2.2).2.2
 have ck := check_pure [s] (by simp) (by simpa using (show s.ps.length ≤ 100000 by omega))
 rw [h] at ck
 have cb := blocks_pure s (by omega) hr
 obtain ⟨hc1, hc2⟩ := cardsL_ok hr
 have hm : (((cardsL s).map rowC).length : Int) = (cardsL s).length := by rw [List.length_map]
 have h10 : (cardsL s).length ≤ 10 := by
  have := cuts_count s.ps
  rw [cards_len]; omega
 generalize hC : cardsL s = C at *
 refine bor_ofO pg Try.func26 (by kernel_rfl) ?_
 conv => whnf
 (refine .l ?_; conv => whnf)
 (repeat' (first | (apply kT (by with_reducible first | rfl | assumption); conv => whnf) | (apply kF (by with_reducible first | rfl | assumption); conv => whnf) | (apply kT (by decide); conv => whnf) | (apply kF (by decide); conv => whnf) | (apply kB <;> intro _ <;> conv => whnf) | (refine .inl ⟨_, ck, ?_⟩; conv => whnf) | (refine .inl ⟨_, cb, ?_⟩; conv => whnf) | fail))
 refine ⟨[.ownw 5 22, .pad 5, .pad 5, .pad 5, .pad 5, .pad 5, .pad 5, .pad 5, .pad 5, .pad 5, .pad 5, .rex], [5, 15, 16, 17], [1, 2, 3, 4, 5, 6, 7, 8, 9, 10, 11], 12, fun m t => ∃ k : Nat, k + m = C.length ∧ t = ⟨[(5, .own 1), (15, .d (.seq (C.map rowC))), (16, .d (dI (C.map rowC).length)), (17, .d (dI k))], (1, .arw 22 (ownsC k 2)) :: tenO k C, 12⟩, ?_, ?_⟩
 ·conv => whnf
  (refine ⟨rfl, ?_⟩; conv => whnf)
  exact ⟨C.length, 0, by omega, rfl⟩
 ·rintro m _ ⟨k, hk, rfl⟩
  by_cases hkl : k < C.length
  ·have f1 : decide ((k : Int) < ((C.map rowC).length : Int)) = true := decide_eq_true (by rw [hm]; omega)
   have hck := hc1 _ (List.getElem_mem hkl)
   have hg : (C.map rowC)[k]? = some (rowC C[k]) := by simp [hkl]
   have hll := lay_len hck.1
   have cc := cloneB_bor (layB C[k]) (by omega) (by omega)
   have hnew := rowJ_new (C := C) hkl
   generalize C[k] = c at *
   rcases (by omega : k = 0 ∨ k = 1 ∨ k = 2 ∨ k = 3 ∨ k = 4 ∨ k = 5 ∨ k = 6 ∨ k = 7 ∨ k = 8 ∨ k = 9) with rfl | rfl | rfl | rfl | rfl | rfl | rfl | rfl | rfl | rfl
   ·conv => whnf
    (repeat' (first | (apply kT (by with_reducible first | rfl | assumption); conv => whnf) | (apply kF (by with_reducible first | rfl | assumption); conv => whnf) | (apply kT (by decide); conv => whnf) | (apply kF (by decide); conv => whnf) | (apply kB <;> intro _ <;> conv => whnf) | (refine ⟨0, _, rfl, hg, lenB hll, ?_⟩; conv => whnf) | fail))
    (refine ⟨rowC c, List.take_of_length_le (Nat.le_of_eq (lenB hll)), lenB hll, ?_⟩; conv => whnf)
    (refine ⟨((layB c).map bD).map A.d, rfl, by rw [List.length_map]; exact lenB hll, by rw [List.length_map, lenB hll]; decide, oneB _, ?_⟩; conv => whnf)
    (refine .l ⟨by decide, (layB c).map byC, sliceB rfl hll, byL _, by rw [List.length_map]; exact hll, ?_⟩; conv => whnf)
    (refine .inr ⟨[], 1, _, _, cc, ?_⟩; conv => whnf)
    (refine .r ⟨[], ?_⟩; conv => whnf)
    (refine ⟨_, rfl, ?_⟩; conv => whnf)
    (refine ⟨by decide, ownsC 0 2 ++ [.own 13], rfl, ?_⟩; conv => whnf)
    (refine ⟨[0, 15, 13, 3, 4, 5, 6, 7, 8, 9, 10, 11], ?_⟩; conv => whnf)
    (refine ⟨rfl, ?_⟩; conv => whnf)
    refine ⟨m - 1, by omega, 0 + 1, by omega, ?_⟩
    rw [w1 0 (by omega), ← hnew]
    rfl
   ·conv => whnf
    (repeat' (first | (apply kT (by with_reducible first | rfl | assumption); conv => whnf) | (apply kF (by with_reducible first | rfl | assumption); conv => whnf) | (apply kT (by decide); conv => whnf) | (apply kF (by decide); conv => whnf) | (apply kB <;> intro _ <;> conv => whnf) | (refine ⟨1, _, rfl, hg, lenB hll, ?_⟩; conv => whnf) | fail))
    (refine ⟨rowC c, List.take_of_length_le (Nat.le_of_eq (lenB hll)), lenB hll, ?_⟩; conv => whnf)
    (refine ⟨((layB c).map bD).map A.d, rfl, by rw [List.length_map]; exact lenB hll, by rw [List.length_map, lenB hll]; decide, oneB _, ?_⟩; conv => whnf)
    (refine .l ⟨by decide, (layB c).map byC, sliceB rfl hll, byL _, by rw [List.length_map]; exact hll, ?_⟩; conv => whnf)
    (refine .inr ⟨[], 1, _, _, cc, ?_⟩; conv => whnf)
    (refine .r ⟨[], ?_⟩; conv => whnf)
    (refine ⟨_, rfl, ?_⟩; conv => whnf)
    (refine ⟨by decide, ownsC 1 2 ++ [.own 13], rfl, ?_⟩; conv => whnf)
    (refine ⟨[0, 15, 2, 13, 4, 5, 6, 7, 8, 9, 10, 11], ?_⟩; conv => whnf)
    (refine ⟨rfl, ?_⟩; conv => whnf)
    refine ⟨m - 1, by omega, 1 + 1, by omega, ?_⟩
    rw [w1 1 (by omega), ← hnew]
    rfl
   ·conv => whnf
    (repeat' (first | (apply kT (by with_reducible first | rfl | assumption); conv => whnf) | (apply kF (by with_reducible first | rfl | assumption); conv => whnf) | (apply kT (by decide); conv => whnf) | (apply kF (by decide); conv => whnf) | (apply kB <;> intro _ <;> conv => whnf) | (refine ⟨2, _, rfl, hg, lenB hll, ?_⟩; conv => whnf) | fail))
    (refine ⟨rowC c, List.take_of_length_le (Nat.le_of_eq (lenB hll)), lenB hll, ?_⟩; conv => whnf)
    (refine ⟨((layB c).map bD).map A.d, rfl, by rw [List.length_map]; exact lenB hll, by rw [List.length_map, lenB hll]; decide, oneB _, ?_⟩; conv => whnf)
    (refine .l ⟨by decide, (layB c).map byC, sliceB rfl hll, byL _, by rw [List.length_map]; exact hll, ?_⟩; conv => whnf)
    (refine .inr ⟨[], 1, _, _, cc, ?_⟩; conv => whnf)
    (refine .r ⟨[], ?_⟩; conv => whnf)
    (refine ⟨_, rfl, ?_⟩; conv => whnf)
    (refine ⟨by decide, ownsC 2 2 ++ [.own 13], rfl, ?_⟩; conv => whnf)
    (refine ⟨[0, 15, 2, 3, 13, 5, 6, 7, 8, 9, 10, 11], ?_⟩; conv => whnf)
    (refine ⟨rfl, ?_⟩; conv => whnf)
    refine ⟨m - 1, by omega, 2 + 1, by omega, ?_⟩
    rw [w1 2 (by omega), ← hnew]
    rfl
   ·conv => whnf
    (repeat' (first | (apply kT (by with_reducible first | rfl | assumption); conv => whnf) | (apply kF (by with_reducible first | rfl | assumption); conv => whnf) | (apply kT (by decide); conv => whnf) | (apply kF (by decide); conv => whnf) | (apply kB <;> intro _ <;> conv => whnf) | (refine ⟨3, _, rfl, hg, lenB hll, ?_⟩; conv => whnf) | fail))
    (refine ⟨rowC c, List.take_of_length_le (Nat.le_of_eq (lenB hll)), lenB hll, ?_⟩; conv => whnf)
    (refine ⟨((layB c).map bD).map A.d, rfl, by rw [List.length_map]; exact lenB hll, by rw [List.length_map, lenB hll]; decide, oneB _, ?_⟩; conv => whnf)
    (refine .l ⟨by decide, (layB c).map byC, sliceB rfl hll, byL _, by rw [List.length_map]; exact hll, ?_⟩; conv => whnf)
    (refine .inr ⟨[], 1, _, _, cc, ?_⟩; conv => whnf)
    (refine .r ⟨[], ?_⟩; conv => whnf)
    (refine ⟨_, rfl, ?_⟩; conv => whnf)
    (refine ⟨by decide, ownsC 3 2 ++ [.own 13], rfl, ?_⟩; conv => whnf)
    (refine ⟨[0, 15, 2, 3, 4, 13, 6, 7, 8, 9, 10, 11], ?_⟩; conv => whnf)
    (refine ⟨rfl, ?_⟩; conv => whnf)
    refine ⟨m - 1, by omega, 3 + 1, by omega, ?_⟩
    rw [w1 3 (by omega), ← hnew]
    rfl
   ·conv => whnf
    (repeat' (first | (apply kT (by with_reducible first | rfl | assumption); conv => whnf) | (apply kF (by with_reducible first | rfl | assumption); conv => whnf) | (apply kT (by decide); conv => whnf) | (apply kF (by decide); conv => whnf) | (apply kB <;> intro _ <;> conv => whnf) | (refine ⟨4, _, rfl, hg, lenB hll, ?_⟩; conv => whnf) | fail))
    (refine ⟨rowC c, List.take_of_length_le (Nat.le_of_eq (lenB hll)), lenB hll, ?_⟩; conv => whnf)
    (refine ⟨((layB c).map bD).map A.d, rfl, by rw [List.length_map]; exact lenB hll, by rw [List.length_map, lenB hll]; decide, oneB _, ?_⟩; conv => whnf)
    (refine .l ⟨by decide, (layB c).map byC, sliceB rfl hll, byL _, by rw [List.length_map]; exact hll, ?_⟩; conv => whnf)
    (refine .inr ⟨[], 1, _, _, cc, ?_⟩; conv => whnf)
    (refine .r ⟨[], ?_⟩; conv => whnf)
    (refine ⟨_, rfl, ?_⟩; conv => whnf)
    (refine ⟨by decide, ownsC 4 2 ++ [.own 13], rfl, ?_⟩; conv => whnf)
    (refine ⟨[0, 15, 2, 3, 4, 5, 13, 7, 8, 9, 10, 11], ?_⟩; conv => whnf)
    (refine ⟨rfl, ?_⟩; conv => whnf)
    refine ⟨m - 1, by omega, 4 + 1, by omega, ?_⟩
    rw [w1 4 (by omega), ← hnew]
    rfl
   ·conv => whnf
    (repeat' (first | (apply kT (by with_reducible first | rfl | assumption); conv => whnf) | (apply kF (by with_reducible first | rfl | assumption); conv => whnf) | (apply kT (by decide); conv => whnf) | (apply kF (by decide); conv => whnf) | (apply kB <;> intro _ <;> conv => whnf) | (refine ⟨5, _, rfl, hg, lenB hll, ?_⟩; conv => whnf) | fail))
    (refine ⟨rowC c, List.take_of_length_le (Nat.le_of_eq (lenB hll)), lenB hll, ?_⟩; conv => whnf)
    (refine ⟨((layB c).map bD).map A.d, rfl, by rw [List.length_map]; exact lenB hll, by rw [List.length_map, lenB hll]; decide, oneB _, ?_⟩; conv => whnf)
    (refine .l ⟨by decide, (layB c).map byC, sliceB rfl hll, byL _, by rw [List.length_map]; exact hll, ?_⟩; conv => whnf)
    (refine .inr ⟨[], 1, _, _, cc, ?_⟩; conv => whnf)
    (refine .r ⟨[], ?_⟩; conv => whnf)
    (refine ⟨_, rfl, ?_⟩; conv => whnf)
    (refine ⟨by decide, ownsC 5 2 ++ [.own 13], rfl, ?_⟩; conv => whnf)
    (refine ⟨[0, 15, 2, 3, 4, 5, 6, 13, 8, 9, 10, 11], ?_⟩; conv => whnf)
    (refine ⟨rfl, ?_⟩; conv => whnf)
    refine ⟨m - 1, by omega, 5 + 1, by omega, ?_⟩
    rw [w1 5 (by omega), ← hnew]
    rfl
   ·conv => whnf
    (repeat' (first | (apply kT (by with_reducible first | rfl | assumption); conv => whnf) | (apply kF (by with_reducible first | rfl | assumption); conv => whnf) | (apply kT (by decide); conv => whnf) | (apply kF (by decide); conv => whnf) | (apply kB <;> intro _ <;> conv => whnf) | (refine ⟨6, _, rfl, hg, lenB hll, ?_⟩; conv => whnf) | fail))
    (refine ⟨rowC c, List.take_of_length_le (Nat.le_of_eq (lenB hll)), lenB hll, ?_⟩; conv => whnf)
    (refine ⟨((layB c).map bD).map A.d, rfl, by rw [List.length_map]; exact lenB hll, by rw [List.length_map, lenB hll]; decide, oneB _, ?_⟩; conv => whnf)
    (refine .l ⟨by decide, (layB c).map byC, sliceB rfl hll, byL _, by rw [List.length_map]; exact hll, ?_⟩; conv => whnf)
    (refine .inr ⟨[], 1, _, _, cc, ?_⟩; conv => whnf)
    (refine .r ⟨[], ?_⟩; conv => whnf)
    (refine ⟨_, rfl, ?_⟩; conv => whnf)
    (refine ⟨by decide, ownsC 6 2 ++ [.own 13], rfl, ?_⟩; conv => whnf)
    (refine ⟨[0, 15, 2, 3, 4, 5, 6, 7, 13, 9, 10, 11], ?_⟩; conv => whnf)
    (refine ⟨rfl, ?_⟩; conv => whnf)
    refine ⟨m - 1, by omega, 6 + 1, by omega, ?_⟩
    rw [w1 6 (by omega), ← hnew]
    rfl
   ·conv => whnf
    (repeat' (first | (apply kT (by with_reducible first | rfl | assumption); conv => whnf) | (apply kF (by with_reducible first | rfl | assumption); conv => whnf) | (apply kT (by decide); conv => whnf) | (apply kF (by decide); conv => whnf) | (apply kB <;> intro _ <;> conv => whnf) | (refine ⟨7, _, rfl, hg, lenB hll, ?_⟩; conv => whnf) | fail))
    (refine ⟨rowC c, List.take_of_length_le (Nat.le_of_eq (lenB hll)), lenB hll, ?_⟩; conv => whnf)
    (refine ⟨((layB c).map bD).map A.d, rfl, by rw [List.length_map]; exact lenB hll, by rw [List.length_map, lenB hll]; decide, oneB _, ?_⟩; conv => whnf)
    (refine .l ⟨by decide, (layB c).map byC, sliceB rfl hll, byL _, by rw [List.length_map]; exact hll, ?_⟩; conv => whnf)
    (refine .inr ⟨[], 1, _, _, cc, ?_⟩; conv => whnf)
    (refine .r ⟨[], ?_⟩; conv => whnf)
    (refine ⟨_, rfl, ?_⟩; conv => whnf)
    (refine ⟨by decide, ownsC 7 2 ++ [.own 13], rfl, ?_⟩; conv => whnf)
    (refine ⟨[0, 15, 2, 3, 4, 5, 6, 7, 8, 13, 10, 11], ?_⟩; conv => whnf)
    (refine ⟨rfl, ?_⟩; conv => whnf)
    refine ⟨m - 1, by omega, 7 + 1, by omega, ?_⟩
    rw [w1 7 (by omega), ← hnew]
    rfl
   ·conv => whnf
    (repeat' (first | (apply kT (by with_reducible first | rfl | assumption); conv => whnf) | (apply kF (by with_reducible first | rfl | assumption); conv => whnf) | (apply kT (by decide); conv => whnf) | (apply kF (by decide); conv => whnf) | (apply kB <;> intro _ <;> conv => whnf) | (refine ⟨8, _, rfl, hg, lenB hll, ?_⟩; conv => whnf) | fail))
    (refine ⟨rowC c, List.take_of_length_le (Nat.le_of_eq (lenB hll)), lenB hll, ?_⟩; conv => whnf)
    (refine ⟨((layB c).map bD).map A.d, rfl, by rw [List.length_map]; exact lenB hll, by rw [List.length_map, lenB hll]; decide, oneB _, ?_⟩; conv => whnf)
    (refine .l ⟨by decide, (layB c).map byC, sliceB rfl hll, byL _, by rw [List.length_map]; exact hll, ?_⟩; conv => whnf)
    (refine .inr ⟨[], 1, _, _, cc, ?_⟩; conv => whnf)
    (refine .r ⟨[], ?_⟩; conv => whnf)
    (refine ⟨_, rfl, ?_⟩; conv => whnf)
    (refine ⟨by decide, ownsC 8 2 ++ [.own 13], rfl, ?_⟩; conv => whnf)
    (refine ⟨[0, 15, 2, 3, 4, 5, 6, 7, 8, 9, 13, 11], ?_⟩; conv => whnf)
    (refine ⟨rfl, ?_⟩; conv => whnf)
    refine ⟨m - 1, by omega, 8 + 1, by omega, ?_⟩
    rw [w1 8 (by omega), ← hnew]
    rfl
   ·conv => whnf
    (repeat' (first | (apply kT (by with_reducible first | rfl | assumption); conv => whnf) | (apply kF (by with_reducible first | rfl | assumption); conv => whnf) | (apply kT (by decide); conv => whnf) | (apply kF (by decide); conv => whnf) | (apply kB <;> intro _ <;> conv => whnf) | (refine ⟨9, _, rfl, hg, lenB hll, ?_⟩; conv => whnf) | fail))
    (refine ⟨rowC c, List.take_of_length_le (Nat.le_of_eq (lenB hll)), lenB hll, ?_⟩; conv => whnf)
    (refine ⟨((layB c).map bD).map A.d, rfl, by rw [List.length_map]; exact lenB hll, by rw [List.length_map, lenB hll]; decide, oneB _, ?_⟩; conv => whnf)
    (refine .l ⟨by decide, (layB c).map byC, sliceB rfl hll, byL _, by rw [List.length_map]; exact hll, ?_⟩; conv => whnf)
    (refine .inr ⟨[], 1, _, _, cc, ?_⟩; conv => whnf)
    (refine .r ⟨[], ?_⟩; conv => whnf)
    (refine ⟨_, rfl, ?_⟩; conv => whnf)
    (refine ⟨by decide, ownsC 9 2 ++ [.own 13], rfl, ?_⟩; conv => whnf)
    (refine ⟨[0, 15, 2, 3, 4, 5, 6, 7, 8, 9, 10, 13], ?_⟩; conv => whnf)
    (refine ⟨rfl, ?_⟩; conv => whnf)
    refine ⟨m - 1, by omega, 9 + 1, by omega, ?_⟩
    rw [w1 9 (by omega), ← hnew]
    rfl
  ·have f1 : decide ((k : Int) < ((C.map rowC).length : Int)) = false := decide_eq_false (by rw [hm]; omega)
   have ek : k = C.length := by omega
   subst ek
   conv => whnf
   (apply kF (f1); conv => whnf)
   (refine ⟨[1, 2, 3, 4, 5, 6, 7, 8, 9, 10, 11], ?_⟩; conv => whnf)
   (refine ⟨only10 _ (by omega), ?_⟩; conv => whnf)
   exact ⟨rfl, rfl⟩
end Go.Ev.Ytljkplahkokpaaa


set_option linter.unusedVariables false
set_option linter.unusedSimpArgs false
set_option maxRecDepth 100000
namespace Go.Ev.Ytljkplahkokpaaa
open Go.Proofs
theorem clrAL_map (js : List Nat) : ∀ l : List A, clrAL js l = l.map (clrA js)
 | [] => rfl
 | x :: r => by rw [clrAL, clrAL_map js r]; rfl
theorem invAL_map (ρ : List Nat) : ∀ l : List A, invAL ρ l = l.map (invA ρ)
 | [] => rfl
 | x :: r => by rw [invAL, invAL_map ρ r]; rfl
theorem onlyL_all (os : List Nat) : ∀ l : List A, A.onlyL os l = l.all (A.onlyB os)
 | [] => rfl
 | x :: r => by rw [A.onlyL, onlyL_all os r]; rfl
structure CsInv (m k : Nat) (cs : List A) : Prop where
 len : cs.length = m
 at_ : ∀ j, k ≤ j → j < m → cs[j]? = some (.own (3 + j))
 all_ : ∀ x ∈ cs, x = .unk ∨ ∃ j, j < 10 ∧ x = .own (3 + j)
abbrev osP : List Nat := [0, 2, 3, 4, 5, 6, 7, 8, 9, 10, 11, 12, 13, 14]
theorem CsInv.only {m k : Nat} {cs : List A} (h : CsInv m k cs) : A.onlyL osP cs = true := by
 rw [onlyL_all, List.all_eq_true]
 intro x hx
 rcases h.all_ x hx with rfl | ⟨j, hj, rfl⟩
 ·rfl
 ·rcases (by omega : j = 0 ∨ j = 1 ∨ j = 2 ∨ j = 3 ∨ j = 4 ∨ j = 5 ∨ j = 6 ∨ j = 7 ∨ j = 8 ∨ j = 9) with rfl | rfl | rfl | rfl | rfl | rfl | rfl | rfl | rfl | rfl <;> rfl
theorem CsInv.map {m k : Nat} {cs : List A} (h : CsInv m k cs) {f : A → A} (hu : f .unk = .unk) (ho : ∀ j, j < 10 → j ≠ k → f (.own (3 + j)) = .own (3 + j)) (hk : f (.own (3 + k)) = .unk ∨ f (.own (3 + k)) = .own (3 + k)) (hm : m ≤ 10) : CsInv m (k + 1) (cs.map f) := by
 refine ⟨by rw [List.length_map]; exact h.len, fun j h1 h2 => ?_, fun x hx => ?_⟩
 ·rw [List.getElem?_map, h.at_ j (by omega) h2]
  show some (f _) = _
  rw [ho j (by omega) (by omega)]
 ·obtain ⟨y, hy, rfl⟩ := List.mem_map.1 hx
  rcases h.all_ y hy with rfl | ⟨j, hj, rfl⟩
  ·exact .inl hu
  ·by_cases e : j = k
   ·subst e
    exact hk.imp id fun q => ⟨j, hj, q⟩
   ·exact .inr ⟨j, hj, ho j hj e⟩
theorem owns_inv {m : Nat} (h : m ≤ 10) : CsInv m 0 (ownsC m 3) := by
 unfold ownsC
 refine ⟨by simp, fun j _ hj => by rw [List.getElem?_map, List.getElem?_range' hj]; simp, fun x hx => ?_⟩
 obtain ⟨j, hj, rfl⟩ := List.mem_map.1 hx
 obtain ⟨h1, h2⟩ := List.mem_range'_1.1 hj
 exact .inr ⟨j - 3, by omega, by congr 1; omega⟩
theorem outOwns : ∀ (m n : Nat), outAL [] 1 (ownsC m n) = ownsC m (n + 1)
 | 0, _ => rfl
 | m + 1, n => by
  have ih := outOwns m (n + 1)
  unfold ownsC at ih ⊢
  rw [List.range'_succ, List.range'_succ, List.map_cons, List.map_cons, outAL, ih]
  congr 1
  show A.own (outI [] 1 n) = _
  congr 1
  show 1 + (n - 0) = _
  omega
theorem rowJ_at {C : List Cd} {m k : Nat} (h : k < m) (hk : k < C.length) : rowJ C m k = (layB C[k]).map byC := by
 unfold rowJ
 rw [show Nat.blt k m = true from Nat.ble_eq_true_of_le (by omega), List.getElem?_eq_getElem hk]
def onZ (z : Int) (j : Nat) : Bool := ((z.fdiv (2 ^ j)).tmod 2 == 1)
theorem onZ_not {z : Int} (hz : 0 ≤ z) (j : Nat) : ((z.fdiv (2 ^ j)).tmod 2 == 0) = !onZ z j := by
 unfold onZ
 have h0 : (0 : Int) < 2 ^ j := Int.pow_pos (by omega)
 have h1 : 0 ≤ z.fdiv (2 ^ j) := Int.fdiv_nonneg hz (by omega)
 generalize z.fdiv (2 ^ j) = q at *
 rw [Int.tmod_eq_emod_of_nonneg h1]
 rcases (by omega : q % 2 = 0 ∨ q % 2 = 1) with e | e <;> rw [e] <;> rfl
theorem onN_succ (on : Nat → Bool) (k : Nat) : onN on (k + 1) = onN on k + (bif on k && (decide (k = 0) || !on (k - 1)) then 1 else 0) := rfl
theorem onN_le (on : Nat → Bool) : ∀ k, onN on k ≤ k
 | 0 => Nat.le_refl _
 | k + 1 => by
  have := onN_le on k
  rw [onN_succ]
  cases on k && (decide (k = 0) || !on (k - 1)) with
  | true => rw [cond_true]; omega
  | false => rw [cond_false]; omega
theorem on_len {s : Sh} (h : ShOK s) (on : Nat → Bool) (k : Nat) : (onP on s k).length ≤ 200 := by
 have hl : (onL on s k).length ≤ 10 := by
  unfold onL
  have h1 := List.length_filter_le (fun c : Cd => on c.i.toNat) ((cardsL s).take k)
  have := h.many
  rw [List.length_take] at h1
  omega
 have hm := on_ok h on k
 unfold onP ptsOf
 generalize onL on s k = L at *
 have : ∀ L : List Cd, (∀ c ∈ L, CdOK c) → (L.map Cd.ps).flatten.length ≤ 15 * L.length := by
  intro L
  induction L with
  | nil => intro _; simp
  | cons c L ih =>
   intro hc
   have := ih fun x hx => hc x (by simp [hx])
   have := (hc c (by simp)).many
   rw [List.map_cons, List.flatten_cons, List.length_append, List.length_cons]
   omega
 have := this L hm
 omega
theorem sh_u : ∀ j, j < 10 → min (IntKind.u64.wrap ((j : Nat) : Int)).toNat IntKind.u16.bits = j := by decide
theorem sh_p : ∀ j, j < 10 → 0 < j → min (IntKind.u64.wrap (IntKind.i64.wrap (((j : Nat) : Int) - 1))).toNat IntKind.u16.bits = j - 1 := by decide
def mostP (l : List Pt) : Int := l.foldl (fun m p => max m p.l) 0
theorem most_snoc (l : List Pt) {k : Nat} (h : k < l.length) : mostP (l.take (k + 1)) = max (mostP (l.take k)) l[k].l := by
 unfold mostP
 rw [List.take_add_one, List.getElem?_eq_getElem h, List.foldl_append]
 rfl
theorem most_le : ∀ (l : List Pt) (m : Int), m ≤ l.foldl (fun m p => max m p.l) m ∧ ∀ p ∈ l, p.l ≤ l.foldl (fun m p => max m p.l) m
 | [], m => ⟨Int.le_refl _, fun p hp => by simp at hp⟩
 | q :: l, m => by
  obtain ⟨h1, h2⟩ := most_le l (max m q.l)
  rw [List.foldl_cons]
  refine ⟨by omega, fun p hp => ?_⟩
  rcases List.mem_cons.1 hp with rfl | hp
  ·omega
  ·exact h2 p hp
theorem most_mem {l : List Pt} {p : Pt} (h : p ∈ l) : p.l ≤ mostP l := (most_le l 0).2 p h
attribute [local irreducible] Pure Bor Iter Pan layB cardsL cuts checkI shB rowJ onB onP onN onZ PiecesL mostP piecesC keptAt
set_option maxHeartbeats 8000000 in
theorem pieces_walk (s : Sh) (z : Int) (hz : 0 ≤ z ∧ z < 65536) (h : ShOK s) (hs : shB s = true) : Pure Try.prog 9 [.agg (shC s), .v (.int .u16 z)] (dB true) := by
 have h100 := h.2.1
 have hm : ((s.ps.map ptD).length : Int) = s.ps.length := by rw [List.length_map]
 have f1 : decide (((s.ps.map ptD).length : Int) > 100) = false := decide_eq_false (by rw [hm]; omega)
 have ci := isSheet_pure s (by omega)
 rw [hs] at ci
 have csh := sheets_pure [s] (by simp) (by intro x hx; rw [List.mem_singleton.1 hx]; omega)
 have cco := cards_own s h.check
 have hmany := h.many
 obtain ⟨hby, hbl, hlaw⟩ := on_law h (onZ z)
 have hN := cards_len s
 have hall := ahead_all h.run
 obtain ⟨q1, q2⟩ := cardsL_ok h.run
 refine pure_of pg Try.func9 (by kernel_rfl) ?_
 conv => whnf
 (repeat' (first | (apply kT (by with_reducible first | rfl | assumption); conv => whnf) | (apply kF (by with_reducible first | rfl | assumption); conv => whnf) | (apply kT (by decide); conv => whnf) | (apply kF (by decide); conv => whnf) | (apply kB <;> intro _ <;> conv => whnf) | (refine .inl ⟨_, ci, ?_⟩; conv => whnf) | (refine .l ?_; conv => whnf) | (refine .inl ⟨_, csh, ?_⟩; conv => whnf) | (refine ⟨0, _, rfl, rfl, rfl, ?_⟩; conv => whnf) | fail))
 (refine .inr ⟨[], 12, _, _, cco, ?_⟩; conv => whnf)
 (refine ⟨ownsC (cardsL s).length 3, outOwns _ _, ?_⟩; conv => whnf)
 (repeat' (first | (apply kT (by with_reducible first | rfl | assumption); conv => whnf) | (apply kF (by with_reducible first | rfl | assumption); conv => whnf) | (apply kT (by decide); conv => whnf) | (apply kF (by decide); conv => whnf) | (apply kB <;> intro _ <;> conv => whnf) | fail))
 refine ⟨[.own 7 5, .own 8 74, .rex], [1, 2, 5, 7, 8, 9, 10, 11], osP, 15, fun q t => ∃ (k : Nat) (cs : List A) (J : Nat → List (List D)), k + q = (cardsL s).length ∧ CsInv (cardsL s).length k cs ∧ (∀ j, k ≤ j → J j = rowJ (cardsL s) (cardsL s).length j) ∧
  t = ⟨[(1, .d (.v (.int .u16 z))), (2, .ref 0 0), (5, .own 2), (7, .own 13), (8, .own 14), (9, .d (dI (ahead s.ps k))), (10, .d (dI (onN (onZ z) k))), (11, .d (dI k))],
   [(0, .var false 38 ((shC s).map A.d)), (2, .arw 22 cs), (3, .arr 5 (J 0)), (4, .arr 5 (J 1)), (5, .arr 5 (J 2)), (6, .arr 5 (J 3)), (7, .arr 5 (J 4)), (8, .arr 5 (J 5)), (9, .arr 5 (J 6)), (10, .arr 5 (J 7)), (11, .arr 5 (J 8)), (12, .arr 5 (J 9)), (13, .arr 5 ((onB (onZ z) s k).map byC)), (14, .arr 74 ((onP (onZ z) s k).map ptD))], 15⟩, ?_, ?_⟩
 ·conv => whnf
  (refine ⟨(owns_inv hmany.2).only, ?_⟩; conv => whnf)
  refine ⟨(cardsL s).length, 0, _, rowJ (cardsL s) (cardsL s).length, by omega, owns_inv hmany.2, fun j _ => rfl, ?_⟩
  rw [onB_zero, onP_zero, ahead_zero]
  unfold onN
  rfl
 ·rintro q _ ⟨k, cs, J, hk, hcs, hJ, rfl⟩
  by_cases hkl : k < (cardsL s).length
  ·have f2 : decide ((k : Int) < (cs.length : Int)) = true := decide_eq_true (by rw [hcs.len]; omega)
   have hkc : k < (cuts s.ps).length := by omega
   have hck := cards_at s k hkl
   have hq1 := q1 _ (List.getElem_mem hkl)
   have hroom := cards_room h.run (List.getElem_mem hkl)
   have hll := lay_len hq1.1
   have h4 := layB_many hroom hq1.1
   have hJk : J k = (layB (cardsL s)[k]).map byC := (hJ k (Nat.le_refl _)).trans (rowJ_at hkl hkl)
   obtain ⟨a1, a2⟩ := cuts_at _ s.ps (Nat.le_refl _) k hkc
   have hps : (cardsL s)[k].ps = (cuts s.ps)[k] := by rw [hck]
   rw [hps] at h4 hq1
   have hak := ahead_succ hkc
   have haN : ahead s.ps (k + 1) ≤ s.ps.length := by rw [← hall]; exact ahead_mono (by omega)
   have h15 : (cuts s.ps)[k].length ≤ 15 := by
    rw [a2, List.length_take]
    have := cutN_le15 (l := s.ps.drop (ahead s.ps k)) (by rw [List.length_drop]; omega)
    omega
   have hB := onB_succ (onZ z) hkl
   have hP := onP_succ (onZ z) hkl
   have hsl : ((s.ps.map ptD).take (ahead s.ps (k + 1))).drop (ahead s.ps k) = (cardsL s)[k].ps.map ptD := by
    rw [← List.map_take, ← List.map_drop, List.drop_take, hps]
    congr 1
    rw [hak, Nat.add_sub_cancel_left]
    conv => rhs; rw [a2]
    have hl := congrArg List.length a2
    rw [List.length_take, List.length_drop] at hl
    rw [hl, List.take_eq_take_iff]
    rw [List.length_drop]
    omega
   have hBl : (onB (onZ z) s k).length ≤ 400 := by
    have e : onB (onZ z) s k = ((onL (onZ z) s k).reverse.map layB).flatten := by unfold onB; rfl
    have hok := on_ok h (onZ z) k
    rw [e, layL_len fun c hc => (hok c (List.mem_reverse.1 hc)).many.1, List.length_reverse]
    unfold onL
    have := List.length_filter_le (fun c : Cd => onZ z c.i.toNat) ((cardsL s).take k)
    rw [List.length_take] at this
    omega
   have hPl : (onP (onZ z) s k).length ≤ 200 := on_len h _ _
   have cpp := points_pure (cardsL s)[k].ps (by rw [hps]; omega)
   have cpp : Pure Try.prog 39 [.seq (((s.ps.map ptD).take (ahead s.ps (k + 1))).drop (ahead s.ps k))] (ptsD (cardsL s)[k].ps) := by rw [hsl]; exact cpp
   rw [hps] at hP cpp
   generalize hgn : (cuts s.ps)[k].length = nk at *
   have hg4 : (J k)[4]? = some (byC (nk : Nat)) := by
    rw [hJk, List.getElem?_map, h4]
    show some (byC _) = _
    rw [show (((nk : Nat) : Int) % 256) = ((nk : Nat) : Int) from by omega]
   have hJl : (J k).length = 40 := by rw [hJk, List.length_map, hll]
   have hJr : ∀ el ∈ J k, el.length = 1 := by rw [hJk]; exact byL _
   have j1 : (((J k).length : Int) != 40) = false := by rw [hJl]; rfl
   have ew : IntKind.i64.wrap ((ahead s.ps k : Int) + IntKind.i64.wrap ((nk : Nat) : Int)) = (ahead s.ps (k + 1) : Int) := by
    rw [wS (z := ((nk : Nat) : Int)) (by omega) (by omega), wS (by omega) (by omega), hak]; rfl
   have j3 : decide (IntKind.i64.wrap ((ahead s.ps k : Int) + IntKind.i64.wrap ((nk : Nat) : Int)) > ((s.ps.map ptD).length : Int)) = false := decide_eq_false (by rw [ew, hm]; omega)
   have hcell := hcs.at_ k (Nat.le_refl _) hkl
   have hlc := hcs.len
   have hNs := onN_succ (onZ z) k
   have hNl := onN_le (onZ z) k
   have gon : ((z.fdiv (2 ^ min (IntKind.u64.wrap ((k : Nat) : Int)).toNat IntKind.u16.bits)).tmod 2 == 1) = onZ z k := by rw [sh_u k (by omega)]; unfold onZ; rfl
   have gof : 0 < k → ((z.fdiv (2 ^ min (IntKind.u64.wrap (IntKind.i64.wrap (((k : Nat) : Int) - 1))).toNat IntKind.u16.bits)).tmod 2 == 0) = !onZ z (k - 1) := fun h0 => by rw [sh_p k (by omega) h0]; exact onZ_not hz.1 _
   have w1n := w1 (onN (onZ z) k) (by omega)
   have w1k := w1 k (by omega)
   generalize (cuts s.ps)[k] = cut at *
   rcases (by omega : k = 0 ∨ k = 1 ∨ k = 2 ∨ k = 3 ∨ k = 4 ∨ k = 5 ∨ k = 6 ∨ k = 7 ∨ k = 8 ∨ k = 9) with rfl | rfl | rfl | rfl | rfl | rfl | rfl | rfl | rfl | rfl
   ·rcases Bool.eq_false_or_eq_true (onZ z 0) with hon | hon
    ·rw [hon, cond_true] at hB hP
     rw [hon] at gon
     rw [show onN (onZ z) 0 + (bif onZ z 0 && (decide (0 = 0) || !onZ z (0 - 1)) then 1 else 0) = onN (onZ z) 0 + 1 from by rw [hon]; rfl] at hNs
     conv => whnf
     (repeat' (first | (apply kT (by with_reducible first | rfl | assumption); conv => whnf) | (apply kF (by with_reducible first | rfl | assumption); conv => whnf) | (apply kT (by decide); conv => whnf) | (apply kF (by decide); conv => whnf) | (apply kB <;> intro _ <;> conv => whnf) | (refine ⟨0, rfl, by rw [hlc]; omega, ?_⟩; conv => whnf) | (refine ⟨_, hcell, ?_⟩; conv => whnf) | fail))
     (refine ⟨4, rfl, by rw [hJl]; decide, ?_⟩; conv => whnf)
     (refine ⟨_, hg4, ?_⟩; conv => whnf)
     (refine ⟨_, rfl, ?_⟩; conv => whnf)
     (repeat' (first | (apply kT (by with_reducible first | rfl | assumption); conv => whnf) | (apply kF (by with_reducible first | rfl | assumption); conv => whnf) | (apply kT (by decide); conv => whnf) | (apply kF (by decide); conv => whnf) | (apply kB <;> intro _ <;> conv => whnf) | (refine ⟨by decide, ?_⟩; conv => whnf) | fail))
     (refine ⟨0, rfl, by rw [hlc]; omega, ?_⟩; conv => whnf)
     (refine ⟨_, hcell, ?_⟩; conv => whnf)
     (refine ⟨byL _, by rw [hJl, List.length_map]; show (40 + _) * 1 ≤ _; omega, ?_⟩; conv => whnf)
     (refine ⟨_, rfl, ?_⟩; conv => whnf)
     (refine ⟨ahead s.ps 0, rfl, ahead s.ps (0 + 1), ew, by omega, by rw [List.length_map]; omega, ptL _, ?_⟩; conv => whnf)
     (refine .inl ⟨_, cpp, ?_⟩; conv => whnf)
     (refine ⟨ptL _, by rw [List.length_map, List.length_map]; show (_ + _) * 16 ≤ _; omega, ?_⟩; conv => whnf)
     (refine ⟨_, rfl, ?_⟩; conv => whnf)
     (repeat' (first | (apply kT (by with_reducible first | rfl | assumption); conv => whnf) | (apply kF (by with_reducible first | rfl | assumption); conv => whnf) | (apply kT (by decide); conv => whnf) | (apply kF (by decide); conv => whnf) | (apply kB <;> intro _ <;> conv => whnf) | (refine ⟨by decide, ?_⟩; conv => whnf) | fail))
     (refine ⟨[0, 1, 2, 13, 4, 5, 6, 7, 8, 9, 10, 11, 12, 3, 14], ?_⟩; conv => whnf)
     have hI : CsInv (cardsL s).length (0 + 1) (invAL [0, 1, 2, 13, 4, 5, 6, 7, 8, 9, 10, 11, 12, 3, 14] (clrAL [14] (clrAL [3] cs))) := by
      rw [invAL_map, clrAL_map, clrAL_map, List.map_map, List.map_map]
      refine hcs.map rfl (fun j hj hne => ?_) (.inl rfl) hmany.2
      rcases (by omega : j = 0 ∨ j = 1 ∨ j = 2 ∨ j = 3 ∨ j = 4 ∨ j = 5 ∨ j = 6 ∨ j = 7 ∨ j = 8 ∨ j = 9) with rfl | rfl | rfl | rfl | rfl | rfl | rfl | rfl | rfl | rfl
      all_goals first | rfl | exact absurd rfl hne
     (refine ⟨hI.only, ?_⟩; conv => whnf)
     refine ⟨q - 1, by omega, 0 + 1, _, fun j => bif Nat.beq j 0 then (onB (onZ z) s 0).map byC else J j, by omega, hI, fun j hj => ?_, ?_⟩
     ·show (bif Nat.beq j 0 then _ else J j) = _
      rw [beq_ne (by omega), cond_false]
      exact hJ j (by omega)
     ·rw [hNs, hB, hP, ew, w1k, w1n, List.map_append, ← hJk, List.map_append]
      rfl
    ·rw [hon, cond_false] at hB hP
     rw [hon] at gon
     rw [show onN (onZ z) 0 + (bif onZ z 0 && (decide (0 = 0) || !onZ z (0 - 1)) then 1 else 0) = onN (onZ z) 0 from by rw [hon]; rfl] at hNs
     conv => whnf
     (repeat' (first | (apply kT (by with_reducible first | rfl | assumption); conv => whnf) | (apply kF (by with_reducible first | rfl | assumption); conv => whnf) | (apply kT (by decide); conv => whnf) | (apply kF (by decide); conv => whnf) | (apply kB <;> intro _ <;> conv => whnf) | (refine ⟨0, rfl, by rw [hlc]; omega, ?_⟩; conv => whnf) | (refine ⟨_, hcell, ?_⟩; conv => whnf) | fail))
     (refine ⟨4, rfl, by rw [hJl]; decide, ?_⟩; conv => whnf)
     (refine ⟨_, hg4, ?_⟩; conv => whnf)
     (refine ⟨_, rfl, ?_⟩; conv => whnf)
     (repeat' (first | (apply kT (by with_reducible first | rfl | assumption); conv => whnf) | (apply kF (by with_reducible first | rfl | assumption); conv => whnf) | (apply kT (by decide); conv => whnf) | (apply kF (by decide); conv => whnf) | (apply kB <;> intro _ <;> conv => whnf) | (refine ⟨by decide, ?_⟩; conv => whnf) | fail))
     (refine ⟨[0, 1, 2, 3, 4, 5, 6, 7, 8, 9, 10, 11, 12, 13, 14], ?_⟩; conv => whnf)
     have hI : CsInv (cardsL s).length (0 + 1) (invAL [0, 1, 2, 3, 4, 5, 6, 7, 8, 9, 10, 11, 12, 13, 14] cs) := by
      rw [invAL_map]
      refine hcs.map rfl (fun j hj hne => ?_) (.inr rfl) hmany.2
      rcases (by omega : j = 0 ∨ j = 1 ∨ j = 2 ∨ j = 3 ∨ j = 4 ∨ j = 5 ∨ j = 6 ∨ j = 7 ∨ j = 8 ∨ j = 9) with rfl | rfl | rfl | rfl | rfl | rfl | rfl | rfl | rfl | rfl <;> rfl
     (refine ⟨hI.only, ?_⟩; conv => whnf)
     refine ⟨q - 1, by omega, 0 + 1, _, J, by omega, hI, fun j hj => hJ j (by omega), ?_⟩
     rw [hNs, hB, hP, ew, w1k]
     rfl
   ·rcases Bool.eq_false_or_eq_true (onZ z 1) with hon | hon
    ·rw [hon, cond_true] at hB hP
     rw [hon] at gon
     have gof := gof (by omega)
     rcases Bool.eq_false_or_eq_true (onZ z (1 - 1)) with hon1 | hon1
     ·rw [show onN (onZ z) 1 + (bif onZ z 1 && (decide (1 = 0) || !onZ z (1 - 1)) then 1 else 0) = onN (onZ z) 1 from by rw [hon, hon1]; rfl] at hNs
      rw [hon1] at gof
      have gof : _ = false := gof
      conv => whnf
      (repeat' (first | (apply kT (by with_reducible first | rfl | assumption); conv => whnf) | (apply kF (by with_reducible first | rfl | assumption); conv => whnf) | (apply kT (by decide); conv => whnf) | (apply kF (by decide); conv => whnf) | (apply kB <;> intro _ <;> conv => whnf) | (refine ⟨1, rfl, by rw [hlc]; omega, ?_⟩; conv => whnf) | (refine ⟨_, hcell, ?_⟩; conv => whnf) | fail))
      (refine ⟨4, rfl, by rw [hJl]; decide, ?_⟩; conv => whnf)
      (refine ⟨_, hg4, ?_⟩; conv => whnf)
      (refine ⟨_, rfl, ?_⟩; conv => whnf)
      (repeat' (first | (apply kT (by with_reducible first | rfl | assumption); conv => whnf) | (apply kF (by with_reducible first | rfl | assumption); conv => whnf) | (apply kT (by decide); conv => whnf) | (apply kF (by decide); conv => whnf) | (apply kB <;> intro _ <;> conv => whnf) | (refine ⟨by decide, ?_⟩; conv => whnf) | fail))
      (refine ⟨1, rfl, by rw [hlc]; omega, ?_⟩; conv => whnf)
      (refine ⟨_, hcell, ?_⟩; conv => whnf)
      (refine ⟨byL _, by rw [hJl, List.length_map]; show (40 + _) * 1 ≤ _; omega, ?_⟩; conv => whnf)
      (refine ⟨_, rfl, ?_⟩; conv => whnf)
      (refine ⟨ahead s.ps 1, rfl, ahead s.ps (1 + 1), ew, by omega, by rw [List.length_map]; omega, ptL _, ?_⟩; conv => whnf)
      (refine .inl ⟨_, cpp, ?_⟩; conv => whnf)
      (refine ⟨ptL _, by rw [List.length_map, List.length_map]; show (_ + _) * 16 ≤ _; omega, ?_⟩; conv => whnf)
      (refine ⟨_, rfl, ?_⟩; conv => whnf)
      (repeat' (first | (apply kT (by with_reducible first | rfl | assumption); conv => whnf) | (apply kF (by with_reducible first | rfl | assumption); conv => whnf) | (apply kT (by decide); conv => whnf) | (apply kF (by decide); conv => whnf) | (apply kB <;> intro _ <;> conv => whnf) | (refine ⟨by decide, ?_⟩; conv => whnf) | fail))
      (refine ⟨[0, 1, 2, 3, 13, 5, 6, 7, 8, 9, 10, 11, 12, 4, 14], ?_⟩; conv => whnf)
      have hI : CsInv (cardsL s).length (1 + 1) (invAL [0, 1, 2, 3, 13, 5, 6, 7, 8, 9, 10, 11, 12, 4, 14] (clrAL [14] (clrAL [4] cs))) := by
       rw [invAL_map, clrAL_map, clrAL_map, List.map_map, List.map_map]
       refine hcs.map rfl (fun j hj hne => ?_) (.inl rfl) hmany.2
       rcases (by omega : j = 0 ∨ j = 1 ∨ j = 2 ∨ j = 3 ∨ j = 4 ∨ j = 5 ∨ j = 6 ∨ j = 7 ∨ j = 8 ∨ j = 9) with rfl | rfl | rfl | rfl | rfl | rfl | rfl | rfl | rfl | rfl
       all_goals first | rfl | exact absurd rfl hne
      (refine ⟨hI.only, ?_⟩; conv => whnf)
      refine ⟨q - 1, by omega, 1 + 1, _, fun j => bif Nat.beq j 1 then (onB (onZ z) s 1).map byC else J j, by omega, hI, fun j hj => ?_, ?_⟩
      ·show (bif Nat.beq j 1 then _ else J j) = _
       rw [beq_ne (by omega), cond_false]
       exact hJ j (by omega)
      ·rw [hNs, hB, hP, ew, w1k, List.map_append, ← hJk, List.map_append]
       rfl
     ·rw [show onN (onZ z) 1 + (bif onZ z 1 && (decide (1 = 0) || !onZ z (1 - 1)) then 1 else 0) = onN (onZ z) 1 + 1 from by rw [hon, hon1]; rfl] at hNs
      rw [hon1] at gof
      have gof : _ = true := gof
      conv => whnf
      (repeat' (first | (apply kT (by with_reducible first | rfl | assumption); conv => whnf) | (apply kF (by with_reducible first | rfl | assumption); conv => whnf) | (apply kT (by decide); conv => whnf) | (apply kF (by decide); conv => whnf) | (apply kB <;> intro _ <;> conv => whnf) | (refine ⟨1, rfl, by rw [hlc]; omega, ?_⟩; conv => whnf) | (refine ⟨_, hcell, ?_⟩; conv => whnf) | fail))
      (refine ⟨4, rfl, by rw [hJl]; decide, ?_⟩; conv => whnf)
      (refine ⟨_, hg4, ?_⟩; conv => whnf)
      (refine ⟨_, rfl, ?_⟩; conv => whnf)
      (repeat' (first | (apply kT (by with_reducible first | rfl | assumption); conv => whnf) | (apply kF (by with_reducible first | rfl | assumption); conv => whnf) | (apply kT (by decide); conv => whnf) | (apply kF (by decide); conv => whnf) | (apply kB <;> intro _ <;> conv => whnf) | (refine ⟨by decide, ?_⟩; conv => whnf) | fail))
      (refine ⟨1, rfl, by rw [hlc]; omega, ?_⟩; conv => whnf)
      (refine ⟨_, hcell, ?_⟩; conv => whnf)
      (refine ⟨byL _, by rw [hJl, List.length_map]; show (40 + _) * 1 ≤ _; omega, ?_⟩; conv => whnf)
      (refine ⟨_, rfl, ?_⟩; conv => whnf)
      (refine ⟨ahead s.ps 1, rfl, ahead s.ps (1 + 1), ew, by omega, by rw [List.length_map]; omega, ptL _, ?_⟩; conv => whnf)
      (refine .inl ⟨_, cpp, ?_⟩; conv => whnf)
      (refine ⟨ptL _, by rw [List.length_map, List.length_map]; show (_ + _) * 16 ≤ _; omega, ?_⟩; conv => whnf)
      (refine ⟨_, rfl, ?_⟩; conv => whnf)
      (repeat' (first | (apply kT (by with_reducible first | rfl | assumption); conv => whnf) | (apply kF (by with_reducible first | rfl | assumption); conv => whnf) | (apply kT (by decide); conv => whnf) | (apply kF (by decide); conv => whnf) | (apply kB <;> intro _ <;> conv => whnf) | (refine ⟨by decide, ?_⟩; conv => whnf) | fail))
      (refine ⟨[0, 1, 2, 3, 13, 5, 6, 7, 8, 9, 10, 11, 12, 4, 14], ?_⟩; conv => whnf)
      have hI : CsInv (cardsL s).length (1 + 1) (invAL [0, 1, 2, 3, 13, 5, 6, 7, 8, 9, 10, 11, 12, 4, 14] (clrAL [14] (clrAL [4] cs))) := by
       rw [invAL_map, clrAL_map, clrAL_map, List.map_map, List.map_map]
       refine hcs.map rfl (fun j hj hne => ?_) (.inl rfl) hmany.2
       rcases (by omega : j = 0 ∨ j = 1 ∨ j = 2 ∨ j = 3 ∨ j = 4 ∨ j = 5 ∨ j = 6 ∨ j = 7 ∨ j = 8 ∨ j = 9) with rfl | rfl | rfl | rfl | rfl | rfl | rfl | rfl | rfl | rfl
       all_goals first | rfl | exact absurd rfl hne
      (refine ⟨hI.only, ?_⟩; conv => whnf)
      refine ⟨q - 1, by omega, 1 + 1, _, fun j => bif Nat.beq j 1 then (onB (onZ z) s 1).map byC else J j, by omega, hI, fun j hj => ?_, ?_⟩
      ·show (bif Nat.beq j 1 then _ else J j) = _
       rw [beq_ne (by omega), cond_false]
       exact hJ j (by omega)
      ·rw [hNs, hB, hP, ew, w1k, w1n, List.map_append, ← hJk, List.map_append]
       rfl
    ·rw [hon, cond_false] at hB hP
     rw [hon] at gon
     rw [show onN (onZ z) 1 + (bif onZ z 1 && (decide (1 = 0) || !onZ z (1 - 1)) then 1 else 0) = onN (onZ z) 1 from by rw [hon]; rfl] at hNs
     conv => whnf
     (repeat' (first | (apply kT (by with_reducible first | rfl | assumption); conv => whnf) | (apply kF (by with_reducible first | rfl | assumption); conv => whnf) | (apply kT (by decide); conv => whnf) | (apply kF (by decide); conv => whnf) | (apply kB <;> intro _ <;> conv => whnf) | (refine ⟨1, rfl, by rw [hlc]; omega, ?_⟩; conv => whnf) | (refine ⟨_, hcell, ?_⟩; conv => whnf) | fail))
     (refine ⟨4, rfl, by rw [hJl]; decide, ?_⟩; conv => whnf)
     (refine ⟨_, hg4, ?_⟩; conv => whnf)
     (refine ⟨_, rfl, ?_⟩; conv => whnf)
     (repeat' (first | (apply kT (by with_reducible first | rfl | assumption); conv => whnf) | (apply kF (by with_reducible first | rfl | assumption); conv => whnf) | (apply kT (by decide); conv => whnf) | (apply kF (by decide); conv => whnf) | (apply kB <;> intro _ <;> conv => whnf) | (refine ⟨by decide, ?_⟩; conv => whnf) | fail))
     (refine ⟨[0, 1, 2, 3, 4, 5, 6, 7, 8, 9, 10, 11, 12, 13, 14], ?_⟩; conv => whnf)
     have hI : CsInv (cardsL s).length (1 + 1) (invAL [0, 1, 2, 3, 4, 5, 6, 7, 8, 9, 10, 11, 12, 13, 14] cs) := by
      rw [invAL_map]
      refine hcs.map rfl (fun j hj hne => ?_) (.inr rfl) hmany.2
      rcases (by omega : j = 0 ∨ j = 1 ∨ j = 2 ∨ j = 3 ∨ j = 4 ∨ j = 5 ∨ j = 6 ∨ j = 7 ∨ j = 8 ∨ j = 9) with rfl | rfl | rfl | rfl | rfl | rfl | rfl | rfl | rfl | rfl <;> rfl
     (refine ⟨hI.only, ?_⟩; conv => whnf)
     refine ⟨q - 1, by omega, 1 + 1, _, J, by omega, hI, fun j hj => hJ j (by omega), ?_⟩
     rw [hNs, hB, hP, ew, w1k]
     rfl
   ·rcases Bool.eq_false_or_eq_true (onZ z 2) with hon | hon
    ·rw [hon, cond_true] at hB hP
     rw [hon] at gon
     have gof := gof (by omega)
     rcases Bool.eq_false_or_eq_true (onZ z (2 - 1)) with hon1 | hon1
     ·rw [show onN (onZ z) 2 + (bif onZ z 2 && (decide (2 = 0) || !onZ z (2 - 1)) then 1 else 0) = onN (onZ z) 2 from by rw [hon, hon1]; rfl] at hNs
      rw [hon1] at gof
      have gof : _ = false := gof
      conv => whnf
      (repeat' (first | (apply kT (by with_reducible first | rfl | assumption); conv => whnf) | (apply kF (by with_reducible first | rfl | assumption); conv => whnf) | (apply kT (by decide); conv => whnf) | (apply kF (by decide); conv => whnf) | (apply kB <;> intro _ <;> conv => whnf) | (refine ⟨2, rfl, by rw [hlc]; omega, ?_⟩; conv => whnf) | (refine ⟨_, hcell, ?_⟩; conv => whnf) | fail))
      (refine ⟨4, rfl, by rw [hJl]; decide, ?_⟩; conv => whnf)
      (refine ⟨_, hg4, ?_⟩; conv => whnf)
      (refine ⟨_, rfl, ?_⟩; conv => whnf)
      (repeat' (first | (apply kT (by with_reducible first | rfl | assumption); conv => whnf) | (apply kF (by with_reducible first | rfl | assumption); conv => whnf) | (apply kT (by decide); conv => whnf) | (apply kF (by decide); conv => whnf) | (apply kB <;> intro _ <;> conv => whnf) | (refine ⟨by decide, ?_⟩; conv => whnf) | fail))
      (refine ⟨2, rfl, by rw [hlc]; omega, ?_⟩; conv => whnf)
      (refine ⟨_, hcell, ?_⟩; conv => whnf)
      (refine ⟨byL _, by rw [hJl, List.length_map]; show (40 + _) * 1 ≤ _; omega, ?_⟩; conv => whnf)
      (refine ⟨_, rfl, ?_⟩; conv => whnf)
      (refine ⟨ahead s.ps 2, rfl, ahead s.ps (2 + 1), ew, by omega, by rw [List.length_map]; omega, ptL _, ?_⟩; conv => whnf)
      (refine .inl ⟨_, cpp, ?_⟩; conv => whnf)
      (refine ⟨ptL _, by rw [List.length_map, List.length_map]; show (_ + _) * 16 ≤ _; omega, ?_⟩; conv => whnf)
      (refine ⟨_, rfl, ?_⟩; conv => whnf)
      (repeat' (first | (apply kT (by with_reducible first | rfl | assumption); conv => whnf) | (apply kF (by with_reducible first | rfl | assumption); conv => whnf) | (apply kT (by decide); conv => whnf) | (apply kF (by decide); conv => whnf) | (apply kB <;> intro _ <;> conv => whnf) | (refine ⟨by decide, ?_⟩; conv => whnf) | fail))
      (refine ⟨[0, 1, 2, 3, 4, 13, 6, 7, 8, 9, 10, 11, 12, 5, 14], ?_⟩; conv => whnf)
      have hI : CsInv (cardsL s).length (2 + 1) (invAL [0, 1, 2, 3, 4, 13, 6, 7, 8, 9, 10, 11, 12, 5, 14] (clrAL [14] (clrAL [5] cs))) := by
       rw [invAL_map, clrAL_map, clrAL_map, List.map_map, List.map_map]
       refine hcs.map rfl (fun j hj hne => ?_) (.inl rfl) hmany.2
       rcases (by omega : j = 0 ∨ j = 1 ∨ j = 2 ∨ j = 3 ∨ j = 4 ∨ j = 5 ∨ j = 6 ∨ j = 7 ∨ j = 8 ∨ j = 9) with rfl | rfl | rfl | rfl | rfl | rfl | rfl | rfl | rfl | rfl
       all_goals first | rfl | exact absurd rfl hne
      (refine ⟨hI.only, ?_⟩; conv => whnf)
      refine ⟨q - 1, by omega, 2 + 1, _, fun j => bif Nat.beq j 2 then (onB (onZ z) s 2).map byC else J j, by omega, hI, fun j hj => ?_, ?_⟩
      ·show (bif Nat.beq j 2 then _ else J j) = _
       rw [beq_ne (by omega), cond_false]
       exact hJ j (by omega)
      ·rw [hNs, hB, hP, ew, w1k, List.map_append, ← hJk, List.map_append]
       rfl
     ·rw [show onN (onZ z) 2 + (bif onZ z 2 && (decide (2 = 0) || !onZ z (2 - 1)) then 1 else 0) = onN (onZ z) 2 + 1 from by rw [hon, hon1]; rfl] at hNs
      rw [hon1] at gof
      have gof : _ = true := gof
      conv => whnf
      (repeat' (first | (apply kT (by with_reducible first | rfl | assumption); conv => whnf) | (apply kF (by with_reducible first | rfl | assumption); conv => whnf) | (apply kT (by decide); conv => whnf) | (apply kF (by decide); conv => whnf) | (apply kB <;> intro _ <;> conv => whnf) | (refine ⟨2, rfl, by rw [hlc]; omega, ?_⟩; conv => whnf) | (refine ⟨_, hcell, ?_⟩; conv => whnf) | fail))
      (refine ⟨4, rfl, by rw [hJl]; decide, ?_⟩; conv => whnf)
      (refine ⟨_, hg4, ?_⟩; conv => whnf)
      (refine ⟨_, rfl, ?_⟩; conv => whnf)
      (repeat' (first | (apply kT (by with_reducible first | rfl | assumption); conv => whnf) | (apply kF (by with_reducible first | rfl | assumption); conv => whnf) | (apply kT (by decide); conv => whnf) | (apply kF (by decide); conv => whnf) | (apply kB <;> intro _ <;> conv => whnf) | (refine ⟨by decide, ?_⟩; conv => whnf) | fail))
      (refine ⟨2, rfl, by rw [hlc]; omega, ?_⟩; conv => whnf)
      (refine ⟨_, hcell, ?_⟩; conv => whnf)
      (refine ⟨byL _, by rw [hJl, List.length_map]; show (40 + _) * 1 ≤ _; omega, ?_⟩; conv => whnf)
      (refine ⟨_, rfl, ?_⟩; conv => whnf)
      (refine ⟨ahead s.ps 2, rfl, ahead s.ps (2 + 1), ew, by omega, by rw [List.length_map]; omega, ptL _, ?_⟩; conv => whnf)
      (refine .inl ⟨_, cpp, ?_⟩; conv => whnf)
      (refine ⟨ptL _, by rw [List.length_map, List.length_map]; show (_ + _) * 16 ≤ _; omega, ?_⟩; conv => whnf)
      (refine ⟨_, rfl, ?_⟩; conv => whnf)
      (repeat' (first | (apply kT (by with_reducible first | rfl | assumption); conv => whnf) | (apply kF (by with_reducible first | rfl | assumption); conv => whnf) | (apply kT (by decide); conv => whnf) | (apply kF (by decide); conv => whnf) | (apply kB <;> intro _ <;> conv => whnf) | (refine ⟨by decide, ?_⟩; conv => whnf) | fail))
      (refine ⟨[0, 1, 2, 3, 4, 13, 6, 7, 8, 9, 10, 11, 12, 5, 14], ?_⟩; conv => whnf)
      have hI : CsInv (cardsL s).length (2 + 1) (invAL [0, 1, 2, 3, 4, 13, 6, 7, 8, 9, 10, 11, 12, 5, 14] (clrAL [14] (clrAL [5] cs))) := by
       rw [invAL_map, clrAL_map, clrAL_map, List.map_map, List.map_map]
       refine hcs.map rfl (fun j hj hne => ?_) (.inl rfl) hmany.2
       rcases (by omega : j = 0 ∨ j = 1 ∨ j = 2 ∨ j = 3 ∨ j = 4 ∨ j = 5 ∨ j = 6 ∨ j = 7 ∨ j = 8 ∨ j = 9) with rfl | rfl | rfl | rfl | rfl | rfl | rfl | rfl | rfl | rfl
       all_goals first | rfl | exact absurd rfl hne
      (refine ⟨hI.only, ?_⟩; conv => whnf)
      refine ⟨q - 1, by omega, 2 + 1, _, fun j => bif Nat.beq j 2 then (onB (onZ z) s 2).map byC else J j, by omega, hI, fun j hj => ?_, ?_⟩
      ·show (bif Nat.beq j 2 then _ else J j) = _
       rw [beq_ne (by omega), cond_false]
       exact hJ j (by omega)
      ·rw [hNs, hB, hP, ew, w1k, w1n, List.map_append, ← hJk, List.map_append]
       rfl
    ·rw [hon, cond_false] at hB hP
     rw [hon] at gon
     rw [show onN (onZ z) 2 + (bif onZ z 2 && (decide (2 = 0) || !onZ z (2 - 1)) then 1 else 0) = onN (onZ z) 2 from by rw [hon]; rfl] at hNs
     conv => whnf
     (repeat' (first | (apply kT (by with_reducible first | rfl | assumption); conv => whnf) | (apply kF (by with_reducible first | rfl | assumption); conv => whnf) | (apply kT (by decide); conv => whnf) | (apply kF (by decide); conv => whnf) | (apply kB <;> intro _ <;> conv => whnf) | (refine ⟨2, rfl, by rw [hlc]; omega, ?_⟩; conv => whnf) | (refine ⟨_, hcell, ?_⟩; conv => whnf) | fail))
     (refine ⟨4, rfl, by rw [hJl]; decide, ?_⟩; conv => whnf)
     (refine ⟨_, hg4, ?_⟩; conv => whnf)
     (refine ⟨_, rfl, ?_⟩; conv => whnf)
     (repeat' (first | (apply kT (by with_reducible first | rfl | assumption); conv => whnf) | (apply kF (by with_reducible first | rfl | assumption); conv => whnf) | (apply kT (by decide); conv => whnf) | (apply kF (by decide); conv => whnf) | (apply kB <;> intro _ <;> conv => whnf) | (refine ⟨by decide, ?_⟩; conv => whnf) | fail))
     (refine ⟨[0, 1, 2, 3, 4, 5, 6, 7, 8, 9, 10, 11, 12, 13, 14], ?_⟩; conv => whnf)
     have hI : CsInv (cardsL s).length (2 + 1) (invAL [0, 1, 2, 3, 4, 5, 6, 7, 8, 9, 10, 11, 12, 13, 14] cs) := by
      rw [invAL_map]
      refine hcs.map rfl (fun j hj hne => ?_) (.inr rfl) hmany.2
      rcases (by omega : j = 0 ∨ j = 1 ∨ j = 2 ∨ j = 3 ∨ j = 4 ∨ j = 5 ∨ j = 6 ∨ j = 7 ∨ j = 8 ∨ j = 9) with rfl | rfl | rfl | rfl | rfl | rfl | rfl | rfl | rfl | rfl <;> rfl
     (refine ⟨hI.only, ?_⟩; conv => whnf)
     refine ⟨q - 1, by omega, 2 + 1, _, J, by omega, hI, fun j hj => hJ j (by omega), ?_⟩
     rw [hNs, hB, hP, ew, w1k]
     rfl
   ·rcases Bool.eq_false_or_eq_true (onZ z 3) with hon | hon
    ·rw [hon, cond_true] at hB hP
     rw [hon] at gon
     have gof := gof (by omega)
     rcases Bool.eq_false_or_eq_true (onZ z (3 - 1)) with hon1 | hon1
     ·rw [show onN (onZ z) 3 + (bif onZ z 3 && (decide (3 = 0) || !onZ z (3 - 1)) then 1 else 0) = onN (onZ z) 3 from by rw [hon, hon1]; rfl] at hNs
      rw [hon1] at gof
      have gof : _ = false := gof
      conv => whnf
      (repeat' (first | (apply kT (by with_reducible first | rfl | assumption); conv => whnf) | (apply kF (by with_reducible first | rfl | assumption); conv => whnf) | (apply kT (by decide); conv => whnf) | (apply kF (by decide); conv => whnf) | (apply kB <;> intro _ <;> conv => whnf) | (refine ⟨3, rfl, by rw [hlc]; omega, ?_⟩; conv => whnf) | (refine ⟨_, hcell, ?_⟩; conv => whnf) | fail))
      (refine ⟨4, rfl, by rw [hJl]; decide, ?_⟩; conv => whnf)
      (refine ⟨_, hg4, ?_⟩; conv => whnf)
      (refine ⟨_, rfl, ?_⟩; conv => whnf)
      (repeat' (first | (apply kT (by with_reducible first | rfl | assumption); conv => whnf) | (apply kF (by with_reducible first | rfl | assumption); conv => whnf) | (apply kT (by decide); conv => whnf) | (apply kF (by decide); conv => whnf) | (apply kB <;> intro _ <;> conv => whnf) | (refine ⟨by decide, ?_⟩; conv => whnf) | fail))
      (refine ⟨3, rfl, by rw [hlc]; omega, ?_⟩; conv => whnf)
      (refine ⟨_, hcell, ?_⟩; conv => whnf)
      (refine ⟨byL _, by rw [hJl, List.length_map]; show (40 + _) * 1 ≤ _; omega, ?_⟩; conv => whnf)
      (refine ⟨_, rfl, ?_⟩; conv => whnf)
      (refine ⟨ahead s.ps 3, rfl, ahead s.ps (3 + 1), ew, by omega, by rw [List.length_map]; omega, ptL _, ?_⟩; conv => whnf)
      (refine .inl ⟨_, cpp, ?_⟩; conv => whnf)
      (refine ⟨ptL _, by rw [List.length_map, List.length_map]; show (_ + _) * 16 ≤ _; omega, ?_⟩; conv => whnf)
      (refine ⟨_, rfl, ?_⟩; conv => whnf)
      (repeat' (first | (apply kT (by with_reducible first | rfl | assumption); conv => whnf) | (apply kF (by with_reducible first | rfl | assumption); conv => whnf) | (apply kT (by decide); conv => whnf) | (apply kF (by decide); conv => whnf) | (apply kB <;> intro _ <;> conv => whnf) | (refine ⟨by decide, ?_⟩; conv => whnf) | fail))
      (refine ⟨[0, 1, 2, 3, 4, 5, 13, 7, 8, 9, 10, 11, 12, 6, 14], ?_⟩; conv => whnf)
      have hI : CsInv (cardsL s).length (3 + 1) (invAL [0, 1, 2, 3, 4, 5, 13, 7, 8, 9, 10, 11, 12, 6, 14] (clrAL [14] (clrAL [6] cs))) := by
       rw [invAL_map, clrAL_map, clrAL_map, List.map_map, List.map_map]
       refine hcs.map rfl (fun j hj hne => ?_) (.inl rfl) hmany.2
       rcases (by omega : j = 0 ∨ j = 1 ∨ j = 2 ∨ j = 3 ∨ j = 4 ∨ j = 5 ∨ j = 6 ∨ j = 7 ∨ j = 8 ∨ j = 9) with rfl | rfl | rfl | rfl | rfl | rfl | rfl | rfl | rfl | rfl
       all_goals first | rfl | exact absurd rfl hne
      (refine ⟨hI.only, ?_⟩; conv => whnf)
      refine ⟨q - 1, by omega, 3 + 1, _, fun j => bif Nat.beq j 3 then (onB (onZ z) s 3).map byC else J j, by omega, hI, fun j hj => ?_, ?_⟩
      ·show (bif Nat.beq j 3 then _ else J j) = _
       rw [beq_ne (by omega), cond_false]
       exact hJ j (by omega)
      ·rw [hNs, hB, hP, ew, w1k, List.map_append, ← hJk, List.map_append]
       rfl
     ·rw [show onN (onZ z) 3 + (bif onZ z 3 && (decide (3 = 0) || !onZ z (3 - 1)) then 1 else 0) = onN (onZ z) 3 + 1 from by rw [hon, hon1]; rfl] at hNs
      rw [hon1] at gof
      have gof : _ = true := gof
      conv => whnf
      (repeat' (first | (apply kT (by with_reducible first | rfl | assumption); conv => whnf) | (apply kF (by with_reducible first | rfl | assumption); conv => whnf) | (apply kT (by decide); conv => whnf) | (apply kF (by decide); conv => whnf) | (apply kB <;> intro _ <;> conv => whnf) | (refine ⟨3, rfl, by rw [hlc]; omega, ?_⟩; conv => whnf) | (refine ⟨_, hcell, ?_⟩; conv => whnf) | fail))
      (refine ⟨4, rfl, by rw [hJl]; decide, ?_⟩; conv => whnf)
      (refine ⟨_, hg4, ?_⟩; conv => whnf)
      (refine ⟨_, rfl, ?_⟩; conv => whnf)
      (repeat' (first | (apply kT (by with_reducible first | rfl | assumption); conv => whnf) | (apply kF (by with_reducible first | rfl | assumption); conv => whnf) | (apply kT (by decide); conv => whnf) | (apply kF (by decide); conv => whnf) | (apply kB <;> intro _ <;> conv => whnf) | (refine ⟨by decide, ?_⟩; conv => whnf) | fail))
      (refine ⟨3, rfl, by rw [hlc]; omega, ?_⟩; conv => whnf)
      (refine ⟨_, hcell, ?_⟩; conv => whnf)
      (refine ⟨byL _, by rw [hJl, List.length_map]; show (40 + _) * 1 ≤ _; omega, ?_⟩; conv => whnf)
      (refine ⟨_, rfl, ?_⟩; conv => whnf)
      (refine ⟨ahead s.ps 3, rfl, ahead s.ps (3 + 1), ew, by omega, by rw [List.length_map]; omega, ptL _, ?_⟩; conv => whnf)
      (refine .inl ⟨_, cpp, ?_⟩; conv => whnf)
      (refine ⟨ptL _, by rw [List.length_map, List.length_map]; show (_ + _) * 16 ≤ _; omega, ?_⟩; conv => whnf)
      (refine ⟨_, rfl, ?_⟩; conv => whnf)
      (repeat' (first | (apply kT (by with_reducible first | rfl | assumption); conv => whnf) | (apply kF (by with_reducible first | rfl | assumption); conv => whnf) | (apply kT (by decide); conv => whnf) | (apply kF (by decide); conv => whnf) | (apply kB <;> intro _ <;> conv => whnf) | (refine ⟨by decide, ?_⟩; conv => whnf) | fail))
      (refine ⟨[0, 1, 2, 3, 4, 5, 13, 7, 8, 9, 10, 11, 12, 6, 14], ?_⟩; conv => whnf)
      have hI : CsInv (cardsL s).length (3 + 1) (invAL [0, 1, 2, 3, 4, 5, 13, 7, 8, 9, 10, 11, 12, 6, 14] (clrAL [14] (clrAL [6] cs))) := by
       rw [invAL_map, clrAL_map, clrAL_map, List.map_map, List.map_map]
       refine hcs.map rfl (fun j hj hne => ?_) (.inl rfl) hmany.2
       rcases (by omega : j = 0 ∨ j = 1 ∨ j = 2 ∨ j = 3 ∨ j = 4 ∨ j = 5 ∨ j = 6 ∨ j = 7 ∨ j = 8 ∨ j = 9) with rfl | rfl | rfl | rfl | rfl | rfl | rfl | rfl | rfl | rfl
       all_goals first | rfl | exact absurd rfl hne
      (refine ⟨hI.only, ?_⟩; conv => whnf)
      refine ⟨q - 1, by omega, 3 + 1, _, fun j => bif Nat.beq j 3 then (onB (onZ z) s 3).map byC else J j, by omega, hI, fun j hj => ?_, ?_⟩
      ·show (bif Nat.beq j 3 then _ else J j) = _
       rw [beq_ne (by omega), cond_false]
       exact hJ j (by omega)
      ·rw [hNs, hB, hP, ew, w1k, w1n, List.map_append, ← hJk, List.map_append]
       rfl
    ·rw [hon, cond_false] at hB hP
     rw [hon] at gon
     rw [show onN (onZ z) 3 + (bif onZ z 3 && (decide (3 = 0) || !onZ z (3 - 1)) then 1 else 0) = onN (onZ z) 3 from by rw [hon]; rfl] at hNs
     conv => whnf
     (repeat' (first | (apply kT (by with_reducible first | rfl | assumption); conv => whnf) | (apply kF (by with_reducible first | rfl | assumption); conv => whnf) | (apply kT (by decide); conv => whnf) | (apply kF (by decide); conv => whnf) | (apply kB <;> intro _ <;> conv => whnf) | (refine ⟨3, rfl, by rw [hlc]; omega, ?_⟩; conv => whnf) | (refine ⟨_, hcell, ?_⟩; conv => whnf) | fail))
     (refine ⟨4, rfl, by rw [hJl]; decide, ?_⟩; conv => whnf)
     (refine ⟨_, hg4, ?_⟩; conv => whnf)
     (refine ⟨_, rfl, ?_⟩; conv => whnf)
     (repeat' (first | (apply kT (by with_reducible first | rfl | assumption); conv => whnf) | (apply kF (by with_reducible first | rfl | assumption); conv => whnf) | (apply kT (by decide); conv => whnf) | (apply kF (by decide); conv => whnf) | (apply kB <;> intro _ <;> conv => whnf) | (refine ⟨by decide, ?_⟩; conv => whnf) | fail))
     (refine ⟨[0, 1, 2, 3, 4, 5, 6, 7, 8, 9, 10, 11, 12, 13, 14], ?_⟩; conv => whnf)
     have hI : CsInv (cardsL s).length (3 + 1) (invAL [0, 1, 2, 3, 4, 5, 6, 7, 8, 9, 10, 11, 12, 13, 14] cs) := by
      rw [invAL_map]
      refine hcs.map rfl (fun j hj hne => ?_) (.inr rfl) hmany.2
      rcases (by omega : j = 0 ∨ j = 1 ∨ j = 2 ∨ j = 3 ∨ j = 4 ∨ j = 5 ∨ j = 6 ∨ j = 7 ∨ j = 8 ∨ j = 9) with rfl | rfl | rfl | rfl | rfl | rfl | rfl | rfl | rfl | rfl <;> rfl
     (refine ⟨hI.only, ?_⟩; conv => whnf)
     refine ⟨q - 1, by omega, 3 + 1, _, J, by omega, hI, fun j hj => hJ j (by omega), ?_⟩
     rw [hNs, hB, hP, ew, w1k]
     rfl
   ·rcases Bool.eq_false_or_eq_true (onZ z 4) with hon | hon
    ·rw [hon, cond_true] at hB hP
     rw [hon] at gon
     have gof := gof (by omega)
     rcases Bool.eq_false_or_eq_true (onZ z (4 - 1)) with hon1 | hon1
     ·rw [show onN (onZ z) 4 + (bif onZ z 4 && (decide (4 = 0) || !onZ z (4 - 1)) then 1 else 0) = onN (onZ z) 4 from by rw [hon, hon1]; rfl] at hNs
      rw [hon1] at gof
      have gof : _ = false := gof
      conv => whnf
      (repeat' (first | (apply kT (by with_reducible first | rfl | assumption); conv => whnf) | (apply kF (by with_reducible first | rfl | assumption); conv => whnf) | (apply kT (by decide); conv => whnf) | (apply kF (by decide); conv => whnf) | (apply kB <;> intro _ <;> conv => whnf) | (refine ⟨4, rfl, by rw [hlc]; omega, ?_⟩; conv => whnf) | (refine ⟨_, hcell, ?_⟩; conv => whnf) | fail))
      (refine ⟨4, rfl, by rw [hJl]; decide, ?_⟩; conv => whnf)
      (refine ⟨_, hg4, ?_⟩; conv => whnf)
      (refine ⟨_, rfl, ?_⟩; conv => whnf)
      (repeat' (first | (apply kT (by with_reducible first | rfl | assumption); conv => whnf) | (apply kF (by with_reducible first | rfl | assumption); conv => whnf) | (apply kT (by decide); conv => whnf) | (apply kF (by decide); conv => whnf) | (apply kB <;> intro _ <;> conv => whnf) | (refine ⟨by decide, ?_⟩; conv => whnf) | fail))
      (refine ⟨4, rfl, by rw [hlc]; omega, ?_⟩; conv => whnf)
      (refine ⟨_, hcell, ?_⟩; conv => whnf)
      (refine ⟨byL _, by rw [hJl, List.length_map]; show (40 + _) * 1 ≤ _; omega, ?_⟩; conv => whnf)
      (refine ⟨_, rfl, ?_⟩; conv => whnf)
      (refine ⟨ahead s.ps 4, rfl, ahead s.ps (4 + 1), ew, by omega, by rw [List.length_map]; omega, ptL _, ?_⟩; conv => whnf)
      (refine .inl ⟨_, cpp, ?_⟩; conv => whnf)
      (refine ⟨ptL _, by rw [List.length_map, List.length_map]; show (_ + _) * 16 ≤ _; omega, ?_⟩; conv => whnf)
      (refine ⟨_, rfl, ?_⟩; conv => whnf)
      (repeat' (first | (apply kT (by with_reducible first | rfl | assumption); conv => whnf) | (apply kF (by with_reducible first | rfl | assumption); conv => whnf) | (apply kT (by decide); conv => whnf) | (apply kF (by decide); conv => whnf) | (apply kB <;> intro _ <;> conv => whnf) | (refine ⟨by decide, ?_⟩; conv => whnf) | fail))
      (refine ⟨[0, 1, 2, 3, 4, 5, 6, 13, 8, 9, 10, 11, 12, 7, 14], ?_⟩; conv => whnf)
      have hI : CsInv (cardsL s).length (4 + 1) (invAL [0, 1, 2, 3, 4, 5, 6, 13, 8, 9, 10, 11, 12, 7, 14] (clrAL [14] (clrAL [7] cs))) := by
       rw [invAL_map, clrAL_map, clrAL_map, List.map_map, List.map_map]
       refine hcs.map rfl (fun j hj hne => ?_) (.inl rfl) hmany.2
       rcases (by omega : j = 0 ∨ j = 1 ∨ j = 2 ∨ j = 3 ∨ j = 4 ∨ j = 5 ∨ j = 6 ∨ j = 7 ∨ j = 8 ∨ j = 9) with rfl | rfl | rfl | rfl | rfl | rfl | rfl | rfl | rfl | rfl
       all_goals first | rfl | exact absurd rfl hne
      (refine ⟨hI.only, ?_⟩; conv => whnf)
      refine ⟨q - 1, by omega, 4 + 1, _, fun j => bif Nat.beq j 4 then (onB (onZ z) s 4).map byC else J j, by omega, hI, fun j hj => ?_, ?_⟩
      ·show (bif Nat.beq j 4 then _ else J j) = _
       rw [beq_ne (by omega), cond_false]
       exact hJ j (by omega)
      ·rw [hNs, hB, hP, ew, w1k, List.map_append, ← hJk, List.map_append]
       rfl
     ·rw [show onN (onZ z) 4 + (bif onZ z 4 && (decide (4 = 0) || !onZ z (4 - 1)) then 1 else 0) = onN (onZ z) 4 + 1 from by rw [hon, hon1]; rfl] at hNs
      rw [hon1] at gof
      have gof : _ = true := gof
      conv => whnf
      (repeat' (first | (apply kT (by with_reducible first | rfl | assumption); conv => whnf) | (apply kF (by with_reducible first | rfl | assumption); conv => whnf) | (apply kT (by decide); conv => whnf) | (apply kF (by decide); conv => whnf) | (apply kB <;> intro _ <;> conv => whnf) | (refine ⟨4, rfl, by rw [hlc]; omega, ?_⟩; conv => whnf) | (refine ⟨_, hcell, ?_⟩; conv => whnf) | fail))
      (refine ⟨4, rfl, by rw [hJl]; decide, ?_⟩; conv => whnf)
      (refine ⟨_, hg4, ?_⟩; conv => whnf)
      (refine ⟨_, rfl, ?_⟩; conv => whnf)
      (repeat' (first | (apply kT (by with_reducible first | rfl | assumption); conv => whnf) | (apply kF (by with_reducible first | rfl | assumption); conv => whnf) | (apply kT (by decide); conv => whnf) | (apply kF (by decide); conv => whnf) | (apply kB <;> intro _ <;> conv => whnf) | (refine ⟨by decide, ?_⟩; conv => whnf) | fail))
      (refine ⟨4, rfl, by rw [hlc]; omega, ?_⟩; conv => whnf)
      (refine ⟨_, hcell, ?_⟩; conv => whnf)
      (refine ⟨byL _, by rw [hJl, List.length_map]; show (40 + _) * 1 ≤ _; omega, ?_⟩; conv => whnf)
      (refine ⟨_, rfl, ?_⟩; conv => whnf)
      (refine ⟨ahead s.ps 4, rfl, ahead s.ps (4 + 1), ew, by omega, by rw [List.length_map]; omega, ptL _, ?_⟩; conv => whnf)
      (refine .inl ⟨_, cpp, ?_⟩; conv => whnf)
      (refine ⟨ptL _, by rw [List.length_map, List.length_map]; show (_ + _) * 16 ≤ _; omega, ?_⟩; conv => whnf)
      (refine ⟨_, rfl, ?_⟩; conv => whnf)
      (repeat' (first | (apply kT (by with_reducible first | rfl | assumption); conv => whnf) | (apply kF (by with_reducible first | rfl | assumption); conv => whnf) | (apply kT (by decide); conv => whnf) | (apply kF (by decide); conv => whnf) | (apply kB <;> intro _ <;> conv => whnf) | (refine ⟨by decide, ?_⟩; conv => whnf) | fail))
      (refine ⟨[0, 1, 2, 3, 4, 5, 6, 13, 8, 9, 10, 11, 12, 7, 14], ?_⟩; conv => whnf)
      have hI : CsInv (cardsL s).length (4 + 1) (invAL [0, 1, 2, 3, 4, 5, 6, 13, 8, 9, 10, 11, 12, 7, 14] (clrAL [14] (clrAL [7] cs))) := by
       rw [invAL_map, clrAL_map, clrAL_map, List.map_map, List.map_map]
       refine hcs.map rfl (fun j hj hne => ?_) (.inl rfl) hmany.2
       rcases (by omega : j = 0 ∨ j = 1 ∨ j = 2 ∨ j = 3 ∨ j = 4 ∨ j = 5 ∨ j = 6 ∨ j = 7 ∨ j = 8 ∨ j = 9) with rfl | rfl | rfl | rfl | rfl | rfl | rfl | rfl | rfl | rfl
       all_goals first | rfl | exact absurd rfl hne
      (refine ⟨hI.only, ?_⟩; conv => whnf)
      refine ⟨q - 1, by omega, 4 + 1, _, fun j => bif Nat.beq j 4 then (onB (onZ z) s 4).map byC else J j, by omega, hI, fun j hj => ?_, ?_⟩
      ·show (bif Nat.beq j 4 then _ else J j) = _
       rw [beq_ne (by omega), cond_false]
       exact hJ j (by omega)
      ·rw [hNs, hB, hP, ew, w1k, w1n, List.map_append, ← hJk, List.map_append]
       rfl
    ·rw [hon, cond_false] at hB hP
     rw [hon] at gon
     rw [show onN (onZ z) 4 + (bif onZ z 4 && (decide (4 = 0) || !onZ z (4 - 1)) then 1 else 0) = onN (onZ z) 4 from by rw [hon]; rfl] at hNs
     conv => whnf
     (repeat' (first | (apply kT (by with_reducible first | rfl | assumption); conv => whnf) | (apply kF (by with_reducible first | rfl | assumption); conv => whnf) | (apply kT (by decide); conv => whnf) | (apply kF (by decide); conv => whnf) | (apply kB <;> intro _ <;> conv => whnf) | (refine ⟨4, rfl, by rw [hlc]; omega, ?_⟩; conv => whnf) | (refine ⟨_, hcell, ?_⟩; conv => whnf) | fail))
     (refine ⟨4, rfl, by rw [hJl]; decide, ?_⟩; conv => whnf)
     (refine ⟨_, hg4, ?_⟩; conv => whnf)
     (refine ⟨_, rfl, ?_⟩; conv => whnf)
     (repeat' (first | (apply kT (by with_reducible first | rfl | assumption); conv => whnf) | (apply kF (by with_reducible first | rfl | assumption); conv => whnf) | (apply kT (by decide); conv => whnf) | (apply kF (by decide); conv => whnf) | (apply kB <;> intro _ <;> conv => whnf) | (refine ⟨by decide, ?_⟩; conv => whnf) | fail))
     (refine ⟨[0, 1, 2, 3, 4, 5, 6, 7, 8, 9, 10, 11, 12, 13, 14], ?_⟩; conv => whnf)
     have hI : CsInv (cardsL s).length (4 + 1) (invAL [0, 1, 2, 3, 4, 5, 6, 7, 8, 9, 10, 11, 12, 13, 14] cs) := by
      rw [invAL_map]
      refine hcs.map rfl (fun j hj hne => ?_) (.inr rfl) hmany.2
      rcases (by omega : j = 0 ∨ j = 1 ∨ j = 2 ∨ j = 3 ∨ j = 4 ∨ j = 5 ∨ j = 6 ∨ j = 7 ∨ j = 8 ∨ j = 9) with rfl | rfl | rfl | rfl | rfl | rfl | rfl | rfl | rfl | rfl <;> rfl
     (refine ⟨hI.only, ?_⟩; conv => whnf)
     refine ⟨q - 1, by omega, 4 + 1, _, J, by omega, hI, fun j hj => hJ j (by omega), ?_⟩
     rw [hNs, hB, hP, ew, w1k]
     rfl
   ·rcases Bool.eq_false_or_eq_true (onZ z 5) with hon | hon
    ·rw [hon, cond_true] at hB hP
     rw [hon] at gon
     have gof := gof (by omega)
     rcases Bool.eq_false_or_eq_true (onZ z (5 - 1)) with hon1 | hon1
     ·rw [show onN (onZ z) 5 + (bif onZ z 5 && (decide (5 = 0) || !onZ z (5 - 1)) then 1 else 0) = onN (onZ z) 5 from by rw [hon, hon1]; rfl] at hNs
      rw [hon1] at gof
      have gof : _ = false := gof
      conv => whnf
      (repeat' (first | (apply kT (by with_reducible first | rfl | assumption); conv => whnf) | (apply kF (by with_reducible first | rfl | assumption); conv => whnf) | (apply kT (by decide); conv => whnf) | (apply kF (by decide); conv => whnf) | (apply kB <;> intro _ <;> conv => whnf) | (refine ⟨5, rfl, by rw [hlc]; omega, ?_⟩; conv => whnf) | (refine ⟨_, hcell, ?_⟩; conv => whnf) | fail))
      (refine ⟨4, rfl, by rw [hJl]; decide, ?_⟩; conv => whnf)
      (refine ⟨_, hg4, ?_⟩; conv => whnf)
      (refine ⟨_, rfl, ?_⟩; conv => whnf)
      (repeat' (first | (apply kT (by with_reducible first | rfl | assumption); conv => whnf) | (apply kF (by with_reducible first | rfl | assumption); conv => whnf) | (apply kT (by decide); conv => whnf) | (apply kF (by decide); conv => whnf) | (apply kB <;> intro _ <;> conv => whnf) | (refine ⟨by decide, ?_⟩; conv => whnf) | fail))
      (refine ⟨5, rfl, by rw [hlc]; omega, ?_⟩; conv => whnf)
      (refine ⟨_, hcell, ?_⟩; conv => whnf)
      (refine ⟨byL _, by rw [hJl, List.length_map]; show (40 + _) * 1 ≤ _; omega, ?_⟩; conv => whnf)
      (refine ⟨_, rfl, ?_⟩; conv => whnf)
      (refine ⟨ahead s.ps 5, rfl, ahead s.ps (5 + 1), ew, by omega, by rw [List.length_map]; omega, ptL _, ?_⟩; conv => whnf)
      (refine .inl ⟨_, cpp, ?_⟩; conv => whnf)
      (refine ⟨ptL _, by rw [List.length_map, List.length_map]; show (_ + _) * 16 ≤ _; omega, ?_⟩; conv => whnf)
      (refine ⟨_, rfl, ?_⟩; conv => whnf)
      (repeat' (first | (apply kT (by with_reducible first | rfl | assumption); conv => whnf) | (apply kF (by with_reducible first | rfl | assumption); conv => whnf) | (apply kT (by decide); conv => whnf) | (apply kF (by decide); conv => whnf) | (apply kB <;> intro _ <;> conv => whnf) | (refine ⟨by decide, ?_⟩; conv => whnf) | fail))
      (refine ⟨[0, 1, 2, 3, 4, 5, 6, 7, 13, 9, 10, 11, 12, 8, 14], ?_⟩; conv => whnf)
      have hI : CsInv (cardsL s).length (5 + 1) (invAL [0, 1, 2, 3, 4, 5, 6, 7, 13, 9, 10, 11, 12, 8, 14] (clrAL [14] (clrAL [8] cs))) := by
       rw [invAL_map, clrAL_map, clrAL_map, List.map_map, List.map_map]
       refine hcs.map rfl (fun j hj hne => ?_) (.inl rfl) hmany.2
       rcases (by omega : j = 0 ∨ j = 1 ∨ j = 2 ∨ j = 3 ∨ j = 4 ∨ j = 5 ∨ j = 6 ∨ j = 7 ∨ j = 8 ∨ j = 9) with rfl | rfl | rfl | rfl | rfl | rfl | rfl | rfl | rfl | rfl
       all_goals first | rfl | exact absurd rfl hne
      (refine ⟨hI.only, ?_⟩; conv => whnf)
      refine ⟨q - 1, by omega, 5 + 1, _, fun j => bif Nat.beq j 5 then (onB (onZ z) s 5).map byC else J j, by omega, hI, fun j hj => ?_, ?_⟩
      ·show (bif Nat.beq j 5 then _ else J j) = _
       rw [beq_ne (by omega), cond_false]
       exact hJ j (by omega)
      ·rw [hNs, hB, hP, ew, w1k, List.map_append, ← hJk, List.map_append]
       rfl
     ·rw [show onN (onZ z) 5 + (bif onZ z 5 && (decide (5 = 0) || !onZ z (5 - 1)) then 1 else 0) = onN (onZ z) 5 + 1 from by rw [hon, hon1]; rfl] at hNs
      rw [hon1] at gof
      have gof : _ = true := gof
      conv => whnf
      (repeat' (first | (apply kT (by with_reducible first | rfl | assumption); conv => whnf) | (apply kF (by with_reducible first | rfl | assumption); conv => whnf) | (apply kT (by decide); conv => whnf) | (apply kF (by decide); conv => whnf) | (apply kB <;> intro _ <;> conv => whnf) | (refine ⟨5, rfl, by rw [hlc]; omega, ?_⟩; conv => whnf) | (refine ⟨_, hcell, ?_⟩; conv => whnf) | fail))
      (refine ⟨4, rfl, by rw [hJl]; decide, ?_⟩; conv => whnf)
      (refine ⟨_, hg4, ?_⟩; conv => whnf)
      (refine ⟨_, rfl, ?_⟩; conv => whnf)
      (repeat' (first | (apply kT (by with_reducible first | rfl | assumption); conv => whnf) | (apply kF (by with_reducible first | rfl | assumption); conv => whnf) | (apply kT (by decide); conv => whnf) | (apply kF (by decide); conv => whnf) | (apply kB <;> intro _ <;> conv => whnf) | (refine ⟨by decide, ?_⟩; conv => whnf) | fail))
      (refine ⟨5, rfl, by rw [hlc]; omega, ?_⟩; conv => whnf)
      (refine ⟨_, hcell, ?_⟩; conv => whnf)
      (refine ⟨byL _, by rw [hJl, List.length_map]; show (40 + _) * 1 ≤ _; omega, ?_⟩; conv => whnf)
      (refine ⟨_, rfl, ?_⟩; conv => whnf)
      (refine ⟨ahead s.ps 5, rfl, ahead s.ps (5 + 1), ew, by omega, by rw [List.length_map]; omega, ptL _, ?_⟩; conv => whnf)
      (refine .inl ⟨_, cpp, ?_⟩; conv => whnf)
      (refine ⟨ptL _, by rw [List.length_map, List.length_map]; show (_ + _) * 16 ≤ _; omega, ?_⟩; conv => whnf)
      (refine ⟨_, rfl, ?_⟩; conv => whnf)
      (repeat' (first | (apply kT (by with_reducible first | rfl | assumption); conv => whnf) | (apply kF (by with_reducible first | rfl | assumption); conv => whnf) | (apply kT (by decide); conv => whnf) | (apply kF (by decide); conv => whnf) | (apply kB <;> intro _ <;> conv => whnf) | (refine ⟨by decide, ?_⟩; conv => whnf) | fail))
      (refine ⟨[0, 1, 2, 3, 4, 5, 6, 7, 13, 9, 10, 11, 12, 8, 14], ?_⟩; conv => whnf)
      have hI : CsInv (cardsL s).length (5 + 1) (invAL [0, 1, 2, 3, 4, 5, 6, 7, 13, 9, 10, 11, 12, 8, 14] (clrAL [14] (clrAL [8] cs))) := by
       rw [invAL_map, clrAL_map, clrAL_map, List.map_map, List.map_map]
       refine hcs.map rfl (fun j hj hne => ?_) (.inl rfl) hmany.2
       rcases (by omega : j = 0 ∨ j = 1 ∨ j = 2 ∨ j = 3 ∨ j = 4 ∨ j = 5 ∨ j = 6 ∨ j = 7 ∨ j = 8 ∨ j = 9) with rfl | rfl | rfl | rfl | rfl | rfl | rfl | rfl | rfl | rfl
       all_goals first | rfl | exact absurd rfl hne
      (refine ⟨hI.only, ?_⟩; conv => whnf)
      refine ⟨q - 1, by omega, 5 + 1, _, fun j => bif Nat.beq j 5 then (onB (onZ z) s 5).map byC else J j, by omega, hI, fun j hj => ?_, ?_⟩
      ·show (bif Nat.beq j 5 then _ else J j) = _
       rw [beq_ne (by omega), cond_false]
       exact hJ j (by omega)
      ·rw [hNs, hB, hP, ew, w1k, w1n, List.map_append, ← hJk, List.map_append]
       rfl
    ·rw [hon, cond_false] at hB hP
     rw [hon] at gon
     rw [show onN (onZ z) 5 + (bif onZ z 5 && (decide (5 = 0) || !onZ z (5 - 1)) then 1 else 0) = onN (onZ z) 5 from by rw [hon]; rfl] at hNs
     conv => whnf
     (repeat' (first | (apply kT (by with_reducible first | rfl | assumption); conv => whnf) | (apply kF (by with_reducible first | rfl | assumption); conv => whnf) | (apply kT (by decide); conv => whnf) | (apply kF (by decide); conv => whnf) | (apply kB <;> intro _ <;> conv => whnf) | (refine ⟨5, rfl, by rw [hlc]; omega, ?_⟩; conv => whnf) | (refine ⟨_, hcell, ?_⟩; conv => whnf) | fail))
     (refine ⟨4, rfl, by rw [hJl]; decide, ?_⟩; conv => whnf)
     (refine ⟨_, hg4, ?_⟩; conv => whnf)
     (refine ⟨_, rfl, ?_⟩; conv => whnf)
     (repeat' (first | (apply kT (by with_reducible first | rfl | assumption); conv => whnf) | (apply kF (by with_reducible first | rfl | assumption); conv => whnf) | (apply kT (by decide); conv => whnf) | (apply kF (by decide); conv => whnf) | (apply kB <;> intro _ <;> conv => whnf) | (refine ⟨by decide, ?_⟩; conv => whnf) | fail))
     (refine ⟨[0, 1, 2, 3, 4, 5, 6, 7, 8, 9, 10, 11, 12, 13, 14], ?_⟩; conv => whnf)
     have hI : CsInv (cardsL s).length (5 + 1) (invAL [0, 1, 2, 3, 4, 5, 6, 7, 8, 9, 10, 11, 12, 13, 14] cs) := by
      rw [invAL_map]
      refine hcs.map rfl (fun j hj hne => ?_) (.inr rfl) hmany.2
      rcases (by omega : j = 0 ∨ j = 1 ∨ j = 2 ∨ j = 3 ∨ j = 4 ∨ j = 5 ∨ j = 6 ∨ j = 7 ∨ j = 8 ∨ j = 9) with rfl | rfl | rfl | rfl | rfl | rfl | rfl | rfl | rfl | rfl <;> rfl
     (refine ⟨hI.only, ?_⟩; conv => whnf)
     refine ⟨q - 1, by omega, 5 + 1, _, J, by omega, hI, fun j hj => hJ j (by omega), ?_⟩
     rw [hNs, hB, hP, ew, w1k]
     rfl
   ·rcases Bool.eq_false_or_eq_true (onZ z 6) with hon | hon
    ·rw [hon, cond_true] at hB hP
     rw [hon] at gon
     have gof := gof (by omega)
     rcases Bool.eq_false_or_eq_true (onZ z (6 - 1)) with hon1 | hon1
     ·rw [show onN (onZ z) 6 + (bif onZ z 6 && (decide (6 = 0) || !onZ z (6 - 1)) then 1 else 0) = onN (onZ z) 6 from by rw [hon, hon1]; rfl] at hNs
      rw [hon1] at gof
      have gof : _ = false := gof
      conv => whnf
      (repeat' (first | (apply kT (by with_reducible first | rfl | assumption); conv => whnf) | (apply kF (by with_reducible first | rfl | assumption); conv => whnf) | (apply kT (by decide); conv => whnf) | (apply kF (by decide); conv => whnf) | (apply kB <;> intro _ <;> conv => whnf) | (refine ⟨6, rfl, by rw [hlc]; omega, ?_⟩; conv => whnf) | (refine ⟨_, hcell, ?_⟩; conv => whnf) | fail))
      (refine ⟨4, rfl, by rw [hJl]; decide, ?_⟩; conv => whnf)
      (refine ⟨_, hg4, ?_⟩; conv => whnf)
      (refine ⟨_, rfl, ?_⟩; conv => whnf)
      (repeat' (first | (apply kT (by with_reducible first | rfl | assumption); conv => whnf) | (apply kF (by with_reducible first | rfl | assumption); conv => whnf) | (apply kT (by decide); conv => whnf) | (apply kF (by decide); conv => whnf) | (apply kB <;> intro _ <;> conv => whnf) | (refine ⟨by decide, ?_⟩; conv => whnf) | fail))
      (refine ⟨6, rfl, by rw [hlc]; omega, ?_⟩; conv => whnf)
      (refine ⟨_, hcell, ?_⟩; conv => whnf)
      (refine ⟨byL _, by rw [hJl, List.length_map]; show (40 + _) * 1 ≤ _; omega, ?_⟩; conv => whnf)
      (refine ⟨_, rfl, ?_⟩; conv => whnf)
      (refine ⟨ahead s.ps 6, rfl, ahead s.ps (6 + 1), ew, by omega, by rw [List.length_map]; omega, ptL _, ?_⟩; conv => whnf)
      (refine .inl ⟨_, cpp, ?_⟩; conv => whnf)
      (refine ⟨ptL _, by rw [List.length_map, List.length_map]; show (_ + _) * 16 ≤ _; omega, ?_⟩; conv => whnf)
      (refine ⟨_, rfl, ?_⟩; conv => whnf)
      (repeat' (first | (apply kT (by with_reducible first | rfl | assumption); conv => whnf) | (apply kF (by with_reducible first | rfl | assumption); conv => whnf) | (apply kT (by decide); conv => whnf) | (apply kF (by decide); conv => whnf) | (apply kB <;> intro _ <;> conv => whnf) | (refine ⟨by decide, ?_⟩; conv => whnf) | fail))
      (refine ⟨[0, 1, 2, 3, 4, 5, 6, 7, 8, 13, 10, 11, 12, 9, 14], ?_⟩; conv => whnf)
      have hI : CsInv (cardsL s).length (6 + 1) (invAL [0, 1, 2, 3, 4, 5, 6, 7, 8, 13, 10, 11, 12, 9, 14] (clrAL [14] (clrAL [9] cs))) := by
       rw [invAL_map, clrAL_map, clrAL_map, List.map_map, List.map_map]
       refine hcs.map rfl (fun j hj hne => ?_) (.inl rfl) hmany.2
       rcases (by omega : j = 0 ∨ j = 1 ∨ j = 2 ∨ j = 3 ∨ j = 4 ∨ j = 5 ∨ j = 6 ∨ j = 7 ∨ j = 8 ∨ j = 9) with rfl | rfl | rfl | rfl | rfl | rfl | rfl | rfl | rfl | rfl
       all_goals first | rfl | exact absurd rfl hne
      (refine ⟨hI.only, ?_⟩; conv => whnf)
      refine ⟨q - 1, by omega, 6 + 1, _, fun j => bif Nat.beq j 6 then (onB (onZ z) s 6).map byC else J j, by omega, hI, fun j hj => ?_, ?_⟩
      ·show (bif Nat.beq j 6 then _ else J j) = _
       rw [beq_ne (by omega), cond_false]
       exact hJ j (by omega)
      ·rw [hNs, hB, hP, ew, w1k, List.map_append, ← hJk, List.map_append]
       rfl
     ·rw [show onN (onZ z) 6 + (bif onZ z 6 && (decide (6 = 0) || !onZ z (6 - 1)) then 1 else 0) = onN (onZ z) 6 + 1 from by rw [hon, hon1]; rfl] at hNs
      rw [hon1] at gof
      have gof : _ = true := gof
      conv => whnf
      (repeat' (first | (apply kT (by with_reducible first | rfl | assumption); conv => whnf) | (apply kF (by with_reducible first | rfl | assumption); conv => whnf) | (apply kT (by decide); conv => whnf) | (apply kF (by decide); conv => whnf) | (apply kB <;> intro _ <;> conv => whnf) | (refine ⟨6, rfl, by rw [hlc]; omega, ?_⟩; conv => whnf) | (refine ⟨_, hcell, ?_⟩; conv => whnf) | fail))
      (refine ⟨4, rfl, by rw [hJl]; decide, ?_⟩; conv => whnf)
      (refine ⟨_, hg4, ?_⟩; conv => whnf)
      (refine ⟨_, rfl, ?_⟩; conv => whnf)
      (repeat' (first | (apply kT (by with_reducible first | rfl | assumption); conv => whnf) | (apply kF (by with_reducible first | rfl | assumption); conv => whnf) | (apply kT (by decide); conv => whnf) | (apply kF (by decide); conv => whnf) | (apply kB <;> intro _ <;> conv => whnf) | (refine ⟨by decide, ?_⟩; conv => whnf) | fail))
      (refine ⟨6, rfl, by rw [hlc]; omega, ?_⟩; conv => whnf)
      (refine ⟨_, hcell, ?_⟩; conv => whnf)
      (refine ⟨byL _, by rw [hJl, List.length_map]; show (40 + _) * 1 ≤ _; omega, ?_⟩; conv => whnf)
      (refine ⟨_, rfl, ?_⟩; conv => whnf)
      (refine ⟨ahead s.ps 6, rfl, ahead s.ps (6 + 1), ew, by omega, by rw [List.length_map]; omega, ptL _, ?_⟩; conv => whnf)
      (refine .inl ⟨_, cpp, ?_⟩; conv => whnf)
      (refine ⟨ptL _, by rw [List.length_map, List.length_map]; show (_ + _) * 16 ≤ _; omega, ?_⟩; conv => whnf)
      (refine ⟨_, rfl, ?_⟩; conv => whnf)
      (repeat' (first | (apply kT (by with_reducible first | rfl | assumption); conv => whnf) | (apply kF (by with_reducible first | rfl | assumption); conv => whnf) | (apply kT (by decide); conv => whnf) | (apply kF (by decide); conv => whnf) | (apply kB <;> intro _ <;> conv => whnf) | (refine ⟨by decide, ?_⟩; conv => whnf) | fail))
      (refine ⟨[0, 1, 2, 3, 4, 5, 6, 7, 8, 13, 10, 11, 12, 9, 14], ?_⟩; conv => whnf)
      have hI : CsInv (cardsL s).length (6 + 1) (invAL [0, 1, 2, 3, 4, 5, 6, 7, 8, 13, 10, 11, 12, 9, 14] (clrAL [14] (clrAL [9] cs))) := by
       rw [invAL_map, clrAL_map, clrAL_map, List.map_map, List.map_map]
       refine hcs.map rfl (fun j hj hne => ?_) (.inl rfl) hmany.2
       rcases (by omega : j = 0 ∨ j = 1 ∨ j = 2 ∨ j = 3 ∨ j = 4 ∨ j = 5 ∨ j = 6 ∨ j = 7 ∨ j = 8 ∨ j = 9) with rfl | rfl | rfl | rfl | rfl | rfl | rfl | rfl | rfl | rfl
       all_goals first | rfl | exact absurd rfl hne
      (refine ⟨hI.only, ?_⟩; conv => whnf)
      refine ⟨q - 1, by omega, 6 + 1, _, fun j => bif Nat.beq j 6 then (onB (onZ z) s 6).map byC else J j, by omega, hI, fun j hj => ?_, ?_⟩
      ·show (bif Nat.beq j 6 then _ else J j) = _
       rw [beq_ne (by omega), cond_false]
       exact hJ j (by omega)
      ·rw [hNs, hB, hP, ew, w1k, w1n, List.map_append, ← hJk, List.map_append]
       rfl
    ·rw [hon, cond_false] at hB hP
     rw [hon] at gon
     rw [show onN (onZ z) 6 + (bif onZ z 6 && (decide (6 = 0) || !onZ z (6 - 1)) then 1 else 0) = onN (onZ z) 6 from by rw [hon]; rfl] at hNs
     conv => whnf
     (repeat' (first | (apply kT (by with_reducible first | rfl | assumption); conv => whnf) | (apply kF (by with_reducible first | rfl | assumption); conv => whnf) | (apply kT (by decide); conv => whnf) | (apply kF (by decide); conv => whnf) | (apply kB <;> intro _ <;> conv => whnf) | (refine ⟨6, rfl, by rw [hlc]; omega, ?_⟩; conv => whnf) | (refine ⟨_, hcell, ?_⟩; conv => whnf) | fail))
     (refine ⟨4, rfl, by rw [hJl]; decide, ?_⟩; conv => whnf)
     (refine ⟨_, hg4, ?_⟩; conv => whnf)
     (refine ⟨_, rfl, ?_⟩; conv => whnf)
     (repeat' (first | (apply kT (by with_reducible first | rfl | assumption); conv => whnf) | (apply kF (by with_reducible first | rfl | assumption); conv => whnf) | (apply kT (by decide); conv => whnf) | (apply kF (by decide); conv => whnf) | (apply kB <;> intro _ <;> conv => whnf) | (refine ⟨by decide, ?_⟩; conv => whnf) | fail))
     (refine ⟨[0, 1, 2, 3, 4, 5, 6, 7, 8, 9, 10, 11, 12, 13, 14], ?_⟩; conv => whnf)
     have hI : CsInv (cardsL s).length (6 + 1) (invAL [0, 1, 2, 3, 4, 5, 6, 7, 8, 9, 10, 11, 12, 13, 14] cs) := by
      rw [invAL_map]
      refine hcs.map rfl (fun j hj hne => ?_) (.inr rfl) hmany.2
      rcases (by omega : j = 0 ∨ j = 1 ∨ j = 2 ∨ j = 3 ∨ j = 4 ∨ j = 5 ∨ j = 6 ∨ j = 7 ∨ j = 8 ∨ j = 9) with rfl | rfl | rfl | rfl | rfl | rfl | rfl | rfl | rfl | rfl <;> rfl
     (refine ⟨hI.only, ?_⟩; conv => whnf)
     refine ⟨q - 1, by omega, 6 + 1, _, J, by omega, hI, fun j hj => hJ j (by omega), ?_⟩
     rw [hNs, hB, hP, ew, w1k]
     rfl
   ·rcases Bool.eq_false_or_eq_true (onZ z 7) with hon | hon
    ·rw [hon, cond_true] at hB hP
     rw [hon] at gon
     have gof := gof (by omega)
     rcases Bool.eq_false_or_eq_true (onZ z (7 - 1)) with hon1 | hon1
     ·rw [show onN (onZ z) 7 + (bif onZ z 7 && (decide (7 = 0) || !onZ z (7 - 1)) then 1 else 0) = onN (onZ z) 7 from by rw [hon, hon1]; rfl] at hNs
      rw [hon1] at gof
      have gof : _ = false := gof
      conv => whnf
      (repeat' (first | (apply kT (by with_reducible first | rfl | assumption); conv => whnf) | (apply kF (by with_reducible first | rfl | assumption); conv => whnf) | (apply kT (by decide); conv => whnf) | (apply kF (by decide); conv => whnf) | (apply kB <;> intro _ <;> conv => whnf) | (refine ⟨7, rfl, by rw [hlc]; omega, ?_⟩; conv => whnf) | (refine ⟨_, hcell, ?_⟩; conv => whnf) | fail))
      (refine ⟨4, rfl, by rw [hJl]; decide, ?_⟩; conv => whnf)
      (refine ⟨_, hg4, ?_⟩; conv => whnf)
      (refine ⟨_, rfl, ?_⟩; conv => whnf)
      (repeat' (first | (apply kT (by with_reducible first | rfl | assumption); conv => whnf) | (apply kF (by with_reducible first | rfl | assumption); conv => whnf) | (apply kT (by decide); conv => whnf) | (apply kF (by decide); conv => whnf) | (apply kB <;> intro _ <;> conv => whnf) | (refine ⟨by decide, ?_⟩; conv => whnf) | fail))
      (refine ⟨7, rfl, by rw [hlc]; omega, ?_⟩; conv => whnf)
      (refine ⟨_, hcell, ?_⟩; conv => whnf)
      (refine ⟨byL _, by rw [hJl, List.length_map]; show (40 + _) * 1 ≤ _; omega, ?_⟩; conv => whnf)
      (refine ⟨_, rfl, ?_⟩; conv => whnf)
      (refine ⟨ahead s.ps 7, rfl, ahead s.ps (7 + 1), ew, by omega, by rw [List.length_map]; omega, ptL _, ?_⟩; conv => whnf)
      (refine .inl ⟨_, cpp, ?_⟩; conv => whnf)
      (refine ⟨ptL _, by rw [List.length_map, List.length_map]; show (_ + _) * 16 ≤ _; omega, ?_⟩; conv => whnf)
      (refine ⟨_, rfl, ?_⟩; conv => whnf)
      (repeat' (first | (apply kT (by with_reducible first | rfl | assumption); conv => whnf) | (apply kF (by with_reducible first | rfl | assumption); conv => whnf) | (apply kT (by decide); conv => whnf) | (apply kF (by decide); conv => whnf) | (apply kB <;> intro _ <;> conv => whnf) | (refine ⟨by decide, ?_⟩; conv => whnf) | fail))
      (refine ⟨[0, 1, 2, 3, 4, 5, 6, 7, 8, 9, 13, 11, 12, 10, 14], ?_⟩; conv => whnf)
      have hI : CsInv (cardsL s).length (7 + 1) (invAL [0, 1, 2, 3, 4, 5, 6, 7, 8, 9, 13, 11, 12, 10, 14] (clrAL [14] (clrAL [10] cs))) := by
       rw [invAL_map, clrAL_map, clrAL_map, List.map_map, List.map_map]
       refine hcs.map rfl (fun j hj hne => ?_) (.inl rfl) hmany.2
       rcases (by omega : j = 0 ∨ j = 1 ∨ j = 2 ∨ j = 3 ∨ j = 4 ∨ j = 5 ∨ j = 6 ∨ j = 7 ∨ j = 8 ∨ j = 9) with rfl | rfl | rfl | rfl | rfl | rfl | rfl | rfl | rfl | rfl
       all_goals first | rfl | exact absurd rfl hne
      (refine ⟨hI.only, ?_⟩; conv => whnf)
      refine ⟨q - 1, by omega, 7 + 1, _, fun j => bif Nat.beq j 7 then (onB (onZ z) s 7).map byC else J j, by omega, hI, fun j hj => ?_, ?_⟩
      ·show (bif Nat.beq j 7 then _ else J j) = _
       rw [beq_ne (by omega), cond_false]
       exact hJ j (by omega)
      ·rw [hNs, hB, hP, ew, w1k, List.map_append, ← hJk, List.map_append]
       rfl
     ·rw [show onN (onZ z) 7 + (bif onZ z 7 && (decide (7 = 0) || !onZ z (7 - 1)) then 1 else 0) = onN (onZ z) 7 + 1 from by rw [hon, hon1]; rfl] at hNs
      rw [hon1] at gof
      have gof : _ = true := gof
      conv => whnf
      (repeat' (first | (apply kT (by with_reducible first | rfl | assumption); conv => whnf) | (apply kF (by with_reducible first | rfl | assumption); conv => whnf) | (apply kT (by decide); conv => whnf) | (apply kF (by decide); conv => whnf) | (apply kB <;> intro _ <;> conv => whnf) | (refine ⟨7, rfl, by rw [hlc]; omega, ?_⟩; conv => whnf) | (refine ⟨_, hcell, ?_⟩; conv => whnf) | fail))
      (refine ⟨4, rfl, by rw [hJl]; decide, ?_⟩; conv => whnf)
      (refine ⟨_, hg4, ?_⟩; conv => whnf)
      (refine ⟨_, rfl, ?_⟩; conv => whnf)
      (repeat' (first | (apply kT (by with_reducible first | rfl | assumption); conv => whnf) | (apply kF (by with_reducible first | rfl | assumption); conv => whnf) | (apply kT (by decide); conv => whnf) | (apply kF (by decide); conv => whnf) | (apply kB <;> intro _ <;> conv => whnf) | (refine ⟨by decide, ?_⟩; conv => whnf) | fail))
      (refine ⟨7, rfl, by rw [hlc]; omega, ?_⟩; conv => whnf)
      (refine ⟨_, hcell, ?_⟩; conv => whnf)
      (refine ⟨byL _, by rw [hJl, List.length_map]; show (40 + _) * 1 ≤ _; omega, ?_⟩; conv => whnf)
      (refine ⟨_, rfl, ?_⟩; conv => whnf)
      (refine ⟨ahead s.ps 7, rfl, ahead s.ps (7 + 1), ew, by omega, by rw [List.length_map]; omega, ptL _, ?_⟩; conv => whnf)
      (refine .inl ⟨_, cpp, ?_⟩; conv => whnf)
      (refine ⟨ptL _, by rw [List.length_map, List.length_map]; show (_ + _) * 16 ≤ _; omega, ?_⟩; conv => whnf)
      (refine ⟨_, rfl, ?_⟩; conv => whnf)
      (repeat' (first | (apply kT (by with_reducible first | rfl | assumption); conv => whnf) | (apply kF (by with_reducible first | rfl | assumption); conv => whnf) | (apply kT (by decide); conv => whnf) | (apply kF (by decide); conv => whnf) | (apply kB <;> intro _ <;> conv => whnf) | (refine ⟨by decide, ?_⟩; conv => whnf) | fail))
      (refine ⟨[0, 1, 2, 3, 4, 5, 6, 7, 8, 9, 13, 11, 12, 10, 14], ?_⟩; conv => whnf)
      have hI : CsInv (cardsL s).length (7 + 1) (invAL [0, 1, 2, 3, 4, 5, 6, 7, 8, 9, 13, 11, 12, 10, 14] (clrAL [14] (clrAL [10] cs))) := by
       rw [invAL_map, clrAL_map, clrAL_map, List.map_map, List.map_map]
       refine hcs.map rfl (fun j hj hne => ?_) (.inl rfl) hmany.2
       rcases (by omega : j = 0 ∨ j = 1 ∨ j = 2 ∨ j = 3 ∨ j = 4 ∨ j = 5 ∨ j = 6 ∨ j = 7 ∨ j = 8 ∨ j = 9) with rfl | rfl | rfl | rfl | rfl | rfl | rfl | rfl | rfl | rfl
       all_goals first | rfl | exact absurd rfl hne
      (refine ⟨hI.only, ?_⟩; conv => whnf)
      refine ⟨q - 1, by omega, 7 + 1, _, fun j => bif Nat.beq j 7 then (onB (onZ z) s 7).map byC else J j, by omega, hI, fun j hj => ?_, ?_⟩
      ·show (bif Nat.beq j 7 then _ else J j) = _
       rw [beq_ne (by omega), cond_false]
       exact hJ j (by omega)
      ·rw [hNs, hB, hP, ew, w1k, w1n, List.map_append, ← hJk, List.map_append]
       rfl
    ·rw [hon, cond_false] at hB hP
     rw [hon] at gon
     rw [show onN (onZ z) 7 + (bif onZ z 7 && (decide (7 = 0) || !onZ z (7 - 1)) then 1 else 0) = onN (onZ z) 7 from by rw [hon]; rfl] at hNs
     conv => whnf
     (repeat' (first | (apply kT (by with_reducible first | rfl | assumption); conv => whnf) | (apply kF (by with_reducible first | rfl | assumption); conv => whnf) | (apply kT (by decide); conv => whnf) | (apply kF (by decide); conv => whnf) | (apply kB <;> intro _ <;> conv => whnf) | (refine ⟨7, rfl, by rw [hlc]; omega, ?_⟩; conv => whnf) | (refine ⟨_, hcell, ?_⟩; conv => whnf) | fail))
     (refine ⟨4, rfl, by rw [hJl]; decide, ?_⟩; conv => whnf)
     (refine ⟨_, hg4, ?_⟩; conv => whnf)
     (refine ⟨_, rfl, ?_⟩; conv => whnf)
     (repeat' (first | (apply kT (by with_reducible first | rfl | assumption); conv => whnf) | (apply kF (by with_reducible first | rfl | assumption); conv => whnf) | (apply kT (by decide); conv => whnf) | (apply kF (by decide); conv => whnf) | (apply kB <;> intro _ <;> conv => whnf) | (refine ⟨by decide, ?_⟩; conv => whnf) | fail))
     (refine ⟨[0, 1, 2, 3, 4, 5, 6, 7, 8, 9, 10, 11, 12, 13, 14], ?_⟩; conv => whnf)
     have hI : CsInv (cardsL s).length (7 + 1) (invAL [0, 1, 2, 3, 4, 5, 6, 7, 8, 9, 10, 11, 12, 13, 14] cs) := by
      rw [invAL_map]
      refine hcs.map rfl (fun j hj hne => ?_) (.inr rfl) hmany.2
      rcases (by omega : j = 0 ∨ j = 1 ∨ j = 2 ∨ j = 3 ∨ j = 4 ∨ j = 5 ∨ j = 6 ∨ j = 7 ∨ j = 8 ∨ j = 9) with rfl | rfl | rfl | rfl | rfl | rfl | rfl | rfl | rfl | rfl <;> rfl
     (refine ⟨hI.only, ?_⟩; conv => whnf)
     refine ⟨q - 1, by omega, 7 + 1, _, J, by omega, hI, fun j hj => hJ j (by omega), ?_⟩
     rw [hNs, hB, hP, ew, w1k]
     rfl
   ·rcases Bool.eq_false_or_eq_true (onZ z 8) with hon | hon
    ·rw [hon, cond_true] at hB hP
     rw [hon] at gon
     have gof := gof (by omega)
     rcases Bool.eq_false_or_eq_true (onZ z (8 - 1)) with hon1 | hon1
     ·rw [show onN (onZ z) 8 + (bif onZ z 8 && (decide (8 = 0) || !onZ z (8 - 1)) then 1 else 0) = onN (onZ z) 8 from by rw [hon, hon1]; rfl] at hNs
      rw [hon1] at gof
      have gof : _ = false := gof
      conv => whnf
      (repeat' (first | (apply kT (by with_reducible first | rfl | assumption); conv => whnf) | (apply kF (by with_reducible first | rfl | assumption); conv => whnf) | (apply kT (by decide); conv => whnf) | (apply kF (by decide); conv => whnf) | (apply kB <;> intro _ <;> conv => whnf) | (refine ⟨8, rfl, by rw [hlc]; omega, ?_⟩; conv => whnf) | (refine ⟨_, hcell, ?_⟩; conv => whnf) | fail))
      (refine ⟨4, rfl, by rw [hJl]; decide, ?_⟩; conv => whnf)
      (refine ⟨_, hg4, ?_⟩; conv => whnf)
      (refine ⟨_, rfl, ?_⟩; conv => whnf)
      (repeat' (first | (apply kT (by with_reducible first | rfl | assumption); conv => whnf) | (apply kF (by with_reducible first | rfl | assumption); conv => whnf) | (apply kT (by decide); conv => whnf) | (apply kF (by decide); conv => whnf) | (apply kB <;> intro _ <;> conv => whnf) | (refine ⟨by decide, ?_⟩; conv => whnf) | fail))
      (refine ⟨8, rfl, by rw [hlc]; omega, ?_⟩; conv => whnf)
      (refine ⟨_, hcell, ?_⟩; conv => whnf)
      (refine ⟨byL _, by rw [hJl, List.length_map]; show (40 + _) * 1 ≤ _; omega, ?_⟩; conv => whnf)
      (refine ⟨_, rfl, ?_⟩; conv => whnf)
      (refine ⟨ahead s.ps 8, rfl, ahead s.ps (8 + 1), ew, by omega, by rw [List.length_map]; omega, ptL _, ?_⟩; conv => whnf)
      (refine .inl ⟨_, cpp, ?_⟩; conv => whnf)
      (refine ⟨ptL _, by rw [List.length_map, List.length_map]; show (_ + _) * 16 ≤ _; omega, ?_⟩; conv => whnf)
      (refine ⟨_, rfl, ?_⟩; conv => whnf)
      (repeat' (first | (apply kT (by with_reducible first | rfl | assumption); conv => whnf) | (apply kF (by with_reducible first | rfl | assumption); conv => whnf) | (apply kT (by decide); conv => whnf) | (apply kF (by decide); conv => whnf) | (apply kB <;> intro _ <;> conv => whnf) | (refine ⟨by decide, ?_⟩; conv => whnf) | fail))
      (refine ⟨[0, 1, 2, 3, 4, 5, 6, 7, 8, 9, 10, 13, 12, 11, 14], ?_⟩; conv => whnf)
      have hI : CsInv (cardsL s).length (8 + 1) (invAL [0, 1, 2, 3, 4, 5, 6, 7, 8, 9, 10, 13, 12, 11, 14] (clrAL [14] (clrAL [11] cs))) := by
       rw [invAL_map, clrAL_map, clrAL_map, List.map_map, List.map_map]
       refine hcs.map rfl (fun j hj hne => ?_) (.inl rfl) hmany.2
       rcases (by omega : j = 0 ∨ j = 1 ∨ j = 2 ∨ j = 3 ∨ j = 4 ∨ j = 5 ∨ j = 6 ∨ j = 7 ∨ j = 8 ∨ j = 9) with rfl | rfl | rfl | rfl | rfl | rfl | rfl | rfl | rfl | rfl
       all_goals first | rfl | exact absurd rfl hne
      (refine ⟨hI.only, ?_⟩; conv => whnf)
      refine ⟨q - 1, by omega, 8 + 1, _, fun j => bif Nat.beq j 8 then (onB (onZ z) s 8).map byC else J j, by omega, hI, fun j hj => ?_, ?_⟩
      ·show (bif Nat.beq j 8 then _ else J j) = _
       rw [beq_ne (by omega), cond_false]
       exact hJ j (by omega)
      ·rw [hNs, hB, hP, ew, w1k, List.map_append, ← hJk, List.map_append]
       rfl
     ·rw [show onN (onZ z) 8 + (bif onZ z 8 && (decide (8 = 0) || !onZ z (8 - 1)) then 1 else 0) = onN (onZ z) 8 + 1 from by rw [hon, hon1]; rfl] at hNs
      rw [hon1] at gof
      have gof : _ = true := gof
      conv => whnf
      (repeat' (first | (apply kT (by with_reducible first | rfl | assumption); conv => whnf) | (apply kF (by with_reducible first | rfl | assumption); conv => whnf) | (apply kT (by decide); conv => whnf) | (apply kF (by decide); conv => whnf) | (apply kB <;> intro _ <;> conv => whnf) | (refine ⟨8, rfl, by rw [hlc]; omega, ?_⟩; conv => whnf) | (refine ⟨_, hcell, ?_⟩; conv => whnf) | fail))
      (refine ⟨4, rfl, by rw [hJl]; decide, ?_⟩; conv => whnf)
      (refine ⟨_, hg4, ?_⟩; conv => whnf)
      (refine ⟨_, rfl, ?_⟩; conv => whnf)
      (repeat' (first | (apply kT (by with_reducible first | rfl | assumption); conv => whnf) | (apply kF (by with_reducible first | rfl | assumption); conv => whnf) | (apply kT (by decide); conv => whnf) | (apply kF (by decide); conv => whnf) | (apply kB <;> intro _ <;> conv => whnf) | (refine ⟨by decide, ?_⟩; conv => whnf) | fail))
      (refine ⟨8, rfl, by rw [hlc]; omega, ?_⟩; conv => whnf)
      (refine ⟨_, hcell, ?_⟩; conv => whnf)
      (refine ⟨byL _, by rw [hJl, List.length_map]; show (40 + _) * 1 ≤ _; omega, ?_⟩; conv => whnf)
      (refine ⟨_, rfl, ?_⟩; conv => whnf)
      (refine ⟨ahead s.ps 8, rfl, ahead s.ps (8 + 1), ew, by omega, by rw [List.length_map]; omega, ptL _, ?_⟩; conv => whnf)
      (refine .inl ⟨_, cpp, ?_⟩; conv => whnf)
      (refine ⟨ptL _, by rw [List.length_map, List.length_map]; show (_ + _) * 16 ≤ _; omega, ?_⟩; conv => whnf)
      (refine ⟨_, rfl, ?_⟩; conv => whnf)
      (repeat' (first | (apply kT (by with_reducible first | rfl | assumption); conv => whnf) | (apply kF (by with_reducible first | rfl | assumption); conv => whnf) | (apply kT (by decide); conv => whnf) | (apply kF (by decide); conv => whnf) | (apply kB <;> intro _ <;> conv => whnf) | (refine ⟨by decide, ?_⟩; conv => whnf) | fail))
      (refine ⟨[0, 1, 2, 3, 4, 5, 6, 7, 8, 9, 10, 13, 12, 11, 14], ?_⟩; conv => whnf)
      have hI : CsInv (cardsL s).length (8 + 1) (invAL [0, 1, 2, 3, 4, 5, 6, 7, 8, 9, 10, 13, 12, 11, 14] (clrAL [14] (clrAL [11] cs))) := by
       rw [invAL_map, clrAL_map, clrAL_map, List.map_map, List.map_map]
       refine hcs.map rfl (fun j hj hne => ?_) (.inl rfl) hmany.2
       rcases (by omega : j = 0 ∨ j = 1 ∨ j = 2 ∨ j = 3 ∨ j = 4 ∨ j = 5 ∨ j = 6 ∨ j = 7 ∨ j = 8 ∨ j = 9) with rfl | rfl | rfl | rfl | rfl | rfl | rfl | rfl | rfl | rfl
       all_goals first | rfl | exact absurd rfl hne
      (refine ⟨hI.only, ?_⟩; conv => whnf)
      refine ⟨q - 1, by omega, 8 + 1, _, fun j => bif Nat.beq j 8 then (onB (onZ z) s 8).map byC else J j, by omega, hI, fun j hj => ?_, ?_⟩
      ·show (bif Nat.beq j 8 then _ else J j) = _
       rw [beq_ne (by omega), cond_false]
       exact hJ j (by omega)
      ·rw [hNs, hB, hP, ew, w1k, w1n, List.map_append, ← hJk, List.map_append]
       rfl
    ·rw [hon, cond_false] at hB hP
     rw [hon] at gon
     rw [show onN (onZ z) 8 + (bif onZ z 8 && (decide (8 = 0) || !onZ z (8 - 1)) then 1 else 0) = onN (onZ z) 8 from by rw [hon]; rfl] at hNs
     conv => whnf
     (repeat' (first | (apply kT (by with_reducible first | rfl | assumption); conv => whnf) | (apply kF (by with_reducible first | rfl | assumption); conv => whnf) | (apply kT (by decide); conv => whnf) | (apply kF (by decide); conv => whnf) | (apply kB <;> intro _ <;> conv => whnf) | (refine ⟨8, rfl, by rw [hlc]; omega, ?_⟩; conv => whnf) | (refine ⟨_, hcell, ?_⟩; conv => whnf) | fail))
     (refine ⟨4, rfl, by rw [hJl]; decide, ?_⟩; conv => whnf)
     (refine ⟨_, hg4, ?_⟩; conv => whnf)
     (refine ⟨_, rfl, ?_⟩; conv => whnf)
     (repeat' (first | (apply kT (by with_reducible first | rfl | assumption); conv => whnf) | (apply kF (by with_reducible first | rfl | assumption); conv => whnf) | (apply kT (by decide); conv => whnf) | (apply kF (by decide); conv => whnf) | (apply kB <;> intro _ <;> conv => whnf) | (refine ⟨by decide, ?_⟩; conv => whnf) | fail))
     (refine ⟨[0, 1, 2, 3, 4, 5, 6, 7, 8, 9, 10, 11, 12, 13, 14], ?_⟩; conv => whnf)
     have hI : CsInv (cardsL s).length (8 + 1) (invAL [0, 1, 2, 3, 4, 5, 6, 7, 8, 9, 10, 11, 12, 13, 14] cs) := by
      rw [invAL_map]
      refine hcs.map rfl (fun j hj hne => ?_) (.inr rfl) hmany.2
      rcases (by omega : j = 0 ∨ j = 1 ∨ j = 2 ∨ j = 3 ∨ j = 4 ∨ j = 5 ∨ j = 6 ∨ j = 7 ∨ j = 8 ∨ j = 9) with rfl | rfl | rfl | rfl | rfl | rfl | rfl | rfl | rfl | rfl <;> rfl
     (refine ⟨hI.only, ?_⟩; conv => whnf)
     refine ⟨q - 1, by omega, 8 + 1, _, J, by omega, hI, fun j hj => hJ j (by omega), ?_⟩
     rw [hNs, hB, hP, ew, w1k]
     rfl
   ·rcases Bool.eq_false_or_eq_true (onZ z 9) with hon | hon
    ·rw [hon, cond_true] at hB hP
     rw [hon] at gon
     have gof := gof (by omega)
     rcases Bool.eq_false_or_eq_true (onZ z (9 - 1)) with hon1 | hon1
     ·rw [show onN (onZ z) 9 + (bif onZ z 9 && (decide (9 = 0) || !onZ z (9 - 1)) then 1 else 0) = onN (onZ z) 9 from by rw [hon, hon1]; rfl] at hNs
      rw [hon1] at gof
      have gof : _ = false := gof
      conv => whnf
      (repeat' (first | (apply kT (by with_reducible first | rfl | assumption); conv => whnf) | (apply kF (by with_reducible first | rfl | assumption); conv => whnf) | (apply kT (by decide); conv => whnf) | (apply kF (by decide); conv => whnf) | (apply kB <;> intro _ <;> conv => whnf) | (refine ⟨9, rfl, by rw [hlc]; omega, ?_⟩; conv => whnf) | (refine ⟨_, hcell, ?_⟩; conv => whnf) | fail))
      (refine ⟨4, rfl, by rw [hJl]; decide, ?_⟩; conv => whnf)
      (refine ⟨_, hg4, ?_⟩; conv => whnf)
      (refine ⟨_, rfl, ?_⟩; conv => whnf)
      (repeat' (first | (apply kT (by with_reducible first | rfl | assumption); conv => whnf) | (apply kF (by with_reducible first | rfl | assumption); conv => whnf) | (apply kT (by decide); conv => whnf) | (apply kF (by decide); conv => whnf) | (apply kB <;> intro _ <;> conv => whnf) | (refine ⟨by decide, ?_⟩; conv => whnf) | fail))
      (refine ⟨9, rfl, by rw [hlc]; omega, ?_⟩; conv => whnf)
      (refine ⟨_, hcell, ?_⟩; conv => whnf)
      (refine ⟨byL _, by rw [hJl, List.length_map]; show (40 + _) * 1 ≤ _; omega, ?_⟩; conv => whnf)
      (refine ⟨_, rfl, ?_⟩; conv => whnf)
      (refine ⟨ahead s.ps 9, rfl, ahead s.ps (9 + 1), ew, by omega, by rw [List.length_map]; omega, ptL _, ?_⟩; conv => whnf)
      (refine .inl ⟨_, cpp, ?_⟩; conv => whnf)
      (refine ⟨ptL _, by rw [List.length_map, List.length_map]; show (_ + _) * 16 ≤ _; omega, ?_⟩; conv => whnf)
      (refine ⟨_, rfl, ?_⟩; conv => whnf)
      (repeat' (first | (apply kT (by with_reducible first | rfl | assumption); conv => whnf) | (apply kF (by with_reducible first | rfl | assumption); conv => whnf) | (apply kT (by decide); conv => whnf) | (apply kF (by decide); conv => whnf) | (apply kB <;> intro _ <;> conv => whnf) | (refine ⟨by decide, ?_⟩; conv => whnf) | fail))
      (refine ⟨[0, 1, 2, 3, 4, 5, 6, 7, 8, 9, 10, 11, 13, 12, 14], ?_⟩; conv => whnf)
      have hI : CsInv (cardsL s).length (9 + 1) (invAL [0, 1, 2, 3, 4, 5, 6, 7, 8, 9, 10, 11, 13, 12, 14] (clrAL [14] (clrAL [12] cs))) := by
       rw [invAL_map, clrAL_map, clrAL_map, List.map_map, List.map_map]
       refine hcs.map rfl (fun j hj hne => ?_) (.inl rfl) hmany.2
       rcases (by omega : j = 0 ∨ j = 1 ∨ j = 2 ∨ j = 3 ∨ j = 4 ∨ j = 5 ∨ j = 6 ∨ j = 7 ∨ j = 8 ∨ j = 9) with rfl | rfl | rfl | rfl | rfl | rfl | rfl | rfl | rfl | rfl
       all_goals first | rfl | exact absurd rfl hne
      (refine ⟨hI.only, ?_⟩; conv => whnf)
      refine ⟨q - 1, by omega, 9 + 1, _, fun j => bif Nat.beq j 9 then (onB (onZ z) s 9).map byC else J j, by omega, hI, fun j hj => ?_, ?_⟩
      ·show (bif Nat.beq j 9 then _ else J j) = _
       rw [beq_ne (by omega), cond_false]
       exact hJ j (by omega)
      ·rw [hNs, hB, hP, ew, w1k, List.map_append, ← hJk, List.map_append]
       rfl
     ·rw [show onN (onZ z) 9 + (bif onZ z 9 && (decide (9 = 0) || !onZ z (9 - 1)) then 1 else 0) = onN (onZ z) 9 + 1 from by rw [hon, hon1]; rfl] at hNs
      rw [hon1] at gof
      have gof : _ = true := gof
      conv => whnf
      (repeat' (first | (apply kT (by with_reducible first | rfl | assumption); conv => whnf) | (apply kF (by with_reducible first | rfl | assumption); conv => whnf) | (apply kT (by decide); conv => whnf) | (apply kF (by decide); conv => whnf) | (apply kB <;> intro _ <;> conv => whnf) | (refine ⟨9, rfl, by rw [hlc]; omega, ?_⟩; conv => whnf) | (refine ⟨_, hcell, ?_⟩; conv => whnf) | fail))
      (refine ⟨4, rfl, by rw [hJl]; decide, ?_⟩; conv => whnf)
      (refine ⟨_, hg4, ?_⟩; conv => whnf)
      (refine ⟨_, rfl, ?_⟩; conv => whnf)
      (repeat' (first | (apply kT (by with_reducible first | rfl | assumption); conv => whnf) | (apply kF (by with_reducible first | rfl | assumption); conv => whnf) | (apply kT (by decide); conv => whnf) | (apply kF (by decide); conv => whnf) | (apply kB <;> intro _ <;> conv => whnf) | (refine ⟨by decide, ?_⟩; conv => whnf) | fail))
      (refine ⟨9, rfl, by rw [hlc]; omega, ?_⟩; conv => whnf)
      (refine ⟨_, hcell, ?_⟩; conv => whnf)
      (refine ⟨byL _, by rw [hJl, List.length_map]; show (40 + _) * 1 ≤ _; omega, ?_⟩; conv => whnf)
      (refine ⟨_, rfl, ?_⟩; conv => whnf)
      (refine ⟨ahead s.ps 9, rfl, ahead s.ps (9 + 1), ew, by omega, by rw [List.length_map]; omega, ptL _, ?_⟩; conv => whnf)
      (refine .inl ⟨_, cpp, ?_⟩; conv => whnf)
      (refine ⟨ptL _, by rw [List.length_map, List.length_map]; show (_ + _) * 16 ≤ _; omega, ?_⟩; conv => whnf)
      (refine ⟨_, rfl, ?_⟩; conv => whnf)
      (repeat' (first | (apply kT (by with_reducible first | rfl | assumption); conv => whnf) | (apply kF (by with_reducible first | rfl | assumption); conv => whnf) | (apply kT (by decide); conv => whnf) | (apply kF (by decide); conv => whnf) | (apply kB <;> intro _ <;> conv => whnf) | (refine ⟨by decide, ?_⟩; conv => whnf) | fail))
      (refine ⟨[0, 1, 2, 3, 4, 5, 6, 7, 8, 9, 10, 11, 13, 12, 14], ?_⟩; conv => whnf)
      have hI : CsInv (cardsL s).length (9 + 1) (invAL [0, 1, 2, 3, 4, 5, 6, 7, 8, 9, 10, 11, 13, 12, 14] (clrAL [14] (clrAL [12] cs))) := by
       rw [invAL_map, clrAL_map, clrAL_map, List.map_map, List.map_map]
       refine hcs.map rfl (fun j hj hne => ?_) (.inl rfl) hmany.2
       rcases (by omega : j = 0 ∨ j = 1 ∨ j = 2 ∨ j = 3 ∨ j = 4 ∨ j = 5 ∨ j = 6 ∨ j = 7 ∨ j = 8 ∨ j = 9) with rfl | rfl | rfl | rfl | rfl | rfl | rfl | rfl | rfl | rfl
       all_goals first | rfl | exact absurd rfl hne
      (refine ⟨hI.only, ?_⟩; conv => whnf)
      refine ⟨q - 1, by omega, 9 + 1, _, fun j => bif Nat.beq j 9 then (onB (onZ z) s 9).map byC else J j, by omega, hI, fun j hj => ?_, ?_⟩
      ·show (bif Nat.beq j 9 then _ else J j) = _
       rw [beq_ne (by omega), cond_false]
       exact hJ j (by omega)
      ·rw [hNs, hB, hP, ew, w1k, w1n, List.map_append, ← hJk, List.map_append]
       rfl
    ·rw [hon, cond_false] at hB hP
     rw [hon] at gon
     rw [show onN (onZ z) 9 + (bif onZ z 9 && (decide (9 = 0) || !onZ z (9 - 1)) then 1 else 0) = onN (onZ z) 9 from by rw [hon]; rfl] at hNs
     conv => whnf
     (repeat' (first | (apply kT (by with_reducible first | rfl | assumption); conv => whnf) | (apply kF (by with_reducible first | rfl | assumption); conv => whnf) | (apply kT (by decide); conv => whnf) | (apply kF (by decide); conv => whnf) | (apply kB <;> intro _ <;> conv => whnf) | (refine ⟨9, rfl, by rw [hlc]; omega, ?_⟩; conv => whnf) | (refine ⟨_, hcell, ?_⟩; conv => whnf) | fail))
     (refine ⟨4, rfl, by rw [hJl]; decide, ?_⟩; conv => whnf)
     (refine ⟨_, hg4, ?_⟩; conv => whnf)
     (refine ⟨_, rfl, ?_⟩; conv => whnf)
     (repeat' (first | (apply kT (by with_reducible first | rfl | assumption); conv => whnf) | (apply kF (by with_reducible first | rfl | assumption); conv => whnf) | (apply kT (by decide); conv => whnf) | (apply kF (by decide); conv => whnf) | (apply kB <;> intro _ <;> conv => whnf) | (refine ⟨by decide, ?_⟩; conv => whnf) | fail))
     (refine ⟨[0, 1, 2, 3, 4, 5, 6, 7, 8, 9, 10, 11, 12, 13, 14], ?_⟩; conv => whnf)
     have hI : CsInv (cardsL s).length (9 + 1) (invAL [0, 1, 2, 3, 4, 5, 6, 7, 8, 9, 10, 11, 12, 13, 14] cs) := by
      rw [invAL_map]
      refine hcs.map rfl (fun j hj hne => ?_) (.inr rfl) hmany.2
      rcases (by omega : j = 0 ∨ j = 1 ∨ j = 2 ∨ j = 3 ∨ j = 4 ∨ j = 5 ∨ j = 6 ∨ j = 7 ∨ j = 8 ∨ j = 9) with rfl | rfl | rfl | rfl | rfl | rfl | rfl | rfl | rfl | rfl <;> rfl
     (refine ⟨hI.only, ?_⟩; conv => whnf)
     refine ⟨q - 1, by omega, 9 + 1, _, J, by omega, hI, fun j hj => hJ j (by omega), ?_⟩
     rw [hNs, hB, hP, ew, w1k]
     rfl
  ·have ek : k = (cardsL s).length := by omega
   subst ek
   have hlc := hcs.len
   have f2 : decide (((cardsL s).length : Int) < (cs.length : Int)) = false := decide_eq_false (by rw [hlc]; omega)
   have hPl := on_len h (onZ z) (cardsL s).length
   have hmem := on_mem h (onZ z) (cardsL s).length
   have hNl := onN_le (onZ z) (cardsL s).length
   have g9 : (((ahead s.ps (cardsL s).length : Nat) : Int) == ((s.ps.map ptD).length : Int)) = true := by rw [hm, hN, hall]; simp
   rcases hlaw with ⟨h0, hp⟩ | ⟨h0, hp⟩
   ·have cp := Pieces_as (by omega) hby hp
    rw [h0]
    conv => whnf
    (repeat' (first | (apply kT (by with_reducible first | rfl | assumption); conv => whnf) | (apply kF (by with_reducible first | rfl | assumption); conv => whnf) | (apply kT (by decide); conv => whnf) | (apply kF (by decide); conv => whnf) | (apply kB <;> intro _ <;> conv => whnf) | (refine .inl ⟨_, cp, ?_⟩; conv => whnf) | (refine ChC.r ?_; conv => whnf) | (refine ⟨_, rfl, ?_⟩; conv => whnf) | (refine .inl ⟨_, awake_pure, ?_⟩; conv => whnf) | fail))
    rfl
   ·have cp := Pieces_as (by omega) hby hp
    have hk0 := onL_all (onZ z) s
    have hfl : (piecesC (keptAt (fun c => onZ z c.i.toNat) s)).flatten = onP (onZ z) s (cardsL s).length := by
     rw [piecesC_flat, ← hk0]
     unfold onP
     rfl
    have hpl : (piecesC (keptAt (fun c => onZ z c.i.toNat) s)).length = onN (onZ z) (cardsL s).length := by
     rw [← hk0]
     exact on_pieces (onZ z) _ (Nat.le_refl _)
    generalize piecesC (keptAt (fun c => onZ z c.i.toNat) s) = P at *
    generalize onN (onZ z) (cardsL s).length = N at *
    generalize onP (onZ z) s (cardsL s).length = F at *
    have g3 : (((N : Nat) : Int) == 0) = false := by rw [beq_eq_false_iff_ne]; omega
    have g4 : (((P.map rowP).length : Int) == ((N : Nat) : Int)) = true := by rw [List.length_map, hpl]; simp
    have hmP : ((P.map rowP).length : Int) = P.length := by rw [List.length_map]
    have hmF : ((F.map ptD).length : Int) = F.length := by rw [List.length_map]
    have csm := same_pure F F (by omega) (by omega)
    rw [decide_eq_true rfl] at csm
    have hms : ∀ p ∈ F, p.l ≤ mostP s.ps := fun p hp => most_mem (hmem p hp)
    have htk : ∀ j, (P.take j).flatten.length ≤ 200 := fun j => by
     have e : F = (P.take j).flatten ++ (P.drop j).flatten := by rw [← hfl, ← List.flatten_append, List.take_append_drop]
     have := congrArg List.length e
     rw [List.length_append] at this
     omega
    have hpj : ∀ j (hj : j < P.length), P[j].length ≤ 200 := fun j hj => by
     have := htk (j + 1)
     rw [List.take_add_one, List.getElem?_eq_getElem hj, List.flatten_append, List.length_append] at this
     simp at this
     omega
    conv => whnf
    (repeat' (first | (apply kT (by with_reducible first | rfl | assumption); conv => whnf) | (apply kF (by with_reducible first | rfl | assumption); conv => whnf) | (apply kT (by decide); conv => whnf) | (apply kF (by decide); conv => whnf) | (apply kB <;> intro _ <;> conv => whnf) | (refine .inl ⟨_, cp, ?_⟩; conv => whnf) | (refine ChC.r ?_; conv => whnf) | (refine ⟨_, rfl, ?_⟩; conv => whnf) | fail))
    refine ⟨[.own 15 74], [2, 8, 9, 10, 13, 14, 15, 16], [0, 14, 15], 16, fun q t => ∃ j : Nat, j + q = P.length ∧
     t = ⟨[(2, .ref 0 0), (8, .own 14), (9, .d (dI (ahead s.ps (cardsL s).length))), (10, .d (dI N)), (13, .d (.seq (P.map rowP))), (14, .d (dI 0)), (15, .own 15), (16, .d (dI j))],
      [(0, .var false 38 ((shC s).map A.d)), (14, .arr 74 (F.map ptD)), (15, .arr 74 ((P.take j).flatten.map ptD))], 16⟩, ?_, ?_⟩
    ·conv => whnf
     exact ⟨P.length, 0, by omega, rfl⟩
    ·rintro q _ ⟨j, hj, rfl⟩
     rcases Decidable.em (j < P.length) with hjl | hjl
     ·have k1 : decide ((j : Int) < ((P.map rowP).length : Int)) = true := decide_eq_true (by rw [hmP]; omega)
      have hp1 := hpj j hjl
      have ht1 := htk j
      conv => whnf
      (repeat' (first | (apply kT (by with_reducible first | rfl | assumption); conv => whnf) | (apply kF (by with_reducible first | rfl | assumption); conv => whnf) | (apply kT (by decide); conv => whnf) | (apply kF (by decide); conv => whnf) | (apply kB <;> intro _ <;> conv => whnf) | fail))
      (refine ⟨j, _, rfl, getpp P j hjl, rfl, ?_⟩; conv => whnf)
      (refine ⟨ptL _, by rw [List.length_map, List.length_map]; show (_ + _) * 16 ≤ _; omega, ?_⟩; conv => whnf)
      refine ⟨q - 1, by omega, j + 1, by omega, ?_⟩
      rw [w1 j (by omega), List.take_add_one, List.getElem?_eq_getElem hjl, List.flatten_append, List.map_append (l₁ := (P.take j).flatten)]
      simp only [Option.toList_some, List.flatten_cons, List.flatten_nil, List.append_nil]
      rfl
     ·have k1 : decide ((j : Int) < ((P.map rowP).length : Int)) = false := decide_eq_false (by rw [hmP]; omega)
      have ej : P.take j = P := List.take_of_length_le (by omega)
      rw [ej, hfl]
      conv => whnf
      (repeat' (first | (apply kT (by with_reducible first | rfl | assumption); conv => whnf) | (apply kF (by with_reducible first | rfl | assumption); conv => whnf) | (apply kT (by decide); conv => whnf) | (apply kF (by decide); conv => whnf) | (apply kB <;> intro _ <;> conv => whnf) | fail))
      refine ⟨[], [2, 8, 9, 10, 13, 14, 15, 17, 18], [0, 14, 15], 16, fun q t => ∃ i : Nat, i + q = s.ps.length ∧
       t = ⟨[(2, .ref 0 0), (8, .own 14), (9, .d (dI (ahead s.ps (cardsL s).length))), (10, .d (dI N)), (13, .d (.seq (P.map rowP))), (14, .d (dI 0)), (15, .own 15), (17, .d (dI (mostP (s.ps.take i)))), (18, .d (dI i))],
        [(0, .var false 38 ((shC s).map A.d)), (14, .arr 74 (F.map ptD)), (15, .arr 74 (F.map ptD))], 16⟩, ?_, ?_⟩
      ·conv => whnf
       refine ⟨s.ps.length, 0, by omega, ?_⟩
       rw [List.take_zero]
       unfold mostP
       rfl
      ·rintro q _ ⟨i, hi, rfl⟩
       rcases Decidable.em (i < s.ps.length) with hil | hil
       ·have k2 : decide ((i : Int) < ((s.ps.map ptD).length : Int)) = true := decide_eq_true (by rw [hm]; omega)
        have hmx := most_snoc s.ps hil
        conv => whnf
        (repeat' (first | (apply kT (by with_reducible first | rfl | assumption); conv => whnf) | (apply kF (by with_reducible first | rfl | assumption); conv => whnf) | (apply kT (by decide); conv => whnf) | (apply kF (by decide); conv => whnf) | (apply kB <;> intro _ <;> conv => whnf) | (refine ⟨i, _, rfl, getpt s.ps i hil, rfl, ?_⟩; conv => whnf) | fail))
        refine ⟨q - 1, by omega, i + 1, by omega, ?_⟩
        rw [w1 i (by omega), hmx]
        rfl
       ·have k2 : decide ((i : Int) < ((s.ps.map ptD).length : Int)) = false := decide_eq_false (by rw [hm]; omega)
        have ei : s.ps.take i = s.ps := List.take_of_length_le (by omega)
        rw [ei]
        conv => whnf
        (repeat' (first | (apply kT (by with_reducible first | rfl | assumption); conv => whnf) | (apply kF (by with_reducible first | rfl | assumption); conv => whnf) | (apply kT (by decide); conv => whnf) | (apply kF (by decide); conv => whnf) | (apply kB <;> intro _ <;> conv => whnf) | fail))
        refine ⟨[], [2, 8, 9, 10, 13, 14, 15, 17, 19], [0, 14, 15], 16, fun q t => ∃ i : Nat, i + q = F.length ∧
         t = ⟨[(2, .ref 0 0), (8, .own 14), (9, .d (dI (ahead s.ps (cardsL s).length))), (10, .d (dI N)), (13, .d (.seq (P.map rowP))), (14, .d (dI 0)), (15, .own 15), (17, .d (dI (mostP s.ps))), (19, .d (dI i))],
          [(0, .var false 38 ((shC s).map A.d)), (14, .arr 74 (F.map ptD)), (15, .arr 74 (F.map ptD))], 16⟩, ?_, ?_⟩
        ·conv => whnf
         exact ⟨F.length, 0, by omega, rfl⟩
        ·rintro q _ ⟨i, hi, rfl⟩
         rcases Decidable.em (i < F.length) with hil | hil
         ·have k3 : decide ((i : Int) < ((F.map ptD).length : Int)) = true := decide_eq_true (by rw [hmF]; omega)
          have k4 : decide (F[i].l > mostP s.ps) = false := decide_eq_false (by have := hms _ (List.getElem_mem hil); omega)
          conv => whnf
          (repeat' (first | (apply kT (by with_reducible first | rfl | assumption); conv => whnf) | (apply kF (by with_reducible first | rfl | assumption); conv => whnf) | (apply kT (by decide); conv => whnf) | (apply kF (by decide); conv => whnf) | (apply kB <;> intro _ <;> conv => whnf) | (refine ⟨i, rfl, by rw [List.length_map]; exact hil, ?_⟩; conv => whnf) | (refine ⟨_, getpt F i hil, ?_⟩; conv => whnf) | (refine ⟨_, rfl, ?_⟩; conv => whnf) | fail))
          refine ⟨q - 1, by omega, i + 1, by omega, ?_⟩
          rw [w1 i (by omega)]
          rfl
         ·have k3 : decide ((i : Int) < ((F.map ptD).length : Int)) = false := decide_eq_false (by rw [hmF]; omega)
          conv => whnf
          (repeat' (first | (apply kT (by with_reducible first | rfl | assumption); conv => whnf) | (apply kF (by with_reducible first | rfl | assumption); conv => whnf) | (apply kT (by decide); conv => whnf) | (apply kF (by decide); conv => whnf) | (apply kB <;> intro _ <;> conv => whnf) | (refine .inl ⟨_, csm, ?_⟩; conv => whnf) | (refine ChC.l ⟨rfl, ?_⟩; conv => whnf) | (refine .inl ⟨_, awake_pure, ?_⟩; conv => whnf) | fail))
          rfl
theorem pieces_pure2 (s : Sh) (z : Int) (hz : 0 ≤ z ∧ z < 65536) : Pure Try.prog 9 [.agg (shC s), .v (.int .u16 z)] (dB true) := by
 have hm : ((s.ps.map ptD).length : Int) = s.ps.length := by rw [List.length_map]
 by_cases h100 : s.ps.length ≤ 100
 ·have f1 : decide (((s.ps.map ptD).length : Int) > 100) = false := decide_eq_false (by rw [hm]; omega)
  cases hs : shB s with
  | false =>
   have ci := isSheet_pure s (by omega)
   rw [hs] at ci
   refine pure_of pg Try.func9 (by kernel_rfl) ?_
   conv => whnf
   (repeat' (first | (apply kT (by with_reducible first | rfl | assumption); conv => whnf) | (apply kF (by with_reducible first | rfl | assumption); conv => whnf) | (apply kT (by decide); conv => whnf) | (apply kF (by decide); conv => whnf) | (apply kB <;> intro _ <;> conv => whnf) | (refine .inl ⟨_, ci, ?_⟩; conv => whnf) | (refine .inl ⟨_, awake_pure, ?_⟩; conv => whnf) | fail))
   rfl
  | true =>
   have hb := shB_ok.1 hs
   exact pieces_walk s z hz ⟨hb.2.2, h100, hb.1, hb.2.1⟩ hs
 ·have f1 : decide (((s.ps.map ptD).length : Int) > 100) = true := decide_eq_true (by rw [hm]; omega)
  refine pure_of pg Try.func9 (by kernel_rfl) ?_
  conv => whnf
  (repeat' (first | (apply kT (by with_reducible first | rfl | assumption); conv => whnf) | (apply kF (by with_reducible first | rfl | assumption); conv => whnf) | (apply kT (by decide); conv => whnf) | (apply kF (by decide); conv => whnf) | (apply kB <;> intro _ <;> conv => whnf) | (refine .inl ⟨_, awake_pure, ?_⟩; conv => whnf) | fail))
  rfl
end Go.Ev.Ytljkplahkokpaaa


set_option linter.unusedVariables false
set_option linter.unusedSimpArgs false
namespace Go.Ev.Ytljkplahkokpaaa
open Go.Proofs
theorem map_of {α β : Type} {f : α → β} {q : α → Prop} : ∀ {es : List β}, (∀ el ∈ es, ∃ x, el = f x ∧ q x) → ∃ l : List α, es = l.map f ∧ ∀ x ∈ l, q x
 | [], _ => ⟨[], rfl, fun x hx => by cases hx⟩
 | e :: es, h => by
  obtain ⟨x, rfl, hq⟩ := h e (by simp)
  obtain ⟨l, rfl, hl⟩ := map_of (es := es) fun el he => h el (by simp [he])
  exact ⟨x :: l, rfl, fun y hy => by
   rcases List.mem_cons.1 hy with rfl | hy
   ·exact hq
   ·exact hl y hy⟩
theorem okV_sh {d : D} (h : OkV tb 6 38 d) : ∃ s : Sh, d = .agg (shC s) := by
 obtain ⟨y, ds, hy, hd, rfl⟩ := h
 cases hy
 obtain ⟨b1, s1, rfl, ⟨j1, rfl, v1⟩, b2, s2, rfl, ⟨qs, rfl, ql, qel⟩, rfl⟩ := hd
 obtain ⟨ps, rfl, _⟩ := map_of (f := ptD) (q := fun _ => True) (es := qs) fun el he => by
  obtain ⟨c1, t1, rfl, ⟨i1, rfl, u1⟩, c2, t2, rfl, ⟨i2, rfl, u2⟩, rfl⟩ := qel el he
  exact ⟨⟨i1, i2⟩, rfl, trivial⟩
 exact ⟨⟨j1, ps⟩, rfl⟩
theorem law_own : ownKnob Try.prog.godebug = none := by kernel_rfl
theorem law_laid : laidOutB Try.prog = true := by kernel_rfl
end Go.Ev.Ytljkplahkokpaaa


set_option linter.unusedVariables false
set_option linter.unusedSimpArgs false
namespace Go.Ev.Ytljkplahkokpaaa
open Go.Proofs
theorem word_of {n : Int} (h : (Lit.int .u16 n).wf = true) : 0 ≤ n ∧ n < 65536 := by
 have h : IntKind.u16.min ≤ n ∧ n ≤ IntKind.u16.max := by simpa [Lit.wf] using h
 have h1 : IntKind.u16.min = 0 := rfl
 have h2 : IntKind.u16.max = 65535 := rfl
 omega
theorem okV_u16 {d : D} (h : OkV tb 6 58 d) : ∃ i, d = .v (.int .u16 i) ∧ 0 ≤ i ∧ i < 65536 := by
 obtain ⟨y, ds, hy, hd, rfl⟩ := h
 cases hy
 obtain ⟨i, rfl, hw⟩ := hd
 exact ⟨i, rfl, word_of hw⟩
end Go.Ev.Ytljkplahkokpaaa

