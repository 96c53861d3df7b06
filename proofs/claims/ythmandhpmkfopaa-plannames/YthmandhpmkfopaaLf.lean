/-
  Contracts of functions, and plain laws, that lead to the statement. Written by an agent.
-/
import Derived.Test.YthmandhpmkfopaaLe
set_option linter.unusedVariables false
set_option linter.unusedSimpArgs false
set_option maxRecDepth 100000
namespace Go.Ev.Ythmandhpmkfopaa
open Go.Proofs
attribute [local irreducible] Pure Bor Iter tri C memo goN check keptS
theorem clone_pure (es : List (List D)) (hne : es ≠ []) (hes : ∀ e ∈ es, e.length = 3) (hl : es.length ≤ 1000) : Pure Try.prog 56 [.seq es] (.seq es) := by
  refine pure_of pg Try.func56 (by kernel_rfl) ?_
  conv => whnf
  (refine ⟨hne, ?_⟩; conv => whnf)
  (repeat' (first | (apply kT (by with_reducible first | rfl | assumption); conv => whnf) | (apply kF (by with_reducible first | rfl | assumption); conv => whnf) | (apply kT (by decide); conv => whnf) | (apply kF (by decide); conv => whnf) | (apply kB <;> intro _ <;> conv => whnf) | fail))
  (refine ⟨hes, by show (0 + es.length) * 24 ≤ 140737488355328; omega, ?_⟩; conv => whnf)
  rfl
/-- the best plan of two stages up to now, and its counts -/
abbrev BS := (Int × List S3) × N3
abbrev bestO (b : BS) : Ob := .var false 31 [.d (dI b.1.1), .d (.seq (b.1.2.map stD))]
abbrev leastO (b : BS) : Ob := .var false 84 [.d (dI (wI b.2.1)), .d (dI (wI b.2.2.1)), .d (dI (wI b.2.2.2))]
abbrev demO (d : S4) : Ob := .var false 68 [.d (dI d.1), .d (dI d.2.1), .d (dI d.2.2.1), .d (dI d.2.2.2)]
/-- is the mean of some counts less than that of others -/
def lessB (c b : N3) : Bool := decide (mulI (mulI 1 (wI c.2.1)) (wI b.2.2) < mulI (mulI 1 (wI b.2.1)) (wI c.2.2))
def seeB (n : Nat) (d : S4) (b : BS) (l : List S3) : BS :=
  if keptB (goN n d.1.toNat l 0 0) (goN n d.2.1.toNat l 0 0) d.2.2.1 d.2.2.2 = false then b
  else if b.1.1 = 0 ∨ lessB (goN n d.1.toNat l 0 0) b.2 = true then ((n, l), goN n d.1.toNat l 0 0) else b
theorem see_bor {n : Nat} (hn : n ≤ 30) {l : List S3} (hl : l.length ≤ 3) (h0 : l ≠ []) {d : S4} (hd : Dem d) (hb : d.2.1 ≤ n) (hf : Fit n 0 l) (he : Ends l) (b : BS) :
    Bor tb Try.prog 52 [.d (plD n l), .ref 0 0, .ref 1 0, .ref 2 0] [demO d, bestO b, leastO b] 3 (.d (.tup [])) [(0, demO d), (1, bestO (seeB n d b l)), (2, leastO (seeB n d b l))] := by
  obtain ⟨good, bad, al, be⟩ := d
  obtain ⟨hg1, hg2, hb2, ha1, ha2, hb3, hb4⟩ := hd
  dsimp only at hg1 hg2 hb2 hb
  obtain ⟨g, rfl⟩ : ∃ g : Nat, good = g := ⟨good.toNat, by omega⟩
  obtain ⟨b', rfl⟩ : ∃ b : Nat, bad = b := ⟨bad.toNat, by omega⟩
  obtain ⟨⟨bl, bs⟩, q⟩ := b
  have ck := kept_pure hn hl (good := g) (bad := b') (by omega) (by omega) hf he al be
  have cg := count_bor hn hl (by omega : g ≤ n) hf he
  have cc := clone_pure (l.map stD) (by simpa using h0) (by intro e he; obtain ⟨x, _, rfl⟩ := List.mem_map.1 he; rfl) (by simp; omega)
  have hs : seeB n (↑g, ↑b', al, be) ((bl, bs), q) l = if keptB (goN n g l 0 0) (goN n b' l 0 0) al be = false then ((bl, bs), q)
      else if bl = 0 ∨ lessB (goN n g l 0 0) q = true then ((n, l), goN n g l 0 0) else ((bl, bs), q) := by unfold seeB; rfl
  rw [hs]
  clear hs
  generalize goN n g l 0 0 = x at *
  generalize goN n b' l 0 0 = y at *
  refine bor_of pg Try.func52 (by kernel_rfl) ?_
  conv => whnf
  (refine .inl ⟨_, ck, ?_⟩; conv => whnf)
  (apply kB <;> intro h <;> conv => whnf)
  · have h : keptB x y al be = false := by simpa using h
    rw [if_pos h]
    (refine ⟨[], [0, 1, 2], ?_⟩; conv => whnf)
    exact ⟨rfl, rfl⟩
  · have h : ¬ keptB x y al be = false := by simpa using h
    rw [if_neg h]
    (refine .inr ⟨[], 2, _, _, on_bor .., ?_⟩; conv => whnf)
    (refine .inr ⟨[4, 5], 2, _, _, lendBO [4, 5] [] 4 (x := .own 0) rfl cg, ?_⟩; conv => whnf)
    (apply kB <;> intro h1 <;> conv => whnf)
    · have h1' : bl = 0 := by simpa using h1
      rw [if_pos (.inl h1')]
      (repeat' (first | (apply kT (by with_reducible first | rfl | assumption); conv => whnf) | (apply kF (by with_reducible first | rfl | assumption); conv => whnf) | (apply kT (by decide); conv => whnf) | (apply kF (by decide); conv => whnf) | (apply kB <;> intro _ <;> conv => whnf) | (refine .inl ⟨_, cc, ?_⟩; conv => whnf) | fail))
      (refine ⟨[], [0, 1, 2], ?_⟩; conv => whnf)
      exact ⟨rfl, rfl⟩
    · have h1' : ¬ bl = 0 := by simpa using h1
      (repeat' (first | (apply kT (by with_reducible first | rfl | assumption); conv => whnf) | (apply kF (by with_reducible first | rfl | assumption); conv => whnf) | (apply kT (by decide); conv => whnf) | (apply kF (by decide); conv => whnf) | (apply kB <;> intro _ <;> conv => whnf) | (refine .inl ⟨_, times2_pure .., ?_⟩; conv => whnf) | fail))
      · rename_i h2
        rw [if_pos (.inr (by unfold lessB; exact h2))]
        (refine .inl ⟨_, cc, ?_⟩; conv => whnf)
        (refine ⟨[], [0, 1, 2], ?_⟩; conv => whnf)
        exact ⟨rfl, rfl⟩
      · rename_i h2
        have h2' : ¬ (bl = 0 ∨ lessB x q = true) := by
          rintro (h3 | h3)
          · exact h1' h3
          · unfold lessB at h3; exact absurd (h2.symm.trans h3) (by simp)
        rw [if_neg h2']
        (refine ⟨[], [0, 1, 2], ?_⟩; conv => whnf)
        exact ⟨rfl, rfl⟩
/-- numbers in their order -/
def rngK : Nat → Int → List Int
  | 0, _ => []
  | k + 1, a => a :: rngK k (a + 1)
theorem rngK_zero (a : Int) : rngK 0 a = [] := by rw [rngK]
theorem rngK_succ (k : Nat) (a : Int) : rngK (k + 1) a = a :: rngK k (a + 1) := by rw [rngK]
abbrev twoP (t a r m last : Int) : List S3 := [(t, a, r), (m, last, last + 1)]
/-- what the loops over the plans of two stages leave, the innermost one first -/
def see5 (n : Nat) (d : S4) (t a r m : Int) (l : List Int) (b : BS) : BS := l.foldl (fun b last => seeB n d b (twoP t a r m last)) b
def lasts (t a r m : Int) : List Int := rngK (t + m + 1 - max a (r - 1)).toNat (max a (r - 1))
def see4 (n : Nat) (d : S4) (t a r : Int) (l : List Int) (b : BS) : BS := l.foldl (fun b m => see5 n d t a r m (lasts t a r m) b) b
def mores (n : Nat) (t : Int) : List Int := rngK (n - t).toNat 1
def see3 (n : Nat) (d : S4) (t a : Int) (l : List Int) (b : BS) : BS := l.foldl (fun b r => see4 n d t a r (mores n t) b) b
def rejects (t a : Int) : List Int := rngK (t + 1 - a).toNat (a + 1)
def see2 (n : Nat) (d : S4) (t : Int) (l : List Int) (b : BS) : BS := l.foldl (fun b a => see3 n d t a (rejects t a) b) b
def accepts (t : Int) : List Int := rngK (t + 2).toNat (-1)
def see1 (n : Nat) (d : S4) (l : List Int) (b : BS) : BS := l.foldl (fun b t => see2 n d t (accepts t) b) b
def takes1 (n : Nat) : List Int := rngK (n - 1) 1
theorem see5_nil {n : Nat} {d : S4} {t a r m : Int} {b : BS} : see5 n d t a r m [] b = b := by unfold see5; rfl
theorem see5_cons {n : Nat} {d : S4} {t a r m x : Int} {l : List Int} {b : BS} : see5 n d t a r m (x :: l) b = see5 n d t a r m l (seeB n d b (twoP t a r m x)) := by unfold see5; rfl
theorem see4_nil {n : Nat} {d : S4} {t a r : Int} {b : BS} : see4 n d t a r [] b = b := by unfold see4; rfl
theorem see4_cons {n : Nat} {d : S4} {t a r x : Int} {l : List Int} {b : BS} : see4 n d t a r (x :: l) b = see4 n d t a r l (see5 n d t a r x (lasts t a r x) b) := by unfold see4; rfl
theorem see3_nil {n : Nat} {d : S4} {t a : Int} {b : BS} : see3 n d t a [] b = b := by unfold see3; rfl
theorem see3_cons {n : Nat} {d : S4} {t a x : Int} {l : List Int} {b : BS} : see3 n d t a (x :: l) b = see3 n d t a l (see4 n d t a x (mores n t) b) := by unfold see3; rfl
theorem see2_nil {n : Nat} {d : S4} {t : Int} {b : BS} : see2 n d t [] b = b := by unfold see2; rfl
theorem see2_cons {n : Nat} {d : S4} {t x : Int} {l : List Int} {b : BS} : see2 n d t (x :: l) b = see2 n d t l (see3 n d t x (rejects t x) b) := by unfold see2; rfl
theorem see1_nil {n : Nat} {d : S4} {b : BS} : see1 n d [] b = b := by unfold see1; rfl
theorem see1_cons {n : Nat} {d : S4} {x : Int} {l : List Int} {b : BS} : see1 n d (x :: l) b = see1 n d l (see2 n d x (accepts x) b) := by unfold see1; rfl
end Go.Ev.Ythmandhpmkfopaa

set_option linter.unusedVariables false
set_option linter.unusedSimpArgs false
set_option maxRecDepth 100000
namespace Go.Ev.Ythmandhpmkfopaa
open Go.Proofs
attribute [local irreducible] Pure Bor Iter tri C memo goN check keptS seeB see1 see2 see3 see4 see5 rngK
theorem two_fit {n : Nat} {t a r m last : Int} (h1 : 1 ≤ t) (h2 : 1 ≤ m) (h3 : t + m ≤ n) : Fit n 0 (twoP t a r m last) ∧ Ends (twoP t a r m last) := by
  refine ⟨⟨t.toNat, by simp; omega, by omega, by omega, m.toNat, by simp; omega, by omega, by omega, trivial⟩, rfl⟩
theorem wS {z : Int} (h1 : -1000 ≤ z) (h2 : z ≤ 1000) : IntKind.i64.wrap z = z := wrapI (by omega) (by omega)
theorem rng_pos {k : Nat} (h : 0 < k) (a : Int) : rngK k a = a :: rngK (k - 1) (a + 1) := by
  obtain ⟨j, rfl⟩ : ∃ j, k = j + 1 := ⟨k - 1, by omega⟩
  rw [rngK_succ, Nat.add_sub_cancel]
/-- (an equation that omega does not look at) -/
def Same (a b : BS) : Prop := a = b
abbrev bs0 : BS := ((0, []), (0, 0, 0))
abbrev fnS : A := .fn (.func 52) [] [.ref 0 0, .ref 1 0, .ref 2 0]
abbrev obS (d : S4) (b : BS) : List (Nat × Ob) := [(0, demO d), (1, bestO b), (2, leastO b)]
set_option maxHeartbeats 4000000 in
theorem doubles_bor {n : Nat} (h1n : 1 ≤ n) (hn : n ≤ 30) {d : S4} (hd : Dem d) (hb : d.2.1 ≤ n) :
    Bor tb Try.prog 51 [.d (dI n), fnS] [demO d, .var false 31 [.d (dI 0), .d (.v (.slice none 0 0))], .var false 84 [.d (dI 0), .d (dI 0), .d (dI 0)]] 3 (.d (.tup [])) (obS d (see1 n d (takes1 n) bs0)) := by
  refine bor_of pg Try.func51 (by kernel_rfl) ?_
  conv => whnf
  refine ⟨[.cseq 1 1], [0, 1, 4], [0, 1, 2], 3, fun k s => ∃ (t : Int) (b : BS), t + k = n ∧ 1 ≤ t ∧ Same (see1 n d (rngK k t) b) (see1 n d (takes1 n) bs0) ∧
    s = ⟨[(0, .d (dI n)), (1, fnS), (4, .d (dI t))], obS d b, 3⟩, ?_, ?_⟩
  · conv => whnf
    exact ⟨n - 1, 1, bs0, by omega, by omega, rfl, rfl⟩
  · rintro k _ ⟨t, b, hk, ht, hs1, rfl⟩
    conv => whnf
    (apply kB <;> intro c1 <;> conv => whnf)
    · rw [decide_eq_true_eq] at c1
      rw [rng_pos (k := k) (by omega), see1_cons] at hs1
      refine ⟨[], [0, 1, 4, 5], [0, 1, 2], 3, fun j s => ∃ (a : Int) (b2 : BS), a + j = t + 1 ∧ -1 ≤ a ∧ Same (see2 n d t (rngK j a) b2) (see2 n d t (accepts t) b) ∧
        s = ⟨[(0, .d (dI n)), (1, fnS), (4, .d (dI t)), (5, .d (dI a))], obS d b2, 3⟩, ?_, ?_⟩
      · conv => whnf
        exact ⟨(t + 2).toNat, -1, b, by omega, by omega, rfl, rfl⟩
      · rintro j _ ⟨a, b2, hj, ha, hs2, rfl⟩
        conv => whnf
        (apply kB <;> intro c2 <;> conv => whnf)
        · rw [decide_eq_true_eq] at c2
          rw [rng_pos (k := j) (by omega), see2_cons] at hs2
          refine ⟨[], [0, 1, 4, 5, 6], [0, 1, 2], 3, fun i s => ∃ (r : Int) (b3 : BS), r + i = t + 2 ∧ a + 1 ≤ r ∧ Same (see3 n d t a (rngK i r) b3) (see3 n d t a (rejects t a) b2) ∧
            s = ⟨[(0, .d (dI n)), (1, fnS), (4, .d (dI t)), (5, .d (dI a)), (6, .d (dI r))], obS d b3, 3⟩, ?_, ?_⟩
          · conv => whnf
            exact ⟨(t + 1 - a).toNat, a + 1, b2, by omega, by omega, rfl, by rw [wS (z := a + 1) (by omega) (by omega)]⟩
          · rintro i _ ⟨r, b3, hi, hr, hs3, rfl⟩
            conv => whnf
            (apply kB <;> intro c3 <;> conv => whnf)
            · rw [decide_eq_true_eq, wS (z := t + 1) (by omega) (by omega)] at c3
              rw [rng_pos (k := i) (by omega), see3_cons] at hs3
              refine ⟨[], [0, 1, 4, 5, 6, 7], [0, 1, 2], 3, fun h s => ∃ (m : Int) (b4 : BS), m + h = n - t + 1 ∧ 1 ≤ m ∧ Same (see4 n d t a r (rngK h m) b4) (see4 n d t a r (mores n t) b3) ∧
                s = ⟨[(0, .d (dI n)), (1, fnS), (4, .d (dI t)), (5, .d (dI a)), (6, .d (dI r)), (7, .d (dI m))], obS d b4, 3⟩, ?_, ?_⟩
              · conv => whnf
                exact ⟨(n - t).toNat, 1, b3, by omega, by omega, rfl, rfl⟩
              · rintro h _ ⟨m, b4, hh, hm, hs4, rfl⟩
                conv => whnf
                (apply kB <;> intro c4 <;> conv => whnf)
                · rw [decide_eq_true_eq, wS (z := n - t) (by omega) (by omega)] at c4
                  rw [rng_pos (k := h) (by omega), see4_cons] at hs4
                  refine ⟨[], [0, 1, 4, 5, 6, 7, 8], [0, 1, 2], 3, fun g s => ∃ (last : Int) (b5 : BS), last + g = t + m + 1 ∧ -1 ≤ last ∧ Same (see5 n d t a r m (rngK g last) b5) (see5 n d t a r m (lasts t a r m) b4) ∧
                    s = ⟨[(0, .d (dI n)), (1, fnS), (4, .d (dI t)), (5, .d (dI a)), (6, .d (dI r)), (7, .d (dI m)), (8, .d (dI last))], obS d b5, 3⟩, ?_, ?_⟩
                  · conv => whnf
                    exact ⟨(t + m + 1 - max a (r - 1)).toNat, max a (r - 1), b4, by omega, by omega, rfl, by rw [wS (z := r - 1) (by omega) (by omega)]⟩
                  · rintro g _ ⟨last, b5, hg, hl, hs5, rfl⟩
                    conv => whnf
                    (apply kB <;> intro c5 <;> conv => whnf)
                    · rw [decide_eq_true_eq, wS (z := t + m) (by omega) (by omega)] at c5
                      rw [rng_pos (k := g) (by omega), see5_cons] at hs5
                      have hf := two_fit (n := n) (a := a) (r := r) (last := last) ht hm (by omega)
                      have hc := see_bor hn (l := twoP t a r m last) (by simp) (by simp) hd hb hf.1 hf.2 b5
                      have hpl : plD n (twoP t a r m last) = .agg [dI n, .seq [[dI t, dI a, dI r], [dI m, dI last, dI (IntKind.i64.wrap (last + 1))]]] := by rw [wS (z := last + 1) (by omega) (by omega)]; rfl
                      rw [hpl] at hc
                      (refine .inr ⟨[0, 1, 2], 3, _, _, hc, ?_⟩; conv => whnf)
                      refine ⟨g - 1, by omega, last + 1, seeB n d b5 (twoP t a r m last), by omega, by omega, hs5, ?_⟩
                      rw [wS (z := last + 1) (by omega) (by omega)]
                    · rw [decide_eq_false_iff_not, wS (z := t + m) (by omega) (by omega)] at c5
                      have hg0 : g = 0 := by omega
                      rw [hg0, rngK_zero, see5_nil] at hs5
                      obtain rfl : b5 = _ := hs5
                      refine ⟨h - 1, by omega, m + 1, _, by omega, by omega, hs4, ?_⟩
                      rw [wS (z := m + 1) (by omega) (by omega)]
                · rw [decide_eq_false_iff_not, wS (z := n - t) (by omega) (by omega)] at c4
                  have hh0 : h = 0 := by omega
                  rw [hh0, rngK_zero, see4_nil] at hs4
                  obtain rfl : b4 = _ := hs4
                  refine ⟨i - 1, by omega, r + 1, _, by omega, by omega, hs3, ?_⟩
                  rw [wS (z := r + 1) (by omega) (by omega)]
            · rw [decide_eq_false_iff_not, wS (z := t + 1) (by omega) (by omega)] at c3
              have hi0 : i = 0 := by omega
              rw [hi0, rngK_zero, see3_nil] at hs3
              obtain rfl : b3 = _ := hs3
              refine ⟨j - 1, by omega, a + 1, _, by omega, by omega, hs2, ?_⟩
              rw [wS (z := a + 1) (by omega) (by omega)]
        · rw [decide_eq_false_iff_not] at c2
          have hj0 : j = 0 := by omega
          rw [hj0, rngK_zero, see2_nil] at hs2
          obtain rfl : b2 = _ := hs2
          refine ⟨k - 1, by omega, t + 1, _, by omega, by omega, hs1, ?_⟩
          rw [wS (z := t + 1) (by omega) (by omega)]
    · rw [decide_eq_false_iff_not] at c1
      have hk0 : k = 0 := by omega
      rw [hk0, rngK_zero, see1_nil] at hs1
      obtain rfl : b = _ := hs1
      (refine ⟨[], [0, 1, 2], ?_⟩; conv => whnf)
      exact ⟨rfl, rfl⟩
end Go.Ev.Ythmandhpmkfopaa

set_option linter.unusedVariables false
set_option linter.unusedSimpArgs false
set_option maxRecDepth 100000
namespace Go.Ev.Ythmandhpmkfopaa
open Go.Proofs
attribute [local irreducible] Pure Bor Iter tri C memo goN check keptS seeB see1 see2 see3 see4 see5 rngK
def doubleI (lot : Int) (d : S4) : Int × List S3 × Int :=
  if inB lot 1 10 = false ∨ lot < d.2.1 then (0, [], 2) else
  if (see1 lot.toNat d (takes1 lot.toNat) bs0).1.1 = 0 then (0, [], 9) else
    ((see1 lot.toNat d (takes1 lot.toNat) bs0).1.1, (see1 lot.toNat d (takes1 lot.toNat) bs0).1.2, 0)
theorem double_pure (lot : Int) (d : S4) (hd : Dem d) : Pure Try.prog 35 [dI lot, deD d] (.tup [plD (doubleI lot d).1 (doubleI lot d).2.1, dI (doubleI lot d).2.2]) := by
  refine pure_of_n pg Try.func35 (by kernel_rfl) ?_
  conv => whnf
  have ha := asked_pure d lot 10
  rw [if_neg (by simp [hd.valid])] at ha
  by_cases h2 : inB lot 1 10 = false ∨ lot < d.2.1
  · rw [if_pos h2] at ha
    (refine .inl ⟨_, ha, ?_⟩; conv => whnf)
    (apply kT (rfl); conv => whnf)
    have e : doubleI lot d = (0, [], 2) := by unfold doubleI; rw [if_pos h2]
    rw [e]
    rfl
  · rw [if_neg h2] at ha
    (refine .inl ⟨_, ha, ?_⟩; conv => whnf)
    (apply kF (rfl); conv => whnf)
    have e : doubleI lot d = if (see1 lot.toNat d (takes1 lot.toNat) bs0).1.1 = 0 then (0, [], 9) else
      ((see1 lot.toNat d (takes1 lot.toNat) bs0).1.1, (see1 lot.toNat d (takes1 lot.toNat) bs0).1.2, 0) := by unfold doubleI; rw [if_neg h2]
    rw [e]
    clear e
    have h3 : 1 ≤ lot ∧ lot ≤ 10 ∧ d.2.1 ≤ lot := by
      simp only [inB, not_or, Bool.not_eq_false, Bool.and_eq_true, decide_eq_true_eq, Int.not_lt] at h2
      exact ⟨h2.1.1, h2.1.2, h2.2⟩
    have hl : (lot.toNat : Int) = lot := Int.toNat_of_nonneg (by omega)
    have hc := doubles_bor (n := lot.toNat) (by omega) (by omega) hd (by omega)
    rw [hl] at hc
    generalize see1 lot.toNat d (takes1 lot.toNat) bs0 = b at hc ⊢
    (refine .inr ⟨[0, 2, 3], 3, _, _, hc, ?_⟩; conv => whnf)
    (apply kB <;> intro h4 <;> conv => whnf)
    · have h4 : b.1.1 = 0 := by simpa using h4
      rw [if_pos h4]
      rfl
    · have h4 : ¬ b.1.1 = 0 := by simpa using h4
      rw [if_neg h4]
      rfl
end Go.Ev.Ythmandhpmkfopaa
