/-
  A part of an evaluator of the model on abstract data, and of its proof. Written by an agent.
-/
import Derived.Laws.MakeOwn
import Derived.MapKept
import Derived.OrdersIn
import Derived.Test.YthmandhpmkfopaaKa
set_option linter.unusedVariables false
set_option linter.unusedSectionVars false
namespace Go.Ev
open RowKit

section
variable {tb : TB} {G : Nat → Option GR} {I : Nat → Prop} {h : Array Obj} {o : Nat → Option Ob}

theorem RepR.len : ∀ {sz : Nat} {es : List (List D)} {vs : List Value}, RepR I h sz es vs → es.length * sz ≤ vs.length
  | _, [], _, _ => by simp
  | sz, e :: es, vs, r => by
    rw [RepR] at r
    obtain ⟨r1, r2, r3, r4⟩ := r
    have h1 := RepL.length r2
    have h2 := RepR.len r4
    simp only [List.length_take, List.length_drop] at h1 h2
    simp only [List.length_cons, Nat.add_mul, Nat.one_mul]
    omega

def ZOK (o : Nat → Option Ob) (z : List (Nat × D)) : Prop := ∀ p ∈ z, ∃ T es, o p.1 = some (.arr T es) ∧ p.2 = .seq es

theorem lookD_mem : ∀ {z : List (Nat × D)} {i : Nat} {d : D}, lookD z i = some d → (i, d) ∈ z
  | [], i, d, h => by simp [lookD] at h
  | (k, x) :: r, i, d, h => by
    simp only [lookD] at h
    cases hb : Nat.beq k i with
    | true => rw [hb] at h; simp at h; rw [Nat.eq_of_beq_eq_true hb, h]; simp
    | false => rw [hb] at h; exact List.mem_cons_of_mem _ (lookD_mem (by simpa using h))
theorem mem_lookD : ∀ {z : List (Nat × D)} {i : Nat} {d : D}, (i, d) ∈ z → ∃ d', lookD z i = some d'
  | [], i, d, h => by simp at h
  | (k, x) :: r, i, d, h => by
    simp only [lookD]
    cases hb : Nat.beq k i with
    | true => exact ⟨x, by simp⟩
    | false =>
      rcases List.mem_cons.1 h with h | h
      · simp only [Prod.mk.injEq] at h; rw [h.1, beq_self] at hb; cases hb
      · simpa using mem_lookD h

theorem ZOK.frz {z : List (Nat × D)} (hz : ZOK o z) : FrzOK o z := fun i d hd => hz _ (lookD_mem hd)

theorem handA_zok {cv : Bool} (x : A) : ZOK o (handA cv o x).2 := by
  intro p hp
  unfold handA at hp
  split at hp
  · split at hp
    · rename_i i T es ho
      simp only [List.mem_singleton] at hp
      subst hp
      exact ⟨T, es, ho, rfl⟩
    · simp at hp
  · split at hp
    · rename_i i hi T es ho
      simp only [List.mem_singleton] at hp
      subst hp
      exact ⟨T, es, ho, rfl⟩
    · simp at hp
  · cases cv <;> simp at hp
  · simp at hp
theorem handL_zok {cv : Bool} : ∀ (l : List A), ZOK o (handL cv o l).2
  | [] => by intro p hp; simp [handL] at hp
  | x :: l => by
    intro p hp
    have ih := handL_zok (cv := cv) l
    unfold handL at hp
    split at hp
    · simp at hp
    · rename_i cs r he
      simp only [List.cons.injEq] at he
      obtain ⟨rfl, rfl⟩ := he
      rcases List.mem_append.1 hp with hp | hp
      · obtain ⟨y, hy, hp⟩ := List.mem_flatMap.1 hp
        exact handA_zok y p hp
      · exact ih p hp
    · rename_i cs r he
      simp only [List.cons.injEq] at he
      obtain ⟨rfl, rfl⟩ := he
      exact ih p hp
    · rename_i y r _ _ he
      simp only [List.cons.injEq] at he
      obtain ⟨rfl, rfl⟩ := he
      rcases List.mem_append.1 hp with hp | hp
      · exact handA_zok _ p hp
      · exact ih p hp

theorem handA_rep {cv : Bool} {z : List (Nat × D)} (hz : ZOK o z) (hob : ∀ i ob, o i = some ob → ObOK tb G I h i ob) {x : A} {v : Value} (hsub : ∀ p ∈ (handA cv o x).2, p ∈ z) (r : RepA G I h x v) : RepA G (frzI G I z) h (handA cv o x).1 v := by
  unfold handA at hsub ⊢
  split
  · rename_i i
    split
    · rename_i T es ho
      simp only [ho] at hsub
      obtain ⟨d, hd⟩ := mem_lookD (hsub (i, .seq es) (by simp))
      have := frz_seq hz.frz hob hd r
      obtain ⟨T', es', ho', rfl⟩ := hz.frz i d hd
      rw [ho] at ho'; cases ho'
      rw [RepA]; exact this
    · exact RepA.mono (fun _ _ h => h) (fun _ h => .inl h) (fun _ _ => rfl) _ _ r
  · rename_i i hi
    split
    · rename_i T es ho
      simp only [ho] at hsub
      obtain ⟨d, hd⟩ := mem_lookD (hsub (i, .seq es) (by simp))
      rw [RepA] at r
      obtain ⟨gr, a, len, cap, hg, hv, hl, rfl⟩ := r
      have := frz_seq hz.frz hob hd (u := gr.val) (by rw [RepA]; exact ⟨⟨gr, hg, rfl⟩, by rw [hv]; rfl⟩)
      obtain ⟨T', es', ho', rfl⟩ := hz.frz i d hd
      rw [ho] at ho'; cases ho'
      rw [hv, RepD] at this
      obtain ⟨a', len', cap', e, q1, q2, q3⟩ := this
      cases e
      rw [RepA, RepD]
      refine ⟨a, hi, cap, rfl, by simp; omega, by omega, ?_⟩
      rcases Nat.eq_zero_or_pos hi with e0 | e0
      · exact .inl e0
      · right
        rcases q3 with q3 | ⟨sz, b, off, c, T', fr, r1, r2, r3, r4⟩
        · omega
        · exact ⟨sz, b, off, c, T', fr, r1, r2, r3, RepR.takes r4 hi⟩
    · exact RepA.mono (fun _ _ h => h) (fun _ h => .inl h) (fun _ _ => rfl) _ _ r
  · rw [RepA, RepD] at r
    cases cv with
    | true =>
      simp only
      rw [RepA, RepD]
      exact ⟨none, 0, 0, r, rfl, Nat.le_refl _, .inl rfl⟩
    | false =>
      simp only
      rw [RepA, RepD]
      exact r
  · exact RepA.mono (fun _ _ h => h) (fun _ h => .inl h) (fun _ _ => rfl) _ _ r

theorem handAL_rep {cv : Bool} {z : List (Nat × D)} (hz : ZOK o z) (hob : ∀ i ob, o i = some ob → ObOK tb G I h i ob) : ∀ {l : List A} {vs : List Value}, (∀ x ∈ l, ∀ p ∈ (handA cv o x).2, p ∈ z) → RepAL G I h l vs →
    RepAL G (frzI G I z) h (l.map fun x => (handA cv o x).1) vs
  | [], vs, _, r => by rw [RepAL] at r; subst r; exact RepAL.nil
  | x :: l, vs, hs, r => by
    obtain ⟨v, q, rfl, r1, r2⟩ := r.uncons
    exact RepAL.cons (handA_rep hz hob (hs x (by simp)) r1) (handAL_rep hz hob (fun y hy => hs y (by simp [hy])) r2)

theorem handL_rep {cv : Bool} {z : List (Nat × D)} (hz : ZOK o z) (hob : ∀ i ob, o i = some ob → ObOK tb G I h i ob) : ∀ {l : List A} {vs : List Value}, (∀ p ∈ (handL cv o l).2, p ∈ z) → RepAL G I h l vs →
    RepAL G (frzI G I z) h (handL cv o l).1 vs
  | [], vs, _, r => by rw [RepAL] at r; subst r; exact RepAL.nil
  | x :: l, vs, hs, r => by
    obtain ⟨v, q, rfl, r1, r2⟩ := r.uncons
    unfold handL at hs ⊢
    split
    · rename_i he; simp at he
    · rename_i cs r' he
      simp only [List.cons.injEq] at he
      obtain ⟨rfl, rfl⟩ := he
      simp only at hs
      rw [RepA] at r1
      obtain ⟨us, rfl, r1⟩ := r1
      refine RepAL.cons ?_ (handL_rep hz hob (fun p hp => hs p (List.mem_append_right _ hp)) r2)
      have := RepA.aggA (handAL_rep hz hob (fun x hx p hp => hs p (List.mem_append_left _ (List.mem_flatMap.2 ⟨x, hx, hp⟩))) r1)
      simpa using this
    · rename_i cs r' he
      simp only [List.cons.injEq] at he
      obtain ⟨rfl, rfl⟩ := he
      exact RepAL.cons (RepA.mono (fun _ _ h => h) (fun _ h => .inl h) (fun _ _ => rfl) _ _ r1) (handL_rep hz hob hs r2)
    · rename_i y r' _ _ he
      simp only [List.cons.injEq] at he
      obtain ⟨rfl, rfl⟩ := he
      simp only at hs
      exact RepAL.cons (handA_rep hz hob (fun p hp => hs p (List.mem_append_left _ hp)) r1) (handL_rep hz hob (fun p hp => hs p (List.mem_append_right _ hp)) r2)

mutual
theorem frzA_nil : ∀ (x : A), frzA [] x = x
  | .d x => by rw [frzA]
  | .ref i off => by rw [frzA]
  | .own i => by rw [frzA]; rfl
  | .eref i k sz off => by rw [frzA]; rfl
  | .pre i hi => by rw [frzA]; rfl
  | .fn f a b => by rw [frzA, frzAL_nil, frzAL_nil]
  | .agg cs => by rw [frzA, frzAL_nil]
  | .tup cs => by rw [frzA, frzAL_nil]
  | .lst cs => by rw [frzA, frzAL_nil]
  | .lptr x => by rw [frzA, frzA_nil]
  | .unk => by rw [frzA]
theorem frzAL_nil : ∀ (x : List A), frzAL [] x = x
  | [] => by rw [frzAL]
  | x :: l => by rw [frzAL, frzA_nil, frzAL_nil]
end
theorem frzO_nil (x : Ob) : frzO [] x = x := by cases x <;> simp [frzO, frzAL_nil]
end

section
variable {tb : TB} {X : Ctx} {P : Program} {Wn : Nat} {Y : Nat → List D → Bool → Prop} {F : Fence} {n : Nat} {g : Nat → A} {o : Nat → Option Ob} {a : Act} {w : World} {G : Nat → Option GR} {I : Nat → Prop} {oper : Oper} {K : Eff → Prop} {nid : Nat}
variable (hP : PG P tb) (hF : Wide F) (m : Mod tb X g o a w G I) (hdst : ∀ d, oper.dst = some d → d < X.nt)

theorem lookO_dead : ∀ (z : List (Nat × D)) (i : Nat), lookO (z.map fun p => (p.1, Ob.dead)) i = (lookD z i).map fun _ => .dead
  | [], i => rfl
  | (k, x) :: r, i => by
    simp only [List.map_cons, lookO, lookD, lookO_dead r i]
    cases Nat.beq k i <;> rfl

mutual
theorem clrA_nil : ∀ (x : A), clrA [] x = x
  | .d x => by rw [clrA]
  | .ref i off => by rw [clrA]; rfl
  | .own i => by rw [clrA]; rfl
  | .eref i k sz off => by rw [clrA]; rfl
  | .pre i hi => by rw [clrA]; rfl
  | .fn f a b => by rw [clrA, clrAL_nil, clrAL_nil]
  | .agg cs => by rw [clrA, clrAL_nil]
  | .tup cs => by rw [clrA, clrAL_nil]
  | .lst cs => by rw [clrA, clrAL_nil]
  | .lptr x => by rw [clrA, clrA_nil]
  | .unk => by rw [clrA]
theorem clrAL_nil : ∀ (x : List A), clrAL [] x = x
  | [] => by rw [clrAL]
  | x :: l => by rw [clrAL, clrA_nil, clrAL_nil]
end
theorem clrO_nil (x : Ob) : clrO [] x = x := by cases x <;> simp [clrO, clrAL_nil]

theorem trA_eq (e : Eff) (x : A) : trA e x = clrA e.clr (frzA e.frz x) := by
  unfold trA
  cases h1 : e.frz <;> cases h2 : e.clr <;> simp [frzA_nil, clrA_nil]
theorem trO_eq (e : Eff) (x : Ob) : trO e x = clrO e.clr (frzO e.frz x) := by
  unfold trO
  cases h1 : e.frz <;> cases h2 : e.clr <;> simp [frzO_nil, clrO_nil]

theorem appO_call {slot : Option (Nat × A)} {z : List (Nat × D)} : appO ⟨slot, z.map fun p => (p.1, .dead), z.map (·.1), 0, z, []⟩ o = frzObs o z := by
  funext i
  simp only [appO, lookO_dead, frzObs]
  cases lookD z i with
  | some d => rfl
  | none =>
    simp only [Option.map_none]
    congr 1
    funext x
    rw [trO_eq, clrO_nil]
theorem trA_call {slot : Option (Nat × A)} {z : List (Nat × D)} {obs : List (Nat × Ob)} {rd : List Nat} {k : Nat} : trA ⟨slot, obs, rd, k, z, []⟩ = frzA z := by
  funext x
  rw [trA_eq, clrA_nil]

theorem hideO_some {ρ : List Nat} {i : Nat} {x : Ob} (h : hideO ρ o i = some x) : o i = some x := by
  unfold hideO at h
  cases e : ρ.any (fun j => Nat.beq j i) with
  | true => rw [e] at h; cases h
  | false => rw [e] at h; exact h

theorem arrIds_of {post : List (Nat × Ob)} : ∀ {ρ : List Nat} {pre : List Ob} {k i j : Nat}, ρ[i]? = some j → preBa pre i = true → deadIn post (k + i) = false → j ∈ arrIds post k ρ pre
  | [], pre, k, i, j, h, _, _ => by simp at h
  | q :: r, [], k, i, j, _, h, _ => by simp [preBa] at h
  | q :: r, x :: s, k, i, j, h, hb, hd => by
    cases i with
    | zero =>
      simp at h; subst h
      cases x <;> simp [preBa] at hb
      rw [Nat.add_zero] at hd
      simp [arrIds, hd]
    | succ i =>
      have := arrIds_of (post := post) (ρ := r) (pre := s) (k := k + 1) (i := i) (j := j) (by simpa using h) (by simpa [preBa] using hb) (by rw [← hd]; congr 1; omega)
      cases x <;> simp only [arrIds] <;> first | exact this | (cases deadIn post k <;> simp [this])
theorem of_arrIds {post : List (Nat × Ob)} : ∀ {ρ : List Nat} {pre : List Ob} {k j : Nat}, j ∈ arrIds post k ρ pre → ∃ (i : Nat) (T : TypeId) (es : List (List D)), ρ[i]? = some j ∧ pre[i]? = some (.arr T es)
  | [], pre, k, j, h => by cases pre <;> simp [arrIds] at h
  | q :: r, [], k, j, h => by simp [arrIds] at h
  | q :: r, x :: s, k, j, h => by
    have go : j ∈ arrIds post (k + 1) r s → ∃ (i : Nat) (T : TypeId) (es : List (List D)), (q :: r)[i]? = some j ∧ (x :: s)[i]? = some (.arr T es) := fun h => by
      obtain ⟨i, T, es, h1, h2⟩ := of_arrIds h
      exact ⟨i + 1, T, es, by simpa using h1, by simpa using h2⟩
    cases x with
    | arr T es =>
      simp only [arrIds] at h
      cases hd : deadIn post k with
      | true => rw [hd] at h; exact go h
      | false =>
        rw [hd, cond_false, List.mem_cons] at h
        rcases h with rfl | h
        · exact ⟨0, T, es, rfl, rfl⟩
        · exact go h
    | _ => exact go h

theorem RepL.of_flat {I I' : Nat → Prop} {h : Array Obj} : ∀ {ds : List D} {vs : List Value}, (∀ d ∈ ds, flatD d = true) → RepL I h ds vs → RepL I' h ds vs
  | [], _, _, r => by rw [RepL] at r ⊢; exact r
  | d :: ds, _, hf, r => by
    rw [RepL] at r ⊢
    obtain ⟨v, q, h1, h2, h3⟩ := r
    refine ⟨v, q, h1, ?_, RepL.of_flat (fun x hx => hf x (List.mem_cons_of_mem _ hx)) h3⟩
    have := hf d (List.mem_cons_self ..)
    cases d with
    | v x => rw [RepD] at h2 ⊢; exact h2
    | _ => simp [flatD] at this
theorem RepR.of_flat {I I' : Nat → Prop} {h : Array Obj} {sz : Nat} : ∀ {es : List (List D)} {vs : List Value}, (∀ el ∈ es, ∀ d ∈ el, flatD d = true) → RepR I h sz es vs → RepR I' h sz es vs
  | [], _, _, _ => by rw [RepR]; trivial
  | e :: es, _, hf, r => by
    rw [RepR] at r ⊢
    obtain ⟨h1, h2, h3, h4⟩ := r
    exact ⟨h1, RepL.of_flat (hf e (List.mem_cons_self ..)) h2, h3, RepR.of_flat (fun x hx => hf x (List.mem_cons_of_mem _ hx)) h4⟩

theorem cover_spec {n : Nat} {post : List (Nat × Ob)} (h : coverB n post = true) {i : Nat} (hi : i < n) : (lookO post i).isSome = true := by
  have h1 := List.all_eq_true.1 h i (List.mem_range.2 hi)
  clear h
  rw [memK_eq] at h1
  induction post with
  | nil => simp at h1
  | cons p post ih =>
    obtain ⟨k, x⟩ := p
    rw [lookO]
    cases e : Nat.beq k i with
    | true => rfl
    | false => rw [List.any_cons, e, Bool.false_or] at h1; exact ih h1

omit hP hF m hdst in
theorem RepD.of_flatR {I I' : Nat → Prop} {h : Array Obj} : ∀ {d : D} {v : Value}, flatR d = true → RepD I h d v → RepD I' h d v := by
  have hl : ∀ {l : List D} {vs : List Value}, (∀ d ∈ l, ∀ v, RepD I h d v → RepD I' h d v) → RepL I h l vs → RepL I' h l vs := by
    intro l
    induction l with
    | nil => intro vs _ r; rw [RepL] at r ⊢; exact r
    | cons d l ih =>
      intro vs hh r
      rw [RepL] at r ⊢
      obtain ⟨v, q, e, r1, r2⟩ := r
      exact ⟨v, q, e, hh d (by simp) v r1, ih (fun d hd => hh d (by simp [hd])) r2⟩
  have h0 : ∀ {d : D} {v : Value}, flatD d = true → RepD I h d v → RepD I' h d v := by
    intro d v hf r
    cases d with
    | v x => rw [RepD] at r ⊢; exact r
    | _ => simp [flatD] at hf
  have h1 : ∀ {xs : List D} {v : Value}, xs.all flatD = true → RepD I h (.agg xs) v → RepD I' h (.agg xs) v := by
    intro xs v hf r
    rw [RepD] at r ⊢
    obtain ⟨x, e, r⟩ := r
    exact ⟨x, e, hl (fun d hd v r => h0 (List.all_eq_true.1 hf d hd) r) r⟩
  intro d v hf r
  cases d with
  | v x => rw [RepD] at r ⊢; exact r
  | agg xs => exact h1 hf r
  | tup xs =>
    rw [RepD] at r ⊢
    obtain ⟨x, e, r⟩ := r
    refine ⟨x, e, hl (fun d hd v r => ?_) r⟩
    have := List.all_eq_true.1 hf d hd
    cases d with
    | v x => rw [RepD] at r ⊢; exact r
    | agg zs => exact h1 this r
    | _ => simp at this
  | _ => simp [flatR] at hf

omit hP hF m hdst in
theorem effPure_cases {w : Nat} {dst : Option Tmp} {frz : List (Nat × D)} {r : D} {K : Eff → Prop} : effPure w dst frz r K →
    (frz = [] ∧ (match dst with
      | some d => fA (.d r) fun x => K ⟨some (d, x), [], [], 0, [], []⟩
      | none => K ⟨none, [], [], 0, [], []⟩)) ∨
    (flatR r = true ∧ (match dst with
      | some d => fA (.d r) fun x => K ⟨some (d, x), [], frz.map (·.1), 0, [], []⟩
      | none => K ⟨none, [], frz.map (·.1), 0, [], []⟩)) ∨
    (match dst with
      | some d => fA (.d r) fun x => K ⟨some (d, x), frz.map fun p => (p.1, .dead), frz.map (·.1), 0, bif Nat.beq w 4 then [] else frz, []⟩
      | none => K ⟨none, frz.map fun p => (p.1, .dead), frz.map (·.1), 0, bif Nat.beq w 4 then [] else frz, []⟩) := by
  intro h
  unfold effPure at h
  split at h
  · exact .inl ⟨rfl, h⟩
  · rcases h with h | h
    · exact .inr (.inl h)
    · exact .inr (.inr h)

include hP hF m hdst

theorem snd_call {c : Call} {f : Operand} (hop : oper.op = .call c) (hc : c.callee = .value f) (hsome : (getFn (opA g f)).isSome = true) (hnb : X.nb ≤ nid) (hw : ∀ k, k < Wn → o (nid + k) = none) (h : effOp tb (Con P tb Wn Y) (.call c) oper.dst g o nid K) : ∃ e, K e ∧ Does tb X P F n g o a w oper e := by
  have hd : ∀ c, oper.op ≠ .defer c := by simp [hop]
  simp only [effOp, hc] at h
  split at h
  · rename_i fid first caps hfn
    -- the callee's value
    have hval : ∃ x y, a.eval f = .func (.func fid) x y ∧ RepAL G I w.heap first x.toList ∧ RepAL G I w.heap caps y.toList := by
      have rf := m.eval f
      unfold getFn at hfn
      split at hfn
      · rename_i f' p q hx
        simp only [Option.some.injEq, Prod.mk.injEq] at hfn
        obtain ⟨rfl, rfl, rfl⟩ := hfn
        rw [hx, RepA, RepD] at rf
        obtain ⟨x, y, h1, h2, h3⟩ := rf
        exact ⟨x, y, h1, RepAL.of_d.2 h2, RepAL.of_d.2 h3⟩
      · rename_i f' p q hx
        simp only [Option.some.injEq, Prod.mk.injEq] at hfn
        obtain ⟨rfl, rfl, rfl⟩ := hfn
        rw [hx, RepA] at rf
        obtain ⟨x, y, h1, h2, h3⟩ := rf
        exact ⟨x, y, h1, h2, h3⟩
      · cases hfn
    obtain ⟨x, y, hx, h1, h2⟩ := hval
    have hargs : RepAL G I w.heap (c.args.toList.map (opA g)) (c.args.toList.map a.eval) := by
      generalize c.args.toList = l
      induction l with
      | nil => exact RepAL.nil
      | cons z l ih => exact RepAL.cons (m.eval z) ih
    have hall := RepAL.append (RepAL.append h1 hargs) h2
    have hrun : ∀ (hok : FnOK P fid), (execOp a.eval oper).run P w = .ok (.enter fid (x.toList ++ c.args.toList.map a.eval ++ y.toList).toArray) w := by
      rintro ⟨fn, hfn1, hfn2, hfn3⟩
      have e1 : (x.toList ++ c.args.toList.map a.eval ++ y.toList).toArray = x ++ (c.args.map a.eval ++ y) := by
        apply Array.ext'; simp
      have q1 : fn.name ≠ "runtime.NumGoroutine" := by simpa using hfn2
      have q2 : fn.body ≠ none := fun e => by rw [e] at hfn3; cases hfn3
      rw [e1]
      simp [execOp, hop, resolve, hc, hx, Deferred.ofValue, invoke, callFunc, hfn1, q1, q2]
    rcases h with h | ⟨ρ, N, r, post, hS, h⟩
    · obtain ⟨as, frz, hh⟩ : ∃ as frz, handL true o (first ++ c.args.toList.map (opA g) ++ caps) = (as, frz) := ⟨_, _, rfl⟩
      rw [hh] at h
      simp only at h
      have hz : ZOK o frz := by have := handL_zok (cv := true) (o := o) (first ++ c.args.toList.map (opA g) ++ caps); rwa [hh] at this
      have hrep := handL_rep (cv := true) hz m.objs (by rw [hh]; exact fun p hp => hp) hall
      rw [hh] at hrep
      simp only at hrep
      have m1 := m.freeze hz.frz
      split at h
      · rename_i ds hds
        have h : ∃ r, Pure P fid ds r ∧ effPure Wn oper.dst frz r K := h
        obtain ⟨r, ⟨hok, hpure⟩, h⟩ := h
        rw [toDs_eq hds] at hrep
        have hrep := RepAL.of_d.1 hrep
        have hrun := hrun hok
        have hcall := hpure w _ _ m1.isz hrep
        have key : ∀ v w'', (∃ I', RepD I' w''.heap r v ∧ (∀ b, frzI G I frz b → I' b) ∧ (∀ b, I' b → frzI G I frz b ∨ w.heap.size ≤ b) ∧ (∀ b, I' b → b < w''.heap.size) ∧ Below w.heap.size w w'') →
            ∃ I', Mod tb X (slotG oper.dst (.d r) fun t => frzA frz (g t)) (frzObs o frz) (a.put oper.dst v) w'' G I' := by
          rintro v w'' ⟨I', r1, r2, r3, r4, r5⟩
          have m2 := m1.grow r5 r2 r3 r4
          exact ⟨I', m2.slotE hdst (by rw [RepA]; exact r1)⟩
        have fin : ∀ slot, K ⟨slot, frz.map fun p => (p.1, .dead), frz.map (·.1), 0, frz, []⟩ → appG ⟨slot, frz.map fun p => (p.1, .dead), frz.map (·.1), 0, frz, []⟩ g = (slotG oper.dst (.d r) fun t => frzA frz (g t)) →
            ∃ e, K e ∧ Does tb X P F n g o a w oper e := by
          intro slot hK hg
          refine ⟨_, hK, fun next Q hN => wpIn_enter hF hd hrun hcall fun v w'' hr => ?_⟩
          obtain ⟨I', m3⟩ := key v w'' hr
          refine hN _ _ G I' ?_
          rw [hg, appO_call]
          exact m3
        have keep : ∀ slot rd, flatR r = true → K ⟨slot, [], rd, 0, [], []⟩ → appG ⟨slot, [], rd, 0, [], []⟩ g = (slotG oper.dst (.d r) g) → ∃ e, K e ∧ Does tb X P F n g o a w oper e := by
          intro slot rd hfl hK hg
          refine ⟨_, hK, fun next Q hN => wpIn_enter hF hd hrun hcall fun v w'' hr => ?_⟩
          obtain ⟨I', r1, r2, r3, r4, r5⟩ := hr
          have m2 := m.grow r5 (I' := I) (fun _ h => h) (fun _ h => .inl h) (fun b hb => Nat.lt_of_lt_of_le (m.isz b hb) r5.size)
          have m3 := m2.slotE hdst (x := .d r) (v := v) (by rw [RepA]; exact RepD.of_flatR hfl r1)
          refine hN _ _ G I ?_
          rw [hg, appO_id rfl rfl rfl]
          exact m3
        rcases effPure_cases h with ⟨hz0, h9⟩ | ⟨hfl, h9⟩ | h9
        · subst hz0
          have e0 : frzI G I [] = I := by
            funext b
            simp [frzI, lookD]
          have fin0 : ∀ slot, K ⟨slot, [], [], 0, [], []⟩ → appG ⟨slot, [], [], 0, [], []⟩ g = (slotG oper.dst (.d r) g) → ∃ e, K e ∧ Does tb X P F n g o a w oper e := by
            intro slot hK hg
            refine ⟨_, hK, fun next Q hN => wpIn_enter hF hd hrun hcall fun v w'' hr => ?_⟩
            obtain ⟨I', r1, r2, r3, r4, r5⟩ := hr
            rw [e0] at r2 r3
            have m2 := m.grow r5 r2 r3 r4
            have m3 := m2.slotE hdst (x := .d r) (v := v) (by rw [RepA]; exact r1)
            refine hN _ _ G I' ?_
            rw [hg, appO_id rfl rfl rfl]
            exact m3
          cases hd' : oper.dst with
          | some d =>
            simp only [hd', fA_eq] at h9
            refine fin0 _ h9 ?_
            rw [hd']
            funext t
            simp only [appG, trA, slotG, id]
          | none =>
            simp only [hd'] at h9
            refine fin0 _ h9 ?_
            rw [hd']
            funext t
            simp only [appG, trA, slotG, id]
        · cases hd' : oper.dst with
          | some d =>
            simp only [hd', fA_eq] at h9
            refine keep _ _ hfl h9 ?_
            rw [hd']
            funext t
            simp only [appG, trA, slotG, id]
          | none =>
            simp only [hd'] at h9
            refine keep _ _ hfl h9 ?_
            rw [hd']
            funext t
            simp only [appG, trA, slotG, id]
        by_cases hWn : Nat.beq Wn 4 = true
        · rw [hWn] at h9
          simp only [cond_true] at h9
          have mk := m.kill hz.frz
          have key2 : ∀ v w'', (∃ I', RepD I' w''.heap r v ∧ (∀ b, frzI G I frz b → I' b) ∧ (∀ b, I' b → frzI G I frz b ∨ w.heap.size ≤ b) ∧ (∀ b, I' b → b < w''.heap.size) ∧ Below w.heap.size w w'') →
              ∃ I', Mod tb X (slotG oper.dst (.d r) g) (killObs o frz) (a.put oper.dst v) w'' G I' := by
            rintro v w'' ⟨I', r1, r2, r3, r4, r5⟩
            have m2 := mk.grow r5 r2 r3 r4
            exact ⟨I', m2.slotE hdst (by rw [RepA]; exact r1)⟩
          have fin2 : ∀ slot, K ⟨slot, frz.map fun p => (p.1, .dead), frz.map (·.1), 0, [], []⟩ → appG ⟨slot, frz.map fun p => (p.1, .dead), frz.map (·.1), 0, [], []⟩ g = (slotG oper.dst (.d r) g) →
              ∃ e, K e ∧ Does tb X P F n g o a w oper e := by
            intro slot hK hg
            refine ⟨_, hK, fun next Q hN => wpIn_enter hF hd hrun hcall fun v w'' hr => ?_⟩
            obtain ⟨I', m3⟩ := key2 v w'' hr
            refine hN _ _ G I' ?_
            rw [hg]
            have e1 : appO ⟨slot, frz.map fun p => (p.1, .dead), frz.map (·.1), 0, [], []⟩ o = killObs o frz := by
              funext i
              simp only [appO, lookO_dead, killObs, trO]
              cases lookD frz i with
              | some x => rfl
              | none => cases o i <;> rfl
            rw [e1]
            exact m3
          cases hd' : oper.dst with
          | some d =>
            simp only [hd', fA_eq] at h9
            refine fin2 _ h9 ?_
            rw [hd']
            funext t
            simp only [appG, trA, slotG, id]
          | none =>
            simp only [hd'] at h9
            refine fin2 _ h9 ?_
            rw [hd']
            funext t
            simp only [appG, trA, slotG, id]
        · rw [Bool.not_eq_true] at hWn
          rw [hWn] at h9
          simp only [cond_false] at h9
          cases hd' : oper.dst with
          | some d =>
            simp only [hd', fA_eq] at h9
            refine fin _ h9 ?_
            rw [hd']
            funext t
            simp only [appG, trA_call, slotG]
          | none =>
            simp only [hd'] at h9
            refine fin _ h9 ?_
            rw [hd']
            funext t
            simp only [appG, trA_call, slotG]
      · exact h.elim
    · obtain ⟨as, frz, hh⟩ : ∃ as frz, handL false (hideO ρ o) (first ++ c.args.toList.map (opA g) ++ caps) = (as, frz) := ⟨_, _, rfl⟩
      rw [hh] at h hS
      simp only at h hS
      have hz0 : ZOK (hideO ρ o) frz := by have := handL_zok (cv := false) (o := hideO ρ o) (first ++ c.args.toList.map (opA g) ++ caps); rwa [hh] at this
      have hz : ZOK o frz := fun p hp => by
        obtain ⟨T, es, h1, h2⟩ := hz0 p hp
        exact ⟨T, es, hideO_some h1, h2⟩
      have hrep := handL_rep (cv := false) hz0 (fun i ob hi => m.objs i ob (hideO_some hi)) (by rw [hh]; exact fun p hp => hp) hall
      rw [hh] at hrep
      simp only at hrep
      have m1 := m.freeze hz.frz
      obtain ⟨hok, hbor⟩ := hS
      obtain ⟨rd0, hrd0⟩ : ∃ rd0, rd0 = ρ ++ frz.map (·.1) ++ ownIds (first ++ (c.args.toList.map (opA g)) ++ caps) := ⟨_, rfl⟩
      obtain ⟨js, hjs⟩ : ∃ js, js = arrIds post 0 ρ (pres o frz ρ) := ⟨_, rfl⟩
      rw [← hrd0, ← hjs] at h
      cases hbB : borB ρ nid N Wn (pres o frz ρ) post with
      | false =>
        have h : (bif borB ρ nid N Wn (pres o frz ρ) post then (bif frB Wn frz then effFr oper.dst ρ nid rd0 r post K else effBor oper.dst ρ nid N frz rd0 js r (dropRo (pres o frz ρ) post) K) else False) := h
        rw [hbB] at h; exact h.elim
      | true =>
        have h : (bif borB ρ nid N Wn (pres o frz ρ) post then (bif frB Wn frz then effFr oper.dst ρ nid rd0 r post K else effBor oper.dst ρ nid N frz rd0 js r (dropRo (pres o frz ρ) post) K) else False) := h
        rw [hbB, cond_true] at h
        simp only [borB, postB_eq, Nat.zero_le, true_and, Bool.and_eq_true, List.all_eq_true, Nat.blt_eq, Nat.ble_eq, Bool.not_eq_true'] at hbB
        obtain ⟨⟨⟨⟨⟨⟨b0, b1⟩, b2⟩, b3⟩, b4⟩, b5⟩, b6⟩ := hbB
        obtain ⟨oz, hoz⟩ : ∃ oz : Nat → Option Ob, oz = fun j => match lookD frz j with | some _ => some .dead | none => o j := ⟨_, rfl⟩
        have hpres : pres o frz ρ = ρ.map fun j => invO ρ (oz j) := by
          rw [hoz]; unfold pres
          cases frz with
          | nil => rfl
          | cons p q => rfl
        have hlen : (pres o frz ρ).length = ρ.length := by rw [hpres]; simp
        have hozob : ∀ i ob, oz i = some ob → ObOK tb G (frzI G I frz) w.heap i ob := by
          intro i ob hi
          rw [hoz] at hi
          simp only at hi
          split at hi
          · cases hi; trivial
          · exact ObOK.mono (fun _ _ h => h) (fun _ h => .inl h) (fun _ _ => rfl) (fun _ _ _ _ _ => rfl) (m.objs i ob hi)
        have hob : ∀ i ob j, (pres o frz ρ)[i]? = some ob → ρ[i]? = some j → ObOK tb (subG ρ G) (frzI G I frz) w.heap i ob ∧ (ob.live = true → ∃ oj, frzObs o frz j = some oj ∧ oj.live = true) := by
          intro i ob j hi hj
          rw [hpres, List.getElem?_map, hj] at hi
          simp only [Option.map_some, Option.some.injEq] at hi
          subst hi
          refine ⟨ObOK.invO hozob hj, fun hlv => ?_⟩
          rw [hoz] at hlv
          simp only at hlv
          unfold frzObs
          cases e : lookD frz j with
          | some d => rw [e] at hlv; simp [invO, Ob.live] at hlv
          | none =>
            rw [e] at hlv
            cases e2 : o j with
            | none => rw [e2] at hlv; simp [invO, Ob.live] at hlv
            | some oj =>
              rw [e2] at hlv
              refine ⟨_, rfl, ?_⟩
              rw [frzO_live]
              cases oj <;> simp_all [invO, Ob.live]
        have mL := m1.lend hlen b1 b5 hob
        have harr : ∀ (i j : Nat) (T : TypeId) (es : List (List D)), (pres o frz ρ)[i]? = some (Ob.arr T es) → ρ[i]? = some j → ∃ T es, frzObs o frz j = some (Ob.arr T es) := by
          intro i j T es hi hj
          rw [hpres, List.getElem?_map, hj] at hi
          simp only [Option.map_some, Option.some.injEq] at hi
          rw [hoz] at hi
          simp only at hi
          unfold frzObs
          cases e : lookD frz j with
          | some d => rw [e] at hi; simp [invO] at hi
          | none =>
            rw [e] at hi
            cases e2 : o j with
            | none => rw [e2] at hi; simp [invO] at hi
            | some oj => rw [e2] at hi; cases oj <;> simp [invO] at hi; exact ⟨_, _, rfl⟩
        have hba : ∀ i j, ρ[i]? = some j → baD (pres o frz ρ) post i = true → memN js j = true ∧ ∃ T es, frzObs o frz j = some (Ob.arr T es) := by
          intro i j hj hb
          simp only [baD, Bool.and_eq_true, Bool.not_eq_true'] at hb
          refine ⟨memN_iff.2 (by rw [hjs]; exact arrIds_of hj hb.1 (by rw [Nat.zero_add]; exact hb.2)), ?_⟩
          replace hb := hb.1
          unfold preBa at hb
          split at hb
          · rename_i T es he; exact harr i j T es he hj
          · cases hb
        have hjs' : ∀ j, memN js j = true → j ∈ ρ ∧ ∃ T es, frzObs o frz j = some (Ob.arr T es) := by
          intro j hj
          rw [memN_iff, hjs] at hj
          obtain ⟨i, T, es, h1, h2⟩ := of_arrIds hj
          exact ⟨List.mem_of_getElem? h1, harr i j T es h2 h1⟩
        have hcall := hbor w (frzI G I frz) (subG ρ G) _ mL (RepAL.inv (ρ := ρ) _ _ hrep)
        have hfree : ∀ k, k < N - ρ.length → frzObs o frz (nid + k) = none := fun k hk => by
          have h0 := hw k (by omega)
          unfold frzObs
          cases e : lookD frz (nid + k) with
          | some d => obtain ⟨T, es, h1, _⟩ := hz.frz _ _ e; rw [h0] at h1; cases h1
          | none => simp only [h0]; rfl
        by_cases hfr : frB Wn frz = true
        · rw [hfr, cond_true] at h
          simp only [frB, Bool.and_eq_true] at hfr
          have hW : Wn = 4 := Nat.eq_of_beq_eq_true hfr.1
          unfold effFr at h
          split at h
          · rename_i _ _ _ T es _
            obtain ⟨hflat, h⟩ := h
            have hp0 : (pres o frz []).length = 0 := by unfold pres; cases frz <;> rfl
            have hfr0 : o nid = none := hw 0 (by omega)
            have hrun := hrun hok
            have key : ∀ v w'', (∃ G' I', Mod tb (Ctx.callD w (frzI G I frz) (pres o frz []) [(0, .arr T es)] (subG [] G) 0) noG (lookO [(0, .arr T es)]) noAct w'' G' I' ∧ RepA G' I' w''.heap (.own 0) v) →
                ∃ G2, Mod tb X (slotG oper.dst (.own nid) g) (updO o nid (.arr T es)) (a.put oper.dst v) w'' G2 I := by
              rintro v w'' ⟨G', I', mc, rr⟩
              have hbel : RowKit.Below w.heap.size w w'' := ⟨mc.os, mc.tape, mc.output, mc.wsz, fun b hb => mc.frame b hb (.inr ⟨fun q => q.elim, fun ⟨i, _, q, _⟩ => by rw [hp0] at q; omega⟩)⟩
              rw [RepA] at rr
              obtain ⟨⟨gr, hgr, rfl⟩, hone⟩ := rr
              obtain ⟨y, hy, hob⟩ := mc.objs 0 (.arr T es) rfl
              have hsize : ∀ b, gr.blk = some b → w.heap.size ≤ b ∧ b < w''.heap.size := by
                intro b hb
                obtain ⟨_, q2, q3⟩ := mc.own 0 (.arr T es) gr b rfl rfl hgr hb
                refine ⟨?_, q2⟩
                rcases q3 with q3 | ⟨i, _, q, _⟩
                · exact q3
                · rw [hp0] at q; omega
              have hobn : ObOK tb (updG G nid gr) I w''.heap nid (.arr T es) := by
                refine ⟨y, hy, ?_⟩
                rcases hob with ⟨e1, e2⟩ | ⟨b, cap, c, e1, e2, e3, e4, e5, e6⟩
                · rw [hgr] at e2; cases e2
                  exact .inl ⟨e1, updG_self⟩
                · rw [hgr] at e1; cases e1
                  exact .inr ⟨b, cap, c, updG_self, e2, e3, e4, e5, RepR.of_flat hflat e6⟩
              have m2 := m.mk' (i := nid) (gr := gr) (ob := .arr T es) hfr0 hnb hbel hsize hobn (by intro k q; cases q)
              exact ⟨_, m2.slotE hdst (by rw [RepA]; exact ⟨⟨gr, updG_self, rfl⟩, hone⟩)⟩
            have fin : ∀ slot, K ⟨slot, [(nid, .arr T es)], rd0, 1, [], []⟩ → appG ⟨slot, [(nid, .arr T es)], rd0, 1, [], []⟩ g = slotG oper.dst (.own nid) g →
                ∃ e, K e ∧ Does tb X P F n g o a w oper e := by
              intro slot hK hg
              refine ⟨_, hK, fun next Q hN => wpIn_enter hF hd hrun hcall fun v w'' hr => ?_⟩
              obtain ⟨G2, m3⟩ := key v w'' hr
              refine hN _ _ G2 I ?_
              rw [hg]
              have e2 : appO ⟨slot, [(nid, .arr T es)], rd0, 1, [], []⟩ o = updO o nid (.arr T es) := by
                funext i
                simp only [appO, lookO, updO, trO]
                cases Nat.beq nid i with
                | true => rfl
                | false => simp only [cond_false]; cases o i <;> rfl
              rw [e2]
              exact m3
            cases hd' : oper.dst with
            | some d =>
              simp only [hd'] at h
              refine fin _ h ?_
              rw [hd']
              funext t
              simp only [appG, trA_id (e := ⟨some (d, .own nid), [(nid, .arr T es)], rd0, 1, [], []⟩) rfl rfl, id, slotG]
            | none =>
              simp only [hd'] at h
              refine fin _ h ?_
              rw [hd']
              funext t
              simp only [appG, trA_id (e := ⟨none, [(nid, .arr T es)], rd0, 1, [], []⟩) rfl rfl, id, slotG]
          · exact h.elim
        rw [Bool.not_eq_true] at hfr
        rw [hfr, cond_false] at h
        obtain ⟨post', hpost'⟩ : ∃ post', post' = dropRo (pres o frz ρ) post := ⟨_, rfl⟩
        rw [← hpost'] at h
        have hinj : ∀ k k', k < N → k' < N → outI ρ nid k = outI ρ nid k' → k = k' := by
          intro k k' hk hk' he
          unfold outI at he
          cases e1 : ρ[k]? with
          | some j =>
            cases e2 : ρ[k']? with
            | some j' => simp only [e1, e2] at he; subst he; exact nodupB_spec b1 e1 e2
            | none => simp only [e1, e2] at he; have := b2 j (List.mem_of_getElem? e1); omega
          | none =>
            have h1 := List.getElem?_eq_none_iff.1 e1
            cases e2 : ρ[k']? with
            | some j' => simp only [e1, e2] at he; have := b2 j' (List.mem_of_getElem? e2); omega
            | none => have h2 := List.getElem?_eq_none_iff.1 e2; simp only [e1, e2] at he; omega
        have hro1 : ∀ i, lookO (post'.map fun p => (outI ρ nid p.1, outO ρ nid p.2)) i = none → (lookO (post.map fun p => (outI ρ nid p.1, outO ρ nid p.2)) i).isSome = true → ∃ T cs, frzObs o frz i = some (.ro T cs) := by
          intro i hn hs
          obtain ⟨y, hy⟩ := Option.isSome_iff_exists.1 hs
          obtain ⟨k, ob, r1, r2, r3⟩ := lookS_of hy
          have hk : roB (pres o frz ρ) k = true := by
            cases e : roB (pres o frz ρ) k with
            | true => rfl
            | false =>
              have : lookO post' k = some ob := by rw [hpost', lookO_drop, e]; exact r1
              have := lookI_of (f := outI ρ nid) (q := outO ρ nid) this
              rw [r2, hn] at this; cases this
          unfold roB at hk
          split at hk
          · rename_i T cs he
            rw [hpres, List.getElem?_map] at he
            obtain ⟨j, hj, he⟩ := Option.map_eq_some_iff.1 he
            have hji : j = i := by rw [← r2]; simp [outI, hj]
            subst hji
            rw [hoz] at he
            simp only at he
            unfold frzObs
            cases e : lookD frz j with
            | some d => rw [e] at he; simp [invO] at he
            | none =>
              rw [e] at he
              cases e2 : o j with
              | none => rw [e2] at he; simp [invO] at he
              | some oj =>
                rw [e2] at he
                cases oj <;> simp [invO] at he
                exact ⟨_, _, rfl⟩
          · cases hk
        have hsame : ∀ i x, lookO (post'.map fun p => (outI ρ nid p.1, outO ρ nid p.2)) i = some x → lookO (post.map fun p => (outI ρ nid p.1, outO ρ nid p.2)) i = some x := by
          intro i x hx
          obtain ⟨k, ob, r1, r2, r3⟩ := lookS_of hx
          rw [hpost', lookO_drop] at r1
          cases e : roB (pres o frz ρ) k with
          | true => rw [e] at r1; cases r1
          | false =>
            rw [e, cond_false] at r1
            obtain ⟨y, hy⟩ := Option.isSome_iff_exists.1 (lookI_of (f := outI ρ nid) (q := outO ρ nid) r1)
            rw [r2] at hy
            obtain ⟨k', ob', s1, s2, s3⟩ := lookS_of hy
            have := hinj k k' (b6 _ (lookO_mem r1)).1 (b6 _ (lookO_mem s1)).1 (by rw [r2, s2])
            subst this
            rw [r1] at s1; cases s1
            rw [hy, s3, r3]
        have key : ∀ v w'', (∃ G' I', Mod tb (Ctx.callD w (frzI G I frz) (pres o frz ρ) post (subG ρ G) 0) noG (lookO post) noAct w'' G' I' ∧ RepA G' I' w''.heap r v) →
            ∃ G2 I', Mod tb X (slotG oper.dst (outA ρ nid r) fun t => clrA js (frzA frz (g t))) (fun i => match lookO (post'.map fun p => (outI ρ nid p.1, outO ρ nid p.2)) i with | some x => some x | none => (frzObs o frz i).map (clrO js)) (a.put oper.dst v) w'' G2 I' := by
          rintro v w'' ⟨G', I', mc, rr⟩
          obtain ⟨G2, hG2, m2, hro2⟩ := m1.back hlen b1 b5 hob hba hjs' (fun i hi => cover_spec b0 hi) b2 b3 (fun p hp => b6 p hp) hnb hfree mc
          have m3 := m2.rekeep (o' := fun i => match lookO (post'.map fun p => (outI ρ nid p.1, outO ρ nid p.2)) i with | some x => some x | none => (frzObs o frz i).map (clrO js)) (fun i x hx => by
            split at hx
            · rename_i y hy
              cases hx
              left
              rw [hsame i _ hy]
            · rename_i hn
              cases e : lookO (post.map fun p => (outI ρ nid p.1, outO ρ nid p.2)) i with
              | none => left; exact hx
              | some z =>
                right
                obtain ⟨T, cs, hr⟩ := hro1 i hn (by rw [e]; rfl)
                rw [hr] at hx
                simp only [Option.map_some, Option.some.injEq] at hx
                subst hx
                exact ⟨⟨T, _, rfl⟩, hro2 i T cs hr⟩) (fun i hi => by
            split
            · rfl
            · rename_i hn
              cases e : lookO (post.map fun p => (outI ρ nid p.1, outO ρ nid p.2)) i with
              | none => rw [e] at hi; exact hi
              | some z =>
                obtain ⟨T, cs, hr⟩ := hro1 i hn (by rw [e]; rfl)
                rw [hr]; rfl)
          exact ⟨G2, I', m3.slotE hdst (RepA.out hG2 _ _ rr)⟩
        have hrun := hrun hok
        have fin : ∀ slot, K ⟨slot, (post'.map fun p => (outI ρ nid p.1, outO ρ nid p.2)) ++ frz.map fun p => (p.1, .dead), rd0, N - ρ.length, frz, js⟩ →
            appG ⟨slot, (post'.map fun p => (outI ρ nid p.1, outO ρ nid p.2)) ++ frz.map fun p => (p.1, .dead), rd0, N - ρ.length, frz, js⟩ g = (slotG oper.dst (outA ρ nid r) fun t => clrA js (frzA frz (g t))) →
            ∃ e, K e ∧ Does tb X P F n g o a w oper e := by
          intro slot hK hg
          refine ⟨_, hK, fun next Q hN => wpIn_enter hF hd hrun hcall fun v w'' hr => ?_⟩
          obtain ⟨G2, I', m3⟩ := key v w'' hr
          refine hN _ _ G2 I' ?_
          rw [hg]
          have e2 : appO ⟨slot, (post'.map fun p => (outI ρ nid p.1, outO ρ nid p.2)) ++ frz.map fun p => (p.1, .dead), rd0, N - ρ.length, frz, js⟩ o =
              (fun i => match lookO (post'.map fun p => (outI ρ nid p.1, outO ρ nid p.2)) i with | some x => some x | none => (frzObs o frz i).map (clrO js)) := by
            funext i
            simp only [appO]
            rw [lookO_append]
            cases lookO (post'.map fun p => (outI ρ nid p.1, outO ρ nid p.2)) i with
            | some x => rfl
            | none =>
              simp only [lookO_dead, frzObs]
              cases lookD frz i with
              | some d => rfl
              | none =>
                simp only [Option.map_none, Option.map_map]
                congr 1
                funext x
                rw [trO_eq]; rfl
          rw [e2]
          exact m3
        unfold effBor at h
        cases hd' : oper.dst with
        | some d =>
          simp only [hd', forceA_eq, outObs_eq] at h
          refine fin _ h ?_
          rw [hd']
          funext t
          simp only [appG, trA_eq, slotG]
        | none =>
          simp only [hd', outObs_eq] at h
          refine fin _ h ?_
          rw [hd']
          funext t
          simp only [appG, trA_eq, slotG]
  · rename_i hn; rw [hn] at hsome; cases hsome

omit hP hF m hdst in
theorem RepE.length {h : Array Obj} : ∀ {es : List (D × D)} {ents : List MapEntry}, RepE I h es ents → ents.length = es.length
  | [], _, r => by rw [RepE] at r; subst r; rfl
  | (k, v) :: es, _, r => by
    rw [RepE] at r
    obtain ⟨e, s, rfl, _, _, r⟩ := r
    simp [RepE.length r]

theorem snd_len {c : Call} (hop : oper.op = .call c) (hc : c.callee = .builtin .len) (h : effOp tb (Con P tb Wn Y) (.call c) oper.dst g o nid K) : ∃ e, K e ∧ Does tb X P F n g o a w oper e := by
  have hd : ∀ c, oper.op ≠ .defer c := by simp [hop]
  simp only [effOp, hc] at h
  split at h
  · rename_i x T hx hT
    have hargs : c.args = #[x] := by apply Array.ext'; simpa using hx
    have htys : c.argTypes = #[T] := by apply Array.ext'; simpa using hT
    split at h
    · rename_i ke ee s1 s2 z bk hTy
      have hk := (hP.ty T _ hTy).kind
      simp only [TKOK] at hk
      split at h
      · rename_i i hxx
        split at h
        · rename_i k' e' es ho
          obtain ⟨b, ents, clock, r1, r2, r3, _⟩ := m.objs i _ ho
          have rx := m.eval x
          rw [hxx, RepA] at rx
          obtain ⟨⟨gr, hg, hu⟩, _⟩ := rx
          rw [hg] at r1; cases r1
          have hl : ents.size = es.length := by simpa using RepE.length r3
          refine fin_put hF hd (v := .int .i64 es.length) ?_ m (by unfold intRes; rw [RepA, RepD]) hdst h
          simp [execOp, hop, resolve, hc, hargs, htys, invoke, builtin, Builtin.len_, run_und hk, hu, goInt, getObj, Sem.run, r2, hl]
        · exact h.elim
      · exact h.elim
    · rename_i e s1 s2 z bk hTy
      have hk := (hP.ty T _ hTy).kind
      simp only [TKOK] at hk
      split at h
      · rename_i es rd hel
        have rx := m.eval x
        have hv : ∃ ad cap, a.eval x = .slice ad es.length cap := by
          unfold elemsOf at hel
          split at hel
          · rename_i es' hxx
            simp only [Option.some.injEq, Prod.mk.injEq] at hel
            obtain ⟨rfl, _⟩ := hel
            rw [hxx, RepA, RepD] at rx
            obtain ⟨ad, len, cap, hu, h1, _⟩ := rx
            exact ⟨ad, cap, by rw [hu, h1]⟩
          · rename_i hxx
            simp only [Option.some.injEq, Prod.mk.injEq] at hel
            obtain ⟨rfl, _⟩ := hel
            rw [hxx, RepA, RepD] at rx
            exact ⟨none, 0, by rw [rx]; rfl⟩
          · rename_i i hxx
            split at hel
            · rename_i T' es' ho
              simp only [Option.some.injEq, Prod.mk.injEq] at hel
              obtain ⟨rfl, _⟩ := hel
              rw [hxx, RepA] at rx
              obtain ⟨⟨gr, hg, hu⟩, _⟩ := rx
              obtain ⟨y, hy, hob⟩ := m.objs i _ ho
              rcases hob with ⟨rfl, h2⟩ | ⟨b, cap, c, h2, _⟩
              · rw [hg] at h2; cases h2; exact ⟨none, 0, hu⟩
              · rw [hg] at h2; cases h2; exact ⟨_, cap, hu⟩
            · cases hel
          · rename_i i hi' hxx
            split at hel
            · rename_i T' es' ho
              simp only [Option.some.injEq, Prod.mk.injEq] at hel
              obtain ⟨rfl, _⟩ := hel
              rw [hxx, RepA] at rx
              obtain ⟨gr, ad, len, cap, hg, hvv, hle, hu⟩ := rx
              obtain ⟨y, hy, hob⟩ := m.objs i _ ho
              have hlen : len = es'.length := by
                rcases hob with ⟨rfl, h2⟩ | ⟨b, cap, c, h2, _⟩
                · rw [hg] at h2; cases h2; cases hvv; rfl
                · rw [hg] at h2; cases h2; cases hvv; rfl
              exact ⟨ad, cap, by rw [hu, List.length_take, Nat.min_eq_left (by omega)]⟩
            · cases hel
          · cases hel
        obtain ⟨ad, cap, hv⟩ := hv
        refine fin_put hF hd (v := .int .i64 es.length) ?_ m (by unfold intRes; rw [RepA, RepD]) hdst h
        simp [execOp, hop, resolve, hc, hargs, htys, invoke, builtin, Builtin.len_, run_und hk, hv, goInt]
      · exact h.elim
    · exact h.elim
  · exact h.elim
end
end Go.Ev

set_option linter.unusedVariables false
set_option linter.unusedSectionVars false
namespace Go.Ev
open RowKit

/-- What an owned slice's value is. -/
def OwnV (e : TypeId) (sz : Nat) (I : Nat → Prop) (h : Array Obj) (es : List (List D)) (v : Value) (blk : Option Nat) : Prop :=
  (es = [] ∧ v = .slice none 0 0 ∧ blk = none) ∨
    ∃ b cap c, v = .slice (some ⟨b, 0, none⟩) es.length cap ∧ blk = some b ∧ h[b]? = some (.cells c e (0, 0)) ∧ es.length ≤ cap ∧ cap ≤ maxLen ∧ c.size = cap * sz ∧ RepR I h sz es c.toList

theorem ObOK.ownV {tb : TB} {G : Nat → Option GR} {I : Nat → Prop} {h : Array Obj} {i : Nat} {e : TypeId} {es : List (List D)} {y : Ty} (hy : tb e = some y) (r : ObOK tb G I h i (.arr e es)) : ∃ gr, G i = some gr ∧ OwnV e y.size I h es gr.val gr.blk := by
  obtain ⟨y', hy', r⟩ := r
  rw [hy] at hy'; cases hy'
  rcases r with ⟨rfl, r⟩ | ⟨b, cap, c, r1, r2, r3, r4, r5, r6⟩
  · exact ⟨_, r, .inl ⟨rfl, rfl, rfl⟩⟩
  · exact ⟨_, r1, .inr ⟨b, cap, c, rfl, rfl, r2, r3, r4, r5, r6⟩⟩

theorem OwnV.ob {tb : TB} {G : Nat → Option GR} {I : Nat → Prop} {h : Array Obj} {i : Nat} {e : TypeId} {es : List (List D)} {y : Ty} (hy : tb e = some y) {v : Value} {blk : Option Nat} (hg : G i = some ⟨v, blk⟩) (r : OwnV e y.size I h es v blk) : ObOK tb G I h i (.arr e es) := by
  refine ⟨y, hy, ?_⟩
  rcases r with ⟨rfl, rfl, rfl⟩ | ⟨b, cap, c, rfl, rfl, r2, r3, r4, r5, r6⟩
  · exact .inl ⟨rfl, hg⟩
  · exact .inr ⟨b, cap, c, hg, r2, r3, r4, r5, r6⟩

theorem OwnV.one {e : TypeId} {sz : Nat} {I : Nat → Prop} {h : Array Obj} {es : List (List D)} {v : Value} {blk : Option Nat} (r : OwnV e sz I h es v blk) : v.oneCell' = true := by
  rcases r with ⟨_, rfl, _⟩ | ⟨b, cap, c, rfl, _⟩ <;> rfl

/-- What a slice that is appended is. -/
def SrcV (I : Nat → Prop) (h : Array Obj) (sz : Nat) (ys : List (List D)) (u : Value) : Prop :=
  ∃ ad cap, u = .slice ad ys.length cap ∧ (ys = [] ∨ ∃ b off c T fr, ad = some ⟨b, off, none⟩ ∧ h[b]? = some (.cells c T fr) ∧ RepR I h sz ys (c.toList.drop off))

theorem append_zero {P : Program} {w : World} {T ty e : TypeId} {i : TypeInfo} (hT : P.underlying T = some (.slice e)) (hi : P.info? e = some i) (ad bd : Option Addr) (sLen sCap cap : Nat) (hle : sLen ≤ sCap) :
    (Builtin.append_ #[T, T] ty #[.slice bd sLen sCap, .slice ad 0 cap]).run P w = .ok (.slice bd sLen sCap) w := by
  cases ad <;> cases bd <;> simp [Builtin.append_, run_underlying hT, sizeOf, typeInfo, hi, Builtin.lenOf, Builtin.firstCells, loadCells, loadCellsFrom, hle, storeCells]

theorem append_run {P : Program} {w : World} {T ty e : TypeId} {y : Ty} (hT : P.underlying T = some (.slice e)) (hy : TyOK P e y) (hz : 0 < y.size) (hb : 0 < y.bytes) {I : Nat → Prop} (hI : ∀ b, I b → b < w.heap.size)
    {es ys : List (List D)} {v u : Value} {blk : Option Nat} (hv : OwnV e y.size I w.heap es v blk) (hnI : ∀ b, blk = some b → ¬ I b ∧ b < w.heap.size) (hu : SrcV I w.heap y.size ys u) (hbytes : (es.length + ys.length) * y.bytes ≤ 140737488355328) :
    ∃ v' w' blk', (Builtin.append_ #[T, T] ty #[v, u]).run P w = .ok v' w' ∧ OwnV e y.size I w'.heap (es ++ ys) v' blk' ∧ (∀ b, blk' = some b → blk = some b ∨ (w.heap.size ≤ b ∧ b < w'.heap.size)) ∧
      w.heap.size ≤ w'.heap.size ∧ (∀ k, k < w.heap.size → blk ≠ some k → w'.heap[k]? = w.heap[k]?) ∧ w'.os = w.os ∧ w'.tape = w.tape ∧ w'.output = w.output := by
  obtain ⟨i, z, hi, hi1, hi2, hi3, hi4⟩ := hy.info
  obtain ⟨ad, cap, rfl, hu⟩ := hu
  have hlen : z.cells.size = y.size := by have := hy.len; rw [← hi4] at this; simpa using this
  have hmax : es.length + ys.length ≤ maxLen := by
    have : es.length + ys.length ≤ (es.length + ys.length) * y.bytes := Nat.le_mul_of_pos_right _ hb
    simp only [maxLen]; omega
  have h63 : ((es.length + ys.length : Nat) : Int) ≤ 9223372036854775807 := by simp only [maxLen] at hmax; omega
  rcases hu with rfl | ⟨b2, off2, c2, T2, fr2, rfl, hc2, hr2⟩
  · -- nothing is appended
    rw [List.append_nil]
    rcases hv with ⟨rfl, rfl, rfl⟩ | ⟨b, cap0, c, rfl, rfl, r2, r3, r4, r5, r6⟩
    · exact ⟨_, w, none, append_zero hT hi ad none 0 0 cap (Nat.le_refl _), .inl ⟨rfl, rfl, rfl⟩, by simp, Nat.le_refl _, fun _ _ _ => rfl, rfl, rfl, rfl⟩
    · exact ⟨_, w, some b, append_zero hT hi ad _ _ cap0 cap r3, .inr ⟨b, cap0, c, rfl, rfl, r2, r3, r4, r5, r6⟩, fun b' h => .inl h, Nat.le_refl _, fun _ _ _ => rfl, rfl, rfl, rfl⟩
  · obtain ⟨f1, f2⟩ := RepR.flat hr2 (RepR.len hr2)
    generalize hnews : (c2.toList.drop off2).take (ys.length * y.size) = news at f1 f2
    have hnl : news.length = ys.length * i.size := by
      rw [← hnews, hi1, List.length_take]
      have := RepR.len hr2; omega
    have hget : ∀ j x, news[j]? = some x → w.cell? ((⟨b2, off2, none⟩ : Addr).add j) = some x := by
      intro j x hj
      rw [addr_add, cell_at hc2]
      rw [← hnews, List.getElem?_take] at hj
      split at hj
      · simpa using hj
      · cases hj
    have hrys : RepR I w.heap y.size ys news := by
      have := RepR.mk (ws := []) (RepR.lens hr2) f1 f2
      simpa using this
    have hnewsz : news.length = ys.length * y.size := by rw [hnl, hi1]
    -- a new row of cells
    have grown : ∀ (xs : List Value) (old : Nat), xs.length = es.length * y.size → RepR I w.heap y.size es xs → es.length + ys.length ≤ maxLen →
        OwnV e y.size I (w.drew.alloc (.cells (xs.toArray ++ news.toArray ++ Builtin.zeroCells z.cells (grownCap w (es.length + ys.length) old e - (es.length + ys.length))) e)).heap (es ++ ys)
          (.slice (some ⟨w.heap.size, 0, none⟩) (es.length + ys.length) (grownCap w (es.length + ys.length) old e)) (some w.heap.size) := by
      intro xs old hx hxr hm
      have hge := grownCap_ge w (es.length + ys.length) old e
      have hcm : grownCap w (es.length + ys.length) old e ≤ maxLen := grownCap_le_maxLen w _ old e hm
      refine .inr ⟨w.heap.size, _, _, by rw [List.length_append], rfl, heap_alloc_new w.drew _, by rw [List.length_append]; exact hge, hcm, ?_, ?_⟩
      · simp only [Array.size_append, List.size_toArray, size_zeroCells, hlen, hx, hnewsz, ← Nat.add_mul]
        congr 1; omega
      · refine RepR.mono (fun _ h => h) (fun b hb' => heap_alloc_old w.drew _ (hI b hb')) _ _ _ ?_
        simp only [Array.toList_append, List.append_assoc]
        rw [← List.append_assoc]
        have r0 := RepR.append hxr hx hrys
        have r1 := RepR.flat r0 (RepR.len r0)
        rw [List.length_append, show (es.length + ys.length) * y.size = (xs ++ news).length by rw [List.length_append, hx, hnewsz, Nat.add_mul], List.take_length] at r1
        exact RepR.mk (RepR.lens r0) r1.1 r1.2
    rcases hv with ⟨rfl, rfl, rfl⟩ | ⟨b, cap0, c, rfl, rfl, r2, r3, r4, r5, r6⟩
    · by_cases h0 : ys.length = 0
      · have : ys = [] := List.eq_nil_of_length_eq_zero h0
        subst this
        exact ⟨_, w, none, append_zero hT hi _ none 0 0 cap (Nat.le_refl _), .inl ⟨rfl, rfl, rfl⟩, by simp, Nat.le_refl _, fun _ _ _ => rfl, rfl, rfl, rfl⟩
      · have hr := run_append_nil (P := P) w T ty e i z hT hi hi3 ⟨b2, off2, none⟩ ys.length cap news hnl hget (by omega) (by simpa using h63) (by simp at hbytes; rw [hi2]; omega)
        have hgr := grown [] 0 (by simp) (by rw [RepR]; trivial) (by simpa using hmax)
        simp only [List.length_nil, Nat.zero_add, List.nil_append, Array.empty_append] at hgr
        refine ⟨_, _, some w.heap.size, hr, by simpa using hgr, fun b' h => .inr (by cases h; exact ⟨Nat.le_refl _, by simp⟩), by simp, fun k hk _ => heap_alloc_old w.drew _ hk, rfl, rfl, rfl⟩
    · by_cases hroom : es.length + ys.length ≤ cap0
      · have hfit : es.length * i.size + news.length ≤ c.size := by rw [hnl, hi1, r5, ← Nat.add_mul]; exact Nat.mul_le_mul_right _ hroom
        have hr := run_append_room (P := P) w T ty e i hT hi b es.length cap0 c r2 ⟨b2, off2, none⟩ ys.length cap news hnl hget f2 hroom hfit
        have hpre : RepR I w.heap y.size es (c.toList.take (es.length * y.size)) := RepR.pref _ r6 (Nat.le_refl _)
        have hpl : (c.toList.take (es.length * y.size)).length = es.length * y.size := by
          have := RepR.len r6
          rw [List.length_take]; omega
        have r0 := RepR.append hpre hpl hrys
        have r1 := RepR.flat r0 (RepR.len r0)
        rw [List.length_append, show (es.length + ys.length) * y.size = (c.toList.take (es.length * y.size) ++ news).length by rw [List.length_append, hpl, hnewsz, Nat.add_mul], List.take_length] at r1
        refine ⟨_, _, some b, hr, .inr ⟨b, cap0, _, by rw [List.length_append], rfl, setRow_heap w b c _ e _ r2, by rw [List.length_append]; exact hroom, r4, ?_, ?_⟩, fun b' h => .inl h, by simp, fun k _ hk => setRow_other w b k _ (fun e => hk (by rw [e])), rfl, rfl, rfl⟩
        · simp only [List.size_toArray, List.length_append, List.length_take, List.length_drop, Array.length_toList]
          rw [hi1] at hfit
          rw [hi1]
          have := RepR.len r6
          simp only [Array.length_toList] at this
          omega
        · rw [List.toList_toArray, hi1]
          refine RepR.mono (fun _ h => h) (fun k hk => setRow_other w b k _ (fun e => (hnI b rfl).1 (e ▸ hk))) _ _ _ ?_
          exact RepR.mk (RepR.lens r0) r1.1 r1.2
      · have hpl : (c.toList.take (es.length * y.size)).length = es.length * y.size := by
          have := RepR.len r6
          rw [List.length_take]; omega
        have holds : ∀ j x, (c.toList.take (es.length * y.size))[j]? = some x → w.cell? ((⟨b, 0, none⟩ : Addr).add j) = some x := by
          intro j x hj
          rw [addr_add, cell_at r2]
          rw [List.getElem?_take] at hj
          split at hj
          · simpa using hj
          · cases hj
        have hr := run_append_grow (P := P) w T ty e i z hT hi hi3 ⟨b, 0, none⟩ es.length cap0 _ (by rw [hpl, hi1]) holds ⟨b2, off2, none⟩ ys.length cap news hnl hget (by omega) h63 (by rw [hi2]; exact growslice_fits (by omega) hbytes)
        have hgr := grown _ cap0 hpl (RepR.pref _ r6 (Nat.le_refl _)) hmax
        exact ⟨_, _, some w.heap.size, hr, hgr, fun b' h => .inr (by cases h; exact ⟨Nat.le_refl _, by simp⟩), by simp, fun k hk _ => heap_alloc_old w.drew _ hk, rfl, rfl, rfl⟩

section
variable {tb : TB} {X : Ctx} {P : Program} {Wn : Nat} {Y : Nat → List D → Bool → Prop} {F : Fence} {n : Nat} {g : Nat → A} {o : Nat → Option Ob} {a : Act} {w : World} {G : Nat → Option GR} {I : Nat → Prop} {oper : Oper} {K : Eff → Prop} {nid : Nat}
variable (hP : PG P tb) (hF : Wide F) (m : Mod tb X g o a w G I) (hdst : ∀ d, oper.dst = some d → d < X.nt)
include hP hF m hdst

omit hP hF hdst in
/-- The elements of a slice that is appended, wherever it lies. -/
theorem Mod.src {x : Operand} {ys : List (List D)} {rd : List Nat} (hel : elemsOf o (opA g x) = some (ys, rd)) {sz : Nat} (hsz : ∀ el ∈ ys, el.length = sz) : SrcV I w.heap sz ys (a.eval x) := by
  have rx := m.eval x
  unfold elemsOf at hel
  split at hel
  · rename_i es' hxx
    simp only [Option.some.injEq, Prod.mk.injEq] at hel
    obtain ⟨rfl, _⟩ := hel
    rw [hxx, RepA, RepD] at rx
    obtain ⟨ad, len, cap, hu, h1, h2, h3⟩ := rx
    refine ⟨ad, cap, by rw [hu, h1], ?_⟩
    rcases h3 with h3 | ⟨sz', b, off, c, T, fr, h4, h5, h6, h7⟩
    · exact .inl (List.eq_nil_of_length_eq_zero (by omega))
    · cases es' with
      | nil => exact .inl rfl
      | cons e es' =>
        have e1 := hsz e (by simp)
        have e2 := RepR.lens h7 e (by simp)
        have : sz' = sz := by omega
        subst this
        exact .inr ⟨b, off, c, T, fr, h4, h6, h7⟩
  · rename_i hxx
    simp only [Option.some.injEq, Prod.mk.injEq] at hel
    obtain ⟨rfl, _⟩ := hel
    rw [hxx, RepA, RepD] at rx
    exact ⟨none, 0, by rw [rx]; rfl, .inl rfl⟩
  · rename_i i hxx
    split at hel
    · rename_i T' es' ho
      simp only [Option.some.injEq, Prod.mk.injEq] at hel
      obtain ⟨rfl, _⟩ := hel
      rw [hxx, RepA] at rx
      obtain ⟨⟨gr, hg, hu⟩, _⟩ := rx
      obtain ⟨y, hy, hob⟩ := m.objs i _ ho
      rcases hob with ⟨rfl, h2⟩ | ⟨b, cap, c, h2, h3, h4, h5, h6, h7⟩
      · rw [hg] at h2; cases h2; exact ⟨none, 0, hu, .inl rfl⟩
      · rw [hg] at h2; cases h2
        refine ⟨_, cap, hu, ?_⟩
        cases es' with
        | nil => exact .inl rfl
        | cons e es' =>
          have e1 := hsz e (by simp)
          have e2 := RepR.lens h7 e (by simp)
          rw [← e2, e1] at h7
          exact .inr ⟨b, 0, c, T', (0, 0), rfl, h3, by simpa using h7⟩
    · cases hel
  · rename_i i hi' hxx
    split at hel
    · rename_i T' es' ho
      simp only [Option.some.injEq, Prod.mk.injEq] at hel
      obtain ⟨rfl, _⟩ := hel
      rw [hxx, RepA] at rx
      obtain ⟨gr, ad, len, cap, hg, hvv, hle, hu⟩ := rx
      obtain ⟨y, hy, hob⟩ := m.objs i _ ho
      rcases hob with ⟨rfl, h2⟩ | ⟨b, cap, c, h2, h3, h4, h5, h6, h7⟩
      · rw [hg] at h2; cases h2; cases hvv
        have : hi' = 0 := by omega
        subst this
        exact ⟨none, 0, hu, .inl rfl⟩
      · rw [hg] at h2; cases h2; cases hvv
        refine ⟨some ⟨b, 0, none⟩, cap, by rw [hu, List.length_take, Nat.min_eq_left hle], ?_⟩
        have h8 := RepR.takes h7 hi'
        cases e0 : es'.take hi' with
        | nil => exact .inl rfl
        | cons e es2 =>
          rw [e0] at h8 hsz
          have e1 := hsz e (by simp)
          have e2 := RepR.lens h8 e (by simp)
          rw [← e2, e1] at h8
          exact .inr ⟨b, 0, c, T', (0, 0), rfl, h3, by simpa using h8⟩
    · cases hel
  · cases hel

theorem snd_append {c : Call} (hop : oper.op = .call c) (hc : c.callee = .builtin .append) (hn : o nid = none) (hnb : X.nb ≤ nid) (h : effOp tb (Con P tb Wn Y) (.call c) oper.dst g o nid K) : ∃ e, K e ∧ Does tb X P F n g o a w oper e := by
  have hd : ∀ c, oper.op ≠ .defer c := by simp [hop]
  simp only [effOp, hc] at h
  split at h
  · rename_i s x T T' d hx hT hdd
    have hargs : c.args = #[s, x] := by apply Array.ext'; simpa using hx
    have htys : c.argTypes = #[T, T'] := by apply Array.ext'; simpa using hT
    split at h
    · rename_i e s1 s2 z bk hTy
      have hk := (hP.ty T _ hTy).kind
      simp only [TKOK] at hk
      split at h
      · rename_i y ys rd hy hel
        by_cases hb : (Nat.beq T T' && Nat.blt 0 y.size && Nat.blt 0 y.bytes) = true
        · rw [hb] at h
          rw [Bool.and_eq_true, Bool.and_eq_true] at hb
          obtain ⟨⟨hb1, hb2⟩, hb3⟩ := hb
          have hb1 := Nat.eq_of_beq_eq_true hb1
          subst hb1
          have hb2 : 0 < y.size := Nat.le_of_ble_eq_true hb2
          have hb3 : 0 < y.bytes := Nat.le_of_ble_eq_true hb3
          have hTyE := hP.ty e y hy
          have hrun : ∀ v' w', (Builtin.append_ #[T, T] oper.type #[a.eval s, a.eval x]).run P w = .ok v' w' → (execOp a.eval oper).run P w = .ok (.value v') w' := by
            intro v' w' hr
            simp [execOp, hop, resolve, hc, hargs, htys, invoke, builtin, hr]
          have rs := m.eval s
          simp only [cond_true] at h
          split at h
          · -- onto nil
            rename_i hs
            obtain ⟨h1, h2, h⟩ := h
            rw [hs, RepA, RepD] at rs
            obtain ⟨v', w', blk', g1, g2, g3, g4, g5, g6, g7, g8⟩ := append_run (ty := oper.type) hk hTyE hb2 hb3 m.isz (es := []) (v := a.eval s) (blk := none) (.inl ⟨rfl, rs, rfl⟩) (by simp) (m.src hel h1) (by simpa using h2)
            refine ⟨_, h, fun next Q hK => wpIn_value hF hd (hrun _ _ g1) ?_⟩
            have hbel : Below w.heap.size w w' := ⟨g6, g7, g8, g4, fun k hk => g5 k hk (by simp)⟩
            have m2 := m.mk' hn hnb (gr := ⟨v', blk'⟩) (ob := .arr e ys) hbel (fun b hb => (g3 b hb).resolve_left (by simp)) (OwnV.ob hy updG_self (by simpa using g2))
            have m3 := m2.put (d := d) (x := .own nid) (v := v') (hdst d hdd) (by rw [RepA]; exact ⟨⟨_, updG_self, rfl⟩, g2.one⟩)
            rw [hdd]
            refine hK _ _ (updG G nid ⟨v', blk'⟩) I ?_
            rw [appO_one rfl rfl rfl]
            exact m3
          · -- onto a slice of the frame's own
            rename_i i hs
            split at h
            · rename_i e' es ho
              by_cases hb' : (Nat.beq e e' && !rd.contains i) = true
              · rw [hb'] at h
                rw [Bool.and_eq_true] at hb'
                have he := Nat.eq_of_beq_eq_true hb'.1
                subst he
                obtain ⟨h1, h2, h⟩ := h
                rw [hs, RepA] at rs
                obtain ⟨⟨gr, hg, hu⟩, _⟩ := rs
                obtain ⟨gr', hg', hown⟩ := ObOK.ownV hy (m.objs i _ ho)
                rw [hg] at hg'; cases hg'
                rw [← hu] at hown
                obtain ⟨v', w', blk', g1, g2, g3, g4, g5, g6, g7, g8⟩ := append_run (ty := oper.type) hk hTyE hb2 hb3 m.isz hown (fun b hb => by
                  obtain ⟨q1, q2, _⟩ := m.own i _ gr b ho rfl hg hb
                  exact ⟨q1, q2⟩) (m.src hel h1) h2
                have h : bif Nat.beq Wn 4 then K ⟨some (d, .own nid), [(nid, .arr e (es ++ ys)), (i, .dead)], i :: rd, 1, [], []⟩
                      else K ⟨some (d, .own i), [(i, .arr e (es ++ ys))], i :: rd, 0, [], [i]⟩ := h
                cases hWn : Nat.beq Wn 4 with
                | true =>
                rw [hWn, cond_true] at h
                refine ⟨_, h, fun next Q hK => wpIn_value hF hd (hrun _ _ g1) ?_⟩
                have hin : i ≠ nid := fun e => by subst e; rw [ho] at hn; cases hn
                have m2 := m.move ho rfl hn hnb (gr' := ⟨v', blk'⟩) hg g4 g5 g6 g7 g8 g3 (OwnV.ob hy updG_self g2)
                have m3 := m2.put (d := d) (x := .own nid) (v := v') (hdst d hdd) (by rw [RepA]; exact ⟨⟨_, updG_self, rfl⟩, g2.one⟩)
                rw [hdd]
                refine hK _ _ (updG G nid ⟨v', blk'⟩) I ?_
                have e1 : appO ⟨some (d, .own nid), [(nid, .arr e (es ++ ys)), (i, .dead)], i :: rd, 1, [], []⟩ o = updO (updO o i .dead) nid (.arr e (es ++ ys)) := by
                  funext j
                  simp only [appO, lookO, updO, trO]
                  cases Nat.beq nid j <;> cases Nat.beq i j <;> cases o j <;> rfl
                rw [e1]
                exact m3
                | false =>
                rw [hWn, cond_false] at h
                refine ⟨_, h, fun next Q hK => wpIn_value hF hd (hrun _ _ g1) ?_⟩
                have hib : X.nb ≤ i ∨ X.ba i = true := by
                  rcases Nat.lt_or_ge i X.nb with h3 | h3
                  · cases hba : X.ba i with
                    | true => exact .inr rfl
                    | false => exact absurd ho (m.barr i _ _ h3 hba)
                  · exact .inl h3
                have m2 := m.turn ho rfl hib (gr' := ⟨v', blk'⟩) hg g4 g5 g6 g7 g8 g3 (OwnV.ob hy updG_self g2)
                have m3 := m2.put (d := d) (x := .own i) (v := v') (hdst d hdd) (by rw [RepA]; exact ⟨⟨_, updG_self, rfl⟩, g2.one⟩)
                rw [hdd]
                refine hK _ _ (updG G i ⟨v', blk'⟩) I ?_
                have e1 : appO ⟨some (d, .own i), [(i, .arr e (es ++ ys))], i :: rd, 0, [], [i]⟩ o = updO (fun j => (o j).map (clrO [i])) i (.arr e (es ++ ys)) := by
                  funext j
                  simp only [appO, lookO, updO, trO]
                  cases Nat.beq i j <;> simp
                rw [e1]
                exact m3
              · rw [Bool.not_eq_true] at hb'; rw [hb'] at h; exact h.elim
            · exact h.elim
          · exact h.elim
        · rw [Bool.not_eq_true] at hb; rw [hb] at h; exact h.elim
      · exact h.elim
    · exact h.elim
  · exact h.elim
end
end Go.Ev

set_option linter.unusedVariables false
set_option linter.unusedSectionVars false
namespace Go.Ev
open RowKit

section
variable {tb : TB} {X : Ctx} {P : Program} {Wn : Nat} {Y : Nat → List D → Bool → Prop} {F : Fence} {n : Nat} {g : Nat → A} {o : Nat → Option Ob} {a : Act} {w : World} {G : Nat → Option GR} {I : Nat → Prop} {oper : Oper} {K : Eff → Prop} {nid : Nat}
variable (hP : PG P tb) (hF : Wide F) (m : Mod tb X g o a w G I) (hdst : ∀ d, oper.dst = some d → d < X.nt)

theorem rows_sound (sz : Nat) : ∀ (ps : List (Nat × A)) (qs : List (Nat × Value)) (k : Nat) (vc : Array Value) (K : List (List D) → Prop),
    qs.map (·.1) = ps.map (·.1) → (∀ (j : Nat) (x : Nat × A) (v : Nat × Value), ps[j]? = some x → qs[j]? = some v → RepA G I w.heap x.2 v.2) → vc.size = (k + ps.length) * sz → effOp.buildRows sz ps k K →
    ∃ es news vs, K es ∧ Instr.fill (fun i => some (i * sz, sz)) vc qs = some vs ∧ vs.toList = vc.toList.take (k * sz) ++ news ∧ RepL I w.heap es.flatten news ∧ (∀ e ∈ es, e.length = sz) ∧ (∀ v ∈ news, v.oneCell' = true) ∧ es.length = ps.length
  | [], qs, k, vc, K, hq, _, hs, h => by
    have : qs = [] := by simpa using hq
    subst this
    refine ⟨[], [], vc, h, rfl, ?_, RepL.nil, by simp, by simp, rfl⟩
    simp only [List.length_nil, Nat.add_zero] at hs
    rw [List.append_nil, List.take_of_length_le (by simp [hs])]
  | (i, x) :: ps, qs, k, vc, K, hq, hx, hs, h => by
    cases qs with
    | nil => simp at hq
    | cons jv qs =>
    obtain ⟨j, v⟩ := jv
    simp only [List.map_cons, List.cons.injEq] at hq
    obtain ⟨rfl, hq⟩ := hq
    have rv : RepA G I w.heap x v := hx 0 _ _ rfl rfl
    simp only [effOp.buildRows] at h
    cases hb : Nat.beq j k with
    | false => rw [hb] at h; exact h.elim
    | true =>
    have hjk := Nat.eq_of_beq_eq_true hb
    subst hjk
    rw [hb] at h
    simp only [cond_true, withCells_eq] at h
    obtain ⟨cs, hc, h⟩ := h
    split at h
    · rename_i ds hds
      by_cases hb2 : (Nat.beq ds.length sz && cs.all A.one) = true
      · rw [hb2] at h
        simp only [cond_true] at h
        rw [Bool.and_eq_true] at hb2
        have hl := Nat.eq_of_beq_eq_true hb2.1
        have rc := cellsOf_rep hc rv
        have hone := RepAL.eq_of_one rc hb2.2
        rw [toDs_eq hds] at rc
        have rc := RepAL.of_d.1 rc
        have hvl := RepL.length rc
        simp only [Array.length_toList] at hvl
        simp only [List.length_cons] at hs
        have hle : j * sz + v.cells.size ≤ vc.size := by
          rw [hs, hvl, hl, ← Nat.succ_mul]; exact Nat.mul_le_mul_right _ (by omega)
        have hfold := foldl_put v.cells.toList (j * sz) 0 vc (by simpa using hle)
        simp only [Nat.add_zero, Array.length_toList] at hfold
        have e1 : (v.cells.zipIdx.foldl (fun cs (p : Value × Nat) => cs.setIfInBounds (j * sz + p.2) p.1) vc) = ((v.cells.toList.zipIdx 0).foldl (fun cs (p : Value × Nat) => cs.setIfInBounds (j * sz + p.2) p.1) vc) := by
          rw [← Array.foldl_toList, Array.toList_zipIdx]
        rw [← e1] at hfold
        generalize hvc2 : (v.cells.zipIdx.foldl (fun cs (p : Value × Nat) => cs.setIfInBounds (j * sz + p.2) p.1) vc) = vc2 at hfold
        have hs2 : vc2.size = (j + 1 + ps.length) * sz := by
          have := congrArg List.length hfold
          simp only [Array.length_toList, List.length_append, List.length_take, List.length_drop] at this
          rw [show (j + 1 + ps.length) = (j + (ps.length + 1)) by omega, ← hs]
          omega
        obtain ⟨es, news, vs, g1, g2, g3, g4, g5, g6, g7⟩ := rows_sound sz ps qs (j + 1) vc2 _ hq (fun q x v hk hv => hx (q + 1) x v (by simpa using hk) (by simpa using hv)) hs2 h
        refine ⟨ds :: es, v.cells.toList ++ news, vs, g1, ?_, ?_, ?_, ?_, ?_, by simp [g7]⟩
        · simp only [Instr.fill]
          rw [if_neg (by simp; omega), hvc2]
          exact g2
        · rw [g3, hfold]
          have e2 : (j + 1) * sz = (vc.toList.take (j * sz) ++ v.cells.toList).length := by
            have hjs : j * sz ≤ vc.size := by omega
            simp only [List.length_append, List.length_take, Array.length_toList, Nat.min_eq_left hjs, hvl, hl, Nat.add_mul, Nat.one_mul]
          rw [List.append_assoc (vc.toList.take (j * sz)), ← List.append_assoc, e2, List.take_left, List.append_assoc]
        · rw [List.flatten_cons]; exact RepL.append rc g4
        · intro e he
          rcases List.mem_cons.1 he with rfl | he
          · exact hl
          · exact g5 e he
        · intro u hu
          rcases List.mem_append.1 hu with hu | hu
          · exact hone u hu
          · exact g6 u hu
      · rw [Bool.not_eq_true] at hb2; rw [hb2] at h; exact h.elim
    · exact h.elim

theorem cells_of_one {x : A} (h : x.one = true) : cellsOf x = some [x] := by
  cases x with
  | d z => cases z with
    | v q => cases q <;> first | rfl | (simp [A.one] at h; done)
    | agg _ => simp [A.one] at h
    | tup _ => simp [A.one] at h
    | _ => rfl
  | agg _ => simp [A.one] at h
  | tup _ => simp [A.one] at h
  | unk => simp [A.one] at h
  | _ => rfl

theorem lst_sound : ∀ (ps : List (Nat × A)) (qs : List (Nat × Value)) (k : Nat) (vc : Array Value) (K : List A → Prop),
    qs.map (·.1) = ps.map (·.1) → (∀ (j : Nat) (x : Nat × A) (v : Nat × Value), ps[j]? = some x → qs[j]? = some v → RepA G I w.heap x.2 v.2) → vc.size = k + ps.length → effOp.buildLst ps k K →
    ∃ cs vs, K cs ∧ Instr.fill (fun i => some (i * 1, 1)) vc qs = some vs ∧ ∃ news, vs.toList = vc.toList.take k ++ news ∧ RepAL G I w.heap cs news ∧ cs.length = ps.length
  | [], qs, k, vc, K, hq, _, hs, h => by
    have : qs = [] := by simpa using hq
    subst this
    refine ⟨[], vc, h, rfl, [], ?_, RepAL.nil, rfl⟩
    simp only [List.length_nil, Nat.add_zero] at hs
    rw [List.append_nil, List.take_of_length_le (by simp [hs])]
  | (i, x) :: ps, qs, k, vc, K, hq, hx, hs, h => by
    cases qs with
    | nil => simp at hq
    | cons jv qs =>
    obtain ⟨j, v⟩ := jv
    simp only [List.map_cons, List.cons.injEq] at hq
    obtain ⟨rfl, hq⟩ := hq
    have rv : RepA G I w.heap x v := hx 0 _ _ rfl rfl
    simp only [effOp.buildLst] at h
    cases hb : (Nat.beq j k && x.one) with
    | false => rw [hb] at h; exact h.elim
    | true =>
    rw [hb, cond_true, fA_eq] at h
    rw [Bool.and_eq_true] at hb
    have hjk := Nat.eq_of_beq_eq_true hb.1
    subst hjk
    have hc := cells_of_one hb.2
    have rc := cellsOf_rep hc rv
    have hvl := RepAL.length rc
    simp only [Array.length_toList, List.length_cons, List.length_nil] at hvl
    have hvl : v.cells.size = 1 := hvl
    simp only [List.length_cons] at hs
    have hfold := foldl_put v.cells.toList (j * 1) 0 vc (by simp [hvl]; omega)
    simp only [Nat.add_zero, Array.length_toList] at hfold
    have e1 : (v.cells.zipIdx.foldl (fun cs (p : Value × Nat) => cs.setIfInBounds (j * 1 + p.2) p.1) vc) = ((v.cells.toList.zipIdx 0).foldl (fun cs (p : Value × Nat) => cs.setIfInBounds (j * 1 + p.2) p.1) vc) := by
      rw [← Array.foldl_toList, Array.toList_zipIdx]
    rw [← e1] at hfold
    generalize hvc2 : (v.cells.zipIdx.foldl (fun cs (p : Value × Nat) => cs.setIfInBounds (j * 1 + p.2) p.1) vc) = vc2 at hfold
    have hs2 : vc2.size = j + 1 + ps.length := by
      have := congrArg List.length hfold
      simp only [Array.length_toList, List.length_append, List.length_take, List.length_drop] at this
      omega
    obtain ⟨cs, vs, g1, g2, news, g3, g4, g5⟩ := lst_sound ps qs (j + 1) vc2 _ hq (fun q x v hk hv => hx (q + 1) x v (by simpa using hk) (by simpa using hv)) hs2 h
    refine ⟨x :: cs, vs, g1, ?_, v.cells.toList ++ news, ?_, RepAL.append rc g4, by simp [g5]⟩
    · simp only [Instr.fill]
      rw [if_neg (by simp; omega), hvc2]
      exact g2
    · rw [g3, hfold]
      have e2 : j + 1 = (vc.toList.take (j * 1) ++ v.cells.toList).length := by
        simp only [List.length_append, List.length_take, Array.length_toList, hvl]
        omega
      rw [List.append_assoc (vc.toList.take (j * 1)), ← List.append_assoc, e2, List.take_left, List.append_assoc, Nat.mul_one]

include hP hF m hdst

theorem snd_buildSlice {T : TypeId} {len : Nat} {ps : Array (Nat × Operand)} (hop : oper.op = .buildSlice T len ps) (hn : o nid = none) (hnb : X.nb ≤ nid) (h : effOp tb (Con P tb Wn Y) (.buildSlice T len ps) oper.dst g o nid K) :
    ∃ e, K e ∧ Does tb X P F n g o a w oper e := by
  have hd : ∀ c, oper.op ≠ .defer c := by simp [hop]
  simp only [effOp] at h
  split at h
  · rename_i e s1 s2 z bk hTy
    have hk := (hP.ty T _ hTy).kind
    simp only [TKOK] at hk
    split at h
    · rename_i y hy
      have hTyE := hP.ty e y hy
      obtain ⟨i, zv, hi, hi1, hi2, hi3, hi4⟩ := hTyE.info
      have hsz := hTyE.size (w := w)
      cases h0 : Nat.beq len 0 with
      | true =>
        have h0 := Nat.eq_of_beq_eq_true h0
        subst h0
        simp only [Nat.beq_refl, cond_true] at h
        cases hps : Nat.beq ps.size 0 with
        | false => rw [hps] at h; exact h.elim
        | true =>
        rw [hps] at h
        have hps' : ps = #[] := Array.eq_empty_of_size_eq_zero (Nat.eq_of_beq_eq_true hps)
        simp only [cond_true] at h
        unfold effNew at h
        cases hd' : oper.dst with
        | none => simp [hd'] at h
        | some d =>
          simp only [hd'] at h
          have hrun : (execOp a.eval oper).run P w = .ok (.value (.slice (some ⟨w.heap.size, 0, none⟩) 0 0)) { w with heap := w.heap.push (.cells #[] e) } := by
            simp [execOp, hop, hps', Instr.buildSlice, run_und hk, hsz, Instr.fill, newRow]
            congr 2
            exact Array.eq_empty_of_size_eq_zero (by simp)
          have hown : OwnV e y.size I ({ w with heap := w.heap.push (.cells #[] e) } : World).heap [] (.slice (some ⟨w.heap.size, 0, none⟩) 0 0) (some w.heap.size) :=
            .inr ⟨w.heap.size, 0, #[], rfl, rfl, by simp, Nat.le_refl _, Nat.zero_le _, by simp, by rw [RepR]; trivial⟩
          have m2 := m.mk' hn hnb (gr := ⟨.slice (some ⟨w.heap.size, 0, none⟩) 0 0, some w.heap.size⟩) (ob := .arr e []) (below_push w (.cells #[] e)) (fun b hb => by cases hb; exact ⟨Nat.le_refl _, by simp⟩) (OwnV.ob hy updG_self hown)
          have m3 := m2.put (d := d) (x := .own nid) (v := .slice (some ⟨w.heap.size, 0, none⟩) 0 0) (hdst d hd') (by rw [RepA]; exact ⟨⟨_, updG_self, rfl⟩, rfl⟩)
          refine ⟨_, h, fun next Q hK => wpIn_value hF hd hrun ?_⟩
          rw [hd']
          refine hK _ _ (updG G nid ⟨.slice (some ⟨w.heap.size, 0, none⟩) 0 0, some w.heap.size⟩) I ?_
          rw [appO_one rfl rfl rfl]
          exact m3
      | false =>
        rw [h0] at h
        simp only [cond_false] at h
        by_cases hb : (Nat.beq ps.size len && Nat.ble (len * y.size) 16777216) = true
        · rw [hb] at h
          simp only [cond_true] at h
          rw [Bool.and_eq_true] at hb
          have hpl := Nat.eq_of_beq_eq_true hb.1
          have hle := Nat.le_of_ble_eq_true hb.2
          obtain ⟨vc, hvc⟩ : ∃ vc : Array Value, vc = (Array.range (len * y.size)).map (fun j => (if len * y.size = 0 then (#[] : Array Value) else zv.cells)[j % (if len * y.size = 0 then (#[] : Array Value) else zv.cells).size]!) := ⟨_, rfl⟩
          have rows : ∀ K', effOp.buildRows y.size (ps.toList.map fun p => (p.1, opA g p.2)) 0 K' → ∃ es news vs, K' es ∧ vs.toList = news ∧ RepL I w.heap es.flatten news ∧ (∀ e ∈ es, e.length = y.size) ∧ (∀ v ∈ news, v.oneCell' = true) ∧ es.length = len ∧
              (execOp a.eval oper).run P w = .ok (.value (.slice (some ⟨w.heap.size, 0, none⟩) len len)) { w with heap := w.heap.push (.cells vs e) } := by
            intro K' h
            obtain ⟨es, news, vs, g1, g2, g3, g4, g5, g6, g7⟩ := rows_sound (G := G) (I := I) (w := w) y.size (ps.toList.map fun p => (p.1, opA g p.2)) (ps.toList.map fun p => (p.1, a.eval p.2)) 0 vc _ (by simp)
              (fun k x v hk hv => by
                simp only [List.getElem?_map] at hk hv
                obtain ⟨p, hp, rfl⟩ := Option.map_eq_some_iff.1 hk
                rw [hp] at hv; cases hv
                exact m.eval p.2) (by rw [hvc]; simp [hpl]) h
            simp only [Nat.zero_mul, List.take_zero, List.nil_append] at g3
            have hlen : es.length = len := by rw [g7]; simp [hpl]
            have hrun : (execOp a.eval oper).run P w = .ok (.value (.slice (some ⟨w.heap.size, 0, none⟩) len len)) { w with heap := w.heap.push (.cells vs e) } := by
              have e3 : ¬ len * y.size > 2 ^ 24 := by omega
              have e4 : (Array.map (fun x : Nat × Operand => (x.1, a.eval x.2)) ps).toList = ps.toList.map fun p => (p.1, a.eval p.2) := by simp
              rw [hvc] at g2
              unfold execOp
              rw [hop]
              simp only [Instr.buildSlice, Sem.run_bind, run_und hk, Result.andThen_ok, hsz]
              rw [if_neg e3]
              by_cases hz0 : len * y.size = 0
              · simp only [hz0, if_true] at g2
                simp only [hz0, if_true, Sem.run_bind, Sem.run_pure, Result.andThen_ok, e4, g2, newRow, run_newObj]
              · simp only [hz0, if_false] at g2
                simp only [hz0, if_false, Sem.run_bind, Sem.run_pure, run_zero hi hi3, Result.andThen_ok, e4, g2, newRow, run_newObj]
            exact ⟨es, news, vs, g1, g3, g4, g5, g6, hlen, hrun⟩
          cases hFn : (y.k.fnB && Nat.beq y.size 1 && (ps.toList.map fun p => opA g p.2).any A.fnB) with
          | true =>
            have h : effOp.buildLst (ps.toList.map fun p => (p.1, opA g p.2)) 0 fun cs => effPut oper.dst (.lst cs) [] K := by
              rw [hFn] at h; exact h
            rw [Bool.and_eq_true, Bool.and_eq_true] at hFn
            have hs1 := Nat.eq_of_beq_eq_true hFn.1.2
            obtain ⟨cs, vs, g1, g2, g3⟩ := lst_sound (G := G) (I := I) (w := w) (ps.toList.map fun p => (p.1, opA g p.2)) (ps.toList.map fun p => (p.1, a.eval p.2)) 0 vc _ (by simp)
              (fun k x v hk hv => by
                simp only [List.getElem?_map] at hk hv
                obtain ⟨p, hp, rfl⟩ := Option.map_eq_some_iff.1 hk
                rw [hp] at hv; cases hv
                exact m.eval p.2) (by rw [hvc]; simp [hpl, hs1]) h
            obtain ⟨news, g3, g4, g5⟩ := g3
            rw [List.take_zero, List.nil_append] at g3
            have hlen : cs.length = len := by rw [g5]; simp [hpl]
            have hrun : (execOp a.eval oper).run P w = .ok (.value (.slice (some ⟨w.heap.size, 0, none⟩) len len)) { w with heap := w.heap.push (.cells vs e) } := by
              have e3 : ¬ len * y.size > 2 ^ 24 := by omega
              have e4 : (Array.map (fun x : Nat × Operand => (x.1, a.eval x.2)) ps).toList = ps.toList.map fun p => (p.1, a.eval p.2) := by simp
              rw [hvc] at g2
              have g2' : Instr.fill (fun i => some (i * y.size, y.size)) ((Array.range (len * y.size)).map (fun j => (if len * y.size = 0 then (#[] : Array Value) else zv.cells)[j % (if len * y.size = 0 then (#[] : Array Value) else zv.cells).size]!)) (ps.toList.map fun p => (p.1, a.eval p.2)) = some vs := by
                rw [hs1] at g2 ⊢; simpa using g2
              unfold execOp
              rw [hop]
              simp only [Instr.buildSlice, Sem.run_bind, run_und hk, Result.andThen_ok, hsz]
              rw [if_neg e3]
              by_cases hz0 : len * y.size = 0
              · simp only [hz0, if_true] at g2'
                simp only [hz0, if_true, Sem.run_bind, Sem.run_pure, Result.andThen_ok, e4, g2', newRow, run_newObj]
              · simp only [hz0, if_false] at g2'
                simp only [hz0, if_false, Sem.run_bind, Sem.run_pure, run_zero hi hi3, Result.andThen_ok, e4, g2', newRow, run_newObj]
            have hI' : ∀ b, (I b ∨ b = w.heap.size) → b < ({ w with heap := w.heap.push (.cells vs e) } : World).heap.size := by
              rintro b (hb | rfl)
              · have := m.isz b hb; simp; omega
              · simp
            have m2 := m.grow (I' := fun b => I b ∨ b = w.heap.size) (below_push w (.cells vs e)) (fun _ h => .inl h) (fun b hb => hb.imp id (fun h => by omega)) hI'
            have hrep : RepA G (fun b => I b ∨ b = w.heap.size) ({ w with heap := w.heap.push (.cells vs e) } : World).heap (.lst cs) (.slice (some ⟨w.heap.size, 0, none⟩) len len) := by
              rw [RepA, hlen]
              refine ⟨_, vs, e, (0, 0), rfl, .inr rfl, by simp, ?_⟩
              rw [g3]
              exact RepAL.mono (fun _ _ h => h) (fun _ h => .inl h) (fun b hb => (below_push w (.cells vs e)).block b (m.isz b hb)) _ _ g4
            have m3 := m2.slotE hdst hrep
            unfold effPut at g1
            cases hd' : oper.dst with
            | some d =>
              simp only [hd', fA_eq] at g1
              refine ⟨_, g1, fun next Q hK => wpIn_value hF hd hrun ?_⟩
              rw [hd'] at m3
              refine hK _ _ G (fun b => I b ∨ b = w.heap.size) ?_
              rw [appO_id rfl rfl rfl, hd']
              exact m3
            | none =>
              simp only [hd'] at g1
              refine ⟨_, g1, fun next Q hK => wpIn_value hF hd hrun ?_⟩
              rw [hd'] at m3
              refine hK _ _ G (fun b => I b ∨ b = w.heap.size) ?_
              rw [appO_id rfl rfl rfl, hd']
              exact m3
          | false =>
          rw [hFn, cond_false] at h
          cases hOw : (ps.toList.map fun p => opA g p.2).any A.ownB with
          | true =>
            rw [hOw, cond_true] at h
            obtain ⟨as, frz, hh⟩ : ∃ as frz, handL true o (ps.toList.map fun p => opA g p.2) = (as, frz) := ⟨_, _, rfl⟩
            rw [hh] at h
            cases hfe : frz.isEmpty with
            | true => simp only [hfe, Bool.not_true, cond_false] at h
            | false =>
            simp only [hfe, Bool.not_false, cond_true] at h
            have hz : ZOK o frz := by have := handL_zok (cv := true) (o := o) (ps.toList.map fun p => opA g p.2); rwa [hh] at this
            have hall : RepAL G I w.heap (ps.toList.map fun p => opA g p.2) (ps.toList.map fun p => a.eval p.2) := by
              generalize ps.toList = l
              induction l with
              | nil => exact RepAL.nil
              | cons z l ih => exact RepAL.cons (m.eval z.2) ih
            have hrep := handL_rep (cv := true) hz m.objs (by rw [hh]; exact fun p hp => hp) hall
            rw [hh] at hrep
            simp only at hrep
            have m1 := m.freeze hz.frz
            have hasl : as.length = ps.toList.length := by
              have := RepAL.length hrep
              simpa using this.symm
            obtain ⟨es, news, vs, g1, g2, g3, g4, g5, g6, g7⟩ := rows_sound (G := G) (I := frzI G I frz) (w := w) y.size ((ps.toList.map (·.1)).zip as) (ps.toList.map fun p => (p.1, a.eval p.2)) 0 vc _
              (by rw [List.map_fst_zip (by rw [hasl]; simp)]; simp)
              (fun k x v hk hv => by
                rw [List.getElem?_map] at hv
                obtain ⟨p, hp, rfl⟩ := Option.map_eq_some_iff.1 hv
                obtain ⟨hk1, hk2⟩ := List.getElem?_zip_eq_some.1 hk
                obtain ⟨v', q1, q2⟩ := RepAL.at hrep hk2
                rw [List.getElem?_map, hp] at q1
                cases q1
                exact q2) (by rw [hvc]; simp [hpl, hasl]) h
            simp only [Nat.zero_mul, List.take_zero, List.nil_append] at g3
            have hlen : es.length = len := by rw [g7]; simp [hpl, hasl]
            have hrun : (execOp a.eval oper).run P w = .ok (.value (.slice (some ⟨w.heap.size, 0, none⟩) len len)) { w with heap := w.heap.push (.cells vs e) } := by
              have e3 : ¬ len * y.size > 2 ^ 24 := by omega
              have e4 : (Array.map (fun x : Nat × Operand => (x.1, a.eval x.2)) ps).toList = ps.toList.map fun p => (p.1, a.eval p.2) := by simp
              rw [hvc] at g2
              unfold execOp
              rw [hop]
              simp only [Instr.buildSlice, Sem.run_bind, run_und hk, Result.andThen_ok, hsz]
              rw [if_neg e3]
              by_cases hz0 : len * y.size = 0
              · simp only [hz0, if_true] at g2
                simp only [hz0, if_true, Sem.run_bind, Sem.run_pure, Result.andThen_ok, e4, g2, newRow, run_newObj]
              · simp only [hz0, if_false] at g2
                simp only [hz0, if_false, Sem.run_bind, Sem.run_pure, run_zero hi hi3, Result.andThen_ok, e4, g2, newRow, run_newObj]
            have hI' : ∀ b, (frzI G I frz b ∨ b = w.heap.size) → b < ({ w with heap := w.heap.push (.cells vs e) } : World).heap.size := by
              rintro b (hb | rfl)
              · have := m1.isz b hb; simp; omega
              · simp
            have m2 := m1.grow (I' := fun b => frzI G I frz b ∨ b = w.heap.size) (below_push w (.cells vs e)) (fun _ h => .inl h) (fun b hb => hb.imp id (fun h => by omega)) hI'
            have hrp : RepA G (fun b => frzI G I frz b ∨ b = w.heap.size) ({ w with heap := w.heap.push (.cells vs e) } : World).heap (.d (.seq es)) (.slice (some ⟨w.heap.size, 0, none⟩) len len) := by
              rw [RepA, RepD]
              refine ⟨_, len, len, rfl, hlen, Nat.le_refl _, .inr ⟨y.size, w.heap.size, 0, vs, e, (0, 0), rfl, .inr rfl, by simp, ?_⟩⟩
              rw [List.drop_zero, g3]
              refine RepR.mono (fun _ h => .inl h) (fun b hb => (below_push w (.cells vs e)).block b (m1.isz b hb)) _ _ _ ?_
              simpa using RepR.mk (ws := []) g5 g4 g6
            have m3 := m2.slotE hdst hrp
            have fin : ∀ slot, K ⟨slot, frz.map fun p => (p.1, .dead), frz.map (·.1), 0, frz, []⟩ → appG ⟨slot, frz.map fun p => (p.1, .dead), frz.map (·.1), 0, frz, []⟩ g = (slotG oper.dst (.d (.seq es)) fun t => frzA frz (g t)) →
                ∃ e, K e ∧ Does tb X P F n g o a w oper e := by
              intro slot hK hg
              refine ⟨_, hK, fun next Q hN => wpIn_value hF hd hrun ?_⟩
              refine hN _ _ G (fun b => frzI G I frz b ∨ b = w.heap.size) ?_
              rw [hg, appO_call]
              exact m3
            unfold effFz at g1
            cases hd' : oper.dst with
            | some d =>
              simp only [hd', fA_eq] at g1
              refine fin _ g1 ?_
              rw [hd']
              funext t
              simp only [appG, trA_call, slotG]
            | none =>
              simp only [hd'] at g1
              refine fin _ g1 ?_
              rw [hd']
              funext t
              simp only [appG, trA_call, slotG]
          | false =>
          rw [hOw, cond_false] at h
          obtain ⟨es, news, vs, g1, g3, g4, g5, g6, hlen, hrun⟩ := rows _ h
          rcases g1 with g1 | ⟨hy0, g1⟩
          rotate_left
          · skip
            unfold effNew at g1
            cases hd' : oper.dst with
            | none => simp [hd'] at g1
            | some d =>
              simp only [hd'] at g1
              have hvl : vs.size = len * y.size := by
                have h1 := RepL.length g4
                have h2 : es.flatten.length = es.length * y.size := by
                  clear h g1 hlen hrun g4 h1 g6
                  induction es with
                  | nil => simp
                  | cons x es ih => simp only [List.flatten_cons, List.length_append, List.length_cons, Nat.add_mul, Nat.one_mul]; rw [ih (fun q hq => g5 q (by simp [hq])), g5 x (by simp)]; omega
                rw [← Array.length_toList, g3, h1, h2, hlen]
              have hown : OwnV e y.size I ({ w with heap := w.heap.push (.cells vs e) } : World).heap es (.slice (some ⟨w.heap.size, 0, none⟩) len len) (some w.heap.size) := by
                refine .inr ⟨w.heap.size, len, vs, by rw [hlen], rfl, by simp, by omega, ?_, hvl, ?_⟩
                · have h2 := Nat.le_mul_of_pos_right len hy0
                  exact Nat.le_trans (Nat.le_trans h2 hle) (by decide)
                · rw [g3]
                  refine RepR.mono (fun _ h => h) (fun b hb => (below_push w (.cells vs e)).block b (m.isz b hb)) _ _ _ ?_
                  simpa using RepR.mk (ws := []) g5 g4 g6
              have m2 := m.mk' hn hnb (gr := ⟨.slice (some ⟨w.heap.size, 0, none⟩) len len, some w.heap.size⟩) (ob := .arr e es) (below_push w (.cells vs e)) (fun b hb => by cases hb; exact ⟨Nat.le_refl _, by simp⟩) (OwnV.ob hy updG_self hown)
              have m3 := m2.put (d := d) (x := .own nid) (v := .slice (some ⟨w.heap.size, 0, none⟩) len len) (hdst d hd') (by rw [RepA]; exact ⟨⟨_, updG_self, rfl⟩, rfl⟩)
              refine ⟨_, g1, fun next Q hK => wpIn_value hF hd hrun ?_⟩
              rw [hd']
              refine hK _ _ (updG G nid ⟨.slice (some ⟨w.heap.size, 0, none⟩) len len, some w.heap.size⟩) I ?_
              rw [appO_one rfl rfl rfl]
              exact m3
          · skip
            have hI' : ∀ b, (I b ∨ b = w.heap.size) → b < ({ w with heap := w.heap.push (.cells vs e) } : World).heap.size := by
              rintro b (hb | rfl)
              · have := m.isz b hb; simp; omega
              · simp
            have m2 := m.grow (I' := fun b => I b ∨ b = w.heap.size) (below_push w (.cells vs e)) (fun _ h => .inl h) (fun b hb => hb.imp id (fun h => by omega)) hI'
            have hrep : RepA G (fun b => I b ∨ b = w.heap.size) ({ w with heap := w.heap.push (.cells vs e) } : World).heap (.d (.seq es)) (.slice (some ⟨w.heap.size, 0, none⟩) len len) := by
              rw [RepA, RepD]
              refine ⟨_, len, len, rfl, hlen, Nat.le_refl _, .inr ⟨y.size, w.heap.size, 0, vs, e, (0, 0), rfl, .inr rfl, by simp, ?_⟩⟩
              rw [List.drop_zero, g3]
              refine RepR.mono (fun _ h => .inl h) (fun b hb => (below_push w (.cells vs e)).block b (m.isz b hb)) _ _ _ ?_
              simpa using RepR.mk (ws := []) g5 g4 g6
            have m3 := m2.slotE hdst hrep
            unfold effPut at g1
            cases hd' : oper.dst with
            | some d =>
              simp only [hd', fA_eq] at g1
              refine ⟨_, g1, fun next Q hK => wpIn_value hF hd hrun ?_⟩
              rw [hd'] at m3
              refine hK _ _ G (fun b => I b ∨ b = w.heap.size) ?_
              rw [appO_id rfl rfl rfl, hd']
              exact m3
            | none =>
              simp only [hd'] at g1
              refine ⟨_, g1, fun next Q hK => wpIn_value hF hd hrun ?_⟩
              rw [hd'] at m3
              refine hK _ _ G (fun b => I b ∨ b = w.heap.size) ?_
              rw [appO_id rfl rfl rfl, hd']
              exact m3
        · rw [Bool.not_eq_true] at hb; rw [hb] at h; exact h.elim
    · exact h.elim
  · exact h.elim
omit hP hF m hdst in
theorem made_flat (z : Array Value) : ∀ k : Nat, (madeCells z (k * z.size)).toList = (List.replicate k z.toList).flatten
  | 0 => by simp [madeCells]
  | k + 1 => by
    have ih := made_flat z k
    simp only [madeCells, Array.toList_map, Array.toList_range] at ih ⊢
    rw [Nat.add_mul, Nat.one_mul, Nat.add_comm, List.range_add, List.map_append, List.map_map, List.replicate_succ, List.flatten_cons, ← ih]
    congr 1
    · apply List.ext_getElem
      · simp
      · intro i h1 h2
        simp only [List.length_map, List.length_range] at h1
        simp [Nat.mod_eq_of_lt h1, h1]
    · apply List.map_congr_left
      intro j _
      simp [Nat.add_mod_left]

theorem snd_makeSlice {T : TypeId} {l c : Operand} (hop : oper.op = .makeSlice T l c) (hn : o nid = none) (hnb : X.nb ≤ nid) (h : effOp tb (Con P tb Wn Y) (.makeSlice T l c) oper.dst g o nid K) :
    ∃ e, K e ∧ Does tb X P F n g o a w oper e := by
  have hd : ∀ c, oper.op ≠ .defer c := by simp [hop]
  have rl := m.eval l
  have rc := m.eval c
  simp only [effOp] at h
  split at h
  · rename_i e s1 s2 z0 bk hTy
    have hk := (hP.ty T _ hTy).kind
    simp only [TKOK] at hk
    split at h
    · rename_i y hy
      have hTyE := hP.ty e y hy
      obtain ⟨i, zv, hi, hi1, hi2, hi3, hi4⟩ := hTyE.info
      simp only [isInt] at h
      split at h
      · rename_i kl n hl
        split at h
        · rename_i kc q hq
          obtain ⟨k, rfl, rfl, hb1, hb2, es, hes, h⟩ := h
          rw [hl, RepA, RepD] at rl
          rw [hq, RepA, RepD] at rc
          have hr := run_make (P := P) w T e i zv hk hi hi3 kl kc k k (by omega) (Int.le_refl _) (by
            rw [hi2]
            have : ((k * y.bytes : Nat) : Int) ≤ ((140737488355328 : Nat) : Int) := Int.ofNat_le.2 hb1
            rw [Int.natCast_mul, Int.mul_comm] at this
            omega) (by omega)
          simp only [Int.toNat_natCast, hi1] at hr
          have hzl : zv.cells.size = y.size := by rw [← hTyE.len, ← hi4]; simp
          have hmf := made_flat zv.cells k
          rw [hzl, hi4] at hmf
          generalize hvs : madeCells zv.cells (k * y.size) = vs at hr hmf
          have hvl : vs.size = k * y.size := by rw [← hvs]; exact size_madeCells _ _
          have hlen : es.length = k := by rw [← hes]; simp
          have hes5 : ∀ x ∈ es, x.length = y.size := by
            intro x hx
            rw [← hes] at hx
            rw [List.eq_of_mem_replicate hx, List.length_map, hTyE.len]
          have hrep : RepL I w.heap es.flatten vs.toList := by
            rw [hmf, ← hes]
            have : ∀ l : List Value, RepL I w.heap (l.map D.v) l := fun l => by
              induction l with
              | nil => exact RepL.nil
              | cons v l ih => exact RepL.cons (by rw [RepD]) ih
            have e1 : (List.replicate k (y.zero.map D.v)).flatten = ((List.replicate k y.zero).flatten).map D.v := by
              rw [List.map_flatten, List.map_replicate]
            rw [e1]
            exact this _
          have hone : ∀ v ∈ vs.toList, v.oneCell' = true := by
            intro v hv
            rw [hmf, List.mem_flatten] at hv
            obtain ⟨x, hx, hv⟩ := hv
            rw [List.eq_of_mem_replicate hx] at hv
            exact hTyE.one v hv
          have hrun : (execOp a.eval oper).run P w = .ok (.value (.slice (some ⟨w.heap.size, 0, none⟩) k k)) { w with heap := w.heap.push (.cells vs e) } := by
            have hr' : (Instr.makeSlice T (a.eval l) (a.eval c)).run P w = .ok (.slice (some ⟨w.heap.size, 0, none⟩) k k) { w with heap := w.heap.push (.cells vs e) } := by rw [rl, rc]; exact hr
            simp [execOp, hop, hr']
          unfold effNew at h
          cases hd' : oper.dst with
          | none => simp [hd'] at h
          | some d =>
            simp only [hd'] at h
            have hown : OwnV e y.size I ({ w with heap := w.heap.push (.cells vs e) } : World).heap es (.slice (some ⟨w.heap.size, 0, none⟩) k k) (some w.heap.size) := by
              refine .inr ⟨w.heap.size, k, vs, by rw [hlen], rfl, by simp, by omega, Nat.le_trans hb2 (by decide), hvl, ?_⟩
              refine RepR.mono (fun _ h => h) (fun b hb => (below_push w (.cells vs e)).block b (m.isz b hb)) _ _ _ ?_
              simpa using RepR.mk (ws := []) hes5 hrep hone
            have m2 := m.mk' hn hnb (gr := ⟨.slice (some ⟨w.heap.size, 0, none⟩) k k, some w.heap.size⟩) (ob := .arr e es) (below_push w (.cells vs e)) (fun b hb => by cases hb; exact ⟨Nat.le_refl _, by simp⟩) (OwnV.ob hy updG_self hown)
            have m3 := m2.put (d := d) (x := .own nid) (v := .slice (some ⟨w.heap.size, 0, none⟩) k k) (hdst d hd') (by rw [RepA]; exact ⟨⟨_, updG_self, rfl⟩, rfl⟩)
            refine ⟨_, h, fun next Q hK => wpIn_value hF hd hrun ?_⟩
            rw [hd']
            refine hK _ _ (updG G nid ⟨.slice (some ⟨w.heap.size, 0, none⟩) k k, some w.heap.size⟩) I ?_
            rw [appO_one rfl rfl rfl]
            exact m3
        · exact h.elim
      · exact h.elim
    · exact h.elim
  · exact h.elim
end
end Go.Ev

set_option linter.unusedVariables false
set_option linter.unusedSectionVars false
set_option linter.unusedSimpArgs false
namespace Go.Ev
open RowKit

section
variable {tb : TB} {X : Ctx} {P : Program} {Wn : Nat} {Y : Nat → List D → Bool → Prop} {F : Fence} {n : Nat} {g : Nat → A} {o : Nat → Option Ob} {a : Act} {w : World} {G : Nat → Option GR} {I : Nat → Prop} {oper : Oper} {K : Eff → Prop} {nid : Nat}

theorem fnA_rep {h : Array Obj} {f : Fn} {p q : List A} {x y : Array Value} (r1 : RepAL G I h p x.toList) (r2 : RepAL G I h q y.toList) : RepA G I h (fnA f p q) (.func f x y) := by
  unfold fnA
  split
  · rename_i u v hu hv
    rw [toDs_eq hu] at r1
    rw [toDs_eq hv] at r2
    rw [RepA, RepD]
    exact ⟨x, y, rfl, RepAL.of_d.1 r1, RepAL.of_d.1 r2⟩
  · rw [RepA]; exact ⟨x, y, rfl, r1, r2⟩

theorem Mod.evals (m : Mod tb X g o a w G I) : ∀ (l : List Operand), RepAL G I w.heap (l.map (opA g)) (l.map a.eval)
  | [] => RepAL.nil
  | x :: l => RepAL.cons (m.eval x) (Mod.evals m l)

theorem isInt_rep {x : A} {K : IntKind → Int → Prop} (h : isInt x K) : ∃ k n, x = .d (.v (.int k n)) ∧ K k n := by
  unfold isInt at h
  split at h
  · rename_i k n; exact ⟨k, n, rfl, h⟩
  · exact h.elim

theorem Mod.evalInt (m : Mod tb X g o a w G I) {x : Operand} {k : IntKind} {n : Int} (h : opA g x = .d (.v (.int k n))) : a.eval x = .int k n := by
  have := m.eval x
  rwa [h, RepA, RepD] at this

variable (hP : PG P tb) (hF : Wide F) (m : Mod tb X g o a w G I) (hdst : ∀ d, oper.dst = some d → d < X.nt)
include hP hF m hdst

theorem snd_makeFunc {fn : Fn} {first caps : Array Operand} (hop : oper.op = .makeFunc fn first caps) (h : effOp tb (Con P tb Wn Y) (.makeFunc fn first caps) oper.dst g o nid K) : ∃ e, K e ∧ Does tb X P F n g o a w oper e := by
  have hd : ∀ c, oper.op ≠ .defer c := by simp [hop]
  simp only [effOp, fL_eq] at h
  refine fin_put hF hd (v := .func fn (first.map a.eval) (caps.map a.eval)) ?_ m (fnA_rep (by simpa using m.evals first.toList) (by simpa using m.evals caps.toList)) hdst h
  simp [execOp, hop, Instr.makeFunc]

theorem snd_max {c : Call} (hop : oper.op = .call c) (hc : c.callee = .builtin .max) (h : effOp tb (Con P tb Wn Y) (.call c) oper.dst g o nid K) : ∃ e, K e ∧ Does tb X P F n g o a w oper e := by
  have hd : ∀ c, oper.op ≠ .defer c := by simp [hop]
  simp only [effOp, hc] at h
  split at h
  · rename_i x y hx
    have hargs : c.args = #[x, y] := by apply Array.ext'; simpa using hx
    obtain ⟨k, p, h1, h⟩ := isInt_rep h
    obtain ⟨k', q, h2, h⟩ := isInt_rep h
    refine fin_put hF hd (v := .int k (max p q)) ?_ m (by unfold intRes; rw [RepA, RepD]) hdst h
    have e : (if q > p then q else p) = max p q := by split <;> omega
    simp [execOp, hop, resolve, hc, hargs, invoke, builtin, Builtin.max_, Builtin.max2, m.evalInt h1, m.evalInt h2, e]
  · exact h.elim

theorem snd_min {c : Call} (hop : oper.op = .call c) (hc : c.callee = .builtin .min) (h : effOp tb (Con P tb Wn Y) (.call c) oper.dst g o nid K) : ∃ e, K e ∧ Does tb X P F n g o a w oper e := by
  have hd : ∀ c, oper.op ≠ .defer c := by simp [hop]
  simp only [effOp, hc] at h
  split at h
  · rename_i x y hx
    have hargs : c.args = #[x, y] := by apply Array.ext'; simpa using hx
    obtain ⟨k, p, h1, h⟩ := isInt_rep h
    obtain ⟨k', q, h2, h⟩ := isInt_rep h
    refine fin_put hF hd (v := .int k (min p q)) ?_ m (by unfold intRes; rw [RepA, RepD]) hdst h
    have e : (if q < p then q else p) = min p q := by split <;> omega
    simp [execOp, hop, resolve, hc, hargs, invoke, builtin, Builtin.min_, Builtin.min2, m.evalInt h1, m.evalInt h2, e]
  · exact h.elim

theorem bnd_rep {x : Option Operand} {d : Nat} {K : Nat → Prop} (h : bnd g x d K) : ∃ k : Nat, K k ∧ ((x = none ∧ k = d) ∨ ∃ op q, x = some op ∧ a.eval op = .int q k) := by
  unfold bnd at h
  split at h
  · exact ⟨d, h, .inl ⟨rfl, rfl⟩⟩
  · rename_i op
    obtain ⟨q, n, h1, k, rfl, h⟩ := isInt_rep h
    exact ⟨k, h, .inr ⟨op, q, rfl, m.evalInt h1⟩⟩

omit hP hF m hdst in
theorem run_bound {q : IntKind} {k y : Nat} {code : BoundsCode} (hk : k ≤ y) : (Instr.sliceBound (.int q k) y code).run P w = .ok k w := by
  simp [Instr.sliceBound, asIntOf, Int.ofNat_le.2 hk, hk]

omit hP hF m hdst in
/-- A variable that nobody writes to from now on. -/
theorem Mod.ro (m : Mod tb X g o a w G I) {z : Nat} {bulk : Bool} {T : TypeId} {cs : List A} (hz : o z = some (.var bulk T cs)) :
    ∃ b c, G z = some ⟨.pointer (some ⟨b, 0, none⟩), some b⟩ ∧ w.heap[b]? = some (.cells c T (0, 0)) ∧ RepAL G I w.heap cs c.toList ∧ (∀ v ∈ c.toList, v.oneCell' = true) ∧
      Mod tb X g (updO o z (.ro T cs)) a w G (fun b' => I b' ∨ b' = b) := by
  obtain ⟨b, c, r1, r2, r3, r4⟩ := m.objs z _ hz
  obtain ⟨h1, h2, h3⟩ := m.own z _ _ b hz rfl r1 rfl
  have hI : ∀ b', I b' → (I b' ∨ b' = b) := fun _ h => .inl h
  refine ⟨b, c, r1, r2, r3, r4, { m with slots := fun t => RepA.mono (fun _ _ h => h) hI (fun _ _ => rfl) _ _ (m.slots t), objs := ?_, dom := ?_, sep := ?_, own := ?_, isz := ?_, i0 := fun b' h => .inl (m.i0 b' h), inew := ?_, barr := ?_, env := ?_ }⟩
  · intro j oj hj
    by_cases e : z = j
    · subst e; rw [updO_self] at hj; cases hj
      exact ⟨b, c, r1, .inr rfl, r2, RepAL.mono (fun _ _ h => h) hI (fun _ _ => rfl) _ _ r3, r4⟩
    · rw [updO_ne e] at hj
      exact ObOK.mono (fun _ _ h => h) hI (fun _ _ => rfl) (fun _ _ _ _ _ => rfl) (m.objs j oj hj)
  · intro j gr hg
    by_cases e : z = j
    · subst e; rw [updO_self]; rfl
    · rw [updO_ne e]; exact m.dom j gr hg
  · intro i j oi oj gi gj b' hi hj hli hlj
    by_cases e : z = i
    · subst e; rw [updO_self] at hi; cases hi; simp [Ob.live] at hli
    · by_cases e' : z = j
      · subst e'; rw [updO_self] at hj; cases hj; simp [Ob.live] at hlj
      · rw [updO_ne e] at hi; rw [updO_ne e'] at hj
        exact m.sep i j oi oj gi gj b' hi hj hli hlj
  · intro i oi gi b' hi hli hg hb
    by_cases e : z = i
    · subst e; rw [updO_self] at hi; cases hi; simp [Ob.live] at hli
    · rw [updO_ne e] at hi
      obtain ⟨q1, q2, q3⟩ := m.own i oi gi b' hi hli hg hb
      refine ⟨fun h => ?_, q2, q3⟩
      rcases h with h | h
      · exact q1 h
      · subst h; exact e (m.sep z i _ oi _ gi b' hz hi rfl hli r1 hg rfl hb)
  · rintro b' (h | h)
    · exact m.isz b' h
    · subst h; exact h2
  · rintro b' (h | h)
    · exact m.inew b' h
    · subst h
      rcases h3 with h3 | h3
      · exact .inr (.inr (.inr h3))
      · exact .inr (.inr (.inl h3))
  · intro i T' es hi hba
    by_cases e : z = i
    · subst e; rw [updO_self]; simp
    · rw [updO_ne e]; exact m.barr i T' es hi hba
  · obtain ⟨k, Ft, f1, f2, f3, f4⟩ := m.env
    refine ⟨k, Ft, f1.st (fun _ _ _ => rfl) (fun _ _ => rfl) hI (fun b' hf h => ?_) ?_ rfl rfl rfl (Nat.le_refl _), f2, fun j oj gj b' hj hlj hg hb => ?_, fun i k' hi => ?_⟩
    · rcases h with h | h
      · exact h
      · subst h; exact absurd hf (f3 z _ _ b' hz rfl r1 rfl)
    · rintro b' (h | h)
      · exact m.isz b' h
      · subst h; exact h2
    · by_cases e' : z = j
      · subst e'; rw [updO_self] at hj; cases hj; simp [Ob.live] at hlj
      · rw [updO_ne e'] at hj; exact f3 j oj gj b' hj hlj hg hb
    · by_cases e : z = i
      · subst e; rw [updO_self] at hi; cases hi
      · rw [updO_ne e] at hi; exact f4 i k' hi

theorem snd_slice {T : TypeId} {x : Operand} {lo hi mx : Option Operand} (hop : oper.op = .slice T x lo hi mx) (h : effOp tb (Con P tb Wn Y) (.slice T x lo hi mx) oper.dst g o nid K) : ∃ e, K e ∧ Does tb X P F n g o a w oper e := by
  have hd : ∀ c, oper.op ≠ .defer c := by simp [hop]
  simp only [effOp] at h
  cases mx with
  | some z => exact h.elim
  | none =>
    simp only at h
    split at h
    · rename_i e s1 s2 z bk hTy
      have hk := (hP.ty T _ hTy).kind
      simp only [TKOK] at hk
      split at h
      · rename_i y hy
        have hY := hP.ty e y hy
        split at h
        · rename_i es hx
          have rx := m.eval x
          rw [hx, RepA, RepD] at rx
          obtain ⟨ad, len, cap, hu, h1, h2, h3⟩ := rx
          obtain ⟨l, h, hl⟩ := bnd_rep (a := a) hP hF m hdst h
          obtain ⟨hh, h, hhh⟩ := bnd_rep (a := a) hP hF m hdst h
          obtain ⟨q1, q2, q3, h⟩ := h
          have hb : (Instr.sliceBounds true len cap (lo.map a.eval) (hi.map a.eval) none).run P w = .ok (l, hh, cap) w := by
            unfold Instr.sliceBounds
            rcases hhh with ⟨rfl, rfl⟩ | ⟨op, qq, rfl, ho⟩
            · rcases hl with ⟨rfl, rfl⟩ | ⟨op, qq, rfl, ho⟩
              · simp [h1]
              · simp [ho, h1, run_bound (P := P) (w := w) (q := qq) (by omega : l ≤ len)]
            · rcases hl with ⟨rfl, rfl⟩ | ⟨op', qq', rfl, ho'⟩
              · simp [ho, run_bound (P := P) (w := w) (q := qq) (by omega : hh ≤ cap)]
              · simp [ho, ho', run_bound (P := P) (w := w) (q := qq) (by omega : hh ≤ cap), run_bound (P := P) (w := w) (q := qq') q1]
          refine fin_put hF hd (v := .slice (if cap = l then ad else ad.map (·.add (l * y.size))) (hh - l) (cap - l)) ?_ m ?_ hdst h
          · have e1 : (Instr.sliceAt T (a.eval x) (lo.map a.eval) (hi.map a.eval) none).run P w = .ok (.slice (if cap = l then ad else ad.map (·.add (l * y.size))) (hh - l) (cap - l)) w := by
              simp [Instr.sliceAt, Instr.slice, run_und hk, hu, hb, hY.size]
            simp [execOp, hop, e1]
          · rw [RepA, RepD]
            refine ⟨_, hh - l, cap - l, rfl, by simp; omega, by omega, ?_⟩
            rcases Nat.eq_zero_or_pos (hh - l) with e0 | e0
            · exact .inl e0
            · right
              rcases h3 with h3 | ⟨sz, b, off, c, T', fr, r1, r2, r3, r4⟩
              · omega
              · have hsz : sz = y.size := by
                  have h0 : 0 < es.length := by omega
                  have hm : es[0] ∈ es := List.getElem_mem h0
                  rw [← RepR.lens r4 _ hm, q3 _ hm]
                subst hsz
                refine ⟨y.size, b, off + l * y.size, c, T', fr, ?_, r2, r3, ?_⟩
                · rw [if_neg (by omega), r1, Option.map_some, addr_add]
                · have := RepR.sub (RepR.takes r4 hh) l
                  rwa [List.drop_drop] at this
        · rename_i i hx
          have rx := m.eval x
          rw [hx, RepA] at rx
          obtain ⟨⟨gr, hg, hu⟩, _⟩ := rx
          cases lo with
          | some z => exact h.elim
          | none =>
            cases hdd : oper.dst with
            | none => simp only [hdd] at h
            | some d =>
              cases ho : o i with
              | none => simp only [hdd, ho] at h
              | some ob =>
                cases ob with
                | arr e' es =>
                  simp only [hdd, ho] at h
                  cases hb : Nat.beq e e' with
                  | false => rw [hb] at h; exact h.elim
                  | true =>
                    have he := Nat.eq_of_beq_eq_true hb
                    subst he
                    rw [hb] at h
                    simp only [cond_true] at h
                    obtain ⟨hh, h, hhh⟩ := bnd_rep (a := a) hP hF m hdst h
                    obtain ⟨q2, h⟩ := h
                    obtain ⟨es', hes', h⟩ : ∃ es', es.take hh = es' ∧ Ch (K ⟨some (d, .own i), [(i, .arr e es')], [i], 0, [], [i]⟩) (K ⟨some (d, .pre i hh), [], [i], 0, [], []⟩) := by
                      rcases h with ⟨es', q, h⟩ | h
                      · exact ⟨es', q, .l h⟩
                      · exact ⟨_, rfl, .r h⟩
                    obtain ⟨gr', hg', hown⟩ := ObOK.ownV hy (m.objs i _ ho)
                    rw [hg] at hg'; cases hg'
                    obtain ⟨v, blk⟩ := gr
                    simp only at hu hown
                    have hlen' : es'.length = hh := by rw [← hes']; simp; omega
                    have key : ∃ ad cap, v = .slice ad es.length cap ∧ es.length ≤ cap ∧ OwnV e y.size I w.heap es' (.slice ad hh cap) blk := by
                      rcases hown with ⟨rfl, rfl, rfl⟩ | ⟨b, cap, c, rfl, rfl, r1, r2, r3, r4, r5⟩
                      · have : hh = 0 := by simpa using q2
                        subst this
                        exact ⟨none, 0, rfl, Nat.le_refl _, .inl ⟨by rw [← hes']; rfl, rfl, rfl⟩⟩
                      · refine ⟨_, cap, rfl, r2, .inr ⟨b, cap, c, by rw [hlen'], rfl, r1, by omega, r3, r4, ?_⟩⟩
                        rw [← hes']; exact RepR.takes r5 hh
                    obtain ⟨ad, cap, rfl, hcap, hown'⟩ := key
                    have hb : (Instr.sliceBounds true es.length cap none (hi.map a.eval) none).run P w = .ok (0, hh, cap) w := by
                      unfold Instr.sliceBounds
                      rcases hhh with ⟨rfl, rfl⟩ | ⟨op, qq, rfl, ho⟩
                      · simp
                      · simp [ho, run_bound (P := P) (w := w) (q := qq) (by omega : hh ≤ cap)]
                    have hrun : (execOp a.eval oper).run P w = .ok (.value (.slice ad hh cap)) w := by
                      have e1 : (Instr.sliceAt T (a.eval x) (Option.map a.eval none) (hi.map a.eval) none).run P w = .ok (.slice ad hh cap) w := by
                        have e0 : (if cap = 0 then ad else ad.map (·.add (0 * y.size))) = ad := by
                          split
                          · rfl
                          · cases ad with
                            | none => rfl
                            | some z => simp [Addr.add]
                        simp [Instr.sliceAt, Instr.slice, run_und hk, hu, hb, hY.size]
                        simpa using e0
                      simp [execOp, hop] at e1 ⊢
                      simp [e1]
                    rcases h with h | h
                    rotate_left
                    · have hgl : ∃ c, (GR.mk (.slice ad es.length cap) blk).val = .slice ad es.length c := ⟨_, rfl⟩
                      refine ⟨_, h, fun next Q hK => wpIn_value hF hd hrun ?_⟩
                      have m3 := m.put (d := d) (x := .pre i hh) (v := .slice ad hh cap) (hdst d hdd) (by rw [RepA]; exact ⟨_, ad, es.length, cap, hg, rfl, q2, rfl⟩)
                      rw [hdd]
                      refine hK _ _ G I ?_
                      rw [appO_id rfl rfl rfl]
                      exact m3
                    have hib : X.nb ≤ i ∨ X.ba i = true := by
                      rcases Nat.lt_or_ge i X.nb with h3 | h3
                      · cases hba : X.ba i with
                        | true => exact .inr rfl
                        | false => exact absurd ho (m.barr i _ _ h3 hba)
                      · exact .inl h3
                    refine ⟨_, h, fun next Q hK => wpIn_value hF hd hrun ?_⟩
                    have m2 := m.turn ho rfl hib (gr' := ⟨.slice ad hh cap, blk⟩) hg (w' := w) (Nat.le_refl _) (fun _ _ _ => rfl) rfl rfl rfl (fun b hb => .inl hb) (OwnV.ob hy updG_self hown')
                    have m3 := m2.put (d := d) (x := .own i) (v := .slice ad hh cap) (hdst d hdd) (by rw [RepA]; exact ⟨⟨_, updG_self, rfl⟩, rfl⟩)
                    rw [hdd]
                    refine hK _ _ (updG G i ⟨.slice ad hh cap, blk⟩) I ?_
                    have e1 : appO ⟨some (d, .own i), [(i, .arr e es')], [i], 0, [], [i]⟩ o = updO (fun j => (o j).map (clrO [i])) i (.arr e es') := by
                      funext j
                      simp only [appO, lookO, updO, trO]
                      cases Nat.beq i j <;> simp
                    rw [e1]
                    exact m3
                | _ => simp only [hdd, ho] at h
        · exact h.elim
      · exact h.elim
    · rename_i len e s1 s2 z bk hTy
      have hk := (hP.ty T _ hTy).kind
      simp only [TKOK] at hk
      split at h
      · rename_i y hy
        have hY := hP.ty e y hy
        split at h
        · rename_i i d hx hdd
          have rx := m.eval x
          rw [hx, RepA] at rx
          obtain ⟨b0, hg, hu⟩ := rx
          split at h
          · rename_i bulk T' cs ho
            obtain ⟨hh, h, hhh⟩ := bnd_rep (a := a) hP hF m hdst h
            obtain ⟨q1, es, q2, q3, q4, h⟩ := h
            obtain ⟨b, c, r1, r2, r3, r4, m2⟩ := Mod.ro m ho
            rw [hg] at r1; cases r1
            have hb : (Instr.sliceBounds false len len none (hi.map a.eval) none).run P w = .ok (0, hh, len) w := by
              unfold Instr.sliceBounds
              rcases hhh with ⟨rfl, rfl⟩ | ⟨op, qq, rfl, ho⟩
              · simp
              · simp [ho, run_bound (P := P) (w := w) (q := qq) q1]
            have hrun : (execOp a.eval oper).run P w = .ok (.value (.slice (some ⟨b0, 0, none⟩) hh len)) w := by
              have e1 : (Instr.sliceAt T (a.eval x) (Option.map a.eval none) (hi.map a.eval) none).run P w = .ok (.slice (some ⟨b0, 0, none⟩) hh len) w := by
                have e0 : (if len = 0 then (⟨b0, 0, none⟩ : Addr) else (⟨b0, 0, none⟩ : Addr).add (0 * y.size)) = ⟨b0, 0, none⟩ := by
                  split
                  · rfl
                  · simp [Addr.add]
                simp [Instr.sliceAt, run_und hk, hu, hb, hY.size, Instr.sureAddr]
                simpa using e0
              simp [execOp, hop] at e1 ⊢
              simp [e1]
            have r5 : RepL (fun b' => I b' ∨ b' = b0) w.heap es.flatten (c.toList.take (hh * y.size)) := by
              have h0 := r3.take (hh * y.size)
              rw [q2] at h0
              exact RepL.mono (fun _ h => .inl h) (fun _ _ => rfl) _ _ (RepAL.of_d.1 h0)
            have m3 := m2.put (d := d) (x := .d (.seq es)) (v := .slice (some ⟨b0, 0, none⟩) hh len) (hdst d hdd) (by
              rw [RepA, RepD]
              refine ⟨_, hh, len, rfl, q4, q1, .inr ⟨y.size, b0, 0, c, T', (0, 0), rfl, .inr rfl, r2, ?_⟩⟩
              have h0 := RepR.mk (ws := c.toList.drop (hh * y.size)) q3 r5 (fun v hv => r4 v (List.mem_of_mem_take hv))
              rw [List.take_append_drop] at h0
              rw [List.drop_zero]
              exact h0)
            refine ⟨_, h, fun next Q hK => wpIn_value hF hd hrun ?_⟩
            rw [hdd]
            refine hK _ _ G (fun b' => I b' ∨ b' = b0) ?_
            rw [appO_one rfl rfl rfl]
            exact m3
          · exact h.elim
        · exact h.elim
      · exact h.elim
    · exact h.elim
end
end Go.Ev

set_option linter.unusedVariables false
set_option linter.unusedSectionVars false
set_option linter.unusedSimpArgs false
namespace Go.Ev
open RowKit

section
variable {P : Program}

def CheckOK (P : Program) (D : Nat) (t : TypeId) (k : List Bool) : Prop :=
  ∀ (em : Bool) (w : World) (xs : List Value), fitsB k xs = true → (Instr.checkKey em D t (packV (aggT P t) xs)).run P w = .ok () w

theorem check_ok : ∀ (d : Nat) (t : TypeId) (k : List Bool), eqKinds P d t = some k → ∀ c, CheckOK P (d + c) t k
  | 0, _, _, h, _ => by simp [eqKinds] at h
  | d + 1, t, k, h, c => by
    intro em w xs hf
    rw [show d + 1 + c = d + c + 1 by omega]
    unfold eqKinds at h
    split at h
    · rename_i hu
      cases h
      simp [packV, aggT, hu, Instr.checkKey, run_underlying hu]
    · rename_i ik hu
      cases h
      simp [packV, aggT, hu, Instr.checkKey, run_underlying hu]
    · rename_i fs hu
      have hagg : aggT P t = true := by simp [aggT, hu]
      cases hs : P.stoodInHeld t with
      | true => simp [hs] at h
      | false =>
        simp only [hs, cond_false] at h
        split at h
        · rename_i k' i hk hi
          cases hb : Nat.beq i.size k'.length with
          | false => simp [hb] at h
          | true =>
            simp only [hb, cond_true, Option.some.injEq] at h; subst h
            simp only [hagg, packV, if_true]
            rw [Instr.checkKey]
            simp only [Sem.run_bind, run_underlying hu, Result.andThen_ok]
            rw [← Array.forIn_toList]
            have ih := fun t k h => check_ok d t k h c
            obtain ⟨off, hk2, hf2, ho2⟩ : ∃ off, eqFieldsK (eqKinds P d) fs.toList off = some k' ∧ fitsB k' (xs.drop off) = true ∧ off ≤ xs.length := ⟨0, hk, by simpa using hf, Nat.zero_le _⟩
            clear hk hb hi hf hu hs
            generalize fs.toList = L at hk2
            induction L generalizing off k' with
            | nil => simp
            | cons f L ihL =>
              rw [eqFieldsK] at hk2
              cases hb : (f.name != "_" && Nat.beq f.offset off) with
              | false => simp [hb] at hk2
              | true =>
                rw [hb, cond_true] at hk2
                simp only [Bool.and_eq_true, bne_iff_ne, ne_eq] at hb
                split at hk2
                · rename_i k1 hk
                  split at hk2
                  · rename_i l hl
                    cases hk2
                    obtain ⟨f1, f2⟩ := fitsB_append hf2
                    rw [List.drop_drop] at f2
                    have hlen := fitsB_length hf2
                    rw [List.length_drop, List.length_append] at hlen
                    have hoff : f.offset = off := Nat.eq_of_beq_eq_true hb.2
                    have p1 := run_part (P := P) hk (xs := xs) (off := off) (by omega) w
                    have p2 := ih f.type k1 hk em w _ f1
                    simp only [List.forIn_cons, Sem.run_bind, hb.1, ne_eq, not_false_eq_true, if_true, hoff, p1, p2, Result.andThen_ok, Sem.run_pure]
                    exact ihL _ _ f2 (by omega) hl
                  · cases hk2
                · cases hk2
        · cases h
    · rename_i len e hu
      have hagg : aggT P t = true := by simp [aggT, hu]
      split at h
      · rename_i k' i j hk hi hj
        cases hb : (Nat.beq i.size (len * k'.length) && Nat.beq j.size k'.length) with
        | false => simp [hb] at h
        | true =>
          simp only [hb, cond_true, Option.some.injEq] at h; subst h
          simp only [Bool.and_eq_true] at hb
          simp only [hagg, packV, if_true]
          rw [Instr.checkKey]
          simp only [Sem.run_bind, run_underlying hu, Result.andThen_ok]
          simp only [Std.Legacy.Range.forIn_eq_forIn_range', Std.Legacy.Range.size, Nat.sub_zero, Nat.add_one_sub_one, Nat.div_one]
          have ih := check_ok d e k' hk c
          have p3 : (sizeOf e).run P w = .ok k'.length w := by simp [sizeOf, typeInfo, hj, Nat.eq_of_beq_eq_true hb.2]
          obtain ⟨j0, hf2, ho2⟩ : ∃ j0, fitsB (List.replicate len k').flatten (xs.drop (j0 * k'.length)) = true ∧ j0 * k'.length ≤ xs.length ∧ j0 = 0 := ⟨0, by simpa using hf, by simp, rfl⟩
          obtain ⟨ho2, hj0⟩ := ho2
          rw [← hj0]
          clear hj0 hb hu hagg hf hi
          induction len generalizing j0 with
          | zero => simp
          | succ m ihm =>
            rw [List.replicate_succ, List.flatten_cons] at hf2
            obtain ⟨f1, f2⟩ := fitsB_append hf2
            have hlen := fitsB_length hf2
            rw [List.length_drop, List.length_append] at hlen
            have e0 : j0 * k'.length + k'.length = (j0 + 1) * k'.length := by rw [Nat.add_mul]; omega
            rw [List.drop_drop, e0] at f2
            have p1 := run_part (P := P) hk (xs := xs) (off := j0 * k'.length) (by omega) w
            have p2 := ih em w _ f1
            rw [List.range'_succ]
            simp only [List.forIn_cons, Sem.run_bind, p3, p1, p2, Result.andThen_ok, Sem.run_pure]
            exact ihm _ f2 (by omega)
      · cases h
    · cases h
end

/-! ### keys -/

theorem fitK_fitC : ∀ {z : List Value} {ds : List D}, fitK z ds = true → fitC z ds = true
  | [], [], _ => rfl
  | [], _ :: _, h => by simp [fitK] at h
  | v :: z, [], h => by cases v <;> simp [fitK] at h
  | v :: z, d :: ds, h => by
    cases v <;> cases d <;> (try (rename_i x; cases x)) <;> simp [fitK] at h
    · simpa [fitC] using fitK_fitC h
    · simpa [fitC] using fitK_fitC h.2

/-- Keys of one type may be compared. -/
theorem fitK_eqC : ∀ {z : List Value} {xs ys : List D}, fitK z xs = true → fitK z ys = true → ∃ q, eqC xs ys = some q
  | [], [], [], _, _ => ⟨true, rfl⟩
  | [], _ :: _, _, h, _ => by simp [fitK] at h
  | [], [], _ :: _, _, h => by simp [fitK] at h
  | v :: z, [], _, h, _ => by cases v <;> simp [fitK] at h
  | v :: z, _ :: _, [], _, h => by cases v <;> simp [fitK] at h
  | v :: z, x :: xs, y :: ys, h1, h2 => by
    cases v <;> cases x <;> (try (rename_i x; cases x)) <;> simp [fitK] at h1
    · cases y <;> (try (rename_i y; cases y)) <;> simp [fitK] at h2
      obtain ⟨q, hq⟩ := fitK_eqC h1 h2
      exact ⟨_, by rw [eqC, hq]⟩
    · cases y <;> (try (rename_i y; cases y)) <;> simp [fitK] at h2
      obtain ⟨q, hq⟩ := fitK_eqC h1.2 h2.2
      obtain ⟨e1, _⟩ := h1
      obtain ⟨e2, _⟩ := h2
      subst e1; subst e2
      exact ⟨_, by rw [eqC, hq]; simp only [decide_true, cond_true]; rfl⟩

theorem eqC_true {I : Nat → Prop} {h : Array Obj} : ∀ {xs ys : List D} {us vs : List Value}, eqC xs ys = some true → RepL I h xs us → RepL I h ys vs → us = vs
  | [], [], us, vs, _, r, s => by rw [RepL] at r s; rw [r, s]
  | [], _ :: _, _, _, he, _, _ => by simp [eqC] at he
  | x :: xs, [], _, _, he, _, _ => by cases x <;> (try (rename_i x; cases x)) <;> simp [eqC] at he
  | x :: xs, y :: ys, us, vs, he, r, s => by
    obtain ⟨u, us, rfl, r1, r2⟩ := r.uncons
    obtain ⟨v, vs, rfl, s1, s2⟩ := s.uncons
    cases x <;> (try (rename_i x; cases x)) <;> (try (simp [eqC] at he; done))
    · cases y <;> (try (rename_i y; cases y)) <;> (try (simp [eqC] at he; done))
      rw [eqC] at he
      split at he
      · rename_i q hq
        simp only [Option.some.injEq, Bool.and_eq_true, beq_iff_eq] at he
        obtain ⟨e1, rfl⟩ := he
        rw [RepD] at r1 s1
        rw [r1, s1, e1, eqC_true hq r2 s2]
      · cases he
    · cases y <;> (try (rename_i y; cases y)) <;> (try (simp [eqC] at he; done))
      rw [eqC] at he
      rename_i k a k' b
      cases hk : decide (k = k') with
      | false => rw [hk] at he; cases he
      | true =>
        rw [hk, cond_true] at he
        split at he
        · rename_i q hq
          simp only [Option.some.injEq, Bool.and_eq_true, beq_iff_eq] at he
          obtain ⟨e1, rfl⟩ := he
          rw [RepD] at r1 s1
          rw [r1, s1, e1, of_decide_eq_true hk, eqC_true hq r2 s2]
        · cases he

theorem fitC_flat {I : Nat → Prop} {h : Array Obj} : ∀ {z : List Value} {xs : List D} {us : List Value}, fitC z xs = true → RepL I h xs us → ∀ n, (us.zip us).all (fun (x, y) => Instr.sameBits n x y) = true
  | [], [], us, _, r, n => by rw [RepL] at r; subst r; rfl
  | [], _ :: _, _, hf, _, _ => by simp [fitC] at hf
  | v :: z, [], _, hf, _, _ => by cases v <;> simp [fitC] at hf
  | v :: z, x :: xs, us, hf, r, n => by
    obtain ⟨u, us, rfl, r1, r2⟩ := r.uncons
    cases v <;> cases x <;> (try (rename_i x; cases x)) <;> simp [fitC] at hf
    · have := fitC_flat hf r2 n
      rw [RepD] at r1; subst r1
      rw [List.zip_cons_cons, List.all_cons, this]; simp [Instr.sameBits]
    · have := fitC_flat hf r2 n
      rw [RepD] at r1; subst r1
      rw [List.zip_cons_cons, List.all_cons, this]; simp [Instr.sameBits]

section
variable {P : Program} {tb : TB} {I : Nat → Prop} {h : Array Obj} {kT : TypeId}

/-- What a key is. -/
inductive KeyIs (P : Program) (kT : TypeId) : D → Value → Prop
  | int (k : IntKind) (n : Int) (hu : P.underlying kT = some (.int k)) : KeyIs P kT (.v (.int k n)) (.int k n)
  | agg (ds : List D) (us : Array Value) (kk : List Bool) (h1 : eqKinds P 10 kT = some kk) (h2 : fitsB kk us.toList = true) (h3 : aggT P kT = true) (h4 : ∀ n, (us.toList.zip us.toList).all (fun (x, y) => Instr.sameBits n x y) = true) : KeyIs P kT (.agg ds) (.agg us)

theorem key_is (hP : PG P tb) {key : D} {u : Value} (hk : keyB tb kT key = true) (r : RepD I h key u) : KeyIs P kT key u := by
  unfold keyB at hk
  split at hk
  · rename_i k n
    rw [RepD] at r; subst r
    split at hk
    · rename_i k' s1 s2 z fl hTy
      have := (hP.ty kT _ hTy).kind
      simp only [TKOK] at this
      rw [of_decide_eq_true hk]
      exact .int _ n this
    · cases hk
  · rename_i ds
    rw [RepD] at r
    obtain ⟨us, rfl, r⟩ := r
    split at hk
    · rename_i y hTy
      simp only [Bool.and_eq_true] at hk
      obtain ⟨kk, k1, k2, k3, k4⟩ := (hP.ty kT y hTy).eq hk.1
      exact .agg ds us kk k1 (fitC_rep k2 (fitK_fitC hk.2) r) k3 (fitC_flat (fitK_fitC hk.2) r)
    · cases hk
  · cases hk

theorem KeyIs.check {key : D} {u : Value} (hk : KeyIs P kT key u) (em : Bool) (w : World) : (Instr.checkKey em 10000 kT u).run P w = .ok () w := by
  cases hk with
  | int k n hu =>
    show (Instr.checkKey em (9999 + 1) kT _).run P w = _
    rw [Instr.checkKey]
    simp only [Sem.run_bind, run_underlying hu, Result.andThen_ok]
    rfl
  | agg ds us kk h1 h2 h3 h4 =>
    have := check_ok 10 kT kk h1 9990 em w us.toList h2
    simpa [packV, h3] using this

theorem KeyIs.stays {key : D} {u : Value} (hk : KeyIs P kT key u) (w : World) : (Instr.keyThatStays u u).run P w = .ok u w := by
  have : Instr.sameBits 10000 u u = true := by
    cases hk with
    | int k n hu => simp [Instr.sameBits]
    | agg ds us kk h1 h2 h3 h4 =>
      show Instr.sameBits (9999 + 1) (.agg us) (.agg us) = true
      simp only [Instr.sameBits, beq_self_eq_true, Bool.true_and]
      exact h4 9999
  simp [Instr.keyThatStays, this]

def scanE (key : D) : List (D × D) → List MapEntry → Nat → Option (Nat × Value)
  | p :: es, e :: ents, i => bif keyEq key p.1 then some (i, e.val) else scanE key es ents (i + 1)
  | _, _, _ => none

theorem keyEq_val {key key' : D} {u u' : Value} (he : keyEq key key' = true) (r : RepD I h key u) (r' : RepD I h key' u') : u = u' := by
  unfold keyEq at he
  split at he
  · simp only [Bool.and_eq_true, beq_iff_eq] at he
    rw [RepD] at r r'
    rw [r, r', of_decide_eq_true he.1, he.2]
  · split at he
    · rename_i q hq
      subst he
      rw [RepD] at r r'
      obtain ⟨x, rfl, r⟩ := r
      obtain ⟨y, rfl, r'⟩ := r'
      have := eqC_true hq r r'
      rw [show x = y from Array.ext' this]
    · cases he
  · cases he

theorem run_find (hP : PG P tb) {key : D} {u : Value} (hk : keyB tb kT key = true) (r : RepD I h key u) {es : List (D × D)} {ents : List MapEntry} (re : RepE I h es ents) (hes : ∀ p ∈ es, keyB tb kT p.1 = true) (w : World) :
    (Instr.findKey kT u ents).run P w = .ok (scanE key es ents 0) w := by
  have hki := key_is hP hk r
  have asking : aggT P kT = true → ∀ (es : List (D × D)) (ents : List MapEntry) (i : Nat), RepE I h es ents → (∀ p ∈ es, keyB tb kT p.1 = true) → (Instr.findAsking kT u ents i).run P w = .ok (scanE key es ents i) w := by
    intro hagg es
    induction es with
    | nil => intro ents i re _; rw [RepE] at re; subst re; simp [Instr.findAsking, scanE]
    | cons p es ih =>
      intro ents i re hes
      obtain ⟨pk, pv⟩ := p
      rw [RepE] at re
      obtain ⟨e, ents, rfl, r1, r2, re⟩ := re
      have hk2 := hes (pk, pv) (by simp)
      have heq : (Op.equal kT u e.key).run P w = .ok (keyEq key pk) w := by
        obtain ⟨u2, hu2⟩ : ∃ u2, u2 = e.key := ⟨_, rfl⟩
        rw [← hu2] at r1 ⊢
        have hki2 := key_is hP hk2 r1
        cases hki with
        | int k n hu => simp [aggT, hu] at hagg
        | agg ds us kk h1 h2 h3 h4 =>
          cases pk with
          | agg ds' =>
            rw [RepD] at r r1
            obtain ⟨x, hx, r⟩ := r
            cases hx
            obtain ⟨y, hy, r1⟩ := r1
            have hq : ∃ q, eqC ds ds' = some q := by
              simp only [keyB] at hk hk2
              cases hTy : tb kT with
              | none => rw [hTy] at hk; cases hk
              | some yT =>
                rw [hTy] at hk hk2
                simp only [Bool.and_eq_true] at hk hk2
                exact fitK_eqC hk.2 hk2.2
            obtain ⟨q, hq⟩ := hq
            have := eq_ok 10 kT kk h1 9990 w us.toList y.toList q h2 (eqC_rep hq r r1)
            rw [hy]
            simp only [keyEq, hq]
            simpa [Op.equal, Op.maxDepth, packV, h3] using this
          | v x => cases hki2 with | int k n hu => simp [aggT, hu] at hagg
          | seq _ => cases hki2
          | iptr _ => cases hki2
          | bptr _ _ => cases hki2
          | fn _ _ _ => cases hki2
          | tup _ => cases hki2
      rw [Instr.findAsking, scanE]
      simp only [Sem.run_bind, heq, Result.andThen_ok]
      cases keyEq key pk with
      | true => simp
      | false => simpa using ih ents (i + 1) re (fun p hp => hes p (by simp [hp]))
  cases hki with
  | agg ds us kk h1 h2 h3 h4 =>
    have hu : ∃ d, P.underlying kT = some d ∧ ∀ x e, Instr.sameNow d (.agg x) e = none := by
      unfold aggT at h3
      split at h3
      · rename_i d hd; exact ⟨_, hd, fun x e => by cases e <;> rfl⟩
      · rename_i n e hd; exact ⟨_, hd, fun x e => by cases e <;> rfl⟩
      · cases h3
    obtain ⟨d, hd, hs⟩ := hu
    simp only [Instr.findKey, Sem.run_bind, run_underlying hd, Result.andThen_ok]
    cases ents with
    | nil =>
      cases es with
      | nil => simp [Instr.findNow, scanE]
      | cons p es => rw [RepE] at re; obtain ⟨_, _, e, _⟩ := re; cases e
    | cons e ents =>
      simp only [Instr.findNow, hs]
      exact asking h3 es (e :: ents) 0 re hes
  | int k n hu =>
    have now : ∀ (es : List (D × D)) (ents : List MapEntry) (i : Nat), RepE I h es ents → (∀ p ∈ es, keyB tb kT p.1 = true) → Instr.findNow (.int k) (.int k n) ents i = some (scanE (.v (.int k n)) es ents i) := by
      intro es
      induction es with
      | nil => intro ents i re _; rw [RepE] at re; subst re; simp [Instr.findNow, scanE]
      | cons p es ih =>
        intro ents i re hes
        obtain ⟨pk, pv⟩ := p
        rw [RepE] at re
        obtain ⟨e, ents, rfl, r1, r2, re⟩ := re
        rw [Instr.findNow, scanE]
        obtain ⟨u2, hu2⟩ : ∃ u2, u2 = e.key := ⟨_, rfl⟩
        rw [← hu2] at r1 ⊢
        have hki2 := key_is hP (hes (pk, pv) (by simp)) r1
        cases pk with
        | v x =>
          cases hki2 with
          | int k' n' hu' =>
            rw [hu] at hu'
            cases hu'
            simp only [Instr.sameNow, if_true, keyEq, decide_true, Bool.true_and]
            cases hb : (n == n') with
            | true => simp
            | false => simpa using ih ents (i + 1) re (fun p hp => hes p (by simp [hp]))
        | agg ds' => cases hki2 with | agg _ us kk h1 h2 h3 h4 => simp [aggT, hu] at h3
        | seq _ => cases hki2
        | iptr _ => cases hki2
        | bptr _ _ => cases hki2
        | fn _ _ _ => cases hki2
        | tup _ => cases hki2
    simp [Instr.findKey, run_underlying hu, now es ents 0 re hes]

theorem scan_none {key : D} : ∀ {es : List (D × D)} {ents : List MapEntry} {i : Nat}, RepE I h es ents → scanE key es ents i = none → mapGet es key = none ∧ ∀ v, mapSet es key v = es ++ [(key, v)]
  | [], _, _, _, _ => ⟨rfl, fun _ => rfl⟩
  | p :: es, ents, i, re, hs => by
    obtain ⟨pk, pv⟩ := p
    rw [RepE] at re
    obtain ⟨e, ents, rfl, _, _, re⟩ := re
    rw [scanE] at hs
    cases hb : keyEq key pk with
    | true => rw [hb] at hs; cases hs
    | false =>
      rw [hb] at hs
      obtain ⟨h1, h2⟩ := scan_none re hs
      exact ⟨by rw [mapGet, hb]; exact h1, fun v => by rw [mapSet, hb, cond_false, h2 v]; rfl⟩

theorem scan_some {key : D} : ∀ {es : List (D × D)} {ents : List MapEntry} {i j : Nat} {x : Value}, RepE I h es ents → scanE key es ents i = some (j, x) →
    i ≤ j ∧ ∃ p e, es[j - i]? = some p ∧ ents[j - i]? = some e ∧ e.val = x ∧ keyEq key p.1 = true ∧ mapGet es key = some p.2 ∧ ∀ v, mapSet es key v = es.set (j - i) (key, v)
  | [], ents, i, j, x, re, hs => by cases ents <;> simp [scanE] at hs
  | p :: es, ents, i, j, x, re, hs => by
    obtain ⟨pk, pv⟩ := p
    rw [RepE] at re
    obtain ⟨e, ents, rfl, _, _, re⟩ := re
    rw [scanE] at hs
    cases hb : keyEq key pk with
    | true =>
      rw [hb] at hs
      simp only [cond_true, Option.some.injEq, Prod.mk.injEq] at hs
      obtain ⟨rfl, rfl⟩ := hs
      exact ⟨Nat.le_refl _, (pk, pv), e, by simp, by simp, rfl, hb, by rw [mapGet, hb]; rfl, fun v => by rw [mapSet, hb]; simp⟩
    | false =>
      rw [hb] at hs
      obtain ⟨h1, p, e', h2, h3, h4, h5, h6, h7⟩ := scan_some re hs
      have ej : j - i = (j - (i + 1)) + 1 := by omega
      refine ⟨by omega, p, e', by rw [ej]; simpa using h2, by rw [ej]; simpa using h3, h4, h5, by rw [mapGet, hb]; exact h6, fun v => ?_⟩
      rw [mapSet, hb, cond_false, h7 v, ej]
      rfl

theorem RepE.snoc {key v : D} {e : MapEntry} (r1 : RepD I h key e.key) (r2 : RepD I h v e.val) : ∀ {es : List (D × D)} {ents : List MapEntry}, RepE I h es ents → RepE I h (es ++ [(key, v)]) (ents ++ [e])
  | [], _, re => by rw [RepE] at re; subst re; exact ⟨e, [], rfl, r1, r2, rfl⟩
  | (k, x) :: es, _, re => by
    rw [RepE] at re
    obtain ⟨e', s, rfl, q1, q2, re⟩ := re
    exact ⟨e', s ++ [e], rfl, q1, q2, RepE.snoc r1 r2 re⟩
theorem RepE.setAt {key v : D} {e : MapEntry} (r1 : RepD I h key e.key) (r2 : RepD I h v e.val) : ∀ {es : List (D × D)} {ents : List MapEntry} (j : Nat), RepE I h es ents → RepE I h (es.set j (key, v)) (ents.set j e)
  | [], _, j, re => by rw [RepE] at re; subst re; simp [RepE]
  | (k, x) :: es, _, j, re => by
    rw [RepE] at re
    obtain ⟨e', s, rfl, q1, q2, re⟩ := re
    cases j with
    | zero => exact ⟨e, s, rfl, r1, r2, re⟩
    | succ j => exact ⟨e', s.set j e, rfl, q1, q2, RepE.setAt r1 r2 j re⟩
theorem RepE.at : ∀ {es : List (D × D)} {ents : List MapEntry} {j : Nat} {p : D × D} {e : MapEntry}, RepE I h es ents → es[j]? = some p → ents[j]? = some e → RepD I h p.1 e.key ∧ RepD I h p.2 e.val
  | [], _, j, p, e, _, hp, _ => by simp at hp
  | (k, x) :: es, _, j, p, e, re, hp, he => by
    rw [RepE] at re
    obtain ⟨e', s, rfl, q1, q2, re⟩ := re
    cases j with
    | zero => simp at hp he; subst hp; subst he; exact ⟨q1, q2⟩
    | succ j => exact RepE.at re (by simpa using hp) (by simpa using he)
end
end Go.Ev

set_option linter.unusedVariables false
set_option linter.unusedSectionVars false
set_option linter.unusedSimpArgs false
namespace Go.Ev
open RowKit

section
variable {tb : TB} {X : Ctx} {P : Program} {Wn : Nat} {Y : Nat → List D → Bool → Prop} {F : Fence} {n : Nat} {g : Nat → A} {o : Nat → Option Ob} {a : Act} {w : World} {G : Nat → Option GR} {I : Nat → Prop} {oper : Oper} {K : Eff → Prop} {nid : Nat}

theorem getM {b : Nat} {ents : Array MapEntry} {clock : Nat} (h : w.heap[b]? = some (.map ents clock)) : (getObj b).run P w = .ok (.map ents clock) w := by simp [getObj, Sem.run, h]
theorem setM {b : Nat} {ents : Array MapEntry} {clock : Nat} (h : w.heap[b]? = some (.map ents clock)) (ob : Obj) : (setObj b ob).run P w = .ok () { w with heap := w.heap.setIfInBounds b ob } := by simp [setObj, Sem.run, h]

theorem zeroD_rep {t : TypeId} {y : Ty} (hT : TyOK P t y) : ∃ z, (zeroValue t).run P w = .ok z w ∧ RepD I w.heap (zeroD y) z := by
  obtain ⟨i, z, h1, h2, h3, h4, h5⟩ := hT.info
  obtain ⟨q1, q2⟩ := hT.zagg i z h1 h4
  refine ⟨z, run_zero h1 h4, ?_⟩
  unfold zeroD
  cases ha : y.k.agg with
  | true =>
    obtain ⟨cs, rfl⟩ := q1 ha
    rw [cond_true, RepD]
    refine ⟨cs, rfl, ?_⟩
    have h5 : cs.toList = y.zero := h5
    rw [← h5]
    generalize cs.toList = l
    induction l with
    | nil => exact RepL.nil
    | cons v l ih => exact RepL.cons (by rw [RepD]) ih
  | false =>
    have hne := q2 ha
    have : z.cells = #[z] := by
      cases z <;> first | rfl | exact absurd rfl (hne _)
    rw [this] at h5
    have h5 : [z] = y.zero := by simpa using h5
    rw [cond_false, ← h5]
    rw [RepD]

variable (hP : PG P tb) (hF : Wide F) (m : Mod tb X g o a w G I) (hdst : ∀ d, oper.dst = some d → d < X.nt)
include hP hF m hdst

theorem snd_makeMap {T : TypeId} {r : Option Operand} (hop : oper.op = .makeMap T r) (hn : o nid = none) (hnb : X.nb ≤ nid) (h : effOp tb (Con P tb Wn Y) (.makeMap T r) oper.dst g o nid K) : ∃ e, K e ∧ Does tb X P F n g o a w oper e := by
  have hd : ∀ c, oper.op ≠ .defer c := by simp [hop]
  simp only [effOp] at h
  split at h
  · rename_i k e s1 s2 z fl hTy
    unfold effNew at h
    cases hd' : oper.dst with
    | none => simp [hd'] at h
    | some d =>
      simp only [hd'] at h
      have hrun : (execOp a.eval oper).run P w = .ok (.value (.map (some w.heap.size))) { w with heap := w.heap.push (.map #[] 0) } := by
        simp [execOp, hop, Instr.makeMap, newObj, Sem.run]
      refine ⟨_, h, fun next Q hK => wpIn_value hF hd hrun ?_⟩
      have m2 := m.mk' hn hnb (gr := ⟨.map (some w.heap.size), some w.heap.size⟩) (ob := .map k e []) (below_push w (.map #[] 0))
        (fun b hb => by cases hb; exact ⟨Nat.le_refl _, by simp⟩)
        ⟨w.heap.size, #[], 0, updG_self, by simp, rfl, (fun p hp => nomatch hp), rfl, fun i e he => by simp at he⟩
      have m3 := m2.put (d := d) (x := .own nid) (v := .map (some w.heap.size)) (hdst d hd') (by rw [RepA]; exact ⟨⟨_, updG_self, rfl⟩, rfl⟩)
      rw [hd']
      refine hK _ _ (updG G nid ⟨.map (some w.heap.size), some w.heap.size⟩) I ?_
      rw [appO_one rfl rfl rfl]
      exact m3
  · exact h.elim

theorem snd_lookup {T : TypeId} {x ix : Operand} {ok : Bool} (hop : oper.op = .lookup T x ix ok) (h : effOp tb (Con P tb Wn Y) (.lookup T x ix ok) oper.dst g o nid K) : ∃ e, K e ∧ Does tb X P F n g o a w oper e := by
  have hd : ∀ c, oper.op ≠ .defer c := by simp [hop]
  have rx := m.eval x
  have rix := m.eval ix
  simp only [effOp] at h
  split at h
  · rename_i k e s1 s2 z fl i key hTy hx hix
    split at h
    · rename_i k' e' es y ho hy
      cases hb : (Nat.beq k k' && Nat.beq e e' && keyB tb k key) with
      | false => rw [hb] at h; exact h.elim
      | true =>
        rw [hb, cond_true] at h
        simp only [Bool.and_eq_true] at hb
        obtain ⟨⟨hk1, hk2⟩, hkey⟩ := hb
        have hk1 := Nat.eq_of_beq_eq_true hk1
        have hk2 := Nat.eq_of_beq_eq_true hk2
        subst hk1; subst hk2
        have hk := (hP.ty T _ hTy).kind
        simp only [TKOK] at hk
        obtain ⟨b, ents, clock, r1, r2, r3, r4, _⟩ := m.objs i _ ho
        rw [hx, RepA] at rx
        obtain ⟨⟨gr, hg, hu⟩, _⟩ := rx
        rw [hg] at r1; cases r1
        rw [hix, RepA] at rix
        have hki := key_is hP hkey rix
        have hfind := run_find hP hkey rix r3 r4 w
        obtain ⟨r, hr, h⟩ := h
        obtain ⟨z0, hz1, hz2⟩ := zeroD_rep (I := I) (w := w) (hP.ty e y hy)
        have hget : (getObj b).run P w = .ok (.map ents clock) w := getM r2
        have hchk := hki.check ents.isEmpty w
        cases hs : scanE key es ents.toList 0 with
        | none =>
          rw [hs] at hfind
          rw [(scan_none r3 hs).1] at hr
          subst hr
          simp only at h
          have hrun : (execOp a.eval oper).run P w = .ok (.value (if ok then .tuple #[z0, .bool false] else z0)) w := by
            simp [execOp, hop, Instr.lookup, run_und hk, hu, hget, hchk, hfind, hz1]
          cases ok with
          | true =>
            refine fin_put hF hd hrun m ?_ hdst h
            rw [RepA]
            exact ⟨#[z0, .bool false], rfl, RepAL.cons (by rw [RepA]; exact hz2) (RepAL.cons (by unfold boolRes; rw [RepA, RepD]) RepAL.nil)⟩
          | false =>
            refine fin_put hF hd hrun m ?_ hdst h
            rw [RepA]; exact hz2
        | some jx =>
          obtain ⟨j, v⟩ := jx
          rw [hs] at hfind
          obtain ⟨_, p, e0, p1, p2, p3, p4, p5, _⟩ := scan_some r3 hs
          rw [p5] at hr
          subst hr
          simp only at h
          have hrv : RepD I w.heap p.2 v := by rw [← p3]; exact (RepE.at r3 p1 p2).2
          have hrun : (execOp a.eval oper).run P w = .ok (.value (if ok then .tuple #[v, .bool true] else v)) w := by
            simp [execOp, hop, Instr.lookup, run_und hk, hu, hget, hchk, hfind]
          cases ok with
          | true =>
            refine fin_put hF hd hrun m ?_ hdst h
            rw [RepA]
            exact ⟨#[v, .bool true], rfl, RepAL.cons (by rw [RepA]; exact hrv) (RepAL.cons (by unfold boolRes; rw [RepA, RepD]) RepAL.nil)⟩
          | false =>
            refine fin_put hF hd hrun m ?_ hdst h
            rw [RepA]; exact hrv
    · exact h.elim
  · exact h.elim

theorem snd_mapUpdate {T : TypeId} {x ix vx : Operand} (hop : oper.op = .mapUpdate T x ix vx) (h : effOp tb (Con P tb Wn Y) (.mapUpdate T x ix vx) oper.dst g o nid K) : ∃ e, K e ∧ Does tb X P F n g o a w oper e := by
  have hd : ∀ c, oper.op ≠ .defer c := by simp [hop]
  have rx := m.eval x
  have rix := m.eval ix
  have rv := m.eval vx
  simp only [effOp] at h
  split at h
  · rename_i k e s1 s2 z fl i key v hTy hx hix hv
    split at h
    · rename_i k' e' es ho
      cases hb : (Nat.beq k k' && Nat.beq e e' && keyB tb k key) with
      | false => rw [hb] at h; exact h.elim
      | true =>
        rw [hb, cond_true] at h
        simp only [Bool.and_eq_true] at hb
        obtain ⟨⟨hk1, hk2⟩, hkey⟩ := hb
        have hk1 := Nat.eq_of_beq_eq_true hk1
        have hk2 := Nat.eq_of_beq_eq_true hk2
        subst hk1; subst hk2
        have hk := (hP.ty T _ hTy).kind
        simp only [TKOK] at hk
        obtain ⟨b, ents, clock, r1, r2, r3, r4, r5, r6⟩ := m.objs i _ ho
        rw [hx, RepA] at rx
        obtain ⟨⟨gr, hg, hu⟩, _⟩ := rx
        rw [hg] at r1; cases r1
        rw [hix, RepA] at rix
        rw [hv, RepA] at rv
        have hki := key_is hP hkey rix
        have hfind := run_find hP hkey rix r3 r4 w
        obtain ⟨es', hes, h⟩ := h
        have hget : (getObj b).run P w = .ok (.map ents clock) w := getM r2
        have hchk := hki.check false w
        have hlt : b < w.heap.size := (Array.getElem?_eq_some_iff.1 r2).1
        have hnI : ¬ I b := (m.own i _ _ b ho rfl hg rfl).1
        -- the new entries
        have key1 : ∃ ents' clock', (execOp a.eval oper).run P w = .ok .skip { w with heap := w.heap.setIfInBounds b (.map ents' clock') } ∧ RepE I w.heap es' ents'.toList ∧ (∀ p ∈ es', keyB tb k p.1 = true) ∧ BornOK ents' clock' := by
          cases hs : scanE key es ents.toList 0 with
          | none =>
            rw [hs] at hfind
            rw [(scan_none r3 hs).2 v] at hes
            subst hes
            refine ⟨ents.push { key := a.eval ix, val := a.eval vx, born := clock }, clock + 1, ?_, ?_, ?_, ?_⟩
            · simp [execOp, hop, Instr.mapUpdate, run_und hk, hu, hget, hchk, hfind, setM r2]
            · rw [Array.toList_push]; exact RepE.snoc (e := { key := a.eval ix, val := a.eval vx, born := clock }) rix rv r3
            · intro p hp
              rcases List.mem_append.1 hp with hp | hp
              · exact r4 p hp
              · rw [List.mem_singleton.1 hp]; exact hkey
            · refine ⟨by rw [r5]; simp, fun i e he => ?_⟩
              rw [Array.getElem?_push] at he
              split at he
              · cases he; rename_i hi; rw [hi]; exact r5
              · exact r6 i e he
          | some jx =>
            obtain ⟨j, xv⟩ := jx
            rw [hs] at hfind
            obtain ⟨_, p, e0, p1, p2, p3, p4, p5, p6⟩ := scan_some r3 hs
            simp only [Nat.sub_zero] at p1 p2 p6
            rw [p6 v] at hes
            subst hes
            have hkv : a.eval ix = e0.key := keyEq_val p4 rix (RepE.at r3 p1 p2).1
            have hst : (Instr.keyThatStays e0.key (a.eval ix)).run P w = .ok (a.eval ix) w := by rw [← hkv]; exact hki.stays w
            have p2' : ents[j]? = some e0 := by rw [← Array.getElem?_toList]; exact p2
            refine ⟨ents.modify j fun e => { e with key := a.eval ix, val := a.eval vx }, clock, ?_, ?_, ?_, ?_⟩
            · simp [execOp, hop, Instr.mapUpdate, run_und hk, hu, hget, hchk, hfind, setM r2, p2', hst]
            · have hj : j < ents.size := (Array.getElem?_eq_some_iff.1 p2').1
              have e1 : (ents.modify j fun e => { e with key := a.eval ix, val := a.eval vx }).toList = ents.toList.set j { e0 with key := a.eval ix, val := a.eval vx } := by
                apply List.ext_getElem?
                intro q
                rw [Array.getElem?_toList, Array.getElem?_modify, List.getElem?_set]
                by_cases hq : j = q
                · subst hq
                  have e2 : ents[j] = e0 := (Array.getElem?_eq_some_iff.1 p2').2
                  simp [hj, e2]
                · simp [hq]
              rw [e1]
              exact RepE.setAt (e := { e0 with key := a.eval ix, val := a.eval vx }) rix rv j r3
            · intro p' hp'
              rcases List.mem_or_eq_of_mem_set hp' with h' | h'
              · exact r4 p' h'
              · rw [h']; exact hkey
            · refine ⟨by rw [r5]; simp, fun i e he => ?_⟩
              rw [Array.getElem?_modify] at he
              split at he
              · obtain ⟨e', he', rfl⟩ := Option.map_eq_some_iff.1 he
                exact r6 i e' he'
              · exact r6 i e he
        obtain ⟨ents', clock', hrun, q1, q2, q3⟩ := key1
        have hh : ∀ q, q ≠ b → ({ w with heap := w.heap.setIfInBounds b (.map ents' clock') } : World).heap[q]? = w.heap[q]? := fun q hq => by
          simp [Array.getElem?_setIfInBounds_ne (Ne.symm hq)]
        have m2 := m.set' ho rfl hg rfl (ob := .map k e es') (w' := { w with heap := w.heap.setIfInBounds b (.map ents' clock') }) (by simp) hh rfl rfl rfl
          ⟨b, ents', clock', hg, by simp [hlt], RepE.mono (fun _ h => h) (fun q hq => hh q (fun e => hnI (e ▸ hq))) q1, q2, q3⟩ (fun _ _ e => nomatch e)
        have m3 := m2.slotE hdst (x := .d (.v undef)) (v := undef) (by rw [RepA, RepD])
        unfold effSet at h
        cases hd' : oper.dst with
        | some d =>
          simp only [hd'] at h
          rw [hd'] at m3
          refine ⟨_, h, fun next Q hK => wpIn_unit hF hd hrun (hK _ _ G I ?_)⟩
          rw [appO_one rfl rfl rfl, hd']
          exact m3
        | none =>
          simp only [hd'] at h
          rw [hd'] at m3
          refine ⟨_, h, fun next Q hK => wpIn_unit hF hd hrun (hK _ _ G I ?_)⟩
          rw [appO_one rfl rfl rfl, hd']
          exact m3
    · exact h.elim
  · exact h.elim
end
end Go.Ev

set_option linter.unusedVariables false
set_option linter.unusedSectionVars false
set_option linter.unusedSimpArgs false
namespace Go.Ev
open RowKit

section
variable {tb : TB} {X : Ctx} {P : Program} {Wn : Nat} {Y : Nat → List D → Bool → Prop} {F : Fence} {n : Nat} {g : Nat → A} {o : Nat → Option Ob} {a : Act} {w : World} {G : Nat → Option GR} {I : Nat → Prop} {oper : Oper} {K : Eff → Prop} {nid : Nat}

/-- A round of the caller's, as the model goes on. -/
theorem Mod.afterYield (m : Mod tb X g o a w G I) {k : Nat} (h0 : o 0 = some (.env k)) {F1 : Nat → Prop} {ds : List Nat} {Ft : Nat → Prop}
    (e1 : a.defers = ds.map markD) (e2 : ds.Nodup) (e3 : ∀ r ∈ ds, w.heap[r]? = some (.deferred (some [])) ∧ ¬ I r ∧ X.w0.heap.size ≤ r ∧ ¬ F1 r) (e4 : ∀ b, Ft b ↔ F1 b ∨ b ∈ ds)
    (f2 : ∀ b, Ft b → b < w.heap.size ∧ (X.lent b ∨ X.w0.heap.size ≤ b)) (f3 : ∀ j oj gj b, o j = some oj → oj.live = true → G j = some gj → gj.blk = some b → ¬ Ft b) (f4 : ∀ i k', o i = some (.env k') → i = 0 ∧ k' = k ∧ G 0 = some ⟨X.E.v, none⟩)
    {F1' I' : Nat → Prop} {w' : World} (hE : X.E.P (k + 1) F1' I' w') (t : Turned F1 I w F1' I' w') : Mod tb X g (updO o 0 (.env (k + 1))) a w' G I' := by
  have hF1 : ∀ b, F1 b → Ft b := fun b h => (e4 b).2 (.inl h)
  have hI : ∀ b, I b → w'.heap[b]? = w.heap[b]? := fun b hb => t.keep b (m.isz b hb) (.inl hb)
  have hl : ∀ j oj gj b, o j = some oj → oj.live = true → G j = some gj → gj.blk = some b → w'.heap[b]? = w.heap[b]? := fun j oj gj b h1 h2 h3 h4 =>
    t.keep b (m.own j oj gj b h1 h2 h3 h4).2.1 (.inr fun h => f3 j oj gj b h1 h2 h3 h4 (hF1 b h))
  have ho : ∀ j oj, updO o 0 (.env (k + 1)) j = some oj → oj.live = true → o j = some oj := by
    intro j oj hj hlv
    by_cases e : 0 = j
    · subst e; rw [updO_self] at hj; cases hj; simp [Ob.live] at hlv
    · rwa [updO_ne e] at hj
  refine { m with tsize := m.tsize, slots := fun q => RepA.mono (fun _ _ h => h) t.up hI _ _ (m.slots q), objs := ?_, dom := ?_, sep := ?_, own := ?_, isz := t.isz, i0 := fun b hb => t.up b (m.i0 b hb), inew := ?_, frame := ?_, os := t.os.trans m.os, tape := t.tape.trans m.tape, output := t.output.trans m.output, wsz := Nat.le_trans m.wsz t.size, barr := ?_, env := ?_ }
  · intro j oj hj
    by_cases e : 0 = j
    · subst e; rw [updO_self] at hj; cases hj; trivial
    · rw [updO_ne e] at hj
      exact ObOK.mono (fun _ _ h => h) t.up hI (fun h2 gr b h3 h4 => hl j oj gr b hj h2 h3 h4) (m.objs j oj hj)
  · intro j gr hj
    by_cases e : 0 = j
    · subst e; rw [updO_self]; rfl
    · rw [updO_ne e]; exact m.dom j gr hj
  · intro i j oi oj gi gj b h1 h2 h3 h4
    exact m.sep i j oi oj gi gj b (ho i oi h1 h3) (ho j oj h2 h4) h3 h4
  · intro j oj gj b h1 h2 h3 h4
    obtain ⟨p1, p2, p3⟩ := m.own j oj gj b (ho j oj h1 h2) h2 h3 h4
    refine ⟨fun h => ?_, by have := t.size; omega, p3⟩
    rcases t.inew b h with h | h | h
    · exact p1 h
    · exact f3 j oj gj b (ho j oj h1 h2) h2 h3 h4 (hF1 b h)
    · omega
  · intro b hb
    rcases t.inew b hb with h | h | h
    · exact m.inew b h
    · rcases (f2 b (hF1 b h)).2 with h | h
      · exact .inr (.inl h)
      · exact .inr (.inr (.inr h))
    · exact .inr (.inr (.inr (Nat.le_trans m.wsz h)))
  · intro b hb h1
    rw [t.keep b (Nat.lt_of_lt_of_le hb m.wsz) ?_]
    · exact m.frame b hb h1
    · rcases h1 with h1 | ⟨h1, _⟩
      · exact .inl (m.i0 b h1)
      · right
        intro h
        rcases (f2 b (hF1 b h)).2 with h | h
        · exact h1 h
        · omega
  · intro j T es hj hb
    by_cases e : 0 = j
    · subst e; rw [updO_self]; simp
    · rw [updO_ne e]; exact m.barr j T es hj hb
  · refine ⟨k + 1, fun b => F1' b ∨ b ∈ ds, ⟨ds, F1', e1, e2, fun r hr => ?_, fun b => Iff.rfl, hE⟩, fun b hb => ?_, fun j oj gj b h1 h2 h3 h4 hf => ?_, fun j k' hj => ?_⟩
    · obtain ⟨p1, p2, p3, p4⟩ := e3 r hr
      have hr' : r < w.heap.size := (Array.getElem?_eq_some_iff.1 p1).1
      refine ⟨by rw [t.keep r hr' (.inr p4)]; exact p1, fun h => ?_, p3, fun h => ?_⟩
      · rcases t.inew r h with h | h | h
        · exact p2 h
        · exact p4 h
        · omega
      · rcases (t.fnew r h).1 with h | h
        · exact p4 h
        · omega
    · rcases hb with hb | hb
      · obtain ⟨p1, p2⟩ := t.fnew b hb
        refine ⟨p2, ?_⟩
        rcases p1 with p1 | p1
        · exact (f2 b (hF1 b p1)).2
        · exact .inr (Nat.le_trans m.wsz p1)
      · obtain ⟨p1, p2⟩ := f2 b ((e4 b).2 (.inr hb))
        exact ⟨Nat.lt_of_lt_of_le p1 t.size, p2⟩
    · have h1' := ho j oj h1 h2
      rcases hf with hf | hf
      · rcases (t.fnew b hf).1 with h | h
        · exact f3 j oj gj b h1' h2 h3 h4 (hF1 b h)
        · have := (m.own j oj gj b h1' h2 h3 h4).2.1; omega
      · exact f3 j oj gj b h1' h2 h3 h4 ((e4 b).2 (.inr hf))
    · by_cases e : 0 = j
      · subst e; rw [updO_self] at hj; cases hj; exact ⟨rfl, rfl, (f4 0 k h0).2.2⟩
      · rw [updO_ne e] at hj
        exact absurd (f4 j k' hj).1.symm e

variable (hP : PG P tb) (hF : Wide F) (hE : EnvOK P X.E Y) (m : Mod tb X g o a w G I) (hdst : ∀ d, oper.dst = some d → d < X.nt)
include hP hF hE m hdst

theorem snd_yield {c : Call} {f : Operand} (hop : oper.op = .call c) (hc : c.callee = .value f) {i k : Nat} (hf : opA g f = .own i) (hi : o i = some (.env k)) {as : List A} {frz : List (Nat × D)} (hh : handL true o (c.args.toList.map (opA g)) = (as, frz))
    {ds : List D} (hds : toDs as = some ds) {b : Bool} (hy : Y k ds b) (h : match oper.dst with
      | some d => K ⟨some (d, boolRes b), (i, .env (k + 1)) :: frz.map fun p => (p.1, .dead), i :: frz.map (·.1), 0, frz, []⟩
      | none => K ⟨none, (i, .env (k + 1)) :: frz.map fun p => (p.1, .dead), i :: frz.map (·.1), 0, frz, []⟩) : ∃ e, K e ∧ Does tb X P F n g o a w oper e := by
  have hd : ∀ c, oper.op ≠ .defer c := by simp [hop]
  obtain ⟨_, _, _, _, _, f40⟩ := m.env
  obtain ⟨rfl, _, hG0⟩ := f40 i k hi
  have hz : ZOK o frz := by have := handL_zok (cv := true) (o := o) (c.args.toList.map (opA g)); rwa [hh] at this
  have m1 := m.freeze hz.frz
  have h0 : frzObs o frz 0 = some (.env k) := by
    unfold frzObs
    cases e : lookD frz 0 with
    | some d => obtain ⟨T, es, h1, _⟩ := hz.frz _ _ e; rw [hi] at h1; cases h1
    | none => simp [hi, frzO]
  have hargs : RepAL G I w.heap (c.args.toList.map (opA g)) (c.args.toList.map a.eval) := by
    generalize c.args.toList = l
    induction l with
    | nil => exact RepAL.nil
    | cons z l ih => exact RepAL.cons (m.eval z) ih
  have hrep := handL_rep (cv := true) hz m.objs (by rw [hh]; exact fun p hp => hp) hargs
  rw [hh] at hrep
  simp only at hrep
  rw [toDs_eq hds] at hrep
  have hrep := RepAL.of_d.1 hrep
  obtain ⟨kE, Ft, ⟨dl, F1, e1, e2, e3, e4, e5⟩, f2, f3, f4⟩ := m1.env
  obtain ⟨_, rfl, hG⟩ := f4 0 k h0
  have hF1z : ∀ q, F1 q → q < w.heap.size := fun q hq => (f2 q ((e4 q).2 (.inl hq))).1
  obtain ⟨l, fn, tmps, assign, body, hv, hyr, hround⟩ := hE F (n - 1) hF k F1 _ w ds _ b e5 m1.isz hF1z hy hrep
  have rf := m.eval f
  rw [hf, RepA] at rf
  obtain ⟨⟨gr, hg, hu⟩, _⟩ := rf
  rw [hG0] at hg; cases hg
  have hu : a.eval f = .func (.yield l) #[] #[] := by rw [hu]; exact hv
  have hrun : (execOp a.eval oper).run P w = .ok (.round l fn tmps assign body) w := by
    have ea : (c.args.toList.map a.eval).toArray = c.args.map a.eval := by apply Array.ext'; simp
    rw [ea] at hyr
    simp [execOp, hop, resolve, hc, hu, Deferred.ofValue, invoke, hyr]
  have fin : ∀ (slot : Option (Nat × A)) (next : Act → World → Prop) (Q : Exit → Act → World → Prop), (∀ a' w' I', Mod tb X (slotG oper.dst (boolRes b) fun t => frzA frz (g t)) (updO (frzObs o frz) 0 (.env (k + 1))) a' w' G I' → next a' w') → oper.wpIn F n P a w next Q := by
    intro slot next Q hN
    refine ⟨fun _ _ => hF.fn _, ?_⟩
    rw [Oper.semAt_eq _ _ _ hd, hrun, Oper.uponIn_round]
    refine ⟨fun h => by rw [hF.depth] at h; (cases h), hround.mono fun e w' he => ?_⟩
    obtain ⟨rfl, Ft', I', hE', t⟩ := he
    have m2 := m1.afterYield h0 e1 e2 e3 e4 f2 f3 f4 hE' t
    have m3 := m2.slotE hdst (x := boolRes b) (v := .bool b) (by unfold boolRes; rw [RepA, RepD])
    exact hN _ _ I' m3
  have eo : ∀ slot rd, appO ⟨slot, (0, Ob.env (k + 1)) :: frz.map fun p => (p.1, .dead), rd, 0, frz, []⟩ o = updO (frzObs o frz) 0 (.env (k + 1)) := by
    intro slot rd
    funext j
    have := congrFun (appO_call (o := o) (slot := slot) (z := frz)) j
    simp only [appO, lookO, updO] at this ⊢
    cases Nat.beq 0 j with
    | true => rfl
    | false => simp only [cond_false]; rw [← this]; rfl
  cases hd' : oper.dst with
  | some d =>
    rw [hd'] at h fin
    refine ⟨_, h, fun next Q hN => fin none next Q fun a' w' I' m' => hN a' w' G I' ?_⟩
    rw [eo]
    have eg : appG ⟨some (d, boolRes b), (0, Ob.env (k + 1)) :: frz.map fun p => (p.1, .dead), 0 :: frz.map (·.1), 0, frz, []⟩ g = slotG (some d) (boolRes b) fun t => frzA frz (g t) := by
      funext t
      simp only [appG, trA_call, slotG]
    rw [eg]; exact m'
  | none =>
    rw [hd'] at h fin
    refine ⟨_, h, fun next Q hN => fin none next Q fun a' w' I' m' => hN a' w' G I' ?_⟩
    rw [eo]
    have eg : appG ⟨none, (0, Ob.env (k + 1)) :: frz.map fun p => (p.1, .dead), 0 :: frz.map (·.1), 0, frz, []⟩ g = slotG none (boolRes b) fun t => frzA frz (g t) := by
      funext t
      simp only [appG, trA_call, slotG]
    rw [eg]; exact m'
end
end Go.Ev

set_option linter.unusedVariables false
set_option linter.unusedSectionVars false
namespace Go.Ev
open RowKit

/-- Does an operation bear an effect in this evaluator? -/
theorem eff_sound {tb : TB} {X : Ctx} {P : Program} {Wn : Nat} {Y : Nat → List D → Bool → Prop} {F : Fence} {n : Nat} {g : Nat → A} {o : Nat → Option Ob} {a : Act} {w : World} {G : Nat → Option GR} {I : Nat → Prop} {oper : Oper} {K : Eff → Prop} {nid : Nat}
    (hP : PG P tb) (hF : Wide F) (hE : EnvOK P X.E Y) (m : Mod tb X g o a w G I) (hdst : ∀ d, oper.dst = some d → d < X.nt) (hn : o nid = none) (hw : ∀ k, k < Wn → o (nid + k) = none) (hnb : X.nb ≤ nid) (h : effOp tb (Con P tb Wn Y) oper.op oper.dst g o nid K) :
    ∃ e, K e ∧ Does tb X P F n g o a w oper e := by
  cases hop : oper.op with
  | move x => rw [hop] at h; exact snd_move hP hF m hdst (.inl hop) h
  | assign x => rw [hop] at h; exact snd_move hP hF m hdst (.inr hop) h
  | pick c x y => rw [hop] at h; exact snd_pick hP hF m hdst hop h
  | alloc T => rw [hop] at h; exact snd_alloc hP hF m hdst hop hn hnb h
  | box T x => rw [hop] at h; exact snd_box hP hF m hdst hop hn hnb h
  | build T ps => rw [hop] at h; exact snd_build hP hF m hdst hop h
  | buildSlice T len ps => rw [hop] at h; exact snd_buildSlice hP hF m hdst hop hn hnb h
  | load T x => rw [hop] at h; exact snd_load hP hF m hdst hop h
  | store T x v => rw [hop] at h; exact snd_store hP hF m hdst hop h
  | nilCheck x => rw [hop] at h; exact snd_nilCheck hP hF m hdst hop h
  | binOp op T x y T' => rw [hop] at h; exact snd_binOp hP hF m hdst hop h
  | unOp op T x => rw [hop] at h; exact snd_unOp hP hF m hdst hop h
  | convert s d x => rw [hop] at h; exact snd_convert hP hF m hdst hop h
  | fieldAddr T x f => rw [hop] at h; exact snd_fieldAddr hP hF m hdst hop h
  | indexAddr T x ix => rw [hop] at h; exact snd_indexAddr hP hF m hdst hop h
  | extract t i => rw [hop] at h; exact snd_extract hP hF m hdst hop h
  | field T x i => rw [hop] at h; exact snd_field hP hF m hdst hop h
  | index T x i => rw [hop] at h; exact snd_index hP hF m hdst hop h
  | makeFunc fn first caps => rw [hop] at h; exact snd_makeFunc hP hF m hdst hop h
  | slice T x lo hi mx => rw [hop] at h; exact snd_slice hP hF m hdst hop h
  | makeMap T r => rw [hop] at h; exact snd_makeMap hP hF m hdst hop hn hnb h
  | makeSlice T l c => rw [hop] at h; exact snd_makeSlice hP hF m hdst hop hn hnb h
  | lookup T x ix ok => rw [hop] at h; exact snd_lookup hP hF m hdst hop h
  | mapUpdate T x ix v => rw [hop] at h; exact snd_mapUpdate hP hF m hdst hop h
  | call c =>
    cases hc : c.callee with
    | value f =>
      rw [hop] at h
      cases hq : getFn (opA g f) with
      | some q => exact snd_call hP hF m hdst hop hc (by rw [hq]; rfl) hnb hw h
      | none =>
        simp only [effOp, hc, hq] at h
        split at h
        · rename_i i hf
          split at h
          · rename_i k hi
            split at h
            · rename_i ds hds
              obtain ⟨b, hy, h⟩ := h
              exact snd_yield hP hF hE m hdst hop hc hf hi rfl hds hy h
            · exact h.elim
          · exact h.elim
        · exact h.elim
    | builtin b =>
      cases b with
      | len => rw [hop] at h; exact snd_len hP hF m hdst hop hc h
      | append => rw [hop] at h; exact snd_append hP hF m hdst hop hc hn hnb h
      | max => rw [hop] at h; exact snd_max hP hF m hdst hop hc h
      | min => rw [hop] at h; exact snd_min hP hF m hdst hop hc h
      | _ => rw [hop] at h; simp only [effOp, hc] at h
    | invoke r nm => rw [hop] at h; simp only [effOp, hc] at h
  | _ => rw [hop] at h; simp only [effOp] at h

section
variable {K : Eff → Prop}
theorem ex_put {dst : Option Tmp} {x : A} {rd : List Nat} (h : effPut dst x rd K) : ∃ e, K e ∧ effPut dst x rd (fun e' => e' = e) := by
  unfold effPut at h ⊢
  cases dst with
  | some d => simp only [fA_eq] at h ⊢; exact ⟨_, h, rfl⟩
  | none => exact ⟨_, h, rfl⟩
theorem ex_new {dst : Option Tmp} {x : A} {nid : Nat} {ob : Ob} (h : effNew dst x nid ob K) : ∃ e, K e ∧ effNew dst x nid ob (fun e' => e' = e) := by
  unfold effNew at h ⊢
  cases dst with
  | some d => exact ⟨_, h, rfl⟩
  | none => exact h.elim
theorem ex_set {dst : Option Tmp} {i : Nat} {ob : Ob} (h : effSet dst i ob K) : ∃ e, K e ∧ effSet dst i ob (fun e' => e' = e) := by
  unfold effSet at h ⊢
  cases dst with
  | some d => exact ⟨_, h, rfl⟩
  | none => exact ⟨_, h, rfl⟩

theorem ex_int {op : BinOp} {k : IntKind} {p q : Int} {dst : Option Tmp} (h : intE op k p q fun r => effPut dst r [] K) : ∃ e, K e ∧ intE op k p q fun r => effPut dst r [] (fun e' => e' = e) := by
  cases op <;> simp only [intE] at h ⊢ <;> first
    | exact h.elim
    | exact ex_put h
    | (obtain ⟨h0, h⟩ := h; obtain ⟨e, h1, h2⟩ := ex_put h; exact ⟨e, h1, h0, h2⟩)

theorem ex_bin {tb : TB} {op : BinOp} {T : TypeId} {x y : A} {dst : Option Tmp} (h : binE tb op T x y fun r => effPut dst r [] K) : ∃ e, K e ∧ binE tb op T x y fun r => effPut dst r [] (fun e' => e' = e) := by
  unfold binE at h ⊢
  split at h
  · split at h
    · simp only [shiftE] at h ⊢; obtain ⟨h0, h⟩ := h; obtain ⟨e, h1, h2⟩ := ex_put h; exact ⟨e, h1, h0, h2⟩
    · simp only [shiftE] at h ⊢; obtain ⟨h0, h⟩ := h; obtain ⟨e, h1, h2⟩ := ex_put h; exact ⟨e, h1, h0, h2⟩
    · rename_i k a k' b _ _ _
      cases hk : decide (k = k') with
      | true => rw [hk] at h; simp only [cond_true] at h ⊢; exact ex_int h
      | false => rw [hk] at h; exact h.elim
  · split at h
    · split at h
      · exact ex_put h
      · exact ex_put h
      · exact h.elim
    · exact h.elim
  · split at h
    · rename_i yT _
      cases hb : (yT.eqB && fitC yT.zero _) with
      | false => rw [hb] at h; exact h.elim
      | true =>
        rw [hb] at h
        simp only [cond_true] at h ⊢
        split at h
        · split at h
          · exact ex_put h
          · exact ex_put h
          · exact h.elim
        · exact h.elim
    · exact h.elim
  · split at h
    · split at h
      · obtain ⟨h0, h⟩ := h; obtain ⟨e, h1, h2⟩ := ex_put h; exact ⟨e, h1, h0, h2⟩
      · obtain ⟨h0, h⟩ := h; obtain ⟨e, h1, h2⟩ := ex_put h; exact ⟨e, h1, h0, h2⟩
      · exact h.elim
    · exact h.elim
  · split at h
    · split at h
      · exact ex_put h
      · exact ex_put h
      · exact h.elim
    · exact h.elim
  · exact h.elim

theorem ex_fill (tb : TB) (fs : List (Nat × TypeId)) {K2 : List A → Eff → Prop} : ∀ (ps : List (Nat × A)) (cells : List A) {dst : Option Tmp}, (fillA tb fs cells ps fun cs => effPut dst (aggA cs) [] K) →
    ∃ e, K e ∧ fillA tb fs cells ps fun cs => effPut dst (aggA cs) [] (fun e' => e' = e)
  | [], cells, dst, h => ex_put h
  | (i, x) :: r, cells, dst, h => by
    simp only [fillA] at h ⊢
    split at h
    · rename_i off t hf
      split at h
      · rename_i y hy
        rw [withCells_eq] at h
        obtain ⟨vs, hc, h⟩ := h
        cases hb : (Nat.beq vs.length y.size && Nat.ble (off + vs.length) cells.length) with
        | false => rw [hb] at h; exact h.elim
        | true =>
          rw [hb] at h
          simp only [cond_true, fL_eq] at h
          obtain ⟨e, h1, h2⟩ := ex_fill tb fs (K2 := K2) r _ h
          refine ⟨e, h1, ?_⟩
          rw [withCells_eq]
          exact ⟨vs, hc, by rw [hb]; simpa only [cond_true, fL_eq] using h2⟩
      · exact h.elim
    · exact h.elim

theorem ex_rows (sz : Nat) : ∀ (ps : List (Nat × A)) (k : Nat) {T : List (List D) → (Eff → Prop) → Prop} (hT : ∀ es K, T es K → ∃ e, K e ∧ T es (fun e' => e' = e)), (effOp.buildRows sz ps k fun es => T es K) →
    ∃ e, K e ∧ effOp.buildRows sz ps k fun es => T es (fun e' => e' = e)
  | [], k, T, hT, h => hT _ _ h
  | (i, x) :: r, k, T, hT, h => by
    simp only [effOp.buildRows] at h ⊢
    cases hb : Nat.beq i k with
    | false => rw [hb] at h; exact h.elim
    | true =>
      rw [hb] at h
      simp only [cond_true, withCells_eq] at h ⊢
      obtain ⟨cs, hc, h⟩ := h
      split at h
      · rename_i ds hds
        cases hb2 : (Nat.beq ds.length sz && cs.all A.one) with
        | false => rw [hb2] at h; exact h.elim
        | true =>
          rw [hb2] at h
          simp only [cond_true] at h
          obtain ⟨e, h1, h2⟩ := ex_rows sz r (k + 1) (T := fun es => T (ds :: es)) (fun es K => hT _ K) h
          refine ⟨e, h1, cs, hc, ?_⟩
          rw [hds]
          simp only [hb2, cond_true]
          exact h2
      · exact h.elim

theorem ex_lst : ∀ (ps : List (Nat × A)) (k : Nat) {T : List A → (Eff → Prop) → Prop} (hT : ∀ es K, T es K → ∃ e, K e ∧ T es (fun e' => e' = e)), (effOp.buildLst ps k fun es => T es K) →
    ∃ e, K e ∧ effOp.buildLst ps k fun es => T es (fun e' => e' = e)
  | [], k, T, hT, h => hT _ _ h
  | (i, x) :: r, k, T, hT, h => by
    simp only [effOp.buildLst, fA_eq] at h ⊢
    cases hb : (Nat.beq i k && x.one) with
    | false => rw [hb] at h; exact h.elim
    | true =>
      rw [hb] at h
      simp only [cond_true] at h ⊢
      exact ex_lst r (k + 1) (T := fun es => T (x :: es)) (fun es K => hT _ K) h

theorem ex_isInt {x : A} {T : IntKind → Int → (Eff → Prop) → Prop} (hT : ∀ k n, T k n K → ∃ e, K e ∧ T k n (fun e' => e' = e)) (h : isInt x fun k n => T k n K) : ∃ e, K e ∧ isInt x fun k n => T k n (fun e' => e' = e) := by
  unfold isInt at h ⊢
  split at h
  · exact hT _ _ h
  · exact h.elim

theorem ex_bnd {g : Nat → A} {x : Option Operand} {d : Nat} {T : Nat → (Eff → Prop) → Prop} (hT : ∀ k, T k K → ∃ e, K e ∧ T k (fun e' => e' = e)) (h : bnd g x d fun k => T k K) : ∃ e, K e ∧ bnd g x d fun k => T k (fun e' => e' = e) := by
  unfold bnd at h ⊢
  split at h
  · exact hT _ h
  · exact ex_isInt (T := fun _ n K => ∃ k : Nat, n = k ∧ T k K) (fun _ n ⟨k, e, hk⟩ => let ⟨e', h1, h2⟩ := hT k hk; ⟨e', h1, k, e, h2⟩) h

theorem ex_pure {w : Nat} {dst : Option Tmp} {frz : List (Nat × D)} {r : D} (h : effPure w dst frz r K) : ∃ e, K e ∧ effPure w dst frz r (fun e' => e' = e) := by
  unfold effPure at h ⊢
  split at h
  · cases dst with
    | some d => simp only [fA_eq] at h ⊢; exact ⟨_, h, rfl⟩
    | none => exact ⟨_, h, rfl⟩
  · rcases h with ⟨hf, h⟩ | h
    · cases dst with
      | some d => simp only [fA_eq] at h ⊢; exact ⟨_, h, .l ⟨hf, rfl⟩⟩
      | none => exact ⟨_, h, .l ⟨hf, rfl⟩⟩
    · cases dst with
      | some d => simp only [fA_eq] at h ⊢; exact ⟨_, h, .r rfl⟩
      | none => exact ⟨_, h, .r rfl⟩

theorem eff_ex {tb : TB} {S : Sums} {op : Op} {dst : Option Tmp} {g : Nat → A} {o : Nat → Option Ob} {nid : Nat} (h : effOp tb S op dst g o nid K) : ∃ e, K e ∧ effOp tb S op dst g o nid (fun e' => e' = e) := by
  cases op with
  | move x => exact ex_put h
  | assign x => exact ex_put h
  | pick c x y =>
    simp only [effOp] at h ⊢
    split at h
    · rename_i t ht
      cases t with
      | true => obtain ⟨e, h1, h2⟩ := ex_put (h.1 rfl); exact ⟨e, h1, fun _ => h2, (fun h => by cases h)⟩
      | false => obtain ⟨e, h1, h2⟩ := ex_put (h.2 rfl); exact ⟨e, h1, (fun h => by cases h), fun _ => h2⟩
    · exact h.elim
  | alloc T =>
    simp only [effOp] at h ⊢
    split at h
    · rename_i y hy
      cases hb : y.bulk with
      | true => rw [hb] at h; simp only [cond_true] at h ⊢; exact ex_new h
      | false => rw [hb] at h; simp only [cond_false, fL_eq] at h ⊢; exact ex_new h
    · exact h.elim
  | box T x =>
    simp only [effOp] at h ⊢
    split at h
    · rename_i y hy
      cases hb : y.bulk with
      | true =>
        rw [hb] at h
        simp only [cond_true] at h ⊢
        split at h
        · rename_i cs hc
          obtain ⟨e, h1, h2⟩ := ex_new h.2
          exact ⟨e, h1, h.1, h2⟩
        · exact h.elim
      | false =>
        rw [hb] at h
        simp only [cond_false, withCells_eq] at h ⊢
        obtain ⟨cs, hc, h⟩ := h
        cases ho : cs.all A.one with
        | true => rw [ho] at h; simp only [cond_true] at h; obtain ⟨e, h1, h2⟩ := ex_new h; exact ⟨e, h1, cs, hc, by rw [ho]; exact h2⟩
        | false => rw [ho] at h; exact h.elim
    · exact h.elim
  | build T ps =>
    simp only [effOp] at h ⊢
    split at h
    · rename_i fs s1 s2 z bk hT
      cases hb : (fs.all fun p => (tb p.2).isSome) with
      | true =>
        rw [hb] at h
        simp only [cond_true, fL_eq] at h ⊢
        cases hbz : (bk.1 && z.all intV) with
        | true =>
          rw [hbz] at h
          simp only [cond_true] at h ⊢
          obtain ⟨ds, hc, h⟩ := h
          obtain ⟨e, h1, h2⟩ := ex_put h
          exact ⟨e, h1, ds, hc, h2⟩
        | false =>
        rw [hbz] at h
        simp only [cond_false] at h ⊢
        cases hbk : bk.1 with
        | true =>
          rw [hbk] at h
          simp only [cond_true] at h ⊢
          obtain ⟨cs, hc, h⟩ := h
          obtain ⟨e, h1, h2⟩ := ex_put h
          exact ⟨e, h1, cs, hc, h2⟩
        | false => rw [hbk] at h; simp only [cond_false] at h ⊢; exact ex_fill (K2 := fun _ _ => True) tb fs _ _ h
      | false => rw [hb] at h; exact h.elim
    · split at h
      · simp only [fL_eq] at h ⊢; exact ex_fill (K2 := fun _ _ => True) tb _ _ _ h
      · exact h.elim
    · exact h.elim
  | buildSlice T len ps =>
    simp only [effOp] at h ⊢
    split at h
    · rename_i e s1 s2 z bk hT
      split at h
      · rename_i y hy
        cases hb : Nat.beq len 0 with
        | true =>
          rw [hb] at h
          simp only [cond_true] at h ⊢
          cases hb2 : Nat.beq ps.size 0 with
          | true => rw [hb2] at h; simp only [cond_true] at h ⊢; exact ex_new h
          | false => rw [hb2] at h; exact h.elim
        | false =>
          rw [hb] at h
          simp only [cond_false] at h ⊢
          cases hb2 : (Nat.beq ps.size len && Nat.ble (len * y.size) 16777216) with
          | true =>
            rw [hb2] at h
            simp only [cond_true] at h ⊢
            cases hFn : (y.k.fnB && Nat.beq y.size 1 && (ps.toList.map fun p => opA g p.2).any A.fnB) with
            | true => rw [hFn] at h; simp only [cond_true] at h ⊢; exact ex_lst _ _ (fun cs K h => ex_put h) h
            | false =>
            rw [hFn] at h
            simp only [cond_false] at h ⊢
            cases hOw : (ps.toList.map fun p => opA g p.2).any A.ownB with
            | true =>
              rw [hOw, cond_true] at h
              simp only [cond_true]
              obtain ⟨as, frz, hh⟩ : ∃ as frz, handL true o (ps.toList.map fun p => opA g p.2) = (as, frz) := ⟨_, _, rfl⟩
              rw [hh] at h ⊢
              simp only at h ⊢
              cases hfe : frz.isEmpty with
              | true => simp only [hfe, Bool.not_true, cond_false] at h
              | false =>
                simp only [hfe, Bool.not_false, cond_true] at h ⊢
                exact ex_rows _ _ _ (T := fun es K => effFz dst (.d (.seq es)) frz K) (fun es K h => by
                  unfold effFz at h ⊢
                  cases dst with
                  | some d => simp only [fA_eq] at h ⊢; exact ⟨_, h, rfl⟩
                  | none => exact ⟨_, h, rfl⟩) h
            | false =>
            rw [hOw, cond_false] at h
            simp only [cond_false]
            exact ex_rows _ _ _ (T := fun es K => ChL (effPut dst (.d (.seq es)) [] K) (0 < y.size ∧ effNew dst (.own nid) nid (.arr e es) K)) (fun es K h => by
              rcases h with h | ⟨h0, h⟩
              · obtain ⟨e, h1, h2⟩ := ex_put h; exact ⟨e, h1, .l h2⟩
              · obtain ⟨e, h1, h2⟩ := ex_new h; exact ⟨e, h1, .r ⟨h0, h2⟩⟩) h
          | false => rw [hb2] at h; exact h.elim
      · exact h.elim
    · exact h.elim
  | load T x =>
    simp only [effOp] at h ⊢
    split at h
    · rename_i y hy
      split at h
      · rename_i i off hx
        split at h
        · rename_i T' cs ho
          cases ha : y.k.agg with
          | true =>
            simp only [ha, cond_true] at h ⊢
            obtain ⟨ds, h1, h2, h⟩ := h
            obtain ⟨e, h3, h4⟩ := ex_put h
            exact ⟨e, h3, ds, h1, h2, h4⟩
          | false =>
            simp only [ha, cond_false] at h ⊢
            obtain ⟨c, h1, h⟩ := h
            obtain ⟨e, h3, h4⟩ := ex_put h
            exact ⟨e, h3, c, h1, h4⟩
        · rename_i T' cs ho
          cases ha : y.k.agg with
          | true =>
            simp only [ha, cond_true, fL_eq] at h ⊢
            cases hb : Nat.beq ((cs.drop off).take y.size).length y.size with
            | true => rw [hb] at h; simp only [cond_true] at h ⊢; exact ex_put h
            | false => rw [hb] at h; exact h.elim
          | false =>
            simp only [ha, cond_false] at h ⊢
            split at h
            · rename_i c h1; exact ex_put h
            · exact h.elim
        · rename_i T' cs ho
          cases ha : y.k.agg with
          | true =>
            simp only [ha, cond_true] at h ⊢
            obtain ⟨ds, h1, h2, h⟩ := h
            obtain ⟨e, h3, h4⟩ := ex_put h
            exact ⟨e, h3, ds, h1, h2, h4⟩
          | false =>
            simp only [ha, cond_false] at h ⊢
            obtain ⟨c, h1, h⟩ := h
            obtain ⟨e, h3, h4⟩ := ex_put h
            exact ⟨e, h3, c, h1, h4⟩
        · exact h.elim
      · rename_i cs hx
        cases ha : y.k.agg with
        | true =>
          simp only [ha, cond_true] at h ⊢
          cases hb : Nat.beq (cs.take y.size).length y.size with
          | true => rw [hb] at h; simp only [cond_true] at h ⊢; exact ex_put h
          | false => rw [hb] at h; exact h.elim
        | false =>
          simp only [ha, cond_false] at h ⊢
          split at h
          · rename_i c h1; exact ex_put h
          · exact h.elim
      · rename_i cs n0 hx
        cases ha : y.k.agg with
        | true =>
          simp only [ha, cond_true] at h ⊢
          obtain ⟨h1, h⟩ := h
          obtain ⟨e, h3, h4⟩ := ex_put h
          exact ⟨e, h3, h1, h4⟩
        | false =>
          simp only [ha, cond_false] at h ⊢
          obtain ⟨c, h1, h⟩ := h
          obtain ⟨e, h3, h4⟩ := ex_put h
          exact ⟨e, h3, c, h1, h4⟩
      · rename_i i k sz off hx
        split at h
        · rename_i T' es ho
          obtain ⟨el, hel, h⟩ := h
          cases hb : Nat.beq sz el.length with
          | false => rw [hb] at h; exact h.elim
          | true =>
            rw [hb] at h
            simp only [cond_true] at h
            cases ha : y.k.agg with
            | true =>
              simp only [ha, cond_true] at h
              obtain ⟨h1, h⟩ := h
              obtain ⟨e, h3, h4⟩ := ex_put h
              exact ⟨e, h3, el, hel, by rw [hb]; simp only [cond_true]; exact ⟨h1, h4⟩⟩
            | false =>
              simp only [ha, cond_false] at h
              obtain ⟨d, h1, h⟩ := h
              obtain ⟨e, h3, h4⟩ := ex_put h
              exact ⟨e, h3, el, hel, by rw [hb]; simp only [cond_true, cond_false]; exact ⟨d, h1, h4⟩⟩
        · exact h.elim
      · rename_i x1 hx
        cases ha : y.k.agg with
        | true => rw [ha] at h; exact h.elim
        | false => rw [ha] at h; simp only [cond_false] at h ⊢; exact ex_put h
      · exact h.elim
    · exact h.elim
  | store T x v =>
    simp only [effOp] at h ⊢
    split at h
    · rename_i y hy
      split at h
      · rename_i i off hx
        split at h
        · rename_i T' cs ho
          cases ha : y.k.agg with
          | true =>
            simp only [ha, cond_true] at h ⊢
            obtain ⟨vs, h1, h2, h3, h4, h⟩ := h
            obtain ⟨e, h5, h6⟩ := ex_set h
            exact ⟨e, h5, vs, h1, h2, h3, h4, h6⟩
          | false =>
            simp only [ha, cond_false, fA_eq] at h ⊢
            obtain ⟨h1, h⟩ := h
            cases hb : ((opA g v).one && Nat.beq y.size 1) with
            | true => rw [hb] at h; simp only [cond_true] at h; obtain ⟨e, h5, h6⟩ := ex_set h; exact ⟨e, h5, h1, h6⟩
            | false => rw [hb] at h; exact h.elim
        · rename_i T' cs ho
          simp only [withCells_eq] at h ⊢
          obtain ⟨vs, h1, h⟩ := h
          cases hb : (Nat.beq vs.length y.size && Nat.ble (off + vs.length) cs.length && vs.all A.one) with
          | true =>
            rw [hb] at h
            simp only [cond_true, fL_eq] at h
            obtain ⟨e, h5, h6⟩ := ex_set h
            exact ⟨e, h5, vs, h1, by rw [hb]; simp only [cond_true, fL_eq]; exact h6⟩
          | false => rw [hb] at h; exact h.elim
        · exact h.elim
      · rename_i i k sz off hx
        split at h
        · rename_i e' es ho
          simp only [withCells_eq] at h ⊢
          obtain ⟨vs, h1, h⟩ := h
          split at h
          · rename_i ds hds
            cases hb : (Nat.beq ds.length y.size && vs.all A.one) with
            | true =>
              rw [hb] at h
              simp only [cond_true] at h
              obtain ⟨el, q1, q2, q3, es', q4, h⟩ := h
              obtain ⟨e, h5, h6⟩ := ex_set h
              refine ⟨e, h5, vs, h1, ?_⟩
              rw [hds]
              simp only [hb, cond_true]
              exact ⟨el, q1, q2, q3, es', q4, h6⟩
            | false => rw [hb] at h; exact h.elim
          · exact h.elim
        · exact h.elim
      · exact h.elim
    · exact h.elim
  | nilCheck x =>
    simp only [effOp] at h ⊢
    split at h
    · exact ex_put h
    · exact ex_put h
    · exact ex_put h
    · exact h.elim
  | binOp op T x y T' => exact ex_bin h
  | unOp op T x =>
    simp only [effOp] at h ⊢
    split at h
    · split at h
      · exact ex_put h
      · exact h.elim
    · simp only [isInt] at h ⊢
      split at h
      · exact ex_put h
      · exact h.elim
    · exact h.elim
  | convert s d x =>
    simp only [effOp] at h ⊢
    split at h
    · simp only [isInt] at h ⊢
      split at h
      · exact ex_put h
      · exact h.elim
    · exact h.elim
  | fieldAddr T x f =>
    simp only [effOp] at h ⊢
    split at h
    · split at h
      · split at h
        · rename_i y hy
          cases hb : Nat.beq y.size 0 with
          | true => rw [hb] at h; exact h.elim
          | false =>
            rw [hb] at h
            simp only [cond_false] at h ⊢
            split at h
            · exact ex_put h
            · exact ex_put h
            · exact ex_put h
            · exact ex_put h
            · exact h.elim
        · exact h.elim
      · exact h.elim
    · exact h.elim
  | indexAddr T x ix =>
    simp only [effOp] at h ⊢
    split at h
    · split at h
      · split at h
        · simp only [isInt] at h ⊢
          split at h
          · obtain ⟨k, el, h1, h2, h3, h⟩ := h
            obtain ⟨e, h5, h6⟩ := ex_put h
            exact ⟨e, h5, k, el, h1, h2, h3, h6⟩
          · exact h.elim
        · split at h
          · simp only [isInt] at h ⊢
            split at h
            · obtain ⟨k, h1, h2, h⟩ := h
              obtain ⟨e, h5, h6⟩ := ex_put h
              exact ⟨e, h5, k, h1, h2, h6⟩
            · exact h.elim
          · exact h.elim
        · simp only [isInt] at h ⊢
          split at h
          · obtain ⟨k, c, h1, h2, h3, h⟩ := h
            obtain ⟨e, h5, h6⟩ := ex_put h
            exact ⟨e, h5, k, c, h1, h2, h3, h6⟩
          · exact h.elim
        · exact h.elim
      · exact h.elim
    · split at h
      · split at h
        · simp only [isInt] at h ⊢
          split at h
          · obtain ⟨k, h1, h2, h⟩ := h
            obtain ⟨e, h5, h6⟩ := ex_put h
            exact ⟨e, h5, k, h1, h2, h6⟩
          · exact h.elim
        · simp only [isInt] at h ⊢
          split at h
          · obtain ⟨k, h1, h2, h⟩ := h
            obtain ⟨e, h5, h6⟩ := ex_put h
            exact ⟨e, h5, k, h1, h2, h6⟩
          · exact h.elim
        · simp only [isInt] at h ⊢
          split at h
          · obtain ⟨k, h1, h2, h⟩ := h
            obtain ⟨e, h5, h6⟩ := ex_put h
            exact ⟨e, h5, k, h1, h2, h6⟩
          · exact h.elim
        · exact h.elim
      · exact h.elim
    · exact h.elim
  | makeMap T r =>
    simp only [effOp] at h ⊢
    split at h
    · exact ex_new h
    · exact h.elim
  | lookup T x ix ok =>
    simp only [effOp] at h ⊢
    split at h
    · rename_i k e s1 s2 z fl i key hTy hx hix
      split at h
      · rename_i k' e' es y ho hy
        cases hb : (Nat.beq k k' && Nat.beq e e' && keyB tb k key) with
        | false => rw [hb] at h; exact h.elim
        | true =>
          rw [hb] at h
          simp only [cond_true] at h ⊢
          obtain ⟨r, hr, h⟩ := h
          cases r with
          | some v => cases ok <;> (obtain ⟨e2, h1, h2⟩ := ex_put h; exact ⟨e2, h1, _, hr, h2⟩)
          | none => cases ok <;> (obtain ⟨e2, h1, h2⟩ := ex_put h; exact ⟨e2, h1, _, hr, h2⟩)
      · exact h.elim
    · exact h.elim
  | mapUpdate T x ix v =>
    simp only [effOp] at h ⊢
    split at h
    · rename_i k e s1 s2 z fl i key v hTy hx hix hv
      split at h
      · rename_i k' e' es ho
        cases hb : (Nat.beq k k' && Nat.beq e e' && keyB tb k key) with
        | false => rw [hb] at h; exact h.elim
        | true =>
          rw [hb] at h
          simp only [cond_true] at h ⊢
          obtain ⟨es', hes, h⟩ := h
          obtain ⟨e2, h1, h2⟩ := ex_set h
          exact ⟨e2, h1, _, hes, h2⟩
      · exact h.elim
    · exact h.elim
  | makeFunc fn first caps => simp only [effOp, fL_eq] at h ⊢; exact ex_put h
  | slice T x lo hi mx =>
    simp only [effOp] at h ⊢
    split at h
    · split at h
      · split at h
        · rename_i y hy
          split at h
          · rename_i es hx
            exact ex_bnd (T := fun l K => bnd g hi es.length fun h => l ≤ h ∧ h ≤ es.length ∧ (∀ el ∈ es, el.length = y.size) ∧ effPut dst (.d (.seq ((es.take h).drop l))) [] K)
              (fun l h => ex_bnd (T := fun h K => l ≤ h ∧ h ≤ es.length ∧ (∀ el ∈ es, el.length = y.size) ∧ effPut dst (.d (.seq ((es.take h).drop l))) [] K) (fun h' ⟨h1, h2, h3, h4⟩ => let ⟨e, q1, q2⟩ := ex_put h4; ⟨e, q1, h1, h2, h3, q2⟩) h) h
          · rename_i i hx
            split at h
            · rename_i d e' es ho
              cases hb : Nat.beq _ e' with
              | false => rw [hb] at h; exact h.elim
              | true =>
                rw [hb] at h
                simp only [cond_true] at h ⊢
                exact ex_bnd (T := fun h K => h ≤ es.length ∧ Ch (∃ es', es.take h = es' ∧ K ⟨some (d, .own i), [(i, .arr _ es')], [i], 0, [], [i]⟩) (K ⟨some (d, .pre i h), [], [i], 0, [], []⟩)) (fun h' ⟨h1, h2⟩ => by
                  rcases h2 with ⟨es', h2, h3⟩ | h3
                  · exact ⟨_, h3, h1, .l ⟨es', h2, rfl⟩⟩
                  · exact ⟨_, h3, h1, .r rfl⟩) h
            · exact h.elim
          · exact h.elim
        · exact h.elim
      · split at h
        · rename_i y hy
          split at h
          · rename_i i d hx
            split at h
            · rename_i bulk T' cs ho
              exact ex_bnd (T := fun h K => h ≤ _ ∧ ∃ es : List (List D), cs.take (h * y.size) = es.flatten.map A.d ∧ (∀ el ∈ es, el.length = y.size) ∧ es.length = h ∧ K ⟨some (d, .d (.seq es)), [(i, .ro T' cs)], [i], 0, [], []⟩)
                (fun h' ⟨h1, es, h2, h3, h4, h5⟩ => ⟨_, h5, h1, es, h2, h3, h4, rfl⟩) h
            · exact h.elim
          · exact h.elim
        · exact h.elim
      · exact h.elim
    · exact h.elim
  | makeSlice T l c =>
    simp only [effOp] at h ⊢
    split at h
    · split at h
      · rename_i y hy
        exact ex_isInt (T := fun _ n K => isInt (opA g c) fun _ q => ∃ k : Nat, n = k ∧ q = k ∧ k * y.bytes ≤ 140737488355328 ∧ k ≤ 140737488355328 ∧ ∃ es, List.replicate k (y.zero.map D.v) = es ∧ effNew dst (.own nid) nid (.arr _ es) K)
          (fun _ n h => ex_isInt (T := fun _ q K => ∃ k : Nat, n = k ∧ q = k ∧ k * y.bytes ≤ 140737488355328 ∧ k ≤ 140737488355328 ∧ ∃ es, List.replicate k (y.zero.map D.v) = es ∧ effNew dst (.own nid) nid (.arr _ es) K)
            (fun _ q ⟨k, h1, h2, h3, h4, es, h5, h6⟩ => let ⟨e, q1, q2⟩ := ex_new h6; ⟨e, q1, k, h1, h2, h3, h4, es, h5, q2⟩) h) h
      · exact h.elim
    · exact h.elim
  | field T x i =>
    simp only [effOp] at h ⊢
    split at h
    · split at h
      · split at h
        · rename_i y hy
          split at h
          · rename_i ds hx
            unfold partD at h ⊢
            cases ha : y.k.agg with
            | true =>
              simp only [ha] at h ⊢
              cases hb : Nat.beq ((ds.drop _).take y.size).length y.size with
              | true => rw [hb] at h; simp only [cond_true] at h ⊢; exact ex_put h
              | false => rw [hb] at h; exact h.elim
            | false =>
              simp only [ha] at h ⊢
              split at h
              · exact ex_put h
              · exact h.elim
          · rename_i cs hx
            cases ha : y.k.agg with
            | true =>
              simp only [ha, cond_true, fL_eq] at h ⊢
              cases hb : Nat.beq ((cs.drop _).take y.size).length y.size with
              | true => rw [hb] at h; simp only [cond_true] at h ⊢; exact ex_put h
              | false => rw [hb] at h; exact h.elim
            | false =>
              simp only [ha, cond_false] at h ⊢
              split at h
              · exact ex_put h
              · exact h.elim
          · exact h.elim
        · exact h.elim
      · exact h.elim
    · exact h.elim
  | index T x i =>
    simp only [effOp] at h ⊢
    split at h
    · split at h
      · rename_i y hy
        split at h
        · rename_i ds hx
          simp only [isInt] at h ⊢
          split at h
          · obtain ⟨j, h1, h2, h⟩ := h
            cases ha : y.k.agg with
            | true =>
              simp only [ha, cond_true] at h ⊢
              obtain ⟨h3, h⟩ := h
              obtain ⟨e, q1, q2⟩ := ex_put h
              exact ⟨e, q1, j, h1, h2, h3, q2⟩
            | false =>
              simp only [ha, cond_false] at h ⊢
              obtain ⟨c, h3, h⟩ := h
              obtain ⟨e, q1, q2⟩ := ex_put h
              exact ⟨e, q1, j, h1, h2, c, h3, q2⟩
          · exact h.elim
        · exact h.elim
      · exact h.elim
    · exact h.elim
  | extract t i =>
    simp only [effOp] at h ⊢
    split at h
    · split at h
      · exact ex_put h
      · exact h.elim
    · split at h
      · exact ex_put h
      · exact h.elim
    · exact h.elim
  | call c =>
    cases hc : c.callee with
    | value f =>
      simp only [effOp, hc] at h ⊢
      split at h
      · rename_i fid first caps hfn
        rcases h with h | ⟨ρ, N, r, post, hS, h⟩
        · obtain ⟨as, frz, hh⟩ : ∃ as frz, handL true o (first ++ c.args.toList.map (opA g) ++ caps) = (as, frz) := ⟨_, _, rfl⟩
          rw [hh] at h ⊢
          simp only at h ⊢
          cases hds : toDs as with
          | none => rw [hds] at h; exact h.elim
          | some ds =>
            rw [hds] at h
            obtain ⟨r, hr, h⟩ := h
            obtain ⟨e, h1, h2⟩ := ex_pure h
            exact ⟨e, h1, .inl ⟨r, hr, h2⟩⟩
        · obtain ⟨as, frz, hh⟩ : ∃ as frz, handL false (hideO ρ o) (first ++ c.args.toList.map (opA g) ++ caps) = (as, frz) := ⟨_, _, rfl⟩
          rw [hh] at h hS
          simp only at h hS
          cases hb : borB ρ nid N S.w (pres o frz ρ) post with
          | false => rw [hb] at h; exact h.elim
          | true =>
            rw [hb, cond_true] at h
            obtain ⟨rd0, hrd0⟩ : ∃ rd0, rd0 = ρ ++ frz.map (·.1) ++ ownIds (first ++ (c.args.toList.map (opA g)) ++ caps) := ⟨_, rfl⟩
            obtain ⟨js, hjs⟩ : ∃ js, js = arrIds post 0 ρ (pres o frz ρ) := ⟨_, rfl⟩
            obtain ⟨post', hpost'⟩ : ∃ post', post' = dropRo (pres o frz ρ) post := ⟨_, rfl⟩
            rw [← hrd0, ← hjs, ← hpost'] at h
            by_cases hfr : frB S.w frz = true
            · rw [hfr, cond_true] at h
              have : ∃ e, K e ∧ effFr dst ρ nid rd0 r post (fun e' => e' = e) := by
                unfold effFr at h ⊢
                split at h
                · obtain ⟨q, h⟩ := h
                  cases dst with
                  | some d => exact ⟨_, h, q, rfl⟩
                  | none => exact ⟨_, h, q, rfl⟩
                · exact h.elim
              obtain ⟨e, h1, h2⟩ := this
              exact ⟨e, h1, .inr ⟨ρ, N, r, post, by rw [hh]; exact hS, by rw [hh]; simp only; rw [hb, ← hrd0, cond_true, hfr]; exact h2⟩⟩
            rw [Bool.not_eq_true] at hfr
            rw [hfr, cond_false] at h
            have : ∃ e, K e ∧ effBor dst ρ nid N frz rd0 js r post' (fun e' => e' = e) := by
              unfold effBor at h ⊢
              cases dst with
              | some d => simp only [forceA_eq, outObs_eq] at h ⊢; exact ⟨_, h, rfl⟩
              | none => simp only [outObs_eq] at h ⊢; exact ⟨_, h, rfl⟩
            obtain ⟨e, h1, h2⟩ := this
            exact ⟨e, h1, .inr ⟨ρ, N, r, post, by rw [hh]; exact hS, by rw [hh]; simp only; rw [hb, ← hrd0, ← hjs, ← hpost', hfr]; exact h2⟩⟩
      · split at h
        · split at h
          · split at h
            · obtain ⟨b, hy, h⟩ := h
              cases dst with
              | some d => exact ⟨_, h, b, hy, rfl⟩
              | none => exact ⟨_, h, b, hy, rfl⟩
            · exact h.elim
          · exact h.elim
        · exact h.elim
    | builtin b =>
      cases b with
      | len =>
        simp only [effOp, hc] at h ⊢
        split at h
        · split at h
          · split at h
            · split at h
              · exact ex_put h
              · exact h.elim
            · exact h.elim
          · split at h
            · exact ex_put h
            · exact h.elim
          · exact h.elim
        · exact h.elim
      | max =>
        simp only [effOp, hc] at h ⊢
        split at h
        · exact ex_isInt (T := fun k p K => isInt _ fun _ q => effPut dst (intRes k (max p q)) [] K) (fun k p h => ex_isInt (T := fun _ q K => effPut dst (intRes k (max p q)) [] K) (fun _ _ h => ex_put h) h) h
        · exact h.elim
      | min =>
        simp only [effOp, hc] at h ⊢
        split at h
        · exact ex_isInt (T := fun k p K => isInt _ fun _ q => effPut dst (intRes k (min p q)) [] K) (fun k p h => ex_isInt (T := fun _ q K => effPut dst (intRes k (min p q)) [] K) (fun _ _ h => ex_put h) h) h
        · exact h.elim
      | append =>
        simp only [effOp, hc] at h ⊢
        split at h
        · rename_i s x T T' d _ _
          split at h
          · rename_i e0 s1 s2 z bk hTy
            split at h
            · rename_i y ys rd hy hel
              cases hb : (Nat.beq T T' && Nat.blt 0 y.size && Nat.blt 0 y.bytes) with
              | false => rw [hb] at h; exact h.elim
              | true =>
                rw [hb] at h
                simp only [cond_true] at h ⊢
                split at h
                · obtain ⟨h1, h2, h⟩ := h; exact ⟨_, h, h1, h2, rfl⟩
                · rename_i i _
                  split at h
                  · rename_i e' es ho
                    cases hb2 : (Nat.beq e0 e' && !rd.contains i) with
                    | false => rw [hb2] at h; exact h.elim
                    | true =>
                      rw [hb2] at h
                      simp only [cond_true] at h ⊢
                      obtain ⟨h1, h2, h⟩ := h
                      cases hW : Nat.beq S.w 4 with
                      | true => rw [hW] at h; exact ⟨_, h, h1, h2, rfl⟩
                      | false => rw [hW] at h; exact ⟨_, h, h1, h2, rfl⟩
                  · exact h.elim
                · exact h.elim
            · exact h.elim
          · exact h.elim
        · exact h.elim
      | _ => simp only [effOp, hc] at h
    | invoke r nm => simp only [effOp, hc] at h
  | _ => simp only [effOp] at h
end
end Go.Ev

set_option linter.unusedVariables false
set_option linter.unusedSectionVars false
namespace Go.Ev
open RowKit

theorem rd_put {dst : Option Tmp} {x : A} {rd : List Nat} {e : Eff} (h : effPut dst x rd (fun e' => e' = e)) : e.rd = rd := by
  unfold effPut at h
  cases dst with
  | some d => simp only [fA_eq] at h; rw [← h]
  | none => simp only at h; rw [← h]
theorem rd_set {dst : Option Tmp} {i : Nat} {ob : Ob} {e : Eff} (h : effSet dst i ob (fun e' => e' = e)) : e.rd = [i] := by
  unfold effSet at h
  cases dst with
  | some d => simp only at h; rw [← h]
  | none => simp only at h; rw [← h]

theorem handA_same {cv : Bool} {o o' : Nat → Option Ob} {x : A} (h : ∀ i, x ≠ .own i) (h' : ∀ i k, x ≠ .pre i k) : handA cv o' x = handA cv o x := by
  unfold handA
  split
  · exact absurd rfl (h _)
  · exact absurd rfl (h' _ _)
  · rfl
  · rfl

/-- No slice of the frame's own stands at the top of what is handed over, or in a struct of it. -/
def NoOwn : List A → Prop
  | [] => True
  | .own _ :: _ => False
  | .pre _ _ :: _ => False
  | .agg cs :: r => (∀ i, A.own i ∉ cs) ∧ (∀ i k, A.pre i k ∉ cs) ∧ NoOwn r
  | _ :: r => NoOwn r

theorem handL_same {cv : Bool} {o o' : Nat → Option Ob} : ∀ {l : List A}, NoOwn l → handL cv o' l = handL cv o l
  | [], _ => rfl
  | x :: r, h => by
    cases x with
    | own i => exact h.elim
    | pre i k => exact h.elim
    | agg cs =>
      obtain ⟨h1, h1', h2⟩ := h
      have e1 : ∀ y ∈ cs, handA cv o' y = handA cv o y := fun y hy => handA_same (fun i e => h1 i (e ▸ hy)) (fun i k e => h1' i k (e ▸ hy))
      have e2 : (cs.map fun x => (handA cv o' x).1) = cs.map fun x => (handA cv o x).1 := List.map_congr_left fun y hy => by rw [e1 y hy]
      have e3 : (cs.flatMap fun x => (handA cv o' x).2) = cs.flatMap fun x => (handA cv o x).2 := by
        clear h1 h1' e2
        induction cs with
        | nil => rfl
        | cons y cs ih => simp only [List.flatMap_cons]; rw [e1 y (by simp), ih (fun z hz => e1 z (by simp [hz]))]
      have ih := handL_same (cv := cv) (o := o) (o' := o') h2
      simp only [handL, e2, e3, ih]
    | d y =>
      have h2 : NoOwn r := h
      have ih := handL_same (cv := cv) (o := o) (o' := o') h2
      cases y with
      | agg cs => simp only [handL, ih]
      | _ => simp only [handL, ih, handA_same (cv := cv) (o := o) (o' := o') (x := A.d _) (fun i e => by cases e) (fun i k e => by cases e)]
    | ref i off => have h2 : NoOwn r := h; have ih := handL_same (cv := cv) (o := o) (o' := o') h2; simp only [handL, ih, handA_same (cv := cv) (o := o) (o' := o') (x := A.ref i off) (fun i e => by cases e) (fun i k e => by cases e)]
    | eref i k sz off => have h2 : NoOwn r := h; have ih := handL_same (cv := cv) (o := o) (o' := o') h2; simp only [handL, ih, handA_same (cv := cv) (o := o) (o' := o') (x := A.eref i k sz off) (fun i e => by cases e) (fun i k e => by cases e)]
    | fn f a b => have h2 : NoOwn r := h; have ih := handL_same (cv := cv) (o := o) (o' := o') h2; simp only [handL, ih, handA_same (cv := cv) (o := o) (o' := o') (x := A.fn f a b) (fun i e => by cases e) (fun i k e => by cases e)]
    | tup xs => have h2 : NoOwn r := h; have ih := handL_same (cv := cv) (o := o) (o' := o') h2; simp only [handL, ih, handA_same (cv := cv) (o := o) (o' := o') (x := A.tup xs) (fun i e => by cases e) (fun i k e => by cases e)]
    | lst xs => have h2 : NoOwn r := h; have ih := handL_same (cv := cv) (o := o) (o' := o') h2; simp only [handL, ih, handA_same (cv := cv) (o := o) (o' := o') (x := A.lst xs) (fun i e => by cases e) (fun i k e => by cases e)]
    | lptr x => have h2 : NoOwn r := h; have ih := handL_same (cv := cv) (o := o) (o' := o') h2; simp only [handL, ih, handA_same (cv := cv) (o := o) (o' := o') (x := A.lptr x) (fun i e => by cases e) (fun i k e => by cases e)]
    | unk => have h2 : NoOwn r := h; have ih := handL_same (cv := cv) (o := o) (o' := o') h2; simp only [handL, ih, handA_same (cv := cv) (o := o) (o' := o') (x := A.unk) (fun i e => by cases e) (fun i k e => by cases e)]

theorem handTop_own {cv : Bool} {o o' : Nat → Option Ob} : ∀ {cs : List A}, (∀ i ∈ ownTop cs, o' i = o i) → ∀ x ∈ cs, handA cv o' x = handA cv o x
  | [], _, x, hx => by cases hx
  | y :: r, h, x, hx => by
    have hr : ∀ i ∈ ownTop r, o' i = o i := fun i hi => h i (by cases y <;> first | exact hi | exact List.mem_cons_of_mem _ hi)
    rcases List.mem_cons.1 hx with rfl | hx
    · cases x with
      | own i => have := h i (by simp [ownTop]); simp only [handA, this]
      | pre i k => have := h i (by simp [ownTop]); simp only [handA, this]
      | _ => exact handA_same (fun i e => by cases e) (fun i k e => by cases e)
    · exact handTop_own hr x hx

theorem handL_own {cv : Bool} {o o' : Nat → Option Ob} : ∀ {l : List A}, (∀ i ∈ ownIds l, o' i = o i) → handL cv o' l = handL cv o l
  | [], _ => rfl
  | x :: r, h => by
    cases x with
    | own i =>
      have ih := handL_own (cv := cv) (o := o) (o' := o') (l := r) (fun j hj => h j (by simp [ownIds, hj]))
      have := h i (by simp [ownIds])
      simp only [handL, ih, handA, this]
    | pre i k =>
      have ih := handL_own (cv := cv) (o := o) (o' := o') (l := r) (fun j hj => h j (by simp [ownIds, hj]))
      have := h i (by simp [ownIds])
      simp only [handL, ih, handA, this]
    | agg cs =>
      have ih := handL_own (cv := cv) (o := o) (o' := o') (l := r) (fun j hj => h j (by simp [ownIds, hj]))
      have e1 := handTop_own (cv := cv) (o := o) (o' := o') (cs := cs) (fun j hj => h j (by simp [ownIds, hj]))
      have e2 : (cs.map fun x => (handA cv o' x).1) = cs.map fun x => (handA cv o x).1 := List.map_congr_left fun y hy => by rw [e1 y hy]
      have e3 : (cs.flatMap fun x => (handA cv o' x).2) = cs.flatMap fun x => (handA cv o x).2 := by
        clear h e2 ih
        induction cs with
        | nil => rfl
        | cons y cs ih => simp only [List.flatMap_cons]; rw [e1 y (by simp), ih (fun z hz => e1 z (by simp [hz]))]
      simp only [handL, e2, e3, ih]
    | d y =>
      have ih := handL_own (cv := cv) (o := o) (o' := o') (l := r) (fun j hj => h j hj)
      cases y with
      | agg cs => simp only [handL, ih]
      | _ => simp only [handL, ih, handA_same (cv := cv) (o := o) (o' := o') (x := A.d _) (fun i e => by cases e) (fun i k e => by cases e)]
    | ref i off => have ih := handL_own (cv := cv) (o := o) (o' := o') (l := r) (fun j hj => h j hj); simp only [handL, ih, handA_same (cv := cv) (o := o) (o' := o') (x := A.ref i off) (fun i e => by cases e) (fun i k e => by cases e)]
    | eref i k sz off => have ih := handL_own (cv := cv) (o := o) (o' := o') (l := r) (fun j hj => h j hj); simp only [handL, ih, handA_same (cv := cv) (o := o) (o' := o') (x := A.eref i k sz off) (fun i e => by cases e) (fun i k e => by cases e)]
    | fn f a b => have ih := handL_own (cv := cv) (o := o) (o' := o') (l := r) (fun j hj => h j hj); simp only [handL, ih, handA_same (cv := cv) (o := o) (o' := o') (x := A.fn f a b) (fun i e => by cases e) (fun i k e => by cases e)]
    | tup xs => have ih := handL_own (cv := cv) (o := o) (o' := o') (l := r) (fun j hj => h j hj); simp only [handL, ih, handA_same (cv := cv) (o := o) (o' := o') (x := A.tup xs) (fun i e => by cases e) (fun i k e => by cases e)]
    | lst xs => have ih := handL_own (cv := cv) (o := o) (o' := o') (l := r) (fun j hj => h j hj); simp only [handL, ih, handA_same (cv := cv) (o := o) (o' := o') (x := A.lst xs) (fun i e => by cases e) (fun i k e => by cases e)]
    | lptr x => have ih := handL_own (cv := cv) (o := o) (o' := o') (l := r) (fun j hj => h j hj); simp only [handL, ih, handA_same (cv := cv) (o := o) (o' := o') (x := A.lptr x) (fun i e => by cases e) (fun i k e => by cases e)]
    | unk => have ih := handL_own (cv := cv) (o := o) (o' := o') (l := r) (fun j hj => h j hj); simp only [handL, ih, handA_same (cv := cv) (o := o) (o' := o') (x := A.unk) (fun i e => by cases e) (fun i k e => by cases e)]

theorem toDs_cons {x : A} {l : List A} {ds : List D} (h : toDs (x :: l) = some ds) : ∃ d r, x = .d d ∧ toDs l = some r ∧ ds = d :: r := by
  have h0 := toDs_eq h
  cases ds with
  | nil => simp at h0
  | cons d r =>
    simp only [List.map_cons, List.cons.injEq] at h0
    obtain ⟨rfl, rfl⟩ := h0
    refine ⟨d, r, rfl, ?_, rfl⟩
    have : ∀ r : List D, toDs (r.map A.d) = some r := fun r => by
      induction r with
      | nil => rfl
      | cons a r ih => simp [toDs, ih]
    exact this r

theorem topIn {cv : Bool} {o : Nat → Option Ob} : ∀ {cs : List A} {ds : List D}, toDs (cs.map fun x => (handA cv o x).1) = some ds → ∀ i ∈ ownTop cs, i ∈ (cs.flatMap fun x => (handA cv o x).2).map (·.1)
  | [], _, _, i, hi => by cases hi
  | x :: r, ds, h, i, hi => by
    rw [List.map_cons] at h
    obtain ⟨d, r', h1, h2, _⟩ := toDs_cons h
    rw [List.flatMap_cons, List.map_append]
    have tl : i ∈ ownTop r → i ∈ ((handA cv o x).2).map (·.1) ++ (r.flatMap fun x => (handA cv o x).2).map (·.1) := fun hi => List.mem_append_right _ (topIn h2 i hi)
    cases x with
    | own j =>
      rcases List.mem_cons.1 hi with rfl | hi
      · refine List.mem_append_left _ ?_
        cases ho : o i with
        | none => simp [handA, ho] at h1
        | some ob => cases ob <;> simp [handA, ho] at h1 ⊢
      · exact tl hi
    | pre j k =>
      rcases List.mem_cons.1 hi with rfl | hi
      · refine List.mem_append_left _ ?_
        cases ho : o i with
        | none => simp [handA, ho] at h1
        | some ob => cases ob <;> simp [handA, ho] at h1 ⊢
      · exact tl hi
    | _ => exact tl hi
theorem ownIds_in {cv : Bool} {o : Nat → Option Ob} : ∀ {l : List A} {ds : List D}, toDs (handL cv o l).1 = some ds → ∀ i ∈ ownIds l, i ∈ (handL cv o l).2.map (·.1)
  | [], _, _, i, hi => by cases hi
  | x :: r, ds, h, i, hi => by
    cases x with
    | own j =>
      simp only [handL] at h ⊢
      obtain ⟨d, r', h1, h2, _⟩ := toDs_cons h
      rw [List.map_append]
      rcases List.mem_cons.1 hi with rfl | hi
      · refine List.mem_append_left _ ?_
        cases ho : o i with
        | none => simp [handA, ho] at h1
        | some ob => cases ob <;> simp [handA, ho] at h1 ⊢
      · exact List.mem_append_right _ (ownIds_in h2 i hi)
    | pre j k =>
      simp only [handL] at h ⊢
      obtain ⟨d, r', h1, h2, _⟩ := toDs_cons h
      rw [List.map_append]
      rcases List.mem_cons.1 hi with rfl | hi
      · refine List.mem_append_left _ ?_
        cases ho : o i with
        | none => simp [handA, ho] at h1
        | some ob => cases ob <;> simp [handA, ho] at h1 ⊢
      · exact List.mem_append_right _ (ownIds_in h2 i hi)
    | agg cs =>
      simp only [handL] at h ⊢
      obtain ⟨d, r', h1, h2, _⟩ := toDs_cons h
      rw [List.map_append]
      rcases List.mem_append.1 hi with hi | hi
      · refine List.mem_append_left _ ?_
        unfold aggA at h1
        split at h1
        · rename_i ds' hds
          exact topIn hds i hi
        · cases h1
      · exact List.mem_append_right _ (ownIds_in h2 i hi)
    | d y =>
      have hi : i ∈ ownIds r := hi
      cases y with
      | agg cs => simp only [handL] at h ⊢; obtain ⟨d, r', h1, h2, _⟩ := toDs_cons h; exact ownIds_in h2 i hi
      | _ => simp only [handL] at h ⊢; obtain ⟨d, r', h1, h2, _⟩ := toDs_cons h; rw [List.map_append]; exact List.mem_append_right _ (ownIds_in h2 i hi)
    | ref j off => have hi : i ∈ ownIds r := hi; simp only [handL] at h ⊢; obtain ⟨d, r', h1, h2, _⟩ := toDs_cons h; rw [List.map_append]; exact List.mem_append_right _ (ownIds_in h2 i hi)
    | eref j k sz off => have hi : i ∈ ownIds r := hi; simp only [handL] at h ⊢; obtain ⟨d, r', h1, h2, _⟩ := toDs_cons h; rw [List.map_append]; exact List.mem_append_right _ (ownIds_in h2 i hi)
    | fn f a b => have hi : i ∈ ownIds r := hi; simp only [handL] at h ⊢; obtain ⟨d, r', h1, h2, _⟩ := toDs_cons h; rw [List.map_append]; exact List.mem_append_right _ (ownIds_in h2 i hi)
    | tup xs => have hi : i ∈ ownIds r := hi; simp only [handL] at h ⊢; obtain ⟨d, r', h1, h2, _⟩ := toDs_cons h; rw [List.map_append]; exact List.mem_append_right _ (ownIds_in h2 i hi)
    | lst xs => have hi : i ∈ ownIds r := hi; simp only [handL] at h ⊢; obtain ⟨d, r', h1, h2, _⟩ := toDs_cons h; rw [List.map_append]; exact List.mem_append_right _ (ownIds_in h2 i hi)
    | lptr x => have hi : i ∈ ownIds r := hi; simp only [handL] at h ⊢; obtain ⟨d, r', h1, h2, _⟩ := toDs_cons h; rw [List.map_append]; exact List.mem_append_right _ (ownIds_in h2 i hi)
    | unk => have hi : i ∈ ownIds r := hi; simp only [handL] at h ⊢; obtain ⟨d, r', h1, h2, _⟩ := toDs_cons h; rw [List.map_append]; exact List.mem_append_right _ (ownIds_in h2 i hi)

theorem noOwn_of {cv : Bool} {o : Nat → Option Ob} : ∀ {l : List A} {ds : List D}, toDs (handL cv o l).1 = some ds → (handL cv o l).2 = [] → NoOwn l
  | [], _, _, _ => trivial
  | x :: r, ds, h, hz => by
    have own_no : ∀ i, (handA cv o (.own i)).2 = [] → ∃ j, (handA cv o (.own i)).1 = .own j := by
      intro i h
      refine ⟨i, ?_⟩
      cases ho : o i with
      | none => simp [handA, ho]
      | some ob => cases ob <;> simp [handA, ho] at h ⊢
    have pre_no : ∀ i k, (handA cv o (.pre i k)).2 = [] → ∃ j, (handA cv o (.pre i k)).1 = .pre j k := by
      intro i k h
      refine ⟨i, ?_⟩
      cases ho : o i with
      | none => simp [handA, ho]
      | some ob => cases ob <;> simp [handA, ho] at h ⊢
    cases x with
    | own i =>
      simp only [handL, List.append_eq_nil_iff] at h hz
      obtain ⟨j, hj⟩ := own_no i hz.1
      rw [hj] at h
      obtain ⟨d, _, h1, _⟩ := toDs_cons h
      cases h1
    | pre i k =>
      simp only [handL, List.append_eq_nil_iff] at h hz
      obtain ⟨j, hj⟩ := pre_no i k hz.1
      rw [hj] at h
      obtain ⟨d, _, h1, _⟩ := toDs_cons h
      cases h1
    | agg cs =>
      simp only [handL, List.append_eq_nil_iff, List.flatMap_eq_nil_iff] at h hz
      obtain ⟨d, r', h1, h2, _⟩ := toDs_cons h
      refine ⟨fun i hi => ?_, fun i k hi => ?_, noOwn_of h2 hz.2⟩
      · obtain ⟨j, hj⟩ := own_no i (hz.1 _ hi)
        unfold aggA at h1
        split at h1
        · rename_i ds' hds
          have h3 := toDs_eq hds
          have h4 : A.own j ∈ cs.map fun x => (handA cv o x).1 := List.mem_map.2 ⟨_, hi, hj⟩
          rw [h3] at h4
          obtain ⟨_, _, h5⟩ := List.mem_map.1 h4
          cases h5
        · cases h1
      · obtain ⟨j, hj⟩ := pre_no i k (hz.1 _ hi)
        unfold aggA at h1
        split at h1
        · rename_i ds' hds
          have h3 := toDs_eq hds
          have h4 : A.pre j k ∈ cs.map fun x => (handA cv o x).1 := List.mem_map.2 ⟨_, hi, hj⟩
          rw [h3] at h4
          obtain ⟨_, _, h5⟩ := List.mem_map.1 h4
          cases h5
        · cases h1
    | d y =>
      cases y with
      | agg cs => simp only [handL] at h hz; obtain ⟨_, r', _, h2, _⟩ := toDs_cons h; show NoOwn r; exact noOwn_of h2 hz
      | _ => simp only [handL, List.append_eq_nil_iff] at h hz; obtain ⟨_, r', _, h2, _⟩ := toDs_cons h; show NoOwn r; exact noOwn_of h2 hz.2
    | ref i off => simp only [handL, List.append_eq_nil_iff] at h hz; obtain ⟨_, r', _, h2, _⟩ := toDs_cons h; show NoOwn r; exact noOwn_of h2 hz.2
    | eref i k sz off => simp only [handL, List.append_eq_nil_iff] at h hz; obtain ⟨_, r', _, h2, _⟩ := toDs_cons h; show NoOwn r; exact noOwn_of h2 hz.2
    | fn f a b => simp only [handL, List.append_eq_nil_iff] at h hz; obtain ⟨_, r', _, h2, _⟩ := toDs_cons h; show NoOwn r; exact noOwn_of h2 hz.2
    | tup xs => simp only [handL, List.append_eq_nil_iff] at h hz; obtain ⟨_, r', _, h2, _⟩ := toDs_cons h; show NoOwn r; exact noOwn_of h2 hz.2
    | lst xs => simp only [handL, List.append_eq_nil_iff] at h hz; obtain ⟨_, r', _, h2, _⟩ := toDs_cons h; show NoOwn r; exact noOwn_of h2 hz.2
    | lptr x => simp only [handL, List.append_eq_nil_iff] at h hz; obtain ⟨_, r', _, h2, _⟩ := toDs_cons h; show NoOwn r; exact noOwn_of h2 hz.2
    | unk => simp only [handL, List.append_eq_nil_iff] at h hz; obtain ⟨_, r', _, h2, _⟩ := toDs_cons h; show NoOwn r; exact noOwn_of h2 hz.2

theorem elems_same {o o' : Nat → Option Ob} {x : A} {ys : List (List D)} {rd : List Nat} (h : elemsOf o x = some (ys, rd)) (ho : ∀ i ∈ rd, o' i = o i) : elemsOf o' x = some (ys, rd) := by
  unfold elemsOf at h ⊢
  split at h
  · exact h
  · exact h
  · rename_i i
    split at h
    · rename_i T es he
      simp only [Option.some.injEq, Prod.mk.injEq] at h
      obtain ⟨rfl, rfl⟩ := h
      simp only [ho i (by simp), he]
    · cases h
  · rename_i i k
    split at h
    · rename_i T es he
      simp only [Option.some.injEq, Prod.mk.injEq] at h
      obtain ⟨rfl, rfl⟩ := h
      simp only [ho i (by simp), he]
    · cases h
  · cases h

theorem eff_frame {tb : TB} {S : Sums} {op : Op} {dst : Option Tmp} {g g' : Nat → A} {o o' : Nat → Option Ob} {nid : Nat} {e : Eff} (h : effOp tb S op dst g o nid (fun e' => e' = e)) (hg : ∀ x ∈ op.operands.toList, opA g' x = opA g x)
    (ho : ∀ i ∈ e.rd, o' i = o i) (hz : e.frz = []) (hc : e.clr = []) : effOp tb S op dst g' o' nid (fun e' => e' = e) := by
  cases op with
  | move x => simp only [effOp] at h ⊢; rw [hg x (by simp [Op.operands])]; exact h
  | assign x => simp only [effOp] at h ⊢; rw [hg x (by simp [Op.operands])]; exact h
  | pick c x y => simp only [effOp] at h ⊢; rw [hg c (by simp [Op.operands]), hg x (by simp [Op.operands]), hg y (by simp [Op.operands])]; exact h
  | alloc T => exact h
  | box T x => simp only [effOp] at h ⊢; rw [hg x (by simp [Op.operands])]; exact h
  | build T ps =>
    simp only [effOp] at h ⊢
    have : (ps.toList.map fun p => (p.1, opA g' p.2)) = ps.toList.map fun p => (p.1, opA g p.2) :=
      List.map_congr_left fun p hp => by rw [hg p.2 (by simp only [Op.operands, List.toList_toArray]; exact List.mem_map.2 ⟨p, hp, rfl⟩)]
    rw [this]; exact h
  | buildSlice T len ps =>
    simp only [effOp] at h ⊢
    have : (ps.toList.map fun p => (p.1, opA g' p.2)) = ps.toList.map fun p => (p.1, opA g p.2) :=
      List.map_congr_left fun p hp => by rw [hg p.2 (by simp only [Op.operands, List.toList_toArray]; exact List.mem_map.2 ⟨p, hp, rfl⟩)]
    have e2 : (ps.toList.map fun p => opA g' p.2) = ps.toList.map fun p => opA g p.2 :=
      List.map_congr_left fun p hp => hg p.2 (by simp only [Op.operands, List.toList_toArray]; exact List.mem_map.2 ⟨p, hp, rfl⟩)
    rw [this, e2]
    split at h
    · rename_i el s1 s2 z bk hT
      split at h
      · rename_i y hy
        cases hb : Nat.beq len 0 with
        | true => simp only [hb, cond_true] at h ⊢; exact h
        | false =>
          simp only [hb, cond_false] at h ⊢
          cases hb2 : (Nat.beq ps.size len && Nat.ble (len * y.size) 16777216) with
          | false => rw [hb2] at h; exact h.elim
          | true =>
            simp only [hb2, cond_true] at h ⊢
            cases hFn : (y.k.fnB && Nat.beq y.size 1 && (ps.toList.map fun p => opA g p.2).any A.fnB) with
            | true => simp only [hFn, cond_true] at h ⊢; exact h
            | false =>
              simp only [hFn, cond_false] at h ⊢
              cases hOw : (ps.toList.map fun p => opA g p.2).any A.ownB with
              | false => simp only [hOw, cond_false] at h ⊢; exact h
              | true =>
                simp only [hOw, cond_true] at h
                exfalso
                generalize handL true o (ps.toList.map fun p => opA g p.2) = H at h
                obtain ⟨as, frz⟩ := H
                dsimp only at h
                cases hfe : frz.isEmpty with
                | true => simp only [hfe, Bool.not_true, cond_false] at h
                | false =>
                  simp only [hfe, Bool.not_false, cond_true] at h
                  have key : ∀ (sz : Nat) (l : List (Nat × A)) (k : Nat) (f : List (List D) → List (List D)), (effOp.buildRows sz l k fun es => effFz dst (.d (.seq (f es))) frz (fun e' => e' = e)) → e.frz = frz := by
                    intro sz l
                    induction l with
                    | nil =>
                      intro k f h
                      simp only [effOp.buildRows, effFz] at h
                      cases dst with
                      | some d => simp only [fA_eq] at h; rw [← h]
                      | none => rw [← h]
                    | cons x l ih =>
                      intro k f h
                      obtain ⟨i, x⟩ := x
                      simp only [effOp.buildRows] at h
                      cases hb : Nat.beq i k with
                      | false => rw [hb] at h; exact h.elim
                      | true =>
                        rw [hb] at h
                        simp only [cond_true, withCells_eq] at h
                        obtain ⟨cs, hc, h⟩ := h
                        split at h
                        · rename_i ds hds
                          cases hb2 : (Nat.beq ds.length sz && cs.all A.one) with
                          | false => rw [hb2] at h; exact h.elim
                          | true =>
                            rw [hb2] at h
                            simp only [cond_true] at h
                            exact ih (k + 1) (fun es => f (ds :: es)) h
                        · exact h.elim
                  have := key y.size _ 0 id h
                  rw [hz] at this
                  rw [← this] at hfe
                  cases hfe
      · exact h.elim
    · exact h.elim
  | load T x =>
    simp only [effOp] at h ⊢
    rw [hg x (by simp [Op.operands])]
    cases hT : tb T with
    | none => rw [hT] at h; exact h.elim
    | some y =>
      simp only [hT] at h ⊢
      cases hx : opA g x with
      | ref i off =>
        simp only [hx] at h ⊢
        have hi : i ∈ e.rd := by
          split at h
          · cases ha : y.k.agg with
            | true => simp only [ha, cond_true] at h; obtain ⟨ds, _, _, h⟩ := h; rw [rd_put h]; simp
            | false => simp only [ha, cond_false] at h; obtain ⟨c, _, h⟩ := h; rw [rd_put h]; simp
          · cases ha : y.k.agg with
            | true =>
              simp only [ha, cond_true, fL_eq] at h
              rename_i cs _
              cases hb : Nat.beq ((cs.drop off).take y.size).length y.size with
              | true => rw [hb] at h; rw [rd_put h]; simp
              | false => rw [hb] at h; exact h.elim
            | false =>
              simp only [ha, cond_false] at h
              split at h
              · rw [rd_put h]; simp
              · exact h.elim
          · cases ha : y.k.agg with
            | true => simp only [ha, cond_true] at h; obtain ⟨ds, _, _, h⟩ := h; rw [rd_put h]; simp
            | false => simp only [ha, cond_false] at h; obtain ⟨c, _, h⟩ := h; rw [rd_put h]; simp
          · exact h.elim
        rw [ho i hi]; exact h
      | eref i k sz off =>
        simp only [hx] at h ⊢
        have hi : i ∈ e.rd := by
          split at h
          · rename_i T' es _
            obtain ⟨el, _, h⟩ := h
            cases hb : Nat.beq sz el.length with
            | false => rw [hb] at h; exact h.elim
            | true =>
              rw [hb] at h
              simp only [cond_true] at h
              cases ha : y.k.agg with
              | true => simp only [ha, cond_true] at h; rw [rd_put h.2]; simp
              | false => simp only [ha, cond_false] at h; obtain ⟨c, _, h⟩ := h; rw [rd_put h]; simp
          · exact h.elim
        rw [ho i hi]; exact h
      | d z => simp only [hx] at h ⊢; cases z <;> first | exact h | exact h.elim
      | lptr z => simp only [hx] at h ⊢; exact h
      | _ => simp only [hx] at h
  | store T x v =>
    simp only [effOp] at h ⊢
    rw [hg x (by simp [Op.operands]), hg v (by simp [Op.operands])]
    cases hT : tb T with
    | none => rw [hT] at h; exact h.elim
    | some y =>
      simp only [hT] at h ⊢
      cases hx : opA g x with
      | ref i off =>
        simp only [hx] at h ⊢
        have hi : i ∈ e.rd := by
          split at h
          · cases ha : y.k.agg with
            | true => simp only [ha, cond_true] at h; obtain ⟨vs, _, _, _, _, h⟩ := h; rw [rd_set h]; simp
            | false =>
              simp only [ha, cond_false, fA_eq] at h
              obtain ⟨_, h⟩ := h
              cases hb : ((opA g v).one && Nat.beq y.size 1) with
              | true => rw [hb] at h; rw [rd_set h]; simp
              | false => rw [hb] at h; exact h.elim
          · rename_i T' cs _
            rw [withCells_eq] at h
            obtain ⟨vs, _, h⟩ := h
            cases hb : (Nat.beq vs.length y.size && Nat.ble (off + vs.length) cs.length && vs.all A.one) with
            | true => rw [hb] at h; simp only [cond_true, fL_eq] at h; rw [rd_set h]; simp
            | false => rw [hb] at h; exact h.elim
          · exact h.elim
        rw [ho i hi]; exact h
      | eref i k sz off =>
        simp only [hx] at h ⊢
        have hi : i ∈ e.rd := by
          split at h
          · rename_i e' es _
            rw [withCells_eq] at h
            obtain ⟨vs, _, h⟩ := h
            split at h
            · rename_i ds _
              cases hb : (Nat.beq ds.length y.size && vs.all A.one) with
              | true => rw [hb] at h; simp only [cond_true] at h; obtain ⟨el, _, _, _, es', _, h⟩ := h; rw [rd_set h]; simp
              | false => rw [hb] at h; exact h.elim
            · exact h.elim
          · exact h.elim
        rw [ho i hi]; exact h
      | _ => simp only [hx] at h
  | nilCheck x => simp only [effOp] at h ⊢; rw [hg x (by simp [Op.operands])]; exact h
  | binOp op T x y T' => simp only [effOp] at h ⊢; rw [hg x (by simp [Op.operands]), hg y (by simp [Op.operands])]; exact h
  | unOp op T x => simp only [effOp] at h ⊢; rw [hg x (by simp [Op.operands])]; exact h
  | convert s d x => simp only [effOp] at h ⊢; rw [hg x (by simp [Op.operands])]; exact h
  | fieldAddr T x f => simp only [effOp] at h ⊢; rw [hg x (by simp [Op.operands])]; exact h
  | indexAddr T x ix =>
    simp only [effOp] at h ⊢
    rw [hg x (by simp [Op.operands]), hg ix (by simp [Op.operands])]
    split at h
    · rename_i e' s1 s2 z bk hT
      split at h
      · rename_i y hy
        cases hx : opA g x with
        | own i =>
          simp only [hx] at h ⊢
          have hi : i ∈ e.rd := by
            split at h
            · simp only [isInt] at h
              split at h
              · obtain ⟨k, _, _, h⟩ := h; rw [rd_put h]; simp
              · exact h.elim
            · exact h.elim
          rw [ho i hi]; exact h
        | d z => simp only [hx] at h ⊢; cases z <;> first | exact h | exact h.elim
        | lst z => simp only [hx] at h ⊢; exact h
        | _ => simp only [hx] at h
      · exact h.elim
    · exact h
    · exact h.elim
  | makeMap T r => exact h
  | lookup T x ix ok =>
    simp only [effOp] at h ⊢
    rw [hg x (by simp [Op.operands]), hg ix (by simp [Op.operands])]
    split at h
    · rename_i k e' s1 s2 z fl i key hTy hx hix
      have hi : i ∈ e.rd := by
        split at h
        · rename_i k' e' es y ho' hy
          cases hb : (Nat.beq k k' && Nat.beq _ e' && keyB tb k key) with
          | false => rw [hb] at h; exact h.elim
          | true =>
            rw [hb] at h
            simp only [cond_true] at h
            obtain ⟨r, hr, h⟩ := h
            cases r <;> cases ok <;> (rw [rd_put h]; simp)
        · exact h.elim
      simp only [ho i hi]
      exact h
    · exact h.elim
  | mapUpdate T x ix v =>
    simp only [effOp] at h ⊢
    rw [hg x (by simp [Op.operands]), hg ix (by simp [Op.operands]), hg v (by simp [Op.operands])]
    split at h
    · rename_i k e' s1 s2 z fl i key v hTy hx hix hv
      have hi : i ∈ e.rd := by
        split at h
        · rename_i k' e' es ho'
          cases hb : (Nat.beq k k' && Nat.beq _ e' && keyB tb k key) with
          | false => rw [hb] at h; exact h.elim
          | true =>
            rw [hb] at h
            simp only [cond_true] at h
            obtain ⟨r, hr, h⟩ := h
            rw [rd_set h]; simp
        · exact h.elim
      simp only [ho i hi]
      exact h
    · exact h.elim
  | makeFunc fn first caps =>
    have e1 : first.toList.map (opA g') = first.toList.map (opA g) := List.map_congr_left fun x hx => hg x (by simp only [Op.operands, Array.toList_append]; exact List.mem_append_left _ hx)
    have e2 : caps.toList.map (opA g') = caps.toList.map (opA g) := List.map_congr_left fun x hx => hg x (by simp only [Op.operands, Array.toList_append]; exact List.mem_append_right _ hx)
    simp only [effOp] at h ⊢
    rw [e1, e2]; exact h
  | slice T x lo hi mx =>
    have b : ∀ (z : Option Operand) (d : Nat) (K : Nat → Prop), (∀ y, z = some y → opA g' y = opA g y) → bnd g' z d K = bnd g z d K := by
      intro z d K hz
      unfold bnd
      cases z with
      | none => rfl
      | some y => simp only [hz y rfl]
    have e1 : opA g' x = opA g x := hg x (by simp [Op.operands])
    have e2 : ∀ y, lo = some y → opA g' y = opA g y := fun y hy => hg y (by simp [Op.operands, hy])
    have e3 : ∀ y, hi = some y → opA g' y = opA g y := fun y hy => hg y (by simp [Op.operands, hy])
    simp only [effOp, b _ _ _ e2, b _ _ _ e3, e1] at h ⊢
    cases mx with
    | some z => exact h
    | none =>
      simp only at h ⊢
      split at h
      · split at h
        · cases hx : opA g x with
          | own i =>
            simp only [hx] at h ⊢
            have hi : i ∈ e.rd := by
              split at h
              · rename_i d e' es _
                cases hb : Nat.beq _ e' with
                | false => rw [hb] at h; exact h.elim
                | true =>
                  rw [hb] at h
                  simp only [cond_true, bnd] at h
                  split at h
                  · obtain ⟨_, h⟩ := h
                    rcases h with ⟨es', _, h⟩ | h
                    · rw [← h] at hc; cases hc
                    · rw [← h]; simp
                  · simp only [isInt] at h
                    split at h
                    · obtain ⟨k, _, _, h⟩ := h
                      rcases h with ⟨es', _, h⟩ | h
                      · rw [← h] at hc; cases hc
                      · rw [← h]; simp
                    · exact h.elim
              · exact h.elim
            rw [ho i hi]; exact h
          | d z => simp only [hx] at h ⊢; cases z <;> first | exact h | exact h.elim
          | _ => simp only [hx] at h
        · exact h
      · split at h
        · split at h
          · rename_i i d hx
            have hi : i ∈ e.rd := by
              split at h
              · simp only [bnd] at h
                split at h
                · obtain ⟨_, es, _, _, _, h⟩ := h; rw [← h]; simp
                · simp only [isInt] at h
                  split at h
                  · obtain ⟨k, _, _, es, _, _, _, h⟩ := h; rw [← h]; simp
                  · exact h.elim
              · exact h.elim
            rw [ho i hi]; exact h
          · exact h
        · exact h
      · exact h
  | makeSlice T l c =>
    simp only [effOp] at h ⊢
    rw [hg l (by simp [Op.operands]), hg c (by simp [Op.operands])]; exact h
  | extract t i => simp only [effOp] at h ⊢; rw [hg t (by simp [Op.operands])]; exact h
  | field T x i => simp only [effOp] at h ⊢; rw [hg x (by simp [Op.operands])]; exact h
  | index T x i => simp only [effOp] at h ⊢; rw [hg x (by simp [Op.operands]), hg i (by simp [Op.operands])]; exact h
  | call c =>
    have hargs : c.args.toList.map (opA g') = c.args.toList.map (opA g) := List.map_congr_left fun x hx => hg x (by simp only [Op.operands, Call.operands, Array.toList_append]; exact List.mem_append_right _ hx)
    cases hcc : c.callee with
    | value f =>
      have hf : opA g' f = opA g f := hg f (by simp [Op.operands, Call.operands, hcc])
      simp only [effOp, hcc] at h ⊢
      rw [hf, hargs]
      split at h
      · rename_i fid first caps hfn
        rcases h with h | ⟨ρ, N, r, post, hS, h⟩
        · obtain ⟨as, frz, hh⟩ : ∃ as frz, handL true o (first ++ c.args.toList.map (opA g) ++ caps) = (as, frz) := ⟨_, _, rfl⟩
          rw [hh] at h
          simp only at h
          have hl : handL true o' (first ++ c.args.toList.map (opA g) ++ caps) = (as, frz) := by
            split at h
            · rename_i ds hds
              obtain ⟨r, _, h⟩ := h
              have hrd : e.rd = frz.map (·.1) := by
                unfold effPure at h
                split at h
                · cases dst with
                  | some d => simp only [fA_eq] at h; rw [← h]; rfl
                  | none => simp only at h; rw [← h]; rfl
                · rcases h with ⟨_, h⟩ | h
                  · cases dst with
                    | some d => simp only [fA_eq] at h; rw [← h]
                    | none => simp only at h; rw [← h]
                  · cases dst with
                    | some d => simp only [fA_eq] at h; rw [← h]
                    | none => simp only at h; rw [← h]
              have hin := ownIds_in (o := o) (l := first ++ c.args.toList.map (opA g) ++ caps) (ds := ds) (by rw [hh]; exact hds)
              rw [hh] at hin
              rw [handL_own (o := o), hh]
              intro i hi
              exact ho i (by rw [hrd]; exact hin i hi)
            · exact h.elim
          rw [hl]
          exact .inl h
        · obtain ⟨as, frz, hh⟩ : ∃ as frz, handL false (hideO ρ o) (first ++ c.args.toList.map (opA g) ++ caps) = (as, frz) := ⟨_, _, rfl⟩
          rw [hh] at h hS
          simp only at h hS
          cases hb : borB ρ nid N S.w (pres o frz ρ) post with
          | false => rw [hb] at h; exact h.elim
          | true =>
            rw [hb, cond_true] at h
            by_cases hfr : frB S.w frz = true
            · rw [hfr, cond_true] at h
              have h2 : e.rd = ρ ++ frz.map (·.1) ++ ownIds (first ++ (c.args.toList.map (opA g)) ++ caps) ∧ ρ = [] := by
                unfold effFr at h
                split at h
                · obtain ⟨_, h⟩ := h
                  cases dst with
                  | some d => simp only at h; rw [← h]; exact ⟨rfl, rfl⟩
                  | none => simp only at h; rw [← h]; exact ⟨rfl, rfl⟩
                · exact h.elim
              have hl : handL false (hideO ρ o') (first ++ c.args.toList.map (opA g) ++ caps) = (as, frz) := by
                rw [handL_own (o := hideO ρ o), hh]
                intro i hi
                unfold hideO
                rw [ho i (by rw [h2.1]; exact List.mem_append_right _ hi)]
              have hp : pres o' frz ρ = pres o frz ρ := by
                rw [h2.2]
                unfold pres
                cases frz <;> rfl
              refine .inr ⟨ρ, N, r, post, by rw [hl]; simp only; rw [hp]; exact hS, ?_⟩
              rw [hl]
              simp only
              rw [hp, hb, cond_true, hfr]
              exact h
            rw [Bool.not_eq_true] at hfr
            rw [hfr, cond_false] at h
            have h2 : e.frz = frz ∧ e.rd = ρ ++ frz.map (·.1) ++ ownIds (first ++ (c.args.toList.map (opA g)) ++ caps) := by
              unfold effBor at h
              cases dst with
              | some d => simp only [forceA_eq, outObs_eq] at h; rw [← h]; exact ⟨rfl, rfl⟩
              | none => simp only [outObs_eq] at h; rw [← h]; exact ⟨rfl, rfl⟩
            have hz2 : frz = [] := by rw [← h2.1]; exact hz
            have hl : handL false (hideO ρ o') (first ++ c.args.toList.map (opA g) ++ caps) = (as, frz) := by
              rw [handL_own (o := hideO ρ o), hh]
              intro i hi
              unfold hideO
              rw [ho i (by rw [h2.2]; exact List.mem_append_right _ hi)]
            have hp : pres o' frz ρ = pres o frz ρ := by
              rw [hz2]
              unfold pres
              exact List.map_congr_left fun j hj => by rw [ho j (by rw [h2.2]; exact List.mem_append_left _ (List.mem_append_left _ hj))]
            refine .inr ⟨ρ, N, r, post, by rw [hl]; simp only; rw [hp]; exact hS, ?_⟩
            rw [hl]
            simp only
            rw [hp, hb, cond_true, hfr]
            exact h
      · split at h
        · rename_i i hfo
          have key : ∀ k ds, o i = some (.env k) → toDs (handL true o (c.args.toList.map (opA g))).1 = some ds → e.rd = i :: (handL true o (c.args.toList.map (opA g))).2.map (·.1) → e.frz = (handL true o (c.args.toList.map (opA g))).2 →
              o' i = o i ∧ handL true o' (c.args.toList.map (opA g)) = handL true o (c.args.toList.map (opA g)) := by
            intro k ds h1 h2 h3 h4
            refine ⟨ho i (by rw [h3]; simp), handL_same (noOwn_of h2 (by rw [← h4]; exact hz))⟩
          split at h
          · rename_i k hi
            split at h
            · rename_i ds hds
              obtain ⟨b, hy, h⟩ := h
              have h3 : e.rd = i :: (handL true o (c.args.toList.map (opA g))).2.map (·.1) ∧ e.frz = (handL true o (c.args.toList.map (opA g))).2 := by
                cases dst with
                | some d => simp only at h; rw [← h]; exact ⟨rfl, rfl⟩
                | none => simp only at h; rw [← h]; exact ⟨rfl, rfl⟩
              obtain ⟨q1, q2⟩ := key k ds hi hds h3.1 h3.2
              rw [q1, q2]
              simp only [hi, hds]
              exact ⟨b, hy, h⟩
            · exact h.elim
          · exact h.elim
        · exact h.elim
    | builtin b =>
      cases b with
      | len =>
        simp only [effOp, hcc] at h ⊢
        split at h
        · rename_i x T hx hT
          rw [hg x (by simp [Op.operands, Call.operands, hcc, hx])]
          split at h
          · split at h
            · rename_i i hxi
              have hi : i ∈ e.rd := by
                split at h
                · rw [rd_put h]; simp
                · exact h.elim
              rw [ho i hi]
              exact h
            · exact h.elim
          · split at h
            · rename_i es rd hel
              rw [elems_same hel (fun i hi => ho i (by rw [rd_put h]; exact hi))]
              exact h
            · exact h.elim
          · exact h.elim
        · exact h.elim
      | max =>
        simp only [effOp, hcc] at h ⊢
        split at h
        · rename_i x y hx
          rw [hg x (by simp [Op.operands, Call.operands, hcc, hx]), hg y (by simp [Op.operands, Call.operands, hcc, hx])]
          exact h
        · exact h.elim
      | min =>
        simp only [effOp, hcc] at h ⊢
        split at h
        · rename_i x y hx
          rw [hg x (by simp [Op.operands, Call.operands, hcc, hx]), hg y (by simp [Op.operands, Call.operands, hcc, hx])]
          exact h
        · exact h.elim
      | append =>
        simp only [effOp, hcc] at h ⊢
        split at h
        · rename_i s x T T' d hx hT
          rw [hg x (by simp [Op.operands, Call.operands, hcc, hx]), hg s (by simp [Op.operands, Call.operands, hcc, hx])]
          split at h
          · rename_i e0 s1 s2 z bk hTy
            split at h
            · rename_i y ys rd hy hel
              cases hb : (Nat.beq T T' && Nat.blt 0 y.size && Nat.blt 0 y.bytes) with
              | false => rw [hb] at h; exact h.elim
              | true =>
                have h0 := h
                rw [hb] at h
                simp only [cond_true] at h
                split at h
                · rename_i hs
                  obtain ⟨h1, h2, h⟩ := h
                  have hrd : e.rd = rd := by rw [← h]
                  rw [hy, elems_same hel (fun i hi => ho i (by rw [hrd]; exact hi))]
                  simp only [hs] at h0 ⊢
                  exact h0
                · rename_i i hs
                  split at h
                  · rename_i e' es ho'
                    cases hb2 : (Nat.beq e0 e' && !rd.contains i) with
                    | false => rw [hb2] at h; exact h.elim
                    | true =>
                      rw [hb2] at h
                      simp only [cond_true] at h
                      obtain ⟨h1, h2, h⟩ := h
                      cases hW : Nat.beq S.w 4 with
                      | false => rw [hW, cond_false] at h; rw [← h] at hc; cases hc
                      | true =>
                        rw [hW, cond_true] at h
                        have hrd : e.rd = i :: rd := by rw [← h]
                        rw [hy, elems_same hel (fun j hj => ho j (by rw [hrd]; exact List.mem_cons_of_mem _ hj))]
                        simp only [hs] at h0 ⊢
                        rw [ho i (by rw [hrd]; exact List.mem_cons_self ..)]
                        rw [hW] at h0
                        exact h0
                  · exact h.elim
                · exact h.elim
            · exact h.elim
          · exact h.elim
        · exact h.elim
      | _ => simp only [effOp, hcc] at h
    | invoke r nm => simp only [effOp, hcc] at h
  | _ => simp only [effOp] at h
end Go.Ev

set_option linter.unusedVariables false
set_option linter.unusedSectionVars false
namespace Go.Ev
open RowKit

/-- One operation of a region, with its guard. -/
def evStep (tb : TB) (S : Sums) (l : List Oper) (x : Oper) (g : Nat → A) (o : Nat → Option Ob) (nid : Nat) (K : Eff → Prop) : Prop :=
  match x.guard with
  | none => effOp tb S x.op x.dst g o nid K
  | some (j, want) =>
    match ((l[j]?).bind (·.dst)).map g with
    | some (.d (.v (.bool b))) => (match want with
      | true => (b = true → effOp tb S x.op x.dst g o nid K) ∧ (b = false → effPut x.dst (.d (.v undef)) [] K)
      | false => (b = true → effPut x.dst (.d (.v undef)) [] K) ∧ (b = false → effOp tb S x.op x.dst g o nid K))
    | some (.d (.v (.tuple _))) => effPut x.dst (.d (.v undef)) [] K
    | _ => False

def freshB (n : Nat) (e : Eff) : Bool :=
  match e with
  | ⟨_, obs, _, new, _, _⟩ => ltB (n + new) obs
theorem freshB_eq (n : Nat) (e : Eff) : freshB n e = e.obs.all fun p => Nat.blt p.1 (n + e.new) := by
  obtain ⟨_, obs, _, new, _, _⟩ := e
  exact ltB_eq _ _

/- (these recursions are laid by the recursors themselves: so the kernel and the elaborator reduce them alike) -/
def evSeqN : St → (St → Prop) → Prop := fun s K => K s
def evSeqM (tb : TB) (S : Sums) (l : List Oper) (x : Oper) (_r : List Oper) (ih : St → (St → Prop) → Prop) : St → (St → Prop) → Prop := fun s K =>
  gN s fun n => evStep tb S l x s.get s.obj n fun e => bif freshB n e then s.app e fun s => fS s fun s => ih s K else False
noncomputable def evSeq (tb : TB) (S : Sums) (l : List Oper) (ops : List Oper) (s : St) (K : St → Prop) : Prop :=
  List.rec (motive := fun _ => St → (St → Prop) → Prop) evSeqN (evSeqM tb S l) ops s K
theorem evSeq_nil {tb : TB} {S : Sums} {l : List Oper} {s : St} {K : St → Prop} : evSeq tb S l [] s K = K s := rfl
theorem evSeq_cons {tb : TB} {S : Sums} {l : List Oper} {x : Oper} {r : List Oper} {s : St} {K : St → Prop} : evSeq tb S l (x :: r) s K = gN s fun n => evStep tb S l x s.get s.obj n fun e =>
      bif freshB n e then s.app e fun s => fS s fun s => evSeq tb S l r s K else False := rfl

def St.ok (s : St) : Prop := ∀ i, s.n ≤ i → s.obj i = none

section
variable {tb : TB} {X : Ctx} {P : Program} {Wn : Nat} {Y : Nat → List D → Bool → Prop} {F : Fence} {n : Nat} {g : Nat → A} {o : Nat → Option Ob} {a : Act} {w : World} {G : Nat → Option GR} {I : Nat → Prop} {K : Eff → Prop} {x : Oper} {ops : Array Oper} {nid : Nat}

theorem Mod.yielded_bool (m : Mod tb X g o a w G I) {j : Nat} {b : Bool} (h : ((ops.toList[j]?).bind (·.dst)).map g = some (.d (.v (.bool b)))) : yielded ops a.tmps j = some b := by
  cases hd : (ops[j]?).bind (·.dst) with
  | none => rw [Array.getElem?_toList, hd] at h; cases h
  | some d =>
    rw [Array.getElem?_toList, hd] at h
    simp only [Option.map_some, Option.some.injEq] at h
    have := m.slots d
    rw [h, RepA, RepD] at this
    unfold yielded
    rw [hd]
    rcases Nat.lt_or_ge d a.tmps.size with hl | hl
    · simp [hl] at this
      simp [hl, this]
    · simp [Array.getD, Nat.not_lt.2 hl, undef] at this

theorem Mod.yielded_none (m : Mod tb X g o a w G I) {j : Nat} {c : Array Value} (h : ((ops.toList[j]?).bind (·.dst)).map g = some (.d (.v (.tuple c)))) : yielded ops a.tmps j = none := by
  cases hd : (ops[j]?).bind (·.dst) with
  | none => rw [Array.getElem?_toList, hd] at h; cases h
  | some d =>
    rw [Array.getElem?_toList, hd] at h
    simp only [Option.map_some, Option.some.injEq] at h
    have := m.slots d
    rw [h, RepA, RepD] at this
    unfold yielded
    rw [hd]
    rcases Nat.lt_or_ge d a.tmps.size with hl | hl
    · simp [hl] at this
      simp [hl, this]
    · simp [Array.getElem?_eq_none hl]

/-- The operation, if it is wanted, and what it leaves. -/
def StepDoes (F : Fence) (n : Nat) (P : Program) (ops : Array Oper) (x : Oper) (next : Act → World → Prop) (Q : Exit → Act → World → Prop) (a : Act) (w : World) : Prop :=
  if Region.wanted x (yielded ops a.tmps) then x.wpIn F n P a w next Q else (∀ f, x.about P w a.eval = some f → F.fn f) ∧ next (a.put x.dst undef) w

theorem undef_step (hF : Wide F) (m : Mod tb X g o a w G I) (hdst : ∀ d, x.dst = some d → d < X.nt) (hw : Region.wanted x (yielded ops a.tmps) = false) (h : effPut x.dst (.d (.v undef)) [] K) :
    ∃ e, K e ∧ ∀ next Q, (∀ a' w' G' I', Mod tb X (appG e g) (appO e o) a' w' G' I' → next a' w') → StepDoes F n P ops x next Q a w := by
  have m2 := m.slotE hdst (x := .d (.v undef)) (v := undef) (by rw [RepA, RepD])
  unfold effPut at h
  cases hd : x.dst with
  | some d =>
    simp only [hd, fA_eq] at h
    refine ⟨_, h, fun next Q hn => ?_⟩
    unfold StepDoes
    rw [hw]
    refine ⟨fun _ _ => hF.fn _, hn _ _ G I ?_⟩
    rw [appO_id rfl rfl rfl, hd]
    rw [hd] at m2
    exact m2
  | none =>
    simp only [hd] at h
    refine ⟨_, h, fun next Q hn => ?_⟩
    unfold StepDoes
    rw [hw]
    refine ⟨fun _ _ => hF.fn _, hn _ _ G I ?_⟩
    rw [appO_id rfl rfl rfl, hd]
    rw [hd] at m2
    exact m2

theorem step_sound (hP : PG P tb) (hF : Wide F) (hE : EnvOK P X.E Y) (m : Mod tb X g o a w G I) (hdst : ∀ d, x.dst = some d → d < X.nt) (hn : o nid = none) (hw : ∀ k, k < Wn → o (nid + k) = none) (hnb : X.nb ≤ nid)
    (h : evStep tb (Con P tb Wn Y) ops.toList x g o nid K) : ∃ e, K e ∧ ∀ next Q, (∀ a' w' G' I', Mod tb X (appG e g) (appO e o) a' w' G' I' → next a' w') → StepDoes F n P ops x next Q a w := by
  unfold evStep at h
  split at h
  · rename_i hg
    obtain ⟨e, hK, hd⟩ := eff_sound (F := F) (n := n) hP hF hE m hdst hn hw hnb h
    refine ⟨e, hK, fun next Q hnx => ?_⟩
    unfold StepDoes
    rw [if_pos (by simp [Region.wanted, hg])]
    exact hd next Q hnx
  · rename_i j want hg
    split at h
    · rename_i b hb
      have hy := m.yielded_bool (ops := ops) hb
      by_cases e : b = want
      · have h : effOp tb (Con P tb Wn Y) x.op x.dst g o nid K := by cases want with
          | true => exact And.left h e
          | false => exact And.right h e
        obtain ⟨e', hK, hd⟩ := eff_sound (F := F) (n := n) hP hF hE m hdst hn hw hnb h
        refine ⟨e', hK, fun next Q hnx => ?_⟩
        unfold StepDoes
        rw [if_pos (by simp [Region.wanted, hg, hy, e])]
        exact hd next Q hnx
      · exact undef_step hF m hdst (by simp [Region.wanted, hg, hy, e]) (by cases want <;> cases b <;> first | exact absurd rfl e | exact And.left h rfl | exact And.right h rfl)
    · rename_i c hb
      have hy := m.yielded_none (ops := ops) hb
      exact undef_step hF m hdst (by simp [Region.wanted, hg, hy]) h
    · exact h.elim

theorem step_ex {S : Sums} {l : List Oper} (h : evStep tb S l x g o nid K) : ∃ e, K e ∧ evStep tb S l x g o nid (fun e' => e' = e) := by
  unfold evStep at h ⊢
  split at h
  · exact eff_ex h
  · split at h
    · rename_i j want hg _ b hb
      cases want with
      | true =>
        cases b with
        | true => obtain ⟨e', h1, h2⟩ := eff_ex (And.left h rfl); exact ⟨e', h1, And.intro (fun _ => h2) (fun he => nomatch he)⟩
        | false => obtain ⟨e', h1, h2⟩ := ex_put (And.right h rfl); exact ⟨e', h1, And.intro (fun he => nomatch he) (fun _ => h2)⟩
      | false =>
        cases b with
        | true => obtain ⟨e', h1, h2⟩ := ex_put (And.left h rfl); exact ⟨e', h1, And.intro (fun _ => h2) (fun he => nomatch he)⟩
        | false => obtain ⟨e', h1, h2⟩ := eff_ex (And.right h rfl); exact ⟨e', h1, And.intro (fun he => nomatch he) (fun _ => h2)⟩
    · exact ex_put h
    · exact h.elim

theorem opA_looks {g g' : Nat → A} (h : ∀ t ∈ x.looksAt ops, g' t = g t) : ∀ y ∈ x.op.operands.toList, opA g' y = opA g y := by
  intro y hy
  cases y with
  | tmp t => exact h t (List.mem_append_left _ (List.mem_filterMap.2 ⟨.tmp t, hy, rfl⟩))
  | _ => rfl

theorem step_frame {S : Sums} {g' : Nat → A} {o' : Nat → Option Ob} {e : Eff} (h : evStep tb S ops.toList x g o nid (fun e' => e' = e)) (hg : ∀ t ∈ x.looksAt ops, g' t = g t) (ho : ∀ i ∈ e.rd, o' i = o i)
    (hz : e.frz = []) (hc : e.clr = []) : evStep tb S ops.toList x g' o' nid (fun e' => e' = e) := by
  unfold evStep at h ⊢
  split at h
  · exact eff_frame h (opA_looks hg) ho hz hc
  · rename_i j want hgd
    have hm : ((ops.toList[j]?).bind (·.dst)).map g' = ((ops.toList[j]?).bind (·.dst)).map g := by
      cases hd : (ops.toList[j]?).bind (·.dst) with
      | none => rfl
      | some d =>
        simp only [Option.map_some, Option.some.injEq]
        refine hg d (List.mem_append_right _ ?_)
        rw [Array.getElem?_toList] at hd
        simp [hgd, hd]
    rw [hm]
    split at h
    · cases want with
      | true => exact And.intro (fun e => eff_frame (And.left h e) (opA_looks hg) ho hz hc) (And.right h)
      | false => exact And.intro (And.left h) (fun e => eff_frame (And.right h e) (opA_looks hg) ho hz hc)
    · exact h
    · exact h.elim

/-- A region that keeps its order. -/
theorem seq_sound {P : Program} {tb : TB} {Wn : Nat} {Y : Nat → List D → Bool → Prop} {F : Fence} (hP : PG P tb) (hF : Wide F) (hE : EnvOK P X.E Y) {Q : Exit → Act → World → Prop} {K : St → Prop} : ∀ (l : List Oper) (k : Nat) {a : Act} {w : World} {s : St} {G : Nat → Option GR} {I : Nat → Prop}, (∀ j, l[j]? = ops.toList[k + j]?) →
    (∀ y ∈ ops.toList, ∀ d, y.dst = some d → d < X.nt) → X.nb ≤ s.n → s.ok → Mod tb X s.get s.obj a w G I → evSeq tb (Con P tb Wn Y) ops.toList l s K →
    (∀ a' w' s' G' I', Mod tb X s'.get s'.obj a' w' G' I' → s'.ok → s.n ≤ s'.n → K s' → Q .normal a' w') → wpOpsIn F n P ops Q ((List.range' k l.length)) a w
  | [], k, a, w, s, G, I, _, _, _, hok, m, h, hQ => by
    simp only [List.length_nil, List.range'_zero, wpOpsIn]
    exact hQ a w s G I m hok (Nat.le_refl _) h
  | y :: r, k, a, w, s, G, I, hl, hd, hnb, hok, m, h, hQ => by
    have h0 : ops[k]? = some y := by rw [← Array.getElem?_toList]; simpa using (hl 0).symm
    have hy : y ∈ ops.toList := by rw [← Array.getElem?_toList] at h0; exact List.mem_of_getElem? h0
    simp only [List.length_cons, List.range'_succ, wpOpsIn, h0]
    rw [evSeq_cons, gN_eq] at h
    obtain ⟨e, hK, hstep⟩ := step_sound (F := F) (n := n) hP hF hE m (hd y hy) (hok _ (Nat.le_refl _)) (fun k _ => hok _ (by omega)) hnb h
    rw [freshB_eq] at hK
    cases hb : e.obs.all (fun p => Nat.blt p.1 (s.n + e.new)) with
    | false => rw [hb] at hK; exact hK.elim
    | true =>
      rw [hb, cond_true] at hK
      obtain ⟨s', hs1, hs2, hs3, hK, _⟩ := St.app_iff hK
      rw [fS_eq] at hK
      have hok' : s'.ok := fun i hi => by
        have hi' : s.n + e.new ≤ i := by omega
        rw [hs2]
        simp only [appO]
        have h1 : lookO e.obs i = none := by
          cases hlk : lookO e.obs i with
          | none => rfl
          | some z =>
            exfalso
            have : ∀ (ob : List (Nat × Ob)), lookO ob i = some z → ∃ p ∈ ob, p.1 = i := by
              intro ob
              induction ob with
              | nil => intro h; cases h
              | cons p ob ih =>
                obtain ⟨q, z'⟩ := p
                intro h
                rw [lookO] at h
                cases hq : Nat.beq q i with
                | true => exact ⟨(q, z'), by simp, by simpa using hq⟩
                | false => rw [hq] at h; obtain ⟨p, hp, e⟩ := ih h; exact ⟨p, by simp [hp], e⟩
            obtain ⟨p, hp, e2⟩ := this _ hlk
            have := List.all_eq_true.1 hb p hp
            simp at this
            omega
        rw [h1, hok i (by omega)]
        rfl
      refine hstep _ _ fun a' w' G' I' m' => ?_
      rw [← hs1, ← hs2] at m'
      exact seq_sound hP hF hE r (k + 1) (fun j => by have := hl (j + 1); simpa [Nat.add_assoc, Nat.add_comm 1 j] using this) hd (by rw [hs3]; omega) hok' m' hK
        (fun a2 w2 s2 G2 I2 m2 ok2 hle hK2 => hQ a2 w2 s2 G2 I2 m2 ok2 (Nat.le_trans (by rw [hs3]; omega) hle) hK2)
end
end Go.Ev

set_option linter.unusedVariables false
set_option linter.unusedSectionVars false
namespace Go.Ev
open RowKit

def predsOf (x : Oper) : List Nat := (x.after.toList.filter (Region.binds .any)).map (·.on)

/-- Is operation i surely ahead of operation j? -/
def reach (l : List Oper) : Nat → Nat → Nat → Bool
  | 0, _, _ => false
  | f + 1, j, i => match l[j]? with
    | some x => (predsOf x).any (fun p => Nat.beq p i) || (predsOf x).any (fun p => Nat.ble i p && reach l f p i)
    | none => false

def drawB (l : List Oper) : Bool :=
  (List.range l.length).all fun j => match l[j]? with
    | some y => (predsOf y).all (fun p => Nat.blt p j) && (List.range j).all fun i => match l[i]? with
      | some x => x.apart l.toArray y || reach l l.length j i
      | none => true
    | none => true

def disj (a b : List Nat) : Bool := a.all fun x => b.all fun y => !Nat.beq x y

def memB (l : List Oper) (N : Nat) : List (Nat × List Nat × List Nat) → Bool
  | [] => true
  | (j, w, r) :: rest => (rest.all fun q => (disj q.2.1 w && disj q.2.1 r && disj q.2.2 w) || reach l N j q.1) && memB l N rest

def slotB (s : Option (Nat × A)) (dst : Option Tmp) : Bool :=
  match s, dst with
  | none, _ => true
  | some (d, _), some d' => Nat.beq d d'
  | some _, none => false

/-- The objects of operation k in a region: older ones, its own new ones, or those of operations that are surely ahead. -/
def idsB (l : List Oper) (N n0 k nid : Nat) : List (Nat × Ob) → Bool
  | [] => true
  | (i, _) :: r => (Nat.blt i n0 || (Nat.ble nid i || reach l N k ((i - n0) / 4)) && Nat.blt i (nid + 4)) && idsB l N n0 k nid r
theorem idsB_eq (l : List Oper) (N n0 k nid : Nat) : ∀ r : List (Nat × Ob), idsB l N n0 k nid r = r.all fun p => Nat.blt p.1 n0 || (Nat.ble nid p.1 || reach l N k ((p.1 - n0) / 4)) && Nat.blt p.1 (nid + 4)
  | [] => rfl
  | (j, x) :: r => by rw [idsB, List.all_cons, idsB_eq l N n0 k nid r]

/-- The numbers in an effect, forced. -/
def fK : List (Nat × Ob) → (List (Nat × Ob) → Prop) → Prop
  | [], K => K []
  | (i, x) :: r, K => fN i fun i => fK r fun r => K ((i, x) :: r)
def fR : List Nat → (List Nat → Prop) → Prop
  | [], K => K []
  | i :: r, K => fN i fun i => fR r fun r => K (i :: r)
def fE (e : Eff) (K : Eff → Prop) : Prop :=
  match e with
  | ⟨slot, obs, rd, new, frz, clr⟩ => fK obs fun obs => fR rd fun rd => K ⟨slot, obs, rd, new, frz, clr⟩
theorem fK_eq : ∀ (l : List (Nat × Ob)) (K : List (Nat × Ob) → Prop), fK l K = K l
  | [], _ => rfl
  | (i, x) :: r, K => by rw [fK, fN_eq, fK_eq r]
theorem fR_eq : ∀ (l : List Nat) (K : List Nat → Prop), fR l K = K l
  | [], _ => rfl
  | i :: r, K => by rw [fR, fN_eq, fR_eq r]
theorem fE_eq (e : Eff) (K : Eff → Prop) : fE e K = K e := by obtain ⟨a, b, c, d, f, g⟩ := e; simp only [fE, fK_eq, fR_eq]

abbrev DrawT := Nat → St → List (Nat × List Nat × List Nat) → (St → Prop) → Prop
def evDrawN (l : List Oper) (N n0 : Nat) : DrawT := fun _ s acc K => bif memB l N acc then (match s with | ⟨sl, ob, _⟩ => fN (n0 + N * 4) fun n => K ⟨sl, ob, n⟩) else False
def evDrawM (tb : TB) (S : Sums) (l : List Oper) (N n0 : Nat) (x : Oper) (_r : List Oper) (ih : DrawT) : DrawT := fun k s acc K =>
  fN (n0 + k * 4) fun nid => fN (k + 1) fun k1 => evStep tb S l x s.get s.obj nid fun e => fE e fun e =>
      bif e.frz.isEmpty && e.clr.isEmpty && slotB e.slot x.dst && idsB l N n0 k nid e.obs then
        s.app e fun s => fS s fun s => ih k1 s (bif e.obs.isEmpty && e.rd.isEmpty then acc else (k, keysO e.obs, e.rd) :: acc) K
      else False
noncomputable def evDraw (tb : TB) (S : Sums) (l : List Oper) (N n0 : Nat) (k : Nat) (ops : List Oper) (s : St) (acc : List (Nat × List Nat × List Nat)) (K : St → Prop) : Prop :=
  List.rec (motive := fun _ => DrawT) (evDrawN l N n0) (evDrawM tb S l N n0) ops k s acc K
theorem evDraw_nil {tb : TB} {S : Sums} {l : List Oper} {N n0 k : Nat} {s : St} {acc : List (Nat × List Nat × List Nat)} {K : St → Prop} : evDraw tb S l N n0 k [] s acc K =
    bif memB l N acc then (match s with | ⟨sl, ob, _⟩ => fN (n0 + N * 4) fun n => K ⟨sl, ob, n⟩) else False := rfl
theorem evDraw_cons {tb : TB} {S : Sums} {l : List Oper} {N n0 k : Nat} {x : Oper} {r : List Oper} {s : St} {acc : List (Nat × List Nat × List Nat)} {K : St → Prop} : evDraw tb S l N n0 k (x :: r) s acc K =
    fN (n0 + k * 4) fun nid => fN (k + 1) fun k1 => evStep tb S l x s.get s.obj nid fun e => fE e fun e =>
      bif e.frz.isEmpty && e.clr.isEmpty && slotB e.slot x.dst && idsB l N n0 k nid e.obs then
        s.app e fun s => fS s fun s => evDraw tb S l N n0 k1 r s (bif e.obs.isEmpty && e.rd.isEmpty then acc else (k, keysO e.obs, e.rd) :: acc) K
      else False := rfl

/-! ### effects of a set of operations, in the text's order -/

def foldG (p : Nat → Bool) : Nat → List Eff → (Nat → A) → (Nat → A)
  | _, [], g => g
  | k, e :: es, g => foldG p (k + 1) es (bif p k then appG e g else g)
def foldO (p : Nat → Bool) : Nat → List Eff → (Nat → Option Ob) → (Nat → Option Ob)
  | _, [], o => o
  | k, e :: es, o => foldO p (k + 1) es (bif p k then appO e o else o)

structure Plain (e : Eff) : Prop where
  frz : e.frz = []
  clr : e.clr = []

theorem appG_at {e : Eff} (h : Plain e) {g : Nat → A} {t : Nat} (ht : ∀ d x, e.slot = some (d, x) → d ≠ t) : appG e g t = g t := by
  unfold appG
  rw [trA_id h.frz h.clr]
  cases hs : e.slot with
  | none => rfl
  | some p => obtain ⟨d, x⟩ := p; simp [beq_ne (ht d x hs)]

theorem lookO_none_of {ob : List (Nat × Ob)} {i : Nat} (h : ∀ p ∈ ob, p.1 ≠ i) : lookO ob i = none := by
  induction ob with
  | nil => rfl
  | cons q ob ih =>
    obtain ⟨j, x⟩ := q
    rw [lookO, beq_ne (h (j, x) (by simp)), cond_false]
    exact ih fun p hp => h p (by simp [hp])

theorem appO_at {e : Eff} (h : Plain e) {o : Nat → Option Ob} {i : Nat} (hi : ∀ p ∈ e.obs, p.1 ≠ i) : appO e o i = o i := by
  unfold appO
  rw [lookO_none_of hi]
  unfold trO
  rw [h.frz, h.clr]
  simp

theorem foldG_congr {p q : Nat → Bool} {t : Nat} : ∀ (es : List Eff) (k : Nat) (g g' : Nat → A), (∀ e ∈ es, Plain e) → g t = g' t →
    (∀ i e, es[i]? = some e → p (k + i) ≠ q (k + i) → ∀ d x, e.slot = some (d, x) → d ≠ t) → foldG p k es g t = foldG q k es g' t
  | [], _, _, _, _, h, _ => h
  | e :: es, k, g, g', hp, h, hd => by
    simp only [foldG]
    refine foldG_congr es (k + 1) _ _ (fun x hx => hp x (by simp [hx])) ?_ (fun i x hx hne => hd (i + 1) x (by simpa using hx) (by rwa [show k + (i + 1) = k + 1 + i by omega]))
    have h0 := hd 0 e rfl
    simp only [Nat.add_zero] at h0
    cases h1 : p k <;> cases h2 : q k <;> simp only [cond_true, cond_false]
    · exact h
    · rw [appG_at (hp e (by simp)) (h0 (by simp [h1, h2]))]; exact h
    · rw [appG_at (hp e (by simp)) (h0 (by simp [h1, h2]))]; exact h
    · unfold appG; rw [trA_id (hp e (by simp)).frz (hp e (by simp)).clr]
      cases e.slot with
      | none => exact h
      | some q => simp only [id, h]

theorem foldO_congr {p q : Nat → Bool} {t : Nat} : ∀ (es : List Eff) (k : Nat) (g g' : Nat → Option Ob), (∀ e ∈ es, Plain e) → g t = g' t →
    (∀ i e, es[i]? = some e → p (k + i) ≠ q (k + i) → ∀ x ∈ e.obs, x.1 ≠ t) → foldO p k es g t = foldO q k es g' t
  | [], _, _, _, _, h, _ => h
  | e :: es, k, g, g', hp, h, hd => by
    simp only [foldO]
    refine foldO_congr es (k + 1) _ _ (fun x hx => hp x (by simp [hx])) ?_ (fun i x hx hne => hd (i + 1) x (by simpa using hx) (by rwa [show k + (i + 1) = k + 1 + i by omega]))
    have h0 := hd 0 e rfl
    simp only [Nat.add_zero] at h0
    cases h1 : p k <;> cases h2 : q k <;> simp only [cond_true, cond_false]
    · exact h
    · rw [appO_at (hp e (by simp)) (h0 (by simp [h1, h2]))]; exact h
    · rw [appO_at (hp e (by simp)) (h0 (by simp [h1, h2]))]; exact h
    · unfold appO; unfold trO; rw [(hp e (by simp)).frz, (hp e (by simp)).clr, h]

theorem appG_comm {e e' : Eff} (h : Plain e) (h' : Plain e') (hd : ∀ d x d' x', e.slot = some (d, x) → e'.slot = some (d', x') → d ≠ d') (g : Nat → A) : appG e (appG e' g) = appG e' (appG e g) := by
  funext t
  unfold appG
  rw [trA_id h.frz h.clr, trA_id h'.frz h'.clr]
  cases hs : e.slot with
  | none => rfl
  | some p =>
    cases hs' : e'.slot with
    | none => rfl
    | some p' =>
      obtain ⟨d, x⟩ := p; obtain ⟨d', x'⟩ := p'
      have := hd d x d' x' hs hs'
      simp only [id]
      cases h1 : Nat.beq d t <;> cases h2 : Nat.beq d' t <;> first | rfl | exact absurd ((Nat.eq_of_beq_eq_true h1).trans (Nat.eq_of_beq_eq_true h2).symm) this

theorem appO_comm {e e' : Eff} (h : Plain e) (h' : Plain e') (hd : ∀ p ∈ e.obs, ∀ p' ∈ e'.obs, p.1 ≠ p'.1) (o : Nat → Option Ob) : appO e (appO e' o) = appO e' (appO e o) := by
  funext t
  by_cases h1 : ∃ p ∈ e.obs, p.1 = t
  · obtain ⟨p, hp, rfl⟩ := h1
    rw [appO_at h' (fun q hq => fun e1 => hd p hp q hq e1.symm)]
    have hz : ∃ z, lookO e.obs p.1 = some z := by
      revert hp
      induction e.obs with
      | nil => intro hp; cases hp
      | cons q ob ih =>
        intro hp
        rw [lookO]
        cases hq : Nat.beq q.1 p.1 with
        | true => exact ⟨_, rfl⟩
        | false =>
          rcases List.mem_cons.1 hp with rfl | hp
          · simp at hq
          · exact ih hp
    obtain ⟨z, hz⟩ := hz
    simp only [appO, hz]
  · rw [appO_at h (fun p hp e1 => h1 ⟨p, hp, e1⟩)]
    unfold appO
    cases lookO e'.obs t with
    | some z => rfl
    | none =>
      simp only
      rw [show lookO e.obs t = none from lookO_none_of (fun p hp e1 => h1 ⟨p, hp, e1⟩)]
      unfold trO
      rw [h.frz, h.clr]
      simp

theorem foldG_push {p : Nat → Bool} {e : Eff} (h : Plain e) : ∀ (es : List Eff) (k : Nat) (g : Nat → A), (∀ e ∈ es, Plain e) →
    (∀ i e', es[i]? = some e' → p (k + i) = true → ∀ d x d' x', e.slot = some (d, x) → e'.slot = some (d', x') → d ≠ d') → foldG p k es (appG e g) = appG e (foldG p k es g)
  | [], _, _, _, _ => rfl
  | e' :: es, k, g, hp, hd => by
    simp only [foldG]
    have h0 := hd 0 e' rfl
    simp only [Nat.add_zero] at h0
    have ih := fun g => foldG_push h es (k + 1) g (fun x hx => hp x (by simp [hx])) (fun i x hx hne => hd (i + 1) x (by simpa using hx) (by rwa [show k + (i + 1) = k + 1 + i by omega]))
    cases h1 : p k with
    | false => exact ih g
    | true =>
      simp only [cond_true]
      rw [appG_comm (hp e' (by simp)) h (fun d x d' x' a b => (h0 h1 d' x' d x b a).symm), ih]

theorem foldO_push {p : Nat → Bool} {e : Eff} (h : Plain e) : ∀ (es : List Eff) (k : Nat) (g : Nat → Option Ob), (∀ e ∈ es, Plain e) →
    (∀ i e', es[i]? = some e' → p (k + i) = true → ∀ x ∈ e.obs, ∀ x' ∈ e'.obs, x.1 ≠ x'.1) → foldO p k es (appO e g) = appO e (foldO p k es g)
  | [], _, _, _, _ => rfl
  | e' :: es, k, g, hp, hd => by
    simp only [foldO]
    have h0 := hd 0 e' rfl
    simp only [Nat.add_zero] at h0
    have ih := fun g => foldO_push h es (k + 1) g (fun x hx => hp x (by simp [hx])) (fun i x hx hne => hd (i + 1) x (by simpa using hx) (by rwa [show k + (i + 1) = k + 1 + i by omega]))
    cases h1 : p k with
    | false => exact ih g
    | true =>
      simp only [cond_true]
      rw [appO_comm (hp e' (by simp)) h (fun a ha b hb => (h0 h1 b hb a ha).symm), ih]

/-- One more operation of the set. -/
theorem foldG_add {p p' : Nat → Bool} : ∀ (es : List Eff) (k j : Nat) (e : Eff) (g : Nat → A), (∀ e ∈ es, Plain e) → es[j]? = some e → p (k + j) = false → p' (k + j) = true → (∀ i, i ≠ k + j → p' i = p i) →
    (∀ i e', es[i]? = some e' → j < i → p (k + i) = true → ∀ d x d' x', e.slot = some (d, x) → e'.slot = some (d', x') → d ≠ d') → foldG p' k es g = appG e (foldG p k es g)
  | [], _, j, _, _, _, h, _, _, _, _ => by simp at h
  | e0 :: es, k, j, e, g, hp, he, hf, ht, hoth, hd => by
    cases j with
    | zero =>
      simp only [List.getElem?_cons_zero, Option.some.injEq] at he
      subst he
      simp only [Nat.add_zero] at hf ht hoth
      simp only [foldG, hf, ht, cond_true, cond_false]
      rw [← foldG_push (hp e0 (by simp)) es (k + 1) g (fun x hx => hp x (by simp [hx])) (fun i x hx hpi => hd (i + 1) x (by simpa using hx) (by omega) (by rwa [show k + (i + 1) = k + 1 + i by omega]))]
      have : ∀ (es : List Eff) (k0 : Nat) (g : Nat → A), k < k0 → foldG p' k0 es g = foldG p k0 es g := by
        intro es
        induction es with
        | nil => intros; rfl
        | cons x es ih => intro k0 g hk; simp only [foldG]; rw [hoth k0 (by omega), ih (k0 + 1) _ (by omega)]
      exact this es (k + 1) _ (by omega)
    | succ j =>
      simp only [foldG]
      rw [hoth k (by omega)]
      exact foldG_add es (k + 1) j e _ (fun x hx => hp x (by simp [hx])) (by simpa using he) (by rwa [show k + 1 + j = k + (j + 1) by omega]) (by rwa [show k + 1 + j = k + (j + 1) by omega])
        (fun i hi => hoth i (by omega)) (fun i x hx hji hpi => hd (i + 1) x (by simpa using hx) (by omega) (by rwa [show k + (i + 1) = k + 1 + i by omega]))

theorem foldO_add {p p' : Nat → Bool} : ∀ (es : List Eff) (k j : Nat) (e : Eff) (g : Nat → Option Ob), (∀ e ∈ es, Plain e) → es[j]? = some e → p (k + j) = false → p' (k + j) = true → (∀ i, i ≠ k + j → p' i = p i) →
    (∀ i e', es[i]? = some e' → j < i → p (k + i) = true → ∀ x ∈ e.obs, ∀ x' ∈ e'.obs, x.1 ≠ x'.1) → foldO p' k es g = appO e (foldO p k es g)
  | [], _, j, _, _, _, h, _, _, _, _ => by simp at h
  | e0 :: es, k, j, e, g, hp, he, hf, ht, hoth, hd => by
    cases j with
    | zero =>
      simp only [List.getElem?_cons_zero, Option.some.injEq] at he
      subst he
      simp only [Nat.add_zero] at hf ht hoth
      simp only [foldO, hf, ht, cond_true, cond_false]
      rw [← foldO_push (hp e0 (by simp)) es (k + 1) g (fun x hx => hp x (by simp [hx])) (fun i x hx hpi => hd (i + 1) x (by simpa using hx) (by omega) (by rwa [show k + (i + 1) = k + 1 + i by omega]))]
      have : ∀ (es : List Eff) (k0 : Nat) (g : Nat → Option Ob), k < k0 → foldO p' k0 es g = foldO p k0 es g := by
        intro es
        induction es with
        | nil => intros; rfl
        | cons x es ih => intro k0 g hk; simp only [foldO]; rw [hoth k0 (by omega), ih (k0 + 1) _ (by omega)]
      exact this es (k + 1) _ (by omega)
    | succ j =>
      simp only [foldO]
      rw [hoth k (by omega)]
      exact foldO_add es (k + 1) j e _ (fun x hx => hp x (by simp [hx])) (by simpa using he) (by rwa [show k + 1 + j = k + (j + 1) by omega]) (by rwa [show k + 1 + j = k + (j + 1) by omega])
        (fun i hi => hoth i (by omega)) (fun i x hx hji hpi => hd (i + 1) x (by simpa using hx) (by omega) (by rwa [show k + (i + 1) = k + 1 + i by omega]))

/-! ### the text's order -/

/-- What the reckoning in the text's order says of each operation. -/
structure Row (tb : TB) (S : Sums) (l : List Oper) (n0 : Nat) (es : List Eff) (g : Nat → A) (o : Nat → Option Ob) (j : Nat) (x : Oper) (e : Eff) : Prop where
  step : evStep tb S l x (foldG (fun i => Nat.blt i j) 0 es g) (foldO (fun i => Nat.blt i j) 0 es o) (n0 + j * 4) (fun e' => e' = e)
  plain : Plain e
  slot : ∀ d y, e.slot = some (d, y) → x.dst = some d
  ids : ∀ p ∈ e.obs, p.1 < n0 ∨ (n0 + j * 4 ≤ p.1 ∨ reach l l.length j ((p.1 - n0) / 4) = true) ∧ p.1 < n0 + j * 4 + 4

end Go.Ev
